/- FsQuota returns true for every input and leaves its arguments as they were; no condition beside the row's own (the two tables of unicode/utf8 hold what the program's text lays). -/
import Derived.Test.YtlpcehbfoogejaaGreatDoorQaay
/- FsQuota: no more is held than may be, and what is refused changes nothing: for every input. -/
set_option maxRecDepth 100000
namespace Go.Proofs.YtlpcehbfoogejaaGreatDoor.fsQuota
open Go Go.HL Go.Wk Go.ChangeShapes Go.WideShapes Go.ChangeAt Go.RowKit
theorem u8_range {n : Int} (h : (Lit.int .u8 n).wf = true) : 0 ≤ n ∧ n < 256 := by
  have h1 : (decide (IntKind.u8.min ≤ n) && decide (n ≤ IntKind.u8.max)) = true := h
  have e1 : IntKind.u8.min = 0 := by decide
  have e2 : IntKind.u8.max = 255 := by decide
  rw [e1, e2] at h1
  simp only [Bool.and_eq_true, decide_eq_true_eq] at h1
  omega
theorem cs_uint8 : Tryz.prog.cellsOf 5 = 1 := by kernel_rfl
theorem cs_string : Tryz.prog.cellsOf 9 = 1 := by kernel_rfl
theorem cs_int : Tryz.prog.cellsOf 3 = 1 := by kernel_rfl
theorem cs_bool : Tryz.prog.cellsOf 4 = 1 := by kernel_rfl
theorem act_of {D : Type} {enc : TypeId × Value → D} {W : World} {m : Nat} {r : List Value} {x : DataW D × List MemPlace} (h : DataW.trod enc Tryz.prog W 0 (fun _ => true) true m 40 r = some x) : ∃ a : Act, r = a.cells := by
  obtain ⟨xs, n, _, _, hl, hlen, hf⟩ := DataW.trod_struct Tryz.underlying40 h
  have hl : r.length = 6 := hl.trans (by kernel_rfl)
  have hlen : xs.length = 6 := hlen
  obtain ⟨a0, a1, a2, a3, a4, a5, rfl⟩ : ∃ a0 a1 a2 a3 a4 a5, r = [a0, a1, a2, a3, a4, a5] := by
    match r, hl with
    | [a0, a1, a2, a3, a4, a5], _ => exact ⟨_, _, _, _, _, _, rfl⟩
  have g : ∀ i, i < 6 → ∃ y, xs[i]? = some y := fun i hi => ⟨_, List.getElem?_eq_getElem (by omega)⟩
  have h0 := hf 0 _ rfl
  obtain ⟨y0, e0⟩ := g 0 (by decide)
  rw [e0] at h0
  obtain ⟨n0, q0, _⟩ := DataW.trod_int (k := .u8) Tryz.underlying5 h0
  have h1 := hf 1 _ rfl
  obtain ⟨y1, e1⟩ := g 1 (by decide)
  rw [e1] at h1
  obtain ⟨s1, q1, _⟩ := DataW.trod_string Tryz.underlying9 h1
  have h2 := hf 2 _ rfl
  obtain ⟨y2, e2⟩ := g 2 (by decide)
  rw [e2] at h2
  obtain ⟨s2, q2, _⟩ := DataW.trod_string Tryz.underlying9 h2
  have h3 := hf 3 _ rfl
  obtain ⟨y3, e3⟩ := g 3 (by decide)
  rw [e3] at h3
  obtain ⟨s3, q3, _⟩ := DataW.trod_string Tryz.underlying9 h3
  have h4 := hf 4 _ rfl
  obtain ⟨y4, e4⟩ := g 4 (by decide)
  rw [e4] at h4
  obtain ⟨n4, q4, _⟩ := DataW.trod_int (k := .i64) Tryz.underlying3 h4
  have h5 := hf 5 _ rfl
  obtain ⟨y5, e5⟩ := g 5 (by decide)
  rw [e5] at h5
  obtain ⟨b5, q5, _⟩ := DataW.trod_bool Tryz.underlying4 h5
  have q0 : List.take (Tryz.prog.cellsOf 5) (List.drop 0 [a0, a1, a2, a3, a4, a5]) = [.int .u8 n0] := q0
  have q1 : List.take (Tryz.prog.cellsOf 9) (List.drop 1 [a0, a1, a2, a3, a4, a5]) = [.string s1] := q1
  have q2 : List.take (Tryz.prog.cellsOf 9) (List.drop 2 [a0, a1, a2, a3, a4, a5]) = [.string s2] := q2
  have q3 : List.take (Tryz.prog.cellsOf 9) (List.drop 3 [a0, a1, a2, a3, a4, a5]) = [.string s3] := q3
  have q4 : List.take (Tryz.prog.cellsOf 3) (List.drop 4 [a0, a1, a2, a3, a4, a5]) = [.int .i64 n4] := q4
  have q5 : List.take (Tryz.prog.cellsOf 4) (List.drop 5 [a0, a1, a2, a3, a4, a5]) = [.bool b5] := q5
  rw [cs_uint8] at q0
  rw [cs_string] at q1 q2 q3
  rw [cs_int] at q4
  rw [cs_bool] at q5
  simp only [List.drop_succ_cons, List.drop_zero, List.take_succ_cons, List.take_zero, List.cons.injEq, and_true] at q0 q1 q2 q3 q4 q5
  exact ⟨⟨n0, s1, s2, s3, n4, b5⟩, by rw [q0, q1, q2, q3, q4, q5]; rfl⟩
theorem contract (D : Type) (enc : TypeId × Value → D) (W : World) (base : Nat) (args : Array Value) (ds gs : List (DataW D)) (before : List MemPlace)
    (hval : ∀ (j : Nat) t v, Tryz.f4.params[j]? = some t → args[j]? = some v → Value.okWide Tryz.prog W .any base t v)
    (hW : DataW.Whole enc Tryz.prog Tryz.f4.params.toList Rows.fsQuotaSpec.vars false W args.toList ds gs before) :
    Calls Tryz.prog 4 args W fun e W' => ∃ v, e = .returned v ∧ Rows.fsQuotaSpec.post enc Tryz.prog Tryz.f4 false true false false W args v W' := by
  have hW' := hW
  obtain ⟨p, q, hA0, hV, rfl, hfz, hnd⟩ := hW
  have hA : DataW.TrodAll enc Tryz.prog W 0 (fun _ => true) true Tryz.f4.params.toList args.toList ds p := hA0
  rw [Tryz.params4] at hA hval
  obtain ⟨v0, vs0, d0, ds0, p0, q0, hargs, rfl, rfl, h0, r0⟩ := trodAll_cons hA
  obtain ⟨v1, vs1, d1, ds1, p1, q1, hvs0, rfl, rfl, h1, r1⟩ := trodAll_cons r0
  obtain ⟨v2, vs2, d2, ds2, p2, q2, hvs1, rfl, rfl, h2, r2⟩ := trodAll_cons r1
  obtain ⟨rfl, rfl, rfl⟩ := trodAll_nil r2
  subst hvs1; subst hvs0
  obtain rfl : args = #[v0, v1, v2] := by cases args; simp_all
  obtain ⟨rfl, rfl⟩ := trodVars_none hV
  obtain ⟨n0, rfl, rfl, rfl, w0⟩ := open_int Tryz.underlying5 (hval 0 _ v0 rfl rfl) h0
  obtain ⟨n1, rfl, rfl, rfl, w1⟩ := open_int Tryz.underlying5 (hval 1 _ v1 rfl rfl) h1
  obtain ⟨ba, len, cap, rfl⟩ := okWide_slice Tryz.underlying38 (hval 2 _ v2 rfl rfl)
  obtain ⟨fuel, hf⟩ := h2
  obtain ⟨y, rows, hy, hrows, hlen, m, hall⟩ := rows_of Tryz.underlying38 (show Tryz.prog.cellsOf 40 = 6 by kernel_rfl) (by decide) hf
  have hacts : ∃ acts : List Act, rows = acts.map Act.cells := by
    clear hrows
    induction rows with
    | nil => exact ⟨[], rfl⟩
    | cons r rs ih =>
      obtain ⟨acts, ha⟩ := ih fun r hr => hall r (List.mem_cons_of_mem _ hr)
      obtain ⟨d, ps, hd⟩ := hall r (List.mem_cons_self ..)
      obtain ⟨a, ha'⟩ := act_of hd
      exact ⟨a :: acts, by rw [ha, ha']; rfl⟩
  obtain ⟨acts, rfl⟩ := hacts
  have hwalk := calls_of (W := W) (s_FsQuota (σ := whole W) n0 n1 y acts hrows (u8_range w0) (u8_range w1) (K := fun u σ' => u = .bool true ∧ Gr (whole W) σ') (fun σ' hg => ⟨rfl, hg⟩))
  rw [← hy] at hwalk
  refine hwalk.mono fun e W' ⟨he, hb⟩ => ?_
  subst he
  refine ⟨_, rfl, law_post hW' rfl rfl laidOut ?_ rfl Tryz.underlying4 hb⟩
  rw [Tryz.params4]
  intro t ht
  simp only [List.mem_cons, List.mem_nil_iff, or_false] at ht
  rcases ht with rfl | rfl | rfl <;> exact ⟨by kernel_rfl, of_decide_eq_true (by kernel_rfl)⟩
def wargs : Array Value := #[.int .u8 0, .int .u8 0, .slice none 0 0]
theorem laid_met (os : Os) : laidMet Tryz.prog Rows.fsQuotaRow.laid ((laidWorld os).forCall (fun _ _ => 0) ⟨#[], wargs, []⟩).memory :=
  laidMet_of_run' 8 (by kernel_rfl) (by kernel_rfl)
theorem reads (os : Os) {D : Type} (enc : TypeId × Value → D) : ∃ places, DataW.whole enc Tryz.prog ((laidWorld os).forCall (fun _ _ => 0) ⟨#[], wargs, []⟩).memory Tryz.f4.params.toList Rows.fsQuotaSpec.vars false wargs.toList 8 = some ([.lit (.int .u8 0), .lit (.int .u8 0), .nil], [], places) :=
  ⟨[], by kernel_rfl⟩
theorem lifted (os : Os) (started : os.Started) (D : Type) (enc : TypeId × Value → D) (F : Stop.Interp) :
    ReturnsInHanded {} Tryz.checked os 4 .any ((OpenSpec.ofChange Rows.fsQuotaSpec).preRow enc Tryz.prog Tryz.f4 Rows.fsQuotaRow.domain false Rows.fsQuotaRow.laid) (((OpenSpec.ofChange Rows.fsQuotaSpec).at F).post enc Tryz.prog Tryz.f4 false true false false) := by
  obtain ⟨places, hx⟩ := reads os enc
  refine returnsInHanded_of_row (C := Tryz.checked) (s := OpenSpec.ofChange Rows.fsQuotaSpec) own started (by kernel_rfl) Tryz.func4
    (witness_row_at (enc := enc) (C := Tryz.checked) false (laidWorld os) wargs rfl (by kernel_rfl) (by kernel_rfl) (by kernel_rfl)
      (OpenSpec.preRow_of_cond 8 hx (by kernel_rfl) (fun k hk => by cases hk) (by kernel_rfl) (laid_met os))) ?_
  intro W base args ds gs before hval hW _ _ _ _ _ _
  exact contract D enc W base args ds gs before hval hW
theorem said : Rows.FsQuotaSaid :=
  OpenClaim.holds_of_cond 4 Tryz.f4 rfl rfl rfl rfl rfl rfl rfl ⟨rfl, rfl, rfl, rfl, rfl⟩ rfl rfl rfl rfl rfl (by kernel_rfl) Tryz.func4 (by kernel_rfl)
    (of_decide_eq_true (by kernel_rfl)) (by unfold Func.isWrapper; first | (rw [if_pos (by decide +kernel)]; kernel_rfl) | (rw [if_neg (by decide +kernel)]; exact ⟨rfl, rfl⟩))
    (fun os started D enc _ F => by rw [OpenClaim.pre_eq_preRow]; exact lifted os started D enc F)
theorem plain (f : FuncId) (fn : Func) (hf : Tryz.pinned.checked.prog.funcNamed Rows.fsQuotaRow.func = some f) (hfn : Tryz.pinned.checked.prog.funcs[f]? = some fn) :
    false = Tryz.pinned.checked.prog.looks [] ∧ ∀ (j : Nat) t, fn.params[j]? = some t → Tryz.pinned.checked.prog.wantsStandIn t = false := by
  obtain rfl : f = 4 := Option.some.inj ((show Tryz.prog.funcNamed Rows.fsQuotaRow.func = some 4 by kernel_rfl).symm.trans hf) |>.symm
  obtain rfl : fn = Tryz.f4 := (Option.some.inj (Tryz.func4.symm.trans hfn)).symm
  refine ⟨by kernel_rfl, fun j t ht => ?_⟩
  rw [Tryz.params4] at ht
  have hm := Array.mem_of_getElem? ht
  simp only [List.mem_toArray, List.mem_cons, List.mem_nil_iff, or_false] at hm
  rcases hm with rfl | rfl | rfl
  · exact (show Tryz.prog.wantsStandIn 5 = false by kernel_rfl)
  · exact (show Tryz.prog.wantsStandIn 5 = false by kernel_rfl)
  · exact (show Tryz.prog.wantsStandIn 38 = false by kernel_rfl)
end Go.Proofs.YtlpcehbfoogejaaGreatDoor.fsQuota
namespace Go.Proofs.YtlpcehbfoogejaaGreatDoor
/-- THE CARD -/
theorem fsQuota_holds : Rows.FsQuotaCardSaid :=
  Claim7.holds_tied_plain_at .later [] _ _ _ _ fsQuota.said (fun _ h => by cases h) (by kernel_rfl) (fun _ h => by cases h) fsQuota_row_tie rfl ⟨rfl, rfl⟩ (by kernel_rfl) rfl fsQuota.plain (by kernel_rfl)
end Go.Proofs.YtlpcehbfoogejaaGreatDoor

