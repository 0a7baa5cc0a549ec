/- LookLives holds. -/
import Derived.Test.YtgfiobhpipollaaGreatDoorMbc
set_option maxRecDepth 100000
namespace Go.Proofs.YtgfiobhpipollaaGreatDoor
open Go Go.HL Go.Wk Go.ChangeShapes Go.WideShapes Go.ChangeAt Go.RowKit
namespace lookLives
theorem u8_range {n : Int} (h : (Lit.int .u8 n).wf = true) : (0 : Int) <= n /\ n <= 255 := by
 have h1 : (decide (IntKind.u8.min <= n) && decide (n <= IntKind.u8.max)) = true := h
 have e1 : IntKind.u8.min = 0 := by decide
 have e2 : IntKind.u8.max = 255 := by decide
 rw [e1, e2] at h1
 simp only [Bool.and_eq_true, decide_eq_true_eq] at h1
 exact h1
theorem contract (D : Type) (enc : TypeId × Value -> D) (W : World) (base : Nat) (args : Array Value) (ds gs : List (DataW D)) (before : List MemPlace)
 (hval : ∀ (j : Nat) t v, Tryz.f4.params[j]? = some t -> args[j]? = some v -> Value.okWide Tryz.prog W .any base t v)
 (hW : DataW.Whole enc Tryz.prog Tryz.f4.params.toList Rows.lookLivesSpec.vars false W args.toList ds gs before) :
 Calls Tryz.prog 4 args W fun e W' => ∃ v, e = .returned v /\ Rows.lookLivesSpec.post enc Tryz.prog Tryz.f4 false true false false W args v W' := by
 have hW' := hW
 obtain ⟨p, q, hA0, hV, rfl, hfz, hnd⟩ := hW
 have hA : DataW.TrodAll enc Tryz.prog W 0 (fun _ => true) true Tryz.f4.params.toList args.toList ds p := hA0
 rw [Tryz.params4] at hA hval
 obtain ⟨v0, vs0, d0, ds0, p0, q0, hargs, rfl, rfl, h0, r0⟩ := trodAll_cons hA
 obtain ⟨v1, vs1, d1, ds1, p1, q1, hvs0, rfl, rfl, h1, r1⟩ := trodAll_cons r0
 obtain ⟨v2, vs2, d2, ds2, p2, q2, hvs1, rfl, rfl, h2, r2⟩ := trodAll_cons r1
 obtain ⟨rfl, rfl, rfl⟩ := trodAll_nil r2
 subst hvs1
 subst hvs0
 obtain rfl : args = #[v0, v1, v2] := by cases args; simp_all
 obtain ⟨rfl, rfl⟩ := trodVars_none hV
 obtain ⟨fuel0, hf0⟩ := h0
 obtain ⟨S0, ya0, yb0, hu0, hst0⟩ := st30.state_of hf0
 obtain ⟨cs0, hcs0, _⟩ := okWide_struct Tryz.underlying25 (hval 0 _ v0 rfl rfl)
 have hv0 : v0 = stV ya0 yb0 := by
  subst hcs0
  have : cs0.toList = [.slice ya0.base ya0.len ya0.cap, .slice yb0.base yb0.len yb0.cap] := hu0
  unfold stV
  rw [<- this]
 subst hv0
 obtain ⟨ba1, len1, cap1, rfl⟩ := okWide_slice Tryz.underlying36 (hval 1 _ v1 rfl rfl)
 obtain ⟨fuel1, hf1⟩ := h1
 obtain ⟨y1, rows1, hy1, hrows1, hlen1, m1, hall1⟩ := rows_of Tryz.underlying36 (show Tryz.prog.cellsOf 5 = 1 by kernel_rfl) (by decide) hf1
 have hns1 : ∃ ns : List Int, rows1 = ns.map (fun n => [Value.int .u8 n]) /\ ∀ n ∈ ns, (0 : Int) <= n /\ n <= 255 := by
  clear hrows1 hlen1
  induction rows1 with
  | nil => exact ⟨[], rfl, fun _ h => by cases h⟩
  | cons r rs ih =>
   obtain ⟨ns, hns, hr⟩ := ih fun r hr => hall1 r (List.mem_cons_of_mem _ hr)
   obtain ⟨_, d, ps, hd⟩ := hall1 r (List.mem_cons_self ..)
   obtain ⟨n, q0, _, hw⟩ := DataW.trod_int (k := .u8) Tryz.underlying5 hd
   refine ⟨n :: ns, by rw [q0, hns]; rfl, fun z hz => ?_⟩
   rcases List.mem_cons.1 hz with e | e
   ·rw [e]; exact u8_range hw
   ·exact hr z e
 obtain ⟨ns1, rfl, hr1⟩ := hns1
 obtain ⟨ba2, len2, cap2, rfl⟩ := okWide_slice Tryz.underlying36 (hval 2 _ v2 rfl rfl)
 obtain ⟨fuel2, hf2⟩ := h2
 obtain ⟨y2, rows2, hy2, hrows2, hlen2, m2, hall2⟩ := rows_of Tryz.underlying36 (show Tryz.prog.cellsOf 5 = 1 by kernel_rfl) (by decide) hf2
 have hns2 : ∃ ns : List Int, rows2 = ns.map (fun n => [Value.int .u8 n]) /\ ∀ n ∈ ns, (0 : Int) <= n /\ n <= 255 := by
  clear hrows2 hlen2
  induction rows2 with
  | nil => exact ⟨[], rfl, fun _ h => by cases h⟩
  | cons r rs ih =>
   obtain ⟨ns, hns, hr⟩ := ih fun r hr => hall2 r (List.mem_cons_of_mem _ hr)
   obtain ⟨_, d, ps, hd⟩ := hall2 r (List.mem_cons_self ..)
   obtain ⟨n, q0, _, hw⟩ := DataW.trod_int (k := .u8) Tryz.underlying5 hd
   refine ⟨n :: ns, by rw [q0, hns]; rfl, fun z hz => ?_⟩
   rcases List.mem_cons.1 hz with e | e
   ·rw [e]; exact u8_range hw
   ·exact hr z e
 obtain ⟨ns2, rfl, hr2⟩ := hns2
 have hwalk := calls_of (W := W) (s_LookLives (σ := whole W) S0 ya0 yb0 hst0 y1 ns1 hrows1 hr1 y2 ns2 hrows2 hr2 (K := fun u σ' => u = .bool true /\ Gr (whole W) σ') (fun σ' hg => ⟨rfl, hg⟩))
 rw [<- hy1] at hwalk
 rw [<- hy2] at hwalk
 refine hwalk.mono fun e W' ⟨he, hb⟩ => ?_
 subst he
 refine ⟨_, rfl, law_post hW' rfl rfl laidOut ?_ rfl Tryz.underlying4 hb⟩
 rw [Tryz.params4]
 intro t ht
 simp only [List.mem_cons, List.mem_nil_iff, or_false] at ht
 rcases ht with rfl | rfl | rfl <;> exact ⟨by kernel_rfl, of_decide_eq_true (by kernel_rfl)⟩
def wargs : Array Value := #[.agg #[.slice none 0 0, .slice none 0 0], .slice none 0 0, .slice none 0 0]
theorem laid_met (os : Os) : laidMet Tryz.prog Rows.lookLivesRow.laid ((laidWorld os).forCall (fun _ _ => 0) ⟨#[], wargs, []⟩).memory :=
 laidMet_of_run' 8 (by kernel_rfl) (by kernel_rfl)
theorem reads (os : Os) {D : Type} (enc : TypeId × Value -> D) : ∃ places, DataW.whole enc Tryz.prog ((laidWorld os).forCall (fun _ _ => 0) ⟨#[], wargs, []⟩).memory Tryz.f4.params.toList Rows.lookLivesSpec.vars false wargs.toList 8 = some ([.agg [.nil, .nil], .nil, .nil], [], places) :=
 ⟨[], by kernel_rfl⟩
theorem lifted (os : Os) (started : os.Started) (D : Type) (enc : TypeId × Value -> D) (F : Stop.Interp) :
 ReturnsInHanded {} Tryz.checked os 4 .any ((OpenSpec.ofChange Rows.lookLivesSpec).preRow enc Tryz.prog Tryz.f4 Rows.lookLivesRow.domain false Rows.lookLivesRow.laid) (((OpenSpec.ofChange Rows.lookLivesSpec).at F).post enc Tryz.prog Tryz.f4 false true false false) := by
 obtain ⟨places, hx⟩ := reads os enc
 refine returnsInHanded_of_row (C := Tryz.checked) (s := OpenSpec.ofChange Rows.lookLivesSpec) own started (by kernel_rfl) Tryz.func4
  (witness_row_at (enc := enc) (C := Tryz.checked) false (laidWorld os) wargs rfl (by kernel_rfl) (by kernel_rfl) (by kernel_rfl)
   (OpenSpec.preRow_of_cond 8 hx (by kernel_rfl) (fun k hk => by cases hk) (by kernel_rfl) (laid_met os))) ?_
 intro W base args ds gs before hval hW _ _ _ _ _ _
 exact contract D enc W base args ds gs before hval hW
theorem said : Rows.LookLivesSaid :=
 OpenClaim.holds_of_cond 4 Tryz.f4 rfl rfl rfl rfl rfl rfl rfl ⟨rfl, rfl, rfl, rfl, rfl⟩ rfl rfl rfl rfl rfl (by kernel_rfl) Tryz.func4 (by kernel_rfl)
  (of_decide_eq_true (by kernel_rfl)) (by unfold Func.isWrapper; first | (rw [if_pos (by decide +kernel)]; kernel_rfl) | (rw [if_neg (by decide +kernel)]; exact ⟨rfl, rfl⟩))
  (fun os started D enc _ F => by rw [OpenClaim.pre_eq_preRow]; exact lifted os started D enc F)
theorem plain (f : FuncId) (fn : Func) (hf : Tryz.pinned.checked.prog.funcNamed Rows.lookLivesRow.func = some f) (hfn : Tryz.pinned.checked.prog.funcs[f]? = some fn) :
 true = Tryz.pinned.checked.prog.looks [] /\ ∀ (j : Nat) t, fn.params[j]? = some t -> Tryz.pinned.checked.prog.wantsStandIn t = false := by
 obtain rfl : f = 4 := Option.some.inj ((show Tryz.prog.funcNamed Rows.lookLivesRow.func = some 4 by kernel_rfl).symm.trans hf) |>.symm
 obtain rfl : fn = Tryz.f4 := (Option.some.inj (Tryz.func4.symm.trans hfn)).symm
 refine ⟨by kernel_rfl, fun j t ht => ?_⟩
 rw [Tryz.params4] at ht
 have hm := Array.mem_of_getElem? ht
 simp only [List.mem_toArray, List.mem_cons, List.mem_nil_iff, or_false] at hm
 rcases hm with rfl | rfl | rfl
 ·exact (show Tryz.prog.wantsStandIn 25 = false by kernel_rfl)
 ·exact (show Tryz.prog.wantsStandIn 36 = false by kernel_rfl)
 ·exact (show Tryz.prog.wantsStandIn 36 = false by kernel_rfl)
end lookLives
theorem lookLives_holds : Rows.LookLivesCardSaid :=
 Claim7.holds_tied_plain_at .later [] _ _ _ _ lookLives.said (fun _ h => by cases h) (by kernel_rfl) (fun _ h => by cases h) lookLives_row_tie rfl ⟨rfl, rfl⟩ (by kernel_rfl) rfl lookLives.plain (by kernel_rfl)
end Go.Proofs.YtgfiobhpipollaaGreatDoor

