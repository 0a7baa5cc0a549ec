/- TextSorts holds. -/
import Derived.Test.YtpfkfphjigcdeaaGreatDoorVbf
set_option maxRecDepth 100000
namespace Go.Proofs.YtpfkfphjigcdeaaGreatDoor
open Go Go.HL Go.Wk Go.ChangeShapes Go.WideShapes Go.ChangeAt Go.RowKit
namespace textSorts
theorem u8_range {n : Int} (h : (Lit.int .u8 n).wf = true) : (0 : Int) <= n /\ n <= 255 := by
 have h1 : (decide (IntKind.u8.min <= n) && decide (n <= IntKind.u8.max)) = true := h
 have e1 : IntKind.u8.min = 0 := by decide
 have e2 : IntKind.u8.max = 255 := by decide
 rw [e1, e2] at h1
 simp only [Bool.and_eq_true, decide_eq_true_eq] at h1
 exact h1
theorem contract (D : Type) (enc : TypeId × Value -> D) (W : World) (base : Nat) (args : Array Value) (ds gs : List (DataW D)) (before : List MemPlace)
 (hval : ∀ (j : Nat) t v, Tryz.f3.params[j]? = some t -> args[j]? = some v -> Value.okWide Tryz.prog W .any base t v)
 (hW : DataW.Whole enc Tryz.prog Tryz.f3.params.toList Rows.textSortsSpec.vars false W args.toList ds gs before) (hL : laidMet Tryz.prog Rows.textSortsRow.laid W) :
 Calls Tryz.prog 3 args W fun e W' => ∃ v, e = .returned v /\ Rows.textSortsSpec.post enc Tryz.prog Tryz.f3 false true false false W args v W' := by
 have hW' := hW
 obtain ⟨p, q, hA0, hV, rfl, hfz, hnd⟩ := hW
 have hA : DataW.TrodAll enc Tryz.prog W 0 (fun _ => true) true Tryz.f3.params.toList args.toList ds p := hA0
 rw [Tryz.params3] at hA hval
 obtain ⟨v0, vs0, d0, ds0, p0, q0, hargs, rfl, rfl, h0, r0⟩ := trodAll_cons hA
 obtain ⟨v1, vs1, d1, ds1, p1, q1, hvs0, rfl, rfl, h1, r1⟩ := trodAll_cons r0
 obtain ⟨rfl, rfl, rfl⟩ := trodAll_nil r1
 subst hvs0
 obtain rfl : args = #[v0, v1] := by cases args; simp_all
 obtain ⟨rfl, rfl⟩ := trodVars_none hV
 obtain ⟨ba0, len0, cap0, rfl⟩ := okWide_slice Tryz.underlying22 (hval 0 _ v0 rfl rfl)
 obtain ⟨fuel0, hf0⟩ := h0
 obtain ⟨y0, rows0, hy0, hrows0, hlen0, m0, hall0⟩ := rows_of Tryz.underlying22 (show Tryz.prog.cellsOf 5 = 1 by kernel_rfl) (by decide) hf0
 have hns0 : ∃ ns : List Int, rows0 = ns.map (fun n => [Value.int .u8 n]) /\ ∀ n ∈ ns, (0 : Int) <= n /\ n <= 255 := by
  clear hrows0 hlen0
  induction rows0 with
  | nil => exact ⟨[], rfl, fun _ h => by cases h⟩
  | cons r rs ih =>
   obtain ⟨ns, hns, hr⟩ := ih fun r hr => hall0 r (List.mem_cons_of_mem _ hr)
   obtain ⟨_, d, ps, hd⟩ := hall0 r (List.mem_cons_self ..)
   obtain ⟨n, q0, _, hw⟩ := DataW.trod_int (k := .u8) Tryz.underlying5 hd
   refine ⟨n :: ns, by rw [q0, hns]; rfl, fun z hz => ?_⟩
   rcases List.mem_cons.1 hz with e | e
   ·rw [e]; exact u8_range hw
   ·exact hr z e
 obtain ⟨ns0, rfl, hr0⟩ := hns0
 obtain ⟨n1, rfl, rfl, rfl, w1⟩ := open_int Tryz.underlying5 (hval 1 _ v1 rfl rfl) h1
 have hwalk := calls_of (W := W) (s_TextSorts' (σ := whole W) y0 ns0 hrows0 hr0 n1 (u8_range w1) (tabs_of hL) (K := fun u σ' => u = .bool true /\ Gr (whole W) σ') (fun σ' hg => ⟨rfl, hg⟩))
 rw [<- hy0] at hwalk
 refine hwalk.mono fun e W' ⟨he, hb⟩ => ?_
 subst he
 refine ⟨_, rfl, law_post hW' rfl rfl laidOut ?_ rfl Tryz.underlying4 hb⟩
 rw [Tryz.params3]
 intro t ht
 simp only [List.mem_cons, List.mem_nil_iff, or_false] at ht
 rcases ht with rfl | rfl <;> exact ⟨by kernel_rfl, of_decide_eq_true (by kernel_rfl)⟩
def wargs : Array Value := #[.slice none 0 0, .int .u8 0]
theorem laid_met (os : Os) : laidMet Tryz.prog Rows.textSortsRow.laid ((World.laidAll Tryz.prog os Rows.textSortsRow.laid).forCall (fun _ _ => 0) ⟨#[], wargs, []⟩).memory :=
 laidMet_laidAll _ (by kernel_rfl) (by kernel_rfl)
theorem reads (os : Os) {D : Type} (enc : TypeId × Value -> D) : ∃ places, DataW.whole enc Tryz.prog ((World.laidAll Tryz.prog os Rows.textSortsRow.laid).forCall (fun _ _ => 0) ⟨#[], wargs, []⟩).memory Tryz.f3.params.toList Rows.textSortsSpec.vars false wargs.toList 8 = some ([.nil, .lit (.int .u8 0)], [], places) :=
 ⟨[], by kernel_rfl⟩
theorem lifted (os : Os) (started : os.Started) (D : Type) (enc : TypeId × Value -> D) (F : Stop.Interp) :
 ReturnsInHanded {} Tryz.checked os 3 .any ((OpenSpec.ofChange Rows.textSortsSpec).preRow enc Tryz.prog Tryz.f3 Rows.textSortsRow.domain false Rows.textSortsRow.laid) (((OpenSpec.ofChange Rows.textSortsSpec).at F).post enc Tryz.prog Tryz.f3 false true false false) := by
 obtain ⟨places, hx⟩ := reads os enc
 refine returnsInHanded_of_row (C := Tryz.checked) (s := OpenSpec.ofChange Rows.textSortsSpec) own started (by kernel_rfl) Tryz.func3
  (witness_zip (enc := enc) (C := Tryz.checked) false (World.laidAll Tryz.prog os Rows.textSortsRow.laid) wargs (World.laidAll_os _ _ _) (by kernel_rfl) (by kernel_rfl) (by kernel_rfl)
   (OpenSpec.preRow_of_cond 8 hx (by kernel_rfl) (fun k hk => by cases hk) (by kernel_rfl) (laid_met os))) ?_
 intro W base args ds gs before hval hW _ _ _ hL _ _
 exact contract D enc W base args ds gs before hval hW hL
theorem said : Rows.TextSortsSaid :=
 OpenClaim.holds_of_cond 3 Tryz.f3 rfl rfl rfl rfl rfl rfl rfl ⟨rfl, rfl, rfl, rfl, rfl⟩ rfl rfl rfl rfl rfl (by kernel_rfl) Tryz.func3 (by kernel_rfl)
  (of_decide_eq_true (by kernel_rfl)) (by unfold Func.isWrapper; first | (rw [if_pos (by decide +kernel)]; kernel_rfl) | (rw [if_neg (by decide +kernel)]; exact ⟨rfl, rfl⟩))
  (fun os started D enc _ F => by rw [OpenClaim.pre_eq_preRow]; exact lifted os started D enc F)
theorem plain (f : FuncId) (fn : Func) (hf : Tryz.pinned.checked.prog.funcNamed Rows.textSortsRow.func = some f) (hfn : Tryz.pinned.checked.prog.funcs[f]? = some fn) :
 true = Tryz.pinned.checked.prog.looks [] /\ ∀ (j : Nat) t, fn.params[j]? = some t -> Tryz.pinned.checked.prog.wantsStandIn t = false := by
 obtain rfl : f = 3 := Option.some.inj ((show Tryz.prog.funcNamed Rows.textSortsRow.func = some 3 by kernel_rfl).symm.trans hf) |>.symm
 obtain rfl : fn = Tryz.f3 := (Option.some.inj (Tryz.func3.symm.trans hfn)).symm
 refine ⟨by kernel_rfl, fun j t ht => ?_⟩
 rw [Tryz.params3] at ht
 have hm := Array.mem_of_getElem? ht
 simp only [List.mem_toArray, List.mem_cons, List.mem_nil_iff, or_false] at hm
 rcases hm with rfl | rfl
 ·exact (show Tryz.prog.wantsStandIn 22 = false by kernel_rfl)
 ·exact (show Tryz.prog.wantsStandIn 5 = false by kernel_rfl)
end textSorts
theorem textSorts_holds : Rows.TextSortsCardSaid :=
 Claim7.holds_tied_plain_at .later [] _ _ _ _ textSorts.said (fun _ h => by cases h) (by kernel_rfl) (fun _ h => by cases h) textSorts_row_tie rfl ⟨rfl, rfl⟩ (by kernel_rfl) rfl textSorts.plain (by kernel_rfl)
end Go.Proofs.YtpfkfphjigcdeaaGreatDoor

