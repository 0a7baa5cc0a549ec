/- LookCompares holds. -/
import Derived.Test.YtgfiobhpipollaaGreatDoorLbc
set_option maxRecDepth 100000
namespace Go.Proofs.YtgfiobhpipollaaGreatDoor
open Go Go.HL Go.Wk Go.ChangeShapes Go.WideShapes Go.ChangeAt Go.RowKit
namespace lookCompares
theorem contract (D : Type) (enc : TypeId × Value -> D) (W : World) (base : Nat) (args : Array Value) (ds gs : List (DataW D)) (before : List MemPlace)
 (hval : ∀ (j : Nat) t v, Tryz.f5.params[j]? = some t -> args[j]? = some v -> Value.okWide Tryz.prog W .any base t v)
 (hW : DataW.Whole enc Tryz.prog Tryz.f5.params.toList Rows.lookComparesSpec.vars false W args.toList ds gs before) :
 Calls Tryz.prog 5 args W fun e W' => ∃ v, e = .returned v /\ Rows.lookComparesSpec.post enc Tryz.prog Tryz.f5 false true false false W args v W' := by
 have hW' := hW
 obtain ⟨p, q, hA0, hV, rfl, hfz, hnd⟩ := hW
 have hA : DataW.TrodAll enc Tryz.prog W 0 (fun _ => true) true Tryz.f5.params.toList args.toList ds p := hA0
 rw [Tryz.params5] at hA hval
 obtain ⟨v0, vs0, d0, ds0, p0, q0, hargs, rfl, rfl, h0, r0⟩ := trodAll_cons hA
 obtain ⟨v1, vs1, d1, ds1, p1, q1, hvs0, rfl, rfl, h1, r1⟩ := trodAll_cons r0
 obtain ⟨v2, vs2, d2, ds2, p2, q2, hvs1, rfl, rfl, h2, r2⟩ := trodAll_cons r1
 obtain ⟨rfl, rfl, rfl⟩ := trodAll_nil r2
 subst hvs1
 subst hvs0
 obtain rfl : args = #[v0, v1, v2] := by cases args; simp_all
 obtain ⟨rfl, rfl⟩ := trodVars_none hV
 obtain ⟨fuel0, hf0⟩ := h0
 obtain ⟨S0, ya0, yb0, hu0, hst0⟩ := st30.state_of hf0
 obtain ⟨cs0, hcs0, _⟩ := okWide_struct Tryz.underlying25 (hval 0 _ v0 rfl rfl)
 have hv0 : v0 = stV ya0 yb0 := by
  subst hcs0
  have : cs0.toList = [.slice ya0.base ya0.len ya0.cap, .slice yb0.base yb0.len yb0.cap] := hu0
  unfold stV
  rw [<- this]
 subst hv0
 obtain ⟨fuel1, hf1⟩ := h1
 obtain ⟨S1, ya1, yb1, hu1, hst1⟩ := st30.state_of hf1
 obtain ⟨cs1, hcs1, _⟩ := okWide_struct Tryz.underlying25 (hval 1 _ v1 rfl rfl)
 have hv1 : v1 = stV ya1 yb1 := by
  subst hcs1
  have : cs1.toList = [.slice ya1.base ya1.len ya1.cap, .slice yb1.base yb1.len yb1.cap] := hu1
  unfold stV
  rw [<- this]
 subst hv1
 obtain ⟨fuel2, hf2⟩ := h2
 obtain ⟨S2, ya2, yb2, hu2, hst2⟩ := st30.state_of hf2
 obtain ⟨cs2, hcs2, _⟩ := okWide_struct Tryz.underlying25 (hval 2 _ v2 rfl rfl)
 have hv2 : v2 = stV ya2 yb2 := by
  subst hcs2
  have : cs2.toList = [.slice ya2.base ya2.len ya2.cap, .slice yb2.base yb2.len yb2.cap] := hu2
  unfold stV
  rw [<- this]
 subst hv2
 have hwalk := calls_of (W := W) (s_LookCompares (σ := whole W) S0 ya0 yb0 hst0 S1 ya1 yb1 hst1 S2 ya2 yb2 hst2 (K := fun u σ' => u = .bool true /\ Gr (whole W) σ') (fun σ' hg => ⟨rfl, hg⟩))
 refine hwalk.mono fun e W' ⟨he, hb⟩ => ?_
 subst he
 refine ⟨_, rfl, law_post hW' rfl rfl laidOut ?_ rfl Tryz.underlying4 hb⟩
 rw [Tryz.params5]
 intro t ht
 simp only [List.mem_cons, List.mem_nil_iff, or_false] at ht
 rcases ht with rfl | rfl | rfl <;> exact ⟨by kernel_rfl, of_decide_eq_true (by kernel_rfl)⟩
def wargs : Array Value := #[.agg #[.slice none 0 0, .slice none 0 0], .agg #[.slice none 0 0, .slice none 0 0], .agg #[.slice none 0 0, .slice none 0 0]]
theorem laid_met (os : Os) : laidMet Tryz.prog Rows.lookComparesRow.laid ((laidWorld os).forCall (fun _ _ => 0) ⟨#[], wargs, []⟩).memory :=
 laidMet_of_run' 8 (by kernel_rfl) (by kernel_rfl)
theorem reads (os : Os) {D : Type} (enc : TypeId × Value -> D) : ∃ places, DataW.whole enc Tryz.prog ((laidWorld os).forCall (fun _ _ => 0) ⟨#[], wargs, []⟩).memory Tryz.f5.params.toList Rows.lookComparesSpec.vars false wargs.toList 8 = some ([.agg [.nil, .nil], .agg [.nil, .nil], .agg [.nil, .nil]], [], places) :=
 ⟨[], by kernel_rfl⟩
theorem lifted (os : Os) (started : os.Started) (D : Type) (enc : TypeId × Value -> D) (F : Stop.Interp) :
 ReturnsInHanded {} Tryz.checked os 5 .any ((OpenSpec.ofChange Rows.lookComparesSpec).preRow enc Tryz.prog Tryz.f5 Rows.lookComparesRow.domain false Rows.lookComparesRow.laid) (((OpenSpec.ofChange Rows.lookComparesSpec).at F).post enc Tryz.prog Tryz.f5 false true false false) := by
 obtain ⟨places, hx⟩ := reads os enc
 refine returnsInHanded_of_row (C := Tryz.checked) (s := OpenSpec.ofChange Rows.lookComparesSpec) own started (by kernel_rfl) Tryz.func5
  (witness_row_at (enc := enc) (C := Tryz.checked) false (laidWorld os) wargs rfl (by kernel_rfl) (by kernel_rfl) (by kernel_rfl)
   (OpenSpec.preRow_of_cond 8 hx (by kernel_rfl) (fun k hk => by cases hk) (by kernel_rfl) (laid_met os))) ?_
 intro W base args ds gs before hval hW _ _ _ _ _ _
 exact contract D enc W base args ds gs before hval hW
theorem said : Rows.LookComparesSaid :=
 OpenClaim.holds_of_cond 5 Tryz.f5 rfl rfl rfl rfl rfl rfl rfl ⟨rfl, rfl, rfl, rfl, rfl⟩ rfl rfl rfl rfl rfl (by kernel_rfl) Tryz.func5 (by kernel_rfl)
  (of_decide_eq_true (by kernel_rfl)) (by unfold Func.isWrapper; first | (rw [if_pos (by decide +kernel)]; kernel_rfl) | (rw [if_neg (by decide +kernel)]; exact ⟨rfl, rfl⟩))
  (fun os started D enc _ F => by rw [OpenClaim.pre_eq_preRow]; exact lifted os started D enc F)
theorem plain (f : FuncId) (fn : Func) (hf : Tryz.pinned.checked.prog.funcNamed Rows.lookComparesRow.func = some f) (hfn : Tryz.pinned.checked.prog.funcs[f]? = some fn) :
 true = Tryz.pinned.checked.prog.looks [] /\ ∀ (j : Nat) t, fn.params[j]? = some t -> Tryz.pinned.checked.prog.wantsStandIn t = false := by
 obtain rfl : f = 5 := Option.some.inj ((show Tryz.prog.funcNamed Rows.lookComparesRow.func = some 5 by kernel_rfl).symm.trans hf) |>.symm
 obtain rfl : fn = Tryz.f5 := (Option.some.inj (Tryz.func5.symm.trans hfn)).symm
 refine ⟨by kernel_rfl, fun j t ht => ?_⟩
 rw [Tryz.params5] at ht
 have hm := Array.mem_of_getElem? ht
 simp only [List.mem_toArray, List.mem_cons, List.mem_nil_iff, or_false] at hm
 rcases hm with rfl | rfl | rfl
 ·exact (show Tryz.prog.wantsStandIn 25 = false by kernel_rfl)
 ·exact (show Tryz.prog.wantsStandIn 25 = false by kernel_rfl)
 ·exact (show Tryz.prog.wantsStandIn 25 = false by kernel_rfl)
end lookCompares
theorem lookCompares_holds : Rows.LookComparesCardSaid :=
 Claim7.holds_tied_plain_at .later [] _ _ _ _ lookCompares.said (fun _ h => by cases h) (by kernel_rfl) (fun _ h => by cases h) lookCompares_row_tie rfl ⟨rfl, rfl⟩ (by kernel_rfl) rfl lookCompares.plain (by kernel_rfl)
end Go.Proofs.YtgfiobhpipollaaGreatDoor

