/- LookKnown holds. -/
import Derived.Test.YtgfiobhpipollaaGreatDoorNbc
set_option maxRecDepth 100000
namespace Go.Proofs.YtgfiobhpipollaaGreatDoor
open Go Go.HL Go.Wk Go.ChangeShapes Go.WideShapes Go.ChangeAt Go.RowKit
namespace lookKnown
theorem contract (D : Type) (enc : TypeId × Value -> D) (W : World) (base : Nat) (args : Array Value) (ds gs : List (DataW D)) (before : List MemPlace)
 (hval : ∀ (j : Nat) t v, Tryz.f7.params[j]? = some t -> args[j]? = some v -> Value.okWide Tryz.prog W .any base t v)
 (hW : DataW.Whole enc Tryz.prog Tryz.f7.params.toList Rows.lookKnownSpec.vars false W args.toList ds gs before) :
 Calls Tryz.prog 7 args W fun e W' => ∃ v, e = .returned v /\ Rows.lookKnownSpec.post enc Tryz.prog Tryz.f7 false true false false W args v W' := by
 have hW' := hW
 obtain ⟨p, q, hA0, hV, rfl, hfz, hnd⟩ := hW
 have hA : DataW.TrodAll enc Tryz.prog W 0 (fun _ => true) true Tryz.f7.params.toList args.toList ds p := hA0
 rw [Tryz.params7] at hA hval
 obtain ⟨hargs, rfl, rfl⟩ := trodAll_nil hA
 obtain rfl : args = #[] := by cases args; simp_all
 obtain ⟨rfl, rfl⟩ := trodVars_none hV
 have hwalk := calls_of (W := W) (s_LookKnown (σ := whole W)  (K := fun u σ' => u = .bool true /\ Gr (whole W) σ') ⟨rfl, Gr.refl _⟩)
 refine hwalk.mono fun e W' ⟨he, hb⟩ => ?_
 subst he
 refine ⟨_, rfl, law_post hW' rfl rfl laidOut ?_ rfl Tryz.underlying4 hb⟩
 rw [Tryz.params7]
 intro t ht
 simp at ht
def wargs : Array Value := #[]
theorem laid_met (os : Os) : laidMet Tryz.prog Rows.lookKnownRow.laid ((laidWorld os).forCall (fun _ _ => 0) ⟨#[], wargs, []⟩).memory :=
 laidMet_of_run' 8 (by kernel_rfl) (by kernel_rfl)
theorem reads (os : Os) {D : Type} (enc : TypeId × Value -> D) : ∃ places, DataW.whole enc Tryz.prog ((laidWorld os).forCall (fun _ _ => 0) ⟨#[], wargs, []⟩).memory Tryz.f7.params.toList Rows.lookKnownSpec.vars false wargs.toList 8 = some ([], [], places) :=
 ⟨[], by kernel_rfl⟩
theorem lifted (os : Os) (started : os.Started) (D : Type) (enc : TypeId × Value -> D) (F : Stop.Interp) :
 ReturnsInHanded {} Tryz.checked os 7 .any ((OpenSpec.ofChange Rows.lookKnownSpec).preRow enc Tryz.prog Tryz.f7 Rows.lookKnownRow.domain false Rows.lookKnownRow.laid) (((OpenSpec.ofChange Rows.lookKnownSpec).at F).post enc Tryz.prog Tryz.f7 false true false false) := by
 obtain ⟨places, hx⟩ := reads os enc
 refine returnsInHanded_of_row (C := Tryz.checked) (s := OpenSpec.ofChange Rows.lookKnownSpec) own started (by kernel_rfl) Tryz.func7
  (witness_row_at (enc := enc) (C := Tryz.checked) false (laidWorld os) wargs rfl (by kernel_rfl) (by kernel_rfl) (by kernel_rfl)
   (OpenSpec.preRow_of_cond 8 hx (by kernel_rfl) (fun k hk => by cases hk) (by kernel_rfl) (laid_met os))) ?_
 intro W base args ds gs before hval hW _ _ _ _ _ _
 exact contract D enc W base args ds gs before hval hW
theorem said : Rows.LookKnownSaid :=
 OpenClaim.holds_of_cond 7 Tryz.f7 rfl rfl rfl rfl rfl rfl rfl ⟨rfl, rfl, rfl, rfl, rfl⟩ rfl rfl rfl rfl rfl (by kernel_rfl) Tryz.func7 (by kernel_rfl)
  (of_decide_eq_true (by kernel_rfl)) (by unfold Func.isWrapper; first | (rw [if_pos (by decide +kernel)]; kernel_rfl) | (rw [if_neg (by decide +kernel)]; exact ⟨rfl, rfl⟩))
  (fun os started D enc _ F => by rw [OpenClaim.pre_eq_preRow]; exact lifted os started D enc F)
theorem plain (f : FuncId) (fn : Func) (hf : Tryz.pinned.checked.prog.funcNamed Rows.lookKnownRow.func = some f) (hfn : Tryz.pinned.checked.prog.funcs[f]? = some fn) :
 true = Tryz.pinned.checked.prog.looks [] /\ ∀ (j : Nat) t, fn.params[j]? = some t -> Tryz.pinned.checked.prog.wantsStandIn t = false := by
 obtain rfl : f = 7 := Option.some.inj ((show Tryz.prog.funcNamed Rows.lookKnownRow.func = some 7 by kernel_rfl).symm.trans hf) |>.symm
 obtain rfl : fn = Tryz.f7 := (Option.some.inj (Tryz.func7.symm.trans hfn)).symm
 refine ⟨by kernel_rfl, fun j t ht => ?_⟩
 rw [Tryz.params7] at ht
 have hm := Array.mem_of_getElem? ht
 simp at hm
end lookKnown
theorem lookKnown_holds : Rows.LookKnownCardSaid :=
 Claim7.holds_tied_plain_at .later [] _ _ _ _ lookKnown.said (fun _ h => by cases h) (by kernel_rfl) (fun _ h => by cases h) lookKnown_row_tie rfl ⟨rfl, rfl⟩ (by kernel_rfl) rfl lookKnown.plain (by kernel_rfl)
end Go.Proofs.YtgfiobhpipollaaGreatDoor

