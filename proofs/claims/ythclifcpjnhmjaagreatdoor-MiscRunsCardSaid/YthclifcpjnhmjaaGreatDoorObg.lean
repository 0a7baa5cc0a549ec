/- MiscRuns holds. -/
import Derived.Test.YthclifcpjnhmjaaGreatDoorObf
set_option maxRecDepth 100000
namespace Go.Proofs.YthclifcpjnhmjaaGreatDoor
open Go Go.HL Go.Wk Go.ChangeShapes Go.WideShapes Go.ChangeAt Go.RowKit
namespace miscRuns
theorem contract (D:Type) (enc:TypeId × Value -> D) (W:World) (base:Nat) (args:Array Value) (ds gs:List (DataW D)) (before:List MemPlace)
 (hval:∀ (j:Nat) t v,Tryz.f7.params[j]? = some t -> args[j]? = some v -> Value.okWide Tryz.prog W .any base t v)
 (hW:DataW.Whole enc Tryz.prog Tryz.f7.params.toList Rows.miscRunsSpec.vars false W args.toList ds gs before) (hL:laidMet Tryz.prog Rows.miscRunsRow.laid W) :
 Calls Tryz.prog 7 args W fun e W' => ∃ v,e = .returned v /\ Rows.miscRunsSpec.post enc Tryz.prog Tryz.f7 false true false false W args v W' := by
 have hW' := hW
 obtain ⟨p,q,hA0,hV,rfl,hfz,hnd⟩ := hW
 have hA : DataW.TrodAll enc Tryz.prog W 0 (fun _ => true) true Tryz.f7.params.toList args.toList ds p := hA0
 rw [Tryz.params7] at hA hval
 obtain ⟨v0,vs0,d0,ds0,p0,q0,hargs,rfl,rfl,h0,r0⟩ := trodAll_cons hA
 obtain ⟨rfl,rfl,rfl⟩ := trodAll_nil r0
 obtain rfl : args = #[v0] := by cases args;simp_all
 obtain ⟨rfl,rfl⟩ := trodVars_none hV
 obtain ⟨fuel0,hf0⟩ := h0
 obtain ⟨nm0,l0,y0,inn0,cwd0,hu0,hrows0⟩ := use1.use_of hf0
 obtain ⟨cs0,hcs0,_⟩ := okWide_struct Tryz.underlying44 (hval 0 _ v0 rfl rfl)
 have hv0 : v0 = .agg ⟨[.string nm0,.slice y0.base y0.len y0.cap,.string inn0,.string cwd0]⟩ := by
  subst hcs0
  have : cs0.toList = [.string nm0,.slice y0.base y0.len y0.cap,.string inn0,.string cwd0] := hu0
  rw [<- this]
 subst hv0
 have hwalk := calls_of (W := W) (s_MiscRuns (σ := whole W) nm0 l0 y0 inn0 cwd0 hrows0 (tabs_of hL) (K := fun u σ' => u = .bool true /\ Gr (whole W) σ') (fun σ' hg => ⟨rfl,hg⟩))
 refine hwalk.mono fun e W' ⟨he,hb⟩ => ?_
 subst he
 refine ⟨_,rfl,law_post hW' rfl rfl laidOut ?_ rfl Tryz.underlying4 hb⟩
 rw [Tryz.params7]
 intro t ht
 simp only [List.mem_cons,List.mem_nil_iff,or_false] at ht
 subst ht;exact ⟨by kernel_rfl,of_decide_eq_true (by kernel_rfl)⟩
def wargs : Array Value := #[.agg #[.string ⟨#[]⟩,.slice none 0 0,.string ⟨#[]⟩,.string ⟨#[]⟩]]
theorem laid_met (os:Os) : laidMet Tryz.prog Rows.miscRunsRow.laid ((laidWorld os).forCall (fun _ _ => 0) ⟨#[],wargs,[]⟩).memory :=
 laidMet_of_run3 8 (by kernel_rfl) (by kernel_rfl) (by kernel_rfl)
theorem reads (os:Os) {D : Type} (enc:TypeId × Value -> D) : ∃ places,DataW.whole enc Tryz.prog ((laidWorld os).forCall (fun _ _ => 0) ⟨#[],wargs,[]⟩).memory Tryz.f7.params.toList Rows.miscRunsSpec.vars false wargs.toList 8 = some ([.agg [.lit (.string []),.nil,.lit (.string []),.lit (.string [])]],[],places) :=
 ⟨[],by kernel_rfl⟩
theorem lifted (os:Os) (started:os.Started) (D:Type) (enc:TypeId × Value -> D) (F:Stop.Interp) :
 ReturnsInHanded {} Tryz.checked os 7 .any ((OpenSpec.ofChange Rows.miscRunsSpec).preRow enc Tryz.prog Tryz.f7 Rows.miscRunsRow.domain false Rows.miscRunsRow.laid) (((OpenSpec.ofChange Rows.miscRunsSpec).at F).post enc Tryz.prog Tryz.f7 false true false false) := by
 obtain ⟨places,hx⟩ := reads os enc
 refine returnsInHanded_of_row (C := Tryz.checked) (s := OpenSpec.ofChange Rows.miscRunsSpec) own started (by kernel_rfl) Tryz.func7
  (witness_row_at (enc := enc) (C := Tryz.checked) false (laidWorld os) wargs rfl (by kernel_rfl) (by kernel_rfl) (by kernel_rfl)
   (OpenSpec.preRow_of_cond 8 hx (by kernel_rfl) (fun k hk => by cases hk) (by kernel_rfl) (laid_met os))) ?_
 intro W base args ds gs before hval hW _ _ _ hL _ _
 exact contract D enc W base args ds gs before hval hW hL
theorem said : Rows.MiscRunsSaid :=
 OpenClaim.holds_of_cond 7 Tryz.f7 rfl rfl rfl rfl rfl rfl rfl ⟨rfl,rfl,rfl,rfl,rfl⟩ rfl rfl rfl rfl rfl (by kernel_rfl) Tryz.func7 (by kernel_rfl)
  (of_decide_eq_true (by kernel_rfl)) (by unfold Func.isWrapper;first | (rw [if_pos (by decide +kernel)];kernel_rfl) | (rw [if_neg (by decide +kernel)];exact ⟨rfl,rfl⟩))
  (fun os started D enc _ F => by rw [OpenClaim.pre_eq_preRow];exact lifted os started D enc F)
theorem plain (f:FuncId) (fn:Func) (hf:Tryz.pinned.checked.prog.funcNamed Rows.miscRunsRow.func = some f) (hfn:Tryz.pinned.checked.prog.funcs[f]? = some fn) :
 true = Tryz.pinned.checked.prog.looks [] /\ ∀ (j:Nat) t,fn.params[j]? = some t -> Tryz.pinned.checked.prog.wantsStandIn t = false := by
 obtain rfl : f = 7 := Option.some.inj ((show Tryz.prog.funcNamed Rows.miscRunsRow.func = some 7 by kernel_rfl).symm.trans hf) |>.symm
 obtain rfl : fn = Tryz.f7 := (Option.some.inj (Tryz.func7.symm.trans hfn)).symm
 refine ⟨by kernel_rfl,fun j t ht => ?_⟩
 rw [Tryz.params7] at ht
 have hm := Array.mem_of_getElem? ht
 simp only [List.mem_toArray,List.mem_cons,List.mem_nil_iff,or_false] at hm
 subst hm
 exact (show Tryz.prog.wantsStandIn 44 = false by kernel_rfl)
end miscRuns
theorem miscRuns_holds : Rows.MiscRunsCardSaid :=
 Claim7.holds_tied_plain_at .later [] _ _ _ _ miscRuns.said (fun _ h => by cases h) (by kernel_rfl) (fun _ h => by cases h) miscRuns_row_tie rfl ⟨rfl,rfl⟩ (by kernel_rfl) rfl miscRuns.plain (by kernel_rfl)
end Go.Proofs.YthclifcpjnhmjaaGreatDoor

