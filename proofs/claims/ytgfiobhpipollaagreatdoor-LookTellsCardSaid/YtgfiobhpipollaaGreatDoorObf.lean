/- LookTells holds. -/
import Derived.Test.YtgfiobhpipollaaGreatDoorObe
set_option maxRecDepth 100000
namespace Go.Proofs.YtgfiobhpipollaaGreatDoor
open Go Go.HL Go.Wk Go.ChangeShapes Go.WideShapes Go.ChangeAt Go.RowKit
namespace lookTells
theorem contract (D:Type) (enc:TypeId×Value->D) (W:World) (base:Nat) (args:Array Value) (ds gs:List (DataW D)) (before:List MemPlace)
 (hval:∀ (j:Nat) t v,Tryz.f3.params[j]? = some t->args[j]? = some v->Value.okWide Tryz.prog W .any base t v)
 (hW:DataW.Whole enc Tryz.prog Tryz.f3.params.toList Rows.lookTellsSpec.vars false W args.toList ds gs before) :
 Calls Tryz.prog 3 args W fun e W' => ∃v,e = .returned v/\Rows.lookTellsSpec.post enc Tryz.prog Tryz.f3 false true false false W args v W':=by
 have hW':=hW
 obtain⟨p,q,hA0,hV,rfl,hfz,hnd⟩:=hW
 have hA:DataW.TrodAll enc Tryz.prog W 0 (fun _=>true) true Tryz.f3.params.toList args.toList ds p:=hA0
 rw[Tryz.params3]at hA hval
 obtain⟨v0,vs0,d0,ds0,p0,q0,hargs,rfl,rfl,h0,r0⟩:=trodAll_cons hA
 obtain⟨rfl,rfl,rfl⟩:=trodAll_nil r0
 obtain rfl:args = #[v0]:=by cases args;simp_all
 obtain⟨rfl,rfl⟩:=trodVars_none hV
 obtain⟨fuel0,hf0⟩:=h0
 obtain⟨S0,ya0,yb0,hu0,hst0⟩:=st30.state_of hf0
 obtain⟨cs0,hcs0,_⟩:=okWide_struct Tryz.underlying25 (hval 0 _ v0 rfl rfl)
 have hv0:v0=stV ya0 yb0:=by
  subst hcs0
  have:cs0.toList=[.slice ya0.base ya0.len ya0.cap,.slice yb0.base yb0.len yb0.cap]:=hu0
  unfold stV
  rw[<-this]
 subst hv0
 have hwalk:=bK9 (W:=W) (bk5 (σ:=whole W) S0 ya0 yb0 hst0 (K:=fun u σ'=>u = .bool true/\Gr (whole W) σ') (fun σ' hg=>⟨rfl,hg⟩))
 refine hwalk.mono fun e W' ⟨he,hb⟩ => ?_
 subst he
 refine⟨_,rfl,bL0 hW' rfl rfl ce3 ?_ rfl Tryz.underlying4 hb⟩
 rw[Tryz.params3]
 intro t ht
 simp only[A5,List.mem_nil_iff,or_false]at ht
 subst ht;exact⟨by kernel_rfl,E6 (by kernel_rfl)⟩
def bz7:Array Value := #[.agg #[.slice none 0 0,.slice none 0 0]]
theorem bZ0 (os:Os):laidMet Tryz.prog Rows.lookTellsRow.laid ((laidWorld os).forCall (fun _ _=>0) ⟨#[],bz7,[]⟩).memory :=
 laidMet_of_run' 8 (by kernel_rfl) (by kernel_rfl)
theorem bZ1 (os:Os) {D:Type} (enc:TypeId×Value->D) : ∃places,DataW.whole enc Tryz.prog ((laidWorld os).forCall (fun _ _=>0) ⟨#[],bz7,[]⟩).memory Tryz.f3.params.toList Rows.lookTellsSpec.vars false bz7.toList 8=some ([.agg [.nil,.nil]],[],places) :=
 ⟨[],by kernel_rfl⟩
theorem cy5 (os:Os) (started:os.Started) (D:Type) (enc:TypeId×Value->D) (F:Stop.Interp) :
 ReturnsInHanded {} Tryz.checked os 3 .any ((OpenSpec.ofChange Rows.lookTellsSpec).preRow enc Tryz.prog Tryz.f3 Rows.lookTellsRow.domain false Rows.lookTellsRow.laid) (((OpenSpec.ofChange Rows.lookTellsSpec).at F).post enc Tryz.prog Tryz.f3 false true false false):=by
 obtain⟨places,hx⟩:=bZ1 os enc
 refine returnsInHanded_of_row (C:=Tryz.checked) (s:=OpenSpec.ofChange Rows.lookTellsSpec) own started (by kernel_rfl) Tryz.func3
  (witness_row_at (enc:=enc) (C:=Tryz.checked) false (laidWorld os) bz7 rfl (by kernel_rfl) (by kernel_rfl) (by kernel_rfl)
   (OpenSpec.preRow_of_cond 8 hx (by kernel_rfl) (fun k hk=>by cases hk) (by kernel_rfl) (bZ0 os))) ?_
 intro W base args ds gs before hval hW _ _ _ _ _ _
 exact contract D enc W base args ds gs before hval hW
theorem said:Rows.LookTellsSaid :=
 OpenClaim.holds_of_cond 3 Tryz.f3 rfl rfl rfl rfl rfl rfl rfl ⟨rfl,rfl,rfl,rfl,rfl⟩ rfl rfl rfl rfl rfl (by kernel_rfl) Tryz.func3 (by kernel_rfl)
  (E6 (by kernel_rfl)) (by unfold Func.isWrapper;first | (rw[d9 (by decide +kernel)];kernel_rfl) | (rw[c0 (by decide +kernel)];exact⟨rfl,rfl⟩))
  (fun os started D enc _ F=>by rw[OpenClaim.pre_eq_preRow];exact cy5 os started D enc F)
theorem plain (f:FuncId) (fn:Func) (hf:Tryz.pinned.checked.prog.funcNamed Rows.lookTellsRow.func=some f) (hfn:Tryz.pinned.checked.prog.funcs[f]? = some fn) :
 true=Tryz.pinned.checked.prog.looks [] /\ ∀ (j:Nat) t,fn.params[j]? = some t->Tryz.pinned.checked.prog.wantsStandIn t=false:=by
 obtain rfl:f=3:=Option.some.inj ((show Tryz.prog.funcNamed Rows.lookTellsRow.func=some 3 by kernel_rfl).symm.trans hf) |>.symm
 obtain rfl:fn=Tryz.f3:=(Option.some.inj (Tryz.func3.symm.trans hfn)).symm
 refine⟨by kernel_rfl,fun j t ht => ?_⟩
 rw[Tryz.params3]at ht
 have hm:=Array.mem_of_getElem? ht
 simp only[List.mem_toArray,A5,List.mem_nil_iff,or_false]at hm
 subst hm
 exact(show Tryz.prog.wantsStandIn 25=false by kernel_rfl)
end lookTells
theorem lookTells_holds:Rows.LookTellsCardSaid :=
 Claim7.holds_tied_plain_at .later [] _ _ _ _ lookTells.said (fun _ h=>by cases h) (by kernel_rfl) (fun _ h=>by cases h) lookTells_row_tie rfl ⟨rfl,rfl⟩ (by kernel_rfl) rfl lookTells.plain (by kernel_rfl)
end Go.Proofs.YtgfiobhpipollaaGreatDoor

