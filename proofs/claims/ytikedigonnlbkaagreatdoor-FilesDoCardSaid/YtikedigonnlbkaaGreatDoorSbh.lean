/- FilesDo holds. -/
import Derived.Test.YtikedigonnlbkaaGreatDoorSbg
set_option maxRecDepth 100000
namespace Go.Proofs.YtikedigonnlbkaaGreatDoor
open Go Go.HL Go.Wk Go.ChangeShapes Go.WideShapes Go.ChangeAt Go.RowKit
namespace filesDo
theorem contract(D:Type)(enc:TypeId×u9->D)(W:World)(base:Nat)(args:Array u9)(ds gs:List (DataW D))(before:List MemPlace)
 (xh:∀ (j:Nat) t v,Tryz.f3.params[j]?=some t->args[j]?=some v->Value.okWide Tryz.prog W .any base t v)
 (hW:DataW.Whole enc Tryz.prog Tryz.f3.params.toList Rows.filesDoSpec.vars false W args.toList ds gs before) (hL:laidMet Tryz.prog Rows.filesDoRow.laid W) :
 Calls Tryz.prog 3 args W fun e W'=>∃v,e=.returned v/\Rows.filesDoSpec.post enc Tryz.prog Tryz.f3 false true false false W args v W':=by
 have hW':=hW;obtain⟨p,q,Dk,hV,rfl,Ed,ij⟩:=hW;have hA:DataW.TrodAll enc Tryz.prog W 0 (fun _=>true) true Tryz.f3.params.toList args.toList ds p:=Dk;rw[Tryz.params3]at hA xh;obtain⟨v0,vs0,d0,ds0,p0,q0,qz,rfl,rfl,h0,r0⟩:=trodAll_cons hA;obtain⟨v1,vs1,d1,ds1,p1,q1,hvs0,rfl,rfl,h1,r1⟩:=trodAll_cons r0;obtain⟨rfl,rfl,rfl⟩:=trodAll_nil r1;subst hvs0;obtain rfl:args = #[v0,v1]:=by cases args;simp_all
 obtain⟨rfl,rfl⟩:=trodVars_none hV;obtain⟨ba0,len0,cap0,rfl⟩:=okWide_slice Tryz.underlying22 (xh 0 _ v0 rfl rfl);obtain⟨fuel0,hf0⟩:=h0;obtain⟨y0,rows0,hy0,Cs,hlen0,m0,Gz⟩:=bF0 Tryz.underlying22 (show Tryz.prog.cellsOf 32=4 by kernel_rfl) (by decide) hf0;obtain⟨us0,rfl,hus0⟩:=us5.uses_of Gz;obtain⟨fuel1,Ew⟩:=h1;obtain⟨na1,nb1,hu1,wa1,wb1⟩:=us5.two_of Ew;obtain⟨cs1,hcs1,_⟩:=us5.okWide_array Tryz.underlying23 (xh 1 _ v1 rfl rfl);have hv1:v1=.agg ⟨[.int .u8 na1,.int .u8 nb1]⟩:=by
  subst hcs1;have:cs1.toList=[.int .u8 na1,.int .u8 nb1]:=hu1;rw[<-this]
 subst hv1;have Ao:=bW8 (W:=W) (bT2 (Y:=whole W) Cs hus0 wa1 wb1 (us5.err_of hL) (K:=fun u Y'=>u=.bool true/\Gr (whole W) Y') (fun Y' hg=>⟨rfl,hg⟩));rw[<-hy0]at Ao;refine Ao.mono fun e W' ⟨he,hb⟩=>?_;subst he;refine⟨_,rfl,bW9 hW' rfl rfl co0 ?_ rfl Tryz.underlying4 hb⟩;rw[Tryz.params3];intro t ht;simp only[G9,List.mem_nil_iff,or_false]at ht;rcases ht with rfl|rfl<;>exact⟨by kernel_rfl,bE3 (by kernel_rfl)⟩
def bJ3:Array u9 := #[.slice none 0 0,.agg #[.int .u8 0,.int .u8 0]]
theorem cj2(os:Os):laidMet Tryz.prog Rows.filesDoRow.laid ((laidWorld os).forCall (fun _ _=>0) ⟨#[],bJ3,[]⟩).memory :=
 laidMet_of_run3 8 (by kernel_rfl) (by kernel_rfl) (by kernel_rfl)
theorem cj3(os:Os){D:Type}(enc:TypeId×u9->D):∃places,DataW.whole enc Tryz.prog ((laidWorld os).forCall (fun _ _=>0) ⟨#[],bJ3,[]⟩).memory Tryz.f3.params.toList Rows.filesDoSpec.vars false bJ3.toList 8=some ([.nil,.agg [.lit (.int .u8 0),.lit (.int .u8 0)]],[],places) :=
 ⟨[],by kernel_rfl⟩
theorem cD4(os:Os)(started:os.Started)(D:Type)(enc:TypeId×u9->D)(F:Stop.Interp) :
 ReturnsInHanded {} Tryz.checked os 3 .any ((OpenSpec.ofChange Rows.filesDoSpec).preRow enc Tryz.prog Tryz.f3 Rows.filesDoRow.domain false Rows.filesDoRow.laid) (((OpenSpec.ofChange Rows.filesDoSpec).at F).post enc Tryz.prog Tryz.f3 false true false false):=by
 obtain⟨places,hx⟩:=cj3 os enc;refine returnsInHanded_of_row (C:=Tryz.checked) (s:=OpenSpec.ofChange Rows.filesDoSpec) own started (by kernel_rfl) Tryz.func3
  (witness_row_at (enc:=enc) (C:=Tryz.checked) false (laidWorld os) bJ3 rfl (by kernel_rfl) (by kernel_rfl) (by kernel_rfl)
   (OpenSpec.preRow_of_cond 8 hx (by kernel_rfl) (fun k hk=>by cases hk) (by kernel_rfl) (cj2 os))) ?_
 intro W base args ds gs before xh hW _ _ _ hL _ _;exact contract D enc W base args ds gs before xh hW hL
theorem said:Rows.FilesDoSaid :=
 OpenClaim.holds_of_cond 3 Tryz.f3 rfl rfl rfl rfl rfl rfl rfl ⟨rfl,rfl,rfl,rfl,rfl⟩ rfl rfl rfl rfl rfl (by kernel_rfl) Tryz.func3 (by kernel_rfl)
  (bE3 (by kernel_rfl)) (by unfold Func.isWrapper;first|(rw[d8 (by decide +kernel)];kernel_rfl)|(rw[d7 (by decide +kernel)];exact⟨rfl,rfl⟩))
  (fun os started D enc _ F=>by rw[OpenClaim.pre_eq_preRow];exact cD4 os started D enc F)
theorem plain(f:FuncId)(fn:Func)(hf:Tryz.pinned.checked.prog.funcNamed Rows.filesDoRow.func=some f)(mq:Tryz.pinned.checked.prog.funcs[f]?=some fn) :
 true=Tryz.pinned.checked.prog.looks []/\∀ (j:Nat) t,fn.params[j]?=some t->Tryz.pinned.checked.prog.wantsStandIn t=false:=by
 obtain rfl:f=3:=Option.some.inj ((show Tryz.prog.funcNamed Rows.filesDoRow.func=some 3 by kernel_rfl).symm.trans hf) |>.symm
 obtain rfl:fn=Tryz.f3:=(Option.some.inj (Tryz.func3.symm.trans mq)).symm;refine⟨by kernel_rfl,fun j t ht=>?_⟩;rw[Tryz.params3]at ht;have hm:=Array.mem_of_getElem? ht;simp only[List.mem_toArray,G9,List.mem_nil_iff,or_false]at hm;rcases hm with rfl|rfl
 ·exact(show Tryz.prog.wantsStandIn 22=false by kernel_rfl)
 ·exact(show Tryz.prog.wantsStandIn 23=false by kernel_rfl)
end filesDo
theorem filesDo_holds:Rows.FilesDoCardSaid :=
 Claim7.holds_tied_plain_at .later [] _ _ _ _ filesDo.said (fun _ h=>by cases h) (by kernel_rfl) (fun _ h=>by cases h) filesDo_row_tie rfl ⟨rfl,rfl⟩ (by kernel_rfl) rfl filesDo.plain (by kernel_rfl)
end Go.Proofs.YtikedigonnlbkaaGreatDoor

