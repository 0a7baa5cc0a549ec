/- FilesMove holds. -/
import Derived.Test.YtbdlkofldmhoaaaGreatDoorMbf
set_option maxRecDepth 100000
namespace Go.Proofs.YtbdlkofldmhoaaaGreatDoor
open Go Go.HL Go.Wk Go.ChangeShapes Go.WideShapes Go.ChangeAt Go.RowKit
namespace filesMove
theorem u8_range {n:Int} (h:(Lit.int .u8 n).wf=true):(0:Int)<=n/\n<=255:=by
 have h1:(decide (IntKind.u8.min<=n)&&decide (n<=IntKind.u8.max))=true:=h
 have e1:IntKind.u8.min=0:=by decide
 have e2:IntKind.u8.max=255:=by decide
 rw[e1,e2]at h1
 simp only[Bool.and_eq_true,decide_eq_true_eq]at h1
 exact h1
theorem contract (D:Type) (enc:TypeId×Value->D) (W:World) (base:Nat) (args:Array Value) (ds gs:List (DataW D)) (before:List MemPlace)
 (hval:∀ (j:Nat) t v,Tryz.f6.params[j]? = some t->args[j]? = some v->Value.okWide Tryz.prog W .any base t v)
 (hW:DataW.Whole enc Tryz.prog Tryz.f6.params.toList Rows.filesMoveSpec.vars false W args.toList ds gs before) :
 Calls Tryz.prog 6 args W fun e W' => ∃v,e = .returned v/\Rows.filesMoveSpec.post enc Tryz.prog Tryz.f6 false true false false W args v W':=by
 have hW':=hW
 obtain⟨p,q,hA0,hV,rfl,hfz,hnd⟩:=hW
 have hA:DataW.TrodAll enc Tryz.prog W 0 (fun _=>true) true Tryz.f6.params.toList args.toList ds p:=hA0
 rw[Tryz.params6]at hA hval
 obtain⟨v0,vs0,d0,ds0,p0,q0,hargs,rfl,rfl,h0,r0⟩:=trodAll_cons hA
 obtain⟨v1,vs1,d1,ds1,p1,q1,hvs0,rfl,rfl,h1,r1⟩:=trodAll_cons r0
 obtain⟨rfl,rfl,rfl⟩:=trodAll_nil r1
 subst hvs0
 obtain rfl:args = #[v0,v1]:=by cases args;simp_all
 obtain⟨rfl,rfl⟩:=trodVars_none hV
 obtain⟨ba0,len0,cap0,rfl⟩:=okWide_slice Tryz.underlying50 (hval 0 _ v0 rfl rfl)
 obtain⟨fuel0,hf0⟩:=h0
 obtain⟨y0,rows0,hy0,hrows0,hlen0,m0,hall0⟩:=rows_of Tryz.underlying50 (show Tryz.prog.cellsOf 108=3 by kernel_rfl) (by decide) hf0
 obtain⟨ts0,rfl,hts0⟩:=arr3r.ts_of hall0
 obtain⟨n1,rfl,rfl,rfl,w1⟩:=open_int Tryz.underlying5 (hval 1 _ v1 rfl rfl) h1
 have hwalk:=calls_of (W:=W) (s_FilesMove (σ:=whole W) y0 ts0 hrows0 hts0 n1 (u8_range w1) (K:=fun u σ'=>u = .bool true/\Gr (whole W) σ') (fun σ' hg=>⟨rfl,hg⟩))
 rw[<-hy0]at hwalk
 refine hwalk.mono fun e W' ⟨he,hb⟩ => ?_
 subst he
 refine⟨_,rfl,law_post hW' rfl rfl laidOut ?_ rfl Tryz.underlying4 hb⟩
 rw[Tryz.params6]
 intro t ht
 simp only[List.mem_cons,List.mem_nil_iff,or_false]at ht
 rcases ht with rfl | rfl<;>exact⟨by kernel_rfl,of_decide_eq_true (by kernel_rfl)⟩
def wargs:Array Value := #[.slice none 0 0,.int .u8 0]
theorem laid_met (os:Os):laidMet Tryz.prog Rows.filesMoveRow.laid ((laidWorld os).forCall (fun _ _=>0) ⟨#[],wargs,[]⟩).memory :=
 laidMet_of_run3 8 (by kernel_rfl) (by kernel_rfl) (by kernel_rfl)
theorem reads (os:Os) {D:Type} (enc:TypeId×Value->D) : ∃places,DataW.whole enc Tryz.prog ((laidWorld os).forCall (fun _ _=>0) ⟨#[],wargs,[]⟩).memory Tryz.f6.params.toList Rows.filesMoveSpec.vars false wargs.toList 8=some ([.nil,.lit (.int .u8 0)],[],places) :=
 ⟨[],by kernel_rfl⟩
theorem lifted (os:Os) (started:os.Started) (D:Type) (enc:TypeId×Value->D) (F:Stop.Interp) :
 ReturnsInHanded {} Tryz.checked os 6 .any ((OpenSpec.ofChange Rows.filesMoveSpec).preRow enc Tryz.prog Tryz.f6 Rows.filesMoveRow.domain false Rows.filesMoveRow.laid) (((OpenSpec.ofChange Rows.filesMoveSpec).at F).post enc Tryz.prog Tryz.f6 false true false false):=by
 obtain⟨places,hx⟩:=reads os enc
 refine returnsInHanded_of_row (C:=Tryz.checked) (s:=OpenSpec.ofChange Rows.filesMoveSpec) own started (by kernel_rfl) Tryz.func6
  (witness_row_at (enc:=enc) (C:=Tryz.checked) false (laidWorld os) wargs rfl (by kernel_rfl) (by kernel_rfl) (by kernel_rfl)
   (OpenSpec.preRow_of_cond 8 hx (by kernel_rfl) (fun k hk=>by cases hk) (by kernel_rfl) (laid_met os))) ?_
 intro W base args ds gs before hval hW _ _ _ _ _ _
 exact contract D enc W base args ds gs before hval hW
theorem said:Rows.FilesMoveSaid :=
 OpenClaim.holds_of_cond 6 Tryz.f6 rfl rfl rfl rfl rfl rfl rfl ⟨rfl,rfl,rfl,rfl,rfl⟩ rfl rfl rfl rfl rfl (by kernel_rfl) Tryz.func6 (by kernel_rfl)
  (of_decide_eq_true (by kernel_rfl)) (by unfold Func.isWrapper;first | (rw[if_pos (by decide +kernel)];kernel_rfl) | (rw[if_neg (by decide +kernel)];exact⟨rfl,rfl⟩))
  (fun os started D enc _ F=>by rw[OpenClaim.pre_eq_preRow];exact lifted os started D enc F)
theorem plain (f:FuncId) (fn:Func) (hf:Tryz.pinned.checked.prog.funcNamed Rows.filesMoveRow.func=some f) (hfn:Tryz.pinned.checked.prog.funcs[f]? = some fn) :
 true=Tryz.pinned.checked.prog.looks [] /\ ∀ (j:Nat) t,fn.params[j]? = some t->Tryz.pinned.checked.prog.wantsStandIn t=false:=by
 obtain rfl:f=6:=Option.some.inj ((show Tryz.prog.funcNamed Rows.filesMoveRow.func=some 6 by kernel_rfl).symm.trans hf) |>.symm
 obtain rfl:fn=Tryz.f6:=(Option.some.inj (Tryz.func6.symm.trans hfn)).symm
 refine⟨by kernel_rfl,fun j t ht => ?_⟩
 rw[Tryz.params6]at ht
 have hm:=Array.mem_of_getElem? ht
 simp only[List.mem_toArray,List.mem_cons,List.mem_nil_iff,or_false]at hm
 rcases hm with rfl | rfl
 ·exact(show Tryz.prog.wantsStandIn 50=false by kernel_rfl)
 ·exact(show Tryz.prog.wantsStandIn 5=false by kernel_rfl)
end filesMove
theorem filesMove_holds:Rows.FilesMoveCardSaid :=
 Claim7.holds_tied_plain_at .later [] _ _ _ _ filesMove.said (fun _ h=>by cases h) (by kernel_rfl) (fun _ h=>by cases h) filesMove_row_tie rfl ⟨rfl,rfl⟩ (by kernel_rfl) rfl filesMove.plain (by kernel_rfl)
end Go.Proofs.YtbdlkofldmhoaaaGreatDoor

