/- A part of a proof. -/
import Derived.Test.YtgfiobhpipollaaGreatDoorOak
namespace Go.HL
open Go

def Gr (σ σ':H):Prop := ∀b o,σ b=some o->σ' b=some o
theorem Gr.refl (σ:H):Gr σ σ:=fun _ _ h=>h
theorem Gr.trans {σ₁ σ₂ σ₃:H} (h:Gr σ₁ σ₂) (k:Gr σ₂ σ₃):Gr σ₁ σ₃:=fun b o hb=>k b o (h b o hb)
theorem Gr.get {σ σ':H} (h:Gr σ σ') {b:Nat} {o:Obj} (hb:σ b=some o):σ' b=some o:=h b o hb
theorem Gr.put {σ:H} {b:Nat} (hb:σ b=none) (o:Obj):Gr σ (σ.put b o):=by
 intro c oc hc
 rw[H.put_other]
 ·exact hc
 ·intro e;subst e;rw[hb]at hc;cases hc
def L6 (σ:H) (b:Nat) (o:Obj) (σ':H):Prop:=σ'=σ.put b o
theorem L6.same {σ σ':H} {b:Nat} {o:Obj} (h:L6 σ b o σ'):σ' b=some o:=by rw[h,H.put_same]
theorem L6.get {σ σ':H} {b c:Nat} {o oc:Obj} (h:L6 σ b o σ') (hne:c≠b) (hc:σ c=some oc):σ' c=some oc:=by rw[h,H.put_other _ _ hne];exact hc
theorem o0 {σ:H} {b c:Nat} {o:Obj} (hb:σ b=some o) (hc:σ c=none):b≠c:=by
 intro e;subst e;rw[hb]at hc;cases hc

theorem I0.drop {σ σ' σ'':H} {w w':World} (h:I0 σ w σ' w') (hg:Gr σ'' σ'):I0 σ w σ'' w' :=
 ⟨fun b o hb=>h.le b o (hg b o hb),h.size,h.keep,fun b o hb hn=>h.own b o (hg b o hb) hn,h.os,h.tape,h.output⟩
section
variable {P : Program}
theorem A4.drop {f:FuncId} {args:List Value} {K K':KH} {σ:H} (h:A4 P f args K' σ) (hk:∀v σ',K' v σ' -> ∃σ'',Gr σ'' σ'/\K v σ''):A4 P f args K σ:=by
 intro w hw
 refine(h w hw).mono fun e w' ⟨v,he,σ',hx,hk'⟩ => ?_
 obtain⟨σ'',hg,hk''⟩:=hk v σ' hk'
 exact⟨v,he,σ'',hx.drop hg,hk''⟩
theorem A4.pure {f:FuncId} {args:List Value} {K:KH} {σ:H} {v:Value} (h:A4 P f args (fun u σ'=>u=v/\Gr σ σ') σ) (hk:K v σ):A4 P f args K σ :=
 h.drop fun _ _ ⟨hu,hg⟩=>⟨σ,hg,hu ▸ hk⟩
theorem x0 {obj:Obj} {g:Nat->H->Prop} {σ:H} (h:∀b σ',Gr σ σ'->σ' b=some obj->σ b=none->g b σ'):A9 obj g σ :=
 fun b hb=>h b _ (Gr.put hb obj) (H.put_same _ _ _) hb
theorem i6 {b o:Nat} {g:Nat->Nat->H->Prop} {σ:H} (h:g b o σ):j0 (some ⟨b,o,none⟩) g σ:=h
theorem l5 {c:Prop} {g:H->Prop} {σ:H} (hc:c) (h:g σ):w6 c g σ:=⟨hc,h⟩
theorem l3 {t:Bool} {A B:H->Prop} {σ:H} (ht:t=true) (h:A σ):l8 t A B σ:=by subst ht;exact h
theorem k9 {t:Bool} {A B:H->Prop} {σ:H} (ht:t=false) (h:B σ):l8 t A B σ:=by subst ht;exact h
theorem G8 {t:Bool} {A B:H->Prop} {σ:H} (h1:t=true->A σ) (h2:t=false->B σ):l8 t A B σ:=by cases t<;>simp_all [l8]
theorem F9 {c g:H->Prop} {σ:H} (h1:c σ) (h2:g σ):A2 c g σ:=⟨h1,h2⟩
theorem j_d {T:Type} {j:T} {f:T->H->Prop} {σ:H} (h:f j σ):w9 j f σ:=h
theorem S9 {T:Type} {j:T} {f:T->H->Prop} {σ:H} (Q:T->Prop) (h1:Q j) (h2:∀j,Q j->f j σ):w9 j f σ:=h2 j h1
theorem u5 {ks:List CK} {F:FnC ks (H->Prop)->FnC ks (H->Prop)} {st:FnC ks (H->Prop)->H->Prop} {σ:H} (h:∀R:FnC ks (H->Prop),leC ks (F R) R->st R σ):l9 ks F st σ:=h
theorem f0 {σ:H} {b o:Nat} {l:List Value} {t:TypeId} {fz:Nat×Nat} {v:Value} (h:σ b=some (.cells ⟨l⟩ t fz)) (hv:l[o]? = some v:=by rfl):s5 b o σ=some v:=by
 simp[s5,h,hv]
theorem aX8 {σ:H} {n b o:Nat} {l:List Value} {t:TypeId} {fz:Nat×Nat} (h:σ b=some (.cells ⟨l⟩ t fz)) (hv:o+n<=l.length):rdA n b o σ=some (.agg ⟨(l.drop o).take n⟩):=by
 simp[rdA,h,hv]
section
variable {σ : H} {r : H -> Option Value}
theorem E9 {n:Int} {k:IntKind} {F:Int->H->Prop} (h:r σ=some (.int k n)) (h2:F n σ):l4 r (.one (.sc (.int k))) F σ:=⟨_,h,by simp only[app,TK.prj,CK.prj,SK.prj,ax3,ah3];exact h2⟩
theorem aX9 {x:Bool} {F:Bool->H->Prop} (h:r σ=some (.bool x)) (h2:F x σ):l4 r (.one (.sc .bool)) F σ:=⟨_,h,h2⟩
theorem y8 {x:ByteArray} {F:ByteArray->H->Prop} (h:r σ=some (.string x)) (h2:F x σ):l4 r (.one (.sc .str)) F σ:=⟨_,h,h2⟩
theorem aH8 {x:Option Addr} {F:Option Addr->H->Prop} (h:r σ=some (.pointer x)) (h2:F x σ):l4 r (.one (.sc .ptr)) F σ:=⟨_,h,h2⟩
theorem A7 {x:Option Addr} {n c:Nat} {F:Sl->H->Prop} (h:r σ=some (.slice x n c)) (h2:F ⟨x,n,c⟩ σ):l4 r (.one (.sc .slc)) F σ:=⟨_,h,h2⟩
theorem aL1 {x:Option Nat} {F:Option Nat->H->Prop} (h:r σ=some (.map x)) (h2:F x σ):l4 r (.one (.sc .map)) F σ:=⟨_,h,h2⟩
theorem ag2 {x:Value} {F:Value->H->Prop} (h:r σ=some x) (h2:F x σ):l4 r (.one (.sc .raw)) F σ:=⟨_,h,h2⟩
theorem A3 {t:TK} {F:t.Fn (H->Prop)} {v:Value} (h:r σ=some v) (h2:app t F v σ):l4 r t F σ:=⟨_,h,h2⟩
theorem B6 {n:Int} {k:IntKind} {F:Int->H->Prop} (h2:F n σ):app (.one (.sc (.int k))) F (.int k n) σ:=by simp only[app,TK.prj,CK.prj,SK.prj,ax3,ah3];exact h2
theorem y7 {x:Bool} {F:Bool->H->Prop} (h2:F x σ):app (.one (.sc .bool)) F (.bool x) σ:=h2
theorem I1 {x:ByteArray} {F:ByteArray->H->Prop} (h2:F x σ):app (.one (.sc .str)) F (.string x) σ:=h2
theorem bu6 {x:Option Addr} {F:Option Addr->H->Prop} (h2:F x σ):app (.one (.sc .ptr)) F (.pointer x) σ:=h2
theorem Q7 {x:Option Addr} {n c:Nat} {F:Sl->H->Prop} (h2:F ⟨x,n,c⟩ σ):app (.one (.sc .slc)) F (.slice x n c) σ:=h2
theorem cA0 {x:Option Nat} {F:Option Nat->H->Prop} (h2:F x σ):app (.one (.sc .map)) F (.map x) σ:=h2
theorem ar0 {x:Value} {F:Value->H->Prop} (h2:F x σ):app (.one (.sc .raw)) F x σ:=h2
theorem O9 {F:H->Prop} (h2:F σ):app (.tup []) F (.tuple ⟨[]⟩) σ:=h2
theorem aa9 {a b:Int} {k k':IntKind} {F:Int->Int->H->Prop} (h2:F a b σ):app (.tup [.sc (.int k),.sc (.int k')]) F (.tuple ⟨[.int k a,.int k' b]⟩) σ:=by
 simp only[app,TK.prj,CK.prj,SK.prj,ax3,ah3,bt8,ak4];exact h2
theorem co7 {a:Int} {b:Bool} {k:IntKind} {F:Int->Bool->H->Prop} (h2:F a b σ):app (.tup [.sc (.int k),.sc .bool]) F (.tuple ⟨[.int k a,.bool b]⟩) σ:=by
 simp only[app,TK.prj,CK.prj,SK.prj,ax3,ah3,bt8,ak4,aW9];exact h2
end
theorem i7 {f:FuncId} {args:List Value} {t:TK} {F:t.Fn (H->Prop)} {σ:H} (h:A4 P f args (app t F) σ):C1 P f args t F σ:=h
theorem O6 {g:FuncId} {as0 cs vs:List Value} {t:TK} {F:t.Fn (H->Prop)} {σ:H} (hg:I3 P g=true) (h:A4 P g (as0++vs++cs) (app t F) σ):y6 P (.func (.func g) ⟨as0⟩ ⟨cs⟩) vs t F σ:=by
 unfold y6 u7;simp only[hg];exact h

theorem ag3 {fv:Value} {vs:List Value} {t:TK} {F:t.Fn (H->Prop)} {σ:H} (h:u7 P fv vs (app t F) σ):y6 P fv vs t F σ:=h

theorem ab0 {b:Nat} {t:TypeId} {fz:Nat×Nat} {o:Nat} : ∀ (vs:List Value) (i:Nat) (l:List Value) (w:World),w.heap[b]? = some (.cells ⟨l⟩ t fz)->o+i+vs.length<=l.length->(∀v∈vs,v.oneCell'=true)->(fz.2<=fz.1\/l.length<=fz.1) ->
 (storeCells ⟨b,o,none⟩ vs i).run P w = .ok () { w with heap:=w.heap.setIfInBounds b (.cells ⟨l.take (o+i)++vs++l.drop (o+i+vs.length)⟩ t fz) }:=by
 intro vs
 induction vs with
 | nil =>
  intro i l w hb _ _ _
  have:(w.heap.setIfInBounds b (.cells ⟨l.take (o+i)++[]++l.drop (o+i+0)⟩ t fz))=w.heap:=by
   simp only[J1,Nat.add_zero,List.take_append_drop]
   have hlt:b<w.heap.size:=(Array.getElem?_eq_some_iff.1 hb).1
   apply Array.ext_getElem?
   intro k
   rw[Array.getElem?_setIfInBounds]
   split
   ·rename_i e;subst e;rw[hb]
   ·rfl
  simp only[H3,this,storeCells]
  rfl
 | cons v vs ih =>
  intro i l w hb hlen h1 hfz
  simp only[y5]at hlen
  have hi:o+i<l.length:=by omega
  have hcell:w.cell? ⟨b,o+i,none⟩=some l[o+i]:=by simp[World.cell?,hb,hi]
  have hfro:w.frozen? ⟨b,o+i,none⟩=false:=by
   simp only[World.frozen?,hb,Bool.and_eq_false_iff,C2]
   obtain⟨lo,hi'⟩:=fz
   simp only at hfz ⊢
   omega
  have hset:w.setCell ⟨b,o+i,none⟩ v={ w with heap:=w.heap.setIfInBounds b (.cells ⟨l.set (o+i) v⟩ t fz) }:=by
   have hlt:b<w.heap.size:=(Array.getElem?_eq_some_iff.1 hb).1
   unfold World.setCell
   congr 1
   apply Array.ext_getElem?
   intro k
   rw[Array.getElem?_setIfInBounds,Array.getElem?_modify]
   split
   ·rename_i e;subst e;rw[hb];simp
   ·rfl
  have hst:(store ((⟨b,o,none⟩:Addr).add i) v).run P w = .ok () { w with heap:=w.heap.setIfInBounds b (.cells ⟨l.set (o+i) v⟩ t fz) }:=by
   rw[W0,run_store P w _ v _ (h1 v (by simp)),hcell]
   simp[hfro,hset]
  have hlt:b<w.heap.size:=(Array.getElem?_eq_some_iff.1 hb).1
  have:=ih (i+1) (l.set (o+i) v) { w with heap:=w.heap.setIfInBounds b (.cells ⟨l.set (o+i) v⟩ t fz) } (by simp[hlt]) (by simp;omega) (fun x hx=>h1 x (by simp[hx])) (by simpa using hfz)
  simp only[storeCells,Sem.run_bind,hst,Result.andThen_ok,this]
  congr 2
  have e1 : ∀ (x y:Obj),(w.heap.setIfInBounds b x).setIfInBounds b y=w.heap.setIfInBounds b y:=by intro x y;simp
  rw[e1]
  congr 2
  congr 1
  have e2:l.set (o+i) v=l.take (o+i)++v::l.drop (o+i+1):=by
   rw[List.set_eq_take_append_cons_drop,d9 hi]
  have e3:(l.take (o+i)).length=o+i:=by simp;omega
  have e4:(l.set (o+i) v).take (o+(i+1))=l.take (o+i)++[v]:=by
   rw[e2,show o+(i+1)=(l.take (o+i)).length+1 by omega,List.take_length_add_append];simp
  have e5:(l.set (o+i) v).drop (o+(i+1)+vs.length)=l.drop (o+i+(vs.length+1)):=by
   rw[e2,show o+(i+1)+vs.length=(l.take (o+i)).length+(vs.length+1)by omega,List.drop_length_add_append]
   simp only[List.drop_succ_cons,List.drop_drop]
   congr 1;omega
  rw[e4,e5];simp
theorem ar1 {t:TypeId} {b o:Nat} {v:Value} {g:H->Prop} {σ:H} {l:List Value} {e:TypeId} {fz:Nat×Nat} (hb:σ b=some (.cells ⟨l⟩ e fz)) (hs:sizeT P t=some (L5 v.cells).length) (ho:o+(L5 v.cells).length<=l.length)
 (h1:∀x∈L5 v.cells,x.oneCell'=true) (hfz:fz.2<=fz.1\/l.length<=fz.1) (h:∀σ',L6 σ b (.cells ⟨l.take o++L5 v.cells++l.drop (o+(L5 v.cells).length)⟩ e fz) σ'->g σ'):U3 P t (.pointer (some ⟨b,o,none⟩)) v g σ:=by
 intro w hw
 have hrun:(doS (Instr.storeAt t (.pointer (some ⟨b,o,none⟩)) v)).run P w = .ok .skip { w with heap:=w.heap.setIfInBounds b (.cells ⟨l.take o++L5 v.cells++l.drop (o+(L5 v.cells).length)⟩ e fz) }:=by
  have hsz:v.cells.size=(L5 v.cells).length:=by cases hc:v.cells;simp[L5]
  have hl:v.cells.toList=L5 v.cells:=by cases hc:v.cells;simp[L5]
  have:=ab0 (P:=P) (o:=o) (L5 v.cells) 0 l w (hw b _ hb) (by simpa using ho) h1 hfz
  simp only[Nat.add_zero]at this
  simp only[doS,Instr.storeAt,Sem.run_bind,aa7,Result.andThen_ok,storeVar,S7 hs,hsz,ne_eq,not_true_eq_false,if_false,hl,this]
  rfl
 rw[hrun]
 exact⟨_,I0.set hw hb rfl rfl rfl rfl,h _ rfl⟩
theorem cl0 {t:TypeId} {b o:Nat} {v:Value} {g:H->Prop} {σ:H} {l:List Value} {e:TypeId} (hb:σ b=some (.cells ⟨l⟩ e (0,0))) (hs:sizeT P t=some (L5 v.cells).length) (ho:Nat.ble (o+(L5 v.cells).length) l.length=true)
 (h1:(L5 v.cells).all (·.oneCell')=true) (h:∀σ',L6 σ b (.cells ⟨l.take o++L5 v.cells++l.drop (o+(L5 v.cells).length)⟩ e (0,0)) σ'->g σ'):U3 P t (.pointer (some ⟨b,o,none⟩)) v g σ :=
 ar1 hb hs (Nat.le_of_ble_eq_true ho) (fun x hx=>Q2.1 h1 x hx) (.inl (A6 _)) h
end
theorem l7 {σ:H} {n b o:Nat} {l r:List Value} {t:TypeId} {fz:Nat×Nat} (h:σ b=some (.cells ⟨l⟩ t fz)) (hv:(bif Nat.ble (o+n) l.length then some ((l.drop o).take n)else none)=some r:=by rfl):rdA n b o σ=some (.agg ⟨r⟩):=by
 cases hb:Nat.ble (o+n) l.length with
 | false=>rw[hb]at hv;cases hv
 | true =>
  rw[hb]at hv;cases hv
  exact aX8 h (Nat.le_of_ble_eq_true hb)
theorem C3 {σ σ':H} {b:Nat} (hg:Gr σ σ') (h:σ' b=none):σ b=none:=by
 cases hc:σ b with
 | none=>rfl
 | some o=>rw[hg b o hc]at h;cases h
theorem Gr.putF {σ σ1 σ2:H} {b:Nat} {o:Obj} (hg:Gr σ σ1) (hp:L6 σ1 b o σ2) (hn:σ b=none):Gr σ σ2:=by
 intro c oc hc
 exact hp.get (o0 hc hn) (hg c oc hc)
theorem B7 {P:Program} {f:FuncId} {args:List Value} {K:KH} {σ:H} (v:Value) (hk:K v σ) (h:A4 P f args (fun u σ'=>u=v/\Gr σ σ') σ):A4 P f args K σ:=A4.pure h hk
end Go.HL

