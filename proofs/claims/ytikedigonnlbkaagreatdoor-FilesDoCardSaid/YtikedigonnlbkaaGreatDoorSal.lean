/- A part of a proof. -/
import Derived.Test.YtikedigonnlbkaaGreatDoorSak
namespace Go.HL
open Go

def Gr(Y Y':H):Prop:=∀b o,Y b=some o->Y' b=some o
theorem Gr.refl(Y:H):Gr Y Y:=fun _ _ h=>h
theorem Gr.trans{Y₁ Y₂ Y₃:H}(h:Gr Y₁ Y₂)(k:Gr Y₂ Y₃):Gr Y₁ Y₃:=fun b o hb=>k b o (h b o hb)
theorem Gr.get{Y Y':H}(h:Gr Y Y'){b:Nat}{o:Obj}(hb:Y b=some o):Y' b=some o:=h b o hb
theorem Gr.put{Y:H}{b:Nat}(hb:Y b=none)(o:Obj):Gr Y (Y.put b o):=by
 intro c oc hc;rw[H.put_other]
 ·exact hc
 ·intro e;subst e;rw[hb]at hc;cases hc
def P1(Y:H)(b:Nat)(o:Obj)(Y':H):Prop:=Y'=Y.put b o
theorem P1.same{Y Y':H}{b:Nat}{o:Obj}(h:P1 Y b o Y'):Y' b=some o:=by rw[h,H.put_same]
theorem P1.get{Y Y':H}{b c:Nat}{o oc:Obj}(h:P1 Y b o Y')(ia:c≠b)(hc:Y c=some oc):Y' c=some oc:=by rw[h,H.put_other _ _ ia];exact hc
theorem ae3{Y:H}{b c:Nat}{o:Obj}(hb:Y b=some o)(hc:Y c=none):b≠c:=by
 intro e;subst e;rw[hb]at hc;cases hc

theorem X7.drop{Y Y' Y'':H}{w w':World}(h:X7 Y w Y' w')(hg:Gr Y'' Y'):X7 Y w Y'' w' :=
 ⟨fun b o hb=>h.le b o (hg b o hb),h.size,h.keep,fun b o hb hn=>h.own b o (hg b o hb) hn,h.os,h.tape,h.output⟩
section
variable {P:Program}
theorem E2.drop{f:FuncId}{args:List u9}{K K':KH}{Y:H}(h:E2 P f args K' Y)(hk:∀v Y',K' v Y'->∃Y'',Gr Y'' Y'/\K v Y''):E2 P f args K Y:=by
 intro w hw;refine(h w hw).mono fun e w' ⟨v,he,Y',hx,nv⟩=>?_;obtain⟨Y'',hg,so⟩:=hk v Y' nv;exact⟨v,he,Y'',hx.drop hg,so⟩
theorem J1.drop{s:Sem Next}{K K':KH}{Y:H}(h:J1 P s K' Y)(hk:∀v Y',K' v Y'->∃Y'',Gr Y'' Y'/\K v Y''):J1 P s K Y:=by
 intro w hw;refine(h w hw).mono fun v w' ⟨Y',hx,nv⟩=>?_;obtain⟨Y'',hg,so⟩:=hk v Y' nv;exact⟨Y'',hx.drop hg,so⟩
theorem E2.pure{f:FuncId}{args:List u9}{K:KH}{Y:H}{v:u9}(h:E2 P f args (fun u Y'=>u=v/\Gr Y Y') Y)(hk:K v Y):E2 P f args K Y :=
 h.drop fun _ _ ⟨hu,hg⟩=>⟨Y,hg,hu ▸ hk⟩
theorem E2.from{f:FuncId}{args:List u9}{K:KH}{Y V:H}(hg:Gr V Y)(h:E2 P f args K V):E2 P f args (fun v Y'=>∃V',K v V'/\Gr V' Y'/\∀b o,V b=none->Y b=some o->Y' b=some o) Y:=by
 intro w hw;have hτ:V.le w:=fun b o hb=>hw b o (hg b o hb);refine(h w hτ).mono fun e w' ⟨v,he,V',hx,hk⟩=>?_;have hS:∃S:H,(∀b o,V b=some o->S b=V' b)/\∀b,V b=none->S b=(Y b).or (V' b) :=
  ⟨fun b=>if(V b).isSome then V' b else(Y b).or (V' b),fun b o hb=>by simp[hb],fun b hb=>by simp[hb]⟩
 obtain⟨S,zn,yg⟩:=hS;have hsz:∀b o,Y b=some o->b<w.heap.size:=fun b o hb=>hw.lt hb;refine⟨v,he,S,⟨fun b o hb=>?_,hx.size,fun b hb hn=>?_,fun b o hb hn=>?_,hx.os,hx.tape,hx.output⟩,V',hk,?_,?_⟩
 ·cases ht:V b with
  |some o'=>rw[zn b o' ht]at hb;exact hx.le b o hb
  |none =>
   rw[yg b ht]at hb;cases hs:Y b with
   |none=>rw[hs]at hb;simp at hb;exact hx.le b o hb
   |some o'=>rw[hs]at hb;simp at hb;subst hb;rw[hx.keep b (hsz b o' hs) ht];exact hw b o' hs
 ·refine hx.keep b hb ?_;cases ht:V b with
  |none=>rfl
  |some o=>rw[hg b o ht]at hn;cases hn
 ·have kw : V b = none := by
   cases ht:V b with
   |none=>rfl
   |some o=>rw[hg b o ht]at hn;cases hn
  rw[yg b kw,hn]at hb;simp at hb;exact hx.own b o hb kw
 ·intro b o hb;cases ht:V b with
  |some o'=>rw[zn b o' ht];exact hb
  |none =>
   rw[yg b ht];cases hs:Y b with
   |none=>simpa using hb
   |some o'=>have:=hx.own b o hb ht;have:=hsz b o' hs;omega
 ·intro b o hb hs;rw[yg b hb,hs];rfl

theorem A5{obj:Obj}{g:Nat->H->Prop}{Y:H}(h:∀b Y',Gr Y Y'->Y' b=some obj->Y b=none->g b Y'):H0 obj g Y :=
 fun b hb=>h b _ (Gr.put hb obj) (H.put_same _ _ _) hb
theorem j0{b o:Nat}{g:Nat->Nat->H->Prop}{Y:H}(h:g b o Y):i9 (some ⟨b,o,none⟩) g Y:=h
theorem D0{c:Prop}{g:H->Prop}{Y:H}(hc:c)(h:g Y):E3 c g Y:=⟨hc,h⟩
theorem l9{t:Bool}{A B:H->Prop}{Y:H}(ht:t=true)(h:A Y):A0 t A B Y:=by subst ht;exact h
theorem l7{t:Bool}{A B:H->Prop}{Y:H}(ht:t=false)(h:B Y):A0 t A B Y:=by subst ht;exact h
theorem aa6{c g:H->Prop}{Y:H}(h1:c Y)(h2:g Y):I9 c g Y:=⟨h1,h2⟩
theorem j_d{T:Type}{j:T}{f:T->H->Prop}{Y:H}(h:f j Y):C0 j f Y:=h
theorem K5{T:Type}{j:T}{f:T->H->Prop}{Y:H}(Q:T->Prop)(h1:Q j)(h2:∀j,Q j->f j Y):C0 j f Y:=h2 j h1
theorem H9{ks:List CK}{F:FnC ks (H->Prop)->FnC ks (H->Prop)}{st:FnC ks (H->Prop)->H->Prop}{Y:H}(h:∀R:FnC ks (H->Prop),leC ks (F R) R->st R Y):C9 ks F st Y:=h
theorem f0{Y:H}{b o:Nat}{l:List u9}{t:TypeId}{fz:Nat×Nat}{v:u9}(h:Y b=some (.cells ⟨l⟩ t fz))(hv:l[o]?=some v:=by rfl):m8 b o Y=some v:=by
 simp[m8,h,hv]
theorem bV9{Y:H}{n b o:Nat}{l:List u9}{t:TypeId}{fz:Nat×Nat}(h:Y b=some (.cells ⟨l⟩ t fz))(hv:o+n<=l.length):rdA n b o Y=some (.agg ⟨(l.drop o).take n⟩):=by
 simp[rdA,h,hv]
section
variable {Y:H} {r:H->Option u9}
theorem D1{n:Int}{k:IntKind}{F:Int->H->Prop}(h:r Y=some (.int k n))(h2:F n Y):l8 r (.one (.sc (.int k))) F Y:=⟨_,h,by simp only[app,TK.prj,CK.prj,SK.prj,aw6,ak5];exact h2⟩
theorem an2{x:Bool}{F:Bool->H->Prop}(h:r Y=some (.bool x))(h2:F x Y):l8 r (.one (.sc .bool)) F Y:=⟨_,h,h2⟩
theorem C6{x:d9}{F:d9->H->Prop}(h:r Y=some (.string x))(h2:F x Y):l8 r (.one (.sc .str)) F Y:=⟨_,h,h2⟩
theorem E9{x:m9}{F:m9->H->Prop}(h:r Y=some (.pointer x))(h2:F x Y):l8 r (.one (.sc .ptr)) F Y:=⟨_,h,h2⟩
theorem U6{x:m9}{n c:Nat}{F:Sl->H->Prop}(h:r Y=some (.slice x n c))(h2:F ⟨x,n,c⟩ Y):l8 r (.one (.sc .slc)) F Y:=⟨_,h,h2⟩
theorem cF2{x:Option Nat}{F:Option Nat->H->Prop}(h:r Y=some (.map x))(h2:F x Y):l8 r (.one (.sc .map)) F Y:=⟨_,h,h2⟩
theorem bK3{x:u9}{F:u9->H->Prop}(h:r Y=some x)(h2:F x Y):l8 r (.one (.sc .raw)) F Y:=⟨_,h,h2⟩
theorem N8{t:TK}{F:t.Fn (H->Prop)}{v:u9}(h:r Y=some v)(h2:app t F v Y):l8 r t F Y:=⟨_,h,h2⟩
theorem C4{n:Int}{k:IntKind}{F:Int->H->Prop}(h2:F n Y):app (.one (.sc (.int k))) F (.int k n) Y:=by simp only[app,TK.prj,CK.prj,SK.prj,aw6,ak5];exact h2
theorem H2{x:Bool}{F:Bool->H->Prop}(h2:F x Y):app (.one (.sc .bool)) F (.bool x) Y:=h2
theorem ab2{x:d9}{F:d9->H->Prop}(h2:F x Y):app (.one (.sc .str)) F (.string x) Y:=h2
theorem am7{x:m9}{F:m9->H->Prop}(h2:F x Y):app (.one (.sc .ptr)) F (.pointer x) Y:=h2
theorem ak0{x:m9}{n c:Nat}{F:Sl->H->Prop}(h2:F ⟨x,n,c⟩ Y):app (.one (.sc .slc)) F (.slice x n c) Y:=h2
theorem cF3{x:Option Nat}{F:Option Nat->H->Prop}(h2:F x Y):app (.one (.sc .map)) F (.map x) Y:=h2
theorem ae4{x:u9}{F:u9->H->Prop}(h2:F x Y):app (.one (.sc .raw)) F x Y:=h2
theorem U9{F:H->Prop}(h2:F Y):app (.tup []) F (.tuple ⟨[]⟩) Y:=h2
theorem bv4{a b:Int}{k k':IntKind}{F:Int->Int->H->Prop}(h2:F a b Y):app (.tup [.sc (.int k),.sc (.int k')]) F (.tuple ⟨[.int k a,.int k' b]⟩) Y:=by
 simp only[app,TK.prj,CK.prj,SK.prj,aw6,ak5,bi9,ar7];exact h2
theorem am4{a:Int}{b:Bool}{k:IntKind}{F:Int->Bool->H->Prop}(h2:F a b Y):app (.tup [.sc (.int k),.sc .bool]) F (.tuple ⟨[.int k a,.bool b]⟩) Y:=by
 simp only[app,TK.prj,CK.prj,SK.prj,aw6,ak5,bi9,ar7,bc1];exact h2
end
theorem l5{f:FuncId}{args:List u9}{t:TK}{F:t.Fn (H->Prop)}{Y:H}(h:E2 P f args (app t F) Y):J0 P f args t F Y:=h
theorem ar9{g:FuncId}{as0 cs vs:List u9}{t:TK}{F:t.Fn (H->Prop)}{Y:H}(hg:Z0 P g=true)(h:E2 P g (as0++vs++cs) (app t F) Y):G8 P (.func (.func g) ⟨as0⟩ ⟨cs⟩) vs t F Y:=by
 unfold G8 D3;simp only[hg];exact h

theorem al1{fv:u9}{vs:List u9}{t:TK}{F:t.Fn (H->Prop)}{Y:H}(h:D3 P fv vs (app t F) Y):G8 P fv vs t F Y:=h

theorem aE7{b:Nat}{t:TypeId}{fz:Nat×Nat}{o:Nat}:∀ (vs:List u9) (i:Nat) (l:List u9) (w:World),w.heap[b]?=some (.cells ⟨l⟩ t fz)->o+i+vs.length<=l.length->(∀v∈vs,v.oneCell'=true)->(fz.2<=fz.1\/l.length<=fz.1) ->
 (storeCells ⟨b,o,none⟩ vs i).run P w=.ok () {w with heap:=w.heap.setIfInBounds b (.cells ⟨l.take (o+i)++vs++l.drop (o+i+vs.length)⟩ t fz)}:=by
 intro vs
 induction vs with
 |nil =>
  intro i l w hb _ _ _;have:(w.heap.setIfInBounds b (.cells ⟨l.take (o+i)++[]++l.drop (o+i+0)⟩ t fz))=w.heap:=by
   simp only[ac3,Nat.add_zero,List.take_append_drop];have iw:b<w.heap.size:=(Array.getElem?_eq_some_iff.1 hb).1;apply Array.ext_getElem?;intro k;rw[Array.getElem?_setIfInBounds];split
   ·rename_i e;subst e;rw[hb]
   ·rfl
  simp only[ao8,this,storeCells]
  rfl
 |cons v vs ih =>
  intro i l w hb ib h1 Ed;simp only[H4]at ib;have hi:o+i<l.length:=by omega
  have qy:w.cell? ⟨b,o+i,none⟩=some l[o+i]:=by simp[World.cell?,hb,hi]
  have hfro:w.frozen? ⟨b,o+i,none⟩=false:=by
   simp only[World.frozen?,hb,Bool.and_eq_false_iff,K6];obtain⟨lo,xz⟩:=fz;simp only at Ed⊢;omega
  have kq:w.setCell ⟨b,o+i,none⟩ v={w with heap:=w.heap.setIfInBounds b (.cells ⟨l.set (o+i) v⟩ t fz)}:=by
   have iw:b<w.heap.size:=(Array.getElem?_eq_some_iff.1 hb).1;unfold World.setCell
   congr 1
   apply Array.ext_getElem?;intro k;rw[Array.getElem?_setIfInBounds,Array.getElem?_modify];split
   ·rename_i e;subst e;rw[hb];simp
   ·rfl
  have kn:(store ((⟨b,o,none⟩:Addr).add i) v).run P w=.ok () {w with heap:=w.heap.setIfInBounds b (.cells ⟨l.set (o+i) v⟩ t fz)}:=by
   rw[ai2,run_store P w _ v _ (h1 v (by simp)),qy];simp[hfro,kq]
  have iw:b<w.heap.size:=(Array.getElem?_eq_some_iff.1 hb).1;have:=ih (i+1) (l.set (o+i) v) {w with heap:=w.heap.setIfInBounds b (.cells ⟨l.set (o+i) v⟩ t fz)} (by simp[iw]) (by simp;omega) (fun x hx=>h1 x (by simp[hx])) (by simpa using Ed);simp only[storeCells,Sem.run_bind,kn,Result.andThen_ok,this]
  congr 2
  have e1:∀ (x y:Obj),(w.heap.setIfInBounds b x).setIfInBounds b y=w.heap.setIfInBounds b y:=by intro x y;simp
  rw[e1]
  congr 2
  congr 1
  have e2:l.set (o+i) v=l.take (o+i)++v::l.drop (o+i+1):=by
   rw[List.set_eq_take_append_cons_drop,d8 hi]
  have e3:(l.take (o+i)).length=o+i:=by simp;omega
  have e4:(l.set (o+i) v).take (o+(i+1))=l.take (o+i)++[v]:=by
   rw[e2,show o+(i+1)=(l.take (o+i)).length+1 by omega,List.take_length_add_append];simp
  have e5:(l.set (o+i) v).drop (o+(i+1)+vs.length)=l.drop (o+i+(vs.length+1)):=by
   rw[e2,show o+(i+1)+vs.length=(l.take (o+i)).length+(vs.length+1)by omega,List.drop_length_add_append];simp only[List.drop_succ_cons,List.drop_drop]
   congr 1;omega
  rw[e4,e5];simp
theorem de1{t:TypeId}{b o:Nat}{v:u9}{g:H->Prop}{Y:H}{l:List u9}{e:TypeId}{fz:Nat×Nat}(hb:Y b=some (.cells ⟨l⟩ e fz))(hs:E6 P t=some (aa5 v.cells).length)(ho:o+(aa5 v.cells).length<=l.length)
 (h1:∀x∈aa5 v.cells,x.oneCell'=true) (Ed:fz.2<=fz.1\/l.length<=fz.1) (h:∀Y',P1 Y b (.cells ⟨l.take o++aa5 v.cells++l.drop (o+(aa5 v.cells).length)⟩ e fz) Y'->g Y'):stW P t (.pointer (some ⟨b,o,none⟩)) v g Y:=by
 intro w hw;have iv:(doS (Instr.storeAt t (.pointer (some ⟨b,o,none⟩)) v)).run P w=.ok .skip {w with heap:=w.heap.setIfInBounds b (.cells ⟨l.take o++aa5 v.cells++l.drop (o+(aa5 v.cells).length)⟩ e fz)}:=by
  have hsz:v.cells.size=(aa5 v.cells).length:=by cases hc:v.cells;simp[aa5]
  have hl:v.cells.toList=aa5 v.cells:=by cases hc:v.cells;simp[aa5]
  have:=aE7 (P:=P) (o:=o) (aa5 v.cells) 0 l w (hw b _ hb) (by simpa using ho) h1 Ed;simp only[Nat.add_zero]at this;simp only[doS,Instr.storeAt,Sem.run_bind,ai4,Result.andThen_ok,storeVar,X3 hs,hsz,ne_eq,not_true_eq_false,if_false,hl,this]
  rfl
 rw[iv];exact⟨_,X7.set hw hb rfl rfl rfl rfl,h _ rfl⟩
theorem aX3{t:TypeId}{b o:Nat}{v:u9}{g:H->Prop}{Y:H}{l:List u9}{e:TypeId}(hb:Y b=some (.cells ⟨l⟩ e (0,0)))(hs:E6 P t=some (aa5 v.cells).length)(ho:Nat.ble (o+(aa5 v.cells).length) l.length=true)
 (h1:(aa5 v.cells).all (·.oneCell')=true) (h:∀Y',P1 Y b (.cells ⟨l.take o++aa5 v.cells++l.drop (o+(aa5 v.cells).length)⟩ e (0,0)) Y'->g Y'):stW P t (.pointer (some ⟨b,o,none⟩)) v g Y :=
 de1 hb hs (Nat.le_of_ble_eq_true ho) (fun x hx=>X2.1 h1 x hx) (.inl (A7 _)) h
end
theorem D4{Y:H}{n b o:Nat}{l r:List u9}{t:TypeId}{fz:Nat×Nat}(h:Y b=some (.cells ⟨l⟩ t fz))(hv:(bif Nat.ble (o+n) l.length then some ((l.drop o).take n)else none)=some r:=by rfl):rdA n b o Y=some (.agg ⟨r⟩):=by
 cases hb:Nat.ble (o+n) l.length with
 |false=>rw[hb]at hv;cases hv
 |true =>
  rw[hb]at hv;cases hv;exact bV9 h (Nat.le_of_ble_eq_true hb)
theorem A9{Y Y':H}{b:Nat}(hg:Gr Y Y')(h:Y' b=none):Y b=none:=by
 cases hc:Y b with
 |none=>rfl
 |some o=>rw[hg b o hc]at h;cases h
theorem Gr.putF{Y Y1 Y2:H}{b:Nat}{o:Obj}(hg:Gr Y Y1)(hp:P1 Y1 b o Y2)(hn:Y b=none):Gr Y Y2:=by
 intro c oc hc;exact hp.get (ae3 hc hn) (hg c oc hc)
theorem aa7{P:Program}{f:FuncId}{args:List u9}{K:KH}{Y:H}(v:u9)(hk:K v Y)(h:E2 P f args (fun u Y'=>u=v/\Gr Y Y') Y):E2 P f args K Y:=E2.pure h hk
end Go.HL

