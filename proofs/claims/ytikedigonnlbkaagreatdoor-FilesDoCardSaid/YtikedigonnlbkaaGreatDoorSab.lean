/- A part of a proof. -/
import Derived.Test.YtikedigonnlbkaaGreatDoorSaa
import Derived.OrdersIn
namespace Go.HL
open Go

@[reducible] def FW (ro:Option Nat):Fence:={fn:=fun _=>True,depth:=none,alive:=false,round:=ro}
def au4:Op->Bool
 |.select _ _|.defer _|.go _=>false
 |_=>true

def RdS(P:Program)(s:Sem Next)(Y:H)(v:u9):Prop:=∀w,Y.le w->s.run P w=.ok (.value v) w
def Sil(P:Program)(s:Sem Next)(v:u9):Prop:=∀w,s.run P w=.ok (.value v) w
def cj8(P:Program)(s:Sem Next)(mk:Nat->u9)(obj:Obj):Prop:=∀w:World,s.run P w=.ok (.value (mk w.heap.size)) (w.alloc obj)
def Fin(Y:H):Prop:=∃n,∀b,n<=b->Y b=none

theorem Fin.of_le{Y:H}{w:World}(h:Y.le w):Fin Y:=⟨w.heap.size,fun b hb=>by
 cases hc:Y b with
 |none=>rfl
 |some o=>have:=h.lt hc;omega⟩
theorem Fin.put{Y:H}(h:Fin Y)(b:Nat)(o:Obj):Fin (Y.put b o):=by
 obtain⟨n,hn⟩:=h;refine⟨max n (b+1),fun c hc=>?_⟩;rw[H.put_other _ _ (by omega)];exact hn c (by omega)
theorem Fin.world{Y:H}(h:Fin Y):∃w:World,Y.le w:=by
 obtain⟨n,hn⟩:=h;refine⟨{heap:=Array.ofFn (n:=n) fun i=>(Y i).getD default,tape:=fun _ _=>0,drawn:=0,os:=default,output := #[]},fun b o hb=>?_⟩;have iw:b<n:=by
  rcases U8 b n with h|h
  ·exact h
  ·rw[hn b h]at hb;cases hb
 simp[iw,hb]
theorem Fin.fresh{Y:H}(h:Fin Y):∃b,Y b=none:=by obtain⟨n,hn⟩:=h;exact⟨n,hn n (A7 _)⟩

theorem RdS.put{P:Program}{s:Sem Next}{Y:H}{v:u9}(h:RdS P s Y v){b:Nat}{o:Obj}(hb:Y b=none):RdS P s (Y.put b o) v :=
 fun w hw=>h w (H.le_of_put hb hw)

theorem aq5.out{P:Program}{R:u9->World->Prop}{x:Result Next}(h:aq5 P R x):∃v w,R v w:=by
 unfold aq5 at h;split at h
 ·exact⟨_,_,h⟩
 ·exact⟨_,_,h⟩
 ·obtain⟨_,hh⟩:=h;obtain⟨e,w',fr,⟨v,_,hr⟩,_⟩:=hh [] (room_wide _);exact⟨v,w',hr⟩
 ·obtain⟨_,hh⟩:=h;obtain⟨e,w',⟨v,_,hr⟩,_⟩:=hh default [] (room_wide _);exact⟨v,w',hr⟩
 ·exact h.elim
theorem J1.out{P:Program}{s:Sem Next}{K:KH}{Y:H}(h:J1 P s K Y)(hf:Fin Y):∃v Y',K v Y':=by
 obtain⟨w,hw⟩:=hf.world;obtain⟨v,w',Y',_,hk⟩:=(h w hw).out;exact⟨v,Y',hk⟩
theorem J1.fin{P:Program}{s:Sem Next}{K:KH}{Y:H}(h:J1 P s K Y):J1 P s (fun v Y'=>Fin Y'/\K v Y') Y :=
 fun w hw=>(h w hw).mono fun _ _ ⟨Y',he,hk⟩=>⟨Y',he,Fin.of_le he.le,hk⟩

section
variable (P:Program) (ops:Array Oper) (cl:Nat->Nat) (A:Nat->Nat->Bool)

abbrev Pq:=List (Nat×Sem Next×u9)
def aw5(K:Pq->Act->H->Prop):Prop:=∀ (p p':Pq) (a:Act) (Y:H),(∀q∈p',q∈p)->K p a Y->K p' a Y
def K1:List (Nat×Sem Next×u9)->List Nat->Act->(Pq->Act->H->Prop)->H->Prop
 |p,[],a,K,Y=>K p a Y
 |pend,i::l,a,K,Y=>∃o,ops[i]?=some o/\au4 o.op=true /\
  if Region.wanted o (yielded ops a.tmps) then
   match cl i with
   |0=>∃v,Sil P (execOp a.eval o) v/\K1 pend l (a.put o.dst v) K Y
   |1=>∃v,RdS P (execOp a.eval o) Y v/\K1 ((i,execOp a.eval o,v)::pend) l (a.put o.dst v) K Y
   |2=>∃mk obj,cj8 P (execOp a.eval o) mk obj/\∀b,Y b=none->K1 pend l (a.put o.dst (mk b)) K (Y.put b obj)
   |_=>J1 P (execOp a.eval o) (fun v Y'=>(∀q∈pend,A q.1 i=true\/RdS P q.2.1 Y' q.2.2)/\K1 pend l (a.put o.dst v) K Y') Y
  else K1 pend l (a.put o.dst undef) K Y
end
section
variable {P:Program} {ops:Array Oper} {cl:Nat->Nat} {A:Nat->Nat->Bool}

theorem K1.pend{l:List Nat}:∀ {p p':List (Nat×Sem Next×u9)} {a:Act} {K:Pq->Act->H->Prop} {Y:H},aw5 K->(∀q∈p',q∈p)->K1 P ops cl A p l a K Y->K1 P ops cl A p' l a K Y:=by
 induction l with
 |nil=>intro p p' a K Y hm hs h;exact hm _ _ _ _ hs h
 |cons i l ih =>
  intro p p' a K Y hm hs h;obtain⟨o,ho,hp,h⟩:=h;refine⟨o,ho,hp,?_⟩;split at h
  ·rename_i hw;rw[d8 hw];split at h
   ·obtain⟨v,hv,h⟩:=h;exact⟨v,hv,ih hm hs h⟩
   ·obtain⟨v,hv,h⟩:=h;refine⟨v,hv,ih hm (fun q hq=>?_) h⟩;cases hq with
    |head=>exact H7 ..
    |tail _ hq=>exact E4 _ (hs q hq)
   ·obtain⟨mk,obj,hv,h⟩:=h;exact⟨mk,obj,hv,fun b hb=>ih hm hs (h b hb)⟩
   ·exact h.mono fun v Y' ⟨h1,h2⟩=>⟨fun q hq=>h1 q (hs q hq),ih hm hs h2⟩
  ·rename_i hw;rw[d7 hw];exact ih hm hs h

theorem K1.head{l l':List Nat}{K K':Pq->Act->H->Prop}(ju:∀p a Y,Fin Y->K1 P ops cl A p l a K Y->K1 P ops cl A p l' a K' Y){i:Nat}{p:List (Nat×Sem Next×u9)}{a:Act}{Y:H}
 (hf:Fin Y) (h:K1 P ops cl A p (i::l) a K Y):K1 P ops cl A p (i::l') a K' Y:=by
 obtain⟨o,ho,hp,h⟩:=h;refine⟨o,ho,hp,?_⟩;split at h
 ·rename_i hw;rw[d8 hw];split at h
  ·obtain⟨v,hv,h⟩:=h;exact⟨v,hv,ju _ _ _ hf h⟩
  ·obtain⟨v,hv,h⟩:=h;exact⟨v,hv,ju _ _ _ hf h⟩
  ·obtain⟨mk,obj,hv,h⟩:=h;exact⟨mk,obj,hv,fun b hb=>ju _ _ _ (hf.put _ _) (h b hb)⟩
  ·exact h.fin.mono fun v Y' ⟨zk,h1,h2⟩=>⟨h1,ju _ _ _ zk h2⟩
 ·rename_i hw;rw[d7 hw];exact ju _ _ _ hf h

def cj9(cy cx:Nat):Bool :=
 match cy,cx with
 |0,_=>true
 |1,_=>true
 |2,0=>true
 |2,2=>true
 |2,_=>false
 |_,0=>true
 |_,2=>true
 |_,_=>false

theorem an1{o:Oper}(h:au4 o.op=true):∀cs b,o.op ≠ .select cs b:=by
 intro cs b e;rw[e]at h;cases h
theorem bi3{o:Oper}(h:au4 o.op=true):∀c,o.op ≠ .defer c:=by
 intro c e;rw[e]at h;cases h

theorem K1.swap{y x:Nat}{oy ox:Oper}(hy:ops[y]?=some oy)(hx:ops[x]?=some ox)(Cu:oy.apart ops ox=true)(hA:A y x=false)(ko:cj9 (cl y) (cl x)=true)
 {p:List (Nat×Sem Next×u9)} {l:List Nat} {a:Act} {K:Pq->Act->H->Prop} {Y:H} (hK:aw5 K) (hf:Fin Y)
 (h:K1 P ops cl A p (y::x::l) a K Y):K1 P ops cl A p (x::y::l) a K Y:=by
 obtain⟨h1,h2,h3⟩:=Oper.apart_spec Cu;have ic:∀ (a:Act) (u v:u9),(a.put oy.dst u).put ox.dst v=(a.put ox.dst v).put oy.dst u:=fun a u v=>Act.put_comm a u v h2;obtain⟨oy',Du,kd,h⟩:=h;rw[hy]at Du;cases Du;have qc:au4 ox.op=true:=by
  by_cases jj:Region.wanted oy (yielded ops a.tmps)=true
  ·rw[d8 jj]at h;split at h
   ·obtain⟨v,hv,ox',ik,qc,_⟩:=h;rw[hx]at ik;cases ik;exact qc
   ·obtain⟨v,hv,ox',ik,qc,_⟩:=h;rw[hx]at ik;cases ik;exact qc
   ·obtain⟨mk,obj,hv,h⟩:=h;obtain⟨b,hb⟩:=hf.fresh;obtain⟨ox',ik,qc,_⟩:=h b hb;rw[hx]at ik;cases ik;exact qc
   ·obtain⟨v,Y',_,ox',ik,qc,_⟩:=h.out hf;rw[hx]at ik;cases ik;exact qc
  ·rw[d7 jj]at h;obtain⟨ox',ik,qc,_⟩:=h;rw[hx]at ik;cases ik;exact qc
 have ex:∀u,execOp (a.put oy.dst u).eval ox=execOp a.eval ox:=fun u=>execOp_put ox (an1 qc) a oy.dst u h1;have ey:∀u,execOp (a.put ox.dst u).eval oy=execOp a.eval oy:=fun u=>execOp_put oy (an1 kd) a ox.dst u h3;have wx:∀u,Region.wanted ox (yielded ops (a.put oy.dst u).tmps)=Region.wanted ox (yielded ops a.tmps):=fun u=>wanted_put ox a oy.dst u h1;have wy:∀u,Region.wanted oy (yielded ops (a.put ox.dst u).tmps)=Region.wanted oy (yielded ops a.tmps):=fun u=>wanted_put oy a ox.dst u h3;refine⟨ox,hx,qc,?_⟩;by_cases jj:Region.wanted oy (yielded ops a.tmps)=true
 ·rw[d8 jj]at h;by_cases jz:Region.wanted ox (yielded ops a.tmps)=true
  ·rw[d8 jz];split at h
   ·-- y silent
    obtain⟨v,hv,ox',ik,_,h⟩:=h;rw[hx]at ik;cases ik;rw[wx,d8 jz,ex]at h;split at h
    ·obtain⟨u,hu,h⟩:=h;refine⟨u,hu,oy,hy,kd,?_⟩;rw[wy,d8 jj,ey,‹cl y=0›];exact⟨v,hv,by rw[<-ic];exact h⟩
    ·obtain⟨u,hu,h⟩:=h;refine⟨u,hu,oy,hy,kd,?_⟩;rw[wy,d8 jj,ey,‹cl y=0›];exact⟨v,hv,by rw[<-ic];exact h⟩
    ·obtain⟨mk,obj,hu,h⟩:=h;refine⟨mk,obj,hu,fun b hb=>⟨oy,hy,kd,?_⟩⟩;rw[wy,d8 jj,ey,‹cl y=0›];exact⟨v,hv,by rw[<-ic];exact h b hb⟩
    ·refine h.mono fun u Y' ⟨hc,h⟩=>⟨hc,oy,hy,kd,?_⟩;rw[wy,d8 jj,ey,‹cl y=0›];exact⟨v,hv,by rw[<-ic];exact h⟩
   ·-- y cj3
    obtain⟨v,hv,ox',ik,_,h⟩:=h;rw[hx]at ik;cases ik;rw[wx,d8 jz,ex]at h;split at h
    ·obtain⟨u,hu,h⟩:=h;refine⟨u,hu,oy,hy,kd,?_⟩;rw[wy,d8 jj,ey,‹cl y=1›];exact⟨v,hv,by rw[<-ic];exact h⟩
    ·obtain⟨u,hu,h⟩:=h;refine⟨u,hu,oy,hy,kd,?_⟩;rw[wy,d8 jj,ey,‹cl y=1›];refine⟨v,hv,?_⟩;rw[<-ic];exact h.pend hK fun q hq=>by
      simp only[G9]at hq⊢;rcases hq with rfl|rfl|hq
      ·exact .inr (.inl rfl)
      ·exact .inl rfl
      ·exact .inr (.inr hq)
    ·obtain⟨mk,obj,hu,h⟩:=h;refine⟨mk,obj,hu,fun b hb=>⟨oy,hy,kd,?_⟩⟩;rw[wy,d8 jj,ey,‹cl y=1›];exact⟨v,hv.put hb,by rw[<-ic];exact h b hb⟩
    ·refine h.mono fun u Y' ⟨hc,h⟩=>⟨fun q hq=>hc q (E4 _ hq),oy,hy,kd,?_⟩;rw[wy,d8 jj,ey,‹cl y=1›];have:=hc _ (H7 ..);simp only[hA]at this;exact⟨v,this.resolve_left (by simp),by rw[<-ic];exact h⟩
   ·-- y makes a block
    obtain⟨mk,obj,hv,h⟩:=h;have lj:cl x=0\/cl x=2:=by
     rw[‹cl y=2›]at ko;unfold cj9 at ko;split at ko<;>simp_all
    rcases lj with lj|lj
    ·obtain⟨b0,vc⟩:=hf.fresh;obtain⟨ox',ik,_,h0⟩:=h b0 vc;rw[hx]at ik;cases ik;rw[wx,d8 jz,ex,lj]at h0;obtain⟨u,hu,_⟩:=h0;rw[lj];refine⟨u,hu,oy,hy,kd,?_⟩;rw[wy,d8 jj,ey,‹cl y=2›];refine⟨mk,obj,hv,fun b hb => ?_⟩;obtain⟨ox',ik,_,jq⟩:=h b hb;rw[hx]at ik;cases ik;rw[wx,d8 jz,ex,lj]at jq;obtain⟨u',mi,jq⟩:=jq;have:u'=u:=by
      have e1:=hu default;have e2:=mi default;rw[e1]at e2;cases e2;rfl
     subst this;rw[<-ic];exact jq
    ·obtain⟨b0,vc⟩:=hf.fresh;obtain⟨ox',ik,_,h0⟩:=h b0 vc;rw[hx]at ik;cases ik;rw[wx,d8 jz,ex,lj]at h0;obtain⟨mx,objx,hu,_⟩:=h0;rw[lj];refine⟨mx,objx,hu,fun b hb=>⟨oy,hy,kd,?_⟩⟩;rw[wy,d8 jj,ey,‹cl y=2›];refine⟨mk,obj,hv,fun c hc=>?_⟩;have ia:c≠b:=by intro e;subst e;rw[H.put_same]at hc;cases hc
     rw[H.put_other _ _ ia]at hc;obtain⟨ox',ik,_,jq⟩:=h c hc;rw[hx]at ik;cases ik;rw[wx,d8 jz,ex,lj]at jq;obtain⟨mx',objx',mi,jq⟩:=jq;have xx:Y.put c obj b=none:=by rw[H.put_other _ _ (Ne.symm ia)];exact hb
     have sl:=jq b xx;have nk:objx'=objx/\mx' b=mx b:=by
      have e1:=hu { (default:World)with heap:=Array.replicate b default};have e2:=mi { (default:World)with heap:=Array.replicate b default};rw[e1]at e2;simp only[Result.ok.injEq,Next.value.injEq]at e2;obtain⟨e3,e4⟩:=e2;simp only[Array.size_replicate]at e3;refine⟨?_,e3.symm⟩;have e5:=J7 World.heap e4;have e6:(Array.replicate b (default:Obj)).push objx=(Array.replicate b (default:Obj)).push objx':=e5;have e7:=J7 Array.back? e6;simpa using e7.symm
     obtain⟨e3,e4⟩:=nk;subst e3;rw[e4]at sl;rw[<-ic];have:(Y.put c obj).put b objx'=(Y.put b objx').put c obj:=by
      funext k
      simp only[H.put];by_cases k1:k=b
      ·subst k1;simp[Ne.symm ia]
      ·simp[k1]
     rw[<-this];exact sl
   ·-- y does something
    have lj:cl x=0\/cl x=2:=by
     unfold cj9 at ko;split at ko<;>simp_all
    have hyc:∀ (K':Prop) (a0 a1 a2 a3:Prop),(match cl y with|0=>a0|1=>a1|2=>a2|_=>a3)=a3:=by
     intro _ a0 a1 a2 a3;split<;>simp_all
    rcases lj with lj|lj
    ·obtain⟨v0,Y0,_,ox',ik,_,h0⟩:=h.out hf;rw[hx]at ik;cases ik;rw[wx,d8 jz,ex,lj]at h0;obtain⟨u,hu,_⟩:=h0;rw[lj];refine⟨u,hu,oy,hy,kd,?_⟩;rw[wy,d8 jj,ey,hyc True];refine h.mono fun v Y' ⟨hc,ox',ik,_,jq⟩=>⟨hc,?_⟩;rw[hx]at ik;cases ik;rw[wx,d8 jz,ex,lj]at jq;obtain⟨u',mi,jq⟩:=jq;have:u'=u:=by
      have e1:=hu default;have e2:=mi default;rw[e1]at e2;cases e2;rfl
     subst this;rw[<-ic];exact jq
    ·obtain⟨v0,Y0,_,ox',ik,_,h0⟩:=h.out hf;rw[hx]at ik;cases ik;rw[wx,d8 jz,ex,lj]at h0;obtain⟨mx,objx,hu,_⟩:=h0;rw[lj];refine⟨mx,objx,hu,fun b hb=>⟨oy,hy,kd,?_⟩⟩;rw[wy,d8 jj,ey,hyc True];refine(h.frame (o:=objx) hb).mono fun v Y' ⟨Y₁,hn,hσ',hc,ox',ik,_,jq⟩=>⟨fun q hq=>?_,?_⟩
     ·rcases hc q hq with h|h
      ·exact .inl h
      ·exact .inr (hσ' ▸ h.put hn)
     ·rw[hx]at ik;cases ik;rw[wx,d8 jz,ex,lj]at jq;obtain⟨mx',objx',mi,jq⟩:=jq;have sl:=jq b hn;have nk:objx'=objx/\mx' b=mx b:=by
       have e1:=hu { (default:World)with heap:=Array.replicate b default};have e2:=mi { (default:World)with heap:=Array.replicate b default};rw[e1]at e2;simp only[Result.ok.injEq,Next.value.injEq]at e2;obtain⟨e3,e4⟩:=e2;simp only[Array.size_replicate]at e3;refine⟨?_,e3.symm⟩;have e5:=J7 World.heap e4;have e6:(Array.replicate b (default:Obj)).push objx=(Array.replicate b (default:Obj)).push objx':=e5;have e7:=J7 Array.back? e6;simpa using e7.symm
      obtain⟨e3,e4⟩:=nk;subst e3;rw[e4]at sl;rw[<-ic,hσ'];exact sl
  ·rw[d7 jz];refine⟨oy,hy,kd,?_⟩;rw[wy,d8 jj,ey];split at h
   ·obtain⟨v,hv,ox',ik,_,h⟩:=h;rw[hx]at ik;cases ik;rw[wx,d7 jz]at h;exact⟨v,hv,by rw[<-ic];exact h⟩
   ·obtain⟨v,hv,ox',ik,_,h⟩:=h;rw[hx]at ik;cases ik;rw[wx,d7 jz]at h;exact⟨v,hv,by rw[<-ic];exact h⟩
   ·obtain⟨mk,obj,hv,h⟩:=h;refine⟨mk,obj,hv,fun b hb=>?_⟩;obtain⟨ox',ik,_,h⟩:=h b hb;rw[hx]at ik;cases ik;rw[wx,d7 jz]at h;rw[<-ic];exact h
   ·refine h.mono fun v Y' ⟨hc,ox',ik,_,h⟩=>⟨hc,?_⟩;rw[hx]at ik;cases ik;rw[wx,d7 jz]at h;rw[<-ic];exact h
 ·rw[d7 jj]at h;obtain⟨ox',ik,_,h⟩:=h;rw[hx]at ik;cases ik;rw[wx,ex]at h;by_cases jz:Region.wanted ox (yielded ops a.tmps)=true
  ·rw[d8 jz]at h⊢;split at h
   ·obtain⟨u,hu,h⟩:=h;refine⟨u,hu,oy,hy,kd,?_⟩;rw[wy,d7 jj,<- ic];exact h
   ·obtain⟨u,hu,h⟩:=h;refine⟨u,hu,oy,hy,kd,?_⟩;rw[wy,d7 jj,<- ic];exact h
   ·obtain⟨mk,obj,hu,h⟩:=h;refine⟨mk,obj,hu,fun b hb=>⟨oy,hy,kd,?_⟩⟩;rw[wy,d7 jj,<- ic];exact h b hb
   ·refine h.mono fun u Y' ⟨hc,h⟩=>⟨hc,oy,hy,kd,?_⟩;rw[wy,d7 jj,<- ic];exact h
  ·rw[d7 jz]at h⊢;refine⟨oy,hy,kd,?_⟩;rw[wy,d7 jj,<- ic];exact h
end
end Go.HL

