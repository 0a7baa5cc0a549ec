/- A part of a proof. -/
import Derived.Test.YtikedigonnlbkaaGreatDoorSab
namespace Go.HL
open Go
section
variable {P:Program} {ops:Array Oper} {cl:Nat->Nat} {A:Nat->Nat->Bool}

def au5(ops:Array Oper)(cl:Nat->Nat)(y x:Nat):Bool :=
 match ops[y]?,ops[x]? with
 |some oy,some ox=>oy.apart ops ox&&cj9 (cl y) (cl x)
 |_,_=>false

theorem K1.front{K:Pq->Act->H->Prop}(hK:aw5 K){x:Nat}{r:List Nat}:∀ (p:List Nat),(∀y∈p,A y x=false/\au5 ops cl y x=true)->∀ {pend:List (Nat×Sem Next×u9)} {a:Act} {Y:H},Fin Y ->
 K1 P ops cl A pend (p++x::r) a K Y->K1 P ops cl A pend (x::(p++r)) a K Y:=by
 intro p
 induction p with
 |nil=>intro _ pend a Y _ h;exact h
 |cons y p ih =>
  intro hp pend a Y hf h;have hsw:=hp y (H7 ..);have h':K1 P ops cl A pend (y::x::(p++r)) a K Y :=
   K1.head (fun pend' a' Y' zk hh=>ih (fun z hz=>hp z (E4 _ hz)) zk hh) hf h
  obtain⟨hA,hs⟩:=hsw;unfold au5 at hs;split at hs
  ·rename_i oy ox hy hx;simp only[J4]at hs;exact K1.swap hy hx hs.1 hA hs.2 hK hf h'
  ·cases hs

def aE0(ops:Array Oper)(x:Nat):List Nat :=
 match ops[x]? with
 |some o=>(o.after.toList.filter fun e=>Region.binds .any e).map (·.on)
 |none=>[]

theorem ak4{gm:Array Bool}{i:Nat}:i∈Region.ready .any ops gm↔i<ops.size/\gm.getD i true=false/\∀z∈aE0 ops i,gm.getD z false=true:=by
 unfold Region.ready aE0;simp only[List.mem_filter,List.mem_range,J4,Bool.not_eq_true'];refine and_congr_right fun hi=>and_congr_right fun _=>?_;have:ops[i]?=some ops[i]:=by simp[hi]
 simp only[this,Option.map_some,Option.getD_some,K0,List.mem_filter];rw[Array.all_eq_true'];constructor
 ·rintro h z ⟨e,⟨he,hb⟩,rfl⟩
  have:=h e (by simpa using he);simpa[hb]using this
 ·intro h e he;by_cases hb:Region.binds .any e=true
  ·simp[hb];simpa using h e.on ⟨e,⟨by simpa using he,hb⟩,rfl⟩
  ·simp[hb]

def aL6(ops:Array Oper)(AL:List (List Nat)):Bool :=
 (List.range ops.size).all fun x=>(AL.getD x []).all fun y=>(aE0 ops x).any fun z=>z==y||(decide (z<x)&&(AL.getD z []).contains y)

def S2(AL:List (List Nat))(y x:Nat):Bool:=(AL.getD x []).contains y

structure Cls(ops:Array Oper)(gm:Array Bool):Prop where
 size:gm.size=ops.size
 down:∀x,gm.getD x false=true->∀z∈aE0 ops x,gm.getD z false=true

theorem aC8{AL:List (List Nat)}(jb:aL6 ops AL=true){gm:Array Bool}(hc:Cls ops gm) :
 ∀x y,x<ops.size->S2 AL y x=true->(∀z∈aE0 ops x,gm.getD z false=true)->gm.getD y false=true:=by
 intro x
 induction x using Nat.strongRecOn with
 |_ x ih =>
  intro y hx ha hp;unfold aL6 at jb;rw[X2]at jb;have h1:=jb x (by simpa using hx);rw[X2]at h1;have h2:=h1 y (by simpa[S2]using ha);rw[List.any_eq_true]at h2;obtain⟨z,hz,hzy⟩:=h2;simp only[Bool.or_eq_true,beq_iff_eq,J4,I6]at hzy;rcases hzy with rfl|⟨iw,hzz⟩
  ·exact hp _ hz
  ·exact ih z iw y (by omega) hzz (hc.down z (hp z hz))

def bi4(ops:Array Oper):List Nat->List Nat->Bool
 |_,[]=>true
 |done,x::r=>((aE0 ops x).all fun z=>done.contains z)&&bi4 ops (x::done) r

def aI3(ops:Array Oper)(cl:Nat->Nat)(A:Nat->Nat->Bool):List Nat->Bool
 | []=>true
 |y::r=>(r.all fun x=>A y x||au5 ops cl y x)&&aI3 ops cl A r

theorem am2:∀l,aI3 ops cl A l=true->l.Pairwise fun y x=>A y x=true\/au5 ops cl y x=true:=by
 intro l
 induction l with
 |nil=>intro _;exact .nil
 |cons y r ih =>
  intro h;simp only[aI3,J4,X2,Bool.or_eq_true]at h;exact .cons (fun x hx=>h.1 x hx) (ih h.2)

theorem aL7:∀ (l done:List Nat),bi4 ops done l=true->∀p x r,l=p++x::r->∀z∈aE0 ops x,z∈done\/z∈p:=by
 intro l
 induction l with
 |nil=>intro done _ p x r h;simp at h
 |cons y l ih =>
  intro done h p x r hl z hz;simp only[bi4,J4,X2]at h;cases p with
  |nil =>
   simp at hl;obtain⟨rfl,rfl⟩:=hl;exact .inl (by simpa using h.1 z hz)
  |cons w p =>
   simp at hl;obtain⟨rfl,hl⟩:=hl;rcases ih (y::done) h.2 p x r hl z hz with h'|h'
   ·rcases G9.1 h' with rfl|h'
    ·exact .inr (H7 ..)
    ·exact .inl h'
   ·exact .inr (E4 _ h')

theorem aL8{ro:Option Nat}{n:Nat}{f:FuncId}{args:Array u9}{w:World}{R:Ending->World->Prop}(h:CallsIn Fence.wide 0 P f args w R):CallsIn (FW ro) n P f args w R :=
 ⟨trivial,fun cs _=>h.2 cs (room_wide _)⟩
theorem bi5{ro:Option Nat}{n l:Nat}{f:FuncId}{tmps:Array u9}{assign body:Code}{w:World}{R:Ending->World->Prop}(h:RoundIn Fence.wide 0 P l f tmps assign body w R):RoundIn (FW ro) n P l f tmps assign body w R :=
 ⟨trivial,fun c cs _=>h.2 c cs (room_wide _)⟩

theorem aO0{ro:Option Nat}{n:Nat}{o:Oper}{a:Act}{next:Act->World->Prop}{Q:Exit->Act->World->Prop}{x:Result Next}
 (h:aq5 P (fun v w=>next (a.put o.dst v) w) x):o.uponIn (FW ro) n P a next Q x:=by
 unfold aq5 at h;split at h
 ·exact h
 ·exact h
 ·refine⟨(fun h=>by cases h),?_⟩;have h':=aL8 (ro:=ro) (n:=n-1) h;refine h'.mono fun e w' ⟨v,he,hv⟩=>?_;subst he;exact hv
 ·refine⟨(fun h=>by cases h),?_⟩;have h':=bi5 (ro:=ro) (n:=n-1) h;refine h'.mono fun e w' ⟨v,he,hv⟩=>?_;subst he;exact hv
 ·exact h.elim

theorem aE1{ro:Option Nat}{n:Nat}{Q:Exit->Act->World->Prop}{i:Nat}{l:List Nat}{pend:List (Nat×Sem Next×u9)}{a:Act}{K:Pq->Act->H->Prop}{Y:H}{next:Act->World->Prop}{w:World}
 (hw:Y.le w) (h:K1 P ops cl A pend (i::l) a K Y)
 (hn:∀pend' v Y' w',X7 Y w Y' w'->K1 P ops cl A pend' l (a.put ((ops[i]?).bind (·.dst)) v) K Y'->next (a.put ((ops[i]?).bind (·.dst)) v) w'):wpOpIn (FW ro) n P ops Q i next a w:=by
 obtain⟨o,ho,hp,h⟩:=h;unfold wpOpIn;simp only[ho,Option.bind_some]at hn⊢;split at h
 ·rename_i hwd;rw[d8 hwd];refine⟨fun _ _=>trivial,?_⟩;rw[Oper.semAt_eq _ _ _ (bi3 hp)];split at h
  ·obtain⟨v,hv,h⟩:=h;rw[hv w];exact hn _ v Y w (X7.refl hw) h
  ·obtain⟨v,hv,h⟩:=h;rw[hv w hw];exact hn _ v Y w (X7.refl hw) h
  ·obtain⟨mk,obj,hv,h⟩:=h;rw[hv w];obtain⟨iy,he⟩:=X7.alloc hw obj;exact hn _ _ _ _ he (h _ iy)
  ·exact aO0 ((h w hw).mono fun v w' ⟨Y',he,_,hk⟩=>hn _ v Y' w' he hk)
 ·rename_i hwd;rw[d7 hwd];exact⟨fun _ _=>trivial,hn _ _ Y w (X7.refl hw) h⟩

theorem bJ4{ro:Option Nat}{n:Nat}{Q:Exit->Act->World->Prop}{K:Pq->Act->H->Prop}:∀ (l:List Nat) {pend:List (Nat×Sem Next×u9)} {a:Act} {Y:H} {w:World},Y.le w->K1 P ops cl A pend l a K Y ->
 (∀p' a' Y' w',X7 Y w Y' w'->K p' a' Y'->Q .normal a' w')->wpOpsIn (FW ro) n P ops Q l a w:=by
 intro l
 induction l with
 |nil=>intro pend a Y w hw h hq;exact hq _ a Y w (X7.refl hw) h
 |cons i l ih =>
  intro pend a Y w hw h hq;rw[wpOpsIn_cons];refine aE1 hw h fun pend' v Y' w' he h'=>?_;exact ih he.le h' fun p₂ a₂ Y₂ w₂ nu hk=>hq _ _ _ _ (he.trans nu) hk

theorem aW3{ro:Option Nat}{n:Nat}{Q:Exit->Act->World->Prop}{K:Pq->Act->H->Prop}(hK:aw5 K){AL:List (List Nat)}(lu:aL6 ops AL=true) :
 ∀ (fuel:Nat) (rem:List Nat) (gm:Array Bool) {pend:List (Nat×Sem Next×u9)} {a:Act} {Y:H} {w:World},rem.length<=fuel->Y.le w->K1 P ops cl (S2 AL) pend rem a K Y->Cls ops gm ->
 (∀i,i<ops.size->(gm.getD i false=true\/i∈rem))->(∀i∈rem,i<ops.size/\gm.getD i true=false)->rem.Nodup ->
 (∀p x r,rem=p++x::r->∀z∈aE0 ops x,gm.getD z false=true\/z∈p) ->
 rem.Pairwise (fun y x=>S2 AL y x=true\/au5 ops cl y x=true) ->
 (∀p' a' Y' w',X7 Y w Y' w'->K p' a' Y'->Q .normal a' w')->wpAnyIn (FW ro) n P .any ops Q fuel gm a w:=by
 intro fuel
 induction fuel with
 |zero =>
  intro rem gm pend a Y w ib hw h hc iq sm ij mj Cv hq;have:rem=[]:=List.length_eq_zero_iff.1 (by omega);subst this;refine⟨?_,hq _ a Y w (X7.refl hw) h⟩;rw[List.eq_nil_iff_forall_not_mem];intro i hi;rw[ak4]at hi;rcases iq i hi.1 with h1|h1
  ·have:i<gm.size:=by rw[hc.size];exact hi.1
   simp[this]at h1 hi;rw[h1]at hi;simp at hi
  ·simp at h1
 |succ fuel ih =>
  intro rem gm pend a Y w ib hw h hc iq sm ij mj Cv hq;refine⟨fun qd=>?_,fun i hi=>?_⟩
  ·cases rem with
   |nil=>exact hq _ a Y w (X7.refl hw) h
   |cons x r =>
    exfalso
    have hx:=sm x (H7 ..);have:x∈Region.ready .any ops gm:=by
     rw[ak4];refine⟨hx.1,hx.2,fun z hz=>?_⟩;rcases mj [] x r rfl z hz with h'|h'
     ·exact h'
     ·simp at h'
    rw[qd]at this;simp at this
  ·rw[ak4]at hi;obtain⟨sn,Dv,Cw⟩:=hi;have tt:i<gm.size:=by rw[hc.size];exact sn
   have jh:i∈rem:=by
    rcases iq i sn with h1|h1
    ·simp[tt]at h1 Dv;rw[h1]at Dv;simp at Dv
    ·exact h1
   obtain⟨p,r,rfl⟩:=List.append_of_mem jh;have ke:K1 P ops cl (S2 AL) pend (i::(p++r)) a K Y:=by
    refine K1.front hK p (fun y hy=>?_) (Fin.of_le hw) h;have vn:S2 AL y i=true\/au5 ops cl y i=true:=by
     rw[List.pairwise_append]at Cv;exact Cv.2.2 y hy i (H7 ..)
    have Dw:S2 AL y i=false:=by
     cases ha:S2 AL y i with
     |false=>rfl
     |true =>
      have h1:=aC8 lu hc i y sn ha Cw;have h2:=(sm y (List.mem_append_left _ hy)).2;have Dx:y<gm.size:=by rw[hc.size];exact(sm y (List.mem_append_left _ hy)).1
      simp[Dx]at h1 h2;rw[h1]at h2;simp at h2
    exact⟨Dw,vn.resolve_left (by rw[Dw];simp)⟩
   refine aE1 hw ke fun pend' v Y' w' he h'=>?_;have kq:∀j d,(gm.setIfInBounds i true).getD j d=if j=i then true else gm.getD j d:=by
    intro j d;by_cases hj:j=i
    ·subst hj;simp[tt]
    ·simp[hj,Ne.symm hj]
   have vp:(i::(p++r)).Nodup:=by
    refine(List.Perm.nodup_iff ?_).1 ij;exact List.perm_middle
   have Dy:i∉p++r:=(List.nodup_cons.1 vp).1;refine ih (p++r) _ ?_ he.le h' ⟨by simpa using hc.size,?_⟩ ?_ ?_ (List.nodup_cons.1 vp).2 ?_ ?_ fun p₂ a₂ Y₂ w₂ nu hk=>hq _ _ _ _ (he.trans nu) hk
   ·simp at ib⊢;omega
   ·intro x hx z hz;rw[kq]at hx⊢;by_cases zl:z=i
    ·simp[zl]
    ·rw[d7 zl];by_cases jv:x=i
     ·subst jv;exact Cw z hz
     ·rw[d7 jv]at hx;exact hc.down x hx z hz
   ·intro j hj;rw[kq];by_cases ip:j=i
    ·simp[ip]
    ·rw[d7 ip];rcases iq j hj with h1|h1
     ·exact .inl h1
     ·simp[ip]at h1;exact .inr (by simpa using h1)
   ·intro j hj;have xi:j≠i:=fun e=>Dy (e ▸ hj);rw[kq,d7 xi];exact sm j (by simp at hj⊢;rcases hj with h|h;exact .inl h;exact .inr (.inr h))
   ·intro p' x r' qf z hz;rw[kq];by_cases xy:z=i
    ·simp[xy]
    ·rw[d7 xy]
     -- where x stands
     rcases List.append_eq_append_iff.1 qf with⟨m,qp,lh⟩|⟨m,qp,lh⟩
     ·-- p'=p++m
      rcases mj (p++i::m) x r' (by simp[lh]) z hz with h1|h1
      ·exact .inl h1
      ·right
       simp[xy]at h1;rw[qp];simpa using h1
     ·-- p=p'++m
      cases m with
      |nil =>
       simp at qp lh;rcases mj (p++[i]) x r' (by simp[<-lh]) z hz with h1|h1
       ·exact .inl h1
       ·right;simp[xy]at h1;rw[<-qp];exact h1
      |cons c m =>
       simp at lh;obtain⟨rfl,lh⟩:=lh;exact mj p' x (m++i::r) (by simp[qp]) z hz
   ·refine Cv.sublist ?_;exact List.Sublist.append (List.Sublist.refl _) (List.sublist_cons_self ..)

def aP6:List Nat->Bool
 | []=>true
 |x::r=>!r.contains x&&aP6 r
theorem aE2:∀l,aP6 l=true->l.Nodup:=by
 intro l
 induction l with
 |nil=>intro _;exact .nil
 |cons x r ih =>
  intro h;simp only[aP6,J4,Bool.not_eq_true',List.contains_eq_mem,K6]at h;exact List.nodup_cons.2 ⟨h.1,ih h.2⟩

def bs7(ops:Array Oper)(cl:Nat->Nat)(AL:List (List Nat))(π:List Nat):Bool :=
 Nat.beq π.length ops.size&&(List.range ops.size).all (fun i=>π.contains i)&&π.all (fun i=>Nat.blt i ops.size)&&aP6 π&&bi4 ops [] π&&aI3 ops cl (S2 AL) π&&aL6 ops AL

theorem bs8{ro:Option Nat}{n:Nat}{Q:Exit->Act->World->Prop}{K:Pq->Act->H->Prop}(hK:aw5 K){AL:List (List Nat)}{π:List Nat}(hm:P.follows .mixedOrders=true)(jb:bs7 ops cl AL π=true){id:Nat}{a:Act}{Y:H}{w:World}(hw:Y.le w)
 (h:K1 P ops cl (S2 AL) [] π a K Y) (hq:∀p' a' Y' w',X7 Y w Y' w'->K p' a' Y'->Q .normal a' w'):(Code.region id ops true).wpIn (FW ro) n P Q a w:=by
 unfold bs7 at jb;simp only[J4,X2]at jb;obtain⟨⟨⟨⟨⟨⟨ib,iq⟩,iw⟩,ij⟩,mj⟩,vn⟩,lu⟩:=jb;have ib:π.length=ops.size:=Nat.eq_of_beq_eq_true ib;refine wpIn_region_any hm ?_;refine aW3 hK lu _ π _ (by omega) (w:={w with drawn:=w.drawn+1}) hw h ⟨by simp,?_⟩ ?_ ?_ ?_ ?_ ?_ ?_
 ·intro x hx;exfalso;rcases U8 x ops.size with h1|h1
  ·simp[h1]at hx
  ·simp[Nat.not_lt.2 h1]at hx
 ·intro i hi;exact .inr (by simpa using iq i (by simpa using hi))
 ·intro i hi;have xz:i<ops.size:=by simpa using iw i hi
  exact⟨xz,by simp[xz]⟩
 ·exact aE2 _ ij
 ·intro p x r hp z hz;rcases aL7 π [] mj p x r hp z hz with h1|h1
  ·simp at h1
  ·exact .inr h1
 ·exact am2 _ vn
 ·intro p' a' Y' w' he hk;exact hq p' a' Y' w' ((X7.drew hw _).trans he) hk

theorem K1.app{K:Pq->Act->H->Prop}{r:List Nat}:∀ (l:List Nat) {pend:Pq} {a:Act} {Y:H},Fin Y->K1 P ops cl A pend l a (fun q a' Y'=>K1 P ops cl A q r a' K Y') Y->K1 P ops cl A pend (l++r) a K Y:=by
 intro l
 induction l with
 |nil=>intro pend a Y _ h;exact h
 |cons i l ih=>intro pend a Y hf h;exact K1.head (l:=l) (l':=l++r) (fun p a Y hf h=>ih hf h) hf h
theorem K1.mono{K K':Pq->Act->H->Prop}(hk:∀p a Y,K p a Y->K' p a Y):∀ (l:List Nat) {pend:Pq} {a:Act} {Y:H},Fin Y->K1 P ops cl A pend l a K Y->K1 P ops cl A pend l a K' Y:=by
 intro l
 induction l with
 |nil=>intro pend a Y _ h;exact hk _ _ _ h
 |cons i l ih=>intro pend a Y hf h;exact K1.head (l:=l) (l':=l) (fun p a Y hf h=>ih hf h) hf h
structure aL9(ops:Array Oper)(gm:Array Bool)(rem:List Nat):Prop where
 cls:Cls ops gm
 all:∀i,i<ops.size->(gm.getD i false=true\/i∈rem)
 ahead:∀i∈rem,i<ops.size/\gm.getD i true=false
 nd:rem.Nodup
 lin:∀p x r,rem=p++x::r->∀z∈aE0 ops x,gm.getD z false=true\/z∈p
theorem aL9.step{gm:Array Bool}{p r:List Nat}{i:Nat}(h:aL9 ops gm (p++i::r))(hi:i∈Region.ready .any ops gm):aL9 ops (gm.setIfInBounds i true) (p++r):=by
 obtain⟨hc,iq,sm,ij,mj⟩:=h;rw[ak4]at hi;obtain⟨sn,Dv,Cw⟩:=hi;have tt:i<gm.size:=by rw[hc.size];exact sn
 have kq:∀j d,(gm.setIfInBounds i true).getD j d=if j=i then true else gm.getD j d:=by
  intro j d;by_cases hj:j=i
  ·subst hj;simp[tt]
  ·simp[hj,Ne.symm hj]
 have vp:(i::(p++r)).Nodup:=by
  refine(List.Perm.nodup_iff ?_).1 ij;exact List.perm_middle
 have Dy:i∉p++r:=(List.nodup_cons.1 vp).1;refine⟨⟨by simpa using hc.size,?_⟩,?_,?_,(List.nodup_cons.1 vp).2,?_⟩
 ·intro x hx z hz;rw[kq]at hx⊢;by_cases zl:z=i
  ·simp[zl]
  ·rw[d7 zl];by_cases jv:x=i
   ·subst jv;exact Cw z hz
   ·rw[d7 jv]at hx;exact hc.down x hx z hz
 ·intro j hj;rw[kq];by_cases ip:j=i
  ·simp[ip]
  ·rw[d7 ip];rcases iq j hj with h1|h1
   ·exact .inl h1
   ·simp[ip]at h1;exact .inr (by simpa using h1)
 ·intro j hj;have xi:j≠i:=fun e=>Dy (e ▸ hj);rw[kq,d7 xi];exact sm j (by simp at hj⊢;rcases hj with h|h;exact .inl h;exact .inr (.inr h))
 ·intro p' x r' qf z hz;rw[kq];by_cases xy:z=i
  ·simp[xy]
  ·rw[d7 xy];rcases List.append_eq_append_iff.1 qf with⟨m,qp,lh⟩|⟨m,qp,lh⟩
   ·rcases mj (p++i::m) x r' (by simp[lh]) z hz with h1|h1
    ·exact .inl h1
    ·right
     simp[xy]at h1;rw[qp];simpa using h1
   ·cases m with
    |nil =>
     simp at qp lh;rcases mj (p++[i]) x r' (by simp[<-lh]) z hz with h1|h1
     ·exact .inl h1
     ·right;simp[xy]at h1;rw[<-qp];exact h1
    |cons c m =>
     simp at lh;obtain⟨rfl,lh⟩:=lh;exact mj p' x (m++i::r) (by simp[qp]) z hz
def Rl(ops:Array Oper)(cl:Nat->Nat)(AL:List (List Nat))(y x:Nat):Prop:=S2 AL y x=true\/au5 ops cl y x=true
theorem bi6{AL:List (List Nat)}(lu:aL6 ops AL=true){gm:Array Bool}{p r:List Nat}{i:Nat}(h:aL9 ops gm (p++i::r))(hi:i∈Region.ready .any ops gm)(hR:∀y∈p,Rl ops cl AL y i):∀y∈p,S2 AL y i=false/\au5 ops cl y i=true:=by
 intro y hy;rw[ak4]at hi;obtain⟨sn,Dv,Cw⟩:=hi;have Dw:S2 AL y i=false:=by
  cases ha:S2 AL y i with
  |false=>rfl
  |true =>
   have h1:=aC8 lu h.cls i y sn ha Cw;have h2:=(h.ahead y (List.mem_append_left _ hy)).2;have Dx:y<gm.size:=by rw[h.cls.size];exact(h.ahead y (List.mem_append_left _ hy)).1
   simp[Dx]at h1 h2;rw[h1]at h2;simp at h2
 exact⟨Dw,(hR y hy).resolve_left (by rw[Dw];simp)⟩
theorem aP7{ro:Option Nat}{n:Nat}{Q:Exit->Act->World->Prop}{K:Pq->Act->H->Prop}(hK:aw5 K){AL:List (List Nat)}(lu:aL6 ops AL=true){fuel:Nat}{p m:List Nat}{i:Nat}{gm:Array Bool}{pend:Pq}{a:Act}{Y:H}{w:World}
 (ib:(p++i::m).length<=fuel+1) (hw:Y.le w) (h:K1 P ops cl (S2 AL) pend p a (fun q a Y=>K1 P ops cl (S2 AL) q (i::m) a K Y) Y) (hr:aL9 ops gm (p++i::m)) (hi:i∈Region.ready .any ops gm)
 (hR:∀y∈p,Rl ops cl AL y i) (Cv:(p++m).Pairwise (Rl ops cl AL))
 (hq:∀p' a' Y' w',X7 Y w Y' w'->K p' a' Y'->Q .normal a' w'):wpOpIn (FW ro) n P ops Q i (fun a w=>wpAnyIn (FW ro) n P .any ops Q fuel (gm.setIfInBounds i true) a w) a w:=by
 have ke:=K1.front hK p (bi6 (cl:=cl) lu hr hi hR) (Fin.of_le hw) (K1.app p (Fin.of_le hw) h);refine aE1 hw ke fun pend' v Y' w' he h'=>?_;obtain⟨c1,c2,c3,c4,c5⟩:=hr.step hi;exact aW3 hK lu fuel (p++m) _ (by simp at ib⊢;omega) he.le h' c1 c2 c3 c4 c5 Cv fun p₂ a₂ Y₂ w₂ nu hk=>hq _ _ _ _ (he.trans nu) hk
theorem bs9{ro:Option Nat}{n:Nat}{Q:Exit->Act->World->Prop}{K:Pq->Act->H->Prop}(hK:aw5 K){AL:List (List Nat)}(lu:aL6 ops AL=true){i j:Nat}{m1 m2:List Nat}(hij:i∈m2/\j∈m1)(hm:∀x∈m1,x=j\/S2 AL i x=true\/S2 AL j x=true) :
 ∀ (fuel:Nat) (p:List Nat) (gm:Array Bool) {pend:Pq} {a:Act} {Y:H} {w:World},(p++i::m1).length<=fuel->(p++j::m2).length<=fuel->Y.le w->K1 P ops cl (S2 AL) pend p a (fun q a Y=>K1 P ops cl (S2 AL) q (i::m1) a K Y/\K1 P ops cl (S2 AL) q (j::m2) a K Y) Y ->
 aL9 ops gm (p++i::m1)->aL9 ops gm (p++j::m2)->(p++m1).Pairwise (Rl ops cl AL)->(p++m2).Pairwise (Rl ops cl AL)->(∀y∈p,Rl ops cl AL y i/\Rl ops cl AL y j) ->
 (∀p' a' Y' w',X7 Y w Y' w'->K p' a' Y'->Q .normal a' w')->wpAnyIn (FW ro) n P .any ops Q fuel gm a w:=by
 have je:aw5 (fun q a Y=>K1 P ops cl (S2 AL) q (i::m1) a K Y/\K1 P ops cl (S2 AL) q (j::m2) a K Y):=fun _ _ _ _ hs h=>⟨K1.pend hK hs h.1,K1.pend hK hs h.2⟩;intro fuel
 induction fuel with
 |zero=>intro p gm pend a Y w ib;simp at ib
 |succ fuel ih =>
  intro p gm pend a Y w ib pn hw h qw vd tu ll hpR hq;refine⟨fun qd=>?_,fun x hx=>?_⟩
  ·exfalso
   obtain⟨y,r,hy⟩:∃y r,p++i::m1=y::r:=by cases p<;>exact⟨_,_,rfl⟩
   have hx:=qw.ahead y (by rw[hy];exact H7 ..);have:y∈Region.ready .any ops gm:=by
    rw[ak4];refine⟨hx.1,hx.2,fun z hz=>?_⟩;rcases qw.lin [] y r hy z hz with h'|h'
    ·exact h'
    ·simp at h'
   rw[qd]at this;simp at this
  ·have jv:=hx;rw[ak4]at jv;obtain⟨hxs,kb,hxp⟩:=jv;have jh:x∈p++i::m1:=by
    rcases qw.all x hxs with h1|h1
    ·have:x<gm.size:=by rw[qw.cls.size];exact hxs
     simp[this]at h1 kb;rw[h1]at kb;simp at kb
    ·exact h1
   rcases Q4.1 jh with jh|jh
   ·obtain⟨p1,p2,rfl⟩:=List.append_of_mem jh;simp only[U7,ag0]at qw vd tu ll;have hR : ∀y∈p1,Rl ops cl AL y x:=by
     intro y hy;rw[List.pairwise_append]at tu;exact tu.2.2 y hy x (H7 ..)
    have ke:=K1.front je p1 (bi6 (cl:=cl) lu qw hx hR) (Fin.of_le hw) h;refine aE1 hw ke fun pend' v Y' w' he h'=>?_;have s1:=qw.step hx;have s2:=vd.step hx;refine ih (p1++p2) _ (by simp at ib⊢;omega) (by simp at pn⊢;omega) he.le h' (by simpa using s1) (by simpa using s2) ?_ ?_ ?_ fun p₂ a₂ Y₂ w₂ nu hk=>hq _ _ _ _ (he.trans nu) hk
    ·rw[U7];exact tu.sublist (List.Sublist.append (List.Sublist.refl _) (List.sublist_cons_self ..))
    ·rw[U7];exact ll.sublist (List.Sublist.append (List.Sublist.refl _) (List.sublist_cons_self ..))
    ·intro y hy;refine hpR y ?_;simp at hy⊢;rcases hy with h|h
     ·exact .inl h
     ·exact .inr (.inr h)
   ·rcases G9.1 jh with rfl|jh
    ·exact aP7 hK lu ib hw (K1.mono (fun _ _ _ h=>h.1) p (Fin.of_le hw) h) qw hx (fun y hy=>(hpR y hy).1) tu hq
    ·by_cases hxj:x=j
     ·subst hxj;exact aP7 hK lu pn hw (K1.mono (fun _ _ _ h=>h.2) p (Fin.of_le hw) h) vd hx (fun y hy=>(hpR y hy).2) ll hq
     ·exfalso
      have kg:∀y,y∈p++i::m1->S2 AL y x=true->False:=by
       intro y hy ha;have h1:=aC8 lu qw.cls x y hxs ha hxp;have h2:=(qw.ahead y hy).2;have Dx:y<gm.size:=by rw[qw.cls.size];exact(qw.ahead y hy).1
       simp[Dx]at h1 h2;rw[h1]at h2;simp at h2
      rcases(hm x jh).resolve_left hxj with h1|h1
      ·exact kg i (by simp) h1
      ·exact kg j (by simp[hij.2]) h1
def bb9(ops:Array Oper)(π:List Nat):Bool :=
 Nat.beq π.length ops.size&&(List.range ops.size).all (fun i=>π.contains i)&&π.all (fun i=>Nat.blt i ops.size)&&aP6 π&&bi4 ops [] π
theorem aP8{π:List Nat}(h:bb9 ops π=true):π.length=ops.size/\aL9 ops (Array.replicate ops.size false) π:=by
 unfold bb9 at h;simp only[J4,X2]at h;obtain⟨⟨⟨⟨ib,iq⟩,iw⟩,ij⟩,mj⟩:=h;refine⟨Nat.eq_of_beq_eq_true ib,⟨by simp,?_⟩,?_,?_,aE2 _ ij,?_⟩
 ·intro x hx;exfalso;rcases U8 x ops.size with h1|h1
  ·simp[h1]at hx
  ·simp[Nat.not_lt.2 h1]at hx
 ·intro i hi;exact .inr (by simpa using iq i (by simpa using hi))
 ·intro i hi;have xz:i<ops.size:=by simpa using iw i hi
  exact⟨xz,by simp[xz]⟩
 ·intro p x r hp z hz;rcases aL7 π [] mj p x r hp z hz with h1|h1
  ·simp at h1
  ·exact .inr h1
def rlB(ops:Array Oper)(cl:Nat->Nat)(AL:List (List Nat))(y x:Nat):Bool:=S2 AL y x||au5 ops cl y x
def bc0(ops:Array Oper)(cl:Nat->Nat)(AL:List (List Nat))(p:List Nat)(i:Nat)(m1:List Nat)(j:Nat)(m2:List Nat):Bool :=
 bb9 ops (p++i::m1)&&bb9 ops (p++j::m2)&&aI3 ops cl (S2 AL) (p++m1)&&aI3 ops cl (S2 AL) (p++m2)&&p.all (fun y=>rlB ops cl AL y i&&rlB ops cl AL y j)&&m1.all (fun x=>Nat.beq x j||(S2 AL i x||S2 AL j x))&&(m2.contains i&&m1.contains j)&&aL6 ops AL
theorem bi7{ro:Option Nat}{n:Nat}{Q:Exit->Act->World->Prop}{K:Pq->Act->H->Prop}(hK:aw5 K){AL:List (List Nat)}{p m1 m2:List Nat}{i j:Nat}(hm:P.follows .mixedOrders=true)(jb:bc0 ops cl AL p i m1 j m2=true){id:Nat}{a:Act}{Y:H}{w:World}(hw:Y.le w)
 (h:K1 P ops cl (S2 AL) [] p a (fun q a Y=>K1 P ops cl (S2 AL) q (i::m1) a K Y/\K1 P ops cl (S2 AL) q (j::m2) a K Y) Y) (hq:∀p' a' Y' w',X7 Y w Y' w'->K p' a' Y'->Q .normal a' w'):(Code.region id ops true).wpIn (FW ro) n P Q a w:=by
 unfold bc0 at jb;simp only[J4]at jb;obtain⟨⟨⟨⟨⟨⟨⟨h1,h2⟩,h3⟩,h4⟩,h5⟩,h6⟩,h7,h8⟩,lu⟩:=jb;obtain⟨l1,r1⟩:=aP8 h1;obtain⟨l2,r2⟩:=aP8 h2;refine wpIn_region_any hm ?_;refine bs9 hK lu ⟨by simpa using h7,by simpa using h8⟩ ?_ _ p _ (by omega) (by omega) (w:={w with drawn:=w.drawn+1}) hw h r1 r2 (am2 _ h3) (am2 _ h4) ?_ ?_
 ·intro x hx;have:=X2.1 h6 x hx;simp only[Bool.or_eq_true]at this;rcases this with h|h
  ·exact .inl (Nat.eq_of_beq_eq_true h)
  ·exact .inr h
 ·intro y hy;have:=X2.1 h5 y hy;simp only[J4,rlB,Bool.or_eq_true]at this;exact this
 ·intro p' a' Y' w' he hk;exact hq p' a' Y' w' ((X7.drew hw _).trans he) hk
end
end Go.HL

