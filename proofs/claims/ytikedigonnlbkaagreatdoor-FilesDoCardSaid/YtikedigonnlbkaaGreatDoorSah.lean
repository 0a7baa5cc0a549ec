/- A part of a proof. -/
import Derived.Test.YtikedigonnlbkaaGreatDoorSag
namespace Go.HL
open Go

def aq6(fv:u9)(vs:List u9):Sem Next:=do let d<- Deferred.ofValue fv ⟨vs⟩;invoke d.target d.args
def ar8(s:Sem u9):Sem Next:=do pure (.value (<- s))
def doS(s:Sem Unit):Sem Next:=do s;pure .skip
def aI4:List Operand->List Bool
 | []=>[]
 |.const _::r=>true::aI4 r
 |_::r=>false::aI4 r
def Z0(P:Program)(g:FuncId):Bool :=
 match P.funcs[g]? with
 | some fn => fn.body.isSome && !(fn.name == "runtime.NumGoroutine")
 |none=>false

def D3(P:Program)(fv:u9)(vs:List u9)(G:u9->H->Prop)(Y:H):Prop :=
 match fv with
 |.func (.func g) ⟨as0⟩ ⟨cs⟩=>match Z0 P g with
  |true=>E2 P g (as0++vs++cs) G Y
  |false=>J1 P (aq6 (.func (.func g) ⟨as0⟩ ⟨cs⟩) vs) G Y
 |fv=>J1 P (aq6 fv vs) G Y

def efF(P:Program)(e:Env)(G:u9->H->Prop)(o:Oper)(Y:H):Prop :=
 match o.op with
 |.call {callee:=.value f,args:=⟨xs⟩,argTypes:=_}=>match evO e f,evL e xs with
  |some fv,some vs=>D3 P fv vs G Y
  |_,_=>False
 |.call {callee:=.builtin b,args:=⟨xs⟩,argTypes:=ts}=>match evL e xs with
  |some vs=>J1 P (builtin b ts o.type ⟨aI4 xs⟩ ⟨vs⟩) G Y
  |none=>False
 |.call {callee:=.invoke r m,args:=⟨xs⟩,argTypes:=_}=>match evO e r,evL e xs with
  |some v,some vs=>J1 P (callMethod v m ⟨vs⟩) G Y
  |_,_=>False
 |.store t x y=>match evO e x,evO e y with
  |some u,some v=>J1 P (doS (Instr.storeAt t u v)) G Y
  |_,_=>False
 |.mapUpdate t m k x=>match evO e m,evO e k,evO e x with
  |some m,some k,some v=>J1 P (doS (Instr.mapUpdate t m k v)) G Y
  |_,_,_=>False
 |.insert t m k x=>match evO e m,evO e k,evO e x with
  |some m,some k,some v=>J1 P (doS (Instr.mapUpdate t m k v)) G Y
  |_,_,_=>False
 |.convert s d x=>match evO e x with
  |some v=>J1 P (ar8 (convert s d v)) G Y
  |none=>False
 |.makeSlice t l c=>match evO e l,evO e c with
  |some u,some v=>J1 P (ar8 (Instr.makeSlice t u v)) G Y
  |_,_=>False
 |.range t x=>match evO e x with
  |some v=>J1 P (ar8 (Instr.range t v)) G Y
  |none=>False
 |.next x b=>match evO e x with
  |some v=>J1 P (ar8 (Instr.next v b o.type)) G Y
  |none=>False
 |.typeAssert x t u ok=>match evO e x with
  |some v=>J1 P (ar8 (Instr.typeAssert v t u ok)) G Y
  |none=>False
 |.binOp op t x y _=>match evO e x,evO e y with
  |some u,some v=>J1 P (ar8 (do eqGuard op t x y u v;binOp op t u v)) G Y
  |_,_=>False
 |_=>False

section
variable {P:Program}
theorem aM1{g:FuncId}{args:Array u9}(h:Z0 P g=true)(w:World):(callFunc g args).run P w=.ok (.enter g args) w:=by
 unfold Z0 at h;split at h
 ·rename_i fn mq;simp only[J4,Bool.not_eq_true']at h;obtain⟨h1,h2⟩:=h;have h3 : (fn.name == "runtime.NumGoroutine") = false := h2;have h4:fn.body.isNone=false:=by cases hb:fn.body with | none=>simp[hb]at h1 | some c=>rfl
  simp only[callFunc,Sem.run_bind,run_program,Result.andThen_ok,mq,h3,D2,if_false,h4,Sem.run_pure]
 ·cases h
theorem bu3{g:FuncId}{as0 cs vs:List u9}{G:u9->H->Prop}{Y:H}(hg:Z0 P g=true)(h:E2 P g (as0++vs++cs) G Y):J1 P (aq6 (.func (.func g) ⟨as0⟩ ⟨cs⟩) vs) G Y:=by
 intro w hw;have:(aq6 (.func (.func g) ⟨as0⟩ ⟨cs⟩) vs).run P w=.ok (.enter g (as0++vs++cs).toArray) w:=by
  simp only[aq6,Deferred.ofValue,Sem.run_bind,Sem.run_pure,Result.andThen_ok,invoke];rw[aM1 hg];simp
 rw[this];exact(h w hw).mono fun e w' ⟨v,he,r⟩=>⟨v,he,r⟩
theorem bu4{fv:u9}{vs:List u9}{G:u9->H->Prop}{Y:H}(h:D3 P fv vs G Y):J1 P (aq6 fv vs) G Y:=by
 unfold D3 at h;split at h
 ·split at h
  ·rename_i hg;exact bu3 hg h
  ·exact h
 ·exact h
theorem bu5{α β:Type}(f:α->β)(l:List α):(Array.mk l).map f=⟨l.map f⟩:=by apply Array.ext';simp
theorem bK0:∀ (l:List Operand),l.map (fun|.const _=>true|_=>false)=aI4 l:=by
 intro l
 induction l with
 |nil=>rfl
 |cons x l ih=>cases x<;>simp[aI4,ih]

theorem bK1{N:Nat}{e:Env}{a:Act}(fr:FR N e a){o:Oper}{G:u9->H->Prop}{Y:H}(h:efF P e G o Y):J1 P (execOp a.eval o) G Y:=by
 obtain⟨dst,op,type,pos,after,guard⟩:=o;unfold efF at h;split at h
 ·rename_i f xs _ kf;simp only at kf;subst kf;have sb : ∀fv vs,evO e f=some fv->evL e xs=some vs->execOp a.eval ⟨dst,.call ⟨.value f,⟨xs⟩,by assumption⟩,type,pos,after,guard⟩=aq6 fv vs:=by
   intro fv vs h1 h2;simp only[execOp,resolve,aq6,bu5,fr.evO h1,fr.evL h2]
  split at h
  ·rename_i fv vs hf hv;rw[sb _ _ hf hv];exact bu4 h
  ·exact h.elim
 ·rename_i b xs ts kf;simp only at kf;subst kf;split at h
  ·rename_i vs hv;have sb:execOp a.eval ⟨dst,.call ⟨.builtin b,⟨xs⟩,ts⟩,type,pos,after,guard⟩=builtin b ts type ⟨aI4 xs⟩ ⟨vs⟩:=by
    simp only[execOp,resolve,invoke,bu5,fr.evL hv,pure_bind];exact J7 (fun l=>builtin b ts type ⟨l⟩ ⟨vs⟩) (bK0 xs)
   rw[sb];exact h
  ·exact h.elim
 ·rename_i r m xs _ kf;simp only at kf;subst kf;split at h
  ·rename_i v vs h1 h2;have sb:execOp a.eval ⟨dst,.call ⟨.invoke r m,⟨xs⟩,by assumption⟩,type,pos,after,guard⟩=callMethod v m ⟨vs⟩:=by
    simp only[execOp,resolve,bu5,fr.evO h1,fr.evL h2,pure_bind,invoke];simp
   rw[sb];exact h
  ·exact h.elim
 ·rename_i kf;simp only at kf;subst kf;split at h
  ·rename_i u v h1 h2;simp only[execOp,fr.evO h1,fr.evO h2];exact h
  ·exact h.elim
 ·rename_i kf;simp only at kf;subst kf;split at h
  ·rename_i u v x h1 h2 h3;simp only[execOp,fr.evO h1,fr.evO h2,fr.evO h3];exact h
  ·exact h.elim
 ·rename_i kf;simp only at kf;subst kf;split at h
  ·rename_i u v x h1 h2 h3;simp only[execOp,fr.evO h1,fr.evO h2,fr.evO h3];exact h
  ·exact h.elim
 ·rename_i kf;simp only at kf;subst kf;split at h
  ·rename_i u h1;simp only[execOp,fr.evO h1];exact h
  ·exact h.elim
 ·rename_i kf;simp only at kf;subst kf;split at h
  ·rename_i u v h1 h2;simp only[execOp,fr.evO h1,fr.evO h2];exact h
  ·exact h.elim
 ·rename_i kf;simp only at kf;subst kf;split at h
  ·rename_i u h1;simp only[execOp,fr.evO h1];exact h
  ·exact h.elim
 ·rename_i kf;simp only at kf;subst kf;split at h
  ·rename_i u h1;simp only[execOp,fr.evO h1];exact h
  ·exact h.elim
 ·rename_i kf;simp only at kf;subst kf;split at h
  ·rename_i u h1;simp only[execOp,fr.evO h1];exact h
  ·exact h.elim
 ·rename_i kf;simp only at kf;subst kf;split at h
  ·rename_i u v h1 h2;simp only[execOp,fr.evO h1,fr.evO h2];exact h
  ·exact h.elim
 ·exact h.elim
end

def bV3(P:Program)(b:Builtin)(ts:Array TypeId):Nat :=
 match b,ts with
 |.len,⟨t::_⟩=>match P.underlying t with
  |some (.map _ _)=>1
  |_=>0
 |.cap,_=>0
 |.min,_=>0
 |.max,_=>0
 |_,_=>3
def ck1(P:Program)(s d:TypeId):Nat :=
 match P.underlying s,P.underlying d with
 |some (.slice _),_=>3
 |_,some (.slice _)=>3
 |some .unsafePointer,_=>3
 |_,some .unsafePointer=>3
 |some .string,some .string=>0
 |some (.int _),some .string=>3
 |_,_=>0
def cF0:Operand->Bool
 |.const _=>true
 |_=>false
def cr5(P:Program)(t:TypeId)(x y:Operand):Nat :=
 match P.underlying t with
 |some (.interface _)=>3
 |some (.func _ _ _)=>3
 |some (.pointer _)=>match cF0 x||cF0 y with
  |true=>0
  |false=>3
 |_=>0
def bE7(P:Program)(o:Op):Nat :=
 match o with
 |.move _|.assign _|.pick .. |.nilCheck _|.fieldAddr .. |.field .. |.extract .. |.unOp .. |.makeInterface .. |.makeFunc .. |.build .. |.indexAddr .. |.slice .. => 0
 |.index t _ _=>match P.underlying t with
  |some (.array _ _)=>1
  |_=>0
 |.binOp op t x y _=>match op with
  |.eql=>cr5 P t x y
  |.neq=>cr5 P t x y
  |_=>0
 |.convert s d _=>ck1 P s d
 |.load .. |.lookup .. => 1
 |.alloc _|.box .. |.buildSlice .. |.makeMap .. => 2
 |.call {callee:=.builtin b,args:=_,argTypes:=ts}=>bV3 P b ts
 |_=>3
def clI(P:Program)(ops:List Oper)(i:Nat):Nat :=
 match ops[i]? with
 |some o=>bE7 P o.op
 |none=>3

abbrev bj7:=List (Nat×(H->Option u9)×u9)
def bV4(A:Nat->Nat->Bool)(i:Nat):bj7->(H->Prop)->H->Prop
 | [],g,Y=>g Y
 |(j,r,v)::q,g,Y=>match A j i with
  |true=>bV4 A i q g Y
  |false=>r Y=some v/\bV4 A i q g Y
def l8(r:H->Option u9)(t:TK)(F:t.Fn (H->Prop))(Y:H):Prop:=∃v,r Y=some v/\app t F v Y

def bu6(ops:List Oper)(j:Nat):Option Nat :=
 match ops[j]? with
 |some o=>o.dst
 |none=>none
def dz7:Bool->Bool->Bool
 |true,true=>true
 |false,false=>true
 |_,_=>false
def I9(c g:H->Prop)(Y:H):Prop:=c Y/\g Y
def bu7(ops:List Oper)(e:Env)(g:Option (Nat×Bool))(exec skip:Env->H->Prop)(Y:H):Prop :=
 match g with
 |none=>exec e Y
 |some (j,want)=>match bu6 ops j with
  |none=>skip e Y
  |some d=>match e.get? d with
   |none=>False
   |some (.bool t)=>A0 t
    (match want with|true=>exec ((d,.bool true)::e)|false=>skip ((d,.bool true)::e))
    (match want with|true=>skip ((d,.bool false)::e)|false=>exec ((d,.bool false)::e)) Y
   |some _=>skip e Y

def tyO(V:TypeId->TK)(o:Oper):TK:=match o.op with
 |.next _ true=>.opt [.sc (.int .i64),.sc (.int .i32)]
 |.range _ _=>.one (.sc .ptr)
 |_=>V o.type
def rgF(P:Program)(V:TypeId->TK)(N:Nat)(ops:List Oper)(A:Nat->Nat->Bool):List Nat->bj7->Env->(bj7->Env->H->Prop)->H->Prop
 | [],q,e,K,Y=>K q e Y
 |i::l,q,e,K,Y=>match ops[i]? with
  |none=>False
  |some o=>match au4 o.op&&bU8 N o.dst with
   |false=>False
   |true=>bu7 ops e o.guard
    (fun e Y=>match bE7 P o.op with
     |0=>cu8 P e (fun v=>rgF P V N ops A l q (e.put o.dst v) K) o.op Y
     |1=>cv1 P e (fun r=>l8 r (V o.type) ((V o.type).lam fun v=>rgF P V N ops A l ((i,r,v)::q) (e.put o.dst v) K)) o.op Y
     |2=>alF P e (fun obj mk=>H0 obj fun b=>rgF P V N ops A l q (e.put o.dst (mk b)) K) o.op Y
     |_=>efF P e (app (tyO V o) ((tyO V o).lam fun v=>bV4 A i q (rgF P V N ops A l q (e.put o.dst v) K))) o Y)
    (fun e=>rgF P V N ops A l q (e.put o.dst undef) K) Y

section
variable {P:Program} {V:TypeId->TK} {N:Nat} {ops:Array Oper} {A:Nat->Nat->Bool}

theorem cv2{i:Nat}{o:Oper}(h:ops[i]?=some o):clI P ops.toList i=bE7 P o.op:=by
 have:ops.toList[i]?=some o:=by simpa using h
 simp[clI,this]

def PR(P:Program)(q:bj7)(p:List (Nat×Sem Next×u9)):Prop :=
 ∀y∈p,∃z∈q,z.1=y.1/\z.2.2=y.2.2/\∀Y,z.2.1 Y=some y.2.2->RdS P y.2.1 Y y.2.2

theorem PR.mono{q:bj7}{p p':List (Nat×Sem Next×u9)}(h:PR P q p)(hs:∀y∈p',y∈p):PR P q p':=fun y hy=>h y (hs y hy)
theorem bV5{i:Nat}{g:H->Prop}{Y:H}:∀ {q:bj7},bV4 A i q g Y->(∀z∈q,A z.1 i=true\/z.2.1 Y=some z.2.2)/\g Y:=by
 intro q
 induction q with
 |nil=>intro h;exact⟨fun z hz=>by simp at hz,h⟩
 |cons x q ih =>
  intro h;obtain⟨j,r,v⟩:=x;simp only[bV4]at h;split at h
  ·rename_i ha;obtain⟨h1,h2⟩:=ih h;refine⟨fun z hz=>?_,h2⟩;rcases G9.1 hz with rfl|hz
   ·exact .inl ha
   ·exact h1 z hz
  ·obtain⟨h1,h2⟩:=ih h.2;refine⟨fun z hz=>?_,h2⟩;rcases G9.1 hz with rfl|hz
   ·exact .inr h.1
   ·exact h1 z hz

theorem FR.same{e:Env}{a:Act}(h:FR N e a){d:Nat}{v:u9}(hd:e.get? d=some v):FR N ((d,v)::e) a:=by
 refine⟨h.size,fun i u hu=>?_⟩;simp only[Env.get?]at hu;split at hu
 ·rename_i hb;have:=Nat.eq_of_beq_eq_true hb;subst this;cases hu;exact h.get _ _ hd
 ·exact h.get i u hu

theorem bc6{e:Env}{a:Act}(fr:FR N e a){o:Oper}{exec skip:Env->H->Prop}{Y:H}(h:bu7 ops.toList e o.guard exec skip Y) :
 ∃e',FR N e' a/\((Region.wanted o (yielded ops a.tmps)=true/\exec e' Y)\/(Region.wanted o (yielded ops a.tmps)=false/\skip e' Y)):=by
 unfold bu7 at h;split at h
 ·rename_i hg;exact⟨e,fr,.inl ⟨by simp[Region.wanted,hg],h⟩⟩
 ·rename_i j want hg;split at h
  ·rename_i hs;refine⟨e,fr,.inr ⟨?_,h⟩⟩;have:(ops[j]?).bind (·.dst)=none:=by
    unfold bu6 at hs;cases ho:ops[j]? with
    |none=>rfl
    | some o' => have : ops.toList[j]? = some o' := by simpa using ho
                 simp[this]at hs;simp[hs]
   simp[Region.wanted,hg,yielded,this]
  ·rename_i d hs;have hd:(ops[j]?).bind (·.dst)=some d:=by
    unfold bu6 at hs;cases ho:ops[j]? with
    | none => have : ops.toList[j]? = none := by simpa using ho
              simp[this]at hs
    | some o' => have : ops.toList[j]? = some o' := by simpa using ho
                 simp[this]at hs;simp[hs]
   split at h
   ·exact h.elim
   ·rename_i t ht;have hy:yielded ops a.tmps j=some t:=by
     have:=fr.get d _ ht;simp[yielded,hd,this]
    cases t with
    |true =>
     refine⟨_,fr.same ht,?_⟩;cases want with
     |true=>exact .inl ⟨by simp[Region.wanted,hg,hy],h⟩
     |false=>exact .inr ⟨by simp[Region.wanted,hg,hy],h⟩
    |false =>
     refine⟨_,fr.same ht,?_⟩;cases want with
     |true=>exact .inr ⟨by simp[Region.wanted,hg,hy],h⟩
     |false=>exact .inl ⟨by simp[Region.wanted,hg,hy],h⟩
   ·rename_i v hnb hv;have hy:yielded ops a.tmps j=none:=by
     have:=fr.get d _ hv;unfold yielded;rw[hd];simp only[Option.bind_some,this];split
     ·rename_i b hb;cases hb;exact m7 rfl (hnb _)
     ·rfl
    exact⟨e,fr,.inr ⟨by simp[Region.wanted,hg,hy],h⟩⟩

theorem bu8(a:Act)(d:Option Nat)(v:u9):(a.put d v).defers=a.defers:=by cases d<;>rfl

theorem as6{K:bj7->Env->H->Prop}:∀ (l:List Nat) {q:bj7} {p:List (Nat×Sem Next×u9)} {e:Env} {a:Act} {Y:H},PR P q p->FR N e a->rgF P V N ops.toList A l q e K Y ->
 K1 P ops (clI P ops.toList) A p l a (fun p' a' Y'=>∃q' e',PR P q' p'/\FR N e' a'/\a'.defers=a.defers/\K q' e' Y') Y:=by
 intro l
 induction l with
 |nil=>intro q p e a Y qf fr h;exact⟨q,e,qf,fr,rfl,h⟩
 |cons i l ih =>
  intro q p e a Y qf fr h;simp only[rgF]at h;split at h
  ·exact h.elim
  ·rename_i o ho;have ho':ops[i]?=some o:=by simpa using ho
   split at h
   ·exact h.elim
   ·rename_i hp;simp only[J4]at hp;obtain⟨hp,hd⟩:=hp;refine⟨o,ho',hp,?_⟩;have lift : ∀ {v:u9} {p':List (Nat×Sem Next×u9)} {Y':H},K1 P ops (clI P ops.toList) A p' l (a.put o.dst v) (fun p' a' Y' => ∃q' e',PR P q' p'/\FR N e' a'/\a'.defers=(a.put o.dst v).defers/\K q' e' Y') Y' ->
     K1 P ops (clI P ops.toList) A p' l (a.put o.dst v) (fun p' a' Y'=>∃q' e',PR P q' p'/\FR N e' a'/\a'.defers=a.defers/\K q' e' Y') Y':=by
     intro v p' Y' h;rw[bu8]at h;exact h
    obtain⟨e',fr',h|h⟩:=bc6 fr h
    ·obtain⟨hw,h⟩:=h;rw[d8 hw,cv2 ho'];split at h
     ·rename_i hc;rw[hc];obtain⟨v,hv,h⟩:=bu1 fr' h;exact⟨v,hv,lift (ih qf (fr'.put hd v) h)⟩
     ·rename_i hc;rw[hc];obtain⟨r,hr,v,hrv,h⟩:=bu2 fr' h;have h:=app_lam h;refine⟨v,hr _ _ hrv,lift (ih ?_ (fr'.put hd v) h)⟩;intro y hy;rcases G9.1 hy with rfl|hy
      ·exact⟨(i,r,v),H7 ..,rfl,rfl,fun Y hσ=>hr Y v hσ⟩
      ·obtain⟨z,hz,h1,h2,h3⟩:=qf y hy;exact⟨z,E4 _ hz,h1,h2,h3⟩
     ·rename_i hc;rw[hc];obtain⟨obj,mk,uk,h⟩:=bJ9 fr' h;exact⟨mk,obj,uk,fun b hb=>lift (ih qf (fr'.put hd _) (h b hb))⟩
     ·rename_i oz hc1 hc2;have hm : ∀ (a0 a1 a2 a3:Prop),a3->(match bE7 P o.op with | 0=>a0 | 1=>a1 | 2=>a2 | _=>a3):=by
       intro a0 a1 a2 a3 h3;split
       ·exact m7 ‹_› oz
       ·exact m7 ‹_› hc1
       ·exact m7 ‹_› hc2
       ·exact h3
      refine hm _ _ _ _ ((bK1 fr' h).mono fun v Y' h=>?_);obtain⟨h1,h2⟩:=bV5 (app_lam h);refine⟨fun y hy=>?_,lift (ih qf (fr'.put hd v) h2)⟩;obtain⟨z,hz,e1,e2,e3⟩:=qf y hy;rcases h1 z hz with h1|h1
      ·exact .inl (e1 ▸ h1)
      ·exact .inr (e3 Y' (e2 ▸ h1))
    ·obtain⟨hw,h⟩:=h;rw[d7 (by rw[hw];simp)];exact lift (ih qf (fr'.put hd undef) h)
end
end Go.HL

