/- A part of a proof. -/
import Derived.Test.YtgfiobhpipollaaGreatDoorOag
namespace Go.HL
open Go

def Y0 (fv:Value) (vs:List Value):Sem Next:=do let d <- Deferred.ofValue fv ⟨vs⟩;invoke d.target d.args
def ae0 (s:Sem Value):Sem Next:=do pure (.value (<- s))
def doS (s:Sem Unit):Sem Next:=do s;pure .skip
def aC4:List Operand->List Bool
 | []=>[]
 | .const _::r=>true::aC4 r
 | _::r=>false::aC4 r
def I3 (P:Program) (g:FuncId):Bool :=
 match P.funcs[g]? with
 | some fn => fn.body.isSome && !(fn.name == "runtime.NumGoroutine")
 | none=>false

def u7 (P:Program) (fv:Value) (vs:List Value) (G:Value->H->Prop) (σ:H):Prop :=
 match fv with
 | .func (.func g) ⟨as0⟩ ⟨cs⟩=>match I3 P g with
  | true=>A4 P g (as0++vs++cs) G σ
  | false=>C9 P (Y0 (.func (.func g) ⟨as0⟩ ⟨cs⟩) vs) G σ
 | fv=>C9 P (Y0 fv vs) G σ

def efF (P:Program) (e:M5) (G:Value->H->Prop) (o:Oper) (σ:H):Prop :=
 match o.op with
 | .call { callee := .value f,args:=⟨xs⟩,argTypes:=_ }=>match evO e f,evL e xs with
  | some fv,some vs=>u7 P fv vs G σ
  | _,_=>False
 | .call { callee := .builtin b,args:=⟨xs⟩,argTypes:=ts }=>match evL e xs with
  | some vs=>C9 P (builtin b ts o.type ⟨aC4 xs⟩ ⟨vs⟩) G σ
  | none=>False
 | .call { callee := .invoke r m,args:=⟨xs⟩,argTypes:=_ }=>match evO e r,evL e xs with
  | some v,some vs=>C9 P (callMethod v m ⟨vs⟩) G σ
  | _,_=>False
 | .store t x y=>match evO e x,evO e y with
  | some u,some v=>C9 P (doS (Instr.storeAt t u v)) G σ
  | _,_=>False
 | .mapUpdate t m k x=>match evO e m,evO e k,evO e x with
  | some m,some k,some v=>C9 P (doS (Instr.mapUpdate t m k v)) G σ
  | _,_,_=>False
 | .insert t m k x=>match evO e m,evO e k,evO e x with
  | some m,some k,some v=>C9 P (doS (Instr.mapUpdate t m k v)) G σ
  | _,_,_=>False
 | .convert s d x=>match evO e x with
  | some v=>C9 P (ae0 (convert s d v)) G σ
  | none=>False
 | .makeSlice t l c=>match evO e l,evO e c with
  | some u,some v=>C9 P (ae0 (Instr.makeSlice t u v)) G σ
  | _,_=>False
 | .range t x=>match evO e x with
  | some v=>C9 P (ae0 (Instr.range t v)) G σ
  | none=>False
 | .next x b=>match evO e x with
  | some v=>C9 P (ae0 (Instr.next v b o.type)) G σ
  | none=>False
 | .typeAssert x t u ok=>match evO e x with
  | some v=>C9 P (ae0 (Instr.typeAssert v t u ok)) G σ
  | none=>False
 | .binOp op t x y _=>match evO e x,evO e y with
  | some u,some v=>C9 P (ae0 (do eqGuard op t x y u v;binOp op t u v)) G σ
  | _,_=>False
 | _=>False

section
variable {P : Program}
theorem ai4 {g:FuncId} {args:Array Value} (h:I3 P g=true) (w:World):(callFunc g args).run P w = .ok (.enter g args) w:=by
 unfold I3 at h
 split at h
 ·rename_i fn hfn
  simp only[A8,Bool.not_eq_true']at h
  obtain⟨h1,h2⟩:=h
  have h3 : (fn.name == "runtime.NumGoroutine") = false := h2
  have h4:fn.body.isNone=false:=by cases hb:fn.body with | none=>simp[hb]at h1 | some c=>rfl
  simp only[callFunc,Sem.run_bind,run_program,Result.andThen_ok,hfn,h3,F4,if_false,h4,Sem.run_pure]
 ·cases h
theorem bm2 {g:FuncId} {as0 cs vs:List Value} {G:Value->H->Prop} {σ:H} (hg:I3 P g=true) (h:A4 P g (as0++vs++cs) G σ):C9 P (Y0 (.func (.func g) ⟨as0⟩ ⟨cs⟩) vs) G σ:=by
 intro w hw
 have:(Y0 (.func (.func g) ⟨as0⟩ ⟨cs⟩) vs).run P w = .ok (.enter g (as0++vs++cs).toArray) w:=by
  simp only[Y0,Deferred.ofValue,Sem.run_bind,Sem.run_pure,Result.andThen_ok,invoke]
  rw[ai4 hg]
  simp
 rw[this]
 exact(h w hw).mono fun e w' ⟨v,he,r⟩=>⟨v,he,r⟩
theorem aK5 {fv:Value} {vs:List Value} {G:Value->H->Prop} {σ:H} (h:u7 P fv vs G σ):C9 P (Y0 fv vs) G σ:=by
 unfold u7 at h
 split at h
 ·split at h
  ·rename_i hg;exact bm2 hg h
  ·exact h
 ·exact h
theorem aK6 {α β:Type} (f:α->β) (l:List α):(Array.mk l).map f=⟨l.map f⟩:=by apply Array.ext';simp
theorem bA5 : ∀ (l:List Operand),l.map (fun | .const _=>true | _=>false)=aC4 l:=by
 intro l
 induction l with
 | nil=>rfl
 | cons x l ih=>cases x<;>simp[aC4,ih]

theorem aT1 {N:Nat} {e:M5} {a:Act} (fr:FR N e a) {o:Oper} {G:Value->H->Prop} {σ:H} (h:efF P e G o σ):C9 P (execOp a.eval o) G σ:=by
 obtain⟨dst,op,type,pos,after,guard⟩:=o
 unfold efF at h
 split at h
 ·rename_i f xs _ hop
  simp only at hop;subst hop
  have hex : ∀fv vs,evO e f=some fv->evL e xs=some vs->execOp a.eval ⟨dst,.call ⟨.value f,⟨xs⟩,by assumption⟩,type,pos,after,guard⟩=Y0 fv vs:=by
   intro fv vs h1 h2
   simp only[execOp,resolve,Y0,aK6,fr.evO h1,fr.evL h2]
  split at h
  ·rename_i fv vs hf hv
   rw[hex _ _ hf hv]
   exact aK5 h
  ·exact h.elim
 ·rename_i b xs ts hop
  simp only at hop;subst hop
  split at h
  ·rename_i vs hv
   have hex:execOp a.eval ⟨dst,.call ⟨.builtin b,⟨xs⟩,ts⟩,type,pos,after,guard⟩=builtin b ts type ⟨aC4 xs⟩ ⟨vs⟩:=by
    simp only[execOp,resolve,invoke,aK6,fr.evL hv,pure_bind]
    exact D9 (fun l=>builtin b ts type ⟨l⟩ ⟨vs⟩) (bA5 xs)
   rw[hex];exact h
  ·exact h.elim
 ·rename_i r m xs _ hop
  simp only at hop;subst hop
  split at h
  ·rename_i v vs h1 h2
   have hex:execOp a.eval ⟨dst,.call ⟨.invoke r m,⟨xs⟩,by assumption⟩,type,pos,after,guard⟩=callMethod v m ⟨vs⟩:=by
    simp only[execOp,resolve,aK6,fr.evO h1,fr.evL h2,pure_bind,invoke]
    simp
   rw[hex];exact h
  ·exact h.elim
 ·rename_i hop;simp only at hop;subst hop
  split at h
  ·rename_i u v h1 h2
   simp only[execOp,fr.evO h1,fr.evO h2];exact h
  ·exact h.elim
 ·rename_i hop;simp only at hop;subst hop
  split at h
  ·rename_i u v x h1 h2 h3
   simp only[execOp,fr.evO h1,fr.evO h2,fr.evO h3];exact h
  ·exact h.elim
 ·rename_i hop;simp only at hop;subst hop
  split at h
  ·rename_i u v x h1 h2 h3
   simp only[execOp,fr.evO h1,fr.evO h2,fr.evO h3];exact h
  ·exact h.elim
 ·rename_i hop;simp only at hop;subst hop
  split at h
  ·rename_i u h1
   simp only[execOp,fr.evO h1];exact h
  ·exact h.elim
 ·rename_i hop;simp only at hop;subst hop
  split at h
  ·rename_i u v h1 h2
   simp only[execOp,fr.evO h1,fr.evO h2];exact h
  ·exact h.elim
 ·rename_i hop;simp only at hop;subst hop
  split at h
  ·rename_i u h1
   simp only[execOp,fr.evO h1];exact h
  ·exact h.elim
 ·rename_i hop;simp only at hop;subst hop
  split at h
  ·rename_i u h1
   simp only[execOp,fr.evO h1];exact h
  ·exact h.elim
 ·rename_i hop;simp only at hop;subst hop
  split at h
  ·rename_i u h1
   simp only[execOp,fr.evO h1];exact h
  ·exact h.elim
 ·rename_i hop;simp only at hop;subst hop
  split at h
  ·rename_i u v h1 h2
   simp only[execOp,fr.evO h1,fr.evO h2];exact h
  ·exact h.elim
 ·exact h.elim
end

def bK4 (P:Program) (b:Builtin) (ts:Array TypeId):Nat :=
 match b,ts with
 | .len,⟨t::_⟩=>match P.underlying t with
  | some (.map _ _)=>1
  | _=>0
 | .cap,_=>0
 | .min,_=>0
 | .max,_=>0
 | _,_=>3
def bZ9 (P:Program) (s d:TypeId):Nat :=
 match P.underlying s,P.underlying d with
 | some (.slice _),_=>3
 | _,some (.slice _)=>3
 | some .unsafePointer,_=>3
 | _,some .unsafePointer=>3
 | some .string,some .string=>0
 | some (.int _),some .string=>3
 | _,_=>0
def cz9:Operand->Bool
 | .const _=>true
 | _=>false
def ck9 (P:Program) (t:TypeId) (x y:Operand):Nat :=
 match P.underlying t with
 | some (.interface _)=>3
 | some (.func _ _ _)=>3
 | some (.pointer _)=>match cz9 x||cz9 y with
  | true=>0
  | false=>3
 | _=>0
def aw7 (P:Program) (o:Op):Nat :=
 match o with
 | .move _ | .assign _ | .pick .. | .nilCheck _ | .fieldAddr .. | .field .. | .extract .. | .unOp .. | .makeInterface .. | .makeFunc .. | .build .. | .indexAddr .. | .slice .. => 0
 | .index t _ _=>match P.underlying t with
  | some (.array _ _)=>1
  | _=>0
 | .binOp op t x y _=>match op with
  | .eql=>ck9 P t x y
  | .neq=>ck9 P t x y
  | _=>0
 | .convert s d _=>bZ9 P s d
 | .load .. | .lookup .. => 1
 | .alloc _ | .box .. | .buildSlice .. | .makeMap .. => 2
 | .call { callee := .builtin b,args:=_,argTypes:=ts }=>bK4 P b ts
 | _=>3
def clI (P:Program) (ops:List Oper) (i:Nat):Nat :=
 match ops[i]? with
 | some o=>aw7 P o.op
 | none=>3

abbrev aH7:=List (Nat×(H->Option Value)×Value)
def bA6 (A:Nat->Nat->Bool) (i:Nat):aH7->(H->Prop)->H->Prop
 | [],g,σ=>g σ
 | (j,r,v)::q,g,σ=>match A j i with
  | true=>bA6 A i q g σ
  | false=>r σ=some v/\bA6 A i q g σ
def l4 (r:H->Option Value) (t:TK) (F:t.Fn (H->Prop)) (σ:H):Prop := ∃v,r σ=some v/\app t F v σ

def bm3 (ops:List Oper) (j:Nat):Option Nat :=
 match ops[j]? with
 | some o=>o.dst
 | none=>none
def dI0:Bool->Bool->Bool
 | true,true=>true
 | false,false=>true
 | _,_=>false
def A2 (c g:H->Prop) (σ:H):Prop:=c σ/\g σ
def aK7 (ops:List Oper) (e:M5) (g:Option (Nat×Bool)) (exec skip:M5->H->Prop) (σ:H):Prop :=
 match g with
 | none=>exec e σ
 | some (j,want)=>match bm3 ops j with
  | none=>skip e σ
  | some d=>match e.get? d with
   | none=>False
   | some (.bool t)=>l8 t
    (match want with | true=>exec ((d,.bool true)::e) | false=>skip ((d,.bool true)::e))
    (match want with | true=>skip ((d,.bool false)::e) | false=>exec ((d,.bool false)::e)) σ
   | some _=>skip e σ

def tyO (τ:TypeId->TK) (o:Oper):TK:=match o.op with
 | .next _ true => .opt [.sc (.int .i64),.sc (.int .i32)]
 | .range _ _ => .one (.sc .ptr)
 | _=>τ o.type
def rgF (P:Program) (τ:TypeId->TK) (N:Nat) (ops:List Oper) (A:Nat->Nat->Bool):List Nat->aH7->M5->(aH7->M5->H->Prop)->H->Prop
 | [],q,e,K,σ=>K q e σ
 | i::l,q,e,K,σ=>match ops[i]? with
  | none=>False
  | some o=>match V3 o.op&&aF2 N o.dst with
   | false=>False
   | true=>aK7 ops e o.guard
    (fun e σ=>match aw7 P o.op with
     | 0=>bA0 P e (fun v=>rgF P τ N ops A l q (e.put o.dst v) K) o.op σ
     | 1=>bK2 P e (fun r=>l4 r (τ o.type) ((τ o.type).lam fun v=>rgF P τ N ops A l ((i,r,v)::q) (e.put o.dst v) K)) o.op σ
     | 2=>alF P e (fun obj mk=>A9 obj fun b=>rgF P τ N ops A l q (e.put o.dst (mk b)) K) o.op σ
     | _=>efF P e (app (tyO τ o) ((tyO τ o).lam fun v=>bA6 A i q (rgF P τ N ops A l q (e.put o.dst v) K))) o σ)
    (fun e=>rgF P τ N ops A l q (e.put o.dst undef) K) σ

section
variable {P : Program} {τ : TypeId -> TK} {N : Nat} {ops : Array Oper} {A : Nat -> Nat -> Bool}

theorem bm4 {i:Nat} {o:Oper} (h:ops[i]? = some o):clI P ops.toList i=aw7 P o.op:=by
 have:ops.toList[i]? = some o:=by simpa using h
 simp[clI,this]

def PR (P:Program) (q:aH7) (p:List (Nat×Sem Next×Value)):Prop :=
 ∀y∈p,∃z∈q,z.1=y.1/\z.2.2=y.2.2 /\ ∀σ,z.2.1 σ=some y.2.2->RdS P y.2.1 σ y.2.2

theorem PR.mono {q:aH7} {p p':List (Nat×Sem Next×Value)} (h:PR P q p) (hs:∀y∈p',y∈p):PR P q p':=fun y hy=>h y (hs y hy)
theorem bd1 {i:Nat} {g:H->Prop} {σ:H} : ∀ {q:aH7},bA6 A i q g σ->(∀z∈q,A z.1 i=true\/z.2.1 σ=some z.2.2)/\g σ:=by
 intro q
 induction q with
 | nil=>intro h;exact⟨fun z hz=>by simp at hz,h⟩
 | cons x q ih =>
  intro h
  obtain⟨j,r,v⟩:=x
  simp only[bA6]at h
  split at h
  ·rename_i ha
   obtain⟨h1,h2⟩:=ih h
   refine⟨fun z hz => ?_,h2⟩
   rcases A5.1 hz with rfl | hz
   ·exact .inl ha
   ·exact h1 z hz
  ·obtain⟨h1,h2⟩:=ih h.2
   refine⟨fun z hz => ?_,h2⟩
   rcases A5.1 hz with rfl | hz
   ·exact .inr h.1
   ·exact h1 z hz

theorem FR.same {e:M5} {a:Act} (h:FR N e a) {d:Nat} {v:Value} (hd:e.get? d=some v):FR N ((d,v)::e) a:=by
 refine⟨h.size,fun i u hu => ?_⟩
 simp only[M5.get?]at hu
 split at hu
 ·rename_i hb;have:=Nat.eq_of_beq_eq_true hb;subst this;cases hu;exact h.get _ _ hd
 ·exact h.get i u hu

theorem an6 {e:M5} {a:Act} (fr:FR N e a) {o:Oper} {exec skip:M5->H->Prop} {σ:H} (h:aK7 ops.toList e o.guard exec skip σ) :
 ∃e',FR N e' a/\((Region.wanted o (yielded ops a.tmps)=true/\exec e' σ)\/(Region.wanted o (yielded ops a.tmps)=false/\skip e' σ)):=by
 unfold aK7 at h
 split at h
 ·rename_i hg
  exact⟨e,fr,.inl ⟨by simp[Region.wanted,hg],h⟩⟩
 ·rename_i j want hg
  split at h
  ·rename_i hs
   refine⟨e,fr,.inr ⟨?_,h⟩⟩
   have:(ops[j]?).bind (·.dst)=none:=by
    unfold bm3 at hs
    cases ho:ops[j]? with
    | none=>rfl
    | some o' => have : ops.toList[j]? = some o' := by simpa using ho
                 simp[this]at hs;simp[hs]
   simp[Region.wanted,hg,yielded,this]
  ·rename_i d hs
   have hd:(ops[j]?).bind (·.dst)=some d:=by
    unfold bm3 at hs
    cases ho:ops[j]? with
    | none => have : ops.toList[j]? = none := by simpa using ho
              simp[this]at hs
    | some o' => have : ops.toList[j]? = some o' := by simpa using ho
                 simp[this]at hs;simp[hs]
   split at h
   ·exact h.elim
   ·rename_i t ht
    have hy:yielded ops a.tmps j=some t:=by
     have:=fr.get d _ ht
     simp[yielded,hd,this]
    cases t with
    | true =>
     refine⟨_,fr.same ht,?_⟩
     cases want with
     | true=>exact .inl ⟨by simp[Region.wanted,hg,hy],h⟩
     | false=>exact .inr ⟨by simp[Region.wanted,hg,hy],h⟩
    | false =>
     refine⟨_,fr.same ht,?_⟩
     cases want with
     | true=>exact .inr ⟨by simp[Region.wanted,hg,hy],h⟩
     | false=>exact .inl ⟨by simp[Region.wanted,hg,hy],h⟩
   ·rename_i v hnb hv
    have hy:yielded ops a.tmps j=none:=by
     have:=fr.get d _ hv
     unfold yielded
     rw[hd]
     simp only[Option.bind_some,this]
     split
     ·rename_i b hb;cases hb;exact u9 rfl (hnb _)
     ·rfl
    exact⟨e,fr,.inr ⟨by simp[Region.wanted,hg,hy],h⟩⟩

theorem Y9 (a:Act) (d:Option Nat) (v:Value):(a.put d v).defers=a.defers:=by cases d<;>rfl

theorem X6 {K:aH7->M5->H->Prop} : ∀ (l:List Nat) {q:aH7} {p:List (Nat×Sem Next×Value)} {e:M5} {a:Act} {σ:H},PR P q p->FR N e a->rgF P τ N ops.toList A l q e K σ ->
 F3 P ops (clI P ops.toList) A p l a (fun p' a' σ' => ∃q' e',PR P q' p'/\FR N e' a'/\a'.defers=a.defers/\K q' e' σ') σ:=by
 intro l
 induction l with
 | nil=>intro q p e a σ hpr fr h;exact⟨q,e,hpr,fr,rfl,h⟩
 | cons i l ih =>
  intro q p e a σ hpr fr h
  simp only[rgF]at h
  split at h
  ·exact h.elim
  ·rename_i o ho
   have ho':ops[i]? = some o:=by simpa using ho
   split at h
   ·exact h.elim
   ·rename_i hp
    simp only[A8]at hp
    obtain⟨hp,hd⟩:=hp
    refine⟨o,ho',hp,?_⟩
    have lift : ∀ {v:Value} {p':List (Nat×Sem Next×Value)} {σ':H},F3 P ops (clI P ops.toList) A p' l (a.put o.dst v) (fun p' a' σ' => ∃q' e',PR P q' p'/\FR N e' a'/\a'.defers=(a.put o.dst v).defers/\K q' e' σ') σ' ->
     F3 P ops (clI P ops.toList) A p' l (a.put o.dst v) (fun p' a' σ' => ∃q' e',PR P q' p'/\FR N e' a'/\a'.defers=a.defers/\K q' e' σ') σ':=by
     intro v p' σ' h;rw[Y9]at h;exact h
    obtain⟨e',fr',h | h⟩:=an6 fr h
    ·obtain⟨hw,h⟩:=h
     rw[d9 hw,bm4 ho']
     split at h
     ·rename_i hc
      rw[hc]
      obtain⟨v,hv,h⟩:=an5 fr' h
      exact⟨v,hv,lift (ih hpr (fr'.put hd v) h)⟩
     ·rename_i hc
      rw[hc]
      obtain⟨r,hr,v,hrv,h⟩:=ax5 fr' h
      have h:=app_lam h
      refine⟨v,hr _ _ hrv,lift (ih ?_ (fr'.put hd v) h)⟩
      intro y hy
      rcases A5.1 hy with rfl | hy
      ·exact⟨(i,r,v),E2 ..,rfl,rfl,fun σ hσ=>hr σ v hσ⟩
      ·obtain⟨z,hz,h1,h2,h3⟩:=hpr y hy
       exact⟨z,E3 _ hz,h1,h2,h3⟩
     ·rename_i hc
      rw[hc]
      obtain⟨obj,mk,hal,h⟩:=at8 fr' h
      exact⟨mk,obj,hal,fun b hb=>lift (ih hpr (fr'.put hd _) (h b hb))⟩
     ·rename_i hc0 hc1 hc2
      have hm : ∀ (a0 a1 a2 a3:Prop),a3->(match aw7 P o.op with | 0=>a0 | 1=>a1 | 2=>a2 | _=>a3):=by
       intro a0 a1 a2 a3 h3
       split
       ·exact u9 ‹_› hc0
       ·exact u9 ‹_› hc1
       ·exact u9 ‹_› hc2
       ·exact h3
      refine hm _ _ _ _ ((aT1 fr' h).mono fun v σ' h => ?_)
      obtain⟨h1,h2⟩:=bd1 (app_lam h)
      refine⟨fun y hy => ?_,lift (ih hpr (fr'.put hd v) h2)⟩
      obtain⟨z,hz,e1,e2,e3⟩:=hpr y hy
      rcases h1 z hz with h1 | h1
      ·exact .inl (e1 ▸ h1)
      ·exact .inr (e3 σ' (e2 ▸ h1))
    ·obtain⟨hw,h⟩:=h
     rw[c0 (by rw[hw];simp)]
     exact lift (ih hpr (fr'.put hd undef) h)
end
end Go.HL

