/- A part of a proof. -/
import Derived.Test.YtikedigonnlbkaaGreatDoorSac
namespace Go.HL
open Go

structure Sl where
 base:m9
 len:Nat
 cap:Nat

inductive SK where
 |raw|int (k:IntKind)|bool|str|ptr|slc|map

@[reducible] def SK.T:SK->Type
 |.raw=>u9
 |.int _=>Int
 |.bool=>Bool
 |.str=>d9
 |.ptr=>m9
 |.slc=>Sl
 |.map=>Option Nat

def SK.inj:(s:SK)->s.T->u9
 |.raw,v=>v
 |.int k,n=>.int k n
 |.bool,b=>.bool b
 |.str,s=>.string s
 |.ptr,p=>.pointer p
 |.slc,s=>.slice s.base s.len s.cap
 |.map,r=>.map r

def bi8:IntKind->IntKind->Bool
 |.i8,.i8|.i16,.i16|.i32,.i32|.i64,.i64|.u8,.u8|.u16,.u16|.u32,.u32|.u64,.u64=>true
 |_,_=>false
theorem aP9{a b:IntKind}(h:bi8 a b=true):a=b:=by cases a<;>cases b<;>first|rfl|cases h
theorem ak5(a:IntKind):bi8 a a=true:=by cases a<;>rfl

def aw6(k:IntKind):u9->Option Int
 |.int k' n=>match bi8 k' k with
  |true=>some n
  |false=>none
 |_=>none
def bc1:u9->Option Bool
 |.bool b=>some b
 |_=>none
def bU4:u9->Option d9
 |.string b=>some b
 |_=>none
def bU5:u9->Option (m9)
 |.pointer b=>some b
 |_=>none
def bU6:u9->Option Sl
 |.slice b l c=>some ⟨b,l,c⟩
 |_=>none
def bU7:u9->Option (Option Nat)
 |.map b=>some b
 |_=>none

def SK.prj:(s:SK)->u9->Option s.T
 |.raw,v=>some v
 |.int k,v=>aw6 k v
 |.bool,v=>bc1 v
 |.str,v=>bU4 v
 |.ptr,v=>bU5 v
 |.slc,v=>bU6 v
 |.map,v=>bU7 v

theorem SK.inj_prj{s:SK}{v:u9}{x:s.T}(h:s.prj v=some x):s.inj x=v:=by
 cases s with
 |raw=>simp[SK.prj]at h;simp[SK.inj,h]
 |int k =>
  simp only[SK.prj]at h;unfold aw6 at h;split at h
  ·split at h
   ·rename_i hk;cases h;rw[aP9 hk];rfl
   ·cases h
  ·cases h
 |bool=>simp only[SK.prj]at h;unfold bc1 at h;split at h<;>cases h;rfl
 |str=>simp only[SK.prj]at h;unfold bU4 at h;split at h<;>cases h;rfl
 |ptr=>simp only[SK.prj]at h;unfold bU5 at h;split at h<;>cases h;rfl
 |slc=>simp only[SK.prj]at h;unfold bU6 at h;split at h<;>cases h;rfl
 |map=>simp only[SK.prj]at h;unfold bU7 at h;split at h<;>cases h;rfl
@[reducible] def FnL:List SK->Type->Type
 | [],R=>R
 |s::l,R=>s.T->FnL l R

def bt0:(l:List SK)->{R:Type}->(List u9->R)->FnL l R
 | [],_,f=>f []
 |s::l,_,f=>fun x=>bt0 l fun vs=>f (s.inj x::vs)

def bt1:(l:List SK)->{R:Type}->FnL l R->List u9->Option R
 | [],_,F,[]=>some F
 |s::l,_,F,v::vs=>match s.prj v with
  |some x=>bt1 l (F x) vs
  |none=>none
 |_,_,_,_=>none

theorem bJ5:∀ (l:List SK) {R:Type} (f:List u9->R) (vs:List u9) (r:R),bt1 l (bt0 l f) vs=some r->r=f vs:=by
 intro l
 induction l with
 |nil =>
  intro R f vs r h;cases vs with
  |nil=>simp[bt1,bt0]at h;exact h.symm
  |cons v vs=>simp[bt1]at h
 |cons s l ih =>
  intro R f vs r h;cases vs with
  |nil=>simp[bt1]at h
  |cons v vs =>
   simp only[bt1,bt0]at h;split at h
   ·rename_i x hx;have:=ih _ vs r h;rw[SK.inj_prj hx]at this;exact this
   ·cases h

inductive CK where
 |sc (s:SK)|agg (l:List SK)

@[reducible] def CK.Fn:CK->Type->Type
 |.sc s,R=>s.T->R
 |.agg l,R=>FnL l R
def CK.lam:(c:CK)->{R:Type}->(u9->R)->c.Fn R
 |.sc s,_,f=>fun x=>f (s.inj x)
 |.agg l,_,f=>bt0 l fun vs=>f (.agg ⟨vs⟩)
def cr0:u9->Option (List u9)
 |.agg ⟨l⟩=>some l
 |_=>none
def CK.prj:(c:CK)->{R:Type}->c.Fn R->u9->Option R
 |.sc s,_,F,v=>match s.prj v with
  |some x=>some (F x)
  |none=>none
 |.agg l,_,F,v=>match cr0 v with
  |some vs=>bt1 l F vs
  |none=>none
theorem CK.prj_lam(c:CK){R:Type}(f:u9->R)(v:u9)(r:R)(h:c.prj (c.lam f) v=some r):r=f v:=by
 cases c with
 |sc s =>
  simp only[CK.prj,CK.lam]at h;split at h
  ·rename_i x hx;cases h;rw[SK.inj_prj hx]
  ·cases h
 |agg l =>
  simp only[CK.prj,CK.lam]at h;split at h
  ·rename_i vs uj;unfold cr0 at uj;split at uj
   ·cases uj;exact bJ5 l _ _ _ h
   ·cases uj
  ·cases h

@[reducible] def FnC:List CK->Type->Type
 | [],R=>R
 |c::l,R=>c.Fn (FnC l R)
def aQ0:(l:List CK)->{R:Type}->(List u9->R)->FnC l R
 | [],_,f=>f []
 |c::l,_,f=>c.lam fun v=>aQ0 l fun vs=>f (v::vs)
def ar7:(l:List CK)->{R:Type}->FnC l R->List u9->Option R
 | [],_,F,[]=>some F
 |c::l,_,F,v::vs=>match c.prj F v with
  |some G=>ar7 l G vs
  |none=>none
 |_,_,_,_=>none
theorem ao5:∀ (l:List CK) {R:Type} (f:List u9->R) (vs:List u9) (r:R),ar7 l (aQ0 l f) vs=some r->r=f vs:=by
 intro l
 induction l with
 |nil =>
  intro R f vs r h;cases vs with
  |nil=>simp[ar7,aQ0]at h;exact h.symm
  |cons v vs=>simp[ar7]at h
 |cons s l ih =>
  intro R f vs r h;cases vs with
  |nil=>simp[ar7]at h
  |cons v vs =>
   simp only[ar7,aQ0]at h;split at h
   ·rename_i G hG;rw[CK.prj_lam _ _ _ _ hG]at h;exact ih _ vs r h
   ·cases h

inductive TK where
 |one (c:CK)|tup (l:List CK)|opt (l:List CK)
@[reducible] def TK.Fn:TK->Type->Type
 |.one c,R=>c.Fn R
 |.tup l,R=>FnC l R
 |.opt l,R=>R×FnC l R
def TK.lam:(t:TK)->{R:Type}->(u9->R)->t.Fn R
 |.one c,_,f=>c.lam f
 |.tup l,_,f=>aQ0 l fun vs=>f (.tuple ⟨vs⟩)
 |.opt l,_,f=>(f (.tuple ⟨[.bool false]⟩),aQ0 l fun vs=>f (.tuple ⟨.bool true::vs⟩))
def bi9:u9->Option (List u9)
 |.tuple ⟨l⟩=>some l
 |_=>none
def aW4:u9->Option (Option (List u9))
 |.tuple ⟨[.bool false]⟩=>some none
 |.tuple ⟨.bool true::l⟩=>some (some l)
 |_=>none
theorem bt2{v:u9}(h:aW4 v=some none):v=.tuple ⟨[.bool false]⟩:=by
 unfold aW4 at h;split at h
 ·rfl
 ·cases h
 ·cases h
theorem bt3{v:u9}{l:List u9}(h:aW4 v=some (some l)):v=.tuple ⟨.bool true::l⟩:=by
 unfold aW4 at h;split at h
 ·cases h
 ·cases h;rfl
 ·cases h
def TK.prj:(t:TK)->{R:Type}->t.Fn R->u9->Option R
 |.one c,_,F,v=>c.prj F v
 |.tup l,_,F,v=>match bi9 v with
  |some vs=>ar7 l F vs
  |none=>none
 |.opt l,_,F,v=>match aW4 v with
  |some none=>some F.1
  |some (some vs)=>ar7 l F.2 vs
  |none=>none
theorem TK.prj_lam(t:TK){R:Type}(f:u9->R)(v:u9)(r:R)(h:t.prj (t.lam f) v=some r):r=f v:=by
 cases t with
 |one c=>exact CK.prj_lam c f v r h
 |tup l =>
  simp only[TK.prj,TK.lam]at h;split at h
  ·rename_i vs uj;unfold bi9 at uj;split at uj
   ·cases uj;exact ao5 l _ _ _ h
   ·cases uj
  ·cases h
 |opt l =>
  simp only[TK.prj,TK.lam]at h;split at h
  ·rename_i hv;cases h;rw[bt2 hv]
  ·rename_i vs hv;rw[bt3 hv];exact ao5 l _ _ _ h
  ·cases h

def bt4(o:Option (H->Prop))(Y:H):Prop :=
 match o with
 |some g=>g Y
 |none=>False
def app(t:TK)(F:t.Fn (H->Prop))(v:u9)(Y:H):Prop:=bt4 (t.prj F v) Y
theorem app_lam{t:TK}{f:u9->H->Prop}{v:u9}{Y:H}(h:app t (t.lam f) v Y):f v Y:=by
 unfold app bt4 at h;split at h
 ·rename_i g hg;rw[TK.prj_lam _ _ _ _ hg]at h;exact h
 ·exact h.elim

abbrev Env:=List (Nat×u9)
def Env.get?:Env->Nat->Option u9
 | [],_=>none
 |(j,v)::r,i=>match Nat.beq j i with
  |true=>some v
  |false=>Env.get? r i
def Env.put(e:Env):Option Nat->u9->Env
 |some d,v=>(d,v)::e
 |none,_=>e
def evO(e:Env):Operand->Option u9
 |.tmp t=>e.get? t
 |.const v=>some v
 |.global g=>some (.pointer (some ⟨g,0,none⟩))
 |.func f=>some (.func (.func f) #[] #[])
def evL(e:Env):List Operand->Option (List u9)
 | []=>some []
 |x::r=>match evO e x with
  |some v=>match evL e r with
   |some vs=>some (v::vs)
   |none=>none
  |none=>none

structure FR(N:Nat)(e:Env)(a:Act):Prop where
 size:N<=a.tmps.size
 get:∀i v,e.get? i=some v->a.tmps[i]?=some v

theorem FR.evO{N:Nat}{e:Env}{a:Act}(h:FR N e a){x:Operand}{v:u9}(hx:evO e x=some v):a.eval x=v:=by
 cases x with
 |tmp t=>simp only[HL.evO]at hx;simp[Act.eval,h.get t v hx]
 |const v=>simp[HL.evO]at hx;simp[Act.eval,hx]
 |global g=>simp[HL.evO]at hx;simp[Act.eval,hx]
 |func f=>simp[HL.evO]at hx;simp[Act.eval,hx]
theorem FR.evL{N:Nat}{e:Env}{a:Act}(h:FR N e a):∀ {xs:List Operand} {vs:List u9},evL e xs=some vs->xs.map a.eval=vs:=by
 intro xs
 induction xs with
 |nil=>intro vs hv;simp[HL.evL]at hv;simp[hv]
 |cons x xs ih =>
  intro vs hv;simp only[HL.evL]at hv;split at hv
  ·rename_i v hx;split at hv
   ·rename_i us ye;cases hv;simp[h.evO hx,ih ye]
   ·cases hv
  ·cases hv

def bU8(N:Nat):Option Nat->Bool
 |some d=>Nat.blt d N
 |none=>true
theorem FR.put{N:Nat}{e:Env}{a:Act}(h:FR N e a){d:Option Nat}(hd:bU8 N d=true)(v:u9):FR N (e.put d v) (a.put d v):=by
 cases d with
 |none=>exact h
 |some d =>
  have hd:d<N:=by simpa[bU8]using hd
  refine⟨by simp[Act.put,h.size],fun i u hu=>?_⟩;simp only[Env.put,Env.get?]at hu;have iw:d<a.tmps.size:=Nat.lt_of_lt_of_le hd h.size;split at hu
  ·rename_i he;have:=Nat.eq_of_beq_eq_true he;subst this;cases hu;simp[Act.put,iw]
  ·rename_i he;have:d≠i:=Nat.ne_of_beq_eq_false he;simp only[Act.put];rw[Array.getElem?_setIfInBounds_ne this];exact h.get i u hu

abbrev af1:=List (Nat×CK)
def af1.ks:af1->List CK
 | []=>[]
 |(_,c)::r=>c::af1.ks r
def af1.zip:af1->List u9->Env
 |(i,_)::r,v::vs=>(i,v)::af1.zip r vs
 |_,_=>[]
def af1.sel(e:Env):af1->Option (List u9)
 | []=>some []
 |(i,_)::r=>match e.get? i with
  |some v=>match af1.sel e r with
   |some vs=>some (v::vs)
   |none=>none
  |none=>none
@[reducible] def af1.Fn (l:af1):Type:=FnC l.ks (H->Prop)
def af1.lam(l:af1)(f:Env->H->Prop):l.Fn:=aQ0 l.ks fun vs=>f (l.zip vs)
def af1.app(l:af1)(F:l.Fn)(e:Env):H->Prop :=
 match l.sel e with
 |some vs=>match ar7 l.ks F vs with
  |some g=>g
  |none=>fun _=>False
 |none=>fun _=>False
theorem af1.zip_get{e:Env}:∀ {l:af1} {vs:List u9},l.sel e=some vs->∀i v,(l.zip vs).get? i=some v->e.get? i=some v:=by
 intro l
 induction l with
 |nil=>intro vs h i v hv;simp[af1.zip,Env.get?]at hv
 |cons x l ih =>
  intro vs h i v hv;obtain⟨j,c⟩:=x;simp only[af1.sel]at h;split at h
  ·rename_i u hu;split at h
   ·rename_i us ye;cases h;simp only[af1.zip,Env.get?]at hv;split at hv
    ·rename_i hb;have:=Nat.eq_of_beq_eq_true hb;subst this;cases hv;exact hu
    ·exact ih ye i v hv
   ·cases h
  ·cases h
theorem af1.app_get{l:af1}{F:l.Fn}{e:Env}{Y:H}(h:l.app F e Y):∃vs g,l.sel e=some vs/\ar7 l.ks F vs=some g/\g Y:=by
 unfold af1.app at h;cases hs:af1.sel e l with
 |none=>simp only[hs]at h
 |some vs =>
  simp only[hs]at h;cases hp:ar7 l.ks F vs with
  |none=>simp only[hp]at h
  |some g=>simp only[hp]at h;exact⟨vs,g,rfl,hp,h⟩
theorem af1.app_lam{l:af1}{f:Env->H->Prop}{e:Env}{Y:H}(h:l.app (l.lam f) e Y):∃vs,l.sel e=some vs/\f (l.zip vs) Y:=by
 obtain⟨vs,g,h1,h2,h3⟩:=af1.app_get h;refine⟨vs,h1,?_⟩;have:=ao5 _ _ _ _ h2;rw[this]at h3;exact h3
theorem FR.sel{N:Nat}{e:Env}{a:Act}(h:FR N e a){l:af1}{vs:List u9}(hs:l.sel e=some vs):FR N (l.zip vs) a :=
 ⟨h.size,fun i v hv=>h.get i v (af1.zip_get hs i v hv)⟩

def leL:(l:List SK)->{R:Type}->(R->R->Prop)->FnL l R->FnL l R->Prop
 | [],_,le,F,G=>le F G
 |s::l,_,le,F,G=>∀x:s.T,leL l le (F x) (G x)
def CK.le:(c:CK)->{R:Type}->(R->R->Prop)->c.Fn R->c.Fn R->Prop
 |.sc s,_,le,F,G=>∀x:s.T,le (F x) (G x)
 |.agg l,_,le,F,G=>leL l le F G
def leC:(l:List CK)->FnC l (H->Prop)->FnC l (H->Prop)->Prop
 | [],F,G=>∀Y,F Y->G Y
 |c::l,F,G=>c.le (leC l) F G

end Go.HL

