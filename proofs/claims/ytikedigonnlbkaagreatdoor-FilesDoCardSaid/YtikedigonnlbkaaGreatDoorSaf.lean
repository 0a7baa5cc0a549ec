/- A part of a proof. -/
import Derived.Test.YtikedigonnlbkaaGreatDoorSae
namespace Go.HL
open Go

def I2(s:d9)(i:Int)(g:J3->H->Prop)(Y:H):Prop :=
 match (if 0<=i then s[i.toNat]? else none) with
 |some b=>g b Y
 |none=>False
def E1(x:Option Int)(m:Nat):Prop :=
 match x with
 |some x=>0<=x/\x<=m
 |none=>True
def af7(x:Option Int)(d:Nat):Nat :=
 match x with
 |some x=>x.toNat
 |none=>d
def N6(a:m9)(l m n:Nat):m9:=if m=l then a else a.map (·.add (l*n))

def evB(e:Env):Option Operand->Option (Option Int)
 |none=>some none
 |some x=>match evO e x with
  |some (.int _ n)=>some (some n)
  |_=>none

def aQ2(P:Program)(t:TypeId)(x:u9)(i:Int)(K:KH)(Y:H):Prop :=
 match P.underlying t,x with
 |some (.slice el),.slice base len _=>match E6 P el with
  |some n=>i9 base (fun b o=>E3 (0<=i/\i<len) (K (.pointer (some ⟨b,o+i.toNat*n,none⟩)))) Y
  |none=>False
 |some (.array len el),.pointer base=>match E6 P el with
  |some n=>i9 base (fun b o=>E3 (0<=i/\i<len) (K (.pointer (some ⟨b,o+i.toNat*n,none⟩)))) Y
  |none=>False
 |_,_=>False
def slF(P:Program)(t:TypeId)(x:u9)(lo hi mx:Option Int)(K:KH)(Y:H):Prop :=
 match P.underlying t,x,mx with
 |some .string,.string s,none=>E3 (E1 hi s.size/\E1 lo (af7 hi s.size)) (K (.string (s.extract (af7 lo 0) (af7 hi s.size)))) Y
 |some (.slice el),.slice a len cap,none=>match E6 P el with
  |some n=>E3 (E1 hi cap/\E1 lo (af7 hi len)) (K (.slice (N6 a (af7 lo 0) cap n) (af7 hi len-af7 lo 0) (cap-af7 lo 0))) Y
  |none=>False
 |some (.slice el),.slice a _ cap,some m=>match E6 P el,hi with
  |some n,some h=>E3 (E1 (some m) cap/\E1 (some h) m.toNat/\E1 lo h.toNat) (K (.slice (N6 a (af7 lo 0) m.toNat n) (h.toNat-af7 lo 0) (m.toNat-af7 lo 0))) Y
  |_,_=>False
 |some (.array N el),.pointer base,none=>match E6 P el with
  |some n=>i9 base (fun b o=>E3 (E1 hi N/\E1 lo (af7 hi N)) (K (.slice (N6 (some ⟨b,o,none⟩) (af7 lo 0) N n) (af7 hi N-af7 lo 0) (N-af7 lo 0)))) Y
  |none=>False
 |_,_,_=>False
def cE9(P:Program)(t:TypeId)(x:u9):Option u9 :=
 match P.underlying t,x with
 |some .string,.string s=>some (.int .i64 s.size)
 |some (.slice _),.slice _ n _=>some (.int .i64 n)
 |some (.array n _),_=>some (.int .i64 n)
 |some (.pointer arr),_=>match P.underlying arr with
  |some (.array n _)=>some (.int .i64 n)
  |_=>none
 |_,_=>none
def bu0(P:Program)(b:Builtin)(ts:Array TypeId)(vs:List u9):Option u9 :=
 match b,vs with
 |.len,[x]=>match ts.toList with
  |t::_=>cE9 P t x
  | []=>none
 |.cap,[.slice _ _ c]=>match ts.toList with
  |t::_=>match P.underlying t with
   |some (.slice _)=>some (.int .i64 c)
   |_=>none
  | []=>none
 |.min,[.int k x,.int _ y]=>some (.int k (if y<x then y else x))
 |.max,[.int k x,.int _ y]=>some (.int k (if y>x then y else x))
 |_,_=>none
def cr2(P:Program)(s d:TypeId)(x:u9):Option u9 :=
 match P.underlying s,P.underlying d,x with
 |some _,some (.int k),.int _ n=>some (.int k (k.wrap n))
 |some _,some .string,.string b=>some (.string b)
 |_,_,_=>none
def unF(op:UnOp)(x:u9):Option u9 :=
 match op,x with
 |.not,.bool b=>some (.bool !b)
 |.neg,.int k n=>some (.int k (k.wrap (0-n)))
 |.xor,.int k n=>some (.int k (aC0 .xor k (if k.signed then -1 else k.max) n))
 |_,_=>none
def cr3(P:Program)(t:TypeId):Bool :=
 match P.underlying t with
 |some (.interface _)=>false
 |some _=>true
 |none=>false
def evP(e:Env):List (Nat×Operand)->Option (List (Nat×u9))
 | []=>some []
 |(i,x)::r=>match evO e x with
  |some v=>match evP e r with
   |some vs=>some ((i,v)::vs)
   |none=>none
  |none=>none
def aa5(a:Array u9):List u9:=match a with|⟨l⟩=>l

def J5(v:u9)(g:H->Prop)(Y:H):Prop :=
 match v with
 |.agg _=>False
 |.tuple _=>False
 |_=>g Y
def aW8(P:Program)(ty:Nat->Option TypeId):List (Nat×u9)->(List (Nat×u9)->H->Prop)->H->Prop
 | [],k,Y=>k [] Y
 |(i,v)::r,k,Y=>match ty i with
  |none=>False
  |some t=>match am3 P t with
   |some true=>aW8 P ty r (fun us=>k ((i,v)::us)) Y
   |some false=>J5 v (aW8 P ty r (fun us=>k ((i,.agg ⟨[v]⟩)::us))) Y
   |none=>False
def bV1(P:Program)(t:TypeId)(i:Nat):Option TypeId :=
 match P.underlying t with
 |some (.struct fs)=>match fs.toList[i]? with
  |some f=>some f.type
  |none=>none
 |some (.array _ e)=>some e
 |some (.slice e)=>some e
 |_=>none
def P0(v:u9)(K:KH)(Y:H):Prop :=
 match v with
 |.pointer p=>i9 p (fun b o=>K (.pointer (some ⟨b,o,none⟩))) Y
 |.func (.func f) a c=>K (.func (.func f) a c) Y
 |.func (.yield f) a c=>K (.func (.yield f) a c) Y
 |_=>False

def cu8(P:Program)(e:Env)(K:KH)(o:Op)(Y:H):Prop :=
 match o with
 |.move x=>oW (evO e x) K Y
 |.assign x=>oW (evO e x) K Y
 |.pick c a b=>match evO e c with
  |some (.bool t)=>A0 t (oW (evO e a) K) (oW (evO e b) K) Y
  |_=>False
 |.nilCheck x=>match evO e x with
  |some v=>P0 v K Y
  |none=>False
 |.fieldAddr s x f=>match evO e x,cu0 P s f with
  |some (.pointer p),some n=>i9 p (fun b o=>K (.pointer (some ⟨b,o+n,none⟩))) Y
  |_,_=>False
 |.field s x f=>match evO e x with
  |some (.agg ⟨l⟩)=>oW (bt5 P s l f) K Y
  |_=>False
 |.extract x i=>match evO e x with
  |some (.tuple ⟨l⟩)=>oW l[i]? K Y
  |_=>False
 |.binOp op t x y _=>match evO e x,evO e y with
  |some u,some v=>cu3 P op t u v K Y
  |_,_=>False
 |.unOp op _ x=>match evO e x with
  |some u=>oW (unF op u) K Y
  |_=>False
 |.convert s d x=>match evO e x with
  |some u=>oW (cr2 P s d u) K Y
  |_=>False
 |.makeInterface t x=>match evO e x,cr3 P t with
  |some u,true=>K (.iface t u) Y
  |_,_=>False
 |.makeFunc fn ⟨xs⟩ ⟨ys⟩=>match evL e xs,evL e ys with
  |some us,some vs=>K (.func fn ⟨us⟩ ⟨vs⟩) Y
  |_,_=>False
 |.build t ⟨ps⟩=>match evP e ps with
  |some us=>aW8 P (bV1 P t) us (fun us Y=>match P.built t us with
   |some cs=>K (.agg ⟨aa5 cs⟩) Y
   |none=>False) Y
  |none=>False
 |.index t x i=>match evO e x,evO e i,P.underlying t with
  |some (.string s),some (.int _ i),some .string=>I2 s i (fun b=>K (.int .u8 b.toNat)) Y
  |_,_,_=>False
 |.indexAddr t x i=>match evO e x,evO e i with
  |some u,some (.int _ i)=>aQ2 P t u i K Y
  |_,_=>False
 |.slice t x lo hi mx=>match evO e x,evB e lo,evB e hi,evB e mx with
  |some u,some lo,some hi,some mx=>slF P t u lo hi mx K Y
  |_,_,_,_=>False
 |.call {callee:=.builtin b,args:=⟨xs⟩,argTypes:=ts}=>match evL e xs with
  |some vs=>oW (bu0 P b ts vs) K Y
  |none=>False
 |_=>False

section
variable {P:Program}
theorem aE4(a:Array u9):(⟨aa5 a⟩:Array u9)=a:=by cases a;rfl
theorem ai3{p:m9}{g:Nat->Nat->H->Prop}{Y:H}(h:i9 p g Y):∃b o,p=some ⟨b,o,none⟩/\g b o Y:=by
 unfold i9 at h;split at h
 ·exact⟨_,_,rfl,h⟩
 ·exact h.elim
theorem au6{v:Option u9}{K:KH}{Y:H}(h:oW v K Y):∃u,v=some u/\K u Y:=by
 unfold oW at h;split at h
 ·exact⟨_,rfl,h⟩
 ·exact h.elim
theorem bj0{s:TypeId}{f n b o:Nat}(h:cu0 P s f=some n)(w:World):(Instr.fieldAt s (.pointer (some ⟨b,o,none⟩)) f).run P w=.ok (.pointer (some ⟨b,o+n,none⟩)) w:=by
 unfold cu0 at h;split at h
 ·rename_i fs hu;split at h
  ·rename_i fd tv;split at h
   ·rename_i i hi;split at h
    ·cases h
    ·rename_i m hm;cases h;have hs:E6 P fd.type=some (m+1):=by simp[E6,hi,hm]
     have Ap:fs[f]?=some fd:=by simpa using tv
     simp[Instr.fieldAt,run_underlying hu,Ap,Instr.sureAddr,fieldPlace,X3 hs,ai2]
   ·cases h
  ·cases h
 ·cases h
theorem bJ6{s:TypeId}{l:List u9}{f:Nat}{v:u9}(h:bt5 P s l f=some v)(w:World):(Instr.field s (.agg ⟨l⟩) f).run P w=.ok v w:=by
 unfold bt5 at h;split at h
 ·rename_i fs hu;split at h
  ·rename_i fd tv;have Ap:fs[f]?=some fd:=by simpa using tv
   simp[Instr.field,run_underlying hu,Ap,asAgg,aE3 h]
  ·cases h
 ·cases h
theorem bc4{N:Nat}{e:Env}{a:Act}(fr:FR N e a){x:Option Operand}{b:Option Int}(h:evB e x=some b) :
 (x.map a.eval=none/\b=none)\/∃k n,x.map a.eval=some (.int k n)/\b=some n:=by
 cases x with
 |none=>simp[evB]at h;exact .inl ⟨rfl,h.symm⟩
 |some x =>
  simp only[evB]at h;split at h
  ·rename_i k n hn;cases h;exact .inr ⟨k,n,by simp[fr.evO hn],rfl⟩
  ·cases h
theorem bE4{N:Nat}{e:Env}{a:Act}(fr:FR N e a):∀ {ps:List (Nat×Operand)} {us:List (Nat×u9)},evP e ps=some us->ps.map (fun(i,x)=>(i,a.eval x))=us:=by
 intro ps
 induction ps with
 |nil=>intro us h;simp[evP]at h;simp[h]
 |cons p ps ih =>
  intro us h;obtain⟨i,x⟩:=p;simp only[evP]at h;split at h
  ·rename_i v hv;split at h
   ·rename_i vs uj;cases h;simp[fr.evO hv,ih uj]
   ·cases h
  ·cases h

theorem aQ3{t:TypeId}{x:u9}{k:IntKind}{i:Int}{K:KH}{Y:H}(h:aQ2 P t x i K Y) :
 ∃v,(∀w,(Instr.indexAt t x (.int k i)).run P w=.ok v w)/\K v Y:=by
 unfold aQ2 at h;split at h
 ·rename_i el base len _ hu;split at h
  ·rename_i n hn;obtain⟨b,o,rfl,hc,h⟩:=ai3 h;refine⟨_,fun w=>?_,h⟩;simp[Instr.indexAt,asIntOf,run_underlying hu,hc,X3 hn,ai2]
  ·exact h.elim
 ·rename_i len el base hu;split at h
  ·rename_i n hn;obtain⟨b,o,rfl,hc,h⟩:=ai3 h;refine⟨_,fun w=>?_,h⟩;simp[Instr.indexAt,asIntOf,Instr.sureAddr,run_underlying hu,hc,X3 hn,ai2]
  ·exact h.elim
 ·exact h.elim

theorem aw7{isSl:Bool}{len cap:Nat}{lo hi:Option u9}{l h:Option Int}(hl:(lo=none/\l=none)\/∃k n,lo=some (.int k n)/\l=some n)(hh:(hi=none/\h=none)\/∃k n,hi=some (.int k n)/\h=some n)
 (b1:E1 h cap) (b2:E1 l (af7 h len)) (w:World):(Instr.sliceBounds isSl len cap lo hi none).run P w=.ok (af7 l 0,af7 h len,cap) w:=by
 rcases hh with⟨rfl,rfl⟩|⟨k,n,rfl,rfl⟩<;>rcases hl with⟨rfl,rfl⟩|⟨k',n',rfl,rfl⟩<;>simp only[E1,af7]at b1 b2⊢ <;>
  simp only[Instr.sliceBounds,Instr.sliceBound,asIntOf,Sem.run_bind,Sem.run_pure,Result.andThen_ok,Sem.run_ite,b1,b2,and_self,if_true]
theorem bj1{len cap:Nat}{lo hi mx:Option u9}{l:Option Int}{h m:Int}{k1 k2:IntKind}(hl:(lo=none/\l=none)\/∃k n,lo=some (.int k n)/\l=some n)(hh:hi=some (.int k1 h))(hm:mx=some (.int k2 m))
 (b0:E1 (some m) cap) (b1:E1 (some h) m.toNat) (b2:E1 l h.toNat) (w:World):(Instr.sliceBounds true len cap lo hi mx).run P w=.ok (af7 l 0,h.toNat,m.toNat) w:=by
 subst hh hm;have b1':0<=h/\h<=(m.toNat:Int):=b1;rcases hl with⟨rfl,rfl⟩|⟨k',n',rfl,rfl⟩<;>simp only[E1,af7]at b0 b2⊢
 ·simp only[Instr.sliceBounds,Instr.sliceBound,asIntOf,Sem.run_bind,Sem.run_pure,Result.andThen_ok,Sem.run_ite,b0,b1',and_self,if_true]
 ·simp only[Instr.sliceBounds,Instr.sliceBound,asIntOf,Sem.run_bind,Sem.run_pure,Result.andThen_ok,Sem.run_ite,b0,b1',b2,and_self,if_true]

theorem bJ7{t:TypeId}{x:u9}{lo hi mx:Option u9}{l h m:Option Int}{K:KH}{Y:H}(hl:(lo=none/\l=none)\/∃k n,lo=some (.int k n)/\l=some n)(hh:(hi=none/\h=none)\/∃k n,hi=some (.int k n)/\h=some n)
 (hm:(mx=none/\m=none)\/∃k n,mx=some (.int k n)/\m=some n) (hf:slF P t x l h m K Y):∃v,(∀w,(Instr.sliceAt t x lo hi mx).run P w=.ok v w)/\K v Y:=by
 unfold slF at hf;split at hf
 ·rename_i s hu;obtain⟨rfl,_⟩:mx=none/\_:=by rcases hm with h|⟨_,_,_,h⟩;exact h;cases h
  obtain⟨⟨b1,b2⟩,hf⟩:=hf;refine⟨_,fun w=>?_,hf⟩;simp[Instr.sliceAt,Instr.slice,run_underlying hu,aw7 hl hh b1 b2]
 ·rename_i el a len cap hu;obtain⟨rfl,_⟩:mx=none/\_:=by rcases hm with h|⟨_,_,_,h⟩;exact h;cases h
  split at hf
  ·rename_i n hn;obtain⟨⟨b1,b2⟩,hf⟩:=hf;refine⟨_,fun w=>?_,hf⟩;simp[Instr.sliceAt,Instr.slice,run_underlying hu,aw7 hl hh b1 b2,X3 hn,N6]
  ·exact hf.elim
 ·rename_i el a len cap m hu;split at hf
  ·rename_i n hh' hn;obtain⟨⟨b0,b1,b2⟩,hf⟩:=hf;obtain⟨k2,m',rfl,e⟩:∃k n,mx=some (.int k n)/\some m=some n:=by rcases hm with⟨_,h⟩|h;cases h;exact h
   cases e;obtain⟨k1,h1,rfl,e⟩:∃k n,hi=some (.int k n)/\some hh'=some n:=by rcases hh with⟨_,h⟩|h;cases h;exact h
   cases e;refine⟨_,fun w=>?_,hf⟩;simp[Instr.sliceAt,Instr.slice,run_underlying hu,bj1 hl rfl rfl b0 b1 b2,X3 hn,N6]
  ·exact hf.elim
 ·rename_i N el base hu;obtain⟨rfl,_⟩:mx=none/\_:=by rcases hm with h|⟨_,_,_,h⟩;exact h;cases h
  split at hf
  ·rename_i n hn;obtain⟨b,o,rfl,⟨b1,b2⟩,hf⟩:=ai3 hf;refine⟨_,fun w=>?_,hf⟩;simp[Instr.sliceAt,Instr.sureAddr,run_underlying hu,aw7 hl hh b1 b2,X3 hn,N6];split<;>rfl
  ·exact hf.elim
 ·exact hf.elim

theorem bc5{b:Builtin}{ts:Array TypeId}{vs:List u9}{v:u9}{ty:TypeId}{cs:Array Bool}(h:bu0 P b ts vs=some v)(w:World):(builtin b ts ty cs ⟨vs⟩).run P w=.ok (.value v) w:=by
 unfold bu0 at h;split at h
 ·rename_i x;split at h
  ·rename_i t ts' hts;have ht:ts[0]? = some t:=by
    have:ts.toList[0]?=some t:=by rw[hts];rfl
    simpa using this
   unfold cE9 at h;split at h
   ·rename_i hu;cases h;simp[builtin,Builtin.len_,ht,run_underlying hu,goInt]
   ·rename_i hu;cases h;simp[builtin,Builtin.len_,ht,run_underlying hu,goInt]
   ·rename_i hu;cases h;simp[builtin,Builtin.len_,ht,run_underlying hu,goInt]
   ·rename_i arr hu;split at h
    ·rename_i mi;cases h;simp[builtin,Builtin.len_,ht,run_underlying hu,run_underlying mi,goInt]
    ·cases h
   ·cases h
  ·cases h
 ·split at h
  ·rename_i t ts' hts;have ht:ts[0]? = some t:=by
    have:ts.toList[0]?=some t:=by rw[hts];rfl
    simpa using this
   split at h
   ·rename_i hu;cases h;simp[builtin,Builtin.cap_,ht,run_underlying hu,goInt]
   ·cases h
  ·cases h
 ·cases h;simp[builtin,Builtin.min_,Builtin.min2]
 ·cases h;simp[builtin,Builtin.max_,Builtin.max2]
 ·cases h

theorem cu9{o:Oper}{a:Act}{s:Sem u9}{v:u9}(he:execOp a.eval o=(do pure (.value (<- s))))(h:∀w,s.run P w=.ok v w):Sil P (execOp a.eval o) v:=by
 intro w;rw[he];simp[h w]

theorem bj2{v:u9}{g:H->Prop}{Y:H}(h:J5 v g Y):v.cells = #[v]/\v.oneCell'=true/\g Y:=by
 unfold J5 at h;split at h
 ·exact h.elim
 ·exact h.elim
 ·rename_i h1 h2;cases v<;>first|exact m7 rfl (h1 _)|exact m7 rfl (h2 _)|exact⟨rfl,rfl,h⟩
theorem aW9{ty:Nat->Option TypeId}:∀ {us:List (Nat×u9)} {k:List (Nat×u9)->H->Prop} {Y:H},aW8 P ty us k Y->∃us',us'.map (fun x=>(x.1,x.2.cells))=us.map (fun x=>(x.1,x.2.cells))/\k us' Y:=by
 intro us
 induction us with
 |nil=>intro k Y h;exact⟨[],rfl,h⟩
 |cons x us ih =>
  obtain⟨i,v⟩:=x;intro k Y h;simp only[aW8]at h;split at h
  ·exact h.elim
  ·split at h
   ·obtain⟨us',h1,h2⟩:=ih h;exact⟨_,by simp[h1],h2⟩
   ·obtain⟨hv,_,h⟩:=bj2 h;obtain⟨us',h1,h2⟩:=ih h;refine⟨_,?_,h2⟩;rw[H5,H5,h1,hv];rfl
   ·exact h.elim
theorem aC9{place:Nat->Option (Nat×Nat)}:∀ (us us':List (Nat×u9)) (cells:Array u9),us'.map (fun x=>(x.1,x.2.cells))=us.map (fun x=>(x.1,x.2.cells))->Instr.fill place cells us'=Instr.fill place cells us:=by
 intro us
 induction us with
 |nil=>intro us' cells h;simp at h;subst h;rfl
 |cons x us ih =>
  obtain⟨i,v⟩:=x;intro us' cells h;cases us' with
  |nil=>simp at h
  |cons y us' =>
   obtain⟨j,u⟩:=y;simp only[H5,List.cons.injEq,Prod.mk.injEq]at h;obtain⟨⟨rfl,hc⟩,h⟩:=h;simp only[Instr.fill,hc];split
   ·rfl
   ·split
    ·rfl
    ·exact ih us' _ h
theorem bj3{t:TypeId}{us us':List (Nat×u9)}(h:us'.map (fun x=>(x.1,x.2.cells))=us.map (fun x=>(x.1,x.2.cells))):P.built t us'=P.built t us:=by
 unfold Program.built;split
 ·split
  ·exact aC9 _ _ _ h
  ·rfl
 ·split
  ·exact aC9 _ _ _ h
  ·rfl
 ·rfl

theorem bu1{N:Nat}{e:Env}{a:Act}(fr:FR N e a){o:Oper}{K:KH}{Y:H}(h:cu8 P e K o.op Y):∃v,Sil P (execOp a.eval o) v/\K v Y:=by
 obtain⟨dst,op,type,pos,after,guard⟩:=o;simp only at h;unfold cu8 at h;split at h
 ·obtain⟨u,hu,h⟩:=au6 h;exact⟨u,fun w=>by simp[execOp,fr.evO hu],h⟩
 ·obtain⟨u,hu,h⟩:=au6 h;exact⟨u,fun w=>by simp[execOp,fr.evO hu],h⟩
 ·split at h
  ·rename_i c x y _ t ht;cases t with
   |true =>
    obtain⟨u,hu,h⟩:=au6 h;exact⟨u,fun w=>by simp[execOp,fr.evO ht,fr.evO hu,asBool],h⟩
   |false =>
    obtain⟨u,hu,h⟩:=au6 h;exact⟨u,fun w=>by simp[execOp,fr.evO ht,fr.evO hu,asBool],h⟩
  ·exact h.elim
 ·split at h
  ·rename_i v hv;unfold P0 at h;split at h
   ·obtain⟨b,o,rfl,h⟩:=ai3 h;exact⟨_,fun w=>by simp[execOp,fr.evO hv],h⟩
   ·exact⟨_,fun w=>by simp[execOp,fr.evO hv],h⟩
   ·exact⟨_,fun w=>by simp[execOp,fr.evO hv],h⟩
   ·exact h.elim
  ·exact h.elim
 ·split at h
  ·rename_i p n hp hn;obtain⟨b,o,rfl,h⟩:=ai3 h;exact⟨_,fun w=>by simp[execOp,fr.evO hp,bj0 hn],h⟩
  ·exact h.elim
 ·split at h
  ·rename_i l hl;obtain⟨u,hu,h⟩:=au6 h;exact⟨u,fun w=>by simp[execOp,fr.evO hl,bJ6 hu],h⟩
  ·exact h.elim
 ·split at h
  ·rename_i l hl;obtain⟨u,hu,h⟩:=au6 h;exact⟨u,fun w=>by simp[execOp,fr.evO hl,Instr.extract,hu],h⟩
  ·exact h.elim
 ·split at h
  ·rename_i op' t x y _ _ _ u v hx hy;obtain⟨r,hr,h⟩:=bt9 (ox:=x) (oy:=y) h;exact⟨r,cu9 (s:=do eqGuard op' t x y u v;binOp op' t u v) (by simp[execOp,fr.evO hx,fr.evO hy]) hr,h⟩
  ·exact h.elim
 ·split at h
  ·rename_i u hu;obtain⟨r,hr,h⟩:=au6 h;refine⟨r,fun w=>?_,h⟩;unfold unF at hr;split at hr<;>cases hr<;>simp[execOp,fr.evO hu,Op.unary,Op.intArith,Op.intBits,aC0]
  ·exact h.elim
 ·split at h
  ·rename_i u hu;obtain⟨r,hr,h⟩:=au6 h;refine⟨r,fun w=>?_,h⟩;unfold cr2 at hr;split at hr
   ·rename_i h1 h2;cases hr;simp[execOp,fr.evO hu,convert,run_underlying h1,run_underlying h2,Conv.intToInt]
   ·rename_i h1 h2;cases hr;simp[execOp,fr.evO hu,convert,run_underlying h1,run_underlying h2]
   ·cases hr
  ·exact h.elim
 ·split at h
  ·rename_i t x _ _ u hu hc;refine⟨_,fun w=>?_,h⟩;unfold cr3 at hc;split at hc
   ·cases hc
   ·rename_i d ia hd;have:(Instr.makeInterface t u).run P w = .ok (.iface t u) w:=by
     simp only[Instr.makeInterface,Sem.run_bind,run_underlying hd,Result.andThen_ok];cases d<;>first|rfl|exact m7 rfl (ia _)
    simp[execOp,fr.evO hu,this]
   ·cases hc
  ·exact h.elim
 ·split at h
  ·rename_i xs ys _ us vs h1 h2;refine⟨_,fun w=>?_,h⟩;simp[execOp,Instr.makeFunc,fr.evL h1,fr.evL h2]
  ·exact h.elim
 ·split at h
  ·rename_i us h1;obtain⟨us',ye,h⟩:=aW9 h;split at h
   ·rename_i cs h2;refine⟨_,fun w=>?_,h⟩;rw[aE4];have h3:=bE4 fr h1;rw[bj3 ye]at h2;have:=run_build w _ ⟨us⟩ cs h2;simp only[execOp,Sem.run_bind];rw[show(Array.map (fun(x:Nat×Operand)=>(x.1,a.eval x.2)) ⟨_⟩:Array (Nat×u9))=⟨us⟩from by apply Array.ext';simpa using h3,this]
    rfl
   ·exact h.elim
  ·exact h.elim
 ·split at h
  ·rename_i s k i hx hi hu;unfold I2 at h;split at h
   ·rename_i b hb;refine⟨_,fun w=>?_,h⟩;simp[execOp,fr.evO hx,fr.evO hi,Instr.index,asIntOf,run_underlying hu,hb]
   ·exact h.elim
  ·exact h.elim
 ·split at h
  ·rename_i u k i hx hi;obtain⟨v,hv,h⟩:=aQ3 (k:=k) h;exact⟨v,fun w=>by simp[execOp,fr.evO hx,fr.evO hi,hv w],h⟩
  ·exact h.elim
 ·split at h
  ·rename_i u lo hi mx hx Aq hhi hmx;obtain⟨v,hv,h⟩:=bJ7 (bc4 fr Aq) (bc4 fr hhi) (bc4 fr hmx) h;exact⟨v,fun w=>by simp[execOp,fr.evO hx,hv w],h⟩
  ·exact h.elim
 ·split at h
  ·rename_i vs uj;obtain⟨r,hr,h⟩:=au6 h;refine⟨r,fun w=>?_,h⟩;simp only[execOp,Sem.run_bind,resolve,Sem.run_pure,Result.andThen_ok,invoke];rw[show(Array.map a.eval ⟨_⟩:Array u9)=⟨vs⟩from by apply Array.ext';simpa using fr.evL uj];exact bc5 hr w
  ·exact h.elim
 ·exact h.elim
end
end Go.HL

