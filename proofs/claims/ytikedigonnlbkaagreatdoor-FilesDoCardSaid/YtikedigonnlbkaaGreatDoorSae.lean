/- A part of a proof. -/
import Derived.Test.YtikedigonnlbkaaGreatDoorSad
import Derived.Laws.Tables
import Derived.Laws.Cells
import Derived.Laws.StructEq
namespace Go.HL
open Go

def nW:H->Prop:=fun _=>False
def oW(v:Option u9)(K:KH)(Y:H):Prop :=
 match v with
 |some v=>K v Y
 |none=>False
def A0(t:Bool)(A B:H->Prop)(Y:H):Prop :=
 match t with
 |true=>A Y
 |false=>B Y
def i9(p:m9)(g:Nat->Nat->H->Prop)(Y:H):Prop :=
 match p with
 |some ⟨b,o,none⟩=>g b o Y
 |_=>False
def E3(c:Prop)(g:H->Prop):H->Prop:=fun Y=>c/\g Y

def cu0(P:Program)(s:TypeId)(f:Nat):Option Nat :=
 match P.underlying s with
 |some (.struct fs)=>match fs.toList[f]? with
  |some fd=>match P.info? fd.type with
   |some i=>match i.size with
    |0=>none
    |_+1=>some fd.offset
   |none=>none
  |none=>none
 |_=>none
def am3(P:Program)(t:TypeId):Option Bool :=
 match P.underlying t with
 |some (.struct _)=>some true
 |some (.array _ _)=>some true
 |some _=>some false
 |none=>none
def E6(P:Program)(t:TypeId):Option Nat :=
 match P.info? t with
 |some i=>some i.size
 |none=>none
def aQ1(P:Program)(t:TypeId):Option u9 :=
 match P.info? t with
 |some i=>i.zero
 |none=>none

section
variable {P:Program}
theorem aC3{t:TypeId}{i:TypeInfo}(h:P.info? t=some i)(w:World):(typeInfo t).run P w=.ok i w:=by
 simp[typeInfo,h]
theorem X3{t:TypeId}{n:Nat}(h:E6 P t=some n)(w:World):(sizeOf t).run P w=.ok n w:=by
 unfold E6 at h;split at h
 ·rename_i i hi;cases h;simp[sizeOf,aC3 hi]
 ·cases h
theorem al0{t:TypeId}{v:u9}(h:aQ1 P t=some v)(w:World):(zeroValue t).run P w=.ok v w:=by
 unfold aQ1 at h;split at h
 ·rename_i i hi;simp[zeroValue,aC3 hi,h]
 ·cases h
theorem aA1{t:TypeId}{b:Bool}(h:am3 P t=some b)(w:World):(isAgg t).run P w=.ok b w:=by
 unfold am3 at h;cases hu:P.underlying t with
 |none=>simp[hu]at h
 |some d =>
  simp only[hu]at h;cases d<;>simp at h<;>subst h<;>simp[isAgg,run_underlying hu]
theorem ai2(b o n:Nat):(⟨b,o,none⟩:Addr).add n=⟨b,o+n,none⟩:=by
 unfold Addr.add;split
 ·rename_i h;subst h;rfl
 ·rfl
end

def aW5(P:Program)(t:TypeId)(l:List u9)(off:Nat):Option u9 :=
 match am3 P t with
 |some true=>match E6 P t with
  |some n=>some (.agg ⟨(l.drop off).take n⟩)
  |none=>none
 |some false=>l[off]?
 |none=>none
theorem aE3{P:Program}{t:TypeId}{l:List u9}{off:Nat}{v:u9}(h:aW5 P t l off=some v)(w:World):(part t ⟨l⟩ off).run P w=.ok v w:=by
 unfold aW5 at h;split at h
 ·rename_i ha;split at h
  ·rename_i n hn;cases h;simp only[part,Sem.run_bind,aA1 ha,Result.andThen_ok,if_true,X3 hn,Sem.run_pure];have:(Array.mk l).extract off (off+n)=⟨(l.drop off).take n⟩:=by
    apply Array.ext';simp
   rw[this]
  ·cases h
 ·rename_i ha;simp[part,aA1 ha,h]
 ·cases h
def bt5(P:Program)(s:TypeId)(l:List u9)(f:Nat):Option u9 :=
 match P.underlying s with
 |some (.struct fs)=>match fs.toList[f]? with
  |some fd=>aW5 P fd.type l fd.offset
  |none=>none
 |_=>none

def C3(x y:d9):Bool:=x.toList==y.toList
def aC4(x y:d9):Bool:=Op.bytesLess x.toList y.toList
def aC0(op:BinOp)(k:IntKind)(x y:Int):Int :=
 match op with
 |.and=>k.wrap (BitVec.ofInt k.bits x &&& BitVec.ofInt k.bits y).toNat
 |.or=>k.wrap (BitVec.ofInt k.bits x ||| BitVec.ofInt k.bits y).toNat
 |.xor=>k.wrap (BitVec.ofInt k.bits x ^^^ BitVec.ofInt k.bits y).toNat
 |_=>k.wrap (BitVec.ofInt k.bits x &&& ~~~BitVec.ofInt k.bits y).toNat

def cu1(op:BinOp)(k:IntKind)(a b:Int)(K:KH):H->Prop :=
 match op with
 |.add=>K (.int k (k.wrap (a+b)))
 |.sub=>K (.int k (k.wrap (a-b)))
 |.mul=>K (.int k (k.wrap (a*b)))
 |.quo=>E3 (b≠0) (K (.int k (k.wrap (a.tdiv b))))
 |.rem=>E3 (b≠0) (K (.int k (a.tmod b)))
 |.and=>K (.int k (aC0 .and k a b))
 |.or=>K (.int k (aC0 .or k a b))
 |.xor=>K (.int k (aC0 .xor k a b))
 |.andNot=>K (.int k (aC0 .andNot k a b))
 |.eql=>K (.bool (a==b))
 |.neq=>K (.bool (a != b))
 |.lss=>K (.bool (decide (a<b)))
 |.leq=>K (.bool (decide (a<=b)))
 |.gtr=>K (.bool (decide (a>b)))
 |.geq=>K (.bool (decide (a>=b)))
 |_=>nW
def shF(op:BinOp)(k:IntKind)(a b:Int)(K:KH):H->Prop :=
 match op with
 |.shl=>E3 (0<=b) (K (.int k (k.wrap (a*2 ^ min b.toNat k.bits))))
 |.shr=>E3 (0<=b) (K (.int k (a.fdiv (2 ^ min b.toNat k.bits))))
 |_=>nW
def cu2(op:BinOp)(x y:d9)(K:KH):H->Prop :=
 match op with
 |.add=>E3 (x.size+y.size<=9223372036854775807) (K (.string (x++y)))
 |.eql=>K (.bool (C3 x y))
 |.neq=>K (.bool (!C3 x y))
 |.lss=>K (.bool (aC4 x y))
 |.leq=>K (.bool (aC4 x y||C3 x y))
 |.gtr=>K (.bool !(aC4 x y||C3 x y))
 |.geq=>K (.bool !(aC4 x y))
 |_=>nW
def eqS:u9->u9->Option Bool
 |.bool a,.bool b=>some (a==b)
 |.int k a,.int k' b=>match bi8 k k' with
  |true=>some (a==b)
  |false=>none
 |.string a,.string b=>some (C3 a b)
 |_,_=>none
def bU9(P:Program)(t:TypeId)(v:u9):Bool :=
 match P.underlying t,v with
 |some .bool,.bool _=>true
 |some (.int _),.int _ _=>true
 |some .string,.string _=>true
 |_,_=>false
def bV0(P:Program)(xs ys:List u9):List Field->Option Bool
 | []=>some true
 |f::fs=>match xs[f.offset]?,ys[f.offset]? with
  | some x, some y => match bU9 P f.type x && !(f.name == "_") with
   |true=>match eqS x y,bV0 P xs ys fs with
    |some a,some b=>some (a&&b)
    |_,_=>none
   |false=>none
  |_,_=>none
def cr1(P:Program)(t:TypeId)(xs ys:List u9):Option Bool :=
 match P.underlying t with
 |some (.struct fs)=>match P.stoodInHeld t,P.eqGuardType P.depth t with
  |false,false=>bV0 P xs ys fs.toList
  |_,_=>none
 |_=>none
def aV5(neg:Bool)(b:Bool):Bool :=
 match neg with
 |true=>!b
 |false=>b
def eqF(P:Program)(neg:Bool)(t:TypeId)(x y:u9)(K:KH)(Y:H):Prop :=
 match P.underlying t,x,y with
 |some .bool,.bool a,.bool b=>K (.bool (aV5 neg (a==b))) Y
 |some (.pointer _),.pointer p,.pointer none=>K (.bool (aV5 neg p.isNone)) Y
 |some (.slice _),.slice p _ _,.slice none _ _=>K (.bool (aV5 neg p.isNone)) Y
 |some (.map _ _),.map p,.map none=>K (.bool (aV5 neg p.isNone)) Y
 |some (.struct _),.agg ⟨xs⟩,.agg ⟨ys⟩=>match cr1 P t xs ys with
  |some b=>K (.bool (aV5 neg b)) Y
  |none=>False
 |_,_,_=>False
def cu3(P:Program)(op:BinOp)(t:TypeId)(x y:u9)(K:KH)(Y:H):Prop :=
 match x,y with
 |.int k a,.int k' b=>match op with
  |.shl=>shF .shl k a b K Y
  |.shr=>shF .shr k a b K Y
  |_=>match bi8 k k' with
   |true=>cu1 op k a b K Y
   |false=>False
 |.string a,.string b=>cu2 op a b K Y
 |_,_=>match op with
  |.eql=>eqF P false t x y K Y
  |.neq=>eqF P true t x y K Y
  |_=>False

theorem ae0{P:Program}{w:World}(op:BinOp)(t:TypeId)(x y:Operand)(a b:u9)(h1:a ≠ .nilIface)(h2:∀c,a ≠ .agg c):(eqGuard op t x y a b).run P w=.ok () w:=by
 cases a<;>first
  |exact m7 rfl h1
  |exact m7 rfl (h2 _)
  |(unfold eqGuard;simp only[Sem.run_ite,Sem.run_pure];split<;>rfl)
  |(unfold eqGuard;cases op<;>rfl)

theorem cu4:IntKind.i64.max=9223372036854775807:=by decide

theorem bt6{P:Program}{op:BinOp}{k:IntKind}{a b:Int}{t:TypeId}{K:KH}{Y:H}(h:cu1 op k a b K Y)(hs:op ≠ .shl)(rz:op ≠ .shr) :
 ∃v,(∀w,(binOp op t (.int k a) (.int k b)).run P w=.ok v w)/\K v Y:=by
 cases op<;>simp only[cu1]at h<;>first
  |exact m7 rfl hs
  |exact m7 rfl rz
  |exact h.elim
  |exact⟨_,fun w=>by simp[binOp,Op.intArith,Op.intBits,Op.intCmp,aC0],h⟩
  |exact⟨_,fun w=>by simp[binOp,Op.intDiv,h.1],h.2⟩
theorem aW6{P:Program}{op:BinOp}{k k':IntKind}{a b:Int}{t:TypeId}{K:KH}{Y:H}(h:shF op k a b K Y) :
 ∃v,(∀w,(binOp op t (.int k a) (.int k' b)).run P w=.ok v w)/\K v Y:=by
 cases op<;>simp only[shF]at h<;>first
  |exact h.elim
  |(refine⟨_,fun w=>?_,h.2⟩;have:=h.1;simp[binOp,Op.shift,show ¬b<0 by omega])
theorem bt7{P:Program}{op:BinOp}{a b:d9}{t:TypeId}{K:KH}{Y:H}(h:cu2 op a b K Y) :
 ∃v,(∀w,(binOp op t (.string a) (.string b)).run P w=.ok v w)/\K v Y:=by
 cases op<;>simp only[cu2]at h<;>first
  |exact h.elim
  |exact⟨_,fun w=>by simp[binOp,Op.stringOp,C3,aC4],h⟩
  | (refine ⟨_, fun w => ?_, h.2⟩
     have h1:=h.1;have:¬ (((a.size+b.size:Nat):Int)>IntKind.i64.max):=by rw[cu4];omega
     simp only[binOp,Op.stringOp,this,if_false,Sem.run_pure])

theorem bt8{P:Program}{d:Nat}{xs ys:List u9}(w:World):∀ (fs:List Field) (b:Bool),bV0 P xs ys fs=some b->(Op.eqFields (d+1) ⟨xs⟩ ⟨ys⟩ fs).run P w=.ok b w:=by
 intro fs
 induction fs with
 |nil=>intro b h;simp[bV0]at h;subst h;simp[Op.eqFields]
 |cons f fs ih =>
  intro b h;simp only[bV0]at h;split at h
  ·rename_i x y hx hy;split at h
   ·rename_i hs;split at h
    ·rename_i a c ha hc;cases h;simp only[J4,Bool.not_eq_true']at hs;obtain⟨hs,hn⟩:=hs;have ia : f.name ≠ "_" := by simpa using hn
     have hag:am3 P f.type=some false:=by
      unfold bU9 at hs;unfold am3;split at hs<;>first|(cases hs;done)|(rename_i hu;simp[hu])
     have px:(part f.type ⟨xs⟩ f.offset).run P w=.ok x w:=aE3 (by simp[aW5,hag,hx]) w;have py:(part f.type ⟨ys⟩ f.offset).run P w=.ok y w:=aE3 (by simp[aW5,hag,hy]) w;have he:(Op.equalIn (d+1) f.type x y).run P w=.ok a w:=by
      unfold bU9 at hs;split at hs
      ·rename_i hu;unfold eqS at ha;split at ha<;>simp_all
       subst ha;simp[Op.equalIn,run_underlying hu]
      ·rename_i hu;unfold eqS at ha;split at ha<;>simp_all
       split at ha<;>simp_all
       rename_i hk;have nv:=aP9 hk;subst ha;simp[Op.equalIn,run_underlying hu,nv]
      ·rename_i hu;unfold eqS at ha;split at ha<;>simp_all
       subst ha;simp[Op.equalIn,run_underlying hu,C3,beq_toListBytes]
      ·cases hs
     simp only[Op.eqFields,ia,ne_eq,not_false_eq_true,if_true,Sem.run_bind,px,py,he,Result.andThen_ok];cases a with
     |false=>simp
     |true=>simp[ih c hc]
    ·cases h
   ·cases h
  ·cases h
section
variable {P:Program} (w:World) (d:Nat) {t:TypeId}
theorem ck0(a b:Bool)(hu:P.underlying t=some .bool):(Op.equalIn (d+1) t (.bool a) (.bool b)).run P w=.ok (a==b) w:=by
 simp[Op.equalIn,run_underlying hu]
theorem cu5{e:TypeId}(p:m9)(hu:P.underlying t=some (.pointer e)):(Op.equalIn (d+1) t (.pointer p) (.pointer none)).run P w=.ok p.isNone w:=by
 cases p<;>simp[Op.equalIn,run_underlying hu]
theorem cu6{e:TypeId}(p:m9)(l c l' c':Nat)(hu:P.underlying t=some (.slice e)):(Op.equalIn (d+1) t (.slice p l c) (.slice none l' c')).run P w=.ok p.isNone w:=by
 cases p<;>simp[Op.equalIn,run_underlying hu]
theorem cu7{k e:TypeId}(p:Option Nat)(hu:P.underlying t=some (.map k e)):(Op.equalIn (d+1) t (.map p) (.map none)).run P w=.ok p.isNone w:=by
 cases p<;>simp[Op.equalIn,run_underlying hu]
end
theorem bc3{P:Program}{neg:Bool}{t:TypeId}{x y:u9}{ox oy:Operand}{w:World}{b:Bool}(h1:x ≠ .nilIface)(h2:∀c,x ≠ .agg c)(h3:∀k n,x ≠ .int k n)(h4:∀s,x ≠ .string s)
 (h5:∀k n,x ≠ .float k n) (h6:∀k n m,x ≠ .complex k n m) (h:(Op.equalIn 10000 t x y).run P w=.ok b w) :
 (do eqGuard (if neg then .neq else .eql) t ox oy x y;binOp (if neg then .neq else .eql) t x y:Sem u9).run P w=.ok (.bool (aV5 neg b)) w:=by
 rw[Sem.run_bind,ae0 _ _ _ _ _ _ h1 h2,Result.andThen_ok];cases neg
 ·have e : binOp .eql t x y = (do pure (.bool (<- Op.equal t x y))) := by
   cases x<;>first|rfl|exact m7 rfl (h3 _ _)|exact m7 rfl (h4 _)|exact m7 rfl (h5 _ _)|exact m7 rfl (h6 _ _ _)
  simp only[D2,if_false,e,Sem.run_bind,Op.equal,Op.maxDepth,h,Result.andThen_ok,Sem.run_pure,aV5]
 ·have e : binOp .neq t x y = (do pure (.bool (!(<- Op.equal t x y)))) := by
   cases x<;>first|rfl|exact m7 rfl (h3 _ _)|exact m7 rfl (h4 _)|exact m7 rfl (h5 _ _)|exact m7 rfl (h6 _ _ _)
  simp only[if_true,e,Sem.run_bind,Op.equal,Op.maxDepth,h,Result.andThen_ok,Sem.run_pure,aV5]
theorem aW7{P:Program}{neg:Bool}{t:TypeId}{x y:u9}{ox oy:Operand}{K:KH}{Y:H}(h:eqF P neg t x y K Y) :
 ∃v,(∀w,(do eqGuard (if neg then .neq else .eql) t ox oy x y;binOp (if neg then .neq else .eql) t x y:Sem u9).run P w=.ok v w)/\K v Y:=by
 unfold eqF at h;split at h
 ·rename_i a b hu;exact⟨_,fun w=>bc3 (by simp) (by simp) (by simp) (by simp) (by simp) (by simp) (ck0 w 9999 _ _ hu),h⟩
 ·rename_i p hu;exact⟨_,fun w=>bc3 (by simp) (by simp) (by simp) (by simp) (by simp) (by simp) (cu5 w 9999 _ hu),h⟩
 ·rename_i p _ _ _ _ hu;exact⟨_,fun w=>bc3 (by simp) (by simp) (by simp) (by simp) (by simp) (by simp) (cu6 w 9999 _ _ _ _ _ hu),h⟩
 ·rename_i p hu;exact⟨_,fun w=>bc3 (by simp) (by simp) (by simp) (by simp) (by simp) (by simp) (cu7 w 9999 _ hu),h⟩
 ·rename_i fs xs ys hu;split at h
  ·rename_i b hb;refine⟨_,fun w=>?_,h⟩;unfold cr1 at hb;simp only[hu]at hb;split at hb
   ·rename_i h1 h2;have hf:P.fieldsOf t=fs:=by simp[Program.fieldsOf,hu]
    have hq:(Op.equalIn 10000 t (.agg ⟨xs⟩) (.agg ⟨ys⟩)).run P w=.ok b w:=by
     rw[run_equalIn_struct w 9999 t ⟨xs⟩ ⟨ys⟩ (by rw[hf];exact hu) h1,hf];exact bt8 (d:=9998) w fs.toList b hb
    cases neg
    ·simp only[D2,if_false,Sem.run_bind,run_eqGuard_agg w .eql t ox oy ⟨xs⟩ ⟨ys⟩ h2,Result.andThen_ok,run_eql_struct,hq,aV5]
    ·simp only[if_true,Sem.run_bind,run_eqGuard_agg w .neq t ox oy ⟨xs⟩ ⟨ys⟩ h2,Result.andThen_ok,run_neq_struct,hq,aV5]
   ·cases hb
  ·exact h.elim
 ·exact h.elim
theorem bt9{P:Program}{op:BinOp}{t:TypeId}{x y:u9}{ox oy:Operand}{K:KH}{Y:H}(h:cu3 P op t x y K Y) :
 ∃v,(∀w,(do eqGuard op t ox oy x y;binOp op t x y:Sem u9).run P w=.ok v w)/\K v Y:=by
 unfold cu3 at h;split at h
 ·rename_i k a k' b;split at h
  ·obtain⟨v,hv,hk⟩:=aW6 (P:=P) (t:=t) (k':=k') h;exact⟨v,fun w=>by simp[ae0,hv w],hk⟩
  ·obtain⟨v,hv,hk⟩:=aW6 (P:=P) (t:=t) (k':=k') h;exact⟨v,fun w=>by simp[ae0,hv w],hk⟩
  ·rename_i h1 h2;split at h
   ·rename_i hk;have:=aP9 hk;subst this;obtain⟨v,hv,hk⟩:=bt6 (P:=P) (t:=t) h (fun e=>h1 e) (fun e=>h2 e);exact⟨v,fun w=>by simp[ae0,hv w],hk⟩
   ·exact h.elim
 ·obtain⟨v,hv,hk⟩:=bt7 (P:=P) (t:=t) h;exact⟨v,fun w=>by simp[ae0,hv w],hk⟩
 ·split at h
  ·exact aW7 (neg:=false) (ox:=ox) (oy:=oy) h
  ·exact aW7 (neg:=true) (ox:=ox) (oy:=oy) h
  ·exact h.elim
end Go.HL

