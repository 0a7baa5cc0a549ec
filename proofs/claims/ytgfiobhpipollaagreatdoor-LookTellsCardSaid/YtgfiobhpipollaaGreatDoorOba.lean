/- A part of a proof. -/
import Derived.Test.YtgfiobhpipollaaGreatDoorOaz
import Derived.Laws.MakeOwn
import Derived.Laws.CopyRow
import Derived.RecoverIn
import Derived.Sort.Walk0
import Derived.Lib.ItoaNum
import Derived.Lib.LaidTab
import Derived.Test.YtgfiobhpipollaaGreatDoorProg
import Derived.KernelRfl
import Derived.Test.YtgfiobhpipollaaGreatDoorChecked
namespace Go.HL
open Go
section
variable {P : Program} {σ : H}
theorem aw9 (v:Value) (n:Nat):madeCells #[v] n=⟨List.replicate n v⟩:=by
 apply Array.ext'
 unfold madeCells
 apply List.ext_getElem
 ·simp
 ·intro i h1 h2
  simp[Nat.mod_one]
theorem cp5 {t e:TypeId} {i:TypeInfo} {z:Value} (ht:P.underlying t=some (.slice e)) (hi:P.info? e=some i) (hz:i.zero=some z) (hs:i.size=1) (hby:i.bytes<=100) (hzc:z.cells = #[z]) {l:Int} {n:Nat} (hl:l=(n:Int)) (hn:n<=100000000000) {F:Sl->H->Prop}
 (hF:∀b σ',Gr σ σ'->σ b=none->σ' b=some (.cells ⟨List.replicate n z⟩ e (0,0))->F ⟨some ⟨b,0,none⟩,n,n⟩ σ'):M7 P (Instr.makeSlice t (.int .i64 l) (.int .i64 l)) (.one (.sc .slc)) F σ:=by
 subst hl
 intro w hw
 have hbytes:(i.bytes:Int) * ((n:Nat):Int)<=281474976710656:=by
  have:i.bytes * n<=100 * 100000000000:=Nat.mul_le_mul hby hn
  have h2:((i.bytes * n:Nat):Int)<=281474976710656:=by omega
  rw[Int.natCast_mul]at h2;exact h2
 have hrun:(ae0 (Instr.makeSlice t (.int .i64 (n:Int)) (.int .i64 (n:Int)))).run P w = .ok (.value (.slice (some ⟨w.heap.size,0,none⟩) n n)) (w.alloc (.cells ⟨List.replicate n z⟩ e)):=by
  simp only[ae0,Sem.run_bind,run_make (P:=P) w t e i z ht hi hz .i64 .i64 (n:Int) (n:Int) (by omega) (by omega) hbytes (by omega),Result.andThen_ok,Sem.run_pure,B0,hs,P4,hzc,aw9]
 rw[hrun]
 obtain⟨h1,h2⟩:=I0.alloc hw (.cells ⟨List.replicate n z⟩ e)
 exact⟨_,h2,Q7 (hF w.heap.size _ (Gr.put h1 _) h1 (H.put_same _ _ _))⟩
theorem aL6 {t u ty e T:TypeId} {cs:List Bool} {g off dl dc:Nat} {cur:List Value} {src:Value} {new:List Value} {m:Nat} (hu:P.underlying t=some (.slice e)) (hi:(P.info? e).map (·.size)=some 1) (hg:σ g=some (.cells ⟨cur⟩ T (0,0)))
 (hfit:off+new.length<=cur.length) (hone:∀v∈new,v.oneCell'=true) (hm:min m dl=new.length) (hlen:∀w:World,(Builtin.lenOf src).run P w = .ok m w) (hsrc:∀w:World,σ.le w->(Builtin.firstCells 1 new.length src).run P w = .ok new.toArray w) {F:Int->H->Prop}
 (hF:∀σ',L6 σ g (.cells ⟨cur.take off++new++cur.drop (off+new.length)⟩ T (0,0)) σ'->F (new.length:Int) σ') :
 R1 P .copy #[t,u] ty cs [.slice (some ⟨g,off,none⟩) dl dc,src] (.one (.sc (.int .i64))) F σ:=by
 intro w hw
 have hst:=ab0 (P:=P) (b:=g) (t:=T) (fz:=(0,0)) (o:=off) new 0 cur w (hw g _ hg) (by simpa using hfit) hone (.inl (A6 _))
 simp only[Nat.add_zero]at hst
 have hs1:(sizeOf e).run P w = .ok 1 w:=by
  cases hie:P.info? e with
  | none=>rw[hie]at hi;cases hi
  | some i=>rw[hie]at hi;simp at hi;simp[sizeOf,typeInfo,hie,hi]
 have hrun:(builtin .copy #[t,u] ty ⟨cs⟩ ⟨[.slice (some ⟨g,off,none⟩) dl dc,src]⟩).run P w = .ok (.value (.int .i64 (new.length:Int))) { w with heap:=w.heap.setIfInBounds g (.cells ⟨cur.take off++new++cur.drop (off+new.length)⟩ T (0,0)) }:=by
  have h1:Nat.min m dl=new.length:=hm
  simp[builtin,Builtin.copy_,run_underlying hu,hlen w,h1,hs1,hsrc w hw,hst,goInt]
 rw[hrun]
 exact⟨_,I0.set hw hg rfl rfl rfl rfl,B6 (hF _ rfl)⟩
theorem bn6 {t u ty e T:TypeId} {cs:List Bool} {g off dl dc:Nat} {cur:List Value} (hu:P.underlying t=some (.slice e)) (hi:(P.info? e).map (·.size)=some 1) (hg:σ g=some (.cells ⟨cur⟩ T (0,0))) (s:ByteArray) (hd:s.size<=dl) (hfit:off+s.size<=cur.length) {F:Int->H->Prop}
 (hF:∀σ',L6 σ g (.cells ⟨cur.take off++(B1 s.data.toList).flatten++cur.drop (off+s.size)⟩ T (0,0)) σ'->F (s.size:Int) σ') :
 R1 P .copy #[t,u] ty cs [.slice (some ⟨g,off,none⟩) dl dc,.string s] (.one (.sc (.int .i64))) F σ:=by
 have hl:(B1 s.data.toList).flatten.length=s.size:=by rw[Z0,Y4];cases s with | mk d=>simp[ByteArray.size]
 refine aL6 (new:=(B1 s.data.toList).flatten) (m:=s.size) hu hi hg (by rw[hl];exact hfit) ?_ (by rw[hl];exact Nat.min_eq_left hd) (fun w=>by simp[Builtin.lenOf]) (fun w _ => ?_) (by rw[hl];exact hF)
 ·intro v hv
  rw[Z0,O5]at hv
  obtain⟨c,_,rfl⟩:=hv;rfl
 ·rw[hl,Lib.run_firstCells_string,ar4]
theorem bB7 {t u ty e T T2:TypeId} {cs:List Bool} {g off dl dc g2 o2 sc:Nat} {cur cur2:List Value} {fz:Nat×Nat} (hu:P.underlying t=some (.slice e)) (hi:(P.info? e).map (·.size)=some 1) (hg:σ g=some (.cells ⟨cur⟩ T (0,0))) (hg2:σ g2=some (.cells ⟨cur2⟩ T2 fz)) {n:Nat} (hn:n<=dl) (hs:o2+n<=cur2.length) (hfit:off+n<=cur.length) (hone:∀v∈cur2,v.oneCell'=true) {F:Int->H->Prop}
 (hF:∀σ',L6 σ g (.cells ⟨cur.take off++(cur2.drop o2).take n++cur.drop (off+n)⟩ T (0,0)) σ'->F (n:Int) σ') :
 R1 P .copy #[t,u] ty cs [.slice (some ⟨g,off,none⟩) dl dc,.slice (some ⟨g2,o2,none⟩) n sc] (.one (.sc (.int .i64))) F σ:=by
 have hl:((cur2.drop o2).take n).length=n:=by simp;omega
 refine aL6 (new:=(cur2.drop o2).take n) (m:=n) hu hi hg (by rw[hl];exact hfit) ?_ (by rw[hl];exact Nat.min_eq_left hn) (fun w=>by simp[Builtin.lenOf]) (fun w hw => ?_) (by rw[hl];exact hF)
 ·intro v hv;exact hone v (List.mem_of_mem_drop (List.mem_of_mem_take hv))
 ·rw[hl]
  refine run_firstCells_some (P:=P) w 1 n ⟨g2,o2,none⟩ n sc _ (by rw[hl,P4]) ?_
  intro j v hj
  rw[Y6 (hw g2 _ hg2)]
  rw[List.getElem?_take]at hj
  split at hj
  ·rw[List.getElem?_drop]at hj;exact hj
  ·cases hj
end
end Go.HL

namespace Go.Wk
open Go Go.HL
def ai2:Nat->Nat->List UInt8->List UInt8
 | 0,_,acc=>acc
 | f+1,n,acc=>if n=0 then acc else ai2 f (n / 128) (UInt8.ofNat (n % 128+128)::acc)
def S5 (n:Nat):List UInt8:=ai2 9 (n / 128) [UInt8.ofNat (n % 128)]
def X0 (t:List UInt8):List UInt8:=S5 t.length++t
def ah6 (h i:Nat) (c:UInt8):Bool:=(i==0&&c.toNat==128)||((i==9&&decide (h>129))||i==10)
def ap8 (h:Nat):Nat->List UInt8->Nat
 | _,[]=>0
 | i,c::r=>if ah6 h i c then 0 else if c.toNat<128 then i+1 else ap8 h (i+1) r
def ak8 (l:List UInt8):Nat:=ap8 (l.headD 0).toNat 0 l
def aG1 (n:Int) (c:UInt8):Int:=IntKind.u64.wrap ((IntKind.u64.wrap (n * 128))+(IntKind.u64.wrap (Int.tmod ((c.toNat:Nat):Int) 128)))
def ak9 (l:List UInt8):Int:=l.foldl aG1 0
structure I7 where (left:List UInt8) (lost:Bool)
def I7.take (r:I7) (k:Nat):List UInt8×I7:=if k=0\/k>r.left.length then([],⟨[],true⟩)else(r.left.take k,⟨r.left.drop k,r.lost⟩)
def I7.num (r:I7):Int×I7:=(ak9 (r.take (ak8 r.left)).1,(r.take (ak8 r.left)).2)
def I7.text (r:I7):List UInt8×I7:=if r.num.1==0 then([],r.num.2)else r.num.2.take (min r.num.1.toNat (r.num.2.left.length+1))
theorem bM7 (h:Nat) : ∀ (l:List UInt8) (i:Nat),ap8 h i l<=i+l.length:=by
 intro l
 induction l with
 | nil=>intro i;simp[ap8]
 | cons c r ih =>
  intro i
  unfold ap8
  split
  ·omega
  ·split
   ·simp
   ·have:=ih (i+1);simp at this ⊢;omega
theorem cb3 (l:List UInt8):ak8 l<=l.length:=by have:=bM7 (l.headD 0).toNat l 0;unfold ak8;omega
theorem cb4 (x:Int):0<=IntKind.u64.wrap x/\IntKind.u64.wrap x<18446744073709551616:=by
 unfold IntKind.wrap
 simp only[IntKind.signed,H4,F4,if_false]
 exact⟨Int.emod_nonneg _ (by decide),Int.emod_lt_of_pos _ (by decide)⟩
theorem af3 {x:Int} (h0:0<=x) (h1:x<18446744073709551616):IntKind.u64.wrap x=x:=by
 unfold IntKind.wrap
 simp only[IntKind.signed,H4,F4,if_false]
 exact Int.emod_eq_of_lt h0 h1
theorem aT7 {x:Int} (h0:0<=x) (h1:x<256):IntKind.u8.wrap x=x:=by
 unfold IntKind.wrap
 simp only[IntKind.signed,H4,F4,if_false]
 exact Int.emod_eq_of_lt h0 h1
theorem ae4 (l:List UInt8):0<=ak9 l/\ak9 l<18446744073709551616:=by
 unfold ak9
 have : ∀ (l:List UInt8) (n:Int),(0<=n/\n<18446744073709551616)->0<=l.foldl aG1 n/\l.foldl aG1 n<18446744073709551616:=by
  intro l
  induction l with
  | nil=>intro n h;exact h
  | cons c r ih=>intro n _;exact ih _ (cb4 _)
 exact this l 0 ⟨by decide,by decide⟩
theorem bM8 : ∀ (f n:Nat) (acc:List UInt8),(ai2 f n acc).length<=f+acc.length:=by
 intro f
 induction f with
 | zero=>intro n acc;simp[ai2]
 | succ f ih =>
  intro n acc
  unfold ai2
  split
  ·omega
  ·have:=ih (n / 128) (UInt8.ofNat (n % 128+128)::acc);rw[y5]at this;omega
theorem U8 (n:Nat):(S5 n).length<=10:=by have:=bM8 9 (n / 128) [UInt8.ofNat (n % 128)];unfold S5;simpa using this
end Go.Wk

namespace Go.Wk
open Go Go.HL
mutual
def ab4:Tr->List UInt8
 | .mk _ k e d kids=>S5 k.toNat++(if k=1 then S5 (if e then 1 else 0)++X0 d.data.toList else if k=3 then X0 d.data.toList else S5 kids.length++Q5 kids)
def Q5:List Tr->List UInt8
 | []=>[]
 | t::r=>(X0 t.name.data.toList++ab4 t)++Q5 r
end
theorem az8 (t:Tr):ab4 t=S5 t.kind.toNat++(if t.kind=1 then S5 (if t.exec then 1 else 0)++X0 t.data.data.toList else if t.kind=3 then X0 t.data.data.toList else S5 t.kids.length++Q5 t.kids):=by
 obtain⟨n,k,e,d,kids⟩:=t
 rw[ab4];rfl
def J8:List UInt8:=[119,104,105,115,107,45,116,114,101,101]
def D1 (t:Tr):List UInt8×Int:=if t.check≠0 then([],t.check)else if(X0 J8++ab4 t).length>60000 then([],3)else(X0 J8++ab4 t,0)
theorem ab5 (l:List UInt8):(X0 l).length<=10+l.length:=by unfold X0;rw[s8];have:=U8 l.length;omega
theorem dl (s:ByteArray):s.data.toList.length=s.size:=by cases s with | mk d=>simp[ByteArray.size]
theorem bn7 : ∀ (l:List Tr),(∀x∈l,(ab4 x).length+10+x.name.size<=50 * x.total)->(Q5 l).length<=50 * Tr.totalRow l:=by
 intro l
 induction l with
 | nil=>intro _;simp[Q5]
 | cons x r ih =>
  intro h
  have h1:=h x (E2 ..)
  have h2:=ih fun y hy=>h y (E3 _ hy)
  have h3:=ab5 x.name.data.toList
  rw[dl]at h3
  simp only[Q5,s8,Tr.totalRow]
  omega
theorem az9 : ∀t:Tr,(ab4 t).length+10+t.name.size<=50 * t.total:=by
 refine Tr.ind ?_
 intro t ih
 have h1:=U8 t.kind.toNat
 have h2:=ab5 t.data.data.toList
 rw[dl]at h2
 have h3:=U8 (if t.exec then 1 else 0)
 have h4:=U8 t.kids.length
 have h5:=bn7 t.kids ih
 have h6:t.total=1+t.name.size+t.data.size+Tr.totalRow t.kids:=by obtain⟨n,k,e,d,kids⟩:=t;rfl
 rw[az8]
 split
 ·simp only[s8];omega
 ·split
  ·simp only[s8];omega
  ·simp only[s8];omega
theorem aL7 : ∀ (l:List Tr) (p:Option ByteArray),Tr.mayRow p l=true -> ∀x∈l,x.may=true:=by
 intro l
 induction l with
 | nil=>intro p _ x hx;cases hx
 | cons y r ih =>
  intro p h x hx
  rw[Tr.mayRow]at h
  simp only[A8]at h
  rcases A5.1 hx with rfl | hx
  ·exact h.2.1
  ·exact ih _ h.2.2.2 x hx
theorem al0 {t:Tr} (h:t.may=true):t.kind=1\/t.kind=3\/t.kind=2:=by
 obtain⟨n,k,e,d,kids⟩:=t
 rw[Tr.may]at h
 show k=1\/k=3\/k=2
 split at h
 ·exact .inl ‹_›
 ·split at h
  ·exact .inr (.inl ‹_›)
  ·split at h
   ·exact .inr (.inr ‹_›)
   ·cases h
theorem bv3 {t x:Tr} (h:t.may=true) (hx:x∈t.kids):x.may=true:=by
 obtain⟨n,k,e,d,kids⟩:=t
 rw[Tr.may]at h
 have hx:x∈kids:=hx
 split at h
 ·rw[List.isEmpty_iff]at h;rw[h]at hx;cases hx
 ·split at h
  ·simp only[A8]at h
   have:=h.1;rw[List.isEmpty_iff]at this;rw[this]at hx;cases hx
  ·split at h
   ·simp only[A8]at h
    exact aL7 _ _ h.2.2 x hx
   ·cases h
end Go.Wk

namespace Go.HL
open Go
def af4 (v:Value):List PanicEntry:=[{ v,recovered:=false }]
def ac5 (P:Program) (f:FuncId) (args:List Value) (K X:Value->H->Prop) (σ:H):Prop :=
 ∀w,σ.le w->CallsIn Fence.wide 0 P f args.toArray w fun e w'=>(∃v,e = .returned v /\ ∃σ',I0 σ w σ' w'/\K v σ')\/(∃v,e = .panicked (af4 v) /\ ∃σ',I0 σ w σ' w'/\X v σ')
theorem ac5.ret {P:Program} {f:FuncId} {args:List Value} {K X:Value->H->Prop} {σ:H} (h:ac5 P f args K (fun _ _=>False) σ):A4 P f args K σ:=by
 intro w hw
 refine(h w hw).mono fun e w' h => ?_
 rcases h with h | ⟨v,he,σ',hx',hk'⟩
 ·exact h
 ·exact hk'.elim
def aG2 (g:Nat):List Nat->Bool
 | []=>false
 | x::r=>match Nat.beq x g with
  | true=>true
  | false=>aG2 g r
def aL8 (P:Program) (pan:List Nat) (fv:Value) (vs:List Value) (G X:Value->H->Prop) (σ:H):Prop :=
 match fv with
 | .func (.func g) ⟨as0⟩ ⟨cs⟩=>match aG2 g pan with
  | true=>match I3 P g with
   | true=>ac5 P g (as0++vs++cs) G X σ
   | false=>False
  | false=>u7 P (.func (.func g) ⟨as0⟩ ⟨cs⟩) vs G σ
 | _=>False
def bB8 (X:Value->H->Prop) (v:Value) (σ:H):Prop :=
 match v with
 | .iface _ _=>X v σ
 | _=>False
def efX (P:Program) (pan:List Nat) (e:M5) (G:Value->H->Prop) (X:M5->Value->H->Prop) (o:Oper) (σ:H):Prop :=
 match o.op with
 | .call { callee := .value f,args:=⟨xs⟩,argTypes:=_ }=>match evO e f,evL e xs with
  | some fv,some vs=>aL8 P pan fv vs G (X e) σ
  | _,_=>False
 | .panic x=>match evO e x with
  | some v=>bB8 (X e) v σ
  | none=>False
 | _=>efF P e G o σ
def W6 (P:Program) (R RX:Value->World->Prop):Result Next->Prop
 | .ok (.value v) w=>R v w
 | .ok .skip w=>R undef w
 | .ok (.enter f args) w=>CallsIn Fence.wide 0 P f args w fun e w'=>(∃v,e = .returned v/\R v w')\/(∃v,e = .panicked (af4 v)/\RX v w')
 | .ok (.round l f tmps assign body) w=>RoundIn Fence.wide 0 P l f tmps assign body w fun e w' => ∃v,e = .returned v/\R v w'
 | .halt (.panic v) w=>RX v w
 | _=>False
theorem W6.of {P:Program} {R RX:Value->World->Prop} {x:Result Next} (h:reach P R x):W6 P R RX x:=by
 unfold reach at h
 unfold W6
 split at h
 ·exact h
 ·exact h
 ·exact h.mono fun e w' h => .inl h
 ·exact h
 ·exact h.elim
theorem cB0 {P:Program} {o:Oper} {a:Act} {next:Act->World->Prop} {Q:Exit->Act->World->Prop} {x:Result Next}
 (h:W6 P (fun v w=>next (a.put o.dst v) w) (fun v w=>Q (.panic (af4 v)) a w) x):o.uponIn Fence.wide 0 P a next Q x:=by
 unfold W6 at h
 split at h
 ·exact h
 ·exact h
 ·refine⟨(fun h=>by cases h),?_⟩
  refine CallsIn.mono h fun e w' hh => ?_
  rcases hh with⟨v,he,hv⟩ | ⟨v,he,hv⟩
  ·subst he;exact hv
  ·subst he;exact hv
 ·refine⟨(fun h=>by cases h),?_⟩
  refine RoundIn.mono h fun e w' ⟨v,he,hv⟩ => ?_
  subst he;exact hv
 ·exact h
 ·exact h.elim

section
variable {P : Program} {τ : TypeId -> TK} {N : Nat} {pan : List Nat} {X : M5 -> Value -> H -> Prop}
theorem aT8 {e:M5} {a:Act} (fr:FR N e a) {o:Oper} {G:Value->H->Prop} {σ:H} (h:efX P pan e G X o σ) {w:World} (hw:σ.le w) :
 W6 P (fun v w' => ∃σ',I0 σ w σ' w'/\G v σ') (fun v w' => ∃σ',I0 σ w σ' w'/\X e v σ') ((execOp a.eval o).run P w):=by
 unfold efX at h
 split at h
 ·rename_i f xs ats hop
  split at h
  ·rename_i fv vs hf hv
   have hex:execOp a.eval o=Y0 fv vs:=by
    obtain⟨dst,op,type,pos,after,guard⟩:=o
    simp only at hop;subst hop
    simp only[execOp,resolve,Y0,aK6,fr.evO hf,fr.evL hv]
   rw[hex]
   unfold aL8 at h
   split at h
   ·rename_i g as0 cs
    split at h
    ·split at h
     ·rename_i hg
      have hr:(Y0 (.func (.func g) ⟨as0⟩ ⟨cs⟩) vs).run P w = .ok (.enter g (as0++vs++cs).toArray) w:=by
       simp only[Y0,Deferred.ofValue,Sem.run_bind,Sem.run_pure,Result.andThen_ok,invoke]
       rw[ai4 hg]
       simp
      rw[hr]
      exact(h w hw).mono fun e w' h=>h.imp (fun⟨v,he,r⟩=>⟨v,he,r⟩) (fun⟨v,he,r⟩=>⟨v,he,r⟩)
     ·exact h.elim
    ·exact W6.of (aK5 h w hw)
   ·exact h.elim
  ·exact h.elim
 ·rename_i x hop
  split at h
  ·rename_i v hv
   unfold bB8 at h
   split at h
   ·rename_i t u
    have hex:(execOp a.eval o).run P w = .halt (.panic (.iface t u)) w:=by
     obtain⟨dst,op,type,pos,after,guard⟩:=o
     simp only at hop;subst hop
     simp[execOp,fr.evO hv,Instr.panic,goPanic]
     try rfl
    rw[hex]
    exact⟨σ,I0.refl hw,h⟩
   ·exact h.elim
  ·exact h.elim
 ·exact W6.of (aT1 fr h w hw)
end
end Go.HL

namespace Go.HL
open Go
theorem W6.mono {P:Program} {x:Result Next} {R R' RX RX':Value->World->Prop} (h1:∀v w,R v w->R' v w) (h2:∀v w,RX v w->RX' v w) (h:W6 P R RX x):W6 P R' RX' x:=by
 unfold W6 at h ⊢
 split at h
 ·exact h1 _ _ h
 ·exact h1 _ _ h
 ·exact CallsIn.mono h fun e w h=>h.imp (fun⟨v,q,r⟩=>⟨v,q,h1 _ _ r⟩) (fun⟨v,q,r⟩=>⟨v,q,h2 _ _ r⟩)
 ·exact RoundIn.mono h fun e w ⟨v,q,r⟩=>⟨v,q,h1 _ _ r⟩
 ·exact h2 _ _ h
 ·exact h.elim
def ap9 (P:Program) (s:Sem Next) (K X:Value->H->Prop) (σ:H):Prop :=
 ∀w,σ.le w->W6 P (fun v w' => ∃σ',I0 σ w σ' w'/\K v σ') (fun v w' => ∃σ',I0 σ w σ' w'/\X v σ') (s.run P w)
theorem ap9.mono {P:Program} {s:Sem Next} {K K' X:Value->H->Prop} {σ:H} (h:ap9 P s K X σ) (hk:∀v σ',K v σ'->K' v σ'):ap9 P s K' X σ :=
 fun w hw=>(h w hw).mono (fun _ _ ⟨σ',he,hv⟩=>⟨σ',he,hk _ _ hv⟩) fun _ _ h=>h
theorem ap9.fin {P:Program} {s:Sem Next} {K X:Value->H->Prop} {σ:H} (h:ap9 P s K X σ):ap9 P s (fun v σ'=>Fin σ'/\K v σ') X σ :=
 fun w hw=>(h w hw).mono (fun _ _ ⟨σ',he,hk⟩=>⟨σ',he,Fin.of_le he.le,hk⟩) fun _ _ h=>h
theorem ap9.frame {P:Program} {s:Sem Next} {K X:Value->H->Prop} {σ:H} (h:ap9 P s K X σ) {b:Nat} {o:Obj} (hb:σ b=none) :
 ap9 P s (fun v σ' => ∃σ₁,σ₁ b=none/\σ'=σ₁.put b o/\K v σ₁) X (σ.put b o):=by
 intro w hw
 refine(h w (H.le_of_put hb hw)).mono (fun v w' ⟨σ',he,hk⟩ => ?_) (fun v w' ⟨σ',he,hk⟩ => ?_)
 ·obtain⟨hn,he'⟩:=I0.frame hb hw he
  exact⟨σ'.put b o,he',σ',hn,rfl,hk⟩
 ·obtain⟨hn,he'⟩:=I0.frame hb hw he
  have hne : ∀c q,σ' c=some q->c≠b:=fun c q hc e=>by subst e;rw[hn]at hc;cases hc
  refine⟨σ',⟨fun c q hc=>he'.le c q (by rw[H.put_other _ _ (hne c q hc)];exact hc),he'.size,he'.keep,fun c q hc hcn=>he'.own c q (by rw[H.put_other _ _ (hne c q hc)];exact hc) hcn,he'.os,he'.tape,he'.output⟩,hk⟩
section
variable (P:Program) (ops:Array Oper) (cl:Nat -> Nat) (A:Nat -> Nat -> Bool) (X:Value -> H -> Prop)
def S8:List (Nat×Sem Next×Value)->List Nat->Act->(Pq->Act->H->Prop)->H->Prop
 | p,[],a,K,σ=>K p a σ
 | pend,i::l,a,K,σ => ∃o,ops[i]? = some o/\V3 o.op=true /\
  if Region.wanted o (yielded ops a.tmps) then
   match cl i with
   | 0 => ∃v,Sil P (execOp a.eval o) v/\S8 pend l (a.put o.dst v) K σ
   | 1 => ∃v,RdS P (execOp a.eval o) σ v/\S8 ((i,execOp a.eval o,v)::pend) l (a.put o.dst v) K σ
   | 2 => ∃mk obj,bJ4 P (execOp a.eval o) mk obj /\ ∀b,σ b=none->S8 pend l (a.put o.dst (mk b)) K (σ.put b obj)
   | _=>ap9 P (execOp a.eval o) (fun v σ'=>(∀q∈pend,A q.1 i=true\/RdS P q.2.1 σ' q.2.2)/\S8 pend l (a.put o.dst v) K σ') X σ
  else S8 pend l (a.put o.dst undef) K σ
end
section
variable {P : Program} {ops : Array Oper} {cl : Nat -> Nat} {A : Nat -> Nat -> Bool} {X : Value -> H -> Prop}
theorem S8.pend {l:List Nat} : ∀ {p p':List (Nat×Sem Next×Value)} {a:Act} {K:Pq->Act->H->Prop} {σ:H},ai3 K->(∀q∈p',q∈p)->S8 P ops cl A X p l a K σ->S8 P ops cl A X p' l a K σ:=by
 induction l with
 | nil=>intro p p' a K σ hm hs h;exact hm _ _ _ _ hs h
 | cons i l ih =>
  intro p p' a K σ hm hs h
  obtain⟨o,ho,hp,h⟩:=h
  refine⟨o,ho,hp,?_⟩
  split at h
  ·rename_i hw
   rw[d9 hw]
   split at h
   ·obtain⟨v,hv,h⟩:=h;exact⟨v,hv,ih hm hs h⟩
   ·obtain⟨v,hv,h⟩:=h
    refine⟨v,hv,ih hm (fun q hq => ?_) h⟩
    cases hq with
    | head=>exact E2 ..
    | tail _ hq=>exact E3 _ (hs q hq)
   ·obtain⟨mk,obj,hv,h⟩:=h;exact⟨mk,obj,hv,fun b hb=>ih hm hs (h b hb)⟩
   ·exact h.mono fun v σ' ⟨h1,h2⟩=>⟨fun q hq=>h1 q (hs q hq),ih hm hs h2⟩
  ·rename_i hw
   rw[c0 hw]
   exact ih hm hs h

theorem S8.head {l l':List Nat} {K K':Pq->Act->H->Prop} (hll:∀p a σ,Fin σ->S8 P ops cl A X p l a K σ->S8 P ops cl A X p l' a K' σ) {i:Nat} {p:List (Nat×Sem Next×Value)} {a:Act} {σ:H}
 (hf:Fin σ) (h:S8 P ops cl A X p (i::l) a K σ):S8 P ops cl A X p (i::l') a K' σ:=by
 obtain⟨o,ho,hp,h⟩:=h
 refine⟨o,ho,hp,?_⟩
 split at h
 ·rename_i hw
  rw[d9 hw]
  split at h
  ·obtain⟨v,hv,h⟩:=h;exact⟨v,hv,hll _ _ _ hf h⟩
  ·obtain⟨v,hv,h⟩:=h;exact⟨v,hv,hll _ _ _ hf h⟩
  ·obtain⟨mk,obj,hv,h⟩:=h;exact⟨mk,obj,hv,fun b hb=>hll _ _ _ (hf.put _ _) (h b hb)⟩
  ·exact h.fin.mono fun v σ' ⟨hf',h1,h2⟩=>⟨h1,hll _ _ _ hf' h2⟩
 ·rename_i hw
  rw[c0 hw]
  exact hll _ _ _ hf h

def bv4 (cy cx:Nat):Bool :=
 match cy,cx with
 | 0,_=>true
 | 1,_=>true
 | 2,0=>true
 | 2,2=>true
 | 2,_=>false
 | _,2=>true
 | _,_=>false
def bB9 (P:Program) (ops:Array Oper) (cl:Nat->Nat):Prop := ∀ (i:Nat) (o:Oper),ops[i]? = some o->cl i=2 -> ∀ev,∃mk obj,bJ4 P (execOp ev o) mk obj
theorem S8.swap {y x:Nat} {oy ox:Oper} (hy:ops[y]? = some oy) (hx:ops[x]? = some ox) (hap:oy.apart ops ox=true) (hA:A y x=false) (hfit:bv4 (cl y) (cl x)=true)
 {p:List (Nat×Sem Next×Value)} {l:List Nat} {a:Act} {K:Pq->Act->H->Prop} {σ:H} (hK:ai3 K) (hf:Fin σ) (hst:bB9 P ops cl) (hpx:V3 ox.op=true)
 (h:S8 P ops cl A X p (y::x::l) a K σ):S8 P ops cl A X p (x::y::l) a K σ:=by
 obtain⟨h1,h2,h3⟩:=Oper.apart_spec hap
 have hcomm : ∀ (a:Act) (u v:Value),(a.put oy.dst u).put ox.dst v=(a.put ox.dst v).put oy.dst u:=fun a u v=>Act.put_comm a u v h2
 obtain⟨oy',hoy,hpy,h⟩:=h
 rw[hy]at hoy;cases hoy
 have ex : ∀u,execOp (a.put oy.dst u).eval ox=execOp a.eval ox:=fun u=>execOp_put ox (ag1 hpx) a oy.dst u h1
 have ey : ∀u,execOp (a.put ox.dst u).eval oy=execOp a.eval oy:=fun u=>execOp_put oy (ag1 hpy) a ox.dst u h3
 have wx : ∀u,Region.wanted ox (yielded ops (a.put oy.dst u).tmps)=Region.wanted ox (yielded ops a.tmps):=fun u=>wanted_put ox a oy.dst u h1
 have wy : ∀u,Region.wanted oy (yielded ops (a.put ox.dst u).tmps)=Region.wanted oy (yielded ops a.tmps):=fun u=>wanted_put oy a ox.dst u h3
 refine⟨ox,hx,hpx,?_⟩
 by_cases hwy:Region.wanted oy (yielded ops a.tmps)=true
 ·rw[d9 hwy]at h
  by_cases hwx:Region.wanted ox (yielded ops a.tmps)=true
  ·rw[d9 hwx]
   split at h
   ·-- y silent
    obtain⟨v,hv,ox',hox,_,h⟩:=h;rw[hx]at hox;cases hox
    rw[wx,d9 hwx,ex]at h
    split at h
    ·obtain⟨u,hu,h⟩:=h
     refine⟨u,hu,oy,hy,hpy,?_⟩
     rw[wy,d9 hwy,ey,‹cl y=0›]
     exact⟨v,hv,by rw[<-hcomm];exact h⟩
    ·obtain⟨u,hu,h⟩:=h
     refine⟨u,hu,oy,hy,hpy,?_⟩
     rw[wy,d9 hwy,ey,‹cl y=0›]
     exact⟨v,hv,by rw[<-hcomm];exact h⟩
    ·obtain⟨mk,obj,hu,h⟩:=h
     refine⟨mk,obj,hu,fun b hb=>⟨oy,hy,hpy,?_⟩⟩
     rw[wy,d9 hwy,ey,‹cl y=0›]
     exact⟨v,hv,by rw[<-hcomm];exact h b hb⟩
    ·refine h.mono fun u σ' ⟨hc,h⟩=>⟨hc,oy,hy,hpy,?_⟩
     rw[wy,d9 hwy,ey,‹cl y=0›]
     exact⟨v,hv,by rw[<-hcomm];exact h⟩
   ·-- y bZ1
    obtain⟨v,hv,ox',hox,_,h⟩:=h;rw[hx]at hox;cases hox
    rw[wx,d9 hwx,ex]at h
    split at h
    ·obtain⟨u,hu,h⟩:=h
     refine⟨u,hu,oy,hy,hpy,?_⟩
     rw[wy,d9 hwy,ey,‹cl y=1›]
     exact⟨v,hv,by rw[<-hcomm];exact h⟩
    ·obtain⟨u,hu,h⟩:=h
     refine⟨u,hu,oy,hy,hpy,?_⟩
     rw[wy,d9 hwy,ey,‹cl y=1›]
     refine⟨v,hv,?_⟩
     rw[<-hcomm]
     exact h.pend hK fun q hq=>by
      simp only[A5]at hq ⊢
      rcases hq with rfl | rfl | hq
      ·exact .inr (.inl rfl)
      ·exact .inl rfl
      ·exact .inr (.inr hq)
    ·obtain⟨mk,obj,hu,h⟩:=h
     refine⟨mk,obj,hu,fun b hb=>⟨oy,hy,hpy,?_⟩⟩
     rw[wy,d9 hwy,ey,‹cl y=1›]
     exact⟨v,hv.put hb,by rw[<-hcomm];exact h b hb⟩
    ·refine h.mono fun u σ' ⟨hc,h⟩=>⟨fun q hq=>hc q (E3 _ hq),oy,hy,hpy,?_⟩
     rw[wy,d9 hwy,ey,‹cl y=1›]
     have:=hc _ (E2 ..)
     simp only[hA]at this
     exact⟨v,this.resolve_left (by simp),by rw[<-hcomm];exact h⟩
   ·-- y makes a block
    obtain⟨mk,obj,hv,h⟩:=h
    have hcx:cl x=0\/cl x=2:=by
     rw[‹cl y=2›]at hfit
     unfold bv4 at hfit
     split at hfit<;>simp_all
    rcases hcx with hcx | hcx
    ·obtain⟨b0,hb0⟩:=hf.fresh
     obtain⟨ox',hox,_,h0⟩:=h b0 hb0;rw[hx]at hox;cases hox
     rw[wx,d9 hwx,ex,hcx]at h0
     obtain⟨u,hu,_⟩:=h0
     rw[hcx]
     refine⟨u,hu,oy,hy,hpy,?_⟩
     rw[wy,d9 hwy,ey,‹cl y=2›]
     refine⟨mk,obj,hv,fun b hb => ?_⟩
     obtain⟨ox',hox,_,h1'⟩:=h b hb;rw[hx]at hox;cases hox
     rw[wx,d9 hwx,ex,hcx]at h1'
     obtain⟨u',hu',h1'⟩:=h1'
     have:u'=u:=by
      have e1:=hu default;have e2:=hu' default
      rw[e1]at e2;cases e2;rfl
     subst this
     rw[<-hcomm];exact h1'
    ·obtain⟨b0,hb0⟩:=hf.fresh
     obtain⟨ox',hox,_,h0⟩:=h b0 hb0;rw[hx]at hox;cases hox
     rw[wx,d9 hwx,ex,hcx]at h0
     obtain⟨mx,objx,hu,_⟩:=h0
     rw[hcx]
     refine⟨mx,objx,hu,fun b hb=>⟨oy,hy,hpy,?_⟩⟩
     rw[wy,d9 hwy,ey,‹cl y=2›]
     refine⟨mk,obj,hv,fun c hc => ?_⟩
     have hne:c≠b:=by intro e;subst e;rw[H.put_same]at hc;cases hc
     rw[H.put_other _ _ hne]at hc
     obtain⟨ox',hox,_,h1'⟩:=h c hc;rw[hx]at hox;cases hox
     rw[wx,d9 hwx,ex,hcx]at h1'
     obtain⟨mx',objx',hu',h1'⟩:=h1'
     have hb':σ.put c obj b=none:=by rw[H.put_other _ _ (Ne.symm hne)];exact hb
     have h2':=h1' b hb'
     have hobj:objx'=objx/\mx' b=mx b:=by
      have e1:=hu { (default:World)with heap:=Array.replicate b default }
      have e2:=hu' { (default:World)with heap:=Array.replicate b default }
      rw[e1]at e2
      simp only[Result.ok.injEq,Next.value.injEq]at e2
      obtain⟨e3,e4⟩:=e2
      simp only[Array.size_replicate]at e3
      refine⟨?_,e3.symm⟩
      have e5:=D9 World.heap e4
      have e6:(Array.replicate b (default:Obj)).push objx=(Array.replicate b (default:Obj)).push objx':=e5
      have e7:=D9 Array.back? e6
      simpa using e7.symm
     obtain⟨e3,e4⟩:=hobj
     subst e3
     rw[e4]at h2'
     rw[<-hcomm]
     have:(σ.put c obj).put b objx'=(σ.put b objx').put c obj:=by
      funext k
      simp only[H.put]
      by_cases k1:k=b
      ·subst k1;simp[Ne.symm hne]
      ·simp[k1]
     rw[<-this];exact h2'
   ·-- y does something
    have hcx:cl x=2:=by
     unfold bv4 at hfit
     split at hfit<;>simp_all
    have hyc : ∀ (K':Prop) (a0 a1 a2 a3:Prop),(match cl y with | 0=>a0 | 1=>a1 | 2=>a2 | _=>a3)=a3:=by
     intro _ a0 a1 a2 a3;split<;>simp_all
    ·obtain⟨mx,objx,hu⟩:=hst x ox hx hcx a.eval
     rw[hcx]
     refine⟨mx,objx,hu,fun b hb=>⟨oy,hy,hpy,?_⟩⟩
     rw[wy,d9 hwy,ey,hyc True]
     refine(h.frame (o:=objx) hb).mono fun v σ' ⟨σ₁,hn,hσ',hc,ox',hox,_,h1'⟩=>⟨fun q hq => ?_,?_⟩
     ·rcases hc q hq with h | h
      ·exact .inl h
      ·exact .inr (hσ' ▸ h.put hn)
     ·rw[hx]at hox;cases hox
      rw[wx,d9 hwx,ex,hcx]at h1'
      obtain⟨mx',objx',hu',h1'⟩:=h1'
      have h2':=h1' b hn
      have hobj:objx'=objx/\mx' b=mx b:=by
       have e1:=hu { (default:World)with heap:=Array.replicate b default }
       have e2:=hu' { (default:World)with heap:=Array.replicate b default }
       rw[e1]at e2
       simp only[Result.ok.injEq,Next.value.injEq]at e2
       obtain⟨e3,e4⟩:=e2
       simp only[Array.size_replicate]at e3
       refine⟨?_,e3.symm⟩
       have e5:=D9 World.heap e4
       have e6:(Array.replicate b (default:Obj)).push objx=(Array.replicate b (default:Obj)).push objx':=e5
       have e7:=D9 Array.back? e6
       simpa using e7.symm
      obtain⟨e3,e4⟩:=hobj
      subst e3
      rw[e4]at h2'
      rw[<-hcomm,hσ'];exact h2'
  ·rw[c0 hwx]
   refine⟨oy,hy,hpy,?_⟩
   rw[wy,d9 hwy,ey]
   split at h
   ·obtain⟨v,hv,ox',hox,_,h⟩:=h;rw[hx]at hox;cases hox
    rw[wx,c0 hwx]at h
    exact⟨v,hv,by rw[<-hcomm];exact h⟩
   ·obtain⟨v,hv,ox',hox,_,h⟩:=h;rw[hx]at hox;cases hox
    rw[wx,c0 hwx]at h
    exact⟨v,hv,by rw[<-hcomm];exact h⟩
   ·obtain⟨mk,obj,hv,h⟩:=h
    refine⟨mk,obj,hv,fun b hb => ?_⟩
    obtain⟨ox',hox,_,h⟩:=h b hb;rw[hx]at hox;cases hox
    rw[wx,c0 hwx]at h
    rw[<-hcomm];exact h
   ·refine h.mono fun v σ' ⟨hc,ox',hox,_,h⟩=>⟨hc,?_⟩
    rw[hx]at hox;cases hox
    rw[wx,c0 hwx]at h
    rw[<-hcomm];exact h
 ·rw[c0 hwy]at h
  obtain⟨ox',hox,_,h⟩:=h;rw[hx]at hox;cases hox
  rw[wx,ex]at h
  by_cases hwx:Region.wanted ox (yielded ops a.tmps)=true
  ·rw[d9 hwx]at h ⊢
   split at h
   ·obtain⟨u,hu,h⟩:=h
    refine⟨u,hu,oy,hy,hpy,?_⟩
    rw[wy,c0 hwy,<- hcomm];exact h
   ·obtain⟨u,hu,h⟩:=h
    refine⟨u,hu,oy,hy,hpy,?_⟩
    rw[wy,c0 hwy,<- hcomm];exact h
   ·obtain⟨mk,obj,hu,h⟩:=h
    refine⟨mk,obj,hu,fun b hb=>⟨oy,hy,hpy,?_⟩⟩
    rw[wy,c0 hwy,<- hcomm];exact h b hb
   ·refine h.mono fun u σ' ⟨hc,h⟩=>⟨hc,oy,hy,hpy,?_⟩
    rw[wy,c0 hwy,<- hcomm];exact h
  ·rw[c0 hwx]at h ⊢
   refine⟨oy,hy,hpy,?_⟩
   rw[wy,c0 hwy,<- hcomm];exact h
def au1 (ops:Array Oper) (cl:Nat->Nat) (y x:Nat):Bool :=
 match ops[y]?,ops[x]? with
 | some oy,some ox=>oy.apart ops ox&&bv4 (cl y) (cl x)
 | _,_=>false

theorem S8.front {K:Pq->Act->H->Prop} (hK:ai3 K) (hst:bB9 P ops cl) (hpl:∀ (i:Nat) (o:Oper),ops[i]? = some o->V3 o.op=true) {x:Nat} {r:List Nat} : ∀ (p:List Nat),(∀y∈p,A y x=false/\au1 ops cl y x=true) -> ∀ {pend:List (Nat×Sem Next×Value)} {a:Act} {σ:H},Fin σ ->
 S8 P ops cl A X pend (p++x::r) a K σ->S8 P ops cl A X pend (x::(p++r)) a K σ:=by
 intro p
 induction p with
 | nil=>intro _ pend a σ _ h;exact h
 | cons y p ih =>
  intro hp pend a σ hf h
  have hsw:=hp y (E2 ..)
  have h':S8 P ops cl A X pend (y::x::(p++r)) a K σ :=
   S8.head (fun pend' a' σ' hf' hh=>ih (fun z hz=>hp z (E3 _ hz)) hf' hh) hf h
  obtain⟨hA,hs⟩:=hsw
  unfold au1 at hs
  split at hs
  ·rename_i oy ox hy hx
   simp only[A8]at hs
   exact S8.swap hy hx hs.1 hA hs.2 hK hf hst (hpl _ _ hx) h'
  ·cases hs

def aI4 (ops:Array Oper) (cl:Nat->Nat) (A:Nat->Nat->Bool):List Nat->Bool
 | []=>true
 | y::r=>(r.all fun x=>A y x||au1 ops cl y x)&&aI4 ops cl A r

theorem aC9 : ∀l,aI4 ops cl A l=true->l.Pairwise fun y x=>A y x=true\/au1 ops cl y x=true:=by
 intro l
 induction l with
 | nil=>intro _;exact .nil
 | cons y r ih =>
  intro h
  simp only[aI4,A8,Q2,Bool.or_eq_true]at h
  exact .cons (fun x hx=>h.1 x hx) (ih h.2)

theorem aD0 {ro:Option Nat} {n:Nat} {o:Oper} {a:Act} {next:Act->World->Prop} {Q:Exit->Act->World->Prop} {x:Result Next}
 (h:W6 P (fun v w=>next (a.put o.dst v) w) (fun v w=>Q (.panic (af4 v)) a w) x):o.uponIn (FW ro) n P a next Q x:=by
 unfold W6 at h
 split at h
 ·exact h
 ·exact h
 ·refine⟨(fun h=>by cases h),?_⟩
  have h':=aq7 (ro:=ro) (n:=n - 1) h
  refine h'.mono fun e w' hh => ?_
  rcases hh with⟨v,he,hv⟩ | ⟨v,he,hv⟩
  ·subst he;exact hv
  ·subst he;exact hv
 ·refine⟨(fun h=>by cases h),?_⟩
  have h':=aE9 (ro:=ro) (n:=n - 1) h
  refine h'.mono fun e w' ⟨v,he,hv⟩ => ?_
  subst he;exact hv
 ·exact h
 ·exact h.elim
theorem bC0 {ro:Option Nat} {n:Nat} {Q:Exit->Act->World->Prop} {i:Nat} {l:List Nat} {pend:List (Nat×Sem Next×Value)} {a:Act} {K:Pq->Act->H->Prop} {σ:H} {next:Act->World->Prop} {w:World}
 (hw:σ.le w) (h:S8 P ops cl A X pend (i::l) a K σ)
 (hx:∀v σ' w',I0 σ w σ' w'->X v σ'->Q (.panic (af4 v)) a w')
 (hn:∀pend' v σ' w',I0 σ w σ' w'->S8 P ops cl A X pend' l (a.put ((ops[i]?).bind (·.dst)) v) K σ'->next (a.put ((ops[i]?).bind (·.dst)) v) w'):wpOpIn (FW ro) n P ops Q i next a w:=by
 obtain⟨o,ho,hp,h⟩:=h
 unfold wpOpIn
 simp only[ho,Option.bind_some]at hn ⊢
 split at h
 ·rename_i hwd
  rw[d9 hwd]
  refine⟨fun _ _=>trivial,?_⟩
  rw[Oper.semAt_eq _ _ _ (aE8 hp)]
  split at h
  ·obtain⟨v,hv,h⟩:=h
   rw[hv w];exact hn _ v σ w (I0.refl hw) h
  ·obtain⟨v,hv,h⟩:=h
   rw[hv w hw];exact hn _ v σ w (I0.refl hw) h
  ·obtain⟨mk,obj,hv,h⟩:=h
   rw[hv w]
   obtain⟨hn',he⟩:=I0.alloc hw obj
   exact hn _ _ _ _ he (h _ hn')
  ·exact aD0 ((h w hw).mono (fun v w' ⟨σ',he,_,hk⟩=>hn _ v σ' w' he hk) fun v w' ⟨σ',he,hk⟩=>hx v σ' w' he hk)
 ·rename_i hwd
  rw[c0 hwd]
  exact⟨fun _ _=>trivial,hn _ _ σ w (I0.refl hw) h⟩

theorem bn8 {ro:Option Nat} {n:Nat} {Q:Exit->Act->World->Prop} {K:Pq->Act->H->Prop} (hK:ai3 K) (hst:bB9 P ops cl) (hpl:∀ (i:Nat) (o:Oper),ops[i]? = some o->V3 o.op=true) {Ra:Act->Prop} (hRa:∀a d v,Ra a->Ra (a.put d v)) {AL:List (List Nat)} (hanc:aw5 ops AL=true) :
 ∀ (fuel:Nat) (rem:List Nat) (listed:Array Bool) {pend:List (Nat×Sem Next×Value)} {a:Act} {σ:H} {w:World},rem.length<=fuel->σ.le w->S8 P ops cl (I4 AL) X pend rem a K σ->Cls ops listed ->
 (∀i,i<ops.size->(listed.getD i false=true\/i∈rem))->(∀i∈rem,i<ops.size/\listed.getD i true=false)->rem.Nodup ->
 (∀p x r,rem=p++x::r -> ∀z∈aw4 ops x,listed.getD z false=true\/z∈p) ->
 rem.Pairwise (fun y x=>I4 AL y x=true\/au1 ops cl y x=true) ->
 Ra a->(∀v a' σ' w',Ra a'->I0 σ w σ' w'->X v σ'->Q (.panic (af4 v)) a' w')->(∀p' a' σ' w',I0 σ w σ' w'->K p' a' σ'->Q .normal a' w')->wpAnyIn (FW ro) n P .any ops Q fuel listed a w:=by
 intro fuel
 induction fuel with
 | zero =>
  intro rem listed pend a σ w hlen hw h hc hall hrem hnd hlin hpw hra hX hq
  have:rem=[]:=List.length_eq_zero_iff.1 (by omega)
  subst this
  refine⟨?_,hq _ a σ w (I0.refl hw) h⟩
  rw[List.eq_nil_iff_forall_not_mem]
  intro i hi
  rw[W3]at hi
  rcases hall i hi.1 with h1 | h1
  ·have:i<listed.size:=by rw[hc.size];exact hi.1
   simp[this]at h1 hi
   rw[h1]at hi;simp at hi
  ·simp at h1
 | succ fuel ih =>
  intro rem listed pend a σ w hlen hw h hc hall hrem hnd hlin hpw hra hX hq
  refine⟨fun hnil => ?_,fun i hi => ?_⟩
  ·cases rem with
   | nil=>exact hq _ a σ w (I0.refl hw) h
   | cons x r =>
    exfalso
    have hx:=hrem x (E2 ..)
    have:x∈Region.ready .any ops listed:=by
     rw[W3]
     refine⟨hx.1,hx.2,fun z hz => ?_⟩
     rcases hlin [] x r rfl z hz with h' | h'
     ·exact h'
     ·simp at h'
    rw[hnil]at this;simp at this
  ·rw[W3]at hi
   obtain⟨hisz,hil,hip⟩:=hi
   have hisz':i<listed.size:=by rw[hc.size];exact hisz
   have hmem:i∈rem:=by
    rcases hall i hisz with h1 | h1
    ·simp[hisz']at h1 hil;rw[h1]at hil;simp at hil
    ·exact h1
   obtain⟨p,r,rfl⟩:=List.append_of_mem hmem
   have hfr:S8 P ops cl (I4 AL) X pend (i::(p++r)) a K σ:=by
    refine S8.front hK hst hpl p (fun y hy => ?_) (Fin.of_le hw) h
    have hpair:I4 AL y i=true\/au1 ops cl y i=true:=by
     rw[List.pairwise_append]at hpw
     exact hpw.2.2 y hy i (E2 ..)
    have hna:I4 AL y i=false:=by
     cases ha:I4 AL y i with
     | false=>rfl
     | true =>
      have h1:=an1 hanc hc i y hisz ha hip
      have h2:=(hrem y (List.mem_append_left _ hy)).2
      have hys:y<listed.size:=by rw[hc.size];exact(hrem y (List.mem_append_left _ hy)).1
      simp[hys]at h1 h2;rw[h1]at h2;simp at h2
    exact⟨hna,hpair.resolve_left (by rw[hna];simp)⟩
   refine bC0 hw hfr (fun v σ' w' he hx=>hX v a σ' w' hra he hx) fun pend' v σ' w' he h' => ?_
   have hset : ∀j d,(listed.setIfInBounds i true).getD j d=if j=i then true else listed.getD j d:=by
    intro j d
    by_cases hj:j=i
    ·subst hj;simp[hisz']
    ·simp[hj,Ne.symm hj]
   have hnd':(i::(p++r)).Nodup:=by
    refine(List.Perm.nodup_iff ?_).1 hnd
    exact List.perm_middle
   have hni:i∉p++r:=(List.nodup_cons.1 hnd').1
   refine ih (p++r) _ ?_ he.le h' ⟨by simpa using hc.size,?_⟩ ?_ ?_ (List.nodup_cons.1 hnd').2 ?_ ?_ (hRa _ _ _ hra) (fun v a₂ σ₂ w₂ hr₂ he₂ hx=>hX v a₂ σ₂ w₂ hr₂ (he.trans he₂) hx) fun p₂ a₂ σ₂ w₂ he₂ hk=>hq _ _ _ _ (he.trans he₂) hk
   ·simp at hlen ⊢;omega
   ·intro x hx z hz
    rw[hset]at hx ⊢
    by_cases hz':z=i
    ·simp[hz']
    ·rw[c0 hz']
     by_cases hx':x=i
     ·subst hx';exact hip z hz
     ·rw[c0 hx']at hx;exact hc.down x hx z hz
   ·intro j hj
    rw[hset]
    by_cases hj':j=i
    ·simp[hj']
    ·rw[c0 hj']
     rcases hall j hj with h1 | h1
     ·exact .inl h1
     ·simp[hj']at h1;exact .inr (by simpa using h1)
   ·intro j hj
    have hji:j≠i:=fun e=>hni (e ▸ hj)
    rw[hset,c0 hji]
    exact hrem j (by simp at hj ⊢;rcases hj with h | h;exact .inl h;exact .inr (.inr h))
   ·intro p' x r' hpr z hz
    rw[hset]
    by_cases hzi:z=i
    ·simp[hzi]
    ·rw[c0 hzi]
     -- where x stands
     rcases List.append_eq_append_iff.1 hpr with⟨m,hm1,hm2⟩ | ⟨m,hm1,hm2⟩
     ·-- p'=p++m
      rcases hlin (p++i::m) x r' (by simp[hm2]) z hz with h1 | h1
      ·exact .inl h1
      ·right
       simp[hzi]at h1
       rw[hm1];simpa using h1
     ·-- p=p'++m
      cases m with
      | nil =>
       simp at hm1 hm2
       rcases hlin (p++[i]) x r' (by simp[<-hm2]) z hz with h1 | h1
       ·exact .inl h1
       ·right;simp[hzi]at h1;rw[<-hm1];exact h1
      | cons c m =>
       simp at hm2
       obtain⟨rfl,hm2⟩:=hm2
       exact hlin p' x (m++i::r) (by simp[hm1]) z hz
   ·refine hpw.sublist ?_
    exact List.Sublist.append (List.Sublist.refl _) (List.sublist_cons_self ..)

def aY5 (ops:Array Oper) (cl:Nat->Nat) (AL:List (List Nat)) (π:List Nat):Bool :=
 Nat.beq π.length ops.size&&(List.range ops.size).all (fun i=>π.contains i)&&π.all (fun i=>Nat.blt i ops.size)&&aC3 π&&aS0 ops [] π&&aI4 ops cl (I4 AL) π&&aw5 ops AL

theorem be7 {ro:Option Nat} {n:Nat} {Q:Exit->Act->World->Prop} {K:Pq->Act->H->Prop} (hK:ai3 K) (hst:bB9 P ops cl) (hpl:∀ (i:Nat) (o:Oper),ops[i]? = some o->V3 o.op=true) {Ra:Act->Prop} (hRa:∀a d v,Ra a->Ra (a.put d v)) {AL:List (List Nat)} {π:List Nat} (hm:P.follows .mixedOrders=true) (hok:aY5 ops cl AL π=true) {id:Nat} {a:Act} {σ:H} {w:World} (hw:σ.le w)
 (h:S8 P ops cl (I4 AL) X [] π a K σ) (hra:Ra a) (hX:∀v a' σ' w',Ra a'->I0 σ w σ' w'->X v σ'->Q (.panic (af4 v)) a' w') (hq:∀p' a' σ' w',I0 σ w σ' w'->K p' a' σ'->Q .normal a' w'):(Code.region id ops true).wpIn (FW ro) n P Q a w:=by
 unfold aY5 at hok
 simp only[A8,Q2]at hok
 obtain⟨⟨⟨⟨⟨⟨hlen,hall⟩,hlt⟩,hnd⟩,hlin⟩,hpair⟩,hanc⟩:=hok
 have hlen:π.length=ops.size:=Nat.eq_of_beq_eq_true hlen
 refine wpIn_region_any hm ?_
 refine bn8 hK hst hpl hRa hanc _ π _ (by omega) (w:={ w with drawn:=w.drawn+1 }) hw h ⟨by simp,?_⟩ ?_ ?_ ?_ ?_ ?_ hra (fun v a' σ' w' hr he hx=>hX v a' σ' w' hr ((I0.drew hw _).trans he) hx) ?_
 ·intro x hx;exfalso
  rcases F6 x ops.size with h1 | h1
  ·simp[h1]at hx
  ·simp[Nat.not_lt.2 h1]at hx
 ·intro i hi;exact .inr (by simpa using hall i (by simpa using hi))
 ·intro i hi
  have hi':i<ops.size:=by simpa using hlt i hi
  exact⟨hi',by simp[hi']⟩
 ·exact an2 _ hnd
 ·intro p x r hp z hz
  rcases aq6 π [] hlin p x r hp z hz with h1 | h1
  ·simp at h1
  ·exact .inr h1
 ·exact aC9 _ hpair
 ·intro p' a' σ' w' he hk
  exact hq p' a' σ' w' ((I0.drew hw _).trans he) hk

end
def be8 (P:Program) (τ:TypeId->TK) (N:Nat) (pan:List Nat) (X:Value->H->Prop) (ops:List Oper) (A:Nat->Nat->Bool):List Nat->aH7->M5->(aH7->M5->H->Prop)->H->Prop
 | [],q,e,K,σ=>K q e σ
 | i::l,q,e,K,σ=>match ops[i]? with
  | none=>False
  | some o=>match V3 o.op&&aF2 N o.dst with
   | false=>False
   | true=>aK7 ops e o.guard
    (fun e σ=>match aw7 P o.op with
     | 0=>bA0 P e (fun v=>be8 P τ N pan X ops A l q (e.put o.dst v) K) o.op σ
     | 1=>bK2 P e (fun r=>l4 r (τ o.type) ((τ o.type).lam fun v=>be8 P τ N pan X ops A l ((i,r,v)::q) (e.put o.dst v) K)) o.op σ
     | 2=>alF P e (fun obj mk=>A9 obj fun b=>be8 P τ N pan X ops A l q (e.put o.dst (mk b)) K) o.op σ
     | _=>efX P pan e (app (tyO τ o) ((tyO τ o).lam fun v=>bA6 A i q (be8 P τ N pan X ops A l q (e.put o.dst v) K))) (fun _=>X) o σ)
    (fun e=>be8 P τ N pan X ops A l q (e.put o.dst undef) K) σ


section
variable {P : Program} {τ : TypeId -> TK} {N : Nat} {ops : Array Oper} {A : Nat -> Nat -> Bool} {pan : List Nat} {X : Value -> H -> Prop}
theorem cb5 {e:M5} {a:Act} (fr:FR N e a) {o:Oper} {G:Value->H->Prop} {σ:H} (h:efX P pan e G (fun _=>X) o σ):ap9 P (execOp a.eval o) G X σ :=
 fun _ hw=>aT8 (X:=fun _=>X) fr h hw
theorem bn9 {K:aH7->M5->H->Prop} : ∀ (l:List Nat) {q:aH7} {p:List (Nat×Sem Next×Value)} {e:M5} {a:Act} {σ:H},PR P q p->FR N e a->be8 P τ N pan X ops.toList A l q e K σ ->
 S8 P ops (clI P ops.toList) A X p l a (fun p' a' σ' => ∃q' e',PR P q' p'/\FR N e' a'/\a'.defers=a.defers/\K q' e' σ') σ:=by
 intro l
 induction l with
 | nil=>intro q p e a σ hpr fr h;exact⟨q,e,hpr,fr,rfl,h⟩
 | cons i l ih =>
  intro q p e a σ hpr fr h
  simp only[be8]at h
  split at h
  ·exact h.elim
  ·rename_i o ho
   have ho':ops[i]? = some o:=by simpa using ho
   split at h
   ·exact h.elim
   ·rename_i hp
    simp only[A8]at hp
    obtain⟨hp,hd⟩:=hp
    refine⟨o,ho',hp,?_⟩
    have lift : ∀ {v:Value} {p':List (Nat×Sem Next×Value)} {σ':H},S8 P ops (clI P ops.toList) A X p' l (a.put o.dst v) (fun p' a' σ' => ∃q' e',PR P q' p'/\FR N e' a'/\a'.defers=(a.put o.dst v).defers/\K q' e' σ') σ' ->
     S8 P ops (clI P ops.toList) A X p' l (a.put o.dst v) (fun p' a' σ' => ∃q' e',PR P q' p'/\FR N e' a'/\a'.defers=a.defers/\K q' e' σ') σ':=by
     intro v p' σ' h;rw[Y9]at h;exact h
    obtain⟨e',fr',h | h⟩:=an6 fr h
    ·obtain⟨hw,h⟩:=h
     rw[d9 hw,bm4 ho']
     split at h
     ·rename_i hc
      try rw[hc]
      obtain⟨v,hv,h⟩:=an5 fr' h
      exact⟨v,hv,lift (ih hpr (fr'.put hd v) h)⟩
     ·rename_i hc
      try rw[hc]
      obtain⟨r,hr,v,hrv,h⟩:=ax5 fr' h
      have h:=app_lam h
      refine⟨v,hr _ _ hrv,lift (ih ?_ (fr'.put hd v) h)⟩
      intro y hy
      rcases A5.1 hy with rfl | hy
      ·exact⟨(i,r,v),E2 ..,rfl,rfl,fun σ hσ=>hr σ v hσ⟩
      ·obtain⟨z,hz,h1,h2,h3⟩:=hpr y hy
       exact⟨z,E3 _ hz,h1,h2,h3⟩
     ·rename_i hc
      try rw[hc]
      obtain⟨obj,mk,hal,h⟩:=at8 fr' h
      exact⟨mk,obj,hal,fun b hb=>lift (ih hpr (fr'.put hd _) (h b hb))⟩
     ·rename_i hc0 hc1 hc2
      refine ap9.mono (cb5 fr' h) fun v σ' h => ?_
      obtain⟨h1,h2⟩:=bd1 (app_lam h)
      refine⟨fun y hy => ?_,lift (ih hpr (fr'.put hd v) h2)⟩
      obtain⟨z,hz,e1,e2,e3⟩:=hpr y hy
      rcases h1 z hz with h1 | h1
      ·exact .inl (e1 ▸ h1)
      ·exact .inr (e3 σ' (e2 ▸ h1))
    ·obtain⟨hw,h⟩:=h
     rw[c0 (by rw[hw];simp)]
     exact lift (ih hpr (fr'.put hd undef) h)
def stB (P:Program) (o:Oper):Bool :=
 match o.op with
 | .alloc t=>(aF3 P t).isSome
 | _ => !Nat.beq (aw7 P o.op) 2
def bv5 (P:Program) (ops:Array Oper) (cl:Nat->Nat) (AL:List (List Nat)) (π:List Nat):Bool :=
 aY5 ops cl AL π&&ops.toList.all fun o=>V3 o.op&&stB P o
theorem cp6 {o:Oper} (h:stB P o=true) (hc:aw7 P o.op=2) (ev:Operand->Value) : ∃mk obj,bJ4 P (execOp ev o) mk obj:=by
 unfold stB at h
 split at h
 ·rename_i t ho
  cases hz:aF3 P t with
  | none=>rw[hz]at h;cases h
  | some z =>
   have fr:FR 0 [] { tmps := #[],defers:=[] }:=⟨Nat.zero_le _,fun i v h=>by cases h⟩
   have ha:alF P [] (fun _ _ _=>True) o.op (fun _=>none):=by rw[ho];unfold alF;dsimp only;rw[hz];trivial
   obtain⟨obj,mk,hal,_⟩:=at8 fr ha
   refine⟨mk,obj,?_⟩
   obtain⟨dst,op,type,pos,after,guard⟩:=o
   simp only at ho;subst ho
   exact hal
 ·rw[hc]at h;cases h
theorem cb6 {ops:Array Oper} {cl:Nat->Nat} (hcl:∀ (i:Nat) (o:Oper),ops[i]? = some o->cl i=aw7 P o.op) (h:∀o∈ops.toList,stB P o=true):bB9 P ops cl:=by
 intro i o ho hc ev
 have hm:o∈ops.toList:=by
  have:ops.toList[i]? = some o:=by simpa using ho
  exact F7 this
 exact cp6 (h o hm) (by rw[<-hcl i o ho];exact hc) ev
end
end Go.HL

namespace Go.HL
open Go
def rgX (P:Program) (τ:TypeId->TK) (N:Nat) (pan:List Nat) (X:M5->Value->H->Prop) (ops:List Oper):List Nat->M5->(M5->H->Prop)->H->Prop
 | [],e,K,σ=>K e σ
 | i::l,e,K,σ=>match ops[i]? with
  | none=>False
  | some o=>match V3 o.op&&aF2 N o.dst with
   | false=>False
   | true=>aK7 ops e o.guard
    (fun e σ=>match aw7 P o.op with
     | 0=>bA0 P e (fun v=>rgX P τ N pan X ops l (e.put o.dst v) K) o.op σ
     | 1=>bK2 P e (fun r=>l4 r (τ o.type) ((τ o.type).lam fun v=>rgX P τ N pan X ops l (e.put o.dst v) K)) o.op σ
     | 2=>alF P e (fun obj mk=>A9 obj fun b=>rgX P τ N pan X ops l (e.put o.dst (mk b)) K) o.op σ
     | _=>efX P pan e (app (tyO τ o) ((tyO τ o).lam fun v=>rgX P τ N pan X ops l (e.put o.dst v) K)) X o σ)
    (fun e=>rgX P τ N pan X ops l (e.put o.dst undef) K) σ

section
variable {P : Program} {τ : TypeId -> TK} {N : Nat} {pan : List Nat} {X : M5 -> Value -> H -> Prop}
theorem be9 {ops:Array Oper} {Q:Exit->Act->World->Prop} {K:M5->H->Prop} (tail:List Nat) : ∀ (l:List Nat) {e:M5} {a:Act} {σ:H} {w:World},FR N e a->σ.le w->rgX P τ N pan X ops.toList l e K σ ->
 (∀e' a' σ' w',FR N e' a'->a'.defers=a.defers->I0 σ w σ' w'->K e' σ'->wpOpsIn Fence.wide 0 P ops Q tail a' w')->(∀e' v a' σ' w',FR N e' a'->a'.defers=a.defers->I0 σ w σ' w'->X e' v σ'->Q (.panic (af4 v)) a' w') ->
 wpOpsIn Fence.wide 0 P ops Q (l++tail) a w:=by
 intro l
 induction l with
 | nil=>intro e a σ w fr hw h hq _;exact hq e a σ w fr rfl (I0.refl hw) h
 | cons i l ih =>
  intro e a σ w fr hw h hq hx
  simp only[rgX]at h
  rw[P5]
  simp only[wpOpsIn]
  split at h
  ·exact h.elim
  ·rename_i o ho
   have ho':ops[i]? = some o:=by simpa using ho
   simp only[ho']
   split at h
   ·exact h.elim
   ·rename_i hp
    simp only[A8]at hp
    obtain⟨hp,hd⟩:=hp
    have go : ∀ {e':M5} {v:Value} {σ':H} {w':World},FR N (e'.put o.dst v) (a.put o.dst v)->I0 σ w σ' w'->rgX P τ N pan X ops.toList l (e'.put o.dst v) K σ'->wpOpsIn Fence.wide 0 P ops Q (l++tail) (a.put o.dst v) w':=by
     intro e' v σ' w' fr' he hr
     refine ih fr' he.le hr (fun e2 a2 σ2 w2 f2 d2 x2 k2=>hq e2 a2 σ2 w2 f2 (d2.trans (Y9 a o.dst v)) (he.trans x2) k2) (fun e2 v2 a2 σ2 w2 f2 d2 x2 k2=>hx e2 v2 a2 σ2 w2 f2 (d2.trans (Y9 a o.dst v)) (he.trans x2) k2)
    obtain⟨e',fr',h | h⟩:=an6 fr h
    ·obtain⟨hwd,h⟩:=h
     rw[d9 hwd]
     refine⟨fun _ _=>trivial,?_⟩
     have hs:(o.semAt Fence.wide.round a.eval)=execOp a.eval o:=rfl
     rw[hs]
     split at h
     ·obtain⟨v,hv,h⟩:=an5 fr' h
      rw[hv w]
      exact go (fr'.put hd v) (I0.refl hw) h
     ·obtain⟨r,hr,v,hrv,h⟩:=ax5 fr' h
      have h:=app_lam h
      rw[hr σ v hrv w hw]
      exact go (fr'.put hd v) (I0.refl hw) h
     ·obtain⟨obj,mk,hal,h⟩:=at8 fr' h
      rw[hal w]
      obtain⟨hn',he⟩:=I0.alloc hw obj
      exact go (fr'.put hd _) he (h _ hn')
     ·refine cB0 ?_
      have hr:=aT8 fr' h hw
      have mono : ∀ {x:Result Next} {R R' RX RX':Value->World->Prop},(∀v w,R v w->R' v w)->(∀v w,RX v w->RX' v w)->W6 P R RX x->W6 P R' RX' x:=by
       intro x R R' RX RX' h1 h2 h
       unfold W6 at h ⊢
       split at h
       ·exact h1 _ _ h
       ·exact h1 _ _ h
       ·exact CallsIn.mono h fun e w h=>h.imp (fun⟨v,q,r⟩=>⟨v,q,h1 _ _ r⟩) (fun⟨v,q,r⟩=>⟨v,q,h2 _ _ r⟩)
       ·exact RoundIn.mono h fun e w ⟨v,q,r⟩=>⟨v,q,h1 _ _ r⟩
       ·exact h2 _ _ h
       ·exact h.elim
      refine mono (fun v w' ⟨σ',he,hk⟩ => ?_) (fun v w' ⟨σ',he,hk⟩ => ?_) hr
      ·exact go (fr'.put hd v) he (app_lam hk)
      ·exact hx e' v a σ' w' fr' rfl he hk
    ·obtain⟨hwd,h⟩:=h
     rw[c0 (by rw[hwd];simp)]
     exact⟨fun _ _=>trivial,go (fr'.put hd undef) (I0.refl hw) h⟩
theorem bC1 {ops:Array Oper} {Q:Exit->Act->World->Prop} {K:M5->H->Prop} (l:List Nat) {e:M5} {a:Act} {σ:H} {w:World} (fr:FR N e a) (hw:σ.le w) (h:rgX P τ N pan X ops.toList l e K σ)
 (hq:∀e' a' σ' w',FR N e' a'->a'.defers=a.defers->I0 σ w σ' w'->K e' σ'->Q .normal a' w') (hx:∀e' v a' σ' w',FR N e' a'->a'.defers=a.defers->I0 σ w σ' w'->X e' v σ'->Q (.panic (af4 v)) a' w') :
 wpOpsIn Fence.wide 0 P ops Q l a w:=by
 have:=be9 (Q:=Q) [] l fr hw h hq hx
 rwa [J1]at this
end

def DX (P:Program) (τ:TypeId->TK) (N:Nat) (pan:List Nat) (X:M5->Value->H->Prop):Code->Ann->M5->(M5->H->Prop)->(Nat->M5->H->Prop)->(M5->H->Prop)->H->Prop
 | .skip,_,e,Kn,_,_,σ=>Kn e σ
 | .label _,_,e,Kn,_,_,σ=>Kn e σ
 | .exit i,_,e,_,Kx,_,σ=>Kx i e σ
 | .scope x,an,e,Kn,Kx,Kr,σ=>match an with
  | .blk a=>DX P τ N pan X x a e Kn Kx Kr σ
  | _=>False
 | .ret,_,e,_,_,Kr,σ=>Kr e σ
 | .seq x y,an,e,Kn,Kx,Kr,σ=>match an with
  | .seq none a b=>DX P τ N pan X x a e (fun e'=>DX P τ N pan X y b e' Kn Kx Kr) Kx Kr σ
  | .seq (some l) a b=>w9 (l.lam fun e'=>DX P τ N pan X y b e' Kn Kx Kr) (fun j=>DX P τ N pan X x a e (fun e'=>l.app j e') Kx Kr) σ
  | _=>False
 | .cond c x y,an,e,Kn,Kx,Kr,σ=>match an,evO e c with
  | .cond a b,some (.bool t)=>l8 t (DX P τ N pan X x a e Kn Kx Kr) (DX P τ N pan X y b e Kn Kx Kr) σ
  | _,_=>False
 | .block id x,an,e,Kn,Kx,Kr,σ=>match an with
  | .blk a=>DX P τ N pan X x a e Kn (fun i e' σ=>match Nat.beq i id with | true=>Kn e' σ | false=>Kx i e' σ) Kr σ
  | _=>False
 | .loop x,an,e,_,Kx,Kr,σ=>match an with
  | .loop l a=>l9 l.ks (fun R=>l.lam fun e'=>DX P τ N pan X x a e' (fun e''=>l.app R e'') Kx Kr) (fun R=>l.app R e) σ
  | _=>False
 | .region _ ops draw,an,e,Kn,_,_,σ=>match an,draw with
  | .reg π AL,true=>match aW7 ops (clI P ops.toList) AL π with
   | true=>rgF P τ N ops.toList (I4 AL) π [] e (fun _=>Kn) σ
   | false=>False
  | .reg _ _,false=>rgX P τ N pan X ops.toList (List.range ops.size) e Kn σ
  | .reg2 p i m1 j m2 AL,true=>match aI1 ops (clI P ops.toList) AL p i m1 j m2 with
   | true=>rgF P τ N ops.toList (I4 AL) p [] e (fun q e'=>bu2 (rgF P τ N ops.toList (I4 AL) (i::m1) q e' (fun _=>Kn)) (rgF P τ N ops.toList (I4 AL) (j::m2) q e' (fun _=>Kn))) σ
   | false=>match bv5 P ops (clI P ops.toList) AL p with
    | true=>be8 P τ N pan (X []) ops.toList (I4 AL) p [] e (fun _=>Kn) σ
    | false=>False
  | _,_=>False
 | _,_,_,_,_,_,_=>False

def aG3 (N:Nat) (σ0:H) (w0:World) (ds:List Deferred) (Kn:M5->H->Prop) (Kx:Nat->M5->H->Prop) (Kr:M5->H->Prop) (X:M5->Value->H->Prop):Exit->Act->World->Prop
 | .normal,a,w => ∃e σ,FR N e a/\I0 σ0 w0 σ w/\a.defers=ds/\Kn e σ
 | .exit i,a,w => ∃e σ,FR N e a/\I0 σ0 w0 σ w/\a.defers=ds/\Kx i e σ
 | .ret,a,w => ∃e σ,FR N e a/\I0 σ0 w0 σ w/\a.defers=ds/\Kr e σ
 | .panic ch,a,w => ∃e v σ,ch=af4 v/\FR N e a/\I0 σ0 w0 σ w/\a.defers=ds/\X e v σ
 | _,_,_=>False
theorem aG3.pre {N:Nat} {σ0 σ1:H} {w0 w1:World} {ds:List Deferred} {Kn:M5->H->Prop} {Kx:Nat->M5->H->Prop} {Kr:M5->H->Prop} {X:M5->Value->H->Prop} (he:I0 σ0 w0 σ1 w1) {x:Exit} {a:Act} {w:World} (h:aG3 N σ1 w1 ds Kn Kx Kr X x a w):aG3 N σ0 w0 ds Kn Kx Kr X x a w:=by
 cases x with
 | normal=>obtain⟨e,σ,h1,h2,h3⟩:=h;exact⟨e,σ,h1,he.trans h2,h3⟩
 | exit i=>obtain⟨e,σ,h1,h2,h3⟩:=h;exact⟨e,σ,h1,he.trans h2,h3⟩
 | ret=>obtain⟨e,σ,h1,h2,h3⟩:=h;exact⟨e,σ,h1,he.trans h2,h3⟩
 | goto l=>exact h.elim
 | panic c=>obtain⟨e,v,σ,h0,h1,h2,h3⟩:=h;exact⟨e,v,σ,h0,h1,he.trans h2,h3⟩
 | outgrown=>exact h.elim
section
variable {P : Program} {τ : TypeId -> TK} {N : Nat} {pan : List Nat} {X : M5 -> Value -> H -> Prop}
theorem aL9 (hm:P.follows .mixedOrders=true) (c:Code) : ∀ (an:Ann) {e:M5} {Kn:M5->H->Prop} {Kx:Nat->M5->H->Prop} {Kr:M5->H->Prop} {σ:H},DX P τ N pan X c an e Kn Kx Kr σ -> ∀ (a:Act) (w:World),FR N e a->σ.le w ->
 c.wpIn Fence.wide 0 P (aG3 N σ w a.defers Kn Kx Kr X) a w:=by
 induction c with
 | skip=>intro an e Kn Kx Kr σ h a w fr hw;exact wpIn_skip ⟨e,σ,fr,I0.refl hw,rfl,h⟩
 | label l=>intro an e Kn Kx Kr σ h a w fr hw;exact wpIn_label ⟨e,σ,fr,I0.refl hw,rfl,h⟩
 | exit i=>intro an e Kn Kx Kr σ h a w fr hw;exact wpIn_exit ⟨e,σ,fr,I0.refl hw,rfl,h⟩
 | ret=>intro an e Kn Kx Kr σ h a w fr hw;exact wpIn_ret ⟨e,σ,fr,I0.refl hw,rfl,h⟩
 | goto l=>intro an e Kn Kx Kr σ h;exact h.elim
 | refuse w=>intro an e Kn Kx Kr σ h;exact h.elim
 | rangeFunc f ps asg body iha ihb=>intro an e Kn Kx Kr σ h;exact h.elim
 | scope b ih =>
  intro an e Kn Kx Kr σ h a w fr hw
  cases an with
  | blk an=>exact aL0 (fun l a w h=>h) (ih an h a w fr hw)
  | _=>exact h.elim
 | seq x y ihx ihy =>
  intro an e Kn Kx Kr σ h a w fr hw
  simp only[DX]at h
  split at h
  ·rename_i ax ay
   refine wpIn_seq (wpIn_mono (ihx _ h a w fr hw) fun ex a' w' hp => ?_)
   cases ex with
   | normal =>
    obtain⟨e',σ',fr',he,hd',h'⟩:=hp
    rw[<-hd']
    exact wpIn_mono (ihy _ h' a' w' fr' he.le) fun _ _ _=>aG3.pre he
   | exit i=>exact hp
   | ret=>exact hp
   | goto l=>exact hp.elim
   | panic c=>exact hp
   | outgrown=>exact hp.elim
  ·rename_i l ax ay
   refine wpIn_seq (wpIn_mono (ihx _ h a w fr hw) fun ex a' w' hp => ?_)
   cases ex with
   | normal =>
    obtain⟨e',σ',fr',he,hd',h'⟩:=hp
    obtain⟨vs,hs,h'⟩:=V9.app_lam h'
    rw[<-hd']
    exact wpIn_mono (ihy _ h' a' w' (fr'.sel hs) he.le) fun _ _ _=>aG3.pre he
   | exit i=>exact hp
   | ret=>exact hp
   | goto l=>exact hp.elim
   | panic c=>exact hp
   | outgrown=>exact hp.elim
  ·exact h.elim
 | cond c x y ihx ihy =>
  intro an e Kn Kx Kr σ h a w fr hw
  simp only[DX]at h
  split at h
  ·rename_i ax ay t ht
   cases t with
   | true=>exact wpIn_cond_true (fr.evO ht) (ihx _ h a w fr hw)
   | false=>exact wpIn_cond_false (fr.evO ht) (ihy _ h a w fr hw)
  ·exact h.elim
 | block id x ih =>
  intro an e Kn Kx Kr σ h a w fr hw
  simp only[DX]at h
  split at h
  ·refine wpIn_block (wpIn_mono (ih _ h a w fr hw) fun ex a' w' hp => ?_)
   cases ex with
   | normal=>exact hp
   | exit i =>
    obtain⟨e',σ',fr',he,hd',h'⟩:=hp
    simp only[Exit.inBlock]
    split at h'
    ·rename_i hb
     rw[d9 (Nat.eq_of_beq_eq_true hb)];exact⟨e',σ',fr',he,hd',h'⟩
    ·rename_i hb
     rw[c0 (Nat.ne_of_beq_eq_false hb)];exact⟨e',σ',fr',he,hd',h'⟩
   | ret=>exact hp
   | goto l=>exact hp.elim
   | panic c=>exact hp
   | outgrown=>exact hp.elim
  ·exact h.elim
 | loop x ih =>
  intro an e Kn Kx Kr σ h a w fr hw
  simp only[DX]at h
  split at h
  ·rename_i l ax
   generalize hds:a.defers=ds
   have h1:=h (aH6 l.ks fun vs σ' => ∀a w,FR N (l.zip vs) a->a.defers=ds->σ'.le w->aK9 Fence.wide 0 P x (aG3 N σ' w ds Kn Kx Kr X) a w) (bu5 _ fun vs σ' hD a w fr hde hw => ?_)
   ·obtain⟨vs,g,hs,hg,h1⟩:=V9.app_get h1
    rw[Z4 _ _ _ _ hg]at h1
    exact aF4 (h1 a w (fr.sel hs) hds hw)
   ·refine az3 (wpIn_mono (ih _ hD a w fr hw) fun ex a' w' hp => ?_)
    rw[hde]at hp
    cases ex with
    | normal =>
     obtain⟨e',σ'',fr',he,hd',h'⟩:=hp
     obtain⟨vs',g,hs,hg,h'⟩:=V9.app_get h'
     rw[Z4 _ _ _ _ hg]at h'
     intro b k cs hro hb hr
     obtain⟨e2,a2,w2,hq,harr⟩:=h' a' w' (fr'.sel hs) hd' he.le b k cs hro hb hr
     exact⟨e2,a2,w2,aG3.pre he hq,harr⟩
    | exit i=>exact hp
    | ret=>exact hp
    | goto l=>exact hp.elim
    | panic c=>exact hp
    | outgrown=>exact hp.elim
  ·exact h.elim
 | region id ops draw =>
  intro an e Kn Kx Kr σ h a w fr hw
  simp only[DX]at h
  split at h
  ·rename_i π AL
   split at h
   ·rename_i hok
    refine aJ9 (ro:=none) (fun _ _ _ _ hs ⟨q',e',hpr,h⟩=>⟨q',e',hpr.mono hs,h⟩) hm hok hw (X6 (p:=[]) _ (fun y hy=>by simp at hy) fr h) fun p' a' σ' w' he ⟨q',e',_,fr',hde,hk⟩ => ?_
    exact⟨e',σ',fr',he,hde,hk⟩
   ·exact h.elim
  ·exact wpIn_region (bC1 _ fr hw h (fun e' a' σ' w' fr' hd he hk=>⟨e',σ',fr',he,hd,hk⟩) (fun e' v a' σ' w' fr' hd he hk=>⟨e',v,σ',rfl,fr',he,hd,hk⟩))
  ·rename_i p i m1 j m2 AL
   split at h
   ·rename_i hok
    have h0:=X6 (p:=[]) _ (fun y hy=>by simp at hy) fr h
    have h1:=F3.mono (K':=fun q a1 σ1=>F3 P ops (clI P ops.toList) (I4 AL) q (i::m1) a1 (fun p' a' σ' => ∃q' e',PR P q' p'/\FR N e' a'/\a'.defers=a.defers/\Kn e' σ') σ1/\F3 P ops (clI P ops.toList) (I4 AL) q (j::m2) a1 (fun p' a' σ' => ∃q' e',PR P q' p'/\FR N e' a'/\a'.defers=a.defers/\Kn e' σ') σ1)
     (fun q a1 σ1 ⟨q',e',hpr,fr',hde,hb⟩=>⟨by rw[<-hde];exact X6 _ hpr fr' hb.1,by rw[<-hde];exact X6 _ hpr fr' hb.2⟩) p (Fin.of_le hw) h0
    refine aF1 (ro:=none) (fun _ _ _ _ hs ⟨q',e',hpr,h⟩=>⟨q',e',hpr.mono hs,h⟩) hm hok hw h1 fun p' a' σ' w' he ⟨q',e',_,fr',hde,hk⟩ => ?_
    exact⟨e',σ',fr',he,hde,hk⟩
   ·split at h
    ·rename_i hok
     unfold bv5 at hok
     simp only[A8,Q2]at hok
     obtain⟨hok,hall⟩:=hok
     have hpl : ∀ (i:Nat) (o:Oper),ops[i]? = some o->V3 o.op=true:=fun i o ho=>(hall o (by
      have:ops.toList[i]? = some o:=by simpa using ho
      exact F7 this)).1
     have hst:bB9 P ops (clI P ops.toList):=cb6 (fun i o ho=>bm4 ho) fun o ho=>(hall o ho).2
     refine be7 (ro:=none) (X:=X []) (Ra:=fun a'=>FR N [] a'/\a'.defers=a.defers) (fun _ _ _ _ hs ⟨q',e',hpr,h⟩=>⟨q',e',hpr.mono hs,h⟩) hst hpl ?_ hm hok hw (bn9 (p:=[]) _ (fun y hy=>by simp at hy) fr h) ?_ ?_ fun p' a' σ' w' he ⟨q',e',_,fr',hde,hk⟩ => ?_
     ·rintro a d v ⟨h1,h2⟩
      refine⟨⟨?_,fun i v h=>by cases h⟩,by rw[Y9];exact h2⟩
      cases d with
      | none=>exact h1.size
      | some d=>simpa[Act.put]using h1.size
     ·exact⟨⟨fr.size,fun i v h=>by cases h⟩,rfl⟩
     ·rintro v a' σ' w' ⟨h1,h2⟩ he hx
      exact⟨[],v,σ',rfl,h1,he,h2,hx⟩
     ·exact⟨e',σ',fr',he,hde,hk⟩
    ·exact h.elim
  ·exact h.elim
end
end Go.HL

namespace Go.HL
open Go
def noX (_:Nat) (_:M5) (_:H):Prop:=False
def al1 (P:Program) (τ:TypeId->TK) (pan:List Nat) (fn:Func) (an:Ann) (args:List Value) (K X:Value->H->Prop) (σ:H):Prop :=
 match fn.body with
 | some c=>match Nat.ble args.length fn.ntmps with
  | true=>DX P τ fn.ntmps pan (fun _=>X) c an (aQ4 0 args) (aK8 P τ fn.results.toList K) (fun _ _ _=>False) (aK8 P τ fn.results.toList K) σ
  | false=>False
 | none=>False
theorem aY6 (fn:Func) (args:List Value) (hle:args.length<=fn.ntmps):FR fn.ntmps (aQ4 0 args) { tmps:=args.toArray++Array.replicate (fn.ntmps - args.toArray.size) undef,defers:=[] }:=by
 refine⟨by simp;omega,fun i v hi => ?_⟩
 obtain⟨_,h2⟩:=bd3 args 0 i v hi
 simp only[Nat.sub_zero]at h2
 have hlt:i<args.length:=by
  rcases F6 i args.length with h | h
  ·exact h
  ·rw[L4 h]at h2;cases h2
 rw[Array.getElem?_append,d9 (by simpa using hlt)]
 simpa using h2
section
variable {P : Program} {τ : TypeId -> TK} {pan : List Nat}
theorem L8 (hm:P.follows .mixedOrders=true) {f:FuncId} {fn:Func} (hf:P.funcs[f]? = some fn) {an:Ann} {args:List Value} {K X:Value->H->Prop} {σ:H} (h:al1 P τ pan fn an args K X σ):ac5 P f args K X σ:=by
 unfold al1 at h
 split at h
 ·rename_i c hc
  split at h
  ·rename_i hle
   have hle:=Nat.le_of_ble_eq_true hle
   intro w hw
   refine callsIn_of_wp_defers hf hc trivial ?_
   refine wpIn_mono (aL9 hm c an h _ w (aY6 fn args hle) hw) fun ex a w' hp => ?_
   have fin : ∀e σ',FR fn.ntmps e a->I0 σ w σ' w'->a.defers=[]->aK8 P τ fn.results.toList K e σ' ->
    LeavesIn Fence.wide 0 P fn a.tmps (fun e w'=>(∃v,e = .returned v /\ ∃σ',I0 σ w σ' w'/\K v σ')\/(∃v,e = .panicked (af4 v) /\ ∃σ',I0 σ w σ' w'/\X v σ')) a.defers .returning w':=by
    intro e σ' fr' he hd hres
    rw[hd]
    obtain⟨v,hv,hk⟩:=an7 fr' he.le hres
    exact⟨v,hv,.inl ⟨v,rfl,σ',he,hk⟩⟩
   cases ex with
   | normal=>obtain⟨e,σ',fr',he,hd,hres⟩:=hp;exact fin e σ' fr' he hd hres
   | ret=>obtain⟨e,σ',fr',he,hd,hres⟩:=hp;exact fin e σ' fr' he hd hres
   | exit i=>obtain⟨_,_,_,_,_,hres⟩:=hp;exact hres.elim
   | goto l=>exact hp.elim
   | panic c =>
    obtain⟨e,v,σ',rfl,fr',he,hd,hx⟩:=hp
    show LeavesIn _ _ _ _ _ _ a.defers _ _
    rw[hd]
    exact .inr ⟨v,rfl,σ',he,hx⟩
   | outgrown=>exact hp.elim
  ·exact h.elim
 ·exact h.elim
end
structure Df where
 g:FuncId
 as_:List Value
 cs:List Value
def Df.d (x:Df):Deferred:={ target := .fn (.func x.g) ⟨x.cs⟩,args:=⟨x.as_⟩ }
inductive Md where
 | ret | pan (v:Value)
def Md.mode:Md->FrameMode
 | .ret => .returning
 | .pan v => .panicking (af4 v)
def ar9 (P:Program) (g:FuncId) (args:List Value) (m:Md) (K:Md->H->Prop) (σ:H):Prop :=
 ∀w,σ.le w->CallsDIn Fence.wide 0 P g args.toArray m.mode w fun e u' w' => ∃m' σ',I0 σ w σ' w'/\K m' σ' /\ ∃v,e = .returned v/\settle u'=m'.mode
def cp7 (P:Program):List Df->Md->(Md->H->Prop)->H->Prop
 | [],m,K,σ=>K m σ
 | d::ds,m,K,σ=>ar9 P d.g (d.as_++d.cs) m (fun m'=>cp7 P ds m' K) σ
def cb7:Code->Option (Array Oper×Operand×List Operand)
 | .region _ ops false=>match ops.toList[ops.size - 1]? with
  | some { dst:=none,op := .defer { callee := .value f,args:=⟨xs⟩,argTypes:=_ },guard:=none,type:=_,pos:=_,after:=_ }=>some (ops,f,xs)
  | _=>none
 | _=>none
def D5 (P:Program) (τ:TypeId->TK) (N:Nat) (pan:List Nat) (lv:List Df->Md->M5->H->Prop):Code->Ann->M5->List Df->H->Prop
 | .seq x y,an,e,dl,σ=>match an with
  | .seq none a b=>match cb7 x with
   | some (ops,f,xs)=>rgX P τ N pan (fun e' v=>lv dl (.pan v) e') ops.toList (List.range (ops.size - 1)) e (fun e' σ=>match evO e' f,evL e' xs with
    | some (.func (.func g) ⟨as0⟩ ⟨cs⟩),some vs=>match I3 P g with
     | true=>D5 P τ N pan lv y b e' (⟨g,as0++vs,cs⟩::dl) σ
     | false=>False
    | _,_=>False) σ
   | none=>DX P τ N pan (fun e' v=>lv dl (.pan v) e') x a e (fun e'=>D5 P τ N pan lv y b e' dl) noX (lv dl .ret) σ
  | .seq (some l) a b=>match cb7 x with
   | some _=>False
   | none=>w9 (l.lam fun e'=>D5 P τ N pan lv y b e' dl) (fun j=>DX P τ N pan (fun e' v=>lv dl (.pan v) e') x a e (fun e'=>l.app j e') noX (lv dl .ret)) σ
  | _=>False
 | c,an,e,dl,σ=>DX P τ N pan (fun e' v=>lv dl (.pan v) e') c an e (lv dl .ret) noX (lv dl .ret) σ
def mdK (A:H->Prop) (X:Value->H->Prop) (m:Md):H->Prop :=
 match m with
 | .ret=>A
 | .pan v=>X v
def bv6 (P:Program) (τ:TypeId->TK) (pan:List Nat) (fn:Func) (an:Ann) (args:List Value) (K X:Value->H->Prop) (σ:H):Prop :=
 match fn.body with
 | some c=>match Nat.ble args.length fn.ntmps with
  | true=>D5 P τ fn.ntmps pan (fun dl m e=>cp7 P dl m (mdK (aK8 P τ fn.results.toList K e) X)) c an (aQ4 0 args) [] σ
  | false=>False
 | none=>False
section
variable {P : Program} {τ : TypeId -> TK} {pan : List Nat} {N : Nat}
theorem cb8 {fn:Func} {tmps:Array Value} {R:Ending->World->Prop} {K:Md->H->Prop} : ∀ (dl:List Df) (m:Md) {σ:H} {w:World},(∀d∈dl,I3 P d.g=true)->cp7 P dl m K σ->σ.le w ->
 (∀m' σ' w',I0 σ w σ' w'->K m' σ'->LeavesIn Fence.wide 0 P fn tmps R [] m'.mode w')->LeavesIn Fence.wide 0 P fn tmps R (dl.map Df.d) m.mode w:=by
 intro dl
 induction dl with
 | nil=>intro m σ w _ h hw hk;exact hk m σ w (I0.refl hw) h
 | cons d ds ih =>
  intro m σ w hg h hw hk
  have hgo:=hg d (E2 ..)
  refine⟨by cases m<;>simp[Md.mode],(fun h=>by cases h),.func d.g,⟨d.cs⟩,d.g,(d.as_++d.cs).toArray,rfl,?_,fun _ _=>trivial,?_⟩
  ·show(invoke (.fn (.func d.g) ⟨d.cs⟩) ⟨d.as_⟩).run P w=_
   simp only[invoke]
   rw[ai4 hgo];simp
  ·refine CallsDIn.mono (h w hw) fun e u' w' ⟨m',σ',he,hk',v,hv,hs⟩ => ?_
   subst hv
   show LeavesIn Fence.wide 0 P fn tmps R (ds.map Df.d) (settle u') w'
   rw[hs]
   exact ih m' (fun d hd=>hg d (E3 _ hd)) hk' he.le fun m2 σ2 w2 he2 hk2=>hk m2 σ2 w2 (he.trans he2) hk2
theorem bC2 {x:Code} {ops:Array Oper} {f:Operand} {xs:List Operand} (h:cb7 x=some (ops,f,xs)) : ∃id o ty,x = .region id ops false/\ops[ops.size - 1]? = some o/\0<ops.size/\o.dst=none/\o.guard=none/\o.op = .defer { callee := .value f,args:=⟨xs⟩,argTypes:=ty }:=by
 unfold cb7 at h
 split at h
 ·rename_i id ops'
  split at h
  ·rename_i f' xs' ty' _ _ _ ho
   cases h
   have hlt:0<ops.size:=by
    rcases Nat.eq_zero_or_pos ops.size with h0 | h0
    ·have h1:ops.toList.length=0:=by simpa using h0
     have h2:ops.toList=[]:=Y3 h1
     rw[h2]at ho;simp at ho
    ·exact h0
   exact⟨id,_,_,rfl,by simpa using ho,hlt,rfl,rfl,rfl⟩
  ·cases h
 ·cases h
theorem bN0 (hm:P.follows .mixedOrders=true) {fn:Func} {R:Ending->World->Prop} {lv:List Df->Md->M5->H->Prop} {σ0:H} {w0:World}
 (hlv:∀dl m e a σ w,FR N e a->I0 σ0 w0 σ w->(∀d∈dl,I3 P d.g=true)->lv dl m e σ->LeavesIn Fence.wide 0 P fn a.tmps R (dl.map Df.d) m.mode w) (c:Code) :
 ∀ (an:Ann) {e:M5} (dl:List Df) {σ:H},D5 P τ N pan lv c an e dl σ -> ∀ (a:Act) (w:World),FR N e a->I0 σ0 w0 σ w->a.defers=dl.map Df.d->(∀d∈dl,I3 P d.g=true)->c.wpIn Fence.wide 0 P (bodyPostDIn Fence.wide 0 P fn R) a w:=by
 have plain : ∀ (c:Code) (an:Ann) {e:M5} (dl:List Df) {σ:H} {Kn:M5->H->Prop} {Q:Exit->Act->World->Prop},DX P τ N pan (fun e' v=>lv dl (.pan v) e') c an e Kn noX (lv dl .ret) σ -> ∀ (a:Act) (w:World),FR N e a->I0 σ0 w0 σ w->a.defers=dl.map Df.d->(∀d∈dl,I3 P d.g=true) ->
  (∀e a' σ' w',FR N e a'->I0 σ0 w0 σ' w'->a'.defers=dl.map Df.d->Kn e σ'->Q .normal a' w')->(∀a' w' R',(R'=bodyPostDIn Fence.wide 0 P fn R .ret a' w'->R')->True)->(∀a' w',bodyPostDIn Fence.wide 0 P fn R .ret a' w'->Q .ret a' w')->(∀ch a' w',bodyPostDIn Fence.wide 0 P fn R (.panic ch) a' w'->Q (.panic ch) a' w')->c.wpIn Fence.wide 0 P Q a w:=by
  intro c an e dl σ Kn Q h a w fr he hd hg hn _ hr hp
  refine wpIn_mono (aL9 hm c an h a w fr he.le) fun ex a' w' hq => ?_
  cases ex with
  | normal=>obtain⟨e',σ',fr',he',hd',hk⟩:=hq;exact hn e' a' σ' w' fr' (he.trans he') (hd'.trans hd) hk
  | exit i=>obtain⟨_,_,_,_,_,hk⟩:=hq;exact hk.elim
  | ret =>
   obtain⟨e',σ',fr',he',hd',hk⟩:=hq
   refine hr a' w' ?_
   show LeavesIn _ _ _ _ _ _ a'.defers _ _
   rw[hd',hd]
   exact hlv dl .ret e' a' σ' w' fr' (he.trans he') hg hk
  | goto l=>exact hq.elim
  | panic ch =>
   obtain⟨e',v,σ',rfl,fr',he',hd',hk⟩:=hq
   refine hp _ a' w' ?_
   show LeavesIn _ _ _ _ _ _ a'.defers _ _
   rw[hd',hd]
   exact hlv dl (.pan v) e' a' σ' w' fr' (he.trans he') hg hk
  | outgrown=>exact hq.elim
 have last : ∀ (c:Code) (an:Ann) {e:M5} (dl:List Df) {σ:H},DX P τ N pan (fun e' v=>lv dl (.pan v) e') c an e (lv dl .ret) noX (lv dl .ret) σ -> ∀ (a:Act) (w:World),FR N e a->I0 σ0 w0 σ w->a.defers=dl.map Df.d->(∀d∈dl,I3 P d.g=true)->c.wpIn Fence.wide 0 P (bodyPostDIn Fence.wide 0 P fn R) a w:=by
  intro c an e dl σ h a w fr he hd hg
  refine plain c an dl h a w fr he hd hg (fun e' a' σ' w' fr' he' hd' hk => ?_) (fun _ _ _ _=>trivial) (fun _ _ h=>h) (fun _ _ _ h=>h)
  show LeavesIn _ _ _ _ _ _ a'.defers _ _
  rw[hd']
  exact hlv dl .ret e' a' σ' w' fr' he' hg hk
 induction c with
 | seq x y ihx ihy =>
  intro an e dl σ h a w fr he hd hg
  simp only[D5]at h
  split at h
  ·rename_i ax ay
   split at h
   ·rename_i ops f xs hdf
    obtain⟨id,o,ty,rfl,ho,hlt,o1,o2,o3⟩:=bC2 hdf
    refine wpIn_seq (wpIn_region ?_)
    have hrange:List.range ops.size=List.range (ops.size - 1)++[ops.size - 1]:=by
     obtain⟨k,hk⟩ : ∃k,ops.size=k+1:=⟨ops.size - 1,by omega⟩
     rw[hk,List.range_succ];rfl
    rw[hrange]
    refine be9 (N:=N) [ops.size - 1] _ fr he.le h (fun e' a' σ' w' fr' hd' he' hk => ?_) (fun e' v a' σ' w' fr' hd' he' hk => ?_)
    ·split at hk
     ·rename_i g as0 cs vs hf hv
      split at hk
      ·rename_i hgo
       simp only[wpOpsIn,ho]
       have hwd:Region.wanted o (yielded ops a'.tmps)=true:=by simp[Region.wanted,o2]
       rw[d9 hwd]
       refine⟨fun _ _=>trivial,?_⟩
       have hs:(o.semAt Fence.wide.round a'.eval).run P w' = .ok (.defer (Df.d ⟨g,as0++vs,cs⟩)) w':=by
        show(execOp a'.eval o).run P w'=_
        obtain⟨dst,op,type,pos,after,guard⟩:=o
        simp only at o3;subst o3
        simp only[execOp,resolve,Deferred.ofValue,aK6,fr'.evO hf,fr'.evL hv,Sem.run_bind,Sem.run_pure,Result.andThen_ok,Df.d]
        simp
       rw[hs,Oper.uponIn_defer,o1]
       exact ihy ay (⟨g,as0++vs,cs⟩::dl) hk { a' with defers:=Df.d ⟨g,as0++vs,cs⟩::a'.defers } w' ⟨fr'.size,fr'.get⟩ (he.trans he') (by show _::a'.defers=_;rw[hd',hd];rfl) (by
        intro d hdm
        rcases A5.1 hdm with rfl | hdm
        ·exact hgo
        ·exact hg d hdm)
      ·exact hk.elim
     ·exact hk.elim
    ·show LeavesIn _ _ _ _ _ _ a'.defers _ _
     rw[hd',hd]
     exact hlv dl (.pan v) e' a' σ' w' fr' (he.trans he') hg hk
   ·refine wpIn_seq (plain x ax dl h a w fr he hd hg (fun e' a' σ' w' fr' he' hd' hk => ?_) (fun _ _ _ _=>trivial) (fun _ _ h=>h) (fun _ _ _ h=>h))
    exact ihy ay dl hk a' w' fr' he' hd' hg
  ·rename_i l ax ay
   split at h
   ·exact h.elim
   ·refine wpIn_seq (plain x ax dl h a w fr he hd hg (fun e' a' σ' w' fr' he' hd' hk => ?_) (fun _ _ _ _=>trivial) (fun _ _ h=>h) (fun _ _ _ h=>h))
    obtain⟨vs,hs,h'⟩:=V9.app_lam hk
    exact ihy ay dl h' a' w' (fr'.sel hs) he' hd' hg
  ·exact h.elim
 | _=>intro an e dl σ h a w fr he hd hg;exact last _ an dl h a w fr he hd hg
theorem as1 (hm:P.follows .mixedOrders=true) {f:FuncId} {fn:Func} (hf:P.funcs[f]? = some fn) {an:Ann} {args:List Value} {K X:Value->H->Prop} {σ:H} (h:bv6 P τ pan fn an args K X σ):ac5 P f args K X σ:=by
 unfold bv6 at h
 split at h
 ·rename_i c hc
  split at h
  ·rename_i hle
   have hle:=Nat.le_of_ble_eq_true hle
   intro w hw
   refine callsIn_of_wp_defers hf hc trivial ?_
   refine bN0 hm (σ0:=σ) (w0:=w) (fun dl m e a σ' w' fr' he hg hlv => ?_) c an [] h _ w (aY6 fn args hle) (I0.refl hw) rfl (fun d hd=>by cases hd)
   refine cb8 dl m hg hlv he.le fun m' σ2 w2 he2 hk => ?_
   cases m' with
   | ret =>
    obtain⟨v,hv,hk'⟩:=an7 fr' he2.le hk
    exact⟨v,hv,.inl ⟨v,rfl,σ2,he.trans he2,hk'⟩⟩
   | pan v=>exact .inr ⟨v,rfl,σ2,he.trans he2,hk⟩
  ·exact h.elim
 ·exact h.elim
end
def ao7 (P:Program) (f:FuncId) (args:List Value) (t:TK) (F:t.Fn (H->Prop)) (X:Value->H->Prop):H->Prop:=ac5 P f args (app t F) X
def af5 (P:Program) (pan:List Nat) (fv:Value) (args:List Value) (t:TK) (F:t.Fn (H->Prop)) (X:Value->H->Prop):H->Prop:=aL8 P pan fv args (app t F) X
end Go.HL

namespace Go.HL
open Go
def rgS (P:Program) (N:Nat) (ops:List Oper):List Nat->M5->(M5->H->Prop)->H->Prop
 | [],e,K,σ=>K e σ
 | i::l,e,K,σ=>match ops[i]? with
  | none=>False
  | some o=>match o.guard,V3 o.op&&aF2 N o.dst,aw7 P o.op with
   | none,true,0=>bA0 P e (fun v=>rgS P N ops l (e.put o.dst v) K) o.op σ
   | _,_,_=>False
def bN1 (N:Nat) (ops:List Oper):Option (Option Nat) :=
 match ops with
 | { dst:=d,op := .call { callee := .builtin .recover,args:=⟨[]⟩,argTypes:=_ },guard:=none,type:=_,pos:=_,after:=_ }::_=>match aF2 N d with
  | true=>some d
  | false=>none
 | _=>none
def Md.rv:Md->Value
 | .ret => .nilIface
 | .pan v=>v
def cb9 (P:Program) (τ:TypeId->TK) (fn:Func) (an:Ann) (args:List Value) (m:Md) (K:H->Prop) (X:Value->H->Prop) (σ:H):Prop :=
 match fn.body,an with
 | some (.seq (.region _ ops false) y),.seq none _ b=>match Nat.ble args.length fn.ntmps,bN1 fn.ntmps ops.toList with
  | true,some d=>rgS P fn.ntmps ops.toList ((List.range ops.size).drop 1) ((aQ4 0 args).put d m.rv) (fun e=>DX P τ fn.ntmps [] (fun _=>X) y b e (aK8 P τ fn.results.toList fun _=>K) noX (aK8 P τ fn.results.toList fun _=>K)) σ
  | _,_=>False
 | _,_=>False
def au2:Md->FrameMode
 | .ret => .returning
 | .pan v => .panicking [{ v,recovered:=true }]
section
variable {P : Program} {τ : TypeId -> TK} {N : Nat}
theorem bC3 {ops:Array Oper} {Q:Exit->Act->List Frame->World->Prop} {K:M5->H->Prop} {cs:List Frame} : ∀ (l:List Nat) {e:M5} {a:Act} {σ:H} {w:World},FR N e a->rgS P N ops.toList l e K σ ->
 (∀e' a',FR N e' a'->a'.defers=a.defers->K e' σ->Q .normal a' cs w)->wpOpsSIn Fence.wide 0 P ops Q l a cs w:=by
 intro l
 induction l with
 | nil=>intro e a σ w fr h hq;exact hq e a fr rfl h
 | cons i l ih =>
  intro e a σ w fr h hq
  simp only[rgS]at h
  simp only[wpOpsSIn]
  split at h
  ·exact h.elim
  ·rename_i o ho
   have ho':ops[i]? = some o:=by simpa using ho
   simp only[ho']
   split at h
   ·rename_i hg hp hc
    simp only[A8]at hp
    obtain⟨hp,hd⟩:=hp
    have hwd:Region.wanted o (yielded ops a.tmps)=true:=by simp[Region.wanted,hg]
    obtain⟨v,hv,h⟩:=an5 fr h
    refine⟨fun _ _=>trivial,?_⟩
    rw[d9 hwd,hv w]
    exact ih (fr.put hd v) h fun e' a' fr' hd' hk=>hq e' a' fr' (hd'.trans (Y9 a o.dst v)) hk
   ·exact h.elim
theorem bo1 {ops:Array Oper} {d:Option Nat} (h:bN1 N ops.toList=some d) : ∃o ty,ops[0]? = some o/\o.dst=d/\o.guard=none/\o.op = .call { callee := .builtin .recover,args:=⟨[]⟩,argTypes:=ty }/\aF2 N d=true/\List.range ops.size=0::(List.range ops.size).drop 1:=by
 unfold bN1 at h
 split at h
 ·rename_i d' ty _ _ _ r hl
  split at h
  ·rename_i hd
   cases h
   have hh:=D9 (fun l:List Oper=>l[0]?) hl
   simp only[List.getElem?_cons_zero]at hh
   have h0:=hh
   rw[Array.getElem?_toList]at h0
   refine⟨_,ty,h0,rfl,rfl,rfl,hd,?_⟩
   ·have hs : ops.size = r.length + 1 := by
     have:=D9 List.length hl
     simpa using this
    rw[hs,List.range_succ_eq_map];rfl
  ·cases h
 ·cases h
theorem aA0 (hm:P.follows .mixedOrders=true) {f:FuncId} {fn:Func} (hf:P.funcs[f]? = some fn) {an:Ann} {args:List Value} {m:Md} {K:Md->H->Prop} {σ:H} (h:cb9 P τ fn an args m (K .ret) (fun _ _=>False) σ):ar9 P f args m K σ:=by
 unfold cb9 at h
 split at h
 ·rename_i id ops y ax b hc
  split at h
  ·rename_i d hle hrec
   have hle:=Nat.le_of_ble_eq_true hle
   obtain⟨o,ty,ho,o1,o2,o3,o4,o5⟩:=bo1 hrec
   intro w hw
   refine callsDIn_of_wpSIn hf hc trivial fun c₀ cs hc0 => ?_
   refine wpSIn_seq (wpSIn_region ?_)
   rw[o5]
   simp only[wpOpsSIn,ho]
   refine⟨fun _ _=>trivial,?_⟩
   have fr:=aY6 fn args hle
   have hwd:Region.wanted o (yielded ops (args.toArray++Array.replicate (fn.ntmps - args.toArray.size) undef))=true:=by simp[Region.wanted,o2]
   rw[d9 hwd]
   have hrun : ∀ (ρ:Operand->Value),(execOp ρ o).run P w = .ok .recover w:=by
    intro ρ
    obtain⟨dst,op,type,pos,after,guard⟩:=o
    simp only at o3;subst o3
    simp[execOp,resolve,invoke,builtin]
   rw[hrun]
   have hcs:(match recoverD (c₀::cs) with
    | some (v,cs')=>v=m.rv/\cs'={ c₀ with mode:=au2 m }::cs
    | none=>m.rv = .nilIface/\(c₀::cs:List Frame)={ c₀ with mode:=au2 m }::cs):=by
    cases m with
    | ret =>
     have:c₀.mode = .returning:=hc0
     simp only[recoverD,this]
     refine⟨rfl,?_⟩
     show c₀::cs={ c₀ with mode := .returning }::cs
     rw[<-this]
    | pan v =>
     have:c₀.mode = .panicking [{ v,recovered:=false }]:=hc0
     simp only[recoverD,this]
     exact⟨rfl,rfl⟩
   have hset:settle (au2 m)=Md.ret.mode:=by cases m<;>rfl
   have go:wpOpsSIn Fence.wide 0 P ops (Exit.thenS (y.wpSIn Fence.wide 0 P (bodyPostS P fn c₀ cs fun e u' w' => ∃m' σ',I0 σ w σ' w'/\K m' σ' /\ ∃v,e = .returned v/\settle u'=m'.mode)) (bodyPostS P fn c₀ cs fun e u' w' => ∃m' σ',I0 σ w σ' w'/\K m' σ' /\ ∃v,e = .returned v/\settle u'=m'.mode)) ((List.range ops.size).drop 1)
    (Act.put { tmps:=args.toArray++Array.replicate (fn.ntmps - args.toArray.size) undef,defers:=[] } o.dst m.rv) ({ c₀ with mode:=au2 m }::cs) w:=by
    rw[o1]
    refine bC3 (N:=fn.ntmps) _ (fr.put o4 m.rv) h fun e' a' fr' hd' hk => ?_
    have hd0:a'.defers=[]:=hd'.trans (Y9 _ d m.rv)
    refine wpSIn_of_wpIn rfl ?_
    refine wpIn_mono (aL9 hm y b hk a' w fr' hw) fun ex a2 w2 hp => ?_
    rw[hd0]at hp
    have fin : ∀e σ',FR fn.ntmps e a2->I0 σ w σ' w2->a2.defers=[]->aK8 P τ fn.results.toList (fun _=>K .ret) e σ'->bodyPostS P fn c₀ cs (fun e u' w' => ∃m' σ',I0 σ w σ' w'/\K m' σ' /\ ∃v,e = .returned v/\settle u'=m'.mode) .normal a2 ({ c₀ with mode:=au2 m }::cs) w2:=by
     intro e σ' fr2 he hd2 hres
     obtain⟨v,hv,hk2⟩:=an7 fr2 he.le hres
     exact⟨hd2,au2 m,rfl,v,hv,.ret,σ',he,hk2,v,rfl,hset⟩
    cases ex with
    | normal=>obtain⟨e,σ',fr2,he,hd2,hres⟩:=hp;exact fin e σ' fr2 he hd2 hres
    | ret=>obtain⟨e,σ',fr2,he,hd2,hres⟩:=hp;exact fin e σ' fr2 he hd2 hres
    | exit i=>obtain⟨_,_,_,_,_,hres⟩:=hp;exact hres.elim
    | goto l=>exact hp.elim
    | panic c=>obtain⟨_,_,_,_,_,_,_,hx⟩:=hp;exact hx.elim
    | outgrown=>exact hp.elim
   split at hcs
   ·rename_i v cs' hrv
    obtain⟨rfl,rfl⟩:=hcs
    simp only[hrv]
    exact go
   ·rename_i hrv
    obtain⟨h1,h2⟩:=hcs
    simp only[hrv]
    rw[h1]at go
    rw[h2]
    exact go
  ·exact h.elim
 ·exact h.elim
end
end Go.HL

namespace Go.HL
open Go
section
variable {P : Program} {σ : H} {X : Value -> H -> Prop} {pan : List Nat} {t : TK} {F : t.Fn (H -> Prop)}
theorem as2 {s:Sem Value} {v:Value} (h:∀w,s.run P w = .ok v w) (hF:app t F v σ):M7 P s t F σ:=by
 intro w hw
 simp only[ae0,Sem.run_bind,h w,Result.andThen_ok,Sem.run_pure]
 exact⟨_,I0.refl hw,hF⟩
theorem au3 {f:FuncId} {args:List Value} (h:ac5 P f args (app t F) X σ):ao7 P f args t F X σ:=h
theorem au4 {g:FuncId} {as0 cs vs:List Value} (hp:aG2 g pan=true) (hg:I3 P g=true) (h:ac5 P g (as0++vs++cs) (app t F) X σ):af5 P pan (.func (.func g) ⟨as0⟩ ⟨cs⟩) vs t F X σ:=by
 unfold af5 aL8
 simp only[hp,hg];exact h
theorem bN2 {g:FuncId} {as0 cs vs:List Value} (hp:aG2 g pan=false) (hg:I3 P g=true) (h:A4 P g (as0++vs++cs) (app t F) σ):af5 P pan (.func (.func g) ⟨as0⟩ ⟨cs⟩) vs t F X σ:=by
 unfold af5 aL8
 simp only[hp]
 unfold u7
 simp only[hg];exact h
end
end Go.HL

namespace Go.Wk
open Go Go.HL
def U2 (nd:I7->Option (Tr×I7)):Nat->I7->Option (List Tr×I7)
 | 0,r=>some ([],r)
 | k+1,r=>match nd r.text.2 with
  | none=>none
  | some (t,r2)=>match U2 nd k r2 with
   | none=>none
   | some (l,r3)=>some (t.named ⟨⟨r.text.1⟩⟩::l,r3)
def Z8 (r:I7):Option (Tr×I7):=if r.num.1>1 then none else if r.num.2.text.2.lost then none else some (.mk ⟨⟨[]⟩⟩ 1 (r.num.1==1) ⟨⟨r.num.2.text.1⟩⟩ [],r.num.2.text.2)
def ab6 (r:I7):Option (Tr×I7):=if r.text.2.lost then none else some (.mk ⟨⟨[]⟩⟩ 3 false ⟨⟨r.text.1⟩⟩ [],r.text.2)
def al2 (nd:I7->Option (Tr×I7)) (r:I7):Option (Tr×I7):=if r.num.1>2000 then none else match U2 nd r.num.1.toNat r.num.2 with
 | none=>none
 | some (l,r2)=>if r2.lost then none else some (.mk ⟨⟨[]⟩⟩ 2 false ⟨⟨[]⟩⟩ l,r2)
def L9:Nat->I7->Option (Tr×I7)
 | 0,r=>if r.num.1==1 then Z8 r.num.2 else if r.num.1==3 then ab6 r.num.2 else none
 | f+1,r=>if r.num.1==1 then Z8 r.num.2 else if r.num.1==3 then ab6 r.num.2 else if r.num.1==2 then al2 (L9 f) r.num.2 else none
def ab7 (s:List UInt8):Option Tr :=
 let r0:I7:=⟨s,false⟩
 if r0.text.1=J8 then match L9 13 r0.text.2 with
  | none=>none
  | some (t,r)=>if !r.lost&&r.left.isEmpty&&((D1 t).2==0&&(D1 t).1==s)then some t else none
 else none
theorem aA1 (r:I7) (k:Nat):(r.take k).2.left.length<=r.left.length:=by
 unfold I7.take;split<;>simp
theorem B5 (r:I7):r.num.2.left.length<=r.left.length:=aA1 r _
theorem P2 (r:I7):r.text.2.left.length<=r.left.length:=by
 unfold I7.text;split
 ·exact B5 r
 ·exact F5 (aA1 _ _) (B5 r)
theorem aM0 (nd:I7->Option (Tr×I7)) (h:∀r t r',nd r=some (t,r')->r'.left.length<=r.left.length) : ∀ (k:Nat) (r:I7) (l:List Tr) (r':I7),U2 nd k r=some (l,r')->r'.left.length<=r.left.length:=by
 intro k
 induction k with
 | zero=>intro r l r' h;cases h;exact A6 _
 | succ k ih =>
  intro r l r' hk
  unfold U2 at hk
  split at hk
  ·cases hk
  ·rename_i t r2 h1
   split at hk
   ·cases hk
   ·rename_i l' r3 h2
    cases hk
    exact F5 (ih r2 l' r' h2) (F5 (h _ _ _ h1) (P2 r))
theorem bo2 : ∀ (f:Nat) (r:I7) (t:Tr) (r':I7),L9 f r=some (t,r')->r'.left.length<=r.left.length:=by
 have hf : ∀ (r:I7) (t:Tr) (r':I7),Z8 r=some (t,r')->r'.left.length<=r.left.length:=by
  intro r t r' h
  unfold Z8 at h
  split at h
  ·cases h
  ·split at h
   ·cases h
   ·cases h;exact F5 (P2 _) (B5 r)
 have hl : ∀ (r:I7) (t:Tr) (r':I7),ab6 r=some (t,r')->r'.left.length<=r.left.length:=by
  intro r t r' h
  unfold ab6 at h
  split at h
  ·cases h
  ·cases h;exact P2 r
 intro f
 induction f with
 | zero =>
  intro r t r' h
  unfold L9 at h
  split at h
  ·exact F5 (hf _ _ _ h) (B5 r)
  ·split at h
   ·exact F5 (hl _ _ _ h) (B5 r)
   ·cases h
 | succ f ih =>
  intro r t r' h
  unfold L9 at h
  split at h
  ·exact F5 (hf _ _ _ h) (B5 r)
  ·split at h
   ·exact F5 (hl _ _ _ h) (B5 r)
   ·split at h
    ·unfold al2 at h
     split at h
     ·cases h
     ·split at h
      ·cases h
      ·rename_i l r2 hk
       split at h
       ·cases h
       ·cases h
        exact F5 (aM0 _ ih _ _ _ _ hk) (F5 (B5 _) (B5 r))
    ·cases h
theorem bf0 (r:I7) (k:Nat):(r.take k).1.length+(r.take k).2.left.length<=r.left.length:=by
 unfold I7.take;split
 ·simp
 ·simp;omega
theorem ae5 (r:I7):r.text.1.length+r.text.2.left.length<=r.left.length:=by
 unfold I7.text;split
 ·have:=B5 r;simpa using this
 ·have:=B5 r;have:=bf0 r.num.2 (min r.num.1.toNat (r.num.2.left.length+1));omega
theorem aM1 (r:I7) (h:r.num.1≠0):r.num.2.left.length+1<=r.left.length:=by
 unfold I7.num I7.take at h ⊢
 split
 ·rename_i hc;rw[d9 hc]at h;exact u9 rfl h
 ·rename_i hc;simp only[not_or]at hc
  show(r.left.drop _).length+1<=_
  rw[M1];omega
theorem bf1 (t:Tr) (n:ByteArray):(t.named n).total+t.name.size=t.total+n.size:=by
 obtain⟨a,b,c,d,e⟩:=t
 simp only[Tr.named,Tr.total,Tr.name];omega
theorem aM2 (t:Tr) (n:ByteArray):(t.named n).kids=t.kids:=by obtain⟨a,b,c,d,e⟩:=t;rfl
theorem aG4 (nd:I7->Option (Tr×I7)) (h:∀r t r',nd r=some (t,r')->t.total+r'.left.length<=r.left.length) : ∀ (k:Nat) (r:I7) (l:List Tr) (r':I7),U2 nd k r=some (l,r')->Tr.totalRow l+r'.left.length<=r.left.length:=by
 intro k
 induction k with
 | zero=>intro r l r' h;cases h;simp[Tr.totalRow]
 | succ k ih =>
  intro r l r' hk
  unfold U2 at hk
  split at hk
  ·cases hk
  ·rename_i t r2 h1
   split at hk
   ·cases hk
   ·rename_i l' r3 h2
    cases hk
    have a1:=ih r2 l' r' h2
    have a2:=h _ _ _ h1
    have a3:=ae5 r
    have a4:=bf1 t ⟨⟨r.text.1⟩⟩
    have a5:(⟨⟨r.text.1⟩⟩:ByteArray).size=r.text.1.length:=rfl
    simp only[Tr.totalRow];omega
theorem aG5 : ∀ (f:Nat) (r:I7) (t:Tr) (r':I7),L9 f r=some (t,r')->t.total+r'.left.length<=r.left.length:=by
 have hf : ∀ (r:I7) (t:Tr) (r':I7),Z8 r=some (t,r')->t.total+r'.left.length<=r.left.length+1:=by
  intro r t r' h
  unfold Z8 at h
  split at h
  ·cases h
  ·split at h
   ·cases h
   ·cases h
    have a1:=ae5 r.num.2
    have a2:=B5 r
    have a5:(⟨⟨r.num.2.text.1⟩⟩:ByteArray).size=r.num.2.text.1.length:=rfl
    have a6:(⟨⟨[]⟩⟩:ByteArray).size=0:=rfl
    simp only[Tr.total,Tr.totalRow];omega
 have hl : ∀ (r:I7) (t:Tr) (r':I7),ab6 r=some (t,r')->t.total+r'.left.length<=r.left.length+1:=by
  intro r t r' h
  unfold ab6 at h
  split at h
  ·cases h
  ·cases h
   have a1:=ae5 r
   have a5:(⟨⟨r.text.1⟩⟩:ByteArray).size=r.text.1.length:=rfl
   have a6:(⟨⟨[]⟩⟩:ByteArray).size=0:=rfl
   simp only[Tr.total,Tr.totalRow];omega
 have nz : ∀ (r:I7) (k:Int),k≠0->(r.num.1==k)=true->r.num.2.left.length+1<=r.left.length:=by
  intro r k hk h
  exact aM1 r (by have:=eq_of_beq h;omega)
 intro f
 induction f with
 | zero =>
  intro r t r' h
  unfold L9 at h
  split at h
  ·rename_i h1;have:=hf _ _ _ h;have:=nz r 1 (by decide) h1;omega
  ·split at h
   ·rename_i h1;have:=hl _ _ _ h;have:=nz r 3 (by decide) h1;omega
   ·cases h
 | succ f ih =>
  intro r t r' h
  unfold L9 at h
  split at h
  ·rename_i h1;have:=hf _ _ _ h;have:=nz r 1 (by decide) h1;omega
  ·split at h
   ·rename_i h1;have:=hl _ _ _ h;have:=nz r 3 (by decide) h1;omega
   ·split at h
    ·rename_i h1
     have h0:=nz r 2 (by decide) h1
     unfold al2 at h
     split at h
     ·cases h
     ·split at h
      ·cases h
      ·rename_i l r2 hk
       split at h
       ·cases h
       ·cases h
        have a1:=aG4 _ ih _ _ _ _ hk
        have a2:=B5 r.num.2
        have a6:(⟨⟨[]⟩⟩:ByteArray).size=0:=rfl
        simp only[Tr.total];omega
    ·cases h
def T9 (s:List UInt8):Tr×Int:=match ab7 s with
 | some t=>(t,0)
 | none=>(.mk ⟨⟨[]⟩⟩ 0 false ⟨⟨[]⟩⟩ [],4)
end Go.Wk

namespace Go.Wk
open Go Go.HL
structure B4 where (path:ByteArray) (refs:List ByteArray) (nar drv:ByteArray)
structure H9 where (paths:List B4) (roots:List ByteArray)
def E5:List ByteArray->Bool
 | a::b::r=>E4 a b&&E5 (b::r)
 | _=>true
def C6 (s:ByteArray):Bool:=(I9 s.data.toList).2.2==0
def H9.is (S:H9) (s:ByteArray):Bool:=S.paths.any fun p=>p.path==s
def aq0 (p:B4):Bool:=C6 p.path&&(E5 p.refs && !(p.refs.any fun s => !C6 s))
def H9.formed (S:H9):Bool:=E5 (S.paths.map (·.path)) && !(S.paths.any fun p => !aq0 p)
def H9.closed (S:H9):Bool := !(S.paths.any fun p => !!(p.refs.any fun r => !S.is r))
def H9.rooted (S:H9):Bool:=E5 S.roots && !(S.roots.any fun r => !S.is r)
def as3 (p:B4):Bool:=if(T9 p.nar.data.toList).2 != 0 then false else(D1 (T9 p.nar.data.toList).1).2==0&&(D1 (T9 p.nar.data.toList).1).1==p.nar.data.toList
def H9.whole (S:H9):Bool := !(S.paths.any fun p => !as3 p)
def U9 (nar name:List UInt8):List UInt8×Int :=
 if L3 name != 0 then([],L3 name)else if(T9 nar).2 != 0 then([],(T9 nar).2)else ak7 (ar8 ([97,100,100,58]++X0 nar++X0 name)) name
def aw0 (p:B4):List UInt8:=(U9 p.nar.data.toList (I9 p.path.data.toList).2.1).1
def aQ8 (own:B4->List UInt8) (p:B4):Bool:=if own p != []then own p==p.path.data.toList else false
def H9.named (own:B4->List UInt8) (S:H9):Bool := !(S.paths.any fun p => !aQ8 own p)
def H9.scanned (has:B4->ByteArray->Bool) (S:H9):Bool := !(S.paths.any fun p => !!(p.refs.any fun r => !has p r))
def H9.sound (has:B4->ByteArray->Bool) (own:B4->List UInt8) (S:H9):Int :=
 if !S.formed then 1 else if !S.closed then 2 else if !S.rooted then 3 else if !S.whole then 4 else if !S.scanned has then 5 else if !S.named own then 6 else 0
def ae6:List ByteArray->List ByteArray->Bool
 | [],[]=>true
 | a::r,b::q=>a==b&&ae6 r q
 | _,_=>false
def B4.same (a b:B4):Bool:=a.path==b.path&&(a.nar==b.nar&&(a.drv==b.drv&&ae6 a.refs b.refs))
def cm0:List B4->List B4->Bool
 | [],[]=>true
 | a::r,b::q=>a.same b&&cm0 r q
 | _,_=>false
def H9.same (a b:H9):Bool:=cm0 a.paths b.paths&&ae6 a.roots b.roots
def bC4 (name data:List UInt8):B4 :=
 let n:=D1 (.mk ⟨⟨[]⟩⟩ 1 false ⟨⟨data⟩⟩ [])
 let p:=U9 n.1 name
 if n.2 != 0||p.2 != 0 then⟨⟨⟨[]⟩⟩,[],⟨⟨[]⟩⟩,⟨⟨[]⟩⟩⟩else⟨⟨⟨p.1⟩⟩,[],⟨⟨n.1⟩⟩,⟨⟨[]⟩⟩⟩
theorem aT9 : ∀ {a b:List ByteArray},a.length≠b.length->ae6 a b=false:=by
 intro a
 induction a with
 | nil=>intro b h;cases b with | nil=>exact u9 rfl h | cons x r=>rfl
 | cons x r ih =>
  intro b h
  cases b with
  | nil=>rfl
  | cons y q=>simp only[ae6];rw[ih (by simpa using h),Bool.and_false]
theorem ac6 {α:Type} {l:List α} {i:Nat} {d:α} (h:l[i]? = some d):l.drop i=d::l.drop (i+1):=by
 obtain⟨h1,h2⟩:=List.getElem?_eq_some_iff.1 h
 rw[<-h2];exact(List.getElem_cons_drop ..).symm
def ax8 (n:Int) (s:ByteArray):ByteArray:=s.extract 0 ((if n<((s.size:Nat):Int)then n else((s.size:Nat):Int)).toNat)
def ab8 (l:List ByteArray):List ByteArray:=(l.take 8).map (ax8 60)
def aH9 (p:B4):B4:=⟨ax8 60 p.path,ab8 p.refs,ax8 2000 p.nar,ax8 2000 p.drv⟩
def H9.cut (S:H9):H9:=⟨(S.paths.take 8).map aH9,ab8 S.roots⟩
theorem al3 {n:Int} (h:0<=n) (s:ByteArray):(ax8 n s).size<=n.toNat:=by
 unfold ax8
 rw[ByteArray.size_extract]
 split<;>omega
theorem aM3 (l:List ByteArray):(ab8 l).length<=8:=by unfold ab8;simp;omega
theorem aG6 {l:List ByteArray} {s:ByteArray} (h:s∈ab8 l):s.size<=60:=by
 unfold ab8 at h
 obtain⟨t,_,rfl⟩:=O5.1 h
 exact al3 (by decide) t
end Go.Wk

namespace Go.Wk
open Go Go.HL
theorem cc0 (hv b:Int):(inP hv b).2.length<=2:=by
 unfold inP
 split
 ·split<;>simp
 ·simp
theorem aY7 : ∀ (l:List UInt8) (hv b:Int),(L7 l hv b).length<=2 * l.length:=by
 intro l
 induction l with
 | nil=>intro hv b;simp[L7]
 | cons c r ih =>
  intro hv b
  simp only[L7,s8,y5]
  have h1:=cc0 (orH hv c) (b+8)
  have h2:=ih (bB5 (orH hv c) (inP (orH hv c) (b+8)).1) (inP (orH hv c) (b+8)).1
  omega
theorem au5 (l:List UInt8):(ar8 l).length<=40:=by
 have h:=aY7 ((W9 l).take 20) 0 0
 have h2:((W9 l).take 20).length<=20:=by rw[F0];omega
 unfold ar8;omega
end Go.Wk

namespace Go.Wk
open Go Go.HL
def dfs (S:H9):Nat->ByteArray->List ByteArray->List ByteArray
 | 0,_,L=>L
 | f+1,s,L=>if !S.is s||L.contains s then L else S.paths.foldl (fun L p=>if p.path==s then p.refs.foldl (fun L r=>dfs S f r L) L else L) (L++[s])
def H9.reach (S:H9):List ByteArray:=S.roots.foldl (fun L r=>dfs S S.paths.length r L) []
def cnt (S:H9) (L:List ByteArray):Nat:=(S.paths.filter fun p => !L.contains p.path).length
theorem bf2 {S:H9} {L M:List ByteArray} (h:∀s∈L,s∈M):cnt S M<=cnt S L:=by
 unfold cnt
 rw[<-List.countP_eq_length_filter,<- List.countP_eq_length_filter]
 refine List.countP_mono_left fun p _ hp => ?_
 simp only[Bool.not_eq_true',List.contains_eq_mem,C2]at hp ⊢
 exact fun hm=>hp (h _ hm)
theorem aD1 {S:H9} {L:List ByteArray} {s:ByteArray} (h:S.is s=true) (hs:L.contains s=false):cnt S (L++[s])+1<=cnt S L:=by
 unfold cnt
 unfold H9.is at h
 generalize S.paths=ps at *
 induction ps with
 | nil=>simp at h
 | cons p r ih =>
  have hmono:((r.filter fun p => !(L++[s]).contains p.path).length)<=(r.filter fun p => !L.contains p.path).length:=by
   rw[<-List.countP_eq_length_filter,<- List.countP_eq_length_filter]
   refine List.countP_mono_left fun p _ hp => ?_
   simp only[Bool.not_eq_true',List.contains_eq_mem,C2,N0,not_or]at hp ⊢
   exact hp.1
  by_cases hp:p.path=s
  ·subst hp
   have e1:(!(L++[p.path]).contains p.path)=false:=by simp
   have e2:(!L.contains p.path)=true:=by rw[hs];rfl
   rw[List.filter_cons,List.filter_cons,e1,e2]
   simp only[F4,if_false,if_true,y5]
   omega
  ·have h' : (r.any fun p => p.path == s) = true := by
    simp only[List.any_cons,Bool.or_eq_true,beq_iff_eq]at h
    rcases h with h | h
    ·exact u9 h hp
    ·exact h
   have:=ih h'
   have e:((L++[s]).contains p.path)=L.contains p.path:=by simp[hp]
   rw[List.filter_cons,List.filter_cons,e]
   split
   ·simp only[y5];omega
   ·exact this
theorem al4 {α:Type} (g:List ByteArray->α->List ByteArray) (h:∀L a,∀s∈L,s∈g L a) : ∀ (l:List α) (L:List ByteArray),∀s∈L,s∈l.foldl g L:=by
 intro l
 induction l with
 | nil=>intro L s hs;exact hs
 | cons a r ih=>intro L s hs;exact ih _ s (h L a s hs)
theorem aY8 (S:H9) : ∀ (f:Nat) (x:ByteArray) (L:List ByteArray),∀s∈L,s∈dfs S f x L:=by
 intro f
 induction f with
 | zero=>intro x L s hs;exact hs
 | succ f ih =>
  intro x L s hs
  unfold dfs
  split
  ·exact hs
  ·refine al4 _ (fun L p s hs => ?_) _ _ s (List.mem_append_left _ hs)
   split
   ·exact al4 _ (fun L r s hs=>ih r L s hs) _ _ s hs
   ·exact hs
def ent (L:List ByteArray):List (ByteArray×Int):=L.map fun s=>(s,1)
theorem bN3 (s:ByteArray) : ∀L:List ByteArray,lk s (ent L)=if L.contains s then some 1 else none:=by
 intro L
 induction L with
 | nil=>rfl
 | cons a r ih =>
  simp only[ent,H5,lk,List.contains_cons]
  unfold ent at ih
  rw[ih]
  cases h:s==a with
  | true=>simp
  | false=>simp
theorem cp8 {s:ByteArray} : ∀ {L:List ByteArray},L.contains s=false->up s 1 (ent L)=ent (L++[s]):=by
 intro L
 induction L with
 | nil=>intro _;rfl
 | cons a r ih =>
  intro h
  simp only[List.contains_cons,Bool.or_eq_false_iff]at h
  simp only[ent,H5,up,h.1,P5]
  have:=ih h.2
  unfold ent at this
  rw[this]
theorem aU0 (L:List ByteArray):ab1 (ent L)=L:=by
 unfold ab1 ent
 rw[List.map_map]
 exact List.map_id _
theorem Z9 {α:Type} {I:List ByteArray->Prop} (g:List ByteArray->α->List ByteArray) (h:∀L a,I L->I (g L a)) : ∀ (l:List α) (L:List ByteArray),I L->I (l.foldl g L):=by
 intro l
 induction l with
 | nil=>intro L h;exact h
 | cons a r ih=>intro L hL;exact ih _ (h L a hL)
def ag4 (S:H9) (L:List ByteArray):Prop:=(∀u∈L,S.is u=true)/\L.Nodup/\L.length+cnt S L<=S.paths.length
theorem cp9 (S:H9) : ∀ (f:Nat) (x:ByteArray) (L:List ByteArray),ag4 S L->ag4 S (dfs S f x L):=by
 intro f
 induction f with
 | zero=>intro x L h;exact h
 | succ f ih =>
  intro x L h
  unfold dfs
  split
  ·exact h
  ·rename_i hc
   have hc:(!S.is x||L.contains x)=false:=by simpa using hc
   simp only[Bool.or_eq_false_iff,Bool.not_eq_false']at hc
   obtain⟨h1,h2⟩:=hc
   have h2':x∉L:=by simpa using h2
   refine Z9 (I:=ag4 S) _ (fun L p h => ?_) _ _ ?_
   ·split
    ·exact Z9 (I:=ag4 S) _ (fun L r h=>ih r L h) _ _ h
    ·exact h
   ·obtain⟨a,b,c⟩:=h
    have:=aD1 h1 h2
    refine⟨fun u hu => ?_,?_,?_⟩
    ·rcases N0.1 hu with hu | hu
     ·exact a u hu
     ·simp at hu;subst hu;exact h1
    ·rw[List.nodup_append]
     exact⟨b,by simp,fun u hu v hv=>by simp at hv;subst hv;intro e;subst e;exact h2' hu⟩
    ·rw[s8,aa5];omega
theorem aA2 (S:H9):ag4 S S.reach:=by
 unfold H9.reach
 refine Z9 (I:=ag4 S) _ (fun L r h=>cp9 S _ r L h) _ _ ⟨fun u hu=>(by cases hu),List.nodup_nil,?_⟩
 unfold cnt
 have:=List.length_filter_le (fun p:B4 => !([]:List ByteArray).contains p.path) S.paths
 simpa using this
end Go.Wk

set_option maxRecDepth 1000000
namespace Go.Wk
open Go Go.HL
def aY9:List UInt8:=[10,119,104,105,115,107,45,116,114,101,101,1,0,1,49]
def aQ9:List UInt8:=[10,119,104,105,115,107,45,116,114,101,101,1,0,1,50]
def T1:List UInt8:=[100,104,120,107,120,50,97,49,49,109,105,109,109,55,100,120,52,98,48,109,97,100,104,105,105,105,53,55,52,108,114,121,45,120]
def cm1:List UInt8:=[98,113,99,53,115,55,98,50,113,119,55,108,109,49,109,122,49,104,50,98,98,55,99,109,51,48,112,118,105,102,121,104,45,120]
theorem cc1:D1 (.mk ⟨⟨[]⟩⟩ 1 false ⟨⟨[49]⟩⟩ [])=(aY9,0):=by decide +kernel
theorem cc2:D1 (.mk ⟨⟨[]⟩⟩ 1 false ⟨⟨[50]⟩⟩ [])=(aQ9,0):=by decide +kernel
theorem bf3:U9 aY9 [120]=(T1,0):=by decide +kernel
theorem bf4:U9 aQ9 [120]=(cm1,0):=by decide +kernel
theorem aD2:I9 T1=(T1.take 32,[120],0):=by decide +kernel
theorem bC5:((T9 aY9).2==0&&((D1 (T9 aY9).1).2==0&&(D1 (T9 aY9).1).1==aY9))=true:=by decide +kernel
theorem bC6:((T9 aQ9).2==0&&((D1 (T9 aQ9).1).2==0&&(D1 (T9 aQ9).1).1==aQ9))=true:=by decide +kernel
def P6:B4:=⟨⟨⟨T1⟩⟩,[],⟨⟨aY9⟩⟩,⟨⟨[]⟩⟩⟩
def T4:B4:=⟨⟨⟨T1⟩⟩,[],⟨⟨aQ9⟩⟩,⟨⟨[]⟩⟩⟩
theorem dj9:bC4 [120] [49]=P6:=by unfold bC4;simp only[cc1,bf3];rfl
theorem dk0:(bC4 [120] [50]).nar=⟨⟨aQ9⟩⟩:=by unfold bC4;simp only[cc2,bf4];rfl
def aG7 (_:B4) (_:ByteArray):Bool:=false
theorem ip1:C6 ⟨⟨T1⟩⟩=true:=by unfold C6;rw[show(⟨⟨T1⟩⟩:ByteArray).data.toList=T1 from rfl,aD2];rfl
theorem wh1:as3 P6=true:=by
 have:=bC5
 simp only[A8]at this
 unfold as3
 rw[show P6.nar.data.toList=aY9 from rfl,c0 (by simp;simpa using this.1)]
 simp only[A8];exact this.2
theorem wh2:as3 T4=true:=by
 have:=bC6
 simp only[A8]at this
 unfold as3
 rw[show T4.nar.data.toList=aQ9 from rfl,c0 (by simp;simpa using this.1)]
 simp only[A8];exact this.2
theorem cq0:aw0 P6=T1:=by
 unfold aw0
 rw[show P6.nar.data.toList=aY9 from rfl,show P6.path.data.toList=T1 from rfl,aD2,bf3]
theorem dk1:aw0 T4=cm1:=by
 unfold aw0
 rw[show T4.nar.data.toList=aQ9 from rfl,show T4.path.data.toList=T1 from rfl,aD2,bf4]
theorem cm2:aq0 P6=true:=by unfold aq0;rw[show P6.path=⟨⟨T1⟩⟩from rfl,ip1];rfl
theorem cB1:aq0 T4=true:=by unfold aq0;rw[show T4.path=⟨⟨T1⟩⟩from rfl,ip1];rfl
theorem cq1:(H9.mk [] []).sound aG7 aw0=0:=by rfl
theorem cc3 (p:B4) (l:List ByteArray):(H9.mk [p] l).is p.path=true:=by simp[H9.is]
theorem cq2:(H9.mk [P6] [⟨⟨T1⟩⟩]).sound aG7 aw0=0:=by
 have h1:(H9.mk [P6] [⟨⟨T1⟩⟩]).formed=true:=by simp[H9.formed,cm2,E5]
 have h2:(H9.mk [P6] [⟨⟨T1⟩⟩]).closed=true:=by simp[H9.closed,P6]
 have h3:(H9.mk [P6] [⟨⟨T1⟩⟩]).rooted=true:=by simp[H9.rooted,E5,H9.is,P6]
 have h4:(H9.mk [P6] [⟨⟨T1⟩⟩]).whole=true:=by simp[H9.whole,wh1]
 have h5:(H9.mk [P6] [⟨⟨T1⟩⟩]).scanned aG7=true:=by simp[H9.scanned,P6]
 have h6:(H9.mk [P6] [⟨⟨T1⟩⟩]).named aw0=true:=by
  simp only[H9.named,List.any_cons,List.any_nil,ad6,S6]
  unfold aQ8;rw[cq0];rfl
 unfold H9.sound;rw[h1,h2,h3,h4,h5,h6];rfl
theorem cq3:(H9.mk [T4] []).sound aG7 aw0=6:=by
 have h1:(H9.mk [T4] []).formed=true:=by simp[H9.formed,cB1,E5]
 have h2:(H9.mk [T4] []).closed=true:=by simp[H9.closed,T4]
 have h3:(H9.mk [T4] []).rooted=true:=by simp[H9.rooted,E5]
 have h4:(H9.mk [T4] []).whole=true:=by simp[H9.whole,wh2]
 have h5:(H9.mk [T4] []).scanned aG7=true:=by simp[H9.scanned,T4]
 have h6:(H9.mk [T4] []).named aw0=false:=by
  simp only[H9.named,List.any_cons,List.any_nil,ad6,S6]
  unfold aQ8;rw[dk1];decide +kernel
 unfold H9.sound;rw[h1,h2,h3,h4,h5,h6];rfl
theorem cq4:(H9.mk [P6] [⟨⟨[120]⟩⟩]).sound aG7 aw0=3:=by
 have h1:(H9.mk [P6] [⟨⟨[120]⟩⟩]).formed=true:=by simp[H9.formed,cm2,E5]
 have h2:(H9.mk [P6] [⟨⟨[120]⟩⟩]).closed=true:=by simp[H9.closed,P6]
 have h3:(H9.mk [P6] [⟨⟨[120]⟩⟩]).rooted=false:=by
  have:(P6.path==(⟨⟨[120]⟩⟩:ByteArray))=false:=by
   rw[M9]
   intro e
   have:=D9 (fun b:ByteArray=>b.data.toList.length) e
   exact u9 this (by decide)
  simp[H9.rooted,E5,H9.is,this]
 unfold H9.sound;rw[h1,h2,h3];rfl
theorem cc4 : ∀l:List UInt8,Op.bytesLess l l=false:=by
 intro l
 induction l with
 | nil=>rfl
 | cons a r ih=>simp[Op.bytesLess,ih]
theorem bo3 (s:ByteArray):E4 s s=false:=cc4 _
theorem cc5:(H9.mk [P6,P6] []).sound aG7 aw0=1:=by
 have h1:(H9.mk [P6,P6] []).formed=false:=by simp[H9.formed,E5,bo3]
 unfold H9.sound;rw[h1];rfl
theorem cq5:(H9.mk [P6] [⟨⟨T1⟩⟩]).reach=[⟨⟨T1⟩⟩]:=by
 have h:(H9.mk [P6] [⟨⟨T1⟩⟩]).is ⟨⟨T1⟩⟩=true:=cc3 P6 _
 simp only[H9.reach,Q0,List.foldl_nil,y5,H3,dfs,h]
 rfl
end Go.Wk

set_option maxRecDepth 1000000
namespace Go.Wk
open Go Go.HL
end Go.Wk

namespace Go.Wk
open Go Go.HL
def af9 (c:UInt8):Bool:=c==95||(decide (97<=c.toNat)&&decide (c.toNat<=122))||(decide (65<=c.toNat)&&decide (c.toNat<=90))
def as4 (c:UInt8):Bool:=decide (48<=c.toNat)&&decide (c.toNat<=57)
def aj5:List UInt8->Bool
 | []=>true
 | c::r=>(af9 c||as4 c)&&aj5 r
def X8 (l:List UInt8):Bool:=(match l with
 | []=>true
 | c::r=>af9 c&&aj5 r)&&(!l.isEmpty&&(decide (l.length<=56)&&(!(l==[111,117,116]) && !(l==[110,97,109,101]))))
def aq4:List UInt8:=[48,49,50,51,52,53,54,55,56,57,97,98,99,100,101,102]
def aR0 (c:UInt8):List UInt8:=[aq4.getD (c.toNat / 16) 0,aq4.getD (c.toNat % 16) 0]
def aw1 (l:List UInt8):List UInt8:=if l.isEmpty then [45]else l.flatMap aR0
def ac7 (c:UInt8):Option Nat:=if 48<=c.toNat/\c.toNat<=57 then some (c.toNat - 48)else if 97<=c.toNat/\c.toNat<=102 then some (c.toNat - 87)else none
def ae7:List UInt8->Option (List UInt8)
 | []=>some []
 | [_]=>none
 | a::b::r=>match ac7 a,ac7 b,ae7 r with
  | some x,some y,some l=>some (UInt8.ofNat (16 * x+y)::l)
  | _,_,_=>none
def X4 (l:List UInt8):Option (List UInt8):=if l==[45]then some []else if l.isEmpty then none else ae7 l
structure DvP where (name:ByteArray) (inputs:List ByteArray) (env:List (ByteArray×ByteArray)) (script:ByteArray)
def DvP.z:DvP:=⟨⟨⟨[]⟩⟩,[],[],⟨⟨[]⟩⟩⟩
def ac8:ByteArray:=⟨⟨[100,114,118]⟩⟩
def inB:ByteArray:=⟨⟨[105,110]⟩⟩
def af6:ByteArray:=⟨⟨[101,110,118]⟩⟩
def aj6:ByteArray:=⟨⟨[114,117,110]⟩⟩
def T5 (l:List ByteArray) (s:ByteArray):Bool:=match l.getLast? with
 | none=>true
 | some a=>E4 a s
def Q8 (c:Nat) (d:DvP) (w:List ByteArray):Option (DvP×Nat) :=
 let w0:=w.getD 0 ⟨⟨[]⟩⟩
 let w1:=w.getD 1 ⟨⟨[]⟩⟩
 if w0=ac8 then(if c=0/\w.length=2/\L3 w1.data.toList=0 then some ({ d with name:=w1 },1)else none)
 else if w0=inB then(if(c=1\/c=2)/\w.length=2/\C6 w1=true/\T5 d.inputs w1=true/\d.inputs.length<8 then some ({ d with inputs:=d.inputs++[w1] },2)else none)
 else if w0=af6 then(if(c=1\/c=2\/c=3)/\w.length=3/\X8 w1.data.toList=true/\T5 (d.env.map (·.1)) w1=true/\d.env.length<16 then
  (match X4 (w.getD 2 ⟨⟨[]⟩⟩).data.toList with
   | some v=>if v.length<=200 then some ({ d with env:=d.env++[(w1,⟨⟨v⟩⟩)] },3)else none
   | none=>none)else none)
 else if w0=aj6 then(if(c=1\/c=2\/c=3)/\w.length=1 then some (d,4)else none)
 else none
def ac9 (c:UInt8):List UInt8->List UInt8×Option (List UInt8)
 | []=>([],none)
 | x::r=>if x=c then([],some r)else(x::(ac9 c r).1,(ac9 c r).2)
def aM4:Nat->Nat->DvP->List UInt8->Option DvP
 | 0,_,_,_=>none
 | f+1,c,d,s=>match Q8 c d (J3 32 ⟨⟨(ac9 10 s).1⟩⟩) with
  | none=>none
  | some (d',c')=>match (ac9 10 s).2 with
   | none=>none
   | some r=>if c'=4 then(if r.length<=4000 then some { d' with script:=⟨⟨r⟩⟩ }else none)else aM4 f c' d' r
def ad0 (s:List UInt8):Option DvP:=aM4 (s.length+1) 0 DvP.z s
def DvP.may (d:DvP):Bool:=L3 d.name.data.toList==0&&(decide (d.inputs.length<=8)&&decide (d.env.length<=16)&&(!(d.inputs.any fun p => !C6 p)&&(E5 d.inputs&&E5 (d.env.map (·.1)) &&
 (!(d.env.any fun v => !X8 v.1.data.toList||decide (200<v.2.size))&&decide (d.script.size<=4000)))))
def DvP.text (d:DvP):List UInt8 :=
 [100,114,118,32]++d.name.data.toList++[10]++(d.inputs.flatMap fun p=>[105,110,32]++p.data.toList++[10]) ++
 (d.env.flatMap fun v=>[101,110,118,32]++v.1.data.toList++[32]++aw1 v.2.data.toList++[10])++[114,117,110,10]++d.script.data.toList
def DvP.path (d:DvP):List UInt8×Int:=if d.may then ak7 (ar8 ([100,114,118,58]++d.text)) d.name.data.toList else([],2)
def ax9 (p:B4):List UInt8:=if p.drv.data.toList=[]then aw0 p else match ad0 p.drv.data.toList with
 | none=>[]
 | some d=>d.path.1
end Go.Wk

set_option maxRecDepth 100000
namespace Go.Wk
open Go Go.HL
section
variable (A:AT) (cwd:ByteArray) {s t : ByteArray} {x y : Int}
end
end Go.Wk

set_option maxRecDepth 100000
namespace Go.Wk
open Go Go.HL
def cq6 (σ:H) (g:Nat) (k:IntKind) (zs:List Int):Prop := ∃t fz,σ g=some (.cells ⟨zs.map fun z=>Value.int k z⟩ t fz)
theorem cq6.gr {σ σ':H} {g:Nat} {k:IntKind} {zs:List Int} (h:cq6 σ g k zs) (hg:Gr σ σ'):cq6 σ' g k zs:=by
 obtain⟨t,fz,h⟩:=h;exact⟨t,fz,hg.get h⟩
end Go.Wk

namespace Go.Wk
open Go Go.HL
def dvP (c:UInt8):Nat:=(ac7 c).getD 0
def unh:List UInt8->List UInt8
 | a::b::r=>UInt8.ofNat (16 * dvP a+dvP b)::unh r
 | _=>[]
def ad1 (l:List UInt8):Bool:=l.all fun c=>(ac7 c).isSome
theorem bf5 : ∀l:List UInt8,ae7 l=if l.length % 2=0/\ad1 l=true then some (unh l)else none
 | []=>rfl
 | [_]=>by rw[ae7,c0 (by simp)]
 | a::b::r=>by
  rw[ae7,bf5 r]
  have hl:(a::b::r).length % 2=r.length % 2:=by simp only[y5];omega
  have hh:ad1 (a::b::r)=((ac7 a).isSome&&((ac7 b).isSome&&ad1 r)):=rfl
  rw[hl,hh]
  cases ha:ac7 a with
  | none=>simp
  | some x =>
   cases hb:ac7 b with
   | none=>simp
   | some y =>
    by_cases hr:r.length % 2=0/\ad1 r=true
    ·rw[d9 hr,d9 (by simpa using hr),unh]
     unfold dvP;rw[ha,hb];rfl
    ·rw[c0 hr,c0 (by simpa using hr)]
theorem bv7 : ∀l:List UInt8,(unh l).length=l.length / 2
 | []=>rfl
 | [_]=>by simp[unh]
 | a::b::r=>by rw[unh,y5,bv7 r];simp only[y5];omega
theorem aU1 (l:List UInt8):X4 l=if l=[45]then some []else if l≠[]/\l.length % 2=0/\ad1 l=true then some (unh l)else none:=by
 unfold X4
 by_cases h:l=[45]
 ·rw[d9 (by simpa using h),d9 h]
 ·rw[c0 (by simpa using h),c0 h]
  by_cases h0:l=[]
  ·subst h0;rfl
  ·rw[c0 (by simpa using h0),bf5]
   by_cases h2:l.length % 2=0/\ad1 l=true
   ·rw[d9 h2,d9 ⟨h0,h2⟩]
   ·rw[c0 h2,c0 fun h=>h2 h.2]
theorem as5 : ∀ (l:List ByteArray) (a:ByteArray),E5 (l++[a])=(E5 l&&T5 l a)
 | [],a=>rfl
 | [b],a=>by simp[E5,T5]
 | b::c::r,a=>by
  have h:=as5 (c::r) a
  rw[P5,P5,E5,<- P5,h,E5,Bool.and_assoc]
  have:T5 (b::c::r) a=T5 (c::r) a:=by unfold T5;rw[List.getLast?_cons_cons]
  rw[this]
theorem aD4 (c:UInt8) : ∀l:List UInt8,c∉l->ac9 c l=(l,none)
 | [],_=>rfl
 | x::r,h=>by
  rw[A5,not_or]at h
  rw[ac9,c0 (fun e=>h.1 e.symm),aD4 c r h.2]
theorem aD5 (c:UInt8) (r:List UInt8) : ∀a:List UInt8,c∉a->ac9 c (a++c::r)=(a,some r)
 | [],_=>by rw[T8,ac9,d9 rfl]
 | x::a,h=>by
  rw[A5,not_or]at h
  rw[P5,ac9,c0 (fun e=>h.1 e.symm),aD5 c r a h.2]
def ag0 (c:Nat):ByteArray:=if c=0 then⟨⟨[]⟩⟩else if c=1 then ac8 else if c=2 then inB else if c=3 then af6 else aj6
structure DvJ (d:DvP):Prop where
 rise:E5 d.inputs=true
 nin:d.inputs.length<=8
 nen:d.env.length<=16
 name:d.name.size<=1000000
 inp : ∀s∈d.inputs,s.size<=1000000
 env : ∀v∈d.env,v.1.size<=1000000/\v.2.size<=1000000
 scr:d.script=⟨⟨[]⟩⟩
theorem DvJ.z:DvJ DvP.z:=⟨rfl,by decide,by decide,by decide,(fun _ h=>by cases h),(fun _ h=>by cases h),rfl⟩
theorem aI5 {w:List ByteArray} (h:∀s∈w,s.size<=1000000) (i:Nat):(w.getD i ⟨⟨[]⟩⟩).size<=1000000:=by
 rw[L0]
 cases hi:w[i]? with
 | none=>exact Nat.zero_le _
 | some a=>exact h a (F7 hi)
theorem bo4 {l v:List UInt8} (h:X4 l=some v):v.length<=l.length:=by
 rw[aU1]at h
 split at h
 ·cases h;exact Nat.zero_le _
 ·split at h
  ·cases h;rw[bv7];omega
  ·cases h
theorem bf6 {c c':Nat} {d d':DvP} {w:List ByteArray} (h:Q8 c d w=some (d',c')) (hw:∀s∈w,s.size<=1000000) (hJ:DvJ d):ag0 c'=w.getD 0 ⟨⟨[]⟩⟩/\c'<=4/\DvJ d':=by
 have h1:=aI5 hw 1
 have h2:=aI5 hw 2
 unfold Q8 at h
 simp only at h
 split at h
 ·rename_i e
  rw[e]
  split at h
  ·cases h
   exact⟨rfl,by decide,⟨hJ.rise,hJ.nin,hJ.nen,h1,hJ.inp,hJ.env,hJ.scr⟩⟩
  ·cases h
 ·split at h
  ·rename_i e
   rw[e]
   split at h
   ·rename_i q
    cases h
    refine⟨rfl,by decide,⟨by show E5 (d.inputs++_)=true;rw[as5,hJ.rise,q.2.2.2.1];rfl,by show(d.inputs++_).length<=8;rw[s8];have:=q.2.2.2.2;simp only[y5,H3];omega,hJ.nen,hJ.name,fun s hs => ?_,hJ.env,hJ.scr⟩⟩
    rcases N0.1 hs with hs | hs
    ·exact hJ.inp s hs
    ·rw[ak2]at hs;subst hs;exact h1
   ·cases h
  ·split at h
   ·rename_i e
    rw[e]
    split at h
    ·rename_i q
     split at h
     ·rename_i v hv
      split at h
      ·cases h
       refine⟨rfl,by decide,⟨hJ.rise,hJ.nin,by show(d.env++_).length<=16;rw[s8];have:=q.2.2.2.2;simp only[y5,H3];omega,hJ.name,hJ.inp,fun s hs => ?_,hJ.scr⟩⟩
       rcases N0.1 hs with hs | hs
       ·exact hJ.env s hs
       ·rw[ak2]at hs;subst hs;refine⟨h1,?_⟩;show v.length<=1000000;omega
      ·cases h
     ·cases h
    ·cases h
   ·split at h
    ·rename_i e
     rw[e]
     split at h
     ·cases h
      exact⟨rfl,by decide,hJ⟩
     ·cases h
    ·cases h
theorem aM5 {c:Nat} {d:DvP} {w:List ByteArray} (h1:w.getD 0 ⟨⟨[]⟩⟩≠ac8) (h2:w.getD 0 ⟨⟨[]⟩⟩≠inB) (h3:w.getD 0 ⟨⟨[]⟩⟩≠af6) (h4:w.getD 0 ⟨⟨[]⟩⟩≠aj6):Q8 c d w=none:=by
 unfold Q8
 simp only[c0 h1,c0 h2,c0 h3,c0 h4]
def aD6 (f c:Nat) (d:DvP) (s:List UInt8):Option DvP:=if c=4 then(if s.length<=4000 then some { d with script:=⟨⟨s⟩⟩ }else none)else aM4 f c d s
theorem aG8 (f c:Nat) (d:DvP) (s:List UInt8):aM4 (f+1) c d s=match Q8 c d (J3 32 ⟨⟨(ac9 10 s).1⟩⟩) with
 | none=>none
 | some (d',c')=>match (ac9 10 s).2 with
  | none=>none
  | some r=>aD6 f c' d' r:=rfl
theorem bf7 (c:UInt8) : ∀l:List UInt8,(ac9 c l).1.length<=l.length /\ ∀r,(ac9 c l).2=some r->r.length<l.length
 | []=>⟨A6 _,fun r h=>by cases h⟩
 | x::l=>by
  have ih:=bf7 c l
  rw[ac9]
  split
  ·exact⟨Nat.zero_le _,fun r h=>by cases h;simp⟩
  ·refine⟨by simp only[y5];omega,fun r h => ?_⟩
   have:=ih.2 r h
   simp only[y5];omega
theorem aU2 (c:UInt8) : ∀l:List UInt8,∀p∈O7 c l,p.length<=l.length
 | [],p,h=>by
  rw[O7,ak2]at h;subst h;exact A6 _
 | x::r,p,h=>by
  have ih:=aU2 c r
  rw[O7]at h
  cases hx:x==c with
  | true =>
   simp only[hx]at h
   rcases A5.1 h with rfl | h
   ·exact Nat.zero_le _
   ·have:=ih p h;simp only[y5];omega
  | false =>
   simp only[hx]at h
   cases e:O7 c r with
   | nil=>exact u9 e (aC7 r)
   | cons a b =>
    rw[e]at ih h
    rcases A5.1 h with rfl | h
    ·have:=ih a (E2 ..);simp only[y5];omega
    ·have:=ih p (E3 _ h);simp only[y5];omega
end Go.Wk

namespace Go.Wk
open Go Go.HL
def W7 (l:List UInt8):Nat:=l.foldl (fun n c=>128 * n+c.toNat % 128) 0
def J9 (l:List UInt8):Nat:=(l.takeWhile fun c=>decide (128<=c.toNat)).length
def I7.rnum (r:I7):Int×I7 :=
 if r.left.length<=J9 r.left\/9<J9 r.left then(0,⟨[],true⟩)
 else if S5 (ak9 (r.left.take (J9 r.left+1))).toNat=r.left.take (J9 r.left+1)then(ak9 (r.left.take (J9 r.left+1)),⟨r.left.drop (J9 r.left+1),r.lost⟩)else(0,⟨[],true⟩)
theorem bo5 : ∀ (l:List UInt8) (n:Nat),l.foldl (fun n c=>128 * n+c.toNat % 128) n=n * 128 ^ l.length+W7 l:=by
 intro l
 induction l with
 | nil=>intro n;simp[W7]
 | cons c r ih =>
  intro n
  unfold W7
  rw[Q0,Q0,ih,ih (128 * 0+c.toNat % 128),y5,Nat.pow_succ]
  generalize 128 ^ r.length=p
  generalize W7 r=v
  generalize c.toNat % 128=d
  rw[E8,E8,Nat.mul_comm 128 n,Nat.mul_assoc n 128 p,Nat.mul_comm 128 p];omega
theorem aM6 (l m:List UInt8):W7 (l++m)=W7 l * 128 ^ m.length+W7 m:=by
 rw[W7,List.foldl_append,bo5];rfl
theorem ah0 (c:UInt8) (m:List UInt8):W7 (c::m)=(c.toNat % 128) * 128 ^ m.length+W7 m:=by
 have:=aM6 [c] m;simpa[W7]using this
theorem bv8 : ∀l:List UInt8,W7 l<128 ^ l.length:=by
 intro l
 induction l with
 | nil=>simp[W7]
 | cons c r ih =>
  rw[ah0,y5,Nat.pow_succ]
  have h1:c.toNat % 128<128:=Nat.mod_lt _ (by decide)
  have h2:(c.toNat % 128+1) * 128 ^ r.length<=128 * 128 ^ r.length:=Nat.mul_le_mul_right _ h1
  rw[E8,Nat.one_mul]at h2
  rw[Nat.mul_comm (128 ^ r.length) 128];omega
theorem bf8 (l:List UInt8):ak9 l=((W7 l % 18446744073709551616:Nat):Int):=by
 have : ∀ (l:List UInt8) (m:Nat),l.foldl aG1 ((m % 18446744073709551616:Nat):Int)=((l.foldl (fun n c=>128 * n+c.toNat % 128) m % 18446744073709551616:Nat):Int):=by
  intro l
  induction l with
  | nil=>intro m;rfl
  | cons c r ih =>
   intro m
   rw[Q0,Q0,<- ih]
   congr 1
   unfold aG1 IntKind.wrap
   simp only[IntKind.signed,H4,F4,if_false]
   show((((m % 18446744073709551616:Nat):Int) * 128 % 18446744073709551616+(Int.tmod ((c.toNat:Nat):Int) 128) % 18446744073709551616) % 18446744073709551616)=_
   have:Int.tmod ((c.toNat:Nat):Int) 128=((c.toNat % 128:Nat):Int):=by
    rw[Int.tmod_eq_emod_of_nonneg (Int.natCast_nonneg _)];rfl
   rw[this]
   omega
 have h:=this l 0
 exact h
theorem bN5 : ∀ (f n:Nat) (acc:List UInt8),n<128 ^ f->W7 (ai2 f n acc)=n * 128 ^ acc.length+W7 acc:=by
 intro f
 induction f with
 | zero => intro n acc h; have : n = 0 := by simpa using h
           subst this;simp[ai2]
 | succ f ih =>
  intro n acc h
  unfold ai2
  split
  ·rename_i h0;subst h0;simp
  ·have h1:n / 128<128 ^ f:=by rw[Nat.pow_succ]at h;exact Nat.div_lt_of_lt_mul (by omega)
   rw[ih _ _ h1,y5,ah0,Nat.pow_succ]
   have h2:(UInt8.ofNat (n % 128+128)).toNat % 128=n % 128:=by
    rw[UInt8.toNat_ofNat'];omega
   rw[h2]
   generalize 128 ^ acc.length=p
   have h3:n=n / 128 * 128+n % 128:=by omega
   conv=>rhs;rw[h3]
   rw[E8,Nat.mul_assoc,Nat.mul_comm 128 p];omega
theorem bC9 : ∀ (f n:Nat) (acc:List UInt8),n<128 ^ f->n≠0 -> ∃c m,ai2 f n acc=c::m/\128<c.toNat:=by
 intro f
 induction f with
 | zero => intro n acc h h0; have : n = 0 := by simpa using h
           exact u9 this h0
 | succ f ih =>
  intro n acc h h0
  unfold ai2
  rw[c0 h0]
  have h1:n / 128<128 ^ f:=by rw[Nat.pow_succ]at h;exact Nat.div_lt_of_lt_mul (by omega)
  by_cases h2:n / 128=0
  ·rw[h2]
   refine⟨UInt8.ofNat (n % 128+128),acc,?_,?_⟩
   ·cases f<;>simp[ai2]
   ·rw[UInt8.toNat_ofNat'];omega
  ·exact ih _ _ h1 h2
theorem bf9 : ∀ (f:Nat) (l acc:List UInt8),l.length<=f->(∀c∈l,128<=c.toNat)->l.head? ≠ some 128->ai2 f (W7 l) acc=l++acc:=by
 intro f
 induction f with
 | zero =>
  intro l acc h _ _
  have:l=[]:=Y3 (by omega)
  subst this;rfl
 | succ f ih =>
  intro l acc h hc hd
  rcases List.eq_nil_or_concat l with rfl | ⟨m,c,rfl⟩
  ·rfl
  ·rw[List.concat_eq_append]at *
   rw[s8,aa5]at h
   have hc1:128<=c.toNat:=hc c (by simp)
   have hc2:c.toNat<256:=c.toNat_lt
   have hv:W7 (m++[c])=W7 m * 128+c.toNat % 128:=by rw[aM6];simp[W7]
   have hdm:m.head? ≠ some 128:=by cases m with
    | nil=>simp
    | cons a b=>simpa using hd
   have hpos:W7 (m++[c])≠0:=by
    cases m with
    | nil =>
     have:c≠128:=by simpa using hd
     have:c.toNat≠128:=fun e=>this (UInt8.toNat_inj.1 e)
     simp[W7];omega
    | cons a b =>
     have ha:128<=a.toNat:=hc a (by simp)
     have ha2:a.toNat<256:=a.toNat_lt
     have:a≠128:=by simpa using hd
     have:a.toNat≠128:=fun e=>this (UInt8.toNat_inj.1 e)
     rw[P5,ah0]
     have h1:1<=a.toNat % 128:=by omega
     have h2:1<=128 ^ (b++[c]).length:=Nat.one_le_pow _ _ (by decide)
     have:=Nat.mul_le_mul h1 h2
     omega
   unfold ai2
   rw[c0 hpos,hv]
   have e1:(W7 m * 128+c.toNat % 128) / 128=W7 m:=by omega
   have e2:(W7 m * 128+c.toNat % 128) % 128+128=c.toNat:=by omega
   rw[e1,e2,ih m _ (by omega) (fun x hx=>hc x (by simp[hx])) hdm,UInt8.ofNat_toNat]
   simp
theorem bg0 (n:Nat) (h:n<18446744073709551616):W7 (S5 n)=n:=by
 unfold S5
 have:n / 128<128 ^ 9:=Nat.div_lt_of_lt_mul (Nat.lt_of_lt_of_le h (by decide))
 rw[bN5 _ _ _ this]
 have h2:W7 [UInt8.ofNat (n % 128)]=n % 128:=by
  simp only[W7,Q0,List.foldl_nil,UInt8.toNat_ofNat'];omega
 rw[h2];simp;omega
theorem bN6 : ∀ (f n:Nat) (acc:List UInt8),∃m,ai2 f n acc=m++acc /\ ∀c∈m,128<=c.toNat:=by
 intro f
 induction f with
 | zero=>intro n acc;exact⟨[],rfl,by simp⟩
 | succ f ih =>
  intro n acc
  unfold ai2
  split
  ·exact⟨[],rfl,by simp⟩
  ·obtain⟨m,hm,hc⟩:=ih (n / 128) (UInt8.ofNat (n % 128+128)::acc)
   refine⟨m++[UInt8.ofNat (n % 128+128)],by rw[hm];simp,fun c h => ?_⟩
   rcases N0.1 h with h | h
   ·exact hc c h
   ·rw[ak2]at h;subst h;rw[UInt8.toNat_ofNat'];omega
theorem bo6 (n:Nat) : ∃m d,S5 n=m++[d]/\(∀c∈m,128<=c.toNat)/\d.toNat<128:=by
 obtain⟨m,hm,hc⟩:=bN6 9 (n / 128) [UInt8.ofNat (n % 128)]
 exact⟨m,_,hm,hc,by rw[UInt8.toNat_ofNat'];omega⟩
theorem bD0 (n:Nat) (h:n<18446744073709551616):(S5 n).head? ≠ some 128:=by
 unfold S5
 have h1:n / 128<128 ^ 9:=Nat.div_lt_of_lt_mul (Nat.lt_of_lt_of_le h (by decide))
 by_cases h2:n / 128=0
 ·rw[h2]
  show([UInt8.ofNat (n % 128)]:List UInt8).head? ≠ _
  simp only[List.head?_cons,ne_eq,Option.some.injEq]
  intro e
  have:=D9 UInt8.toNat e
  rw[UInt8.toNat_ofNat']at this
  have h3:(128:UInt8).toNat=128:=rfl
  omega
 ·obtain⟨c,m,hm,hc⟩:=bC9 9 _ [UInt8.ofNat (n % 128)] h1 h2
  rw[hm]
  simp only[List.head?_cons,ne_eq,Option.some.injEq]
  intro e;subst e
  exact u9 hc (by decide)
theorem bg1 (m:List UInt8) (d:UInt8) (hl:m.length<=9) (hm:∀c∈m,128<=c.toNat) (hd:d.toNat<128) (hh:m.head? ≠ some 128):S5 (W7 (m++[d]))=m++[d]:=by
 have hv:W7 (m++[d])=W7 m * 128+d.toNat:=by rw[aM6];simp[W7];omega
 unfold S5
 rw[hv,show(W7 m * 128+d.toNat) / 128=W7 m from by omega,show(W7 m * 128+d.toNat) % 128=d.toNat from by omega,UInt8.ofNat_toNat]
 exact bf9 9 m [d] hl hm hh
theorem bo7 (l:List UInt8) (h:J9 l<l.length) : ∃m d r,l=m++d::r/\(∀c∈m,128<=c.toNat)/\d.toNat<128/\m.length=J9 l:=by
 induction l with
 | nil=>simp[J9]at h
 | cons c r ih =>
  by_cases hc:128<=c.toNat
  ·have e:J9 (c::r)=J9 r+1:=by unfold J9;rw[List.takeWhile_cons_of_pos (by simpa using hc)];rfl
   rw[e,y5]at h
   obtain⟨m,d,r',h1,h2,h3,h4⟩:=ih (by omega)
   refine⟨c::m,d,r',by rw[h1];rfl,?_,h3,by rw[y5,h4,e]⟩
   intro x hx
   rcases A5.1 hx with rfl | hx
   ·exact hc
   ·exact h2 x hx
  ·refine⟨[],c,r,rfl,by simp,by omega,?_⟩
   unfold J9;rw[List.takeWhile_cons_of_neg (by simpa using hc)]
theorem bo8 (m:List UInt8) (d:UInt8) (r:List UInt8) (hm:∀c∈m,128<=c.toNat) (hd:d.toNat<128):J9 (m++d::r)=m.length:=by
 unfold J9
 rw[List.takeWhile_append_of_pos (by intro c hc;simpa using hm c hc),List.takeWhile_cons_of_neg (by simpa using hd)]
 simp
theorem bg2 (h:Nat) : ∀ (m:List UInt8) (d:UInt8) (r:List UInt8) (i:Nat),(∀c∈m,128<=c.toNat)->d.toNat<128->i<=10 ->
 ap8 h i (m++d::r)=if 9<i+m.length\/(i<=9/\9<=i+m.length/\129<h)\/(i=0/\m.head? = some 128)then 0 else i+m.length+1:=by
 intro m
 induction m with
 | nil =>
  intro d r i _ hd hi
  rw[T8,ap8]
  have : ∀p q:Prop,(p↔q) -> ∀ [Decidable p] [Decidable q] (a b:Nat),(if p then a else b)=if q then a else b:=by
   intro p q hpq _ _ a b;simp[hpq]
  have hb:ah6 h i d=true↔(9<i+([]:List UInt8).length\/(i<=9/\9<=i+([]:List UInt8).length/\129<h)\/(i=0/\([]:List UInt8).head? = some 128)):=by
   unfold ah6
   simp only[Bool.or_eq_true,A8,beq_iff_eq,z8,H3,List.head?_nil]
   constructor
   ·rintro (⟨_,h1⟩ | ⟨h1,h2⟩ | h1)
    ·omega
    ·right;left;omega
    ·left;omega
   ·rintro (h1 | h1 | ⟨_,h1⟩)
    ·right;right;omega
    ·right;left;omega
    ·cases h1
  rw[d9 hd]
  exact this _ _ hb _ _
 | cons c m ih =>
  intro d r i hm hd hi
  have hc:128<=c.toNat:=hm c (by simp)
  rw[P5,ap8]
  by_cases hb:ah6 h i c=true
  ·rw[d9 hb,d9]
   unfold ah6 at hb
   simp only[Bool.or_eq_true,A8,beq_iff_eq,z8]at hb
   rw[y5]
   rcases hb with⟨h0,h1⟩ | ⟨h1,h2⟩ | h1
   ·right;right;exact⟨h0,by simp only[List.head?_cons,Option.some.injEq];exact UInt8.toNat_inj.1 h1⟩
   ·right;left;omega
   ·left;omega
  ·rw[c0 hb,c0 (by omega)]
   unfold ah6 at hb
   simp only[Bool.or_eq_true,A8,beq_iff_eq,z8,not_or,not_and]at hb
   obtain⟨b1,b2,b3⟩:=hb
   rw[ih d r (i+1) (fun x hx=>hm x (by simp[hx])) hd (by omega),y5]
   have hcc:i=0 -> ¬ (c=128):=fun h0 e=>b1 h0 (by rw[e];rfl)
   by_cases hA:9<i+1+m.length\/(i+1<=9/\9<=i+1+m.length/\129<h)\/(i+1=0/\m.head? = some 128)
   ·rw[d9 hA,d9]
    rcases hA with h1 | h1 | h1
    ·left;omega
    ·right;left;omega
    ·omega
   ·rw[c0 hA,c0]
    ·omega
    ·intro hB
     simp only[List.head?_cons,Option.some.injEq]at hB
     rcases hB with h1 | ⟨h1,h2,h3⟩ | ⟨h1,h2⟩
     ·exact hA (.inl (by omega))
     ·by_cases h9:i=9
      ·exact b2 h9 h3
      ·exact hA (.inr (.inl (by omega)))
     ·exact hcc h1 h2
theorem bo9 (h:Nat) : ∀ (l:List UInt8) (i:Nat),l.length<=J9 l->ap8 h i l=0:=by
 intro l
 induction l with
 | nil=>intro i _;rfl
 | cons c r ih =>
  intro i hl
  by_cases hc:128<=c.toNat
  ·have e:J9 (c::r)=J9 r+1:=by unfold J9;rw[List.takeWhile_cons_of_pos (by simpa using hc)];rfl
   rw[e,y5]at hl
   rw[ap8,c0 (show ¬c.toNat<128 from by omega),ih (i+1) (by omega)]
   split<;>rfl
  ·have e:J9 (c::r)=0:=by unfold J9;rw[List.takeWhile_cons_of_neg (by simpa using hc)];rfl
   rw[e,y5]at hl;omega
theorem p64:2 * 128 ^ 9=18446744073709551616:=by decide
theorem bD1 (m:List UInt8) (d:UInt8) (hm:∀c∈m,128<=c.toNat) (hd:d.toNat<128) (hl:m.length<=9) :
 S5 (ak9 (m++[d])).toNat=m++[d] ↔ ¬ (9<=m.length/\129<(((m++[d]).headD 0).toNat))/\m.head? ≠ some 128:=by
 rw[bf8,B0]
 have hlt:W7 (m++[d]) % 18446744073709551616<18446744073709551616:=Nat.mod_lt _ (by decide)
 constructor
 ·intro h
  have hv:=bg0 _ hlt
  rw[h]at hv
  refine⟨fun⟨h9,hh⟩ => ?_,fun e => ?_⟩
  ·cases m with
   | nil=>simp at h9
   | cons a b =>
    have h9':b.length=8:=by simp only[y5]at h9 hl;omega
    rw[P5,ah0]at hv
    have ha:(List.headD (a::b++[d]) 0).toNat=a.toNat:=rfl
    rw[ha]at hh
    have ha2:a.toNat<256:=a.toNat_lt
    rw[show(b++[d]).length=9 from by simp[h9']]at hv
    have h2:2 * 128 ^ 9<=(a.toNat % 128) * 128 ^ 9:=Nat.mul_le_mul_right _ (by omega)
    rw[p64]at h2
    rw[P5,ah0,show(b++[d]).length=9 from by simp[h9']]at hlt
    omega
  ·have:=bD0 _ hlt
   rw[h]at this
   cases m with
   | nil=>cases e
   | cons a b=>exact this (by simpa using e)
 ·rintro ⟨h1,h2⟩
  have hlt:W7 (m++[d])<18446744073709551616:=by
   by_cases h9:m.length=9
   ·cases m with
    | nil=>cases h9
    | cons a b =>
     have hb:b.length=8:=by simpa using h9
     have ha:(List.headD (a::b++[d]) 0).toNat=a.toNat:=rfl
     rw[ha]at h1
     have ha1:128<=a.toNat:=hm a (by simp)
     have ha2:a.toNat<=129:=Nat.not_lt.1 fun hx=>h1 ⟨by omega,hx⟩
     rw[P5,ah0,show(b++[d]).length=9 from by simp[hb]]
     have h3:=bv8 (b++[d])
     rw[show(b++[d]).length=9 from by simp[hb]]at h3
     have h4:(a.toNat % 128) * 128 ^ 9<=1 * 128 ^ 9:=Nat.mul_le_mul_right _ (by omega)
     have:=p64
     omega
   ·have h3:=bv8 (m++[d])
    have h4:128 ^ (m++[d]).length<=128 ^ 9:=Nat.pow_le_pow_right (by decide) (by rw[s8,aa5];omega)
    have:=p64
    omega
  rw[Nat.mod_eq_of_lt hlt]
  exact bg1 m d hl hm hd h2
theorem bv9 (r:I7):r.rnum=r.num:=by
 unfold I7.rnum
 obtain⟨l,lost⟩:=r
 show(if l.length<=J9 l\/9<J9 l then _ else _)=((ak9 ((I7.mk l lost).take (ak8 l)).1,((I7.mk l lost).take (ak8 l)).2):Int×I7)
 by_cases hk:l.length<=J9 l
 ·rw[d9 (.inl hk),show ak8 l=0 from bo9 _ l 0 hk]
  unfold I7.take;rw[d9 (.inl rfl)];rfl
 ·obtain⟨m,d,q,rfl,hm,hd,hml⟩:=bo7 l (by omega)
  have hw:ak8 (m++d::q)=_:=bg2 ((m++d::q).headD 0).toNat m d q 0 hm hd (by decide)
  have htk:(m++d::q).take (J9 (m++d::q)+1)=m++[d]:=by
   rw[<-hml,ay5];simp[H7]
  have hdk:(m++d::q).drop (J9 (m++d::q)+1)=q:=by
   rw[<-hml,ay6];simp
  have hh:(m++d::q).headD 0=(m++[d]).headD 0:=by cases m<;>rfl
  dsimp only
  rw[htk,hdk]
  by_cases h9:9<m.length
  ·rw[d9 (.inr (by omega))]
   rw[d9 (.inl (by omega))]at hw
   rw[hw];unfold I7.take;rw[d9 (.inl rfl)];rfl
  ·rw[c0 (by simp only[s8,y5,not_or];omega)]
   have hc:=bD1 m d hm hd (by omega)
   by_cases hp:S5 (ak9 (m++[d])).toNat=m++[d]
   ·rw[d9 hp]
    obtain⟨c1,c2⟩:=hc.1 hp
    rw[hh,c0 (by
     rintro (h1 | ⟨_,h1,h2⟩ | ⟨_,h1⟩)
     ·omega
     ·exact c1 ⟨by omega,h2⟩
     ·exact c2 h1)]at hw
    rw[hw]
    unfold I7.take
    dsimp only
    rw[c0 (by simp only[s8,y5,not_or];omega),show 0+m.length+1=J9 (m++d::q)+1 from by omega,htk,hdk]
   ·rw[c0 hp]
    rw[hh,d9 (by
     by_cases e:9<=m.length/\129<(((m++[d]).headD 0).toNat)
     ·exact .inr (.inl ⟨by decide,by omega,e.2⟩)
     ·by_cases e2:m.head? = some 128
      ·exact .inr (.inr ⟨rfl,e2⟩)
      ·exact u9 (hc.2 ⟨e,e2⟩) hp)]at hw
    rw[hw];unfold I7.take;rw[d9 (.inl rfl)];rfl
def I7.rtext (r:I7):List UInt8×I7 :=
 if r.num.1>(r.num.2.left.length:Int)then([],⟨[],true⟩)else(r.num.2.left.take r.num.1.toNat,⟨r.num.2.left.drop r.num.1.toNat,r.num.2.lost⟩)
theorem bg3 (r:I7):r.rtext=r.text:=by
 unfold I7.rtext I7.text
 have hn:0<=r.num.1:=(ae4 _).1
 by_cases h0:r.num.1=0
 ·rw[c0 (by rw[h0];omega),d9 (by rw[h0];rfl),h0];simp
 ·rw[c0 (show ¬ ((r.num.1==0)=true)from by simpa using h0)]
  unfold I7.take
  by_cases h1:r.num.1>(r.num.2.left.length:Int)
  ·rw[d9 h1,d9 (.inr (by omega))]
  ·rw[c0 h1,c0 (by omega),show min r.num.1.toNat (r.num.2.left.length+1)=r.num.1.toNat from by omega]
theorem au6 (n:Nat) (h:n<18446744073709551616) (q:List UInt8) (lost:Bool):(I7.mk (S5 n++q) lost).num=((n:Int),⟨q,lost⟩):=by
 rw[<-bv9]
 obtain⟨m,d,hp,hm,hd⟩:=bo6 n
 have hlen:=U8 n
 rw[hp]at hlen
 have hk:J9 (S5 n++q)=m.length:=by rw[hp,E0];exact bo8 m d q hm hd
 have ht:(S5 n++q).take (m.length+1)=S5 n:=by rw[hp];rw[ay5];simp[H7]
 have hdq:(S5 n++q).drop (m.length+1)=q:=by rw[hp];rw[ay6];simp
 have hv:ak9 (S5 n)=(n:Int):=by rw[bf8,bg0 n h,Nat.mod_eq_of_lt h]
 unfold I7.rnum
 dsimp only
 rw[hk,ht,hdq,hv,B0,c0,d9 rfl]
 rw[hp]
 simp only[s8,y5,H3]at hlen ⊢
 omega
theorem aA3 (t:List UInt8) (h:t.length<18446744073709551616) (q:List UInt8) (lost:Bool):(I7.mk (X0 t++q) lost).text=(t,⟨q,lost⟩):=by
 rw[<-bg3]
 unfold I7.rtext X0
 rw[E0,au6 _ h]
 dsimp only
 rw[c0 (by rw[s8];omega),B0]
 simp
end Go.Wk

set_option maxRecDepth 1000000
namespace Go.Wk
open Go Go.HL
def al5 (a_1 b_2:Int):Int:=IntKind.u64.wrap ((IntKind.u64.wrap ((IntKind.u64.wrap ((IntKind.u64.wrap ((Int.fdiv a_1 (2 ^ min (Int.toNat 32) (IntKind.bits .u64))) * (Int.fdiv b_2 (2 ^ min (Int.toNat 32) (IntKind.bits .u64)))))+(Int.fdiv (IntKind.u64.wrap ((A0 .and .u64 a_1 4294967295) * (Int.fdiv b_2 (2 ^ min (Int.toNat 32) (IntKind.bits .u64))))) (2 ^ min (Int.toNat 32) (IntKind.bits .u64)))))+(Int.fdiv (IntKind.u64.wrap ((Int.fdiv a_1 (2 ^ min (Int.toNat 32) (IntKind.bits .u64))) * (A0 .and .u64 b_2 4294967295))) (2 ^ min (Int.toNat 32) (IntKind.bits .u64)))))+(Int.fdiv (IntKind.u64.wrap ((IntKind.u64.wrap ((Int.fdiv (IntKind.u64.wrap ((A0 .and .u64 a_1 4294967295) * (A0 .and .u64 b_2 4294967295))) (2 ^ min (Int.toNat 32) (IntKind.bits .u64)))+(A0 .and .u64 (IntKind.u64.wrap ((A0 .and .u64 a_1 4294967295) * (Int.fdiv b_2 (2 ^ min (Int.toNat 32) (IntKind.bits .u64))))) 4294967295)))+(A0 .and .u64 (IntKind.u64.wrap ((Int.fdiv a_1 (2 ^ min (Int.toNat 32) (IntKind.bits .u64))) * (A0 .and .u64 b_2 4294967295))) 4294967295))) (2 ^ min (Int.toNat 32) (IntKind.bits .u64))))
def aq1 (a_1 b_2:Int):Int:=A0 .or .u64 (IntKind.u64.wrap ((IntKind.u64.wrap ((IntKind.u64.wrap ((Int.fdiv (IntKind.u64.wrap ((A0 .and .u64 a_1 4294967295) * (A0 .and .u64 b_2 4294967295))) (2 ^ min (Int.toNat 32) (IntKind.bits .u64)))+(A0 .and .u64 (IntKind.u64.wrap ((A0 .and .u64 a_1 4294967295) * (Int.fdiv b_2 (2 ^ min (Int.toNat 32) (IntKind.bits .u64))))) 4294967295)))+(A0 .and .u64 (IntKind.u64.wrap ((Int.fdiv a_1 (2 ^ min (Int.toNat 32) (IntKind.bits .u64))) * (A0 .and .u64 b_2 4294967295))) 4294967295))) * 2 ^ min (Int.toNat 32) (IntKind.bits .u64))) (A0 .and .u64 (IntKind.u64.wrap ((A0 .and .u64 a_1 4294967295) * (A0 .and .u64 b_2 4294967295))) 4294967295)
def aU3 (r p:Int):Bool :=
 let hi:=al5 r r
 let lo:=aq1 r r
 let h1:=al5 lo r
 let l1:=aq1 lo r
 let h2:=al5 hi r
 let l2:=aq1 hi r
 let mid:=IntKind.u64.wrap (h1+l2)
 let carry:Int:=if decide (mid<h1)then 1 else 0
 if decide (IntKind.u64.wrap (h2+carry)>0)then true else if decide (mid>aT5 p)then true else if mid==aT5 p then decide (l1>0)else false
def au7 (m p:Int):Bool:=if decide (al5 m m>p)then true else if al5 m m==p then decide (aq1 m m>0)else false
theorem bN7:U6 aU3 ap7=some Z7:=by decide +kernel
theorem bp0:U6 au7 (ap7.take 8)=some ae3.ints:=by decide +kernel
theorem aM7 (ab:Int->Int->Bool) : ∀ (l q:List Int) (i:Nat) (p:Int),U6 ab l=some q->l[i]? = some p -> ∃x,q[i]? = some x/\af8 ab p 50 0 68719476736=some x:=by
 intro l
 induction l with
 | nil=>intro q i p _ h;simp at h
 | cons a r ih =>
  intro q i p hq hp
  unfold U6 at hq
  cases h1:af8 ab a 50 0 68719476736 with
  | none=>rw[h1]at hq;cases hq
  | some x =>
   cases h2:U6 ab r with
   | none=>rw[h1,h2]at hq;cases hq
   | some l' =>
    rw[h1,h2]at hq
    cases hq
    cases i with
    | zero=>simp at hp;subst hp;exact⟨x,rfl,h1⟩
    | succ i=>simp at hp;obtain⟨y,h3,h4⟩:=ih l' i p h2 hp;exact⟨y,by simpa using h3,h4⟩
def W1 (x n:Int):Int:=A0 .or .u32 (Int.fdiv x (2 ^ min (Int.toNat n) (IntKind.bits .u32))) (IntKind.u32.wrap (x * 2 ^ min (Int.toNat (IntKind.i64.wrap (32 - n))) (IntKind.bits .u32)))
theorem bD2 (a b:Int):A0 .or .u32 a b=A0 .or .u32 b a:=by unfold A0;dsimp only;rw[BitVec.or_comm]
theorem Y7 {n:Int} (h1:A0 .and .u64 (IntKind.u64.wrap (IntKind.i64.wrap (0 - n))) 31=32 - n) (h2:IntKind.u64.wrap (32 - (32 - n))=n) (h3:IntKind.i64.wrap (32 - n)=32 - n) (x:Int):az7 x (IntKind.i64.wrap (0 - n))=W1 x n:=by
 unfold az7 W1
 rw[h1,h2,h3,bD2]
theorem bw0 (op:BinOp) (x y:Int):0<=A0 op .u32 x y/\A0 op .u32 x y<4294967296:=by
 have : ∀z:Int,0<=IntKind.u32.wrap z/\IntKind.u32.wrap z<4294967296:=by
  intro z
  unfold IntKind.wrap
  simp only[IntKind.signed,H4,F4,if_false]
  exact⟨Int.emod_nonneg _ (by decide),Int.emod_lt_of_pos _ (by decide)⟩
 unfold A0
 split<;>exact this _
theorem bN8 {r:Int} (h0:0<=r) (h1:r<4294967296):A0 .xor .u32 0 r=r:=by
 unfold A0
 dsimp only
 have e:BitVec.ofInt IntKind.u32.bits 0=0#(IntKind.u32.bits):=by decide
 rw[e,BitVec.zero_xor]
 obtain⟨n,rfl⟩ : ∃n:Nat,r=n:=⟨r.toNat,by omega⟩
 have h2:(BitVec.ofInt IntKind.u32.bits ((n:Nat):Int)).toNat=n:=by
  rw[BitVec.toNat_ofInt]
  show((n:Int) % 4294967296).toNat=n
  omega
 rw[h2]
 unfold IntKind.wrap
 simp only[IntKind.signed,H4,F4,if_false]
 show(n:Int) % 4294967296=n
 omega
theorem t7 (x:Int):az7 x (IntKind.i64.wrap (0 - 7))=W1 x 7:=Y7 (by decide) (by decide) (by decide) x
theorem t18 (x:Int):az7 x (IntKind.i64.wrap (0 - 18))=W1 x 18:=Y7 (by decide) (by decide) (by decide) x
theorem t17 (x:Int):az7 x (IntKind.i64.wrap (0 - 17))=W1 x 17:=Y7 (by decide) (by decide) (by decide) x
theorem t19 (x:Int):az7 x (IntKind.i64.wrap (0 - 19))=W1 x 19:=Y7 (by decide) (by decide) (by decide) x
theorem t6 (x:Int):az7 x (IntKind.i64.wrap (0 - 6))=W1 x 6:=Y7 (by decide) (by decide) (by decide) x
theorem t11 (x:Int):az7 x (IntKind.i64.wrap (0 - 11))=W1 x 11:=Y7 (by decide) (by decide) (by decide) x
theorem t25 (x:Int):az7 x (IntKind.i64.wrap (0 - 25))=W1 x 25:=Y7 (by decide) (by decide) (by decide) x
theorem t2 (x:Int):az7 x (IntKind.i64.wrap (0 - 2))=W1 x 2:=Y7 (by decide) (by decide) (by decide) x
theorem t13 (x:Int):az7 x (IntKind.i64.wrap (0 - 13))=W1 x 13:=Y7 (by decide) (by decide) (by decide) x
theorem t22 (x:Int):az7 x (IntKind.i64.wrap (0 - 22))=W1 x 22:=Y7 (by decide) (by decide) (by decide) x
theorem au8 (x n:Int):A0 .xor .u32 0 (W1 x n)=W1 x n:=bN8 (bw0 ..).1 (bw0 ..).2
theorem cc6 (x:Int):Y1 x [7,18] 0=A0 .xor .u32 (W1 x 7) (W1 x 18):=by simp only[Y1,t7,t18,au8]
theorem bN9 (x:Int):Y1 x [17,19] 0=A0 .xor .u32 (W1 x 17) (W1 x 19):=by simp only[Y1,t17,t19,au8]
theorem cc7 (x:Int):Y1 x [6,11,25] 0=A0 .xor .u32 (A0 .xor .u32 (W1 x 6) (W1 x 11)) (W1 x 25):=by simp only[Y1,t6,t11,t25,au8]
theorem cc8 (x:Int):Y1 x [2,13,22] 0=A0 .xor .u32 (A0 .xor .u32 (W1 x 2) (W1 x 13)) (W1 x 22):=by simp only[Y1,t2,t13,t22,au8]
def ae8 (s:List UInt8) (i:Nat):Nat:=(s.getD (i / 8) 0).toNat / 2 ^ (7 - i % 8) % 2
def Q6 (s:List UInt8) (i:Nat):Nat:=2 * (2 * (2 * (2 * ae8 s (5 * i)+ae8 s (5 * i+1))+ae8 s (5 * i+2))+ae8 s (5 * i+3))+ae8 s (5 * i+4)
theorem bD3 (a b c d e:UInt8) (r:List UInt8) (i:Nat):ae8 (a::b::c::d::e::r) (i+40)=ae8 r i:=by
 unfold ae8
 rw[show(i+40) / 8=i / 8+5 from by omega,show(i+40) % 8=i % 8 from by omega]
 rfl
theorem bD4 (a b c d e:UInt8) (r:List UInt8) (i:Nat):Q6 (a::b::c::d::e::r) (i+8)=Q6 r i:=by
 unfold Q6
 rw[show 5 * (i+8)=5 * i+40 from by omega,show 5 * i+40+1=(5 * i+1)+40 from by omega,show 5 * i+40+2=(5 * i+2)+40 from by omega,show 5 * i+40+3=(5 * i+3)+40 from by omega,show 5 * i+40+4=(5 * i+4)+40 from by omega]
 simp only[bD3]
theorem cq7 (n:Nat) (c:UInt8) (h:n<1024):orH (n:Int) c=((n * 256+c.toNat:Nat):Int):=by
 have hc:=c.toNat_lt
 unfold orH A0
 dsimp only
 have e1:IntKind.u64.wrap ((n:Int) * 2 ^ min (Int.toNat 8) (IntKind.bits .u64))=((n * 256:Nat):Int):=by
  unfold IntKind.wrap
  simp only[IntKind.signed,H4,F4,if_false]
  show((n:Int) * 256) % 18446744073709551616=_
  omega
 have e2:IntKind.u64.wrap ((c.toNat:Nat):Int)=((c.toNat:Nat):Int):=by
  unfold IntKind.wrap
  simp only[IntKind.signed,H4,F4,if_false]
  show((c.toNat:Int)) % 18446744073709551616=_
  omega
 rw[e1,e2]
 have h2 : ∀m:Nat,m<18446744073709551616->(BitVec.ofInt IntKind.u64.bits ((m:Nat):Int)).toNat=m:=by
  intro m hm
  rw[BitVec.toNat_ofInt]
  show((m:Int) % 18446744073709551616).toNat=m
  omega
 rw[BitVec.toNat_or,h2 _ (by omega),h2 _ (by omega)]
 have h3:n * 256 ||| c.toNat=n * 256+c.toNat:=by
  have:=Nat.shiftLeft_add_eq_or_of_lt (i:=8) (b:=c.toNat) hc n
  rw[Nat.shiftLeft_eq]at this
  exact this.symm
 rw[h3]
 unfold IntKind.wrap
 simp only[IntKind.signed,H4,F4,if_false]
 show((n * 256+c.toNat:Nat):Int) % 18446744073709551616=_
 omega
theorem cc9 (n b:Nat) (h:n<1000000) (hb:b<=20):be6 (n:Int) (b:Int)=((n / 2 ^ b % 32:Nat):Int):=by
 unfold be6 A0
 dsimp only
 have e1:Int.fdiv (n:Int) (2 ^ min (Int.toNat (b:Int)) (IntKind.bits .u64))=((n / 2 ^ b:Nat):Int):=by
  rw[B0,Nat.min_eq_left (by show b<=64;omega)]
  rw[show((2:Int) ^ b)=((2 ^ b:Nat):Int)from by norm_cast,Int.fdiv_eq_ediv_of_nonneg _ (Int.natCast_nonneg _)]
  norm_cast
 rw[e1]
 have hle:n / 2 ^ b<=n:=Nat.div_le_self _ _
 clear e1
 generalize n / 2 ^ b=q at *
 have h2:(BitVec.ofInt IntKind.u64.bits ((q:Nat):Int)).toNat=q:=by
  rw[BitVec.toNat_ofInt]
  show(((q:Nat):Int) % 18446744073709551616).toNat=q
  omega
 have h31:(BitVec.ofInt IntKind.u64.bits 31).toNat=31:=by decide
 rw[BitVec.toNat_and,h2,h31]
 have:q &&& 31=q % 32:=Nat.and_two_pow_sub_one_eq_mod q 5
 rw[this]
 unfold IntKind.wrap
 simp only[IntKind.signed,H4,F4,if_false]
 show((q % 32:Nat):Int) % 18446744073709551616=_
 omega
theorem bw1 (n b:Nat) (h:n<1000000) (hb:b<=20):bB5 (n:Int) (b:Int)=((n % 2 ^ b:Nat):Int):=by
 unfold bB5 A0
 dsimp only
 have hp:(2:Nat) ^ b<=2 ^ 20:=Nat.pow_le_pow_right (by decide) hb
 have hp1:1<=(2:Nat) ^ b:=Nat.one_le_pow _ _ (by decide)
 have h20:(2:Nat) ^ 20=1048576:=by decide
 have e1:IntKind.u64.wrap ((IntKind.u64.wrap (1 * 2 ^ min (Int.toNat (b:Int)) (IntKind.bits .u64))) - 1)=((2 ^ b - 1:Nat):Int):=by
  rw[B0,Nat.min_eq_left (by show b<=64;omega)]
  rw[show((2:Int) ^ b)=((2 ^ b:Nat):Int)from by norm_cast]
  generalize (2:Nat) ^ b=p at *
  unfold IntKind.wrap
  simp only[IntKind.signed,H4,F4,if_false]
  show((1 * (p:Int)) % 18446744073709551616 - 1) % 18446744073709551616=_
  omega
 rw[e1]
 have h2 : ∀m:Nat,m<18446744073709551616->(BitVec.ofInt IntKind.u64.bits ((m:Nat):Int)).toNat=m:=by
  intro m hm
  rw[BitVec.toNat_ofInt]
  show((m:Int) % 18446744073709551616).toNat=m
  omega
 rw[BitVec.toNat_and,h2 _ (by omega),h2 _ (by omega),Nat.and_two_pow_sub_one_eq_mod n b]
 have:n % 2 ^ b<=n:=Nat.mod_le _ _
 generalize n % 2 ^ b=q at *
 unfold IntKind.wrap
 simp only[IntKind.signed,H4,F4,if_false]
 show((q:Nat):Int) % 18446744073709551616=_
 omega
def ltr (n:Nat):UInt8:=L2.getD n 0
theorem ab9 (c:UInt8) (r:List UInt8) (n b:Nat) (hb:b<5) (hn:n<2 ^ b):L7 (c::r) (n:Int) (b:Int) =
 (if b+8<10 then [ltr ((n * 256+c.toNat) / 2 ^ (b+3) % 32)]++L7 r (((n * 256+c.toNat) % 2 ^ (b+3):Nat):Int) ((b+3:Nat):Int)
  else [ltr ((n * 256+c.toNat) / 2 ^ (b+3) % 32),ltr ((n * 256+c.toNat) / 2 ^ (b - 2) % 32)]++L7 r (((n * 256+c.toNat) % 2 ^ (b - 2):Nat):Int) ((b - 2:Nat):Int)):=by
 have hc:=c.toNat_lt
 have hp:(2:Nat) ^ b<=2 ^ 4:=Nat.pow_le_pow_right (by decide) (by omega)
 have h16:(2:Nat) ^ 4=16:=by decide
 rw[L7,cq7 n c (by omega)]
 have hm:n * 256+c.toNat<1000000:=by omega
 generalize n * 256+c.toNat=m at *
 have e5:((b:Int)+8 - 5)=((b+3:Nat):Int):=by omega
 have q : ∀ (k:Int) (j:Nat),k=(j:Int)->j<=20->aY4 (m:Int) k=ltr (m / 2 ^ j % 32):=by
  intro k j hk hj
  subst hk
  unfold aY4 ltr
  rw[cc9 m j hm hj,B0]
 unfold inP
 rw[d9 (by omega)]
 by_cases h:b+8<10
 ·rw[d9 h,c0 (by omega)]
  dsimp only
  rw[q _ (b+3) e5 (by omega),e5,bw1 m (b+3) hm (by omega)]
 ·rw[c0 h,d9 (by omega)]
  dsimp only
  have e10:((b:Int)+8 - 10)=((b - 2:Nat):Int):=by omega
  rw[q _ (b+3) e5 (by omega),q _ (b - 2) e10 (by omega),e10,bw1 m (b - 2) hm (by omega)]
theorem W2 : ∀b<256,b / 8 % 32=2 * (2 * (2 * (2 * (b / 128 % 2)+b / 64 % 2)+b / 32 % 2)+b / 16 % 2)+b / 8 % 2 /\
 b / 2 % 32=2 * (2 * (2 * (2 * (b / 32 % 2)+b / 16 % 2)+b / 8 % 2)+b / 4 % 2)+b / 2 % 2 /\
 b / 4 % 32=2 * (2 * (2 * (2 * (b / 64 % 2)+b / 32 % 2)+b / 16 % 2)+b / 8 % 2)+b / 4 % 2 /\
 b / 1 % 32=2 * (2 * (2 * (2 * (b / 16 % 2)+b / 8 % 2)+b / 4 % 2)+b / 2 % 2)+b / 1 % 2 /\
 b % 8=2 * (2 * (b / 4 % 2)+b / 2 % 2)+b / 1 % 2/\b / 64=2 * (b / 128 % 2)+b / 64 % 2 /\
 b % 2=b / 1 % 2/\b / 16=2 * (2 * (2 * (b / 128 % 2)+b / 64 % 2)+b / 32 % 2)+b / 16 % 2 /\
 b % 16=2 * (2 * (2 * (b / 8 % 2)+b / 4 % 2)+b / 2 % 2)+b / 1 % 2/\b / 128=b / 128 % 2 /\
 b % 4=2 * (b / 2 % 2)+b / 1 % 2/\b / 32=2 * (2 * (b / 128 % 2)+b / 64 % 2)+b / 32 % 2:=by decide +kernel
theorem cB2 (a b:Nat):(a % 8 * 256+b) % 2=b % 2:=by omega
theorem cB3 (b c:Nat):(b % 2 * 256+c) % 16=c % 16:=by omega
theorem cB4 (c d:Nat):(c % 16 * 256+d) % 4=d % 4:=by omega
theorem cB5 (a b:Nat) (h:b<256):(a % 8 * 256+b) / 64 % 32=a % 8 * 4+b / 64:=by omega
theorem cB6 (a b:Nat):(a % 8 * 256+b) / 2 % 32=b / 2 % 32:=by omega
theorem cB7 (b c:Nat) (h:c<256):(b % 2 * 256+c) / 16 % 32=b % 2 * 16+c / 16:=by omega
theorem cB8 (c d:Nat) (h:d<256):(c % 16 * 256+d) / 128 % 32=c % 16 * 2+d / 128:=by omega
theorem cB9 (c d:Nat):(c % 16 * 256+d) / 4 % 32=d / 4 % 32:=by omega
theorem cC0 (d e:Nat) (h:e<256):(d % 4 * 256+e) / 32 % 32=d % 4 * 8+e / 32:=by omega
theorem cC1 (d e:Nat):(d % 4 * 256+e) / 1 % 32=e / 1 % 32:=by omega
theorem cC2 (u v w p q:Nat):(2 * (2 * u+v)+w) * 4+(2 * p+q)=2 * (2 * (2 * (2 * u+v)+w)+p)+q:=by omega
theorem cC3 (u p q r s:Nat):u * 16+(2 * (2 * (2 * p+q)+r)+s)=2 * (2 * (2 * (2 * u+p)+q)+r)+s:=by omega
theorem cC4 (u v w x p:Nat):(2 * (2 * (2 * u+v)+w)+x) * 2+p=2 * (2 * (2 * (2 * u+v)+w)+x)+p:=by omega
theorem cC5 (u v p q r:Nat):(2 * u+v) * 8+(2 * (2 * p+q)+r)=2 * (2 * (2 * (2 * u+v)+p)+q)+r:=by omega
theorem cd0 {A A' B B' k T:Nat} (h1:A=A') (h2:B=B') (h3:A' * k+B'=T):A * k+B=T:=by rw[h1,h2,h3]
theorem bp1 (a b c d e:Nat) (ha:a<256) (hb:b<256) (hc:c<256) (hd:d<256) (he:e<256) :
 a / 8 % 32=2 * (2 * (2 * (2 * (a / 128 % 2)+a / 64 % 2)+a / 32 % 2)+a / 16 % 2)+a / 8 % 2 /\
 (a % 8 * 256+b) / 64 % 32=2 * (2 * (2 * (2 * (a / 4 % 2)+a / 2 % 2)+a / 1 % 2)+b / 128 % 2)+b / 64 % 2 /\
 (a % 8 * 256+b) / 2 % 32=2 * (2 * (2 * (2 * (b / 32 % 2)+b / 16 % 2)+b / 8 % 2)+b / 4 % 2)+b / 2 % 2 /\
 ((a % 8 * 256+b) % 2 * 256+c) / 16 % 32=2 * (2 * (2 * (2 * (b / 1 % 2)+c / 128 % 2)+c / 64 % 2)+c / 32 % 2)+c / 16 % 2 /\
 (((a % 8 * 256+b) % 2 * 256+c) % 16 * 256+d) / 128 % 32=2 * (2 * (2 * (2 * (c / 8 % 2)+c / 4 % 2)+c / 2 % 2)+c / 1 % 2)+d / 128 % 2 /\
 (((a % 8 * 256+b) % 2 * 256+c) % 16 * 256+d) / 4 % 32=2 * (2 * (2 * (2 * (d / 64 % 2)+d / 32 % 2)+d / 16 % 2)+d / 8 % 2)+d / 4 % 2 /\
 ((((a % 8 * 256+b) % 2 * 256+c) % 16 * 256+d) % 4 * 256+e) / 32 % 32=2 * (2 * (2 * (2 * (d / 2 % 2)+d / 1 % 2)+e / 128 % 2)+e / 64 % 2)+e / 32 % 2 /\
 ((((a % 8 * 256+b) % 2 * 256+c) % 16 * 256+d) % 4 * 256+e) / 1 % 32=2 * (2 * (2 * (2 * (e / 16 % 2)+e / 8 % 2)+e / 4 % 2)+e / 2 % 2)+e / 1 % 2:=by
 rw[cB2,cB3,cB4,cB5 a b hb,cB6 a b,cB7 b c hc,cB8 c d hd,cB9,cC0 d e he,cC1]
 refine⟨(W2 a ha).1,?_,(W2 b hb).2.1,?_,?_,(W2 d hd).2.2.1,?_,(W2 e he).2.2.2.1⟩
 ·exact cd0 (W2 a ha).2.2.2.2.1 (W2 b hb).2.2.2.2.2.1 (cC2 ..)
 ·exact cd0 (W2 b hb).2.2.2.2.2.2.1 (W2 c hc).2.2.2.2.2.2.2.1 (cC3 ..)
 ·exact cd0 (W2 c hc).2.2.2.2.2.2.2.2.1 (W2 d hd).2.2.2.2.2.2.2.2.2.1 (cC4 ..)
 ·exact cd0 (W2 d hd).2.2.2.2.2.2.2.2.2.2.1 (W2 e he).2.2.2.2.2.2.2.2.2.2.2 (cC5 ..)
theorem aZ0 (a b c d e:UInt8) (r:List UInt8):L7 (a::b::c::d::e::r) 0 0=((List.range 8).map fun i=>ltr (Q6 (a::b::c::d::e::r) i))++L7 r 0 0:=by
 have s1:=ab9 a (b::c::d::e::r) 0 0 (by decide) (by decide)
 rw[d9 (by decide)]at s1
 have s1:L7 (a::b::c::d::e::r) 0 0=_:=s1
 rw[s1]
 rw[ab9 b _ _ (0+3) (by decide) (Nat.mod_lt _ (by decide)),c0 (by decide)]
 rw[ab9 c _ _ (0+3 - 2) (by decide) (Nat.mod_lt _ (by decide)),d9 (by decide)]
 rw[ab9 d _ _ (0+3 - 2+3) (by decide) (Nat.mod_lt _ (by decide)),c0 (by decide)]
 rw[ab9 e _ _ (0+3 - 2+3 - 2) (by decide) (Nat.mod_lt _ (by decide)),c0 (by decide)]
 clear s1
 have z : ∀n:Nat,((n % 2 ^ (0+3 - 2+3 - 2 - 2):Nat):Int)=0:=by intro n;show((n % 1:Nat):Int)=0;omega
 have z2:((0+3 - 2+3 - 2 - 2:Nat):Int)=0:=rfl
 rw[z,z2]
 have hr:(List.range 8).map (fun i=>ltr (Q6 (a::b::c::d::e::r) i))=[ltr (Q6 (a::b::c::d::e::r) 0),ltr (Q6 (a::b::c::d::e::r) 1),ltr (Q6 (a::b::c::d::e::r) 2),ltr (Q6 (a::b::c::d::e::r) 3),ltr (Q6 (a::b::c::d::e::r) 4),ltr (Q6 (a::b::c::d::e::r) 5),ltr (Q6 (a::b::c::d::e::r) 6),ltr (Q6 (a::b::c::d::e::r) 7)]:=rfl
 rw[hr]
 have g0:Q6 (a::b::c::d::e::r) 0=2 * (2 * (2 * (2 * (a.toNat / 128 % 2)+a.toNat / 64 % 2)+a.toNat / 32 % 2)+a.toNat / 16 % 2)+a.toNat / 8 % 2:=rfl
 have g1:Q6 (a::b::c::d::e::r) 1=2 * (2 * (2 * (2 * (a.toNat / 4 % 2)+a.toNat / 2 % 2)+a.toNat / 1 % 2)+b.toNat / 128 % 2)+b.toNat / 64 % 2:=rfl
 have g2:Q6 (a::b::c::d::e::r) 2=2 * (2 * (2 * (2 * (b.toNat / 32 % 2)+b.toNat / 16 % 2)+b.toNat / 8 % 2)+b.toNat / 4 % 2)+b.toNat / 2 % 2:=rfl
 have g3:Q6 (a::b::c::d::e::r) 3=2 * (2 * (2 * (2 * (b.toNat / 1 % 2)+c.toNat / 128 % 2)+c.toNat / 64 % 2)+c.toNat / 32 % 2)+c.toNat / 16 % 2:=rfl
 have g4:Q6 (a::b::c::d::e::r) 4=2 * (2 * (2 * (2 * (c.toNat / 8 % 2)+c.toNat / 4 % 2)+c.toNat / 2 % 2)+c.toNat / 1 % 2)+d.toNat / 128 % 2:=rfl
 have g5:Q6 (a::b::c::d::e::r) 5=2 * (2 * (2 * (2 * (d.toNat / 64 % 2)+d.toNat / 32 % 2)+d.toNat / 16 % 2)+d.toNat / 8 % 2)+d.toNat / 4 % 2:=rfl
 have g6:Q6 (a::b::c::d::e::r) 6=2 * (2 * (2 * (2 * (d.toNat / 2 % 2)+d.toNat / 1 % 2)+e.toNat / 128 % 2)+e.toNat / 64 % 2)+e.toNat / 32 % 2:=rfl
 have g7:Q6 (a::b::c::d::e::r) 7=2 * (2 * (2 * (2 * (e.toNat / 16 % 2)+e.toNat / 8 % 2)+e.toNat / 4 % 2)+e.toNat / 2 % 2)+e.toNat / 1 % 2:=rfl
 obtain⟨q0,q1,q2,q3,q4,q5,q6,q7⟩:=bp1 a.toNat b.toNat c.toNat d.toNat e.toNat a.toNat_lt b.toNat_lt c.toNat_lt d.toNat_lt e.toNat_lt
 rw[<-q0]at g0;rw[<-q1]at g1;rw[<-q2]at g2;rw[<-q3]at g3;rw[<-q4]at g4;rw[<-q5]at g5;rw[<-q6]at g6;rw[<-q7]at g7
 rw[g0,g1,g2,g3,g4,g5,g6,g7]
 clear q0 q1 q2 q3 q4 q5 q6 q7 g0 g1 g2 g3 g4 g5 g6 g7 hr z z2
 simp only[E0,P5,T8,Nat.reducePow,Nat.reduceAdd,Nat.reduceSub,Nat.zero_mul,H6]
theorem bD5 : ∀ (n:Nat) (s:List UInt8),5 * n<=s.length->L7 (s.take (5 * n)) 0 0=(List.range (8 * n)).map fun i=>ltr (Q6 s i):=by
 intro n
 induction n with
 | zero=>intro s _;rfl
 | succ n ih =>
  intro s hs
  match s,hs with
  | a::b::c::d::e::r,hs =>
   rw[show 5 * (n+1)=5 * n+5 from by omega]
   have ht:(a::b::c::d::e::r).take (5 * n+5)=a::b::c::d::e::r.take (5 * n):=rfl
   rw[ht,aZ0,ih r (by simp at hs;omega),show 8 * (n+1)=8+8 * n from by omega,List.range_add,List.map_append,List.map_map]
   have h1:(List.range 8).map (fun i=>ltr (Q6 (a::b::c::d::e::r.take (5 * n)) i))=(List.range 8).map (fun i=>ltr (Q6 (a::b::c::d::e::r) i)):=by
    apply List.map_congr_left
    intro i hi
    have hi:i<8:=List.mem_range.1 hi
    have : ∀j<40,ae8 (a::b::c::d::e::r.take (5 * n)) j=ae8 (a::b::c::d::e::r) j:=by
     intro j hj
     unfold ae8
     have:j / 8<5:=by omega
     generalize j / 8=k at *
     match k,this with
     | 0,_=>rfl
     | 1,_=>rfl
     | 2,_=>rfl
     | 3,_=>rfl
     | 4,_=>rfl
    unfold Q6
    rw[this _ (by omega),this _ (by omega),this _ (by omega),this _ (by omega),this _ (by omega)]
   have h2:(List.range (8 * n)).map (fun i=>ltr (Q6 r i))=(List.range (8 * n)).map ((fun i=>ltr (Q6 (a::b::c::d::e::r) i))∘(fun x=>8+x)):=by
    apply List.map_congr_left
    intro i _
    show ltr (Q6 r i)=ltr (Q6 (a::b::c::d::e::r) (8+i))
    rw[ay8 8 i,bD4]
   rw[h1,h2]
theorem aR1 (l:List UInt8):ar8 l=(List.range 32).map fun i=>ltr (Q6 (W9 l) i):=bD5 4 (W9 l) (by rw[bv1];decide)
theorem cd1 (s:List UInt8) (i:Nat):Q6 s i<32:=by unfold Q6 ae8;omega
end Go.Wk

namespace Go.HL
open Go
section
variable {P : Program} {σ : H}
theorem cq8 {t e:TypeId} {i:TypeInfo} {z:Value} (ht:P.underlying t=some (.slice e)) (hi:P.info? e=some i) (hz:i.zero=some z) (hs:i.size=1) (hby:i.bytes<=100) (hzc:z.cells = #[z]) {n m:Nat} (hm:m<=n) (hn:n<=100000000000) {F:Sl->H->Prop}
 (hF:∀b σ',Gr σ σ'->σ b=none->σ' b=some (.cells ⟨List.replicate n z⟩ e (0,0))->F ⟨some ⟨b,0,none⟩,m,n⟩ σ'):M7 P (Instr.makeSlice t (.int .i64 ((m:Nat):Int)) (.int .i64 ((n:Nat):Int))) (.one (.sc .slc)) F σ:=by
 intro w hw
 have hbytes:(i.bytes:Int) * ((n:Nat):Int)<=281474976710656:=by
  have:i.bytes * n<=100 * 100000000000:=Nat.mul_le_mul hby hn
  have h2:((i.bytes * n:Nat):Int)<=281474976710656:=by omega
  rw[Int.natCast_mul]at h2;exact h2
 have hrun:(ae0 (Instr.makeSlice t (.int .i64 (m:Int)) (.int .i64 (n:Int)))).run P w = .ok (.value (.slice (some ⟨w.heap.size,0,none⟩) m n)) (w.alloc (.cells ⟨List.replicate n z⟩ e)):=by
  simp only[ae0,Sem.run_bind,run_make (P:=P) w t e i z ht hi hz .i64 .i64 (m:Int) (n:Int) (by omega) (by omega) hbytes (by omega),Result.andThen_ok,Sem.run_pure,B0,hs,P4,hzc,aw9]
 rw[hrun]
 obtain⟨h1,h2⟩:=I0.alloc hw (.cells ⟨List.replicate n z⟩ e)
 exact⟨_,h2,Q7 (hF w.heap.size _ (Gr.put h1 _) h1 (H.put_same _ _ _))⟩
end
end Go.HL

namespace Go.Wk
open Go Go.HL
inductive Rch (S:H9) (R:List ByteArray):ByteArray->Prop
 | root (r:ByteArray) (h:r∈R) (hi:S.is r=true):Rch S R r
 | step (s:ByteArray) (p:B4) (r:ByteArray) (h:Rch S R s) (hp:p∈S.paths) (e:p.path=s) (hr:r∈p.refs) (hi:S.is r=true):Rch S R r
theorem bD6 {S:H9} {Q:ByteArray->Prop} (hQ:∀s,Q s -> ∀p∈S.paths,p.path=s -> ∀r∈p.refs,S.is r=true->Q r) : ∀ (f:Nat) (x:ByteArray) (L:List ByteArray),(S.is x=true->Q x)->(∀u∈L,Q u) -> ∀u∈dfs S f x L,Q u:=by
 intro f
 induction f with
 | zero=>intro x L _ h;exact h
 | succ f ih =>
  intro x L hx h
  unfold dfs
  split
  ·exact h
  ·rename_i hc
   have hc:(!S.is x||L.contains x)=false:=by simpa using hc
   simp only[Bool.or_eq_false_iff,Bool.not_eq_false']at hc
   have hqx:=hx hc.1
   have h0 : ∀u∈L++[x],Q u:=fun u hu=>by
    rcases N0.1 hu with hu | hu
    ·exact h u hu
    ·simp at hu;subst hu;exact hqx
   have key : ∀ (ps:List B4) (M:List ByteArray),(∀p∈ps,p∈S.paths)->(∀u∈M,Q u) -> ∀u∈ps.foldl (fun L p=>if p.path==x then p.refs.foldl (fun L r=>dfs S f r L) L else L) M,Q u:=by
    intro ps
    induction ps with
    | nil=>intro M _ hM;exact hM
    | cons p ps ihp =>
     intro M hps hM
     refine ihp _ (fun q hq=>hps q (E3 _ hq)) ?_
     dsimp only
     split
     ·rename_i hpx
      have hpx:=eq_of_beq hpx
      have key2 : ∀ (rs:List ByteArray) (M:List ByteArray),(∀r∈rs,r∈p.refs)->(∀u∈M,Q u) -> ∀u∈rs.foldl (fun L r=>dfs S f r L) M,Q u:=by
       intro rs
       induction rs with
       | nil=>intro M _ hM;exact hM
       | cons r rs ihr =>
        intro M hrs hM
        exact ihr _ (fun q hq=>hrs q (E3 _ hq)) (ih r M (fun hi=>hQ x hqx p (hps p (E2 ..)) hpx r (hrs r (E2 ..)) hi) hM)
      exact key2 p.refs M (fun _ h=>h) hM
     ·exact hM
   exact key S.paths _ (fun _ h=>h) h0
def Cl (S:H9) (M:List ByteArray) (u:ByteArray):Prop := ∀p∈S.paths,p.path=u -> ∀r∈p.refs,S.is r=true->r∈M
theorem Cl.mono {S:H9} {M N:List ByteArray} {u:ByteArray} (h:Cl S M u) (hs:∀s∈M,s∈N):Cl S N u:=fun p hp e r hr hi=>hs r (h p hp e r hr hi)
theorem bO0 {S:H9} : ∀ (f:Nat) (x:ByteArray) (L:List ByteArray),cnt S L<=f->(S.is x=true->x∈dfs S f x L) /\ ∀u∈dfs S f x L,u∉L->Cl S (dfs S f x L) u:=by
 intro f
 induction f with
 | zero =>
  intro x L hc
  refine⟨fun hi => ?_,fun u hu hn=>u9 hu hn⟩
  cases hx:L.contains x with
  | true=>simpa[dfs]using hx
  | false=>have:=aD1 hi hx;omega
 | succ f ih =>
  intro x L hc
  unfold dfs
  split
  ·rename_i hb
   refine⟨fun hi => ?_,fun u hu hn=>u9 hu hn⟩
   rw[hi]at hb
   simpa using hb
  ·rename_i hb
   have hb:(!S.is x||L.contains x)=false:=by simpa using hb
   simp only[Bool.or_eq_false_iff,Bool.not_eq_false']at hb
   have hlt:=aD1 hb.1 hb.2
   -- over references
   have key2 : ∀ (rs:List ByteArray) (M:List ByteArray),(∀u∈L++[x],u∈M)->(∀u∈M,u∉L++[x]->Cl S M u) ->
    (∀u∈rs.foldl (fun L r=>dfs S f r L) M,u∉L++[x]->Cl S (rs.foldl (fun L r=>dfs S f r L) M) u)/\(∀r∈rs,S.is r=true->r∈rs.foldl (fun L r=>dfs S f r L) M) /\ ∀u∈M,u∈rs.foldl (fun L r=>dfs S f r L) M:=by
    intro rs
    induction rs with
    | nil=>intro M _ h;exact⟨h,fun r hr=>(by cases hr),fun u hu=>hu⟩
    | cons r rs ihr =>
     intro M hM h
     have hcm:cnt S M<=f:=F5 (bf2 hM) (by omega)
     obtain⟨a1,a2⟩:=ih r M hcm
     have hsub:=aY8 S f r M
     obtain⟨b1,b2,b3⟩:=ihr (dfs S f r M) (fun u hu=>hsub u (hM u hu)) (fun u hu hn=>by
      by_cases hm:u∈M
      ·exact(h u hm hn).mono hsub
      ·exact a2 u hu hm)
     refine⟨b1,fun q hq hi => ?_,fun u hu=>b3 u (hsub u hu)⟩
     rcases A5.1 hq with rfl | hq
     ·exact b3 _ (a1 hi)
     ·exact b2 q hq hi
   have key : ∀ (ps:List B4) (M:List ByteArray),(∀u∈L++[x],u∈M)->(∀u∈M,u∉L++[x]->Cl S M u) ->
    (∀u∈ps.foldl (fun L p=>if p.path==x then p.refs.foldl (fun L r=>dfs S f r L) L else L) M,u∉L++[x]->Cl S (ps.foldl (fun L p=>if p.path==x then p.refs.foldl (fun L r=>dfs S f r L) L else L) M) u) /\
    (∀p∈ps,p.path=x -> ∀r∈p.refs,S.is r=true->r∈ps.foldl (fun L p=>if p.path==x then p.refs.foldl (fun L r=>dfs S f r L) L else L) M) /\ ∀u∈M,u∈ps.foldl (fun L p=>if p.path==x then p.refs.foldl (fun L r=>dfs S f r L) L else L) M:=by
    intro ps
    induction ps with
    | nil=>intro M _ h;exact⟨h,fun p hp=>(by cases hp),fun u hu=>hu⟩
    | cons p ps ihp =>
     intro M hM h
     simp only[Q0]
     by_cases hpx:(p.path==x)=true
     ·rw[d9 hpx]
      obtain⟨a1,a2,a3⟩:=key2 p.refs M hM h
      obtain⟨b1,b2,b3⟩:=ihp _ (fun u hu=>a3 u (hM u hu)) a1
      refine⟨b1,fun q hq e r hr hi => ?_,fun u hu=>b3 u (a3 u hu)⟩
      rcases A5.1 hq with rfl | hq
      ·exact b3 _ (a2 r hr hi)
      ·exact b2 q hq e r hr hi
     ·rw[c0 hpx]
      obtain⟨b1,b2,b3⟩:=ihp M hM h
      refine⟨b1,fun q hq e r hr hi => ?_,b3⟩
      rcases A5.1 hq with rfl | hq
      ·exact u9 (beq_iff_eq.2 e) hpx
      ·exact b2 q hq e r hr hi
   obtain⟨c1,c2,c3⟩:=key S.paths (L++[x]) (fun _ h=>h) (fun u hu hn=>u9 hu hn)
   refine⟨fun _=>c3 x (by simp),fun u hu hn => ?_⟩
   by_cases hux:u=x
   ·subst hux;exact fun p hp e r hr hi=>c2 p hp e r hr hi
   ·exact c1 u hu (by simp[hn,hux])
theorem bD7 (S:H9) (s:ByteArray):s∈S.reach↔Rch S S.roots s:=by
 unfold H9.reach
 constructor
 ·have key : ∀ (rs : List ByteArray) (M : List ByteArray), (∀ r ∈ rs, r ∈ S.roots) -> (∀ u ∈ M, Rch S S.roots u) -> ∀ u ∈ rs.foldl (fun L r => dfs S S.paths.length r L) M, Rch S S.roots u := by
   intro rs
   induction rs with
   | nil=>intro M _ h;exact h
   | cons r rs ih =>
    intro M hrs h
    exact ih _ (fun q hq=>hrs q (E3 _ hq)) (bD6 (Q:=Rch S S.roots) (fun s hs p hp e r hr hi => .step s p r hs hp e hr hi) _ r M (fun hi => .root r (hrs r (E2 ..)) hi) h)
  exact key S.roots [] (fun _ h=>h) (fun u hu=>by cases hu) s
 ·have key : ∀ (rs : List ByteArray) (M : List ByteArray), (∀ u ∈ M, Cl S M u) -> (∀ u ∈ rs.foldl (fun L r => dfs S S.paths.length r L) M, Cl S (rs.foldl (fun L r => dfs S S.paths.length r L) M) u) /\ (∀ r ∈ rs, S.is r = true -> r ∈ rs.foldl (fun L r => dfs S S.paths.length r L) M) /\ ∀ u ∈ M, u ∈ rs.foldl (fun L r => dfs S S.paths.length r L) M := by
   intro rs
   induction rs with
   | nil=>intro M h;exact⟨h,fun r hr=>(by cases hr),fun u hu=>hu⟩
   | cons r rs ih =>
    intro M h
    have hc:cnt S M<=S.paths.length:=List.length_filter_le _ _
    obtain⟨a1,a2⟩:=bO0 S.paths.length r M hc
    have hsub:=aY8 S S.paths.length r M
    obtain⟨b1,b2,b3⟩:=ih (dfs S S.paths.length r M) (fun u hu=>by
     by_cases hm:u∈M
     ·exact(h u hm).mono hsub
     ·exact a2 u hu hm)
    refine⟨b1,fun q hq hi => ?_,fun u hu=>b3 u (hsub u hu)⟩
    rcases A5.1 hq with rfl | hq
    ·exact b3 _ (a1 hi)
    ·exact b2 q hq hi
  obtain⟨c1,c2,_⟩:=key S.roots [] (fun u hu=>by cases hu)
  intro h
  induction h with
  | root r h hi=>exact c2 r h hi
  | step s p r h hp e hr hi ih=>exact c1 s ih p hp e r hr hi
end Go.Wk

namespace Go.Wk
open Go Go.HL
def ag5 (S:H9) (l:List ByteArray) (r:ByteArray):List ByteArray:=if S.is r && !l.contains r then l++[r]else l
def ae9 (S:H9) (s:ByteArray) (l:List ByteArray) (p:B4):List ByteArray:=if p.path==s then p.refs.foldl (ag5 S) l else l
def bfs (S:H9):Nat->Nat->List ByteArray->List ByteArray
 | 0,_,l=>l
 | f+1,i,l=>match l[i]? with
  | none=>l
  | some s=>bfs S f (i+1) (S.paths.foldl (ae9 S s) l)
def aD7 (S:H9):List ByteArray:=S.roots.foldl (ag5 S) []
def aj7 (S:H9):List ByteArray:=bfs S (S.paths.length+1) 0 (aD7 S)
theorem aI6 {S:H9} {l:List ByteArray} (r:ByteArray) (h:ag4 S l):ag4 S (ag5 S l r):=by
 unfold ag5
 split
 ·rename_i hc
  simp only[A8,Bool.not_eq_true']at hc
  obtain⟨a,b,c⟩:=h
  have hlt:=aD1 hc.1 hc.2
  have hn:r∉l:=by simpa using hc.2
  refine⟨fun u hu => ?_,?_,?_⟩
  ·rcases N0.1 hu with hu | hu
   ·exact a u hu
   ·simp at hu;subst hu;exact hc.1
  ·rw[List.nodup_append]
   exact⟨b,by simp,fun u hu v hv=>by simp at hv;subst hv;intro e;subst e;exact hn hu⟩
  ·rw[s8,aa5];omega
 ·exact h
theorem bw2 {S:H9} {l:List ByteArray} (s:ByteArray) (p:B4) (h:ag4 S l):ag4 S (ae9 S s l p):=by
 unfold ae9
 split
 ·exact Z9 (I:=ag4 S) _ (fun L r h=>aI6 r h) _ _ h
 ·exact h
theorem cq9 {S:H9} {l:List ByteArray} (s:ByteArray) (ps:List B4) (h:ag4 S l):ag4 S (ps.foldl (ae9 S s) l):=Z9 (I:=ag4 S) _ (fun _ p h=>bw2 s p h) _ _ h
theorem aU4 (S:H9):ag4 S (aD7 S):=by
 refine Z9 (I:=ag4 S) _ (fun L r h=>aI6 r h) _ _ ⟨fun u hu=>(by cases hu),List.nodup_nil,?_⟩
 unfold cnt
 have:=List.length_filter_le (fun p:B4 => !([]:List ByteArray).contains p.path) S.paths
 simpa using this
theorem bg4 (S:H9) (l:List ByteArray) (r:ByteArray) : ∀s∈l,s∈ag5 S l r:=by intro s h;unfold ag5;split;exact List.mem_append_left _ h;exact h
theorem bO2 {S:H9} (l:List ByteArray) {r:ByteArray} (hi:S.is r=true):r∈ag5 S l r:=by
 unfold ag5
 split
 ·simp
 ·rename_i h;rw[hi]at h;simpa using h
theorem bg5 {S:H9} : ∀ (rs l:List ByteArray) (r:ByteArray),r∈rs->S.is r=true->r∈rs.foldl (ag5 S) l:=by
 intro rs
 induction rs with
 | nil=>intro l r h;cases h
 | cons x rs ih =>
  intro l r h hi
  rcases A5.1 h with rfl | h
  ·show r∈rs.foldl (ag5 S) (ag5 S l r)
   exact al4 (ag5 S) (bg4 S) rs _ r (bO2 l hi)
  ·exact ih _ r h hi
theorem bO3 (S:H9) (s:ByteArray) (l:List ByteArray) (p:B4) : ∀u∈l,u∈ae9 S s l p:=by
 intro u h
 unfold ae9
 split
 ·exact al4 _ (bg4 S) _ _ u h
 ·exact h
theorem cd2 {S:H9} {s:ByteArray} : ∀ (ps:List B4) (l:List ByteArray) (p:B4),p∈ps->p.path=s -> ∀r∈p.refs,S.is r=true->r∈ps.foldl (ae9 S s) l:=by
 intro ps
 induction ps with
 | nil=>intro l p h;cases h
 | cons x ps ih =>
  intro l p h e r hr hi
  rcases A5.1 h with rfl | h
  ·show r∈ps.foldl (ae9 S s) (ae9 S s l p)
   refine al4 (ae9 S s) (bO3 S s) ps _ r ?_
   unfold ae9
   rw[d9 (by rw[e];simp)]
   exact bg5 _ _ r hr hi
  ·exact ih _ p h e r hr hi
theorem cr0 {S:H9} {Q:ByteArray->Prop} {l:List ByteArray} {r:ByteArray} (h:∀u∈l,Q u) (hr:S.is r=true->Q r) : ∀u∈ag5 S l r,Q u:=by
 intro u hu
 unfold ag5 at hu
 split at hu
 ·rename_i hc
  simp only[A8]at hc
  rcases N0.1 hu with hu | hu
  ·exact h u hu
  ·simp at hu;subst hu;exact hr hc.1
 ·exact h u hu
theorem bp2 {S:H9} {Q:ByteArray->Prop} : ∀ (rs l:List ByteArray),(∀r∈rs,S.is r=true->Q r)->(∀u∈l,Q u) -> ∀u∈rs.foldl (ag5 S) l,Q u:=by
 intro rs
 induction rs with
 | nil=>intro l _ h;exact h
 | cons r rs ih=>intro l hr h;exact ih _ (fun x hx=>hr x (E3 _ hx)) (cr0 h (hr r (E2 ..)))
theorem cC6 {S:H9} {Q:ByteArray->Prop} {s:ByteArray} : ∀ (ps:List B4) (l:List ByteArray),(∀p∈ps,p.path=s -> ∀r∈p.refs,S.is r=true->Q r)->(∀u∈l,Q u) -> ∀u∈ps.foldl (ae9 S s) l,Q u:=by
 intro ps
 induction ps with
 | nil=>intro l _ h;exact h
 | cons p ps ih =>
  intro l hp h
  refine ih _ (fun x hx=>hp x (E3 _ hx)) ?_
  unfold ae9
  split
  ·rename_i e;exact bp2 _ _ (hp p (E2 ..) (eq_of_beq e)) h
  ·exact h
theorem ao8 {S:H9} (s:ByteArray) (ps:List B4) (l:List ByteArray):l <+: ps.foldl (ae9 S s) l:=by
 refine Z9 (I:=fun m=>l <+: m) _ (fun m p h => ?_) _ _ (List.prefix_refl _)
 unfold ae9
 split
 ·refine Z9 (I:=fun m=>l <+: m) _ (fun m r h => ?_) _ _ h
  unfold ag5
  split
  ·exact h.trans (List.prefix_append ..)
  ·exact h
 ·exact h
theorem bO4 {S:H9} : ∀ (f i:Nat) (l:List ByteArray),ag4 S l->S.paths.length+1<=f+i->i<=l.length->(∀u∈l,Rch S S.roots u)->(∀u∈l.take i,Cl S l u) ->
 ag4 S (bfs S f i l)/\(∀u∈bfs S f i l,Rch S S.roots u)/\(∀u∈bfs S f i l,Cl S (bfs S f i l) u) /\ ∀u∈l,u∈bfs S f i l:=by
 intro f
 induction f with
 | zero=>intro i l h hf hi;have:=h.2.2;omega
 | succ f ih =>
  intro i l h hf hi hr hc
  unfold bfs
  cases hs:l[i]? with
  | none =>
   have:l.length<=i:=List.getElem?_eq_none_iff.1 hs
   refine⟨h,hr,fun u hu=>hc u (by rw[H7 this];exact hu),fun u hu=>hu⟩
  | some s =>
   dsimp only
   have hmem:s∈l:=F7 hs
   have hsub : ∀u∈l,u∈S.paths.foldl (ae9 S s) l:=(ao8 s S.paths l).subset
   have hlt:i<l.length:=by
    rcases F6 i l.length with h | h
    ·exact h
    ·rw[List.getElem?_eq_none_iff.2 h]at hs;cases hs
   obtain⟨q,hq⟩:=ao8 (S:=S) s S.paths l
   have hlen:l.length<=(S.paths.foldl (ae9 S s) l).length:=(ao8 s S.paths l).length_le
   obtain⟨a,b,c,d⟩:=ih (i+1) (S.paths.foldl (ae9 S s) l) (cq9 s _ h) (by omega) (by omega)
    (cC6 _ _ (fun p hp e r hr' hi' => .step s p r (hr s hmem) hp e hr' hi') hr)
    (by
     intro u hu
     rw[<-hq,List.take_append_of_le_length (by omega),Q3,hs,N0]at hu
     rcases hu with hu | hu
     ·exact(hc u hu).mono hsub
     ·simp at hu;subst hu
      intro p hp e r hr' hi'
      exact cd2 _ _ p hp e r hr' hi')
   exact⟨a,b,c,fun u hu=>d u (hsub u hu)⟩
theorem bD8 (S:H9) (s:ByteArray):s∈aj7 S↔Rch S S.roots s:=by
 obtain⟨a,b,c,d⟩:=bO4 (S:=S) (S.paths.length+1) 0 (aD7 S) (aU4 S) (by omega) (Nat.zero_le _) (bp2 _ _ (fun r hr hi => .root r hr hi) (fun u hu=>by cases hu)) (fun u hu=>by simp at hu)
 refine⟨b s,fun h => ?_⟩
 induction h with
 | root r h hi=>exact d r (bg5 _ _ r h hi)
 | step s p r h hp e hr hi ih=>exact c s ih p hp e r hr hi
theorem bg6 (S:H9):ag4 S (aj7 S):=(bO4 (S:=S) (S.paths.length+1) 0 (aD7 S) (aU4 S) (by omega) (Nat.zero_le _) (bp2 _ _ (fun r hr hi => .root r hr hi) (fun u hu=>by cases hu)) (fun u hu=>by simp at hu)).1
theorem bp3 (S:H9):(aj7 S).Perm S.reach:=by
 rw[List.perm_ext_iff_of_nodup (bg6 S).2.1 (aA2 S).2.1]
 intro s
 rw[bD8,bD7]
def aj8 (x:ByteArray):List ByteArray->List ByteArray
 | []=>[x]
 | a::r=>if E4 x a then a::aj8 x r else x::a::r
def aM8 (l:List ByteArray):List ByteArray:=(l.foldl (fun A x=>aj8 x A) []).reverse
theorem al6 (x:ByteArray) : ∀A:List ByteArray,(aj8 x A).Perm (x::A):=by
 intro A
 induction A with
 | nil=>exact .refl _
 | cons a r ih =>
  unfold aj8
  split
  ·exact((ih).cons a).trans (.swap x a r)
  ·exact .refl _
theorem bp4 (l:List ByteArray):(aM8 l).Perm l:=by
 have : ∀ (l A:List ByteArray),(l.foldl (fun A x=>aj8 x A) A).Perm (l++A):=by
  intro l
  induction l with
  | nil=>intro A;exact .refl _
  | cons x r ih=>intro A;exact(ih _).trans (((al6 x A).append_left r).trans List.perm_middle)
 exact(List.reverse_perm _).trans ((this l []).trans (by simp))
def V5 (q:Option ByteArray) (s:ByteArray):Bool:=match q with
 | none=>true
 | some a=>E4 a s
def bO5 (q:Option ByteArray) (p:B4):Bool:=V5 q p.path&&aq0 p
def aD8:Option ByteArray->List B4->Bool
 | _,[]=>true
 | q,p::r=>bO5 q p&&aD8 (some p.path) r
theorem bD9 : ∀ (l:List B4) (q:Option ByteArray),aD8 q l=(E5 ((match q with | none=>[] | some a=>[a])++l.map (·.path)) && !(l.any fun p => !aq0 p)):=by
 intro l
 induction l with
 | nil=>intro q;cases q<;>rfl
 | cons p r ih =>
  intro q
  unfold aD8 bO5 V5
  rw[ih]
  have e : ∀a:ByteArray,E5 (a::p.path::r.map (·.path))=(E4 a p.path&&E5 (p.path::r.map (·.path))):=fun _=>rfl
  cases q with
  | none =>
   simp only[H5,T8,List.singleton_append,List.any_cons,Bool.not_or,S6,C4]
   cases aq0 p<;>simp
  | some a =>
   simp only[H5,List.singleton_append,List.any_cons,Bool.not_or,S6]
   rw[e]
   cases E4 a p.path<;>cases aq0 p<;>simp
theorem bE0 (S:H9):S.formed=aD8 none S.paths:=by rw[bD9];rfl
end Go.Wk

namespace Go.Wk
open Go Go.HL
def T6 {α:Type} (f:α->Bool) (g:α->ByteArray):Option ByteArray->List α->Bool
 | _,[]=>true
 | q,a::r=>(f a&&V5 q (g a))&&T6 f g (some (g a)) r
theorem au9 {α:Type} (f:α->Bool) (g:α->ByteArray) : ∀ (l:List α) (q:Option ByteArray),T6 f g q l=(l.all f&&E5 ((match q with | none=>[] | some a=>[a])++l.map g)):=by
 intro l
 induction l with
 | nil=>intro q;cases q<;>rfl
 | cons p r ih =>
  intro q
  unfold T6 V5
  rw[ih]
  have e : ∀a:ByteArray,E5 (a::g p::r.map g)=(E4 a (g p)&&E5 (g p::r.map g)):=fun _=>rfl
  cases q with
  | none =>
   simp only[H5,T8,List.singleton_append,List.all_cons,Bool.and_true]
   rw[Bool.and_assoc]
  | some a =>
   simp only[H5,List.singleton_append,List.all_cons]
   rw[e]
   cases E4 a (g p)<;>cases f p<;>simp
def AtQ {α:Type} (g:α->ByteArray) (l:List α) (i:Nat) (q:Option ByteArray):Prop:=(i=0/\q=none)\/(0<i /\ ∃a,l[i - 1]? = some a/\q=some (g a))
theorem AtQ.next {α:Type} {g:α->ByteArray} {l:List α} {i:Nat} {a:α} (h:l[i]? = some a):AtQ g l (i+1) (some (g a)) := .inr ⟨Nat.succ_pos _,a,h,rfl⟩
end Go.Wk

namespace Go.Wk
open Go Go.HL
theorem cr1 (s:ByteArray):(⟨⟨s.data.toList⟩⟩:ByteArray)=s:=by cases s;rfl
theorem bO6 (m:Nat) (t:Tr):1<=t.deep m:=by
 cases m with
 | zero=>exact Int.le_refl _
 | succ m =>
  unfold Tr.deep
  split
  ·exact Int.le_refl _
  ·exact(aI3 (fun x=>1+Tr.deep m x) t.kids 1).1
theorem bO7 {t x:Tr} {m:Nat} (hk:t.kind=2) (hm:m≠0) (hx:x∈t.kids):1+x.deep m<=t.deep (m+1):=by
 show _<=(if t.kind≠2\/m=0 then 1 else t.kids.foldl (fun d x=>gr d (1+Tr.deep m x)) 1)
 rw[c0 (by rintro (h | h);exact h hk;exact hm h)]
 exact(aI3 (fun x=>1+Tr.deep m x) t.kids 1).2 x hx
theorem bO8 {x:Tr} : ∀ {l:List Tr},x∈l->x.count<=Tr.countRow l/\x.bytes<=Tr.bytesRow l:=by
 intro l
 induction l with
 | nil=>intro h;cases h
 | cons y r ih =>
  intro h
  simp only[Tr.countRow,Tr.bytesRow]
  rcases A5.1 h with rfl | h
  ·omega
  ·have:=ih h;omega
theorem cd3 : ∀l:List Tr,l.length<=Tr.countRow l:=by
 intro l
 induction l with
 | nil=>exact A6 _
 | cons y r ih=>have:=y.count_eq;simp only[Tr.countRow,y5];omega
theorem aZ1 : ∀ (l:List Tr) (p:Option ByteArray),Tr.mayRow p l=true -> ∀x∈l,V4 x.name=true:=by
 intro l
 induction l with
 | nil=>intro p _ x hx;cases hx
 | cons y r ih =>
  intro p h x hx
  rw[Tr.mayRow]at h
  simp only[A8]at h
  rcases A5.1 hx with rfl | hx
  ·exact h.1
  ·exact ih _ h.2.2.2 x hx
theorem bg7 (x:Tr):(x.named ⟨⟨[]⟩⟩).named ⟨⟨x.name.data.toList⟩⟩=x:=by
 obtain⟨n,k,e,d,kids⟩:=x
 show Tr.mk ⟨⟨n.data.toList⟩⟩ k e d kids=_
 rw[cr1]
theorem bE2 (nd:I7->Option (Tr×I7)) : ∀ (l:List Tr) (q:List UInt8),(∀x∈l,x.name.size<=100 /\ ∀q,nd ⟨ab4 x++q,false⟩=some (x.named ⟨⟨[]⟩⟩,⟨q,false⟩)) ->
 U2 nd l.length ⟨Q5 l++q,false⟩=some (l,⟨q,false⟩):=by
 intro l
 induction l with
 | nil=>intro q _;rfl
 | cons x r ih =>
  intro q h
  obtain⟨h1,h2⟩:=h x (E2 ..)
  have e:Q5 (x::r)++q=X0 x.name.data.toList++(ab4 x++(Q5 r++q)):=by
   rw[Q5];simp only[E0]
  have ht:=aA3 x.name.data.toList (by rw[dl];omega) (ab4 x++(Q5 r++q)) false
  rw[y5,U2,e,ht]
  dsimp only
  rw[h2 (Q5 r++q)]
  dsimp only
  rw[ih q fun y hy=>h y (E3 _ hy)]
  dsimp only
  rw[bg7]
theorem bE3 : ∀ (n:Nat) (t:Tr),t.may=true->t.deep (n+2)<=n->t.count<=2000->t.bytes<=100000 -> ∀q,L9 (n+1) ⟨ab4 t++q,false⟩=some (t.named ⟨⟨[]⟩⟩,⟨q,false⟩):=by
 intro n
 induction n with
 | zero=>intro t _ h;have:=bO6 2 t;simp only[H6]at h;omega
 | succ n ih =>
  intro t hm hd hc hb q
  have hbe:=t.bytes_eq
  have hce:=t.count_eq
  have hdz:t.data.data.toList.length<18446744073709551616:=by rw[dl];omega
  rw[az8]
  rw[Tr.may_eq]at hm
  by_cases h1:t.kind=1
  ·rw[d9 h1,h1]
   rw[d9 h1]at hm
   have hk:t.kids=[]:=List.isEmpty_iff.1 hm
   unfold L9
   rw[E0,au6 _ (by decide)]
   dsimp only
   rw[d9 (by decide)]
   unfold Z8
   rw[E0,au6 _ (by split<;>decide)]
   dsimp only
   rw[aA3 _ hdz]
   dsimp only
   rw[c0 (by split<;>decide),c0 (by decide)]
   obtain⟨nm,k,e,d,kids⟩:=t
   simp only[Tr.kids]at hk;simp only[Tr.kind]at h1
   subst hk;subst h1
   show some (Tr.mk ⟨⟨[]⟩⟩ 1 _ ⟨⟨d.data.toList⟩⟩ [],_)=some (Tr.mk ⟨⟨[]⟩⟩ 1 e d [],_)
   rw[cr1]
   cases e<;>rfl
  ·rw[c0 h1]
   rw[c0 h1]at hm
   by_cases h3:t.kind=3
   ·rw[d9 h3,h3]
    rw[d9 h3]at hm
    simp only[A8,Bool.not_eq_true']at hm
    have hk:t.kids=[]:=List.isEmpty_iff.1 hm.1
    have he:=hm.2.1
    unfold L9
    rw[E0,au6 _ (by decide)]
    dsimp only
    rw[c0 (by decide),d9 (by decide)]
    unfold ab6
    rw[aA3 _ hdz]
    dsimp only
    rw[c0 (by decide)]
    obtain⟨nm,k,e,d,kids⟩:=t
    simp only[Tr.kids]at hk;simp only[Tr.kind]at h3;simp only[Tr.exec]at he
    subst hk;subst h3;subst he
    show some (Tr.mk ⟨⟨[]⟩⟩ 3 _ ⟨⟨d.data.toList⟩⟩ [],_)=some (Tr.mk ⟨⟨[]⟩⟩ 3 false d [],_)
    rw[cr1]
   ·rw[c0 h3]
    rw[c0 h3]at hm
    by_cases h2:t.kind=2
    ·rw[d9 h2]at hm
     simp only[A8,Bool.not_eq_true']at hm
     obtain⟨he,hdt0,hrow⟩:=hm
     have hdt:=aI2.1 hdt0
     clear hdt0
     rw[h2]
     unfold L9
     have hl:=cd3 t.kids
     rw[E0,au6 _ (by decide)]
     dsimp only
     rw[c0 (by decide),c0 (by decide),d9 (by decide)]
     unfold al2
     rw[E0,au6 _ (by omega)]
     dsimp only
     rw[c0 (by omega),B0,bE2 (L9 (n+1)) t.kids q ?_]
     ·dsimp only
      rw[c0 (by decide)]
      obtain⟨nm,k,e,d,kids⟩:=t
      simp only[Tr.kind]at h2;simp only[Tr.exec]at he;simp only[Tr.data]at hdt
      subst h2;subst he;subst hdt
      rfl
     ·intro x hx
      have hs:=bO8 hx
      have hn:=aZ1 _ _ hrow x hx
      have hmx:=aL7 _ _ hrow x hx
      have hdx:1+x.deep (n+2)<=t.deep (n+1+2):=bO7 h2 (by omega) hx
      unfold V4 at hn
      simp only[A8,z8]at hn
      refine⟨by omega,fun q=>ih x hmx ?_ (by omega) (by omega) q⟩
      rw[Int.natCast_add]at hd
      omega
    ·rw[c0 h2]at hm;cases hm
theorem bO9 {t:Tr} {s:ByteArray} (h:t.name=s):t.named s=t:=by obtain⟨n,k,e,d,kids⟩:=t;simp only[Tr.name]at h;subst h;rfl
theorem aZ2 {t:Tr} {s:List UInt8} (h:D1 t=(s,0)):t.check=0/\s=X0 J8++ab4 t:=by
 unfold D1 at h
 split at h
 ·rename_i h1;exact u9 (D9 Prod.snd h) h1
 ·split at h
  ·exact u9 (show(3:Int)=0 from D9 Prod.snd h) (by decide)
  ·rename_i h1 _;exact⟨Decidable.not_not.1 h1,(D9 Prod.fst h).symm⟩
theorem bg8 {t:Tr} {s:List UInt8} (h:D1 t=(s,0)):ab7 s=some t:=by
 obtain⟨hc,hs⟩:=aZ2 h
 obtain⟨c1,c2,c3,c4,c5,c6⟩:=bu9 hc
 have ht:=aA3 J8 (by decide) (ab4 t) false
 rw[<-hs]at ht
 have hd:t.deep (12+2)<=(12:Nat):=by
  unfold Tr.tooDeep at c1
  simp only[C2,Int.not_lt]at c1
  exact c1
 have hn:=bE3 12 t c3 hd c5 c6 []
 rw[J1]at hn
 unfold ab7
 dsimp only
 rw[ht]
 dsimp only
 rw[d9 rfl,hn]
 dsimp only
 rw[bO9 c2,h]
 simp
def Q9:Nat->I7->Option (Tr×I7)
 | 0,r=>if Int.tmod r.num.1 1000==1 then Z8 r.num.2 else if Int.tmod r.num.1 1000==3 then ab6 r.num.2 else none
 | f+1,r=>if Int.tmod r.num.1 1000==1 then Z8 r.num.2 else if Int.tmod r.num.1 1000==3 then ab6 r.num.2 else if Int.tmod r.num.1 1000==2 then al2 (Q9 f) r.num.2 else none
def ao9 (s:List UInt8):Option Tr :=
 let r0:I7:=⟨s,false⟩
 if r0.text.1=J8 then match Q9 13 r0.text.2 with
  | none=>none
  | some (t,r)=>if !r.lost&&r.left.isEmpty&&((D1 t).2==0&&(D1 t).1==s)then some t else none
 else none
theorem bp5 {g h:I7->Option (Tr×I7)} (hgh:∀r x,g r=some x->h r=some x) : ∀ (k:Nat) (r:I7) x,U2 g k r=some x->U2 h k r=some x:=by
 intro k
 induction k with
 | zero=>intro r x hx;exact hx
 | succ k ih =>
  intro r x hx
  unfold U2 at hx ⊢
  split at hx
  ·cases hx
  ·rename_i t r2 h1
   split at hx
   ·cases hx
   ·rename_i l r3 h2
    rw[hgh _ _ h1]
    dsimp only
    rw[ih _ _ h2]
    exact hx
theorem bp6 : ∀ (f:Nat) (r:I7) x,L9 f r=some x->Q9 f r=some x:=by
 intro f
 induction f with
 | zero =>
  intro r x hx
  unfold L9 at hx
  unfold Q9
  split at hx
  ·rename_i h;rw[eq_of_beq h];exact hx
  ·split at hx
   ·rename_i h;rw[eq_of_beq h];exact hx
   ·cases hx
 | succ f ih =>
  intro r x hx
  unfold L9 at hx
  unfold Q9
  split at hx
  ·rename_i h;rw[eq_of_beq h];exact hx
  ·split at hx
   ·rename_i h;rw[eq_of_beq h];exact hx
   ·split at hx
    ·rename_i h
     rw[eq_of_beq h]
     show al2 (Q9 f) r.num.2=some x
     unfold al2 at hx ⊢
     split at hx
     ·cases hx
     ·rename_i h1
      rw[c0 h1]
      split at hx
      ·cases hx
      ·rename_i l r2 h2
       rw[bp5 ih _ _ _ h2]
       exact hx
    ·cases hx
theorem bp7 (s:List UInt8):ao9 s=ab7 s:=by
 cases hr:ao9 s with
 | some t =>
  unfold ao9 at hr
  dsimp only at hr
  split at hr
  ·split at hr
   ·cases hr
   ·split at hr
    ·rename_i hc
     cases hr
     simp only[A8,beq_iff_eq]at hc
     exact(bg8 (Prod.ext hc.2.2 hc.2.1)).symm
    ·cases hr
  ·cases hr
 | none =>
  cases hp:ab7 s with
  | none=>rfl
  | some t =>
   unfold ab7 at hp
   unfold ao9 at hr
   dsimp only at hp hr
   split at hp
   ·rename_i h1
    rw[d9 h1]at hr
    split at hp
    ·cases hp
    ·rename_i t' r' h2
     rw[bp6 _ _ _ h2]at hr
     dsimp only at hr
     rw[hp]at hr
     cases hr
   ·cases hp
theorem bg9 : ∀ (f:Nat) (r:I7) (t:Tr) (r':I7),Q9 f r=some (t,r')->t.total+r'.left.length<=r.left.length:=by
 have hf : ∀ (r:I7) (t:Tr) (r':I7),Z8 r=some (t,r')->t.total+r'.left.length<=r.left.length+1:=by
  intro r t r' h
  unfold Z8 at h
  split at h
  ·cases h
  ·split at h
   ·cases h
   ·cases h
    have a1:=ae5 r.num.2
    have a2:=B5 r
    have a5:(⟨⟨r.num.2.text.1⟩⟩:ByteArray).size=r.num.2.text.1.length:=rfl
    have a6:(⟨⟨[]⟩⟩:ByteArray).size=0:=rfl
    simp only[Tr.total,Tr.totalRow];omega
 have hl : ∀ (r:I7) (t:Tr) (r':I7),ab6 r=some (t,r')->t.total+r'.left.length<=r.left.length+1:=by
  intro r t r' h
  unfold ab6 at h
  split at h
  ·cases h
  ·cases h
   have a1:=ae5 r
   have a5:(⟨⟨r.text.1⟩⟩:ByteArray).size=r.text.1.length:=rfl
   have a6:(⟨⟨[]⟩⟩:ByteArray).size=0:=rfl
   simp only[Tr.total,Tr.totalRow];omega
 have nz : ∀ (r:I7) (k:Int),k≠0->(Int.tmod r.num.1 1000==k)=true->r.num.2.left.length+1<=r.left.length:=by
  intro r k hk h
  exact aM1 r (by have:=eq_of_beq h;intro e;rw[e]at this;exact hk (by rw[<-this];rfl))
 intro f
 induction f with
 | zero =>
  intro r t r' h
  unfold Q9 at h
  split at h
  ·rename_i h1;have:=hf _ _ _ h;have:=nz r 1 (by decide) h1;omega
  ·split at h
   ·rename_i h1;have:=hl _ _ _ h;have:=nz r 3 (by decide) h1;omega
   ·cases h
 | succ f ih =>
  intro r t r' h
  unfold Q9 at h
  split at h
  ·rename_i h1;have:=hf _ _ _ h;have:=nz r 1 (by decide) h1;omega
  ·split at h
   ·rename_i h1;have:=hl _ _ _ h;have:=nz r 3 (by decide) h1;omega
   ·split at h
    ·rename_i h1
     have h0:=nz r 2 (by decide) h1
     unfold al2 at h
     split at h
     ·cases h
     ·split at h
      ·cases h
      ·rename_i l r2 hk
       split at h
       ·cases h
       ·cases h
        have a1:=aG4 _ ih _ _ _ _ hk
        have a2:=B5 r.num.2
        have a6:(⟨⟨[]⟩⟩:ByteArray).size=0:=rfl
        simp only[Tr.total];omega
    ·cases h
end Go.Wk

namespace Go.Wk
open Go Go.HL
def occ (h:List UInt8):List UInt8->Bool
 | []=>h.isEmpty
 | c::r=>h.isPrefixOf (c::r)||occ h r
mutual
def aw2 (h:List UInt8):Tr->Bool
 | .mk _ _ _ d kids=>occ h d.data.toList||af7 h kids
def af7 (h:List UInt8):List Tr->Bool
 | []=>false
 | t::r=>aw2 h t||af7 h r
end
theorem bw3 (h:List UInt8) (t:Tr):aw2 h t=(occ h t.data.data.toList||af7 h t.kids):=by
 obtain⟨n,k,e,d,kids⟩:=t
 rw[aw2];rfl
theorem al7 (h:List UInt8) : ∀l:List UInt8,l.length<h.length->occ h l=false
 | [],hl=>by cases h with
  | nil=>simp at hl
  | cons _ _=>rfl
 | c::r,hl=>by
  simp only[y5]at hl
  rw[occ,al7 h r (by omega),ad6,Bool.eq_false_iff]
  intro hp
  have:=(List.isPrefixOf_iff_prefix.1 hp).length_le
  simp only[y5]at this;omega
theorem bP0 {h l:List UInt8} {i:Nat} (hl:i<l.length):occ h (l.drop i)=(h.isPrefixOf (l.drop i)||occ h (l.drop (i+1))):=by
 rw[ad7 hl,occ]
theorem bh0 {h l:List UInt8}:h.isPrefixOf l=decide (l.take h.length=h):=by
 rw[J5,List.isPrefixOf_iff_prefix,z8]
 constructor
 ·rintro ⟨t,rfl⟩;exact List.take_left' rfl
 ·intro e
  have:=List.take_append_drop h.length l
  rw[e]at this
  exact⟨_,this⟩
def bP1 (t:Tr) (h:List UInt8):Bool:=t.check==0&&(C0 h&&aw2 h t)
end Go.Wk

namespace Go.Wk
open Go Go.HL
def aD9 (p:B4) (r:ByteArray):Bool:=bP1 (T9 p.nar.data.toList).1 (I9 r.data.toList).1
theorem bh1 (h n:List UInt8):((ak7 h n).1 != [])=((ak7 h n).2==0):=by
 unfold ak7
 cases C0 h with
 | false=>rfl
 | true =>
  rw[d9 rfl]
  cases hn:L3 n==0 with
  | true=>rw[d9 rfl];cases h<;>rfl
  | false=>rw[c0 (by decide)];show false=(L3 n==0);rw[hn]
theorem bE4 (a b:List UInt8):((U9 a b).1 != [])=((U9 a b).2==0):=by
 unfold U9
 cases hn:L3 b != 0 with
 | true=>rw[d9 rfl];show false=(L3 b==0);rw[bne]at hn;simpa using hn
 | false =>
  rw[c0 (by decide)]
  cases hd:(T9 a).2 != 0 with
  | true=>rw[d9 rfl];show false=((T9 a).2==0);rw[bne]at hd;simpa using hd
  | false=>rw[c0 (by decide)];exact bh1 _ _
theorem bE5 (d:DvP):(d.path.1 != [])=(d.path.2==0):=by
 unfold DvP.path
 split
 ·exact bh1 _ _
 ·rfl
theorem cd4 (p:B4):aQ8 ax9 p=if p.drv.data.toList=[]then((U9 p.nar.data.toList (I9 p.path.data.toList).2.1).2==0&&(U9 p.nar.data.toList (I9 p.path.data.toList).2.1).1==p.path.data.toList)else(match ad0 p.drv.data.toList with
 | none=>false
 | some d=>d.path.2==0&&d.path.1==p.path.data.toList):=by
 unfold aQ8 ax9 aw0
 split
 ·rw[bE4]
  cases (U9 p.nar.data.toList (I9 p.path.data.toList).2.1).2==0<;>rfl
 ·cases ad0 p.drv.data.toList with
  | none=>rfl
  | some d =>
   dsimp only
   rw[bE5]
   cases d.path.2==0<;>rfl
def kpS (S:H9) (k:Nat) (q:Option ByteArray) (p:B4):Bool :=
 if k=1 then(V5 q p.path&&C6 p.path)&&T6 C6 id none p.refs
 else if k=2 then p.refs.all S.is
 else if k=4 then as3 p
 else if k=5 then p.refs.all (aD9 p)
 else if k=6 then aQ8 ax9 p
 else true
def Y2 (S:H9) (k:Nat):Option ByteArray->List B4->Bool
 | _,[]=>true
 | q,p::r=>kpS S k q p&&Y2 S k (some p.path) r
def av0 (S:H9):Bool:=T6 S.is id none S.roots
def sdR (S:H9):Nat->Nat->Int
 | 0,_=>0
 | n+1,k=>if Y2 S k none S.paths=false then((k:Nat):Int)else if k=3/\av0 S=false then((k:Nat):Int)else sdR S n (k+1)
theorem ah7 (S:H9) (k:Nat) (h:k≠1) : ∀ (l:List B4) (q:Option ByteArray),Y2 S k q l=l.all (kpS S k none):=by
 intro l
 induction l with
 | nil=>intro q;rfl
 | cons p r ih =>
  intro q
  rw[Y2,ih,List.all_cons]
  congr 1
  unfold kpS
  rw[c0 h,c0 h]
theorem bP3 (S:H9) : ∀ (l:List B4) (q:Option ByteArray),Y2 S 1 q l=aD8 q l:=by
 intro l
 induction l with
 | nil=>intro q;rfl
 | cons p r ih =>
  intro q
  rw[Y2,aD8,ih]
  congr 1
  unfold kpS bO5 aq0
  rw[d9 rfl,au9,T8,List.map_id,List.not_any_eq_all_not]
  have:(p.refs.all fun s => !(!C6 s))=p.refs.all C6:=by congr 1;funext s;rw[S6]
  rw[this,Bool.and_assoc,Bool.and_comm (p.refs.all C6)]
theorem cC7 (S:H9):Y2 S 2 none S.paths=S.closed:=by
 rw[ah7 S 2 (by decide)]
 unfold H9.closed
 rw[List.not_any_eq_all_not]
 congr 1;funext p
 show p.refs.all S.is=_
 rw[S6,List.not_any_eq_all_not]
 congr 1;funext s;rw[S6]
theorem cC8 (S:H9):Y2 S 4 none S.paths=S.whole:=by
 rw[ah7 S 4 (by decide)]
 unfold H9.whole
 rw[List.not_any_eq_all_not]
 congr 1;funext p
 show as3 p=_
 rw[S6]
theorem cC9 (S:H9):Y2 S 5 none S.paths=S.scanned aD9:=by
 rw[ah7 S 5 (by decide)]
 unfold H9.scanned
 rw[List.not_any_eq_all_not]
 congr 1;funext p
 show p.refs.all (aD9 p)=_
 rw[S6,List.not_any_eq_all_not]
 congr 1;funext s;rw[S6]
theorem cD0 (S:H9):Y2 S 6 none S.paths=S.named ax9:=by
 rw[ah7 S 6 (by decide)]
 unfold H9.named
 rw[List.not_any_eq_all_not]
 congr 1;funext p
 show aQ8 ax9 p=_
 rw[S6]
theorem cD1 (S:H9):Y2 S 3 none S.paths=true:=by
 rw[ah7 S 3 (by decide),Q2]
 intro p _;rfl
theorem bP4 (S:H9):av0 S=S.rooted:=by
 unfold av0 H9.rooted
 rw[au9,T8,List.map_id,List.not_any_eq_all_not,Bool.and_comm]
 congr 2;funext s;rw[S6]
theorem bP5 (S:H9):S.sound aD9 ax9=sdR S 6 1:=by
 unfold H9.sound sdR sdR sdR sdR sdR sdR sdR
 rw[bP3,<- bE0,cC7,cD1,cC8,cC9,cD0,bP4]
 cases S.formed<;>cases S.closed<;>cases S.rooted<;>cases S.whole<;>cases S.scanned aD9<;>cases S.named ax9<;>rfl
end Go.Wk

namespace Go.Wk
open Go Go.HL
end Go.Wk

namespace Go.Proofs.YtgfiobhpipollaaGreatDoor
open Go Go.HL
@[reducible] def kI:TK := .one (.sc (.int .i64))
@[reducible] def kC:TK := .one (.sc (.int .u8))
@[reducible] def kB:TK := .one (.sc .bool)
@[reducible] def kS:TK := .one (.sc .str)
@[reducible] def kP:TK := .one (.sc .ptr)
@[reducible] def kL:TK := .one (.sc .slc)
@[reducible] def kM:TK := .one (.sc .map)
@[reducible] def kR:TK := .one (.sc .raw)
@[reducible] def kU:TK := .tup []
def tau:Nat->TK
 | 0=>kU
 | 2=>kI
 | 3=>kI
 | 4=>kB
 | 5=>kC
 | 6=>kC
 | 7=>(.one (.agg [(.int .i64),(.int .i64),.bool,(.int .u8)]))
 | 8=>(.one (.agg [(.int .i64),(.int .i64),.bool,(.int .u8)]))
 | 9=>kS
 | 10=>kS
 | 11=>kS
 | 12=>(.one (.sc (.int .u64)))
 | 13=>(.one (.agg [.str,(.int .u64)]))
 | 14=>(.one (.agg [.str,(.int .u64)]))
 | 15=>kP
 | 16=>kP
 | 17=>kP
 | 18=>(.one (.agg [.ptr]))
 | 19=>(.one (.agg [.ptr]))
 | 21=>(.one (.sc (.int .i32)))
 | 22=>kL
 | 23=>kL
 | 24=>(.one (.agg [.slc,.slc]))
 | 25=>(.one (.agg [.slc,.slc]))
 | 28=>(.one (.agg [.slc,.slc]))
 | 36=>kL
 | 37=>(.one (.agg [.str,.slc,.str,.str]))
 | 38=>(.one (.agg [.str,.slc,.str,.str]))
 | 39=>kM
 | 46=>kP
 | 50=>kL
 | 51=>(.one (.agg [(.int .i64),(.int .i64),(.int .i64),(.int .i64),(.int .i64),(.int .i64),(.int .i64),(.int .i64),(.int .i64),(.int .i64),(.int .i64),(.int .i64)]))
 | 53=>kM
 | 54=>(.one (.agg [.slc,.slc,.map]))
 | 55=>(.one (.agg [.slc,.slc,.map]))
 | 57=>(.one (.agg [.raw,.raw,.raw,.raw,.raw,.raw]))
 | 70=>kI
 | 71=>(.tup [.sc .str,.sc (.int .i64)])
 | 73=>kL
 | 74=>(.one (.agg [.str,(.int .i64),.bool,.str,.slc]))
 | 75=>(.one (.agg [.str,(.int .i64),.bool,.str,.slc]))
 | 77=>(.tup [.agg [.str,.slc,.str,.str],.sc .bool])
 | 82=>(.tup [.agg [.str,(.int .i64),.bool,.str,.slc],.sc (.int .i64)])
 | 84=>(.tup [.sc .str,.sc .str,.sc (.int .i64)])
 | 90=>kP
 | 92=>(.one (.agg [.str]))
 | 93=>(.one (.agg [.str]))
 | 99=>(.one (.agg []))
 | 100=>(.one (.agg []))
 | 101=>(.tup [.agg [],.sc .bool])
 | 102=>kP
 | 103=>kP
 | 105=>(.one (.agg [.ptr,(.int .i64)]))
 | 106=>(.one (.agg [.ptr,(.int .i64)]))
 | 111=>kL
 | 112=>(.one (.agg [.str,.slc,.slc,.str]))
 | 113=>(.one (.agg [.str,.slc,.slc,.str]))
 | 116=>(.tup [.agg [.str,.slc,.slc,.str],.sc .raw])
 | 119=>kP
 | 120=>(.one (.agg [.str,.bool]))
 | 121=>(.one (.agg [.str,.bool]))
 | 122=>(.tup [.agg [.str,(.int .i64),.bool,.str,.slc],.sc .bool])
 | 126=>(.one (.agg [(.int .i64),(.int .i64)]))
 | 127=>(.one (.agg [(.int .i64),(.int .i64)]))
 | 128=>(.tup [.agg [.str,.slc,.slc,.str],.agg [(.int .i64),(.int .i64)]])
 | 133=>(.one (.sc (.int .u64)))
 | 135=>(.tup [.sc (.int .i64),.sc (.int .i64)])
 | 138=>(.one (.sc (.int .u64)))
 | 139=>kM
 | 143=>kP
 | 144=>(.one (.agg [.ptr,.slc]))
 | 145=>(.one (.agg [.ptr,.slc]))
 | 148=>(.one (.agg [.slc,.bool]))
 | 149=>(.one (.agg [.slc,.bool]))
 | 154=>(.tup [.sc .raw,.sc .bool])
 | 155=>kM
 | 156=>kP
 | 157=>kM
 | 159=>(.tup [.sc (.int .i64),.sc .bool])
 | 161=>(.one (.agg [(.int .i64),(.int .i64)]))
 | 162=>(.tup [.agg [(.int .i64),(.int .i64)],.sc .bool])
 | 163=>kP
 | 164=>kP
 | 165=>(.one (.agg [.str,.slc,.slc,.str,(.int .i64),.str]))
 | 166=>(.one (.agg [.str,.slc,.slc,.str,(.int .i64),.str]))
 | 167=>kM
 | 168=>(.tup [.sc .str,.sc .str,.sc .bool])
 | 171=>(.tup [.sc .raw,.sc .bool])
 | 177=>kP
 | 178=>kP
 | 181=>kI
 | 182=>(.tup [.sc (.int .i64),.sc (.int .i64)])
 | 188=>(.one (.sc (.int .u32)))
 | 191=>(.one (.agg [(.int .u8),(.int .u8),(.int .u8),(.int .u8),(.int .u8),(.int .u8),(.int .u8),(.int .u8),(.int .u8),(.int .u8)]))
 | 192=>kL
 | 193=>(.one (.agg [(.int .u32),(.int .u32),(.int .u32),(.int .u32),(.int .u32),(.int .u32),(.int .u32),(.int .u32)]))
 | 194=>(.one (.agg [(.int .u32),(.int .u32),(.int .u32),(.int .u32),(.int .u32),(.int .u32),(.int .u32),(.int .u32)]))
 | 196=>(.tup [.agg [(.int .u32),(.int .u32),(.int .u32),(.int .u32),(.int .u32),(.int .u32),(.int .u32),(.int .u32)],.sc .raw])
 | 202=>kP
 | 203=>kP
 | 205=>(.one (.agg [.str,.str]))
 | 206=>(.one (.agg [.str,.str]))
 | 209=>(.tup [.sc (.int .i64),.sc .raw])
 | 215=>(.tup [.sc .str,.sc .bool])
 | 217=>(.one (.sc (.int .u64)))
 | 221=>kL
 | 224=>kL
 | 228=>kL
 | 242=>kP
 | 245=>(.tup [.sc (.int .u64),.sc (.int .u64)])
 | 252=>(.tup [.sc .raw,.sc .bool])
 | 255=>kP
 | 258=>(.tup [.sc (.int .i32),.sc (.int .i64)])
 | 264=>(.tup [.sc (.int .u32),.sc (.int .u32)])
 | 269=>(.one (.agg [(.int .u8),(.int .u8)]))
 | 270=>(.one (.agg [(.int .u8),(.int .u8)]))
 | 272=>(.one (.agg [.ptr,.ptr,.ptr,.str]))
 | 273=>(.one (.agg [.ptr,.ptr,.ptr,.str]))
 | 274=>(.one (.agg []))
 | 275=>(.one (.agg []))
 | 276=>(.one (.agg []))
 | 278=>kC
 | 279=>kC
 | 281=>(.one (.sc (.int .i32)))
 | 282=>(.one (.sc (.int .i32)))
 | 283=>(.one (.agg [(.int .u64),(.int .u64),(.int .u32),(.int .u8),(.int .u8),(.int .u8),(.int .u8),.raw,.ptr,(.int .i32),(.int .i32)]))
 | 284=>(.one (.agg [(.int .u64),(.int .u64),(.int .u32),(.int .u8),(.int .u8),(.int .u8),(.int .u8),.raw,.ptr,(.int .i32),(.int .i32)]))
 | _=>kR
theorem mixed:Tryz.prog.follows .mixedOrders=true:=by kernel_rfl
end Go.Proofs.YtgfiobhpipollaaGreatDoor

set_option maxRecDepth 100000
namespace Go.Proofs.YtgfiobhpipollaaGreatDoor
open Go Go.HL
abbrev a8:=A4 Tryz.prog
abbrev d8:=C1 Tryz.prog
abbrev t8:=U3 Tryz.prog
abbrev Q4:=R1 Tryz.prog
abbrev D6:=ao7 Tryz.prog
abbrev bh2:=af5 Tryz.prog
abbrev aj0:=V0 Tryz.prog
abbrev M4:=ac5 Tryz.prog
abbrev P9:=ar9 Tryz.prog
abbrev j1:=ByteArray
abbrev u4:=Option Addr
abbrev s9:=H->Prop
variable {K:KH} {σ:H}
theorem k8 {fn:Func} {f:FuncId} (an:Ann) {args:List Value} {K:KH} {σ:H} {G:s9} (hf:Tryz.prog.funcs[f]? = some fn) (e:bK5 Tryz.prog tau fn an args K=G:=by kernel_rfl) (h:G σ):a8 f args K σ:=aX7 mixed hf (by rw[e];exact h)

def an3:Ann:=(.q (.q (.n (.reg [0,3,1,2,4,5,6,7,10,8,9,11,12,13,14,15,16,17] [[],[0],[0,1],[],(rn 4),(rn 5),(rn 6),(rn 7),(rn 8),(rn 9),(rn 7),(rn 11),(rn 12),(rn 13),(rn 14),(rn 15),(rn 16),(rn 17)]) .z)))
def g3 (v1:Sl) (v2:Sl) (K:KH):s9 :=
 A9 (.cells ⟨[.slice v1.base v1.len v1.cap,.slice v2.base v2.len v2.cap]⟩ 25 (0,0)) (fun b3=>l4 (rdA 2 b3 0) (.one (.agg [.slc,.slc])) (fun x4 x5=>d8 8 [.agg ⟨[.slice x4.base x4.len x4.cap,.slice x5.base x5.len x5.cap]⟩] (.one (.agg [.slc,.slc])) (fun x6 x7=>t8 25 (.pointer (some ⟨b3,0,none⟩)) (.agg ⟨[.slice x6.base x6.len x6.cap,.slice x7.base x7.len x7.cap]⟩) (l4 (rdA 2 b3 0) (.one (.agg [.slc,.slc])) (fun x8 x9 =>
 l4 (rdA 2 b3 0) (.one (.agg [.slc,.slc])) (fun x10 x11=>d8 10 [.agg ⟨[.slice x8.base x8.len x8.cap,.slice x9.base x9.len x9.cap]⟩] (.one (.agg [.slc,.slc])) (fun x12 x13=>A2 (fun σ=>(rdA 2 b3 0) σ=some (.agg ⟨[.slice x10.base x10.len x10.cap,.slice x11.base x11.len x11.cap]⟩)) (d8 9 [.agg ⟨[.slice x12.base x12.len x12.cap,.slice x13.base x13.len x13.cap]⟩] kI (fun(x14:Int) =>
 A2 (fun σ=>(rdA 2 b3 0) σ=some (.agg ⟨[.slice x10.base x10.len x10.cap,.slice x11.base x11.len x11.cap]⟩)) (d8 11 [.agg ⟨[.slice x10.base x10.len x10.cap,.slice x11.base x11.len x11.cap]⟩] kI (fun(x15:Int)=>l8 ((x14:Int)==x15) (l4 (rdA 2 b3 0) (.one (.agg [.slc,.slc])) (fun x16 x17=>l4 (rdA 2 b3 0) (.one (.agg [.slc,.slc])) (fun x18 x19 =>
 d8 10 [.agg ⟨[.slice x16.base x16.len x16.cap,.slice x17.base x17.len x17.cap]⟩] (.one (.agg [.slc,.slc])) (fun x20 x21=>A2 (fun σ=>(rdA 2 b3 0) σ=some (.agg ⟨[.slice x18.base x18.len x18.cap,.slice x19.base x19.len x19.cap]⟩)) (d8 13 [.agg ⟨[.slice x20.base x20.len x20.cap,.slice x21.base x21.len x21.cap]⟩] kL (fun x22=>A2 (fun σ=>(rdA 2 b3 0) σ=some (.agg ⟨[.slice x18.base x18.len x18.cap,.slice x19.base x19.len x19.cap]⟩))
 (d8 14 [.agg ⟨[.slice x18.base x18.len x18.cap,.slice x19.base x19.len x19.cap]⟩] kL (fun x23=>d8 12 [.slice x22.base x22.len x22.cap,.slice x23.base x23.len x23.cap] kB (fun x24=>l8 x24 (d8 15 [] kB (fun x25=>K (.bool x25))) (K (.bool false))))))))))) (K (.bool false)))))))))))))
theorem c3 (v1:Sl) (v2:Sl):g3 v1 v2 K σ->a8 3 [.agg ⟨[.slice v1.base v1.len v1.cap,.slice v2.base v2.len v2.cap]⟩] K σ:=k8 an3 Tryz.func3


def an8:Ann:=(.q (.q (.n (.q (.blk (.loop [(1,.p),(2,.p),(3,.l),(4,.i)] (.n (.seq (some [(1,.p),(2,.p),(3,.l),(4,.i),(14,.b)]) .r (.cond .z .z)) (.n (.blk (.q (.q (.q (.q (.q .r)))))) .r))))) (.q (.q (.q .z))))))
def g8 (v1:Sl) (v2:Sl) (K:KH):s9 :=
 A9 (.cells ⟨[.slice v1.base v1.len v1.cap,.slice v2.base v2.len v2.cap]⟩ 25 (0,0)) (fun b3=>A9 (.cells ⟨[.slice none 0 0,.slice none 0 0]⟩ 25 (0,0)) (fun b4=>l9 [.sc .ptr,.sc .ptr,.sc .slc,.sc (.int .i64)] (fun(R5:u4->u4->Sl->Int->s9)=>(fun(v6:u4) (x7:u4) (v8:Sl) (v9:Int)=>w9 (T:=u4->u4->Sl->Int->Bool->s9) (fun v11 x12 v13 v14 x15=>l8 x15 (j0 v11 (fun b16 o17 =>
 l4 (s5 b16 o17) kL (fun x18=>j0 x18.base (fun b19 o20=>w6 (0<=v14/\v14<((x18.len:Nat):Int)) (l4 (rdA 4 b19 (o20+v14.toNat * 4)) (.one (.agg [.str,.slc,.str,.str])) (fun(x21:j1) (x22:Sl) (x23:j1) (x24:j1)=>A9 (.cells ⟨[.string ⟨⟨[]⟩⟩,.slice none 0 0,.string ⟨⟨[]⟩⟩,.string ⟨⟨[]⟩⟩]⟩ 38 (0,0)) (fun b25 =>
 t8 38 (.pointer (some ⟨b25,0,none⟩)) (.agg ⟨[.string x21,.slice x22.base x22.len x22.cap,.string x23,.string x24]⟩) (l4 (s5 b25 0) kS (fun(x26:j1)=>l4 (s5 b25 0) kS (fun(x27:j1)=>w6 (A1 (some (if 60<((x27.size:Nat):Int)then 60 else((x27.size:Nat):Int))) x26.size/\A1 none ((if 60<((x27.size:Nat):Int)then 60 else((x27.size:Nat):Int)).toNat))
 (t8 9 (.pointer (some ⟨b25,0,none⟩)) (.string (x26.extract 0 ((if 60<((x27.size:Nat):Int)then 60 else((x27.size:Nat):Int)).toNat))) (l4 (s5 b25 2) kS (fun(x28:j1)=>l4 (s5 b25 2) kS (fun(x29:j1)=>w6 (A1 (some (if 2000<((x29.size:Nat):Int)then 2000 else((x29.size:Nat):Int))) x28.size/\A1 none ((if 2000<((x29.size:Nat):Int)then 2000 else((x29.size:Nat):Int)).toNat))
 (t8 9 (.pointer (some ⟨b25,2,none⟩)) (.string (x28.extract 0 ((if 2000<((x29.size:Nat):Int)then 2000 else((x29.size:Nat):Int)).toNat))) (l4 (s5 b25 3) kS (fun(x30:j1)=>l4 (s5 b25 3) kS (fun(x31:j1)=>w6 (A1 (some (if 2000<((x31.size:Nat):Int)then 2000 else((x31.size:Nat):Int))) x30.size/\A1 none ((if 2000<((x31.size:Nat):Int)then 2000 else((x31.size:Nat):Int)).toNat))
 (t8 9 (.pointer (some ⟨b25,3,none⟩)) (.string (x30.extract 0 ((if 2000<((x31.size:Nat):Int)then 2000 else((x31.size:Nat):Int)).toNat))) (l4 (s5 b25 1) kL (fun x32=>d8 22 [.slice x32.base x32.len x32.cap] kL (fun x33=>t8 23 (.pointer (some ⟨b25,1,none⟩)) (.slice x33.base x33.len x33.cap) (l4 (rdA 4 b25 0) (.one (.agg [.str,.slc,.str,.str])) (fun(x34:j1) (x35:Sl) (x36:j1) (x37:j1) =>
 A9 (.cells ⟨[.string x34,.slice x35.base x35.len x35.cap,.string x36,.string x37]⟩ 38 (0,0)) (fun b38=>Q4 .append #[22,22] 22 [false,false] [.slice v13.base v13.len v13.cap,.slice (some ⟨b38,0,none⟩) 1 1] kL (fun x39=>R5 v11 x12 x39 (IntKind.i64.wrap (v14+1)))))))))))))))))))))))))))) (j0 v11 (fun b40 o41=>t8 22 (.pointer (some ⟨b40,o41,none⟩)) (.slice v13.base v13.len v13.cap) (j0 v11 (fun b42 o43 =>
 l4 (s5 b42 (o43+1)) kL (fun x44=>d8 22 [.slice x44.base x44.len x44.cap] kL (fun x45=>j0 v11 (fun b46 o47=>t8 23 (.pointer (some ⟨b46,o47+1,none⟩)) (.slice x45.base x45.len x45.cap) (j0 v11 (fun b48 o49=>l4 (rdA 2 b48 o49) (.one (.agg [.slc,.slc])) (fun x50 x51=>t8 25 (.pointer x12) (.agg ⟨[.slice x50.base x50.len x50.cap,.slice x51.base x51.len x51.cap]⟩) (j0 x12 (fun b52 o53 =>
 l4 (rdA 2 b52 o53) (.one (.agg [.slc,.slc])) (fun r54 r55=>K (.agg ⟨[.slice r54.base r54.len r54.cap,.slice r55.base r55.len r55.cap]⟩))))))))))))))) (fun j10=>j0 v6 (fun b56 o57=>l4 (s5 b56 o57) kL (fun x58=>l8 (decide ((v9:Int)<((x58.len:Nat):Int))) (j10 v6 x7 v8 v9 (decide ((v9:Int)<8))) (j10 v6 x7 v8 v9 false)))))) (fun(R59:u4->u4->Sl->Int->s9)=>R59 (some ⟨b3,0,none⟩) (some ⟨b4,0,none⟩) ⟨none,0,0⟩ 0)))
theorem c8 (v1:Sl) (v2:Sl):g8 v1 v2 K σ->a8 8 [.agg ⟨[.slice v1.base v1.len v1.cap,.slice v2.base v2.len v2.cap]⟩] K σ:=k8 an8 Tryz.func8


def an9:Ann:=(.q (.q (.q (.n (.q (.blk (.loop [(22,.agg [.raw,.raw,.raw,.raw,.raw,.raw]),(23,.i)] (.q (.n (.cond .z .z) (.n (.blk (.q (.q (.h)))) .r)))))) (.q .z)))))
def g9 (v1:Sl) (v2:Sl) (K:KH):s9 :=
 A9 (.cells ⟨[.slice v1.base v1.len v1.cap,.slice v2.base v2.len v2.cap]⟩ 28 (0,0)) (fun b3=>l4 (rdA 2 b3 0) (.one (.agg [.slc,.slc])) (fun x4 x5=>d8 23 [.agg ⟨[.slice x4.base x4.len x4.cap,.slice x5.base x5.len x5.cap]⟩] (.one (.agg [.slc,.slc,.map])) (fun(x6:Sl) (x7:Sl) (x8:Option Nat)=>A9 (.cells ⟨[.slice none 0 0,.slice none 0 0,.map none]⟩ 55 (0,0)) (fun b9 =>
 t8 55 (.pointer (some ⟨b9,0,none⟩)) (.agg ⟨[.slice x6.base x6.len x6.cap,.slice x7.base x7.len x7.cap,.map x8]⟩) (l4 (rdA 3 b9 0) (.one (.agg [.slc,.slc,.map])) (fun(x10:Sl) (x11:Sl) (x12:Option Nat)=>l4 (rdA 3 b9 0) (.one (.agg [.slc,.slc,.map])) (fun(x13:Sl) (x14:Sl) (x15:Option Nat)=>l4 (rdA 3 b9 0) (.one (.agg [.slc,.slc,.map])) (fun(x16:Sl) (x17:Sl) (x18:Option Nat) =>
 l4 (rdA 3 b9 0) (.one (.agg [.slc,.slc,.map])) (fun(x19:Sl) (x20:Sl) (x21:Option Nat)=>l4 (rdA 3 b9 0) (.one (.agg [.slc,.slc,.map])) (fun(x22:Sl) (x23:Sl) (x24:Option Nat)=>l4 (rdA 3 b9 0) (.one (.agg [.slc,.slc,.map])) (fun(x25:Sl) (x26:Sl) (x27:Option Nat)=>A9 (.cells ⟨[.nilFunc,.nilFunc,.nilFunc,.nilFunc,.nilFunc,.nilFunc]⟩ 57 (0,0)) (fun b28 =>
 t8 57 (.pointer (some ⟨b28,0,none⟩)) (.agg ⟨[.func (.func 24) ⟨[.agg ⟨[.slice x10.base x10.len x10.cap,.slice x11.base x11.len x11.cap,.map x12]⟩]⟩ ⟨[]⟩,.func (.func 25) ⟨[.agg ⟨[.slice x13.base x13.len x13.cap,.slice x14.base x14.len x14.cap,.map x15]⟩]⟩ ⟨[]⟩,.func (.func 26) ⟨[.agg ⟨[.slice x16.base x16.len x16.cap,.slice x17.base x17.len x17.cap,.map x18]⟩]⟩ ⟨[]⟩,.func (.func 27) ⟨[.agg ⟨[.slice x19.base x19.len x19.cap,.slice x20.base x20.len x20.cap,.map x21]⟩]⟩ ⟨[]⟩,.func (.func 28) ⟨[.agg ⟨[.slice x22.base x22.len x22.cap,.slice x23.base x23.len x23.cap,.map x24]⟩]⟩ ⟨[]⟩,.func (.func 29) ⟨[.agg ⟨[.slice x25.base x25.len x25.cap,.slice x26.base x26.len x26.cap,.map x27]⟩]⟩ ⟨[]⟩]⟩) (l4 (rdA 6 b28 0) (.one (.agg [.raw,.raw,.raw,.raw,.raw,.raw])) (fun x29 x30 x31 x32 x33 x34 =>
 l9 [.agg [.raw,.raw,.raw,.raw,.raw,.raw],.sc (.int .i64)] (fun(R35:Value->Value->Value->Value->Value->Value->Int->s9)=>(fun(x36:Value) (x37:Value) (x38:Value) (x39:Value) (x40:Value) (x41:Value) (x42:Int)=>l8 (decide ((x42:Int)<6)) (l4 (rdX 6 [x36,x37,x38,x39,x40,x41] x42) kR (fun x43=>y6 Tryz.prog x43 [] kB (fun x44=>l8 (!x44) (K (.int .i64 (IntKind.i64.wrap (x42+1))))
 (R35 x36 x37 x38 x39 x40 x41 (IntKind.i64.wrap (x42+1)))))) (K (.int .i64 0)))) (fun(R45:Value->Value->Value->Value->Value->Value->Int->s9)=>R45 x29 x30 x31 x32 x33 x34 0)))))))))))))))
theorem c9 (v1:Sl) (v2:Sl):g9 v1 v2 K σ->a8 9 [.agg ⟨[.slice v1.base v1.len v1.cap,.slice v2.base v2.len v2.cap]⟩] K σ:=k8 an9 Tryz.func9


def dk3:Ann:=(.q (.q .z))
def g10 (v1:Sl) (v2:Sl) (K:KH):s9 :=
 A9 (.cells ⟨[.slice v1.base v1.len v1.cap,.slice v2.base v2.len v2.cap]⟩ 25 (0,0)) (fun b3=>A9 (.cells ⟨[.slice none 0 0,.slice none 0 0]⟩ 28 (0,0)) (fun b4=>l4 (s5 b3 0) kL (fun x5=>l4 (s5 b3 1) kL (fun x6=>t8 28 (.pointer (some ⟨b4,0,none⟩)) (.agg ⟨[.slice x5.base x5.len x5.cap,.slice x6.base x6.len x6.cap]⟩) (l4 (rdA 2 b4 0) (.one (.agg [.slc,.slc])) (fun r7 r8=>K (.agg ⟨[.slice r7.base r7.len r7.cap,.slice r8.base r8.len r8.cap]⟩)))))))
theorem c10 (v1:Sl) (v2:Sl):g10 v1 v2 K σ->a8 10 [.agg ⟨[.slice v1.base v1.len v1.cap,.slice v2.base v2.len v2.cap]⟩] K σ:=k8 dk3 Tryz.func10


def dk4:Ann:=(.q (.n (.q (.blk (.loop [(1,.p),(3,.i)] (.n (.q (.cond .z .z)) (.n (.blk (.n (.q (.blk (.loop [(1,.p),(3,.i),(4,.i)] (.n (.q (.cond .z .z)) (.n (.blk (.q (.h))) .r))))) (.q (.blk (.loop [(1,.p),(3,.i),(5,.i)] (.n (.seq (some [(1,.p),(3,.i),(5,.i),(31,.b)]) .r (.cond .z .z)) (.n (.blk (.seq (some [(1,.p),(3,.i),(5,.i),(59,.b)]) (.reg (rn 26) [[],[],[1],[],[1,2,3],[1,2,3,4],(rn 6),(rn 7),(rn 8),(rn 9),(rn 10),(rn 11),(rn 12),(rn 13),(rn 12),[0,1,2,3,4,5,6,7,8,9,10,11,14],(rn 16),(rn 17),(rn 12),[0,1,2,3,4,5,6,7,8,9,10,11,18],(rn 12),[0,1,2,3,4,5,6,7,8,9,10,11,18,19,20],[0,1,2,3,4,5,6,7,8,9,10,11,18,19,20,21],(rn 23),(rn 24),(rn 25)]) (.h))) .r))))))) .r))))) (.q .z)))
def g11 (v1:Sl) (v2:Sl) (K:KH):s9 :=
 A9 (.cells ⟨[.slice v1.base v1.len v1.cap,.slice v2.base v2.len v2.cap]⟩ 25 (0,0)) (fun b3=>l9 [.sc .ptr,.sc (.int .i64)] (fun(R4:u4->Int->s9)=>(fun(v5:u4) (v6:Int)=>l8 (decide ((v6:Int)<=6)) (l9 [.sc .ptr,.sc (.int .i64),.sc (.int .i64)] (fun(R7:u4->Int->Int->s9)=>(fun(v8:u4) (v9:Int) (v10:Int)=>j0 v8 (fun b11 o12=>l4 (s5 b11 o12) kL (fun x13 =>
 l8 (decide ((v10:Int)<((x13.len:Nat):Int))) (j0 v8 (fun b14 o15=>l4 (rdA 2 b14 o15) (.one (.agg [.slc,.slc])) (fun x16 x17=>d8 30 [.agg ⟨[.slice x16.base x16.len x16.cap,.slice x17.base x17.len x17.cap]⟩,.int .i64 v10,.int .i64 v9] kB (fun x18=>l8 (!x18) (K (.int .i64 v9)) (R7 v8 v9 (IntKind.i64.wrap (v10+1)))))))
 (l9 [.sc .ptr,.sc (.int .i64),.sc (.int .i64)] (fun(R19:u4->Int->Int->s9)=>(fun(v20:u4) (v21:Int) (v22:Int)=>w9 (T:=u4->Int->Int->Bool->s9) (fun v24 v25 v26 x27=>l8 x27 (w9 (T:=u4->Int->Int->Bool->s9) (fun v29 v30 v31 x32=>l8 x32 (K (.int .i64 v30)) (R19 v29 v30 (IntKind.i64.wrap (v31+1)))) (fun j28=>j0 v24 (fun b33 o34 =>
 l4 (rdA 2 b33 o34) (.one (.agg [.slc,.slc])) (fun x35 x36=>j0 v24 (fun b37 o38=>l4 (s5 b37 (o38+1)) kL (fun x39=>j0 x39.base (fun b40 o41=>w6 (0<=v26/\v26<((x39.len:Nat):Int)) (l4 (s5 b40 (o41+v26.toNat * 1)) kS (fun(x42:j1)=>d8 31 [.agg ⟨[.slice x35.base x35.len x35.cap,.slice x36.base x36.len x36.cap]⟩,.string x42] kB (fun x43=>l8 (!x43) (j28 v24 v25 v26 true) (l8 (decide ((v26:Int)>0)) (j0 v24 (fun b44 o45 =>
 l4 (s5 b44 (o45+1)) kL (fun x46=>j0 x46.base (fun b47 o48=>w6 (0<=IntKind.i64.wrap (v26 - 1)/\IntKind.i64.wrap (v26 - 1)<((x46.len:Nat):Int)) (l4 (s5 b47 (o48+(IntKind.i64.wrap (v26 - 1):Int).toNat * 1)) kS (fun(x49:j1)=>j0 v24 (fun b50 o51=>l4 (s5 b50 (o51+1)) kL (fun x52=>j0 x52.base (fun b53 o54=>w6 (0<=v26/\v26<((x52.len:Nat):Int)) (l4 (s5 b53 (o54+v26.toNat * 1)) kS (fun(x55:j1) =>
 j28 v24 v25 v26 (!E4 x49 x55)))))))))))) (j28 v24 v25 v26 false)))))))))))) (R4 v24 (IntKind.i64.wrap (v25+1)))) (fun j23=>j0 v20 (fun b56 o57=>l4 (s5 b56 (o57+1)) kL (fun x58=>l8 (decide ((v22:Int)<((x58.len:Nat):Int))) (j23 v20 v21 v22 ((v21:Int)==3)) (j23 v20 v21 v22 false)))))) (fun(R59:u4->Int->Int->s9)=>R59 v8 v9 0)))))) (fun(R60:u4->Int->Int->s9)=>R60 v5 v6 0))
 (K (.int .i64 0)))) (fun(R61:u4->Int->s9)=>R61 (some ⟨b3,0,none⟩) 1))
theorem c11 (v1:Sl) (v2:Sl):g11 v1 v2 K σ->a8 11 [.agg ⟨[.slice v1.base v1.len v1.cap,.slice v2.base v2.len v2.cap]⟩] K σ:=k8 dk4 Tryz.func11


def dk5:Ann:=(.q (.n (.q (.h)) (.n (.q (.blk (.loop [(0,.l),(1,.l),(5,.i)] (.n (.q (.cond .z .z)) (.n (.blk (.n (.reg (rn 9) [[],[],[0,1],[0,1,2],[],[],[4,5],[4,5,6],(rn 8)]) (.h))) .r))))) (.q .z))))
def g12 (v1:Sl) (v2:Sl) (K:KH):s9 :=
 l8 (((v1.len:Nat):Int) != ((v2.len:Nat):Int)) (K (.bool false)) (l9 [.sc .slc,.sc .slc,.sc (.int .i64)] (fun(R3:Sl->Sl->Int->s9)=>(fun(v4:Sl) (v5:Sl) (v6:Int)=>l8 (decide ((v6:Int)<((v4.len:Nat):Int))) (j0 v4.base (fun b7 o8=>w6 (0<=v6/\v6<((v4.len:Nat):Int)) (l4 (s5 b7 (o8+v6.toNat * 1)) kS (fun(x9:j1)=>j0 v5.base (fun b10 o11=>w6 (0<=v6/\v6<((v5.len:Nat):Int))
 (l4 (s5 b10 (o11+v6.toNat * 1)) kS (fun(x12:j1)=>l8 (!B8 x9 x12) (K (.bool false)) (R3 v4 v5 (IntKind.i64.wrap (v6+1)))))))))) (K (.bool true)))) (fun(R13:Sl->Sl->Int->s9)=>R13 v1 v2 0))
theorem c12 (v1:Sl) (v2:Sl):g12 v1 v2 K σ->a8 12 [.slice v1.base v1.len v1.cap,.slice v2.base v2.len v2.cap] K σ:=k8 dk5 Tryz.func12


def dk6:Ann:=(.q (.q (.q (.q (.q (.n (.q (.blk (.loop [(4,.p),(5,.p),(13,.l),(14,.i),(15,.i)] (.q (.n (.cond .z .z) (.n (.blk (.q .r)) .r)))))) (.q .z)))))))
def g13 (v1:Sl) (v2:Sl) (K:KH):s9 :=
 A9 (.cells ⟨[.slice v1.base v1.len v1.cap,.slice v2.base v2.len v2.cap]⟩ 28 (0,0)) (fun b3=>l4 (rdA 2 b3 0) (.one (.agg [.slc,.slc])) (fun x4 x5=>d8 23 [.agg ⟨[.slice x4.base x4.len x4.cap,.slice x5.base x5.len x5.cap]⟩] (.one (.agg [.slc,.slc,.map])) (fun(x6:Sl) (x7:Sl) (x8:Option Nat)=>A9 (.cells ⟨[.slice none 0 0,.slice none 0 0,.map none]⟩ 55 (0,0)) (fun b9 =>
 t8 55 (.pointer (some ⟨b9,0,none⟩)) (.agg ⟨[.slice x6.base x6.len x6.cap,.slice x7.base x7.len x7.cap,.map x8]⟩) (A9 (.map #[] 0) (fun b10=>A9 (.cells ⟨[.map none]⟩ 39 (0,0)) (fun b11=>t8 39 (.pointer (some ⟨b11,0,none⟩)) (.map (some b10)) (A9 (.cells ⟨[.nilFunc]⟩ 60 (0,0)) (fun b12 =>
 t8 60 (.pointer (some ⟨b12,0,none⟩)) (.func (.func 32) ⟨[]⟩ ⟨[.pointer (some ⟨b9,0,none⟩),.pointer (some ⟨b11,0,none⟩),.pointer (some ⟨b3,0,none⟩),.pointer (some ⟨b12,0,none⟩)]⟩) (l4 (s5 b3 1) kL (fun x13=>l9 [.sc .ptr,.sc .ptr,.sc .slc,.sc (.int .i64),.sc (.int .i64)] (fun(R14:u4->u4->Sl->Int->Int->s9)=>(fun(v15:u4) (v16:u4) (x17:Sl) (x18:Int) (x19:Int) =>
 l8 (decide ((x19:Int)<x18)) (j0 x17.base (fun b20 o21=>w6 (0<=x19/\x19<((x17.len:Nat):Int)) (l4 (s5 b20 (o21+x19.toNat * 1)) kS (fun(x22:j1)=>j0 v16 (fun b23 o24=>l4 (s5 b23 o24) kR (fun x25=>y6 Tryz.prog x25 [.string x22] kU (R14 v15 v16 x17 x18 (IntKind.i64.wrap (x19+1))))))))) (j0 v15 (fun b26 o27=>l4 (s5 b26 o27) kM (fun(x28:Option Nat)=>d8 35 [.map x28] kR (fun x29 =>
 d8 34 [x29] kL (fun x30=>K (.slice x30.base x30.len x30.cap)))))))) (fun(R31:u4->u4->Sl->Int->Int->s9)=>R31 (some ⟨b11,0,none⟩) (some ⟨b12,0,none⟩) x13 ((x13.len:Nat):Int) 0))))))))))))
theorem c13 (v1:Sl) (v2:Sl):g13 v1 v2 K σ->a8 13 [.agg ⟨[.slice v1.base v1.len v1.cap,.slice v2.base v2.len v2.cap]⟩] K σ:=k8 dk6 Tryz.func13


def dk7:Ann:=(.q (.q (.n (.q (.blk (.loop [(1,.p),(3,.l),(4,.i)] (.n (.q (.cond .z .z)) (.seq (some [(1,.p),(3,.l),(4,.i)]) (.blk (.seq (some [(1,.p),(3,.l),(4,.i),(34,.b)]) (.reg (rn 17) [[],[],[1],[],[1,2,3],[1,2,3,4],(rn 6),(rn 7),(rn 8),(rn 8),[0,1,2,3,4,5,6,7,9],(rn 8),[0,1,2,3,4,5,6,7,9,10,11],[0,1,2,3,4,5,6,7,9,10,11,12],(rn 14),(rn 15),(rn 16)]) (.cond .r .z))) .r))))) (.n (.q (.blk (.loop [(1,.p),(3,.l),(5,.i)] (.n (.q (.cond .z .z)) (.n (.blk (.q (.blk (.loop [(1,.p),(3,.l),(5,.i),(6,.i)] (.n (.q (.cond .z .z)) (.n (.blk (.q (.blk (.loop [(1,.p),(3,.l),(5,.i),(6,.i),(7,.i)] (.n (.seq (some [(1,.p),(3,.l),(5,.i),(6,.i),(7,.i),(77,.b)]) (.reg (rn 22) [[],[],[1],[],[1,2,3],[1,2,3,4],[1,2,3,4,5],[1,2,3,4,5,6],(rn 8),(rn 9),(rn 10),(rn 11),(rn 10),(rn 13),(rn 14),(rn 15),(rn 10),(rn 10),[0,1,2,3,4,5,6,7,8,9,16,17],[0,1,2,3,4,5,6,7,8,9,16,17,18],(rn 20),(rn 21)]) (.cond .z .z)) (.seq (some [(1,.p),(3,.l),(5,.i),(6,.i),(7,.i)]) (.blk (.q (.seq (some [(1,.p),(3,.l),(5,.i),(6,.i),(7,.i),(8,.s),(97,.b)]) .r (.cond .r .z)))) .r)))))) .r)))))) .r))))) (.n (.q (.blk (.loop [(3,.l),(9,.i)] (.n (.q (.cond .z .z)) (.n (.blk (.q (.blk (.loop [(3,.l),(9,.i),(10,.i)] (.n (.seq (some [(3,.l),(9,.i),(10,.i),(122,.b)]) (.reg (rn 14) [[],[0],[0,1],[0,1,2],[0,1,2],[0,1,2,4],(rn 6),(rn 7),[0,1,2],[0,1,2],[0,1,2,8,9],[0,1,2,8,9,10],(rn 12),(rn 13)]) (.cond .z .z)) (.n (.blk (.reg (rn 18) [[],[],[1],[],[],[],[],[5,6],[5,6,7],[],[],[10],[9,10,11],[9,10,11,12],[0,1,2,5,6,7,8,9,10,11,12,13],[0,1,2,5,6,7,8,9,10,11,12,13,14],(rn 16),(rn 17)])) .r)))))) .r))))) (.q .z))))))
def g14 (v1:Sl) (v2:Sl) (K:KH):s9 :=
 A9 (.cells ⟨[.slice v1.base v1.len v1.cap,.slice v2.base v2.len v2.cap]⟩ 25 (0,0)) (fun b3=>l9 [.sc .ptr,.sc .slc,.sc (.int .i64)] (fun(R4:u4->Sl->Int->s9)=>(fun(v5:u4) (v6:Sl) (v7:Int)=>j0 v5 (fun b8 o9=>l4 (s5 b8 (o9+1)) kL (fun x10=>l8 (decide ((v7:Int)<((x10.len:Nat):Int))) (w9 (T:=u4->Sl->Int->s9) (fun v12 v13 v14=>R4 v12 v13 (IntKind.i64.wrap (v14+1))) (fun j11 =>
 w9 (T:=u4->Sl->Int->Bool->s9) (fun v16 v17 v18 x19=>l8 x19 (j0 v16 (fun b20 o21=>l4 (s5 b20 (o21+1)) kL (fun x22=>j0 x22.base (fun b23 o24=>w6 (0<=v18/\v18<((x22.len:Nat):Int)) (l4 (s5 b23 (o24+v18.toNat * 1)) kS (fun(x25:j1)=>A9 (.cells ⟨[.string x25]⟩ 9 (0,0)) (fun b26=>Q4 .append #[23,23] 23 [false,false] [.slice v17.base v17.len v17.cap,.slice (some ⟨b26,0,none⟩) 1 1] kL (fun x27 =>
 j11 v16 x27 v18)))))))) (j11 v16 v17 v18)) (fun j15=>j0 v5 (fun b28 o29=>l4 (rdA 2 b28 o29) (.one (.agg [.slc,.slc])) (fun x30 x31=>j0 v5 (fun b32 o33=>l4 (s5 b32 (o33+1)) kL (fun x34=>j0 x34.base (fun b35 o36=>w6 (0<=v7/\v7<((x34.len:Nat):Int)) (l4 (s5 b35 (o36+v7.toNat * 1)) kS (fun(x37:j1)=>d8 31 [.agg ⟨[.slice x30.base x30.len x30.cap,.slice x31.base x31.len x31.cap]⟩,.string x37] kB (fun x38=>l8 x38
 (j0 v5 (fun b39 o40=>l4 (s5 b39 (o40+1)) kL (fun x41=>j0 x41.base (fun b42 o43=>w6 (0<=v7/\v7<((x41.len:Nat):Int)) (l4 (s5 b42 (o43+v7.toNat * 1)) kS (fun(x44:j1)=>d8 36 [.slice v6.base v6.len v6.cap,.string x44] kB (fun x45=>j15 v5 v6 v7 (!x45)))))))) (j15 v5 v6 v7 false))))))))))))
 (l9 [.sc .ptr,.sc .slc,.sc (.int .i64)] (fun(R46:u4->Sl->Int->s9)=>(fun(v47:u4) (v48:Sl) (v49:Int)=>l8 (decide ((v49:Int)<((v48.len:Nat):Int))) (l9 [.sc .ptr,.sc .slc,.sc (.int .i64),.sc (.int .i64)] (fun(R50:u4->Sl->Int->Int->s9)=>(fun(v51:u4) (v52:Sl) (v53:Int) (v54:Int)=>j0 v51 (fun b55 o56=>l4 (s5 b55 o56) kL (fun x57 =>
 l8 (decide ((v54:Int)<((x57.len:Nat):Int))) (l9 [.sc .ptr,.sc .slc,.sc (.int .i64),.sc (.int .i64),.sc (.int .i64)] (fun(R58:u4->Sl->Int->Int->Int->s9)=>(fun(v59:u4) (v60:Sl) (v61:Int) (v62:Int) (v63:Int)=>w9 (T:=u4->Sl->Int->Int->Int->Bool->s9) (fun v65 v66 v67 v68 v69 x70=>l8 x70 (w9 (T:=u4->Sl->Int->Int->Int->s9) (fun v72 v73 v74 v75 v76 =>
 R58 v72 v73 v74 v75 (IntKind.i64.wrap (v76+1))) (fun j71=>j0 v65 (fun b77 o78=>l4 (s5 b77 o78) kL (fun x79=>j0 x79.base (fun b80 o81=>w6 (0<=v68/\v68<((x79.len:Nat):Int)) (l4 (s5 b80 (o81+v68.toNat * 4+1)) kL (fun x82=>j0 x82.base (fun b83 o84=>w6 (0<=v69/\v69<((x82.len:Nat):Int)) (l4 (s5 b83 (o84+v69.toNat * 1)) kS (fun(x85:j1) =>
 w9 (T:=u4->Sl->Int->Int->Int->j1->Bool->s9) (fun v87 v88 v89 v90 v91 v92 x93=>l8 x93 (A9 (.cells ⟨[.string v92]⟩ 9 (0,0)) (fun b94=>Q4 .append #[23,23] 23 [false,false] [.slice v88.base v88.len v88.cap,.slice (some ⟨b94,0,none⟩) 1 1] kL (fun x95=>j71 v87 x95 v89 v90 v91))) (j71 v87 v88 v89 v90 v91)) (fun j86=>j0 v65 (fun b96 o97=>l4 (rdA 2 b96 o97) (.one (.agg [.slc,.slc])) (fun x98 x99 =>
 d8 31 [.agg ⟨[.slice x98.base x98.len x98.cap,.slice x99.base x99.len x99.cap]⟩,.string x85] kB (fun x100=>l8 x100 (d8 36 [.slice v66.base v66.len v66.cap,.string x85] kB (fun x101=>j86 v65 v66 v67 v68 v69 x85 (!x101))) (j86 v65 v66 v67 v68 v69 x85 false))))))))))))))) (R50 v65 v66 v67 (IntKind.i64.wrap (v68+1)))) (fun j64=>j0 v59 (fun b102 o103=>l4 (s5 b102 o103) kL (fun x104=>j0 x104.base (fun b105 o106 =>
 w6 (0<=v62/\v62<((x104.len:Nat):Int)) (l4 (s5 b105 (o106+v62.toNat * 4+1)) kL (fun x107=>l8 (decide ((v63:Int)<((x107.len:Nat):Int))) (j0 v59 (fun b108 o109=>l4 (s5 b108 o109) kL (fun x110=>j0 x110.base (fun b111 o112=>w6 (0<=v62/\v62<((x110.len:Nat):Int)) (l4 (s5 b111 (o112+v62.toNat * 4)) kS (fun(x113:j1)=>j0 v60.base (fun b114 o115=>w6 (0<=v61/\v61<((v60.len:Nat):Int))
 (l4 (s5 b114 (o115+v61.toNat * 1)) kS (fun(x116:j1)=>j64 v59 v60 v61 v62 v63 (B8 x113 x116)))))))))) (j64 v59 v60 v61 v62 v63 false))))))))) (fun(R117:u4->Sl->Int->Int->Int->s9)=>R117 v51 v52 v53 v54 0)) (R46 v51 v52 (IntKind.i64.wrap (v53+1))))))) (fun(R118:u4->Sl->Int->Int->s9)=>R118 v47 v48 v49 0))
 (l9 [.sc .slc,.sc (.int .i64)] (fun(R119:Sl->Int->s9)=>(fun(v120:Sl) (v121:Int)=>l8 (decide ((v121:Int)<((v120.len:Nat):Int))) (l9 [.sc .slc,.sc (.int .i64),.sc (.int .i64)] (fun(R122:Sl->Int->Int->s9)=>(fun(v123:Sl) (v124:Int) (v125:Int)=>w9 (T:=Sl->Int->Int->Bool->s9) (fun v127 v128 v129 x130=>l8 x130 (j0 v127.base (fun b131 o132=>w6 (0<=v129/\v129<((v127.len:Nat):Int))
 (l4 (s5 b131 (o132+v129.toNat * 1)) kS (fun(x133:j1)=>j0 v127.base (fun b134 o135=>w6 (0<=IntKind.i64.wrap (v129 - 1)/\IntKind.i64.wrap (v129 - 1)<((v127.len:Nat):Int)) (l4 (s5 b134 (o135+(IntKind.i64.wrap (v129 - 1):Int).toNat * 1)) kS (fun(x136:j1)=>j0 v127.base (fun b137 o138=>w6 (0<=IntKind.i64.wrap (v129 - 1)/\IntKind.i64.wrap (v129 - 1)<((v127.len:Nat):Int))
 (t8 9 (.pointer (some ⟨b137,o138+(IntKind.i64.wrap (v129 - 1):Int).toNat * 1,none⟩)) (.string x133) (j0 v127.base (fun b139 o140=>w6 (0<=v129/\v129<((v127.len:Nat):Int)) (t8 9 (.pointer (some ⟨b139,o140+v129.toNat * 1,none⟩)) (.string x136) (R122 v127 v128 (IntKind.i64.wrap (v129 - 1))))))))))))))) (R119 v127 (IntKind.i64.wrap (v128+1)))) (fun j126=>l8 (decide ((v125:Int)>0)) (j0 v123.base (fun b141 o142 =>
 w6 (0<=IntKind.i64.wrap (v125 - 1)/\IntKind.i64.wrap (v125 - 1)<((v123.len:Nat):Int)) (l4 (s5 b141 (o142+(IntKind.i64.wrap (v125 - 1):Int).toNat * 1)) kS (fun(x143:j1)=>j0 v123.base (fun b144 o145=>w6 (0<=v125/\v125<((v123.len:Nat):Int)) (l4 (s5 b144 (o145+v125.toNat * 1)) kS (fun(x146:j1)=>j126 v123 v124 v125 (!(E4 x143 x146||B8 x143 x146)))))))))
 (j126 v123 v124 v125 false)))) (fun(R147:Sl->Int->Int->s9)=>R147 v120 v121 v121)) (K (.slice v120.base v120.len v120.cap)))) (fun(R148:Sl->Int->s9)=>R148 v48 0)))) (fun(R149:u4->Sl->Int->s9)=>R149 v5 v6 0)))))) (fun(R150:u4->Sl->Int->s9)=>R150 (some ⟨b3,0,none⟩) ⟨none,0,0⟩ 0))
theorem c14 (v1:Sl) (v2:Sl):g14 v1 v2 K σ->a8 14 [.agg ⟨[.slice v1.base v1.len v1.cap,.slice v2.base v2.len v2.cap]⟩] K σ:=k8 dk7 Tryz.func14


def dk8:Ann:=(.q (.q (.q (.q (.q (.n (.reg [0,1,2,3,4,5,6,7,8,9,10,11,12,13,14,16,17,15,18,19,20,21,22,23,24,25,26,27,28,29,30,31,32,33,34,35,36,37,38,39,40,41,42,43,44] [[],[0],[0,1],[0,1,2],(rn 4),(rn 5),(rn 6),(rn 7),(rn 8),(rn 9),(rn 10),(rn 11),(rn 12),(rn 13),(rn 14),(rn 15),(rn 14),[0,1,2,3,4,5,6,7,8,9,10,11,12,13,16],[0,1,2,3,4,5,6,7,8,9,10,11,12,13,16,17],(rn 19),(rn 20),(rn 21),(rn 22),(rn 23),(rn 24),(rn 25),(rn 26),(rn 27),(rn 28),(rn 29),(rn 30),(rn 29),(rn 32),(rn 33),(rn 34),(rn 35),(rn 36),(rn 37),(rn 37),(rn 39),(rn 40),(rn 41),(rn 42),(rn 43),(rn 44)]) .z))))))
def g15  (K:KH):s9 :=
 d8 20 [.string ⟨⟨[120]⟩⟩,.string ⟨⟨[49]⟩⟩] (.one (.agg [.str,.slc,.str,.str])) (fun(x1:j1) (x2:Sl) (x3:j1) (x4:j1)=>A9 (.cells ⟨[.string ⟨⟨[]⟩⟩,.slice none 0 0,.string ⟨⟨[]⟩⟩,.string ⟨⟨[]⟩⟩]⟩ 38 (0,0)) (fun b5 =>
 t8 38 (.pointer (some ⟨b5,0,none⟩)) (.agg ⟨[.string x1,.slice x2.base x2.len x2.cap,.string x3,.string x4]⟩) (l4 (rdA 4 b5 0) (.one (.agg [.str,.slc,.str,.str])) (fun(x6:j1) (x7:Sl) (x8:j1) (x9:j1)=>A9 (.cells ⟨[.string ⟨⟨[]⟩⟩,.slice none 0 0,.string ⟨⟨[]⟩⟩,.string ⟨⟨[]⟩⟩]⟩ 38 (0,0)) (fun b10 =>
 t8 38 (.pointer (some ⟨b10,0,none⟩)) (.agg ⟨[.string x6,.slice x7.base x7.len x7.cap,.string x8,.string x9]⟩) (d8 20 [.string ⟨⟨[120]⟩⟩,.string ⟨⟨[50]⟩⟩] (.one (.agg [.str,.slc,.str,.str])) (fun(_x11:j1) (_x12:Sl) (x13:j1) (_x14:j1) =>
 t8 9 (.pointer (some ⟨b10,2,none⟩)) (.string x13) (l4 (rdA 4 b5 0) (.one (.agg [.str,.slc,.str,.str])) (fun(x15:j1) (x16:Sl) (x17:j1) (x18:j1)=>A9 (.cells ⟨[.string x15,.slice x16.base x16.len x16.cap,.string x17,.string x18]⟩ 38 (0,0)) (fun b19=>l4 (s5 b5 0) kS (fun(x20:j1)=>A9 (.cells ⟨[.string x20]⟩ 9 (0,0)) (fun b21=>A9 (.cells ⟨[.slice none 0 0,.slice none 0 0]⟩ 28 (0,0)) (fun b22 =>
 t8 28 (.pointer (some ⟨b22,0,none⟩)) (.agg ⟨[.slice (some ⟨b19,0,none⟩) 1 1,.slice (some ⟨b21,0,none⟩) 1 1]⟩) (l4 (s5 b5 0) kS (fun(x23:j1)=>l8 (!B8 x23 (⟨⟨[]⟩⟩:j1)) (d8 9 [.agg ⟨[.slice none 0 0,.slice none 0 0]⟩] kI (fun(x24:Int)=>l8 ((x24:Int)==0) (l4 (rdA 2 b22 0) (.one (.agg [.slc,.slc])) (fun x25 x26=>d8 9 [.agg ⟨[.slice x25.base x25.len x25.cap,.slice x26.base x26.len x26.cap]⟩] kI (fun(x27:Int) =>
 l8 ((x27:Int)==0) (l4 (rdA 2 b22 0) (.one (.agg [.slc,.slc])) (fun x28 x29=>l4 (s5 b5 0) kS (fun(x30:j1)=>d8 13 [.agg ⟨[.slice x28.base x28.len x28.cap,.slice x29.base x29.len x29.cap]⟩] kL (fun x31=>A2 (fun σ=>(s5 b5 0) σ=some (.string x30)) (A9 (.cells ⟨[.string x30]⟩ 9 (0,0)) (fun b32=>d8 12 [.slice x31.base x31.len x31.cap,.slice (some ⟨b32,0,none⟩) 1 1] kB (fun x33=>l8 x33
 (l4 (rdA 4 b10 0) (.one (.agg [.str,.slc,.str,.str])) (fun(x34:j1) (x35:Sl) (x36:j1) (x37:j1)=>A9 (.cells ⟨[.string x34,.slice x35.base x35.len x35.cap,.string x36,.string x37]⟩ 38 (0,0)) (fun b38=>d8 9 [.agg ⟨[.slice (some ⟨b38,0,none⟩) 1 1,.slice none 0 0]⟩] kI (fun(x39:Int)=>l8 ((x39:Int)==6) (l4 (s5 b22 0) kL (fun x40=>A9 (.cells ⟨[.string ⟨⟨[120]⟩⟩]⟩ 9 (0,0)) (fun b41 =>
 d8 9 [.agg ⟨[.slice x40.base x40.len x40.cap,.slice (some ⟨b41,0,none⟩) 1 1]⟩] kI (fun(x42:Int)=>l8 ((x42:Int)==3) (l4 (rdA 4 b5 0) (.one (.agg [.str,.slc,.str,.str])) (fun(x43:j1) (x44:Sl) (x45:j1) (x46:j1)=>l4 (rdA 4 b5 0) (.one (.agg [.str,.slc,.str,.str])) (fun(x47:j1) (x48:Sl) (x49:j1) (x50:j1) =>
 A9 (.cells ⟨[.string x43,.slice x44.base x44.len x44.cap,.string x45,.string x46,.string x47,.slice x48.base x48.len x48.cap,.string x49,.string x50]⟩ 38 (0,0)) (fun b51=>d8 9 [.agg ⟨[.slice (some ⟨b51,0,none⟩) 2 2,.slice none 0 0]⟩] kI (fun(x52:Int)=>K (.bool ((x52:Int)==1))))))) (K (.bool false)))))) (K (.bool false)))))) (K (.bool false))))))))) (K (.bool false))))) (K (.bool false)))) (K (.bool false)))))))))))))))))
theorem c15 :g15  K σ->a8 15 [] K σ:=k8 dk8 Tryz.func15


def dk9:Ann:=(.q (.q (.q (.n (.seq (some [(4,.p),(5,.s),(7,.s),(26,.b)]) .r (.h)) (.q .z)))))
def g20 (v1:j1) (v2:j1) (K:KH):s9 :=
 A9 (.cells ⟨[.string ⟨⟨[]⟩⟩,.slice none 0 0,.string ⟨⟨[]⟩⟩,.string ⟨⟨[]⟩⟩]⟩ 38 (0,0)) (fun b3=>d8 41 [.agg ⟨[.string ⟨⟨[]⟩⟩,.int .i64 1,.bool false,.string v2,.slice none 0 0]⟩] (.tup [.sc .str,.sc (.int .i64)]) (fun(x4:j1) (x5:Int)=>d8 42 [.string x4,.string v1] (.tup [.sc .str,.sc (.int .i64)]) (fun(x6:j1) (x7:Int) =>
 w9 (T:=u4->j1->j1->Bool->s9) (fun x9 v10 v11 x12=>l8 x12 (t8 38 (.pointer x9) (.agg ⟨[.string ⟨⟨[]⟩⟩,.slice none 0 0,.string ⟨⟨[]⟩⟩,.string ⟨⟨[]⟩⟩]⟩) (j0 x9 (fun b13 o14=>l4 (rdA 4 b13 o14) (.one (.agg [.str,.slc,.str,.str])) (fun(r15:j1) (r16:Sl) (r17:j1) (r18:j1)=>K (.agg ⟨[.string r15,.slice r16.base r16.len r16.cap,.string r17,.string r18]⟩)))))
 (t8 38 (.pointer x9) (.agg ⟨[.string v11,.slice none 0 0,.string v10,.string ⟨⟨[]⟩⟩]⟩) (j0 x9 (fun b19 o20=>l4 (rdA 4 b19 o20) (.one (.agg [.str,.slc,.str,.str])) (fun(r21:j1) (r22:Sl) (r23:j1) (r24:j1)=>K (.agg ⟨[.string r21,.slice r22.base r22.len r22.cap,.string r23,.string r24]⟩)))))) (fun j8=>l8 ((x5:Int) != 0) (j8 (some ⟨b3,0,none⟩) x4 x6 true) (j8 (some ⟨b3,0,none⟩) x4 x6 ((x7:Int) != 0))))))
theorem c20 (v1:j1) (v2:j1):g20 v1 v2 K σ->a8 20 [.string v1,.string v2] K σ:=k8 dk9 Tryz.func20


def dl0:Ann:=(.q (.q (.n (.q (.blk (.loop [(0,.l),(3,.l),(4,.i)] (.n (.seq (some [(0,.l),(3,.l),(4,.i),(12,.b)]) .r (.cond .z .z)) (.n (.blk (.reg (rn 15) [[],[],[],[1,2],[1,2,3],[],[],[5,6],[5,6,7],[5,6,7,8],[5,6,7,8,9],[1,2,3,4,5,6,7,8,9,10],[1,2,3,4,5,6,7,8,9,10,11],(rn 13),(rn 14)])) .r))))) (.q .z))))
def g22 (v1:Sl) (K:KH):s9 :=
 l9 [.sc .slc,.sc .slc,.sc (.int .i64)] (fun(R2:Sl->Sl->Int->s9)=>(fun(v3:Sl) (v4:Sl) (v5:Int)=>w9 (T:=Sl->Sl->Int->Bool->s9) (fun v7 v8 v9 x10=>l8 x10 (j0 v7.base (fun b11 o12=>w6 (0<=v9/\v9<((v7.len:Nat):Int)) (l4 (s5 b11 (o12+v9.toNat * 1)) kS (fun(x13:j1)=>j0 v7.base (fun b14 o15=>w6 (0<=v9/\v9<((v7.len:Nat):Int)) (l4 (s5 b14 (o15+v9.toNat * 1)) kS (fun(x16:j1) =>
 w6 (A1 (some (if 60<((x16.size:Nat):Int)then 60 else((x16.size:Nat):Int))) x13.size/\A1 none ((if 60<((x16.size:Nat):Int)then 60 else((x16.size:Nat):Int)).toNat)) (A9 (.cells ⟨[.string (x13.extract 0 ((if 60<((x16.size:Nat):Int)then 60 else((x16.size:Nat):Int)).toNat))]⟩ 9 (0,0)) (fun b17=>Q4 .append #[23,23] 23 [false,false] [.slice v8.base v8.len v8.cap,.slice (some ⟨b17,0,none⟩) 1 1] kL (fun x18 =>
 R2 v7 x18 (IntKind.i64.wrap (v9+1)))))))))))) (K (.slice v8.base v8.len v8.cap))) (fun j6=>l8 (decide ((v5:Int)<((v3.len:Nat):Int))) (j6 v3 v4 v5 (decide ((v5:Int)<8))) (j6 v3 v4 v5 false)))) (fun(R19:Sl->Sl->Int->s9)=>R19 v1 ⟨none,0,0⟩ 0)
theorem c22 (v1:Sl):g22 v1 K σ->a8 22 [.slice v1.base v1.len v1.cap] K σ:=k8 dl0 Tryz.func22


def dl2:Ann:=(.q (.q (.n (.q (.blk (.loop [(2,.p),(3,.p),(12,.l),(13,.i),(14,.i)] (.q (.n (.cond .z .z) (.seq (some [(2,.p),(3,.p),(12,.l),(13,.i),(14,.i)]) (.blk (.q (.q (.q (.cond .r .z))))) .r)))))) (.q .z))))
def g23 (v1:Sl) (v2:Sl) (K:KH):s9 :=
 A9 (.cells ⟨[.slice v1.base v1.len v1.cap,.slice v2.base v2.len v2.cap]⟩ 28 (0,0)) (fun b3=>A9 (.cells ⟨[.slice none 0 0,.slice none 0 0,.map none]⟩ 55 (0,0)) (fun b4=>l4 (rdA 2 b3 0) (.one (.agg [.slc,.slc])) (fun x5 x6=>A9 (.map #[] 0) (fun b7=>A9 (.cells ⟨[.slice none 0 0,.slice none 0 0,.map none]⟩ 55 (0,0)) (fun b8 =>
 t8 55 (.pointer (some ⟨b8,0,none⟩)) (.agg ⟨[.slice x5.base x5.len x5.cap,.slice x6.base x6.len x6.cap,.map (some b7)]⟩) (l4 (s5 b3 0) kL (fun x9=>l9 [.sc .ptr,.sc .ptr,.sc .slc,.sc (.int .i64),.sc (.int .i64)] (fun(R10:u4->u4->Sl->Int->Int->s9)=>(fun(x11:u4) (v12:u4) (x13:Sl) (x14:Int) (x15:Int)=>l8 (decide ((x15:Int)<x14))
 (w9 (T:=u4->u4->Sl->Int->Int->s9) (fun x17 v18 x19 x20 x21=>R10 x17 v18 x19 x20 (IntKind.i64.wrap (x21+1))) (fun j16=>j0 x13.base (fun b22 o23=>w6 (0<=x15/\x15<((x13.len:Nat):Int)) (l4 (rdA 4 b22 (o23+x15.toNat * 4)) (.one (.agg [.str,.slc,.str,.str])) (fun(x24:j1) (x25:Sl) (x26:j1) (x27:j1) =>
 A9 (.cells ⟨[.string ⟨⟨[]⟩⟩,.slice none 0 0,.string ⟨⟨[]⟩⟩,.string ⟨⟨[]⟩⟩]⟩ 38 (0,0)) (fun b28=>t8 38 (.pointer (some ⟨b28,0,none⟩)) (.agg ⟨[.string x24,.slice x25.base x25.len x25.cap,.string x26,.string x27]⟩) (j0 v12 (fun b29 o30=>l4 (s5 b29 (o30+2)) kM (fun(x31:Option Nat)=>l4 (s5 b28 0) kS (fun(x32:j1) =>
 l4 (rdM .string (.agg ⟨[.string ⟨⟨[]⟩⟩,.slice none 0 0,.string ⟨⟨[]⟩⟩,.string ⟨⟨[]⟩⟩]⟩) true x31 (.string x32)) (.tup [.agg [.str,.slc,.str,.str],.sc .bool]) (fun(x33:j1) (x34:Sl) (x35:j1) (x36:j1) (x37:Bool)=>A9 (.cells ⟨[.string ⟨⟨[]⟩⟩,.slice none 0 0,.string ⟨⟨[]⟩⟩,.string ⟨⟨[]⟩⟩]⟩ 38 (0,0)) (fun b38 =>
 t8 38 (.pointer (some ⟨b38,0,none⟩)) (.agg ⟨[.string x33,.slice x34.base x34.len x34.cap,.string x35,.string x36]⟩) (l8 (!x37) (j0 v12 (fun b39 o40=>l4 (s5 b39 (o40+2)) kM (fun(x41:Option Nat)=>l4 (s5 b28 0) kS (fun(x42:j1)=>l4 (rdA 4 b28 0) (.one (.agg [.str,.slc,.str,.str])) (fun(x43:j1) (x44:Sl) (x45:j1) (x46:j1) =>
 aj0 53 (.map x41) (.string x42) (.agg ⟨[.string x43,.slice x44.base x44.len x44.cap,.string x45,.string x46]⟩) (j16 x11 v12 x13 x14 x15)))))) (j16 x11 v12 x13 x14 x15)))))))))))))) (j0 v12 (fun b47 o48=>l4 (rdA 3 b47 o48) (.one (.agg [.slc,.slc,.map])) (fun(x49:Sl) (x50:Sl) (x51:Option Nat)=>t8 55 (.pointer x11) (.agg ⟨[.slice x49.base x49.len x49.cap,.slice x50.base x50.len x50.cap,.map x51]⟩) (j0 x11 (fun b52 o53 =>
 l4 (rdA 3 b52 o53) (.one (.agg [.slc,.slc,.map])) (fun(r54:Sl) (r55:Sl) (r56:Option Nat)=>K (.agg ⟨[.slice r54.base r54.len r54.cap,.slice r55.base r55.len r55.cap,.map r56]⟩))))))))) (fun(R57:u4->u4->Sl->Int->Int->s9)=>R57 (some ⟨b4,0,none⟩) (some ⟨b8,0,none⟩) x9 ((x9.len:Nat):Int) 0))))))))
theorem c23 (v1:Sl) (v2:Sl):g23 v1 v2 K σ->a8 23 [.agg ⟨[.slice v1.base v1.len v1.cap,.slice v2.base v2.len v2.cap]⟩] K σ:=k8 dl2 Tryz.func23


def dl3:Ann:=(.q (.q (.n (.q (.blk (.loop [(1,.p),(3,.l),(8,.l),(9,.i),(10,.i)] (.q (.n (.cond .z .z) (.n (.blk (.q .r)) .r)))))) (.q .z))))
def g24 (v1:Sl) (v2:Sl) (v3:Option Nat) (K:KH):s9 :=
 A9 (.cells ⟨[.slice v1.base v1.len v1.cap,.slice v2.base v2.len v2.cap,.map v3]⟩ 55 (0,0)) (fun b4=>l4 (s5 b4 0) kL (fun x5=>l9 [.sc .ptr,.sc .slc,.sc .slc,.sc (.int .i64),.sc (.int .i64)] (fun(R6:u4->Sl->Sl->Int->Int->s9)=>(fun(v7:u4) (v8:Sl) (x9:Sl) (x10:Int) (x11:Int)=>l8 (decide ((x11:Int)<x10)) (j0 x9.base (fun b12 o13=>w6 (0<=x11/\x11<((x9.len:Nat):Int))
 (l4 (rdA 4 b12 (o13+x11.toNat * 4)) (.one (.agg [.str,.slc,.str,.str])) (fun(x14:j1) (x15:Sl) (x16:j1) (x17:j1)=>A9 (.cells ⟨[.string ⟨⟨[]⟩⟩,.slice none 0 0,.string ⟨⟨[]⟩⟩,.string ⟨⟨[]⟩⟩]⟩ 38 (0,0)) (fun b18=>t8 38 (.pointer (some ⟨b18,0,none⟩)) (.agg ⟨[.string x14,.slice x15.base x15.len x15.cap,.string x16,.string x17]⟩) (l4 (s5 b18 0) kS (fun(x19:j1) =>
 A9 (.cells ⟨[.string x19]⟩ 9 (0,0)) (fun b20=>Q4 .append #[23,23] 23 [false,false] [.slice v8.base v8.len v8.cap,.slice (some ⟨b20,0,none⟩) 1 1] kL (fun x21=>R6 v7 x21 x9 x10 (IntKind.i64.wrap (x11+1))))))))))) (d8 43 [.slice v8.base v8.len v8.cap] kB (fun x22=>l8 x22 (j0 v7 (fun b23 o24=>l4 (rdA 3 b23 o24) (.one (.agg [.slc,.slc,.map])) (fun(x25:Sl) (x26:Sl) (x27:Option Nat) =>
 d8 44 [.agg ⟨[.slice x25.base x25.len x25.cap,.slice x26.base x26.len x26.cap,.map x27]⟩,.func (.func 45) ⟨[]⟩ ⟨[]⟩] kB (fun x28=>K (.bool x28))))) (K (.bool false)))))) (fun(R29:u4->Sl->Sl->Int->Int->s9)=>R29 (some ⟨b4,0,none⟩) ⟨none,0,0⟩ x5 ((x5.len:Nat):Int) 0)))
theorem c24 (v1:Sl) (v2:Sl) (v3:Option Nat):g24 v1 v2 v3 K σ->a8 24 [.agg ⟨[.slice v1.base v1.len v1.cap,.slice v2.base v2.len v2.cap,.map v3]⟩] K σ:=k8 dl3 Tryz.func24


def dl4:Ann:=(.q (.q .z))
def g25 (v1:Sl) (v2:Sl) (v3:Option Nat) (K:KH):s9 :=
 A9 (.cells ⟨[.slice v1.base v1.len v1.cap,.slice v2.base v2.len v2.cap,.map v3]⟩ 55 (0,0)) (fun b4=>l4 (rdA 3 b4 0) (.one (.agg [.slc,.slc,.map])) (fun(x5:Sl) (x6:Sl) (x7:Option Nat)=>d8 44 [.agg ⟨[.slice x5.base x5.len x5.cap,.slice x6.base x6.len x6.cap,.map x7]⟩,.func (.func 49) ⟨[]⟩ ⟨[.pointer (some ⟨b4,0,none⟩)]⟩] kB (fun x8=>K (.bool x8))))
theorem c25 (v1:Sl) (v2:Sl) (v3:Option Nat):g25 v1 v2 v3 K σ->a8 25 [.agg ⟨[.slice v1.base v1.len v1.cap,.slice v2.base v2.len v2.cap,.map v3]⟩] K σ:=k8 dl4 Tryz.func25


def dl5:Ann:=(.q (.q .z))
def g26 (v1:Sl) (v2:Sl) (v3:Option Nat) (K:KH):s9 :=
 A9 (.cells ⟨[.slice v1.base v1.len v1.cap,.slice v2.base v2.len v2.cap,.map v3]⟩ 55 (0,0)) (fun b4=>l4 (s5 b4 1) kL (fun x5=>d8 43 [.slice x5.base x5.len x5.cap] kB (fun x6=>l8 x6 (l4 (s5 b4 1) kL (fun x7=>d8 47 [.slice x7.base x7.len x7.cap,.func (.func 51) ⟨[]⟩ ⟨[.pointer (some ⟨b4,0,none⟩)]⟩] kB (fun x8=>K (.bool (!x8))))) (K (.bool false)))))
theorem c26 (v1:Sl) (v2:Sl) (v3:Option Nat):g26 v1 v2 v3 K σ->a8 26 [.agg ⟨[.slice v1.base v1.len v1.cap,.slice v2.base v2.len v2.cap,.map v3]⟩] K σ:=k8 dl5 Tryz.func26


def dl6:Ann:=(.q (.q .z))
def g27 (v1:Sl) (v2:Sl) (v3:Option Nat) (K:KH):s9 :=
 A9 (.cells ⟨[.slice v1.base v1.len v1.cap,.slice v2.base v2.len v2.cap,.map v3]⟩ 55 (0,0)) (fun b4=>l4 (rdA 3 b4 0) (.one (.agg [.slc,.slc,.map])) (fun(x5:Sl) (x6:Sl) (x7:Option Nat)=>d8 44 [.agg ⟨[.slice x5.base x5.len x5.cap,.slice x6.base x6.len x6.cap,.map x7]⟩,.func (.func 52) ⟨[]⟩ ⟨[]⟩] kB (fun x8=>K (.bool x8))))
theorem c27 (v1:Sl) (v2:Sl) (v3:Option Nat):g27 v1 v2 v3 K σ->a8 27 [.agg ⟨[.slice v1.base v1.len v1.cap,.slice v2.base v2.len v2.cap,.map v3]⟩] K σ:=k8 dl6 Tryz.func27


def dl8:Ann:=(.q (.q .z))
def g28 (v1:Sl) (v2:Sl) (v3:Option Nat) (K:KH):s9 :=
 A9 (.cells ⟨[.slice v1.base v1.len v1.cap,.slice v2.base v2.len v2.cap,.map v3]⟩ 55 (0,0)) (fun b4=>l4 (rdA 3 b4 0) (.one (.agg [.slc,.slc,.map])) (fun(x5:Sl) (x6:Sl) (x7:Option Nat)=>d8 44 [.agg ⟨[.slice x5.base x5.len x5.cap,.slice x6.base x6.len x6.cap,.map x7]⟩,.func (.func 54) ⟨[]⟩ ⟨[]⟩] kB (fun x8=>K (.bool x8))))
theorem c28 (v1:Sl) (v2:Sl) (v3:Option Nat):g28 v1 v2 v3 K σ->a8 28 [.agg ⟨[.slice v1.base v1.len v1.cap,.slice v2.base v2.len v2.cap,.map v3]⟩] K σ:=k8 dl8 Tryz.func28


def dl9:Ann:=(.q (.q .z))
def g29 (v1:Sl) (v2:Sl) (v3:Option Nat) (K:KH):s9 :=
 A9 (.cells ⟨[.slice v1.base v1.len v1.cap,.slice v2.base v2.len v2.cap,.map v3]⟩ 55 (0,0)) (fun b4=>l4 (rdA 3 b4 0) (.one (.agg [.slc,.slc,.map])) (fun(x5:Sl) (x6:Sl) (x7:Option Nat)=>d8 44 [.agg ⟨[.slice x5.base x5.len x5.cap,.slice x6.base x6.len x6.cap,.map x7]⟩,.func (.func 58) ⟨[]⟩ ⟨[]⟩] kB (fun x8=>K (.bool x8))))
theorem c29 (v1:Sl) (v2:Sl) (v3:Option Nat):g29 v1 v2 v3 K σ->a8 29 [.agg ⟨[.slice v1.base v1.len v1.cap,.slice v2.base v2.len v2.cap,.map v3]⟩] K σ:=k8 dl9 Tryz.func29


def dm1:Ann:=(.q (.q (.q (.seq (some []) (.q (.blk (.q (.cond (.n (.seq (some [(7,.p),(51,.b)]) (.reg (rn 20) [[],[0],[0,1],[0,1,2],(rn 4),[0,1,2],[0,1,2,5],(rn 7),(rn 8),(rn 9),[0,1,2],[0,1,2,10],(rn 12),(rn 13),(rn 14),(rn 15),(rn 16),(rn 17),(rn 18),(rn 19)]) (.h)) (.q (.blk (.loop [(7,.p),(10,.i)] (.n (.q (.cond .z .z)) (.n (.blk (.seq (some [(7,.p),(10,.i),(83,.b)]) (.reg (rn 25) [[],[0],[],[0,1,2],(rn 4),(rn 5),(rn 6),(rn 7),(rn 8),(rn 9),(rn 10),(rn 11),(rn 12),(rn 11),[0,1,2,3,4,5,6,7,8,9,10,13],(rn 15),(rn 16),(rn 11),[0,1,2,3,4,5,6,7,8,9,10,17],(rn 11),[0,1,2,3,4,5,6,7,8,9,10,17,18,19],[0,1,2,3,4,5,6,7,8,9,10,17,18,19,20],(rn 22),(rn 23),(rn 24)]) (.h))) .r)))))) (.q (.cond (.q (.blk (.loop [(3,.p),(7,.p),(11,.i)] (.n (.q (.cond .z .z)) (.n (.blk (.n (.reg (rn 8) [[],[],[1],[],[1,2,3],[1,2,3,4],(rn 6),(rn 7)]) (.h))) .r))))) (.q (.cond (.q (.q .z)) (.q (.cond (.q (.blk (.loop [(7,.p),(8,.p),(14,.i)] (.n (.q (.cond .z .z)) (.n (.blk (.q (.q (.h)))) .r))))) (.q (.h)))))))))))) (.q .z)))))
def g30 (v1:Sl) (v2:Sl) (v3:Int) (v4:Int) (K:KH):s9 :=
 A9 (.cells ⟨[.slice v1.base v1.len v1.cap,.slice v2.base v2.len v2.cap]⟩ 25 (0,0)) (fun b5=>l4 (s5 b5 0) kL (fun x6=>j0 x6.base (fun b7 o8=>w6 (0<=v3/\v3<((x6.len:Nat):Int)) (l4 (rdA 4 b7 (o8+v3.toNat * 4)) (.one (.agg [.str,.slc,.str,.str])) (fun(x9:j1) (x10:Sl) (x11:j1) (x12:j1)=>A9 (.cells ⟨[.string ⟨⟨[]⟩⟩,.slice none 0 0,.string ⟨⟨[]⟩⟩,.string ⟨⟨[]⟩⟩]⟩ 38 (0,0)) (fun b13 =>
 t8 38 (.pointer (some ⟨b13,0,none⟩)) (.agg ⟨[.string x9,.slice x10.base x10.len x10.cap,.string x11,.string x12]⟩) (l4 (s5 b13 2) kS (fun(x14:j1)=>d8 60 [.string x14] (.tup [.agg [.str,(.int .i64),.bool,.str,.slc],.sc (.int .i64)]) (fun(x15:j1) (x16:Int) (x17:Bool) (x18:j1) (x19:Sl) (x20:Int) =>
 A9 (.cells ⟨[.string ⟨⟨[]⟩⟩,.int .i64 0,.bool false,.string ⟨⟨[]⟩⟩,.slice none 0 0]⟩ 75 (0,0)) (fun b21=>t8 75 (.pointer (some ⟨b21,0,none⟩)) (.agg ⟨[.string x15,.int .i64 x16,.bool x17,.string x18,.slice x19.base x19.len x19.cap]⟩) (w9 (T:=s9) (K (.bool true)) (fun j22=>l8 ((v4:Int)==1) (w9 (T:=u4->Bool->s9) (fun v24 x25=>l8 x25 (K (.bool false))
 (l9 [.sc .ptr,.sc (.int .i64)] (fun(R26:u4->Int->s9)=>(fun(v27:u4) (v28:Int)=>j0 v27 (fun b29 o30=>l4 (s5 b29 (o30+1)) kL (fun x31=>l8 (decide ((v28:Int)<((x31.len:Nat):Int))) (w9 (T:=u4->Int->Bool->s9) (fun v33 v34 x35=>l8 x35 (K (.bool false)) (R26 v33 (IntKind.i64.wrap (v34+1)))) (fun j32=>j0 v27 (fun b36 o37=>l4 (s5 b36 (o37+1)) kL (fun x38=>j0 x38.base (fun b39 o40 =>
 w6 (0<=v28/\v28<((x38.len:Nat):Int)) (l4 (s5 b39 (o40+v28.toNat * 1)) kS (fun(x41:j1)=>d8 61 [.string x41] kB (fun x42=>l8 (!x42) (j32 v27 v28 true) (l8 (decide ((v28:Int)>0)) (j0 v27 (fun b43 o44=>l4 (s5 b43 (o44+1)) kL (fun x45=>j0 x45.base (fun b46 o47=>w6 (0<=IntKind.i64.wrap (v28 - 1)/\IntKind.i64.wrap (v28 - 1)<((x45.len:Nat):Int))
 (l4 (s5 b46 (o47+(IntKind.i64.wrap (v28 - 1):Int).toNat * 1)) kS (fun(x48:j1)=>j0 v27 (fun b49 o50=>l4 (s5 b49 (o50+1)) kL (fun x51=>j0 x51.base (fun b52 o53=>w6 (0<=v28/\v28<((x51.len:Nat):Int)) (l4 (s5 b52 (o53+v28.toNat * 1)) kS (fun(x54:j1)=>j32 v27 v28 (!E4 x48 x54)))))))))))) (j32 v27 v28 false)))))))))) (j22))))) (fun(R55:u4->Int->s9)=>R55 v24 0))) (fun j23=>l8 (decide ((v3:Int)>0))
 (l4 (s5 b5 0) kL (fun x56=>j0 x56.base (fun b57 o58=>w6 (0<=IntKind.i64.wrap (v3 - 1)/\IntKind.i64.wrap (v3 - 1)<((x56.len:Nat):Int)) (l4 (s5 b57 (o58+(IntKind.i64.wrap (v3 - 1):Int).toNat * 4)) kS (fun(x59:j1)=>l4 (s5 b13 0) kS (fun(x60:j1)=>l8 (!E4 x59 x60) (j23 (some ⟨b13,0,none⟩) true) (l4 (s5 b13 0) kS (fun(x61:j1)=>d8 61 [.string x61] kB (fun x62=>j23 (some ⟨b13,0,none⟩) (!x62))))))))))
 (l4 (s5 b13 0) kS (fun(x63:j1)=>d8 61 [.string x63] kB (fun x64=>j23 (some ⟨b13,0,none⟩) (!x64)))))) (l8 ((v4:Int)==2) (l9 [.sc .ptr,.sc .ptr,.sc (.int .i64)] (fun(R65:u4->u4->Int->s9)=>(fun(v66:u4) (v67:u4) (v68:Int)=>j0 v67 (fun b69 o70=>l4 (s5 b69 (o70+1)) kL (fun x71=>l8 (decide ((v68:Int)<((x71.len:Nat):Int))) (j0 v66 (fun b72 o73 =>
 l4 (rdA 2 b72 o73) (.one (.agg [.slc,.slc])) (fun x74 x75=>j0 v67 (fun b76 o77=>l4 (s5 b76 (o77+1)) kL (fun x78=>j0 x78.base (fun b79 o80=>w6 (0<=v68/\v68<((x78.len:Nat):Int)) (l4 (s5 b79 (o80+v68.toNat * 1)) kS (fun(x81:j1)=>d8 31 [.agg ⟨[.slice x74.base x74.len x74.cap,.slice x75.base x75.len x75.cap]⟩,.string x81] kB (fun x82=>l8 (!x82) (K (.bool false)) (R65 v66 v67 (IntKind.i64.wrap (v68+1))))))))))))
 (j22))))) (fun(R83:u4->u4->Int->s9)=>R83 (some ⟨b5,0,none⟩) (some ⟨b13,0,none⟩) 0)) (l8 ((v4:Int)==4) (l4 (rdA 5 b21 0) (.one (.agg [.str,(.int .i64),.bool,.str,.slc])) (fun(x84:j1) (x85:Int) (x86:Bool) (x87:j1) (x88:Sl)=>d8 62 [.agg ⟨[.string x84,.int .i64 x85,.bool x86,.string x87,.slice x88.base x88.len x88.cap]⟩] (.tup [.sc .str,.sc (.int .i64)]) (fun(x89:j1) (x90:Int) =>
 l8 ((x20:Int)==0) (l8 ((x90:Int)==0) (l4 (s5 b13 2) kS (fun(x91:j1)=>K (.bool (B8 x89 x91)))) (K (.bool false))) (K (.bool false))))) (l8 ((v4:Int)==5) (l9 [.sc .ptr,.sc .ptr,.sc (.int .i64)] (fun(R92:u4->u4->Int->s9)=>(fun(v93:u4) (v94:u4) (v95:Int)=>j0 v93 (fun b96 o97=>l4 (s5 b96 (o97+1)) kL (fun x98=>l8 (decide ((v95:Int)<((x98.len:Nat):Int)))
 (j0 v93 (fun b99 o100=>l4 (s5 b99 (o100+1)) kL (fun x101=>j0 x101.base (fun b102 o103=>w6 (0<=v95/\v95<((x101.len:Nat):Int)) (l4 (s5 b102 (o103+v95.toNat * 1)) kS (fun(x104:j1)=>d8 63 [.string x104] (.tup [.sc .str,.sc .str,.sc (.int .i64)]) (fun(x105:j1) (_x106:j1) (_x107:Int)=>j0 v94 (fun b108 o109 =>
 l4 (rdA 5 b108 o109) (.one (.agg [.str,(.int .i64),.bool,.str,.slc])) (fun(x110:j1) (x111:Int) (x112:Bool) (x113:j1) (x114:Sl)=>A9 (.cells ⟨[.string x105]⟩ 9 (0,0)) (fun b115=>d8 64 [.agg ⟨[.string x110,.int .i64 x111,.bool x112,.string x113,.slice x114.base x114.len x114.cap]⟩,.slice (some ⟨b115,0,none⟩) 1 1] kL (fun x116=>l8 (((x116.len:Nat):Int)==0) (K (.bool false))
 (R92 v93 v94 (IntKind.i64.wrap (v95+1)))))))))))))) (j22))))) (fun(R117:u4->u4->Int->s9)=>R117 (some ⟨b13,0,none⟩) (some ⟨b21,0,none⟩) 0)) (l8 ((v4:Int)==6) (l4 (rdA 4 b13 0) (.one (.agg [.str,.slc,.str,.str])) (fun(x118:j1) (x119:Sl) (x120:j1) (x121:j1)=>d8 65 [.agg ⟨[.string x118,.slice x119.base x119.len x119.cap,.string x120,.string x121]⟩] kB (fun x122=>K (.bool x122))))
 (j22)))))))))))))))))
theorem c30 (v1:Sl) (v2:Sl) (v3:Int) (v4:Int):g30 v1 v2 v3 v4 K σ->a8 30 [.agg ⟨[.slice v1.base v1.len v1.cap,.slice v2.base v2.len v2.cap]⟩,.int .i64 v3,.int .i64 v4] K σ:=k8 dm1 Tryz.func30


def dm3:Ann:=(.q (.n (.q (.blk (.loop [(1,.s),(2,.p),(5,.i)] (.n (.q (.cond .z .z)) (.n (.blk (.q (.h))) .r))))) (.q .z)))
def g31 (v1:Sl) (v2:Sl) (v3:j1) (K:KH):s9 :=
 A9 (.cells ⟨[.slice v1.base v1.len v1.cap,.slice v2.base v2.len v2.cap]⟩ 25 (0,0)) (fun b4=>l9 [.sc .str,.sc .ptr,.sc (.int .i64)] (fun(R5:j1->u4->Int->s9)=>(fun(v6:j1) (v7:u4) (v8:Int)=>j0 v7 (fun b9 o10=>l4 (s5 b9 o10) kL (fun x11=>l8 (decide ((v8:Int)<((x11.len:Nat):Int))) (j0 v7 (fun b12 o13=>l4 (s5 b12 o13) kL (fun x14=>j0 x14.base (fun b15 o16 =>
 w6 (0<=v8/\v8<((x14.len:Nat):Int)) (l4 (s5 b15 (o16+v8.toNat * 4)) kS (fun(x17:j1)=>l8 (B8 x17 v6) (K (.bool true)) (R5 v6 v7 (IntKind.i64.wrap (v8+1))))))))) (K (.bool false)))))) (fun(R18:j1->u4->Int->s9)=>R18 v3 (some ⟨b4,0,none⟩) 0))
theorem c31 (v1:Sl) (v2:Sl) (v3:j1):g31 v1 v2 v3 K σ->a8 31 [.agg ⟨[.slice v1.base v1.len v1.cap,.slice v2.base v2.len v2.cap]⟩,.string v3] K σ:=k8 dm3 Tryz.func31


def dm5:Ann:=(.n (.seq (some [(0,.s),(2,.p),(3,.p),(4,.p),(19,.b)]) .r (.cond .z .z)) (.q (.q (.blk (.loop [(0,.s),(4,.p),(23,.l),(24,.i),(25,.i)] (.q (.n (.cond .z .z) (.seq (some [(0,.s),(4,.p),(23,.l),(24,.i),(25,.i)]) (.blk (.q (.q (.cond (.q (.blk (.loop [(0,.s),(4,.p),(23,.l),(24,.i),(25,.i),(34,.l),(35,.i),(36,.i)] (.q (.n (.cond .z .z) (.n (.blk (.q .r)) .r)))))) .z)))) .r))))))))
def g32 (v1:j1) (x2:u4) (x3:u4) (x4:u4) (x5:u4) (K:KH):s9 :=
 w9 (T:=j1->u4->u4->u4->Bool->s9) (fun v7 x8 x9 x10 x11=>l8 x11 (K (.tuple ⟨[]⟩)) (j0 x8 (fun b12 o13=>l4 (s5 b12 o13) kM (fun(x14:Option Nat)=>aj0 39 (.map x14) (.string v7) (.int .i64 1) (j0 x9 (fun b15 o16=>l4 (s5 b15 o16) kL (fun x17 =>
 l9 [.sc .str,.sc .ptr,.sc .slc,.sc (.int .i64),.sc (.int .i64)] (fun(R18:j1->u4->Sl->Int->Int->s9)=>(fun(v19:j1) (x20:u4) (x21:Sl) (x22:Int) (x23:Int)=>l8 (decide ((x23:Int)<x22)) (w9 (T:=j1->u4->Sl->Int->Int->s9) (fun v25 x26 x27 x28 x29=>R18 v25 x26 x27 x28 (IntKind.i64.wrap (x29+1))) (fun j24=>j0 x21.base (fun b30 o31=>w6 (0<=x23/\x23<((x21.len:Nat):Int))
 (l4 (rdA 4 b30 (o31+x23.toNat * 4)) (.one (.agg [.str,.slc,.str,.str])) (fun(x32:j1) (x33:Sl) (x34:j1) (x35:j1)=>A9 (.cells ⟨[.string ⟨⟨[]⟩⟩,.slice none 0 0,.string ⟨⟨[]⟩⟩,.string ⟨⟨[]⟩⟩]⟩ 38 (0,0)) (fun b36=>t8 38 (.pointer (some ⟨b36,0,none⟩)) (.agg ⟨[.string x32,.slice x33.base x33.len x33.cap,.string x34,.string x35]⟩) (l4 (s5 b36 0) kS (fun(x37:j1)=>l8 (B8 x37 v19)
 (l4 (s5 b36 1) kL (fun x38=>l9 [.sc .str,.sc .ptr,.sc .slc,.sc (.int .i64),.sc (.int .i64),.sc .slc,.sc (.int .i64),.sc (.int .i64)] (fun(R39:j1->u4->Sl->Int->Int->Sl->Int->Int->s9)=>(fun(v40:j1) (x41:u4) (x42:Sl) (x43:Int) (x44:Int) (x45:Sl) (x46:Int) (x47:Int)=>l8 (decide ((x47:Int)<x46)) (j0 x45.base (fun b48 o49=>w6 (0<=x47/\x47<((x45.len:Nat):Int))
 (l4 (s5 b48 (o49+x47.toNat * 1)) kS (fun(x50:j1)=>j0 x41 (fun b51 o52=>l4 (s5 b51 o52) kR (fun x53=>y6 Tryz.prog x53 [.string x50] kU (R39 v40 x41 x42 x43 x44 x45 x46 (IntKind.i64.wrap (x47+1))))))))) (j24 v40 x41 x42 x43 x44))) (fun(R54:j1->u4->Sl->Int->Int->Sl->Int->Int->s9)=>R54 v19 x20 x21 x22 x23 x38 ((x38.len:Nat):Int) 0))) (j24 v19 x20 x21 x22 x23)))))))))
 (K (.tuple ⟨[]⟩)))) (fun(R55:j1->u4->Sl->Int->Int->s9)=>R55 v7 x10 x17 ((x17.len:Nat):Int) 0)))))))) (fun j6=>j0 x2 (fun b56 o57=>l4 (rdA 3 b56 o57) (.one (.agg [.slc,.slc,.map])) (fun(x58:Sl) (x59:Sl) (x60:Option Nat)=>d8 33 [.agg ⟨[.slice x58.base x58.len x58.cap,.slice x59.base x59.len x59.cap,.map x60]⟩,.string v1] kB (fun x61=>l8 (!x61) (j6 v1 x3 x4 x5 true) (j0 x3 (fun b62 o63 =>
 l4 (s5 b62 o63) kM (fun(x64:Option Nat)=>l4 (rdM .string (.int .i64 0) false x64 (.string v1)) kI (fun(x65:Int)=>j6 v1 x3 x4 x5 (decide ((x65:Int)>0))))))))))
theorem c32 (v1:j1) (x2:u4) (x3:u4) (x4:u4) (x5:u4):g32 v1 x2 x3 x4 x5 K σ->a8 32 [.string v1,.pointer x2,.pointer x3,.pointer x4,.pointer x5] K σ:=k8 dm5 Tryz.func32


def dm7:Ann:=(.q (.q (.q .z)))
def g33 (v1:Sl) (v2:Sl) (v3:Option Nat) (v4:j1) (K:KH):s9 :=
 A9 (.cells ⟨[.slice v1.base v1.len v1.cap,.slice v2.base v2.len v2.cap,.map v3]⟩ 55 (0,0)) (fun b5=>l4 (s5 b5 2) kM (fun(x6:Option Nat)=>l4 (rdM .string (.agg ⟨[.string ⟨⟨[]⟩⟩,.slice none 0 0,.string ⟨⟨[]⟩⟩,.string ⟨⟨[]⟩⟩]⟩) true x6 (.string v4)) (.tup [.agg [.str,.slc,.str,.str],.sc .bool]) (fun(x7:j1) (x8:Sl) (x9:j1) (x10:j1) (x11:Bool) =>
 A9 (.cells ⟨[.string ⟨⟨[]⟩⟩,.slice none 0 0,.string ⟨⟨[]⟩⟩,.string ⟨⟨[]⟩⟩]⟩ 38 (0,0)) (fun b12=>t8 38 (.pointer (some ⟨b12,0,none⟩)) (.agg ⟨[.string x7,.slice x8.base x8.len x8.cap,.string x9,.string x10]⟩) (K (.bool x11))))))
theorem c33 (v1:Sl) (v2:Sl) (v3:Option Nat) (v4:j1):g33 v1 v2 v3 v4 K σ->a8 33 [.agg ⟨[.slice v1.base v1.len v1.cap,.slice v2.base v2.len v2.cap,.map v3]⟩,.string v4] K σ:=k8 dm7 Tryz.func33


def dm9:Ann:=(.q (.q .z))
def g35 (v1:Option Nat) (K:KH):s9 :=
 A9 (.cells ⟨[.map v1]⟩ 39 (0,0)) (fun b2=>K (.func (.func 68) ⟨[]⟩ ⟨[.pointer (some ⟨b2,0,none⟩)]⟩))
theorem c35 (v1:Option Nat):g35 v1 K σ->a8 35 [.map v1] K σ:=k8 dm9 Tryz.func35


def dn1:Ann:=(.q (.n (.q (.blk (.loop [(0,.l),(1,.s),(5,.i)] (.n (.q (.cond .z .z)) (.n (.blk (.q (.h))) .r))))) (.q .z)))
def g36 (v1:Sl) (v2:j1) (K:KH):s9 :=
 l9 [.sc .slc,.sc .str,.sc (.int .i64)] (fun(R3:Sl->j1->Int->s9)=>(fun(v4:Sl) (v5:j1) (v6:Int)=>l8 (decide ((v6:Int)<((v4.len:Nat):Int))) (j0 v4.base (fun b7 o8=>w6 (0<=v6/\v6<((v4.len:Nat):Int)) (l4 (s5 b7 (o8+v6.toNat * 1)) kS (fun(x9:j1)=>l8 (B8 x9 v5) (K (.bool true)) (R3 v4 v5 (IntKind.i64.wrap (v6+1))))))) (K (.bool false)))) (fun(R10:Sl->j1->Int->s9)=>R10 v1 v2 0)
theorem c36 (v1:Sl) (v2:j1):g36 v1 v2 K σ->a8 36 [.slice v1.base v1.len v1.cap,.string v2] K σ:=k8 dn1 Tryz.func36


def dn3:Ann:=(.q (.n (.q (.h)) (.n (.q (.blk (.loop [(0,.l),(1,.l),(12,.i),(13,.i)] (.q (.n (.cond .z .z) (.n (.blk (.q (.n (.reg (rn 9) [[],[],[0,1],[0,1,2],[],[],[4,5],[4,5,6],(rn 8)]) (.h)))) .r)))))) (.q .z))))
def g39 (s1_1:Sl) (s2_2:Sl) (K:KH):s9 :=
 l8 (((s1_1.len:Nat):Int) != ((s2_2.len:Nat):Int)) (K (.bool false)) (l9 [.sc .slc,.sc .slc,.sc (.int .i64),.sc (.int .i64)] (fun(R3:Sl->Sl->Int->Int->s9)=>(fun(s1_4:Sl) (s2_5:Sl) (x6:Int) (x7:Int)=>l8 (decide ((x7:Int)<x6)) (j0 s1_4.base (fun b8 o9=>w6 (0<=x7/\x7<((s1_4.len:Nat):Int)) (l4 (s5 b8 (o9+x7.toNat * 1)) kS (fun(x10:j1)=>j0 s2_5.base (fun b11 o12=>w6 (0<=x7/\x7<((s2_5.len:Nat):Int))
 (l4 (s5 b11 (o12+x7.toNat * 1)) kS (fun(x13:j1)=>l8 (!B8 x10 x13) (K (.bool false)) (R3 s1_4 s2_5 x6 (IntKind.i64.wrap (x7+1)))))))))) (K (.bool true)))) (fun(R14:Sl->Sl->Int->Int->s9)=>R14 s1_1 s2_2 ((s1_1.len:Nat):Int) 0))
theorem c39 (s1_1:Sl) (s2_2:Sl):g39 s1_1 s2_2 K σ->a8 39 [.slice s1_1.base s1_1.len s1_1.cap,.slice s2_2.base s2_2.len s2_2.cap] K σ:=k8 dn3 Tryz.func39


def dn4:Ann:=(.q (.n (.q (.q (.h))) (.q (.q (.n (.q (.h)) (.q .z))))))
def g41 (v1:j1) (v2:Int) (v3:Bool) (v4:j1) (v5:Sl) (K:KH):s9 :=
 A9 (.cells ⟨[.string v1,.int .i64 v2,.bool v3,.string v4,.slice v5.base v5.len v5.cap]⟩ 75 (0,0)) (fun b6=>l4 (rdA 5 b6 0) (.one (.agg [.str,(.int .i64),.bool,.str,.slc])) (fun(x7:j1) (x8:Int) (x9:Bool) (x10:j1) (x11:Sl)=>d8 70 [.agg ⟨[.string x7,.int .i64 x8,.bool x9,.string x10,.slice x11.base x11.len x11.cap]⟩] kI (fun(x12:Int)=>l8 ((x12:Int) != 0) (K (.tuple ⟨[.string ⟨⟨[]⟩⟩,.int .i64 x12]⟩))
 (d8 71 [.string ⟨⟨[]⟩⟩,.string ⟨⟨[119,104,105,115,107,45,116,114,101,101]⟩⟩] kS (fun(x13:j1)=>A9 (.cells ⟨[.string x13]⟩ 93 (0,0)) (fun b14=>l4 (rdA 5 b6 0) (.one (.agg [.str,(.int .i64),.bool,.str,.slc])) (fun(x15:j1) (x16:Int) (x17:Bool) (x18:j1) (x19:Sl) =>
 d8 72 [.pointer (some ⟨b14,0,none⟩),.agg ⟨[.string x15,.int .i64 x16,.bool x17,.string x18,.slice x19.base x19.len x19.cap]⟩] kU (l4 (s5 b14 0) kS (fun(x20:j1)=>l8 (decide (((x20.size:Nat):Int)>60000)) (K (.tuple ⟨[.string ⟨⟨[]⟩⟩,.int .i64 3]⟩)) (l4 (s5 b14 0) kS (fun(x21:j1)=>K (.tuple ⟨[.string x21,.int .i64 0]⟩))))))))))))
theorem c41 (v1:j1) (v2:Int) (v3:Bool) (v4:j1) (v5:Sl):g41 v1 v2 v3 v4 v5 K σ->a8 41 [.agg ⟨[.string v1,.int .i64 v2,.bool v3,.string v4,.slice v5.base v5.len v5.cap]⟩] K σ:=k8 dn4 Tryz.func41


def dn6:Ann:=(.q (.n (.q (.q (.h))) (.n (.q (.q (.h))) (.q .z))))
def g42 (v1:j1) (v2:j1) (K:KH):s9 :=
 d8 73 [.string v2] kI (fun(x3:Int)=>l8 ((x3:Int) != 0) (K (.tuple ⟨[.string ⟨⟨[]⟩⟩,.int .i64 x3]⟩)) (d8 53 [.string v1] (.tup [.agg [.str,(.int .i64),.bool,.str,.slc],.sc (.int .i64)]) (fun(x4:j1) (x5:Int) (x6:Bool) (x7:j1) (x8:Sl) (x9:Int)=>A9 (.cells ⟨[.string ⟨⟨[]⟩⟩,.int .i64 0,.bool false,.string ⟨⟨[]⟩⟩,.slice none 0 0]⟩ 75 (0,0)) (fun b10 =>
 t8 75 (.pointer (some ⟨b10,0,none⟩)) (.agg ⟨[.string x4,.int .i64 x5,.bool x6,.string x7,.slice x8.base x8.len x8.cap]⟩) (l8 ((x9:Int) != 0) (K (.tuple ⟨[.string ⟨⟨[]⟩⟩,.int .i64 x9]⟩)) (d8 71 [.string ⟨⟨[97,100,100,58]⟩⟩,.string v1] kS (fun(x11:j1)=>d8 71 [.string x11,.string v2] kS (fun(x12:j1)=>d8 75 [.string x12] kS (fun(x13:j1) =>
 d8 74 [.string x13,.string v2] (.tup [.sc .str,.sc (.int .i64)]) (fun(x14:j1) (x15:Int)=>K (.tuple ⟨[.string x14,.int .i64 x15]⟩)))))))))))
theorem c42 (v1:j1) (v2:j1):g42 v1 v2 K σ->a8 42 [.string v1,.string v2] K σ:=k8 dn6 Tryz.func42


def dn7:Ann:=(.q (.n (.q (.blk (.loop [(0,.l),(3,.i)] (.n (.q (.cond .z .z)) (.n (.blk (.n (.reg (rn 10) [[],[],[1],[0,1,2],(rn 4),[],[],[5,6],[5,6,7],(rn 9)]) (.h))) .r))))) (.q .z)))
def g43 (v1:Sl) (K:KH):s9 :=
 l9 [.sc .slc,.sc (.int .i64)] (fun(R2:Sl->Int->s9)=>(fun(v3:Sl) (v4:Int)=>l8 (decide ((v4:Int)<((v3.len:Nat):Int))) (j0 v3.base (fun b5 o6=>w6 (0<=IntKind.i64.wrap (v4 - 1)/\IntKind.i64.wrap (v4 - 1)<((v3.len:Nat):Int)) (l4 (s5 b5 (o6+(IntKind.i64.wrap (v4 - 1):Int).toNat * 1)) kS (fun(x7:j1)=>j0 v3.base (fun b8 o9=>w6 (0<=v4/\v4<((v3.len:Nat):Int))
 (l4 (s5 b8 (o9+v4.toNat * 1)) kS (fun(x10:j1)=>l8 (!E4 x7 x10) (K (.bool false)) (R2 v3 (IntKind.i64.wrap (v4+1)))))))))) (K (.bool true)))) (fun(R11:Sl->Int->s9)=>R11 v1 1)
theorem c43 (v1:Sl):g43 v1 K σ->a8 43 [.slice v1.base v1.len v1.cap] K σ:=k8 dn7 Tryz.func43


def dn8:Ann:=(.q (.q .z))
def g44 (v1:Sl) (v2:Sl) (v3:Option Nat) (v4:Value) (K:KH):s9 :=
 A9 (.cells ⟨[.slice v1.base v1.len v1.cap,.slice v2.base v2.len v2.cap,.map v3]⟩ 55 (0,0)) (fun b5=>F2 v4 (A9 (.cells ⟨[v4]⟩ 81 (0,0)) (fun b6=>l4 (s5 b5 0) kL (fun x7=>d8 76 [.slice x7.base x7.len x7.cap,.func (.func 77) ⟨[]⟩ ⟨[.pointer (some ⟨b6,0,none⟩)]⟩] kB (fun x8=>K (.bool (!x8)))))))
theorem c44 (v1:Sl) (v2:Sl) (v3:Option Nat) (v4:Value):g44 v1 v2 v3 v4 K σ->a8 44 [.agg ⟨[.slice v1.base v1.len v1.cap,.slice v2.base v2.len v2.cap,.map v3]⟩,v4] K σ:=k8 dn8 Tryz.func44


def dn9:Ann:=(.q (.q .z))
def g45 (v1:j1) (v2:Sl) (v3:j1) (v4:j1) (K:KH):s9 :=
 A9 (.cells ⟨[.string v1,.slice v2.base v2.len v2.cap,.string v3,.string v4]⟩ 38 (0,0)) (fun b5=>l4 (s5 b5 0) kS (fun(x6:j1)=>d8 46 [.string x6] kB (fun x7=>l8 x7 (l4 (s5 b5 1) kL (fun x8=>d8 43 [.slice x8.base x8.len x8.cap] kB (fun x9=>l8 x9 (l4 (s5 b5 1) kL (fun x10=>d8 47 [.slice x10.base x10.len x10.cap,.func (.func 48) ⟨[]⟩ ⟨[]⟩] kB (fun x11=>K (.bool (!x11))))) (K (.bool false))))) (K (.bool false)))))
theorem c45 (v1:j1) (v2:Sl) (v3:j1) (v4:j1):g45 v1 v2 v3 v4 K σ->a8 45 [.agg ⟨[.string v1,.slice v2.base v2.len v2.cap,.string v3,.string v4]⟩] K σ:=k8 dn9 Tryz.func45


def do0:Ann:=(.q (.q (.q .z)))
def g46 (v1:j1) (K:KH):s9 :=
 d8 56 [.string v1] (.tup [.sc .str,.sc .str,.sc (.int .i64)]) (fun(_x2:j1) (_x3:j1) (x4:Int)=>K (.bool ((x4:Int)==0)))
theorem c46 (v1:j1):g46 v1 K σ->a8 46 [.string v1] K σ:=k8 do0 Tryz.func46


def do1:Ann:=(.q (.q .z))
def g47 (v1:Sl) (v2:Value) (K:KH):s9 :=
 d8 78 [.slice v1.base v1.len v1.cap,v2] kI (fun(x3:Int)=>K (.bool (decide ((x3:Int)>=0))))
theorem c47 (v1:Sl) (v2:Value):g47 v1 v2 K σ->a8 47 [.slice v1.base v1.len v1.cap,v2] K σ:=k8 do1 Tryz.func47


def do2:Ann:=(.q (.q .z))
def g48 (v1:j1) (K:KH):s9 :=
 d8 46 [.string v1] kB (fun x2=>K (.bool (!x2)))
theorem c48 (v1:j1):g48 v1 K σ->a8 48 [.string v1] K σ:=k8 do2 Tryz.func48


def do3:Ann:=(.q (.q .z))
def g49 (v1:j1) (v2:Sl) (v3:j1) (v4:j1) (x5:u4) (K:KH):s9 :=
 A9 (.cells ⟨[.string v1,.slice v2.base v2.len v2.cap,.string v3,.string v4]⟩ 38 (0,0)) (fun b6=>l4 (s5 b6 1) kL (fun x7=>d8 47 [.slice x7.base x7.len x7.cap,.func (.func 50) ⟨[]⟩ ⟨[.pointer x5]⟩] kB (fun x8=>K (.bool (!x8)))))
theorem c49 (v1:j1) (v2:Sl) (v3:j1) (v4:j1) (x5:u4):g49 v1 v2 v3 v4 x5 K σ->a8 49 [.agg ⟨[.string v1,.slice v2.base v2.len v2.cap,.string v3,.string v4]⟩,.pointer x5] K σ:=k8 do3 Tryz.func49


def do4:Ann:=(.q (.q .z))
def g50 (v1:j1) (x2:u4) (K:KH):s9 :=
 j0 x2 (fun b3 o4=>l4 (rdA 3 b3 o4) (.one (.agg [.slc,.slc,.map])) (fun(x5:Sl) (x6:Sl) (x7:Option Nat)=>d8 33 [.agg ⟨[.slice x5.base x5.len x5.cap,.slice x6.base x6.len x6.cap,.map x7]⟩,.string v1] kB (fun x8=>K (.bool (!x8)))))
theorem c50 (v1:j1) (x2:u4):g50 v1 x2 K σ->a8 50 [.string v1,.pointer x2] K σ:=k8 do4 Tryz.func50


def do5:Ann:=(.q (.q .z))
def g51 (v1:j1) (x2:u4) (K:KH):s9 :=
 j0 x2 (fun b3 o4=>l4 (rdA 3 b3 o4) (.one (.agg [.slc,.slc,.map])) (fun(x5:Sl) (x6:Sl) (x7:Option Nat)=>d8 33 [.agg ⟨[.slice x5.base x5.len x5.cap,.slice x6.base x6.len x6.cap,.map x7]⟩,.string v1] kB (fun x8=>K (.bool (!x8)))))
theorem c51 (v1:j1) (x2:u4):g51 v1 x2 K σ->a8 51 [.string v1,.pointer x2] K σ:=k8 do5 Tryz.func51

end Go.Proofs.YtgfiobhpipollaaGreatDoor

