/- A part of a proof. -/
import Derived.Test.YtikedigonnlbkaaGreatDoorSay
namespace Go.HL
open Go Go.Wk
theorem u8e(a c:J3):(((a.toNat:Nat):Int)==((c.toNat:Nat):Int))=(a==c):=by
 rw[Q9];simp only[beq_iff_eq];constructor
 ·intro h;exact UInt8.toNat_inj.1 (by omega)
 ·intro h;rw[h]
def trR(p:J3->Bool)(l:List J3):List J3:=(l.reverse.dropWhile p).reverse
theorem bY7(p:J3->Bool)(m:List J3)(x:J3):trR p (m++[x])=if p x then trR p m else m++[x]:=by
 unfold trR;rw[List.reverse_append,List.reverse_singleton,List.singleton_append,List.dropWhile_cons];cases p x<;>simp
theorem aF4{l:List J3}{n:Nat}(h:l.length=n+1):∃m x,l=m++[x]/\m.length=n:=by
 refine⟨l.dropLast,l.getLast (by intro e;rw[e]at h;cases h),(List.dropLast_concat_getLast _).symm,?_⟩;rw[List.length_dropLast,h];rfl
theorem bsz(l:List J3):(⟨⟨l⟩⟩:d9).size=l.length:=rfl
theorem bex(l:List J3)(a b:Nat):(⟨⟨l⟩⟩:d9).extract a b=⟨⟨(l.take b).drop a⟩⟩:=W9 (aa8 _ a b)
theorem aQ7(l:List J3)(k:Nat):(⟨⟨l⟩⟩:d9).extract k (⟨⟨l⟩⟩:d9).size=⟨⟨l.drop k⟩⟩:=by
 rw[bex,bsz,as5]
theorem cw5(m:List J3)(x:J3):(⟨⟨m++[x]⟩⟩:d9).extract 0 m.length=⟨⟨m⟩⟩:=by
 rw[bex,List.take_left];rfl
theorem bY8(m:List J3)(x:J3):(m++[x])[m.length]?=some x:=by simp
theorem Z4(l:List J3):C3 ⟨⟨l⟩⟩ ⟨⟨[]⟩⟩=l.isEmpty:=by
 rw[<-I5];cases l<;>rfl
theorem cl2(l:List J3)(p:J3->Bool):((trR p l).dropWhile p).isEmpty=l.all p:=by
 have h1:∀l:List J3,l.dropWhile p=[]↔l.all p=true:=by
  intro l
  induction l with
  |nil=>simp
  |cons x r ih =>
   rw[List.dropWhile_cons,List.all_cons];cases p x with
   |true=>simpa using ih
   |false=>simp
 have h2:∀l:List J3,l.dropWhile p=[]\/∃x r,l.dropWhile p=x::r/\p x=false:=by
  intro l
  induction l with
  |nil=>exact .inl rfl
  |cons x r ih =>
   rw[List.dropWhile_cons];cases hx:p x with
   |true=>simpa using ih
   |false=>exact .inr ⟨x,r,by simp,hx⟩
 have key:(trR p l).dropWhile p=[]↔l.all p=true:=by
  constructor
  ·intro h;have h3:=(h1 _).1 h;unfold trR at h3;rw[List.all_reverse]at h3;rcases h2 l.reverse with h4|⟨x,r,h4,h5⟩
   ·have:=(h1 _).1 h4
    rwa [List.all_reverse]at this
   ·rw[h4,List.all_cons,h5]at h3;cases h3
  ·intro h;have:l.reverse.dropWhile p=[]:=(h1 _).2 (by rw[List.all_reverse];exact h);unfold trR;rw[this];rfl
 rw[Q9,List.isEmpty_iff];exact key
def ac8(c:J3)(l:List J3):Nat:=l.length-(l.reverse.takeWhile (fun x=>!(x==c))).length
theorem aQ8(c x:J3)(m:List J3):ac8 c (m++[x])=if x==c then m.length+1 else ac8 c m:=by
 unfold ac8;rw[List.reverse_append,List.reverse_singleton,List.singleton_append,List.takeWhile_cons];cases x==c with
 |true=>simp
 |false =>
  have h1:(m.reverse.takeWhile (fun x=>!(x==c))).length<=m.reverse.length:=(List.takeWhile_sublist _).length_le;rw[aD9]at h1;simp
theorem aF5(c:J3)(l:List J3):ac8 c l<=l.length:=by unfold ac8;omega
theorem at3(l:List J3):l.take (ac8 47 l)=aJ0 l/\l.drop (ac8 47 l)=ag9 l:=by
 have h:l.reverse=l.reverse.takeWhile (fun x=>!(x==47))++l.reverse.dropWhile (fun x=>!(x==47)):=(List.takeWhile_append_dropWhile ..).symm;have h2:l=aJ0 l++ag9 l:=by
  unfold aJ0 ag9;rw[<-List.reverse_append,<- h,List.reverse_reverse]
 have h3:(aJ0 l).length=ac8 47 l:=by
  have h4:=J7 List.length h2;rw[P3]at h4;have h5:(ag9 l).length=(l.reverse.takeWhile (fun x=>!(x==47))).length:=by unfold ag9;rw[aD9]
  unfold ac8;omega
 constructor
 ·have:=List.take_left (l₁:=aJ0 l) (l₂:=ag9 l);rw[<-h2,h3]at this;exact this
 ·have:=List.drop_left (l₁:=aJ0 l) (l₂:=ag9 l);rw[<-h2,h3]at this;exact this
theorem ag1{Y:H}{r:H->Option u9}{y:Sl}{F:Sl->H->Prop}(h:r Y=some (.slice y.base y.len y.cap))(h2:F y Y):l8 r (.one (.sc .slc)) F Y:=U6 h h2
theorem Z7(l:List d9):(u0 l).length=l.length:=by simp[u0]
theorem ad9{Y:H}{l:List d9}{x:Sl}(h:F0 Y 1 (u0 l) x):x.len=l.length:=by rw[h.1];simp[u0]
theorem Z8{Y:H}{l:List d9}{x:Sl}(h:F0 Y 1 (u0 l) x){i:Nat}{s:d9}(hi:l[i]?=some s):∃g o,x.base=some ⟨g,o,none⟩/\i<x.len/\m8 g (o+i*1) Y=some (.string s):=by
 obtain⟨g,o,h1,h2,h3⟩:=h.rdA (i:=i) (r:=[.string s]) (by unfold u0;rw[Z6,hi];rfl) (by decide);refine⟨g,o,h1,?_,by simpa using h3 0 _ rfl⟩;rw[ad9 h];rcases U8 i l.length with h|h
 ·exact h
 ·rw[aa4 h]at hi;cases hi
theorem cr7{Y:H}{a:d9}{l:List d9}{x:Sl}(h:F0 Y 1 (u0 (a::l)) x)(hc:x.len<=x.cap):F0 Y 1 (u0 l) ⟨N6 x.base 1 x.cap 1,x.len-1,x.cap-1⟩:=by
 have hl:=ad9 h;have:=h.sub hc (k:=1) (e:=l.length+1) (by omega) (by rw[Z7];exact A7 _) (x.cap-1);rw[Q1 (by rw[Z7];exact A7 _)]at this;rw[hl];exact this
theorem cF4{Y:H}{l:List d9}{x:Sl}(h:F0 Y 1 (u0 l) x)(hc:x.len<=x.cap):F0 Y 1 (u0 l.dropLast) ⟨N6 x.base 0 x.cap 1,x.len-1-0,x.cap-0⟩:=by
 have hl:=ad9 h;have:=h.sub hc (k:=0) (e:=l.length-1) (by omega) (by rw[Z7];omega) (x.cap-0);rw[ac4,show(u0 l).take (l.length-1)=u0 l.dropLast by unfold u0;rw[<-List.map_take,List.dropLast_eq_take]]at this;rw[hl];exact this
theorem bY9{l:List J3}{p:J3->Bool}(h:l.all p=true){i:Nat}{c:J3}(hi:l[i]?=some c):p c=true:=X2.1 h c (K7 hi)
end Go.HL

