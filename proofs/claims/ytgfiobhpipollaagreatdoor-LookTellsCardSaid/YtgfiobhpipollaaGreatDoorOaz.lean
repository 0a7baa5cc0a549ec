/- A part of a proof. -/
import Derived.Test.YtgfiobhpipollaaGreatDoorOay
namespace Go.HL
open Go Go.Wk
def trR (p:UInt8->Bool) (l:List UInt8):List UInt8:=(l.reverse.dropWhile p).reverse
theorem bsz (l:List UInt8):(⟨⟨l⟩⟩:ByteArray).size=l.length:=rfl
theorem bex (l:List UInt8) (a b:Nat):(⟨⟨l⟩⟩:ByteArray).extract a b=⟨⟨(l.take b).drop a⟩⟩:=O3 (I8 _ a b)
theorem bM6 (l:List UInt8) (k:Nat):(⟨⟨l⟩⟩:ByteArray).extract k (⟨⟨l⟩⟩:ByteArray).size=⟨⟨l.drop k⟩⟩:=by
 rw[bex,bsz,V7]
theorem bB6 (l:List UInt8):B8 ⟨⟨l⟩⟩ ⟨⟨[]⟩⟩=l.isEmpty:=by
 rw[<-ao3]
 cases l<;>rfl
theorem cb2 (l:List UInt8) (p:UInt8->Bool):((trR p l).dropWhile p).isEmpty=l.all p:=by
 have h1 : ∀l:List UInt8,l.dropWhile p=[]↔l.all p=true:=by
  intro l
  induction l with
  | nil=>simp
  | cons x r ih =>
   rw[List.dropWhile_cons,List.all_cons]
   cases p x with
   | true=>simpa using ih
   | false=>simp
 have h2 : ∀l:List UInt8,l.dropWhile p=[] \/ ∃x r,l.dropWhile p=x::r/\p x=false:=by
  intro l
  induction l with
  | nil=>exact .inl rfl
  | cons x r ih =>
   rw[List.dropWhile_cons]
   cases hx:p x with
   | true=>simpa using ih
   | false=>exact .inr ⟨x,r,by simp,hx⟩
 have key:(trR p l).dropWhile p=[]↔l.all p=true:=by
  constructor
  ·intro h
   have h3:=(h1 _).1 h
   unfold trR at h3
   rw[List.all_reverse]at h3
   rcases h2 l.reverse with h4 | ⟨x,r,h4,h5⟩
   ·have:=(h1 _).1 h4
    rwa [List.all_reverse]at this
   ·rw[h4,List.all_cons,h5]at h3;cases h3
  ·intro h
   have:l.reverse.dropWhile p=[]:=(h1 _).2 (by rw[List.all_reverse];exact h)
   unfold trR
   rw[this];rfl
 rw[J5,List.isEmpty_iff];exact key
theorem J7 (l:List ByteArray):(n9 l).length=l.length:=by simp[n9]
theorem ac4 {σ:H} {l:List ByteArray} {x:Sl} (h:w7 σ 1 (n9 l) x):x.len=l.length:=by rw[h.1];simp[n9]
theorem U7 {σ:H} {l:List ByteArray} {x:Sl} (h:w7 σ 1 (n9 l) x) {i:Nat} {s:ByteArray} (hi:l[i]? = some s) : ∃g o,x.base=some ⟨g,o,none⟩/\i<x.len/\s5 g (o+i * 1) σ=some (.string s):=by
 obtain⟨g,o,h1,h2,h3⟩:=h.rdA (i:=i) (r:=[.string s]) (by unfold n9;rw[O4,hi];rfl) (by decide)
 refine⟨g,o,h1,?_,by simpa using h3 0 _ rfl⟩
 rw[ac4 h]
 rcases F6 i l.length with h | h
 ·exact h
 ·rw[L4 h]at hi;cases hi
end Go.HL

