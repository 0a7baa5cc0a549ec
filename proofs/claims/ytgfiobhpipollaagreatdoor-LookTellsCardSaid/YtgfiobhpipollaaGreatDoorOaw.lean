/- A part of a proof. -/
import Derived.Test.YtgfiobhpipollaaGreatDoorOav
import Derived.Laws.Runes
namespace Go.Wk
open Go Go.HL
theorem ar5 {c:UInt8} : ∀ {l:List UInt8},c∉l->O7 c l=[l]:=by
 intro l
 induction l with
 | nil=>intro _;rfl
 | cons x l ih =>
  intro h
  simp only[A5,not_or]at h
  have hx:(x==c)=false:=by simpa using fun e=>h.1 e.symm
  simp only[O7,hx,ih h.2]
theorem aF7 {c:UInt8} {b:List UInt8} : ∀ {a:List UInt8},c∉a->O7 c (a++c::b)=a::O7 c b:=by
 intro a
 induction a with
 | nil=>intro _;simp[O7]
 | cons x a ih =>
  intro h
  simp only[A5,not_or]at h
  have hx:(x==c)=false:=by simpa using fun e=>h.1 e.symm
  simp only[P5,O7,hx,ih h.2]
theorem aC7 {c:UInt8} : ∀l:List UInt8,O7 c l≠[]:=by
 intro l
 induction l with
 | nil=>simp[O7]
 | cons x l ih =>
  simp only[O7]
  cases (x==c) with
  | true=>simp
  | false =>
   cases h:O7 c l with
   | nil=>simp
   | cons=>simp
theorem aC8 (s:ByteArray) (i:Nat) (h:i<s.size):s.data.toList[i]? = some s[i]! := by
 rw[getElem!_pos s i h]
 have:s[i]=s.data[i]:=rfl
 rw[this];simp
theorem ab3 (s:ByteArray) (c:UInt8):(firstIdx s c = -1/\c∉s.data.toList) \/ ∃i:Nat,firstIdx s c=(i:Int)/\i<s.size/\c∉s.data.toList.take i/\s.data.toList=s.data.toList.take i++c::s.data.toList.drop (i+1):=by
 have hlen:s.data.toList.length=s.size:=rfl
 unfold firstIdx
 cases hf:(List.range s.size).find? fun i=>s[i]! == c with
 | none =>
  refine .inl ⟨rfl,fun hm => ?_⟩
  obtain⟨i,hi,he⟩:=List.getElem_of_mem hm
  have h1:=List.find?_eq_none.1 hf i (by simpa[hlen]using hi)
  have h2:=aC8 s i (by omega)
  rw[B9 hi,he]at h2
  simp at h2
  exact h1 (by simp[h2])
 | some i =>
  rw[List.find?_range_eq_some]at hf
  obtain⟨h1,h2,h3⟩:=hf
  have hi:i<s.size:=by simpa using h2
  refine .inr ⟨i,rfl,hi,fun hm => ?_,?_⟩
  ·obtain⟨j,hj,he⟩:=List.getElem_of_mem hm
   have hj':j<i:=by have:=hj;simp at this;omega
   have h4:=h3 j hj'
   have h5:=aC8 s j (by omega)
   rw[List.getElem_take]at he
   rw[B9 (by omega),he]at h5
   simp at h5
   simp[h5]at h4
  ·have h5:=aC8 s i hi
   have hc:s[i]! = c:=by simpa using h1
   rw[hc]at h5
   have h6:s.data.toList.drop i=c::s.data.toList.drop (i+1):=by
    rw[ad7 (by omega)]
    rw[B9 (by omega)]at h5
    simp only[Option.some.injEq]at h5
    rw[h5]
   rw[<-h6,List.take_append_drop]
def J3 (c:UInt8) (s:ByteArray):List ByteArray:=(O7 c s.data.toList).map fun l=>(⟨⟨l⟩⟩:ByteArray)
theorem az6 {c:UInt8} {s:ByteArray} (h:firstIdx s c<0):J3 c s=[s]:=by
 rcases ab3 s c with⟨_,h1⟩ | ⟨i,h1,_⟩
 ·unfold J3;rw[ar5 h1];rfl
 ·omega
theorem I8 (s:ByteArray) (a b:Nat):(s.extract a b).data.toList=(s.data.toList.take b).drop a:=by
 rw[ByteArray.data_extract,Array.toList_extract,List.extract_eq_drop_take']
theorem ao5 {c:UInt8} {s:ByteArray} (h:0<=firstIdx s c):(firstIdx s c).toNat<s.size/\J3 c s=s.extract 0 (firstIdx s c).toNat::J3 c (s.extract ((firstIdx s c).toNat+1) s.size):=by
 rcases ab3 s c with⟨h0,_⟩ | ⟨i,h1,h2,h3,h4⟩
 ·omega
 ·have:(firstIdx s c).toNat=i:=by omega
  rw[this]
  refine⟨h2,?_⟩
  have hl:s.data.toList.length=s.size:=rfl
  unfold J3
  rw[I8,show s.data.toList.take s.size=s.data.toList by rw[<-hl,V7]]
  conv=>lhs;rw[h4]
  rw[aF7 h3]
  simp only[H5,List.cons.injEq,and_true]
  have:(s.extract 0 i)=⟨⟨(s.extract 0 i).data.toList⟩⟩:=rfl
  rw[this,I8];rfl
section
variable {A : AT} {go : Int -> ByteArray -> Int -> Int × Pl × Int} {follow : Bool} {name : ByteArray} {rest : List ByteArray} {p : Pl} {h : Int}
end
end Go.Wk

namespace Go.Wk
open Go Go.HL
section
variable {κ α : Type}
def bd9 (f:α->Nat):List (κ×α)->Nat
 | []=>0
 | (_,v)::r=>f v+bd9 f r
theorem bB1 [BEq κ] [LawfulBEq κ] {k:κ} {v:α} : ∀ {l:List (κ×α)},(ab1 l).Nodup->(k,v)∈l->lk k l=some v:=by
 intro l
 induction l with
 | nil=>intro _ h;simp at h
 | cons x l ih =>
  obtain⟨i,u⟩:=x
  intro hn h
  simp only[ab1,H5,List.nodup_cons]at hn
  simp only[lk]
  rcases A5.1 h with e | e
  ·cases e;simp
  ·have : (k == i) = false := by
    cases hb:(k==i) with
    | false=>rfl
    | true =>
     have:=eq_of_beq hb;subst this
     exact u9 (O5.2 ⟨_,e,rfl⟩) hn.1
   simp only[this]
   exact ih hn.2 e
theorem bL3 {f:α->Nat} {l:List (κ×α)} (h:0<bd9 f l) : ∃k v,(k,v)∈l/\0<f v:=by
 induction l with
 | nil=>simp[bd9]at h
 | cons x l ih =>
  obtain⟨i,u⟩:=x
  simp only[bd9]at h
  by_cases hu:0<f u
  ·exact⟨i,u,by simp,hu⟩
  ·obtain⟨k,v,h1,h2⟩:=ih (by omega)
   exact⟨k,v,E3 _ h1,h2⟩
theorem ai6 [BEq κ] [LawfulBEq κ] {f:α->Nat} {l:List (κ×α)} (hn:(ab1 l).Nodup) (h:0<bd9 f l) : ∃k v,lk k l=some v/\0<f v:=by
 obtain⟨k,v,h1,h2⟩:=bL3 h
 exact⟨k,v,bB1 hn h1,h2⟩
end
def one (j:Int) (v:Int):Nat:=if v=j then 1 else 0
def dj6 (j:Int) (n:AN):Nat:=bd9 (one j) n.ents
def AT.refs (A:AT) (j:Int):Nat:=bd9 (dj6 j) A.nodes
def AT.bytes (A:AT):Nat:=bd9 (fun n=>n.data.size) A.nodes
def AT.isDir (A:AT) (k:Int):Prop := ∃n,A.get k=some n/\n.kind=2
structure Inv (A:AT):Prop where
 nodup:(ab1 A.nodes).Nodup
 enod : ∀i n,A.get i=some n->(ab1 n.ents).Nodup
 root : ∃n,A.get 1=some n/\n.kind=2/\n.up=1
 low : ∀i n,A.get i=some n->1<=i/\i<=A.last
 like : ∀i n,A.get i=some n->cA2 n.kind n.mode n.data=0
 file : ∀i n,A.get i=some n->n.kind≠2->n.ents=[]
 ent : ∀i n s j,A.get i=some n->lk s n.ents=some j->bn0 s=0/\j≠1 /\ ∃m,A.get j=some m/\(m.kind=2->m.up=i)
 links : ∀i n,A.get i=some n->i≠1->n.links=A.refs i/\0<A.refs i/\(n.kind=2->A.refs i=1)
 deep : ∀i,A.isDir i -> ∃d,A.deep 12 i=some d
 ui:A.ui=A.nodes.length
 ub:A.ub=A.bytes
 uq:A.ui<=A.qi/\A.qi<=1048576
 bq:A.ub<=A.qb/\A.qb<=1073741824
theorem AT.get_set (A:AT) (i j:Int) (n:AN):(A.set i n).get j=if j=i then some n else A.get j:=by
 unfold AT.set AT.get;simp only[aL2]
 by_cases h:j=i<;>simp[h]
section
variable {A : AT}
theorem Inv.find (h:Inv A) {d:Int} {s:ByteArray} {j:Int} (hf:A.find d s=some j) : ∃n,A.get d=some n/\n.kind=2/\lk s n.ents=some j/\j≠1 /\ ∃m,A.get j=some m/\(m.kind=2->m.up=d):=by
 unfold AT.find at hf
 cases hn:A.get d with
 | none=>rw[hn]at hf;cases hf
 | some n =>
  rw[hn]at hf
  have hf:lk s n.ents=some j:=hf
  have h2:n.kind=2:=by
   apply Classical.byContradiction
   intro hk
   rw[h.file d n hn hk]at hf;simp[lk]at hf
  obtain⟨_,h3,h4⟩:=h.ent d n s j hn hf
  exact⟨n,rfl,h2,hf,h3,h4⟩
theorem Inv.isDir_up (h:Inv A) {k:Int} (hk:A.isDir k):A.isDir (A.upOf k):=by
 obtain⟨n,hn,h2⟩:=hk
 have hu:A.upOf k=n.up:=by unfold AT.upOf;rw[hn];rfl
 rw[hu]
 by_cases h1:k=1
 ·subst h1
  obtain⟨r,hr,hr2,hr3⟩:=h.root
  rw[hn]at hr;cases hr
  rw[hr3];exact⟨n,hn,h2⟩
 ·obtain⟨_,hpos,_⟩:=h.links k n hn h1
  obtain⟨p,m,hp,hc⟩:=ai6 h.nodup hpos
  have hp:A.get p=some m:=hp
  obtain⟨s,v,hs,hv⟩:=ai6 (h.enod p m hp) hc
  have hv:v=k:=by
   unfold one at hv
   by_cases e:v=k
   ·exact e
   ·simp[e]at hv
  subst hv
  obtain⟨_,_,m',hm',hup⟩:=h.ent p m s v hp hs
  rw[hn]at hm';cases hm'
  rw[hup h2]
  refine⟨m,hp,?_⟩
  apply Classical.byContradiction
  intro hk
  rw[h.file p m hp hk]at hs;simp[lk]at hs
theorem Inv.named (h:Inv A) {k:Int} (hk:A.isDir k) (h1:k≠1) : ∃s,A.find (A.upOf k) s=some k:=by
 obtain⟨n,hn,h2⟩:=hk
 have hu:A.upOf k=n.up:=by unfold AT.upOf;rw[hn];rfl
 rw[hu]
 obtain⟨_,hpos,_⟩:=h.links k n hn h1
 obtain⟨p,m,hp,hc⟩:=ai6 h.nodup hpos
 have hp:A.get p=some m:=hp
 obtain⟨s,v,hs,hv⟩:=ai6 (h.enod p m hp) hc
 have hv:v=k:=by
  unfold one at hv
  by_cases e:v=k
  ·exact e
  ·simp[e]at hv
 subst hv
 obtain⟨_,_,m',hm',hup⟩:=h.ent p m s v hp hs
 rw[hn]at hm';cases hm'
 rw[hup h2]
 exact⟨s,by unfold AT.find;rw[hp];exact hs⟩
theorem bB2 {A':AT} (h:Inv A) (hu:∀k,A.isDir k->A'.upOf k=A.upOf k) : ∀ (f:Nat) (k:Int),A.isDir k->A'.deep f k=A.deep f k:=by
 intro f
 induction f with
 | zero=>intro k _;rfl
 | succ f ih =>
  intro k hk
  unfold AT.deep
  rw[hu k hk,ih _ (h.isDir_up hk)]
end
end Go.Wk

namespace Go.Wk
open Go Go.HL
variable {A : AT}
section
variable {dir : Int} {name : ByteArray} {kind mode : Int} {data : ByteArray}
end
end Go.Wk

namespace Go.Wk
open Go Go.HL
def aL3 (s:ByteArray):Prop:=s≠⟨⟨[]⟩⟩/\s≠⟨⟨[46]⟩⟩/\P1 s=false
theorem ak6 {a b:ByteArray} (h:a≠b):sEq a b=false:=by
 cases hs:sEq a b with
 | false=>rfl
 | true=>exact u9 (aI2.1 hs) h
def ca8 (A:AT) (p:Pl):Prop:=A.isDir p.dir/\((p.name=⟨⟨[]⟩⟩/\p.there=true/\p.ino=p.dir)\/(aL3 p.name/\p.name≠⟨⟨[46,46]⟩⟩/\p.name.size<=56/\A.find p.dir p.name=if p.there then some p.ino else none))
theorem ca8.named {A:AT} {p:Pl} (h:ca8 A p) (hn:p.name≠⟨⟨[]⟩⟩):bn0 p.name=0/\A.find p.dir p.name=if p.there then some p.ino else none:=by
 obtain⟨_,h | ⟨⟨a1,a2,a3⟩,a4,a5,a6⟩⟩:=h
 ·exact u9 h.1 hn
 ·refine⟨?_,a6⟩
  unfold bn0
  rw[c0 (by omega),ak6 a1,ak6 a2,ak6 a4,a3];rfl
theorem ca8.get {A:AT} (hI:Inv A) {p:Pl} (h:ca8 A p) (ht:p.there=true) : ∃n,A.get p.ino=some n:=by
 obtain⟨hd,h | ⟨_,_,_,h⟩⟩:=h
 ·obtain⟨n,hn,_⟩:=hd;rw[h.2.2];exact⟨n,hn⟩
 ·rw[ht]at h
  obtain⟨_,_,_,_,_,m,hm,_⟩:=hI.find h
  exact⟨m,hm⟩
end Go.Wk

namespace Go.Wk
open Go Go.HL
inductive Tr where
 | mk (name:ByteArray) (kind:Int) (exec:Bool) (data:ByteArray) (kids:List Tr)
def Tr.name:Tr->ByteArray | .mk n _ _ _ _=>n
def Tr.kind:Tr->Int | .mk _ k _ _ _=>k
def Tr.exec:Tr->Bool | .mk _ _ e _ _=>e
def Tr.data:Tr->ByteArray | .mk _ _ _ d _=>d
def Tr.kids:Tr->List Tr | .mk _ _ _ _ l=>l
def gr (d x:Int):Int:=if x>d then x else d
def Tr.deep:Nat->Tr->Int
 | 0,_=>1
 | m+1,t=>if t.kind≠2\/m=0 then 1 else t.kids.foldl (fun d x=>gr d (1+Tr.deep m x)) 1
def Tr.tooDeep (t:Tr):Bool:=decide (t.deep 14>12)
def V4 (s:ByteArray):Bool:=decide (1<=s.size)&&(decide (s.size<=56)&&(!P1 s&&(!sEq s ⟨⟨[46]⟩⟩ && !sEq s ⟨⟨[46,46]⟩⟩)))
def ltB (a b:ByteArray):Bool := !leB b.data.toList a.data.toList
def bL4 (prev:Option ByteArray) (s:ByteArray):Bool:=match prev with
 | none=>true
 | some p=>ltB p s
mutual
def Tr.may:Tr->Bool
 | .mk _ k e d kids=>if k=1 then kids.isEmpty else if k=3 then kids.isEmpty&&(!e&&ah4 d)else if k=2 then !e&&(sEq d ⟨⟨[]⟩⟩&&Tr.mayRow none kids)else false
def Tr.mayRow:Option ByteArray->List Tr->Bool
 | _,[]=>true
 | prev,t::r=>V4 t.name&&(Tr.may t&&(bL4 prev t.name&&Tr.mayRow (some t.name) r))
end
mutual
def Tr.size:Tr->Int×Int
 | .mk _ _ _ d kids=>Tr.sizeRow kids (1,d.size)
def Tr.sizeRow:List Tr->Int×Int->Int×Int
 | [],a=>a
 | t::r,a=>Tr.sizeRow r (if t.tooDeep=true then a else(a.1+(Tr.size t).1,a.2+(Tr.size t).2))
end
def Tr.sizeT (t:Tr):Int×Int:=if t.tooDeep=true then(0,0)else t.size
mutual
def Tr.total:Tr->Nat
 | .mk n _ _ d kids=>1+n.size+d.size+Tr.totalRow kids
def Tr.totalRow:List Tr->Nat
 | []=>0
 | t::r=>Tr.total t+Tr.totalRow r
end
def Tr.check (t:Tr):Int :=
 if t.tooDeep=true then 3
 else if sEq t.name ⟨⟨[]⟩⟩=false\/t.may=false then 2
 else if t.sizeT.1>2000\/t.sizeT.2>100000 then 3 else 0
mutual
def Tr.levels:Tr->Int
 | .mk _ k _ _ kids=>if k≠2 then 0 else Tr.levelsRow kids 0+1
def Tr.levelsRow:List Tr->Int->Int
 | [],a=>a
 | t::r,a=>Tr.levelsRow r (gr a (Tr.levels t))
end
theorem Tr.total_kid {t:Tr} {x:Tr} (h:x∈t.kids):x.total<t.total:=by
 obtain⟨nm,k,e,d,kids⟩:=t
 have key : ∀l:List Tr,x∈l->x.total<=Tr.totalRow l:=by
  intro l
  induction l with
  | nil=>intro h;simp at h
  | cons y r ih =>
   intro h
   simp only[Tr.totalRow]
   rcases A5.1 h with e | e
   ·subst e;omega
   ·have:=ih e;omega
 have:=key kids h
 simp only[Tr.total];omega
theorem Tr.ind {P:Tr->Prop} (h:∀t,(∀x∈t.kids,P x)->P t) (t:Tr):P t:=by
 have key : ∀ (n:Nat) (t:Tr),t.total<n->P t:=by
  intro n
  induction n with
  | zero=>intro t h;omega
  | succ n ih=>intro t ht;exact h t fun x hx=>ih x (by have:=Tr.total_kid hx;omega)
 exact key _ t (Nat.lt_succ_self _)
theorem Tr.size_le : ∀t:Tr,1<=t.size.1/\0<=t.size.2/\t.size.1+t.size.2<=t.total:=by
 refine Tr.ind ?_
 intro t ih
 obtain⟨nm,k,e,d,kids⟩:=t
 have key : ∀ (l:List Tr) (a:Int×Int),(∀x∈l,1<=x.size.1/\0<=x.size.2/\x.size.1+x.size.2<=x.total)->1<=a.1->0<=a.2->1<=(Tr.sizeRow l a).1/\0<=(Tr.sizeRow l a).2/\(Tr.sizeRow l a).1+(Tr.sizeRow l a).2<=a.1+a.2+Tr.totalRow l:=by
  intro l
  induction l with
  | nil=>intro a _ h1 h2;simp[Tr.sizeRow,Tr.totalRow];omega
  | cons x r ihl =>
   intro a hx h1 h2
   have hx' : ∀y∈r,1<=y.size.1/\0<=y.size.2/\y.size.1+y.size.2<=y.total:=fun y hy=>hx y (E3 _ hy)
   have:=hx x (E2 ..)
   simp only[Tr.sizeRow,Tr.totalRow]
   cases ht:x.tooDeep with
   | true =>
    have:=ihl a hx' h1 h2
    simp only[if_true]
    omega
   | false =>
    have:=ihl (a.1+x.size.1,a.2+x.size.2) hx' (by show 1<=a.1+x.size.1;omega) (by show 0<=a.2+x.size.2;omega)
    simp only[F4,if_false]at this ⊢
    omega
 have:=key kids (1,d.size) ih (Int.le_refl _) (by show(0:Int)<=d.size;omega)
 simp only[Tr.size,Tr.total]at this ⊢
 omega
end Go.Wk

namespace Go.Wk
open Go Go.HL
structure aw8 (A A':AT):Prop where
 get : ∀i n,A.get i=some n -> ∃m,A'.get i=some m/\m.kind=n.kind/\m.up=n.up/\m.mode=n.mode/\m.data=n.data/\m.links=n.links /\ ∀s j,lk s n.ents=some j->lk s m.ents=some j
 last:A.last<=A'.last
 qi:A'.qi=A.qi
 qb:A'.qb=A.qb
theorem aw8.trans {A B C:AT} (h:aw8 A B) (k:aw8 B C):aw8 A C:=by
 refine⟨fun i n hn => ?_,Int.le_trans h.last k.last,by rw[k.qi,h.qi],by rw[k.qb,h.qb]⟩
 obtain⟨m,h1,h2,h3,h4,h5,h6,h7⟩:=h.get i n hn
 obtain⟨m',k1,k2,k3,k4,k5,k6,k7⟩:=k.get i m h1
 exact⟨m',k1,by rw[k2,h2],by rw[k3,h3],by rw[k4,h4],by rw[k5,h5],by rw[k6,h6],fun s j hs=>k7 s j (h7 s j hs)⟩
section
variable {A A' : AT}
theorem aw8.isDir (h:aw8 A A') {k:Int} (hk:A.isDir k):A'.isDir k:=by
 obtain⟨n,h1,h2⟩:=hk
 obtain⟨m,h3,h4,_⟩:=h.get k n h1
 exact⟨m,h3,by rw[h4,h2]⟩
theorem aw8.deep (h:aw8 A A') (hI:Inv A) (f:Nat) {k:Int} (hk:A.isDir k):A'.deep f k=A.deep f k:=by
 refine bB2 hI ?_ f k hk
 rintro k ⟨n,h1,_⟩
 obtain⟨m,h3,_,h5,_⟩:=h.get k n h1
 unfold AT.upOf;rw[h1,h3];simp[h5]
theorem aw8.find (h:aw8 A A') {d:Int} {s:ByteArray} {j:Int} (hf:A.find d s=some j):A'.find d s=some j:=by
 unfold AT.find at hf ⊢
 cases hn:A.get d with
 | none=>rw[hn]at hf;cases hf
 | some n =>
  rw[hn]at hf
  obtain⟨m,h1,_,_,_,_,_,h7⟩:=h.get d n hn
  rw[h1];exact h7 s j hf
variable {dir : Int} {name : ByteArray} {kind mode : Int} {data : ByteArray}
end
def cA7 (A:AT) (ino:Int) (l:List Tr):Prop:=(∃n,A.get ino=some n) /\ ∀d,A.isDir ino->A.deep 12 ino=some d -> ∀x∈l,d+x.levels<=12
theorem cA7.head {A:AT} {ino:Int} {x:Tr} {l:List Tr} (h:cA7 A ino (x::l)) : ∀d,A.isDir ino->A.deep 12 ino=some d->d+x.levels<=12:=fun d h1 h2=>h.2 d h1 h2 x (E2 ..)
end Go.Wk

namespace Go.Wk
open Go Go.HL
variable {A : AT}
end Go.Wk

namespace Go.Wk
open Go Go.HL
mutual
def Tr.count:Tr->Nat
 | .mk _ _ _ _ kids=>1+Tr.countRow kids
def Tr.countRow:List Tr->Nat
 | []=>0
 | t::r=>Tr.count t+Tr.countRow r
end
mutual
def Tr.bytes:Tr->Nat
 | .mk _ _ _ d kids=>d.size+Tr.bytesRow kids
def Tr.bytesRow:List Tr->Nat
 | []=>0
 | t::r=>Tr.bytes t+Tr.bytesRow r
end
theorem Tr.count_eq (t:Tr):t.count=1+Tr.countRow t.kids:=by obtain⟨n,k,e,d,kids⟩:=t;simp only[Tr.count,Tr.kids]
theorem Tr.bytes_eq (t:Tr):t.bytes=t.data.size+Tr.bytesRow t.kids:=by obtain⟨n,k,e,d,kids⟩:=t;simp only[Tr.bytes,Tr.kids,Tr.data]
theorem Tr.may_eq (t:Tr):t.may=if t.kind=1 then t.kids.isEmpty else if t.kind=3 then t.kids.isEmpty&&(!t.exec&&ah4 t.data)else if t.kind=2 then !t.exec&&(sEq t.data ⟨⟨[]⟩⟩&&Tr.mayRow none t.kids)else false:=by
 obtain⟨n,k,e,d,kids⟩:=t
 rw[Tr.may];rfl
theorem aI3 (f:Tr->Int) : ∀ (l:List Tr) (d:Int),d<=l.foldl (fun d x=>gr d (f x)) d /\ ∀x∈l,f x<=l.foldl (fun d x=>gr d (f x)) d:=by
 intro l
 induction l with
 | nil=>intro d;exact⟨Int.le_refl _,by simp⟩
 | cons y r ih =>
  intro d
  simp only[Q0]
  obtain⟨h1,h2⟩:=ih (gr d (f y))
  have hg:d<=gr d (f y)/\f y<=gr d (f y):=by unfold gr;split<;>omega
  refine⟨by omega,fun x hx => ?_⟩
  rcases A5.1 hx with e | e
  ·subst e;omega
  ·exact h2 x e
theorem bn1 : ∀ (m:Nat) (t:Tr),t.deep m<m->t.deep (m+1)=t.deep m:=by
 intro m
 induction m with
 | zero=>intro t h;simp[Tr.deep]at h
 | succ m ih =>
  intro t h
  unfold Tr.deep at h ⊢
  by_cases hk:t.kind≠2
  ·rw[d9 (.inl hk),d9 (.inl hk)]
  ·by_cases hm:m=0
   ·subst hm;rw[d9 (.inr rfl)]at h;omega
   ·have c1 : ¬ (t.kind≠2\/m=0):=by rintro (h | h);exact hk h;exact hm h
    have c2 : ¬ (t.kind≠2\/m+1=0):=by rintro (h | h);exact hk h;omega
    rw[c0 c1]at h
    rw[c0 c2,c0 c1]
    have hx : ∀x∈t.kids,Tr.deep (m+1) x=Tr.deep m x:=by
     intro x hx
     have:=(aI3 (fun x=>1+Tr.deep m x) t.kids 1).2 x hx
     exact ih x (by omega)
    have key : ∀ (l:List Tr) (d:Int),(∀x∈l,Tr.deep (m+1) x=Tr.deep m x)->l.foldl (fun d x=>gr d (1+Tr.deep (m+1) x)) d=l.foldl (fun d x=>gr d (1+Tr.deep m x)) d:=by
     intro l
     induction l with
     | nil=>intro d _;rfl
     | cons y r ihr=>intro d h;simp only[Q0];rw[h y (E2 ..)];exact ihr _ fun x hx=>h x (E3 _ hx)
    exact key t.kids 1 hx
theorem be0 {t x:Tr} (hk:t.kind=2) (h:t.tooDeep=false) (hx:x∈t.kids):x.tooDeep=false:=by
 unfold Tr.tooDeep at h ⊢
 simp only[C2]at h ⊢
 have h2:t.deep 14=t.kids.foldl (fun d x=>gr d (1+Tr.deep 13 x)) 1:=by
  rw[Tr.deep,c0 (by rintro (h | h);exact h hk;omega)]
 have:=(aI3 (fun x=>1+Tr.deep 13 x) t.kids 1).2 x hx
 rw[h2]at h
 rw[bn1 13 x (by omega)]
 omega
theorem bL5 {t:Tr} (h:t.may=true):t.kids=[]\/(t.kind=2/\Tr.mayRow none t.kids=true):=by
 rw[Tr.may_eq]at h
 by_cases k1:t.kind=1
 ·rw[d9 k1]at h;exact .inl (List.isEmpty_iff.1 h)
 ·rw[c0 k1]at h
  by_cases k3:t.kind=3
  ·rw[d9 k3]at h;simp only[A8]at h;exact .inl (List.isEmpty_iff.1 h.1)
  ·rw[c0 k3]at h
   by_cases k2:t.kind=2
   ·rw[d9 k2]at h;simp only[A8]at h;exact .inr ⟨k2,h.2.2⟩
   ·rw[c0 k2]at h;cases h
theorem bn2 : ∀ {l:List Tr} {p:Option ByteArray},Tr.mayRow p l=true -> ∀x∈l,V4 x.name=true/\x.may=true:=by
 intro l
 induction l with
 | nil=>intro p _ x hx;simp at hx
 | cons y r ih =>
  intro p h x hx
  simp only[Tr.mayRow,A8]at h
  rcases A5.1 hx with e | e
  ·subst e;exact⟨h.1,h.2.1⟩
  ·exact ih h.2.2.2 x e
theorem bL6 : ∀t:Tr,t.may=true->t.tooDeep=false->t.size=((t.count:Int),(t.bytes:Int)):=by
 refine Tr.ind ?_
 intro t ih hm hd
 have hsz:t.size=Tr.sizeRow t.kids (1,(t.data.size:Int)):=by obtain⟨n,k,e,d,kids⟩:=t;simp only[Tr.size,Tr.kids,Tr.data]
 have key : ∀ (l:List Tr) (a b:Nat),(∀x∈l,x∈t.kids)->Tr.sizeRow l ((a:Int),(b:Int))=(((a+Tr.countRow l:Nat):Int),((b+Tr.bytesRow l:Nat):Int)):=by
  intro l
  induction l with
  | nil=>intro a b _;simp[Tr.sizeRow,Tr.countRow,Tr.bytesRow]
  | cons x r ihl =>
   intro a b hx
   have hx0:=hx x (E2 ..)
   rcases bL5 hm with h0 | ⟨hk,hrow⟩
   ·rw[h0]at hx0;simp at hx0
   ·have hsh:=be0 hk hd hx0
    have:=ih x hx0 (bn2 hrow x hx0).2 hsh
    simp only[Tr.sizeRow,hsh,F4,if_false,this,Tr.countRow,Tr.bytesRow]
    have h2:=ihl (a+x.count) (b+x.bytes) (fun y hy=>hx y (E3 _ hy))
    simp only[Int.natCast_add]at h2 ⊢
    rw[h2,Int.add_assoc,Int.add_assoc]
 have:=key t.kids 1 t.data.size (fun _ h=>h)
 rw[hsz,Tr.count_eq,Tr.bytes_eq]
 exact this
end Go.Wk

namespace Go.Wk
open Go Go.HL
variable {A : AT} {N : Nat}
theorem bu9 {t:Tr} (h:t.check=0):t.tooDeep=false/\t.name=⟨⟨[]⟩⟩/\t.may=true/\t.sizeT=((t.count:Int),(t.bytes:Int))/\t.count<=2000/\t.bytes<=100000:=by
 unfold Tr.check at h
 cases h1:t.tooDeep with
 | true=>rw[h1]at h;simp at h
 | false =>
  rw[h1]at h
  simp only[F4,if_false]at h
  by_cases h2:sEq t.name ⟨⟨[]⟩⟩=false\/t.may=false
  ·rw[d9 h2]at h;cases h
  rw[c0 h2]at h
  have hm:t.may=true:=by
   cases hm:t.may with
   | true=>rfl
   | false=>exact u9 (.inr hm) h2
  have hn:t.name=⟨⟨[]⟩⟩:=by
   cases hn:sEq t.name ⟨⟨[]⟩⟩ with
   | true=>exact aI2.1 hn
   | false=>exact u9 (.inl hn) h2
  have hs:t.sizeT=((t.count:Int),(t.bytes:Int)):=by
   unfold Tr.sizeT;rw[h1];simp only[F4,if_false];exact bL6 t hm h1
  by_cases h3:t.sizeT.1>2000\/t.sizeT.2>100000
  ·rw[d9 h3]at h;cases h
  rw[hs]at h3
  simp only at h3
  refine⟨rfl,hn,hm,hs,?_,?_⟩<;>omega
end Go.Wk

namespace Go.Wk
open Go Go.HL
theorem bn3 {c:UInt8} {b:List UInt8} : ∀a:List UInt8,O7 c (a++c::b)=O7 c a++O7 c b:=by
 intro a
 induction a with
 | nil=>simp[O7]
 | cons x a ih =>
  simp only[P5,O7]
  cases (x==c) with
  | true=>simp[ih]
  | false =>
   simp only[ih]
   cases hs:O7 c a with
   | nil=>exact u9 hs (aC7 a)
   | cons h t=>simp
theorem O0 (a b:ByteArray):(a++b).data.toList=a.data.toList++b.data.toList:=by rw[ByteArray.data_append,P3]
theorem aF8 {s:ByteArray} (h:P1 s=false):(47:UInt8)∉s.data.toList/\(0:UInt8)∉s.data.toList:=by
 unfold P1 at h
 rw[List.any_eq_false]at h
 exact⟨fun hm=>h 47 hm (by decide),fun hm=>h 0 hm (by decide)⟩
theorem bB3 {n:ByteArray} (h:aL3 n):aY1 n=true:=by
 unfold aY1;rw[ak6 h.1,ak6 h.2.1];rfl
def sub (p n:ByteArray):ByteArray:=(p++⟨⟨[47]⟩⟩)++n
theorem aL4 (p n:ByteArray):(sub p n).data.toList=p.data.toList++47::n.data.toList:=by
 unfold sub;rw[O0,O0,E0];rfl
theorem aT3 {p n:ByteArray} (h:aL3 n):aC6 (sub p n)=aC6 p++[n]:=by
 have h47:=(aF8 h.2.2).1
 unfold aC6
 rw[aL4,bn3,ar5 h47,List.map_append,List.filter_append]
 congr 1
 show List.filter aY1 [n]=[n]
 simp[bB3 h]
theorem cb0 {p n:ByteArray} (h:aL3 n) (hp:aj2 p=false):aj2 (sub p n)=false:=by
 have h0:=(aF8 h.2.2).2
 unfold aj2 at hp ⊢
 rw[aL4,List.any_append,hp,List.any_cons,Q1]
 rw[Bool.or_eq_false_iff]
 refine⟨by decide,?_⟩
 rw[List.any_eq_false]
 intro x hx hb
 have:x=0:=by simpa using hb
 subst this;exact h0 hx
theorem bL7 {p n:ByteArray} {c:UInt8} (hp:ax6 c p=true):ax6 c (sub p n)=true:=by
 unfold ax6 at hp ⊢
 rw[aL4]
 cases hl:p.data.toList with
 | nil=>rw[hl]at hp;cases hp
 | cons x r=>rw[hl]at hp;exact hp
def be1 (A:AT):Int->List ByteArray->Int->Prop
 | d,[],i=>d=i
 | d,n::r,i=>A.kind d=2 /\ ∃j,A.find d n=some j/\be1 A j r i
theorem be1.snoc {A:AT} {n:ByteArray} {i j:Int} : ∀ {l:List ByteArray} {d:Int},be1 A d l i->A.kind i=2->A.find i n=some j->be1 A d (l++[n]) j:=by
 intro l
 induction l with
 | nil=>intro d h h1 h2;have h:d=i:=h;subst h;exact⟨h1,j,h2,rfl⟩
 | cons x r ih =>
  intro d h h1 h2
  obtain⟨a,k,b,c⟩:=h
  exact⟨a,k,b,ih c h1 h2⟩
def cp4 (n:ByteArray):Prop:=n≠⟨⟨[46,46]⟩⟩/\n.size<=56
structure bn4 (A:AT) (p:ByteArray) (i:Int):Prop where
 head:ax6 47 p=true
 nul:aj2 p=false
 chain:be1 A 1 (aC6 p) i
 names : ∀n∈aC6 p,cp4 n
theorem bn4.sub {A:AT} {p n:ByteArray} {i j:Int} (h:bn4 A p i) (hk:A.kind i=2) (hf:A.find i n=some j) (hn:V4 n=true):bn4 A (Wk.sub p n) j:=by
 unfold V4 at hn
 simp only[A8,z8,Bool.not_eq_true']at hn
 obtain⟨h1,h2,h3,h4,h5⟩:=hn
 have hne:n≠⟨⟨[]⟩⟩:=by intro e;rw[e]at h1;exact u9 h1 (by decide)
 have hne2:n≠⟨⟨[46]⟩⟩:=by intro e;rw[e]at h4;exact u9 h4 (by decide)
 have hne3:n≠⟨⟨[46,46]⟩⟩:=by intro e;rw[e]at h5;exact u9 h5 (by decide)
 have hok:aL3 n:=⟨hne,hne2,h3⟩
 refine⟨bL7 h.head,cb0 hok h.nul,?_,?_⟩
 ·rw[aT3 hok];exact h.chain.snoc hk hf
 ·rw[aT3 hok]
  intro m hm
  rcases N0.1 hm with hm | hm
  ·exact h.names m hm
  ·simp at hm;subst hm;exact⟨hne3,h2⟩
def tk (k:Nat) (s:ByteArray):ByteArray:=s.extract 0 (min s.size k)
end Go.Wk

