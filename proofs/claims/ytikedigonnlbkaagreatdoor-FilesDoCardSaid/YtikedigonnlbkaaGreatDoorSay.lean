/- A part of a proof. -/
import Derived.Test.YtikedigonnlbkaaGreatDoorSax
namespace Go.Wk
open Go Go.HL
def Tr.z:Tr:=.mk ⟨⟨[]⟩⟩ 0 false ⟨⟨[]⟩⟩ []
def Tr.named(s:d9):Tr->Tr
 |.mk _ k e d gn=>.mk s k e d gn
def ay1:List J3->List J3
 | []=>[]
 |x::r=>match r with
  | []=>(match x==47 with|true=>[]|false=>[x])
  |_::_=>x::ay1 r
def trimS(p:d9):d9:=⟨⟨ay1 p.data.toList⟩⟩
def bL3(p n:d9):d9:=sub (trimS p) n
def bF4(g:d9->Int×Tr)(gc:d9):List d9->Int×List Tr
 | []=>(0,[])
 |n::r=>let x:=g (bL3 gc n)
  if x.1≠0 then(x.1,[]) else
   let y:=bF4 g gc r
   (y.1,x.2.named n::y.2)
def xOf(k m:Int):Bool:=k==1&&(aC0 .and .i64 m 73:Int) != 0
def AT.take(A:AT):Nat->d9->Int×Tr
 |0,_=>(3,Tr.z)
 |f+1,gc =>
  let x:=A.stat ⟨⟨[47]⟩⟩ gc false
  if x.1≠0 then(x.1,Tr.z)
  else if x.2.kind=2 then
   let l:=A.listF ⟨⟨[47]⟩⟩ gc
   if l.1≠0 then(l.1,Tr.z)
   else
    let r:=bF4 (AT.take A f) gc l.2
    (r.1,.mk ⟨⟨[]⟩⟩ 2 false x.2.data r.2)
  else(0,.mk ⟨⟨[]⟩⟩ x.2.kind (xOf x.2.kind x.2.mode) x.2.data [])
mutual
def Tr.same:Tr->Tr->Bool
 |.mk n k e d gn,u=>!(Tr.mk n k e d gn).tooDeep&&(!u.tooDeep&&(E8 n u.gu&&((k==u.kind)&&((e==u.exec)&&(E8 d u.data&&(Nat.beq gn.length u.gn.length&&Tr.sameRow gn u.gn))))))
def Tr.sameRow:List Tr->List Tr->Bool
 | [],_=>true
 |t::r,l=>match l with
  | []=>false
  |u::s=>Tr.same t u&&Tr.sameRow r s
end
theorem bY4(s:d9):E8 s s=true:=J9.2 rfl
theorem ay2:∀l:List J3,ay1 l=l\/l=ay1 l++[47]:=by
 intro l
 induction l with
 |nil=>exact .inl rfl
 |cons x r ih =>
  cases r with
  |nil =>
   unfold ay1;cases hx:(x==47) with
   |true=>right;simp at hx;subst hx;rfl
   |false=>left;simp only
  |cons y r =>
   have e:ay1 (x::y::r)=x::ay1 (y::r):=by rw[ay1]
   rw[e];rcases ih with h|h
   ·left;rw[h]
   ·right;rw[ag0,<- h]
theorem aD0(p:d9):(trimS p).data.toList=ay1 p.data.toList:=rfl
theorem ah5(s:d9):s.size=s.data.toList.length:=by cases s with|mk d=>simp[ByteArray.size]
theorem W9{a b:d9}(h:a.data.toList=b.data.toList):a=b:=by
 obtain⟨⟨a⟩⟩:=a;obtain⟨⟨b⟩⟩:=b;have h:a=b:=h;rw[h]
theorem aX9{p n:d9}(h:W1 n):N1 (bL3 p n)=N1 p++[n]:=by
 unfold bL3;rw[aA4 h];rcases ay2 p.data.toList with e|e
 ·rw[show trimS p=p from W9 e]
 ·congr 1
  unfold N1;rw[aD0];generalize ay1 p.data.toList=q at e;rw[e,aQ6];show _=List.filter S8 (List.map _ (P6 47 q++[[]]));rw[List.map_append,List.filter_append];have:List.filter S8 (List.map (fun l=>(⟨⟨l⟩⟩:d9)) [[]])=[]:=by decide
  rw[this,ac3]
theorem bY5{p:d9}(h:W6 p=false):W6 (trimS p)=false:=by
 unfold W6 at h⊢;rw[aD0];rcases ay2 p.data.toList with e|e
 ·rw[e];exact h
 ·rw[e,List.any_append,Bool.or_eq_false_iff]at h;exact h.1
theorem bY6{p n:d9}(hp:C8 47 p=true):C8 47 (bL3 p n)=true:=by
 unfold bL3 C8;rw[ay0,aD0];unfold C8 at hp;rcases ay2 p.data.toList with e|e
 ·rw[e];cases hl:p.data.toList with
  |nil=>rfl
  |cons x r=>rw[hl]at hp;exact hp
 ·cases hq:ay1 p.data.toList with
  |nil=>rfl
  |cons x r=>rw[e,hq]at hp;exact hp
theorem bw4{n:d9}(hn:ar0 n=true):W1 n/\W2 n/\1<=n.size:=by
 unfold ar0 at hn;simp only[J4,I6,Bool.not_eq_true']at hn;obtain⟨h1,h2,h3,h4,h5⟩:=hn;have ia:n≠⟨⟨[]⟩⟩:=by intro e;rw[e]at h1;exact m7 h1 (by decide)
 have yn:n≠⟨⟨[46]⟩⟩:=by intro e;rw[e]at h4;exact m7 h4 (by decide)
 have yo:n≠⟨⟨[46,46]⟩⟩:=by intro e;rw[e]at h5;exact m7 h5 (by decide)
 exact⟨⟨ia,yn,h3⟩,⟨yo,h2⟩,h1⟩
theorem aI9.kid{A:AT}{p n:d9}{i j:Int}(h:aI9 A p i)(hk:A.kind i=2)(hf:A.find i n=some j)(hn:ar0 n=true):aI9 A (bL3 p n) j:=by
 obtain⟨jb,kn,_⟩:=bw4 hn;refine⟨bY6 h.head,bF3 jb (bY5 h.nul),?_,?_⟩
 ·rw[aX9 jb];exact h.chain.snoc hk hf
 ·rw[aX9 jb];intro m hm;rcases Q4.1 hm with hm|hm
  ·exact h.gd m hm
  ·simp at hm;subst hm;exact kn
end Go.Wk

