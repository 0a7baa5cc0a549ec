/- A part of the proof: FilesKnown holds. -/
import Derived.Test.YtbdlkofldmhoaaaGreatDoorNaz
namespace Go.Wk
open Go Go.HL
def Tr.z:Tr := .mk ⟨⟨[]⟩⟩ 0 false ⟨⟨[]⟩⟩ []
def Tr.named (s:ByteArray):Tr->Tr
 | .mk _ k e d kids => .mk s k e d kids
def trimL:List UInt8->List UInt8
 | []=>[]
 | x::r=>match r with
  | []=>(match x==47 with | true=>[] | false=>[x])
  | _::_=>x::trimL r
def trimS (p:ByteArray):ByteArray:=⟨⟨trimL p.data.toList⟩⟩
def kidP (p n:ByteArray):ByteArray:=sub (trimS p) n
def takeRow (g:ByteArray->Int×Tr) (path:ByteArray):List ByteArray->Int×List Tr
 | []=>(0,[])
 | n::r=>let x:=g (kidP path n)
  if x.1≠0 then(x.1,[]) else
   let y:=takeRow g path r
   (y.1,x.2.named n::y.2)
def xOf (k m:Int):Bool:=k==1&&(bitV .and .i64 m 73:Int) != 0
def AT.take (A:AT):Nat->ByteArray->Int×Tr
 | 0,_=>(3,Tr.z)
 | f+1,path =>
  let x:=A.stat ⟨⟨[47]⟩⟩ path false
  if x.1≠0 then(x.1,Tr.z)
  else if x.2.kind=2 then
   let l:=A.listF ⟨⟨[47]⟩⟩ path
   if l.1≠0 then(l.1,Tr.z)
   else
    let r:=takeRow (AT.take A f) path l.2
    (r.1,.mk ⟨⟨[]⟩⟩ 2 false x.2.data r.2)
  else(0,.mk ⟨⟨[]⟩⟩ x.2.kind (xOf x.2.kind x.2.mode) x.2.data [])
mutual
def Tr.same:Tr->Tr->Bool
 | .mk n k e d kids,u => !(Tr.mk n k e d kids).tooDeep&&(!u.tooDeep&&(sEq n u.name&&((k==u.kind)&&((e==u.exec)&&(sEq d u.data&&(Nat.beq kids.length u.kids.length&&Tr.sameRow kids u.kids))))))
def Tr.sameRow:List Tr->List Tr->Bool
 | [],_=>true
 | t::r,l=>match l with
  | []=>false
  | u::s=>Tr.same t u&&Tr.sameRow r s
end
theorem sEq_self (s:ByteArray):sEq s s=true:=sEq_iff.2 rfl
theorem trimL_cases : ∀l:List UInt8,trimL l=l\/l=trimL l++[47]:=by
 intro l
 induction l with
 | nil=>exact .inl rfl
 | cons x r ih =>
  cases r with
  | nil =>
   unfold trimL
   cases hx:(x==47) with
   | true=>right;simp at hx;subst hx;rfl
   | false=>left;simp only
  | cons y r =>
   have e:trimL (x::y::r)=x::trimL (y::r):=by rw[trimL]
   rw[e]
   rcases ih with h | h
   ·left;rw[h]
   ·right;rw[List.cons_append,<- h]
theorem trimS_data (p:ByteArray):(trimS p).data.toList=trimL p.data.toList:=rfl
theorem size_list (s:ByteArray):s.size=s.data.toList.length:=by cases s with | mk d=>simp[ByteArray.size]
theorem bytes_ext {a b:ByteArray} (h:a.data.toList=b.data.toList):a=b:=by
 obtain⟨⟨a⟩⟩:=a;obtain⟨⟨b⟩⟩:=b
 have h:a=b:=h
 rw[h]
theorem parts_kid {p n:ByteArray} (h:nameOk n):partsB (kidP p n)=partsB p++[n]:=by
 unfold kidP
 rw[parts_sub h]
 rcases trimL_cases p.data.toList with e | e
 ·rw[show trimS p=p from bytes_ext e]
 ·congr 1
  unfold partsB
  rw[trimS_data]
  generalize trimL p.data.toList=q at e
  rw[e,splitL_app]
  show _=List.filter okPart (List.map _ (splitL 47 q++[[]]))
  rw[List.map_append,List.filter_append]
  have:List.filter okPart (List.map (fun l=>(⟨⟨l⟩⟩:ByteArray)) [[]])=[]:=by decide
  rw[this,List.append_nil]
theorem nul_trim {p:ByteArray} (h:hasNul p=false):hasNul (trimS p)=false:=by
 unfold hasNul at h ⊢
 rw[trimS_data]
 rcases trimL_cases p.data.toList with e | e
 ·rw[e];exact h
 ·rw[e,List.any_append,Bool.or_eq_false_iff]at h;exact h.1
theorem head_kid {p n:ByteArray} (hp:headIs 47 p=true):headIs 47 (kidP p n)=true:=by
 unfold kidP headIs
 rw[sub_data,trimS_data]
 unfold headIs at hp
 rcases trimL_cases p.data.toList with e | e
 ·rw[e]
  cases hl:p.data.toList with
  | nil=>rfl
  | cons x r=>rw[hl]at hp;exact hp
 ·cases hq:trimL p.data.toList with
  | nil=>rfl
  | cons x r=>rw[e,hq]at hp;exact hp
theorem mayName_ok {n:ByteArray} (hn:mayName n=true):nameOk n/\stepOk n/\1<=n.size:=by
 unfold mayName at hn
 simp only[Bool.and_eq_true,decide_eq_true_eq,Bool.not_eq_true']at hn
 obtain⟨h1,h2,h3,h4,h5⟩:=hn
 have hne:n≠⟨⟨[]⟩⟩:=by intro e;rw[e]at h1;exact absurd h1 (by decide)
 have hne2:n≠⟨⟨[46]⟩⟩:=by intro e;rw[e]at h4;exact absurd h4 (by decide)
 have hne3:n≠⟨⟨[46,46]⟩⟩:=by intro e;rw[e]at h5;exact absurd h5 (by decide)
 exact⟨⟨hne,hne2,h3⟩,⟨hne3,h2⟩,h1⟩
theorem PathTo.kid {A:AT} {p n:ByteArray} {i j:Int} (h:PathTo A p i) (hk:A.kind i=2) (hf:A.find i n=some j) (hn:mayName n=true):PathTo A (kidP p n) j:=by
 obtain⟨hok,hst,_⟩:=mayName_ok hn
 refine⟨head_kid h.head,nul_sub hok (nul_trim h.nul),?_,?_⟩
 ·rw[parts_kid hok];exact h.chain.snoc hk hf
 ·rw[parts_kid hok]
  intro m hm
  rcases List.mem_append.1 hm with hm | hm
  ·exact h.names m hm
  ·simp at hm;subst hm;exact hst
end Go.Wk

