/- A part of the proof: FilesMove holds. -/
import Derived.Test.YtbdlkofldmhoaaaGreatDoorMaz
namespace Go.Wk
open Go Go.HL
def Tr.z:Tr := .mk ⟨⟨[]⟩⟩ 0 false ⟨⟨[]⟩⟩ []
def Tr.named (s:ByteArray):Tr->Tr
 | .mk _ k e d kids => .mk s k e d kids
def trimL:List UInt8->List UInt8
 | []=>[]
 | x::r=>match r with
  | []=>(match x==47 with | true=>[] | false=>[x])
  | _::_=>x::trimL r
def trimS (p:ByteArray):ByteArray:=⟨⟨trimL p.data.toList⟩⟩
def kidP (p n:ByteArray):ByteArray:=sub (trimS p) n
def takeRow (g:ByteArray->Int×Tr) (path:ByteArray):List ByteArray->Int×List Tr
 | []=>(0,[])
 | n::r=>let x:=g (kidP path n)
  if x.1≠0 then(x.1,[]) else
   let y:=takeRow g path r
   (y.1,x.2.named n::y.2)
def xOf (k m:Int):Bool:=k==1&&(bitV .and .i64 m 73:Int) != 0
def AT.take (A:AT):Nat->ByteArray->Int×Tr
 | 0,_=>(3,Tr.z)
 | f+1,path =>
  let x:=A.stat ⟨⟨[47]⟩⟩ path false
  if x.1≠0 then(x.1,Tr.z)
  else if x.2.kind=2 then
   let l:=A.listF ⟨⟨[47]⟩⟩ path
   if l.1≠0 then(l.1,Tr.z)
   else
    let r:=takeRow (AT.take A f) path l.2
    (r.1,.mk ⟨⟨[]⟩⟩ 2 false x.2.data r.2)
  else(0,.mk ⟨⟨[]⟩⟩ x.2.kind (xOf x.2.kind x.2.mode) x.2.data [])
mutual
def Tr.same:Tr->Tr->Bool
 | .mk n k e d kids,u => !(Tr.mk n k e d kids).tooDeep&&(!u.tooDeep&&(sEq n u.name&&((k==u.kind)&&((e==u.exec)&&(sEq d u.data&&(Nat.beq kids.length u.kids.length&&Tr.sameRow kids u.kids))))))
def Tr.sameRow:List Tr->List Tr->Bool
 | [],_=>true
 | t::r,l=>match l with
  | []=>false
  | u::s=>Tr.same t u&&Tr.sameRow r s
end
theorem sEq_self (s:ByteArray):sEq s s=true:=sEq_iff.2 rfl
theorem size_list (s:ByteArray):s.size=s.data.toList.length:=by cases s with | mk d=>simp[ByteArray.size]
theorem bytes_ext {a b:ByteArray} (h:a.data.toList=b.data.toList):a=b:=by
 obtain⟨⟨a⟩⟩:=a;obtain⟨⟨b⟩⟩:=b
 have h:a=b:=h
 rw[h]
end Go.Wk

