/- A part of a proof. -/
import Derived.Test.YtgfiobhpipollaaGreatDoorOan
namespace Go.Wk
open Go Go.HL
structure AN where
 kind:Int
 mode:Int
 data:ByteArray
 links:Int
 up:Int
 ents:List (ByteArray×Int)
structure AT where
 qi:Int
 qb:Int
 ui:Int
 ub:Int
 last:Int
 nodes:List (Int×AN)
def AT.get (A:AT) (i:Int):Option AN:=lk i A.nodes
def AT.find (A:AT) (dir:Int) (name:ByteArray):Option Int:=(A.get dir).bind fun n=>lk name n.ents
def AT.kind (A:AT) (i:Int):Int:=((A.get i).map (·.kind)).getD 0
def AT.upOf (A:AT) (i:Int):Int:=((A.get i).map (·.up)).getD 0
def sEq (x y:ByteArray):Bool:=x.data.toList==y.data.toList
theorem ao3 (x y:ByteArray):sEq x y=B8 x y:=by unfold sEq B8;rw[ByteArray.toList_eq,ByteArray.toList_eq]
theorem aI2 {x y:ByteArray}:sEq x y=true↔x=y:=by rw[ao3];exact P8
def P1 (s:ByteArray):Bool:=s.data.toList.any fun c=>c==47||c==0
def aj2 (s:ByteArray):Bool:=s.data.toList.any fun c=>c==0
def bn0 (name:ByteArray):Int:=if name.size>56 then 3 else if !sEq name ⟨⟨[]⟩⟩ && !sEq name ⟨⟨[46]⟩⟩ && !sEq name ⟨⟨[46,46]⟩⟩ && !P1 name then 0 else 2
def ah4 (d:ByteArray):Bool := !sEq d ⟨⟨[]⟩⟩&&(decide (d.size<=255) && !aj2 d)
def ca4 (kind:Int) (d:ByteArray):Bool:=(lk kind [((1:Int),true),(2,sEq d ⟨⟨[]⟩⟩),(3,ah4 d)]).getD false
def cA2 (kind mode:Int) (d:ByteArray):Int:=if ca4 kind d&&(decide (0<=mode)&&decide (mode<=511))then 0 else 2
def AT.set (A:AT) (i:Int) (n:AN):AT:={ A with nodes:=up i n A.nodes }
def AT.ent (A:AT) (dir:Int) (f:List (ByteArray×Int)->List (ByteArray×Int)):AT:=match A.get dir with
 | none=>A
 | some n=>A.set dir { n with ents:=f n.ents }
end Go.Wk

namespace Go.Wk
open Go Go.HL
def leB:List UInt8->List UInt8->Bool
 | [],_=>true
 | _::_,[]=>false
 | a::r,b::s=>match Nat.blt a.toNat b.toNat with
  | true=>true
  | false=>match Nat.blt b.toNat a.toNat with
   | true=>false
   | false=>leB r s
def cA3 (x:List UInt8):List (List UInt8)->List (List UInt8)
 | []=>[x]
 | y::r=>match leB x y with
  | true=>x::y::r
  | false=>y::cA3 x r
def cl4:List (List UInt8)->List (List UInt8)
 | []=>[]
 | x::r=>cA3 x (cl4 r)
def cA4 (l:List ByteArray):List ByteArray:=(cl4 (l.map fun s=>s.data.toList)).map fun x=>(⟨⟨x⟩⟩:ByteArray)
def AT.names (A:AT) (dir:Int):List ByteArray:=match A.get dir with
 | none=>[]
 | some n=>cA4 (ab1 n.ents)
structure Pl where
 dir:Int
 name:ByteArray
 ino:Int
 there:Bool
def Pl.z:Pl:=⟨0,⟨⟨[]⟩⟩,0,false⟩
def O7 (c:UInt8):List UInt8->List (List UInt8)
 | []=>[[]]
 | x::r=>match x==c with
  | true=>[]::O7 c r
  | false=>match O7 c r with
   | []=>[[x]]
   | h::t=>(x::h)::t
def aY1 (s:ByteArray):Bool := !sEq s ⟨⟨[]⟩⟩ && !sEq s ⟨⟨[46]⟩⟩
def aC6 (path:ByteArray):List ByteArray:=((O7 47 path.data.toList).map fun l=>(⟨⟨l⟩⟩:ByteArray)).filter aY1
def cA5 (path:ByteArray):Int:=if sEq path ⟨⟨[]⟩⟩then 5 else if path.size>255 then 3 else if aj2 path then 2 else 0
def ax6 (c:UInt8) (s:ByteArray):Bool:=match s.data.toList with
 | []=>false
 | x::_=>x==c
def AT.data (A:AT) (i:Int):ByteArray:=((A.get i).map (·.data)).getD ⟨⟨[]⟩⟩
def AT.steps (A:AT) (go:Int->ByteArray->Int->Int×Pl×Int) (follow:Bool):List ByteArray->Pl->Int->Int×Pl×Int
 | [],p,h=>(0,p,h)
 | name::rest,p,h =>
  if p.there=false then(5,Pl.z,h)
  else if A.kind p.ino≠2 then(8,Pl.z,h)
  else if sEq name ⟨⟨[46,46]⟩⟩=true then AT.steps A go follow rest ⟨A.upOf p.ino,⟨⟨[]⟩⟩,A.upOf p.ino,true⟩ h
  else if name.size>56 then(3,Pl.z,h)
  else
   let o:=A.find p.ino name
   let q:Pl:=⟨p.ino,name,o.getD 0,o.isSome⟩
   if o.isSome=false\/(rest.isEmpty && !follow)=true\/A.kind q.ino≠3 then AT.steps A go follow rest q h
   else if h - 1<0 then(9,Pl.z,h - 1)
   else
    let r:=go q.dir (A.data q.ino) (h - 1)
    if r.1≠0 then(r.1,Pl.z,r.2.2)else AT.steps A go follow rest r.2.1 r.2.2
def AT.walk (A:AT):Nat->Int->ByteArray->Bool->Int->Int×Pl×Int
 | 0,_,_,_,h=>(9,Pl.z,h)
 | f+1,at_,path,follow,h =>
  if cA5 path≠0 then(cA5 path,Pl.z,h)
  else
   let a:=if ax6 47 path then 1 else at_
   A.steps (fun d s h'=>AT.walk A f d s true h') follow (aC6 path) ⟨a,⟨⟨[]⟩⟩,a,true⟩ h
def AT.locate (A:AT) (cwd path:ByteArray) (follow:Bool):Int×Pl :=
 if sEq path ⟨⟨[]⟩⟩then(5,Pl.z)
 else if ax6 47 path then let r:=A.walk 10 1 path follow 8;(r.1,r.2.1)
 else if ax6 47 cwd=false then(5,Pl.z)
 else
  let r:=A.walk 10 1 cwd true 8
  if r.1≠0 then(r.1,Pl.z)
  else if r.2.1.there=false then(5,Pl.z)
  else if A.kind r.2.1.ino≠2 then(8,Pl.z)
  else let r':=A.walk 10 r.2.1.ino path follow 8;(r'.1,r'.2.1)
structure IN where
 kind:Int
 mode:Int
 data:ByteArray
 links:Int
def IN.z:IN:=⟨0,0,⟨⟨[]⟩⟩,0⟩
def AN.inode (n:AN):IN:=⟨n.kind,n.mode,n.data,n.links⟩
def AT.ino (A:AT) (i:Int):IN:=((A.get i).map AN.inode).getD IN.z
def AT.with_ (A:AT) (cwd path:ByteArray) (follow:Bool):Int×Int×IN :=
 let r:=A.locate cwd path follow
 if r.1≠0 then(r.1,0,IN.z)
 else if r.2.there=false then(5,0,IN.z)
 else match A.get r.2.ino with
  | none=>(5,0,IN.z)
  | some n=>(0,r.2.ino,n.inode)
def AT.stat (A:AT) (cwd path:ByteArray) (follow:Bool):Int×IN:=let r:=A.with_ cwd path follow;(r.1,r.2.2)
def AT.deep (A:AT):Nat->Int->Option Int
 | 0,_=>none
 | f+1,d=>if d=1 then some 1 else(AT.deep A f (A.upOf d)).map (· + 1)
def AT.listF (A:AT) (cwd path:ByteArray):Int×List ByteArray :=
 let r:=A.with_ cwd path true
 if r.1≠0 then(r.1,[])else if r.2.2.kind≠2 then(8,[])else(0,A.names r.2.1)
def AT.levels (A:AT):Nat->Int->Int
 | 0,_=>0
 | f+1,i=>if A.kind i≠2 then 0 else(A.names i).foldl (fun n s=>let x:=AT.levels A f ((A.find i s).getD 0);if x>n then x else n) 0+1
end Go.Wk

