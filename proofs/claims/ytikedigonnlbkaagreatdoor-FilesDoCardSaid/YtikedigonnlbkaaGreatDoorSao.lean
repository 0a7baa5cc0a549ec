/- A part of a proof. -/
import Derived.Test.YtikedigonnlbkaaGreatDoorSan
namespace Go.Wk
open Go Go.HL
section
structure AN where
 kind:Int
 mode:Int
 data:d9
 links:Int
 up:Int
 gj:List (d9×Int)
structure AT where
 qi:Int
 qb:Int
 ui:Int
 ub:Int
 last:Int
 nodes:List (Int×AN)
def AT.get(A:AT)(i:Int):Option AN:=lk i A.nodes
def AT.find(A:AT)(gh:Int)(gu:d9):Option Int:=(A.get gh).bind fun n=>lk gu n.gj
def AT.kind(A:AT)(i:Int):Int:=((A.get i).map (·.kind)).getD 0
def AT.upOf(A:AT)(i:Int):Int:=((A.get i).map (·.up)).getD 0
def AT.dirE(A:AT)(gf:Int):Int:=match A.get gf with
 |none=>5
 |some n=>if n.kind==2 then 0 else 8
def AT.fileE(A:AT)(gf:Int):Int:=match A.get gf with
 |none=>5
 |some n=>if n.kind==2 then 7 else if n.kind==1 then 0 else 2
def E8(x y:d9):Bool:=x.data.toList==y.data.toList
theorem I5(x y:d9):E8 x y=C3 x y:=by unfold E8 C3;rw[ByteArray.toList_eq,ByteArray.toList_eq]
theorem J9{x y:d9}:E8 x y=true↔x=y:=by rw[I5];exact Z3
def X6(s:d9):Bool:=s.data.toList.any fun c=>c==47||c==0
def W6(s:d9):Bool:=s.data.toList.any fun c=>c==0
def S3(gu:d9):Int:=if gu.size>56 then 3 else if !E8 gu ⟨⟨[]⟩⟩ && !E8 gu ⟨⟨[46]⟩⟩ && !E8 gu ⟨⟨[46,46]⟩⟩ && !X6 gu then 0 else 2
def Z9(d:d9):Bool:=!E8 d ⟨⟨[]⟩⟩&&(decide (d.size<=255) && !W6 d)
def af2(kind:Int)(d:d9):Bool:=(lk kind [((1:Int),true),(2,E8 d ⟨⟨[]⟩⟩),(3,Z9 d)]).getD false
def ac5(kind mode:Int)(d:d9):Int:=if af2 kind d&&(decide (0<=mode)&&decide (mode<=511))then 0 else 2
def wr(x:Int):Int:=IntKind.i64.wrap x
def AT.roomE(A:AT)(i n:Int):Int:=if wr (A.ui+i)<=A.qi/\wr (A.ub+n)<=A.qb then 0 else 10
def N0:List Int->Int
 | []=>0
 |e::es=>if e=0 then N0 es else e
def AT.set(A:AT)(i:Int)(n:AN):AT:={A with nodes:=up i n A.nodes}
def AT.ent(A:AT)(gh:Int)(f:List (d9×Int)->List (d9×Int)):AT:=match A.get gh with
 |none=>A
 |some n=>A.set gh {n with gj:=f n.gj}
def AT.makeE(A:AT)(gh:Int)(gu:d9)(kind mode:Int)(data:d9):Int :=
 N0 [0,A.dirE gh,S3 gu,ac5 kind mode data,if(A.find gh gu).isSome then 6 else 0,A.roomE 1 (data.size:Int)]
def AT.made(A:AT)(gh:Int)(gu:d9)(kind mode:Int)(data:d9):AT :=
 let i:=wr (A.last+1)
 let A1:={A with last:=i,nodes:=up i ⟨kind,mode,data,1,if kind==2 then gh else 0,[]⟩ A.nodes}
 let A2:=A1.ent gh (up gu i)
 {A2 with ui:=wr (A.ui+1),ub:=wr (A.ub+data.size)}
def AT.linkE(A:AT)(gh:Int)(gu:d9)(gf:Int):Int :=
 N0 [0,A.dirE gh,S3 gu,A.fileE gf,if(A.find gh gu).isSome then 6 else 0]
def AT.mod(A:AT)(i:Int)(f:AN->AN):AT:=match A.get i with
 |none=>A
 |some n=>A.set i (f n)
def AT.linked(A:AT)(gh:Int)(gu:d9)(gf:Int):AT:=(A.ent gh (up gu gf)).mod gf fun n=>{n with links:=wr (n.links+1)}
def AT.unlinkE(A:AT)(gh:Int)(gu:d9):Int :=
 N0 [0,A.dirE gh,if(A.find gh gu).isSome then 0 else 5,if((A.get ((A.find gh gu).getD 0)).map (·.gj.length)).getD 0=0 then 0 else 20]
def AT.unlinked(A:AT)(gh:Int)(gu:d9):AT :=
 let gf:=(A.find gh gu).getD 0
 let A1:=(A.ent gh (rm gu)).mod gf fun n=>{n with links:=wr (n.links-1)}
 match A1.get gf with
 |none=>A1
 |some n=>if n.links==0 then {A1 with nodes:=rm gf A1.nodes,ui:=wr (A.ui-1),ub:=wr (A.ub-n.data.size)}else A1
def AT.apart(A:AT)(gf:Int):Nat->Int->Option Bool
 |0,_=>none
 |f+1,at_=>if at_=1 then some true else if at_=gf then some false else(A.get at_).bind fun n=>AT.apart A gf f n.up
def AT.moveE1(A:AT)(gk:Int)(gu:d9)(tq:Int)(as_:d9):Int :=
 N0 [0,A.dirE gk,A.dirE tq,S3 as_,if(A.find gk gu).isSome then 0 else 5]
def AT.moved(A:AT)(gk:Int)(gu:d9)(tq:Int)(as_:d9):AT :=
 let gf:=(A.find gk gu).getD 0
 ((A.ent gk (rm gu)).ent tq (up as_ gf)).mod gf fun n=>if n.kind==2 then {n with up:=tq}else n
def AT.writeE(A:AT)(gf:Int)(data:d9):Int :=
 N0 [0,A.fileE gf,A.roomE 0 (wr ((data.size:Int)-((A.get gf).map (·.data.size)).getD 0))]
def AT.written(A:AT)(gf:Int)(data:d9):AT:=match A.get gf with
 |none=>A
 |some n=>{A.set gf {n with data:=data}with ub:=wr (A.ub+wr ((data.size:Int)-n.data.size))}
def AT.chmodE(A:AT)(gf mode:Int):Int:=N0 [0,if 0<=mode/\mode<=511 then 0 else 2,if(A.get gf).isSome then 0 else 5]
def AT.chmoded(A:AT)(gf mode:Int):AT:=A.mod gf fun n=>{n with mode:=mode}
def X8(qi qb:Int):Bool:=!(decide (qi<1)||(decide (qi>1048576)||(decide (qb<0)||decide (qb>1073741824))))
def ax1(qi qb:Int):AT:=⟨qi,qb,1,0,1,[(1,⟨2,493,⟨⟨[]⟩⟩,1,1,[]⟩)]⟩
def AT.makeR(A:AT)(gh:Int)(gu:d9)(kind mode:Int)(data:d9):Int×Int×AT :=
 if A.makeE gh gu kind mode data=0 then(wr (A.last+1),0,A.made gh gu kind mode data)else(0,A.makeE gh gu kind mode data,A)
def AT.linkR(A:AT)(gh:Int)(gu:d9)(gf:Int):Int×AT :=
 if A.linkE gh gu gf=0 then(0,A.linked gh gu gf)else(A.linkE gh gu gf,A)
def AT.writeR(A:AT)(gf:Int)(data:d9):Int×AT:=if A.writeE gf data=0 then(0,A.written gf data)else(A.writeE gf data,A)
def AT.chmodR(A:AT)(gf mode:Int):Int×AT:=if A.chmodE gf mode=0 then(0,A.chmoded gf mode)else(A.chmodE gf mode,A)
def AT.unlinkR(A:AT)(gh:Int)(gu:d9):Int×AT:=if A.unlinkE gh gu=0 then(0,A.unlinked gh gu)else(A.unlinkE gh gu,A)
def AT.moveR(A:AT)(gk:Int)(gu:d9)(tq:Int)(as_:d9)(f:Nat):Int×AT :=
 if A.moveE1 gk gu tq as_≠0\/(gk=tq/\gu=as_)then(A.moveE1 gk gu tq as_,A)
 else
  let e:=N0 [if(A.find tq as_).isSome then 6 else 0,if(A.apart ((A.find gk gu).getD 0) f tq).getD false then 0 else 2]
  if e≠0 then(e,A)else(0,A.moved gk gu tq as_)
end
section
def leB:List J3->List J3->Bool
 | [],_=>true
 |_::_,[]=>false
 |a::r,b::s=>match Nat.blt a.toNat b.toNat with
  |true=>true
  |false=>match Nat.blt b.toNat a.toNat with
   |true=>false
   |false=>leB r s
def bv7(x:List J3):List (List J3)->List (List J3)
 | []=>[x]
 |y::r=>match leB x y with
  |true=>x::y::r
  |false=>y::bv7 x r
def aQ5:List (List J3)->List (List J3)
 | []=>[]
 |x::r=>bv7 x (aQ5 r)
def E7(l:List d9):List d9:=(aQ5 (l.map fun s=>s.data.toList)).map fun x=>(⟨⟨x⟩⟩:d9)
theorem ag6:∀x y:List J3,leB x y=true↔x<=y:=by
 intro x
 induction x with
 |nil=>intro y;simp[leB]
 |cons a r ih =>
  intro y;cases y with
  |nil=>simp[leB]
  |cons b s =>
   rw[List.cons_le_cons_iff];unfold leB;cases h1:Nat.blt a.toNat b.toNat with
   |true =>
    have:a<b:=UInt8.lt_iff_toNat_lt.2 (by simpa[Nat.blt_eq]using h1);simp[this]
   |false =>
    have jq:¬a<b:=by
     intro h;have:Nat.blt a.toNat b.toNat=true:=by rw[Nat.blt_eq];exact h
     rw[h1]at this;cases this
    cases h2:Nat.blt b.toNat a.toNat with
    |true =>
     have:b<a:=UInt8.lt_iff_toNat_lt.2 (by simpa[Nat.blt_eq]using h2);simp only[D2,false_iff,not_or,not_and];refine⟨jq,fun e=>?_⟩;subst e;exact m7 this (UInt8.lt_irrefl _)
    |false =>
     have sl:¬b<a:=by
      intro h;have:Nat.blt b.toNat a.toNat=true:=by rw[Nat.blt_eq];exact h
      rw[h2]at this;cases this
     have:a=b:=UInt8.le_antisymm (UInt8.not_lt.1 sl) (UInt8.not_lt.1 jq);simp[this,ih]
theorem aX4(x:List J3):∀l,(bv7 x l).Perm (x::l):=by
 intro l
 induction l with
 |nil=>exact List.Perm.refl _
 |cons y r ih =>
  unfold bv7;cases leB x y with
  |true=>exact List.Perm.refl _
  |false=>exact(ih.cons y).trans (List.Perm.swap x y r)
theorem ae5:∀l,(aQ5 l).Perm l:=by
 intro l
 induction l with
 |nil=>exact List.Perm.refl _
 |cons x r ih=>exact(aX4 x _).trans (ih.cons x)
theorem bk1{x:List J3}:∀ {l:List (List J3)},l.Pairwise (· <= ·)->(bv7 x l).Pairwise (· <= ·):=by
 intro l
 induction l with
 |nil=>intro _;simp[bv7]
 |cons y r ih =>
  intro h;obtain⟨h1,h2⟩:=List.pairwise_cons.1 h;unfold bv7;cases hb:leB x y with
  |true =>
   have yi:=(ag6 x y).1 hb;refine List.pairwise_cons.2 ⟨fun z hz=>?_,h⟩;rcases G9.1 hz with e|e
   ·rw[e];exact yi
   ·exact List.le_trans yi (h1 z e)
  |false =>
   have Eg:y<=x:=by
    have:¬x<=y:=by rw[<-ag6,hb];simp
    exact(List.le_total x y).resolve_left this
   refine List.pairwise_cons.2 ⟨fun z hz=>?_,ih h2⟩;rcases G9.1 ((aX4 x r).mem_iff.1 hz)with e|e
   ·rw[e];exact Eg
   ·exact h1 z e
theorem af3:∀l,(aQ5 l).Pairwise (· <= ·):=by
 intro l
 induction l with
 |nil=>exact List.Pairwise.nil
 |cons x r ih=>exact bk1 ih
theorem bk2(l:List (List J3)):l.mergeSort (fun x y=>decide (x<=y))=aQ5 l:=by
 have h1:=List.pairwise_mergeSort (le:=fun x y:List J3=>decide (x<=y)) (by intro a b c h1 h2;simp only[I6]at *;exact List.le_trans h1 h2) (by intro a b;simp only[Bool.or_eq_true,I6];exact List.le_total a b) l;have jq:(l.mergeSort (fun x y=>decide (x<=y))).Pairwise (· <= ·):=h1.imp (by intro a b h;simpa using h);refine List.Perm.eq_of_pairwise (le:=(· <= ·)) ?_ jq (af3 l) ((List.mergeSort_perm l _).trans (ae5 l).symm);intro a b _ _ h1 h2;exact List.le_antisymm h1 h2
def AT.gd(A:AT)(gh:Int):List d9:=match A.get gh with
 |none=>[]
 |some n=>E7 (C5 n.gj)
structure Pl where
 gh:Int
 gu:d9
 gf:Int
 there:Bool
def Pl.z:Pl:=⟨0,⟨⟨[]⟩⟩,0,false⟩
def P6(c:J3):List J3->List (List J3)
 | []=>[[]]
 |x::r=>match x==c with
  |true=>[]::P6 c r
  |false=>match P6 c r with
   | []=>[[x]]
   |h::t=>(x::h)::t
def S8(s:d9):Bool:=!E8 s ⟨⟨[]⟩⟩ && !E8 s ⟨⟨[46]⟩⟩
def N1(gc:d9):List d9:=((P6 47 gc.data.toList).map fun l=>(⟨⟨l⟩⟩:d9)).filter S8
def ab1(gc:d9):Int:=if E8 gc ⟨⟨[]⟩⟩then 5 else if gc.size>255 then 3 else if W6 gc then 2 else 0
def C8(c:J3)(s:d9):Bool:=match s.data.toList with
 | []=>false
 |x::_=>x==c
def AT.data(A:AT)(i:Int):d9:=((A.get i).map (·.data)).getD ⟨⟨[]⟩⟩
def AT.steps(A:AT)(go:Int->d9->Int->Int×Pl×Int)(gi:Bool):List d9->Pl->Int->Int×Pl×Int
 | [],p,h=>(0,p,h)
 |gu::rest,p,h =>
  if p.there=false then(5,Pl.z,h)
  else if A.kind p.gf≠2 then(8,Pl.z,h)
  else if E8 gu ⟨⟨[46,46]⟩⟩=true then AT.steps A go gi rest ⟨A.upOf p.gf,⟨⟨[]⟩⟩,A.upOf p.gf,true⟩ h
  else if gu.size>56 then(3,Pl.z,h)
  else
   let o:=A.find p.gf gu
   let q:Pl:=⟨p.gf,gu,o.getD 0,o.isSome⟩
   if o.isSome=false\/(rest.isEmpty && !gi)=true\/A.kind q.gf≠3 then AT.steps A go gi rest q h
   else if h-1<0 then(9,Pl.z,h-1)
   else
    let r:=go q.gh (A.data q.gf) (h-1)
    if r.1≠0 then(r.1,Pl.z,r.2.2)else AT.steps A go gi rest r.2.1 r.2.2
def AT.walk(A:AT):Nat->Int->d9->Bool->Int->Int×Pl×Int
 |0,_,_,_,h=>(9,Pl.z,h)
 |f+1,at_,gc,gi,h =>
  if ab1 gc≠0 then(ab1 gc,Pl.z,h)
  else
   let a:=if C8 47 gc then 1 else at_
   A.steps (fun d s h'=>AT.walk A f d s true h') gi (N1 gc) ⟨a,⟨⟨[]⟩⟩,a,true⟩ h
def AT.locate(A:AT)(gb gc:d9)(gi:Bool):Int×Pl :=
 if E8 gc ⟨⟨[]⟩⟩then(5,Pl.z)
 else if C8 47 gc then let r:=A.walk 10 1 gc gi 8;(r.1,r.2.1)
 else if C8 47 gb=false then(5,Pl.z)
 else
  let r:=A.walk 10 1 gb true 8
  if r.1≠0 then(r.1,Pl.z)
  else if r.2.1.there=false then(5,Pl.z)
  else if A.kind r.2.1.gf≠2 then(8,Pl.z)
  else let r':=A.walk 10 r.2.1.gf gc gi 8;(r'.1,r'.2.1)
structure IN where
 kind:Int
 mode:Int
 data:d9
 links:Int
def IN.z:IN:=⟨0,0,⟨⟨[]⟩⟩,0⟩
def AN.inode(n:AN):IN:=⟨n.kind,n.mode,n.data,n.links⟩
def AT.gf(A:AT)(i:Int):IN:=((A.get i).map AN.inode).getD IN.z
def AT.with_(A:AT)(gb gc:d9)(gi:Bool):Int×Int×IN :=
 let r:=A.locate gb gc gi
 if r.1≠0 then(r.1,0,IN.z)
 else if r.2.there=false then(5,0,IN.z)
 else match A.get r.2.gf with
  |none=>(5,0,IN.z)
  |some n=>(0,r.2.gf,n.inode)
def AT.stat(A:AT)(gb gc:d9)(gi:Bool):Int×IN:=let r:=A.with_ gb gc gi;(r.1,r.2.2)
def AT.read(A:AT)(gb gc:d9):Int×d9 :=
 let r:=A.with_ gb gc true
 if r.1≠0 then(r.1,⟨⟨[]⟩⟩)else if r.2.2.kind=2 then(7,⟨⟨[]⟩⟩)else(0,r.2.2.data)
def AT.deep(A:AT):Nat->Int->Option Int
 |0,_=>none
 |f+1,d=>if d=1 then some 1 else(AT.deep A f (A.upOf d)).map (· + 1)
def AT.within(A:AT)(gf:Int):Nat->Int->Option Bool
 |0,_=>none
 |f+1,d=>if d=gf then some true else if d=1 then some false else AT.within A gf f (A.upOf d)
def AT.writeF(A:AT)(gb gc data:d9)(more:Bool):Int×AT :=
 let r:=A.locate gb gc true
 if r.1≠0 then(r.1,A)
 else if r.2.there=false then let m:=A.makeR r.2.gh r.2.gu 1 420 data;(m.2.1,m.2.2)
 else if A.kind r.2.gf=2 then(7,A)
 else A.writeR r.2.gf (if more then A.data r.2.gf++data else data)
def AT.freshP(A:AT)(gb gc:d9):Int×Pl :=
 let r:=A.locate gb gc false
 if r.1≠0 then(r.1,Pl.z)else if r.2.there=true then(6,Pl.z)else(0,r.2)
def AT.mkdirF(A:AT)(gb gc:d9):Int×AT :=
 let r:=A.freshP gb gc
 if r.1≠0 then(r.1,A)
 else if(A.deep 13 r.2.gh).getD 0>=12 then(3,A)
 else let m:=A.makeR r.2.gh r.2.gu 2 493 ⟨⟨[]⟩⟩;(m.2.1,m.2.2)
def AT.symlinkF(A:AT)(gb target gc:d9):Int×AT :=
 if Z9 target=false then(2,A)
 else
  let r:=A.freshP gb gc
  if r.1≠0 then(r.1,A)
  else let m:=A.makeR r.2.gh r.2.gu 3 511 target;(m.2.1,m.2.2)
def AT.chmodF(A:AT)(gb gc:d9)(mode:Int):Int×AT :=
 if mode<0\/mode>511 then(2,A)
 else
  let r:=A.with_ gb gc true
  if r.1≠0 then(r.1,A)
  else A.chmodR r.2.1 mode
def AT.listF(A:AT)(gb gc:d9):Int×List d9 :=
 let r:=A.with_ gb gc true
 if r.1≠0 then(r.1,[])else if r.2.2.kind≠2 then(8,[])else(0,A.gd r.2.1)
def AT.removeF(A:AT)(gb gc:d9):Int×AT :=
 let r:=A.locate gb gc false
 if r.1≠0 then(r.1,A)
 else if r.2.there=false then(5,A)
 else if E8 r.2.gu ⟨⟨[]⟩⟩=true then(2,A)
 else if(A.gd r.2.gf).length>0 then(20,A)
 else A.unlinkR r.2.gh r.2.gu
def AT.both(A:AT)(gb gk tq:d9):Int×Pl×Pl :=
 let p:=A.locate gb gk false
 if p.1≠0 then(p.1,p.2,Pl.z)else let q:=A.locate gb tq false;(q.1,p.2,q.2)
def AT.hardF(A:AT)(gb gk tq:d9):Int×AT :=
 let r:=A.both gb gk tq
 if r.1≠0 then(r.1,A)
 else if r.2.1.there=false then(5,A)
 else if A.kind r.2.1.gf=2 then(7,A)
 else if A.kind r.2.1.gf=3 then(2,A)
 else if r.2.2.there=true then(6,A)
 else A.linkR r.2.2.gh r.2.2.gu r.2.1.gf
def AT.levels(A:AT):Nat->Int->Int
 |0,_=>0
 |f+1,i=>if A.kind i≠2 then 0 else(A.gd i).foldl (fun n s=>let x:=AT.levels A f ((A.find i s).getD 0);if x>n then x else n) 0+1
def AT.overE(A:AT)(p q:Pl):Int :=
 let e:=if q.there=false then 0
  else if A.kind q.gf=2/\A.kind p.gf≠2 then 7
  else if A.kind p.gf=2/\A.kind q.gf≠2 then 8
  else if(A.gd q.gf).length>0 then 20 else 0
 if e≠0 then e
 else if A.kind p.gf=2/\(A.within p.gf 13 q.gh).getD false=true then 2
 else if(A.deep 13 q.gh).getD 0+A.levels 14 p.gf>12 then 3
 else 0
def AT.renameF(A:AT)(gb gk tq:d9):Int×AT :=
 let r:=A.both gb gk tq
 let p:=r.2.1
 let q:=r.2.2
 if r.1≠0 then(r.1,A)
 else if E8 p.gu ⟨⟨[]⟩⟩=true\/E8 q.gu ⟨⟨[]⟩⟩=true then(2,A)
 else if p.there=false then(5,A)
 else if q.there=true/\p.gf=q.gf then(0,A)
 else if A.overE p q≠0 then(A.overE p q,A)
 else if q.there=true then
  let u:=A.unlinkR q.gh q.gu
  if u.1≠0 then u else u.2.moveR p.gh p.gu q.gh q.gu 14
 else A.moveR p.gh p.gu q.gh q.gu 14
end
end Go.Wk

