/- A part of the proof: FilesKnown holds. -/
import Derived.Test.YtbdlkofldmhoaaaGreatDoorNan
import Derived.Test.YtbdlkofldmhoaaaGreatDoorProg
import Derived.KernelRfl
import Derived.Test.YtbdlkofldmhoaaaGreatDoorChecked
namespace Go.Wk
open Go Go.HL
structure AN where
 kind:Int
 mode:Int
 data:ByteArray
 links:Int
 up:Int
 ents:List (ByteArray×Int)
structure AT where
 qi:Int
 qb:Int
 ui:Int
 ub:Int
 last:Int
 nodes:List (Int×AN)
def AT.get (A:AT) (i:Int):Option AN:=lk i A.nodes
def AT.find (A:AT) (dir:Int) (name:ByteArray):Option Int:=(A.get dir).bind fun n=>lk name n.ents
def AT.kind (A:AT) (i:Int):Int:=((A.get i).map (·.kind)).getD 0
def AT.upOf (A:AT) (i:Int):Int:=((A.get i).map (·.up)).getD 0
def AT.dirE (A:AT) (ino:Int):Int:=match A.get ino with
 | none=>5
 | some n=>if n.kind==2 then 0 else 8
def AT.fileE (A:AT) (ino:Int):Int:=match A.get ino with
 | none=>5
 | some n=>if n.kind==2 then 7 else if n.kind==1 then 0 else 2
def sEq (x y:ByteArray):Bool:=x.data.toList==y.data.toList
theorem sEq_eq (x y:ByteArray):sEq x y=strEq x y:=by unfold sEq strEq;rw[ByteArray.toList_eq,ByteArray.toList_eq]
theorem sEq_iff {x y:ByteArray}:sEq x y=true↔x=y:=by rw[sEq_eq];exact strEq_iff
def badByte (s:ByteArray):Bool:=s.data.toList.any fun c=>c==47||c==0
def hasNul (s:ByteArray):Bool:=s.data.toList.any fun c=>c==0
def namedE (name:ByteArray):Int:=if name.size>56 then 3 else if !sEq name ⟨⟨[]⟩⟩ && !sEq name ⟨⟨[46]⟩⟩ && !sEq name ⟨⟨[46,46]⟩⟩ && !badByte name then 0 else 2
def linkOk (d:ByteArray):Bool := !sEq d ⟨⟨[]⟩⟩&&(decide (d.size<=255) && !hasNul d)
def kindOkE (kind:Int) (d:ByteArray):Bool:=(lk kind [((1:Int),true),(2,sEq d ⟨⟨[]⟩⟩),(3,linkOk d)]).getD false
def likeE (kind mode:Int) (d:ByteArray):Int:=if kindOkE kind d&&(decide (0<=mode)&&decide (mode<=511))then 0 else 2
def wr (x:Int):Int:=IntKind.i64.wrap x
def AT.roomE (A:AT) (i n:Int):Int:=if wr (A.ui+i)<=A.qi/\wr (A.ub+n)<=A.qb then 0 else 10
def firstE:List Int->Int
 | []=>0
 | e::es=>if e=0 then firstE es else e
def AT.set (A:AT) (i:Int) (n:AN):AT:={ A with nodes:=up i n A.nodes }
def AT.ent (A:AT) (dir:Int) (f:List (ByteArray×Int)->List (ByteArray×Int)):AT:=match A.get dir with
 | none=>A
 | some n=>A.set dir { n with ents:=f n.ents }
def AT.makeE (A:AT) (dir:Int) (name:ByteArray) (kind mode:Int) (data:ByteArray):Int :=
 firstE [0,A.dirE dir,namedE name,likeE kind mode data,if(A.find dir name).isSome then 6 else 0,A.roomE 1 (data.size:Int)]
def AT.made (A:AT) (dir:Int) (name:ByteArray) (kind mode:Int) (data:ByteArray):AT :=
 let i:=wr (A.last+1)
 let A1:={ A with last:=i,nodes:=up i ⟨kind,mode,data,1,if kind==2 then dir else 0,[]⟩ A.nodes }
 let A2:=A1.ent dir (up name i)
 { A2 with ui:=wr (A.ui+1),ub:=wr (A.ub+data.size) }
def AT.linkE (A:AT) (dir:Int) (name:ByteArray) (ino:Int):Int :=
 firstE [0,A.dirE dir,namedE name,A.fileE ino,if(A.find dir name).isSome then 6 else 0]
def AT.mod (A:AT) (i:Int) (f:AN->AN):AT:=match A.get i with
 | none=>A
 | some n=>A.set i (f n)
def AT.linked (A:AT) (dir:Int) (name:ByteArray) (ino:Int):AT:=(A.ent dir (up name ino)).mod ino fun n=>{ n with links:=wr (n.links+1) }
def AT.unlinkE (A:AT) (dir:Int) (name:ByteArray):Int :=
 firstE [0,A.dirE dir,if(A.find dir name).isSome then 0 else 5,if((A.get ((A.find dir name).getD 0)).map (·.ents.length)).getD 0=0 then 0 else 20]
def AT.unlinked (A:AT) (dir:Int) (name:ByteArray):AT :=
 let ino:=(A.find dir name).getD 0
 let A1:=(A.ent dir (rm name)).mod ino fun n=>{ n with links:=wr (n.links - 1) }
 match A1.get ino with
 | none=>A1
 | some n=>if n.links==0 then { A1 with nodes:=rm ino A1.nodes,ui:=wr (A.ui - 1),ub:=wr (A.ub - n.data.size) }else A1
def AT.apart (A:AT) (ino:Int):Nat->Int->Option Bool
 | 0,_=>none
 | f+1,at_=>if at_=1 then some true else if at_=ino then some false else(A.get at_).bind fun n=>AT.apart A ino f n.up
def AT.moveE1 (A:AT) (src:Int) (name:ByteArray) (tq:Int) (as_:ByteArray):Int :=
 firstE [0,A.dirE src,A.dirE tq,namedE as_,if(A.find src name).isSome then 0 else 5]
def AT.moved (A:AT) (src:Int) (name:ByteArray) (tq:Int) (as_:ByteArray):AT :=
 let ino:=(A.find src name).getD 0
 ((A.ent src (rm name)).ent tq (up as_ ino)).mod ino fun n=>if n.kind==2 then { n with up:=tq }else n
def AT.writeE (A:AT) (ino:Int) (data:ByteArray):Int :=
 firstE [0,A.fileE ino,A.roomE 0 (wr ((data.size:Int) - ((A.get ino).map (·.data.size)).getD 0))]
def AT.written (A:AT) (ino:Int) (data:ByteArray):AT:=match A.get ino with
 | none=>A
 | some n=>{ A.set ino { n with data:=data }with ub:=wr (A.ub+wr ((data.size:Int) - n.data.size)) }
def AT.chmodE (A:AT) (ino mode:Int):Int:=firstE [0,if 0<=mode/\mode<=511 then 0 else 2,if(A.get ino).isSome then 0 else 5]
def AT.chmoded (A:AT) (ino mode:Int):AT:=A.mod ino fun n=>{ n with mode:=mode }
def newOk (qi qb:Int):Bool := !(decide (qi<1)||(decide (qi>1048576)||(decide (qb<0)||decide (qb>1073741824))))
def newT (qi qb:Int):AT:=⟨qi,qb,1,0,1,[(1,⟨2,493,⟨⟨[]⟩⟩,1,1,[]⟩)]⟩
def AT.makeR (A:AT) (dir:Int) (name:ByteArray) (kind mode:Int) (data:ByteArray):Int×Int×AT :=
 if A.makeE dir name kind mode data=0 then(wr (A.last+1),0,A.made dir name kind mode data)else(0,A.makeE dir name kind mode data,A)
def AT.linkR (A:AT) (dir:Int) (name:ByteArray) (ino:Int):Int×AT :=
 if A.linkE dir name ino=0 then(0,A.linked dir name ino)else(A.linkE dir name ino,A)
def AT.writeR (A:AT) (ino:Int) (data:ByteArray):Int×AT:=if A.writeE ino data=0 then(0,A.written ino data)else(A.writeE ino data,A)
def AT.chmodR (A:AT) (ino mode:Int):Int×AT:=if A.chmodE ino mode=0 then(0,A.chmoded ino mode)else(A.chmodE ino mode,A)
def AT.unlinkR (A:AT) (dir:Int) (name:ByteArray):Int×AT:=if A.unlinkE dir name=0 then(0,A.unlinked dir name)else(A.unlinkE dir name,A)
def AT.moveR (A:AT) (src:Int) (name:ByteArray) (tq:Int) (as_:ByteArray) (f:Nat):Int×AT :=
 if A.moveE1 src name tq as_≠0\/(src=tq/\name=as_)then(A.moveE1 src name tq as_,A)
 else
  let e:=firstE [if(A.find tq as_).isSome then 6 else 0,if(A.apart ((A.find src name).getD 0) f tq).getD false then 0 else 2]
  if e≠0 then(e,A)else(0,A.moved src name tq as_)
end Go.Wk

namespace Go.Proofs.YtbdlkofldmhoaaaGreatDoor
open Go Go.HL
@[reducible] def kI:TK := .one (.sc (.int .i64))
@[reducible] def kC:TK := .one (.sc (.int .u8))
@[reducible] def kB:TK := .one (.sc .bool)
@[reducible] def kS:TK := .one (.sc .str)
@[reducible] def kP:TK := .one (.sc .ptr)
@[reducible] def kL:TK := .one (.sc .slc)
@[reducible] def kM:TK := .one (.sc .map)
@[reducible] def kR:TK := .one (.sc .raw)
@[reducible] def kU:TK := .tup []
def tau:Nat->TK
 | 0=>kU
 | 2=>kI
 | 3=>kI
 | 4=>kB
 | 5=>kC
 | 6=>kC
 | 7=>(.one (.agg [(.int .i64),(.int .i64),.bool,(.int .u8)]))
 | 8=>(.one (.agg [(.int .i64),(.int .i64),.bool,(.int .u8)]))
 | 9=>kS
 | 10=>kS
 | 11=>kS
 | 12=>(.one (.sc (.int .u64)))
 | 13=>(.one (.agg [.str,(.int .u64)]))
 | 14=>(.one (.agg [.str,(.int .u64)]))
 | 15=>kP
 | 16=>kP
 | 17=>kP
 | 18=>(.one (.agg [.ptr]))
 | 19=>(.one (.agg [.ptr]))
 | 21=>(.one (.sc (.int .i32)))
 | 22=>kP
 | 24=>(.one (.agg [(.int .i64),(.int .i64)]))
 | 25=>(.one (.agg [(.int .i64),(.int .i64)]))
 | 26=>kI
 | 30=>kL
 | 31=>kL
 | 34=>kL
 | 35=>(.one (.agg [(.int .u8),(.int .u8)]))
 | 36=>kP
 | 37=>(.tup [.sc .ptr,.sc .ptr])
 | 39=>(.one (.agg [.str,.slc,.str,.str]))
 | 40=>(.one (.agg [.str,.slc,.str,.str]))
 | 42=>(.one (.agg [.str,.str,(.int .i64)]))
 | 43=>(.one (.agg [.str,.str,(.int .i64)]))
 | 44=>(.tup [.agg [.str,.str,(.int .i64)],.sc .bool])
 | 50=>kL
 | 54=>(.tup [.sc .slc,.sc (.int .i64)])
 | 57=>kL
 | 59=>kP
 | 61=>(.one (.agg [.ptr]))
 | 62=>(.one (.agg [.ptr]))
 | 64=>(.one (.agg [(.int .i64),.str,(.int .i64),.bool]))
 | 65=>(.one (.agg [(.int .i64),.str,(.int .i64),.bool]))
 | 67=>(.tup [.sc (.int .i64),.sc (.int .i64)])
 | 70=>(.tup [.agg [(.int .i64),.str,(.int .i64),.bool],.sc (.int .i64)])
 | 72=>(.one (.agg [(.int .i64),(.int .i64),.str,(.int .i64)]))
 | 73=>(.one (.agg [(.int .i64),(.int .i64),.str,(.int .i64)]))
 | 74=>(.tup [.agg [(.int .i64),(.int .i64),.str,(.int .i64)],.sc .bool])
 | 78=>(.tup [.agg [(.int .i64),(.int .i64),.str,(.int .i64)],.sc (.int .i64)])
 | 82=>kP
 | 83=>(.one (.agg [.str,.slc,.str,.str,.ptr,.str,.str,(.int .i64),.str,.slc,.bool]))
 | 84=>(.one (.agg [.str,.slc,.str,.str,.ptr,.str,.str,(.int .i64),.str,.slc,.bool]))
 | 85=>(.tup [.sc .raw,.sc .bool])
 | 86=>kM
 | 87=>kM
 | 89=>kP
 | 90=>(.one (.agg [.ptr,.str,.slc,.str,.str,.str,.str,(.int .i64),.bool]))
 | 91=>(.one (.agg [.ptr,.str,.slc,.str,.str,.str,.str,(.int .i64),.bool]))
 | 92=>(.tup [.sc .str,.sc .slc,.sc .bool])
 | 97=>(.tup [.sc .slc,.sc .bool])
 | 101=>kL
 | 102=>(.one (.agg [(.int .i64),(.int .i64),.slc]))
 | 103=>(.one (.agg [(.int .i64),(.int .i64),.slc]))
 | 104=>kP
 | 105=>kL
 | 106=>(.one (.agg [(.int .i64),(.int .i64),.str,.slc,(.int .i64)]))
 | 107=>(.one (.agg [(.int .i64),(.int .i64),.str,.slc,(.int .i64)]))
 | 108=>(.one (.agg [(.int .u8),(.int .u8),(.int .u8)]))
 | 112=>kP
 | 113=>kM
 | 114=>(.one (.agg [(.int .i64),(.int .i64),.str,(.int .i64),(.int .i64),.map]))
 | 115=>(.one (.agg [(.int .i64),(.int .i64),.str,(.int .i64),(.int .i64),.map]))
 | 116=>kM
 | 117=>(.one (.agg [(.int .i64),(.int .i64),(.int .i64),(.int .i64),.map,(.int .i64)]))
 | 118=>(.one (.agg [(.int .i64),(.int .i64),(.int .i64),(.int .i64),.map,(.int .i64)]))
 | 120=>kM
 | 130=>kP
 | 132=>(.one (.agg [(.int .i64),.str,(.int .i64)]))
 | 133=>(.one (.agg [(.int .i64),.str,(.int .i64)]))
 | 134=>(.tup [.agg [(.int .i64),.str,(.int .i64)],.sc (.int .i64)])
 | 147=>(.tup [.sc (.int .i64),.sc .bool])
 | 159=>(.tup [.sc .str,.sc (.int .i64)])
 | 164=>(.one (.agg [.str,(.int .i64)]))
 | 165=>(.one (.agg [.str,(.int .i64)]))
 | 168=>kL
 | 176=>(.tup [.sc (.int .i64),.sc .raw])
 | 178=>(.tup [.agg [(.int .i64),.str,(.int .i64),.bool],.agg [(.int .i64),.str,(.int .i64),.bool],.sc (.int .i64)])
 | 185=>(.one (.sc (.int .u64)))
 | 189=>(.tup [.sc .raw,.sc .bool])
 | 192=>kP
 | 199=>kI
 | 200=>(.tup [.sc (.int .i64),.sc (.int .i64)])
 | 206=>(.one (.sc (.int .u32)))
 | 208=>(.one (.sc (.int .u64)))
 | 209=>(.tup [.sc (.int .i32),.sc (.int .i64)])
 | 218=>kI
 | 219=>(.tup [.sc (.int .u64),.sc .raw])
 | 221=>kP
 | 224=>(.one (.sc (.int .u64)))
 | 229=>(.one (.agg [(.int .u8),(.int .u8),(.int .u8),(.int .u8),(.int .u8),(.int .u8),(.int .u8),(.int .u8),(.int .u8),(.int .u8),(.int .u8),(.int .u8),(.int .u8),(.int .u8),(.int .u8),(.int .u8),(.int .u8),(.int .u8),(.int .u8),(.int .u8),(.int .u8),(.int .u8),(.int .u8),(.int .u8)]))
 | 231=>(.tup [.sc .slc,.sc .str])
 | 235=>(.one (.agg [.str,.str,.raw]))
 | 236=>(.one (.agg [.str,.str,.raw]))
 | 238=>kP
 | 239=>(.tup [.sc (.int .i64),.sc (.int .i64)])
 | 242=>(.one (.agg [(.int .u8),(.int .u8)]))
 | 243=>(.one (.agg [(.int .u8),(.int .u8)]))
 | 246=>(.one (.agg [(.int .u64),(.int .u64),(.int .u64),(.int .u64),(.int .u64),(.int .u64),(.int .u64),(.int .u64),(.int .u64),(.int .u64),(.int .u64),(.int .u64),(.int .u64),(.int .u64),(.int .u64),(.int .u64),(.int .u64),(.int .u64),(.int .u64),(.int .u64)]))
 | 248=>kP
 | 249=>kP
 | 250=>(.one (.agg [.str]))
 | 251=>(.one (.agg [.str]))
 | 254=>(.tup [.sc (.int .u32),.sc (.int .u32)])
 | 257=>(.one (.agg [.ptr,.ptr,.ptr,.str]))
 | 258=>(.one (.agg [.ptr,.ptr,.ptr,.str]))
 | 259=>(.one (.agg []))
 | 260=>(.one (.agg []))
 | 261=>(.one (.agg []))
 | 262=>kC
 | 263=>kC
 | 265=>(.one (.sc (.int .i32)))
 | 266=>(.one (.sc (.int .i32)))
 | 267=>(.one (.agg [(.int .u64),(.int .u64),(.int .u32),(.int .u8),(.int .u8),(.int .u8),(.int .u8),.raw,.ptr,(.int .i32),(.int .i32)]))
 | 268=>(.one (.agg [(.int .u64),(.int .u64),(.int .u32),(.int .u8),(.int .u8),(.int .u8),(.int .u8),.raw,.ptr,(.int .i32),(.int .i32)]))
 | _=>kR
theorem mixed:Tryz.prog.follows .mixedOrders=true:=by kernel_rfl
end Go.Proofs.YtbdlkofldmhoaaaGreatDoor

set_option maxRecDepth 100000
namespace Go.Proofs.YtbdlkofldmhoaaaGreatDoor
open Go Go.HL
theorem call_k {fn:Func} {f:FuncId} (an:Ann) {args:List Value} {K:KH} {σ:H} {G:H->Prop} (hf:Tryz.prog.funcs[f]? = some fn) (e:bodyF Tryz.prog tau fn an args K=G) (h:G σ):callW Tryz.prog f args K σ:=call_of_body mixed hf (by rw[e];exact h)

def an3:Ann:=(.q (.q (.n (.seq (some [(1,.p),(23,.b)]) .r (.h)) (.n (.q (.blk (.loop [(1,.p),(66,.l),(67,.i),(68,.i)] (.q (.n (.cond .z .z) (.n (.blk (.q (.n (.reg [0,1,2,3,4,5,7,8,9,6,10] [[],[],[1],[1,2],[],[4],(rn 6),[],[7],[7,8],(rn 10)]) (.h)))) .r)))))) (.q (.n (.seq (some [(4,.p),(95,.b)]) .r (.h)) (.q .z)))))))
def g3  (K:KH):H->Prop :=
 callT Tryz.prog 8 [.agg ⟨[.int .i64 40,.int .i64 60]⟩] kP (fun x1=>letJ (T:=Option Addr->Bool->H->Prop) (fun v3 x4=>brW x4 (K (.bool false)) (alW (.cells ⟨[.string ⟨⟨[48]⟩⟩,.string ⟨⟨[109,107,100,105,114]⟩⟩,.string ⟨⟨[45,112]⟩⟩,.string ⟨⟨[97,47,98,47,99]⟩⟩]⟩ 9 (0,0)) (fun b5 =>
 alW (.cells ⟨[.string ⟨⟨[49,109,107,100,105,114,58,32,97,58,32,54,10]⟩⟩,.string ⟨⟨[109,107,100,105,114]⟩⟩,.string ⟨⟨[97]⟩⟩]⟩ 9 (0,0)) (fun b6=>alW (.cells ⟨[.string ⟨⟨[48]⟩⟩,.string ⟨⟨[99,112]⟩⟩,.string ⟨⟨[45,114]⟩⟩,.string ⟨⟨[100]⟩⟩,.string ⟨⟨[101]⟩⟩]⟩ 9 (0,0)) (fun b7 =>
 alW (.cells ⟨[.string ⟨⟨[48,102,10]⟩⟩,.string ⟨⟨[108,115]⟩⟩,.string ⟨⟨[101]⟩⟩]⟩ 9 (0,0)) (fun b8=>alW (.cells ⟨[.string ⟨⟨[49,99,112,58,32,100,58,32,55,10]⟩⟩,.string ⟨⟨[99,112]⟩⟩,.string ⟨⟨[100]⟩⟩,.string ⟨⟨[120]⟩⟩]⟩ 9 (0,0)) (fun b9 =>
 alW (.cells ⟨[.string ⟨⟨[48]⟩⟩,.string ⟨⟨[99,112]⟩⟩,.string ⟨⟨[100,47,102]⟩⟩,.string ⟨⟨[103]⟩⟩]⟩ 9 (0,0)) (fun b10=>alW (.cells ⟨[.string ⟨⟨[48,97,10,100,10,101,10,103,10,108,10]⟩⟩,.string ⟨⟨[108,115]⟩⟩,.string ⟨⟨[45,97]⟩⟩]⟩ 9 (0,0)) (fun b11 =>
 alW (.cells ⟨[.string ⟨⟨[48]⟩⟩,.string ⟨⟨[109,118]⟩⟩,.string ⟨⟨[103]⟩⟩,.string ⟨⟨[100]⟩⟩]⟩ 9 (0,0)) (fun b12=>alW (.cells ⟨[.string ⟨⟨[48,102,10,103,10]⟩⟩,.string ⟨⟨[108,115]⟩⟩,.string ⟨⟨[100]⟩⟩]⟩ 9 (0,0)) (fun b13 =>
 alW (.cells ⟨[.string ⟨⟨[48,102,10,103,10]⟩⟩,.string ⟨⟨[108,115]⟩⟩,.string ⟨⟨[45,49]⟩⟩,.string ⟨⟨[108]⟩⟩]⟩ 9 (0,0)) (fun b14=>alW (.cells ⟨[.string ⟨⟨[50,99,104,109,111,100,58,32,117,115,97,103,101,10]⟩⟩,.string ⟨⟨[99,104,109,111,100]⟩⟩,.string ⟨⟨[56]⟩⟩,.string ⟨⟨[100]⟩⟩]⟩ 9 (0,0)) (fun b15 =>
 alW (.cells ⟨[.string ⟨⟨[49,108,110,58,32,100,47,102,58,32,54,10]⟩⟩,.string ⟨⟨[108,110]⟩⟩,.string ⟨⟨[45,115]⟩⟩,.string ⟨⟨[120]⟩⟩,.string ⟨⟨[100,47,102]⟩⟩]⟩ 9 (0,0)) (fun b16=>alW (.cells ⟨[.string ⟨⟨[48]⟩⟩,.string ⟨⟨[108,110]⟩⟩,.string ⟨⟨[45,115,102]⟩⟩,.string ⟨⟨[120]⟩⟩,.string ⟨⟨[100,47,102]⟩⟩]⟩ 9 (0,0)) (fun b17 =>
 alW (.cells ⟨[.string ⟨⟨[49,114,109,58,32,110,111,110,101,58,32,53,10]⟩⟩,.string ⟨⟨[114,109]⟩⟩,.string ⟨⟨[110,111,110,101]⟩⟩]⟩ 9 (0,0)) (fun b18=>alW (.cells ⟨[.string ⟨⟨[48]⟩⟩,.string ⟨⟨[114,109]⟩⟩,.string ⟨⟨[45,102]⟩⟩,.string ⟨⟨[110,111,110,101]⟩⟩]⟩ 9 (0,0)) (fun b19 =>
 alW (.cells ⟨[.string ⟨⟨[48]⟩⟩,.string ⟨⟨[114,109]⟩⟩,.string ⟨⟨[45,102]⟩⟩]⟩ 9 (0,0)) (fun b20=>alW (.cells ⟨[.string ⟨⟨[50,114,109,58,32,117,115,97,103,101,10]⟩⟩,.string ⟨⟨[114,109]⟩⟩]⟩ 9 (0,0)) (fun b21=>alW (.cells ⟨[.string ⟨⟨[49,114,109,58,32,100,58,32,55,10]⟩⟩,.string ⟨⟨[114,109]⟩⟩,.string ⟨⟨[100]⟩⟩]⟩ 9 (0,0)) (fun b22 =>
 alW (.cells ⟨[.string ⟨⟨[49,114,109,100,105,114,58,32,100,58,32,50,48,10]⟩⟩,.string ⟨⟨[114,109,100,105,114]⟩⟩,.string ⟨⟨[100]⟩⟩]⟩ 9 (0,0)) (fun b23=>alW (.cells ⟨[.string ⟨⟨[49,114,109,100,105,114,58,32,108,58,32,56,10]⟩⟩,.string ⟨⟨[114,109,100,105,114]⟩⟩,.string ⟨⟨[108]⟩⟩]⟩ 9 (0,0)) (fun b24 =>
 alW (.cells ⟨[.string ⟨⟨[49,99,112,58,32,100,58,32,50,10]⟩⟩,.string ⟨⟨[99,112]⟩⟩,.string ⟨⟨[45,114]⟩⟩,.string ⟨⟨[100]⟩⟩,.string ⟨⟨[100,47,110,101,119]⟩⟩]⟩ 9 (0,0)) (fun b25 =>
 alW (.cells ⟨[.string ⟨⟨[49,99,112,58,32,100,58,32,50,10]⟩⟩,.string ⟨⟨[99,112]⟩⟩,.string ⟨⟨[45,114]⟩⟩,.string ⟨⟨[100]⟩⟩,.string ⟨⟨[108]⟩⟩]⟩ 9 (0,0)) (fun b26 =>
 alW (.cells ⟨[.string ⟨⟨[49,99,112,58,32,101,58,32,54,10]⟩⟩,.string ⟨⟨[99,112]⟩⟩,.string ⟨⟨[45,114]⟩⟩,.string ⟨⟨[101]⟩⟩,.string ⟨⟨[100,47,103]⟩⟩]⟩ 9 (0,0)) (fun b27=>alW (.cells ⟨[.string ⟨⟨[48]⟩⟩,.string ⟨⟨[116,111,117,99,104]⟩⟩,.string ⟨⟨[116]⟩⟩,.string ⟨⟨[100,47,103]⟩⟩]⟩ 9 (0,0)) (fun b28 =>
 alW (.cells ⟨[.string ⟨⟨[48]⟩⟩,.string ⟨⟨[99,104,109,111,100]⟩⟩,.string ⟨⟨[43,120]⟩⟩,.string ⟨⟨[116]⟩⟩]⟩ 9 (0,0)) (fun b29=>alW (.cells ⟨[.string ⟨⟨[48]⟩⟩,.string ⟨⟨[99,104,109,111,100]⟩⟩,.string ⟨⟨[45,120]⟩⟩,.string ⟨⟨[116]⟩⟩]⟩ 9 (0,0)) (fun b30 =>
 alW (.cells ⟨[.string ⟨⟨[48]⟩⟩,.string ⟨⟨[99,104,109,111,100]⟩⟩,.string ⟨⟨[55,53,53]⟩⟩,.string ⟨⟨[116]⟩⟩,.string ⟨⟨[100]⟩⟩]⟩ 9 (0,0)) (fun b31=>alW (.cells ⟨[.string ⟨⟨[49,99,104,109,111,100,58,32,110,111,58,32,53,10]⟩⟩,.string ⟨⟨[99,104,109,111,100]⟩⟩,.string ⟨⟨[54,52,52]⟩⟩,.string ⟨⟨[110,111]⟩⟩]⟩ 9 (0,0)) (fun b32 =>
 alW (.cells ⟨[.string ⟨⟨[50,109,107,100,105,114,58,32,117,115,97,103,101,10]⟩⟩,.string ⟨⟨[109,107,100,105,114]⟩⟩]⟩ 9 (0,0)) (fun b33=>alW (.cells ⟨[.string ⟨⟨[50,109,107,100,105,114,58,32,117,115,97,103,101,10]⟩⟩,.string ⟨⟨[109,107,100,105,114]⟩⟩,.string ⟨⟨[45,120]⟩⟩,.string ⟨⟨[121]⟩⟩]⟩ 9 (0,0)) (fun b34 =>
 alW (.cells ⟨[.string ⟨⟨[48]⟩⟩,.string ⟨⟨[109,107,100,105,114]⟩⟩,.string ⟨⟨[45,45]⟩⟩,.string ⟨⟨[45,120]⟩⟩]⟩ 9 (0,0)) (fun b35=>alW (.cells ⟨[.string ⟨⟨[48]⟩⟩,.string ⟨⟨[108,115]⟩⟩,.string ⟨⟨[45,45]⟩⟩,.string ⟨⟨[45,120]⟩⟩]⟩ 9 (0,0)) (fun b36 =>
 alW (.cells ⟨[.string ⟨⟨[49,108,115,58,32,110,111,58,32,53,10]⟩⟩,.string ⟨⟨[108,115]⟩⟩,.string ⟨⟨[110,111]⟩⟩]⟩ 9 (0,0)) (fun b37=>alW (.cells ⟨[.string ⟨⟨[49,116,10,100,58,10,102,10,103,10,108,115,58,32,110,111,58,32,53,10]⟩⟩,.string ⟨⟨[108,115]⟩⟩,.string ⟨⟨[100]⟩⟩,.string ⟨⟨[116]⟩⟩,.string ⟨⟨[110,111]⟩⟩]⟩ 9 (0,0)) (fun b38 =>
 alW (.cells ⟨[.string ⟨⟨[48]⟩⟩,.string ⟨⟨[108,110]⟩⟩,.string ⟨⟨[100,47,103]⟩⟩,.string ⟨⟨[104]⟩⟩]⟩ 9 (0,0)) (fun b39=>alW (.cells ⟨[.string ⟨⟨[49,108,110,58,32,100,50,58,32,55,10]⟩⟩,.string ⟨⟨[108,110]⟩⟩,.string ⟨⟨[100]⟩⟩,.string ⟨⟨[100,50]⟩⟩]⟩ 9 (0,0)) (fun b40 =>
 alW (.cells ⟨[.string ⟨⟨[50,108,110,58,32,117,115,97,103,101,10]⟩⟩,.string ⟨⟨[108,110]⟩⟩,.string ⟨⟨[97]⟩⟩,.string ⟨⟨[98]⟩⟩,.string ⟨⟨[99]⟩⟩]⟩ 9 (0,0)) (fun b41=>alW (.cells ⟨[.string ⟨⟨[49,109,118,58,32,116,58,32,56,10]⟩⟩,.string ⟨⟨[109,118]⟩⟩,.string ⟨⟨[100]⟩⟩,.string ⟨⟨[104]⟩⟩,.string ⟨⟨[116]⟩⟩]⟩ 9 (0,0)) (fun b42 =>
 alW (.cells ⟨[.string ⟨⟨[49,109,118,58,32,110,111,58,32,53,10]⟩⟩,.string ⟨⟨[109,118]⟩⟩,.string ⟨⟨[110,111]⟩⟩,.string ⟨⟨[116]⟩⟩]⟩ 9 (0,0)) (fun b43=>alW (.cells ⟨[.string ⟨⟨[48]⟩⟩,.string ⟨⟨[109,118]⟩⟩,.string ⟨⟨[116]⟩⟩,.string ⟨⟨[104]⟩⟩,.string ⟨⟨[100]⟩⟩]⟩ 9 (0,0)) (fun b44 =>
 alW (.cells ⟨[.string ⟨⟨[48,102,10,103,10,104,10,116,10]⟩⟩,.string ⟨⟨[108,115]⟩⟩,.string ⟨⟨[100]⟩⟩]⟩ 9 (0,0)) (fun b45=>alW (.cells ⟨[.string ⟨⟨[110,111,110,101]⟩⟩,.string ⟨⟨[99,97,116]⟩⟩]⟩ 9 (0,0)) (fun b46 =>
 alW (.cells ⟨[.slice (some ⟨b5,0,none⟩) 4 4,.slice (some ⟨b6,0,none⟩) 3 3,.slice (some ⟨b7,0,none⟩) 5 5,.slice (some ⟨b8,0,none⟩) 3 3,.slice (some ⟨b9,0,none⟩) 4 4,.slice (some ⟨b10,0,none⟩) 4 4,.slice (some ⟨b11,0,none⟩) 3 3,.slice (some ⟨b12,0,none⟩) 4 4,.slice (some ⟨b13,0,none⟩) 3 3,.slice (some ⟨b14,0,none⟩) 4 4,.slice (some ⟨b15,0,none⟩) 4 4,.slice (some ⟨b16,0,none⟩) 5 5,.slice (some ⟨b17,0,none⟩) 5 5,.slice (some ⟨b18,0,none⟩) 3 3,.slice (some ⟨b19,0,none⟩) 4 4,.slice (some ⟨b20,0,none⟩) 3 3,.slice (some ⟨b21,0,none⟩) 2 2,.slice (some ⟨b22,0,none⟩) 3 3,.slice (some ⟨b23,0,none⟩) 3 3,.slice (some ⟨b24,0,none⟩) 3 3,.slice (some ⟨b25,0,none⟩) 5 5,.slice (some ⟨b26,0,none⟩) 5 5,.slice (some ⟨b27,0,none⟩) 5 5,.slice (some ⟨b28,0,none⟩) 4 4,.slice (some ⟨b29,0,none⟩) 4 4,.slice (some ⟨b30,0,none⟩) 4 4,.slice (some ⟨b31,0,none⟩) 5 5,.slice (some ⟨b32,0,none⟩) 4 4,.slice (some ⟨b33,0,none⟩) 2 2,.slice (some ⟨b34,0,none⟩) 4 4,.slice (some ⟨b35,0,none⟩) 4 4,.slice (some ⟨b36,0,none⟩) 4 4,.slice (some ⟨b37,0,none⟩) 3 3,.slice (some ⟨b38,0,none⟩) 5 5,.slice (some ⟨b39,0,none⟩) 4 4,.slice (some ⟨b40,0,none⟩) 4 4,.slice (some ⟨b41,0,none⟩) 5 5,.slice (some ⟨b42,0,none⟩) 5 5,.slice (some ⟨b43,0,none⟩) 4 4,.slice (some ⟨b44,0,none⟩) 5 5,.slice (some ⟨b45,0,none⟩) 3 3,.slice (some ⟨b46,0,none⟩) 2 2]⟩ 30 (0,0)) (fun b47 =>
 loopW [.sc .ptr,.sc .slc,.sc (.int .i64),.sc (.int .i64)] (fun(R48:Option Addr->Sl->Int->Int->H->Prop)=>(fun(v49:Option Addr) (x50:Sl) (x51:Int) (x52:Int)=>brW (decide ((x52:Int)<x51)) (ptrW x50.base (fun b53 o54=>ifW (0<=x52/\x52<((x50.len:Nat):Int)) (rdT (rdC b53 (o54+x52.toNat * 1)) kL (fun x55=>ptrW x55.base (fun b56 o57=>ifW (0<=(1:Int)/\(1:Int)<((x55.len:Nat):Int))
 (rdT (rdC b56 (o57+(1:Int).toNat * 1)) kS (fun(x58:ByteArray)=>ifW (bndOk none x55.cap/\bndOk (some 2) x55.len) (ptrW x55.base (fun b59 o60=>ifW (0<=(0:Int)/\(0:Int)<((x55.len:Nat):Int)) (rdT (rdC b59 (o60+(0:Int).toNat * 1)) kS (fun(x61:ByteArray)=>callT Tryz.prog 12 [.pointer v49,.string x58,.slice (slBase x55.base ((2:Int).toNat) x55.cap 1) (x55.len - ((2:Int).toNat)) (x55.cap - ((2:Int).toNat))] kS (fun(x62:ByteArray) =>
 andW (fun σ=>(rdC b59 (o60+(0:Int).toNat * 1)) σ=some (.string x61)) (brW (!strEq x62 x61) (K (.bool (decide ((x52:Int)<0)))) (R48 v49 x50 x51 (IntKind.i64.wrap (x52+1)))))))))))))))) (callT Tryz.prog 8 [.agg ⟨[.int .i64 3,.int .i64 4]⟩] kP (fun x63=>letJ (T:=Option Addr->Bool->H->Prop) (fun v65 x66=>brW x66 (K (.bool false)) (alW (.cells ⟨[.string ⟨⟨[97]⟩⟩,.string ⟨⟨[98]⟩⟩]⟩ 9 (0,0)) (fun b67 =>
 callT Tryz.prog 12 [.pointer v65,.string ⟨⟨[99,112]⟩⟩,.slice (some ⟨b67,0,none⟩) 2 2] kS (fun(x68:ByteArray)=>brW (strEq x68 (⟨⟨[51,99,112,58,32,97,58,32,49,48,10]⟩⟩:ByteArray)) (alW (.cells ⟨[.string ⟨⟨[120]⟩⟩,.string ⟨⟨[121]⟩⟩,.string ⟨⟨[122]⟩⟩]⟩ 9 (0,0)) (fun b69 =>
 callT Tryz.prog 12 [.pointer v65,.string ⟨⟨[109,107,100,105,114]⟩⟩,.slice (some ⟨b69,0,none⟩) 3 3] kS (fun(x70:ByteArray)=>brW (strEq x70 (⟨⟨[51,109,107,100,105,114,58,32,121,58,32,49,48,10]⟩⟩:ByteArray)) (callT Tryz.prog 12 [.pointer v65,.string ⟨⟨[108,115]⟩⟩,.slice none 0 0] kS (fun(x71:ByteArray)=>brW (strEq x71 (⟨⟨[48,97,10,120,10]⟩⟩:ByteArray)) (callT Tryz.prog 13 [] kB (fun x72=>K (.bool x72)))
 (K (.bool false)))) (K (.bool false))))) (K (.bool false)))))) (fun j64=>brW x63.isNone (j64 x63 true) (callT Tryz.prog 10 [.pointer x63,.string ⟨⟨[47]⟩⟩,.string ⟨⟨[97]⟩⟩,.string ⟨⟨[97,98,99]⟩⟩,.bool false] kI (fun(x73:Int)=>j64 x63 ((x73:Int) != 0)))))))) (fun(R74:Option Addr->Sl->Int->Int->H->Prop)=>R74 v3 ⟨(some ⟨b47,0,none⟩),42,42⟩ ((42:Nat):Int) 0)))))))))))))))))))))))))))))))))))))))))))))) (fun j2 =>
 brW x1.isNone (j2 x1 true) (callT Tryz.prog 9 [.pointer x1,.string ⟨⟨[47]⟩⟩,.string ⟨⟨[100]⟩⟩] kI (fun(x75:Int)=>brW ((x75:Int) != 0) (j2 x1 true) (callT Tryz.prog 10 [.pointer x1,.string ⟨⟨[47]⟩⟩,.string ⟨⟨[100,47,102]⟩⟩,.string ⟨⟨[104,105]⟩⟩,.bool false] kI (fun(x76:Int)=>brW ((x76:Int) != 0) (j2 x1 true)
 (callT Tryz.prog 11 [.pointer x1,.string ⟨⟨[47]⟩⟩,.string ⟨⟨[100]⟩⟩,.string ⟨⟨[108]⟩⟩] kI (fun(x77:Int)=>j2 x1 ((x77:Int) != 0)))))))))
theorem c3  {K:KH} {σ:H}:g3  K σ->callW Tryz.prog 3 [] K σ:=call_k an3 Tryz.func3 (by kernel_rfl)


def an8:Ann:=(.q (.q (.n (.q (.h)) (.q .z))))
def g8 (v1:Int) (v2:Int) (K:KH):H->Prop :=
 alW (.cells ⟨[.int .i64 v1,.int .i64 v2]⟩ 25 (0,0)) (fun b3=>rdT (rdA 2 b3 0) (.one (.agg [(.int .i64),(.int .i64)])) (fun(x4:Int) (x5:Int)=>callT Tryz.prog 24 [.agg ⟨[.int .i64 x4,.int .i64 x5]⟩] kP (fun x6=>brW x6.isNone (K (.pointer none)) (alW (.cells ⟨[.pointer x6]⟩ 62 (0,0)) (fun b7=>K (.pointer (some ⟨b7,0,none⟩)))))))
theorem c8 (v1:Int) (v2:Int) {K:KH} {σ:H}:g8 v1 v2 K σ->callW Tryz.prog 8 [.agg ⟨[.int .i64 v1,.int .i64 v2]⟩] K σ:=call_k an8 Tryz.func8 (by kernel_rfl)


def an9:Ann:=(.q (.q .z))
def g9 (v1:Option Addr) (v2:ByteArray) (v3:ByteArray) (K:KH):H->Prop :=
 alW (.cells ⟨[.pointer v1]⟩ 22 (0,0)) (fun b4=>rdT (rdC b4 0) kP (fun x5=>callT Tryz.prog 25 [.pointer x5,.string v2,.string v3,.func (.func 26) ⟨[]⟩ ⟨[.pointer (some ⟨b4,0,none⟩)]⟩] kI (fun(x6:Int)=>K (.int .i64 x6))))
theorem c9 (v1:Option Addr) (v2:ByteArray) (v3:ByteArray) {K:KH} {σ:H}:g9 v1 v2 v3 K σ->callW Tryz.prog 9 [.pointer v1,.string v2,.string v3] K σ:=call_k an9 Tryz.func9 (by kernel_rfl)


def an10:Ann:=(.q (.q (.n (.q (.h)) (.n (.q (.cond (.n (.reg (rn 15) [[],[0],[0,1],[0,1,2],[],[4],[],[6],[],(rn 9),(rn 10),(rn 11),(rn 11),(rn 12),(rn 14)]) (.q .z)) .z)) (.n (.reg (rn 13) [[],[0],[0,1],[0,1,2],[],[4],(rn 6),(rn 7),(rn 8),(rn 8),[],[0,1,2,3,4,5,6,7,8,10],(rn 12)]) (.n (.q (.h)) (.seq (some [(0,.p),(3,.s),(11,.p)]) (.q (.cond .r .z)) (.n (.reg (rn 9) [[],[0],[0,1],[0,1,2],[],[4],[],(rn 7),(rn 8)]) .z))))))))
def g10 (v1:Option Addr) (v2:ByteArray) (v3:ByteArray) (v4:ByteArray) (v5:Bool) (K:KH):H->Prop :=
 callT Tryz.prog 29 [.pointer v1,.string v2,.string v3,.bool true] (.tup [.agg [(.int .i64),.str,(.int .i64),.bool],.sc (.int .i64)]) (fun(x6:Int) (x7:ByteArray) (x8:Int) (x9:Bool) (x10:Int)=>alW (.cells ⟨[.int .i64 0,.string ⟨⟨[]⟩⟩,.int .i64 0,.bool false]⟩ 65 (0,0)) (fun b11=>stW Tryz.prog 65 (.pointer (some ⟨b11,0,none⟩)) (.agg ⟨[.int .i64 x6,.string x7,.int .i64 x8,.bool x9]⟩) (brW ((x10:Int) != 0) (K (.int .i64 x10))
 (rdT (rdC b11 3) kB (fun x12=>brW (!x12) (ptrW v1 (fun b13 o14=>rdT (rdC b13 o14) kP (fun x15=>rdT (rdC b11 0) kI (fun(x16:Int)=>rdT (rdC b11 1) kS (fun(x17:ByteArray)=>callT Tryz.prog 28 [.pointer x15,.int .i64 x16,.string x17,.int .i64 1,.int .i64 420,.string v4] (.tup [.sc (.int .i64),.sc (.int .i64)]) (fun(_x18:Int) (x19:Int)=>K (.int .i64 x19))))))) (ptrW v1 (fun b20 o21=>rdT (rdC b20 o21) kP (fun x22=>rdT (rdC b11 2) kI (fun(x23:Int) =>
 callT Tryz.prog 30 [.pointer x22,.int .i64 x23] (.tup [.agg [(.int .i64),(.int .i64),.str,(.int .i64)],.sc .bool]) (fun(x24:Int) (x25:Int) (x26:ByteArray) (x27:Int) (_x28:Bool)=>alW (.cells ⟨[.int .i64 0,.int .i64 0,.string ⟨⟨[]⟩⟩,.int .i64 0]⟩ 73 (0,0)) (fun b29=>stW Tryz.prog 73 (.pointer (some ⟨b29,0,none⟩)) (.agg ⟨[.int .i64 x24,.int .i64 x25,.string x26,.int .i64 x27]⟩) (rdT (rdC b29 0) kI (fun(x30:Int)=>brW ((x30:Int)==2)
 (K (.int .i64 7)) (letJ (T:=Option Addr->ByteArray->Option Addr->H->Prop) (fun v32 v33 v34=>ptrW v32 (fun b35 o36=>rdT (rdC b35 o36) kP (fun x37=>ptrW v34 (fun b38 o39=>rdT (rdC b38 (o39+2)) kI (fun(x40:Int)=>callT Tryz.prog 31 [.pointer x37,.int .i64 x40,.string v33] kI (fun(x41:Int)=>K (.int .i64 x41))))))) (fun j31=>brW v5 (rdT (rdC b29 2) kS (fun(x42:ByteArray)=>ifW (x42.size+v4.size<=9223372036854775807)
 (j31 v1 (x42++v4) (some ⟨b11,0,none⟩)))) (j31 v1 v4 (some ⟨b11,0,none⟩)))))))))))))))))
theorem c10 (v1:Option Addr) (v2:ByteArray) (v3:ByteArray) (v4:ByteArray) (v5:Bool) {K:KH} {σ:H}:g10 v1 v2 v3 v4 v5 K σ->callW Tryz.prog 10 [.pointer v1,.string v2,.string v3,.string v4,.bool v5] K σ:=call_k an10 Tryz.func10 (by kernel_rfl)


def an11:Ann:=(.q (.n (.q (.h)) (.n (.seq (some [(1,.s),(3,.s),(4,.p),(6,.p),(22,.b)]) .r (.h)) (.q .z))))
def g11 (v1:Option Addr) (v2:ByteArray) (v3:ByteArray) (v4:ByteArray) (K:KH):H->Prop :=
 alW (.cells ⟨[.pointer v1]⟩ 22 (0,0)) (fun b5=>alW (.cells ⟨[.string v3]⟩ 9 (0,0)) (fun b6=>rdT (rdC b5 0) kP (fun x7=>callT Tryz.prog 32 [.pointer x7] kB (fun x8=>brW x8 (K (.int .i64 1)) (letJ (T:=ByteArray->ByteArray->Option Addr->Option Addr->Bool->H->Prop) (fun v10 v11 v12 v13 x14=>brW x14 (K (.int .i64 2)) (ptrW v12 (fun b15 o16=>rdT (rdC b15 o16) kP (fun x17 =>
 callT Tryz.prog 25 [.pointer x17,.string v10,.string v11,.func (.func 34) ⟨[]⟩ ⟨[.pointer v12,.pointer v13]⟩] kI (fun(x18:Int)=>K (.int .i64 x18)))))) (fun j9=>rdT (rdC b6 0) kS (fun(x19:ByteArray)=>brW (strEq x19 (⟨⟨[]⟩⟩:ByteArray)) (j9 v2 v4 (some ⟨b5,0,none⟩) (some ⟨b6,0,none⟩) true) (rdT (rdC b6 0) kS (fun(x20:ByteArray)=>brW (decide (((x20.size:Nat):Int)>255)) (j9 v2 v4 (some ⟨b5,0,none⟩) (some ⟨b6,0,none⟩) true)
 (rdT (rdC b6 0) kS (fun(x21:ByteArray)=>callT Tryz.prog 33 [.string x21,.int .u8 0] kI (fun(x22:Int)=>j9 v2 v4 (some ⟨b5,0,none⟩) (some ⟨b6,0,none⟩) (decide ((x22:Int)>=0))))))))))))))
theorem c11 (v1:Option Addr) (v2:ByteArray) (v3:ByteArray) (v4:ByteArray) {K:KH} {σ:H}:g11 v1 v2 v3 v4 K σ->callW Tryz.prog 11 [.pointer v1,.string v2,.string v3,.string v4] K σ:=call_k an11 Tryz.func11 (by kernel_rfl)


def an12:Ann:=(.q (.q (.n (.q (.h)) (.q .z))))
def g12 (v1:Option Addr) (v2:ByteArray) (v3:Sl) (K:KH):H->Prop :=
 callT Tryz.prog 16 [.pointer v1,.agg ⟨[.string v2,.slice v3.base v3.len v3.cap,.string ⟨⟨[]⟩⟩,.string ⟨⟨[47]⟩⟩]⟩] (.tup [.agg [.str,.str,(.int .i64)],.sc .bool]) (fun(x4:ByteArray) (x5:ByteArray) (x6:Int) (x7:Bool)=>alW (.cells ⟨[.string ⟨⟨[]⟩⟩,.string ⟨⟨[]⟩⟩,.int .i64 0]⟩ 43 (0,0)) (fun b8=>stW Tryz.prog 43 (.pointer (some ⟨b8,0,none⟩)) (.agg ⟨[.string x4,.string x5,.int .i64 x6]⟩) (brW (!x7)
 (K (.string ⟨⟨[110,111,110,101]⟩⟩)) (rdT (rdC b8 2) kI (fun(x9:Int)=>alW (.cells ⟨[.int .u8 (IntKind.u8.wrap (48+(IntKind.u8.wrap x9)))]⟩ 5 (0,0)) (fun b10=>vaW Tryz.prog (convert 57 9 (.slice (some ⟨b10,0,none⟩) 1 1)) kS (fun(x11:ByteArray)=>rdT (rdC b8 0) kS (fun(x12:ByteArray)=>ifW (x11.size+x12.size<=9223372036854775807) (rdT (rdC b8 1) kS (fun(x13:ByteArray)=>ifW ((x11++x12).size+x13.size<=9223372036854775807)
 (K (.string ((x11++x12)++x13)))))))))))))
theorem c12 (v1:Option Addr) (v2:ByteArray) (v3:Sl) {K:KH} {σ:H}:g12 v1 v2 v3 K σ->callW Tryz.prog 12 [.pointer v1,.string v2,.slice v3.base v3.len v3.cap] K σ:=call_k an12 Tryz.func12 (by kernel_rfl)


def an13:Ann:=(.q (.q (.n (.seq (some [(1,.p),(31,.b)]) .r (.h)) (.q (.q (.q .z))))))
def g13  (K:KH):H->Prop :=
 callT Tryz.prog 14 [.agg ⟨[.int .i64 30,.int .i64 100]⟩] (.tup [.sc .ptr,.sc .ptr]) (fun x1 _x2=>letJ (T:=Option Addr->Bool->H->Prop) (fun v4 x5=>brW x5 (K (.bool false)) (callT Tryz.prog 35 [.pointer v4,.string ⟨⟨[47]⟩⟩,.string ⟨⟨[101]⟩⟩,.bool true] (.tup [.agg [(.int .i64),(.int .i64),.str,(.int .i64)],.sc (.int .i64)]) (fun(x6:Int) (x7:Int) (x8:ByteArray) (x9:Int) (x10:Int) =>
 alW (.cells ⟨[.int .i64 0,.int .i64 0,.string ⟨⟨[]⟩⟩,.int .i64 0]⟩ 73 (0,0)) (fun b11 =>
 stW Tryz.prog 73 (.pointer (some ⟨b11,0,none⟩)) (.agg ⟨[.int .i64 x6,.int .i64 x7,.string x8,.int .i64 x9]⟩) (callT Tryz.prog 16 [.pointer v4,.agg ⟨[.string ⟨⟨[99,97,116]⟩⟩,.slice none 0 0,.string ⟨⟨[]⟩⟩,.string ⟨⟨[]⟩⟩]⟩] (.tup [.agg [.str,.str,(.int .i64)],.sc .bool]) (fun(x12:ByteArray) (x13:ByteArray) (x14:Int) (x15:Bool) =>
 alW (.cells ⟨[.string ⟨⟨[]⟩⟩,.string ⟨⟨[]⟩⟩,.int .i64 0]⟩ 43 (0,0)) (fun b16=>stW Tryz.prog 43 (.pointer (some ⟨b16,0,none⟩)) (.agg ⟨[.string x12,.string x13,.int .i64 x14]⟩) (brW ((x10:Int)==5) (K (.bool (!x15))) (K (.bool false)))))))))) (fun j3=>brW x1.isNone (j3 x1 true) (alW (.cells ⟨[.string ⟨⟨[45,114]⟩⟩,.string ⟨⟨[100]⟩⟩,.string ⟨⟨[101]⟩⟩]⟩ 9 (0,0)) (fun b17 =>
 callT Tryz.prog 12 [.pointer x1,.string ⟨⟨[99,112]⟩⟩,.slice (some ⟨b17,0,none⟩) 3 3] kS (fun(x18:ByteArray)=>brW (!strEq x18 (⟨⟨[48]⟩⟩:ByteArray)) (j3 x1 true) (alW (.cells ⟨[.string ⟨⟨[101]⟩⟩]⟩ 9 (0,0)) (fun b19=>callT Tryz.prog 12 [.pointer x1,.string ⟨⟨[108,115]⟩⟩,.slice (some ⟨b19,0,none⟩) 1 1] kS (fun(x20:ByteArray)=>brW (!strEq x20 (⟨⟨[48,102,10,115,10]⟩⟩:ByteArray)) (j3 x1 true)
 (alW (.cells ⟨[.string ⟨⟨[45,114]⟩⟩,.string ⟨⟨[101]⟩⟩]⟩ 9 (0,0)) (fun b21=>callT Tryz.prog 12 [.pointer x1,.string ⟨⟨[114,109]⟩⟩,.slice (some ⟨b21,0,none⟩) 2 2] kS (fun(x22:ByteArray)=>j3 x1 (!strEq x22 (⟨⟨[48]⟩⟩:ByteArray)))))))))))))
theorem c13  {K:KH} {σ:H}:g13  K σ->callW Tryz.prog 13 [] K σ:=call_k an13 Tryz.func13 (by kernel_rfl)


def an14:Ann:=(.q (.n (.reg [0,2,1,3,4,5] [[],[0],[],[0,1,2],(rn 4),(rn 5)]) (.n (.seq (some [(4,.p),(5,.p),(15,.b)]) .r (.h)) (.q (.q (.q (.q (.q (.q (.q (.q (.q (.q (.q (.q (.q (.q (.q .z))))))))))))))))))
def g14 (v1:Int) (v2:Int) (K:KH):H->Prop :=
 alW (.cells ⟨[.int .i64 v1,.int .i64 v2]⟩ 25 (0,0)) (fun b3=>rdT (rdA 2 b3 0) (.one (.agg [(.int .i64),(.int .i64)])) (fun(x4:Int) (x5:Int)=>rdT (rdA 2 b3 0) (.one (.agg [(.int .i64),(.int .i64)])) (fun(x6:Int) (x7:Int)=>callT Tryz.prog 8 [.agg ⟨[.int .i64 x4,.int .i64 x5]⟩] kP (fun x8=>andW (fun σ=>(rdA 2 b3 0) σ=some (.agg ⟨[.int .i64 x6,.int .i64 x7]⟩)) (callT Tryz.prog 36 [.agg ⟨[.int .i64 x6,.int .i64 x7]⟩] kP (fun x9 =>
 letJ (T:=Option Addr->Option Addr->Bool->H->Prop) (fun v11 v12 x13=>brW x13 (K (.tuple ⟨[.pointer none,.pointer none]⟩)) (callT Tryz.prog 9 [.pointer v11,.string ⟨⟨[47]⟩⟩,.string ⟨⟨[100]⟩⟩] kI (fun(_x14:Int)=>callT Tryz.prog 37 [.pointer v12,.string ⟨⟨[47]⟩⟩,.string ⟨⟨[100]⟩⟩] kI (fun(_x15:Int) =>
 callT Tryz.prog 9 [.pointer v11,.string ⟨⟨[47]⟩⟩,.string ⟨⟨[100,47,115]⟩⟩] kI (fun(_x16:Int)=>callT Tryz.prog 37 [.pointer v12,.string ⟨⟨[47]⟩⟩,.string ⟨⟨[100,47,115]⟩⟩] kI (fun(_x17:Int)=>callT Tryz.prog 10 [.pointer v11,.string ⟨⟨[47]⟩⟩,.string ⟨⟨[100,47,102]⟩⟩,.string ⟨⟨[104,105]⟩⟩,.bool false] kI (fun(_x18:Int) =>
 callT Tryz.prog 38 [.pointer v12,.string ⟨⟨[47]⟩⟩,.string ⟨⟨[100,47,102]⟩⟩,.string ⟨⟨[104,105]⟩⟩,.bool false] kI (fun(_x19:Int)=>callT Tryz.prog 10 [.pointer v11,.string ⟨⟨[47]⟩⟩,.string ⟨⟨[100,47,115,47,103]⟩⟩,.string ⟨⟨[114,117,110]⟩⟩,.bool false] kI (fun(_x20:Int) =>
 callT Tryz.prog 38 [.pointer v12,.string ⟨⟨[47]⟩⟩,.string ⟨⟨[100,47,115,47,103]⟩⟩,.string ⟨⟨[114,117,110]⟩⟩,.bool false] kI (fun(_x21:Int)=>callT Tryz.prog 39 [.pointer v11,.string ⟨⟨[47]⟩⟩,.string ⟨⟨[100,47,115,47,103]⟩⟩,.int .i64 493] kI (fun(_x22:Int) =>
 callT Tryz.prog 40 [.pointer v12,.string ⟨⟨[47]⟩⟩,.string ⟨⟨[100,47,115,47,103]⟩⟩,.int .i64 493] kI (fun(_x23:Int)=>callT Tryz.prog 11 [.pointer v11,.string ⟨⟨[47]⟩⟩,.string ⟨⟨[100]⟩⟩,.string ⟨⟨[108]⟩⟩] kI (fun(_x24:Int)=>callT Tryz.prog 41 [.pointer v12,.string ⟨⟨[47]⟩⟩,.string ⟨⟨[100]⟩⟩,.string ⟨⟨[108]⟩⟩] kI (fun(_x25:Int) =>
 callT Tryz.prog 11 [.pointer v11,.string ⟨⟨[47]⟩⟩,.string ⟨⟨[110,111,110,101]⟩⟩,.string ⟨⟨[109]⟩⟩] kI (fun(_x26:Int)=>callT Tryz.prog 41 [.pointer v12,.string ⟨⟨[47]⟩⟩,.string ⟨⟨[110,111,110,101]⟩⟩,.string ⟨⟨[109]⟩⟩] kI (fun(_x27:Int)=>K (.tuple ⟨[.pointer v11,.pointer v12]⟩))))))))))))))))) (fun j10=>brW x8.isNone (j10 x8 x9 true) (j10 x8 x9 x9.isNone))))))))
theorem c14 (v1:Int) (v2:Int) {K:KH} {σ:H}:g14 v1 v2 K σ->callW Tryz.prog 14 [.agg ⟨[.int .i64 v1,.int .i64 v2]⟩] K σ:=call_k an14 Tryz.func14 (by kernel_rfl)


def an16:Ann:=(.q (.q (.q (.n (.q (.h)) (.q (.seq (some [(3,.p),(4,.p),(6,.p),(7,.w),(9,.s),(10,.b)]) .r (.seq (some [(3,.p),(4,.p),(6,.p),(7,.w),(9,.s),(10,.b)]) (.q (.cond .r .z)) (.n (.seq (some [(3,.p),(4,.p),(6,.p),(7,.w),(83,.b)]) .r (.h)) (.q (.q .z))))))))))
def g16 (v1:Option Addr) (v2:ByteArray) (v3:Sl) (v4:ByteArray) (v5:ByteArray) (K:KH):H->Prop :=
 alW (.cells ⟨[.string v2,.slice v3.base v3.len v3.cap,.string v4,.string v5]⟩ 40 (0,0)) (fun b6=>alW (.cells ⟨[.string ⟨⟨[]⟩⟩,.string ⟨⟨[]⟩⟩,.int .i64 0]⟩ 43 (0,0)) (fun b7=>rdT (rdA 4 b6 0) (.one (.agg [.str,.slc,.str,.str])) (fun(x8:ByteArray) (x9:Sl) (x10:ByteArray) (x11:ByteArray) =>
 alW (.cells ⟨[.string x8,.slice x9.base x9.len x9.cap,.string x10,.string x11,.pointer v1,.string ⟨⟨[]⟩⟩,.string ⟨⟨[]⟩⟩,.int .i64 0,.string ⟨⟨[]⟩⟩,.slice none 0 0,.bool false]⟩ 84 (0,0)) (fun b12=>alW (.map #[] 0) (fun b13 =>
 muW Tryz.prog 86 (.map (some b13)) (.string ⟨⟨[109,107,100,105,114]⟩⟩) (.func (.func 42) ⟨[.pointer (some ⟨b12,0,none⟩)]⟩ ⟨[]⟩) (muW Tryz.prog 86 (.map (some b13)) (.string ⟨⟨[114,109,100,105,114]⟩⟩) (.func (.func 43) ⟨[.pointer (some ⟨b12,0,none⟩)]⟩ ⟨[]⟩) (muW Tryz.prog 86 (.map (some b13)) (.string ⟨⟨[116,111,117,99,104]⟩⟩) (.func (.func 44) ⟨[.pointer (some ⟨b12,0,none⟩)]⟩ ⟨[]⟩) (muW Tryz.prog 86 (.map (some b13)) (.string ⟨⟨[99,104,109,111,100]⟩⟩) (.func (.func 45) ⟨[.pointer (some ⟨b12,0,none⟩)]⟩ ⟨[]⟩) (muW Tryz.prog 86 (.map (some b13)) (.string ⟨⟨[108,110]⟩⟩) (.func (.func 46) ⟨[.pointer (some ⟨b12,0,none⟩)]⟩ ⟨[]⟩) (muW Tryz.prog 86 (.map (some b13)) (.string ⟨⟨[114,109]⟩⟩) (.func (.func 47) ⟨[.pointer (some ⟨b12,0,none⟩)]⟩ ⟨[]⟩) (muW Tryz.prog 86 (.map (some b13)) (.string ⟨⟨[109,118]⟩⟩) (.func (.func 48) ⟨[.pointer (some ⟨b12,0,none⟩)]⟩ ⟨[]⟩) (muW Tryz.prog 86 (.map (some b13)) (.string ⟨⟨[99,112]⟩⟩) (.func (.func 49) ⟨[.pointer (some ⟨b12,0,none⟩)]⟩ ⟨[]⟩) (muW Tryz.prog 86 (.map (some b13)) (.string ⟨⟨[108,115]⟩⟩) (.func (.func 50) ⟨[.pointer (some ⟨b12,0,none⟩)]⟩ ⟨[]⟩) (rdT (rdC b6 0) kS (fun(x14:ByteArray) =>
 rdT (rdM .string (.nilFunc) true (some b13) (.string x14)) (.tup [.sc .raw,.sc .bool]) (fun x15 x16=>brW (!x16) (stW Tryz.prog 43 (.pointer (some ⟨b7,0,none⟩)) (.agg ⟨[.string ⟨⟨[]⟩⟩,.string ⟨⟨[]⟩⟩,.int .i64 0]⟩) (rdT (rdA 3 b7 0) (.one (.agg [.str,.str,(.int .i64)])) (fun(r17:ByteArray) (r18:ByteArray) (r19:Int)=>K (.tuple ⟨[.agg ⟨[.string r17,.string r18,.int .i64 r19]⟩,.bool false]⟩)))) (alW (.map #[] 0) (fun b20 =>
 muW Tryz.prog 87 (.map (some b20)) (.string ⟨⟨[109,107,100,105,114]⟩⟩) (.string ⟨⟨[112]⟩⟩) (muW Tryz.prog 87 (.map (some b20)) (.string ⟨⟨[108,110]⟩⟩) (.string ⟨⟨[115,102]⟩⟩) (muW Tryz.prog 87 (.map (some b20)) (.string ⟨⟨[114,109]⟩⟩) (.string ⟨⟨[114,102]⟩⟩) (muW Tryz.prog 87 (.map (some b20)) (.string ⟨⟨[109,118]⟩⟩) (.string ⟨⟨[102]⟩⟩) (muW Tryz.prog 87 (.map (some b20)) (.string ⟨⟨[99,112]⟩⟩) (.string ⟨⟨[114]⟩⟩) (muW Tryz.prog 87 (.map (some b20)) (.string ⟨⟨[108,115]⟩⟩) (.string ⟨⟨[97,49]⟩⟩) (rdT (rdC b6 0) kS (fun(x21:ByteArray) =>
 rdT (rdM .string (.string ⟨⟨[]⟩⟩) false (some b20) (.string x21)) kS (fun(x22:ByteArray)=>letJ (T:=Option Addr->Option Addr->Option Addr->Value->ByteArray->Bool->H->Prop) (fun v24 x25 v26 v27 v28 v29=>letJ (T:=Option Addr->Option Addr->Option Addr->Value->ByteArray->Bool->H->Prop) (fun v31 x32 v33 v34 v35 v36=>letJ (T:=Option Addr->Option Addr->Option Addr->Value->Bool->H->Prop) (fun v38 x39 v40 v41 x42 =>
 brW x42 (ptrW v38 (fun b43 o44=>rdT (rdC b43 o44) kS (fun(x45:ByteArray)=>ifW (x45.size+(⟨⟨[58,32,117,115,97,103,101,10]⟩⟩:ByteArray).size<=9223372036854775807) (stW Tryz.prog 43 (.pointer x39) (.agg ⟨[.string ⟨⟨[]⟩⟩,.string (x45++⟨⟨[58,32,117,115,97,103,101,10]⟩⟩),.int .i64 2]⟩) (ptrW x39 (fun b46 o47=>rdT (rdA 3 b46 o47) (.one (.agg [.str,.str,(.int .i64)])) (fun(r48:ByteArray) (r49:ByteArray) (r50:Int) =>
 K (.tuple ⟨[.agg ⟨[.string r48,.string r49,.int .i64 r50]⟩,.bool true]⟩)))))))) (cvalT Tryz.prog v41 [] kU (ptrW v40 (fun b51 o52=>rdT (rdA 3 b51 (o52+5)) (.one (.agg [.str,.str,(.int .i64)])) (fun(x53:ByteArray) (x54:ByteArray) (x55:Int)=>stW Tryz.prog 43 (.pointer x39) (.agg ⟨[.string x53,.string x54,.int .i64 x55]⟩) (ptrW x39 (fun b56 o57=>rdT (rdA 3 b56 o57) (.one (.agg [.str,.str,(.int .i64)])) (fun(r58:ByteArray) (r59:ByteArray) (r60:Int) =>
 K (.tuple ⟨[.agg ⟨[.string r58,.string r59,.int .i64 r60]⟩,.bool true]⟩))))))))) (fun j37=>brW (!v36) (callT Tryz.prog 51 [.pointer v33,.string v35] kB (fun x61=>brW (!x61) (j37 v31 x32 v33 v34 true) (callT Tryz.prog 52 [.pointer v33] kB (fun x62=>j37 v31 x32 v33 v34 (!x62))))) (callT Tryz.prog 52 [.pointer v33] kB (fun x63=>j37 v31 x32 v33 v34 (!x63))))) (fun j30=>brW v29 (ptrW v24 (fun b64 o65=>rdT (rdC b64 (o65+1)) kL (fun x66 =>
 ptrW v26 (fun b67 o68=>stW Tryz.prog 30 (.pointer (some ⟨b67,o68+9,none⟩)) (.slice x66.base x66.len x66.cap) (j30 v24 x25 v26 v27 v28 v29))))) (j30 v24 x25 v26 v27 v28 v29))) (fun j23=>rdT (rdC b6 0) kS (fun(x69:ByteArray)=>brW (strEq x69 (⟨⟨[99,104,109,111,100]⟩⟩:ByteArray)) (rdT (rdC b6 1) kL (fun x70=>brW (decide (((x70.len:Nat):Int)>0)) (rdT (rdC b6 1) kL (fun x71=>ptrW x71.base (fun b72 o73 =>
 ifW (0<=(0:Int)/\(0:Int)<((x71.len:Nat):Int)) (rdT (rdC b72 (o73+(0:Int).toNat * 1)) kS (fun(x74:ByteArray)=>j23 (some ⟨b6,0,none⟩) (some ⟨b7,0,none⟩) (some ⟨b12,0,none⟩) x15 x22 (strEq x74 (⟨⟨[45,120]⟩⟩:ByteArray))))))) (j23 (some ⟨b6,0,none⟩) (some ⟨b7,0,none⟩) (some ⟨b12,0,none⟩) x15 x22 false))) (j23 (some ⟨b6,0,none⟩) (some ⟨b7,0,none⟩) (some ⟨b12,0,none⟩) x15 x22 false)))))))))))))))))))))))))))))
theorem c16 (v1:Option Addr) (v2:ByteArray) (v3:Sl) (v4:ByteArray) (v5:ByteArray) {K:KH} {σ:H}:g16 v1 v2 v3 v4 v5 K σ->callW Tryz.prog 16 [.pointer v1,.agg ⟨[.string v2,.slice v3.base v3.len v3.cap,.string v4,.string v5]⟩] K σ:=call_k an16 Tryz.func16 (by kernel_rfl)


def an19:Ann:=(.q (.q (.n (.q (.blk (.loop [(0,.p),(2,.p),(3,.p),(4,.i)] (.n (.q (.cond .z .z)) (.seq (some [(0,.p),(2,.p),(3,.p),(4,.i)]) (.blk (.q (.cond (.q (.reg (rn 16) [[],[0],[],[2],[2,3],[2,3,4],[],[2,3,4,5,6],[2,3,4,5,6,7],[2,3,4,5,6,7,8],[2,3,4,5,6,7,8,9],[2,3,4,5,6,7,8,9,10],[2,3,4,5,6,7,8,9,10,11],(rn 13),(rn 14),(rn 15)])) .z))) .r))))) (.q .z))))
def g19 (v1:Option Addr) (K:KH):H->Prop :=
 alW (.cells ⟨[.int .i64 0,.int .i64 0]⟩ 25 (0,0)) (fun b2=>alW (.cells ⟨[.int .i64 0,.int .i64 0]⟩ 25 (0,0)) (fun b3=>stW Tryz.prog 25 (.pointer (some ⟨b3,0,none⟩)) (.agg ⟨[.int .i64 0,.int .i64 0]⟩) (loopW [.sc .ptr,.sc .ptr,.sc .ptr,.sc (.int .i64)] (fun(R4:Option Addr->Option Addr->Option Addr->Int->H->Prop)=>(fun(v5:Option Addr) (x6:Option Addr) (v7:Option Addr) (v8:Int)=>ptrW v5 (fun b9 o10=>rdT (rdC b9 (o10+2)) kL (fun x11 =>
 brW (decide ((v8:Int)<((x11.len:Nat):Int))) (letJ (T:=Option Addr->Option Addr->Option Addr->Int->H->Prop) (fun v13 x14 v15 v16=>R4 v13 x14 v15 (IntKind.i64.wrap (v16+1))) (fun j12=>ptrW v5 (fun b17 o18=>rdT (rdC b17 (o18+2)) kL (fun x19=>ptrW x19.base (fun b20 o21=>ifW (0<=v8/\v8<((x19.len:Nat):Int)) (rdT (rdC b20 (o21+v8.toNat * 1)) kP (fun x22=>brW (!x22.isNone) (ptrW v7 (fun b23 o24=>rdT (rdC b23 o24) kI (fun(x25:Int) =>
 ptrW v7 (fun b26 o27=>stW Tryz.prog 3 (.pointer (some ⟨b26,o27,none⟩)) (.int .i64 (IntKind.i64.wrap (x25+1))) (ptrW v7 (fun b28 o29=>rdT (rdC b28 (o29+1)) kI (fun(x30:Int)=>ptrW v5 (fun b31 o32=>rdT (rdC b31 (o32+2)) kL (fun x33=>ptrW x33.base (fun b34 o35=>ifW (0<=v8/\v8<((x33.len:Nat):Int)) (rdT (rdC b34 (o35+v8.toNat * 1)) kP (fun x36=>ptrW x36 (fun b37 o38=>rdT (rdC b37 (o38+2)) kS (fun(x39:ByteArray)=>ptrW v7 (fun b40 o41 =>
 stW Tryz.prog 3 (.pointer (some ⟨b40,o41+1,none⟩)) (.int .i64 (IntKind.i64.wrap (x30+((x39.size:Nat):Int)))) (j12 v5 x6 v7 v8)))))))))))))))) (j12 v5 x6 v7 v8)))))))) (ptrW v7 (fun b42 o43=>rdT (rdA 2 b42 o43) (.one (.agg [(.int .i64),(.int .i64)])) (fun(x44:Int) (x45:Int)=>stW Tryz.prog 25 (.pointer x6) (.agg ⟨[.int .i64 x44,.int .i64 x45]⟩) (ptrW x6 (fun b46 o47=>rdT (rdA 2 b46 o47) (.one (.agg [(.int .i64),(.int .i64)])) (fun(r48:Int) (r49:Int) =>
 K (.agg ⟨[.int .i64 r48,.int .i64 r49]⟩))))))))))) (fun(R50:Option Addr->Option Addr->Option Addr->Int->H->Prop)=>R50 v1 (some ⟨b2,0,none⟩) (some ⟨b3,0,none⟩) 0))))
theorem c19 (v1:Option Addr) {K:KH} {σ:H}:g19 v1 K σ->callW Tryz.prog 19 [.pointer v1] K σ:=call_k an19 Tryz.func19 (by kernel_rfl)


def an23:Ann:=(.q (.q (.q .z)))
def g23 (v1:Option Addr) (v2:ByteArray) (v3:ByteArray) (K:KH):H->Prop :=
 alW (.cells ⟨[.pointer v1]⟩ 22 (0,0)) (fun b4=>alW (.cells ⟨[.slice none 0 0]⟩ 30 (0,0)) (fun b5=>rdT (rdC b4 0) kP (fun x6=>callT Tryz.prog 68 [.pointer x6,.string v2,.string v3,.bool true,.func (.func 69) ⟨[]⟩ ⟨[.pointer (some ⟨b4,0,none⟩),.pointer (some ⟨b5,0,none⟩)]⟩] kI (fun(x7:Int)=>rdT (rdC b5 0) kL (fun x8=>stW Tryz.prog 30 (.pointer (some ⟨b5,0,none⟩)) (.slice x8.base x8.len x8.cap) (rdT (rdC b5 0) kL (fun r9 =>
 K (.tuple ⟨[.slice r9.base r9.len r9.cap,.int .i64 x7]⟩))))))))
theorem c23 (v1:Option Addr) (v2:ByteArray) (v3:ByteArray) {K:KH} {σ:H}:g23 v1 v2 v3 K σ->callW Tryz.prog 23 [.pointer v1,.string v2,.string v3] K σ:=call_k an23 Tryz.func23 (by kernel_rfl)


def an24:Ann:=(.q (.n (.seq (some [(1,.p),(21,.b)]) .r (.h)) (.q (.q .z))))
def g24 (v1:Int) (v2:Int) (K:KH):H->Prop :=
 alW (.cells ⟨[.int .i64 v1,.int .i64 v2]⟩ 25 (0,0)) (fun b3=>letJ (T:=Option Addr->Bool->H->Prop) (fun v5 x6=>brW x6 (K (.pointer none)) (alW (.map #[] 0) (fun b7=>alW (.cells ⟨[.int .i64 2,.int .i64 493,.string ⟨⟨[]⟩⟩,.int .i64 1,.int .i64 1,.map (some b7)]⟩ 115 (0,0)) (fun b8=>ptrW v5 (fun b9 o10=>rdT (rdA 2 b9 o10) (.one (.agg [(.int .i64),(.int .i64)])) (fun(x11:Int) (x12:Int)=>alW (.map #[] 0) (fun b13 =>
 muW Tryz.prog 116 (.map (some b13)) (.int .i64 1) (.pointer (some ⟨b8,0,none⟩)) (alW (.cells ⟨[.int .i64 x11,.int .i64 x12,.int .i64 1,.int .i64 0,.map (some b13),.int .i64 1]⟩ 118 (0,0)) (fun b14=>K (.pointer (some ⟨b14,0,none⟩))))))))))) (fun j4=>rdT (rdC b3 0) kI (fun(x15:Int)=>brW (decide ((x15:Int)<1)) (j4 (some ⟨b3,0,none⟩) true) (rdT (rdC b3 0) kI (fun(x16:Int)=>brW (decide ((x16:Int)>1048576)) (j4 (some ⟨b3,0,none⟩) true)
 (rdT (rdC b3 1) kI (fun(x17:Int)=>brW (decide ((x17:Int)<0)) (j4 (some ⟨b3,0,none⟩) true) (rdT (rdC b3 1) kI (fun(x18:Int)=>j4 (some ⟨b3,0,none⟩) (decide ((x18:Int)>1073741824)))))))))))
theorem c24 (v1:Int) (v2:Int) {K:KH} {σ:H}:g24 v1 v2 K σ->callW Tryz.prog 24 [.agg ⟨[.int .i64 v1,.int .i64 v2]⟩] K σ:=call_k an24 Tryz.func24 (by kernel_rfl)


def an25:Ann:=(.q (.q (.n (.blk (.q (.cond (.q .z) (.q (.h))))) (.q .z))))
def g25 (v1:Option Addr) (v2:ByteArray) (v3:ByteArray) (v4:Value) (K:KH):H->Prop :=
 callT Tryz.prog 29 [.pointer v1,.string v2,.string v3,.bool false] (.tup [.agg [(.int .i64),.str,(.int .i64),.bool],.sc (.int .i64)]) (fun(x5:Int) (x6:ByteArray) (x7:Int) (x8:Bool) (x9:Int)=>alW (.cells ⟨[.int .i64 0,.string ⟨⟨[]⟩⟩,.int .i64 0,.bool false]⟩ 65 (0,0)) (fun b10=>stW Tryz.prog 65 (.pointer (some ⟨b10,0,none⟩)) (.agg ⟨[.int .i64 x5,.string x6,.int .i64 x7,.bool x8]⟩) (brW ((x9:Int) != 0) (K (.int .i64 x9))
 (rdT (rdC b10 3) kB (fun x11=>brW x11 (K (.int .i64 6)) (rdT (rdA 4 b10 0) (.one (.agg [(.int .i64),.str,(.int .i64),.bool])) (fun(x12:Int) (x13:ByteArray) (x14:Int) (x15:Bool)=>cvalT Tryz.prog v4 [.agg ⟨[.int .i64 x12,.string x13,.int .i64 x14,.bool x15]⟩] kI (fun(x16:Int)=>K (.int .i64 x16)))))))))
theorem c25 (v1:Option Addr) (v2:ByteArray) (v3:ByteArray) (v4:Value) {K:KH} {σ:H}:g25 v1 v2 v3 v4 K σ->callW Tryz.prog 25 [.pointer v1,.string v2,.string v3,v4] K σ:=call_k an25 Tryz.func25 (by kernel_rfl)


def an26:Ann:=(.q (.n (.q (.h)) (.n (.reg (rn 14) [[],[0],[0,1],[0,1,2],[],[4],[],[6],(rn 8),(rn 9),(rn 10),(rn 10),(rn 11),(rn 13)]) (.q .z))))
def g26 (v1:Int) (v2:ByteArray) (v3:Int) (v4:Bool) (x5:Option Addr) (K:KH):H->Prop :=
 alW (.cells ⟨[.int .i64 v1,.string v2,.int .i64 v3,.bool v4]⟩ 65 (0,0)) (fun b6=>ptrW x5 (fun b7 o8=>rdT (rdC b7 o8) kP (fun x9=>rdT (rdC b6 0) kI (fun(x10:Int)=>callT Tryz.prog 27 [.pointer x9,.int .i64 x10] kI (fun(x11:Int)=>brW (decide ((x11:Int)>=12)) (K (.int .i64 3)) (ptrW x5 (fun b12 o13=>rdT (rdC b12 o13) kP (fun x14=>ptrW x14 (fun b15 o16=>rdT (rdC b15 o16) kP (fun x17=>rdT (rdC b6 0) kI (fun(x18:Int) =>
 rdT (rdC b6 1) kS (fun(x19:ByteArray)=>callT Tryz.prog 28 [.pointer x17,.int .i64 x18,.string x19,.int .i64 2,.int .i64 493,.string ⟨⟨[]⟩⟩] (.tup [.sc (.int .i64),.sc (.int .i64)]) (fun(_x20:Int) (x21:Int)=>K (.int .i64 x21))))))))))))))
theorem c26 (v1:Int) (v2:ByteArray) (v3:Int) (v4:Bool) (x5:Option Addr) {K:KH} {σ:H}:g26 v1 v2 v3 v4 x5 K σ->callW Tryz.prog 26 [.agg ⟨[.int .i64 v1,.string v2,.int .i64 v3,.bool v4]⟩,.pointer x5] K σ:=call_k an26 Tryz.func26 (by kernel_rfl)


def an27:Ann:=(.q (.q (.n (.blk (.loop [(0,.p),(1,.i),(5,.i)] (.n (.q (.cond .z .z)) (.n (.blk .r) .r)))) (.q .z))))
def g27 (v1:Option Addr) (v2:Int) (K:KH):H->Prop :=
 loopW [.sc .ptr,.sc (.int .i64),.sc (.int .i64)] (fun(R3:Option Addr->Int->Int->H->Prop)=>(fun(v4:Option Addr) (v5:Int) (v6:Int)=>ptrW v4 (fun b7 o8=>rdT (rdC b7 o8) kP (fun x9=>callT Tryz.prog 71 [.pointer x9] kI (fun(x10:Int)=>brW ((v5:Int) != x10) (ptrW v4 (fun b11 o12=>rdT (rdC b11 o12) kP (fun x13=>callT Tryz.prog 72 [.pointer x13,.int .i64 v5] kI (fun(x14:Int)=>R3 v4 x14 (IntKind.i64.wrap (v6+1))))))
 (K (.int .i64 v6))))))) (fun(R15:Option Addr->Int->Int->H->Prop)=>R15 v1 v2 1)
theorem c27 (v1:Option Addr) (v2:Int) {K:KH} {σ:H}:g27 v1 v2 K σ->callW Tryz.prog 27 [.pointer v1,.int .i64 v2] K σ:=call_k an27 Tryz.func27 (by kernel_rfl)


def an28:Ann:=(.q (.q (.n (.n (.reg [0,1,2,3,5,7,8,4,6,9,10,11,12,13,14,15] [[],[0],[],[],[2,3],[],[2,3,4,5],[],[],[],[],[2,3,4,5,6,8,9,10],[],(rn 13),(rn 14),(rn 15)]) (.q (.h))) (.q (.q (.seq (some [(1,.i),(2,.s),(6,.p),(11,.p),(16,.p)]) (.q (.cond .r .z)) (.n (.reg (rn 10) [[],[0],[0,1],[0,1,2],[],[4],[4,5],[4,5,6],[],(rn 9)]) (.n (.reg (rn 15) [[],[0],[0,1],[0,1,2],[],(rn 5),(rn 6),(rn 7),(rn 8),[],[],[10],[10,11],[10,11,12],(rn 14)]) (.q (.n (.reg (rn 12) [[],[0],[0,1],[0,1,2],(rn 4),[],[5],(rn 7),(rn 8),(rn 9),(rn 10),(rn 11)]) (.q .z)))))))))))
def g28 (v1:Option Addr) (v2:Int) (v3:ByteArray) (v4:Int) (v5:Int) (v6:ByteArray) (K:KH):H->Prop :=
 alW (.cells ⟨[.pointer v1]⟩ 59 (0,0)) (fun b7=>alW (.cells ⟨[.int .i64 v4]⟩ 3 (0,0)) (fun b8=>alW (.cells ⟨[.int .i64 v5]⟩ 3 (0,0)) (fun b9=>alW (.cells ⟨[.string v6]⟩ 9 (0,0)) (fun b10=>rdT (rdC b7 0) kP (fun x11=>rdT (rdC b7 0) kP (fun x12=>rdT (rdC b7 0) kP (fun x13=>callT Tryz.prog 77 [.pointer x12,.int .i64 v2] kR (fun x14=>andW (fun σ=>(rdC b7 0) σ=some (.pointer x13)) (andW (fun σ=>(rdC b7 0) σ=some (.pointer x11))
 (callT Tryz.prog 78 [.string v3] kR (fun x15=>andW (fun σ=>(rdC b7 0) σ=some (.pointer x13)) (andW (fun σ=>(rdC b7 0) σ=some (.pointer x11)) (callT Tryz.prog 79 [.pointer x13,.int .i64 v2,.string v3] kR (fun x16=>andW (fun σ=>(rdC b7 0) σ=some (.pointer x11)) (oneK x14 (oneK x15 (oneK x16
 (alW (.cells ⟨[.func (.func 76) ⟨[.pointer x11]⟩ ⟨[]⟩,x14,x15,.func (.func 73) ⟨[]⟩ ⟨[.pointer (some ⟨b10,0,none⟩),.pointer (some ⟨b8,0,none⟩),.pointer (some ⟨b9,0,none⟩)]⟩,x16,.func (.func 80) ⟨[]⟩ ⟨[.pointer (some ⟨b7,0,none⟩),.pointer (some ⟨b10,0,none⟩)]⟩]⟩ 122 (0,0)) (fun b17=>callT Tryz.prog 75 [.slice (some ⟨b17,0,none⟩) 6 6] kI (fun(x18:Int)=>brW ((x18:Int) != 0) (K (.tuple ⟨[.int .i64 0,.int .i64 x18]⟩)) (rdT (rdC b7 0) kP (fun x19 =>
 ptrW x19 (fun b20 o21=>rdT (rdC b20 (o21+5)) kI (fun(x22:Int)=>ptrW x19 (fun b23 o24=>stW Tryz.prog 3 (.pointer (some ⟨b23,o24+5,none⟩)) (.int .i64 (IntKind.i64.wrap (x22+1))) (rdT (rdC b8 0) kI (fun(x25:Int)=>rdT (rdC b9 0) kI (fun(x26:Int)=>rdT (rdC b10 0) kS (fun(x27:ByteArray)=>alW (.cells ⟨[.int .i64 x25,.int .i64 x26,.string x27,.int .i64 1,.int .i64 0,.map none]⟩ 115 (0,0)) (fun b28 =>
 letJ (T:=Int->ByteArray->Option Addr->Option Addr->Option Addr->H->Prop) (fun v30 v31 v32 v33 v34=>ptrW v32 (fun b35 o36=>rdT (rdC b35 o36) kP (fun x37=>ptrW x37 (fun b38 o39=>rdT (rdC b38 (o39+4)) kM (fun(x40:Option Nat)=>ptrW v32 (fun b41 o42=>rdT (rdC b41 o42) kP (fun x43=>ptrW x43 (fun b44 o45=>rdT (rdC b44 (o45+5)) kI (fun(x46:Int)=>muW Tryz.prog 116 (.map x40) (.int .i64 x46) (.pointer v34) (ptrW v32 (fun b47 o48 =>
 rdT (rdC b47 o48) kP (fun x49=>ptrW x49 (fun b50 o51=>rdT (rdC b50 (o51+4)) kM (fun(x52:Option Nat)=>rdT (rdM (.int .i64) (.pointer none) false x52 (.int .i64 v30)) kP (fun x53=>ptrW x53 (fun b54 o55=>rdT (rdC b54 (o55+5)) kM (fun(x56:Option Nat)=>ptrW v32 (fun b57 o58=>rdT (rdC b57 o58) kP (fun x59=>ptrW x59 (fun b60 o61=>rdT (rdC b60 (o61+5)) kI (fun(x62:Int)=>muW Tryz.prog 113 (.map x56) (.string v31) (.int .i64 x62) (ptrW v32 (fun b63 o64 =>
 rdT (rdC b63 o64) kP (fun x65=>ptrW x65 (fun b66 o67=>rdT (rdC b66 (o67+2)) kI (fun(x68:Int)=>ptrW x65 (fun b69 o70=>stW Tryz.prog 3 (.pointer (some ⟨b69,o70+2,none⟩)) (.int .i64 (IntKind.i64.wrap (x68+1))) (ptrW v32 (fun b71 o72=>rdT (rdC b71 o72) kP (fun x73=>ptrW x73 (fun b74 o75=>rdT (rdC b74 (o75+3)) kI (fun(x76:Int)=>ptrW v33 (fun b77 o78=>rdT (rdC b77 o78) kS (fun(x79:ByteArray)=>ptrW x73 (fun b80 o81 =>
 stW Tryz.prog 3 (.pointer (some ⟨b80,o81+3,none⟩)) (.int .i64 (IntKind.i64.wrap (x76+((x79.size:Nat):Int)))) (ptrW v32 (fun b82 o83=>rdT (rdC b82 o83) kP (fun x84=>ptrW x84 (fun b85 o86=>rdT (rdC b85 (o86+5)) kI (fun(x87:Int)=>K (.tuple ⟨[.int .i64 x87,.int .i64 0]⟩))))))))))))))))))))))))))))))))))))))))) (fun j29=>rdT (rdC b8 0) kI (fun(x88:Int)=>brW ((x88:Int)==2) (alW (.map #[] 0) (fun b89 =>
 stW Tryz.prog 3 (.pointer (some ⟨b28,4,none⟩)) (.int .i64 v2) (stW Tryz.prog 113 (.pointer (some ⟨b28,5,none⟩)) (.map (some b89)) (j29 v2 v3 (some ⟨b7,0,none⟩) (some ⟨b10,0,none⟩) (some ⟨b28,0,none⟩))))) (j29 v2 v3 (some ⟨b7,0,none⟩) (some ⟨b10,0,none⟩) (some ⟨b28,0,none⟩))))))))))))))))))))))))))))))))))
theorem c28 (v1:Option Addr) (v2:Int) (v3:ByteArray) (v4:Int) (v5:Int) (v6:ByteArray) {K:KH} {σ:H}:g28 v1 v2 v3 v4 v5 v6 K σ->callW Tryz.prog 28 [.pointer v1,.int .i64 v2,.string v3,.int .i64 v4,.int .i64 v5,.string v6] K σ:=call_k an28 Tryz.func28 (by kernel_rfl)


def an29:Ann:=(.q (.n (.q (.h)) (.q (.n (.q (.h)) (.seq (some [(0,.p),(2,.s),(3,.b),(8,.p),(10,.i),(11,.p)]) (.q (.cond (.n (.q (.h)) (.q (.n (.blk (.q (.cond (.q .z) (.q (.cond (.q .z) (.q (.h))))))) .r))) .z)) (.q .z))))))
def g29 (v1:Option Addr) (v2:ByteArray) (v3:ByteArray) (v4:Bool) (K:KH):H->Prop :=
 alW (.cells ⟨[.int .i64 0,.string ⟨⟨[]⟩⟩,.int .i64 0,.bool false]⟩ 65 (0,0)) (fun b5=>callT Tryz.prog 32 [.pointer v1] kB (fun x6=>brW x6 (stW Tryz.prog 65 (.pointer (some ⟨b5,0,none⟩)) (.agg ⟨[.int .i64 0,.string ⟨⟨[]⟩⟩,.int .i64 0,.bool false]⟩) (rdT (rdA 4 b5 0) (.one (.agg [(.int .i64),.str,(.int .i64),.bool])) (fun(r7:Int) (r8:ByteArray) (r9:Int) (r10:Bool) =>
 K (.tuple ⟨[.agg ⟨[.int .i64 r7,.string r8,.int .i64 r9,.bool r10]⟩,.int .i64 1]⟩)))) (ptrW v1 (fun b11 o12=>rdT (rdC b11 o12) kP (fun x13=>callT Tryz.prog 71 [.pointer x13] kI (fun(x14:Int)=>alW (.cells ⟨[.int .i64 0]⟩ 3 (0,0)) (fun b15=>stW Tryz.prog 3 (.pointer (some ⟨b15,0,none⟩)) (.int .i64 8) (brW (strEq v3 (⟨⟨[]⟩⟩:ByteArray))
 (stW Tryz.prog 65 (.pointer (some ⟨b5,0,none⟩)) (.agg ⟨[.int .i64 0,.string ⟨⟨[]⟩⟩,.int .i64 0,.bool false]⟩) (rdT (rdA 4 b5 0) (.one (.agg [(.int .i64),.str,(.int .i64),.bool])) (fun(r16:Int) (r17:ByteArray) (r18:Int) (r19:Bool)=>K (.tuple ⟨[.agg ⟨[.int .i64 r16,.string r17,.int .i64 r18,.bool r19]⟩,.int .i64 5]⟩)))) (letJ (T:=Option Addr->ByteArray->Bool->Option Addr->Int->Option Addr->H->Prop) (fun v21 v22 v23 x24 v25 v26 =>
 callT Tryz.prog 83 [.pointer v21,.int .i64 v25,.string v22,.bool v23,.pointer v26] (.tup [.agg [(.int .i64),.str,(.int .i64),.bool],.sc (.int .i64)]) (fun(x27:Int) (x28:ByteArray) (x29:Int) (x30:Bool) (x31:Int)=>stW Tryz.prog 65 (.pointer x24) (.agg ⟨[.int .i64 x27,.string x28,.int .i64 x29,.bool x30]⟩) (ptrW x24 (fun b32 o33 =>
 rdT (rdA 4 b32 o33) (.one (.agg [(.int .i64),.str,(.int .i64),.bool])) (fun(r34:Int) (r35:ByteArray) (r36:Int) (r37:Bool)=>K (.tuple ⟨[.agg ⟨[.int .i64 r34,.string r35,.int .i64 r36,.bool r37]⟩,.int .i64 x31]⟩)))))) (fun j20=>idxW v3 0 (fun c38=>brW ((c38.toNat:Int) != 47) (callT Tryz.prog 82 [.string v2,.string ⟨⟨[47]⟩⟩] kB (fun x39=>brW (!x39)
 (stW Tryz.prog 65 (.pointer (some ⟨b5,0,none⟩)) (.agg ⟨[.int .i64 0,.string ⟨⟨[]⟩⟩,.int .i64 0,.bool false]⟩) (rdT (rdA 4 b5 0) (.one (.agg [(.int .i64),.str,(.int .i64),.bool])) (fun(r40:Int) (r41:ByteArray) (r42:Int) (r43:Bool)=>K (.tuple ⟨[.agg ⟨[.int .i64 r40,.string r41,.int .i64 r42,.bool r43]⟩,.int .i64 5]⟩))))
 (callT Tryz.prog 83 [.pointer v1,.int .i64 x14,.string v2,.bool true,.pointer (some ⟨b15,0,none⟩)] (.tup [.agg [(.int .i64),.str,(.int .i64),.bool],.sc (.int .i64)]) (fun(x44:Int) (x45:ByteArray) (x46:Int) (x47:Bool) (x48:Int)=>alW (.cells ⟨[.int .i64 0,.string ⟨⟨[]⟩⟩,.int .i64 0,.bool false]⟩ 65 (0,0)) (fun b49 =>
 stW Tryz.prog 65 (.pointer (some ⟨b49,0,none⟩)) (.agg ⟨[.int .i64 x44,.string x45,.int .i64 x46,.bool x47]⟩) (brW ((x48:Int) != 0) (stW Tryz.prog 65 (.pointer (some ⟨b5,0,none⟩)) (.agg ⟨[.int .i64 0,.string ⟨⟨[]⟩⟩,.int .i64 0,.bool false]⟩) (rdT (rdA 4 b5 0) (.one (.agg [(.int .i64),.str,(.int .i64),.bool])) (fun(r50:Int) (r51:ByteArray) (r52:Int) (r53:Bool)=>K (.tuple ⟨[.agg ⟨[.int .i64 r50,.string r51,.int .i64 r52,.bool r53]⟩,.int .i64 x48]⟩))))
 (rdT (rdC b49 3) kB (fun x54=>brW (!x54) (stW Tryz.prog 65 (.pointer (some ⟨b5,0,none⟩)) (.agg ⟨[.int .i64 0,.string ⟨⟨[]⟩⟩,.int .i64 0,.bool false]⟩) (rdT (rdA 4 b5 0) (.one (.agg [(.int .i64),.str,(.int .i64),.bool])) (fun(r55:Int) (r56:ByteArray) (r57:Int) (r58:Bool)=>K (.tuple ⟨[.agg ⟨[.int .i64 r55,.string r56,.int .i64 r57,.bool r58]⟩,.int .i64 5]⟩)))) (rdT (rdC b49 2) kI (fun(x59:Int) =>
 callT Tryz.prog 84 [.pointer v1,.int .i64 x59] kI (fun(x60:Int)=>brW ((x60:Int) != 2) (stW Tryz.prog 65 (.pointer (some ⟨b5,0,none⟩)) (.agg ⟨[.int .i64 0,.string ⟨⟨[]⟩⟩,.int .i64 0,.bool false]⟩) (rdT (rdA 4 b5 0) (.one (.agg [(.int .i64),.str,(.int .i64),.bool])) (fun(r61:Int) (r62:ByteArray) (r63:Int) (r64:Bool)=>K (.tuple ⟨[.agg ⟨[.int .i64 r61,.string r62,.int .i64 r63,.bool r64]⟩,.int .i64 8]⟩)))) (rdT (rdC b49 2) kI (fun(x65:Int) =>
 stW Tryz.prog 3 (.pointer (some ⟨b15,0,none⟩)) (.int .i64 8) (j20 v1 v3 v4 (some ⟨b5,0,none⟩) x65 (some ⟨b15,0,none⟩))))))))))))))) (j20 v1 v3 v4 (some ⟨b5,0,none⟩) x14 (some ⟨b15,0,none⟩)))))))))))))
theorem c29 (v1:Option Addr) (v2:ByteArray) (v3:ByteArray) (v4:Bool) {K:KH} {σ:H}:g29 v1 v2 v3 v4 K σ->callW Tryz.prog 29 [.pointer v1,.string v2,.string v3,.bool v4] K σ:=call_k an29 Tryz.func29 (by kernel_rfl)


def an30:Ann:=(.q (.q (.n (.q (.h)) (.q .z))))
def g30 (v1:Option Addr) (v2:Int) (K:KH):H->Prop :=
 alW (.cells ⟨[.int .i64 0,.int .i64 0,.string ⟨⟨[]⟩⟩,.int .i64 0]⟩ 73 (0,0)) (fun b3=>callT Tryz.prog 85 [.pointer v1,.int .i64 v2] kP (fun x4=>brW x4.isNone (stW Tryz.prog 73 (.pointer (some ⟨b3,0,none⟩)) (.agg ⟨[.int .i64 0,.int .i64 0,.string ⟨⟨[]⟩⟩,.int .i64 0]⟩) (rdT (rdA 4 b3 0) (.one (.agg [(.int .i64),(.int .i64),.str,(.int .i64)])) (fun(r5:Int) (r6:Int) (r7:ByteArray) (r8:Int) =>
 K (.tuple ⟨[.agg ⟨[.int .i64 r5,.int .i64 r6,.string r7,.int .i64 r8]⟩,.bool false]⟩)))) (ptrW x4 (fun b9 o10=>rdT (rdA 4 b9 o10) (.one (.agg [(.int .i64),(.int .i64),.str,(.int .i64)])) (fun(x11:Int) (x12:Int) (x13:ByteArray) (x14:Int) =>
 stW Tryz.prog 73 (.pointer (some ⟨b3,0,none⟩)) (.agg ⟨[.int .i64 x11,.int .i64 x12,.string x13,.int .i64 x14]⟩) (rdT (rdA 4 b3 0) (.one (.agg [(.int .i64),(.int .i64),.str,(.int .i64)])) (fun(r15:Int) (r16:Int) (r17:ByteArray) (r18:Int)=>K (.tuple ⟨[.agg ⟨[.int .i64 r15,.int .i64 r16,.string r17,.int .i64 r18]⟩,.bool true]⟩))))))))
theorem c30 (v1:Option Addr) (v2:Int) {K:KH} {σ:H}:g30 v1 v2 K σ->callW Tryz.prog 30 [.pointer v1,.int .i64 v2] K σ:=call_k an30 Tryz.func30 (by kernel_rfl)


def an31:Ann:=(.q (.q (.n (.n (.reg (rn 9) [[],[0],[],[],[2,3],[],(rn 6),(rn 7),(rn 8)]) (.q (.h))) (.n (.reg (rn 7) [[],[0],[0,1],[0,1,2],[],(rn 5),(rn 6)]) (.n (.reg (rn 19) [[],[0],[0,1],[0,1,2],(rn 4),[],[5],[],[7],[7,8],[7,8,9],[7,8,9,10],[7,8,9,10,11],[5,6,7,8,9,10,11,12],(rn 14),(rn 15),(rn 16),(rn 17),(rn 18)]) (.q (.q .z)))))))
def g31 (v1:Option Addr) (v2:Int) (v3:ByteArray) (K:KH):H->Prop :=
 alW (.cells ⟨[.pointer v1]⟩ 59 (0,0)) (fun b4=>alW (.cells ⟨[.int .i64 v2]⟩ 3 (0,0)) (fun b5=>alW (.cells ⟨[.string v3]⟩ 9 (0,0)) (fun b6=>rdT (rdC b4 0) kP (fun x7=>rdT (rdC b4 0) kP (fun x8=>rdT (rdC b5 0) kI (fun(x9:Int)=>callT Tryz.prog 87 [.pointer x8,.int .i64 x9] kR (fun x10=>andW (fun σ=>(rdC b4 0) σ=some (.pointer x7)) (oneK x10
 (alW (.cells ⟨[.func (.func 76) ⟨[.pointer x7]⟩ ⟨[]⟩,x10,.func (.func 86) ⟨[]⟩ ⟨[.pointer (some ⟨b4,0,none⟩),.pointer (some ⟨b6,0,none⟩),.pointer (some ⟨b5,0,none⟩)]⟩]⟩ 122 (0,0)) (fun b11=>callT Tryz.prog 75 [.slice (some ⟨b11,0,none⟩) 3 3] kI (fun(x12:Int)=>brW ((x12:Int) != 0) (K (.int .i64 x12)) (rdT (rdC b4 0) kP (fun x13=>ptrW x13 (fun b14 o15=>rdT (rdC b14 (o15+4)) kM (fun(x16:Option Nat)=>rdT (rdC b5 0) kI (fun(x17:Int) =>
 rdT (rdM (.int .i64) (.pointer none) false x16 (.int .i64 x17)) kP (fun x18=>rdT (rdC b4 0) kP (fun x19=>ptrW x19 (fun b20 o21=>rdT (rdC b20 (o21+3)) kI (fun(x22:Int)=>rdT (rdC b6 0) kS (fun(x23:ByteArray)=>ptrW x18 (fun b24 o25=>rdT (rdC b24 (o25+2)) kS (fun(x26:ByteArray)=>ptrW x19 (fun b27 o28 =>
 stW Tryz.prog 3 (.pointer (some ⟨b27,o28+3,none⟩)) (.int .i64 (IntKind.i64.wrap (x22+(IntKind.i64.wrap (((x23.size:Nat):Int) - ((x26.size:Nat):Int)))))) (rdT (rdC b6 0) kS (fun(x29:ByteArray)=>ptrW x18 (fun b30 o31=>stW Tryz.prog 9 (.pointer (some ⟨b30,o31+2,none⟩)) (.string x29) (K (.int .i64 0)))))))))))))))))))))))))))))
theorem c31 (v1:Option Addr) (v2:Int) (v3:ByteArray) {K:KH} {σ:H}:g31 v1 v2 v3 K σ->callW Tryz.prog 31 [.pointer v1,.int .i64 v2,.string v3] K σ:=call_k an31 Tryz.func31 (by kernel_rfl)


def an32:Ann:=(.q (.q .z))
def g32 (v1:Option Addr) (K:KH):H->Prop :=
 brW v1.isNone (K (.bool true)) (ptrW v1 (fun b2 o3=>rdT (rdC b2 o3) kP (fun x4=>K (.bool x4.isNone))))
theorem c32 (v1:Option Addr) {K:KH} {σ:H}:g32 v1 K σ->callW Tryz.prog 32 [.pointer v1] K σ:=call_k an32 Tryz.func32 (by kernel_rfl)


def an33:Ann:=(.q (.q .z))
def g33 (v1:ByteArray) (v2:Int) (K:KH):H->Prop :=
 callT Tryz.prog 88 [.string v1,.int .u8 v2] kI (fun(x3:Int)=>K (.int .i64 x3))
theorem c33 (v1:ByteArray) (v2:Int) {K:KH} {σ:H}:g33 v1 v2 K σ->callW Tryz.prog 33 [.string v1,.int .u8 v2] K σ:=call_k an33 Tryz.func33 (by kernel_rfl)


def an34:Ann:=(.q (.n (.reg (rn 15) [[],[0],[0,1],[0,1,2],[],[4],[],[6],[],(rn 9),(rn 10),(rn 11),(rn 11),(rn 12),(rn 14)]) (.q .z)))
def g34 (v1:Int) (v2:ByteArray) (v3:Int) (v4:Bool) (x5:Option Addr) (x6:Option Addr) (K:KH):H->Prop :=
 alW (.cells ⟨[.int .i64 v1,.string v2,.int .i64 v3,.bool v4]⟩ 65 (0,0)) (fun b7=>ptrW x5 (fun b8 o9=>rdT (rdC b8 o9) kP (fun x10=>ptrW x10 (fun b11 o12=>rdT (rdC b11 o12) kP (fun x13=>rdT (rdC b7 0) kI (fun(x14:Int)=>rdT (rdC b7 1) kS (fun(x15:ByteArray)=>ptrW x6 (fun b16 o17=>rdT (rdC b16 o17) kS (fun(x18:ByteArray) =>
 callT Tryz.prog 28 [.pointer x13,.int .i64 x14,.string x15,.int .i64 3,.int .i64 511,.string x18] (.tup [.sc (.int .i64),.sc (.int .i64)]) (fun(_x19:Int) (x20:Int)=>K (.int .i64 x20)))))))))))
theorem c34 (v1:Int) (v2:ByteArray) (v3:Int) (v4:Bool) (x5:Option Addr) (x6:Option Addr) {K:KH} {σ:H}:g34 v1 v2 v3 v4 x5 x6 K σ->callW Tryz.prog 34 [.agg ⟨[.int .i64 v1,.string v2,.int .i64 v3,.bool v4]⟩,.pointer x5,.pointer x6] K σ:=call_k an34 Tryz.func34 (by kernel_rfl)


def an35:Ann:=(.q (.q (.q .z)))
def g35 (v1:Option Addr) (v2:ByteArray) (v3:ByteArray) (v4:Bool) (K:KH):H->Prop :=
 alW (.cells ⟨[.int .i64 0,.int .i64 0,.string ⟨⟨[]⟩⟩,.int .i64 0]⟩ 73 (0,0)) (fun b5=>callT Tryz.prog 68 [.pointer v1,.string v2,.string v3,.bool v4,.func (.func 89) ⟨[]⟩ ⟨[.pointer (some ⟨b5,0,none⟩)]⟩] kI (fun(x6:Int)=>rdT (rdA 4 b5 0) (.one (.agg [(.int .i64),(.int .i64),.str,(.int .i64)])) (fun(x7:Int) (x8:Int) (x9:ByteArray) (x10:Int) =>
 stW Tryz.prog 73 (.pointer (some ⟨b5,0,none⟩)) (.agg ⟨[.int .i64 x7,.int .i64 x8,.string x9,.int .i64 x10]⟩) (rdT (rdA 4 b5 0) (.one (.agg [(.int .i64),(.int .i64),.str,(.int .i64)])) (fun(r11:Int) (r12:Int) (r13:ByteArray) (r14:Int)=>K (.tuple ⟨[.agg ⟨[.int .i64 r11,.int .i64 r12,.string r13,.int .i64 r14]⟩,.int .i64 x6]⟩))))))
theorem c35 (v1:Option Addr) (v2:ByteArray) (v3:ByteArray) (v4:Bool) {K:KH} {σ:H}:g35 v1 v2 v3 v4 K σ->callW Tryz.prog 35 [.pointer v1,.string v2,.string v3,.bool v4] K σ:=call_k an35 Tryz.func35 (by kernel_rfl)


def an36:Ann:=(.q (.n (.seq (some [(1,.p),(20,.b)]) .r (.h)) (.q .z)))
def g36 (v1:Int) (v2:Int) (K:KH):H->Prop :=
 alW (.cells ⟨[.int .i64 v1,.int .i64 v2]⟩ 25 (0,0)) (fun b3=>letJ (T:=Option Addr->Bool->H->Prop) (fun v5 x6=>brW x6 (K (.pointer none)) (ptrW v5 (fun b7 o8=>rdT (rdA 2 b7 o8) (.one (.agg [(.int .i64),(.int .i64)])) (fun(x9:Int) (x10:Int)=>alW (.cells ⟨[.int .i64 2,.int .i64 493,.string ⟨⟨[]⟩⟩,.slice none 0 0,.int .i64 0]⟩ 107 (0,0)) (fun b11=>alW (.cells ⟨[.pointer (some ⟨b11,0,none⟩)]⟩ 104 (0,0)) (fun b12 =>
 alW (.cells ⟨[.int .i64 x9,.int .i64 x10,.slice (some ⟨b12,0,none⟩) 1 1]⟩ 103 (0,0)) (fun b13=>K (.pointer (some ⟨b13,0,none⟩))))))))) (fun j4=>rdT (rdC b3 0) kI (fun(x14:Int)=>brW (decide ((x14:Int)<1)) (j4 (some ⟨b3,0,none⟩) true) (rdT (rdC b3 0) kI (fun(x15:Int)=>brW (decide ((x15:Int)>1048576)) (j4 (some ⟨b3,0,none⟩) true) (rdT (rdC b3 1) kI (fun(x16:Int)=>brW (decide ((x16:Int)<0)) (j4 (some ⟨b3,0,none⟩) true)
 (rdT (rdC b3 1) kI (fun(x17:Int)=>j4 (some ⟨b3,0,none⟩) (decide ((x17:Int)>1073741824)))))))))))
theorem c36 (v1:Int) (v2:Int) {K:KH} {σ:H}:g36 v1 v2 K σ->callW Tryz.prog 36 [.agg ⟨[.int .i64 v1,.int .i64 v2]⟩] K σ:=call_k an36 Tryz.func36 (by kernel_rfl)


def an37:Ann:=(.q (.q (.n (.q (.h)) (.n (.q (.h)) (.n (.q (.h)) (.q .z))))))
def g37 (v1:Option Addr) (v2:ByteArray) (v3:ByteArray) (K:KH):H->Prop :=
 callT Tryz.prog 90 [.pointer v1,.string v2,.string v3,.bool false] (.tup [.agg [(.int .i64),.str,(.int .i64)],.sc (.int .i64)]) (fun(x4:Int) (x5:ByteArray) (x6:Int) (x7:Int)=>alW (.cells ⟨[.int .i64 0,.string ⟨⟨[]⟩⟩,.int .i64 0]⟩ 133 (0,0)) (fun b8=>stW Tryz.prog 133 (.pointer (some ⟨b8,0,none⟩)) (.agg ⟨[.int .i64 x4,.string x5,.int .i64 x6]⟩) (brW ((x7:Int) != 0) (K (.int .i64 x7)) (rdT (rdC b8 2) kI (fun(x9:Int) =>
 brW (decide ((x9:Int)>=0)) (K (.int .i64 6)) (rdT (rdC b8 0) kI (fun(x10:Int)=>callT Tryz.prog 91 [.pointer v1,.int .i64 x10] kI (fun(x11:Int)=>brW (decide ((x11:Int)>=12)) (K (.int .i64 3)) (rdT (rdA 3 b8 0) (.one (.agg [(.int .i64),.str,(.int .i64)])) (fun(x12:Int) (x13:ByteArray) (x14:Int)=>callT Tryz.prog 92 [.pointer v1,.agg ⟨[.int .i64 x12,.string x13,.int .i64 x14]⟩,.int .i64 2,.int .i64 493,.string ⟨⟨[]⟩⟩] kI (fun(x15:Int) =>
 K (.int .i64 x15))))))))))))
theorem c37 (v1:Option Addr) (v2:ByteArray) (v3:ByteArray) {K:KH} {σ:H}:g37 v1 v2 v3 K σ->callW Tryz.prog 37 [.pointer v1,.string v2,.string v3] K σ:=call_k an37 Tryz.func37 (by kernel_rfl)


def an38:Ann:=(.q (.q (.n (.q (.h)) (.n (.q (.h)) (.n (.reg (rn 9) [[],[0],[0,1],[0,1,2],[],[4],(rn 6),(rn 7),(rn 8)]) (.n (.q (.h)) (.seq (some [(0,.p),(3,.s),(13,.p)]) (.q (.cond .r .z)) (.n (.q (.h)) (.q (.q .z))))))))))
def g38 (v1:Option Addr) (v2:ByteArray) (v3:ByteArray) (v4:ByteArray) (v5:Bool) (K:KH):H->Prop :=
 callT Tryz.prog 90 [.pointer v1,.string v2,.string v3,.bool true] (.tup [.agg [(.int .i64),.str,(.int .i64)],.sc (.int .i64)]) (fun(x6:Int) (x7:ByteArray) (x8:Int) (x9:Int)=>alW (.cells ⟨[.int .i64 0,.string ⟨⟨[]⟩⟩,.int .i64 0]⟩ 133 (0,0)) (fun b10=>stW Tryz.prog 133 (.pointer (some ⟨b10,0,none⟩)) (.agg ⟨[.int .i64 x6,.string x7,.int .i64 x8]⟩) (brW ((x9:Int) != 0) (K (.int .i64 x9)) (rdT (rdC b10 2) kI (fun(x11:Int) =>
 brW (decide ((x11:Int)<0)) (rdT (rdA 3 b10 0) (.one (.agg [(.int .i64),.str,(.int .i64)])) (fun(x12:Int) (x13:ByteArray) (x14:Int)=>callT Tryz.prog 92 [.pointer v1,.agg ⟨[.int .i64 x12,.string x13,.int .i64 x14]⟩,.int .i64 1,.int .i64 420,.string v4] kI (fun(x15:Int)=>K (.int .i64 x15)))) (ptrW v1 (fun b16 o17=>rdT (rdC b16 (o17+2)) kL (fun x18=>rdT (rdC b10 2) kI (fun(x19:Int)=>ptrW x18.base (fun b20 o21 =>
 ifW (0<=x19/\x19<((x18.len:Nat):Int)) (rdT (rdC b20 (o21+x19.toNat * 1)) kP (fun x22=>ptrW x22 (fun b23 o24=>rdT (rdC b23 o24) kI (fun(x25:Int)=>brW ((x25:Int)==2) (K (.int .i64 7)) (letJ (T:=Option Addr->ByteArray->Option Addr->H->Prop) (fun v27 v28 v29=>ptrW v29 (fun b30 o31=>rdT (rdC b30 (o31+2)) kS (fun(x32:ByteArray) =>
 callT Tryz.prog 93 [.pointer v27,.int .i64 0,.int .i64 (IntKind.i64.wrap (((v28.size:Nat):Int) - ((x32.size:Nat):Int)))] kB (fun x33=>brW (!x33) (K (.int .i64 10)) (ptrW v29 (fun b34 o35=>stW Tryz.prog 9 (.pointer (some ⟨b34,o35+2,none⟩)) (.string v28) (K (.int .i64 0)))))))) (fun j26=>brW v5 (ptrW x22 (fun b36 o37=>rdT (rdC b36 (o37+2)) kS (fun(x38:ByteArray)=>ifW (x38.size+v4.size<=9223372036854775807) (j26 v1 (x38++v4) x22))))
 (j26 v1 v4 x22)))))))))))))))))
theorem c38 (v1:Option Addr) (v2:ByteArray) (v3:ByteArray) (v4:ByteArray) (v5:Bool) {K:KH} {σ:H}:g38 v1 v2 v3 v4 v5 K σ->callW Tryz.prog 38 [.pointer v1,.string v2,.string v3,.string v4,.bool v5] K σ:=call_k an38 Tryz.func38 (by kernel_rfl)


def an39:Ann:=(.q (.n (.q (.h)) (.n (.seq (some [(1,.s),(2,.s),(4,.p),(7,.p),(16,.b)]) .r (.h)) (.q .z))))
def g39 (v1:Option Addr) (v2:ByteArray) (v3:ByteArray) (v4:Int) (K:KH):H->Prop :=
 alW (.cells ⟨[.pointer v1]⟩ 22 (0,0)) (fun b5=>alW (.cells ⟨[.int .i64 v4]⟩ 3 (0,0)) (fun b6=>rdT (rdC b5 0) kP (fun x7=>callT Tryz.prog 32 [.pointer x7] kB (fun x8=>brW x8 (K (.int .i64 1)) (letJ (T:=ByteArray->ByteArray->Option Addr->Option Addr->Bool->H->Prop) (fun v10 v11 v12 v13 x14=>brW x14 (K (.int .i64 2)) (ptrW v12 (fun b15 o16=>rdT (rdC b15 o16) kP (fun x17 =>
 callT Tryz.prog 68 [.pointer x17,.string v10,.string v11,.bool true,.func (.func 94) ⟨[]⟩ ⟨[.pointer v12,.pointer v13]⟩] kI (fun(x18:Int)=>K (.int .i64 x18)))))) (fun j9=>rdT (rdC b6 0) kI (fun(x19:Int)=>brW (decide ((x19:Int)<0)) (j9 v2 v3 (some ⟨b5,0,none⟩) (some ⟨b6,0,none⟩) true) (rdT (rdC b6 0) kI (fun(x20:Int)=>j9 v2 v3 (some ⟨b5,0,none⟩) (some ⟨b6,0,none⟩) (decide ((x20:Int)>511)))))))))))
theorem c39 (v1:Option Addr) (v2:ByteArray) (v3:ByteArray) (v4:Int) {K:KH} {σ:H}:g39 v1 v2 v3 v4 K σ->callW Tryz.prog 39 [.pointer v1,.string v2,.string v3,.int .i64 v4] K σ:=call_k an39 Tryz.func39 (by kernel_rfl)


def an40:Ann:=(.q (.n (.seq (some [(0,.p),(1,.s),(2,.s),(3,.i),(16,.b)]) .r (.h)) (.q (.seq (some [(10,.i)]) (.q (.cond .r .z)) (.q .z)))))
def g40 (v1:Option Addr) (v2:ByteArray) (v3:ByteArray) (v4:Int) (K:KH):H->Prop :=
 letJ (T:=Option Addr->ByteArray->ByteArray->Int->Bool->H->Prop) (fun v6 v7 v8 v9 x10=>brW x10 (K (.int .i64 2)) (callT Tryz.prog 96 [.pointer v6,.string v7,.string v8,.bool true] (.tup [.sc (.int .i64),.sc (.int .i64)]) (fun(x11:Int) (x12:Int)=>letJ (T:=Int->H->Prop) (fun v14=>K (.int .i64 v14)) (fun j13=>brW ((x12:Int)==0) (ptrW v6 (fun b15 o16=>rdT (rdC b15 (o16+2)) kL (fun x17=>ptrW x17.base (fun b18 o19 =>
 ifW (0<=x11/\x11<((x17.len:Nat):Int)) (rdT (rdC b18 (o19+x11.toNat * 1)) kP (fun x20=>ptrW x20 (fun b21 o22=>stW Tryz.prog 3 (.pointer (some ⟨b21,o22+1,none⟩)) (.int .i64 v9) (j13 x12)))))))) (j13 x12))))) (fun j5=>brW (decide ((v4:Int)<0)) (j5 v1 v2 v3 v4 true) (j5 v1 v2 v3 v4 (decide ((v4:Int)>511))))
theorem c40 (v1:Option Addr) (v2:ByteArray) (v3:ByteArray) (v4:Int) {K:KH} {σ:H}:g40 v1 v2 v3 v4 K σ->callW Tryz.prog 40 [.pointer v1,.string v2,.string v3,.int .i64 v4] K σ:=call_k an40 Tryz.func40 (by kernel_rfl)


def an41:Ann:=(.q (.n (.q (.blk (.loop [(0,.p),(1,.s),(2,.s),(3,.s),(9,.i)] (.n (.q (.cond .z .z)) (.n (.blk (.q (.h))) .r))))) (.n (.seq (some [(0,.p),(1,.s),(2,.s),(3,.s),(29,.b)]) .r (.h)) (.q (.n (.q (.h)) (.n (.q (.h)) (.q .z)))))))
def g41 (v1:Option Addr) (v2:ByteArray) (v3:ByteArray) (v4:ByteArray) (K:KH):H->Prop :=
 loopW [.sc .ptr,.sc .str,.sc .str,.sc .str,.sc (.int .i64)] (fun(R5:Option Addr->ByteArray->ByteArray->ByteArray->Int->H->Prop)=>(fun(v6:Option Addr) (v7:ByteArray) (v8:ByteArray) (v9:ByteArray) (v10:Int)=>brW (decide ((v10:Int)<((v8.size:Nat):Int))) (idxW v8 v10 (fun c11=>brW ((c11.toNat:Int)==0) (K (.int .i64 2)) (R5 v6 v7 v8 v9 (IntKind.i64.wrap (v10+1)))))
 (letJ (T:=Option Addr->ByteArray->ByteArray->ByteArray->Bool->H->Prop) (fun v13 v14 v15 v16 x17=>brW x17 (K (.int .i64 2)) (callT Tryz.prog 90 [.pointer v13,.string v14,.string v16,.bool false] (.tup [.agg [(.int .i64),.str,(.int .i64)],.sc (.int .i64)]) (fun(x18:Int) (x19:ByteArray) (x20:Int) (x21:Int)=>alW (.cells ⟨[.int .i64 0,.string ⟨⟨[]⟩⟩,.int .i64 0]⟩ 133 (0,0)) (fun b22 =>
 stW Tryz.prog 133 (.pointer (some ⟨b22,0,none⟩)) (.agg ⟨[.int .i64 x18,.string x19,.int .i64 x20]⟩) (brW ((x21:Int) != 0) (K (.int .i64 x21)) (rdT (rdC b22 2) kI (fun(x23:Int)=>brW (decide ((x23:Int)>=0)) (K (.int .i64 6)) (rdT (rdA 3 b22 0) (.one (.agg [(.int .i64),.str,(.int .i64)])) (fun(x24:Int) (x25:ByteArray) (x26:Int) =>
 callT Tryz.prog 92 [.pointer v13,.agg ⟨[.int .i64 x24,.string x25,.int .i64 x26]⟩,.int .i64 3,.int .i64 511,.string v15] kI (fun(x27:Int)=>K (.int .i64 x27))))))))))) (fun j12=>brW (decide (((v8.size:Nat):Int)<1)) (j12 v6 v7 v8 v9 true) (j12 v6 v7 v8 v9 (decide (((v8.size:Nat):Int)>255))))))) (fun(R28:Option Addr->ByteArray->ByteArray->ByteArray->Int->H->Prop)=>R28 v1 v2 v3 v4 0)
theorem c41 (v1:Option Addr) (v2:ByteArray) (v3:ByteArray) (v4:ByteArray) {K:KH} {σ:H}:g41 v1 v2 v3 v4 K σ->callW Tryz.prog 41 [.pointer v1,.string v2,.string v3,.string v4] K σ:=call_k an41 Tryz.func41 (by kernel_rfl)


def an42:Ann:=(.q .r)
def g42 (v1:Option Addr) (K:KH):H->Prop :=
 alW (.cells ⟨[.pointer v1]⟩ 82 (0,0)) (fun b2=>rdT (rdC b2 0) kP (fun x3=>callT Tryz.prog 97 [.pointer x3,.func (.func 98) ⟨[]⟩ ⟨[.pointer (some ⟨b2,0,none⟩)]⟩] kU (K (.tuple ⟨[]⟩))))
theorem c42 (v1:Option Addr) {K:KH} {σ:H}:g42 v1 K σ->callW Tryz.prog 42 [.pointer v1] K σ:=call_k an42 Tryz.func42 (by kernel_rfl)


def an43:Ann:=(.q .r)
def g43 (v1:Option Addr) (K:KH):H->Prop :=
 alW (.cells ⟨[.pointer v1]⟩ 82 (0,0)) (fun b2=>rdT (rdC b2 0) kP (fun x3=>callT Tryz.prog 97 [.pointer x3,.func (.func 102) ⟨[]⟩ ⟨[.pointer (some ⟨b2,0,none⟩)]⟩] kU (K (.tuple ⟨[]⟩))))
theorem c43 (v1:Option Addr) {K:KH} {σ:H}:g43 v1 K σ->callW Tryz.prog 43 [.pointer v1] K σ:=call_k an43 Tryz.func43 (by kernel_rfl)


def an44:Ann:=(.q .r)
def g44 (v1:Option Addr) (K:KH):H->Prop :=
 alW (.cells ⟨[.pointer v1]⟩ 82 (0,0)) (fun b2=>rdT (rdC b2 0) kP (fun x3=>callT Tryz.prog 97 [.pointer x3,.func (.func 105) ⟨[]⟩ ⟨[.pointer (some ⟨b2,0,none⟩)]⟩] kU (K (.tuple ⟨[]⟩))))
theorem c44 (v1:Option Addr) {K:KH} {σ:H}:g44 v1 K σ->callW Tryz.prog 44 [.pointer v1] K σ:=call_k an44 Tryz.func44 (by kernel_rfl)


def an45:Ann:=(.q (.q (.n (.reg (rn 9) [[],[],[1],[1,2],[1,2,3],[1,2,3,4],(rn 6),(rn 7),(rn 8)]) .r)))
def g45 (v1:Option Addr) (K:KH):H->Prop :=
 alW (.cells ⟨[.pointer v1]⟩ 82 (0,0)) (fun b2=>rdT (rdC b2 0) kP (fun x3=>ptrW x3 (fun b4 o5=>rdT (rdC b4 (o5+9)) kL (fun x6=>ptrW x6.base (fun b7 o8=>ifW (0<=(0:Int)/\(0:Int)<((x6.len:Nat):Int)) (rdT (rdC b7 (o8+(0:Int).toNat * 1)) kS (fun(x9:ByteArray)=>alW (.cells ⟨[.string ⟨⟨[]⟩⟩]⟩ 9 (0,0)) (fun b10=>stW Tryz.prog 9 (.pointer (some ⟨b10,0,none⟩)) (.string x9) (rdT (rdC b2 0) kP (fun x11=>rdT (rdC b2 0) kP (fun x12 =>
 ptrW x12 (fun b13 o14=>rdT (rdC b13 (o14+9)) kL (fun x15=>ifW (bndOk none x15.cap/\bndOk (some 1) x15.len) (ptrW x11 (fun b16 o17=>stW Tryz.prog 30 (.pointer (some ⟨b16,o17+9,none⟩)) (.slice (slBase x15.base ((1:Int).toNat) x15.cap 1) (x15.len - ((1:Int).toNat)) (x15.cap - ((1:Int).toNat))) (rdT (rdC b2 0) kP (fun x18 =>
 callT Tryz.prog 97 [.pointer x18,.func (.func 106) ⟨[]⟩ ⟨[.pointer (some ⟨b10,0,none⟩),.pointer (some ⟨b2,0,none⟩)]⟩] kU (K (.tuple ⟨[]⟩)))))))))))))))))))
theorem c45 (v1:Option Addr) {K:KH} {σ:H}:g45 v1 K σ->callW Tryz.prog 45 [.pointer v1] K σ:=call_k an45 Tryz.func45 (by kernel_rfl)


def an46:Ann:=(.q (.q (.n (.reg (rn 9) [[],[],[1],[1,2],[1,2,3],[1,2,3,4],(rn 6),(rn 7),(rn 8)]) .r)))
def g46 (v1:Option Addr) (K:KH):H->Prop :=
 alW (.cells ⟨[.pointer v1]⟩ 82 (0,0)) (fun b2=>rdT (rdC b2 0) kP (fun x3=>ptrW x3 (fun b4 o5=>rdT (rdC b4 (o5+9)) kL (fun x6=>ptrW x6.base (fun b7 o8=>ifW (0<=(0:Int)/\(0:Int)<((x6.len:Nat):Int)) (rdT (rdC b7 (o8+(0:Int).toNat * 1)) kS (fun(x9:ByteArray)=>alW (.cells ⟨[.string ⟨⟨[]⟩⟩]⟩ 9 (0,0)) (fun b10=>stW Tryz.prog 9 (.pointer (some ⟨b10,0,none⟩)) (.string x9) (rdT (rdC b2 0) kP (fun x11=>rdT (rdC b2 0) kP (fun x12 =>
 ptrW x12 (fun b13 o14=>rdT (rdC b13 (o14+9)) kL (fun x15=>ifW (bndOk none x15.cap/\bndOk (some 1) x15.len) (ptrW x11 (fun b16 o17=>stW Tryz.prog 30 (.pointer (some ⟨b16,o17+9,none⟩)) (.slice (slBase x15.base ((1:Int).toNat) x15.cap 1) (x15.len - ((1:Int).toNat)) (x15.cap - ((1:Int).toNat))) (rdT (rdC b2 0) kP (fun x18 =>
 callT Tryz.prog 97 [.pointer x18,.func (.func 108) ⟨[]⟩ ⟨[.pointer (some ⟨b2,0,none⟩),.pointer (some ⟨b10,0,none⟩)]⟩] kU (K (.tuple ⟨[]⟩)))))))))))))))))))
theorem c46 (v1:Option Addr) {K:KH} {σ:H}:g46 v1 K σ->callW Tryz.prog 46 [.pointer v1] K σ:=call_k an46 Tryz.func46 (by kernel_rfl)


def an47:Ann := .r
def g47 (v1:Option Addr) (K:KH):H->Prop :=
 callT Tryz.prog 97 [.pointer v1,.func (.func 110) ⟨[.pointer v1]⟩ ⟨[]⟩] kU (K (.tuple ⟨[]⟩))
theorem c47 (v1:Option Addr) {K:KH} {σ:H}:g47 v1 K σ->callW Tryz.prog 47 [.pointer v1] K σ:=call_k an47 Tryz.func47 (by kernel_rfl)


def an48:Ann:=(.q .r)
def g48 (v1:Option Addr) (K:KH):H->Prop :=
 alW (.cells ⟨[.pointer v1]⟩ 82 (0,0)) (fun b2=>rdT (rdC b2 0) kP (fun x3=>callT Tryz.prog 111 [.pointer x3,.func (.func 112) ⟨[]⟩ ⟨[.pointer (some ⟨b2,0,none⟩)]⟩] kU (K (.tuple ⟨[]⟩))))
theorem c48 (v1:Option Addr) {K:KH} {σ:H}:g48 v1 K σ->callW Tryz.prog 48 [.pointer v1] K σ:=call_k an48 Tryz.func48 (by kernel_rfl)


def an49:Ann := .r
def g49 (v1:Option Addr) (K:KH):H->Prop :=
 callT Tryz.prog 111 [.pointer v1,.func (.func 114) ⟨[.pointer v1]⟩ ⟨[]⟩] kU (K (.tuple ⟨[]⟩))
theorem c49 (v1:Option Addr) {K:KH} {σ:H}:g49 v1 K σ->callW Tryz.prog 49 [.pointer v1] K σ:=call_k an49 Tryz.func49 (by kernel_rfl)

end Go.Proofs.YtbdlkofldmhoaaaGreatDoor

set_option maxRecDepth 100000
namespace Go.Proofs.YtbdlkofldmhoaaaGreatDoor
open Go Go.HL
def an50:Ann:=(.q (.seq (some [(1,.p)]) (.q (.cond .r .z)) (.q (.q (.q (.n (.q (.blk (.loop [(1,.p),(3,.p),(23,.l),(24,.i),(25,.i)] (.q (.n (.cond .z .z) (.n (.blk (.q .r)) .r)))))) (.q (.blk (.loop [(1,.p),(41,.l),(42,.i),(43,.i)] (.q (.n (.cond .z .z) (.n (.blk (.q (.reg (rn 9) [[],[],[],[2],[2,3],[2,3,4],[2,3,4,5],[2,3,4,5,6],(rn 8)]))) .r))))))))))))
def g50 (v1:Option Addr) (K:KH):H->Prop :=
 alW (.cells ⟨[.pointer v1]⟩ 82 (0,0)) (fun b2=>letJ (T:=Option Addr->H->Prop) (fun v4=>alW (.cells ⟨[.slice none 0 0]⟩ 30 (0,0)) (fun b5=>alW (.cells ⟨[.slice none 0 0]⟩ 30 (0,0)) (fun b6=>ptrW v4 (fun b7 o8=>rdT (rdC b7 o8) kP (fun x9=>callT Tryz.prog 97 [.pointer x9,.func (.func 115) ⟨[]⟩ ⟨[.pointer v4,.pointer (some ⟨b6,0,none⟩),.pointer (some ⟨b5,0,none⟩)]⟩] kU (rdT (rdC b5 0) kL (fun x10 =>
 callT Tryz.prog 117 [.slice x10.base x10.len x10.cap] kU (rdT (rdC b5 0) kL (fun x11=>loopW [.sc .ptr,.sc .ptr,.sc .slc,.sc (.int .i64),.sc (.int .i64)] (fun(R12:Option Addr->Option Addr->Sl->Int->Int->H->Prop)=>(fun(v13:Option Addr) (v14:Option Addr) (x15:Sl) (x16:Int) (x17:Int)=>brW (decide ((x17:Int)<x16)) (ptrW x15.base (fun b18 o19=>ifW (0<=x17/\x17<((x15.len:Nat):Int)) (rdT (rdC b18 (o19+x17.toNat * 1)) kS (fun(x20:ByteArray) =>
 ptrW v13 (fun b21 o22=>rdT (rdC b21 o22) kP (fun x23=>ptrW x23 (fun b24 o25=>rdT (rdC b24 (o25+5)) kS (fun(x26:ByteArray)=>ifW (x20.size+(⟨⟨[10]⟩⟩:ByteArray).size<=9223372036854775807) (ifW (x26.size+(x20++⟨⟨[10]⟩⟩).size<=9223372036854775807) (ptrW x23 (fun b27 o28=>stW Tryz.prog 9 (.pointer (some ⟨b27,o28+5,none⟩)) (.string (x26++(x20++⟨⟨[10]⟩⟩))) (R12 v13 v14 x15 x16 (IntKind.i64.wrap (x17+1))))))))))))))
 (ptrW v14 (fun b29 o30=>rdT (rdC b29 o30) kL (fun x31=>loopW [.sc .ptr,.sc .slc,.sc (.int .i64),.sc (.int .i64)] (fun(R32:Option Addr->Sl->Int->Int->H->Prop)=>(fun(v33:Option Addr) (x34:Sl) (x35:Int) (x36:Int)=>brW (decide ((x36:Int)<x35)) (ptrW x34.base (fun b37 o38=>ifW (0<=x36/\x36<((x34.len:Nat):Int)) (rdT (rdC b37 (o38+x36.toNat * 1)) kS (fun(x39:ByteArray)=>ptrW v33 (fun b40 o41=>rdT (rdC b40 o41) kP (fun x42 =>
 ptrW v33 (fun b43 o44=>rdT (rdC b43 o44) kP (fun x45=>ptrW x45 (fun b46 o47=>rdT (rdC b46 (o47+9)) kL (fun x48=>callT Tryz.prog 118 [.pointer x42,.string x39,.bool (decide (((x48.len:Nat):Int)>1))] kU (R32 v33 x34 x35 (IntKind.i64.wrap (x36+1)))))))))))))
 (K (.tuple ⟨[]⟩)))) (fun(R49:Option Addr->Sl->Int->Int->H->Prop)=>R49 v13 x31 ((x31.len:Nat):Int) 0)))))) (fun(R50:Option Addr->Option Addr->Sl->Int->Int->H->Prop)=>R50 v4 (some ⟨b6,0,none⟩) x11 ((x11.len:Nat):Int) 0)))))))))) (fun j3=>rdT (rdC b2 0) kP (fun x51=>ptrW x51 (fun b52 o53=>rdT (rdC b52 (o53+9)) kL (fun x54=>brW (((x54.len:Nat):Int)==0) (rdT (rdC b2 0) kP (fun x55 =>
 alW (.cells ⟨[.string ⟨⟨[46]⟩⟩]⟩ 9 (0,0)) (fun b56=>ptrW x55 (fun b57 o58=>stW Tryz.prog 30 (.pointer (some ⟨b57,o58+9,none⟩)) (.slice (some ⟨b56,0,none⟩) 1 1) (j3 (some ⟨b2,0,none⟩)))))) (j3 (some ⟨b2,0,none⟩)))))))
theorem c50 (v1:Option Addr) {K:KH} {σ:H}:g50 v1 K σ->callW Tryz.prog 50 [.pointer v1] K σ:=call_k an50 Tryz.func50 (by kernel_rfl)


def an51:Ann:=(.q (.n (.q (.blk (.loop [(0,.p),(1,.s),(11,.l),(12,.i),(13,.i)] (.q (.n (.cond .z .z) (.n (.blk (.q (.n (.q (.cond (.q (.q .z)) .z)) (.n (.seq (some [(0,.p),(1,.s),(5,.i),(6,.s),(11,.l),(12,.i),(13,.i),(38,.b)]) .r (.cond (.q (.q .z)) .z)) (.n (.q (.h)) (.reg (rn 10) [[],[0],[0,1],[0,1,2],[],[4],(rn 6),(rn 7),(rn 8),(rn 9)])))))) .r)))))) (.q .z)))
def g51 (v1:Option Addr) (v2:ByteArray) (K:KH):H->Prop :=
 ptrW v1 (fun b3 o4=>rdT (rdC b3 (o4+1)) kL (fun x5=>loopW [.sc .ptr,.sc .str,.sc .slc,.sc (.int .i64),.sc (.int .i64)] (fun(R6:Option Addr->ByteArray->Sl->Int->Int->H->Prop)=>(fun(v7:Option Addr) (v8:ByteArray) (x9:Sl) (x10:Int) (x11:Int)=>brW (decide ((x11:Int)<x10)) (ptrW x9.base (fun b12 o13=>ifW (0<=x11/\x11<((x9.len:Nat):Int)) (rdT (rdC b12 (o13+x11.toNat * 1)) kS (fun(x14:ByteArray) =>
 brW (strEq x14 (⟨⟨[45,45]⟩⟩:ByteArray)) (ptrW v7 (fun b15 o16=>rdT (rdC b15 (o16+1)) kL (fun x17=>ifW (bndOk none x17.cap/\bndOk (some (IntKind.i64.wrap (x11+1))) x17.len) (ptrW v7 (fun b18 o19=>stW Tryz.prog 30 (.pointer (some ⟨b18,o19+9,none⟩)) (.slice (slBase x17.base ((IntKind.i64.wrap (x11+1)).toNat) x17.cap 1) (x17.len - ((IntKind.i64.wrap (x11+1)).toNat)) (x17.cap - ((IntKind.i64.wrap (x11+1)).toNat))) (K (.bool true)))))))
 (letJ (T:=Option Addr->ByteArray->Int->ByteArray->Sl->Int->Int->Bool->H->Prop) (fun v21 v22 v23 v24 x25 x26 x27 x28=>brW x28 (ptrW v21 (fun b29 o30=>rdT (rdC b29 (o30+1)) kL (fun x31=>ifW (bndOk none x31.cap/\bndOk (some v23) x31.len) (ptrW v21 (fun b32 o33=>stW Tryz.prog 30 (.pointer (some ⟨b32,o33+9,none⟩)) (.slice (slBase x31.base v23.toNat x31.cap 1) (x31.len - v23.toNat) (x31.cap - v23.toNat)) (K (.bool true)))))))
 (ifW (bndOk none v24.size/\bndOk (some 1) (v24.size)) (callT Tryz.prog 119 [.string (v24.extract ((1:Int).toNat) v24.size),.string v22] kS (fun(x34:ByteArray)=>brW (!strEq x34 (⟨⟨[]⟩⟩:ByteArray)) (K (.bool false)) (ptrW v21 (fun b35 o36=>rdT (rdC b35 (o36+8)) kS (fun(x37:ByteArray)=>ifW (bndOk none v24.size/\bndOk (some 1) (v24.size)) (ifW (x37.size+(v24.extract ((1:Int).toNat) v24.size).size<=9223372036854775807) (ptrW v21 (fun b38 o39 =>
 stW Tryz.prog 9 (.pointer (some ⟨b38,o39+8,none⟩)) (.string (x37++(v24.extract ((1:Int).toNat) v24.size))) (R6 v21 v22 x25 x26 (IntKind.i64.wrap (x27+1))))))))))))) (fun j20=>brW (decide (((x14.size:Nat):Int)<2)) (j20 v7 v8 x11 x14 x9 x10 x11 true) (idxW x14 0 (fun c40=>j20 v7 v8 x11 x14 x9 x10 x11 ((c40.toNat:Int) != 45)))))))))
 (K (.bool true)))) (fun(R41:Option Addr->ByteArray->Sl->Int->Int->H->Prop)=>R41 v1 v2 x5 ((x5.len:Nat):Int) 0)))
theorem c51 (v1:Option Addr) (v2:ByteArray) {K:KH} {σ:H}:g51 v1 v2 K σ->callW Tryz.prog 51 [.pointer v1,.string v2] K σ:=call_k an51 Tryz.func51 (by kernel_rfl)


def an52:Ann:=(.q (.q (.n (.q (.blk (.q (.cond (.q .z) (.seq (some [(0,.p),(3,.i),(15,.s),(20,.b)]) (.q (.cond .z .r)) (.cond (.q .z) (.q (.cond (.n (.q (.h)) (.q (.q .z))) (.q (.cond (.q .z) (.q (.h)))))))))))) (.q .z))))
def g52 (v1:Option Addr) (K:KH):H->Prop :=
 ptrW v1 (fun b2 o3=>rdT (rdC b2 (o3+9)) kL (fun x4=>ptrW v1 (fun b5 o6=>rdT (rdC b5 o6) kS (fun(x7:ByteArray)=>brW (strEq x7 (⟨⟨[108,110]⟩⟩:ByteArray)) (K (.bool (((x4.len:Nat):Int)==2))) (letJ (T:=Option Addr->Int->ByteArray->Bool->H->Prop) (fun v9 v10 x11 x12=>brW x12 (K (.bool (decide ((v10:Int)>=2)))) (brW (strEq x11 (⟨⟨[99,104,109,111,100]⟩⟩:ByteArray)) (brW (decide ((v10:Int)<2)) (K (.bool false)) (ptrW v9 (fun b13 o14 =>
 rdT (rdC b13 (o14+9)) kL (fun x15=>ptrW x15.base (fun b16 o17=>ifW (0<=(0:Int)/\(0:Int)<((x15.len:Nat):Int)) (rdT (rdC b16 (o17+(0:Int).toNat * 1)) kS (fun(x18:ByteArray)=>callT Tryz.prog 107 [.string x18] (.tup [.sc (.int .i64),.sc .bool]) (fun(_x19:Int) (x20:Bool)=>brW x20 (K (.bool true)) (ptrW v9 (fun b21 o22=>rdT (rdC b21 (o22+9)) kL (fun x23=>ptrW x23.base (fun b24 o25=>ifW (0<=(0:Int)/\(0:Int)<((x23.len:Nat):Int))
 (rdT (rdC b24 (o25+(0:Int).toNat * 1)) kS (fun(x26:ByteArray)=>brW (strEq x26 (⟨⟨[43,120]⟩⟩:ByteArray)) (K (.bool true)) (ptrW v9 (fun b27 o28=>rdT (rdC b27 (o28+9)) kL (fun x29=>ptrW x29.base (fun b30 o31=>ifW (0<=(0:Int)/\(0:Int)<((x29.len:Nat):Int)) (rdT (rdC b30 (o31+(0:Int).toNat * 1)) kS (fun(x32:ByteArray)=>K (.bool (strEq x32 (⟨⟨[45,120]⟩⟩:ByteArray))))))))))))))))))))))) (brW (strEq x11 (⟨⟨[114,109]⟩⟩:ByteArray))
 (brW (decide ((v10:Int)>=1)) (K (.bool true)) (callT Tryz.prog 99 [.pointer v9,.int .u8 102] kB (fun x33=>K (.bool x33)))) (brW (strEq x11 (⟨⟨[108,115]⟩⟩:ByteArray)) (K (.bool true)) (K (.bool (decide ((v10:Int)>=1)))))))) (fun j8=>brW (strEq x7 (⟨⟨[109,118]⟩⟩:ByteArray)) (j8 v1 ((x4.len:Nat):Int) x7 (strEq x7 (⟨⟨[109,118]⟩⟩:ByteArray))) (j8 v1 ((x4.len:Nat):Int) x7 (strEq x7 (⟨⟨[99,112]⟩⟩:ByteArray)))))))))
theorem c52 (v1:Option Addr) {K:KH} {σ:H}:g52 v1 K σ->callW Tryz.prog 52 [.pointer v1] K σ:=call_k an52 Tryz.func52 (by kernel_rfl)


def an68:Ann:=(.q (.q (.n (.q (.h)) (.n (.reg (rn 13) [[],[0],[0,1],[0,1,2],[],[4],(rn 6),(rn 7),(rn 8),(rn 8),[],[0,1,2,3,4,5,6,7,8,10],(rn 12)]) (.n (.seq (some [(4,.w),(11,.p),(13,.p),(42,.b)]) .r (.h)) (.q .z))))))
def g68 (v1:Option Addr) (v2:ByteArray) (v3:ByteArray) (v4:Bool) (v5:Value) (K:KH):H->Prop :=
 callT Tryz.prog 29 [.pointer v1,.string v2,.string v3,.bool v4] (.tup [.agg [(.int .i64),.str,(.int .i64),.bool],.sc (.int .i64)]) (fun(x6:Int) (x7:ByteArray) (x8:Int) (x9:Bool) (x10:Int)=>alW (.cells ⟨[.int .i64 0,.string ⟨⟨[]⟩⟩,.int .i64 0,.bool false]⟩ 65 (0,0)) (fun b11=>stW Tryz.prog 65 (.pointer (some ⟨b11,0,none⟩)) (.agg ⟨[.int .i64 x6,.string x7,.int .i64 x8,.bool x9]⟩) (brW ((x10:Int) != 0) (K (.int .i64 x10))
 (ptrW v1 (fun b12 o13=>rdT (rdC b12 o13) kP (fun x14=>rdT (rdC b11 2) kI (fun(x15:Int)=>callT Tryz.prog 30 [.pointer x14,.int .i64 x15] (.tup [.agg [(.int .i64),(.int .i64),.str,(.int .i64)],.sc .bool]) (fun(x16:Int) (x17:Int) (x18:ByteArray) (x19:Int) (x20:Bool)=>alW (.cells ⟨[.int .i64 0,.int .i64 0,.string ⟨⟨[]⟩⟩,.int .i64 0]⟩ 73 (0,0)) (fun b21 =>
 stW Tryz.prog 73 (.pointer (some ⟨b21,0,none⟩)) (.agg ⟨[.int .i64 x16,.int .i64 x17,.string x18,.int .i64 x19]⟩) (letJ (T:=Value->Option Addr->Option Addr->Bool->H->Prop) (fun v23 v24 v25 x26=>brW x26 (K (.int .i64 5)) (ptrW v24 (fun b27 o28=>rdT (rdC b27 (o28+2)) kI (fun(x29:Int)=>ptrW v25 (fun b30 o31=>rdT (rdA 4 b30 o31) (.one (.agg [(.int .i64),(.int .i64),.str,(.int .i64)])) (fun(x32:Int) (x33:Int) (x34:ByteArray) (x35:Int) =>
 cvalT Tryz.prog v23 [.int .i64 x29,.agg ⟨[.int .i64 x32,.int .i64 x33,.string x34,.int .i64 x35]⟩] kI (fun(x36:Int)=>K (.int .i64 x36)))))))) (fun j22=>rdT (rdC b11 3) kB (fun x37=>brW (!x37) (j22 v5 (some ⟨b11,0,none⟩) (some ⟨b21,0,none⟩) true) (j22 v5 (some ⟨b11,0,none⟩) (some ⟨b21,0,none⟩) (!x20))))))))))))))
theorem c68 (v1:Option Addr) (v2:ByteArray) (v3:ByteArray) (v4:Bool) (v5:Value) {K:KH} {σ:H}:g68 v1 v2 v3 v4 v5 K σ->callW Tryz.prog 68 [.pointer v1,.string v2,.string v3,.bool v4,v5] K σ:=call_k an68 Tryz.func68 (by kernel_rfl)


def an69:Ann:=(.q (.n (.q (.h)) (.q (.q .z))))
def g69 (v1:Int) (v2:Int) (v3:Int) (v4:ByteArray) (v5:Int) (x6:Option Addr) (x7:Option Addr) (K:KH):H->Prop :=
 alW (.cells ⟨[.int .i64 v2,.int .i64 v3,.string v4,.int .i64 v5]⟩ 73 (0,0)) (fun b8=>rdT (rdC b8 0) kI (fun(x9:Int)=>brW ((x9:Int) != 2) (K (.int .i64 8)) (ptrW x6 (fun b10 o11=>rdT (rdC b10 o11) kP (fun x12=>ptrW x12 (fun b13 o14=>rdT (rdC b13 o14) kP (fun x15=>callT Tryz.prog 70 [.pointer x15,.int .i64 v1] kL (fun x16=>stW Tryz.prog 30 (.pointer x7) (.slice x16.base x16.len x16.cap) (K (.int .i64 0))))))))))
theorem c69 (v1:Int) (v2:Int) (v3:Int) (v4:ByteArray) (v5:Int) (x6:Option Addr) (x7:Option Addr) {K:KH} {σ:H}:g69 v1 v2 v3 v4 v5 x6 x7 K σ->callW Tryz.prog 69 [.int .i64 v1,.agg ⟨[.int .i64 v2,.int .i64 v3,.string v4,.int .i64 v5]⟩,.pointer x6,.pointer x7] K σ:=call_k an69 Tryz.func69 (by kernel_rfl)


def an70:Ann:=(.q (.q (.n (.q (.h)) (.q .z))))
def g70 (v1:Option Addr) (v2:Int) (K:KH):H->Prop :=
 callT Tryz.prog 85 [.pointer v1,.int .i64 v2] kP (fun x3=>brW x3.isNone (K (.slice none 0 0)) (ptrW x3 (fun b4 o5=>rdT (rdC b4 (o5+5)) kM (fun(x6:Option Nat)=>callT Tryz.prog 138 [.map x6] kR (fun x7=>callT Tryz.prog 137 [x7] kL (fun x8=>K (.slice x8.base x8.len x8.cap)))))))
theorem c70 (v1:Option Addr) (v2:Int) {K:KH} {σ:H}:g70 v1 v2 K σ->callW Tryz.prog 70 [.pointer v1,.int .i64 v2] K σ:=call_k an70 Tryz.func70 (by kernel_rfl)


def an71:Ann:=(.q (.n (.q (.h)) (.q .z)))
def g71 (v1:Option Addr) (K:KH):H->Prop :=
 brW v1.isNone (K (.int .i64 0)) (K (.int .i64 1))
theorem c71 (v1:Option Addr) {K:KH} {σ:H}:g71 v1 K σ->callW Tryz.prog 71 [.pointer v1] K σ:=call_k an71 Tryz.func71 (by kernel_rfl)


def an72:Ann:=(.q (.q (.n (.q (.h)) (.q .z))))
def g72 (v1:Option Addr) (v2:Int) (K:KH):H->Prop :=
 callT Tryz.prog 85 [.pointer v1,.int .i64 v2] kP (fun x3=>brW x3.isNone (K (.int .i64 0)) (ptrW x3 (fun b4 o5=>rdT (rdC b4 (o5+4)) kI (fun(x6:Int)=>K (.int .i64 x6)))))
theorem c72 (v1:Option Addr) (v2:Int) {K:KH} {σ:H}:g72 v1 v2 K σ->callW Tryz.prog 72 [.pointer v1,.int .i64 v2] K σ:=call_k an72 Tryz.func72 (by kernel_rfl)


def an73:Ann:=(.q (.seq (some [(0,.p),(1,.p),(2,.p),(4,.b)]) .r (.q (.q .z))))
def g73 (x1:Option Addr) (x2:Option Addr) (x3:Option Addr) (K:KH):H->Prop :=
 letJ (T:=Option Addr->Option Addr->Option Addr->Bool->H->Prop) (fun x5 x6 x7 v8=>alW (.map #[] 0) (fun b9=>muW Tryz.prog 120 (.map (some b9)) (.int .i64 1) (.bool true) (ptrW x5 (fun b10 o11=>rdT (rdC b10 o11) kS (fun(x12:ByteArray)=>muW Tryz.prog 120 (.map (some b9)) (.int .i64 2) (.bool (strEq x12 (⟨⟨[]⟩⟩:ByteArray))) (muW Tryz.prog 120 (.map (some b9)) (.int .i64 3) (.bool v8) (ptrW x6 (fun b13 o14=>rdT (rdC b13 o14) kI (fun(x15:Int) =>
 rdT (rdM (.int .i64) (.bool false) false (some b9) (.int .i64 x15)) kB (fun x16=>brW x16 (ptrW x7 (fun b17 o18=>rdT (rdC b17 o18) kI (fun(x19:Int)=>brW (decide ((x19:Int)>=0)) (ptrW x7 (fun b20 o21=>rdT (rdC b20 o21) kI (fun(x22:Int)=>callT Tryz.prog 74 [.bool (decide ((x22:Int)<=511)),.int .i64 2] kI (fun(x23:Int)=>K (.int .i64 x23))))) (callT Tryz.prog 74 [.bool false,.int .i64 2] kI (fun(x24:Int)=>K (.int .i64 x24))))))
 (callT Tryz.prog 74 [.bool false,.int .i64 2] kI (fun(x25:Int)=>K (.int .i64 x25))))))))))))) (fun j4=>ptrW x1 (fun b26 o27=>rdT (rdC b26 o27) kS (fun(x28:ByteArray)=>brW (!strEq x28 (⟨⟨[]⟩⟩:ByteArray)) (ptrW x1 (fun b29 o30=>rdT (rdC b29 o30) kS (fun(x31:ByteArray)=>brW (decide (((x31.size:Nat):Int)<=255)) (ptrW x1 (fun b32 o33=>rdT (rdC b32 o33) kS (fun(x34:ByteArray)=>callT Tryz.prog 33 [.string x34,.int .u8 0] kI (fun(x35:Int) =>
 j4 x1 x2 x3 (decide ((x35:Int)<0)))))) (j4 x1 x2 x3 false)))) (j4 x1 x2 x3 false))))
theorem c73 (x1:Option Addr) (x2:Option Addr) (x3:Option Addr) {K:KH} {σ:H}:g73 x1 x2 x3 K σ->callW Tryz.prog 73 [.pointer x1,.pointer x2,.pointer x3] K σ:=call_k an73 Tryz.func73 (by kernel_rfl)


def an74:Ann:=(.q (.n (.q (.h)) (.q .z)))
def g74 (v1:Bool) (v2:Int) (K:KH):H->Prop :=
 brW (!v1) (K (.int .i64 v2)) (K (.int .i64 0))
theorem c74 (v1:Bool) (v2:Int) {K:KH} {σ:H}:g74 v1 v2 K σ->callW Tryz.prog 74 [.bool v1,.int .i64 v2] K σ:=call_k an74 Tryz.func74 (by kernel_rfl)


def an75:Ann:=(.q (.n (.q (.blk (.loop [(6,.l),(7,.i),(8,.i)] (.q (.n (.cond .z .z) (.n (.blk (.q (.q (.q (.h))))) .r)))))) (.q .z)))
def g75 (v1:Sl) (K:KH):H->Prop :=
 loopW [.sc .slc,.sc (.int .i64),.sc (.int .i64)] (fun(R2:Sl->Int->Int->H->Prop)=>(fun(x3:Sl) (x4:Int) (x5:Int)=>brW (decide ((x5:Int)<x4)) (ptrW x3.base (fun b6 o7=>ifW (0<=x5/\x5<((x3.len:Nat):Int)) (rdT (rdC b6 (o7+x5.toNat * 1)) kR (fun x8=>cvalT Tryz.prog x8 [] kI (fun(x9:Int)=>brW ((x9:Int) != 0) (K (.int .i64 x9)) (R2 x3 x4 (IntKind.i64.wrap (x5+1))))))))
 (K (.int .i64 0)))) (fun(R10:Sl->Int->Int->H->Prop)=>R10 v1 ((v1.len:Nat):Int) 0)
theorem c75 (v1:Sl) {K:KH} {σ:H}:g75 v1 K σ->callW Tryz.prog 75 [.slice v1.base v1.len v1.cap] K σ:=call_k an75 Tryz.func75 (by kernel_rfl)


def an76:Ann:=(.q (.q .z))
def g76 (v1:Option Addr) (K:KH):H->Prop :=
 callT Tryz.prog 74 [.bool (!v1.isNone),.int .i64 1] kI (fun(x2:Int)=>K (.int .i64 x2))
theorem c76 (v1:Option Addr) {K:KH} {σ:H}:g76 v1 K σ->callW Tryz.prog 76 [.pointer v1] K σ:=call_k an76 Tryz.func76 (by kernel_rfl)


def an77:Ann:=(.q (.q .z))
def g77 (v1:Option Addr) (v2:Int) (K:KH):H->Prop :=
 alW (.cells ⟨[.pointer v1]⟩ 59 (0,0)) (fun b3=>alW (.cells ⟨[.int .i64 v2]⟩ 3 (0,0)) (fun b4=>K (.func (.func 139) ⟨[]⟩ ⟨[.pointer (some ⟨b3,0,none⟩),.pointer (some ⟨b4,0,none⟩)]⟩)))
theorem c77 (v1:Option Addr) (v2:Int) {K:KH} {σ:H}:g77 v1 v2 K σ->callW Tryz.prog 77 [.pointer v1,.int .i64 v2] K σ:=call_k an77 Tryz.func77 (by kernel_rfl)


def an78:Ann:=(.q (.q .z))
def g78 (v1:ByteArray) (K:KH):H->Prop :=
 alW (.cells ⟨[.string v1]⟩ 9 (0,0)) (fun b2=>K (.func (.func 140) ⟨[]⟩ ⟨[.pointer (some ⟨b2,0,none⟩)]⟩))
theorem c78 (v1:ByteArray) {K:KH} {σ:H}:g78 v1 K σ->callW Tryz.prog 78 [.string v1] K σ:=call_k an78 Tryz.func78 (by kernel_rfl)


def an79:Ann:=(.q (.q .z))
def g79 (v1:Option Addr) (v2:Int) (v3:ByteArray) (K:KH):H->Prop :=
 alW (.cells ⟨[.pointer v1]⟩ 59 (0,0)) (fun b4=>alW (.cells ⟨[.int .i64 v2]⟩ 3 (0,0)) (fun b5=>alW (.cells ⟨[.string v3]⟩ 9 (0,0)) (fun b6=>K (.func (.func 142) ⟨[]⟩ ⟨[.pointer (some ⟨b4,0,none⟩),.pointer (some ⟨b5,0,none⟩),.pointer (some ⟨b6,0,none⟩)]⟩))))
theorem c79 (v1:Option Addr) (v2:Int) (v3:ByteArray) {K:KH} {σ:H}:g79 v1 v2 v3 K σ->callW Tryz.prog 79 [.pointer v1,.int .i64 v2,.string v3] K σ:=call_k an79 Tryz.func79 (by kernel_rfl)


def an80:Ann:=(.q (.q .z))
def g80 (x1:Option Addr) (x2:Option Addr) (K:KH):H->Prop :=
 ptrW x1 (fun b3 o4=>rdT (rdC b3 o4) kP (fun x5=>ptrW x2 (fun b6 o7=>rdT (rdC b6 o7) kS (fun(x8:ByteArray)=>callT Tryz.prog 81 [.pointer x5,.int .i64 1,.int .i64 ((x8.size:Nat):Int)] kR (fun x9=>cvalT Tryz.prog x9 [] kI (fun(x10:Int)=>K (.int .i64 x10)))))))
theorem c80 (x1:Option Addr) (x2:Option Addr) {K:KH} {σ:H}:g80 x1 x2 K σ->callW Tryz.prog 80 [.pointer x1,.pointer x2] K σ:=call_k an80 Tryz.func80 (by kernel_rfl)


def an81:Ann:=(.q (.q .z))
def g81 (v1:Option Addr) (v2:Int) (v3:Int) (K:KH):H->Prop :=
 alW (.cells ⟨[.pointer v1]⟩ 59 (0,0)) (fun b4=>alW (.cells ⟨[.int .i64 v2]⟩ 3 (0,0)) (fun b5=>alW (.cells ⟨[.int .i64 v3]⟩ 3 (0,0)) (fun b6=>K (.func (.func 144) ⟨[]⟩ ⟨[.pointer (some ⟨b4,0,none⟩),.pointer (some ⟨b5,0,none⟩),.pointer (some ⟨b6,0,none⟩)]⟩))))
theorem c81 (v1:Option Addr) (v2:Int) (v3:Int) {K:KH} {σ:H}:g81 v1 v2 v3 K σ->callW Tryz.prog 81 [.pointer v1,.int .i64 v2,.int .i64 v3] K σ:=call_k an81 Tryz.func81 (by kernel_rfl)


def an82:Ann:=(.q (.q .z))
def g82 (v1:ByteArray) (v2:ByteArray) (K:KH):H->Prop :=
 callT Tryz.prog 145 [.string v1,.string v2] kB (fun x3=>K (.bool x3))
theorem c82 (v1:ByteArray) (v2:ByteArray) {K:KH} {σ:H}:g82 v1 v2 K σ->callW Tryz.prog 82 [.string v1,.string v2] K σ:=call_k an82 Tryz.func82 (by kernel_rfl)


def an83:Ann:=(.q (.n (.q (.q (.h))) (.seq (some [(1,.i),(2,.s),(5,.p),(8,.p),(9,.p),(10,.p),(11,.p)]) (.q (.cond .r .z)) (.q (.seq (some [(10,.p),(11,.p),(13,.p)]) (.q (.blk (.rf [.s,.b] (.q .r) (.blk (.n (.blk (.q (.cond (.q .z) (.q (.cond (.q .z) (.q (.cond (.n (.reg (rn 8) [[],[0],[0,1],[0,1,2],[],[4],(rn 6),(rn 7)]) (.q .z)) (.q (.h))))))))) (.q (.n (.reg (rn 15) [[],[0],[0,1],[0,1,2],[],[4],[],(rn 7),(rn 8),(rn 9),(rn 9),(rn 10),[0,1,2,3,4,5,6,7,8,9,11],(rn 13),(rn 14)]) (.n (.seq (some [(5,.p),(9,.p),(10,.p),(11,.p),(13,.p),(105,.b)]) .r (.cond .z .z)) (.n (.q (.q (.h))) (.n (.reg (rn 13) [[],[0],[0,1],[0,1,2],[],[4],(rn 6),(rn 7),(rn 8),(rn 8),[],[0,1,2,3,4,5,6,7,8,10],(rn 12)]) (.q (.n (.q (.h)) .r)))))))))))) (.q .z))))))
def g83 (v1:Option Addr) (v2:Int) (v3:ByteArray) (v4:Bool) (v5:Option Addr) (K:KH):H->Prop :=
 alW (.cells ⟨[.pointer v1]⟩ 22 (0,0)) (fun b6=>alW (.cells ⟨[.bool v4]⟩ 4 (0,0)) (fun b7=>alW (.cells ⟨[.pointer v5]⟩ 130 (0,0)) (fun b8=>alW (.cells ⟨[.int .i64 0,.string ⟨⟨[]⟩⟩,.int .i64 0,.bool false]⟩ 65 (0,0)) (fun b9=>alW (.cells ⟨[.int .i64 0]⟩ 26 (0,0)) (fun b10=>callT Tryz.prog 146 [.string v3] kI (fun(x11:Int)=>brW ((x11:Int) != 0)
 (stW Tryz.prog 65 (.pointer (some ⟨b9,0,none⟩)) (.agg ⟨[.int .i64 0,.string ⟨⟨[]⟩⟩,.int .i64 0,.bool false]⟩) (stW Tryz.prog 26 (.pointer (some ⟨b10,0,none⟩)) (.int .i64 x11) (rdT (rdA 4 b9 0) (.one (.agg [(.int .i64),.str,(.int .i64),.bool])) (fun(r12:Int) (r13:ByteArray) (r14:Int) (r15:Bool)=>rdT (rdC b10 0) kI (fun(r16:Int)=>K (.tuple ⟨[.agg ⟨[.int .i64 r12,.string r13,.int .i64 r14,.bool r15]⟩,.int .i64 r16]⟩))))))
 (letJ (T:=Int->ByteArray->Option Addr->Option Addr->Option Addr->Option Addr->Option Addr->H->Prop) (fun v18 v19 v20 v21 v22 x23 x24=>alW (.cells ⟨[.int .i64 0,.string ⟨⟨[]⟩⟩,.int .i64 0,.bool false]⟩ 65 (0,0)) (fun b25=>stW Tryz.prog 65 (.pointer (some ⟨b25,0,none⟩)) (.agg ⟨[.int .i64 v18,.string ⟨⟨[]⟩⟩,.int .i64 v18,.bool true]⟩) (letJ (T:=Option Addr->Option Addr->Option Addr->H->Prop) (fun x27 x28 v29 =>
 ptrW v29 (fun b30 o31=>rdT (rdA 4 b30 o31) (.one (.agg [(.int .i64),.str,(.int .i64),.bool])) (fun(x32:Int) (x33:ByteArray) (x34:Int) (x35:Bool)=>stW Tryz.prog 65 (.pointer x27) (.agg ⟨[.int .i64 x32,.string x33,.int .i64 x34,.bool x35]⟩) (stW Tryz.prog 26 (.pointer x28) (.int .i64 0) (ptrW x27 (fun b36 o37=>rdT (rdA 4 b36 o37) (.one (.agg [(.int .i64),.str,(.int .i64),.bool])) (fun(r38:Int) (r39:ByteArray) (r40:Int) (r41:Bool)=>ptrW x28 (fun b42 o43 =>
 rdT (rdC b42 o43) kI (fun(r44:Int)=>K (.tuple ⟨[.agg ⟨[.int .i64 r38,.string r39,.int .i64 r40,.bool r41]⟩,.int .i64 r44]⟩)))))))))) (fun j26=>callT Tryz.prog 147 [.string v19] kR (fun x45=>funW x45 (fun(g146:FuncId) (as147 cs148:List Value)=>rfW Tryz.prog none g146 as147 cs148 [.sc .str,.sc .bool] (fun(l46:Nat) (obj47:LoopState->Option Code->Obj) (K48:Value->H->Prop)=>(fun(x49:ByteArray) (x50:Bool)=>begW l46 obj47 (rdT (rdC b25 3) kB (fun x51 =>
 brW (!x51) (stW Tryz.prog 65 (.pointer x23) (.agg ⟨[.int .i64 0,.string ⟨⟨[]⟩⟩,.int .i64 0,.bool false]⟩) (stW Tryz.prog 26 (.pointer x24) (.int .i64 5) (roundK l46 obj47 K48 (some .ret) false .done))) (ptrW v20 (fun b52 o53=>rdT (rdC b52 o53) kP (fun x54=>rdT (rdC b25 2) kI (fun(x55:Int)=>callT Tryz.prog 84 [.pointer x54,.int .i64 x55] kI (fun(x56:Int)=>brW ((x56:Int) != 2)
 (stW Tryz.prog 65 (.pointer x23) (.agg ⟨[.int .i64 0,.string ⟨⟨[]⟩⟩,.int .i64 0,.bool false]⟩) (stW Tryz.prog 26 (.pointer x24) (.int .i64 8) (roundK l46 obj47 K48 (some .ret) false .done))) (brW (strEq x49 (⟨⟨[46,46]⟩⟩:ByteArray)) (ptrW v20 (fun b57 o58=>rdT (rdC b57 o58) kP (fun x59=>ptrW x59 (fun b60 o61=>rdT (rdC b60 o61) kP (fun x62=>rdT (rdC b25 2) kI (fun(x63:Int)=>callT Tryz.prog 72 [.pointer x62,.int .i64 x63] kI (fun(x64:Int) =>
 stW Tryz.prog 65 (.pointer (some ⟨b25,0,none⟩)) (.agg ⟨[.int .i64 x64,.string ⟨⟨[]⟩⟩,.int .i64 x64,.bool true]⟩) (roundK l46 obj47 K48 none true .ready)))))))) (brW (decide (((x49.size:Nat):Int)>56)) (stW Tryz.prog 65 (.pointer x23) (.agg ⟨[.int .i64 0,.string ⟨⟨[]⟩⟩,.int .i64 0,.bool false]⟩) (stW Tryz.prog 26 (.pointer x24) (.int .i64 3) (roundK l46 obj47 K48 (some .ret) false .done))) (rdT (rdC b25 2) kI (fun(x65:Int) =>
 stW Tryz.prog 65 (.pointer (some ⟨b25,0,none⟩)) (.agg ⟨[.int .i64 x65,.string x49,.int .i64 0,.bool false]⟩) (ptrW v20 (fun b66 o67=>rdT (rdC b66 o67) kP (fun x68=>ptrW x68 (fun b69 o70=>rdT (rdC b69 o70) kP (fun x71=>rdT (rdC b25 0) kI (fun(x72:Int)=>callT Tryz.prog 143 [.pointer x71,.int .i64 x72,.string x49] (.tup [.sc (.int .i64),.sc .bool]) (fun(x73:Int) (x74:Bool) =>
 stW Tryz.prog 3 (.pointer (some ⟨b25,2,none⟩)) (.int .i64 x73) (stW Tryz.prog 4 (.pointer (some ⟨b25,3,none⟩)) (.bool x74) (letJ (T:=Option Addr->Option Addr->Option Addr->Option Addr->Option Addr->Bool->H->Prop) (fun v76 v77 x78 x79 v80 x81=>brW x81 (roundK l46 obj47 K48 none true .ready) (ptrW v77 (fun b82 o83=>rdT (rdC b82 o83) kP (fun x84=>ptrW x84 (fun b85 o86=>rdT (rdC b85 o86) kI (fun(x87:Int)=>ptrW x84 (fun b88 o89 =>
 stW Tryz.prog 3 (.pointer (some ⟨b88,o89,none⟩)) (.int .i64 (IntKind.i64.wrap (x87 - 1))) (ptrW v77 (fun b90 o91=>rdT (rdC b90 o91) kP (fun x92=>ptrW x92 (fun b93 o94=>rdT (rdC b93 o94) kI (fun(x95:Int)=>brW (decide ((x95:Int)<0)) (stW Tryz.prog 65 (.pointer x78) (.agg ⟨[.int .i64 0,.string ⟨⟨[]⟩⟩,.int .i64 0,.bool false]⟩) (stW Tryz.prog 26 (.pointer x79) (.int .i64 9) (roundK l46 obj47 K48 (some .ret) false .done))) (ptrW v76 (fun b96 o97 =>
 rdT (rdC b96 o97) kP (fun x98=>ptrW x98 (fun b99 o100=>rdT (rdC b99 o100) kP (fun x101=>ptrW v80 (fun b102 o103=>rdT (rdC b102 (o103+2)) kI (fun(x104:Int)=>callT Tryz.prog 30 [.pointer x101,.int .i64 x104] (.tup [.agg [(.int .i64),(.int .i64),.str,(.int .i64)],.sc .bool]) (fun(x105:Int) (x106:Int) (x107:ByteArray) (x108:Int) (_x109:Bool)=>alW (.cells ⟨[.int .i64 0,.int .i64 0,.string ⟨⟨[]⟩⟩,.int .i64 0]⟩ 73 (0,0)) (fun b110 =>
 stW Tryz.prog 73 (.pointer (some ⟨b110,0,none⟩)) (.agg ⟨[.int .i64 x105,.int .i64 x106,.string x107,.int .i64 x108]⟩) (ptrW v76 (fun b111 o112=>rdT (rdC b111 o112) kP (fun x113=>ptrW v80 (fun b114 o115=>rdT (rdC b114 o115) kI (fun(x116:Int)=>rdT (rdC b110 2) kS (fun(x117:ByteArray)=>ptrW v77 (fun b118 o119=>rdT (rdC b118 o119) kP (fun x120 =>
 callT Tryz.prog 83 [.pointer x113,.int .i64 x116,.string x117,.bool true,.pointer x120] (.tup [.agg [(.int .i64),.str,(.int .i64),.bool],.sc (.int .i64)]) (fun(x121:Int) (x122:ByteArray) (x123:Int) (x124:Bool) (x125:Int)=>alW (.cells ⟨[.int .i64 0,.string ⟨⟨[]⟩⟩,.int .i64 0,.bool false]⟩ 65 (0,0)) (fun b126=>stW Tryz.prog 65 (.pointer (some ⟨b126,0,none⟩)) (.agg ⟨[.int .i64 x121,.string x122,.int .i64 x123,.bool x124]⟩) (brW ((x125:Int) != 0)
 (stW Tryz.prog 65 (.pointer x78) (.agg ⟨[.int .i64 0,.string ⟨⟨[]⟩⟩,.int .i64 0,.bool false]⟩) (stW Tryz.prog 26 (.pointer x79) (.int .i64 x125) (roundK l46 obj47 K48 (some .ret) false .done))) (rdT (rdA 4 b126 0) (.one (.agg [(.int .i64),.str,(.int .i64),.bool])) (fun(x127:Int) (x128:ByteArray) (x129:Int) (x130:Bool) =>
 stW Tryz.prog 65 (.pointer v80) (.agg ⟨[.int .i64 x127,.string x128,.int .i64 x129,.bool x130]⟩) (roundK l46 obj47 K48 none true .ready))))))))))))))))))))))))))))))))))) (fun j75=>rdT (rdC b25 3) kB (fun x131=>brW (!x131) (j75 v20 v22 x23 x24 (some ⟨b25,0,none⟩) true) (brW x50 (ptrW v21 (fun b132 o133=>rdT (rdC b132 o133) kB (fun x134=>brW (!x134) (j75 v20 v22 x23 x24 (some ⟨b25,0,none⟩) true) (ptrW v20 (fun b135 o136=>rdT (rdC b135 o136) kP (fun x137 =>
 rdT (rdC b25 2) kI (fun(x138:Int)=>callT Tryz.prog 84 [.pointer x137,.int .i64 x138] kI (fun(x139:Int)=>j75 v20 v22 x23 x24 (some ⟨b25,0,none⟩) ((x139:Int) != 3))))))))) (ptrW v20 (fun b140 o141=>rdT (rdC b140 o141) kP (fun x142=>rdT (rdC b25 2) kI (fun(x143:Int)=>callT Tryz.prog 84 [.pointer x142,.int .i64 x143] kI (fun(x144:Int)=>j75 v20 v22 x23 x24 (some ⟨b25,0,none⟩) ((x144:Int) != 3)))))))))))))))))))))))))))))))
 (j26 x23 x24 (some ⟨b25,0,none⟩)) (fun i145=>exW i145 0 (j26 x23 x24 (some ⟨b25,0,none⟩)) (nW)) (ptrW x23 (fun b149 o150=>rdT (rdA 4 b149 o150) (.one (.agg [(.int .i64),.str,(.int .i64),.bool])) (fun(r151:Int) (r152:ByteArray) (r153:Int) (r154:Bool)=>ptrW x24 (fun b155 o156=>rdT (rdC b155 o156) kI (fun(r157:Int)=>K (.tuple ⟨[.agg ⟨[.int .i64 r151,.string r152,.int .i64 r153,.bool r154]⟩,.int .i64 r157]⟩)))))))))))) (fun j17=>idxW v3 0 (fun c158 =>
 brW ((c158.toNat:Int)==47) (rdT (rdC b6 0) kP (fun x159=>ptrW x159 (fun b160 o161=>rdT (rdC b160 o161) kP (fun x162=>callT Tryz.prog 71 [.pointer x162] kI (fun(x163:Int)=>j17 x163 v3 (some ⟨b6,0,none⟩) (some ⟨b7,0,none⟩) (some ⟨b8,0,none⟩) (some ⟨b9,0,none⟩) (some ⟨b10,0,none⟩)))))) (j17 v2 v3 (some ⟨b6,0,none⟩) (some ⟨b7,0,none⟩) (some ⟨b8,0,none⟩) (some ⟨b9,0,none⟩) (some ⟨b10,0,none⟩)))))))))))
theorem c83 (v1:Option Addr) (v2:Int) (v3:ByteArray) (v4:Bool) (v5:Option Addr) {K:KH} {σ:H}:g83 v1 v2 v3 v4 v5 K σ->callW Tryz.prog 83 [.pointer v1,.int .i64 v2,.string v3,.bool v4,.pointer v5] K σ:=call_k an83 Tryz.func83 (by kernel_rfl)


def an84:Ann:=(.q (.q (.q .z)))
def g84 (v1:Option Addr) (v2:Int) (K:KH):H->Prop :=
 ptrW v1 (fun b3 o4=>rdT (rdC b3 o4) kP (fun x5=>callT Tryz.prog 30 [.pointer x5,.int .i64 v2] (.tup [.agg [(.int .i64),(.int .i64),.str,(.int .i64)],.sc .bool]) (fun(x6:Int) (x7:Int) (x8:ByteArray) (x9:Int) (_x10:Bool)=>alW (.cells ⟨[.int .i64 0,.int .i64 0,.string ⟨⟨[]⟩⟩,.int .i64 0]⟩ 73 (0,0)) (fun b11 =>
 stW Tryz.prog 73 (.pointer (some ⟨b11,0,none⟩)) (.agg ⟨[.int .i64 x6,.int .i64 x7,.string x8,.int .i64 x9]⟩) (rdT (rdC b11 0) kI (fun(x12:Int)=>K (.int .i64 x12)))))))
theorem c84 (v1:Option Addr) (v2:Int) {K:KH} {σ:H}:g84 v1 v2 K σ->callW Tryz.prog 84 [.pointer v1,.int .i64 v2] K σ:=call_k an84 Tryz.func84 (by kernel_rfl)


def an85:Ann:=(.q (.n (.q (.h)) (.q .z)))
def g85 (v1:Option Addr) (v2:Int) (K:KH):H->Prop :=
 brW v1.isNone (K (.pointer none)) (ptrW v1 (fun b3 o4=>rdT (rdC b3 (o4+4)) kM (fun(x5:Option Nat)=>rdT (rdM (.int .i64) (.pointer none) false x5 (.int .i64 v2)) kP (fun x6=>K (.pointer x6)))))
theorem c85 (v1:Option Addr) (v2:Int) {K:KH} {σ:H}:g85 v1 v2 K σ->callW Tryz.prog 85 [.pointer v1,.int .i64 v2] K σ:=call_k an85 Tryz.func85 (by kernel_rfl)


def an86:Ann:=(.q (.n (.reg (rn 18) [[],[],[1],[],[3],[3,4],[3,4,5],[],[3,4,5,6,7],[3,4,5,6,7,8],[3,4,5,6,7,8,9],[3,4,5,6,7,8,9,10],[3,4,5,6,7,8,9,10,11],[3,4,5,6,7,8,9,10,11,12],[1,2,3,4,5,6,7,8,9,10,11,12,13],(rn 15),(rn 16),(rn 17)]) .z))
def g86 (x1:Option Addr) (x2:Option Addr) (x3:Option Addr) (K:KH):H->Prop :=
 ptrW x1 (fun b4 o5=>rdT (rdC b4 o5) kP (fun x6=>ptrW x2 (fun b7 o8=>rdT (rdC b7 o8) kS (fun(x9:ByteArray)=>ptrW x1 (fun b10 o11=>rdT (rdC b10 o11) kP (fun x12=>ptrW x12 (fun b13 o14=>rdT (rdC b13 (o14+4)) kM (fun(x15:Option Nat)=>ptrW x3 (fun b16 o17=>rdT (rdC b16 o17) kI (fun(x18:Int)=>rdT (rdM (.int .i64) (.pointer none) false x15 (.int .i64 x18)) kP (fun x19=>ptrW x19 (fun b20 o21=>rdT (rdC b20 (o21+2)) kS (fun(x22:ByteArray) =>
 callT Tryz.prog 81 [.pointer x6,.int .i64 0,.int .i64 (IntKind.i64.wrap (((x9.size:Nat):Int) - ((x22.size:Nat):Int)))] kR (fun x23=>cvalT Tryz.prog x23 [] kI (fun(x24:Int)=>K (.int .i64 x24))))))))))))))))
theorem c86 (x1:Option Addr) (x2:Option Addr) (x3:Option Addr) {K:KH} {σ:H}:g86 x1 x2 x3 K σ->callW Tryz.prog 86 [.pointer x1,.pointer x2,.pointer x3] K σ:=call_k an86 Tryz.func86 (by kernel_rfl)


def an87:Ann:=(.q (.q .z))
def g87 (v1:Option Addr) (v2:Int) (K:KH):H->Prop :=
 alW (.cells ⟨[.pointer v1]⟩ 59 (0,0)) (fun b3=>alW (.cells ⟨[.int .i64 v2]⟩ 3 (0,0)) (fun b4=>K (.func (.func 148) ⟨[]⟩ ⟨[.pointer (some ⟨b3,0,none⟩),.pointer (some ⟨b4,0,none⟩)]⟩)))
theorem c87 (v1:Option Addr) (v2:Int) {K:KH} {σ:H}:g87 v1 v2 K σ->callW Tryz.prog 87 [.pointer v1,.int .i64 v2] K σ:=call_k an87 Tryz.func87 (by kernel_rfl)


def an88:Ann:=(.q (.q .z))
def g88 (v1:ByteArray) (v2:Int) (K:KH):H->Prop :=
 cvalT Tryz.prog (.func (.func 149) ⟨[]⟩ ⟨[]⟩) [.string v1,.int .u8 v2] kI (fun(x3:Int)=>K (.int .i64 x3))
theorem c88 (v1:ByteArray) (v2:Int) {K:KH} {σ:H}:g88 v1 v2 K σ->callW Tryz.prog 88 [.string v1,.int .u8 v2] K σ:=call_k an88 Tryz.func88 (by kernel_rfl)


def an89:Ann:=(.q (.q (.q .z)))
def g89 (__1:Int) (v2:Int) (v3:Int) (v4:ByteArray) (v5:Int) (x6:Option Addr) (K:KH):H->Prop :=
 alW (.cells ⟨[.int .i64 v2,.int .i64 v3,.string v4,.int .i64 v5]⟩ 73 (0,0)) (fun b7=>rdT (rdA 4 b7 0) (.one (.agg [(.int .i64),(.int .i64),.str,(.int .i64)])) (fun(x8:Int) (x9:Int) (x10:ByteArray) (x11:Int)=>stW Tryz.prog 73 (.pointer x6) (.agg ⟨[.int .i64 x8,.int .i64 x9,.string x10,.int .i64 x11]⟩) (K (.int .i64 0))))
theorem c89 (__1:Int) (v2:Int) (v3:Int) (v4:ByteArray) (v5:Int) (x6:Option Addr) {K:KH} {σ:H}:g89 __1 v2 v3 v4 v5 x6 K σ->callW Tryz.prog 89 [.int .i64 __1,.agg ⟨[.int .i64 v2,.int .i64 v3,.string v4,.int .i64 v5]⟩,.pointer x6] K σ:=call_k an89 Tryz.func89 (by kernel_rfl)


def an90:Ann:=(.q (.q (.q (.seq (some [(0,.p),(2,.s),(3,.b),(8,.p),(10,.i),(11,.p)]) (.seq (some [(0,.p),(1,.s),(2,.s),(3,.b),(8,.p),(10,.i),(11,.p),(20,.b)]) .r (.cond (.n (.q (.h)) (.n (.seq (some [(0,.p),(1,.s),(2,.s),(3,.b),(8,.p),(11,.p),(30,.b)]) .r (.h)) (.q (.n (.q (.h)) (.n (.q (.h)) (.n (.n (.reg (rn 12) [[],[0],[0,1],[0,1,2],[],[4],(rn 6),(rn 7),(rn 8),(rn 9),(rn 10),(rn 11)]) (.h)) (.q .r))))))) .z)) (.q .z)))))
def g90 (v1:Option Addr) (v2:ByteArray) (v3:ByteArray) (v4:Bool) (K:KH):H->Prop :=
 alW (.cells ⟨[.int .i64 0,.string ⟨⟨[]⟩⟩,.int .i64 0]⟩ 133 (0,0)) (fun b5=>alW (.cells ⟨[.int .i64 0]⟩ 3 (0,0)) (fun b6=>stW Tryz.prog 3 (.pointer (some ⟨b6,0,none⟩)) (.int .i64 8) (letJ (T:=Option Addr->ByteArray->Bool->Option Addr->Int->Option Addr->H->Prop) (fun v8 v9 v10 x11 v12 v13 =>
 callT Tryz.prog 150 [.pointer v8,.int .i64 v12,.string v9,.bool v10,.pointer v13] (.tup [.agg [(.int .i64),.str,(.int .i64)],.sc (.int .i64)]) (fun(x14:Int) (x15:ByteArray) (x16:Int) (x17:Int)=>stW Tryz.prog 133 (.pointer x11) (.agg ⟨[.int .i64 x14,.string x15,.int .i64 x16]⟩) (ptrW x11 (fun b18 o19=>rdT (rdA 3 b18 o19) (.one (.agg [(.int .i64),.str,(.int .i64)])) (fun(r20:Int) (r21:ByteArray) (r22:Int) =>
 K (.tuple ⟨[.agg ⟨[.int .i64 r20,.string r21,.int .i64 r22]⟩,.int .i64 x17]⟩)))))) (fun j7=>letJ (T:=Option Addr->ByteArray->ByteArray->Bool->Option Addr->Int->Option Addr->Bool->H->Prop) (fun v24 v25 v26 v27 x28 v29 v30 x31=>brW x31 (brW (strEq v26 (⟨⟨[]⟩⟩:ByteArray)) (stW Tryz.prog 133 (.pointer x28) (.agg ⟨[.int .i64 0,.string ⟨⟨[]⟩⟩,.int .i64 0]⟩) (ptrW x28 (fun b32 o33 =>
 rdT (rdA 3 b32 o33) (.one (.agg [(.int .i64),.str,(.int .i64)])) (fun(r34:Int) (r35:ByteArray) (r36:Int)=>K (.tuple ⟨[.agg ⟨[.int .i64 r34,.string r35,.int .i64 r36]⟩,.int .i64 5]⟩))))) (letJ (T:=Option Addr->ByteArray->ByteArray->Bool->Option Addr->Option Addr->Bool->H->Prop) (fun v38 v39 v40 v41 x42 v43 x44=>brW x44 (stW Tryz.prog 133 (.pointer x42) (.agg ⟨[.int .i64 0,.string ⟨⟨[]⟩⟩,.int .i64 0]⟩) (ptrW x42 (fun b45 o46 =>
 rdT (rdA 3 b45 o46) (.one (.agg [(.int .i64),.str,(.int .i64)])) (fun(r47:Int) (r48:ByteArray) (r49:Int)=>K (.tuple ⟨[.agg ⟨[.int .i64 r47,.string r48,.int .i64 r49]⟩,.int .i64 5]⟩))))) (callT Tryz.prog 150 [.pointer v38,.int .i64 0,.string v39,.bool true,.pointer v43] (.tup [.agg [(.int .i64),.str,(.int .i64)],.sc (.int .i64)]) (fun(x50:Int) (x51:ByteArray) (x52:Int) (x53:Int) =>
 alW (.cells ⟨[.int .i64 0,.string ⟨⟨[]⟩⟩,.int .i64 0]⟩ 133 (0,0)) (fun b54=>stW Tryz.prog 133 (.pointer (some ⟨b54,0,none⟩)) (.agg ⟨[.int .i64 x50,.string x51,.int .i64 x52]⟩) (brW ((x53:Int) != 0) (stW Tryz.prog 133 (.pointer x42) (.agg ⟨[.int .i64 0,.string ⟨⟨[]⟩⟩,.int .i64 0]⟩) (ptrW x42 (fun b55 o56=>rdT (rdA 3 b55 o56) (.one (.agg [(.int .i64),.str,(.int .i64)])) (fun(r57:Int) (r58:ByteArray) (r59:Int) =>
 K (.tuple ⟨[.agg ⟨[.int .i64 r57,.string r58,.int .i64 r59]⟩,.int .i64 x53]⟩))))) (rdT (rdC b54 2) kI (fun(x60:Int)=>brW (decide ((x60:Int)<0)) (stW Tryz.prog 133 (.pointer x42) (.agg ⟨[.int .i64 0,.string ⟨⟨[]⟩⟩,.int .i64 0]⟩) (ptrW x42 (fun b61 o62=>rdT (rdA 3 b61 o62) (.one (.agg [(.int .i64),.str,(.int .i64)])) (fun(r63:Int) (r64:ByteArray) (r65:Int)=>K (.tuple ⟨[.agg ⟨[.int .i64 r63,.string r64,.int .i64 r65]⟩,.int .i64 5]⟩)))))
 (ptrW v38 (fun b66 o67=>rdT (rdC b66 (o67+2)) kL (fun x68=>rdT (rdC b54 2) kI (fun(x69:Int)=>ptrW x68.base (fun b70 o71=>ifW (0<=x69/\x69<((x68.len:Nat):Int)) (rdT (rdC b70 (o71+x69.toNat * 1)) kP (fun x72=>ptrW x72 (fun b73 o74=>rdT (rdC b73 o74) kI (fun(x75:Int)=>brW ((x75:Int) != 2) (stW Tryz.prog 133 (.pointer x42) (.agg ⟨[.int .i64 0,.string ⟨⟨[]⟩⟩,.int .i64 0]⟩) (ptrW x42 (fun b76 o77 =>
 rdT (rdA 3 b76 o77) (.one (.agg [(.int .i64),.str,(.int .i64)])) (fun(r78:Int) (r79:ByteArray) (r80:Int)=>K (.tuple ⟨[.agg ⟨[.int .i64 r78,.string r79,.int .i64 r80]⟩,.int .i64 8]⟩))))) (rdT (rdC b54 2) kI (fun(x81:Int)=>stW Tryz.prog 3 (.pointer v43) (.int .i64 8) (j7 v38 v40 v41 x42 x81 v43))))))))))))))))))) (fun j37=>brW (strEq v25 (⟨⟨[]⟩⟩:ByteArray)) (j37 v24 v25 v26 v27 x28 v30 true) (idxW v25 0 (fun c82 =>
 j37 v24 v25 v26 v27 x28 v30 ((c82.toNat:Int) != 47)))))) (j7 v24 v26 v27 x28 v29 v30)) (fun j23=>brW (strEq v3 (⟨⟨[]⟩⟩:ByteArray)) (j23 v1 v2 v3 v4 (some ⟨b5,0,none⟩) 0 (some ⟨b6,0,none⟩) true) (idxW v3 0 (fun c83=>j23 v1 v2 v3 v4 (some ⟨b5,0,none⟩) 0 (some ⟨b6,0,none⟩) ((c83.toNat:Int) != 47))))))))
theorem c90 (v1:Option Addr) (v2:ByteArray) (v3:ByteArray) (v4:Bool) {K:KH} {σ:H}:g90 v1 v2 v3 v4 K σ->callW Tryz.prog 90 [.pointer v1,.string v2,.string v3,.bool v4] K σ:=call_k an90 Tryz.func90 (by kernel_rfl)


def an91:Ann:=(.q (.q (.n (.blk (.loop [(0,.p),(1,.i),(5,.i)] (.n (.q (.cond .z .z)) (.blk (.q .r))))) (.q .z))))
def g91 (v1:Option Addr) (v2:Int) (K:KH):H->Prop :=
 loopW [.sc .ptr,.sc (.int .i64),.sc (.int .i64)] (fun(R3:Option Addr->Int->Int->H->Prop)=>(fun(v4:Option Addr) (v5:Int) (v6:Int)=>brW ((v5:Int) != 0) (ptrW v4 (fun b7 o8=>rdT (rdC b7 (o8+2)) kL (fun x9=>ptrW x9.base (fun b10 o11=>ifW (0<=v5/\v5<((x9.len:Nat):Int)) (rdT (rdC b10 (o11+v5.toNat * 1)) kP (fun x12=>ptrW x12 (fun b13 o14=>rdT (rdC b13 (o14+4)) kI (fun(x15:Int)=>R3 v4 x15 (IntKind.i64.wrap (v6+1))))))))))
 (K (.int .i64 v6)))) (fun(R16:Option Addr->Int->Int->H->Prop)=>R16 v1 v2 1)
theorem c91 (v1:Option Addr) (v2:Int) {K:KH} {σ:H}:g91 v1 v2 K σ->callW Tryz.prog 91 [.pointer v1,.int .i64 v2] K σ:=call_k an91 Tryz.func91 (by kernel_rfl)


def an92:Ann:=(.q (.n (.q (.h)) (.q (.n (.reg (rn 12) [[],[],[1],[],[3],[],[5],[5,6],[5,6,7],[5,6,7,8],[5,6,7,8,9],(rn 11)]) (.q .z)))))
def g92 (v1:Option Addr) (v2:Int) (v3:ByteArray) (v4:Int) (v5:Int) (v6:Int) (v7:ByteArray) (K:KH):H->Prop :=
 alW (.cells ⟨[.int .i64 v2,.string v3,.int .i64 v4]⟩ 133 (0,0)) (fun b8=>callT Tryz.prog 93 [.pointer v1,.int .i64 1,.int .i64 ((v7.size:Nat):Int)] kB (fun x9=>brW (!x9) (K (.int .i64 10)) (ptrW v1 (fun b10 o11=>rdT (rdC b10 (o11+2)) kL (fun x12=>alW (.cells ⟨[.int .i64 v5,.int .i64 v6,.string v7,.slice none 0 0,.int .i64 0]⟩ 107 (0,0)) (fun b13=>alW (.cells ⟨[.pointer (some ⟨b13,0,none⟩)]⟩ 104 (0,0)) (fun b14 =>
 biW Tryz.prog .append #[101,101] 101 [false,false] [.slice x12.base x12.len x12.cap,.slice (some ⟨b14,0,none⟩) 1 1] kL (fun x15=>ptrW v1 (fun b16 o17=>stW Tryz.prog 101 (.pointer (some ⟨b16,o17+2,none⟩)) (.slice x15.base x15.len x15.cap) (rdT (rdC b8 0) kI (fun(x18:Int)=>rdT (rdC b8 1) kS (fun(x19:ByteArray)=>ptrW v1 (fun b20 o21=>rdT (rdC b20 (o21+2)) kL (fun x22 =>
 callT Tryz.prog 129 [.pointer v1,.int .i64 x18,.string x19,.int .i64 (IntKind.i64.wrap (((x22.len:Nat):Int) - 1))] kU (K (.int .i64 0))))))))))))))))
theorem c92 (v1:Option Addr) (v2:Int) (v3:ByteArray) (v4:Int) (v5:Int) (v6:Int) (v7:ByteArray) {K:KH} {σ:H}:g92 v1 v2 v3 v4 v5 v6 v7 K σ->callW Tryz.prog 92 [.pointer v1,.agg ⟨[.int .i64 v2,.string v3,.int .i64 v4]⟩,.int .i64 v5,.int .i64 v6,.string v7] K σ:=call_k an92 Tryz.func92 (by kernel_rfl)


def an93:Ann:=(.q (.q (.n (.reg (rn 23) [[],[0],[],[0,1,2],[],[4],[4,5],[4,5,6],[4,5,6,7],(rn 9),(rn 10),(rn 11),(rn 12),(rn 11),(rn 14),(rn 11),[0,1,2,3,4,5,6,7,8,9,10,15],[0,1,2,3,4,5,6,7,8,9,10,15,16],[0,1,2,3,4,5,6,7,8,9,10,15,16,17],[0,1,2,3,4,5,6,7,8,9,10,15,16,17,18],(rn 20),(rn 21),(rn 22)]) .z)))
def g93 (v1:Option Addr) (v2:Int) (v3:Int) (K:KH):H->Prop :=
 callT Tryz.prog 19 [.pointer v1] (.one (.agg [(.int .i64),(.int .i64)])) (fun(x4:Int) (x5:Int)=>alW (.cells ⟨[.int .i64 0,.int .i64 0]⟩ 25 (0,0)) (fun b6=>stW Tryz.prog 25 (.pointer (some ⟨b6,0,none⟩)) (.agg ⟨[.int .i64 x4,.int .i64 x5]⟩) (rdT (rdC b6 0) kI (fun(x7:Int)=>ptrW v1 (fun b8 o9=>rdT (rdC b8 o9) kI (fun(x10:Int)=>brW (decide (((IntKind.i64.wrap (x7+v2)):Int)<=x10)) (rdT (rdC b6 1) kI (fun(x11:Int)=>ptrW v1 (fun b12 o13 =>
 rdT (rdC b12 (o13+1)) kI (fun(x14:Int)=>K (.bool (decide (((IntKind.i64.wrap (x11+v3)):Int)<=x14))))))) (K (.bool false))))))))
theorem c93 (v1:Option Addr) (v2:Int) (v3:Int) {K:KH} {σ:H}:g93 v1 v2 v3 K σ->callW Tryz.prog 93 [.pointer v1,.int .i64 v2,.int .i64 v3] K σ:=call_k an93 Tryz.func93 (by kernel_rfl)


def an94:Ann:=(.q (.n (.reg (rn 8) [[],[0],[0,1],[0,1,2],[],[],(rn 6),(rn 7)]) .z))
def g94 (v1:Int) (__2:Int) (__3:Int) (__4:ByteArray) (__5:Int) (x6:Option Addr) (x7:Option Addr) (K:KH):H->Prop :=
 alW (.cells ⟨[.int .i64 __2,.int .i64 __3,.string __4,.int .i64 __5]⟩ 73 (0,0)) (fun _b8=>ptrW x6 (fun b9 o10=>rdT (rdC b9 o10) kP (fun x11=>ptrW x11 (fun b12 o13=>rdT (rdC b12 o13) kP (fun x14=>ptrW x7 (fun b15 o16=>rdT (rdC b15 o16) kI (fun(x17:Int)=>callT Tryz.prog 95 [.pointer x14,.int .i64 v1,.int .i64 x17] kI (fun(x18:Int)=>K (.int .i64 x18)))))))))
theorem c94 (v1:Int) (__2:Int) (__3:Int) (__4:ByteArray) (__5:Int) (x6:Option Addr) (x7:Option Addr) {K:KH} {σ:H}:g94 v1 __2 __3 __4 __5 x6 x7 K σ->callW Tryz.prog 94 [.int .i64 v1,.agg ⟨[.int .i64 __2,.int .i64 __3,.string __4,.int .i64 __5]⟩,.pointer x6,.pointer x7] K σ:=call_k an94 Tryz.func94 (by kernel_rfl)


def an95:Ann:=(.q (.q (.q (.n (.q (.q (.h))) (.n (.reg (rn 11) [[],[0],[0,1],[0,1,2],[],(rn 5),[],(rn 7),(rn 8),(rn 9),(rn 10)]) (.q .z))))))
def g95 (v1:Option Addr) (v2:Int) (v3:Int) (K:KH):H->Prop :=
 alW (.cells ⟨[.pointer v1]⟩ 59 (0,0)) (fun b4=>alW (.cells ⟨[.int .i64 v2]⟩ 3 (0,0)) (fun b5=>alW (.cells ⟨[.int .i64 v3]⟩ 3 (0,0)) (fun b6=>rdT (rdC b4 0) kP (fun x7=>alW (.cells ⟨[.func (.func 76) ⟨[.pointer x7]⟩ ⟨[]⟩,.func (.func 151) ⟨[]⟩ ⟨[.pointer (some ⟨b6,0,none⟩)]⟩,.func (.func 152) ⟨[]⟩ ⟨[.pointer (some ⟨b4,0,none⟩),.pointer (some ⟨b5,0,none⟩)]⟩]⟩ 122 (0,0)) (fun b8=>callT Tryz.prog 75 [.slice (some ⟨b8,0,none⟩) 3 3] kI (fun(x9:Int) =>
 brW ((x9:Int) != 0) (K (.int .i64 x9)) (rdT (rdC b4 0) kP (fun x10=>ptrW x10 (fun b11 o12=>rdT (rdC b11 (o12+4)) kM (fun(x13:Option Nat)=>rdT (rdC b5 0) kI (fun(x14:Int)=>rdT (rdM (.int .i64) (.pointer none) false x13 (.int .i64 x14)) kP (fun x15=>rdT (rdC b6 0) kI (fun(x16:Int)=>ptrW x15 (fun b17 o18=>stW Tryz.prog 3 (.pointer (some ⟨b17,o18+1,none⟩)) (.int .i64 x16) (K (.int .i64 0))))))))))))))))
theorem c95 (v1:Option Addr) (v2:Int) (v3:Int) {K:KH} {σ:H}:g95 v1 v2 v3 K σ->callW Tryz.prog 95 [.pointer v1,.int .i64 v2,.int .i64 v3] K σ:=call_k an95 Tryz.func95 (by kernel_rfl)


def an96:Ann:=(.q (.q (.n (.seq (some [(10,.p),(11,.i),(26,.b)]) .r (.h)) (.q .z))))
def g96 (v1:Option Addr) (v2:ByteArray) (v3:ByteArray) (v4:Bool) (K:KH):H->Prop :=
 callT Tryz.prog 90 [.pointer v1,.string v2,.string v3,.bool v4] (.tup [.agg [(.int .i64),.str,(.int .i64)],.sc (.int .i64)]) (fun(x5:Int) (x6:ByteArray) (x7:Int) (x8:Int)=>alW (.cells ⟨[.int .i64 0,.string ⟨⟨[]⟩⟩,.int .i64 0]⟩ 133 (0,0)) (fun b9=>stW Tryz.prog 133 (.pointer (some ⟨b9,0,none⟩)) (.agg ⟨[.int .i64 x5,.string x6,.int .i64 x7]⟩) (letJ (T:=Option Addr->Int->Bool->H->Prop) (fun v11 v12 x13=>brW x13
 (K (.tuple ⟨[.int .i64 0,.int .i64 5]⟩)) (ptrW v11 (fun b14 o15=>rdT (rdC b14 (o15+2)) kI (fun(x16:Int)=>K (.tuple ⟨[.int .i64 x16,.int .i64 v12]⟩))))) (fun j10=>brW ((x8:Int)==0) (rdT (rdC b9 2) kI (fun(x17:Int)=>j10 (some ⟨b9,0,none⟩) x8 (decide ((x17:Int)<0)))) (j10 (some ⟨b9,0,none⟩) x8 false)))))
theorem c96 (v1:Option Addr) (v2:ByteArray) (v3:ByteArray) (v4:Bool) {K:KH} {σ:H}:g96 v1 v2 v3 v4 K σ->callW Tryz.prog 96 [.pointer v1,.string v2,.string v3,.bool v4] K σ:=call_k an96 Tryz.func96 (by kernel_rfl)


def an97:Ann:=(.q (.blk (.loop [(0,.p),(1,.w),(9,.l),(10,.i),(11,.i)] (.q (.n (.cond .z .z) (.n (.blk (.q (.n (.q (.cond .z .z)) .r))) .r))))))
def g97 (v1:Option Addr) (v2:Value) (K:KH):H->Prop :=
 ptrW v1 (fun b3 o4=>rdT (rdC b3 (o4+9)) kL (fun x5=>loopW [.sc .ptr,.sc .raw,.sc .slc,.sc (.int .i64),.sc (.int .i64)] (fun(R6:Option Addr->Value->Sl->Int->Int->H->Prop)=>(fun(v7:Option Addr) (v8:Value) (x9:Sl) (x10:Int) (x11:Int)=>brW (decide ((x11:Int)<x10)) (ptrW x9.base (fun b12 o13=>ifW (0<=x11/\x11<((x9.len:Nat):Int)) (rdT (rdC b12 (o13+x11.toNat * 1)) kS (fun(x14:ByteArray)=>ptrW v7 (fun b15 o16 =>
 rdT (rdC b15 (o16+10)) kB (fun x17=>brW x17 (K (.tuple ⟨[]⟩)) (cvalT Tryz.prog v8 [.string x14] kI (fun(x18:Int)=>callT Tryz.prog 153 [.pointer v7,.string x14,.int .i64 x18] kB (fun _x19=>R6 v7 v8 x9 x10 (IntKind.i64.wrap (x11+1))))))))))) (K (.tuple ⟨[]⟩)))) (fun(R20:Option Addr->Value->Sl->Int->Int->H->Prop)=>R20 v1 v2 x5 ((x5.len:Nat):Int) 0)))
theorem c97 (v1:Option Addr) (v2:Value) {K:KH} {σ:H}:g97 v1 v2 K σ->callW Tryz.prog 97 [.pointer v1,v2] K σ:=call_k an97 Tryz.func97 (by kernel_rfl)


def an98:Ann:=(.q (.n (.q (.cond (.n (.reg (rn 12) [[],[0],[0,1],[0,1,2],[],[4],[4,5],[4,5,6],[4,5,6,7],[],(rn 10),(rn 11)]) .z) .z)) (.seq (some [(0,.s),(1,.p),(3,.p)]) (.q (.blk (.rf [.s] .r (.blk (.q (.q (.h))))))) (.q .z))))
def g98 (v1:ByteArray) (x2:Option Addr) (K:KH):H->Prop :=
 alW (.cells ⟨[.int .i64 0]⟩ 26 (0,0)) (fun b3=>ptrW x2 (fun b4 o5=>rdT (rdC b4 o5) kP (fun x6=>callT Tryz.prog 99 [.pointer x6,.int .u8 112] kB (fun x7=>brW (!x7) (ptrW x2 (fun b8 o9=>rdT (rdC b8 o9) kP (fun x10=>ptrW x10 (fun b11 o12=>rdT (rdC b11 (o12+4)) kP (fun x13=>ptrW x2 (fun b14 o15=>rdT (rdC b14 o15) kP (fun x16=>ptrW x16 (fun b17 o18=>rdT (rdC b17 (o18+3)) kS (fun(x19:ByteArray) =>
 callT Tryz.prog 9 [.pointer x13,.string x19,.string v1] kI (fun(x20:Int)=>stW Tryz.prog 26 (.pointer (some ⟨b3,0,none⟩)) (.int .i64 x20) (rdT (rdC b3 0) kI (fun(r21:Int)=>K (.int .i64 r21))))))))))))) (letJ (T:=ByteArray->Option Addr->Option Addr->H->Prop) (fun v23 x24 x25=>ptrW x24 (fun b26 o27=>rdT (rdC b26 o27) kP (fun x28=>callT Tryz.prog 101 [.pointer x28,.string v23] kI (fun(x29:Int) =>
 stW Tryz.prog 26 (.pointer x25) (.int .i64 x29) (ptrW x25 (fun b30 o31=>rdT (rdC b30 o31) kI (fun(r32:Int)=>K (.int .i64 r32)))))))) (fun j22=>callT Tryz.prog 100 [.string v1] kR (fun x33=>funW x33 (fun(g43:FuncId) (as44 cs45:List Value)=>rfW Tryz.prog none g43 as44 cs45 [.sc .str] (fun(l34:Nat) (obj35:LoopState->Option Code->Obj) (K36:Value->H->Prop)=>(fun(x37:ByteArray)=>begW l34 obj35 (ptrW x2 (fun b38 o39=>rdT (rdC b38 o39) kP (fun x40 =>
 callT Tryz.prog 101 [.pointer x40,.string x37] kI (fun(x41:Int)=>brW ((x41:Int) != 0) (stW Tryz.prog 26 (.pointer (some ⟨b3,0,none⟩)) (.int .i64 x41) (roundK l34 obj35 K36 (some .ret) false .done)) (roundK l34 obj35 K36 none true .ready))))))) (j22 v1 x2 (some ⟨b3,0,none⟩)) (fun i42=>exW i42 0 (j22 v1 x2 (some ⟨b3,0,none⟩)) (nW)) (rdT (rdC b3 0) kI (fun(r46:Int)=>K (.int .i64 r46)))))))))))
theorem c98 (v1:ByteArray) (x2:Option Addr) {K:KH} {σ:H}:g98 v1 x2 K σ->callW Tryz.prog 98 [.string v1,.pointer x2] K σ:=call_k an98 Tryz.func98 (by kernel_rfl)


def an99:Ann:=(.q (.q .z))
def g99 (v1:Option Addr) (v2:Int) (K:KH):H->Prop :=
 ptrW v1 (fun b3 o4=>rdT (rdC b3 (o4+8)) kS (fun(x5:ByteArray)=>callT Tryz.prog 33 [.string x5,.int .u8 v2] kI (fun(x6:Int)=>K (.bool (decide ((x6:Int)>=0))))))
theorem c99 (v1:Option Addr) (v2:Int) {K:KH} {σ:H}:g99 v1 v2 K σ->callW Tryz.prog 99 [.pointer v1,.int .u8 v2] K σ:=call_k an99 Tryz.func99 (by kernel_rfl)


def an100:Ann:=(.q (.q .z))
def g100 (v1:ByteArray) (K:KH):H->Prop :=
 alW (.cells ⟨[.string v1]⟩ 9 (0,0)) (fun b2=>K (.func (.func 154) ⟨[]⟩ ⟨[.pointer (some ⟨b2,0,none⟩)]⟩))
theorem c100 (v1:ByteArray) {K:KH} {σ:H}:g100 v1 K σ->callW Tryz.prog 100 [.string v1] K σ:=call_k an100 Tryz.func100 (by kernel_rfl)


def an101:Ann:=(.q (.n (.n (.reg (rn 12) [[],[0],[0,1],[0,1,2],[],[4],[4,5],[4,5,6],[4,5,6,7],[],(rn 10),(rn 11)]) (.seq (some [(5,.i),(24,.b)]) .r (.h))) (.q .z)))
def g101 (v1:Option Addr) (v2:ByteArray) (K:KH):H->Prop :=
 ptrW v1 (fun b3 o4=>rdT (rdC b3 (o4+4)) kP (fun x5=>ptrW v1 (fun b6 o7=>rdT (rdC b6 (o7+3)) kS (fun(x8:ByteArray)=>callT Tryz.prog 9 [.pointer x5,.string x8,.string v2] kI (fun(x9:Int)=>letJ (T:=Int->Bool->H->Prop) (fun v11 x12=>brW x12 (K (.int .i64 v11)) (K (.int .i64 0))) (fun j10=>brW ((x9:Int) != 6) (j10 x9 true) (callT Tryz.prog 116 [.pointer v1,.string v2] kB (fun x13=>j10 x9 (!x13)))))))))
theorem c101 (v1:Option Addr) (v2:ByteArray) {K:KH} {σ:H}:g101 v1 v2 K σ->callW Tryz.prog 101 [.pointer v1,.string v2] K σ:=call_k an101 Tryz.func101 (by kernel_rfl)


def an102:Ann:=(.q (.q (.n (.blk (.q (.cond (.q .z) (.q (.h))))) (.n (.reg (rn 12) [[],[0],[0,1],[0,1,2],[],[4],[4,5],[4,5,6],[4,5,6,7],[],(rn 10),(rn 11)]) .z))))
def g102 (v1:ByteArray) (x2:Option Addr) (K:KH):H->Prop :=
 ptrW x2 (fun b3 o4=>rdT (rdC b3 o4) kP (fun x5=>callT Tryz.prog 103 [.pointer x5,.string v1,.bool false] (.tup [.agg [(.int .i64),(.int .i64),.str,(.int .i64)],.sc (.int .i64)]) (fun(x6:Int) (x7:Int) (x8:ByteArray) (x9:Int) (x10:Int)=>alW (.cells ⟨[.int .i64 0,.int .i64 0,.string ⟨⟨[]⟩⟩,.int .i64 0]⟩ 73 (0,0)) (fun b11 =>
 stW Tryz.prog 73 (.pointer (some ⟨b11,0,none⟩)) (.agg ⟨[.int .i64 x6,.int .i64 x7,.string x8,.int .i64 x9]⟩) (brW ((x10:Int) != 0) (K (.int .i64 x10)) (rdT (rdC b11 0) kI (fun(x12:Int)=>brW ((x12:Int) != 2) (K (.int .i64 8)) (ptrW x2 (fun b13 o14=>rdT (rdC b13 o14) kP (fun x15=>ptrW x15 (fun b16 o17=>rdT (rdC b16 (o17+4)) kP (fun x18=>ptrW x2 (fun b19 o20=>rdT (rdC b19 o20) kP (fun x21=>ptrW x21 (fun b22 o23=>rdT (rdC b22 (o23+3)) kS (fun(x24:ByteArray) =>
 callT Tryz.prog 104 [.pointer x18,.string x24,.string v1] kI (fun(x25:Int)=>K (.int .i64 x25))))))))))))))))))
theorem c102 (v1:ByteArray) (x2:Option Addr) {K:KH} {σ:H}:g102 v1 x2 K σ->callW Tryz.prog 102 [.string v1,.pointer x2] K σ:=call_k an102 Tryz.func102 (by kernel_rfl)


def an103:Ann:=(.q (.n (.reg (rn 16) [[],[0],[0,1],[0,1,2],[],[4],[4,5],[4,5,6],[4,5,6,7],[],[],(rn 11),(rn 12),(rn 12),(rn 14),(rn 15)]) .z))
def g103 (v1:Option Addr) (v2:ByteArray) (v3:Bool) (K:KH):H->Prop :=
 alW (.cells ⟨[.int .i64 0,.int .i64 0,.string ⟨⟨[]⟩⟩,.int .i64 0]⟩ 73 (0,0)) (fun b4=>ptrW v1 (fun b5 o6=>rdT (rdC b5 (o6+4)) kP (fun x7=>ptrW v1 (fun b8 o9=>rdT (rdC b8 (o9+3)) kS (fun(x10:ByteArray)=>callT Tryz.prog 35 [.pointer x7,.string x10,.string v2,.bool v3] (.tup [.agg [(.int .i64),(.int .i64),.str,(.int .i64)],.sc (.int .i64)]) (fun(x11:Int) (x12:Int) (x13:ByteArray) (x14:Int) (x15:Int) =>
 stW Tryz.prog 73 (.pointer (some ⟨b4,0,none⟩)) (.agg ⟨[.int .i64 x11,.int .i64 x12,.string x13,.int .i64 x14]⟩) (rdT (rdA 4 b4 0) (.one (.agg [(.int .i64),(.int .i64),.str,(.int .i64)])) (fun(r16:Int) (r17:Int) (r18:ByteArray) (r19:Int)=>K (.tuple ⟨[.agg ⟨[.int .i64 r16,.int .i64 r17,.string r18,.int .i64 r19]⟩,.int .i64 x15]⟩)))))))))
theorem c103 (v1:Option Addr) (v2:ByteArray) (v3:Bool) {K:KH} {σ:H}:g103 v1 v2 v3 K σ->callW Tryz.prog 103 [.pointer v1,.string v2,.bool v3] K σ:=call_k an103 Tryz.func103 (by kernel_rfl)


def an104:Ann:=(.q (.q (.n (.blk (.q (.cond (.q .z) (.q (.cond (.q .z) (.q (.cond (.q .z) (.n (.reg (rn 10) [[],[0],[0,1],[0,1,2],[],[4],(rn 6),(rn 7),(rn 8),(rn 9)]) (.h))))))))) (.n (.reg (rn 10) [[],[0],[0,1],[0,1,2],[],[4],[],[6],(rn 8),(rn 9)]) .z))))
def g104 (v1:Option Addr) (v2:ByteArray) (v3:ByteArray) (K:KH):H->Prop :=
 callT Tryz.prog 29 [.pointer v1,.string v2,.string v3,.bool false] (.tup [.agg [(.int .i64),.str,(.int .i64),.bool],.sc (.int .i64)]) (fun(x4:Int) (x5:ByteArray) (x6:Int) (x7:Bool) (x8:Int)=>alW (.cells ⟨[.int .i64 0,.string ⟨⟨[]⟩⟩,.int .i64 0,.bool false]⟩ 65 (0,0)) (fun b9=>stW Tryz.prog 65 (.pointer (some ⟨b9,0,none⟩)) (.agg ⟨[.int .i64 x4,.string x5,.int .i64 x6,.bool x7]⟩) (brW ((x8:Int) != 0) (K (.int .i64 x8))
 (rdT (rdC b9 3) kB (fun x10=>brW (!x10) (K (.int .i64 5)) (rdT (rdC b9 1) kS (fun(x11:ByteArray)=>brW (strEq x11 (⟨⟨[]⟩⟩:ByteArray)) (K (.int .i64 2)) (ptrW v1 (fun b12 o13=>rdT (rdC b12 o13) kP (fun x14=>rdT (rdC b9 2) kI (fun(x15:Int)=>callT Tryz.prog 70 [.pointer x14,.int .i64 x15] kL (fun x16=>brW (decide (((x16.len:Nat):Int)>0)) (K (.int .i64 20)) (ptrW v1 (fun b17 o18=>rdT (rdC b17 o18) kP (fun x19=>rdT (rdC b9 0) kI (fun(x20:Int) =>
 rdT (rdC b9 1) kS (fun(x21:ByteArray)=>callT Tryz.prog 155 [.pointer x19,.int .i64 x20,.string x21] kI (fun(x22:Int)=>K (.int .i64 x22)))))))))))))))))))
theorem c104 (v1:Option Addr) (v2:ByteArray) (v3:ByteArray) {K:KH} {σ:H}:g104 v1 v2 v3 K σ->callW Tryz.prog 104 [.pointer v1,.string v2,.string v3] K σ:=call_k an104 Tryz.func104 (by kernel_rfl)


def an105:Ann:=(.q (.n (.reg (rn 12) [[],[0],[0,1],[0,1,2],[],[4],[4,5],[4,5,6],[4,5,6,7],[],(rn 10),(rn 11)]) .z))
def g105 (v1:ByteArray) (x2:Option Addr) (K:KH):H->Prop :=
 ptrW x2 (fun b3 o4=>rdT (rdC b3 o4) kP (fun x5=>ptrW x5 (fun b6 o7=>rdT (rdC b6 (o7+4)) kP (fun x8=>ptrW x2 (fun b9 o10=>rdT (rdC b9 o10) kP (fun x11=>ptrW x11 (fun b12 o13=>rdT (rdC b12 (o13+3)) kS (fun(x14:ByteArray)=>callT Tryz.prog 10 [.pointer x8,.string x14,.string v1,.string ⟨⟨[]⟩⟩,.bool true] kI (fun(x15:Int)=>K (.int .i64 x15))))))))))
theorem c105 (v1:ByteArray) (x2:Option Addr) {K:KH} {σ:H}:g105 v1 x2 K σ->callW Tryz.prog 105 [.string v1,.pointer x2] K σ:=call_k an105 Tryz.func105 (by kernel_rfl)


def an106:Ann:=(.q (.q (.seq (some [(0,.s),(2,.p),(5,.i)]) (.q (.cond (.q (.n (.q (.h)) (.q (.q (.cond .r .z))))) .z)) (.n (.reg (rn 13) [[],[0],[0,1],[0,1,2],[],[4],[4,5],[4,5,6],[4,5,6,7],[],[],(rn 11),(rn 12)]) .z))))
def g106 (v1:ByteArray) (x2:Option Addr) (x3:Option Addr) (K:KH):H->Prop :=
 ptrW x2 (fun b4 o5=>rdT (rdC b4 o5) kS (fun(x6:ByteArray)=>callT Tryz.prog 107 [.string x6] (.tup [.sc (.int .i64),.sc .bool]) (fun(x7:Int) (x8:Bool)=>letJ (T:=ByteArray->Option Addr->Int->H->Prop) (fun v10 x11 v12=>ptrW x11 (fun b13 o14=>rdT (rdC b13 o14) kP (fun x15=>ptrW x15 (fun b16 o17=>rdT (rdC b16 (o17+4)) kP (fun x18=>ptrW x11 (fun b19 o20=>rdT (rdC b19 o20) kP (fun x21=>ptrW x21 (fun b22 o23 =>
 rdT (rdC b22 (o23+3)) kS (fun(x24:ByteArray)=>callT Tryz.prog 39 [.pointer x18,.string x24,.string v10,.int .i64 v12] kI (fun(x25:Int)=>K (.int .i64 x25))))))))))) (fun j9=>brW (!x8) (ptrW x3 (fun b26 o27=>rdT (rdC b26 o27) kP (fun x28=>callT Tryz.prog 103 [.pointer x28,.string v1,.bool true] (.tup [.agg [(.int .i64),(.int .i64),.str,(.int .i64)],.sc (.int .i64)]) (fun(x29:Int) (x30:Int) (x31:ByteArray) (x32:Int) (x33:Int) =>
 alW (.cells ⟨[.int .i64 0,.int .i64 0,.string ⟨⟨[]⟩⟩,.int .i64 0]⟩ 73 (0,0)) (fun b34=>stW Tryz.prog 73 (.pointer (some ⟨b34,0,none⟩)) (.agg ⟨[.int .i64 x29,.int .i64 x30,.string x31,.int .i64 x32]⟩) (brW ((x33:Int) != 0) (K (.int .i64 x33)) (rdT (rdC b34 1) kI (fun(x35:Int)=>ptrW x2 (fun b36 o37=>rdT (rdC b36 o37) kS (fun(x38:ByteArray)=>brW (strEq x38 (⟨⟨[45,120]⟩⟩:ByteArray)) (rdT (rdC b34 1) kI (fun(x39:Int) =>
 j9 v1 x3 (bitV .andNot .i64 x39 73))) (j9 v1 x3 (bitV .or .i64 x35 73)))))))))))) (j9 v1 x3 x7)))))
theorem c106 (v1:ByteArray) (x2:Option Addr) (x3:Option Addr) {K:KH} {σ:H}:g106 v1 x2 x3 K σ->callW Tryz.prog 106 [.string v1,.pointer x2,.pointer x3] K σ:=call_k an106 Tryz.func106 (by kernel_rfl)


def an107:Ann:=(.q (.n (.seq (some [(0,.s),(13,.b)]) .r (.h)) (.q (.n (.reg (rn 5) [[],[],[1],[0],(rn 4)]) .z))))
def g107 (v1:ByteArray) (K:KH):H->Prop :=
 letJ (T:=ByteArray->Bool->H->Prop) (fun v3 x4=>brW x4 (K (.tuple ⟨[.int .i64 0,.bool false]⟩)) (callT Tryz.prog 156 [.string v3,.int .i64 8,.int .i64 32] (.tup [.sc (.int .i64),.sc .raw]) (fun(x5:Int) (x6:Value)=>vaW Tryz.prog (do eqGuard .eql 175 (.tmp 20) (.const (.nilIface)) (x6) (.nilIface);binOp .eql 175 (x6) (.nilIface)) kB (fun x7=>K (.tuple ⟨[.int .i64 x5,.bool x7]⟩))))) (fun j2=>brW (decide (((v1.size:Nat):Int)>3)) (j2 v1 true)
 (callT Tryz.prog 119 [.string v1,.string ⟨⟨[48,49,50,51,52,53,54,55]⟩⟩] kS (fun(x8:ByteArray)=>j2 v1 (!strEq x8 (⟨⟨[]⟩⟩:ByteArray)))))
theorem c107 (v1:ByteArray) {K:KH} {σ:H}:g107 v1 K σ->callW Tryz.prog 107 [.string v1] K σ:=call_k an107 Tryz.func107 (by kernel_rfl)


def an108:Ann:=(.q (.seq (some [(0,.s),(1,.p),(2,.p)]) (.q (.seq (some [(0,.s),(1,.p),(2,.p),(24,.b)]) .r (.cond (.n (.reg (rn 12) [[],[0],[0,1],[0,1,2],[],[4],[4,5],[4,5,6],[4,5,6,7],[],(rn 10),(rn 11)]) (.q (.h))) .z))) (.n (.q (.cond (.n (.reg (rn 13) [[],[0],[0,1],[0,1,2],[],[4],[4,5],[4,5,6],[4,5,6,7],[],[],(rn 11),(rn 12)]) .z) .z)) (.n (.reg (rn 13) [[],[0],[0,1],[0,1,2],[],[4],[4,5],[4,5,6],[4,5,6,7],[],[],(rn 11),(rn 12)]) .z))))
def g108 (v1:ByteArray) (x2:Option Addr) (x3:Option Addr) (K:KH):H->Prop :=
 letJ (T:=ByteArray->Option Addr->Option Addr->H->Prop) (fun v5 x6 x7=>ptrW x6 (fun b8 o9=>rdT (rdC b8 o9) kP (fun x10=>callT Tryz.prog 99 [.pointer x10,.int .u8 115] kB (fun x11=>brW x11 (ptrW x6 (fun b12 o13=>rdT (rdC b12 o13) kP (fun x14=>ptrW x14 (fun b15 o16=>rdT (rdC b15 (o16+4)) kP (fun x17=>ptrW x6 (fun b18 o19=>rdT (rdC b18 o19) kP (fun x20=>ptrW x20 (fun b21 o22=>rdT (rdC b21 (o22+3)) kS (fun(x23:ByteArray)=>ptrW x7 (fun b24 o25 =>
 rdT (rdC b24 o25) kS (fun(x26:ByteArray)=>callT Tryz.prog 11 [.pointer x17,.string x23,.string x26,.string v5] kI (fun(x27:Int)=>K (.int .i64 x27))))))))))))) (ptrW x6 (fun b28 o29=>rdT (rdC b28 o29) kP (fun x30=>ptrW x30 (fun b31 o32=>rdT (rdC b31 (o32+4)) kP (fun x33=>ptrW x6 (fun b34 o35=>rdT (rdC b34 o35) kP (fun x36=>ptrW x36 (fun b37 o38=>rdT (rdC b37 (o38+3)) kS (fun(x39:ByteArray)=>ptrW x7 (fun b40 o41 =>
 rdT (rdC b40 o41) kS (fun(x42:ByteArray)=>callT Tryz.prog 109 [.pointer x33,.string x39,.string x42,.string v5] kI (fun(x43:Int)=>K (.int .i64 x43))))))))))))))))) (fun j4=>ptrW x2 (fun b44 o45=>rdT (rdC b44 o45) kP (fun x46=>callT Tryz.prog 103 [.pointer x46,.string v1,.bool false] (.tup [.agg [(.int .i64),(.int .i64),.str,(.int .i64)],.sc (.int .i64)]) (fun(x47:Int) (x48:Int) (x49:ByteArray) (x50:Int) (x51:Int) =>
 alW (.cells ⟨[.int .i64 0,.int .i64 0,.string ⟨⟨[]⟩⟩,.int .i64 0]⟩ 73 (0,0)) (fun b52=>stW Tryz.prog 73 (.pointer (some ⟨b52,0,none⟩)) (.agg ⟨[.int .i64 x47,.int .i64 x48,.string x49,.int .i64 x50]⟩) (letJ (T:=ByteArray->Option Addr->Option Addr->Bool->H->Prop) (fun v54 x55 x56 x57=>brW x57 (ptrW x55 (fun b58 o59=>rdT (rdC b58 o59) kP (fun x60=>ptrW x60 (fun b61 o62=>rdT (rdC b61 (o62+4)) kP (fun x63=>ptrW x55 (fun b64 o65 =>
 rdT (rdC b64 o65) kP (fun x66=>ptrW x66 (fun b67 o68=>rdT (rdC b67 (o68+3)) kS (fun(x69:ByteArray)=>callT Tryz.prog 104 [.pointer x63,.string x69,.string v54] kI (fun(x70:Int)=>brW ((x70:Int) != 0) (K (.int .i64 x70)) (j4 v54 x55 x56))))))))))) (j4 v54 x55 x56)) (fun j53=>ptrW x2 (fun b71 o72=>rdT (rdC b71 o72) kP (fun x73=>callT Tryz.prog 99 [.pointer x73,.int .u8 102] kB (fun x74=>brW x74 (brW ((x51:Int)==0) (rdT (rdC b52 0) kI (fun(x75:Int) =>
 j53 v1 x2 x3 ((x75:Int) != 2))) (j53 v1 x2 x3 false)) (j53 v1 x2 x3 false)))))))))))
theorem c108 (v1:ByteArray) (x2:Option Addr) (x3:Option Addr) {K:KH} {σ:H}:g108 v1 x2 x3 K σ->callW Tryz.prog 108 [.string v1,.pointer x2,.pointer x3] K σ:=call_k an108 Tryz.func108 (by kernel_rfl)


def an109:Ann:=(.q (.q (.n (.blk (.q (.cond (.q .z) (.q (.cond (.q .z) (.q (.cond (.q .z) (.q (.cond (.q .z) (.q (.h))))))))))) (.n (.reg (rn 12) [[],[0],[0,1],[0,1,2],[],[4],[],[6],[],[8],(rn 10),(rn 11)]) .z))))
def g109 (v1:Option Addr) (v2:ByteArray) (v3:ByteArray) (v4:ByteArray) (K:KH):H->Prop :=
 callT Tryz.prog 157 [.pointer v1,.string v2,.string v3,.string v4] (.tup [.agg [(.int .i64),.str,(.int .i64),.bool],.agg [(.int .i64),.str,(.int .i64),.bool],.sc (.int .i64)]) (fun(x5:Int) (x6:ByteArray) (x7:Int) (x8:Bool) (x9:Int) (x10:ByteArray) (x11:Int) (x12:Bool) (x13:Int)=>alW (.cells ⟨[.int .i64 0,.string ⟨⟨[]⟩⟩,.int .i64 0,.bool false]⟩ 65 (0,0)) (fun b14 =>
 alW (.cells ⟨[.int .i64 0,.string ⟨⟨[]⟩⟩,.int .i64 0,.bool false]⟩ 65 (0,0)) (fun b15=>stW Tryz.prog 65 (.pointer (some ⟨b14,0,none⟩)) (.agg ⟨[.int .i64 x5,.string x6,.int .i64 x7,.bool x8]⟩) (stW Tryz.prog 65 (.pointer (some ⟨b15,0,none⟩)) (.agg ⟨[.int .i64 x9,.string x10,.int .i64 x11,.bool x12]⟩) (brW ((x13:Int) != 0) (K (.int .i64 x13)) (rdT (rdC b14 3) kB (fun x16=>brW (!x16) (K (.int .i64 5)) (rdT (rdC b14 2) kI (fun(x17:Int) =>
 callT Tryz.prog 84 [.pointer v1,.int .i64 x17] kI (fun(x18:Int)=>brW ((x18:Int)==2) (K (.int .i64 7)) (rdT (rdC b14 2) kI (fun(x19:Int)=>callT Tryz.prog 84 [.pointer v1,.int .i64 x19] kI (fun(x20:Int)=>brW ((x20:Int)==3) (K (.int .i64 2)) (rdT (rdC b15 3) kB (fun x21=>brW x21 (K (.int .i64 6)) (ptrW v1 (fun b22 o23=>rdT (rdC b22 o23) kP (fun x24=>rdT (rdC b15 0) kI (fun(x25:Int)=>rdT (rdC b15 1) kS (fun(x26:ByteArray) =>
 rdT (rdC b14 2) kI (fun(x27:Int)=>callT Tryz.prog 158 [.pointer x24,.int .i64 x25,.string x26,.int .i64 x27] kI (fun(x28:Int)=>K (.int .i64 x28)))))))))))))))))))))))
theorem c109 (v1:Option Addr) (v2:ByteArray) (v3:ByteArray) (v4:ByteArray) {K:KH} {σ:H}:g109 v1 v2 v3 v4 K σ->callW Tryz.prog 109 [.pointer v1,.string v2,.string v3,.string v4] K σ:=call_k an109 Tryz.func109 (by kernel_rfl)


def an110:Ann:=(.q (.q (.seq (some [(0,.p),(1,.s)]) (.blk (.seq (some [(0,.p),(1,.s),(5,.p),(6,.i),(17,.b)]) .r (.cond (.q .z) (.q (.cond (.q .z) (.seq (some [(0,.p),(1,.s),(5,.p),(28,.b)]) .r (.cond (.q .z) (.q (.cond (.n (.reg (rn 16) [[],[0],[0,1],[0,1,2],[],[4],[4,5],[4,5,6],[4,5,6,7],[],(rn 10),(rn 11),(rn 12),(rn 12),(rn 13),(rn 15)]) (.q (.blk (.loop [(0,.p),(1,.s),(55,.l),(56,.i),(57,.i)] (.q (.n (.cond .z .z) (.n (.blk (.q .r)) .r))))))) .z))))))))) (.n (.reg (rn 12) [[],[0],[0,1],[0,1,2],[],[4],[4,5],[4,5,6],[4,5,6,7],[],(rn 10),(rn 11)]) .z))))
def g110 (v1:Option Addr) (v2:ByteArray) (K:KH):H->Prop :=
 callT Tryz.prog 103 [.pointer v1,.string v2,.bool false] (.tup [.agg [(.int .i64),(.int .i64),.str,(.int .i64)],.sc (.int .i64)]) (fun(x3:Int) (x4:Int) (x5:ByteArray) (x6:Int) (x7:Int)=>alW (.cells ⟨[.int .i64 0,.int .i64 0,.string ⟨⟨[]⟩⟩,.int .i64 0]⟩ 73 (0,0)) (fun b8=>stW Tryz.prog 73 (.pointer (some ⟨b8,0,none⟩)) (.agg ⟨[.int .i64 x3,.int .i64 x4,.string x5,.int .i64 x6]⟩) (letJ (T:=Option Addr->ByteArray->H->Prop) (fun v10 v11 =>
 ptrW v10 (fun b12 o13=>rdT (rdC b12 (o13+4)) kP (fun x14=>ptrW v10 (fun b15 o16=>rdT (rdC b15 (o16+3)) kS (fun(x17:ByteArray)=>callT Tryz.prog 104 [.pointer x14,.string x17,.string v11] kI (fun(x18:Int)=>K (.int .i64 x18))))))) (fun j9=>letJ (T:=Option Addr->ByteArray->Option Addr->Int->Bool->H->Prop) (fun v20 v21 v22 v23 x24=>brW x24 (K (.int .i64 0)) (brW ((v23:Int) != 0) (K (.int .i64 v23))
 (letJ (T:=Option Addr->ByteArray->Option Addr->Bool->H->Prop) (fun v26 v27 v28 x29=>brW x29 (K (.int .i64 7)) (ptrW v28 (fun b30 o31=>rdT (rdC b30 o31) kI (fun(x32:Int)=>brW ((x32:Int)==2) (ptrW v26 (fun b33 o34=>rdT (rdC b33 (o34+4)) kP (fun x35=>ptrW v26 (fun b36 o37=>rdT (rdC b36 (o37+3)) kS (fun(x38:ByteArray)=>callT Tryz.prog 23 [.pointer x35,.string x38,.string v27] (.tup [.sc .slc,.sc (.int .i64)]) (fun(x39:Sl) (_x40:Int) =>
 loopW [.sc .ptr,.sc .str,.sc .slc,.sc (.int .i64),.sc (.int .i64)] (fun(R41:Option Addr->ByteArray->Sl->Int->Int->H->Prop)=>(fun(v42:Option Addr) (v43:ByteArray) (x44:Sl) (x45:Int) (x46:Int)=>brW (decide ((x46:Int)<x45)) (ptrW x44.base (fun b47 o48=>ifW (0<=x46/\x46<((x44.len:Nat):Int)) (rdT (rdC b47 (o48+x46.toNat * 1)) kS (fun(x49:ByteArray)=>ifW (v43.size+(⟨⟨[47]⟩⟩:ByteArray).size<=9223372036854775807)
 (ifW ((v43++⟨⟨[47]⟩⟩).size+x49.size<=9223372036854775807) (ifW (v43.size+(⟨⟨[47]⟩⟩:ByteArray).size<=9223372036854775807) (ifW ((v43++⟨⟨[47]⟩⟩).size+x49.size<=9223372036854775807) (callT Tryz.prog 110 [.pointer v42,.string ((v43++⟨⟨[47]⟩⟩)++x49)] kI (fun(x50:Int)=>callT Tryz.prog 153 [.pointer v42,.string ((v43++⟨⟨[47]⟩⟩)++x49),.int .i64 x50] kB (fun _x51 =>
 R41 v42 v43 x44 x45 (IntKind.i64.wrap (x46+1)))))))))))) (j9 v42 v43))) (fun(R52:Option Addr->ByteArray->Sl->Int->Int->H->Prop)=>R52 v26 v27 x39 ((x39.len:Nat):Int) 0))))))) (j9 v26 v27))))) (fun j25=>ptrW v22 (fun b53 o54=>rdT (rdC b53 o54) kI (fun(x55:Int)=>brW ((x55:Int)==2) (callT Tryz.prog 99 [.pointer v20,.int .u8 114] kB (fun x56=>j25 v20 v21 v22 (!x56))) (j25 v20 v21 v22 false))))))) (fun j19=>brW ((x7:Int)==5)
 (callT Tryz.prog 99 [.pointer v1,.int .u8 102] kB (fun x57=>j19 v1 v2 (some ⟨b8,0,none⟩) x7 x57)) (j19 v1 v2 (some ⟨b8,0,none⟩) x7 false))))))
theorem c110 (v1:Option Addr) (v2:ByteArray) {K:KH} {σ:H}:g110 v1 v2 K σ->callW Tryz.prog 110 [.pointer v1,.string v2] K σ:=call_k an110 Tryz.func110 (by kernel_rfl)

end Go.Proofs.YtbdlkofldmhoaaaGreatDoor

set_option maxRecDepth 100000
namespace Go.Proofs.YtbdlkofldmhoaaaGreatDoor
open Go Go.HL
def an111:Ann:=(.q (.n (.reg (rn 14) [[],[0],[0,1],[0,1,2],[],[4],[4,5],[4,5,6],[4,5,6,7],[4,5,6,7,8],(rn 10),(rn 11),[],(rn 13)]) (.n (.reg (rn 15) [[],[],[1],[1,2],[1,2,3],[],[5],[5,6],[5,6,7],[5,6,7,8],[5,6,7,8,9],[1,2,3,4,5,6,7,8,9,10],(rn 12),(rn 13),(rn 14)]) (.q (.n (.seq (some [(0,.p),(3,.p),(4,.p),(5,.p),(44,.b)]) .r (.h)) .r)))))
def g111 (v1:Option Addr) (v2:Value) (K:KH):H->Prop :=
 oneK v2 (alW (.cells ⟨[v2]⟩ 27 (0,0)) (fun b3=>ptrW v1 (fun b4 o5=>rdT (rdC b4 (o5+9)) kL (fun x6=>ptrW v1 (fun b7 o8=>rdT (rdC b7 (o8+9)) kL (fun x9=>ptrW x6.base (fun b10 o11=>ifW (0<=IntKind.i64.wrap (((x9.len:Nat):Int) - 1)/\IntKind.i64.wrap (((x9.len:Nat):Int) - 1)<((x6.len:Nat):Int)) (rdT (rdC b10 (o11+(IntKind.i64.wrap (((x9.len:Nat):Int) - 1):Int).toNat * 1)) kS (fun(x12:ByteArray) =>
 alW (.cells ⟨[.string ⟨⟨[]⟩⟩]⟩ 9 (0,0)) (fun b13=>stW Tryz.prog 9 (.pointer (some ⟨b13,0,none⟩)) (.string x12) (ptrW v1 (fun b14 o15=>rdT (rdC b14 (o15+9)) kL (fun x16=>ptrW v1 (fun b17 o18=>rdT (rdC b17 (o18+9)) kL (fun x19=>ifW (bndOk (some (IntKind.i64.wrap (((x19.len:Nat):Int) - 1))) x16.cap/\bndOk none ((IntKind.i64.wrap (((x19.len:Nat):Int) - 1)).toNat)) (ptrW v1 (fun b20 o21 =>
 stW Tryz.prog 30 (.pointer (some ⟨b20,o21+9,none⟩)) (.slice (slBase x16.base 0 x16.cap 1) (((IntKind.i64.wrap (((x19.len:Nat):Int) - 1)).toNat) - 0) (x16.cap - 0)) (rdT (rdC b13 0) kS (fun(x22:ByteArray)=>callT Tryz.prog 116 [.pointer v1,.string x22] kB (fun x23=>alW (.cells ⟨[.bool false]⟩ 4 (0,0)) (fun b24 =>
 stW Tryz.prog 4 (.pointer (some ⟨b24,0,none⟩)) (.bool x23) (letJ (T:=Option Addr->Option Addr->Option Addr->Option Addr->Bool->H->Prop) (fun v26 v27 v28 v29 x30=>brW x30 (ptrW v28 (fun b31 o32=>rdT (rdC b31 o32) kS (fun(x33:ByteArray)=>callT Tryz.prog 153 [.pointer v26,.string x33,.int .i64 8] kB (fun _x34=>K (.tuple ⟨[]⟩)))))
 (callT Tryz.prog 97 [.pointer v26,.func (.func 159) ⟨[]⟩ ⟨[.pointer v29,.pointer v27,.pointer v28]⟩] kU (K (.tuple ⟨[]⟩)))) (fun j25=>rdT (rdC b24 0) kB (fun x35=>brW (!x35) (ptrW v1 (fun b36 o37=>rdT (rdC b36 (o37+9)) kL (fun x38=>j25 v1 (some ⟨b3,0,none⟩) (some ⟨b13,0,none⟩) (some ⟨b24,0,none⟩) (decide (((x38.len:Nat):Int)>1))))) (j25 v1 (some ⟨b3,0,none⟩) (some ⟨b13,0,none⟩) (some ⟨b24,0,none⟩) false)))))))))))))))))))))))))
theorem c111 (v1:Option Addr) (v2:Value) {K:KH} {σ:H}:g111 v1 v2 K σ->callW Tryz.prog 111 [.pointer v1,v2] K σ:=call_k an111 Tryz.func111 (by kernel_rfl)


def an112:Ann:=(.q (.n (.reg (rn 13) [[],[0],[0,1],[0,1,2],[],[4],[4,5],[4,5,6],[4,5,6,7],[],[],(rn 11),(rn 12)]) .z))
def g112 (v1:ByteArray) (v2:ByteArray) (x3:Option Addr) (K:KH):H->Prop :=
 ptrW x3 (fun b4 o5=>rdT (rdC b4 o5) kP (fun x6=>ptrW x6 (fun b7 o8=>rdT (rdC b7 (o8+4)) kP (fun x9=>ptrW x3 (fun b10 o11=>rdT (rdC b10 o11) kP (fun x12=>ptrW x12 (fun b13 o14=>rdT (rdC b13 (o14+3)) kS (fun(x15:ByteArray)=>callT Tryz.prog 113 [.pointer x9,.string x15,.string v1,.string v2] kI (fun(x16:Int)=>K (.int .i64 x16))))))))))
theorem c112 (v1:ByteArray) (v2:ByteArray) (x3:Option Addr) {K:KH} {σ:H}:g112 v1 v2 x3 K σ->callW Tryz.prog 112 [.string v1,.string v2,.pointer x3] K σ:=call_k an112 Tryz.func112 (by kernel_rfl)


def an113:Ann:=(.q (.q (.n (.blk (.q (.cond (.q .z) (.seq (some [(0,.p),(9,.p),(10,.p),(27,.b)]) .r (.cond (.q .z) (.q (.cond (.q .z) (.seq (some [(0,.p),(9,.p),(10,.p),(40,.b)]) .r (.h))))))))) (.n (.q (.q (.h))) (.seq (some [(0,.p),(9,.p),(10,.p)]) (.q (.cond (.n (.reg (rn 10) [[],[0],[0,1],[0,1,2],[],[4],[],[6],(rn 8),(rn 9)]) (.q (.h))) .z)) (.n (.reg (rn 14) [[],[0],[0,1],[0,1,2],[],[4],[],[6],[],[8],[],[10],(rn 12),(rn 13)]) .z))))))
def g113 (v1:Option Addr) (v2:ByteArray) (v3:ByteArray) (v4:ByteArray) (K:KH):H->Prop :=
 callT Tryz.prog 157 [.pointer v1,.string v2,.string v3,.string v4] (.tup [.agg [(.int .i64),.str,(.int .i64),.bool],.agg [(.int .i64),.str,(.int .i64),.bool],.sc (.int .i64)]) (fun(x5:Int) (x6:ByteArray) (x7:Int) (x8:Bool) (x9:Int) (x10:ByteArray) (x11:Int) (x12:Bool) (x13:Int)=>alW (.cells ⟨[.int .i64 0,.string ⟨⟨[]⟩⟩,.int .i64 0,.bool false]⟩ 65 (0,0)) (fun b14 =>
 alW (.cells ⟨[.int .i64 0,.string ⟨⟨[]⟩⟩,.int .i64 0,.bool false]⟩ 65 (0,0)) (fun b15=>stW Tryz.prog 65 (.pointer (some ⟨b14,0,none⟩)) (.agg ⟨[.int .i64 x5,.string x6,.int .i64 x7,.bool x8]⟩) (stW Tryz.prog 65 (.pointer (some ⟨b15,0,none⟩)) (.agg ⟨[.int .i64 x9,.string x10,.int .i64 x11,.bool x12]⟩) (brW ((x13:Int) != 0) (K (.int .i64 x13)) (letJ (T:=Option Addr->Option Addr->Option Addr->Bool->H->Prop) (fun v17 v18 v19 x20=>brW x20 (K (.int .i64 2))
 (ptrW v18 (fun b21 o22=>rdT (rdC b21 (o22+3)) kB (fun x23=>brW (!x23) (K (.int .i64 5)) (letJ (T:=Option Addr->Option Addr->Option Addr->Bool->H->Prop) (fun v25 v26 v27 x28=>brW x28 (K (.int .i64 0)) (ptrW v26 (fun b29 o30=>rdT (rdA 4 b29 o30) (.one (.agg [(.int .i64),.str,(.int .i64),.bool])) (fun(x31:Int) (x32:ByteArray) (x33:Int) (x34:Bool)=>ptrW v27 (fun b35 o36 =>
 rdT (rdA 4 b35 o36) (.one (.agg [(.int .i64),.str,(.int .i64),.bool])) (fun(x37:Int) (x38:ByteArray) (x39:Int) (x40:Bool)=>callT Tryz.prog 161 [.pointer v25,.agg ⟨[.int .i64 x31,.string x32,.int .i64 x33,.bool x34]⟩,.agg ⟨[.int .i64 x37,.string x38,.int .i64 x39,.bool x40]⟩] kI (fun(x41:Int)=>brW ((x41:Int) != 0) (K (.int .i64 x41)) (letJ (T:=Option Addr->Option Addr->Option Addr->H->Prop) (fun v43 v44 v45=>ptrW v43 (fun b46 o47 =>
 rdT (rdC b46 o47) kP (fun x48=>ptrW v44 (fun b49 o50=>rdT (rdC b49 o50) kI (fun(x51:Int)=>ptrW v44 (fun b52 o53=>rdT (rdC b52 (o53+1)) kS (fun(x54:ByteArray)=>ptrW v45 (fun b55 o56=>rdT (rdC b55 o56) kI (fun(x57:Int)=>ptrW v45 (fun b58 o59=>rdT (rdC b58 (o59+1)) kS (fun(x60:ByteArray)=>callT Tryz.prog 162 [.pointer x48,.int .i64 x51,.string x54,.int .i64 x57,.string x60] kI (fun(x61:Int)=>K (.int .i64 x61))))))))))))) (fun j42 =>
 ptrW v27 (fun b62 o63=>rdT (rdC b62 (o63+3)) kB (fun x64=>brW x64 (ptrW v25 (fun b65 o66=>rdT (rdC b65 o66) kP (fun x67=>ptrW v27 (fun b68 o69=>rdT (rdC b68 o69) kI (fun(x70:Int)=>ptrW v27 (fun b71 o72=>rdT (rdC b71 (o72+1)) kS (fun(x73:ByteArray)=>callT Tryz.prog 155 [.pointer x67,.int .i64 x70,.string x73] kI (fun(x74:Int)=>brW ((x74:Int) != 0) (K (.int .i64 x74)) (j42 v25 v26 v27))))))))) (j42 v25 v26 v27)))))))))))) (fun j24 =>
 ptrW v19 (fun b75 o76=>rdT (rdC b75 (o76+3)) kB (fun x77=>brW x77 (ptrW v18 (fun b78 o79=>rdT (rdC b78 (o79+2)) kI (fun(x80:Int)=>ptrW v19 (fun b81 o82=>rdT (rdC b81 (o82+2)) kI (fun(x83:Int)=>j24 v17 v18 v19 ((x80:Int)==x83)))))) (j24 v17 v18 v19 false))))))))) (fun j16=>rdT (rdC b14 1) kS (fun(x84:ByteArray)=>brW (strEq x84 (⟨⟨[]⟩⟩:ByteArray)) (j16 v1 (some ⟨b14,0,none⟩) (some ⟨b15,0,none⟩) true) (rdT (rdC b15 1) kS (fun(x85:ByteArray) =>
 j16 v1 (some ⟨b14,0,none⟩) (some ⟨b15,0,none⟩) (strEq x85 (⟨⟨[]⟩⟩:ByteArray))))))))))))
theorem c113 (v1:Option Addr) (v2:ByteArray) (v3:ByteArray) (v4:ByteArray) {K:KH} {σ:H}:g113 v1 v2 v3 v4 K σ->callW Tryz.prog 113 [.pointer v1,.string v2,.string v3,.string v4] K σ:=call_k an113 Tryz.func113 (by kernel_rfl)


def an114:Ann:=(.q (.q (.n (.blk (.q (.cond (.q .z) (.q (.cond (.n (.reg (rn 14) [[],[0],[0,1],[0,1,2],[],[4],[4,5],[4,5,6],[4,5,6,7],[],[9],[],(rn 12),(rn 13)]) .z) (.q (.cond (.q .z) (.q (.cond (.q .z) (.q (.h))))))))))) (.n (.q (.q (.h))) (.n (.reg (rn 16) [[],[0],[0,1],[0,1,2],[],[4],[4,5],[4,5,6],[4,5,6,7],[],(rn 10),(rn 11),(rn 12),(rn 12),(rn 13),(rn 15)]) (.n (.q (.blk (.loop [(0,.p),(1,.s),(2,.s),(83,.l),(84,.i),(85,.i)] (.q (.n (.cond .z .z) (.seq (some [(0,.p),(1,.s),(2,.s),(83,.l),(84,.i),(85,.i)]) (.blk (.q (.q (.cond .r .z)))) .r)))))) (.q .z)))))))
def g114 (v1:Option Addr) (v2:ByteArray) (v3:ByteArray) (K:KH):H->Prop :=
 callT Tryz.prog 99 [.pointer v1,.int .u8 114] kB (fun x4=>callT Tryz.prog 103 [.pointer v1,.string v2,.bool (!x4)] (.tup [.agg [(.int .i64),(.int .i64),.str,(.int .i64)],.sc (.int .i64)]) (fun(x5:Int) (x6:Int) (x7:ByteArray) (x8:Int) (x9:Int)=>alW (.cells ⟨[.int .i64 0,.int .i64 0,.string ⟨⟨[]⟩⟩,.int .i64 0]⟩ 73 (0,0)) (fun b10 =>
 stW Tryz.prog 73 (.pointer (some ⟨b10,0,none⟩)) (.agg ⟨[.int .i64 x5,.int .i64 x6,.string x7,.int .i64 x8]⟩) (brW ((x9:Int) != 0) (K (.int .i64 x9)) (rdT (rdC b10 0) kI (fun(x11:Int)=>brW ((x11:Int)==3) (ptrW v1 (fun b12 o13=>rdT (rdC b12 (o13+4)) kP (fun x14=>ptrW v1 (fun b15 o16=>rdT (rdC b15 (o16+3)) kS (fun(x17:ByteArray)=>rdT (rdC b10 2) kS (fun(x18:ByteArray) =>
 callT Tryz.prog 11 [.pointer x14,.string x17,.string x18,.string v3] kI (fun(x19:Int)=>K (.int .i64 x19)))))))) (rdT (rdC b10 0) kI (fun(x20:Int)=>brW ((x20:Int)==1) (rdT (rdC b10 1) kI (fun(x21:Int)=>callT Tryz.prog 163 [.pointer v1,.string v2,.string v3,.int .i64 x21] kI (fun(x22:Int)=>K (.int .i64 x22)))) (callT Tryz.prog 99 [.pointer v1,.int .u8 114] kB (fun x23=>brW (!x23) (K (.int .i64 7))
 (callT Tryz.prog 164 [.pointer v1,.string v2,.string v3] kB (fun x24=>brW x24 (K (.int .i64 2)) (callT Tryz.prog 101 [.pointer v1,.string v3] kI (fun(x25:Int)=>brW ((x25:Int) != 0) (K (.int .i64 x25)) (ptrW v1 (fun b26 o27=>rdT (rdC b26 (o27+4)) kP (fun x28=>ptrW v1 (fun b29 o30=>rdT (rdC b29 (o30+3)) kS (fun(x31:ByteArray)=>callT Tryz.prog 23 [.pointer x28,.string x31,.string v2] (.tup [.sc .slc,.sc (.int .i64)]) (fun(x32:Sl) (_x33:Int) =>
 loopW [.sc .ptr,.sc .str,.sc .str,.sc .slc,.sc (.int .i64),.sc (.int .i64)] (fun(R34:Option Addr->ByteArray->ByteArray->Sl->Int->Int->H->Prop)=>(fun(v35:Option Addr) (v36:ByteArray) (v37:ByteArray) (x38:Sl) (x39:Int) (x40:Int)=>brW (decide ((x40:Int)<x39)) (letJ (T:=Option Addr->ByteArray->ByteArray->Sl->Int->Int->H->Prop) (fun v42 v43 v44 x45 x46 x47=>R34 v42 v43 v44 x45 x46 (IntKind.i64.wrap (x47+1))) (fun j41 =>
 ptrW x38.base (fun b48 o49=>ifW (0<=x40/\x40<((x38.len:Nat):Int)) (rdT (rdC b48 (o49+x40.toNat * 1)) kS (fun(x50:ByteArray)=>ptrW v35 (fun b51 o52=>rdT (rdC b51 (o52+10)) kB (fun x53=>brW (!x53) (ifW (v36.size+(⟨⟨[47]⟩⟩:ByteArray).size<=9223372036854775807) (ifW ((v36++⟨⟨[47]⟩⟩).size+x50.size<=9223372036854775807) (ifW (v36.size+(⟨⟨[47]⟩⟩:ByteArray).size<=9223372036854775807)
 (ifW ((v36++⟨⟨[47]⟩⟩).size+x50.size<=9223372036854775807) (ifW (v37.size+(⟨⟨[47]⟩⟩:ByteArray).size<=9223372036854775807) (ifW ((v37++⟨⟨[47]⟩⟩).size+x50.size<=9223372036854775807) (callT Tryz.prog 114 [.pointer v35,.string ((v36++⟨⟨[47]⟩⟩)++x50),.string ((v37++⟨⟨[47]⟩⟩)++x50)] kI (fun(x54:Int) =>
 callT Tryz.prog 153 [.pointer v35,.string ((v36++⟨⟨[47]⟩⟩)++x50),.int .i64 x54] kB (fun _x55=>j41 v35 v36 v37 x38 x39 x40))))))))) (j41 v35 v36 v37 x38 x39 x40)))))))) (K (.int .i64 0)))) (fun(R56:Option Addr->ByteArray->ByteArray->Sl->Int->Int->H->Prop)=>R56 v1 v2 v3 x32 ((x32.len:Nat):Int) 0)))))))))))))))))))))
theorem c114 (v1:Option Addr) (v2:ByteArray) (v3:ByteArray) {K:KH} {σ:H}:g114 v1 v2 v3 K σ->callW Tryz.prog 114 [.pointer v1,.string v2,.string v3] K σ:=call_k an114 Tryz.func114 (by kernel_rfl)


def an115:Ann:=(.q (.n (.q (.cond (.q (.q .z)) .z)) (.q (.seq (some [(0,.s),(3,.p),(7,.i)]) (.q (.cond .r .z)) (.seq (some [(7,.i)]) (.q (.cond .r .z)) (.q .z))))))
def g115 (v1:ByteArray) (x2:Option Addr) (x3:Option Addr) (x4:Option Addr) (K:KH):H->Prop :=
 ptrW x2 (fun b5 o6=>rdT (rdC b5 o6) kP (fun x7=>callT Tryz.prog 116 [.pointer x7,.string v1] kB (fun x8=>brW x8 (ptrW x3 (fun b9 o10=>rdT (rdC b9 o10) kL (fun x11=>alW (.cells ⟨[.string v1]⟩ 9 (0,0)) (fun b12=>biW Tryz.prog .append #[30,30] 30 [false,false] [.slice x11.base x11.len x11.cap,.slice (some ⟨b12,0,none⟩) 1 1] kL (fun x13=>stW Tryz.prog 30 (.pointer x3) (.slice x13.base x13.len x13.cap) (K (.int .i64 0))))))) (ptrW x2 (fun b14 o15 =>
 rdT (rdC b14 o15) kP (fun x16=>callT Tryz.prog 103 [.pointer x16,.string v1,.bool true] (.tup [.agg [(.int .i64),(.int .i64),.str,(.int .i64)],.sc (.int .i64)]) (fun(x17:Int) (x18:Int) (x19:ByteArray) (x20:Int) (x21:Int)=>alW (.cells ⟨[.int .i64 0,.int .i64 0,.string ⟨⟨[]⟩⟩,.int .i64 0]⟩ 73 (0,0)) (fun b22 =>
 stW Tryz.prog 73 (.pointer (some ⟨b22,0,none⟩)) (.agg ⟨[.int .i64 x17,.int .i64 x18,.string x19,.int .i64 x20]⟩) (letJ (T:=ByteArray->Option Addr->Int->H->Prop) (fun v24 x25 v26=>letJ (T:=Int->H->Prop) (fun v28=>K (.int .i64 v28)) (fun j27=>brW ((v26:Int)==0) (ptrW x25 (fun b29 o30=>rdT (rdC b29 o30) kL (fun x31=>alW (.cells ⟨[.string v24]⟩ 9 (0,0)) (fun b32 =>
 biW Tryz.prog .append #[30,30] 30 [false,false] [.slice x31.base x31.len x31.cap,.slice (some ⟨b32,0,none⟩) 1 1] kL (fun x33=>stW Tryz.prog 30 (.pointer x25) (.slice x33.base x33.len x33.cap) (j27 v26)))))) (j27 v26))) (fun j23=>brW ((x21:Int) != 0) (ptrW x2 (fun b34 o35=>rdT (rdC b34 o35) kP (fun x36 =>
 callT Tryz.prog 103 [.pointer x36,.string v1,.bool false] (.tup [.agg [(.int .i64),(.int .i64),.str,(.int .i64)],.sc (.int .i64)]) (fun(_x37:Int) (_x38:Int) (_x39:ByteArray) (_x40:Int) (x41:Int)=>j23 v1 x4 x41)))) (j23 v1 x4 x21)))))))))))
theorem c115 (v1:ByteArray) (x2:Option Addr) (x3:Option Addr) (x4:Option Addr) {K:KH} {σ:H}:g115 v1 x2 x3 x4 K σ->callW Tryz.prog 115 [.string v1,.pointer x2,.pointer x3,.pointer x4] K σ:=call_k an115 Tryz.func115 (by kernel_rfl)


def an116:Ann:=(.q (.q (.q .z)))
def g116 (v1:Option Addr) (v2:ByteArray) (K:KH):H->Prop :=
 callT Tryz.prog 103 [.pointer v1,.string v2,.bool true] (.tup [.agg [(.int .i64),(.int .i64),.str,(.int .i64)],.sc (.int .i64)]) (fun(x3:Int) (x4:Int) (x5:ByteArray) (x6:Int) (x7:Int)=>alW (.cells ⟨[.int .i64 0,.int .i64 0,.string ⟨⟨[]⟩⟩,.int .i64 0]⟩ 73 (0,0)) (fun b8=>stW Tryz.prog 73 (.pointer (some ⟨b8,0,none⟩)) (.agg ⟨[.int .i64 x3,.int .i64 x4,.string x5,.int .i64 x6]⟩) (brW ((x7:Int)==0) (rdT (rdC b8 0) kI (fun(x9:Int) =>
 K (.bool ((x9:Int)==2)))) (K (.bool false)))))
theorem c116 (v1:Option Addr) (v2:ByteArray) {K:KH} {σ:H}:g116 v1 v2 K σ->callW Tryz.prog 116 [.pointer v1,.string v2] K σ:=call_k an116 Tryz.func116 (by kernel_rfl)


def an118:Ann:=(.seq (some [(0,.p),(1,.s)]) (.q (.cond .r .z)) (.n (.reg (rn 16) [[],[0],[0,1],[0,1,2],[],[4],[4,5],[4,5,6],[4,5,6,7],[],(rn 10),(rn 11),(rn 12),(rn 12),(rn 13),(rn 15)]) (.q (.blk (.loop [(0,.p),(36,.l),(37,.i),(38,.i)] (.q (.n (.cond .z .z) (.seq (some [(0,.p),(36,.l),(37,.i),(38,.i)]) (.blk (.q (.seq (some [(0,.p),(9,.s),(36,.l),(37,.i),(38,.i),(48,.b)]) .r (.cond .r .z)))) .r))))))))
def g118 (v1:Option Addr) (v2:ByteArray) (v3:Bool) (K:KH):H->Prop :=
 letJ (T:=Option Addr->ByteArray->H->Prop) (fun v5 v6=>ptrW v5 (fun b7 o8=>rdT (rdC b7 (o8+4)) kP (fun x9=>ptrW v5 (fun b10 o11=>rdT (rdC b10 (o11+3)) kS (fun(x12:ByteArray)=>callT Tryz.prog 23 [.pointer x9,.string x12,.string v6] (.tup [.sc .slc,.sc (.int .i64)]) (fun(x13:Sl) (_x14:Int) =>
 loopW [.sc .ptr,.sc .slc,.sc (.int .i64),.sc (.int .i64)] (fun(R15:Option Addr->Sl->Int->Int->H->Prop)=>(fun(v16:Option Addr) (x17:Sl) (x18:Int) (x19:Int)=>brW (decide ((x19:Int)<x18)) (letJ (T:=Option Addr->Sl->Int->Int->H->Prop) (fun v21 x22 x23 x24=>R15 v21 x22 x23 (IntKind.i64.wrap (x24+1))) (fun j20=>ptrW x17.base (fun b25 o26=>ifW (0<=x19/\x19<((x17.len:Nat):Int)) (rdT (rdC b25 (o26+x19.toNat * 1)) kS (fun(x27:ByteArray) =>
 letJ (T:=Option Addr->ByteArray->Sl->Int->Int->Bool->H->Prop) (fun v29 v30 x31 x32 x33 x34=>brW x34 (ptrW v29 (fun b35 o36=>rdT (rdC b35 (o36+5)) kS (fun(x37:ByteArray)=>ifW (v30.size+(⟨⟨[10]⟩⟩:ByteArray).size<=9223372036854775807) (ifW (x37.size+(v30++⟨⟨[10]⟩⟩).size<=9223372036854775807) (ptrW v29 (fun b38 o39 =>
 stW Tryz.prog 9 (.pointer (some ⟨b38,o39+5,none⟩)) (.string (x37++(v30++⟨⟨[10]⟩⟩))) (j20 v29 x31 x32 x33))))))) (j20 v29 x31 x32 x33)) (fun j28=>idxW x27 0 (fun c40=>brW ((c40.toNat:Int) != 46) (j28 v16 x27 x17 x18 x19 true) (callT Tryz.prog 99 [.pointer v16,.int .u8 97] kB (fun x41=>j28 v16 x27 x17 x18 x19 x41)))))))))
 (K (.tuple ⟨[]⟩)))) (fun(R42:Option Addr->Sl->Int->Int->H->Prop)=>R42 v5 x13 ((x13.len:Nat):Int) 0))))))) (fun j4=>brW v3 (ptrW v1 (fun b43 o44=>rdT (rdC b43 (o44+5)) kS (fun(x45:ByteArray)=>ifW (v2.size+(⟨⟨[58,10]⟩⟩:ByteArray).size<=9223372036854775807) (ifW (x45.size+(v2++⟨⟨[58,10]⟩⟩).size<=9223372036854775807) (ptrW v1 (fun b46 o47 =>
 stW Tryz.prog 9 (.pointer (some ⟨b46,o47+5,none⟩)) (.string (x45++(v2++⟨⟨[58,10]⟩⟩))) (j4 v1 v2))))))) (j4 v1 v2))
theorem c118 (v1:Option Addr) (v2:ByteArray) (v3:Bool) {K:KH} {σ:H}:g118 v1 v2 v3 K σ->callW Tryz.prog 118 [.pointer v1,.string v2,.bool v3] K σ:=call_k an118 Tryz.func118 (by kernel_rfl)


def an120:Ann:=(.q (.q .z))
def g120 (v1:Int) (K:KH):H->Prop :=
 callT Tryz.prog 174 [.int .i64 v1] kS (fun(x2:ByteArray)=>K (.string x2))
theorem c120 (v1:Int) {K:KH} {σ:H}:g120 v1 K σ->callW Tryz.prog 120 [.int .i64 v1] K σ:=call_k an120 Tryz.func120 (by kernel_rfl)


def an129:Ann:=(.q (.q (.n (.q (.blk (.loop [(0,.p),(1,.i),(2,.s),(3,.i),(8,.l),(9,.b),(10,.i)] (.n (.q (.cond .z .z)) (.n (.blk (.q (.seq (some [(0,.p),(1,.i),(2,.s),(3,.i),(8,.l),(9,.b),(10,.i),(11,.p),(43,.w),(44,.w),(45,.w),(46,.w)]) (.seq (some [(0,.p),(1,.i),(2,.s),(3,.i),(8,.l),(9,.b),(10,.i),(11,.p),(43,.w),(44,.w),(45,.w),(46,.w),(47,.b)]) .r (.cond (.q .r) .z)) .r))) .r))))) (.seq (some [(0,.p),(1,.i),(3,.i),(8,.l)]) (.q (.cond .r .z)) (.q (.q (.cond .r .z)))))))
def g129 (v1:Option Addr) (v2:Int) (v3:ByteArray) (v4:Int) (K:KH):H->Prop :=
 loopW [.sc .ptr,.sc (.int .i64),.sc .str,.sc (.int .i64),.sc .slc,.sc .bool,.sc (.int .i64)] (fun(R5:Option Addr->Int->ByteArray->Int->Sl->Bool->Int->H->Prop)=>(fun(v6:Option Addr) (v7:Int) (v8:ByteArray) (v9:Int) (v10:Sl) (v11:Bool) (v12:Int)=>ptrW v6 (fun b13 o14=>rdT (rdC b13 (o14+2)) kL (fun x15=>ptrW x15.base (fun b16 o17=>ifW (0<=v7/\v7<((x15.len:Nat):Int)) (rdT (rdC b16 (o17+v7.toNat * 1)) kP (fun x18 =>
 ptrW x18 (fun b19 o20=>rdT (rdC b19 (o20+3)) kL (fun x21=>brW (decide ((v12:Int)<((x21.len:Nat):Int))) (ptrW v6 (fun b22 o23=>rdT (rdC b22 (o23+2)) kL (fun x24=>ptrW x24.base (fun b25 o26=>ifW (0<=v7/\v7<((x24.len:Nat):Int)) (rdT (rdC b25 (o26+v7.toNat * 1)) kP (fun x27=>ptrW x27 (fun b28 o29=>rdT (rdC b28 (o29+3)) kL (fun x30=>ptrW x30.base (fun b31 o32=>ifW (0<=v12/\v12<((x30.len:Nat):Int))
 (rdT (rdA 2 b31 (o32+v12.toNat * 2)) (.one (.agg [.str,(.int .i64)])) (fun(x33:ByteArray) (x34:Int)=>alW (.cells ⟨[.string ⟨⟨[]⟩⟩,.int .i64 0]⟩ 165 (0,0)) (fun b35=>stW Tryz.prog 165 (.pointer (some ⟨b35,0,none⟩)) (.agg ⟨[.string x33,.int .i64 x34]⟩) (letJ (T:=Option Addr->Int->ByteArray->Int->Sl->Bool->Int->Option Addr->Value->Value->Value->Value->H->Prop) (fun v37 v38 v39 v40 v41 v42 v43 v44 _x45 _x46 _x47 _x48 =>
 ptrW v44 (fun b49 o50=>rdT (rdA 2 b49 o50) (.one (.agg [.str,(.int .i64)])) (fun(x51:ByteArray) (x52:Int)=>alW (.cells ⟨[.string x51,.int .i64 x52]⟩ 165 (0,0)) (fun b53=>biW Tryz.prog .append #[105,105] 105 [false,false] [.slice v41.base v41.len v41.cap,.slice (some ⟨b53,0,none⟩) 1 1] kL (fun x54=>R5 v37 v38 v39 v40 x54 v42 (IntKind.i64.wrap (v43+1))))))) (fun j36 =>
 letJ (T:=Option Addr->Int->ByteArray->Int->Sl->Bool->Int->Option Addr->Value->Value->Value->Value->Bool->H->Prop) (fun v56 v57 v58 v59 v60 v61 v62 v63 x64 x65 x66 x67 x68=>brW x68 (alW (.cells ⟨[.string v58,.int .i64 v59]⟩ 165 (0,0)) (fun b69=>biW Tryz.prog .append #[105,105] 105 [false,false] [.slice v60.base v60.len v60.cap,.slice (some ⟨b69,0,none⟩) 1 1] kL (fun x70=>j36 v56 v57 v58 v59 x70 true v62 v63 x64 x65 x66 x67)))
 (j36 v56 v57 v58 v59 v60 v61 v62 v63 x64 x65 x66 x67)) (fun j55=>brW (!v11) (rdT (rdC b35 0) kS (fun(x71:ByteArray)=>j55 v6 v7 v8 v9 v10 v11 v12 (some ⟨b35,0,none⟩) (.string v8) (.pointer (some ⟨b35,0,none⟩)) (.string x71) (.bool (strLt v8 x71)) (strLt v8 x71))) (j55 v6 v7 v8 v9 v10 v11 v12 (some ⟨b35,0,none⟩) (.tuple ⟨[]⟩) (.tuple ⟨[]⟩) (.tuple ⟨[]⟩) (.tuple ⟨[]⟩) false))))))))))))))))
 (letJ (T:=Option Addr->Int->Int->Sl->H->Prop) (fun v73 v74 v75 v76=>ptrW v73 (fun b77 o78=>rdT (rdC b77 (o78+2)) kL (fun x79=>ptrW x79.base (fun b80 o81=>ifW (0<=v74/\v74<((x79.len:Nat):Int)) (rdT (rdC b80 (o81+v74.toNat * 1)) kP (fun x82=>ptrW x82 (fun b83 o84=>stW Tryz.prog 105 (.pointer (some ⟨b83,o84+3,none⟩)) (.slice v76.base v76.len v76.cap) (ptrW v73 (fun b85 o86=>rdT (rdC b85 (o86+2)) kL (fun x87 =>
 ptrW x87.base (fun b88 o89=>ifW (0<=v75/\v75<((x87.len:Nat):Int)) (rdT (rdC b88 (o89+v75.toNat * 1)) kP (fun x90=>ptrW x90 (fun b91 o92=>rdT (rdC b91 o92) kI (fun(x93:Int)=>brW ((x93:Int)==2) (ptrW v73 (fun b94 o95=>rdT (rdC b94 (o95+2)) kL (fun x96=>ptrW x96.base (fun b97 o98=>ifW (0<=v75/\v75<((x96.len:Nat):Int)) (rdT (rdC b97 (o98+v75.toNat * 1)) kP (fun x99=>ptrW x99 (fun b100 o101 =>
 stW Tryz.prog 3 (.pointer (some ⟨b100,o101+4,none⟩)) (.int .i64 v74) (K (.tuple ⟨[]⟩))))))))) (K (.tuple ⟨[]⟩))))))))))))))))) (fun j72=>brW (!v11) (alW (.cells ⟨[.string v8,.int .i64 v9]⟩ 165 (0,0)) (fun b102=>biW Tryz.prog .append #[105,105] 105 [false,false] [.slice v10.base v10.len v10.cap,.slice (some ⟨b102,0,none⟩) 1 1] kL (fun x103=>j72 v6 v7 v9 x103)))
 (j72 v6 v7 v9 v10)))))))))))) (fun(R104:Option Addr->Int->ByteArray->Int->Sl->Bool->Int->H->Prop)=>R104 v1 v2 v3 v4 ⟨none,0,0⟩ false 0)
theorem c129 (v1:Option Addr) (v2:Int) (v3:ByteArray) (v4:Int) {K:KH} {σ:H}:g129 v1 v2 v3 v4 K σ->callW Tryz.prog 129 [.pointer v1,.int .i64 v2,.string v3,.int .i64 v4] K σ:=call_k an129 Tryz.func129 (by kernel_rfl)


def an138:Ann:=(.q (.q .z))
def g138 (v1:Option Nat) (K:KH):H->Prop :=
 alW (.cells ⟨[.map v1]⟩ 113 (0,0)) (fun b2=>K (.func (.func 179) ⟨[]⟩ ⟨[.pointer (some ⟨b2,0,none⟩)]⟩))
theorem c138 (v1:Option Nat) {K:KH} {σ:H}:g138 v1 K σ->callW Tryz.prog 138 [.map v1] K σ:=call_k an138 Tryz.func138 (by kernel_rfl)


def an139:Ann:=(.q (.q (.n (.q (.h)) (.q .z))))
def g139 (x1:Option Addr) (x2:Option Addr) (K:KH):H->Prop :=
 ptrW x1 (fun b3 o4=>rdT (rdC b3 o4) kP (fun x5=>ptrW x2 (fun b6 o7=>rdT (rdC b6 o7) kI (fun(x8:Int)=>callT Tryz.prog 85 [.pointer x5,.int .i64 x8] kP (fun x9=>brW x9.isNone (K (.int .i64 5)) (ptrW x9 (fun b10 o11=>rdT (rdC b10 o11) kI (fun(x12:Int)=>callT Tryz.prog 74 [.bool ((x12:Int)==2),.int .i64 8] kI (fun(x13:Int)=>K (.int .i64 x13))))))))))
theorem c139 (x1:Option Addr) (x2:Option Addr) {K:KH} {σ:H}:g139 x1 x2 K σ->callW Tryz.prog 139 [.pointer x1,.pointer x2] K σ:=call_k an139 Tryz.func139 (by kernel_rfl)


def an140:Ann:=(.q (.n (.q (.h)) (.q .z)))
def g140 (x1:Option Addr) (K:KH):H->Prop :=
 ptrW x1 (fun b2 o3=>rdT (rdC b2 o3) kS (fun(x4:ByteArray)=>brW (decide (((x4.size:Nat):Int)>56)) (K (.int .i64 3)) (ptrW x1 (fun b5 o6=>rdT (rdC b5 o6) kS (fun(x7:ByteArray)=>brW (!strEq x7 (⟨⟨[]⟩⟩:ByteArray)) (ptrW x1 (fun b8 o9=>rdT (rdC b8 o9) kS (fun(x10:ByteArray)=>brW (!strEq x10 (⟨⟨[46]⟩⟩:ByteArray)) (ptrW x1 (fun b11 o12=>rdT (rdC b11 o12) kS (fun(x13:ByteArray)=>brW (!strEq x13 (⟨⟨[46,46]⟩⟩:ByteArray)) (ptrW x1 (fun b14 o15 =>
 rdT (rdC b14 o15) kS (fun(x16:ByteArray)=>callT Tryz.prog 141 [.string x16,.string ⟨⟨[47,0]⟩⟩] kB (fun x17=>callT Tryz.prog 74 [.bool (!x17),.int .i64 2] kI (fun(x18:Int)=>K (.int .i64 x18)))))) (callT Tryz.prog 74 [.bool false,.int .i64 2] kI (fun(x19:Int)=>K (.int .i64 x19)))))) (callT Tryz.prog 74 [.bool false,.int .i64 2] kI (fun(x20:Int)=>K (.int .i64 x20)))))) (callT Tryz.prog 74 [.bool false,.int .i64 2] kI (fun(x21:Int) =>
 K (.int .i64 x21))))))))
theorem c140 (x1:Option Addr) {K:KH} {σ:H}:g140 x1 K σ->callW Tryz.prog 140 [.pointer x1] K σ:=call_k an140 Tryz.func140 (by kernel_rfl)


def an141:Ann:=(.q (.q .z))
def g141 (v1:ByteArray) (v2:ByteArray) (K:KH):H->Prop :=
 callT Tryz.prog 180 [.string v1,.string v2] kI (fun(x3:Int)=>K (.bool (decide ((x3:Int)>=0))))
theorem c141 (v1:ByteArray) (v2:ByteArray) {K:KH} {σ:H}:g141 v1 v2 K σ->callW Tryz.prog 141 [.string v1,.string v2] K σ:=call_k an141 Tryz.func141 (by kernel_rfl)


def an142:Ann:=(.q (.q (.q .z)))
def g142 (x1:Option Addr) (x2:Option Addr) (x3:Option Addr) (K:KH):H->Prop :=
 ptrW x1 (fun b4 o5=>rdT (rdC b4 o5) kP (fun x6=>ptrW x2 (fun b7 o8=>rdT (rdC b7 o8) kI (fun(x9:Int)=>ptrW x3 (fun b10 o11=>rdT (rdC b10 o11) kS (fun(x12:ByteArray)=>callT Tryz.prog 143 [.pointer x6,.int .i64 x9,.string x12] (.tup [.sc (.int .i64),.sc .bool]) (fun(_x13:Int) (x14:Bool)=>callT Tryz.prog 74 [.bool (!x14),.int .i64 6] kI (fun(x15:Int)=>K (.int .i64 x15)))))))))
theorem c142 (x1:Option Addr) (x2:Option Addr) (x3:Option Addr) {K:KH} {σ:H}:g142 x1 x2 x3 K σ->callW Tryz.prog 142 [.pointer x1,.pointer x2,.pointer x3] K σ:=call_k an142 Tryz.func142 (by kernel_rfl)


def an143:Ann:=(.q (.q (.n (.q (.h)) (.q (.q .z)))))
def g143 (v1:Option Addr) (v2:Int) (v3:ByteArray) (K:KH):H->Prop :=
 callT Tryz.prog 85 [.pointer v1,.int .i64 v2] kP (fun x4=>brW x4.isNone (K (.tuple ⟨[.int .i64 0,.bool false]⟩)) (ptrW x4 (fun b5 o6=>rdT (rdC b5 (o6+5)) kM (fun(x7:Option Nat)=>rdT (rdM .string (.int .i64 0) true x7 (.string v3)) (.tup [.sc (.int .i64),.sc .bool]) (fun(x8:Int) (x9:Bool)=>K (.tuple ⟨[.int .i64 x8,.bool x9]⟩))))))
theorem c143 (v1:Option Addr) (v2:Int) (v3:ByteArray) {K:KH} {σ:H}:g143 v1 v2 v3 K σ->callW Tryz.prog 143 [.pointer v1,.int .i64 v2,.string v3] K σ:=call_k an143 Tryz.func143 (by kernel_rfl)


def an144:Ann:=(.q (.n (.reg (rn 30) [[],[0],[0,1],[0,1,2],(rn 4),[],(rn 6),[],[7],[7,8],[7,8,9],[7,8,9,10],(rn 12),(rn 13),(rn 14),(rn 15),(rn 16),(rn 17),(rn 18),(rn 14),(rn 20),(rn 14),[0,1,2,3,4,5,6,7,8,9,10,11,12,13,21],[0,1,2,3,4,5,6,7,8,9,10,11,12,13,21,22],[0,1,2,3,4,5,6,7,8,9,10,11,12,13,21,22,23],[0,1,2,3,4,5,6,7,8,9,10,11,12,13,21,22,23,24],(rn 26),(rn 27),(rn 28),(rn 29)]) .z))
def g144 (x1:Option Addr) (x2:Option Addr) (x3:Option Addr) (K:KH):H->Prop :=
 ptrW x1 (fun b4 o5=>rdT (rdC b4 o5) kP (fun x6=>ptrW x6 (fun b7 o8=>rdT (rdC b7 (o8+2)) kI (fun(x9:Int)=>ptrW x2 (fun b10 o11=>rdT (rdC b10 o11) kI (fun(x12:Int)=>ptrW x1 (fun b13 o14=>rdT (rdC b13 o14) kP (fun x15=>ptrW x15 (fun b16 o17=>rdT (rdC b16 o17) kI (fun(x18:Int)=>brW (decide (((IntKind.i64.wrap (x9+x12)):Int)<=x18)) (ptrW x1 (fun b19 o20=>rdT (rdC b19 o20) kP (fun x21=>ptrW x21 (fun b22 o23=>rdT (rdC b22 (o23+3)) kI (fun(x24:Int) =>
 ptrW x3 (fun b25 o26=>rdT (rdC b25 o26) kI (fun(x27:Int)=>ptrW x1 (fun b28 o29=>rdT (rdC b28 o29) kP (fun x30=>ptrW x30 (fun b31 o32=>rdT (rdC b31 (o32+1)) kI (fun(x33:Int)=>callT Tryz.prog 74 [.bool (decide (((IntKind.i64.wrap (x24+x27)):Int)<=x33)),.int .i64 10] kI (fun(x34:Int)=>K (.int .i64 x34))))))))))))) (callT Tryz.prog 74 [.bool false,.int .i64 10] kI (fun(x35:Int)=>K (.int .i64 x35)))))))))))))
theorem c144 (x1:Option Addr) (x2:Option Addr) (x3:Option Addr) {K:KH} {σ:H}:g144 x1 x2 x3 K σ->callW Tryz.prog 144 [.pointer x1,.pointer x2,.pointer x3] K σ:=call_k an144 Tryz.func144 (by kernel_rfl)


def an145:Ann:=(.q (.q .z))
def g145 (v1:ByteArray) (v2:ByteArray) (K:KH):H->Prop :=
 brW (decide (((v1.size:Nat):Int)>=((v2.size:Nat):Int))) (ifW (bndOk (some ((v2.size:Nat):Int)) v1.size/\bndOk none (((v2.size:Nat):Int).toNat)) (K (.bool (strEq (v1.extract 0 (((v2.size:Nat):Int).toNat)) v2)))) (K (.bool false))
theorem c145 (v1:ByteArray) (v2:ByteArray) {K:KH} {σ:H}:g145 v1 v2 K σ->callW Tryz.prog 145 [.string v1,.string v2] K σ:=call_k an145 Tryz.func145 (by kernel_rfl)


def an146:Ann:=(.q (.n (.blk (.q (.cond (.q .z) (.q (.cond (.q .z) (.q (.h))))))) (.q .z)))
def g146 (v1:ByteArray) (K:KH):H->Prop :=
 brW (strEq v1 (⟨⟨[]⟩⟩:ByteArray)) (K (.int .i64 5)) (brW (decide (((v1.size:Nat):Int)>255)) (K (.int .i64 3)) (callT Tryz.prog 33 [.string v1,.int .u8 0] kI (fun(x2:Int)=>brW (decide ((x2:Int)>=0)) (K (.int .i64 2)) (K (.int .i64 0)))))
theorem c146 (v1:ByteArray) {K:KH} {σ:H}:g146 v1 K σ->callW Tryz.prog 146 [.string v1] K σ:=call_k an146 Tryz.func146 (by kernel_rfl)


def an147:Ann:=(.q (.q .z))
def g147 (v1:ByteArray) (K:KH):H->Prop :=
 alW (.cells ⟨[.string v1]⟩ 9 (0,0)) (fun b2=>K (.func (.func 181) ⟨[]⟩ ⟨[.pointer (some ⟨b2,0,none⟩)]⟩))
theorem c147 (v1:ByteArray) {K:KH} {σ:H}:g147 v1 K σ->callW Tryz.prog 147 [.string v1] K σ:=call_k an147 Tryz.func147 (by kernel_rfl)


def an148:Ann:=(.q (.q (.n (.blk (.q (.cond (.q .z) (.q (.h))))) (.q .z))))
def g148 (x1:Option Addr) (x2:Option Addr) (K:KH):H->Prop :=
 ptrW x1 (fun b3 o4=>rdT (rdC b3 o4) kP (fun x5=>ptrW x2 (fun b6 o7=>rdT (rdC b6 o7) kI (fun(x8:Int)=>callT Tryz.prog 85 [.pointer x5,.int .i64 x8] kP (fun x9=>brW x9.isNone (K (.int .i64 5)) (ptrW x9 (fun b10 o11=>rdT (rdC b10 o11) kI (fun(x12:Int)=>brW ((x12:Int)==2) (K (.int .i64 7)) (ptrW x9 (fun b13 o14=>rdT (rdC b13 o14) kI (fun(x15:Int)=>callT Tryz.prog 74 [.bool ((x15:Int)==1),.int .i64 2] kI (fun(x16:Int)=>K (.int .i64 x16)))))))))))))
theorem c148 (x1:Option Addr) (x2:Option Addr) {K:KH} {σ:H}:g148 x1 x2 K σ->callW Tryz.prog 148 [.pointer x1,.pointer x2] K σ:=call_k an148 Tryz.func148 (by kernel_rfl)


def an150:Ann:=(.q (.n (.q (.h)) (.n (.q (.h)) (.n (.q (.blk (.loop [(0,.p),(1,.i),(2,.s),(3,.b),(4,.p),(10,.p),(12,.i)] (.n (.q (.cond .z .z)) (.n (.blk (.q (.h))) .r))))) (.seq (some [(0,.p),(1,.i),(2,.s),(3,.b),(4,.p),(10,.p)]) (.q (.cond .r .z)) (.q (.q (.n (.q (.blk (.loop [(0,.p),(3,.b),(4,.p),(10,.p),(13,.p),(14,.l),(15,.i)] (.n (.q (.cond .z .z)) (.seq (some [(0,.p),(3,.b),(4,.p),(10,.p),(13,.p),(14,.l),(15,.i),(76,.w),(79,.w),(80,.w),(81,.w),(84,.w),(85,.w),(86,.w),(87,.w),(88,.w),(89,.w),(90,.w),(91,.w),(92,.w),(93,.w),(94,.w),(95,.w)]) (.blk (.n (.q (.h)) (.n (.reg (rn 14) [[],[],[1],[],[],[3,4],[3,4,5],(rn 7),(rn 8),(rn 9),(rn 9),[],[0,1,2,3,4,5,6,7,8,9,11],(rn 13)]) (.n (.q (.h)) (.q (.seq (some [(0,.p),(3,.b),(4,.p),(10,.p),(13,.p),(14,.l),(15,.i),(76,.w),(79,.w),(80,.w),(81,.w),(84,.w),(85,.w),(86,.w),(87,.w),(88,.w),(89,.w),(90,.w),(91,.w),(92,.w),(93,.w),(94,.w),(95,.w),(96,.b)]) (.reg (rn 27) [[],[0],[],[2],(rn 4),(rn 5),(rn 6),(rn 7),(rn 8),(rn 9),(rn 10),(rn 11),(rn 12),(rn 13),(rn 14),(rn 15),(rn 16),(rn 17),(rn 14),[0,1,2,3,4,5,6,7,8,9,10,11,12,13,18],(rn 20),(rn 21),(rn 22),(rn 23),(rn 24),(rn 25),(rn 26)]) (.cond (.q (.n (.q (.h)) (.n (.reg (rn 21) [[],[],[1],[],[3],[3,4],[3,4,5],[],[7],[3,4,5,6,7,8],[3,4,5,6,7,8,9],[3,4,5,6,7,8,9,10],[3,4,5,6,7,8,9,10,11],[3,4,5,6,7,8,9,10,11,12],[],(rn 15),(rn 16),(rn 17),(rn 17),(rn 18),(rn 20)]) (.q (.h))))) .z))))))) .r))))) (.q .z)))))))))
def g150 (v1:Option Addr) (v2:Int) (v3:ByteArray) (v4:Bool) (v5:Option Addr) (K:KH):H->Prop :=
 alW (.cells ⟨[.int .i64 0,.string ⟨⟨[]⟩⟩,.int .i64 0]⟩ 133 (0,0)) (fun b6=>brW (strEq v3 (⟨⟨[]⟩⟩:ByteArray)) (stW Tryz.prog 133 (.pointer (some ⟨b6,0,none⟩)) (.agg ⟨[.int .i64 0,.string ⟨⟨[]⟩⟩,.int .i64 0]⟩) (rdT (rdA 3 b6 0) (.one (.agg [(.int .i64),.str,(.int .i64)])) (fun(r7:Int) (r8:ByteArray) (r9:Int)=>K (.tuple ⟨[.agg ⟨[.int .i64 r7,.string r8,.int .i64 r9]⟩,.int .i64 5]⟩))))
 (brW (decide (((v3.size:Nat):Int)>255)) (stW Tryz.prog 133 (.pointer (some ⟨b6,0,none⟩)) (.agg ⟨[.int .i64 0,.string ⟨⟨[]⟩⟩,.int .i64 0]⟩) (rdT (rdA 3 b6 0) (.one (.agg [(.int .i64),.str,(.int .i64)])) (fun(r10:Int) (r11:ByteArray) (r12:Int)=>K (.tuple ⟨[.agg ⟨[.int .i64 r10,.string r11,.int .i64 r12]⟩,.int .i64 3]⟩))))
 (loopW [.sc .ptr,.sc (.int .i64),.sc .str,.sc .bool,.sc .ptr,.sc .ptr,.sc (.int .i64)] (fun(R13:Option Addr->Int->ByteArray->Bool->Option Addr->Option Addr->Int->H->Prop)=>(fun(v14:Option Addr) (v15:Int) (v16:ByteArray) (v17:Bool) (v18:Option Addr) (x19:Option Addr) (v20:Int)=>brW (decide ((v20:Int)<((v16.size:Nat):Int))) (idxW v16 v20 (fun c21=>brW ((c21.toNat:Int)==0)
 (stW Tryz.prog 133 (.pointer x19) (.agg ⟨[.int .i64 0,.string ⟨⟨[]⟩⟩,.int .i64 0]⟩) (ptrW x19 (fun b22 o23=>rdT (rdA 3 b22 o23) (.one (.agg [(.int .i64),.str,(.int .i64)])) (fun(r24:Int) (r25:ByteArray) (r26:Int)=>K (.tuple ⟨[.agg ⟨[.int .i64 r24,.string r25,.int .i64 r26]⟩,.int .i64 2]⟩))))) (R13 v14 v15 v16 v17 v18 x19 (IntKind.i64.wrap (v20+1)))))
 (letJ (T:=Option Addr->Int->ByteArray->Bool->Option Addr->Option Addr->H->Prop) (fun v28 v29 v30 v31 v32 x33=>alW (.cells ⟨[.int .i64 0,.string ⟨⟨[]⟩⟩,.int .i64 0]⟩ 133 (0,0)) (fun b34=>stW Tryz.prog 133 (.pointer (some ⟨b34,0,none⟩)) (.agg ⟨[.int .i64 v29,.string ⟨⟨[]⟩⟩,.int .i64 v29]⟩) (callT Tryz.prog 183 [.string v30] kL (fun x35 =>
 loopW [.sc .ptr,.sc .bool,.sc .ptr,.sc .ptr,.sc .ptr,.sc .slc,.sc (.int .i64)] (fun(R36:Option Addr->Bool->Option Addr->Option Addr->Option Addr->Sl->Int->H->Prop)=>(fun(v37:Option Addr) (v38:Bool) (v39:Option Addr) (x40:Option Addr) (v41:Option Addr) (v42:Sl) (v43:Int)=>brW (decide ((v43:Int)<((v42.len:Nat):Int)))
 (letJ (T:=Option Addr->Bool->Option Addr->Option Addr->Option Addr->Sl->Int->Value->Value->Value->Value->Value->Value->Value->Value->Value->Value->Value->Value->Value->Value->Value->Value->H->Prop) (fun v45 v46 v47 x48 v49 v50 v51 _x52 _x53 _x54 _x55 _x56 _x57 _x58 _x59 _x60 _x61 _x62 _x63 _x64 _x65 _x66 _x67=>R36 v45 v46 v47 x48 v49 v50 (IntKind.i64.wrap (v51+1))) (fun j44=>ptrW v41 (fun b68 o69 =>
 rdT (rdC b68 (o69+2)) kI (fun(x70:Int)=>brW (decide ((x70:Int)<0)) (stW Tryz.prog 133 (.pointer x40) (.agg ⟨[.int .i64 0,.string ⟨⟨[]⟩⟩,.int .i64 0]⟩) (ptrW x40 (fun b71 o72=>rdT (rdA 3 b71 o72) (.one (.agg [(.int .i64),.str,(.int .i64)])) (fun(r73:Int) (r74:ByteArray) (r75:Int)=>K (.tuple ⟨[.agg ⟨[.int .i64 r73,.string r74,.int .i64 r75]⟩,.int .i64 5]⟩))))) (ptrW v41 (fun b76 o77=>rdT (rdC b76 (o77+2)) kI (fun(x78:Int) =>
 ptrW v42.base (fun b79 o80=>ifW (0<=v43/\v43<((v42.len:Nat):Int)) (rdT (rdC b79 (o80+v43.toNat * 1)) kS (fun(x81:ByteArray)=>callT Tryz.prog 184 [.pointer v37,.int .i64 x78,.string x81] (.tup [.agg [(.int .i64),.str,(.int .i64)],.sc (.int .i64)]) (fun(x82:Int) (x83:ByteArray) (x84:Int) (x85:Int)=>alW (.cells ⟨[.int .i64 0,.string ⟨⟨[]⟩⟩,.int .i64 0]⟩ 133 (0,0)) (fun b86 =>
 stW Tryz.prog 133 (.pointer (some ⟨b86,0,none⟩)) (.agg ⟨[.int .i64 x82,.string x83,.int .i64 x84]⟩) (brW ((x85:Int) != 0) (stW Tryz.prog 133 (.pointer x40) (.agg ⟨[.int .i64 0,.string ⟨⟨[]⟩⟩,.int .i64 0]⟩) (ptrW x40 (fun b87 o88=>rdT (rdA 3 b87 o88) (.one (.agg [(.int .i64),.str,(.int .i64)])) (fun(r89:Int) (r90:ByteArray) (r91:Int)=>K (.tuple ⟨[.agg ⟨[.int .i64 r89,.string r90,.int .i64 r91]⟩,.int .i64 x85]⟩)))))
 (rdT (rdA 3 b86 0) (.one (.agg [(.int .i64),.str,(.int .i64)])) (fun(x92:Int) (x93:ByteArray) (x94:Int) =>
 stW Tryz.prog 133 (.pointer v41) (.agg ⟨[.int .i64 x92,.string x93,.int .i64 x94]⟩) (letJ (T:=Option Addr->Bool->Option Addr->Option Addr->Option Addr->Sl->Int->Value->Value->Value->Value->Value->Value->Value->Value->Value->Value->Value->Value->Value->Value->Value->Value->Bool->H->Prop) (fun v96 v97 v98 x99 v100 v101 v102 x103 x104 x105 x106 x107 x108 x109 x110 x111 x112 x113 x114 x115 x116 x117 x118 x119=>brW x119 (ptrW v98 (fun b120 o121 =>
 rdT (rdC b120 o121) kI (fun(x122:Int)=>ptrW v98 (fun b123 o124=>stW Tryz.prog 3 (.pointer (some ⟨b123,o124,none⟩)) (.int .i64 (IntKind.i64.wrap (x122 - 1))) (ptrW v98 (fun b125 o126=>rdT (rdC b125 o126) kI (fun(x127:Int)=>brW (decide ((x127:Int)<0)) (stW Tryz.prog 133 (.pointer x99) (.agg ⟨[.int .i64 0,.string ⟨⟨[]⟩⟩,.int .i64 0]⟩) (ptrW x99 (fun b128 o129 =>
 rdT (rdA 3 b128 o129) (.one (.agg [(.int .i64),.str,(.int .i64)])) (fun(r130:Int) (r131:ByteArray) (r132:Int)=>K (.tuple ⟨[.agg ⟨[.int .i64 r130,.string r131,.int .i64 r132]⟩,.int .i64 9]⟩))))) (ptrW v100 (fun b133 o134=>rdT (rdC b133 o134) kI (fun(x135:Int)=>ptrW v96 (fun b136 o137=>rdT (rdC b136 (o137+2)) kL (fun x138=>ptrW v100 (fun b139 o140=>rdT (rdC b139 (o140+2)) kI (fun(x141:Int)=>ptrW x138.base (fun b142 o143 =>
 ifW (0<=x141/\x141<((x138.len:Nat):Int)) (rdT (rdC b142 (o143+x141.toNat * 1)) kP (fun x144=>ptrW x144 (fun b145 o146=>rdT (rdC b145 (o146+2)) kS (fun(x147:ByteArray)=>callT Tryz.prog 150 [.pointer v96,.int .i64 x135,.string x147,.bool true,.pointer v98] (.tup [.agg [(.int .i64),.str,(.int .i64)],.sc (.int .i64)]) (fun(x148:Int) (x149:ByteArray) (x150:Int) (x151:Int) =>
 stW Tryz.prog 133 (.pointer v100) (.agg ⟨[.int .i64 x148,.string x149,.int .i64 x150]⟩) (brW ((x151:Int) != 0) (stW Tryz.prog 133 (.pointer x99) (.agg ⟨[.int .i64 0,.string ⟨⟨[]⟩⟩,.int .i64 0]⟩) (ptrW x99 (fun b152 o153=>rdT (rdA 3 b152 o153) (.one (.agg [(.int .i64),.str,(.int .i64)])) (fun(r154:Int) (r155:ByteArray) (r156:Int)=>K (.tuple ⟨[.agg ⟨[.int .i64 r154,.string r155,.int .i64 r156]⟩,.int .i64 x151]⟩)))))
 (j44 v96 v97 v98 x99 v100 v101 v102 x103 x104 x105 x106 x107 x108 x109 x110 x111 x112 x113 x114 x115 x116 x117 x118)))))))))))))))))))))) (j44 v96 v97 v98 x99 v100 v101 v102 x103 x104 x105 x106 x107 x108 x109 x110 x111 x112 x113 x114 x115 x116 x117 x118)) (fun j95=>brW (decide (((IntKind.i64.wrap (v43+1)):Int)<((v42.len:Nat):Int))) (ptrW v41 (fun b157 o158=>rdT (rdC b157 (o158+2)) kI (fun(x159:Int)=>brW (decide ((x159:Int)>=0))
 (ptrW v37 (fun b160 o161=>rdT (rdC b160 (o161+2)) kL (fun x162=>ptrW v41 (fun b163 o164=>rdT (rdC b163 (o164+2)) kI (fun(x165:Int)=>ptrW x162.base (fun b166 o167=>ifW (0<=x165/\x165<((x162.len:Nat):Int)) (rdT (rdC b166 (o167+x165.toNat * 1)) kP (fun x168=>ptrW x168 (fun b169 o170=>rdT (rdC b169 o170) kI (fun(x171:Int) =>
 j95 v37 v38 v39 x40 v41 v42 v43 (.tuple ⟨[]⟩) (.pointer (some ⟨b157,o158+2,none⟩)) (.int .i64 x159) (.bool (decide ((x159:Int)>=0))) (.pointer v37) (.pointer (some ⟨b160,o161,none⟩)) (.pointer (some ⟨b160,o161+2,none⟩)) (.slice x162.base x162.len x162.cap) (.pointer (some ⟨b163,o164+2,none⟩)) (.int .i64 x165) (.pointer (some ⟨b166,o167+x165.toNat * 1,none⟩)) (.pointer x168) (.pointer (some ⟨b169,o170,none⟩)) (.pointer (some ⟨b169,o170,none⟩)) (.int .i64 x171) (.bool ((x171:Int)==3)) ((x171:Int)==3)))))))))))
 (j95 v37 v38 v39 x40 v41 v42 v43 (.tuple ⟨[]⟩) (.pointer (some ⟨b157,o158+2,none⟩)) (.int .i64 x159) (.bool (decide ((x159:Int)>=0))) (.tuple ⟨[]⟩) (.tuple ⟨[]⟩) (.tuple ⟨[]⟩) (.tuple ⟨[]⟩) (.tuple ⟨[]⟩) (.tuple ⟨[]⟩) (.tuple ⟨[]⟩) (.tuple ⟨[]⟩) (.tuple ⟨[]⟩) (.tuple ⟨[]⟩) (.tuple ⟨[]⟩) (.tuple ⟨[]⟩) false)))) (brW v38 (ptrW v41 (fun b172 o173=>rdT (rdC b172 (o173+2)) kI (fun(x174:Int)=>brW (decide ((x174:Int)>=0)) (ptrW v37 (fun b175 o176 =>
 rdT (rdC b175 (o176+2)) kL (fun x177=>ptrW v41 (fun b178 o179=>rdT (rdC b178 (o179+2)) kI (fun(x180:Int)=>ptrW x177.base (fun b181 o182=>ifW (0<=x180/\x180<((x177.len:Nat):Int)) (rdT (rdC b181 (o182+x180.toNat * 1)) kP (fun x183=>ptrW x183 (fun b184 o185=>rdT (rdC b184 o185) kI (fun(x186:Int) =>
 j95 v37 v38 v39 x40 v41 v42 v43 (.bool v38) (.pointer (some ⟨b172,o173+2,none⟩)) (.int .i64 x174) (.bool (decide ((x174:Int)>=0))) (.pointer v37) (.pointer (some ⟨b175,o176,none⟩)) (.pointer (some ⟨b175,o176+2,none⟩)) (.slice x177.base x177.len x177.cap) (.pointer (some ⟨b178,o179+2,none⟩)) (.int .i64 x180) (.pointer (some ⟨b181,o182+x180.toNat * 1,none⟩)) (.pointer x183) (.pointer (some ⟨b184,o185,none⟩)) (.pointer (some ⟨b184,o185,none⟩)) (.int .i64 x186) (.bool ((x186:Int)==3)) ((x186:Int)==3)))))))))))
 (j95 v37 v38 v39 x40 v41 v42 v43 (.bool v38) (.pointer (some ⟨b172,o173+2,none⟩)) (.int .i64 x174) (.bool (decide ((x174:Int)>=0))) (.tuple ⟨[]⟩) (.tuple ⟨[]⟩) (.tuple ⟨[]⟩) (.tuple ⟨[]⟩) (.tuple ⟨[]⟩) (.tuple ⟨[]⟩) (.tuple ⟨[]⟩) (.tuple ⟨[]⟩) (.tuple ⟨[]⟩) (.tuple ⟨[]⟩) (.tuple ⟨[]⟩) (.tuple ⟨[]⟩) false))))
 (j95 v37 v38 v39 x40 v41 v42 v43 (.bool v38) (.tuple ⟨[]⟩) (.tuple ⟨[]⟩) (.tuple ⟨[]⟩) (.tuple ⟨[]⟩) (.tuple ⟨[]⟩) (.tuple ⟨[]⟩) (.tuple ⟨[]⟩) (.tuple ⟨[]⟩) (.tuple ⟨[]⟩) (.tuple ⟨[]⟩) (.tuple ⟨[]⟩) (.tuple ⟨[]⟩) (.tuple ⟨[]⟩) (.tuple ⟨[]⟩) (.tuple ⟨[]⟩) false))))))))))))))))))) (ptrW v41 (fun b187 o188=>rdT (rdA 3 b187 o188) (.one (.agg [(.int .i64),.str,(.int .i64)])) (fun(x189:Int) (x190:ByteArray) (x191:Int) =>
 stW Tryz.prog 133 (.pointer x40) (.agg ⟨[.int .i64 x189,.string x190,.int .i64 x191]⟩) (ptrW x40 (fun b192 o193=>rdT (rdA 3 b192 o193) (.one (.agg [(.int .i64),.str,(.int .i64)])) (fun(r194:Int) (r195:ByteArray) (r196:Int) =>
 K (.tuple ⟨[.agg ⟨[.int .i64 r194,.string r195,.int .i64 r196]⟩,.int .i64 0]⟩))))))))) (fun(R197:Option Addr->Bool->Option Addr->Option Addr->Option Addr->Sl->Int->H->Prop)=>R197 v28 v31 v32 x33 (some ⟨b34,0,none⟩) x35 0))))) (fun j27=>idxW v16 0 (fun c198=>brW ((c198.toNat:Int)==47) (j27 v14 0 v16 v17 v18 x19)
 (j27 v14 v15 v16 v17 v18 x19)))))) (fun(R199:Option Addr->Int->ByteArray->Bool->Option Addr->Option Addr->Int->H->Prop)=>R199 v1 v2 v3 v4 v5 (some ⟨b6,0,none⟩) 0))))
theorem c150 (v1:Option Addr) (v2:Int) (v3:ByteArray) (v4:Bool) (v5:Option Addr) {K:KH} {σ:H}:g150 v1 v2 v3 v4 v5 K σ->callW Tryz.prog 150 [.pointer v1,.int .i64 v2,.string v3,.bool v4,.pointer v5] K σ:=call_k an150 Tryz.func150 (by kernel_rfl)


def an151:Ann:=(.q (.q .z))
def g151 (x1:Option Addr) (K:KH):H->Prop :=
 ptrW x1 (fun b2 o3=>rdT (rdC b2 o3) kI (fun(x4:Int)=>brW (decide ((x4:Int)>=0)) (ptrW x1 (fun b5 o6=>rdT (rdC b5 o6) kI (fun(x7:Int)=>callT Tryz.prog 74 [.bool (decide ((x7:Int)<=511)),.int .i64 2] kI (fun(x8:Int)=>K (.int .i64 x8))))) (callT Tryz.prog 74 [.bool false,.int .i64 2] kI (fun(x9:Int)=>K (.int .i64 x9)))))
theorem c151 (x1:Option Addr) {K:KH} {σ:H}:g151 x1 K σ->callW Tryz.prog 151 [.pointer x1] K σ:=call_k an151 Tryz.func151 (by kernel_rfl)


def an152:Ann:=(.q (.q .z))
def g152 (x1:Option Addr) (x2:Option Addr) (K:KH):H->Prop :=
 ptrW x1 (fun b3 o4=>rdT (rdC b3 o4) kP (fun x5=>ptrW x2 (fun b6 o7=>rdT (rdC b6 o7) kI (fun(x8:Int)=>callT Tryz.prog 85 [.pointer x5,.int .i64 x8] kP (fun x9=>callT Tryz.prog 74 [.bool (!x9.isNone),.int .i64 5] kI (fun(x10:Int)=>K (.int .i64 x10)))))))
theorem c152 (x1:Option Addr) (x2:Option Addr) {K:KH} {σ:H}:g152 x1 x2 K σ->callW Tryz.prog 152 [.pointer x1,.pointer x2] K σ:=call_k an152 Tryz.func152 (by kernel_rfl)


def an153:Ann:=(.q (.n (.q (.h)) (.n (.reg (rn 23) [[],[0],[0,1],[0,1,2],(rn 4),[],[5],[5,6],[5,6,7],[5,6,7,8],[5,6,7,8,9],[],[5,6,7,8,9,10,11],[5,6,7,8,9,10,11,12],[],[14],[5,6,7,8,9,10,11,12,13,14,15],[5,6,7,8,9,10,11,12,13,14,15,16],(rn 18),(rn 19),(rn 20),(rn 21),(rn 22)]) (.q (.seq (some []) (.q (.cond .r .z)) (.q .z))))))
def g153 (v1:Option Addr) (v2:ByteArray) (v3:Int) (K:KH):H->Prop :=
 brW ((v3:Int)==0) (K (.bool false)) (ptrW v1 (fun b4 o5=>rdT (rdC b4 (o5+6)) kS (fun(x6:ByteArray)=>ptrW v1 (fun b7 o8=>rdT (rdC b7 o8) kS (fun(x9:ByteArray)=>ifW (x9.size+(⟨⟨[58,32]⟩⟩:ByteArray).size<=9223372036854775807) (ifW ((x9++⟨⟨[58,32]⟩⟩).size+v2.size<=9223372036854775807) (ifW (((x9++⟨⟨[58,32]⟩⟩)++v2).size+(⟨⟨[58,32]⟩⟩:ByteArray).size<=9223372036854775807)
 (callT Tryz.prog 120 [.int .i64 v3] kS (fun(x10:ByteArray)=>andW (fun σ=>(rdC b7 o8) σ=some (.string x9)) (andW (fun σ=>(rdC b4 (o5+6)) σ=some (.string x6)) (ifW ((((x9++⟨⟨[58,32]⟩⟩)++v2)++⟨⟨[58,32]⟩⟩).size+x10.size<=9223372036854775807) (ifW (((((x9++⟨⟨[58,32]⟩⟩)++v2)++⟨⟨[58,32]⟩⟩)++x10).size+(⟨⟨[10]⟩⟩:ByteArray).size<=9223372036854775807)
 (ifW (x6.size+(((((x9++⟨⟨[58,32]⟩⟩)++v2)++⟨⟨[58,32]⟩⟩)++x10)++⟨⟨[10]⟩⟩).size<=9223372036854775807) (ptrW v1 (fun b11 o12=>stW Tryz.prog 9 (.pointer (some ⟨b11,o12+6,none⟩)) (.string (x6++(((((x9++⟨⟨[58,32]⟩⟩)++v2)++⟨⟨[58,32]⟩⟩)++x10)++⟨⟨[10]⟩⟩))) (ptrW v1 (fun b13 o14=>rdT (rdC b13 (o14+7)) kI (fun(x15:Int)=>ptrW v1 (fun b16 o17 =>
 stW Tryz.prog 3 (.pointer (some ⟨b16,o17+7,none⟩)) (.int .i64 (if 1>x15 then 1 else x15)) (letJ (T:=H->Prop) (K (.bool true)) (fun j18=>brW ((v3:Int)==10) (ptrW v1 (fun b19 o20=>stW Tryz.prog 4 (.pointer (some ⟨b19,o20+10,none⟩)) (.bool true) (ptrW v1 (fun b21 o22=>stW Tryz.prog 3 (.pointer (some ⟨b21,o22+7,none⟩)) (.int .i64 3) (j18))))) (j18))))))))))))))))))))))
theorem c153 (v1:Option Addr) (v2:ByteArray) (v3:Int) {K:KH} {σ:H}:g153 v1 v2 v3 K σ->callW Tryz.prog 153 [.pointer v1,.string v2,.int .i64 v3] K σ:=call_k an153 Tryz.func153 (by kernel_rfl)


def an154:Ann:=(.q (.blk (.loop [(0,.w),(1,.p),(3,.i)] (.n (.q (.cond .z .z)) (.n (.blk (.seq (some [(0,.w),(1,.p),(3,.i),(28,.b)]) .r (.cond .z .z))) .r)))))
def g154 (v1:Value) (x2:Option Addr) (K:KH):H->Prop :=
 loopW [.sc .raw,.sc .ptr,.sc (.int .i64)] (fun(R3:Value->Option Addr->Int->H->Prop)=>(fun(v4:Value) (x5:Option Addr) (v6:Int)=>ptrW x5 (fun b7 o8=>rdT (rdC b7 o8) kS (fun(x9:ByteArray)=>brW (decide ((v6:Int)<((x9.size:Nat):Int))) (letJ (T:=Value->Option Addr->Int->Bool->H->Prop) (fun v11 x12 v13 x14=>brW x14 (K (.tuple ⟨[]⟩)) (R3 v11 x12 (IntKind.i64.wrap (v13+1)))) (fun j10=>ptrW x5 (fun b15 o16 =>
 rdT (rdC b15 o16) kS (fun(x17:ByteArray)=>idxW x17 v6 (fun c18=>brW ((c18.toNat:Int)==47) (ptrW x5 (fun b19 o20=>rdT (rdC b19 o20) kS (fun(x21:ByteArray)=>idxW x21 (IntKind.i64.wrap (v6 - 1)) (fun c22=>brW ((c22.toNat:Int) != 47) (ptrW x5 (fun b23 o24=>rdT (rdC b23 o24) kS (fun(x25:ByteArray)=>ifW (bndOk (some v6) x25.size/\bndOk none (v6.toNat)) (cvalT Tryz.prog v4 [.string (x25.extract 0 v6.toNat)] kB (fun x26 =>
 j10 v4 x5 v6 (!x26)))))) (j10 v4 x5 v6 false))))) (j10 v4 x5 v6 false)))))) (K (.tuple ⟨[]⟩)))))) (fun(R27:Value->Option Addr->Int->H->Prop)=>R27 v1 x2 1)
theorem c154 (v1:Value) (x2:Option Addr) {K:KH} {σ:H}:g154 v1 x2 K σ->callW Tryz.prog 154 [v1,.pointer x2] K σ:=call_k an154 Tryz.func154 (by kernel_rfl)


def an155:Ann:=(.q (.q (.n (.n (.reg [0,1,2,3,5,6,7,4,8,9,10,11,12] [[],[0],[],[],[2,3],[],[],[],[2,3,4,5,6,7],[],(rn 10),(rn 11),(rn 12)]) (.q (.h))) (.q (.n (.reg (rn 11) [[],[0],[0,1],[0,1,2],[],(rn 5),(rn 6),(rn 7),(rn 8),[],(rn 10)]) (.q (.seq (some []) (.q (.q (.cond (.q (.q (.reg (rn 16) [[],[0],[0,1],[0,1,2],(rn 4),[],[5],[5,6],[5,6,7],[5,6,7,8],[5,6,7,8,9],(rn 11),(rn 12),(rn 13),(rn 14),(rn 15)]))) .z))) (.q .z))))))))
def g155 (v1:Option Addr) (v2:Int) (v3:ByteArray) (K:KH):H->Prop :=
 alW (.cells ⟨[.pointer v1]⟩ 59 (0,0)) (fun b4=>alW (.cells ⟨[.int .i64 v2]⟩ 3 (0,0)) (fun b5=>alW (.cells ⟨[.string v3]⟩ 9 (0,0)) (fun b6=>rdT (rdC b4 0) kP (fun x7=>rdT (rdC b4 0) kP (fun x8=>rdT (rdC b5 0) kI (fun(x9:Int)=>rdT (rdC b4 0) kP (fun x10=>rdT (rdC b5 0) kI (fun(x11:Int)=>rdT (rdC b6 0) kS (fun(x12:ByteArray)=>callT Tryz.prog 77 [.pointer x8,.int .i64 x9] kR (fun x13=>andW (fun σ=>(rdC b6 0) σ=some (.string x12))
 (andW (fun σ=>(rdC b5 0) σ=some (.int .i64 x11)) (andW (fun σ=>(rdC b4 0) σ=some (.pointer x10)) (andW (fun σ=>(rdC b4 0) σ=some (.pointer x7)) (callT Tryz.prog 186 [.pointer x10,.int .i64 x11,.string x12] kR (fun x14=>andW (fun σ=>(rdC b4 0) σ=some (.pointer x7)) (oneK x13 (oneK x14
 (alW (.cells ⟨[.func (.func 76) ⟨[.pointer x7]⟩ ⟨[]⟩,x13,x14,.func (.func 185) ⟨[]⟩ ⟨[.pointer (some ⟨b4,0,none⟩),.pointer (some ⟨b5,0,none⟩),.pointer (some ⟨b6,0,none⟩)]⟩]⟩ 122 (0,0)) (fun b15=>callT Tryz.prog 75 [.slice (some ⟨b15,0,none⟩) 4 4] kI (fun(x16:Int)=>brW ((x16:Int) != 0) (K (.int .i64 x16)) (rdT (rdC b4 0) kP (fun x17=>rdT (rdC b5 0) kI (fun(x18:Int)=>rdT (rdC b6 0) kS (fun(x19:ByteArray) =>
 callT Tryz.prog 143 [.pointer x17,.int .i64 x18,.string x19] (.tup [.sc (.int .i64),.sc .bool]) (fun(x20:Int) (_x21:Bool)=>rdT (rdC b4 0) kP (fun x22=>ptrW x22 (fun b23 o24=>rdT (rdC b23 (o24+4)) kM (fun(x25:Option Nat)=>rdT (rdC b5 0) kI (fun(x26:Int)=>rdT (rdM (.int .i64) (.pointer none) false x25 (.int .i64 x26)) kP (fun x27=>ptrW x27 (fun b28 o29=>rdT (rdC b28 (o29+5)) kM (fun(x30:Option Nat)=>rdT (rdC b6 0) kS (fun(x31:ByteArray) =>
 biW Tryz.prog .delete #[113,9] 0 [false,false] [.map x30,.string x31] kU (rdT (rdC b4 0) kP (fun x32=>ptrW x32 (fun b33 o34=>rdT (rdC b33 (o34+4)) kM (fun(x35:Option Nat)=>rdT (rdM (.int .i64) (.pointer none) false x35 (.int .i64 x20)) kP (fun x36=>letJ (T:=H->Prop) (K (.int .i64 0)) (fun j37=>ptrW x36 (fun b38 o39=>rdT (rdC b38 (o39+3)) kI (fun(x40:Int)=>ptrW x36 (fun b41 o42 =>
 stW Tryz.prog 3 (.pointer (some ⟨b41,o42+3,none⟩)) (.int .i64 (IntKind.i64.wrap (x40 - 1))) (ptrW x36 (fun b43 o44=>rdT (rdC b43 (o44+3)) kI (fun(x45:Int)=>brW ((x45:Int)==0) (rdT (rdC b4 0) kP (fun x46=>ptrW x46 (fun b47 o48=>rdT (rdC b47 (o48+4)) kM (fun(x49:Option Nat)=>biW Tryz.prog .delete #[116,3] 0 [false,false] [.map x49,.int .i64 x20] kU (rdT (rdC b4 0) kP (fun x50=>ptrW x50 (fun b51 o52=>rdT (rdC b51 (o52+2)) kI (fun(x53:Int) =>
 ptrW x50 (fun b54 o55=>stW Tryz.prog 3 (.pointer (some ⟨b54,o55+2,none⟩)) (.int .i64 (IntKind.i64.wrap (x53 - 1))) (rdT (rdC b4 0) kP (fun x56=>ptrW x56 (fun b57 o58=>rdT (rdC b57 (o58+3)) kI (fun(x59:Int)=>ptrW x36 (fun b60 o61=>rdT (rdC b60 (o61+2)) kS (fun(x62:ByteArray)=>ptrW x56 (fun b63 o64=>stW Tryz.prog 3 (.pointer (some ⟨b63,o64+3,none⟩)) (.int .i64 (IntKind.i64.wrap (x59 - ((x62.size:Nat):Int)))) (j37)))))))))))))))))
 (j37))))))))))))))))))))))))))))))))))))))))))))))
theorem c155 (v1:Option Addr) (v2:Int) (v3:ByteArray) {K:KH} {σ:H}:g155 v1 v2 v3 K σ->callW Tryz.prog 155 [.pointer v1,.int .i64 v2,.string v3] K σ:=call_k an155 Tryz.func155 (by kernel_rfl)


def an156:Ann:=(.q (.q (.n (.q (.h)) (.q .z))))
def g156 (v1:ByteArray) (v2:Int) (v3:Int) (K:KH):H->Prop :=
 callT Tryz.prog 187 [.string v1,.int .i64 v2,.int .i64 v3] (.tup [.sc (.int .i64),.sc .raw]) (fun(x4:Int) (x5:Value)=>vaW Tryz.prog (do eqGuard .neq 175 (.tmp 16) (.const (.nilIface)) (x5) (.nilIface);binOp .neq 175 (x5) (.nilIface)) kB (fun x6=>brW x6 (callT Tryz.prog 188 [.string ⟨⟨[80,97,114,115,101,73,110,116]⟩⟩,.string v1,.int .i64 v2,.int .i64 v3,x5] kR (fun x7=>K (.tuple ⟨[.int .i64 x4,x7]⟩)))
 (K (.tuple ⟨[.int .i64 x4,.nilIface]⟩))))
theorem c156 (v1:ByteArray) (v2:Int) (v3:Int) {K:KH} {σ:H}:g156 v1 v2 v3 K σ->callW Tryz.prog 156 [.string v1,.int .i64 v2,.int .i64 v3] K σ:=call_k an156 Tryz.func156 (by kernel_rfl)


def an157:Ann:=(.q (.seq (some [(8,.p),(9,.p),(10,.i)]) (.q (.q (.cond .r .z))) (.n (.reg (rn 6) [[],[],[],[0],[0,1,3],(rn 5)]) .z)))
def g157 (v1:Option Addr) (v2:ByteArray) (v3:ByteArray) (v4:ByteArray) (K:KH):H->Prop :=
 alW (.cells ⟨[.int .i64 0,.string ⟨⟨[]⟩⟩,.int .i64 0,.bool false]⟩ 65 (0,0)) (fun b5=>alW (.cells ⟨[.int .i64 0,.string ⟨⟨[]⟩⟩,.int .i64 0,.bool false]⟩ 65 (0,0)) (fun b6=>letJ (T:=Option Addr->Option Addr->Int->H->Prop) (fun v8 v9 v10=>ptrW v8 (fun b11 o12=>rdT (rdA 4 b11 o12) (.one (.agg [(.int .i64),.str,(.int .i64),.bool])) (fun(x13:Int) (x14:ByteArray) (x15:Int) (x16:Bool)=>ptrW v9 (fun b17 o18 =>
 rdT (rdA 4 b17 o18) (.one (.agg [(.int .i64),.str,(.int .i64),.bool])) (fun(x19:Int) (x20:ByteArray) (x21:Int) (x22:Bool)=>stW Tryz.prog 65 (.pointer v8) (.agg ⟨[.int .i64 x13,.string x14,.int .i64 x15,.bool x16]⟩) (andW (fun σ=>(rdA 4 b17 o18) σ=some (.agg ⟨[.int .i64 x19,.string x20,.int .i64 x21,.bool x22]⟩)) (stW Tryz.prog 65 (.pointer v9) (.agg ⟨[.int .i64 x19,.string x20,.int .i64 x21,.bool x22]⟩) (ptrW v8 (fun b23 o24 =>
 rdT (rdA 4 b23 o24) (.one (.agg [(.int .i64),.str,(.int .i64),.bool])) (fun(r25:Int) (r26:ByteArray) (r27:Int) (r28:Bool)=>ptrW v9 (fun b29 o30=>rdT (rdA 4 b29 o30) (.one (.agg [(.int .i64),.str,(.int .i64),.bool])) (fun(r31:Int) (r32:ByteArray) (r33:Int) (r34:Bool)=>K (.tuple ⟨[.agg ⟨[.int .i64 r25,.string r26,.int .i64 r27,.bool r28]⟩,.agg ⟨[.int .i64 r31,.string r32,.int .i64 r33,.bool r34]⟩,.int .i64 v10]⟩))))))))))))) (fun j7 =>
 callT Tryz.prog 29 [.pointer v1,.string v2,.string v3,.bool false] (.tup [.agg [(.int .i64),.str,(.int .i64),.bool],.sc (.int .i64)]) (fun(x35:Int) (x36:ByteArray) (x37:Int) (x38:Bool) (x39:Int)=>stW Tryz.prog 65 (.pointer (some ⟨b5,0,none⟩)) (.agg ⟨[.int .i64 x35,.string x36,.int .i64 x37,.bool x38]⟩) (brW ((x39:Int)==0)
 (callT Tryz.prog 29 [.pointer v1,.string v2,.string v4,.bool false] (.tup [.agg [(.int .i64),.str,(.int .i64),.bool],.sc (.int .i64)]) (fun(x40:Int) (x41:ByteArray) (x42:Int) (x43:Bool) (x44:Int)=>stW Tryz.prog 65 (.pointer (some ⟨b6,0,none⟩)) (.agg ⟨[.int .i64 x40,.string x41,.int .i64 x42,.bool x43]⟩) (j7 (some ⟨b5,0,none⟩) (some ⟨b6,0,none⟩) x44))) (j7 (some ⟨b5,0,none⟩) (some ⟨b6,0,none⟩) x39))))))
theorem c157 (v1:Option Addr) (v2:ByteArray) (v3:ByteArray) (v4:ByteArray) {K:KH} {σ:H}:g157 v1 v2 v3 v4 K σ->callW Tryz.prog 157 [.pointer v1,.string v2,.string v3,.string v4] K σ:=call_k an157 Tryz.func157 (by kernel_rfl)


def an158:Ann:=(.q (.n (.q (.q (.h))) (.q (.q (.q .z)))))
def g158 (v1:Option Addr) (v2:Int) (v3:ByteArray) (v4:Int) (K:KH):H->Prop :=
 callT Tryz.prog 77 [.pointer v1,.int .i64 v2] kR (fun x5=>callT Tryz.prog 78 [.string v3] kR (fun x6=>callT Tryz.prog 87 [.pointer v1,.int .i64 v4] kR (fun x7=>callT Tryz.prog 79 [.pointer v1,.int .i64 v2,.string v3] kR (fun x8=>oneK x5 (oneK x6 (oneK x7 (oneK x8 (alW (.cells ⟨[.func (.func 76) ⟨[.pointer v1]⟩ ⟨[]⟩,x5,x6,x7,x8]⟩ 122 (0,0)) (fun b9=>callT Tryz.prog 75 [.slice (some ⟨b9,0,none⟩) 5 5] kI (fun(x10:Int)=>brW ((x10:Int) != 0)
 (K (.int .i64 x10)) (ptrW v1 (fun b11 o12=>rdT (rdC b11 (o12+4)) kM (fun(x13:Option Nat)=>rdT (rdM (.int .i64) (.pointer none) false x13 (.int .i64 v2)) kP (fun x14=>ptrW x14 (fun b15 o16=>rdT (rdC b15 (o16+5)) kM (fun(x17:Option Nat)=>muW Tryz.prog 113 (.map x17) (.string v3) (.int .i64 v4) (ptrW v1 (fun b18 o19=>rdT (rdC b18 (o19+4)) kM (fun(x20:Option Nat)=>rdT (rdM (.int .i64) (.pointer none) false x20 (.int .i64 v4)) kP (fun x21 =>
 ptrW x21 (fun b22 o23=>rdT (rdC b22 (o23+3)) kI (fun(x24:Int)=>ptrW x21 (fun b25 o26=>stW Tryz.prog 3 (.pointer (some ⟨b25,o26+3,none⟩)) (.int .i64 (IntKind.i64.wrap (x24+1))) (K (.int .i64 0)))))))))))))))))))))))))
theorem c158 (v1:Option Addr) (v2:Int) (v3:ByteArray) (v4:Int) {K:KH} {σ:H}:g158 v1 v2 v3 v4 K σ->callW Tryz.prog 158 [.pointer v1,.int .i64 v2,.string v3,.int .i64 v4] K σ:=call_k an158 Tryz.func158 (by kernel_rfl)


def an159:Ann:=(.q (.n (.q (.cond (.n (.reg (rn 9) [[],[],[],[2],[],[4],[2,3,4,5],(rn 7),(rn 8)]) .z) .z)) (.q .z)))
def g159 (v1:ByteArray) (x2:Option Addr) (x3:Option Addr) (x4:Option Addr) (K:KH):H->Prop :=
 ptrW x2 (fun b5 o6=>rdT (rdC b5 o6) kB (fun x7=>brW x7 (ptrW x3 (fun b8 o9=>rdT (rdC b8 o9) kR (fun x10=>ptrW x4 (fun b11 o12=>rdT (rdC b11 o12) kS (fun(x13:ByteArray)=>ifW (x13.size+(⟨⟨[47]⟩⟩:ByteArray).size<=9223372036854775807) (callT Tryz.prog 160 [.string v1] kS (fun(x14:ByteArray)=>andW (fun σ=>(rdC b11 o12) σ=some (.string x13)) (andW (fun σ=>(rdC b8 o9) σ=some (x10)) (ifW ((x13++⟨⟨[47]⟩⟩).size+x14.size<=9223372036854775807)
 (cvalT Tryz.prog x10 [.string v1,.string ((x13++⟨⟨[47]⟩⟩)++x14)] kI (fun(x15:Int)=>K (.int .i64 x15)))))))))))) (ptrW x3 (fun b16 o17=>rdT (rdC b16 o17) kR (fun x18=>ptrW x4 (fun b19 o20=>rdT (rdC b19 o20) kS (fun(x21:ByteArray)=>cvalT Tryz.prog x18 [.string v1,.string x21] kI (fun(x22:Int)=>K (.int .i64 x22)))))))))
theorem c159 (v1:ByteArray) (x2:Option Addr) (x3:Option Addr) (x4:Option Addr) {K:KH} {σ:H}:g159 v1 x2 x3 x4 K σ->callW Tryz.prog 159 [.string v1,.pointer x2,.pointer x3,.pointer x4] K σ:=call_k an159 Tryz.func159 (by kernel_rfl)


def an160:Ann:=(.q (.q (.q .z)))
def g160 (v1:ByteArray) (K:KH):H->Prop :=
 callT Tryz.prog 189 [.string v1,.string ⟨⟨[47]⟩⟩] kS (fun(x2:ByteArray)=>callT Tryz.prog 190 [.string x2,.int .u8 47] kI (fun(x3:Int)=>ifW (bndOk none x2.size/\bndOk (some (IntKind.i64.wrap (x3+1))) (x2.size)) (K (.string (x2.extract ((IntKind.i64.wrap (x3+1)).toNat) x2.size)))))
theorem c160 (v1:ByteArray) {K:KH} {σ:H}:g160 v1 K σ->callW Tryz.prog 160 [.string v1] K σ:=call_k an160 Tryz.func160 (by kernel_rfl)


def an161:Ann:=(.q (.n (.reg [0,1,2,5,6,7,3,4,8,9,10,11] [[],[],[1],[0,1,2],(rn 4),[],[],[6],[0,1,2,3,5,6,7],[0,1,2,3,5,6,7,8],(rn 9),(rn 11)]) (.seq (some [(0,.p),(4,.p),(5,.p),(7,.b)]) (.blk (.q (.cond .z (.seq (some [(0,.p),(4,.p),(5,.p),(7,.b),(8,.b),(23,.b)]) .r (.cond (.q .z) (.seq (some [(0,.p),(4,.p),(5,.p),(7,.b),(29,.b)]) .r (.cond (.q .z) (.n (.reg (rn 10) [[],[0],[0,1],[0,1,2],[],[4],(rn 6),(rn 7),(rn 8),(rn 9)]) (.h))))))))) (.n (.seq (some [(0,.p),(4,.p),(5,.p),(53,.b)]) .r (.h)) (.n (.n (.reg [0,1,2,4,5,6,3,7,8,9] [[],[],[1],[0,1,2],[],[],[5],(rn 7),(rn 8),(rn 9)]) (.h)) (.q .z))))))
def g161 (v1:Option Addr) (v2:Int) (v3:ByteArray) (v4:Int) (v5:Bool) (v6:Int) (v7:ByteArray) (v8:Int) (v9:Bool) (K:KH):H->Prop :=
 alW (.cells ⟨[.int .i64 v2,.string v3,.int .i64 v4,.bool v5]⟩ 65 (0,0)) (fun b10=>alW (.cells ⟨[.int .i64 v6,.string v7,.int .i64 v8,.bool v9]⟩ 65 (0,0)) (fun b11=>rdT (rdC b10 2) kI (fun(x12:Int)=>rdT (rdC b11 2) kI (fun(x13:Int)=>callT Tryz.prog 84 [.pointer v1,.int .i64 x12] kI (fun(x14:Int)=>andW (fun σ=>(rdC b11 2) σ=some (.int .i64 x13)) (callT Tryz.prog 84 [.pointer v1,.int .i64 x13] kI (fun(x15:Int) =>
 letJ (T:=Option Addr->Option Addr->Option Addr->Bool->H->Prop) (fun v17 v18 v19 v20=>letJ (T:=Option Addr->Option Addr->Option Addr->Bool->H->Prop) (fun v22 v23 v24 x25=>brW x25 (K (.int .i64 2)) (ptrW v24 (fun b26 o27=>rdT (rdC b26 o27) kI (fun(x28:Int)=>ptrW v23 (fun b29 o30=>rdT (rdC b29 (o30+2)) kI (fun(x31:Int)=>callT Tryz.prog 27 [.pointer v22,.int .i64 x28] kI (fun(x32:Int)=>andW (fun σ=>(rdC b29 (o30+2)) σ=some (.int .i64 x31))
 (callT Tryz.prog 192 [.pointer v22,.int .i64 x31] kI (fun(x33:Int)=>brW (decide (((IntKind.i64.wrap (x32+x33)):Int)>12)) (K (.int .i64 3)) (K (.int .i64 0))))))))))) (fun j21=>brW v20 (ptrW v19 (fun b34 o35=>rdT (rdC b34 o35) kI (fun(x36:Int)=>ptrW v18 (fun b37 o38=>rdT (rdC b37 (o38+2)) kI (fun(x39:Int)=>callT Tryz.prog 191 [.pointer v17,.int .i64 x36,.int .i64 x39] kB (fun x40=>j21 v17 v18 v19 x40)))))) (j21 v17 v18 v19 false))) (fun j16 =>
 rdT (rdC b11 3) kB (fun x41=>brW (!x41) (j16 v1 (some ⟨b10,0,none⟩) (some ⟨b11,0,none⟩) ((x14:Int)==2)) (letJ (T:=Option Addr->Option Addr->Option Addr->Bool->Bool->Bool->H->Prop) (fun v43 v44 v45 v46 v47 x48=>brW x48 (K (.int .i64 7)) (letJ (T:=Option Addr->Option Addr->Option Addr->Bool->Bool->H->Prop) (fun v50 v51 v52 v53 x54=>brW x54 (K (.int .i64 8)) (ptrW v50 (fun b55 o56=>rdT (rdC b55 o56) kP (fun x57=>ptrW v52 (fun b58 o59 =>
 rdT (rdC b58 (o59+2)) kI (fun(x60:Int)=>callT Tryz.prog 70 [.pointer x57,.int .i64 x60] kL (fun x61=>brW (decide (((x61.len:Nat):Int)>0)) (K (.int .i64 20)) (j16 v50 v51 v52 v53)))))))) (fun j49=>brW v46 (j49 v43 v44 v45 v46 (!v47)) (j49 v43 v44 v45 v46 false)))) (fun j42=>brW ((x15:Int)==2) (j42 v1 (some ⟨b10,0,none⟩) (some ⟨b11,0,none⟩) ((x14:Int)==2) ((x15:Int)==2) (!((x14:Int)==2)))
 (j42 v1 (some ⟨b10,0,none⟩) (some ⟨b11,0,none⟩) ((x14:Int)==2) ((x15:Int)==2) false))))))))))))
theorem c161 (v1:Option Addr) (v2:Int) (v3:ByteArray) (v4:Int) (v5:Bool) (v6:Int) (v7:ByteArray) (v8:Int) (v9:Bool) {K:KH} {σ:H}:g161 v1 v2 v3 v4 v5 v6 v7 v8 v9 K σ->callW Tryz.prog 161 [.pointer v1,.agg ⟨[.int .i64 v2,.string v3,.int .i64 v4,.bool v5]⟩,.agg ⟨[.int .i64 v6,.string v7,.int .i64 v8,.bool v9]⟩] K σ:=call_k an161 Tryz.func161 (by kernel_rfl)


def an162:Ann:=(.q (.n (.reg [0,1,2,3,5,6,8,10,4,7,9,11,12,13,14,15,16] [[],[0],[],[],[2,3],[],[],[2,3,4,5,6],[],[2,3,4,5,6,7,8],[],[],[],[2,3,4,5,6,7,8,9,10,11,12],(rn 14),(rn 15),(rn 16)]) (.n (.seq (some [(1,.i),(2,.s),(4,.s),(5,.p),(8,.p),(11,.i),(44,.b)]) .r (.h)) (.q (.q (.n (.q (.q (.h))) (.q (.n (.reg (rn 12) [[],[0],[0,1],[0,1,2],[],(rn 5),(rn 6),(rn 7),(rn 8),[],[],(rn 11)]) (.seq (some []) (.n (.reg (rn 7) [[],[0],[0,1],[0,1,2],[],(rn 5),(rn 6)]) (.q (.cond .r .z))) (.q .z))))))))))
def g162 (v1:Option Addr) (v2:Int) (v3:ByteArray) (v4:Int) (v5:ByteArray) (K:KH):H->Prop :=
 alW (.cells ⟨[.pointer v1]⟩ 59 (0,0)) (fun b6=>alW (.cells ⟨[.int .i64 v4]⟩ 3 (0,0)) (fun b7=>rdT (rdC b6 0) kP (fun x8=>rdT (rdC b6 0) kP (fun x9=>rdT (rdC b6 0) kP (fun x10=>rdT (rdC b7 0) kI (fun(x11:Int)=>rdT (rdC b6 0) kP (fun x12=>callT Tryz.prog 77 [.pointer x9,.int .i64 v2] kR (fun x13=>andW (fun σ=>(rdC b6 0) σ=some (.pointer x12)) (andW (fun σ=>(rdC b7 0) σ=some (.int .i64 x11)) (andW (fun σ=>(rdC b6 0) σ=some (.pointer x10))
 (andW (fun σ=>(rdC b6 0) σ=some (.pointer x8)) (callT Tryz.prog 77 [.pointer x10,.int .i64 x11] kR (fun x14=>andW (fun σ=>(rdC b6 0) σ=some (.pointer x12)) (andW (fun σ=>(rdC b6 0) σ=some (.pointer x8)) (callT Tryz.prog 78 [.string v5] kR (fun x15=>andW (fun σ=>(rdC b6 0) σ=some (.pointer x12)) (andW (fun σ=>(rdC b6 0) σ=some (.pointer x8)) (callT Tryz.prog 186 [.pointer x12,.int .i64 v2,.string v3] kR (fun x16 =>
 andW (fun σ=>(rdC b6 0) σ=some (.pointer x8)) (oneK x13 (oneK x14 (oneK x15 (oneK x16 (alW (.cells ⟨[.func (.func 76) ⟨[.pointer x8]⟩ ⟨[]⟩,x13,x14,x15,x16]⟩ 122 (0,0)) (fun b17=>callT Tryz.prog 75 [.slice (some ⟨b17,0,none⟩) 5 5] kI (fun(x18:Int)=>letJ (T:=Int->ByteArray->ByteArray->Option Addr->Option Addr->Int->Bool->H->Prop) (fun v20 v21 v22 v23 v24 v25 x26=>brW x26 (K (.int .i64 v25)) (ptrW v23 (fun b27 o28=>rdT (rdC b27 o28) kP (fun x29 =>
 callT Tryz.prog 143 [.pointer x29,.int .i64 v20,.string v21] (.tup [.sc (.int .i64),.sc .bool]) (fun(x30:Int) (_x31:Bool)=>alW (.cells ⟨[.int .i64 0]⟩ 3 (0,0)) (fun b32=>stW Tryz.prog 3 (.pointer (some ⟨b32,0,none⟩)) (.int .i64 x30) (ptrW v23 (fun b33 o34=>rdT (rdC b33 o34) kP (fun x35=>ptrW v24 (fun b36 o37=>rdT (rdC b36 o37) kI (fun(x38:Int)=>callT Tryz.prog 79 [.pointer x35,.int .i64 x38,.string v22] kR (fun x39=>oneK x39
 (alW (.cells ⟨[x39,.func (.func 193) ⟨[]⟩ ⟨[.pointer v24,.pointer v23,.pointer (some ⟨b32,0,none⟩)]⟩]⟩ 122 (0,0)) (fun b40=>callT Tryz.prog 75 [.slice (some ⟨b40,0,none⟩) 2 2] kI (fun(x41:Int)=>brW ((x41:Int) != 0) (K (.int .i64 x41)) (ptrW v23 (fun b42 o43=>rdT (rdC b42 o43) kP (fun x44=>ptrW x44 (fun b45 o46=>rdT (rdC b45 (o46+4)) kM (fun(x47:Option Nat)=>rdT (rdM (.int .i64) (.pointer none) false x47 (.int .i64 v20)) kP (fun x48 =>
 ptrW x48 (fun b49 o50=>rdT (rdC b49 (o50+5)) kM (fun(x51:Option Nat)=>biW Tryz.prog .delete #[113,9] 0 [false,false] [.map x51,.string v21] kU (ptrW v23 (fun b52 o53=>rdT (rdC b52 o53) kP (fun x54=>ptrW x54 (fun b55 o56=>rdT (rdC b55 (o56+4)) kM (fun(x57:Option Nat)=>ptrW v24 (fun b58 o59=>rdT (rdC b58 o59) kI (fun(x60:Int)=>rdT (rdM (.int .i64) (.pointer none) false x57 (.int .i64 x60)) kP (fun x61=>ptrW x61 (fun b62 o63 =>
 rdT (rdC b62 (o63+5)) kM (fun(x64:Option Nat)=>rdT (rdC b32 0) kI (fun(x65:Int)=>muW Tryz.prog 113 (.map x64) (.string v22) (.int .i64 x65) (letJ (T:=H->Prop) (K (.int .i64 0)) (fun j66=>ptrW v23 (fun b67 o68=>rdT (rdC b67 o68) kP (fun x69=>ptrW x69 (fun b70 o71=>rdT (rdC b70 (o71+4)) kM (fun(x72:Option Nat)=>rdT (rdC b32 0) kI (fun(x73:Int)=>rdT (rdM (.int .i64) (.pointer none) false x72 (.int .i64 x73)) kP (fun x74=>ptrW x74 (fun b75 o76 =>
 rdT (rdC b75 o76) kI (fun(x77:Int)=>brW ((x77:Int)==2) (ptrW v24 (fun b78 o79=>rdT (rdC b78 o79) kI (fun(x80:Int)=>ptrW x74 (fun b81 o82=>stW Tryz.prog 3 (.pointer (some ⟨b81,o82+4,none⟩)) (.int .i64 x80) (j66))))) (j66))))))))))))))))))))))))))))))))))))))))))))) (fun j19=>brW ((x18:Int) != 0) (j19 v2 v3 v5 (some ⟨b6,0,none⟩) (some ⟨b7,0,none⟩) x18 true) (rdT (rdC b7 0) kI (fun(x83:Int)=>brW ((v2:Int)==x83)
 (j19 v2 v3 v5 (some ⟨b6,0,none⟩) (some ⟨b7,0,none⟩) x18 (strEq v3 v5)) (j19 v2 v3 v5 (some ⟨b6,0,none⟩) (some ⟨b7,0,none⟩) x18 false))))))))))))))))))))))))))))))
theorem c162 (v1:Option Addr) (v2:Int) (v3:ByteArray) (v4:Int) (v5:ByteArray) {K:KH} {σ:H}:g162 v1 v2 v3 v4 v5 K σ->callW Tryz.prog 162 [.pointer v1,.int .i64 v2,.string v3,.int .i64 v4,.string v5] K σ:=call_k an162 Tryz.func162 (by kernel_rfl)


def an163:Ann:=(.q (.q (.n (.reg (rn 16) [[],[0],[0,1],[0,1,2],[],[4],[4,5],[4,5,6],[4,5,6,7],[],(rn 10),(rn 11),(rn 12),(rn 12),(rn 13),(rn 15)]) (.seq (some [(0,.p),(2,.s),(3,.i),(10,.i),(12,.i)]) (.q (.cond (.reg (rn 13) [[],[0],[0,1],[0,1,2],[],[4],[4,5],[4,5,6],[4,5,6,7],[],[],(rn 11),(rn 12)]) .z)) (.seq (some [(12,.i)]) (.seq (some [(0,.p),(2,.s),(3,.i),(12,.i),(52,.b)]) .r (.cond (.reg (rn 13) [[],[0],[0,1],[0,1,2],[],[4],[4,5],[4,5,6],[4,5,6,7],[],[],(rn 11),(rn 12)]) .z)) (.q .z))))))
def g163 (v1:Option Addr) (v2:ByteArray) (v3:ByteArray) (v4:Int) (K:KH):H->Prop :=
 callT Tryz.prog 103 [.pointer v1,.string v3,.bool true] (.tup [.agg [(.int .i64),(.int .i64),.str,(.int .i64)],.sc (.int .i64)]) (fun(x5:Int) (x6:Int) (x7:ByteArray) (x8:Int) (x9:Int)=>alW (.cells ⟨[.int .i64 0,.int .i64 0,.string ⟨⟨[]⟩⟩,.int .i64 0]⟩ 73 (0,0)) (fun b10=>stW Tryz.prog 73 (.pointer (some ⟨b10,0,none⟩)) (.agg ⟨[.int .i64 x5,.int .i64 x6,.string x7,.int .i64 x8]⟩) (ptrW v1 (fun b11 o12=>rdT (rdC b11 (o12+4)) kP (fun x13 =>
 ptrW v1 (fun b14 o15=>rdT (rdC b14 (o15+3)) kS (fun(x16:ByteArray)=>callT Tryz.prog 194 [.pointer x13,.string x16,.string v2] (.tup [.sc .str,.sc (.int .i64)]) (fun(x17:ByteArray) (x18:Int)=>letJ (T:=Option Addr->ByteArray->Int->Int->Int->H->Prop) (fun v20 v21 v22 v23 v24=>letJ (T:=Int->H->Prop) (fun v26=>K (.int .i64 v26)) (fun j25=>letJ (T:=Option Addr->ByteArray->Int->Int->Bool->H->Prop) (fun v28 v29 v30 v31 x32 =>
 brW x32 (ptrW v28 (fun b33 o34=>rdT (rdC b33 (o34+4)) kP (fun x35=>ptrW v28 (fun b36 o37=>rdT (rdC b36 (o37+3)) kS (fun(x38:ByteArray)=>callT Tryz.prog 39 [.pointer x35,.string x38,.string v29,.int .i64 v30] kI (fun(x39:Int)=>j25 x39)))))) (j25 v31)) (fun j27=>brW ((v24:Int)==0) (j27 v20 v21 v22 v24 ((v23:Int) != 0)) (j27 v20 v21 v22 v24 false)))) (fun j19=>brW ((x18:Int)==0) (ptrW v1 (fun b40 o41 =>
 rdT (rdC b40 (o41+4)) kP (fun x42=>ptrW v1 (fun b43 o44=>rdT (rdC b43 (o44+3)) kS (fun(x45:ByteArray)=>callT Tryz.prog 10 [.pointer x42,.string x45,.string v3,.string x17,.bool false] kI (fun(x46:Int)=>j19 v1 v3 v4 x9 x46)))))) (j19 v1 v3 v4 x9 x18))))))))))
theorem c163 (v1:Option Addr) (v2:ByteArray) (v3:ByteArray) (v4:Int) {K:KH} {σ:H}:g163 v1 v2 v3 v4 K σ->callW Tryz.prog 163 [.pointer v1,.string v2,.string v3,.int .i64 v4] K σ:=call_k an163 Tryz.func163 (by kernel_rfl)

end Go.Proofs.YtbdlkofldmhoaaaGreatDoor

set_option maxRecDepth 100000
namespace Go.Proofs.YtbdlkofldmhoaaaGreatDoor
open Go Go.HL
def an164:Ann:=(.q (.n (.reg (rn 16) [[],[0],[0,1],[0,1,2],[],[4],[4,5],[4,5,6],[4,5,6,7],[],(rn 10),(rn 11),(rn 12),(rn 12),(rn 13),(rn 15)]) (.n (.reg (rn 16) [[],[0],[0,1],[0,1,2],[],[4],[4,5],[4,5,6],[4,5,6,7],[],(rn 10),(rn 11),(rn 12),(rn 12),(rn 13),(rn 15)]) (.seq (some [(7,.s),(8,.i),(9,.s),(10,.i)]) (.q (.cond (.reg (rn 17) [[],[0],[0,1],[0,1,2],[],[4],[4,5],[4,5,6],[4,5,6,7],[],[9],(rn 11),(rn 12),(rn 13),(rn 13),(rn 14),(rn 16)]) .z)) (.q .z)))))
def g164 (v1:Option Addr) (v2:ByteArray) (v3:ByteArray) (K:KH):H->Prop :=
 ptrW v1 (fun b4 o5=>rdT (rdC b4 (o5+4)) kP (fun x6=>ptrW v1 (fun b7 o8=>rdT (rdC b7 (o8+3)) kS (fun(x9:ByteArray)=>callT Tryz.prog 195 [.pointer x6,.string x9,.string v2] (.tup [.sc .str,.sc (.int .i64)]) (fun(x10:ByteArray) (x11:Int)=>ptrW v1 (fun b12 o13=>rdT (rdC b12 (o13+4)) kP (fun x14=>ptrW v1 (fun b15 o16=>rdT (rdC b15 (o16+3)) kS (fun(x17:ByteArray) =>
 callT Tryz.prog 195 [.pointer x14,.string x17,.string v3] (.tup [.sc .str,.sc (.int .i64)]) (fun(x18:ByteArray) (x19:Int)=>letJ (T:=ByteArray->Int->ByteArray->Int->H->Prop) (fun v21 v22 v23 v24=>brW ((v22:Int)==0) (brW ((v24:Int)==0) (brW (strEq v21 v23) (K (.bool true)) (callT Tryz.prog 189 [.string v21,.string ⟨⟨[47]⟩⟩] kS (fun(x25:ByteArray)=>ifW (x25.size+(⟨⟨[47]⟩⟩:ByteArray).size<=9223372036854775807)
 (callT Tryz.prog 82 [.string v23,.string (x25++⟨⟨[47]⟩⟩)] kB (fun x26=>K (.bool x26)))))) (K (.bool false))) (K (.bool false))) (fun j20=>brW ((x19:Int) != 0) (ptrW v1 (fun b27 o28=>rdT (rdC b27 (o28+4)) kP (fun x29=>ptrW v1 (fun b30 o31=>rdT (rdC b30 (o31+3)) kS (fun(x32:ByteArray)=>callT Tryz.prog 196 [.string v3] kS (fun(x33:ByteArray)=>andW (fun σ=>(rdC b30 (o31+3)) σ=some (.string x32))
 (andW (fun σ=>(rdC b27 (o28+4)) σ=some (.pointer x29)) (callT Tryz.prog 195 [.pointer x29,.string x32,.string x33] (.tup [.sc .str,.sc (.int .i64)]) (fun(x34:ByteArray) (x35:Int)=>j20 x10 x11 x34 x35))))))))) (j20 x10 x11 x18 x19))))))))))))
theorem c164 (v1:Option Addr) (v2:ByteArray) (v3:ByteArray) {K:KH} {σ:H}:g164 v1 v2 v3 K σ->callW Tryz.prog 164 [.pointer v1,.string v2,.string v3] K σ:=call_k an164 Tryz.func164 (by kernel_rfl)


def an168:Ann:=(.q (.n (.blk (.loop [(0,.s),(1,.sc (.int .u8))] (.n (.seq (some [(0,.s),(1,.sc (.int .u8)),(9,.w),(10,.w),(11,.w),(12,.w),(13,.w),(14,.w),(15,.w),(16,.b)]) .r (.cond .z .z)) (.blk .r)))) (.q .z)))
def g168 (v1:ByteArray) (v2:Int) (K:KH):H->Prop :=
 loopW [.sc .str,.sc (.int .u8)] (fun(R3:ByteArray->Int->H->Prop)=>(fun(v4:ByteArray) (v5:Int)=>letJ (T:=ByteArray->Int->Value->Value->Value->Value->Value->Value->Value->Bool->H->Prop) (fun v7 v8 _x9 _x10 _x11 _x12 _x13 _x14 _x15 x16=>brW x16 (ifW (bndOk (some (IntKind.i64.wrap (((v7.size:Nat):Int) - 1))) v7.size/\bndOk none ((IntKind.i64.wrap (((v7.size:Nat):Int) - 1)).toNat))
 (R3 (v7.extract 0 ((IntKind.i64.wrap (((v7.size:Nat):Int) - 1)).toNat)) v8)) (K (.string v7))) (fun j6=>brW (decide (((v4.size:Nat):Int)>0)) (idxW v4 (IntKind.i64.wrap (((v4.size:Nat):Int) - 1)) (fun c17 =>
 j6 v4 v5 (.string v4) (.string v4) (.int .i64 ((v4.size:Nat):Int)) (.int .i64 (IntKind.i64.wrap (((v4.size:Nat):Int) - 1))) (.int .u8 (c17.toNat:Int)) (.int .u8 v5) (.bool ((c17.toNat:Int)==v5)) ((c17.toNat:Int)==v5))) (j6 v4 v5 (.tuple ⟨[]⟩) (.tuple ⟨[]⟩) (.tuple ⟨[]⟩) (.tuple ⟨[]⟩) (.tuple ⟨[]⟩) (.tuple ⟨[]⟩) (.tuple ⟨[]⟩) false)))) (fun(R18:ByteArray->Int->H->Prop)=>R18 v1 v2)
theorem c168 (v1:ByteArray) (v2:Int) {K:KH} {σ:H}:g168 v1 v2 K σ->callW Tryz.prog 168 [.string v1,.int .u8 v2] K σ:=call_k an168 Tryz.func168 (by kernel_rfl)


def an169:Ann:=(.q (.n (.q (.blk (.loop [(0,.s),(2,.p),(4,.i)] (.n (.q (.cond .z .z)) (.n (.blk (.q (.n (.q (.h)) .r))) .r))))) (.q .z)))
def g169 (v1:ByteArray) (K:KH):H->Prop :=
 alW (.cells ⟨[.bool false,.bool false,.bool false,.bool false,.bool false,.bool false,.bool false,.bool false,.bool false,.bool false,.bool false,.bool false,.bool false,.bool false,.bool false,.bool false,.bool false,.bool false,.bool false,.bool false,.bool false,.bool false,.bool false,.bool false,.bool false,.bool false,.bool false,.bool false,.bool false,.bool false,.bool false,.bool false,.bool false,.bool false,.bool false,.bool false,.bool false,.bool false,.bool false,.bool false,.bool false,.bool false,.bool false,.bool false,.bool false,.bool false,.bool false,.bool false,.bool false,.bool false,.bool false,.bool false,.bool false,.bool false,.bool false,.bool false,.bool false,.bool false,.bool false,.bool false,.bool false,.bool false,.bool false,.bool false,.bool false,.bool false,.bool false,.bool false,.bool false,.bool false,.bool false,.bool false,.bool false,.bool false,.bool false,.bool false,.bool false,.bool false,.bool false,.bool false,.bool false,.bool false,.bool false,.bool false,.bool false,.bool false,.bool false,.bool false,.bool false,.bool false,.bool false,.bool false,.bool false,.bool false,.bool false,.bool false,.bool false,.bool false,.bool false,.bool false,.bool false,.bool false,.bool false,.bool false,.bool false,.bool false,.bool false,.bool false,.bool false,.bool false,.bool false,.bool false,.bool false,.bool false,.bool false,.bool false,.bool false,.bool false,.bool false,.bool false,.bool false,.bool false,.bool false,.bool false,.bool false,.bool false,.bool false,.bool false,.bool false,.bool false,.bool false,.bool false,.bool false,.bool false,.bool false,.bool false,.bool false,.bool false,.bool false,.bool false,.bool false,.bool false,.bool false,.bool false,.bool false,.bool false,.bool false,.bool false,.bool false,.bool false,.bool false,.bool false,.bool false,.bool false,.bool false,.bool false,.bool false,.bool false,.bool false,.bool false,.bool false,.bool false,.bool false,.bool false,.bool false,.bool false,.bool false,.bool false,.bool false,.bool false,.bool false,.bool false,.bool false,.bool false,.bool false,.bool false,.bool false,.bool false,.bool false,.bool false,.bool false,.bool false,.bool false,.bool false,.bool false,.bool false,.bool false,.bool false,.bool false,.bool false,.bool false,.bool false,.bool false,.bool false,.bool false,.bool false,.bool false,.bool false,.bool false,.bool false,.bool false,.bool false,.bool false,.bool false,.bool false,.bool false,.bool false,.bool false,.bool false,.bool false,.bool false,.bool false,.bool false,.bool false,.bool false,.bool false,.bool false,.bool false,.bool false,.bool false,.bool false,.bool false,.bool false,.bool false,.bool false,.bool false,.bool false,.bool false,.bool false,.bool false,.bool false,.bool false,.bool false,.bool false,.bool false,.bool false,.bool false,.bool false,.bool false,.bool false,.bool false,.bool false,.bool false,.bool false,.bool false,.bool false,.bool false,.bool false,.bool false,.bool false,.bool false,.bool false,.bool false,.bool false,.bool false,.bool false]⟩ 188 (0,0)) (fun b2 =>
 loopW [.sc .str,.sc .ptr,.sc (.int .i64)] (fun(R3:ByteArray->Option Addr->Int->H->Prop)=>(fun(v4:ByteArray) (v5:Option Addr) (v6:Int)=>brW (decide ((v6:Int)<((v4.size:Nat):Int))) (idxW v4 v6 (fun c7=>brW (decide ((c7.toNat:Int)>=128)) (ptrW v5 (fun b8 o9=>rdT (rdA 256 b8 o9) kR (fun x10=>stW Tryz.prog 188 (.pointer v5) (x10) (ptrW v5 (fun b11 o12=>rdT (rdA 256 b11 o12) kR (fun r13=>K (.tuple ⟨[r13,.bool false]⟩)))))))
 (ptrW v5 (fun b14 o15=>ifW (0<=(c7.toNat:Int)/\(c7.toNat:Int)<((256:Nat):Int)) (stW Tryz.prog 4 (.pointer (some ⟨b14,o15+(c7.toNat:Int).toNat * 1,none⟩)) (.bool true) (R3 v4 v5 (IntKind.i64.wrap (v6+1)))))))) (ptrW v5 (fun b16 o17=>rdT (rdA 256 b16 o17) kR (fun x18=>stW Tryz.prog 188 (.pointer v5) (x18) (ptrW v5 (fun b19 o20=>rdT (rdA 256 b19 o20) kR (fun r21 =>
 K (.tuple ⟨[r21,.bool true]⟩))))))))) (fun(R22:ByteArray->Option Addr->Int->H->Prop)=>R22 v1 (some ⟨b2,0,none⟩) 0))
theorem c169 (v1:ByteArray) {K:KH} {σ:H}:g169 v1 K σ->callW Tryz.prog 169 [.string v1] K σ:=call_k an169 Tryz.func169 (by kernel_rfl)


def an174:Ann:=(.q (.q .z))
def g174 (v1:Int) (K:KH):H->Prop :=
 callT Tryz.prog 212 [.int .i64 v1,.int .i64 10] kS (fun(x2:ByteArray)=>K (.string x2))
theorem c174 (v1:Int) {K:KH} {σ:H}:g174 v1 K σ->callW Tryz.prog 174 [.int .i64 v1] K σ:=call_k an174 Tryz.func174 (by kernel_rfl)


def an180:Ann:=(.q (.n (.q (.h)) (.n (.q (.cond (.q (.seq (some [(0,.s),(5,.sc (.int .i32))]) (.q (.cond .r .z)) (.q .z))) .z)) (.seq (some [(0,.s),(1,.s)]) (.q (.cond (.q (.q (.cond (.n (.q (.blk (.loop [(0,.s),(6,.p),(8,.i)] (.n (.q (.cond .z .z)) (.n (.blk (.q (.h))) .r))))) (.q .z)) .z))) .z)) (.n (.q (.blk (.loop [(1,.s),(45,.p)] (.q (.n (.cond .z .z) (.blk (.q (.q (.h))))))))) (.q .z))))))
def g180 (v1:ByteArray) (v2:ByteArray) (K:KH):H->Prop :=
 brW (strEq v2 (⟨⟨[]⟩⟩:ByteArray)) (K (.int .i64 (-1))) (brW (((v2.size:Nat):Int)==1) (idxW v2 0 (fun c3=>letJ (T:=ByteArray->Int->H->Prop) (fun v5 v6=>callT Tryz.prog 214 [.string v5,.int .i32 v6] kI (fun(x7:Int)=>K (.int .i64 x7))) (fun j4=>brW (decide (((IntKind.i32.wrap (c3.toNat:Int)):Int)>=128)) (j4 v1 65533) (j4 v1 (IntKind.i32.wrap (c3.toNat:Int)))))) (letJ (T:=ByteArray->ByteArray->H->Prop) (fun v9 v10 =>
 vaW Tryz.prog (Instr.range 9 (.string v9)) kP (fun x11=>loopW [.sc .str,.sc .ptr] (fun(R12:ByteArray->Option Addr->H->Prop)=>(fun(v13:ByteArray) (x14:Option Addr)=>vaW Tryz.prog (Instr.next (.pointer x14) true 0) (.opt [.sc (.int .i64),.sc (.int .i32)]) (K (.int .i64 (-1)),(fun(x15:Int) (x16:Int)=>callT Tryz.prog 214 [.string v13,.int .i32 x16] kI (fun(x17:Int)=>brW (decide ((x17:Int)>=0)) (K (.int .i64 x15))
 (R12 v13 x14)))))) (fun(R18:ByteArray->Option Addr->H->Prop)=>R18 v10 x11))) (fun j8=>callT Tryz.prog 215 [.int .i64 ((v1.size:Nat):Int)] kB (fun x19=>brW x19 (callT Tryz.prog 169 [.string v2] (.tup [.sc .raw,.sc .bool]) (fun x20 x21 =>
 alW (.cells ⟨[.bool false,.bool false,.bool false,.bool false,.bool false,.bool false,.bool false,.bool false,.bool false,.bool false,.bool false,.bool false,.bool false,.bool false,.bool false,.bool false,.bool false,.bool false,.bool false,.bool false,.bool false,.bool false,.bool false,.bool false,.bool false,.bool false,.bool false,.bool false,.bool false,.bool false,.bool false,.bool false,.bool false,.bool false,.bool false,.bool false,.bool false,.bool false,.bool false,.bool false,.bool false,.bool false,.bool false,.bool false,.bool false,.bool false,.bool false,.bool false,.bool false,.bool false,.bool false,.bool false,.bool false,.bool false,.bool false,.bool false,.bool false,.bool false,.bool false,.bool false,.bool false,.bool false,.bool false,.bool false,.bool false,.bool false,.bool false,.bool false,.bool false,.bool false,.bool false,.bool false,.bool false,.bool false,.bool false,.bool false,.bool false,.bool false,.bool false,.bool false,.bool false,.bool false,.bool false,.bool false,.bool false,.bool false,.bool false,.bool false,.bool false,.bool false,.bool false,.bool false,.bool false,.bool false,.bool false,.bool false,.bool false,.bool false,.bool false,.bool false,.bool false,.bool false,.bool false,.bool false,.bool false,.bool false,.bool false,.bool false,.bool false,.bool false,.bool false,.bool false,.bool false,.bool false,.bool false,.bool false,.bool false,.bool false,.bool false,.bool false,.bool false,.bool false,.bool false,.bool false,.bool false,.bool false,.bool false,.bool false,.bool false,.bool false,.bool false,.bool false,.bool false,.bool false,.bool false,.bool false,.bool false,.bool false,.bool false,.bool false,.bool false,.bool false,.bool false,.bool false,.bool false,.bool false,.bool false,.bool false,.bool false,.bool false,.bool false,.bool false,.bool false,.bool false,.bool false,.bool false,.bool false,.bool false,.bool false,.bool false,.bool false,.bool false,.bool false,.bool false,.bool false,.bool false,.bool false,.bool false,.bool false,.bool false,.bool false,.bool false,.bool false,.bool false,.bool false,.bool false,.bool false,.bool false,.bool false,.bool false,.bool false,.bool false,.bool false,.bool false,.bool false,.bool false,.bool false,.bool false,.bool false,.bool false,.bool false,.bool false,.bool false,.bool false,.bool false,.bool false,.bool false,.bool false,.bool false,.bool false,.bool false,.bool false,.bool false,.bool false,.bool false,.bool false,.bool false,.bool false,.bool false,.bool false,.bool false,.bool false,.bool false,.bool false,.bool false,.bool false,.bool false,.bool false,.bool false,.bool false,.bool false,.bool false,.bool false,.bool false,.bool false,.bool false,.bool false,.bool false,.bool false,.bool false,.bool false,.bool false,.bool false,.bool false,.bool false,.bool false,.bool false,.bool false,.bool false,.bool false,.bool false,.bool false,.bool false,.bool false,.bool false,.bool false,.bool false,.bool false,.bool false,.bool false,.bool false,.bool false,.bool false,.bool false,.bool false,.bool false]⟩ 188 (0,0)) (fun b22 =>
 stW Tryz.prog 188 (.pointer (some ⟨b22,0,none⟩)) (x20) (brW x21 (loopW [.sc .str,.sc .ptr,.sc (.int .i64)] (fun(R23:ByteArray->Option Addr->Int->H->Prop)=>(fun(v24:ByteArray) (v25:Option Addr) (v26:Int)=>brW (decide ((v26:Int)<((v24.size:Nat):Int))) (idxW v24 v26 (fun c27=>callT Tryz.prog 208 [.pointer v25,.int .u8 (c27.toNat:Int)] kB (fun x28=>brW x28 (K (.int .i64 v26)) (R23 v24 v25 (IntKind.i64.wrap (v26+1))))))
 (K (.int .i64 (-1))))) (fun(R29:ByteArray->Option Addr->Int->H->Prop)=>R29 v1 (some ⟨b22,0,none⟩) 0)) (j8 v1 v2))))) (j8 v1 v2)))))
theorem c180 (v1:ByteArray) (v2:ByteArray) {K:KH} {σ:H}:g180 v1 v2 K σ->callW Tryz.prog 180 [.string v1,.string v2] K σ:=call_k an180 Tryz.func180 (by kernel_rfl)


def an181:Ann:=(.q (.q (.seq (some [(2,.p),(3,.p),(4,.p)]) (.q (.blk (.rf [.s] .r (.blk (.n (.seq (some [(2,.p),(3,.p),(4,.p),(5,.s),(14,.b)]) .r (.cond .z .z)) (.n (.seq (some [(3,.p),(4,.p),(5,.s),(21,.b)]) .r (.cond .z .z)) .r)))))) (.q (.cond .r .z)))))
def g181 (v1:Value) (x2:Option Addr) (K:KH):H->Prop :=
 oneK v1 (alW (.cells ⟨[v1]⟩ 154 (0,0)) (fun b3=>alW (.cells ⟨[.string ⟨⟨[]⟩⟩]⟩ 9 (0,0)) (fun b4=>alW (.cells ⟨[.bool false]⟩ 4 (0,0)) (fun b5=>stW Tryz.prog 9 (.pointer (some ⟨b4,0,none⟩)) (.string ⟨⟨[]⟩⟩) (stW Tryz.prog 4 (.pointer (some ⟨b5,0,none⟩)) (.bool false) (letJ (T:=Option Addr->Option Addr->Option Addr->H->Prop) (fun v7 v8 v9=>ptrW v9 (fun b10 o11=>rdT (rdC b10 o11) kB (fun x12=>brW x12
 (ptrW v7 (fun b13 o14=>rdT (rdC b13 o14) kR (fun x15=>ptrW v8 (fun b16 o17=>rdT (rdC b16 o17) kS (fun(x18:ByteArray)=>cvalT Tryz.prog x15 [.string x18,.bool true] kB (fun _x19=>K (.tuple ⟨[]⟩))))))) (K (.tuple ⟨[]⟩))))) (fun j6=>ptrW x2 (fun b20 o21=>rdT (rdC b20 o21) kS (fun(x22:ByteArray)=>callT Tryz.prog 182 [.string x22,.string ⟨⟨[47]⟩⟩] kR (fun x23=>funW x23 (fun(g50:FuncId) (as51 cs52:List Value) =>
 rfW Tryz.prog none g50 as51 cs52 [.sc .str] (fun(l24:Nat) (obj25:LoopState->Option Code->Obj) (K26:Value->H->Prop)=>(fun(x27:ByteArray)=>begW l24 obj25 (letJ (T:=Option Addr->Option Addr->Option Addr->ByteArray->Bool->H->Prop) (fun v29 v30 v31 v32 x33=>brW x33 (roundK l24 obj25 K26 none true .ready) (letJ (T:=Option Addr->Option Addr->ByteArray->Bool->H->Prop) (fun v35 v36 v37 x38=>brW x38
 (roundK l24 obj25 K26 (some .ret) false .done) (stW Tryz.prog 9 (.pointer v35) (.string v37) (stW Tryz.prog 4 (.pointer v36) (.bool true) (roundK l24 obj25 K26 none true .ready)))) (fun j34=>ptrW v31 (fun b39 o40=>rdT (rdC b39 o40) kB (fun x41=>brW x41 (ptrW v29 (fun b42 o43=>rdT (rdC b42 o43) kR (fun x44=>ptrW v30 (fun b45 o46=>rdT (rdC b45 o46) kS (fun(x47:ByteArray)=>cvalT Tryz.prog x44 [.string x47,.bool false] kB (fun x48 =>
 j34 v30 v31 v32 (!x48))))))) (j34 v30 v31 v32 false)))))) (fun j28=>brW (strEq x27 (⟨⟨[]⟩⟩:ByteArray)) (j28 (some ⟨b3,0,none⟩) (some ⟨b4,0,none⟩) (some ⟨b5,0,none⟩) x27 true) (j28 (some ⟨b3,0,none⟩) (some ⟨b4,0,none⟩) (some ⟨b5,0,none⟩) x27 (strEq x27 (⟨⟨[46]⟩⟩:ByteArray))))))) (j6 (some ⟨b3,0,none⟩) (some ⟨b4,0,none⟩) (some ⟨b5,0,none⟩)) (fun i49=>exW i49 0 (j6 (some ⟨b3,0,none⟩) (some ⟨b4,0,none⟩) (some ⟨b5,0,none⟩)) (nW))
 (K (.tuple ⟨[]⟩)))))))))))))
theorem c181 (v1:Value) (x2:Option Addr) {K:KH} {σ:H}:g181 v1 x2 K σ->callW Tryz.prog 181 [v1,.pointer x2] K σ:=call_k an181 Tryz.func181 (by kernel_rfl)


def an182:Ann:=(.q (.q .z))
def g182 (v1:ByteArray) (v2:ByteArray) (K:KH):H->Prop :=
 callT Tryz.prog 216 [.string v1,.string v2,.int .i64 0] kR (fun x3=>K (x3))
theorem c182 (v1:ByteArray) (v2:ByteArray) {K:KH} {σ:H}:g182 v1 v2 K σ->callW Tryz.prog 182 [.string v1,.string v2] K σ:=call_k an182 Tryz.func182 (by kernel_rfl)


def an183:Ann:=(.q (.q (.q (.n (.q (.blk (.loop [(0,.s),(3,.l),(4,.i),(5,.i)] (.n (.q (.cond .z .z)) (.seq (some [(0,.s),(3,.l),(4,.i),(5,.i),(18,.w),(19,.w),(20,.w),(21,.w)]) (.blk (.n (.seq (some [(0,.s),(3,.l),(4,.i),(5,.i),(18,.w),(19,.w),(20,.w),(21,.w),(22,.b)]) .r (.cond .z .z)) (.q (.seq (some [(0,.s),(3,.l),(5,.i),(18,.w),(19,.w),(20,.w),(21,.w),(30,.w),(31,.w)]) (.seq (some [(0,.s),(3,.l),(5,.i),(6,.s),(18,.w),(19,.w),(20,.w),(21,.w),(30,.w),(31,.w),(32,.b)]) .r (.cond .r .z)) .r)))) .r))))) (.q .z)))))
def g183 (v1:ByteArray) (K:KH):H->Prop :=
 loopW [.sc .str,.sc .slc,.sc (.int .i64),.sc (.int .i64)] (fun(R2:ByteArray->Sl->Int->Int->H->Prop)=>(fun(v3:ByteArray) (v4:Sl) (v5:Int) (v6:Int)=>brW (decide ((v6:Int)<=((v3.size:Nat):Int))) (letJ (T:=ByteArray->Sl->Int->Int->Value->Value->Value->Value->H->Prop) (fun v8 v9 v10 v11 _x12 _x13 _x14 _x15=>R2 v8 v9 v10 (IntKind.i64.wrap (v11+1))) (fun j7 =>
 letJ (T:=ByteArray->Sl->Int->Int->Value->Value->Value->Value->Bool->H->Prop) (fun v17 v18 v19 v20 x21 x22 x23 x24 x25=>brW x25 (j7 v17 v18 v19 v20 x21 x22 x23 x24) (ifW (bndOk (some v20) v17.size/\bndOk (some v19) (v20.toNat)) (letJ (T:=ByteArray->Sl->Int->Value->Value->Value->Value->Value->Value->H->Prop) (fun v27 v28 v29 x30 x31 x32 x33 _x34 _x35 =>
 j7 v27 v28 (IntKind.i64.wrap (v29+1)) v29 x30 x31 x32 x33) (fun j26=>letJ (T:=ByteArray->Sl->Int->ByteArray->Value->Value->Value->Value->Value->Value->Bool->H->Prop) (fun v37 v38 v39 v40 x41 x42 x43 x44 x45 x46 x47=>brW x47 (alW (.cells ⟨[.string v40]⟩ 9 (0,0)) (fun b48=>biW Tryz.prog .append #[30,30] 30 [false,false] [.slice v38.base v38.len v38.cap,.slice (some ⟨b48,0,none⟩) 1 1] kL (fun x49 =>
 j26 v37 x49 v39 x41 x42 x43 x44 x45 x46))) (j26 v37 v38 v39 x41 x42 x43 x44 x45 x46)) (fun j36=>brW (!strEq (v17.extract v19.toNat v20.toNat) (⟨⟨[]⟩⟩:ByteArray)) (j36 v17 v18 v20 (v17.extract v19.toNat v20.toNat) x21 x22 x23 x24 (.string (v17.extract v19.toNat v20.toNat)) (.bool (!strEq (v17.extract v19.toNat v20.toNat) (⟨⟨[46]⟩⟩:ByteArray))) (!strEq (v17.extract v19.toNat v20.toNat) (⟨⟨[46]⟩⟩:ByteArray)))
 (j36 v17 v18 v20 (v17.extract v19.toNat v20.toNat) x21 x22 x23 x24 (.tuple ⟨[]⟩) (.tuple ⟨[]⟩) false)))))) (fun j16=>brW (decide ((v6:Int)<((v3.size:Nat):Int))) (idxW v3 v6 (fun c50=>j16 v3 v4 v5 v6 (.string v3) (.int .i64 v6) (.int .u8 (c50.toNat:Int)) (.bool ((c50.toNat:Int) != 47)) ((c50.toNat:Int) != 47))) (j16 v3 v4 v5 v6 (.tuple ⟨[]⟩) (.tuple ⟨[]⟩) (.tuple ⟨[]⟩) (.tuple ⟨[]⟩) false))))
 (K (.slice v4.base v4.len v4.cap)))) (fun(R51:ByteArray->Sl->Int->Int->H->Prop)=>R51 v1 ⟨none,0,0⟩ 0 0)
theorem c183 (v1:ByteArray) {K:KH} {σ:H}:g183 v1 K σ->callW Tryz.prog 183 [.string v1] K σ:=call_k an183 Tryz.func183 (by kernel_rfl)


def an184:Ann:=(.q (.n (.q (.h)) (.n (.q (.cond (.n (.reg (rn 23) [[],[0],[0,1],[0,1,2],[],(rn 5),(rn 6),(rn 7),(rn 8),(rn 9),[],[10],[10,11],[10,11,12],[],[10,11,12,13,14],[10,11,12,13,14,15],[10,11,12,13,14,15,16],[10,11,12,13,14,15,16,17],[10,11,12,13,14,15,16,17,18],(rn 20),(rn 21),(rn 22)]) .z) .z)) (.n (.q (.h)) (.q .z)))))
def g184 (v1:Option Addr) (v2:Int) (v3:ByteArray) (K:KH):H->Prop :=
 alW (.cells ⟨[.int .i64 0,.string ⟨⟨[]⟩⟩,.int .i64 0]⟩ 133 (0,0)) (fun b4=>ptrW v1 (fun b5 o6=>rdT (rdC b5 (o6+2)) kL (fun x7=>ptrW x7.base (fun b8 o9=>ifW (0<=v2/\v2<((x7.len:Nat):Int)) (rdT (rdC b8 (o9+v2.toNat * 1)) kP (fun x10=>ptrW x10 (fun b11 o12=>rdT (rdC b11 o12) kI (fun(x13:Int)=>brW ((x13:Int) != 2)
 (stW Tryz.prog 133 (.pointer (some ⟨b4,0,none⟩)) (.agg ⟨[.int .i64 0,.string ⟨⟨[]⟩⟩,.int .i64 0]⟩) (rdT (rdA 3 b4 0) (.one (.agg [(.int .i64),.str,(.int .i64)])) (fun(r14:Int) (r15:ByteArray) (r16:Int)=>K (.tuple ⟨[.agg ⟨[.int .i64 r14,.string r15,.int .i64 r16]⟩,.int .i64 8]⟩)))) (brW (strEq v3 (⟨⟨[46,46]⟩⟩:ByteArray)) (ptrW v1 (fun b17 o18=>rdT (rdC b17 (o18+2)) kL (fun x19=>ptrW x19.base (fun b20 o21 =>
 ifW (0<=v2/\v2<((x19.len:Nat):Int)) (rdT (rdC b20 (o21+v2.toNat * 1)) kP (fun x22=>ptrW x22 (fun b23 o24=>rdT (rdC b23 (o24+4)) kI (fun(x25:Int)=>ptrW v1 (fun b26 o27=>rdT (rdC b26 (o27+2)) kL (fun x28=>ptrW x28.base (fun b29 o30=>ifW (0<=v2/\v2<((x28.len:Nat):Int)) (rdT (rdC b29 (o30+v2.toNat * 1)) kP (fun x31=>ptrW x31 (fun b32 o33=>rdT (rdC b32 (o33+4)) kI (fun(x34:Int) =>
 stW Tryz.prog 133 (.pointer (some ⟨b4,0,none⟩)) (.agg ⟨[.int .i64 x34,.string ⟨⟨[]⟩⟩,.int .i64 x25]⟩) (rdT (rdA 3 b4 0) (.one (.agg [(.int .i64),.str,(.int .i64)])) (fun(r35:Int) (r36:ByteArray) (r37:Int)=>K (.tuple ⟨[.agg ⟨[.int .i64 r35,.string r36,.int .i64 r37]⟩,.int .i64 0]⟩)))))))))))))))))) (brW (decide (((v3.size:Nat):Int)>56))
 (stW Tryz.prog 133 (.pointer (some ⟨b4,0,none⟩)) (.agg ⟨[.int .i64 0,.string ⟨⟨[]⟩⟩,.int .i64 0]⟩) (rdT (rdA 3 b4 0) (.one (.agg [(.int .i64),.str,(.int .i64)])) (fun(r38:Int) (r39:ByteArray) (r40:Int)=>K (.tuple ⟨[.agg ⟨[.int .i64 r38,.string r39,.int .i64 r40]⟩,.int .i64 3]⟩)))) (callT Tryz.prog 217 [.pointer v1,.int .i64 v2,.string v3] kI (fun(x41:Int) =>
 stW Tryz.prog 133 (.pointer (some ⟨b4,0,none⟩)) (.agg ⟨[.int .i64 v2,.string v3,.int .i64 x41]⟩) (rdT (rdA 3 b4 0) (.one (.agg [(.int .i64),.str,(.int .i64)])) (fun(r42:Int) (r43:ByteArray) (r44:Int)=>K (.tuple ⟨[.agg ⟨[.int .i64 r42,.string r43,.int .i64 r44]⟩,.int .i64 0]⟩)))))))))))))))
theorem c184 (v1:Option Addr) (v2:Int) (v3:ByteArray) {K:KH} {σ:H}:g184 v1 v2 v3 K σ->callW Tryz.prog 184 [.pointer v1,.int .i64 v2,.string v3] K σ:=call_k an184 Tryz.func184 (by kernel_rfl)


def an185:Ann:=(.q (.q (.q .z)))
def g185 (x1:Option Addr) (x2:Option Addr) (x3:Option Addr) (K:KH):H->Prop :=
 ptrW x1 (fun b4 o5=>rdT (rdC b4 o5) kP (fun x6=>ptrW x2 (fun b7 o8=>rdT (rdC b7 o8) kI (fun(x9:Int)=>ptrW x3 (fun b10 o11=>rdT (rdC b10 o11) kS (fun(x12:ByteArray)=>callT Tryz.prog 143 [.pointer x6,.int .i64 x9,.string x12] (.tup [.sc (.int .i64),.sc .bool]) (fun(x13:Int) (_x14:Bool)=>ptrW x1 (fun b15 o16=>rdT (rdC b15 o16) kP (fun x17=>ptrW x17 (fun b18 o19=>rdT (rdC b18 (o19+4)) kM (fun(x20:Option Nat) =>
 rdT (rdM (.int .i64) (.pointer none) false x20 (.int .i64 x13)) kP (fun x21=>ptrW x21 (fun b22 o23=>rdT (rdC b22 (o23+5)) kM (fun(x24:Option Nat)=>rdT (rdLen x24) kI (fun(x25:Int)=>callT Tryz.prog 74 [.bool ((x25:Int)==0),.int .i64 20] kI (fun(x26:Int)=>K (.int .i64 x26)))))))))))))))))
theorem c185 (x1:Option Addr) (x2:Option Addr) (x3:Option Addr) {K:KH} {σ:H}:g185 x1 x2 x3 K σ->callW Tryz.prog 185 [.pointer x1,.pointer x2,.pointer x3] K σ:=call_k an185 Tryz.func185 (by kernel_rfl)


def an186:Ann:=(.q (.q .z))
def g186 (v1:Option Addr) (v2:Int) (v3:ByteArray) (K:KH):H->Prop :=
 alW (.cells ⟨[.pointer v1]⟩ 59 (0,0)) (fun b4=>alW (.cells ⟨[.int .i64 v2]⟩ 3 (0,0)) (fun b5=>alW (.cells ⟨[.string v3]⟩ 9 (0,0)) (fun b6=>K (.func (.func 218) ⟨[]⟩ ⟨[.pointer (some ⟨b4,0,none⟩),.pointer (some ⟨b5,0,none⟩),.pointer (some ⟨b6,0,none⟩)]⟩))))
theorem c186 (v1:Option Addr) (v2:Int) (v3:ByteArray) {K:KH} {σ:H}:g186 v1 v2 v3 K σ->callW Tryz.prog 186 [.pointer v1,.int .i64 v2,.string v3] K σ:=call_k an186 Tryz.func186 (by kernel_rfl)


def an187:Ann:=(.q (.n (.q (.h)) (.q (.seq (some [(0,.s),(1,.i),(2,.i),(8,.b)]) (.q (.blk (.q (.cond .r (.q (.cond (.q .r) .z)))))) (.q (.q (.n (.seq (some [(2,.i),(7,.w),(8,.b),(9,.sc (.int .u64)),(38,.b)]) .r (.h)) (.seq (some [(2,.i),(8,.b),(9,.sc (.int .u64))]) (.q (.cond .r .z)) (.q (.n (.seq (some [(8,.b),(9,.sc (.int .u64)),(10,.sc (.int .u64)),(52,.b)]) .r (.h)) (.n (.seq (some [(8,.b),(9,.sc (.int .u64)),(10,.sc (.int .u64)),(62,.b)]) .r (.h)) (.q (.seq (some [(11,.i)]) (.q (.cond .r .z)) (.q .z))))))))))))))
def g187 (v1:ByteArray) (v2:Int) (v3:Int) (K:KH):H->Prop :=
 brW (strEq v1 (⟨⟨[]⟩⟩:ByteArray)) (K (.tuple ⟨[.int .i64 0,.iface 218 (.int .i64 2)]⟩)) (letJ (T:=ByteArray->Int->Int->Bool->H->Prop) (fun v5 v6 v7 v8=>callT Tryz.prog 219 [.string v5,.int .i64 v6,.int .i64 v7] (.tup [.sc (.int .u64),.sc .raw]) (fun(x9:Int) (x10:Value)=>letJ (T:=Int->Value->Bool->Int->Bool->H->Prop) (fun v12 v13 v14 v15 x16=>brW x16 (K (.tuple ⟨[.int .i64 0,v13]⟩))
 (letJ (T:=Int->Bool->Int->H->Prop) (fun v18 v19 v20=>ifW (0<=(IntKind.u64.wrap (IntKind.i64.wrap (v18 - 1)))) (letJ (T:=Bool->Int->Int->Bool->H->Prop) (fun v22 v23 v24 x25=>brW x25 (K (.tuple ⟨[.int .i64 (IntKind.i64.wrap (IntKind.u64.wrap (v24 - 1))),.iface 218 (.int .i64 1)]⟩)) (letJ (T:=Bool->Int->Int->Bool->H->Prop) (fun v27 v28 v29 x30=>brW x30
 (K (.tuple ⟨[.int .i64 (IntKind.i64.wrap (0 - (IntKind.i64.wrap v29))),.iface 218 (.int .i64 1)]⟩)) (letJ (T:=Int->H->Prop) (fun v32=>K (.tuple ⟨[.int .i64 v32,.nilIface]⟩)) (fun j31=>brW v27 (j31 (IntKind.i64.wrap (0 - (IntKind.i64.wrap v28)))) (j31 (IntKind.i64.wrap v28))))) (fun j26=>brW v22 (j26 v22 v23 v24 (decide ((v23:Int)>v24))) (j26 v22 v23 v24 false)))) (fun j21=>brW (!v19)
 (j21 v19 v20 (IntKind.u64.wrap (1 * 2 ^ min (Int.toNat (IntKind.u64.wrap (IntKind.i64.wrap (v18 - 1)))) (IntKind.bits .u64))) (decide ((v20:Int)>=(IntKind.u64.wrap (1 * 2 ^ min (Int.toNat (IntKind.u64.wrap (IntKind.i64.wrap (v18 - 1)))) (IntKind.bits .u64)))))) (j21 v19 v20 (IntKind.u64.wrap (1 * 2 ^ min (Int.toNat (IntKind.u64.wrap (IntKind.i64.wrap (v18 - 1)))) (IntKind.bits .u64))) false)))) (fun j17=>brW ((v12:Int)==0) (j17 64 v14 v15)
 (j17 v12 v14 v15)))) (fun j11=>vaW Tryz.prog (do eqGuard .neq 175 (.tmp 32) (.const (.nilIface)) (x10) (.nilIface);binOp .neq 175 (x10) (.nilIface)) kB (fun x33=>brW x33 (vaW Tryz.prog (do eqGuard .neq 175 (.tmp 35) (.tmp 36) (x10) (.iface 218 (.int .i64 1));binOp .neq 175 (x10) (.iface 218 (.int .i64 1))) kB (fun x34=>j11 v7 x10 v8 x9 x34)) (j11 v7 x10 v8 x9 false))))) (fun j4=>idxW v1 0 (fun c35=>brW ((c35.toNat:Int)==43)
 (ifW (bndOk none v1.size/\bndOk (some 1) (v1.size)) (j4 (v1.extract ((1:Int).toNat) v1.size) v2 v3 false)) (brW ((c35.toNat:Int)==45) (ifW (bndOk none v1.size/\bndOk (some 1) (v1.size)) (j4 (v1.extract ((1:Int).toNat) v1.size) v2 v3 true)) (j4 v1 v2 v3 false)))))
theorem c187 (v1:ByteArray) (v2:Int) (v3:Int) {K:KH} {σ:H}:g187 v1 v2 v3 K σ->callW Tryz.prog 187 [.string v1,.int .i64 v2,.int .i64 v3] K σ:=call_k an187 Tryz.func187 (by kernel_rfl)


def an189:Ann:=(.q (.n (.seq (some [(0,.s),(1,.s),(12,.b)]) .r (.h)) (.n (.seq (some [(0,.s),(1,.s),(21,.b)]) .r (.h)) (.n (.q (.q (.h))) (.q .z)))))
def g189 (v1:ByteArray) (v2:ByteArray) (K:KH):H->Prop :=
 letJ (T:=ByteArray->ByteArray->Bool->H->Prop) (fun v4 v5 x6=>brW x6 (K (.string v4)) (letJ (T:=ByteArray->ByteArray->Bool->H->Prop) (fun v8 v9 x10=>brW x10 (idxW v9 0 (fun c11=>callT Tryz.prog 168 [.string v8,.int .u8 (c11.toNat:Int)] kS (fun(x12:ByteArray)=>K (.string x12)))) (callT Tryz.prog 169 [.string v9] (.tup [.sc .raw,.sc .bool]) (fun x13 x14 =>
 alW (.cells ⟨[.bool false,.bool false,.bool false,.bool false,.bool false,.bool false,.bool false,.bool false,.bool false,.bool false,.bool false,.bool false,.bool false,.bool false,.bool false,.bool false,.bool false,.bool false,.bool false,.bool false,.bool false,.bool false,.bool false,.bool false,.bool false,.bool false,.bool false,.bool false,.bool false,.bool false,.bool false,.bool false,.bool false,.bool false,.bool false,.bool false,.bool false,.bool false,.bool false,.bool false,.bool false,.bool false,.bool false,.bool false,.bool false,.bool false,.bool false,.bool false,.bool false,.bool false,.bool false,.bool false,.bool false,.bool false,.bool false,.bool false,.bool false,.bool false,.bool false,.bool false,.bool false,.bool false,.bool false,.bool false,.bool false,.bool false,.bool false,.bool false,.bool false,.bool false,.bool false,.bool false,.bool false,.bool false,.bool false,.bool false,.bool false,.bool false,.bool false,.bool false,.bool false,.bool false,.bool false,.bool false,.bool false,.bool false,.bool false,.bool false,.bool false,.bool false,.bool false,.bool false,.bool false,.bool false,.bool false,.bool false,.bool false,.bool false,.bool false,.bool false,.bool false,.bool false,.bool false,.bool false,.bool false,.bool false,.bool false,.bool false,.bool false,.bool false,.bool false,.bool false,.bool false,.bool false,.bool false,.bool false,.bool false,.bool false,.bool false,.bool false,.bool false,.bool false,.bool false,.bool false,.bool false,.bool false,.bool false,.bool false,.bool false,.bool false,.bool false,.bool false,.bool false,.bool false,.bool false,.bool false,.bool false,.bool false,.bool false,.bool false,.bool false,.bool false,.bool false,.bool false,.bool false,.bool false,.bool false,.bool false,.bool false,.bool false,.bool false,.bool false,.bool false,.bool false,.bool false,.bool false,.bool false,.bool false,.bool false,.bool false,.bool false,.bool false,.bool false,.bool false,.bool false,.bool false,.bool false,.bool false,.bool false,.bool false,.bool false,.bool false,.bool false,.bool false,.bool false,.bool false,.bool false,.bool false,.bool false,.bool false,.bool false,.bool false,.bool false,.bool false,.bool false,.bool false,.bool false,.bool false,.bool false,.bool false,.bool false,.bool false,.bool false,.bool false,.bool false,.bool false,.bool false,.bool false,.bool false,.bool false,.bool false,.bool false,.bool false,.bool false,.bool false,.bool false,.bool false,.bool false,.bool false,.bool false,.bool false,.bool false,.bool false,.bool false,.bool false,.bool false,.bool false,.bool false,.bool false,.bool false,.bool false,.bool false,.bool false,.bool false,.bool false,.bool false,.bool false,.bool false,.bool false,.bool false,.bool false,.bool false,.bool false,.bool false,.bool false,.bool false,.bool false,.bool false,.bool false,.bool false,.bool false,.bool false,.bool false,.bool false,.bool false,.bool false,.bool false,.bool false,.bool false,.bool false,.bool false,.bool false,.bool false,.bool false,.bool false,.bool false]⟩ 188 (0,0)) (fun b15 =>
 stW Tryz.prog 188 (.pointer (some ⟨b15,0,none⟩)) (x13) (brW x14 (callT Tryz.prog 171 [.string v8,.pointer (some ⟨b15,0,none⟩)] kS (fun(x16:ByteArray)=>K (.string x16))) (callT Tryz.prog 173 [.string v8,.string v9] kS (fun(x17:ByteArray)=>K (.string x17)))))))) (fun j7=>brW (((v5.size:Nat):Int)==1) (idxW v5 0 (fun c18=>j7 v4 v5 (decide ((c18.toNat:Int)<128)))) (j7 v4 v5 false)))) (fun j3 =>
 brW (strEq v1 (⟨⟨[]⟩⟩:ByteArray)) (j3 v1 v2 true) (j3 v1 v2 (strEq v2 (⟨⟨[]⟩⟩:ByteArray))))
theorem c189 (v1:ByteArray) (v2:ByteArray) {K:KH} {σ:H}:g189 v1 v2 K σ->callW Tryz.prog 189 [.string v1,.string v2] K σ:=call_k an189 Tryz.func189 (by kernel_rfl)


def an190:Ann:=(.q (.q .z))
def g190 (v1:ByteArray) (v2:Int) (K:KH):H->Prop :=
 callT Tryz.prog 224 [.string v1,.int .u8 v2] kI (fun(x3:Int)=>K (.int .i64 x3))
theorem c190 (v1:ByteArray) (v2:Int) {K:KH} {σ:H}:g190 v1 v2 K σ->callW Tryz.prog 190 [.string v1,.int .u8 v2] K σ:=call_k an190 Tryz.func190 (by kernel_rfl)


def an191:Ann:=(.q (.n (.blk (.loop [(0,.p),(1,.i),(2,.i)] (.n (.seq (some [(0,.p),(1,.i),(2,.i),(11,.w),(12,.w),(13,.w),(14,.w),(15,.w),(16,.w),(17,.w),(18,.b)]) .r (.cond .z .z)) (.blk .r)))) (.q .z)))
def g191 (v1:Option Addr) (v2:Int) (v3:Int) (K:KH):H->Prop :=
 loopW [.sc .ptr,.sc (.int .i64),.sc (.int .i64)] (fun(R4:Option Addr->Int->Int->H->Prop)=>(fun(v5:Option Addr) (v6:Int) (v7:Int)=>letJ (T:=Option Addr->Int->Int->Value->Value->Value->Value->Value->Value->Value->Bool->H->Prop) (fun v9 v10 v11 _x12 _x13 _x14 _x15 _x16 _x17 _x18 x19=>brW x19 (ptrW v9 (fun b20 o21=>rdT (rdC b20 o21) kP (fun x22=>callT Tryz.prog 72 [.pointer x22,.int .i64 v10] kI (fun(x23:Int)=>R4 v9 x23 v11))))
 (K (.bool ((v10:Int)==v11)))) (fun j8=>brW ((v6:Int) != v7) (ptrW v5 (fun b24 o25=>rdT (rdC b24 o25) kP (fun x26=>callT Tryz.prog 71 [.pointer x26] kI (fun(x27:Int)=>j8 v5 v6 v7 (.int .i64 v6) (.pointer v5) (.pointer (some ⟨b24,o25,none⟩)) (.pointer (some ⟨b24,o25,none⟩)) (.pointer x26) (.int .i64 x27) (.bool ((v6:Int) != x27)) ((v6:Int) != x27)))))
 (j8 v5 v6 v7 (.tuple ⟨[]⟩) (.tuple ⟨[]⟩) (.tuple ⟨[]⟩) (.tuple ⟨[]⟩) (.tuple ⟨[]⟩) (.tuple ⟨[]⟩) (.tuple ⟨[]⟩) false)))) (fun(R28:Option Addr->Int->Int->H->Prop)=>R28 v1 v2 v3)
theorem c191 (v1:Option Addr) (v2:Int) (v3:Int) {K:KH} {σ:H}:g191 v1 v2 v3 K σ->callW Tryz.prog 191 [.pointer v1,.int .i64 v2,.int .i64 v3] K σ:=call_k an191 Tryz.func191 (by kernel_rfl)


def an192:Ann:=(.q (.n (.q (.h)) (.q (.n (.q (.blk (.loop [(0,.p),(1,.i),(5,.i),(19,.l),(20,.i),(21,.i)] (.q (.n (.cond .z .z) (.n (.blk (.q (.q .r))) .r)))))) (.q .z)))))
def g192 (v1:Option Addr) (v2:Int) (K:KH):H->Prop :=
 callT Tryz.prog 84 [.pointer v1,.int .i64 v2] kI (fun(x3:Int)=>brW ((x3:Int) != 2) (K (.int .i64 0)) (ptrW v1 (fun b4 o5=>rdT (rdC b4 o5) kP (fun x6=>callT Tryz.prog 70 [.pointer x6,.int .i64 v2] kL (fun x7=>loopW [.sc .ptr,.sc (.int .i64),.sc (.int .i64),.sc .slc,.sc (.int .i64),.sc (.int .i64)] (fun(R8:Option Addr->Int->Int->Sl->Int->Int->H->Prop)=>(fun(v9:Option Addr) (v10:Int) (v11:Int) (x12:Sl) (x13:Int) (x14:Int) =>
 brW (decide ((x14:Int)<x13)) (ptrW x12.base (fun b15 o16=>ifW (0<=x14/\x14<((x12.len:Nat):Int)) (rdT (rdC b15 (o16+x14.toNat * 1)) kS (fun(x17:ByteArray)=>ptrW v9 (fun b18 o19=>rdT (rdC b18 o19) kP (fun x20=>callT Tryz.prog 143 [.pointer x20,.int .i64 v10,.string x17] (.tup [.sc (.int .i64),.sc .bool]) (fun(x21:Int) (_x22:Bool)=>callT Tryz.prog 192 [.pointer v9,.int .i64 x21] kI (fun(x23:Int) =>
 R8 v9 v10 (if x23>v11 then x23 else v11) x12 x13 (IntKind.i64.wrap (x14+1)))))))))) (K (.int .i64 (IntKind.i64.wrap (v11+1)))))) (fun(R24:Option Addr->Int->Int->Sl->Int->Int->H->Prop)=>R24 v1 v2 0 x7 ((x7.len:Nat):Int) 0))))))
theorem c192 (v1:Option Addr) (v2:Int) {K:KH} {σ:H}:g192 v1 v2 K σ->callW Tryz.prog 192 [.pointer v1,.int .i64 v2] K σ:=call_k an192 Tryz.func192 (by kernel_rfl)


def an193:Ann:=(.q (.n (.q (.blk (.loop [(1,.p),(2,.p),(4,.i)] (.n (.q (.cond .z .z)) (.n (.blk (.q (.h))) .r))))) (.q .z)))
def g193 (x1:Option Addr) (x2:Option Addr) (x3:Option Addr) (K:KH):H->Prop :=
 ptrW x1 (fun b4 o5=>rdT (rdC b4 o5) kI (fun(x6:Int)=>loopW [.sc .ptr,.sc .ptr,.sc (.int .i64)] (fun(R7:Option Addr->Option Addr->Int->H->Prop)=>(fun(x8:Option Addr) (x9:Option Addr) (v10:Int)=>brW ((v10:Int) != 1) (ptrW x9 (fun b11 o12=>rdT (rdC b11 o12) kI (fun(x13:Int)=>brW ((v10:Int)==x13) (K (.int .i64 2)) (ptrW x8 (fun b14 o15=>rdT (rdC b14 o15) kP (fun x16=>ptrW x16 (fun b17 o18=>rdT (rdC b17 (o18+4)) kM (fun(x19:Option Nat) =>
 rdT (rdM (.int .i64) (.pointer none) false x19 (.int .i64 v10)) kP (fun x20=>ptrW x20 (fun b21 o22=>rdT (rdC b21 (o22+4)) kI (fun(x23:Int)=>R7 x8 x9 x23))))))))))) (K (.int .i64 0)))) (fun(R24:Option Addr->Option Addr->Int->H->Prop)=>R24 x2 x3 x6)))
theorem c193 (x1:Option Addr) (x2:Option Addr) (x3:Option Addr) {K:KH} {σ:H}:g193 x1 x2 x3 K σ->callW Tryz.prog 193 [.pointer x1,.pointer x2,.pointer x3] K σ:=call_k an193 Tryz.func193 (by kernel_rfl)


def an194:Ann:=(.q (.q (.q .z)))
def g194 (v1:Option Addr) (v2:ByteArray) (v3:ByteArray) (K:KH):H->Prop :=
 alW (.cells ⟨[.string ⟨⟨[]⟩⟩]⟩ 9 (0,0)) (fun b4=>callT Tryz.prog 68 [.pointer v1,.string v2,.string v3,.bool true,.func (.func 225) ⟨[]⟩ ⟨[.pointer (some ⟨b4,0,none⟩)]⟩] kI (fun(x5:Int)=>rdT (rdC b4 0) kS (fun(x6:ByteArray)=>stW Tryz.prog 9 (.pointer (some ⟨b4,0,none⟩)) (.string x6) (rdT (rdC b4 0) kS (fun(r7:ByteArray)=>K (.tuple ⟨[.string r7,.int .i64 x5]⟩))))))
theorem c194 (v1:Option Addr) (v2:ByteArray) (v3:ByteArray) {K:KH} {σ:H}:g194 v1 v2 v3 K σ->callW Tryz.prog 194 [.pointer v1,.string v2,.string v3] K σ:=call_k an194 Tryz.func194 (by kernel_rfl)


def an195:Ann:=(.q (.q (.n (.blk (.q (.cond (.q .z) (.q (.h))))) (.n (.reg (rn 4) [[],[0],[],[0,1,2]]) (.seq (some [(0,.p),(10,.s),(11,.i)]) (.q (.cond (.reg (rn 7) [[],[0],[0,1],[],[3],[0,1,2],(rn 6)]) .z)) (.n (.blk (.loop [(0,.p),(10,.s),(11,.i)] (.n (.q (.cond .z .z)) (.blk (.q (.n (.q (.blk (.loop [(0,.p),(10,.s),(11,.i),(12,.i),(62,.l),(63,.i),(64,.i)] (.q (.n (.cond .z .z) (.seq (some [(0,.p),(10,.s),(11,.i),(12,.i),(62,.l),(63,.i),(64,.i)]) (.blk (.q (.q (.q (.cond .r .z))))) .r)))))) .r)))))) (.seq (some [(10,.s)]) (.q (.cond .r .z)) (.q .z))))))))
def g195 (v1:Option Addr) (v2:ByteArray) (v3:ByteArray) (K:KH):H->Prop :=
 callT Tryz.prog 29 [.pointer v1,.string v2,.string v3,.bool true] (.tup [.agg [(.int .i64),.str,(.int .i64),.bool],.sc (.int .i64)]) (fun(x4:Int) (x5:ByteArray) (x6:Int) (x7:Bool) (x8:Int)=>alW (.cells ⟨[.int .i64 0,.string ⟨⟨[]⟩⟩,.int .i64 0,.bool false]⟩ 65 (0,0)) (fun b9=>stW Tryz.prog 65 (.pointer (some ⟨b9,0,none⟩)) (.agg ⟨[.int .i64 x4,.string x5,.int .i64 x6,.bool x7]⟩) (brW ((x8:Int) != 0)
 (K (.tuple ⟨[.string ⟨⟨[]⟩⟩,.int .i64 x8]⟩)) (rdT (rdC b9 3) kB (fun x10=>brW (!x10) (K (.tuple ⟨[.string ⟨⟨[]⟩⟩,.int .i64 5]⟩)) (rdT (rdC b9 2) kI (fun(x11:Int)=>letJ (T:=Option Addr->ByteArray->Int->H->Prop) (fun v13 v14 v15=>loopW [.sc .ptr,.sc .str,.sc (.int .i64)] (fun(R16:Option Addr->ByteArray->Int->H->Prop)=>(fun(v17:Option Addr) (v18:ByteArray) (v19:Int)=>ptrW v17 (fun b20 o21 =>
 rdT (rdC b20 o21) kP (fun x22=>callT Tryz.prog 71 [.pointer x22] kI (fun(x23:Int)=>brW ((v19:Int) != x23) (ptrW v17 (fun b24 o25=>rdT (rdC b24 o25) kP (fun x26=>callT Tryz.prog 72 [.pointer x26,.int .i64 v19] kI (fun(x27:Int)=>ptrW v17 (fun b28 o29=>rdT (rdC b28 o29) kP (fun x30=>callT Tryz.prog 70 [.pointer x30,.int .i64 x27] kL (fun x31 =>
 loopW [.sc .ptr,.sc .str,.sc (.int .i64),.sc (.int .i64),.sc .slc,.sc (.int .i64),.sc (.int .i64)] (fun(R32:Option Addr->ByteArray->Int->Int->Sl->Int->Int->H->Prop)=>(fun(v33:Option Addr) (v34:ByteArray) (v35:Int) (v36:Int) (x37:Sl) (x38:Int) (x39:Int)=>brW (decide ((x39:Int)<x38)) (letJ (T:=Option Addr->ByteArray->Int->Int->Sl->Int->Int->H->Prop) (fun v41 v42 v43 v44 x45 x46 x47 =>
 R32 v41 v42 v43 v44 x45 x46 (IntKind.i64.wrap (x47+1))) (fun j40=>ptrW x37.base (fun b48 o49=>ifW (0<=x39/\x39<((x37.len:Nat):Int)) (rdT (rdC b48 (o49+x39.toNat * 1)) kS (fun(x50:ByteArray)=>ptrW v33 (fun b51 o52=>rdT (rdC b51 o52) kP (fun x53=>callT Tryz.prog 143 [.pointer x53,.int .i64 v36,.string x50] (.tup [.sc (.int .i64),.sc .bool]) (fun(x54:Int) (_x55:Bool)=>brW ((x54:Int)==v35)
 (ifW ((⟨⟨[47]⟩⟩:ByteArray).size+x50.size<=9223372036854775807) (ifW (((⟨⟨[47]⟩⟩:ByteArray)++x50).size+v34.size<=9223372036854775807) (j40 v33 (((⟨⟨[47]⟩⟩:ByteArray)++x50)++v34) v35 v36 x37 x38 x39))) (j40 v33 v34 v35 v36 x37 x38 x39))))))))) (R16 v33 v34 v36))) (fun(R56:Option Addr->ByteArray->Int->Int->Sl->Int->Int->H->Prop)=>R56 v17 v18 v19 x27 x31 ((x31.len:Nat):Int) 0))))))))
 (letJ (T:=ByteArray->H->Prop) (fun v58=>K (.tuple ⟨[.string v58,.int .i64 0]⟩)) (fun j57=>brW (strEq v18 (⟨⟨[]⟩⟩:ByteArray)) (j57 (⟨⟨[47]⟩⟩:ByteArray)) (j57 v18)))))))) (fun(R59:Option Addr->ByteArray->Int->H->Prop)=>R59 v13 v14 v15)) (fun j12=>rdT (rdC b9 2) kI (fun(x60:Int)=>callT Tryz.prog 84 [.pointer v1,.int .i64 x60] kI (fun(x61:Int)=>brW ((x61:Int) != 2) (rdT (rdC b9 1) kS (fun(x62:ByteArray) =>
 ifW ((⟨⟨[47]⟩⟩:ByteArray).size+x62.size<=9223372036854775807) (rdT (rdC b9 0) kI (fun(x63:Int)=>j12 v1 ((⟨⟨[47]⟩⟩:ByteArray)++x62) x63)))) (j12 v1 (⟨⟨[]⟩⟩:ByteArray) x11)))))))))))
theorem c195 (v1:Option Addr) (v2:ByteArray) (v3:ByteArray) {K:KH} {σ:H}:g195 v1 v2 v3 K σ->callW Tryz.prog 195 [.pointer v1,.string v2,.string v3] K σ:=call_k an195 Tryz.func195 (by kernel_rfl)


def an196:Ann:=(.q (.q (.q (.n (.blk (.q (.cond (.q .z) (.q (.h))))) (.q .z)))))
def g196 (v1:ByteArray) (K:KH):H->Prop :=
 callT Tryz.prog 189 [.string v1,.string ⟨⟨[47]⟩⟩] kS (fun(x2:ByteArray)=>callT Tryz.prog 190 [.string x2,.int .u8 47] kI (fun(x3:Int)=>ifW (bndOk (some (IntKind.i64.wrap (x3+1))) x2.size/\bndOk none ((IntKind.i64.wrap (x3+1)).toNat)) (brW (!strEq (x2.extract 0 ((IntKind.i64.wrap (x3+1)).toNat)) (⟨⟨[]⟩⟩:ByteArray)) (K (.string (x2.extract 0 ((IntKind.i64.wrap (x3+1)).toNat))))
 (callT Tryz.prog 82 [.string v1,.string ⟨⟨[47]⟩⟩] kB (fun x4=>brW x4 (K (.string ⟨⟨[47]⟩⟩)) (K (.string ⟨⟨[46]⟩⟩)))))))
theorem c196 (v1:ByteArray) {K:KH} {σ:H}:g196 v1 K σ->callW Tryz.prog 196 [.string v1] K σ:=call_k an196 Tryz.func196 (by kernel_rfl)


def an208:Ann:=(.q (.q .z))
def g208 (v1:Option Addr) (v2:Int) (K:KH):H->Prop :=
 ptrW v1 (fun b3 o4=>ifW (0<=v2/\v2<((256:Nat):Int)) (rdT (rdC b3 (o4+v2.toNat * 1)) kB (fun x5=>K (.bool x5))))
theorem c208 (v1:Option Addr) (v2:Int) {K:KH} {σ:H}:g208 v1 v2 K σ->callW Tryz.prog 208 [.pointer v1,.int .u8 v2] K σ:=call_k an208 Tryz.func208 (by kernel_rfl)


def an212:Ann:=(.q (.n (.q (.cond (.n (.seq (some [(0,.i),(17,.b)]) .r (.h)) (.q (.q (.seq (some [(0,.i),(5,.p),(6,.sc (.int .u64))]) (.q (.cond .r .z)) (.q (.q (.n (.q (.cond (.q (.q .z)) .z)) (.q .z)))))))) .z)) (.q (.q .z))))
def g212 (v1:Int) (v2:Int) (K:KH):H->Prop :=
 brW ((v2:Int)==10) (letJ (T:=Int->Bool->H->Prop) (fun v4 x5=>brW x5 (callT Tryz.prog 234 [.int .i64 v4] kS (fun(x6:ByteArray)=>K (.string x6))) (alW (.cells ⟨[.int .u8 0,.int .u8 0,.int .u8 0,.int .u8 0,.int .u8 0,.int .u8 0,.int .u8 0,.int .u8 0,.int .u8 0,.int .u8 0,.int .u8 0,.int .u8 0,.int .u8 0,.int .u8 0,.int .u8 0,.int .u8 0,.int .u8 0,.int .u8 0,.int .u8 0,.int .u8 0,.int .u8 0,.int .u8 0,.int .u8 0,.int .u8 0]⟩ 229 (0,0)) (fun b7 =>
 letJ (T:=Int->Option Addr->Int->H->Prop) (fun v9 v10 v11=>callT Tryz.prog 235 [.int .u64 v11] kI (fun(x12:Int)=>ptrW v10 (fun b13 o14=>ifW (bndOk (some (IntKind.i64.wrap (1+x12))) 24/\bndOk (some 1) ((IntKind.i64.wrap (1+x12)).toNat)) (callT Tryz.prog 236 [.slice (slBase (some ⟨b13,o14,none⟩) ((1:Int).toNat) 24 1) (((IntKind.i64.wrap (1+x12)).toNat) - ((1:Int).toNat)) (24 - ((1:Int).toNat)),.int .u64 v11] kU (brW (decide ((v9:Int)<0))
 (ptrW v10 (fun b15 o16=>ifW (0<=(0:Int)/\(0:Int)<((24:Nat):Int)) (stW Tryz.prog 5 (.pointer (some ⟨b15,o16+(0:Int).toNat * 1,none⟩)) (.int .u8 45) (ptrW v10 (fun b17 o18=>ifW (bndOk (some (IntKind.i64.wrap (1+x12))) 24/\bndOk none ((IntKind.i64.wrap (1+x12)).toNat)) (vaW Tryz.prog (convert 57 9 (.slice (slBase (some ⟨b17,o18,none⟩) 0 24 1) (((IntKind.i64.wrap (1+x12)).toNat) - 0) (24 - 0))) kS (fun(x19:ByteArray)=>K (.string x19))))))))
 (ptrW v10 (fun b20 o21=>ifW (bndOk (some (IntKind.i64.wrap (1+x12))) 24/\bndOk (some 1) ((IntKind.i64.wrap (1+x12)).toNat)) (vaW Tryz.prog (convert 57 9 (.slice (slBase (some ⟨b20,o21,none⟩) ((1:Int).toNat) 24 1) (((IntKind.i64.wrap (1+x12)).toNat) - ((1:Int).toNat)) (24 - ((1:Int).toNat)))) kS (fun(x22:ByteArray)=>K (.string x22)))))))))) (fun j8=>brW (decide ((v4:Int)<0)) (j8 v4 (some ⟨b7,0,none⟩) (IntKind.u64.wrap (0 - (IntKind.u64.wrap v4))))
 (j8 v4 (some ⟨b7,0,none⟩) (IntKind.u64.wrap v4)))))) (fun j3=>brW (decide ((0:Int)<=v1)) (j3 v1 (decide ((v1:Int)<100))) (j3 v1 false))) (callT Tryz.prog 237 [.slice none 0 0,.int .u64 (IntKind.u64.wrap v1),.int .i64 v2,.bool (decide ((v1:Int)<0)),.bool false] (.tup [.sc .slc,.sc .str]) (fun(_x23:Sl) (x24:ByteArray)=>K (.string x24)))
theorem c212 (v1:Int) (v2:Int) {K:KH} {σ:H}:g212 v1 v2 K σ->callW Tryz.prog 212 [.int .i64 v1,.int .i64 v2] K σ:=call_k an212 Tryz.func212 (by kernel_rfl)


def an214:Ann:=(.q (.blk (.seq (some [(0,.s),(1,.sc (.int .i32)),(160,.b)]) .r (.cond (.q .z) (.q (.cond (.n (.q (.blk (.loop [(175,.p)] (.q (.n (.cond .z .z) (.blk (.q (.q (.h))))))))) (.q .z)) (.q (.cond (.q .z) (.blk (.q (.q (.q (.q (.n (.blk (.loop [(0,.s),(7,.s),(8,.i),(9,.i)] (.n (.q (.cond .z .z)) (.blk (.blk (.seq (some [(0,.s),(7,.s),(8,.i),(9,.i)]) (.n (.reg (rn 7) [[],[],[0,1],[],[],[3,4],(rn 6)]) (.cond (.n (.reg (rn 9) [[],[],[1],[0,1,2],[],[],[4,5],(rn 7),(rn 8)]) (.n (.q (.h)) .r)) .z)) (.n (.q (.blk (.loop [(0,.s),(7,.s),(8,.i),(9,.i),(12,.i)] (.n (.q (.cond .z .z)) (.n (.blk (.n (.reg (rn 11) [[],[],[],[1,2],(rn 4),[],[],[],[6,7],[5,6,7,8],(rn 10)]) (.cond .z .z))) .r))))) (.n (.q .z) (.n .z (.q (.q (.q (.cond .z .z))))))))))))) (.n (.q .z) (.n .z (.n (.cond (.q (.q (.h))) (.blk (.q (.q (.n .z (.blk (.loop [] (.n (.q (.cond .z .z)) (.n (.blk (.q (.cond (.n (.q (.blk (.loop [] (.n (.q (.cond .z .z)) (.n (.blk (.q (.cond .z .z))) .r))))) (.q .z)) .z))) .r))))))))) (.q .z))))))))))))))))))
def g214 (v1:ByteArray) (v2:Int) (K:KH):H->Prop :=
 letJ (T:=ByteArray->Int->Bool->H->Prop) (fun v4 v5 x6=>brW x6 (callT Tryz.prog 33 [.string v4,.int .u8 (IntKind.u8.wrap v5)] kI (fun(x7:Int)=>K (.int .i64 x7))) (brW ((v5:Int)==65533) (vaW Tryz.prog (Instr.range 9 (.string v4)) kP (fun x8=>loopW [.sc .ptr] (fun(R9:Option Addr->H->Prop)=>(fun x10=>vaW Tryz.prog (Instr.next (.pointer x10) true 0) (.opt [.sc (.int .i64),.sc (.int .i32)]) (K (.int .i64 (-1)),(fun(x11:Int) (x12:Int) =>
 brW ((x12:Int)==65533) (K (.int .i64 x11)) (R9 x10))))) (fun(R13:Option Addr->H->Prop)=>R13 x8))) (callT Tryz.prog 238 [.int .i32 v5] kB (fun x14=>brW (!x14) (K (.int .i64 (-1))) (vaW Tryz.prog (convert 21 9 (.int .i32 v5)) kS (fun(x15:ByteArray)=>loopW [.sc .str,.sc .str,.sc (.int .i64),.sc (.int .i64)] (fun(R16:ByteArray->ByteArray->Int->Int->H->Prop)=>(fun(v17:ByteArray) (v18:ByteArray) (v19:Int) (v20:Int) =>
 brW (decide ((v20:Int)<((v17.size:Nat):Int))) (letJ (T:=ByteArray->ByteArray->Int->Int->H->Prop) (fun v22 v23 v24 v25=>loopW [.sc .str,.sc .str,.sc (.int .i64),.sc (.int .i64),.sc (.int .i64)] (fun(R26:ByteArray->ByteArray->Int->Int->Int->H->Prop)=>(fun(v27:ByteArray) (v28:ByteArray) (v29:Int) (v30:Int) (v31:Int)=>brW (decide ((v31:Int)<((v28.size:Nat):Int))) (idxW v27 (IntKind.i64.wrap (v30 - v31)) (fun c32 =>
 idxW v28 (IntKind.i64.wrap (v29 - v31)) (fun c33=>brW ((c32.toNat:Int) != (c33.toNat:Int)) (nW) (R26 v27 v28 v29 v30 (IntKind.i64.wrap (v31+1)))))) (K (.int .i64 (IntKind.i64.wrap (v30 - v29)))))) (fun(R34:ByteArray->ByteArray->Int->Int->Int->H->Prop)=>R34 v22 v23 v24 v25 1)) (fun j21=>idxW v17 v20 (fun c35=>idxW v18 v19 (fun c36=>brW ((c35.toNat:Int) != (c36.toNat:Int))
 (ifW (bndOk none v17.size/\bndOk (some (IntKind.i64.wrap (v20+1))) (v17.size)) (idxW v18 v19 (fun c37=>callT Tryz.prog 33 [.string (v17.extract ((IntKind.i64.wrap (v20+1)).toNat) v17.size),.int .u8 (c37.toNat:Int)] kI (fun(x38:Int)=>brW (decide ((x38:Int)<0)) (K (.int .i64 (-1))) (j21 v17 v18 v19 (IntKind.i64.wrap (v20+(IntKind.i64.wrap (x38+1))))))))) (j21 v17 v18 v19 v20)))))
 (K (.int .i64 (-1))))) (fun(R39:ByteArray->ByteArray->Int->Int->H->Prop)=>R39 v4 x15 (IntKind.i64.wrap (((x15.size:Nat):Int) - 1)) (IntKind.i64.wrap (((x15.size:Nat):Int) - 1))))))))) (fun j3=>brW (decide ((0:Int)<=v2)) (j3 v1 v2 (decide ((v2:Int)<128))) (j3 v1 v2 false))
theorem c214 (v1:ByteArray) (v2:Int) {K:KH} {σ:H}:g214 v1 v2 K σ->callW Tryz.prog 214 [.string v1,.int .i32 v2] K σ:=call_k an214 Tryz.func214 (by kernel_rfl)


def an215:Ann:=(.q (.q .z))
def g215 (v1:Int) (K:KH):H->Prop :=
 K (.bool (decide ((v1:Int)>8)))
theorem c215 (v1:Int) {K:KH} {σ:H}:g215 v1 K σ->callW Tryz.prog 215 [.int .i64 v1] K σ:=call_k an215 Tryz.func215 (by kernel_rfl)


def an216:Ann:=(.q (.q .z))
def g216 (v1:ByteArray) (v2:ByteArray) (v3:Int) (K:KH):H->Prop :=
 alW (.cells ⟨[.string v1]⟩ 9 (0,0)) (fun b4=>alW (.cells ⟨[.string v2]⟩ 9 (0,0)) (fun b5=>alW (.cells ⟨[.int .i64 v3]⟩ 3 (0,0)) (fun b6=>K (.func (.func 241) ⟨[]⟩ ⟨[.pointer (some ⟨b5,0,none⟩),.pointer (some ⟨b4,0,none⟩),.pointer (some ⟨b6,0,none⟩)]⟩))))
theorem c216 (v1:ByteArray) (v2:ByteArray) (v3:Int) {K:KH} {σ:H}:g216 v1 v2 v3 K σ->callW Tryz.prog 216 [.string v1,.string v2,.int .i64 v3] K σ:=call_k an216 Tryz.func216 (by kernel_rfl)


def an217:Ann:=(.q (.q (.n (.q (.blk (.loop [(2,.s),(7,.l),(8,.i)] (.n (.q (.cond .z .z)) (.n (.blk (.q (.h))) .r))))) (.q .z))))
def g217 (v1:Option Addr) (v2:Int) (v3:ByteArray) (K:KH):H->Prop :=
 ptrW v1 (fun b4 o5=>rdT (rdC b4 (o5+2)) kL (fun x6=>ptrW x6.base (fun b7 o8=>ifW (0<=v2/\v2<((x6.len:Nat):Int)) (rdT (rdC b7 (o8+v2.toNat * 1)) kP (fun x9=>ptrW x9 (fun b10 o11=>rdT (rdC b10 (o11+3)) kL (fun x12=>loopW [.sc .str,.sc .slc,.sc (.int .i64)] (fun(R13:ByteArray->Sl->Int->H->Prop)=>(fun(v14:ByteArray) (v15:Sl) (v16:Int)=>brW (decide ((v16:Int)<((v15.len:Nat):Int))) (ptrW v15.base (fun b17 o18 =>
 ifW (0<=v16/\v16<((v15.len:Nat):Int)) (rdT (rdC b17 (o18+v16.toNat * 2)) kS (fun(x19:ByteArray)=>brW (strEq x19 v14) (ptrW v15.base (fun b20 o21=>ifW (0<=v16/\v16<((v15.len:Nat):Int)) (rdT (rdC b20 (o21+v16.toNat * 2+1)) kI (fun(x22:Int)=>K (.int .i64 x22))))) (R13 v14 v15 (IntKind.i64.wrap (v16+1))))))) (K (.int .i64 (-1))))) (fun(R23:ByteArray->Sl->Int->H->Prop)=>R23 v3 x12 0))))))))
theorem c217 (v1:Option Addr) (v2:Int) (v3:ByteArray) {K:KH} {σ:H}:g217 v1 v2 v3 K σ->callW Tryz.prog 217 [.pointer v1,.int .i64 v2,.string v3] K σ:=call_k an217 Tryz.func217 (by kernel_rfl)


def an218:Ann:=(.q (.q (.q .z)))
def g218 (x1:Option Addr) (x2:Option Addr) (x3:Option Addr) (K:KH):H->Prop :=
 ptrW x1 (fun b4 o5=>rdT (rdC b4 o5) kP (fun x6=>ptrW x2 (fun b7 o8=>rdT (rdC b7 o8) kI (fun(x9:Int)=>ptrW x3 (fun b10 o11=>rdT (rdC b10 o11) kS (fun(x12:ByteArray)=>callT Tryz.prog 143 [.pointer x6,.int .i64 x9,.string x12] (.tup [.sc (.int .i64),.sc .bool]) (fun(_x13:Int) (x14:Bool)=>callT Tryz.prog 74 [.bool x14,.int .i64 5] kI (fun(x15:Int)=>K (.int .i64 x15)))))))))
theorem c218 (x1:Option Addr) (x2:Option Addr) (x3:Option Addr) {K:KH} {σ:H}:g218 x1 x2 x3 K σ->callW Tryz.prog 218 [.pointer x1,.pointer x2,.pointer x3] K σ:=call_k an218 Tryz.func218 (by kernel_rfl)


def an219:Ann:=(.q (.n (.q (.h)) (.q (.q (.seq (some [(0,.s),(1,.i),(2,.i),(8,.b),(9,.s)]) (.blk (.seq (some [(0,.s),(1,.i),(2,.i),(8,.b),(9,.s),(25,.b)]) .r (.cond .z (.q (.cond (.q (.q (.cond (.blk (.seq (some [(0,.s),(2,.i),(8,.b),(9,.s),(40,.b)]) .r (.cond (.q .r) (.seq (some [(0,.s),(2,.i),(8,.b),(9,.s),(52,.b)]) .r (.cond (.q .r) (.seq (some [(0,.s),(2,.i),(8,.b),(9,.s),(64,.b)]) .r (.cond (.q .r) (.q .r)))))))) .z))) (.q .z)))))) (.seq (some [(0,.s),(1,.i),(2,.i),(8,.b),(9,.s)]) (.q (.cond .r (.seq (some [(0,.s),(1,.i),(2,.i),(8,.b),(9,.s),(83,.b)]) .r (.h)))) (.q (.seq (some [(0,.s),(1,.i),(2,.i),(8,.b),(9,.s),(10,.sc (.int .u64))]) (.q (.blk (.q (.cond .r (.q (.cond .r .r)))))) (.q (.q (.q (.n (.q (.blk (.loop [(1,.i),(8,.b),(9,.s),(10,.sc (.int .u64)),(11,.sc (.int .u64)),(12,.b),(13,.sc (.int .u64)),(99,.l),(100,.i),(101,.i)] (.q (.n (.cond .z .z) (.seq (some [(1,.i),(8,.b),(9,.s),(10,.sc (.int .u64)),(11,.sc (.int .u64)),(12,.b),(13,.sc (.int .u64)),(99,.l),(100,.i),(101,.i),(110,.w)]) (.blk (.q (.q (.seq (some [(1,.i),(8,.b),(9,.s),(10,.sc (.int .u64)),(11,.sc (.int .u64)),(12,.b),(13,.sc (.int .u64)),(16,.sc (.int .u8)),(99,.l),(100,.i),(101,.i),(110,.w),(116,.w),(117,.w)]) (.blk (.seq (some [(1,.i),(8,.b),(9,.s),(10,.sc (.int .u64)),(11,.sc (.int .u64)),(12,.b),(13,.sc (.int .u64)),(15,.sc (.int .u8)),(99,.l),(100,.i),(101,.i),(106,.b),(110,.w)]) .r (.cond (.q .z) (.seq (some [(1,.i),(8,.b),(9,.s),(10,.sc (.int .u64)),(11,.sc (.int .u64)),(12,.b),(13,.sc (.int .u64)),(15,.sc (.int .u8)),(99,.l),(100,.i),(101,.i),(110,.w),(112,.b),(116,.w),(117,.w)]) .r (.cond .r (.seq (some [(1,.i),(8,.b),(9,.s),(10,.sc (.int .u64)),(11,.sc (.int .u64)),(12,.b),(13,.sc (.int .u64)),(15,.sc (.int .u8)),(99,.l),(100,.i),(101,.i),(110,.w),(116,.w),(117,.w),(121,.b),(126,.w),(127,.w),(128,.w)]) .r (.cond .r (.q .z)))))))) (.n (.q (.h)) (.n (.q (.h)) (.q (.q (.n (.seq (some [(1,.i),(8,.b),(9,.s),(10,.sc (.int .u64)),(11,.sc (.int .u64)),(12,.b),(17,.sc (.int .u64)),(99,.l),(100,.i),(101,.i),(110,.w),(116,.w),(117,.w),(156,.w),(157,.w),(158,.w),(159,.b)]) .r (.h)) .r))))))))) .r)))))) (.n (.seq (some [(13,.sc (.int .u64)),(169,.b)]) .r (.h)) (.q .z))))))))))))))
def g219 (v1:ByteArray) (v2:Int) (v3:Int) (K:KH):H->Prop :=
 brW (strEq v1 (⟨⟨[]⟩⟩:ByteArray)) (K (.tuple ⟨[.int .u64 0,.iface 218 (.int .i64 2)]⟩)) (letJ (T:=ByteArray->Int->Int->Bool->ByteArray->H->Prop) (fun v5 v6 v7 base0_8 s0_9=>letJ (T:=ByteArray->Int->Int->Bool->ByteArray->H->Prop) (fun v11 v12 v13 base0_14 s0_15=>letJ (T:=ByteArray->Int->Int->Bool->ByteArray->Int->H->Prop) (fun v17 v18 v19 base0_20 s0_21 v22=>ifW (0<=(IntKind.u64.wrap v19))
 (vaW Tryz.prog (convert 9 57 (.string v17)) kL (fun x23=>loopW [.sc (.int .i64),.sc .bool,.sc .str,.sc (.int .u64),.sc (.int .u64),.sc .bool,.sc (.int .u64),.sc .slc,.sc (.int .i64),.sc (.int .i64)] (fun(R24:Int->Bool->ByteArray->Int->Int->Bool->Int->Sl->Int->Int->H->Prop)=>(fun(v25:Int) (base0_26:Bool) (s0_27:ByteArray) (v28:Int) (v29:Int) (v30:Bool) (v31:Int) (x32:Sl) (x33:Int) (x34:Int) =>
 brW (decide ((x34:Int)<x33)) (letJ (T:=Int->Bool->ByteArray->Int->Int->Bool->Int->Sl->Int->Int->Value->H->Prop) (fun v36 base0_37 s0_38 v39 v40 v41 v42 x43 x44 x45 _x46=>R24 v36 base0_37 s0_38 v39 v40 v41 v42 x43 x44 (IntKind.i64.wrap (x45+1))) (fun j35=>ptrW x32.base (fun b47 o48=>ifW (0<=x34/\x34<((x32.len:Nat):Int)) (rdT (rdC b47 (o48+x34.toNat * 1)) kC (fun(x49:Int) =>
 letJ (T:=Int->Bool->ByteArray->Int->Int->Bool->Int->Int->Sl->Int->Int->Value->Value->Value->H->Prop) (fun v51 base0_52 s0_53 v54 v55 v56 v57 v58 x59 x60 x61 x62 x63 x64=>brW (decide ((v58:Int)>=(IntKind.u8.wrap v51))) (K (.tuple ⟨[.int .u64 0,.iface 218 (.int .i64 2)]⟩)) (brW (decide ((v57:Int)>=v54)) (K (.tuple ⟨[.int .u64 v55,.iface 218 (.int .i64 1)]⟩))
 (letJ (T:=Int->Bool->ByteArray->Int->Int->Bool->Int->Sl->Int->Int->Value->Value->Value->Value->Value->Value->Bool->H->Prop) (fun v66 base0_67 s0_68 v69 v70 v71 n1_72 x73 x74 x75 x76 _x77 _x78 _x79 _x80 _x81 x82=>brW x82 (K (.tuple ⟨[.int .u64 v70,.iface 218 (.int .i64 1)]⟩)) (j35 v66 base0_67 s0_68 v69 v70 v71 n1_72 x73 x74 x75 x76)) (fun j65 =>
 brW (decide (((IntKind.u64.wrap ((IntKind.u64.wrap (v57 * (IntKind.u64.wrap v51)))+(IntKind.u64.wrap v58))):Int)<(IntKind.u64.wrap (v57 * (IntKind.u64.wrap v51))))) (j65 v51 base0_52 s0_53 v54 v55 v56 (IntKind.u64.wrap ((IntKind.u64.wrap (v57 * (IntKind.u64.wrap v51)))+(IntKind.u64.wrap v58))) x59 x60 x61 x62 x63 x64 (.tuple ⟨[]⟩) (.tuple ⟨[]⟩) (.tuple ⟨[]⟩) true)
 (j65 v51 base0_52 s0_53 v54 v55 v56 (IntKind.u64.wrap ((IntKind.u64.wrap (v57 * (IntKind.u64.wrap v51)))+(IntKind.u64.wrap v58))) x59 x60 x61 x62 x63 x64 (.int .u64 (IntKind.u64.wrap ((IntKind.u64.wrap (v57 * (IntKind.u64.wrap v51)))+(IntKind.u64.wrap v58)))) (.int .u64 v55) (.bool (decide (((IntKind.u64.wrap ((IntKind.u64.wrap (v57 * (IntKind.u64.wrap v51)))+(IntKind.u64.wrap v58))):Int)>v55))) (decide (((IntKind.u64.wrap ((IntKind.u64.wrap (v57 * (IntKind.u64.wrap v51)))+(IntKind.u64.wrap v58))):Int)>v55))))))) (fun j50 =>
 letJ (T:=Int->Bool->ByteArray->Int->Int->Bool->Int->Int->Sl->Int->Int->Bool->Value->H->Prop) (fun v84 base0_85 s0_86 v87 v88 v89 v90 v91 x92 x93 x94 x95 x96=>brW x95 (j35 v84 base0_85 s0_86 v87 v88 true v90 x92 x93 x94 x96)
 (letJ (T:=Int->Bool->ByteArray->Int->Int->Bool->Int->Int->Sl->Int->Int->Value->Bool->Value->Value->H->Prop) (fun v98 base0_99 s0_100 v101 v102 v103 v104 v105 x106 x107 x108 x109 x110 x111 x112=>brW x110 (j50 v98 base0_99 s0_100 v101 v102 v103 v104 (IntKind.u8.wrap (v105 - 48)) x106 x107 x108 x109 x111 x112)
 (letJ (T:=Int->Bool->ByteArray->Int->Int->Bool->Int->Int->Sl->Int->Int->Value->Value->Value->Bool->Value->Value->Value->H->Prop) (fun v114 base0_115 s0_116 v117 v118 v119 v120 v121 x122 x123 x124 x125 x126 x127 x128 _x129 _x130 _x131=>brW x128 (callT Tryz.prog 243 [.int .u8 v121] kC (fun(x132:Int) =>
 j50 v114 base0_115 s0_116 v117 v118 v119 v120 (IntKind.u8.wrap ((IntKind.u8.wrap (x132 - 97))+10)) x122 x123 x124 x125 x126 x127)) (K (.tuple ⟨[.int .u64 0,.iface 218 (.int .i64 2)]⟩))) (fun j113=>callT Tryz.prog 243 [.int .u8 v105] kC (fun(x133:Int)=>brW (decide ((97:Int)<=x133)) (callT Tryz.prog 243 [.int .u8 v105] kC (fun(x134:Int) =>
 j113 v98 base0_99 s0_100 v101 v102 v103 v104 v105 x106 x107 x108 x109 x111 x112 (decide ((x134:Int)<=122)) (.int .u8 v105) (.int .u8 x134) (.bool (decide ((x134:Int)<=122))))) (j113 v98 base0_99 s0_100 v101 v102 v103 v104 v105 x106 x107 x108 x109 x111 x112 false (.tuple ⟨[]⟩) (.tuple ⟨[]⟩) (.tuple ⟨[]⟩)))))) (fun j97=>brW (decide ((48:Int)<=v91))
 (j97 v84 base0_85 s0_86 v87 v88 v89 v90 v91 x92 x93 x94 x96 (decide ((v91:Int)<=57)) (.int .u8 v91) (.bool (decide ((v91:Int)<=57)))) (j97 v84 base0_85 s0_86 v87 v88 v89 v90 v91 x92 x93 x94 x96 false (.tuple ⟨[]⟩) (.tuple ⟨[]⟩))))) (fun j83=>brW ((x49:Int)==95) (j83 v25 base0_26 s0_27 v28 v29 v30 v31 x49 x32 x33 x34 base0_26 (.bool base0_26))
 (j83 v25 base0_26 s0_27 v28 v29 v30 v31 x49 x32 x33 x34 false (.tuple ⟨[]⟩))))))))) (letJ (T:=Int->Bool->H->Prop) (fun v136 x137=>brW x137 (K (.tuple ⟨[.int .u64 0,.iface 218 (.int .i64 2)]⟩)) (K (.tuple ⟨[.int .u64 v136,.nilIface]⟩))) (fun j135=>brW v30 (callT Tryz.prog 244 [.string s0_27] kB (fun x138=>j135 v31 (!x138)))
 (j135 v31 false))))) (fun(R139:Int->Bool->ByteArray->Int->Int->Bool->Int->Sl->Int->Int->H->Prop)=>R139 v18 base0_20 s0_21 v22 (IntKind.u64.wrap ((IntKind.u64.wrap (1 * 2 ^ min (Int.toNat (IntKind.u64.wrap v19)) (IntKind.bits .u64))) - 1)) false 0 x23 ((x23.len:Nat):Int) 0)))) (fun j16=>brW ((v12:Int)==10) (j16 v11 v12 v13 base0_14 s0_15 1844674407370955162) (brW ((v12:Int)==16)
 (j16 v11 v12 v13 base0_14 s0_15 1152921504606846976) (ifW ((IntKind.u64.wrap v12)≠0) (j16 v11 v12 v13 base0_14 s0_15 (IntKind.u64.wrap ((IntKind.u64.wrap (Int.tdiv 18446744073709551615 (IntKind.u64.wrap v12)))+1))))))) (fun j10=>brW ((v7:Int)==0) (j10 v5 v6 64 base0_8 s0_9) (letJ (T:=ByteArray->Int->Int->Bool->ByteArray->Bool->H->Prop) (fun v141 v142 v143 base0_144 s0_145 x146=>brW x146
 (K (.tuple ⟨[.int .u64 0,.iface 218 (.int .i64 4)]⟩)) (j10 v141 v142 v143 base0_144 s0_145)) (fun j140=>brW (decide ((v7:Int)<0)) (j140 v5 v6 v7 base0_8 s0_9 true) (j140 v5 v6 v7 base0_8 s0_9 (decide ((v7:Int)>64))))))) (fun j4=>letJ (T:=ByteArray->Int->Int->Bool->ByteArray->Bool->H->Prop) (fun v148 v149 v150 base0_151 s0_152 x153=>brW x153 (j4 v148 v149 v150 base0_151 s0_152)
 (brW ((v149:Int)==0) (idxW v148 0 (fun c154=>brW ((c154.toNat:Int)==48) (letJ (T:=ByteArray->Int->Bool->ByteArray->Bool->H->Prop) (fun v156 v157 base0_158 s0_159 x160=>brW x160 (ifW (bndOk none v156.size/\bndOk (some 2) (v156.size)) (j4 (v156.extract ((2:Int).toNat) v156.size) 2 v157 base0_158 s0_159)) (letJ (T:=ByteArray->Int->Bool->ByteArray->Bool->H->Prop) (fun v162 v163 base0_164 s0_165 x166=>brW x166
 (ifW (bndOk none v162.size/\bndOk (some 2) (v162.size)) (j4 (v162.extract ((2:Int).toNat) v162.size) 8 v163 base0_164 s0_165)) (letJ (T:=ByteArray->Int->Bool->ByteArray->Bool->H->Prop) (fun v168 v169 base0_170 s0_171 x172=>brW x172 (ifW (bndOk none v168.size/\bndOk (some 2) (v168.size)) (j4 (v168.extract ((2:Int).toNat) v168.size) 16 v169 base0_170 s0_171)) (ifW (bndOk none v168.size/\bndOk (some 1) (v168.size))
 (j4 (v168.extract ((1:Int).toNat) v168.size) 8 v169 base0_170 s0_171))) (fun j167=>brW (decide (((v162.size:Nat):Int)>=3)) (idxW v162 1 (fun c173=>callT Tryz.prog 243 [.int .u8 (c173.toNat:Int)] kC (fun(x174:Int)=>j167 v162 v163 base0_164 s0_165 ((x174:Int)==120)))) (j167 v162 v163 base0_164 s0_165 false)))) (fun j161=>brW (decide (((v156.size:Nat):Int)>=3)) (idxW v156 1 (fun c175 =>
 callT Tryz.prog 243 [.int .u8 (c175.toNat:Int)] kC (fun(x176:Int)=>j161 v156 v157 base0_158 s0_159 ((x176:Int)==111)))) (j161 v156 v157 base0_158 s0_159 false)))) (fun j155=>brW (decide (((v148.size:Nat):Int)>=3)) (idxW v148 1 (fun c177=>callT Tryz.prog 243 [.int .u8 (c177.toNat:Int)] kC (fun(x178:Int)=>j155 v148 v150 base0_151 s0_152 ((x178:Int)==98)))) (j155 v148 v150 base0_151 s0_152 false)))
 (j4 v148 10 v150 base0_151 s0_152))) (K (.tuple ⟨[.int .u64 0,.iface 218 (.int .i64 3)]⟩)))) (fun j147=>brW (decide ((2:Int)<=v2)) (j147 v1 v2 v3 ((v2:Int)==0) v1 (decide ((v2:Int)<=36))) (j147 v1 v2 v3 ((v2:Int)==0) v1 false))))
theorem c219 (v1:ByteArray) (v2:Int) (v3:Int) {K:KH} {σ:H}:g219 v1 v2 v3 K σ->callW Tryz.prog 219 [.string v1,.int .i64 v2,.int .i64 v3] K σ:=call_k an219 Tryz.func219 (by kernel_rfl)


def an224:Ann:=(.q (.n (.q (.blk (.loop [(0,.s),(1,.sc (.int .u8)),(5,.i)] (.n (.q (.cond .z .z)) (.n (.blk (.q (.h))) .r))))) (.q .z)))
def g224 (v1:ByteArray) (v2:Int) (K:KH):H->Prop :=
 loopW [.sc .str,.sc (.int .u8),.sc (.int .i64)] (fun(R3:ByteArray->Int->Int->H->Prop)=>(fun(v4:ByteArray) (v5:Int) (v6:Int)=>brW (decide ((v6:Int)>=0)) (idxW v4 v6 (fun c7=>brW ((c7.toNat:Int)==v5) (K (.int .i64 v6)) (R3 v4 v5 (IntKind.i64.wrap (v6 - 1))))) (K (.int .i64 (-1))))) (fun(R8:ByteArray->Int->Int->H->Prop)=>R8 v1 v2 (IntKind.i64.wrap (((v1.size:Nat):Int) - 1)))
theorem c224 (v1:ByteArray) (v2:Int) {K:KH} {σ:H}:g224 v1 v2 K σ->callW Tryz.prog 224 [.string v1,.int .u8 v2] K σ:=call_k an224 Tryz.func224 (by kernel_rfl)


def an225:Ann:=(.q (.n (.q (.h)) (.q (.q .z))))
def g225 (__1:Int) (v2:Int) (v3:Int) (v4:ByteArray) (v5:Int) (x6:Option Addr) (K:KH):H->Prop :=
 alW (.cells ⟨[.int .i64 v2,.int .i64 v3,.string v4,.int .i64 v5]⟩ 73 (0,0)) (fun b7=>rdT (rdC b7 0) kI (fun(x8:Int)=>brW ((x8:Int)==2) (K (.int .i64 7)) (rdT (rdC b7 2) kS (fun(x9:ByteArray)=>stW Tryz.prog 9 (.pointer x6) (.string x9) (K (.int .i64 0))))))
theorem c225 (__1:Int) (v2:Int) (v3:Int) (v4:ByteArray) (v5:Int) (x6:Option Addr) {K:KH} {σ:H}:g225 __1 v2 v3 v4 v5 x6 K σ->callW Tryz.prog 225 [.int .i64 __1,.agg ⟨[.int .i64 v2,.int .i64 v3,.string v4,.int .i64 v5]⟩,.pointer x6] K σ:=call_k an225 Tryz.func225 (by kernel_rfl)


def an234:Ann:=(.q (.n (.q (.h)) (.q .z)))
def g234 (v1:Int) (K:KH):H->Prop :=
 brW (decide ((v1:Int)<10)) (ifW (bndOk (some (IntKind.i64.wrap (v1+1))) (⟨⟨[48,49,50,51,52,53,54,55,56,57,97,98,99,100,101,102,103,104,105,106,107,108,109,110,111,112,113,114,115,116,117,118,119,120,121,122]⟩⟩:ByteArray).size/\bndOk (some v1) ((IntKind.i64.wrap (v1+1)).toNat))
 (K (.string ((⟨⟨[48,49,50,51,52,53,54,55,56,57,97,98,99,100,101,102,103,104,105,106,107,108,109,110,111,112,113,114,115,116,117,118,119,120,121,122]⟩⟩:ByteArray).extract v1.toNat ((IntKind.i64.wrap (v1+1)).toNat)))))
 (ifW (bndOk (some (IntKind.i64.wrap ((IntKind.i64.wrap (v1 * 2))+2))) (⟨⟨[48,48,48,49,48,50,48,51,48,52,48,53,48,54,48,55,48,56,48,57,49,48,49,49,49,50,49,51,49,52,49,53,49,54,49,55,49,56,49,57,50,48,50,49,50,50,50,51,50,52,50,53,50,54,50,55,50,56,50,57,51,48,51,49,51,50,51,51,51,52,51,53,51,54,51,55,51,56,51,57,52,48,52,49,52,50,52,51,52,52,52,53,52,54,52,55,52,56,52,57,53,48,53,49,53,50,53,51,53,52,53,53,53,54,53,55,53,56,53,57,54,48,54,49,54,50,54,51,54,52,54,53,54,54,54,55,54,56,54,57,55,48,55,49,55,50,55,51,55,52,55,53,55,54,55,55,55,56,55,57,56,48,56,49,56,50,56,51,56,52,56,53,56,54,56,55,56,56,56,57,57,48,57,49,57,50,57,51,57,52,57,53,57,54,57,55,57,56,57,57]⟩⟩:ByteArray).size/\bndOk (some (IntKind.i64.wrap (v1 * 2))) ((IntKind.i64.wrap ((IntKind.i64.wrap (v1 * 2))+2)).toNat))
 (K (.string ((⟨⟨[48,48,48,49,48,50,48,51,48,52,48,53,48,54,48,55,48,56,48,57,49,48,49,49,49,50,49,51,49,52,49,53,49,54,49,55,49,56,49,57,50,48,50,49,50,50,50,51,50,52,50,53,50,54,50,55,50,56,50,57,51,48,51,49,51,50,51,51,51,52,51,53,51,54,51,55,51,56,51,57,52,48,52,49,52,50,52,51,52,52,52,53,52,54,52,55,52,56,52,57,53,48,53,49,53,50,53,51,53,52,53,53,53,54,53,55,53,56,53,57,54,48,54,49,54,50,54,51,54,52,54,53,54,54,54,55,54,56,54,57,55,48,55,49,55,50,55,51,55,52,55,53,55,54,55,55,55,56,55,57,56,48,56,49,56,50,56,51,56,52,56,53,56,54,56,55,56,56,56,57,57,48,57,49,57,50,57,51,57,52,57,53,57,54,57,55,57,56,57,57]⟩⟩:ByteArray).extract ((IntKind.i64.wrap (v1 * 2)).toNat) ((IntKind.i64.wrap ((IntKind.i64.wrap (v1 * 2))+2)).toNat)))))
theorem c234 (v1:Int) {K:KH} {σ:H}:g234 v1 K σ->callW Tryz.prog 234 [.int .i64 v1] K σ:=call_k an234 Tryz.func234 (by kernel_rfl)


def an238:Ann:=(.q (.n (.blk (.seq (some [(0,.sc (.int .i32)),(3,.b)]) .r (.cond (.q .z) (.seq (some [(10,.b)]) .r (.h))))) (.q .z)))
def g238 (v1:Int) (K:KH):H->Prop :=
 letJ (T:=Int->Bool->H->Prop) (fun v3 x4=>brW x4 (K (.bool true)) (letJ (T:=Bool->H->Prop) (fun x6=>brW x6 (K (.bool true)) (K (.bool false))) (fun j5=>brW (decide ((57343:Int)<v3)) (j5 (decide ((v3:Int)<=1114111))) (j5 false)))) (fun j2=>brW (decide ((0:Int)<=v1)) (j2 v1 (decide ((v1:Int)<55296))) (j2 v1 false))
theorem c238 (v1:Int) {K:KH} {σ:H}:g238 v1 K σ->callW Tryz.prog 238 [.int .i32 v1] K σ:=call_k an238 Tryz.func238 (by kernel_rfl)


def an241:Ann:=(.n (.q (.cond (.n (.blk (.loop [(0,.w),(2,.p)] (.n (.q (.cond .z .z)) (.blk (.q (.n (.q (.cond .z .z)) .r)))))) .z) .z)) (.n (.blk (.loop [(0,.w),(1,.p),(2,.p),(3,.p)] (.blk (.q (.n (.q (.cond .z .z)) (.q (.n (.q (.cond .z .z)) .r))))))) .r))
def g241 (v1:Value) (x2:Option Addr) (x3:Option Addr) (x4:Option Addr) (K:KH):H->Prop :=
 ptrW x2 (fun b5 o6=>rdT (rdC b5 o6) kS (fun(x7:ByteArray)=>brW (((x7.size:Nat):Int)==0) (loopW [.sc .raw,.sc .ptr] (fun(R8:Value->Option Addr->H->Prop)=>(fun v9 x10=>ptrW x10 (fun b11 o12=>rdT (rdC b11 o12) kS (fun(x13:ByteArray)=>brW (decide (((x13.size:Nat):Int)>0)) (ptrW x10 (fun b14 o15=>rdT (rdC b14 o15) kS (fun(x16:ByteArray) =>
 callT Tryz.prog 209 [.string x16] (.tup [.sc (.int .i32),.sc (.int .i64)]) (fun(_x17:Int) (x18:Int)=>ptrW x10 (fun b19 o20=>rdT (rdC b19 o20) kS (fun(x21:ByteArray)=>ifW (bndOk (some x18) x21.size/\bndOk none (x18.toNat)) (cvalT Tryz.prog v9 [.string (x21.extract 0 x18.toNat)] kB (fun x22=>brW (!x22) (K (.tuple ⟨[]⟩)) (ptrW x10 (fun b23 o24=>rdT (rdC b23 o24) kS (fun(x25:ByteArray)=>ifW (bndOk none x25.size/\bndOk (some x18) (x25.size))
 (stW Tryz.prog 9 (.pointer x10) (.string (x25.extract x18.toNat x25.size)) (R8 v9 x10))))))))))))) (K (.tuple ⟨[]⟩)))))) (fun(R26:Value->Option Addr->H->Prop)=>R26 v1 x3)) (loopW [.sc .raw,.sc .ptr,.sc .ptr,.sc .ptr] (fun(R27:Value->Option Addr->Option Addr->Option Addr->H->Prop)=>(fun v28 x29 x30 x31=>ptrW x30 (fun b32 o33=>rdT (rdC b32 o33) kS (fun(x34:ByteArray)=>ptrW x29 (fun b35 o36=>rdT (rdC b35 o36) kS (fun(x37:ByteArray) =>
 callT Tryz.prog 242 [.string x34,.string x37] kI (fun(x38:Int)=>brW (decide ((x38:Int)<0)) (ptrW x30 (fun b39 o40=>rdT (rdC b39 o40) kS (fun(x41:ByteArray)=>cvalT Tryz.prog v28 [.string x41] kB (fun _x42=>K (.tuple ⟨[]⟩))))) (ptrW x30 (fun b43 o44=>rdT (rdC b43 o44) kS (fun(x45:ByteArray)=>ptrW x31 (fun b46 o47=>rdT (rdC b46 o47) kI (fun(x48:Int)=>ifW (bndOk (some (IntKind.i64.wrap (x38+x48))) x45.size/\bndOk none ((IntKind.i64.wrap (x38+x48)).toNat))
 (cvalT Tryz.prog v28 [.string (x45.extract 0 ((IntKind.i64.wrap (x38+x48)).toNat))] kB (fun x49=>brW (!x49) (K (.tuple ⟨[]⟩)) (ptrW x30 (fun b50 o51=>rdT (rdC b50 o51) kS (fun(x52:ByteArray)=>ptrW x29 (fun b53 o54=>rdT (rdC b53 o54) kS (fun(x55:ByteArray)=>ifW (bndOk none x52.size/\bndOk (some (IntKind.i64.wrap (x38+((x55.size:Nat):Int)))) (x52.size))
 (stW Tryz.prog 9 (.pointer x30) (.string (x52.extract ((IntKind.i64.wrap (x38+((x55.size:Nat):Int))).toNat) x52.size)) (R27 v28 x29 x30 x31))))))))))))))))))))) (fun(R56:Value->Option Addr->Option Addr->Option Addr->H->Prop)=>R56 v1 x2 x3 x4))))
theorem c241 (v1:Value) (x2:Option Addr) (x3:Option Addr) (x4:Option Addr) {K:KH} {σ:H}:g241 v1 x2 x3 x4 K σ->callW Tryz.prog 241 [v1,.pointer x2,.pointer x3,.pointer x4] K σ:=call_k an241 Tryz.func241 (by kernel_rfl)


def an242:Ann:=(.q (.q .z))
def g242 (v1:ByteArray) (v2:ByteArray) (K:KH):H->Prop :=
 callT Tryz.prog 252 [.string v1,.string v2] kI (fun(x3:Int)=>K (.int .i64 x3))
theorem c242 (v1:ByteArray) (v2:ByteArray) {K:KH} {σ:H}:g242 v1 v2 K σ->callW Tryz.prog 242 [.string v1,.string v2] K σ:=call_k an242 Tryz.func242 (by kernel_rfl)

end Go.Proofs.YtbdlkofldmhoaaaGreatDoor

