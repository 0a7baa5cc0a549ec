/- A part of the proof: FsKnown holds. -/
import Derived.Test.YtbjbeajbckcecaaGreatDoorUan
import Derived.Test.YtbjbeajbckcecaaGreatDoorProg
import Derived.KernelRfl
import Derived.Test.YtbjbeajbckcecaaGreatDoorChecked
import Derived.IntWalk
namespace Go.Wk
open Go Go.HL
structure AN where
 kind : Int
 mode : Int
 data : ByteArray
 links : Int
 up : Int
 ents : List (ByteArray × Int)
structure AT where
 qi : Int
 qb : Int
 ui : Int
 ub : Int
 last : Int
 nodes : List (Int × AN)
def AT.get (A : AT) (i : Int) : Option AN := lk i A.nodes
def AT.find (A : AT) (dir : Int) (name : ByteArray) : Option Int := (A.get dir).bind fun n => lk name n.ents
def AT.kind (A : AT) (i : Int) : Int := ((A.get i).map (·.kind)).getD 0
def AT.upOf (A : AT) (i : Int) : Int := ((A.get i).map (·.up)).getD 0
def AT.dirE (A : AT) (ino : Int) : Int := match A.get ino with
 | none => 5
 | some n => if n.kind == 2 then 0 else 8
def AT.fileE (A : AT) (ino : Int) : Int := match A.get ino with
 | none => 5
 | some n => if n.kind == 2 then 7 else if n.kind == 1 then 0 else 2
def sEq (x y : ByteArray) : Bool := x.data.toList == y.data.toList
theorem sEq_eq (x y : ByteArray) : sEq x y = strEq x y := by unfold sEq strEq; rw [ByteArray.toList_eq, ByteArray.toList_eq]
theorem sEq_iff {x y : ByteArray} : sEq x y = true ↔ x = y := by rw [sEq_eq]; exact strEq_iff
def badByte (s : ByteArray) : Bool := s.data.toList.any fun c => c == 47 || c == 0
def hasNul (s : ByteArray) : Bool := s.data.toList.any fun c => c == 0
def namedE (name : ByteArray) : Int := if name.size > 56 then 3 else if !sEq name ⟨⟨[]⟩⟩ && !sEq name ⟨⟨[46]⟩⟩ && !sEq name ⟨⟨[46, 46]⟩⟩ && !badByte name then 0 else 2
def linkOk (d : ByteArray) : Bool := !sEq d ⟨⟨[]⟩⟩ && (decide (d.size <= 255) && !hasNul d)
def kindOkE (kind : Int) (d : ByteArray) : Bool := (lk kind [((1 : Int), true), (2, sEq d ⟨⟨[]⟩⟩), (3, linkOk d)]).getD false
def likeE (kind mode : Int) (d : ByteArray) : Int := if kindOkE kind d && (decide (0 <= mode) && decide (mode <= 511)) then 0 else 2
def wr (x : Int) : Int := IntKind.i64.wrap x
def AT.roomE (A : AT) (i n : Int) : Int := if wr (A.ui + i) <= A.qi /\ wr (A.ub + n) <= A.qb then 0 else 10
def firstE : List Int -> Int
 | [] => 0
 | e :: es => if e = 0 then firstE es else e
def AT.set (A : AT) (i : Int) (n : AN) : AT := { A with nodes := up i n A.nodes }
def AT.ent (A : AT) (dir : Int) (f : List (ByteArray × Int) -> List (ByteArray × Int)) : AT := match A.get dir with
 | none => A
 | some n => A.set dir { n with ents := f n.ents }
def AT.makeE (A : AT) (dir : Int) (name : ByteArray) (kind mode : Int) (data : ByteArray) : Int :=
 firstE [0, A.dirE dir, namedE name, likeE kind mode data, if (A.find dir name).isSome then 6 else 0, A.roomE 1 (data.size : Int)]
def AT.made (A : AT) (dir : Int) (name : ByteArray) (kind mode : Int) (data : ByteArray) : AT :=
 let i := wr (A.last + 1)
 let A1 := { A with last := i, nodes := up i ⟨kind, mode, data, 1, if kind == 2 then dir else 0, []⟩ A.nodes }
 let A2 := A1.ent dir (up name i)
 { A2 with ui := wr (A.ui + 1), ub := wr (A.ub + data.size) }
def AT.linkE (A : AT) (dir : Int) (name : ByteArray) (ino : Int) : Int :=
 firstE [0, A.dirE dir, namedE name, A.fileE ino, if (A.find dir name).isSome then 6 else 0]
def AT.mod (A : AT) (i : Int) (f : AN -> AN) : AT := match A.get i with
 | none => A
 | some n => A.set i (f n)
def AT.linked (A : AT) (dir : Int) (name : ByteArray) (ino : Int) : AT := (A.ent dir (up name ino)).mod ino fun n => { n with links := wr (n.links + 1) }
def AT.unlinkE (A : AT) (dir : Int) (name : ByteArray) : Int :=
 firstE [0, A.dirE dir, if (A.find dir name).isSome then 0 else 5, if ((A.get ((A.find dir name).getD 0)).map (·.ents.length)).getD 0 = 0 then 0 else 20]
def AT.unlinked (A : AT) (dir : Int) (name : ByteArray) : AT :=
 let ino := (A.find dir name).getD 0
 let A1 := (A.ent dir (rm name)).mod ino fun n => { n with links := wr (n.links - 1) }
 match A1.get ino with
 | none => A1
 | some n => if n.links == 0 then { A1 with nodes := rm ino A1.nodes, ui := wr (A.ui - 1), ub := wr (A.ub - n.data.size) } else A1
def AT.apart (A : AT) (ino : Int) : Nat -> Int -> Option Bool
 | 0, _ => none
 | f + 1, at_ => if at_ = 1 then some true else if at_ = ino then some false else (A.get at_).bind fun n => AT.apart A ino f n.up
def AT.moveE1 (A : AT) (src : Int) (name : ByteArray) (tq : Int) (as_ : ByteArray) : Int :=
 firstE [0, A.dirE src, A.dirE tq, namedE as_, if (A.find src name).isSome then 0 else 5]
def AT.moved (A : AT) (src : Int) (name : ByteArray) (tq : Int) (as_ : ByteArray) : AT :=
 let ino := (A.find src name).getD 0
 ((A.ent src (rm name)).ent tq (up as_ ino)).mod ino fun n => if n.kind == 2 then { n with up := tq } else n
def AT.writeE (A : AT) (ino : Int) (data : ByteArray) : Int :=
 firstE [0, A.fileE ino, A.roomE 0 (wr ((data.size : Int) - ((A.get ino).map (·.data.size)).getD 0))]
def AT.written (A : AT) (ino : Int) (data : ByteArray) : AT := match A.get ino with
 | none => A
 | some n => { A.set ino { n with data := data } with ub := wr (A.ub + wr ((data.size : Int) - n.data.size)) }
def AT.chmodE (A : AT) (ino mode : Int) : Int := firstE [0, if 0 <= mode /\ mode <= 511 then 0 else 2, if (A.get ino).isSome then 0 else 5]
def AT.chmoded (A : AT) (ino mode : Int) : AT := A.mod ino fun n => { n with mode := mode }
def newOk (qi qb : Int) : Bool := !(decide (qi < 1) || (decide (qi > 1048576) || (decide (qb < 0) || decide (qb > 1073741824))))
def newT (qi qb : Int) : AT := ⟨qi, qb, 1, 0, 1, [(1, ⟨2, 493, ⟨⟨[]⟩⟩, 1, 1, []⟩)]⟩
def AT.makeR (A : AT) (dir : Int) (name : ByteArray) (kind mode : Int) (data : ByteArray) : Int × Int × AT :=
 if A.makeE dir name kind mode data = 0 then (wr (A.last + 1), 0, A.made dir name kind mode data) else (0, A.makeE dir name kind mode data, A)
def AT.linkR (A : AT) (dir : Int) (name : ByteArray) (ino : Int) : Int × AT :=
 if A.linkE dir name ino = 0 then (0, A.linked dir name ino) else (A.linkE dir name ino, A)
def AT.writeR (A : AT) (ino : Int) (data : ByteArray) : Int × AT := if A.writeE ino data = 0 then (0, A.written ino data) else (A.writeE ino data, A)
def AT.chmodR (A : AT) (ino mode : Int) : Int × AT := if A.chmodE ino mode = 0 then (0, A.chmoded ino mode) else (A.chmodE ino mode, A)
def AT.unlinkR (A : AT) (dir : Int) (name : ByteArray) : Int × AT := if A.unlinkE dir name = 0 then (0, A.unlinked dir name) else (A.unlinkE dir name, A)
def AT.moveR (A : AT) (src : Int) (name : ByteArray) (tq : Int) (as_ : ByteArray) (f : Nat) : Int × AT :=
 if A.moveE1 src name tq as_ ≠ 0 \/ (src = tq /\ name = as_) then (A.moveE1 src name tq as_, A)
 else
  let e := firstE [if (A.find tq as_).isSome then 6 else 0, if (A.apart ((A.find src name).getD 0) f tq).getD false then 0 else 2]
  if e ≠ 0 then (e, A) else (0, A.moved src name tq as_)
end Go.Wk

namespace Go.Proofs.YtbjbeajbckcecaaGreatDoor
open Go Go.HL
@[reducible] def kI : TK := .one (.sc (.int .i64))
@[reducible] def kC : TK := .one (.sc (.int .u8))
@[reducible] def kB : TK := .one (.sc .bool)
@[reducible] def kS : TK := .one (.sc .str)
@[reducible] def kP : TK := .one (.sc .ptr)
@[reducible] def kL : TK := .one (.sc .slc)
@[reducible] def kM : TK := .one (.sc .map)
@[reducible] def kR : TK := .one (.sc .raw)
@[reducible] def kU : TK := .tup []
def tau : Nat -> TK
 | 0 => kU
 | 2 => kI
 | 3 => kI
 | 4 => kB
 | 5 => kC
 | 6 => kC
 | 7 => (.one (.agg [(.int .i64), (.int .i64), .bool, (.int .u8)]))
 | 8 => (.one (.agg [(.int .i64), (.int .i64), .bool, (.int .u8)]))
 | 9 => kS
 | 10 => kS
 | 11 => kS
 | 12 => (.one (.sc (.int .u64)))
 | 13 => (.one (.agg [.str, (.int .u64)]))
 | 14 => (.one (.agg [.str, (.int .u64)]))
 | 15 => kP
 | 16 => kP
 | 17 => kP
 | 18 => (.one (.agg [.ptr]))
 | 19 => (.one (.agg [.ptr]))
 | 21 => (.one (.sc (.int .i32)))
 | 22 => kL
 | 24 => kP
 | 25 => kP
 | 26 => (.tup [.sc .ptr, .sc .ptr])
 | 28 => (.one (.agg [.str, .bool, .bool]))
 | 29 => (.one (.agg [.str, .bool, .bool]))
 | 31 => kL
 | 32 => (.tup [.sc .slc, .sc (.int .i64)])
 | 34 => (.one (.agg [(.int .i64), (.int .i64), .str, (.int .i64)]))
 | 35 => (.one (.agg [(.int .i64), (.int .i64), .str, (.int .i64)]))
 | 36 => kI
 | 37 => (.tup [.agg [(.int .i64), (.int .i64), .str, (.int .i64)], .sc (.int .i64)])
 | 40 => (.tup [.sc .slc, .sc (.int .i64)])
 | 44 => kL
 | 47 => kL
 | 51 => kL
 | 52 => (.one (.agg [.slc]))
 | 53 => (.one (.agg [.slc]))
 | 56 => kL
 | 62 => kL
 | 63 => (.one (.agg [(.int .i64), (.int .i64)]))
 | 64 => (.one (.agg [(.int .i64), (.int .i64)]))
 | 68 => (.one (.agg [(.int .u8), .str, .str, (.int .i64)]))
 | 69 => (.one (.agg [(.int .u8), .str, .str, (.int .i64)]))
 | 71 => kL
 | 72 => (.one (.agg [.str, (.int .i64), .bool, .str, .slc]))
 | 73 => (.one (.agg [.str, (.int .i64), .bool, .str, .slc]))
 | 74 => (.tup [.agg [.str, (.int .i64), .bool, .str, .slc], .sc (.int .i64)])
 | 92 => (.tup [.sc .str, .sc (.int .i64)])
 | 95 => kP
 | 96 => (.one (.agg [.ptr, .str, (.int .i64)]))
 | 97 => (.one (.agg [.ptr, .str, (.int .i64)]))
 | 102 => kL
 | 108 => kP
 | 109 => (.one (.agg [.ptr]))
 | 110 => (.one (.agg [.ptr]))
 | 114 => kP
 | 116 => (.one (.agg [(.int .u8), .bool]))
 | 117 => (.one (.agg [(.int .u8), .bool]))
 | 119 => kP
 | 120 => (.one (.agg [.ptr, .slc]))
 | 121 => (.one (.agg [.ptr, .slc]))
 | 124 => (.tup [.sc (.int .i64), .sc .raw])
 | 128 => kP
 | 129 => kL
 | 130 => (.one (.agg [(.int .i64), (.int .i64), .str, .slc, (.int .i64)]))
 | 131 => (.one (.agg [(.int .i64), (.int .i64), .str, .slc, (.int .i64)]))
 | 132 => kL
 | 133 => (.one (.agg [(.int .i64), (.int .i64), .slc]))
 | 134 => (.one (.agg [(.int .i64), (.int .i64), .slc]))
 | 135 => (.one (.agg [.ptr]))
 | 136 => (.one (.agg [.ptr]))
 | 141 => (.one (.agg [(.int .i64), .str, (.int .i64), .bool]))
 | 142 => (.one (.agg [(.int .i64), .str, (.int .i64), .bool]))
 | 143 => (.tup [.sc (.int .i64), .sc (.int .i64)])
 | 147 => (.tup [.agg [(.int .i64), .str, (.int .i64), .bool], .sc (.int .i64)])
 | 149 => (.tup [.agg [(.int .i64), (.int .i64), .str, (.int .i64)], .sc .bool])
 | 155 => (.one (.sc (.int .u64)))
 | 156 => (.tup [.sc (.int .u64), .sc (.int .u64)])
 | 159 => (.tup [.agg [(.int .i64), .str, (.int .i64), .bool], .agg [(.int .i64), .str, (.int .i64), .bool], .sc (.int .i64)])
 | 165 => (.tup [.sc (.int .i64), .sc (.int .i64)])
 | 168 => (.tup [.sc (.int .i64), .sc .bool])
 | 170 => (.one (.agg [(.int .i64), .str, (.int .i64)]))
 | 171 => (.one (.agg [(.int .i64), .str, (.int .i64)]))
 | 172 => (.tup [.agg [(.int .i64), .str, (.int .i64)], .sc (.int .i64)])
 | 177 => kL
 | 179 => (.one (.agg [.bool, .raw, .bool]))
 | 180 => (.one (.agg [.bool, .raw, .bool]))
 | 185 => (.one (.agg [.slc, .bool]))
 | 186 => (.one (.agg [.slc, .bool]))
 | 188 => kP
 | 189 => kP
 | 192 => kM
 | 193 => (.one (.agg [(.int .i64), (.int .i64), .str, (.int .i64), (.int .i64), .map]))
 | 194 => (.one (.agg [(.int .i64), (.int .i64), .str, (.int .i64), (.int .i64), .map]))
 | 197 => kP
 | 198 => kM
 | 199 => (.one (.agg [(.int .i64), (.int .i64), (.int .i64), (.int .i64), .map, (.int .i64)]))
 | 200 => (.one (.agg [(.int .i64), (.int .i64), (.int .i64), (.int .i64), .map, (.int .i64)]))
 | 205 => (.tup [.sc .raw, .sc .bool])
 | 209 => kM
 | 211 => kM
 | 219 => kP
 | 220 => (.one (.sc (.int .u32)))
 | 221 => (.tup [.sc (.int .u32), .sc (.int .u32)])
 | 223 => (.one (.sc (.int .u64)))
 | 224 => (.tup [.sc (.int .u64), .sc (.int .u64)])
 | 226 => kM
 | 229 => kL
 | 233 => (.one (.agg [(.int .u8), .bool]))
 | 234 => (.one (.agg [(.int .u8), .bool]))
 | 235 => (.tup [.sc .raw, .sc (.int .i64)])
 | 244 => (.one (.agg [.str, (.int .i64)]))
 | 245 => (.one (.agg [.str, (.int .i64)]))
 | 249 => kL
 | 260 => kI
 | 261 => (.tup [.sc (.int .i64), .sc (.int .i64)])
 | 270 => kL
 | 276 => (.one (.sc (.int .u64)))
 | 286 => (.tup [.sc .raw, .sc .bool])
 | 289 => kP
 | 292 => kP
 | 293 => (.tup [.sc (.int .i32), .sc (.int .i64)])
 | 296 => (.one (.agg [(.int .u8), (.int .u8)]))
 | 297 => (.one (.agg [(.int .u8), (.int .u8)]))
 | 299 => (.one (.agg [.ptr, .ptr, .ptr, .str]))
 | 300 => (.one (.agg [.ptr, .ptr, .ptr, .str]))
 | 301 => (.one (.agg []))
 | 302 => (.one (.agg []))
 | 303 => (.one (.agg []))
 | 304 => kC
 | 305 => kC
 | 307 => (.one (.sc (.int .i32)))
 | 308 => (.one (.sc (.int .i32)))
 | 309 => (.one (.agg [(.int .u64), (.int .u64), (.int .u32), (.int .u8), (.int .u8), (.int .u8), (.int .u8), .raw, .ptr, (.int .i32), (.int .i32)]))
 | 310 => (.one (.agg [(.int .u64), (.int .u64), (.int .u32), (.int .u8), (.int .u8), (.int .u8), (.int .u8), .raw, .ptr, (.int .i32), (.int .i32)]))
 | _ => kR
theorem mixed : Tryz.prog.follows .mixedOrders = true := by kernel_rfl
end Go.Proofs.YtbjbeajbckcecaaGreatDoor

set_option maxRecDepth 100000
namespace Go.Proofs.YtbjbeajbckcecaaGreatDoor
open Go Go.HL
def an10 : Ann := (.q (.q (.q (.n (.q (.h)) (.seq (some [(1,.p),(2,.p),(3,.b)]) .r (.q (.seq (some [(1,.p),(2,.p),(3,.b)]) .r (.seq (some [(1,.p),(2,.p),(3,.b)]) .r (.q (.seq (some [(1,.p),(2,.p),(3,.b)]) .r (.seq (some [(1,.p),(2,.p),(3,.b)]) .r (.q (.n (.q (.blk (.loop [(1,.p),(2,.p),(3,.b),(8,.s),(9,.i)] (.n (.q (.cond .z .z)) (.seq (some [(1,.p),(2,.p),(3,.b),(8,.s),(9,.i),(270,.w),(271,.w),(272,.w),(273,.w)]) (.blk (.q .r)) .r))))) (.seq (some [(1,.p),(2,.p),(3,.b)]) .r (.q (.n (.q (.blk (.loop [(1,.p),(2,.p),(3,.b),(10,.s),(11,.i)] (.n (.q (.cond .z .z)) (.n (.blk (.q (.seq (some [(1,.p),(2,.p),(3,.b),(11,.i),(12,.s),(315,.w),(316,.w),(317,.w),(318,.w),(319,.w)]) .r .r))) .r))))) (.seq (some [(1,.p),(3,.b)]) .r (.q (.seq (some [(1,.p),(3,.b),(14,.b)]) .r (.q (.q (.q (.q (.q .z))))))))))))))))))))))))
def g10  (K : KH) : H -> Prop :=
 callT Tryz.prog 53 [] kP (fun x1 => brW x1.isNone (K (.bool false)) (letJ (T := Option Addr -> Option Addr -> Bool -> H -> Prop) (fun none_3 f_4 ok_5 => callT Tryz.prog 15 [.pointer f_4, .string (⟨⟨[47]⟩⟩ : ByteArray), .string (⟨⟨[97, 47, 104]⟩⟩ : ByteArray), .bool true] (.tup [.agg [(.int .i64), (.int .i64), .str, (.int .i64)], .sc (.int .i64)]) (fun (x6 : Int) (x7 : Int) (x8 : ByteArray) (x9 : Int) (_x10 : Int) =>
 alW (.cells ⟨[.int .i64 0, .int .i64 0, .string (⟨⟨[]⟩⟩ : ByteArray), .int .i64 0]⟩ 35 (0, 0)) (fun b11 => stW Tryz.prog 35 (.pointer (some ⟨b11, 0, none⟩)) (.agg ⟨[.int .i64 x6, .int .i64 x7, .string x8, .int .i64 x9]⟩) (letJ (T := Option Addr -> Option Addr -> Bool -> H -> Prop) (fun none_13 f_14 ok_15 => letJ (T := Option Addr -> Option Addr -> Bool -> H -> Prop) (fun none_17 f_18 ok_19 =>
 callT Tryz.prog 17 [.pointer f_18, .string (⟨⟨[47]⟩⟩ : ByteArray), .string (⟨⟨[47]⟩⟩ : ByteArray)] (.tup [.sc .slc, .sc (.int .i64)]) (fun (x20 : Sl) (x21 : Int) => letJ (T := Option Addr -> Option Addr -> Bool -> H -> Prop) (fun none_23 f_24 ok_25 => letJ (T := Option Addr -> Option Addr -> Bool -> H -> Prop) (fun none_27 f_28 ok_29 =>
 loopW [.sc .ptr, .sc .ptr, .sc .bool, .sc .str, .sc (.int .i64)] (fun (R30 : Option Addr -> Option Addr -> Bool -> ByteArray -> Int -> H -> Prop) => (fun (none_31 : Option Addr) (f_32 : Option Addr) (ok_33 : Bool) (path_34 : ByteArray) (i_35 : Int) => brW (decide ((i_35 : Int) < 10)) (letJ (T := Option Addr -> Option Addr -> Bool -> ByteArray -> Int -> Value -> Value -> Value -> Value -> H -> Prop) (fun none_37 f_38 ok_39 path_40 i_41 _x42 _x43 _x44 _x45 =>
 R30 none_37 f_38 ok_39 path_40 (IntKind.i64.wrap (i_41 + 1))) (fun j36 => ifW (path_34.size + (⟨⟨[47, 120]⟩⟩ : ByteArray).size <= 9223372036854775807) (brW ok_33 (callT Tryz.prog 48 [.pointer f_32, .string (⟨⟨[47]⟩⟩ : ByteArray), .string (path_34 ++ (⟨⟨[47, 120]⟩⟩ : ByteArray))] kI (fun (x46 : Int) => j36 none_31 f_32 ((x46 : Int) == 0) (path_34 ++ (⟨⟨[47, 120]⟩⟩ : ByteArray)) i_35 (.pointer f_32) (.string (path_34 ++ (⟨⟨[47, 120]⟩⟩ : ByteArray))) (.int .i64 x46) (.bool ((x46 : Int) == 0))))
 (j36 none_31 f_32 false (path_34 ++ (⟨⟨[47, 120]⟩⟩ : ByteArray)) i_35 (.tuple ⟨[]⟩) (.tuple ⟨[]⟩) (.tuple ⟨[]⟩) (.tuple ⟨[]⟩))))) (letJ (T := Option Addr -> Option Addr -> Bool -> H -> Prop) (fun none_48 f_49 ok_50 => loopW [.sc .ptr, .sc .ptr, .sc .bool, .sc .str, .sc (.int .i64)] (fun (R51 : Option Addr -> Option Addr -> Bool -> ByteArray -> Int -> H -> Prop) => (fun (none_52 : Option Addr) (f_53 : Option Addr) (ok_54 : Bool) (last_55 : ByteArray) (i_56 : Int) => brW (decide ((i_56 : Int) < 9))
 (alW (.cells ⟨[.int .u8 107, .int .u8 (IntKind.u8.wrap (IntKind.i64.wrap (48 + i_56)))]⟩ 5 (0, 0)) (fun b57 => vaW Tryz.prog (convert 56 9 (.slice (some ⟨b57, 0, none⟩) 2 2)) kS (fun (x58 : ByteArray) => letJ (T := Option Addr -> Option Addr -> Bool -> Int -> ByteArray -> Value -> Value -> Value -> Value -> Value -> H -> Prop) (fun none_60 f_61 ok_62 i_63 name_64 _x65 _x66 _x67 _x68 _x69 => R51 none_60 f_61 ok_62 name_64 (IntKind.i64.wrap (i_63 + 1))) (fun j59 => brW ok_54
 (callT Tryz.prog 41 [.pointer f_53, .string (⟨⟨[47]⟩⟩ : ByteArray), .string last_55, .string x58] kI (fun (x70 : Int) => j59 none_52 f_53 ((x70 : Int) == 0) i_56 x58 (.pointer f_53) (.string last_55) (.string x58) (.int .i64 x70) (.bool ((x70 : Int) == 0)))) (j59 none_52 f_53 false i_56 x58 (.tuple ⟨[]⟩) (.tuple ⟨[]⟩) (.tuple ⟨[]⟩) (.tuple ⟨[]⟩) (.tuple ⟨[]⟩)))))) (letJ (T := Option Addr -> Bool -> H -> Prop) (fun none_72 ok_73 =>
 callT Tryz.prog 31 [.agg ⟨[.int .i64 2, .int .i64 3]⟩] kP (fun x74 => letJ (T := Option Addr -> Bool -> Bool -> H -> Prop) (fun none_76 ok_77 full_78 => callT Tryz.prog 60 [.pointer none_76, .string (⟨⟨[47]⟩⟩ : ByteArray), .string (⟨⟨[97]⟩⟩ : ByteArray)] (.tup [.sc .str, .sc (.int .i64)]) (fun (_x79 : ByteArray) (x80 : Int) => callT Tryz.prog 17 [.pointer none_76, .string (⟨⟨[47]⟩⟩ : ByteArray), .string (⟨⟨[97]⟩⟩ : ByteArray)] (.tup [.sc .slc, .sc (.int .i64)]) (fun (_x81 : Sl) (x82 : Int) =>
 callT Tryz.prog 61 [.pointer none_76, .string (⟨⟨[47]⟩⟩ : ByteArray), .string (⟨⟨[97]⟩⟩ : ByteArray)] (.tup [.sc .str, .sc (.int .i64)]) (fun (_x83 : ByteArray) (x84 : Int) => callT Tryz.prog 15 [.pointer none_76, .string (⟨⟨[47]⟩⟩ : ByteArray), .string (⟨⟨[97]⟩⟩ : ByteArray), .bool true] (.tup [.agg [(.int .i64), (.int .i64), .str, (.int .i64)], .sc (.int .i64)]) (fun (x85 : Int) (x86 : Int) (x87 : ByteArray) (x88 : Int) (x89 : Int) =>
 alW (.cells ⟨[.int .i64 0, .int .i64 0, .string (⟨⟨[]⟩⟩ : ByteArray), .int .i64 0]⟩ 35 (0, 0)) (fun b90 => stW Tryz.prog 35 (.pointer (some ⟨b90, 0, none⟩)) (.agg ⟨[.int .i64 x85, .int .i64 x86, .string x87, .int .i64 x88]⟩) (callT Tryz.prog 62 [] kB (fun x91 => brW x91 (brW ok_77 (brW full_78 (brW ((x80 : Int) == 1) (brW ((x82 : Int) == 1) (brW ((x84 : Int) == 1) (brW ((x89 : Int) == 1)
 (callT Tryz.prog 47 [.pointer none_76, .string (⟨⟨[47]⟩⟩ : ByteArray), .string (⟨⟨[97]⟩⟩ : ByteArray), .string (⟨⟨[]⟩⟩ : ByteArray), .bool false] kI (fun (x92 : Int) => brW ((x92 : Int) == 1) (callT Tryz.prog 48 [.pointer none_76, .string (⟨⟨[47]⟩⟩ : ByteArray), .string (⟨⟨[97]⟩⟩ : ByteArray)] kI (fun (x93 : Int) => brW ((x93 : Int) == 1) (callT Tryz.prog 56 [.pointer none_76, .string (⟨⟨[47]⟩⟩ : ByteArray), .string (⟨⟨[97]⟩⟩ : ByteArray)] kI (fun (x94 : Int) => brW ((x94 : Int) == 1)
 (callT Tryz.prog 57 [.pointer none_76, .string (⟨⟨[47]⟩⟩ : ByteArray), .string (⟨⟨[97]⟩⟩ : ByteArray), .string (⟨⟨[98]⟩⟩ : ByteArray)] kI (fun (x95 : Int) => brW ((x95 : Int) == 1) (callT Tryz.prog 41 [.pointer none_76, .string (⟨⟨[47]⟩⟩ : ByteArray), .string (⟨⟨[97]⟩⟩ : ByteArray), .string (⟨⟨[98]⟩⟩ : ByteArray)] kI (fun (x96 : Int) => brW ((x96 : Int) == 1)
 (callT Tryz.prog 55 [.pointer none_76, .string (⟨⟨[47]⟩⟩ : ByteArray), .string (⟨⟨[97]⟩⟩ : ByteArray), .string (⟨⟨[98]⟩⟩ : ByteArray)] kI (fun (x97 : Int) => brW ((x97 : Int) == 1) (callT Tryz.prog 58 [.pointer none_76, .string (⟨⟨[47]⟩⟩ : ByteArray), .string (⟨⟨[97]⟩⟩ : ByteArray), .int .i64 0] kI (fun (x98 : Int) => brW ((x98 : Int) == 1)
 (callT Tryz.prog 59 [.pointer none_76, .string (⟨⟨[47, 97]⟩⟩ : ByteArray), .agg ⟨[.string (⟨⟨[]⟩⟩ : ByteArray), .int .i64 1, .bool false, .string (⟨⟨[]⟩⟩ : ByteArray), .slice none 0 0]⟩] kI (fun (x99 : Int) => brW ((x99 : Int) == 1) (callT Tryz.prog 39 [.pointer none_76] (.one (.agg [(.int .i64), (.int .i64)])) (fun (x100 : Int) (x101 : Int) => brW (((x100 : Int) == 0) && (((x101 : Int) == 0) && true)) (callT Tryz.prog 31 [.agg ⟨[.int .i64 0, .int .i64 0]⟩] kP (fun x102 => brW x102.isNone
 (callT Tryz.prog 31 [.agg ⟨[.int .i64 1048577, .int .i64 0]⟩] kP (fun x103 => brW x103.isNone (callT Tryz.prog 31 [.agg ⟨[.int .i64 1, .int .i64 (-1)]⟩] kP (fun x104 => brW x104.isNone (callT Tryz.prog 31 [.agg ⟨[.int .i64 1, .int .i64 1073741825]⟩] kP (fun x105 => K (.bool x105.isNone))) (K (.bool false)))) (K (.bool false)))) (K (.bool false)))) (K (.bool false)))) (K (.bool false)))) (K (.bool false)))) (K (.bool false)))) (K (.bool false)))) (K (.bool false)))) (K (.bool false))))
 (K (.bool false)))) (K (.bool false)))) (K (.bool false))) (K (.bool false))) (K (.bool false))) (K (.bool false))) (K (.bool false))) (K (.bool false))) (K (.bool false)))))))))) (fun j75 => brW (!x74.isNone) (callT Tryz.prog 47 [.pointer x74, .string (⟨⟨[47]⟩⟩ : ByteArray), .string (⟨⟨[97]⟩⟩ : ByteArray), .string (⟨⟨[97, 98, 99, 100]⟩⟩ : ByteArray), .bool false] kI (fun (x106 : Int) => brW ((x106 : Int) == 10)
 (callT Tryz.prog 47 [.pointer x74, .string (⟨⟨[47]⟩⟩ : ByteArray), .string (⟨⟨[97]⟩⟩ : ByteArray), .string (⟨⟨[97, 98, 99]⟩⟩ : ByteArray), .bool false] kI (fun (x107 : Int) => brW ((x107 : Int) == 0) (callT Tryz.prog 47 [.pointer x74, .string (⟨⟨[47]⟩⟩ : ByteArray), .string (⟨⟨[97]⟩⟩ : ByteArray), .string (⟨⟨[100]⟩⟩ : ByteArray), .bool true] kI (fun (x108 : Int) => brW ((x108 : Int) == 10)
 (callT Tryz.prog 48 [.pointer x74, .string (⟨⟨[47]⟩⟩ : ByteArray), .string (⟨⟨[98]⟩⟩ : ByteArray)] kI (fun (x109 : Int) => brW ((x109 : Int) == 10) (callT Tryz.prog 54 [.pointer x74, .string (⟨⟨[47]⟩⟩ : ByteArray), .string (⟨⟨[97]⟩⟩ : ByteArray), .string (⟨⟨[97, 98, 99]⟩⟩ : ByteArray), .int .i64 0] kB (fun x110 => brW x110 (callT Tryz.prog 47 [.pointer x74, .string (⟨⟨[47]⟩⟩ : ByteArray), .string (⟨⟨[97]⟩⟩ : ByteArray), .string (⟨⟨[]⟩⟩ : ByteArray), .bool false] kI (fun (x111 : Int) =>
 brW ((x111 : Int) == 0) (callT Tryz.prog 59 [.pointer x74, .string (⟨⟨[47, 98]⟩⟩ : ByteArray), .agg ⟨[.string (⟨⟨[]⟩⟩ : ByteArray), .int .i64 1, .bool false, .string (⟨⟨[]⟩⟩ : ByteArray), .slice none 0 0]⟩] kI (fun (x112 : Int) => brW ((x112 : Int) == 10) (callT Tryz.prog 59 [.pointer x74, .string (⟨⟨[47, 97]⟩⟩ : ByteArray), .agg ⟨[.string (⟨⟨[]⟩⟩ : ByteArray), .int .i64 1, .bool false, .string (⟨⟨[]⟩⟩ : ByteArray), .slice none 0 0]⟩] kI (fun (x113 : Int) => brW ((x113 : Int) == 6)
 (callT Tryz.prog 59 [.pointer x74, .string (⟨⟨[47]⟩⟩ : ByteArray), .agg ⟨[.string (⟨⟨[]⟩⟩ : ByteArray), .int .i64 1, .bool false, .string (⟨⟨[]⟩⟩ : ByteArray), .slice none 0 0]⟩] kI (fun (x114 : Int) => brW ((x114 : Int) == 6) (callT Tryz.prog 59 [.pointer x74, .string (⟨⟨[47, 99]⟩⟩ : ByteArray), .agg ⟨[.string (⟨⟨[]⟩⟩ : ByteArray), .int .i64 0, .bool false, .string (⟨⟨[]⟩⟩ : ByteArray), .slice none 0 0]⟩] kI (fun (x115 : Int) => j75 none_72 ok_73 ((x115 : Int) == 2)))
 (j75 none_72 ok_73 false))) (j75 none_72 ok_73 false))) (j75 none_72 ok_73 false))) (j75 none_72 ok_73 false))) (j75 none_72 ok_73 false))) (j75 none_72 ok_73 false))) (j75 none_72 ok_73 false))) (j75 none_72 ok_73 false))) (j75 none_72 ok_73 false))) (j75 none_72 ok_73 false)))) (fun j71 => brW ok_54 (callT Tryz.prog 54 [.pointer f_53, .string (⟨⟨[47]⟩⟩ : ByteArray), .string (⟨⟨[107, 55]⟩⟩ : ByteArray), .string (⟨⟨[104, 105]⟩⟩ : ByteArray), .int .i64 0] kB (fun x116 => brW x116
 (callT Tryz.prog 54 [.pointer f_53, .string (⟨⟨[47]⟩⟩ : ByteArray), .string (⟨⟨[107, 56]⟩⟩ : ByteArray), .string (⟨⟨[]⟩⟩ : ByteArray), .int .i64 9] kB (fun x117 => j71 none_52 x117)) (j71 none_52 false))) (j71 none_52 false))))) (fun (R118 : Option Addr -> Option Addr -> Bool -> ByteArray -> Int -> H -> Prop) => R118 none_48 f_49 ok_50 (⟨⟨[100, 47, 102]⟩⟩ : ByteArray) 0)) (fun j47 => brW ok_33 (ifW (path_34.size + (⟨⟨[47, 120]⟩⟩ : ByteArray).size <= 9223372036854775807)
 (callT Tryz.prog 48 [.pointer f_32, .string (⟨⟨[47]⟩⟩ : ByteArray), .string (path_34 ++ (⟨⟨[47, 120]⟩⟩ : ByteArray))] kI (fun (x119 : Int) => brW ((x119 : Int) == 3) (callT Tryz.prog 57 [.pointer f_32, .string (⟨⟨[47]⟩⟩ : ByteArray), .string (⟨⟨[103]⟩⟩ : ByteArray), .string (⟨⟨[100, 47, 103]⟩⟩ : ByteArray)] kI (fun (x120 : Int) => brW ((x120 : Int) == 3) (ifW (path_34.size + (⟨⟨[47, 121]⟩⟩ : ByteArray).size <= 9223372036854775807)
 (callT Tryz.prog 59 [.pointer f_32, .string (path_34 ++ (⟨⟨[47, 121]⟩⟩ : ByteArray)), .agg ⟨[.string (⟨⟨[]⟩⟩ : ByteArray), .int .i64 2, .bool false, .string (⟨⟨[]⟩⟩ : ByteArray), .slice none 0 0]⟩] kI (fun (x121 : Int) => brW ((x121 : Int) == 3) (ifW (path_34.size + (⟨⟨[47, 121]⟩⟩ : ByteArray).size <= 9223372036854775807)
 (callT Tryz.prog 59 [.pointer f_32, .string (path_34 ++ (⟨⟨[47, 121]⟩⟩ : ByteArray)), .agg ⟨[.string (⟨⟨[]⟩⟩ : ByteArray), .int .i64 1, .bool false, .string (⟨⟨[116]⟩⟩ : ByteArray), .slice none 0 0]⟩] kI (fun (x122 : Int) => j47 none_31 f_32 ((x122 : Int) == 0)))) (j47 none_31 f_32 false)))) (j47 none_31 f_32 false))) (j47 none_31 f_32 false))))
 (j47 none_31 f_32 false))))) (fun (R123 : Option Addr -> Option Addr -> Bool -> ByteArray -> Int -> H -> Prop) => R123 none_27 f_28 ok_29 (⟨⟨[47, 103]⟩⟩ : ByteArray) 0)) (fun j26 => brW ok_25 (callT Tryz.prog 48 [.pointer f_24, .string (⟨⟨[47]⟩⟩ : ByteArray), .string (⟨⟨[100]⟩⟩ : ByteArray)] kI (fun (x124 : Int) => brW ((x124 : Int) == 6) (callT Tryz.prog 48 [.pointer f_24, .string (⟨⟨[47]⟩⟩ : ByteArray), .string (⟨⟨[113, 47, 114]⟩⟩ : ByteArray)] kI (fun (x125 : Int) => brW ((x125 : Int) == 5)
 (callT Tryz.prog 48 [.pointer f_24, .string (⟨⟨[47]⟩⟩ : ByteArray), .string (⟨⟨[]⟩⟩ : ByteArray)] kI (fun (x126 : Int) => brW ((x126 : Int) == 5) (callT Tryz.prog 48 [.pointer f_24, .string (⟨⟨[120]⟩⟩ : ByteArray), .string (⟨⟨[121]⟩⟩ : ByteArray)] kI (fun (x127 : Int) => brW ((x127 : Int) == 5) (callT Tryz.prog 52 [.string (⟨⟨[110]⟩⟩ : ByteArray), .int .i64 57] kS (fun (x128 : ByteArray) => callT Tryz.prog 48 [.pointer f_24, .string (⟨⟨[47]⟩⟩ : ByteArray), .string x128] kI (fun (x129 : Int) =>
 brW ((x129 : Int) == 3) (callT Tryz.prog 52 [.string (⟨⟨[47, 97]⟩⟩ : ByteArray), .int .i64 128] kS (fun (x130 : ByteArray) => callT Tryz.prog 48 [.pointer f_24, .string (⟨⟨[47]⟩⟩ : ByteArray), .string x130] kI (fun (x131 : Int) => brW ((x131 : Int) == 3) (callT Tryz.prog 48 [.pointer f_24, .string (⟨⟨[47]⟩⟩ : ByteArray), .string (⟨⟨[97, 0]⟩⟩ : ByteArray)] kI (fun (x132 : Int) => brW ((x132 : Int) == 2)
 (callT Tryz.prog 56 [.pointer f_24, .string (⟨⟨[47]⟩⟩ : ByteArray), .string (⟨⟨[46]⟩⟩ : ByteArray)] kI (fun (x133 : Int) => brW ((x133 : Int) == 2) (callT Tryz.prog 56 [.pointer f_24, .string (⟨⟨[47]⟩⟩ : ByteArray), .string (⟨⟨[100, 47, 46, 46]⟩⟩ : ByteArray)] kI (fun (x134 : Int) => brW ((x134 : Int) == 2) (callT Tryz.prog 56 [.pointer f_24, .string (⟨⟨[47]⟩⟩ : ByteArray), .string (⟨⟨[122, 122]⟩⟩ : ByteArray)] kI (fun (x135 : Int) => brW ((x135 : Int) == 5)
 (callT Tryz.prog 41 [.pointer f_24, .string (⟨⟨[47]⟩⟩ : ByteArray), .string (⟨⟨[]⟩⟩ : ByteArray), .string (⟨⟨[115]⟩⟩ : ByteArray)] kI (fun (x136 : Int) => brW ((x136 : Int) == 2) (callT Tryz.prog 55 [.pointer f_24, .string (⟨⟨[47]⟩⟩ : ByteArray), .string (⟨⟨[100]⟩⟩ : ByteArray), .string (⟨⟨[115]⟩⟩ : ByteArray)] kI (fun (x137 : Int) => brW ((x137 : Int) == 7)
 (callT Tryz.prog 55 [.pointer f_24, .string (⟨⟨[47]⟩⟩ : ByteArray), .string (⟨⟨[108]⟩⟩ : ByteArray), .string (⟨⟨[115]⟩⟩ : ByteArray)] kI (fun (x138 : Int) => brW ((x138 : Int) == 2) (callT Tryz.prog 58 [.pointer f_24, .string (⟨⟨[47]⟩⟩ : ByteArray), .string (⟨⟨[100, 47, 102]⟩⟩ : ByteArray), .int .i64 512] kI (fun (x139 : Int) => brW ((x139 : Int) == 2)
 (callT Tryz.prog 58 [.pointer f_24, .string (⟨⟨[47]⟩⟩ : ByteArray), .string (⟨⟨[100, 47, 102]⟩⟩ : ByteArray), .int .i64 0] kI (fun (x140 : Int) => brW ((x140 : Int) == 0) (callT Tryz.prog 58 [.pointer f_24, .string (⟨⟨[47]⟩⟩ : ByteArray), .string (⟨⟨[122, 122]⟩⟩ : ByteArray), .int .i64 0] kI (fun (x141 : Int) => j26 none_23 f_24 ((x141 : Int) == 5))) (j26 none_23 f_24 false))) (j26 none_23 f_24 false))) (j26 none_23 f_24 false))) (j26 none_23 f_24 false))) (j26 none_23 f_24 false)))
 (j26 none_23 f_24 false))) (j26 none_23 f_24 false))) (j26 none_23 f_24 false))) (j26 none_23 f_24 false))) (j26 none_23 f_24 false)))) (j26 none_23 f_24 false)))) (j26 none_23 f_24 false))) (j26 none_23 f_24 false))) (j26 none_23 f_24 false))) (j26 none_23 f_24 false))) (j26 none_23 f_24 false))) (fun j22 => brW ok_19 (brW ((x21 : Int) == 0)
 (alW (.cells ⟨[.string (⟨⟨[100]⟩⟩ : ByteArray), .string (⟨⟨[103]⟩⟩ : ByteArray), .string (⟨⟨[108]⟩⟩ : ByteArray), .string (⟨⟨[109]⟩⟩ : ByteArray), .string (⟨⟨[110]⟩⟩ : ByteArray)]⟩ 9 (0, 0)) (fun b142 => callT Tryz.prog 18 [.slice x20.base x20.len x20.cap, .slice (some ⟨b142, 0, none⟩) 5 5] kB (fun x143 => j22 none_17 f_18 x143))) (j22 none_17 f_18 false)) (j22 none_17 f_18 false)))) (fun j16 => brW ok_15
 (callT Tryz.prog 48 [.pointer f_14, .string (⟨⟨[47]⟩⟩ : ByteArray), .string (⟨⟨[100]⟩⟩ : ByteArray)] kI (fun (x144 : Int) => brW ((x144 : Int) == 0) (callT Tryz.prog 48 [.pointer f_14, .string (⟨⟨[47]⟩⟩ : ByteArray), .string (⟨⟨[100, 47, 101]⟩⟩ : ByteArray)] kI (fun (x145 : Int) => brW ((x145 : Int) == 0) (callT Tryz.prog 57 [.pointer f_14, .string (⟨⟨[47]⟩⟩ : ByteArray), .string (⟨⟨[100]⟩⟩ : ByteArray), .string (⟨⟨[100, 47, 101, 47, 120]⟩⟩ : ByteArray)] kI (fun (x146 : Int) =>
 brW ((x146 : Int) == 2) (callT Tryz.prog 57 [.pointer f_14, .string (⟨⟨[47]⟩⟩ : ByteArray), .string (⟨⟨[97, 47, 102]⟩⟩ : ByteArray), .string (⟨⟨[100]⟩⟩ : ByteArray)] kI (fun (x147 : Int) => brW ((x147 : Int) == 7) (callT Tryz.prog 57 [.pointer f_14, .string (⟨⟨[47]⟩⟩ : ByteArray), .string (⟨⟨[100]⟩⟩ : ByteArray), .string (⟨⟨[97, 47, 102]⟩⟩ : ByteArray)] kI (fun (x148 : Int) => brW ((x148 : Int) == 8)
 (callT Tryz.prog 57 [.pointer f_14, .string (⟨⟨[47]⟩⟩ : ByteArray), .string (⟨⟨[100]⟩⟩ : ByteArray), .string (⟨⟨[97]⟩⟩ : ByteArray)] kI (fun (x149 : Int) => brW ((x149 : Int) == 20) (callT Tryz.prog 57 [.pointer f_14, .string (⟨⟨[47]⟩⟩ : ByteArray), .string (⟨⟨[100, 47, 101]⟩⟩ : ByteArray), .string (⟨⟨[103]⟩⟩ : ByteArray)] kI (fun (x150 : Int) => brW ((x150 : Int) == 0)
 (callT Tryz.prog 57 [.pointer f_14, .string (⟨⟨[47]⟩⟩ : ByteArray), .string (⟨⟨[97]⟩⟩ : ByteArray), .string (⟨⟨[100]⟩⟩ : ByteArray)] kI (fun (x151 : Int) => brW ((x151 : Int) == 0) (callT Tryz.prog 54 [.pointer f_14, .string (⟨⟨[47]⟩⟩ : ByteArray), .string (⟨⟨[100, 47, 102]⟩⟩ : ByteArray), .string (⟨⟨[104, 105]⟩⟩ : ByteArray), .int .i64 0] kB (fun x152 => brW x152
 (callT Tryz.prog 54 [.pointer f_14, .string (⟨⟨[47]⟩⟩ : ByteArray), .string (⟨⟨[108]⟩⟩ : ByteArray), .string (⟨⟨[]⟩⟩ : ByteArray), .int .i64 5] kB (fun x153 => brW x153 (callT Tryz.prog 57 [.pointer f_14, .string (⟨⟨[47]⟩⟩ : ByteArray), .string (⟨⟨[122, 122]⟩⟩ : ByteArray), .string (⟨⟨[121]⟩⟩ : ByteArray)] kI (fun (x154 : Int) => brW ((x154 : Int) == 5)
 (callT Tryz.prog 57 [.pointer f_14, .string (⟨⟨[47]⟩⟩ : ByteArray), .string (⟨⟨[100]⟩⟩ : ByteArray), .string (⟨⟨[100]⟩⟩ : ByteArray)] kI (fun (x155 : Int) => brW ((x155 : Int) == 0) (callT Tryz.prog 57 [.pointer f_14, .string (⟨⟨[47]⟩⟩ : ByteArray), .string (⟨⟨[47]⟩⟩ : ByteArray), .string (⟨⟨[121]⟩⟩ : ByteArray)] kI (fun (x156 : Int) => brW ((x156 : Int) == 2)
 (callT Tryz.prog 57 [.pointer f_14, .string (⟨⟨[47]⟩⟩ : ByteArray), .string (⟨⟨[100]⟩⟩ : ByteArray), .string (⟨⟨[46, 46]⟩⟩ : ByteArray)] kI (fun (x157 : Int) => j16 none_13 f_14 ((x157 : Int) == 2))) (j16 none_13 f_14 false))) (j16 none_13 f_14 false))) (j16 none_13 f_14 false))) (j16 none_13 f_14 false))) (j16 none_13 f_14 false))) (j16 none_13 f_14 false))) (j16 none_13 f_14 false))) (j16 none_13 f_14 false))) (j16 none_13 f_14 false))) (j16 none_13 f_14 false))) (j16 none_13 f_14 false)))
 (j16 none_13 f_14 false))) (j16 none_13 f_14 false))) (j16 none_13 f_14 false))) (fun j12 => brW ok_5 (rdT (rdC b11 3) kI (fun (x158 : Int) => brW ((x158 : Int) == 2) (callT Tryz.prog 39 [.pointer f_4] (.one (.agg [(.int .i64), (.int .i64)])) (fun (x159 : Int) (x160 : Int) => brW (((x159 : Int) == 7) && (((x160 : Int) == 11) && true)) (callT Tryz.prog 56 [.pointer f_4, .string (⟨⟨[47]⟩⟩ : ByteArray), .string (⟨⟨[110, 101, 119]⟩⟩ : ByteArray)] kI (fun (x161 : Int) => brW ((x161 : Int) == 0)
 (callT Tryz.prog 54 [.pointer f_4, .string (⟨⟨[47]⟩⟩ : ByteArray), .string (⟨⟨[97, 47, 104]⟩⟩ : ByteArray), .string (⟨⟨[121, 122]⟩⟩ : ByteArray), .int .i64 0] kB (fun x162 => brW x162 (callT Tryz.prog 39 [.pointer f_4] (.one (.agg [(.int .i64), (.int .i64)])) (fun (x163 : Int) (_x164 : Int) => brW ((x163 : Int) == 7) (callT Tryz.prog 56 [.pointer f_4, .string (⟨⟨[47]⟩⟩ : ByteArray), .string (⟨⟨[97, 47, 104]⟩⟩ : ByteArray)] kI (fun (x165 : Int) => brW ((x165 : Int) == 0)
 (callT Tryz.prog 39 [.pointer f_4] (.one (.agg [(.int .i64), (.int .i64)])) (fun (x166 : Int) (_x167 : Int) => j12 none_3 f_4 ((x166 : Int) == 6))) (j12 none_3 f_4 false))) (j12 none_3 f_4 false))) (j12 none_3 f_4 false))) (j12 none_3 f_4 false))) (j12 none_3 f_4 false))) (j12 none_3 f_4 false))) (j12 none_3 f_4 false)))))) (fun j2 =>
 callT Tryz.prog 41 [.pointer x1, .string (⟨⟨[47]⟩⟩ : ByteArray), .string (⟨⟨[110, 101, 119]⟩⟩ : ByteArray), .string (⟨⟨[110]⟩⟩ : ByteArray)] kI (fun (x168 : Int) => brW ((x168 : Int) == 0) (callT Tryz.prog 47 [.pointer x1, .string (⟨⟨[47]⟩⟩ : ByteArray), .string (⟨⟨[110]⟩⟩ : ByteArray), .string (⟨⟨[120]⟩⟩ : ByteArray), .bool false] kI (fun (x169 : Int) => brW ((x169 : Int) == 0)
 (callT Tryz.prog 54 [.pointer x1, .string (⟨⟨[47]⟩⟩ : ByteArray), .string (⟨⟨[110, 101, 119]⟩⟩ : ByteArray), .string (⟨⟨[120]⟩⟩ : ByteArray), .int .i64 0] kB (fun x170 => brW x170 (callT Tryz.prog 55 [.pointer x1, .string (⟨⟨[47]⟩⟩ : ByteArray), .string (⟨⟨[110, 101, 119]⟩⟩ : ByteArray), .string (⟨⟨[97, 47, 104]⟩⟩ : ByteArray)] kI (fun (x171 : Int) => brW ((x171 : Int) == 0)
 (callT Tryz.prog 47 [.pointer x1, .string (⟨⟨[47]⟩⟩ : ByteArray), .string (⟨⟨[97, 47, 104]⟩⟩ : ByteArray), .string (⟨⟨[121, 122]⟩⟩ : ByteArray), .bool false] kI (fun (x172 : Int) => brW ((x172 : Int) == 0) (callT Tryz.prog 54 [.pointer x1, .string (⟨⟨[47]⟩⟩ : ByteArray), .string (⟨⟨[110]⟩⟩ : ByteArray), .string (⟨⟨[121, 122]⟩⟩ : ByteArray), .int .i64 0] kB (fun x173 => j2 none x1 x173)) (j2 none x1 false))) (j2 none x1 false))) (j2 none x1 false))) (j2 none x1 false))) (j2 none x1 false)))))
theorem e10  (K : KH) : bodyF Tryz.prog tau Tryz.f10 an10 [] K = g10  K := by kernel_rfl
theorem c10  {K : KH} {σ : H} (h : g10  K σ) : callW Tryz.prog 10 [] K σ := call_of_body mixed Tryz.func10 (by rw [e10]; exact h)


def an15 : Ann := (.q (.q (.q .z)))
def g15 (f_1 : Option Addr) (cwd_2 : ByteArray) (path_3 : ByteArray) (follow_4 : Bool) (K : KH) : H -> Prop :=
 alW (.cells ⟨[.int .i64 0, .int .i64 0, .string (⟨⟨[]⟩⟩ : ByteArray), .int .i64 0]⟩ 35 (0, 0)) (fun b5 => callT Tryz.prog 69 [.pointer f_1, .string cwd_2, .string path_3, .bool follow_4, .func (.func 70) ⟨[]⟩ ⟨[.pointer (some ⟨b5, 0, none⟩)]⟩] kI (fun (x6 : Int) => rdT (rdA 4 b5 0) (.one (.agg [(.int .i64), (.int .i64), .str, (.int .i64)])) (fun (x7 : Int) (x8 : Int) (x9 : ByteArray) (x10 : Int) =>
 stW Tryz.prog 35 (.pointer (some ⟨b5, 0, none⟩)) (.agg ⟨[.int .i64 x7, .int .i64 x8, .string x9, .int .i64 x10]⟩) (rdT (rdA 4 b5 0) (.one (.agg [(.int .i64), (.int .i64), .str, (.int .i64)])) (fun (r11 : Int) (r12 : Int) (r13 : ByteArray) (r14 : Int) => K (.tuple ⟨[.agg ⟨[.int .i64 r11, .int .i64 r12, .string r13, .int .i64 r14]⟩, .int .i64 x6]⟩))))))
theorem e15 (f_1 : Option Addr) (cwd_2 : ByteArray) (path_3 : ByteArray) (follow_4 : Bool) (K : KH) : bodyF Tryz.prog tau Tryz.f15 an15 [.pointer f_1, .string cwd_2, .string path_3, .bool follow_4] K = g15 f_1 cwd_2 path_3 follow_4 K := by kernel_rfl
theorem c15 (f_1 : Option Addr) (cwd_2 : ByteArray) (path_3 : ByteArray) (follow_4 : Bool) {K : KH} {σ : H} (h : g15 f_1 cwd_2 path_3 follow_4 K σ) : callW Tryz.prog 15 [.pointer f_1, .string cwd_2, .string path_3, .bool follow_4] K σ := call_of_body mixed Tryz.func15 (by rw [e15]; exact h)


def an17 : Ann := (.q (.q (.q .z)))
def g17 (f_1 : Option Addr) (cwd_2 : ByteArray) (path_3 : ByteArray) (K : KH) : H -> Prop :=
 alW (.cells ⟨[.pointer f_1]⟩ 24 (0, 0)) (fun b4 => alW (.cells ⟨[.slice none 0 0]⟩ 22 (0, 0)) (fun b5 => rdT (rdC b4 0) kP (fun x6 => callT Tryz.prog 69 [.pointer x6, .string cwd_2, .string path_3, .bool true, .func (.func 72) ⟨[]⟩ ⟨[.pointer (some ⟨b4, 0, none⟩), .pointer (some ⟨b5, 0, none⟩)]⟩] kI (fun (x7 : Int) => rdT (rdC b5 0) kL (fun x8 => stW Tryz.prog 22 (.pointer (some ⟨b5, 0, none⟩)) (.slice x8.base x8.len x8.cap) (rdT (rdC b5 0) kL (fun r9 =>
 K (.tuple ⟨[.slice r9.base r9.len r9.cap, .int .i64 x7]⟩))))))))
theorem e17 (f_1 : Option Addr) (cwd_2 : ByteArray) (path_3 : ByteArray) (K : KH) : bodyF Tryz.prog tau Tryz.f17 an17 [.pointer f_1, .string cwd_2, .string path_3] K = g17 f_1 cwd_2 path_3 K := by kernel_rfl
theorem c17 (f_1 : Option Addr) (cwd_2 : ByteArray) (path_3 : ByteArray) {K : KH} {σ : H} (h : g17 f_1 cwd_2 path_3 K σ) : callW Tryz.prog 17 [.pointer f_1, .string cwd_2, .string path_3] K σ := call_of_body mixed Tryz.func17 (by rw [e17]; exact h)


def an18 : Ann := (.q (.n (.q (.h)) (.n (.q (.blk (.loop [(0,.l),(1,.l),(5,.i)] (.n (.q (.cond .z .z)) (.n (.blk (.n (.reg (rn 9) [[],[],[0,1],[0,1,2],[],[],[4,5],[4,5,6],(rn 8)]) (.h))) .r))))) (.q .z))))
def g18 (a_1 : Sl) (b_2 : Sl) (K : KH) : H -> Prop :=
 brW ((((a_1.len : Nat) : Int) : Int) != ((b_2.len : Nat) : Int)) (K (.bool false)) (loopW [.sc .slc, .sc .slc, .sc (.int .i64)] (fun (R3 : Sl -> Sl -> Int -> H -> Prop) => (fun (a_4 : Sl) (b_5 : Sl) (i_6 : Int) => brW (decide ((i_6 : Int) < ((a_4.len : Nat) : Int))) (ptrW a_4.base (fun b7 o8 => ifW (0 <= i_6 /\ i_6 < ((a_4.len : Nat) : Int)) (rdT (rdC b7 (o8 + i_6.toNat * 1)) kS (fun (x9 : ByteArray) => ptrW b_5.base (fun b10 o11 => ifW (0 <= i_6 /\ i_6 < ((b_5.len : Nat) : Int))
 (rdT (rdC b10 (o11 + i_6.toNat * 1)) kS (fun (x12 : ByteArray) => brW (!strEq x9 x12) (K (.bool false)) (R3 a_4 b_5 (IntKind.i64.wrap (i_6 + 1)))))))))) (K (.bool true)))) (fun (R13 : Sl -> Sl -> Int -> H -> Prop) => R13 a_1 b_2 0))
theorem e18 (a_1 : Sl) (b_2 : Sl) (K : KH) : bodyF Tryz.prog tau Tryz.f18 an18 [.slice a_1.base a_1.len a_1.cap, .slice b_2.base b_2.len b_2.cap] K = g18 a_1 b_2 K := by kernel_rfl
theorem c18 (a_1 : Sl) (b_2 : Sl) {K : KH} {σ : H} (h : g18 a_1 b_2 K σ) : callW Tryz.prog 18 [.slice a_1.base a_1.len a_1.cap, .slice b_2.base b_2.len b_2.cap] K σ := call_of_body mixed Tryz.func18 (by rw [e18]; exact h)


def an26 : Ann := (.q (.q .z))
def g26 (s_1 : ByteArray) (c_2 : Int) (K : KH) : H -> Prop :=
 callT Tryz.prog 79 [.string s_1, .int .u8 c_2] kI (fun (x3 : Int) => K (.int .i64 x3))
theorem e26 (s_1 : ByteArray) (c_2 : Int) (K : KH) : bodyF Tryz.prog tau Tryz.f26 an26 [.string s_1, .int .u8 c_2] K = g26 s_1 c_2 K := by kernel_rfl
theorem c26 (s_1 : ByteArray) (c_2 : Int) {K : KH} {σ : H} (h : g26 s_1 c_2 K σ) : callW Tryz.prog 26 [.string s_1, .int .u8 c_2] K σ := call_of_body mixed Tryz.func26 (by rw [e26]; exact h)


def an31 : Ann := (.q (.q (.n (.q (.h)) (.q .z))))
def g31 (q_1 : Int) (q_2 : Int) (K : KH) : H -> Prop :=
 alW (.cells ⟨[.int .i64 q_1, .int .i64 q_2]⟩ 64 (0, 0)) (fun b3 => rdT (rdA 2 b3 0) (.one (.agg [(.int .i64), (.int .i64)])) (fun (x4 : Int) (x5 : Int) => callT Tryz.prog 82 [.agg ⟨[.int .i64 x4, .int .i64 x5]⟩] kP (fun x6 => brW x6.isNone (K (.pointer none)) (alW (.cells ⟨[.pointer x6]⟩ 110 (0, 0)) (fun b7 => K (.pointer (some ⟨b7, 0, none⟩)))))))
theorem e31 (q_1 : Int) (q_2 : Int) (K : KH) : bodyF Tryz.prog tau Tryz.f31 an31 [.agg ⟨[.int .i64 q_1, .int .i64 q_2]⟩] K = g31 q_1 q_2 K := by kernel_rfl
theorem c31 (q_1 : Int) (q_2 : Int) {K : KH} {σ : H} (h : g31 q_1 q_2 K σ) : callW Tryz.prog 31 [.agg ⟨[.int .i64 q_1, .int .i64 q_2]⟩] K σ := call_of_body mixed Tryz.func31 (by rw [e31]; exact h)


def an39 : Ann := (.q (.n (.q (.h)) (.q .z)))
def g39 (f_1 : Option Addr) (K : KH) : H -> Prop :=
 alW (.cells ⟨[.int .i64 0, .int .i64 0]⟩ 64 (0, 0)) (fun b2 => callT Tryz.prog 92 [.pointer f_1] kB (fun x3 => brW x3 (stW Tryz.prog 64 (.pointer (some ⟨b2, 0, none⟩)) (.agg ⟨[.int .i64 0, .int .i64 0]⟩) (rdT (rdA 2 b2 0) (.one (.agg [(.int .i64), (.int .i64)])) (fun (r4 : Int) (r5 : Int) => K (.agg ⟨[.int .i64 r4, .int .i64 r5]⟩)))) (ptrW f_1 (fun b6 o7 => rdT (rdC b6 o7) kP (fun x8 => callT Tryz.prog 93 [.pointer x8] (.one (.agg [(.int .i64), (.int .i64)])) (fun (x9 : Int) (x10 : Int) =>
 stW Tryz.prog 64 (.pointer (some ⟨b2, 0, none⟩)) (.agg ⟨[.int .i64 x9, .int .i64 x10]⟩) (rdT (rdA 2 b2 0) (.one (.agg [(.int .i64), (.int .i64)])) (fun (r11 : Int) (r12 : Int) => K (.agg ⟨[.int .i64 r11, .int .i64 r12]⟩)))))))))
theorem e39 (f_1 : Option Addr) (K : KH) : bodyF Tryz.prog tau Tryz.f39 an39 [.pointer f_1] K = g39 f_1 K := by kernel_rfl
theorem c39 (f_1 : Option Addr) {K : KH} {σ : H} (h : g39 f_1 K σ) : callW Tryz.prog 39 [.pointer f_1] K σ := call_of_body mixed Tryz.func39 (by rw [e39]; exact h)


def an41 : Ann := (.q (.n (.q (.h)) (.n (.seq (some [(1,.s),(3,.s),(4,.p),(6,.p),(22,.b)]) .r (.h)) (.q .z))))
def g41 (f_1 : Option Addr) (cwd_2 : ByteArray) (target_3 : ByteArray) (path_4 : ByteArray) (K : KH) : H -> Prop :=
 alW (.cells ⟨[.pointer f_1]⟩ 24 (0, 0)) (fun b5 => alW (.cells ⟨[.string target_3]⟩ 9 (0, 0)) (fun b6 => rdT (rdC b5 0) kP (fun x7 => callT Tryz.prog 92 [.pointer x7] kB (fun x8 => brW x8 (K (.int .i64 1)) (letJ (T := ByteArray -> ByteArray -> Option Addr -> Option Addr -> Bool -> H -> Prop) (fun cwd_10 path_11 f_12 target_13 x14 => brW x14 (K (.int .i64 2)) (ptrW f_12 (fun b15 o16 => rdT (rdC b15 o16) kP (fun x17 =>
 callT Tryz.prog 94 [.pointer x17, .string cwd_10, .string path_11, .func (.func 95) ⟨[]⟩ ⟨[.pointer f_12, .pointer target_13]⟩] kI (fun (x18 : Int) => K (.int .i64 x18)))))) (fun j9 => rdT (rdC b6 0) kS (fun (x19 : ByteArray) => brW (strEq x19 (⟨⟨[]⟩⟩ : ByteArray)) (j9 cwd_2 path_4 (some ⟨b5, 0, none⟩) (some ⟨b6, 0, none⟩) true) (rdT (rdC b6 0) kS (fun (x20 : ByteArray) => brW (decide ((((x20.size : Nat) : Int) : Int) > 255)) (j9 cwd_2 path_4 (some ⟨b5, 0, none⟩) (some ⟨b6, 0, none⟩) true)
 (rdT (rdC b6 0) kS (fun (x21 : ByteArray) => callT Tryz.prog 26 [.string x21, .int .u8 0] kI (fun (x22 : Int) => j9 cwd_2 path_4 (some ⟨b5, 0, none⟩) (some ⟨b6, 0, none⟩) (decide ((x22 : Int) >= 0))))))))))))))
theorem e41 (f_1 : Option Addr) (cwd_2 : ByteArray) (target_3 : ByteArray) (path_4 : ByteArray) (K : KH) : bodyF Tryz.prog tau Tryz.f41 an41 [.pointer f_1, .string cwd_2, .string target_3, .string path_4] K = g41 f_1 cwd_2 target_3 path_4 K := by kernel_rfl
theorem c41 (f_1 : Option Addr) (cwd_2 : ByteArray) (target_3 : ByteArray) (path_4 : ByteArray) {K : KH} {σ : H} (h : g41 f_1 cwd_2 target_3 path_4 K σ) : callW Tryz.prog 41 [.pointer f_1, .string cwd_2, .string target_3, .string path_4] K σ := call_of_body mixed Tryz.func41 (by rw [e41]; exact h)


def an47 : Ann := (.q (.q (.n (.q (.h)) (.n (.q (.cond (.n (.reg (rn 15) [[],[0],[0,1],[0,1,2],[],[4],[],[6],[],(rn 9),(rn 10),(rn 11),(rn 11),(rn 12),(rn 14)]) (.q .z)) .z)) (.n (.reg (rn 13) [[],[0],[0,1],[0,1,2],[],[4],(rn 6),(rn 7),(rn 8),(rn 8),[],[0,1,2,3,4,5,6,7,8,10],(rn 12)]) (.n (.q (.h)) (.seq (some [(0,.p),(3,.s),(11,.p)]) (.q (.cond .r .z)) (.n (.reg (rn 9) [[],[0],[0,1],[0,1,2],[],[4],[],(rn 7),(rn 8)]) .z))))))))
def g47 (f_1 : Option Addr) (cwd_2 : ByteArray) (path_3 : ByteArray) (data_4 : ByteArray) (more_5 : Bool) (K : KH) : H -> Prop :=
 callT Tryz.prog 98 [.pointer f_1, .string cwd_2, .string path_3, .bool true] (.tup [.agg [(.int .i64), .str, (.int .i64), .bool], .sc (.int .i64)]) (fun (x6 : Int) (x7 : ByteArray) (x8 : Int) (x9 : Bool) (x10 : Int) => alW (.cells ⟨[.int .i64 0, .string (⟨⟨[]⟩⟩ : ByteArray), .int .i64 0, .bool false]⟩ 142 (0, 0)) (fun b11 => stW Tryz.prog 142 (.pointer (some ⟨b11, 0, none⟩)) (.agg ⟨[.int .i64 x6, .string x7, .int .i64 x8, .bool x9]⟩) (brW ((x10 : Int) != 0) (K (.int .i64 x10))
 (rdT (rdC b11 3) kB (fun x12 => brW (!x12) (ptrW f_1 (fun b13 o14 => rdT (rdC b13 o14) kP (fun x15 => rdT (rdC b11 0) kI (fun (x16 : Int) => rdT (rdC b11 1) kS (fun (x17 : ByteArray) => callT Tryz.prog 96 [.pointer x15, .int .i64 x16, .string x17, .int .i64 1, .int .i64 420, .string data_4] (.tup [.sc (.int .i64), .sc (.int .i64)]) (fun (_x18 : Int) (x19 : Int) => K (.int .i64 x19))))))) (ptrW f_1 (fun b20 o21 => rdT (rdC b20 o21) kP (fun x22 => rdT (rdC b11 2) kI (fun (x23 : Int) =>
 callT Tryz.prog 99 [.pointer x22, .int .i64 x23] (.tup [.agg [(.int .i64), (.int .i64), .str, (.int .i64)], .sc .bool]) (fun (x24 : Int) (x25 : Int) (x26 : ByteArray) (x27 : Int) (_x28 : Bool) => alW (.cells ⟨[.int .i64 0, .int .i64 0, .string (⟨⟨[]⟩⟩ : ByteArray), .int .i64 0]⟩ 35 (0, 0)) (fun b29 => stW Tryz.prog 35 (.pointer (some ⟨b29, 0, none⟩)) (.agg ⟨[.int .i64 x24, .int .i64 x25, .string x26, .int .i64 x27]⟩) (rdT (rdC b29 0) kI (fun (x30 : Int) => brW ((x30 : Int) == 2)
 (K (.int .i64 7)) (letJ (T := Option Addr -> ByteArray -> Option Addr -> H -> Prop) (fun f_32 data_33 p_34 => ptrW f_32 (fun b35 o36 => rdT (rdC b35 o36) kP (fun x37 => ptrW p_34 (fun b38 o39 => rdT (rdC b38 (o39 + 2)) kI (fun (x40 : Int) => callT Tryz.prog 100 [.pointer x37, .int .i64 x40, .string data_33] kI (fun (x41 : Int) => K (.int .i64 x41))))))) (fun j31 => brW more_5 (rdT (rdC b29 2) kS (fun (x42 : ByteArray) => ifW (x42.size + data_4.size <= 9223372036854775807)
 (j31 f_1 (x42 ++ data_4) (some ⟨b11, 0, none⟩)))) (j31 f_1 data_4 (some ⟨b11, 0, none⟩)))))))))))))))))
theorem e47 (f_1 : Option Addr) (cwd_2 : ByteArray) (path_3 : ByteArray) (data_4 : ByteArray) (more_5 : Bool) (K : KH) : bodyF Tryz.prog tau Tryz.f47 an47 [.pointer f_1, .string cwd_2, .string path_3, .string data_4, .bool more_5] K = g47 f_1 cwd_2 path_3 data_4 more_5 K := by kernel_rfl
theorem c47 (f_1 : Option Addr) (cwd_2 : ByteArray) (path_3 : ByteArray) (data_4 : ByteArray) (more_5 : Bool) {K : KH} {σ : H} (h : g47 f_1 cwd_2 path_3 data_4 more_5 K σ) : callW Tryz.prog 47 [.pointer f_1, .string cwd_2, .string path_3, .string data_4, .bool more_5] K σ := call_of_body mixed Tryz.func47 (by rw [e47]; exact h)


def an48 : Ann := (.q (.q .z))
def g48 (f_1 : Option Addr) (cwd_2 : ByteArray) (path_3 : ByteArray) (K : KH) : H -> Prop :=
 alW (.cells ⟨[.pointer f_1]⟩ 24 (0, 0)) (fun b4 => rdT (rdC b4 0) kP (fun x5 => callT Tryz.prog 94 [.pointer x5, .string cwd_2, .string path_3, .func (.func 101) ⟨[]⟩ ⟨[.pointer (some ⟨b4, 0, none⟩)]⟩] kI (fun (x6 : Int) => K (.int .i64 x6))))
theorem e48 (f_1 : Option Addr) (cwd_2 : ByteArray) (path_3 : ByteArray) (K : KH) : bodyF Tryz.prog tau Tryz.f48 an48 [.pointer f_1, .string cwd_2, .string path_3] K = g48 f_1 cwd_2 path_3 K := by kernel_rfl
theorem c48 (f_1 : Option Addr) (cwd_2 : ByteArray) (path_3 : ByteArray) {K : KH} {σ : H} (h : g48 f_1 cwd_2 path_3 K σ) : callW Tryz.prog 48 [.pointer f_1, .string cwd_2, .string path_3] K σ := call_of_body mixed Tryz.func48 (by rw [e48]; exact h)


def an53 : Ann := (.q (.q (.n (.seq (some [(1,.p),(25,.b)]) .r (.h)) (.q .z))))
def g53  (K : KH) : H -> Prop :=
 callT Tryz.prog 108 [] (.one (.agg [(.int .i64), (.int .i64)])) (fun (x1 : Int) (x2 : Int) => callT Tryz.prog 31 [.agg ⟨[.int .i64 x1, .int .i64 x2]⟩] kP (fun x3 => letJ (T := Option Addr -> Bool -> H -> Prop) (fun f_5 x6 => brW x6 (K (.pointer none)) (K (.pointer f_5))) (fun j4 => brW x3.isNone (j4 x3 true) (callT Tryz.prog 48 [.pointer x3, .string (⟨⟨[47]⟩⟩ : ByteArray), .string (⟨⟨[97]⟩⟩ : ByteArray)] kI (fun (x7 : Int) => brW ((x7 : Int) != 0) (j4 x3 true)
 (callT Tryz.prog 47 [.pointer x3, .string (⟨⟨[47, 97]⟩⟩ : ByteArray), .string (⟨⟨[102]⟩⟩ : ByteArray), .string (⟨⟨[104, 105]⟩⟩ : ByteArray), .bool false] kI (fun (x8 : Int) => brW ((x8 : Int) != 0) (j4 x3 true) (callT Tryz.prog 41 [.pointer x3, .string (⟨⟨[47]⟩⟩ : ByteArray), .string (⟨⟨[97, 47, 102]⟩⟩ : ByteArray), .string (⟨⟨[108]⟩⟩ : ByteArray)] kI (fun (x9 : Int) => brW ((x9 : Int) != 0) (j4 x3 true)
 (callT Tryz.prog 41 [.pointer x3, .string (⟨⟨[47]⟩⟩ : ByteArray), .string (⟨⟨[109]⟩⟩ : ByteArray), .string (⟨⟨[109]⟩⟩ : ByteArray)] kI (fun (x10 : Int) => j4 x3 ((x10 : Int) != 0))))))))))))
theorem e53  (K : KH) : bodyF Tryz.prog tau Tryz.f53 an53 [] K = g53  K := by kernel_rfl
theorem c53  {K : KH} {σ : H} (h : g53  K σ) : callW Tryz.prog 53 [] K σ := call_of_body mixed Tryz.func53 (by rw [e53]; exact h)


def an54 : Ann := (.q (.q (.q .z)))
def g54 (f_1 : Option Addr) (cwd_2 : ByteArray) (path_3 : ByteArray) (want_4 : ByteArray) (e_5 : Int) (K : KH) : H -> Prop :=
 callT Tryz.prog 60 [.pointer f_1, .string cwd_2, .string path_3] (.tup [.sc .str, .sc (.int .i64)]) (fun (x6 : ByteArray) (x7 : Int) => brW (strEq x6 want_4) (K (.bool ((x7 : Int) == e_5))) (K (.bool false)))
theorem e54 (f_1 : Option Addr) (cwd_2 : ByteArray) (path_3 : ByteArray) (want_4 : ByteArray) (e_5 : Int) (K : KH) : bodyF Tryz.prog tau Tryz.f54 an54 [.pointer f_1, .string cwd_2, .string path_3, .string want_4, .int .i64 e_5] K = g54 f_1 cwd_2 path_3 want_4 e_5 K := by kernel_rfl
theorem c54 (f_1 : Option Addr) (cwd_2 : ByteArray) (path_3 : ByteArray) (want_4 : ByteArray) (e_5 : Int) {K : KH} {σ : H} (h : g54 f_1 cwd_2 path_3 want_4 e_5 K σ) : callW Tryz.prog 54 [.pointer f_1, .string cwd_2, .string path_3, .string want_4, .int .i64 e_5] K σ := call_of_body mixed Tryz.func54 (by rw [e54]; exact h)


def an55 : Ann := (.q (.q (.n (.blk (.q (.cond (.q .z) (.q (.cond (.q .z) (.q (.cond (.q .z) (.q (.cond (.q .z) (.q (.h))))))))))) (.n (.reg (rn 12) [[],[0],[0,1],[0,1,2],[],[4],[],[6],[],[8],(rn 10),(rn 11)]) .z))))
def g55 (f_1 : Option Addr) (cwd_2 : ByteArray) (from_3 : ByteArray) (to_4 : ByteArray) (K : KH) : H -> Prop :=
 callT Tryz.prog 109 [.pointer f_1, .string cwd_2, .string from_3, .string to_4] (.tup [.agg [(.int .i64), .str, (.int .i64), .bool], .agg [(.int .i64), .str, (.int .i64), .bool], .sc (.int .i64)]) (fun (x5 : Int) (x6 : ByteArray) (x7 : Int) (x8 : Bool) (x9 : Int) (x10 : ByteArray) (x11 : Int) (x12 : Bool) (x13 : Int) => alW (.cells ⟨[.int .i64 0, .string (⟨⟨[]⟩⟩ : ByteArray), .int .i64 0, .bool false]⟩ 142 (0, 0)) (fun b14 =>
 alW (.cells ⟨[.int .i64 0, .string (⟨⟨[]⟩⟩ : ByteArray), .int .i64 0, .bool false]⟩ 142 (0, 0)) (fun b15 => stW Tryz.prog 142 (.pointer (some ⟨b14, 0, none⟩)) (.agg ⟨[.int .i64 x5, .string x6, .int .i64 x7, .bool x8]⟩) (stW Tryz.prog 142 (.pointer (some ⟨b15, 0, none⟩)) (.agg ⟨[.int .i64 x9, .string x10, .int .i64 x11, .bool x12]⟩) (brW ((x13 : Int) != 0) (K (.int .i64 x13)) (rdT (rdC b14 3) kB (fun x16 => brW (!x16) (K (.int .i64 5)) (rdT (rdC b14 2) kI (fun (x17 : Int) =>
 callT Tryz.prog 110 [.pointer f_1, .int .i64 x17] kI (fun (x18 : Int) => brW ((x18 : Int) == 2) (K (.int .i64 7)) (rdT (rdC b14 2) kI (fun (x19 : Int) => callT Tryz.prog 110 [.pointer f_1, .int .i64 x19] kI (fun (x20 : Int) => brW ((x20 : Int) == 3) (K (.int .i64 2)) (rdT (rdC b15 3) kB (fun x21 => brW x21 (K (.int .i64 6)) (ptrW f_1 (fun b22 o23 => rdT (rdC b22 o23) kP (fun x24 => rdT (rdC b15 0) kI (fun (x25 : Int) => rdT (rdC b15 1) kS (fun (x26 : ByteArray) =>
 rdT (rdC b14 2) kI (fun (x27 : Int) => callT Tryz.prog 111 [.pointer x24, .int .i64 x25, .string x26, .int .i64 x27] kI (fun (x28 : Int) => K (.int .i64 x28)))))))))))))))))))))))
theorem e55 (f_1 : Option Addr) (cwd_2 : ByteArray) (from_3 : ByteArray) (to_4 : ByteArray) (K : KH) : bodyF Tryz.prog tau Tryz.f55 an55 [.pointer f_1, .string cwd_2, .string from_3, .string to_4] K = g55 f_1 cwd_2 from_3 to_4 K := by kernel_rfl
theorem c55 (f_1 : Option Addr) (cwd_2 : ByteArray) (from_3 : ByteArray) (to_4 : ByteArray) {K : KH} {σ : H} (h : g55 f_1 cwd_2 from_3 to_4 K σ) : callW Tryz.prog 55 [.pointer f_1, .string cwd_2, .string from_3, .string to_4] K σ := call_of_body mixed Tryz.func55 (by rw [e55]; exact h)


def an56 : Ann := (.q (.q (.n (.blk (.q (.cond (.q .z) (.q (.cond (.q .z) (.q (.cond (.q .z) (.n (.reg (rn 10) [[],[0],[0,1],[0,1,2],[],[4],(rn 6),(rn 7),(rn 8),(rn 9)]) (.h))))))))) (.n (.reg (rn 10) [[],[0],[0,1],[0,1,2],[],[4],[],[6],(rn 8),(rn 9)]) .z))))
def g56 (f_1 : Option Addr) (cwd_2 : ByteArray) (path_3 : ByteArray) (K : KH) : H -> Prop :=
 callT Tryz.prog 98 [.pointer f_1, .string cwd_2, .string path_3, .bool false] (.tup [.agg [(.int .i64), .str, (.int .i64), .bool], .sc (.int .i64)]) (fun (x4 : Int) (x5 : ByteArray) (x6 : Int) (x7 : Bool) (x8 : Int) => alW (.cells ⟨[.int .i64 0, .string (⟨⟨[]⟩⟩ : ByteArray), .int .i64 0, .bool false]⟩ 142 (0, 0)) (fun b9 => stW Tryz.prog 142 (.pointer (some ⟨b9, 0, none⟩)) (.agg ⟨[.int .i64 x4, .string x5, .int .i64 x6, .bool x7]⟩) (brW ((x8 : Int) != 0) (K (.int .i64 x8))
 (rdT (rdC b9 3) kB (fun x10 => brW (!x10) (K (.int .i64 5)) (rdT (rdC b9 1) kS (fun (x11 : ByteArray) => brW (strEq x11 (⟨⟨[]⟩⟩ : ByteArray)) (K (.int .i64 2)) (ptrW f_1 (fun b12 o13 => rdT (rdC b12 o13) kP (fun x14 => rdT (rdC b9 2) kI (fun (x15 : Int) => callT Tryz.prog 73 [.pointer x14, .int .i64 x15] kL (fun x16 => brW (decide ((((x16.len : Nat) : Int) : Int) > 0)) (K (.int .i64 20)) (ptrW f_1 (fun b17 o18 => rdT (rdC b17 o18) kP (fun x19 => rdT (rdC b9 0) kI (fun (x20 : Int) =>
 rdT (rdC b9 1) kS (fun (x21 : ByteArray) => callT Tryz.prog 112 [.pointer x19, .int .i64 x20, .string x21] kI (fun (x22 : Int) => K (.int .i64 x22)))))))))))))))))))
theorem e56 (f_1 : Option Addr) (cwd_2 : ByteArray) (path_3 : ByteArray) (K : KH) : bodyF Tryz.prog tau Tryz.f56 an56 [.pointer f_1, .string cwd_2, .string path_3] K = g56 f_1 cwd_2 path_3 K := by kernel_rfl
theorem c56 (f_1 : Option Addr) (cwd_2 : ByteArray) (path_3 : ByteArray) {K : KH} {σ : H} (h : g56 f_1 cwd_2 path_3 K σ) : callW Tryz.prog 56 [.pointer f_1, .string cwd_2, .string path_3] K σ := call_of_body mixed Tryz.func56 (by rw [e56]; exact h)


def an57 : Ann := (.q (.q (.n (.blk (.q (.cond (.q .z) (.seq (some [(0,.p),(9,.p),(10,.p),(27,.b)]) .r (.cond (.q .z) (.q (.cond (.q .z) (.seq (some [(0,.p),(9,.p),(10,.p),(40,.b)]) .r (.h))))))))) (.n (.q (.q (.h))) (.seq (some [(0,.p),(9,.p),(10,.p)]) (.q (.cond (.n (.reg (rn 10) [[],[0],[0,1],[0,1,2],[],[4],[],[6],(rn 8),(rn 9)]) (.q (.h))) .z)) (.n (.reg (rn 14) [[],[0],[0,1],[0,1,2],[],[4],[],[6],[],[8],[],[10],(rn 12),(rn 13)]) .z))))))
def g57 (f_1 : Option Addr) (cwd_2 : ByteArray) (from_3 : ByteArray) (to_4 : ByteArray) (K : KH) : H -> Prop :=
 callT Tryz.prog 109 [.pointer f_1, .string cwd_2, .string from_3, .string to_4] (.tup [.agg [(.int .i64), .str, (.int .i64), .bool], .agg [(.int .i64), .str, (.int .i64), .bool], .sc (.int .i64)]) (fun (x5 : Int) (x6 : ByteArray) (x7 : Int) (x8 : Bool) (x9 : Int) (x10 : ByteArray) (x11 : Int) (x12 : Bool) (x13 : Int) => alW (.cells ⟨[.int .i64 0, .string (⟨⟨[]⟩⟩ : ByteArray), .int .i64 0, .bool false]⟩ 142 (0, 0)) (fun b14 =>
 alW (.cells ⟨[.int .i64 0, .string (⟨⟨[]⟩⟩ : ByteArray), .int .i64 0, .bool false]⟩ 142 (0, 0)) (fun b15 => stW Tryz.prog 142 (.pointer (some ⟨b14, 0, none⟩)) (.agg ⟨[.int .i64 x5, .string x6, .int .i64 x7, .bool x8]⟩) (stW Tryz.prog 142 (.pointer (some ⟨b15, 0, none⟩)) (.agg ⟨[.int .i64 x9, .string x10, .int .i64 x11, .bool x12]⟩) (brW ((x13 : Int) != 0) (K (.int .i64 x13)) (letJ (T := Option Addr -> Option Addr -> Option Addr -> Bool -> H -> Prop) (fun f_17 p_18 q_19 x20 => brW x20
 (K (.int .i64 2)) (ptrW p_18 (fun b21 o22 => rdT (rdC b21 (o22 + 3)) kB (fun x23 => brW (!x23) (K (.int .i64 5)) (letJ (T := Option Addr -> Option Addr -> Option Addr -> Bool -> H -> Prop) (fun f_25 p_26 q_27 x28 => brW x28 (K (.int .i64 0)) (ptrW p_26 (fun b29 o30 => rdT (rdA 4 b29 o30) (.one (.agg [(.int .i64), .str, (.int .i64), .bool])) (fun (x31 : Int) (x32 : ByteArray) (x33 : Int) (x34 : Bool) => ptrW q_27 (fun b35 o36 =>
 rdT (rdA 4 b35 o36) (.one (.agg [(.int .i64), .str, (.int .i64), .bool])) (fun (x37 : Int) (x38 : ByteArray) (x39 : Int) (x40 : Bool) => callT Tryz.prog 113 [.pointer f_25, .agg ⟨[.int .i64 x31, .string x32, .int .i64 x33, .bool x34]⟩, .agg ⟨[.int .i64 x37, .string x38, .int .i64 x39, .bool x40]⟩] kI (fun (x41 : Int) => brW ((x41 : Int) != 0) (K (.int .i64 x41)) (letJ (T := Option Addr -> Option Addr -> Option Addr -> H -> Prop) (fun f_43 p_44 q_45 => ptrW f_43 (fun b46 o47 =>
 rdT (rdC b46 o47) kP (fun x48 => ptrW p_44 (fun b49 o50 => rdT (rdC b49 o50) kI (fun (x51 : Int) => ptrW p_44 (fun b52 o53 => rdT (rdC b52 (o53 + 1)) kS (fun (x54 : ByteArray) => ptrW q_45 (fun b55 o56 => rdT (rdC b55 o56) kI (fun (x57 : Int) => ptrW q_45 (fun b58 o59 => rdT (rdC b58 (o59 + 1)) kS (fun (x60 : ByteArray) => callT Tryz.prog 114 [.pointer x48, .int .i64 x51, .string x54, .int .i64 x57, .string x60] kI (fun (x61 : Int) => K (.int .i64 x61))))))))))))) (fun j42 =>
 ptrW q_27 (fun b62 o63 => rdT (rdC b62 (o63 + 3)) kB (fun x64 => brW x64 (ptrW f_25 (fun b65 o66 => rdT (rdC b65 o66) kP (fun x67 => ptrW q_27 (fun b68 o69 => rdT (rdC b68 o69) kI (fun (x70 : Int) => ptrW q_27 (fun b71 o72 => rdT (rdC b71 (o72 + 1)) kS (fun (x73 : ByteArray) => callT Tryz.prog 112 [.pointer x67, .int .i64 x70, .string x73] kI (fun (x74 : Int) => brW ((x74 : Int) != 0) (K (.int .i64 x74)) (j42 f_25 p_26 q_27))))))))) (j42 f_25 p_26 q_27)))))))))))) (fun j24 =>
 ptrW q_19 (fun b75 o76 => rdT (rdC b75 (o76 + 3)) kB (fun x77 => brW x77 (ptrW p_18 (fun b78 o79 => rdT (rdC b78 (o79 + 2)) kI (fun (x80 : Int) => ptrW q_19 (fun b81 o82 => rdT (rdC b81 (o82 + 2)) kI (fun (x83 : Int) => j24 f_17 p_18 q_19 ((x80 : Int) == x83)))))) (j24 f_17 p_18 q_19 false))))))))) (fun j16 => rdT (rdC b14 1) kS (fun (x84 : ByteArray) => brW (strEq x84 (⟨⟨[]⟩⟩ : ByteArray)) (j16 f_1 (some ⟨b14, 0, none⟩) (some ⟨b15, 0, none⟩) true) (rdT (rdC b15 1) kS (fun (x85 : ByteArray) =>
 j16 f_1 (some ⟨b14, 0, none⟩) (some ⟨b15, 0, none⟩) (strEq x85 (⟨⟨[]⟩⟩ : ByteArray))))))))))))
theorem e57 (f_1 : Option Addr) (cwd_2 : ByteArray) (from_3 : ByteArray) (to_4 : ByteArray) (K : KH) : bodyF Tryz.prog tau Tryz.f57 an57 [.pointer f_1, .string cwd_2, .string from_3, .string to_4] K = g57 f_1 cwd_2 from_3 to_4 K := by kernel_rfl
theorem c57 (f_1 : Option Addr) (cwd_2 : ByteArray) (from_3 : ByteArray) (to_4 : ByteArray) {K : KH} {σ : H} (h : g57 f_1 cwd_2 from_3 to_4 K σ) : callW Tryz.prog 57 [.pointer f_1, .string cwd_2, .string from_3, .string to_4] K σ := call_of_body mixed Tryz.func57 (by rw [e57]; exact h)


def an58 : Ann := (.q (.n (.q (.h)) (.n (.seq (some [(1,.s),(2,.s),(4,.p),(7,.p),(16,.b)]) .r (.h)) (.q .z))))
def g58 (f_1 : Option Addr) (cwd_2 : ByteArray) (path_3 : ByteArray) (mode_4 : Int) (K : KH) : H -> Prop :=
 alW (.cells ⟨[.pointer f_1]⟩ 24 (0, 0)) (fun b5 => alW (.cells ⟨[.int .i64 mode_4]⟩ 3 (0, 0)) (fun b6 => rdT (rdC b5 0) kP (fun x7 => callT Tryz.prog 92 [.pointer x7] kB (fun x8 => brW x8 (K (.int .i64 1)) (letJ (T := ByteArray -> ByteArray -> Option Addr -> Option Addr -> Bool -> H -> Prop) (fun cwd_10 path_11 f_12 mode_13 x14 => brW x14 (K (.int .i64 2)) (ptrW f_12 (fun b15 o16 => rdT (rdC b15 o16) kP (fun x17 =>
 callT Tryz.prog 69 [.pointer x17, .string cwd_10, .string path_11, .bool true, .func (.func 115) ⟨[]⟩ ⟨[.pointer f_12, .pointer mode_13]⟩] kI (fun (x18 : Int) => K (.int .i64 x18)))))) (fun j9 => rdT (rdC b6 0) kI (fun (x19 : Int) => brW (decide ((x19 : Int) < 0)) (j9 cwd_2 path_3 (some ⟨b5, 0, none⟩) (some ⟨b6, 0, none⟩) true) (rdT (rdC b6 0) kI (fun (x20 : Int) => j9 cwd_2 path_3 (some ⟨b5, 0, none⟩) (some ⟨b6, 0, none⟩) (decide ((x20 : Int) > 511)))))))))))
theorem e58 (f_1 : Option Addr) (cwd_2 : ByteArray) (path_3 : ByteArray) (mode_4 : Int) (K : KH) : bodyF Tryz.prog tau Tryz.f58 an58 [.pointer f_1, .string cwd_2, .string path_3, .int .i64 mode_4] K = g58 f_1 cwd_2 path_3 mode_4 K := by kernel_rfl
theorem c58 (f_1 : Option Addr) (cwd_2 : ByteArray) (path_3 : ByteArray) (mode_4 : Int) {K : KH} {σ : H} (h : g58 f_1 cwd_2 path_3 mode_4 K σ) : callW Tryz.prog 58 [.pointer f_1, .string cwd_2, .string path_3, .int .i64 mode_4] K σ := call_of_body mixed Tryz.func58 (by rw [e58]; exact h)


def an59 : Ann := (.q (.n (.q (.h)) (.n (.q (.q (.h))) (.q .z))))
def g59 (f_1 : Option Addr) (path_2 : ByteArray) (n_3 : ByteArray) (n_4 : Int) (n_5 : Bool) (n_6 : ByteArray) (n_7 : Sl) (K : KH) : H -> Prop :=
 alW (.cells ⟨[.pointer f_1]⟩ 24 (0, 0)) (fun b8 => alW (.cells ⟨[.string n_3, .int .i64 n_4, .bool n_5, .string n_6, .slice n_7.base n_7.len n_7.cap]⟩ 73 (0, 0)) (fun b9 => rdT (rdC b8 0) kP (fun x10 => callT Tryz.prog 92 [.pointer x10] kB (fun x11 => brW x11 (K (.int .i64 1)) (rdT (rdA 5 b9 0) (.one (.agg [.str, (.int .i64), .bool, .str, .slc])) (fun (x12 : ByteArray) (x13 : Int) (x14 : Bool) (x15 : ByteArray) (x16 : Sl) =>
 callT Tryz.prog 88 [.agg ⟨[.string x12, .int .i64 x13, .bool x14, .string x15, .slice x16.base x16.len x16.cap]⟩] kI (fun (x17 : Int) => brW ((x17 : Int) != 0) (K (.int .i64 x17)) (rdT (rdC b8 0) kP (fun x18 => callT Tryz.prog 94 [.pointer x18, .string (⟨⟨[47]⟩⟩ : ByteArray), .string path_2, .func (.func 117) ⟨[]⟩ ⟨[.pointer (some ⟨b9, 0, none⟩), .pointer (some ⟨b8, 0, none⟩)]⟩] kI (fun (x19 : Int) => K (.int .i64 x19)))))))))))
theorem e59 (f_1 : Option Addr) (path_2 : ByteArray) (n_3 : ByteArray) (n_4 : Int) (n_5 : Bool) (n_6 : ByteArray) (n_7 : Sl) (K : KH) : bodyF Tryz.prog tau Tryz.f59 an59 [.pointer f_1, .string path_2, .agg ⟨[.string n_3, .int .i64 n_4, .bool n_5, .string n_6, .slice n_7.base n_7.len n_7.cap]⟩] K = g59 f_1 path_2 n_3 n_4 n_5 n_6 n_7 K := by kernel_rfl
theorem c59 (f_1 : Option Addr) (path_2 : ByteArray) (n_3 : ByteArray) (n_4 : Int) (n_5 : Bool) (n_6 : ByteArray) (n_7 : Sl) {K : KH} {σ : H} (h : g59 f_1 path_2 n_3 n_4 n_5 n_6 n_7 K σ) : callW Tryz.prog 59 [.pointer f_1, .string path_2, .agg ⟨[.string n_3, .int .i64 n_4, .bool n_5, .string n_6, .slice n_7.base n_7.len n_7.cap]⟩] K σ := call_of_body mixed Tryz.func59 (by rw [e59]; exact h)


def an60 : Ann := (.q (.q (.q .z)))
def g60 (f_1 : Option Addr) (cwd_2 : ByteArray) (path_3 : ByteArray) (K : KH) : H -> Prop :=
 alW (.cells ⟨[.string (⟨⟨[]⟩⟩ : ByteArray)]⟩ 9 (0, 0)) (fun b4 => callT Tryz.prog 69 [.pointer f_1, .string cwd_2, .string path_3, .bool true, .func (.func 122) ⟨[]⟩ ⟨[.pointer (some ⟨b4, 0, none⟩)]⟩] kI (fun (x5 : Int) => rdT (rdC b4 0) kS (fun (x6 : ByteArray) => stW Tryz.prog 9 (.pointer (some ⟨b4, 0, none⟩)) (.string x6) (rdT (rdC b4 0) kS (fun (r7 : ByteArray) => K (.tuple ⟨[.string r7, .int .i64 x5]⟩))))))
theorem e60 (f_1 : Option Addr) (cwd_2 : ByteArray) (path_3 : ByteArray) (K : KH) : bodyF Tryz.prog tau Tryz.f60 an60 [.pointer f_1, .string cwd_2, .string path_3] K = g60 f_1 cwd_2 path_3 K := by kernel_rfl
theorem c60 (f_1 : Option Addr) (cwd_2 : ByteArray) (path_3 : ByteArray) {K : KH} {σ : H} (h : g60 f_1 cwd_2 path_3 K σ) : callW Tryz.prog 60 [.pointer f_1, .string cwd_2, .string path_3] K σ := call_of_body mixed Tryz.func60 (by rw [e60]; exact h)


def an61 : Ann := (.q (.q (.n (.blk (.q (.cond (.q .z) (.q (.h))))) (.n (.reg (rn 4) [[],[0],[],[0,1,2]]) (.seq (some [(0,.p),(10,.s),(11,.i)]) (.q (.cond (.reg (rn 7) [[],[0],[0,1],[],[3],[0,1,2],(rn 6)]) .z)) (.n (.blk (.loop [(0,.p),(10,.s),(11,.i)] (.n (.q (.cond .z .z)) (.blk (.q (.n (.q (.blk (.loop [(0,.p),(10,.s),(11,.i),(12,.i),(62,.l),(63,.i),(64,.i)] (.q (.n (.cond .z .z) (.seq (some [(0,.p),(10,.s),(11,.i),(12,.i),(62,.l),(63,.i),(64,.i)]) (.blk (.q (.q (.q (.cond .r .z))))) .r)))))) .r)))))) (.seq (some [(10,.s)]) (.q (.cond .r .z)) (.q .z))))))))
def g61 (f_1 : Option Addr) (cwd_2 : ByteArray) (path_3 : ByteArray) (K : KH) : H -> Prop :=
 callT Tryz.prog 98 [.pointer f_1, .string cwd_2, .string path_3, .bool true] (.tup [.agg [(.int .i64), .str, (.int .i64), .bool], .sc (.int .i64)]) (fun (x4 : Int) (x5 : ByteArray) (x6 : Int) (x7 : Bool) (x8 : Int) => alW (.cells ⟨[.int .i64 0, .string (⟨⟨[]⟩⟩ : ByteArray), .int .i64 0, .bool false]⟩ 142 (0, 0)) (fun b9 => stW Tryz.prog 142 (.pointer (some ⟨b9, 0, none⟩)) (.agg ⟨[.int .i64 x4, .string x5, .int .i64 x6, .bool x7]⟩) (brW ((x8 : Int) != 0)
 (K (.tuple ⟨[.string (⟨⟨[]⟩⟩ : ByteArray), .int .i64 x8]⟩)) (rdT (rdC b9 3) kB (fun x10 => brW (!x10) (K (.tuple ⟨[.string (⟨⟨[]⟩⟩ : ByteArray), .int .i64 5]⟩)) (rdT (rdC b9 2) kI (fun (x11 : Int) => letJ (T := Option Addr -> ByteArray -> Int -> H -> Prop) (fun f_13 out_14 dir_15 => loopW [.sc .ptr, .sc .str, .sc (.int .i64)] (fun (R16 : Option Addr -> ByteArray -> Int -> H -> Prop) => (fun (f_17 : Option Addr) (out_18 : ByteArray) (dir_19 : Int) => ptrW f_17 (fun b20 o21 =>
 rdT (rdC b20 o21) kP (fun x22 => callT Tryz.prog 123 [.pointer x22] kI (fun (x23 : Int) => brW ((dir_19 : Int) != x23) (ptrW f_17 (fun b24 o25 => rdT (rdC b24 o25) kP (fun x26 => callT Tryz.prog 124 [.pointer x26, .int .i64 dir_19] kI (fun (x27 : Int) => ptrW f_17 (fun b28 o29 => rdT (rdC b28 o29) kP (fun x30 => callT Tryz.prog 73 [.pointer x30, .int .i64 x27] kL (fun x31 =>
 loopW [.sc .ptr, .sc .str, .sc (.int .i64), .sc (.int .i64), .sc .slc, .sc (.int .i64), .sc (.int .i64)] (fun (R32 : Option Addr -> ByteArray -> Int -> Int -> Sl -> Int -> Int -> H -> Prop) => (fun (f_33 : Option Addr) (out_34 : ByteArray) (dir_35 : Int) (up_36 : Int) (x37 : Sl) (x38 : Int) (x39 : Int) => brW (decide ((x39 : Int) < x38)) (letJ (T := Option Addr -> ByteArray -> Int -> Int -> Sl -> Int -> Int -> H -> Prop) (fun f_41 out_42 dir_43 up_44 x45 x46 x47 =>
 R32 f_41 out_42 dir_43 up_44 x45 x46 (IntKind.i64.wrap (x47 + 1))) (fun j40 => ptrW x37.base (fun b48 o49 => ifW (0 <= x39 /\ x39 < ((x37.len : Nat) : Int)) (rdT (rdC b48 (o49 + x39.toNat * 1)) kS (fun (x50 : ByteArray) => ptrW f_33 (fun b51 o52 => rdT (rdC b51 o52) kP (fun x53 => callT Tryz.prog 125 [.pointer x53, .int .i64 up_36, .string x50] (.tup [.sc (.int .i64), .sc .bool]) (fun (x54 : Int) (_x55 : Bool) => brW ((x54 : Int) == dir_35)
 (ifW ((⟨⟨[47]⟩⟩ : ByteArray).size + x50.size <= 9223372036854775807) (ifW (((⟨⟨[47]⟩⟩ : ByteArray) ++ x50).size + out_34.size <= 9223372036854775807) (j40 f_33 (((⟨⟨[47]⟩⟩ : ByteArray) ++ x50) ++ out_34) dir_35 up_36 x37 x38 x39))) (j40 f_33 out_34 dir_35 up_36 x37 x38 x39))))))))) (R16 f_33 out_34 up_36))) (fun (R56 : Option Addr -> ByteArray -> Int -> Int -> Sl -> Int -> Int -> H -> Prop) => R56 f_17 out_18 dir_19 x27 x31 ((x31.len : Nat) : Int) 0))))))))
 (letJ (T := ByteArray -> H -> Prop) (fun out_58 => K (.tuple ⟨[.string out_58, .int .i64 0]⟩)) (fun j57 => brW (strEq out_18 (⟨⟨[]⟩⟩ : ByteArray)) (j57 (⟨⟨[47]⟩⟩ : ByteArray)) (j57 out_18)))))))) (fun (R59 : Option Addr -> ByteArray -> Int -> H -> Prop) => R59 f_13 out_14 dir_15)) (fun j12 => rdT (rdC b9 2) kI (fun (x60 : Int) => callT Tryz.prog 110 [.pointer f_1, .int .i64 x60] kI (fun (x61 : Int) => brW ((x61 : Int) != 2) (rdT (rdC b9 1) kS (fun (x62 : ByteArray) =>
 ifW ((⟨⟨[47]⟩⟩ : ByteArray).size + x62.size <= 9223372036854775807) (rdT (rdC b9 0) kI (fun (x63 : Int) => j12 f_1 ((⟨⟨[47]⟩⟩ : ByteArray) ++ x62) x63)))) (j12 f_1 (⟨⟨[]⟩⟩ : ByteArray) x11)))))))))))
theorem e61 (f_1 : Option Addr) (cwd_2 : ByteArray) (path_3 : ByteArray) (K : KH) : bodyF Tryz.prog tau Tryz.f61 an61 [.pointer f_1, .string cwd_2, .string path_3] K = g61 f_1 cwd_2 path_3 K := by kernel_rfl
theorem c61 (f_1 : Option Addr) (cwd_2 : ByteArray) (path_3 : ByteArray) {K : KH} {σ : H} (h : g61 f_1 cwd_2 path_3 K σ) : callW Tryz.prog 61 [.pointer f_1, .string cwd_2, .string path_3] K σ := call_of_body mixed Tryz.func61 (by rw [e61]; exact h)


def an62 : Ann := (.q (.q (.n (.seq (some [(1,.p),(40,.b)]) .r (.h)) (.q (.q (.q (.q .z)))))))
def g62  (K : KH) : H -> Prop :=
 callT Tryz.prog 53 [] kP (fun x1 => letJ (T := Option Addr -> Bool -> H -> Prop) (fun f_3 x4 => brW x4 (K (.bool false)) (callT Tryz.prog 15 [.pointer f_3, .string (⟨⟨[47]⟩⟩ : ByteArray), .string (⟨⟨[108]⟩⟩ : ByteArray), .bool false] (.tup [.agg [(.int .i64), (.int .i64), .str, (.int .i64)], .sc (.int .i64)]) (fun (x5 : Int) (x6 : Int) (x7 : ByteArray) (x8 : Int) (x9 : Int) => alW (.cells ⟨[.int .i64 0, .int .i64 0, .string (⟨⟨[]⟩⟩ : ByteArray), .int .i64 0]⟩ 35 (0, 0)) (fun b10 =>
 stW Tryz.prog 35 (.pointer (some ⟨b10, 0, none⟩)) (.agg ⟨[.int .i64 x5, .int .i64 x6, .string x7, .int .i64 x8]⟩) (callT Tryz.prog 61 [.pointer f_3, .string (⟨⟨[47, 97]⟩⟩ : ByteArray), .string (⟨⟨[46, 46, 47, 108]⟩⟩ : ByteArray)] (.tup [.sc .str, .sc (.int .i64)]) (fun (x11 : ByteArray) (x12 : Int) => callT Tryz.prog 61 [.pointer f_3, .string (⟨⟨[47]⟩⟩ : ByteArray), .string (⟨⟨[46, 46]⟩⟩ : ByteArray)] (.tup [.sc .str, .sc (.int .i64)]) (fun (x13 : ByteArray) (x14 : Int) =>
 brW ((x9 : Int) == 0) (rdT (rdC b10 0) kI (fun (x15 : Int) => brW ((x15 : Int) == 3) (brW ((x12 : Int) == 0) (brW (strEq x11 (⟨⟨[47, 97, 47, 102]⟩⟩ : ByteArray)) (brW ((x14 : Int) == 0) (brW (strEq x13 (⟨⟨[47]⟩⟩ : ByteArray)) (callT Tryz.prog 48 [.pointer f_3, .string (⟨⟨[47]⟩⟩ : ByteArray), .string (⟨⟨[97, 47, 102, 47, 120]⟩⟩ : ByteArray)] kI (fun (x16 : Int) => brW ((x16 : Int) == 8)
 (callT Tryz.prog 56 [.pointer f_3, .string (⟨⟨[47]⟩⟩ : ByteArray), .string (⟨⟨[97]⟩⟩ : ByteArray)] kI (fun (x17 : Int) => K (.bool ((x17 : Int) == 20)))) (K (.bool false)))) (K (.bool false))) (K (.bool false))) (K (.bool false))) (K (.bool false))) (K (.bool false)))) (K (.bool false))))))))) (fun j2 => brW x1.isNone (j2 x1 true) (callT Tryz.prog 54 [.pointer x1, .string (⟨⟨[47]⟩⟩ : ByteArray), .string (⟨⟨[108]⟩⟩ : ByteArray), .string (⟨⟨[104, 105]⟩⟩ : ByteArray), .int .i64 0] kB (fun x18 =>
 brW (!x18) (j2 x1 true) (callT Tryz.prog 54 [.pointer x1, .string (⟨⟨[47, 97]⟩⟩ : ByteArray), .string (⟨⟨[46, 46, 47, 46, 46, 47, 97, 47, 46, 47, 102]⟩⟩ : ByteArray), .string (⟨⟨[104, 105]⟩⟩ : ByteArray), .int .i64 0] kB (fun x19 => brW (!x19) (j2 x1 true) (callT Tryz.prog 54 [.pointer x1, .string (⟨⟨[47]⟩⟩ : ByteArray), .string (⟨⟨[109]⟩⟩ : ByteArray), .string (⟨⟨[]⟩⟩ : ByteArray), .int .i64 9] kB (fun x20 => brW (!x20) (j2 x1 true)
 (callT Tryz.prog 54 [.pointer x1, .string (⟨⟨[47]⟩⟩ : ByteArray), .string (⟨⟨[97]⟩⟩ : ByteArray), .string (⟨⟨[]⟩⟩ : ByteArray), .int .i64 7] kB (fun x21 => brW (!x21) (j2 x1 true) (callT Tryz.prog 47 [.pointer x1, .string (⟨⟨[47]⟩⟩ : ByteArray), .string (⟨⟨[108]⟩⟩ : ByteArray), .string (⟨⟨[33]⟩⟩ : ByteArray), .bool true] kI (fun (x22 : Int) => brW ((x22 : Int) != 0) (j2 x1 true)
 (callT Tryz.prog 54 [.pointer x1, .string (⟨⟨[47, 97]⟩⟩ : ByteArray), .string (⟨⟨[102]⟩⟩ : ByteArray), .string (⟨⟨[104, 105, 33]⟩⟩ : ByteArray), .int .i64 0] kB (fun x23 => j2 x1 (!x23)))))))))))))))
theorem e62  (K : KH) : bodyF Tryz.prog tau Tryz.f62 an62 [] K = g62  K := by kernel_rfl
theorem c62  {K : KH} {σ : H} (h : g62  K σ) : callW Tryz.prog 62 [] K σ := call_of_body mixed Tryz.func62 (by rw [e62]; exact h)


def an69 : Ann := (.q (.q (.n (.q (.h)) (.n (.reg (rn 13) [[],[0],[0,1],[0,1,2],[],[4],(rn 6),(rn 7),(rn 8),(rn 8),[],[0,1,2,3,4,5,6,7,8,10],(rn 12)]) (.n (.seq (some [(4,.w),(11,.p),(13,.p),(42,.b)]) .r (.h)) (.q .z))))))
def g69 (f_1 : Option Addr) (cwd_2 : ByteArray) (path_3 : ByteArray) (follow_4 : Bool) (do_5 : Value) (K : KH) : H -> Prop :=
 callT Tryz.prog 98 [.pointer f_1, .string cwd_2, .string path_3, .bool follow_4] (.tup [.agg [(.int .i64), .str, (.int .i64), .bool], .sc (.int .i64)]) (fun (x6 : Int) (x7 : ByteArray) (x8 : Int) (x9 : Bool) (x10 : Int) => alW (.cells ⟨[.int .i64 0, .string (⟨⟨[]⟩⟩ : ByteArray), .int .i64 0, .bool false]⟩ 142 (0, 0)) (fun b11 => stW Tryz.prog 142 (.pointer (some ⟨b11, 0, none⟩)) (.agg ⟨[.int .i64 x6, .string x7, .int .i64 x8, .bool x9]⟩) (brW ((x10 : Int) != 0) (K (.int .i64 x10))
 (ptrW f_1 (fun b12 o13 => rdT (rdC b12 o13) kP (fun x14 => rdT (rdC b11 2) kI (fun (x15 : Int) => callT Tryz.prog 99 [.pointer x14, .int .i64 x15] (.tup [.agg [(.int .i64), (.int .i64), .str, (.int .i64)], .sc .bool]) (fun (x16 : Int) (x17 : Int) (x18 : ByteArray) (x19 : Int) (x20 : Bool) => alW (.cells ⟨[.int .i64 0, .int .i64 0, .string (⟨⟨[]⟩⟩ : ByteArray), .int .i64 0]⟩ 35 (0, 0)) (fun b21 =>
 stW Tryz.prog 35 (.pointer (some ⟨b21, 0, none⟩)) (.agg ⟨[.int .i64 x16, .int .i64 x17, .string x18, .int .i64 x19]⟩) (letJ (T := Value -> Option Addr -> Option Addr -> Bool -> H -> Prop) (fun do_23 p_24 n_25 x26 => brW x26 (K (.int .i64 5)) (ptrW p_24 (fun b27 o28 => rdT (rdC b27 (o28 + 2)) kI (fun (x29 : Int) => ptrW n_25 (fun b30 o31 => rdT (rdA 4 b30 o31) (.one (.agg [(.int .i64), (.int .i64), .str, (.int .i64)])) (fun (x32 : Int) (x33 : Int) (x34 : ByteArray) (x35 : Int) =>
 cvalT Tryz.prog do_23 [.int .i64 x29, .agg ⟨[.int .i64 x32, .int .i64 x33, .string x34, .int .i64 x35]⟩] kI (fun (x36 : Int) => K (.int .i64 x36)))))))) (fun j22 => rdT (rdC b11 3) kB (fun x37 => brW (!x37) (j22 do_5 (some ⟨b11, 0, none⟩) (some ⟨b21, 0, none⟩) true) (j22 do_5 (some ⟨b11, 0, none⟩) (some ⟨b21, 0, none⟩) (!x20))))))))))))))
theorem e69 (f_1 : Option Addr) (cwd_2 : ByteArray) (path_3 : ByteArray) (follow_4 : Bool) (do_5 : Value) (K : KH) : bodyF Tryz.prog tau Tryz.f69 an69 [.pointer f_1, .string cwd_2, .string path_3, .bool follow_4, do_5] K = g69 f_1 cwd_2 path_3 follow_4 do_5 K := by kernel_rfl
theorem c69 (f_1 : Option Addr) (cwd_2 : ByteArray) (path_3 : ByteArray) (follow_4 : Bool) (do_5 : Value) {K : KH} {σ : H} (h : g69 f_1 cwd_2 path_3 follow_4 do_5 K σ) : callW Tryz.prog 69 [.pointer f_1, .string cwd_2, .string path_3, .bool follow_4, do_5] K σ := call_of_body mixed Tryz.func69 (by rw [e69]; exact h)


def an70 : Ann := (.q (.q (.q .z)))
def g70 (__1 : Int) (n_2 : Int) (n_3 : Int) (n_4 : ByteArray) (n_5 : Int) (x6 : Option Addr) (K : KH) : H -> Prop :=
 alW (.cells ⟨[.int .i64 n_2, .int .i64 n_3, .string n_4, .int .i64 n_5]⟩ 35 (0, 0)) (fun b7 => rdT (rdA 4 b7 0) (.one (.agg [(.int .i64), (.int .i64), .str, (.int .i64)])) (fun (x8 : Int) (x9 : Int) (x10 : ByteArray) (x11 : Int) => stW Tryz.prog 35 (.pointer x6) (.agg ⟨[.int .i64 x8, .int .i64 x9, .string x10, .int .i64 x11]⟩) (K (.int .i64 0))))
theorem e70 (__1 : Int) (n_2 : Int) (n_3 : Int) (n_4 : ByteArray) (n_5 : Int) (x6 : Option Addr) (K : KH) : bodyF Tryz.prog tau Tryz.f70 an70 [.int .i64 __1, .agg ⟨[.int .i64 n_2, .int .i64 n_3, .string n_4, .int .i64 n_5]⟩, .pointer x6] K = g70 __1 n_2 n_3 n_4 n_5 x6 K := by kernel_rfl
theorem c70 (__1 : Int) (n_2 : Int) (n_3 : Int) (n_4 : ByteArray) (n_5 : Int) (x6 : Option Addr) {K : KH} {σ : H} (h : g70 __1 n_2 n_3 n_4 n_5 x6 K σ) : callW Tryz.prog 70 [.int .i64 __1, .agg ⟨[.int .i64 n_2, .int .i64 n_3, .string n_4, .int .i64 n_5]⟩, .pointer x6] K σ := call_of_body mixed Tryz.func70 (by rw [e70]; exact h)


def an71 : Ann := (.q (.q .z))
def g71 (s_1 : ByteArray) (substr_2 : ByteArray) (K : KH) : H -> Prop :=
 callT Tryz.prog 137 [.string s_1, .string substr_2] kI (fun (x3 : Int) => K (.int .i64 x3))
theorem e71 (s_1 : ByteArray) (substr_2 : ByteArray) (K : KH) : bodyF Tryz.prog tau Tryz.f71 an71 [.string s_1, .string substr_2] K = g71 s_1 substr_2 K := by kernel_rfl
theorem c71 (s_1 : ByteArray) (substr_2 : ByteArray) {K : KH} {σ : H} (h : g71 s_1 substr_2 K σ) : callW Tryz.prog 71 [.string s_1, .string substr_2] K σ := call_of_body mixed Tryz.func71 (by rw [e71]; exact h)


def an72 : Ann := (.q (.n (.q (.h)) (.q (.q .z))))
def g72 (ino_1 : Int) (n_2 : Int) (n_3 : Int) (n_4 : ByteArray) (n_5 : Int) (x6 : Option Addr) (x7 : Option Addr) (K : KH) : H -> Prop :=
 alW (.cells ⟨[.int .i64 n_2, .int .i64 n_3, .string n_4, .int .i64 n_5]⟩ 35 (0, 0)) (fun b8 => rdT (rdC b8 0) kI (fun (x9 : Int) => brW ((x9 : Int) != 2) (K (.int .i64 8)) (ptrW x6 (fun b10 o11 => rdT (rdC b10 o11) kP (fun x12 => ptrW x12 (fun b13 o14 => rdT (rdC b13 o14) kP (fun x15 => callT Tryz.prog 73 [.pointer x15, .int .i64 ino_1] kL (fun x16 => stW Tryz.prog 22 (.pointer x7) (.slice x16.base x16.len x16.cap) (K (.int .i64 0))))))))))
theorem e72 (ino_1 : Int) (n_2 : Int) (n_3 : Int) (n_4 : ByteArray) (n_5 : Int) (x6 : Option Addr) (x7 : Option Addr) (K : KH) : bodyF Tryz.prog tau Tryz.f72 an72 [.int .i64 ino_1, .agg ⟨[.int .i64 n_2, .int .i64 n_3, .string n_4, .int .i64 n_5]⟩, .pointer x6, .pointer x7] K = g72 ino_1 n_2 n_3 n_4 n_5 x6 x7 K := by kernel_rfl
theorem c72 (ino_1 : Int) (n_2 : Int) (n_3 : Int) (n_4 : ByteArray) (n_5 : Int) (x6 : Option Addr) (x7 : Option Addr) {K : KH} {σ : H} (h : g72 ino_1 n_2 n_3 n_4 n_5 x6 x7 K σ) : callW Tryz.prog 72 [.int .i64 ino_1, .agg ⟨[.int .i64 n_2, .int .i64 n_3, .string n_4, .int .i64 n_5]⟩, .pointer x6, .pointer x7] K σ := call_of_body mixed Tryz.func72 (by rw [e72]; exact h)


def an73 : Ann := (.q (.q (.n (.q (.h)) (.q .z))))
def g73 (t_1 : Option Addr) (dir_2 : Int) (K : KH) : H -> Prop :=
 callT Tryz.prog 138 [.pointer t_1, .int .i64 dir_2] kP (fun x3 => brW x3.isNone (K (.slice none 0 0)) (ptrW x3 (fun b4 o5 => rdT (rdC b4 (o5 + 5)) kM (fun (x6 : Option Nat) => callT Tryz.prog 139 [.map x6] kR (fun x7 => callT Tryz.prog 66 [x7] kL (fun x8 => K (.slice x8.base x8.len x8.cap)))))))
theorem e73 (t_1 : Option Addr) (dir_2 : Int) (K : KH) : bodyF Tryz.prog tau Tryz.f73 an73 [.pointer t_1, .int .i64 dir_2] K = g73 t_1 dir_2 K := by kernel_rfl
theorem c73 (t_1 : Option Addr) (dir_2 : Int) {K : KH} {σ : H} (h : g73 t_1 dir_2 K σ) : callW Tryz.prog 73 [.pointer t_1, .int .i64 dir_2] K σ := call_of_body mixed Tryz.func73 (by rw [e73]; exact h)


def an79 : Ann := (.q (.q .z))
def g79 (s_1 : ByteArray) (c_2 : Int) (K : KH) : H -> Prop :=
 cvalT Tryz.prog (.func (.func 143) ⟨[]⟩ ⟨[]⟩) [.string s_1, .int .u8 c_2] kI (fun (x3 : Int) => K (.int .i64 x3))
theorem e79 (s_1 : ByteArray) (c_2 : Int) (K : KH) : bodyF Tryz.prog tau Tryz.f79 an79 [.string s_1, .int .u8 c_2] K = g79 s_1 c_2 K := by kernel_rfl
theorem c79 (s_1 : ByteArray) (c_2 : Int) {K : KH} {σ : H} (h : g79 s_1 c_2 K σ) : callW Tryz.prog 79 [.string s_1, .int .u8 c_2] K σ := call_of_body mixed Tryz.func79 (by rw [e79]; exact h)


def an82 : Ann := (.q (.n (.seq (some [(1,.p),(21,.b)]) .r (.h)) (.q (.q .z))))
def g82 (q_1 : Int) (q_2 : Int) (K : KH) : H -> Prop :=
 alW (.cells ⟨[.int .i64 q_1, .int .i64 q_2]⟩ 64 (0, 0)) (fun b3 => letJ (T := Option Addr -> Bool -> H -> Prop) (fun q_5 x6 => brW x6 (K (.pointer none)) (alW (.map #[] 0) (fun b7 => alW (.cells ⟨[.int .i64 2, .int .i64 493, .string (⟨⟨[]⟩⟩ : ByteArray), .int .i64 1, .int .i64 1, .map (some b7)]⟩ 194 (0, 0)) (fun b8 => ptrW q_5 (fun b9 o10 => rdT (rdA 2 b9 o10) (.one (.agg [(.int .i64), (.int .i64)])) (fun (x11 : Int) (x12 : Int) => alW (.map #[] 0) (fun b13 =>
 muW Tryz.prog 198 (.map (some b13)) (.int .i64 1) (.pointer (some ⟨b8, 0, none⟩)) (alW (.cells ⟨[.int .i64 x11, .int .i64 x12, .int .i64 1, .int .i64 0, .map (some b13), .int .i64 1]⟩ 200 (0, 0)) (fun b14 => K (.pointer (some ⟨b14, 0, none⟩))))))))))) (fun j4 => rdT (rdC b3 0) kI (fun (x15 : Int) => brW (decide ((x15 : Int) < 1)) (j4 (some ⟨b3, 0, none⟩) true) (rdT (rdC b3 0) kI (fun (x16 : Int) => brW (decide ((x16 : Int) > 1048576)) (j4 (some ⟨b3, 0, none⟩) true)
 (rdT (rdC b3 1) kI (fun (x17 : Int) => brW (decide ((x17 : Int) < 0)) (j4 (some ⟨b3, 0, none⟩) true) (rdT (rdC b3 1) kI (fun (x18 : Int) => j4 (some ⟨b3, 0, none⟩) (decide ((x18 : Int) > 1073741824)))))))))))
theorem e82 (q_1 : Int) (q_2 : Int) (K : KH) : bodyF Tryz.prog tau Tryz.f82 an82 [.agg ⟨[.int .i64 q_1, .int .i64 q_2]⟩] K = g82 q_1 q_2 K := by kernel_rfl
theorem c82 (q_1 : Int) (q_2 : Int) {K : KH} {σ : H} (h : g82 q_1 q_2 K σ) : callW Tryz.prog 82 [.agg ⟨[.int .i64 q_1, .int .i64 q_2]⟩] K σ := call_of_body mixed Tryz.func82 (by rw [e82]; exact h)


def an88 : Ann := (.q (.n (.blk (.q (.cond (.q .z) (.seq (some [(1,.p),(8,.b)]) .r (.h))))) (.n (.q (.seq (some [(27,.b)]) .r (.h))) (.q .z))))
def g88 (n_1 : ByteArray) (n_2 : Int) (n_3 : Bool) (n_4 : ByteArray) (n_5 : Sl) (K : KH) : H -> Prop :=
 alW (.cells ⟨[.string n_1, .int .i64 n_2, .bool n_3, .string n_4, .slice n_5.base n_5.len n_5.cap]⟩ 73 (0, 0)) (fun b6 => rdT (rdA 5 b6 0) (.one (.agg [.str, (.int .i64), .bool, .str, .slc])) (fun (x7 : ByteArray) (x8 : Int) (x9 : Bool) (x10 : ByteArray) (x11 : Sl) => callT Tryz.prog 103 [.agg ⟨[.string x7, .int .i64 x8, .bool x9, .string x10, .slice x11.base x11.len x11.cap]⟩] kB (fun x12 => brW x12 (K (.int .i64 3)) (letJ (T := Option Addr -> Bool -> H -> Prop) (fun n_14 x15 => brW x15
 (K (.int .i64 2)) (ptrW n_14 (fun b16 o17 => rdT (rdA 5 b16 o17) (.one (.agg [.str, (.int .i64), .bool, .str, .slc])) (fun (x18 : ByteArray) (x19 : Int) (x20 : Bool) (x21 : ByteArray) (x22 : Sl) => callT Tryz.prog 118 [.agg ⟨[.string x18, .int .i64 x19, .bool x20, .string x21, .slice x22.base x22.len x22.cap]⟩] (.tup [.sc (.int .i64), .sc (.int .i64)]) (fun (x23 : Int) (x24 : Int) => letJ (T := Bool -> H -> Prop) (fun x26 => brW x26 (K (.int .i64 3)) (K (.int .i64 0))) (fun j25 =>
 brW (decide ((x23 : Int) > 2000)) (j25 true) (j25 (decide ((x24 : Int) > 100000))))))))) (fun j13 => rdT (rdC b6 0) kS (fun (x27 : ByteArray) => brW (!strEq x27 (⟨⟨[]⟩⟩ : ByteArray)) (j13 (some ⟨b6, 0, none⟩) true) (rdT (rdA 5 b6 0) (.one (.agg [.str, (.int .i64), .bool, .str, .slc])) (fun (x28 : ByteArray) (x29 : Int) (x30 : Bool) (x31 : ByteArray) (x32 : Sl) => callT Tryz.prog 154 [.agg ⟨[.string x28, .int .i64 x29, .bool x30, .string x31, .slice x32.base x32.len x32.cap]⟩] kB (fun x33 =>
 j13 (some ⟨b6, 0, none⟩) (!x33))))))))))
theorem e88 (n_1 : ByteArray) (n_2 : Int) (n_3 : Bool) (n_4 : ByteArray) (n_5 : Sl) (K : KH) : bodyF Tryz.prog tau Tryz.f88 an88 [.agg ⟨[.string n_1, .int .i64 n_2, .bool n_3, .string n_4, .slice n_5.base n_5.len n_5.cap]⟩] K = g88 n_1 n_2 n_3 n_4 n_5 K := by kernel_rfl
theorem c88 (n_1 : ByteArray) (n_2 : Int) (n_3 : Bool) (n_4 : ByteArray) (n_5 : Sl) {K : KH} {σ : H} (h : g88 n_1 n_2 n_3 n_4 n_5 K σ) : callW Tryz.prog 88 [.agg ⟨[.string n_1, .int .i64 n_2, .bool n_3, .string n_4, .slice n_5.base n_5.len n_5.cap]⟩] K σ := call_of_body mixed Tryz.func88 (by rw [e88]; exact h)


def an92 : Ann := (.q (.q .z))
def g92 (f_1 : Option Addr) (K : KH) : H -> Prop :=
 brW f_1.isNone (K (.bool true)) (ptrW f_1 (fun b2 o3 => rdT (rdC b2 o3) kP (fun x4 => K (.bool x4.isNone))))
theorem e92 (f_1 : Option Addr) (K : KH) : bodyF Tryz.prog tau Tryz.f92 an92 [.pointer f_1] K = g92 f_1 K := by kernel_rfl
theorem c92 (f_1 : Option Addr) {K : KH} {σ : H} (h : g92 f_1 K σ) : callW Tryz.prog 92 [.pointer f_1] K σ := call_of_body mixed Tryz.func92 (by rw [e92]; exact h)


def an93 : Ann := (.q (.n (.q (.h)) (.q .z)))
def g93 (t_1 : Option Addr) (K : KH) : H -> Prop :=
 alW (.cells ⟨[.int .i64 0, .int .i64 0]⟩ 64 (0, 0)) (fun b2 => brW t_1.isNone (stW Tryz.prog 64 (.pointer (some ⟨b2, 0, none⟩)) (.agg ⟨[.int .i64 0, .int .i64 0]⟩) (rdT (rdA 2 b2 0) (.one (.agg [(.int .i64), (.int .i64)])) (fun (r3 : Int) (r4 : Int) => K (.agg ⟨[.int .i64 r3, .int .i64 r4]⟩)))) (ptrW t_1 (fun b5 o6 => rdT (rdA 2 b5 (o6 + 2)) (.one (.agg [(.int .i64), (.int .i64)])) (fun (x7 : Int) (x8 : Int) =>
 stW Tryz.prog 64 (.pointer (some ⟨b2, 0, none⟩)) (.agg ⟨[.int .i64 x7, .int .i64 x8]⟩) (rdT (rdA 2 b2 0) (.one (.agg [(.int .i64), (.int .i64)])) (fun (r9 : Int) (r10 : Int) => K (.agg ⟨[.int .i64 r9, .int .i64 r10]⟩)))))))
theorem e93 (t_1 : Option Addr) (K : KH) : bodyF Tryz.prog tau Tryz.f93 an93 [.pointer t_1] K = g93 t_1 K := by kernel_rfl
theorem c93 (t_1 : Option Addr) {K : KH} {σ : H} (h : g93 t_1 K σ) : callW Tryz.prog 93 [.pointer t_1] K σ := call_of_body mixed Tryz.func93 (by rw [e93]; exact h)


def an94 : Ann := (.q (.q (.n (.blk (.q (.cond (.q .z) (.q (.h))))) (.q .z))))
def g94 (f_1 : Option Addr) (cwd_2 : ByteArray) (path_3 : ByteArray) (do_4 : Value) (K : KH) : H -> Prop :=
 callT Tryz.prog 98 [.pointer f_1, .string cwd_2, .string path_3, .bool false] (.tup [.agg [(.int .i64), .str, (.int .i64), .bool], .sc (.int .i64)]) (fun (x5 : Int) (x6 : ByteArray) (x7 : Int) (x8 : Bool) (x9 : Int) => alW (.cells ⟨[.int .i64 0, .string (⟨⟨[]⟩⟩ : ByteArray), .int .i64 0, .bool false]⟩ 142 (0, 0)) (fun b10 => stW Tryz.prog 142 (.pointer (some ⟨b10, 0, none⟩)) (.agg ⟨[.int .i64 x5, .string x6, .int .i64 x7, .bool x8]⟩) (brW ((x9 : Int) != 0) (K (.int .i64 x9))
 (rdT (rdC b10 3) kB (fun x11 => brW x11 (K (.int .i64 6)) (rdT (rdA 4 b10 0) (.one (.agg [(.int .i64), .str, (.int .i64), .bool])) (fun (x12 : Int) (x13 : ByteArray) (x14 : Int) (x15 : Bool) => cvalT Tryz.prog do_4 [.agg ⟨[.int .i64 x12, .string x13, .int .i64 x14, .bool x15]⟩] kI (fun (x16 : Int) => K (.int .i64 x16)))))))))
theorem e94 (f_1 : Option Addr) (cwd_2 : ByteArray) (path_3 : ByteArray) (do_4 : Value) (K : KH) : bodyF Tryz.prog tau Tryz.f94 an94 [.pointer f_1, .string cwd_2, .string path_3, do_4] K = g94 f_1 cwd_2 path_3 do_4 K := by kernel_rfl
theorem c94 (f_1 : Option Addr) (cwd_2 : ByteArray) (path_3 : ByteArray) (do_4 : Value) {K : KH} {σ : H} (h : g94 f_1 cwd_2 path_3 do_4 K σ) : callW Tryz.prog 94 [.pointer f_1, .string cwd_2, .string path_3, do_4] K σ := call_of_body mixed Tryz.func94 (by rw [e94]; exact h)


def an95 : Ann := (.q (.n (.reg (rn 15) [[],[0],[0,1],[0,1,2],[],[4],[],[6],[],(rn 9),(rn 10),(rn 11),(rn 11),(rn 12),(rn 14)]) (.q .z)))
def g95 (p_1 : Int) (p_2 : ByteArray) (p_3 : Int) (p_4 : Bool) (x5 : Option Addr) (x6 : Option Addr) (K : KH) : H -> Prop :=
 alW (.cells ⟨[.int .i64 p_1, .string p_2, .int .i64 p_3, .bool p_4]⟩ 142 (0, 0)) (fun b7 => ptrW x5 (fun b8 o9 => rdT (rdC b8 o9) kP (fun x10 => ptrW x10 (fun b11 o12 => rdT (rdC b11 o12) kP (fun x13 => rdT (rdC b7 0) kI (fun (x14 : Int) => rdT (rdC b7 1) kS (fun (x15 : ByteArray) => ptrW x6 (fun b16 o17 => rdT (rdC b16 o17) kS (fun (x18 : ByteArray) =>
 callT Tryz.prog 96 [.pointer x13, .int .i64 x14, .string x15, .int .i64 3, .int .i64 511, .string x18] (.tup [.sc (.int .i64), .sc (.int .i64)]) (fun (_x19 : Int) (x20 : Int) => K (.int .i64 x20)))))))))))
theorem e95 (p_1 : Int) (p_2 : ByteArray) (p_3 : Int) (p_4 : Bool) (x5 : Option Addr) (x6 : Option Addr) (K : KH) : bodyF Tryz.prog tau Tryz.f95 an95 [.agg ⟨[.int .i64 p_1, .string p_2, .int .i64 p_3, .bool p_4]⟩, .pointer x5, .pointer x6] K = g95 p_1 p_2 p_3 p_4 x5 x6 K := by kernel_rfl
theorem c95 (p_1 : Int) (p_2 : ByteArray) (p_3 : Int) (p_4 : Bool) (x5 : Option Addr) (x6 : Option Addr) {K : KH} {σ : H} (h : g95 p_1 p_2 p_3 p_4 x5 x6 K σ) : callW Tryz.prog 95 [.agg ⟨[.int .i64 p_1, .string p_2, .int .i64 p_3, .bool p_4]⟩, .pointer x5, .pointer x6] K σ := call_of_body mixed Tryz.func95 (by rw [e95]; exact h)


def an96 : Ann := (.q (.q (.n (.n (.reg [0,1,2,3,5,7,8,4,6,9,10,11,12,13,14,15] [[],[0],[],[],[2,3],[],[2,3,4,5],[],[],[],[],[2,3,4,5,6,8,9,10],[],(rn 13),(rn 14),(rn 15)]) (.q (.h))) (.q (.q (.seq (some [(1,.i),(2,.s),(6,.p),(11,.p),(16,.p)]) (.q (.cond .r .z)) (.n (.reg (rn 10) [[],[0],[0,1],[0,1,2],[],[4],[4,5],[4,5,6],[],(rn 9)]) (.n (.reg (rn 15) [[],[0],[0,1],[0,1,2],[],(rn 5),(rn 6),(rn 7),(rn 8),[],[],[10],[10,11],[10,11,12],(rn 14)]) (.q (.n (.reg (rn 12) [[],[0],[0,1],[0,1,2],(rn 4),[],[5],(rn 7),(rn 8),(rn 9),(rn 10),(rn 11)]) (.q .z)))))))))))
def g96 (t_1 : Option Addr) (dir_2 : Int) (name_3 : ByteArray) (kind_4 : Int) (mode_5 : Int) (data_6 : ByteArray) (K : KH) : H -> Prop :=
 alW (.cells ⟨[.pointer t_1]⟩ 108 (0, 0)) (fun b7 => alW (.cells ⟨[.int .i64 kind_4]⟩ 3 (0, 0)) (fun b8 => alW (.cells ⟨[.int .i64 mode_5]⟩ 3 (0, 0)) (fun b9 => alW (.cells ⟨[.string data_6]⟩ 9 (0, 0)) (fun b10 => rdT (rdC b7 0) kP (fun x11 => rdT (rdC b7 0) kP (fun x12 => rdT (rdC b7 0) kP (fun x13 => callT Tryz.prog 164 [.pointer x12, .int .i64 dir_2] kR (fun x14 => andW (fun σ => (rdC b7 0) σ = some (.pointer x13)) (andW (fun σ => (rdC b7 0) σ = some (.pointer x11))
 (callT Tryz.prog 165 [.string name_3] kR (fun x15 => andW (fun σ => (rdC b7 0) σ = some (.pointer x13)) (andW (fun σ => (rdC b7 0) σ = some (.pointer x11)) (callT Tryz.prog 166 [.pointer x13, .int .i64 dir_2, .string name_3] kR (fun x16 => andW (fun σ => (rdC b7 0) σ = some (.pointer x11)) (oneK x14 (oneK x15 (oneK x16
 (alW (.cells ⟨[.func (.func 163) ⟨[.pointer x11]⟩ ⟨[]⟩, x14, x15, .func (.func 160) ⟨[]⟩ ⟨[.pointer (some ⟨b10, 0, none⟩), .pointer (some ⟨b8, 0, none⟩), .pointer (some ⟨b9, 0, none⟩)]⟩, x16, .func (.func 167) ⟨[]⟩ ⟨[.pointer (some ⟨b7, 0, none⟩), .pointer (some ⟨b10, 0, none⟩)]⟩]⟩ 204 (0, 0)) (fun b17 => callT Tryz.prog 162 [.slice (some ⟨b17, 0, none⟩) 6 6] kI (fun (x18 : Int) => brW ((x18 : Int) != 0) (K (.tuple ⟨[.int .i64 0, .int .i64 x18]⟩)) (rdT (rdC b7 0) kP (fun x19 =>
 ptrW x19 (fun b20 o21 => rdT (rdC b20 (o21 + 5)) kI (fun (x22 : Int) => ptrW x19 (fun b23 o24 => stW Tryz.prog 3 (.pointer (some ⟨b23, o24 + 5, none⟩)) (.int .i64 (IntKind.i64.wrap (x22 + 1))) (rdT (rdC b8 0) kI (fun (x25 : Int) => rdT (rdC b9 0) kI (fun (x26 : Int) => rdT (rdC b10 0) kS (fun (x27 : ByteArray) => alW (.cells ⟨[.int .i64 x25, .int .i64 x26, .string x27, .int .i64 1, .int .i64 0, .map none]⟩ 194 (0, 0)) (fun b28 =>
 letJ (T := Int -> ByteArray -> Option Addr -> Option Addr -> Option Addr -> H -> Prop) (fun dir_30 name_31 t_32 data_33 n_34 => ptrW t_32 (fun b35 o36 => rdT (rdC b35 o36) kP (fun x37 => ptrW x37 (fun b38 o39 => rdT (rdC b38 (o39 + 4)) kM (fun (x40 : Option Nat) => ptrW t_32 (fun b41 o42 => rdT (rdC b41 o42) kP (fun x43 => ptrW x43 (fun b44 o45 => rdT (rdC b44 (o45 + 5)) kI (fun (x46 : Int) => muW Tryz.prog 198 (.map x40) (.int .i64 x46) (.pointer n_34) (ptrW t_32 (fun b47 o48 =>
 rdT (rdC b47 o48) kP (fun x49 => ptrW x49 (fun b50 o51 => rdT (rdC b50 (o51 + 4)) kM (fun (x52 : Option Nat) => rdT (rdM (.int .i64) (.pointer none) false x52 (.int .i64 dir_30)) kP (fun x53 => ptrW x53 (fun b54 o55 => rdT (rdC b54 (o55 + 5)) kM (fun (x56 : Option Nat) => ptrW t_32 (fun b57 o58 => rdT (rdC b57 o58) kP (fun x59 => ptrW x59 (fun b60 o61 => rdT (rdC b60 (o61 + 5)) kI (fun (x62 : Int) => muW Tryz.prog 192 (.map x56) (.string name_31) (.int .i64 x62) (ptrW t_32 (fun b63 o64 =>
 rdT (rdC b63 o64) kP (fun x65 => ptrW x65 (fun b66 o67 => rdT (rdC b66 (o67 + 2)) kI (fun (x68 : Int) => ptrW x65 (fun b69 o70 => stW Tryz.prog 3 (.pointer (some ⟨b69, o70 + 2, none⟩)) (.int .i64 (IntKind.i64.wrap (x68 + 1))) (ptrW t_32 (fun b71 o72 => rdT (rdC b71 o72) kP (fun x73 => ptrW x73 (fun b74 o75 => rdT (rdC b74 (o75 + 3)) kI (fun (x76 : Int) => ptrW data_33 (fun b77 o78 => rdT (rdC b77 o78) kS (fun (x79 : ByteArray) => ptrW x73 (fun b80 o81 =>
 stW Tryz.prog 3 (.pointer (some ⟨b80, o81 + 3, none⟩)) (.int .i64 (IntKind.i64.wrap (x76 + ((x79.size : Nat) : Int)))) (ptrW t_32 (fun b82 o83 => rdT (rdC b82 o83) kP (fun x84 => ptrW x84 (fun b85 o86 => rdT (rdC b85 (o86 + 5)) kI (fun (x87 : Int) => K (.tuple ⟨[.int .i64 x87, .int .i64 0]⟩))))))))))))))))))))))))))))))))))))))))) (fun j29 => rdT (rdC b8 0) kI (fun (x88 : Int) => brW ((x88 : Int) == 2) (alW (.map #[] 0) (fun b89 =>
 stW Tryz.prog 3 (.pointer (some ⟨b28, 4, none⟩)) (.int .i64 dir_2) (stW Tryz.prog 192 (.pointer (some ⟨b28, 5, none⟩)) (.map (some b89)) (j29 dir_2 name_3 (some ⟨b7, 0, none⟩) (some ⟨b10, 0, none⟩) (some ⟨b28, 0, none⟩))))) (j29 dir_2 name_3 (some ⟨b7, 0, none⟩) (some ⟨b10, 0, none⟩) (some ⟨b28, 0, none⟩))))))))))))))))))))))))))))))))))
theorem e96 (t_1 : Option Addr) (dir_2 : Int) (name_3 : ByteArray) (kind_4 : Int) (mode_5 : Int) (data_6 : ByteArray) (K : KH) : bodyF Tryz.prog tau Tryz.f96 an96 [.pointer t_1, .int .i64 dir_2, .string name_3, .int .i64 kind_4, .int .i64 mode_5, .string data_6] K = g96 t_1 dir_2 name_3 kind_4 mode_5 data_6 K := by kernel_rfl
theorem c96 (t_1 : Option Addr) (dir_2 : Int) (name_3 : ByteArray) (kind_4 : Int) (mode_5 : Int) (data_6 : ByteArray) {K : KH} {σ : H} (h : g96 t_1 dir_2 name_3 kind_4 mode_5 data_6 K σ) : callW Tryz.prog 96 [.pointer t_1, .int .i64 dir_2, .string name_3, .int .i64 kind_4, .int .i64 mode_5, .string data_6] K σ := call_of_body mixed Tryz.func96 (by rw [e96]; exact h)


def an98 : Ann := (.q (.n (.q (.h)) (.q (.n (.q (.h)) (.seq (some [(0,.p),(2,.s),(3,.b),(8,.p),(10,.i),(11,.p)]) (.q (.cond (.n (.q (.h)) (.q (.n (.blk (.q (.cond (.q .z) (.q (.cond (.q .z) (.q (.h))))))) .r))) .z)) (.q .z))))))
def g98 (f_1 : Option Addr) (cwd_2 : ByteArray) (path_3 : ByteArray) (follow_4 : Bool) (K : KH) : H -> Prop :=
 alW (.cells ⟨[.int .i64 0, .string (⟨⟨[]⟩⟩ : ByteArray), .int .i64 0, .bool false]⟩ 142 (0, 0)) (fun b5 => callT Tryz.prog 92 [.pointer f_1] kB (fun x6 => brW x6 (stW Tryz.prog 142 (.pointer (some ⟨b5, 0, none⟩)) (.agg ⟨[.int .i64 0, .string (⟨⟨[]⟩⟩ : ByteArray), .int .i64 0, .bool false]⟩) (rdT (rdA 4 b5 0) (.one (.agg [(.int .i64), .str, (.int .i64), .bool])) (fun (r7 : Int) (r8 : ByteArray) (r9 : Int) (r10 : Bool) =>
 K (.tuple ⟨[.agg ⟨[.int .i64 r7, .string r8, .int .i64 r9, .bool r10]⟩, .int .i64 1]⟩)))) (ptrW f_1 (fun b11 o12 => rdT (rdC b11 o12) kP (fun x13 => callT Tryz.prog 123 [.pointer x13] kI (fun (x14 : Int) => alW (.cells ⟨[.int .i64 0]⟩ 3 (0, 0)) (fun b15 => stW Tryz.prog 3 (.pointer (some ⟨b15, 0, none⟩)) (.int .i64 8) (brW (strEq path_3 (⟨⟨[]⟩⟩ : ByteArray))
 (stW Tryz.prog 142 (.pointer (some ⟨b5, 0, none⟩)) (.agg ⟨[.int .i64 0, .string (⟨⟨[]⟩⟩ : ByteArray), .int .i64 0, .bool false]⟩) (rdT (rdA 4 b5 0) (.one (.agg [(.int .i64), .str, (.int .i64), .bool])) (fun (r16 : Int) (r17 : ByteArray) (r18 : Int) (r19 : Bool) => K (.tuple ⟨[.agg ⟨[.int .i64 r16, .string r17, .int .i64 r18, .bool r19]⟩, .int .i64 5]⟩)))) (letJ (T := Option Addr -> ByteArray -> Bool -> Option Addr -> Int -> Option Addr -> H -> Prop) (fun f_21 path_22 follow_23 x24 at_25 hops_26 =>
 callT Tryz.prog 170 [.pointer f_21, .int .i64 at_25, .string path_22, .bool follow_23, .pointer hops_26] (.tup [.agg [(.int .i64), .str, (.int .i64), .bool], .sc (.int .i64)]) (fun (x27 : Int) (x28 : ByteArray) (x29 : Int) (x30 : Bool) (x31 : Int) => stW Tryz.prog 142 (.pointer x24) (.agg ⟨[.int .i64 x27, .string x28, .int .i64 x29, .bool x30]⟩) (ptrW x24 (fun b32 o33 =>
 rdT (rdA 4 b32 o33) (.one (.agg [(.int .i64), .str, (.int .i64), .bool])) (fun (r34 : Int) (r35 : ByteArray) (r36 : Int) (r37 : Bool) => K (.tuple ⟨[.agg ⟨[.int .i64 r34, .string r35, .int .i64 r36, .bool r37]⟩, .int .i64 x31]⟩)))))) (fun j20 => idxW path_3 0 (fun c38 => brW (((c38.toNat : Int) : Int) != 47) (callT Tryz.prog 106 [.string cwd_2, .string (⟨⟨[47]⟩⟩ : ByteArray)] kB (fun x39 => brW (!x39)
 (stW Tryz.prog 142 (.pointer (some ⟨b5, 0, none⟩)) (.agg ⟨[.int .i64 0, .string (⟨⟨[]⟩⟩ : ByteArray), .int .i64 0, .bool false]⟩) (rdT (rdA 4 b5 0) (.one (.agg [(.int .i64), .str, (.int .i64), .bool])) (fun (r40 : Int) (r41 : ByteArray) (r42 : Int) (r43 : Bool) => K (.tuple ⟨[.agg ⟨[.int .i64 r40, .string r41, .int .i64 r42, .bool r43]⟩, .int .i64 5]⟩))))
 (callT Tryz.prog 170 [.pointer f_1, .int .i64 x14, .string cwd_2, .bool true, .pointer (some ⟨b15, 0, none⟩)] (.tup [.agg [(.int .i64), .str, (.int .i64), .bool], .sc (.int .i64)]) (fun (x44 : Int) (x45 : ByteArray) (x46 : Int) (x47 : Bool) (x48 : Int) => alW (.cells ⟨[.int .i64 0, .string (⟨⟨[]⟩⟩ : ByteArray), .int .i64 0, .bool false]⟩ 142 (0, 0)) (fun b49 =>
 stW Tryz.prog 142 (.pointer (some ⟨b49, 0, none⟩)) (.agg ⟨[.int .i64 x44, .string x45, .int .i64 x46, .bool x47]⟩) (brW ((x48 : Int) != 0) (stW Tryz.prog 142 (.pointer (some ⟨b5, 0, none⟩)) (.agg ⟨[.int .i64 0, .string (⟨⟨[]⟩⟩ : ByteArray), .int .i64 0, .bool false]⟩) (rdT (rdA 4 b5 0) (.one (.agg [(.int .i64), .str, (.int .i64), .bool])) (fun (r50 : Int) (r51 : ByteArray) (r52 : Int) (r53 : Bool) => K (.tuple ⟨[.agg ⟨[.int .i64 r50, .string r51, .int .i64 r52, .bool r53]⟩, .int .i64 x48]⟩))))
 (rdT (rdC b49 3) kB (fun x54 => brW (!x54) (stW Tryz.prog 142 (.pointer (some ⟨b5, 0, none⟩)) (.agg ⟨[.int .i64 0, .string (⟨⟨[]⟩⟩ : ByteArray), .int .i64 0, .bool false]⟩) (rdT (rdA 4 b5 0) (.one (.agg [(.int .i64), .str, (.int .i64), .bool])) (fun (r55 : Int) (r56 : ByteArray) (r57 : Int) (r58 : Bool) => K (.tuple ⟨[.agg ⟨[.int .i64 r55, .string r56, .int .i64 r57, .bool r58]⟩, .int .i64 5]⟩)))) (rdT (rdC b49 2) kI (fun (x59 : Int) =>
 callT Tryz.prog 110 [.pointer f_1, .int .i64 x59] kI (fun (x60 : Int) => brW ((x60 : Int) != 2) (stW Tryz.prog 142 (.pointer (some ⟨b5, 0, none⟩)) (.agg ⟨[.int .i64 0, .string (⟨⟨[]⟩⟩ : ByteArray), .int .i64 0, .bool false]⟩) (rdT (rdA 4 b5 0) (.one (.agg [(.int .i64), .str, (.int .i64), .bool])) (fun (r61 : Int) (r62 : ByteArray) (r63 : Int) (r64 : Bool) => K (.tuple ⟨[.agg ⟨[.int .i64 r61, .string r62, .int .i64 r63, .bool r64]⟩, .int .i64 8]⟩)))) (rdT (rdC b49 2) kI (fun (x65 : Int) =>
 stW Tryz.prog 3 (.pointer (some ⟨b15, 0, none⟩)) (.int .i64 8) (j20 f_1 path_3 follow_4 (some ⟨b5, 0, none⟩) x65 (some ⟨b15, 0, none⟩))))))))))))))) (j20 f_1 path_3 follow_4 (some ⟨b5, 0, none⟩) x14 (some ⟨b15, 0, none⟩)))))))))))))
theorem e98 (f_1 : Option Addr) (cwd_2 : ByteArray) (path_3 : ByteArray) (follow_4 : Bool) (K : KH) : bodyF Tryz.prog tau Tryz.f98 an98 [.pointer f_1, .string cwd_2, .string path_3, .bool follow_4] K = g98 f_1 cwd_2 path_3 follow_4 K := by kernel_rfl
theorem c98 (f_1 : Option Addr) (cwd_2 : ByteArray) (path_3 : ByteArray) (follow_4 : Bool) {K : KH} {σ : H} (h : g98 f_1 cwd_2 path_3 follow_4 K σ) : callW Tryz.prog 98 [.pointer f_1, .string cwd_2, .string path_3, .bool follow_4] K σ := call_of_body mixed Tryz.func98 (by rw [e98]; exact h)

end Go.Proofs.YtbjbeajbckcecaaGreatDoor

set_option maxRecDepth 100000
namespace Go.Proofs.YtbjbeajbckcecaaGreatDoor
open Go Go.HL
def an99 : Ann := (.q (.q (.n (.q (.h)) (.q .z))))
def g99 (t_1 : Option Addr) (ino_2 : Int) (K : KH) : H -> Prop :=
 alW (.cells ⟨[.int .i64 0, .int .i64 0, .string (⟨⟨[]⟩⟩ : ByteArray), .int .i64 0]⟩ 35 (0, 0)) (fun b3 => callT Tryz.prog 138 [.pointer t_1, .int .i64 ino_2] kP (fun x4 => brW x4.isNone (stW Tryz.prog 35 (.pointer (some ⟨b3, 0, none⟩)) (.agg ⟨[.int .i64 0, .int .i64 0, .string (⟨⟨[]⟩⟩ : ByteArray), .int .i64 0]⟩) (rdT (rdA 4 b3 0) (.one (.agg [(.int .i64), (.int .i64), .str, (.int .i64)])) (fun (r5 : Int) (r6 : Int) (r7 : ByteArray) (r8 : Int) =>
 K (.tuple ⟨[.agg ⟨[.int .i64 r5, .int .i64 r6, .string r7, .int .i64 r8]⟩, .bool false]⟩)))) (ptrW x4 (fun b9 o10 => rdT (rdA 4 b9 o10) (.one (.agg [(.int .i64), (.int .i64), .str, (.int .i64)])) (fun (x11 : Int) (x12 : Int) (x13 : ByteArray) (x14 : Int) =>
 stW Tryz.prog 35 (.pointer (some ⟨b3, 0, none⟩)) (.agg ⟨[.int .i64 x11, .int .i64 x12, .string x13, .int .i64 x14]⟩) (rdT (rdA 4 b3 0) (.one (.agg [(.int .i64), (.int .i64), .str, (.int .i64)])) (fun (r15 : Int) (r16 : Int) (r17 : ByteArray) (r18 : Int) => K (.tuple ⟨[.agg ⟨[.int .i64 r15, .int .i64 r16, .string r17, .int .i64 r18]⟩, .bool true]⟩))))))))
theorem e99 (t_1 : Option Addr) (ino_2 : Int) (K : KH) : bodyF Tryz.prog tau Tryz.f99 an99 [.pointer t_1, .int .i64 ino_2] K = g99 t_1 ino_2 K := by kernel_rfl
theorem c99 (t_1 : Option Addr) (ino_2 : Int) {K : KH} {σ : H} (h : g99 t_1 ino_2 K σ) : callW Tryz.prog 99 [.pointer t_1, .int .i64 ino_2] K σ := call_of_body mixed Tryz.func99 (by rw [e99]; exact h)


def an100 : Ann := (.q (.q (.n (.n (.reg (rn 9) [[],[0],[],[],[2,3],[],(rn 6),(rn 7),(rn 8)]) (.q (.h))) (.n (.reg (rn 7) [[],[0],[0,1],[0,1,2],[],(rn 5),(rn 6)]) (.n (.reg (rn 19) [[],[0],[0,1],[0,1,2],(rn 4),[],[5],[],[7],[7,8],[7,8,9],[7,8,9,10],[7,8,9,10,11],[5,6,7,8,9,10,11,12],(rn 14),(rn 15),(rn 16),(rn 17),(rn 18)]) (.q (.q .z)))))))
def g100 (t_1 : Option Addr) (ino_2 : Int) (data_3 : ByteArray) (K : KH) : H -> Prop :=
 alW (.cells ⟨[.pointer t_1]⟩ 108 (0, 0)) (fun b4 => alW (.cells ⟨[.int .i64 ino_2]⟩ 3 (0, 0)) (fun b5 => alW (.cells ⟨[.string data_3]⟩ 9 (0, 0)) (fun b6 => rdT (rdC b4 0) kP (fun x7 => rdT (rdC b4 0) kP (fun x8 => rdT (rdC b5 0) kI (fun (x9 : Int) => callT Tryz.prog 172 [.pointer x8, .int .i64 x9] kR (fun x10 => andW (fun σ => (rdC b4 0) σ = some (.pointer x7)) (oneK x10
 (alW (.cells ⟨[.func (.func 163) ⟨[.pointer x7]⟩ ⟨[]⟩, x10, .func (.func 171) ⟨[]⟩ ⟨[.pointer (some ⟨b4, 0, none⟩), .pointer (some ⟨b6, 0, none⟩), .pointer (some ⟨b5, 0, none⟩)]⟩]⟩ 204 (0, 0)) (fun b11 => callT Tryz.prog 162 [.slice (some ⟨b11, 0, none⟩) 3 3] kI (fun (x12 : Int) => brW ((x12 : Int) != 0) (K (.int .i64 x12)) (rdT (rdC b4 0) kP (fun x13 => ptrW x13 (fun b14 o15 => rdT (rdC b14 (o15 + 4)) kM (fun (x16 : Option Nat) => rdT (rdC b5 0) kI (fun (x17 : Int) =>
 rdT (rdM (.int .i64) (.pointer none) false x16 (.int .i64 x17)) kP (fun x18 => rdT (rdC b4 0) kP (fun x19 => ptrW x19 (fun b20 o21 => rdT (rdC b20 (o21 + 3)) kI (fun (x22 : Int) => rdT (rdC b6 0) kS (fun (x23 : ByteArray) => ptrW x18 (fun b24 o25 => rdT (rdC b24 (o25 + 2)) kS (fun (x26 : ByteArray) => ptrW x19 (fun b27 o28 =>
 stW Tryz.prog 3 (.pointer (some ⟨b27, o28 + 3, none⟩)) (.int .i64 (IntKind.i64.wrap (x22 + (IntKind.i64.wrap (((x23.size : Nat) : Int) - ((x26.size : Nat) : Int)))))) (rdT (rdC b6 0) kS (fun (x29 : ByteArray) => ptrW x18 (fun b30 o31 => stW Tryz.prog 9 (.pointer (some ⟨b30, o31 + 2, none⟩)) (.string x29) (K (.int .i64 0)))))))))))))))))))))))))))))
theorem e100 (t_1 : Option Addr) (ino_2 : Int) (data_3 : ByteArray) (K : KH) : bodyF Tryz.prog tau Tryz.f100 an100 [.pointer t_1, .int .i64 ino_2, .string data_3] K = g100 t_1 ino_2 data_3 K := by kernel_rfl
theorem c100 (t_1 : Option Addr) (ino_2 : Int) (data_3 : ByteArray) {K : KH} {σ : H} (h : g100 t_1 ino_2 data_3 K σ) : callW Tryz.prog 100 [.pointer t_1, .int .i64 ino_2, .string data_3] K σ := call_of_body mixed Tryz.func100 (by rw [e100]; exact h)


def an101 : Ann := (.q (.n (.q (.h)) (.n (.reg (rn 14) [[],[0],[0,1],[0,1,2],[],[4],[],[6],(rn 8),(rn 9),(rn 10),(rn 10),(rn 11),(rn 13)]) (.q .z))))
def g101 (p_1 : Int) (p_2 : ByteArray) (p_3 : Int) (p_4 : Bool) (x5 : Option Addr) (K : KH) : H -> Prop :=
 alW (.cells ⟨[.int .i64 p_1, .string p_2, .int .i64 p_3, .bool p_4]⟩ 142 (0, 0)) (fun b6 => ptrW x5 (fun b7 o8 => rdT (rdC b7 o8) kP (fun x9 => rdT (rdC b6 0) kI (fun (x10 : Int) => callT Tryz.prog 102 [.pointer x9, .int .i64 x10] kI (fun (x11 : Int) => brW (decide ((x11 : Int) >= 12)) (K (.int .i64 3)) (ptrW x5 (fun b12 o13 => rdT (rdC b12 o13) kP (fun x14 => ptrW x14 (fun b15 o16 => rdT (rdC b15 o16) kP (fun x17 => rdT (rdC b6 0) kI (fun (x18 : Int) =>
 rdT (rdC b6 1) kS (fun (x19 : ByteArray) => callT Tryz.prog 96 [.pointer x17, .int .i64 x18, .string x19, .int .i64 2, .int .i64 493, .string (⟨⟨[]⟩⟩ : ByteArray)] (.tup [.sc (.int .i64), .sc (.int .i64)]) (fun (_x20 : Int) (x21 : Int) => K (.int .i64 x21))))))))))))))
theorem e101 (p_1 : Int) (p_2 : ByteArray) (p_3 : Int) (p_4 : Bool) (x5 : Option Addr) (K : KH) : bodyF Tryz.prog tau Tryz.f101 an101 [.agg ⟨[.int .i64 p_1, .string p_2, .int .i64 p_3, .bool p_4]⟩, .pointer x5] K = g101 p_1 p_2 p_3 p_4 x5 K := by kernel_rfl
theorem c101 (p_1 : Int) (p_2 : ByteArray) (p_3 : Int) (p_4 : Bool) (x5 : Option Addr) {K : KH} {σ : H} (h : g101 p_1 p_2 p_3 p_4 x5 K σ) : callW Tryz.prog 101 [.agg ⟨[.int .i64 p_1, .string p_2, .int .i64 p_3, .bool p_4]⟩, .pointer x5] K σ := call_of_body mixed Tryz.func101 (by rw [e101]; exact h)


def an102 : Ann := (.q (.q (.n (.blk (.loop [(0,.p),(1,.i),(5,.i)] (.n (.q (.cond .z .z)) (.n (.blk .r) .r)))) (.q .z))))
def g102 (f_1 : Option Addr) (dir_2 : Int) (K : KH) : H -> Prop :=
 loopW [.sc .ptr, .sc (.int .i64), .sc (.int .i64)] (fun (R3 : Option Addr -> Int -> Int -> H -> Prop) => (fun (f_4 : Option Addr) (dir_5 : Int) (n_6 : Int) => ptrW f_4 (fun b7 o8 => rdT (rdC b7 o8) kP (fun x9 => callT Tryz.prog 123 [.pointer x9] kI (fun (x10 : Int) => brW ((dir_5 : Int) != x10) (ptrW f_4 (fun b11 o12 => rdT (rdC b11 o12) kP (fun x13 => callT Tryz.prog 124 [.pointer x13, .int .i64 dir_5] kI (fun (x14 : Int) => R3 f_4 x14 (IntKind.i64.wrap (n_6 + 1))))))
 (K (.int .i64 n_6))))))) (fun (R15 : Option Addr -> Int -> Int -> H -> Prop) => R15 f_1 dir_2 1)
theorem e102 (f_1 : Option Addr) (dir_2 : Int) (K : KH) : bodyF Tryz.prog tau Tryz.f102 an102 [.pointer f_1, .int .i64 dir_2] K = g102 f_1 dir_2 K := by kernel_rfl
theorem c102 (f_1 : Option Addr) (dir_2 : Int) {K : KH} {σ : H} (h : g102 f_1 dir_2 K σ) : callW Tryz.prog 102 [.pointer f_1, .int .i64 dir_2] K σ := call_of_body mixed Tryz.func102 (by rw [e102]; exact h)


def an103 : Ann := (.q (.q .z))
def g103 (n_1 : ByteArray) (n_2 : Int) (n_3 : Bool) (n_4 : ByteArray) (n_5 : Sl) (K : KH) : H -> Prop :=
 alW (.cells ⟨[.string n_1, .int .i64 n_2, .bool n_3, .string n_4, .slice n_5.base n_5.len n_5.cap]⟩ 73 (0, 0)) (fun b6 => rdT (rdA 5 b6 0) (.one (.agg [.str, (.int .i64), .bool, .str, .slc])) (fun (x7 : ByteArray) (x8 : Int) (x9 : Bool) (x10 : ByteArray) (x11 : Sl) => callT Tryz.prog 173 [.agg ⟨[.string x7, .int .i64 x8, .bool x9, .string x10, .slice x11.base x11.len x11.cap]⟩] kI (fun (x12 : Int) => K (.bool (decide ((x12 : Int) > 12))))))
theorem e103 (n_1 : ByteArray) (n_2 : Int) (n_3 : Bool) (n_4 : ByteArray) (n_5 : Sl) (K : KH) : bodyF Tryz.prog tau Tryz.f103 an103 [.agg ⟨[.string n_1, .int .i64 n_2, .bool n_3, .string n_4, .slice n_5.base n_5.len n_5.cap]⟩] K = g103 n_1 n_2 n_3 n_4 n_5 K := by kernel_rfl
theorem c103 (n_1 : ByteArray) (n_2 : Int) (n_3 : Bool) (n_4 : ByteArray) (n_5 : Sl) {K : KH} {σ : H} (h : g103 n_1 n_2 n_3 n_4 n_5 K σ) : callW Tryz.prog 103 [.agg ⟨[.string n_1, .int .i64 n_2, .bool n_3, .string n_4, .slice n_5.base n_5.len n_5.cap]⟩] K σ := call_of_body mixed Tryz.func103 (by rw [e103]; exact h)


def an106 : Ann := (.q (.q .z))
def g106 (s_1 : ByteArray) (prefix_2 : ByteArray) (K : KH) : H -> Prop :=
 callT Tryz.prog 176 [.string s_1, .string prefix_2] kB (fun x3 => K (.bool x3))
theorem e106 (s_1 : ByteArray) (prefix_2 : ByteArray) (K : KH) : bodyF Tryz.prog tau Tryz.f106 an106 [.string s_1, .string prefix_2] K = g106 s_1 prefix_2 K := by kernel_rfl
theorem c106 (s_1 : ByteArray) (prefix_2 : ByteArray) {K : KH} {σ : H} (h : g106 s_1 prefix_2 K σ) : callW Tryz.prog 106 [.string s_1, .string prefix_2] K σ := call_of_body mixed Tryz.func106 (by rw [e106]; exact h)


def an108 : Ann := (.q (.q .z))
def g108  (K : KH) : H -> Prop :=
 alW (.cells ⟨[.int .i64 0, .int .i64 0]⟩ 64 (0, 0)) (fun b1 => stW Tryz.prog 64 (.pointer (some ⟨b1, 0, none⟩)) (.agg ⟨[.int .i64 60, .int .i64 2000]⟩) (rdT (rdA 2 b1 0) (.one (.agg [(.int .i64), (.int .i64)])) (fun (r2 : Int) (r3 : Int) => K (.agg ⟨[.int .i64 r2, .int .i64 r3]⟩))))
theorem e108  (K : KH) : bodyF Tryz.prog tau Tryz.f108 an108 [] K = g108  K := by kernel_rfl
theorem c108  {K : KH} {σ : H} (h : g108  K σ) : callW Tryz.prog 108 [] K σ := call_of_body mixed Tryz.func108 (by rw [e108]; exact h)


def an109 : Ann := (.q (.seq (some [(8,.p),(9,.p),(10,.i)]) (.q (.q (.cond .r .z))) (.n (.reg (rn 6) [[],[],[],[0],[0,1,3],(rn 5)]) .z)))
def g109 (f_1 : Option Addr) (cwd_2 : ByteArray) (from_3 : ByteArray) (to_4 : ByteArray) (K : KH) : H -> Prop :=
 alW (.cells ⟨[.int .i64 0, .string (⟨⟨[]⟩⟩ : ByteArray), .int .i64 0, .bool false]⟩ 142 (0, 0)) (fun b5 => alW (.cells ⟨[.int .i64 0, .string (⟨⟨[]⟩⟩ : ByteArray), .int .i64 0, .bool false]⟩ 142 (0, 0)) (fun b6 => letJ (T := Option Addr -> Option Addr -> Int -> H -> Prop) (fun p_8 q_9 e_10 => ptrW p_8 (fun b11 o12 => rdT (rdA 4 b11 o12) (.one (.agg [(.int .i64), .str, (.int .i64), .bool])) (fun (x13 : Int) (x14 : ByteArray) (x15 : Int) (x16 : Bool) => ptrW q_9 (fun b17 o18 =>
 rdT (rdA 4 b17 o18) (.one (.agg [(.int .i64), .str, (.int .i64), .bool])) (fun (x19 : Int) (x20 : ByteArray) (x21 : Int) (x22 : Bool) => stW Tryz.prog 142 (.pointer p_8) (.agg ⟨[.int .i64 x13, .string x14, .int .i64 x15, .bool x16]⟩) (andW (fun σ => (rdA 4 b17 o18) σ = some (.agg ⟨[.int .i64 x19, .string x20, .int .i64 x21, .bool x22]⟩)) (stW Tryz.prog 142 (.pointer q_9) (.agg ⟨[.int .i64 x19, .string x20, .int .i64 x21, .bool x22]⟩) (ptrW p_8 (fun b23 o24 =>
 rdT (rdA 4 b23 o24) (.one (.agg [(.int .i64), .str, (.int .i64), .bool])) (fun (r25 : Int) (r26 : ByteArray) (r27 : Int) (r28 : Bool) => ptrW q_9 (fun b29 o30 => rdT (rdA 4 b29 o30) (.one (.agg [(.int .i64), .str, (.int .i64), .bool])) (fun (r31 : Int) (r32 : ByteArray) (r33 : Int) (r34 : Bool) => K (.tuple ⟨[.agg ⟨[.int .i64 r25, .string r26, .int .i64 r27, .bool r28]⟩, .agg ⟨[.int .i64 r31, .string r32, .int .i64 r33, .bool r34]⟩, .int .i64 e_10]⟩))))))))))))) (fun j7 =>
 callT Tryz.prog 98 [.pointer f_1, .string cwd_2, .string from_3, .bool false] (.tup [.agg [(.int .i64), .str, (.int .i64), .bool], .sc (.int .i64)]) (fun (x35 : Int) (x36 : ByteArray) (x37 : Int) (x38 : Bool) (x39 : Int) => stW Tryz.prog 142 (.pointer (some ⟨b5, 0, none⟩)) (.agg ⟨[.int .i64 x35, .string x36, .int .i64 x37, .bool x38]⟩) (brW ((x39 : Int) == 0)
 (callT Tryz.prog 98 [.pointer f_1, .string cwd_2, .string to_4, .bool false] (.tup [.agg [(.int .i64), .str, (.int .i64), .bool], .sc (.int .i64)]) (fun (x40 : Int) (x41 : ByteArray) (x42 : Int) (x43 : Bool) (x44 : Int) => stW Tryz.prog 142 (.pointer (some ⟨b6, 0, none⟩)) (.agg ⟨[.int .i64 x40, .string x41, .int .i64 x42, .bool x43]⟩) (j7 (some ⟨b5, 0, none⟩) (some ⟨b6, 0, none⟩) x44))) (j7 (some ⟨b5, 0, none⟩) (some ⟨b6, 0, none⟩) x39))))))
theorem e109 (f_1 : Option Addr) (cwd_2 : ByteArray) (from_3 : ByteArray) (to_4 : ByteArray) (K : KH) : bodyF Tryz.prog tau Tryz.f109 an109 [.pointer f_1, .string cwd_2, .string from_3, .string to_4] K = g109 f_1 cwd_2 from_3 to_4 K := by kernel_rfl
theorem c109 (f_1 : Option Addr) (cwd_2 : ByteArray) (from_3 : ByteArray) (to_4 : ByteArray) {K : KH} {σ : H} (h : g109 f_1 cwd_2 from_3 to_4 K σ) : callW Tryz.prog 109 [.pointer f_1, .string cwd_2, .string from_3, .string to_4] K σ := call_of_body mixed Tryz.func109 (by rw [e109]; exact h)


def an110 : Ann := (.q (.q (.q .z)))
def g110 (f_1 : Option Addr) (ino_2 : Int) (K : KH) : H -> Prop :=
 ptrW f_1 (fun b3 o4 => rdT (rdC b3 o4) kP (fun x5 => callT Tryz.prog 99 [.pointer x5, .int .i64 ino_2] (.tup [.agg [(.int .i64), (.int .i64), .str, (.int .i64)], .sc .bool]) (fun (x6 : Int) (x7 : Int) (x8 : ByteArray) (x9 : Int) (_x10 : Bool) => alW (.cells ⟨[.int .i64 0, .int .i64 0, .string (⟨⟨[]⟩⟩ : ByteArray), .int .i64 0]⟩ 35 (0, 0)) (fun b11 =>
 stW Tryz.prog 35 (.pointer (some ⟨b11, 0, none⟩)) (.agg ⟨[.int .i64 x6, .int .i64 x7, .string x8, .int .i64 x9]⟩) (rdT (rdC b11 0) kI (fun (x12 : Int) => K (.int .i64 x12)))))))
theorem e110 (f_1 : Option Addr) (ino_2 : Int) (K : KH) : bodyF Tryz.prog tau Tryz.f110 an110 [.pointer f_1, .int .i64 ino_2] K = g110 f_1 ino_2 K := by kernel_rfl
theorem c110 (f_1 : Option Addr) (ino_2 : Int) {K : KH} {σ : H} (h : g110 f_1 ino_2 K σ) : callW Tryz.prog 110 [.pointer f_1, .int .i64 ino_2] K σ := call_of_body mixed Tryz.func110 (by rw [e110]; exact h)


def an111 : Ann := (.q (.n (.q (.q (.h))) (.q (.q (.q .z)))))
def g111 (t_1 : Option Addr) (dir_2 : Int) (name_3 : ByteArray) (ino_4 : Int) (K : KH) : H -> Prop :=
 callT Tryz.prog 164 [.pointer t_1, .int .i64 dir_2] kR (fun x5 => callT Tryz.prog 165 [.string name_3] kR (fun x6 => callT Tryz.prog 172 [.pointer t_1, .int .i64 ino_4] kR (fun x7 => callT Tryz.prog 166 [.pointer t_1, .int .i64 dir_2, .string name_3] kR (fun x8 => oneK x5 (oneK x6 (oneK x7 (oneK x8 (alW (.cells ⟨[.func (.func 163) ⟨[.pointer t_1]⟩ ⟨[]⟩, x5, x6, x7, x8]⟩ 204 (0, 0)) (fun b9 => callT Tryz.prog 162 [.slice (some ⟨b9, 0, none⟩) 5 5] kI (fun (x10 : Int) => brW ((x10 : Int) != 0)
 (K (.int .i64 x10)) (ptrW t_1 (fun b11 o12 => rdT (rdC b11 (o12 + 4)) kM (fun (x13 : Option Nat) => rdT (rdM (.int .i64) (.pointer none) false x13 (.int .i64 dir_2)) kP (fun x14 => ptrW x14 (fun b15 o16 => rdT (rdC b15 (o16 + 5)) kM (fun (x17 : Option Nat) => muW Tryz.prog 192 (.map x17) (.string name_3) (.int .i64 ino_4) (ptrW t_1 (fun b18 o19 => rdT (rdC b18 (o19 + 4)) kM (fun (x20 : Option Nat) => rdT (rdM (.int .i64) (.pointer none) false x20 (.int .i64 ino_4)) kP (fun x21 =>
 ptrW x21 (fun b22 o23 => rdT (rdC b22 (o23 + 3)) kI (fun (x24 : Int) => ptrW x21 (fun b25 o26 => stW Tryz.prog 3 (.pointer (some ⟨b25, o26 + 3, none⟩)) (.int .i64 (IntKind.i64.wrap (x24 + 1))) (K (.int .i64 0)))))))))))))))))))))))))
theorem e111 (t_1 : Option Addr) (dir_2 : Int) (name_3 : ByteArray) (ino_4 : Int) (K : KH) : bodyF Tryz.prog tau Tryz.f111 an111 [.pointer t_1, .int .i64 dir_2, .string name_3, .int .i64 ino_4] K = g111 t_1 dir_2 name_3 ino_4 K := by kernel_rfl
theorem c111 (t_1 : Option Addr) (dir_2 : Int) (name_3 : ByteArray) (ino_4 : Int) {K : KH} {σ : H} (h : g111 t_1 dir_2 name_3 ino_4 K σ) : callW Tryz.prog 111 [.pointer t_1, .int .i64 dir_2, .string name_3, .int .i64 ino_4] K σ := call_of_body mixed Tryz.func111 (by rw [e111]; exact h)


def an112 : Ann := (.q (.q (.n (.n (.reg [0,1,2,3,5,6,7,4,8,9,10,11,12] [[],[0],[],[],[2,3],[],[],[],[2,3,4,5,6,7],[],(rn 10),(rn 11),(rn 12)]) (.q (.h))) (.q (.n (.reg (rn 11) [[],[0],[0,1],[0,1,2],[],(rn 5),(rn 6),(rn 7),(rn 8),[],(rn 10)]) (.q (.seq (some []) (.q (.q (.cond (.q (.q (.reg (rn 16) [[],[0],[0,1],[0,1,2],(rn 4),[],[5],[5,6],[5,6,7],[5,6,7,8],[5,6,7,8,9],(rn 11),(rn 12),(rn 13),(rn 14),(rn 15)]))) .z))) (.q .z))))))))
def g112 (t_1 : Option Addr) (dir_2 : Int) (name_3 : ByteArray) (K : KH) : H -> Prop :=
 alW (.cells ⟨[.pointer t_1]⟩ 108 (0, 0)) (fun b4 => alW (.cells ⟨[.int .i64 dir_2]⟩ 3 (0, 0)) (fun b5 => alW (.cells ⟨[.string name_3]⟩ 9 (0, 0)) (fun b6 => rdT (rdC b4 0) kP (fun x7 => rdT (rdC b4 0) kP (fun x8 => rdT (rdC b5 0) kI (fun (x9 : Int) => rdT (rdC b4 0) kP (fun x10 => rdT (rdC b5 0) kI (fun (x11 : Int) => rdT (rdC b6 0) kS (fun (x12 : ByteArray) => callT Tryz.prog 164 [.pointer x8, .int .i64 x9] kR (fun x13 => andW (fun σ => (rdC b6 0) σ = some (.string x12))
 (andW (fun σ => (rdC b5 0) σ = some (.int .i64 x11)) (andW (fun σ => (rdC b4 0) σ = some (.pointer x10)) (andW (fun σ => (rdC b4 0) σ = some (.pointer x7)) (callT Tryz.prog 178 [.pointer x10, .int .i64 x11, .string x12] kR (fun x14 => andW (fun σ => (rdC b4 0) σ = some (.pointer x7)) (oneK x13 (oneK x14
 (alW (.cells ⟨[.func (.func 163) ⟨[.pointer x7]⟩ ⟨[]⟩, x13, x14, .func (.func 177) ⟨[]⟩ ⟨[.pointer (some ⟨b4, 0, none⟩), .pointer (some ⟨b5, 0, none⟩), .pointer (some ⟨b6, 0, none⟩)]⟩]⟩ 204 (0, 0)) (fun b15 => callT Tryz.prog 162 [.slice (some ⟨b15, 0, none⟩) 4 4] kI (fun (x16 : Int) => brW ((x16 : Int) != 0) (K (.int .i64 x16)) (rdT (rdC b4 0) kP (fun x17 => rdT (rdC b5 0) kI (fun (x18 : Int) => rdT (rdC b6 0) kS (fun (x19 : ByteArray) =>
 callT Tryz.prog 125 [.pointer x17, .int .i64 x18, .string x19] (.tup [.sc (.int .i64), .sc .bool]) (fun (x20 : Int) (_x21 : Bool) => rdT (rdC b4 0) kP (fun x22 => ptrW x22 (fun b23 o24 => rdT (rdC b23 (o24 + 4)) kM (fun (x25 : Option Nat) => rdT (rdC b5 0) kI (fun (x26 : Int) => rdT (rdM (.int .i64) (.pointer none) false x25 (.int .i64 x26)) kP (fun x27 => ptrW x27 (fun b28 o29 => rdT (rdC b28 (o29 + 5)) kM (fun (x30 : Option Nat) => rdT (rdC b6 0) kS (fun (x31 : ByteArray) =>
 biW Tryz.prog .delete #[192, 9] 0 [false, false] [.map x30, .string x31] kU (rdT (rdC b4 0) kP (fun x32 => ptrW x32 (fun b33 o34 => rdT (rdC b33 (o34 + 4)) kM (fun (x35 : Option Nat) => rdT (rdM (.int .i64) (.pointer none) false x35 (.int .i64 x20)) kP (fun x36 => letJ (T := H -> Prop) (K (.int .i64 0)) (fun j37 => ptrW x36 (fun b38 o39 => rdT (rdC b38 (o39 + 3)) kI (fun (x40 : Int) => ptrW x36 (fun b41 o42 =>
 stW Tryz.prog 3 (.pointer (some ⟨b41, o42 + 3, none⟩)) (.int .i64 (IntKind.i64.wrap (x40 - 1))) (ptrW x36 (fun b43 o44 => rdT (rdC b43 (o44 + 3)) kI (fun (x45 : Int) => brW ((x45 : Int) == 0) (rdT (rdC b4 0) kP (fun x46 => ptrW x46 (fun b47 o48 => rdT (rdC b47 (o48 + 4)) kM (fun (x49 : Option Nat) => biW Tryz.prog .delete #[198, 3] 0 [false, false] [.map x49, .int .i64 x20] kU (rdT (rdC b4 0) kP (fun x50 => ptrW x50 (fun b51 o52 => rdT (rdC b51 (o52 + 2)) kI (fun (x53 : Int) =>
 ptrW x50 (fun b54 o55 => stW Tryz.prog 3 (.pointer (some ⟨b54, o55 + 2, none⟩)) (.int .i64 (IntKind.i64.wrap (x53 - 1))) (rdT (rdC b4 0) kP (fun x56 => ptrW x56 (fun b57 o58 => rdT (rdC b57 (o58 + 3)) kI (fun (x59 : Int) => ptrW x36 (fun b60 o61 => rdT (rdC b60 (o61 + 2)) kS (fun (x62 : ByteArray) => ptrW x56 (fun b63 o64 => stW Tryz.prog 3 (.pointer (some ⟨b63, o64 + 3, none⟩)) (.int .i64 (IntKind.i64.wrap (x59 - ((x62.size : Nat) : Int)))) (j37)))))))))))))))))
 (j37))))))))))))))))))))))))))))))))))))))))))))))
theorem e112 (t_1 : Option Addr) (dir_2 : Int) (name_3 : ByteArray) (K : KH) : bodyF Tryz.prog tau Tryz.f112 an112 [.pointer t_1, .int .i64 dir_2, .string name_3] K = g112 t_1 dir_2 name_3 K := by kernel_rfl
theorem c112 (t_1 : Option Addr) (dir_2 : Int) (name_3 : ByteArray) {K : KH} {σ : H} (h : g112 t_1 dir_2 name_3 K σ) : callW Tryz.prog 112 [.pointer t_1, .int .i64 dir_2, .string name_3] K σ := call_of_body mixed Tryz.func112 (by rw [e112]; exact h)


def an113 : Ann := (.q (.n (.reg [0,1,2,5,6,7,3,4,8,9,10,11] [[],[],[1],[0,1,2],(rn 4),[],[],[6],[0,1,2,3,5,6,7],[0,1,2,3,5,6,7,8],(rn 9),(rn 11)]) (.seq (some [(0,.p),(4,.p),(5,.p),(7,.b)]) (.blk (.q (.cond .z (.seq (some [(0,.p),(4,.p),(5,.p),(7,.b),(8,.b),(23,.b)]) .r (.cond (.q .z) (.seq (some [(0,.p),(4,.p),(5,.p),(7,.b),(29,.b)]) .r (.cond (.q .z) (.n (.reg (rn 10) [[],[0],[0,1],[0,1,2],[],[4],(rn 6),(rn 7),(rn 8),(rn 9)]) (.h))))))))) (.n (.seq (some [(0,.p),(4,.p),(5,.p),(53,.b)]) .r (.h)) (.n (.n (.reg [0,1,2,4,5,6,3,7,8,9] [[],[],[1],[0,1,2],[],[],[5],(rn 7),(rn 8),(rn 9)]) (.h)) (.q .z))))))
def g113 (f_1 : Option Addr) (p_2 : Int) (p_3 : ByteArray) (p_4 : Int) (p_5 : Bool) (q_6 : Int) (q_7 : ByteArray) (q_8 : Int) (q_9 : Bool) (K : KH) : H -> Prop :=
 alW (.cells ⟨[.int .i64 p_2, .string p_3, .int .i64 p_4, .bool p_5]⟩ 142 (0, 0)) (fun b10 => alW (.cells ⟨[.int .i64 q_6, .string q_7, .int .i64 q_8, .bool q_9]⟩ 142 (0, 0)) (fun b11 => rdT (rdC b10 2) kI (fun (x12 : Int) => rdT (rdC b11 2) kI (fun (x13 : Int) => callT Tryz.prog 110 [.pointer f_1, .int .i64 x12] kI (fun (x14 : Int) => andW (fun σ => (rdC b11 2) σ = some (.int .i64 x13)) (callT Tryz.prog 110 [.pointer f_1, .int .i64 x13] kI (fun (x15 : Int) =>
 letJ (T := Option Addr -> Option Addr -> Option Addr -> Bool -> H -> Prop) (fun f_17 p_18 q_19 is_20 => letJ (T := Option Addr -> Option Addr -> Option Addr -> Bool -> H -> Prop) (fun f_22 p_23 q_24 x25 => brW x25 (K (.int .i64 2)) (ptrW q_24 (fun b26 o27 => rdT (rdC b26 o27) kI (fun (x28 : Int) => ptrW p_23 (fun b29 o30 => rdT (rdC b29 (o30 + 2)) kI (fun (x31 : Int) => callT Tryz.prog 102 [.pointer f_22, .int .i64 x28] kI (fun (x32 : Int) => andW (fun σ => (rdC b29 (o30 + 2)) σ = some (.int .i64 x31))
 (callT Tryz.prog 180 [.pointer f_22, .int .i64 x31] kI (fun (x33 : Int) => brW (decide (((IntKind.i64.wrap (x32 + x33)) : Int) > 12)) (K (.int .i64 3)) (K (.int .i64 0))))))))))) (fun j21 => brW is_20 (ptrW q_19 (fun b34 o35 => rdT (rdC b34 o35) kI (fun (x36 : Int) => ptrW p_18 (fun b37 o38 => rdT (rdC b37 (o38 + 2)) kI (fun (x39 : Int) => callT Tryz.prog 179 [.pointer f_17, .int .i64 x36, .int .i64 x39] kB (fun x40 => j21 f_17 p_18 q_19 x40)))))) (j21 f_17 p_18 q_19 false))) (fun j16 =>
 rdT (rdC b11 3) kB (fun x41 => brW (!x41) (j16 f_1 (some ⟨b10, 0, none⟩) (some ⟨b11, 0, none⟩) ((x14 : Int) == 2)) (letJ (T := Option Addr -> Option Addr -> Option Addr -> Bool -> Bool -> Bool -> H -> Prop) (fun f_43 p_44 q_45 is_46 other_47 x48 => brW x48 (K (.int .i64 7)) (letJ (T := Option Addr -> Option Addr -> Option Addr -> Bool -> Bool -> H -> Prop) (fun f_50 p_51 q_52 is_53 x54 => brW x54 (K (.int .i64 8)) (ptrW f_50 (fun b55 o56 => rdT (rdC b55 o56) kP (fun x57 => ptrW q_52 (fun b58 o59 =>
 rdT (rdC b58 (o59 + 2)) kI (fun (x60 : Int) => callT Tryz.prog 73 [.pointer x57, .int .i64 x60] kL (fun x61 => brW (decide ((((x61.len : Nat) : Int) : Int) > 0)) (K (.int .i64 20)) (j16 f_50 p_51 q_52 is_53)))))))) (fun j49 => brW is_46 (j49 f_43 p_44 q_45 is_46 (!other_47)) (j49 f_43 p_44 q_45 is_46 false)))) (fun j42 => brW ((x15 : Int) == 2) (j42 f_1 (some ⟨b10, 0, none⟩) (some ⟨b11, 0, none⟩) ((x14 : Int) == 2) ((x15 : Int) == 2) (!((x14 : Int) == 2)))
 (j42 f_1 (some ⟨b10, 0, none⟩) (some ⟨b11, 0, none⟩) ((x14 : Int) == 2) ((x15 : Int) == 2) false))))))))))))
theorem e113 (f_1 : Option Addr) (p_2 : Int) (p_3 : ByteArray) (p_4 : Int) (p_5 : Bool) (q_6 : Int) (q_7 : ByteArray) (q_8 : Int) (q_9 : Bool) (K : KH) : bodyF Tryz.prog tau Tryz.f113 an113 [.pointer f_1, .agg ⟨[.int .i64 p_2, .string p_3, .int .i64 p_4, .bool p_5]⟩, .agg ⟨[.int .i64 q_6, .string q_7, .int .i64 q_8, .bool q_9]⟩] K = g113 f_1 p_2 p_3 p_4 p_5 q_6 q_7 q_8 q_9 K := by kernel_rfl
theorem c113 (f_1 : Option Addr) (p_2 : Int) (p_3 : ByteArray) (p_4 : Int) (p_5 : Bool) (q_6 : Int) (q_7 : ByteArray) (q_8 : Int) (q_9 : Bool) {K : KH} {σ : H} (h : g113 f_1 p_2 p_3 p_4 p_5 q_6 q_7 q_8 q_9 K σ) : callW Tryz.prog 113 [.pointer f_1, .agg ⟨[.int .i64 p_2, .string p_3, .int .i64 p_4, .bool p_5]⟩, .agg ⟨[.int .i64 q_6, .string q_7, .int .i64 q_8, .bool q_9]⟩] K σ := call_of_body mixed Tryz.func113 (by rw [e113]; exact h)


def an114 : Ann := (.q (.n (.reg [0,1,2,3,5,6,8,10,4,7,9,11,12,13,14,15,16] [[],[0],[],[],[2,3],[],[],[2,3,4,5,6],[],[2,3,4,5,6,7,8],[],[],[],[2,3,4,5,6,7,8,9,10,11,12],(rn 14),(rn 15),(rn 16)]) (.n (.seq (some [(1,.i),(2,.s),(4,.s),(5,.p),(8,.p),(11,.i),(44,.b)]) .r (.h)) (.q (.q (.n (.q (.q (.h))) (.q (.n (.reg (rn 12) [[],[0],[0,1],[0,1,2],[],(rn 5),(rn 6),(rn 7),(rn 8),[],[],(rn 11)]) (.seq (some []) (.n (.reg (rn 7) [[],[0],[0,1],[0,1,2],[],(rn 5),(rn 6)]) (.q (.cond .r .z))) (.q .z))))))))))
def g114 (t_1 : Option Addr) (from_2 : Int) (name_3 : ByteArray) (to_4 : Int) (as_5 : ByteArray) (K : KH) : H -> Prop :=
 alW (.cells ⟨[.pointer t_1]⟩ 108 (0, 0)) (fun b6 => alW (.cells ⟨[.int .i64 to_4]⟩ 3 (0, 0)) (fun b7 => rdT (rdC b6 0) kP (fun x8 => rdT (rdC b6 0) kP (fun x9 => rdT (rdC b6 0) kP (fun x10 => rdT (rdC b7 0) kI (fun (x11 : Int) => rdT (rdC b6 0) kP (fun x12 => callT Tryz.prog 164 [.pointer x9, .int .i64 from_2] kR (fun x13 => andW (fun σ => (rdC b6 0) σ = some (.pointer x12)) (andW (fun σ => (rdC b7 0) σ = some (.int .i64 x11)) (andW (fun σ => (rdC b6 0) σ = some (.pointer x10))
 (andW (fun σ => (rdC b6 0) σ = some (.pointer x8)) (callT Tryz.prog 164 [.pointer x10, .int .i64 x11] kR (fun x14 => andW (fun σ => (rdC b6 0) σ = some (.pointer x12)) (andW (fun σ => (rdC b6 0) σ = some (.pointer x8)) (callT Tryz.prog 165 [.string as_5] kR (fun x15 => andW (fun σ => (rdC b6 0) σ = some (.pointer x12)) (andW (fun σ => (rdC b6 0) σ = some (.pointer x8)) (callT Tryz.prog 178 [.pointer x12, .int .i64 from_2, .string name_3] kR (fun x16 =>
 andW (fun σ => (rdC b6 0) σ = some (.pointer x8)) (oneK x13 (oneK x14 (oneK x15 (oneK x16 (alW (.cells ⟨[.func (.func 163) ⟨[.pointer x8]⟩ ⟨[]⟩, x13, x14, x15, x16]⟩ 204 (0, 0)) (fun b17 => callT Tryz.prog 162 [.slice (some ⟨b17, 0, none⟩) 5 5] kI (fun (x18 : Int) => letJ (T := Int -> ByteArray -> ByteArray -> Option Addr -> Option Addr -> Int -> Bool -> H -> Prop) (fun from_20 name_21 as_22 t_23 to_24 e_25 x26 => brW x26 (K (.int .i64 e_25)) (ptrW t_23 (fun b27 o28 => rdT (rdC b27 o28) kP (fun x29 =>
 callT Tryz.prog 125 [.pointer x29, .int .i64 from_20, .string name_21] (.tup [.sc (.int .i64), .sc .bool]) (fun (x30 : Int) (_x31 : Bool) => alW (.cells ⟨[.int .i64 0]⟩ 3 (0, 0)) (fun b32 => stW Tryz.prog 3 (.pointer (some ⟨b32, 0, none⟩)) (.int .i64 x30) (ptrW t_23 (fun b33 o34 => rdT (rdC b33 o34) kP (fun x35 => ptrW to_24 (fun b36 o37 => rdT (rdC b36 o37) kI (fun (x38 : Int) => callT Tryz.prog 166 [.pointer x35, .int .i64 x38, .string as_22] kR (fun x39 => oneK x39
 (alW (.cells ⟨[x39, .func (.func 181) ⟨[]⟩ ⟨[.pointer to_24, .pointer t_23, .pointer (some ⟨b32, 0, none⟩)]⟩]⟩ 204 (0, 0)) (fun b40 => callT Tryz.prog 162 [.slice (some ⟨b40, 0, none⟩) 2 2] kI (fun (x41 : Int) => brW ((x41 : Int) != 0) (K (.int .i64 x41)) (ptrW t_23 (fun b42 o43 => rdT (rdC b42 o43) kP (fun x44 => ptrW x44 (fun b45 o46 => rdT (rdC b45 (o46 + 4)) kM (fun (x47 : Option Nat) => rdT (rdM (.int .i64) (.pointer none) false x47 (.int .i64 from_20)) kP (fun x48 =>
 ptrW x48 (fun b49 o50 => rdT (rdC b49 (o50 + 5)) kM (fun (x51 : Option Nat) => biW Tryz.prog .delete #[192, 9] 0 [false, false] [.map x51, .string name_21] kU (ptrW t_23 (fun b52 o53 => rdT (rdC b52 o53) kP (fun x54 => ptrW x54 (fun b55 o56 => rdT (rdC b55 (o56 + 4)) kM (fun (x57 : Option Nat) => ptrW to_24 (fun b58 o59 => rdT (rdC b58 o59) kI (fun (x60 : Int) => rdT (rdM (.int .i64) (.pointer none) false x57 (.int .i64 x60)) kP (fun x61 => ptrW x61 (fun b62 o63 =>
 rdT (rdC b62 (o63 + 5)) kM (fun (x64 : Option Nat) => rdT (rdC b32 0) kI (fun (x65 : Int) => muW Tryz.prog 192 (.map x64) (.string as_22) (.int .i64 x65) (letJ (T := H -> Prop) (K (.int .i64 0)) (fun j66 => ptrW t_23 (fun b67 o68 => rdT (rdC b67 o68) kP (fun x69 => ptrW x69 (fun b70 o71 => rdT (rdC b70 (o71 + 4)) kM (fun (x72 : Option Nat) => rdT (rdC b32 0) kI (fun (x73 : Int) => rdT (rdM (.int .i64) (.pointer none) false x72 (.int .i64 x73)) kP (fun x74 => ptrW x74 (fun b75 o76 =>
 rdT (rdC b75 o76) kI (fun (x77 : Int) => brW ((x77 : Int) == 2) (ptrW to_24 (fun b78 o79 => rdT (rdC b78 o79) kI (fun (x80 : Int) => ptrW x74 (fun b81 o82 => stW Tryz.prog 3 (.pointer (some ⟨b81, o82 + 4, none⟩)) (.int .i64 x80) (j66))))) (j66))))))))))))))))))))))))))))))))))))))))))))) (fun j19 => brW ((x18 : Int) != 0) (j19 from_2 name_3 as_5 (some ⟨b6, 0, none⟩) (some ⟨b7, 0, none⟩) x18 true) (rdT (rdC b7 0) kI (fun (x83 : Int) => brW ((from_2 : Int) == x83)
 (j19 from_2 name_3 as_5 (some ⟨b6, 0, none⟩) (some ⟨b7, 0, none⟩) x18 (strEq name_3 as_5)) (j19 from_2 name_3 as_5 (some ⟨b6, 0, none⟩) (some ⟨b7, 0, none⟩) x18 false))))))))))))))))))))))))))))))
theorem e114 (t_1 : Option Addr) (from_2 : Int) (name_3 : ByteArray) (to_4 : Int) (as_5 : ByteArray) (K : KH) : bodyF Tryz.prog tau Tryz.f114 an114 [.pointer t_1, .int .i64 from_2, .string name_3, .int .i64 to_4, .string as_5] K = g114 t_1 from_2 name_3 to_4 as_5 K := by kernel_rfl
theorem c114 (t_1 : Option Addr) (from_2 : Int) (name_3 : ByteArray) (to_4 : Int) (as_5 : ByteArray) {K : KH} {σ : H} (h : g114 t_1 from_2 name_3 to_4 as_5 K σ) : callW Tryz.prog 114 [.pointer t_1, .int .i64 from_2, .string name_3, .int .i64 to_4, .string as_5] K σ := call_of_body mixed Tryz.func114 (by rw [e114]; exact h)


def an115 : Ann := (.q (.n (.reg (rn 8) [[],[0],[0,1],[0,1,2],[],[],(rn 6),(rn 7)]) .z))
def g115 (ino_1 : Int) (__2 : Int) (__3 : Int) (__4 : ByteArray) (__5 : Int) (x6 : Option Addr) (x7 : Option Addr) (K : KH) : H -> Prop :=
 alW (.cells ⟨[.int .i64 __2, .int .i64 __3, .string __4, .int .i64 __5]⟩ 35 (0, 0)) (fun _b8 => ptrW x6 (fun b9 o10 => rdT (rdC b9 o10) kP (fun x11 => ptrW x11 (fun b12 o13 => rdT (rdC b12 o13) kP (fun x14 => ptrW x7 (fun b15 o16 => rdT (rdC b15 o16) kI (fun (x17 : Int) => callT Tryz.prog 116 [.pointer x14, .int .i64 ino_1, .int .i64 x17] kI (fun (x18 : Int) => K (.int .i64 x18)))))))))
theorem e115 (ino_1 : Int) (__2 : Int) (__3 : Int) (__4 : ByteArray) (__5 : Int) (x6 : Option Addr) (x7 : Option Addr) (K : KH) : bodyF Tryz.prog tau Tryz.f115 an115 [.int .i64 ino_1, .agg ⟨[.int .i64 __2, .int .i64 __3, .string __4, .int .i64 __5]⟩, .pointer x6, .pointer x7] K = g115 ino_1 __2 __3 __4 __5 x6 x7 K := by kernel_rfl
theorem c115 (ino_1 : Int) (__2 : Int) (__3 : Int) (__4 : ByteArray) (__5 : Int) (x6 : Option Addr) (x7 : Option Addr) {K : KH} {σ : H} (h : g115 ino_1 __2 __3 __4 __5 x6 x7 K σ) : callW Tryz.prog 115 [.int .i64 ino_1, .agg ⟨[.int .i64 __2, .int .i64 __3, .string __4, .int .i64 __5]⟩, .pointer x6, .pointer x7] K σ := call_of_body mixed Tryz.func115 (by rw [e115]; exact h)


def an116 : Ann := (.q (.q (.q (.n (.q (.q (.h))) (.n (.reg (rn 11) [[],[0],[0,1],[0,1,2],[],(rn 5),[],(rn 7),(rn 8),(rn 9),(rn 10)]) (.q .z))))))
def g116 (t_1 : Option Addr) (ino_2 : Int) (mode_3 : Int) (K : KH) : H -> Prop :=
 alW (.cells ⟨[.pointer t_1]⟩ 108 (0, 0)) (fun b4 => alW (.cells ⟨[.int .i64 ino_2]⟩ 3 (0, 0)) (fun b5 => alW (.cells ⟨[.int .i64 mode_3]⟩ 3 (0, 0)) (fun b6 => rdT (rdC b4 0) kP (fun x7 => alW (.cells ⟨[.func (.func 163) ⟨[.pointer x7]⟩ ⟨[]⟩, .func (.func 182) ⟨[]⟩ ⟨[.pointer (some ⟨b6, 0, none⟩)]⟩, .func (.func 183) ⟨[]⟩ ⟨[.pointer (some ⟨b4, 0, none⟩), .pointer (some ⟨b5, 0, none⟩)]⟩]⟩ 204 (0, 0)) (fun b8 => callT Tryz.prog 162 [.slice (some ⟨b8, 0, none⟩) 3 3] kI (fun (x9 : Int) =>
 brW ((x9 : Int) != 0) (K (.int .i64 x9)) (rdT (rdC b4 0) kP (fun x10 => ptrW x10 (fun b11 o12 => rdT (rdC b11 (o12 + 4)) kM (fun (x13 : Option Nat) => rdT (rdC b5 0) kI (fun (x14 : Int) => rdT (rdM (.int .i64) (.pointer none) false x13 (.int .i64 x14)) kP (fun x15 => rdT (rdC b6 0) kI (fun (x16 : Int) => ptrW x15 (fun b17 o18 => stW Tryz.prog 3 (.pointer (some ⟨b17, o18 + 1, none⟩)) (.int .i64 x16) (K (.int .i64 0))))))))))))))))
theorem e116 (t_1 : Option Addr) (ino_2 : Int) (mode_3 : Int) (K : KH) : bodyF Tryz.prog tau Tryz.f116 an116 [.pointer t_1, .int .i64 ino_2, .int .i64 mode_3] K = g116 t_1 ino_2 mode_3 K := by kernel_rfl
theorem c116 (t_1 : Option Addr) (ino_2 : Int) (mode_3 : Int) {K : KH} {σ : H} (h : g116 t_1 ino_2 mode_3 K σ) : callW Tryz.prog 116 [.pointer t_1, .int .i64 ino_2, .int .i64 mode_3] K σ := call_of_body mixed Tryz.func116 (by rw [e116]; exact h)


def an117 : Ann := (.q (.q (.n (.reg [0,2,3,4,5,1,6,7,8,9,10] [[],[0],[],[2],[2,3],[2,3,4],(rn 6),[],[],(rn 9),(rn 10)]) (.n (.blk (.n (.reg [0,1,2,4,3,5,6,7,8] [[],[],[1],[0,1,2],[],(rn 5),(rn 6),(rn 7),(rn 8)]) (.cond (.q .z) (.seq (some [(1,.p),(2,.p),(3,.p),(30,.b)]) .r (.h))))) (.q .z)))))
def g117 (p_1 : Int) (p_2 : ByteArray) (p_3 : Int) (p_4 : Bool) (x5 : Option Addr) (x6 : Option Addr) (K : KH) : H -> Prop :=
 alW (.cells ⟨[.int .i64 p_1, .string p_2, .int .i64 p_3, .bool p_4]⟩ 142 (0, 0)) (fun b7 => ptrW x5 (fun b8 o9 => rdT (rdA 5 b8 o9) (.one (.agg [.str, (.int .i64), .bool, .str, .slc])) (fun (x10 : ByteArray) (x11 : Int) (x12 : Bool) (x13 : ByteArray) (x14 : Sl) => callT Tryz.prog 118 [.agg ⟨[.string x10, .int .i64 x11, .bool x12, .string x13, .slice x14.base x14.len x14.cap]⟩] (.tup [.sc (.int .i64), .sc (.int .i64)]) (fun (x15 : Int) (x16 : Int) => ptrW x6 (fun b17 o18 =>
 rdT (rdC b17 o18) kP (fun x19 => ptrW x6 (fun b20 o21 => rdT (rdC b20 o21) kP (fun x22 => ptrW x22 (fun b23 o24 => rdT (rdC b23 o24) kP (fun x25 => callT Tryz.prog 39 [.pointer x19] (.one (.agg [(.int .i64), (.int .i64)])) (fun (x26 : Int) (x27 : Int) => andW (fun σ => (rdC b23 o24) σ = some (.pointer x25)) (andW (fun σ => (rdC b20 o21) σ = some (.pointer x22)) (callT Tryz.prog 119 [.pointer x25] (.one (.agg [(.int .i64), (.int .i64)])) (fun (x28 : Int) (x29 : Int) =>
 alW (.cells ⟨[.int .i64 0, .int .i64 0]⟩ 64 (0, 0)) (fun b30 => alW (.cells ⟨[.int .i64 0, .int .i64 0]⟩ 64 (0, 0)) (fun b31 => stW Tryz.prog 64 (.pointer (some ⟨b30, 0, none⟩)) (.agg ⟨[.int .i64 x26, .int .i64 x27]⟩) (stW Tryz.prog 64 (.pointer (some ⟨b31, 0, none⟩)) (.agg ⟨[.int .i64 x28, .int .i64 x29]⟩) (ptrW x6 (fun b32 o33 => rdT (rdC b32 o33) kP (fun x34 => rdT (rdC b7 0) kI (fun (x35 : Int) => ptrW x5 (fun b36 o37 =>
 rdT (rdA 5 b36 o37) (.one (.agg [.str, (.int .i64), .bool, .str, .slc])) (fun (x38 : ByteArray) (x39 : Int) (x40 : Bool) (x41 : ByteArray) (x42 : Sl) => callT Tryz.prog 102 [.pointer x34, .int .i64 x35] kI (fun (x43 : Int) => andW (fun σ => (rdA 5 b36 o37) σ = some (.agg ⟨[.string x38, .int .i64 x39, .bool x40, .string x41, .slice x42.base x42.len x42.cap]⟩))
 (callT Tryz.prog 120 [.agg ⟨[.string x38, .int .i64 x39, .bool x40, .string x41, .slice x42.base x42.len x42.cap]⟩] kI (fun (x44 : Int) => brW (decide (((IntKind.i64.wrap (x43 + x44)) : Int) > 12)) (K (.int .i64 3)) (letJ (T := Option Addr -> Option Addr -> Option Addr -> Bool -> H -> Prop) (fun x46 x47 p_48 x49 => brW x49 (K (.int .i64 10)) (ptrW x47 (fun b50 o51 => rdT (rdC b50 o51) kP (fun x52 => ptrW p_48 (fun b53 o54 => rdT (rdC b53 o54) kI (fun (x55 : Int) => ptrW p_48 (fun b56 o57 =>
 rdT (rdC b56 (o57 + 1)) kS (fun (x58 : ByteArray) => ptrW x46 (fun b59 o60 => rdT (rdA 5 b59 o60) (.one (.agg [.str, (.int .i64), .bool, .str, .slc])) (fun (x61 : ByteArray) (x62 : Int) (x63 : Bool) (x64 : ByteArray) (x65 : Sl) => callT Tryz.prog 121 [.pointer x52, .int .i64 x55, .string x58, .agg ⟨[.string x61, .int .i64 x62, .bool x63, .string x64, .slice x65.base x65.len x65.cap]⟩] kI (fun (x66 : Int) => K (.int .i64 x66)))))))))))) (fun j45 => rdT (rdC b30 0) kI (fun (x67 : Int) =>
 rdT (rdC b31 0) kI (fun (x68 : Int) => brW (decide (((IntKind.i64.wrap (x67 + x15)) : Int) > x68)) (j45 x5 x6 (some ⟨b7, 0, none⟩) true) (rdT (rdC b30 1) kI (fun (x69 : Int) => rdT (rdC b31 1) kI (fun (x70 : Int) => j45 x5 x6 (some ⟨b7, 0, none⟩) (decide (((IntKind.i64.wrap (x69 + x16)) : Int) > x70)))))))))))))))))))))))))))))))))))
theorem e117 (p_1 : Int) (p_2 : ByteArray) (p_3 : Int) (p_4 : Bool) (x5 : Option Addr) (x6 : Option Addr) (K : KH) : bodyF Tryz.prog tau Tryz.f117 an117 [.agg ⟨[.int .i64 p_1, .string p_2, .int .i64 p_3, .bool p_4]⟩, .pointer x5, .pointer x6] K = g117 p_1 p_2 p_3 p_4 x5 x6 K := by kernel_rfl
theorem c117 (p_1 : Int) (p_2 : ByteArray) (p_3 : Int) (p_4 : Bool) (x5 : Option Addr) (x6 : Option Addr) {K : KH} {σ : H} (h : g117 p_1 p_2 p_3 p_4 x5 x6 K σ) : callW Tryz.prog 117 [.agg ⟨[.int .i64 p_1, .string p_2, .int .i64 p_3, .bool p_4]⟩, .pointer x5, .pointer x6] K σ := call_of_body mixed Tryz.func117 (by rw [e117]; exact h)


def an118 : Ann := (.q (.n (.q (.h)) (.q .z)))
def g118 (n_1 : ByteArray) (n_2 : Int) (n_3 : Bool) (n_4 : ByteArray) (n_5 : Sl) (K : KH) : H -> Prop :=
 alW (.cells ⟨[.string n_1, .int .i64 n_2, .bool n_3, .string n_4, .slice n_5.base n_5.len n_5.cap]⟩ 73 (0, 0)) (fun b6 => rdT (rdA 5 b6 0) (.one (.agg [.str, (.int .i64), .bool, .str, .slc])) (fun (x7 : ByteArray) (x8 : Int) (x9 : Bool) (x10 : ByteArray) (x11 : Sl) => callT Tryz.prog 103 [.agg ⟨[.string x7, .int .i64 x8, .bool x9, .string x10, .slice x11.base x11.len x11.cap]⟩] kB (fun x12 => brW x12 (K (.tuple ⟨[.int .i64 0, .int .i64 0]⟩))
 (rdT (rdA 5 b6 0) (.one (.agg [.str, (.int .i64), .bool, .str, .slc])) (fun (x13 : ByteArray) (x14 : Int) (x15 : Bool) (x16 : ByteArray) (x17 : Sl) => callT Tryz.prog 184 [.agg ⟨[.string x13, .int .i64 x14, .bool x15, .string x16, .slice x17.base x17.len x17.cap]⟩] (.tup [.sc (.int .i64), .sc (.int .i64)]) (fun (x18 : Int) (x19 : Int) => K (.tuple ⟨[.int .i64 x18, .int .i64 x19]⟩)))))))
theorem e118 (n_1 : ByteArray) (n_2 : Int) (n_3 : Bool) (n_4 : ByteArray) (n_5 : Sl) (K : KH) : bodyF Tryz.prog tau Tryz.f118 an118 [.agg ⟨[.string n_1, .int .i64 n_2, .bool n_3, .string n_4, .slice n_5.base n_5.len n_5.cap]⟩] K = g118 n_1 n_2 n_3 n_4 n_5 K := by kernel_rfl
theorem c118 (n_1 : ByteArray) (n_2 : Int) (n_3 : Bool) (n_4 : ByteArray) (n_5 : Sl) {K : KH} {σ : H} (h : g118 n_1 n_2 n_3 n_4 n_5 K σ) : callW Tryz.prog 118 [.agg ⟨[.string n_1, .int .i64 n_2, .bool n_3, .string n_4, .slice n_5.base n_5.len n_5.cap]⟩] K σ := call_of_body mixed Tryz.func118 (by rw [e118]; exact h)


def an119 : Ann := (.q (.n (.q (.h)) (.q .z)))
def g119 (t_1 : Option Addr) (K : KH) : H -> Prop :=
 alW (.cells ⟨[.int .i64 0, .int .i64 0]⟩ 64 (0, 0)) (fun b2 => brW t_1.isNone (stW Tryz.prog 64 (.pointer (some ⟨b2, 0, none⟩)) (.agg ⟨[.int .i64 0, .int .i64 0]⟩) (rdT (rdA 2 b2 0) (.one (.agg [(.int .i64), (.int .i64)])) (fun (r3 : Int) (r4 : Int) => K (.agg ⟨[.int .i64 r3, .int .i64 r4]⟩)))) (ptrW t_1 (fun b5 o6 => rdT (rdA 2 b5 o6) (.one (.agg [(.int .i64), (.int .i64)])) (fun (x7 : Int) (x8 : Int) =>
 stW Tryz.prog 64 (.pointer (some ⟨b2, 0, none⟩)) (.agg ⟨[.int .i64 x7, .int .i64 x8]⟩) (rdT (rdA 2 b2 0) (.one (.agg [(.int .i64), (.int .i64)])) (fun (r9 : Int) (r10 : Int) => K (.agg ⟨[.int .i64 r9, .int .i64 r10]⟩)))))))
theorem e119 (t_1 : Option Addr) (K : KH) : bodyF Tryz.prog tau Tryz.f119 an119 [.pointer t_1] K = g119 t_1 K := by kernel_rfl
theorem c119 (t_1 : Option Addr) {K : KH} {σ : H} (h : g119 t_1 K σ) : callW Tryz.prog 119 [.pointer t_1] K σ := call_of_body mixed Tryz.func119 (by rw [e119]; exact h)


def an120 : Ann := (.q (.n (.q (.h)) (.q (.n (.q (.blk (.loop [(3,.i),(10,.l),(11,.i),(12,.i)] (.q (.n (.cond .z .z) (.n (.blk (.q .r)) .r)))))) (.q .z)))))
def g120 (n_1 : ByteArray) (n_2 : Int) (n_3 : Bool) (n_4 : ByteArray) (n_5 : Sl) (K : KH) : H -> Prop :=
 alW (.cells ⟨[.string n_1, .int .i64 n_2, .bool n_3, .string n_4, .slice n_5.base n_5.len n_5.cap]⟩ 73 (0, 0)) (fun b6 => rdT (rdC b6 1) kI (fun (x7 : Int) => brW ((x7 : Int) != 2) (K (.int .i64 0)) (rdT (rdC b6 4) kL (fun x8 => loopW [.sc (.int .i64), .sc .slc, .sc (.int .i64), .sc (.int .i64)] (fun (R9 : Int -> Sl -> Int -> Int -> H -> Prop) => (fun (most_10 : Int) (x11 : Sl) (x12 : Int) (x13 : Int) => brW (decide ((x13 : Int) < x12)) (ptrW x11.base (fun b14 o15 =>
 ifW (0 <= x13 /\ x13 < ((x11.len : Nat) : Int)) (rdT (rdA 5 b14 (o15 + x13.toNat * 5)) (.one (.agg [.str, (.int .i64), .bool, .str, .slc])) (fun (x16 : ByteArray) (x17 : Int) (x18 : Bool) (x19 : ByteArray) (x20 : Sl) => alW (.cells ⟨[.string (⟨⟨[]⟩⟩ : ByteArray), .int .i64 0, .bool false, .string (⟨⟨[]⟩⟩ : ByteArray), .slice none 0 0]⟩ 73 (0, 0)) (fun b21 =>
 stW Tryz.prog 73 (.pointer (some ⟨b21, 0, none⟩)) (.agg ⟨[.string x16, .int .i64 x17, .bool x18, .string x19, .slice x20.base x20.len x20.cap]⟩) (rdT (rdA 5 b21 0) (.one (.agg [.str, (.int .i64), .bool, .str, .slc])) (fun (x22 : ByteArray) (x23 : Int) (x24 : Bool) (x25 : ByteArray) (x26 : Sl) => callT Tryz.prog 120 [.agg ⟨[.string x22, .int .i64 x23, .bool x24, .string x25, .slice x26.base x26.len x26.cap]⟩] kI (fun (x27 : Int) =>
 R9 (if x27 > most_10 then x27 else most_10) x11 x12 (IntKind.i64.wrap (x13 + 1)))))))))) (K (.int .i64 (IntKind.i64.wrap (most_10 + 1)))))) (fun (R28 : Int -> Sl -> Int -> Int -> H -> Prop) => R28 0 x8 ((x8.len : Nat) : Int) 0)))))
theorem e120 (n_1 : ByteArray) (n_2 : Int) (n_3 : Bool) (n_4 : ByteArray) (n_5 : Sl) (K : KH) : bodyF Tryz.prog tau Tryz.f120 an120 [.agg ⟨[.string n_1, .int .i64 n_2, .bool n_3, .string n_4, .slice n_5.base n_5.len n_5.cap]⟩] K = g120 n_1 n_2 n_3 n_4 n_5 K := by kernel_rfl
theorem c120 (n_1 : ByteArray) (n_2 : Int) (n_3 : Bool) (n_4 : ByteArray) (n_5 : Sl) {K : KH} {σ : H} (h : g120 n_1 n_2 n_3 n_4 n_5 K σ) : callW Tryz.prog 120 [.agg ⟨[.string n_1, .int .i64 n_2, .bool n_3, .string n_4, .slice n_5.base n_5.len n_5.cap]⟩] K σ := call_of_body mixed Tryz.func120 (by rw [e120]; exact h)


def an121 : Ann := (.q (.q (.seq (some [(0,.p),(1,.i),(2,.s),(7,.p),(9,.i)]) (.q (.cond .r .z)) (.n (.reg (rn 17) [[],[0],[0,1],[0,1,2],[],[],[],[6],[],[],[9],(rn 11),(rn 12),(rn 13),(rn 13),(rn 14),(rn 16)]) (.n (.q (.blk (.loop [(0,.p),(10,.i),(11,.i),(37,.l),(38,.i),(39,.i)] (.q (.n (.cond .z .z) (.seq (some [(0,.p),(10,.i),(11,.i),(37,.l),(38,.i),(39,.i)]) (.blk (.q (.q (.cond .r .z)))) .r)))))) (.q .z))))))
def g121 (f_1 : Option Addr) (dir_2 : Int) (name_3 : ByteArray) (n_4 : ByteArray) (n_5 : Int) (n_6 : Bool) (n_7 : ByteArray) (n_8 : Sl) (K : KH) : H -> Prop :=
 alW (.cells ⟨[.string n_4, .int .i64 n_5, .bool n_6, .string n_7, .slice n_8.base n_8.len n_8.cap]⟩ 73 (0, 0)) (fun b9 => alW (.map #[] 0) (fun b10 => muW Tryz.prog 226 (.map (some b10)) (.int .i64 1) (.int .i64 420) (muW Tryz.prog 226 (.map (some b10)) (.int .i64 2) (.int .i64 493) (muW Tryz.prog 226 (.map (some b10)) (.int .i64 3) (.int .i64 511) (rdT (rdC b9 1) kI (fun (x11 : Int) => rdT (rdM (.int .i64) (.int .i64 0) false (some b10) (.int .i64 x11)) kI (fun (x12 : Int) =>
 letJ (T := Option Addr -> Int -> ByteArray -> Option Addr -> Int -> H -> Prop) (fun f_14 dir_15 name_16 n_17 mode_18 => ptrW f_14 (fun b19 o20 => rdT (rdC b19 o20) kP (fun x21 => ptrW n_17 (fun b22 o23 => rdT (rdC b22 (o23 + 1)) kI (fun (x24 : Int) => ptrW n_17 (fun b25 o26 => rdT (rdC b25 (o26 + 3)) kS (fun (x27 : ByteArray) =>
 callT Tryz.prog 96 [.pointer x21, .int .i64 dir_15, .string name_16, .int .i64 x24, .int .i64 mode_18, .string x27] (.tup [.sc (.int .i64), .sc (.int .i64)]) (fun (x28 : Int) (x29 : Int) => ptrW n_17 (fun b30 o31 => rdT (rdC b30 (o31 + 4)) kL (fun x32 =>
 loopW [.sc .ptr, .sc (.int .i64), .sc (.int .i64), .sc .slc, .sc (.int .i64), .sc (.int .i64)] (fun (R33 : Option Addr -> Int -> Int -> Sl -> Int -> Int -> H -> Prop) => (fun (f_34 : Option Addr) (ino_35 : Int) (e_36 : Int) (x37 : Sl) (x38 : Int) (x39 : Int) => brW (decide ((x39 : Int) < x38)) (letJ (T := Option Addr -> Int -> Int -> Sl -> Int -> Int -> H -> Prop) (fun f_41 ino_42 e_43 x44 x45 x46 => R33 f_41 ino_42 e_43 x44 x45 (IntKind.i64.wrap (x46 + 1))) (fun j40 => ptrW x37.base (fun b47 o48 =>
 ifW (0 <= x39 /\ x39 < ((x37.len : Nat) : Int)) (rdT (rdA 5 b47 (o48 + x39.toNat * 5)) (.one (.agg [.str, (.int .i64), .bool, .str, .slc])) (fun (x49 : ByteArray) (x50 : Int) (x51 : Bool) (x52 : ByteArray) (x53 : Sl) => alW (.cells ⟨[.string (⟨⟨[]⟩⟩ : ByteArray), .int .i64 0, .bool false, .string (⟨⟨[]⟩⟩ : ByteArray), .slice none 0 0]⟩ 73 (0, 0)) (fun b54 =>
 stW Tryz.prog 73 (.pointer (some ⟨b54, 0, none⟩)) (.agg ⟨[.string x49, .int .i64 x50, .bool x51, .string x52, .slice x53.base x53.len x53.cap]⟩) (brW ((e_36 : Int) == 0) (rdT (rdC b54 0) kS (fun (x55 : ByteArray) => rdT (rdA 5 b54 0) (.one (.agg [.str, (.int .i64), .bool, .str, .slc])) (fun (x56 : ByteArray) (x57 : Int) (x58 : Bool) (x59 : ByteArray) (x60 : Sl) =>
 callT Tryz.prog 121 [.pointer f_34, .int .i64 ino_35, .string x55, .agg ⟨[.string x56, .int .i64 x57, .bool x58, .string x59, .slice x60.base x60.len x60.cap]⟩] kI (fun (x61 : Int) => j40 f_34 ino_35 x61 x37 x38 x39)))) (j40 f_34 ino_35 e_36 x37 x38 x39)))))))) (K (.int .i64 e_36)))) (fun (R62 : Option Addr -> Int -> Int -> Sl -> Int -> Int -> H -> Prop) => R62 f_14 x28 x29 x32 ((x32.len : Nat) : Int) 0))))))))))) (fun j13 => rdT (rdC b9 2) kB (fun x63 => brW x63
 (j13 f_1 dir_2 name_3 (some ⟨b9, 0, none⟩) 493) (j13 f_1 dir_2 name_3 (some ⟨b9, 0, none⟩) x12))))))))))
theorem e121 (f_1 : Option Addr) (dir_2 : Int) (name_3 : ByteArray) (n_4 : ByteArray) (n_5 : Int) (n_6 : Bool) (n_7 : ByteArray) (n_8 : Sl) (K : KH) : bodyF Tryz.prog tau Tryz.f121 an121 [.pointer f_1, .int .i64 dir_2, .string name_3, .agg ⟨[.string n_4, .int .i64 n_5, .bool n_6, .string n_7, .slice n_8.base n_8.len n_8.cap]⟩] K = g121 f_1 dir_2 name_3 n_4 n_5 n_6 n_7 n_8 K := by kernel_rfl
theorem c121 (f_1 : Option Addr) (dir_2 : Int) (name_3 : ByteArray) (n_4 : ByteArray) (n_5 : Int) (n_6 : Bool) (n_7 : ByteArray) (n_8 : Sl) {K : KH} {σ : H} (h : g121 f_1 dir_2 name_3 n_4 n_5 n_6 n_7 n_8 K σ) : callW Tryz.prog 121 [.pointer f_1, .int .i64 dir_2, .string name_3, .agg ⟨[.string n_4, .int .i64 n_5, .bool n_6, .string n_7, .slice n_8.base n_8.len n_8.cap]⟩] K σ := call_of_body mixed Tryz.func121 (by rw [e121]; exact h)


def an122 : Ann := (.q (.n (.q (.h)) (.q (.q .z))))
def g122 (__1 : Int) (n_2 : Int) (n_3 : Int) (n_4 : ByteArray) (n_5 : Int) (x6 : Option Addr) (K : KH) : H -> Prop :=
 alW (.cells ⟨[.int .i64 n_2, .int .i64 n_3, .string n_4, .int .i64 n_5]⟩ 35 (0, 0)) (fun b7 => rdT (rdC b7 0) kI (fun (x8 : Int) => brW ((x8 : Int) == 2) (K (.int .i64 7)) (rdT (rdC b7 2) kS (fun (x9 : ByteArray) => stW Tryz.prog 9 (.pointer x6) (.string x9) (K (.int .i64 0))))))
theorem e122 (__1 : Int) (n_2 : Int) (n_3 : Int) (n_4 : ByteArray) (n_5 : Int) (x6 : Option Addr) (K : KH) : bodyF Tryz.prog tau Tryz.f122 an122 [.int .i64 __1, .agg ⟨[.int .i64 n_2, .int .i64 n_3, .string n_4, .int .i64 n_5]⟩, .pointer x6] K = g122 __1 n_2 n_3 n_4 n_5 x6 K := by kernel_rfl
theorem c122 (__1 : Int) (n_2 : Int) (n_3 : Int) (n_4 : ByteArray) (n_5 : Int) (x6 : Option Addr) {K : KH} {σ : H} (h : g122 __1 n_2 n_3 n_4 n_5 x6 K σ) : callW Tryz.prog 122 [.int .i64 __1, .agg ⟨[.int .i64 n_2, .int .i64 n_3, .string n_4, .int .i64 n_5]⟩, .pointer x6] K σ := call_of_body mixed Tryz.func122 (by rw [e122]; exact h)


def an123 : Ann := (.q (.n (.q (.h)) (.q .z)))
def g123 (t_1 : Option Addr) (K : KH) : H -> Prop :=
 brW t_1.isNone (K (.int .i64 0)) (K (.int .i64 1))
theorem e123 (t_1 : Option Addr) (K : KH) : bodyF Tryz.prog tau Tryz.f123 an123 [.pointer t_1] K = g123 t_1 K := by kernel_rfl
theorem c123 (t_1 : Option Addr) {K : KH} {σ : H} (h : g123 t_1 K σ) : callW Tryz.prog 123 [.pointer t_1] K σ := call_of_body mixed Tryz.func123 (by rw [e123]; exact h)


def an124 : Ann := (.q (.q (.n (.q (.h)) (.q .z))))
def g124 (t_1 : Option Addr) (dir_2 : Int) (K : KH) : H -> Prop :=
 callT Tryz.prog 138 [.pointer t_1, .int .i64 dir_2] kP (fun x3 => brW x3.isNone (K (.int .i64 0)) (ptrW x3 (fun b4 o5 => rdT (rdC b4 (o5 + 4)) kI (fun (x6 : Int) => K (.int .i64 x6)))))
theorem e124 (t_1 : Option Addr) (dir_2 : Int) (K : KH) : bodyF Tryz.prog tau Tryz.f124 an124 [.pointer t_1, .int .i64 dir_2] K = g124 t_1 dir_2 K := by kernel_rfl
theorem c124 (t_1 : Option Addr) (dir_2 : Int) {K : KH} {σ : H} (h : g124 t_1 dir_2 K σ) : callW Tryz.prog 124 [.pointer t_1, .int .i64 dir_2] K σ := call_of_body mixed Tryz.func124 (by rw [e124]; exact h)


def an125 : Ann := (.q (.q (.n (.q (.h)) (.q (.q .z)))))
def g125 (t_1 : Option Addr) (dir_2 : Int) (name_3 : ByteArray) (K : KH) : H -> Prop :=
 callT Tryz.prog 138 [.pointer t_1, .int .i64 dir_2] kP (fun x4 => brW x4.isNone (K (.tuple ⟨[.int .i64 0, .bool false]⟩)) (ptrW x4 (fun b5 o6 => rdT (rdC b5 (o6 + 5)) kM (fun (x7 : Option Nat) => rdT (rdM .string (.int .i64 0) true x7 (.string name_3)) (.tup [.sc (.int .i64), .sc .bool]) (fun (x8 : Int) (x9 : Bool) => K (.tuple ⟨[.int .i64 x8, .bool x9]⟩))))))
theorem e125 (t_1 : Option Addr) (dir_2 : Int) (name_3 : ByteArray) (K : KH) : bodyF Tryz.prog tau Tryz.f125 an125 [.pointer t_1, .int .i64 dir_2, .string name_3] K = g125 t_1 dir_2 name_3 K := by kernel_rfl
theorem c125 (t_1 : Option Addr) (dir_2 : Int) (name_3 : ByteArray) {K : KH} {σ : H} (h : g125 t_1 dir_2 name_3 K σ) : callW Tryz.prog 125 [.pointer t_1, .int .i64 dir_2, .string name_3] K σ := call_of_body mixed Tryz.func125 (by rw [e125]; exact h)


def an137 : Ann := (.q (.q (.n (.blk (.seq (some [(0,.s),(1,.s),(5,.i),(16,.b)]) .r (.cond (.q .z) (.q (.cond (.q .z) (.q (.cond (.q .z) (.seq (some [(0,.s),(1,.s),(5,.i),(36,.b)]) .r (.h))))))))) (.q (.q (.q (.q (.q (.n (.blk (.loop [(0,.s),(1,.s),(5,.i),(6,.sc (.int .u8)),(7,.sc (.int .u8)),(8,.i),(9,.i),(10,.i)] (.n (.q (.cond .z .z)) (.blk (.seq (some [(0,.s),(1,.s),(5,.i),(6,.sc (.int .u8)),(7,.sc (.int .u8)),(8,.i),(9,.i),(10,.i)]) (.q (.cond (.q (.n (.q (.h)) .r)) .z)) (.n (.seq (some [(0,.s),(1,.s),(5,.i),(6,.sc (.int .u8)),(7,.sc (.int .u8)),(8,.i),(9,.i),(10,.i),(85,.w),(86,.w),(87,.w),(88,.w),(89,.w),(90,.w),(91,.w),(92,.w),(93,.b)]) .r (.h)) (.q (.q (.seq (some [(0,.s),(1,.s),(5,.i),(6,.sc (.int .u8)),(7,.sc (.int .u8)),(8,.i),(9,.i),(10,.i),(85,.w),(86,.w),(87,.w),(88,.w),(89,.w),(90,.w),(91,.w),(92,.w),(103,.w),(104,.w),(105,.w),(106,.w),(107,.b)]) .r (.cond (.q (.n (.q (.h)) (.q .z))) (.seq (some [(0,.s),(1,.s),(5,.i),(6,.sc (.int .u8)),(7,.sc (.int .u8)),(8,.i),(9,.i),(10,.i),(85,.w),(86,.w),(87,.w),(88,.w),(89,.w),(90,.w),(91,.w),(92,.w),(103,.w),(104,.w),(105,.w),(106,.w),(122,.w),(123,.w),(124,.w),(125,.w),(126,.w),(129,.w),(130,.w),(131,.w),(132,.b)]) .r (.cond (.q (.n (.q (.h)) (.q .z))) .z)))))))))))) (.q .z))))))))))
def g137 (s_1 : ByteArray) (substr_2 : ByteArray) (K : KH) : H -> Prop :=
 letJ (T := ByteArray -> ByteArray -> Int -> Bool -> H -> Prop) (fun s_4 substr_5 n_6 x7 => brW x7 (K (.int .i64 0)) (brW ((n_6 : Int) == 1) (idxW substr_5 0 (fun c8 => callT Tryz.prog 79 [.string s_4, .int .u8 (c8.toNat : Int)] kI (fun (x9 : Int) => K (.int .i64 x9)))) (brW (decide ((n_6 : Int) >= ((s_4.size : Nat) : Int))) (K (.int .i64 (-1))) (letJ (T := ByteArray -> ByteArray -> Int -> Bool -> H -> Prop) (fun s_11 substr_12 n_13 x14 => brW x14
 (cvalT Tryz.prog (.func (.func 198) ⟨[]⟩ ⟨[]⟩) [.string s_11, .string substr_12] kI (fun (x15 : Int) => K (.int .i64 x15))) (idxW substr_12 0 (fun c16 => idxW substr_12 1 (fun c17 =>
 loopW [.sc .str, .sc .str, .sc (.int .i64), .sc (.int .u8), .sc (.int .u8), .sc (.int .i64), .sc (.int .i64), .sc (.int .i64)] (fun (R18 : ByteArray -> ByteArray -> Int -> Int -> Int -> Int -> Int -> Int -> H -> Prop) => (fun (s_19 : ByteArray) (substr_20 : ByteArray) (n_21 : Int) (c0_22 : Int) (c1_23 : Int) (i_24 : Int) (t_25 : Int) (fails_26 : Int) => brW (decide ((i_24 : Int) < t_25))
 (letJ (T := ByteArray -> ByteArray -> Int -> Int -> Int -> Int -> Int -> Int -> H -> Prop) (fun s_28 substr_29 n_30 c0_31 c1_32 i_33 t_34 fails_35 => letJ (T := ByteArray -> ByteArray -> Int -> Int -> Int -> Int -> Int -> Int -> Value -> Value -> Value -> Value -> Value -> Value -> Value -> Value -> Bool -> H -> Prop) (fun s_37 substr_38 n_39 c0_40 c1_41 i_42 t_43 fails_44 x45 x46 x47 x48 x49 x50 x51 x52 x53 => brW x53 (K (.int .i64 i_42))
 (letJ (T := ByteArray -> ByteArray -> Int -> Int -> Int -> Int -> Int -> Int -> Value -> Value -> Value -> Value -> Value -> Value -> Value -> Value -> Value -> Value -> Value -> Value -> Bool -> H -> Prop) (fun s_55 substr_56 n_57 c0_58 c1_59 i_60 t_61 fails_62 x63 x64 x65 x66 x67 x68 x69 x70 x71 x72 x73 x74 x75 => brW x75 (ifW (bndOk none s_55.size /\ bndOk (some i_60) (s_55.size)) (cvalT Tryz.prog (.func (.func 198) ⟨[]⟩ ⟨[]⟩) [.string (s_55.extract i_60.toNat s_55.size), .string substr_56] kI (fun (x76 : Int) =>
 brW (decide ((x76 : Int) >= 0)) (K (.int .i64 (IntKind.i64.wrap (x76 + i_60)))) (K (.int .i64 (-1))))))
 (letJ (T := ByteArray -> ByteArray -> Int -> Int -> Int -> Int -> Int -> Int -> Value -> Value -> Value -> Value -> Value -> Value -> Value -> Value -> Value -> Value -> Value -> Value -> Value -> Value -> Value -> Value -> Value -> Value -> Value -> Value -> Bool -> H -> Prop) (fun s_78 substr_79 n_80 c0_81 c1_82 i_83 t_84 fails_85 _x86 _x87 _x88 _x89 _x90 _x91 _x92 _x93 _x94 _x95 _x96 _x97 _x98 _x99 _x100 _x101 _x102 _x103 _x104 _x105 x106 => brW x106 (ifW (bndOk none s_78.size /\ bndOk (some i_83) (s_78.size))
 (callT Tryz.prog 200 [.string (s_78.extract i_83.toNat s_78.size), .string substr_79] kI (fun (x107 : Int) => brW (decide ((x107 : Int) < 0)) (K (.int .i64 (-1))) (K (.int .i64 (IntKind.i64.wrap (i_83 + x107))))))) (R18 s_78 substr_79 n_80 c0_81 c1_82 i_83 t_84 fails_85)) (fun j77 => rdT (rdC 0 0) kI (fun (x108 : Int) => brW (decide ((n_57 : Int) > x108)) (ifW (0 <= (4 : Int)) (brW (decide ((fails_62 : Int) >= (IntKind.i64.wrap (4 + (Int.fdiv i_60 (2 ^ min (Int.toNat 4) (IntKind.bits .i64)))))))
 (j77 s_55 substr_56 n_57 c0_58 c1_59 i_60 t_61 fails_62 x63 x64 x65 x66 x67 x68 x69 x70 x71 x72 x73 x74 (.int .i64 fails_62) (.int .i64 i_60) (.int .i64 (Int.fdiv i_60 (2 ^ min (Int.toNat 4) (IntKind.bits .i64)))) (.int .i64 (IntKind.i64.wrap (4 + (Int.fdiv i_60 (2 ^ min (Int.toNat 4) (IntKind.bits .i64)))))) (.bool (decide ((fails_62 : Int) >= (IntKind.i64.wrap (4 + (Int.fdiv i_60 (2 ^ min (Int.toNat 4) (IntKind.bits .i64)))))))) (.int .i64 i_60) (.int .i64 t_61) (.bool (decide ((i_60 : Int) < t_61))) (decide ((i_60 : Int) < t_61)))
 (j77 s_55 substr_56 n_57 c0_58 c1_59 i_60 t_61 fails_62 x63 x64 x65 x66 x67 x68 x69 x70 x71 x72 x73 x74 (.int .i64 fails_62) (.int .i64 i_60) (.int .i64 (Int.fdiv i_60 (2 ^ min (Int.toNat 4) (IntKind.bits .i64)))) (.int .i64 (IntKind.i64.wrap (4 + (Int.fdiv i_60 (2 ^ min (Int.toNat 4) (IntKind.bits .i64)))))) (.bool (decide ((fails_62 : Int) >= (IntKind.i64.wrap (4 + (Int.fdiv i_60 (2 ^ min (Int.toNat 4) (IntKind.bits .i64)))))))) (.tuple ⟨[]⟩) (.tuple ⟨[]⟩) (.tuple ⟨[]⟩) false)))
 (j77 s_55 substr_56 n_57 c0_58 c1_59 i_60 t_61 fails_62 x63 x64 x65 x66 x67 x68 x69 x70 x71 x72 x73 x74 (.tuple ⟨[]⟩) (.tuple ⟨[]⟩) (.tuple ⟨[]⟩) (.tuple ⟨[]⟩) (.tuple ⟨[]⟩) (.tuple ⟨[]⟩) (.tuple ⟨[]⟩) (.tuple ⟨[]⟩) false))))) (fun j54 => rdT (rdC 0 0) kI (fun (x109 : Int) => brW (decide ((n_39 : Int) <= x109)) (callT Tryz.prog 199 [.int .i64 (IntKind.i64.wrap (i_42 + 1))] kI (fun (x110 : Int) =>
 j54 s_37 substr_38 n_39 c0_40 c1_41 (IntKind.i64.wrap (i_42 + 1)) t_43 (IntKind.i64.wrap (fails_44 + 1)) x45 x46 x47 x48 x49 x50 x51 x52 (.int .i64 (IntKind.i64.wrap (fails_44 + 1))) (.int .i64 (IntKind.i64.wrap (i_42 + 1))) (.int .i64 x110) (.bool (decide (((IntKind.i64.wrap (fails_44 + 1)) : Int) > x110))) (decide (((IntKind.i64.wrap (fails_44 + 1)) : Int) > x110))))
 (j54 s_37 substr_38 n_39 c0_40 c1_41 (IntKind.i64.wrap (i_42 + 1)) t_43 (IntKind.i64.wrap (fails_44 + 1)) x45 x46 x47 x48 x49 x50 x51 x52 (.tuple ⟨[]⟩) (.tuple ⟨[]⟩) (.tuple ⟨[]⟩) (.tuple ⟨[]⟩) false))))) (fun j36 => idxW s_28 (IntKind.i64.wrap (i_33 + 1)) (fun c111 => brW (((c111.toNat : Int) : Int) == c1_32) (ifW (bndOk (some (IntKind.i64.wrap (i_33 + n_30))) s_28.size /\ bndOk (some i_33) ((IntKind.i64.wrap (i_33 + n_30)).toNat))
 (j36 s_28 substr_29 n_30 c0_31 c1_32 i_33 t_34 fails_35 (.string s_28) (.int .i64 i_33) (.int .i64 i_33) (.int .i64 n_30) (.int .i64 (IntKind.i64.wrap (i_33 + n_30))) (.string (s_28.extract i_33.toNat ((IntKind.i64.wrap (i_33 + n_30)).toNat))) (.string substr_29) (.bool (strEq (s_28.extract i_33.toNat ((IntKind.i64.wrap (i_33 + n_30)).toNat)) substr_29)) (strEq (s_28.extract i_33.toNat ((IntKind.i64.wrap (i_33 + n_30)).toNat)) substr_29)))
 (j36 s_28 substr_29 n_30 c0_31 c1_32 i_33 t_34 fails_35 (.tuple ⟨[]⟩) (.tuple ⟨[]⟩) (.tuple ⟨[]⟩) (.tuple ⟨[]⟩) (.tuple ⟨[]⟩) (.tuple ⟨[]⟩) (.tuple ⟨[]⟩) (.tuple ⟨[]⟩) false)))) (fun j27 => idxW s_19 i_24 (fun c112 => brW (((c112.toNat : Int) : Int) != c0_22) (ifW (bndOk (some t_25) s_19.size /\ bndOk (some (IntKind.i64.wrap (i_24 + 1))) (t_25.toNat)) (callT Tryz.prog 79 [.string (s_19.extract ((IntKind.i64.wrap (i_24 + 1)).toNat) t_25.toNat), .int .u8 c0_22] kI (fun (x113 : Int) =>
 brW (decide ((x113 : Int) < 0)) (K (.int .i64 (-1))) (j27 s_19 substr_20 n_21 c0_22 c1_23 (IntKind.i64.wrap (i_24 + (IntKind.i64.wrap (x113 + 1)))) t_25 fails_26)))) (j27 s_19 substr_20 n_21 c0_22 c1_23 i_24 t_25 fails_26)))) (K (.int .i64 (-1))))) (fun (R114 : ByteArray -> ByteArray -> Int -> Int -> Int -> Int -> Int -> Int -> H -> Prop) => R114 s_11 substr_12 n_13 (c16.toNat : Int) (c17.toNat : Int) 0 (IntKind.i64.wrap ((IntKind.i64.wrap (((s_11.size : Nat) : Int) - n_13)) + 1)) 0))))) (fun j10 =>
 rdT (rdC 0 0) kI (fun (x115 : Int) => brW (decide ((n_6 : Int) <= x115)) (j10 s_4 substr_5 n_6 (decide ((((s_4.size : Nat) : Int) : Int) <= 64))) (j10 s_4 substr_5 n_6 false))))))) (fun j3 => brW ((((substr_2.size : Nat) : Int) : Int) == 0) (j3 s_1 substr_2 ((substr_2.size : Nat) : Int) true) (j3 s_1 substr_2 ((substr_2.size : Nat) : Int) (strEq substr_2 s_1)))
theorem e137 (s_1 : ByteArray) (substr_2 : ByteArray) (K : KH) : bodyF Tryz.prog tau Tryz.f137 an137 [.string s_1, .string substr_2] K = g137 s_1 substr_2 K := by kernel_rfl
theorem c137 (s_1 : ByteArray) (substr_2 : ByteArray) {K : KH} {σ : H} (h : g137 s_1 substr_2 K σ) : callW Tryz.prog 137 [.string s_1, .string substr_2] K σ := call_of_body mixed Tryz.func137 (by rw [e137]; exact h)


def an138 : Ann := (.q (.n (.q (.h)) (.q .z)))
def g138 (t_1 : Option Addr) (ino_2 : Int) (K : KH) : H -> Prop :=
 brW t_1.isNone (K (.pointer none)) (ptrW t_1 (fun b3 o4 => rdT (rdC b3 (o4 + 4)) kM (fun (x5 : Option Nat) => rdT (rdM (.int .i64) (.pointer none) false x5 (.int .i64 ino_2)) kP (fun x6 => K (.pointer x6)))))
theorem e138 (t_1 : Option Addr) (ino_2 : Int) (K : KH) : bodyF Tryz.prog tau Tryz.f138 an138 [.pointer t_1, .int .i64 ino_2] K = g138 t_1 ino_2 K := by kernel_rfl
theorem c138 (t_1 : Option Addr) (ino_2 : Int) {K : KH} {σ : H} (h : g138 t_1 ino_2 K σ) : callW Tryz.prog 138 [.pointer t_1, .int .i64 ino_2] K σ := call_of_body mixed Tryz.func138 (by rw [e138]; exact h)


def an139 : Ann := (.q (.q .z))
def g139 (m_1 : Option Nat) (K : KH) : H -> Prop :=
 alW (.cells ⟨[.map m_1]⟩ 192 (0, 0)) (fun b2 => K (.func (.func 201) ⟨[]⟩ ⟨[.pointer (some ⟨b2, 0, none⟩)]⟩))
theorem e139 (m_1 : Option Nat) (K : KH) : bodyF Tryz.prog tau Tryz.f139 an139 [.map m_1] K = g139 m_1 K := by kernel_rfl
theorem c139 (m_1 : Option Nat) {K : KH} {σ : H} (h : g139 m_1 K σ) : callW Tryz.prog 139 [.map m_1] K σ := call_of_body mixed Tryz.func139 (by rw [e139]; exact h)


def an154 : Ann := (.q (.q (.q (.n (.q (.blk (.q (.cond (.q .z) (.q (.cond (.q .z) (.q (.h)))))))) (.q .z)))))
def g154 (n_1 : ByteArray) (n_2 : Int) (n_3 : Bool) (n_4 : ByteArray) (n_5 : Sl) (K : KH) : H -> Prop :=
 alW (.cells ⟨[.string n_1, .int .i64 n_2, .bool n_3, .string n_4, .slice n_5.base n_5.len n_5.cap]⟩ 73 (0, 0)) (fun b6 => rdT (rdC b6 1) kI (fun (x7 : Int) => brW ((x7 : Int) == 1) (callT Tryz.prog 206 [.pointer (some ⟨b6, 0, none⟩)] kB (fun x8 => K (.bool x8))) (brW ((x7 : Int) == 3) (alW (.cells ⟨[.func (.func 206) ⟨[]⟩ ⟨[.pointer (some ⟨b6, 0, none⟩)]⟩, .func (.func 207) ⟨[]⟩ ⟨[.pointer (some ⟨b6, 0, none⟩)]⟩, .func (.func 209) ⟨[]⟩ ⟨[.pointer (some ⟨b6, 0, none⟩)]⟩]⟩ 23 (0, 0)) (fun b9 =>
 callT Tryz.prog 208 [.slice (some ⟨b9, 0, none⟩) 3 3] kB (fun x10 => K (.bool x10)))) (brW ((x7 : Int) == 2) (alW (.cells ⟨[.func (.func 207) ⟨[]⟩ ⟨[.pointer (some ⟨b6, 0, none⟩)]⟩, .func (.func 210) ⟨[]⟩ ⟨[.pointer (some ⟨b6, 0, none⟩)]⟩, .func (.func 211) ⟨[]⟩ ⟨[.pointer (some ⟨b6, 0, none⟩)]⟩]⟩ 23 (0, 0)) (fun b11 => callT Tryz.prog 208 [.slice (some ⟨b11, 0, none⟩) 3 3] kB (fun x12 => K (.bool x12)))) (K (.bool false))))))
theorem e154 (n_1 : ByteArray) (n_2 : Int) (n_3 : Bool) (n_4 : ByteArray) (n_5 : Sl) (K : KH) : bodyF Tryz.prog tau Tryz.f154 an154 [.agg ⟨[.string n_1, .int .i64 n_2, .bool n_3, .string n_4, .slice n_5.base n_5.len n_5.cap]⟩] K = g154 n_1 n_2 n_3 n_4 n_5 K := by kernel_rfl
theorem c154 (n_1 : ByteArray) (n_2 : Int) (n_3 : Bool) (n_4 : ByteArray) (n_5 : Sl) {K : KH} {σ : H} (h : g154 n_1 n_2 n_3 n_4 n_5 K σ) : callW Tryz.prog 154 [.agg ⟨[.string n_1, .int .i64 n_2, .bool n_3, .string n_4, .slice n_5.base n_5.len n_5.cap]⟩] K σ := call_of_body mixed Tryz.func154 (by rw [e154]; exact h)


def an160 : Ann := (.q (.seq (some [(0,.p),(1,.p),(2,.p),(4,.b)]) .r (.q (.q .z))))
def g160 (x1 : Option Addr) (x2 : Option Addr) (x3 : Option Addr) (K : KH) : H -> Prop :=
 letJ (T := Option Addr -> Option Addr -> Option Addr -> Bool -> H -> Prop) (fun x5 x6 x7 link_8 => alW (.map #[] 0) (fun b9 => muW Tryz.prog 211 (.map (some b9)) (.int .i64 1) (.bool true) (ptrW x5 (fun b10 o11 => rdT (rdC b10 o11) kS (fun (x12 : ByteArray) => muW Tryz.prog 211 (.map (some b9)) (.int .i64 2) (.bool (strEq x12 (⟨⟨[]⟩⟩ : ByteArray))) (muW Tryz.prog 211 (.map (some b9)) (.int .i64 3) (.bool link_8) (ptrW x6 (fun b13 o14 => rdT (rdC b13 o14) kI (fun (x15 : Int) =>
 rdT (rdM (.int .i64) (.bool false) false (some b9) (.int .i64 x15)) kB (fun x16 => brW x16 (ptrW x7 (fun b17 o18 => rdT (rdC b17 o18) kI (fun (x19 : Int) => brW (decide ((x19 : Int) >= 0)) (ptrW x7 (fun b20 o21 => rdT (rdC b20 o21) kI (fun (x22 : Int) => callT Tryz.prog 161 [.bool (decide ((x22 : Int) <= 511)), .int .i64 2] kI (fun (x23 : Int) => K (.int .i64 x23))))) (callT Tryz.prog 161 [.bool false, .int .i64 2] kI (fun (x24 : Int) => K (.int .i64 x24))))))
 (callT Tryz.prog 161 [.bool false, .int .i64 2] kI (fun (x25 : Int) => K (.int .i64 x25))))))))))))) (fun j4 => ptrW x1 (fun b26 o27 => rdT (rdC b26 o27) kS (fun (x28 : ByteArray) => brW (!strEq x28 (⟨⟨[]⟩⟩ : ByteArray)) (ptrW x1 (fun b29 o30 => rdT (rdC b29 o30) kS (fun (x31 : ByteArray) => brW (decide ((((x31.size : Nat) : Int) : Int) <= 255)) (ptrW x1 (fun b32 o33 => rdT (rdC b32 o33) kS (fun (x34 : ByteArray) => callT Tryz.prog 26 [.string x34, .int .u8 0] kI (fun (x35 : Int) =>
 j4 x1 x2 x3 (decide ((x35 : Int) < 0)))))) (j4 x1 x2 x3 false)))) (j4 x1 x2 x3 false))))
theorem e160 (x1 : Option Addr) (x2 : Option Addr) (x3 : Option Addr) (K : KH) : bodyF Tryz.prog tau Tryz.f160 an160 [.pointer x1, .pointer x2, .pointer x3] K = g160 x1 x2 x3 K := by kernel_rfl
theorem c160 (x1 : Option Addr) (x2 : Option Addr) (x3 : Option Addr) {K : KH} {σ : H} (h : g160 x1 x2 x3 K σ) : callW Tryz.prog 160 [.pointer x1, .pointer x2, .pointer x3] K σ := call_of_body mixed Tryz.func160 (by rw [e160]; exact h)


def an161 : Ann := (.q (.n (.q (.h)) (.q .z)))
def g161 (is_1 : Bool) (e_2 : Int) (K : KH) : H -> Prop :=
 brW (!is_1) (K (.int .i64 e_2)) (K (.int .i64 0))
theorem e161 (is_1 : Bool) (e_2 : Int) (K : KH) : bodyF Tryz.prog tau Tryz.f161 an161 [.bool is_1, .int .i64 e_2] K = g161 is_1 e_2 K := by kernel_rfl
theorem c161 (is_1 : Bool) (e_2 : Int) {K : KH} {σ : H} (h : g161 is_1 e_2 K σ) : callW Tryz.prog 161 [.bool is_1, .int .i64 e_2] K σ := call_of_body mixed Tryz.func161 (by rw [e161]; exact h)


def an162 : Ann := (.q (.n (.q (.blk (.loop [(6,.l),(7,.i),(8,.i)] (.q (.n (.cond .z .z) (.n (.blk (.q (.q (.q (.h))))) .r)))))) (.q .z)))
def g162 (asked_1 : Sl) (K : KH) : H -> Prop :=
 loopW [.sc .slc, .sc (.int .i64), .sc (.int .i64)] (fun (R2 : Sl -> Int -> Int -> H -> Prop) => (fun (x3 : Sl) (x4 : Int) (x5 : Int) => brW (decide ((x5 : Int) < x4)) (ptrW x3.base (fun b6 o7 => ifW (0 <= x5 /\ x5 < ((x3.len : Nat) : Int)) (rdT (rdC b6 (o7 + x5.toNat * 1)) kR (fun x8 => cvalT Tryz.prog x8 [] kI (fun (x9 : Int) => brW ((x9 : Int) != 0) (K (.int .i64 x9)) (R2 x3 x4 (IntKind.i64.wrap (x5 + 1))))))))
 (K (.int .i64 0)))) (fun (R10 : Sl -> Int -> Int -> H -> Prop) => R10 asked_1 ((asked_1.len : Nat) : Int) 0)
theorem e162 (asked_1 : Sl) (K : KH) : bodyF Tryz.prog tau Tryz.f162 an162 [.slice asked_1.base asked_1.len asked_1.cap] K = g162 asked_1 K := by kernel_rfl
theorem c162 (asked_1 : Sl) {K : KH} {σ : H} (h : g162 asked_1 K σ) : callW Tryz.prog 162 [.slice asked_1.base asked_1.len asked_1.cap] K σ := call_of_body mixed Tryz.func162 (by rw [e162]; exact h)


def an163 : Ann := (.q (.q .z))
def g163 (t_1 : Option Addr) (K : KH) : H -> Prop :=
 callT Tryz.prog 161 [.bool (!t_1.isNone), .int .i64 1] kI (fun (x2 : Int) => K (.int .i64 x2))
theorem e163 (t_1 : Option Addr) (K : KH) : bodyF Tryz.prog tau Tryz.f163 an163 [.pointer t_1] K = g163 t_1 K := by kernel_rfl
theorem c163 (t_1 : Option Addr) {K : KH} {σ : H} (h : g163 t_1 K σ) : callW Tryz.prog 163 [.pointer t_1] K σ := call_of_body mixed Tryz.func163 (by rw [e163]; exact h)


def an164 : Ann := (.q (.q .z))
def g164 (t_1 : Option Addr) (ino_2 : Int) (K : KH) : H -> Prop :=
 alW (.cells ⟨[.pointer t_1]⟩ 108 (0, 0)) (fun b3 => alW (.cells ⟨[.int .i64 ino_2]⟩ 3 (0, 0)) (fun b4 => K (.func (.func 214) ⟨[]⟩ ⟨[.pointer (some ⟨b3, 0, none⟩), .pointer (some ⟨b4, 0, none⟩)]⟩)))
theorem e164 (t_1 : Option Addr) (ino_2 : Int) (K : KH) : bodyF Tryz.prog tau Tryz.f164 an164 [.pointer t_1, .int .i64 ino_2] K = g164 t_1 ino_2 K := by kernel_rfl
theorem c164 (t_1 : Option Addr) (ino_2 : Int) {K : KH} {σ : H} (h : g164 t_1 ino_2 K σ) : callW Tryz.prog 164 [.pointer t_1, .int .i64 ino_2] K σ := call_of_body mixed Tryz.func164 (by rw [e164]; exact h)


def an165 : Ann := (.q (.q .z))
def g165 (name_1 : ByteArray) (K : KH) : H -> Prop :=
 alW (.cells ⟨[.string name_1]⟩ 9 (0, 0)) (fun b2 => K (.func (.func 215) ⟨[]⟩ ⟨[.pointer (some ⟨b2, 0, none⟩)]⟩))
theorem e165 (name_1 : ByteArray) (K : KH) : bodyF Tryz.prog tau Tryz.f165 an165 [.string name_1] K = g165 name_1 K := by kernel_rfl
theorem c165 (name_1 : ByteArray) {K : KH} {σ : H} (h : g165 name_1 K σ) : callW Tryz.prog 165 [.string name_1] K σ := call_of_body mixed Tryz.func165 (by rw [e165]; exact h)


def an166 : Ann := (.q (.q .z))
def g166 (t_1 : Option Addr) (dir_2 : Int) (name_3 : ByteArray) (K : KH) : H -> Prop :=
 alW (.cells ⟨[.pointer t_1]⟩ 108 (0, 0)) (fun b4 => alW (.cells ⟨[.int .i64 dir_2]⟩ 3 (0, 0)) (fun b5 => alW (.cells ⟨[.string name_3]⟩ 9 (0, 0)) (fun b6 => K (.func (.func 217) ⟨[]⟩ ⟨[.pointer (some ⟨b4, 0, none⟩), .pointer (some ⟨b5, 0, none⟩), .pointer (some ⟨b6, 0, none⟩)]⟩))))
theorem e166 (t_1 : Option Addr) (dir_2 : Int) (name_3 : ByteArray) (K : KH) : bodyF Tryz.prog tau Tryz.f166 an166 [.pointer t_1, .int .i64 dir_2, .string name_3] K = g166 t_1 dir_2 name_3 K := by kernel_rfl
theorem c166 (t_1 : Option Addr) (dir_2 : Int) (name_3 : ByteArray) {K : KH} {σ : H} (h : g166 t_1 dir_2 name_3 K σ) : callW Tryz.prog 166 [.pointer t_1, .int .i64 dir_2, .string name_3] K σ := call_of_body mixed Tryz.func166 (by rw [e166]; exact h)


def an167 : Ann := (.q (.q .z))
def g167 (x1 : Option Addr) (x2 : Option Addr) (K : KH) : H -> Prop :=
 ptrW x1 (fun b3 o4 => rdT (rdC b3 o4) kP (fun x5 => ptrW x2 (fun b6 o7 => rdT (rdC b6 o7) kS (fun (x8 : ByteArray) => callT Tryz.prog 168 [.pointer x5, .int .i64 1, .int .i64 ((x8.size : Nat) : Int)] kR (fun x9 => cvalT Tryz.prog x9 [] kI (fun (x10 : Int) => K (.int .i64 x10)))))))
theorem e167 (x1 : Option Addr) (x2 : Option Addr) (K : KH) : bodyF Tryz.prog tau Tryz.f167 an167 [.pointer x1, .pointer x2] K = g167 x1 x2 K := by kernel_rfl
theorem c167 (x1 : Option Addr) (x2 : Option Addr) {K : KH} {σ : H} (h : g167 x1 x2 K σ) : callW Tryz.prog 167 [.pointer x1, .pointer x2] K σ := call_of_body mixed Tryz.func167 (by rw [e167]; exact h)


def an168 : Ann := (.q (.q .z))
def g168 (t_1 : Option Addr) (inodes_2 : Int) (bytes_3 : Int) (K : KH) : H -> Prop :=
 alW (.cells ⟨[.pointer t_1]⟩ 108 (0, 0)) (fun b4 => alW (.cells ⟨[.int .i64 inodes_2]⟩ 3 (0, 0)) (fun b5 => alW (.cells ⟨[.int .i64 bytes_3]⟩ 3 (0, 0)) (fun b6 => K (.func (.func 218) ⟨[]⟩ ⟨[.pointer (some ⟨b4, 0, none⟩), .pointer (some ⟨b5, 0, none⟩), .pointer (some ⟨b6, 0, none⟩)]⟩))))
theorem e168 (t_1 : Option Addr) (inodes_2 : Int) (bytes_3 : Int) (K : KH) : bodyF Tryz.prog tau Tryz.f168 an168 [.pointer t_1, .int .i64 inodes_2, .int .i64 bytes_3] K = g168 t_1 inodes_2 bytes_3 K := by kernel_rfl
theorem c168 (t_1 : Option Addr) (inodes_2 : Int) (bytes_3 : Int) {K : KH} {σ : H} (h : g168 t_1 inodes_2 bytes_3 K σ) : callW Tryz.prog 168 [.pointer t_1, .int .i64 inodes_2, .int .i64 bytes_3] K σ := call_of_body mixed Tryz.func168 (by rw [e168]; exact h)


def an170 : Ann := (.q (.n (.q (.q (.h))) (.seq (some [(1,.i),(2,.s),(5,.p),(8,.p),(9,.p),(10,.p),(11,.p)]) (.q (.cond .r .z)) (.q (.seq (some [(10,.p),(11,.p),(13,.p)]) (.q (.blk (.rf [.s,.b] (.q .r) (.blk (.n (.blk (.q (.cond (.q .z) (.q (.cond (.q .z) (.q (.cond (.n (.reg (rn 8) [[],[0],[0,1],[0,1,2],[],[4],(rn 6),(rn 7)]) (.q .z)) (.q (.h))))))))) (.q (.n (.reg (rn 15) [[],[0],[0,1],[0,1,2],[],[4],[],(rn 7),(rn 8),(rn 9),(rn 9),(rn 10),[0,1,2,3,4,5,6,7,8,9,11],(rn 13),(rn 14)]) (.n (.seq (some [(5,.p),(9,.p),(10,.p),(11,.p),(13,.p),(105,.b)]) .r (.cond .z .z)) (.n (.q (.q (.h))) (.n (.reg (rn 13) [[],[0],[0,1],[0,1,2],[],[4],(rn 6),(rn 7),(rn 8),(rn 8),[],[0,1,2,3,4,5,6,7,8,10],(rn 12)]) (.q (.n (.q (.h)) .r)))))))))))) (.q .z))))))
def g170 (f_1 : Option Addr) (at_2 : Int) (path_3 : ByteArray) (follow_4 : Bool) (hops_5 : Option Addr) (K : KH) : H -> Prop :=
 alW (.cells ⟨[.pointer f_1]⟩ 24 (0, 0)) (fun b6 => alW (.cells ⟨[.bool follow_4]⟩ 4 (0, 0)) (fun b7 => alW (.cells ⟨[.pointer hops_5]⟩ 219 (0, 0)) (fun b8 => alW (.cells ⟨[.int .i64 0, .string (⟨⟨[]⟩⟩ : ByteArray), .int .i64 0, .bool false]⟩ 142 (0, 0)) (fun b9 => alW (.cells ⟨[.int .i64 0]⟩ 36 (0, 0)) (fun b10 => callT Tryz.prog 220 [.string path_3] kI (fun (x11 : Int) => brW ((x11 : Int) != 0)
 (stW Tryz.prog 142 (.pointer (some ⟨b9, 0, none⟩)) (.agg ⟨[.int .i64 0, .string (⟨⟨[]⟩⟩ : ByteArray), .int .i64 0, .bool false]⟩) (stW Tryz.prog 36 (.pointer (some ⟨b10, 0, none⟩)) (.int .i64 x11) (rdT (rdA 4 b9 0) (.one (.agg [(.int .i64), .str, (.int .i64), .bool])) (fun (r12 : Int) (r13 : ByteArray) (r14 : Int) (r15 : Bool) => rdT (rdC b10 0) kI (fun (r16 : Int) => K (.tuple ⟨[.agg ⟨[.int .i64 r12, .string r13, .int .i64 r14, .bool r15]⟩, .int .i64 r16]⟩))))))
 (letJ (T := Int -> ByteArray -> Option Addr -> Option Addr -> Option Addr -> Option Addr -> Option Addr -> H -> Prop) (fun at_18 path_19 f_20 follow_21 hops_22 x23 x24 => alW (.cells ⟨[.int .i64 0, .string (⟨⟨[]⟩⟩ : ByteArray), .int .i64 0, .bool false]⟩ 142 (0, 0)) (fun b25 => stW Tryz.prog 142 (.pointer (some ⟨b25, 0, none⟩)) (.agg ⟨[.int .i64 at_18, .string (⟨⟨[]⟩⟩ : ByteArray), .int .i64 at_18, .bool true]⟩) (letJ (T := Option Addr -> Option Addr -> Option Addr -> H -> Prop) (fun x27 x28 p_29 =>
 ptrW p_29 (fun b30 o31 => rdT (rdA 4 b30 o31) (.one (.agg [(.int .i64), .str, (.int .i64), .bool])) (fun (x32 : Int) (x33 : ByteArray) (x34 : Int) (x35 : Bool) => stW Tryz.prog 142 (.pointer x27) (.agg ⟨[.int .i64 x32, .string x33, .int .i64 x34, .bool x35]⟩) (stW Tryz.prog 36 (.pointer x28) (.int .i64 0) (ptrW x27 (fun b36 o37 => rdT (rdA 4 b36 o37) (.one (.agg [(.int .i64), .str, (.int .i64), .bool])) (fun (r38 : Int) (r39 : ByteArray) (r40 : Int) (r41 : Bool) => ptrW x28 (fun b42 o43 =>
 rdT (rdC b42 o43) kI (fun (r44 : Int) => K (.tuple ⟨[.agg ⟨[.int .i64 r38, .string r39, .int .i64 r40, .bool r41]⟩, .int .i64 r44]⟩)))))))))) (fun j26 => callT Tryz.prog 221 [.string path_19] kR (fun x45 => funW x45 (fun (g146 : FuncId) (as147 cs148 : List Value) => rfW Tryz.prog none g146 as147 cs148 [.sc .str, .sc .bool] (fun (l46 : Nat) (obj47 : LoopState -> Option Code -> Obj) (K48 : Value -> H -> Prop) => (fun (x49 : ByteArray) (x50 : Bool) => begW l46 obj47 (rdT (rdC b25 3) kB (fun x51 =>
 brW (!x51) (stW Tryz.prog 142 (.pointer x23) (.agg ⟨[.int .i64 0, .string (⟨⟨[]⟩⟩ : ByteArray), .int .i64 0, .bool false]⟩) (stW Tryz.prog 36 (.pointer x24) (.int .i64 5) (roundK l46 obj47 K48 (some .ret) false .done))) (ptrW f_20 (fun b52 o53 => rdT (rdC b52 o53) kP (fun x54 => rdT (rdC b25 2) kI (fun (x55 : Int) => callT Tryz.prog 110 [.pointer x54, .int .i64 x55] kI (fun (x56 : Int) => brW ((x56 : Int) != 2)
 (stW Tryz.prog 142 (.pointer x23) (.agg ⟨[.int .i64 0, .string (⟨⟨[]⟩⟩ : ByteArray), .int .i64 0, .bool false]⟩) (stW Tryz.prog 36 (.pointer x24) (.int .i64 8) (roundK l46 obj47 K48 (some .ret) false .done))) (brW (strEq x49 (⟨⟨[46, 46]⟩⟩ : ByteArray)) (ptrW f_20 (fun b57 o58 => rdT (rdC b57 o58) kP (fun x59 => ptrW x59 (fun b60 o61 => rdT (rdC b60 o61) kP (fun x62 => rdT (rdC b25 2) kI (fun (x63 : Int) => callT Tryz.prog 124 [.pointer x62, .int .i64 x63] kI (fun (x64 : Int) =>
 stW Tryz.prog 142 (.pointer (some ⟨b25, 0, none⟩)) (.agg ⟨[.int .i64 x64, .string (⟨⟨[]⟩⟩ : ByteArray), .int .i64 x64, .bool true]⟩) (roundK l46 obj47 K48 none true .ready)))))))) (brW (decide ((((x49.size : Nat) : Int) : Int) > 56)) (stW Tryz.prog 142 (.pointer x23) (.agg ⟨[.int .i64 0, .string (⟨⟨[]⟩⟩ : ByteArray), .int .i64 0, .bool false]⟩) (stW Tryz.prog 36 (.pointer x24) (.int .i64 3) (roundK l46 obj47 K48 (some .ret) false .done))) (rdT (rdC b25 2) kI (fun (x65 : Int) =>
 stW Tryz.prog 142 (.pointer (some ⟨b25, 0, none⟩)) (.agg ⟨[.int .i64 x65, .string x49, .int .i64 0, .bool false]⟩) (ptrW f_20 (fun b66 o67 => rdT (rdC b66 o67) kP (fun x68 => ptrW x68 (fun b69 o70 => rdT (rdC b69 o70) kP (fun x71 => rdT (rdC b25 0) kI (fun (x72 : Int) => callT Tryz.prog 125 [.pointer x71, .int .i64 x72, .string x49] (.tup [.sc (.int .i64), .sc .bool]) (fun (x73 : Int) (x74 : Bool) =>
 stW Tryz.prog 3 (.pointer (some ⟨b25, 2, none⟩)) (.int .i64 x73) (stW Tryz.prog 4 (.pointer (some ⟨b25, 3, none⟩)) (.bool x74) (letJ (T := Option Addr -> Option Addr -> Option Addr -> Option Addr -> Option Addr -> Bool -> H -> Prop) (fun f_76 hops_77 x78 x79 p_80 x81 => brW x81 (roundK l46 obj47 K48 none true .ready) (ptrW hops_77 (fun b82 o83 => rdT (rdC b82 o83) kP (fun x84 => ptrW x84 (fun b85 o86 => rdT (rdC b85 o86) kI (fun (x87 : Int) => ptrW x84 (fun b88 o89 =>
 stW Tryz.prog 3 (.pointer (some ⟨b88, o89, none⟩)) (.int .i64 (IntKind.i64.wrap (x87 - 1))) (ptrW hops_77 (fun b90 o91 => rdT (rdC b90 o91) kP (fun x92 => ptrW x92 (fun b93 o94 => rdT (rdC b93 o94) kI (fun (x95 : Int) => brW (decide ((x95 : Int) < 0)) (stW Tryz.prog 142 (.pointer x78) (.agg ⟨[.int .i64 0, .string (⟨⟨[]⟩⟩ : ByteArray), .int .i64 0, .bool false]⟩) (stW Tryz.prog 36 (.pointer x79) (.int .i64 9) (roundK l46 obj47 K48 (some .ret) false .done))) (ptrW f_76 (fun b96 o97 =>
 rdT (rdC b96 o97) kP (fun x98 => ptrW x98 (fun b99 o100 => rdT (rdC b99 o100) kP (fun x101 => ptrW p_80 (fun b102 o103 => rdT (rdC b102 (o103 + 2)) kI (fun (x104 : Int) => callT Tryz.prog 99 [.pointer x101, .int .i64 x104] (.tup [.agg [(.int .i64), (.int .i64), .str, (.int .i64)], .sc .bool]) (fun (x105 : Int) (x106 : Int) (x107 : ByteArray) (x108 : Int) (_x109 : Bool) => alW (.cells ⟨[.int .i64 0, .int .i64 0, .string (⟨⟨[]⟩⟩ : ByteArray), .int .i64 0]⟩ 35 (0, 0)) (fun b110 =>
 stW Tryz.prog 35 (.pointer (some ⟨b110, 0, none⟩)) (.agg ⟨[.int .i64 x105, .int .i64 x106, .string x107, .int .i64 x108]⟩) (ptrW f_76 (fun b111 o112 => rdT (rdC b111 o112) kP (fun x113 => ptrW p_80 (fun b114 o115 => rdT (rdC b114 o115) kI (fun (x116 : Int) => rdT (rdC b110 2) kS (fun (x117 : ByteArray) => ptrW hops_77 (fun b118 o119 => rdT (rdC b118 o119) kP (fun x120 =>
 callT Tryz.prog 170 [.pointer x113, .int .i64 x116, .string x117, .bool true, .pointer x120] (.tup [.agg [(.int .i64), .str, (.int .i64), .bool], .sc (.int .i64)]) (fun (x121 : Int) (x122 : ByteArray) (x123 : Int) (x124 : Bool) (x125 : Int) => alW (.cells ⟨[.int .i64 0, .string (⟨⟨[]⟩⟩ : ByteArray), .int .i64 0, .bool false]⟩ 142 (0, 0)) (fun b126 => stW Tryz.prog 142 (.pointer (some ⟨b126, 0, none⟩)) (.agg ⟨[.int .i64 x121, .string x122, .int .i64 x123, .bool x124]⟩) (brW ((x125 : Int) != 0)
 (stW Tryz.prog 142 (.pointer x78) (.agg ⟨[.int .i64 0, .string (⟨⟨[]⟩⟩ : ByteArray), .int .i64 0, .bool false]⟩) (stW Tryz.prog 36 (.pointer x79) (.int .i64 x125) (roundK l46 obj47 K48 (some .ret) false .done))) (rdT (rdA 4 b126 0) (.one (.agg [(.int .i64), .str, (.int .i64), .bool])) (fun (x127 : Int) (x128 : ByteArray) (x129 : Int) (x130 : Bool) =>
 stW Tryz.prog 142 (.pointer p_80) (.agg ⟨[.int .i64 x127, .string x128, .int .i64 x129, .bool x130]⟩) (roundK l46 obj47 K48 none true .ready))))))))))))))))))))))))))))))))))) (fun j75 => rdT (rdC b25 3) kB (fun x131 => brW (!x131) (j75 f_20 hops_22 x23 x24 (some ⟨b25, 0, none⟩) true) (brW x50 (ptrW follow_21 (fun b132 o133 => rdT (rdC b132 o133) kB (fun x134 => brW (!x134) (j75 f_20 hops_22 x23 x24 (some ⟨b25, 0, none⟩) true) (ptrW f_20 (fun b135 o136 => rdT (rdC b135 o136) kP (fun x137 =>
 rdT (rdC b25 2) kI (fun (x138 : Int) => callT Tryz.prog 110 [.pointer x137, .int .i64 x138] kI (fun (x139 : Int) => j75 f_20 hops_22 x23 x24 (some ⟨b25, 0, none⟩) ((x139 : Int) != 3))))))))) (ptrW f_20 (fun b140 o141 => rdT (rdC b140 o141) kP (fun x142 => rdT (rdC b25 2) kI (fun (x143 : Int) => callT Tryz.prog 110 [.pointer x142, .int .i64 x143] kI (fun (x144 : Int) => j75 f_20 hops_22 x23 x24 (some ⟨b25, 0, none⟩) ((x144 : Int) != 3)))))))))))))))))))))))))))))))
 (j26 x23 x24 (some ⟨b25, 0, none⟩)) (fun i145 => exW i145 0 (j26 x23 x24 (some ⟨b25, 0, none⟩)) (nW)) (ptrW x23 (fun b149 o150 => rdT (rdA 4 b149 o150) (.one (.agg [(.int .i64), .str, (.int .i64), .bool])) (fun (r151 : Int) (r152 : ByteArray) (r153 : Int) (r154 : Bool) => ptrW x24 (fun b155 o156 => rdT (rdC b155 o156) kI (fun (r157 : Int) => K (.tuple ⟨[.agg ⟨[.int .i64 r151, .string r152, .int .i64 r153, .bool r154]⟩, .int .i64 r157]⟩)))))))))))) (fun j17 => idxW path_3 0 (fun c158 =>
 brW (((c158.toNat : Int) : Int) == 47) (rdT (rdC b6 0) kP (fun x159 => ptrW x159 (fun b160 o161 => rdT (rdC b160 o161) kP (fun x162 => callT Tryz.prog 123 [.pointer x162] kI (fun (x163 : Int) => j17 x163 path_3 (some ⟨b6, 0, none⟩) (some ⟨b7, 0, none⟩) (some ⟨b8, 0, none⟩) (some ⟨b9, 0, none⟩) (some ⟨b10, 0, none⟩)))))) (j17 at_2 path_3 (some ⟨b6, 0, none⟩) (some ⟨b7, 0, none⟩) (some ⟨b8, 0, none⟩) (some ⟨b9, 0, none⟩) (some ⟨b10, 0, none⟩)))))))))))
theorem e170 (f_1 : Option Addr) (at_2 : Int) (path_3 : ByteArray) (follow_4 : Bool) (hops_5 : Option Addr) (K : KH) : bodyF Tryz.prog tau Tryz.f170 an170 [.pointer f_1, .int .i64 at_2, .string path_3, .bool follow_4, .pointer hops_5] K = g170 f_1 at_2 path_3 follow_4 hops_5 K := by kernel_rfl
theorem c170 (f_1 : Option Addr) (at_2 : Int) (path_3 : ByteArray) (follow_4 : Bool) (hops_5 : Option Addr) {K : KH} {σ : H} (h : g170 f_1 at_2 path_3 follow_4 hops_5 K σ) : callW Tryz.prog 170 [.pointer f_1, .int .i64 at_2, .string path_3, .bool follow_4, .pointer hops_5] K σ := call_of_body mixed Tryz.func170 (by rw [e170]; exact h)


def an171 : Ann := (.q (.n (.reg (rn 18) [[],[],[1],[],[3],[3,4],[3,4,5],[],[3,4,5,6,7],[3,4,5,6,7,8],[3,4,5,6,7,8,9],[3,4,5,6,7,8,9,10],[3,4,5,6,7,8,9,10,11],[3,4,5,6,7,8,9,10,11,12],[1,2,3,4,5,6,7,8,9,10,11,12,13],(rn 15),(rn 16),(rn 17)]) .z))
def g171 (x1 : Option Addr) (x2 : Option Addr) (x3 : Option Addr) (K : KH) : H -> Prop :=
 ptrW x1 (fun b4 o5 => rdT (rdC b4 o5) kP (fun x6 => ptrW x2 (fun b7 o8 => rdT (rdC b7 o8) kS (fun (x9 : ByteArray) => ptrW x1 (fun b10 o11 => rdT (rdC b10 o11) kP (fun x12 => ptrW x12 (fun b13 o14 => rdT (rdC b13 (o14 + 4)) kM (fun (x15 : Option Nat) => ptrW x3 (fun b16 o17 => rdT (rdC b16 o17) kI (fun (x18 : Int) => rdT (rdM (.int .i64) (.pointer none) false x15 (.int .i64 x18)) kP (fun x19 => ptrW x19 (fun b20 o21 => rdT (rdC b20 (o21 + 2)) kS (fun (x22 : ByteArray) =>
 callT Tryz.prog 168 [.pointer x6, .int .i64 0, .int .i64 (IntKind.i64.wrap (((x9.size : Nat) : Int) - ((x22.size : Nat) : Int)))] kR (fun x23 => cvalT Tryz.prog x23 [] kI (fun (x24 : Int) => K (.int .i64 x24))))))))))))))))
theorem e171 (x1 : Option Addr) (x2 : Option Addr) (x3 : Option Addr) (K : KH) : bodyF Tryz.prog tau Tryz.f171 an171 [.pointer x1, .pointer x2, .pointer x3] K = g171 x1 x2 x3 K := by kernel_rfl
theorem c171 (x1 : Option Addr) (x2 : Option Addr) (x3 : Option Addr) {K : KH} {σ : H} (h : g171 x1 x2 x3 K σ) : callW Tryz.prog 171 [.pointer x1, .pointer x2, .pointer x3] K σ := call_of_body mixed Tryz.func171 (by rw [e171]; exact h)


def an172 : Ann := (.q (.q .z))
def g172 (t_1 : Option Addr) (ino_2 : Int) (K : KH) : H -> Prop :=
 alW (.cells ⟨[.pointer t_1]⟩ 108 (0, 0)) (fun b3 => alW (.cells ⟨[.int .i64 ino_2]⟩ 3 (0, 0)) (fun b4 => K (.func (.func 222) ⟨[]⟩ ⟨[.pointer (some ⟨b3, 0, none⟩), .pointer (some ⟨b4, 0, none⟩)]⟩)))
theorem e172 (t_1 : Option Addr) (ino_2 : Int) (K : KH) : bodyF Tryz.prog tau Tryz.f172 an172 [.pointer t_1, .int .i64 ino_2] K = g172 t_1 ino_2 K := by kernel_rfl
theorem c172 (t_1 : Option Addr) (ino_2 : Int) {K : KH} {σ : H} (h : g172 t_1 ino_2 K σ) : callW Tryz.prog 172 [.pointer t_1, .int .i64 ino_2] K σ := call_of_body mixed Tryz.func172 (by rw [e172]; exact h)


def an173 : Ann := (.q (.q .z))
def g173 (n_1 : ByteArray) (n_2 : Int) (n_3 : Bool) (n_4 : ByteArray) (n_5 : Sl) (K : KH) : H -> Prop :=
 alW (.cells ⟨[.string n_1, .int .i64 n_2, .bool n_3, .string n_4, .slice n_5.base n_5.len n_5.cap]⟩ 73 (0, 0)) (fun b6 => rdT (rdA 5 b6 0) (.one (.agg [.str, (.int .i64), .bool, .str, .slc])) (fun (x7 : ByteArray) (x8 : Int) (x9 : Bool) (x10 : ByteArray) (x11 : Sl) => callT Tryz.prog 223 [.agg ⟨[.string x7, .int .i64 x8, .bool x9, .string x10, .slice x11.base x11.len x11.cap]⟩, .int .i64 14] kI (fun (x12 : Int) => K (.int .i64 x12))))
theorem e173 (n_1 : ByteArray) (n_2 : Int) (n_3 : Bool) (n_4 : ByteArray) (n_5 : Sl) (K : KH) : bodyF Tryz.prog tau Tryz.f173 an173 [.agg ⟨[.string n_1, .int .i64 n_2, .bool n_3, .string n_4, .slice n_5.base n_5.len n_5.cap]⟩] K = g173 n_1 n_2 n_3 n_4 n_5 K := by kernel_rfl
theorem c173 (n_1 : ByteArray) (n_2 : Int) (n_3 : Bool) (n_4 : ByteArray) (n_5 : Sl) {K : KH} {σ : H} (h : g173 n_1 n_2 n_3 n_4 n_5 K σ) : callW Tryz.prog 173 [.agg ⟨[.string n_1, .int .i64 n_2, .bool n_3, .string n_4, .slice n_5.base n_5.len n_5.cap]⟩] K σ := call_of_body mixed Tryz.func173 (by rw [e173]; exact h)


def an176 : Ann := (.q (.q .z))
def g176 (s_1 : ByteArray) (prefix_2 : ByteArray) (K : KH) : H -> Prop :=
 brW (decide ((((s_1.size : Nat) : Int) : Int) >= ((prefix_2.size : Nat) : Int))) (ifW (bndOk (some ((prefix_2.size : Nat) : Int)) s_1.size /\ bndOk none (((prefix_2.size : Nat) : Int).toNat)) (K (.bool (strEq (s_1.extract 0 (((prefix_2.size : Nat) : Int).toNat)) prefix_2)))) (K (.bool false))
theorem e176 (s_1 : ByteArray) (prefix_2 : ByteArray) (K : KH) : bodyF Tryz.prog tau Tryz.f176 an176 [.string s_1, .string prefix_2] K = g176 s_1 prefix_2 K := by kernel_rfl
theorem c176 (s_1 : ByteArray) (prefix_2 : ByteArray) {K : KH} {σ : H} (h : g176 s_1 prefix_2 K σ) : callW Tryz.prog 176 [.string s_1, .string prefix_2] K σ := call_of_body mixed Tryz.func176 (by rw [e176]; exact h)


def an177 : Ann := (.q (.q (.q .z)))
def g177 (x1 : Option Addr) (x2 : Option Addr) (x3 : Option Addr) (K : KH) : H -> Prop :=
 ptrW x1 (fun b4 o5 => rdT (rdC b4 o5) kP (fun x6 => ptrW x2 (fun b7 o8 => rdT (rdC b7 o8) kI (fun (x9 : Int) => ptrW x3 (fun b10 o11 => rdT (rdC b10 o11) kS (fun (x12 : ByteArray) => callT Tryz.prog 125 [.pointer x6, .int .i64 x9, .string x12] (.tup [.sc (.int .i64), .sc .bool]) (fun (x13 : Int) (_x14 : Bool) => ptrW x1 (fun b15 o16 => rdT (rdC b15 o16) kP (fun x17 => ptrW x17 (fun b18 o19 => rdT (rdC b18 (o19 + 4)) kM (fun (x20 : Option Nat) =>
 rdT (rdM (.int .i64) (.pointer none) false x20 (.int .i64 x13)) kP (fun x21 => ptrW x21 (fun b22 o23 => rdT (rdC b22 (o23 + 5)) kM (fun (x24 : Option Nat) => rdT (rdLen x24) kI (fun (x25 : Int) => callT Tryz.prog 161 [.bool ((x25 : Int) == 0), .int .i64 20] kI (fun (x26 : Int) => K (.int .i64 x26)))))))))))))))))
theorem e177 (x1 : Option Addr) (x2 : Option Addr) (x3 : Option Addr) (K : KH) : bodyF Tryz.prog tau Tryz.f177 an177 [.pointer x1, .pointer x2, .pointer x3] K = g177 x1 x2 x3 K := by kernel_rfl
theorem c177 (x1 : Option Addr) (x2 : Option Addr) (x3 : Option Addr) {K : KH} {σ : H} (h : g177 x1 x2 x3 K σ) : callW Tryz.prog 177 [.pointer x1, .pointer x2, .pointer x3] K σ := call_of_body mixed Tryz.func177 (by rw [e177]; exact h)

end Go.Proofs.YtbjbeajbckcecaaGreatDoor

set_option maxRecDepth 100000
namespace Go.Proofs.YtbjbeajbckcecaaGreatDoor
open Go Go.HL
def an178 : Ann := (.q (.q .z))
def g178 (t_1 : Option Addr) (dir_2 : Int) (name_3 : ByteArray) (K : KH) : H -> Prop :=
 alW (.cells ⟨[.pointer t_1]⟩ 108 (0, 0)) (fun b4 => alW (.cells ⟨[.int .i64 dir_2]⟩ 3 (0, 0)) (fun b5 => alW (.cells ⟨[.string name_3]⟩ 9 (0, 0)) (fun b6 => K (.func (.func 224) ⟨[]⟩ ⟨[.pointer (some ⟨b4, 0, none⟩), .pointer (some ⟨b5, 0, none⟩), .pointer (some ⟨b6, 0, none⟩)]⟩))))
theorem e178 (t_1 : Option Addr) (dir_2 : Int) (name_3 : ByteArray) (K : KH) : bodyF Tryz.prog tau Tryz.f178 an178 [.pointer t_1, .int .i64 dir_2, .string name_3] K = g178 t_1 dir_2 name_3 K := by kernel_rfl
theorem c178 (t_1 : Option Addr) (dir_2 : Int) (name_3 : ByteArray) {K : KH} {σ : H} (h : g178 t_1 dir_2 name_3 K σ) : callW Tryz.prog 178 [.pointer t_1, .int .i64 dir_2, .string name_3] K σ := call_of_body mixed Tryz.func178 (by rw [e178]; exact h)


def an179 : Ann := (.q (.n (.blk (.loop [(0,.p),(1,.i),(2,.i)] (.n (.seq (some [(0,.p),(1,.i),(2,.i),(11,.w),(12,.w),(13,.w),(14,.w),(15,.w),(16,.w),(17,.w),(18,.b)]) .r (.cond .z .z)) (.blk .r)))) (.q .z)))
def g179 (f_1 : Option Addr) (dir_2 : Int) (ino_3 : Int) (K : KH) : H -> Prop :=
 loopW [.sc .ptr, .sc (.int .i64), .sc (.int .i64)] (fun (R4 : Option Addr -> Int -> Int -> H -> Prop) => (fun (f_5 : Option Addr) (dir_6 : Int) (ino_7 : Int) => letJ (T := Option Addr -> Int -> Int -> Value -> Value -> Value -> Value -> Value -> Value -> Value -> Bool -> H -> Prop) (fun f_9 dir_10 ino_11 _x12 _x13 _x14 _x15 _x16 _x17 _x18 x19 => brW x19 (ptrW f_9 (fun b20 o21 => rdT (rdC b20 o21) kP (fun x22 => callT Tryz.prog 124 [.pointer x22, .int .i64 dir_10] kI (fun (x23 : Int) => R4 f_9 x23 ino_11))))
 (K (.bool ((dir_10 : Int) == ino_11)))) (fun j8 => brW ((dir_6 : Int) != ino_7) (ptrW f_5 (fun b24 o25 => rdT (rdC b24 o25) kP (fun x26 => callT Tryz.prog 123 [.pointer x26] kI (fun (x27 : Int) => j8 f_5 dir_6 ino_7 (.int .i64 dir_6) (.pointer f_5) (.pointer (some ⟨b24, o25, none⟩)) (.pointer (some ⟨b24, o25, none⟩)) (.pointer x26) (.int .i64 x27) (.bool ((dir_6 : Int) != x27)) ((dir_6 : Int) != x27)))))
 (j8 f_5 dir_6 ino_7 (.tuple ⟨[]⟩) (.tuple ⟨[]⟩) (.tuple ⟨[]⟩) (.tuple ⟨[]⟩) (.tuple ⟨[]⟩) (.tuple ⟨[]⟩) (.tuple ⟨[]⟩) false)))) (fun (R28 : Option Addr -> Int -> Int -> H -> Prop) => R28 f_1 dir_2 ino_3)
theorem e179 (f_1 : Option Addr) (dir_2 : Int) (ino_3 : Int) (K : KH) : bodyF Tryz.prog tau Tryz.f179 an179 [.pointer f_1, .int .i64 dir_2, .int .i64 ino_3] K = g179 f_1 dir_2 ino_3 K := by kernel_rfl
theorem c179 (f_1 : Option Addr) (dir_2 : Int) (ino_3 : Int) {K : KH} {σ : H} (h : g179 f_1 dir_2 ino_3 K σ) : callW Tryz.prog 179 [.pointer f_1, .int .i64 dir_2, .int .i64 ino_3] K σ := call_of_body mixed Tryz.func179 (by rw [e179]; exact h)


def an180 : Ann := (.q (.n (.q (.h)) (.q (.n (.q (.blk (.loop [(0,.p),(1,.i),(5,.i),(19,.l),(20,.i),(21,.i)] (.q (.n (.cond .z .z) (.n (.blk (.q (.q .r))) .r)))))) (.q .z)))))
def g180 (f_1 : Option Addr) (ino_2 : Int) (K : KH) : H -> Prop :=
 callT Tryz.prog 110 [.pointer f_1, .int .i64 ino_2] kI (fun (x3 : Int) => brW ((x3 : Int) != 2) (K (.int .i64 0)) (ptrW f_1 (fun b4 o5 => rdT (rdC b4 o5) kP (fun x6 => callT Tryz.prog 73 [.pointer x6, .int .i64 ino_2] kL (fun x7 => loopW [.sc .ptr, .sc (.int .i64), .sc (.int .i64), .sc .slc, .sc (.int .i64), .sc (.int .i64)] (fun (R8 : Option Addr -> Int -> Int -> Sl -> Int -> Int -> H -> Prop) => (fun (f_9 : Option Addr) (ino_10 : Int) (n_11 : Int) (x12 : Sl) (x13 : Int) (x14 : Int) =>
 brW (decide ((x14 : Int) < x13)) (ptrW x12.base (fun b15 o16 => ifW (0 <= x14 /\ x14 < ((x12.len : Nat) : Int)) (rdT (rdC b15 (o16 + x14.toNat * 1)) kS (fun (x17 : ByteArray) => ptrW f_9 (fun b18 o19 => rdT (rdC b18 o19) kP (fun x20 => callT Tryz.prog 125 [.pointer x20, .int .i64 ino_10, .string x17] (.tup [.sc (.int .i64), .sc .bool]) (fun (x21 : Int) (_x22 : Bool) => callT Tryz.prog 180 [.pointer f_9, .int .i64 x21] kI (fun (x23 : Int) =>
 R8 f_9 ino_10 (if x23 > n_11 then x23 else n_11) x12 x13 (IntKind.i64.wrap (x14 + 1)))))))))) (K (.int .i64 (IntKind.i64.wrap (n_11 + 1)))))) (fun (R24 : Option Addr -> Int -> Int -> Sl -> Int -> Int -> H -> Prop) => R24 f_1 ino_2 0 x7 ((x7.len : Nat) : Int) 0))))))
theorem e180 (f_1 : Option Addr) (ino_2 : Int) (K : KH) : bodyF Tryz.prog tau Tryz.f180 an180 [.pointer f_1, .int .i64 ino_2] K = g180 f_1 ino_2 K := by kernel_rfl
theorem c180 (f_1 : Option Addr) (ino_2 : Int) {K : KH} {σ : H} (h : g180 f_1 ino_2 K σ) : callW Tryz.prog 180 [.pointer f_1, .int .i64 ino_2] K σ := call_of_body mixed Tryz.func180 (by rw [e180]; exact h)


def an181 : Ann := (.q (.n (.q (.blk (.loop [(1,.p),(2,.p),(4,.i)] (.n (.q (.cond .z .z)) (.n (.blk (.q (.h))) .r))))) (.q .z)))
def g181 (x1 : Option Addr) (x2 : Option Addr) (x3 : Option Addr) (K : KH) : H -> Prop :=
 ptrW x1 (fun b4 o5 => rdT (rdC b4 o5) kI (fun (x6 : Int) => loopW [.sc .ptr, .sc .ptr, .sc (.int .i64)] (fun (R7 : Option Addr -> Option Addr -> Int -> H -> Prop) => (fun (x8 : Option Addr) (x9 : Option Addr) (at_10 : Int) => brW ((at_10 : Int) != 1) (ptrW x9 (fun b11 o12 => rdT (rdC b11 o12) kI (fun (x13 : Int) => brW ((at_10 : Int) == x13) (K (.int .i64 2)) (ptrW x8 (fun b14 o15 => rdT (rdC b14 o15) kP (fun x16 => ptrW x16 (fun b17 o18 => rdT (rdC b17 (o18 + 4)) kM (fun (x19 : Option Nat) =>
 rdT (rdM (.int .i64) (.pointer none) false x19 (.int .i64 at_10)) kP (fun x20 => ptrW x20 (fun b21 o22 => rdT (rdC b21 (o22 + 4)) kI (fun (x23 : Int) => R7 x8 x9 x23))))))))))) (K (.int .i64 0)))) (fun (R24 : Option Addr -> Option Addr -> Int -> H -> Prop) => R24 x2 x3 x6)))
theorem e181 (x1 : Option Addr) (x2 : Option Addr) (x3 : Option Addr) (K : KH) : bodyF Tryz.prog tau Tryz.f181 an181 [.pointer x1, .pointer x2, .pointer x3] K = g181 x1 x2 x3 K := by kernel_rfl
theorem c181 (x1 : Option Addr) (x2 : Option Addr) (x3 : Option Addr) {K : KH} {σ : H} (h : g181 x1 x2 x3 K σ) : callW Tryz.prog 181 [.pointer x1, .pointer x2, .pointer x3] K σ := call_of_body mixed Tryz.func181 (by rw [e181]; exact h)


def an182 : Ann := (.q (.q .z))
def g182 (x1 : Option Addr) (K : KH) : H -> Prop :=
 ptrW x1 (fun b2 o3 => rdT (rdC b2 o3) kI (fun (x4 : Int) => brW (decide ((x4 : Int) >= 0)) (ptrW x1 (fun b5 o6 => rdT (rdC b5 o6) kI (fun (x7 : Int) => callT Tryz.prog 161 [.bool (decide ((x7 : Int) <= 511)), .int .i64 2] kI (fun (x8 : Int) => K (.int .i64 x8))))) (callT Tryz.prog 161 [.bool false, .int .i64 2] kI (fun (x9 : Int) => K (.int .i64 x9)))))
theorem e182 (x1 : Option Addr) (K : KH) : bodyF Tryz.prog tau Tryz.f182 an182 [.pointer x1] K = g182 x1 K := by kernel_rfl
theorem c182 (x1 : Option Addr) {K : KH} {σ : H} (h : g182 x1 K σ) : callW Tryz.prog 182 [.pointer x1] K σ := call_of_body mixed Tryz.func182 (by rw [e182]; exact h)


def an183 : Ann := (.q (.q .z))
def g183 (x1 : Option Addr) (x2 : Option Addr) (K : KH) : H -> Prop :=
 ptrW x1 (fun b3 o4 => rdT (rdC b3 o4) kP (fun x5 => ptrW x2 (fun b6 o7 => rdT (rdC b6 o7) kI (fun (x8 : Int) => callT Tryz.prog 138 [.pointer x5, .int .i64 x8] kP (fun x9 => callT Tryz.prog 161 [.bool (!x9.isNone), .int .i64 5] kI (fun (x10 : Int) => K (.int .i64 x10)))))))
theorem e183 (x1 : Option Addr) (x2 : Option Addr) (K : KH) : bodyF Tryz.prog tau Tryz.f183 an183 [.pointer x1, .pointer x2] K = g183 x1 x2 K := by kernel_rfl
theorem c183 (x1 : Option Addr) (x2 : Option Addr) {K : KH} {σ : H} (h : g183 x1 x2 K σ) : callW Tryz.prog 183 [.pointer x1, .pointer x2] K σ := call_of_body mixed Tryz.func183 (by rw [e183]; exact h)


def an184 : Ann := (.q (.n (.reg (rn 5) [[],[0],[0,1],[],(rn 4)]) (.n (.q (.blk (.loop [(2,.i),(3,.i),(12,.l),(13,.i),(14,.i)] (.q (.n (.cond .z .z) (.seq (some [(2,.i),(3,.i),(12,.l),(13,.i),(14,.i)]) (.blk (.q (.n (.q (.cond .z .z)) (.q .r)))) .r)))))) (.q .z))))
def g184 (n_1 : ByteArray) (n_2 : Int) (n_3 : Bool) (n_4 : ByteArray) (n_5 : Sl) (K : KH) : H -> Prop :=
 alW (.cells ⟨[.string n_1, .int .i64 n_2, .bool n_3, .string n_4, .slice n_5.base n_5.len n_5.cap]⟩ 73 (0, 0)) (fun b6 => rdT (rdC b6 3) kS (fun (x7 : ByteArray) => rdT (rdC b6 4) kL (fun x8 => loopW [.sc (.int .i64), .sc (.int .i64), .sc .slc, .sc (.int .i64), .sc (.int .i64)] (fun (R9 : Int -> Int -> Sl -> Int -> Int -> H -> Prop) => (fun (inodes_10 : Int) (bytes_11 : Int) (x12 : Sl) (x13 : Int) (x14 : Int) => brW (decide ((x14 : Int) < x13))
 (letJ (T := Int -> Int -> Sl -> Int -> Int -> H -> Prop) (fun inodes_16 bytes_17 x18 x19 x20 => R9 inodes_16 bytes_17 x18 x19 (IntKind.i64.wrap (x20 + 1))) (fun j15 => ptrW x12.base (fun b21 o22 => ifW (0 <= x14 /\ x14 < ((x12.len : Nat) : Int)) (rdT (rdA 5 b21 (o22 + x14.toNat * 5)) (.one (.agg [.str, (.int .i64), .bool, .str, .slc])) (fun (x23 : ByteArray) (x24 : Int) (x25 : Bool) (x26 : ByteArray) (x27 : Sl) =>
 alW (.cells ⟨[.string (⟨⟨[]⟩⟩ : ByteArray), .int .i64 0, .bool false, .string (⟨⟨[]⟩⟩ : ByteArray), .slice none 0 0]⟩ 73 (0, 0)) (fun b28 => stW Tryz.prog 73 (.pointer (some ⟨b28, 0, none⟩)) (.agg ⟨[.string x23, .int .i64 x24, .bool x25, .string x26, .slice x27.base x27.len x27.cap]⟩) (rdT (rdA 5 b28 0) (.one (.agg [.str, (.int .i64), .bool, .str, .slc])) (fun (x29 : ByteArray) (x30 : Int) (x31 : Bool) (x32 : ByteArray) (x33 : Sl) =>
 callT Tryz.prog 103 [.agg ⟨[.string x29, .int .i64 x30, .bool x31, .string x32, .slice x33.base x33.len x33.cap]⟩] kB (fun x34 => brW x34 (j15 inodes_10 bytes_11 x12 x13 x14) (rdT (rdA 5 b28 0) (.one (.agg [.str, (.int .i64), .bool, .str, .slc])) (fun (x35 : ByteArray) (x36 : Int) (x37 : Bool) (x38 : ByteArray) (x39 : Sl) =>
 callT Tryz.prog 184 [.agg ⟨[.string x35, .int .i64 x36, .bool x37, .string x38, .slice x39.base x39.len x39.cap]⟩] (.tup [.sc (.int .i64), .sc (.int .i64)]) (fun (x40 : Int) (x41 : Int) => j15 (IntKind.i64.wrap (inodes_10 + x40)) (IntKind.i64.wrap (bytes_11 + x41)) x12 x13 x14)))))))))))) (K (.tuple ⟨[.int .i64 inodes_10, .int .i64 bytes_11]⟩)))) (fun (R42 : Int -> Int -> Sl -> Int -> Int -> H -> Prop) => R42 1 ((x7.size : Nat) : Int) x8 ((x8.len : Nat) : Int) 0))))
theorem e184 (n_1 : ByteArray) (n_2 : Int) (n_3 : Bool) (n_4 : ByteArray) (n_5 : Sl) (K : KH) : bodyF Tryz.prog tau Tryz.f184 an184 [.agg ⟨[.string n_1, .int .i64 n_2, .bool n_3, .string n_4, .slice n_5.base n_5.len n_5.cap]⟩] K = g184 n_1 n_2 n_3 n_4 n_5 K := by kernel_rfl
theorem c184 (n_1 : ByteArray) (n_2 : Int) (n_3 : Bool) (n_4 : ByteArray) (n_5 : Sl) {K : KH} {σ : H} (h : g184 n_1 n_2 n_3 n_4 n_5 K σ) : callW Tryz.prog 184 [.agg ⟨[.string n_1, .int .i64 n_2, .bool n_3, .string n_4, .slice n_5.base n_5.len n_5.cap]⟩] K σ := call_of_body mixed Tryz.func184 (by rw [e184]; exact h)


def an206 : Ann := (.q (.q .z))
def g206 (x1 : Option Addr) (K : KH) : H -> Prop :=
 ptrW x1 (fun b2 o3 => rdT (rdC b2 (o3 + 4)) kL (fun x4 => K (.bool ((((x4.len : Nat) : Int) : Int) == 0))))
theorem e206 (x1 : Option Addr) (K : KH) : bodyF Tryz.prog tau Tryz.f206 an206 [.pointer x1] K = g206 x1 K := by kernel_rfl
theorem c206 (x1 : Option Addr) {K : KH} {σ : H} (h : g206 x1 K σ) : callW Tryz.prog 206 [.pointer x1] K σ := call_of_body mixed Tryz.func206 (by rw [e206]; exact h)


def an207 : Ann := (.q (.q .z))
def g207 (x1 : Option Addr) (K : KH) : H -> Prop :=
 ptrW x1 (fun b2 o3 => rdT (rdC b2 (o3 + 2)) kB (fun x4 => K (.bool (!x4))))
theorem e207 (x1 : Option Addr) (K : KH) : bodyF Tryz.prog tau Tryz.f207 an207 [.pointer x1] K = g207 x1 K := by kernel_rfl
theorem c207 (x1 : Option Addr) {K : KH} {σ : H} (h : g207 x1 K σ) : callW Tryz.prog 207 [.pointer x1] K σ := call_of_body mixed Tryz.func207 (by rw [e207]; exact h)


def an208 : Ann := (.q (.q .z))
def g208 (l_1 : Sl) (K : KH) : H -> Prop :=
 callT Tryz.prog 245 [.slice l_1.base l_1.len l_1.cap, .func (.func 246) ⟨[]⟩ ⟨[]⟩] kB (fun x2 => K (.bool (!x2)))
theorem e208 (l_1 : Sl) (K : KH) : bodyF Tryz.prog tau Tryz.f208 an208 [.slice l_1.base l_1.len l_1.cap] K = g208 l_1 K := by kernel_rfl
theorem c208 (l_1 : Sl) {K : KH} {σ : H} (h : g208 l_1 K σ) : callW Tryz.prog 208 [.slice l_1.base l_1.len l_1.cap] K σ := call_of_body mixed Tryz.func208 (by rw [e208]; exact h)


def an209 : Ann := (.q (.q .z))
def g209 (x1 : Option Addr) (K : KH) : H -> Prop :=
 ptrW x1 (fun b2 o3 => rdT (rdC b2 (o3 + 3)) kS (fun (x4 : ByteArray) => brW (decide ((((x4.size : Nat) : Int) : Int) >= 1)) (ptrW x1 (fun b5 o6 => rdT (rdC b5 (o6 + 3)) kS (fun (x7 : ByteArray) => brW (decide ((((x7.size : Nat) : Int) : Int) <= 255)) (ptrW x1 (fun b8 o9 => rdT (rdC b8 (o9 + 3)) kS (fun (x10 : ByteArray) => callT Tryz.prog 26 [.string x10, .int .u8 0] kI (fun (x11 : Int) => K (.bool (decide ((x11 : Int) < 0))))))) (K (.bool false))))) (K (.bool false))))
theorem e209 (x1 : Option Addr) (K : KH) : bodyF Tryz.prog tau Tryz.f209 an209 [.pointer x1] K = g209 x1 K := by kernel_rfl
theorem c209 (x1 : Option Addr) {K : KH} {σ : H} (h : g209 x1 K σ) : callW Tryz.prog 209 [.pointer x1] K σ := call_of_body mixed Tryz.func209 (by rw [e209]; exact h)


def an210 : Ann := (.q (.q .z))
def g210 (x1 : Option Addr) (K : KH) : H -> Prop :=
 ptrW x1 (fun b2 o3 => rdT (rdC b2 (o3 + 3)) kS (fun (x4 : ByteArray) => K (.bool (strEq x4 (⟨⟨[]⟩⟩ : ByteArray)))))
theorem e210 (x1 : Option Addr) (K : KH) : bodyF Tryz.prog tau Tryz.f210 an210 [.pointer x1] K = g210 x1 K := by kernel_rfl
theorem c210 (x1 : Option Addr) {K : KH} {σ : H} (h : g210 x1 K σ) : callW Tryz.prog 210 [.pointer x1] K σ := call_of_body mixed Tryz.func210 (by rw [e210]; exact h)


def an211 : Ann := (.q (.n (.q (.blk (.loop [(0,.p),(5,.l),(6,.i),(7,.i)] (.q (.n (.cond .z .z) (.n (.blk (.q (.seq (some [(0,.p),(5,.l),(6,.i),(7,.i),(17,.w),(18,.w),(19,.w),(22,.w),(23,.w),(24,.w),(25,.w),(26,.w),(27,.w),(28,.w),(29,.w),(30,.w),(31,.w),(32,.w),(33,.w),(34,.w),(35,.w),(36,.b)]) (.reg (rn 25) [[],[0],[0,1],[0,1,2],(rn 4),(rn 5),(rn 6),(rn 7),(rn 8),(rn 9),(rn 10),(rn 11),(rn 12),(rn 13),(rn 14),(rn 13),[0,1,2,3,4,5,6,7,8,9,10,11,12,15],(rn 17),(rn 18),(rn 19),(rn 13),[0,1,2,3,4,5,6,7,8,9,10,11,12,20],(rn 22),(rn 23),(rn 24)]) (.h)))) .r)))))) (.q .z)))
def g211 (x1 : Option Addr) (K : KH) : H -> Prop :=
 ptrW x1 (fun b2 o3 => rdT (rdC b2 (o3 + 4)) kL (fun x4 => loopW [.sc .ptr, .sc .slc, .sc (.int .i64), .sc (.int .i64)] (fun (R5 : Option Addr -> Sl -> Int -> Int -> H -> Prop) => (fun (x6 : Option Addr) (x7 : Sl) (x8 : Int) (x9 : Int) => brW (decide ((x9 : Int) < x8)) (ptrW x7.base (fun b10 o11 => ifW (0 <= x9 /\ x9 < ((x7.len : Nat) : Int))
 (rdT (rdA 5 b10 (o11 + x9.toNat * 5)) (.one (.agg [.str, (.int .i64), .bool, .str, .slc])) (fun (x12 : ByteArray) (x13 : Int) (x14 : Bool) (x15 : ByteArray) (x16 : Sl) => alW (.cells ⟨[.string (⟨⟨[]⟩⟩ : ByteArray), .int .i64 0, .bool false, .string (⟨⟨[]⟩⟩ : ByteArray), .slice none 0 0]⟩ 73 (0, 0)) (fun b17 =>
 stW Tryz.prog 73 (.pointer (some ⟨b17, 0, none⟩)) (.agg ⟨[.string x12, .int .i64 x13, .bool x14, .string x15, .slice x16.base x16.len x16.cap]⟩) (letJ (T := Option Addr -> Sl -> Int -> Int -> Value -> Value -> Value -> Value -> Value -> Value -> Value -> Value -> Value -> Value -> Value -> Value -> Value -> Value -> Value -> Value -> Value -> Bool -> H -> Prop) (fun x19 x20 x21 x22 _x23 _x24 _x25 _x26 _x27 _x28 _x29 _x30 _x31 _x32 _x33 _x34 _x35 _x36 _x37 _x38 _x39 x40 => brW x40 (K (.bool false))
 (R5 x19 x20 x21 (IntKind.i64.wrap (x22 + 1)))) (fun j18 => rdT (rdC b17 0) kS (fun (x41 : ByteArray) => callT Tryz.prog 212 [.string x41] kB (fun x42 => brW (!x42) (j18 x6 x7 x8 x9 (.tuple ⟨[]⟩) (.tuple ⟨[]⟩) (.tuple ⟨[]⟩) (.tuple ⟨[]⟩) (.tuple ⟨[]⟩) (.tuple ⟨[]⟩) (.tuple ⟨[]⟩) (.tuple ⟨[]⟩) (.tuple ⟨[]⟩) (.tuple ⟨[]⟩) (.tuple ⟨[]⟩) (.tuple ⟨[]⟩) (.tuple ⟨[]⟩) (.tuple ⟨[]⟩) (.tuple ⟨[]⟩) (.tuple ⟨[]⟩) (.tuple ⟨[]⟩) true)
 (rdT (rdA 5 b17 0) (.one (.agg [.str, (.int .i64), .bool, .str, .slc])) (fun (x43 : ByteArray) (x44 : Int) (x45 : Bool) (x46 : ByteArray) (x47 : Sl) => callT Tryz.prog 154 [.agg ⟨[.string x43, .int .i64 x44, .bool x45, .string x46, .slice x47.base x47.len x47.cap]⟩] kB (fun x48 => brW (!x48)
 (j18 x6 x7 x8 x9 (.agg ⟨[.string x43, .int .i64 x44, .bool x45, .string x46, .slice x47.base x47.len x47.cap]⟩) (.bool x48) (.bool (!x48)) (.tuple ⟨[]⟩) (.tuple ⟨[]⟩) (.tuple ⟨[]⟩) (.tuple ⟨[]⟩) (.tuple ⟨[]⟩) (.tuple ⟨[]⟩) (.tuple ⟨[]⟩) (.tuple ⟨[]⟩) (.tuple ⟨[]⟩) (.tuple ⟨[]⟩) (.tuple ⟨[]⟩) (.tuple ⟨[]⟩) (.tuple ⟨[]⟩) (.tuple ⟨[]⟩) true) (brW (decide ((x9 : Int) > 0)) (ptrW x6 (fun b49 o50 => rdT (rdC b49 (o50 + 4)) kL (fun x51 => ptrW x51.base (fun b52 o53 =>
 ifW (0 <= IntKind.i64.wrap (x9 - 1) /\ IntKind.i64.wrap (x9 - 1) < ((x51.len : Nat) : Int)) (rdT (rdC b52 (o53 + (IntKind.i64.wrap (x9 - 1) : Int).toNat * 5)) kS (fun (x54 : ByteArray) => rdT (rdC b17 0) kS (fun (x55 : ByteArray) =>
 j18 x6 x7 x8 x9 (.agg ⟨[.string x43, .int .i64 x44, .bool x45, .string x46, .slice x47.base x47.len x47.cap]⟩) (.bool x48) (.bool (!x48)) (.int .i64 x9) (.bool (decide ((x9 : Int) > 0))) (.bool true) (.pointer (some ⟨b49, o50 + 4, none⟩)) (.slice x51.base x51.len x51.cap) (.int .i64 x9) (.int .i64 (IntKind.i64.wrap (x9 - 1))) (.pointer (some ⟨b52, o53 + (IntKind.i64.wrap (x9 - 1) : Int).toNat * 5, none⟩)) (.pointer (some ⟨b52, o53 + (IntKind.i64.wrap (x9 - 1) : Int).toNat * 5, none⟩)) (.string x54) (.pointer (some ⟨b17, 0, none⟩)) (.string x55) (.bool (!strLt x54 x55)) (.bool (!strLt x54 x55)) (!strLt x54 x55))))))))
 (j18 x6 x7 x8 x9 (.agg ⟨[.string x43, .int .i64 x44, .bool x45, .string x46, .slice x47.base x47.len x47.cap]⟩) (.bool x48) (.bool (!x48)) (.int .i64 x9) (.bool (decide ((x9 : Int) > 0))) (.bool false) (.tuple ⟨[]⟩) (.tuple ⟨[]⟩) (.tuple ⟨[]⟩) (.tuple ⟨[]⟩) (.tuple ⟨[]⟩) (.tuple ⟨[]⟩) (.tuple ⟨[]⟩) (.tuple ⟨[]⟩) (.tuple ⟨[]⟩) (.tuple ⟨[]⟩) (.bool false) false)))))))))))))) (K (.bool true)))) (fun (R56 : Option Addr -> Sl -> Int -> Int -> H -> Prop) => R56 x1 x4 ((x4.len : Nat) : Int) 0)))
theorem e211 (x1 : Option Addr) (K : KH) : bodyF Tryz.prog tau Tryz.f211 an211 [.pointer x1] K = g211 x1 K := by kernel_rfl
theorem c211 (x1 : Option Addr) {K : KH} {σ : H} (h : g211 x1 K σ) : callW Tryz.prog 211 [.pointer x1] K σ := call_of_body mixed Tryz.func211 (by rw [e211]; exact h)


def an212 : Ann := (.q (.q .z))
def g212 (s_1 : ByteArray) (K : KH) : H -> Prop :=
 brW (decide ((((s_1.size : Nat) : Int) : Int) >= 1)) (brW (decide ((((s_1.size : Nat) : Int) : Int) <= 56)) (callT Tryz.prog 216 [.string s_1, .string (⟨⟨[47, 0]⟩⟩ : ByteArray)] kB (fun x2 => brW (!x2) (brW (!strEq s_1 (⟨⟨[46]⟩⟩ : ByteArray)) (K (.bool (!strEq s_1 (⟨⟨[46, 46]⟩⟩ : ByteArray)))) (K (.bool false))) (K (.bool false)))) (K (.bool false))) (K (.bool false))
theorem e212 (s_1 : ByteArray) (K : KH) : bodyF Tryz.prog tau Tryz.f212 an212 [.string s_1] K = g212 s_1 K := by kernel_rfl
theorem c212 (s_1 : ByteArray) {K : KH} {σ : H} (h : g212 s_1 K σ) : callW Tryz.prog 212 [.string s_1] K σ := call_of_body mixed Tryz.func212 (by rw [e212]; exact h)


def an214 : Ann := (.q (.q (.n (.q (.h)) (.q .z))))
def g214 (x1 : Option Addr) (x2 : Option Addr) (K : KH) : H -> Prop :=
 ptrW x1 (fun b3 o4 => rdT (rdC b3 o4) kP (fun x5 => ptrW x2 (fun b6 o7 => rdT (rdC b6 o7) kI (fun (x8 : Int) => callT Tryz.prog 138 [.pointer x5, .int .i64 x8] kP (fun x9 => brW x9.isNone (K (.int .i64 5)) (ptrW x9 (fun b10 o11 => rdT (rdC b10 o11) kI (fun (x12 : Int) => callT Tryz.prog 161 [.bool ((x12 : Int) == 2), .int .i64 8] kI (fun (x13 : Int) => K (.int .i64 x13))))))))))
theorem e214 (x1 : Option Addr) (x2 : Option Addr) (K : KH) : bodyF Tryz.prog tau Tryz.f214 an214 [.pointer x1, .pointer x2] K = g214 x1 x2 K := by kernel_rfl
theorem c214 (x1 : Option Addr) (x2 : Option Addr) {K : KH} {σ : H} (h : g214 x1 x2 K σ) : callW Tryz.prog 214 [.pointer x1, .pointer x2] K σ := call_of_body mixed Tryz.func214 (by rw [e214]; exact h)


def an215 : Ann := (.q (.n (.q (.h)) (.q .z)))
def g215 (x1 : Option Addr) (K : KH) : H -> Prop :=
 ptrW x1 (fun b2 o3 => rdT (rdC b2 o3) kS (fun (x4 : ByteArray) => brW (decide ((((x4.size : Nat) : Int) : Int) > 56)) (K (.int .i64 3)) (ptrW x1 (fun b5 o6 => rdT (rdC b5 o6) kS (fun (x7 : ByteArray) => brW (!strEq x7 (⟨⟨[]⟩⟩ : ByteArray)) (ptrW x1 (fun b8 o9 => rdT (rdC b8 o9) kS (fun (x10 : ByteArray) => brW (!strEq x10 (⟨⟨[46]⟩⟩ : ByteArray)) (ptrW x1 (fun b11 o12 => rdT (rdC b11 o12) kS (fun (x13 : ByteArray) => brW (!strEq x13 (⟨⟨[46, 46]⟩⟩ : ByteArray)) (ptrW x1 (fun b14 o15 =>
 rdT (rdC b14 o15) kS (fun (x16 : ByteArray) => callT Tryz.prog 216 [.string x16, .string (⟨⟨[47, 0]⟩⟩ : ByteArray)] kB (fun x17 => callT Tryz.prog 161 [.bool (!x17), .int .i64 2] kI (fun (x18 : Int) => K (.int .i64 x18)))))) (callT Tryz.prog 161 [.bool false, .int .i64 2] kI (fun (x19 : Int) => K (.int .i64 x19)))))) (callT Tryz.prog 161 [.bool false, .int .i64 2] kI (fun (x20 : Int) => K (.int .i64 x20)))))) (callT Tryz.prog 161 [.bool false, .int .i64 2] kI (fun (x21 : Int) =>
 K (.int .i64 x21))))))))
theorem e215 (x1 : Option Addr) (K : KH) : bodyF Tryz.prog tau Tryz.f215 an215 [.pointer x1] K = g215 x1 K := by kernel_rfl
theorem c215 (x1 : Option Addr) {K : KH} {σ : H} (h : g215 x1 K σ) : callW Tryz.prog 215 [.pointer x1] K σ := call_of_body mixed Tryz.func215 (by rw [e215]; exact h)


def an216 : Ann := (.q (.q .z))
def g216 (s_1 : ByteArray) (chars_2 : ByteArray) (K : KH) : H -> Prop :=
 callT Tryz.prog 247 [.string s_1, .string chars_2] kI (fun (x3 : Int) => K (.bool (decide ((x3 : Int) >= 0))))
theorem e216 (s_1 : ByteArray) (chars_2 : ByteArray) (K : KH) : bodyF Tryz.prog tau Tryz.f216 an216 [.string s_1, .string chars_2] K = g216 s_1 chars_2 K := by kernel_rfl
theorem c216 (s_1 : ByteArray) (chars_2 : ByteArray) {K : KH} {σ : H} (h : g216 s_1 chars_2 K σ) : callW Tryz.prog 216 [.string s_1, .string chars_2] K σ := call_of_body mixed Tryz.func216 (by rw [e216]; exact h)


def an217 : Ann := (.q (.q (.q .z)))
def g217 (x1 : Option Addr) (x2 : Option Addr) (x3 : Option Addr) (K : KH) : H -> Prop :=
 ptrW x1 (fun b4 o5 => rdT (rdC b4 o5) kP (fun x6 => ptrW x2 (fun b7 o8 => rdT (rdC b7 o8) kI (fun (x9 : Int) => ptrW x3 (fun b10 o11 => rdT (rdC b10 o11) kS (fun (x12 : ByteArray) => callT Tryz.prog 125 [.pointer x6, .int .i64 x9, .string x12] (.tup [.sc (.int .i64), .sc .bool]) (fun (_x13 : Int) (x14 : Bool) => callT Tryz.prog 161 [.bool (!x14), .int .i64 6] kI (fun (x15 : Int) => K (.int .i64 x15)))))))))
theorem e217 (x1 : Option Addr) (x2 : Option Addr) (x3 : Option Addr) (K : KH) : bodyF Tryz.prog tau Tryz.f217 an217 [.pointer x1, .pointer x2, .pointer x3] K = g217 x1 x2 x3 K := by kernel_rfl
theorem c217 (x1 : Option Addr) (x2 : Option Addr) (x3 : Option Addr) {K : KH} {σ : H} (h : g217 x1 x2 x3 K σ) : callW Tryz.prog 217 [.pointer x1, .pointer x2, .pointer x3] K σ := call_of_body mixed Tryz.func217 (by rw [e217]; exact h)


def an218 : Ann := (.q (.n (.reg (rn 30) [[],[0],[0,1],[0,1,2],(rn 4),[],(rn 6),[],[7],[7,8],[7,8,9],[7,8,9,10],(rn 12),(rn 13),(rn 14),(rn 15),(rn 16),(rn 17),(rn 18),(rn 14),(rn 20),(rn 14),[0,1,2,3,4,5,6,7,8,9,10,11,12,13,21],[0,1,2,3,4,5,6,7,8,9,10,11,12,13,21,22],[0,1,2,3,4,5,6,7,8,9,10,11,12,13,21,22,23],[0,1,2,3,4,5,6,7,8,9,10,11,12,13,21,22,23,24],(rn 26),(rn 27),(rn 28),(rn 29)]) .z))
def g218 (x1 : Option Addr) (x2 : Option Addr) (x3 : Option Addr) (K : KH) : H -> Prop :=
 ptrW x1 (fun b4 o5 => rdT (rdC b4 o5) kP (fun x6 => ptrW x6 (fun b7 o8 => rdT (rdC b7 (o8 + 2)) kI (fun (x9 : Int) => ptrW x2 (fun b10 o11 => rdT (rdC b10 o11) kI (fun (x12 : Int) => ptrW x1 (fun b13 o14 => rdT (rdC b13 o14) kP (fun x15 => ptrW x15 (fun b16 o17 => rdT (rdC b16 o17) kI (fun (x18 : Int) => brW (decide (((IntKind.i64.wrap (x9 + x12)) : Int) <= x18)) (ptrW x1 (fun b19 o20 => rdT (rdC b19 o20) kP (fun x21 => ptrW x21 (fun b22 o23 => rdT (rdC b22 (o23 + 3)) kI (fun (x24 : Int) =>
 ptrW x3 (fun b25 o26 => rdT (rdC b25 o26) kI (fun (x27 : Int) => ptrW x1 (fun b28 o29 => rdT (rdC b28 o29) kP (fun x30 => ptrW x30 (fun b31 o32 => rdT (rdC b31 (o32 + 1)) kI (fun (x33 : Int) => callT Tryz.prog 161 [.bool (decide (((IntKind.i64.wrap (x24 + x27)) : Int) <= x33)), .int .i64 10] kI (fun (x34 : Int) => K (.int .i64 x34))))))))))))) (callT Tryz.prog 161 [.bool false, .int .i64 10] kI (fun (x35 : Int) => K (.int .i64 x35)))))))))))))
theorem e218 (x1 : Option Addr) (x2 : Option Addr) (x3 : Option Addr) (K : KH) : bodyF Tryz.prog tau Tryz.f218 an218 [.pointer x1, .pointer x2, .pointer x3] K = g218 x1 x2 x3 K := by kernel_rfl
theorem c218 (x1 : Option Addr) (x2 : Option Addr) (x3 : Option Addr) {K : KH} {σ : H} (h : g218 x1 x2 x3 K σ) : callW Tryz.prog 218 [.pointer x1, .pointer x2, .pointer x3] K σ := call_of_body mixed Tryz.func218 (by rw [e218]; exact h)


def an220 : Ann := (.q (.n (.blk (.q (.cond (.q .z) (.q (.cond (.q .z) (.q (.h))))))) (.q .z)))
def g220 (path_1 : ByteArray) (K : KH) : H -> Prop :=
 brW (strEq path_1 (⟨⟨[]⟩⟩ : ByteArray)) (K (.int .i64 5)) (brW (decide ((((path_1.size : Nat) : Int) : Int) > 255)) (K (.int .i64 3)) (callT Tryz.prog 26 [.string path_1, .int .u8 0] kI (fun (x2 : Int) => brW (decide ((x2 : Int) >= 0)) (K (.int .i64 2)) (K (.int .i64 0)))))
theorem e220 (path_1 : ByteArray) (K : KH) : bodyF Tryz.prog tau Tryz.f220 an220 [.string path_1] K = g220 path_1 K := by kernel_rfl
theorem c220 (path_1 : ByteArray) {K : KH} {σ : H} (h : g220 path_1 K σ) : callW Tryz.prog 220 [.string path_1] K σ := call_of_body mixed Tryz.func220 (by rw [e220]; exact h)


def an221 : Ann := (.q (.q .z))
def g221 (path_1 : ByteArray) (K : KH) : H -> Prop :=
 alW (.cells ⟨[.string path_1]⟩ 9 (0, 0)) (fun b2 => K (.func (.func 248) ⟨[]⟩ ⟨[.pointer (some ⟨b2, 0, none⟩)]⟩))
theorem e221 (path_1 : ByteArray) (K : KH) : bodyF Tryz.prog tau Tryz.f221 an221 [.string path_1] K = g221 path_1 K := by kernel_rfl
theorem c221 (path_1 : ByteArray) {K : KH} {σ : H} (h : g221 path_1 K σ) : callW Tryz.prog 221 [.string path_1] K σ := call_of_body mixed Tryz.func221 (by rw [e221]; exact h)


def an222 : Ann := (.q (.q (.n (.blk (.q (.cond (.q .z) (.q (.h))))) (.q .z))))
def g222 (x1 : Option Addr) (x2 : Option Addr) (K : KH) : H -> Prop :=
 ptrW x1 (fun b3 o4 => rdT (rdC b3 o4) kP (fun x5 => ptrW x2 (fun b6 o7 => rdT (rdC b6 o7) kI (fun (x8 : Int) => callT Tryz.prog 138 [.pointer x5, .int .i64 x8] kP (fun x9 => brW x9.isNone (K (.int .i64 5)) (ptrW x9 (fun b10 o11 => rdT (rdC b10 o11) kI (fun (x12 : Int) => brW ((x12 : Int) == 2) (K (.int .i64 7)) (ptrW x9 (fun b13 o14 => rdT (rdC b13 o14) kI (fun (x15 : Int) => callT Tryz.prog 161 [.bool ((x15 : Int) == 1), .int .i64 2] kI (fun (x16 : Int) => K (.int .i64 x16)))))))))))))
theorem e222 (x1 : Option Addr) (x2 : Option Addr) (K : KH) : bodyF Tryz.prog tau Tryz.f222 an222 [.pointer x1, .pointer x2] K = g222 x1 x2 K := by kernel_rfl
theorem c222 (x1 : Option Addr) (x2 : Option Addr) {K : KH} {σ : H} (h : g222 x1 x2 K σ) : callW Tryz.prog 222 [.pointer x1, .pointer x2] K σ := call_of_body mixed Tryz.func222 (by rw [e222]; exact h)


def an223 : Ann := (.q (.q (.n (.seq (some [(1,.i),(2,.p),(5,.i),(14,.b)]) .r (.h)) (.n (.q (.blk (.loop [(1,.i),(5,.i),(17,.l),(18,.i),(19,.i)] (.q (.n (.cond .z .z) (.n (.blk (.q .r)) .r)))))) (.q .z)))))
def g223 (n_1 : ByteArray) (n_2 : Int) (n_3 : Bool) (n_4 : ByteArray) (n_5 : Sl) (most_6 : Int) (K : KH) : H -> Prop :=
 alW (.cells ⟨[.string n_1, .int .i64 n_2, .bool n_3, .string n_4, .slice n_5.base n_5.len n_5.cap]⟩ 73 (0, 0)) (fun b7 => letJ (T := Int -> Option Addr -> Int -> Bool -> H -> Prop) (fun most_9 n_10 d_11 x12 => brW x12 (K (.int .i64 d_11)) (ptrW n_10 (fun b13 o14 => rdT (rdC b13 (o14 + 4)) kL (fun x15 =>
 loopW [.sc (.int .i64), .sc (.int .i64), .sc .slc, .sc (.int .i64), .sc (.int .i64)] (fun (R16 : Int -> Int -> Sl -> Int -> Int -> H -> Prop) => (fun (most_17 : Int) (d_18 : Int) (x19 : Sl) (x20 : Int) (x21 : Int) => brW (decide ((x21 : Int) < x20)) (ptrW x19.base (fun b22 o23 => ifW (0 <= x21 /\ x21 < ((x19.len : Nat) : Int)) (rdT (rdA 5 b22 (o23 + x21.toNat * 5)) (.one (.agg [.str, (.int .i64), .bool, .str, .slc])) (fun (x24 : ByteArray) (x25 : Int) (x26 : Bool) (x27 : ByteArray) (x28 : Sl) =>
 alW (.cells ⟨[.string (⟨⟨[]⟩⟩ : ByteArray), .int .i64 0, .bool false, .string (⟨⟨[]⟩⟩ : ByteArray), .slice none 0 0]⟩ 73 (0, 0)) (fun b29 => stW Tryz.prog 73 (.pointer (some ⟨b29, 0, none⟩)) (.agg ⟨[.string x24, .int .i64 x25, .bool x26, .string x27, .slice x28.base x28.len x28.cap]⟩) (rdT (rdA 5 b29 0) (.one (.agg [.str, (.int .i64), .bool, .str, .slc])) (fun (x30 : ByteArray) (x31 : Int) (x32 : Bool) (x33 : ByteArray) (x34 : Sl) =>
 callT Tryz.prog 223 [.agg ⟨[.string x30, .int .i64 x31, .bool x32, .string x33, .slice x34.base x34.len x34.cap]⟩, .int .i64 (IntKind.i64.wrap (most_17 - 1))] kI (fun (x35 : Int) => R16 most_17 (if (IntKind.i64.wrap (1 + x35)) > d_18 then (IntKind.i64.wrap (1 + x35)) else d_18) x19 x20 (IntKind.i64.wrap (x21 + 1)))))))))) (K (.int .i64 d_18)))) (fun (R36 : Int -> Int -> Sl -> Int -> Int -> H -> Prop) => R36 most_9 d_11 x15 ((x15.len : Nat) : Int) 0))))) (fun j8 =>
 rdT (rdC b7 1) kI (fun (x37 : Int) => brW ((x37 : Int) != 2) (j8 most_6 (some ⟨b7, 0, none⟩) 1 true) (j8 most_6 (some ⟨b7, 0, none⟩) 1 ((most_6 : Int) == 1)))))
theorem e223 (n_1 : ByteArray) (n_2 : Int) (n_3 : Bool) (n_4 : ByteArray) (n_5 : Sl) (most_6 : Int) (K : KH) : bodyF Tryz.prog tau Tryz.f223 an223 [.agg ⟨[.string n_1, .int .i64 n_2, .bool n_3, .string n_4, .slice n_5.base n_5.len n_5.cap]⟩, .int .i64 most_6] K = g223 n_1 n_2 n_3 n_4 n_5 most_6 K := by kernel_rfl
theorem c223 (n_1 : ByteArray) (n_2 : Int) (n_3 : Bool) (n_4 : ByteArray) (n_5 : Sl) (most_6 : Int) {K : KH} {σ : H} (h : g223 n_1 n_2 n_3 n_4 n_5 most_6 K σ) : callW Tryz.prog 223 [.agg ⟨[.string n_1, .int .i64 n_2, .bool n_3, .string n_4, .slice n_5.base n_5.len n_5.cap]⟩, .int .i64 most_6] K σ := call_of_body mixed Tryz.func223 (by rw [e223]; exact h)


def an224 : Ann := (.q (.q (.q .z)))
def g224 (x1 : Option Addr) (x2 : Option Addr) (x3 : Option Addr) (K : KH) : H -> Prop :=
 ptrW x1 (fun b4 o5 => rdT (rdC b4 o5) kP (fun x6 => ptrW x2 (fun b7 o8 => rdT (rdC b7 o8) kI (fun (x9 : Int) => ptrW x3 (fun b10 o11 => rdT (rdC b10 o11) kS (fun (x12 : ByteArray) => callT Tryz.prog 125 [.pointer x6, .int .i64 x9, .string x12] (.tup [.sc (.int .i64), .sc .bool]) (fun (_x13 : Int) (x14 : Bool) => callT Tryz.prog 161 [.bool x14, .int .i64 5] kI (fun (x15 : Int) => K (.int .i64 x15)))))))))
theorem e224 (x1 : Option Addr) (x2 : Option Addr) (x3 : Option Addr) (K : KH) : bodyF Tryz.prog tau Tryz.f224 an224 [.pointer x1, .pointer x2, .pointer x3] K = g224 x1 x2 x3 K := by kernel_rfl
theorem c224 (x1 : Option Addr) (x2 : Option Addr) (x3 : Option Addr) {K : KH} {σ : H} (h : g224 x1 x2 x3 K σ) : callW Tryz.prog 224 [.pointer x1, .pointer x2, .pointer x3] K σ := call_of_body mixed Tryz.func224 (by rw [e224]; exact h)


def an245 : Ann := (.q (.q .z))
def g245 (s_1 : Sl) (f_2 : Value) (K : KH) : H -> Prop :=
 callT Tryz.prog 258 [.slice s_1.base s_1.len s_1.cap, f_2] kI (fun (x3 : Int) => K (.bool (decide ((x3 : Int) >= 0))))
theorem e245 (s_1 : Sl) (f_2 : Value) (K : KH) : bodyF Tryz.prog tau Tryz.f245 an245 [.slice s_1.base s_1.len s_1.cap, f_2] K = g245 s_1 f_2 K := by kernel_rfl
theorem c245 (s_1 : Sl) (f_2 : Value) {K : KH} {σ : H} (h : g245 s_1 f_2 K σ) : callW Tryz.prog 245 [.slice s_1.base s_1.len s_1.cap, f_2] K σ := call_of_body mixed Tryz.func245 (by rw [e245]; exact h)


def an246 : Ann := (.q (.q .z))
def g246 (is_1 : Value) (K : KH) : H -> Prop :=
 cvalT Tryz.prog is_1 [] kB (fun x2 => K (.bool (!x2)))
theorem e246 (is_1 : Value) (K : KH) : bodyF Tryz.prog tau Tryz.f246 an246 [is_1] K = g246 is_1 K := by kernel_rfl
theorem c246 (is_1 : Value) {K : KH} {σ : H} (h : g246 is_1 K σ) : callW Tryz.prog 246 [is_1] K σ := call_of_body mixed Tryz.func246 (by rw [e246]; exact h)


def an247 : Ann := (.q (.n (.q (.h)) (.n (.q (.cond (.q (.seq (some [(0,.s),(5,.sc (.int .i32))]) (.q (.cond .r .z)) (.q .z))) .z)) (.seq (some [(0,.s),(1,.s)]) (.q (.cond (.q (.q (.cond (.n (.q (.blk (.loop [(0,.s),(6,.p),(8,.i)] (.n (.q (.cond .z .z)) (.n (.blk (.q (.h))) .r))))) (.q .z)) .z))) .z)) (.n (.q (.blk (.loop [(1,.s),(45,.p)] (.q (.n (.cond .z .z) (.blk (.q (.q (.h))))))))) (.q .z))))))
def g247 (s_1 : ByteArray) (chars_2 : ByteArray) (K : KH) : H -> Prop :=
 brW (strEq chars_2 (⟨⟨[]⟩⟩ : ByteArray)) (K (.int .i64 (-1))) (brW ((((chars_2.size : Nat) : Int) : Int) == 1) (idxW chars_2 0 (fun c3 => letJ (T := ByteArray -> Int -> H -> Prop) (fun s_5 r_6 => callT Tryz.prog 259 [.string s_5, .int .i32 r_6] kI (fun (x7 : Int) => K (.int .i64 x7))) (fun j4 => brW (decide (((IntKind.i32.wrap (c3.toNat : Int)) : Int) >= 128)) (j4 s_1 65533) (j4 s_1 (IntKind.i32.wrap (c3.toNat : Int)))))) (letJ (T := ByteArray -> ByteArray -> H -> Prop) (fun s_9 chars_10 =>
 vaW Tryz.prog (Instr.range 9 (.string s_9)) kP (fun x11 => loopW [.sc .str, .sc .ptr] (fun (R12 : ByteArray -> Option Addr -> H -> Prop) => (fun (chars_13 : ByteArray) (x14 : Option Addr) => vaW Tryz.prog (Instr.next (.pointer x14) true 0) (.opt [.sc (.int .i64), .sc (.int .i32)]) (K (.int .i64 (-1)), (fun (x15 : Int) (x16 : Int) => callT Tryz.prog 259 [.string chars_13, .int .i32 x16] kI (fun (x17 : Int) => brW (decide ((x17 : Int) >= 0)) (K (.int .i64 x15))
 (R12 chars_13 x14)))))) (fun (R18 : ByteArray -> Option Addr -> H -> Prop) => R18 chars_10 x11))) (fun j8 => callT Tryz.prog 260 [.int .i64 ((s_1.size : Nat) : Int)] kB (fun x19 => brW x19 (callT Tryz.prog 261 [.string chars_2] (.tup [.sc .raw, .sc .bool]) (fun x20 x21 =>
 alW (.cells ⟨[.bool false, .bool false, .bool false, .bool false, .bool false, .bool false, .bool false, .bool false, .bool false, .bool false, .bool false, .bool false, .bool false, .bool false, .bool false, .bool false, .bool false, .bool false, .bool false, .bool false, .bool false, .bool false, .bool false, .bool false, .bool false, .bool false, .bool false, .bool false, .bool false, .bool false, .bool false, .bool false, .bool false, .bool false, .bool false, .bool false, .bool false, .bool false, .bool false, .bool false, .bool false, .bool false, .bool false, .bool false, .bool false, .bool false, .bool false, .bool false, .bool false, .bool false, .bool false, .bool false, .bool false, .bool false, .bool false, .bool false, .bool false, .bool false, .bool false, .bool false, .bool false, .bool false, .bool false, .bool false, .bool false, .bool false, .bool false, .bool false, .bool false, .bool false, .bool false, .bool false, .bool false, .bool false, .bool false, .bool false, .bool false, .bool false, .bool false, .bool false, .bool false, .bool false, .bool false, .bool false, .bool false, .bool false, .bool false, .bool false, .bool false, .bool false, .bool false, .bool false, .bool false, .bool false, .bool false, .bool false, .bool false, .bool false, .bool false, .bool false, .bool false, .bool false, .bool false, .bool false, .bool false, .bool false, .bool false, .bool false, .bool false, .bool false, .bool false, .bool false, .bool false, .bool false, .bool false, .bool false, .bool false, .bool false, .bool false, .bool false, .bool false, .bool false, .bool false, .bool false, .bool false, .bool false, .bool false, .bool false, .bool false, .bool false, .bool false, .bool false, .bool false, .bool false, .bool false, .bool false, .bool false, .bool false, .bool false, .bool false, .bool false, .bool false, .bool false, .bool false, .bool false, .bool false, .bool false, .bool false, .bool false, .bool false, .bool false, .bool false, .bool false, .bool false, .bool false, .bool false, .bool false, .bool false, .bool false, .bool false, .bool false, .bool false, .bool false, .bool false, .bool false, .bool false, .bool false, .bool false, .bool false, .bool false, .bool false, .bool false, .bool false, .bool false, .bool false, .bool false, .bool false, .bool false, .bool false, .bool false, .bool false, .bool false, .bool false, .bool false, .bool false, .bool false, .bool false, .bool false, .bool false, .bool false, .bool false, .bool false, .bool false, .bool false, .bool false, .bool false, .bool false, .bool false, .bool false, .bool false, .bool false, .bool false, .bool false, .bool false, .bool false, .bool false, .bool false, .bool false, .bool false, .bool false, .bool false, .bool false, .bool false, .bool false, .bool false, .bool false, .bool false, .bool false, .bool false, .bool false, .bool false, .bool false, .bool false, .bool false, .bool false, .bool false, .bool false, .bool false, .bool false, .bool false, .bool false, .bool false, .bool false, .bool false, .bool false, .bool false, .bool false, .bool false, .bool false, .bool false, .bool false, .bool false, .bool false, .bool false, .bool false, .bool false, .bool false, .bool false, .bool false, .bool false, .bool false, .bool false, .bool false, .bool false, .bool false, .bool false]⟩ 285 (0, 0)) (fun b22 =>
 stW Tryz.prog 285 (.pointer (some ⟨b22, 0, none⟩)) (x20) (brW x21 (loopW [.sc .str, .sc .ptr, .sc (.int .i64)] (fun (R23 : ByteArray -> Option Addr -> Int -> H -> Prop) => (fun (s_24 : ByteArray) (as_25 : Option Addr) (i_26 : Int) => brW (decide ((i_26 : Int) < ((s_24.size : Nat) : Int))) (idxW s_24 i_26 (fun c27 => callT Tryz.prog 262 [.pointer as_25, .int .u8 (c27.toNat : Int)] kB (fun x28 => brW x28 (K (.int .i64 i_26)) (R23 s_24 as_25 (IntKind.i64.wrap (i_26 + 1))))))
 (K (.int .i64 (-1))))) (fun (R29 : ByteArray -> Option Addr -> Int -> H -> Prop) => R29 s_1 (some ⟨b22, 0, none⟩) 0)) (j8 s_1 chars_2))))) (j8 s_1 chars_2)))))
theorem e247 (s_1 : ByteArray) (chars_2 : ByteArray) (K : KH) : bodyF Tryz.prog tau Tryz.f247 an247 [.string s_1, .string chars_2] K = g247 s_1 chars_2 K := by kernel_rfl
theorem c247 (s_1 : ByteArray) (chars_2 : ByteArray) {K : KH} {σ : H} (h : g247 s_1 chars_2 K σ) : callW Tryz.prog 247 [.string s_1, .string chars_2] K σ := call_of_body mixed Tryz.func247 (by rw [e247]; exact h)


def an248 : Ann := (.q (.q (.seq (some [(2,.p),(3,.p),(4,.p)]) (.q (.blk (.rf [.s] .r (.blk (.n (.seq (some [(2,.p),(3,.p),(4,.p),(5,.s),(14,.b)]) .r (.cond .z .z)) (.n (.seq (some [(3,.p),(4,.p),(5,.s),(21,.b)]) .r (.cond .z .z)) .r)))))) (.q (.cond .r .z)))))
def g248 (yield_1 : Value) (x2 : Option Addr) (K : KH) : H -> Prop :=
 oneK yield_1 (alW (.cells ⟨[yield_1]⟩ 273 (0, 0)) (fun b3 => alW (.cells ⟨[.string (⟨⟨[]⟩⟩ : ByteArray)]⟩ 9 (0, 0)) (fun b4 => alW (.cells ⟨[.bool false]⟩ 4 (0, 0)) (fun b5 => stW Tryz.prog 9 (.pointer (some ⟨b4, 0, none⟩)) (.string (⟨⟨[]⟩⟩ : ByteArray)) (stW Tryz.prog 4 (.pointer (some ⟨b5, 0, none⟩)) (.bool false) (letJ (T := Option Addr -> Option Addr -> Option Addr -> H -> Prop) (fun yield_7 ahead_8 some_9 => ptrW some_9 (fun b10 o11 => rdT (rdC b10 o11) kB (fun x12 => brW x12
 (ptrW yield_7 (fun b13 o14 => rdT (rdC b13 o14) kR (fun x15 => ptrW ahead_8 (fun b16 o17 => rdT (rdC b16 o17) kS (fun (x18 : ByteArray) => cvalT Tryz.prog x15 [.string x18, .bool true] kB (fun _x19 => K (.tuple ⟨[]⟩))))))) (K (.tuple ⟨[]⟩))))) (fun j6 => ptrW x2 (fun b20 o21 => rdT (rdC b20 o21) kS (fun (x22 : ByteArray) => callT Tryz.prog 249 [.string x22, .string (⟨⟨[47]⟩⟩ : ByteArray)] kR (fun x23 => funW x23 (fun (g50 : FuncId) (as51 cs52 : List Value) =>
 rfW Tryz.prog none g50 as51 cs52 [.sc .str] (fun (l24 : Nat) (obj25 : LoopState -> Option Code -> Obj) (K26 : Value -> H -> Prop) => (fun (x27 : ByteArray) => begW l24 obj25 (letJ (T := Option Addr -> Option Addr -> Option Addr -> ByteArray -> Bool -> H -> Prop) (fun yield_29 ahead_30 some_31 s_32 x33 => brW x33 (roundK l24 obj25 K26 none true .ready) (letJ (T := Option Addr -> Option Addr -> ByteArray -> Bool -> H -> Prop) (fun ahead_35 some_36 s_37 x38 => brW x38
 (roundK l24 obj25 K26 (some .ret) false .done) (stW Tryz.prog 9 (.pointer ahead_35) (.string s_37) (stW Tryz.prog 4 (.pointer some_36) (.bool true) (roundK l24 obj25 K26 none true .ready)))) (fun j34 => ptrW some_31 (fun b39 o40 => rdT (rdC b39 o40) kB (fun x41 => brW x41 (ptrW yield_29 (fun b42 o43 => rdT (rdC b42 o43) kR (fun x44 => ptrW ahead_30 (fun b45 o46 => rdT (rdC b45 o46) kS (fun (x47 : ByteArray) => cvalT Tryz.prog x44 [.string x47, .bool false] kB (fun x48 =>
 j34 ahead_30 some_31 s_32 (!x48))))))) (j34 ahead_30 some_31 s_32 false)))))) (fun j28 => brW (strEq x27 (⟨⟨[]⟩⟩ : ByteArray)) (j28 (some ⟨b3, 0, none⟩) (some ⟨b4, 0, none⟩) (some ⟨b5, 0, none⟩) x27 true) (j28 (some ⟨b3, 0, none⟩) (some ⟨b4, 0, none⟩) (some ⟨b5, 0, none⟩) x27 (strEq x27 (⟨⟨[46]⟩⟩ : ByteArray))))))) (j6 (some ⟨b3, 0, none⟩) (some ⟨b4, 0, none⟩) (some ⟨b5, 0, none⟩)) (fun i49 => exW i49 0 (j6 (some ⟨b3, 0, none⟩) (some ⟨b4, 0, none⟩) (some ⟨b5, 0, none⟩)) (nW))
 (K (.tuple ⟨[]⟩)))))))))))))
theorem e248 (yield_1 : Value) (x2 : Option Addr) (K : KH) : bodyF Tryz.prog tau Tryz.f248 an248 [yield_1, .pointer x2] K = g248 yield_1 x2 K := by kernel_rfl
theorem c248 (yield_1 : Value) (x2 : Option Addr) {K : KH} {σ : H} (h : g248 yield_1 x2 K σ) : callW Tryz.prog 248 [yield_1, .pointer x2] K σ := call_of_body mixed Tryz.func248 (by rw [e248]; exact h)


def an249 : Ann := (.q (.q .z))
def g249 (s_1 : ByteArray) (sep_2 : ByteArray) (K : KH) : H -> Prop :=
 callT Tryz.prog 263 [.string s_1, .string sep_2, .int .i64 0] kR (fun x3 => K (x3))
theorem e249 (s_1 : ByteArray) (sep_2 : ByteArray) (K : KH) : bodyF Tryz.prog tau Tryz.f249 an249 [.string s_1, .string sep_2] K = g249 s_1 sep_2 K := by kernel_rfl
theorem c249 (s_1 : ByteArray) (sep_2 : ByteArray) {K : KH} {σ : H} (h : g249 s_1 sep_2 K σ) : callW Tryz.prog 249 [.string s_1, .string sep_2] K σ := call_of_body mixed Tryz.func249 (by rw [e249]; exact h)


def an258 : Ann := (.q (.n (.q (.blk (.loop [(0,.l),(1,.w),(7,.i),(8,.i)] (.q (.n (.cond .z .z) (.n (.blk (.q (.q (.h)))) .r)))))) (.q .z)))
def g258 (s_1 : Sl) (f_2 : Value) (K : KH) : H -> Prop :=
 loopW [.sc .slc, .sc .raw, .sc (.int .i64), .sc (.int .i64)] (fun (R3 : Sl -> Value -> Int -> Int -> H -> Prop) => (fun (s_4 : Sl) (f_5 : Value) (x6 : Int) (x7 : Int) => brW (decide ((x7 : Int) < x6)) (ptrW s_4.base (fun b8 o9 => ifW (0 <= x7 /\ x7 < ((s_4.len : Nat) : Int)) (rdT (rdC b8 (o9 + x7.toNat * 1)) kR (fun x10 => cvalT Tryz.prog f_5 [x10] kB (fun x11 => brW x11 (K (.int .i64 x7)) (R3 s_4 f_5 x6 (IntKind.i64.wrap (x7 + 1))))))))
 (K (.int .i64 (-1))))) (fun (R12 : Sl -> Value -> Int -> Int -> H -> Prop) => R12 s_1 f_2 ((s_1.len : Nat) : Int) 0)
theorem e258 (s_1 : Sl) (f_2 : Value) (K : KH) : bodyF Tryz.prog tau Tryz.f258 an258 [.slice s_1.base s_1.len s_1.cap, f_2] K = g258 s_1 f_2 K := by kernel_rfl
theorem c258 (s_1 : Sl) (f_2 : Value) {K : KH} {σ : H} (h : g258 s_1 f_2 K σ) : callW Tryz.prog 258 [.slice s_1.base s_1.len s_1.cap, f_2] K σ := call_of_body mixed Tryz.func258 (by rw [e258]; exact h)


def an259 : Ann := (.q (.blk (.seq (some [(0,.s),(1,.sc (.int .i32)),(160,.b)]) .r (.cond (.q .z) (.q (.cond (.n (.q (.blk (.loop [(175,.p)] (.q (.n (.cond .z .z) (.blk (.q (.q (.h))))))))) (.q .z)) (.q (.cond (.q .z) (.blk (.q (.q (.q (.q (.n (.blk (.loop [(0,.s),(7,.s),(8,.i),(9,.i)] (.n (.q (.cond .z .z)) (.blk (.blk (.seq (some [(0,.s),(7,.s),(8,.i),(9,.i)]) (.n (.reg (rn 7) [[],[],[0,1],[],[],[3,4],(rn 6)]) (.cond (.n (.reg (rn 9) [[],[],[1],[0,1,2],[],[],[4,5],(rn 7),(rn 8)]) (.n (.q (.h)) .r)) .z)) (.n (.q (.blk (.loop [(0,.s),(7,.s),(8,.i),(9,.i),(12,.i)] (.n (.q (.cond .z .z)) (.n (.blk (.n (.reg (rn 11) [[],[],[],[1,2],(rn 4),[],[],[],[6,7],[5,6,7,8],(rn 10)]) (.cond .z .z))) .r))))) (.n (.q .z) (.n .z (.q (.q (.q (.cond .z .z))))))))))))) (.n (.q .z) (.n .z (.n (.cond (.q (.q (.h))) (.blk (.q (.q (.n .z (.blk (.loop [] (.n (.q (.cond .z .z)) (.n (.blk (.q (.cond (.n (.q (.blk (.loop [] (.n (.q (.cond .z .z)) (.n (.blk (.q (.cond .z .z))) .r))))) (.q .z)) .z))) .r))))))))) (.q .z))))))))))))))))))
def g259 (s_1 : ByteArray) (r_2 : Int) (K : KH) : H -> Prop :=
 letJ (T := ByteArray -> Int -> Bool -> H -> Prop) (fun s_4 r_5 x6 => brW x6 (callT Tryz.prog 26 [.string s_4, .int .u8 (IntKind.u8.wrap r_5)] kI (fun (x7 : Int) => K (.int .i64 x7))) (brW ((r_5 : Int) == 65533) (vaW Tryz.prog (Instr.range 9 (.string s_4)) kP (fun x8 => loopW [.sc .ptr] (fun (R9 : Option Addr -> H -> Prop) => (fun x10 => vaW Tryz.prog (Instr.next (.pointer x10) true 0) (.opt [.sc (.int .i64), .sc (.int .i32)]) (K (.int .i64 (-1)), (fun (x11 : Int) (x12 : Int) =>
 brW ((x12 : Int) == 65533) (K (.int .i64 x11)) (R9 x10))))) (fun (R13 : Option Addr -> H -> Prop) => R13 x8))) (callT Tryz.prog 265 [.int .i32 r_5] kB (fun x14 => brW (!x14) (K (.int .i64 (-1))) (vaW Tryz.prog (convert 21 9 (.int .i32 r_5)) kS (fun (x15 : ByteArray) => loopW [.sc .str, .sc .str, .sc (.int .i64), .sc (.int .i64)] (fun (R16 : ByteArray -> ByteArray -> Int -> Int -> H -> Prop) => (fun (s_17 : ByteArray) (rs_18 : ByteArray) (last_19 : Int) (i_20 : Int) =>
 brW (decide ((i_20 : Int) < ((s_17.size : Nat) : Int))) (letJ (T := ByteArray -> ByteArray -> Int -> Int -> H -> Prop) (fun s_22 rs_23 last_24 i_25 => loopW [.sc .str, .sc .str, .sc (.int .i64), .sc (.int .i64), .sc (.int .i64)] (fun (R26 : ByteArray -> ByteArray -> Int -> Int -> Int -> H -> Prop) => (fun (s_27 : ByteArray) (rs_28 : ByteArray) (last_29 : Int) (i_30 : Int) (j_31 : Int) => brW (decide ((j_31 : Int) < ((rs_28.size : Nat) : Int))) (idxW s_27 (IntKind.i64.wrap (i_30 - j_31)) (fun c32 =>
 idxW rs_28 (IntKind.i64.wrap (last_29 - j_31)) (fun c33 => brW (((c32.toNat : Int) : Int) != (c33.toNat : Int)) (nW) (R26 s_27 rs_28 last_29 i_30 (IntKind.i64.wrap (j_31 + 1)))))) (K (.int .i64 (IntKind.i64.wrap (i_30 - last_29)))))) (fun (R34 : ByteArray -> ByteArray -> Int -> Int -> Int -> H -> Prop) => R34 s_22 rs_23 last_24 i_25 1)) (fun j21 => idxW s_17 i_20 (fun c35 => idxW rs_18 last_19 (fun c36 => brW (((c35.toNat : Int) : Int) != (c36.toNat : Int))
 (ifW (bndOk none s_17.size /\ bndOk (some (IntKind.i64.wrap (i_20 + 1))) (s_17.size)) (idxW rs_18 last_19 (fun c37 => callT Tryz.prog 26 [.string (s_17.extract ((IntKind.i64.wrap (i_20 + 1)).toNat) s_17.size), .int .u8 (c37.toNat : Int)] kI (fun (x38 : Int) => brW (decide ((x38 : Int) < 0)) (K (.int .i64 (-1))) (j21 s_17 rs_18 last_19 (IntKind.i64.wrap (i_20 + (IntKind.i64.wrap (x38 + 1))))))))) (j21 s_17 rs_18 last_19 i_20)))))
 (K (.int .i64 (-1))))) (fun (R39 : ByteArray -> ByteArray -> Int -> Int -> H -> Prop) => R39 s_4 x15 (IntKind.i64.wrap (((x15.size : Nat) : Int) - 1)) (IntKind.i64.wrap (((x15.size : Nat) : Int) - 1))))))))) (fun j3 => brW (decide ((0 : Int) <= r_2)) (j3 s_1 r_2 (decide ((r_2 : Int) < 128))) (j3 s_1 r_2 false))
theorem e259 (s_1 : ByteArray) (r_2 : Int) (K : KH) : bodyF Tryz.prog tau Tryz.f259 an259 [.string s_1, .int .i32 r_2] K = g259 s_1 r_2 K := by kernel_rfl
theorem c259 (s_1 : ByteArray) (r_2 : Int) {K : KH} {σ : H} (h : g259 s_1 r_2 K σ) : callW Tryz.prog 259 [.string s_1, .int .i32 r_2] K σ := call_of_body mixed Tryz.func259 (by rw [e259]; exact h)


def an260 : Ann := (.q (.q .z))
def g260 (bufLen_1 : Int) (K : KH) : H -> Prop :=
 K (.bool (decide ((bufLen_1 : Int) > 8)))
theorem e260 (bufLen_1 : Int) (K : KH) : bodyF Tryz.prog tau Tryz.f260 an260 [.int .i64 bufLen_1] K = g260 bufLen_1 K := by kernel_rfl
theorem c260 (bufLen_1 : Int) {K : KH} {σ : H} (h : g260 bufLen_1 K σ) : callW Tryz.prog 260 [.int .i64 bufLen_1] K σ := call_of_body mixed Tryz.func260 (by rw [e260]; exact h)


def an261 : Ann := (.q (.n (.q (.blk (.loop [(0,.s),(2,.p),(4,.i)] (.n (.q (.cond .z .z)) (.n (.blk (.q (.n (.q (.h)) .r))) .r))))) (.q .z)))
def g261 (chars_1 : ByteArray) (K : KH) : H -> Prop :=
 alW (.cells ⟨[.bool false, .bool false, .bool false, .bool false, .bool false, .bool false, .bool false, .bool false, .bool false, .bool false, .bool false, .bool false, .bool false, .bool false, .bool false, .bool false, .bool false, .bool false, .bool false, .bool false, .bool false, .bool false, .bool false, .bool false, .bool false, .bool false, .bool false, .bool false, .bool false, .bool false, .bool false, .bool false, .bool false, .bool false, .bool false, .bool false, .bool false, .bool false, .bool false, .bool false, .bool false, .bool false, .bool false, .bool false, .bool false, .bool false, .bool false, .bool false, .bool false, .bool false, .bool false, .bool false, .bool false, .bool false, .bool false, .bool false, .bool false, .bool false, .bool false, .bool false, .bool false, .bool false, .bool false, .bool false, .bool false, .bool false, .bool false, .bool false, .bool false, .bool false, .bool false, .bool false, .bool false, .bool false, .bool false, .bool false, .bool false, .bool false, .bool false, .bool false, .bool false, .bool false, .bool false, .bool false, .bool false, .bool false, .bool false, .bool false, .bool false, .bool false, .bool false, .bool false, .bool false, .bool false, .bool false, .bool false, .bool false, .bool false, .bool false, .bool false, .bool false, .bool false, .bool false, .bool false, .bool false, .bool false, .bool false, .bool false, .bool false, .bool false, .bool false, .bool false, .bool false, .bool false, .bool false, .bool false, .bool false, .bool false, .bool false, .bool false, .bool false, .bool false, .bool false, .bool false, .bool false, .bool false, .bool false, .bool false, .bool false, .bool false, .bool false, .bool false, .bool false, .bool false, .bool false, .bool false, .bool false, .bool false, .bool false, .bool false, .bool false, .bool false, .bool false, .bool false, .bool false, .bool false, .bool false, .bool false, .bool false, .bool false, .bool false, .bool false, .bool false, .bool false, .bool false, .bool false, .bool false, .bool false, .bool false, .bool false, .bool false, .bool false, .bool false, .bool false, .bool false, .bool false, .bool false, .bool false, .bool false, .bool false, .bool false, .bool false, .bool false, .bool false, .bool false, .bool false, .bool false, .bool false, .bool false, .bool false, .bool false, .bool false, .bool false, .bool false, .bool false, .bool false, .bool false, .bool false, .bool false, .bool false, .bool false, .bool false, .bool false, .bool false, .bool false, .bool false, .bool false, .bool false, .bool false, .bool false, .bool false, .bool false, .bool false, .bool false, .bool false, .bool false, .bool false, .bool false, .bool false, .bool false, .bool false, .bool false, .bool false, .bool false, .bool false, .bool false, .bool false, .bool false, .bool false, .bool false, .bool false, .bool false, .bool false, .bool false, .bool false, .bool false, .bool false, .bool false, .bool false, .bool false, .bool false, .bool false, .bool false, .bool false, .bool false, .bool false, .bool false, .bool false, .bool false, .bool false, .bool false, .bool false, .bool false, .bool false, .bool false, .bool false, .bool false, .bool false, .bool false, .bool false, .bool false, .bool false, .bool false, .bool false, .bool false, .bool false]⟩ 285 (0, 0)) (fun b2 =>
 loopW [.sc .str, .sc .ptr, .sc (.int .i64)] (fun (R3 : ByteArray -> Option Addr -> Int -> H -> Prop) => (fun (chars_4 : ByteArray) (as_5 : Option Addr) (i_6 : Int) => brW (decide ((i_6 : Int) < ((chars_4.size : Nat) : Int))) (idxW chars_4 i_6 (fun c7 => brW (decide (((c7.toNat : Int) : Int) >= 128)) (ptrW as_5 (fun b8 o9 => rdT (rdA 256 b8 o9) kR (fun x10 => stW Tryz.prog 285 (.pointer as_5) (x10) (ptrW as_5 (fun b11 o12 => rdT (rdA 256 b11 o12) kR (fun r13 => K (.tuple ⟨[r13, .bool false]⟩)))))))
 (ptrW as_5 (fun b14 o15 => ifW (0 <= (c7.toNat : Int) /\ (c7.toNat : Int) < ((256 : Nat) : Int)) (stW Tryz.prog 4 (.pointer (some ⟨b14, o15 + ((c7.toNat : Int) : Int).toNat * 1, none⟩)) (.bool true) (R3 chars_4 as_5 (IntKind.i64.wrap (i_6 + 1)))))))) (ptrW as_5 (fun b16 o17 => rdT (rdA 256 b16 o17) kR (fun x18 => stW Tryz.prog 285 (.pointer as_5) (x18) (ptrW as_5 (fun b19 o20 => rdT (rdA 256 b19 o20) kR (fun r21 =>
 K (.tuple ⟨[r21, .bool true]⟩))))))))) (fun (R22 : ByteArray -> Option Addr -> Int -> H -> Prop) => R22 chars_1 (some ⟨b2, 0, none⟩) 0))
theorem e261 (chars_1 : ByteArray) (K : KH) : bodyF Tryz.prog tau Tryz.f261 an261 [.string chars_1] K = g261 chars_1 K := by kernel_rfl
theorem c261 (chars_1 : ByteArray) {K : KH} {σ : H} (h : g261 chars_1 K σ) : callW Tryz.prog 261 [.string chars_1] K σ := call_of_body mixed Tryz.func261 (by rw [e261]; exact h)


def an262 : Ann := (.q (.q .z))
def g262 (as_1 : Option Addr) (c_2 : Int) (K : KH) : H -> Prop :=
 ptrW as_1 (fun b3 o4 => ifW (0 <= c_2 /\ c_2 < ((256 : Nat) : Int)) (rdT (rdC b3 (o4 + c_2.toNat * 1)) kB (fun x5 => K (.bool x5))))
theorem e262 (as_1 : Option Addr) (c_2 : Int) (K : KH) : bodyF Tryz.prog tau Tryz.f262 an262 [.pointer as_1, .int .u8 c_2] K = g262 as_1 c_2 K := by kernel_rfl
theorem c262 (as_1 : Option Addr) (c_2 : Int) {K : KH} {σ : H} (h : g262 as_1 c_2 K σ) : callW Tryz.prog 262 [.pointer as_1, .int .u8 c_2] K σ := call_of_body mixed Tryz.func262 (by rw [e262]; exact h)


def an263 : Ann := (.q (.q .z))
def g263 (s_1 : ByteArray) (sep_2 : ByteArray) (sepSave_3 : Int) (K : KH) : H -> Prop :=
 alW (.cells ⟨[.string s_1]⟩ 9 (0, 0)) (fun b4 => alW (.cells ⟨[.string sep_2]⟩ 9 (0, 0)) (fun b5 => alW (.cells ⟨[.int .i64 sepSave_3]⟩ 3 (0, 0)) (fun b6 => K (.func (.func 266) ⟨[]⟩ ⟨[.pointer (some ⟨b5, 0, none⟩), .pointer (some ⟨b4, 0, none⟩), .pointer (some ⟨b6, 0, none⟩)]⟩))))
theorem e263 (s_1 : ByteArray) (sep_2 : ByteArray) (sepSave_3 : Int) (K : KH) : bodyF Tryz.prog tau Tryz.f263 an263 [.string s_1, .string sep_2, .int .i64 sepSave_3] K = g263 s_1 sep_2 sepSave_3 K := by kernel_rfl
theorem c263 (s_1 : ByteArray) (sep_2 : ByteArray) (sepSave_3 : Int) {K : KH} {σ : H} (h : g263 s_1 sep_2 sepSave_3 K σ) : callW Tryz.prog 263 [.string s_1, .string sep_2, .int .i64 sepSave_3] K σ := call_of_body mixed Tryz.func263 (by rw [e263]; exact h)


def an265 : Ann := (.q (.n (.blk (.seq (some [(0,.sc (.int .i32)),(3,.b)]) .r (.cond (.q .z) (.seq (some [(10,.b)]) .r (.h))))) (.q .z)))
def g265 (r_1 : Int) (K : KH) : H -> Prop :=
 letJ (T := Int -> Bool -> H -> Prop) (fun r_3 x4 => brW x4 (K (.bool true)) (letJ (T := Bool -> H -> Prop) (fun x6 => brW x6 (K (.bool true)) (K (.bool false))) (fun j5 => brW (decide ((57343 : Int) < r_3)) (j5 (decide ((r_3 : Int) <= 1114111))) (j5 false)))) (fun j2 => brW (decide ((0 : Int) <= r_1)) (j2 r_1 (decide ((r_1 : Int) < 55296))) (j2 r_1 false))
theorem e265 (r_1 : Int) (K : KH) : bodyF Tryz.prog tau Tryz.f265 an265 [.int .i32 r_1] K = g265 r_1 K := by kernel_rfl
theorem c265 (r_1 : Int) {K : KH} {σ : H} (h : g265 r_1 K σ) : callW Tryz.prog 265 [.int .i32 r_1] K σ := call_of_body mixed Tryz.func265 (by rw [e265]; exact h)


def an266 : Ann := (.n (.q (.cond (.n (.blk (.loop [(0,.w),(2,.p)] (.n (.q (.cond .z .z)) (.blk (.q (.n (.q (.cond .z .z)) .r)))))) .z) .z)) (.n (.blk (.loop [(0,.w),(1,.p),(2,.p),(3,.p)] (.blk (.q (.n (.q (.cond .z .z)) (.q (.n (.q (.cond .z .z)) .r))))))) .r))
def g266 (yield_1 : Value) (x2 : Option Addr) (x3 : Option Addr) (x4 : Option Addr) (K : KH) : H -> Prop :=
 ptrW x2 (fun b5 o6 => rdT (rdC b5 o6) kS (fun (x7 : ByteArray) => brW ((((x7.size : Nat) : Int) : Int) == 0) (loopW [.sc .raw, .sc .ptr] (fun (R8 : Value -> Option Addr -> H -> Prop) => (fun yield_9 x10 => ptrW x10 (fun b11 o12 => rdT (rdC b11 o12) kS (fun (x13 : ByteArray) => brW (decide ((((x13.size : Nat) : Int) : Int) > 0)) (ptrW x10 (fun b14 o15 => rdT (rdC b14 o15) kS (fun (x16 : ByteArray) =>
 callT Tryz.prog 267 [.string x16] (.tup [.sc (.int .i32), .sc (.int .i64)]) (fun (_x17 : Int) (x18 : Int) => ptrW x10 (fun b19 o20 => rdT (rdC b19 o20) kS (fun (x21 : ByteArray) => ifW (bndOk (some x18) x21.size /\ bndOk none (x18.toNat)) (cvalT Tryz.prog yield_9 [.string (x21.extract 0 x18.toNat)] kB (fun x22 => brW (!x22) (K (.tuple ⟨[]⟩)) (ptrW x10 (fun b23 o24 => rdT (rdC b23 o24) kS (fun (x25 : ByteArray) => ifW (bndOk none x25.size /\ bndOk (some x18) (x25.size))
 (stW Tryz.prog 9 (.pointer x10) (.string (x25.extract x18.toNat x25.size)) (R8 yield_9 x10))))))))))))) (K (.tuple ⟨[]⟩)))))) (fun (R26 : Value -> Option Addr -> H -> Prop) => R26 yield_1 x3)) (loopW [.sc .raw, .sc .ptr, .sc .ptr, .sc .ptr] (fun (R27 : Value -> Option Addr -> Option Addr -> Option Addr -> H -> Prop) => (fun yield_28 x29 x30 x31 => ptrW x30 (fun b32 o33 => rdT (rdC b32 o33) kS (fun (x34 : ByteArray) => ptrW x29 (fun b35 o36 => rdT (rdC b35 o36) kS (fun (x37 : ByteArray) =>
 callT Tryz.prog 71 [.string x34, .string x37] kI (fun (x38 : Int) => brW (decide ((x38 : Int) < 0)) (ptrW x30 (fun b39 o40 => rdT (rdC b39 o40) kS (fun (x41 : ByteArray) => cvalT Tryz.prog yield_28 [.string x41] kB (fun _x42 => K (.tuple ⟨[]⟩))))) (ptrW x30 (fun b43 o44 => rdT (rdC b43 o44) kS (fun (x45 : ByteArray) => ptrW x31 (fun b46 o47 => rdT (rdC b46 o47) kI (fun (x48 : Int) => ifW (bndOk (some (IntKind.i64.wrap (x38 + x48))) x45.size /\ bndOk none ((IntKind.i64.wrap (x38 + x48)).toNat))
 (cvalT Tryz.prog yield_28 [.string (x45.extract 0 ((IntKind.i64.wrap (x38 + x48)).toNat))] kB (fun x49 => brW (!x49) (K (.tuple ⟨[]⟩)) (ptrW x30 (fun b50 o51 => rdT (rdC b50 o51) kS (fun (x52 : ByteArray) => ptrW x29 (fun b53 o54 => rdT (rdC b53 o54) kS (fun (x55 : ByteArray) => ifW (bndOk none x52.size /\ bndOk (some (IntKind.i64.wrap (x38 + ((x55.size : Nat) : Int)))) (x52.size))
 (stW Tryz.prog 9 (.pointer x30) (.string (x52.extract ((IntKind.i64.wrap (x38 + ((x55.size : Nat) : Int))).toNat) x52.size)) (R27 yield_28 x29 x30 x31))))))))))))))))))))) (fun (R56 : Value -> Option Addr -> Option Addr -> Option Addr -> H -> Prop) => R56 yield_1 x2 x3 x4))))
theorem e266 (yield_1 : Value) (x2 : Option Addr) (x3 : Option Addr) (x4 : Option Addr) (K : KH) : bodyF Tryz.prog tau Tryz.f266 an266 [yield_1, .pointer x2, .pointer x3, .pointer x4] K = g266 yield_1 x2 x3 x4 K := by kernel_rfl
theorem c266 (yield_1 : Value) (x2 : Option Addr) (x3 : Option Addr) (x4 : Option Addr) {K : KH} {σ : H} (h : g266 yield_1 x2 x3 x4 K σ) : callW Tryz.prog 266 [yield_1, .pointer x2, .pointer x3, .pointer x4] K σ := call_of_body mixed Tryz.func266 (by rw [e266]; exact h)

end Go.Proofs.YtbjbeajbckcecaaGreatDoor

namespace Go.Proofs.YtbjbeajbckcecaaGreatDoor
open Go Go.HL
end Go.Proofs.YtbjbeajbckcecaaGreatDoor

set_option maxRecDepth 100000
namespace Go.Proofs.YtbjbeajbckcecaaGreatDoor
open Go Go.HL Go.Wk
attribute [local irreducible] ptrW ifW brW andW rdT alW letJ stW muW biW vaW imW callT cvalT app callW invW callVW sizeT oW nilF oneK loopW rfW funW begW roundK exW idxW Gr Put
structure Nd where
 blk : Nat
 kind : Int
 mode : Int
 data : ByteArray
 links : Int
 up : Int
 eb : Option Nat
 ents : List (ByteArray × Int)
structure Tb where
 qi : Int
 qb : Int
 ui : Int
 ub : Int
 last : Int
 mb : Nat
 nodes : List (Int × Nd)
def Nd.cells (n : Nd) : Obj := .cells ⟨[.int .i64 n.kind, .int .i64 n.mode, .string n.data, .int .i64 n.links, .int .i64 n.up, .map n.eb]⟩ 194 (0, 0)
def Nd.ptr (n : Nd) : Value := .pointer (some ⟨n.blk, 0, none⟩)
def Tb.cells (T : Tb) : Obj := .cells ⟨[.int .i64 T.qi, .int .i64 T.qb, .int .i64 T.ui, .int .i64 T.ub, .map (some T.mb), .int .i64 T.last]⟩ 200 (0, 0)
def valI (n : Int) : Value := .int .i64 n
structure NdAt (σ : H) (n : Nd) : Prop where
 cells : σ n.blk = some n.cells
 ents : ∀ e, n.eb = some e -> MapAt σ e (encL kkS valI n.ents)
 none : n.eb = none -> n.ents = []
 dir : n.kind = 2 -> n.eb ≠ Option.none
def Tb.get (T : Tb) (ino : Int) : Option Nd := lk ino T.nodes
structure TAt (σ : H) (bt : Nat) (T : Tb) : Prop where
 cells : σ bt = some T.cells
 nodes : MapAt σ T.mb (encL kkI Nd.ptr T.nodes)
 each : ∀ i n, T.get i = some n -> NdAt σ n
theorem NdAt.gr {σ σ' : H} {n : Nd} (h : NdAt σ n) (hg : Gr σ σ') : NdAt σ' n := ⟨hg.get h.cells, fun e he => (h.ents e he).gr hg, h.none, h.dir⟩
theorem TAt.gr {σ σ' : H} {bt : Nat} {T : Tb} (h : TAt σ bt T) (hg : Gr σ σ') : TAt σ' bt T := ⟨hg.get h.cells, h.nodes.gr hg, fun i n hn => (h.each i n hn).gr hg⟩
theorem TAt.get {σ : H} {bt : Nat} {T : Tb} (h : TAt σ bt T) {ino : Int} {n : Nd} (hn : T.get ino = some n) : NdAt σ n := h.each ino n hn
theorem get_ptr (o : Option Nd) : (o.map Nd.ptr).getD (.pointer none) = .pointer (o.map fun n => ⟨n.blk, 0, none⟩) := by cases o <;> rfl

theorem s_get {σ : H} {bt : Nat} {T : Tb} (hT : TAt σ bt T) (ino : Int) {K : KH} (hK : K (.pointer ((T.get ino).map fun n => ⟨n.blk, 0, none⟩)) σ) : callW Tryz.prog 138 [.pointer (some ⟨bt, 0, none⟩), .int .i64 ino] K σ := by
 refine c138 _ _ ?_
 unfold g138
 refine br_f rfl ?_
 refine ptr_i ?_
 refine rd_M (rdC_of hT.cells (by rfl)) ?_
 refine rd_P (x := (T.get ino).map fun n => ⟨n.blk, 0, none⟩) ?_ hK
 rw [<- get_ptr]
 exact rdM_at (kk := kkI) hT.nodes _ false ino
def Tb.find (T : Tb) (dir : Int) (name : ByteArray) : Option Int := (T.get dir).bind fun n => lk name n.ents
theorem s_Find {σ : H} {bt : Nat} {T : Tb} (hT : TAt σ bt T) (dir : Int) (name : ByteArray) {K : KH} (hK : K (.tuple ⟨[.int .i64 ((T.find dir name).getD 0), .bool (T.find dir name).isSome]⟩) σ) :
 callW Tryz.prog 125 [.pointer (some ⟨bt, 0, none⟩), .int .i64 dir, .string name] K σ := by
 refine c125 _ _ _ ?_
 unfold g125
 refine call_i (s_get hT dir ?_)
 refine app_P ?_
 unfold Tb.find at hK
 cases hn : T.get dir with
 | none => rw [hn] at hK; exact br_t rfl hK
 | some n =>
  rw [hn] at hK
  have hN := hT.get hn
  refine br_f rfl (ptr_i ?_)
  refine rd_M (rdC_of hN.cells (by rfl)) ?_
  cases he : n.eb with
  | none =>
   have := hN.none he
   simp only [Option.bind_some, this] at hK
   exact rd_G rfl (app_IB hK)
  | some e =>
   refine rd_G (rdM_at (kk := kkS) (hN.ents e he) _ true name) ?_
   have hv : ((lk name n.ents).map valI).getD (.int .i64 0) = .int .i64 ((lk name n.ents).getD 0) := by cases lk name n.ents <;> rfl
   rw [hv]
   exact app_IB hK
theorem s_must (is : Bool) (e : Int) {σ : H} {K : KH} (hK : K (.int .i64 (if is then 0 else e)) σ) : callW Tryz.prog 161 [.bool is, .int .i64 e] K σ := by
 refine c161 _ _ ?_
 unfold g161
 cases is
 ·exact br_t rfl hK
 ·exact br_f rfl hK
theorem s_there (t : Option Addr) {σ : H} {K : KH} (hK : K (.int .i64 (if t.isSome then 0 else 1)) σ) : callW Tryz.prog 163 [.pointer t] K σ := by
 refine c163 _ ?_
 unfold g163
 refine call_i (s_must _ _ ?_)
 refine app_I ?_
 cases t <;> exact hK
def Tb.up (T : Tb) (dir : Int) : Int := ((T.get dir).map (·.up)).getD 0
theorem s_Up {σ : H} {bt : Nat} {T : Tb} (hT : TAt σ bt T) (dir : Int) {K : KH} (hK : K (.int .i64 (T.up dir)) σ) : callW Tryz.prog 124 [.pointer (some ⟨bt, 0, none⟩), .int .i64 dir] K σ := by
 refine c124 _ _ ?_
 unfold g124
 refine call_i (s_get hT dir (app_P ?_))
 unfold Tb.up at hK
 cases hn : T.get dir with
 | none => rw [hn] at hK; exact br_t rfl hK
 | some n =>
  rw [hn] at hK
  have hN := hT.get hn
  refine br_f rfl (ptr_i ?_)
  exact rd_I (rdC_of hN.cells (by rfl)) hK
theorem s_Root (bt : Addr) {σ : H} {K : KH} (hK : K (.int .i64 1) σ) : callW Tryz.prog 123 [.pointer (some bt)] K σ := by
 refine c123 _ ?_
 unfold g123
 exact br_f rfl hK

def Tb.dirE (T : Tb) (ino : Int) : Int := match T.get ino with
 | none => 5
 | some n => if n.kind == 2 then 0 else 8
theorem s_dir1 {σ : H} {bt : Nat} {T : Tb} (hT : TAt σ bt T) {b1 b2 : Nat} {ino : Int} {t1 t2 : TypeId} (h1 : σ b1 = some (.cells ⟨[.pointer (some ⟨bt, 0, none⟩)]⟩ t1 (0, 0))) (h2 : σ b2 = some (.cells ⟨[.int .i64 ino]⟩ t2 (0, 0))) {K : KH}
 (hK : K (.int .i64 (T.dirE ino)) σ) : callW Tryz.prog 214 [.pointer (some ⟨b1, 0, none⟩), .pointer (some ⟨b2, 0, none⟩)] K σ := by
 refine c214 _ _ ?_
 unfold g214
 (repeat (first|refine ptr_i ?_|refine z2 ?_|(refine al_i ?_;intro _ _ _ _ _)|refine z4 ?_|refine z5 ?_|(refine z6 ?_;intro _ _)|refine app_P ?_|refine app_I ?_|refine app_S ?_|refine app_B ?_|refine app_M ?_|refine app_L ?_|refine app_U ?_|refine app_R ?_|(refine app_of rfl ?_;try dsimp only)))
 refine call_i (s_get hT ino (app_P ?_))
 unfold Tb.dirE at hK
 cases hn : T.get ino with
 | none => rw [hn] at hK; exact br_t rfl hK
 | some n =>
  rw [hn] at hK
  have hN := hT.get hn
  refine br_f rfl (ptr_i ?_)
  refine rd_I (rdC_of hN.cells (by rfl)) ?_
  exact call_i (s_must _ _ (app_I hK))
theorem s_free1 {σ : H} {bt : Nat} {T : Tb} (hT : TAt σ bt T) {b1 b2 b3 : Nat} {dir : Int} {name : ByteArray} {t1 t2 t3 : TypeId} (h1 : σ b1 = some (.cells ⟨[.pointer (some ⟨bt, 0, none⟩)]⟩ t1 (0, 0))) (h2 : σ b2 = some (.cells ⟨[.int .i64 dir]⟩ t2 (0, 0))) (h3 : σ b3 = some (.cells ⟨[.string name]⟩ t3 (0, 0))) {K : KH}
 (hK : K (.int .i64 (if (T.find dir name).isSome then 6 else 0)) σ) : callW Tryz.prog 217 [.pointer (some ⟨b1, 0, none⟩), .pointer (some ⟨b2, 0, none⟩), .pointer (some ⟨b3, 0, none⟩)] K σ := by
 refine c217 _ _ _ ?_
 unfold g217
 (repeat (first|refine ptr_i ?_|refine z2 ?_|(refine al_i ?_;intro _ _ _ _ _)|refine z4 ?_|refine z5 ?_|(refine z6 ?_;intro _ _)|refine app_P ?_|refine app_I ?_|refine app_S ?_|refine app_B ?_|refine app_M ?_|refine app_L ?_|refine app_U ?_|refine app_R ?_|(refine app_of rfl ?_;try dsimp only)))
 refine call_i (s_Find hT dir name (app_IB ?_))
 refine call_i (s_must _ _ (app_I ?_))
 cases h : (T.find dir name).isSome <;> simpa [h] using hK
theorem s_entry1 {σ : H} {bt : Nat} {T : Tb} (hT : TAt σ bt T) {b1 b2 b3 : Nat} {dir : Int} {name : ByteArray} {t1 t2 t3 : TypeId} (h1 : σ b1 = some (.cells ⟨[.pointer (some ⟨bt, 0, none⟩)]⟩ t1 (0, 0))) (h2 : σ b2 = some (.cells ⟨[.int .i64 dir]⟩ t2 (0, 0))) (h3 : σ b3 = some (.cells ⟨[.string name]⟩ t3 (0, 0))) {K : KH}
 (hK : K (.int .i64 (if (T.find dir name).isSome then 0 else 5)) σ) : callW Tryz.prog 224 [.pointer (some ⟨b1, 0, none⟩), .pointer (some ⟨b2, 0, none⟩), .pointer (some ⟨b3, 0, none⟩)] K σ := by
 refine c224 _ _ _ ?_
 unfold g224
 (repeat (first|refine ptr_i ?_|refine z2 ?_|(refine al_i ?_;intro _ _ _ _ _)|refine z4 ?_|refine z5 ?_|(refine z6 ?_;intro _ _)|refine app_P ?_|refine app_I ?_|refine app_S ?_|refine app_B ?_|refine app_M ?_|refine app_L ?_|refine app_U ?_|refine app_R ?_|(refine app_of rfl ?_;try dsimp only)))
 refine call_i (s_Find hT dir name (app_IB ?_))
 exact call_i (s_must _ _ (app_I hK))
def Tb.fileE (T : Tb) (ino : Int) : Int := match T.get ino with
 | none => 5
 | some n => if n.kind == 2 then 7 else if n.kind == 1 then 0 else 2
theorem s_file1 {σ : H} {bt : Nat} {T : Tb} (hT : TAt σ bt T) {b1 b2 : Nat} {ino : Int} {t1 t2 : TypeId} (h1 : σ b1 = some (.cells ⟨[.pointer (some ⟨bt, 0, none⟩)]⟩ t1 (0, 0))) (h2 : σ b2 = some (.cells ⟨[.int .i64 ino]⟩ t2 (0, 0))) {K : KH}
 (hK : K (.int .i64 (T.fileE ino)) σ) : callW Tryz.prog 222 [.pointer (some ⟨b1, 0, none⟩), .pointer (some ⟨b2, 0, none⟩)] K σ := by
 refine c222 _ _ ?_
 unfold g222
 (repeat (first|refine ptr_i ?_|refine z2 ?_|(refine al_i ?_;intro _ _ _ _ _)|refine z4 ?_|refine z5 ?_|(refine z6 ?_;intro _ _)|refine app_P ?_|refine app_I ?_|refine app_S ?_|refine app_B ?_|refine app_M ?_|refine app_L ?_|refine app_U ?_|refine app_R ?_|(refine app_of rfl ?_;try dsimp only)))
 refine call_i (s_get hT ino (app_P ?_))
 unfold Tb.fileE at hK
 cases hn : T.get ino with
 | none => rw [hn] at hK; exact br_t rfl hK
 | some n =>
  rw [hn] at hK
  have hN := hT.get hn
  refine br_f rfl (ptr_i ?_)
  refine rd_I (rdC_of hN.cells (by rfl)) ?_
  cases hk : (n.kind == 2) with
  | true => simp only [hk] at hK; exact br_t rfl hK
  | false =>
   simp only [hk] at hK
   refine br_f rfl (ptr_i ?_)
   refine rd_I (rdC_of hN.cells (by rfl)) ?_
   exact call_i (s_must _ _ (app_I hK))
theorem sz_int : sizeT Tryz.prog 3 = some 1 := by kernel_rfl
theorem sz_string : sizeT Tryz.prog 9 = some 1 := by kernel_rfl
theorem sz_bool : sizeT Tryz.prog 4 = some 1 := by kernel_rfl
theorem sz_Inode : sizeT Tryz.prog 35 = some 4 := by kernel_rfl
theorem sz_Quota : sizeT Tryz.prog 64 = some 2 := by kernel_rfl
theorem sz_MSI : sizeT Tryz.prog 192 = some 1 := by kernel_rfl
def Tb.node (T : Tb) (ino : Int) : List Value := match T.get ino with
 | none => [.int .i64 0, .int .i64 0, .string ⟨⟨[]⟩⟩, .int .i64 0]
 | some n => [.int .i64 n.kind, .int .i64 n.mode, .string n.data, .int .i64 n.links]
theorem s_Node {σ : H} {bt : Nat} {T : Tb} (hT : TAt σ bt T) (ino : Int) {K : KH} (hK : K (.tuple ⟨[.agg ⟨T.node ino⟩, .bool (T.get ino).isSome]⟩) σ) : callW Tryz.prog 99 [.pointer (some ⟨bt, 0, none⟩), .int .i64 ino] K σ := by
 refine pure_i _ hK (c99 _ _ ?_)
 unfold g99
 refine al_i ?_
 intro b σ1 hg hb hn
 refine call_i (s_get (hT.gr hg) ino (app_P ?_))
 unfold Tb.node
 cases hnn : T.get ino with
 | none =>
  refine br_t rfl ?_
  (repeat (first|refine ptr_i ?_|refine z2 ?_|(refine al_i ?_;intro _ _ _ _ _)|refine z4 ?_|refine z5 ?_|(refine z6 ?_;intro _ _)|refine app_P ?_|refine app_I ?_|refine app_S ?_|refine app_B ?_|refine app_M ?_|refine app_L ?_|refine app_U ?_|refine app_R ?_|(refine app_of rfl ?_;try dsimp only)))
  exact ⟨rfl, by repeat (first | exact Gr.refl _ | assumption | refine Gr.trans ?_ ‹_› | refine Gr.putF ?_ ‹_› (none_of ?_ ‹_›))⟩
 | some n =>
  have hN := ((hT.gr hg).get hnn).cells
  unfold Nd.cells at hN
  refine br_f rfl (ptr_i ?_)
  (repeat (first|refine ptr_i ?_|refine z2 ?_|(refine al_i ?_;intro _ _ _ _ _)|refine z4 ?_|refine z5 ?_|(refine z6 ?_;intro _ _)|refine app_P ?_|refine app_I ?_|refine app_S ?_|refine app_B ?_|refine app_M ?_|refine app_L ?_|refine app_U ?_|refine app_R ?_|(refine app_of rfl ?_;try dsimp only)))
  exact ⟨rfl, by repeat (first | exact Gr.refl _ | assumption | refine Gr.trans ?_ ‹_› | refine Gr.putF ?_ ‹_› (none_of ?_ ‹_›))⟩
theorem s_UsedT {σ : H} {bt : Nat} {T : Tb} (hT : TAt σ bt T) {K : KH} (hK : K (.agg ⟨[.int .i64 T.ui, .int .i64 T.ub]⟩) σ) : callW Tryz.prog 93 [.pointer (some ⟨bt, 0, none⟩)] K σ := by
 refine pure_i _ hK (c93 _ ?_)
 unfold g93
 have hc := hT.cells
 unfold Tb.cells at hc
 refine al_i ?_
 intro b σ1 hg hb hn
 refine br_f rfl (ptr_i ?_)
 (repeat (first|refine ptr_i ?_|refine z2 ?_|(refine al_i ?_;intro _ _ _ _ _)|refine z4 ?_|refine z5 ?_|(refine z6 ?_;intro _ _)|refine app_P ?_|refine app_I ?_|refine app_S ?_|refine app_B ?_|refine app_M ?_|refine app_L ?_|refine app_U ?_|refine app_R ?_|(refine app_of rfl ?_;try dsimp only)))
 exact ⟨rfl, by repeat (first | exact Gr.refl _ | assumption | refine Gr.trans ?_ ‹_› | refine Gr.putF ?_ ‹_› (none_of ?_ ‹_›))⟩
theorem s_QuotaT {σ : H} {bt : Nat} {T : Tb} (hT : TAt σ bt T) {K : KH} (hK : K (.agg ⟨[.int .i64 T.qi, .int .i64 T.qb]⟩) σ) : callW Tryz.prog 119 [.pointer (some ⟨bt, 0, none⟩)] K σ := by
 refine pure_i _ hK (c119 _ ?_)
 unfold g119
 have hc := hT.cells
 unfold Tb.cells at hc
 refine al_i ?_
 intro b σ1 hg hb hn
 refine br_f rfl (ptr_i ?_)
 (repeat (first|refine ptr_i ?_|refine z2 ?_|(refine al_i ?_;intro _ _ _ _ _)|refine z4 ?_|refine z5 ?_|(refine z6 ?_;intro _ _)|refine app_P ?_|refine app_I ?_|refine app_S ?_|refine app_B ?_|refine app_M ?_|refine app_L ?_|refine app_U ?_|refine app_R ?_|(refine app_of rfl ?_;try dsimp only)))
 exact ⟨rfl, by repeat (first | exact Gr.refl _ | assumption | refine Gr.trans ?_ ‹_› | refine Gr.putF ?_ ‹_› (none_of ?_ ‹_›))⟩
theorem wrap_id {x : Int} (h1 : -9223372036854775808 <= x) (h2 : x <= 9223372036854775807) : IntKind.i64.wrap x = x := by
 rw [IntKind.wrap_i64]; omega
def Pu (σ : H) (f : Value) (e : Int) : Prop := ∀ K : Value -> H -> Prop, K (.int .i64 e) σ -> callVW Tryz.prog f [] K σ
def FirstOk (σ : H) : List Value -> List Int -> Prop
 | [], [] => True
 | f :: fs, e :: es => Pu σ f e /\ (e = 0 -> FirstOk σ fs es)
 | _, _ => False
theorem wrapS {i : Nat} (h : i < 9000000000000000000) : IntKind.i64.wrap ((i : Int) + 1) = ((i + 1 : Nat) : Int) := by rw [wrap_id (by omega) (by omega)]; omega
theorem s_first {σ : H} {b : Nat} {fs : List Value} {es : List Int} {t : TypeId} (hb : σ b = some (.cells ⟨fs⟩ t (0, 0))) (h : FirstOk σ fs es) (hn : fs.length <= 1000) {K : KH} (hK : K (.int .i64 (firstE es)) σ) :
 callW Tryz.prog 162 [.slice (some ⟨b, 0, none⟩) fs.length fs.length] K σ := by
 refine c162 ⟨some ⟨b, 0, none⟩, _, _⟩ ?_
 unfold g162
 refine loop_i ?_
 intro R hR
 have key : ∀ (gs : List Value) (ds : List Int) (i : Nat), fs.drop i = gs -> FirstOk σ gs ds -> K (.int .i64 (firstE ds)) σ -> R ⟨some ⟨b, 0, none⟩, fs.length, fs.length⟩ ((fs.length : Nat) : Int) (i : Int) σ := by
  intro gs
  induction gs with
  | nil =>
   intro ds i hd hok hk
   have hge : fs.length <= i := by simpa using hd
   refine hR _ _ _ _ ?_
   cases ds with
   | cons d ds => exact hok.elim
   | nil => exact br_f (by simp; omega) hk
  | cons f gs ih =>
   intro ds i hd hok hk
   cases ds with
   | nil => exact hok.elim
   | cons d ds =>
    obtain ⟨hp, hok⟩ := hok
    have hlt : i < fs.length := by
     rcases Nat.lt_or_ge i fs.length with h | h
     ·exact h
     ·rw [List.drop_eq_nil_of_le h] at hd; cases hd
    have hf : fs[i]? = some f := by
     have : (fs.drop i)[0]? = some f := by rw [hd]; rfl
     simpa using this
    refine hR _ _ _ _ ?_
    refine br_t (by simpa using hlt) ?_
    refine ptr_i (if_i ⟨by omega, by show (i : Int) < (fs.length : Int); omega⟩ ?_)
    refine rd_R (rdC_of (v := f) hb (by simpa using hf)) ?_
    refine cvalv_i (hp _ (app_I ?_))
    by_cases he : d = 0
    ·subst he
     refine br_f rfl ?_
     rw [wrap_id (by omega) (by omega)]
     have h2 : fs.drop (i + 1) = gs := by rw [<- List.drop_drop, hd]; rfl
     exact ih ds (i + 1) h2 (hok rfl) (by simpa [firstE] using hk)
    ·refine br_t (by simpa using he) ?_
     simpa [firstE, he] using hk
 exact key fs es 0 rfl h hK
theorem pu_of {σ : H} {g : FuncId} {as_ cs : List Value} {e : Int} (hg : isGo Tryz.prog g = true) (h : ∀ K : Value -> H -> Prop, K (.int .i64 e) σ -> callW Tryz.prog g (as_ ++ cs) K σ) : Pu σ (.func (.func g) ⟨as_⟩ ⟨cs⟩) e := by
 intro K hk
 unfold callVW
 simp only [hg]
 simpa using h K hk
theorem go_there : isGo Tryz.prog 163 = true := by kernel_rfl
theorem go_dir1 : isGo Tryz.prog 214 = true := by kernel_rfl
theorem go_named1 : isGo Tryz.prog 215 = true := by kernel_rfl
theorem go_free1 : isGo Tryz.prog 217 = true := by kernel_rfl
theorem go_room1 : isGo Tryz.prog 218 = true := by kernel_rfl
theorem go_Make1 : isGo Tryz.prog 160 = true := by kernel_rfl
theorem go_Make2 : isGo Tryz.prog 167 = true := by kernel_rfl
theorem go_file1 : isGo Tryz.prog 222 = true := by kernel_rfl
theorem go_entry1 : isGo Tryz.prog 224 = true := by kernel_rfl
theorem go_Unlink1 : isGo Tryz.prog 177 = true := by kernel_rfl
theorem go_Move1 : isGo Tryz.prog 181 = true := by kernel_rfl
theorem go_WriteT1 : isGo Tryz.prog 171 = true := by kernel_rfl
theorem go_ChmodT1 : isGo Tryz.prog 182 = true := by kernel_rfl
theorem go_ChmodT2 : isGo Tryz.prog 183 = true := by kernel_rfl

theorem s_dir {σ : H} (t : Option Addr) (ino : Int) {K : KH} (hK : ∀ b1 b2 σ', Gr σ σ' -> σ' b1 = some (.cells ⟨[.pointer t]⟩ 108 (0, 0)) -> σ' b2 = some (.cells ⟨[.int .i64 ino]⟩ 3 (0, 0)) -> K (.func (.func 214) ⟨[]⟩ ⟨[.pointer (some ⟨b1, 0, none⟩), .pointer (some ⟨b2, 0, none⟩)]⟩) σ') :
 callW Tryz.prog 164 [.pointer t, .int .i64 ino] K σ := by
 refine c164 _ _ ?_
 unfold g164
 (repeat (first|refine ptr_i ?_|refine z2 ?_|(refine al_i ?_;intro _ _ _ _ _)|refine z4 ?_|refine z5 ?_|(refine z6 ?_;intro _ _)|refine app_P ?_|refine app_I ?_|refine app_S ?_|refine app_B ?_|refine app_M ?_|refine app_L ?_|refine app_U ?_|refine app_R ?_|(refine app_of rfl ?_;try dsimp only)))
 exact hK _ _ _ (by repeat (first | exact Gr.refl _ | assumption | refine Gr.trans ?_ ‹_› | refine Gr.putF ?_ ‹_› (none_of ?_ ‹_›))) (by exact gA) (by exact gA)
theorem s_file {σ : H} (t : Option Addr) (ino : Int) {K : KH} (hK : ∀ b1 b2 σ', Gr σ σ' -> σ' b1 = some (.cells ⟨[.pointer t]⟩ 108 (0, 0)) -> σ' b2 = some (.cells ⟨[.int .i64 ino]⟩ 3 (0, 0)) -> K (.func (.func 222) ⟨[]⟩ ⟨[.pointer (some ⟨b1, 0, none⟩), .pointer (some ⟨b2, 0, none⟩)]⟩) σ') :
 callW Tryz.prog 172 [.pointer t, .int .i64 ino] K σ := by
 refine c172 _ _ ?_
 unfold g172
 (repeat (first|refine ptr_i ?_|refine z2 ?_|(refine al_i ?_;intro _ _ _ _ _)|refine z4 ?_|refine z5 ?_|(refine z6 ?_;intro _ _)|refine app_P ?_|refine app_I ?_|refine app_S ?_|refine app_B ?_|refine app_M ?_|refine app_L ?_|refine app_U ?_|refine app_R ?_|(refine app_of rfl ?_;try dsimp only)))
 exact hK _ _ _ (by repeat (first | exact Gr.refl _ | assumption | refine Gr.trans ?_ ‹_› | refine Gr.putF ?_ ‹_› (none_of ?_ ‹_›))) (by exact gA) (by exact gA)
theorem s_named {σ : H} (name : ByteArray) {K : KH} (hK : ∀ b1 σ', Gr σ σ' -> σ' b1 = some (.cells ⟨[.string name]⟩ 9 (0, 0)) -> K (.func (.func 215) ⟨[]⟩ ⟨[.pointer (some ⟨b1, 0, none⟩)]⟩) σ') :
 callW Tryz.prog 165 [.string name] K σ := by
 refine c165 _ ?_
 unfold g165
 (repeat (first|refine ptr_i ?_|refine z2 ?_|(refine al_i ?_;intro _ _ _ _ _)|refine z4 ?_|refine z5 ?_|(refine z6 ?_;intro _ _)|refine app_P ?_|refine app_I ?_|refine app_S ?_|refine app_B ?_|refine app_M ?_|refine app_L ?_|refine app_U ?_|refine app_R ?_|(refine app_of rfl ?_;try dsimp only)))
 exact hK _ _ (by repeat (first | exact Gr.refl _ | assumption | refine Gr.trans ?_ ‹_› | refine Gr.putF ?_ ‹_› (none_of ?_ ‹_›))) (by exact gA)
theorem s_free {σ : H} (t : Option Addr) (dir : Int) (name : ByteArray) {K : KH} (hK : ∀ b1 b2 b3 σ', Gr σ σ' -> σ' b1 = some (.cells ⟨[.pointer t]⟩ 108 (0, 0)) -> σ' b2 = some (.cells ⟨[.int .i64 dir]⟩ 3 (0, 0)) -> σ' b3 = some (.cells ⟨[.string name]⟩ 9 (0, 0)) -> K (.func (.func 217) ⟨[]⟩ ⟨[.pointer (some ⟨b1, 0, none⟩), .pointer (some ⟨b2, 0, none⟩), .pointer (some ⟨b3, 0, none⟩)]⟩) σ') :
 callW Tryz.prog 166 [.pointer t, .int .i64 dir, .string name] K σ := by
 refine c166 _ _ _ ?_
 unfold g166
 (repeat (first|refine ptr_i ?_|refine z2 ?_|(refine al_i ?_;intro _ _ _ _ _)|refine z4 ?_|refine z5 ?_|(refine z6 ?_;intro _ _)|refine app_P ?_|refine app_I ?_|refine app_S ?_|refine app_B ?_|refine app_M ?_|refine app_L ?_|refine app_U ?_|refine app_R ?_|(refine app_of rfl ?_;try dsimp only)))
 exact hK _ _ _ _ (by repeat (first | exact Gr.refl _ | assumption | refine Gr.trans ?_ ‹_› | refine Gr.putF ?_ ‹_› (none_of ?_ ‹_›))) (by exact gA) (by exact gA) (by exact gA)
theorem s_entry {σ : H} (t : Option Addr) (dir : Int) (name : ByteArray) {K : KH} (hK : ∀ b1 b2 b3 σ', Gr σ σ' -> σ' b1 = some (.cells ⟨[.pointer t]⟩ 108 (0, 0)) -> σ' b2 = some (.cells ⟨[.int .i64 dir]⟩ 3 (0, 0)) -> σ' b3 = some (.cells ⟨[.string name]⟩ 9 (0, 0)) -> K (.func (.func 224) ⟨[]⟩ ⟨[.pointer (some ⟨b1, 0, none⟩), .pointer (some ⟨b2, 0, none⟩), .pointer (some ⟨b3, 0, none⟩)]⟩) σ') :
 callW Tryz.prog 178 [.pointer t, .int .i64 dir, .string name] K σ := by
 refine c178 _ _ _ ?_
 unfold g178
 (repeat (first|refine ptr_i ?_|refine z2 ?_|(refine al_i ?_;intro _ _ _ _ _)|refine z4 ?_|refine z5 ?_|(refine z6 ?_;intro _ _)|refine app_P ?_|refine app_I ?_|refine app_S ?_|refine app_B ?_|refine app_M ?_|refine app_L ?_|refine app_U ?_|refine app_R ?_|(refine app_of rfl ?_;try dsimp only)))
 exact hK _ _ _ _ (by repeat (first | exact Gr.refl _ | assumption | refine Gr.trans ?_ ‹_› | refine Gr.putF ?_ ‹_› (none_of ?_ ‹_›))) (by exact gA) (by exact gA) (by exact gA)
theorem s_room {σ : H} (t : Option Addr) (i n : Int) {K : KH} (hK : ∀ b1 b2 b3 σ', Gr σ σ' -> σ' b1 = some (.cells ⟨[.pointer t]⟩ 108 (0, 0)) -> σ' b2 = some (.cells ⟨[.int .i64 i]⟩ 3 (0, 0)) -> σ' b3 = some (.cells ⟨[.int .i64 n]⟩ 3 (0, 0)) -> K (.func (.func 218) ⟨[]⟩ ⟨[.pointer (some ⟨b1, 0, none⟩), .pointer (some ⟨b2, 0, none⟩), .pointer (some ⟨b3, 0, none⟩)]⟩) σ') :
 callW Tryz.prog 168 [.pointer t, .int .i64 i, .int .i64 n] K σ := by
 refine c168 _ _ _ ?_
 unfold g168
 (repeat (first|refine ptr_i ?_|refine z2 ?_|(refine al_i ?_;intro _ _ _ _ _)|refine z4 ?_|refine z5 ?_|(refine z6 ?_;intro _ _)|refine app_P ?_|refine app_I ?_|refine app_S ?_|refine app_B ?_|refine app_M ?_|refine app_L ?_|refine app_U ?_|refine app_R ?_|(refine app_of rfl ?_;try dsimp only)))
 exact hK _ _ _ _ (by repeat (first | exact Gr.refl _ | assumption | refine Gr.trans ?_ ‹_› | refine Gr.putF ?_ ‹_› (none_of ?_ ‹_›))) (by exact gA) (by exact gA) (by exact gA)
def Tb.roomE (T : Tb) (i n : Int) : Int := if IntKind.i64.wrap (T.ui + i) <= T.qi /\ IntKind.i64.wrap (T.ub + n) <= T.qb then 0 else 10
theorem s_room1 {σ : H} {bt : Nat} {T : Tb} (hT : TAt σ bt T) {b1 b2 b3 : Nat} {i n : Int} {t1 t2 t3 : TypeId} (h1 : σ b1 = some (.cells ⟨[.pointer (some ⟨bt, 0, none⟩)]⟩ t1 (0, 0))) (h2 : σ b2 = some (.cells ⟨[.int .i64 i]⟩ t2 (0, 0))) (h3 : σ b3 = some (.cells ⟨[.int .i64 n]⟩ t3 (0, 0))) {K : KH}
 (hK : K (.int .i64 (T.roomE i n)) σ) : callW Tryz.prog 218 [.pointer (some ⟨b1, 0, none⟩), .pointer (some ⟨b2, 0, none⟩), .pointer (some ⟨b3, 0, none⟩)] K σ := by
 refine c218 _ _ _ ?_
 unfold g218
 have hc := hT.cells
 unfold Tb.cells at hc
 (repeat (first|refine ptr_i ?_|refine z2 ?_|(refine al_i ?_;intro _ _ _ _ _)|refine z4 ?_|refine z5 ?_|(refine z6 ?_;intro _ _)|refine app_P ?_|refine app_I ?_|refine app_S ?_|refine app_B ?_|refine app_M ?_|refine app_L ?_|refine app_U ?_|refine app_R ?_|(refine app_of rfl ?_;try dsimp only)))
 unfold Tb.roomE at hK
 by_cases ha : IntKind.i64.wrap (T.ui + i) <= T.qi
 ·refine br_t (by simpa using ha) ?_
  (repeat (first|refine ptr_i ?_|refine z2 ?_|(refine al_i ?_;intro _ _ _ _ _)|refine z4 ?_|refine z5 ?_|(refine z6 ?_;intro _ _)|refine app_P ?_|refine app_I ?_|refine app_S ?_|refine app_B ?_|refine app_M ?_|refine app_L ?_|refine app_U ?_|refine app_R ?_|(refine app_of rfl ?_;try dsimp only)))
  refine call_i (s_must _ _ (app_I ?_))
  simpa [ha] using hK
 ·refine br_f (by simpa using ha) ?_
  refine call_i (s_must _ _ (app_I ?_))
  simpa [ha] using hK
theorem und_MIB : Tryz.prog.underlying 211 = some (.map 3 4) := by kernel_rfl
theorem und_int : Tryz.prog.underlying 3 = some (.int .i64) := by kernel_rfl
theorem und_string : Tryz.prog.underlying 9 = some .string := by kernel_rfl
def IByte : Prop := ∀ (s : ByteArray) (σ : H) (K : KH), (∀ n : Int, (decide (n < 0) = !hasNul s) -> K (.int .i64 n) σ) -> callW Tryz.prog 26 [.string s, .int .u8 0] K σ
def CAny : Prop := ∀ (s : ByteArray) (_ : s.size <= 1000000) (σ : H) (K : KH), K (.bool (badByte s)) σ -> callW Tryz.prog 216 [.string s, .string ⟨⟨[47, 0]⟩⟩] K σ
theorem s_Make1 (hI : IByte) {σ : H} {b1 b2 b3 : Nat} {data : ByteArray} {kind mode : Int} {t1 t2 t3 : TypeId} (h1 : σ b1 = some (.cells ⟨[.string data]⟩ t1 (0, 0))) (h2 : σ b2 = some (.cells ⟨[.int .i64 kind]⟩ t2 (0, 0))) (h3 : σ b3 = some (.cells ⟨[.int .i64 mode]⟩ t3 (0, 0))) {K : KH}
 (hK : K (.int .i64 (likeE kind mode data)) σ) : callW Tryz.prog 160 [.pointer (some ⟨b1, 0, none⟩), .pointer (some ⟨b2, 0, none⟩), .pointer (some ⟨b3, 0, none⟩)] K σ := by
 have hsE : sEq data ⟨⟨[]⟩⟩ = strEq data ⟨⟨[]⟩⟩ := sEq_eq _ _
 refine pure_i _ hK (c160 _ _ _ ?_)
 unfold g160
 refine j_i (fun j => ∀ σ', Gr σ σ' -> j (some ⟨b1, 0, none⟩) (some ⟨b2, 0, none⟩) (some ⟨b3, 0, none⟩) (linkOk data) σ') ?_ ?_
 ·intro σ' hg
  refine al_i ?_
  intro b σ1 hg1 hb hn
  have m0 : MapAt σ1 b (encL kkI Value.bool []) := MapAt.new hb
  refine mu_i (kk := kkI) (f := Value.bool) und_MIB und_int m0 1 true ?_
  intro o1 σ2 hp1 m1
  have hne1 : b1 ≠ b := ne_fresh (hg.get h1) hn
  have hne2 : b2 ≠ b := ne_fresh (hg.get h2) hn
  have hne3 : b3 ≠ b := ne_fresh (hg.get h3) hn
  refine ptr_i (rd_S (rdC_of (by exact gA) (by rfl)) ?_)
  refine mu_i (kk := kkI) (f := Value.bool) und_MIB und_int m1 2 _ ?_
  intro o2 σ3 hp2 m2
  refine mu_i (kk := kkI) (f := Value.bool) und_MIB und_int m2 3 _ ?_
  intro o3 σ4 hp3 m3
  refine ptr_i (rd_I (rdC_of (by exact gA) (by rfl)) ?_)
  have hv : ((lk kind (up 3 (linkOk data) (up 2 (strEq data ⟨⟨[]⟩⟩) (up 1 true [])))).map Value.bool).getD (.bool false) = .bool (kindOkE kind data) := by
   show ((lk kind [((1 : Int), true), (2, strEq data ⟨⟨[]⟩⟩), (3, linkOk data)]).map Value.bool).getD (.bool false) = _
   unfold kindOkE
   rw [hsE]
   cases lk kind [((1 : Int), true), (2, strEq data ⟨⟨[]⟩⟩), (3, linkOk data)] <;> rfl
  have hr := rdM_at (kk := kkI) m3 (.bool false) false kind
  refine rd_B (x := kindOkE kind data) (by rw [<- hv]; exact hr) ?_
  have hgr : Gr σ σ4 := by repeat (first | exact Gr.refl _ | assumption | refine Gr.trans ?_ ‹_› | refine Gr.putF ?_ ‹_› (none_of ?_ ‹_›))
  unfold likeE
  cases hk : kindOkE kind data with
  | false =>
   refine br_f rfl (call_i (s_must _ _ (app_I ⟨rfl, hgr⟩)))
  | true =>
   refine br_t rfl (ptr_i (rd_I (rdC_of (by exact gA) (by rfl)) ?_))
   by_cases hm : 0 <= mode
   ·refine br_t (by simpa using hm) (ptr_i (rd_I (rdC_of (by exact gA) (by rfl)) ?_))
    refine call_i (s_must _ _ (app_I ⟨?_, hgr⟩))
    simp [hm]
   ·refine br_f (by simpa using hm) (call_i (s_must _ _ (app_I ⟨?_, hgr⟩)))
    simp [hm]
 ·intro j hj
  refine ptr_i (rd_S (rdC_of (by exact gA) (by rfl)) ?_)
  unfold linkOk at hj
  rw [hsE] at hj
  cases he : strEq data ⟨⟨[]⟩⟩ with
  | true => refine br_f rfl ?_; rw [he] at hj; exact hj σ (Gr.refl _)
  | false =>
   rw [he] at hj
   refine br_t rfl (ptr_i (rd_S (rdC_of (by exact gA) (by rfl)) ?_))
   by_cases hl : data.size <= 255
   ·refine br_t (by simp; omega) (ptr_i (rd_S (rdC_of (by exact gA) (by rfl)) ?_))
    refine call_i (hI data σ _ ?_)
    intro n hn
    refine app_I ?_
    rw [hn]
    simpa [hl] using hj σ (Gr.refl _)
   ·refine br_f (by simp; omega) ?_
    simpa [hl] using hj σ (Gr.refl _)
end Go.Proofs.YtbjbeajbckcecaaGreatDoor

