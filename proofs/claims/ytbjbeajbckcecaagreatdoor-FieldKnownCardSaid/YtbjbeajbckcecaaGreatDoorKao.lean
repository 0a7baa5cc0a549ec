/- A part of the proof: FieldKnown holds. -/
import Derived.Test.YtbjbeajbckcecaaGreatDoorKan
import Derived.Test.YtbjbeajbckcecaaGreatDoorProg
import Derived.KernelRfl
import Derived.Test.YtbjbeajbckcecaaGreatDoorChecked
namespace Go.Wk
open Go Go.HL
structure AN where
  kind : Int
  mode : Int
  data : ByteArray
  links : Int
  up : Int
  ents : List (ByteArray × Int)
structure AT where
  qi : Int
  qb : Int
  ui : Int
  ub : Int
  last : Int
  nodes : List (Int × AN)
def AT.get (A : AT) (i : Int) : Option AN := lk i A.nodes
def AT.find (A : AT) (dir : Int) (name : ByteArray) : Option Int := (A.get dir).bind fun n => lk name n.ents
def AT.kind (A : AT) (i : Int) : Int := ((A.get i).map (·.kind)).getD 0
def AT.upOf (A : AT) (i : Int) : Int := ((A.get i).map (·.up)).getD 0
def AT.dirE (A : AT) (ino : Int) : Int := match A.get ino with
  | none => 5
  | some n => if n.kind == 2 then 0 else 8
def AT.fileE (A : AT) (ino : Int) : Int := match A.get ino with
  | none => 5
  | some n => if n.kind == 2 then 7 else if n.kind == 1 then 0 else 2
def sEq (x y : ByteArray) : Bool := x.data.toList == y.data.toList
theorem sEq_eq (x y : ByteArray) : sEq x y = strEq x y := by unfold sEq strEq; rw [ByteArray.toList_eq, ByteArray.toList_eq]
theorem sEq_iff {x y : ByteArray} : sEq x y = true ↔ x = y := by rw [sEq_eq]; exact strEq_iff
def badByte (s : ByteArray) : Bool := s.data.toList.any fun c => c == 47 || c == 0
def hasNul (s : ByteArray) : Bool := s.data.toList.any fun c => c == 0
def namedE (name : ByteArray) : Int := if name.size > 56 then 3 else if !sEq name ⟨⟨[]⟩⟩ && !sEq name ⟨⟨[46]⟩⟩ && !sEq name ⟨⟨[46, 46]⟩⟩ && !badByte name then 0 else 2
def linkOk (d : ByteArray) : Bool := !sEq d ⟨⟨[]⟩⟩ && (decide (d.size <= 255) && !hasNul d)
def kindOkE (kind : Int) (d : ByteArray) : Bool := (lk kind [((1 : Int), true), (2, sEq d ⟨⟨[]⟩⟩), (3, linkOk d)]).getD false
def likeE (kind mode : Int) (d : ByteArray) : Int := if kindOkE kind d && (decide (0 <= mode) && decide (mode <= 511)) then 0 else 2
def wr (x : Int) : Int := IntKind.i64.wrap x
def AT.roomE (A : AT) (i n : Int) : Int := if wr (A.ui + i) <= A.qi /\ wr (A.ub + n) <= A.qb then 0 else 10
def firstE : List Int -> Int
  | [] => 0
  | e :: es => if e = 0 then firstE es else e
def AT.set (A : AT) (i : Int) (n : AN) : AT := { A with nodes := up i n A.nodes }
def AT.ent (A : AT) (dir : Int) (f : List (ByteArray × Int) -> List (ByteArray × Int)) : AT := match A.get dir with
  | none => A
  | some n => A.set dir { n with ents := f n.ents }
def AT.makeE (A : AT) (dir : Int) (name : ByteArray) (kind mode : Int) (data : ByteArray) : Int :=
  firstE [0, A.dirE dir, namedE name, likeE kind mode data, if (A.find dir name).isSome then 6 else 0, A.roomE 1 (data.size : Int)]
def AT.made (A : AT) (dir : Int) (name : ByteArray) (kind mode : Int) (data : ByteArray) : AT :=
  let i := wr (A.last + 1)
  let A1 := { A with last := i, nodes := up i ⟨kind, mode, data, 1, if kind == 2 then dir else 0, []⟩ A.nodes }
  let A2 := A1.ent dir (up name i)
  { A2 with ui := wr (A.ui + 1), ub := wr (A.ub + data.size) }
def AT.linkE (A : AT) (dir : Int) (name : ByteArray) (ino : Int) : Int :=
  firstE [0, A.dirE dir, namedE name, A.fileE ino, if (A.find dir name).isSome then 6 else 0]
def AT.mod (A : AT) (i : Int) (f : AN -> AN) : AT := match A.get i with
  | none => A
  | some n => A.set i (f n)
def AT.linked (A : AT) (dir : Int) (name : ByteArray) (ino : Int) : AT := (A.ent dir (up name ino)).mod ino fun n => { n with links := wr (n.links + 1) }
def AT.apart (A : AT) (ino : Int) : Nat -> Int -> Option Bool
  | 0, _ => none
  | f + 1, at_ => if at_ = 1 then some true else if at_ = ino then some false else (A.get at_).bind fun n => AT.apart A ino f n.up
def AT.moveE1 (A : AT) (src : Int) (name : ByteArray) (to : Int) (as_ : ByteArray) : Int :=
  firstE [0, A.dirE src, A.dirE to, namedE as_, if (A.find src name).isSome then 0 else 5]
def AT.moved (A : AT) (src : Int) (name : ByteArray) (to : Int) (as_ : ByteArray) : AT :=
  let ino := (A.find src name).getD 0
  ((A.ent src (rm name)).ent to (up as_ ino)).mod ino fun n => if n.kind == 2 then { n with up := to } else n
def AT.writeE (A : AT) (ino : Int) (data : ByteArray) : Int :=
  firstE [0, A.fileE ino, A.roomE 0 (wr ((data.size : Int) - ((A.get ino).map (·.data.size)).getD 0))]
def AT.written (A : AT) (ino : Int) (data : ByteArray) : AT := match A.get ino with
  | none => A
  | some n => { A.set ino { n with data := data } with ub := wr (A.ub + wr ((data.size : Int) - n.data.size)) }
def AT.chmodE (A : AT) (ino mode : Int) : Int := firstE [0, if 0 <= mode /\ mode <= 511 then 0 else 2, if (A.get ino).isSome then 0 else 5]
def AT.chmoded (A : AT) (ino mode : Int) : AT := A.mod ino fun n => { n with mode := mode }
def newOk (qi qb : Int) : Bool := !(decide (qi < 1) || (decide (qi > 1048576) || (decide (qb < 0) || decide (qb > 1073741824))))
def newT (qi qb : Int) : AT := ⟨qi, qb, 1, 0, 1, [(1, ⟨2, 493, ⟨⟨[]⟩⟩, 1, 1, []⟩)]⟩
def AT.makeR (A : AT) (dir : Int) (name : ByteArray) (kind mode : Int) (data : ByteArray) : Int × Int × AT :=
  if A.makeE dir name kind mode data = 0 then (wr (A.last + 1), 0, A.made dir name kind mode data) else (0, A.makeE dir name kind mode data, A)
def AT.linkR (A : AT) (dir : Int) (name : ByteArray) (ino : Int) : Int × AT :=
  if A.linkE dir name ino = 0 then (0, A.linked dir name ino) else (A.linkE dir name ino, A)
def AT.writeR (A : AT) (ino : Int) (data : ByteArray) : Int × AT := if A.writeE ino data = 0 then (0, A.written ino data) else (A.writeE ino data, A)
def AT.chmodR (A : AT) (ino mode : Int) : Int × AT := if A.chmodE ino mode = 0 then (0, A.chmoded ino mode) else (A.chmodE ino mode, A)
def AT.moveR (A : AT) (src : Int) (name : ByteArray) (to : Int) (as_ : ByteArray) (f : Nat) : Int × AT :=
  if A.moveE1 src name to as_ ≠ 0 \/ (src = to /\ name = as_) then (A.moveE1 src name to as_, A)
  else
    let e := firstE [if (A.find to as_).isSome then 6 else 0, if (A.apart ((A.find src name).getD 0) f to).getD false then 0 else 2]
    if e ≠ 0 then (e, A) else (0, A.moved src name to as_)
end Go.Wk

namespace Go.Proofs.YtbjbeajbckcecaaGreatDoor
open Go Go.HL
@[reducible] def kI : TK := .one (.sc (.int .i64))
@[reducible] def kC : TK := .one (.sc (.int .u8))
@[reducible] def kB : TK := .one (.sc .bool)
@[reducible] def kS : TK := .one (.sc .str)
@[reducible] def kP : TK := .one (.sc .ptr)
@[reducible] def kL : TK := .one (.sc .slc)
@[reducible] def kM : TK := .one (.sc .map)
@[reducible] def kR : TK := .one (.sc .raw)
@[reducible] def kU : TK := .tup []
def tau : Nat -> TK
  | 0 => kU
  | 2 => kI
  | 3 => kI
  | 4 => kB
  | 5 => kC
  | 6 => kC
  | 7 => (.one (.agg [(.int .i64), (.int .i64), .bool, (.int .u8)]))
  | 8 => (.one (.agg [(.int .i64), (.int .i64), .bool, (.int .u8)]))
  | 9 => kS
  | 10 => kS
  | 11 => kS
  | 12 => (.one (.sc (.int .u64)))
  | 13 => (.one (.agg [.str, (.int .u64)]))
  | 14 => (.one (.agg [.str, (.int .u64)]))
  | 15 => kP
  | 16 => kP
  | 17 => kP
  | 18 => (.one (.agg [.ptr]))
  | 19 => (.one (.agg [.ptr]))
  | 21 => (.one (.sc (.int .i32)))
  | 22 => kL
  | 24 => kP
  | 25 => kP
  | 26 => (.tup [.sc .ptr, .sc .ptr])
  | 28 => (.one (.agg [.str, .bool, .bool]))
  | 29 => (.one (.agg [.str, .bool, .bool]))
  | 31 => kL
  | 32 => (.tup [.sc .slc, .sc (.int .i64)])
  | 34 => (.one (.agg [(.int .i64), (.int .i64), .str, (.int .i64)]))
  | 35 => (.one (.agg [(.int .i64), (.int .i64), .str, (.int .i64)]))
  | 36 => kI
  | 37 => (.tup [.agg [(.int .i64), (.int .i64), .str, (.int .i64)], .sc (.int .i64)])
  | 40 => (.tup [.sc .slc, .sc (.int .i64)])
  | 44 => kL
  | 47 => kL
  | 51 => kL
  | 52 => (.one (.agg [.slc]))
  | 53 => (.one (.agg [.slc]))
  | 56 => kL
  | 62 => kL
  | 63 => (.one (.agg [(.int .i64), (.int .i64)]))
  | 64 => (.one (.agg [(.int .i64), (.int .i64)]))
  | 68 => (.one (.agg [(.int .u8), .str, .str, (.int .i64)]))
  | 69 => (.one (.agg [(.int .u8), .str, .str, (.int .i64)]))
  | 71 => kL
  | 72 => (.one (.agg [.str, (.int .i64), .bool, .str, .slc]))
  | 73 => (.one (.agg [.str, (.int .i64), .bool, .str, .slc]))
  | 74 => (.tup [.agg [.str, (.int .i64), .bool, .str, .slc], .sc (.int .i64)])
  | 92 => (.tup [.sc .str, .sc (.int .i64)])
  | 95 => kP
  | 96 => (.one (.agg [.ptr, .str, (.int .i64)]))
  | 97 => (.one (.agg [.ptr, .str, (.int .i64)]))
  | 102 => kL
  | 108 => kP
  | 109 => (.one (.agg [.ptr]))
  | 110 => (.one (.agg [.ptr]))
  | 114 => kP
  | 116 => (.one (.agg [(.int .u8), .bool]))
  | 117 => (.one (.agg [(.int .u8), .bool]))
  | 119 => kP
  | 120 => (.one (.agg [.ptr, .slc]))
  | 121 => (.one (.agg [.ptr, .slc]))
  | 124 => (.tup [.sc (.int .i64), .sc .raw])
  | 128 => kP
  | 129 => kL
  | 130 => (.one (.agg [(.int .i64), (.int .i64), .str, .slc, (.int .i64)]))
  | 131 => (.one (.agg [(.int .i64), (.int .i64), .str, .slc, (.int .i64)]))
  | 132 => kL
  | 133 => (.one (.agg [(.int .i64), (.int .i64), .slc]))
  | 134 => (.one (.agg [(.int .i64), (.int .i64), .slc]))
  | 135 => (.one (.agg [.ptr]))
  | 136 => (.one (.agg [.ptr]))
  | 141 => (.one (.agg [(.int .i64), .str, (.int .i64), .bool]))
  | 142 => (.one (.agg [(.int .i64), .str, (.int .i64), .bool]))
  | 143 => (.tup [.sc (.int .i64), .sc (.int .i64)])
  | 147 => (.tup [.agg [(.int .i64), .str, (.int .i64), .bool], .sc (.int .i64)])
  | 149 => (.tup [.agg [(.int .i64), (.int .i64), .str, (.int .i64)], .sc .bool])
  | 155 => (.one (.sc (.int .u64)))
  | 156 => (.tup [.sc (.int .u64), .sc (.int .u64)])
  | 159 => (.tup [.agg [(.int .i64), .str, (.int .i64), .bool], .agg [(.int .i64), .str, (.int .i64), .bool], .sc (.int .i64)])
  | 165 => (.tup [.sc (.int .i64), .sc (.int .i64)])
  | 168 => (.tup [.sc (.int .i64), .sc .bool])
  | 170 => (.one (.agg [(.int .i64), .str, (.int .i64)]))
  | 171 => (.one (.agg [(.int .i64), .str, (.int .i64)]))
  | 172 => (.tup [.agg [(.int .i64), .str, (.int .i64)], .sc (.int .i64)])
  | 177 => kL
  | 179 => (.one (.agg [.bool, .raw, .bool]))
  | 180 => (.one (.agg [.bool, .raw, .bool]))
  | 185 => (.one (.agg [.slc, .bool]))
  | 186 => (.one (.agg [.slc, .bool]))
  | 188 => kP
  | 189 => kP
  | 192 => kM
  | 193 => (.one (.agg [(.int .i64), (.int .i64), .str, (.int .i64), (.int .i64), .map]))
  | 194 => (.one (.agg [(.int .i64), (.int .i64), .str, (.int .i64), (.int .i64), .map]))
  | 197 => kP
  | 198 => kM
  | 199 => (.one (.agg [(.int .i64), (.int .i64), (.int .i64), (.int .i64), .map, (.int .i64)]))
  | 200 => (.one (.agg [(.int .i64), (.int .i64), (.int .i64), (.int .i64), .map, (.int .i64)]))
  | 205 => (.tup [.sc .raw, .sc .bool])
  | 209 => kM
  | 211 => kM
  | 219 => kP
  | 220 => (.one (.sc (.int .u32)))
  | 221 => (.tup [.sc (.int .u32), .sc (.int .u32)])
  | 223 => (.one (.sc (.int .u64)))
  | 224 => (.tup [.sc (.int .u64), .sc (.int .u64)])
  | 226 => kM
  | 229 => kL
  | 233 => (.one (.agg [(.int .u8), .bool]))
  | 234 => (.one (.agg [(.int .u8), .bool]))
  | 235 => (.tup [.sc .raw, .sc (.int .i64)])
  | 244 => (.one (.agg [.str, (.int .i64)]))
  | 245 => (.one (.agg [.str, (.int .i64)]))
  | 249 => kL
  | 260 => kI
  | 261 => (.tup [.sc (.int .i64), .sc (.int .i64)])
  | 270 => kL
  | 276 => (.one (.sc (.int .u64)))
  | 286 => (.tup [.sc .raw, .sc .bool])
  | 289 => kP
  | 292 => kP
  | 293 => (.tup [.sc (.int .i32), .sc (.int .i64)])
  | 296 => (.one (.agg [(.int .u8), (.int .u8)]))
  | 297 => (.one (.agg [(.int .u8), (.int .u8)]))
  | 299 => (.one (.agg [.ptr, .ptr, .ptr, .str]))
  | 300 => (.one (.agg [.ptr, .ptr, .ptr, .str]))
  | 301 => (.one (.agg []))
  | 302 => (.one (.agg []))
  | 303 => (.one (.agg []))
  | 304 => kC
  | 305 => kC
  | 307 => (.one (.sc (.int .i32)))
  | 308 => (.one (.sc (.int .i32)))
  | 309 => (.one (.agg [(.int .u64), (.int .u64), (.int .u32), (.int .u8), (.int .u8), (.int .u8), (.int .u8), .raw, .ptr, (.int .i32), (.int .i32)]))
  | 310 => (.one (.agg [(.int .u64), (.int .u64), (.int .u32), (.int .u8), (.int .u8), (.int .u8), (.int .u8), .raw, .ptr, (.int .i32), (.int .i32)]))
  | _ => kR
theorem mixed : Tryz.prog.follows .mixedOrders = true := by kernel_rfl
end Go.Proofs.YtbjbeajbckcecaaGreatDoor

set_option maxRecDepth 100000
namespace Go.Proofs.YtbjbeajbckcecaaGreatDoor
open Go Go.HL
def an8 : Ann := (.seq none (.reg [] []) (.seq none (.reg [] []) (.seq none (.seq (some [(1, .sc .ptr), (24, .sc .bool)]) (.reg [] []) (.cond (.seq none (.reg [] []) .leaf) .leaf)) (.seq (some [(1, .sc .ptr), (3, .sc .bool)]) (.reg [] []) (.seq (some [(1, .sc .ptr), (3, .sc .bool)]) (.reg [] []) (.seq none (.reg [] []) (.seq none (.reg [] []) (.seq none (.reg [] []) .leaf))))))))
def g8  (K : KH) : H -> Prop :=
 alW (.cells ⟨[.string (⟨⟨[97, 47]⟩⟩ : ByteArray), .string (⟨⟨[97, 47, 120]⟩⟩ : ByteArray), .string (⟨⟨[97, 47, 121]⟩⟩ : ByteArray), .string (⟨⟨[98, 47]⟩⟩ : ByteArray), .string (⟨⟨[98, 47, 120]⟩⟩ : ByteArray), .string (⟨⟨[99]⟩⟩ : ByteArray), .string (⟨⟨[42]⟩⟩ : ByteArray), .string (⟨⟨[46, 104, 47]⟩⟩ : ByteArray), .string (⟨⟨[46, 104, 47, 120]⟩⟩ : ByteArray), .string (⟨⟨[98, 47, 46, 113]⟩⟩ : ByteArray), .string (⟨⟨[91, 107, 93]⟩⟩ : ByteArray)]⟩ 9 (0, 0)) (fun b1 =>
 callT Tryz.prog 12 [.slice (some ⟨b1, 0, none⟩) 11 11] (.tup [.sc .ptr, .sc .ptr]) (fun x2 _x3 =>
 letJ (T := Option Addr -> Bool -> H -> Prop) (fun f_5 x6 =>
 brW x6
 (K (.bool false))
 (letJ (T := Option Addr -> Bool -> H -> Prop) (fun f_8 ok_9 =>
 letJ (T := Option Addr -> Bool -> H -> Prop) (fun f_11 ok_12 =>
 callT Tryz.prog 13 [.string (⟨⟨[63, 47, 42]⟩⟩ : ByteArray)] (.one (.agg [.str, .bool, .bool])) (fun (x13 : ByteArray) (x14 : Bool) (x15 : Bool) =>
 alW (.cells ⟨[.string x13, .bool x14, .bool x15]⟩ 29 (0, 0)) (fun b16 =>
 callT Tryz.prog 14 [.pointer f_11, .string (⟨⟨[47]⟩⟩ : ByteArray), .slice (some ⟨b16, 0, none⟩) 1 1] (.tup [.sc .slc, .sc (.int .i64)]) (fun (x17 : Sl) (x18 : Int) =>
 callT Tryz.prog 43 [.string (⟨⟨[120, 42, 32, 63]⟩⟩ : ByteArray)] (.one (.agg [.str, .bool, .bool])) (fun (x19 : ByteArray) (x20 : Bool) (x21 : Bool) =>
 alW (.cells ⟨[.string x19, .bool x20, .bool x21]⟩ 29 (0, 0)) (fun b22 =>
 callT Tryz.prog 44 [.string (⟨⟨[97, 32, 98]⟩⟩ : ByteArray)] (.one (.agg [.str, .bool, .bool])) (fun (x23 : ByteArray) (x24 : Bool) (x25 : Bool) =>
 alW (.cells ⟨[.string x23, .bool x24, .bool x25]⟩ 29 (0, 0)) (fun b26 =>
 callT Tryz.prog 43 [.string (⟨⟨[]⟩⟩ : ByteArray)] (.one (.agg [.str, .bool, .bool])) (fun (x27 : ByteArray) (x28 : Bool) (x29 : Bool) =>
 alW (.cells ⟨[.string x27, .bool x28, .bool x29]⟩ 29 (0, 0)) (fun b30 =>
 alW (.cells ⟨[.slice (some ⟨b22, 0, none⟩) 1 1, .slice (some ⟨b26, 0, none⟩) 1 1, .slice (some ⟨b30, 0, none⟩) 1 1]⟩ 31 (0, 0)) (fun b31 =>
 callT Tryz.prog 29 [.pointer f_11, .string (⟨⟨[47, 97]⟩⟩ : ByteArray), .slice (some ⟨b31, 0, none⟩) 3 3, .string (⟨⟨[32]⟩⟩ : ByteArray)] (.tup [.sc .slc, .sc (.int .i64)]) (fun (x32 : Sl) (x33 : Int) =>
 callT Tryz.prog 11 [] kB (fun x34 =>
 brW x34
 (brW ok_12
 (callT Tryz.prog 46 [.slice x17.base x17.len x17.cap, .string (⟨⟨[32]⟩⟩ : ByteArray)] kS (fun (x35 : ByteArray) =>
 brW (strEq x35 (⟨⟨[97, 47, 120, 32, 97, 47, 121, 32, 98, 47, 120, 32, 108, 47, 120, 32, 108, 47, 121]⟩⟩ : ByteArray))
 (brW ((x18 : Int) == 14)
 (callT Tryz.prog 46 [.slice x32.base x32.len x32.cap, .string (⟨⟨[44]⟩⟩ : ByteArray)] kS (fun (x36 : ByteArray) =>
 brW (strEq x36 (⟨⟨[120, 44, 120, 44, 121, 44, 97, 32, 98]⟩⟩ : ByteArray))
 (brW ((x33 : Int) == 4)
 (callT Tryz.prog 13 [.string (⟨⟨[97]⟩⟩ : ByteArray)] (.one (.agg [.str, .bool, .bool])) (fun (x37 : ByteArray) (x38 : Bool) (x39 : Bool) =>
 callT Tryz.prog 44 [.string (⟨⟨[32, 98]⟩⟩ : ByteArray)] (.one (.agg [.str, .bool, .bool])) (fun (x40 : ByteArray) (x41 : Bool) (x42 : Bool) =>
 alW (.cells ⟨[.string x37, .bool x38, .bool x39, .string x40, .bool x41, .bool x42]⟩ 29 (0, 0)) (fun b43 =>
 alW (.cells ⟨[]⟩ 29 (0, 0)) (fun b44 =>
 callT Tryz.prog 43 [.string (⟨⟨[99]⟩⟩ : ByteArray)] (.one (.agg [.str, .bool, .bool])) (fun (x45 : ByteArray) (x46 : Bool) (x47 : Bool) =>
 alW (.cells ⟨[.string x45, .bool x46, .bool x47]⟩ 29 (0, 0)) (fun b48 =>
 alW (.cells ⟨[.slice (some ⟨b43, 0, none⟩) 2 2, .slice (some ⟨b44, 0, none⟩) 0 0, .slice (some ⟨b48, 0, none⟩) 1 1]⟩ 31 (0, 0)) (fun b49 =>
 callT Tryz.prog 22 [.slice (some ⟨b49, 0, none⟩) 3 3] kS (fun (x50 : ByteArray) =>
 brW (strEq x50 (⟨⟨[97, 32, 98, 32, 32, 99]⟩⟩ : ByteArray))
 (callT Tryz.prog 22 [.slice none 0 0] kS (fun (x51 : ByteArray) =>
 brW (strEq x51 (⟨⟨[]⟩⟩ : ByteArray))
 (K (.bool true))
 (K (.bool false))))
 (K (.bool false)))))))))))
 (K (.bool false)))
 (K (.bool false))))
 (K (.bool false)))
 (K (.bool false))))
 (K (.bool false)))
 (K (.bool false))))))))))))))) (fun j10 =>
 brW ok_9
 (callT Tryz.prog 13 [.string (⟨⟨[63, 47, 120]⟩⟩ : ByteArray)] (.one (.agg [.str, .bool, .bool])) (fun (x52 : ByteArray) (x53 : Bool) (x54 : Bool) =>
 alW (.cells ⟨[.string x52, .bool x53, .bool x54]⟩ 29 (0, 0)) (fun b55 =>
 callT Tryz.prog 45 [.pointer f_8, .string (⟨⟨[47]⟩⟩ : ByteArray), .string (⟨⟨[97, 47, 120, 32, 98, 47, 120, 32, 108, 47, 120]⟩⟩ : ByteArray), .slice (some ⟨b55, 0, none⟩) 1 1] kB (fun x56 =>
 brW x56
 (callT Tryz.prog 13 [.string (⟨⟨[97, 47, 42]⟩⟩ : ByteArray)] (.one (.agg [.str, .bool, .bool])) (fun (x57 : ByteArray) (x58 : Bool) (x59 : Bool) =>
 alW (.cells ⟨[.string x57, .bool x58, .bool x59]⟩ 29 (0, 0)) (fun b60 =>
 callT Tryz.prog 45 [.pointer f_8, .string (⟨⟨[47]⟩⟩ : ByteArray), .string (⟨⟨[97, 47, 120, 32, 97, 47, 121]⟩⟩ : ByteArray), .slice (some ⟨b60, 0, none⟩) 1 1] kB (fun x61 =>
 brW x61
 (callT Tryz.prog 13 [.string (⟨⟨[97, 47, 91, 120, 45, 121, 93]⟩⟩ : ByteArray)] (.one (.agg [.str, .bool, .bool])) (fun (x62 : ByteArray) (x63 : Bool) (x64 : Bool) =>
 alW (.cells ⟨[.string x62, .bool x63, .bool x64]⟩ 29 (0, 0)) (fun b65 =>
 callT Tryz.prog 45 [.pointer f_8, .string (⟨⟨[47]⟩⟩ : ByteArray), .string (⟨⟨[97, 47, 120, 32, 97, 47, 121]⟩⟩ : ByteArray), .slice (some ⟨b65, 0, none⟩) 1 1] kB (fun x66 =>
 brW x66
 (callT Tryz.prog 13 [.string (⟨⟨[47, 91, 97, 98, 93, 47, 120]⟩⟩ : ByteArray)] (.one (.agg [.str, .bool, .bool])) (fun (x67 : ByteArray) (x68 : Bool) (x69 : Bool) =>
 alW (.cells ⟨[.string x67, .bool x68, .bool x69]⟩ 29 (0, 0)) (fun b70 =>
 callT Tryz.prog 45 [.pointer f_8, .string (⟨⟨[47]⟩⟩ : ByteArray), .string (⟨⟨[47, 97, 47, 120, 32, 47, 98, 47, 120]⟩⟩ : ByteArray), .slice (some ⟨b70, 0, none⟩) 1 1] kB (fun x71 =>
 brW x71
 (callT Tryz.prog 13 [.string (⟨⟨[46, 42, 47, 120]⟩⟩ : ByteArray)] (.one (.agg [.str, .bool, .bool])) (fun (x72 : ByteArray) (x73 : Bool) (x74 : Bool) =>
 alW (.cells ⟨[.string x72, .bool x73, .bool x74]⟩ 29 (0, 0)) (fun b75 =>
 callT Tryz.prog 45 [.pointer f_8, .string (⟨⟨[47]⟩⟩ : ByteArray), .string (⟨⟨[46, 104, 47, 120]⟩⟩ : ByteArray), .slice (some ⟨b75, 0, none⟩) 1 1] kB (fun x76 =>
 brW x76
 (callT Tryz.prog 13 [.string (⟨⟨[42, 47]⟩⟩ : ByteArray)] (.one (.agg [.str, .bool, .bool])) (fun (x77 : ByteArray) (x78 : Bool) (x79 : Bool) =>
 alW (.cells ⟨[.string x77, .bool x78, .bool x79]⟩ 29 (0, 0)) (fun b80 =>
 callT Tryz.prog 45 [.pointer f_8, .string (⟨⟨[47]⟩⟩ : ByteArray), .string (⟨⟨[97, 47, 32, 98, 47, 32, 108, 47]⟩⟩ : ByteArray), .slice (some ⟨b80, 0, none⟩) 1 1] kB (fun x81 =>
 brW x81
 (callT Tryz.prog 13 [.string (⟨⟨[108, 47, 42]⟩⟩ : ByteArray)] (.one (.agg [.str, .bool, .bool])) (fun (x82 : ByteArray) (x83 : Bool) (x84 : Bool) =>
 alW (.cells ⟨[.string x82, .bool x83, .bool x84]⟩ 29 (0, 0)) (fun b85 =>
 callT Tryz.prog 45 [.pointer f_8, .string (⟨⟨[47]⟩⟩ : ByteArray), .string (⟨⟨[108, 47, 120, 32, 108, 47, 121]⟩⟩ : ByteArray), .slice (some ⟨b85, 0, none⟩) 1 1] kB (fun x86 =>
 brW x86
 (callT Tryz.prog 13 [.string (⟨⟨[99, 47, 42]⟩⟩ : ByteArray)] (.one (.agg [.str, .bool, .bool])) (fun (x87 : ByteArray) (x88 : Bool) (x89 : Bool) =>
 alW (.cells ⟨[.string x87, .bool x88, .bool x89]⟩ 29 (0, 0)) (fun b90 =>
 callT Tryz.prog 45 [.pointer f_8, .string (⟨⟨[47]⟩⟩ : ByteArray), .string (⟨⟨[99, 47, 42]⟩⟩ : ByteArray), .slice (some ⟨b90, 0, none⟩) 1 1] kB (fun x91 =>
 brW x91
 (callT Tryz.prog 13 [.string (⟨⟨[42]⟩⟩ : ByteArray)] (.one (.agg [.str, .bool, .bool])) (fun (x92 : ByteArray) (x93 : Bool) (x94 : Bool) =>
 alW (.cells ⟨[.string x92, .bool x93, .bool x94]⟩ 29 (0, 0)) (fun b95 =>
 callT Tryz.prog 45 [.pointer f_8, .string (⟨⟨[47, 97]⟩⟩ : ByteArray), .string (⟨⟨[120, 32, 121]⟩⟩ : ByteArray), .slice (some ⟨b95, 0, none⟩) 1 1] kB (fun x96 =>
 brW x96
 (callT Tryz.prog 13 [.string (⟨⟨[46, 46, 47, 98, 47, 42]⟩⟩ : ByteArray)] (.one (.agg [.str, .bool, .bool])) (fun (x97 : ByteArray) (x98 : Bool) (x99 : Bool) =>
 alW (.cells ⟨[.string x97, .bool x98, .bool x99]⟩ 29 (0, 0)) (fun b100 =>
 callT Tryz.prog 45 [.pointer f_8, .string (⟨⟨[47, 97]⟩⟩ : ByteArray), .string (⟨⟨[46, 46, 47, 98, 47, 120]⟩⟩ : ByteArray), .slice (some ⟨b100, 0, none⟩) 1 1] kB (fun x101 =>
 brW x101
 (callT Tryz.prog 44 [.string (⟨⟨[42]⟩⟩ : ByteArray)] (.one (.agg [.str, .bool, .bool])) (fun (x102 : ByteArray) (x103 : Bool) (x104 : Bool) =>
 alW (.cells ⟨[.string x102, .bool x103, .bool x104]⟩ 29 (0, 0)) (fun b105 =>
 callT Tryz.prog 45 [.pointer f_8, .string (⟨⟨[47]⟩⟩ : ByteArray), .string (⟨⟨[42]⟩⟩ : ByteArray), .slice (some ⟨b105, 0, none⟩) 1 1] kB (fun x106 =>
 brW x106
 (callT Tryz.prog 13 [.string (⟨⟨[110, 42]⟩⟩ : ByteArray)] (.one (.agg [.str, .bool, .bool])) (fun (x107 : ByteArray) (x108 : Bool) (x109 : Bool) =>
 alW (.cells ⟨[.string x107, .bool x108, .bool x109]⟩ 29 (0, 0)) (fun b110 =>
 callT Tryz.prog 45 [.pointer f_8, .string (⟨⟨[47]⟩⟩ : ByteArray), .string (⟨⟨[110]⟩⟩ : ByteArray), .slice (some ⟨b110, 0, none⟩) 1 1] kB (fun x111 =>
 brW x111
 (callT Tryz.prog 13 [.string (⟨⟨[91, 97, 98, 93, 47, 47, 120]⟩⟩ : ByteArray)] (.one (.agg [.str, .bool, .bool])) (fun (x112 : ByteArray) (x113 : Bool) (x114 : Bool) =>
 alW (.cells ⟨[.string x112, .bool x113, .bool x114]⟩ 29 (0, 0)) (fun b115 =>
 callT Tryz.prog 45 [.pointer f_8, .string (⟨⟨[47]⟩⟩ : ByteArray), .string (⟨⟨[97, 47, 47, 120, 32, 98, 47, 47, 120]⟩⟩ : ByteArray), .slice (some ⟨b115, 0, none⟩) 1 1] kB (fun x116 =>
 brW x116
 (callT Tryz.prog 13 [.string (⟨⟨[98, 47, 46, 42]⟩⟩ : ByteArray)] (.one (.agg [.str, .bool, .bool])) (fun (x117 : ByteArray) (x118 : Bool) (x119 : Bool) =>
 alW (.cells ⟨[.string x117, .bool x118, .bool x119]⟩ 29 (0, 0)) (fun b120 =>
 callT Tryz.prog 45 [.pointer f_8, .string (⟨⟨[47]⟩⟩ : ByteArray), .string (⟨⟨[98, 47, 46, 113]⟩⟩ : ByteArray), .slice (some ⟨b120, 0, none⟩) 1 1] kB (fun x121 =>
 brW x121
 (callT Tryz.prog 13 [.string (⟨⟨[42]⟩⟩ : ByteArray)] (.one (.agg [.str, .bool, .bool])) (fun (x122 : ByteArray) (x123 : Bool) (x124 : Bool) =>
 alW (.cells ⟨[.string x122, .bool x123, .bool x124]⟩ 29 (0, 0)) (fun b125 =>
 callT Tryz.prog 45 [.pointer f_8, .string (⟨⟨[47, 122, 122]⟩⟩ : ByteArray), .string (⟨⟨[42]⟩⟩ : ByteArray), .slice (some ⟨b125, 0, none⟩) 1 1] kB (fun x126 =>
 brW x126
 (callT Tryz.prog 13 [.string (⟨⟨[107, 42]⟩⟩ : ByteArray)] (.one (.agg [.str, .bool, .bool])) (fun (x127 : ByteArray) (x128 : Bool) (x129 : Bool) =>
 alW (.cells ⟨[.string x127, .bool x128, .bool x129]⟩ 29 (0, 0)) (fun b130 =>
 callT Tryz.prog 45 [.pointer f_8, .string (⟨⟨[47]⟩⟩ : ByteArray), .string (⟨⟨[107, 42]⟩⟩ : ByteArray), .slice (some ⟨b130, 0, none⟩) 1 1] kB (fun x131 =>
 brW x131
 (callT Tryz.prog 44 [.string (⟨⟨[91]⟩⟩ : ByteArray)] (.one (.agg [.str, .bool, .bool])) (fun (x132 : ByteArray) (x133 : Bool) (x134 : Bool) =>
 callT Tryz.prog 13 [.string (⟨⟨[42]⟩⟩ : ByteArray)] (.one (.agg [.str, .bool, .bool])) (fun (x135 : ByteArray) (x136 : Bool) (x137 : Bool) =>
 alW (.cells ⟨[.string x132, .bool x133, .bool x134, .string x135, .bool x136, .bool x137]⟩ 29 (0, 0)) (fun b138 =>
 callT Tryz.prog 45 [.pointer f_8, .string (⟨⟨[47]⟩⟩ : ByteArray), .string (⟨⟨[91, 107, 93]⟩⟩ : ByteArray), .slice (some ⟨b138, 0, none⟩) 2 2] kB (fun x139 =>
 brW x139
 (callT Tryz.prog 13 [.string (⟨⟨[42, 47, 122, 122]⟩⟩ : ByteArray)] (.one (.agg [.str, .bool, .bool])) (fun (x140 : ByteArray) (x141 : Bool) (x142 : Bool) =>
 alW (.cells ⟨[.string x140, .bool x141, .bool x142]⟩ 29 (0, 0)) (fun b143 =>
 callT Tryz.prog 45 [.pointer f_8, .string (⟨⟨[47]⟩⟩ : ByteArray), .string (⟨⟨[42, 47, 122, 122]⟩⟩ : ByteArray), .slice (some ⟨b143, 0, none⟩) 1 1] kB (fun x144 =>
 j10 f_8 x144))))
 (j10 f_8 false))))))
 (j10 f_8 false)))))
 (j10 f_8 false)))))
 (j10 f_8 false)))))
 (j10 f_8 false)))))
 (j10 f_8 false)))))
 (j10 f_8 false)))))
 (j10 f_8 false)))))
 (j10 f_8 false)))))
 (j10 f_8 false)))))
 (j10 f_8 false)))))
 (j10 f_8 false)))))
 (j10 f_8 false)))))
 (j10 f_8 false)))))
 (j10 f_8 false)))))
 (j10 f_8 false)))))
 (j10 f_8 false)))))
 (j10 f_8 false))) (fun j7 =>
 alW (.cells ⟨[.string (⟨⟨[97]⟩⟩ : ByteArray), .string (⟨⟨[98]⟩⟩ : ByteArray), .string (⟨⟨[99]⟩⟩ : ByteArray)]⟩ 9 (0, 0)) (fun b145 =>
 callT Tryz.prog 43 [.string (⟨⟨[97, 32, 32, 98]⟩⟩ : ByteArray)] (.one (.agg [.str, .bool, .bool])) (fun (x146 : ByteArray) (x147 : Bool) (x148 : Bool) =>
 callT Tryz.prog 43 [.string (⟨⟨[32]⟩⟩ : ByteArray)] (.one (.agg [.str, .bool, .bool])) (fun (x149 : ByteArray) (x150 : Bool) (x151 : Bool) =>
 callT Tryz.prog 43 [.string (⟨⟨[99]⟩⟩ : ByteArray)] (.one (.agg [.str, .bool, .bool])) (fun (x152 : ByteArray) (x153 : Bool) (x154 : Bool) =>
 alW (.cells ⟨[.string x146, .bool x147, .bool x148, .string x149, .bool x150, .bool x151, .string x152, .bool x153, .bool x154]⟩ 29 (0, 0)) (fun b155 =>
 callT Tryz.prog 42 [.string (⟨⟨[32]⟩⟩ : ByteArray), .slice (some ⟨b145, 0, none⟩) 3 3, .slice (some ⟨b155, 0, none⟩) 3 3] kB (fun x156 =>
 brW x156
 (alW (.cells ⟨[.string (⟨⟨[97, 98]⟩⟩ : ByteArray)]⟩ 9 (0, 0)) (fun b157 =>
 callT Tryz.prog 43 [.string (⟨⟨[97]⟩⟩ : ByteArray)] (.one (.agg [.str, .bool, .bool])) (fun (x158 : ByteArray) (x159 : Bool) (x160 : Bool) =>
 callT Tryz.prog 43 [.string (⟨⟨[98]⟩⟩ : ByteArray)] (.one (.agg [.str, .bool, .bool])) (fun (x161 : ByteArray) (x162 : Bool) (x163 : Bool) =>
 alW (.cells ⟨[.string x158, .bool x159, .bool x160, .string x161, .bool x162, .bool x163]⟩ 29 (0, 0)) (fun b164 =>
 callT Tryz.prog 42 [.string (⟨⟨[32]⟩⟩ : ByteArray), .slice (some ⟨b157, 0, none⟩) 1 1, .slice (some ⟨b164, 0, none⟩) 2 2] kB (fun x165 =>
 brW x165
 (alW (.cells ⟨[.string (⟨⟨[120, 97]⟩⟩ : ByteArray), .string (⟨⟨[98, 121]⟩⟩ : ByteArray)]⟩ 9 (0, 0)) (fun b166 =>
 callT Tryz.prog 13 [.string (⟨⟨[120]⟩⟩ : ByteArray)] (.one (.agg [.str, .bool, .bool])) (fun (x167 : ByteArray) (x168 : Bool) (x169 : Bool) =>
 callT Tryz.prog 43 [.string (⟨⟨[97, 32, 98]⟩⟩ : ByteArray)] (.one (.agg [.str, .bool, .bool])) (fun (x170 : ByteArray) (x171 : Bool) (x172 : Bool) =>
 callT Tryz.prog 13 [.string (⟨⟨[121]⟩⟩ : ByteArray)] (.one (.agg [.str, .bool, .bool])) (fun (x173 : ByteArray) (x174 : Bool) (x175 : Bool) =>
 alW (.cells ⟨[.string x167, .bool x168, .bool x169, .string x170, .bool x171, .bool x172, .string x173, .bool x174, .bool x175]⟩ 29 (0, 0)) (fun b176 =>
 callT Tryz.prog 42 [.string (⟨⟨[32]⟩⟩ : ByteArray), .slice (some ⟨b166, 0, none⟩) 2 2, .slice (some ⟨b176, 0, none⟩) 3 3] kB (fun x177 =>
 brW x177
 (alW (.cells ⟨[.string (⟨⟨[120, 32, 121]⟩⟩ : ByteArray)]⟩ 9 (0, 0)) (fun b178 =>
 callT Tryz.prog 13 [.string (⟨⟨[120, 32, 121]⟩⟩ : ByteArray)] (.one (.agg [.str, .bool, .bool])) (fun (x179 : ByteArray) (x180 : Bool) (x181 : Bool) =>
 alW (.cells ⟨[.string x179, .bool x180, .bool x181]⟩ 29 (0, 0)) (fun b182 =>
 callT Tryz.prog 42 [.string (⟨⟨[32]⟩⟩ : ByteArray), .slice (some ⟨b178, 0, none⟩) 1 1, .slice (some ⟨b182, 0, none⟩) 1 1] kB (fun x183 =>
 brW x183
 (alW (.cells ⟨[.string (⟨⟨[97, 32, 98]⟩⟩ : ByteArray)]⟩ 9 (0, 0)) (fun b184 =>
 callT Tryz.prog 43 [.string (⟨⟨[97, 32, 98]⟩⟩ : ByteArray)] (.one (.agg [.str, .bool, .bool])) (fun (x185 : ByteArray) (x186 : Bool) (x187 : Bool) =>
 alW (.cells ⟨[.string x185, .bool x186, .bool x187]⟩ 29 (0, 0)) (fun b188 =>
 callT Tryz.prog 42 [.string (⟨⟨[]⟩⟩ : ByteArray), .slice (some ⟨b184, 0, none⟩) 1 1, .slice (some ⟨b188, 0, none⟩) 1 1] kB (fun x189 =>
 brW x189
 (alW (.cells ⟨[.string (⟨⟨[]⟩⟩ : ByteArray), .string (⟨⟨[]⟩⟩ : ByteArray)]⟩ 9 (0, 0)) (fun b190 =>
 callT Tryz.prog 43 [.string (⟨⟨[58, 58]⟩⟩ : ByteArray)] (.one (.agg [.str, .bool, .bool])) (fun (x191 : ByteArray) (x192 : Bool) (x193 : Bool) =>
 alW (.cells ⟨[.string x191, .bool x192, .bool x193]⟩ 29 (0, 0)) (fun b194 =>
 callT Tryz.prog 42 [.string (⟨⟨[58]⟩⟩ : ByteArray), .slice (some ⟨b190, 0, none⟩) 2 2, .slice (some ⟨b194, 0, none⟩) 1 1] kB (fun x195 =>
 brW x195
 (alW (.cells ⟨[.string (⟨⟨[97]⟩⟩ : ByteArray), .string (⟨⟨[]⟩⟩ : ByteArray), .string (⟨⟨[98]⟩⟩ : ByteArray)]⟩ 9 (0, 0)) (fun b196 =>
 callT Tryz.prog 43 [.string (⟨⟨[97, 32, 58, 32, 58, 32, 98]⟩⟩ : ByteArray)] (.one (.agg [.str, .bool, .bool])) (fun (x197 : ByteArray) (x198 : Bool) (x199 : Bool) =>
 alW (.cells ⟨[.string x197, .bool x198, .bool x199]⟩ 29 (0, 0)) (fun b200 =>
 callT Tryz.prog 42 [.string (⟨⟨[58, 32]⟩⟩ : ByteArray), .slice (some ⟨b196, 0, none⟩) 3 3, .slice (some ⟨b200, 0, none⟩) 1 1] kB (fun x201 =>
 brW x201
 (alW (.cells ⟨[.string (⟨⟨[]⟩⟩ : ByteArray), .string (⟨⟨[97]⟩⟩ : ByteArray)]⟩ 9 (0, 0)) (fun b202 =>
 callT Tryz.prog 43 [.string (⟨⟨[32, 58, 32, 97, 32, 58, 32]⟩⟩ : ByteArray)] (.one (.agg [.str, .bool, .bool])) (fun (x203 : ByteArray) (x204 : Bool) (x205 : Bool) =>
 alW (.cells ⟨[.string x203, .bool x204, .bool x205]⟩ 29 (0, 0)) (fun b206 =>
 callT Tryz.prog 42 [.string (⟨⟨[58, 32]⟩⟩ : ByteArray), .slice (some ⟨b202, 0, none⟩) 2 2, .slice (some ⟨b206, 0, none⟩) 1 1] kB (fun x207 =>
 brW x207
 (alW (.cells ⟨[.string (⟨⟨[97, 32]⟩⟩ : ByteArray), .string (⟨⟨[98]⟩⟩ : ByteArray)]⟩ 9 (0, 0)) (fun b208 =>
 callT Tryz.prog 43 [.string (⟨⟨[97, 32, 10, 9, 98]⟩⟩ : ByteArray)] (.one (.agg [.str, .bool, .bool])) (fun (x209 : ByteArray) (x210 : Bool) (x211 : Bool) =>
 alW (.cells ⟨[.string x209, .bool x210, .bool x211]⟩ 29 (0, 0)) (fun b212 =>
 callT Tryz.prog 42 [.string (⟨⟨[10, 9]⟩⟩ : ByteArray), .slice (some ⟨b208, 0, none⟩) 2 2, .slice (some ⟨b212, 0, none⟩) 1 1] kB (fun x213 =>
 brW x213
 (alW (.cells ⟨[.string (⟨⟨[97]⟩⟩ : ByteArray), .string (⟨⟨[]⟩⟩ : ByteArray), .string (⟨⟨[98]⟩⟩ : ByteArray)]⟩ 9 (0, 0)) (fun b214 =>
 callT Tryz.prog 43 [.string (⟨⟨[97, 58]⟩⟩ : ByteArray)] (.one (.agg [.str, .bool, .bool])) (fun (x215 : ByteArray) (x216 : Bool) (x217 : Bool) =>
 callT Tryz.prog 44 [.string (⟨⟨[]⟩⟩ : ByteArray)] (.one (.agg [.str, .bool, .bool])) (fun (x218 : ByteArray) (x219 : Bool) (x220 : Bool) =>
 callT Tryz.prog 43 [.string (⟨⟨[58, 98]⟩⟩ : ByteArray)] (.one (.agg [.str, .bool, .bool])) (fun (x221 : ByteArray) (x222 : Bool) (x223 : Bool) =>
 alW (.cells ⟨[.string x215, .bool x216, .bool x217, .string x218, .bool x219, .bool x220, .string x221, .bool x222, .bool x223]⟩ 29 (0, 0)) (fun b224 =>
 callT Tryz.prog 42 [.string (⟨⟨[58]⟩⟩ : ByteArray), .slice (some ⟨b214, 0, none⟩) 3 3, .slice (some ⟨b224, 0, none⟩) 3 3] kB (fun x225 =>
 brW x225
 (alW (.cells ⟨[.string (⟨⟨[]⟩⟩ : ByteArray), .string (⟨⟨[97]⟩⟩ : ByteArray)]⟩ 9 (0, 0)) (fun b226 =>
 callT Tryz.prog 44 [.string (⟨⟨[]⟩⟩ : ByteArray)] (.one (.agg [.str, .bool, .bool])) (fun (x227 : ByteArray) (x228 : Bool) (x229 : Bool) =>
 callT Tryz.prog 43 [.string (⟨⟨[32, 97]⟩⟩ : ByteArray)] (.one (.agg [.str, .bool, .bool])) (fun (x230 : ByteArray) (x231 : Bool) (x232 : Bool) =>
 alW (.cells ⟨[.string x227, .bool x228, .bool x229, .string x230, .bool x231, .bool x232]⟩ 29 (0, 0)) (fun b233 =>
 callT Tryz.prog 42 [.string (⟨⟨[32]⟩⟩ : ByteArray), .slice (some ⟨b226, 0, none⟩) 2 2, .slice (some ⟨b233, 0, none⟩) 2 2] kB (fun x234 =>
 brW x234
 (callT Tryz.prog 43 [.string (⟨⟨[32, 32, 32]⟩⟩ : ByteArray)] (.one (.agg [.str, .bool, .bool])) (fun (x235 : ByteArray) (x236 : Bool) (x237 : Bool) =>
 callT Tryz.prog 13 [.string (⟨⟨[]⟩⟩ : ByteArray)] (.one (.agg [.str, .bool, .bool])) (fun (x238 : ByteArray) (x239 : Bool) (x240 : Bool) =>
 alW (.cells ⟨[.string x235, .bool x236, .bool x237, .string x238, .bool x239, .bool x240]⟩ 29 (0, 0)) (fun b241 =>
 callT Tryz.prog 42 [.string (⟨⟨[32]⟩⟩ : ByteArray), .slice none 0 0, .slice (some ⟨b241, 0, none⟩) 2 2] kB (fun x242 =>
 brW x242
 (alW (.cells ⟨[.string (⟨⟨[97]⟩⟩ : ByteArray), .string (⟨⟨[98]⟩⟩ : ByteArray)]⟩ 9 (0, 0)) (fun b243 =>
 callT Tryz.prog 43 [.string (⟨⟨[97, 120, 98]⟩⟩ : ByteArray)] (.one (.agg [.str, .bool, .bool])) (fun (x244 : ByteArray) (x245 : Bool) (x246 : Bool) =>
 alW (.cells ⟨[.string x244, .bool x245, .bool x246]⟩ 29 (0, 0)) (fun b247 =>
 callT Tryz.prog 42 [.string (⟨⟨[120]⟩⟩ : ByteArray), .slice (some ⟨b243, 0, none⟩) 2 2, .slice (some ⟨b247, 0, none⟩) 1 1] kB (fun x248 =>
 brW x248
 (callT Tryz.prog 43 [.string (⟨⟨[97, 32, 98]⟩⟩ : ByteArray)] (.one (.agg [.str, .bool, .bool])) (fun (x249 : ByteArray) (x250 : Bool) (x251 : Bool) =>
 alW (.cells ⟨[.string x249, .bool x250, .bool x251]⟩ 29 (0, 0)) (fun b252 =>
 alW (.cells ⟨[]⟩ 29 (0, 0)) (fun b253 =>
 callT Tryz.prog 44 [.string (⟨⟨[]⟩⟩ : ByteArray)] (.one (.agg [.str, .bool, .bool])) (fun (x254 : ByteArray) (x255 : Bool) (x256 : Bool) =>
 alW (.cells ⟨[.string x254, .bool x255, .bool x256]⟩ 29 (0, 0)) (fun b257 =>
 callT Tryz.prog 43 [.string (⟨⟨[99]⟩⟩ : ByteArray)] (.one (.agg [.str, .bool, .bool])) (fun (x258 : ByteArray) (x259 : Bool) (x260 : Bool) =>
 alW (.cells ⟨[.string x258, .bool x259, .bool x260]⟩ 29 (0, 0)) (fun b261 =>
 alW (.cells ⟨[.slice (some ⟨b252, 0, none⟩) 1 1, .slice (some ⟨b253, 0, none⟩) 0 0, .slice (some ⟨b257, 0, none⟩) 1 1, .slice (some ⟨b261, 0, none⟩) 1 1]⟩ 31 (0, 0)) (fun b262 =>
 callT Tryz.prog 20 [.slice (some ⟨b262, 0, none⟩) 4 4, .string (⟨⟨[32]⟩⟩ : ByteArray)] kL (fun x263 =>
 j7 f_5 ((((x263.len : Nat) : Int) : Int) == 4)))))))))))
 (j7 f_5 false))))))
 (j7 f_5 false))))))
 (j7 f_5 false)))))))
 (j7 f_5 false))))))))
 (j7 f_5 false))))))
 (j7 f_5 false))))))
 (j7 f_5 false))))))
 (j7 f_5 false))))))
 (j7 f_5 false))))))
 (j7 f_5 false))))))
 (j7 f_5 false))))))))
 (j7 f_5 false)))))))
 (j7 f_5 false)))))))))) (fun j4 =>
 brW x2.isNone
 (j4 x2 true)
 (callT Tryz.prog 41 [.pointer x2, .string (⟨⟨[47]⟩⟩ : ByteArray), .string (⟨⟨[97]⟩⟩ : ByteArray), .string (⟨⟨[108]⟩⟩ : ByteArray)] kI (fun (x264 : Int) =>
 brW ((x264 : Int) != 0)
 (j4 x2 true)
 (callT Tryz.prog 41 [.pointer x2, .string (⟨⟨[47]⟩⟩ : ByteArray), .string (⟨⟨[122, 122]⟩⟩ : ByteArray), .string (⟨⟨[110]⟩⟩ : ByteArray)] kI (fun (x265 : Int) =>
 j4 x2 ((x265 : Int) != 0))))))))
theorem e8  (K : KH) : bodyF Tryz.prog tau Tryz.f8 an8 [] K = g8  K := by kernel_rfl
theorem c8  {K : KH} {σ : H} (h : g8  K σ) : callW Tryz.prog 8 [] K σ := call_of_body mixed Tryz.func8 (by rw [e8]; exact h)


def an11 : Ann := (.seq none (.reg [] []) (.seq none (.reg [] []) (.seq none (.reg [] []) (.seq none (.reg [] []) .leaf))))
def g11  (K : KH) : H -> Prop :=
 callT Tryz.prog 28 [] kP (fun x1 =>
 brW (!x1.isNone)
 (alW (.cells ⟨[.string (⟨⟨[97]⟩⟩ : ByteArray), .string (⟨⟨[98]⟩⟩ : ByteArray)]⟩ 9 (0, 0)) (fun b2 =>
 callT Tryz.prog 43 [.string (⟨⟨[97, 32, 98]⟩⟩ : ByteArray)] (.one (.agg [.str, .bool, .bool])) (fun (x3 : ByteArray) (x4 : Bool) (x5 : Bool) =>
 alW (.cells ⟨[.string x3, .bool x4, .bool x5]⟩ 29 (0, 0)) (fun b6 =>
 callT Tryz.prog 42 [.string (⟨⟨[32, 58]⟩⟩ : ByteArray), .slice (some ⟨b2, 0, none⟩) 2 2, .slice (some ⟨b6, 0, none⟩) 1 1] kB (fun x7 =>
 brW x7
 (alW (.cells ⟨[.string (⟨⟨[97]⟩⟩ : ByteArray)]⟩ 9 (0, 0)) (fun b8 =>
 callT Tryz.prog 43 [.string (⟨⟨[32, 97, 32]⟩⟩ : ByteArray)] (.one (.agg [.str, .bool, .bool])) (fun (x9 : ByteArray) (x10 : Bool) (x11 : Bool) =>
 alW (.cells ⟨[.string x9, .bool x10, .bool x11]⟩ 29 (0, 0)) (fun b12 =>
 callT Tryz.prog 42 [.string (⟨⟨[32, 58]⟩⟩ : ByteArray), .slice (some ⟨b8, 0, none⟩) 1 1, .slice (some ⟨b12, 0, none⟩) 1 1] kB (fun x13 =>
 brW x13
 (alW (.cells ⟨[.string (⟨⟨[97]⟩⟩ : ByteArray), .string (⟨⟨[98]⟩⟩ : ByteArray)]⟩ 9 (0, 0)) (fun b14 =>
 callT Tryz.prog 43 [.string (⟨⟨[97, 32, 58, 32, 98]⟩⟩ : ByteArray)] (.one (.agg [.str, .bool, .bool])) (fun (x15 : ByteArray) (x16 : Bool) (x17 : Bool) =>
 alW (.cells ⟨[.string x15, .bool x16, .bool x17]⟩ 29 (0, 0)) (fun b18 =>
 callT Tryz.prog 42 [.string (⟨⟨[32, 58]⟩⟩ : ByteArray), .slice (some ⟨b14, 0, none⟩) 2 2, .slice (some ⟨b18, 0, none⟩) 1 1] kB (fun x19 =>
 brW x19
 (alW (.cells ⟨[.string (⟨⟨[97]⟩⟩ : ByteArray), .string (⟨⟨[]⟩⟩ : ByteArray), .string (⟨⟨[98]⟩⟩ : ByteArray)]⟩ 9 (0, 0)) (fun b20 =>
 callT Tryz.prog 43 [.string (⟨⟨[97, 58, 58, 98]⟩⟩ : ByteArray)] (.one (.agg [.str, .bool, .bool])) (fun (x21 : ByteArray) (x22 : Bool) (x23 : Bool) =>
 alW (.cells ⟨[.string x21, .bool x22, .bool x23]⟩ 29 (0, 0)) (fun b24 =>
 callT Tryz.prog 42 [.string (⟨⟨[32, 58]⟩⟩ : ByteArray), .slice (some ⟨b20, 0, none⟩) 3 3, .slice (some ⟨b24, 0, none⟩) 1 1] kB (fun x25 =>
 brW x25
 (alW (.cells ⟨[.string (⟨⟨[]⟩⟩ : ByteArray), .string (⟨⟨[97]⟩⟩ : ByteArray)]⟩ 9 (0, 0)) (fun b26 =>
 callT Tryz.prog 43 [.string (⟨⟨[58, 97, 58]⟩⟩ : ByteArray)] (.one (.agg [.str, .bool, .bool])) (fun (x27 : ByteArray) (x28 : Bool) (x29 : Bool) =>
 alW (.cells ⟨[.string x27, .bool x28, .bool x29]⟩ 29 (0, 0)) (fun b30 =>
 callT Tryz.prog 42 [.string (⟨⟨[32, 58]⟩⟩ : ByteArray), .slice (some ⟨b26, 0, none⟩) 2 2, .slice (some ⟨b30, 0, none⟩) 1 1] kB (fun x31 =>
 brW x31
 (callT Tryz.prog 43 [.string (⟨⟨[]⟩⟩ : ByteArray)] (.one (.agg [.str, .bool, .bool])) (fun (x32 : ByteArray) (x33 : Bool) (x34 : Bool) =>
 alW (.cells ⟨[.string x32, .bool x33, .bool x34]⟩ 29 (0, 0)) (fun b35 =>
 callT Tryz.prog 42 [.string (⟨⟨[32, 58]⟩⟩ : ByteArray), .slice none 0 0, .slice (some ⟨b35, 0, none⟩) 1 1] kB (fun x36 =>
 brW x36
 (alW (.cells ⟨[.string (⟨⟨[]⟩⟩ : ByteArray)]⟩ 9 (0, 0)) (fun b37 =>
 callT Tryz.prog 44 [.string (⟨⟨[]⟩⟩ : ByteArray)] (.one (.agg [.str, .bool, .bool])) (fun (x38 : ByteArray) (x39 : Bool) (x40 : Bool) =>
 alW (.cells ⟨[.string x38, .bool x39, .bool x40]⟩ 29 (0, 0)) (fun b41 =>
 callT Tryz.prog 42 [.string (⟨⟨[32, 58]⟩⟩ : ByteArray), .slice (some ⟨b37, 0, none⟩) 1 1, .slice (some ⟨b41, 0, none⟩) 1 1] kB (fun x42 =>
 brW x42
 (alW (.cells ⟨[.string (⟨⟨[97]⟩⟩ : ByteArray), .string (⟨⟨[]⟩⟩ : ByteArray), .string (⟨⟨[98]⟩⟩ : ByteArray)]⟩ 9 (0, 0)) (fun b43 =>
 callT Tryz.prog 43 [.string (⟨⟨[97, 32]⟩⟩ : ByteArray)] (.one (.agg [.str, .bool, .bool])) (fun (x44 : ByteArray) (x45 : Bool) (x46 : Bool) =>
 callT Tryz.prog 44 [.string (⟨⟨[]⟩⟩ : ByteArray)] (.one (.agg [.str, .bool, .bool])) (fun (x47 : ByteArray) (x48 : Bool) (x49 : Bool) =>
 callT Tryz.prog 43 [.string (⟨⟨[32, 98]⟩⟩ : ByteArray)] (.one (.agg [.str, .bool, .bool])) (fun (x50 : ByteArray) (x51 : Bool) (x52 : Bool) =>
 alW (.cells ⟨[.string x44, .bool x45, .bool x46, .string x47, .bool x48, .bool x49, .string x50, .bool x51, .bool x52]⟩ 29 (0, 0)) (fun b53 =>
 callT Tryz.prog 42 [.string (⟨⟨[32, 58]⟩⟩ : ByteArray), .slice (some ⟨b43, 0, none⟩) 3 3, .slice (some ⟨b53, 0, none⟩) 3 3] kB (fun x54 =>
 brW x54
 (alW (.cells ⟨[.string (⟨⟨[32, 120, 32]⟩⟩ : ByteArray)]⟩ 9 (0, 0)) (fun b55 =>
 callT Tryz.prog 44 [.string (⟨⟨[32, 120, 32]⟩⟩ : ByteArray)] (.one (.agg [.str, .bool, .bool])) (fun (x56 : ByteArray) (x57 : Bool) (x58 : Bool) =>
 alW (.cells ⟨[.string x56, .bool x57, .bool x58]⟩ 29 (0, 0)) (fun b59 =>
 callT Tryz.prog 42 [.string (⟨⟨[32, 58]⟩⟩ : ByteArray), .slice (some ⟨b55, 0, none⟩) 1 1, .slice (some ⟨b59, 0, none⟩) 1 1] kB (fun x60 =>
 brW x60
 (callT Tryz.prog 13 [.string (⟨⟨[97, 42]⟩⟩ : ByteArray)] (.one (.agg [.str, .bool, .bool])) (fun (x61 : ByteArray) (x62 : Bool) (x63 : Bool) =>
 alW (.cells ⟨[.string x61, .bool x62, .bool x63]⟩ 29 (0, 0)) (fun b64 =>
 callT Tryz.prog 45 [.pointer x1, .string (⟨⟨[47]⟩⟩ : ByteArray), .string (⟨⟨[97, 98, 32, 97, 99]⟩⟩ : ByteArray), .slice (some ⟨b64, 0, none⟩) 1 1] kB (fun x65 =>
 brW x65
 (callT Tryz.prog 13 [.string (⟨⟨[42]⟩⟩ : ByteArray)] (.one (.agg [.str, .bool, .bool])) (fun (x66 : ByteArray) (x67 : Bool) (x68 : Bool) =>
 alW (.cells ⟨[.string x66, .bool x67, .bool x68]⟩ 29 (0, 0)) (fun b69 =>
 callT Tryz.prog 45 [.pointer x1, .string (⟨⟨[47]⟩⟩ : ByteArray), .string (⟨⟨[97, 98, 32, 97, 99, 32, 100]⟩⟩ : ByteArray), .slice (some ⟨b69, 0, none⟩) 1 1] kB (fun x70 =>
 brW x70
 (callT Tryz.prog 13 [.string (⟨⟨[46, 42]⟩⟩ : ByteArray)] (.one (.agg [.str, .bool, .bool])) (fun (x71 : ByteArray) (x72 : Bool) (x73 : Bool) =>
 alW (.cells ⟨[.string x71, .bool x72, .bool x73]⟩ 29 (0, 0)) (fun b74 =>
 callT Tryz.prog 45 [.pointer x1, .string (⟨⟨[47]⟩⟩ : ByteArray), .string (⟨⟨[46, 97, 100]⟩⟩ : ByteArray), .slice (some ⟨b74, 0, none⟩) 1 1] kB (fun x75 =>
 brW x75
 (callT Tryz.prog 13 [.string (⟨⟨[42, 47, 97, 98]⟩⟩ : ByteArray)] (.one (.agg [.str, .bool, .bool])) (fun (x76 : ByteArray) (x77 : Bool) (x78 : Bool) =>
 alW (.cells ⟨[.string x76, .bool x77, .bool x78]⟩ 29 (0, 0)) (fun b79 =>
 callT Tryz.prog 45 [.pointer x1, .string (⟨⟨[47]⟩⟩ : ByteArray), .string (⟨⟨[100, 47, 97, 98]⟩⟩ : ByteArray), .slice (some ⟨b79, 0, none⟩) 1 1] kB (fun x80 =>
 brW x80
 (callT Tryz.prog 13 [.string (⟨⟨[122, 42]⟩⟩ : ByteArray)] (.one (.agg [.str, .bool, .bool])) (fun (x81 : ByteArray) (x82 : Bool) (x83 : Bool) =>
 alW (.cells ⟨[.string x81, .bool x82, .bool x83]⟩ 29 (0, 0)) (fun b84 =>
 callT Tryz.prog 45 [.pointer x1, .string (⟨⟨[47]⟩⟩ : ByteArray), .string (⟨⟨[122, 42]⟩⟩ : ByteArray), .slice (some ⟨b84, 0, none⟩) 1 1] kB (fun x85 =>
 brW x85
 (callT Tryz.prog 44 [.string (⟨⟨[97]⟩⟩ : ByteArray)] (.one (.agg [.str, .bool, .bool])) (fun (x86 : ByteArray) (x87 : Bool) (x88 : Bool) =>
 callT Tryz.prog 13 [.string (⟨⟨[63]⟩⟩ : ByteArray)] (.one (.agg [.str, .bool, .bool])) (fun (x89 : ByteArray) (x90 : Bool) (x91 : Bool) =>
 alW (.cells ⟨[.string x86, .bool x87, .bool x88, .string x89, .bool x90, .bool x91]⟩ 29 (0, 0)) (fun b92 =>
 callT Tryz.prog 45 [.pointer x1, .string (⟨⟨[47]⟩⟩ : ByteArray), .string (⟨⟨[97, 98, 32, 97, 99]⟩⟩ : ByteArray), .slice (some ⟨b92, 0, none⟩) 2 2] kB (fun x93 =>
 K (.bool x93))))))
 (K (.bool false))))))
 (K (.bool false))))))
 (K (.bool false))))))
 (K (.bool false))))))
 (K (.bool false))))))
 (K (.bool false)))))))
 (K (.bool false)))))))))
 (K (.bool false)))))))
 (K (.bool false))))))
 (K (.bool false)))))))
 (K (.bool false)))))))
 (K (.bool false)))))))
 (K (.bool false)))))))
 (K (.bool false)))))))
 (K (.bool false)))
theorem e11  (K : KH) : bodyF Tryz.prog tau Tryz.f11 an11 [] K = g11  K := by kernel_rfl
theorem c11  {K : KH} {σ : H} (h : g11  K σ) : callW Tryz.prog 11 [] K σ := call_of_body mixed Tryz.func11 (by rw [e11]; exact h)


def an12 : Ann := (.seq none (.reg [] []) (.seq none (.reg [] []) (.seq none (.reg [0, 2, 1, 3, 4, 5] [[], [0], [], [0, 1, 2], [0, 1, 2, 3], [0, 1, 2, 3, 4]]) (.seq none (.seq (some [(0, .sc .slc), (5, .sc .ptr), (6, .sc .ptr), (19, .sc .bool)]) (.reg [] []) (.cond (.seq none (.reg [] []) .leaf) .leaf)) (.seq none (.seq none (.reg [] []) (.blk (.loop [(0, .sc .slc), (5, .sc .ptr), (6, .sc .ptr), (7, .sc (.int .i64))] (.seq none (.seq (some [(0, .sc .slc), (5, .sc .ptr), (6, .sc .ptr), (7, .sc (.int .i64)), (25, .sc .raw), (26, .sc .raw), (27, .sc .bool)]) (.reg [] []) (.cond .leaf .leaf)) (.seq (some [(0, .sc .slc), (5, .sc .ptr), (6, .sc .ptr), (7, .sc (.int .i64)), (25, .sc .raw), (26, .sc .raw), (45, .sc .raw), (46, .sc .raw), (47, .sc .raw), (48, .sc .raw), (49, .sc .raw), (50, .sc .raw)]) (.blk (.seq none (.reg [0, 1, 2, 3, 4, 5, 6, 7, 8, 9, 10, 11] [[], [], [0, 1], [0, 1, 2], [], [], [4, 5], [4, 5, 6], [4, 5, 6, 7], [4, 5, 6, 7, 8], [0, 1, 2, 3, 4, 5, 6, 7, 8, 9], [0, 1, 2, 3, 4, 5, 6, 7, 8, 9, 10]]) (.seq (some [(0, .sc .slc), (5, .sc .ptr), (6, .sc .ptr), (7, .sc (.int .i64)), (8, .sc .str), (25, .sc .raw), (26, .sc .raw), (45, .sc .raw), (46, .sc .raw), (47, .sc .raw), (48, .sc .raw), (49, .sc .raw), (50, .sc .raw), (51, .sc .bool)]) (.reg [] []) (.cond (.seq none (.reg [] []) (.cond (.seq none (.reg [] []) .leaf) .leaf)) (.seq none (.reg [] []) (.cond (.seq none (.reg [] []) .leaf) .leaf)))))) (.reg [] [])))))) (.seq none (.reg [] []) .leaf))))))
def g12 (paths_1 : Sl) (K : KH) : H -> Prop :=
 alW (.cells ⟨[.int .i64 0, .int .i64 0]⟩ 64 (0, 0)) (fun b2 =>
 stW Tryz.prog 64 (.pointer (some ⟨b2, 0, none⟩)) (.agg ⟨[.int .i64 40, .int .i64 100]⟩) (rdT (rdA 2 b2 0) (.one (.agg [(.int .i64), (.int .i64)])) (fun (x3 : Int) (x4 : Int) =>
 rdT (rdA 2 b2 0) (.one (.agg [(.int .i64), (.int .i64)])) (fun (x5 : Int) (x6 : Int) =>
 callT Tryz.prog 31 [.agg ⟨[.int .i64 x3, .int .i64 x4]⟩] kP (fun x7 =>
 andW (fun σ => (rdA 2 b2 0) σ = some (.agg ⟨[.int .i64 x5, .int .i64 x6]⟩))
 (callT Tryz.prog 32 [.agg ⟨[.int .i64 x5, .int .i64 x6]⟩] kP (fun x8 =>
 letJ (T := Sl -> Option Addr -> Option Addr -> Bool -> H -> Prop) (fun paths_10 f_11 r_12 x13 =>
 brW x13
 (K (.tuple ⟨[.pointer none, .pointer none]⟩))
 (loopW [.sc .slc, .sc .ptr, .sc .ptr, .sc (.int .i64)] (fun (R14 : Sl -> Option Addr -> Option Addr -> Int -> H -> Prop) => (fun (paths_15 : Sl) (f_16 : Option Addr) (r_17 : Option Addr) (i_18 : Int) =>
 letJ (T := Sl -> Option Addr -> Option Addr -> Int -> Value -> Value -> Bool -> H -> Prop) (fun paths_20 f_21 r_22 i_23 x24 x25 x26 =>
 brW x26
 (letJ (T := Sl -> Option Addr -> Option Addr -> Int -> Value -> Value -> Value -> Value -> Value -> Value -> Value -> Value -> H -> Prop) (fun paths_28 f_29 r_30 i_31 _x32 _x33 _x34 _x35 _x36 _x37 _x38 _x39 =>
 R14 paths_28 f_29 r_30 (IntKind.i64.wrap (i_31 + 1))) (fun j27 =>
 ptrW paths_20.base (fun b40 o41 =>
 ifW (0 <= i_23 /\ i_23 < ((paths_20.len : Nat) : Int))
 (rdT (rdC b40 (o41 + i_23.toNat * 1)) kS (fun (x42 : ByteArray) =>
 ptrW paths_20.base (fun b43 o44 =>
 ifW (0 <= i_23 /\ i_23 < ((paths_20.len : Nat) : Int))
 (rdT (rdC b43 (o44 + i_23.toNat * 1)) kS (fun (x45 : ByteArray) =>
 ifW (bndOk (some (if 40 < ((x45.size : Nat) : Int) then 40 else ((x45.size : Nat) : Int))) x42.size /\ bndOk none ((if 40 < ((x45.size : Nat) : Int) then 40 else ((x45.size : Nat) : Int)).toNat))
 (letJ (T := Sl -> Option Addr -> Option Addr -> Int -> ByteArray -> Value -> Value -> Value -> Value -> Value -> Value -> Value -> Value -> Bool -> H -> Prop) (fun paths_47 f_48 r_49 i_50 p_51 x52 x53 x54 x55 x56 x57 x58 x59 x60 =>
 brW x60
 (callT Tryz.prog 48 [.pointer f_48, .string (⟨⟨[47]⟩⟩ : ByteArray), .string p_51] kI (fun (x61 : Int) =>
 callT Tryz.prog 63 [.pointer r_49, .string (⟨⟨[47]⟩⟩ : ByteArray), .string p_51] kI (fun (x62 : Int) =>
 brW ((x61 : Int) != x62)
 (K (.tuple ⟨[.pointer none, .pointer none]⟩))
 (j27 paths_47 f_48 r_49 i_50 x52 x53 x54 x55 x56 x57 x58 x59))))
 (callT Tryz.prog 47 [.pointer f_48, .string (⟨⟨[47]⟩⟩ : ByteArray), .string p_51, .string (⟨⟨[]⟩⟩ : ByteArray), .bool false] kI (fun (x63 : Int) =>
 callT Tryz.prog 64 [.pointer r_49, .string (⟨⟨[47]⟩⟩ : ByteArray), .string p_51, .string (⟨⟨[]⟩⟩ : ByteArray), .bool false] kI (fun (x64 : Int) =>
 brW ((x63 : Int) != x64)
 (K (.tuple ⟨[.pointer none, .pointer none]⟩))
 (j27 paths_47 f_48 r_49 i_50 x52 x53 x54 x55 x56 x57 x58 x59))))) (fun j46 =>
 brW (decide (((((x42.extract 0 ((if 40 < ((x45.size : Nat) : Int) then 40 else ((x45.size : Nat) : Int)).toNat)).size : Nat) : Int) : Int) > 0))
 (idxW (x42.extract 0 ((if 40 < ((x45.size : Nat) : Int) then 40 else ((x45.size : Nat) : Int)).toNat)) (IntKind.i64.wrap ((((x42.extract 0 ((if 40 < ((x45.size : Nat) : Int) then 40 else ((x45.size : Nat) : Int)).toNat)).size : Nat) : Int) - 1)) (fun c65 =>
 j46 paths_20 f_21 r_22 i_23 (x42.extract 0 ((if 40 < ((x45.size : Nat) : Int) then 40 else ((x45.size : Nat) : Int)).toNat)) x24 x25 (.string (x42.extract 0 ((if 40 < ((x45.size : Nat) : Int) then 40 else ((x45.size : Nat) : Int)).toNat))) (.string (x42.extract 0 ((if 40 < ((x45.size : Nat) : Int) then 40 else ((x45.size : Nat) : Int)).toNat))) (.int .i64 (((x42.extract 0 ((if 40 < ((x45.size : Nat) : Int) then 40 else ((x45.size : Nat) : Int)).toNat)).size : Nat) : Int)) (.int .i64 (IntKind.i64.wrap ((((x42.extract 0 ((if 40 < ((x45.size : Nat) : Int) then 40 else ((x45.size : Nat) : Int)).toNat)).size : Nat) : Int) - 1))) (.int .u8 (c65.toNat : Int)) (.bool (((c65.toNat : Int) : Int) == 47)) (((c65.toNat : Int) : Int) == 47)))
 (j46 paths_20 f_21 r_22 i_23 (x42.extract 0 ((if 40 < ((x45.size : Nat) : Int) then 40 else ((x45.size : Nat) : Int)).toNat)) x24 x25 (.tuple ⟨[]⟩) (.tuple ⟨[]⟩) (.tuple ⟨[]⟩) (.tuple ⟨[]⟩) (.tuple ⟨[]⟩) (.tuple ⟨[]⟩) false)))))))))))
 (K (.tuple ⟨[.pointer f_21, .pointer r_22]⟩))) (fun j19 =>
 brW (decide ((i_18 : Int) < ((paths_15.len : Nat) : Int)))
 (j19 paths_15 f_16 r_17 i_18 (.int .i64 i_18) (.bool (decide ((i_18 : Int) < 20))) (decide ((i_18 : Int) < 20)))
 (j19 paths_15 f_16 r_17 i_18 (.tuple ⟨[]⟩) (.tuple ⟨[]⟩) false)))) (fun (R66 : Sl -> Option Addr -> Option Addr -> Int -> H -> Prop) => R66 paths_10 f_11 r_12 0))) (fun j9 =>
 brW x7.isNone
 (j9 paths_1 x7 x8 true)
 (j9 paths_1 x7 x8 x8.isNone)))))))))
theorem e12 (paths_1 : Sl) (K : KH) : bodyF Tryz.prog tau Tryz.f12 an12 [.slice paths_1.base paths_1.len paths_1.cap] K = g12 paths_1 K := by kernel_rfl
theorem c12 (paths_1 : Sl) {K : KH} {σ : H} (h : g12 paths_1 K σ) : callW Tryz.prog 12 [.slice paths_1.base paths_1.len paths_1.cap] K σ := call_of_body mixed Tryz.func12 (by rw [e12]; exact h)


def an13 : Ann := (.seq none (.reg [] []) (.seq none (.reg [] []) .leaf))
def g13 (s_1 : ByteArray) (K : KH) : H -> Prop :=
 alW (.cells ⟨[.string (⟨⟨[]⟩⟩ : ByteArray), .bool false, .bool false]⟩ 29 (0, 0)) (fun b2 =>
 stW Tryz.prog 29 (.pointer (some ⟨b2, 0, none⟩)) (.agg ⟨[.string s_1, .bool false, .bool false]⟩) (rdT (rdA 3 b2 0) (.one (.agg [.str, .bool, .bool])) (fun (r3 : ByteArray) (r4 : Bool) (r5 : Bool) =>
 K (.agg ⟨[.string r3, .bool r4, .bool r5]⟩))))
theorem e13 (s_1 : ByteArray) (K : KH) : bodyF Tryz.prog tau Tryz.f13 an13 [.string s_1] K = g13 s_1 K := by kernel_rfl
theorem c13 (s_1 : ByteArray) {K : KH} {σ : H} (h : g13 s_1 K σ) : callW Tryz.prog 13 [.string s_1] K σ := call_of_body mixed Tryz.func13 (by rw [e13]; exact h)


def an14 : Ann := (.seq none (.reg [] []) (.seq none (.seq none (.reg [] []) (.cond (.seq none (.reg [] []) .leaf) .leaf)) (.seq none (.reg [] []) (.seq none (.reg [] []) (.seq (some [(6, .sc .slc), (8, .sc .ptr)]) (.seq none (.reg [] []) (.cond (.reg [] []) .leaf)) (.seq none (.reg [0, 1, 2, 3, 4, 5, 6] [[], [], [1], [1, 2], [1, 2, 3], [0], [0, 1, 2, 3, 4, 5]]) .leaf))))))
def g14 (f_1 : Option Addr) (cwd_2 : ByteArray) (r_3 : Sl) (K : KH) : H -> Prop :=
 callT Tryz.prog 65 [.slice r_3.base r_3.len r_3.cap] kB (fun x4 =>
 brW (!x4)
 (callT Tryz.prog 27 [.slice r_3.base r_3.len r_3.cap] kS (fun (x5 : ByteArray) =>
 alW (.cells ⟨[.string x5]⟩ 9 (0, 0)) (fun b6 =>
 K (.tuple ⟨[.slice (some ⟨b6, 0, none⟩) 1 1, .int .i64 0]⟩))))
 (alW (.cells ⟨[.pointer f_1, .string cwd_2, .int .i64 0]⟩ 97 (0, 0)) (fun b7 =>
 callT Tryz.prog 68 [.slice r_3.base r_3.len r_3.cap] kL (fun x8 =>
 callT Tryz.prog 67 [.pointer (some ⟨b7, 0, none⟩), .string (⟨⟨[]⟩⟩ : ByteArray), .slice x8.base x8.len x8.cap] kR (fun x9 =>
 callT Tryz.prog 66 [x9] kL (fun x10 =>
 letJ (T := Sl -> Option Addr -> H -> Prop) (fun names_12 s_13 =>
 ptrW s_13 (fun b14 o15 =>
 rdT (rdC b14 (o15 + 2)) kI (fun (x16 : Int) =>
 K (.tuple ⟨[.slice names_12.base names_12.len names_12.cap, .int .i64 x16]⟩)))) (fun j11 =>
 brW ((((x10.len : Nat) : Int) : Int) == 0)
 (callT Tryz.prog 27 [.slice r_3.base r_3.len r_3.cap] kS (fun (x17 : ByteArray) =>
 alW (.cells ⟨[.string x17]⟩ 9 (0, 0)) (fun b18 =>
 j11 ⟨(some ⟨b18, 0, none⟩), 1, 1⟩ (some ⟨b7, 0, none⟩))))
 (j11 x10 (some ⟨b7, 0, none⟩)))))))))
theorem e14 (f_1 : Option Addr) (cwd_2 : ByteArray) (r_3 : Sl) (K : KH) : bodyF Tryz.prog tau Tryz.f14 an14 [.pointer f_1, .string cwd_2, .slice r_3.base r_3.len r_3.cap] K = g14 f_1 cwd_2 r_3 K := by kernel_rfl
theorem c14 (f_1 : Option Addr) (cwd_2 : ByteArray) (r_3 : Sl) {K : KH} {σ : H} (h : g14 f_1 cwd_2 r_3 K σ) : callW Tryz.prog 14 [.pointer f_1, .string cwd_2, .slice r_3.base r_3.len r_3.cap] K σ := call_of_body mixed Tryz.func14 (by rw [e14]; exact h)


def an15 : Ann := (.seq none (.reg [] []) (.seq none (.reg [] []) (.seq none (.reg [] []) .leaf)))
def g15 (f_1 : Option Addr) (cwd_2 : ByteArray) (path_3 : ByteArray) (follow_4 : Bool) (K : KH) : H -> Prop :=
 alW (.cells ⟨[.int .i64 0, .int .i64 0, .string (⟨⟨[]⟩⟩ : ByteArray), .int .i64 0]⟩ 35 (0, 0)) (fun b5 =>
 callT Tryz.prog 69 [.pointer f_1, .string cwd_2, .string path_3, .bool follow_4, .func (.func 70) ⟨[]⟩ ⟨[.pointer (some ⟨b5, 0, none⟩)]⟩] kI (fun (x6 : Int) =>
 rdT (rdA 4 b5 0) (.one (.agg [(.int .i64), (.int .i64), .str, (.int .i64)])) (fun (x7 : Int) (x8 : Int) (x9 : ByteArray) (x10 : Int) =>
 stW Tryz.prog 35 (.pointer (some ⟨b5, 0, none⟩)) (.agg ⟨[.int .i64 x7, .int .i64 x8, .string x9, .int .i64 x10]⟩) (rdT (rdA 4 b5 0) (.one (.agg [(.int .i64), (.int .i64), .str, (.int .i64)])) (fun (r11 : Int) (r12 : Int) (r13 : ByteArray) (r14 : Int) =>
 K (.tuple ⟨[.agg ⟨[.int .i64 r11, .int .i64 r12, .string r13, .int .i64 r14]⟩, .int .i64 x6]⟩))))))
theorem e15 (f_1 : Option Addr) (cwd_2 : ByteArray) (path_3 : ByteArray) (follow_4 : Bool) (K : KH) : bodyF Tryz.prog tau Tryz.f15 an15 [.pointer f_1, .string cwd_2, .string path_3, .bool follow_4] K = g15 f_1 cwd_2 path_3 follow_4 K := by kernel_rfl
theorem c15 (f_1 : Option Addr) (cwd_2 : ByteArray) (path_3 : ByteArray) (follow_4 : Bool) {K : KH} {σ : H} (h : g15 f_1 cwd_2 path_3 follow_4 K σ) : callW Tryz.prog 15 [.pointer f_1, .string cwd_2, .string path_3, .bool follow_4] K σ := call_of_body mixed Tryz.func15 (by rw [e15]; exact h)


def an17 : Ann := (.seq none (.reg [] []) (.seq none (.reg [] []) (.seq none (.reg [] []) .leaf)))
def g17 (f_1 : Option Addr) (cwd_2 : ByteArray) (path_3 : ByteArray) (K : KH) : H -> Prop :=
 alW (.cells ⟨[.pointer f_1]⟩ 24 (0, 0)) (fun b4 =>
 alW (.cells ⟨[.slice none 0 0]⟩ 22 (0, 0)) (fun b5 =>
 rdT (rdC b4 0) kP (fun x6 =>
 callT Tryz.prog 69 [.pointer x6, .string cwd_2, .string path_3, .bool true, .func (.func 72) ⟨[]⟩ ⟨[.pointer (some ⟨b4, 0, none⟩), .pointer (some ⟨b5, 0, none⟩)]⟩] kI (fun (x7 : Int) =>
 rdT (rdC b5 0) kL (fun x8 =>
 stW Tryz.prog 22 (.pointer (some ⟨b5, 0, none⟩)) (.slice x8.base x8.len x8.cap) (rdT (rdC b5 0) kL (fun r9 =>
 K (.tuple ⟨[.slice r9.base r9.len r9.cap, .int .i64 x7]⟩))))))))
theorem e17 (f_1 : Option Addr) (cwd_2 : ByteArray) (path_3 : ByteArray) (K : KH) : bodyF Tryz.prog tau Tryz.f17 an17 [.pointer f_1, .string cwd_2, .string path_3] K = g17 f_1 cwd_2 path_3 K := by kernel_rfl
theorem c17 (f_1 : Option Addr) (cwd_2 : ByteArray) (path_3 : ByteArray) {K : KH} {σ : H} (h : g17 f_1 cwd_2 path_3 K σ) : callW Tryz.prog 17 [.pointer f_1, .string cwd_2, .string path_3] K σ := call_of_body mixed Tryz.func17 (by rw [e17]; exact h)


def an20 : Ann := (.seq none (.reg [] []) (.seq none (.reg [] []) (.seq none (.reg [] []) (.seq none (.seq none (.reg [] []) (.blk (.loop [(5, .sc .ptr), (6, .sc .slc), (11, .sc .slc), (12, .sc (.int .i64)), (13, .sc (.int .i64))] (.seq none (.reg [] []) (.seq none (.cond .leaf .leaf) (.seq none (.blk (.seq none (.reg [] []) (.reg [] []))) (.reg [] []))))))) (.seq none (.reg [] []) .leaf)))))
def g20 (l_1 : Sl) (ifs_2 : ByteArray) (K : KH) : H -> Prop :=
 callT Tryz.prog 74 [.string ifs_2] kR (fun x3 =>
 alW (.cells ⟨[.int .i64 0, .int .i64 0, .int .i64 0, .int .i64 0, .int .i64 0, .int .i64 0, .int .i64 0, .int .i64 0, .int .i64 0, .int .i64 0, .int .i64 0, .int .i64 0, .int .i64 0, .int .i64 0, .int .i64 0, .int .i64 0, .int .i64 0, .int .i64 0, .int .i64 0, .int .i64 0, .int .i64 0, .int .i64 0, .int .i64 0, .int .i64 0, .int .i64 0, .int .i64 0, .int .i64 0, .int .i64 0, .int .i64 0, .int .i64 0, .int .i64 0, .int .i64 0, .int .i64 0, .int .i64 0, .int .i64 0, .int .i64 0, .int .i64 0, .int .i64 0, .int .i64 0, .int .i64 0, .int .i64 0, .int .i64 0, .int .i64 0, .int .i64 0, .int .i64 0, .int .i64 0, .int .i64 0, .int .i64 0, .int .i64 0, .int .i64 0, .int .i64 0, .int .i64 0, .int .i64 0, .int .i64 0, .int .i64 0, .int .i64 0, .int .i64 0, .int .i64 0, .int .i64 0, .int .i64 0, .int .i64 0, .int .i64 0, .int .i64 0, .int .i64 0, .int .i64 0, .int .i64 0, .int .i64 0, .int .i64 0, .int .i64 0, .int .i64 0, .int .i64 0, .int .i64 0, .int .i64 0, .int .i64 0, .int .i64 0, .int .i64 0, .int .i64 0, .int .i64 0, .int .i64 0, .int .i64 0, .int .i64 0, .int .i64 0, .int .i64 0, .int .i64 0, .int .i64 0, .int .i64 0, .int .i64 0, .int .i64 0, .int .i64 0, .int .i64 0, .int .i64 0, .int .i64 0, .int .i64 0, .int .i64 0, .int .i64 0, .int .i64 0, .int .i64 0, .int .i64 0, .int .i64 0, .int .i64 0, .int .i64 0, .int .i64 0, .int .i64 0, .int .i64 0, .int .i64 0, .int .i64 0, .int .i64 0, .int .i64 0, .int .i64 0, .int .i64 0, .int .i64 0, .int .i64 0, .int .i64 0, .int .i64 0, .int .i64 0, .int .i64 0, .int .i64 0, .int .i64 0, .int .i64 0, .int .i64 0, .int .i64 0, .int .i64 0, .int .i64 0, .int .i64 0, .int .i64 0, .int .i64 0, .int .i64 0, .int .i64 0, .int .i64 0, .int .i64 0, .int .i64 0, .int .i64 0, .int .i64 0, .int .i64 0, .int .i64 0, .int .i64 0, .int .i64 0, .int .i64 0, .int .i64 0, .int .i64 0, .int .i64 0, .int .i64 0, .int .i64 0, .int .i64 0, .int .i64 0, .int .i64 0, .int .i64 0, .int .i64 0, .int .i64 0, .int .i64 0, .int .i64 0, .int .i64 0, .int .i64 0, .int .i64 0, .int .i64 0, .int .i64 0, .int .i64 0, .int .i64 0, .int .i64 0, .int .i64 0, .int .i64 0, .int .i64 0, .int .i64 0, .int .i64 0, .int .i64 0, .int .i64 0, .int .i64 0, .int .i64 0, .int .i64 0, .int .i64 0, .int .i64 0, .int .i64 0, .int .i64 0, .int .i64 0, .int .i64 0, .int .i64 0, .int .i64 0, .int .i64 0, .int .i64 0, .int .i64 0, .int .i64 0, .int .i64 0, .int .i64 0, .int .i64 0, .int .i64 0, .int .i64 0, .int .i64 0, .int .i64 0, .int .i64 0, .int .i64 0, .int .i64 0, .int .i64 0, .int .i64 0, .int .i64 0, .int .i64 0, .int .i64 0, .int .i64 0, .int .i64 0, .int .i64 0, .int .i64 0, .int .i64 0, .int .i64 0, .int .i64 0, .int .i64 0, .int .i64 0, .int .i64 0, .int .i64 0, .int .i64 0, .int .i64 0, .int .i64 0, .int .i64 0, .int .i64 0, .int .i64 0, .int .i64 0, .int .i64 0, .int .i64 0, .int .i64 0, .int .i64 0, .int .i64 0, .int .i64 0, .int .i64 0, .int .i64 0, .int .i64 0, .int .i64 0, .int .i64 0, .int .i64 0, .int .i64 0, .int .i64 0, .int .i64 0, .int .i64 0, .int .i64 0, .int .i64 0, .int .i64 0, .int .i64 0, .int .i64 0, .int .i64 0, .int .i64 0, .int .i64 0, .int .i64 0, .int .i64 0, .int .i64 0, .int .i64 0, .int .i64 0, .int .i64 0, .int .i64 0, .int .i64 0, .int .i64 0, .int .i64 0, .int .i64 0, .int .i64 0, .int .i64 0, .int .i64 0, .int .i64 0, .int .i64 0, .int .i64 0, .int .i64 0]⟩ 111 (0, 0)) (fun b4 =>
 stW Tryz.prog 111 (.pointer (some ⟨b4, 0, none⟩)) (x3) (loopW [.sc .ptr, .sc .slc, .sc .slc, .sc (.int .i64), .sc (.int .i64)] (fun (R5 : Option Addr -> Sl -> Sl -> Int -> Int -> H -> Prop) => (fun (class_6 : Option Addr) (out_7 : Sl) (x8 : Sl) (x9 : Int) (x10 : Int) =>
 brW (decide ((x10 : Int) < x9))
 (ptrW x8.base (fun b11 o12 =>
 ifW (0 <= x10 /\ x10 < ((x8.len : Nat) : Int))
 (rdT (rdC b11 (o12 + x10.toNat * 1)) kL (fun x13 =>
 callT Tryz.prog 75 [.slice x13.base x13.len x13.cap, .pointer class_6] kL (fun x14 =>
 biW Tryz.prog .append #[44, 44] 44 [false, false] [.slice out_7.base out_7.len out_7.cap, .slice x14.base x14.len x14.cap] kL (fun x15 =>
 R5 class_6 x15 x8 x9 (IntKind.i64.wrap (x10 + 1))))))))
 (K (.slice out_7.base out_7.len out_7.cap)))) (fun (R16 : Option Addr -> Sl -> Sl -> Int -> Int -> H -> Prop) => R16 (some ⟨b4, 0, none⟩) ⟨none, 0, 0⟩ l_1 ((l_1.len : Nat) : Int) 0))))
theorem e20 (l_1 : Sl) (ifs_2 : ByteArray) (K : KH) : bodyF Tryz.prog tau Tryz.f20 an20 [.slice l_1.base l_1.len l_1.cap, .string ifs_2] K = g20 l_1 ifs_2 K := by kernel_rfl
theorem c20 (l_1 : Sl) (ifs_2 : ByteArray) {K : KH} {σ : H} (h : g20 l_1 ifs_2 K σ) : callW Tryz.prog 20 [.slice l_1.base l_1.len l_1.cap, .string ifs_2] K σ := call_of_body mixed Tryz.func20 (by rw [e20]; exact h)


def an22 : Ann := (.seq none (.reg [] []) (.seq none (.reg [] []) (.seq none (.seq none (.reg [] []) (.blk (.loop [(3, .sc .slc), (6, .sc .slc), (7, .sc (.int .i64)), (8, .sc (.int .i64))] (.seq none (.reg [] []) (.seq none (.cond .leaf .leaf) (.seq none (.blk (.seq none (.reg [] []) (.reg [] []))) (.reg [] []))))))) (.seq none (.reg [] []) .leaf))))
def g22 (l_1 : Sl) (K : KH) : H -> Prop :=
 loopW [.sc .slc, .sc .slc, .sc (.int .i64), .sc (.int .i64)] (fun (R2 : Sl -> Sl -> Int -> Int -> H -> Prop) => (fun (out_3 : Sl) (x4 : Sl) (x5 : Int) (x6 : Int) =>
 brW (decide ((x6 : Int) < x5))
 (ptrW x4.base (fun b7 o8 =>
 ifW (0 <= x6 /\ x6 < ((x4.len : Nat) : Int))
 (rdT (rdC b7 (o8 + x6.toNat * 1)) kL (fun x9 =>
 callT Tryz.prog 27 [.slice x9.base x9.len x9.cap] kS (fun (x10 : ByteArray) =>
 alW (.cells ⟨[.string x10]⟩ 9 (0, 0)) (fun b11 =>
 biW Tryz.prog .append #[22, 22] 22 [false, false] [.slice out_3.base out_3.len out_3.cap, .slice (some ⟨b11, 0, none⟩) 1 1] kL (fun x12 =>
 R2 x12 x4 x5 (IntKind.i64.wrap (x6 + 1)))))))))
 (callT Tryz.prog 46 [.slice out_3.base out_3.len out_3.cap, .string (⟨⟨[32]⟩⟩ : ByteArray)] kS (fun (x13 : ByteArray) =>
 K (.string x13))))) (fun (R14 : Sl -> Sl -> Int -> Int -> H -> Prop) => R14 ⟨none, 0, 0⟩ l_1 ((l_1.len : Nat) : Int) 0)
theorem e22 (l_1 : Sl) (K : KH) : bodyF Tryz.prog tau Tryz.f22 an22 [.slice l_1.base l_1.len l_1.cap] K = g22 l_1 K := by kernel_rfl
theorem c22 (l_1 : Sl) {K : KH} {σ : H} (h : g22 l_1 K σ) : callW Tryz.prog 22 [.slice l_1.base l_1.len l_1.cap] K σ := call_of_body mixed Tryz.func22 (by rw [e22]; exact h)


def an26 : Ann := (.seq none (.reg [] []) (.seq none (.reg [] []) .leaf))
def g26 (s_1 : ByteArray) (c_2 : Int) (K : KH) : H -> Prop :=
 callT Tryz.prog 79 [.string s_1, .int .u8 c_2] kI (fun (x3 : Int) =>
 K (.int .i64 x3))
theorem e26 (s_1 : ByteArray) (c_2 : Int) (K : KH) : bodyF Tryz.prog tau Tryz.f26 an26 [.string s_1, .int .u8 c_2] K = g26 s_1 c_2 K := by kernel_rfl
theorem c26 (s_1 : ByteArray) (c_2 : Int) {K : KH} {σ : H} (h : g26 s_1 c_2 K σ) : callW Tryz.prog 26 [.string s_1, .int .u8 c_2] K σ := call_of_body mixed Tryz.func26 (by rw [e26]; exact h)


def an27 : Ann := (.seq none (.reg [] []) (.seq none (.reg [] []) (.seq none (.seq none (.reg [] []) (.blk (.loop [(3, .sc .ptr), (6, .sc .slc), (7, .sc (.int .i64)), (8, .sc (.int .i64))] (.seq none (.reg [] []) (.seq none (.cond .leaf .leaf) (.seq none (.blk (.seq none (.reg [] []) (.reg [] []))) (.reg [] []))))))) (.seq none (.reg [] []) .leaf))))
def g27 (p_1 : Sl) (K : KH) : H -> Prop :=
 alW (.cells ⟨[.pointer none, .slice none 0 0]⟩ 121 (0, 0)) (fun b2 =>
 loopW [.sc .ptr, .sc .slc, .sc (.int .i64), .sc (.int .i64)] (fun (R3 : Option Addr -> Sl -> Int -> Int -> H -> Prop) => (fun (b_4 : Option Addr) (x5 : Sl) (x6 : Int) (x7 : Int) =>
 brW (decide ((x7 : Int) < x6))
 (ptrW x5.base (fun b8 o9 =>
 ifW (0 <= x7 /\ x7 < ((x5.len : Nat) : Int))
 (rdT (rdA 3 b8 (o9 + x7.toNat * 3)) (.one (.agg [.str, .bool, .bool])) (fun (x10 : ByteArray) (x11 : Bool) (x12 : Bool) =>
 alW (.cells ⟨[.string (⟨⟨[]⟩⟩ : ByteArray), .bool false, .bool false]⟩ 29 (0, 0)) (fun b13 =>
 stW Tryz.prog 29 (.pointer (some ⟨b13, 0, none⟩)) (.agg ⟨[.string x10, .bool x11, .bool x12]⟩) (rdT (rdC b13 0) kS (fun (x14 : ByteArray) =>
 callT Tryz.prog 80 [.pointer b_4, .string x14] (.tup [.sc (.int .i64), .sc .raw]) (fun (_x15 : Int) (_x16 : Value) =>
 R3 b_4 x5 x6 (IntKind.i64.wrap (x7 + 1))))))))))
 (callT Tryz.prog 81 [.pointer b_4] kS (fun (x17 : ByteArray) =>
 K (.string x17))))) (fun (R18 : Option Addr -> Sl -> Int -> Int -> H -> Prop) => R18 (some ⟨b2, 0, none⟩) p_1 ((p_1.len : Nat) : Int) 0))
theorem e27 (p_1 : Sl) (K : KH) : bodyF Tryz.prog tau Tryz.f27 an27 [.slice p_1.base p_1.len p_1.cap] K = g27 p_1 K := by kernel_rfl
theorem c27 (p_1 : Sl) {K : KH} {σ : H} (h : g27 p_1 K σ) : callW Tryz.prog 27 [.slice p_1.base p_1.len p_1.cap] K σ := call_of_body mixed Tryz.func27 (by rw [e27]; exact h)


def an28 : Ann := (.seq none (.reg [] []) (.seq none (.reg [] []) (.seq none (.reg [] []) .leaf)))
def g28  (K : KH) : H -> Prop :=
 alW (.cells ⟨[.string (⟨⟨[97, 98]⟩⟩ : ByteArray), .string (⟨⟨[97, 99]⟩⟩ : ByteArray), .string (⟨⟨[46, 97, 100]⟩⟩ : ByteArray), .string (⟨⟨[100, 47]⟩⟩ : ByteArray), .string (⟨⟨[100, 47, 97, 98]⟩⟩ : ByteArray)]⟩ 9 (0, 0)) (fun b1 =>
 callT Tryz.prog 12 [.slice (some ⟨b1, 0, none⟩) 5 5] (.tup [.sc .ptr, .sc .ptr]) (fun x2 _x3 =>
 K (.pointer x2)))
theorem e28  (K : KH) : bodyF Tryz.prog tau Tryz.f28 an28 [] K = g28  K := by kernel_rfl
theorem c28  {K : KH} {σ : H} (h : g28  K σ) : callW Tryz.prog 28 [] K σ := call_of_body mixed Tryz.func28 (by rw [e28]; exact h)


def an29 : Ann := (.seq none (.reg [] []) (.seq none (.seq none (.reg [] []) (.blk (.loop [(0, .sc .ptr), (1, .sc .str), (8, .sc .slc), (9, .sc (.int .i64)), (16, .sc .slc), (17, .sc (.int .i64)), (18, .sc (.int .i64))] (.seq none (.reg [] []) (.seq none (.cond .leaf .leaf) (.seq none (.blk (.seq none (.reg [] []) (.seq none (.reg [] []) (.seq none (.reg [] []) (.reg [] []))))) (.reg [] []))))))) (.seq none (.reg [] []) .leaf)))
def g29 (f_1 : Option Addr) (cwd_2 : ByteArray) (l_3 : Sl) (ifs_4 : ByteArray) (K : KH) : H -> Prop :=
 callT Tryz.prog 20 [.slice l_3.base l_3.len l_3.cap, .string ifs_4] kL (fun x5 =>
 loopW [.sc .ptr, .sc .str, .sc .slc, .sc (.int .i64), .sc .slc, .sc (.int .i64), .sc (.int .i64)] (fun (R6 : Option Addr -> ByteArray -> Sl -> Int -> Sl -> Int -> Int -> H -> Prop) => (fun (f_7 : Option Addr) (cwd_8 : ByteArray) (out_9 : Sl) (looked_10 : Int) (x11 : Sl) (x12 : Int) (x13 : Int) =>
 brW (decide ((x13 : Int) < x12))
 (ptrW x11.base (fun b14 o15 =>
 ifW (0 <= x13 /\ x13 < ((x11.len : Nat) : Int))
 (rdT (rdC b14 (o15 + x13.toNat * 1)) kL (fun x16 =>
 callT Tryz.prog 14 [.pointer f_7, .string cwd_8, .slice x16.base x16.len x16.cap] (.tup [.sc .slc, .sc (.int .i64)]) (fun (x17 : Sl) (x18 : Int) =>
 biW Tryz.prog .append #[22, 22] 22 [false, false] [.slice out_9.base out_9.len out_9.cap, .slice x17.base x17.len x17.cap] kL (fun x19 =>
 R6 f_7 cwd_8 x19 (IntKind.i64.wrap (looked_10 + x18)) x11 x12 (IntKind.i64.wrap (x13 + 1))))))))
 (K (.tuple ⟨[.slice out_9.base out_9.len out_9.cap, .int .i64 looked_10]⟩)))) (fun (R20 : Option Addr -> ByteArray -> Sl -> Int -> Sl -> Int -> Int -> H -> Prop) => R20 f_1 cwd_2 ⟨none, 0, 0⟩ 0 x5 ((x5.len : Nat) : Int) 0))
theorem e29 (f_1 : Option Addr) (cwd_2 : ByteArray) (l_3 : Sl) (ifs_4 : ByteArray) (K : KH) : bodyF Tryz.prog tau Tryz.f29 an29 [.pointer f_1, .string cwd_2, .slice l_3.base l_3.len l_3.cap, .string ifs_4] K = g29 f_1 cwd_2 l_3 ifs_4 K := by kernel_rfl
theorem c29 (f_1 : Option Addr) (cwd_2 : ByteArray) (l_3 : Sl) (ifs_4 : ByteArray) {K : KH} {σ : H} (h : g29 f_1 cwd_2 l_3 ifs_4 K σ) : callW Tryz.prog 29 [.pointer f_1, .string cwd_2, .slice l_3.base l_3.len l_3.cap, .string ifs_4] K σ := call_of_body mixed Tryz.func29 (by rw [e29]; exact h)


def an31 : Ann := (.seq none (.reg [] []) (.seq none (.reg [] []) (.seq none (.seq none (.reg [] []) (.cond (.seq none (.reg [] []) .leaf) .leaf)) (.seq none (.reg [] []) .leaf))))
def g31 (q_1 : Int) (q_2 : Int) (K : KH) : H -> Prop :=
 alW (.cells ⟨[.int .i64 q_1, .int .i64 q_2]⟩ 64 (0, 0)) (fun b3 =>
 rdT (rdA 2 b3 0) (.one (.agg [(.int .i64), (.int .i64)])) (fun (x4 : Int) (x5 : Int) =>
 callT Tryz.prog 82 [.agg ⟨[.int .i64 x4, .int .i64 x5]⟩] kP (fun x6 =>
 brW x6.isNone
 (K (.pointer none))
 (alW (.cells ⟨[.pointer x6]⟩ 110 (0, 0)) (fun b7 =>
 K (.pointer (some ⟨b7, 0, none⟩)))))))
theorem e31 (q_1 : Int) (q_2 : Int) (K : KH) : bodyF Tryz.prog tau Tryz.f31 an31 [.agg ⟨[.int .i64 q_1, .int .i64 q_2]⟩] K = g31 q_1 q_2 K := by kernel_rfl
theorem c31 (q_1 : Int) (q_2 : Int) {K : KH} {σ : H} (h : g31 q_1 q_2 K σ) : callW Tryz.prog 31 [.agg ⟨[.int .i64 q_1, .int .i64 q_2]⟩] K σ := call_of_body mixed Tryz.func31 (by rw [e31]; exact h)


def an32 : Ann := (.seq none (.reg [] []) (.seq none (.seq (some [(1, .sc .ptr), (20, .sc .bool)]) (.reg [] []) (.cond (.seq none (.reg [] []) .leaf) .leaf)) (.seq none (.reg [] []) .leaf)))
def g32 (q_1 : Int) (q_2 : Int) (K : KH) : H -> Prop :=
 alW (.cells ⟨[.int .i64 q_1, .int .i64 q_2]⟩ 64 (0, 0)) (fun b3 =>
 letJ (T := Option Addr -> Bool -> H -> Prop) (fun q_5 x6 =>
 brW x6
 (K (.pointer none))
 (ptrW q_5 (fun b7 o8 =>
 rdT (rdA 2 b7 o8) (.one (.agg [(.int .i64), (.int .i64)])) (fun (x9 : Int) (x10 : Int) =>
 alW (.cells ⟨[.int .i64 2, .int .i64 493, .string (⟨⟨[]⟩⟩ : ByteArray), .slice none 0 0, .int .i64 0]⟩ 131 (0, 0)) (fun b11 =>
 alW (.cells ⟨[.pointer (some ⟨b11, 0, none⟩)]⟩ 128 (0, 0)) (fun b12 =>
 alW (.cells ⟨[.int .i64 x9, .int .i64 x10, .slice (some ⟨b12, 0, none⟩) 1 1]⟩ 134 (0, 0)) (fun b13 =>
 K (.pointer (some ⟨b13, 0, none⟩))))))))) (fun j4 =>
 rdT (rdC b3 0) kI (fun (x14 : Int) =>
 brW (decide ((x14 : Int) < 1))
 (j4 (some ⟨b3, 0, none⟩) true)
 (rdT (rdC b3 0) kI (fun (x15 : Int) =>
 brW (decide ((x15 : Int) > 1048576))
 (j4 (some ⟨b3, 0, none⟩) true)
 (rdT (rdC b3 1) kI (fun (x16 : Int) =>
 brW (decide ((x16 : Int) < 0))
 (j4 (some ⟨b3, 0, none⟩) true)
 (rdT (rdC b3 1) kI (fun (x17 : Int) =>
 j4 (some ⟨b3, 0, none⟩) (decide ((x17 : Int) > 1073741824)))))))))))
theorem e32 (q_1 : Int) (q_2 : Int) (K : KH) : bodyF Tryz.prog tau Tryz.f32 an32 [.agg ⟨[.int .i64 q_1, .int .i64 q_2]⟩] K = g32 q_1 q_2 K := by kernel_rfl
theorem c32 (q_1 : Int) (q_2 : Int) {K : KH} {σ : H} (h : g32 q_1 q_2 K σ) : callW Tryz.prog 32 [.agg ⟨[.int .i64 q_1, .int .i64 q_2]⟩] K σ := call_of_body mixed Tryz.func32 (by rw [e32]; exact h)


def an40 : Ann := (.seq none (.reg [] []) (.seq none (.reg [] []) (.seq none (.seq none (.reg [] []) (.blk (.loop [(0, .sc .ptr), (2, .sc .ptr), (3, .sc .ptr), (4, .sc (.int .i64))] (.seq none (.seq none (.reg [] []) (.cond .leaf .leaf)) (.seq (some [(0, .sc .ptr), (2, .sc .ptr), (3, .sc .ptr), (4, .sc (.int .i64))]) (.blk (.seq none (.reg [] []) (.cond (.seq none (.reg [] []) (.reg [0, 1, 2, 3, 4, 5, 6, 7, 8, 9, 10, 11, 12, 13, 14, 15] [[], [0], [], [2], [2, 3], [2, 3, 4], [], [2, 3, 4, 5, 6], [2, 3, 4, 5, 6, 7], [2, 3, 4, 5, 6, 7, 8], [2, 3, 4, 5, 6, 7, 8, 9], [2, 3, 4, 5, 6, 7, 8, 9, 10], [2, 3, 4, 5, 6, 7, 8, 9, 10, 11], [0, 1, 2, 3, 4, 5, 6, 7, 8, 9, 10, 11, 12], [0, 1, 2, 3, 4, 5, 6, 7, 8, 9, 10, 11, 12, 13], [0, 1, 2, 3, 4, 5, 6, 7, 8, 9, 10, 11, 12, 13, 14]])) .leaf))) (.reg [] [])))))) (.seq none (.reg [] []) .leaf))))
def g40 (f_1 : Option Addr) (K : KH) : H -> Prop :=
 alW (.cells ⟨[.int .i64 0, .int .i64 0]⟩ 64 (0, 0)) (fun b2 =>
 alW (.cells ⟨[.int .i64 0, .int .i64 0]⟩ 64 (0, 0)) (fun b3 =>
 stW Tryz.prog 64 (.pointer (some ⟨b3, 0, none⟩)) (.agg ⟨[.int .i64 0, .int .i64 0]⟩) (loopW [.sc .ptr, .sc .ptr, .sc .ptr, .sc (.int .i64)] (fun (R4 : Option Addr -> Option Addr -> Option Addr -> Int -> H -> Prop) => (fun (f_5 : Option Addr) (x6 : Option Addr) (q_7 : Option Addr) (i_8 : Int) =>
 ptrW f_5 (fun b9 o10 =>
 rdT (rdC b9 (o10 + 2)) kL (fun x11 =>
 brW (decide ((i_8 : Int) < ((x11.len : Nat) : Int)))
 (letJ (T := Option Addr -> Option Addr -> Option Addr -> Int -> H -> Prop) (fun f_13 x14 q_15 i_16 =>
 R4 f_13 x14 q_15 (IntKind.i64.wrap (i_16 + 1))) (fun j12 =>
 ptrW f_5 (fun b17 o18 =>
 rdT (rdC b17 (o18 + 2)) kL (fun x19 =>
 ptrW x19.base (fun b20 o21 =>
 ifW (0 <= i_8 /\ i_8 < ((x19.len : Nat) : Int))
 (rdT (rdC b20 (o21 + i_8.toNat * 1)) kP (fun x22 =>
 brW (!x22.isNone)
 (ptrW q_7 (fun b23 o24 =>
 rdT (rdC b23 o24) kI (fun (x25 : Int) =>
 ptrW q_7 (fun b26 o27 =>
 stW Tryz.prog 3 (.pointer (some ⟨b26, o27, none⟩)) (.int .i64 (IntKind.i64.wrap (x25 + 1))) (ptrW q_7 (fun b28 o29 =>
 rdT (rdC b28 (o29 + 1)) kI (fun (x30 : Int) =>
 ptrW f_5 (fun b31 o32 =>
 rdT (rdC b31 (o32 + 2)) kL (fun x33 =>
 ptrW x33.base (fun b34 o35 =>
 ifW (0 <= i_8 /\ i_8 < ((x33.len : Nat) : Int))
 (rdT (rdC b34 (o35 + i_8.toNat * 1)) kP (fun x36 =>
 ptrW x36 (fun b37 o38 =>
 rdT (rdC b37 (o38 + 2)) kS (fun (x39 : ByteArray) =>
 ptrW q_7 (fun b40 o41 =>
 stW Tryz.prog 3 (.pointer (some ⟨b40, o41 + 1, none⟩)) (.int .i64 (IntKind.i64.wrap (x30 + ((x39.size : Nat) : Int)))) (j12 f_5 x6 q_7 i_8))))))))))))))))
 (j12 f_5 x6 q_7 i_8))))))))
 (ptrW q_7 (fun b42 o43 =>
 rdT (rdA 2 b42 o43) (.one (.agg [(.int .i64), (.int .i64)])) (fun (x44 : Int) (x45 : Int) =>
 stW Tryz.prog 64 (.pointer x6) (.agg ⟨[.int .i64 x44, .int .i64 x45]⟩) (ptrW x6 (fun b46 o47 =>
 rdT (rdA 2 b46 o47) (.one (.agg [(.int .i64), (.int .i64)])) (fun (r48 : Int) (r49 : Int) =>
 K (.agg ⟨[.int .i64 r48, .int .i64 r49]⟩))))))))))) (fun (R50 : Option Addr -> Option Addr -> Option Addr -> Int -> H -> Prop) => R50 f_1 (some ⟨b2, 0, none⟩) (some ⟨b3, 0, none⟩) 0))))
theorem e40 (f_1 : Option Addr) (K : KH) : bodyF Tryz.prog tau Tryz.f40 an40 [.pointer f_1] K = g40 f_1 K := by kernel_rfl
theorem c40 (f_1 : Option Addr) {K : KH} {σ : H} (h : g40 f_1 K σ) : callW Tryz.prog 40 [.pointer f_1] K σ := call_of_body mixed Tryz.func40 (by rw [e40]; exact h)


def an41 : Ann := (.seq none (.reg [] []) (.seq none (.seq none (.reg [] []) (.cond (.seq none (.reg [] []) .leaf) .leaf)) (.seq none (.seq (some [(1, .sc .str), (3, .sc .str), (4, .sc .ptr), (6, .sc .ptr), (22, .sc .bool)]) (.reg [] []) (.cond (.seq none (.reg [] []) .leaf) .leaf)) (.seq none (.reg [] []) .leaf))))
def g41 (f_1 : Option Addr) (cwd_2 : ByteArray) (target_3 : ByteArray) (path_4 : ByteArray) (K : KH) : H -> Prop :=
 alW (.cells ⟨[.pointer f_1]⟩ 24 (0, 0)) (fun b5 =>
 alW (.cells ⟨[.string target_3]⟩ 9 (0, 0)) (fun b6 =>
 rdT (rdC b5 0) kP (fun x7 =>
 callT Tryz.prog 92 [.pointer x7] kB (fun x8 =>
 brW x8
 (K (.int .i64 1))
 (letJ (T := ByteArray -> ByteArray -> Option Addr -> Option Addr -> Bool -> H -> Prop) (fun cwd_10 path_11 f_12 target_13 x14 =>
 brW x14
 (K (.int .i64 2))
 (ptrW f_12 (fun b15 o16 =>
 rdT (rdC b15 o16) kP (fun x17 =>
 callT Tryz.prog 94 [.pointer x17, .string cwd_10, .string path_11, .func (.func 95) ⟨[]⟩ ⟨[.pointer f_12, .pointer target_13]⟩] kI (fun (x18 : Int) =>
 K (.int .i64 x18)))))) (fun j9 =>
 rdT (rdC b6 0) kS (fun (x19 : ByteArray) =>
 brW (strEq x19 (⟨⟨[]⟩⟩ : ByteArray))
 (j9 cwd_2 path_4 (some ⟨b5, 0, none⟩) (some ⟨b6, 0, none⟩) true)
 (rdT (rdC b6 0) kS (fun (x20 : ByteArray) =>
 brW (decide ((((x20.size : Nat) : Int) : Int) > 255))
 (j9 cwd_2 path_4 (some ⟨b5, 0, none⟩) (some ⟨b6, 0, none⟩) true)
 (rdT (rdC b6 0) kS (fun (x21 : ByteArray) =>
 callT Tryz.prog 26 [.string x21, .int .u8 0] kI (fun (x22 : Int) =>
 j9 cwd_2 path_4 (some ⟨b5, 0, none⟩) (some ⟨b6, 0, none⟩) (decide ((x22 : Int) >= 0))))))))))))))
theorem e41 (f_1 : Option Addr) (cwd_2 : ByteArray) (target_3 : ByteArray) (path_4 : ByteArray) (K : KH) : bodyF Tryz.prog tau Tryz.f41 an41 [.pointer f_1, .string cwd_2, .string target_3, .string path_4] K = g41 f_1 cwd_2 target_3 path_4 K := by kernel_rfl
theorem c41 (f_1 : Option Addr) (cwd_2 : ByteArray) (target_3 : ByteArray) (path_4 : ByteArray) {K : KH} {σ : H} (h : g41 f_1 cwd_2 target_3 path_4 K σ) : callW Tryz.prog 41 [.pointer f_1, .string cwd_2, .string target_3, .string path_4] K σ := call_of_body mixed Tryz.func41 (by rw [e41]; exact h)


def an42 : Ann := (.seq none (.reg [] []) (.seq none (.reg [] []) (.seq none (.seq none (.reg [] []) (.cond (.seq none (.reg [] []) .leaf) .leaf)) (.seq none (.seq none (.reg [] []) (.blk (.loop [(1, .sc .slc), (7, .sc .slc), (8, .sc (.int .i64))] (.seq none (.seq none (.reg [] []) (.cond .leaf .leaf)) (.seq none (.blk (.seq none (.reg [0, 1, 2, 3, 5, 6, 7, 8, 4, 9] [[], [], [0, 1], [0, 1, 2], [0, 1, 2, 3], [], [], [5, 6], [5, 6, 7], [0, 1, 2, 3, 4, 5, 6, 7, 8]]) (.cond (.seq none (.reg [] []) .leaf) .leaf))) (.reg [] [])))))) (.seq none (.reg [] []) .leaf)))))
def g42 (ifs_1 : ByteArray) (want_2 : Sl) (r_3 : Sl) (K : KH) : H -> Prop :=
 alW (.cells ⟨[.slice r_3.base r_3.len r_3.cap]⟩ 31 (0, 0)) (fun b4 =>
 callT Tryz.prog 20 [.slice (some ⟨b4, 0, none⟩) 1 1, .string ifs_1] kL (fun x5 =>
 brW ((((x5.len : Nat) : Int) : Int) != ((want_2.len : Nat) : Int))
 (K (.bool false))
 (loopW [.sc .slc, .sc .slc, .sc (.int .i64)] (fun (R6 : Sl -> Sl -> Int -> H -> Prop) => (fun (want_7 : Sl) (l_8 : Sl) (i_9 : Int) =>
 brW (decide ((i_9 : Int) < ((l_8.len : Nat) : Int)))
 (ptrW l_8.base (fun b10 o11 =>
 ifW (0 <= i_9 /\ i_9 < ((l_8.len : Nat) : Int))
 (rdT (rdC b10 (o11 + i_9.toNat * 1)) kL (fun x12 =>
 ptrW want_7.base (fun b13 o14 =>
 ifW (0 <= i_9 /\ i_9 < ((want_7.len : Nat) : Int))
 (rdT (rdC b13 (o14 + i_9.toNat * 1)) kS (fun (x15 : ByteArray) =>
 callT Tryz.prog 27 [.slice x12.base x12.len x12.cap] kS (fun (x16 : ByteArray) =>
 andW (fun σ => (rdC b13 (o14 + i_9.toNat * 1)) σ = some (.string x15))
 (brW (!strEq x16 x15)
 (K (.bool false))
 (R6 want_7 l_8 (IntKind.i64.wrap (i_9 + 1))))))))))))
 (K (.bool true)))) (fun (R17 : Sl -> Sl -> Int -> H -> Prop) => R17 want_2 x5 0))))
theorem e42 (ifs_1 : ByteArray) (want_2 : Sl) (r_3 : Sl) (K : KH) : bodyF Tryz.prog tau Tryz.f42 an42 [.string ifs_1, .slice want_2.base want_2.len want_2.cap, .slice r_3.base r_3.len r_3.cap] K = g42 ifs_1 want_2 r_3 K := by kernel_rfl
theorem c42 (ifs_1 : ByteArray) (want_2 : Sl) (r_3 : Sl) {K : KH} {σ : H} (h : g42 ifs_1 want_2 r_3 K σ) : callW Tryz.prog 42 [.string ifs_1, .slice want_2.base want_2.len want_2.cap, .slice r_3.base r_3.len r_3.cap] K σ := call_of_body mixed Tryz.func42 (by rw [e42]; exact h)


def an43 : Ann := (.seq none (.reg [] []) (.seq none (.reg [] []) .leaf))
def g43 (s_1 : ByteArray) (K : KH) : H -> Prop :=
 alW (.cells ⟨[.string (⟨⟨[]⟩⟩ : ByteArray), .bool false, .bool false]⟩ 29 (0, 0)) (fun b2 =>
 stW Tryz.prog 29 (.pointer (some ⟨b2, 0, none⟩)) (.agg ⟨[.string s_1, .bool false, .bool true]⟩) (rdT (rdA 3 b2 0) (.one (.agg [.str, .bool, .bool])) (fun (r3 : ByteArray) (r4 : Bool) (r5 : Bool) =>
 K (.agg ⟨[.string r3, .bool r4, .bool r5]⟩))))
theorem e43 (s_1 : ByteArray) (K : KH) : bodyF Tryz.prog tau Tryz.f43 an43 [.string s_1] K = g43 s_1 K := by kernel_rfl
theorem c43 (s_1 : ByteArray) {K : KH} {σ : H} (h : g43 s_1 K σ) : callW Tryz.prog 43 [.string s_1] K σ := call_of_body mixed Tryz.func43 (by rw [e43]; exact h)


def an44 : Ann := (.seq none (.reg [] []) (.seq none (.reg [] []) .leaf))
def g44 (s_1 : ByteArray) (K : KH) : H -> Prop :=
 alW (.cells ⟨[.string (⟨⟨[]⟩⟩ : ByteArray), .bool false, .bool false]⟩ 29 (0, 0)) (fun b2 =>
 stW Tryz.prog 29 (.pointer (some ⟨b2, 0, none⟩)) (.agg ⟨[.string s_1, .bool true, .bool false]⟩) (rdT (rdA 3 b2 0) (.one (.agg [.str, .bool, .bool])) (fun (r3 : ByteArray) (r4 : Bool) (r5 : Bool) =>
 K (.agg ⟨[.string r3, .bool r4, .bool r5]⟩))))
theorem e44 (s_1 : ByteArray) (K : KH) : bodyF Tryz.prog tau Tryz.f44 an44 [.string s_1] K = g44 s_1 K := by kernel_rfl
theorem c44 (s_1 : ByteArray) {K : KH} {σ : H} (h : g44 s_1 K σ) : callW Tryz.prog 44 [.string s_1] K σ := call_of_body mixed Tryz.func44 (by rw [e44]; exact h)


def an45 : Ann := (.seq none (.reg [] []) (.seq none (.reg [] []) (.seq none (.reg [] []) .leaf)))
def g45 (f_1 : Option Addr) (cwd_2 : ByteArray) (want_3 : ByteArray) (r_4 : Sl) (K : KH) : H -> Prop :=
 callT Tryz.prog 14 [.pointer f_1, .string cwd_2, .slice r_4.base r_4.len r_4.cap] (.tup [.sc .slc, .sc (.int .i64)]) (fun (x5 : Sl) (_x6 : Int) =>
 callT Tryz.prog 46 [.slice x5.base x5.len x5.cap, .string (⟨⟨[32]⟩⟩ : ByteArray)] kS (fun (x7 : ByteArray) =>
 K (.bool (strEq x7 want_3))))
theorem e45 (f_1 : Option Addr) (cwd_2 : ByteArray) (want_3 : ByteArray) (r_4 : Sl) (K : KH) : bodyF Tryz.prog tau Tryz.f45 an45 [.pointer f_1, .string cwd_2, .string want_3, .slice r_4.base r_4.len r_4.cap] K = g45 f_1 cwd_2 want_3 r_4 K := by kernel_rfl
theorem c45 (f_1 : Option Addr) (cwd_2 : ByteArray) (want_3 : ByteArray) (r_4 : Sl) {K : KH} {σ : H} (h : g45 f_1 cwd_2 want_3 r_4 K σ) : callW Tryz.prog 45 [.pointer f_1, .string cwd_2, .string want_3, .slice r_4.base r_4.len r_4.cap] K σ := call_of_body mixed Tryz.func45 (by rw [e45]; exact h)


def an46 : Ann := (.seq none (.reg [] []) (.seq none (.seq none (.reg [] []) (.blk (.seq none (.reg [] []) (.cond (.seq none (.reg [] []) .leaf) (.seq none (.reg [] []) (.cond (.seq none (.reg [] []) .leaf) .leaf)))))) (.seq none (.reg [] []) (.seq (some [(0, .sc .slc), (1, .sc .str), (5, .sc (.int .i64))]) (.seq none (.reg [] []) (.cond (.seq none (.seq none (.reg [] []) (.cond (.reg [] []) .leaf)) (.reg [] [])) .leaf)) (.seq none (.seq none (.reg [] []) (.blk (.loop [(0, .sc .slc), (1, .sc .str), (5, .sc (.int .i64)), (39, .sc .slc), (40, .sc (.int .i64)), (41, .sc (.int .i64))] (.seq none (.reg [] []) (.seq none (.cond .leaf .leaf) (.seq none (.blk (.seq none (.reg [] []) (.seq none (.seq none (.reg [] []) (.cond (.reg [] []) .leaf)) (.reg [] [])))) (.reg [] []))))))) (.seq none (.reg [] []) (.seq none (.reg [] []) (.seq none (.reg [] []) (.seq none (.seq none (.reg [] []) (.blk (.loop [(1, .sc .str), (8, .sc .ptr), (63, .sc .slc), (64, .sc (.int .i64)), (65, .sc (.int .i64))] (.seq none (.reg [] []) (.seq none (.cond .leaf .leaf) (.seq none (.blk (.seq none (.reg [] []) (.seq none (.reg [] []) (.reg [] [])))) (.reg [] []))))))) (.seq none (.reg [] []) .leaf))))))))))
def g46 (elems_1 : Sl) (sep_2 : ByteArray) (K : KH) : H -> Prop :=
 brW ((((elems_1.len : Nat) : Int) : Int) == 0)
 (K (.string (⟨⟨[]⟩⟩ : ByteArray)))
 (brW ((((elems_1.len : Nat) : Int) : Int) == 1)
 (ptrW elems_1.base (fun b3 o4 =>
 ifW (0 <= (0 : Int) /\ (0 : Int) < ((elems_1.len : Nat) : Int))
 (rdT (rdC b3 (o4 + (0 : Int).toNat * 1)) kS (fun (x5 : ByteArray) =>
 K (.string x5)))))
 (letJ (T := Sl -> ByteArray -> Int -> H -> Prop) (fun elems_7 sep_8 n_9 =>
 loopW [.sc .slc, .sc .str, .sc (.int .i64), .sc .slc, .sc (.int .i64), .sc (.int .i64)] (fun (R10 : Sl -> ByteArray -> Int -> Sl -> Int -> Int -> H -> Prop) => (fun (elems_11 : Sl) (sep_12 : ByteArray) (n_13 : Int) (x14 : Sl) (x15 : Int) (x16 : Int) =>
 brW (decide ((x16 : Int) < x15))
 (ptrW x14.base (fun b17 o18 =>
 ifW (0 <= x16 /\ x16 < ((x14.len : Nat) : Int))
 (rdT (rdC b17 (o18 + x16.toNat * 1)) kS (fun (x19 : ByteArray) =>
 brW (decide ((((x19.size : Nat) : Int) : Int) > (IntKind.i64.wrap (9223372036854775807 - n_13))))
 (nW)
 (R10 elems_11 sep_12 (IntKind.i64.wrap (n_13 + ((x19.size : Nat) : Int))) x14 x15 (IntKind.i64.wrap (x16 + 1)))))))
 (alW (.cells ⟨[.pointer none, .slice none 0 0]⟩ 121 (0, 0)) (fun b20 =>
 callT Tryz.prog 97 [.pointer (some ⟨b20, 0, none⟩), .int .i64 n_13] kU (ptrW elems_11.base (fun b21 o22 =>
 ifW (0 <= (0 : Int) /\ (0 : Int) < ((elems_11.len : Nat) : Int))
 (rdT (rdC b21 (o22 + (0 : Int).toNat * 1)) kS (fun (x23 : ByteArray) =>
 callT Tryz.prog 80 [.pointer (some ⟨b20, 0, none⟩), .string x23] (.tup [.sc (.int .i64), .sc .raw]) (fun (_x24 : Int) (_x25 : Value) =>
 ifW (bndOk none elems_11.cap /\ bndOk (some 1) elems_11.len)
 (loopW [.sc .str, .sc .ptr, .sc .slc, .sc (.int .i64), .sc (.int .i64)] (fun (R26 : ByteArray -> Option Addr -> Sl -> Int -> Int -> H -> Prop) => (fun (sep_27 : ByteArray) (b_28 : Option Addr) (x29 : Sl) (x30 : Int) (x31 : Int) =>
 brW (decide ((x31 : Int) < x30))
 (ptrW x29.base (fun b32 o33 =>
 ifW (0 <= x31 /\ x31 < ((x29.len : Nat) : Int))
 (rdT (rdC b32 (o33 + x31.toNat * 1)) kS (fun (x34 : ByteArray) =>
 callT Tryz.prog 80 [.pointer b_28, .string sep_27] (.tup [.sc (.int .i64), .sc .raw]) (fun (_x35 : Int) (_x36 : Value) =>
 callT Tryz.prog 80 [.pointer b_28, .string x34] (.tup [.sc (.int .i64), .sc .raw]) (fun (_x37 : Int) (_x38 : Value) =>
 R26 sep_27 b_28 x29 x30 (IntKind.i64.wrap (x31 + 1))))))))
 (callT Tryz.prog 81 [.pointer b_28] kS (fun (x39 : ByteArray) =>
 K (.string x39))))) (fun (R40 : ByteArray -> Option Addr -> Sl -> Int -> Int -> H -> Prop) => R40 sep_12 (some ⟨b20, 0, none⟩) ⟨slBase elems_11.base ((1 : Int).toNat) elems_11.cap 1, elems_11.len - ((1 : Int).toNat), elems_11.cap - ((1 : Int).toNat)⟩ ((elems_11.len - ((1 : Int).toNat) : Nat) : Int) 0))))))))))) (fun (R41 : Sl -> ByteArray -> Int -> Sl -> Int -> Int -> H -> Prop) => R41 elems_7 sep_8 n_9 elems_7 ((elems_7.len : Nat) : Int) 0)) (fun j6 =>
 brW (decide ((((sep_2.size : Nat) : Int) : Int) > 0))
 (ifW ((IntKind.i64.wrap (((elems_1.len : Nat) : Int) - 1)) ≠ 0)
 (brW (decide ((((sep_2.size : Nat) : Int) : Int) >= (IntKind.i64.wrap (Int.tdiv 9223372036854775807 (IntKind.i64.wrap (((elems_1.len : Nat) : Int) - 1))))))
 (nW)
 (j6 elems_1 sep_2 (IntKind.i64.wrap (0 + (IntKind.i64.wrap (((sep_2.size : Nat) : Int) * (IntKind.i64.wrap (((elems_1.len : Nat) : Int) - 1)))))))))
 (j6 elems_1 sep_2 0))))
theorem e46 (elems_1 : Sl) (sep_2 : ByteArray) (K : KH) : bodyF Tryz.prog tau Tryz.f46 an46 [.slice elems_1.base elems_1.len elems_1.cap, .string sep_2] K = g46 elems_1 sep_2 K := by kernel_rfl
theorem c46 (elems_1 : Sl) (sep_2 : ByteArray) {K : KH} {σ : H} (h : g46 elems_1 sep_2 K σ) : callW Tryz.prog 46 [.slice elems_1.base elems_1.len elems_1.cap, .string sep_2] K σ := call_of_body mixed Tryz.func46 (by rw [e46]; exact h)


def an47 : Ann := (.seq none (.reg [] []) (.seq none (.reg [] []) (.seq none (.seq none (.reg [] []) (.cond (.seq none (.reg [] []) .leaf) .leaf)) (.seq none (.seq none (.reg [] []) (.cond (.seq none (.reg [0, 1, 2, 3, 4, 5, 6, 7, 8, 9, 10, 11, 12, 13, 14] [[], [0], [0, 1], [0, 1, 2], [], [4], [], [6], [], [0, 1, 2, 3, 4, 5, 6, 7, 8], [0, 1, 2, 3, 4, 5, 6, 7, 8, 9], [0, 1, 2, 3, 4, 5, 6, 7, 8, 9, 10], [0, 1, 2, 3, 4, 5, 6, 7, 8, 9, 10], [0, 1, 2, 3, 4, 5, 6, 7, 8, 9, 10, 11], [0, 1, 2, 3, 4, 5, 6, 7, 8, 9, 10, 11, 12, 13]]) (.seq none (.reg [] []) .leaf)) .leaf)) (.seq none (.reg [0, 1, 2, 3, 4, 5, 6, 7, 8, 9, 10, 11, 12] [[], [0], [0, 1], [0, 1, 2], [], [4], [0, 1, 2, 3, 4, 5], [0, 1, 2, 3, 4, 5, 6], [0, 1, 2, 3, 4, 5, 6, 7], [0, 1, 2, 3, 4, 5, 6, 7], [], [0, 1, 2, 3, 4, 5, 6, 7, 8, 10], [0, 1, 2, 3, 4, 5, 6, 7, 8, 9, 10, 11]]) (.seq none (.seq none (.reg [] []) (.cond (.seq none (.reg [] []) .leaf) .leaf)) (.seq (some [(0, .sc .ptr), (3, .sc .str), (11, .sc .ptr)]) (.seq none (.reg [] []) (.cond (.reg [] []) .leaf)) (.seq none (.reg [0, 1, 2, 3, 4, 5, 6, 7, 8] [[], [0], [0, 1], [0, 1, 2], [], [4], [], [0, 1, 2, 3, 4, 5, 6], [0, 1, 2, 3, 4, 5, 6, 7]]) .leaf))))))))
def g47 (f_1 : Option Addr) (cwd_2 : ByteArray) (path_3 : ByteArray) (data_4 : ByteArray) (more_5 : Bool) (K : KH) : H -> Prop :=
 callT Tryz.prog 98 [.pointer f_1, .string cwd_2, .string path_3, .bool true] (.tup [.agg [(.int .i64), .str, (.int .i64), .bool], .sc (.int .i64)]) (fun (x6 : Int) (x7 : ByteArray) (x8 : Int) (x9 : Bool) (x10 : Int) =>
 alW (.cells ⟨[.int .i64 0, .string (⟨⟨[]⟩⟩ : ByteArray), .int .i64 0, .bool false]⟩ 142 (0, 0)) (fun b11 =>
 stW Tryz.prog 142 (.pointer (some ⟨b11, 0, none⟩)) (.agg ⟨[.int .i64 x6, .string x7, .int .i64 x8, .bool x9]⟩) (brW ((x10 : Int) != 0)
 (K (.int .i64 x10))
 (rdT (rdC b11 3) kB (fun x12 =>
 brW (!x12)
 (ptrW f_1 (fun b13 o14 =>
 rdT (rdC b13 o14) kP (fun x15 =>
 rdT (rdC b11 0) kI (fun (x16 : Int) =>
 rdT (rdC b11 1) kS (fun (x17 : ByteArray) =>
 callT Tryz.prog 96 [.pointer x15, .int .i64 x16, .string x17, .int .i64 1, .int .i64 420, .string data_4] (.tup [.sc (.int .i64), .sc (.int .i64)]) (fun (_x18 : Int) (x19 : Int) =>
 K (.int .i64 x19)))))))
 (ptrW f_1 (fun b20 o21 =>
 rdT (rdC b20 o21) kP (fun x22 =>
 rdT (rdC b11 2) kI (fun (x23 : Int) =>
 callT Tryz.prog 99 [.pointer x22, .int .i64 x23] (.tup [.agg [(.int .i64), (.int .i64), .str, (.int .i64)], .sc .bool]) (fun (x24 : Int) (x25 : Int) (x26 : ByteArray) (x27 : Int) (_x28 : Bool) =>
 alW (.cells ⟨[.int .i64 0, .int .i64 0, .string (⟨⟨[]⟩⟩ : ByteArray), .int .i64 0]⟩ 35 (0, 0)) (fun b29 =>
 stW Tryz.prog 35 (.pointer (some ⟨b29, 0, none⟩)) (.agg ⟨[.int .i64 x24, .int .i64 x25, .string x26, .int .i64 x27]⟩) (rdT (rdC b29 0) kI (fun (x30 : Int) =>
 brW ((x30 : Int) == 2)
 (K (.int .i64 7))
 (letJ (T := Option Addr -> ByteArray -> Option Addr -> H -> Prop) (fun f_32 data_33 p_34 =>
 ptrW f_32 (fun b35 o36 =>
 rdT (rdC b35 o36) kP (fun x37 =>
 ptrW p_34 (fun b38 o39 =>
 rdT (rdC b38 (o39 + 2)) kI (fun (x40 : Int) =>
 callT Tryz.prog 100 [.pointer x37, .int .i64 x40, .string data_33] kI (fun (x41 : Int) =>
 K (.int .i64 x41))))))) (fun j31 =>
 brW more_5
 (rdT (rdC b29 2) kS (fun (x42 : ByteArray) =>
 ifW (x42.size + data_4.size <= 9223372036854775807)
 (j31 f_1 (x42 ++ data_4) (some ⟨b11, 0, none⟩))))
 (j31 f_1 data_4 (some ⟨b11, 0, none⟩)))))))))))))))))
theorem e47 (f_1 : Option Addr) (cwd_2 : ByteArray) (path_3 : ByteArray) (data_4 : ByteArray) (more_5 : Bool) (K : KH) : bodyF Tryz.prog tau Tryz.f47 an47 [.pointer f_1, .string cwd_2, .string path_3, .string data_4, .bool more_5] K = g47 f_1 cwd_2 path_3 data_4 more_5 K := by kernel_rfl
theorem c47 (f_1 : Option Addr) (cwd_2 : ByteArray) (path_3 : ByteArray) (data_4 : ByteArray) (more_5 : Bool) {K : KH} {σ : H} (h : g47 f_1 cwd_2 path_3 data_4 more_5 K σ) : callW Tryz.prog 47 [.pointer f_1, .string cwd_2, .string path_3, .string data_4, .bool more_5] K σ := call_of_body mixed Tryz.func47 (by rw [e47]; exact h)


def an48 : Ann := (.seq none (.reg [] []) (.seq none (.reg [] []) .leaf))
def g48 (f_1 : Option Addr) (cwd_2 : ByteArray) (path_3 : ByteArray) (K : KH) : H -> Prop :=
 alW (.cells ⟨[.pointer f_1]⟩ 24 (0, 0)) (fun b4 =>
 rdT (rdC b4 0) kP (fun x5 =>
 callT Tryz.prog 94 [.pointer x5, .string cwd_2, .string path_3, .func (.func 101) ⟨[]⟩ ⟨[.pointer (some ⟨b4, 0, none⟩)]⟩] kI (fun (x6 : Int) =>
 K (.int .i64 x6))))
theorem e48 (f_1 : Option Addr) (cwd_2 : ByteArray) (path_3 : ByteArray) (K : KH) : bodyF Tryz.prog tau Tryz.f48 an48 [.pointer f_1, .string cwd_2, .string path_3] K = g48 f_1 cwd_2 path_3 K := by kernel_rfl
theorem c48 (f_1 : Option Addr) (cwd_2 : ByteArray) (path_3 : ByteArray) {K : KH} {σ : H} (h : g48 f_1 cwd_2 path_3 K σ) : callW Tryz.prog 48 [.pointer f_1, .string cwd_2, .string path_3] K σ := call_of_body mixed Tryz.func48 (by rw [e48]; exact h)


def an63 : Ann := (.seq none (.reg [] []) (.seq none (.reg [] []) (.seq none (.seq none (.reg [] []) (.cond (.seq none (.reg [] []) .leaf) .leaf)) (.seq none (.seq none (.reg [] []) (.cond (.seq none (.reg [] []) .leaf) .leaf)) (.seq none (.seq none (.reg [] []) (.cond (.seq none (.reg [] []) .leaf) .leaf)) (.seq none (.reg [] []) .leaf))))))
def g63 (f_1 : Option Addr) (cwd_2 : ByteArray) (path_3 : ByteArray) (K : KH) : H -> Prop :=
 callT Tryz.prog 126 [.pointer f_1, .string cwd_2, .string path_3, .bool false] (.tup [.agg [(.int .i64), .str, (.int .i64)], .sc (.int .i64)]) (fun (x4 : Int) (x5 : ByteArray) (x6 : Int) (x7 : Int) =>
 alW (.cells ⟨[.int .i64 0, .string (⟨⟨[]⟩⟩ : ByteArray), .int .i64 0]⟩ 171 (0, 0)) (fun b8 =>
 stW Tryz.prog 171 (.pointer (some ⟨b8, 0, none⟩)) (.agg ⟨[.int .i64 x4, .string x5, .int .i64 x6]⟩) (brW ((x7 : Int) != 0)
 (K (.int .i64 x7))
 (rdT (rdC b8 2) kI (fun (x9 : Int) =>
 brW (decide ((x9 : Int) >= 0))
 (K (.int .i64 6))
 (rdT (rdC b8 0) kI (fun (x10 : Int) =>
 callT Tryz.prog 127 [.pointer f_1, .int .i64 x10] kI (fun (x11 : Int) =>
 brW (decide ((x11 : Int) >= 12))
 (K (.int .i64 3))
 (rdT (rdA 3 b8 0) (.one (.agg [(.int .i64), .str, (.int .i64)])) (fun (x12 : Int) (x13 : ByteArray) (x14 : Int) =>
 callT Tryz.prog 128 [.pointer f_1, .agg ⟨[.int .i64 x12, .string x13, .int .i64 x14]⟩, .int .i64 2, .int .i64 493, .string (⟨⟨[]⟩⟩ : ByteArray)] kI (fun (x15 : Int) =>
 K (.int .i64 x15))))))))))))
theorem e63 (f_1 : Option Addr) (cwd_2 : ByteArray) (path_3 : ByteArray) (K : KH) : bodyF Tryz.prog tau Tryz.f63 an63 [.pointer f_1, .string cwd_2, .string path_3] K = g63 f_1 cwd_2 path_3 K := by kernel_rfl
theorem c63 (f_1 : Option Addr) (cwd_2 : ByteArray) (path_3 : ByteArray) {K : KH} {σ : H} (h : g63 f_1 cwd_2 path_3 K σ) : callW Tryz.prog 63 [.pointer f_1, .string cwd_2, .string path_3] K σ := call_of_body mixed Tryz.func63 (by rw [e63]; exact h)


def an64 : Ann := (.seq none (.reg [] []) (.seq none (.reg [] []) (.seq none (.seq none (.reg [] []) (.cond (.seq none (.reg [] []) .leaf) .leaf)) (.seq none (.seq none (.reg [] []) (.cond (.seq none (.reg [] []) .leaf) .leaf)) (.seq none (.reg [0, 1, 2, 3, 4, 5, 6, 7, 8] [[], [0], [0, 1], [0, 1, 2], [], [4], [0, 1, 2, 3, 4, 5], [0, 1, 2, 3, 4, 5, 6], [0, 1, 2, 3, 4, 5, 6, 7]]) (.seq none (.seq none (.reg [] []) (.cond (.seq none (.reg [] []) .leaf) .leaf)) (.seq (some [(0, .sc .ptr), (3, .sc .str), (13, .sc .ptr)]) (.seq none (.reg [] []) (.cond (.reg [] []) .leaf)) (.seq none (.seq none (.reg [] []) (.cond (.seq none (.reg [] []) .leaf) .leaf)) (.seq none (.reg [] []) (.seq none (.reg [] []) .leaf))))))))))
def g64 (f_1 : Option Addr) (cwd_2 : ByteArray) (path_3 : ByteArray) (data_4 : ByteArray) (more_5 : Bool) (K : KH) : H -> Prop :=
 callT Tryz.prog 126 [.pointer f_1, .string cwd_2, .string path_3, .bool true] (.tup [.agg [(.int .i64), .str, (.int .i64)], .sc (.int .i64)]) (fun (x6 : Int) (x7 : ByteArray) (x8 : Int) (x9 : Int) =>
 alW (.cells ⟨[.int .i64 0, .string (⟨⟨[]⟩⟩ : ByteArray), .int .i64 0]⟩ 171 (0, 0)) (fun b10 =>
 stW Tryz.prog 171 (.pointer (some ⟨b10, 0, none⟩)) (.agg ⟨[.int .i64 x6, .string x7, .int .i64 x8]⟩) (brW ((x9 : Int) != 0)
 (K (.int .i64 x9))
 (rdT (rdC b10 2) kI (fun (x11 : Int) =>
 brW (decide ((x11 : Int) < 0))
 (rdT (rdA 3 b10 0) (.one (.agg [(.int .i64), .str, (.int .i64)])) (fun (x12 : Int) (x13 : ByteArray) (x14 : Int) =>
 callT Tryz.prog 128 [.pointer f_1, .agg ⟨[.int .i64 x12, .string x13, .int .i64 x14]⟩, .int .i64 1, .int .i64 420, .string data_4] kI (fun (x15 : Int) =>
 K (.int .i64 x15))))
 (ptrW f_1 (fun b16 o17 =>
 rdT (rdC b16 (o17 + 2)) kL (fun x18 =>
 rdT (rdC b10 2) kI (fun (x19 : Int) =>
 ptrW x18.base (fun b20 o21 =>
 ifW (0 <= x19 /\ x19 < ((x18.len : Nat) : Int))
 (rdT (rdC b20 (o21 + x19.toNat * 1)) kP (fun x22 =>
 ptrW x22 (fun b23 o24 =>
 rdT (rdC b23 o24) kI (fun (x25 : Int) =>
 brW ((x25 : Int) == 2)
 (K (.int .i64 7))
 (letJ (T := Option Addr -> ByteArray -> Option Addr -> H -> Prop) (fun f_27 data_28 x_29 =>
 ptrW x_29 (fun b30 o31 =>
 rdT (rdC b30 (o31 + 2)) kS (fun (x32 : ByteArray) =>
 callT Tryz.prog 129 [.pointer f_27, .int .i64 0, .int .i64 (IntKind.i64.wrap (((data_28.size : Nat) : Int) - ((x32.size : Nat) : Int)))] kB (fun x33 =>
 brW (!x33)
 (K (.int .i64 10))
 (ptrW x_29 (fun b34 o35 =>
 stW Tryz.prog 9 (.pointer (some ⟨b34, o35 + 2, none⟩)) (.string data_28) (K (.int .i64 0)))))))) (fun j26 =>
 brW more_5
 (ptrW x22 (fun b36 o37 =>
 rdT (rdC b36 (o37 + 2)) kS (fun (x38 : ByteArray) =>
 ifW (x38.size + data_4.size <= 9223372036854775807)
 (j26 f_1 (x38 ++ data_4) x22))))
 (j26 f_1 data_4 x22)))))))))))))))))
theorem e64 (f_1 : Option Addr) (cwd_2 : ByteArray) (path_3 : ByteArray) (data_4 : ByteArray) (more_5 : Bool) (K : KH) : bodyF Tryz.prog tau Tryz.f64 an64 [.pointer f_1, .string cwd_2, .string path_3, .string data_4, .bool more_5] K = g64 f_1 cwd_2 path_3 data_4 more_5 K := by kernel_rfl
theorem c64 (f_1 : Option Addr) (cwd_2 : ByteArray) (path_3 : ByteArray) (data_4 : ByteArray) (more_5 : Bool) {K : KH} {σ : H} (h : g64 f_1 cwd_2 path_3 data_4 more_5 K σ) : callW Tryz.prog 64 [.pointer f_1, .string cwd_2, .string path_3, .string data_4, .bool more_5] K σ := call_of_body mixed Tryz.func64 (by rw [e64]; exact h)


def an65 : Ann := (.seq none (.reg [] []) (.seq none (.reg [] []) .leaf))
def g65 (p_1 : Sl) (K : KH) : H -> Prop :=
 callT Tryz.prog 131 [.slice p_1.base p_1.len p_1.cap] kL (fun x2 =>
 callT Tryz.prog 130 [.slice x2.base x2.len x2.cap, .func (.func 132) ⟨[]⟩ ⟨[]⟩] kB (fun x3 =>
 K (.bool x3)))
theorem e65 (p_1 : Sl) (K : KH) : bodyF Tryz.prog tau Tryz.f65 an65 [.slice p_1.base p_1.len p_1.cap] K = g65 p_1 K := by kernel_rfl
theorem c65 (p_1 : Sl) {K : KH} {σ : H} (h : g65 p_1 K σ) : callW Tryz.prog 65 [.slice p_1.base p_1.len p_1.cap] K σ := call_of_body mixed Tryz.func65 (by rw [e65]; exact h)


def an66 : Ann := (.seq none (.reg [] []) (.seq none (.reg [] []) (.seq none (.reg [] []) (.seq none (.reg [] []) .leaf))))
def g66 (seq_1 : Value) (K : KH) : H -> Prop :=
 callT Tryz.prog 133 [seq_1] kL (fun x2 =>
 callT Tryz.prog 134 [.slice x2.base x2.len x2.cap] kU (K (.slice x2.base x2.len x2.cap)))
theorem e66 (seq_1 : Value) (K : KH) : bodyF Tryz.prog tau Tryz.f66 an66 [seq_1] K = g66 seq_1 K := by kernel_rfl
theorem c66 (seq_1 : Value) {K : KH} {σ : H} (h : g66 seq_1 K σ) : callW Tryz.prog 66 [seq_1] K σ := call_of_body mixed Tryz.func66 (by rw [e66]; exact h)


def an67 : Ann := (.seq none (.reg [] []) (.seq none (.reg [] []) .leaf))
def g67 (s_1 : Option Addr) (base_2 : ByteArray) (l_3 : Sl) (K : KH) : H -> Prop :=
 alW (.cells ⟨[.pointer s_1]⟩ 95 (0, 0)) (fun b4 =>
 alW (.cells ⟨[.string base_2]⟩ 9 (0, 0)) (fun b5 =>
 alW (.cells ⟨[.slice l_3.base l_3.len l_3.cap]⟩ 102 (0, 0)) (fun b6 =>
 K (.func (.func 135) ⟨[]⟩ ⟨[.pointer (some ⟨b6, 0, none⟩), .pointer (some ⟨b5, 0, none⟩), .pointer (some ⟨b4, 0, none⟩)]⟩))))
theorem e67 (s_1 : Option Addr) (base_2 : ByteArray) (l_3 : Sl) (K : KH) : bodyF Tryz.prog tau Tryz.f67 an67 [.pointer s_1, .string base_2, .slice l_3.base l_3.len l_3.cap] K = g67 s_1 base_2 l_3 K := by kernel_rfl
theorem c67 (s_1 : Option Addr) (base_2 : ByteArray) (l_3 : Sl) {K : KH} {σ : H} (h : g67 s_1 base_2 l_3 K σ) : callW Tryz.prog 67 [.pointer s_1, .string base_2, .slice l_3.base l_3.len l_3.cap] K σ := call_of_body mixed Tryz.func67 (by rw [e67]; exact h)


def an68 : Ann := (.seq none (.reg [] []) (.seq none (.reg [] []) (.seq none (.seq none (.reg [] []) (.blk (.loop [(3, .sc .slc), (10, .sc .slc), (11, .sc (.int .i64)), (12, .sc (.int .i64))] (.seq none (.reg [] []) (.seq none (.cond .leaf .leaf) (.seq none (.blk (.seq none (.reg [] []) (.seq none (.reg [] []) (.blk (.loop [(3, .sc .slc), (5, .sc .ptr), (10, .sc .slc), (11, .sc (.int .i64)), (12, .sc (.int .i64)), (18, .sc (.int .i64)), (19, .sc (.int .i64))] (.seq none (.reg [] []) (.seq none (.cond .leaf .leaf) (.seq none (.blk (.seq none (.reg [] []) (.seq none (.reg [] []) (.seq (some [(3, .sc .slc), (5, .sc .ptr), (6, .sc (.int .i64)), (10, .sc .slc), (11, .sc (.int .i64)), (12, .sc (.int .i64)), (18, .sc (.int .i64)), (19, .sc (.int .i64)), (32, .sc .raw), (33, .sc .raw), (34, .sc .raw), (35, .sc .raw), (36, .sc .raw), (37, .sc .raw), (38, .sc .raw), (39, .sc .raw)]) (.seq none (.reg [] []) (.seq (some [(3, .sc .slc), (5, .sc .ptr), (6, .sc (.int .i64)), (7, .sc .bool), (10, .sc .slc), (11, .sc (.int .i64)), (12, .sc (.int .i64)), (18, .sc (.int .i64)), (19, .sc (.int .i64)), (32, .sc .raw), (33, .sc .raw), (34, .sc .raw), (35, .sc .raw), (36, .sc .raw), (37, .sc .raw), (38, .sc .raw), (39, .sc .raw), (40, .sc .bool)]) (.reg [] []) (.cond (.reg [] []) .leaf))) (.seq none (.reg [] []) (.reg [0, 1, 2, 3, 4, 5, 6, 7, 8, 9, 10, 11, 12, 13, 14, 15, 16, 17, 18] [[], [], [1], [1, 2], [1, 2, 3], [], [5], [], [], [8], [5, 6, 7, 8, 9], [], [11], [5, 6, 7, 8, 9, 10, 11, 12], [5, 6, 7, 8, 9, 10, 11, 12, 13], [1, 2, 3, 4, 5, 6, 7, 8, 9, 10, 11, 12, 13, 14], [0, 1, 2, 3, 4, 5, 6, 7, 8, 9, 10, 11, 12, 13, 14, 15], [0, 1, 2, 3, 4, 5, 6, 7, 8, 9, 10, 11, 12, 13, 14, 15, 16], [0, 1, 2, 3, 4, 5, 6, 7, 8, 9, 10, 11, 12, 13, 14, 15, 16, 17]])))))) (.reg [] []))))))))) (.reg [] []))))))) (.seq none (.reg [] []) .leaf))))
def g68 (r_1 : Sl) (K : KH) : H -> Prop :=
 loopW [.sc .slc, .sc .slc, .sc (.int .i64), .sc (.int .i64)] (fun (R2 : Sl -> Sl -> Int -> Int -> H -> Prop) => (fun (out_3 : Sl) (x4 : Sl) (x5 : Int) (x6 : Int) =>
 brW (decide ((x6 : Int) < x5))
 (ptrW x4.base (fun b7 o8 =>
 ifW (0 <= x6 /\ x6 < ((x4.len : Nat) : Int))
 (rdT (rdA 3 b7 (o8 + x6.toNat * 3)) (.one (.agg [.str, .bool, .bool])) (fun (x9 : ByteArray) (x10 : Bool) (x11 : Bool) =>
 alW (.cells ⟨[.string (⟨⟨[]⟩⟩ : ByteArray), .bool false, .bool false]⟩ 29 (0, 0)) (fun b12 =>
 stW Tryz.prog 29 (.pointer (some ⟨b12, 0, none⟩)) (.agg ⟨[.string x9, .bool x10, .bool x11]⟩) (rdT (rdC b12 0) kS (fun (x13 : ByteArray) =>
 loopW [.sc .slc, .sc .ptr, .sc .slc, .sc (.int .i64), .sc (.int .i64), .sc (.int .i64), .sc (.int .i64)] (fun (R14 : Sl -> Option Addr -> Sl -> Int -> Int -> Int -> Int -> H -> Prop) => (fun (out_15 : Sl) (x_16 : Option Addr) (x17 : Sl) (x18 : Int) (x19 : Int) (x20 : Int) (x21 : Int) =>
 brW (decide ((x21 : Int) < x20))
 (ptrW x_16 (fun b22 o23 =>
 rdT (rdC b22 o23) kS (fun (x24 : ByteArray) =>
 idxW x24 x21 (fun c25 =>
 letJ (T := Sl -> Option Addr -> Int -> Sl -> Int -> Int -> Int -> Int -> Value -> Value -> Value -> Value -> Value -> Value -> Value -> Value -> H -> Prop) (fun out_27 x_28 i_29 x30 x31 x32 x33 x34 _x35 _x36 _x37 _x38 _x39 _x40 _x41 _x42 =>
 ptrW out_27.base (fun b43 o44 =>
 ifW (0 <= IntKind.i64.wrap (((out_27.len : Nat) : Int) - 1) /\ IntKind.i64.wrap (((out_27.len : Nat) : Int) - 1) < ((out_27.len : Nat) : Int))
 (rdT (rdC b43 (o44 + (IntKind.i64.wrap (((out_27.len : Nat) : Int) - 1) : Int).toNat * 2)) kL (fun x45 =>
 ptrW x_28 (fun b46 o47 =>
 rdT (rdC b46 o47) kS (fun (x48 : ByteArray) =>
 ifW (bndOk (some (IntKind.i64.wrap (i_29 + 1))) x48.size /\ bndOk (some i_29) ((IntKind.i64.wrap (i_29 + 1)).toNat))
 (ptrW x_28 (fun b49 o50 =>
 rdT (rdC b49 (o50 + 1)) kB (fun x51 =>
 alW (.cells ⟨[.string (x48.extract i_29.toNat ((IntKind.i64.wrap (i_29 + 1)).toNat)), .bool x51, .bool false]⟩ 29 (0, 0)) (fun b52 =>
 biW Tryz.prog .append #[31, 31] 31 [false, false] [.slice x45.base x45.len x45.cap, .slice (some ⟨b52, 0, none⟩) 1 1] kL (fun x53 =>
 stW Tryz.prog 31 (.pointer (some ⟨b43, o44 + (IntKind.i64.wrap (((out_27.len : Nat) : Int) - 1) : Int).toNat * 2, none⟩)) (.slice x53.base x53.len x53.cap) (R14 out_27 x_28 x30 x31 x32 x33 (IntKind.i64.wrap (x34 + 1)))))))))))))) (fun j26 =>
 letJ (T := Sl -> Option Addr -> Int -> Bool -> Sl -> Int -> Int -> Int -> Int -> Value -> Value -> Value -> Value -> Value -> Value -> Value -> Value -> Bool -> H -> Prop) (fun out_55 x_56 i_57 stroke_58 x59 x60 x61 x62 x63 x64 x65 x66 x67 x68 x69 x70 x71 x72 =>
 brW x72
 (alW (.cells ⟨[.slice none 0 0, .bool stroke_58]⟩ 186 (0, 0)) (fun b73 =>
 biW Tryz.prog .append #[102, 102] 102 [false, false] [.slice out_55.base out_55.len out_55.cap, .slice (some ⟨b73, 0, none⟩) 1 1] kL (fun x74 =>
 j26 x74 x_56 i_57 x59 x60 x61 x62 x63 x64 x65 x66 x67 x68 x69 x70 x71)))
 (j26 out_55 x_56 i_57 x59 x60 x61 x62 x63 x64 x65 x66 x67 x68 x69 x70 x71)) (fun j54 =>
 brW ((((out_15.len : Nat) : Int) : Int) == 0)
 (j54 out_15 x_16 x21 (((c25.toNat : Int) : Int) == 47) x17 x18 x19 x20 x21 (.tuple ⟨[]⟩) (.tuple ⟨[]⟩) (.tuple ⟨[]⟩) (.tuple ⟨[]⟩) (.tuple ⟨[]⟩) (.tuple ⟨[]⟩) (.tuple ⟨[]⟩) (.tuple ⟨[]⟩) true)
 (ptrW out_15.base (fun b75 o76 =>
 ifW (0 <= IntKind.i64.wrap (((out_15.len : Nat) : Int) - 1) /\ IntKind.i64.wrap (((out_15.len : Nat) : Int) - 1) < ((out_15.len : Nat) : Int))
 (rdT (rdC b75 (o76 + (IntKind.i64.wrap (((out_15.len : Nat) : Int) - 1) : Int).toNat * 2 + 1)) kB (fun x77 =>
 j54 out_15 x_16 x21 (((c25.toNat : Int) : Int) == 47) x17 x18 x19 x20 x21 (.slice out_15.base out_15.len out_15.cap) (.int .i64 ((out_15.len : Nat) : Int)) (.int .i64 (IntKind.i64.wrap (((out_15.len : Nat) : Int) - 1))) (.pointer (some ⟨b75, o76 + (IntKind.i64.wrap (((out_15.len : Nat) : Int) - 1) : Int).toNat * 2, none⟩)) (.pointer (some ⟨b75, o76 + (IntKind.i64.wrap (((out_15.len : Nat) : Int) - 1) : Int).toNat * 2 + 1, none⟩)) (.bool x77) (.bool (((c25.toNat : Int) : Int) == 47)) (.bool (!(x77 == (((c25.toNat : Int) : Int) == 47)))) (!(x77 == (((c25.toNat : Int) : Int) == 47)))))))))))))
 (R2 out_15 x17 x18 (IntKind.i64.wrap (x19 + 1))))) (fun (R78 : Sl -> Option Addr -> Sl -> Int -> Int -> Int -> Int -> H -> Prop) => R78 out_3 (some ⟨b12, 0, none⟩) x4 x5 x6 ((x13.size : Nat) : Int) 0))))))))
 (K (.slice out_3.base out_3.len out_3.cap)))) (fun (R79 : Sl -> Sl -> Int -> Int -> H -> Prop) => R79 ⟨none, 0, 0⟩ r_1 ((r_1.len : Nat) : Int) 0)
theorem e68 (r_1 : Sl) (K : KH) : bodyF Tryz.prog tau Tryz.f68 an68 [.slice r_1.base r_1.len r_1.cap] K = g68 r_1 K := by kernel_rfl
theorem c68 (r_1 : Sl) {K : KH} {σ : H} (h : g68 r_1 K σ) : callW Tryz.prog 68 [.slice r_1.base r_1.len r_1.cap] K σ := call_of_body mixed Tryz.func68 (by rw [e68]; exact h)

end Go.Proofs.YtbjbeajbckcecaaGreatDoor

set_option maxRecDepth 100000
namespace Go.Proofs.YtbjbeajbckcecaaGreatDoor
open Go Go.HL
def an69 : Ann := (.seq none (.reg [] []) (.seq none (.reg [] []) (.seq none (.seq none (.reg [] []) (.cond (.seq none (.reg [] []) .leaf) .leaf)) (.seq none (.reg [0, 1, 2, 3, 4, 5, 6, 7, 8, 9, 10, 11, 12] [[], [0], [0, 1], [0, 1, 2], [], [4], [0, 1, 2, 3, 4, 5], [0, 1, 2, 3, 4, 5, 6], [0, 1, 2, 3, 4, 5, 6, 7], [0, 1, 2, 3, 4, 5, 6, 7], [], [0, 1, 2, 3, 4, 5, 6, 7, 8, 10], [0, 1, 2, 3, 4, 5, 6, 7, 8, 9, 10, 11]]) (.seq none (.seq (some [(4, .sc .raw), (11, .sc .ptr), (13, .sc .ptr), (42, .sc .bool)]) (.reg [] []) (.cond (.seq none (.reg [] []) .leaf) .leaf)) (.seq none (.reg [] []) .leaf))))))
def g69 (f_1 : Option Addr) (cwd_2 : ByteArray) (path_3 : ByteArray) (follow_4 : Bool) (do_5 : Value) (K : KH) : H -> Prop :=
 callT Tryz.prog 98 [.pointer f_1, .string cwd_2, .string path_3, .bool follow_4] (.tup [.agg [(.int .i64), .str, (.int .i64), .bool], .sc (.int .i64)]) (fun (x6 : Int) (x7 : ByteArray) (x8 : Int) (x9 : Bool) (x10 : Int) =>
 alW (.cells ⟨[.int .i64 0, .string (⟨⟨[]⟩⟩ : ByteArray), .int .i64 0, .bool false]⟩ 142 (0, 0)) (fun b11 =>
 stW Tryz.prog 142 (.pointer (some ⟨b11, 0, none⟩)) (.agg ⟨[.int .i64 x6, .string x7, .int .i64 x8, .bool x9]⟩) (brW ((x10 : Int) != 0)
 (K (.int .i64 x10))
 (ptrW f_1 (fun b12 o13 =>
 rdT (rdC b12 o13) kP (fun x14 =>
 rdT (rdC b11 2) kI (fun (x15 : Int) =>
 callT Tryz.prog 99 [.pointer x14, .int .i64 x15] (.tup [.agg [(.int .i64), (.int .i64), .str, (.int .i64)], .sc .bool]) (fun (x16 : Int) (x17 : Int) (x18 : ByteArray) (x19 : Int) (x20 : Bool) =>
 alW (.cells ⟨[.int .i64 0, .int .i64 0, .string (⟨⟨[]⟩⟩ : ByteArray), .int .i64 0]⟩ 35 (0, 0)) (fun b21 =>
 stW Tryz.prog 35 (.pointer (some ⟨b21, 0, none⟩)) (.agg ⟨[.int .i64 x16, .int .i64 x17, .string x18, .int .i64 x19]⟩) (letJ (T := Value -> Option Addr -> Option Addr -> Bool -> H -> Prop) (fun do_23 p_24 n_25 x26 =>
 brW x26
 (K (.int .i64 5))
 (ptrW p_24 (fun b27 o28 =>
 rdT (rdC b27 (o28 + 2)) kI (fun (x29 : Int) =>
 ptrW n_25 (fun b30 o31 =>
 rdT (rdA 4 b30 o31) (.one (.agg [(.int .i64), (.int .i64), .str, (.int .i64)])) (fun (x32 : Int) (x33 : Int) (x34 : ByteArray) (x35 : Int) =>
 cvalT Tryz.prog do_23 [.int .i64 x29, .agg ⟨[.int .i64 x32, .int .i64 x33, .string x34, .int .i64 x35]⟩] kI (fun (x36 : Int) =>
 K (.int .i64 x36)))))))) (fun j22 =>
 rdT (rdC b11 3) kB (fun x37 =>
 brW (!x37)
 (j22 do_5 (some ⟨b11, 0, none⟩) (some ⟨b21, 0, none⟩) true)
 (j22 do_5 (some ⟨b11, 0, none⟩) (some ⟨b21, 0, none⟩) (!x20))))))))))))))
theorem e69 (f_1 : Option Addr) (cwd_2 : ByteArray) (path_3 : ByteArray) (follow_4 : Bool) (do_5 : Value) (K : KH) : bodyF Tryz.prog tau Tryz.f69 an69 [.pointer f_1, .string cwd_2, .string path_3, .bool follow_4, do_5] K = g69 f_1 cwd_2 path_3 follow_4 do_5 K := by kernel_rfl
theorem c69 (f_1 : Option Addr) (cwd_2 : ByteArray) (path_3 : ByteArray) (follow_4 : Bool) (do_5 : Value) {K : KH} {σ : H} (h : g69 f_1 cwd_2 path_3 follow_4 do_5 K σ) : callW Tryz.prog 69 [.pointer f_1, .string cwd_2, .string path_3, .bool follow_4, do_5] K σ := call_of_body mixed Tryz.func69 (by rw [e69]; exact h)


def an70 : Ann := (.seq none (.reg [] []) (.seq none (.reg [] []) (.seq none (.reg [] []) .leaf)))
def g70 (__1 : Int) (n_2 : Int) (n_3 : Int) (n_4 : ByteArray) (n_5 : Int) (x6 : Option Addr) (K : KH) : H -> Prop :=
 alW (.cells ⟨[.int .i64 n_2, .int .i64 n_3, .string n_4, .int .i64 n_5]⟩ 35 (0, 0)) (fun b7 =>
 rdT (rdA 4 b7 0) (.one (.agg [(.int .i64), (.int .i64), .str, (.int .i64)])) (fun (x8 : Int) (x9 : Int) (x10 : ByteArray) (x11 : Int) =>
 stW Tryz.prog 35 (.pointer x6) (.agg ⟨[.int .i64 x8, .int .i64 x9, .string x10, .int .i64 x11]⟩) (K (.int .i64 0))))
theorem e70 (__1 : Int) (n_2 : Int) (n_3 : Int) (n_4 : ByteArray) (n_5 : Int) (x6 : Option Addr) (K : KH) : bodyF Tryz.prog tau Tryz.f70 an70 [.int .i64 __1, .agg ⟨[.int .i64 n_2, .int .i64 n_3, .string n_4, .int .i64 n_5]⟩, .pointer x6] K = g70 __1 n_2 n_3 n_4 n_5 x6 K := by kernel_rfl
theorem c70 (__1 : Int) (n_2 : Int) (n_3 : Int) (n_4 : ByteArray) (n_5 : Int) (x6 : Option Addr) {K : KH} {σ : H} (h : g70 __1 n_2 n_3 n_4 n_5 x6 K σ) : callW Tryz.prog 70 [.int .i64 __1, .agg ⟨[.int .i64 n_2, .int .i64 n_3, .string n_4, .int .i64 n_5]⟩, .pointer x6] K σ := call_of_body mixed Tryz.func70 (by rw [e70]; exact h)


def an71 : Ann := (.seq none (.reg [] []) (.seq none (.reg [] []) .leaf))
def g71 (s_1 : ByteArray) (substr_2 : ByteArray) (K : KH) : H -> Prop :=
 callT Tryz.prog 137 [.string s_1, .string substr_2] kI (fun (x3 : Int) =>
 K (.int .i64 x3))
theorem e71 (s_1 : ByteArray) (substr_2 : ByteArray) (K : KH) : bodyF Tryz.prog tau Tryz.f71 an71 [.string s_1, .string substr_2] K = g71 s_1 substr_2 K := by kernel_rfl
theorem c71 (s_1 : ByteArray) (substr_2 : ByteArray) {K : KH} {σ : H} (h : g71 s_1 substr_2 K σ) : callW Tryz.prog 71 [.string s_1, .string substr_2] K σ := call_of_body mixed Tryz.func71 (by rw [e71]; exact h)


def an72 : Ann := (.seq none (.reg [] []) (.seq none (.seq none (.reg [] []) (.cond (.seq none (.reg [] []) .leaf) .leaf)) (.seq none (.reg [] []) (.seq none (.reg [] []) .leaf))))
def g72 (ino_1 : Int) (n_2 : Int) (n_3 : Int) (n_4 : ByteArray) (n_5 : Int) (x6 : Option Addr) (x7 : Option Addr) (K : KH) : H -> Prop :=
 alW (.cells ⟨[.int .i64 n_2, .int .i64 n_3, .string n_4, .int .i64 n_5]⟩ 35 (0, 0)) (fun b8 =>
 rdT (rdC b8 0) kI (fun (x9 : Int) =>
 brW ((x9 : Int) != 2)
 (K (.int .i64 8))
 (ptrW x6 (fun b10 o11 =>
 rdT (rdC b10 o11) kP (fun x12 =>
 ptrW x12 (fun b13 o14 =>
 rdT (rdC b13 o14) kP (fun x15 =>
 callT Tryz.prog 73 [.pointer x15, .int .i64 ino_1] kL (fun x16 =>
 stW Tryz.prog 22 (.pointer x7) (.slice x16.base x16.len x16.cap) (K (.int .i64 0))))))))))
theorem e72 (ino_1 : Int) (n_2 : Int) (n_3 : Int) (n_4 : ByteArray) (n_5 : Int) (x6 : Option Addr) (x7 : Option Addr) (K : KH) : bodyF Tryz.prog tau Tryz.f72 an72 [.int .i64 ino_1, .agg ⟨[.int .i64 n_2, .int .i64 n_3, .string n_4, .int .i64 n_5]⟩, .pointer x6, .pointer x7] K = g72 ino_1 n_2 n_3 n_4 n_5 x6 x7 K := by kernel_rfl
theorem c72 (ino_1 : Int) (n_2 : Int) (n_3 : Int) (n_4 : ByteArray) (n_5 : Int) (x6 : Option Addr) (x7 : Option Addr) {K : KH} {σ : H} (h : g72 ino_1 n_2 n_3 n_4 n_5 x6 x7 K σ) : callW Tryz.prog 72 [.int .i64 ino_1, .agg ⟨[.int .i64 n_2, .int .i64 n_3, .string n_4, .int .i64 n_5]⟩, .pointer x6, .pointer x7] K σ := call_of_body mixed Tryz.func72 (by rw [e72]; exact h)


def an73 : Ann := (.seq none (.reg [] []) (.seq none (.reg [] []) (.seq none (.seq none (.reg [] []) (.cond (.seq none (.reg [] []) .leaf) .leaf)) (.seq none (.reg [] []) .leaf))))
def g73 (t_1 : Option Addr) (dir_2 : Int) (K : KH) : H -> Prop :=
 callT Tryz.prog 138 [.pointer t_1, .int .i64 dir_2] kP (fun x3 =>
 brW x3.isNone
 (K (.slice none 0 0))
 (ptrW x3 (fun b4 o5 =>
 rdT (rdC b4 (o5 + 5)) kM (fun (x6 : Option Nat) =>
 callT Tryz.prog 139 [.map x6] kR (fun x7 =>
 callT Tryz.prog 66 [x7] kL (fun x8 =>
 K (.slice x8.base x8.len x8.cap)))))))
theorem e73 (t_1 : Option Addr) (dir_2 : Int) (K : KH) : bodyF Tryz.prog tau Tryz.f73 an73 [.pointer t_1, .int .i64 dir_2] K = g73 t_1 dir_2 K := by kernel_rfl
theorem c73 (t_1 : Option Addr) (dir_2 : Int) {K : KH} {σ : H} (h : g73 t_1 dir_2 K σ) : callW Tryz.prog 73 [.pointer t_1, .int .i64 dir_2] K σ := call_of_body mixed Tryz.func73 (by rw [e73]; exact h)


def an74 : Ann := (.seq none (.reg [] []) (.seq none (.seq none (.reg [] []) (.blk (.loop [(2, .sc .ptr), (6, .sc .slc), (7, .sc (.int .i64)), (8, .sc (.int .i64))] (.seq none (.reg [] []) (.seq none (.cond .leaf .leaf) (.seq (some [(2, .sc .ptr), (6, .sc .slc), (7, .sc (.int .i64)), (8, .sc (.int .i64)), (17, .sc .raw), (18, .sc .raw), (21, .sc .raw), (22, .sc .raw)]) (.blk (.seq none (.reg [] []) (.seq none (.reg [] []) (.seq (some [(2, .sc .ptr), (4, .sc (.int .u8)), (6, .sc .slc), (7, .sc (.int .i64)), (8, .sc (.int .i64)), (17, .sc .raw), (18, .sc .raw), (21, .sc .raw), (22, .sc .raw), (23, .sc .bool)]) (.reg [] []) (.cond (.reg [] []) .leaf))))) (.reg [] []))))))) (.seq none (.reg [] []) .leaf)))
def g74 (ifs_1 : ByteArray) (K : KH) : H -> Prop :=
 alW (.cells ⟨[.int .i64 0, .int .i64 0, .int .i64 0, .int .i64 0, .int .i64 0, .int .i64 0, .int .i64 0, .int .i64 0, .int .i64 0, .int .i64 0, .int .i64 0, .int .i64 0, .int .i64 0, .int .i64 0, .int .i64 0, .int .i64 0, .int .i64 0, .int .i64 0, .int .i64 0, .int .i64 0, .int .i64 0, .int .i64 0, .int .i64 0, .int .i64 0, .int .i64 0, .int .i64 0, .int .i64 0, .int .i64 0, .int .i64 0, .int .i64 0, .int .i64 0, .int .i64 0, .int .i64 0, .int .i64 0, .int .i64 0, .int .i64 0, .int .i64 0, .int .i64 0, .int .i64 0, .int .i64 0, .int .i64 0, .int .i64 0, .int .i64 0, .int .i64 0, .int .i64 0, .int .i64 0, .int .i64 0, .int .i64 0, .int .i64 0, .int .i64 0, .int .i64 0, .int .i64 0, .int .i64 0, .int .i64 0, .int .i64 0, .int .i64 0, .int .i64 0, .int .i64 0, .int .i64 0, .int .i64 0, .int .i64 0, .int .i64 0, .int .i64 0, .int .i64 0, .int .i64 0, .int .i64 0, .int .i64 0, .int .i64 0, .int .i64 0, .int .i64 0, .int .i64 0, .int .i64 0, .int .i64 0, .int .i64 0, .int .i64 0, .int .i64 0, .int .i64 0, .int .i64 0, .int .i64 0, .int .i64 0, .int .i64 0, .int .i64 0, .int .i64 0, .int .i64 0, .int .i64 0, .int .i64 0, .int .i64 0, .int .i64 0, .int .i64 0, .int .i64 0, .int .i64 0, .int .i64 0, .int .i64 0, .int .i64 0, .int .i64 0, .int .i64 0, .int .i64 0, .int .i64 0, .int .i64 0, .int .i64 0, .int .i64 0, .int .i64 0, .int .i64 0, .int .i64 0, .int .i64 0, .int .i64 0, .int .i64 0, .int .i64 0, .int .i64 0, .int .i64 0, .int .i64 0, .int .i64 0, .int .i64 0, .int .i64 0, .int .i64 0, .int .i64 0, .int .i64 0, .int .i64 0, .int .i64 0, .int .i64 0, .int .i64 0, .int .i64 0, .int .i64 0, .int .i64 0, .int .i64 0, .int .i64 0, .int .i64 0, .int .i64 0, .int .i64 0, .int .i64 0, .int .i64 0, .int .i64 0, .int .i64 0, .int .i64 0, .int .i64 0, .int .i64 0, .int .i64 0, .int .i64 0, .int .i64 0, .int .i64 0, .int .i64 0, .int .i64 0, .int .i64 0, .int .i64 0, .int .i64 0, .int .i64 0, .int .i64 0, .int .i64 0, .int .i64 0, .int .i64 0, .int .i64 0, .int .i64 0, .int .i64 0, .int .i64 0, .int .i64 0, .int .i64 0, .int .i64 0, .int .i64 0, .int .i64 0, .int .i64 0, .int .i64 0, .int .i64 0, .int .i64 0, .int .i64 0, .int .i64 0, .int .i64 0, .int .i64 0, .int .i64 0, .int .i64 0, .int .i64 0, .int .i64 0, .int .i64 0, .int .i64 0, .int .i64 0, .int .i64 0, .int .i64 0, .int .i64 0, .int .i64 0, .int .i64 0, .int .i64 0, .int .i64 0, .int .i64 0, .int .i64 0, .int .i64 0, .int .i64 0, .int .i64 0, .int .i64 0, .int .i64 0, .int .i64 0, .int .i64 0, .int .i64 0, .int .i64 0, .int .i64 0, .int .i64 0, .int .i64 0, .int .i64 0, .int .i64 0, .int .i64 0, .int .i64 0, .int .i64 0, .int .i64 0, .int .i64 0, .int .i64 0, .int .i64 0, .int .i64 0, .int .i64 0, .int .i64 0, .int .i64 0, .int .i64 0, .int .i64 0, .int .i64 0, .int .i64 0, .int .i64 0, .int .i64 0, .int .i64 0, .int .i64 0, .int .i64 0, .int .i64 0, .int .i64 0, .int .i64 0, .int .i64 0, .int .i64 0, .int .i64 0, .int .i64 0, .int .i64 0, .int .i64 0, .int .i64 0, .int .i64 0, .int .i64 0, .int .i64 0, .int .i64 0, .int .i64 0, .int .i64 0, .int .i64 0, .int .i64 0, .int .i64 0, .int .i64 0, .int .i64 0, .int .i64 0, .int .i64 0, .int .i64 0, .int .i64 0, .int .i64 0, .int .i64 0, .int .i64 0, .int .i64 0, .int .i64 0, .int .i64 0, .int .i64 0, .int .i64 0, .int .i64 0, .int .i64 0, .int .i64 0, .int .i64 0, .int .i64 0, .int .i64 0]⟩ 111 (0, 0)) (fun b2 =>
 vaW Tryz.prog (convert 9 56 (.string ifs_1)) kL (fun x3 =>
 loopW [.sc .ptr, .sc .slc, .sc (.int .i64), .sc (.int .i64)] (fun (R4 : Option Addr -> Sl -> Int -> Int -> H -> Prop) => (fun (out_5 : Option Addr) (x6 : Sl) (x7 : Int) (x8 : Int) =>
 brW (decide ((x8 : Int) < x7))
 (letJ (T := Option Addr -> Sl -> Int -> Int -> Value -> Value -> Value -> Value -> H -> Prop) (fun out_10 x11 x12 x13 _x14 _x15 _x16 _x17 =>
 R4 out_10 x11 x12 (IntKind.i64.wrap (x13 + 1))) (fun j9 =>
 ptrW x6.base (fun b18 o19 =>
 ifW (0 <= x8 /\ x8 < ((x6.len : Nat) : Int))
 (rdT (rdC b18 (o19 + x8.toNat * 1)) kC (fun (x20 : Int) =>
 ptrW out_5 (fun b21 o22 =>
 ifW (0 <= x20 /\ x20 < ((256 : Nat) : Int))
 (stW Tryz.prog 3 (.pointer (some ⟨b21, o22 + x20.toNat * 1, none⟩)) (.int .i64 2) (letJ (T := Option Addr -> Int -> Sl -> Int -> Int -> Value -> Value -> Value -> Value -> Bool -> H -> Prop) (fun out_24 c_25 x26 x27 x28 x29 x30 x31 x32 x33 =>
 brW x33
 (ptrW out_24 (fun b34 o35 =>
 ifW (0 <= c_25 /\ c_25 < ((256 : Nat) : Int))
 (stW Tryz.prog 3 (.pointer (some ⟨b34, o35 + c_25.toNat * 1, none⟩)) (.int .i64 1) (j9 out_24 x26 x27 x28 x29 x30 x31 x32))))
 (j9 out_24 x26 x27 x28 x29 x30 x31 x32)) (fun j23 =>
 brW ((x20 : Int) == 32)
 (j23 out_5 x20 x6 x7 x8 (.tuple ⟨[]⟩) (.tuple ⟨[]⟩) (.tuple ⟨[]⟩) (.tuple ⟨[]⟩) true)
 (brW ((x20 : Int) == 9)
 (j23 out_5 x20 x6 x7 x8 (.int .u8 x20) (.bool ((x20 : Int) == 9)) (.tuple ⟨[]⟩) (.tuple ⟨[]⟩) true)
 (j23 out_5 x20 x6 x7 x8 (.int .u8 x20) (.bool ((x20 : Int) == 9)) (.int .u8 x20) (.bool ((x20 : Int) == 10)) ((x20 : Int) == 10))))))))))))
 (ptrW out_5 (fun b36 o37 =>
 rdT (rdA 256 b36 o37) kR (fun x38 =>
 stW Tryz.prog 111 (.pointer out_5) (x38) (ptrW out_5 (fun b39 o40 =>
 rdT (rdA 256 b39 o40) kR (fun r41 =>
 K (r41))))))))) (fun (R42 : Option Addr -> Sl -> Int -> Int -> H -> Prop) => R42 (some ⟨b2, 0, none⟩) x3 ((x3.len : Nat) : Int) 0)))
theorem e74 (ifs_1 : ByteArray) (K : KH) : bodyF Tryz.prog tau Tryz.f74 an74 [.string ifs_1] K = g74 ifs_1 K := by kernel_rfl
theorem c74 (ifs_1 : ByteArray) {K : KH} {σ : H} (h : g74 ifs_1 K σ) : callW Tryz.prog 74 [.string ifs_1] K σ := call_of_body mixed Tryz.func74 (by rw [e74]; exact h)


def an75 : Ann := (.seq none (.reg [] []) (.seq none (.reg [] []) (.seq none (.reg [] []) (.seq none (.reg [] []) (.seq none (.reg [] []) (.seq none (.reg [] []) (.seq none (.seq none (.reg [] []) (.blk (.loop [(1, .sc .ptr), (5, .sc .ptr), (7, .sc .ptr), (8, .sc .ptr), (9, .sc .raw), (10, .sc .raw), (17, .sc .slc), (18, .sc (.int .i64)), (19, .sc (.int .i64))] (.seq none (.reg [] []) (.seq none (.cond .leaf .leaf) (.seq (some [(1, .sc .ptr), (5, .sc .ptr), (7, .sc .ptr), (8, .sc .ptr), (9, .sc .raw), (10, .sc .raw), (17, .sc .slc), (18, .sc (.int .i64)), (19, .sc (.int .i64)), (26, .sc .raw), (27, .sc .raw), (28, .sc .raw)]) (.blk (.seq none (.reg [] []) (.seq none (.seq (some [(1, .sc .ptr), (5, .sc .ptr), (7, .sc .ptr), (8, .sc .ptr), (9, .sc .raw), (10, .sc .raw), (12, .sc .ptr), (17, .sc .slc), (18, .sc (.int .i64)), (19, .sc (.int .i64)), (26, .sc .raw), (27, .sc .raw), (28, .sc .raw), (29, .sc .bool)]) (.reg [] []) (.cond (.seq none (.seq (some [(1, .sc .ptr), (5, .sc .ptr), (7, .sc .ptr), (8, .sc .ptr), (9, .sc .raw), (10, .sc .raw), (12, .sc .ptr), (17, .sc .slc), (18, .sc (.int .i64)), (19, .sc (.int .i64)), (26, .sc .raw), (27, .sc .raw), (28, .sc .raw), (33, .sc .raw), (34, .sc .raw), (35, .sc .raw), (36, .sc .bool)]) (.reg [] []) (.cond (.reg [] []) .leaf)) .leaf) .leaf)) (.seq none (.reg [] []) (.blk (.loop [(1, .sc .ptr), (5, .sc .ptr), (7, .sc .ptr), (8, .sc .ptr), (9, .sc .raw), (10, .sc .raw), (12, .sc .ptr), (17, .sc .slc), (18, .sc (.int .i64)), (19, .sc (.int .i64)), (26, .sc .raw), (27, .sc .raw), (28, .sc .raw), (42, .sc (.int .i64)), (43, .sc (.int .i64))] (.seq none (.reg [] []) (.seq none (.cond .leaf .leaf) (.seq (some [(1, .sc .ptr), (5, .sc .ptr), (7, .sc .ptr), (8, .sc .ptr), (9, .sc .raw), (10, .sc .raw), (12, .sc .ptr), (17, .sc .slc), (18, .sc (.int .i64)), (19, .sc (.int .i64)), (26, .sc .raw), (27, .sc .raw), (28, .sc .raw), (42, .sc (.int .i64)), (43, .sc (.int .i64))]) (.blk (.seq none (.reg [] []) (.seq none (.reg [0, 1, 2, 3, 4, 5, 6, 7, 8] [[], [], [1], [], [1, 2, 3], [0], [0, 1, 2, 3, 4, 5], [0, 1, 2, 3, 4, 5, 6], [0, 1, 2, 3, 4, 5, 6, 7]]) (.blk (.seq none (.reg [] []) (.cond (.reg [] []) (.seq none (.reg [] []) (.cond (.seq none (.reg [] []) (.reg [] [])) (.seq none (.reg [] []) (.cond .leaf (.seq none (.reg [] []) (.cond (.reg [] []) (.reg [] []))))))))))))) (.reg [] [])))))))))) (.reg [] []))))))) (.seq (some [(5, .sc .ptr)]) (.seq none (.reg [] []) (.cond (.reg [] []) .leaf)) (.seq none (.reg [] []) .leaf)))))))))
def g75 (l_1 : Sl) (class_2 : Option Addr) (K : KH) : H -> Prop :=
 alW (.cells ⟨[.slice none 0 0]⟩ 44 (0, 0)) (fun b3 =>
 alW (.cells ⟨[.slice none 0 0]⟩ 31 (0, 0)) (fun b4 =>
 alW (.cells ⟨[.bool false]⟩ 4 (0, 0)) (fun b5 =>
 alW (.cells ⟨[.bool false]⟩ 4 (0, 0)) (fun b6 =>
 stW Tryz.prog 4 (.pointer (some ⟨b5, 0, none⟩)) (.bool true) (stW Tryz.prog 4 (.pointer (some ⟨b6, 0, none⟩)) (.bool false) (loopW [.sc .ptr, .sc .ptr, .sc .ptr, .sc .ptr, .sc .raw, .sc .raw, .sc .slc, .sc (.int .i64), .sc (.int .i64)] (fun (R7 : Option Addr -> Option Addr -> Option Addr -> Option Addr -> Value -> Value -> Sl -> Int -> Int -> H -> Prop) => (fun (class_8 : Option Addr) (out_9 : Option Addr) (bare_10 : Option Addr) (behind_11 : Option Addr) (gather_12 : Value) (end_13 : Value) (x14 : Sl) (x15 : Int) (x16 : Int) =>
 brW (decide ((x16 : Int) < x15))
 (letJ (T := Option Addr -> Option Addr -> Option Addr -> Option Addr -> Value -> Value -> Sl -> Int -> Int -> Value -> Value -> Value -> H -> Prop) (fun class_18 out_19 bare_20 behind_21 gather_22 end_23 x24 x25 x26 _x27 _x28 _x29 =>
 R7 class_18 out_19 bare_20 behind_21 gather_22 end_23 x24 x25 (IntKind.i64.wrap (x26 + 1))) (fun j17 =>
 ptrW x14.base (fun b30 o31 =>
 ifW (0 <= x16 /\ x16 < ((x14.len : Nat) : Int))
 (rdT (rdA 3 b30 (o31 + x16.toNat * 3)) (.one (.agg [.str, .bool, .bool])) (fun (x32 : ByteArray) (x33 : Bool) (x34 : Bool) =>
 alW (.cells ⟨[.string (⟨⟨[]⟩⟩ : ByteArray), .bool false, .bool false]⟩ 29 (0, 0)) (fun b35 =>
 stW Tryz.prog 29 (.pointer (some ⟨b35, 0, none⟩)) (.agg ⟨[.string x32, .bool x33, .bool x34]⟩) (letJ (T := Option Addr -> Option Addr -> Option Addr -> Option Addr -> Value -> Value -> Option Addr -> Sl -> Int -> Int -> Value -> Value -> Value -> Bool -> H -> Prop) (fun class_37 out_38 bare_39 behind_40 gather_41 end_42 r_43 x44 x45 x46 x47 x48 x49 x50 =>
 brW x50
 (letJ (T := Option Addr -> Option Addr -> Option Addr -> Option Addr -> Value -> Value -> Option Addr -> Sl -> Int -> Int -> Value -> Value -> Value -> Value -> Value -> Value -> Bool -> H -> Prop) (fun class_52 out_53 bare_54 behind_55 gather_56 end_57 r_58 x59 x60 x61 x62 x63 x64 _x65 _x66 _x67 x68 =>
 brW x68
 (ptrW r_58 (fun b69 o70 =>
 rdT (rdA 3 b69 o70) (.one (.agg [.str, .bool, .bool])) (fun (x71 : ByteArray) (x72 : Bool) (x73 : Bool) =>
 cvalT Tryz.prog gather_56 [.agg ⟨[.string x71, .bool x72, .bool x73]⟩] kU (j17 class_52 out_53 bare_54 behind_55 gather_56 end_57 x59 x60 x61 x62 x63 x64))))
 (j17 class_52 out_53 bare_54 behind_55 gather_56 end_57 x59 x60 x61 x62 x63 x64)) (fun j51 =>
 ptrW r_43 (fun b74 o75 =>
 rdT (rdC b74 (o75 + 1)) kB (fun x76 =>
 brW x76
 (j51 class_37 out_38 bare_39 behind_40 gather_41 end_42 r_43 x44 x45 x46 x47 x48 x49 (.tuple ⟨[]⟩) (.tuple ⟨[]⟩) (.tuple ⟨[]⟩) true)
 (ptrW r_43 (fun b77 o78 =>
 rdT (rdC b77 o78) kS (fun (x79 : ByteArray) =>
 j51 class_37 out_38 bare_39 behind_40 gather_41 end_42 r_43 x44 x45 x46 x47 x48 x49 (.pointer (some ⟨b77, o78, none⟩)) (.string x79) (.bool (!strEq x79 (⟨⟨[]⟩⟩ : ByteArray))) (!strEq x79 (⟨⟨[]⟩⟩ : ByteArray)))))))))
 (ptrW r_43 (fun b80 o81 =>
 rdT (rdC b80 o81) kS (fun (x82 : ByteArray) =>
 loopW [.sc .ptr, .sc .ptr, .sc .ptr, .sc .ptr, .sc .raw, .sc .raw, .sc .ptr, .sc .slc, .sc (.int .i64), .sc (.int .i64), .sc .raw, .sc .raw, .sc .raw, .sc (.int .i64), .sc (.int .i64)] (fun (R83 : Option Addr -> Option Addr -> Option Addr -> Option Addr -> Value -> Value -> Option Addr -> Sl -> Int -> Int -> Value -> Value -> Value -> Int -> Int -> H -> Prop) => (fun (class_84 : Option Addr) (out_85 : Option Addr) (bare_86 : Option Addr) (behind_87 : Option Addr) (gather_88 : Value) (end_89 : Value) (r_90 : Option Addr) (x91 : Sl) (x92 : Int) (x93 : Int) (x94 : Value) (x95 : Value) (x96 : Value) (x97 : Int) (x98 : Int) =>
 brW (decide ((x98 : Int) < x97))
 (letJ (T := Option Addr -> Option Addr -> Option Addr -> Option Addr -> Value -> Value -> Option Addr -> Sl -> Int -> Int -> Value -> Value -> Value -> Int -> Int -> H -> Prop) (fun class_100 out_101 bare_102 behind_103 gather_104 end_105 r_106 x107 x108 x109 x110 x111 x112 x113 x114 =>
 R83 class_100 out_101 bare_102 behind_103 gather_104 end_105 r_106 x107 x108 x109 x110 x111 x112 x113 (IntKind.i64.wrap (x114 + 1))) (fun j99 =>
 ptrW r_90 (fun b115 o116 =>
 rdT (rdC b115 o116) kS (fun (x117 : ByteArray) =>
 idxW x117 x98 (fun c118 =>
 ptrW class_84 (fun b119 o120 =>
 ifW (0 <= (c118.toNat : Int) /\ (c118.toNat : Int) < ((256 : Nat) : Int))
 (rdT (rdC b119 (o120 + ((c118.toNat : Int) : Int).toNat * 1)) kI (fun (x121 : Int) =>
 brW ((x121 : Int) == 0)
 (ptrW r_90 (fun b122 o123 =>
 rdT (rdC b122 o123) kS (fun (x124 : ByteArray) =>
 ifW (bndOk (some (IntKind.i64.wrap (x98 + 1))) x124.size /\ bndOk (some x98) ((IntKind.i64.wrap (x98 + 1)).toNat))
 (cvalT Tryz.prog gather_88 [.agg ⟨[.string (x124.extract x98.toNat ((IntKind.i64.wrap (x98 + 1)).toNat)), .bool false, .bool true]⟩] kU (j99 class_84 out_85 bare_86 behind_87 gather_88 end_89 r_90 x91 x92 x93 x94 x95 x96 x97 x98)))))
 (ptrW bare_86 (fun b125 o126 =>
 rdT (rdC b125 o126) kB (fun x127 =>
 brW (!x127)
 (cvalT Tryz.prog end_89 [] kU (stW Tryz.prog 4 (.pointer behind_87) (.bool ((x121 : Int) == 1)) (j99 class_84 out_85 bare_86 behind_87 gather_88 end_89 r_90 x91 x92 x93 x94 x95 x96 x97 x98)))
 (brW ((x121 : Int) == 1)
 (j99 class_84 out_85 bare_86 behind_87 gather_88 end_89 r_90 x91 x92 x93 x94 x95 x96 x97 x98)
 (ptrW behind_87 (fun b128 o129 =>
 rdT (rdC b128 o129) kB (fun x130 =>
 brW x130
 (stW Tryz.prog 4 (.pointer behind_87) (.bool false) (j99 class_84 out_85 bare_86 behind_87 gather_88 end_89 r_90 x91 x92 x93 x94 x95 x96 x97 x98))
 (cvalT Tryz.prog end_89 [] kU (j99 class_84 out_85 bare_86 behind_87 gather_88 end_89 r_90 x91 x92 x93 x94 x95 x96 x97 x98)))))))))))))))))
 (j17 class_84 out_85 bare_86 behind_87 gather_88 end_89 x91 x92 x93 x94 x95 x96))) (fun (R131 : Option Addr -> Option Addr -> Option Addr -> Option Addr -> Value -> Value -> Option Addr -> Sl -> Int -> Int -> Value -> Value -> Value -> Int -> Int -> H -> Prop) => R131 class_37 out_38 bare_39 behind_40 gather_41 end_42 r_43 x44 x45 x46 x47 x48 x49 ((x82.size : Nat) : Int) 0))))) (fun j36 =>
 rdT (rdC b35 1) kB (fun x132 =>
 brW x132
 (j36 class_8 out_9 bare_10 behind_11 gather_12 end_13 (some ⟨b35, 0, none⟩) x14 x15 x16 (.tuple ⟨[]⟩) (.tuple ⟨[]⟩) (.tuple ⟨[]⟩) true)
 (rdT (rdC b35 2) kB (fun x133 =>
 j36 class_8 out_9 bare_10 behind_11 gather_12 end_13 (some ⟨b35, 0, none⟩) x14 x15 x16 (.pointer (some ⟨b35, 2, none⟩)) (.bool x133) (.bool (!x133)) (!x133))))))))))))
 (letJ (T := Option Addr -> H -> Prop) (fun out_135 =>
 ptrW out_135 (fun b136 o137 =>
 rdT (rdC b136 o137) kL (fun x138 =>
 K (.slice x138.base x138.len x138.cap)))) (fun j134 =>
 ptrW bare_10 (fun b139 o140 =>
 rdT (rdC b139 o140) kB (fun x141 =>
 brW (!x141)
 (cvalT Tryz.prog end_13 [] kU (j134 out_9))
 (j134 out_9))))))) (fun (R142 : Option Addr -> Option Addr -> Option Addr -> Option Addr -> Value -> Value -> Sl -> Int -> Int -> H -> Prop) => R142 class_2 (some ⟨b3, 0, none⟩) (some ⟨b5, 0, none⟩) (some ⟨b6, 0, none⟩) (.func (.func 140) ⟨[]⟩ ⟨[.pointer (some ⟨b4, 0, none⟩), .pointer (some ⟨b5, 0, none⟩), .pointer (some ⟨b6, 0, none⟩)]⟩) (.func (.func 141) ⟨[]⟩ ⟨[.pointer (some ⟨b3, 0, none⟩), .pointer (some ⟨b4, 0, none⟩), .pointer (some ⟨b5, 0, none⟩)]⟩) l_1 ((l_1.len : Nat) : Int) 0)))))))
theorem e75 (l_1 : Sl) (class_2 : Option Addr) (K : KH) : bodyF Tryz.prog tau Tryz.f75 an75 [.slice l_1.base l_1.len l_1.cap, .pointer class_2] K = g75 l_1 class_2 K := by kernel_rfl
theorem c75 (l_1 : Sl) (class_2 : Option Addr) {K : KH} {σ : H} (h : g75 l_1 class_2 K σ) : callW Tryz.prog 75 [.slice l_1.base l_1.len l_1.cap, .pointer class_2] K σ := call_of_body mixed Tryz.func75 (by rw [e75]; exact h)


def an79 : Ann := (.seq none (.reg [] []) (.seq none (.reg [] []) .leaf))
def g79 (s_1 : ByteArray) (c_2 : Int) (K : KH) : H -> Prop :=
 cvalT Tryz.prog (.func (.func 143) ⟨[]⟩ ⟨[]⟩) [.string s_1, .int .u8 c_2] kI (fun (x3 : Int) =>
 K (.int .i64 x3))
theorem e79 (s_1 : ByteArray) (c_2 : Int) (K : KH) : bodyF Tryz.prog tau Tryz.f79 an79 [.string s_1, .int .u8 c_2] K = g79 s_1 c_2 K := by kernel_rfl
theorem c79 (s_1 : ByteArray) (c_2 : Int) {K : KH} {σ : H} (h : g79 s_1 c_2 K σ) : callW Tryz.prog 79 [.string s_1, .int .u8 c_2] K σ := call_of_body mixed Tryz.func79 (by rw [e79]; exact h)


def an80 : Ann := (.seq none (.reg [] []) (.seq none (.reg [] []) (.seq none (.reg [] []) (.seq none (.reg [] []) .leaf))))
def g80 (b_1 : Option Addr) (s_2 : ByteArray) (K : KH) : H -> Prop :=
 callT Tryz.prog 144 [.pointer b_1] kU (ptrW b_1 (fun b3 o4 =>
 rdT (rdC b3 (o4 + 1)) kL (fun x5 =>
 biW Tryz.prog .append #[56, 9] 56 [false, false] [.slice x5.base x5.len x5.cap, .string s_2] kL (fun x6 =>
 ptrW b_1 (fun b7 o8 =>
 stW Tryz.prog 56 (.pointer (some ⟨b7, o8 + 1, none⟩)) (.slice x6.base x6.len x6.cap) (K (.tuple ⟨[.int .i64 ((s_2.size : Nat) : Int), .nilIface]⟩)))))))
theorem e80 (b_1 : Option Addr) (s_2 : ByteArray) (K : KH) : bodyF Tryz.prog tau Tryz.f80 an80 [.pointer b_1, .string s_2] K = g80 b_1 s_2 K := by kernel_rfl
theorem c80 (b_1 : Option Addr) (s_2 : ByteArray) {K : KH} {σ : H} (h : g80 b_1 s_2 K σ) : callW Tryz.prog 80 [.pointer b_1, .string s_2] K σ := call_of_body mixed Tryz.func80 (by rw [e80]; exact h)


def an81 : Ann := (.seq none (.reg [] []) (.seq none (.reg [0, 1, 2, 3, 5, 6, 7, 8, 4, 9, 10, 11] [[], [0], [0, 1], [0, 1, 2], [0, 1, 2, 3], [], [5], [5, 6], [5, 6, 7], [5, 6, 7, 8], [0, 1, 2, 3, 4, 5, 6, 7, 8, 9], [0, 1, 2, 3, 4, 5, 6, 7, 8, 9, 10]]) .leaf))
def g81 (b_1 : Option Addr) (K : KH) : H -> Prop :=
 ptrW b_1 (fun b2 o3 =>
 rdT (rdC b2 (o3 + 1)) kL (fun x4 =>
 ptrW b_1 (fun b5 o6 =>
 rdT (rdC b5 (o6 + 1)) kL (fun x7 =>
 biW Tryz.prog .unsafeSliceData #[56] 197 [false] [.slice x4.base x4.len x4.cap] kP (fun x8 =>
 andW (fun σ => (rdC b5 (o6 + 1)) σ = some (.slice x7.base x7.len x7.cap))
 (biW Tryz.prog .unsafeString #[197, 3] 9 [false, false] [.pointer x8, .int .i64 ((x7.len : Nat) : Int)] kS (fun (x9 : ByteArray) =>
 K (.string x9))))))))
theorem e81 (b_1 : Option Addr) (K : KH) : bodyF Tryz.prog tau Tryz.f81 an81 [.pointer b_1] K = g81 b_1 K := by kernel_rfl
theorem c81 (b_1 : Option Addr) {K : KH} {σ : H} (h : g81 b_1 K σ) : callW Tryz.prog 81 [.pointer b_1] K σ := call_of_body mixed Tryz.func81 (by rw [e81]; exact h)


def an82 : Ann := (.seq none (.reg [] []) (.seq none (.seq (some [(1, .sc .ptr), (21, .sc .bool)]) (.reg [] []) (.cond (.seq none (.reg [] []) .leaf) .leaf)) (.seq none (.reg [] []) (.seq none (.reg [] []) .leaf))))
def g82 (q_1 : Int) (q_2 : Int) (K : KH) : H -> Prop :=
 alW (.cells ⟨[.int .i64 q_1, .int .i64 q_2]⟩ 64 (0, 0)) (fun b3 =>
 letJ (T := Option Addr -> Bool -> H -> Prop) (fun q_5 x6 =>
 brW x6
 (K (.pointer none))
 (alW (.map #[] 0) (fun b7 =>
 alW (.cells ⟨[.int .i64 2, .int .i64 493, .string (⟨⟨[]⟩⟩ : ByteArray), .int .i64 1, .int .i64 1, .map (some b7)]⟩ 194 (0, 0)) (fun b8 =>
 ptrW q_5 (fun b9 o10 =>
 rdT (rdA 2 b9 o10) (.one (.agg [(.int .i64), (.int .i64)])) (fun (x11 : Int) (x12 : Int) =>
 alW (.map #[] 0) (fun b13 =>
 muW Tryz.prog 198 (.map (some b13)) (.int .i64 1) (.pointer (some ⟨b8, 0, none⟩)) (alW (.cells ⟨[.int .i64 x11, .int .i64 x12, .int .i64 1, .int .i64 0, .map (some b13), .int .i64 1]⟩ 200 (0, 0)) (fun b14 =>
 K (.pointer (some ⟨b14, 0, none⟩))))))))))) (fun j4 =>
 rdT (rdC b3 0) kI (fun (x15 : Int) =>
 brW (decide ((x15 : Int) < 1))
 (j4 (some ⟨b3, 0, none⟩) true)
 (rdT (rdC b3 0) kI (fun (x16 : Int) =>
 brW (decide ((x16 : Int) > 1048576))
 (j4 (some ⟨b3, 0, none⟩) true)
 (rdT (rdC b3 1) kI (fun (x17 : Int) =>
 brW (decide ((x17 : Int) < 0))
 (j4 (some ⟨b3, 0, none⟩) true)
 (rdT (rdC b3 1) kI (fun (x18 : Int) =>
 j4 (some ⟨b3, 0, none⟩) (decide ((x18 : Int) > 1073741824)))))))))))
theorem e82 (q_1 : Int) (q_2 : Int) (K : KH) : bodyF Tryz.prog tau Tryz.f82 an82 [.agg ⟨[.int .i64 q_1, .int .i64 q_2]⟩] K = g82 q_1 q_2 K := by kernel_rfl
theorem c82 (q_1 : Int) (q_2 : Int) {K : KH} {σ : H} (h : g82 q_1 q_2 K σ) : callW Tryz.prog 82 [.agg ⟨[.int .i64 q_1, .int .i64 q_2]⟩] K σ := call_of_body mixed Tryz.func82 (by rw [e82]; exact h)


def an92 : Ann := (.seq none (.reg [] []) (.seq none (.reg [] []) .leaf))
def g92 (f_1 : Option Addr) (K : KH) : H -> Prop :=
 brW f_1.isNone
 (K (.bool true))
 (ptrW f_1 (fun b2 o3 =>
 rdT (rdC b2 o3) kP (fun x4 =>
 K (.bool x4.isNone))))
theorem e92 (f_1 : Option Addr) (K : KH) : bodyF Tryz.prog tau Tryz.f92 an92 [.pointer f_1] K = g92 f_1 K := by kernel_rfl
theorem c92 (f_1 : Option Addr) {K : KH} {σ : H} (h : g92 f_1 K σ) : callW Tryz.prog 92 [.pointer f_1] K σ := call_of_body mixed Tryz.func92 (by rw [e92]; exact h)


def an94 : Ann := (.seq none (.reg [] []) (.seq none (.reg [] []) (.seq none (.blk (.seq none (.reg [] []) (.cond (.seq none (.reg [] []) .leaf) (.seq none (.reg [] []) (.cond (.seq none (.reg [] []) .leaf) .leaf))))) (.seq none (.reg [] []) .leaf))))
def g94 (f_1 : Option Addr) (cwd_2 : ByteArray) (path_3 : ByteArray) (do_4 : Value) (K : KH) : H -> Prop :=
 callT Tryz.prog 98 [.pointer f_1, .string cwd_2, .string path_3, .bool false] (.tup [.agg [(.int .i64), .str, (.int .i64), .bool], .sc (.int .i64)]) (fun (x5 : Int) (x6 : ByteArray) (x7 : Int) (x8 : Bool) (x9 : Int) =>
 alW (.cells ⟨[.int .i64 0, .string (⟨⟨[]⟩⟩ : ByteArray), .int .i64 0, .bool false]⟩ 142 (0, 0)) (fun b10 =>
 stW Tryz.prog 142 (.pointer (some ⟨b10, 0, none⟩)) (.agg ⟨[.int .i64 x5, .string x6, .int .i64 x7, .bool x8]⟩) (brW ((x9 : Int) != 0)
 (K (.int .i64 x9))
 (rdT (rdC b10 3) kB (fun x11 =>
 brW x11
 (K (.int .i64 6))
 (rdT (rdA 4 b10 0) (.one (.agg [(.int .i64), .str, (.int .i64), .bool])) (fun (x12 : Int) (x13 : ByteArray) (x14 : Int) (x15 : Bool) =>
 cvalT Tryz.prog do_4 [.agg ⟨[.int .i64 x12, .string x13, .int .i64 x14, .bool x15]⟩] kI (fun (x16 : Int) =>
 K (.int .i64 x16)))))))))
theorem e94 (f_1 : Option Addr) (cwd_2 : ByteArray) (path_3 : ByteArray) (do_4 : Value) (K : KH) : bodyF Tryz.prog tau Tryz.f94 an94 [.pointer f_1, .string cwd_2, .string path_3, do_4] K = g94 f_1 cwd_2 path_3 do_4 K := by kernel_rfl
theorem c94 (f_1 : Option Addr) (cwd_2 : ByteArray) (path_3 : ByteArray) (do_4 : Value) {K : KH} {σ : H} (h : g94 f_1 cwd_2 path_3 do_4 K σ) : callW Tryz.prog 94 [.pointer f_1, .string cwd_2, .string path_3, do_4] K σ := call_of_body mixed Tryz.func94 (by rw [e94]; exact h)


def an95 : Ann := (.seq none (.reg [] []) (.seq none (.reg [0, 1, 2, 3, 4, 5, 6, 7, 8, 9, 10, 11, 12, 13, 14] [[], [0], [0, 1], [0, 1, 2], [], [4], [], [6], [], [0, 1, 2, 3, 4, 5, 6, 7, 8], [0, 1, 2, 3, 4, 5, 6, 7, 8, 9], [0, 1, 2, 3, 4, 5, 6, 7, 8, 9, 10], [0, 1, 2, 3, 4, 5, 6, 7, 8, 9, 10], [0, 1, 2, 3, 4, 5, 6, 7, 8, 9, 10, 11], [0, 1, 2, 3, 4, 5, 6, 7, 8, 9, 10, 11, 12, 13]]) (.seq none (.reg [] []) .leaf)))
def g95 (p_1 : Int) (p_2 : ByteArray) (p_3 : Int) (p_4 : Bool) (x5 : Option Addr) (x6 : Option Addr) (K : KH) : H -> Prop :=
 alW (.cells ⟨[.int .i64 p_1, .string p_2, .int .i64 p_3, .bool p_4]⟩ 142 (0, 0)) (fun b7 =>
 ptrW x5 (fun b8 o9 =>
 rdT (rdC b8 o9) kP (fun x10 =>
 ptrW x10 (fun b11 o12 =>
 rdT (rdC b11 o12) kP (fun x13 =>
 rdT (rdC b7 0) kI (fun (x14 : Int) =>
 rdT (rdC b7 1) kS (fun (x15 : ByteArray) =>
 ptrW x6 (fun b16 o17 =>
 rdT (rdC b16 o17) kS (fun (x18 : ByteArray) =>
 callT Tryz.prog 96 [.pointer x13, .int .i64 x14, .string x15, .int .i64 3, .int .i64 511, .string x18] (.tup [.sc (.int .i64), .sc (.int .i64)]) (fun (_x19 : Int) (x20 : Int) =>
 K (.int .i64 x20)))))))))))
theorem e95 (p_1 : Int) (p_2 : ByteArray) (p_3 : Int) (p_4 : Bool) (x5 : Option Addr) (x6 : Option Addr) (K : KH) : bodyF Tryz.prog tau Tryz.f95 an95 [.agg ⟨[.int .i64 p_1, .string p_2, .int .i64 p_3, .bool p_4]⟩, .pointer x5, .pointer x6] K = g95 p_1 p_2 p_3 p_4 x5 x6 K := by kernel_rfl
theorem c95 (p_1 : Int) (p_2 : ByteArray) (p_3 : Int) (p_4 : Bool) (x5 : Option Addr) (x6 : Option Addr) {K : KH} {σ : H} (h : g95 p_1 p_2 p_3 p_4 x5 x6 K σ) : callW Tryz.prog 95 [.agg ⟨[.int .i64 p_1, .string p_2, .int .i64 p_3, .bool p_4]⟩, .pointer x5, .pointer x6] K σ := call_of_body mixed Tryz.func95 (by rw [e95]; exact h)


def an96 : Ann := (.seq none (.reg [] []) (.seq none (.reg [] []) (.seq none (.seq none (.reg [0, 1, 2, 3, 5, 7, 8, 4, 6, 9, 10, 11, 12, 13, 14, 15] [[], [0], [], [], [2, 3], [], [2, 3, 4, 5], [], [], [], [], [2, 3, 4, 5, 6, 8, 9, 10], [], [0, 1, 2, 3, 4, 5, 6, 7, 8, 9, 10, 11, 12], [0, 1, 2, 3, 4, 5, 6, 7, 8, 9, 10, 11, 12, 13], [0, 1, 2, 3, 4, 5, 6, 7, 8, 9, 10, 11, 12, 13, 14]]) (.seq none (.reg [] []) (.cond (.seq none (.reg [] []) .leaf) .leaf))) (.seq none (.reg [] []) (.seq none (.reg [] []) (.seq (some [(1, .sc (.int .i64)), (2, .sc .str), (6, .sc .ptr), (11, .sc .ptr), (16, .sc .ptr)]) (.seq none (.reg [] []) (.cond (.reg [] []) .leaf)) (.seq none (.reg [0, 1, 2, 3, 4, 5, 6, 7, 8, 9] [[], [0], [0, 1], [0, 1, 2], [], [4], [4, 5], [4, 5, 6], [], [0, 1, 2, 3, 4, 5, 6, 7, 8]]) (.seq none (.reg [0, 1, 2, 3, 4, 5, 6, 7, 8, 9, 10, 11, 12, 13, 14] [[], [0], [0, 1], [0, 1, 2], [], [0, 1, 2, 3, 4], [0, 1, 2, 3, 4, 5], [0, 1, 2, 3, 4, 5, 6], [0, 1, 2, 3, 4, 5, 6, 7], [], [], [10], [10, 11], [10, 11, 12], [0, 1, 2, 3, 4, 5, 6, 7, 8, 9, 10, 11, 12, 13]]) (.seq none (.reg [] []) (.seq none (.reg [0, 1, 2, 3, 4, 5, 6, 7, 8, 9, 10, 11] [[], [0], [0, 1], [0, 1, 2], [0, 1, 2, 3], [], [5], [0, 1, 2, 3, 4, 5, 6], [0, 1, 2, 3, 4, 5, 6, 7], [0, 1, 2, 3, 4, 5, 6, 7, 8], [0, 1, 2, 3, 4, 5, 6, 7, 8, 9], [0, 1, 2, 3, 4, 5, 6, 7, 8, 9, 10]]) (.seq none (.reg [] []) .leaf)))))))))))
def g96 (t_1 : Option Addr) (dir_2 : Int) (name_3 : ByteArray) (kind_4 : Int) (mode_5 : Int) (data_6 : ByteArray) (K : KH) : H -> Prop :=
 alW (.cells ⟨[.pointer t_1]⟩ 108 (0, 0)) (fun b7 =>
 alW (.cells ⟨[.int .i64 kind_4]⟩ 3 (0, 0)) (fun b8 =>
 alW (.cells ⟨[.int .i64 mode_5]⟩ 3 (0, 0)) (fun b9 =>
 alW (.cells ⟨[.string data_6]⟩ 9 (0, 0)) (fun b10 =>
 rdT (rdC b7 0) kP (fun x11 =>
 rdT (rdC b7 0) kP (fun x12 =>
 rdT (rdC b7 0) kP (fun x13 =>
 callT Tryz.prog 164 [.pointer x12, .int .i64 dir_2] kR (fun x14 =>
 andW (fun σ => (rdC b7 0) σ = some (.pointer x13))
 (andW (fun σ => (rdC b7 0) σ = some (.pointer x11))
 (callT Tryz.prog 165 [.string name_3] kR (fun x15 =>
 andW (fun σ => (rdC b7 0) σ = some (.pointer x13))
 (andW (fun σ => (rdC b7 0) σ = some (.pointer x11))
 (callT Tryz.prog 166 [.pointer x13, .int .i64 dir_2, .string name_3] kR (fun x16 =>
 andW (fun σ => (rdC b7 0) σ = some (.pointer x11))
 (oneK x14
 (oneK x15
 (oneK x16
 (alW (.cells ⟨[.func (.func 163) ⟨[.pointer x11]⟩ ⟨[]⟩, x14, x15, .func (.func 160) ⟨[]⟩ ⟨[.pointer (some ⟨b10, 0, none⟩), .pointer (some ⟨b8, 0, none⟩), .pointer (some ⟨b9, 0, none⟩)]⟩, x16, .func (.func 167) ⟨[]⟩ ⟨[.pointer (some ⟨b7, 0, none⟩), .pointer (some ⟨b10, 0, none⟩)]⟩]⟩ 204 (0, 0)) (fun b17 =>
 callT Tryz.prog 162 [.slice (some ⟨b17, 0, none⟩) 6 6] kI (fun (x18 : Int) =>
 brW ((x18 : Int) != 0)
 (K (.tuple ⟨[.int .i64 0, .int .i64 x18]⟩))
 (rdT (rdC b7 0) kP (fun x19 =>
 ptrW x19 (fun b20 o21 =>
 rdT (rdC b20 (o21 + 5)) kI (fun (x22 : Int) =>
 ptrW x19 (fun b23 o24 =>
 stW Tryz.prog 3 (.pointer (some ⟨b23, o24 + 5, none⟩)) (.int .i64 (IntKind.i64.wrap (x22 + 1))) (rdT (rdC b8 0) kI (fun (x25 : Int) =>
 rdT (rdC b9 0) kI (fun (x26 : Int) =>
 rdT (rdC b10 0) kS (fun (x27 : ByteArray) =>
 alW (.cells ⟨[.int .i64 x25, .int .i64 x26, .string x27, .int .i64 1, .int .i64 0, .map none]⟩ 194 (0, 0)) (fun b28 =>
 letJ (T := Int -> ByteArray -> Option Addr -> Option Addr -> Option Addr -> H -> Prop) (fun dir_30 name_31 t_32 data_33 n_34 =>
 ptrW t_32 (fun b35 o36 =>
 rdT (rdC b35 o36) kP (fun x37 =>
 ptrW x37 (fun b38 o39 =>
 rdT (rdC b38 (o39 + 4)) kM (fun (x40 : Option Nat) =>
 ptrW t_32 (fun b41 o42 =>
 rdT (rdC b41 o42) kP (fun x43 =>
 ptrW x43 (fun b44 o45 =>
 rdT (rdC b44 (o45 + 5)) kI (fun (x46 : Int) =>
 muW Tryz.prog 198 (.map x40) (.int .i64 x46) (.pointer n_34) (ptrW t_32 (fun b47 o48 =>
 rdT (rdC b47 o48) kP (fun x49 =>
 ptrW x49 (fun b50 o51 =>
 rdT (rdC b50 (o51 + 4)) kM (fun (x52 : Option Nat) =>
 rdT (rdM (.int .i64) (.pointer none) false x52 (.int .i64 dir_30)) kP (fun x53 =>
 ptrW x53 (fun b54 o55 =>
 rdT (rdC b54 (o55 + 5)) kM (fun (x56 : Option Nat) =>
 ptrW t_32 (fun b57 o58 =>
 rdT (rdC b57 o58) kP (fun x59 =>
 ptrW x59 (fun b60 o61 =>
 rdT (rdC b60 (o61 + 5)) kI (fun (x62 : Int) =>
 muW Tryz.prog 192 (.map x56) (.string name_31) (.int .i64 x62) (ptrW t_32 (fun b63 o64 =>
 rdT (rdC b63 o64) kP (fun x65 =>
 ptrW x65 (fun b66 o67 =>
 rdT (rdC b66 (o67 + 2)) kI (fun (x68 : Int) =>
 ptrW x65 (fun b69 o70 =>
 stW Tryz.prog 3 (.pointer (some ⟨b69, o70 + 2, none⟩)) (.int .i64 (IntKind.i64.wrap (x68 + 1))) (ptrW t_32 (fun b71 o72 =>
 rdT (rdC b71 o72) kP (fun x73 =>
 ptrW x73 (fun b74 o75 =>
 rdT (rdC b74 (o75 + 3)) kI (fun (x76 : Int) =>
 ptrW data_33 (fun b77 o78 =>
 rdT (rdC b77 o78) kS (fun (x79 : ByteArray) =>
 ptrW x73 (fun b80 o81 =>
 stW Tryz.prog 3 (.pointer (some ⟨b80, o81 + 3, none⟩)) (.int .i64 (IntKind.i64.wrap (x76 + ((x79.size : Nat) : Int)))) (ptrW t_32 (fun b82 o83 =>
 rdT (rdC b82 o83) kP (fun x84 =>
 ptrW x84 (fun b85 o86 =>
 rdT (rdC b85 (o86 + 5)) kI (fun (x87 : Int) =>
 K (.tuple ⟨[.int .i64 x87, .int .i64 0]⟩))))))))))))))))))))))))))))))))))))))))) (fun j29 =>
 rdT (rdC b8 0) kI (fun (x88 : Int) =>
 brW ((x88 : Int) == 2)
 (alW (.map #[] 0) (fun b89 =>
 stW Tryz.prog 3 (.pointer (some ⟨b28, 4, none⟩)) (.int .i64 dir_2) (stW Tryz.prog 192 (.pointer (some ⟨b28, 5, none⟩)) (.map (some b89)) (j29 dir_2 name_3 (some ⟨b7, 0, none⟩) (some ⟨b10, 0, none⟩) (some ⟨b28, 0, none⟩)))))
 (j29 dir_2 name_3 (some ⟨b7, 0, none⟩) (some ⟨b10, 0, none⟩) (some ⟨b28, 0, none⟩))))))))))))))))))))))))))))))))))
theorem e96 (t_1 : Option Addr) (dir_2 : Int) (name_3 : ByteArray) (kind_4 : Int) (mode_5 : Int) (data_6 : ByteArray) (K : KH) : bodyF Tryz.prog tau Tryz.f96 an96 [.pointer t_1, .int .i64 dir_2, .string name_3, .int .i64 kind_4, .int .i64 mode_5, .string data_6] K = g96 t_1 dir_2 name_3 kind_4 mode_5 data_6 K := by kernel_rfl
theorem c96 (t_1 : Option Addr) (dir_2 : Int) (name_3 : ByteArray) (kind_4 : Int) (mode_5 : Int) (data_6 : ByteArray) {K : KH} {σ : H} (h : g96 t_1 dir_2 name_3 kind_4 mode_5 data_6 K σ) : callW Tryz.prog 96 [.pointer t_1, .int .i64 dir_2, .string name_3, .int .i64 kind_4, .int .i64 mode_5, .string data_6] K σ := call_of_body mixed Tryz.func96 (by rw [e96]; exact h)


def an97 : Ann := (.seq none (.reg [] []) (.seq none (.seq none (.reg [] []) (.cond (.reg [] []) .leaf)) (.seq none (.reg [0, 1, 2, 3, 4, 5, 6, 7, 8, 9, 10, 11, 12] [[], [0], [0, 1], [0, 1, 2], [0, 1, 2, 3], [], [5], [5, 6], [5, 6, 7], [5, 6, 7, 8], [0, 1, 2, 3, 4, 5, 6, 7, 8, 9], [], [0, 1, 2, 3, 4, 5, 6, 7, 8, 9, 10, 11]]) (.cond (.reg [] []) .leaf))))
def g97 (b_1 : Option Addr) (n_2 : Int) (K : KH) : H -> Prop :=
 callT Tryz.prog 144 [.pointer b_1] kU (brW (decide ((n_2 : Int) < 0))
 (nW)
 (ptrW b_1 (fun b3 o4 =>
 rdT (rdC b3 (o4 + 1)) kL (fun x5 =>
 ptrW b_1 (fun b6 o7 =>
 rdT (rdC b6 (o7 + 1)) kL (fun x8 =>
 brW (decide (((IntKind.i64.wrap (((x5.cap : Nat) : Int) - ((x8.len : Nat) : Int))) : Int) < n_2))
 (callT Tryz.prog 169 [.pointer b_1, .int .i64 n_2] kU (K (.tuple ⟨[]⟩)))
 (K (.tuple ⟨[]⟩))))))))
theorem e97 (b_1 : Option Addr) (n_2 : Int) (K : KH) : bodyF Tryz.prog tau Tryz.f97 an97 [.pointer b_1, .int .i64 n_2] K = g97 b_1 n_2 K := by kernel_rfl
theorem c97 (b_1 : Option Addr) (n_2 : Int) {K : KH} {σ : H} (h : g97 b_1 n_2 K σ) : callW Tryz.prog 97 [.pointer b_1, .int .i64 n_2] K σ := call_of_body mixed Tryz.func97 (by rw [e97]; exact h)


def an98 : Ann := (.seq none (.reg [] []) (.seq none (.seq none (.reg [] []) (.cond (.seq none (.reg [] []) .leaf) .leaf)) (.seq none (.reg [] []) (.seq none (.seq none (.reg [] []) (.cond (.seq none (.reg [] []) .leaf) .leaf)) (.seq (some [(0, .sc .ptr), (2, .sc .str), (3, .sc .bool), (8, .sc .ptr), (10, .sc (.int .i64)), (11, .sc .ptr)]) (.seq none (.reg [] []) (.cond (.seq none (.seq none (.reg [] []) (.cond (.seq none (.reg [] []) .leaf) .leaf)) (.seq none (.reg [] []) (.seq none (.blk (.seq none (.reg [] []) (.cond (.seq none (.reg [] []) .leaf) (.seq none (.reg [] []) (.cond (.seq none (.reg [] []) .leaf) (.seq none (.reg [] []) (.cond (.seq none (.reg [] []) .leaf) .leaf))))))) (.reg [] [])))) .leaf)) (.seq none (.reg [] []) .leaf))))))
def g98 (f_1 : Option Addr) (cwd_2 : ByteArray) (path_3 : ByteArray) (follow_4 : Bool) (K : KH) : H -> Prop :=
 alW (.cells ⟨[.int .i64 0, .string (⟨⟨[]⟩⟩ : ByteArray), .int .i64 0, .bool false]⟩ 142 (0, 0)) (fun b5 =>
 callT Tryz.prog 92 [.pointer f_1] kB (fun x6 =>
 brW x6
 (stW Tryz.prog 142 (.pointer (some ⟨b5, 0, none⟩)) (.agg ⟨[.int .i64 0, .string (⟨⟨[]⟩⟩ : ByteArray), .int .i64 0, .bool false]⟩) (rdT (rdA 4 b5 0) (.one (.agg [(.int .i64), .str, (.int .i64), .bool])) (fun (r7 : Int) (r8 : ByteArray) (r9 : Int) (r10 : Bool) =>
 K (.tuple ⟨[.agg ⟨[.int .i64 r7, .string r8, .int .i64 r9, .bool r10]⟩, .int .i64 1]⟩))))
 (ptrW f_1 (fun b11 o12 =>
 rdT (rdC b11 o12) kP (fun x13 =>
 callT Tryz.prog 123 [.pointer x13] kI (fun (x14 : Int) =>
 alW (.cells ⟨[.int .i64 0]⟩ 3 (0, 0)) (fun b15 =>
 stW Tryz.prog 3 (.pointer (some ⟨b15, 0, none⟩)) (.int .i64 8) (brW (strEq path_3 (⟨⟨[]⟩⟩ : ByteArray))
 (stW Tryz.prog 142 (.pointer (some ⟨b5, 0, none⟩)) (.agg ⟨[.int .i64 0, .string (⟨⟨[]⟩⟩ : ByteArray), .int .i64 0, .bool false]⟩) (rdT (rdA 4 b5 0) (.one (.agg [(.int .i64), .str, (.int .i64), .bool])) (fun (r16 : Int) (r17 : ByteArray) (r18 : Int) (r19 : Bool) =>
 K (.tuple ⟨[.agg ⟨[.int .i64 r16, .string r17, .int .i64 r18, .bool r19]⟩, .int .i64 5]⟩))))
 (letJ (T := Option Addr -> ByteArray -> Bool -> Option Addr -> Int -> Option Addr -> H -> Prop) (fun f_21 path_22 follow_23 x24 at_25 hops_26 =>
 callT Tryz.prog 170 [.pointer f_21, .int .i64 at_25, .string path_22, .bool follow_23, .pointer hops_26] (.tup [.agg [(.int .i64), .str, (.int .i64), .bool], .sc (.int .i64)]) (fun (x27 : Int) (x28 : ByteArray) (x29 : Int) (x30 : Bool) (x31 : Int) =>
 stW Tryz.prog 142 (.pointer x24) (.agg ⟨[.int .i64 x27, .string x28, .int .i64 x29, .bool x30]⟩) (ptrW x24 (fun b32 o33 =>
 rdT (rdA 4 b32 o33) (.one (.agg [(.int .i64), .str, (.int .i64), .bool])) (fun (r34 : Int) (r35 : ByteArray) (r36 : Int) (r37 : Bool) =>
 K (.tuple ⟨[.agg ⟨[.int .i64 r34, .string r35, .int .i64 r36, .bool r37]⟩, .int .i64 x31]⟩)))))) (fun j20 =>
 idxW path_3 0 (fun c38 =>
 brW (((c38.toNat : Int) : Int) != 47)
 (callT Tryz.prog 106 [.string cwd_2, .string (⟨⟨[47]⟩⟩ : ByteArray)] kB (fun x39 =>
 brW (!x39)
 (stW Tryz.prog 142 (.pointer (some ⟨b5, 0, none⟩)) (.agg ⟨[.int .i64 0, .string (⟨⟨[]⟩⟩ : ByteArray), .int .i64 0, .bool false]⟩) (rdT (rdA 4 b5 0) (.one (.agg [(.int .i64), .str, (.int .i64), .bool])) (fun (r40 : Int) (r41 : ByteArray) (r42 : Int) (r43 : Bool) =>
 K (.tuple ⟨[.agg ⟨[.int .i64 r40, .string r41, .int .i64 r42, .bool r43]⟩, .int .i64 5]⟩))))
 (callT Tryz.prog 170 [.pointer f_1, .int .i64 x14, .string cwd_2, .bool true, .pointer (some ⟨b15, 0, none⟩)] (.tup [.agg [(.int .i64), .str, (.int .i64), .bool], .sc (.int .i64)]) (fun (x44 : Int) (x45 : ByteArray) (x46 : Int) (x47 : Bool) (x48 : Int) =>
 alW (.cells ⟨[.int .i64 0, .string (⟨⟨[]⟩⟩ : ByteArray), .int .i64 0, .bool false]⟩ 142 (0, 0)) (fun b49 =>
 stW Tryz.prog 142 (.pointer (some ⟨b49, 0, none⟩)) (.agg ⟨[.int .i64 x44, .string x45, .int .i64 x46, .bool x47]⟩) (brW ((x48 : Int) != 0)
 (stW Tryz.prog 142 (.pointer (some ⟨b5, 0, none⟩)) (.agg ⟨[.int .i64 0, .string (⟨⟨[]⟩⟩ : ByteArray), .int .i64 0, .bool false]⟩) (rdT (rdA 4 b5 0) (.one (.agg [(.int .i64), .str, (.int .i64), .bool])) (fun (r50 : Int) (r51 : ByteArray) (r52 : Int) (r53 : Bool) =>
 K (.tuple ⟨[.agg ⟨[.int .i64 r50, .string r51, .int .i64 r52, .bool r53]⟩, .int .i64 x48]⟩))))
 (rdT (rdC b49 3) kB (fun x54 =>
 brW (!x54)
 (stW Tryz.prog 142 (.pointer (some ⟨b5, 0, none⟩)) (.agg ⟨[.int .i64 0, .string (⟨⟨[]⟩⟩ : ByteArray), .int .i64 0, .bool false]⟩) (rdT (rdA 4 b5 0) (.one (.agg [(.int .i64), .str, (.int .i64), .bool])) (fun (r55 : Int) (r56 : ByteArray) (r57 : Int) (r58 : Bool) =>
 K (.tuple ⟨[.agg ⟨[.int .i64 r55, .string r56, .int .i64 r57, .bool r58]⟩, .int .i64 5]⟩))))
 (rdT (rdC b49 2) kI (fun (x59 : Int) =>
 callT Tryz.prog 110 [.pointer f_1, .int .i64 x59] kI (fun (x60 : Int) =>
 brW ((x60 : Int) != 2)
 (stW Tryz.prog 142 (.pointer (some ⟨b5, 0, none⟩)) (.agg ⟨[.int .i64 0, .string (⟨⟨[]⟩⟩ : ByteArray), .int .i64 0, .bool false]⟩) (rdT (rdA 4 b5 0) (.one (.agg [(.int .i64), .str, (.int .i64), .bool])) (fun (r61 : Int) (r62 : ByteArray) (r63 : Int) (r64 : Bool) =>
 K (.tuple ⟨[.agg ⟨[.int .i64 r61, .string r62, .int .i64 r63, .bool r64]⟩, .int .i64 8]⟩))))
 (rdT (rdC b49 2) kI (fun (x65 : Int) =>
 stW Tryz.prog 3 (.pointer (some ⟨b15, 0, none⟩)) (.int .i64 8) (j20 f_1 path_3 follow_4 (some ⟨b5, 0, none⟩) x65 (some ⟨b15, 0, none⟩)))))))))))))))
 (j20 f_1 path_3 follow_4 (some ⟨b5, 0, none⟩) x14 (some ⟨b15, 0, none⟩)))))))))))))
theorem e98 (f_1 : Option Addr) (cwd_2 : ByteArray) (path_3 : ByteArray) (follow_4 : Bool) (K : KH) : bodyF Tryz.prog tau Tryz.f98 an98 [.pointer f_1, .string cwd_2, .string path_3, .bool follow_4] K = g98 f_1 cwd_2 path_3 follow_4 K := by kernel_rfl
theorem c98 (f_1 : Option Addr) (cwd_2 : ByteArray) (path_3 : ByteArray) (follow_4 : Bool) {K : KH} {σ : H} (h : g98 f_1 cwd_2 path_3 follow_4 K σ) : callW Tryz.prog 98 [.pointer f_1, .string cwd_2, .string path_3, .bool follow_4] K σ := call_of_body mixed Tryz.func98 (by rw [e98]; exact h)


def an99 : Ann := (.seq none (.reg [] []) (.seq none (.reg [] []) (.seq none (.seq none (.reg [] []) (.cond (.seq none (.reg [] []) .leaf) .leaf)) (.seq none (.reg [] []) .leaf))))
def g99 (t_1 : Option Addr) (ino_2 : Int) (K : KH) : H -> Prop :=
 alW (.cells ⟨[.int .i64 0, .int .i64 0, .string (⟨⟨[]⟩⟩ : ByteArray), .int .i64 0]⟩ 35 (0, 0)) (fun b3 =>
 callT Tryz.prog 138 [.pointer t_1, .int .i64 ino_2] kP (fun x4 =>
 brW x4.isNone
 (stW Tryz.prog 35 (.pointer (some ⟨b3, 0, none⟩)) (.agg ⟨[.int .i64 0, .int .i64 0, .string (⟨⟨[]⟩⟩ : ByteArray), .int .i64 0]⟩) (rdT (rdA 4 b3 0) (.one (.agg [(.int .i64), (.int .i64), .str, (.int .i64)])) (fun (r5 : Int) (r6 : Int) (r7 : ByteArray) (r8 : Int) =>
 K (.tuple ⟨[.agg ⟨[.int .i64 r5, .int .i64 r6, .string r7, .int .i64 r8]⟩, .bool false]⟩))))
 (ptrW x4 (fun b9 o10 =>
 rdT (rdA 4 b9 o10) (.one (.agg [(.int .i64), (.int .i64), .str, (.int .i64)])) (fun (x11 : Int) (x12 : Int) (x13 : ByteArray) (x14 : Int) =>
 stW Tryz.prog 35 (.pointer (some ⟨b3, 0, none⟩)) (.agg ⟨[.int .i64 x11, .int .i64 x12, .string x13, .int .i64 x14]⟩) (rdT (rdA 4 b3 0) (.one (.agg [(.int .i64), (.int .i64), .str, (.int .i64)])) (fun (r15 : Int) (r16 : Int) (r17 : ByteArray) (r18 : Int) =>
 K (.tuple ⟨[.agg ⟨[.int .i64 r15, .int .i64 r16, .string r17, .int .i64 r18]⟩, .bool true]⟩))))))))
theorem e99 (t_1 : Option Addr) (ino_2 : Int) (K : KH) : bodyF Tryz.prog tau Tryz.f99 an99 [.pointer t_1, .int .i64 ino_2] K = g99 t_1 ino_2 K := by kernel_rfl
theorem c99 (t_1 : Option Addr) (ino_2 : Int) {K : KH} {σ : H} (h : g99 t_1 ino_2 K σ) : callW Tryz.prog 99 [.pointer t_1, .int .i64 ino_2] K σ := call_of_body mixed Tryz.func99 (by rw [e99]; exact h)


def an100 : Ann := (.seq none (.reg [] []) (.seq none (.reg [] []) (.seq none (.seq none (.reg [0, 1, 2, 3, 4, 5, 6, 7, 8] [[], [0], [], [], [2, 3], [], [0, 1, 2, 3, 4, 5], [0, 1, 2, 3, 4, 5, 6], [0, 1, 2, 3, 4, 5, 6, 7]]) (.seq none (.reg [] []) (.cond (.seq none (.reg [] []) .leaf) .leaf))) (.seq none (.reg [0, 1, 2, 3, 4, 5, 6] [[], [0], [0, 1], [0, 1, 2], [], [0, 1, 2, 3, 4], [0, 1, 2, 3, 4, 5]]) (.seq none (.reg [0, 1, 2, 3, 4, 5, 6, 7, 8, 9, 10, 11, 12, 13, 14, 15, 16, 17, 18] [[], [0], [0, 1], [0, 1, 2], [0, 1, 2, 3], [], [5], [], [7], [7, 8], [7, 8, 9], [7, 8, 9, 10], [7, 8, 9, 10, 11], [5, 6, 7, 8, 9, 10, 11, 12], [0, 1, 2, 3, 4, 5, 6, 7, 8, 9, 10, 11, 12, 13], [0, 1, 2, 3, 4, 5, 6, 7, 8, 9, 10, 11, 12, 13, 14], [0, 1, 2, 3, 4, 5, 6, 7, 8, 9, 10, 11, 12, 13, 14, 15], [0, 1, 2, 3, 4, 5, 6, 7, 8, 9, 10, 11, 12, 13, 14, 15, 16], [0, 1, 2, 3, 4, 5, 6, 7, 8, 9, 10, 11, 12, 13, 14, 15, 16, 17]]) (.seq none (.reg [] []) (.seq none (.reg [] []) .leaf)))))))
def g100 (t_1 : Option Addr) (ino_2 : Int) (data_3 : ByteArray) (K : KH) : H -> Prop :=
 alW (.cells ⟨[.pointer t_1]⟩ 108 (0, 0)) (fun b4 =>
 alW (.cells ⟨[.int .i64 ino_2]⟩ 3 (0, 0)) (fun b5 =>
 alW (.cells ⟨[.string data_3]⟩ 9 (0, 0)) (fun b6 =>
 rdT (rdC b4 0) kP (fun x7 =>
 rdT (rdC b4 0) kP (fun x8 =>
 rdT (rdC b5 0) kI (fun (x9 : Int) =>
 callT Tryz.prog 172 [.pointer x8, .int .i64 x9] kR (fun x10 =>
 andW (fun σ => (rdC b4 0) σ = some (.pointer x7))
 (oneK x10
 (alW (.cells ⟨[.func (.func 163) ⟨[.pointer x7]⟩ ⟨[]⟩, x10, .func (.func 171) ⟨[]⟩ ⟨[.pointer (some ⟨b4, 0, none⟩), .pointer (some ⟨b6, 0, none⟩), .pointer (some ⟨b5, 0, none⟩)]⟩]⟩ 204 (0, 0)) (fun b11 =>
 callT Tryz.prog 162 [.slice (some ⟨b11, 0, none⟩) 3 3] kI (fun (x12 : Int) =>
 brW ((x12 : Int) != 0)
 (K (.int .i64 x12))
 (rdT (rdC b4 0) kP (fun x13 =>
 ptrW x13 (fun b14 o15 =>
 rdT (rdC b14 (o15 + 4)) kM (fun (x16 : Option Nat) =>
 rdT (rdC b5 0) kI (fun (x17 : Int) =>
 rdT (rdM (.int .i64) (.pointer none) false x16 (.int .i64 x17)) kP (fun x18 =>
 rdT (rdC b4 0) kP (fun x19 =>
 ptrW x19 (fun b20 o21 =>
 rdT (rdC b20 (o21 + 3)) kI (fun (x22 : Int) =>
 rdT (rdC b6 0) kS (fun (x23 : ByteArray) =>
 ptrW x18 (fun b24 o25 =>
 rdT (rdC b24 (o25 + 2)) kS (fun (x26 : ByteArray) =>
 ptrW x19 (fun b27 o28 =>
 stW Tryz.prog 3 (.pointer (some ⟨b27, o28 + 3, none⟩)) (.int .i64 (IntKind.i64.wrap (x22 + (IntKind.i64.wrap (((x23.size : Nat) : Int) - ((x26.size : Nat) : Int)))))) (rdT (rdC b6 0) kS (fun (x29 : ByteArray) =>
 ptrW x18 (fun b30 o31 =>
 stW Tryz.prog 9 (.pointer (some ⟨b30, o31 + 2, none⟩)) (.string x29) (K (.int .i64 0)))))))))))))))))))))))))))))
theorem e100 (t_1 : Option Addr) (ino_2 : Int) (data_3 : ByteArray) (K : KH) : bodyF Tryz.prog tau Tryz.f100 an100 [.pointer t_1, .int .i64 ino_2, .string data_3] K = g100 t_1 ino_2 data_3 K := by kernel_rfl
theorem c100 (t_1 : Option Addr) (ino_2 : Int) (data_3 : ByteArray) {K : KH} {σ : H} (h : g100 t_1 ino_2 data_3 K σ) : callW Tryz.prog 100 [.pointer t_1, .int .i64 ino_2, .string data_3] K σ := call_of_body mixed Tryz.func100 (by rw [e100]; exact h)


def an101 : Ann := (.seq none (.reg [] []) (.seq none (.seq none (.reg [] []) (.cond (.seq none (.reg [] []) .leaf) .leaf)) (.seq none (.reg [0, 1, 2, 3, 4, 5, 6, 7, 8, 9, 10, 11, 12, 13] [[], [0], [0, 1], [0, 1, 2], [], [4], [], [6], [0, 1, 2, 3, 4, 5, 6, 7], [0, 1, 2, 3, 4, 5, 6, 7, 8], [0, 1, 2, 3, 4, 5, 6, 7, 8, 9], [0, 1, 2, 3, 4, 5, 6, 7, 8, 9], [0, 1, 2, 3, 4, 5, 6, 7, 8, 9, 10], [0, 1, 2, 3, 4, 5, 6, 7, 8, 9, 10, 11, 12]]) (.seq none (.reg [] []) .leaf))))
def g101 (p_1 : Int) (p_2 : ByteArray) (p_3 : Int) (p_4 : Bool) (x5 : Option Addr) (K : KH) : H -> Prop :=
 alW (.cells ⟨[.int .i64 p_1, .string p_2, .int .i64 p_3, .bool p_4]⟩ 142 (0, 0)) (fun b6 =>
 ptrW x5 (fun b7 o8 =>
 rdT (rdC b7 o8) kP (fun x9 =>
 rdT (rdC b6 0) kI (fun (x10 : Int) =>
 callT Tryz.prog 102 [.pointer x9, .int .i64 x10] kI (fun (x11 : Int) =>
 brW (decide ((x11 : Int) >= 12))
 (K (.int .i64 3))
 (ptrW x5 (fun b12 o13 =>
 rdT (rdC b12 o13) kP (fun x14 =>
 ptrW x14 (fun b15 o16 =>
 rdT (rdC b15 o16) kP (fun x17 =>
 rdT (rdC b6 0) kI (fun (x18 : Int) =>
 rdT (rdC b6 1) kS (fun (x19 : ByteArray) =>
 callT Tryz.prog 96 [.pointer x17, .int .i64 x18, .string x19, .int .i64 2, .int .i64 493, .string (⟨⟨[]⟩⟩ : ByteArray)] (.tup [.sc (.int .i64), .sc (.int .i64)]) (fun (_x20 : Int) (x21 : Int) =>
 K (.int .i64 x21))))))))))))))
theorem e101 (p_1 : Int) (p_2 : ByteArray) (p_3 : Int) (p_4 : Bool) (x5 : Option Addr) (K : KH) : bodyF Tryz.prog tau Tryz.f101 an101 [.agg ⟨[.int .i64 p_1, .string p_2, .int .i64 p_3, .bool p_4]⟩, .pointer x5] K = g101 p_1 p_2 p_3 p_4 x5 K := by kernel_rfl
theorem c101 (p_1 : Int) (p_2 : ByteArray) (p_3 : Int) (p_4 : Bool) (x5 : Option Addr) {K : KH} {σ : H} (h : g101 p_1 p_2 p_3 p_4 x5 K σ) : callW Tryz.prog 101 [.agg ⟨[.int .i64 p_1, .string p_2, .int .i64 p_3, .bool p_4]⟩, .pointer x5] K σ := call_of_body mixed Tryz.func101 (by rw [e101]; exact h)


def an102 : Ann := (.seq none (.reg [] []) (.seq none (.reg [] []) (.seq none (.blk (.loop [(0, .sc .ptr), (1, .sc (.int .i64)), (5, .sc (.int .i64))] (.seq none (.seq none (.reg [] []) (.cond .leaf .leaf)) (.seq none (.blk (.reg [] [])) (.reg [] []))))) (.seq none (.reg [] []) .leaf))))
def g102 (f_1 : Option Addr) (dir_2 : Int) (K : KH) : H -> Prop :=
 loopW [.sc .ptr, .sc (.int .i64), .sc (.int .i64)] (fun (R3 : Option Addr -> Int -> Int -> H -> Prop) => (fun (f_4 : Option Addr) (dir_5 : Int) (n_6 : Int) =>
 ptrW f_4 (fun b7 o8 =>
 rdT (rdC b7 o8) kP (fun x9 =>
 callT Tryz.prog 123 [.pointer x9] kI (fun (x10 : Int) =>
 brW ((dir_5 : Int) != x10)
 (ptrW f_4 (fun b11 o12 =>
 rdT (rdC b11 o12) kP (fun x13 =>
 callT Tryz.prog 124 [.pointer x13, .int .i64 dir_5] kI (fun (x14 : Int) =>
 R3 f_4 x14 (IntKind.i64.wrap (n_6 + 1))))))
 (K (.int .i64 n_6))))))) (fun (R15 : Option Addr -> Int -> Int -> H -> Prop) => R15 f_1 dir_2 1)
theorem e102 (f_1 : Option Addr) (dir_2 : Int) (K : KH) : bodyF Tryz.prog tau Tryz.f102 an102 [.pointer f_1, .int .i64 dir_2] K = g102 f_1 dir_2 K := by kernel_rfl
theorem c102 (f_1 : Option Addr) (dir_2 : Int) {K : KH} {σ : H} (h : g102 f_1 dir_2 K σ) : callW Tryz.prog 102 [.pointer f_1, .int .i64 dir_2] K σ := call_of_body mixed Tryz.func102 (by rw [e102]; exact h)


def an106 : Ann := (.seq none (.reg [] []) (.seq none (.reg [] []) .leaf))
def g106 (s_1 : ByteArray) (prefix_2 : ByteArray) (K : KH) : H -> Prop :=
 callT Tryz.prog 176 [.string s_1, .string prefix_2] kB (fun x3 =>
 K (.bool x3))
theorem e106 (s_1 : ByteArray) (prefix_2 : ByteArray) (K : KH) : bodyF Tryz.prog tau Tryz.f106 an106 [.string s_1, .string prefix_2] K = g106 s_1 prefix_2 K := by kernel_rfl
theorem c106 (s_1 : ByteArray) (prefix_2 : ByteArray) {K : KH} {σ : H} (h : g106 s_1 prefix_2 K σ) : callW Tryz.prog 106 [.string s_1, .string prefix_2] K σ := call_of_body mixed Tryz.func106 (by rw [e106]; exact h)


def an110 : Ann := (.seq none (.reg [] []) (.seq none (.reg [] []) (.seq none (.reg [] []) .leaf)))
def g110 (f_1 : Option Addr) (ino_2 : Int) (K : KH) : H -> Prop :=
 ptrW f_1 (fun b3 o4 =>
 rdT (rdC b3 o4) kP (fun x5 =>
 callT Tryz.prog 99 [.pointer x5, .int .i64 ino_2] (.tup [.agg [(.int .i64), (.int .i64), .str, (.int .i64)], .sc .bool]) (fun (x6 : Int) (x7 : Int) (x8 : ByteArray) (x9 : Int) (_x10 : Bool) =>
 alW (.cells ⟨[.int .i64 0, .int .i64 0, .string (⟨⟨[]⟩⟩ : ByteArray), .int .i64 0]⟩ 35 (0, 0)) (fun b11 =>
 stW Tryz.prog 35 (.pointer (some ⟨b11, 0, none⟩)) (.agg ⟨[.int .i64 x6, .int .i64 x7, .string x8, .int .i64 x9]⟩) (rdT (rdC b11 0) kI (fun (x12 : Int) =>
 K (.int .i64 x12)))))))
theorem e110 (f_1 : Option Addr) (ino_2 : Int) (K : KH) : bodyF Tryz.prog tau Tryz.f110 an110 [.pointer f_1, .int .i64 ino_2] K = g110 f_1 ino_2 K := by kernel_rfl
theorem c110 (f_1 : Option Addr) (ino_2 : Int) {K : KH} {σ : H} (h : g110 f_1 ino_2 K σ) : callW Tryz.prog 110 [.pointer f_1, .int .i64 ino_2] K σ := call_of_body mixed Tryz.func110 (by rw [e110]; exact h)


def an123 : Ann := (.seq none (.reg [] []) (.seq none (.seq none (.reg [] []) (.cond (.seq none (.reg [] []) .leaf) .leaf)) (.seq none (.reg [] []) .leaf)))
def g123 (t_1 : Option Addr) (K : KH) : H -> Prop :=
 brW t_1.isNone
 (K (.int .i64 0))
 (K (.int .i64 1))
theorem e123 (t_1 : Option Addr) (K : KH) : bodyF Tryz.prog tau Tryz.f123 an123 [.pointer t_1] K = g123 t_1 K := by kernel_rfl
theorem c123 (t_1 : Option Addr) {K : KH} {σ : H} (h : g123 t_1 K σ) : callW Tryz.prog 123 [.pointer t_1] K σ := call_of_body mixed Tryz.func123 (by rw [e123]; exact h)


def an124 : Ann := (.seq none (.reg [] []) (.seq none (.reg [] []) (.seq none (.seq none (.reg [] []) (.cond (.seq none (.reg [] []) .leaf) .leaf)) (.seq none (.reg [] []) .leaf))))
def g124 (t_1 : Option Addr) (dir_2 : Int) (K : KH) : H -> Prop :=
 callT Tryz.prog 138 [.pointer t_1, .int .i64 dir_2] kP (fun x3 =>
 brW x3.isNone
 (K (.int .i64 0))
 (ptrW x3 (fun b4 o5 =>
 rdT (rdC b4 (o5 + 4)) kI (fun (x6 : Int) =>
 K (.int .i64 x6)))))
theorem e124 (t_1 : Option Addr) (dir_2 : Int) (K : KH) : bodyF Tryz.prog tau Tryz.f124 an124 [.pointer t_1, .int .i64 dir_2] K = g124 t_1 dir_2 K := by kernel_rfl
theorem c124 (t_1 : Option Addr) (dir_2 : Int) {K : KH} {σ : H} (h : g124 t_1 dir_2 K σ) : callW Tryz.prog 124 [.pointer t_1, .int .i64 dir_2] K σ := call_of_body mixed Tryz.func124 (by rw [e124]; exact h)


def an125 : Ann := (.seq none (.reg [] []) (.seq none (.reg [] []) (.seq none (.seq none (.reg [] []) (.cond (.seq none (.reg [] []) .leaf) .leaf)) (.seq none (.reg [] []) (.seq none (.reg [] []) .leaf)))))
def g125 (t_1 : Option Addr) (dir_2 : Int) (name_3 : ByteArray) (K : KH) : H -> Prop :=
 callT Tryz.prog 138 [.pointer t_1, .int .i64 dir_2] kP (fun x4 =>
 brW x4.isNone
 (K (.tuple ⟨[.int .i64 0, .bool false]⟩))
 (ptrW x4 (fun b5 o6 =>
 rdT (rdC b5 (o6 + 5)) kM (fun (x7 : Option Nat) =>
 rdT (rdM .string (.int .i64 0) true x7 (.string name_3)) (.tup [.sc (.int .i64), .sc .bool]) (fun (x8 : Int) (x9 : Bool) =>
 K (.tuple ⟨[.int .i64 x8, .bool x9]⟩))))))
theorem e125 (t_1 : Option Addr) (dir_2 : Int) (name_3 : ByteArray) (K : KH) : bodyF Tryz.prog tau Tryz.f125 an125 [.pointer t_1, .int .i64 dir_2, .string name_3] K = g125 t_1 dir_2 name_3 K := by kernel_rfl
theorem c125 (t_1 : Option Addr) (dir_2 : Int) (name_3 : ByteArray) {K : KH} {σ : H} (h : g125 t_1 dir_2 name_3 K σ) : callW Tryz.prog 125 [.pointer t_1, .int .i64 dir_2, .string name_3] K σ := call_of_body mixed Tryz.func125 (by rw [e125]; exact h)


def an126 : Ann := (.seq none (.reg [] []) (.seq none (.reg [] []) (.seq none (.reg [] []) (.seq (some [(0, .sc .ptr), (2, .sc .str), (3, .sc .bool), (8, .sc .ptr), (10, .sc (.int .i64)), (11, .sc .ptr)]) (.seq (some [(0, .sc .ptr), (1, .sc .str), (2, .sc .str), (3, .sc .bool), (8, .sc .ptr), (10, .sc (.int .i64)), (11, .sc .ptr), (20, .sc .bool)]) (.reg [] []) (.cond (.seq none (.seq none (.reg [] []) (.cond (.seq none (.reg [] []) .leaf) .leaf)) (.seq none (.seq (some [(0, .sc .ptr), (1, .sc .str), (2, .sc .str), (3, .sc .bool), (8, .sc .ptr), (11, .sc .ptr), (30, .sc .bool)]) (.reg [] []) (.cond (.seq none (.reg [] []) .leaf) .leaf)) (.seq none (.reg [] []) (.seq none (.seq none (.reg [] []) (.cond (.seq none (.reg [] []) .leaf) .leaf)) (.seq none (.seq none (.reg [] []) (.cond (.seq none (.reg [] []) .leaf) .leaf)) (.seq none (.seq none (.reg [0, 1, 2, 3, 4, 5, 6, 7, 8, 9, 10, 11] [[], [0], [0, 1], [0, 1, 2], [], [4], [0, 1, 2, 3, 4, 5], [0, 1, 2, 3, 4, 5, 6], [0, 1, 2, 3, 4, 5, 6, 7], [0, 1, 2, 3, 4, 5, 6, 7, 8], [0, 1, 2, 3, 4, 5, 6, 7, 8, 9], [0, 1, 2, 3, 4, 5, 6, 7, 8, 9, 10]]) (.cond (.seq none (.reg [] []) .leaf) .leaf)) (.seq none (.reg [] []) (.reg [] [])))))))) .leaf)) (.seq none (.reg [] []) .leaf)))))
def g126 (f_1 : Option Addr) (cwd_2 : ByteArray) (path_3 : ByteArray) (follow_4 : Bool) (K : KH) : H -> Prop :=
 alW (.cells ⟨[.int .i64 0, .string (⟨⟨[]⟩⟩ : ByteArray), .int .i64 0]⟩ 171 (0, 0)) (fun b5 =>
 alW (.cells ⟨[.int .i64 0]⟩ 3 (0, 0)) (fun b6 =>
 stW Tryz.prog 3 (.pointer (some ⟨b6, 0, none⟩)) (.int .i64 8) (letJ (T := Option Addr -> ByteArray -> Bool -> Option Addr -> Int -> Option Addr -> H -> Prop) (fun f_8 path_9 follow_10 x11 at_12 hops_13 =>
 callT Tryz.prog 185 [.pointer f_8, .int .i64 at_12, .string path_9, .bool follow_10, .pointer hops_13] (.tup [.agg [(.int .i64), .str, (.int .i64)], .sc (.int .i64)]) (fun (x14 : Int) (x15 : ByteArray) (x16 : Int) (x17 : Int) =>
 stW Tryz.prog 171 (.pointer x11) (.agg ⟨[.int .i64 x14, .string x15, .int .i64 x16]⟩) (ptrW x11 (fun b18 o19 =>
 rdT (rdA 3 b18 o19) (.one (.agg [(.int .i64), .str, (.int .i64)])) (fun (r20 : Int) (r21 : ByteArray) (r22 : Int) =>
 K (.tuple ⟨[.agg ⟨[.int .i64 r20, .string r21, .int .i64 r22]⟩, .int .i64 x17]⟩)))))) (fun j7 =>
 letJ (T := Option Addr -> ByteArray -> ByteArray -> Bool -> Option Addr -> Int -> Option Addr -> Bool -> H -> Prop) (fun f_24 cwd_25 path_26 follow_27 x28 at_29 hops_30 x31 =>
 brW x31
 (brW (strEq path_26 (⟨⟨[]⟩⟩ : ByteArray))
 (stW Tryz.prog 171 (.pointer x28) (.agg ⟨[.int .i64 0, .string (⟨⟨[]⟩⟩ : ByteArray), .int .i64 0]⟩) (ptrW x28 (fun b32 o33 =>
 rdT (rdA 3 b32 o33) (.one (.agg [(.int .i64), .str, (.int .i64)])) (fun (r34 : Int) (r35 : ByteArray) (r36 : Int) =>
 K (.tuple ⟨[.agg ⟨[.int .i64 r34, .string r35, .int .i64 r36]⟩, .int .i64 5]⟩)))))
 (letJ (T := Option Addr -> ByteArray -> ByteArray -> Bool -> Option Addr -> Option Addr -> Bool -> H -> Prop) (fun f_38 cwd_39 path_40 follow_41 x42 hops_43 x44 =>
 brW x44
 (stW Tryz.prog 171 (.pointer x42) (.agg ⟨[.int .i64 0, .string (⟨⟨[]⟩⟩ : ByteArray), .int .i64 0]⟩) (ptrW x42 (fun b45 o46 =>
 rdT (rdA 3 b45 o46) (.one (.agg [(.int .i64), .str, (.int .i64)])) (fun (r47 : Int) (r48 : ByteArray) (r49 : Int) =>
 K (.tuple ⟨[.agg ⟨[.int .i64 r47, .string r48, .int .i64 r49]⟩, .int .i64 5]⟩)))))
 (callT Tryz.prog 185 [.pointer f_38, .int .i64 0, .string cwd_39, .bool true, .pointer hops_43] (.tup [.agg [(.int .i64), .str, (.int .i64)], .sc (.int .i64)]) (fun (x50 : Int) (x51 : ByteArray) (x52 : Int) (x53 : Int) =>
 alW (.cells ⟨[.int .i64 0, .string (⟨⟨[]⟩⟩ : ByteArray), .int .i64 0]⟩ 171 (0, 0)) (fun b54 =>
 stW Tryz.prog 171 (.pointer (some ⟨b54, 0, none⟩)) (.agg ⟨[.int .i64 x50, .string x51, .int .i64 x52]⟩) (brW ((x53 : Int) != 0)
 (stW Tryz.prog 171 (.pointer x42) (.agg ⟨[.int .i64 0, .string (⟨⟨[]⟩⟩ : ByteArray), .int .i64 0]⟩) (ptrW x42 (fun b55 o56 =>
 rdT (rdA 3 b55 o56) (.one (.agg [(.int .i64), .str, (.int .i64)])) (fun (r57 : Int) (r58 : ByteArray) (r59 : Int) =>
 K (.tuple ⟨[.agg ⟨[.int .i64 r57, .string r58, .int .i64 r59]⟩, .int .i64 x53]⟩)))))
 (rdT (rdC b54 2) kI (fun (x60 : Int) =>
 brW (decide ((x60 : Int) < 0))
 (stW Tryz.prog 171 (.pointer x42) (.agg ⟨[.int .i64 0, .string (⟨⟨[]⟩⟩ : ByteArray), .int .i64 0]⟩) (ptrW x42 (fun b61 o62 =>
 rdT (rdA 3 b61 o62) (.one (.agg [(.int .i64), .str, (.int .i64)])) (fun (r63 : Int) (r64 : ByteArray) (r65 : Int) =>
 K (.tuple ⟨[.agg ⟨[.int .i64 r63, .string r64, .int .i64 r65]⟩, .int .i64 5]⟩)))))
 (ptrW f_38 (fun b66 o67 =>
 rdT (rdC b66 (o67 + 2)) kL (fun x68 =>
 rdT (rdC b54 2) kI (fun (x69 : Int) =>
 ptrW x68.base (fun b70 o71 =>
 ifW (0 <= x69 /\ x69 < ((x68.len : Nat) : Int))
 (rdT (rdC b70 (o71 + x69.toNat * 1)) kP (fun x72 =>
 ptrW x72 (fun b73 o74 =>
 rdT (rdC b73 o74) kI (fun (x75 : Int) =>
 brW ((x75 : Int) != 2)
 (stW Tryz.prog 171 (.pointer x42) (.agg ⟨[.int .i64 0, .string (⟨⟨[]⟩⟩ : ByteArray), .int .i64 0]⟩) (ptrW x42 (fun b76 o77 =>
 rdT (rdA 3 b76 o77) (.one (.agg [(.int .i64), .str, (.int .i64)])) (fun (r78 : Int) (r79 : ByteArray) (r80 : Int) =>
 K (.tuple ⟨[.agg ⟨[.int .i64 r78, .string r79, .int .i64 r80]⟩, .int .i64 8]⟩)))))
 (rdT (rdC b54 2) kI (fun (x81 : Int) =>
 stW Tryz.prog 3 (.pointer hops_43) (.int .i64 8) (j7 f_38 path_40 follow_41 x42 x81 hops_43))))))))))))))))))) (fun j37 =>
 brW (strEq cwd_25 (⟨⟨[]⟩⟩ : ByteArray))
 (j37 f_24 cwd_25 path_26 follow_27 x28 hops_30 true)
 (idxW cwd_25 0 (fun c82 =>
 j37 f_24 cwd_25 path_26 follow_27 x28 hops_30 (((c82.toNat : Int) : Int) != 47))))))
 (j7 f_24 path_26 follow_27 x28 at_29 hops_30)) (fun j23 =>
 brW (strEq path_3 (⟨⟨[]⟩⟩ : ByteArray))
 (j23 f_1 cwd_2 path_3 follow_4 (some ⟨b5, 0, none⟩) 0 (some ⟨b6, 0, none⟩) true)
 (idxW path_3 0 (fun c83 =>
 j23 f_1 cwd_2 path_3 follow_4 (some ⟨b5, 0, none⟩) 0 (some ⟨b6, 0, none⟩) (((c83.toNat : Int) : Int) != 47))))))))
theorem e126 (f_1 : Option Addr) (cwd_2 : ByteArray) (path_3 : ByteArray) (follow_4 : Bool) (K : KH) : bodyF Tryz.prog tau Tryz.f126 an126 [.pointer f_1, .string cwd_2, .string path_3, .bool follow_4] K = g126 f_1 cwd_2 path_3 follow_4 K := by kernel_rfl
theorem c126 (f_1 : Option Addr) (cwd_2 : ByteArray) (path_3 : ByteArray) (follow_4 : Bool) {K : KH} {σ : H} (h : g126 f_1 cwd_2 path_3 follow_4 K σ) : callW Tryz.prog 126 [.pointer f_1, .string cwd_2, .string path_3, .bool follow_4] K σ := call_of_body mixed Tryz.func126 (by rw [e126]; exact h)


def an127 : Ann := (.seq none (.reg [] []) (.seq none (.reg [] []) (.seq none (.blk (.loop [(0, .sc .ptr), (1, .sc (.int .i64)), (5, .sc (.int .i64))] (.seq none (.seq none (.reg [] []) (.cond .leaf .leaf)) (.blk (.seq none (.reg [] []) (.reg [] [])))))) (.seq none (.reg [] []) .leaf))))
def g127 (f_1 : Option Addr) (dir_2 : Int) (K : KH) : H -> Prop :=
 loopW [.sc .ptr, .sc (.int .i64), .sc (.int .i64)] (fun (R3 : Option Addr -> Int -> Int -> H -> Prop) => (fun (f_4 : Option Addr) (dir_5 : Int) (n_6 : Int) =>
 brW ((dir_5 : Int) != 0)
 (ptrW f_4 (fun b7 o8 =>
 rdT (rdC b7 (o8 + 2)) kL (fun x9 =>
 ptrW x9.base (fun b10 o11 =>
 ifW (0 <= dir_5 /\ dir_5 < ((x9.len : Nat) : Int))
 (rdT (rdC b10 (o11 + dir_5.toNat * 1)) kP (fun x12 =>
 ptrW x12 (fun b13 o14 =>
 rdT (rdC b13 (o14 + 4)) kI (fun (x15 : Int) =>
 R3 f_4 x15 (IntKind.i64.wrap (n_6 + 1))))))))))
 (K (.int .i64 n_6)))) (fun (R16 : Option Addr -> Int -> Int -> H -> Prop) => R16 f_1 dir_2 1)
theorem e127 (f_1 : Option Addr) (dir_2 : Int) (K : KH) : bodyF Tryz.prog tau Tryz.f127 an127 [.pointer f_1, .int .i64 dir_2] K = g127 f_1 dir_2 K := by kernel_rfl
theorem c127 (f_1 : Option Addr) (dir_2 : Int) {K : KH} {σ : H} (h : g127 f_1 dir_2 K σ) : callW Tryz.prog 127 [.pointer f_1, .int .i64 dir_2] K σ := call_of_body mixed Tryz.func127 (by rw [e127]; exact h)


def an128 : Ann := (.seq none (.reg [] []) (.seq none (.seq none (.reg [] []) (.cond (.seq none (.reg [] []) .leaf) .leaf)) (.seq none (.reg [] []) (.seq none (.reg [0, 1, 2, 3, 4, 5, 6, 7, 8, 9, 10, 11] [[], [], [1], [], [3], [], [5], [5, 6], [5, 6, 7], [5, 6, 7, 8], [5, 6, 7, 8, 9], [0, 1, 2, 3, 4, 5, 6, 7, 8, 9, 10]]) (.seq none (.reg [] []) .leaf)))))
def g128 (f_1 : Option Addr) (p_2 : Int) (p_3 : ByteArray) (p_4 : Int) (kind_5 : Int) (mode_6 : Int) (data_7 : ByteArray) (K : KH) : H -> Prop :=
 alW (.cells ⟨[.int .i64 p_2, .string p_3, .int .i64 p_4]⟩ 171 (0, 0)) (fun b8 =>
 callT Tryz.prog 129 [.pointer f_1, .int .i64 1, .int .i64 ((data_7.size : Nat) : Int)] kB (fun x9 =>
 brW (!x9)
 (K (.int .i64 10))
 (ptrW f_1 (fun b10 o11 =>
 rdT (rdC b10 (o11 + 2)) kL (fun x12 =>
 alW (.cells ⟨[.int .i64 kind_5, .int .i64 mode_6, .string data_7, .slice none 0 0, .int .i64 0]⟩ 131 (0, 0)) (fun b13 =>
 alW (.cells ⟨[.pointer (some ⟨b13, 0, none⟩)]⟩ 128 (0, 0)) (fun b14 =>
 biW Tryz.prog .append #[132, 132] 132 [false, false] [.slice x12.base x12.len x12.cap, .slice (some ⟨b14, 0, none⟩) 1 1] kL (fun x15 =>
 ptrW f_1 (fun b16 o17 =>
 stW Tryz.prog 132 (.pointer (some ⟨b16, o17 + 2, none⟩)) (.slice x15.base x15.len x15.cap) (rdT (rdC b8 0) kI (fun (x18 : Int) =>
 rdT (rdC b8 1) kS (fun (x19 : ByteArray) =>
 ptrW f_1 (fun b20 o21 =>
 rdT (rdC b20 (o21 + 2)) kL (fun x22 =>
 callT Tryz.prog 145 [.pointer f_1, .int .i64 x18, .string x19, .int .i64 (IntKind.i64.wrap (((x22.len : Nat) : Int) - 1))] kU (K (.int .i64 0))))))))))))))))
theorem e128 (f_1 : Option Addr) (p_2 : Int) (p_3 : ByteArray) (p_4 : Int) (kind_5 : Int) (mode_6 : Int) (data_7 : ByteArray) (K : KH) : bodyF Tryz.prog tau Tryz.f128 an128 [.pointer f_1, .agg ⟨[.int .i64 p_2, .string p_3, .int .i64 p_4]⟩, .int .i64 kind_5, .int .i64 mode_6, .string data_7] K = g128 f_1 p_2 p_3 p_4 kind_5 mode_6 data_7 K := by kernel_rfl
theorem c128 (f_1 : Option Addr) (p_2 : Int) (p_3 : ByteArray) (p_4 : Int) (kind_5 : Int) (mode_6 : Int) (data_7 : ByteArray) {K : KH} {σ : H} (h : g128 f_1 p_2 p_3 p_4 kind_5 mode_6 data_7 K σ) : callW Tryz.prog 128 [.pointer f_1, .agg ⟨[.int .i64 p_2, .string p_3, .int .i64 p_4]⟩, .int .i64 kind_5, .int .i64 mode_6, .string data_7] K σ := call_of_body mixed Tryz.func128 (by rw [e128]; exact h)


def an129 : Ann := (.seq none (.reg [] []) (.seq none (.reg [] []) (.seq none (.reg [0, 1, 2, 3, 4, 5, 6, 7, 8, 9, 10, 11, 12, 13, 14, 15, 16, 17, 18, 19, 20, 21, 22] [[], [0], [], [0, 1, 2], [], [4], [4, 5], [4, 5, 6], [4, 5, 6, 7], [0, 1, 2, 3, 4, 5, 6, 7, 8], [0, 1, 2, 3, 4, 5, 6, 7, 8, 9], [0, 1, 2, 3, 4, 5, 6, 7, 8, 9, 10], [0, 1, 2, 3, 4, 5, 6, 7, 8, 9, 10, 11], [0, 1, 2, 3, 4, 5, 6, 7, 8, 9, 10], [0, 1, 2, 3, 4, 5, 6, 7, 8, 9, 10, 11, 12, 13], [0, 1, 2, 3, 4, 5, 6, 7, 8, 9, 10], [0, 1, 2, 3, 4, 5, 6, 7, 8, 9, 10, 15], [0, 1, 2, 3, 4, 5, 6, 7, 8, 9, 10, 15, 16], [0, 1, 2, 3, 4, 5, 6, 7, 8, 9, 10, 15, 16, 17], [0, 1, 2, 3, 4, 5, 6, 7, 8, 9, 10, 15, 16, 17, 18], [0, 1, 2, 3, 4, 5, 6, 7, 8, 9, 10, 11, 12, 13, 14, 15, 16, 17, 18, 19], [0, 1, 2, 3, 4, 5, 6, 7, 8, 9, 10, 11, 12, 13, 14, 15, 16, 17, 18, 19, 20], [0, 1, 2, 3, 4, 5, 6, 7, 8, 9, 10, 11, 12, 13, 14, 15, 16, 17, 18, 19, 20, 21]]) .leaf)))
def g129 (f_1 : Option Addr) (inodes_2 : Int) (bytes_3 : Int) (K : KH) : H -> Prop :=
 callT Tryz.prog 40 [.pointer f_1] (.one (.agg [(.int .i64), (.int .i64)])) (fun (x4 : Int) (x5 : Int) =>
 alW (.cells ⟨[.int .i64 0, .int .i64 0]⟩ 64 (0, 0)) (fun b6 =>
 stW Tryz.prog 64 (.pointer (some ⟨b6, 0, none⟩)) (.agg ⟨[.int .i64 x4, .int .i64 x5]⟩) (rdT (rdC b6 0) kI (fun (x7 : Int) =>
 ptrW f_1 (fun b8 o9 =>
 rdT (rdC b8 o9) kI (fun (x10 : Int) =>
 brW (decide (((IntKind.i64.wrap (x7 + inodes_2)) : Int) <= x10))
 (rdT (rdC b6 1) kI (fun (x11 : Int) =>
 ptrW f_1 (fun b12 o13 =>
 rdT (rdC b12 (o13 + 1)) kI (fun (x14 : Int) =>
 K (.bool (decide (((IntKind.i64.wrap (x11 + bytes_3)) : Int) <= x14)))))))
 (K (.bool false))))))))
theorem e129 (f_1 : Option Addr) (inodes_2 : Int) (bytes_3 : Int) (K : KH) : bodyF Tryz.prog tau Tryz.f129 an129 [.pointer f_1, .int .i64 inodes_2, .int .i64 bytes_3] K = g129 f_1 inodes_2 bytes_3 K := by kernel_rfl
theorem c129 (f_1 : Option Addr) (inodes_2 : Int) (bytes_3 : Int) {K : KH} {σ : H} (h : g129 f_1 inodes_2 bytes_3 K σ) : callW Tryz.prog 129 [.pointer f_1, .int .i64 inodes_2, .int .i64 bytes_3] K σ := call_of_body mixed Tryz.func129 (by rw [e129]; exact h)


def an130 : Ann := (.seq none (.reg [] []) (.seq none (.reg [] []) .leaf))
def g130 (s_1 : Sl) (f_2 : Value) (K : KH) : H -> Prop :=
 callT Tryz.prog 186 [.slice s_1.base s_1.len s_1.cap, f_2] kI (fun (x3 : Int) =>
 K (.bool (decide ((x3 : Int) >= 0))))
theorem e130 (s_1 : Sl) (f_2 : Value) (K : KH) : bodyF Tryz.prog tau Tryz.f130 an130 [.slice s_1.base s_1.len s_1.cap, f_2] K = g130 s_1 f_2 K := by kernel_rfl
theorem c130 (s_1 : Sl) (f_2 : Value) {K : KH} {σ : H} (h : g130 s_1 f_2 K σ) : callW Tryz.prog 130 [.slice s_1.base s_1.len s_1.cap, f_2] K σ := call_of_body mixed Tryz.func130 (by rw [e130]; exact h)


def an131 : Ann := (.seq none (.reg [] []) (.seq none (.reg [] []) (.seq (some [(3, .sc .ptr)]) (.seq none (.reg [] []) (.blk (.rf [.agg [(.int .u8), .bool]] (.reg [] []) (.blk (.reg [] []))))) (.seq none (.reg [] []) (.seq none (.blk (.loop [(3, .sc .ptr), (5, .sc .slc)] (.seq none (.seq none (.reg [] []) (.cond .leaf .leaf)) (.blk (.seq none (.reg [] []) (.seq none (.reg [] []) (.seq (some [(3, .sc .ptr), (5, .sc .slc)]) (.blk (.seq none (.reg [] []) (.cond (.seq none (.reg [] []) (.seq none (.reg [] []) .leaf)) (.seq none (.reg [] []) (.cond (.reg [] []) (.seq none (.reg [] []) (.cond (.reg [] []) (.reg [] [])))))))) (.reg [] [])))))))) (.seq none (.reg [] []) .leaf))))))
def g131 (p_1 : Sl) (K : KH) : H -> Prop :=
 alW (.cells ⟨[.slice none 0 0]⟩ 229 (0, 0)) (fun b2 =>
 letJ (T := Option Addr -> H -> Prop) (fun l_4 =>
 loopW [.sc .ptr, .sc .slc] (fun (R5 : Option Addr -> Sl -> H -> Prop) => (fun l_6 out_7 =>
 ptrW l_6 (fun b8 o9 =>
 rdT (rdC b8 o9) kL (fun x10 =>
 brW (decide ((((x10.len : Nat) : Int) : Int) > 0))
 (ptrW l_6 (fun b11 o12 =>
 rdT (rdC b11 o12) kL (fun x13 =>
 ptrW x13.base (fun b14 o15 =>
 ifW (0 <= (0 : Int) /\ (0 : Int) < ((x13.len : Nat) : Int))
 (rdT (rdA 2 b14 (o15 + (0 : Int).toNat * 2)) (.one (.agg [(.int .u8), .bool])) (fun (x16 : Int) (x17 : Bool) =>
 alW (.cells ⟨[.int .u8 0, .bool false]⟩ 234 (0, 0)) (fun b18 =>
 stW Tryz.prog 234 (.pointer (some ⟨b18, 0, none⟩)) (.agg ⟨[.int .u8 x16, .bool x17]⟩) (ptrW l_6 (fun b19 o20 =>
 rdT (rdC b19 o20) kL (fun x21 =>
 callT Tryz.prog 188 [.slice x21.base x21.len x21.cap] (.tup [.sc .raw, .sc (.int .i64)]) (fun (x22 : Value) (x23 : Int) =>
 letJ (T := Option Addr -> Sl -> H -> Prop) (fun l_25 out_26 =>
 ptrW l_25 (fun b27 o28 =>
 rdT (rdC b27 o28) kL (fun x29 =>
 ifW (bndOk none x29.cap /\ bndOk (some 1) x29.len)
 (stW Tryz.prog 229 (.pointer l_25) (.slice (slBase x29.base ((1 : Int).toNat) x29.cap 2) (x29.len - ((1 : Int).toNat)) (x29.cap - ((1 : Int).toNat))) (R5 l_25 out_26))))) (fun j24 =>
 brW (decide ((x23 : Int) > 0))
 (oneK x22
 (alW (.cells ⟨[.bool false, x22, .bool true]⟩ 180 (0, 0)) (fun b30 =>
 biW Tryz.prog .append #[177, 177] 177 [false, false] [.slice out_7.base out_7.len out_7.cap, .slice (some ⟨b30, 0, none⟩) 1 1] kL (fun x31 =>
 ptrW l_6 (fun b32 o33 =>
 rdT (rdC b32 o33) kL (fun x34 =>
 ifW (bndOk none x34.cap /\ bndOk (some x23) x34.len)
 (stW Tryz.prog 229 (.pointer l_6) (.slice (slBase x34.base x23.toNat x34.cap 2) (x34.len - x23.toNat) (x34.cap - x23.toNat)) (R5 l_6 x31))))))))
 (rdT (rdA 2 b18 0) (.one (.agg [(.int .u8), .bool])) (fun (x35 : Int) (x36 : Bool) =>
 callT Tryz.prog 189 [.agg ⟨[.int .u8 x35, .bool x36]⟩, .string (⟨⟨[42]⟩⟩ : ByteArray)] kB (fun x37 =>
 brW x37
 (alW (.cells ⟨[.bool true, .nilFunc, .bool true]⟩ 180 (0, 0)) (fun b38 =>
 biW Tryz.prog .append #[177, 177] 177 [false, false] [.slice out_7.base out_7.len out_7.cap, .slice (some ⟨b38, 0, none⟩) 1 1] kL (fun x39 =>
 j24 l_6 x39)))
 (rdT (rdA 2 b18 0) (.one (.agg [(.int .u8), .bool])) (fun (x40 : Int) (x41 : Bool) =>
 callT Tryz.prog 189 [.agg ⟨[.int .u8 x40, .bool x41]⟩, .string (⟨⟨[63]⟩⟩ : ByteArray)] kB (fun x42 =>
 brW x42
 (alW (.cells ⟨[.bool false, .func (.func 190) ⟨[]⟩ ⟨[]⟩, .bool true]⟩ 180 (0, 0)) (fun b43 =>
 biW Tryz.prog .append #[177, 177] 177 [false, false] [.slice out_7.base out_7.len out_7.cap, .slice (some ⟨b43, 0, none⟩) 1 1] kL (fun x44 =>
 j24 l_6 x44)))
 (alW (.cells ⟨[.bool false, .func (.func 191) ⟨[]⟩ ⟨[.pointer (some ⟨b18, 0, none⟩)]⟩, .bool false]⟩ 180 (0, 0)) (fun b45 =>
 biW Tryz.prog .append #[177, 177] 177 [false, false] [.slice out_7.base out_7.len out_7.cap, .slice (some ⟨b45, 0, none⟩) 1 1] kL (fun x46 =>
 j24 l_6 x46)))))))))))))))))))))
 (K (.slice out_7.base out_7.len out_7.cap)))))) (fun (R47 : Option Addr -> Sl -> H -> Prop) => R47 l_4 ⟨none, 0, 0⟩)) (fun j3 =>
 callT Tryz.prog 187 [.slice p_1.base p_1.len p_1.cap] kR (fun x48 =>
 funW x48 (fun (g61 : FuncId) (as62 cs63 : List Value) =>
 rfW Tryz.prog none g61 as62 cs63 [.agg [(.int .u8), .bool]] (fun (l49 : Nat) (obj50 : LoopState -> Option Code -> Obj) (K51 : Value -> H -> Prop) => (fun (x52 : Int) (x53 : Bool) =>
 alW (.cells ⟨[.int .u8 0, .bool false]⟩ 234 (0, 0)) (fun b54 =>
 stW Tryz.prog 234 (.pointer (some ⟨b54, 0, none⟩)) (.agg ⟨[.int .u8 x52, .bool x53]⟩) (begW l49 obj50 (rdT (rdC b2 0) kL (fun x55 =>
 rdT (rdA 2 b54 0) (.one (.agg [(.int .u8), .bool])) (fun (x56 : Int) (x57 : Bool) =>
 alW (.cells ⟨[.int .u8 x56, .bool x57]⟩ 234 (0, 0)) (fun b58 =>
 biW Tryz.prog .append #[229, 229] 229 [false, false] [.slice x55.base x55.len x55.cap, .slice (some ⟨b58, 0, none⟩) 1 1] kL (fun x59 =>
 stW Tryz.prog 229 (.pointer (some ⟨b2, 0, none⟩)) (.slice x59.base x59.len x59.cap) (roundK l49 obj50 K51 none true .ready))))))))))
 (j3 (some ⟨b2, 0, none⟩))
 (fun i60 => exW i60 0 (j3 (some ⟨b2, 0, none⟩)) (nW))
 (K (.slice none 0 0))))))
theorem e131 (p_1 : Sl) (K : KH) : bodyF Tryz.prog tau Tryz.f131 an131 [.slice p_1.base p_1.len p_1.cap] K = g131 p_1 K := by kernel_rfl
theorem c131 (p_1 : Sl) {K : KH} {σ : H} (h : g131 p_1 K σ) : callW Tryz.prog 131 [.slice p_1.base p_1.len p_1.cap] K σ := call_of_body mixed Tryz.func131 (by rw [e131]; exact h)


def an132 : Ann := (.seq none (.reg [] []) (.seq none (.reg [] []) .leaf))
def g132 (x_1 : Bool) (x_2 : Value) (x_3 : Bool) (K : KH) : H -> Prop :=
 alW (.cells ⟨[.bool x_1, x_2, .bool x_3]⟩ 180 (0, 0)) (fun b4 =>
 rdT (rdC b4 2) kB (fun x5 =>
 K (.bool x5)))
theorem e132 (x_1 : Bool) (x_2 : Value) (x_3 : Bool) (K : KH) : bodyF Tryz.prog tau Tryz.f132 an132 [.agg ⟨[.bool x_1, x_2, .bool x_3]⟩] K = g132 x_1 x_2 x_3 K := by kernel_rfl
theorem c132 (x_1 : Bool) (x_2 : Value) (x_3 : Bool) {K : KH} {σ : H} (h : g132 x_1 x_2 x_3 K σ) : callW Tryz.prog 132 [.agg ⟨[.bool x_1, x_2, .bool x_3]⟩] K σ := call_of_body mixed Tryz.func132 (by rw [e132]; exact h)


def an133 : Ann := (.seq none (.reg [] []) (.seq none (.reg [] []) .leaf))
def g133 (seq_1 : Value) (K : KH) : H -> Prop :=
 callT Tryz.prog 192 [.slice none 0 0, seq_1] kL (fun x2 =>
 K (.slice x2.base x2.len x2.cap))
theorem e133 (seq_1 : Value) (K : KH) : bodyF Tryz.prog tau Tryz.f133 an133 [seq_1] K = g133 seq_1 K := by kernel_rfl
theorem c133 (seq_1 : Value) {K : KH} {σ : H} (h : g133 seq_1 K σ) : callW Tryz.prog 133 [seq_1] K σ := call_of_body mixed Tryz.func133 (by rw [e133]; exact h)


def an135 : Ann := (.seq none (.reg [] []) (.seq none (.seq none (.reg [] []) (.cond (.seq none (.reg [] []) .leaf) .leaf)) (.seq none (.reg [] []) (.seq none (.reg [] []) (.seq (some [(1, .sc .ptr), (3, .sc .ptr), (4, .sc .ptr), (6, .sc .slc)]) (.blk (.seq none (.reg [] []) (.cond (.seq none (.reg [0, 1, 2, 3, 4, 5, 6, 7, 8, 9, 10, 11, 12, 13, 14, 15] [[], [0], [0, 1], [0, 1, 2], [], [4], [4, 5], [4, 5, 6], [], [0, 1, 2, 3, 4, 5, 6, 7, 8], [0, 1, 2, 3, 4, 5, 6, 7, 8, 9], [0, 1, 2, 3, 4, 5, 6, 7, 8, 9, 10], [0, 1, 2, 3, 4, 5, 6, 7, 8, 9, 10], [], [0, 1, 2, 3, 4, 5, 6, 7, 8, 9, 10, 11, 13], [0, 1, 2, 3, 4, 5, 6, 7, 8, 9, 10, 11, 12, 13, 14]]) (.seq (some [(1, .sc .ptr), (2, .sc .ptr), (3, .sc .ptr), (4, .sc .ptr), (5, .sc .ptr), (6, .sc .slc), (74, .sc .bool)]) (.reg [] []) (.cond (.reg [0, 1, 2, 3, 4, 5, 6] [[], [], [1], [1, 2], [0, 1, 2, 3], [0, 1, 2, 3, 4], [0, 1, 2, 3, 4, 5]]) .leaf))) (.seq none (.reg [] []) (.cond (.seq none (.reg [] []) (.blk (.loop [(1, .sc .ptr), (2, .sc .ptr), (3, .sc .ptr), (4, .sc .ptr), (6, .sc .slc), (88, .sc .slc), (89, .sc (.int .i64)), (90, .sc (.int .i64))] (.seq none (.reg [] []) (.seq none (.cond .leaf .leaf) (.seq none (.blk (.seq none (.reg [] []) (.reg [] []))) (.reg [] []))))))) (.seq none (.reg [0, 1, 2, 3, 4, 5] [[], [], [1], [1, 2], [0, 1, 2, 3], [0, 1, 2, 3, 4]]) (.seq none (.reg [0, 1, 2, 3, 4, 5, 6, 7, 8, 9, 10, 11, 12, 13, 14, 15] [[], [0], [0, 1], [0, 1, 2], [], [4], [4, 5], [4, 5, 6], [], [0, 1, 2, 3, 4, 5, 6, 7, 8], [0, 1, 2, 3, 4, 5, 6, 7, 8, 9], [0, 1, 2, 3, 4, 5, 6, 7, 8, 9, 10], [0, 1, 2, 3, 4, 5, 6, 7, 8, 9, 10], [], [0, 1, 2, 3, 4, 5, 6, 7, 8, 9, 10, 11, 13], [0, 1, 2, 3, 4, 5, 6, 7, 8, 9, 10, 11, 12, 13, 14]]) (.seq none (.reg [] []) (.cond (.reg [] []) .leaf))))))))) (.seq none (.reg [] []) (.blk (.loop [(1, .sc .ptr), (3, .sc .ptr), (4, .sc .ptr), (101, .sc .slc), (102, .sc (.int .i64)), (103, .sc (.int .i64))] (.seq none (.reg [] []) (.seq none (.cond .leaf .leaf) (.seq (some [(1, .sc .ptr), (3, .sc .ptr), (4, .sc .ptr), (101, .sc .slc), (102, .sc (.int .i64)), (103, .sc (.int .i64))]) (.blk (.seq none (.reg [] []) (.seq none (.reg [0, 1, 2, 3, 4] [[], [], [], [2], [0, 1, 2, 3]]) (.blk (.rf [.sc .str] (.reg [] []) (.blk (.seq none (.reg [] []) (.cond .leaf .leaf)))))))) (.reg [] []))))))))))))
def g135 (yield_1 : Value) (x2 : Option Addr) (x3 : Option Addr) (x4 : Option Addr) (K : KH) : H -> Prop :=
 oneK yield_1
 (alW (.cells ⟨[yield_1]⟩ 184 (0, 0)) (fun b5 =>
 ptrW x2 (fun b6 o7 =>
 rdT (rdC b6 o7) kL (fun x8 =>
 brW ((((x8.len : Nat) : Int) : Int) == 0)
 (rdT (rdC b5 0) kR (fun x9 =>
 ptrW x3 (fun b10 o11 =>
 rdT (rdC b10 o11) kS (fun (x12 : ByteArray) =>
 cvalT Tryz.prog x9 [.string x12] kB (fun _x13 =>
 K (.tuple ⟨[]⟩))))))
 (ptrW x2 (fun b14 o15 =>
 rdT (rdC b14 o15) kL (fun x16 =>
 ptrW x16.base (fun b17 o18 =>
 ifW (0 <= (0 : Int) /\ (0 : Int) < ((x16.len : Nat) : Int))
 (rdT (rdA 2 b17 (o18 + (0 : Int).toNat * 2)) (.one (.agg [.slc, .bool])) (fun x19 x20 =>
 alW (.cells ⟨[.slice none 0 0, .bool false]⟩ 186 (0, 0)) (fun b21 =>
 stW Tryz.prog 186 (.pointer (some ⟨b21, 0, none⟩)) (.agg ⟨[.slice x19.base x19.len x19.cap, .bool x20]⟩) (letJ (T := Option Addr -> Option Addr -> Option Addr -> Sl -> H -> Prop) (fun x23 x24 yield_25 next_26 =>
 loopW [.sc .ptr, .sc .ptr, .sc .ptr, .sc .slc, .sc (.int .i64), .sc (.int .i64)] (fun (R27 : Option Addr -> Option Addr -> Option Addr -> Sl -> Int -> Int -> H -> Prop) => (fun (x28 : Option Addr) (x29 : Option Addr) (yield_30 : Option Addr) (x31 : Sl) (x32 : Int) (x33 : Int) =>
 brW (decide ((x33 : Int) < x32))
 (letJ (T := Option Addr -> Option Addr -> Option Addr -> Sl -> Int -> Int -> H -> Prop) (fun x35 x36 yield_37 x38 x39 x40 =>
 R27 x35 x36 yield_37 x38 x39 (IntKind.i64.wrap (x40 + 1))) (fun j34 =>
 ptrW x31.base (fun b41 o42 =>
 ifW (0 <= x33 /\ x33 < ((x31.len : Nat) : Int))
 (rdT (rdC b41 (o42 + x33.toNat * 1)) kS (fun (x43 : ByteArray) =>
 ptrW x29 (fun b44 o45 =>
 rdT (rdC b44 o45) kP (fun x46 =>
 ptrW x28 (fun b47 o48 =>
 rdT (rdC b47 o48) kL (fun x49 =>
 ifW (bndOk none x49.cap /\ bndOk (some 1) x49.len)
 (callT Tryz.prog 67 [.pointer x46, .string x43, .slice (slBase x49.base ((1 : Int).toNat) x49.cap 2) (x49.len - ((1 : Int).toNat)) (x49.cap - ((1 : Int).toNat))] kR (fun x50 =>
 funW x50 (fun (g60 : FuncId) (as61 cs62 : List Value) =>
 rfW Tryz.prog none g60 as61 cs62 [.sc .str] (fun (l51 : Nat) (obj52 : LoopState -> Option Code -> Obj) (K53 : Value -> H -> Prop) => (fun (x54 : ByteArray) =>
 begW l51 obj52 (ptrW yield_30 (fun b55 o56 =>
 rdT (rdC b55 o56) kR (fun x57 =>
 cvalT Tryz.prog x57 [.string x54] kB (fun x58 =>
 brW (!x58)
 (roundK l51 obj52 K53 (some .ret) false .done)
 (roundK l51 obj52 K53 none true .ready)))))))
 (j34 x28 x29 yield_30 x31 x32 x33)
 (fun i59 => exW i59 5 (j34 x28 x29 yield_30 x31 x32 x33) (exW i59 4 (j34 x28 x29 yield_30 x31 x32 x33) (exW i59 3 (K (.tuple ⟨[]⟩)) (nW))))
 (K (.tuple ⟨[]⟩))))))))))))))
 (K (.tuple ⟨[]⟩)))) (fun (R63 : Option Addr -> Option Addr -> Option Addr -> Sl -> Int -> Int -> H -> Prop) => R63 x23 x24 yield_25 next_26 ((next_26.len : Nat) : Int) 0)) (fun j22 =>
 rdT (rdC b21 1) kB (fun x64 =>
 brW x64
 (ptrW x4 (fun b65 o66 =>
 rdT (rdC b65 o66) kP (fun x67 =>
 ptrW x67 (fun b68 o69 =>
 rdT (rdC b68 o69) kP (fun x70 =>
 ptrW x4 (fun b71 o72 =>
 rdT (rdC b71 o72) kP (fun x73 =>
 ptrW x73 (fun b74 o75 =>
 rdT (rdC b74 (o75 + 1)) kS (fun (x76 : ByteArray) =>
 ptrW x3 (fun b77 o78 =>
 rdT (rdC b77 o78) kS (fun (x79 : ByteArray) =>
 callT Tryz.prog 15 [.pointer x70, .string x76, .string x79, .bool true] (.tup [.agg [(.int .i64), (.int .i64), .str, (.int .i64)], .sc (.int .i64)]) (fun (x80 : Int) (x81 : Int) (x82 : ByteArray) (x83 : Int) (x84 : Int) =>
 alW (.cells ⟨[.int .i64 0, .int .i64 0, .string (⟨⟨[]⟩⟩ : ByteArray), .int .i64 0]⟩ 35 (0, 0)) (fun b85 =>
 stW Tryz.prog 35 (.pointer (some ⟨b85, 0, none⟩)) (.agg ⟨[.int .i64 x80, .int .i64 x81, .string x82, .int .i64 x83]⟩) (letJ (T := Option Addr -> Option Addr -> Option Addr -> Option Addr -> Option Addr -> Sl -> Bool -> H -> Prop) (fun x87 x88 x89 yield_90 p_91 next_92 x93 =>
 brW x93
 (ptrW x88 (fun b94 o95 =>
 rdT (rdC b94 o95) kS (fun (x96 : ByteArray) =>
 ptrW p_91 (fun b97 o98 =>
 rdT (rdC b97 o98) kL (fun x99 =>
 callT Tryz.prog 27 [.slice x99.base x99.len x99.cap] kS (fun (x100 : ByteArray) =>
 andW (fun σ => (rdC b94 o95) σ = some (.string x96))
 (ifW (x96.size + x100.size <= 9223372036854775807)
 (alW (.cells ⟨[.string (x96 ++ x100)]⟩ 9 (0, 0)) (fun b101 =>
 j22 x87 x89 yield_90 ⟨(some ⟨b101, 0, none⟩), 1, 1⟩)))))))))
 (j22 x87 x89 yield_90 next_92)) (fun j86 =>
 ptrW x3 (fun b102 o103 =>
 rdT (rdC b102 o103) kS (fun (x104 : ByteArray) =>
 brW (strEq x104 (⟨⟨[]⟩⟩ : ByteArray))
 (j86 x2 x3 x4 (some ⟨b5, 0, none⟩) (some ⟨b21, 0, none⟩) ⟨none, 0, 0⟩ true)
 (brW ((x84 : Int) == 0)
 (rdT (rdC b85 0) kI (fun (x105 : Int) =>
 j86 x2 x3 x4 (some ⟨b5, 0, none⟩) (some ⟨b21, 0, none⟩) ⟨none, 0, 0⟩ ((x105 : Int) == 2)))
 (j86 x2 x3 x4 (some ⟨b5, 0, none⟩) (some ⟨b21, 0, none⟩) ⟨none, 0, 0⟩ false)))))))))))))))))))
 (rdT (rdC b21 0) kL (fun x106 =>
 callT Tryz.prog 65 [.slice x106.base x106.len x106.cap] kB (fun x107 =>
 brW x107
 (ptrW x4 (fun b108 o109 =>
 rdT (rdC b108 o109) kP (fun x110 =>
 ptrW x3 (fun b111 o112 =>
 rdT (rdC b111 o112) kS (fun (x113 : ByteArray) =>
 rdT (rdA 2 b21 0) (.one (.agg [.slc, .bool])) (fun x114 x115 =>
 callT Tryz.prog 136 [.pointer x110, .string x113, .agg ⟨[.slice x114.base x114.len x114.cap, .bool x115]⟩] kL (fun x116 =>
 loopW [.sc .ptr, .sc .ptr, .sc .ptr, .sc .ptr, .sc .slc, .sc .slc, .sc (.int .i64), .sc (.int .i64)] (fun (R117 : Option Addr -> Option Addr -> Option Addr -> Option Addr -> Sl -> Sl -> Int -> Int -> H -> Prop) => (fun (x118 : Option Addr) (x119 : Option Addr) (x120 : Option Addr) (yield_121 : Option Addr) (next_122 : Sl) (x123 : Sl) (x124 : Int) (x125 : Int) =>
 brW (decide ((x125 : Int) < x124))
 (ptrW x123.base (fun b126 o127 =>
 ifW (0 <= x125 /\ x125 < ((x123.len : Nat) : Int))
 (rdT (rdC b126 (o127 + x125.toNat * 1)) kS (fun (x128 : ByteArray) =>
 ptrW x119 (fun b129 o130 =>
 rdT (rdC b129 o130) kS (fun (x131 : ByteArray) =>
 ifW (x131.size + x128.size <= 9223372036854775807)
 (alW (.cells ⟨[.string (x131 ++ x128)]⟩ 9 (0, 0)) (fun b132 =>
 biW Tryz.prog .append #[22, 22] 22 [false, false] [.slice next_122.base next_122.len next_122.cap, .slice (some ⟨b132, 0, none⟩) 1 1] kL (fun x133 =>
 R117 x118 x119 x120 yield_121 x133 x123 x124 (IntKind.i64.wrap (x125 + 1)))))))))))
 (j22 x118 x120 yield_121 next_122))) (fun (R134 : Option Addr -> Option Addr -> Option Addr -> Option Addr -> Sl -> Sl -> Int -> Int -> H -> Prop) => R134 x2 x3 x4 (some ⟨b5, 0, none⟩) ⟨none, 0, 0⟩ x116 ((x116.len : Nat) : Int) 0))))))))
 (ptrW x3 (fun b135 o136 =>
 rdT (rdC b135 o136) kS (fun (x137 : ByteArray) =>
 rdT (rdC b21 0) kL (fun x138 =>
 callT Tryz.prog 27 [.slice x138.base x138.len x138.cap] kS (fun (x139 : ByteArray) =>
 andW (fun σ => (rdC b135 o136) σ = some (.string x137))
 (ifW (x137.size + x139.size <= 9223372036854775807)
 (ptrW x4 (fun b140 o141 =>
 rdT (rdC b140 o141) kP (fun x142 =>
 ptrW x142 (fun b143 o144 =>
 rdT (rdC b143 o144) kP (fun x145 =>
 ptrW x4 (fun b146 o147 =>
 rdT (rdC b146 o147) kP (fun x148 =>
 ptrW x148 (fun b149 o150 =>
 rdT (rdC b149 (o150 + 1)) kS (fun (x151 : ByteArray) =>
 callT Tryz.prog 15 [.pointer x145, .string x151, .string (x137 ++ x139), .bool false] (.tup [.agg [(.int .i64), (.int .i64), .str, (.int .i64)], .sc (.int .i64)]) (fun (x152 : Int) (x153 : Int) (x154 : ByteArray) (x155 : Int) (x156 : Int) =>
 alW (.cells ⟨[.int .i64 0, .int .i64 0, .string (⟨⟨[]⟩⟩ : ByteArray), .int .i64 0]⟩ 35 (0, 0)) (fun b157 =>
 stW Tryz.prog 35 (.pointer (some ⟨b157, 0, none⟩)) (.agg ⟨[.int .i64 x152, .int .i64 x153, .string x154, .int .i64 x155]⟩) (brW ((x156 : Int) == 0)
 (alW (.cells ⟨[.string (x137 ++ x139)]⟩ 9 (0, 0)) (fun b158 =>
 j22 x2 x4 (some ⟨b5, 0, none⟩) ⟨(some ⟨b158, 0, none⟩), 1, 1⟩))
 (j22 x2 x4 (some ⟨b5, 0, none⟩) ⟨none, 0, 0⟩))))))))))))))))))))))))))))))))))))
theorem e135 (yield_1 : Value) (x2 : Option Addr) (x3 : Option Addr) (x4 : Option Addr) (K : KH) : bodyF Tryz.prog tau Tryz.f135 an135 [yield_1, .pointer x2, .pointer x3, .pointer x4] K = g135 yield_1 x2 x3 x4 K := by kernel_rfl
theorem c135 (yield_1 : Value) (x2 : Option Addr) (x3 : Option Addr) (x4 : Option Addr) {K : KH} {σ : H} (h : g135 yield_1 x2 x3 x4 K σ) : callW Tryz.prog 135 [yield_1, .pointer x2, .pointer x3, .pointer x4] K σ := call_of_body mixed Tryz.func135 (by rw [e135]; exact h)


def an136 : Ann := (.seq none (.reg [] []) (.seq (some [(0, .sc .ptr), (1, .sc .str), (5, .sc .ptr)]) (.seq none (.reg [] []) (.cond (.reg [] []) .leaf)) (.seq none (.reg [0, 1, 2, 3, 4, 5, 6, 7, 8, 9, 10, 11, 12, 13, 14] [[], [0], [0, 1], [0, 1, 2], [], [4], [4, 5], [4, 5, 6], [], [0, 1, 2, 3, 4, 5, 6, 7, 8], [0, 1, 2, 3, 4, 5, 6, 7, 8, 9], [0, 1, 2, 3, 4, 5, 6, 7, 8, 9, 10], [0, 1, 2, 3, 4, 5, 6, 7, 8, 9, 10], [0, 1, 2, 3, 4, 5, 6, 7, 8, 9, 10, 11], [0, 1, 2, 3, 4, 5, 6, 7, 8, 9, 10, 11, 12, 13]]) (.seq none (.seq none (.reg [] []) (.cond (.seq none (.reg [] []) .leaf) .leaf)) (.seq none (.reg [] []) (.seq none (.reg [] []) (.seq none (.reg [] []) .leaf)))))))
def g136 (s_1 : Option Addr) (dir_2 : ByteArray) (p_3 : Sl) (p_4 : Bool) (K : KH) : H -> Prop :=
 alW (.cells ⟨[.slice p_3.base p_3.len p_3.cap, .bool p_4]⟩ 186 (0, 0)) (fun b5 =>
 letJ (T := Option Addr -> ByteArray -> Option Addr -> H -> Prop) (fun s_7 dir_8 p_9 =>
 ptrW s_7 (fun b10 o11 =>
 rdT (rdC b10 o11) kP (fun x12 =>
 ptrW s_7 (fun b13 o14 =>
 rdT (rdC b13 (o14 + 1)) kS (fun (x15 : ByteArray) =>
 callT Tryz.prog 17 [.pointer x12, .string x15, .string dir_8] (.tup [.sc .slc, .sc (.int .i64)]) (fun (x16 : Sl) (x17 : Int) =>
 brW ((x17 : Int) != 0)
 (K (.slice none 0 0))
 (ptrW s_7 (fun b18 o19 =>
 rdT (rdC b18 (o19 + 2)) kI (fun (x20 : Int) =>
 ptrW s_7 (fun b21 o22 =>
 stW Tryz.prog 3 (.pointer (some ⟨b21, o22 + 2, none⟩)) (.int .i64 (IntKind.i64.wrap (x20 + ((x16.len : Nat) : Int)))) (ptrW p_9 (fun b23 o24 =>
 rdT (rdC b23 o24) kL (fun x25 =>
 callT Tryz.prog 27 [.slice x25.base x25.len x25.cap] kS (fun (x26 : ByteArray) =>
 callT Tryz.prog 106 [.string x26, .string (⟨⟨[46]⟩⟩ : ByteArray)] kB (fun x27 =>
 alW (.cells ⟨[.bool false]⟩ 4 (0, 0)) (fun b28 =>
 stW Tryz.prog 4 (.pointer (some ⟨b28, 0, none⟩)) (.bool x27) (callT Tryz.prog 195 [.slice x16.base x16.len x16.cap, .func (.func 196) ⟨[]⟩ ⟨[.pointer (some ⟨b28, 0, none⟩), .pointer p_9]⟩] kL (fun x29 =>
 K (.slice x29.base x29.len x29.cap))))))))))))))))))) (fun j6 =>
 brW (strEq dir_2 (⟨⟨[]⟩⟩ : ByteArray))
 (j6 s_1 (⟨⟨[46]⟩⟩ : ByteArray) (some ⟨b5, 0, none⟩))
 (j6 s_1 dir_2 (some ⟨b5, 0, none⟩))))
theorem e136 (s_1 : Option Addr) (dir_2 : ByteArray) (p_3 : Sl) (p_4 : Bool) (K : KH) : bodyF Tryz.prog tau Tryz.f136 an136 [.pointer s_1, .string dir_2, .agg ⟨[.slice p_3.base p_3.len p_3.cap, .bool p_4]⟩] K = g136 s_1 dir_2 p_3 p_4 K := by kernel_rfl
theorem c136 (s_1 : Option Addr) (dir_2 : ByteArray) (p_3 : Sl) (p_4 : Bool) {K : KH} {σ : H} (h : g136 s_1 dir_2 p_3 p_4 K σ) : callW Tryz.prog 136 [.pointer s_1, .string dir_2, .agg ⟨[.slice p_3.base p_3.len p_3.cap, .bool p_4]⟩] K σ := call_of_body mixed Tryz.func136 (by rw [e136]; exact h)

end Go.Proofs.YtbjbeajbckcecaaGreatDoor

