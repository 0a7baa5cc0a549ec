/- A part of the proof: In which order things are made, and where they lay ahead, changes nothing of the tree. -/
import Derived.Test.YtlpcehbfoogejaaGreatDoorOan
import Derived.Test.YtlpcehbfoogejaaGreatDoorProg
import Derived.KernelRfl
import Derived.Test.YtlpcehbfoogejaaGreatDoorChecked
/- A TABLE OF INODES, as plain data: no program in sight. -/
namespace Go.Wk
open Go Go.HL
/-- an inode -/
structure AN where
  kind : Int
  mode : Int
  data : ByteArray
  links : Int
  up : Int
  ents : List (ByteArray × Int)
/-- a table -/
structure AT where
  qi : Int
  qb : Int
  ui : Int
  ub : Int
  last : Int
  nodes : List (Int × AN)
def AT.get (A : AT) (i : Int) : Option AN := lk i A.nodes
def AT.find (A : AT) (dir : Int) (name : ByteArray) : Option Int := (A.get dir).bind fun n => lk name n.ents
def AT.kind (A : AT) (i : Int) : Int := ((A.get i).map (·.kind)).getD 0
def AT.upOf (A : AT) (i : Int) : Int := ((A.get i).map (·.up)).getD 0
def AT.dirE (A : AT) (ino : Int) : Int := match A.get ino with
  | none => 5
  | some n => if n.kind == 2 then 0 else 8
def AT.fileE (A : AT) (ino : Int) : Int := match A.get ino with
  | none => 5
  | some n => if n.kind == 2 then 7 else if n.kind == 1 then 0 else 2
/-- texts that are equal, in a form that the kernel can run -/
def sEq (x y : ByteArray) : Bool := x.data.toList == y.data.toList
theorem sEq_eq (x y : ByteArray) : sEq x y = strEq x y := by unfold sEq strEq; rw [ByteArray.toList_eq, ByteArray.toList_eq]
theorem sEq_iff {x y : ByteArray} : sEq x y = true ↔ x = y := by rw [sEq_eq]; exact strEq_iff
def badByte (s : ByteArray) : Bool := s.data.toList.any fun c => c == 47 || c == 0
def hasNul (s : ByteArray) : Bool := s.data.toList.any fun c => c == 0
def namedE (name : ByteArray) : Int := if name.size > 56 then 3 else if !sEq name ⟨⟨[]⟩⟩ && !sEq name ⟨⟨[46]⟩⟩ && !sEq name ⟨⟨[46, 46]⟩⟩ && !badByte name then 0 else 2
def linkOk (d : ByteArray) : Bool := !sEq d ⟨⟨[]⟩⟩ && (decide (d.size ≤ 255) && !hasNul d)
def kindOkE (kind : Int) (d : ByteArray) : Bool := (lk kind [((1 : Int), true), (2, sEq d ⟨⟨[]⟩⟩), (3, linkOk d)]).getD false
def likeE (kind mode : Int) (d : ByteArray) : Int := if kindOkE kind d && (decide (0 ≤ mode) && decide (mode ≤ 511)) then 0 else 2
def wr (x : Int) : Int := IntKind.i64.wrap x
def AT.roomE (A : AT) (i n : Int) : Int := if wr (A.ui + i) ≤ A.qi ∧ wr (A.ub + n) ≤ A.qb then 0 else 10
def firstE : List Int → Int
  | [] => 0
  | e :: es => if e = 0 then firstE es else e
def AT.set (A : AT) (i : Int) (n : AN) : AT := { A with nodes := up i n A.nodes }
/-- setting what a directory names -/
def AT.ent (A : AT) (dir : Int) (f : List (ByteArray × Int) → List (ByteArray × Int)) : AT := match A.get dir with
  | none => A
  | some n => A.set dir { n with ents := f n.ents }
def AT.makeE (A : AT) (dir : Int) (name : ByteArray) (kind mode : Int) (data : ByteArray) : Int :=
  firstE [0, A.dirE dir, namedE name, likeE kind mode data, if (A.find dir name).isSome then 6 else 0, A.roomE 1 (data.size : Int)]
def AT.made (A : AT) (dir : Int) (name : ByteArray) (kind mode : Int) (data : ByteArray) : AT :=
  let i := wr (A.last + 1)
  let A1 := { A with last := i, nodes := up i ⟨kind, mode, data, 1, if kind == 2 then dir else 0, []⟩ A.nodes }
  let A2 := A1.ent dir (up name i)
  { A2 with ui := wr (A.ui + 1), ub := wr (A.ub + data.size) }
def AT.linkE (A : AT) (dir : Int) (name : ByteArray) (ino : Int) : Int :=
  firstE [0, A.dirE dir, namedE name, A.fileE ino, if (A.find dir name).isSome then 6 else 0]
def AT.mod (A : AT) (i : Int) (f : AN → AN) : AT := match A.get i with
  | none => A
  | some n => A.set i (f n)
def AT.linked (A : AT) (dir : Int) (name : ByteArray) (ino : Int) : AT := (A.ent dir (up name ino)).mod ino fun n => { n with links := wr (n.links + 1) }
def AT.unlinkE (A : AT) (dir : Int) (name : ByteArray) : Int :=
  firstE [0, A.dirE dir, if (A.find dir name).isSome then 0 else 5, if ((A.get ((A.find dir name).getD 0)).map (·.ents.length)).getD 0 = 0 then 0 else 20]
def AT.unlinked (A : AT) (dir : Int) (name : ByteArray) : AT :=
  let ino := (A.find dir name).getD 0
  let A1 := (A.ent dir (rm name)).mod ino fun n => { n with links := wr (n.links - 1) }
  match A1.get ino with
  | none => A1
  | some n => if n.links == 0 then { A1 with nodes := rm ino A1.nodes, ui := wr (A.ui - 1), ub := wr (A.ub - n.data.size) } else A1
/-- going up, so many steps at most: is that passed? -/
def AT.apart (A : AT) (ino : Int) : Nat → Int → Option Bool
  | 0, _ => none
  | f + 1, at_ => if at_ = 1 then some true else if at_ = ino then some false else (A.get at_).bind fun n => AT.apart A ino f n.up
def AT.moveE1 (A : AT) (src : Int) (name : ByteArray) (to : Int) (as_ : ByteArray) : Int :=
  firstE [0, A.dirE src, A.dirE to, namedE as_, if (A.find src name).isSome then 0 else 5]
def AT.moved (A : AT) (src : Int) (name : ByteArray) (to : Int) (as_ : ByteArray) : AT :=
  let ino := (A.find src name).getD 0
  ((A.ent src (rm name)).ent to (up as_ ino)).mod ino fun n => if n.kind == 2 then { n with up := to } else n
def AT.writeE (A : AT) (ino : Int) (data : ByteArray) : Int :=
  firstE [0, A.fileE ino, A.roomE 0 (wr ((data.size : Int) - ((A.get ino).map (·.data.size)).getD 0))]
def AT.written (A : AT) (ino : Int) (data : ByteArray) : AT := match A.get ino with
  | none => A
  | some n => { A.set ino { n with data := data } with ub := wr (A.ub + wr ((data.size : Int) - n.data.size)) }
def AT.chmodE (A : AT) (ino mode : Int) : Int := firstE [0, if 0 ≤ mode ∧ mode ≤ 511 then 0 else 2, if (A.get ino).isSome then 0 else 5]
def AT.chmoded (A : AT) (ino mode : Int) : AT := A.mod ino fun n => { n with mode := mode }
def newOk (qi qb : Int) : Bool := !(decide (qi < 1) || (decide (qi > 1048576) || (decide (qb < 0) || decide (qb > 1073741824))))
def newT (qi qb : Int) : AT := ⟨qi, qb, 1, 0, 1, [(1, ⟨2, 493, ⟨⟨[]⟩⟩, 1, 1, []⟩)]⟩
def AT.makeR (A : AT) (dir : Int) (name : ByteArray) (kind mode : Int) (data : ByteArray) : Int × Int × AT :=
  if A.makeE dir name kind mode data = 0 then (wr (A.last + 1), 0, A.made dir name kind mode data) else (0, A.makeE dir name kind mode data, A)
def AT.linkR (A : AT) (dir : Int) (name : ByteArray) (ino : Int) : Int × AT :=
  if A.linkE dir name ino = 0 then (0, A.linked dir name ino) else (A.linkE dir name ino, A)
def AT.writeR (A : AT) (ino : Int) (data : ByteArray) : Int × AT := if A.writeE ino data = 0 then (0, A.written ino data) else (A.writeE ino data, A)
def AT.chmodR (A : AT) (ino mode : Int) : Int × AT := if A.chmodE ino mode = 0 then (0, A.chmoded ino mode) else (A.chmodE ino mode, A)
def AT.unlinkR (A : AT) (dir : Int) (name : ByteArray) : Int × AT := if A.unlinkE dir name = 0 then (0, A.unlinked dir name) else (A.unlinkE dir name, A)
def AT.moveR (A : AT) (src : Int) (name : ByteArray) (to : Int) (as_ : ByteArray) (f : Nat) : Int × AT :=
  if A.moveE1 src name to as_ ≠ 0 ∨ (src = to ∧ name = as_) then (A.moveE1 src name to as_, A)
  else
    let e := firstE [if (A.find to as_).isSome then 6 else 0, if (A.apart ((A.find src name).getD 0) f to).getD false then 0 else 2]
    if e ≠ 0 then (e, A) else (0, A.moved src name to as_)
end Go.Wk

/- The kinds of the types. -/
namespace Go.Proofs.YtlpcehbfoogejaaGreatDoor
open Go Go.HL
@[reducible] def kI : TK := .one (.sc (.int .i64))
@[reducible] def kC : TK := .one (.sc (.int .u8))
@[reducible] def kB : TK := .one (.sc .bool)
@[reducible] def kS : TK := .one (.sc .str)
@[reducible] def kP : TK := .one (.sc .ptr)
@[reducible] def kL : TK := .one (.sc .slc)
@[reducible] def kM : TK := .one (.sc .map)
@[reducible] def kR : TK := .one (.sc .raw)
@[reducible] def kU : TK := .tup []
def tau : Nat → TK
  | 0 => kU
  | 2 => kI
  | 3 => kI
  | 4 => kB
  | 5 => kC
  | 6 => kC
  | 7 => (.one (.agg [(.int .i64), (.int .i64), .bool, (.int .u8)]))
  | 8 => (.one (.agg [(.int .i64), (.int .i64), .bool, (.int .u8)]))
  | 9 => kS
  | 10 => kS
  | 11 => kS
  | 12 => (.one (.sc (.int .u64)))
  | 13 => (.one (.agg [.str, (.int .u64)]))
  | 14 => (.one (.agg [.str, (.int .u64)]))
  | 15 => kP
  | 16 => kP
  | 17 => kP
  | 18 => (.one (.agg [.ptr]))
  | 19 => (.one (.agg [.ptr]))
  | 21 => (.one (.sc (.int .i32)))
  | 22 => kL
  | 23 => (.one (.agg [.str, (.int .i64), .bool, .str, .slc]))
  | 24 => (.one (.agg [.str, (.int .i64), .bool, .str, .slc]))
  | 27 => kP
  | 28 => kP
  | 30 => (.one (.agg [(.int .i64), (.int .i64)]))
  | 31 => (.one (.agg [(.int .i64), (.int .i64)]))
  | 32 => kI
  | 38 => kL
  | 39 => (.one (.agg [(.int .u8), .str, .str, .str, (.int .i64), .bool]))
  | 40 => (.one (.agg [(.int .u8), .str, .str, .str, (.int .i64), .bool]))
  | 45 => (.one (.sc (.int .u16)))
  | 47 => (.tup [.agg [.str, (.int .i64), .bool, .str, .slc], .sc (.int .i64)])
  | 53 => (.one (.agg [(.int .i64), (.int .i64), .str, (.int .i64)]))
  | 54 => (.one (.agg [(.int .i64), (.int .i64), .str, (.int .i64)]))
  | 55 => (.tup [.agg [(.int .i64), (.int .i64), .str, (.int .i64)], .sc (.int .i64)])
  | 58 => kL
  | 59 => (.one (.agg [.str, .str, .str, .str, .str, .str]))
  | 61 => kL
  | 62 => kP
  | 65 => (.one (.agg [(.int .u8), .str, .str, (.int .i64)]))
  | 66 => (.one (.agg [(.int .u8), .str, .str, (.int .i64)]))
  | 74 => kL
  | 75 => (.tup [.sc .slc, .sc (.int .i64)])
  | 78 => (.tup [.sc .str, .sc (.int .i64)])
  | 80 => kP
  | 82 => (.one (.agg [.ptr]))
  | 83 => (.one (.agg [.ptr]))
  | 85 => (.one (.agg [(.int .i64), .str, (.int .i64), .bool]))
  | 86 => (.one (.agg [(.int .i64), .str, (.int .i64), .bool]))
  | 88 => (.tup [.sc (.int .i64), .sc (.int .i64)])
  | 92 => (.tup [.sc (.int .i64), .sc (.int .i64)])
  | 96 => (.tup [.agg [(.int .i64), .str, (.int .i64), .bool], .sc (.int .i64)])
  | 98 => (.tup [.agg [(.int .i64), (.int .i64), .str, (.int .i64)], .sc .bool])
  | 103 => (.tup [.agg [(.int .i64), .str, (.int .i64), .bool], .agg [(.int .i64), .str, (.int .i64), .bool], .sc (.int .i64)])
  | 109 => (.one (.agg [.ptr]))
  | 110 => (.one (.agg [.ptr]))
  | 116 => kP
  | 117 => kL
  | 118 => (.one (.agg [(.int .i64), (.int .i64), .str, .slc, (.int .i64)]))
  | 119 => (.one (.agg [(.int .i64), (.int .i64), .str, .slc, (.int .i64)]))
  | 120 => kL
  | 121 => (.one (.agg [(.int .i64), (.int .i64), .slc]))
  | 122 => (.one (.agg [(.int .i64), (.int .i64), .slc]))
  | 123 => (.one (.sc (.int .u64)))
  | 124 => (.tup [.sc (.int .u64), .sc (.int .u64)])
  | 127 => kP
  | 128 => (.one (.agg [.ptr, .slc]))
  | 129 => (.one (.agg [.ptr, .slc]))
  | 133 => (.tup [.sc (.int .i64), .sc .raw])
  | 137 => (.tup [.sc (.int .i64), .sc .bool])
  | 139 => kP
  | 140 => kM
  | 141 => (.one (.agg [(.int .i64), (.int .i64), .str, (.int .i64), (.int .i64), .map]))
  | 142 => (.one (.agg [(.int .i64), (.int .i64), .str, (.int .i64), (.int .i64), .map]))
  | 143 => kM
  | 144 => (.one (.agg [(.int .i64), (.int .i64), (.int .i64), (.int .i64), .map, (.int .i64)]))
  | 145 => (.one (.agg [(.int .i64), (.int .i64), (.int .i64), (.int .i64), .map, (.int .i64)]))
  | 146 => kM
  | 154 => kM
  | 161 => (.tup [.sc .raw, .sc .bool])
  | 165 => kM
  | 167 => (.tup [.sc (.int .i32), .sc (.int .i64)])
  | 170 => (.one (.agg [(.int .i64), .str, (.int .i64)]))
  | 171 => (.one (.agg [(.int .i64), .str, (.int .i64)]))
  | 172 => (.tup [.agg [(.int .i64), .str, (.int .i64)], .sc (.int .i64)])
  | 179 => (.one (.sc (.int .u32)))
  | 180 => (.tup [.sc (.int .u32), .sc (.int .u32)])
  | 182 => (.one (.sc (.int .u64)))
  | 183 => (.tup [.sc (.int .u64), .sc (.int .u64)])
  | 185 => kP
  | 186 => kL
  | 198 => (.one (.agg [.str, (.int .i64)]))
  | 199 => (.one (.agg [.str, (.int .i64)]))
  | 203 => kL
  | 212 => (.one (.agg [(.int .u8), (.int .u8)]))
  | 213 => (.one (.agg [(.int .u8), (.int .u8)]))
  | 221 => (.tup [.sc .raw, .sc .bool])
  | 227 => kI
  | 228 => (.tup [.sc (.int .i64), .sc (.int .i64)])
  | 238 => kP
  | 239 => (.one (.sc (.int .u64)))
  | 244 => kP
  | 246 => (.one (.agg [.ptr, .ptr, .ptr, .str]))
  | 247 => (.one (.agg [.ptr, .ptr, .ptr, .str]))
  | 248 => (.one (.agg []))
  | 249 => (.one (.agg []))
  | 250 => (.one (.agg []))
  | 251 => kC
  | 252 => kC
  | 254 => (.one (.sc (.int .i32)))
  | 255 => (.one (.sc (.int .i32)))
  | 256 => (.one (.agg [(.int .u64), (.int .u64), (.int .u32), (.int .u8), (.int .u8), (.int .u8), (.int .u8), .raw, .ptr, (.int .i32), (.int .i32)]))
  | 257 => (.one (.agg [(.int .u64), (.int .u64), (.int .u32), (.int .u8), (.int .u8), (.int .u8), (.int .u8), .raw, .ptr, (.int .i32), (.int .i32)]))
  | _ => kR
theorem mixed : Tryz.prog.follows .mixedOrders = true := by kernel_rfl
end Go.Proofs.YtlpcehbfoogejaaGreatDoor

set_option maxRecDepth 100000
namespace Go.Proofs.YtlpcehbfoogejaaGreatDoor
open Go Go.HL
/-- whisk/whisklaw10.CanonOrder -/
def an9 : Ann := (.seq none (.reg [] []) (.seq none (.seq none (.reg [] []) (.cond (.seq none (.reg [] []) .leaf) .leaf)) (.seq none (.reg [] []) (.seq none (.reg [] []) (.seq none (.seq (some [(0, .sc .slc), (1, .sc .str), (5, .sc .ptr), (39, .sc .bool)]) (.reg [] []) (.cond (.seq none (.reg [] []) .leaf) .leaf)) (.seq none (.reg [] []) (.seq none (.reg [] []) (.seq none (.seq none (.reg [] []) (.blk (.loop [(0, .sc .slc), (1, .sc .str), (5, .sc .ptr), (6, .sc .ptr), (7, .sc (.int .i64)), (8, .sc (.int .i64))] (.seq none (.seq none (.reg [] []) (.cond .leaf .leaf)) (.seq none (.blk (.seq none (.reg [0, 1, 2, 3, 4, 5, 6, 7, 8, 9, 10, 11, 12, 13, 14, 15, 16, 17] [[], [], [], [1, 2], [1, 2, 3], [1, 2, 3, 4], [1, 2, 3, 4, 5], [1, 2, 3, 4, 5, 6], [], [], [], [9, 10], [9, 10, 11], [9, 10, 11, 12], [9, 10, 11, 12, 13], [9, 10, 11, 12, 13, 14], [8, 9, 10, 11, 12, 13, 14, 15], [0, 1, 2, 3, 4, 5, 6, 7, 8, 9, 10, 11, 12, 13, 14, 15, 16]]) (.seq none (.reg [] []) (.seq none (.reg [] []) (.reg [] []))))) (.reg [] [])))))) (.seq none (.reg [] []) (.seq none (.reg [] []) (.seq none (.reg [] []) .leaf)))))))))))
def g9 (l_1 : Sl) (data_2 : ByteArray) (K : Value → H → Prop) : H → Prop :=
  callT Tryz.prog 24 [] kB (fun (x3 : Bool) =>
  brW (!x3)
  (K (.bool false))
  (ifW (bndOk (some (if 60 < ((data_2.size : Nat) : Int) then 60 else ((data_2.size : Nat) : Int))) data_2.size ∧ bndOk none ((if 60 < ((data_2.size : Nat) : Int) then 60 else ((data_2.size : Nat) : Int)).toNat))
  (callT Tryz.prog 15 [.agg ⟨[.int .i64 100, .int .i64 9000]⟩] kP (fun (x4 : Option Addr) =>
  letJ (T := Sl → ByteArray → Option Addr → Bool → H → Prop) (fun (l_6 : Sl) (data_7 : ByteArray) (f_8 : Option Addr) (x9 : Bool) =>
  brW x9
  (K (.bool false))
  (alW (.cells ⟨[.string (⟨⟨[]⟩⟩ : ByteArray), .string (⟨⟨[]⟩⟩ : ByteArray), .string (⟨⟨[]⟩⟩ : ByteArray), .string (⟨⟨[]⟩⟩ : ByteArray), .string (⟨⟨[]⟩⟩ : ByteArray), .string (⟨⟨[]⟩⟩ : ByteArray)]⟩ 59 (0, 0)) (fun (b10 : Nat) =>
  stW Tryz.prog 59 (.pointer (some ⟨b10, 0, none⟩)) (.agg ⟨[.string (⟨⟨[97]⟩⟩ : ByteArray), .string (⟨⟨[98]⟩⟩ : ByteArray), .string (⟨⟨[99]⟩⟩ : ByteArray), .string (⟨⟨[66]⟩⟩ : ByteArray), .string (⟨⟨[97, 46, 98]⟩⟩ : ByteArray), .string (⟨⟨[122]⟩⟩ : ByteArray)]⟩) (loopW [.sc .slc, .sc .str, .sc .ptr, .sc .ptr, .sc (.int .i64), .sc (.int .i64)] (fun (R11 : Sl → ByteArray → Option Addr → Option Addr → Int → Int → H → Prop) => (fun (l_12 : Sl) (data_13 : ByteArray) (f_14 : Option Addr) (names_15 : Option Addr) (n_16 : Int) (i_17 : Int) =>
  brW (decide ((i_17 : Int) < n_16))
  (ptrW l_12.base (fun (b18 o19 : Nat) =>
  ifW (0 ≤ i_17 ∧ i_17 < ((l_12.len : Nat) : Int))
  (rdT (rdC b18 (o19 + i_17.toNat * 1)) kC (fun (x20 : Int) =>
  ifW ((6 : Int) ≠ 0)
  (ptrW names_15 (fun (b21 o22 : Nat) =>
  ifW (0 ≤ Int.tmod x20 6 ∧ Int.tmod x20 6 < ((6 : Nat) : Int))
  (rdT (rdC b21 (o22 + (Int.tmod x20 6 : Int).toNat * 1)) kS (fun (x23 : ByteArray) =>
  ptrW l_12.base (fun (b24 o25 : Nat) =>
  ifW (0 ≤ i_17 ∧ i_17 < ((l_12.len : Nat) : Int))
  (rdT (rdC b24 (o25 + i_17.toNat * 1)) kC (fun (x26 : Int) =>
  ifW ((6 : Int) ≠ 0)
  (ptrW names_15 (fun (b27 o28 : Nat) =>
  ifW (0 ≤ Int.tmod x26 6 ∧ Int.tmod x26 6 < ((6 : Nat) : Int))
  (rdT (rdC b27 (o28 + (Int.tmod x26 6 : Int).toNat * 1)) kS (fun (x29 : ByteArray) =>
  ifW (data_13.size + x29.size ≤ 9223372036854775807)
  (callT Tryz.prog 21 [.pointer f_14, .string (⟨⟨[47, 112]⟩⟩ : ByteArray), .string x23, .string (data_13 ++ x29), .bool false] kI (fun (_x30 : Int) =>
  ptrW l_12.base (fun (b31 o32 : Nat) =>
  ifW (0 ≤ IntKind.i64.wrap ((IntKind.i64.wrap (n_16 - 1)) - i_17) ∧ IntKind.i64.wrap ((IntKind.i64.wrap (n_16 - 1)) - i_17) < ((l_12.len : Nat) : Int))
  (rdT (rdC b31 (o32 + (IntKind.i64.wrap ((IntKind.i64.wrap (n_16 - 1)) - i_17) : Int).toNat * 1)) kC (fun (x33 : Int) =>
  ifW ((6 : Int) ≠ 0)
  (ptrW names_15 (fun (b34 o35 : Nat) =>
  ifW (0 ≤ Int.tmod x33 6 ∧ Int.tmod x33 6 < ((6 : Nat) : Int))
  (rdT (rdC b34 (o35 + (Int.tmod x33 6 : Int).toNat * 1)) kS (fun (x36 : ByteArray) =>
  ifW (data_13.size + x36.size ≤ 9223372036854775807)
  (callT Tryz.prog 21 [.pointer f_14, .string (⟨⟨[47, 114]⟩⟩ : ByteArray), .string x36, .string (data_13 ++ x36), .bool false] kI (fun (_x37 : Int) =>
  ifW ((⟨⟨[114, 47]⟩⟩ : ByteArray).size + x36.size ≤ 9223372036854775807)
  (ifW ((⟨⟨[113, 47]⟩⟩ : ByteArray).size + x36.size ≤ 9223372036854775807)
  (callT Tryz.prog 33 [.pointer f_14, .string (⟨⟨[47]⟩⟩ : ByteArray), .string ((⟨⟨[114, 47]⟩⟩ : ByteArray) ++ x36), .string ((⟨⟨[113, 47]⟩⟩ : ByteArray) ++ x36)] kI (fun (_x38 : Int) =>
  R11 l_12 data_13 f_14 names_15 n_16 (IntKind.i64.wrap (i_17 + 1)))))))))))))))))))))))))))))))
  (callT Tryz.prog 27 [.pointer f_14, .string (⟨⟨[47, 112]⟩⟩ : ByteArray)] (.tup [.agg [.str, (.int .i64), .bool, .str, .slc], .sc (.int .i64)]) (fun (x39 : ByteArray) (x40 : Int) (x41 : Bool) (x42 : ByteArray) (x43 : Sl) (x44 : Int) =>
  alW (.cells ⟨[.string (⟨⟨[]⟩⟩ : ByteArray), .int .i64 0, .bool false, .string (⟨⟨[]⟩⟩ : ByteArray), .slice none 0 0]⟩ 24 (0, 0)) (fun (b45 : Nat) =>
  stW Tryz.prog 24 (.pointer (some ⟨b45, 0, none⟩)) (.agg ⟨[.string x39, .int .i64 x40, .bool x41, .string x42, .slice x43.base x43.len x43.cap]⟩) (callT Tryz.prog 27 [.pointer f_14, .string (⟨⟨[47, 113]⟩⟩ : ByteArray)] (.tup [.agg [.str, (.int .i64), .bool, .str, .slc], .sc (.int .i64)]) (fun (x46 : ByteArray) (x47 : Int) (x48 : Bool) (x49 : ByteArray) (x50 : Sl) (x51 : Int) =>
  alW (.cells ⟨[.string (⟨⟨[]⟩⟩ : ByteArray), .int .i64 0, .bool false, .string (⟨⟨[]⟩⟩ : ByteArray), .slice none 0 0]⟩ 24 (0, 0)) (fun (b52 : Nat) =>
  stW Tryz.prog 24 (.pointer (some ⟨b52, 0, none⟩)) (.agg ⟨[.string x46, .int .i64 x47, .bool x48, .string x49, .slice x50.base x50.len x50.cap]⟩) (brW ((x44 : Int) == 0)
  (brW ((x51 : Int) == 0)
  (rdT (rdA 5 b45 0) (.one (.agg [.str, (.int .i64), .bool, .str, .slc])) (fun (x53 : ByteArray) (x54 : Int) (x55 : Bool) (x56 : ByteArray) (x57 : Sl) =>
  rdT (rdA 5 b52 0) (.one (.agg [.str, (.int .i64), .bool, .str, .slc])) (fun (x58 : ByteArray) (x59 : Int) (x60 : Bool) (x61 : ByteArray) (x62 : Sl) =>
  callT Tryz.prog 28 [.agg ⟨[.string x53, .int .i64 x54, .bool x55, .string x56, .slice x57.base x57.len x57.cap]⟩, .agg ⟨[.string x58, .int .i64 x59, .bool x60, .string x61, .slice x62.base x62.len x62.cap]⟩] kB (fun (x63 : Bool) =>
  K (.bool x63)))))
  (K (.bool false)))
  (K (.bool false))))))))))) (fun (R64 : Sl → ByteArray → Option Addr → Option Addr → Int → Int → H → Prop) => R64 l_6 data_7 f_8 (some ⟨b10, 0, none⟩) (if 10 < ((l_6.len : Nat) : Int) then 10 else ((l_6.len : Nat) : Int)) 0))))) (fun j5 =>
  brW x4.isNone
  (j5 l_1 (data_2.extract 0 ((if 60 < ((data_2.size : Nat) : Int) then 60 else ((data_2.size : Nat) : Int)).toNat)) x4 true)
  (callT Tryz.prog 16 [.pointer x4, .string (⟨⟨[47]⟩⟩ : ByteArray), .string (⟨⟨[112]⟩⟩ : ByteArray)] kI (fun (x65 : Int) =>
  brW ((x65 : Int) != 0)
  (j5 l_1 (data_2.extract 0 ((if 60 < ((data_2.size : Nat) : Int) then 60 else ((data_2.size : Nat) : Int)).toNat)) x4 true)
  (callT Tryz.prog 16 [.pointer x4, .string (⟨⟨[47]⟩⟩ : ByteArray), .string (⟨⟨[113]⟩⟩ : ByteArray)] kI (fun (x66 : Int) =>
  brW ((x66 : Int) != 0)
  (j5 l_1 (data_2.extract 0 ((if 60 < ((data_2.size : Nat) : Int) then 60 else ((data_2.size : Nat) : Int)).toNat)) x4 true)
  (callT Tryz.prog 16 [.pointer x4, .string (⟨⟨[47]⟩⟩ : ByteArray), .string (⟨⟨[114]⟩⟩ : ByteArray)] kI (fun (x67 : Int) =>
  j5 l_1 (data_2.extract 0 ((if 60 < ((data_2.size : Nat) : Int) then 60 else ((data_2.size : Nat) : Int)).toNat)) x4 ((x67 : Int) != 0))))))))))))
theorem e9 (l_1 : Sl) (data_2 : ByteArray) (K : Value → H → Prop) : bodyF Tryz.prog tau Tryz.f9 an9 [.slice l_1.base l_1.len l_1.cap, .string data_2] K = g9 l_1 data_2 K := by kernel_rfl
theorem c9 (l_1 : Sl) (data_2 : ByteArray) {K : Value → H → Prop} {σ : H} (h : g9 l_1 data_2 K σ) : callW Tryz.prog 9 [.slice l_1.base l_1.len l_1.cap, .string data_2] K σ := call_of_body mixed Tryz.func9 (by rw [e9]; exact h)


/-- whisk/fs.New -/
def an15 : Ann := (.seq none (.reg [] []) (.seq none (.reg [] []) (.seq none (.seq none (.reg [] []) (.cond (.seq none (.reg [] []) .leaf) .leaf)) (.seq none (.reg [] []) .leaf))))
def g15 (q_1 : Int) (q_2 : Int) (K : Value → H → Prop) : H → Prop :=
  alW (.cells ⟨[.int .i64 q_1, .int .i64 q_2]⟩ 31 (0, 0)) (fun (b3 : Nat) =>
  rdT (rdA 2 b3 0) (.one (.agg [(.int .i64), (.int .i64)])) (fun (x4 : Int) (x5 : Int) =>
  callT Tryz.prog 49 [.agg ⟨[.int .i64 x4, .int .i64 x5]⟩] kP (fun (x6 : Option Addr) =>
  brW x6.isNone
  (K (.pointer none))
  (alW (.cells ⟨[.pointer x6]⟩ 83 (0, 0)) (fun (b7 : Nat) =>
  K (.pointer (some ⟨b7, 0, none⟩)))))))
theorem e15 (q_1 : Int) (q_2 : Int) (K : Value → H → Prop) : bodyF Tryz.prog tau Tryz.f15 an15 [.agg ⟨[.int .i64 q_1, .int .i64 q_2]⟩] K = g15 q_1 q_2 K := by kernel_rfl
theorem c15 (q_1 : Int) (q_2 : Int) {K : Value → H → Prop} {σ : H} (h : g15 q_1 q_2 K σ) : callW Tryz.prog 15 [.agg ⟨[.int .i64 q_1, .int .i64 q_2]⟩] K σ := call_of_body mixed Tryz.func15 (by rw [e15]; exact h)


/-- (*whisk/fs.Fs).Mkdir -/
def an16 : Ann := (.seq none (.reg [] []) (.seq none (.reg [] []) .leaf))
def g16 (f_1 : Option Addr) (cwd_2 : ByteArray) (path_3 : ByteArray) (K : Value → H → Prop) : H → Prop :=
  alW (.cells ⟨[.pointer f_1]⟩ 28 (0, 0)) (fun (b4 : Nat) =>
  rdT (rdC b4 0) kP (fun (x5 : Option Addr) =>
  callT Tryz.prog 50 [.pointer x5, .string cwd_2, .string path_3, .func (.func 51) ⟨[]⟩ ⟨[.pointer (some ⟨b4, 0, none⟩)]⟩] kI (fun (x6 : Int) =>
  K (.int .i64 x6))))
theorem e16 (f_1 : Option Addr) (cwd_2 : ByteArray) (path_3 : ByteArray) (K : Value → H → Prop) : bodyF Tryz.prog tau Tryz.f16 an16 [.pointer f_1, .string cwd_2, .string path_3] K = g16 f_1 cwd_2 path_3 K := by kernel_rfl
theorem c16 (f_1 : Option Addr) (cwd_2 : ByteArray) (path_3 : ByteArray) {K : Value → H → Prop} {σ : H} (h : g16 f_1 cwd_2 path_3 K σ) : callW Tryz.prog 16 [.pointer f_1, .string cwd_2, .string path_3] K σ := call_of_body mixed Tryz.func16 (by rw [e16]; exact h)


/-- (*whisk/fs.Fs).Write -/
def an21 : Ann := (.seq none (.reg [] []) (.seq none (.reg [] []) (.seq none (.seq none (.reg [] []) (.cond (.seq none (.reg [] []) .leaf) .leaf)) (.seq none (.seq none (.reg [] []) (.cond (.seq none (.reg [0, 1, 2, 3, 4, 5, 6, 7, 8, 9, 10, 11, 12, 13, 14] [[], [0], [0, 1], [0, 1, 2], [], [4], [], [6], [], [0, 1, 2, 3, 4, 5, 6, 7, 8], [0, 1, 2, 3, 4, 5, 6, 7, 8, 9], [0, 1, 2, 3, 4, 5, 6, 7, 8, 9, 10], [0, 1, 2, 3, 4, 5, 6, 7, 8, 9, 10], [0, 1, 2, 3, 4, 5, 6, 7, 8, 9, 10, 11], [0, 1, 2, 3, 4, 5, 6, 7, 8, 9, 10, 11, 12, 13]]) (.seq none (.reg [] []) .leaf)) .leaf)) (.seq none (.reg [0, 1, 2, 3, 4, 5, 6, 7, 8, 9, 10, 11, 12] [[], [0], [0, 1], [0, 1, 2], [], [4], [0, 1, 2, 3, 4, 5], [0, 1, 2, 3, 4, 5, 6], [0, 1, 2, 3, 4, 5, 6, 7], [0, 1, 2, 3, 4, 5, 6, 7], [], [0, 1, 2, 3, 4, 5, 6, 7, 8, 10], [0, 1, 2, 3, 4, 5, 6, 7, 8, 9, 10, 11]]) (.seq none (.seq none (.reg [] []) (.cond (.seq none (.reg [] []) .leaf) .leaf)) (.seq (some [(0, .sc .ptr), (3, .sc .str), (11, .sc .ptr)]) (.seq none (.reg [] []) (.cond (.reg [] []) .leaf)) (.seq none (.reg [0, 1, 2, 3, 4, 5, 6, 7, 8] [[], [0], [0, 1], [0, 1, 2], [], [4], [], [0, 1, 2, 3, 4, 5, 6], [0, 1, 2, 3, 4, 5, 6, 7]]) .leaf))))))))
def g21 (f_1 : Option Addr) (cwd_2 : ByteArray) (path_3 : ByteArray) (data_4 : ByteArray) (more_5 : Bool) (K : Value → H → Prop) : H → Prop :=
  callT Tryz.prog 62 [.pointer f_1, .string cwd_2, .string path_3, .bool true] (.tup [.agg [(.int .i64), .str, (.int .i64), .bool], .sc (.int .i64)]) (fun (x6 : Int) (x7 : ByteArray) (x8 : Int) (x9 : Bool) (x10 : Int) =>
  alW (.cells ⟨[.int .i64 0, .string (⟨⟨[]⟩⟩ : ByteArray), .int .i64 0, .bool false]⟩ 86 (0, 0)) (fun (b11 : Nat) =>
  stW Tryz.prog 86 (.pointer (some ⟨b11, 0, none⟩)) (.agg ⟨[.int .i64 x6, .string x7, .int .i64 x8, .bool x9]⟩) (brW ((x10 : Int) != 0)
  (K (.int .i64 x10))
  (rdT (rdC b11 3) kB (fun (x12 : Bool) =>
  brW (!x12)
  (ptrW f_1 (fun (b13 o14 : Nat) =>
  rdT (rdC b13 o14) kP (fun (x15 : Option Addr) =>
  rdT (rdC b11 0) kI (fun (x16 : Int) =>
  rdT (rdC b11 1) kS (fun (x17 : ByteArray) =>
  callT Tryz.prog 53 [.pointer x15, .int .i64 x16, .string x17, .int .i64 1, .int .i64 420, .string data_4] (.tup [.sc (.int .i64), .sc (.int .i64)]) (fun (_x18 : Int) (x19 : Int) =>
  K (.int .i64 x19)))))))
  (ptrW f_1 (fun (b20 o21 : Nat) =>
  rdT (rdC b20 o21) kP (fun (x22 : Option Addr) =>
  rdT (rdC b11 2) kI (fun (x23 : Int) =>
  callT Tryz.prog 63 [.pointer x22, .int .i64 x23] (.tup [.agg [(.int .i64), (.int .i64), .str, (.int .i64)], .sc .bool]) (fun (x24 : Int) (x25 : Int) (x26 : ByteArray) (x27 : Int) (_x28 : Bool) =>
  alW (.cells ⟨[.int .i64 0, .int .i64 0, .string (⟨⟨[]⟩⟩ : ByteArray), .int .i64 0]⟩ 54 (0, 0)) (fun (b29 : Nat) =>
  stW Tryz.prog 54 (.pointer (some ⟨b29, 0, none⟩)) (.agg ⟨[.int .i64 x24, .int .i64 x25, .string x26, .int .i64 x27]⟩) (rdT (rdC b29 0) kI (fun (x30 : Int) =>
  brW ((x30 : Int) == 2)
  (K (.int .i64 7))
  (letJ (T := Option Addr → ByteArray → Option Addr → H → Prop) (fun (f_32 : Option Addr) (data_33 : ByteArray) (p_34 : Option Addr) =>
  ptrW f_32 (fun (b35 o36 : Nat) =>
  rdT (rdC b35 o36) kP (fun (x37 : Option Addr) =>
  ptrW p_34 (fun (b38 o39 : Nat) =>
  rdT (rdC b38 (o39 + 2)) kI (fun (x40 : Int) =>
  callT Tryz.prog 64 [.pointer x37, .int .i64 x40, .string data_33] kI (fun (x41 : Int) =>
  K (.int .i64 x41))))))) (fun j31 =>
  brW more_5
  (rdT (rdC b29 2) kS (fun (x42 : ByteArray) =>
  ifW (x42.size + data_4.size ≤ 9223372036854775807)
  (j31 f_1 (x42 ++ data_4) (some ⟨b11, 0, none⟩))))
  (j31 f_1 data_4 (some ⟨b11, 0, none⟩)))))))))))))))))
theorem e21 (f_1 : Option Addr) (cwd_2 : ByteArray) (path_3 : ByteArray) (data_4 : ByteArray) (more_5 : Bool) (K : Value → H → Prop) : bodyF Tryz.prog tau Tryz.f21 an21 [.pointer f_1, .string cwd_2, .string path_3, .string data_4, .bool more_5] K = g21 f_1 cwd_2 path_3 data_4 more_5 K := by kernel_rfl
theorem c21 (f_1 : Option Addr) (cwd_2 : ByteArray) (path_3 : ByteArray) (data_4 : ByteArray) (more_5 : Bool) {K : Value → H → Prop} {σ : H} (h : g21 f_1 cwd_2 path_3 data_4 more_5 K σ) : callW Tryz.prog 21 [.pointer f_1, .string cwd_2, .string path_3, .string data_4, .bool more_5] K σ := call_of_body mixed Tryz.func21 (by rw [e21]; exact h)


/-- (*whisk/fs.Fs).Symlink -/
def an22 : Ann := (.seq none (.reg [] []) (.seq none (.seq none (.reg [] []) (.cond (.seq none (.reg [] []) .leaf) .leaf)) (.seq none (.seq (some [(1, .sc .str), (3, .sc .str), (4, .sc .ptr), (6, .sc .ptr), (22, .sc .bool)]) (.reg [] []) (.cond (.seq none (.reg [] []) .leaf) .leaf)) (.seq none (.reg [] []) .leaf))))
def g22 (f_1 : Option Addr) (cwd_2 : ByteArray) (target_3 : ByteArray) (path_4 : ByteArray) (K : Value → H → Prop) : H → Prop :=
  alW (.cells ⟨[.pointer f_1]⟩ 28 (0, 0)) (fun (b5 : Nat) =>
  alW (.cells ⟨[.string target_3]⟩ 9 (0, 0)) (fun (b6 : Nat) =>
  rdT (rdC b5 0) kP (fun (x7 : Option Addr) =>
  callT Tryz.prog 54 [.pointer x7] kB (fun (x8 : Bool) =>
  brW x8
  (K (.int .i64 1))
  (letJ (T := ByteArray → ByteArray → Option Addr → Option Addr → Bool → H → Prop) (fun (cwd_10 : ByteArray) (path_11 : ByteArray) (f_12 : Option Addr) (target_13 : Option Addr) (x14 : Bool) =>
  brW x14
  (K (.int .i64 2))
  (ptrW f_12 (fun (b15 o16 : Nat) =>
  rdT (rdC b15 o16) kP (fun (x17 : Option Addr) =>
  callT Tryz.prog 50 [.pointer x17, .string cwd_10, .string path_11, .func (.func 66) ⟨[]⟩ ⟨[.pointer f_12, .pointer target_13]⟩] kI (fun (x18 : Int) =>
  K (.int .i64 x18)))))) (fun j9 =>
  rdT (rdC b6 0) kS (fun (x19 : ByteArray) =>
  brW (strEq x19 (⟨⟨[]⟩⟩ : ByteArray))
  (j9 cwd_2 path_4 (some ⟨b5, 0, none⟩) (some ⟨b6, 0, none⟩) true)
  (rdT (rdC b6 0) kS (fun (x20 : ByteArray) =>
  brW (decide ((((x20.size : Nat) : Int) : Int) > 255))
  (j9 cwd_2 path_4 (some ⟨b5, 0, none⟩) (some ⟨b6, 0, none⟩) true)
  (rdT (rdC b6 0) kS (fun (x21 : ByteArray) =>
  callT Tryz.prog 65 [.string x21, .int .u8 0] kI (fun (x22 : Int) =>
  j9 cwd_2 path_4 (some ⟨b5, 0, none⟩) (some ⟨b6, 0, none⟩) (decide ((x22 : Int) ≥ 0))))))))))))))
theorem e22 (f_1 : Option Addr) (cwd_2 : ByteArray) (target_3 : ByteArray) (path_4 : ByteArray) (K : Value → H → Prop) : bodyF Tryz.prog tau Tryz.f22 an22 [.pointer f_1, .string cwd_2, .string target_3, .string path_4] K = g22 f_1 cwd_2 target_3 path_4 K := by kernel_rfl
theorem c22 (f_1 : Option Addr) (cwd_2 : ByteArray) (target_3 : ByteArray) (path_4 : ByteArray) {K : Value → H → Prop} {σ : H} (h : g22 f_1 cwd_2 target_3 path_4 K σ) : callW Tryz.prog 22 [.pointer f_1, .string cwd_2, .string target_3, .string path_4] K σ := call_of_body mixed Tryz.func22 (by rw [e22]; exact h)


/-- whisk/whisklaw10.works -/
def an24 : Ann := (.seq none (.reg [] []) (.seq none (.reg [] []) (.seq none (.seq (some [(1, .sc .ptr), (34, .sc .bool)]) (.reg [] []) (.cond (.seq none (.reg [] []) .leaf) .leaf)) (.seq none (.reg [] []) (.seq none (.reg [] []) (.seq none (.reg [0, 1, 2, 3, 4, 5, 6, 7, 8, 9, 10, 11, 12, 13, 14, 15] [[], [0], [0, 1], [0, 1, 2], [0, 1, 2, 3], [0, 1, 2, 3, 4], [0, 1, 2, 3, 4, 5], [0, 1, 2, 3, 4, 5, 6], [0, 1, 2, 3, 4, 5, 6], [0, 1, 2, 3, 4, 5, 6, 8], [0, 1, 2, 3, 4, 5, 6, 8, 9], [0, 1, 2, 3, 4, 5, 6, 8, 9, 10], [0, 1, 2, 3, 4, 5, 6, 8, 9, 10, 11], [0, 1, 2, 3, 4, 5, 6, 7, 8, 9, 10, 11, 12], [0, 1, 2, 3, 4, 5, 6, 7, 8, 9, 10, 11, 12, 13], [0, 1, 2, 3, 4, 5, 6, 7, 8, 9, 10, 11, 12, 13, 14]]) .leaf))))))
def g24  (K : Value → H → Prop) : H → Prop :=
  callT Tryz.prog 15 [.agg ⟨[.int .i64 20, .int .i64 200]⟩] kP (fun (x1 : Option Addr) =>
  letJ (T := Option Addr → Bool → H → Prop) (fun (f_3 : Option Addr) (x4 : Bool) =>
  brW x4
  (K (.bool false))
  (callT Tryz.prog 27 [.pointer f_3, .string (⟨⟨[47, 111]⟩⟩ : ByteArray)] (.tup [.agg [.str, (.int .i64), .bool, .str, .slc], .sc (.int .i64)]) (fun (x5 : ByteArray) (x6 : Int) (x7 : Bool) (x8 : ByteArray) (x9 : Sl) (x10 : Int) =>
  alW (.cells ⟨[.string (⟨⟨[]⟩⟩ : ByteArray), .int .i64 0, .bool false, .string (⟨⟨[]⟩⟩ : ByteArray), .slice none 0 0]⟩ 24 (0, 0)) (fun (b11 : Nat) =>
  stW Tryz.prog 24 (.pointer (some ⟨b11, 0, none⟩)) (.agg ⟨[.string x5, .int .i64 x6, .bool x7, .string x8, .slice x9.base x9.len x9.cap]⟩) (callT Tryz.prog 27 [.pointer f_3, .string (⟨⟨[47, 112]⟩⟩ : ByteArray)] (.tup [.agg [.str, (.int .i64), .bool, .str, .slc], .sc (.int .i64)]) (fun (x12 : ByteArray) (x13 : Int) (x14 : Bool) (x15 : ByteArray) (x16 : Sl) (x17 : Int) =>
  alW (.cells ⟨[.string (⟨⟨[]⟩⟩ : ByteArray), .int .i64 0, .bool false, .string (⟨⟨[]⟩⟩ : ByteArray), .slice none 0 0]⟩ 24 (0, 0)) (fun (b18 : Nat) =>
  stW Tryz.prog 24 (.pointer (some ⟨b18, 0, none⟩)) (.agg ⟨[.string x12, .int .i64 x13, .bool x14, .string x15, .slice x16.base x16.len x16.cap]⟩) (brW ((x10 : Int) == 0)
  (brW ((x17 : Int) == 5)
  (rdT (rdA 5 b11 0) (.one (.agg [.str, (.int .i64), .bool, .str, .slc])) (fun (x19 : ByteArray) (x20 : Int) (x21 : Bool) (x22 : ByteArray) (x23 : Sl) =>
  callT Tryz.prog 40 [.string (⟨⟨[104]⟩⟩ : ByteArray), .string (⟨⟨[49]⟩⟩ : ByteArray), .bool true] (.one (.agg [.str, (.int .i64), .bool, .str, .slc])) (fun (x24 : ByteArray) (x25 : Int) (x26 : Bool) (x27 : ByteArray) (x28 : Sl) =>
  andW (fun σ => (rdA 5 b11 0) σ = some (.agg ⟨[.string x19, .int .i64 x20, .bool x21, .string x22, .slice x23.base x23.len x23.cap]⟩))
  (callT Tryz.prog 41 [.string (⟨⟨[108]⟩⟩ : ByteArray), .string (⟨⟨[120]⟩⟩ : ByteArray)] (.one (.agg [.str, (.int .i64), .bool, .str, .slc])) (fun (x29 : ByteArray) (x30 : Int) (x31 : Bool) (x32 : ByteArray) (x33 : Sl) =>
  andW (fun σ => (rdA 5 b11 0) σ = some (.agg ⟨[.string x19, .int .i64 x20, .bool x21, .string x22, .slice x23.base x23.len x23.cap]⟩))
  (callT Tryz.prog 40 [.string (⟨⟨[120]⟩⟩ : ByteArray), .string (⟨⟨[49]⟩⟩ : ByteArray), .bool true] (.one (.agg [.str, (.int .i64), .bool, .str, .slc])) (fun (x34 : ByteArray) (x35 : Int) (x36 : Bool) (x37 : ByteArray) (x38 : Sl) =>
  andW (fun σ => (rdA 5 b11 0) σ = some (.agg ⟨[.string x19, .int .i64 x20, .bool x21, .string x22, .slice x23.base x23.len x23.cap]⟩))
  (alW (.cells ⟨[.string x24, .int .i64 x25, .bool x26, .string x27, .slice x28.base x28.len x28.cap, .string x29, .int .i64 x30, .bool x31, .string x32, .slice x33.base x33.len x33.cap, .string x34, .int .i64 x35, .bool x36, .string x37, .slice x38.base x38.len x38.cap]⟩ 24 (0, 0)) (fun (b39 : Nat) =>
  callT Tryz.prog 28 [.agg ⟨[.string x19, .int .i64 x20, .bool x21, .string x22, .slice x23.base x23.len x23.cap]⟩, .agg ⟨[.string (⟨⟨[]⟩⟩ : ByteArray), .int .i64 2, .bool false, .string (⟨⟨[]⟩⟩ : ByteArray), .slice (some ⟨b39, 0, none⟩) 3 3]⟩] kB (fun (x40 : Bool) =>
  K (.bool x40)))))))))))
  (K (.bool false)))
  (K (.bool false)))))))))) (fun j2 =>
  brW x1.isNone
  (j2 x1 true)
  (callT Tryz.prog 16 [.pointer x1, .string (⟨⟨[47]⟩⟩ : ByteArray), .string (⟨⟨[111]⟩⟩ : ByteArray)] kI (fun (x41 : Int) =>
  brW ((x41 : Int) != 0)
  (j2 x1 true)
  (callT Tryz.prog 21 [.pointer x1, .string (⟨⟨[47, 111]⟩⟩ : ByteArray), .string (⟨⟨[120]⟩⟩ : ByteArray), .string (⟨⟨[49]⟩⟩ : ByteArray), .bool false] kI (fun (x42 : Int) =>
  brW ((x42 : Int) != 0)
  (j2 x1 true)
  (callT Tryz.prog 26 [.pointer x1, .string (⟨⟨[47, 111]⟩⟩ : ByteArray), .string (⟨⟨[120]⟩⟩ : ByteArray), .int .i64 448] kI (fun (x43 : Int) =>
  brW ((x43 : Int) != 0)
  (j2 x1 true)
  (callT Tryz.prog 22 [.pointer x1, .string (⟨⟨[47, 111]⟩⟩ : ByteArray), .string (⟨⟨[120]⟩⟩ : ByteArray), .string (⟨⟨[108]⟩⟩ : ByteArray)] kI (fun (x44 : Int) =>
  brW ((x44 : Int) != 0)
  (j2 x1 true)
  (callT Tryz.prog 25 [.pointer x1, .string (⟨⟨[47, 111]⟩⟩ : ByteArray), .string (⟨⟨[120]⟩⟩ : ByteArray), .string (⟨⟨[104]⟩⟩ : ByteArray)] kI (fun (x45 : Int) =>
  j2 x1 ((x45 : Int) != 0)))))))))))))
theorem e24  (K : Value → H → Prop) : bodyF Tryz.prog tau Tryz.f24 an24 [] K = g24  K := by kernel_rfl
theorem c24  {K : Value → H → Prop} {σ : H} (h : g24  K σ) : callW Tryz.prog 24 [] K σ := call_of_body mixed Tryz.func24 (by rw [e24]; exact h)


/-- (*whisk/fs.Fs).Hard -/
def an25 : Ann := (.seq none (.reg [] []) (.seq none (.reg [] []) (.seq none (.blk (.seq none (.reg [] []) (.cond (.seq none (.reg [] []) .leaf) (.seq none (.reg [] []) (.cond (.seq none (.reg [] []) .leaf) (.seq none (.reg [] []) (.cond (.seq none (.reg [] []) .leaf) (.seq none (.reg [] []) (.cond (.seq none (.reg [] []) .leaf) (.seq none (.reg [] []) (.cond (.seq none (.reg [] []) .leaf) .leaf))))))))))) (.seq none (.reg [0, 1, 2, 3, 4, 5, 6, 7, 8, 9, 10, 11] [[], [0], [0, 1], [0, 1, 2], [], [4], [], [6], [], [8], [0, 1, 2, 3, 4, 5, 6, 7, 8, 9], [0, 1, 2, 3, 4, 5, 6, 7, 8, 9, 10]]) .leaf))))
def g25 (f_1 : Option Addr) (cwd_2 : ByteArray) (from_3 : ByteArray) (to_4 : ByteArray) (K : Value → H → Prop) : H → Prop :=
  callT Tryz.prog 69 [.pointer f_1, .string cwd_2, .string from_3, .string to_4] (.tup [.agg [(.int .i64), .str, (.int .i64), .bool], .agg [(.int .i64), .str, (.int .i64), .bool], .sc (.int .i64)]) (fun (x5 : Int) (x6 : ByteArray) (x7 : Int) (x8 : Bool) (x9 : Int) (x10 : ByteArray) (x11 : Int) (x12 : Bool) (x13 : Int) =>
  alW (.cells ⟨[.int .i64 0, .string (⟨⟨[]⟩⟩ : ByteArray), .int .i64 0, .bool false]⟩ 86 (0, 0)) (fun (b14 : Nat) =>
  alW (.cells ⟨[.int .i64 0, .string (⟨⟨[]⟩⟩ : ByteArray), .int .i64 0, .bool false]⟩ 86 (0, 0)) (fun (b15 : Nat) =>
  stW Tryz.prog 86 (.pointer (some ⟨b14, 0, none⟩)) (.agg ⟨[.int .i64 x5, .string x6, .int .i64 x7, .bool x8]⟩) (stW Tryz.prog 86 (.pointer (some ⟨b15, 0, none⟩)) (.agg ⟨[.int .i64 x9, .string x10, .int .i64 x11, .bool x12]⟩) (brW ((x13 : Int) != 0)
  (K (.int .i64 x13))
  (rdT (rdC b14 3) kB (fun (x16 : Bool) =>
  brW (!x16)
  (K (.int .i64 5))
  (rdT (rdC b14 2) kI (fun (x17 : Int) =>
  callT Tryz.prog 70 [.pointer f_1, .int .i64 x17] kI (fun (x18 : Int) =>
  brW ((x18 : Int) == 2)
  (K (.int .i64 7))
  (rdT (rdC b14 2) kI (fun (x19 : Int) =>
  callT Tryz.prog 70 [.pointer f_1, .int .i64 x19] kI (fun (x20 : Int) =>
  brW ((x20 : Int) == 3)
  (K (.int .i64 2))
  (rdT (rdC b15 3) kB (fun (x21 : Bool) =>
  brW x21
  (K (.int .i64 6))
  (ptrW f_1 (fun (b22 o23 : Nat) =>
  rdT (rdC b22 o23) kP (fun (x24 : Option Addr) =>
  rdT (rdC b15 0) kI (fun (x25 : Int) =>
  rdT (rdC b15 1) kS (fun (x26 : ByteArray) =>
  rdT (rdC b14 2) kI (fun (x27 : Int) =>
  callT Tryz.prog 71 [.pointer x24, .int .i64 x25, .string x26, .int .i64 x27] kI (fun (x28 : Int) =>
  K (.int .i64 x28)))))))))))))))))))))))
theorem e25 (f_1 : Option Addr) (cwd_2 : ByteArray) (from_3 : ByteArray) (to_4 : ByteArray) (K : Value → H → Prop) : bodyF Tryz.prog tau Tryz.f25 an25 [.pointer f_1, .string cwd_2, .string from_3, .string to_4] K = g25 f_1 cwd_2 from_3 to_4 K := by kernel_rfl
theorem c25 (f_1 : Option Addr) (cwd_2 : ByteArray) (from_3 : ByteArray) (to_4 : ByteArray) {K : Value → H → Prop} {σ : H} (h : g25 f_1 cwd_2 from_3 to_4 K σ) : callW Tryz.prog 25 [.pointer f_1, .string cwd_2, .string from_3, .string to_4] K σ := call_of_body mixed Tryz.func25 (by rw [e25]; exact h)


/-- (*whisk/fs.Fs).Chmod -/
def an26 : Ann := (.seq none (.reg [] []) (.seq none (.seq none (.reg [] []) (.cond (.seq none (.reg [] []) .leaf) .leaf)) (.seq none (.seq (some [(1, .sc .str), (2, .sc .str), (4, .sc .ptr), (7, .sc .ptr), (16, .sc .bool)]) (.reg [] []) (.cond (.seq none (.reg [] []) .leaf) .leaf)) (.seq none (.reg [] []) .leaf))))
def g26 (f_1 : Option Addr) (cwd_2 : ByteArray) (path_3 : ByteArray) (mode_4 : Int) (K : Value → H → Prop) : H → Prop :=
  alW (.cells ⟨[.pointer f_1]⟩ 28 (0, 0)) (fun (b5 : Nat) =>
  alW (.cells ⟨[.int .i64 mode_4]⟩ 3 (0, 0)) (fun (b6 : Nat) =>
  rdT (rdC b5 0) kP (fun (x7 : Option Addr) =>
  callT Tryz.prog 54 [.pointer x7] kB (fun (x8 : Bool) =>
  brW x8
  (K (.int .i64 1))
  (letJ (T := ByteArray → ByteArray → Option Addr → Option Addr → Bool → H → Prop) (fun (cwd_10 : ByteArray) (path_11 : ByteArray) (f_12 : Option Addr) (mode_13 : Option Addr) (x14 : Bool) =>
  brW x14
  (K (.int .i64 2))
  (ptrW f_12 (fun (b15 o16 : Nat) =>
  rdT (rdC b15 o16) kP (fun (x17 : Option Addr) =>
  callT Tryz.prog 72 [.pointer x17, .string cwd_10, .string path_11, .bool true, .func (.func 73) ⟨[]⟩ ⟨[.pointer f_12, .pointer mode_13]⟩] kI (fun (x18 : Int) =>
  K (.int .i64 x18)))))) (fun j9 =>
  rdT (rdC b6 0) kI (fun (x19 : Int) =>
  brW (decide ((x19 : Int) < 0))
  (j9 cwd_2 path_3 (some ⟨b5, 0, none⟩) (some ⟨b6, 0, none⟩) true)
  (rdT (rdC b6 0) kI (fun (x20 : Int) =>
  j9 cwd_2 path_3 (some ⟨b5, 0, none⟩) (some ⟨b6, 0, none⟩) (decide ((x20 : Int) > 511)))))))))))
theorem e26 (f_1 : Option Addr) (cwd_2 : ByteArray) (path_3 : ByteArray) (mode_4 : Int) (K : Value → H → Prop) : bodyF Tryz.prog tau Tryz.f26 an26 [.pointer f_1, .string cwd_2, .string path_3, .int .i64 mode_4] K = g26 f_1 cwd_2 path_3 mode_4 K := by kernel_rfl
theorem c26 (f_1 : Option Addr) (cwd_2 : ByteArray) (path_3 : ByteArray) (mode_4 : Int) {K : Value → H → Prop} {σ : H} (h : g26 f_1 cwd_2 path_3 mode_4 K σ) : callW Tryz.prog 26 [.pointer f_1, .string cwd_2, .string path_3, .int .i64 mode_4] K σ := call_of_body mixed Tryz.func26 (by rw [e26]; exact h)


/-- whisk/canon.Of -/
def an27 : Ann := (.seq none (.reg [] []) (.seq none (.reg [] []) (.seq (some [(4, .sc .ptr), (6, .sc .ptr), (7, .sc (.int .i64))]) (.seq none (.reg [] []) (.cond (.reg [] []) .leaf)) (.seq none (.seq none (.reg [] []) (.cond (.seq none (.reg [] []) .leaf) .leaf)) (.seq none (.reg [] []) .leaf)))))
def g27 (f_1 : Option Addr) (path_2 : ByteArray) (K : Value → H → Prop) : H → Prop :=
  alW (.cells ⟨[.string (⟨⟨[]⟩⟩ : ByteArray), .int .i64 0, .bool false, .string (⟨⟨[]⟩⟩ : ByteArray), .slice none 0 0]⟩ 24 (0, 0)) (fun (b3 : Nat) =>
  callT Tryz.prog 75 [.agg ⟨[.pointer f_1]⟩, .string path_2] (.tup [.agg [.str, (.int .i64), .bool, .str, .slc], .sc (.int .i64)]) (fun (x4 : ByteArray) (x5 : Int) (x6 : Bool) (x7 : ByteArray) (x8 : Sl) (x9 : Int) =>
  alW (.cells ⟨[.string (⟨⟨[]⟩⟩ : ByteArray), .int .i64 0, .bool false, .string (⟨⟨[]⟩⟩ : ByteArray), .slice none 0 0]⟩ 24 (0, 0)) (fun (b10 : Nat) =>
  stW Tryz.prog 24 (.pointer (some ⟨b10, 0, none⟩)) (.agg ⟨[.string x4, .int .i64 x5, .bool x6, .string x7, .slice x8.base x8.len x8.cap]⟩) (letJ (T := Option Addr → Option Addr → Int → H → Prop) (fun (x12 : Option Addr) (n_13 : Option Addr) (e_14 : Int) =>
  brW ((e_14 : Int) != 0)
  (stW Tryz.prog 24 (.pointer x12) (.agg ⟨[.string (⟨⟨[]⟩⟩ : ByteArray), .int .i64 0, .bool false, .string (⟨⟨[]⟩⟩ : ByteArray), .slice none 0 0]⟩) (ptrW x12 (fun (b15 o16 : Nat) =>
  rdT (rdA 5 b15 o16) (.one (.agg [.str, (.int .i64), .bool, .str, .slc])) (fun (r17 : ByteArray) (r18 : Int) (r19 : Bool) (r20 : ByteArray) (r21 : Sl) =>
  K (.tuple ⟨[.agg ⟨[.string r17, .int .i64 r18, .bool r19, .string r20, .slice r21.base r21.len r21.cap]⟩, .int .i64 e_14]⟩)))))
  (ptrW n_13 (fun (b22 o23 : Nat) =>
  rdT (rdA 5 b22 o23) (.one (.agg [.str, (.int .i64), .bool, .str, .slc])) (fun (x24 : ByteArray) (x25 : Int) (x26 : Bool) (x27 : ByteArray) (x28 : Sl) =>
  stW Tryz.prog 24 (.pointer x12) (.agg ⟨[.string x24, .int .i64 x25, .bool x26, .string x27, .slice x28.base x28.len x28.cap]⟩) (ptrW x12 (fun (b29 o30 : Nat) =>
  rdT (rdA 5 b29 o30) (.one (.agg [.str, (.int .i64), .bool, .str, .slc])) (fun (r31 : ByteArray) (r32 : Int) (r33 : Bool) (r34 : ByteArray) (r35 : Sl) =>
  K (.tuple ⟨[.agg ⟨[.string r31, .int .i64 r32, .bool r33, .string r34, .slice r35.base r35.len r35.cap]⟩, .int .i64 0]⟩)))))))) (fun j11 =>
  brW ((x9 : Int) == 0)
  (rdT (rdA 5 b10 0) (.one (.agg [.str, (.int .i64), .bool, .str, .slc])) (fun (x36 : ByteArray) (x37 : Int) (x38 : Bool) (x39 : ByteArray) (x40 : Sl) =>
  callT Tryz.prog 55 [.agg ⟨[.string x36, .int .i64 x37, .bool x38, .string x39, .slice x40.base x40.len x40.cap]⟩] kI (fun (x41 : Int) =>
  j11 (some ⟨b3, 0, none⟩) (some ⟨b10, 0, none⟩) x41)))
  (j11 (some ⟨b3, 0, none⟩) (some ⟨b10, 0, none⟩) x9))))))
theorem e27 (f_1 : Option Addr) (path_2 : ByteArray) (K : Value → H → Prop) : bodyF Tryz.prog tau Tryz.f27 an27 [.pointer f_1, .string path_2] K = g27 f_1 path_2 K := by kernel_rfl
theorem c27 (f_1 : Option Addr) (path_2 : ByteArray) {K : Value → H → Prop} {σ : H} (h : g27 f_1 path_2 K σ) : callW Tryz.prog 27 [.pointer f_1, .string path_2] K σ := call_of_body mixed Tryz.func27 (by rw [e27]; exact h)


/-- whisk/tree.Same -/
def an28 : Ann := (.seq none (.reg [] []) (.seq none (.seq (some [(2, .sc .ptr), (3, .sc .ptr), (10, .sc .bool)]) (.reg [] []) (.cond (.seq none (.reg [] []) .leaf) .leaf)) (.seq none (.reg [] []) .leaf)))
def g28 (a_1 : ByteArray) (a_2 : Int) (a_3 : Bool) (a_4 : ByteArray) (a_5 : Sl) (b_6 : ByteArray) (b_7 : Int) (b_8 : Bool) (b_9 : ByteArray) (b_10 : Sl) (K : Value → H → Prop) : H → Prop :=
  alW (.cells ⟨[.string a_1, .int .i64 a_2, .bool a_3, .string a_4, .slice a_5.base a_5.len a_5.cap]⟩ 24 (0, 0)) (fun (b11 : Nat) =>
  alW (.cells ⟨[.string b_6, .int .i64 b_7, .bool b_8, .string b_9, .slice b_10.base b_10.len b_10.cap]⟩ 24 (0, 0)) (fun (b12 : Nat) =>
  letJ (T := Option Addr → Option Addr → Bool → H → Prop) (fun (a_14 : Option Addr) (b_15 : Option Addr) (x16 : Bool) =>
  brW x16
  (K (.bool false))
  (ptrW a_14 (fun (b17 o18 : Nat) =>
  rdT (rdC b17 o18) kS (fun (x19 : ByteArray) =>
  ptrW b_15 (fun (b20 o21 : Nat) =>
  rdT (rdC b20 o21) kS (fun (x22 : ByteArray) =>
  brW (strEq x19 x22)
  (ptrW a_14 (fun (b23 o24 : Nat) =>
  rdT (rdC b23 (o24 + 1)) kI (fun (x25 : Int) =>
  ptrW b_15 (fun (b26 o27 : Nat) =>
  rdT (rdC b26 (o27 + 1)) kI (fun (x28 : Int) =>
  brW ((x25 : Int) == x28)
  (ptrW a_14 (fun (b29 o30 : Nat) =>
  rdT (rdC b29 (o30 + 2)) kB (fun (x31 : Bool) =>
  ptrW b_15 (fun (b32 o33 : Nat) =>
  rdT (rdC b32 (o33 + 2)) kB (fun (x34 : Bool) =>
  brW (x31 == x34)
  (ptrW a_14 (fun (b35 o36 : Nat) =>
  rdT (rdC b35 (o36 + 3)) kS (fun (x37 : ByteArray) =>
  ptrW b_15 (fun (b38 o39 : Nat) =>
  rdT (rdC b38 (o39 + 3)) kS (fun (x40 : ByteArray) =>
  brW (strEq x37 x40)
  (ptrW a_14 (fun (b41 o42 : Nat) =>
  rdT (rdC b41 (o42 + 4)) kL (fun (x43 : Sl) =>
  ptrW b_15 (fun (b44 o45 : Nat) =>
  rdT (rdC b44 (o45 + 4)) kL (fun (x46 : Sl) =>
  callT Tryz.prog 77 [.slice x43.base x43.len x43.cap, .slice x46.base x46.len x46.cap, .func (.func 28) ⟨[]⟩ ⟨[]⟩] kB (fun (x47 : Bool) =>
  K (.bool x47)))))))
  (K (.bool false)))))))
  (K (.bool false)))))))
  (K (.bool false)))))))
  (K (.bool false)))))))) (fun j13 =>
  rdT (rdA 5 b11 0) (.one (.agg [.str, (.int .i64), .bool, .str, .slc])) (fun (x48 : ByteArray) (x49 : Int) (x50 : Bool) (x51 : ByteArray) (x52 : Sl) =>
  callT Tryz.prog 76 [.agg ⟨[.string x48, .int .i64 x49, .bool x50, .string x51, .slice x52.base x52.len x52.cap]⟩] kB (fun (x53 : Bool) =>
  brW x53
  (j13 (some ⟨b11, 0, none⟩) (some ⟨b12, 0, none⟩) true)
  (rdT (rdA 5 b12 0) (.one (.agg [.str, (.int .i64), .bool, .str, .slc])) (fun (x54 : ByteArray) (x55 : Int) (x56 : Bool) (x57 : ByteArray) (x58 : Sl) =>
  callT Tryz.prog 76 [.agg ⟨[.string x54, .int .i64 x55, .bool x56, .string x57, .slice x58.base x58.len x58.cap]⟩] kB (fun (x59 : Bool) =>
  j13 (some ⟨b11, 0, none⟩) (some ⟨b12, 0, none⟩) x59))))))))
theorem e28 (a_1 : ByteArray) (a_2 : Int) (a_3 : Bool) (a_4 : ByteArray) (a_5 : Sl) (b_6 : ByteArray) (b_7 : Int) (b_8 : Bool) (b_9 : ByteArray) (b_10 : Sl) (K : Value → H → Prop) : bodyF Tryz.prog tau Tryz.f28 an28 [.agg ⟨[.string a_1, .int .i64 a_2, .bool a_3, .string a_4, .slice a_5.base a_5.len a_5.cap]⟩, .agg ⟨[.string b_6, .int .i64 b_7, .bool b_8, .string b_9, .slice b_10.base b_10.len b_10.cap]⟩] K = g28 a_1 a_2 a_3 a_4 a_5 b_6 b_7 b_8 b_9 b_10 K := by kernel_rfl
theorem c28 (a_1 : ByteArray) (a_2 : Int) (a_3 : Bool) (a_4 : ByteArray) (a_5 : Sl) (b_6 : ByteArray) (b_7 : Int) (b_8 : Bool) (b_9 : ByteArray) (b_10 : Sl) {K : Value → H → Prop} {σ : H} (h : g28 a_1 a_2 a_3 a_4 a_5 b_6 b_7 b_8 b_9 b_10 K σ) : callW Tryz.prog 28 [.agg ⟨[.string a_1, .int .i64 a_2, .bool a_3, .string a_4, .slice a_5.base a_5.len a_5.cap]⟩, .agg ⟨[.string b_6, .int .i64 b_7, .bool b_8, .string b_9, .slice b_10.base b_10.len b_10.cap]⟩] K σ := call_of_body mixed Tryz.func28 (by rw [e28]; exact h)


/-- (*whisk/fs.Fs).Stat -/
def an32 : Ann := (.seq none (.reg [] []) (.seq none (.reg [] []) (.seq none (.reg [] []) .leaf)))
def g32 (f_1 : Option Addr) (cwd_2 : ByteArray) (path_3 : ByteArray) (follow_4 : Bool) (K : Value → H → Prop) : H → Prop :=
  alW (.cells ⟨[.int .i64 0, .int .i64 0, .string (⟨⟨[]⟩⟩ : ByteArray), .int .i64 0]⟩ 54 (0, 0)) (fun (b5 : Nat) =>
  callT Tryz.prog 72 [.pointer f_1, .string cwd_2, .string path_3, .bool follow_4, .func (.func 79) ⟨[]⟩ ⟨[.pointer (some ⟨b5, 0, none⟩)]⟩] kI (fun (x6 : Int) =>
  rdT (rdA 4 b5 0) (.one (.agg [(.int .i64), (.int .i64), .str, (.int .i64)])) (fun (x7 : Int) (x8 : Int) (x9 : ByteArray) (x10 : Int) =>
  stW Tryz.prog 54 (.pointer (some ⟨b5, 0, none⟩)) (.agg ⟨[.int .i64 x7, .int .i64 x8, .string x9, .int .i64 x10]⟩) (rdT (rdA 4 b5 0) (.one (.agg [(.int .i64), (.int .i64), .str, (.int .i64)])) (fun (r11 : Int) (r12 : Int) (r13 : ByteArray) (r14 : Int) =>
  K (.tuple ⟨[.agg ⟨[.int .i64 r11, .int .i64 r12, .string r13, .int .i64 r14]⟩, .int .i64 x6]⟩))))))
theorem e32 (f_1 : Option Addr) (cwd_2 : ByteArray) (path_3 : ByteArray) (follow_4 : Bool) (K : Value → H → Prop) : bodyF Tryz.prog tau Tryz.f32 an32 [.pointer f_1, .string cwd_2, .string path_3, .bool follow_4] K = g32 f_1 cwd_2 path_3 follow_4 K := by kernel_rfl
theorem c32 (f_1 : Option Addr) (cwd_2 : ByteArray) (path_3 : ByteArray) (follow_4 : Bool) {K : Value → H → Prop} {σ : H} (h : g32 f_1 cwd_2 path_3 follow_4 K σ) : callW Tryz.prog 32 [.pointer f_1, .string cwd_2, .string path_3, .bool follow_4] K σ := call_of_body mixed Tryz.func32 (by rw [e32]; exact h)


/-- (*whisk/fs.Fs).Rename -/
def an33 : Ann := (.seq none (.reg [] []) (.seq none (.reg [] []) (.seq none (.blk (.seq none (.reg [] []) (.cond (.seq none (.reg [] []) .leaf) (.seq (some [(0, .sc .ptr), (9, .sc .ptr), (10, .sc .ptr), (27, .sc .bool)]) (.reg [] []) (.cond (.seq none (.reg [] []) .leaf) (.seq none (.reg [] []) (.cond (.seq none (.reg [] []) .leaf) (.seq (some [(0, .sc .ptr), (9, .sc .ptr), (10, .sc .ptr), (40, .sc .bool)]) (.reg [] []) (.cond (.seq none (.reg [] []) .leaf) .leaf))))))))) (.seq none (.seq none (.reg [] []) (.seq none (.reg [] []) (.cond (.seq none (.reg [] []) .leaf) .leaf))) (.seq (some [(0, .sc .ptr), (9, .sc .ptr), (10, .sc .ptr)]) (.seq none (.reg [] []) (.cond (.seq none (.reg [0, 1, 2, 3, 4, 5, 6, 7, 8, 9] [[], [0], [0, 1], [0, 1, 2], [], [4], [], [6], [0, 1, 2, 3, 4, 5, 6, 7], [0, 1, 2, 3, 4, 5, 6, 7, 8]]) (.seq none (.reg [] []) (.cond (.seq none (.reg [] []) .leaf) .leaf))) .leaf)) (.seq none (.reg [0, 1, 2, 3, 4, 5, 6, 7, 8, 9, 10, 11, 12, 13] [[], [0], [0, 1], [0, 1, 2], [], [4], [], [6], [], [8], [], [10], [0, 1, 2, 3, 4, 5, 6, 7, 8, 9, 10, 11], [0, 1, 2, 3, 4, 5, 6, 7, 8, 9, 10, 11, 12]]) .leaf))))))
def g33 (f_1 : Option Addr) (cwd_2 : ByteArray) (from_3 : ByteArray) (to_4 : ByteArray) (K : Value → H → Prop) : H → Prop :=
  callT Tryz.prog 69 [.pointer f_1, .string cwd_2, .string from_3, .string to_4] (.tup [.agg [(.int .i64), .str, (.int .i64), .bool], .agg [(.int .i64), .str, (.int .i64), .bool], .sc (.int .i64)]) (fun (x5 : Int) (x6 : ByteArray) (x7 : Int) (x8 : Bool) (x9 : Int) (x10 : ByteArray) (x11 : Int) (x12 : Bool) (x13 : Int) =>
  alW (.cells ⟨[.int .i64 0, .string (⟨⟨[]⟩⟩ : ByteArray), .int .i64 0, .bool false]⟩ 86 (0, 0)) (fun (b14 : Nat) =>
  alW (.cells ⟨[.int .i64 0, .string (⟨⟨[]⟩⟩ : ByteArray), .int .i64 0, .bool false]⟩ 86 (0, 0)) (fun (b15 : Nat) =>
  stW Tryz.prog 86 (.pointer (some ⟨b14, 0, none⟩)) (.agg ⟨[.int .i64 x5, .string x6, .int .i64 x7, .bool x8]⟩) (stW Tryz.prog 86 (.pointer (some ⟨b15, 0, none⟩)) (.agg ⟨[.int .i64 x9, .string x10, .int .i64 x11, .bool x12]⟩) (brW ((x13 : Int) != 0)
  (K (.int .i64 x13))
  (letJ (T := Option Addr → Option Addr → Option Addr → Bool → H → Prop) (fun (f_17 : Option Addr) (p_18 : Option Addr) (q_19 : Option Addr) (x20 : Bool) =>
  brW x20
  (K (.int .i64 2))
  (ptrW p_18 (fun (b21 o22 : Nat) =>
  rdT (rdC b21 (o22 + 3)) kB (fun (x23 : Bool) =>
  brW (!x23)
  (K (.int .i64 5))
  (letJ (T := Option Addr → Option Addr → Option Addr → Bool → H → Prop) (fun (f_25 : Option Addr) (p_26 : Option Addr) (q_27 : Option Addr) (x28 : Bool) =>
  brW x28
  (K (.int .i64 0))
  (ptrW p_26 (fun (b29 o30 : Nat) =>
  rdT (rdA 4 b29 o30) (.one (.agg [(.int .i64), .str, (.int .i64), .bool])) (fun (x31 : Int) (x32 : ByteArray) (x33 : Int) (x34 : Bool) =>
  ptrW q_27 (fun (b35 o36 : Nat) =>
  rdT (rdA 4 b35 o36) (.one (.agg [(.int .i64), .str, (.int .i64), .bool])) (fun (x37 : Int) (x38 : ByteArray) (x39 : Int) (x40 : Bool) =>
  callT Tryz.prog 80 [.pointer f_25, .agg ⟨[.int .i64 x31, .string x32, .int .i64 x33, .bool x34]⟩, .agg ⟨[.int .i64 x37, .string x38, .int .i64 x39, .bool x40]⟩] kI (fun (x41 : Int) =>
  brW ((x41 : Int) != 0)
  (K (.int .i64 x41))
  (letJ (T := Option Addr → Option Addr → Option Addr → H → Prop) (fun (f_43 : Option Addr) (p_44 : Option Addr) (q_45 : Option Addr) =>
  ptrW f_43 (fun (b46 o47 : Nat) =>
  rdT (rdC b46 o47) kP (fun (x48 : Option Addr) =>
  ptrW p_44 (fun (b49 o50 : Nat) =>
  rdT (rdC b49 o50) kI (fun (x51 : Int) =>
  ptrW p_44 (fun (b52 o53 : Nat) =>
  rdT (rdC b52 (o53 + 1)) kS (fun (x54 : ByteArray) =>
  ptrW q_45 (fun (b55 o56 : Nat) =>
  rdT (rdC b55 o56) kI (fun (x57 : Int) =>
  ptrW q_45 (fun (b58 o59 : Nat) =>
  rdT (rdC b58 (o59 + 1)) kS (fun (x60 : ByteArray) =>
  callT Tryz.prog 81 [.pointer x48, .int .i64 x51, .string x54, .int .i64 x57, .string x60] kI (fun (x61 : Int) =>
  K (.int .i64 x61))))))))))))) (fun j42 =>
  ptrW q_27 (fun (b62 o63 : Nat) =>
  rdT (rdC b62 (o63 + 3)) kB (fun (x64 : Bool) =>
  brW x64
  (ptrW f_25 (fun (b65 o66 : Nat) =>
  rdT (rdC b65 o66) kP (fun (x67 : Option Addr) =>
  ptrW q_27 (fun (b68 o69 : Nat) =>
  rdT (rdC b68 o69) kI (fun (x70 : Int) =>
  ptrW q_27 (fun (b71 o72 : Nat) =>
  rdT (rdC b71 (o72 + 1)) kS (fun (x73 : ByteArray) =>
  callT Tryz.prog 68 [.pointer x67, .int .i64 x70, .string x73] kI (fun (x74 : Int) =>
  brW ((x74 : Int) != 0)
  (K (.int .i64 x74))
  (j42 f_25 p_26 q_27)))))))))
  (j42 f_25 p_26 q_27)))))))))))) (fun j24 =>
  ptrW q_19 (fun (b75 o76 : Nat) =>
  rdT (rdC b75 (o76 + 3)) kB (fun (x77 : Bool) =>
  brW x77
  (ptrW p_18 (fun (b78 o79 : Nat) =>
  rdT (rdC b78 (o79 + 2)) kI (fun (x80 : Int) =>
  ptrW q_19 (fun (b81 o82 : Nat) =>
  rdT (rdC b81 (o82 + 2)) kI (fun (x83 : Int) =>
  j24 f_17 p_18 q_19 ((x80 : Int) == x83))))))
  (j24 f_17 p_18 q_19 false))))))))) (fun j16 =>
  rdT (rdC b14 1) kS (fun (x84 : ByteArray) =>
  brW (strEq x84 (⟨⟨[]⟩⟩ : ByteArray))
  (j16 f_1 (some ⟨b14, 0, none⟩) (some ⟨b15, 0, none⟩) true)
  (rdT (rdC b15 1) kS (fun (x85 : ByteArray) =>
  j16 f_1 (some ⟨b14, 0, none⟩) (some ⟨b15, 0, none⟩) (strEq x85 (⟨⟨[]⟩⟩ : ByteArray))))))))))))
theorem e33 (f_1 : Option Addr) (cwd_2 : ByteArray) (from_3 : ByteArray) (to_4 : ByteArray) (K : Value → H → Prop) : bodyF Tryz.prog tau Tryz.f33 an33 [.pointer f_1, .string cwd_2, .string from_3, .string to_4] K = g33 f_1 cwd_2 from_3 to_4 K := by kernel_rfl
theorem c33 (f_1 : Option Addr) (cwd_2 : ByteArray) (from_3 : ByteArray) (to_4 : ByteArray) {K : Value → H → Prop} {σ : H} (h : g33 f_1 cwd_2 from_3 to_4 K σ) : callW Tryz.prog 33 [.pointer f_1, .string cwd_2, .string from_3, .string to_4] K σ := call_of_body mixed Tryz.func33 (by rw [e33]; exact h)


/-- whisk/whisklaw10.file -/
def an40 : Ann := (.seq none (.reg [] []) (.seq none (.reg [] []) .leaf))
def g40 (name_1 : ByteArray) (data_2 : ByteArray) (exec_3 : Bool) (K : Value → H → Prop) : H → Prop :=
  alW (.cells ⟨[.string (⟨⟨[]⟩⟩ : ByteArray), .int .i64 0, .bool false, .string (⟨⟨[]⟩⟩ : ByteArray), .slice none 0 0]⟩ 24 (0, 0)) (fun (b4 : Nat) =>
  stW Tryz.prog 24 (.pointer (some ⟨b4, 0, none⟩)) (.agg ⟨[.string name_1, .int .i64 1, .bool exec_3, .string data_2, .slice none 0 0]⟩) (rdT (rdA 5 b4 0) (.one (.agg [.str, (.int .i64), .bool, .str, .slc])) (fun (r5 : ByteArray) (r6 : Int) (r7 : Bool) (r8 : ByteArray) (r9 : Sl) =>
  K (.agg ⟨[.string r5, .int .i64 r6, .bool r7, .string r8, .slice r9.base r9.len r9.cap]⟩))))
theorem e40 (name_1 : ByteArray) (data_2 : ByteArray) (exec_3 : Bool) (K : Value → H → Prop) : bodyF Tryz.prog tau Tryz.f40 an40 [.string name_1, .string data_2, .bool exec_3] K = g40 name_1 data_2 exec_3 K := by kernel_rfl
theorem c40 (name_1 : ByteArray) (data_2 : ByteArray) (exec_3 : Bool) {K : Value → H → Prop} {σ : H} (h : g40 name_1 data_2 exec_3 K σ) : callW Tryz.prog 40 [.string name_1, .string data_2, .bool exec_3] K σ := call_of_body mixed Tryz.func40 (by rw [e40]; exact h)


/-- whisk/whisklaw10.link -/
def an41 : Ann := (.seq none (.reg [] []) (.seq none (.reg [] []) .leaf))
def g41 (name_1 : ByteArray) (to_2 : ByteArray) (K : Value → H → Prop) : H → Prop :=
  alW (.cells ⟨[.string (⟨⟨[]⟩⟩ : ByteArray), .int .i64 0, .bool false, .string (⟨⟨[]⟩⟩ : ByteArray), .slice none 0 0]⟩ 24 (0, 0)) (fun (b3 : Nat) =>
  stW Tryz.prog 24 (.pointer (some ⟨b3, 0, none⟩)) (.agg ⟨[.string name_1, .int .i64 3, .bool false, .string to_2, .slice none 0 0]⟩) (rdT (rdA 5 b3 0) (.one (.agg [.str, (.int .i64), .bool, .str, .slc])) (fun (r4 : ByteArray) (r5 : Int) (r6 : Bool) (r7 : ByteArray) (r8 : Sl) =>
  K (.agg ⟨[.string r4, .int .i64 r5, .bool r6, .string r7, .slice r8.base r8.len r8.cap]⟩))))
theorem e41 (name_1 : ByteArray) (to_2 : ByteArray) (K : Value → H → Prop) : bodyF Tryz.prog tau Tryz.f41 an41 [.string name_1, .string to_2] K = g41 name_1 to_2 K := by kernel_rfl
theorem c41 (name_1 : ByteArray) (to_2 : ByteArray) {K : Value → H → Prop} {σ : H} (h : g41 name_1 to_2 K σ) : callW Tryz.prog 41 [.string name_1, .string to_2] K σ := call_of_body mixed Tryz.func41 (by rw [e41]; exact h)


/-- (*whisk/fs.Fs).List -/
def an45 : Ann := (.seq none (.reg [] []) (.seq none (.reg [] []) (.seq none (.reg [] []) .leaf)))
def g45 (f_1 : Option Addr) (cwd_2 : ByteArray) (path_3 : ByteArray) (K : Value → H → Prop) : H → Prop :=
  alW (.cells ⟨[.pointer f_1]⟩ 28 (0, 0)) (fun (b4 : Nat) =>
  alW (.cells ⟨[.slice none 0 0]⟩ 74 (0, 0)) (fun (b5 : Nat) =>
  rdT (rdC b4 0) kP (fun (x6 : Option Addr) =>
  callT Tryz.prog 72 [.pointer x6, .string cwd_2, .string path_3, .bool true, .func (.func 98) ⟨[]⟩ ⟨[.pointer (some ⟨b4, 0, none⟩), .pointer (some ⟨b5, 0, none⟩)]⟩] kI (fun (x7 : Int) =>
  rdT (rdC b5 0) kL (fun (x8 : Sl) =>
  stW Tryz.prog 74 (.pointer (some ⟨b5, 0, none⟩)) (.slice x8.base x8.len x8.cap) (rdT (rdC b5 0) kL (fun (r9 : Sl) =>
  K (.tuple ⟨[.slice r9.base r9.len r9.cap, .int .i64 x7]⟩))))))))
theorem e45 (f_1 : Option Addr) (cwd_2 : ByteArray) (path_3 : ByteArray) (K : Value → H → Prop) : bodyF Tryz.prog tau Tryz.f45 an45 [.pointer f_1, .string cwd_2, .string path_3] K = g45 f_1 cwd_2 path_3 K := by kernel_rfl
theorem c45 (f_1 : Option Addr) (cwd_2 : ByteArray) (path_3 : ByteArray) {K : Value → H → Prop} {σ : H} (h : g45 f_1 cwd_2 path_3 K σ) : callW Tryz.prog 45 [.pointer f_1, .string cwd_2, .string path_3] K σ := call_of_body mixed Tryz.func45 (by rw [e45]; exact h)


/-- whisk/inode.New -/
def an49 : Ann := (.seq none (.reg [] []) (.seq none (.seq (some [(1, .sc .ptr), (21, .sc .bool)]) (.reg [] []) (.cond (.seq none (.reg [] []) .leaf) .leaf)) (.seq none (.reg [] []) (.seq none (.reg [] []) .leaf))))
def g49 (q_1 : Int) (q_2 : Int) (K : Value → H → Prop) : H → Prop :=
  alW (.cells ⟨[.int .i64 q_1, .int .i64 q_2]⟩ 31 (0, 0)) (fun (b3 : Nat) =>
  letJ (T := Option Addr → Bool → H → Prop) (fun (q_5 : Option Addr) (x6 : Bool) =>
  brW x6
  (K (.pointer none))
  (alW (.map #[] 0) (fun (b7 : Nat) =>
  alW (.cells ⟨[.int .i64 2, .int .i64 493, .string (⟨⟨[]⟩⟩ : ByteArray), .int .i64 1, .int .i64 1, .map (some b7)]⟩ 142 (0, 0)) (fun (b8 : Nat) =>
  ptrW q_5 (fun (b9 o10 : Nat) =>
  rdT (rdA 2 b9 o10) (.one (.agg [(.int .i64), (.int .i64)])) (fun (x11 : Int) (x12 : Int) =>
  alW (.map #[] 0) (fun (b13 : Nat) =>
  muW Tryz.prog 143 (.map (some b13)) (.int .i64 1) (.pointer (some ⟨b8, 0, none⟩)) (alW (.cells ⟨[.int .i64 x11, .int .i64 x12, .int .i64 1, .int .i64 0, .map (some b13), .int .i64 1]⟩ 145 (0, 0)) (fun (b14 : Nat) =>
  K (.pointer (some ⟨b14, 0, none⟩))))))))))) (fun j4 =>
  rdT (rdC b3 0) kI (fun (x15 : Int) =>
  brW (decide ((x15 : Int) < 1))
  (j4 (some ⟨b3, 0, none⟩) true)
  (rdT (rdC b3 0) kI (fun (x16 : Int) =>
  brW (decide ((x16 : Int) > 1048576))
  (j4 (some ⟨b3, 0, none⟩) true)
  (rdT (rdC b3 1) kI (fun (x17 : Int) =>
  brW (decide ((x17 : Int) < 0))
  (j4 (some ⟨b3, 0, none⟩) true)
  (rdT (rdC b3 1) kI (fun (x18 : Int) =>
  j4 (some ⟨b3, 0, none⟩) (decide ((x18 : Int) > 1073741824)))))))))))
theorem e49 (q_1 : Int) (q_2 : Int) (K : Value → H → Prop) : bodyF Tryz.prog tau Tryz.f49 an49 [.agg ⟨[.int .i64 q_1, .int .i64 q_2]⟩] K = g49 q_1 q_2 K := by kernel_rfl
theorem c49 (q_1 : Int) (q_2 : Int) {K : Value → H → Prop} {σ : H} (h : g49 q_1 q_2 K σ) : callW Tryz.prog 49 [.agg ⟨[.int .i64 q_1, .int .i64 q_2]⟩] K σ := call_of_body mixed Tryz.func49 (by rw [e49]; exact h)


/-- (*whisk/fs.Fs).fresh -/
def an50 : Ann := (.seq none (.reg [] []) (.seq none (.reg [] []) (.seq none (.blk (.seq none (.reg [] []) (.cond (.seq none (.reg [] []) .leaf) (.seq none (.reg [] []) (.cond (.seq none (.reg [] []) .leaf) .leaf))))) (.seq none (.reg [] []) .leaf))))
def g50 (f_1 : Option Addr) (cwd_2 : ByteArray) (path_3 : ByteArray) (do_4 : Value) (K : Value → H → Prop) : H → Prop :=
  callT Tryz.prog 62 [.pointer f_1, .string cwd_2, .string path_3, .bool false] (.tup [.agg [(.int .i64), .str, (.int .i64), .bool], .sc (.int .i64)]) (fun (x5 : Int) (x6 : ByteArray) (x7 : Int) (x8 : Bool) (x9 : Int) =>
  alW (.cells ⟨[.int .i64 0, .string (⟨⟨[]⟩⟩ : ByteArray), .int .i64 0, .bool false]⟩ 86 (0, 0)) (fun (b10 : Nat) =>
  stW Tryz.prog 86 (.pointer (some ⟨b10, 0, none⟩)) (.agg ⟨[.int .i64 x5, .string x6, .int .i64 x7, .bool x8]⟩) (brW ((x9 : Int) != 0)
  (K (.int .i64 x9))
  (rdT (rdC b10 3) kB (fun (x11 : Bool) =>
  brW x11
  (K (.int .i64 6))
  (rdT (rdA 4 b10 0) (.one (.agg [(.int .i64), .str, (.int .i64), .bool])) (fun (x12 : Int) (x13 : ByteArray) (x14 : Int) (x15 : Bool) =>
  cvalT Tryz.prog do_4 [.agg ⟨[.int .i64 x12, .string x13, .int .i64 x14, .bool x15]⟩] kI (fun (x16 : Int) =>
  K (.int .i64 x16)))))))))
theorem e50 (f_1 : Option Addr) (cwd_2 : ByteArray) (path_3 : ByteArray) (do_4 : Value) (K : Value → H → Prop) : bodyF Tryz.prog tau Tryz.f50 an50 [.pointer f_1, .string cwd_2, .string path_3, do_4] K = g50 f_1 cwd_2 path_3 do_4 K := by kernel_rfl
theorem c50 (f_1 : Option Addr) (cwd_2 : ByteArray) (path_3 : ByteArray) (do_4 : Value) {K : Value → H → Prop} {σ : H} (h : g50 f_1 cwd_2 path_3 do_4 K σ) : callW Tryz.prog 50 [.pointer f_1, .string cwd_2, .string path_3, do_4] K σ := call_of_body mixed Tryz.func50 (by rw [e50]; exact h)


/-- (*whisk/fs.Fs).Mkdir$1 -/
def an51 : Ann := (.seq none (.reg [] []) (.seq none (.seq none (.reg [] []) (.cond (.seq none (.reg [] []) .leaf) .leaf)) (.seq none (.reg [0, 1, 2, 3, 4, 5, 6, 7, 8, 9, 10, 11, 12, 13] [[], [0], [0, 1], [0, 1, 2], [], [4], [], [6], [0, 1, 2, 3, 4, 5, 6, 7], [0, 1, 2, 3, 4, 5, 6, 7, 8], [0, 1, 2, 3, 4, 5, 6, 7, 8, 9], [0, 1, 2, 3, 4, 5, 6, 7, 8, 9], [0, 1, 2, 3, 4, 5, 6, 7, 8, 9, 10], [0, 1, 2, 3, 4, 5, 6, 7, 8, 9, 10, 11, 12]]) (.seq none (.reg [] []) .leaf))))
def g51 (p_1 : Int) (p_2 : ByteArray) (p_3 : Int) (p_4 : Bool) (x5 : Option Addr) (K : Value → H → Prop) : H → Prop :=
  alW (.cells ⟨[.int .i64 p_1, .string p_2, .int .i64 p_3, .bool p_4]⟩ 86 (0, 0)) (fun (b6 : Nat) =>
  ptrW x5 (fun (b7 o8 : Nat) =>
  rdT (rdC b7 o8) kP (fun (x9 : Option Addr) =>
  rdT (rdC b6 0) kI (fun (x10 : Int) =>
  callT Tryz.prog 52 [.pointer x9, .int .i64 x10] kI (fun (x11 : Int) =>
  brW (decide ((x11 : Int) ≥ 12))
  (K (.int .i64 3))
  (ptrW x5 (fun (b12 o13 : Nat) =>
  rdT (rdC b12 o13) kP (fun (x14 : Option Addr) =>
  ptrW x14 (fun (b15 o16 : Nat) =>
  rdT (rdC b15 o16) kP (fun (x17 : Option Addr) =>
  rdT (rdC b6 0) kI (fun (x18 : Int) =>
  rdT (rdC b6 1) kS (fun (x19 : ByteArray) =>
  callT Tryz.prog 53 [.pointer x17, .int .i64 x18, .string x19, .int .i64 2, .int .i64 493, .string (⟨⟨[]⟩⟩ : ByteArray)] (.tup [.sc (.int .i64), .sc (.int .i64)]) (fun (_x20 : Int) (x21 : Int) =>
  K (.int .i64 x21))))))))))))))
theorem e51 (p_1 : Int) (p_2 : ByteArray) (p_3 : Int) (p_4 : Bool) (x5 : Option Addr) (K : Value → H → Prop) : bodyF Tryz.prog tau Tryz.f51 an51 [.agg ⟨[.int .i64 p_1, .string p_2, .int .i64 p_3, .bool p_4]⟩, .pointer x5] K = g51 p_1 p_2 p_3 p_4 x5 K := by kernel_rfl
theorem c51 (p_1 : Int) (p_2 : ByteArray) (p_3 : Int) (p_4 : Bool) (x5 : Option Addr) {K : Value → H → Prop} {σ : H} (h : g51 p_1 p_2 p_3 p_4 x5 K σ) : callW Tryz.prog 51 [.agg ⟨[.int .i64 p_1, .string p_2, .int .i64 p_3, .bool p_4]⟩, .pointer x5] K σ := call_of_body mixed Tryz.func51 (by rw [e51]; exact h)


/-- (*whisk/fs.Fs).deep -/
def an52 : Ann := (.seq none (.reg [] []) (.seq none (.reg [] []) (.seq none (.blk (.loop [(0, .sc .ptr), (1, .sc (.int .i64)), (5, .sc (.int .i64))] (.seq none (.seq none (.reg [] []) (.cond .leaf .leaf)) (.seq none (.blk (.reg [] [])) (.reg [] []))))) (.seq none (.reg [] []) .leaf))))
def g52 (f_1 : Option Addr) (dir_2 : Int) (K : Value → H → Prop) : H → Prop :=
  loopW [.sc .ptr, .sc (.int .i64), .sc (.int .i64)] (fun (R3 : Option Addr → Int → Int → H → Prop) => (fun (f_4 : Option Addr) (dir_5 : Int) (n_6 : Int) =>
  ptrW f_4 (fun (b7 o8 : Nat) =>
  rdT (rdC b7 o8) kP (fun (x9 : Option Addr) =>
  callT Tryz.prog 100 [.pointer x9] kI (fun (x10 : Int) =>
  brW ((dir_5 : Int) != x10)
  (ptrW f_4 (fun (b11 o12 : Nat) =>
  rdT (rdC b11 o12) kP (fun (x13 : Option Addr) =>
  callT Tryz.prog 101 [.pointer x13, .int .i64 dir_5] kI (fun (x14 : Int) =>
  R3 f_4 x14 (IntKind.i64.wrap (n_6 + 1))))))
  (K (.int .i64 n_6))))))) (fun (R15 : Option Addr → Int → Int → H → Prop) => R15 f_1 dir_2 1)
theorem e52 (f_1 : Option Addr) (dir_2 : Int) (K : Value → H → Prop) : bodyF Tryz.prog tau Tryz.f52 an52 [.pointer f_1, .int .i64 dir_2] K = g52 f_1 dir_2 K := by kernel_rfl
theorem c52 (f_1 : Option Addr) (dir_2 : Int) {K : Value → H → Prop} {σ : H} (h : g52 f_1 dir_2 K σ) : callW Tryz.prog 52 [.pointer f_1, .int .i64 dir_2] K σ := call_of_body mixed Tryz.func52 (by rw [e52]; exact h)


/-- (*whisk/inode.Table).Make -/
def an53 : Ann := (.seq none (.reg [] []) (.seq none (.reg [] []) (.seq none (.seq none (.reg [0, 1, 2, 3, 5, 7, 8, 4, 6, 9, 10, 11, 12, 13, 14, 15] [[], [0], [], [], [2, 3], [], [2, 3, 4, 5], [], [], [], [], [2, 3, 4, 5, 6, 8, 9, 10], [], [0, 1, 2, 3, 4, 5, 6, 7, 8, 9, 10, 11, 12], [0, 1, 2, 3, 4, 5, 6, 7, 8, 9, 10, 11, 12, 13], [0, 1, 2, 3, 4, 5, 6, 7, 8, 9, 10, 11, 12, 13, 14]]) (.seq none (.reg [] []) (.cond (.seq none (.reg [] []) .leaf) .leaf))) (.seq none (.reg [] []) (.seq none (.reg [] []) (.seq (some [(1, .sc (.int .i64)), (2, .sc .str), (6, .sc .ptr), (11, .sc .ptr), (16, .sc .ptr)]) (.seq none (.reg [] []) (.cond (.reg [] []) .leaf)) (.seq none (.reg [0, 1, 2, 3, 4, 5, 6, 7, 8, 9] [[], [0], [0, 1], [0, 1, 2], [], [4], [4, 5], [4, 5, 6], [], [0, 1, 2, 3, 4, 5, 6, 7, 8]]) (.seq none (.reg [0, 1, 2, 3, 4, 5, 6, 7, 8, 9, 10, 11, 12, 13, 14] [[], [0], [0, 1], [0, 1, 2], [], [0, 1, 2, 3, 4], [0, 1, 2, 3, 4, 5], [0, 1, 2, 3, 4, 5, 6], [0, 1, 2, 3, 4, 5, 6, 7], [], [], [10], [10, 11], [10, 11, 12], [0, 1, 2, 3, 4, 5, 6, 7, 8, 9, 10, 11, 12, 13]]) (.seq none (.reg [] []) (.seq none (.reg [0, 1, 2, 3, 4, 5, 6, 7, 8, 9, 10, 11] [[], [0], [0, 1], [0, 1, 2], [0, 1, 2, 3], [], [5], [0, 1, 2, 3, 4, 5, 6], [0, 1, 2, 3, 4, 5, 6, 7], [0, 1, 2, 3, 4, 5, 6, 7, 8], [0, 1, 2, 3, 4, 5, 6, 7, 8, 9], [0, 1, 2, 3, 4, 5, 6, 7, 8, 9, 10]]) (.seq none (.reg [] []) .leaf)))))))))))
def g53 (t_1 : Option Addr) (dir_2 : Int) (name_3 : ByteArray) (kind_4 : Int) (mode_5 : Int) (data_6 : ByteArray) (K : Value → H → Prop) : H → Prop :=
  alW (.cells ⟨[.pointer t_1]⟩ 80 (0, 0)) (fun (b7 : Nat) =>
  alW (.cells ⟨[.int .i64 kind_4]⟩ 3 (0, 0)) (fun (b8 : Nat) =>
  alW (.cells ⟨[.int .i64 mode_5]⟩ 3 (0, 0)) (fun (b9 : Nat) =>
  alW (.cells ⟨[.string data_6]⟩ 9 (0, 0)) (fun (b10 : Nat) =>
  rdT (rdC b7 0) kP (fun (x11 : Option Addr) =>
  rdT (rdC b7 0) kP (fun (x12 : Option Addr) =>
  rdT (rdC b7 0) kP (fun (x13 : Option Addr) =>
  callT Tryz.prog 107 [.pointer x12, .int .i64 dir_2] kR (fun (x14 : Value) =>
  andW (fun σ => (rdC b7 0) σ = some (.pointer x13))
  (andW (fun σ => (rdC b7 0) σ = some (.pointer x11))
  (callT Tryz.prog 108 [.string name_3] kR (fun (x15 : Value) =>
  andW (fun σ => (rdC b7 0) σ = some (.pointer x13))
  (andW (fun σ => (rdC b7 0) σ = some (.pointer x11))
  (callT Tryz.prog 109 [.pointer x13, .int .i64 dir_2, .string name_3] kR (fun (x16 : Value) =>
  andW (fun σ => (rdC b7 0) σ = some (.pointer x11))
  (oneK x14
  (oneK x15
  (oneK x16
  (alW (.cells ⟨[.func (.func 106) ⟨[.pointer x11]⟩ ⟨[]⟩, x14, x15, .func (.func 103) ⟨[]⟩ ⟨[.pointer (some ⟨b10, 0, none⟩), .pointer (some ⟨b8, 0, none⟩), .pointer (some ⟨b9, 0, none⟩)]⟩, x16, .func (.func 110) ⟨[]⟩ ⟨[.pointer (some ⟨b7, 0, none⟩), .pointer (some ⟨b10, 0, none⟩)]⟩]⟩ 148 (0, 0)) (fun (b17 : Nat) =>
  callT Tryz.prog 105 [.slice (some ⟨b17, 0, none⟩) 6 6] kI (fun (x18 : Int) =>
  brW ((x18 : Int) != 0)
  (K (.tuple ⟨[.int .i64 0, .int .i64 x18]⟩))
  (rdT (rdC b7 0) kP (fun (x19 : Option Addr) =>
  ptrW x19 (fun (b20 o21 : Nat) =>
  rdT (rdC b20 (o21 + 5)) kI (fun (x22 : Int) =>
  ptrW x19 (fun (b23 o24 : Nat) =>
  stW Tryz.prog 3 (.pointer (some ⟨b23, o24 + 5, none⟩)) (.int .i64 (IntKind.i64.wrap (x22 + 1))) (rdT (rdC b8 0) kI (fun (x25 : Int) =>
  rdT (rdC b9 0) kI (fun (x26 : Int) =>
  rdT (rdC b10 0) kS (fun (x27 : ByteArray) =>
  alW (.cells ⟨[.int .i64 x25, .int .i64 x26, .string x27, .int .i64 1, .int .i64 0, .map none]⟩ 142 (0, 0)) (fun (b28 : Nat) =>
  letJ (T := Int → ByteArray → Option Addr → Option Addr → Option Addr → H → Prop) (fun (dir_30 : Int) (name_31 : ByteArray) (t_32 : Option Addr) (data_33 : Option Addr) (n_34 : Option Addr) =>
  ptrW t_32 (fun (b35 o36 : Nat) =>
  rdT (rdC b35 o36) kP (fun (x37 : Option Addr) =>
  ptrW x37 (fun (b38 o39 : Nat) =>
  rdT (rdC b38 (o39 + 4)) kM (fun (x40 : Option Nat) =>
  ptrW t_32 (fun (b41 o42 : Nat) =>
  rdT (rdC b41 o42) kP (fun (x43 : Option Addr) =>
  ptrW x43 (fun (b44 o45 : Nat) =>
  rdT (rdC b44 (o45 + 5)) kI (fun (x46 : Int) =>
  muW Tryz.prog 143 (.map x40) (.int .i64 x46) (.pointer n_34) (ptrW t_32 (fun (b47 o48 : Nat) =>
  rdT (rdC b47 o48) kP (fun (x49 : Option Addr) =>
  ptrW x49 (fun (b50 o51 : Nat) =>
  rdT (rdC b50 (o51 + 4)) kM (fun (x52 : Option Nat) =>
  rdT (rdM (.int .i64) (.pointer none) false x52 (.int .i64 dir_30)) kP (fun (x53 : Option Addr) =>
  ptrW x53 (fun (b54 o55 : Nat) =>
  rdT (rdC b54 (o55 + 5)) kM (fun (x56 : Option Nat) =>
  ptrW t_32 (fun (b57 o58 : Nat) =>
  rdT (rdC b57 o58) kP (fun (x59 : Option Addr) =>
  ptrW x59 (fun (b60 o61 : Nat) =>
  rdT (rdC b60 (o61 + 5)) kI (fun (x62 : Int) =>
  muW Tryz.prog 140 (.map x56) (.string name_31) (.int .i64 x62) (ptrW t_32 (fun (b63 o64 : Nat) =>
  rdT (rdC b63 o64) kP (fun (x65 : Option Addr) =>
  ptrW x65 (fun (b66 o67 : Nat) =>
  rdT (rdC b66 (o67 + 2)) kI (fun (x68 : Int) =>
  ptrW x65 (fun (b69 o70 : Nat) =>
  stW Tryz.prog 3 (.pointer (some ⟨b69, o70 + 2, none⟩)) (.int .i64 (IntKind.i64.wrap (x68 + 1))) (ptrW t_32 (fun (b71 o72 : Nat) =>
  rdT (rdC b71 o72) kP (fun (x73 : Option Addr) =>
  ptrW x73 (fun (b74 o75 : Nat) =>
  rdT (rdC b74 (o75 + 3)) kI (fun (x76 : Int) =>
  ptrW data_33 (fun (b77 o78 : Nat) =>
  rdT (rdC b77 o78) kS (fun (x79 : ByteArray) =>
  ptrW x73 (fun (b80 o81 : Nat) =>
  stW Tryz.prog 3 (.pointer (some ⟨b80, o81 + 3, none⟩)) (.int .i64 (IntKind.i64.wrap (x76 + ((x79.size : Nat) : Int)))) (ptrW t_32 (fun (b82 o83 : Nat) =>
  rdT (rdC b82 o83) kP (fun (x84 : Option Addr) =>
  ptrW x84 (fun (b85 o86 : Nat) =>
  rdT (rdC b85 (o86 + 5)) kI (fun (x87 : Int) =>
  K (.tuple ⟨[.int .i64 x87, .int .i64 0]⟩))))))))))))))))))))))))))))))))))))))))) (fun j29 =>
  rdT (rdC b8 0) kI (fun (x88 : Int) =>
  brW ((x88 : Int) == 2)
  (alW (.map #[] 0) (fun (b89 : Nat) =>
  stW Tryz.prog 3 (.pointer (some ⟨b28, 4, none⟩)) (.int .i64 dir_2) (stW Tryz.prog 140 (.pointer (some ⟨b28, 5, none⟩)) (.map (some b89)) (j29 dir_2 name_3 (some ⟨b7, 0, none⟩) (some ⟨b10, 0, none⟩) (some ⟨b28, 0, none⟩)))))
  (j29 dir_2 name_3 (some ⟨b7, 0, none⟩) (some ⟨b10, 0, none⟩) (some ⟨b28, 0, none⟩))))))))))))))))))))))))))))))))))
theorem e53 (t_1 : Option Addr) (dir_2 : Int) (name_3 : ByteArray) (kind_4 : Int) (mode_5 : Int) (data_6 : ByteArray) (K : Value → H → Prop) : bodyF Tryz.prog tau Tryz.f53 an53 [.pointer t_1, .int .i64 dir_2, .string name_3, .int .i64 kind_4, .int .i64 mode_5, .string data_6] K = g53 t_1 dir_2 name_3 kind_4 mode_5 data_6 K := by kernel_rfl
theorem c53 (t_1 : Option Addr) (dir_2 : Int) (name_3 : ByteArray) (kind_4 : Int) (mode_5 : Int) (data_6 : ByteArray) {K : Value → H → Prop} {σ : H} (h : g53 t_1 dir_2 name_3 kind_4 mode_5 data_6 K σ) : callW Tryz.prog 53 [.pointer t_1, .int .i64 dir_2, .string name_3, .int .i64 kind_4, .int .i64 mode_5, .string data_6] K σ := call_of_body mixed Tryz.func53 (by rw [e53]; exact h)


/-- (*whisk/fs.Fs).none -/
def an54 : Ann := (.seq none (.reg [] []) (.seq none (.reg [] []) .leaf))
def g54 (f_1 : Option Addr) (K : Value → H → Prop) : H → Prop :=
  brW f_1.isNone
  (K (.bool true))
  (ptrW f_1 (fun (b2 o3 : Nat) =>
  rdT (rdC b2 o3) kP (fun (x4 : Option Addr) =>
  K (.bool x4.isNone))))
theorem e54 (f_1 : Option Addr) (K : Value → H → Prop) : bodyF Tryz.prog tau Tryz.f54 an54 [.pointer f_1] K = g54 f_1 K := by kernel_rfl
theorem c54 (f_1 : Option Addr) {K : Value → H → Prop} {σ : H} (h : g54 f_1 K σ) : callW Tryz.prog 54 [.pointer f_1] K σ := call_of_body mixed Tryz.func54 (by rw [e54]; exact h)


/-- whisk/tree.Check -/
def an55 : Ann := (.seq none (.reg [] []) (.seq none (.blk (.seq none (.reg [] []) (.cond (.seq none (.reg [] []) .leaf) (.seq (some [(1, .sc .ptr), (8, .sc .bool)]) (.reg [] []) (.cond (.seq none (.reg [] []) .leaf) .leaf))))) (.seq none (.seq none (.reg [] []) (.seq (some [(27, .sc .bool)]) (.reg [] []) (.cond (.seq none (.reg [] []) .leaf) .leaf))) (.seq none (.reg [] []) .leaf))))
def g55 (n_1 : ByteArray) (n_2 : Int) (n_3 : Bool) (n_4 : ByteArray) (n_5 : Sl) (K : Value → H → Prop) : H → Prop :=
  alW (.cells ⟨[.string n_1, .int .i64 n_2, .bool n_3, .string n_4, .slice n_5.base n_5.len n_5.cap]⟩ 24 (0, 0)) (fun (b6 : Nat) =>
  rdT (rdA 5 b6 0) (.one (.agg [.str, (.int .i64), .bool, .str, .slc])) (fun (x7 : ByteArray) (x8 : Int) (x9 : Bool) (x10 : ByteArray) (x11 : Sl) =>
  callT Tryz.prog 76 [.agg ⟨[.string x7, .int .i64 x8, .bool x9, .string x10, .slice x11.base x11.len x11.cap]⟩] kB (fun (x12 : Bool) =>
  brW x12
  (K (.int .i64 3))
  (letJ (T := Option Addr → Bool → H → Prop) (fun (n_14 : Option Addr) (x15 : Bool) =>
  brW x15
  (K (.int .i64 2))
  (ptrW n_14 (fun (b16 o17 : Nat) =>
  rdT (rdA 5 b16 o17) (.one (.agg [.str, (.int .i64), .bool, .str, .slc])) (fun (x18 : ByteArray) (x19 : Int) (x20 : Bool) (x21 : ByteArray) (x22 : Sl) =>
  callT Tryz.prog 57 [.agg ⟨[.string x18, .int .i64 x19, .bool x20, .string x21, .slice x22.base x22.len x22.cap]⟩] (.tup [.sc (.int .i64), .sc (.int .i64)]) (fun (x23 : Int) (x24 : Int) =>
  letJ (T := Bool → H → Prop) (fun (x26 : Bool) =>
  brW x26
  (K (.int .i64 3))
  (K (.int .i64 0))) (fun j25 =>
  brW (decide ((x23 : Int) > 2000))
  (j25 true)
  (j25 (decide ((x24 : Int) > 100000))))))))) (fun j13 =>
  rdT (rdC b6 0) kS (fun (x27 : ByteArray) =>
  brW (!strEq x27 (⟨⟨[]⟩⟩ : ByteArray))
  (j13 (some ⟨b6, 0, none⟩) true)
  (rdT (rdA 5 b6 0) (.one (.agg [.str, (.int .i64), .bool, .str, .slc])) (fun (x28 : ByteArray) (x29 : Int) (x30 : Bool) (x31 : ByteArray) (x32 : Sl) =>
  callT Tryz.prog 112 [.agg ⟨[.string x28, .int .i64 x29, .bool x30, .string x31, .slice x32.base x32.len x32.cap]⟩] kB (fun (x33 : Bool) =>
  j13 (some ⟨b6, 0, none⟩) (!x33))))))))))
theorem e55 (n_1 : ByteArray) (n_2 : Int) (n_3 : Bool) (n_4 : ByteArray) (n_5 : Sl) (K : Value → H → Prop) : bodyF Tryz.prog tau Tryz.f55 an55 [.agg ⟨[.string n_1, .int .i64 n_2, .bool n_3, .string n_4, .slice n_5.base n_5.len n_5.cap]⟩] K = g55 n_1 n_2 n_3 n_4 n_5 K := by kernel_rfl
theorem c55 (n_1 : ByteArray) (n_2 : Int) (n_3 : Bool) (n_4 : ByteArray) (n_5 : Sl) {K : Value → H → Prop} {σ : H} (h : g55 n_1 n_2 n_3 n_4 n_5 K σ) : callW Tryz.prog 55 [.agg ⟨[.string n_1, .int .i64 n_2, .bool n_3, .string n_4, .slice n_5.base n_5.len n_5.cap]⟩] K σ := call_of_body mixed Tryz.func55 (by rw [e55]; exact h)


/-- whisk/tree.Size -/
def an57 : Ann := (.seq none (.reg [] []) (.seq none (.seq none (.reg [] []) (.cond (.seq none (.reg [] []) .leaf) .leaf)) (.seq none (.reg [] []) .leaf)))
def g57 (n_1 : ByteArray) (n_2 : Int) (n_3 : Bool) (n_4 : ByteArray) (n_5 : Sl) (K : Value → H → Prop) : H → Prop :=
  alW (.cells ⟨[.string n_1, .int .i64 n_2, .bool n_3, .string n_4, .slice n_5.base n_5.len n_5.cap]⟩ 24 (0, 0)) (fun (b6 : Nat) =>
  rdT (rdA 5 b6 0) (.one (.agg [.str, (.int .i64), .bool, .str, .slc])) (fun (x7 : ByteArray) (x8 : Int) (x9 : Bool) (x10 : ByteArray) (x11 : Sl) =>
  callT Tryz.prog 76 [.agg ⟨[.string x7, .int .i64 x8, .bool x9, .string x10, .slice x11.base x11.len x11.cap]⟩] kB (fun (x12 : Bool) =>
  brW x12
  (K (.tuple ⟨[.int .i64 0, .int .i64 0]⟩))
  (rdT (rdA 5 b6 0) (.one (.agg [.str, (.int .i64), .bool, .str, .slc])) (fun (x13 : ByteArray) (x14 : Int) (x15 : Bool) (x16 : ByteArray) (x17 : Sl) =>
  callT Tryz.prog 113 [.agg ⟨[.string x13, .int .i64 x14, .bool x15, .string x16, .slice x17.base x17.len x17.cap]⟩] (.tup [.sc (.int .i64), .sc (.int .i64)]) (fun (x18 : Int) (x19 : Int) =>
  K (.tuple ⟨[.int .i64 x18, .int .i64 x19]⟩)))))))
theorem e57 (n_1 : ByteArray) (n_2 : Int) (n_3 : Bool) (n_4 : ByteArray) (n_5 : Sl) (K : Value → H → Prop) : bodyF Tryz.prog tau Tryz.f57 an57 [.agg ⟨[.string n_1, .int .i64 n_2, .bool n_3, .string n_4, .slice n_5.base n_5.len n_5.cap]⟩] K = g57 n_1 n_2 n_3 n_4 n_5 K := by kernel_rfl
theorem c57 (n_1 : ByteArray) (n_2 : Int) (n_3 : Bool) (n_4 : ByteArray) (n_5 : Sl) {K : Value → H → Prop} {σ : H} (h : g57 n_1 n_2 n_3 n_4 n_5 K σ) : callW Tryz.prog 57 [.agg ⟨[.string n_1, .int .i64 n_2, .bool n_3, .string n_4, .slice n_5.base n_5.len n_5.cap]⟩] K σ := call_of_body mixed Tryz.func57 (by rw [e57]; exact h)


/-- (*whisk/fs.Fs).locate -/
def an62 : Ann := (.seq none (.reg [] []) (.seq none (.seq none (.reg [] []) (.cond (.seq none (.reg [] []) .leaf) .leaf)) (.seq none (.reg [] []) (.seq none (.seq none (.reg [] []) (.cond (.seq none (.reg [] []) .leaf) .leaf)) (.seq (some [(0, .sc .ptr), (2, .sc .str), (3, .sc .bool), (8, .sc .ptr), (10, .sc (.int .i64)), (11, .sc .ptr)]) (.seq none (.reg [] []) (.cond (.seq none (.seq none (.reg [] []) (.cond (.seq none (.reg [] []) .leaf) .leaf)) (.seq none (.reg [] []) (.seq none (.blk (.seq none (.reg [] []) (.cond (.seq none (.reg [] []) .leaf) (.seq none (.reg [] []) (.cond (.seq none (.reg [] []) .leaf) (.seq none (.reg [] []) (.cond (.seq none (.reg [] []) .leaf) .leaf))))))) (.reg [] [])))) .leaf)) (.seq none (.reg [] []) .leaf))))))
def g62 (f_1 : Option Addr) (cwd_2 : ByteArray) (path_3 : ByteArray) (follow_4 : Bool) (K : Value → H → Prop) : H → Prop :=
  alW (.cells ⟨[.int .i64 0, .string (⟨⟨[]⟩⟩ : ByteArray), .int .i64 0, .bool false]⟩ 86 (0, 0)) (fun (b5 : Nat) =>
  callT Tryz.prog 54 [.pointer f_1] kB (fun (x6 : Bool) =>
  brW x6
  (stW Tryz.prog 86 (.pointer (some ⟨b5, 0, none⟩)) (.agg ⟨[.int .i64 0, .string (⟨⟨[]⟩⟩ : ByteArray), .int .i64 0, .bool false]⟩) (rdT (rdA 4 b5 0) (.one (.agg [(.int .i64), .str, (.int .i64), .bool])) (fun (r7 : Int) (r8 : ByteArray) (r9 : Int) (r10 : Bool) =>
  K (.tuple ⟨[.agg ⟨[.int .i64 r7, .string r8, .int .i64 r9, .bool r10]⟩, .int .i64 1]⟩))))
  (ptrW f_1 (fun (b11 o12 : Nat) =>
  rdT (rdC b11 o12) kP (fun (x13 : Option Addr) =>
  callT Tryz.prog 100 [.pointer x13] kI (fun (x14 : Int) =>
  alW (.cells ⟨[.int .i64 0]⟩ 3 (0, 0)) (fun (b15 : Nat) =>
  stW Tryz.prog 3 (.pointer (some ⟨b15, 0, none⟩)) (.int .i64 8) (brW (strEq path_3 (⟨⟨[]⟩⟩ : ByteArray))
  (stW Tryz.prog 86 (.pointer (some ⟨b5, 0, none⟩)) (.agg ⟨[.int .i64 0, .string (⟨⟨[]⟩⟩ : ByteArray), .int .i64 0, .bool false]⟩) (rdT (rdA 4 b5 0) (.one (.agg [(.int .i64), .str, (.int .i64), .bool])) (fun (r16 : Int) (r17 : ByteArray) (r18 : Int) (r19 : Bool) =>
  K (.tuple ⟨[.agg ⟨[.int .i64 r16, .string r17, .int .i64 r18, .bool r19]⟩, .int .i64 5]⟩))))
  (letJ (T := Option Addr → ByteArray → Bool → Option Addr → Int → Option Addr → H → Prop) (fun (f_21 : Option Addr) (path_22 : ByteArray) (follow_23 : Bool) (x24 : Option Addr) (at_25 : Int) (hops_26 : Option Addr) =>
  callT Tryz.prog 114 [.pointer f_21, .int .i64 at_25, .string path_22, .bool follow_23, .pointer hops_26] (.tup [.agg [(.int .i64), .str, (.int .i64), .bool], .sc (.int .i64)]) (fun (x27 : Int) (x28 : ByteArray) (x29 : Int) (x30 : Bool) (x31 : Int) =>
  stW Tryz.prog 86 (.pointer x24) (.agg ⟨[.int .i64 x27, .string x28, .int .i64 x29, .bool x30]⟩) (ptrW x24 (fun (b32 o33 : Nat) =>
  rdT (rdA 4 b32 o33) (.one (.agg [(.int .i64), .str, (.int .i64), .bool])) (fun (r34 : Int) (r35 : ByteArray) (r36 : Int) (r37 : Bool) =>
  K (.tuple ⟨[.agg ⟨[.int .i64 r34, .string r35, .int .i64 r36, .bool r37]⟩, .int .i64 x31]⟩)))))) (fun j20 =>
  idxW path_3 0 (fun (c38 : UInt8) =>
  brW (((c38.toNat : Int) : Int) != 47)
  (callT Tryz.prog 92 [.string cwd_2, .string (⟨⟨[47]⟩⟩ : ByteArray)] kB (fun (x39 : Bool) =>
  brW (!x39)
  (stW Tryz.prog 86 (.pointer (some ⟨b5, 0, none⟩)) (.agg ⟨[.int .i64 0, .string (⟨⟨[]⟩⟩ : ByteArray), .int .i64 0, .bool false]⟩) (rdT (rdA 4 b5 0) (.one (.agg [(.int .i64), .str, (.int .i64), .bool])) (fun (r40 : Int) (r41 : ByteArray) (r42 : Int) (r43 : Bool) =>
  K (.tuple ⟨[.agg ⟨[.int .i64 r40, .string r41, .int .i64 r42, .bool r43]⟩, .int .i64 5]⟩))))
  (callT Tryz.prog 114 [.pointer f_1, .int .i64 x14, .string cwd_2, .bool true, .pointer (some ⟨b15, 0, none⟩)] (.tup [.agg [(.int .i64), .str, (.int .i64), .bool], .sc (.int .i64)]) (fun (x44 : Int) (x45 : ByteArray) (x46 : Int) (x47 : Bool) (x48 : Int) =>
  alW (.cells ⟨[.int .i64 0, .string (⟨⟨[]⟩⟩ : ByteArray), .int .i64 0, .bool false]⟩ 86 (0, 0)) (fun (b49 : Nat) =>
  stW Tryz.prog 86 (.pointer (some ⟨b49, 0, none⟩)) (.agg ⟨[.int .i64 x44, .string x45, .int .i64 x46, .bool x47]⟩) (brW ((x48 : Int) != 0)
  (stW Tryz.prog 86 (.pointer (some ⟨b5, 0, none⟩)) (.agg ⟨[.int .i64 0, .string (⟨⟨[]⟩⟩ : ByteArray), .int .i64 0, .bool false]⟩) (rdT (rdA 4 b5 0) (.one (.agg [(.int .i64), .str, (.int .i64), .bool])) (fun (r50 : Int) (r51 : ByteArray) (r52 : Int) (r53 : Bool) =>
  K (.tuple ⟨[.agg ⟨[.int .i64 r50, .string r51, .int .i64 r52, .bool r53]⟩, .int .i64 x48]⟩))))
  (rdT (rdC b49 3) kB (fun (x54 : Bool) =>
  brW (!x54)
  (stW Tryz.prog 86 (.pointer (some ⟨b5, 0, none⟩)) (.agg ⟨[.int .i64 0, .string (⟨⟨[]⟩⟩ : ByteArray), .int .i64 0, .bool false]⟩) (rdT (rdA 4 b5 0) (.one (.agg [(.int .i64), .str, (.int .i64), .bool])) (fun (r55 : Int) (r56 : ByteArray) (r57 : Int) (r58 : Bool) =>
  K (.tuple ⟨[.agg ⟨[.int .i64 r55, .string r56, .int .i64 r57, .bool r58]⟩, .int .i64 5]⟩))))
  (rdT (rdC b49 2) kI (fun (x59 : Int) =>
  callT Tryz.prog 70 [.pointer f_1, .int .i64 x59] kI (fun (x60 : Int) =>
  brW ((x60 : Int) != 2)
  (stW Tryz.prog 86 (.pointer (some ⟨b5, 0, none⟩)) (.agg ⟨[.int .i64 0, .string (⟨⟨[]⟩⟩ : ByteArray), .int .i64 0, .bool false]⟩) (rdT (rdA 4 b5 0) (.one (.agg [(.int .i64), .str, (.int .i64), .bool])) (fun (r61 : Int) (r62 : ByteArray) (r63 : Int) (r64 : Bool) =>
  K (.tuple ⟨[.agg ⟨[.int .i64 r61, .string r62, .int .i64 r63, .bool r64]⟩, .int .i64 8]⟩))))
  (rdT (rdC b49 2) kI (fun (x65 : Int) =>
  stW Tryz.prog 3 (.pointer (some ⟨b15, 0, none⟩)) (.int .i64 8) (j20 f_1 path_3 follow_4 (some ⟨b5, 0, none⟩) x65 (some ⟨b15, 0, none⟩)))))))))))))))
  (j20 f_1 path_3 follow_4 (some ⟨b5, 0, none⟩) x14 (some ⟨b15, 0, none⟩)))))))))))))
theorem e62 (f_1 : Option Addr) (cwd_2 : ByteArray) (path_3 : ByteArray) (follow_4 : Bool) (K : Value → H → Prop) : bodyF Tryz.prog tau Tryz.f62 an62 [.pointer f_1, .string cwd_2, .string path_3, .bool follow_4] K = g62 f_1 cwd_2 path_3 follow_4 K := by kernel_rfl
theorem c62 (f_1 : Option Addr) (cwd_2 : ByteArray) (path_3 : ByteArray) (follow_4 : Bool) {K : Value → H → Prop} {σ : H} (h : g62 f_1 cwd_2 path_3 follow_4 K σ) : callW Tryz.prog 62 [.pointer f_1, .string cwd_2, .string path_3, .bool follow_4] K σ := call_of_body mixed Tryz.func62 (by rw [e62]; exact h)


/-- (*whisk/inode.Table).Node -/
def an63 : Ann := (.seq none (.reg [] []) (.seq none (.reg [] []) (.seq none (.seq none (.reg [] []) (.cond (.seq none (.reg [] []) .leaf) .leaf)) (.seq none (.reg [] []) .leaf))))
def g63 (t_1 : Option Addr) (ino_2 : Int) (K : Value → H → Prop) : H → Prop :=
  alW (.cells ⟨[.int .i64 0, .int .i64 0, .string (⟨⟨[]⟩⟩ : ByteArray), .int .i64 0]⟩ 54 (0, 0)) (fun (b3 : Nat) =>
  callT Tryz.prog 115 [.pointer t_1, .int .i64 ino_2] kP (fun (x4 : Option Addr) =>
  brW x4.isNone
  (stW Tryz.prog 54 (.pointer (some ⟨b3, 0, none⟩)) (.agg ⟨[.int .i64 0, .int .i64 0, .string (⟨⟨[]⟩⟩ : ByteArray), .int .i64 0]⟩) (rdT (rdA 4 b3 0) (.one (.agg [(.int .i64), (.int .i64), .str, (.int .i64)])) (fun (r5 : Int) (r6 : Int) (r7 : ByteArray) (r8 : Int) =>
  K (.tuple ⟨[.agg ⟨[.int .i64 r5, .int .i64 r6, .string r7, .int .i64 r8]⟩, .bool false]⟩))))
  (ptrW x4 (fun (b9 o10 : Nat) =>
  rdT (rdA 4 b9 o10) (.one (.agg [(.int .i64), (.int .i64), .str, (.int .i64)])) (fun (x11 : Int) (x12 : Int) (x13 : ByteArray) (x14 : Int) =>
  stW Tryz.prog 54 (.pointer (some ⟨b3, 0, none⟩)) (.agg ⟨[.int .i64 x11, .int .i64 x12, .string x13, .int .i64 x14]⟩) (rdT (rdA 4 b3 0) (.one (.agg [(.int .i64), (.int .i64), .str, (.int .i64)])) (fun (r15 : Int) (r16 : Int) (r17 : ByteArray) (r18 : Int) =>
  K (.tuple ⟨[.agg ⟨[.int .i64 r15, .int .i64 r16, .string r17, .int .i64 r18]⟩, .bool true]⟩))))))))
theorem e63 (t_1 : Option Addr) (ino_2 : Int) (K : Value → H → Prop) : bodyF Tryz.prog tau Tryz.f63 an63 [.pointer t_1, .int .i64 ino_2] K = g63 t_1 ino_2 K := by kernel_rfl
theorem c63 (t_1 : Option Addr) (ino_2 : Int) {K : Value → H → Prop} {σ : H} (h : g63 t_1 ino_2 K σ) : callW Tryz.prog 63 [.pointer t_1, .int .i64 ino_2] K σ := call_of_body mixed Tryz.func63 (by rw [e63]; exact h)


/-- (*whisk/inode.Table).Write -/
def an64 : Ann := (.seq none (.reg [] []) (.seq none (.reg [] []) (.seq none (.seq none (.reg [0, 1, 2, 3, 4, 5, 6, 7, 8] [[], [0], [], [], [2, 3], [], [0, 1, 2, 3, 4, 5], [0, 1, 2, 3, 4, 5, 6], [0, 1, 2, 3, 4, 5, 6, 7]]) (.seq none (.reg [] []) (.cond (.seq none (.reg [] []) .leaf) .leaf))) (.seq none (.reg [0, 1, 2, 3, 4, 5, 6] [[], [0], [0, 1], [0, 1, 2], [], [0, 1, 2, 3, 4], [0, 1, 2, 3, 4, 5]]) (.seq none (.reg [0, 1, 2, 3, 4, 5, 6, 7, 8, 9, 10, 11, 12, 13, 14, 15, 16, 17, 18] [[], [0], [0, 1], [0, 1, 2], [0, 1, 2, 3], [], [5], [], [7], [7, 8], [7, 8, 9], [7, 8, 9, 10], [7, 8, 9, 10, 11], [5, 6, 7, 8, 9, 10, 11, 12], [0, 1, 2, 3, 4, 5, 6, 7, 8, 9, 10, 11, 12, 13], [0, 1, 2, 3, 4, 5, 6, 7, 8, 9, 10, 11, 12, 13, 14], [0, 1, 2, 3, 4, 5, 6, 7, 8, 9, 10, 11, 12, 13, 14, 15], [0, 1, 2, 3, 4, 5, 6, 7, 8, 9, 10, 11, 12, 13, 14, 15, 16], [0, 1, 2, 3, 4, 5, 6, 7, 8, 9, 10, 11, 12, 13, 14, 15, 16, 17]]) (.seq none (.reg [] []) (.seq none (.reg [] []) .leaf)))))))
def g64 (t_1 : Option Addr) (ino_2 : Int) (data_3 : ByteArray) (K : Value → H → Prop) : H → Prop :=
  alW (.cells ⟨[.pointer t_1]⟩ 80 (0, 0)) (fun (b4 : Nat) =>
  alW (.cells ⟨[.int .i64 ino_2]⟩ 3 (0, 0)) (fun (b5 : Nat) =>
  alW (.cells ⟨[.string data_3]⟩ 9 (0, 0)) (fun (b6 : Nat) =>
  rdT (rdC b4 0) kP (fun (x7 : Option Addr) =>
  rdT (rdC b4 0) kP (fun (x8 : Option Addr) =>
  rdT (rdC b5 0) kI (fun (x9 : Int) =>
  callT Tryz.prog 117 [.pointer x8, .int .i64 x9] kR (fun (x10 : Value) =>
  andW (fun σ => (rdC b4 0) σ = some (.pointer x7))
  (oneK x10
  (alW (.cells ⟨[.func (.func 106) ⟨[.pointer x7]⟩ ⟨[]⟩, x10, .func (.func 116) ⟨[]⟩ ⟨[.pointer (some ⟨b4, 0, none⟩), .pointer (some ⟨b6, 0, none⟩), .pointer (some ⟨b5, 0, none⟩)]⟩]⟩ 148 (0, 0)) (fun (b11 : Nat) =>
  callT Tryz.prog 105 [.slice (some ⟨b11, 0, none⟩) 3 3] kI (fun (x12 : Int) =>
  brW ((x12 : Int) != 0)
  (K (.int .i64 x12))
  (rdT (rdC b4 0) kP (fun (x13 : Option Addr) =>
  ptrW x13 (fun (b14 o15 : Nat) =>
  rdT (rdC b14 (o15 + 4)) kM (fun (x16 : Option Nat) =>
  rdT (rdC b5 0) kI (fun (x17 : Int) =>
  rdT (rdM (.int .i64) (.pointer none) false x16 (.int .i64 x17)) kP (fun (x18 : Option Addr) =>
  rdT (rdC b4 0) kP (fun (x19 : Option Addr) =>
  ptrW x19 (fun (b20 o21 : Nat) =>
  rdT (rdC b20 (o21 + 3)) kI (fun (x22 : Int) =>
  rdT (rdC b6 0) kS (fun (x23 : ByteArray) =>
  ptrW x18 (fun (b24 o25 : Nat) =>
  rdT (rdC b24 (o25 + 2)) kS (fun (x26 : ByteArray) =>
  ptrW x19 (fun (b27 o28 : Nat) =>
  stW Tryz.prog 3 (.pointer (some ⟨b27, o28 + 3, none⟩)) (.int .i64 (IntKind.i64.wrap (x22 + (IntKind.i64.wrap (((x23.size : Nat) : Int) - ((x26.size : Nat) : Int)))))) (rdT (rdC b6 0) kS (fun (x29 : ByteArray) =>
  ptrW x18 (fun (b30 o31 : Nat) =>
  stW Tryz.prog 9 (.pointer (some ⟨b30, o31 + 2, none⟩)) (.string x29) (K (.int .i64 0)))))))))))))))))))))))))))))
theorem e64 (t_1 : Option Addr) (ino_2 : Int) (data_3 : ByteArray) (K : Value → H → Prop) : bodyF Tryz.prog tau Tryz.f64 an64 [.pointer t_1, .int .i64 ino_2, .string data_3] K = g64 t_1 ino_2 data_3 K := by kernel_rfl
theorem c64 (t_1 : Option Addr) (ino_2 : Int) (data_3 : ByteArray) {K : Value → H → Prop} {σ : H} (h : g64 t_1 ino_2 data_3 K σ) : callW Tryz.prog 64 [.pointer t_1, .int .i64 ino_2, .string data_3] K σ := call_of_body mixed Tryz.func64 (by rw [e64]; exact h)


/-- strings.IndexByte -/
def an65 : Ann := (.seq none (.reg [] []) (.seq none (.reg [] []) .leaf))
def g65 (s_1 : ByteArray) (c_2 : Int) (K : Value → H → Prop) : H → Prop :=
  callT Tryz.prog 118 [.string s_1, .int .u8 c_2] kI (fun (x3 : Int) =>
  K (.int .i64 x3))
theorem e65 (s_1 : ByteArray) (c_2 : Int) (K : Value → H → Prop) : bodyF Tryz.prog tau Tryz.f65 an65 [.string s_1, .int .u8 c_2] K = g65 s_1 c_2 K := by kernel_rfl
theorem c65 (s_1 : ByteArray) (c_2 : Int) {K : Value → H → Prop} {σ : H} (h : g65 s_1 c_2 K σ) : callW Tryz.prog 65 [.string s_1, .int .u8 c_2] K σ := call_of_body mixed Tryz.func65 (by rw [e65]; exact h)


/-- (*whisk/fs.Fs).Symlink$1 -/
def an66 : Ann := (.seq none (.reg [] []) (.seq none (.reg [0, 1, 2, 3, 4, 5, 6, 7, 8, 9, 10, 11, 12, 13, 14] [[], [0], [0, 1], [0, 1, 2], [], [4], [], [6], [], [0, 1, 2, 3, 4, 5, 6, 7, 8], [0, 1, 2, 3, 4, 5, 6, 7, 8, 9], [0, 1, 2, 3, 4, 5, 6, 7, 8, 9, 10], [0, 1, 2, 3, 4, 5, 6, 7, 8, 9, 10], [0, 1, 2, 3, 4, 5, 6, 7, 8, 9, 10, 11], [0, 1, 2, 3, 4, 5, 6, 7, 8, 9, 10, 11, 12, 13]]) (.seq none (.reg [] []) .leaf)))
def g66 (p_1 : Int) (p_2 : ByteArray) (p_3 : Int) (p_4 : Bool) (x5 : Option Addr) (x6 : Option Addr) (K : Value → H → Prop) : H → Prop :=
  alW (.cells ⟨[.int .i64 p_1, .string p_2, .int .i64 p_3, .bool p_4]⟩ 86 (0, 0)) (fun (b7 : Nat) =>
  ptrW x5 (fun (b8 o9 : Nat) =>
  rdT (rdC b8 o9) kP (fun (x10 : Option Addr) =>
  ptrW x10 (fun (b11 o12 : Nat) =>
  rdT (rdC b11 o12) kP (fun (x13 : Option Addr) =>
  rdT (rdC b7 0) kI (fun (x14 : Int) =>
  rdT (rdC b7 1) kS (fun (x15 : ByteArray) =>
  ptrW x6 (fun (b16 o17 : Nat) =>
  rdT (rdC b16 o17) kS (fun (x18 : ByteArray) =>
  callT Tryz.prog 53 [.pointer x13, .int .i64 x14, .string x15, .int .i64 3, .int .i64 511, .string x18] (.tup [.sc (.int .i64), .sc (.int .i64)]) (fun (_x19 : Int) (x20 : Int) =>
  K (.int .i64 x20)))))))))))
theorem e66 (p_1 : Int) (p_2 : ByteArray) (p_3 : Int) (p_4 : Bool) (x5 : Option Addr) (x6 : Option Addr) (K : Value → H → Prop) : bodyF Tryz.prog tau Tryz.f66 an66 [.agg ⟨[.int .i64 p_1, .string p_2, .int .i64 p_3, .bool p_4]⟩, .pointer x5, .pointer x6] K = g66 p_1 p_2 p_3 p_4 x5 x6 K := by kernel_rfl
theorem c66 (p_1 : Int) (p_2 : ByteArray) (p_3 : Int) (p_4 : Bool) (x5 : Option Addr) (x6 : Option Addr) {K : Value → H → Prop} {σ : H} (h : g66 p_1 p_2 p_3 p_4 x5 x6 K σ) : callW Tryz.prog 66 [.agg ⟨[.int .i64 p_1, .string p_2, .int .i64 p_3, .bool p_4]⟩, .pointer x5, .pointer x6] K σ := call_of_body mixed Tryz.func66 (by rw [e66]; exact h)


/-- (*whisk/inode.Table).Names -/
def an67 : Ann := (.seq none (.reg [] []) (.seq none (.reg [] []) (.seq none (.seq none (.reg [] []) (.cond (.seq none (.reg [] []) .leaf) .leaf)) (.seq none (.reg [] []) .leaf))))
def g67 (t_1 : Option Addr) (dir_2 : Int) (K : Value → H → Prop) : H → Prop :=
  callT Tryz.prog 115 [.pointer t_1, .int .i64 dir_2] kP (fun (x3 : Option Addr) =>
  brW x3.isNone
  (K (.slice none 0 0))
  (ptrW x3 (fun (b4 o5 : Nat) =>
  rdT (rdC b4 (o5 + 5)) kM (fun (x6 : Option Nat) =>
  callT Tryz.prog 120 [.map x6] kR (fun (x7 : Value) =>
  callT Tryz.prog 119 [x7] kL (fun (x8 : Sl) =>
  K (.slice x8.base x8.len x8.cap)))))))
theorem e67 (t_1 : Option Addr) (dir_2 : Int) (K : Value → H → Prop) : bodyF Tryz.prog tau Tryz.f67 an67 [.pointer t_1, .int .i64 dir_2] K = g67 t_1 dir_2 K := by kernel_rfl
theorem c67 (t_1 : Option Addr) (dir_2 : Int) {K : Value → H → Prop} {σ : H} (h : g67 t_1 dir_2 K σ) : callW Tryz.prog 67 [.pointer t_1, .int .i64 dir_2] K σ := call_of_body mixed Tryz.func67 (by rw [e67]; exact h)


/-- (*whisk/inode.Table).Unlink -/
def an68 : Ann := (.seq none (.reg [] []) (.seq none (.reg [] []) (.seq none (.seq none (.reg [0, 1, 2, 3, 5, 6, 7, 4, 8, 9, 10, 11, 12] [[], [0], [], [], [2, 3], [], [], [], [2, 3, 4, 5, 6, 7], [], [0, 1, 2, 3, 4, 5, 6, 7, 8, 9], [0, 1, 2, 3, 4, 5, 6, 7, 8, 9, 10], [0, 1, 2, 3, 4, 5, 6, 7, 8, 9, 10, 11]]) (.seq none (.reg [] []) (.cond (.seq none (.reg [] []) .leaf) .leaf))) (.seq none (.reg [] []) (.seq none (.reg [0, 1, 2, 3, 4, 5, 6, 7, 8, 9, 10] [[], [0], [0, 1], [0, 1, 2], [], [0, 1, 2, 3, 4], [0, 1, 2, 3, 4, 5], [0, 1, 2, 3, 4, 5, 6], [0, 1, 2, 3, 4, 5, 6, 7], [], [0, 1, 2, 3, 4, 5, 6, 7, 8, 9]]) (.seq none (.reg [] []) (.seq (some []) (.seq none (.reg [] []) (.seq none (.reg [] []) (.cond (.seq none (.reg [] []) (.seq none (.reg [] []) (.reg [0, 1, 2, 3, 4, 5, 6, 7, 8, 9, 10, 11, 12, 13, 14, 15] [[], [0], [0, 1], [0, 1, 2], [0, 1, 2, 3], [], [5], [5, 6], [5, 6, 7], [5, 6, 7, 8], [5, 6, 7, 8, 9], [0, 1, 2, 3, 4, 5, 6, 7, 8, 9, 10], [0, 1, 2, 3, 4, 5, 6, 7, 8, 9, 10, 11], [0, 1, 2, 3, 4, 5, 6, 7, 8, 9, 10, 11, 12], [0, 1, 2, 3, 4, 5, 6, 7, 8, 9, 10, 11, 12, 13], [0, 1, 2, 3, 4, 5, 6, 7, 8, 9, 10, 11, 12, 13, 14]]))) .leaf))) (.seq none (.reg [] []) .leaf))))))))
def g68 (t_1 : Option Addr) (dir_2 : Int) (name_3 : ByteArray) (K : Value → H → Prop) : H → Prop :=
  alW (.cells ⟨[.pointer t_1]⟩ 80 (0, 0)) (fun (b4 : Nat) =>
  alW (.cells ⟨[.int .i64 dir_2]⟩ 3 (0, 0)) (fun (b5 : Nat) =>
  alW (.cells ⟨[.string name_3]⟩ 9 (0, 0)) (fun (b6 : Nat) =>
  rdT (rdC b4 0) kP (fun (x7 : Option Addr) =>
  rdT (rdC b4 0) kP (fun (x8 : Option Addr) =>
  rdT (rdC b5 0) kI (fun (x9 : Int) =>
  rdT (rdC b4 0) kP (fun (x10 : Option Addr) =>
  rdT (rdC b5 0) kI (fun (x11 : Int) =>
  rdT (rdC b6 0) kS (fun (x12 : ByteArray) =>
  callT Tryz.prog 107 [.pointer x8, .int .i64 x9] kR (fun (x13 : Value) =>
  andW (fun σ => (rdC b6 0) σ = some (.string x12))
  (andW (fun σ => (rdC b5 0) σ = some (.int .i64 x11))
  (andW (fun σ => (rdC b4 0) σ = some (.pointer x10))
  (andW (fun σ => (rdC b4 0) σ = some (.pointer x7))
  (callT Tryz.prog 122 [.pointer x10, .int .i64 x11, .string x12] kR (fun (x14 : Value) =>
  andW (fun σ => (rdC b4 0) σ = some (.pointer x7))
  (oneK x13
  (oneK x14
  (alW (.cells ⟨[.func (.func 106) ⟨[.pointer x7]⟩ ⟨[]⟩, x13, x14, .func (.func 121) ⟨[]⟩ ⟨[.pointer (some ⟨b4, 0, none⟩), .pointer (some ⟨b5, 0, none⟩), .pointer (some ⟨b6, 0, none⟩)]⟩]⟩ 148 (0, 0)) (fun (b15 : Nat) =>
  callT Tryz.prog 105 [.slice (some ⟨b15, 0, none⟩) 4 4] kI (fun (x16 : Int) =>
  brW ((x16 : Int) != 0)
  (K (.int .i64 x16))
  (rdT (rdC b4 0) kP (fun (x17 : Option Addr) =>
  rdT (rdC b5 0) kI (fun (x18 : Int) =>
  rdT (rdC b6 0) kS (fun (x19 : ByteArray) =>
  callT Tryz.prog 102 [.pointer x17, .int .i64 x18, .string x19] (.tup [.sc (.int .i64), .sc .bool]) (fun (x20 : Int) (_x21 : Bool) =>
  rdT (rdC b4 0) kP (fun (x22 : Option Addr) =>
  ptrW x22 (fun (b23 o24 : Nat) =>
  rdT (rdC b23 (o24 + 4)) kM (fun (x25 : Option Nat) =>
  rdT (rdC b5 0) kI (fun (x26 : Int) =>
  rdT (rdM (.int .i64) (.pointer none) false x25 (.int .i64 x26)) kP (fun (x27 : Option Addr) =>
  ptrW x27 (fun (b28 o29 : Nat) =>
  rdT (rdC b28 (o29 + 5)) kM (fun (x30 : Option Nat) =>
  rdT (rdC b6 0) kS (fun (x31 : ByteArray) =>
  biW Tryz.prog .delete #[140, 9] 0 [false, false] [.map x30, .string x31] kU (rdT (rdC b4 0) kP (fun (x32 : Option Addr) =>
  ptrW x32 (fun (b33 o34 : Nat) =>
  rdT (rdC b33 (o34 + 4)) kM (fun (x35 : Option Nat) =>
  rdT (rdM (.int .i64) (.pointer none) false x35 (.int .i64 x20)) kP (fun (x36 : Option Addr) =>
  letJ (T := H → Prop) (K (.int .i64 0)) (fun j37 =>
  ptrW x36 (fun (b38 o39 : Nat) =>
  rdT (rdC b38 (o39 + 3)) kI (fun (x40 : Int) =>
  ptrW x36 (fun (b41 o42 : Nat) =>
  stW Tryz.prog 3 (.pointer (some ⟨b41, o42 + 3, none⟩)) (.int .i64 (IntKind.i64.wrap (x40 - 1))) (ptrW x36 (fun (b43 o44 : Nat) =>
  rdT (rdC b43 (o44 + 3)) kI (fun (x45 : Int) =>
  brW ((x45 : Int) == 0)
  (rdT (rdC b4 0) kP (fun (x46 : Option Addr) =>
  ptrW x46 (fun (b47 o48 : Nat) =>
  rdT (rdC b47 (o48 + 4)) kM (fun (x49 : Option Nat) =>
  biW Tryz.prog .delete #[143, 3] 0 [false, false] [.map x49, .int .i64 x20] kU (rdT (rdC b4 0) kP (fun (x50 : Option Addr) =>
  ptrW x50 (fun (b51 o52 : Nat) =>
  rdT (rdC b51 (o52 + 2)) kI (fun (x53 : Int) =>
  ptrW x50 (fun (b54 o55 : Nat) =>
  stW Tryz.prog 3 (.pointer (some ⟨b54, o55 + 2, none⟩)) (.int .i64 (IntKind.i64.wrap (x53 - 1))) (rdT (rdC b4 0) kP (fun (x56 : Option Addr) =>
  ptrW x56 (fun (b57 o58 : Nat) =>
  rdT (rdC b57 (o58 + 3)) kI (fun (x59 : Int) =>
  ptrW x36 (fun (b60 o61 : Nat) =>
  rdT (rdC b60 (o61 + 2)) kS (fun (x62 : ByteArray) =>
  ptrW x56 (fun (b63 o64 : Nat) =>
  stW Tryz.prog 3 (.pointer (some ⟨b63, o64 + 3, none⟩)) (.int .i64 (IntKind.i64.wrap (x59 - ((x62.size : Nat) : Int)))) (j37)))))))))))))))))
  (j37))))))))))))))))))))))))))))))))))))))))))))))
theorem e68 (t_1 : Option Addr) (dir_2 : Int) (name_3 : ByteArray) (K : Value → H → Prop) : bodyF Tryz.prog tau Tryz.f68 an68 [.pointer t_1, .int .i64 dir_2, .string name_3] K = g68 t_1 dir_2 name_3 K := by kernel_rfl
theorem c68 (t_1 : Option Addr) (dir_2 : Int) (name_3 : ByteArray) {K : Value → H → Prop} {σ : H} (h : g68 t_1 dir_2 name_3 K σ) : callW Tryz.prog 68 [.pointer t_1, .int .i64 dir_2, .string name_3] K σ := call_of_body mixed Tryz.func68 (by rw [e68]; exact h)


/-- (*whisk/fs.Fs).both -/
def an69 : Ann := (.seq none (.reg [] []) (.seq (some [(8, .sc .ptr), (9, .sc .ptr), (10, .sc (.int .i64))]) (.seq none (.reg [] []) (.seq none (.reg [] []) (.cond (.reg [] []) .leaf))) (.seq none (.reg [0, 1, 2, 3, 4, 5] [[], [], [], [0], [0, 1, 3], [0, 1, 2, 3, 4]]) .leaf)))
def g69 (f_1 : Option Addr) (cwd_2 : ByteArray) (from_3 : ByteArray) (to_4 : ByteArray) (K : Value → H → Prop) : H → Prop :=
  alW (.cells ⟨[.int .i64 0, .string (⟨⟨[]⟩⟩ : ByteArray), .int .i64 0, .bool false]⟩ 86 (0, 0)) (fun (b5 : Nat) =>
  alW (.cells ⟨[.int .i64 0, .string (⟨⟨[]⟩⟩ : ByteArray), .int .i64 0, .bool false]⟩ 86 (0, 0)) (fun (b6 : Nat) =>
  letJ (T := Option Addr → Option Addr → Int → H → Prop) (fun (p_8 : Option Addr) (q_9 : Option Addr) (e_10 : Int) =>
  ptrW p_8 (fun (b11 o12 : Nat) =>
  rdT (rdA 4 b11 o12) (.one (.agg [(.int .i64), .str, (.int .i64), .bool])) (fun (x13 : Int) (x14 : ByteArray) (x15 : Int) (x16 : Bool) =>
  ptrW q_9 (fun (b17 o18 : Nat) =>
  rdT (rdA 4 b17 o18) (.one (.agg [(.int .i64), .str, (.int .i64), .bool])) (fun (x19 : Int) (x20 : ByteArray) (x21 : Int) (x22 : Bool) =>
  stW Tryz.prog 86 (.pointer p_8) (.agg ⟨[.int .i64 x13, .string x14, .int .i64 x15, .bool x16]⟩) (andW (fun σ => (rdA 4 b17 o18) σ = some (.agg ⟨[.int .i64 x19, .string x20, .int .i64 x21, .bool x22]⟩))
  (stW Tryz.prog 86 (.pointer q_9) (.agg ⟨[.int .i64 x19, .string x20, .int .i64 x21, .bool x22]⟩) (ptrW p_8 (fun (b23 o24 : Nat) =>
  rdT (rdA 4 b23 o24) (.one (.agg [(.int .i64), .str, (.int .i64), .bool])) (fun (r25 : Int) (r26 : ByteArray) (r27 : Int) (r28 : Bool) =>
  ptrW q_9 (fun (b29 o30 : Nat) =>
  rdT (rdA 4 b29 o30) (.one (.agg [(.int .i64), .str, (.int .i64), .bool])) (fun (r31 : Int) (r32 : ByteArray) (r33 : Int) (r34 : Bool) =>
  K (.tuple ⟨[.agg ⟨[.int .i64 r25, .string r26, .int .i64 r27, .bool r28]⟩, .agg ⟨[.int .i64 r31, .string r32, .int .i64 r33, .bool r34]⟩, .int .i64 e_10]⟩))))))))))))) (fun j7 =>
  callT Tryz.prog 62 [.pointer f_1, .string cwd_2, .string from_3, .bool false] (.tup [.agg [(.int .i64), .str, (.int .i64), .bool], .sc (.int .i64)]) (fun (x35 : Int) (x36 : ByteArray) (x37 : Int) (x38 : Bool) (x39 : Int) =>
  stW Tryz.prog 86 (.pointer (some ⟨b5, 0, none⟩)) (.agg ⟨[.int .i64 x35, .string x36, .int .i64 x37, .bool x38]⟩) (brW ((x39 : Int) == 0)
  (callT Tryz.prog 62 [.pointer f_1, .string cwd_2, .string to_4, .bool false] (.tup [.agg [(.int .i64), .str, (.int .i64), .bool], .sc (.int .i64)]) (fun (x40 : Int) (x41 : ByteArray) (x42 : Int) (x43 : Bool) (x44 : Int) =>
  stW Tryz.prog 86 (.pointer (some ⟨b6, 0, none⟩)) (.agg ⟨[.int .i64 x40, .string x41, .int .i64 x42, .bool x43]⟩) (j7 (some ⟨b5, 0, none⟩) (some ⟨b6, 0, none⟩) x44)))
  (j7 (some ⟨b5, 0, none⟩) (some ⟨b6, 0, none⟩) x39))))))
theorem e69 (f_1 : Option Addr) (cwd_2 : ByteArray) (from_3 : ByteArray) (to_4 : ByteArray) (K : Value → H → Prop) : bodyF Tryz.prog tau Tryz.f69 an69 [.pointer f_1, .string cwd_2, .string from_3, .string to_4] K = g69 f_1 cwd_2 from_3 to_4 K := by kernel_rfl
theorem c69 (f_1 : Option Addr) (cwd_2 : ByteArray) (from_3 : ByteArray) (to_4 : ByteArray) {K : Value → H → Prop} {σ : H} (h : g69 f_1 cwd_2 from_3 to_4 K σ) : callW Tryz.prog 69 [.pointer f_1, .string cwd_2, .string from_3, .string to_4] K σ := call_of_body mixed Tryz.func69 (by rw [e69]; exact h)


/-- (*whisk/fs.Fs).kind -/
def an70 : Ann := (.seq none (.reg [] []) (.seq none (.reg [] []) (.seq none (.reg [] []) .leaf)))
def g70 (f_1 : Option Addr) (ino_2 : Int) (K : Value → H → Prop) : H → Prop :=
  ptrW f_1 (fun (b3 o4 : Nat) =>
  rdT (rdC b3 o4) kP (fun (x5 : Option Addr) =>
  callT Tryz.prog 63 [.pointer x5, .int .i64 ino_2] (.tup [.agg [(.int .i64), (.int .i64), .str, (.int .i64)], .sc .bool]) (fun (x6 : Int) (x7 : Int) (x8 : ByteArray) (x9 : Int) (_x10 : Bool) =>
  alW (.cells ⟨[.int .i64 0, .int .i64 0, .string (⟨⟨[]⟩⟩ : ByteArray), .int .i64 0]⟩ 54 (0, 0)) (fun (b11 : Nat) =>
  stW Tryz.prog 54 (.pointer (some ⟨b11, 0, none⟩)) (.agg ⟨[.int .i64 x6, .int .i64 x7, .string x8, .int .i64 x9]⟩) (rdT (rdC b11 0) kI (fun (x12 : Int) =>
  K (.int .i64 x12)))))))
theorem e70 (f_1 : Option Addr) (ino_2 : Int) (K : Value → H → Prop) : bodyF Tryz.prog tau Tryz.f70 an70 [.pointer f_1, .int .i64 ino_2] K = g70 f_1 ino_2 K := by kernel_rfl
theorem c70 (f_1 : Option Addr) (ino_2 : Int) {K : Value → H → Prop} {σ : H} (h : g70 f_1 ino_2 K σ) : callW Tryz.prog 70 [.pointer f_1, .int .i64 ino_2] K σ := call_of_body mixed Tryz.func70 (by rw [e70]; exact h)


/-- (*whisk/inode.Table).Link -/
def an71 : Ann := (.seq none (.reg [] []) (.seq none (.seq none (.reg [] []) (.seq none (.reg [] []) (.cond (.seq none (.reg [] []) .leaf) .leaf))) (.seq none (.reg [] []) (.seq none (.reg [] []) (.seq none (.reg [] []) .leaf)))))
def g71 (t_1 : Option Addr) (dir_2 : Int) (name_3 : ByteArray) (ino_4 : Int) (K : Value → H → Prop) : H → Prop :=
  callT Tryz.prog 107 [.pointer t_1, .int .i64 dir_2] kR (fun (x5 : Value) =>
  callT Tryz.prog 108 [.string name_3] kR (fun (x6 : Value) =>
  callT Tryz.prog 117 [.pointer t_1, .int .i64 ino_4] kR (fun (x7 : Value) =>
  callT Tryz.prog 109 [.pointer t_1, .int .i64 dir_2, .string name_3] kR (fun (x8 : Value) =>
  oneK x5
  (oneK x6
  (oneK x7
  (oneK x8
  (alW (.cells ⟨[.func (.func 106) ⟨[.pointer t_1]⟩ ⟨[]⟩, x5, x6, x7, x8]⟩ 148 (0, 0)) (fun (b9 : Nat) =>
  callT Tryz.prog 105 [.slice (some ⟨b9, 0, none⟩) 5 5] kI (fun (x10 : Int) =>
  brW ((x10 : Int) != 0)
  (K (.int .i64 x10))
  (ptrW t_1 (fun (b11 o12 : Nat) =>
  rdT (rdC b11 (o12 + 4)) kM (fun (x13 : Option Nat) =>
  rdT (rdM (.int .i64) (.pointer none) false x13 (.int .i64 dir_2)) kP (fun (x14 : Option Addr) =>
  ptrW x14 (fun (b15 o16 : Nat) =>
  rdT (rdC b15 (o16 + 5)) kM (fun (x17 : Option Nat) =>
  muW Tryz.prog 140 (.map x17) (.string name_3) (.int .i64 ino_4) (ptrW t_1 (fun (b18 o19 : Nat) =>
  rdT (rdC b18 (o19 + 4)) kM (fun (x20 : Option Nat) =>
  rdT (rdM (.int .i64) (.pointer none) false x20 (.int .i64 ino_4)) kP (fun (x21 : Option Addr) =>
  ptrW x21 (fun (b22 o23 : Nat) =>
  rdT (rdC b22 (o23 + 3)) kI (fun (x24 : Int) =>
  ptrW x21 (fun (b25 o26 : Nat) =>
  stW Tryz.prog 3 (.pointer (some ⟨b25, o26 + 3, none⟩)) (.int .i64 (IntKind.i64.wrap (x24 + 1))) (K (.int .i64 0)))))))))))))))))))))))))
theorem e71 (t_1 : Option Addr) (dir_2 : Int) (name_3 : ByteArray) (ino_4 : Int) (K : Value → H → Prop) : bodyF Tryz.prog tau Tryz.f71 an71 [.pointer t_1, .int .i64 dir_2, .string name_3, .int .i64 ino_4] K = g71 t_1 dir_2 name_3 ino_4 K := by kernel_rfl
theorem c71 (t_1 : Option Addr) (dir_2 : Int) (name_3 : ByteArray) (ino_4 : Int) {K : Value → H → Prop} {σ : H} (h : g71 t_1 dir_2 name_3 ino_4 K σ) : callW Tryz.prog 71 [.pointer t_1, .int .i64 dir_2, .string name_3, .int .i64 ino_4] K σ := call_of_body mixed Tryz.func71 (by rw [e71]; exact h)


/-- (*whisk/fs.Fs).with -/
def an72 : Ann := (.seq none (.reg [] []) (.seq none (.reg [] []) (.seq none (.seq none (.reg [] []) (.cond (.seq none (.reg [] []) .leaf) .leaf)) (.seq none (.reg [0, 1, 2, 3, 4, 5, 6, 7, 8, 9, 10, 11, 12] [[], [0], [0, 1], [0, 1, 2], [], [4], [0, 1, 2, 3, 4, 5], [0, 1, 2, 3, 4, 5, 6], [0, 1, 2, 3, 4, 5, 6, 7], [0, 1, 2, 3, 4, 5, 6, 7], [], [0, 1, 2, 3, 4, 5, 6, 7, 8, 10], [0, 1, 2, 3, 4, 5, 6, 7, 8, 9, 10, 11]]) (.seq none (.seq (some [(4, .sc .raw), (11, .sc .ptr), (13, .sc .ptr), (42, .sc .bool)]) (.reg [] []) (.cond (.seq none (.reg [] []) .leaf) .leaf)) (.seq none (.reg [] []) .leaf))))))
def g72 (f_1 : Option Addr) (cwd_2 : ByteArray) (path_3 : ByteArray) (follow_4 : Bool) (do_5 : Value) (K : Value → H → Prop) : H → Prop :=
  callT Tryz.prog 62 [.pointer f_1, .string cwd_2, .string path_3, .bool follow_4] (.tup [.agg [(.int .i64), .str, (.int .i64), .bool], .sc (.int .i64)]) (fun (x6 : Int) (x7 : ByteArray) (x8 : Int) (x9 : Bool) (x10 : Int) =>
  alW (.cells ⟨[.int .i64 0, .string (⟨⟨[]⟩⟩ : ByteArray), .int .i64 0, .bool false]⟩ 86 (0, 0)) (fun (b11 : Nat) =>
  stW Tryz.prog 86 (.pointer (some ⟨b11, 0, none⟩)) (.agg ⟨[.int .i64 x6, .string x7, .int .i64 x8, .bool x9]⟩) (brW ((x10 : Int) != 0)
  (K (.int .i64 x10))
  (ptrW f_1 (fun (b12 o13 : Nat) =>
  rdT (rdC b12 o13) kP (fun (x14 : Option Addr) =>
  rdT (rdC b11 2) kI (fun (x15 : Int) =>
  callT Tryz.prog 63 [.pointer x14, .int .i64 x15] (.tup [.agg [(.int .i64), (.int .i64), .str, (.int .i64)], .sc .bool]) (fun (x16 : Int) (x17 : Int) (x18 : ByteArray) (x19 : Int) (x20 : Bool) =>
  alW (.cells ⟨[.int .i64 0, .int .i64 0, .string (⟨⟨[]⟩⟩ : ByteArray), .int .i64 0]⟩ 54 (0, 0)) (fun (b21 : Nat) =>
  stW Tryz.prog 54 (.pointer (some ⟨b21, 0, none⟩)) (.agg ⟨[.int .i64 x16, .int .i64 x17, .string x18, .int .i64 x19]⟩) (letJ (T := Value → Option Addr → Option Addr → Bool → H → Prop) (fun (do_23 : Value) (p_24 : Option Addr) (n_25 : Option Addr) (x26 : Bool) =>
  brW x26
  (K (.int .i64 5))
  (ptrW p_24 (fun (b27 o28 : Nat) =>
  rdT (rdC b27 (o28 + 2)) kI (fun (x29 : Int) =>
  ptrW n_25 (fun (b30 o31 : Nat) =>
  rdT (rdA 4 b30 o31) (.one (.agg [(.int .i64), (.int .i64), .str, (.int .i64)])) (fun (x32 : Int) (x33 : Int) (x34 : ByteArray) (x35 : Int) =>
  cvalT Tryz.prog do_23 [.int .i64 x29, .agg ⟨[.int .i64 x32, .int .i64 x33, .string x34, .int .i64 x35]⟩] kI (fun (x36 : Int) =>
  K (.int .i64 x36)))))))) (fun j22 =>
  rdT (rdC b11 3) kB (fun (x37 : Bool) =>
  brW (!x37)
  (j22 do_5 (some ⟨b11, 0, none⟩) (some ⟨b21, 0, none⟩) true)
  (j22 do_5 (some ⟨b11, 0, none⟩) (some ⟨b21, 0, none⟩) (!x20))))))))))))))
theorem e72 (f_1 : Option Addr) (cwd_2 : ByteArray) (path_3 : ByteArray) (follow_4 : Bool) (do_5 : Value) (K : Value → H → Prop) : bodyF Tryz.prog tau Tryz.f72 an72 [.pointer f_1, .string cwd_2, .string path_3, .bool follow_4, do_5] K = g72 f_1 cwd_2 path_3 follow_4 do_5 K := by kernel_rfl
theorem c72 (f_1 : Option Addr) (cwd_2 : ByteArray) (path_3 : ByteArray) (follow_4 : Bool) (do_5 : Value) {K : Value → H → Prop} {σ : H} (h : g72 f_1 cwd_2 path_3 follow_4 do_5 K σ) : callW Tryz.prog 72 [.pointer f_1, .string cwd_2, .string path_3, .bool follow_4, do_5] K σ := call_of_body mixed Tryz.func72 (by rw [e72]; exact h)


/-- (*whisk/fs.Fs).Chmod$1 -/
def an73 : Ann := (.seq none (.reg [] []) (.seq none (.reg [0, 1, 2, 3, 4, 5, 6, 7] [[], [0], [0, 1], [0, 1, 2], [], [], [0, 1, 2, 3, 4, 5], [0, 1, 2, 3, 4, 5, 6]]) .leaf))
def g73 (ino_1 : Int) (__2 : Int) (__3 : Int) (__4 : ByteArray) (__5 : Int) (x6 : Option Addr) (x7 : Option Addr) (K : Value → H → Prop) : H → Prop :=
  alW (.cells ⟨[.int .i64 __2, .int .i64 __3, .string __4, .int .i64 __5]⟩ 54 (0, 0)) (fun (_b8 : Nat) =>
  ptrW x6 (fun (b9 o10 : Nat) =>
  rdT (rdC b9 o10) kP (fun (x11 : Option Addr) =>
  ptrW x11 (fun (b12 o13 : Nat) =>
  rdT (rdC b12 o13) kP (fun (x14 : Option Addr) =>
  ptrW x7 (fun (b15 o16 : Nat) =>
  rdT (rdC b15 o16) kI (fun (x17 : Int) =>
  callT Tryz.prog 74 [.pointer x14, .int .i64 ino_1, .int .i64 x17] kI (fun (x18 : Int) =>
  K (.int .i64 x18)))))))))
theorem e73 (ino_1 : Int) (__2 : Int) (__3 : Int) (__4 : ByteArray) (__5 : Int) (x6 : Option Addr) (x7 : Option Addr) (K : Value → H → Prop) : bodyF Tryz.prog tau Tryz.f73 an73 [.int .i64 ino_1, .agg ⟨[.int .i64 __2, .int .i64 __3, .string __4, .int .i64 __5]⟩, .pointer x6, .pointer x7] K = g73 ino_1 __2 __3 __4 __5 x6 x7 K := by kernel_rfl
theorem c73 (ino_1 : Int) (__2 : Int) (__3 : Int) (__4 : ByteArray) (__5 : Int) (x6 : Option Addr) (x7 : Option Addr) {K : Value → H → Prop} {σ : H} (h : g73 ino_1 __2 __3 __4 __5 x6 x7 K σ) : callW Tryz.prog 73 [.int .i64 ino_1, .agg ⟨[.int .i64 __2, .int .i64 __3, .string __4, .int .i64 __5]⟩, .pointer x6, .pointer x7] K σ := call_of_body mixed Tryz.func73 (by rw [e73]; exact h)

end Go.Proofs.YtlpcehbfoogejaaGreatDoor

set_option maxRecDepth 100000
namespace Go.Proofs.YtlpcehbfoogejaaGreatDoor
open Go Go.HL
/-- (*whisk/inode.Table).Chmod -/
def an74 : Ann := (.seq none (.reg [] []) (.seq none (.reg [] []) (.seq none (.reg [] []) (.seq none (.seq none (.reg [] []) (.seq none (.reg [] []) (.cond (.seq none (.reg [] []) .leaf) .leaf))) (.seq none (.reg [0, 1, 2, 3, 4, 5, 6, 7, 8, 9, 10] [[], [0], [0, 1], [0, 1, 2], [], [0, 1, 2, 3, 4], [], [0, 1, 2, 3, 4, 5, 6], [0, 1, 2, 3, 4, 5, 6, 7], [0, 1, 2, 3, 4, 5, 6, 7, 8], [0, 1, 2, 3, 4, 5, 6, 7, 8, 9]]) (.seq none (.reg [] []) .leaf))))))
def g74 (t_1 : Option Addr) (ino_2 : Int) (mode_3 : Int) (K : Value → H → Prop) : H → Prop :=
  alW (.cells ⟨[.pointer t_1]⟩ 80 (0, 0)) (fun (b4 : Nat) =>
  alW (.cells ⟨[.int .i64 ino_2]⟩ 3 (0, 0)) (fun (b5 : Nat) =>
  alW (.cells ⟨[.int .i64 mode_3]⟩ 3 (0, 0)) (fun (b6 : Nat) =>
  rdT (rdC b4 0) kP (fun (x7 : Option Addr) =>
  alW (.cells ⟨[.func (.func 106) ⟨[.pointer x7]⟩ ⟨[]⟩, .func (.func 123) ⟨[]⟩ ⟨[.pointer (some ⟨b6, 0, none⟩)]⟩, .func (.func 124) ⟨[]⟩ ⟨[.pointer (some ⟨b4, 0, none⟩), .pointer (some ⟨b5, 0, none⟩)]⟩]⟩ 148 (0, 0)) (fun (b8 : Nat) =>
  callT Tryz.prog 105 [.slice (some ⟨b8, 0, none⟩) 3 3] kI (fun (x9 : Int) =>
  brW ((x9 : Int) != 0)
  (K (.int .i64 x9))
  (rdT (rdC b4 0) kP (fun (x10 : Option Addr) =>
  ptrW x10 (fun (b11 o12 : Nat) =>
  rdT (rdC b11 (o12 + 4)) kM (fun (x13 : Option Nat) =>
  rdT (rdC b5 0) kI (fun (x14 : Int) =>
  rdT (rdM (.int .i64) (.pointer none) false x13 (.int .i64 x14)) kP (fun (x15 : Option Addr) =>
  rdT (rdC b6 0) kI (fun (x16 : Int) =>
  ptrW x15 (fun (b17 o18 : Nat) =>
  stW Tryz.prog 3 (.pointer (some ⟨b17, o18 + 1, none⟩)) (.int .i64 x16) (K (.int .i64 0))))))))))))))))
theorem e74 (t_1 : Option Addr) (ino_2 : Int) (mode_3 : Int) (K : Value → H → Prop) : bodyF Tryz.prog tau Tryz.f74 an74 [.pointer t_1, .int .i64 ino_2, .int .i64 mode_3] K = g74 t_1 ino_2 mode_3 K := by kernel_rfl
theorem c74 (t_1 : Option Addr) (ino_2 : Int) (mode_3 : Int) {K : Value → H → Prop} {σ : H} (h : g74 t_1 ino_2 mode_3 K σ) : callW Tryz.prog 74 [.pointer t_1, .int .i64 ino_2, .int .i64 mode_3] K σ := call_of_body mixed Tryz.func74 (by rw [e74]; exact h)


/-- (whisk/canon.taker).at -/
def an75 : Ann := (.seq none (.reg [] []) (.seq none (.reg [] []) (.seq none (.seq none (.reg [] []) (.cond (.seq none (.reg [] []) .leaf) .leaf)) (.seq none (.reg [] []) (.seq none (.reg [] []) (.seq (some [(4, .sc .ptr), (7, .sc (.int .i64)), (8, .sc .ptr)]) (.seq none (.reg [] []) (.cond (.reg [] []) .leaf)) (.seq none (.reg [] []) .leaf)))))))
def g75 (t_1 : Option Addr) (path_2 : ByteArray) (K : Value → H → Prop) : H → Prop :=
  alW (.cells ⟨[.pointer t_1]⟩ 110 (0, 0)) (fun (b3 : Nat) =>
  alW (.cells ⟨[.string path_2]⟩ 9 (0, 0)) (fun (b4 : Nat) =>
  alW (.cells ⟨[.string (⟨⟨[]⟩⟩ : ByteArray), .int .i64 0, .bool false, .string (⟨⟨[]⟩⟩ : ByteArray), .slice none 0 0]⟩ 24 (0, 0)) (fun (b5 : Nat) =>
  rdT (rdC b3 0) kP (fun (x6 : Option Addr) =>
  rdT (rdC b4 0) kS (fun (x7 : ByteArray) =>
  callT Tryz.prog 32 [.pointer x6, .string (⟨⟨[47]⟩⟩ : ByteArray), .string x7, .bool false] (.tup [.agg [(.int .i64), (.int .i64), .str, (.int .i64)], .sc (.int .i64)]) (fun (x8 : Int) (x9 : Int) (x10 : ByteArray) (x11 : Int) (x12 : Int) =>
  alW (.cells ⟨[.int .i64 0, .int .i64 0, .string (⟨⟨[]⟩⟩ : ByteArray), .int .i64 0]⟩ 54 (0, 0)) (fun (b13 : Nat) =>
  stW Tryz.prog 54 (.pointer (some ⟨b13, 0, none⟩)) (.agg ⟨[.int .i64 x8, .int .i64 x9, .string x10, .int .i64 x11]⟩) (brW ((x12 : Int) != 0)
  (stW Tryz.prog 24 (.pointer (some ⟨b5, 0, none⟩)) (.agg ⟨[.string (⟨⟨[]⟩⟩ : ByteArray), .int .i64 0, .bool false, .string (⟨⟨[]⟩⟩ : ByteArray), .slice none 0 0]⟩) (rdT (rdA 5 b5 0) (.one (.agg [.str, (.int .i64), .bool, .str, .slc])) (fun (r14 : ByteArray) (r15 : Int) (r16 : Bool) (r17 : ByteArray) (r18 : Sl) =>
  K (.tuple ⟨[.agg ⟨[.string r14, .int .i64 r15, .bool r16, .string r17, .slice r18.base r18.len r18.cap]⟩, .int .i64 x12]⟩))))
  (rdT (rdC b13 0) kI (fun (x19 : Int) =>
  rdT (rdC b13 2) kS (fun (x20 : ByteArray) =>
  alW (.cells ⟨[.string (⟨⟨[]⟩⟩ : ByteArray), .int .i64 0, .bool false, .string (⟨⟨[]⟩⟩ : ByteArray), .slice none 0 0]⟩ 24 (0, 0)) (fun (b21 : Nat) =>
  stW Tryz.prog 24 (.pointer (some ⟨b21, 0, none⟩)) (.agg ⟨[.string (⟨⟨[]⟩⟩ : ByteArray), .int .i64 x19, .bool false, .string x20, .slice none 0 0]⟩) (alW (.map #[] 0) (fun (b22 : Nat) =>
  muW Tryz.prog 165 (.map (some b22)) (.int .i64 1) (.func (.func 125) ⟨[]⟩ ⟨[.pointer (some ⟨b13, 0, none⟩), .pointer (some ⟨b21, 0, none⟩)]⟩) (muW Tryz.prog 165 (.map (some b22)) (.int .i64 2) (.func (.func 126) ⟨[]⟩ ⟨[.pointer (some ⟨b3, 0, none⟩), .pointer (some ⟨b4, 0, none⟩), .pointer (some ⟨b21, 0, none⟩)]⟩) (rdT (rdC b13 0) kI (fun (x23 : Int) =>
  rdT (rdM (.int .i64) (.nilFunc) true (some b22) (.int .i64 x23)) (.tup [.sc .raw, .sc .bool]) (fun (x24 : Value) (x25 : Bool) =>
  letJ (T := Option Addr → Int → Option Addr → H → Prop) (fun (x27 : Option Addr) (e_28 : Int) (n_29 : Option Addr) =>
  ptrW n_29 (fun (b30 o31 : Nat) =>
  rdT (rdA 5 b30 o31) (.one (.agg [.str, (.int .i64), .bool, .str, .slc])) (fun (x32 : ByteArray) (x33 : Int) (x34 : Bool) (x35 : ByteArray) (x36 : Sl) =>
  stW Tryz.prog 24 (.pointer x27) (.agg ⟨[.string x32, .int .i64 x33, .bool x34, .string x35, .slice x36.base x36.len x36.cap]⟩) (ptrW x27 (fun (b37 o38 : Nat) =>
  rdT (rdA 5 b37 o38) (.one (.agg [.str, (.int .i64), .bool, .str, .slc])) (fun (r39 : ByteArray) (r40 : Int) (r41 : Bool) (r42 : ByteArray) (r43 : Sl) =>
  K (.tuple ⟨[.agg ⟨[.string r39, .int .i64 r40, .bool r41, .string r42, .slice r43.base r43.len r43.cap]⟩, .int .i64 e_28]⟩))))))) (fun j26 =>
  brW x25
  (cvalT Tryz.prog x24 [] kI (fun (x44 : Int) =>
  j26 (some ⟨b5, 0, none⟩) x44 (some ⟨b21, 0, none⟩)))
  (j26 (some ⟨b5, 0, none⟩) x12 (some ⟨b21, 0, none⟩)))))))))))))))))))))
theorem e75 (t_1 : Option Addr) (path_2 : ByteArray) (K : Value → H → Prop) : bodyF Tryz.prog tau Tryz.f75 an75 [.agg ⟨[.pointer t_1]⟩, .string path_2] K = g75 t_1 path_2 K := by kernel_rfl
theorem c75 (t_1 : Option Addr) (path_2 : ByteArray) {K : Value → H → Prop} {σ : H} (h : g75 t_1 path_2 K σ) : callW Tryz.prog 75 [.agg ⟨[.pointer t_1]⟩, .string path_2] K σ := call_of_body mixed Tryz.func75 (by rw [e75]; exact h)


/-- whisk/tree.tooDeep -/
def an76 : Ann := (.seq none (.reg [] []) (.seq none (.reg [] []) .leaf))
def g76 (n_1 : ByteArray) (n_2 : Int) (n_3 : Bool) (n_4 : ByteArray) (n_5 : Sl) (K : Value → H → Prop) : H → Prop :=
  alW (.cells ⟨[.string n_1, .int .i64 n_2, .bool n_3, .string n_4, .slice n_5.base n_5.len n_5.cap]⟩ 24 (0, 0)) (fun (b6 : Nat) =>
  rdT (rdA 5 b6 0) (.one (.agg [.str, (.int .i64), .bool, .str, .slc])) (fun (x7 : ByteArray) (x8 : Int) (x9 : Bool) (x10 : ByteArray) (x11 : Sl) =>
  callT Tryz.prog 128 [.agg ⟨[.string x7, .int .i64 x8, .bool x9, .string x10, .slice x11.base x11.len x11.cap]⟩] kI (fun (x12 : Int) =>
  K (.bool (decide ((x12 : Int) > 12))))))
theorem e76 (n_1 : ByteArray) (n_2 : Int) (n_3 : Bool) (n_4 : ByteArray) (n_5 : Sl) (K : Value → H → Prop) : bodyF Tryz.prog tau Tryz.f76 an76 [.agg ⟨[.string n_1, .int .i64 n_2, .bool n_3, .string n_4, .slice n_5.base n_5.len n_5.cap]⟩] K = g76 n_1 n_2 n_3 n_4 n_5 K := by kernel_rfl
theorem c76 (n_1 : ByteArray) (n_2 : Int) (n_3 : Bool) (n_4 : ByteArray) (n_5 : Sl) {K : Value → H → Prop} {σ : H} (h : g76 n_1 n_2 n_3 n_4 n_5 K σ) : callW Tryz.prog 76 [.agg ⟨[.string n_1, .int .i64 n_2, .bool n_3, .string n_4, .slice n_5.base n_5.len n_5.cap]⟩] K σ := call_of_body mixed Tryz.func76 (by rw [e76]; exact h)


/-- slices.EqualFunc   whisk/api.Node   whisk/api.Node whisk/api.Node whisk/api.Node  -/
def an77 : Ann := (.seq none (.reg [] []) (.seq none (.seq none (.reg [] []) (.cond (.seq none (.reg [] []) .leaf) .leaf)) (.seq none (.seq none (.reg [] []) (.blk (.loop [(1, .sc .slc), (2, .sc .raw), (15, .sc .slc), (16, .sc (.int .i64)), (17, .sc (.int .i64))] (.seq none (.reg [] []) (.seq none (.cond .leaf .leaf) (.seq none (.blk (.seq none (.reg [] []) (.seq none (.reg [] []) (.seq none (.reg [] []) (.cond (.seq none (.reg [] []) .leaf) .leaf))))) (.reg [] []))))))) (.seq none (.reg [] []) .leaf))))
def g77 (s1_1 : Sl) (s2_2 : Sl) (eq_3 : Value) (K : Value → H → Prop) : H → Prop :=
  brW ((((s1_1.len : Nat) : Int) : Int) != ((s2_2.len : Nat) : Int))
  (K (.bool false))
  (loopW [.sc .slc, .sc .raw, .sc .slc, .sc (.int .i64), .sc (.int .i64)] (fun (R4 : Sl → Value → Sl → Int → Int → H → Prop) => (fun (s2_5 : Sl) (eq_6 : Value) (x7 : Sl) (x8 : Int) (x9 : Int) =>
  brW (decide ((x9 : Int) < x8))
  (ptrW x7.base (fun (b10 o11 : Nat) =>
  ifW (0 ≤ x9 ∧ x9 < ((x7.len : Nat) : Int))
  (rdT (rdA 5 b10 (o11 + x9.toNat * 5)) (.one (.agg [.str, (.int .i64), .bool, .str, .slc])) (fun (x12 : ByteArray) (x13 : Int) (x14 : Bool) (x15 : ByteArray) (x16 : Sl) =>
  alW (.cells ⟨[.string (⟨⟨[]⟩⟩ : ByteArray), .int .i64 0, .bool false, .string (⟨⟨[]⟩⟩ : ByteArray), .slice none 0 0]⟩ 24 (0, 0)) (fun (b17 : Nat) =>
  stW Tryz.prog 24 (.pointer (some ⟨b17, 0, none⟩)) (.agg ⟨[.string x12, .int .i64 x13, .bool x14, .string x15, .slice x16.base x16.len x16.cap]⟩) (ptrW s2_5.base (fun (b18 o19 : Nat) =>
  ifW (0 ≤ x9 ∧ x9 < ((s2_5.len : Nat) : Int))
  (rdT (rdA 5 b18 (o19 + x9.toNat * 5)) (.one (.agg [.str, (.int .i64), .bool, .str, .slc])) (fun (x20 : ByteArray) (x21 : Int) (x22 : Bool) (x23 : ByteArray) (x24 : Sl) =>
  alW (.cells ⟨[.string (⟨⟨[]⟩⟩ : ByteArray), .int .i64 0, .bool false, .string (⟨⟨[]⟩⟩ : ByteArray), .slice none 0 0]⟩ 24 (0, 0)) (fun (b25 : Nat) =>
  stW Tryz.prog 24 (.pointer (some ⟨b25, 0, none⟩)) (.agg ⟨[.string x20, .int .i64 x21, .bool x22, .string x23, .slice x24.base x24.len x24.cap]⟩) (rdT (rdA 5 b17 0) (.one (.agg [.str, (.int .i64), .bool, .str, .slc])) (fun (x26 : ByteArray) (x27 : Int) (x28 : Bool) (x29 : ByteArray) (x30 : Sl) =>
  rdT (rdA 5 b25 0) (.one (.agg [.str, (.int .i64), .bool, .str, .slc])) (fun (x31 : ByteArray) (x32 : Int) (x33 : Bool) (x34 : ByteArray) (x35 : Sl) =>
  cvalT Tryz.prog eq_6 [.agg ⟨[.string x26, .int .i64 x27, .bool x28, .string x29, .slice x30.base x30.len x30.cap]⟩, .agg ⟨[.string x31, .int .i64 x32, .bool x33, .string x34, .slice x35.base x35.len x35.cap]⟩] kB (fun (x36 : Bool) =>
  brW (!x36)
  (K (.bool false))
  (R4 s2_5 eq_6 x7 x8 (IntKind.i64.wrap (x9 + 1)))))))))))))))))
  (K (.bool true)))) (fun (R37 : Sl → Value → Sl → Int → Int → H → Prop) => R37 s2_2 eq_3 s1_1 ((s1_1.len : Nat) : Int) 0))
theorem e77 (s1_1 : Sl) (s2_2 : Sl) (eq_3 : Value) (K : Value → H → Prop) : bodyF Tryz.prog tau Tryz.f77 an77 [.slice s1_1.base s1_1.len s1_1.cap, .slice s2_2.base s2_2.len s2_2.cap, eq_3] K = g77 s1_1 s2_2 eq_3 K := by kernel_rfl
theorem c77 (s1_1 : Sl) (s2_2 : Sl) (eq_3 : Value) {K : Value → H → Prop} {σ : H} (h : g77 s1_1 s2_2 eq_3 K σ) : callW Tryz.prog 77 [.slice s1_1.base s1_1.len s1_1.cap, .slice s2_2.base s2_2.len s2_2.cap, eq_3] K σ := call_of_body mixed Tryz.func77 (by rw [e77]; exact h)


/-- (*whisk/fs.Fs).Stat$1 -/
def an79 : Ann := (.seq none (.reg [] []) (.seq none (.reg [] []) (.seq none (.reg [] []) .leaf)))
def g79 (__1 : Int) (n_2 : Int) (n_3 : Int) (n_4 : ByteArray) (n_5 : Int) (x6 : Option Addr) (K : Value → H → Prop) : H → Prop :=
  alW (.cells ⟨[.int .i64 n_2, .int .i64 n_3, .string n_4, .int .i64 n_5]⟩ 54 (0, 0)) (fun (b7 : Nat) =>
  rdT (rdA 4 b7 0) (.one (.agg [(.int .i64), (.int .i64), .str, (.int .i64)])) (fun (x8 : Int) (x9 : Int) (x10 : ByteArray) (x11 : Int) =>
  stW Tryz.prog 54 (.pointer x6) (.agg ⟨[.int .i64 x8, .int .i64 x9, .string x10, .int .i64 x11]⟩) (K (.int .i64 0))))
theorem e79 (__1 : Int) (n_2 : Int) (n_3 : Int) (n_4 : ByteArray) (n_5 : Int) (x6 : Option Addr) (K : Value → H → Prop) : bodyF Tryz.prog tau Tryz.f79 an79 [.int .i64 __1, .agg ⟨[.int .i64 n_2, .int .i64 n_3, .string n_4, .int .i64 n_5]⟩, .pointer x6] K = g79 __1 n_2 n_3 n_4 n_5 x6 K := by kernel_rfl
theorem c79 (__1 : Int) (n_2 : Int) (n_3 : Int) (n_4 : ByteArray) (n_5 : Int) (x6 : Option Addr) {K : Value → H → Prop} {σ : H} (h : g79 __1 n_2 n_3 n_4 n_5 x6 K σ) : callW Tryz.prog 79 [.int .i64 __1, .agg ⟨[.int .i64 n_2, .int .i64 n_3, .string n_4, .int .i64 n_5]⟩, .pointer x6] K σ := call_of_body mixed Tryz.func79 (by rw [e79]; exact h)


/-- (*whisk/fs.Fs).over -/
def an80 : Ann := (.seq none (.reg [] []) (.seq none (.reg [0, 1, 2, 5, 6, 7, 3, 4, 8, 9, 10, 11] [[], [], [1], [0, 1, 2], [0, 1, 2, 3], [], [], [6], [0, 1, 2, 3, 5, 6, 7], [0, 1, 2, 3, 5, 6, 7, 8], [0, 1, 2, 3, 4, 5, 6, 7, 8], [0, 1, 2, 3, 4, 5, 6, 7, 8, 9, 10]]) (.seq (some [(0, .sc .ptr), (4, .sc .ptr), (5, .sc .ptr), (7, .sc .bool)]) (.blk (.seq none (.reg [] []) (.cond .leaf (.seq (some [(0, .sc .ptr), (4, .sc .ptr), (5, .sc .ptr), (7, .sc .bool), (8, .sc .bool), (23, .sc .bool)]) (.reg [] []) (.cond (.seq none (.reg [] []) .leaf) (.seq (some [(0, .sc .ptr), (4, .sc .ptr), (5, .sc .ptr), (7, .sc .bool), (29, .sc .bool)]) (.reg [] []) (.cond (.seq none (.reg [] []) .leaf) (.seq none (.reg [0, 1, 2, 3, 4, 5, 6, 7, 8, 9] [[], [0], [0, 1], [0, 1, 2], [], [4], [0, 1, 2, 3, 4, 5], [0, 1, 2, 3, 4, 5, 6], [0, 1, 2, 3, 4, 5, 6, 7], [0, 1, 2, 3, 4, 5, 6, 7, 8]]) (.cond (.seq none (.reg [] []) .leaf) .leaf))))))))) (.seq none (.seq (some [(0, .sc .ptr), (4, .sc .ptr), (5, .sc .ptr), (53, .sc .bool)]) (.reg [] []) (.cond (.seq none (.reg [] []) .leaf) .leaf)) (.seq none (.seq none (.reg [0, 1, 2, 4, 5, 6, 3, 7, 8, 9] [[], [], [1], [0, 1, 2], [], [], [5], [0, 1, 2, 3, 4, 5, 6], [0, 1, 2, 3, 4, 5, 6, 7], [0, 1, 2, 3, 4, 5, 6, 7, 8]]) (.cond (.seq none (.reg [] []) .leaf) .leaf)) (.seq none (.reg [] []) .leaf))))))
def g80 (f_1 : Option Addr) (p_2 : Int) (p_3 : ByteArray) (p_4 : Int) (p_5 : Bool) (q_6 : Int) (q_7 : ByteArray) (q_8 : Int) (q_9 : Bool) (K : Value → H → Prop) : H → Prop :=
  alW (.cells ⟨[.int .i64 p_2, .string p_3, .int .i64 p_4, .bool p_5]⟩ 86 (0, 0)) (fun (b10 : Nat) =>
  alW (.cells ⟨[.int .i64 q_6, .string q_7, .int .i64 q_8, .bool q_9]⟩ 86 (0, 0)) (fun (b11 : Nat) =>
  rdT (rdC b10 2) kI (fun (x12 : Int) =>
  rdT (rdC b11 2) kI (fun (x13 : Int) =>
  callT Tryz.prog 70 [.pointer f_1, .int .i64 x12] kI (fun (x14 : Int) =>
  andW (fun σ => (rdC b11 2) σ = some (.int .i64 x13))
  (callT Tryz.prog 70 [.pointer f_1, .int .i64 x13] kI (fun (x15 : Int) =>
  letJ (T := Option Addr → Option Addr → Option Addr → Bool → H → Prop) (fun (f_17 : Option Addr) (p_18 : Option Addr) (q_19 : Option Addr) (is_20 : Bool) =>
  letJ (T := Option Addr → Option Addr → Option Addr → Bool → H → Prop) (fun (f_22 : Option Addr) (p_23 : Option Addr) (q_24 : Option Addr) (x25 : Bool) =>
  brW x25
  (K (.int .i64 2))
  (ptrW q_24 (fun (b26 o27 : Nat) =>
  rdT (rdC b26 o27) kI (fun (x28 : Int) =>
  ptrW p_23 (fun (b29 o30 : Nat) =>
  rdT (rdC b29 (o30 + 2)) kI (fun (x31 : Int) =>
  callT Tryz.prog 52 [.pointer f_22, .int .i64 x28] kI (fun (x32 : Int) =>
  andW (fun σ => (rdC b29 (o30 + 2)) σ = some (.int .i64 x31))
  (callT Tryz.prog 133 [.pointer f_22, .int .i64 x31] kI (fun (x33 : Int) =>
  brW (decide (((IntKind.i64.wrap (x32 + x33)) : Int) > 12))
  (K (.int .i64 3))
  (K (.int .i64 0))))))))))) (fun j21 =>
  brW is_20
  (ptrW q_19 (fun (b34 o35 : Nat) =>
  rdT (rdC b34 o35) kI (fun (x36 : Int) =>
  ptrW p_18 (fun (b37 o38 : Nat) =>
  rdT (rdC b37 (o38 + 2)) kI (fun (x39 : Int) =>
  callT Tryz.prog 132 [.pointer f_17, .int .i64 x36, .int .i64 x39] kB (fun (x40 : Bool) =>
  j21 f_17 p_18 q_19 x40))))))
  (j21 f_17 p_18 q_19 false))) (fun j16 =>
  rdT (rdC b11 3) kB (fun (x41 : Bool) =>
  brW (!x41)
  (j16 f_1 (some ⟨b10, 0, none⟩) (some ⟨b11, 0, none⟩) ((x14 : Int) == 2))
  (letJ (T := Option Addr → Option Addr → Option Addr → Bool → Bool → Bool → H → Prop) (fun (f_43 : Option Addr) (p_44 : Option Addr) (q_45 : Option Addr) (is_46 : Bool) (other_47 : Bool) (x48 : Bool) =>
  brW x48
  (K (.int .i64 7))
  (letJ (T := Option Addr → Option Addr → Option Addr → Bool → Bool → H → Prop) (fun (f_50 : Option Addr) (p_51 : Option Addr) (q_52 : Option Addr) (is_53 : Bool) (x54 : Bool) =>
  brW x54
  (K (.int .i64 8))
  (ptrW f_50 (fun (b55 o56 : Nat) =>
  rdT (rdC b55 o56) kP (fun (x57 : Option Addr) =>
  ptrW q_52 (fun (b58 o59 : Nat) =>
  rdT (rdC b58 (o59 + 2)) kI (fun (x60 : Int) =>
  callT Tryz.prog 67 [.pointer x57, .int .i64 x60] kL (fun (x61 : Sl) =>
  brW (decide ((((x61.len : Nat) : Int) : Int) > 0))
  (K (.int .i64 20))
  (j16 f_50 p_51 q_52 is_53)))))))) (fun j49 =>
  brW is_46
  (j49 f_43 p_44 q_45 is_46 (!other_47))
  (j49 f_43 p_44 q_45 is_46 false)))) (fun j42 =>
  brW ((x15 : Int) == 2)
  (j42 f_1 (some ⟨b10, 0, none⟩) (some ⟨b11, 0, none⟩) ((x14 : Int) == 2) ((x15 : Int) == 2) (!((x14 : Int) == 2)))
  (j42 f_1 (some ⟨b10, 0, none⟩) (some ⟨b11, 0, none⟩) ((x14 : Int) == 2) ((x15 : Int) == 2) false))))))))))))
theorem e80 (f_1 : Option Addr) (p_2 : Int) (p_3 : ByteArray) (p_4 : Int) (p_5 : Bool) (q_6 : Int) (q_7 : ByteArray) (q_8 : Int) (q_9 : Bool) (K : Value → H → Prop) : bodyF Tryz.prog tau Tryz.f80 an80 [.pointer f_1, .agg ⟨[.int .i64 p_2, .string p_3, .int .i64 p_4, .bool p_5]⟩, .agg ⟨[.int .i64 q_6, .string q_7, .int .i64 q_8, .bool q_9]⟩] K = g80 f_1 p_2 p_3 p_4 p_5 q_6 q_7 q_8 q_9 K := by kernel_rfl
theorem c80 (f_1 : Option Addr) (p_2 : Int) (p_3 : ByteArray) (p_4 : Int) (p_5 : Bool) (q_6 : Int) (q_7 : ByteArray) (q_8 : Int) (q_9 : Bool) {K : Value → H → Prop} {σ : H} (h : g80 f_1 p_2 p_3 p_4 p_5 q_6 q_7 q_8 q_9 K σ) : callW Tryz.prog 80 [.pointer f_1, .agg ⟨[.int .i64 p_2, .string p_3, .int .i64 p_4, .bool p_5]⟩, .agg ⟨[.int .i64 q_6, .string q_7, .int .i64 q_8, .bool q_9]⟩] K σ := call_of_body mixed Tryz.func80 (by rw [e80]; exact h)


/-- (*whisk/inode.Table).Move -/
def an81 : Ann := (.seq none (.reg [] []) (.seq none (.reg [0, 1, 2, 3, 5, 6, 8, 10, 4, 7, 9, 11, 12, 13, 14, 15, 16] [[], [0], [], [], [2, 3], [], [], [2, 3, 4, 5, 6], [], [2, 3, 4, 5, 6, 7, 8], [], [], [], [2, 3, 4, 5, 6, 7, 8, 9, 10, 11, 12], [0, 1, 2, 3, 4, 5, 6, 7, 8, 9, 10, 11, 12, 13], [0, 1, 2, 3, 4, 5, 6, 7, 8, 9, 10, 11, 12, 13, 14], [0, 1, 2, 3, 4, 5, 6, 7, 8, 9, 10, 11, 12, 13, 14, 15]]) (.seq none (.seq (some [(1, .sc (.int .i64)), (2, .sc .str), (4, .sc .str), (5, .sc .ptr), (8, .sc .ptr), (11, .sc (.int .i64)), (44, .sc .bool)]) (.reg [] []) (.cond (.seq none (.reg [] []) .leaf) .leaf)) (.seq none (.reg [] []) (.seq none (.reg [] []) (.seq none (.seq none (.reg [] []) (.seq none (.reg [] []) (.cond (.seq none (.reg [] []) .leaf) .leaf))) (.seq none (.reg [] []) (.seq none (.reg [0, 1, 2, 3, 4, 5, 6, 7, 8, 9, 10, 11] [[], [0], [0, 1], [0, 1, 2], [], [0, 1, 2, 3, 4], [0, 1, 2, 3, 4, 5], [0, 1, 2, 3, 4, 5, 6], [0, 1, 2, 3, 4, 5, 6, 7], [], [], [0, 1, 2, 3, 4, 5, 6, 7, 8, 9, 10]]) (.seq (some []) (.seq none (.reg [0, 1, 2, 3, 4, 5, 6] [[], [0], [0, 1], [0, 1, 2], [], [0, 1, 2, 3, 4], [0, 1, 2, 3, 4, 5]]) (.seq none (.reg [] []) (.cond (.reg [] []) .leaf))) (.seq none (.reg [] []) .leaf))))))))))
def g81 (t_1 : Option Addr) (from_2 : Int) (name_3 : ByteArray) (to_4 : Int) (as_5 : ByteArray) (K : Value → H → Prop) : H → Prop :=
  alW (.cells ⟨[.pointer t_1]⟩ 80 (0, 0)) (fun (b6 : Nat) =>
  alW (.cells ⟨[.int .i64 to_4]⟩ 3 (0, 0)) (fun (b7 : Nat) =>
  rdT (rdC b6 0) kP (fun (x8 : Option Addr) =>
  rdT (rdC b6 0) kP (fun (x9 : Option Addr) =>
  rdT (rdC b6 0) kP (fun (x10 : Option Addr) =>
  rdT (rdC b7 0) kI (fun (x11 : Int) =>
  rdT (rdC b6 0) kP (fun (x12 : Option Addr) =>
  callT Tryz.prog 107 [.pointer x9, .int .i64 from_2] kR (fun (x13 : Value) =>
  andW (fun σ => (rdC b6 0) σ = some (.pointer x12))
  (andW (fun σ => (rdC b7 0) σ = some (.int .i64 x11))
  (andW (fun σ => (rdC b6 0) σ = some (.pointer x10))
  (andW (fun σ => (rdC b6 0) σ = some (.pointer x8))
  (callT Tryz.prog 107 [.pointer x10, .int .i64 x11] kR (fun (x14 : Value) =>
  andW (fun σ => (rdC b6 0) σ = some (.pointer x12))
  (andW (fun σ => (rdC b6 0) σ = some (.pointer x8))
  (callT Tryz.prog 108 [.string as_5] kR (fun (x15 : Value) =>
  andW (fun σ => (rdC b6 0) σ = some (.pointer x12))
  (andW (fun σ => (rdC b6 0) σ = some (.pointer x8))
  (callT Tryz.prog 122 [.pointer x12, .int .i64 from_2, .string name_3] kR (fun (x16 : Value) =>
  andW (fun σ => (rdC b6 0) σ = some (.pointer x8))
  (oneK x13
  (oneK x14
  (oneK x15
  (oneK x16
  (alW (.cells ⟨[.func (.func 106) ⟨[.pointer x8]⟩ ⟨[]⟩, x13, x14, x15, x16]⟩ 148 (0, 0)) (fun (b17 : Nat) =>
  callT Tryz.prog 105 [.slice (some ⟨b17, 0, none⟩) 5 5] kI (fun (x18 : Int) =>
  letJ (T := Int → ByteArray → ByteArray → Option Addr → Option Addr → Int → Bool → H → Prop) (fun (from_20 : Int) (name_21 : ByteArray) (as_22 : ByteArray) (t_23 : Option Addr) (to_24 : Option Addr) (e_25 : Int) (x26 : Bool) =>
  brW x26
  (K (.int .i64 e_25))
  (ptrW t_23 (fun (b27 o28 : Nat) =>
  rdT (rdC b27 o28) kP (fun (x29 : Option Addr) =>
  callT Tryz.prog 102 [.pointer x29, .int .i64 from_20, .string name_21] (.tup [.sc (.int .i64), .sc .bool]) (fun (x30 : Int) (_x31 : Bool) =>
  alW (.cells ⟨[.int .i64 0]⟩ 3 (0, 0)) (fun (b32 : Nat) =>
  stW Tryz.prog 3 (.pointer (some ⟨b32, 0, none⟩)) (.int .i64 x30) (ptrW t_23 (fun (b33 o34 : Nat) =>
  rdT (rdC b33 o34) kP (fun (x35 : Option Addr) =>
  ptrW to_24 (fun (b36 o37 : Nat) =>
  rdT (rdC b36 o37) kI (fun (x38 : Int) =>
  callT Tryz.prog 109 [.pointer x35, .int .i64 x38, .string as_22] kR (fun (x39 : Value) =>
  oneK x39
  (alW (.cells ⟨[x39, .func (.func 134) ⟨[]⟩ ⟨[.pointer to_24, .pointer t_23, .pointer (some ⟨b32, 0, none⟩)]⟩]⟩ 148 (0, 0)) (fun (b40 : Nat) =>
  callT Tryz.prog 105 [.slice (some ⟨b40, 0, none⟩) 2 2] kI (fun (x41 : Int) =>
  brW ((x41 : Int) != 0)
  (K (.int .i64 x41))
  (ptrW t_23 (fun (b42 o43 : Nat) =>
  rdT (rdC b42 o43) kP (fun (x44 : Option Addr) =>
  ptrW x44 (fun (b45 o46 : Nat) =>
  rdT (rdC b45 (o46 + 4)) kM (fun (x47 : Option Nat) =>
  rdT (rdM (.int .i64) (.pointer none) false x47 (.int .i64 from_20)) kP (fun (x48 : Option Addr) =>
  ptrW x48 (fun (b49 o50 : Nat) =>
  rdT (rdC b49 (o50 + 5)) kM (fun (x51 : Option Nat) =>
  biW Tryz.prog .delete #[140, 9] 0 [false, false] [.map x51, .string name_21] kU (ptrW t_23 (fun (b52 o53 : Nat) =>
  rdT (rdC b52 o53) kP (fun (x54 : Option Addr) =>
  ptrW x54 (fun (b55 o56 : Nat) =>
  rdT (rdC b55 (o56 + 4)) kM (fun (x57 : Option Nat) =>
  ptrW to_24 (fun (b58 o59 : Nat) =>
  rdT (rdC b58 o59) kI (fun (x60 : Int) =>
  rdT (rdM (.int .i64) (.pointer none) false x57 (.int .i64 x60)) kP (fun (x61 : Option Addr) =>
  ptrW x61 (fun (b62 o63 : Nat) =>
  rdT (rdC b62 (o63 + 5)) kM (fun (x64 : Option Nat) =>
  rdT (rdC b32 0) kI (fun (x65 : Int) =>
  muW Tryz.prog 140 (.map x64) (.string as_22) (.int .i64 x65) (letJ (T := H → Prop) (K (.int .i64 0)) (fun j66 =>
  ptrW t_23 (fun (b67 o68 : Nat) =>
  rdT (rdC b67 o68) kP (fun (x69 : Option Addr) =>
  ptrW x69 (fun (b70 o71 : Nat) =>
  rdT (rdC b70 (o71 + 4)) kM (fun (x72 : Option Nat) =>
  rdT (rdC b32 0) kI (fun (x73 : Int) =>
  rdT (rdM (.int .i64) (.pointer none) false x72 (.int .i64 x73)) kP (fun (x74 : Option Addr) =>
  ptrW x74 (fun (b75 o76 : Nat) =>
  rdT (rdC b75 o76) kI (fun (x77 : Int) =>
  brW ((x77 : Int) == 2)
  (ptrW to_24 (fun (b78 o79 : Nat) =>
  rdT (rdC b78 o79) kI (fun (x80 : Int) =>
  ptrW x74 (fun (b81 o82 : Nat) =>
  stW Tryz.prog 3 (.pointer (some ⟨b81, o82 + 4, none⟩)) (.int .i64 x80) (j66)))))
  (j66))))))))))))))))))))))))))))))))))))))))))))) (fun j19 =>
  brW ((x18 : Int) != 0)
  (j19 from_2 name_3 as_5 (some ⟨b6, 0, none⟩) (some ⟨b7, 0, none⟩) x18 true)
  (rdT (rdC b7 0) kI (fun (x83 : Int) =>
  brW ((from_2 : Int) == x83)
  (j19 from_2 name_3 as_5 (some ⟨b6, 0, none⟩) (some ⟨b7, 0, none⟩) x18 (strEq name_3 as_5))
  (j19 from_2 name_3 as_5 (some ⟨b6, 0, none⟩) (some ⟨b7, 0, none⟩) x18 false))))))))))))))))))))))))))))))
theorem e81 (t_1 : Option Addr) (from_2 : Int) (name_3 : ByteArray) (to_4 : Int) (as_5 : ByteArray) (K : Value → H → Prop) : bodyF Tryz.prog tau Tryz.f81 an81 [.pointer t_1, .int .i64 from_2, .string name_3, .int .i64 to_4, .string as_5] K = g81 t_1 from_2 name_3 to_4 as_5 K := by kernel_rfl
theorem c81 (t_1 : Option Addr) (from_2 : Int) (name_3 : ByteArray) (to_4 : Int) (as_5 : ByteArray) {K : Value → H → Prop} {σ : H} (h : g81 t_1 from_2 name_3 to_4 as_5 K σ) : callW Tryz.prog 81 [.pointer t_1, .int .i64 from_2, .string name_3, .int .i64 to_4, .string as_5] K σ := call_of_body mixed Tryz.func81 (by rw [e81]; exact h)


/-- strings.HasPrefix -/
def an92 : Ann := (.seq none (.reg [] []) (.seq none (.reg [] []) .leaf))
def g92 (s_1 : ByteArray) (prefix_2 : ByteArray) (K : Value → H → Prop) : H → Prop :=
  callT Tryz.prog 152 [.string s_1, .string prefix_2] kB (fun (x3 : Bool) =>
  K (.bool x3))
theorem e92 (s_1 : ByteArray) (prefix_2 : ByteArray) (K : Value → H → Prop) : bodyF Tryz.prog tau Tryz.f92 an92 [.string s_1, .string prefix_2] K = g92 s_1 prefix_2 K := by kernel_rfl
theorem c92 (s_1 : ByteArray) (prefix_2 : ByteArray) {K : Value → H → Prop} {σ : H} (h : g92 s_1 prefix_2 K σ) : callW Tryz.prog 92 [.string s_1, .string prefix_2] K σ := call_of_body mixed Tryz.func92 (by rw [e92]; exact h)


/-- (*whisk/fs.Fs).List$1 -/
def an98 : Ann := (.seq none (.reg [] []) (.seq none (.seq none (.reg [] []) (.cond (.seq none (.reg [] []) .leaf) .leaf)) (.seq none (.reg [] []) (.seq none (.reg [] []) .leaf))))
def g98 (ino_1 : Int) (n_2 : Int) (n_3 : Int) (n_4 : ByteArray) (n_5 : Int) (x6 : Option Addr) (x7 : Option Addr) (K : Value → H → Prop) : H → Prop :=
  alW (.cells ⟨[.int .i64 n_2, .int .i64 n_3, .string n_4, .int .i64 n_5]⟩ 54 (0, 0)) (fun (b8 : Nat) =>
  rdT (rdC b8 0) kI (fun (x9 : Int) =>
  brW ((x9 : Int) != 2)
  (K (.int .i64 8))
  (ptrW x6 (fun (b10 o11 : Nat) =>
  rdT (rdC b10 o11) kP (fun (x12 : Option Addr) =>
  ptrW x12 (fun (b13 o14 : Nat) =>
  rdT (rdC b13 o14) kP (fun (x15 : Option Addr) =>
  callT Tryz.prog 67 [.pointer x15, .int .i64 ino_1] kL (fun (x16 : Sl) =>
  stW Tryz.prog 74 (.pointer x7) (.slice x16.base x16.len x16.cap) (K (.int .i64 0))))))))))
theorem e98 (ino_1 : Int) (n_2 : Int) (n_3 : Int) (n_4 : ByteArray) (n_5 : Int) (x6 : Option Addr) (x7 : Option Addr) (K : Value → H → Prop) : bodyF Tryz.prog tau Tryz.f98 an98 [.int .i64 ino_1, .agg ⟨[.int .i64 n_2, .int .i64 n_3, .string n_4, .int .i64 n_5]⟩, .pointer x6, .pointer x7] K = g98 ino_1 n_2 n_3 n_4 n_5 x6 x7 K := by kernel_rfl
theorem c98 (ino_1 : Int) (n_2 : Int) (n_3 : Int) (n_4 : ByteArray) (n_5 : Int) (x6 : Option Addr) (x7 : Option Addr) {K : Value → H → Prop} {σ : H} (h : g98 ino_1 n_2 n_3 n_4 n_5 x6 x7 K σ) : callW Tryz.prog 98 [.int .i64 ino_1, .agg ⟨[.int .i64 n_2, .int .i64 n_3, .string n_4, .int .i64 n_5]⟩, .pointer x6, .pointer x7] K σ := call_of_body mixed Tryz.func98 (by rw [e98]; exact h)


/-- (*whisk/inode.Table).Root -/
def an100 : Ann := (.seq none (.reg [] []) (.seq none (.seq none (.reg [] []) (.cond (.seq none (.reg [] []) .leaf) .leaf)) (.seq none (.reg [] []) .leaf)))
def g100 (t_1 : Option Addr) (K : Value → H → Prop) : H → Prop :=
  brW t_1.isNone
  (K (.int .i64 0))
  (K (.int .i64 1))
theorem e100 (t_1 : Option Addr) (K : Value → H → Prop) : bodyF Tryz.prog tau Tryz.f100 an100 [.pointer t_1] K = g100 t_1 K := by kernel_rfl
theorem c100 (t_1 : Option Addr) {K : Value → H → Prop} {σ : H} (h : g100 t_1 K σ) : callW Tryz.prog 100 [.pointer t_1] K σ := call_of_body mixed Tryz.func100 (by rw [e100]; exact h)


/-- (*whisk/inode.Table).Up -/
def an101 : Ann := (.seq none (.reg [] []) (.seq none (.reg [] []) (.seq none (.seq none (.reg [] []) (.cond (.seq none (.reg [] []) .leaf) .leaf)) (.seq none (.reg [] []) .leaf))))
def g101 (t_1 : Option Addr) (dir_2 : Int) (K : Value → H → Prop) : H → Prop :=
  callT Tryz.prog 115 [.pointer t_1, .int .i64 dir_2] kP (fun (x3 : Option Addr) =>
  brW x3.isNone
  (K (.int .i64 0))
  (ptrW x3 (fun (b4 o5 : Nat) =>
  rdT (rdC b4 (o5 + 4)) kI (fun (x6 : Int) =>
  K (.int .i64 x6)))))
theorem e101 (t_1 : Option Addr) (dir_2 : Int) (K : Value → H → Prop) : bodyF Tryz.prog tau Tryz.f101 an101 [.pointer t_1, .int .i64 dir_2] K = g101 t_1 dir_2 K := by kernel_rfl
theorem c101 (t_1 : Option Addr) (dir_2 : Int) {K : Value → H → Prop} {σ : H} (h : g101 t_1 dir_2 K σ) : callW Tryz.prog 101 [.pointer t_1, .int .i64 dir_2] K σ := call_of_body mixed Tryz.func101 (by rw [e101]; exact h)


/-- (*whisk/inode.Table).Find -/
def an102 : Ann := (.seq none (.reg [] []) (.seq none (.reg [] []) (.seq none (.seq none (.reg [] []) (.cond (.seq none (.reg [] []) .leaf) .leaf)) (.seq none (.reg [] []) (.seq none (.reg [] []) .leaf)))))
def g102 (t_1 : Option Addr) (dir_2 : Int) (name_3 : ByteArray) (K : Value → H → Prop) : H → Prop :=
  callT Tryz.prog 115 [.pointer t_1, .int .i64 dir_2] kP (fun (x4 : Option Addr) =>
  brW x4.isNone
  (K (.tuple ⟨[.int .i64 0, .bool false]⟩))
  (ptrW x4 (fun (b5 o6 : Nat) =>
  rdT (rdC b5 (o6 + 5)) kM (fun (x7 : Option Nat) =>
  rdT (rdM .string (.int .i64 0) true x7 (.string name_3)) (.tup [.sc (.int .i64), .sc .bool]) (fun (x8 : Int) (x9 : Bool) =>
  K (.tuple ⟨[.int .i64 x8, .bool x9]⟩))))))
theorem e102 (t_1 : Option Addr) (dir_2 : Int) (name_3 : ByteArray) (K : Value → H → Prop) : bodyF Tryz.prog tau Tryz.f102 an102 [.pointer t_1, .int .i64 dir_2, .string name_3] K = g102 t_1 dir_2 name_3 K := by kernel_rfl
theorem c102 (t_1 : Option Addr) (dir_2 : Int) (name_3 : ByteArray) {K : Value → H → Prop} {σ : H} (h : g102 t_1 dir_2 name_3 K σ) : callW Tryz.prog 102 [.pointer t_1, .int .i64 dir_2, .string name_3] K σ := call_of_body mixed Tryz.func102 (by rw [e102]; exact h)


/-- (*whisk/inode.Table).Make$1 -/
def an103 : Ann := (.seq none (.reg [] []) (.seq (some [(0, .sc .ptr), (1, .sc .ptr), (2, .sc .ptr), (4, .sc .bool)]) (.reg [] []) (.seq none (.reg [] []) (.seq none (.reg [] []) .leaf))))
def g103 (x1 : Option Addr) (x2 : Option Addr) (x3 : Option Addr) (K : Value → H → Prop) : H → Prop :=
  letJ (T := Option Addr → Option Addr → Option Addr → Bool → H → Prop) (fun (x5 : Option Addr) (x6 : Option Addr) (x7 : Option Addr) (link_8 : Bool) =>
  alW (.map #[] 0) (fun (b9 : Nat) =>
  muW Tryz.prog 146 (.map (some b9)) (.int .i64 1) (.bool true) (ptrW x5 (fun (b10 o11 : Nat) =>
  rdT (rdC b10 o11) kS (fun (x12 : ByteArray) =>
  muW Tryz.prog 146 (.map (some b9)) (.int .i64 2) (.bool (strEq x12 (⟨⟨[]⟩⟩ : ByteArray))) (muW Tryz.prog 146 (.map (some b9)) (.int .i64 3) (.bool link_8) (ptrW x6 (fun (b13 o14 : Nat) =>
  rdT (rdC b13 o14) kI (fun (x15 : Int) =>
  rdT (rdM (.int .i64) (.bool false) false (some b9) (.int .i64 x15)) kB (fun (x16 : Bool) =>
  brW x16
  (ptrW x7 (fun (b17 o18 : Nat) =>
  rdT (rdC b17 o18) kI (fun (x19 : Int) =>
  brW (decide ((x19 : Int) ≥ 0))
  (ptrW x7 (fun (b20 o21 : Nat) =>
  rdT (rdC b20 o21) kI (fun (x22 : Int) =>
  callT Tryz.prog 104 [.bool (decide ((x22 : Int) ≤ 511)), .int .i64 2] kI (fun (x23 : Int) =>
  K (.int .i64 x23)))))
  (callT Tryz.prog 104 [.bool false, .int .i64 2] kI (fun (x24 : Int) =>
  K (.int .i64 x24))))))
  (callT Tryz.prog 104 [.bool false, .int .i64 2] kI (fun (x25 : Int) =>
  K (.int .i64 x25))))))))))))) (fun j4 =>
  ptrW x1 (fun (b26 o27 : Nat) =>
  rdT (rdC b26 o27) kS (fun (x28 : ByteArray) =>
  brW (!strEq x28 (⟨⟨[]⟩⟩ : ByteArray))
  (ptrW x1 (fun (b29 o30 : Nat) =>
  rdT (rdC b29 o30) kS (fun (x31 : ByteArray) =>
  brW (decide ((((x31.size : Nat) : Int) : Int) ≤ 255))
  (ptrW x1 (fun (b32 o33 : Nat) =>
  rdT (rdC b32 o33) kS (fun (x34 : ByteArray) =>
  callT Tryz.prog 65 [.string x34, .int .u8 0] kI (fun (x35 : Int) =>
  j4 x1 x2 x3 (decide ((x35 : Int) < 0))))))
  (j4 x1 x2 x3 false))))
  (j4 x1 x2 x3 false))))
theorem e103 (x1 : Option Addr) (x2 : Option Addr) (x3 : Option Addr) (K : Value → H → Prop) : bodyF Tryz.prog tau Tryz.f103 an103 [.pointer x1, .pointer x2, .pointer x3] K = g103 x1 x2 x3 K := by kernel_rfl
theorem c103 (x1 : Option Addr) (x2 : Option Addr) (x3 : Option Addr) {K : Value → H → Prop} {σ : H} (h : g103 x1 x2 x3 K σ) : callW Tryz.prog 103 [.pointer x1, .pointer x2, .pointer x3] K σ := call_of_body mixed Tryz.func103 (by rw [e103]; exact h)


/-- whisk/inode.must -/
def an104 : Ann := (.seq none (.reg [] []) (.seq none (.seq none (.reg [] []) (.cond (.seq none (.reg [] []) .leaf) .leaf)) (.seq none (.reg [] []) .leaf)))
def g104 (is_1 : Bool) (e_2 : Int) (K : Value → H → Prop) : H → Prop :=
  brW (!is_1)
  (K (.int .i64 e_2))
  (K (.int .i64 0))
theorem e104 (is_1 : Bool) (e_2 : Int) (K : Value → H → Prop) : bodyF Tryz.prog tau Tryz.f104 an104 [.bool is_1, .int .i64 e_2] K = g104 is_1 e_2 K := by kernel_rfl
theorem c104 (is_1 : Bool) (e_2 : Int) {K : Value → H → Prop} {σ : H} (h : g104 is_1 e_2 K σ) : callW Tryz.prog 104 [.bool is_1, .int .i64 e_2] K σ := call_of_body mixed Tryz.func104 (by rw [e104]; exact h)


/-- whisk/inode.first -/
def an105 : Ann := (.seq none (.reg [] []) (.seq none (.seq none (.reg [] []) (.blk (.loop [(6, .sc .slc), (7, .sc (.int .i64)), (8, .sc (.int .i64))] (.seq none (.reg [] []) (.seq none (.cond .leaf .leaf) (.seq none (.blk (.seq none (.reg [] []) (.seq none (.reg [] []) (.seq none (.reg [] []) (.cond (.seq none (.reg [] []) .leaf) .leaf))))) (.reg [] []))))))) (.seq none (.reg [] []) .leaf)))
def g105 (asked_1 : Sl) (K : Value → H → Prop) : H → Prop :=
  loopW [.sc .slc, .sc (.int .i64), .sc (.int .i64)] (fun (R2 : Sl → Int → Int → H → Prop) => (fun (x3 : Sl) (x4 : Int) (x5 : Int) =>
  brW (decide ((x5 : Int) < x4))
  (ptrW x3.base (fun (b6 o7 : Nat) =>
  ifW (0 ≤ x5 ∧ x5 < ((x3.len : Nat) : Int))
  (rdT (rdC b6 (o7 + x5.toNat * 1)) kR (fun (x8 : Value) =>
  cvalT Tryz.prog x8 [] kI (fun (x9 : Int) =>
  brW ((x9 : Int) != 0)
  (K (.int .i64 x9))
  (R2 x3 x4 (IntKind.i64.wrap (x5 + 1))))))))
  (K (.int .i64 0)))) (fun (R10 : Sl → Int → Int → H → Prop) => R10 asked_1 ((asked_1.len : Nat) : Int) 0)
theorem e105 (asked_1 : Sl) (K : Value → H → Prop) : bodyF Tryz.prog tau Tryz.f105 an105 [.slice asked_1.base asked_1.len asked_1.cap] K = g105 asked_1 K := by kernel_rfl
theorem c105 (asked_1 : Sl) {K : Value → H → Prop} {σ : H} (h : g105 asked_1 K σ) : callW Tryz.prog 105 [.slice asked_1.base asked_1.len asked_1.cap] K σ := call_of_body mixed Tryz.func105 (by rw [e105]; exact h)


/-- (*whisk/inode.Table).there -/
def an106 : Ann := (.seq none (.reg [] []) (.seq none (.reg [] []) .leaf))
def g106 (t_1 : Option Addr) (K : Value → H → Prop) : H → Prop :=
  callT Tryz.prog 104 [.bool (!t_1.isNone), .int .i64 1] kI (fun (x2 : Int) =>
  K (.int .i64 x2))
theorem e106 (t_1 : Option Addr) (K : Value → H → Prop) : bodyF Tryz.prog tau Tryz.f106 an106 [.pointer t_1] K = g106 t_1 K := by kernel_rfl
theorem c106 (t_1 : Option Addr) {K : Value → H → Prop} {σ : H} (h : g106 t_1 K σ) : callW Tryz.prog 106 [.pointer t_1] K σ := call_of_body mixed Tryz.func106 (by rw [e106]; exact h)


/-- (*whisk/inode.Table).dir -/
def an107 : Ann := (.seq none (.reg [] []) (.seq none (.reg [] []) .leaf))
def g107 (t_1 : Option Addr) (ino_2 : Int) (K : Value → H → Prop) : H → Prop :=
  alW (.cells ⟨[.pointer t_1]⟩ 80 (0, 0)) (fun (b3 : Nat) =>
  alW (.cells ⟨[.int .i64 ino_2]⟩ 3 (0, 0)) (fun (b4 : Nat) =>
  K (.func (.func 155) ⟨[]⟩ ⟨[.pointer (some ⟨b3, 0, none⟩), .pointer (some ⟨b4, 0, none⟩)]⟩)))
theorem e107 (t_1 : Option Addr) (ino_2 : Int) (K : Value → H → Prop) : bodyF Tryz.prog tau Tryz.f107 an107 [.pointer t_1, .int .i64 ino_2] K = g107 t_1 ino_2 K := by kernel_rfl
theorem c107 (t_1 : Option Addr) (ino_2 : Int) {K : Value → H → Prop} {σ : H} (h : g107 t_1 ino_2 K σ) : callW Tryz.prog 107 [.pointer t_1, .int .i64 ino_2] K σ := call_of_body mixed Tryz.func107 (by rw [e107]; exact h)


/-- whisk/inode.named -/
def an108 : Ann := (.seq none (.reg [] []) (.seq none (.reg [] []) .leaf))
def g108 (name_1 : ByteArray) (K : Value → H → Prop) : H → Prop :=
  alW (.cells ⟨[.string name_1]⟩ 9 (0, 0)) (fun (b2 : Nat) =>
  K (.func (.func 156) ⟨[]⟩ ⟨[.pointer (some ⟨b2, 0, none⟩)]⟩))
theorem e108 (name_1 : ByteArray) (K : Value → H → Prop) : bodyF Tryz.prog tau Tryz.f108 an108 [.string name_1] K = g108 name_1 K := by kernel_rfl
theorem c108 (name_1 : ByteArray) {K : Value → H → Prop} {σ : H} (h : g108 name_1 K σ) : callW Tryz.prog 108 [.string name_1] K σ := call_of_body mixed Tryz.func108 (by rw [e108]; exact h)


/-- (*whisk/inode.Table).free -/
def an109 : Ann := (.seq none (.reg [] []) (.seq none (.reg [] []) .leaf))
def g109 (t_1 : Option Addr) (dir_2 : Int) (name_3 : ByteArray) (K : Value → H → Prop) : H → Prop :=
  alW (.cells ⟨[.pointer t_1]⟩ 80 (0, 0)) (fun (b4 : Nat) =>
  alW (.cells ⟨[.int .i64 dir_2]⟩ 3 (0, 0)) (fun (b5 : Nat) =>
  alW (.cells ⟨[.string name_3]⟩ 9 (0, 0)) (fun (b6 : Nat) =>
  K (.func (.func 158) ⟨[]⟩ ⟨[.pointer (some ⟨b4, 0, none⟩), .pointer (some ⟨b5, 0, none⟩), .pointer (some ⟨b6, 0, none⟩)]⟩))))
theorem e109 (t_1 : Option Addr) (dir_2 : Int) (name_3 : ByteArray) (K : Value → H → Prop) : bodyF Tryz.prog tau Tryz.f109 an109 [.pointer t_1, .int .i64 dir_2, .string name_3] K = g109 t_1 dir_2 name_3 K := by kernel_rfl
theorem c109 (t_1 : Option Addr) (dir_2 : Int) (name_3 : ByteArray) {K : Value → H → Prop} {σ : H} (h : g109 t_1 dir_2 name_3 K σ) : callW Tryz.prog 109 [.pointer t_1, .int .i64 dir_2, .string name_3] K σ := call_of_body mixed Tryz.func109 (by rw [e109]; exact h)


/-- (*whisk/inode.Table).Make$2 -/
def an110 : Ann := (.seq none (.reg [] []) (.seq none (.reg [] []) .leaf))
def g110 (x1 : Option Addr) (x2 : Option Addr) (K : Value → H → Prop) : H → Prop :=
  ptrW x1 (fun (b3 o4 : Nat) =>
  rdT (rdC b3 o4) kP (fun (x5 : Option Addr) =>
  ptrW x2 (fun (b6 o7 : Nat) =>
  rdT (rdC b6 o7) kS (fun (x8 : ByteArray) =>
  callT Tryz.prog 111 [.pointer x5, .int .i64 1, .int .i64 ((x8.size : Nat) : Int)] kR (fun (x9 : Value) =>
  cvalT Tryz.prog x9 [] kI (fun (x10 : Int) =>
  K (.int .i64 x10)))))))
theorem e110 (x1 : Option Addr) (x2 : Option Addr) (K : Value → H → Prop) : bodyF Tryz.prog tau Tryz.f110 an110 [.pointer x1, .pointer x2] K = g110 x1 x2 K := by kernel_rfl
theorem c110 (x1 : Option Addr) (x2 : Option Addr) {K : Value → H → Prop} {σ : H} (h : g110 x1 x2 K σ) : callW Tryz.prog 110 [.pointer x1, .pointer x2] K σ := call_of_body mixed Tryz.func110 (by rw [e110]; exact h)


/-- (*whisk/inode.Table).room -/
def an111 : Ann := (.seq none (.reg [] []) (.seq none (.reg [] []) .leaf))
def g111 (t_1 : Option Addr) (inodes_2 : Int) (bytes_3 : Int) (K : Value → H → Prop) : H → Prop :=
  alW (.cells ⟨[.pointer t_1]⟩ 80 (0, 0)) (fun (b4 : Nat) =>
  alW (.cells ⟨[.int .i64 inodes_2]⟩ 3 (0, 0)) (fun (b5 : Nat) =>
  alW (.cells ⟨[.int .i64 bytes_3]⟩ 3 (0, 0)) (fun (b6 : Nat) =>
  K (.func (.func 159) ⟨[]⟩ ⟨[.pointer (some ⟨b4, 0, none⟩), .pointer (some ⟨b5, 0, none⟩), .pointer (some ⟨b6, 0, none⟩)]⟩))))
theorem e111 (t_1 : Option Addr) (inodes_2 : Int) (bytes_3 : Int) (K : Value → H → Prop) : bodyF Tryz.prog tau Tryz.f111 an111 [.pointer t_1, .int .i64 inodes_2, .int .i64 bytes_3] K = g111 t_1 inodes_2 bytes_3 K := by kernel_rfl
theorem c111 (t_1 : Option Addr) (inodes_2 : Int) (bytes_3 : Int) {K : Value → H → Prop} {σ : H} (h : g111 t_1 inodes_2 bytes_3 K σ) : callW Tryz.prog 111 [.pointer t_1, .int .i64 inodes_2, .int .i64 bytes_3] K σ := call_of_body mixed Tryz.func111 (by rw [e111]; exact h)


/-- whisk/tree.may -/
def an112 : Ann := (.seq none (.reg [] []) (.seq none (.reg [] []) (.seq none (.reg [] []) (.seq none (.seq none (.reg [] []) (.blk (.seq none (.reg [] []) (.cond (.seq none (.reg [] []) .leaf) (.seq none (.reg [] []) (.cond (.seq none (.reg [] []) .leaf) (.seq none (.reg [] []) (.cond (.seq none (.reg [] []) .leaf) .leaf)))))))) (.seq none (.reg [] []) .leaf)))))
def g112 (n_1 : ByteArray) (n_2 : Int) (n_3 : Bool) (n_4 : ByteArray) (n_5 : Sl) (K : Value → H → Prop) : H → Prop :=
  alW (.cells ⟨[.string n_1, .int .i64 n_2, .bool n_3, .string n_4, .slice n_5.base n_5.len n_5.cap]⟩ 24 (0, 0)) (fun (b6 : Nat) =>
  rdT (rdC b6 1) kI (fun (x7 : Int) =>
  brW ((x7 : Int) == 1)
  (callT Tryz.prog 160 [.pointer (some ⟨b6, 0, none⟩)] kB (fun (x8 : Bool) =>
  K (.bool x8)))
  (brW ((x7 : Int) == 3)
  (alW (.cells ⟨[.func (.func 160) ⟨[]⟩ ⟨[.pointer (some ⟨b6, 0, none⟩)]⟩, .func (.func 161) ⟨[]⟩ ⟨[.pointer (some ⟨b6, 0, none⟩)]⟩, .func (.func 163) ⟨[]⟩ ⟨[.pointer (some ⟨b6, 0, none⟩)]⟩]⟩ 25 (0, 0)) (fun (b9 : Nat) =>
  callT Tryz.prog 162 [.slice (some ⟨b9, 0, none⟩) 3 3] kB (fun (x10 : Bool) =>
  K (.bool x10))))
  (brW ((x7 : Int) == 2)
  (alW (.cells ⟨[.func (.func 161) ⟨[]⟩ ⟨[.pointer (some ⟨b6, 0, none⟩)]⟩, .func (.func 164) ⟨[]⟩ ⟨[.pointer (some ⟨b6, 0, none⟩)]⟩, .func (.func 165) ⟨[]⟩ ⟨[.pointer (some ⟨b6, 0, none⟩)]⟩]⟩ 25 (0, 0)) (fun (b11 : Nat) =>
  callT Tryz.prog 162 [.slice (some ⟨b11, 0, none⟩) 3 3] kB (fun (x12 : Bool) =>
  K (.bool x12))))
  (K (.bool false))))))
theorem e112 (n_1 : ByteArray) (n_2 : Int) (n_3 : Bool) (n_4 : ByteArray) (n_5 : Sl) (K : Value → H → Prop) : bodyF Tryz.prog tau Tryz.f112 an112 [.agg ⟨[.string n_1, .int .i64 n_2, .bool n_3, .string n_4, .slice n_5.base n_5.len n_5.cap]⟩] K = g112 n_1 n_2 n_3 n_4 n_5 K := by kernel_rfl
theorem c112 (n_1 : ByteArray) (n_2 : Int) (n_3 : Bool) (n_4 : ByteArray) (n_5 : Sl) {K : Value → H → Prop} {σ : H} (h : g112 n_1 n_2 n_3 n_4 n_5 K σ) : callW Tryz.prog 112 [.agg ⟨[.string n_1, .int .i64 n_2, .bool n_3, .string n_4, .slice n_5.base n_5.len n_5.cap]⟩] K σ := call_of_body mixed Tryz.func112 (by rw [e112]; exact h)


/-- whisk/tree.size -/
def an113 : Ann := (.seq none (.reg [] []) (.seq none (.reg [0, 1, 2, 3, 4] [[], [0], [0, 1], [], [0, 1, 2, 3]]) (.seq none (.seq none (.reg [] []) (.blk (.loop [(2, .sc (.int .i64)), (3, .sc (.int .i64)), (12, .sc .slc), (13, .sc (.int .i64)), (14, .sc (.int .i64))] (.seq none (.reg [] []) (.seq none (.cond .leaf .leaf) (.seq (some [(2, .sc (.int .i64)), (3, .sc (.int .i64)), (12, .sc .slc), (13, .sc (.int .i64)), (14, .sc (.int .i64))]) (.blk (.seq none (.reg [] []) (.seq none (.seq none (.reg [] []) (.cond .leaf .leaf)) (.seq none (.reg [] []) (.reg [] []))))) (.reg [] []))))))) (.seq none (.reg [] []) .leaf))))
def g113 (n_1 : ByteArray) (n_2 : Int) (n_3 : Bool) (n_4 : ByteArray) (n_5 : Sl) (K : Value → H → Prop) : H → Prop :=
  alW (.cells ⟨[.string n_1, .int .i64 n_2, .bool n_3, .string n_4, .slice n_5.base n_5.len n_5.cap]⟩ 24 (0, 0)) (fun (b6 : Nat) =>
  rdT (rdC b6 3) kS (fun (x7 : ByteArray) =>
  rdT (rdC b6 4) kL (fun (x8 : Sl) =>
  loopW [.sc (.int .i64), .sc (.int .i64), .sc .slc, .sc (.int .i64), .sc (.int .i64)] (fun (R9 : Int → Int → Sl → Int → Int → H → Prop) => (fun (inodes_10 : Int) (bytes_11 : Int) (x12 : Sl) (x13 : Int) (x14 : Int) =>
  brW (decide ((x14 : Int) < x13))
  (letJ (T := Int → Int → Sl → Int → Int → H → Prop) (fun (inodes_16 : Int) (bytes_17 : Int) (x18 : Sl) (x19 : Int) (x20 : Int) =>
  R9 inodes_16 bytes_17 x18 x19 (IntKind.i64.wrap (x20 + 1))) (fun j15 =>
  ptrW x12.base (fun (b21 o22 : Nat) =>
  ifW (0 ≤ x14 ∧ x14 < ((x12.len : Nat) : Int))
  (rdT (rdA 5 b21 (o22 + x14.toNat * 5)) (.one (.agg [.str, (.int .i64), .bool, .str, .slc])) (fun (x23 : ByteArray) (x24 : Int) (x25 : Bool) (x26 : ByteArray) (x27 : Sl) =>
  alW (.cells ⟨[.string (⟨⟨[]⟩⟩ : ByteArray), .int .i64 0, .bool false, .string (⟨⟨[]⟩⟩ : ByteArray), .slice none 0 0]⟩ 24 (0, 0)) (fun (b28 : Nat) =>
  stW Tryz.prog 24 (.pointer (some ⟨b28, 0, none⟩)) (.agg ⟨[.string x23, .int .i64 x24, .bool x25, .string x26, .slice x27.base x27.len x27.cap]⟩) (rdT (rdA 5 b28 0) (.one (.agg [.str, (.int .i64), .bool, .str, .slc])) (fun (x29 : ByteArray) (x30 : Int) (x31 : Bool) (x32 : ByteArray) (x33 : Sl) =>
  callT Tryz.prog 76 [.agg ⟨[.string x29, .int .i64 x30, .bool x31, .string x32, .slice x33.base x33.len x33.cap]⟩] kB (fun (x34 : Bool) =>
  brW x34
  (j15 inodes_10 bytes_11 x12 x13 x14)
  (rdT (rdA 5 b28 0) (.one (.agg [.str, (.int .i64), .bool, .str, .slc])) (fun (x35 : ByteArray) (x36 : Int) (x37 : Bool) (x38 : ByteArray) (x39 : Sl) =>
  callT Tryz.prog 113 [.agg ⟨[.string x35, .int .i64 x36, .bool x37, .string x38, .slice x39.base x39.len x39.cap]⟩] (.tup [.sc (.int .i64), .sc (.int .i64)]) (fun (x40 : Int) (x41 : Int) =>
  j15 (IntKind.i64.wrap (inodes_10 + x40)) (IntKind.i64.wrap (bytes_11 + x41)) x12 x13 x14))))))))))))
  (K (.tuple ⟨[.int .i64 inodes_10, .int .i64 bytes_11]⟩)))) (fun (R42 : Int → Int → Sl → Int → Int → H → Prop) => R42 1 ((x7.size : Nat) : Int) x8 ((x8.len : Nat) : Int) 0))))
theorem e113 (n_1 : ByteArray) (n_2 : Int) (n_3 : Bool) (n_4 : ByteArray) (n_5 : Sl) (K : Value → H → Prop) : bodyF Tryz.prog tau Tryz.f113 an113 [.agg ⟨[.string n_1, .int .i64 n_2, .bool n_3, .string n_4, .slice n_5.base n_5.len n_5.cap]⟩] K = g113 n_1 n_2 n_3 n_4 n_5 K := by kernel_rfl
theorem c113 (n_1 : ByteArray) (n_2 : Int) (n_3 : Bool) (n_4 : ByteArray) (n_5 : Sl) {K : Value → H → Prop} {σ : H} (h : g113 n_1 n_2 n_3 n_4 n_5 K σ) : callW Tryz.prog 113 [.agg ⟨[.string n_1, .int .i64 n_2, .bool n_3, .string n_4, .slice n_5.base n_5.len n_5.cap]⟩] K σ := call_of_body mixed Tryz.func113 (by rw [e113]; exact h)


/-- (*whisk/fs.Fs).walk -/
def an114 : Ann := (.seq none (.reg [] []) (.seq none (.seq none (.reg [] []) (.seq none (.reg [] []) (.cond (.seq none (.reg [] []) .leaf) .leaf))) (.seq (some [(1, .sc (.int .i64)), (2, .sc .str), (5, .sc .ptr), (8, .sc .ptr), (9, .sc .ptr), (10, .sc .ptr), (11, .sc .ptr)]) (.seq none (.reg [] []) (.cond (.reg [] []) .leaf)) (.seq none (.reg [] []) (.seq (some [(10, .sc .ptr), (11, .sc .ptr), (13, .sc .ptr)]) (.seq none (.reg [] []) (.blk (.rf [.sc .str, .sc .bool] (.seq none (.reg [] []) (.reg [] [])) (.blk (.seq none (.blk (.seq none (.reg [] []) (.cond (.seq none (.reg [] []) .leaf) (.seq none (.reg [] []) (.cond (.seq none (.reg [] []) .leaf) (.seq none (.reg [] []) (.cond (.seq none (.reg [0, 1, 2, 3, 4, 5, 6, 7] [[], [0], [0, 1], [0, 1, 2], [], [4], [0, 1, 2, 3, 4, 5], [0, 1, 2, 3, 4, 5, 6]]) (.seq none (.reg [] []) .leaf)) (.seq none (.reg [] []) (.cond (.seq none (.reg [] []) .leaf) .leaf))))))))) (.seq none (.reg [] []) (.seq none (.reg [0, 1, 2, 3, 4, 5, 6, 7, 8, 9, 10, 11, 12, 13, 14] [[], [0], [0, 1], [0, 1, 2], [], [4], [], [0, 1, 2, 3, 4, 5, 6], [0, 1, 2, 3, 4, 5, 6, 7], [0, 1, 2, 3, 4, 5, 6, 7, 8], [0, 1, 2, 3, 4, 5, 6, 7, 8], [0, 1, 2, 3, 4, 5, 6, 7, 8, 9], [0, 1, 2, 3, 4, 5, 6, 7, 8, 9, 11], [0, 1, 2, 3, 4, 5, 6, 7, 8, 9, 10, 11, 12], [0, 1, 2, 3, 4, 5, 6, 7, 8, 9, 10, 11, 12, 13]]) (.seq none (.seq (some [(5, .sc .ptr), (9, .sc .ptr), (10, .sc .ptr), (11, .sc .ptr), (13, .sc .ptr), (105, .sc .bool)]) (.reg [] []) (.cond .leaf .leaf)) (.seq none (.seq none (.reg [] []) (.seq none (.reg [] []) (.cond (.seq none (.reg [] []) .leaf) .leaf))) (.seq none (.reg [0, 1, 2, 3, 4, 5, 6, 7, 8, 9, 10, 11, 12] [[], [0], [0, 1], [0, 1, 2], [], [4], [0, 1, 2, 3, 4, 5], [0, 1, 2, 3, 4, 5, 6], [0, 1, 2, 3, 4, 5, 6, 7], [0, 1, 2, 3, 4, 5, 6, 7], [], [0, 1, 2, 3, 4, 5, 6, 7, 8, 10], [0, 1, 2, 3, 4, 5, 6, 7, 8, 9, 10, 11]]) (.seq none (.reg [] []) (.seq none (.seq none (.reg [] []) (.cond (.seq none (.reg [] []) .leaf) .leaf)) (.reg [] []))))))))))))) (.seq none (.reg [] []) .leaf))))))
def g114 (f_1 : Option Addr) (at_2 : Int) (path_3 : ByteArray) (follow_4 : Bool) (hops_5 : Option Addr) (K : Value → H → Prop) : H → Prop :=
  alW (.cells ⟨[.pointer f_1]⟩ 28 (0, 0)) (fun (b6 : Nat) =>
  alW (.cells ⟨[.bool follow_4]⟩ 4 (0, 0)) (fun (b7 : Nat) =>
  alW (.cells ⟨[.pointer hops_5]⟩ 27 (0, 0)) (fun (b8 : Nat) =>
  alW (.cells ⟨[.int .i64 0, .string (⟨⟨[]⟩⟩ : ByteArray), .int .i64 0, .bool false]⟩ 86 (0, 0)) (fun (b9 : Nat) =>
  alW (.cells ⟨[.int .i64 0]⟩ 32 (0, 0)) (fun (b10 : Nat) =>
  callT Tryz.prog 167 [.string path_3] kI (fun (x11 : Int) =>
  brW ((x11 : Int) != 0)
  (stW Tryz.prog 86 (.pointer (some ⟨b9, 0, none⟩)) (.agg ⟨[.int .i64 0, .string (⟨⟨[]⟩⟩ : ByteArray), .int .i64 0, .bool false]⟩) (stW Tryz.prog 32 (.pointer (some ⟨b10, 0, none⟩)) (.int .i64 x11) (rdT (rdA 4 b9 0) (.one (.agg [(.int .i64), .str, (.int .i64), .bool])) (fun (r12 : Int) (r13 : ByteArray) (r14 : Int) (r15 : Bool) =>
  rdT (rdC b10 0) kI (fun (r16 : Int) =>
  K (.tuple ⟨[.agg ⟨[.int .i64 r12, .string r13, .int .i64 r14, .bool r15]⟩, .int .i64 r16]⟩))))))
  (letJ (T := Int → ByteArray → Option Addr → Option Addr → Option Addr → Option Addr → Option Addr → H → Prop) (fun (at_18 : Int) (path_19 : ByteArray) (f_20 : Option Addr) (follow_21 : Option Addr) (hops_22 : Option Addr) (x23 : Option Addr) (x24 : Option Addr) =>
  alW (.cells ⟨[.int .i64 0, .string (⟨⟨[]⟩⟩ : ByteArray), .int .i64 0, .bool false]⟩ 86 (0, 0)) (fun (b25 : Nat) =>
  stW Tryz.prog 86 (.pointer (some ⟨b25, 0, none⟩)) (.agg ⟨[.int .i64 at_18, .string (⟨⟨[]⟩⟩ : ByteArray), .int .i64 at_18, .bool true]⟩) (letJ (T := Option Addr → Option Addr → Option Addr → H → Prop) (fun (x27 : Option Addr) (x28 : Option Addr) (p_29 : Option Addr) =>
  ptrW p_29 (fun (b30 o31 : Nat) =>
  rdT (rdA 4 b30 o31) (.one (.agg [(.int .i64), .str, (.int .i64), .bool])) (fun (x32 : Int) (x33 : ByteArray) (x34 : Int) (x35 : Bool) =>
  stW Tryz.prog 86 (.pointer x27) (.agg ⟨[.int .i64 x32, .string x33, .int .i64 x34, .bool x35]⟩) (stW Tryz.prog 32 (.pointer x28) (.int .i64 0) (ptrW x27 (fun (b36 o37 : Nat) =>
  rdT (rdA 4 b36 o37) (.one (.agg [(.int .i64), .str, (.int .i64), .bool])) (fun (r38 : Int) (r39 : ByteArray) (r40 : Int) (r41 : Bool) =>
  ptrW x28 (fun (b42 o43 : Nat) =>
  rdT (rdC b42 o43) kI (fun (r44 : Int) =>
  K (.tuple ⟨[.agg ⟨[.int .i64 r38, .string r39, .int .i64 r40, .bool r41]⟩, .int .i64 r44]⟩)))))))))) (fun j26 =>
  callT Tryz.prog 168 [.string path_19] kR (fun (x45 : Value) =>
  funW x45 (fun (g146 : FuncId) (as147 cs148 : List Value) =>
  rfW Tryz.prog none g146 as147 cs148 [.sc .str, .sc .bool] (fun (l46 : Nat) (obj47 : LoopState → Option Code → Obj) (K48 : Value → H → Prop) => (fun (x49 : ByteArray) (x50 : Bool) =>
  begW l46 obj47 (rdT (rdC b25 3) kB (fun (x51 : Bool) =>
  brW (!x51)
  (stW Tryz.prog 86 (.pointer x23) (.agg ⟨[.int .i64 0, .string (⟨⟨[]⟩⟩ : ByteArray), .int .i64 0, .bool false]⟩) (stW Tryz.prog 32 (.pointer x24) (.int .i64 5) (roundK l46 obj47 K48 (some .ret) false .done)))
  (ptrW f_20 (fun (b52 o53 : Nat) =>
  rdT (rdC b52 o53) kP (fun (x54 : Option Addr) =>
  rdT (rdC b25 2) kI (fun (x55 : Int) =>
  callT Tryz.prog 70 [.pointer x54, .int .i64 x55] kI (fun (x56 : Int) =>
  brW ((x56 : Int) != 2)
  (stW Tryz.prog 86 (.pointer x23) (.agg ⟨[.int .i64 0, .string (⟨⟨[]⟩⟩ : ByteArray), .int .i64 0, .bool false]⟩) (stW Tryz.prog 32 (.pointer x24) (.int .i64 8) (roundK l46 obj47 K48 (some .ret) false .done)))
  (brW (strEq x49 (⟨⟨[46, 46]⟩⟩ : ByteArray))
  (ptrW f_20 (fun (b57 o58 : Nat) =>
  rdT (rdC b57 o58) kP (fun (x59 : Option Addr) =>
  ptrW x59 (fun (b60 o61 : Nat) =>
  rdT (rdC b60 o61) kP (fun (x62 : Option Addr) =>
  rdT (rdC b25 2) kI (fun (x63 : Int) =>
  callT Tryz.prog 101 [.pointer x62, .int .i64 x63] kI (fun (x64 : Int) =>
  stW Tryz.prog 86 (.pointer (some ⟨b25, 0, none⟩)) (.agg ⟨[.int .i64 x64, .string (⟨⟨[]⟩⟩ : ByteArray), .int .i64 x64, .bool true]⟩) (roundK l46 obj47 K48 none true .ready))))))))
  (brW (decide ((((x49.size : Nat) : Int) : Int) > 56))
  (stW Tryz.prog 86 (.pointer x23) (.agg ⟨[.int .i64 0, .string (⟨⟨[]⟩⟩ : ByteArray), .int .i64 0, .bool false]⟩) (stW Tryz.prog 32 (.pointer x24) (.int .i64 3) (roundK l46 obj47 K48 (some .ret) false .done)))
  (rdT (rdC b25 2) kI (fun (x65 : Int) =>
  stW Tryz.prog 86 (.pointer (some ⟨b25, 0, none⟩)) (.agg ⟨[.int .i64 x65, .string x49, .int .i64 0, .bool false]⟩) (ptrW f_20 (fun (b66 o67 : Nat) =>
  rdT (rdC b66 o67) kP (fun (x68 : Option Addr) =>
  ptrW x68 (fun (b69 o70 : Nat) =>
  rdT (rdC b69 o70) kP (fun (x71 : Option Addr) =>
  rdT (rdC b25 0) kI (fun (x72 : Int) =>
  callT Tryz.prog 102 [.pointer x71, .int .i64 x72, .string x49] (.tup [.sc (.int .i64), .sc .bool]) (fun (x73 : Int) (x74 : Bool) =>
  stW Tryz.prog 3 (.pointer (some ⟨b25, 2, none⟩)) (.int .i64 x73) (stW Tryz.prog 4 (.pointer (some ⟨b25, 3, none⟩)) (.bool x74) (letJ (T := Option Addr → Option Addr → Option Addr → Option Addr → Option Addr → Bool → H → Prop) (fun (f_76 : Option Addr) (hops_77 : Option Addr) (x78 : Option Addr) (x79 : Option Addr) (p_80 : Option Addr) (x81 : Bool) =>
  brW x81
  (roundK l46 obj47 K48 none true .ready)
  (ptrW hops_77 (fun (b82 o83 : Nat) =>
  rdT (rdC b82 o83) kP (fun (x84 : Option Addr) =>
  ptrW x84 (fun (b85 o86 : Nat) =>
  rdT (rdC b85 o86) kI (fun (x87 : Int) =>
  ptrW x84 (fun (b88 o89 : Nat) =>
  stW Tryz.prog 3 (.pointer (some ⟨b88, o89, none⟩)) (.int .i64 (IntKind.i64.wrap (x87 - 1))) (ptrW hops_77 (fun (b90 o91 : Nat) =>
  rdT (rdC b90 o91) kP (fun (x92 : Option Addr) =>
  ptrW x92 (fun (b93 o94 : Nat) =>
  rdT (rdC b93 o94) kI (fun (x95 : Int) =>
  brW (decide ((x95 : Int) < 0))
  (stW Tryz.prog 86 (.pointer x78) (.agg ⟨[.int .i64 0, .string (⟨⟨[]⟩⟩ : ByteArray), .int .i64 0, .bool false]⟩) (stW Tryz.prog 32 (.pointer x79) (.int .i64 9) (roundK l46 obj47 K48 (some .ret) false .done)))
  (ptrW f_76 (fun (b96 o97 : Nat) =>
  rdT (rdC b96 o97) kP (fun (x98 : Option Addr) =>
  ptrW x98 (fun (b99 o100 : Nat) =>
  rdT (rdC b99 o100) kP (fun (x101 : Option Addr) =>
  ptrW p_80 (fun (b102 o103 : Nat) =>
  rdT (rdC b102 (o103 + 2)) kI (fun (x104 : Int) =>
  callT Tryz.prog 63 [.pointer x101, .int .i64 x104] (.tup [.agg [(.int .i64), (.int .i64), .str, (.int .i64)], .sc .bool]) (fun (x105 : Int) (x106 : Int) (x107 : ByteArray) (x108 : Int) (_x109 : Bool) =>
  alW (.cells ⟨[.int .i64 0, .int .i64 0, .string (⟨⟨[]⟩⟩ : ByteArray), .int .i64 0]⟩ 54 (0, 0)) (fun (b110 : Nat) =>
  stW Tryz.prog 54 (.pointer (some ⟨b110, 0, none⟩)) (.agg ⟨[.int .i64 x105, .int .i64 x106, .string x107, .int .i64 x108]⟩) (ptrW f_76 (fun (b111 o112 : Nat) =>
  rdT (rdC b111 o112) kP (fun (x113 : Option Addr) =>
  ptrW p_80 (fun (b114 o115 : Nat) =>
  rdT (rdC b114 o115) kI (fun (x116 : Int) =>
  rdT (rdC b110 2) kS (fun (x117 : ByteArray) =>
  ptrW hops_77 (fun (b118 o119 : Nat) =>
  rdT (rdC b118 o119) kP (fun (x120 : Option Addr) =>
  callT Tryz.prog 114 [.pointer x113, .int .i64 x116, .string x117, .bool true, .pointer x120] (.tup [.agg [(.int .i64), .str, (.int .i64), .bool], .sc (.int .i64)]) (fun (x121 : Int) (x122 : ByteArray) (x123 : Int) (x124 : Bool) (x125 : Int) =>
  alW (.cells ⟨[.int .i64 0, .string (⟨⟨[]⟩⟩ : ByteArray), .int .i64 0, .bool false]⟩ 86 (0, 0)) (fun (b126 : Nat) =>
  stW Tryz.prog 86 (.pointer (some ⟨b126, 0, none⟩)) (.agg ⟨[.int .i64 x121, .string x122, .int .i64 x123, .bool x124]⟩) (brW ((x125 : Int) != 0)
  (stW Tryz.prog 86 (.pointer x78) (.agg ⟨[.int .i64 0, .string (⟨⟨[]⟩⟩ : ByteArray), .int .i64 0, .bool false]⟩) (stW Tryz.prog 32 (.pointer x79) (.int .i64 x125) (roundK l46 obj47 K48 (some .ret) false .done)))
  (rdT (rdA 4 b126 0) (.one (.agg [(.int .i64), .str, (.int .i64), .bool])) (fun (x127 : Int) (x128 : ByteArray) (x129 : Int) (x130 : Bool) =>
  stW Tryz.prog 86 (.pointer p_80) (.agg ⟨[.int .i64 x127, .string x128, .int .i64 x129, .bool x130]⟩) (roundK l46 obj47 K48 none true .ready))))))))))))))))))))))))))))))))))) (fun j75 =>
  rdT (rdC b25 3) kB (fun (x131 : Bool) =>
  brW (!x131)
  (j75 f_20 hops_22 x23 x24 (some ⟨b25, 0, none⟩) true)
  (brW x50
  (ptrW follow_21 (fun (b132 o133 : Nat) =>
  rdT (rdC b132 o133) kB (fun (x134 : Bool) =>
  brW (!x134)
  (j75 f_20 hops_22 x23 x24 (some ⟨b25, 0, none⟩) true)
  (ptrW f_20 (fun (b135 o136 : Nat) =>
  rdT (rdC b135 o136) kP (fun (x137 : Option Addr) =>
  rdT (rdC b25 2) kI (fun (x138 : Int) =>
  callT Tryz.prog 70 [.pointer x137, .int .i64 x138] kI (fun (x139 : Int) =>
  j75 f_20 hops_22 x23 x24 (some ⟨b25, 0, none⟩) ((x139 : Int) != 3)))))))))
  (ptrW f_20 (fun (b140 o141 : Nat) =>
  rdT (rdC b140 o141) kP (fun (x142 : Option Addr) =>
  rdT (rdC b25 2) kI (fun (x143 : Int) =>
  callT Tryz.prog 70 [.pointer x142, .int .i64 x143] kI (fun (x144 : Int) =>
  j75 f_20 hops_22 x23 x24 (some ⟨b25, 0, none⟩) ((x144 : Int) != 3)))))))))))))))))))))))))))))))
  (j26 x23 x24 (some ⟨b25, 0, none⟩))
  (fun (i145 : Nat) => exW i145 0 (j26 x23 x24 (some ⟨b25, 0, none⟩)) (nW))
  (ptrW x23 (fun (b149 o150 : Nat) =>
  rdT (rdA 4 b149 o150) (.one (.agg [(.int .i64), .str, (.int .i64), .bool])) (fun (r151 : Int) (r152 : ByteArray) (r153 : Int) (r154 : Bool) =>
  ptrW x24 (fun (b155 o156 : Nat) =>
  rdT (rdC b155 o156) kI (fun (r157 : Int) =>
  K (.tuple ⟨[.agg ⟨[.int .i64 r151, .string r152, .int .i64 r153, .bool r154]⟩, .int .i64 r157]⟩)))))))))))) (fun j17 =>
  idxW path_3 0 (fun (c158 : UInt8) =>
  brW (((c158.toNat : Int) : Int) == 47)
  (rdT (rdC b6 0) kP (fun (x159 : Option Addr) =>
  ptrW x159 (fun (b160 o161 : Nat) =>
  rdT (rdC b160 o161) kP (fun (x162 : Option Addr) =>
  callT Tryz.prog 100 [.pointer x162] kI (fun (x163 : Int) =>
  j17 x163 path_3 (some ⟨b6, 0, none⟩) (some ⟨b7, 0, none⟩) (some ⟨b8, 0, none⟩) (some ⟨b9, 0, none⟩) (some ⟨b10, 0, none⟩))))))
  (j17 at_2 path_3 (some ⟨b6, 0, none⟩) (some ⟨b7, 0, none⟩) (some ⟨b8, 0, none⟩) (some ⟨b9, 0, none⟩) (some ⟨b10, 0, none⟩)))))))))))
theorem e114 (f_1 : Option Addr) (at_2 : Int) (path_3 : ByteArray) (follow_4 : Bool) (hops_5 : Option Addr) (K : Value → H → Prop) : bodyF Tryz.prog tau Tryz.f114 an114 [.pointer f_1, .int .i64 at_2, .string path_3, .bool follow_4, .pointer hops_5] K = g114 f_1 at_2 path_3 follow_4 hops_5 K := by kernel_rfl
theorem c114 (f_1 : Option Addr) (at_2 : Int) (path_3 : ByteArray) (follow_4 : Bool) (hops_5 : Option Addr) {K : Value → H → Prop} {σ : H} (h : g114 f_1 at_2 path_3 follow_4 hops_5 K σ) : callW Tryz.prog 114 [.pointer f_1, .int .i64 at_2, .string path_3, .bool follow_4, .pointer hops_5] K σ := call_of_body mixed Tryz.func114 (by rw [e114]; exact h)


/-- (*whisk/inode.Table).get -/
def an115 : Ann := (.seq none (.reg [] []) (.seq none (.seq none (.reg [] []) (.cond (.seq none (.reg [] []) .leaf) .leaf)) (.seq none (.reg [] []) .leaf)))
def g115 (t_1 : Option Addr) (ino_2 : Int) (K : Value → H → Prop) : H → Prop :=
  brW t_1.isNone
  (K (.pointer none))
  (ptrW t_1 (fun (b3 o4 : Nat) =>
  rdT (rdC b3 (o4 + 4)) kM (fun (x5 : Option Nat) =>
  rdT (rdM (.int .i64) (.pointer none) false x5 (.int .i64 ino_2)) kP (fun (x6 : Option Addr) =>
  K (.pointer x6)))))
theorem e115 (t_1 : Option Addr) (ino_2 : Int) (K : Value → H → Prop) : bodyF Tryz.prog tau Tryz.f115 an115 [.pointer t_1, .int .i64 ino_2] K = g115 t_1 ino_2 K := by kernel_rfl
theorem c115 (t_1 : Option Addr) (ino_2 : Int) {K : Value → H → Prop} {σ : H} (h : g115 t_1 ino_2 K σ) : callW Tryz.prog 115 [.pointer t_1, .int .i64 ino_2] K σ := call_of_body mixed Tryz.func115 (by rw [e115]; exact h)


/-- (*whisk/inode.Table).Write$1 -/
def an116 : Ann := (.seq none (.reg [] []) (.seq none (.reg [0, 1, 2, 3, 4, 5, 6, 7, 8, 9, 10, 11, 12, 13, 14, 15, 16, 17] [[], [], [1], [], [3], [3, 4], [3, 4, 5], [], [3, 4, 5, 6, 7], [3, 4, 5, 6, 7, 8], [3, 4, 5, 6, 7, 8, 9], [3, 4, 5, 6, 7, 8, 9, 10], [3, 4, 5, 6, 7, 8, 9, 10, 11], [3, 4, 5, 6, 7, 8, 9, 10, 11, 12], [1, 2, 3, 4, 5, 6, 7, 8, 9, 10, 11, 12, 13], [0, 1, 2, 3, 4, 5, 6, 7, 8, 9, 10, 11, 12, 13, 14], [0, 1, 2, 3, 4, 5, 6, 7, 8, 9, 10, 11, 12, 13, 14, 15], [0, 1, 2, 3, 4, 5, 6, 7, 8, 9, 10, 11, 12, 13, 14, 15, 16]]) .leaf))
def g116 (x1 : Option Addr) (x2 : Option Addr) (x3 : Option Addr) (K : Value → H → Prop) : H → Prop :=
  ptrW x1 (fun (b4 o5 : Nat) =>
  rdT (rdC b4 o5) kP (fun (x6 : Option Addr) =>
  ptrW x2 (fun (b7 o8 : Nat) =>
  rdT (rdC b7 o8) kS (fun (x9 : ByteArray) =>
  ptrW x1 (fun (b10 o11 : Nat) =>
  rdT (rdC b10 o11) kP (fun (x12 : Option Addr) =>
  ptrW x12 (fun (b13 o14 : Nat) =>
  rdT (rdC b13 (o14 + 4)) kM (fun (x15 : Option Nat) =>
  ptrW x3 (fun (b16 o17 : Nat) =>
  rdT (rdC b16 o17) kI (fun (x18 : Int) =>
  rdT (rdM (.int .i64) (.pointer none) false x15 (.int .i64 x18)) kP (fun (x19 : Option Addr) =>
  ptrW x19 (fun (b20 o21 : Nat) =>
  rdT (rdC b20 (o21 + 2)) kS (fun (x22 : ByteArray) =>
  callT Tryz.prog 111 [.pointer x6, .int .i64 0, .int .i64 (IntKind.i64.wrap (((x9.size : Nat) : Int) - ((x22.size : Nat) : Int)))] kR (fun (x23 : Value) =>
  cvalT Tryz.prog x23 [] kI (fun (x24 : Int) =>
  K (.int .i64 x24))))))))))))))))
theorem e116 (x1 : Option Addr) (x2 : Option Addr) (x3 : Option Addr) (K : Value → H → Prop) : bodyF Tryz.prog tau Tryz.f116 an116 [.pointer x1, .pointer x2, .pointer x3] K = g116 x1 x2 x3 K := by kernel_rfl
theorem c116 (x1 : Option Addr) (x2 : Option Addr) (x3 : Option Addr) {K : Value → H → Prop} {σ : H} (h : g116 x1 x2 x3 K σ) : callW Tryz.prog 116 [.pointer x1, .pointer x2, .pointer x3] K σ := call_of_body mixed Tryz.func116 (by rw [e116]; exact h)


/-- (*whisk/inode.Table).file -/
def an117 : Ann := (.seq none (.reg [] []) (.seq none (.reg [] []) .leaf))
def g117 (t_1 : Option Addr) (ino_2 : Int) (K : Value → H → Prop) : H → Prop :=
  alW (.cells ⟨[.pointer t_1]⟩ 80 (0, 0)) (fun (b3 : Nat) =>
  alW (.cells ⟨[.int .i64 ino_2]⟩ 3 (0, 0)) (fun (b4 : Nat) =>
  K (.func (.func 169) ⟨[]⟩ ⟨[.pointer (some ⟨b3, 0, none⟩), .pointer (some ⟨b4, 0, none⟩)]⟩)))
theorem e117 (t_1 : Option Addr) (ino_2 : Int) (K : Value → H → Prop) : bodyF Tryz.prog tau Tryz.f117 an117 [.pointer t_1, .int .i64 ino_2] K = g117 t_1 ino_2 K := by kernel_rfl
theorem c117 (t_1 : Option Addr) (ino_2 : Int) {K : Value → H → Prop} {σ : H} (h : g117 t_1 ino_2 K σ) : callW Tryz.prog 117 [.pointer t_1, .int .i64 ino_2] K σ := call_of_body mixed Tryz.func117 (by rw [e117]; exact h)


/-- internal/stringslite.IndexByte -/
def an118 : Ann := (.seq none (.reg [] []) (.seq none (.reg [] []) .leaf))
def g118 (s_1 : ByteArray) (c_2 : Int) (K : Value → H → Prop) : H → Prop :=
  cvalT Tryz.prog (.func (.func 170) ⟨[]⟩ ⟨[]⟩) [.string s_1, .int .u8 c_2] kI (fun (x3 : Int) =>
  K (.int .i64 x3))
theorem e118 (s_1 : ByteArray) (c_2 : Int) (K : Value → H → Prop) : bodyF Tryz.prog tau Tryz.f118 an118 [.string s_1, .int .u8 c_2] K = g118 s_1 c_2 K := by kernel_rfl
theorem c118 (s_1 : ByteArray) (c_2 : Int) {K : Value → H → Prop} {σ : H} (h : g118 s_1 c_2 K σ) : callW Tryz.prog 118 [.string s_1, .int .u8 c_2] K σ := call_of_body mixed Tryz.func118 (by rw [e118]; exact h)


/-- maps.Keys map string int string int  -/
def an120 : Ann := (.seq none (.reg [] []) (.seq none (.reg [] []) .leaf))
def g120 (m_1 : Option Nat) (K : Value → H → Prop) : H → Prop :=
  alW (.cells ⟨[.map m_1]⟩ 140 (0, 0)) (fun (b2 : Nat) =>
  K (.func (.func 173) ⟨[]⟩ ⟨[.pointer (some ⟨b2, 0, none⟩)]⟩))
theorem e120 (m_1 : Option Nat) (K : Value → H → Prop) : bodyF Tryz.prog tau Tryz.f120 an120 [.map m_1] K = g120 m_1 K := by kernel_rfl
theorem c120 (m_1 : Option Nat) {K : Value → H → Prop} {σ : H} (h : g120 m_1 K σ) : callW Tryz.prog 120 [.map m_1] K σ := call_of_body mixed Tryz.func120 (by rw [e120]; exact h)


/-- (*whisk/inode.Table).Unlink$1 -/
def an121 : Ann := (.seq none (.reg [] []) (.seq none (.reg [] []) (.seq none (.reg [] []) .leaf)))
def g121 (x1 : Option Addr) (x2 : Option Addr) (x3 : Option Addr) (K : Value → H → Prop) : H → Prop :=
  ptrW x1 (fun (b4 o5 : Nat) =>
  rdT (rdC b4 o5) kP (fun (x6 : Option Addr) =>
  ptrW x2 (fun (b7 o8 : Nat) =>
  rdT (rdC b7 o8) kI (fun (x9 : Int) =>
  ptrW x3 (fun (b10 o11 : Nat) =>
  rdT (rdC b10 o11) kS (fun (x12 : ByteArray) =>
  callT Tryz.prog 102 [.pointer x6, .int .i64 x9, .string x12] (.tup [.sc (.int .i64), .sc .bool]) (fun (x13 : Int) (_x14 : Bool) =>
  ptrW x1 (fun (b15 o16 : Nat) =>
  rdT (rdC b15 o16) kP (fun (x17 : Option Addr) =>
  ptrW x17 (fun (b18 o19 : Nat) =>
  rdT (rdC b18 (o19 + 4)) kM (fun (x20 : Option Nat) =>
  rdT (rdM (.int .i64) (.pointer none) false x20 (.int .i64 x13)) kP (fun (x21 : Option Addr) =>
  ptrW x21 (fun (b22 o23 : Nat) =>
  rdT (rdC b22 (o23 + 5)) kM (fun (x24 : Option Nat) =>
  rdT (rdLen x24) kI (fun (x25 : Int) =>
  callT Tryz.prog 104 [.bool ((x25 : Int) == 0), .int .i64 20] kI (fun (x26 : Int) =>
  K (.int .i64 x26)))))))))))))))))
theorem e121 (x1 : Option Addr) (x2 : Option Addr) (x3 : Option Addr) (K : Value → H → Prop) : bodyF Tryz.prog tau Tryz.f121 an121 [.pointer x1, .pointer x2, .pointer x3] K = g121 x1 x2 x3 K := by kernel_rfl
theorem c121 (x1 : Option Addr) (x2 : Option Addr) (x3 : Option Addr) {K : Value → H → Prop} {σ : H} (h : g121 x1 x2 x3 K σ) : callW Tryz.prog 121 [.pointer x1, .pointer x2, .pointer x3] K σ := call_of_body mixed Tryz.func121 (by rw [e121]; exact h)


/-- (*whisk/inode.Table).entry -/
def an122 : Ann := (.seq none (.reg [] []) (.seq none (.reg [] []) .leaf))
def g122 (t_1 : Option Addr) (dir_2 : Int) (name_3 : ByteArray) (K : Value → H → Prop) : H → Prop :=
  alW (.cells ⟨[.pointer t_1]⟩ 80 (0, 0)) (fun (b4 : Nat) =>
  alW (.cells ⟨[.int .i64 dir_2]⟩ 3 (0, 0)) (fun (b5 : Nat) =>
  alW (.cells ⟨[.string name_3]⟩ 9 (0, 0)) (fun (b6 : Nat) =>
  K (.func (.func 174) ⟨[]⟩ ⟨[.pointer (some ⟨b4, 0, none⟩), .pointer (some ⟨b5, 0, none⟩), .pointer (some ⟨b6, 0, none⟩)]⟩))))
theorem e122 (t_1 : Option Addr) (dir_2 : Int) (name_3 : ByteArray) (K : Value → H → Prop) : bodyF Tryz.prog tau Tryz.f122 an122 [.pointer t_1, .int .i64 dir_2, .string name_3] K = g122 t_1 dir_2 name_3 K := by kernel_rfl
theorem c122 (t_1 : Option Addr) (dir_2 : Int) (name_3 : ByteArray) {K : Value → H → Prop} {σ : H} (h : g122 t_1 dir_2 name_3 K σ) : callW Tryz.prog 122 [.pointer t_1, .int .i64 dir_2, .string name_3] K σ := call_of_body mixed Tryz.func122 (by rw [e122]; exact h)


/-- (*whisk/inode.Table).Chmod$1 -/
def an123 : Ann := (.seq none (.reg [] []) (.seq none (.reg [] []) .leaf))
def g123 (x1 : Option Addr) (K : Value → H → Prop) : H → Prop :=
  ptrW x1 (fun (b2 o3 : Nat) =>
  rdT (rdC b2 o3) kI (fun (x4 : Int) =>
  brW (decide ((x4 : Int) ≥ 0))
  (ptrW x1 (fun (b5 o6 : Nat) =>
  rdT (rdC b5 o6) kI (fun (x7 : Int) =>
  callT Tryz.prog 104 [.bool (decide ((x7 : Int) ≤ 511)), .int .i64 2] kI (fun (x8 : Int) =>
  K (.int .i64 x8)))))
  (callT Tryz.prog 104 [.bool false, .int .i64 2] kI (fun (x9 : Int) =>
  K (.int .i64 x9)))))
theorem e123 (x1 : Option Addr) (K : Value → H → Prop) : bodyF Tryz.prog tau Tryz.f123 an123 [.pointer x1] K = g123 x1 K := by kernel_rfl
theorem c123 (x1 : Option Addr) {K : Value → H → Prop} {σ : H} (h : g123 x1 K σ) : callW Tryz.prog 123 [.pointer x1] K σ := call_of_body mixed Tryz.func123 (by rw [e123]; exact h)


/-- (*whisk/inode.Table).Chmod$2 -/
def an124 : Ann := (.seq none (.reg [] []) (.seq none (.reg [] []) .leaf))
def g124 (x1 : Option Addr) (x2 : Option Addr) (K : Value → H → Prop) : H → Prop :=
  ptrW x1 (fun (b3 o4 : Nat) =>
  rdT (rdC b3 o4) kP (fun (x5 : Option Addr) =>
  ptrW x2 (fun (b6 o7 : Nat) =>
  rdT (rdC b6 o7) kI (fun (x8 : Int) =>
  callT Tryz.prog 115 [.pointer x5, .int .i64 x8] kP (fun (x9 : Option Addr) =>
  callT Tryz.prog 104 [.bool (!x9.isNone), .int .i64 5] kI (fun (x10 : Int) =>
  K (.int .i64 x10)))))))
theorem e124 (x1 : Option Addr) (x2 : Option Addr) (K : Value → H → Prop) : bodyF Tryz.prog tau Tryz.f124 an124 [.pointer x1, .pointer x2] K = g124 x1 x2 K := by kernel_rfl
theorem c124 (x1 : Option Addr) (x2 : Option Addr) {K : Value → H → Prop} {σ : H} (h : g124 x1 x2 K σ) : callW Tryz.prog 124 [.pointer x1, .pointer x2] K σ := call_of_body mixed Tryz.func124 (by rw [e124]; exact h)


/-- (whisk/canon.taker).at$1 -/
def an125 : Ann := (.seq none (.reg [] []) (.seq none (.reg [] []) (.seq none (.reg [] []) .leaf)))
def g125 (x1 : Option Addr) (x2 : Option Addr) (K : Value → H → Prop) : H → Prop :=
  ptrW x1 (fun (b3 o4 : Nat) =>
  rdT (rdC b3 (o4 + 1)) kI (fun (x5 : Int) =>
  ptrW x2 (fun (b6 o7 : Nat) =>
  stW Tryz.prog 4 (.pointer (some ⟨b6, o7 + 2, none⟩)) (.bool (((bitV .and .i64 x5 73) : Int) != 0)) (K (.int .i64 0)))))
theorem e125 (x1 : Option Addr) (x2 : Option Addr) (K : Value → H → Prop) : bodyF Tryz.prog tau Tryz.f125 an125 [.pointer x1, .pointer x2] K = g125 x1 x2 K := by kernel_rfl
theorem c125 (x1 : Option Addr) (x2 : Option Addr) {K : Value → H → Prop} {σ : H} (h : g125 x1 x2 K σ) : callW Tryz.prog 125 [.pointer x1, .pointer x2] K σ := call_of_body mixed Tryz.func125 (by rw [e125]; exact h)


/-- (whisk/canon.taker).at$2 -/
def an126 : Ann := (.seq none (.reg [] []) (.seq (some [(3, .sc .ptr)]) (.seq none (.reg [] []) (.blk (.rf [.agg [.str, (.int .i64), .bool, .str, .slc], .sc (.int .i64)] (.seq none (.reg [] []) (.reg [] [])) (.blk (.seq none (.seq none (.reg [] []) (.cond (.seq none (.reg [] []) .leaf) .leaf)) (.reg2 [0, 1, 2, 3, 4, 5, 6, 8] 7 [9] 9 [7] [[], [0], [], [0, 1], [], [0, 1, 2, 3, 4], [0, 1, 2, 3, 4, 5], [0, 1, 2, 3, 4, 5, 6], [0, 1, 2, 3, 4, 5], [0, 1, 2, 3, 4, 5, 8]])))))) (.seq none (.reg [] []) .leaf)))
def g126 (x1 : Option Addr) (x2 : Option Addr) (x3 : Option Addr) (K : Value → H → Prop) : H → Prop :=
  alW (.cells ⟨[.int .i64 0]⟩ 32 (0, 0)) (fun (b4 : Nat) =>
  letJ (T := Option Addr → H → Prop) (fun (x6 : Option Addr) =>
  stW Tryz.prog 32 (.pointer x6) (.int .i64 0) (ptrW x6 (fun (b7 o8 : Nat) =>
  rdT (rdC b7 o8) kI (fun (r9 : Int) =>
  K (.int .i64 r9))))) (fun j5 =>
  ptrW x1 (fun (b10 o11 : Nat) =>
  rdT (rdA 1 b10 o11) (.one (.agg [.ptr])) (fun (x12 : Option Addr) =>
  ptrW x2 (fun (b13 o14 : Nat) =>
  rdT (rdC b13 o14) kS (fun (x15 : ByteArray) =>
  callT Tryz.prog 127 [.agg ⟨[.pointer x12]⟩, .string x15] kR (fun (x16 : Value) =>
  funW x16 (fun (g42 : FuncId) (as43 cs44 : List Value) =>
  rfW Tryz.prog none g42 as43 cs44 [.agg [.str, (.int .i64), .bool, .str, .slc], .sc (.int .i64)] (fun (l17 : Nat) (obj18 : LoopState → Option Code → Obj) (K19 : Value → H → Prop) => (fun (x20 : ByteArray) (x21 : Int) (x22 : Bool) (x23 : ByteArray) (x24 : Sl) (x25 : Int) =>
  alW (.cells ⟨[.string (⟨⟨[]⟩⟩ : ByteArray), .int .i64 0, .bool false, .string (⟨⟨[]⟩⟩ : ByteArray), .slice none 0 0]⟩ 24 (0, 0)) (fun (b26 : Nat) =>
  stW Tryz.prog 24 (.pointer (some ⟨b26, 0, none⟩)) (.agg ⟨[.string x20, .int .i64 x21, .bool x22, .string x23, .slice x24.base x24.len x24.cap]⟩) (begW l17 obj18 (brW ((x25 : Int) != 0)
  (stW Tryz.prog 32 (.pointer (some ⟨b4, 0, none⟩)) (.int .i64 x25) (roundK l17 obj18 K19 (some .ret) false .done))
  (ptrW x3 (fun (b27 o28 : Nat) =>
  rdT (rdC b27 (o28 + 4)) kL (fun (x29 : Sl) =>
  rdT (rdA 5 b26 0) (.one (.agg [.str, (.int .i64), .bool, .str, .slc])) (fun (x30 : ByteArray) (x31 : Int) (x32 : Bool) (x33 : ByteArray) (x34 : Sl) =>
  alW (.cells ⟨[.string (⟨⟨[]⟩⟩ : ByteArray), .int .i64 0, .bool false, .string (⟨⟨[]⟩⟩ : ByteArray), .slice none 0 0]⟩ 24 (0, 0)) (fun (b35 : Nat) =>
  biW Tryz.prog .append #[22, 22] 22 [false, false] [.slice x29.base x29.len x29.cap, .slice (some ⟨b35, 0, none⟩) 1 1] kL (fun (x36 : Sl) =>
  ptrW x36.base (fun (b37 o38 : Nat) =>
  ifW (0 ≤ ((x29.len : Nat) : Int) ∧ ((x29.len : Nat) : Int) < ((x36.len : Nat) : Int))
  (ptrW x3 (fun (b39 o40 : Nat) =>
  bothW
  (stW Tryz.prog 24 (.pointer (some ⟨b37, o38 + (((x29.len : Nat) : Int) : Int).toNat * 5, none⟩)) (.agg ⟨[.string x30, .int .i64 x31, .bool x32, .string x33, .slice x34.base x34.len x34.cap]⟩) (stW Tryz.prog 22 (.pointer (some ⟨b39, o40 + 4, none⟩)) (.slice x36.base x36.len x36.cap) (roundK l17 obj18 K19 none true .ready)))
  (stW Tryz.prog 22 (.pointer (some ⟨b39, o40 + 4, none⟩)) (.slice x36.base x36.len x36.cap) (stW Tryz.prog 24 (.pointer (some ⟨b37, o38 + (((x29.len : Nat) : Int) : Int).toNat * 5, none⟩)) (.agg ⟨[.string x30, .int .i64 x31, .bool x32, .string x33, .slice x34.base x34.len x34.cap]⟩) (roundK l17 obj18 K19 none true .ready)))))))))))))))))
  (j5 (some ⟨b4, 0, none⟩))
  (fun (i41 : Nat) => exW i41 0 (j5 (some ⟨b4, 0, none⟩)) (nW))
  (rdT (rdC b4 0) kI (fun (r45 : Int) =>
  K (.int .i64 r45)))))))))))
theorem e126 (x1 : Option Addr) (x2 : Option Addr) (x3 : Option Addr) (K : Value → H → Prop) : bodyF Tryz.prog tau Tryz.f126 an126 [.pointer x1, .pointer x2, .pointer x3] K = g126 x1 x2 x3 K := by kernel_rfl
theorem c126 (x1 : Option Addr) (x2 : Option Addr) (x3 : Option Addr) {K : Value → H → Prop} {σ : H} (h : g126 x1 x2 x3 K σ) : callW Tryz.prog 126 [.pointer x1, .pointer x2, .pointer x3] K σ := call_of_body mixed Tryz.func126 (by rw [e126]; exact h)


/-- (whisk/canon.taker).kids -/
def an127 : Ann := (.seq none (.reg [] []) (.seq none (.reg [] []) .leaf))
def g127 (t_1 : Option Addr) (path_2 : ByteArray) (K : Value → H → Prop) : H → Prop :=
  alW (.cells ⟨[.pointer t_1]⟩ 110 (0, 0)) (fun (b3 : Nat) =>
  alW (.cells ⟨[.string path_2]⟩ 9 (0, 0)) (fun (b4 : Nat) =>
  K (.func (.func 175) ⟨[]⟩ ⟨[.pointer (some ⟨b3, 0, none⟩), .pointer (some ⟨b4, 0, none⟩)]⟩)))
theorem e127 (t_1 : Option Addr) (path_2 : ByteArray) (K : Value → H → Prop) : bodyF Tryz.prog tau Tryz.f127 an127 [.agg ⟨[.pointer t_1]⟩, .string path_2] K = g127 t_1 path_2 K := by kernel_rfl
theorem c127 (t_1 : Option Addr) (path_2 : ByteArray) {K : Value → H → Prop} {σ : H} (h : g127 t_1 path_2 K σ) : callW Tryz.prog 127 [.agg ⟨[.pointer t_1]⟩, .string path_2] K σ := call_of_body mixed Tryz.func127 (by rw [e127]; exact h)


/-- whisk/tree.Deep -/
def an128 : Ann := (.seq none (.reg [] []) (.seq none (.reg [] []) .leaf))
def g128 (n_1 : ByteArray) (n_2 : Int) (n_3 : Bool) (n_4 : ByteArray) (n_5 : Sl) (K : Value → H → Prop) : H → Prop :=
  alW (.cells ⟨[.string n_1, .int .i64 n_2, .bool n_3, .string n_4, .slice n_5.base n_5.len n_5.cap]⟩ 24 (0, 0)) (fun (b6 : Nat) =>
  rdT (rdA 5 b6 0) (.one (.agg [.str, (.int .i64), .bool, .str, .slc])) (fun (x7 : ByteArray) (x8 : Int) (x9 : Bool) (x10 : ByteArray) (x11 : Sl) =>
  callT Tryz.prog 177 [.agg ⟨[.string x7, .int .i64 x8, .bool x9, .string x10, .slice x11.base x11.len x11.cap]⟩, .int .i64 14] kI (fun (x12 : Int) =>
  K (.int .i64 x12))))
theorem e128 (n_1 : ByteArray) (n_2 : Int) (n_3 : Bool) (n_4 : ByteArray) (n_5 : Sl) (K : Value → H → Prop) : bodyF Tryz.prog tau Tryz.f128 an128 [.agg ⟨[.string n_1, .int .i64 n_2, .bool n_3, .string n_4, .slice n_5.base n_5.len n_5.cap]⟩] K = g128 n_1 n_2 n_3 n_4 n_5 K := by kernel_rfl
theorem c128 (n_1 : ByteArray) (n_2 : Int) (n_3 : Bool) (n_4 : ByteArray) (n_5 : Sl) {K : Value → H → Prop} {σ : H} (h : g128 n_1 n_2 n_3 n_4 n_5 K σ) : callW Tryz.prog 128 [.agg ⟨[.string n_1, .int .i64 n_2, .bool n_3, .string n_4, .slice n_5.base n_5.len n_5.cap]⟩] K σ := call_of_body mixed Tryz.func128 (by rw [e128]; exact h)


/-- strings.Index -/
def an130 : Ann := (.seq none (.reg [] []) (.seq none (.reg [] []) .leaf))
def g130 (s_1 : ByteArray) (substr_2 : ByteArray) (K : Value → H → Prop) : H → Prop :=
  callT Tryz.prog 180 [.string s_1, .string substr_2] kI (fun (x3 : Int) =>
  K (.int .i64 x3))
theorem e130 (s_1 : ByteArray) (substr_2 : ByteArray) (K : Value → H → Prop) : bodyF Tryz.prog tau Tryz.f130 an130 [.string s_1, .string substr_2] K = g130 s_1 substr_2 K := by kernel_rfl
theorem c130 (s_1 : ByteArray) (substr_2 : ByteArray) {K : Value → H → Prop} {σ : H} (h : g130 s_1 substr_2 K σ) : callW Tryz.prog 130 [.string s_1, .string substr_2] K σ := call_of_body mixed Tryz.func130 (by rw [e130]; exact h)


/-- (*whisk/fs.Fs).within -/
def an132 : Ann := (.seq none (.reg [] []) (.seq none (.blk (.loop [(0, .sc .ptr), (1, .sc (.int .i64)), (2, .sc (.int .i64))] (.seq none (.seq (some [(0, .sc .ptr), (1, .sc (.int .i64)), (2, .sc (.int .i64)), (11, .sc .raw), (12, .sc .raw), (13, .sc .raw), (14, .sc .raw), (15, .sc .raw), (16, .sc .raw), (17, .sc .raw), (18, .sc .bool)]) (.reg [] []) (.cond .leaf .leaf)) (.blk (.reg [] []))))) (.seq none (.reg [] []) .leaf)))
def g132 (f_1 : Option Addr) (dir_2 : Int) (ino_3 : Int) (K : Value → H → Prop) : H → Prop :=
  loopW [.sc .ptr, .sc (.int .i64), .sc (.int .i64)] (fun (R4 : Option Addr → Int → Int → H → Prop) => (fun (f_5 : Option Addr) (dir_6 : Int) (ino_7 : Int) =>
  letJ (T := Option Addr → Int → Int → Value → Value → Value → Value → Value → Value → Value → Bool → H → Prop) (fun (f_9 : Option Addr) (dir_10 : Int) (ino_11 : Int) (_x12 : Value) (_x13 : Value) (_x14 : Value) (_x15 : Value) (_x16 : Value) (_x17 : Value) (_x18 : Value) (x19 : Bool) =>
  brW x19
  (ptrW f_9 (fun (b20 o21 : Nat) =>
  rdT (rdC b20 o21) kP (fun (x22 : Option Addr) =>
  callT Tryz.prog 101 [.pointer x22, .int .i64 dir_10] kI (fun (x23 : Int) =>
  R4 f_9 x23 ino_11))))
  (K (.bool ((dir_10 : Int) == ino_11)))) (fun j8 =>
  brW ((dir_6 : Int) != ino_7)
  (ptrW f_5 (fun (b24 o25 : Nat) =>
  rdT (rdC b24 o25) kP (fun (x26 : Option Addr) =>
  callT Tryz.prog 100 [.pointer x26] kI (fun (x27 : Int) =>
  j8 f_5 dir_6 ino_7 (.int .i64 dir_6) (.pointer f_5) (.pointer (some ⟨b24, o25, none⟩)) (.pointer (some ⟨b24, o25, none⟩)) (.pointer x26) (.int .i64 x27) (.bool ((dir_6 : Int) != x27)) ((dir_6 : Int) != x27)))))
  (j8 f_5 dir_6 ino_7 (.tuple ⟨[]⟩) (.tuple ⟨[]⟩) (.tuple ⟨[]⟩) (.tuple ⟨[]⟩) (.tuple ⟨[]⟩) (.tuple ⟨[]⟩) (.tuple ⟨[]⟩) false)))) (fun (R28 : Option Addr → Int → Int → H → Prop) => R28 f_1 dir_2 ino_3)
theorem e132 (f_1 : Option Addr) (dir_2 : Int) (ino_3 : Int) (K : Value → H → Prop) : bodyF Tryz.prog tau Tryz.f132 an132 [.pointer f_1, .int .i64 dir_2, .int .i64 ino_3] K = g132 f_1 dir_2 ino_3 K := by kernel_rfl
theorem c132 (f_1 : Option Addr) (dir_2 : Int) (ino_3 : Int) {K : Value → H → Prop} {σ : H} (h : g132 f_1 dir_2 ino_3 K σ) : callW Tryz.prog 132 [.pointer f_1, .int .i64 dir_2, .int .i64 ino_3] K σ := call_of_body mixed Tryz.func132 (by rw [e132]; exact h)


/-- (*whisk/fs.Fs).levels -/
def an133 : Ann := (.seq none (.reg [] []) (.seq none (.seq none (.reg [] []) (.cond (.seq none (.reg [] []) .leaf) .leaf)) (.seq none (.reg [] []) (.seq none (.seq none (.reg [] []) (.blk (.loop [(0, .sc .ptr), (1, .sc (.int .i64)), (5, .sc (.int .i64)), (19, .sc .slc), (20, .sc (.int .i64)), (21, .sc (.int .i64))] (.seq none (.reg [] []) (.seq none (.cond .leaf .leaf) (.seq none (.blk (.seq none (.reg [] []) (.seq none (.reg [] []) (.reg [] [])))) (.reg [] []))))))) (.seq none (.reg [] []) .leaf)))))
def g133 (f_1 : Option Addr) (ino_2 : Int) (K : Value → H → Prop) : H → Prop :=
  callT Tryz.prog 70 [.pointer f_1, .int .i64 ino_2] kI (fun (x3 : Int) =>
  brW ((x3 : Int) != 2)
  (K (.int .i64 0))
  (ptrW f_1 (fun (b4 o5 : Nat) =>
  rdT (rdC b4 o5) kP (fun (x6 : Option Addr) =>
  callT Tryz.prog 67 [.pointer x6, .int .i64 ino_2] kL (fun (x7 : Sl) =>
  loopW [.sc .ptr, .sc (.int .i64), .sc (.int .i64), .sc .slc, .sc (.int .i64), .sc (.int .i64)] (fun (R8 : Option Addr → Int → Int → Sl → Int → Int → H → Prop) => (fun (f_9 : Option Addr) (ino_10 : Int) (n_11 : Int) (x12 : Sl) (x13 : Int) (x14 : Int) =>
  brW (decide ((x14 : Int) < x13))
  (ptrW x12.base (fun (b15 o16 : Nat) =>
  ifW (0 ≤ x14 ∧ x14 < ((x12.len : Nat) : Int))
  (rdT (rdC b15 (o16 + x14.toNat * 1)) kS (fun (x17 : ByteArray) =>
  ptrW f_9 (fun (b18 o19 : Nat) =>
  rdT (rdC b18 o19) kP (fun (x20 : Option Addr) =>
  callT Tryz.prog 102 [.pointer x20, .int .i64 ino_10, .string x17] (.tup [.sc (.int .i64), .sc .bool]) (fun (x21 : Int) (_x22 : Bool) =>
  callT Tryz.prog 133 [.pointer f_9, .int .i64 x21] kI (fun (x23 : Int) =>
  R8 f_9 ino_10 (if x23 > n_11 then x23 else n_11) x12 x13 (IntKind.i64.wrap (x14 + 1))))))))))
  (K (.int .i64 (IntKind.i64.wrap (n_11 + 1)))))) (fun (R24 : Option Addr → Int → Int → Sl → Int → Int → H → Prop) => R24 f_1 ino_2 0 x7 ((x7.len : Nat) : Int) 0))))))
theorem e133 (f_1 : Option Addr) (ino_2 : Int) (K : Value → H → Prop) : bodyF Tryz.prog tau Tryz.f133 an133 [.pointer f_1, .int .i64 ino_2] K = g133 f_1 ino_2 K := by kernel_rfl
theorem c133 (f_1 : Option Addr) (ino_2 : Int) {K : Value → H → Prop} {σ : H} (h : g133 f_1 ino_2 K σ) : callW Tryz.prog 133 [.pointer f_1, .int .i64 ino_2] K σ := call_of_body mixed Tryz.func133 (by rw [e133]; exact h)


/-- (*whisk/inode.Table).Move$1 -/
def an134 : Ann := (.seq none (.reg [] []) (.seq none (.seq none (.reg [] []) (.blk (.loop [(1, .sc .ptr), (2, .sc .ptr), (4, .sc (.int .i64))] (.seq none (.seq none (.reg [] []) (.cond .leaf .leaf)) (.seq none (.blk (.seq none (.reg [] []) (.cond (.seq none (.reg [] []) .leaf) .leaf))) (.reg [] [])))))) (.seq none (.reg [] []) .leaf)))
def g134 (x1 : Option Addr) (x2 : Option Addr) (x3 : Option Addr) (K : Value → H → Prop) : H → Prop :=
  ptrW x1 (fun (b4 o5 : Nat) =>
  rdT (rdC b4 o5) kI (fun (x6 : Int) =>
  loopW [.sc .ptr, .sc .ptr, .sc (.int .i64)] (fun (R7 : Option Addr → Option Addr → Int → H → Prop) => (fun (x8 : Option Addr) (x9 : Option Addr) (at_10 : Int) =>
  brW ((at_10 : Int) != 1)
  (ptrW x9 (fun (b11 o12 : Nat) =>
  rdT (rdC b11 o12) kI (fun (x13 : Int) =>
  brW ((at_10 : Int) == x13)
  (K (.int .i64 2))
  (ptrW x8 (fun (b14 o15 : Nat) =>
  rdT (rdC b14 o15) kP (fun (x16 : Option Addr) =>
  ptrW x16 (fun (b17 o18 : Nat) =>
  rdT (rdC b17 (o18 + 4)) kM (fun (x19 : Option Nat) =>
  rdT (rdM (.int .i64) (.pointer none) false x19 (.int .i64 at_10)) kP (fun (x20 : Option Addr) =>
  ptrW x20 (fun (b21 o22 : Nat) =>
  rdT (rdC b21 (o22 + 4)) kI (fun (x23 : Int) =>
  R7 x8 x9 x23)))))))))))
  (K (.int .i64 0)))) (fun (R24 : Option Addr → Option Addr → Int → H → Prop) => R24 x2 x3 x6)))
theorem e134 (x1 : Option Addr) (x2 : Option Addr) (x3 : Option Addr) (K : Value → H → Prop) : bodyF Tryz.prog tau Tryz.f134 an134 [.pointer x1, .pointer x2, .pointer x3] K = g134 x1 x2 x3 K := by kernel_rfl
theorem c134 (x1 : Option Addr) (x2 : Option Addr) (x3 : Option Addr) {K : Value → H → Prop} {σ : H} (h : g134 x1 x2 x3 K σ) : callW Tryz.prog 134 [.pointer x1, .pointer x2, .pointer x3] K σ := call_of_body mixed Tryz.func134 (by rw [e134]; exact h)


/-- internal/stringslite.HasPrefix -/
def an152 : Ann := (.seq none (.reg [] []) (.seq none (.reg [] []) .leaf))
def g152 (s_1 : ByteArray) (prefix_2 : ByteArray) (K : Value → H → Prop) : H → Prop :=
  brW (decide ((((s_1.size : Nat) : Int) : Int) ≥ ((prefix_2.size : Nat) : Int)))
  (ifW (bndOk (some ((prefix_2.size : Nat) : Int)) s_1.size ∧ bndOk none (((prefix_2.size : Nat) : Int).toNat))
  (K (.bool (strEq (s_1.extract 0 (((prefix_2.size : Nat) : Int).toNat)) prefix_2))))
  (K (.bool false))
theorem e152 (s_1 : ByteArray) (prefix_2 : ByteArray) (K : Value → H → Prop) : bodyF Tryz.prog tau Tryz.f152 an152 [.string s_1, .string prefix_2] K = g152 s_1 prefix_2 K := by kernel_rfl
theorem c152 (s_1 : ByteArray) (prefix_2 : ByteArray) {K : Value → H → Prop} {σ : H} (h : g152 s_1 prefix_2 K σ) : callW Tryz.prog 152 [.string s_1, .string prefix_2] K σ := call_of_body mixed Tryz.func152 (by rw [e152]; exact h)


/-- (*whisk/inode.Table).dir$1 -/
def an155 : Ann := (.seq none (.reg [] []) (.seq none (.reg [] []) (.seq none (.seq none (.reg [] []) (.cond (.seq none (.reg [] []) .leaf) .leaf)) (.seq none (.reg [] []) .leaf))))
def g155 (x1 : Option Addr) (x2 : Option Addr) (K : Value → H → Prop) : H → Prop :=
  ptrW x1 (fun (b3 o4 : Nat) =>
  rdT (rdC b3 o4) kP (fun (x5 : Option Addr) =>
  ptrW x2 (fun (b6 o7 : Nat) =>
  rdT (rdC b6 o7) kI (fun (x8 : Int) =>
  callT Tryz.prog 115 [.pointer x5, .int .i64 x8] kP (fun (x9 : Option Addr) =>
  brW x9.isNone
  (K (.int .i64 5))
  (ptrW x9 (fun (b10 o11 : Nat) =>
  rdT (rdC b10 o11) kI (fun (x12 : Int) =>
  callT Tryz.prog 104 [.bool ((x12 : Int) == 2), .int .i64 8] kI (fun (x13 : Int) =>
  K (.int .i64 x13))))))))))
theorem e155 (x1 : Option Addr) (x2 : Option Addr) (K : Value → H → Prop) : bodyF Tryz.prog tau Tryz.f155 an155 [.pointer x1, .pointer x2] K = g155 x1 x2 K := by kernel_rfl
theorem c155 (x1 : Option Addr) (x2 : Option Addr) {K : Value → H → Prop} {σ : H} (h : g155 x1 x2 K σ) : callW Tryz.prog 155 [.pointer x1, .pointer x2] K σ := call_of_body mixed Tryz.func155 (by rw [e155]; exact h)


/-- whisk/inode.named$1 -/
def an156 : Ann := (.seq none (.reg [] []) (.seq none (.seq none (.reg [] []) (.cond (.seq none (.reg [] []) .leaf) .leaf)) (.seq none (.reg [] []) .leaf)))
def g156 (x1 : Option Addr) (K : Value → H → Prop) : H → Prop :=
  ptrW x1 (fun (b2 o3 : Nat) =>
  rdT (rdC b2 o3) kS (fun (x4 : ByteArray) =>
  brW (decide ((((x4.size : Nat) : Int) : Int) > 56))
  (K (.int .i64 3))
  (ptrW x1 (fun (b5 o6 : Nat) =>
  rdT (rdC b5 o6) kS (fun (x7 : ByteArray) =>
  brW (!strEq x7 (⟨⟨[]⟩⟩ : ByteArray))
  (ptrW x1 (fun (b8 o9 : Nat) =>
  rdT (rdC b8 o9) kS (fun (x10 : ByteArray) =>
  brW (!strEq x10 (⟨⟨[46]⟩⟩ : ByteArray))
  (ptrW x1 (fun (b11 o12 : Nat) =>
  rdT (rdC b11 o12) kS (fun (x13 : ByteArray) =>
  brW (!strEq x13 (⟨⟨[46, 46]⟩⟩ : ByteArray))
  (ptrW x1 (fun (b14 o15 : Nat) =>
  rdT (rdC b14 o15) kS (fun (x16 : ByteArray) =>
  callT Tryz.prog 157 [.string x16, .string (⟨⟨[47, 0]⟩⟩ : ByteArray)] kB (fun (x17 : Bool) =>
  callT Tryz.prog 104 [.bool (!x17), .int .i64 2] kI (fun (x18 : Int) =>
  K (.int .i64 x18))))))
  (callT Tryz.prog 104 [.bool false, .int .i64 2] kI (fun (x19 : Int) =>
  K (.int .i64 x19))))))
  (callT Tryz.prog 104 [.bool false, .int .i64 2] kI (fun (x20 : Int) =>
  K (.int .i64 x20))))))
  (callT Tryz.prog 104 [.bool false, .int .i64 2] kI (fun (x21 : Int) =>
  K (.int .i64 x21))))))))
theorem e156 (x1 : Option Addr) (K : Value → H → Prop) : bodyF Tryz.prog tau Tryz.f156 an156 [.pointer x1] K = g156 x1 K := by kernel_rfl
theorem c156 (x1 : Option Addr) {K : Value → H → Prop} {σ : H} (h : g156 x1 K σ) : callW Tryz.prog 156 [.pointer x1] K σ := call_of_body mixed Tryz.func156 (by rw [e156]; exact h)


/-- strings.ContainsAny -/
def an157 : Ann := (.seq none (.reg [] []) (.seq none (.reg [] []) .leaf))
def g157 (s_1 : ByteArray) (chars_2 : ByteArray) (K : Value → H → Prop) : H → Prop :=
  callT Tryz.prog 187 [.string s_1, .string chars_2] kI (fun (x3 : Int) =>
  K (.bool (decide ((x3 : Int) ≥ 0))))
theorem e157 (s_1 : ByteArray) (chars_2 : ByteArray) (K : Value → H → Prop) : bodyF Tryz.prog tau Tryz.f157 an157 [.string s_1, .string chars_2] K = g157 s_1 chars_2 K := by kernel_rfl
theorem c157 (s_1 : ByteArray) (chars_2 : ByteArray) {K : Value → H → Prop} {σ : H} (h : g157 s_1 chars_2 K σ) : callW Tryz.prog 157 [.string s_1, .string chars_2] K σ := call_of_body mixed Tryz.func157 (by rw [e157]; exact h)


/-- (*whisk/inode.Table).free$1 -/
def an158 : Ann := (.seq none (.reg [] []) (.seq none (.reg [] []) (.seq none (.reg [] []) .leaf)))
def g158 (x1 : Option Addr) (x2 : Option Addr) (x3 : Option Addr) (K : Value → H → Prop) : H → Prop :=
  ptrW x1 (fun (b4 o5 : Nat) =>
  rdT (rdC b4 o5) kP (fun (x6 : Option Addr) =>
  ptrW x2 (fun (b7 o8 : Nat) =>
  rdT (rdC b7 o8) kI (fun (x9 : Int) =>
  ptrW x3 (fun (b10 o11 : Nat) =>
  rdT (rdC b10 o11) kS (fun (x12 : ByteArray) =>
  callT Tryz.prog 102 [.pointer x6, .int .i64 x9, .string x12] (.tup [.sc (.int .i64), .sc .bool]) (fun (_x13 : Int) (x14 : Bool) =>
  callT Tryz.prog 104 [.bool (!x14), .int .i64 6] kI (fun (x15 : Int) =>
  K (.int .i64 x15)))))))))
theorem e158 (x1 : Option Addr) (x2 : Option Addr) (x3 : Option Addr) (K : Value → H → Prop) : bodyF Tryz.prog tau Tryz.f158 an158 [.pointer x1, .pointer x2, .pointer x3] K = g158 x1 x2 x3 K := by kernel_rfl
theorem c158 (x1 : Option Addr) (x2 : Option Addr) (x3 : Option Addr) {K : Value → H → Prop} {σ : H} (h : g158 x1 x2 x3 K σ) : callW Tryz.prog 158 [.pointer x1, .pointer x2, .pointer x3] K σ := call_of_body mixed Tryz.func158 (by rw [e158]; exact h)


/-- (*whisk/inode.Table).room$1 -/
def an159 : Ann := (.seq none (.reg [] []) (.seq none (.reg [0, 1, 2, 3, 4, 5, 6, 7, 8, 9, 10, 11, 12, 13, 14, 15, 16, 17, 18, 19, 20, 21, 22, 23, 24, 25, 26, 27, 28, 29] [[], [0], [0, 1], [0, 1, 2], [0, 1, 2, 3], [], [0, 1, 2, 3, 4, 5], [], [7], [7, 8], [7, 8, 9], [7, 8, 9, 10], [0, 1, 2, 3, 4, 5, 6, 7, 8, 9, 10, 11], [0, 1, 2, 3, 4, 5, 6, 7, 8, 9, 10, 11, 12], [0, 1, 2, 3, 4, 5, 6, 7, 8, 9, 10, 11, 12, 13], [0, 1, 2, 3, 4, 5, 6, 7, 8, 9, 10, 11, 12, 13, 14], [0, 1, 2, 3, 4, 5, 6, 7, 8, 9, 10, 11, 12, 13, 14, 15], [0, 1, 2, 3, 4, 5, 6, 7, 8, 9, 10, 11, 12, 13, 14, 15, 16], [0, 1, 2, 3, 4, 5, 6, 7, 8, 9, 10, 11, 12, 13, 14, 15, 16, 17], [0, 1, 2, 3, 4, 5, 6, 7, 8, 9, 10, 11, 12, 13], [0, 1, 2, 3, 4, 5, 6, 7, 8, 9, 10, 11, 12, 13, 14, 15, 16, 17, 18, 19], [0, 1, 2, 3, 4, 5, 6, 7, 8, 9, 10, 11, 12, 13], [0, 1, 2, 3, 4, 5, 6, 7, 8, 9, 10, 11, 12, 13, 21], [0, 1, 2, 3, 4, 5, 6, 7, 8, 9, 10, 11, 12, 13, 21, 22], [0, 1, 2, 3, 4, 5, 6, 7, 8, 9, 10, 11, 12, 13, 21, 22, 23], [0, 1, 2, 3, 4, 5, 6, 7, 8, 9, 10, 11, 12, 13, 21, 22, 23, 24], [0, 1, 2, 3, 4, 5, 6, 7, 8, 9, 10, 11, 12, 13, 14, 15, 16, 17, 18, 19, 20, 21, 22, 23, 24, 25], [0, 1, 2, 3, 4, 5, 6, 7, 8, 9, 10, 11, 12, 13, 14, 15, 16, 17, 18, 19, 20, 21, 22, 23, 24, 25, 26], [0, 1, 2, 3, 4, 5, 6, 7, 8, 9, 10, 11, 12, 13, 14, 15, 16, 17, 18, 19, 20, 21, 22, 23, 24, 25, 26, 27], [0, 1, 2, 3, 4, 5, 6, 7, 8, 9, 10, 11, 12, 13, 14, 15, 16, 17, 18, 19, 20, 21, 22, 23, 24, 25, 26, 27, 28]]) .leaf))
def g159 (x1 : Option Addr) (x2 : Option Addr) (x3 : Option Addr) (K : Value → H → Prop) : H → Prop :=
  ptrW x1 (fun (b4 o5 : Nat) =>
  rdT (rdC b4 o5) kP (fun (x6 : Option Addr) =>
  ptrW x6 (fun (b7 o8 : Nat) =>
  rdT (rdC b7 (o8 + 2)) kI (fun (x9 : Int) =>
  ptrW x2 (fun (b10 o11 : Nat) =>
  rdT (rdC b10 o11) kI (fun (x12 : Int) =>
  ptrW x1 (fun (b13 o14 : Nat) =>
  rdT (rdC b13 o14) kP (fun (x15 : Option Addr) =>
  ptrW x15 (fun (b16 o17 : Nat) =>
  rdT (rdC b16 o17) kI (fun (x18 : Int) =>
  brW (decide (((IntKind.i64.wrap (x9 + x12)) : Int) ≤ x18))
  (ptrW x1 (fun (b19 o20 : Nat) =>
  rdT (rdC b19 o20) kP (fun (x21 : Option Addr) =>
  ptrW x21 (fun (b22 o23 : Nat) =>
  rdT (rdC b22 (o23 + 3)) kI (fun (x24 : Int) =>
  ptrW x3 (fun (b25 o26 : Nat) =>
  rdT (rdC b25 o26) kI (fun (x27 : Int) =>
  ptrW x1 (fun (b28 o29 : Nat) =>
  rdT (rdC b28 o29) kP (fun (x30 : Option Addr) =>
  ptrW x30 (fun (b31 o32 : Nat) =>
  rdT (rdC b31 (o32 + 1)) kI (fun (x33 : Int) =>
  callT Tryz.prog 104 [.bool (decide (((IntKind.i64.wrap (x24 + x27)) : Int) ≤ x33)), .int .i64 10] kI (fun (x34 : Int) =>
  K (.int .i64 x34)))))))))))))
  (callT Tryz.prog 104 [.bool false, .int .i64 10] kI (fun (x35 : Int) =>
  K (.int .i64 x35)))))))))))))
theorem e159 (x1 : Option Addr) (x2 : Option Addr) (x3 : Option Addr) (K : Value → H → Prop) : bodyF Tryz.prog tau Tryz.f159 an159 [.pointer x1, .pointer x2, .pointer x3] K = g159 x1 x2 x3 K := by kernel_rfl
theorem c159 (x1 : Option Addr) (x2 : Option Addr) (x3 : Option Addr) {K : Value → H → Prop} {σ : H} (h : g159 x1 x2 x3 K σ) : callW Tryz.prog 159 [.pointer x1, .pointer x2, .pointer x3] K σ := call_of_body mixed Tryz.func159 (by rw [e159]; exact h)


/-- whisk/tree.may$1 -/
def an160 : Ann := (.seq none (.reg [] []) (.seq none (.reg [] []) .leaf))
def g160 (x1 : Option Addr) (K : Value → H → Prop) : H → Prop :=
  ptrW x1 (fun (b2 o3 : Nat) =>
  rdT (rdC b2 (o3 + 4)) kL (fun (x4 : Sl) =>
  K (.bool ((((x4.len : Nat) : Int) : Int) == 0))))
theorem e160 (x1 : Option Addr) (K : Value → H → Prop) : bodyF Tryz.prog tau Tryz.f160 an160 [.pointer x1] K = g160 x1 K := by kernel_rfl
theorem c160 (x1 : Option Addr) {K : Value → H → Prop} {σ : H} (h : g160 x1 K σ) : callW Tryz.prog 160 [.pointer x1] K σ := call_of_body mixed Tryz.func160 (by rw [e160]; exact h)


/-- whisk/tree.may$2 -/
def an161 : Ann := (.seq none (.reg [] []) (.seq none (.reg [] []) .leaf))
def g161 (x1 : Option Addr) (K : Value → H → Prop) : H → Prop :=
  ptrW x1 (fun (b2 o3 : Nat) =>
  rdT (rdC b2 (o3 + 2)) kB (fun (x4 : Bool) =>
  K (.bool (!x4))))
theorem e161 (x1 : Option Addr) (K : Value → H → Prop) : bodyF Tryz.prog tau Tryz.f161 an161 [.pointer x1] K = g161 x1 K := by kernel_rfl
theorem c161 (x1 : Option Addr) {K : Value → H → Prop} {σ : H} (h : g161 x1 K σ) : callW Tryz.prog 161 [.pointer x1] K σ := call_of_body mixed Tryz.func161 (by rw [e161]; exact h)


/-- whisk/tree.all -/
def an162 : Ann := (.seq none (.reg [] []) (.seq none (.reg [] []) .leaf))
def g162 (l_1 : Sl) (K : Value → H → Prop) : H → Prop :=
  callT Tryz.prog 188 [.slice l_1.base l_1.len l_1.cap, .func (.func 189) ⟨[]⟩ ⟨[]⟩] kB (fun (x2 : Bool) =>
  K (.bool (!x2)))
theorem e162 (l_1 : Sl) (K : Value → H → Prop) : bodyF Tryz.prog tau Tryz.f162 an162 [.slice l_1.base l_1.len l_1.cap] K = g162 l_1 K := by kernel_rfl
theorem c162 (l_1 : Sl) {K : Value → H → Prop} {σ : H} (h : g162 l_1 K σ) : callW Tryz.prog 162 [.slice l_1.base l_1.len l_1.cap] K σ := call_of_body mixed Tryz.func162 (by rw [e162]; exact h)


/-- whisk/tree.may$3 -/
def an163 : Ann := (.seq none (.reg [] []) (.seq none (.reg [] []) .leaf))
def g163 (x1 : Option Addr) (K : Value → H → Prop) : H → Prop :=
  ptrW x1 (fun (b2 o3 : Nat) =>
  rdT (rdC b2 (o3 + 3)) kS (fun (x4 : ByteArray) =>
  brW (decide ((((x4.size : Nat) : Int) : Int) ≥ 1))
  (ptrW x1 (fun (b5 o6 : Nat) =>
  rdT (rdC b5 (o6 + 3)) kS (fun (x7 : ByteArray) =>
  brW (decide ((((x7.size : Nat) : Int) : Int) ≤ 255))
  (ptrW x1 (fun (b8 o9 : Nat) =>
  rdT (rdC b8 (o9 + 3)) kS (fun (x10 : ByteArray) =>
  callT Tryz.prog 65 [.string x10, .int .u8 0] kI (fun (x11 : Int) =>
  K (.bool (decide ((x11 : Int) < 0)))))))
  (K (.bool false)))))
  (K (.bool false))))
theorem e163 (x1 : Option Addr) (K : Value → H → Prop) : bodyF Tryz.prog tau Tryz.f163 an163 [.pointer x1] K = g163 x1 K := by kernel_rfl
theorem c163 (x1 : Option Addr) {K : Value → H → Prop} {σ : H} (h : g163 x1 K σ) : callW Tryz.prog 163 [.pointer x1] K σ := call_of_body mixed Tryz.func163 (by rw [e163]; exact h)


/-- whisk/tree.may$4 -/
def an164 : Ann := (.seq none (.reg [] []) (.seq none (.reg [] []) .leaf))
def g164 (x1 : Option Addr) (K : Value → H → Prop) : H → Prop :=
  ptrW x1 (fun (b2 o3 : Nat) =>
  rdT (rdC b2 (o3 + 3)) kS (fun (x4 : ByteArray) =>
  K (.bool (strEq x4 (⟨⟨[]⟩⟩ : ByteArray)))))
theorem e164 (x1 : Option Addr) (K : Value → H → Prop) : bodyF Tryz.prog tau Tryz.f164 an164 [.pointer x1] K = g164 x1 K := by kernel_rfl
theorem c164 (x1 : Option Addr) {K : Value → H → Prop} {σ : H} (h : g164 x1 K σ) : callW Tryz.prog 164 [.pointer x1] K σ := call_of_body mixed Tryz.func164 (by rw [e164]; exact h)

end Go.Proofs.YtlpcehbfoogejaaGreatDoor

set_option maxRecDepth 100000
namespace Go.Proofs.YtlpcehbfoogejaaGreatDoor
open Go Go.HL
/-- whisk/tree.may$5 -/
def an165 : Ann := (.seq none (.reg [] []) (.seq none (.seq none (.reg [] []) (.blk (.loop [(0, .sc .ptr), (5, .sc .slc), (6, .sc (.int .i64)), (7, .sc (.int .i64))] (.seq none (.reg [] []) (.seq none (.cond .leaf .leaf) (.seq none (.blk (.seq none (.reg [] []) (.seq (some [(0, .sc .ptr), (5, .sc .slc), (6, .sc (.int .i64)), (7, .sc (.int .i64)), (17, .sc .raw), (18, .sc .raw), (19, .sc .raw), (22, .sc .raw), (23, .sc .raw), (24, .sc .raw), (25, .sc .raw), (26, .sc .raw), (27, .sc .raw), (28, .sc .raw), (29, .sc .raw), (30, .sc .raw), (31, .sc .raw), (32, .sc .raw), (33, .sc .raw), (34, .sc .raw), (35, .sc .raw), (36, .sc .bool)]) (.reg [0, 1, 2, 3, 4, 5, 6, 7, 8, 9, 10, 11, 12, 13, 14, 15, 16, 17, 18, 19, 20, 21, 22, 23, 24] [[], [0], [0, 1], [0, 1, 2], [0, 1, 2, 3], [0, 1, 2, 3, 4], [0, 1, 2, 3, 4, 5], [0, 1, 2, 3, 4, 5, 6], [0, 1, 2, 3, 4, 5, 6, 7], [0, 1, 2, 3, 4, 5, 6, 7, 8], [0, 1, 2, 3, 4, 5, 6, 7, 8, 9], [0, 1, 2, 3, 4, 5, 6, 7, 8, 9, 10], [0, 1, 2, 3, 4, 5, 6, 7, 8, 9, 10, 11], [0, 1, 2, 3, 4, 5, 6, 7, 8, 9, 10, 11, 12], [0, 1, 2, 3, 4, 5, 6, 7, 8, 9, 10, 11, 12, 13], [0, 1, 2, 3, 4, 5, 6, 7, 8, 9, 10, 11, 12], [0, 1, 2, 3, 4, 5, 6, 7, 8, 9, 10, 11, 12, 15], [0, 1, 2, 3, 4, 5, 6, 7, 8, 9, 10, 11, 12, 13, 14, 15, 16], [0, 1, 2, 3, 4, 5, 6, 7, 8, 9, 10, 11, 12, 13, 14, 15, 16, 17], [0, 1, 2, 3, 4, 5, 6, 7, 8, 9, 10, 11, 12, 13, 14, 15, 16, 17, 18], [0, 1, 2, 3, 4, 5, 6, 7, 8, 9, 10, 11, 12], [0, 1, 2, 3, 4, 5, 6, 7, 8, 9, 10, 11, 12, 20], [0, 1, 2, 3, 4, 5, 6, 7, 8, 9, 10, 11, 12, 13, 14, 15, 16, 17, 18, 19, 20, 21], [0, 1, 2, 3, 4, 5, 6, 7, 8, 9, 10, 11, 12, 13, 14, 15, 16, 17, 18, 19, 20, 21, 22], [0, 1, 2, 3, 4, 5, 6, 7, 8, 9, 10, 11, 12, 13, 14, 15, 16, 17, 18, 19, 20, 21, 22, 23]]) (.cond (.seq none (.reg [] []) .leaf) .leaf)))) (.reg [] []))))))) (.seq none (.reg [] []) .leaf)))
def g165 (x1 : Option Addr) (K : Value → H → Prop) : H → Prop :=
  ptrW x1 (fun (b2 o3 : Nat) =>
  rdT (rdC b2 (o3 + 4)) kL (fun (x4 : Sl) =>
  loopW [.sc .ptr, .sc .slc, .sc (.int .i64), .sc (.int .i64)] (fun (R5 : Option Addr → Sl → Int → Int → H → Prop) => (fun (x6 : Option Addr) (x7 : Sl) (x8 : Int) (x9 : Int) =>
  brW (decide ((x9 : Int) < x8))
  (ptrW x7.base (fun (b10 o11 : Nat) =>
  ifW (0 ≤ x9 ∧ x9 < ((x7.len : Nat) : Int))
  (rdT (rdA 5 b10 (o11 + x9.toNat * 5)) (.one (.agg [.str, (.int .i64), .bool, .str, .slc])) (fun (x12 : ByteArray) (x13 : Int) (x14 : Bool) (x15 : ByteArray) (x16 : Sl) =>
  alW (.cells ⟨[.string (⟨⟨[]⟩⟩ : ByteArray), .int .i64 0, .bool false, .string (⟨⟨[]⟩⟩ : ByteArray), .slice none 0 0]⟩ 24 (0, 0)) (fun (b17 : Nat) =>
  stW Tryz.prog 24 (.pointer (some ⟨b17, 0, none⟩)) (.agg ⟨[.string x12, .int .i64 x13, .bool x14, .string x15, .slice x16.base x16.len x16.cap]⟩) (letJ (T := Option Addr → Sl → Int → Int → Value → Value → Value → Value → Value → Value → Value → Value → Value → Value → Value → Value → Value → Value → Value → Value → Value → Bool → H → Prop) (fun (x19 : Option Addr) (x20 : Sl) (x21 : Int) (x22 : Int) (_x23 : Value) (_x24 : Value) (_x25 : Value) (_x26 : Value) (_x27 : Value) (_x28 : Value) (_x29 : Value) (_x30 : Value) (_x31 : Value) (_x32 : Value) (_x33 : Value) (_x34 : Value) (_x35 : Value) (_x36 : Value) (_x37 : Value) (_x38 : Value) (_x39 : Value) (x40 : Bool) =>
  brW x40
  (K (.bool false))
  (R5 x19 x20 x21 (IntKind.i64.wrap (x22 + 1)))) (fun j18 =>
  rdT (rdC b17 0) kS (fun (x41 : ByteArray) =>
  callT Tryz.prog 166 [.string x41] kB (fun (x42 : Bool) =>
  brW (!x42)
  (j18 x6 x7 x8 x9 (.tuple ⟨[]⟩) (.tuple ⟨[]⟩) (.tuple ⟨[]⟩) (.tuple ⟨[]⟩) (.tuple ⟨[]⟩) (.tuple ⟨[]⟩) (.tuple ⟨[]⟩) (.tuple ⟨[]⟩) (.tuple ⟨[]⟩) (.tuple ⟨[]⟩) (.tuple ⟨[]⟩) (.tuple ⟨[]⟩) (.tuple ⟨[]⟩) (.tuple ⟨[]⟩) (.tuple ⟨[]⟩) (.tuple ⟨[]⟩) (.tuple ⟨[]⟩) true)
  (rdT (rdA 5 b17 0) (.one (.agg [.str, (.int .i64), .bool, .str, .slc])) (fun (x43 : ByteArray) (x44 : Int) (x45 : Bool) (x46 : ByteArray) (x47 : Sl) =>
  callT Tryz.prog 112 [.agg ⟨[.string x43, .int .i64 x44, .bool x45, .string x46, .slice x47.base x47.len x47.cap]⟩] kB (fun (x48 : Bool) =>
  brW (!x48)
  (j18 x6 x7 x8 x9 (.agg ⟨[.string x43, .int .i64 x44, .bool x45, .string x46, .slice x47.base x47.len x47.cap]⟩) (.bool x48) (.bool (!x48)) (.tuple ⟨[]⟩) (.tuple ⟨[]⟩) (.tuple ⟨[]⟩) (.tuple ⟨[]⟩) (.tuple ⟨[]⟩) (.tuple ⟨[]⟩) (.tuple ⟨[]⟩) (.tuple ⟨[]⟩) (.tuple ⟨[]⟩) (.tuple ⟨[]⟩) (.tuple ⟨[]⟩) (.tuple ⟨[]⟩) (.tuple ⟨[]⟩) (.tuple ⟨[]⟩) true)
  (brW (decide ((x9 : Int) > 0))
  (ptrW x6 (fun (b49 o50 : Nat) =>
  rdT (rdC b49 (o50 + 4)) kL (fun (x51 : Sl) =>
  ptrW x51.base (fun (b52 o53 : Nat) =>
  ifW (0 ≤ IntKind.i64.wrap (x9 - 1) ∧ IntKind.i64.wrap (x9 - 1) < ((x51.len : Nat) : Int))
  (rdT (rdC b52 (o53 + (IntKind.i64.wrap (x9 - 1) : Int).toNat * 5)) kS (fun (x54 : ByteArray) =>
  rdT (rdC b17 0) kS (fun (x55 : ByteArray) =>
  j18 x6 x7 x8 x9 (.agg ⟨[.string x43, .int .i64 x44, .bool x45, .string x46, .slice x47.base x47.len x47.cap]⟩) (.bool x48) (.bool (!x48)) (.int .i64 x9) (.bool (decide ((x9 : Int) > 0))) (.bool true) (.pointer (some ⟨b49, o50 + 4, none⟩)) (.slice x51.base x51.len x51.cap) (.int .i64 x9) (.int .i64 (IntKind.i64.wrap (x9 - 1))) (.pointer (some ⟨b52, o53 + (IntKind.i64.wrap (x9 - 1) : Int).toNat * 5, none⟩)) (.pointer (some ⟨b52, o53 + (IntKind.i64.wrap (x9 - 1) : Int).toNat * 5, none⟩)) (.string x54) (.pointer (some ⟨b17, 0, none⟩)) (.string x55) (.bool (!strLt x54 x55)) (.bool (!strLt x54 x55)) (!strLt x54 x55))))))))
  (j18 x6 x7 x8 x9 (.agg ⟨[.string x43, .int .i64 x44, .bool x45, .string x46, .slice x47.base x47.len x47.cap]⟩) (.bool x48) (.bool (!x48)) (.int .i64 x9) (.bool (decide ((x9 : Int) > 0))) (.bool false) (.tuple ⟨[]⟩) (.tuple ⟨[]⟩) (.tuple ⟨[]⟩) (.tuple ⟨[]⟩) (.tuple ⟨[]⟩) (.tuple ⟨[]⟩) (.tuple ⟨[]⟩) (.tuple ⟨[]⟩) (.tuple ⟨[]⟩) (.tuple ⟨[]⟩) (.bool false) false))))))))))))))
  (K (.bool true)))) (fun (R56 : Option Addr → Sl → Int → Int → H → Prop) => R56 x1 x4 ((x4.len : Nat) : Int) 0)))
theorem e165 (x1 : Option Addr) (K : Value → H → Prop) : bodyF Tryz.prog tau Tryz.f165 an165 [.pointer x1] K = g165 x1 K := by kernel_rfl
theorem c165 (x1 : Option Addr) {K : Value → H → Prop} {σ : H} (h : g165 x1 K σ) : callW Tryz.prog 165 [.pointer x1] K σ := call_of_body mixed Tryz.func165 (by rw [e165]; exact h)


/-- whisk/tree.mayName -/
def an166 : Ann := (.seq none (.reg [] []) (.seq none (.reg [] []) .leaf))
def g166 (s_1 : ByteArray) (K : Value → H → Prop) : H → Prop :=
  brW (decide ((((s_1.size : Nat) : Int) : Int) ≥ 1))
  (brW (decide ((((s_1.size : Nat) : Int) : Int) ≤ 56))
  (callT Tryz.prog 157 [.string s_1, .string (⟨⟨[47, 0]⟩⟩ : ByteArray)] kB (fun (x2 : Bool) =>
  brW (!x2)
  (brW (!strEq s_1 (⟨⟨[46]⟩⟩ : ByteArray))
  (K (.bool (!strEq s_1 (⟨⟨[46, 46]⟩⟩ : ByteArray))))
  (K (.bool false)))
  (K (.bool false))))
  (K (.bool false)))
  (K (.bool false))
theorem e166 (s_1 : ByteArray) (K : Value → H → Prop) : bodyF Tryz.prog tau Tryz.f166 an166 [.string s_1] K = g166 s_1 K := by kernel_rfl
theorem c166 (s_1 : ByteArray) {K : Value → H → Prop} {σ : H} (h : g166 s_1 K σ) : callW Tryz.prog 166 [.string s_1] K σ := call_of_body mixed Tryz.func166 (by rw [e166]; exact h)


/-- whisk/fs.may -/
def an167 : Ann := (.seq none (.reg [] []) (.seq none (.blk (.seq none (.reg [] []) (.cond (.seq none (.reg [] []) .leaf) (.seq none (.reg [] []) (.cond (.seq none (.reg [] []) .leaf) (.seq none (.reg [] []) (.cond (.seq none (.reg [] []) .leaf) .leaf))))))) (.seq none (.reg [] []) .leaf)))
def g167 (path_1 : ByteArray) (K : Value → H → Prop) : H → Prop :=
  brW (strEq path_1 (⟨⟨[]⟩⟩ : ByteArray))
  (K (.int .i64 5))
  (brW (decide ((((path_1.size : Nat) : Int) : Int) > 255))
  (K (.int .i64 3))
  (callT Tryz.prog 65 [.string path_1, .int .u8 0] kI (fun (x2 : Int) =>
  brW (decide ((x2 : Int) ≥ 0))
  (K (.int .i64 2))
  (K (.int .i64 0)))))
theorem e167 (path_1 : ByteArray) (K : Value → H → Prop) : bodyF Tryz.prog tau Tryz.f167 an167 [.string path_1] K = g167 path_1 K := by kernel_rfl
theorem c167 (path_1 : ByteArray) {K : Value → H → Prop} {σ : H} (h : g167 path_1 K σ) : callW Tryz.prog 167 [.string path_1] K σ := call_of_body mixed Tryz.func167 (by rw [e167]; exact h)


/-- whisk/fs.names -/
def an168 : Ann := (.seq none (.reg [] []) (.seq none (.reg [] []) .leaf))
def g168 (path_1 : ByteArray) (K : Value → H → Prop) : H → Prop :=
  alW (.cells ⟨[.string path_1]⟩ 9 (0, 0)) (fun (b2 : Nat) =>
  K (.func (.func 190) ⟨[]⟩ ⟨[.pointer (some ⟨b2, 0, none⟩)]⟩))
theorem e168 (path_1 : ByteArray) (K : Value → H → Prop) : bodyF Tryz.prog tau Tryz.f168 an168 [.string path_1] K = g168 path_1 K := by kernel_rfl
theorem c168 (path_1 : ByteArray) {K : Value → H → Prop} {σ : H} (h : g168 path_1 K σ) : callW Tryz.prog 168 [.string path_1] K σ := call_of_body mixed Tryz.func168 (by rw [e168]; exact h)


/-- (*whisk/inode.Table).file$1 -/
def an169 : Ann := (.seq none (.reg [] []) (.seq none (.reg [] []) (.seq none (.blk (.seq none (.reg [] []) (.cond (.seq none (.reg [] []) .leaf) (.seq none (.reg [] []) (.cond (.seq none (.reg [] []) .leaf) .leaf))))) (.seq none (.reg [] []) .leaf))))
def g169 (x1 : Option Addr) (x2 : Option Addr) (K : Value → H → Prop) : H → Prop :=
  ptrW x1 (fun (b3 o4 : Nat) =>
  rdT (rdC b3 o4) kP (fun (x5 : Option Addr) =>
  ptrW x2 (fun (b6 o7 : Nat) =>
  rdT (rdC b6 o7) kI (fun (x8 : Int) =>
  callT Tryz.prog 115 [.pointer x5, .int .i64 x8] kP (fun (x9 : Option Addr) =>
  brW x9.isNone
  (K (.int .i64 5))
  (ptrW x9 (fun (b10 o11 : Nat) =>
  rdT (rdC b10 o11) kI (fun (x12 : Int) =>
  brW ((x12 : Int) == 2)
  (K (.int .i64 7))
  (ptrW x9 (fun (b13 o14 : Nat) =>
  rdT (rdC b13 o14) kI (fun (x15 : Int) =>
  callT Tryz.prog 104 [.bool ((x15 : Int) == 1), .int .i64 2] kI (fun (x16 : Int) =>
  K (.int .i64 x16)))))))))))))
theorem e169 (x1 : Option Addr) (x2 : Option Addr) (K : Value → H → Prop) : bodyF Tryz.prog tau Tryz.f169 an169 [.pointer x1, .pointer x2] K = g169 x1 x2 K := by kernel_rfl
theorem c169 (x1 : Option Addr) (x2 : Option Addr) {K : Value → H → Prop} {σ : H} (h : g169 x1 x2 K σ) : callW Tryz.prog 169 [.pointer x1, .pointer x2] K σ := call_of_body mixed Tryz.func169 (by rw [e169]; exact h)


/-- (*whisk/inode.Table).entry$1 -/
def an174 : Ann := (.seq none (.reg [] []) (.seq none (.reg [] []) (.seq none (.reg [] []) .leaf)))
def g174 (x1 : Option Addr) (x2 : Option Addr) (x3 : Option Addr) (K : Value → H → Prop) : H → Prop :=
  ptrW x1 (fun (b4 o5 : Nat) =>
  rdT (rdC b4 o5) kP (fun (x6 : Option Addr) =>
  ptrW x2 (fun (b7 o8 : Nat) =>
  rdT (rdC b7 o8) kI (fun (x9 : Int) =>
  ptrW x3 (fun (b10 o11 : Nat) =>
  rdT (rdC b10 o11) kS (fun (x12 : ByteArray) =>
  callT Tryz.prog 102 [.pointer x6, .int .i64 x9, .string x12] (.tup [.sc (.int .i64), .sc .bool]) (fun (_x13 : Int) (x14 : Bool) =>
  callT Tryz.prog 104 [.bool x14, .int .i64 5] kI (fun (x15 : Int) =>
  K (.int .i64 x15)))))))))
theorem e174 (x1 : Option Addr) (x2 : Option Addr) (x3 : Option Addr) (K : Value → H → Prop) : bodyF Tryz.prog tau Tryz.f174 an174 [.pointer x1, .pointer x2, .pointer x3] K = g174 x1 x2 x3 K := by kernel_rfl
theorem c174 (x1 : Option Addr) (x2 : Option Addr) (x3 : Option Addr) {K : Value → H → Prop} {σ : H} (h : g174 x1 x2 x3 K σ) : callW Tryz.prog 174 [.pointer x1, .pointer x2, .pointer x3] K σ := call_of_body mixed Tryz.func174 (by rw [e174]; exact h)


/-- (whisk/canon.taker).kids$1 -/
def an175 : Ann := (.seq none (.reg [] []) (.seq none (.seq none (.reg [] []) (.cond (.seq none (.reg [] []) .leaf) .leaf)) (.seq none (.reg [] []) (.blk (.loop [(0, .sc .raw), (1, .sc .ptr), (2, .sc .ptr), (23, .sc .slc), (24, .sc (.int .i64)), (25, .sc (.int .i64))] (.seq none (.reg [] []) (.seq none (.cond .leaf .leaf) (.seq none (.blk (.seq none (.reg [] []) (.seq none (.reg [0, 1, 2, 3, 4, 5, 6, 7, 8, 9, 10, 11, 12] [[], [], [1], [1, 2], [], [1, 2, 3, 4], [0, 1, 2, 3, 4, 5], [0, 1, 2, 3, 4, 5, 6], [0, 1, 2, 3, 4, 5, 6, 7], [0, 1, 2, 3, 4, 5, 6, 7], [], [0, 1, 2, 3, 4, 5, 6, 7, 8, 10], [0, 1, 2, 3, 4, 5, 6, 7, 8, 9, 10, 11]]) (.seq none (.reg [] []) (.seq (some [(0, .sc .raw), (1, .sc .ptr), (2, .sc .ptr), (23, .sc .slc), (24, .sc (.int .i64)), (25, .sc (.int .i64)), (47, .sc .raw), (48, .sc .raw), (49, .sc .bool)]) (.reg [] []) (.cond .leaf .leaf)))))) (.reg [] [])))))))))
def g175 (yield_1 : Value) (x2 : Option Addr) (x3 : Option Addr) (K : Value → H → Prop) : H → Prop :=
  ptrW x2 (fun (b4 o5 : Nat) =>
  rdT (rdC b4 o5) kP (fun (x6 : Option Addr) =>
  ptrW x3 (fun (b7 o8 : Nat) =>
  rdT (rdC b7 o8) kS (fun (x9 : ByteArray) =>
  callT Tryz.prog 45 [.pointer x6, .string (⟨⟨[47]⟩⟩ : ByteArray), .string x9] (.tup [.sc .slc, .sc (.int .i64)]) (fun (x10 : Sl) (x11 : Int) =>
  brW ((x11 : Int) != 0)
  (cvalT Tryz.prog yield_1 [.agg ⟨[.string (⟨⟨[]⟩⟩ : ByteArray), .int .i64 0, .bool false, .string (⟨⟨[]⟩⟩ : ByteArray), .slice none 0 0]⟩, .int .i64 x11] kB (fun (_x12 : Bool) =>
  K (.tuple ⟨[]⟩)))
  (loopW [.sc .raw, .sc .ptr, .sc .ptr, .sc .slc, .sc (.int .i64), .sc (.int .i64)] (fun (R13 : Value → Option Addr → Option Addr → Sl → Int → Int → H → Prop) => (fun (yield_14 : Value) (x15 : Option Addr) (x16 : Option Addr) (x17 : Sl) (x18 : Int) (x19 : Int) =>
  brW (decide ((x19 : Int) < x18))
  (ptrW x17.base (fun (b20 o21 : Nat) =>
  ifW (0 ≤ x19 ∧ x19 < ((x17.len : Nat) : Int))
  (rdT (rdC b20 (o21 + x19.toNat * 1)) kS (fun (x22 : ByteArray) =>
  ptrW x15 (fun (b23 o24 : Nat) =>
  rdT (rdA 1 b23 o24) (.one (.agg [.ptr])) (fun (x25 : Option Addr) =>
  ptrW x16 (fun (b26 o27 : Nat) =>
  rdT (rdC b26 o27) kS (fun (x28 : ByteArray) =>
  callT Tryz.prog 176 [.string x28, .string (⟨⟨[47]⟩⟩ : ByteArray)] kS (fun (x29 : ByteArray) =>
  andW (fun σ => (rdA 1 b23 o24) σ = some (.agg ⟨[.pointer x25]⟩))
  (ifW (x29.size + (⟨⟨[47]⟩⟩ : ByteArray).size ≤ 9223372036854775807)
  (ifW ((x29 ++ (⟨⟨[47]⟩⟩ : ByteArray)).size + x22.size ≤ 9223372036854775807)
  (callT Tryz.prog 75 [.agg ⟨[.pointer x25]⟩, .string ((x29 ++ (⟨⟨[47]⟩⟩ : ByteArray)) ++ x22)] (.tup [.agg [.str, (.int .i64), .bool, .str, .slc], .sc (.int .i64)]) (fun (x30 : ByteArray) (x31 : Int) (x32 : Bool) (x33 : ByteArray) (x34 : Sl) (x35 : Int) =>
  alW (.cells ⟨[.string (⟨⟨[]⟩⟩ : ByteArray), .int .i64 0, .bool false, .string (⟨⟨[]⟩⟩ : ByteArray), .slice none 0 0]⟩ 24 (0, 0)) (fun (b36 : Nat) =>
  stW Tryz.prog 24 (.pointer (some ⟨b36, 0, none⟩)) (.agg ⟨[.string x30, .int .i64 x31, .bool x32, .string x33, .slice x34.base x34.len x34.cap]⟩) (stW Tryz.prog 9 (.pointer (some ⟨b36, 0, none⟩)) (.string x22) (letJ (T := Value → Option Addr → Option Addr → Sl → Int → Int → Value → Value → Bool → H → Prop) (fun (yield_38 : Value) (x39 : Option Addr) (x40 : Option Addr) (x41 : Sl) (x42 : Int) (x43 : Int) (_x44 : Value) (_x45 : Value) (x46 : Bool) =>
  brW x46
  (K (.tuple ⟨[]⟩))
  (R13 yield_38 x39 x40 x41 x42 (IntKind.i64.wrap (x43 + 1)))) (fun j37 =>
  rdT (rdA 5 b36 0) (.one (.agg [.str, (.int .i64), .bool, .str, .slc])) (fun (x47 : ByteArray) (x48 : Int) (x49 : Bool) (x50 : ByteArray) (x51 : Sl) =>
  cvalT Tryz.prog yield_14 [.agg ⟨[.string x47, .int .i64 x48, .bool x49, .string x50, .slice x51.base x51.len x51.cap]⟩, .int .i64 x35] kB (fun (x52 : Bool) =>
  brW (!x52)
  (j37 yield_14 x15 x16 x17 x18 x19 (.tuple ⟨[]⟩) (.tuple ⟨[]⟩) true)
  (j37 yield_14 x15 x16 x17 x18 x19 (.int .i64 x35) (.bool ((x35 : Int) != 0)) ((x35 : Int) != 0)))))))))))))))))))))
  (K (.tuple ⟨[]⟩)))) (fun (R53 : Value → Option Addr → Option Addr → Sl → Int → Int → H → Prop) => R53 yield_1 x2 x3 x10 ((x10.len : Nat) : Int) 0)))))))
theorem e175 (yield_1 : Value) (x2 : Option Addr) (x3 : Option Addr) (K : Value → H → Prop) : bodyF Tryz.prog tau Tryz.f175 an175 [yield_1, .pointer x2, .pointer x3] K = g175 yield_1 x2 x3 K := by kernel_rfl
theorem c175 (yield_1 : Value) (x2 : Option Addr) (x3 : Option Addr) {K : Value → H → Prop} {σ : H} (h : g175 yield_1 x2 x3 K σ) : callW Tryz.prog 175 [yield_1, .pointer x2, .pointer x3] K σ := call_of_body mixed Tryz.func175 (by rw [e175]; exact h)


/-- strings.TrimSuffix -/
def an176 : Ann := (.seq none (.reg [] []) (.seq none (.reg [] []) .leaf))
def g176 (s_1 : ByteArray) (suffix_2 : ByteArray) (K : Value → H → Prop) : H → Prop :=
  callT Tryz.prog 195 [.string s_1, .string suffix_2] kS (fun (x3 : ByteArray) =>
  K (.string x3))
theorem e176 (s_1 : ByteArray) (suffix_2 : ByteArray) (K : Value → H → Prop) : bodyF Tryz.prog tau Tryz.f176 an176 [.string s_1, .string suffix_2] K = g176 s_1 suffix_2 K := by kernel_rfl
theorem c176 (s_1 : ByteArray) (suffix_2 : ByteArray) {K : Value → H → Prop} {σ : H} (h : g176 s_1 suffix_2 K σ) : callW Tryz.prog 176 [.string s_1, .string suffix_2] K σ := call_of_body mixed Tryz.func176 (by rw [e176]; exact h)


/-- whisk/tree.deep -/
def an177 : Ann := (.seq none (.reg [] []) (.seq none (.reg [] []) (.seq none (.seq (some [(1, .sc (.int .i64)), (2, .sc .ptr), (5, .sc (.int .i64)), (14, .sc .bool)]) (.reg [] []) (.cond (.seq none (.reg [] []) .leaf) .leaf)) (.seq none (.seq none (.reg [] []) (.blk (.loop [(1, .sc (.int .i64)), (5, .sc (.int .i64)), (17, .sc .slc), (18, .sc (.int .i64)), (19, .sc (.int .i64))] (.seq none (.reg [] []) (.seq none (.cond .leaf .leaf) (.seq none (.blk (.seq none (.reg [] []) (.reg [] []))) (.reg [] []))))))) (.seq none (.reg [] []) .leaf)))))
def g177 (n_1 : ByteArray) (n_2 : Int) (n_3 : Bool) (n_4 : ByteArray) (n_5 : Sl) (most_6 : Int) (K : Value → H → Prop) : H → Prop :=
  alW (.cells ⟨[.string n_1, .int .i64 n_2, .bool n_3, .string n_4, .slice n_5.base n_5.len n_5.cap]⟩ 24 (0, 0)) (fun (b7 : Nat) =>
  letJ (T := Int → Option Addr → Int → Bool → H → Prop) (fun (most_9 : Int) (n_10 : Option Addr) (d_11 : Int) (x12 : Bool) =>
  brW x12
  (K (.int .i64 d_11))
  (ptrW n_10 (fun (b13 o14 : Nat) =>
  rdT (rdC b13 (o14 + 4)) kL (fun (x15 : Sl) =>
  loopW [.sc (.int .i64), .sc (.int .i64), .sc .slc, .sc (.int .i64), .sc (.int .i64)] (fun (R16 : Int → Int → Sl → Int → Int → H → Prop) => (fun (most_17 : Int) (d_18 : Int) (x19 : Sl) (x20 : Int) (x21 : Int) =>
  brW (decide ((x21 : Int) < x20))
  (ptrW x19.base (fun (b22 o23 : Nat) =>
  ifW (0 ≤ x21 ∧ x21 < ((x19.len : Nat) : Int))
  (rdT (rdA 5 b22 (o23 + x21.toNat * 5)) (.one (.agg [.str, (.int .i64), .bool, .str, .slc])) (fun (x24 : ByteArray) (x25 : Int) (x26 : Bool) (x27 : ByteArray) (x28 : Sl) =>
  alW (.cells ⟨[.string (⟨⟨[]⟩⟩ : ByteArray), .int .i64 0, .bool false, .string (⟨⟨[]⟩⟩ : ByteArray), .slice none 0 0]⟩ 24 (0, 0)) (fun (b29 : Nat) =>
  stW Tryz.prog 24 (.pointer (some ⟨b29, 0, none⟩)) (.agg ⟨[.string x24, .int .i64 x25, .bool x26, .string x27, .slice x28.base x28.len x28.cap]⟩) (rdT (rdA 5 b29 0) (.one (.agg [.str, (.int .i64), .bool, .str, .slc])) (fun (x30 : ByteArray) (x31 : Int) (x32 : Bool) (x33 : ByteArray) (x34 : Sl) =>
  callT Tryz.prog 177 [.agg ⟨[.string x30, .int .i64 x31, .bool x32, .string x33, .slice x34.base x34.len x34.cap]⟩, .int .i64 (IntKind.i64.wrap (most_17 - 1))] kI (fun (x35 : Int) =>
  R16 most_17 (if (IntKind.i64.wrap (1 + x35)) > d_18 then (IntKind.i64.wrap (1 + x35)) else d_18) x19 x20 (IntKind.i64.wrap (x21 + 1))))))))))
  (K (.int .i64 d_18)))) (fun (R36 : Int → Int → Sl → Int → Int → H → Prop) => R36 most_9 d_11 x15 ((x15.len : Nat) : Int) 0))))) (fun j8 =>
  rdT (rdC b7 1) kI (fun (x37 : Int) =>
  brW ((x37 : Int) != 2)
  (j8 most_6 (some ⟨b7, 0, none⟩) 1 true)
  (j8 most_6 (some ⟨b7, 0, none⟩) 1 ((most_6 : Int) == 1)))))
theorem e177 (n_1 : ByteArray) (n_2 : Int) (n_3 : Bool) (n_4 : ByteArray) (n_5 : Sl) (most_6 : Int) (K : Value → H → Prop) : bodyF Tryz.prog tau Tryz.f177 an177 [.agg ⟨[.string n_1, .int .i64 n_2, .bool n_3, .string n_4, .slice n_5.base n_5.len n_5.cap]⟩, .int .i64 most_6] K = g177 n_1 n_2 n_3 n_4 n_5 most_6 K := by kernel_rfl
theorem c177 (n_1 : ByteArray) (n_2 : Int) (n_3 : Bool) (n_4 : ByteArray) (n_5 : Sl) (most_6 : Int) {K : Value → H → Prop} {σ : H} (h : g177 n_1 n_2 n_3 n_4 n_5 most_6 K σ) : callW Tryz.prog 177 [.agg ⟨[.string n_1, .int .i64 n_2, .bool n_3, .string n_4, .slice n_5.base n_5.len n_5.cap]⟩, .int .i64 most_6] K σ := call_of_body mixed Tryz.func177 (by rw [e177]; exact h)


/-- internal/stringslite.Index -/
def an180 : Ann := (.seq none (.reg [] []) (.seq none (.reg [] []) (.seq none (.blk (.seq (some [(0, .sc .str), (1, .sc .str), (5, .sc (.int .i64)), (16, .sc .bool)]) (.reg [] []) (.cond (.seq none (.reg [] []) .leaf) (.seq none (.reg [] []) (.cond (.seq none (.reg [] []) .leaf) (.seq none (.reg [] []) (.cond (.seq none (.reg [] []) .leaf) (.seq (some [(0, .sc .str), (1, .sc .str), (5, .sc (.int .i64)), (36, .sc .bool)]) (.reg [] []) (.cond (.seq none (.reg [] []) .leaf) .leaf))))))))) (.seq none (.reg [] []) (.seq none (.reg [] []) (.seq none (.reg [] []) (.seq none (.reg [] []) (.seq none (.reg [] []) (.seq none (.blk (.loop [(0, .sc .str), (1, .sc .str), (5, .sc (.int .i64)), (6, .sc (.int .u8)), (7, .sc (.int .u8)), (8, .sc (.int .i64)), (9, .sc (.int .i64)), (10, .sc (.int .i64))] (.seq none (.seq none (.reg [] []) (.cond .leaf .leaf)) (.blk (.seq (some [(0, .sc .str), (1, .sc .str), (5, .sc (.int .i64)), (6, .sc (.int .u8)), (7, .sc (.int .u8)), (8, .sc (.int .i64)), (9, .sc (.int .i64)), (10, .sc (.int .i64))]) (.seq none (.reg [] []) (.cond (.seq none (.reg [] []) (.seq none (.seq none (.reg [] []) (.cond (.seq none (.reg [] []) .leaf) .leaf)) (.reg [] []))) .leaf)) (.seq none (.seq (some [(0, .sc .str), (1, .sc .str), (5, .sc (.int .i64)), (6, .sc (.int .u8)), (7, .sc (.int .u8)), (8, .sc (.int .i64)), (9, .sc (.int .i64)), (10, .sc (.int .i64)), (85, .sc .raw), (86, .sc .raw), (87, .sc .raw), (88, .sc .raw), (89, .sc .raw), (90, .sc .raw), (91, .sc .raw), (92, .sc .raw), (93, .sc .bool)]) (.reg [] []) (.cond (.seq none (.reg [] []) .leaf) .leaf)) (.seq none (.reg [] []) (.seq none (.reg [] []) (.seq (some [(0, .sc .str), (1, .sc .str), (5, .sc (.int .i64)), (6, .sc (.int .u8)), (7, .sc (.int .u8)), (8, .sc (.int .i64)), (9, .sc (.int .i64)), (10, .sc (.int .i64)), (85, .sc .raw), (86, .sc .raw), (87, .sc .raw), (88, .sc .raw), (89, .sc .raw), (90, .sc .raw), (91, .sc .raw), (92, .sc .raw), (103, .sc .raw), (104, .sc .raw), (105, .sc .raw), (106, .sc .raw), (107, .sc .bool)]) (.reg [] []) (.cond (.seq none (.reg [] []) (.seq none (.seq none (.reg [] []) (.cond (.seq none (.reg [] []) .leaf) .leaf)) (.seq none (.reg [] []) .leaf))) (.seq (some [(0, .sc .str), (1, .sc .str), (5, .sc (.int .i64)), (6, .sc (.int .u8)), (7, .sc (.int .u8)), (8, .sc (.int .i64)), (9, .sc (.int .i64)), (10, .sc (.int .i64)), (85, .sc .raw), (86, .sc .raw), (87, .sc .raw), (88, .sc .raw), (89, .sc .raw), (90, .sc .raw), (91, .sc .raw), (92, .sc .raw), (103, .sc .raw), (104, .sc .raw), (105, .sc .raw), (106, .sc .raw), (122, .sc .raw), (123, .sc .raw), (124, .sc .raw), (125, .sc .raw), (126, .sc .raw), (129, .sc .raw), (130, .sc .raw), (131, .sc .raw), (132, .sc .bool)]) (.reg [] []) (.cond (.seq none (.reg [] []) (.seq none (.seq none (.reg [] []) (.cond (.seq none (.reg [] []) .leaf) .leaf)) (.seq none (.reg [] []) .leaf))) .leaf)))))))))))) (.seq none (.reg [] []) .leaf))))))))))
def g180 (s_1 : ByteArray) (substr_2 : ByteArray) (K : Value → H → Prop) : H → Prop :=
  letJ (T := ByteArray → ByteArray → Int → Bool → H → Prop) (fun (s_4 : ByteArray) (substr_5 : ByteArray) (n_6 : Int) (x7 : Bool) =>
  brW x7
  (K (.int .i64 0))
  (brW ((n_6 : Int) == 1)
  (idxW substr_5 0 (fun (c8 : UInt8) =>
  callT Tryz.prog 118 [.string s_4, .int .u8 (c8.toNat : Int)] kI (fun (x9 : Int) =>
  K (.int .i64 x9))))
  (brW (decide ((n_6 : Int) ≥ ((s_4.size : Nat) : Int)))
  (K (.int .i64 (-1)))
  (letJ (T := ByteArray → ByteArray → Int → Bool → H → Prop) (fun (s_11 : ByteArray) (substr_12 : ByteArray) (n_13 : Int) (x14 : Bool) =>
  brW x14
  (cvalT Tryz.prog (.func (.func 196) ⟨[]⟩ ⟨[]⟩) [.string s_11, .string substr_12] kI (fun (x15 : Int) =>
  K (.int .i64 x15)))
  (idxW substr_12 0 (fun (c16 : UInt8) =>
  idxW substr_12 1 (fun (c17 : UInt8) =>
  loopW [.sc .str, .sc .str, .sc (.int .i64), .sc (.int .u8), .sc (.int .u8), .sc (.int .i64), .sc (.int .i64), .sc (.int .i64)] (fun (R18 : ByteArray → ByteArray → Int → Int → Int → Int → Int → Int → H → Prop) => (fun (s_19 : ByteArray) (substr_20 : ByteArray) (n_21 : Int) (c0_22 : Int) (c1_23 : Int) (i_24 : Int) (t_25 : Int) (fails_26 : Int) =>
  brW (decide ((i_24 : Int) < t_25))
  (letJ (T := ByteArray → ByteArray → Int → Int → Int → Int → Int → Int → H → Prop) (fun (s_28 : ByteArray) (substr_29 : ByteArray) (n_30 : Int) (c0_31 : Int) (c1_32 : Int) (i_33 : Int) (t_34 : Int) (fails_35 : Int) =>
  letJ (T := ByteArray → ByteArray → Int → Int → Int → Int → Int → Int → Value → Value → Value → Value → Value → Value → Value → Value → Bool → H → Prop) (fun (s_37 : ByteArray) (substr_38 : ByteArray) (n_39 : Int) (c0_40 : Int) (c1_41 : Int) (i_42 : Int) (t_43 : Int) (fails_44 : Int) (x45 : Value) (x46 : Value) (x47 : Value) (x48 : Value) (x49 : Value) (x50 : Value) (x51 : Value) (x52 : Value) (x53 : Bool) =>
  brW x53
  (K (.int .i64 i_42))
  (letJ (T := ByteArray → ByteArray → Int → Int → Int → Int → Int → Int → Value → Value → Value → Value → Value → Value → Value → Value → Value → Value → Value → Value → Bool → H → Prop) (fun (s_55 : ByteArray) (substr_56 : ByteArray) (n_57 : Int) (c0_58 : Int) (c1_59 : Int) (i_60 : Int) (t_61 : Int) (fails_62 : Int) (x63 : Value) (x64 : Value) (x65 : Value) (x66 : Value) (x67 : Value) (x68 : Value) (x69 : Value) (x70 : Value) (x71 : Value) (x72 : Value) (x73 : Value) (x74 : Value) (x75 : Bool) =>
  brW x75
  (ifW (bndOk none s_55.size ∧ bndOk (some i_60) (s_55.size))
  (cvalT Tryz.prog (.func (.func 196) ⟨[]⟩ ⟨[]⟩) [.string (s_55.extract i_60.toNat s_55.size), .string substr_56] kI (fun (x76 : Int) =>
  brW (decide ((x76 : Int) ≥ 0))
  (K (.int .i64 (IntKind.i64.wrap (x76 + i_60))))
  (K (.int .i64 (-1))))))
  (letJ (T := ByteArray → ByteArray → Int → Int → Int → Int → Int → Int → Value → Value → Value → Value → Value → Value → Value → Value → Value → Value → Value → Value → Value → Value → Value → Value → Value → Value → Value → Value → Bool → H → Prop) (fun (s_78 : ByteArray) (substr_79 : ByteArray) (n_80 : Int) (c0_81 : Int) (c1_82 : Int) (i_83 : Int) (t_84 : Int) (fails_85 : Int) (_x86 : Value) (_x87 : Value) (_x88 : Value) (_x89 : Value) (_x90 : Value) (_x91 : Value) (_x92 : Value) (_x93 : Value) (_x94 : Value) (_x95 : Value) (_x96 : Value) (_x97 : Value) (_x98 : Value) (_x99 : Value) (_x100 : Value) (_x101 : Value) (_x102 : Value) (_x103 : Value) (_x104 : Value) (_x105 : Value) (x106 : Bool) =>
  brW x106
  (ifW (bndOk none s_78.size ∧ bndOk (some i_83) (s_78.size))
  (callT Tryz.prog 198 [.string (s_78.extract i_83.toNat s_78.size), .string substr_79] kI (fun (x107 : Int) =>
  brW (decide ((x107 : Int) < 0))
  (K (.int .i64 (-1)))
  (K (.int .i64 (IntKind.i64.wrap (i_83 + x107)))))))
  (R18 s_78 substr_79 n_80 c0_81 c1_82 i_83 t_84 fails_85)) (fun j77 =>
  rdT (rdC 0 0) kI (fun (x108 : Int) =>
  brW (decide ((n_57 : Int) > x108))
  (ifW (0 ≤ (4 : Int))
  (brW (decide ((fails_62 : Int) ≥ (IntKind.i64.wrap (4 + (Int.fdiv i_60 (2 ^ min (Int.toNat 4) (IntKind.bits .i64)))))))
  (j77 s_55 substr_56 n_57 c0_58 c1_59 i_60 t_61 fails_62 x63 x64 x65 x66 x67 x68 x69 x70 x71 x72 x73 x74 (.int .i64 fails_62) (.int .i64 i_60) (.int .i64 (Int.fdiv i_60 (2 ^ min (Int.toNat 4) (IntKind.bits .i64)))) (.int .i64 (IntKind.i64.wrap (4 + (Int.fdiv i_60 (2 ^ min (Int.toNat 4) (IntKind.bits .i64)))))) (.bool (decide ((fails_62 : Int) ≥ (IntKind.i64.wrap (4 + (Int.fdiv i_60 (2 ^ min (Int.toNat 4) (IntKind.bits .i64)))))))) (.int .i64 i_60) (.int .i64 t_61) (.bool (decide ((i_60 : Int) < t_61))) (decide ((i_60 : Int) < t_61)))
  (j77 s_55 substr_56 n_57 c0_58 c1_59 i_60 t_61 fails_62 x63 x64 x65 x66 x67 x68 x69 x70 x71 x72 x73 x74 (.int .i64 fails_62) (.int .i64 i_60) (.int .i64 (Int.fdiv i_60 (2 ^ min (Int.toNat 4) (IntKind.bits .i64)))) (.int .i64 (IntKind.i64.wrap (4 + (Int.fdiv i_60 (2 ^ min (Int.toNat 4) (IntKind.bits .i64)))))) (.bool (decide ((fails_62 : Int) ≥ (IntKind.i64.wrap (4 + (Int.fdiv i_60 (2 ^ min (Int.toNat 4) (IntKind.bits .i64)))))))) (.tuple ⟨[]⟩) (.tuple ⟨[]⟩) (.tuple ⟨[]⟩) false)))
  (j77 s_55 substr_56 n_57 c0_58 c1_59 i_60 t_61 fails_62 x63 x64 x65 x66 x67 x68 x69 x70 x71 x72 x73 x74 (.tuple ⟨[]⟩) (.tuple ⟨[]⟩) (.tuple ⟨[]⟩) (.tuple ⟨[]⟩) (.tuple ⟨[]⟩) (.tuple ⟨[]⟩) (.tuple ⟨[]⟩) (.tuple ⟨[]⟩) false))))) (fun j54 =>
  rdT (rdC 0 0) kI (fun (x109 : Int) =>
  brW (decide ((n_39 : Int) ≤ x109))
  (callT Tryz.prog 197 [.int .i64 (IntKind.i64.wrap (i_42 + 1))] kI (fun (x110 : Int) =>
  j54 s_37 substr_38 n_39 c0_40 c1_41 (IntKind.i64.wrap (i_42 + 1)) t_43 (IntKind.i64.wrap (fails_44 + 1)) x45 x46 x47 x48 x49 x50 x51 x52 (.int .i64 (IntKind.i64.wrap (fails_44 + 1))) (.int .i64 (IntKind.i64.wrap (i_42 + 1))) (.int .i64 x110) (.bool (decide (((IntKind.i64.wrap (fails_44 + 1)) : Int) > x110))) (decide (((IntKind.i64.wrap (fails_44 + 1)) : Int) > x110))))
  (j54 s_37 substr_38 n_39 c0_40 c1_41 (IntKind.i64.wrap (i_42 + 1)) t_43 (IntKind.i64.wrap (fails_44 + 1)) x45 x46 x47 x48 x49 x50 x51 x52 (.tuple ⟨[]⟩) (.tuple ⟨[]⟩) (.tuple ⟨[]⟩) (.tuple ⟨[]⟩) false))))) (fun j36 =>
  idxW s_28 (IntKind.i64.wrap (i_33 + 1)) (fun (c111 : UInt8) =>
  brW (((c111.toNat : Int) : Int) == c1_32)
  (ifW (bndOk (some (IntKind.i64.wrap (i_33 + n_30))) s_28.size ∧ bndOk (some i_33) ((IntKind.i64.wrap (i_33 + n_30)).toNat))
  (j36 s_28 substr_29 n_30 c0_31 c1_32 i_33 t_34 fails_35 (.string s_28) (.int .i64 i_33) (.int .i64 i_33) (.int .i64 n_30) (.int .i64 (IntKind.i64.wrap (i_33 + n_30))) (.string (s_28.extract i_33.toNat ((IntKind.i64.wrap (i_33 + n_30)).toNat))) (.string substr_29) (.bool (strEq (s_28.extract i_33.toNat ((IntKind.i64.wrap (i_33 + n_30)).toNat)) substr_29)) (strEq (s_28.extract i_33.toNat ((IntKind.i64.wrap (i_33 + n_30)).toNat)) substr_29)))
  (j36 s_28 substr_29 n_30 c0_31 c1_32 i_33 t_34 fails_35 (.tuple ⟨[]⟩) (.tuple ⟨[]⟩) (.tuple ⟨[]⟩) (.tuple ⟨[]⟩) (.tuple ⟨[]⟩) (.tuple ⟨[]⟩) (.tuple ⟨[]⟩) (.tuple ⟨[]⟩) false)))) (fun j27 =>
  idxW s_19 i_24 (fun (c112 : UInt8) =>
  brW (((c112.toNat : Int) : Int) != c0_22)
  (ifW (bndOk (some t_25) s_19.size ∧ bndOk (some (IntKind.i64.wrap (i_24 + 1))) (t_25.toNat))
  (callT Tryz.prog 118 [.string (s_19.extract ((IntKind.i64.wrap (i_24 + 1)).toNat) t_25.toNat), .int .u8 c0_22] kI (fun (x113 : Int) =>
  brW (decide ((x113 : Int) < 0))
  (K (.int .i64 (-1)))
  (j27 s_19 substr_20 n_21 c0_22 c1_23 (IntKind.i64.wrap (i_24 + (IntKind.i64.wrap (x113 + 1)))) t_25 fails_26))))
  (j27 s_19 substr_20 n_21 c0_22 c1_23 i_24 t_25 fails_26))))
  (K (.int .i64 (-1))))) (fun (R114 : ByteArray → ByteArray → Int → Int → Int → Int → Int → Int → H → Prop) => R114 s_11 substr_12 n_13 (c16.toNat : Int) (c17.toNat : Int) 0 (IntKind.i64.wrap ((IntKind.i64.wrap (((s_11.size : Nat) : Int) - n_13)) + 1)) 0))))) (fun j10 =>
  rdT (rdC 0 0) kI (fun (x115 : Int) =>
  brW (decide ((n_6 : Int) ≤ x115))
  (j10 s_4 substr_5 n_6 (decide ((((s_4.size : Nat) : Int) : Int) ≤ 64)))
  (j10 s_4 substr_5 n_6 false))))))) (fun j3 =>
  brW ((((substr_2.size : Nat) : Int) : Int) == 0)
  (j3 s_1 substr_2 ((substr_2.size : Nat) : Int) true)
  (j3 s_1 substr_2 ((substr_2.size : Nat) : Int) (strEq substr_2 s_1)))
theorem e180 (s_1 : ByteArray) (substr_2 : ByteArray) (K : Value → H → Prop) : bodyF Tryz.prog tau Tryz.f180 an180 [.string s_1, .string substr_2] K = g180 s_1 substr_2 K := by kernel_rfl
theorem c180 (s_1 : ByteArray) (substr_2 : ByteArray) {K : Value → H → Prop} {σ : H} (h : g180 s_1 substr_2 K σ) : callW Tryz.prog 180 [.string s_1, .string substr_2] K σ := call_of_body mixed Tryz.func180 (by rw [e180]; exact h)


/-- strings.IndexAny -/
def an187 : Ann := (.seq none (.reg [] []) (.seq none (.seq none (.reg [] []) (.cond (.seq none (.reg [] []) .leaf) .leaf)) (.seq none (.seq none (.reg [] []) (.cond (.seq none (.reg [] []) (.seq (some [(0, .sc .str), (5, .sc (.int .i32))]) (.seq none (.reg [] []) (.cond (.reg [] []) .leaf)) (.seq none (.reg [] []) .leaf))) .leaf)) (.seq (some [(0, .sc .str), (1, .sc .str)]) (.seq none (.reg [] []) (.cond (.seq none (.reg [] []) (.seq none (.reg [] []) (.cond (.seq none (.seq none (.reg [] []) (.blk (.loop [(0, .sc .str), (6, .sc .ptr), (8, .sc (.int .i64))] (.seq none (.seq none (.reg [] []) (.cond .leaf .leaf)) (.seq none (.blk (.seq none (.reg [] []) (.cond (.seq none (.reg [] []) .leaf) .leaf))) (.reg [] [])))))) (.seq none (.reg [] []) .leaf)) .leaf))) .leaf)) (.seq none (.seq none (.reg [] []) (.blk (.loop [(1, .sc .str), (45, .sc .ptr)] (.seq none (.reg [] []) (.seq none (.cond .leaf .leaf) (.blk (.seq none (.reg [] []) (.seq none (.reg [] []) (.cond (.seq none (.reg [] []) .leaf) .leaf))))))))) (.seq none (.reg [] []) .leaf))))))
def g187 (s_1 : ByteArray) (chars_2 : ByteArray) (K : Value → H → Prop) : H → Prop :=
  brW (strEq chars_2 (⟨⟨[]⟩⟩ : ByteArray))
  (K (.int .i64 (-1)))
  (brW ((((chars_2.size : Nat) : Int) : Int) == 1)
  (idxW chars_2 0 (fun (c3 : UInt8) =>
  letJ (T := ByteArray → Int → H → Prop) (fun (s_5 : ByteArray) (r_6 : Int) =>
  callT Tryz.prog 201 [.string s_5, .int .i32 r_6] kI (fun (x7 : Int) =>
  K (.int .i64 x7))) (fun j4 =>
  brW (decide (((IntKind.i32.wrap (c3.toNat : Int)) : Int) ≥ 128))
  (j4 s_1 65533)
  (j4 s_1 (IntKind.i32.wrap (c3.toNat : Int))))))
  (letJ (T := ByteArray → ByteArray → H → Prop) (fun (s_9 : ByteArray) (chars_10 : ByteArray) =>
  vaW Tryz.prog (Instr.range 9 (.string s_9)) kP (fun (x11 : Option Addr) =>
  loopW [.sc .str, .sc .ptr] (fun (R12 : ByteArray → Option Addr → H → Prop) => (fun (chars_13 : ByteArray) (x14 : Option Addr) =>
  vaW Tryz.prog (Instr.next (.pointer x14) true 0) (.opt [.sc (.int .i64), .sc (.int .i32)]) (K (.int .i64 (-1)),
  (fun (x15 : Int) (x16 : Int) =>
  callT Tryz.prog 201 [.string chars_13, .int .i32 x16] kI (fun (x17 : Int) =>
  brW (decide ((x17 : Int) ≥ 0))
  (K (.int .i64 x15))
  (R12 chars_13 x14)))))) (fun (R18 : ByteArray → Option Addr → H → Prop) => R18 chars_10 x11))) (fun j8 =>
  callT Tryz.prog 202 [.int .i64 ((s_1.size : Nat) : Int)] kB (fun (x19 : Bool) =>
  brW x19
  (callT Tryz.prog 203 [.string chars_2] (.tup [.sc .raw, .sc .bool]) (fun (x20 : Value) (x21 : Bool) =>
  alW (.cells ⟨[.bool false, .bool false, .bool false, .bool false, .bool false, .bool false, .bool false, .bool false, .bool false, .bool false, .bool false, .bool false, .bool false, .bool false, .bool false, .bool false, .bool false, .bool false, .bool false, .bool false, .bool false, .bool false, .bool false, .bool false, .bool false, .bool false, .bool false, .bool false, .bool false, .bool false, .bool false, .bool false, .bool false, .bool false, .bool false, .bool false, .bool false, .bool false, .bool false, .bool false, .bool false, .bool false, .bool false, .bool false, .bool false, .bool false, .bool false, .bool false, .bool false, .bool false, .bool false, .bool false, .bool false, .bool false, .bool false, .bool false, .bool false, .bool false, .bool false, .bool false, .bool false, .bool false, .bool false, .bool false, .bool false, .bool false, .bool false, .bool false, .bool false, .bool false, .bool false, .bool false, .bool false, .bool false, .bool false, .bool false, .bool false, .bool false, .bool false, .bool false, .bool false, .bool false, .bool false, .bool false, .bool false, .bool false, .bool false, .bool false, .bool false, .bool false, .bool false, .bool false, .bool false, .bool false, .bool false, .bool false, .bool false, .bool false, .bool false, .bool false, .bool false, .bool false, .bool false, .bool false, .bool false, .bool false, .bool false, .bool false, .bool false, .bool false, .bool false, .bool false, .bool false, .bool false, .bool false, .bool false, .bool false, .bool false, .bool false, .bool false, .bool false, .bool false, .bool false, .bool false, .bool false, .bool false, .bool false, .bool false, .bool false, .bool false, .bool false, .bool false, .bool false, .bool false, .bool false, .bool false, .bool false, .bool false, .bool false, .bool false, .bool false, .bool false, .bool false, .bool false, .bool false, .bool false, .bool false, .bool false, .bool false, .bool false, .bool false, .bool false, .bool false, .bool false, .bool false, .bool false, .bool false, .bool false, .bool false, .bool false, .bool false, .bool false, .bool false, .bool false, .bool false, .bool false, .bool false, .bool false, .bool false, .bool false, .bool false, .bool false, .bool false, .bool false, .bool false, .bool false, .bool false, .bool false, .bool false, .bool false, .bool false, .bool false, .bool false, .bool false, .bool false, .bool false, .bool false, .bool false, .bool false, .bool false, .bool false, .bool false, .bool false, .bool false, .bool false, .bool false, .bool false, .bool false, .bool false, .bool false, .bool false, .bool false, .bool false, .bool false, .bool false, .bool false, .bool false, .bool false, .bool false, .bool false, .bool false, .bool false, .bool false, .bool false, .bool false, .bool false, .bool false, .bool false, .bool false, .bool false, .bool false, .bool false, .bool false, .bool false, .bool false, .bool false, .bool false, .bool false, .bool false, .bool false, .bool false, .bool false, .bool false, .bool false, .bool false, .bool false, .bool false, .bool false, .bool false, .bool false, .bool false, .bool false, .bool false, .bool false, .bool false, .bool false, .bool false, .bool false, .bool false, .bool false, .bool false, .bool false, .bool false, .bool false, .bool false, .bool false]⟩ 220 (0, 0)) (fun (b22 : Nat) =>
  stW Tryz.prog 220 (.pointer (some ⟨b22, 0, none⟩)) (x20) (brW x21
  (loopW [.sc .str, .sc .ptr, .sc (.int .i64)] (fun (R23 : ByteArray → Option Addr → Int → H → Prop) => (fun (s_24 : ByteArray) (as_25 : Option Addr) (i_26 : Int) =>
  brW (decide ((i_26 : Int) < ((s_24.size : Nat) : Int)))
  (idxW s_24 i_26 (fun (c27 : UInt8) =>
  callT Tryz.prog 204 [.pointer as_25, .int .u8 (c27.toNat : Int)] kB (fun (x28 : Bool) =>
  brW x28
  (K (.int .i64 i_26))
  (R23 s_24 as_25 (IntKind.i64.wrap (i_26 + 1))))))
  (K (.int .i64 (-1))))) (fun (R29 : ByteArray → Option Addr → Int → H → Prop) => R29 s_1 (some ⟨b22, 0, none⟩) 0))
  (j8 s_1 chars_2)))))
  (j8 s_1 chars_2)))))
theorem e187 (s_1 : ByteArray) (chars_2 : ByteArray) (K : Value → H → Prop) : bodyF Tryz.prog tau Tryz.f187 an187 [.string s_1, .string chars_2] K = g187 s_1 chars_2 K := by kernel_rfl
theorem c187 (s_1 : ByteArray) (chars_2 : ByteArray) {K : Value → H → Prop} {σ : H} (h : g187 s_1 chars_2 K σ) : callW Tryz.prog 187 [.string s_1, .string chars_2] K σ := call_of_body mixed Tryz.func187 (by rw [e187]; exact h)


/-- slices.ContainsFunc   func() bool func() bool  -/
def an188 : Ann := (.seq none (.reg [] []) (.seq none (.reg [] []) .leaf))
def g188 (s_1 : Sl) (f_2 : Value) (K : Value → H → Prop) : H → Prop :=
  callT Tryz.prog 205 [.slice s_1.base s_1.len s_1.cap, f_2] kI (fun (x3 : Int) =>
  K (.bool (decide ((x3 : Int) ≥ 0))))
theorem e188 (s_1 : Sl) (f_2 : Value) (K : Value → H → Prop) : bodyF Tryz.prog tau Tryz.f188 an188 [.slice s_1.base s_1.len s_1.cap, f_2] K = g188 s_1 f_2 K := by kernel_rfl
theorem c188 (s_1 : Sl) (f_2 : Value) {K : Value → H → Prop} {σ : H} (h : g188 s_1 f_2 K σ) : callW Tryz.prog 188 [.slice s_1.base s_1.len s_1.cap, f_2] K σ := call_of_body mixed Tryz.func188 (by rw [e188]; exact h)


/-- whisk/tree.all$1 -/
def an189 : Ann := (.seq none (.reg [] []) (.seq none (.reg [] []) .leaf))
def g189 (is_1 : Value) (K : Value → H → Prop) : H → Prop :=
  cvalT Tryz.prog is_1 [] kB (fun (x2 : Bool) =>
  K (.bool (!x2)))
theorem e189 (is_1 : Value) (K : Value → H → Prop) : bodyF Tryz.prog tau Tryz.f189 an189 [is_1] K = g189 is_1 K := by kernel_rfl
theorem c189 (is_1 : Value) {K : Value → H → Prop} {σ : H} (h : g189 is_1 K σ) : callW Tryz.prog 189 [is_1] K σ := call_of_body mixed Tryz.func189 (by rw [e189]; exact h)


/-- whisk/fs.names$1 -/
def an190 : Ann := (.seq none (.reg [] []) (.seq none (.reg [] []) (.seq (some [(2, .sc .ptr), (3, .sc .ptr), (4, .sc .ptr)]) (.seq none (.reg [] []) (.blk (.rf [.sc .str] (.reg [] []) (.blk (.seq none (.seq (some [(2, .sc .ptr), (3, .sc .ptr), (4, .sc .ptr), (5, .sc .str), (14, .sc .bool)]) (.reg [] []) (.cond .leaf .leaf)) (.seq none (.seq (some [(3, .sc .ptr), (4, .sc .ptr), (5, .sc .str), (21, .sc .bool)]) (.reg [] []) (.cond .leaf .leaf)) (.reg [] []))))))) (.seq none (.reg [] []) (.cond (.reg [] []) .leaf)))))
def g190 (yield_1 : Value) (x2 : Option Addr) (K : Value → H → Prop) : H → Prop :=
  oneK yield_1
  (alW (.cells ⟨[yield_1]⟩ 206 (0, 0)) (fun (b3 : Nat) =>
  alW (.cells ⟨[.string (⟨⟨[]⟩⟩ : ByteArray)]⟩ 9 (0, 0)) (fun (b4 : Nat) =>
  alW (.cells ⟨[.bool false]⟩ 4 (0, 0)) (fun (b5 : Nat) =>
  stW Tryz.prog 9 (.pointer (some ⟨b4, 0, none⟩)) (.string (⟨⟨[]⟩⟩ : ByteArray)) (stW Tryz.prog 4 (.pointer (some ⟨b5, 0, none⟩)) (.bool false) (letJ (T := Option Addr → Option Addr → Option Addr → H → Prop) (fun (yield_7 : Option Addr) (ahead_8 : Option Addr) (some_9 : Option Addr) =>
  ptrW some_9 (fun (b10 o11 : Nat) =>
  rdT (rdC b10 o11) kB (fun (x12 : Bool) =>
  brW x12
  (ptrW yield_7 (fun (b13 o14 : Nat) =>
  rdT (rdC b13 o14) kR (fun (x15 : Value) =>
  ptrW ahead_8 (fun (b16 o17 : Nat) =>
  rdT (rdC b16 o17) kS (fun (x18 : ByteArray) =>
  cvalT Tryz.prog x15 [.string x18, .bool true] kB (fun (_x19 : Bool) =>
  K (.tuple ⟨[]⟩)))))))
  (K (.tuple ⟨[]⟩))))) (fun j6 =>
  ptrW x2 (fun (b20 o21 : Nat) =>
  rdT (rdC b20 o21) kS (fun (x22 : ByteArray) =>
  callT Tryz.prog 191 [.string x22, .string (⟨⟨[47]⟩⟩ : ByteArray)] kR (fun (x23 : Value) =>
  funW x23 (fun (g50 : FuncId) (as51 cs52 : List Value) =>
  rfW Tryz.prog none g50 as51 cs52 [.sc .str] (fun (l24 : Nat) (obj25 : LoopState → Option Code → Obj) (K26 : Value → H → Prop) => (fun (x27 : ByteArray) =>
  begW l24 obj25 (letJ (T := Option Addr → Option Addr → Option Addr → ByteArray → Bool → H → Prop) (fun (yield_29 : Option Addr) (ahead_30 : Option Addr) (some_31 : Option Addr) (s_32 : ByteArray) (x33 : Bool) =>
  brW x33
  (roundK l24 obj25 K26 none true .ready)
  (letJ (T := Option Addr → Option Addr → ByteArray → Bool → H → Prop) (fun (ahead_35 : Option Addr) (some_36 : Option Addr) (s_37 : ByteArray) (x38 : Bool) =>
  brW x38
  (roundK l24 obj25 K26 (some .ret) false .done)
  (stW Tryz.prog 9 (.pointer ahead_35) (.string s_37) (stW Tryz.prog 4 (.pointer some_36) (.bool true) (roundK l24 obj25 K26 none true .ready)))) (fun j34 =>
  ptrW some_31 (fun (b39 o40 : Nat) =>
  rdT (rdC b39 o40) kB (fun (x41 : Bool) =>
  brW x41
  (ptrW yield_29 (fun (b42 o43 : Nat) =>
  rdT (rdC b42 o43) kR (fun (x44 : Value) =>
  ptrW ahead_30 (fun (b45 o46 : Nat) =>
  rdT (rdC b45 o46) kS (fun (x47 : ByteArray) =>
  cvalT Tryz.prog x44 [.string x47, .bool false] kB (fun (x48 : Bool) =>
  j34 ahead_30 some_31 s_32 (!x48)))))))
  (j34 ahead_30 some_31 s_32 false)))))) (fun j28 =>
  brW (strEq x27 (⟨⟨[]⟩⟩ : ByteArray))
  (j28 (some ⟨b3, 0, none⟩) (some ⟨b4, 0, none⟩) (some ⟨b5, 0, none⟩) x27 true)
  (j28 (some ⟨b3, 0, none⟩) (some ⟨b4, 0, none⟩) (some ⟨b5, 0, none⟩) x27 (strEq x27 (⟨⟨[46]⟩⟩ : ByteArray)))))))
  (j6 (some ⟨b3, 0, none⟩) (some ⟨b4, 0, none⟩) (some ⟨b5, 0, none⟩))
  (fun (i49 : Nat) => exW i49 0 (j6 (some ⟨b3, 0, none⟩) (some ⟨b4, 0, none⟩) (some ⟨b5, 0, none⟩)) (nW))
  (K (.tuple ⟨[]⟩)))))))))))))
theorem e190 (yield_1 : Value) (x2 : Option Addr) (K : Value → H → Prop) : bodyF Tryz.prog tau Tryz.f190 an190 [yield_1, .pointer x2] K = g190 yield_1 x2 K := by kernel_rfl
theorem c190 (yield_1 : Value) (x2 : Option Addr) {K : Value → H → Prop} {σ : H} (h : g190 yield_1 x2 K σ) : callW Tryz.prog 190 [yield_1, .pointer x2] K σ := call_of_body mixed Tryz.func190 (by rw [e190]; exact h)


/-- strings.SplitSeq -/
def an191 : Ann := (.seq none (.reg [] []) (.seq none (.reg [] []) .leaf))
def g191 (s_1 : ByteArray) (sep_2 : ByteArray) (K : Value → H → Prop) : H → Prop :=
  callT Tryz.prog 206 [.string s_1, .string sep_2, .int .i64 0] kR (fun (x3 : Value) =>
  K (x3))
theorem e191 (s_1 : ByteArray) (sep_2 : ByteArray) (K : Value → H → Prop) : bodyF Tryz.prog tau Tryz.f191 an191 [.string s_1, .string sep_2] K = g191 s_1 sep_2 K := by kernel_rfl
theorem c191 (s_1 : ByteArray) (sep_2 : ByteArray) {K : Value → H → Prop} {σ : H} (h : g191 s_1 sep_2 K σ) : callW Tryz.prog 191 [.string s_1, .string sep_2] K σ := call_of_body mixed Tryz.func191 (by rw [e191]; exact h)


/-- internal/stringslite.TrimSuffix -/
def an195 : Ann := (.seq none (.reg [] []) (.seq none (.seq none (.reg [] []) (.cond (.seq none (.reg [] []) .leaf) .leaf)) (.seq none (.reg [] []) .leaf)))
def g195 (s_1 : ByteArray) (suffix_2 : ByteArray) (K : Value → H → Prop) : H → Prop :=
  callT Tryz.prog 218 [.string s_1, .string suffix_2] kB (fun (x3 : Bool) =>
  brW x3
  (ifW (bndOk (some (IntKind.i64.wrap (((s_1.size : Nat) : Int) - ((suffix_2.size : Nat) : Int)))) s_1.size ∧ bndOk none ((IntKind.i64.wrap (((s_1.size : Nat) : Int) - ((suffix_2.size : Nat) : Int))).toNat))
  (K (.string (s_1.extract 0 ((IntKind.i64.wrap (((s_1.size : Nat) : Int) - ((suffix_2.size : Nat) : Int))).toNat)))))
  (K (.string s_1)))
theorem e195 (s_1 : ByteArray) (suffix_2 : ByteArray) (K : Value → H → Prop) : bodyF Tryz.prog tau Tryz.f195 an195 [.string s_1, .string suffix_2] K = g195 s_1 suffix_2 K := by kernel_rfl
theorem c195 (s_1 : ByteArray) (suffix_2 : ByteArray) {K : Value → H → Prop} {σ : H} (h : g195 s_1 suffix_2 K σ) : callW Tryz.prog 195 [.string s_1, .string suffix_2] K σ := call_of_body mixed Tryz.func195 (by rw [e195]; exact h)


/-- strings.IndexRune -/
def an201 : Ann := (.seq none (.reg [] []) (.blk (.seq (some [(0, .sc .str), (1, .sc (.int .i32)), (160, .sc .bool)]) (.reg [] []) (.cond (.seq none (.reg [] []) .leaf) (.seq none (.reg [] []) (.cond (.seq none (.seq none (.reg [] []) (.blk (.loop [(175, .sc .ptr)] (.seq none (.reg [] []) (.seq none (.cond .leaf .leaf) (.blk (.seq none (.reg [] []) (.seq none (.reg [] []) (.cond (.seq none (.reg [] []) .leaf) .leaf))))))))) (.seq none (.reg [] []) .leaf)) (.seq none (.reg [] []) (.cond (.seq none (.reg [] []) .leaf) (.blk (.seq none (.reg [] []) (.seq none (.reg [] []) (.seq none (.reg [] []) (.seq none (.reg [] []) (.seq none (.blk (.loop [(0, .sc .str), (7, .sc .str), (8, .sc (.int .i64)), (9, .sc (.int .i64))] (.seq none (.seq none (.reg [] []) (.cond .leaf .leaf)) (.blk (.blk (.seq (some [(0, .sc .str), (7, .sc .str), (8, .sc (.int .i64)), (9, .sc (.int .i64))]) (.seq none (.reg [0, 1, 2, 3, 4, 5, 6] [[], [], [0, 1], [], [], [3, 4], [0, 1, 2, 3, 4, 5]]) (.cond (.seq none (.reg [0, 1, 2, 3, 4, 5, 6, 7, 8] [[], [], [1], [0, 1, 2], [], [], [4, 5], [0, 1, 2, 3, 4, 5, 6], [0, 1, 2, 3, 4, 5, 6, 7]]) (.seq none (.seq none (.reg [] []) (.cond (.seq none (.reg [] []) .leaf) .leaf)) (.reg [] []))) .leaf)) (.seq none (.seq none (.reg [] []) (.blk (.loop [(0, .sc .str), (7, .sc .str), (8, .sc (.int .i64)), (9, .sc (.int .i64)), (12, .sc (.int .i64))] (.seq none (.seq none (.reg [] []) (.cond .leaf .leaf)) (.seq none (.blk (.seq none (.reg [0, 1, 2, 3, 4, 5, 6, 7, 8, 9, 10] [[], [], [], [1, 2], [0, 1, 2, 3], [], [], [], [6, 7], [5, 6, 7, 8], [0, 1, 2, 3, 4, 5, 6, 7, 8, 9]]) (.cond .leaf .leaf))) (.reg [] [])))))) (.seq none (.seq none (.reg [] []) .leaf) (.seq none .leaf (.seq none (.reg [] []) (.seq none (.reg [] []) (.seq none (.reg [] []) (.cond .leaf .leaf))))))))))))) (.seq none (.seq none (.reg [] []) .leaf) (.seq none .leaf (.seq none (.cond (.seq none (.reg [] []) (.seq none (.reg [] []) (.cond (.seq none (.reg [] []) .leaf) .leaf))) (.blk (.seq none (.reg [] []) (.seq none (.reg [] []) (.seq none .leaf (.blk (.loop [] (.seq none (.seq none (.reg [] []) (.cond .leaf .leaf)) (.seq none (.blk (.seq none (.reg [] []) (.cond (.seq none (.seq none (.reg [] []) (.blk (.loop [] (.seq none (.seq none (.reg [] []) (.cond .leaf .leaf)) (.seq none (.blk (.seq none (.reg [] []) (.cond .leaf .leaf))) (.reg [] [])))))) (.seq none (.reg [] []) .leaf)) .leaf))) (.reg [] [])))))))))) (.seq none (.reg [] []) .leaf))))))))))))))))))
def g201 (s_1 : ByteArray) (r_2 : Int) (K : Value → H → Prop) : H → Prop :=
  letJ (T := ByteArray → Int → Bool → H → Prop) (fun (s_4 : ByteArray) (r_5 : Int) (x6 : Bool) =>
  brW x6
  (callT Tryz.prog 65 [.string s_4, .int .u8 (IntKind.u8.wrap r_5)] kI (fun (x7 : Int) =>
  K (.int .i64 x7)))
  (brW ((r_5 : Int) == 65533)
  (vaW Tryz.prog (Instr.range 9 (.string s_4)) kP (fun (x8 : Option Addr) =>
  loopW [.sc .ptr] (fun (R9 : Option Addr → H → Prop) => (fun (x10 : Option Addr) =>
  vaW Tryz.prog (Instr.next (.pointer x10) true 0) (.opt [.sc (.int .i64), .sc (.int .i32)]) (K (.int .i64 (-1)),
  (fun (x11 : Int) (x12 : Int) =>
  brW ((x12 : Int) == 65533)
  (K (.int .i64 x11))
  (R9 x10))))) (fun (R13 : Option Addr → H → Prop) => R13 x8)))
  (callT Tryz.prog 221 [.int .i32 r_5] kB (fun (x14 : Bool) =>
  brW (!x14)
  (K (.int .i64 (-1)))
  (vaW Tryz.prog (convert 21 9 (.int .i32 r_5)) kS (fun (x15 : ByteArray) =>
  loopW [.sc .str, .sc .str, .sc (.int .i64), .sc (.int .i64)] (fun (R16 : ByteArray → ByteArray → Int → Int → H → Prop) => (fun (s_17 : ByteArray) (rs_18 : ByteArray) (last_19 : Int) (i_20 : Int) =>
  brW (decide ((i_20 : Int) < ((s_17.size : Nat) : Int)))
  (letJ (T := ByteArray → ByteArray → Int → Int → H → Prop) (fun (s_22 : ByteArray) (rs_23 : ByteArray) (last_24 : Int) (i_25 : Int) =>
  loopW [.sc .str, .sc .str, .sc (.int .i64), .sc (.int .i64), .sc (.int .i64)] (fun (R26 : ByteArray → ByteArray → Int → Int → Int → H → Prop) => (fun (s_27 : ByteArray) (rs_28 : ByteArray) (last_29 : Int) (i_30 : Int) (j_31 : Int) =>
  brW (decide ((j_31 : Int) < ((rs_28.size : Nat) : Int)))
  (idxW s_27 (IntKind.i64.wrap (i_30 - j_31)) (fun (c32 : UInt8) =>
  idxW rs_28 (IntKind.i64.wrap (last_29 - j_31)) (fun (c33 : UInt8) =>
  brW (((c32.toNat : Int) : Int) != (c33.toNat : Int))
  (nW)
  (R26 s_27 rs_28 last_29 i_30 (IntKind.i64.wrap (j_31 + 1))))))
  (K (.int .i64 (IntKind.i64.wrap (i_30 - last_29)))))) (fun (R34 : ByteArray → ByteArray → Int → Int → Int → H → Prop) => R34 s_22 rs_23 last_24 i_25 1)) (fun j21 =>
  idxW s_17 i_20 (fun (c35 : UInt8) =>
  idxW rs_18 last_19 (fun (c36 : UInt8) =>
  brW (((c35.toNat : Int) : Int) != (c36.toNat : Int))
  (ifW (bndOk none s_17.size ∧ bndOk (some (IntKind.i64.wrap (i_20 + 1))) (s_17.size))
  (idxW rs_18 last_19 (fun (c37 : UInt8) =>
  callT Tryz.prog 65 [.string (s_17.extract ((IntKind.i64.wrap (i_20 + 1)).toNat) s_17.size), .int .u8 (c37.toNat : Int)] kI (fun (x38 : Int) =>
  brW (decide ((x38 : Int) < 0))
  (K (.int .i64 (-1)))
  (j21 s_17 rs_18 last_19 (IntKind.i64.wrap (i_20 + (IntKind.i64.wrap (x38 + 1)))))))))
  (j21 s_17 rs_18 last_19 i_20)))))
  (K (.int .i64 (-1))))) (fun (R39 : ByteArray → ByteArray → Int → Int → H → Prop) => R39 s_4 x15 (IntKind.i64.wrap (((x15.size : Nat) : Int) - 1)) (IntKind.i64.wrap (((x15.size : Nat) : Int) - 1))))))))) (fun j3 =>
  brW (decide ((0 : Int) ≤ r_2))
  (j3 s_1 r_2 (decide ((r_2 : Int) < 128)))
  (j3 s_1 r_2 false))
theorem e201 (s_1 : ByteArray) (r_2 : Int) (K : Value → H → Prop) : bodyF Tryz.prog tau Tryz.f201 an201 [.string s_1, .int .i32 r_2] K = g201 s_1 r_2 K := by kernel_rfl
theorem c201 (s_1 : ByteArray) (r_2 : Int) {K : Value → H → Prop} {σ : H} (h : g201 s_1 r_2 K σ) : callW Tryz.prog 201 [.string s_1, .int .i32 r_2] K σ := call_of_body mixed Tryz.func201 (by rw [e201]; exact h)


/-- strings.shouldUseASCIISet -/
def an202 : Ann := (.seq none (.reg [] []) (.seq none (.reg [] []) .leaf))
def g202 (bufLen_1 : Int) (K : Value → H → Prop) : H → Prop :=
  K (.bool (decide ((bufLen_1 : Int) > 8)))
theorem e202 (bufLen_1 : Int) (K : Value → H → Prop) : bodyF Tryz.prog tau Tryz.f202 an202 [.int .i64 bufLen_1] K = g202 bufLen_1 K := by kernel_rfl
theorem c202 (bufLen_1 : Int) {K : Value → H → Prop} {σ : H} (h : g202 bufLen_1 K σ) : callW Tryz.prog 202 [.int .i64 bufLen_1] K σ := call_of_body mixed Tryz.func202 (by rw [e202]; exact h)


/-- strings.makeASCIISet -/
def an203 : Ann := (.seq none (.reg [] []) (.seq none (.seq none (.reg [] []) (.blk (.loop [(0, .sc .str), (2, .sc .ptr), (4, .sc (.int .i64))] (.seq none (.seq none (.reg [] []) (.cond .leaf .leaf)) (.seq none (.blk (.seq none (.reg [] []) (.seq none (.seq none (.reg [] []) (.cond (.seq none (.reg [] []) .leaf) .leaf)) (.reg [] [])))) (.reg [] [])))))) (.seq none (.reg [] []) .leaf)))
def g203 (chars_1 : ByteArray) (K : Value → H → Prop) : H → Prop :=
  alW (.cells ⟨[.bool false, .bool false, .bool false, .bool false, .bool false, .bool false, .bool false, .bool false, .bool false, .bool false, .bool false, .bool false, .bool false, .bool false, .bool false, .bool false, .bool false, .bool false, .bool false, .bool false, .bool false, .bool false, .bool false, .bool false, .bool false, .bool false, .bool false, .bool false, .bool false, .bool false, .bool false, .bool false, .bool false, .bool false, .bool false, .bool false, .bool false, .bool false, .bool false, .bool false, .bool false, .bool false, .bool false, .bool false, .bool false, .bool false, .bool false, .bool false, .bool false, .bool false, .bool false, .bool false, .bool false, .bool false, .bool false, .bool false, .bool false, .bool false, .bool false, .bool false, .bool false, .bool false, .bool false, .bool false, .bool false, .bool false, .bool false, .bool false, .bool false, .bool false, .bool false, .bool false, .bool false, .bool false, .bool false, .bool false, .bool false, .bool false, .bool false, .bool false, .bool false, .bool false, .bool false, .bool false, .bool false, .bool false, .bool false, .bool false, .bool false, .bool false, .bool false, .bool false, .bool false, .bool false, .bool false, .bool false, .bool false, .bool false, .bool false, .bool false, .bool false, .bool false, .bool false, .bool false, .bool false, .bool false, .bool false, .bool false, .bool false, .bool false, .bool false, .bool false, .bool false, .bool false, .bool false, .bool false, .bool false, .bool false, .bool false, .bool false, .bool false, .bool false, .bool false, .bool false, .bool false, .bool false, .bool false, .bool false, .bool false, .bool false, .bool false, .bool false, .bool false, .bool false, .bool false, .bool false, .bool false, .bool false, .bool false, .bool false, .bool false, .bool false, .bool false, .bool false, .bool false, .bool false, .bool false, .bool false, .bool false, .bool false, .bool false, .bool false, .bool false, .bool false, .bool false, .bool false, .bool false, .bool false, .bool false, .bool false, .bool false, .bool false, .bool false, .bool false, .bool false, .bool false, .bool false, .bool false, .bool false, .bool false, .bool false, .bool false, .bool false, .bool false, .bool false, .bool false, .bool false, .bool false, .bool false, .bool false, .bool false, .bool false, .bool false, .bool false, .bool false, .bool false, .bool false, .bool false, .bool false, .bool false, .bool false, .bool false, .bool false, .bool false, .bool false, .bool false, .bool false, .bool false, .bool false, .bool false, .bool false, .bool false, .bool false, .bool false, .bool false, .bool false, .bool false, .bool false, .bool false, .bool false, .bool false, .bool false, .bool false, .bool false, .bool false, .bool false, .bool false, .bool false, .bool false, .bool false, .bool false, .bool false, .bool false, .bool false, .bool false, .bool false, .bool false, .bool false, .bool false, .bool false, .bool false, .bool false, .bool false, .bool false, .bool false, .bool false, .bool false, .bool false, .bool false, .bool false, .bool false, .bool false, .bool false, .bool false, .bool false, .bool false, .bool false, .bool false, .bool false, .bool false, .bool false, .bool false, .bool false, .bool false, .bool false, .bool false]⟩ 220 (0, 0)) (fun (b2 : Nat) =>
  loopW [.sc .str, .sc .ptr, .sc (.int .i64)] (fun (R3 : ByteArray → Option Addr → Int → H → Prop) => (fun (chars_4 : ByteArray) (as_5 : Option Addr) (i_6 : Int) =>
  brW (decide ((i_6 : Int) < ((chars_4.size : Nat) : Int)))
  (idxW chars_4 i_6 (fun (c7 : UInt8) =>
  brW (decide (((c7.toNat : Int) : Int) ≥ 128))
  (ptrW as_5 (fun (b8 o9 : Nat) =>
  rdT (rdA 256 b8 o9) kR (fun (x10 : Value) =>
  stW Tryz.prog 220 (.pointer as_5) (x10) (ptrW as_5 (fun (b11 o12 : Nat) =>
  rdT (rdA 256 b11 o12) kR (fun (r13 : Value) =>
  K (.tuple ⟨[r13, .bool false]⟩)))))))
  (ptrW as_5 (fun (b14 o15 : Nat) =>
  ifW (0 ≤ (c7.toNat : Int) ∧ (c7.toNat : Int) < ((256 : Nat) : Int))
  (stW Tryz.prog 4 (.pointer (some ⟨b14, o15 + ((c7.toNat : Int) : Int).toNat * 1, none⟩)) (.bool true) (R3 chars_4 as_5 (IntKind.i64.wrap (i_6 + 1))))))))
  (ptrW as_5 (fun (b16 o17 : Nat) =>
  rdT (rdA 256 b16 o17) kR (fun (x18 : Value) =>
  stW Tryz.prog 220 (.pointer as_5) (x18) (ptrW as_5 (fun (b19 o20 : Nat) =>
  rdT (rdA 256 b19 o20) kR (fun (r21 : Value) =>
  K (.tuple ⟨[r21, .bool true]⟩))))))))) (fun (R22 : ByteArray → Option Addr → Int → H → Prop) => R22 chars_1 (some ⟨b2, 0, none⟩) 0))
theorem e203 (chars_1 : ByteArray) (K : Value → H → Prop) : bodyF Tryz.prog tau Tryz.f203 an203 [.string chars_1] K = g203 chars_1 K := by kernel_rfl
theorem c203 (chars_1 : ByteArray) {K : Value → H → Prop} {σ : H} (h : g203 chars_1 K σ) : callW Tryz.prog 203 [.string chars_1] K σ := call_of_body mixed Tryz.func203 (by rw [e203]; exact h)


/-- (*strings.asciiSet).contains -/
def an204 : Ann := (.seq none (.reg [] []) (.seq none (.reg [] []) .leaf))
def g204 (as_1 : Option Addr) (c_2 : Int) (K : Value → H → Prop) : H → Prop :=
  ptrW as_1 (fun (b3 o4 : Nat) =>
  ifW (0 ≤ c_2 ∧ c_2 < ((256 : Nat) : Int))
  (rdT (rdC b3 (o4 + c_2.toNat * 1)) kB (fun (x5 : Bool) =>
  K (.bool x5))))
theorem e204 (as_1 : Option Addr) (c_2 : Int) (K : Value → H → Prop) : bodyF Tryz.prog tau Tryz.f204 an204 [.pointer as_1, .int .u8 c_2] K = g204 as_1 c_2 K := by kernel_rfl
theorem c204 (as_1 : Option Addr) (c_2 : Int) {K : Value → H → Prop} {σ : H} (h : g204 as_1 c_2 K σ) : callW Tryz.prog 204 [.pointer as_1, .int .u8 c_2] K σ := call_of_body mixed Tryz.func204 (by rw [e204]; exact h)


/-- slices.IndexFunc   func() bool func() bool  -/
def an205 : Ann := (.seq none (.reg [] []) (.seq none (.seq none (.reg [] []) (.blk (.loop [(0, .sc .slc), (1, .sc .raw), (7, .sc (.int .i64)), (8, .sc (.int .i64))] (.seq none (.reg [] []) (.seq none (.cond .leaf .leaf) (.seq none (.blk (.seq none (.reg [] []) (.seq none (.reg [] []) (.cond (.seq none (.reg [] []) .leaf) .leaf)))) (.reg [] []))))))) (.seq none (.reg [] []) .leaf)))
def g205 (s_1 : Sl) (f_2 : Value) (K : Value → H → Prop) : H → Prop :=
  loopW [.sc .slc, .sc .raw, .sc (.int .i64), .sc (.int .i64)] (fun (R3 : Sl → Value → Int → Int → H → Prop) => (fun (s_4 : Sl) (f_5 : Value) (x6 : Int) (x7 : Int) =>
  brW (decide ((x7 : Int) < x6))
  (ptrW s_4.base (fun (b8 o9 : Nat) =>
  ifW (0 ≤ x7 ∧ x7 < ((s_4.len : Nat) : Int))
  (rdT (rdC b8 (o9 + x7.toNat * 1)) kR (fun (x10 : Value) =>
  cvalT Tryz.prog f_5 [x10] kB (fun (x11 : Bool) =>
  brW x11
  (K (.int .i64 x7))
  (R3 s_4 f_5 x6 (IntKind.i64.wrap (x7 + 1))))))))
  (K (.int .i64 (-1))))) (fun (R12 : Sl → Value → Int → Int → H → Prop) => R12 s_1 f_2 ((s_1.len : Nat) : Int) 0)
theorem e205 (s_1 : Sl) (f_2 : Value) (K : Value → H → Prop) : bodyF Tryz.prog tau Tryz.f205 an205 [.slice s_1.base s_1.len s_1.cap, f_2] K = g205 s_1 f_2 K := by kernel_rfl
theorem c205 (s_1 : Sl) (f_2 : Value) {K : Value → H → Prop} {σ : H} (h : g205 s_1 f_2 K σ) : callW Tryz.prog 205 [.slice s_1.base s_1.len s_1.cap, f_2] K σ := call_of_body mixed Tryz.func205 (by rw [e205]; exact h)


/-- strings.splitSeq -/
def an206 : Ann := (.seq none (.reg [] []) (.seq none (.reg [] []) .leaf))
def g206 (s_1 : ByteArray) (sep_2 : ByteArray) (sepSave_3 : Int) (K : Value → H → Prop) : H → Prop :=
  alW (.cells ⟨[.string s_1]⟩ 9 (0, 0)) (fun (b4 : Nat) =>
  alW (.cells ⟨[.string sep_2]⟩ 9 (0, 0)) (fun (b5 : Nat) =>
  alW (.cells ⟨[.int .i64 sepSave_3]⟩ 3 (0, 0)) (fun (b6 : Nat) =>
  K (.func (.func 222) ⟨[]⟩ ⟨[.pointer (some ⟨b5, 0, none⟩), .pointer (some ⟨b4, 0, none⟩), .pointer (some ⟨b6, 0, none⟩)]⟩))))
theorem e206 (s_1 : ByteArray) (sep_2 : ByteArray) (sepSave_3 : Int) (K : Value → H → Prop) : bodyF Tryz.prog tau Tryz.f206 an206 [.string s_1, .string sep_2, .int .i64 sepSave_3] K = g206 s_1 sep_2 sepSave_3 K := by kernel_rfl
theorem c206 (s_1 : ByteArray) (sep_2 : ByteArray) (sepSave_3 : Int) {K : Value → H → Prop} {σ : H} (h : g206 s_1 sep_2 sepSave_3 K σ) : callW Tryz.prog 206 [.string s_1, .string sep_2, .int .i64 sepSave_3] K σ := call_of_body mixed Tryz.func206 (by rw [e206]; exact h)


/-- internal/stringslite.HasSuffix -/
def an218 : Ann := (.seq none (.reg [] []) (.seq none (.reg [] []) .leaf))
def g218 (s_1 : ByteArray) (suffix_2 : ByteArray) (K : Value → H → Prop) : H → Prop :=
  brW (decide ((((s_1.size : Nat) : Int) : Int) ≥ ((suffix_2.size : Nat) : Int)))
  (ifW (bndOk none s_1.size ∧ bndOk (some (IntKind.i64.wrap (((s_1.size : Nat) : Int) - ((suffix_2.size : Nat) : Int)))) (s_1.size))
  (K (.bool (strEq (s_1.extract ((IntKind.i64.wrap (((s_1.size : Nat) : Int) - ((suffix_2.size : Nat) : Int))).toNat) s_1.size) suffix_2))))
  (K (.bool false))
theorem e218 (s_1 : ByteArray) (suffix_2 : ByteArray) (K : Value → H → Prop) : bodyF Tryz.prog tau Tryz.f218 an218 [.string s_1, .string suffix_2] K = g218 s_1 suffix_2 K := by kernel_rfl
theorem c218 (s_1 : ByteArray) (suffix_2 : ByteArray) {K : Value → H → Prop} {σ : H} (h : g218 s_1 suffix_2 K σ) : callW Tryz.prog 218 [.string s_1, .string suffix_2] K σ := call_of_body mixed Tryz.func218 (by rw [e218]; exact h)


/-- unicode/utf8.ValidRune -/
def an221 : Ann := (.seq none (.reg [] []) (.seq none (.blk (.seq (some [(0, .sc (.int .i32)), (3, .sc .bool)]) (.reg [] []) (.cond (.seq none (.reg [] []) .leaf) (.seq (some [(10, .sc .bool)]) (.reg [] []) (.cond (.seq none (.reg [] []) .leaf) .leaf))))) (.seq none (.reg [] []) .leaf)))
def g221 (r_1 : Int) (K : Value → H → Prop) : H → Prop :=
  letJ (T := Int → Bool → H → Prop) (fun (r_3 : Int) (x4 : Bool) =>
  brW x4
  (K (.bool true))
  (letJ (T := Bool → H → Prop) (fun (x6 : Bool) =>
  brW x6
  (K (.bool true))
  (K (.bool false))) (fun j5 =>
  brW (decide ((57343 : Int) < r_3))
  (j5 (decide ((r_3 : Int) ≤ 1114111)))
  (j5 false)))) (fun j2 =>
  brW (decide ((0 : Int) ≤ r_1))
  (j2 r_1 (decide ((r_1 : Int) < 55296)))
  (j2 r_1 false))
theorem e221 (r_1 : Int) (K : Value → H → Prop) : bodyF Tryz.prog tau Tryz.f221 an221 [.int .i32 r_1] K = g221 r_1 K := by kernel_rfl
theorem c221 (r_1 : Int) {K : Value → H → Prop} {σ : H} (h : g221 r_1 K σ) : callW Tryz.prog 221 [.int .i32 r_1] K σ := call_of_body mixed Tryz.func221 (by rw [e221]; exact h)


/-- strings.splitSeq$1 -/
def an222 : Ann := (.seq none (.seq none (.reg [] []) (.cond (.seq none (.blk (.loop [(0, .sc .raw), (2, .sc .ptr)] (.seq none (.seq none (.reg [] []) (.cond .leaf .leaf)) (.blk (.seq none (.reg [] []) (.seq none (.seq none (.reg [] []) (.cond .leaf .leaf)) (.reg [] []))))))) .leaf) .leaf)) (.seq none (.blk (.loop [(0, .sc .raw), (1, .sc .ptr), (2, .sc .ptr), (3, .sc .ptr)] (.blk (.seq none (.reg [] []) (.seq none (.seq none (.reg [] []) (.cond .leaf .leaf)) (.seq none (.reg [] []) (.seq none (.seq none (.reg [] []) (.cond .leaf .leaf)) (.reg [] [])))))))) (.reg [] [])))
def g222 (yield_1 : Value) (x2 : Option Addr) (x3 : Option Addr) (x4 : Option Addr) (K : Value → H → Prop) : H → Prop :=
  ptrW x2 (fun (b5 o6 : Nat) =>
  rdT (rdC b5 o6) kS (fun (x7 : ByteArray) =>
  brW ((((x7.size : Nat) : Int) : Int) == 0)
  (loopW [.sc .raw, .sc .ptr] (fun (R8 : Value → Option Addr → H → Prop) => (fun (yield_9 : Value) (x10 : Option Addr) =>
  ptrW x10 (fun (b11 o12 : Nat) =>
  rdT (rdC b11 o12) kS (fun (x13 : ByteArray) =>
  brW (decide ((((x13.size : Nat) : Int) : Int) > 0))
  (ptrW x10 (fun (b14 o15 : Nat) =>
  rdT (rdC b14 o15) kS (fun (x16 : ByteArray) =>
  callT Tryz.prog 131 [.string x16] (.tup [.sc (.int .i32), .sc (.int .i64)]) (fun (_x17 : Int) (x18 : Int) =>
  ptrW x10 (fun (b19 o20 : Nat) =>
  rdT (rdC b19 o20) kS (fun (x21 : ByteArray) =>
  ifW (bndOk (some x18) x21.size ∧ bndOk none (x18.toNat))
  (cvalT Tryz.prog yield_9 [.string (x21.extract 0 x18.toNat)] kB (fun (x22 : Bool) =>
  brW (!x22)
  (K (.tuple ⟨[]⟩))
  (ptrW x10 (fun (b23 o24 : Nat) =>
  rdT (rdC b23 o24) kS (fun (x25 : ByteArray) =>
  ifW (bndOk none x25.size ∧ bndOk (some x18) (x25.size))
  (stW Tryz.prog 9 (.pointer x10) (.string (x25.extract x18.toNat x25.size)) (R8 yield_9 x10)))))))))))))
  (K (.tuple ⟨[]⟩)))))) (fun (R26 : Value → Option Addr → H → Prop) => R26 yield_1 x3))
  (loopW [.sc .raw, .sc .ptr, .sc .ptr, .sc .ptr] (fun (R27 : Value → Option Addr → Option Addr → Option Addr → H → Prop) => (fun (yield_28 : Value) (x29 : Option Addr) (x30 : Option Addr) (x31 : Option Addr) =>
  ptrW x30 (fun (b32 o33 : Nat) =>
  rdT (rdC b32 o33) kS (fun (x34 : ByteArray) =>
  ptrW x29 (fun (b35 o36 : Nat) =>
  rdT (rdC b35 o36) kS (fun (x37 : ByteArray) =>
  callT Tryz.prog 130 [.string x34, .string x37] kI (fun (x38 : Int) =>
  brW (decide ((x38 : Int) < 0))
  (ptrW x30 (fun (b39 o40 : Nat) =>
  rdT (rdC b39 o40) kS (fun (x41 : ByteArray) =>
  cvalT Tryz.prog yield_28 [.string x41] kB (fun (_x42 : Bool) =>
  K (.tuple ⟨[]⟩)))))
  (ptrW x30 (fun (b43 o44 : Nat) =>
  rdT (rdC b43 o44) kS (fun (x45 : ByteArray) =>
  ptrW x31 (fun (b46 o47 : Nat) =>
  rdT (rdC b46 o47) kI (fun (x48 : Int) =>
  ifW (bndOk (some (IntKind.i64.wrap (x38 + x48))) x45.size ∧ bndOk none ((IntKind.i64.wrap (x38 + x48)).toNat))
  (cvalT Tryz.prog yield_28 [.string (x45.extract 0 ((IntKind.i64.wrap (x38 + x48)).toNat))] kB (fun (x49 : Bool) =>
  brW (!x49)
  (K (.tuple ⟨[]⟩))
  (ptrW x30 (fun (b50 o51 : Nat) =>
  rdT (rdC b50 o51) kS (fun (x52 : ByteArray) =>
  ptrW x29 (fun (b53 o54 : Nat) =>
  rdT (rdC b53 o54) kS (fun (x55 : ByteArray) =>
  ifW (bndOk none x52.size ∧ bndOk (some (IntKind.i64.wrap (x38 + ((x55.size : Nat) : Int)))) (x52.size))
  (stW Tryz.prog 9 (.pointer x30) (.string (x52.extract ((IntKind.i64.wrap (x38 + ((x55.size : Nat) : Int))).toNat) x52.size)) (R27 yield_28 x29 x30 x31))))))))))))))))))))) (fun (R56 : Value → Option Addr → Option Addr → Option Addr → H → Prop) => R56 yield_1 x2 x3 x4))))
theorem e222 (yield_1 : Value) (x2 : Option Addr) (x3 : Option Addr) (x4 : Option Addr) (K : Value → H → Prop) : bodyF Tryz.prog tau Tryz.f222 an222 [yield_1, .pointer x2, .pointer x3, .pointer x4] K = g222 yield_1 x2 x3 x4 K := by kernel_rfl
theorem c222 (yield_1 : Value) (x2 : Option Addr) (x3 : Option Addr) (x4 : Option Addr) {K : Value → H → Prop} {σ : H} (h : g222 yield_1 x2 x3 x4 K σ) : callW Tryz.prog 222 [yield_1, .pointer x2, .pointer x3, .pointer x4] K σ := call_of_body mixed Tryz.func222 (by rw [e222]; exact h)

end Go.Proofs.YtlpcehbfoogejaaGreatDoor

/- Typed parts are handed on. -/
namespace Go.Proofs.YtlpcehbfoogejaaGreatDoor
open Go Go.HL
end Go.Proofs.YtlpcehbfoogejaaGreatDoor

