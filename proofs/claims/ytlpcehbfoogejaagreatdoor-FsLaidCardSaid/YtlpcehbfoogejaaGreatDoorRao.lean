/- A part of the proof: whisklaw08.FsLaid: what Lay lays lies there, just so, or nothing was laid. -/
import Derived.Test.YtlpcehbfoogejaaGreatDoorRan
import Derived.Test.YtlpcehbfoogejaaGreatDoorProg
import Derived.KernelRfl
import Derived.Test.YtlpcehbfoogejaaGreatDoorChecked
/- A TABLE OF INODES, as plain data: no program in sight. -/
namespace Go.Wk
open Go Go.HL
/-- an inode -/
structure AN where
  kind : Int
  mode : Int
  data : ByteArray
  links : Int
  up : Int
  ents : List (ByteArray × Int)
/-- a table -/
structure AT where
  qi : Int
  qb : Int
  ui : Int
  ub : Int
  last : Int
  nodes : List (Int × AN)
def AT.get (A : AT) (i : Int) : Option AN := lk i A.nodes
def AT.find (A : AT) (dir : Int) (name : ByteArray) : Option Int := (A.get dir).bind fun n => lk name n.ents
def AT.kind (A : AT) (i : Int) : Int := ((A.get i).map (·.kind)).getD 0
def AT.upOf (A : AT) (i : Int) : Int := ((A.get i).map (·.up)).getD 0
def AT.dirE (A : AT) (ino : Int) : Int := match A.get ino with
  | none => 5
  | some n => if n.kind == 2 then 0 else 8
def AT.fileE (A : AT) (ino : Int) : Int := match A.get ino with
  | none => 5
  | some n => if n.kind == 2 then 7 else if n.kind == 1 then 0 else 2
/-- texts that are equal, in a form that the kernel can run -/
def sEq (x y : ByteArray) : Bool := x.data.toList == y.data.toList
theorem sEq_eq (x y : ByteArray) : sEq x y = strEq x y := by unfold sEq strEq; rw [ByteArray.toList_eq, ByteArray.toList_eq]
theorem sEq_iff {x y : ByteArray} : sEq x y = true ↔ x = y := by rw [sEq_eq]; exact strEq_iff
def badByte (s : ByteArray) : Bool := s.data.toList.any fun c => c == 47 || c == 0
def hasNul (s : ByteArray) : Bool := s.data.toList.any fun c => c == 0
def namedE (name : ByteArray) : Int := if name.size > 56 then 3 else if !sEq name ⟨⟨[]⟩⟩ && !sEq name ⟨⟨[46]⟩⟩ && !sEq name ⟨⟨[46, 46]⟩⟩ && !badByte name then 0 else 2
def linkOk (d : ByteArray) : Bool := !sEq d ⟨⟨[]⟩⟩ && (decide (d.size ≤ 255) && !hasNul d)
def kindOkE (kind : Int) (d : ByteArray) : Bool := (lk kind [((1 : Int), true), (2, sEq d ⟨⟨[]⟩⟩), (3, linkOk d)]).getD false
def likeE (kind mode : Int) (d : ByteArray) : Int := if kindOkE kind d && (decide (0 ≤ mode) && decide (mode ≤ 511)) then 0 else 2
def wr (x : Int) : Int := IntKind.i64.wrap x
def AT.roomE (A : AT) (i n : Int) : Int := if wr (A.ui + i) ≤ A.qi ∧ wr (A.ub + n) ≤ A.qb then 0 else 10
def firstE : List Int → Int
  | [] => 0
  | e :: es => if e = 0 then firstE es else e
def AT.set (A : AT) (i : Int) (n : AN) : AT := { A with nodes := up i n A.nodes }
/-- setting what a directory names -/
def AT.ent (A : AT) (dir : Int) (f : List (ByteArray × Int) → List (ByteArray × Int)) : AT := match A.get dir with
  | none => A
  | some n => A.set dir { n with ents := f n.ents }
def AT.makeE (A : AT) (dir : Int) (name : ByteArray) (kind mode : Int) (data : ByteArray) : Int :=
  firstE [0, A.dirE dir, namedE name, likeE kind mode data, if (A.find dir name).isSome then 6 else 0, A.roomE 1 (data.size : Int)]
def AT.made (A : AT) (dir : Int) (name : ByteArray) (kind mode : Int) (data : ByteArray) : AT :=
  let i := wr (A.last + 1)
  let A1 := { A with last := i, nodes := up i ⟨kind, mode, data, 1, if kind == 2 then dir else 0, []⟩ A.nodes }
  let A2 := A1.ent dir (up name i)
  { A2 with ui := wr (A.ui + 1), ub := wr (A.ub + data.size) }
def AT.linkE (A : AT) (dir : Int) (name : ByteArray) (ino : Int) : Int :=
  firstE [0, A.dirE dir, namedE name, A.fileE ino, if (A.find dir name).isSome then 6 else 0]
def AT.mod (A : AT) (i : Int) (f : AN → AN) : AT := match A.get i with
  | none => A
  | some n => A.set i (f n)
def AT.linked (A : AT) (dir : Int) (name : ByteArray) (ino : Int) : AT := (A.ent dir (up name ino)).mod ino fun n => { n with links := wr (n.links + 1) }
def AT.unlinkE (A : AT) (dir : Int) (name : ByteArray) : Int :=
  firstE [0, A.dirE dir, if (A.find dir name).isSome then 0 else 5, if ((A.get ((A.find dir name).getD 0)).map (·.ents.length)).getD 0 = 0 then 0 else 20]
def AT.unlinked (A : AT) (dir : Int) (name : ByteArray) : AT :=
  let ino := (A.find dir name).getD 0
  let A1 := (A.ent dir (rm name)).mod ino fun n => { n with links := wr (n.links - 1) }
  match A1.get ino with
  | none => A1
  | some n => if n.links == 0 then { A1 with nodes := rm ino A1.nodes, ui := wr (A.ui - 1), ub := wr (A.ub - n.data.size) } else A1
/-- going up, so many steps at most: is that passed? -/
def AT.apart (A : AT) (ino : Int) : Nat → Int → Option Bool
  | 0, _ => none
  | f + 1, at_ => if at_ = 1 then some true else if at_ = ino then some false else (A.get at_).bind fun n => AT.apart A ino f n.up
def AT.moveE1 (A : AT) (src : Int) (name : ByteArray) (to : Int) (as_ : ByteArray) : Int :=
  firstE [0, A.dirE src, A.dirE to, namedE as_, if (A.find src name).isSome then 0 else 5]
def AT.moved (A : AT) (src : Int) (name : ByteArray) (to : Int) (as_ : ByteArray) : AT :=
  let ino := (A.find src name).getD 0
  ((A.ent src (rm name)).ent to (up as_ ino)).mod ino fun n => if n.kind == 2 then { n with up := to } else n
def AT.writeE (A : AT) (ino : Int) (data : ByteArray) : Int :=
  firstE [0, A.fileE ino, A.roomE 0 (wr ((data.size : Int) - ((A.get ino).map (·.data.size)).getD 0))]
def AT.written (A : AT) (ino : Int) (data : ByteArray) : AT := match A.get ino with
  | none => A
  | some n => { A.set ino { n with data := data } with ub := wr (A.ub + wr ((data.size : Int) - n.data.size)) }
def AT.chmodE (A : AT) (ino mode : Int) : Int := firstE [0, if 0 ≤ mode ∧ mode ≤ 511 then 0 else 2, if (A.get ino).isSome then 0 else 5]
def AT.chmoded (A : AT) (ino mode : Int) : AT := A.mod ino fun n => { n with mode := mode }
def newOk (qi qb : Int) : Bool := !(decide (qi < 1) || (decide (qi > 1048576) || (decide (qb < 0) || decide (qb > 1073741824))))
def newT (qi qb : Int) : AT := ⟨qi, qb, 1, 0, 1, [(1, ⟨2, 493, ⟨⟨[]⟩⟩, 1, 1, []⟩)]⟩
def AT.makeR (A : AT) (dir : Int) (name : ByteArray) (kind mode : Int) (data : ByteArray) : Int × Int × AT :=
  if A.makeE dir name kind mode data = 0 then (wr (A.last + 1), 0, A.made dir name kind mode data) else (0, A.makeE dir name kind mode data, A)
def AT.linkR (A : AT) (dir : Int) (name : ByteArray) (ino : Int) : Int × AT :=
  if A.linkE dir name ino = 0 then (0, A.linked dir name ino) else (A.linkE dir name ino, A)
def AT.writeR (A : AT) (ino : Int) (data : ByteArray) : Int × AT := if A.writeE ino data = 0 then (0, A.written ino data) else (A.writeE ino data, A)
def AT.chmodR (A : AT) (ino mode : Int) : Int × AT := if A.chmodE ino mode = 0 then (0, A.chmoded ino mode) else (A.chmodE ino mode, A)
def AT.unlinkR (A : AT) (dir : Int) (name : ByteArray) : Int × AT := if A.unlinkE dir name = 0 then (0, A.unlinked dir name) else (A.unlinkE dir name, A)
def AT.moveR (A : AT) (src : Int) (name : ByteArray) (to : Int) (as_ : ByteArray) (f : Nat) : Int × AT :=
  if A.moveE1 src name to as_ ≠ 0 ∨ (src = to ∧ name = as_) then (A.moveE1 src name to as_, A)
  else
    let e := firstE [if (A.find to as_).isSome then 6 else 0, if (A.apart ((A.find src name).getD 0) f to).getD false then 0 else 2]
    if e ≠ 0 then (e, A) else (0, A.moved src name to as_)
end Go.Wk

/- The kinds of the types. -/
namespace Go.Proofs.YtlpcehbfoogejaaGreatDoor
open Go Go.HL
@[reducible] def kI : TK := .one (.sc (.int .i64))
@[reducible] def kC : TK := .one (.sc (.int .u8))
@[reducible] def kB : TK := .one (.sc .bool)
@[reducible] def kS : TK := .one (.sc .str)
@[reducible] def kP : TK := .one (.sc .ptr)
@[reducible] def kL : TK := .one (.sc .slc)
@[reducible] def kM : TK := .one (.sc .map)
@[reducible] def kR : TK := .one (.sc .raw)
@[reducible] def kU : TK := .tup []
def tau : Nat → TK
  | 0 => kU
  | 2 => kI
  | 3 => kI
  | 4 => kB
  | 5 => kC
  | 6 => kC
  | 7 => (.one (.agg [(.int .i64), (.int .i64), .bool, (.int .u8)]))
  | 8 => (.one (.agg [(.int .i64), (.int .i64), .bool, (.int .u8)]))
  | 9 => kS
  | 10 => kS
  | 11 => kS
  | 12 => (.one (.sc (.int .u64)))
  | 13 => (.one (.agg [.str, (.int .u64)]))
  | 14 => (.one (.agg [.str, (.int .u64)]))
  | 15 => kP
  | 16 => kP
  | 17 => kP
  | 18 => (.one (.agg [.ptr]))
  | 19 => (.one (.agg [.ptr]))
  | 21 => (.one (.sc (.int .i32)))
  | 22 => kL
  | 23 => (.one (.agg [.str, (.int .i64), .bool, .str, .slc]))
  | 24 => (.one (.agg [.str, (.int .i64), .bool, .str, .slc]))
  | 27 => kP
  | 28 => kP
  | 30 => (.one (.agg [(.int .i64), (.int .i64)]))
  | 31 => (.one (.agg [(.int .i64), (.int .i64)]))
  | 32 => kI
  | 38 => kL
  | 39 => (.one (.agg [(.int .u8), .str, .str, .str, (.int .i64), .bool]))
  | 40 => (.one (.agg [(.int .u8), .str, .str, .str, (.int .i64), .bool]))
  | 45 => (.one (.sc (.int .u16)))
  | 47 => (.tup [.agg [.str, (.int .i64), .bool, .str, .slc], .sc (.int .i64)])
  | 53 => (.one (.agg [(.int .i64), (.int .i64), .str, (.int .i64)]))
  | 54 => (.one (.agg [(.int .i64), (.int .i64), .str, (.int .i64)]))
  | 55 => (.tup [.agg [(.int .i64), (.int .i64), .str, (.int .i64)], .sc (.int .i64)])
  | 58 => kL
  | 59 => (.one (.agg [.str, .str, .str, .str, .str, .str]))
  | 61 => kL
  | 62 => kP
  | 65 => (.one (.agg [(.int .u8), .str, .str, (.int .i64)]))
  | 66 => (.one (.agg [(.int .u8), .str, .str, (.int .i64)]))
  | 74 => kL
  | 75 => (.tup [.sc .slc, .sc (.int .i64)])
  | 78 => (.tup [.sc .str, .sc (.int .i64)])
  | 80 => kP
  | 82 => (.one (.agg [.ptr]))
  | 83 => (.one (.agg [.ptr]))
  | 85 => (.one (.agg [(.int .i64), .str, (.int .i64), .bool]))
  | 86 => (.one (.agg [(.int .i64), .str, (.int .i64), .bool]))
  | 88 => (.tup [.sc (.int .i64), .sc (.int .i64)])
  | 92 => (.tup [.sc (.int .i64), .sc (.int .i64)])
  | 96 => (.tup [.agg [(.int .i64), .str, (.int .i64), .bool], .sc (.int .i64)])
  | 98 => (.tup [.agg [(.int .i64), (.int .i64), .str, (.int .i64)], .sc .bool])
  | 103 => (.tup [.agg [(.int .i64), .str, (.int .i64), .bool], .agg [(.int .i64), .str, (.int .i64), .bool], .sc (.int .i64)])
  | 109 => (.one (.agg [.ptr]))
  | 110 => (.one (.agg [.ptr]))
  | 116 => kP
  | 117 => kL
  | 118 => (.one (.agg [(.int .i64), (.int .i64), .str, .slc, (.int .i64)]))
  | 119 => (.one (.agg [(.int .i64), (.int .i64), .str, .slc, (.int .i64)]))
  | 120 => kL
  | 121 => (.one (.agg [(.int .i64), (.int .i64), .slc]))
  | 122 => (.one (.agg [(.int .i64), (.int .i64), .slc]))
  | 123 => (.one (.sc (.int .u64)))
  | 124 => (.tup [.sc (.int .u64), .sc (.int .u64)])
  | 127 => kP
  | 128 => (.one (.agg [.ptr, .slc]))
  | 129 => (.one (.agg [.ptr, .slc]))
  | 133 => (.tup [.sc (.int .i64), .sc .raw])
  | 137 => (.tup [.sc (.int .i64), .sc .bool])
  | 139 => kP
  | 140 => kM
  | 141 => (.one (.agg [(.int .i64), (.int .i64), .str, (.int .i64), (.int .i64), .map]))
  | 142 => (.one (.agg [(.int .i64), (.int .i64), .str, (.int .i64), (.int .i64), .map]))
  | 143 => kM
  | 144 => (.one (.agg [(.int .i64), (.int .i64), (.int .i64), (.int .i64), .map, (.int .i64)]))
  | 145 => (.one (.agg [(.int .i64), (.int .i64), (.int .i64), (.int .i64), .map, (.int .i64)]))
  | 146 => kM
  | 154 => kM
  | 161 => (.tup [.sc .raw, .sc .bool])
  | 165 => kM
  | 167 => (.tup [.sc (.int .i32), .sc (.int .i64)])
  | 170 => (.one (.agg [(.int .i64), .str, (.int .i64)]))
  | 171 => (.one (.agg [(.int .i64), .str, (.int .i64)]))
  | 172 => (.tup [.agg [(.int .i64), .str, (.int .i64)], .sc (.int .i64)])
  | 179 => (.one (.sc (.int .u32)))
  | 180 => (.tup [.sc (.int .u32), .sc (.int .u32)])
  | 182 => (.one (.sc (.int .u64)))
  | 183 => (.tup [.sc (.int .u64), .sc (.int .u64)])
  | 185 => kP
  | 186 => kL
  | 198 => (.one (.agg [.str, (.int .i64)]))
  | 199 => (.one (.agg [.str, (.int .i64)]))
  | 203 => kL
  | 212 => (.one (.agg [(.int .u8), (.int .u8)]))
  | 213 => (.one (.agg [(.int .u8), (.int .u8)]))
  | 221 => (.tup [.sc .raw, .sc .bool])
  | 227 => kI
  | 228 => (.tup [.sc (.int .i64), .sc (.int .i64)])
  | 238 => kP
  | 239 => (.one (.sc (.int .u64)))
  | 244 => kP
  | 246 => (.one (.agg [.ptr, .ptr, .ptr, .str]))
  | 247 => (.one (.agg [.ptr, .ptr, .ptr, .str]))
  | 248 => (.one (.agg []))
  | 249 => (.one (.agg []))
  | 250 => (.one (.agg []))
  | 251 => kC
  | 252 => kC
  | 254 => (.one (.sc (.int .i32)))
  | 255 => (.one (.sc (.int .i32)))
  | 256 => (.one (.agg [(.int .u64), (.int .u64), (.int .u32), (.int .u8), (.int .u8), (.int .u8), (.int .u8), .raw, .ptr, (.int .i32), (.int .i32)]))
  | 257 => (.one (.agg [(.int .u64), (.int .u64), (.int .u32), (.int .u8), (.int .u8), (.int .u8), (.int .u8), .raw, .ptr, (.int .i32), (.int .i32)]))
  | _ => kR
theorem mixed : Tryz.prog.follows .mixedOrders = true := by kernel_rfl
end Go.Proofs.YtlpcehbfoogejaaGreatDoor

set_option maxRecDepth 100000
namespace Go.Proofs.YtlpcehbfoogejaaGreatDoor
open Go Go.HL
/-- whisk/whisklaw08.FsLaid -/
def an3 : Ann := (.seq none (.reg [] []) (.seq none (.seq none (.reg [] []) (.cond (.seq none (.reg [] []) .leaf) .leaf)) (.seq none (.reg [] []) (.seq none (.reg [] []) (.seq none (.reg [] []) (.seq none (.reg [] []) (.seq none (.seq (some [(1, .sc .ptr), (4, .sc .ptr), (18, .sc .bool)]) (.reg [] []) (.cond (.seq none (.reg [] []) .leaf) .leaf)) (.seq none (.seq none (.reg [] []) (.cond (.seq none (.reg [] []) .leaf) .leaf)) (.seq none (.reg [] []) .leaf)))))))))
def g3 (n_1 : ByteArray) (n_2 : Int) (n_3 : Bool) (n_4 : ByteArray) (n_5 : Sl) (K : Value → H → Prop) : H → Prop :=
  alW (.cells ⟨[.string n_1, .int .i64 n_2, .bool n_3, .string n_4, .slice n_5.base n_5.len n_5.cap]⟩ 24 (0, 0)) (fun (b6 : Nat) =>
   callT Tryz.prog 13 [] kB (fun (x7 : Bool) =>
    brW (!x7)
    (K (.bool false))
    (alW (.cells ⟨[.int .i64 0]⟩ 3 (0, 0)) (fun (b8 : Nat) =>
      stW Tryz.prog 3 (.pointer (some ⟨b8, 0, none⟩)) (.int .i64 50) (rdT (rdA 5 b6 0) (.one (.agg [.str, (.int .i64), .bool, .str, .slc])) (fun (x9 : ByteArray) (x10 : Int) (x11 : Bool) (x12 : ByteArray) (x13 : Sl) =>
        callT Tryz.prog 14 [.agg ⟨[.string x9, .int .i64 x10, .bool x11, .string x12, .slice x13.base x13.len x13.cap]⟩, .int .i64 16, .pointer (some ⟨b8, 0, none⟩)] (.one (.agg [.str, (.int .i64), .bool, .str, .slc])) (fun (x14 : ByteArray) (x15 : Int) (x16 : Bool) (x17 : ByteArray) (x18 : Sl) =>
         stW Tryz.prog 24 (.pointer (some ⟨b6, 0, none⟩)) (.agg ⟨[.string x14, .int .i64 x15, .bool x16, .string x17, .slice x18.base x18.len x18.cap]⟩) (stW Tryz.prog 9 (.pointer (some ⟨b6, 0, none⟩)) (.string (⟨⟨[]⟩⟩ : ByteArray)) (callT Tryz.prog 15 [.agg ⟨[.int .i64 100, .int .i64 20000]⟩] kP (fun (x19 : Option Addr) =>
            letJ (T := Option Addr → Option Addr → Bool → H → Prop) (fun (n_21 : Option Addr) (f_22 : Option Addr) (x23 : Bool) =>
             brW x23
             (K (.bool false))
             (ptrW n_21 (fun (b24 o25 : Nat) =>
               rdT (rdA 5 b24 o25) (.one (.agg [.str, (.int .i64), .bool, .str, .slc])) (fun (x26 : ByteArray) (x27 : Int) (x28 : Bool) (x29 : ByteArray) (x30 : Sl) =>
                callT Tryz.prog 17 [.pointer f_22, .string (⟨⟨[47, 120, 47, 121]⟩⟩ : ByteArray), .agg ⟨[.string x26, .int .i64 x27, .bool x28, .string x29, .slice x30.base x30.len x30.cap]⟩] kI (fun (x31 : Int) =>
                 brW ((x31 : Int) != 0)
                 (callT Tryz.prog 18 [.pointer f_22] (.one (.agg [(.int .i64), (.int .i64)])) (fun (x32 : Int) (x33 : Int) =>
                   K (.bool (((x32 : Int) == 2) && (((x33 : Int) == 0) && true)))))
                 (ptrW n_21 (fun (b34 o35 : Nat) =>
                   rdT (rdA 5 b34 o35) (.one (.agg [.str, (.int .i64), .bool, .str, .slc])) (fun (x36 : ByteArray) (x37 : Int) (x38 : Bool) (x39 : ByteArray) (x40 : Sl) =>
                    callT Tryz.prog 19 [.pointer f_22, .string (⟨⟨[47, 120, 47, 121]⟩⟩ : ByteArray), .agg ⟨[.string x36, .int .i64 x37, .bool x38, .string x39, .slice x40.base x40.len x40.cap]⟩] kB (fun (x41 : Bool) =>
                     K (.bool x41)))))))))) (fun j20 =>
             brW x19.isNone
             (j20 (some ⟨b6, 0, none⟩) x19 true)
             (callT Tryz.prog 16 [.pointer x19, .string (⟨⟨[47]⟩⟩ : ByteArray), .string (⟨⟨[120]⟩⟩ : ByteArray)] kI (fun (x42 : Int) =>
               j20 (some ⟨b6, 0, none⟩) x19 ((x42 : Int) != 0))))))))))))))
theorem e3 (n_1 : ByteArray) (n_2 : Int) (n_3 : Bool) (n_4 : ByteArray) (n_5 : Sl) (K : Value → H → Prop) : bodyF Tryz.prog tau Tryz.f3 an3 [.agg ⟨[.string n_1, .int .i64 n_2, .bool n_3, .string n_4, .slice n_5.base n_5.len n_5.cap]⟩] K = g3 n_1 n_2 n_3 n_4 n_5 K := by kernel_rfl
theorem c3 (n_1 : ByteArray) (n_2 : Int) (n_3 : Bool) (n_4 : ByteArray) (n_5 : Sl) {K : Value → H → Prop} {σ : H} (h : g3 n_1 n_2 n_3 n_4 n_5 K σ) : callW Tryz.prog 3 [.agg ⟨[.string n_1, .int .i64 n_2, .bool n_3, .string n_4, .slice n_5.base n_5.len n_5.cap]⟩] K σ := call_of_body mixed Tryz.func3 (by rw [e3]; exact h)


/-- whisk/whisklaw08.FsQuota -/
def an4 : Ann := (.seq none (.reg [] []) (.seq none (.seq none (.reg [] []) (.cond (.seq none (.reg [] []) .leaf) .leaf)) (.seq none (.reg [] []) (.seq none (.reg [] []) (.seq none (.seq none (.reg [] []) (.cond (.seq none (.reg [] []) .leaf) .leaf)) (.seq none (.seq none (.reg [] []) (.blk (.loop [(2, .sc .slc), (7, .sc .ptr), (8, .sc .ptr), (9, .sc (.int .i64))] (.seq none (.seq (some [(2, .sc .slc), (7, .sc .ptr), (8, .sc .ptr), (9, .sc (.int .i64)), (36, .sc .raw), (37, .sc .raw), (38, .sc .bool)]) (.reg [] []) (.cond .leaf .leaf)) (.seq none (.blk (.seq none (.reg [] []) (.seq none (.reg [0, 1, 3, 4, 6, 7, 2, 5, 8, 9, 10, 11] [[], [0], [0, 1], [], [3], [0, 1, 2, 3, 4], [], [6], [0, 1, 2, 3, 4, 5, 6, 7], [0, 1, 2, 3, 4, 5, 6, 7, 8], [0, 1, 2, 3, 4, 5, 6, 7, 8, 9], [0, 1, 2, 3, 4, 5, 6, 7, 8, 9, 10]]) (.seq none (.reg [] []) (.seq none (.reg [] []) (.seq (some [(2, .sc .slc), (7, .sc .ptr), (8, .sc .ptr), (9, .sc (.int .i64)), (14, .sc .ptr), (15, .sc (.int .i64)), (36, .sc .raw), (37, .sc .raw)]) (.seq none (.reg [] []) (.blk (.seq none (.reg [] []) (.cond (.reg [] []) (.seq none (.reg [] []) (.cond (.reg [] []) (.seq none (.reg [] []) (.cond (.reg [] []) (.seq none (.reg [] []) (.cond (.reg [] []) (.reg [] []))))))))))) (.seq none (.reg [] []) (.seq (some [(2, .sc .slc), (7, .sc .ptr), (8, .sc .ptr), (9, .sc (.int .i64)), (36, .sc .raw), (37, .sc .raw), (102, .sc .raw), (103, .sc .raw), (104, .sc .raw), (105, .sc .raw), (106, .sc .raw), (109, .sc .raw), (110, .sc .raw), (111, .sc .raw), (114, .sc .raw), (115, .sc .raw), (116, .sc .raw), (119, .sc .raw), (120, .sc .raw), (121, .sc .raw), (122, .sc .raw), (123, .sc .raw), (124, .sc .raw), (125, .sc .raw), (126, .sc .bool)]) (.reg [] []) (.cond (.seq none (.reg [] []) .leaf) .leaf))))))))) (.reg [] [])))))) (.seq none (.reg [] []) .leaf)))))))
def g4 (inodes_1 : Int) (bytes_2 : Int) (l_3 : Sl) (K : Value → H → Prop) : H → Prop :=
  callT Tryz.prog 13 [] kB (fun (x4 : Bool) =>
   brW (!x4)
   (K (.bool false))
   (ifW ((12 : Int) ≠ 0)
    (ifW ((60 : Int) ≠ 0)
     (alW (.cells ⟨[.int .i64 0, .int .i64 0]⟩ 31 (0, 0)) (fun (b5 : Nat) =>
       stW Tryz.prog 31 (.pointer (some ⟨b5, 0, none⟩)) (.agg ⟨[.int .i64 (IntKind.i64.wrap (1 + (IntKind.i64.wrap (Int.tmod inodes_1 12)))), .int .i64 (IntKind.i64.wrap (Int.tmod bytes_2 60))]⟩) (rdT (rdA 2 b5 0) (.one (.agg [(.int .i64), (.int .i64)])) (fun (x6 : Int) (x7 : Int) =>
         callT Tryz.prog 15 [.agg ⟨[.int .i64 x6, .int .i64 x7]⟩] kP (fun (x8 : Option Addr) =>
          brW x8.isNone
          (K (.bool false))
          (loopW [.sc .slc, .sc .ptr, .sc .ptr, .sc (.int .i64)] (fun (R9 : Sl → Option Addr → Option Addr → Int → H → Prop) => (fun (l_10 : Sl) (q_11 : Option Addr) (f_12 : Option Addr) (i_13 : Int) =>
             letJ (T := Sl → Option Addr → Option Addr → Int → Value → Value → Bool → H → Prop) (fun (l_15 : Sl) (q_16 : Option Addr) (f_17 : Option Addr) (i_18 : Int) (x19 : Value) (x20 : Value) (x21 : Bool) =>
              brW x21
              (ptrW l_15.base (fun (b22 o23 : Nat) =>
                ifW (0 ≤ i_18 ∧ i_18 < ((l_15.len : Nat) : Int))
                (rdT (rdA 6 b22 (o23 + i_18.toNat * 6)) (.one (.agg [(.int .u8), .str, .str, .str, (.int .i64), .bool])) (fun (x24 : Int) (x25 : ByteArray) (x26 : ByteArray) (x27 : ByteArray) (x28 : Int) (x29 : Bool) =>
                  alW (.cells ⟨[.int .u8 0, .string (⟨⟨[]⟩⟩ : ByteArray), .string (⟨⟨[]⟩⟩ : ByteArray), .string (⟨⟨[]⟩⟩ : ByteArray), .int .i64 0, .bool false]⟩ 40 (0, 0)) (fun (b30 : Nat) =>
                   stW Tryz.prog 40 (.pointer (some ⟨b30, 0, none⟩)) (.agg ⟨[.int .u8 x24, .string x25, .string x26, .string x27, .int .i64 x28, .bool x29]⟩) (rdT (rdC b30 1) kS (fun (x31 : ByteArray) =>
                     rdT (rdC b30 2) kS (fun (x32 : ByteArray) =>
                      rdT (rdC b30 3) kS (fun (x33 : ByteArray) =>
                      callT Tryz.prog 20 [.string x31] kS (fun (x34 : ByteArray) =>
                      andW (fun σ => (rdC b30 3) σ = some (.string x33))
                      (andW (fun σ => (rdC b30 2) σ = some (.string x32))
                      (callT Tryz.prog 20 [.string x32] kS (fun (x35 : ByteArray) =>
                      andW (fun σ => (rdC b30 3) σ = some (.string x33))
                      (callT Tryz.prog 20 [.string x33] kS (fun (x36 : ByteArray) =>
                      callT Tryz.prog 18 [.pointer f_17] (.one (.agg [(.int .i64), (.int .i64)])) (fun (x37 : Int) (x38 : Int) =>
                      alW (.cells ⟨[.int .i64 0, .int .i64 0]⟩ 31 (0, 0)) (fun (b39 : Nat) =>
                      stW Tryz.prog 31 (.pointer (some ⟨b39, 0, none⟩)) (.agg ⟨[.int .i64 x37, .int .i64 x38]⟩) (letJ (T := Sl → Option Addr → Option Addr → Int → Option Addr → Int → Value → Value → H → Prop) (fun (l_41 : Sl) (q_42 : Option Addr) (f_43 : Option Addr) (i_44 : Int) (was_45 : Option Addr) (e_46 : Int) (x47 : Value) (x48 : Value) =>
                      callT Tryz.prog 18 [.pointer f_43] (.one (.agg [(.int .i64), (.int .i64)])) (fun (x49 : Int) (x50 : Int) =>
                      alW (.cells ⟨[.int .i64 0, .int .i64 0]⟩ 31 (0, 0)) (fun (b51 : Nat) =>
                      stW Tryz.prog 31 (.pointer (some ⟨b51, 0, none⟩)) (.agg ⟨[.int .i64 x49, .int .i64 x50]⟩) (letJ (T := Sl → Option Addr → Option Addr → Int → Value → Value → Value → Value → Value → Value → Value → Value → Value → Value → Value → Value → Value → Value → Value → Value → Value → Value → Value → Value → Bool → H → Prop) (fun (l_53 : Sl) (q_54 : Option Addr) (f_55 : Option Addr) (i_56 : Int) (_x57 : Value) (_x58 : Value) (_x59 : Value) (_x60 : Value) (_x61 : Value) (_x62 : Value) (_x63 : Value) (_x64 : Value) (_x65 : Value) (_x66 : Value) (_x67 : Value) (_x68 : Value) (_x69 : Value) (_x70 : Value) (_x71 : Value) (_x72 : Value) (_x73 : Value) (_x74 : Value) (_x75 : Value) (_x76 : Value) (x77 : Bool) =>
                      brW x77
                      (K (.bool false))
                      (R9 l_53 q_54 f_55 (IntKind.i64.wrap (i_56 + 1)))) (fun j52 =>
                      rdT (rdC b51 0) kI (fun (x78 : Int) =>
                      ptrW q_42 (fun (b79 o80 : Nat) =>
                      rdT (rdC b79 o80) kI (fun (x81 : Int) =>
                      brW (decide ((x78 : Int) > x81))
                      (j52 l_41 q_42 f_43 i_44 x47 x48 (.tuple ⟨[]⟩) (.tuple ⟨[]⟩) (.tuple ⟨[]⟩) (.tuple ⟨[]⟩) (.tuple ⟨[]⟩) (.tuple ⟨[]⟩) (.tuple ⟨[]⟩) (.tuple ⟨[]⟩) (.tuple ⟨[]⟩) (.tuple ⟨[]⟩) (.tuple ⟨[]⟩) (.tuple ⟨[]⟩) (.tuple ⟨[]⟩) (.tuple ⟨[]⟩) (.tuple ⟨[]⟩) (.tuple ⟨[]⟩) (.tuple ⟨[]⟩) (.tuple ⟨[]⟩) true)
                      (rdT (rdC b51 1) kI (fun (x82 : Int) =>
                      ptrW q_42 (fun (b83 o84 : Nat) =>
                      rdT (rdC b83 (o84 + 1)) kI (fun (x85 : Int) =>
                      brW (decide ((x82 : Int) > x85))
                      (j52 l_41 q_42 f_43 i_44 x47 x48 (.pointer (some ⟨b51, 1, none⟩)) (.int .i64 x82) (.pointer (some ⟨b83, o84 + 1, none⟩)) (.int .i64 x85) (.bool (decide ((x82 : Int) > x85))) (.tuple ⟨[]⟩) (.tuple ⟨[]⟩) (.tuple ⟨[]⟩) (.tuple ⟨[]⟩) (.tuple ⟨[]⟩) (.tuple ⟨[]⟩) (.tuple ⟨[]⟩) (.tuple ⟨[]⟩) (.tuple ⟨[]⟩) (.tuple ⟨[]⟩) (.tuple ⟨[]⟩) (.tuple ⟨[]⟩) (.tuple ⟨[]⟩) true)
                      (rdT (rdC b51 0) kI (fun (x86 : Int) =>
                      brW (decide ((x86 : Int) < 1))
                      (j52 l_41 q_42 f_43 i_44 x47 x48 (.pointer (some ⟨b51, 1, none⟩)) (.int .i64 x82) (.pointer (some ⟨b83, o84 + 1, none⟩)) (.int .i64 x85) (.bool (decide ((x82 : Int) > x85))) (.pointer (some ⟨b51, 0, none⟩)) (.int .i64 x86) (.bool (decide ((x86 : Int) < 1))) (.tuple ⟨[]⟩) (.tuple ⟨[]⟩) (.tuple ⟨[]⟩) (.tuple ⟨[]⟩) (.tuple ⟨[]⟩) (.tuple ⟨[]⟩) (.tuple ⟨[]⟩) (.tuple ⟨[]⟩) (.tuple ⟨[]⟩) (.tuple ⟨[]⟩) true)
                      (rdT (rdC b51 1) kI (fun (x87 : Int) =>
                      brW (decide ((x87 : Int) < 0))
                      (j52 l_41 q_42 f_43 i_44 x47 x48 (.pointer (some ⟨b51, 1, none⟩)) (.int .i64 x82) (.pointer (some ⟨b83, o84 + 1, none⟩)) (.int .i64 x85) (.bool (decide ((x82 : Int) > x85))) (.pointer (some ⟨b51, 0, none⟩)) (.int .i64 x86) (.bool (decide ((x86 : Int) < 1))) (.pointer (some ⟨b51, 1, none⟩)) (.int .i64 x87) (.bool (decide ((x87 : Int) < 0))) (.tuple ⟨[]⟩) (.tuple ⟨[]⟩) (.tuple ⟨[]⟩) (.tuple ⟨[]⟩) (.tuple ⟨[]⟩) (.tuple ⟨[]⟩) (.tuple ⟨[]⟩) true)
                      (brW ((e_46 : Int) != 0)
                      (rdT (rdA 2 b51 0) (.one (.agg [(.int .i64), (.int .i64)])) (fun (x88 : Int) (x89 : Int) =>
                      ptrW was_45 (fun (b90 o91 : Nat) =>
                      rdT (rdA 2 b90 o91) (.one (.agg [(.int .i64), (.int .i64)])) (fun (x92 : Int) (x93 : Int) =>
                      j52 l_41 q_42 f_43 i_44 x47 x48 (.pointer (some ⟨b51, 1, none⟩)) (.int .i64 x82) (.pointer (some ⟨b83, o84 + 1, none⟩)) (.int .i64 x85) (.bool (decide ((x82 : Int) > x85))) (.pointer (some ⟨b51, 0, none⟩)) (.int .i64 x86) (.bool (decide ((x86 : Int) < 1))) (.pointer (some ⟨b51, 1, none⟩)) (.int .i64 x87) (.bool (decide ((x87 : Int) < 0))) (.int .i64 e_46) (.bool ((e_46 : Int) != 0)) (.bool true) (.agg ⟨[.int .i64 x88, .int .i64 x89]⟩) (.agg ⟨[.int .i64 x92, .int .i64 x93]⟩) (.bool (!(((x88 : Int) == x92) && (((x89 : Int) == x93) && true)))) (.bool (!(((x88 : Int) == x92) && (((x89 : Int) == x93) && true)))) (!(((x88 : Int) == x92) && (((x89 : Int) == x93) && true)))))))
                      (j52 l_41 q_42 f_43 i_44 x47 x48 (.pointer (some ⟨b51, 1, none⟩)) (.int .i64 x82) (.pointer (some ⟨b83, o84 + 1, none⟩)) (.int .i64 x85) (.bool (decide ((x82 : Int) > x85))) (.pointer (some ⟨b51, 0, none⟩)) (.int .i64 x86) (.bool (decide ((x86 : Int) < 1))) (.pointer (some ⟨b51, 1, none⟩)) (.int .i64 x87) (.bool (decide ((x87 : Int) < 0))) (.int .i64 e_46) (.bool ((e_46 : Int) != 0)) (.bool false) (.tuple ⟨[]⟩) (.tuple ⟨[]⟩) (.tuple ⟨[]⟩) (.bool false) false)))))))))))))))))) (fun j40 =>
                      rdT (rdC b30 0) kC (fun (x94 : Int) =>
                      ifW ((5 : Int) ≠ 0)
                      (brW (((Int.tmod x94 5) : Int) == 0)
                      (rdT (rdC b30 5) kB (fun (x95 : Bool) =>
                      callT Tryz.prog 21 [.pointer f_17, .string x34, .string x35, .string x36, .bool x95] kI (fun (x96 : Int) =>
                      j40 l_15 q_16 f_17 i_18 (some ⟨b39, 0, none⟩) x96 x19 x20)))
                      (brW (((Int.tmod x94 5) : Int) == 1)
                      (callT Tryz.prog 16 [.pointer f_17, .string x34, .string x35] kI (fun (x97 : Int) =>
                      j40 l_15 q_16 f_17 i_18 (some ⟨b39, 0, none⟩) x97 x19 x20))
                      (brW (((Int.tmod x94 5) : Int) == 2)
                      (callT Tryz.prog 22 [.pointer f_17, .string x34, .string x35, .string x36] kI (fun (x98 : Int) =>
                      j40 l_15 q_16 f_17 i_18 (some ⟨b39, 0, none⟩) x98 x19 x20))
                      (brW (((Int.tmod x94 5) : Int) == 3)
                      (alW (.cells ⟨[.string (⟨⟨[107]⟩⟩ : ByteArray), .int .i64 1, .bool false, .string x36, .slice none 0 0]⟩ 24 (0, 0)) (fun (b99 : Nat) =>
                      callT Tryz.prog 17 [.pointer f_17, .string x35, .agg ⟨[.string (⟨⟨[]⟩⟩ : ByteArray), .int .i64 2, .bool false, .string (⟨⟨[]⟩⟩ : ByteArray), .slice (some ⟨b99, 0, none⟩) 1 1]⟩] kI (fun (x100 : Int) =>
                      j40 l_15 q_16 f_17 i_18 (some ⟨b39, 0, none⟩) x100 x19 x20)))
                      (callT Tryz.prog 23 [.pointer f_17, .string x34, .string x35] kI (fun (x101 : Int) =>
                      j40 l_15 q_16 f_17 i_18 (some ⟨b39, 0, none⟩) x101 x19 x20))))))))))))))))))))))))))
              (K (.bool true))) (fun j14 =>
              brW (decide ((i_13 : Int) < ((l_10.len : Nat) : Int)))
              (j14 l_10 q_11 f_12 i_13 (.int .i64 i_13) (.bool (decide ((i_13 : Int) < 60))) (decide ((i_13 : Int) < 60)))
              (j14 l_10 q_11 f_12 i_13 (.tuple ⟨[]⟩) (.tuple ⟨[]⟩) false)))) (fun (R102 : Sl → Option Addr → Option Addr → Int → H → Prop) => R102 l_3 (some ⟨b5, 0, none⟩) x8 0))))))))))
theorem e4 (inodes_1 : Int) (bytes_2 : Int) (l_3 : Sl) (K : Value → H → Prop) : bodyF Tryz.prog tau Tryz.f4 an4 [.int .u8 inodes_1, .int .u8 bytes_2, .slice l_3.base l_3.len l_3.cap] K = g4 inodes_1 bytes_2 l_3 K := by kernel_rfl
theorem c4 (inodes_1 : Int) (bytes_2 : Int) (l_3 : Sl) {K : Value → H → Prop} {σ : H} (h : g4 inodes_1 bytes_2 l_3 K σ) : callW Tryz.prog 4 [.int .u8 inodes_1, .int .u8 bytes_2, .slice l_3.base l_3.len l_3.cap] K σ := call_of_body mixed Tryz.func4 (by rw [e4]; exact h)


/-- whisk/whisklaw10.CanonModes -/
def an5 : Ann := (.seq none (.reg [] []) (.seq none (.seq none (.reg [] []) (.cond (.seq none (.reg [] []) .leaf) .leaf)) (.seq none (.reg [] []) (.seq none (.reg [] []) (.seq none (.seq (some [(1, .sc (.int .u16)), (2, .sc (.int .u16)), (7, .sc .ptr), (51, .sc .bool)]) (.reg [] []) (.cond (.seq none (.reg [] []) .leaf) .leaf)) (.seq none (.reg [] []) (.seq none (.seq (some [(7, .sc .ptr), (8, .sc (.int .i64)), (9, .sc (.int .i64)), (73, .sc .bool)]) (.reg [] []) (.cond (.seq none (.reg [] []) .leaf) .leaf)) (.seq none (.reg [] []) (.seq none (.reg [] []) (.seq none (.reg [] []) .leaf))))))))))
def g5 (data_1 : ByteArray) (a_2 : Int) (b_3 : Int) (K : Value → H → Prop) : H → Prop :=
  callT Tryz.prog 24 [] kB (fun (x4 : Bool) =>
   brW (!x4)
   (K (.bool false))
   (ifW (bndOk (some (if 100 < ((data_1.size : Nat) : Int) then 100 else ((data_1.size : Nat) : Int))) data_1.size ∧ bndOk none ((if 100 < ((data_1.size : Nat) : Int) then 100 else ((data_1.size : Nat) : Int)).toNat))
    (callT Tryz.prog 15 [.agg ⟨[.int .i64 20, .int .i64 1000]⟩] kP (fun (x5 : Option Addr) =>
      letJ (T := Int → Int → Option Addr → Bool → H → Prop) (fun (a_7 : Int) (b_8 : Int) (f_9 : Option Addr) (x10 : Bool) =>
       brW x10
       (K (.bool false))
       (ifW ((512 : Int) ≠ 0)
        (ifW ((512 : Int) ≠ 0)
         (letJ (T := Option Addr → Int → Int → Bool → H → Prop) (fun (f_12 : Option Addr) (m_13 : Int) (n_14 : Int) (x15 : Bool) =>
           brW x15
           (K (.bool false))
           (callT Tryz.prog 27 [.pointer f_12, .string (⟨⟨[47, 112]⟩⟩ : ByteArray)] (.tup [.agg [.str, (.int .i64), .bool, .str, .slc], .sc (.int .i64)]) (fun (x16 : ByteArray) (x17 : Int) (x18 : Bool) (x19 : ByteArray) (x20 : Sl) (x21 : Int) =>
             alW (.cells ⟨[.string (⟨⟨[]⟩⟩ : ByteArray), .int .i64 0, .bool false, .string (⟨⟨[]⟩⟩ : ByteArray), .slice none 0 0]⟩ 24 (0, 0)) (fun (b22 : Nat) =>
              stW Tryz.prog 24 (.pointer (some ⟨b22, 0, none⟩)) (.agg ⟨[.string x16, .int .i64 x17, .bool x18, .string x19, .slice x20.base x20.len x20.cap]⟩) (callT Tryz.prog 27 [.pointer f_12, .string (⟨⟨[47, 113]⟩⟩ : ByteArray)] (.tup [.agg [.str, (.int .i64), .bool, .str, .slc], .sc (.int .i64)]) (fun (x23 : ByteArray) (x24 : Int) (x25 : Bool) (x26 : ByteArray) (x27 : Sl) (x28 : Int) =>
                alW (.cells ⟨[.string (⟨⟨[]⟩⟩ : ByteArray), .int .i64 0, .bool false, .string (⟨⟨[]⟩⟩ : ByteArray), .slice none 0 0]⟩ 24 (0, 0)) (fun (b29 : Nat) =>
                 stW Tryz.prog 24 (.pointer (some ⟨b29, 0, none⟩)) (.agg ⟨[.string x23, .int .i64 x24, .bool x25, .string x26, .slice x27.base x27.len x27.cap]⟩) (brW ((x21 : Int) == 0)
                  (brW ((x28 : Int) == 0)
                   (rdT (rdA 5 b22 0) (.one (.agg [.str, (.int .i64), .bool, .str, .slc])) (fun (x30 : ByteArray) (x31 : Int) (x32 : Bool) (x33 : ByteArray) (x34 : Sl) =>
                     rdT (rdA 5 b29 0) (.one (.agg [.str, (.int .i64), .bool, .str, .slc])) (fun (x35 : ByteArray) (x36 : Int) (x37 : Bool) (x38 : ByteArray) (x39 : Sl) =>
                      callT Tryz.prog 28 [.agg ⟨[.string x30, .int .i64 x31, .bool x32, .string x33, .slice x34.base x34.len x34.cap]⟩, .agg ⟨[.string x35, .int .i64 x36, .bool x37, .string x38, .slice x39.base x39.len x39.cap]⟩] kB (fun (x40 : Bool) =>
                      K (.bool (x40 == ((((bitV .and .i64 m_13 73) : Int) != 0) == (((bitV .and .i64 n_14 73) : Int) != 0))))))))
                   (K (.bool false)))
                  (K (.bool false)))))))))) (fun j11 =>
           callT Tryz.prog 26 [.pointer f_9, .string (⟨⟨[47]⟩⟩ : ByteArray), .string (⟨⟨[112, 47, 120]⟩⟩ : ByteArray), .int .i64 (IntKind.i64.wrap (Int.tmod a_7 512))] kI (fun (x41 : Int) =>
            brW ((x41 : Int) != 0)
            (j11 f_9 (IntKind.i64.wrap (Int.tmod a_7 512)) (IntKind.i64.wrap (Int.tmod b_8 512)) true)
            (callT Tryz.prog 26 [.pointer f_9, .string (⟨⟨[47]⟩⟩ : ByteArray), .string (⟨⟨[121]⟩⟩ : ByteArray), .int .i64 (IntKind.i64.wrap (Int.tmod b_8 512))] kI (fun (x42 : Int) =>
              brW ((x42 : Int) != 0)
              (j11 f_9 (IntKind.i64.wrap (Int.tmod a_7 512)) (IntKind.i64.wrap (Int.tmod b_8 512)) true)
              (callT Tryz.prog 26 [.pointer f_9, .string (⟨⟨[47]⟩⟩ : ByteArray), .string (⟨⟨[113]⟩⟩ : ByteArray), .int .i64 (IntKind.i64.wrap (Int.tmod b_8 512))] kI (fun (x43 : Int) =>
                j11 f_9 (IntKind.i64.wrap (Int.tmod a_7 512)) (IntKind.i64.wrap (Int.tmod b_8 512)) ((x43 : Int) != 0))))))))))) (fun j6 =>
       brW x5.isNone
       (j6 a_2 b_3 x5 true)
       (callT Tryz.prog 16 [.pointer x5, .string (⟨⟨[47]⟩⟩ : ByteArray), .string (⟨⟨[112]⟩⟩ : ByteArray)] kI (fun (x44 : Int) =>
         brW ((x44 : Int) != 0)
         (j6 a_2 b_3 x5 true)
         (callT Tryz.prog 16 [.pointer x5, .string (⟨⟨[47]⟩⟩ : ByteArray), .string (⟨⟨[113]⟩⟩ : ByteArray)] kI (fun (x45 : Int) =>
           brW ((x45 : Int) != 0)
           (j6 a_2 b_3 x5 true)
           (callT Tryz.prog 21 [.pointer x5, .string (⟨⟨[47]⟩⟩ : ByteArray), .string (⟨⟨[112, 47, 120]⟩⟩ : ByteArray), .string (data_1.extract 0 ((if 100 < ((data_1.size : Nat) : Int) then 100 else ((data_1.size : Nat) : Int)).toNat)), .bool false] kI (fun (x46 : Int) =>
             brW ((x46 : Int) != 0)
             (j6 a_2 b_3 x5 true)
             (callT Tryz.prog 21 [.pointer x5, .string (⟨⟨[47]⟩⟩ : ByteArray), .string (⟨⟨[113, 47, 120]⟩⟩ : ByteArray), .string (data_1.extract 0 ((if 100 < ((data_1.size : Nat) : Int) then 100 else ((data_1.size : Nat) : Int)).toNat)), .bool false] kI (fun (x47 : Int) =>
               brW ((x47 : Int) != 0)
               (j6 a_2 b_3 x5 true)
               (callT Tryz.prog 25 [.pointer x5, .string (⟨⟨[47]⟩⟩ : ByteArray), .string (⟨⟨[113, 47, 120]⟩⟩ : ByteArray), .string (⟨⟨[121]⟩⟩ : ByteArray)] kI (fun (x48 : Int) =>
                 j6 a_2 b_3 x5 ((x48 : Int) != 0))))))))))))))))
theorem e5 (data_1 : ByteArray) (a_2 : Int) (b_3 : Int) (K : Value → H → Prop) : bodyF Tryz.prog tau Tryz.f5 an5 [.string data_1, .int .u16 a_2, .int .u16 b_3] K = g5 data_1 a_2 b_3 K := by kernel_rfl
theorem c5 (data_1 : ByteArray) (a_2 : Int) (b_3 : Int) {K : Value → H → Prop} {σ : H} (h : g5 data_1 a_2 b_3 K σ) : callW Tryz.prog 5 [.string data_1, .int .u16 a_2, .int .u16 b_3] K σ := call_of_body mixed Tryz.func5 (by rw [e5]; exact h)


/-- whisk/whisklaw10.CanonBack -/
def an6 : Ann := (.seq none (.reg [] []) (.seq none (.seq none (.reg [] []) (.cond (.seq none (.reg [] []) .leaf) .leaf)) (.seq none (.reg [] []) (.seq none (.reg [] []) (.seq none (.reg [] []) (.seq none (.reg [] []) (.seq none (.seq none (.reg [] []) (.cond (.seq none (.reg [] []) .leaf) .leaf)) (.seq none (.seq none (.reg [] []) (.cond (.seq none (.reg [] []) (.seq none (.reg [] []) .leaf)) .leaf)) (.seq none (.reg [] []) (.seq none (.seq (some [(1, .sc .ptr), (4, .sc .ptr), (49, .sc .bool)]) (.reg [] []) (.cond (.seq none (.reg [] []) .leaf) .leaf)) (.seq none (.reg [] []) (.seq none (.reg [] []) .leaf))))))))))))
def g6 (n_1 : ByteArray) (n_2 : Int) (n_3 : Bool) (n_4 : ByteArray) (n_5 : Sl) (K : Value → H → Prop) : H → Prop :=
  alW (.cells ⟨[.string n_1, .int .i64 n_2, .bool n_3, .string n_4, .slice n_5.base n_5.len n_5.cap]⟩ 24 (0, 0)) (fun (b6 : Nat) =>
   callT Tryz.prog 24 [] kB (fun (x7 : Bool) =>
    brW (!x7)
    (K (.bool false))
    (alW (.cells ⟨[.int .i64 0]⟩ 3 (0, 0)) (fun (b8 : Nat) =>
      stW Tryz.prog 3 (.pointer (some ⟨b8, 0, none⟩)) (.int .i64 60) (rdT (rdA 5 b6 0) (.one (.agg [.str, (.int .i64), .bool, .str, .slc])) (fun (x9 : ByteArray) (x10 : Int) (x11 : Bool) (x12 : ByteArray) (x13 : Sl) =>
        callT Tryz.prog 29 [.agg ⟨[.string x9, .int .i64 x10, .bool x11, .string x12, .slice x13.base x13.len x13.cap]⟩, .int .i64 8, .pointer (some ⟨b8, 0, none⟩)] (.one (.agg [.str, (.int .i64), .bool, .str, .slc])) (fun (x14 : ByteArray) (x15 : Int) (x16 : Bool) (x17 : ByteArray) (x18 : Sl) =>
         stW Tryz.prog 24 (.pointer (some ⟨b6, 0, none⟩)) (.agg ⟨[.string x14, .int .i64 x15, .bool x16, .string x17, .slice x18.base x18.len x18.cap]⟩) (stW Tryz.prog 9 (.pointer (some ⟨b6, 0, none⟩)) (.string (⟨⟨[]⟩⟩ : ByteArray)) (callT Tryz.prog 15 [.agg ⟨[.int .i64 200, .int .i64 20000]⟩] kP (fun (x19 : Option Addr) =>
            brW x19.isNone
            (K (.bool false))
            (rdT (rdA 5 b6 0) (.one (.agg [.str, (.int .i64), .bool, .str, .slc])) (fun (x20 : ByteArray) (x21 : Int) (x22 : Bool) (x23 : ByteArray) (x24 : Sl) =>
              callT Tryz.prog 17 [.pointer x19, .string (⟨⟨[47, 97]⟩⟩ : ByteArray), .agg ⟨[.string x20, .int .i64 x21, .bool x22, .string x23, .slice x24.base x24.len x24.cap]⟩] kI (fun (x25 : Int) =>
               brW ((x25 : Int) != 0)
               (callT Tryz.prog 27 [.pointer x19, .string (⟨⟨[47, 97]⟩⟩ : ByteArray)] (.tup [.agg [.str, (.int .i64), .bool, .str, .slc], .sc (.int .i64)]) (fun (x26 : ByteArray) (x27 : Int) (x28 : Bool) (x29 : ByteArray) (x30 : Sl) (x31 : Int) =>
                 alW (.cells ⟨[.string (⟨⟨[]⟩⟩ : ByteArray), .int .i64 0, .bool false, .string (⟨⟨[]⟩⟩ : ByteArray), .slice none 0 0]⟩ 24 (0, 0)) (fun (b32 : Nat) =>
                  stW Tryz.prog 24 (.pointer (some ⟨b32, 0, none⟩)) (.agg ⟨[.string x26, .int .i64 x27, .bool x28, .string x29, .slice x30.base x30.len x30.cap]⟩) (K (.bool ((x31 : Int) == 5))))))
               (callT Tryz.prog 27 [.pointer x19, .string (⟨⟨[47, 97]⟩⟩ : ByteArray)] (.tup [.agg [.str, (.int .i64), .bool, .str, .slc], .sc (.int .i64)]) (fun (x33 : ByteArray) (x34 : Int) (x35 : Bool) (x36 : ByteArray) (x37 : Sl) (x38 : Int) =>
                 alW (.cells ⟨[.string (⟨⟨[]⟩⟩ : ByteArray), .int .i64 0, .bool false, .string (⟨⟨[]⟩⟩ : ByteArray), .slice none 0 0]⟩ 24 (0, 0)) (fun (b39 : Nat) =>
                  stW Tryz.prog 24 (.pointer (some ⟨b39, 0, none⟩)) (.agg ⟨[.string x33, .int .i64 x34, .bool x35, .string x36, .slice x37.base x37.len x37.cap]⟩) (letJ (T := Option Addr → Option Addr → Bool → H → Prop) (fun (n_41 : Option Addr) (f_42 : Option Addr) (x43 : Bool) =>
                    brW x43
                    (K (.bool false))
                    (callT Tryz.prog 27 [.pointer f_42, .string (⟨⟨[47, 98]⟩⟩ : ByteArray)] (.tup [.agg [.str, (.int .i64), .bool, .str, .slc], .sc (.int .i64)]) (fun (x44 : ByteArray) (x45 : Int) (x46 : Bool) (x47 : ByteArray) (x48 : Sl) (x49 : Int) =>
                      alW (.cells ⟨[.string (⟨⟨[]⟩⟩ : ByteArray), .int .i64 0, .bool false, .string (⟨⟨[]⟩⟩ : ByteArray), .slice none 0 0]⟩ 24 (0, 0)) (fun (b50 : Nat) =>
                      stW Tryz.prog 24 (.pointer (some ⟨b50, 0, none⟩)) (.agg ⟨[.string x44, .int .i64 x45, .bool x46, .string x47, .slice x48.base x48.len x48.cap]⟩) (brW ((x49 : Int) == 0)
                      (rdT (rdA 5 b50 0) (.one (.agg [.str, (.int .i64), .bool, .str, .slc])) (fun (x51 : ByteArray) (x52 : Int) (x53 : Bool) (x54 : ByteArray) (x55 : Sl) =>
                      ptrW n_41 (fun (b56 o57 : Nat) =>
                      rdT (rdA 5 b56 o57) (.one (.agg [.str, (.int .i64), .bool, .str, .slc])) (fun (x58 : ByteArray) (x59 : Int) (x60 : Bool) (x61 : ByteArray) (x62 : Sl) =>
                      callT Tryz.prog 28 [.agg ⟨[.string x51, .int .i64 x52, .bool x53, .string x54, .slice x55.base x55.len x55.cap]⟩, .agg ⟨[.string x58, .int .i64 x59, .bool x60, .string x61, .slice x62.base x62.len x62.cap]⟩] kB (fun (x63 : Bool) =>
                      K (.bool x63))))))
                      (K (.bool false))))))) (fun j40 =>
                    brW ((x38 : Int) != 0)
                    (j40 (some ⟨b6, 0, none⟩) x19 true)
                    (rdT (rdA 5 b39 0) (.one (.agg [.str, (.int .i64), .bool, .str, .slc])) (fun (x64 : ByteArray) (x65 : Int) (x66 : Bool) (x67 : ByteArray) (x68 : Sl) =>
                      rdT (rdA 5 b6 0) (.one (.agg [.str, (.int .i64), .bool, .str, .slc])) (fun (x69 : ByteArray) (x70 : Int) (x71 : Bool) (x72 : ByteArray) (x73 : Sl) =>
                      callT Tryz.prog 28 [.agg ⟨[.string x64, .int .i64 x65, .bool x66, .string x67, .slice x68.base x68.len x68.cap]⟩, .agg ⟨[.string x69, .int .i64 x70, .bool x71, .string x72, .slice x73.base x73.len x73.cap]⟩] kB (fun (x74 : Bool) =>
                      brW (!x74)
                      (j40 (some ⟨b6, 0, none⟩) x19 true)
                      (rdT (rdA 5 b39 0) (.one (.agg [.str, (.int .i64), .bool, .str, .slc])) (fun (x75 : ByteArray) (x76 : Int) (x77 : Bool) (x78 : ByteArray) (x79 : Sl) =>
                      callT Tryz.prog 17 [.pointer x19, .string (⟨⟨[47, 98]⟩⟩ : ByteArray), .agg ⟨[.string x75, .int .i64 x76, .bool x77, .string x78, .slice x79.base x79.len x79.cap]⟩] kI (fun (x80 : Int) =>
                      j40 (some ⟨b6, 0, none⟩) x19 ((x80 : Int) != 0))))))))))))))))))))))))))
theorem e6 (n_1 : ByteArray) (n_2 : Int) (n_3 : Bool) (n_4 : ByteArray) (n_5 : Sl) (K : Value → H → Prop) : bodyF Tryz.prog tau Tryz.f6 an6 [.agg ⟨[.string n_1, .int .i64 n_2, .bool n_3, .string n_4, .slice n_5.base n_5.len n_5.cap]⟩] K = g6 n_1 n_2 n_3 n_4 n_5 K := by kernel_rfl
theorem c6 (n_1 : ByteArray) (n_2 : Int) (n_3 : Bool) (n_4 : ByteArray) (n_5 : Sl) {K : Value → H → Prop} {σ : H} (h : g6 n_1 n_2 n_3 n_4 n_5 K σ) : callW Tryz.prog 6 [.agg ⟨[.string n_1, .int .i64 n_2, .bool n_3, .string n_4, .slice n_5.base n_5.len n_5.cap]⟩] K σ := call_of_body mixed Tryz.func6 (by rw [e6]; exact h)


/-- whisk/whisklaw10.CanonParts -/
def an7 : Ann := (.seq none (.reg [] []) (.seq none (.seq none (.reg [] []) (.cond (.seq none (.reg [] []) .leaf) .leaf)) (.seq none (.reg [] []) (.seq none (.reg [] []) (.seq none (.reg [] []) (.seq none (.reg [] []) (.seq none (.seq none (.reg [] []) (.cond (.seq none (.reg [] []) .leaf) .leaf)) (.seq none (.seq none (.reg [] []) (.cond (.seq none (.reg [] []) .leaf) .leaf)) (.seq none (.reg [] []) (.seq none (.seq none (.reg [] []) (.cond (.seq none (.reg [] []) .leaf) .leaf)) (.seq none (.seq none (.reg [] []) (.blk (.loop [(4, .sc .ptr), (5, .sc .ptr), (7, .sc (.int .i64))] (.seq none (.seq none (.reg [] []) (.cond .leaf .leaf)) (.seq none (.blk (.seq none (.reg [] []) (.seq none (.reg [] []) (.seq (some [(4, .sc .ptr), (5, .sc .ptr), (7, .sc (.int .i64)), (59, .sc .raw), (60, .sc .raw), (61, .sc .raw), (62, .sc .raw), (63, .sc .raw), (64, .sc .raw), (65, .sc .raw), (66, .sc .raw), (67, .sc .bool)]) (.reg [0, 1, 2, 3, 4, 5, 6, 7, 8, 9, 10, 11] [[], [0], [0, 1], [0, 1, 2], [0, 1, 2], [0, 1, 2, 4], [0, 1, 2], [0, 1, 2, 4, 5, 6], [0, 1, 2, 4, 5, 6, 7], [0, 1, 2, 3, 4, 5, 6, 7, 8], [0, 1, 2, 3, 4, 5, 6, 7, 8, 9], [0, 1, 2, 3, 4, 5, 6, 7, 8, 9, 10]]) (.cond (.seq none (.reg [] []) .leaf) .leaf))))) (.reg [] [])))))) (.seq none (.reg [] []) .leaf))))))))))))
def g7 (n_1 : ByteArray) (n_2 : Int) (n_3 : Bool) (n_4 : ByteArray) (n_5 : Sl) (K : Value → H → Prop) : H → Prop :=
  alW (.cells ⟨[.string n_1, .int .i64 n_2, .bool n_3, .string n_4, .slice n_5.base n_5.len n_5.cap]⟩ 24 (0, 0)) (fun (b6 : Nat) =>
   callT Tryz.prog 24 [] kB (fun (x7 : Bool) =>
    brW (!x7)
    (K (.bool false))
    (alW (.cells ⟨[.int .i64 0]⟩ 3 (0, 0)) (fun (b8 : Nat) =>
      stW Tryz.prog 3 (.pointer (some ⟨b8, 0, none⟩)) (.int .i64 60) (rdT (rdA 5 b6 0) (.one (.agg [.str, (.int .i64), .bool, .str, .slc])) (fun (x9 : ByteArray) (x10 : Int) (x11 : Bool) (x12 : ByteArray) (x13 : Sl) =>
        callT Tryz.prog 29 [.agg ⟨[.string x9, .int .i64 x10, .bool x11, .string x12, .slice x13.base x13.len x13.cap]⟩, .int .i64 8, .pointer (some ⟨b8, 0, none⟩)] (.one (.agg [.str, (.int .i64), .bool, .str, .slc])) (fun (x14 : ByteArray) (x15 : Int) (x16 : Bool) (x17 : ByteArray) (x18 : Sl) =>
         stW Tryz.prog 24 (.pointer (some ⟨b6, 0, none⟩)) (.agg ⟨[.string x14, .int .i64 x15, .bool x16, .string x17, .slice x18.base x18.len x18.cap]⟩) (stW Tryz.prog 9 (.pointer (some ⟨b6, 0, none⟩)) (.string (⟨⟨[]⟩⟩ : ByteArray)) (callT Tryz.prog 15 [.agg ⟨[.int .i64 200, .int .i64 20000]⟩] kP (fun (x19 : Option Addr) =>
            brW x19.isNone
            (K (.bool false))
            (rdT (rdA 5 b6 0) (.one (.agg [.str, (.int .i64), .bool, .str, .slc])) (fun (x20 : ByteArray) (x21 : Int) (x22 : Bool) (x23 : ByteArray) (x24 : Sl) =>
              callT Tryz.prog 17 [.pointer x19, .string (⟨⟨[47, 97]⟩⟩ : ByteArray), .agg ⟨[.string x20, .int .i64 x21, .bool x22, .string x23, .slice x24.base x24.len x24.cap]⟩] kI (fun (x25 : Int) =>
               brW ((x25 : Int) != 0)
               (K (.bool true))
               (callT Tryz.prog 27 [.pointer x19, .string (⟨⟨[47, 97]⟩⟩ : ByteArray)] (.tup [.agg [.str, (.int .i64), .bool, .str, .slc], .sc (.int .i64)]) (fun (x26 : ByteArray) (x27 : Int) (x28 : Bool) (x29 : ByteArray) (x30 : Sl) (x31 : Int) =>
                 alW (.cells ⟨[.string (⟨⟨[]⟩⟩ : ByteArray), .int .i64 0, .bool false, .string (⟨⟨[]⟩⟩ : ByteArray), .slice none 0 0]⟩ 24 (0, 0)) (fun (b32 : Nat) =>
                  stW Tryz.prog 24 (.pointer (some ⟨b32, 0, none⟩)) (.agg ⟨[.string x26, .int .i64 x27, .bool x28, .string x29, .slice x30.base x30.len x30.cap]⟩) (brW ((x31 : Int) != 0)
                   (K (.bool false))
                   (loopW [.sc .ptr, .sc .ptr, .sc (.int .i64)] (fun (R33 : Option Addr → Option Addr → Int → H → Prop) => (fun (f_34 : Option Addr) (m_35 : Option Addr) (i_36 : Int) =>
                      ptrW m_35 (fun (b37 o38 : Nat) =>
                      rdT (rdC b37 (o38 + 4)) kL (fun (x39 : Sl) =>
                      brW (decide ((i_36 : Int) < ((x39.len : Nat) : Int)))
                      (ptrW m_35 (fun (b40 o41 : Nat) =>
                      rdT (rdC b40 (o41 + 4)) kL (fun (x42 : Sl) =>
                      ptrW x42.base (fun (b43 o44 : Nat) =>
                      ifW (0 ≤ i_36 ∧ i_36 < ((x42.len : Nat) : Int))
                      (rdT (rdC b43 (o44 + i_36.toNat * 5)) kS (fun (x45 : ByteArray) =>
                      ifW ((⟨⟨[47, 97, 47]⟩⟩ : ByteArray).size + x45.size ≤ 9223372036854775807)
                      (callT Tryz.prog 27 [.pointer f_34, .string ((⟨⟨[47, 97, 47]⟩⟩ : ByteArray) ++ x45)] (.tup [.agg [.str, (.int .i64), .bool, .str, .slc], .sc (.int .i64)]) (fun (x46 : ByteArray) (x47 : Int) (x48 : Bool) (x49 : ByteArray) (x50 : Sl) (x51 : Int) =>
                      alW (.cells ⟨[.string (⟨⟨[]⟩⟩ : ByteArray), .int .i64 0, .bool false, .string (⟨⟨[]⟩⟩ : ByteArray), .slice none 0 0]⟩ 24 (0, 0)) (fun (b52 : Nat) =>
                      stW Tryz.prog 24 (.pointer (some ⟨b52, 0, none⟩)) (.agg ⟨[.string x46, .int .i64 x47, .bool x48, .string x49, .slice x50.base x50.len x50.cap]⟩) (ptrW m_35 (fun (b53 o54 : Nat) =>
                      rdT (rdC b53 (o54 + 4)) kL (fun (x55 : Sl) =>
                      ptrW x55.base (fun (b56 o57 : Nat) =>
                      ifW (0 ≤ i_36 ∧ i_36 < ((x55.len : Nat) : Int))
                      (rdT (rdC b56 (o57 + i_36.toNat * 5)) kS (fun (x58 : ByteArray) =>
                      stW Tryz.prog 9 (.pointer (some ⟨b52, 0, none⟩)) (.string x58) (letJ (T := Option Addr → Option Addr → Int → Value → Value → Value → Value → Value → Value → Value → Value → Bool → H → Prop) (fun (f_60 : Option Addr) (m_61 : Option Addr) (i_62 : Int) (_x63 : Value) (_x64 : Value) (_x65 : Value) (_x66 : Value) (_x67 : Value) (_x68 : Value) (_x69 : Value) (_x70 : Value) (x71 : Bool) =>
                      brW x71
                      (K (.bool false))
                      (R33 f_60 m_61 (IntKind.i64.wrap (i_62 + 1)))) (fun j59 =>
                      brW ((x51 : Int) != 0)
                      (j59 f_34 m_35 i_36 (.tuple ⟨[]⟩) (.tuple ⟨[]⟩) (.tuple ⟨[]⟩) (.tuple ⟨[]⟩) (.tuple ⟨[]⟩) (.tuple ⟨[]⟩) (.tuple ⟨[]⟩) (.tuple ⟨[]⟩) true)
                      (rdT (rdA 5 b52 0) (.one (.agg [.str, (.int .i64), .bool, .str, .slc])) (fun (x72 : ByteArray) (x73 : Int) (x74 : Bool) (x75 : ByteArray) (x76 : Sl) =>
                      ptrW m_35 (fun (b77 o78 : Nat) =>
                      rdT (rdC b77 (o78 + 4)) kL (fun (x79 : Sl) =>
                      ptrW x79.base (fun (b80 o81 : Nat) =>
                      ifW (0 ≤ i_36 ∧ i_36 < ((x79.len : Nat) : Int))
                      (rdT (rdA 5 b80 (o81 + i_36.toNat * 5)) (.one (.agg [.str, (.int .i64), .bool, .str, .slc])) (fun (x82 : ByteArray) (x83 : Int) (x84 : Bool) (x85 : ByteArray) (x86 : Sl) =>
                      callT Tryz.prog 28 [.agg ⟨[.string x72, .int .i64 x73, .bool x74, .string x75, .slice x76.base x76.len x76.cap]⟩, .agg ⟨[.string x82, .int .i64 x83, .bool x84, .string x85, .slice x86.base x86.len x86.cap]⟩] kB (fun (x87 : Bool) =>
                      j59 f_34 m_35 i_36 (.agg ⟨[.string x72, .int .i64 x73, .bool x74, .string x75, .slice x76.base x76.len x76.cap]⟩) (.pointer (some ⟨b77, o78 + 4, none⟩)) (.slice x79.base x79.len x79.cap) (.int .i64 i_36) (.pointer (some ⟨b80, o81 + i_36.toNat * 5, none⟩)) (.agg ⟨[.string x82, .int .i64 x83, .bool x84, .string x85, .slice x86.base x86.len x86.cap]⟩) (.bool x87) (.bool (!x87)) (!x87))))))))))))))))))))))))))
                      (K (.bool true)))))) (fun (R88 : Option Addr → Option Addr → Int → H → Prop) => R88 x19 (some ⟨b32, 0, none⟩) 0)))))))))))))))))))
theorem e7 (n_1 : ByteArray) (n_2 : Int) (n_3 : Bool) (n_4 : ByteArray) (n_5 : Sl) (K : Value → H → Prop) : bodyF Tryz.prog tau Tryz.f7 an7 [.agg ⟨[.string n_1, .int .i64 n_2, .bool n_3, .string n_4, .slice n_5.base n_5.len n_5.cap]⟩] K = g7 n_1 n_2 n_3 n_4 n_5 K := by kernel_rfl
theorem c7 (n_1 : ByteArray) (n_2 : Int) (n_3 : Bool) (n_4 : ByteArray) (n_5 : Sl) {K : Value → H → Prop} {σ : H} (h : g7 n_1 n_2 n_3 n_4 n_5 K σ) : callW Tryz.prog 7 [.agg ⟨[.string n_1, .int .i64 n_2, .bool n_3, .string n_4, .slice n_5.base n_5.len n_5.cap]⟩] K σ := call_of_body mixed Tryz.func7 (by rw [e7]; exact h)


/-- whisk/whisklaw08.FsBack -/
def an8 : Ann := (.seq none (.reg [] []) (.seq none (.seq none (.reg [] []) (.cond (.seq none (.reg [] []) .leaf) .leaf)) (.seq none (.reg [] []) (.seq none (.seq none (.reg [] []) (.cond (.seq none (.reg [] []) .leaf) .leaf)) (.seq none (.reg [] []) (.seq none (.reg [] []) (.seq none (.reg [] []) (.seq none (.reg [] []) (.seq none (.reg [] []) (.seq none (.reg [] []) (.seq none (.seq (some [(1, .sc .str), (2, .sc .str), (7, .sc .ptr), (8, .sc .ptr), (9, .sc (.int .i64)), (12, .sc .ptr), (13, .sc (.int .i64)), (65, .sc .bool)]) (.reg [] []) (.cond (.seq none (.reg [0, 1, 2, 3, 4, 5, 6, 9, 10, 7, 8, 11, 12, 13, 14] [[], [0], [0, 1], [0, 1, 2], [0, 1, 2, 3], [0, 1, 2, 3, 4], [0, 1, 2, 3, 4, 5], [0, 1, 2, 3, 4, 5, 6], [0, 1, 2, 3, 4, 5, 6, 7], [0, 1, 2, 3, 4, 5], [0, 1, 2, 3, 4, 5, 9], [0, 1, 2, 3, 4, 5, 6, 7, 8, 9, 10], [0, 1, 2, 3, 4, 5, 6, 7, 8, 9, 10, 11], [0, 1, 2, 3, 4, 5, 6, 7, 8, 9, 10, 11, 12], [0, 1, 2, 3, 4, 5, 6, 7, 8, 9, 10, 11, 12, 13]]) .leaf) .leaf)) (.seq none (.reg [] []) (.seq none (.seq (some [(1, .sc .str), (2, .sc .str), (7, .sc .ptr), (8, .sc .ptr), (12, .sc .ptr), (105, .sc .bool)]) (.reg [0, 1, 2, 3, 4, 5, 6, 7, 8, 10, 9, 11, 12, 13, 14, 15, 16, 17, 18, 19] [[], [0], [0, 1], [0, 1, 2], [0, 1, 2], [0, 1, 2, 3, 4], [0, 1, 2, 3, 4, 5], [0, 1, 2, 3, 4, 5, 6], [0, 1, 2, 3, 4, 5, 6, 7], [0, 1, 2, 3, 4, 5, 6, 7, 8], [0, 1, 2, 3, 4, 5, 6, 7], [0, 1, 2, 3, 4, 5, 6, 7, 8, 9, 10], [0, 1, 2, 3, 4, 5, 6, 7, 8, 9, 10, 11], [0, 1, 2, 3, 4, 5, 6, 7, 8, 9, 10, 11, 12], [0, 1, 2, 3, 4, 5, 6, 7, 8, 9, 10, 11, 12, 13], [0, 1, 2, 3, 4, 5, 6, 7, 8, 9, 10, 11, 12, 13], [0, 1, 2, 3, 4, 5, 6, 7, 8, 9, 10, 11, 12, 13], [0, 1, 2, 3, 4, 5, 6, 7, 8, 9, 10, 11, 12, 13, 14, 15, 16], [0, 1, 2, 3, 4, 5, 6, 7, 8, 9, 10, 11, 12, 13, 14, 15, 16, 17], [0, 1, 2, 3, 4, 5, 6, 7, 8, 9, 10, 11, 12, 13, 14, 15, 16, 17, 18]]) (.cond (.seq none (.reg [] []) .leaf) .leaf)) (.seq none (.reg [] []) (.seq none (.reg [] []) (.seq none (.reg [0, 1, 2, 3, 4, 5, 6, 7, 8, 9, 10, 11, 12, 14, 13, 15, 16, 17] [[], [0], [0, 1], [0, 1, 2], [0, 1, 2], [0, 1, 2, 3, 4], [0, 1, 2, 3, 4, 5], [0, 1, 2, 3, 4, 5, 6], [0, 1, 2, 3, 4, 5, 6, 7], [0, 1, 2, 3, 4, 5, 6, 7, 8], [0, 1, 2, 3, 4, 5, 6, 7, 8, 9], [0, 1, 2, 3, 4, 5, 6, 7, 8, 9, 10], [0, 1, 2, 3, 4, 5, 6, 7, 8, 9, 10, 11], [0, 1, 2, 3, 4, 5, 6, 7, 8, 9, 10, 11, 12], [0, 1, 2, 3, 4, 5, 6, 7, 8, 9, 10, 11], [0, 1, 2, 3, 4, 5, 6, 7, 8, 9, 10, 11, 12, 13, 14], [0, 1, 2, 3, 4, 5, 6, 7, 8, 9, 10, 11, 12, 13, 14, 15], [0, 1, 2, 3, 4, 5, 6, 7, 8, 9, 10, 11, 12, 13, 14, 15, 16]]) .leaf))))))))))))))))
def g8 (l_1 : Sl) (from_2 : ByteArray) (to_3 : ByteArray) (K : Value → H → Prop) : H → Prop :=
  callT Tryz.prog 13 [] kB (fun (x4 : Bool) =>
   brW (!x4)
   (K (.bool false))
   (callT Tryz.prog 30 [.slice l_1.base l_1.len l_1.cap] kP (fun (x5 : Option Addr) =>
     brW x5.isNone
     (K (.bool false))
     (ifW (bndOk (some (if 60 < ((from_2.size : Nat) : Int) then 60 else ((from_2.size : Nat) : Int))) from_2.size ∧ bndOk none ((if 60 < ((from_2.size : Nat) : Int) then 60 else ((from_2.size : Nat) : Int)).toNat))
      (callT Tryz.prog 31 [.string (from_2.extract 0 ((if 60 < ((from_2.size : Nat) : Int) then 60 else ((from_2.size : Nat) : Int)).toNat)), .string (⟨⟨[47]⟩⟩ : ByteArray), .string (⟨⟨[]⟩⟩ : ByteArray)] kS (fun (x6 : ByteArray) =>
        ifW (bndOk (some (if 60 < ((to_3.size : Nat) : Int) then 60 else ((to_3.size : Nat) : Int))) to_3.size ∧ bndOk none ((if 60 < ((to_3.size : Nat) : Int) then 60 else ((to_3.size : Nat) : Int)).toNat))
        (callT Tryz.prog 31 [.string (to_3.extract 0 ((if 60 < ((to_3.size : Nat) : Int) then 60 else ((to_3.size : Nat) : Int)).toNat)), .string (⟨⟨[47]⟩⟩ : ByteArray), .string (⟨⟨[]⟩⟩ : ByteArray)] kS (fun (x7 : ByteArray) =>
          callT Tryz.prog 32 [.pointer x5, .string (⟨⟨[47]⟩⟩ : ByteArray), .string x6, .bool false] (.tup [.agg [(.int .i64), (.int .i64), .str, (.int .i64)], .sc (.int .i64)]) (fun (x8 : Int) (x9 : Int) (x10 : ByteArray) (x11 : Int) (x12 : Int) =>
           alW (.cells ⟨[.int .i64 0, .int .i64 0, .string (⟨⟨[]⟩⟩ : ByteArray), .int .i64 0]⟩ 54 (0, 0)) (fun (b13 : Nat) =>
            stW Tryz.prog 54 (.pointer (some ⟨b13, 0, none⟩)) (.agg ⟨[.int .i64 x8, .int .i64 x9, .string x10, .int .i64 x11]⟩) (callT Tryz.prog 32 [.pointer x5, .string (⟨⟨[47]⟩⟩ : ByteArray), .string x7, .bool false] (.tup [.agg [(.int .i64), (.int .i64), .str, (.int .i64)], .sc (.int .i64)]) (fun (x14 : Int) (x15 : Int) (x16 : ByteArray) (x17 : Int) (x18 : Int) =>
              alW (.cells ⟨[.int .i64 0, .int .i64 0, .string (⟨⟨[]⟩⟩ : ByteArray), .int .i64 0]⟩ 54 (0, 0)) (fun (b19 : Nat) =>
               stW Tryz.prog 54 (.pointer (some ⟨b19, 0, none⟩)) (.agg ⟨[.int .i64 x14, .int .i64 x15, .string x16, .int .i64 x17]⟩) (callT Tryz.prog 18 [.pointer x5] (.one (.agg [(.int .i64), (.int .i64)])) (fun (x20 : Int) (x21 : Int) =>
                 alW (.cells ⟨[.int .i64 0, .int .i64 0]⟩ 31 (0, 0)) (fun (b22 : Nat) =>
                  stW Tryz.prog 31 (.pointer (some ⟨b22, 0, none⟩)) (.agg ⟨[.int .i64 x20, .int .i64 x21]⟩) (callT Tryz.prog 33 [.pointer x5, .string (⟨⟨[47]⟩⟩ : ByteArray), .string x6, .string x7] kI (fun (x23 : Int) =>
                    letJ (T := ByteArray → ByteArray → Option Addr → Option Addr → Int → Option Addr → Int → Bool → H → Prop) (fun (from_25 : ByteArray) (to_26 : ByteArray) (f_27 : Option Addr) (x_28 : Option Addr) (e_29 : Int) (used_30 : Option Addr) (h_31 : Int) (x32 : Bool) =>
                     brW x32
                     (brW ((h_31 : Int) != 0)
                      (K (.bool true))
                      (brW ((e_29 : Int) == 0)
                      (ptrW used_30 (fun (b33 o34 : Nat) =>
                      rdT (rdC b33 o34) kI (fun (x35 : Int) =>
                      callT Tryz.prog 18 [.pointer f_27] (.one (.agg [(.int .i64), (.int .i64)])) (fun (x36 : Int) (_x37 : Int) =>
                      andW (fun σ => (rdC b33 o34) σ = some (.int .i64 x35))
                      (K (.bool (decide ((x36 : Int) ≤ x35))))))))
                      (K (.bool false))))
                     (callT Tryz.prog 32 [.pointer f_27, .string (⟨⟨[47]⟩⟩ : ByteArray), .string to_26, .bool false] (.tup [.agg [(.int .i64), (.int .i64), .str, (.int .i64)], .sc (.int .i64)]) (fun (x38 : Int) (x39 : Int) (x40 : ByteArray) (x41 : Int) (x42 : Int) =>
                      alW (.cells ⟨[.int .i64 0, .int .i64 0, .string (⟨⟨[]⟩⟩ : ByteArray), .int .i64 0]⟩ 54 (0, 0)) (fun (b43 : Nat) =>
                      stW Tryz.prog 54 (.pointer (some ⟨b43, 0, none⟩)) (.agg ⟨[.int .i64 x38, .int .i64 x39, .string x40, .int .i64 x41]⟩) (letJ (T := ByteArray → ByteArray → Option Addr → Option Addr → Option Addr → Bool → H → Prop) (fun (from_45 : ByteArray) (to_46 : ByteArray) (f_47 : Option Addr) (x_48 : Option Addr) (used_49 : Option Addr) (x50 : Bool) =>
                      brW x50
                      (K (.bool false))
                      (callT Tryz.prog 32 [.pointer f_47, .string (⟨⟨[47]⟩⟩ : ByteArray), .string from_45, .bool false] (.tup [.agg [(.int .i64), (.int .i64), .str, (.int .i64)], .sc (.int .i64)]) (fun (x51 : Int) (x52 : Int) (x53 : ByteArray) (x54 : Int) (x55 : Int) =>
                      alW (.cells ⟨[.int .i64 0, .int .i64 0, .string (⟨⟨[]⟩⟩ : ByteArray), .int .i64 0]⟩ 54 (0, 0)) (fun (b56 : Nat) =>
                      stW Tryz.prog 54 (.pointer (some ⟨b56, 0, none⟩)) (.agg ⟨[.int .i64 x51, .int .i64 x52, .string x53, .int .i64 x54]⟩) (callT Tryz.prog 32 [.pointer f_47, .string (⟨⟨[47]⟩⟩ : ByteArray), .string to_46, .bool false] (.tup [.agg [(.int .i64), (.int .i64), .str, (.int .i64)], .sc (.int .i64)]) (fun (x57 : Int) (x58 : Int) (x59 : ByteArray) (x60 : Int) (x61 : Int) =>
                      alW (.cells ⟨[.int .i64 0, .int .i64 0, .string (⟨⟨[]⟩⟩ : ByteArray), .int .i64 0]⟩ 54 (0, 0)) (fun (b62 : Nat) =>
                      stW Tryz.prog 54 (.pointer (some ⟨b62, 0, none⟩)) (.agg ⟨[.int .i64 x57, .int .i64 x58, .string x59, .int .i64 x60]⟩) (brW ((x55 : Int) == 0)
                      (rdT (rdA 4 b56 0) (.one (.agg [(.int .i64), (.int .i64), .str, (.int .i64)])) (fun (x63 : Int) (x64 : Int) (x65 : ByteArray) (x66 : Int) =>
                      ptrW x_48 (fun (b67 o68 : Nat) =>
                      rdT (rdA 4 b67 o68) (.one (.agg [(.int .i64), (.int .i64), .str, (.int .i64)])) (fun (x69 : Int) (x70 : Int) (x71 : ByteArray) (x72 : Int) =>
                      brW (((x63 : Int) == x69) && (((x64 : Int) == x70) && (strEq x65 x71 && (((x66 : Int) == x72) && true))))
                      (brW ((x61 : Int) != 0)
                      (ptrW used_49 (fun (b73 o74 : Nat) =>
                      rdT (rdA 2 b73 o74) (.one (.agg [(.int .i64), (.int .i64)])) (fun (x75 : Int) (x76 : Int) =>
                      callT Tryz.prog 18 [.pointer f_47] (.one (.agg [(.int .i64), (.int .i64)])) (fun (x77 : Int) (x78 : Int) =>
                      andW (fun σ => (rdA 2 b73 o74) σ = some (.agg ⟨[.int .i64 x75, .int .i64 x76]⟩))
                      (K (.bool (((x77 : Int) == x75) && (((x78 : Int) == x76) && true))))))))
                      (K (.bool false)))
                      (K (.bool false))))))
                      (K (.bool false)))))))))) (fun j44 =>
                      brW ((x42 : Int) != 0)
                      (j44 from_25 to_26 f_27 x_28 used_30 true)
                      (ptrW x_28 (fun (b79 o80 : Nat) =>
                      rdT (rdA 4 b79 o80) (.one (.agg [(.int .i64), (.int .i64), .str, (.int .i64)])) (fun (x81 : Int) (x82 : Int) (x83 : ByteArray) (x84 : Int) =>
                      rdT (rdA 4 b43 0) (.one (.agg [(.int .i64), (.int .i64), .str, (.int .i64)])) (fun (x85 : Int) (x86 : Int) (x87 : ByteArray) (x88 : Int) =>
                      brW (!(((x81 : Int) == x85) && (((x82 : Int) == x86) && (strEq x83 x87 && (((x84 : Int) == x88) && true)))))
                      (j44 from_25 to_26 f_27 x_28 used_30 true)
                      (ptrW used_30 (fun (b89 o90 : Nat) =>
                      rdT (rdA 2 b89 o90) (.one (.agg [(.int .i64), (.int .i64)])) (fun (x91 : Int) (x92 : Int) =>
                      callT Tryz.prog 18 [.pointer f_27] (.one (.agg [(.int .i64), (.int .i64)])) (fun (x93 : Int) (x94 : Int) =>
                      andW (fun σ => (rdA 2 b89 o90) σ = some (.agg ⟨[.int .i64 x91, .int .i64 x92]⟩))
                      (brW (!(((x93 : Int) == x91) && (((x94 : Int) == x92) && true)))
                      (j44 from_25 to_26 f_27 x_28 used_30 true)
                      (callT Tryz.prog 33 [.pointer f_27, .string (⟨⟨[47]⟩⟩ : ByteArray), .string to_26, .string from_25] kI (fun (x95 : Int) =>
                      j44 from_25 to_26 f_27 x_28 used_30 ((x95 : Int) != 0)))))))))))))))))) (fun j24 =>
                     brW ((x23 : Int) != 0)
                     (j24 x6 x7 x5 (some ⟨b13, 0, none⟩) x12 (some ⟨b22, 0, none⟩) x23 true)
                     (brW ((x12 : Int) != 0)
                      (j24 x6 x7 x5 (some ⟨b13, 0, none⟩) x12 (some ⟨b22, 0, none⟩) x23 true)
                      (j24 x6 x7 x5 (some ⟨b13, 0, none⟩) x12 (some ⟨b22, 0, none⟩) x23 ((x18 : Int) == 0))))))))))))))))))))))
theorem e8 (l_1 : Sl) (from_2 : ByteArray) (to_3 : ByteArray) (K : Value → H → Prop) : bodyF Tryz.prog tau Tryz.f8 an8 [.slice l_1.base l_1.len l_1.cap, .string from_2, .string to_3] K = g8 l_1 from_2 to_3 K := by kernel_rfl
theorem c8 (l_1 : Sl) (from_2 : ByteArray) (to_3 : ByteArray) {K : Value → H → Prop} {σ : H} (h : g8 l_1 from_2 to_3 K σ) : callW Tryz.prog 8 [.slice l_1.base l_1.len l_1.cap, .string from_2, .string to_3] K σ := call_of_body mixed Tryz.func8 (by rw [e8]; exact h)


/-- whisk/whisklaw08.works -/
def an13 : Ann := (.seq none (.reg [] []) (.seq none (.reg [] []) (.seq none (.seq (some [(1, .sc .ptr), (40, .sc .bool)]) (.reg [] []) (.cond (.seq none (.reg [] []) .leaf) .leaf)) (.seq none (.reg [] []) (.seq none (.reg [] []) (.seq none (.reg [] []) (.seq none (.reg [] []) .leaf)))))))
def g13  (K : Value → H → Prop) : H → Prop :=
  callT Tryz.prog 43 [] kP (fun (x1 : Option Addr) =>
   letJ (T := Option Addr → Bool → H → Prop) (fun (f_3 : Option Addr) (x4 : Bool) =>
    brW x4
    (K (.bool false))
    (callT Tryz.prog 32 [.pointer f_3, .string (⟨⟨[47]⟩⟩ : ByteArray), .string (⟨⟨[108]⟩⟩ : ByteArray), .bool false] (.tup [.agg [(.int .i64), (.int .i64), .str, (.int .i64)], .sc (.int .i64)]) (fun (x5 : Int) (x6 : Int) (x7 : ByteArray) (x8 : Int) (x9 : Int) =>
      alW (.cells ⟨[.int .i64 0, .int .i64 0, .string (⟨⟨[]⟩⟩ : ByteArray), .int .i64 0]⟩ 54 (0, 0)) (fun (b10 : Nat) =>
       stW Tryz.prog 54 (.pointer (some ⟨b10, 0, none⟩)) (.agg ⟨[.int .i64 x5, .int .i64 x6, .string x7, .int .i64 x8]⟩) (callT Tryz.prog 48 [.pointer f_3, .string (⟨⟨[47, 97]⟩⟩ : ByteArray), .string (⟨⟨[46, 46, 47, 108]⟩⟩ : ByteArray)] (.tup [.sc .str, .sc (.int .i64)]) (fun (x11 : ByteArray) (x12 : Int) =>
         callT Tryz.prog 48 [.pointer f_3, .string (⟨⟨[47]⟩⟩ : ByteArray), .string (⟨⟨[46, 46]⟩⟩ : ByteArray)] (.tup [.sc .str, .sc (.int .i64)]) (fun (x13 : ByteArray) (x14 : Int) =>
          brW ((x9 : Int) == 0)
          (rdT (rdC b10 0) kI (fun (x15 : Int) =>
            brW ((x15 : Int) == 3)
            (brW ((x12 : Int) == 0)
             (brW (strEq x11 (⟨⟨[47, 97, 47, 102]⟩⟩ : ByteArray))
              (brW ((x14 : Int) == 0)
               (brW (strEq x13 (⟨⟨[47]⟩⟩ : ByteArray))
                (callT Tryz.prog 16 [.pointer f_3, .string (⟨⟨[47]⟩⟩ : ByteArray), .string (⟨⟨[97, 47, 102, 47, 120]⟩⟩ : ByteArray)] kI (fun (x16 : Int) =>
                  brW ((x16 : Int) == 8)
                  (callT Tryz.prog 23 [.pointer f_3, .string (⟨⟨[47]⟩⟩ : ByteArray), .string (⟨⟨[97]⟩⟩ : ByteArray)] kI (fun (x17 : Int) =>
                    K (.bool ((x17 : Int) == 20))))
                  (K (.bool false))))
                (K (.bool false)))
               (K (.bool false)))
              (K (.bool false)))
             (K (.bool false)))
            (K (.bool false))))
          (K (.bool false))))))))) (fun j2 =>
    brW x1.isNone
    (j2 x1 true)
    (callT Tryz.prog 44 [.pointer x1, .string (⟨⟨[47]⟩⟩ : ByteArray), .string (⟨⟨[108]⟩⟩ : ByteArray), .string (⟨⟨[104, 105]⟩⟩ : ByteArray), .int .i64 0] kB (fun (x18 : Bool) =>
      brW (!x18)
      (j2 x1 true)
      (callT Tryz.prog 44 [.pointer x1, .string (⟨⟨[47, 97]⟩⟩ : ByteArray), .string (⟨⟨[46, 46, 47, 46, 46, 47, 97, 47, 46, 47, 102]⟩⟩ : ByteArray), .string (⟨⟨[104, 105]⟩⟩ : ByteArray), .int .i64 0] kB (fun (x19 : Bool) =>
        brW (!x19)
        (j2 x1 true)
        (callT Tryz.prog 44 [.pointer x1, .string (⟨⟨[47]⟩⟩ : ByteArray), .string (⟨⟨[109]⟩⟩ : ByteArray), .string (⟨⟨[]⟩⟩ : ByteArray), .int .i64 9] kB (fun (x20 : Bool) =>
          brW (!x20)
          (j2 x1 true)
          (callT Tryz.prog 44 [.pointer x1, .string (⟨⟨[47]⟩⟩ : ByteArray), .string (⟨⟨[97]⟩⟩ : ByteArray), .string (⟨⟨[]⟩⟩ : ByteArray), .int .i64 7] kB (fun (x21 : Bool) =>
            brW (!x21)
            (j2 x1 true)
            (callT Tryz.prog 21 [.pointer x1, .string (⟨⟨[47]⟩⟩ : ByteArray), .string (⟨⟨[108]⟩⟩ : ByteArray), .string (⟨⟨[33]⟩⟩ : ByteArray), .bool true] kI (fun (x22 : Int) =>
              brW ((x22 : Int) != 0)
              (j2 x1 true)
              (callT Tryz.prog 44 [.pointer x1, .string (⟨⟨[47, 97]⟩⟩ : ByteArray), .string (⟨⟨[102]⟩⟩ : ByteArray), .string (⟨⟨[104, 105, 33]⟩⟩ : ByteArray), .int .i64 0] kB (fun (x23 : Bool) =>
                j2 x1 (!x23)))))))))))))))
theorem e13  (K : Value → H → Prop) : bodyF Tryz.prog tau Tryz.f13 an13 [] K = g13  K := by kernel_rfl
theorem c13  {K : Value → H → Prop} {σ : H} (h : g13  K σ) : callW Tryz.prog 13 [] K σ := call_of_body mixed Tryz.func13 (by rw [e13]; exact h)


/-- whisk/whisklaw08.cut -/
def an14 : Ann := (.seq none (.reg [] []) (.seq none (.reg [] []) (.seq none (.reg [] []) (.seq none (.reg [] []) (.seq none (.seq none (.reg [] []) (.blk (.loop [(1, .sc (.int .i64)), (2, .sc .ptr), (3, .sc .ptr), (6, .sc .ptr), (7, .sc .slc), (8, .sc (.int .i64))] (.seq none (.seq (some [(1, .sc (.int .i64)), (2, .sc .ptr), (3, .sc .ptr), (6, .sc .ptr), (7, .sc .slc), (8, .sc (.int .i64)), (31, .sc .raw), (32, .sc .raw), (35, .sc .raw), (36, .sc .raw), (39, .sc .raw), (40, .sc .raw), (41, .sc .raw), (42, .sc .raw), (43, .sc .bool)]) (.reg [] []) (.cond .leaf .leaf)) (.seq none (.blk (.seq none (.reg [] []) (.reg [] []))) (.reg [] [])))))) (.seq none (.reg [] []) (.seq none (.reg [] []) .leaf)))))))
def g14 (n_1 : ByteArray) (n_2 : Int) (n_3 : Bool) (n_4 : ByteArray) (n_5 : Sl) (levels_6 : Int) (left_7 : Option Addr) (K : Value → H → Prop) : H → Prop :=
  alW (.cells ⟨[.string n_1, .int .i64 n_2, .bool n_3, .string n_4, .slice n_5.base n_5.len n_5.cap]⟩ 24 (0, 0)) (fun (b8 : Nat) =>
   alW (.cells ⟨[.string (⟨⟨[]⟩⟩ : ByteArray), .int .i64 0, .bool false, .string (⟨⟨[]⟩⟩ : ByteArray), .slice none 0 0]⟩ 24 (0, 0)) (fun (b9 : Nat) =>
    rdT (rdC b8 0) kS (fun (x10 : ByteArray) =>
     rdT (rdC b8 0) kS (fun (x11 : ByteArray) =>
      ifW (bndOk (some (if 30 < ((x11.size : Nat) : Int) then 30 else ((x11.size : Nat) : Int))) x10.size ∧ bndOk none ((if 30 < ((x11.size : Nat) : Int) then 30 else ((x11.size : Nat) : Int)).toNat))
      (stW Tryz.prog 9 (.pointer (some ⟨b8, 0, none⟩)) (.string (x10.extract 0 ((if 30 < ((x11.size : Nat) : Int) then 30 else ((x11.size : Nat) : Int)).toNat))) (rdT (rdC b8 3) kS (fun (x12 : ByteArray) =>
         rdT (rdC b8 3) kS (fun (x13 : ByteArray) =>
          ifW (bndOk (some (if 200 < ((x13.size : Nat) : Int) then 200 else ((x13.size : Nat) : Int))) x12.size ∧ bndOk none ((if 200 < ((x13.size : Nat) : Int) then 200 else ((x13.size : Nat) : Int)).toNat))
          (stW Tryz.prog 9 (.pointer (some ⟨b8, 3, none⟩)) (.string (x12.extract 0 ((if 200 < ((x13.size : Nat) : Int) then 200 else ((x13.size : Nat) : Int)).toNat))) (loopW [.sc (.int .i64), .sc .ptr, .sc .ptr, .sc .ptr, .sc .slc, .sc (.int .i64)] (fun (R14 : Int → Option Addr → Option Addr → Option Addr → Sl → Int → H → Prop) => (fun (levels_15 : Int) (left_16 : Option Addr) (n_17 : Option Addr) (x18 : Option Addr) (kids_19 : Sl) (i_20 : Int) =>
              letJ (T := Int → Option Addr → Option Addr → Option Addr → Sl → Int → Value → Value → Value → Value → Value → Value → Value → Value → Bool → H → Prop) (fun (levels_22 : Int) (left_23 : Option Addr) (n_24 : Option Addr) (x25 : Option Addr) (kids_26 : Sl) (i_27 : Int) (_x28 : Value) (_x29 : Value) (_x30 : Value) (_x31 : Value) (_x32 : Value) (_x33 : Value) (_x34 : Value) (_x35 : Value) (x36 : Bool) =>
               brW x36
               (ptrW left_23 (fun (b37 o38 : Nat) =>
                 rdT (rdC b37 o38) kI (fun (x39 : Int) =>
                  ptrW left_23 (fun (b40 o41 : Nat) =>
                   stW Tryz.prog 3 (.pointer (some ⟨b40, o41, none⟩)) (.int .i64 (IntKind.i64.wrap (x39 - 1))) (ptrW n_24 (fun (b42 o43 : Nat) =>
                     rdT (rdC b42 (o43 + 4)) kL (fun (x44 : Sl) =>
                      ptrW x44.base (fun (b45 o46 : Nat) =>
                      ifW (0 ≤ i_27 ∧ i_27 < ((x44.len : Nat) : Int))
                      (rdT (rdA 5 b45 (o46 + i_27.toNat * 5)) (.one (.agg [.str, (.int .i64), .bool, .str, .slc])) (fun (x47 : ByteArray) (x48 : Int) (x49 : Bool) (x50 : ByteArray) (x51 : Sl) =>
                      callT Tryz.prog 14 [.agg ⟨[.string x47, .int .i64 x48, .bool x49, .string x50, .slice x51.base x51.len x51.cap]⟩, .int .i64 (IntKind.i64.wrap (levels_22 - 1)), .pointer left_23] (.one (.agg [.str, (.int .i64), .bool, .str, .slc])) (fun (x52 : ByteArray) (x53 : Int) (x54 : Bool) (x55 : ByteArray) (x56 : Sl) =>
                      alW (.cells ⟨[.string x52, .int .i64 x53, .bool x54, .string x55, .slice x56.base x56.len x56.cap]⟩ 24 (0, 0)) (fun (b57 : Nat) =>
                      biW Tryz.prog .append #[22, 22] 22 [false, false] [.slice kids_26.base kids_26.len kids_26.cap, .slice (some ⟨b57, 0, none⟩) 1 1] kL (fun (x58 : Sl) =>
                      R14 levels_22 left_23 n_24 x25 x58 (IntKind.i64.wrap (i_27 + 1)))))))))))))))
               (ptrW n_24 (fun (b59 o60 : Nat) =>
                 stW Tryz.prog 22 (.pointer (some ⟨b59, o60 + 4, none⟩)) (.slice kids_26.base kids_26.len kids_26.cap) (ptrW n_24 (fun (b61 o62 : Nat) =>
                   rdT (rdA 5 b61 o62) (.one (.agg [.str, (.int .i64), .bool, .str, .slc])) (fun (x63 : ByteArray) (x64 : Int) (x65 : Bool) (x66 : ByteArray) (x67 : Sl) =>
                    stW Tryz.prog 24 (.pointer x25) (.agg ⟨[.string x63, .int .i64 x64, .bool x65, .string x66, .slice x67.base x67.len x67.cap]⟩) (ptrW x25 (fun (b68 o69 : Nat) =>
                      rdT (rdA 5 b68 o69) (.one (.agg [.str, (.int .i64), .bool, .str, .slc])) (fun (r70 : ByteArray) (r71 : Int) (r72 : Bool) (r73 : ByteArray) (r74 : Sl) =>
                      K (.agg ⟨[.string r70, .int .i64 r71, .bool r72, .string r73, .slice r74.base r74.len r74.cap]⟩)))))))))) (fun j21 =>
               ptrW n_17 (fun (b75 o76 : Nat) =>
                rdT (rdC b75 (o76 + 4)) kL (fun (x77 : Sl) =>
                 brW (decide ((i_20 : Int) < ((x77.len : Nat) : Int)))
                 (brW (decide ((i_20 : Int) < 6))
                  (brW (decide ((levels_15 : Int) > 0))
                   (ptrW left_16 (fun (b78 o79 : Nat) =>
                     rdT (rdC b78 o79) kI (fun (x80 : Int) =>
                      j21 levels_15 left_16 n_17 x18 kids_19 i_20 (.int .i64 i_20) (.bool (decide ((i_20 : Int) < 6))) (.int .i64 levels_15) (.bool (decide ((levels_15 : Int) > 0))) (.pointer left_16) (.pointer (some ⟨b78, o79, none⟩)) (.int .i64 x80) (.bool (decide ((x80 : Int) > 0))) (decide ((x80 : Int) > 0)))))
                   (j21 levels_15 left_16 n_17 x18 kids_19 i_20 (.int .i64 i_20) (.bool (decide ((i_20 : Int) < 6))) (.int .i64 levels_15) (.bool (decide ((levels_15 : Int) > 0))) (.tuple ⟨[]⟩) (.tuple ⟨[]⟩) (.tuple ⟨[]⟩) (.tuple ⟨[]⟩) false))
                  (j21 levels_15 left_16 n_17 x18 kids_19 i_20 (.int .i64 i_20) (.bool (decide ((i_20 : Int) < 6))) (.tuple ⟨[]⟩) (.tuple ⟨[]⟩) (.tuple ⟨[]⟩) (.tuple ⟨[]⟩) (.tuple ⟨[]⟩) (.tuple ⟨[]⟩) false))
                 (j21 levels_15 left_16 n_17 x18 kids_19 i_20 (.tuple ⟨[]⟩) (.tuple ⟨[]⟩) (.tuple ⟨[]⟩) (.tuple ⟨[]⟩) (.tuple ⟨[]⟩) (.tuple ⟨[]⟩) (.tuple ⟨[]⟩) (.tuple ⟨[]⟩) false)))))) (fun (R81 : Int → Option Addr → Option Addr → Option Addr → Sl → Int → H → Prop) => R81 levels_6 left_7 (some ⟨b8, 0, none⟩) (some ⟨b9, 0, none⟩) ⟨none, 0, 0⟩ 0)))))))))))
theorem e14 (n_1 : ByteArray) (n_2 : Int) (n_3 : Bool) (n_4 : ByteArray) (n_5 : Sl) (levels_6 : Int) (left_7 : Option Addr) (K : Value → H → Prop) : bodyF Tryz.prog tau Tryz.f14 an14 [.agg ⟨[.string n_1, .int .i64 n_2, .bool n_3, .string n_4, .slice n_5.base n_5.len n_5.cap]⟩, .int .i64 levels_6, .pointer left_7] K = g14 n_1 n_2 n_3 n_4 n_5 levels_6 left_7 K := by kernel_rfl
theorem c14 (n_1 : ByteArray) (n_2 : Int) (n_3 : Bool) (n_4 : ByteArray) (n_5 : Sl) (levels_6 : Int) (left_7 : Option Addr) {K : Value → H → Prop} {σ : H} (h : g14 n_1 n_2 n_3 n_4 n_5 levels_6 left_7 K σ) : callW Tryz.prog 14 [.agg ⟨[.string n_1, .int .i64 n_2, .bool n_3, .string n_4, .slice n_5.base n_5.len n_5.cap]⟩, .int .i64 levels_6, .pointer left_7] K σ := call_of_body mixed Tryz.func14 (by rw [e14]; exact h)


/-- whisk/fs.New -/
def an15 : Ann := (.seq none (.reg [] []) (.seq none (.reg [] []) (.seq none (.seq none (.reg [] []) (.cond (.seq none (.reg [] []) .leaf) .leaf)) (.seq none (.reg [] []) .leaf))))
def g15 (q_1 : Int) (q_2 : Int) (K : Value → H → Prop) : H → Prop :=
  alW (.cells ⟨[.int .i64 q_1, .int .i64 q_2]⟩ 31 (0, 0)) (fun (b3 : Nat) =>
   rdT (rdA 2 b3 0) (.one (.agg [(.int .i64), (.int .i64)])) (fun (x4 : Int) (x5 : Int) =>
    callT Tryz.prog 49 [.agg ⟨[.int .i64 x4, .int .i64 x5]⟩] kP (fun (x6 : Option Addr) =>
     brW x6.isNone
     (K (.pointer none))
     (alW (.cells ⟨[.pointer x6]⟩ 83 (0, 0)) (fun (b7 : Nat) =>
       K (.pointer (some ⟨b7, 0, none⟩)))))))
theorem e15 (q_1 : Int) (q_2 : Int) (K : Value → H → Prop) : bodyF Tryz.prog tau Tryz.f15 an15 [.agg ⟨[.int .i64 q_1, .int .i64 q_2]⟩] K = g15 q_1 q_2 K := by kernel_rfl
theorem c15 (q_1 : Int) (q_2 : Int) {K : Value → H → Prop} {σ : H} (h : g15 q_1 q_2 K σ) : callW Tryz.prog 15 [.agg ⟨[.int .i64 q_1, .int .i64 q_2]⟩] K σ := call_of_body mixed Tryz.func15 (by rw [e15]; exact h)


/-- (*whisk/fs.Fs).Mkdir -/
def an16 : Ann := (.seq none (.reg [] []) (.seq none (.reg [] []) .leaf))
def g16 (f_1 : Option Addr) (cwd_2 : ByteArray) (path_3 : ByteArray) (K : Value → H → Prop) : H → Prop :=
  alW (.cells ⟨[.pointer f_1]⟩ 28 (0, 0)) (fun (b4 : Nat) =>
   rdT (rdC b4 0) kP (fun (x5 : Option Addr) =>
    callT Tryz.prog 50 [.pointer x5, .string cwd_2, .string path_3, .func (.func 51) ⟨[]⟩ ⟨[.pointer (some ⟨b4, 0, none⟩)]⟩] kI (fun (x6 : Int) =>
     K (.int .i64 x6))))
theorem e16 (f_1 : Option Addr) (cwd_2 : ByteArray) (path_3 : ByteArray) (K : Value → H → Prop) : bodyF Tryz.prog tau Tryz.f16 an16 [.pointer f_1, .string cwd_2, .string path_3] K = g16 f_1 cwd_2 path_3 K := by kernel_rfl
theorem c16 (f_1 : Option Addr) (cwd_2 : ByteArray) (path_3 : ByteArray) {K : Value → H → Prop} {σ : H} (h : g16 f_1 cwd_2 path_3 K σ) : callW Tryz.prog 16 [.pointer f_1, .string cwd_2, .string path_3] K σ := call_of_body mixed Tryz.func16 (by rw [e16]; exact h)


/-- (*whisk/fs.Fs).Lay -/
def an17 : Ann := (.seq none (.reg [] []) (.seq none (.seq none (.reg [] []) (.cond (.seq none (.reg [] []) .leaf) .leaf)) (.seq none (.seq none (.reg [] []) (.seq none (.reg [] []) (.cond (.seq none (.reg [] []) .leaf) .leaf))) (.seq none (.reg [] []) .leaf))))
def g17 (f_1 : Option Addr) (path_2 : ByteArray) (n_3 : ByteArray) (n_4 : Int) (n_5 : Bool) (n_6 : ByteArray) (n_7 : Sl) (K : Value → H → Prop) : H → Prop :=
  alW (.cells ⟨[.pointer f_1]⟩ 28 (0, 0)) (fun (b8 : Nat) =>
   alW (.cells ⟨[.string n_3, .int .i64 n_4, .bool n_5, .string n_6, .slice n_7.base n_7.len n_7.cap]⟩ 24 (0, 0)) (fun (b9 : Nat) =>
    rdT (rdC b8 0) kP (fun (x10 : Option Addr) =>
     callT Tryz.prog 54 [.pointer x10] kB (fun (x11 : Bool) =>
      brW x11
      (K (.int .i64 1))
      (rdT (rdA 5 b9 0) (.one (.agg [.str, (.int .i64), .bool, .str, .slc])) (fun (x12 : ByteArray) (x13 : Int) (x14 : Bool) (x15 : ByteArray) (x16 : Sl) =>
        callT Tryz.prog 55 [.agg ⟨[.string x12, .int .i64 x13, .bool x14, .string x15, .slice x16.base x16.len x16.cap]⟩] kI (fun (x17 : Int) =>
         brW ((x17 : Int) != 0)
         (K (.int .i64 x17))
         (rdT (rdC b8 0) kP (fun (x18 : Option Addr) =>
           callT Tryz.prog 50 [.pointer x18, .string (⟨⟨[47]⟩⟩ : ByteArray), .string path_2, .func (.func 56) ⟨[]⟩ ⟨[.pointer (some ⟨b9, 0, none⟩), .pointer (some ⟨b8, 0, none⟩)]⟩] kI (fun (x19 : Int) =>
            K (.int .i64 x19)))))))))))
theorem e17 (f_1 : Option Addr) (path_2 : ByteArray) (n_3 : ByteArray) (n_4 : Int) (n_5 : Bool) (n_6 : ByteArray) (n_7 : Sl) (K : Value → H → Prop) : bodyF Tryz.prog tau Tryz.f17 an17 [.pointer f_1, .string path_2, .agg ⟨[.string n_3, .int .i64 n_4, .bool n_5, .string n_6, .slice n_7.base n_7.len n_7.cap]⟩] K = g17 f_1 path_2 n_3 n_4 n_5 n_6 n_7 K := by kernel_rfl
theorem c17 (f_1 : Option Addr) (path_2 : ByteArray) (n_3 : ByteArray) (n_4 : Int) (n_5 : Bool) (n_6 : ByteArray) (n_7 : Sl) {K : Value → H → Prop} {σ : H} (h : g17 f_1 path_2 n_3 n_4 n_5 n_6 n_7 K σ) : callW Tryz.prog 17 [.pointer f_1, .string path_2, .agg ⟨[.string n_3, .int .i64 n_4, .bool n_5, .string n_6, .slice n_7.base n_7.len n_7.cap]⟩] K σ := call_of_body mixed Tryz.func17 (by rw [e17]; exact h)


/-- (*whisk/fs.Fs).Used -/
def an18 : Ann := (.seq none (.reg [] []) (.seq none (.seq none (.reg [] []) (.cond (.seq none (.reg [] []) .leaf) .leaf)) (.seq none (.reg [] []) .leaf)))
def g18 (f_1 : Option Addr) (K : Value → H → Prop) : H → Prop :=
  alW (.cells ⟨[.int .i64 0, .int .i64 0]⟩ 31 (0, 0)) (fun (b2 : Nat) =>
   callT Tryz.prog 54 [.pointer f_1] kB (fun (x3 : Bool) =>
    brW x3
    (stW Tryz.prog 31 (.pointer (some ⟨b2, 0, none⟩)) (.agg ⟨[.int .i64 0, .int .i64 0]⟩) (rdT (rdA 2 b2 0) (.one (.agg [(.int .i64), (.int .i64)])) (fun (r4 : Int) (r5 : Int) =>
       K (.agg ⟨[.int .i64 r4, .int .i64 r5]⟩))))
    (ptrW f_1 (fun (b6 o7 : Nat) =>
      rdT (rdC b6 o7) kP (fun (x8 : Option Addr) =>
       callT Tryz.prog 61 [.pointer x8] (.one (.agg [(.int .i64), (.int .i64)])) (fun (x9 : Int) (x10 : Int) =>
        stW Tryz.prog 31 (.pointer (some ⟨b2, 0, none⟩)) (.agg ⟨[.int .i64 x9, .int .i64 x10]⟩) (rdT (rdA 2 b2 0) (.one (.agg [(.int .i64), (.int .i64)])) (fun (r11 : Int) (r12 : Int) =>
          K (.agg ⟨[.int .i64 r11, .int .i64 r12]⟩)))))))))
theorem e18 (f_1 : Option Addr) (K : Value → H → Prop) : bodyF Tryz.prog tau Tryz.f18 an18 [.pointer f_1] K = g18 f_1 K := by kernel_rfl
theorem c18 (f_1 : Option Addr) {K : Value → H → Prop} {σ : H} (h : g18 f_1 K σ) : callW Tryz.prog 18 [.pointer f_1] K σ := call_of_body mixed Tryz.func18 (by rw [e18]; exact h)


/-- whisk/whisklaw08.laid -/
def an19 : Ann := (.seq none (.reg [] []) (.seq none (.reg [] []) (.seq none (.seq none (.reg [] []) (.cond (.seq none (.reg [] []) .leaf) .leaf)) (.seq none (.seq (some [(0, .sc .ptr), (1, .sc .str), (5, .sc .ptr), (57, .sc .bool)]) (.reg [] []) (.cond (.seq none (.reg [] []) .leaf) .leaf)) (.seq none (.seq none (.reg [] []) (.blk (.loop [(0, .sc .ptr), (1, .sc .str), (5, .sc .ptr), (9, .sc (.int .i64))] (.seq none (.seq none (.reg [] []) (.cond .leaf .leaf)) (.seq none (.blk (.seq none (.reg [0, 1, 2, 3, 4, 5, 6, 7, 8, 9, 10, 11, 12, 13, 14, 15, 16] [[], [], [1], [], [3], [], [3, 4, 5], [3, 4, 5, 6], [3, 4, 5, 6, 7], [1, 2, 3, 4, 5, 6, 7, 8], [], [10], [], [10, 11, 12], [10, 11, 12, 13], [0, 1, 2, 3, 4, 5, 6, 7, 8, 9, 10, 11, 12, 13, 14], [0, 1, 2, 3, 4, 5, 6, 7, 8, 9, 10, 11, 12, 13, 14, 15]]) (.cond (.seq none (.reg [] []) .leaf) .leaf))) (.reg [] [])))))) (.seq none (.reg [] []) .leaf))))))
def g19 (f_1 : Option Addr) (path_2 : ByteArray) (n_3 : ByteArray) (n_4 : Int) (n_5 : Bool) (n_6 : ByteArray) (n_7 : Sl) (K : Value → H → Prop) : H → Prop :=
  alW (.cells ⟨[.string n_3, .int .i64 n_4, .bool n_5, .string n_6, .slice n_7.base n_7.len n_7.cap]⟩ 24 (0, 0)) (fun (b8 : Nat) =>
   callT Tryz.prog 32 [.pointer f_1, .string (⟨⟨[47]⟩⟩ : ByteArray), .string path_2, .bool false] (.tup [.agg [(.int .i64), (.int .i64), .str, (.int .i64)], .sc (.int .i64)]) (fun (x9 : Int) (x10 : Int) (x11 : ByteArray) (x12 : Int) (x13 : Int) =>
    alW (.cells ⟨[.int .i64 0, .int .i64 0, .string (⟨⟨[]⟩⟩ : ByteArray), .int .i64 0]⟩ 54 (0, 0)) (fun (b14 : Nat) =>
     stW Tryz.prog 54 (.pointer (some ⟨b14, 0, none⟩)) (.agg ⟨[.int .i64 x9, .int .i64 x10, .string x11, .int .i64 x12]⟩) (brW ((x13 : Int) == 3)
      (K (.bool true))
      (letJ (T := Option Addr → ByteArray → Option Addr → Bool → H → Prop) (fun (f_16 : Option Addr) (path_17 : ByteArray) (n_18 : Option Addr) (x19 : Bool) =>
        brW x19
        (K (.bool false))
        (loopW [.sc .ptr, .sc .str, .sc .ptr, .sc (.int .i64)] (fun (R20 : Option Addr → ByteArray → Option Addr → Int → H → Prop) => (fun (f_21 : Option Addr) (path_22 : ByteArray) (n_23 : Option Addr) (i_24 : Int) =>
           ptrW n_23 (fun (b25 o26 : Nat) =>
            rdT (rdC b25 (o26 + 4)) kL (fun (x27 : Sl) =>
             brW (decide ((i_24 : Int) < ((x27.len : Nat) : Int)))
             (ifW (path_22.size + (⟨⟨[47]⟩⟩ : ByteArray).size ≤ 9223372036854775807)
              (ptrW n_23 (fun (b28 o29 : Nat) =>
                rdT (rdC b28 (o29 + 4)) kL (fun (x30 : Sl) =>
                 ptrW x30.base (fun (b31 o32 : Nat) =>
                  ifW (0 ≤ i_24 ∧ i_24 < ((x30.len : Nat) : Int))
                  (rdT (rdC b31 (o32 + i_24.toNat * 5)) kS (fun (x33 : ByteArray) =>
                    ifW ((path_22 ++ (⟨⟨[47]⟩⟩ : ByteArray)).size + x33.size ≤ 9223372036854775807)
                    (ptrW n_23 (fun (b34 o35 : Nat) =>
                      rdT (rdC b34 (o35 + 4)) kL (fun (x36 : Sl) =>
                      ptrW x36.base (fun (b37 o38 : Nat) =>
                      ifW (0 ≤ i_24 ∧ i_24 < ((x36.len : Nat) : Int))
                      (rdT (rdA 5 b37 (o38 + i_24.toNat * 5)) (.one (.agg [.str, (.int .i64), .bool, .str, .slc])) (fun (x39 : ByteArray) (x40 : Int) (x41 : Bool) (x42 : ByteArray) (x43 : Sl) =>
                      callT Tryz.prog 19 [.pointer f_21, .string ((path_22 ++ (⟨⟨[47]⟩⟩ : ByteArray)) ++ x33), .agg ⟨[.string x39, .int .i64 x40, .bool x41, .string x42, .slice x43.base x43.len x43.cap]⟩] kB (fun (x44 : Bool) =>
                      brW (!x44)
                      (K (.bool false))
                      (R20 f_21 path_22 n_23 (IntKind.i64.wrap (i_24 + 1)))))))))))))))))
             (K (.bool true)))))) (fun (R45 : Option Addr → ByteArray → Option Addr → Int → H → Prop) => R45 f_16 path_17 n_18 0))) (fun j15 =>
        brW ((x13 : Int) != 0)
        (j15 f_1 path_2 (some ⟨b8, 0, none⟩) true)
        (rdT (rdC b14 0) kI (fun (x46 : Int) =>
          rdT (rdC b8 1) kI (fun (x47 : Int) =>
           brW ((x46 : Int) != x47)
           (j15 f_1 path_2 (some ⟨b8, 0, none⟩) true)
           (rdT (rdC b8 1) kI (fun (x48 : Int) =>
             brW ((x48 : Int) != 2)
             (rdT (rdC b14 2) kS (fun (x49 : ByteArray) =>
               rdT (rdC b8 3) kS (fun (x50 : ByteArray) =>
                brW (!strEq x49 x50)
                (j15 f_1 path_2 (some ⟨b8, 0, none⟩) true)
                (rdT (rdC b14 3) kI (fun (x51 : Int) =>
                  brW ((x51 : Int) != 1)
                  (j15 f_1 path_2 (some ⟨b8, 0, none⟩) true)
                  (rdT (rdC b8 1) kI (fun (x52 : Int) =>
                    brW ((x52 : Int) == 1)
                    (rdT (rdC b14 1) kI (fun (x53 : Int) =>
                      rdT (rdC b8 2) kB (fun (x54 : Bool) =>
                      j15 f_1 path_2 (some ⟨b8, 0, none⟩) (!((((bitV .and .i64 x53 73) : Int) != 0) == x54)))))
                    (j15 f_1 path_2 (some ⟨b8, 0, none⟩) false))))))))
             (rdT (rdC b14 3) kI (fun (x55 : Int) =>
               brW ((x55 : Int) != 1)
               (j15 f_1 path_2 (some ⟨b8, 0, none⟩) true)
               (rdT (rdC b8 1) kI (fun (x56 : Int) =>
                 brW ((x56 : Int) == 1)
                 (rdT (rdC b14 1) kI (fun (x57 : Int) =>
                   rdT (rdC b8 2) kB (fun (x58 : Bool) =>
                    j15 f_1 path_2 (some ⟨b8, 0, none⟩) (!((((bitV .and .i64 x57 73) : Int) != 0) == x58)))))
                 (j15 f_1 path_2 (some ⟨b8, 0, none⟩) false))))))))))))))))
theorem e19 (f_1 : Option Addr) (path_2 : ByteArray) (n_3 : ByteArray) (n_4 : Int) (n_5 : Bool) (n_6 : ByteArray) (n_7 : Sl) (K : Value → H → Prop) : bodyF Tryz.prog tau Tryz.f19 an19 [.pointer f_1, .string path_2, .agg ⟨[.string n_3, .int .i64 n_4, .bool n_5, .string n_6, .slice n_7.base n_7.len n_7.cap]⟩] K = g19 f_1 path_2 n_3 n_4 n_5 n_6 n_7 K := by kernel_rfl
theorem c19 (f_1 : Option Addr) (path_2 : ByteArray) (n_3 : ByteArray) (n_4 : Int) (n_5 : Bool) (n_6 : ByteArray) (n_7 : Sl) {K : Value → H → Prop} {σ : H} (h : g19 f_1 path_2 n_3 n_4 n_5 n_6 n_7 K σ) : callW Tryz.prog 19 [.pointer f_1, .string path_2, .agg ⟨[.string n_3, .int .i64 n_4, .bool n_5, .string n_6, .slice n_7.base n_7.len n_7.cap]⟩] K σ := call_of_body mixed Tryz.func19 (by rw [e19]; exact h)


/-- whisk/whisklaw08.text -/
def an20 : Ann := (.seq none (.reg [] []) (.seq none (.reg [] []) .leaf))
def g20 (s_1 : ByteArray) (K : Value → H → Prop) : H → Prop :=
  ifW (bndOk (some (if 300 < ((s_1.size : Nat) : Int) then 300 else ((s_1.size : Nat) : Int))) s_1.size ∧ bndOk none ((if 300 < ((s_1.size : Nat) : Int) then 300 else ((s_1.size : Nat) : Int)).toNat))
  (K (.string (s_1.extract 0 ((if 300 < ((s_1.size : Nat) : Int) then 300 else ((s_1.size : Nat) : Int)).toNat))))
theorem e20 (s_1 : ByteArray) (K : Value → H → Prop) : bodyF Tryz.prog tau Tryz.f20 an20 [.string s_1] K = g20 s_1 K := by kernel_rfl
theorem c20 (s_1 : ByteArray) {K : Value → H → Prop} {σ : H} (h : g20 s_1 K σ) : callW Tryz.prog 20 [.string s_1] K σ := call_of_body mixed Tryz.func20 (by rw [e20]; exact h)


/-- (*whisk/fs.Fs).Write -/
def an21 : Ann := (.seq none (.reg [] []) (.seq none (.reg [] []) (.seq none (.seq none (.reg [] []) (.cond (.seq none (.reg [] []) .leaf) .leaf)) (.seq none (.seq none (.reg [] []) (.cond (.seq none (.reg [0, 1, 2, 3, 4, 5, 6, 7, 8, 9, 10, 11, 12, 13, 14] [[], [0], [0, 1], [0, 1, 2], [], [4], [], [6], [], [0, 1, 2, 3, 4, 5, 6, 7, 8], [0, 1, 2, 3, 4, 5, 6, 7, 8, 9], [0, 1, 2, 3, 4, 5, 6, 7, 8, 9, 10], [0, 1, 2, 3, 4, 5, 6, 7, 8, 9, 10], [0, 1, 2, 3, 4, 5, 6, 7, 8, 9, 10, 11], [0, 1, 2, 3, 4, 5, 6, 7, 8, 9, 10, 11, 12, 13]]) (.seq none (.reg [] []) .leaf)) .leaf)) (.seq none (.reg [0, 1, 2, 3, 4, 5, 6, 7, 8, 9, 10, 11, 12] [[], [0], [0, 1], [0, 1, 2], [], [4], [0, 1, 2, 3, 4, 5], [0, 1, 2, 3, 4, 5, 6], [0, 1, 2, 3, 4, 5, 6, 7], [0, 1, 2, 3, 4, 5, 6, 7], [], [0, 1, 2, 3, 4, 5, 6, 7, 8, 10], [0, 1, 2, 3, 4, 5, 6, 7, 8, 9, 10, 11]]) (.seq none (.seq none (.reg [] []) (.cond (.seq none (.reg [] []) .leaf) .leaf)) (.seq (some [(0, .sc .ptr), (3, .sc .str), (11, .sc .ptr)]) (.seq none (.reg [] []) (.cond (.reg [] []) .leaf)) (.seq none (.reg [0, 1, 2, 3, 4, 5, 6, 7, 8] [[], [0], [0, 1], [0, 1, 2], [], [4], [], [0, 1, 2, 3, 4, 5, 6], [0, 1, 2, 3, 4, 5, 6, 7]]) .leaf))))))))
def g21 (f_1 : Option Addr) (cwd_2 : ByteArray) (path_3 : ByteArray) (data_4 : ByteArray) (more_5 : Bool) (K : Value → H → Prop) : H → Prop :=
  callT Tryz.prog 62 [.pointer f_1, .string cwd_2, .string path_3, .bool true] (.tup [.agg [(.int .i64), .str, (.int .i64), .bool], .sc (.int .i64)]) (fun (x6 : Int) (x7 : ByteArray) (x8 : Int) (x9 : Bool) (x10 : Int) =>
   alW (.cells ⟨[.int .i64 0, .string (⟨⟨[]⟩⟩ : ByteArray), .int .i64 0, .bool false]⟩ 86 (0, 0)) (fun (b11 : Nat) =>
    stW Tryz.prog 86 (.pointer (some ⟨b11, 0, none⟩)) (.agg ⟨[.int .i64 x6, .string x7, .int .i64 x8, .bool x9]⟩) (brW ((x10 : Int) != 0)
     (K (.int .i64 x10))
     (rdT (rdC b11 3) kB (fun (x12 : Bool) =>
       brW (!x12)
       (ptrW f_1 (fun (b13 o14 : Nat) =>
         rdT (rdC b13 o14) kP (fun (x15 : Option Addr) =>
          rdT (rdC b11 0) kI (fun (x16 : Int) =>
           rdT (rdC b11 1) kS (fun (x17 : ByteArray) =>
            callT Tryz.prog 53 [.pointer x15, .int .i64 x16, .string x17, .int .i64 1, .int .i64 420, .string data_4] (.tup [.sc (.int .i64), .sc (.int .i64)]) (fun (_x18 : Int) (x19 : Int) =>
             K (.int .i64 x19)))))))
       (ptrW f_1 (fun (b20 o21 : Nat) =>
         rdT (rdC b20 o21) kP (fun (x22 : Option Addr) =>
          rdT (rdC b11 2) kI (fun (x23 : Int) =>
           callT Tryz.prog 63 [.pointer x22, .int .i64 x23] (.tup [.agg [(.int .i64), (.int .i64), .str, (.int .i64)], .sc .bool]) (fun (x24 : Int) (x25 : Int) (x26 : ByteArray) (x27 : Int) (_x28 : Bool) =>
            alW (.cells ⟨[.int .i64 0, .int .i64 0, .string (⟨⟨[]⟩⟩ : ByteArray), .int .i64 0]⟩ 54 (0, 0)) (fun (b29 : Nat) =>
             stW Tryz.prog 54 (.pointer (some ⟨b29, 0, none⟩)) (.agg ⟨[.int .i64 x24, .int .i64 x25, .string x26, .int .i64 x27]⟩) (rdT (rdC b29 0) kI (fun (x30 : Int) =>
               brW ((x30 : Int) == 2)
               (K (.int .i64 7))
               (letJ (T := Option Addr → ByteArray → Option Addr → H → Prop) (fun (f_32 : Option Addr) (data_33 : ByteArray) (p_34 : Option Addr) =>
                 ptrW f_32 (fun (b35 o36 : Nat) =>
                  rdT (rdC b35 o36) kP (fun (x37 : Option Addr) =>
                   ptrW p_34 (fun (b38 o39 : Nat) =>
                    rdT (rdC b38 (o39 + 2)) kI (fun (x40 : Int) =>
                     callT Tryz.prog 64 [.pointer x37, .int .i64 x40, .string data_33] kI (fun (x41 : Int) =>
                      K (.int .i64 x41))))))) (fun j31 =>
                 brW more_5
                 (rdT (rdC b29 2) kS (fun (x42 : ByteArray) =>
                   ifW (x42.size + data_4.size ≤ 9223372036854775807)
                   (j31 f_1 (x42 ++ data_4) (some ⟨b11, 0, none⟩))))
                 (j31 f_1 data_4 (some ⟨b11, 0, none⟩)))))))))))))))))
theorem e21 (f_1 : Option Addr) (cwd_2 : ByteArray) (path_3 : ByteArray) (data_4 : ByteArray) (more_5 : Bool) (K : Value → H → Prop) : bodyF Tryz.prog tau Tryz.f21 an21 [.pointer f_1, .string cwd_2, .string path_3, .string data_4, .bool more_5] K = g21 f_1 cwd_2 path_3 data_4 more_5 K := by kernel_rfl
theorem c21 (f_1 : Option Addr) (cwd_2 : ByteArray) (path_3 : ByteArray) (data_4 : ByteArray) (more_5 : Bool) {K : Value → H → Prop} {σ : H} (h : g21 f_1 cwd_2 path_3 data_4 more_5 K σ) : callW Tryz.prog 21 [.pointer f_1, .string cwd_2, .string path_3, .string data_4, .bool more_5] K σ := call_of_body mixed Tryz.func21 (by rw [e21]; exact h)


/-- (*whisk/fs.Fs).Symlink -/
def an22 : Ann := (.seq none (.reg [] []) (.seq none (.seq none (.reg [] []) (.cond (.seq none (.reg [] []) .leaf) .leaf)) (.seq none (.seq (some [(1, .sc .str), (3, .sc .str), (4, .sc .ptr), (6, .sc .ptr), (22, .sc .bool)]) (.reg [] []) (.cond (.seq none (.reg [] []) .leaf) .leaf)) (.seq none (.reg [] []) .leaf))))
def g22 (f_1 : Option Addr) (cwd_2 : ByteArray) (target_3 : ByteArray) (path_4 : ByteArray) (K : Value → H → Prop) : H → Prop :=
  alW (.cells ⟨[.pointer f_1]⟩ 28 (0, 0)) (fun (b5 : Nat) =>
   alW (.cells ⟨[.string target_3]⟩ 9 (0, 0)) (fun (b6 : Nat) =>
    rdT (rdC b5 0) kP (fun (x7 : Option Addr) =>
     callT Tryz.prog 54 [.pointer x7] kB (fun (x8 : Bool) =>
      brW x8
      (K (.int .i64 1))
      (letJ (T := ByteArray → ByteArray → Option Addr → Option Addr → Bool → H → Prop) (fun (cwd_10 : ByteArray) (path_11 : ByteArray) (f_12 : Option Addr) (target_13 : Option Addr) (x14 : Bool) =>
        brW x14
        (K (.int .i64 2))
        (ptrW f_12 (fun (b15 o16 : Nat) =>
          rdT (rdC b15 o16) kP (fun (x17 : Option Addr) =>
           callT Tryz.prog 50 [.pointer x17, .string cwd_10, .string path_11, .func (.func 66) ⟨[]⟩ ⟨[.pointer f_12, .pointer target_13]⟩] kI (fun (x18 : Int) =>
            K (.int .i64 x18)))))) (fun j9 =>
        rdT (rdC b6 0) kS (fun (x19 : ByteArray) =>
         brW (strEq x19 (⟨⟨[]⟩⟩ : ByteArray))
         (j9 cwd_2 path_4 (some ⟨b5, 0, none⟩) (some ⟨b6, 0, none⟩) true)
         (rdT (rdC b6 0) kS (fun (x20 : ByteArray) =>
           brW (decide ((((x20.size : Nat) : Int) : Int) > 255))
           (j9 cwd_2 path_4 (some ⟨b5, 0, none⟩) (some ⟨b6, 0, none⟩) true)
           (rdT (rdC b6 0) kS (fun (x21 : ByteArray) =>
             callT Tryz.prog 65 [.string x21, .int .u8 0] kI (fun (x22 : Int) =>
              j9 cwd_2 path_4 (some ⟨b5, 0, none⟩) (some ⟨b6, 0, none⟩) (decide ((x22 : Int) ≥ 0))))))))))))))
theorem e22 (f_1 : Option Addr) (cwd_2 : ByteArray) (target_3 : ByteArray) (path_4 : ByteArray) (K : Value → H → Prop) : bodyF Tryz.prog tau Tryz.f22 an22 [.pointer f_1, .string cwd_2, .string target_3, .string path_4] K = g22 f_1 cwd_2 target_3 path_4 K := by kernel_rfl
theorem c22 (f_1 : Option Addr) (cwd_2 : ByteArray) (target_3 : ByteArray) (path_4 : ByteArray) {K : Value → H → Prop} {σ : H} (h : g22 f_1 cwd_2 target_3 path_4 K σ) : callW Tryz.prog 22 [.pointer f_1, .string cwd_2, .string target_3, .string path_4] K σ := call_of_body mixed Tryz.func22 (by rw [e22]; exact h)


/-- (*whisk/fs.Fs).Remove -/
def an23 : Ann := (.seq none (.reg [] []) (.seq none (.reg [] []) (.seq none (.blk (.seq none (.reg [] []) (.cond (.seq none (.reg [] []) .leaf) (.seq none (.reg [] []) (.cond (.seq none (.reg [] []) .leaf) (.seq none (.reg [] []) (.cond (.seq none (.reg [] []) .leaf) (.seq none (.reg [0, 1, 2, 3, 4, 5, 6, 7, 8, 9] [[], [0], [0, 1], [0, 1, 2], [], [4], [0, 1, 2, 3, 4, 5], [0, 1, 2, 3, 4, 5, 6], [0, 1, 2, 3, 4, 5, 6, 7], [0, 1, 2, 3, 4, 5, 6, 7, 8]]) (.cond (.seq none (.reg [] []) .leaf) .leaf))))))))) (.seq none (.reg [0, 1, 2, 3, 4, 5, 6, 7, 8, 9] [[], [0], [0, 1], [0, 1, 2], [], [4], [], [6], [0, 1, 2, 3, 4, 5, 6, 7], [0, 1, 2, 3, 4, 5, 6, 7, 8]]) .leaf))))
def g23 (f_1 : Option Addr) (cwd_2 : ByteArray) (path_3 : ByteArray) (K : Value → H → Prop) : H → Prop :=
  callT Tryz.prog 62 [.pointer f_1, .string cwd_2, .string path_3, .bool false] (.tup [.agg [(.int .i64), .str, (.int .i64), .bool], .sc (.int .i64)]) (fun (x4 : Int) (x5 : ByteArray) (x6 : Int) (x7 : Bool) (x8 : Int) =>
   alW (.cells ⟨[.int .i64 0, .string (⟨⟨[]⟩⟩ : ByteArray), .int .i64 0, .bool false]⟩ 86 (0, 0)) (fun (b9 : Nat) =>
    stW Tryz.prog 86 (.pointer (some ⟨b9, 0, none⟩)) (.agg ⟨[.int .i64 x4, .string x5, .int .i64 x6, .bool x7]⟩) (brW ((x8 : Int) != 0)
     (K (.int .i64 x8))
     (rdT (rdC b9 3) kB (fun (x10 : Bool) =>
       brW (!x10)
       (K (.int .i64 5))
       (rdT (rdC b9 1) kS (fun (x11 : ByteArray) =>
         brW (strEq x11 (⟨⟨[]⟩⟩ : ByteArray))
         (K (.int .i64 2))
         (ptrW f_1 (fun (b12 o13 : Nat) =>
           rdT (rdC b12 o13) kP (fun (x14 : Option Addr) =>
            rdT (rdC b9 2) kI (fun (x15 : Int) =>
             callT Tryz.prog 67 [.pointer x14, .int .i64 x15] kL (fun (x16 : Sl) =>
              brW (decide ((((x16.len : Nat) : Int) : Int) > 0))
              (K (.int .i64 20))
              (ptrW f_1 (fun (b17 o18 : Nat) =>
                rdT (rdC b17 o18) kP (fun (x19 : Option Addr) =>
                 rdT (rdC b9 0) kI (fun (x20 : Int) =>
                  rdT (rdC b9 1) kS (fun (x21 : ByteArray) =>
                   callT Tryz.prog 68 [.pointer x19, .int .i64 x20, .string x21] kI (fun (x22 : Int) =>
                    K (.int .i64 x22)))))))))))))))))))
theorem e23 (f_1 : Option Addr) (cwd_2 : ByteArray) (path_3 : ByteArray) (K : Value → H → Prop) : bodyF Tryz.prog tau Tryz.f23 an23 [.pointer f_1, .string cwd_2, .string path_3] K = g23 f_1 cwd_2 path_3 K := by kernel_rfl
theorem c23 (f_1 : Option Addr) (cwd_2 : ByteArray) (path_3 : ByteArray) {K : Value → H → Prop} {σ : H} (h : g23 f_1 cwd_2 path_3 K σ) : callW Tryz.prog 23 [.pointer f_1, .string cwd_2, .string path_3] K σ := call_of_body mixed Tryz.func23 (by rw [e23]; exact h)


/-- (*whisk/fs.Fs).Hard -/
def an25 : Ann := (.seq none (.reg [] []) (.seq none (.reg [] []) (.seq none (.blk (.seq none (.reg [] []) (.cond (.seq none (.reg [] []) .leaf) (.seq none (.reg [] []) (.cond (.seq none (.reg [] []) .leaf) (.seq none (.reg [] []) (.cond (.seq none (.reg [] []) .leaf) (.seq none (.reg [] []) (.cond (.seq none (.reg [] []) .leaf) (.seq none (.reg [] []) (.cond (.seq none (.reg [] []) .leaf) .leaf))))))))))) (.seq none (.reg [0, 1, 2, 3, 4, 5, 6, 7, 8, 9, 10, 11] [[], [0], [0, 1], [0, 1, 2], [], [4], [], [6], [], [8], [0, 1, 2, 3, 4, 5, 6, 7, 8, 9], [0, 1, 2, 3, 4, 5, 6, 7, 8, 9, 10]]) .leaf))))
def g25 (f_1 : Option Addr) (cwd_2 : ByteArray) (from_3 : ByteArray) (to_4 : ByteArray) (K : Value → H → Prop) : H → Prop :=
  callT Tryz.prog 69 [.pointer f_1, .string cwd_2, .string from_3, .string to_4] (.tup [.agg [(.int .i64), .str, (.int .i64), .bool], .agg [(.int .i64), .str, (.int .i64), .bool], .sc (.int .i64)]) (fun (x5 : Int) (x6 : ByteArray) (x7 : Int) (x8 : Bool) (x9 : Int) (x10 : ByteArray) (x11 : Int) (x12 : Bool) (x13 : Int) =>
   alW (.cells ⟨[.int .i64 0, .string (⟨⟨[]⟩⟩ : ByteArray), .int .i64 0, .bool false]⟩ 86 (0, 0)) (fun (b14 : Nat) =>
    alW (.cells ⟨[.int .i64 0, .string (⟨⟨[]⟩⟩ : ByteArray), .int .i64 0, .bool false]⟩ 86 (0, 0)) (fun (b15 : Nat) =>
     stW Tryz.prog 86 (.pointer (some ⟨b14, 0, none⟩)) (.agg ⟨[.int .i64 x5, .string x6, .int .i64 x7, .bool x8]⟩) (stW Tryz.prog 86 (.pointer (some ⟨b15, 0, none⟩)) (.agg ⟨[.int .i64 x9, .string x10, .int .i64 x11, .bool x12]⟩) (brW ((x13 : Int) != 0)
       (K (.int .i64 x13))
       (rdT (rdC b14 3) kB (fun (x16 : Bool) =>
         brW (!x16)
         (K (.int .i64 5))
         (rdT (rdC b14 2) kI (fun (x17 : Int) =>
           callT Tryz.prog 70 [.pointer f_1, .int .i64 x17] kI (fun (x18 : Int) =>
            brW ((x18 : Int) == 2)
            (K (.int .i64 7))
            (rdT (rdC b14 2) kI (fun (x19 : Int) =>
              callT Tryz.prog 70 [.pointer f_1, .int .i64 x19] kI (fun (x20 : Int) =>
               brW ((x20 : Int) == 3)
               (K (.int .i64 2))
               (rdT (rdC b15 3) kB (fun (x21 : Bool) =>
                 brW x21
                 (K (.int .i64 6))
                 (ptrW f_1 (fun (b22 o23 : Nat) =>
                   rdT (rdC b22 o23) kP (fun (x24 : Option Addr) =>
                    rdT (rdC b15 0) kI (fun (x25 : Int) =>
                     rdT (rdC b15 1) kS (fun (x26 : ByteArray) =>
                      rdT (rdC b14 2) kI (fun (x27 : Int) =>
                      callT Tryz.prog 71 [.pointer x24, .int .i64 x25, .string x26, .int .i64 x27] kI (fun (x28 : Int) =>
                      K (.int .i64 x28)))))))))))))))))))))))
theorem e25 (f_1 : Option Addr) (cwd_2 : ByteArray) (from_3 : ByteArray) (to_4 : ByteArray) (K : Value → H → Prop) : bodyF Tryz.prog tau Tryz.f25 an25 [.pointer f_1, .string cwd_2, .string from_3, .string to_4] K = g25 f_1 cwd_2 from_3 to_4 K := by kernel_rfl
theorem c25 (f_1 : Option Addr) (cwd_2 : ByteArray) (from_3 : ByteArray) (to_4 : ByteArray) {K : Value → H → Prop} {σ : H} (h : g25 f_1 cwd_2 from_3 to_4 K σ) : callW Tryz.prog 25 [.pointer f_1, .string cwd_2, .string from_3, .string to_4] K σ := call_of_body mixed Tryz.func25 (by rw [e25]; exact h)


/-- (*whisk/fs.Fs).Chmod -/
def an26 : Ann := (.seq none (.reg [] []) (.seq none (.seq none (.reg [] []) (.cond (.seq none (.reg [] []) .leaf) .leaf)) (.seq none (.seq (some [(1, .sc .str), (2, .sc .str), (4, .sc .ptr), (7, .sc .ptr), (16, .sc .bool)]) (.reg [] []) (.cond (.seq none (.reg [] []) .leaf) .leaf)) (.seq none (.reg [] []) .leaf))))
def g26 (f_1 : Option Addr) (cwd_2 : ByteArray) (path_3 : ByteArray) (mode_4 : Int) (K : Value → H → Prop) : H → Prop :=
  alW (.cells ⟨[.pointer f_1]⟩ 28 (0, 0)) (fun (b5 : Nat) =>
   alW (.cells ⟨[.int .i64 mode_4]⟩ 3 (0, 0)) (fun (b6 : Nat) =>
    rdT (rdC b5 0) kP (fun (x7 : Option Addr) =>
     callT Tryz.prog 54 [.pointer x7] kB (fun (x8 : Bool) =>
      brW x8
      (K (.int .i64 1))
      (letJ (T := ByteArray → ByteArray → Option Addr → Option Addr → Bool → H → Prop) (fun (cwd_10 : ByteArray) (path_11 : ByteArray) (f_12 : Option Addr) (mode_13 : Option Addr) (x14 : Bool) =>
        brW x14
        (K (.int .i64 2))
        (ptrW f_12 (fun (b15 o16 : Nat) =>
          rdT (rdC b15 o16) kP (fun (x17 : Option Addr) =>
           callT Tryz.prog 72 [.pointer x17, .string cwd_10, .string path_11, .bool true, .func (.func 73) ⟨[]⟩ ⟨[.pointer f_12, .pointer mode_13]⟩] kI (fun (x18 : Int) =>
            K (.int .i64 x18)))))) (fun j9 =>
        rdT (rdC b6 0) kI (fun (x19 : Int) =>
         brW (decide ((x19 : Int) < 0))
         (j9 cwd_2 path_3 (some ⟨b5, 0, none⟩) (some ⟨b6, 0, none⟩) true)
         (rdT (rdC b6 0) kI (fun (x20 : Int) =>
           j9 cwd_2 path_3 (some ⟨b5, 0, none⟩) (some ⟨b6, 0, none⟩) (decide ((x20 : Int) > 511)))))))))))
theorem e26 (f_1 : Option Addr) (cwd_2 : ByteArray) (path_3 : ByteArray) (mode_4 : Int) (K : Value → H → Prop) : bodyF Tryz.prog tau Tryz.f26 an26 [.pointer f_1, .string cwd_2, .string path_3, .int .i64 mode_4] K = g26 f_1 cwd_2 path_3 mode_4 K := by kernel_rfl
theorem c26 (f_1 : Option Addr) (cwd_2 : ByteArray) (path_3 : ByteArray) (mode_4 : Int) {K : Value → H → Prop} {σ : H} (h : g26 f_1 cwd_2 path_3 mode_4 K σ) : callW Tryz.prog 26 [.pointer f_1, .string cwd_2, .string path_3, .int .i64 mode_4] K σ := call_of_body mixed Tryz.func26 (by rw [e26]; exact h)


/-- (*whisk/fs.Fs).Stat -/
def an32 : Ann := (.seq none (.reg [] []) (.seq none (.reg [] []) (.seq none (.reg [] []) .leaf)))
def g32 (f_1 : Option Addr) (cwd_2 : ByteArray) (path_3 : ByteArray) (follow_4 : Bool) (K : Value → H → Prop) : H → Prop :=
  alW (.cells ⟨[.int .i64 0, .int .i64 0, .string (⟨⟨[]⟩⟩ : ByteArray), .int .i64 0]⟩ 54 (0, 0)) (fun (b5 : Nat) =>
   callT Tryz.prog 72 [.pointer f_1, .string cwd_2, .string path_3, .bool follow_4, .func (.func 79) ⟨[]⟩ ⟨[.pointer (some ⟨b5, 0, none⟩)]⟩] kI (fun (x6 : Int) =>
    rdT (rdA 4 b5 0) (.one (.agg [(.int .i64), (.int .i64), .str, (.int .i64)])) (fun (x7 : Int) (x8 : Int) (x9 : ByteArray) (x10 : Int) =>
     stW Tryz.prog 54 (.pointer (some ⟨b5, 0, none⟩)) (.agg ⟨[.int .i64 x7, .int .i64 x8, .string x9, .int .i64 x10]⟩) (rdT (rdA 4 b5 0) (.one (.agg [(.int .i64), (.int .i64), .str, (.int .i64)])) (fun (r11 : Int) (r12 : Int) (r13 : ByteArray) (r14 : Int) =>
       K (.tuple ⟨[.agg ⟨[.int .i64 r11, .int .i64 r12, .string r13, .int .i64 r14]⟩, .int .i64 x6]⟩))))))
theorem e32 (f_1 : Option Addr) (cwd_2 : ByteArray) (path_3 : ByteArray) (follow_4 : Bool) (K : Value → H → Prop) : bodyF Tryz.prog tau Tryz.f32 an32 [.pointer f_1, .string cwd_2, .string path_3, .bool follow_4] K = g32 f_1 cwd_2 path_3 follow_4 K := by kernel_rfl
theorem c32 (f_1 : Option Addr) (cwd_2 : ByteArray) (path_3 : ByteArray) (follow_4 : Bool) {K : Value → H → Prop} {σ : H} (h : g32 f_1 cwd_2 path_3 follow_4 K σ) : callW Tryz.prog 32 [.pointer f_1, .string cwd_2, .string path_3, .bool follow_4] K σ := call_of_body mixed Tryz.func32 (by rw [e32]; exact h)


/-- whisk/whisklaw08.small -/
def an43 : Ann := (.seq none (.reg [] []) (.seq none (.reg [] []) (.seq none (.seq (some [(1, .sc .ptr), (25, .sc .bool)]) (.reg [] []) (.cond (.seq none (.reg [] []) .leaf) .leaf)) (.seq none (.reg [] []) .leaf))))
def g43  (K : Value → H → Prop) : H → Prop :=
  callT Tryz.prog 97 [] (.one (.agg [(.int .i64), (.int .i64)])) (fun (x1 : Int) (x2 : Int) =>
   callT Tryz.prog 15 [.agg ⟨[.int .i64 x1, .int .i64 x2]⟩] kP (fun (x3 : Option Addr) =>
    letJ (T := Option Addr → Bool → H → Prop) (fun (f_5 : Option Addr) (x6 : Bool) =>
     brW x6
     (K (.pointer none))
     (K (.pointer f_5))) (fun j4 =>
     brW x3.isNone
     (j4 x3 true)
     (callT Tryz.prog 16 [.pointer x3, .string (⟨⟨[47]⟩⟩ : ByteArray), .string (⟨⟨[97]⟩⟩ : ByteArray)] kI (fun (x7 : Int) =>
       brW ((x7 : Int) != 0)
       (j4 x3 true)
       (callT Tryz.prog 21 [.pointer x3, .string (⟨⟨[47, 97]⟩⟩ : ByteArray), .string (⟨⟨[102]⟩⟩ : ByteArray), .string (⟨⟨[104, 105]⟩⟩ : ByteArray), .bool false] kI (fun (x8 : Int) =>
         brW ((x8 : Int) != 0)
         (j4 x3 true)
         (callT Tryz.prog 22 [.pointer x3, .string (⟨⟨[47]⟩⟩ : ByteArray), .string (⟨⟨[97, 47, 102]⟩⟩ : ByteArray), .string (⟨⟨[108]⟩⟩ : ByteArray)] kI (fun (x9 : Int) =>
           brW ((x9 : Int) != 0)
           (j4 x3 true)
           (callT Tryz.prog 22 [.pointer x3, .string (⟨⟨[47]⟩⟩ : ByteArray), .string (⟨⟨[109]⟩⟩ : ByteArray), .string (⟨⟨[109]⟩⟩ : ByteArray)] kI (fun (x10 : Int) =>
             j4 x3 ((x10 : Int) != 0))))))))))))
theorem e43  (K : Value → H → Prop) : bodyF Tryz.prog tau Tryz.f43 an43 [] K = g43  K := by kernel_rfl
theorem c43  {K : Value → H → Prop} {σ : H} (h : g43  K σ) : callW Tryz.prog 43 [] K σ := call_of_body mixed Tryz.func43 (by rw [e43]; exact h)


/-- whisk/whisklaw08.reads -/
def an44 : Ann := (.seq none (.reg [] []) (.seq none (.reg [] []) (.seq none (.reg [] []) .leaf)))
def g44 (f_1 : Option Addr) (cwd_2 : ByteArray) (path_3 : ByteArray) (want_4 : ByteArray) (e_5 : Int) (K : Value → H → Prop) : H → Prop :=
  callT Tryz.prog 47 [.pointer f_1, .string cwd_2, .string path_3] (.tup [.sc .str, .sc (.int .i64)]) (fun (x6 : ByteArray) (x7 : Int) =>
   brW (strEq x6 want_4)
   (K (.bool ((x7 : Int) == e_5)))
   (K (.bool false)))
theorem e44 (f_1 : Option Addr) (cwd_2 : ByteArray) (path_3 : ByteArray) (want_4 : ByteArray) (e_5 : Int) (K : Value → H → Prop) : bodyF Tryz.prog tau Tryz.f44 an44 [.pointer f_1, .string cwd_2, .string path_3, .string want_4, .int .i64 e_5] K = g44 f_1 cwd_2 path_3 want_4 e_5 K := by kernel_rfl
theorem c44 (f_1 : Option Addr) (cwd_2 : ByteArray) (path_3 : ByteArray) (want_4 : ByteArray) (e_5 : Int) {K : Value → H → Prop} {σ : H} (h : g44 f_1 cwd_2 path_3 want_4 e_5 K σ) : callW Tryz.prog 44 [.pointer f_1, .string cwd_2, .string path_3, .string want_4, .int .i64 e_5] K σ := call_of_body mixed Tryz.func44 (by rw [e44]; exact h)


/-- (*whisk/fs.Fs).List -/
def an45 : Ann := (.seq none (.reg [] []) (.seq none (.reg [] []) (.seq none (.reg [] []) .leaf)))
def g45 (f_1 : Option Addr) (cwd_2 : ByteArray) (path_3 : ByteArray) (K : Value → H → Prop) : H → Prop :=
  alW (.cells ⟨[.pointer f_1]⟩ 28 (0, 0)) (fun (b4 : Nat) =>
   alW (.cells ⟨[.slice none 0 0]⟩ 74 (0, 0)) (fun (b5 : Nat) =>
    rdT (rdC b4 0) kP (fun (x6 : Option Addr) =>
     callT Tryz.prog 72 [.pointer x6, .string cwd_2, .string path_3, .bool true, .func (.func 98) ⟨[]⟩ ⟨[.pointer (some ⟨b4, 0, none⟩), .pointer (some ⟨b5, 0, none⟩)]⟩] kI (fun (x7 : Int) =>
      rdT (rdC b5 0) kL (fun (x8 : Sl) =>
       stW Tryz.prog 74 (.pointer (some ⟨b5, 0, none⟩)) (.slice x8.base x8.len x8.cap) (rdT (rdC b5 0) kL (fun (r9 : Sl) =>
         K (.tuple ⟨[.slice r9.base r9.len r9.cap, .int .i64 x7]⟩))))))))
theorem e45 (f_1 : Option Addr) (cwd_2 : ByteArray) (path_3 : ByteArray) (K : Value → H → Prop) : bodyF Tryz.prog tau Tryz.f45 an45 [.pointer f_1, .string cwd_2, .string path_3] K = g45 f_1 cwd_2 path_3 K := by kernel_rfl
theorem c45 (f_1 : Option Addr) (cwd_2 : ByteArray) (path_3 : ByteArray) {K : Value → H → Prop} {σ : H} (h : g45 f_1 cwd_2 path_3 K σ) : callW Tryz.prog 45 [.pointer f_1, .string cwd_2, .string path_3] K σ := call_of_body mixed Tryz.func45 (by rw [e45]; exact h)


/-- (*whisk/fs.Fs).Read -/
def an47 : Ann := (.seq none (.reg [] []) (.seq none (.reg [] []) (.seq none (.reg [] []) .leaf)))
def g47 (f_1 : Option Addr) (cwd_2 : ByteArray) (path_3 : ByteArray) (K : Value → H → Prop) : H → Prop :=
  alW (.cells ⟨[.string (⟨⟨[]⟩⟩ : ByteArray)]⟩ 9 (0, 0)) (fun (b4 : Nat) =>
   callT Tryz.prog 72 [.pointer f_1, .string cwd_2, .string path_3, .bool true, .func (.func 99) ⟨[]⟩ ⟨[.pointer (some ⟨b4, 0, none⟩)]⟩] kI (fun (x5 : Int) =>
    rdT (rdC b4 0) kS (fun (x6 : ByteArray) =>
     stW Tryz.prog 9 (.pointer (some ⟨b4, 0, none⟩)) (.string x6) (rdT (rdC b4 0) kS (fun (r7 : ByteArray) =>
       K (.tuple ⟨[.string r7, .int .i64 x5]⟩))))))
theorem e47 (f_1 : Option Addr) (cwd_2 : ByteArray) (path_3 : ByteArray) (K : Value → H → Prop) : bodyF Tryz.prog tau Tryz.f47 an47 [.pointer f_1, .string cwd_2, .string path_3] K = g47 f_1 cwd_2 path_3 K := by kernel_rfl
theorem c47 (f_1 : Option Addr) (cwd_2 : ByteArray) (path_3 : ByteArray) {K : Value → H → Prop} {σ : H} (h : g47 f_1 cwd_2 path_3 K σ) : callW Tryz.prog 47 [.pointer f_1, .string cwd_2, .string path_3] K σ := call_of_body mixed Tryz.func47 (by rw [e47]; exact h)

end Go.Proofs.YtlpcehbfoogejaaGreatDoor

set_option maxRecDepth 100000
namespace Go.Proofs.YtlpcehbfoogejaaGreatDoor
open Go Go.HL
/-- (*whisk/fs.Fs).Real -/
def an48 : Ann := (.seq none (.reg [] []) (.seq none (.reg [] []) (.seq none (.blk (.seq none (.reg [] []) (.cond (.seq none (.reg [] []) .leaf) (.seq none (.reg [] []) (.cond (.seq none (.reg [] []) .leaf) .leaf))))) (.seq none (.reg [0, 1, 2, 3] [[], [0], [], [0, 1, 2]]) (.seq (some [(0, .sc .ptr), (10, .sc .str), (11, .sc (.int .i64))]) (.seq none (.reg [] []) (.cond (.reg [0, 1, 2, 3, 4, 5, 6] [[], [0], [0, 1], [], [3], [0, 1, 2], [0, 1, 2, 3, 4, 5]]) .leaf)) (.seq none (.blk (.loop [(0, .sc .ptr), (10, .sc .str), (11, .sc (.int .i64))] (.seq none (.seq none (.reg [] []) (.cond .leaf .leaf)) (.blk (.seq none (.reg [] []) (.seq none (.seq none (.reg [] []) (.blk (.loop [(0, .sc .ptr), (10, .sc .str), (11, .sc (.int .i64)), (12, .sc (.int .i64)), (62, .sc .slc), (63, .sc (.int .i64)), (64, .sc (.int .i64))] (.seq none (.reg [] []) (.seq none (.cond .leaf .leaf) (.seq (some [(0, .sc .ptr), (10, .sc .str), (11, .sc (.int .i64)), (12, .sc (.int .i64)), (62, .sc .slc), (63, .sc (.int .i64)), (64, .sc (.int .i64))]) (.blk (.seq none (.reg [] []) (.seq none (.reg [] []) (.seq none (.reg [] []) (.cond (.reg [] []) .leaf))))) (.reg [] []))))))) (.reg [] []))))))) (.seq (some [(10, .sc .str)]) (.seq none (.reg [] []) (.cond (.reg [] []) .leaf)) (.seq none (.reg [] []) .leaf))))))))
def g48 (f_1 : Option Addr) (cwd_2 : ByteArray) (path_3 : ByteArray) (K : Value → H → Prop) : H → Prop :=
  callT Tryz.prog 62 [.pointer f_1, .string cwd_2, .string path_3, .bool true] (.tup [.agg [(.int .i64), .str, (.int .i64), .bool], .sc (.int .i64)]) (fun (x4 : Int) (x5 : ByteArray) (x6 : Int) (x7 : Bool) (x8 : Int) =>
   alW (.cells ⟨[.int .i64 0, .string (⟨⟨[]⟩⟩ : ByteArray), .int .i64 0, .bool false]⟩ 86 (0, 0)) (fun (b9 : Nat) =>
    stW Tryz.prog 86 (.pointer (some ⟨b9, 0, none⟩)) (.agg ⟨[.int .i64 x4, .string x5, .int .i64 x6, .bool x7]⟩) (brW ((x8 : Int) != 0)
     (K (.tuple ⟨[.string (⟨⟨[]⟩⟩ : ByteArray), .int .i64 x8]⟩))
     (rdT (rdC b9 3) kB (fun (x10 : Bool) =>
       brW (!x10)
       (K (.tuple ⟨[.string (⟨⟨[]⟩⟩ : ByteArray), .int .i64 5]⟩))
       (rdT (rdC b9 2) kI (fun (x11 : Int) =>
         letJ (T := Option Addr → ByteArray → Int → H → Prop) (fun (f_13 : Option Addr) (out_14 : ByteArray) (dir_15 : Int) =>
          loopW [.sc .ptr, .sc .str, .sc (.int .i64)] (fun (R16 : Option Addr → ByteArray → Int → H → Prop) => (fun (f_17 : Option Addr) (out_18 : ByteArray) (dir_19 : Int) =>
            ptrW f_17 (fun (b20 o21 : Nat) =>
             rdT (rdC b20 o21) kP (fun (x22 : Option Addr) =>
              callT Tryz.prog 100 [.pointer x22] kI (fun (x23 : Int) =>
               brW ((dir_19 : Int) != x23)
               (ptrW f_17 (fun (b24 o25 : Nat) =>
                 rdT (rdC b24 o25) kP (fun (x26 : Option Addr) =>
                  callT Tryz.prog 101 [.pointer x26, .int .i64 dir_19] kI (fun (x27 : Int) =>
                   ptrW f_17 (fun (b28 o29 : Nat) =>
                    rdT (rdC b28 o29) kP (fun (x30 : Option Addr) =>
                     callT Tryz.prog 67 [.pointer x30, .int .i64 x27] kL (fun (x31 : Sl) =>
                      loopW [.sc .ptr, .sc .str, .sc (.int .i64), .sc (.int .i64), .sc .slc, .sc (.int .i64), .sc (.int .i64)] (fun (R32 : Option Addr → ByteArray → Int → Int → Sl → Int → Int → H → Prop) => (fun (f_33 : Option Addr) (out_34 : ByteArray) (dir_35 : Int) (up_36 : Int) (x37 : Sl) (x38 : Int) (x39 : Int) =>
                      brW (decide ((x39 : Int) < x38))
                      (letJ (T := Option Addr → ByteArray → Int → Int → Sl → Int → Int → H → Prop) (fun (f_41 : Option Addr) (out_42 : ByteArray) (dir_43 : Int) (up_44 : Int) (x45 : Sl) (x46 : Int) (x47 : Int) =>
                      R32 f_41 out_42 dir_43 up_44 x45 x46 (IntKind.i64.wrap (x47 + 1))) (fun j40 =>
                      ptrW x37.base (fun (b48 o49 : Nat) =>
                      ifW (0 ≤ x39 ∧ x39 < ((x37.len : Nat) : Int))
                      (rdT (rdC b48 (o49 + x39.toNat * 1)) kS (fun (x50 : ByteArray) =>
                      ptrW f_33 (fun (b51 o52 : Nat) =>
                      rdT (rdC b51 o52) kP (fun (x53 : Option Addr) =>
                      callT Tryz.prog 102 [.pointer x53, .int .i64 up_36, .string x50] (.tup [.sc (.int .i64), .sc .bool]) (fun (x54 : Int) (_x55 : Bool) =>
                      brW ((x54 : Int) == dir_35)
                      (ifW ((⟨⟨[47]⟩⟩ : ByteArray).size + x50.size ≤ 9223372036854775807)
                      (ifW (((⟨⟨[47]⟩⟩ : ByteArray) ++ x50).size + out_34.size ≤ 9223372036854775807)
                      (j40 f_33 (((⟨⟨[47]⟩⟩ : ByteArray) ++ x50) ++ out_34) dir_35 up_36 x37 x38 x39)))
                      (j40 f_33 out_34 dir_35 up_36 x37 x38 x39)))))))))
                      (R16 f_33 out_34 up_36))) (fun (R56 : Option Addr → ByteArray → Int → Int → Sl → Int → Int → H → Prop) => R56 f_17 out_18 dir_19 x27 x31 ((x31.len : Nat) : Int) 0))))))))
               (letJ (T := ByteArray → H → Prop) (fun (out_58 : ByteArray) =>
                 K (.tuple ⟨[.string out_58, .int .i64 0]⟩)) (fun j57 =>
                 brW (strEq out_18 (⟨⟨[]⟩⟩ : ByteArray))
                 (j57 (⟨⟨[47]⟩⟩ : ByteArray))
                 (j57 out_18)))))))) (fun (R59 : Option Addr → ByteArray → Int → H → Prop) => R59 f_13 out_14 dir_15)) (fun j12 =>
          rdT (rdC b9 2) kI (fun (x60 : Int) =>
           callT Tryz.prog 70 [.pointer f_1, .int .i64 x60] kI (fun (x61 : Int) =>
            brW ((x61 : Int) != 2)
            (rdT (rdC b9 1) kS (fun (x62 : ByteArray) =>
              ifW ((⟨⟨[47]⟩⟩ : ByteArray).size + x62.size ≤ 9223372036854775807)
              (rdT (rdC b9 0) kI (fun (x63 : Int) =>
                j12 f_1 ((⟨⟨[47]⟩⟩ : ByteArray) ++ x62) x63))))
            (j12 f_1 (⟨⟨[]⟩⟩ : ByteArray) x11)))))))))))
theorem e48 (f_1 : Option Addr) (cwd_2 : ByteArray) (path_3 : ByteArray) (K : Value → H → Prop) : bodyF Tryz.prog tau Tryz.f48 an48 [.pointer f_1, .string cwd_2, .string path_3] K = g48 f_1 cwd_2 path_3 K := by kernel_rfl
theorem c48 (f_1 : Option Addr) (cwd_2 : ByteArray) (path_3 : ByteArray) {K : Value → H → Prop} {σ : H} (h : g48 f_1 cwd_2 path_3 K σ) : callW Tryz.prog 48 [.pointer f_1, .string cwd_2, .string path_3] K σ := call_of_body mixed Tryz.func48 (by rw [e48]; exact h)


/-- whisk/inode.New -/
def an49 : Ann := (.seq none (.reg [] []) (.seq none (.seq (some [(1, .sc .ptr), (21, .sc .bool)]) (.reg [] []) (.cond (.seq none (.reg [] []) .leaf) .leaf)) (.seq none (.reg [] []) (.seq none (.reg [] []) .leaf))))
def g49 (q_1 : Int) (q_2 : Int) (K : Value → H → Prop) : H → Prop :=
  alW (.cells ⟨[.int .i64 q_1, .int .i64 q_2]⟩ 31 (0, 0)) (fun (b3 : Nat) =>
   letJ (T := Option Addr → Bool → H → Prop) (fun (q_5 : Option Addr) (x6 : Bool) =>
    brW x6
    (K (.pointer none))
    (alW (.map #[] 0) (fun (b7 : Nat) =>
      alW (.cells ⟨[.int .i64 2, .int .i64 493, .string (⟨⟨[]⟩⟩ : ByteArray), .int .i64 1, .int .i64 1, .map (some b7)]⟩ 142 (0, 0)) (fun (b8 : Nat) =>
       ptrW q_5 (fun (b9 o10 : Nat) =>
        rdT (rdA 2 b9 o10) (.one (.agg [(.int .i64), (.int .i64)])) (fun (x11 : Int) (x12 : Int) =>
         alW (.map #[] 0) (fun (b13 : Nat) =>
          muW Tryz.prog 143 (.map (some b13)) (.int .i64 1) (.pointer (some ⟨b8, 0, none⟩)) (alW (.cells ⟨[.int .i64 x11, .int .i64 x12, .int .i64 1, .int .i64 0, .map (some b13), .int .i64 1]⟩ 145 (0, 0)) (fun (b14 : Nat) =>
            K (.pointer (some ⟨b14, 0, none⟩))))))))))) (fun j4 =>
    rdT (rdC b3 0) kI (fun (x15 : Int) =>
     brW (decide ((x15 : Int) < 1))
     (j4 (some ⟨b3, 0, none⟩) true)
     (rdT (rdC b3 0) kI (fun (x16 : Int) =>
       brW (decide ((x16 : Int) > 1048576))
       (j4 (some ⟨b3, 0, none⟩) true)
       (rdT (rdC b3 1) kI (fun (x17 : Int) =>
         brW (decide ((x17 : Int) < 0))
         (j4 (some ⟨b3, 0, none⟩) true)
         (rdT (rdC b3 1) kI (fun (x18 : Int) =>
           j4 (some ⟨b3, 0, none⟩) (decide ((x18 : Int) > 1073741824)))))))))))
theorem e49 (q_1 : Int) (q_2 : Int) (K : Value → H → Prop) : bodyF Tryz.prog tau Tryz.f49 an49 [.agg ⟨[.int .i64 q_1, .int .i64 q_2]⟩] K = g49 q_1 q_2 K := by kernel_rfl
theorem c49 (q_1 : Int) (q_2 : Int) {K : Value → H → Prop} {σ : H} (h : g49 q_1 q_2 K σ) : callW Tryz.prog 49 [.agg ⟨[.int .i64 q_1, .int .i64 q_2]⟩] K σ := call_of_body mixed Tryz.func49 (by rw [e49]; exact h)


/-- (*whisk/fs.Fs).fresh -/
def an50 : Ann := (.seq none (.reg [] []) (.seq none (.reg [] []) (.seq none (.blk (.seq none (.reg [] []) (.cond (.seq none (.reg [] []) .leaf) (.seq none (.reg [] []) (.cond (.seq none (.reg [] []) .leaf) .leaf))))) (.seq none (.reg [] []) .leaf))))
def g50 (f_1 : Option Addr) (cwd_2 : ByteArray) (path_3 : ByteArray) (do_4 : Value) (K : Value → H → Prop) : H → Prop :=
  callT Tryz.prog 62 [.pointer f_1, .string cwd_2, .string path_3, .bool false] (.tup [.agg [(.int .i64), .str, (.int .i64), .bool], .sc (.int .i64)]) (fun (x5 : Int) (x6 : ByteArray) (x7 : Int) (x8 : Bool) (x9 : Int) =>
   alW (.cells ⟨[.int .i64 0, .string (⟨⟨[]⟩⟩ : ByteArray), .int .i64 0, .bool false]⟩ 86 (0, 0)) (fun (b10 : Nat) =>
    stW Tryz.prog 86 (.pointer (some ⟨b10, 0, none⟩)) (.agg ⟨[.int .i64 x5, .string x6, .int .i64 x7, .bool x8]⟩) (brW ((x9 : Int) != 0)
     (K (.int .i64 x9))
     (rdT (rdC b10 3) kB (fun (x11 : Bool) =>
       brW x11
       (K (.int .i64 6))
       (rdT (rdA 4 b10 0) (.one (.agg [(.int .i64), .str, (.int .i64), .bool])) (fun (x12 : Int) (x13 : ByteArray) (x14 : Int) (x15 : Bool) =>
         cvalT Tryz.prog do_4 [.agg ⟨[.int .i64 x12, .string x13, .int .i64 x14, .bool x15]⟩] kI (fun (x16 : Int) =>
          K (.int .i64 x16)))))))))
theorem e50 (f_1 : Option Addr) (cwd_2 : ByteArray) (path_3 : ByteArray) (do_4 : Value) (K : Value → H → Prop) : bodyF Tryz.prog tau Tryz.f50 an50 [.pointer f_1, .string cwd_2, .string path_3, do_4] K = g50 f_1 cwd_2 path_3 do_4 K := by kernel_rfl
theorem c50 (f_1 : Option Addr) (cwd_2 : ByteArray) (path_3 : ByteArray) (do_4 : Value) {K : Value → H → Prop} {σ : H} (h : g50 f_1 cwd_2 path_3 do_4 K σ) : callW Tryz.prog 50 [.pointer f_1, .string cwd_2, .string path_3, do_4] K σ := call_of_body mixed Tryz.func50 (by rw [e50]; exact h)


/-- (*whisk/fs.Fs).Mkdir$1 -/
def an51 : Ann := (.seq none (.reg [] []) (.seq none (.seq none (.reg [] []) (.cond (.seq none (.reg [] []) .leaf) .leaf)) (.seq none (.reg [0, 1, 2, 3, 4, 5, 6, 7, 8, 9, 10, 11, 12, 13] [[], [0], [0, 1], [0, 1, 2], [], [4], [], [6], [0, 1, 2, 3, 4, 5, 6, 7], [0, 1, 2, 3, 4, 5, 6, 7, 8], [0, 1, 2, 3, 4, 5, 6, 7, 8, 9], [0, 1, 2, 3, 4, 5, 6, 7, 8, 9], [0, 1, 2, 3, 4, 5, 6, 7, 8, 9, 10], [0, 1, 2, 3, 4, 5, 6, 7, 8, 9, 10, 11, 12]]) (.seq none (.reg [] []) .leaf))))
def g51 (p_1 : Int) (p_2 : ByteArray) (p_3 : Int) (p_4 : Bool) (x5 : Option Addr) (K : Value → H → Prop) : H → Prop :=
  alW (.cells ⟨[.int .i64 p_1, .string p_2, .int .i64 p_3, .bool p_4]⟩ 86 (0, 0)) (fun (b6 : Nat) =>
   ptrW x5 (fun (b7 o8 : Nat) =>
    rdT (rdC b7 o8) kP (fun (x9 : Option Addr) =>
     rdT (rdC b6 0) kI (fun (x10 : Int) =>
      callT Tryz.prog 52 [.pointer x9, .int .i64 x10] kI (fun (x11 : Int) =>
       brW (decide ((x11 : Int) ≥ 12))
       (K (.int .i64 3))
       (ptrW x5 (fun (b12 o13 : Nat) =>
         rdT (rdC b12 o13) kP (fun (x14 : Option Addr) =>
          ptrW x14 (fun (b15 o16 : Nat) =>
           rdT (rdC b15 o16) kP (fun (x17 : Option Addr) =>
            rdT (rdC b6 0) kI (fun (x18 : Int) =>
             rdT (rdC b6 1) kS (fun (x19 : ByteArray) =>
              callT Tryz.prog 53 [.pointer x17, .int .i64 x18, .string x19, .int .i64 2, .int .i64 493, .string (⟨⟨[]⟩⟩ : ByteArray)] (.tup [.sc (.int .i64), .sc (.int .i64)]) (fun (_x20 : Int) (x21 : Int) =>
               K (.int .i64 x21))))))))))))))
theorem e51 (p_1 : Int) (p_2 : ByteArray) (p_3 : Int) (p_4 : Bool) (x5 : Option Addr) (K : Value → H → Prop) : bodyF Tryz.prog tau Tryz.f51 an51 [.agg ⟨[.int .i64 p_1, .string p_2, .int .i64 p_3, .bool p_4]⟩, .pointer x5] K = g51 p_1 p_2 p_3 p_4 x5 K := by kernel_rfl
theorem c51 (p_1 : Int) (p_2 : ByteArray) (p_3 : Int) (p_4 : Bool) (x5 : Option Addr) {K : Value → H → Prop} {σ : H} (h : g51 p_1 p_2 p_3 p_4 x5 K σ) : callW Tryz.prog 51 [.agg ⟨[.int .i64 p_1, .string p_2, .int .i64 p_3, .bool p_4]⟩, .pointer x5] K σ := call_of_body mixed Tryz.func51 (by rw [e51]; exact h)


/-- (*whisk/fs.Fs).deep -/
def an52 : Ann := (.seq none (.reg [] []) (.seq none (.reg [] []) (.seq none (.blk (.loop [(0, .sc .ptr), (1, .sc (.int .i64)), (5, .sc (.int .i64))] (.seq none (.seq none (.reg [] []) (.cond .leaf .leaf)) (.seq none (.blk (.reg [] [])) (.reg [] []))))) (.seq none (.reg [] []) .leaf))))
def g52 (f_1 : Option Addr) (dir_2 : Int) (K : Value → H → Prop) : H → Prop :=
  loopW [.sc .ptr, .sc (.int .i64), .sc (.int .i64)] (fun (R3 : Option Addr → Int → Int → H → Prop) => (fun (f_4 : Option Addr) (dir_5 : Int) (n_6 : Int) =>
    ptrW f_4 (fun (b7 o8 : Nat) =>
     rdT (rdC b7 o8) kP (fun (x9 : Option Addr) =>
      callT Tryz.prog 100 [.pointer x9] kI (fun (x10 : Int) =>
       brW ((dir_5 : Int) != x10)
       (ptrW f_4 (fun (b11 o12 : Nat) =>
         rdT (rdC b11 o12) kP (fun (x13 : Option Addr) =>
          callT Tryz.prog 101 [.pointer x13, .int .i64 dir_5] kI (fun (x14 : Int) =>
           R3 f_4 x14 (IntKind.i64.wrap (n_6 + 1))))))
       (K (.int .i64 n_6))))))) (fun (R15 : Option Addr → Int → Int → H → Prop) => R15 f_1 dir_2 1)
theorem e52 (f_1 : Option Addr) (dir_2 : Int) (K : Value → H → Prop) : bodyF Tryz.prog tau Tryz.f52 an52 [.pointer f_1, .int .i64 dir_2] K = g52 f_1 dir_2 K := by kernel_rfl
theorem c52 (f_1 : Option Addr) (dir_2 : Int) {K : Value → H → Prop} {σ : H} (h : g52 f_1 dir_2 K σ) : callW Tryz.prog 52 [.pointer f_1, .int .i64 dir_2] K σ := call_of_body mixed Tryz.func52 (by rw [e52]; exact h)


/-- (*whisk/inode.Table).Make -/
def an53 : Ann := (.seq none (.reg [] []) (.seq none (.reg [] []) (.seq none (.seq none (.reg [0, 1, 2, 3, 5, 7, 8, 4, 6, 9, 10, 11, 12, 13, 14, 15] [[], [0], [], [], [2, 3], [], [2, 3, 4, 5], [], [], [], [], [2, 3, 4, 5, 6, 8, 9, 10], [], [0, 1, 2, 3, 4, 5, 6, 7, 8, 9, 10, 11, 12], [0, 1, 2, 3, 4, 5, 6, 7, 8, 9, 10, 11, 12, 13], [0, 1, 2, 3, 4, 5, 6, 7, 8, 9, 10, 11, 12, 13, 14]]) (.seq none (.reg [] []) (.cond (.seq none (.reg [] []) .leaf) .leaf))) (.seq none (.reg [] []) (.seq none (.reg [] []) (.seq (some [(1, .sc (.int .i64)), (2, .sc .str), (6, .sc .ptr), (11, .sc .ptr), (16, .sc .ptr)]) (.seq none (.reg [] []) (.cond (.reg [] []) .leaf)) (.seq none (.reg [0, 1, 2, 3, 4, 5, 6, 7, 8, 9] [[], [0], [0, 1], [0, 1, 2], [], [4], [4, 5], [4, 5, 6], [], [0, 1, 2, 3, 4, 5, 6, 7, 8]]) (.seq none (.reg [0, 1, 2, 3, 4, 5, 6, 7, 8, 9, 10, 11, 12, 13, 14] [[], [0], [0, 1], [0, 1, 2], [], [0, 1, 2, 3, 4], [0, 1, 2, 3, 4, 5], [0, 1, 2, 3, 4, 5, 6], [0, 1, 2, 3, 4, 5, 6, 7], [], [], [10], [10, 11], [10, 11, 12], [0, 1, 2, 3, 4, 5, 6, 7, 8, 9, 10, 11, 12, 13]]) (.seq none (.reg [] []) (.seq none (.reg [0, 1, 2, 3, 4, 5, 6, 7, 8, 9, 10, 11] [[], [0], [0, 1], [0, 1, 2], [0, 1, 2, 3], [], [5], [0, 1, 2, 3, 4, 5, 6], [0, 1, 2, 3, 4, 5, 6, 7], [0, 1, 2, 3, 4, 5, 6, 7, 8], [0, 1, 2, 3, 4, 5, 6, 7, 8, 9], [0, 1, 2, 3, 4, 5, 6, 7, 8, 9, 10]]) (.seq none (.reg [] []) .leaf)))))))))))
def g53 (t_1 : Option Addr) (dir_2 : Int) (name_3 : ByteArray) (kind_4 : Int) (mode_5 : Int) (data_6 : ByteArray) (K : Value → H → Prop) : H → Prop :=
  alW (.cells ⟨[.pointer t_1]⟩ 80 (0, 0)) (fun (b7 : Nat) =>
   alW (.cells ⟨[.int .i64 kind_4]⟩ 3 (0, 0)) (fun (b8 : Nat) =>
    alW (.cells ⟨[.int .i64 mode_5]⟩ 3 (0, 0)) (fun (b9 : Nat) =>
     alW (.cells ⟨[.string data_6]⟩ 9 (0, 0)) (fun (b10 : Nat) =>
      rdT (rdC b7 0) kP (fun (x11 : Option Addr) =>
       rdT (rdC b7 0) kP (fun (x12 : Option Addr) =>
        rdT (rdC b7 0) kP (fun (x13 : Option Addr) =>
         callT Tryz.prog 107 [.pointer x12, .int .i64 dir_2] kR (fun (x14 : Value) =>
          andW (fun σ => (rdC b7 0) σ = some (.pointer x13))
          (andW (fun σ => (rdC b7 0) σ = some (.pointer x11))
           (callT Tryz.prog 108 [.string name_3] kR (fun (x15 : Value) =>
             andW (fun σ => (rdC b7 0) σ = some (.pointer x13))
             (andW (fun σ => (rdC b7 0) σ = some (.pointer x11))
              (callT Tryz.prog 109 [.pointer x13, .int .i64 dir_2, .string name_3] kR (fun (x16 : Value) =>
                andW (fun σ => (rdC b7 0) σ = some (.pointer x11))
                (oneK x14
                 (oneK x15
                  (oneK x16
                   (alW (.cells ⟨[.func (.func 106) ⟨[.pointer x11]⟩ ⟨[]⟩, x14, x15, .func (.func 103) ⟨[]⟩ ⟨[.pointer (some ⟨b10, 0, none⟩), .pointer (some ⟨b8, 0, none⟩), .pointer (some ⟨b9, 0, none⟩)]⟩, x16, .func (.func 110) ⟨[]⟩ ⟨[.pointer (some ⟨b7, 0, none⟩), .pointer (some ⟨b10, 0, none⟩)]⟩]⟩ 148 (0, 0)) (fun (b17 : Nat) =>
                     callT Tryz.prog 105 [.slice (some ⟨b17, 0, none⟩) 6 6] kI (fun (x18 : Int) =>
                      brW ((x18 : Int) != 0)
                      (K (.tuple ⟨[.int .i64 0, .int .i64 x18]⟩))
                      (rdT (rdC b7 0) kP (fun (x19 : Option Addr) =>
                      ptrW x19 (fun (b20 o21 : Nat) =>
                      rdT (rdC b20 (o21 + 5)) kI (fun (x22 : Int) =>
                      ptrW x19 (fun (b23 o24 : Nat) =>
                      stW Tryz.prog 3 (.pointer (some ⟨b23, o24 + 5, none⟩)) (.int .i64 (IntKind.i64.wrap (x22 + 1))) (rdT (rdC b8 0) kI (fun (x25 : Int) =>
                      rdT (rdC b9 0) kI (fun (x26 : Int) =>
                      rdT (rdC b10 0) kS (fun (x27 : ByteArray) =>
                      alW (.cells ⟨[.int .i64 x25, .int .i64 x26, .string x27, .int .i64 1, .int .i64 0, .map none]⟩ 142 (0, 0)) (fun (b28 : Nat) =>
                      letJ (T := Int → ByteArray → Option Addr → Option Addr → Option Addr → H → Prop) (fun (dir_30 : Int) (name_31 : ByteArray) (t_32 : Option Addr) (data_33 : Option Addr) (n_34 : Option Addr) =>
                      ptrW t_32 (fun (b35 o36 : Nat) =>
                      rdT (rdC b35 o36) kP (fun (x37 : Option Addr) =>
                      ptrW x37 (fun (b38 o39 : Nat) =>
                      rdT (rdC b38 (o39 + 4)) kM (fun (x40 : Option Nat) =>
                      ptrW t_32 (fun (b41 o42 : Nat) =>
                      rdT (rdC b41 o42) kP (fun (x43 : Option Addr) =>
                      ptrW x43 (fun (b44 o45 : Nat) =>
                      rdT (rdC b44 (o45 + 5)) kI (fun (x46 : Int) =>
                      muW Tryz.prog 143 (.map x40) (.int .i64 x46) (.pointer n_34) (ptrW t_32 (fun (b47 o48 : Nat) =>
                      rdT (rdC b47 o48) kP (fun (x49 : Option Addr) =>
                      ptrW x49 (fun (b50 o51 : Nat) =>
                      rdT (rdC b50 (o51 + 4)) kM (fun (x52 : Option Nat) =>
                      rdT (rdM (.int .i64) (.pointer none) false x52 (.int .i64 dir_30)) kP (fun (x53 : Option Addr) =>
                      ptrW x53 (fun (b54 o55 : Nat) =>
                      rdT (rdC b54 (o55 + 5)) kM (fun (x56 : Option Nat) =>
                      ptrW t_32 (fun (b57 o58 : Nat) =>
                      rdT (rdC b57 o58) kP (fun (x59 : Option Addr) =>
                      ptrW x59 (fun (b60 o61 : Nat) =>
                      rdT (rdC b60 (o61 + 5)) kI (fun (x62 : Int) =>
                      muW Tryz.prog 140 (.map x56) (.string name_31) (.int .i64 x62) (ptrW t_32 (fun (b63 o64 : Nat) =>
                      rdT (rdC b63 o64) kP (fun (x65 : Option Addr) =>
                      ptrW x65 (fun (b66 o67 : Nat) =>
                      rdT (rdC b66 (o67 + 2)) kI (fun (x68 : Int) =>
                      ptrW x65 (fun (b69 o70 : Nat) =>
                      stW Tryz.prog 3 (.pointer (some ⟨b69, o70 + 2, none⟩)) (.int .i64 (IntKind.i64.wrap (x68 + 1))) (ptrW t_32 (fun (b71 o72 : Nat) =>
                      rdT (rdC b71 o72) kP (fun (x73 : Option Addr) =>
                      ptrW x73 (fun (b74 o75 : Nat) =>
                      rdT (rdC b74 (o75 + 3)) kI (fun (x76 : Int) =>
                      ptrW data_33 (fun (b77 o78 : Nat) =>
                      rdT (rdC b77 o78) kS (fun (x79 : ByteArray) =>
                      ptrW x73 (fun (b80 o81 : Nat) =>
                      stW Tryz.prog 3 (.pointer (some ⟨b80, o81 + 3, none⟩)) (.int .i64 (IntKind.i64.wrap (x76 + ((x79.size : Nat) : Int)))) (ptrW t_32 (fun (b82 o83 : Nat) =>
                      rdT (rdC b82 o83) kP (fun (x84 : Option Addr) =>
                      ptrW x84 (fun (b85 o86 : Nat) =>
                      rdT (rdC b85 (o86 + 5)) kI (fun (x87 : Int) =>
                      K (.tuple ⟨[.int .i64 x87, .int .i64 0]⟩))))))))))))))))))))))))))))))))))))))))) (fun j29 =>
                      rdT (rdC b8 0) kI (fun (x88 : Int) =>
                      brW ((x88 : Int) == 2)
                      (alW (.map #[] 0) (fun (b89 : Nat) =>
                      stW Tryz.prog 3 (.pointer (some ⟨b28, 4, none⟩)) (.int .i64 dir_2) (stW Tryz.prog 140 (.pointer (some ⟨b28, 5, none⟩)) (.map (some b89)) (j29 dir_2 name_3 (some ⟨b7, 0, none⟩) (some ⟨b10, 0, none⟩) (some ⟨b28, 0, none⟩)))))
                      (j29 dir_2 name_3 (some ⟨b7, 0, none⟩) (some ⟨b10, 0, none⟩) (some ⟨b28, 0, none⟩))))))))))))))))))))))))))))))))))
theorem e53 (t_1 : Option Addr) (dir_2 : Int) (name_3 : ByteArray) (kind_4 : Int) (mode_5 : Int) (data_6 : ByteArray) (K : Value → H → Prop) : bodyF Tryz.prog tau Tryz.f53 an53 [.pointer t_1, .int .i64 dir_2, .string name_3, .int .i64 kind_4, .int .i64 mode_5, .string data_6] K = g53 t_1 dir_2 name_3 kind_4 mode_5 data_6 K := by kernel_rfl
theorem c53 (t_1 : Option Addr) (dir_2 : Int) (name_3 : ByteArray) (kind_4 : Int) (mode_5 : Int) (data_6 : ByteArray) {K : Value → H → Prop} {σ : H} (h : g53 t_1 dir_2 name_3 kind_4 mode_5 data_6 K σ) : callW Tryz.prog 53 [.pointer t_1, .int .i64 dir_2, .string name_3, .int .i64 kind_4, .int .i64 mode_5, .string data_6] K σ := call_of_body mixed Tryz.func53 (by rw [e53]; exact h)


/-- (*whisk/fs.Fs).none -/
def an54 : Ann := (.seq none (.reg [] []) (.seq none (.reg [] []) .leaf))
def g54 (f_1 : Option Addr) (K : Value → H → Prop) : H → Prop :=
  brW f_1.isNone
  (K (.bool true))
  (ptrW f_1 (fun (b2 o3 : Nat) =>
    rdT (rdC b2 o3) kP (fun (x4 : Option Addr) =>
     K (.bool x4.isNone))))
theorem e54 (f_1 : Option Addr) (K : Value → H → Prop) : bodyF Tryz.prog tau Tryz.f54 an54 [.pointer f_1] K = g54 f_1 K := by kernel_rfl
theorem c54 (f_1 : Option Addr) {K : Value → H → Prop} {σ : H} (h : g54 f_1 K σ) : callW Tryz.prog 54 [.pointer f_1] K σ := call_of_body mixed Tryz.func54 (by rw [e54]; exact h)


/-- whisk/tree.Check -/
def an55 : Ann := (.seq none (.reg [] []) (.seq none (.blk (.seq none (.reg [] []) (.cond (.seq none (.reg [] []) .leaf) (.seq (some [(1, .sc .ptr), (8, .sc .bool)]) (.reg [] []) (.cond (.seq none (.reg [] []) .leaf) .leaf))))) (.seq none (.seq none (.reg [] []) (.seq (some [(27, .sc .bool)]) (.reg [] []) (.cond (.seq none (.reg [] []) .leaf) .leaf))) (.seq none (.reg [] []) .leaf))))
def g55 (n_1 : ByteArray) (n_2 : Int) (n_3 : Bool) (n_4 : ByteArray) (n_5 : Sl) (K : Value → H → Prop) : H → Prop :=
  alW (.cells ⟨[.string n_1, .int .i64 n_2, .bool n_3, .string n_4, .slice n_5.base n_5.len n_5.cap]⟩ 24 (0, 0)) (fun (b6 : Nat) =>
   rdT (rdA 5 b6 0) (.one (.agg [.str, (.int .i64), .bool, .str, .slc])) (fun (x7 : ByteArray) (x8 : Int) (x9 : Bool) (x10 : ByteArray) (x11 : Sl) =>
    callT Tryz.prog 76 [.agg ⟨[.string x7, .int .i64 x8, .bool x9, .string x10, .slice x11.base x11.len x11.cap]⟩] kB (fun (x12 : Bool) =>
     brW x12
     (K (.int .i64 3))
     (letJ (T := Option Addr → Bool → H → Prop) (fun (n_14 : Option Addr) (x15 : Bool) =>
       brW x15
       (K (.int .i64 2))
       (ptrW n_14 (fun (b16 o17 : Nat) =>
         rdT (rdA 5 b16 o17) (.one (.agg [.str, (.int .i64), .bool, .str, .slc])) (fun (x18 : ByteArray) (x19 : Int) (x20 : Bool) (x21 : ByteArray) (x22 : Sl) =>
          callT Tryz.prog 57 [.agg ⟨[.string x18, .int .i64 x19, .bool x20, .string x21, .slice x22.base x22.len x22.cap]⟩] (.tup [.sc (.int .i64), .sc (.int .i64)]) (fun (x23 : Int) (x24 : Int) =>
           letJ (T := Bool → H → Prop) (fun (x26 : Bool) =>
            brW x26
            (K (.int .i64 3))
            (K (.int .i64 0))) (fun j25 =>
            brW (decide ((x23 : Int) > 2000))
            (j25 true)
            (j25 (decide ((x24 : Int) > 100000))))))))) (fun j13 =>
       rdT (rdC b6 0) kS (fun (x27 : ByteArray) =>
        brW (!strEq x27 (⟨⟨[]⟩⟩ : ByteArray))
        (j13 (some ⟨b6, 0, none⟩) true)
        (rdT (rdA 5 b6 0) (.one (.agg [.str, (.int .i64), .bool, .str, .slc])) (fun (x28 : ByteArray) (x29 : Int) (x30 : Bool) (x31 : ByteArray) (x32 : Sl) =>
          callT Tryz.prog 112 [.agg ⟨[.string x28, .int .i64 x29, .bool x30, .string x31, .slice x32.base x32.len x32.cap]⟩] kB (fun (x33 : Bool) =>
           j13 (some ⟨b6, 0, none⟩) (!x33))))))))))
theorem e55 (n_1 : ByteArray) (n_2 : Int) (n_3 : Bool) (n_4 : ByteArray) (n_5 : Sl) (K : Value → H → Prop) : bodyF Tryz.prog tau Tryz.f55 an55 [.agg ⟨[.string n_1, .int .i64 n_2, .bool n_3, .string n_4, .slice n_5.base n_5.len n_5.cap]⟩] K = g55 n_1 n_2 n_3 n_4 n_5 K := by kernel_rfl
theorem c55 (n_1 : ByteArray) (n_2 : Int) (n_3 : Bool) (n_4 : ByteArray) (n_5 : Sl) {K : Value → H → Prop} {σ : H} (h : g55 n_1 n_2 n_3 n_4 n_5 K σ) : callW Tryz.prog 55 [.agg ⟨[.string n_1, .int .i64 n_2, .bool n_3, .string n_4, .slice n_5.base n_5.len n_5.cap]⟩] K σ := call_of_body mixed Tryz.func55 (by rw [e55]; exact h)


/-- (*whisk/fs.Fs).Lay$1 -/
def an56 : Ann := (.seq none (.reg [] []) (.seq none (.reg [] []) (.seq none (.reg [0, 2, 3, 4, 5, 1, 6, 7, 8, 9, 10] [[], [0], [], [2], [2, 3], [2, 3, 4], [0, 1, 2, 3, 4, 5], [], [], [0, 1, 2, 3, 4, 5, 6, 7, 8], [0, 1, 2, 3, 4, 5, 6, 7, 8, 9]]) (.seq none (.blk (.seq none (.reg [0, 1, 2, 4, 3, 5, 6, 7, 8] [[], [], [1], [0, 1, 2], [], [0, 1, 2, 3, 4], [0, 1, 2, 3, 4, 5], [0, 1, 2, 3, 4, 5, 6], [0, 1, 2, 3, 4, 5, 6, 7]]) (.cond (.seq none (.reg [] []) .leaf) (.seq (some [(1, .sc .ptr), (2, .sc .ptr), (3, .sc .ptr), (30, .sc .bool)]) (.reg [] []) (.cond (.seq none (.reg [] []) .leaf) .leaf))))) (.seq none (.reg [] []) .leaf)))))
def g56 (p_1 : Int) (p_2 : ByteArray) (p_3 : Int) (p_4 : Bool) (x5 : Option Addr) (x6 : Option Addr) (K : Value → H → Prop) : H → Prop :=
  alW (.cells ⟨[.int .i64 p_1, .string p_2, .int .i64 p_3, .bool p_4]⟩ 86 (0, 0)) (fun (b7 : Nat) =>
   ptrW x5 (fun (b8 o9 : Nat) =>
    rdT (rdA 5 b8 o9) (.one (.agg [.str, (.int .i64), .bool, .str, .slc])) (fun (x10 : ByteArray) (x11 : Int) (x12 : Bool) (x13 : ByteArray) (x14 : Sl) =>
     callT Tryz.prog 57 [.agg ⟨[.string x10, .int .i64 x11, .bool x12, .string x13, .slice x14.base x14.len x14.cap]⟩] (.tup [.sc (.int .i64), .sc (.int .i64)]) (fun (x15 : Int) (x16 : Int) =>
      ptrW x6 (fun (b17 o18 : Nat) =>
       rdT (rdC b17 o18) kP (fun (x19 : Option Addr) =>
        ptrW x6 (fun (b20 o21 : Nat) =>
         rdT (rdC b20 o21) kP (fun (x22 : Option Addr) =>
          ptrW x22 (fun (b23 o24 : Nat) =>
           rdT (rdC b23 o24) kP (fun (x25 : Option Addr) =>
            callT Tryz.prog 18 [.pointer x19] (.one (.agg [(.int .i64), (.int .i64)])) (fun (x26 : Int) (x27 : Int) =>
             andW (fun σ => (rdC b23 o24) σ = some (.pointer x25))
             (andW (fun σ => (rdC b20 o21) σ = some (.pointer x22))
              (callT Tryz.prog 58 [.pointer x25] (.one (.agg [(.int .i64), (.int .i64)])) (fun (x28 : Int) (x29 : Int) =>
                alW (.cells ⟨[.int .i64 0, .int .i64 0]⟩ 31 (0, 0)) (fun (b30 : Nat) =>
                 alW (.cells ⟨[.int .i64 0, .int .i64 0]⟩ 31 (0, 0)) (fun (b31 : Nat) =>
                  stW Tryz.prog 31 (.pointer (some ⟨b30, 0, none⟩)) (.agg ⟨[.int .i64 x26, .int .i64 x27]⟩) (stW Tryz.prog 31 (.pointer (some ⟨b31, 0, none⟩)) (.agg ⟨[.int .i64 x28, .int .i64 x29]⟩) (ptrW x6 (fun (b32 o33 : Nat) =>
                     rdT (rdC b32 o33) kP (fun (x34 : Option Addr) =>
                      rdT (rdC b7 0) kI (fun (x35 : Int) =>
                      ptrW x5 (fun (b36 o37 : Nat) =>
                      rdT (rdA 5 b36 o37) (.one (.agg [.str, (.int .i64), .bool, .str, .slc])) (fun (x38 : ByteArray) (x39 : Int) (x40 : Bool) (x41 : ByteArray) (x42 : Sl) =>
                      callT Tryz.prog 52 [.pointer x34, .int .i64 x35] kI (fun (x43 : Int) =>
                      andW (fun σ => (rdA 5 b36 o37) σ = some (.agg ⟨[.string x38, .int .i64 x39, .bool x40, .string x41, .slice x42.base x42.len x42.cap]⟩))
                      (callT Tryz.prog 59 [.agg ⟨[.string x38, .int .i64 x39, .bool x40, .string x41, .slice x42.base x42.len x42.cap]⟩] kI (fun (x44 : Int) =>
                      brW (decide (((IntKind.i64.wrap (x43 + x44)) : Int) > 12))
                      (K (.int .i64 3))
                      (letJ (T := Option Addr → Option Addr → Option Addr → Bool → H → Prop) (fun (x46 : Option Addr) (x47 : Option Addr) (p_48 : Option Addr) (x49 : Bool) =>
                      brW x49
                      (K (.int .i64 10))
                      (ptrW x47 (fun (b50 o51 : Nat) =>
                      rdT (rdC b50 o51) kP (fun (x52 : Option Addr) =>
                      ptrW p_48 (fun (b53 o54 : Nat) =>
                      rdT (rdC b53 o54) kI (fun (x55 : Int) =>
                      ptrW p_48 (fun (b56 o57 : Nat) =>
                      rdT (rdC b56 (o57 + 1)) kS (fun (x58 : ByteArray) =>
                      ptrW x46 (fun (b59 o60 : Nat) =>
                      rdT (rdA 5 b59 o60) (.one (.agg [.str, (.int .i64), .bool, .str, .slc])) (fun (x61 : ByteArray) (x62 : Int) (x63 : Bool) (x64 : ByteArray) (x65 : Sl) =>
                      callT Tryz.prog 60 [.pointer x52, .int .i64 x55, .string x58, .agg ⟨[.string x61, .int .i64 x62, .bool x63, .string x64, .slice x65.base x65.len x65.cap]⟩] kI (fun (x66 : Int) =>
                      K (.int .i64 x66)))))))))))) (fun j45 =>
                      rdT (rdC b30 0) kI (fun (x67 : Int) =>
                      rdT (rdC b31 0) kI (fun (x68 : Int) =>
                      brW (decide (((IntKind.i64.wrap (x67 + x15)) : Int) > x68))
                      (j45 x5 x6 (some ⟨b7, 0, none⟩) true)
                      (rdT (rdC b30 1) kI (fun (x69 : Int) =>
                      rdT (rdC b31 1) kI (fun (x70 : Int) =>
                      j45 x5 x6 (some ⟨b7, 0, none⟩) (decide (((IntKind.i64.wrap (x69 + x16)) : Int) > x70)))))))))))))))))))))))))))))))))))
theorem e56 (p_1 : Int) (p_2 : ByteArray) (p_3 : Int) (p_4 : Bool) (x5 : Option Addr) (x6 : Option Addr) (K : Value → H → Prop) : bodyF Tryz.prog tau Tryz.f56 an56 [.agg ⟨[.int .i64 p_1, .string p_2, .int .i64 p_3, .bool p_4]⟩, .pointer x5, .pointer x6] K = g56 p_1 p_2 p_3 p_4 x5 x6 K := by kernel_rfl
theorem c56 (p_1 : Int) (p_2 : ByteArray) (p_3 : Int) (p_4 : Bool) (x5 : Option Addr) (x6 : Option Addr) {K : Value → H → Prop} {σ : H} (h : g56 p_1 p_2 p_3 p_4 x5 x6 K σ) : callW Tryz.prog 56 [.agg ⟨[.int .i64 p_1, .string p_2, .int .i64 p_3, .bool p_4]⟩, .pointer x5, .pointer x6] K σ := call_of_body mixed Tryz.func56 (by rw [e56]; exact h)


/-- whisk/tree.Size -/
def an57 : Ann := (.seq none (.reg [] []) (.seq none (.seq none (.reg [] []) (.cond (.seq none (.reg [] []) .leaf) .leaf)) (.seq none (.reg [] []) .leaf)))
def g57 (n_1 : ByteArray) (n_2 : Int) (n_3 : Bool) (n_4 : ByteArray) (n_5 : Sl) (K : Value → H → Prop) : H → Prop :=
  alW (.cells ⟨[.string n_1, .int .i64 n_2, .bool n_3, .string n_4, .slice n_5.base n_5.len n_5.cap]⟩ 24 (0, 0)) (fun (b6 : Nat) =>
   rdT (rdA 5 b6 0) (.one (.agg [.str, (.int .i64), .bool, .str, .slc])) (fun (x7 : ByteArray) (x8 : Int) (x9 : Bool) (x10 : ByteArray) (x11 : Sl) =>
    callT Tryz.prog 76 [.agg ⟨[.string x7, .int .i64 x8, .bool x9, .string x10, .slice x11.base x11.len x11.cap]⟩] kB (fun (x12 : Bool) =>
     brW x12
     (K (.tuple ⟨[.int .i64 0, .int .i64 0]⟩))
     (rdT (rdA 5 b6 0) (.one (.agg [.str, (.int .i64), .bool, .str, .slc])) (fun (x13 : ByteArray) (x14 : Int) (x15 : Bool) (x16 : ByteArray) (x17 : Sl) =>
       callT Tryz.prog 113 [.agg ⟨[.string x13, .int .i64 x14, .bool x15, .string x16, .slice x17.base x17.len x17.cap]⟩] (.tup [.sc (.int .i64), .sc (.int .i64)]) (fun (x18 : Int) (x19 : Int) =>
        K (.tuple ⟨[.int .i64 x18, .int .i64 x19]⟩)))))))
theorem e57 (n_1 : ByteArray) (n_2 : Int) (n_3 : Bool) (n_4 : ByteArray) (n_5 : Sl) (K : Value → H → Prop) : bodyF Tryz.prog tau Tryz.f57 an57 [.agg ⟨[.string n_1, .int .i64 n_2, .bool n_3, .string n_4, .slice n_5.base n_5.len n_5.cap]⟩] K = g57 n_1 n_2 n_3 n_4 n_5 K := by kernel_rfl
theorem c57 (n_1 : ByteArray) (n_2 : Int) (n_3 : Bool) (n_4 : ByteArray) (n_5 : Sl) {K : Value → H → Prop} {σ : H} (h : g57 n_1 n_2 n_3 n_4 n_5 K σ) : callW Tryz.prog 57 [.agg ⟨[.string n_1, .int .i64 n_2, .bool n_3, .string n_4, .slice n_5.base n_5.len n_5.cap]⟩] K σ := call_of_body mixed Tryz.func57 (by rw [e57]; exact h)


/-- (*whisk/inode.Table).Quota -/
def an58 : Ann := (.seq none (.reg [] []) (.seq none (.seq none (.reg [] []) (.cond (.seq none (.reg [] []) .leaf) .leaf)) (.seq none (.reg [] []) .leaf)))
def g58 (t_1 : Option Addr) (K : Value → H → Prop) : H → Prop :=
  alW (.cells ⟨[.int .i64 0, .int .i64 0]⟩ 31 (0, 0)) (fun (b2 : Nat) =>
   brW t_1.isNone
   (stW Tryz.prog 31 (.pointer (some ⟨b2, 0, none⟩)) (.agg ⟨[.int .i64 0, .int .i64 0]⟩) (rdT (rdA 2 b2 0) (.one (.agg [(.int .i64), (.int .i64)])) (fun (r3 : Int) (r4 : Int) =>
      K (.agg ⟨[.int .i64 r3, .int .i64 r4]⟩))))
   (ptrW t_1 (fun (b5 o6 : Nat) =>
     rdT (rdA 2 b5 o6) (.one (.agg [(.int .i64), (.int .i64)])) (fun (x7 : Int) (x8 : Int) =>
      stW Tryz.prog 31 (.pointer (some ⟨b2, 0, none⟩)) (.agg ⟨[.int .i64 x7, .int .i64 x8]⟩) (rdT (rdA 2 b2 0) (.one (.agg [(.int .i64), (.int .i64)])) (fun (r9 : Int) (r10 : Int) =>
        K (.agg ⟨[.int .i64 r9, .int .i64 r10]⟩)))))))
theorem e58 (t_1 : Option Addr) (K : Value → H → Prop) : bodyF Tryz.prog tau Tryz.f58 an58 [.pointer t_1] K = g58 t_1 K := by kernel_rfl
theorem c58 (t_1 : Option Addr) {K : Value → H → Prop} {σ : H} (h : g58 t_1 K σ) : callW Tryz.prog 58 [.pointer t_1] K σ := call_of_body mixed Tryz.func58 (by rw [e58]; exact h)


/-- whisk/fs.levels -/
def an59 : Ann := (.seq none (.reg [] []) (.seq none (.seq none (.reg [] []) (.cond (.seq none (.reg [] []) .leaf) .leaf)) (.seq none (.reg [] []) (.seq none (.seq none (.reg [] []) (.blk (.loop [(3, .sc (.int .i64)), (10, .sc .slc), (11, .sc (.int .i64)), (12, .sc (.int .i64))] (.seq none (.reg [] []) (.seq none (.cond .leaf .leaf) (.seq none (.blk (.seq none (.reg [] []) (.reg [] []))) (.reg [] []))))))) (.seq none (.reg [] []) .leaf)))))
def g59 (n_1 : ByteArray) (n_2 : Int) (n_3 : Bool) (n_4 : ByteArray) (n_5 : Sl) (K : Value → H → Prop) : H → Prop :=
  alW (.cells ⟨[.string n_1, .int .i64 n_2, .bool n_3, .string n_4, .slice n_5.base n_5.len n_5.cap]⟩ 24 (0, 0)) (fun (b6 : Nat) =>
   rdT (rdC b6 1) kI (fun (x7 : Int) =>
    brW ((x7 : Int) != 2)
    (K (.int .i64 0))
    (rdT (rdC b6 4) kL (fun (x8 : Sl) =>
      loopW [.sc (.int .i64), .sc .slc, .sc (.int .i64), .sc (.int .i64)] (fun (R9 : Int → Sl → Int → Int → H → Prop) => (fun (most_10 : Int) (x11 : Sl) (x12 : Int) (x13 : Int) =>
        brW (decide ((x13 : Int) < x12))
        (ptrW x11.base (fun (b14 o15 : Nat) =>
          ifW (0 ≤ x13 ∧ x13 < ((x11.len : Nat) : Int))
          (rdT (rdA 5 b14 (o15 + x13.toNat * 5)) (.one (.agg [.str, (.int .i64), .bool, .str, .slc])) (fun (x16 : ByteArray) (x17 : Int) (x18 : Bool) (x19 : ByteArray) (x20 : Sl) =>
            alW (.cells ⟨[.string (⟨⟨[]⟩⟩ : ByteArray), .int .i64 0, .bool false, .string (⟨⟨[]⟩⟩ : ByteArray), .slice none 0 0]⟩ 24 (0, 0)) (fun (b21 : Nat) =>
             stW Tryz.prog 24 (.pointer (some ⟨b21, 0, none⟩)) (.agg ⟨[.string x16, .int .i64 x17, .bool x18, .string x19, .slice x20.base x20.len x20.cap]⟩) (rdT (rdA 5 b21 0) (.one (.agg [.str, (.int .i64), .bool, .str, .slc])) (fun (x22 : ByteArray) (x23 : Int) (x24 : Bool) (x25 : ByteArray) (x26 : Sl) =>
               callT Tryz.prog 59 [.agg ⟨[.string x22, .int .i64 x23, .bool x24, .string x25, .slice x26.base x26.len x26.cap]⟩] kI (fun (x27 : Int) =>
                R9 (if x27 > most_10 then x27 else most_10) x11 x12 (IntKind.i64.wrap (x13 + 1))))))))))
        (K (.int .i64 (IntKind.i64.wrap (most_10 + 1)))))) (fun (R28 : Int → Sl → Int → Int → H → Prop) => R28 0 x8 ((x8.len : Nat) : Int) 0)))))
theorem e59 (n_1 : ByteArray) (n_2 : Int) (n_3 : Bool) (n_4 : ByteArray) (n_5 : Sl) (K : Value → H → Prop) : bodyF Tryz.prog tau Tryz.f59 an59 [.agg ⟨[.string n_1, .int .i64 n_2, .bool n_3, .string n_4, .slice n_5.base n_5.len n_5.cap]⟩] K = g59 n_1 n_2 n_3 n_4 n_5 K := by kernel_rfl
theorem c59 (n_1 : ByteArray) (n_2 : Int) (n_3 : Bool) (n_4 : ByteArray) (n_5 : Sl) {K : Value → H → Prop} {σ : H} (h : g59 n_1 n_2 n_3 n_4 n_5 K σ) : callW Tryz.prog 59 [.agg ⟨[.string n_1, .int .i64 n_2, .bool n_3, .string n_4, .slice n_5.base n_5.len n_5.cap]⟩] K σ := call_of_body mixed Tryz.func59 (by rw [e59]; exact h)


/-- (*whisk/fs.Fs).lay -/
def an60 : Ann := (.seq none (.reg [] []) (.seq none (.reg [] []) (.seq (some [(0, .sc .ptr), (1, .sc (.int .i64)), (2, .sc .str), (7, .sc .ptr), (9, .sc (.int .i64))]) (.seq none (.reg [] []) (.cond (.reg [] []) .leaf)) (.seq none (.reg [0, 1, 2, 3, 4, 5, 6, 7, 8, 9, 10, 11, 12, 13, 14, 15, 16] [[], [0], [0, 1], [0, 1, 2], [], [], [], [6], [], [], [9], [0, 1, 2, 3, 4, 5, 6, 7, 8, 9, 10], [0, 1, 2, 3, 4, 5, 6, 7, 8, 9, 10, 11], [0, 1, 2, 3, 4, 5, 6, 7, 8, 9, 10, 11, 12], [0, 1, 2, 3, 4, 5, 6, 7, 8, 9, 10, 11, 12], [0, 1, 2, 3, 4, 5, 6, 7, 8, 9, 10, 11, 12, 13], [0, 1, 2, 3, 4, 5, 6, 7, 8, 9, 10, 11, 12, 13, 14, 15]]) (.seq none (.seq none (.reg [] []) (.blk (.loop [(0, .sc .ptr), (10, .sc (.int .i64)), (11, .sc (.int .i64)), (37, .sc .slc), (38, .sc (.int .i64)), (39, .sc (.int .i64))] (.seq none (.reg [] []) (.seq none (.cond .leaf .leaf) (.seq (some [(0, .sc .ptr), (10, .sc (.int .i64)), (11, .sc (.int .i64)), (37, .sc .slc), (38, .sc (.int .i64)), (39, .sc (.int .i64))]) (.blk (.seq none (.reg [] []) (.seq none (.reg [] []) (.cond (.reg [] []) .leaf)))) (.reg [] []))))))) (.seq none (.reg [] []) .leaf))))))
def g60 (f_1 : Option Addr) (dir_2 : Int) (name_3 : ByteArray) (n_4 : ByteArray) (n_5 : Int) (n_6 : Bool) (n_7 : ByteArray) (n_8 : Sl) (K : Value → H → Prop) : H → Prop :=
  alW (.cells ⟨[.string n_4, .int .i64 n_5, .bool n_6, .string n_7, .slice n_8.base n_8.len n_8.cap]⟩ 24 (0, 0)) (fun (b9 : Nat) =>
   alW (.map #[] 0) (fun (b10 : Nat) =>
    muW Tryz.prog 154 (.map (some b10)) (.int .i64 1) (.int .i64 420) (muW Tryz.prog 154 (.map (some b10)) (.int .i64 2) (.int .i64 493) (muW Tryz.prog 154 (.map (some b10)) (.int .i64 3) (.int .i64 511) (rdT (rdC b9 1) kI (fun (x11 : Int) =>
        rdT (rdM (.int .i64) (.int .i64 0) false (some b10) (.int .i64 x11)) kI (fun (x12 : Int) =>
         letJ (T := Option Addr → Int → ByteArray → Option Addr → Int → H → Prop) (fun (f_14 : Option Addr) (dir_15 : Int) (name_16 : ByteArray) (n_17 : Option Addr) (mode_18 : Int) =>
          ptrW f_14 (fun (b19 o20 : Nat) =>
           rdT (rdC b19 o20) kP (fun (x21 : Option Addr) =>
            ptrW n_17 (fun (b22 o23 : Nat) =>
             rdT (rdC b22 (o23 + 1)) kI (fun (x24 : Int) =>
              ptrW n_17 (fun (b25 o26 : Nat) =>
               rdT (rdC b25 (o26 + 3)) kS (fun (x27 : ByteArray) =>
                callT Tryz.prog 53 [.pointer x21, .int .i64 dir_15, .string name_16, .int .i64 x24, .int .i64 mode_18, .string x27] (.tup [.sc (.int .i64), .sc (.int .i64)]) (fun (x28 : Int) (x29 : Int) =>
                 ptrW n_17 (fun (b30 o31 : Nat) =>
                  rdT (rdC b30 (o31 + 4)) kL (fun (x32 : Sl) =>
                   loopW [.sc .ptr, .sc (.int .i64), .sc (.int .i64), .sc .slc, .sc (.int .i64), .sc (.int .i64)] (fun (R33 : Option Addr → Int → Int → Sl → Int → Int → H → Prop) => (fun (f_34 : Option Addr) (ino_35 : Int) (e_36 : Int) (x37 : Sl) (x38 : Int) (x39 : Int) =>
                     brW (decide ((x39 : Int) < x38))
                     (letJ (T := Option Addr → Int → Int → Sl → Int → Int → H → Prop) (fun (f_41 : Option Addr) (ino_42 : Int) (e_43 : Int) (x44 : Sl) (x45 : Int) (x46 : Int) =>
                      R33 f_41 ino_42 e_43 x44 x45 (IntKind.i64.wrap (x46 + 1))) (fun j40 =>
                      ptrW x37.base (fun (b47 o48 : Nat) =>
                      ifW (0 ≤ x39 ∧ x39 < ((x37.len : Nat) : Int))
                      (rdT (rdA 5 b47 (o48 + x39.toNat * 5)) (.one (.agg [.str, (.int .i64), .bool, .str, .slc])) (fun (x49 : ByteArray) (x50 : Int) (x51 : Bool) (x52 : ByteArray) (x53 : Sl) =>
                      alW (.cells ⟨[.string (⟨⟨[]⟩⟩ : ByteArray), .int .i64 0, .bool false, .string (⟨⟨[]⟩⟩ : ByteArray), .slice none 0 0]⟩ 24 (0, 0)) (fun (b54 : Nat) =>
                      stW Tryz.prog 24 (.pointer (some ⟨b54, 0, none⟩)) (.agg ⟨[.string x49, .int .i64 x50, .bool x51, .string x52, .slice x53.base x53.len x53.cap]⟩) (brW ((e_36 : Int) == 0)
                      (rdT (rdC b54 0) kS (fun (x55 : ByteArray) =>
                      rdT (rdA 5 b54 0) (.one (.agg [.str, (.int .i64), .bool, .str, .slc])) (fun (x56 : ByteArray) (x57 : Int) (x58 : Bool) (x59 : ByteArray) (x60 : Sl) =>
                      callT Tryz.prog 60 [.pointer f_34, .int .i64 ino_35, .string x55, .agg ⟨[.string x56, .int .i64 x57, .bool x58, .string x59, .slice x60.base x60.len x60.cap]⟩] kI (fun (x61 : Int) =>
                      j40 f_34 ino_35 x61 x37 x38 x39))))
                      (j40 f_34 ino_35 e_36 x37 x38 x39))))))))
                     (K (.int .i64 e_36)))) (fun (R62 : Option Addr → Int → Int → Sl → Int → Int → H → Prop) => R62 f_14 x28 x29 x32 ((x32.len : Nat) : Int) 0))))))))))) (fun j13 =>
          rdT (rdC b9 2) kB (fun (x63 : Bool) =>
           brW x63
           (j13 f_1 dir_2 name_3 (some ⟨b9, 0, none⟩) 493)
           (j13 f_1 dir_2 name_3 (some ⟨b9, 0, none⟩) x12))))))))))
theorem e60 (f_1 : Option Addr) (dir_2 : Int) (name_3 : ByteArray) (n_4 : ByteArray) (n_5 : Int) (n_6 : Bool) (n_7 : ByteArray) (n_8 : Sl) (K : Value → H → Prop) : bodyF Tryz.prog tau Tryz.f60 an60 [.pointer f_1, .int .i64 dir_2, .string name_3, .agg ⟨[.string n_4, .int .i64 n_5, .bool n_6, .string n_7, .slice n_8.base n_8.len n_8.cap]⟩] K = g60 f_1 dir_2 name_3 n_4 n_5 n_6 n_7 n_8 K := by kernel_rfl
theorem c60 (f_1 : Option Addr) (dir_2 : Int) (name_3 : ByteArray) (n_4 : ByteArray) (n_5 : Int) (n_6 : Bool) (n_7 : ByteArray) (n_8 : Sl) {K : Value → H → Prop} {σ : H} (h : g60 f_1 dir_2 name_3 n_4 n_5 n_6 n_7 n_8 K σ) : callW Tryz.prog 60 [.pointer f_1, .int .i64 dir_2, .string name_3, .agg ⟨[.string n_4, .int .i64 n_5, .bool n_6, .string n_7, .slice n_8.base n_8.len n_8.cap]⟩] K σ := call_of_body mixed Tryz.func60 (by rw [e60]; exact h)


/-- (*whisk/inode.Table).Used -/
def an61 : Ann := (.seq none (.reg [] []) (.seq none (.seq none (.reg [] []) (.cond (.seq none (.reg [] []) .leaf) .leaf)) (.seq none (.reg [] []) .leaf)))
def g61 (t_1 : Option Addr) (K : Value → H → Prop) : H → Prop :=
  alW (.cells ⟨[.int .i64 0, .int .i64 0]⟩ 31 (0, 0)) (fun (b2 : Nat) =>
   brW t_1.isNone
   (stW Tryz.prog 31 (.pointer (some ⟨b2, 0, none⟩)) (.agg ⟨[.int .i64 0, .int .i64 0]⟩) (rdT (rdA 2 b2 0) (.one (.agg [(.int .i64), (.int .i64)])) (fun (r3 : Int) (r4 : Int) =>
      K (.agg ⟨[.int .i64 r3, .int .i64 r4]⟩))))
   (ptrW t_1 (fun (b5 o6 : Nat) =>
     rdT (rdA 2 b5 (o6 + 2)) (.one (.agg [(.int .i64), (.int .i64)])) (fun (x7 : Int) (x8 : Int) =>
      stW Tryz.prog 31 (.pointer (some ⟨b2, 0, none⟩)) (.agg ⟨[.int .i64 x7, .int .i64 x8]⟩) (rdT (rdA 2 b2 0) (.one (.agg [(.int .i64), (.int .i64)])) (fun (r9 : Int) (r10 : Int) =>
        K (.agg ⟨[.int .i64 r9, .int .i64 r10]⟩)))))))
theorem e61 (t_1 : Option Addr) (K : Value → H → Prop) : bodyF Tryz.prog tau Tryz.f61 an61 [.pointer t_1] K = g61 t_1 K := by kernel_rfl
theorem c61 (t_1 : Option Addr) {K : Value → H → Prop} {σ : H} (h : g61 t_1 K σ) : callW Tryz.prog 61 [.pointer t_1] K σ := call_of_body mixed Tryz.func61 (by rw [e61]; exact h)


/-- (*whisk/fs.Fs).locate -/
def an62 : Ann := (.seq none (.reg [] []) (.seq none (.seq none (.reg [] []) (.cond (.seq none (.reg [] []) .leaf) .leaf)) (.seq none (.reg [] []) (.seq none (.seq none (.reg [] []) (.cond (.seq none (.reg [] []) .leaf) .leaf)) (.seq (some [(0, .sc .ptr), (2, .sc .str), (3, .sc .bool), (8, .sc .ptr), (10, .sc (.int .i64)), (11, .sc .ptr)]) (.seq none (.reg [] []) (.cond (.seq none (.seq none (.reg [] []) (.cond (.seq none (.reg [] []) .leaf) .leaf)) (.seq none (.reg [] []) (.seq none (.blk (.seq none (.reg [] []) (.cond (.seq none (.reg [] []) .leaf) (.seq none (.reg [] []) (.cond (.seq none (.reg [] []) .leaf) (.seq none (.reg [] []) (.cond (.seq none (.reg [] []) .leaf) .leaf))))))) (.reg [] [])))) .leaf)) (.seq none (.reg [] []) .leaf))))))
def g62 (f_1 : Option Addr) (cwd_2 : ByteArray) (path_3 : ByteArray) (follow_4 : Bool) (K : Value → H → Prop) : H → Prop :=
  alW (.cells ⟨[.int .i64 0, .string (⟨⟨[]⟩⟩ : ByteArray), .int .i64 0, .bool false]⟩ 86 (0, 0)) (fun (b5 : Nat) =>
   callT Tryz.prog 54 [.pointer f_1] kB (fun (x6 : Bool) =>
    brW x6
    (stW Tryz.prog 86 (.pointer (some ⟨b5, 0, none⟩)) (.agg ⟨[.int .i64 0, .string (⟨⟨[]⟩⟩ : ByteArray), .int .i64 0, .bool false]⟩) (rdT (rdA 4 b5 0) (.one (.agg [(.int .i64), .str, (.int .i64), .bool])) (fun (r7 : Int) (r8 : ByteArray) (r9 : Int) (r10 : Bool) =>
       K (.tuple ⟨[.agg ⟨[.int .i64 r7, .string r8, .int .i64 r9, .bool r10]⟩, .int .i64 1]⟩))))
    (ptrW f_1 (fun (b11 o12 : Nat) =>
      rdT (rdC b11 o12) kP (fun (x13 : Option Addr) =>
       callT Tryz.prog 100 [.pointer x13] kI (fun (x14 : Int) =>
        alW (.cells ⟨[.int .i64 0]⟩ 3 (0, 0)) (fun (b15 : Nat) =>
         stW Tryz.prog 3 (.pointer (some ⟨b15, 0, none⟩)) (.int .i64 8) (brW (strEq path_3 (⟨⟨[]⟩⟩ : ByteArray))
          (stW Tryz.prog 86 (.pointer (some ⟨b5, 0, none⟩)) (.agg ⟨[.int .i64 0, .string (⟨⟨[]⟩⟩ : ByteArray), .int .i64 0, .bool false]⟩) (rdT (rdA 4 b5 0) (.one (.agg [(.int .i64), .str, (.int .i64), .bool])) (fun (r16 : Int) (r17 : ByteArray) (r18 : Int) (r19 : Bool) =>
             K (.tuple ⟨[.agg ⟨[.int .i64 r16, .string r17, .int .i64 r18, .bool r19]⟩, .int .i64 5]⟩))))
          (letJ (T := Option Addr → ByteArray → Bool → Option Addr → Int → Option Addr → H → Prop) (fun (f_21 : Option Addr) (path_22 : ByteArray) (follow_23 : Bool) (x24 : Option Addr) (at_25 : Int) (hops_26 : Option Addr) =>
            callT Tryz.prog 114 [.pointer f_21, .int .i64 at_25, .string path_22, .bool follow_23, .pointer hops_26] (.tup [.agg [(.int .i64), .str, (.int .i64), .bool], .sc (.int .i64)]) (fun (x27 : Int) (x28 : ByteArray) (x29 : Int) (x30 : Bool) (x31 : Int) =>
             stW Tryz.prog 86 (.pointer x24) (.agg ⟨[.int .i64 x27, .string x28, .int .i64 x29, .bool x30]⟩) (ptrW x24 (fun (b32 o33 : Nat) =>
               rdT (rdA 4 b32 o33) (.one (.agg [(.int .i64), .str, (.int .i64), .bool])) (fun (r34 : Int) (r35 : ByteArray) (r36 : Int) (r37 : Bool) =>
                K (.tuple ⟨[.agg ⟨[.int .i64 r34, .string r35, .int .i64 r36, .bool r37]⟩, .int .i64 x31]⟩)))))) (fun j20 =>
            idxW path_3 0 (fun (c38 : UInt8) =>
             brW (((c38.toNat : Int) : Int) != 47)
             (callT Tryz.prog 92 [.string cwd_2, .string (⟨⟨[47]⟩⟩ : ByteArray)] kB (fun (x39 : Bool) =>
               brW (!x39)
               (stW Tryz.prog 86 (.pointer (some ⟨b5, 0, none⟩)) (.agg ⟨[.int .i64 0, .string (⟨⟨[]⟩⟩ : ByteArray), .int .i64 0, .bool false]⟩) (rdT (rdA 4 b5 0) (.one (.agg [(.int .i64), .str, (.int .i64), .bool])) (fun (r40 : Int) (r41 : ByteArray) (r42 : Int) (r43 : Bool) =>
                  K (.tuple ⟨[.agg ⟨[.int .i64 r40, .string r41, .int .i64 r42, .bool r43]⟩, .int .i64 5]⟩))))
               (callT Tryz.prog 114 [.pointer f_1, .int .i64 x14, .string cwd_2, .bool true, .pointer (some ⟨b15, 0, none⟩)] (.tup [.agg [(.int .i64), .str, (.int .i64), .bool], .sc (.int .i64)]) (fun (x44 : Int) (x45 : ByteArray) (x46 : Int) (x47 : Bool) (x48 : Int) =>
                 alW (.cells ⟨[.int .i64 0, .string (⟨⟨[]⟩⟩ : ByteArray), .int .i64 0, .bool false]⟩ 86 (0, 0)) (fun (b49 : Nat) =>
                  stW Tryz.prog 86 (.pointer (some ⟨b49, 0, none⟩)) (.agg ⟨[.int .i64 x44, .string x45, .int .i64 x46, .bool x47]⟩) (brW ((x48 : Int) != 0)
                   (stW Tryz.prog 86 (.pointer (some ⟨b5, 0, none⟩)) (.agg ⟨[.int .i64 0, .string (⟨⟨[]⟩⟩ : ByteArray), .int .i64 0, .bool false]⟩) (rdT (rdA 4 b5 0) (.one (.agg [(.int .i64), .str, (.int .i64), .bool])) (fun (r50 : Int) (r51 : ByteArray) (r52 : Int) (r53 : Bool) =>
                      K (.tuple ⟨[.agg ⟨[.int .i64 r50, .string r51, .int .i64 r52, .bool r53]⟩, .int .i64 x48]⟩))))
                   (rdT (rdC b49 3) kB (fun (x54 : Bool) =>
                     brW (!x54)
                     (stW Tryz.prog 86 (.pointer (some ⟨b5, 0, none⟩)) (.agg ⟨[.int .i64 0, .string (⟨⟨[]⟩⟩ : ByteArray), .int .i64 0, .bool false]⟩) (rdT (rdA 4 b5 0) (.one (.agg [(.int .i64), .str, (.int .i64), .bool])) (fun (r55 : Int) (r56 : ByteArray) (r57 : Int) (r58 : Bool) =>
                      K (.tuple ⟨[.agg ⟨[.int .i64 r55, .string r56, .int .i64 r57, .bool r58]⟩, .int .i64 5]⟩))))
                     (rdT (rdC b49 2) kI (fun (x59 : Int) =>
                      callT Tryz.prog 70 [.pointer f_1, .int .i64 x59] kI (fun (x60 : Int) =>
                      brW ((x60 : Int) != 2)
                      (stW Tryz.prog 86 (.pointer (some ⟨b5, 0, none⟩)) (.agg ⟨[.int .i64 0, .string (⟨⟨[]⟩⟩ : ByteArray), .int .i64 0, .bool false]⟩) (rdT (rdA 4 b5 0) (.one (.agg [(.int .i64), .str, (.int .i64), .bool])) (fun (r61 : Int) (r62 : ByteArray) (r63 : Int) (r64 : Bool) =>
                      K (.tuple ⟨[.agg ⟨[.int .i64 r61, .string r62, .int .i64 r63, .bool r64]⟩, .int .i64 8]⟩))))
                      (rdT (rdC b49 2) kI (fun (x65 : Int) =>
                      stW Tryz.prog 3 (.pointer (some ⟨b15, 0, none⟩)) (.int .i64 8) (j20 f_1 path_3 follow_4 (some ⟨b5, 0, none⟩) x65 (some ⟨b15, 0, none⟩)))))))))))))))
             (j20 f_1 path_3 follow_4 (some ⟨b5, 0, none⟩) x14 (some ⟨b15, 0, none⟩)))))))))))))
theorem e62 (f_1 : Option Addr) (cwd_2 : ByteArray) (path_3 : ByteArray) (follow_4 : Bool) (K : Value → H → Prop) : bodyF Tryz.prog tau Tryz.f62 an62 [.pointer f_1, .string cwd_2, .string path_3, .bool follow_4] K = g62 f_1 cwd_2 path_3 follow_4 K := by kernel_rfl
theorem c62 (f_1 : Option Addr) (cwd_2 : ByteArray) (path_3 : ByteArray) (follow_4 : Bool) {K : Value → H → Prop} {σ : H} (h : g62 f_1 cwd_2 path_3 follow_4 K σ) : callW Tryz.prog 62 [.pointer f_1, .string cwd_2, .string path_3, .bool follow_4] K σ := call_of_body mixed Tryz.func62 (by rw [e62]; exact h)


/-- (*whisk/inode.Table).Node -/
def an63 : Ann := (.seq none (.reg [] []) (.seq none (.reg [] []) (.seq none (.seq none (.reg [] []) (.cond (.seq none (.reg [] []) .leaf) .leaf)) (.seq none (.reg [] []) .leaf))))
def g63 (t_1 : Option Addr) (ino_2 : Int) (K : Value → H → Prop) : H → Prop :=
  alW (.cells ⟨[.int .i64 0, .int .i64 0, .string (⟨⟨[]⟩⟩ : ByteArray), .int .i64 0]⟩ 54 (0, 0)) (fun (b3 : Nat) =>
   callT Tryz.prog 115 [.pointer t_1, .int .i64 ino_2] kP (fun (x4 : Option Addr) =>
    brW x4.isNone
    (stW Tryz.prog 54 (.pointer (some ⟨b3, 0, none⟩)) (.agg ⟨[.int .i64 0, .int .i64 0, .string (⟨⟨[]⟩⟩ : ByteArray), .int .i64 0]⟩) (rdT (rdA 4 b3 0) (.one (.agg [(.int .i64), (.int .i64), .str, (.int .i64)])) (fun (r5 : Int) (r6 : Int) (r7 : ByteArray) (r8 : Int) =>
       K (.tuple ⟨[.agg ⟨[.int .i64 r5, .int .i64 r6, .string r7, .int .i64 r8]⟩, .bool false]⟩))))
    (ptrW x4 (fun (b9 o10 : Nat) =>
      rdT (rdA 4 b9 o10) (.one (.agg [(.int .i64), (.int .i64), .str, (.int .i64)])) (fun (x11 : Int) (x12 : Int) (x13 : ByteArray) (x14 : Int) =>
       stW Tryz.prog 54 (.pointer (some ⟨b3, 0, none⟩)) (.agg ⟨[.int .i64 x11, .int .i64 x12, .string x13, .int .i64 x14]⟩) (rdT (rdA 4 b3 0) (.one (.agg [(.int .i64), (.int .i64), .str, (.int .i64)])) (fun (r15 : Int) (r16 : Int) (r17 : ByteArray) (r18 : Int) =>
         K (.tuple ⟨[.agg ⟨[.int .i64 r15, .int .i64 r16, .string r17, .int .i64 r18]⟩, .bool true]⟩))))))))
theorem e63 (t_1 : Option Addr) (ino_2 : Int) (K : Value → H → Prop) : bodyF Tryz.prog tau Tryz.f63 an63 [.pointer t_1, .int .i64 ino_2] K = g63 t_1 ino_2 K := by kernel_rfl
theorem c63 (t_1 : Option Addr) (ino_2 : Int) {K : Value → H → Prop} {σ : H} (h : g63 t_1 ino_2 K σ) : callW Tryz.prog 63 [.pointer t_1, .int .i64 ino_2] K σ := call_of_body mixed Tryz.func63 (by rw [e63]; exact h)


/-- (*whisk/inode.Table).Write -/
def an64 : Ann := (.seq none (.reg [] []) (.seq none (.reg [] []) (.seq none (.seq none (.reg [0, 1, 2, 3, 4, 5, 6, 7, 8] [[], [0], [], [], [2, 3], [], [0, 1, 2, 3, 4, 5], [0, 1, 2, 3, 4, 5, 6], [0, 1, 2, 3, 4, 5, 6, 7]]) (.seq none (.reg [] []) (.cond (.seq none (.reg [] []) .leaf) .leaf))) (.seq none (.reg [0, 1, 2, 3, 4, 5, 6] [[], [0], [0, 1], [0, 1, 2], [], [0, 1, 2, 3, 4], [0, 1, 2, 3, 4, 5]]) (.seq none (.reg [0, 1, 2, 3, 4, 5, 6, 7, 8, 9, 10, 11, 12, 13, 14, 15, 16, 17, 18] [[], [0], [0, 1], [0, 1, 2], [0, 1, 2, 3], [], [5], [], [7], [7, 8], [7, 8, 9], [7, 8, 9, 10], [7, 8, 9, 10, 11], [5, 6, 7, 8, 9, 10, 11, 12], [0, 1, 2, 3, 4, 5, 6, 7, 8, 9, 10, 11, 12, 13], [0, 1, 2, 3, 4, 5, 6, 7, 8, 9, 10, 11, 12, 13, 14], [0, 1, 2, 3, 4, 5, 6, 7, 8, 9, 10, 11, 12, 13, 14, 15], [0, 1, 2, 3, 4, 5, 6, 7, 8, 9, 10, 11, 12, 13, 14, 15, 16], [0, 1, 2, 3, 4, 5, 6, 7, 8, 9, 10, 11, 12, 13, 14, 15, 16, 17]]) (.seq none (.reg [] []) (.seq none (.reg [] []) .leaf)))))))
def g64 (t_1 : Option Addr) (ino_2 : Int) (data_3 : ByteArray) (K : Value → H → Prop) : H → Prop :=
  alW (.cells ⟨[.pointer t_1]⟩ 80 (0, 0)) (fun (b4 : Nat) =>
   alW (.cells ⟨[.int .i64 ino_2]⟩ 3 (0, 0)) (fun (b5 : Nat) =>
    alW (.cells ⟨[.string data_3]⟩ 9 (0, 0)) (fun (b6 : Nat) =>
     rdT (rdC b4 0) kP (fun (x7 : Option Addr) =>
      rdT (rdC b4 0) kP (fun (x8 : Option Addr) =>
       rdT (rdC b5 0) kI (fun (x9 : Int) =>
        callT Tryz.prog 117 [.pointer x8, .int .i64 x9] kR (fun (x10 : Value) =>
         andW (fun σ => (rdC b4 0) σ = some (.pointer x7))
         (oneK x10
          (alW (.cells ⟨[.func (.func 106) ⟨[.pointer x7]⟩ ⟨[]⟩, x10, .func (.func 116) ⟨[]⟩ ⟨[.pointer (some ⟨b4, 0, none⟩), .pointer (some ⟨b6, 0, none⟩), .pointer (some ⟨b5, 0, none⟩)]⟩]⟩ 148 (0, 0)) (fun (b11 : Nat) =>
            callT Tryz.prog 105 [.slice (some ⟨b11, 0, none⟩) 3 3] kI (fun (x12 : Int) =>
             brW ((x12 : Int) != 0)
             (K (.int .i64 x12))
             (rdT (rdC b4 0) kP (fun (x13 : Option Addr) =>
               ptrW x13 (fun (b14 o15 : Nat) =>
                rdT (rdC b14 (o15 + 4)) kM (fun (x16 : Option Nat) =>
                 rdT (rdC b5 0) kI (fun (x17 : Int) =>
                  rdT (rdM (.int .i64) (.pointer none) false x16 (.int .i64 x17)) kP (fun (x18 : Option Addr) =>
                   rdT (rdC b4 0) kP (fun (x19 : Option Addr) =>
                    ptrW x19 (fun (b20 o21 : Nat) =>
                     rdT (rdC b20 (o21 + 3)) kI (fun (x22 : Int) =>
                      rdT (rdC b6 0) kS (fun (x23 : ByteArray) =>
                      ptrW x18 (fun (b24 o25 : Nat) =>
                      rdT (rdC b24 (o25 + 2)) kS (fun (x26 : ByteArray) =>
                      ptrW x19 (fun (b27 o28 : Nat) =>
                      stW Tryz.prog 3 (.pointer (some ⟨b27, o28 + 3, none⟩)) (.int .i64 (IntKind.i64.wrap (x22 + (IntKind.i64.wrap (((x23.size : Nat) : Int) - ((x26.size : Nat) : Int)))))) (rdT (rdC b6 0) kS (fun (x29 : ByteArray) =>
                      ptrW x18 (fun (b30 o31 : Nat) =>
                      stW Tryz.prog 9 (.pointer (some ⟨b30, o31 + 2, none⟩)) (.string x29) (K (.int .i64 0)))))))))))))))))))))))))))))
theorem e64 (t_1 : Option Addr) (ino_2 : Int) (data_3 : ByteArray) (K : Value → H → Prop) : bodyF Tryz.prog tau Tryz.f64 an64 [.pointer t_1, .int .i64 ino_2, .string data_3] K = g64 t_1 ino_2 data_3 K := by kernel_rfl
theorem c64 (t_1 : Option Addr) (ino_2 : Int) (data_3 : ByteArray) {K : Value → H → Prop} {σ : H} (h : g64 t_1 ino_2 data_3 K σ) : callW Tryz.prog 64 [.pointer t_1, .int .i64 ino_2, .string data_3] K σ := call_of_body mixed Tryz.func64 (by rw [e64]; exact h)


/-- strings.IndexByte -/
def an65 : Ann := (.seq none (.reg [] []) (.seq none (.reg [] []) .leaf))
def g65 (s_1 : ByteArray) (c_2 : Int) (K : Value → H → Prop) : H → Prop :=
  callT Tryz.prog 118 [.string s_1, .int .u8 c_2] kI (fun (x3 : Int) =>
   K (.int .i64 x3))
theorem e65 (s_1 : ByteArray) (c_2 : Int) (K : Value → H → Prop) : bodyF Tryz.prog tau Tryz.f65 an65 [.string s_1, .int .u8 c_2] K = g65 s_1 c_2 K := by kernel_rfl
theorem c65 (s_1 : ByteArray) (c_2 : Int) {K : Value → H → Prop} {σ : H} (h : g65 s_1 c_2 K σ) : callW Tryz.prog 65 [.string s_1, .int .u8 c_2] K σ := call_of_body mixed Tryz.func65 (by rw [e65]; exact h)


/-- (*whisk/fs.Fs).Symlink$1 -/
def an66 : Ann := (.seq none (.reg [] []) (.seq none (.reg [0, 1, 2, 3, 4, 5, 6, 7, 8, 9, 10, 11, 12, 13, 14] [[], [0], [0, 1], [0, 1, 2], [], [4], [], [6], [], [0, 1, 2, 3, 4, 5, 6, 7, 8], [0, 1, 2, 3, 4, 5, 6, 7, 8, 9], [0, 1, 2, 3, 4, 5, 6, 7, 8, 9, 10], [0, 1, 2, 3, 4, 5, 6, 7, 8, 9, 10], [0, 1, 2, 3, 4, 5, 6, 7, 8, 9, 10, 11], [0, 1, 2, 3, 4, 5, 6, 7, 8, 9, 10, 11, 12, 13]]) (.seq none (.reg [] []) .leaf)))
def g66 (p_1 : Int) (p_2 : ByteArray) (p_3 : Int) (p_4 : Bool) (x5 : Option Addr) (x6 : Option Addr) (K : Value → H → Prop) : H → Prop :=
  alW (.cells ⟨[.int .i64 p_1, .string p_2, .int .i64 p_3, .bool p_4]⟩ 86 (0, 0)) (fun (b7 : Nat) =>
   ptrW x5 (fun (b8 o9 : Nat) =>
    rdT (rdC b8 o9) kP (fun (x10 : Option Addr) =>
     ptrW x10 (fun (b11 o12 : Nat) =>
      rdT (rdC b11 o12) kP (fun (x13 : Option Addr) =>
       rdT (rdC b7 0) kI (fun (x14 : Int) =>
        rdT (rdC b7 1) kS (fun (x15 : ByteArray) =>
         ptrW x6 (fun (b16 o17 : Nat) =>
          rdT (rdC b16 o17) kS (fun (x18 : ByteArray) =>
           callT Tryz.prog 53 [.pointer x13, .int .i64 x14, .string x15, .int .i64 3, .int .i64 511, .string x18] (.tup [.sc (.int .i64), .sc (.int .i64)]) (fun (_x19 : Int) (x20 : Int) =>
            K (.int .i64 x20)))))))))))
theorem e66 (p_1 : Int) (p_2 : ByteArray) (p_3 : Int) (p_4 : Bool) (x5 : Option Addr) (x6 : Option Addr) (K : Value → H → Prop) : bodyF Tryz.prog tau Tryz.f66 an66 [.agg ⟨[.int .i64 p_1, .string p_2, .int .i64 p_3, .bool p_4]⟩, .pointer x5, .pointer x6] K = g66 p_1 p_2 p_3 p_4 x5 x6 K := by kernel_rfl
theorem c66 (p_1 : Int) (p_2 : ByteArray) (p_3 : Int) (p_4 : Bool) (x5 : Option Addr) (x6 : Option Addr) {K : Value → H → Prop} {σ : H} (h : g66 p_1 p_2 p_3 p_4 x5 x6 K σ) : callW Tryz.prog 66 [.agg ⟨[.int .i64 p_1, .string p_2, .int .i64 p_3, .bool p_4]⟩, .pointer x5, .pointer x6] K σ := call_of_body mixed Tryz.func66 (by rw [e66]; exact h)


/-- (*whisk/inode.Table).Names -/
def an67 : Ann := (.seq none (.reg [] []) (.seq none (.reg [] []) (.seq none (.seq none (.reg [] []) (.cond (.seq none (.reg [] []) .leaf) .leaf)) (.seq none (.reg [] []) .leaf))))
def g67 (t_1 : Option Addr) (dir_2 : Int) (K : Value → H → Prop) : H → Prop :=
  callT Tryz.prog 115 [.pointer t_1, .int .i64 dir_2] kP (fun (x3 : Option Addr) =>
   brW x3.isNone
   (K (.slice none 0 0))
   (ptrW x3 (fun (b4 o5 : Nat) =>
     rdT (rdC b4 (o5 + 5)) kM (fun (x6 : Option Nat) =>
      callT Tryz.prog 120 [.map x6] kR (fun (x7 : Value) =>
       callT Tryz.prog 119 [x7] kL (fun (x8 : Sl) =>
        K (.slice x8.base x8.len x8.cap)))))))
theorem e67 (t_1 : Option Addr) (dir_2 : Int) (K : Value → H → Prop) : bodyF Tryz.prog tau Tryz.f67 an67 [.pointer t_1, .int .i64 dir_2] K = g67 t_1 dir_2 K := by kernel_rfl
theorem c67 (t_1 : Option Addr) (dir_2 : Int) {K : Value → H → Prop} {σ : H} (h : g67 t_1 dir_2 K σ) : callW Tryz.prog 67 [.pointer t_1, .int .i64 dir_2] K σ := call_of_body mixed Tryz.func67 (by rw [e67]; exact h)


/-- (*whisk/inode.Table).Unlink -/
def an68 : Ann := (.seq none (.reg [] []) (.seq none (.reg [] []) (.seq none (.seq none (.reg [0, 1, 2, 3, 5, 6, 7, 4, 8, 9, 10, 11, 12] [[], [0], [], [], [2, 3], [], [], [], [2, 3, 4, 5, 6, 7], [], [0, 1, 2, 3, 4, 5, 6, 7, 8, 9], [0, 1, 2, 3, 4, 5, 6, 7, 8, 9, 10], [0, 1, 2, 3, 4, 5, 6, 7, 8, 9, 10, 11]]) (.seq none (.reg [] []) (.cond (.seq none (.reg [] []) .leaf) .leaf))) (.seq none (.reg [] []) (.seq none (.reg [0, 1, 2, 3, 4, 5, 6, 7, 8, 9, 10] [[], [0], [0, 1], [0, 1, 2], [], [0, 1, 2, 3, 4], [0, 1, 2, 3, 4, 5], [0, 1, 2, 3, 4, 5, 6], [0, 1, 2, 3, 4, 5, 6, 7], [], [0, 1, 2, 3, 4, 5, 6, 7, 8, 9]]) (.seq none (.reg [] []) (.seq (some []) (.seq none (.reg [] []) (.seq none (.reg [] []) (.cond (.seq none (.reg [] []) (.seq none (.reg [] []) (.reg [0, 1, 2, 3, 4, 5, 6, 7, 8, 9, 10, 11, 12, 13, 14, 15] [[], [0], [0, 1], [0, 1, 2], [0, 1, 2, 3], [], [5], [5, 6], [5, 6, 7], [5, 6, 7, 8], [5, 6, 7, 8, 9], [0, 1, 2, 3, 4, 5, 6, 7, 8, 9, 10], [0, 1, 2, 3, 4, 5, 6, 7, 8, 9, 10, 11], [0, 1, 2, 3, 4, 5, 6, 7, 8, 9, 10, 11, 12], [0, 1, 2, 3, 4, 5, 6, 7, 8, 9, 10, 11, 12, 13], [0, 1, 2, 3, 4, 5, 6, 7, 8, 9, 10, 11, 12, 13, 14]]))) .leaf))) (.seq none (.reg [] []) .leaf))))))))
def g68 (t_1 : Option Addr) (dir_2 : Int) (name_3 : ByteArray) (K : Value → H → Prop) : H → Prop :=
  alW (.cells ⟨[.pointer t_1]⟩ 80 (0, 0)) (fun (b4 : Nat) =>
   alW (.cells ⟨[.int .i64 dir_2]⟩ 3 (0, 0)) (fun (b5 : Nat) =>
    alW (.cells ⟨[.string name_3]⟩ 9 (0, 0)) (fun (b6 : Nat) =>
     rdT (rdC b4 0) kP (fun (x7 : Option Addr) =>
      rdT (rdC b4 0) kP (fun (x8 : Option Addr) =>
       rdT (rdC b5 0) kI (fun (x9 : Int) =>
        rdT (rdC b4 0) kP (fun (x10 : Option Addr) =>
         rdT (rdC b5 0) kI (fun (x11 : Int) =>
          rdT (rdC b6 0) kS (fun (x12 : ByteArray) =>
           callT Tryz.prog 107 [.pointer x8, .int .i64 x9] kR (fun (x13 : Value) =>
            andW (fun σ => (rdC b6 0) σ = some (.string x12))
            (andW (fun σ => (rdC b5 0) σ = some (.int .i64 x11))
             (andW (fun σ => (rdC b4 0) σ = some (.pointer x10))
              (andW (fun σ => (rdC b4 0) σ = some (.pointer x7))
               (callT Tryz.prog 122 [.pointer x10, .int .i64 x11, .string x12] kR (fun (x14 : Value) =>
                 andW (fun σ => (rdC b4 0) σ = some (.pointer x7))
                 (oneK x13
                  (oneK x14
                   (alW (.cells ⟨[.func (.func 106) ⟨[.pointer x7]⟩ ⟨[]⟩, x13, x14, .func (.func 121) ⟨[]⟩ ⟨[.pointer (some ⟨b4, 0, none⟩), .pointer (some ⟨b5, 0, none⟩), .pointer (some ⟨b6, 0, none⟩)]⟩]⟩ 148 (0, 0)) (fun (b15 : Nat) =>
                     callT Tryz.prog 105 [.slice (some ⟨b15, 0, none⟩) 4 4] kI (fun (x16 : Int) =>
                      brW ((x16 : Int) != 0)
                      (K (.int .i64 x16))
                      (rdT (rdC b4 0) kP (fun (x17 : Option Addr) =>
                      rdT (rdC b5 0) kI (fun (x18 : Int) =>
                      rdT (rdC b6 0) kS (fun (x19 : ByteArray) =>
                      callT Tryz.prog 102 [.pointer x17, .int .i64 x18, .string x19] (.tup [.sc (.int .i64), .sc .bool]) (fun (x20 : Int) (_x21 : Bool) =>
                      rdT (rdC b4 0) kP (fun (x22 : Option Addr) =>
                      ptrW x22 (fun (b23 o24 : Nat) =>
                      rdT (rdC b23 (o24 + 4)) kM (fun (x25 : Option Nat) =>
                      rdT (rdC b5 0) kI (fun (x26 : Int) =>
                      rdT (rdM (.int .i64) (.pointer none) false x25 (.int .i64 x26)) kP (fun (x27 : Option Addr) =>
                      ptrW x27 (fun (b28 o29 : Nat) =>
                      rdT (rdC b28 (o29 + 5)) kM (fun (x30 : Option Nat) =>
                      rdT (rdC b6 0) kS (fun (x31 : ByteArray) =>
                      biW Tryz.prog .delete #[140, 9] 0 [false, false] [.map x30, .string x31] kU (rdT (rdC b4 0) kP (fun (x32 : Option Addr) =>
                      ptrW x32 (fun (b33 o34 : Nat) =>
                      rdT (rdC b33 (o34 + 4)) kM (fun (x35 : Option Nat) =>
                      rdT (rdM (.int .i64) (.pointer none) false x35 (.int .i64 x20)) kP (fun (x36 : Option Addr) =>
                      letJ (T := H → Prop) (K (.int .i64 0)) (fun j37 =>
                      ptrW x36 (fun (b38 o39 : Nat) =>
                      rdT (rdC b38 (o39 + 3)) kI (fun (x40 : Int) =>
                      ptrW x36 (fun (b41 o42 : Nat) =>
                      stW Tryz.prog 3 (.pointer (some ⟨b41, o42 + 3, none⟩)) (.int .i64 (IntKind.i64.wrap (x40 - 1))) (ptrW x36 (fun (b43 o44 : Nat) =>
                      rdT (rdC b43 (o44 + 3)) kI (fun (x45 : Int) =>
                      brW ((x45 : Int) == 0)
                      (rdT (rdC b4 0) kP (fun (x46 : Option Addr) =>
                      ptrW x46 (fun (b47 o48 : Nat) =>
                      rdT (rdC b47 (o48 + 4)) kM (fun (x49 : Option Nat) =>
                      biW Tryz.prog .delete #[143, 3] 0 [false, false] [.map x49, .int .i64 x20] kU (rdT (rdC b4 0) kP (fun (x50 : Option Addr) =>
                      ptrW x50 (fun (b51 o52 : Nat) =>
                      rdT (rdC b51 (o52 + 2)) kI (fun (x53 : Int) =>
                      ptrW x50 (fun (b54 o55 : Nat) =>
                      stW Tryz.prog 3 (.pointer (some ⟨b54, o55 + 2, none⟩)) (.int .i64 (IntKind.i64.wrap (x53 - 1))) (rdT (rdC b4 0) kP (fun (x56 : Option Addr) =>
                      ptrW x56 (fun (b57 o58 : Nat) =>
                      rdT (rdC b57 (o58 + 3)) kI (fun (x59 : Int) =>
                      ptrW x36 (fun (b60 o61 : Nat) =>
                      rdT (rdC b60 (o61 + 2)) kS (fun (x62 : ByteArray) =>
                      ptrW x56 (fun (b63 o64 : Nat) =>
                      stW Tryz.prog 3 (.pointer (some ⟨b63, o64 + 3, none⟩)) (.int .i64 (IntKind.i64.wrap (x59 - ((x62.size : Nat) : Int)))) (j37)))))))))))))))))
                      (j37))))))))))))))))))))))))))))))))))))))))))))))
theorem e68 (t_1 : Option Addr) (dir_2 : Int) (name_3 : ByteArray) (K : Value → H → Prop) : bodyF Tryz.prog tau Tryz.f68 an68 [.pointer t_1, .int .i64 dir_2, .string name_3] K = g68 t_1 dir_2 name_3 K := by kernel_rfl
theorem c68 (t_1 : Option Addr) (dir_2 : Int) (name_3 : ByteArray) {K : Value → H → Prop} {σ : H} (h : g68 t_1 dir_2 name_3 K σ) : callW Tryz.prog 68 [.pointer t_1, .int .i64 dir_2, .string name_3] K σ := call_of_body mixed Tryz.func68 (by rw [e68]; exact h)


/-- (*whisk/fs.Fs).both -/
def an69 : Ann := (.seq none (.reg [] []) (.seq (some [(8, .sc .ptr), (9, .sc .ptr), (10, .sc (.int .i64))]) (.seq none (.reg [] []) (.seq none (.reg [] []) (.cond (.reg [] []) .leaf))) (.seq none (.reg [0, 1, 2, 3, 4, 5] [[], [], [], [0], [0, 1, 3], [0, 1, 2, 3, 4]]) .leaf)))
def g69 (f_1 : Option Addr) (cwd_2 : ByteArray) (from_3 : ByteArray) (to_4 : ByteArray) (K : Value → H → Prop) : H → Prop :=
  alW (.cells ⟨[.int .i64 0, .string (⟨⟨[]⟩⟩ : ByteArray), .int .i64 0, .bool false]⟩ 86 (0, 0)) (fun (b5 : Nat) =>
   alW (.cells ⟨[.int .i64 0, .string (⟨⟨[]⟩⟩ : ByteArray), .int .i64 0, .bool false]⟩ 86 (0, 0)) (fun (b6 : Nat) =>
    letJ (T := Option Addr → Option Addr → Int → H → Prop) (fun (p_8 : Option Addr) (q_9 : Option Addr) (e_10 : Int) =>
     ptrW p_8 (fun (b11 o12 : Nat) =>
      rdT (rdA 4 b11 o12) (.one (.agg [(.int .i64), .str, (.int .i64), .bool])) (fun (x13 : Int) (x14 : ByteArray) (x15 : Int) (x16 : Bool) =>
       ptrW q_9 (fun (b17 o18 : Nat) =>
        rdT (rdA 4 b17 o18) (.one (.agg [(.int .i64), .str, (.int .i64), .bool])) (fun (x19 : Int) (x20 : ByteArray) (x21 : Int) (x22 : Bool) =>
         stW Tryz.prog 86 (.pointer p_8) (.agg ⟨[.int .i64 x13, .string x14, .int .i64 x15, .bool x16]⟩) (andW (fun σ => (rdA 4 b17 o18) σ = some (.agg ⟨[.int .i64 x19, .string x20, .int .i64 x21, .bool x22]⟩))
          (stW Tryz.prog 86 (.pointer q_9) (.agg ⟨[.int .i64 x19, .string x20, .int .i64 x21, .bool x22]⟩) (ptrW p_8 (fun (b23 o24 : Nat) =>
             rdT (rdA 4 b23 o24) (.one (.agg [(.int .i64), .str, (.int .i64), .bool])) (fun (r25 : Int) (r26 : ByteArray) (r27 : Int) (r28 : Bool) =>
              ptrW q_9 (fun (b29 o30 : Nat) =>
               rdT (rdA 4 b29 o30) (.one (.agg [(.int .i64), .str, (.int .i64), .bool])) (fun (r31 : Int) (r32 : ByteArray) (r33 : Int) (r34 : Bool) =>
                K (.tuple ⟨[.agg ⟨[.int .i64 r25, .string r26, .int .i64 r27, .bool r28]⟩, .agg ⟨[.int .i64 r31, .string r32, .int .i64 r33, .bool r34]⟩, .int .i64 e_10]⟩))))))))))))) (fun j7 =>
     callT Tryz.prog 62 [.pointer f_1, .string cwd_2, .string from_3, .bool false] (.tup [.agg [(.int .i64), .str, (.int .i64), .bool], .sc (.int .i64)]) (fun (x35 : Int) (x36 : ByteArray) (x37 : Int) (x38 : Bool) (x39 : Int) =>
      stW Tryz.prog 86 (.pointer (some ⟨b5, 0, none⟩)) (.agg ⟨[.int .i64 x35, .string x36, .int .i64 x37, .bool x38]⟩) (brW ((x39 : Int) == 0)
       (callT Tryz.prog 62 [.pointer f_1, .string cwd_2, .string to_4, .bool false] (.tup [.agg [(.int .i64), .str, (.int .i64), .bool], .sc (.int .i64)]) (fun (x40 : Int) (x41 : ByteArray) (x42 : Int) (x43 : Bool) (x44 : Int) =>
         stW Tryz.prog 86 (.pointer (some ⟨b6, 0, none⟩)) (.agg ⟨[.int .i64 x40, .string x41, .int .i64 x42, .bool x43]⟩) (j7 (some ⟨b5, 0, none⟩) (some ⟨b6, 0, none⟩) x44)))
       (j7 (some ⟨b5, 0, none⟩) (some ⟨b6, 0, none⟩) x39))))))
theorem e69 (f_1 : Option Addr) (cwd_2 : ByteArray) (from_3 : ByteArray) (to_4 : ByteArray) (K : Value → H → Prop) : bodyF Tryz.prog tau Tryz.f69 an69 [.pointer f_1, .string cwd_2, .string from_3, .string to_4] K = g69 f_1 cwd_2 from_3 to_4 K := by kernel_rfl
theorem c69 (f_1 : Option Addr) (cwd_2 : ByteArray) (from_3 : ByteArray) (to_4 : ByteArray) {K : Value → H → Prop} {σ : H} (h : g69 f_1 cwd_2 from_3 to_4 K σ) : callW Tryz.prog 69 [.pointer f_1, .string cwd_2, .string from_3, .string to_4] K σ := call_of_body mixed Tryz.func69 (by rw [e69]; exact h)


/-- (*whisk/fs.Fs).kind -/
def an70 : Ann := (.seq none (.reg [] []) (.seq none (.reg [] []) (.seq none (.reg [] []) .leaf)))
def g70 (f_1 : Option Addr) (ino_2 : Int) (K : Value → H → Prop) : H → Prop :=
  ptrW f_1 (fun (b3 o4 : Nat) =>
   rdT (rdC b3 o4) kP (fun (x5 : Option Addr) =>
    callT Tryz.prog 63 [.pointer x5, .int .i64 ino_2] (.tup [.agg [(.int .i64), (.int .i64), .str, (.int .i64)], .sc .bool]) (fun (x6 : Int) (x7 : Int) (x8 : ByteArray) (x9 : Int) (_x10 : Bool) =>
     alW (.cells ⟨[.int .i64 0, .int .i64 0, .string (⟨⟨[]⟩⟩ : ByteArray), .int .i64 0]⟩ 54 (0, 0)) (fun (b11 : Nat) =>
      stW Tryz.prog 54 (.pointer (some ⟨b11, 0, none⟩)) (.agg ⟨[.int .i64 x6, .int .i64 x7, .string x8, .int .i64 x9]⟩) (rdT (rdC b11 0) kI (fun (x12 : Int) =>
        K (.int .i64 x12)))))))
theorem e70 (f_1 : Option Addr) (ino_2 : Int) (K : Value → H → Prop) : bodyF Tryz.prog tau Tryz.f70 an70 [.pointer f_1, .int .i64 ino_2] K = g70 f_1 ino_2 K := by kernel_rfl
theorem c70 (f_1 : Option Addr) (ino_2 : Int) {K : Value → H → Prop} {σ : H} (h : g70 f_1 ino_2 K σ) : callW Tryz.prog 70 [.pointer f_1, .int .i64 ino_2] K σ := call_of_body mixed Tryz.func70 (by rw [e70]; exact h)


/-- (*whisk/inode.Table).Link -/
def an71 : Ann := (.seq none (.reg [] []) (.seq none (.seq none (.reg [] []) (.seq none (.reg [] []) (.cond (.seq none (.reg [] []) .leaf) .leaf))) (.seq none (.reg [] []) (.seq none (.reg [] []) (.seq none (.reg [] []) .leaf)))))
def g71 (t_1 : Option Addr) (dir_2 : Int) (name_3 : ByteArray) (ino_4 : Int) (K : Value → H → Prop) : H → Prop :=
  callT Tryz.prog 107 [.pointer t_1, .int .i64 dir_2] kR (fun (x5 : Value) =>
   callT Tryz.prog 108 [.string name_3] kR (fun (x6 : Value) =>
    callT Tryz.prog 117 [.pointer t_1, .int .i64 ino_4] kR (fun (x7 : Value) =>
     callT Tryz.prog 109 [.pointer t_1, .int .i64 dir_2, .string name_3] kR (fun (x8 : Value) =>
      oneK x5
      (oneK x6
       (oneK x7
        (oneK x8
         (alW (.cells ⟨[.func (.func 106) ⟨[.pointer t_1]⟩ ⟨[]⟩, x5, x6, x7, x8]⟩ 148 (0, 0)) (fun (b9 : Nat) =>
           callT Tryz.prog 105 [.slice (some ⟨b9, 0, none⟩) 5 5] kI (fun (x10 : Int) =>
            brW ((x10 : Int) != 0)
            (K (.int .i64 x10))
            (ptrW t_1 (fun (b11 o12 : Nat) =>
              rdT (rdC b11 (o12 + 4)) kM (fun (x13 : Option Nat) =>
               rdT (rdM (.int .i64) (.pointer none) false x13 (.int .i64 dir_2)) kP (fun (x14 : Option Addr) =>
                ptrW x14 (fun (b15 o16 : Nat) =>
                 rdT (rdC b15 (o16 + 5)) kM (fun (x17 : Option Nat) =>
                  muW Tryz.prog 140 (.map x17) (.string name_3) (.int .i64 ino_4) (ptrW t_1 (fun (b18 o19 : Nat) =>
                    rdT (rdC b18 (o19 + 4)) kM (fun (x20 : Option Nat) =>
                     rdT (rdM (.int .i64) (.pointer none) false x20 (.int .i64 ino_4)) kP (fun (x21 : Option Addr) =>
                      ptrW x21 (fun (b22 o23 : Nat) =>
                      rdT (rdC b22 (o23 + 3)) kI (fun (x24 : Int) =>
                      ptrW x21 (fun (b25 o26 : Nat) =>
                      stW Tryz.prog 3 (.pointer (some ⟨b25, o26 + 3, none⟩)) (.int .i64 (IntKind.i64.wrap (x24 + 1))) (K (.int .i64 0)))))))))))))))))))))))))
theorem e71 (t_1 : Option Addr) (dir_2 : Int) (name_3 : ByteArray) (ino_4 : Int) (K : Value → H → Prop) : bodyF Tryz.prog tau Tryz.f71 an71 [.pointer t_1, .int .i64 dir_2, .string name_3, .int .i64 ino_4] K = g71 t_1 dir_2 name_3 ino_4 K := by kernel_rfl
theorem c71 (t_1 : Option Addr) (dir_2 : Int) (name_3 : ByteArray) (ino_4 : Int) {K : Value → H → Prop} {σ : H} (h : g71 t_1 dir_2 name_3 ino_4 K σ) : callW Tryz.prog 71 [.pointer t_1, .int .i64 dir_2, .string name_3, .int .i64 ino_4] K σ := call_of_body mixed Tryz.func71 (by rw [e71]; exact h)


/-- (*whisk/fs.Fs).with -/
def an72 : Ann := (.seq none (.reg [] []) (.seq none (.reg [] []) (.seq none (.seq none (.reg [] []) (.cond (.seq none (.reg [] []) .leaf) .leaf)) (.seq none (.reg [0, 1, 2, 3, 4, 5, 6, 7, 8, 9, 10, 11, 12] [[], [0], [0, 1], [0, 1, 2], [], [4], [0, 1, 2, 3, 4, 5], [0, 1, 2, 3, 4, 5, 6], [0, 1, 2, 3, 4, 5, 6, 7], [0, 1, 2, 3, 4, 5, 6, 7], [], [0, 1, 2, 3, 4, 5, 6, 7, 8, 10], [0, 1, 2, 3, 4, 5, 6, 7, 8, 9, 10, 11]]) (.seq none (.seq (some [(4, .sc .raw), (11, .sc .ptr), (13, .sc .ptr), (42, .sc .bool)]) (.reg [] []) (.cond (.seq none (.reg [] []) .leaf) .leaf)) (.seq none (.reg [] []) .leaf))))))
def g72 (f_1 : Option Addr) (cwd_2 : ByteArray) (path_3 : ByteArray) (follow_4 : Bool) (do_5 : Value) (K : Value → H → Prop) : H → Prop :=
  callT Tryz.prog 62 [.pointer f_1, .string cwd_2, .string path_3, .bool follow_4] (.tup [.agg [(.int .i64), .str, (.int .i64), .bool], .sc (.int .i64)]) (fun (x6 : Int) (x7 : ByteArray) (x8 : Int) (x9 : Bool) (x10 : Int) =>
   alW (.cells ⟨[.int .i64 0, .string (⟨⟨[]⟩⟩ : ByteArray), .int .i64 0, .bool false]⟩ 86 (0, 0)) (fun (b11 : Nat) =>
    stW Tryz.prog 86 (.pointer (some ⟨b11, 0, none⟩)) (.agg ⟨[.int .i64 x6, .string x7, .int .i64 x8, .bool x9]⟩) (brW ((x10 : Int) != 0)
     (K (.int .i64 x10))
     (ptrW f_1 (fun (b12 o13 : Nat) =>
       rdT (rdC b12 o13) kP (fun (x14 : Option Addr) =>
        rdT (rdC b11 2) kI (fun (x15 : Int) =>
         callT Tryz.prog 63 [.pointer x14, .int .i64 x15] (.tup [.agg [(.int .i64), (.int .i64), .str, (.int .i64)], .sc .bool]) (fun (x16 : Int) (x17 : Int) (x18 : ByteArray) (x19 : Int) (x20 : Bool) =>
          alW (.cells ⟨[.int .i64 0, .int .i64 0, .string (⟨⟨[]⟩⟩ : ByteArray), .int .i64 0]⟩ 54 (0, 0)) (fun (b21 : Nat) =>
           stW Tryz.prog 54 (.pointer (some ⟨b21, 0, none⟩)) (.agg ⟨[.int .i64 x16, .int .i64 x17, .string x18, .int .i64 x19]⟩) (letJ (T := Value → Option Addr → Option Addr → Bool → H → Prop) (fun (do_23 : Value) (p_24 : Option Addr) (n_25 : Option Addr) (x26 : Bool) =>
             brW x26
             (K (.int .i64 5))
             (ptrW p_24 (fun (b27 o28 : Nat) =>
               rdT (rdC b27 (o28 + 2)) kI (fun (x29 : Int) =>
                ptrW n_25 (fun (b30 o31 : Nat) =>
                 rdT (rdA 4 b30 o31) (.one (.agg [(.int .i64), (.int .i64), .str, (.int .i64)])) (fun (x32 : Int) (x33 : Int) (x34 : ByteArray) (x35 : Int) =>
                  cvalT Tryz.prog do_23 [.int .i64 x29, .agg ⟨[.int .i64 x32, .int .i64 x33, .string x34, .int .i64 x35]⟩] kI (fun (x36 : Int) =>
                   K (.int .i64 x36)))))))) (fun j22 =>
             rdT (rdC b11 3) kB (fun (x37 : Bool) =>
              brW (!x37)
              (j22 do_5 (some ⟨b11, 0, none⟩) (some ⟨b21, 0, none⟩) true)
              (j22 do_5 (some ⟨b11, 0, none⟩) (some ⟨b21, 0, none⟩) (!x20))))))))))))))
theorem e72 (f_1 : Option Addr) (cwd_2 : ByteArray) (path_3 : ByteArray) (follow_4 : Bool) (do_5 : Value) (K : Value → H → Prop) : bodyF Tryz.prog tau Tryz.f72 an72 [.pointer f_1, .string cwd_2, .string path_3, .bool follow_4, do_5] K = g72 f_1 cwd_2 path_3 follow_4 do_5 K := by kernel_rfl
theorem c72 (f_1 : Option Addr) (cwd_2 : ByteArray) (path_3 : ByteArray) (follow_4 : Bool) (do_5 : Value) {K : Value → H → Prop} {σ : H} (h : g72 f_1 cwd_2 path_3 follow_4 do_5 K σ) : callW Tryz.prog 72 [.pointer f_1, .string cwd_2, .string path_3, .bool follow_4, do_5] K σ := call_of_body mixed Tryz.func72 (by rw [e72]; exact h)


/-- (*whisk/fs.Fs).Chmod$1 -/
def an73 : Ann := (.seq none (.reg [] []) (.seq none (.reg [0, 1, 2, 3, 4, 5, 6, 7] [[], [0], [0, 1], [0, 1, 2], [], [], [0, 1, 2, 3, 4, 5], [0, 1, 2, 3, 4, 5, 6]]) .leaf))
def g73 (ino_1 : Int) (__2 : Int) (__3 : Int) (__4 : ByteArray) (__5 : Int) (x6 : Option Addr) (x7 : Option Addr) (K : Value → H → Prop) : H → Prop :=
  alW (.cells ⟨[.int .i64 __2, .int .i64 __3, .string __4, .int .i64 __5]⟩ 54 (0, 0)) (fun (_b8 : Nat) =>
   ptrW x6 (fun (b9 o10 : Nat) =>
    rdT (rdC b9 o10) kP (fun (x11 : Option Addr) =>
     ptrW x11 (fun (b12 o13 : Nat) =>
      rdT (rdC b12 o13) kP (fun (x14 : Option Addr) =>
       ptrW x7 (fun (b15 o16 : Nat) =>
        rdT (rdC b15 o16) kI (fun (x17 : Int) =>
         callT Tryz.prog 74 [.pointer x14, .int .i64 ino_1, .int .i64 x17] kI (fun (x18 : Int) =>
          K (.int .i64 x18)))))))))
theorem e73 (ino_1 : Int) (__2 : Int) (__3 : Int) (__4 : ByteArray) (__5 : Int) (x6 : Option Addr) (x7 : Option Addr) (K : Value → H → Prop) : bodyF Tryz.prog tau Tryz.f73 an73 [.int .i64 ino_1, .agg ⟨[.int .i64 __2, .int .i64 __3, .string __4, .int .i64 __5]⟩, .pointer x6, .pointer x7] K = g73 ino_1 __2 __3 __4 __5 x6 x7 K := by kernel_rfl
theorem c73 (ino_1 : Int) (__2 : Int) (__3 : Int) (__4 : ByteArray) (__5 : Int) (x6 : Option Addr) (x7 : Option Addr) {K : Value → H → Prop} {σ : H} (h : g73 ino_1 __2 __3 __4 __5 x6 x7 K σ) : callW Tryz.prog 73 [.int .i64 ino_1, .agg ⟨[.int .i64 __2, .int .i64 __3, .string __4, .int .i64 __5]⟩, .pointer x6, .pointer x7] K σ := call_of_body mixed Tryz.func73 (by rw [e73]; exact h)


/-- (*whisk/inode.Table).Chmod -/
def an74 : Ann := (.seq none (.reg [] []) (.seq none (.reg [] []) (.seq none (.reg [] []) (.seq none (.seq none (.reg [] []) (.seq none (.reg [] []) (.cond (.seq none (.reg [] []) .leaf) .leaf))) (.seq none (.reg [0, 1, 2, 3, 4, 5, 6, 7, 8, 9, 10] [[], [0], [0, 1], [0, 1, 2], [], [0, 1, 2, 3, 4], [], [0, 1, 2, 3, 4, 5, 6], [0, 1, 2, 3, 4, 5, 6, 7], [0, 1, 2, 3, 4, 5, 6, 7, 8], [0, 1, 2, 3, 4, 5, 6, 7, 8, 9]]) (.seq none (.reg [] []) .leaf))))))
def g74 (t_1 : Option Addr) (ino_2 : Int) (mode_3 : Int) (K : Value → H → Prop) : H → Prop :=
  alW (.cells ⟨[.pointer t_1]⟩ 80 (0, 0)) (fun (b4 : Nat) =>
   alW (.cells ⟨[.int .i64 ino_2]⟩ 3 (0, 0)) (fun (b5 : Nat) =>
    alW (.cells ⟨[.int .i64 mode_3]⟩ 3 (0, 0)) (fun (b6 : Nat) =>
     rdT (rdC b4 0) kP (fun (x7 : Option Addr) =>
      alW (.cells ⟨[.func (.func 106) ⟨[.pointer x7]⟩ ⟨[]⟩, .func (.func 123) ⟨[]⟩ ⟨[.pointer (some ⟨b6, 0, none⟩)]⟩, .func (.func 124) ⟨[]⟩ ⟨[.pointer (some ⟨b4, 0, none⟩), .pointer (some ⟨b5, 0, none⟩)]⟩]⟩ 148 (0, 0)) (fun (b8 : Nat) =>
       callT Tryz.prog 105 [.slice (some ⟨b8, 0, none⟩) 3 3] kI (fun (x9 : Int) =>
        brW ((x9 : Int) != 0)
        (K (.int .i64 x9))
        (rdT (rdC b4 0) kP (fun (x10 : Option Addr) =>
          ptrW x10 (fun (b11 o12 : Nat) =>
           rdT (rdC b11 (o12 + 4)) kM (fun (x13 : Option Nat) =>
            rdT (rdC b5 0) kI (fun (x14 : Int) =>
             rdT (rdM (.int .i64) (.pointer none) false x13 (.int .i64 x14)) kP (fun (x15 : Option Addr) =>
              rdT (rdC b6 0) kI (fun (x16 : Int) =>
               ptrW x15 (fun (b17 o18 : Nat) =>
                stW Tryz.prog 3 (.pointer (some ⟨b17, o18 + 1, none⟩)) (.int .i64 x16) (K (.int .i64 0))))))))))))))))
theorem e74 (t_1 : Option Addr) (ino_2 : Int) (mode_3 : Int) (K : Value → H → Prop) : bodyF Tryz.prog tau Tryz.f74 an74 [.pointer t_1, .int .i64 ino_2, .int .i64 mode_3] K = g74 t_1 ino_2 mode_3 K := by kernel_rfl
theorem c74 (t_1 : Option Addr) (ino_2 : Int) (mode_3 : Int) {K : Value → H → Prop} {σ : H} (h : g74 t_1 ino_2 mode_3 K σ) : callW Tryz.prog 74 [.pointer t_1, .int .i64 ino_2, .int .i64 mode_3] K σ := call_of_body mixed Tryz.func74 (by rw [e74]; exact h)


/-- whisk/tree.tooDeep -/
def an76 : Ann := (.seq none (.reg [] []) (.seq none (.reg [] []) .leaf))
def g76 (n_1 : ByteArray) (n_2 : Int) (n_3 : Bool) (n_4 : ByteArray) (n_5 : Sl) (K : Value → H → Prop) : H → Prop :=
  alW (.cells ⟨[.string n_1, .int .i64 n_2, .bool n_3, .string n_4, .slice n_5.base n_5.len n_5.cap]⟩ 24 (0, 0)) (fun (b6 : Nat) =>
   rdT (rdA 5 b6 0) (.one (.agg [.str, (.int .i64), .bool, .str, .slc])) (fun (x7 : ByteArray) (x8 : Int) (x9 : Bool) (x10 : ByteArray) (x11 : Sl) =>
    callT Tryz.prog 128 [.agg ⟨[.string x7, .int .i64 x8, .bool x9, .string x10, .slice x11.base x11.len x11.cap]⟩] kI (fun (x12 : Int) =>
     K (.bool (decide ((x12 : Int) > 12))))))
theorem e76 (n_1 : ByteArray) (n_2 : Int) (n_3 : Bool) (n_4 : ByteArray) (n_5 : Sl) (K : Value → H → Prop) : bodyF Tryz.prog tau Tryz.f76 an76 [.agg ⟨[.string n_1, .int .i64 n_2, .bool n_3, .string n_4, .slice n_5.base n_5.len n_5.cap]⟩] K = g76 n_1 n_2 n_3 n_4 n_5 K := by kernel_rfl
theorem c76 (n_1 : ByteArray) (n_2 : Int) (n_3 : Bool) (n_4 : ByteArray) (n_5 : Sl) {K : Value → H → Prop} {σ : H} (h : g76 n_1 n_2 n_3 n_4 n_5 K σ) : callW Tryz.prog 76 [.agg ⟨[.string n_1, .int .i64 n_2, .bool n_3, .string n_4, .slice n_5.base n_5.len n_5.cap]⟩] K σ := call_of_body mixed Tryz.func76 (by rw [e76]; exact h)


/-- (*whisk/fs.Fs).Stat$1 -/
def an79 : Ann := (.seq none (.reg [] []) (.seq none (.reg [] []) (.seq none (.reg [] []) .leaf)))
def g79 (__1 : Int) (n_2 : Int) (n_3 : Int) (n_4 : ByteArray) (n_5 : Int) (x6 : Option Addr) (K : Value → H → Prop) : H → Prop :=
  alW (.cells ⟨[.int .i64 n_2, .int .i64 n_3, .string n_4, .int .i64 n_5]⟩ 54 (0, 0)) (fun (b7 : Nat) =>
   rdT (rdA 4 b7 0) (.one (.agg [(.int .i64), (.int .i64), .str, (.int .i64)])) (fun (x8 : Int) (x9 : Int) (x10 : ByteArray) (x11 : Int) =>
    stW Tryz.prog 54 (.pointer x6) (.agg ⟨[.int .i64 x8, .int .i64 x9, .string x10, .int .i64 x11]⟩) (K (.int .i64 0))))
theorem e79 (__1 : Int) (n_2 : Int) (n_3 : Int) (n_4 : ByteArray) (n_5 : Int) (x6 : Option Addr) (K : Value → H → Prop) : bodyF Tryz.prog tau Tryz.f79 an79 [.int .i64 __1, .agg ⟨[.int .i64 n_2, .int .i64 n_3, .string n_4, .int .i64 n_5]⟩, .pointer x6] K = g79 __1 n_2 n_3 n_4 n_5 x6 K := by kernel_rfl
theorem c79 (__1 : Int) (n_2 : Int) (n_3 : Int) (n_4 : ByteArray) (n_5 : Int) (x6 : Option Addr) {K : Value → H → Prop} {σ : H} (h : g79 __1 n_2 n_3 n_4 n_5 x6 K σ) : callW Tryz.prog 79 [.int .i64 __1, .agg ⟨[.int .i64 n_2, .int .i64 n_3, .string n_4, .int .i64 n_5]⟩, .pointer x6] K σ := call_of_body mixed Tryz.func79 (by rw [e79]; exact h)


/-- (*whisk/inode.Table).Move -/
def an81 : Ann := (.seq none (.reg [] []) (.seq none (.reg [0, 1, 2, 3, 5, 6, 8, 10, 4, 7, 9, 11, 12, 13, 14, 15, 16] [[], [0], [], [], [2, 3], [], [], [2, 3, 4, 5, 6], [], [2, 3, 4, 5, 6, 7, 8], [], [], [], [2, 3, 4, 5, 6, 7, 8, 9, 10, 11, 12], [0, 1, 2, 3, 4, 5, 6, 7, 8, 9, 10, 11, 12, 13], [0, 1, 2, 3, 4, 5, 6, 7, 8, 9, 10, 11, 12, 13, 14], [0, 1, 2, 3, 4, 5, 6, 7, 8, 9, 10, 11, 12, 13, 14, 15]]) (.seq none (.seq (some [(1, .sc (.int .i64)), (2, .sc .str), (4, .sc .str), (5, .sc .ptr), (8, .sc .ptr), (11, .sc (.int .i64)), (44, .sc .bool)]) (.reg [] []) (.cond (.seq none (.reg [] []) .leaf) .leaf)) (.seq none (.reg [] []) (.seq none (.reg [] []) (.seq none (.seq none (.reg [] []) (.seq none (.reg [] []) (.cond (.seq none (.reg [] []) .leaf) .leaf))) (.seq none (.reg [] []) (.seq none (.reg [0, 1, 2, 3, 4, 5, 6, 7, 8, 9, 10, 11] [[], [0], [0, 1], [0, 1, 2], [], [0, 1, 2, 3, 4], [0, 1, 2, 3, 4, 5], [0, 1, 2, 3, 4, 5, 6], [0, 1, 2, 3, 4, 5, 6, 7], [], [], [0, 1, 2, 3, 4, 5, 6, 7, 8, 9, 10]]) (.seq (some []) (.seq none (.reg [0, 1, 2, 3, 4, 5, 6] [[], [0], [0, 1], [0, 1, 2], [], [0, 1, 2, 3, 4], [0, 1, 2, 3, 4, 5]]) (.seq none (.reg [] []) (.cond (.reg [] []) .leaf))) (.seq none (.reg [] []) .leaf))))))))))
def g81 (t_1 : Option Addr) (from_2 : Int) (name_3 : ByteArray) (to_4 : Int) (as_5 : ByteArray) (K : Value → H → Prop) : H → Prop :=
  alW (.cells ⟨[.pointer t_1]⟩ 80 (0, 0)) (fun (b6 : Nat) =>
   alW (.cells ⟨[.int .i64 to_4]⟩ 3 (0, 0)) (fun (b7 : Nat) =>
    rdT (rdC b6 0) kP (fun (x8 : Option Addr) =>
     rdT (rdC b6 0) kP (fun (x9 : Option Addr) =>
      rdT (rdC b6 0) kP (fun (x10 : Option Addr) =>
       rdT (rdC b7 0) kI (fun (x11 : Int) =>
        rdT (rdC b6 0) kP (fun (x12 : Option Addr) =>
         callT Tryz.prog 107 [.pointer x9, .int .i64 from_2] kR (fun (x13 : Value) =>
          andW (fun σ => (rdC b6 0) σ = some (.pointer x12))
          (andW (fun σ => (rdC b7 0) σ = some (.int .i64 x11))
           (andW (fun σ => (rdC b6 0) σ = some (.pointer x10))
            (andW (fun σ => (rdC b6 0) σ = some (.pointer x8))
             (callT Tryz.prog 107 [.pointer x10, .int .i64 x11] kR (fun (x14 : Value) =>
               andW (fun σ => (rdC b6 0) σ = some (.pointer x12))
               (andW (fun σ => (rdC b6 0) σ = some (.pointer x8))
                (callT Tryz.prog 108 [.string as_5] kR (fun (x15 : Value) =>
                  andW (fun σ => (rdC b6 0) σ = some (.pointer x12))
                  (andW (fun σ => (rdC b6 0) σ = some (.pointer x8))
                   (callT Tryz.prog 122 [.pointer x12, .int .i64 from_2, .string name_3] kR (fun (x16 : Value) =>
                     andW (fun σ => (rdC b6 0) σ = some (.pointer x8))
                     (oneK x13
                      (oneK x14
                      (oneK x15
                      (oneK x16
                      (alW (.cells ⟨[.func (.func 106) ⟨[.pointer x8]⟩ ⟨[]⟩, x13, x14, x15, x16]⟩ 148 (0, 0)) (fun (b17 : Nat) =>
                      callT Tryz.prog 105 [.slice (some ⟨b17, 0, none⟩) 5 5] kI (fun (x18 : Int) =>
                      letJ (T := Int → ByteArray → ByteArray → Option Addr → Option Addr → Int → Bool → H → Prop) (fun (from_20 : Int) (name_21 : ByteArray) (as_22 : ByteArray) (t_23 : Option Addr) (to_24 : Option Addr) (e_25 : Int) (x26 : Bool) =>
                      brW x26
                      (K (.int .i64 e_25))
                      (ptrW t_23 (fun (b27 o28 : Nat) =>
                      rdT (rdC b27 o28) kP (fun (x29 : Option Addr) =>
                      callT Tryz.prog 102 [.pointer x29, .int .i64 from_20, .string name_21] (.tup [.sc (.int .i64), .sc .bool]) (fun (x30 : Int) (_x31 : Bool) =>
                      alW (.cells ⟨[.int .i64 0]⟩ 3 (0, 0)) (fun (b32 : Nat) =>
                      stW Tryz.prog 3 (.pointer (some ⟨b32, 0, none⟩)) (.int .i64 x30) (ptrW t_23 (fun (b33 o34 : Nat) =>
                      rdT (rdC b33 o34) kP (fun (x35 : Option Addr) =>
                      ptrW to_24 (fun (b36 o37 : Nat) =>
                      rdT (rdC b36 o37) kI (fun (x38 : Int) =>
                      callT Tryz.prog 109 [.pointer x35, .int .i64 x38, .string as_22] kR (fun (x39 : Value) =>
                      oneK x39
                      (alW (.cells ⟨[x39, .func (.func 134) ⟨[]⟩ ⟨[.pointer to_24, .pointer t_23, .pointer (some ⟨b32, 0, none⟩)]⟩]⟩ 148 (0, 0)) (fun (b40 : Nat) =>
                      callT Tryz.prog 105 [.slice (some ⟨b40, 0, none⟩) 2 2] kI (fun (x41 : Int) =>
                      brW ((x41 : Int) != 0)
                      (K (.int .i64 x41))
                      (ptrW t_23 (fun (b42 o43 : Nat) =>
                      rdT (rdC b42 o43) kP (fun (x44 : Option Addr) =>
                      ptrW x44 (fun (b45 o46 : Nat) =>
                      rdT (rdC b45 (o46 + 4)) kM (fun (x47 : Option Nat) =>
                      rdT (rdM (.int .i64) (.pointer none) false x47 (.int .i64 from_20)) kP (fun (x48 : Option Addr) =>
                      ptrW x48 (fun (b49 o50 : Nat) =>
                      rdT (rdC b49 (o50 + 5)) kM (fun (x51 : Option Nat) =>
                      biW Tryz.prog .delete #[140, 9] 0 [false, false] [.map x51, .string name_21] kU (ptrW t_23 (fun (b52 o53 : Nat) =>
                      rdT (rdC b52 o53) kP (fun (x54 : Option Addr) =>
                      ptrW x54 (fun (b55 o56 : Nat) =>
                      rdT (rdC b55 (o56 + 4)) kM (fun (x57 : Option Nat) =>
                      ptrW to_24 (fun (b58 o59 : Nat) =>
                      rdT (rdC b58 o59) kI (fun (x60 : Int) =>
                      rdT (rdM (.int .i64) (.pointer none) false x57 (.int .i64 x60)) kP (fun (x61 : Option Addr) =>
                      ptrW x61 (fun (b62 o63 : Nat) =>
                      rdT (rdC b62 (o63 + 5)) kM (fun (x64 : Option Nat) =>
                      rdT (rdC b32 0) kI (fun (x65 : Int) =>
                      muW Tryz.prog 140 (.map x64) (.string as_22) (.int .i64 x65) (letJ (T := H → Prop) (K (.int .i64 0)) (fun j66 =>
                      ptrW t_23 (fun (b67 o68 : Nat) =>
                      rdT (rdC b67 o68) kP (fun (x69 : Option Addr) =>
                      ptrW x69 (fun (b70 o71 : Nat) =>
                      rdT (rdC b70 (o71 + 4)) kM (fun (x72 : Option Nat) =>
                      rdT (rdC b32 0) kI (fun (x73 : Int) =>
                      rdT (rdM (.int .i64) (.pointer none) false x72 (.int .i64 x73)) kP (fun (x74 : Option Addr) =>
                      ptrW x74 (fun (b75 o76 : Nat) =>
                      rdT (rdC b75 o76) kI (fun (x77 : Int) =>
                      brW ((x77 : Int) == 2)
                      (ptrW to_24 (fun (b78 o79 : Nat) =>
                      rdT (rdC b78 o79) kI (fun (x80 : Int) =>
                      ptrW x74 (fun (b81 o82 : Nat) =>
                      stW Tryz.prog 3 (.pointer (some ⟨b81, o82 + 4, none⟩)) (.int .i64 x80) (j66)))))
                      (j66))))))))))))))))))))))))))))))))))))))))))))) (fun j19 =>
                      brW ((x18 : Int) != 0)
                      (j19 from_2 name_3 as_5 (some ⟨b6, 0, none⟩) (some ⟨b7, 0, none⟩) x18 true)
                      (rdT (rdC b7 0) kI (fun (x83 : Int) =>
                      brW ((from_2 : Int) == x83)
                      (j19 from_2 name_3 as_5 (some ⟨b6, 0, none⟩) (some ⟨b7, 0, none⟩) x18 (strEq name_3 as_5))
                      (j19 from_2 name_3 as_5 (some ⟨b6, 0, none⟩) (some ⟨b7, 0, none⟩) x18 false))))))))))))))))))))))))))))))
theorem e81 (t_1 : Option Addr) (from_2 : Int) (name_3 : ByteArray) (to_4 : Int) (as_5 : ByteArray) (K : Value → H → Prop) : bodyF Tryz.prog tau Tryz.f81 an81 [.pointer t_1, .int .i64 from_2, .string name_3, .int .i64 to_4, .string as_5] K = g81 t_1 from_2 name_3 to_4 as_5 K := by kernel_rfl
theorem c81 (t_1 : Option Addr) (from_2 : Int) (name_3 : ByteArray) (to_4 : Int) (as_5 : ByteArray) {K : Value → H → Prop} {σ : H} (h : g81 t_1 from_2 name_3 to_4 as_5 K σ) : callW Tryz.prog 81 [.pointer t_1, .int .i64 from_2, .string name_3, .int .i64 to_4, .string as_5] K σ := call_of_body mixed Tryz.func81 (by rw [e81]; exact h)


/-- strings.HasPrefix -/
def an92 : Ann := (.seq none (.reg [] []) (.seq none (.reg [] []) .leaf))
def g92 (s_1 : ByteArray) (prefix_2 : ByteArray) (K : Value → H → Prop) : H → Prop :=
  callT Tryz.prog 152 [.string s_1, .string prefix_2] kB (fun (x3 : Bool) =>
   K (.bool x3))
theorem e92 (s_1 : ByteArray) (prefix_2 : ByteArray) (K : Value → H → Prop) : bodyF Tryz.prog tau Tryz.f92 an92 [.string s_1, .string prefix_2] K = g92 s_1 prefix_2 K := by kernel_rfl
theorem c92 (s_1 : ByteArray) (prefix_2 : ByteArray) {K : Value → H → Prop} {σ : H} (h : g92 s_1 prefix_2 K σ) : callW Tryz.prog 92 [.string s_1, .string prefix_2] K σ := call_of_body mixed Tryz.func92 (by rw [e92]; exact h)


/-- whisk/whisklaw08.quota -/
def an97 : Ann := (.seq none (.reg [] []) (.seq none (.reg [] []) .leaf))
def g97  (K : Value → H → Prop) : H → Prop :=
  alW (.cells ⟨[.int .i64 0, .int .i64 0]⟩ 31 (0, 0)) (fun (b1 : Nat) =>
   stW Tryz.prog 31 (.pointer (some ⟨b1, 0, none⟩)) (.agg ⟨[.int .i64 60, .int .i64 2000]⟩) (rdT (rdA 2 b1 0) (.one (.agg [(.int .i64), (.int .i64)])) (fun (r2 : Int) (r3 : Int) =>
     K (.agg ⟨[.int .i64 r2, .int .i64 r3]⟩))))
theorem e97  (K : Value → H → Prop) : bodyF Tryz.prog tau Tryz.f97 an97 [] K = g97  K := by kernel_rfl
theorem c97  {K : Value → H → Prop} {σ : H} (h : g97  K σ) : callW Tryz.prog 97 [] K σ := call_of_body mixed Tryz.func97 (by rw [e97]; exact h)


/-- (*whisk/fs.Fs).List$1 -/
def an98 : Ann := (.seq none (.reg [] []) (.seq none (.seq none (.reg [] []) (.cond (.seq none (.reg [] []) .leaf) .leaf)) (.seq none (.reg [] []) (.seq none (.reg [] []) .leaf))))
def g98 (ino_1 : Int) (n_2 : Int) (n_3 : Int) (n_4 : ByteArray) (n_5 : Int) (x6 : Option Addr) (x7 : Option Addr) (K : Value → H → Prop) : H → Prop :=
  alW (.cells ⟨[.int .i64 n_2, .int .i64 n_3, .string n_4, .int .i64 n_5]⟩ 54 (0, 0)) (fun (b8 : Nat) =>
   rdT (rdC b8 0) kI (fun (x9 : Int) =>
    brW ((x9 : Int) != 2)
    (K (.int .i64 8))
    (ptrW x6 (fun (b10 o11 : Nat) =>
      rdT (rdC b10 o11) kP (fun (x12 : Option Addr) =>
       ptrW x12 (fun (b13 o14 : Nat) =>
        rdT (rdC b13 o14) kP (fun (x15 : Option Addr) =>
         callT Tryz.prog 67 [.pointer x15, .int .i64 ino_1] kL (fun (x16 : Sl) =>
          stW Tryz.prog 74 (.pointer x7) (.slice x16.base x16.len x16.cap) (K (.int .i64 0))))))))))
theorem e98 (ino_1 : Int) (n_2 : Int) (n_3 : Int) (n_4 : ByteArray) (n_5 : Int) (x6 : Option Addr) (x7 : Option Addr) (K : Value → H → Prop) : bodyF Tryz.prog tau Tryz.f98 an98 [.int .i64 ino_1, .agg ⟨[.int .i64 n_2, .int .i64 n_3, .string n_4, .int .i64 n_5]⟩, .pointer x6, .pointer x7] K = g98 ino_1 n_2 n_3 n_4 n_5 x6 x7 K := by kernel_rfl
theorem c98 (ino_1 : Int) (n_2 : Int) (n_3 : Int) (n_4 : ByteArray) (n_5 : Int) (x6 : Option Addr) (x7 : Option Addr) {K : Value → H → Prop} {σ : H} (h : g98 ino_1 n_2 n_3 n_4 n_5 x6 x7 K σ) : callW Tryz.prog 98 [.int .i64 ino_1, .agg ⟨[.int .i64 n_2, .int .i64 n_3, .string n_4, .int .i64 n_5]⟩, .pointer x6, .pointer x7] K σ := call_of_body mixed Tryz.func98 (by rw [e98]; exact h)


/-- (*whisk/fs.Fs).Read$1 -/
def an99 : Ann := (.seq none (.reg [] []) (.seq none (.seq none (.reg [] []) (.cond (.seq none (.reg [] []) .leaf) .leaf)) (.seq none (.reg [] []) (.seq none (.reg [] []) .leaf))))
def g99 (__1 : Int) (n_2 : Int) (n_3 : Int) (n_4 : ByteArray) (n_5 : Int) (x6 : Option Addr) (K : Value → H → Prop) : H → Prop :=
  alW (.cells ⟨[.int .i64 n_2, .int .i64 n_3, .string n_4, .int .i64 n_5]⟩ 54 (0, 0)) (fun (b7 : Nat) =>
   rdT (rdC b7 0) kI (fun (x8 : Int) =>
    brW ((x8 : Int) == 2)
    (K (.int .i64 7))
    (rdT (rdC b7 2) kS (fun (x9 : ByteArray) =>
      stW Tryz.prog 9 (.pointer x6) (.string x9) (K (.int .i64 0))))))
theorem e99 (__1 : Int) (n_2 : Int) (n_3 : Int) (n_4 : ByteArray) (n_5 : Int) (x6 : Option Addr) (K : Value → H → Prop) : bodyF Tryz.prog tau Tryz.f99 an99 [.int .i64 __1, .agg ⟨[.int .i64 n_2, .int .i64 n_3, .string n_4, .int .i64 n_5]⟩, .pointer x6] K = g99 __1 n_2 n_3 n_4 n_5 x6 K := by kernel_rfl
theorem c99 (__1 : Int) (n_2 : Int) (n_3 : Int) (n_4 : ByteArray) (n_5 : Int) (x6 : Option Addr) {K : Value → H → Prop} {σ : H} (h : g99 __1 n_2 n_3 n_4 n_5 x6 K σ) : callW Tryz.prog 99 [.int .i64 __1, .agg ⟨[.int .i64 n_2, .int .i64 n_3, .string n_4, .int .i64 n_5]⟩, .pointer x6] K σ := call_of_body mixed Tryz.func99 (by rw [e99]; exact h)


/-- (*whisk/inode.Table).Root -/
def an100 : Ann := (.seq none (.reg [] []) (.seq none (.seq none (.reg [] []) (.cond (.seq none (.reg [] []) .leaf) .leaf)) (.seq none (.reg [] []) .leaf)))
def g100 (t_1 : Option Addr) (K : Value → H → Prop) : H → Prop :=
  brW t_1.isNone
  (K (.int .i64 0))
  (K (.int .i64 1))
theorem e100 (t_1 : Option Addr) (K : Value → H → Prop) : bodyF Tryz.prog tau Tryz.f100 an100 [.pointer t_1] K = g100 t_1 K := by kernel_rfl
theorem c100 (t_1 : Option Addr) {K : Value → H → Prop} {σ : H} (h : g100 t_1 K σ) : callW Tryz.prog 100 [.pointer t_1] K σ := call_of_body mixed Tryz.func100 (by rw [e100]; exact h)


/-- (*whisk/inode.Table).Up -/
def an101 : Ann := (.seq none (.reg [] []) (.seq none (.reg [] []) (.seq none (.seq none (.reg [] []) (.cond (.seq none (.reg [] []) .leaf) .leaf)) (.seq none (.reg [] []) .leaf))))
def g101 (t_1 : Option Addr) (dir_2 : Int) (K : Value → H → Prop) : H → Prop :=
  callT Tryz.prog 115 [.pointer t_1, .int .i64 dir_2] kP (fun (x3 : Option Addr) =>
   brW x3.isNone
   (K (.int .i64 0))
   (ptrW x3 (fun (b4 o5 : Nat) =>
     rdT (rdC b4 (o5 + 4)) kI (fun (x6 : Int) =>
      K (.int .i64 x6)))))
theorem e101 (t_1 : Option Addr) (dir_2 : Int) (K : Value → H → Prop) : bodyF Tryz.prog tau Tryz.f101 an101 [.pointer t_1, .int .i64 dir_2] K = g101 t_1 dir_2 K := by kernel_rfl
theorem c101 (t_1 : Option Addr) (dir_2 : Int) {K : Value → H → Prop} {σ : H} (h : g101 t_1 dir_2 K σ) : callW Tryz.prog 101 [.pointer t_1, .int .i64 dir_2] K σ := call_of_body mixed Tryz.func101 (by rw [e101]; exact h)

end Go.Proofs.YtlpcehbfoogejaaGreatDoor

