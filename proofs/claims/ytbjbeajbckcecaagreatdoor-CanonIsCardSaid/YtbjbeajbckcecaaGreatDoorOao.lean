/- A part of the proof: CanonIs holds. -/
import Derived.Test.YtbjbeajbckcecaaGreatDoorOan
import Derived.Test.YtbjbeajbckcecaaGreatDoorProg
import Derived.KernelRfl
import Derived.Test.YtbjbeajbckcecaaGreatDoorChecked
namespace Go.Wk
open Go Go.HL
structure AN where
 kind : Int
 mode : Int
 data : ByteArray
 links : Int
 up : Int
 ents : List (ByteArray × Int)
structure AT where
 qi : Int
 qb : Int
 ui : Int
 ub : Int
 last : Int
 nodes : List (Int × AN)
def AT.get (A : AT) (i : Int) : Option AN := lk i A.nodes
def AT.find (A : AT) (dir : Int) (name : ByteArray) : Option Int := (A.get dir).bind fun n => lk name n.ents
def AT.kind (A : AT) (i : Int) : Int := ((A.get i).map (·.kind)).getD 0
def AT.upOf (A : AT) (i : Int) : Int := ((A.get i).map (·.up)).getD 0
def AT.dirE (A : AT) (ino : Int) : Int := match A.get ino with
 | none => 5
 | some n => if n.kind == 2 then 0 else 8
def AT.fileE (A : AT) (ino : Int) : Int := match A.get ino with
 | none => 5
 | some n => if n.kind == 2 then 7 else if n.kind == 1 then 0 else 2
def sEq (x y : ByteArray) : Bool := x.data.toList == y.data.toList
theorem sEq_eq (x y : ByteArray) : sEq x y = strEq x y := by unfold sEq strEq; rw [ByteArray.toList_eq, ByteArray.toList_eq]
theorem sEq_iff {x y : ByteArray} : sEq x y = true ↔ x = y := by rw [sEq_eq]; exact strEq_iff
def badByte (s : ByteArray) : Bool := s.data.toList.any fun c => c == 47 || c == 0
def hasNul (s : ByteArray) : Bool := s.data.toList.any fun c => c == 0
def namedE (name : ByteArray) : Int := if name.size > 56 then 3 else if !sEq name ⟨⟨[]⟩⟩ && !sEq name ⟨⟨[46]⟩⟩ && !sEq name ⟨⟨[46, 46]⟩⟩ && !badByte name then 0 else 2
def linkOk (d : ByteArray) : Bool := !sEq d ⟨⟨[]⟩⟩ && (decide (d.size <= 255) && !hasNul d)
def kindOkE (kind : Int) (d : ByteArray) : Bool := (lk kind [((1 : Int), true), (2, sEq d ⟨⟨[]⟩⟩), (3, linkOk d)]).getD false
def likeE (kind mode : Int) (d : ByteArray) : Int := if kindOkE kind d && (decide (0 <= mode) && decide (mode <= 511)) then 0 else 2
def wr (x : Int) : Int := IntKind.i64.wrap x
def AT.roomE (A : AT) (i n : Int) : Int := if wr (A.ui + i) <= A.qi /\ wr (A.ub + n) <= A.qb then 0 else 10
def firstE : List Int -> Int
 | [] => 0
 | e :: es => if e = 0 then firstE es else e
def AT.set (A : AT) (i : Int) (n : AN) : AT := { A with nodes := up i n A.nodes }
def AT.ent (A : AT) (dir : Int) (f : List (ByteArray × Int) -> List (ByteArray × Int)) : AT := match A.get dir with
 | none => A
 | some n => A.set dir { n with ents := f n.ents }
def AT.makeE (A : AT) (dir : Int) (name : ByteArray) (kind mode : Int) (data : ByteArray) : Int :=
 firstE [0, A.dirE dir, namedE name, likeE kind mode data, if (A.find dir name).isSome then 6 else 0, A.roomE 1 (data.size : Int)]
def AT.made (A : AT) (dir : Int) (name : ByteArray) (kind mode : Int) (data : ByteArray) : AT :=
 let i := wr (A.last + 1)
 let A1 := { A with last := i, nodes := up i ⟨kind, mode, data, 1, if kind == 2 then dir else 0, []⟩ A.nodes }
 let A2 := A1.ent dir (up name i)
 { A2 with ui := wr (A.ui + 1), ub := wr (A.ub + data.size) }
def AT.linkE (A : AT) (dir : Int) (name : ByteArray) (ino : Int) : Int :=
 firstE [0, A.dirE dir, namedE name, A.fileE ino, if (A.find dir name).isSome then 6 else 0]
def AT.mod (A : AT) (i : Int) (f : AN -> AN) : AT := match A.get i with
 | none => A
 | some n => A.set i (f n)
def AT.linked (A : AT) (dir : Int) (name : ByteArray) (ino : Int) : AT := (A.ent dir (up name ino)).mod ino fun n => { n with links := wr (n.links + 1) }
def AT.unlinkE (A : AT) (dir : Int) (name : ByteArray) : Int :=
 firstE [0, A.dirE dir, if (A.find dir name).isSome then 0 else 5, if ((A.get ((A.find dir name).getD 0)).map (·.ents.length)).getD 0 = 0 then 0 else 20]
def AT.unlinked (A : AT) (dir : Int) (name : ByteArray) : AT :=
 let ino := (A.find dir name).getD 0
 let A1 := (A.ent dir (rm name)).mod ino fun n => { n with links := wr (n.links - 1) }
 match A1.get ino with
 | none => A1
 | some n => if n.links == 0 then { A1 with nodes := rm ino A1.nodes, ui := wr (A.ui - 1), ub := wr (A.ub - n.data.size) } else A1
def AT.apart (A : AT) (ino : Int) : Nat -> Int -> Option Bool
 | 0, _ => none
 | f + 1, at_ => if at_ = 1 then some true else if at_ = ino then some false else (A.get at_).bind fun n => AT.apart A ino f n.up
def AT.moveE1 (A : AT) (src : Int) (name : ByteArray) (to : Int) (as_ : ByteArray) : Int :=
 firstE [0, A.dirE src, A.dirE to, namedE as_, if (A.find src name).isSome then 0 else 5]
def AT.moved (A : AT) (src : Int) (name : ByteArray) (to : Int) (as_ : ByteArray) : AT :=
 let ino := (A.find src name).getD 0
 ((A.ent src (rm name)).ent to (up as_ ino)).mod ino fun n => if n.kind == 2 then { n with up := to } else n
def AT.writeE (A : AT) (ino : Int) (data : ByteArray) : Int :=
 firstE [0, A.fileE ino, A.roomE 0 (wr ((data.size : Int) - ((A.get ino).map (·.data.size)).getD 0))]
def AT.written (A : AT) (ino : Int) (data : ByteArray) : AT := match A.get ino with
 | none => A
 | some n => { A.set ino { n with data := data } with ub := wr (A.ub + wr ((data.size : Int) - n.data.size)) }
def AT.chmodE (A : AT) (ino mode : Int) : Int := firstE [0, if 0 <= mode /\ mode <= 511 then 0 else 2, if (A.get ino).isSome then 0 else 5]
def AT.chmoded (A : AT) (ino mode : Int) : AT := A.mod ino fun n => { n with mode := mode }
def newOk (qi qb : Int) : Bool := !(decide (qi < 1) || (decide (qi > 1048576) || (decide (qb < 0) || decide (qb > 1073741824))))
def newT (qi qb : Int) : AT := ⟨qi, qb, 1, 0, 1, [(1, ⟨2, 493, ⟨⟨[]⟩⟩, 1, 1, []⟩)]⟩
def AT.makeR (A : AT) (dir : Int) (name : ByteArray) (kind mode : Int) (data : ByteArray) : Int × Int × AT :=
 if A.makeE dir name kind mode data = 0 then (wr (A.last + 1), 0, A.made dir name kind mode data) else (0, A.makeE dir name kind mode data, A)
def AT.linkR (A : AT) (dir : Int) (name : ByteArray) (ino : Int) : Int × AT :=
 if A.linkE dir name ino = 0 then (0, A.linked dir name ino) else (A.linkE dir name ino, A)
def AT.writeR (A : AT) (ino : Int) (data : ByteArray) : Int × AT := if A.writeE ino data = 0 then (0, A.written ino data) else (A.writeE ino data, A)
def AT.chmodR (A : AT) (ino mode : Int) : Int × AT := if A.chmodE ino mode = 0 then (0, A.chmoded ino mode) else (A.chmodE ino mode, A)
def AT.unlinkR (A : AT) (dir : Int) (name : ByteArray) : Int × AT := if A.unlinkE dir name = 0 then (0, A.unlinked dir name) else (A.unlinkE dir name, A)
def AT.moveR (A : AT) (src : Int) (name : ByteArray) (to : Int) (as_ : ByteArray) (f : Nat) : Int × AT :=
 if A.moveE1 src name to as_ ≠ 0 \/ (src = to /\ name = as_) then (A.moveE1 src name to as_, A)
 else
  let e := firstE [if (A.find to as_).isSome then 6 else 0, if (A.apart ((A.find src name).getD 0) f to).getD false then 0 else 2]
  if e ≠ 0 then (e, A) else (0, A.moved src name to as_)
end Go.Wk

namespace Go.Proofs.YtbjbeajbckcecaaGreatDoor
open Go Go.HL
@[reducible] def kI : TK := .one (.sc (.int .i64))
@[reducible] def kC : TK := .one (.sc (.int .u8))
@[reducible] def kB : TK := .one (.sc .bool)
@[reducible] def kS : TK := .one (.sc .str)
@[reducible] def kP : TK := .one (.sc .ptr)
@[reducible] def kL : TK := .one (.sc .slc)
@[reducible] def kM : TK := .one (.sc .map)
@[reducible] def kR : TK := .one (.sc .raw)
@[reducible] def kU : TK := .tup []
def tau : Nat -> TK
 | 0 => kU
 | 2 => kI
 | 3 => kI
 | 4 => kB
 | 5 => kC
 | 6 => kC
 | 7 => (.one (.agg [(.int .i64), (.int .i64), .bool, (.int .u8)]))
 | 8 => (.one (.agg [(.int .i64), (.int .i64), .bool, (.int .u8)]))
 | 9 => kS
 | 10 => kS
 | 11 => kS
 | 12 => (.one (.sc (.int .u64)))
 | 13 => (.one (.agg [.str, (.int .u64)]))
 | 14 => (.one (.agg [.str, (.int .u64)]))
 | 15 => kP
 | 16 => kP
 | 17 => kP
 | 18 => (.one (.agg [.ptr]))
 | 19 => (.one (.agg [.ptr]))
 | 21 => (.one (.sc (.int .i32)))
 | 22 => kL
 | 24 => kP
 | 25 => kP
 | 26 => (.tup [.sc .ptr, .sc .ptr])
 | 28 => (.one (.agg [.str, .bool, .bool]))
 | 29 => (.one (.agg [.str, .bool, .bool]))
 | 31 => kL
 | 32 => (.tup [.sc .slc, .sc (.int .i64)])
 | 34 => (.one (.agg [(.int .i64), (.int .i64), .str, (.int .i64)]))
 | 35 => (.one (.agg [(.int .i64), (.int .i64), .str, (.int .i64)]))
 | 36 => kI
 | 37 => (.tup [.agg [(.int .i64), (.int .i64), .str, (.int .i64)], .sc (.int .i64)])
 | 40 => (.tup [.sc .slc, .sc (.int .i64)])
 | 44 => kL
 | 47 => kL
 | 51 => kL
 | 52 => (.one (.agg [.slc]))
 | 53 => (.one (.agg [.slc]))
 | 56 => kL
 | 62 => kL
 | 63 => (.one (.agg [(.int .i64), (.int .i64)]))
 | 64 => (.one (.agg [(.int .i64), (.int .i64)]))
 | 68 => (.one (.agg [(.int .u8), .str, .str, (.int .i64)]))
 | 69 => (.one (.agg [(.int .u8), .str, .str, (.int .i64)]))
 | 71 => kL
 | 72 => (.one (.agg [.str, (.int .i64), .bool, .str, .slc]))
 | 73 => (.one (.agg [.str, (.int .i64), .bool, .str, .slc]))
 | 74 => (.tup [.agg [.str, (.int .i64), .bool, .str, .slc], .sc (.int .i64)])
 | 92 => (.tup [.sc .str, .sc (.int .i64)])
 | 95 => kP
 | 96 => (.one (.agg [.ptr, .str, (.int .i64)]))
 | 97 => (.one (.agg [.ptr, .str, (.int .i64)]))
 | 102 => kL
 | 108 => kP
 | 109 => (.one (.agg [.ptr]))
 | 110 => (.one (.agg [.ptr]))
 | 114 => kP
 | 116 => (.one (.agg [(.int .u8), .bool]))
 | 117 => (.one (.agg [(.int .u8), .bool]))
 | 119 => kP
 | 120 => (.one (.agg [.ptr, .slc]))
 | 121 => (.one (.agg [.ptr, .slc]))
 | 124 => (.tup [.sc (.int .i64), .sc .raw])
 | 128 => kP
 | 129 => kL
 | 130 => (.one (.agg [(.int .i64), (.int .i64), .str, .slc, (.int .i64)]))
 | 131 => (.one (.agg [(.int .i64), (.int .i64), .str, .slc, (.int .i64)]))
 | 132 => kL
 | 133 => (.one (.agg [(.int .i64), (.int .i64), .slc]))
 | 134 => (.one (.agg [(.int .i64), (.int .i64), .slc]))
 | 135 => (.one (.agg [.ptr]))
 | 136 => (.one (.agg [.ptr]))
 | 141 => (.one (.agg [(.int .i64), .str, (.int .i64), .bool]))
 | 142 => (.one (.agg [(.int .i64), .str, (.int .i64), .bool]))
 | 143 => (.tup [.sc (.int .i64), .sc (.int .i64)])
 | 147 => (.tup [.agg [(.int .i64), .str, (.int .i64), .bool], .sc (.int .i64)])
 | 149 => (.tup [.agg [(.int .i64), (.int .i64), .str, (.int .i64)], .sc .bool])
 | 155 => (.one (.sc (.int .u64)))
 | 156 => (.tup [.sc (.int .u64), .sc (.int .u64)])
 | 159 => (.tup [.agg [(.int .i64), .str, (.int .i64), .bool], .agg [(.int .i64), .str, (.int .i64), .bool], .sc (.int .i64)])
 | 165 => (.tup [.sc (.int .i64), .sc (.int .i64)])
 | 168 => (.tup [.sc (.int .i64), .sc .bool])
 | 170 => (.one (.agg [(.int .i64), .str, (.int .i64)]))
 | 171 => (.one (.agg [(.int .i64), .str, (.int .i64)]))
 | 172 => (.tup [.agg [(.int .i64), .str, (.int .i64)], .sc (.int .i64)])
 | 177 => kL
 | 179 => (.one (.agg [.bool, .raw, .bool]))
 | 180 => (.one (.agg [.bool, .raw, .bool]))
 | 185 => (.one (.agg [.slc, .bool]))
 | 186 => (.one (.agg [.slc, .bool]))
 | 188 => kP
 | 189 => kP
 | 192 => kM
 | 193 => (.one (.agg [(.int .i64), (.int .i64), .str, (.int .i64), (.int .i64), .map]))
 | 194 => (.one (.agg [(.int .i64), (.int .i64), .str, (.int .i64), (.int .i64), .map]))
 | 197 => kP
 | 198 => kM
 | 199 => (.one (.agg [(.int .i64), (.int .i64), (.int .i64), (.int .i64), .map, (.int .i64)]))
 | 200 => (.one (.agg [(.int .i64), (.int .i64), (.int .i64), (.int .i64), .map, (.int .i64)]))
 | 205 => (.tup [.sc .raw, .sc .bool])
 | 209 => kM
 | 211 => kM
 | 219 => kP
 | 220 => (.one (.sc (.int .u32)))
 | 221 => (.tup [.sc (.int .u32), .sc (.int .u32)])
 | 223 => (.one (.sc (.int .u64)))
 | 224 => (.tup [.sc (.int .u64), .sc (.int .u64)])
 | 226 => kM
 | 229 => kL
 | 233 => (.one (.agg [(.int .u8), .bool]))
 | 234 => (.one (.agg [(.int .u8), .bool]))
 | 235 => (.tup [.sc .raw, .sc (.int .i64)])
 | 244 => (.one (.agg [.str, (.int .i64)]))
 | 245 => (.one (.agg [.str, (.int .i64)]))
 | 249 => kL
 | 260 => kI
 | 261 => (.tup [.sc (.int .i64), .sc (.int .i64)])
 | 270 => kL
 | 276 => (.one (.sc (.int .u64)))
 | 286 => (.tup [.sc .raw, .sc .bool])
 | 289 => kP
 | 292 => kP
 | 293 => (.tup [.sc (.int .i32), .sc (.int .i64)])
 | 296 => (.one (.agg [(.int .u8), (.int .u8)]))
 | 297 => (.one (.agg [(.int .u8), (.int .u8)]))
 | 299 => (.one (.agg [.ptr, .ptr, .ptr, .str]))
 | 300 => (.one (.agg [.ptr, .ptr, .ptr, .str]))
 | 301 => (.one (.agg []))
 | 302 => (.one (.agg []))
 | 303 => (.one (.agg []))
 | 304 => kC
 | 305 => kC
 | 307 => (.one (.sc (.int .i32)))
 | 308 => (.one (.sc (.int .i32)))
 | 309 => (.one (.agg [(.int .u64), (.int .u64), (.int .u32), (.int .u8), (.int .u8), (.int .u8), (.int .u8), .raw, .ptr, (.int .i32), (.int .i32)]))
 | 310 => (.one (.agg [(.int .u64), (.int .u64), (.int .u32), (.int .u8), (.int .u8), (.int .u8), (.int .u8), .raw, .ptr, (.int .i32), (.int .i32)]))
 | _ => kR
theorem mixed : Tryz.prog.follows .mixedOrders = true := by kernel_rfl
end Go.Proofs.YtbjbeajbckcecaaGreatDoor

set_option maxRecDepth 100000
namespace Go.Proofs.YtbjbeajbckcecaaGreatDoor
open Go Go.HL
def an7 : Ann := (.q (.q (.n (.reg [0,2,1,3,4,5] [[],[0],[],[0,1,2],(rn 4),(rn 5)]) (.n (.seq (some [(0,.l),(1,.s),(6,.p),(7,.p),(25,.b)]) .r (.h)) (.n (.q (.blk (.loop [(0,.l),(1,.s),(6,.p),(7,.p),(8,.i)] (.n (.seq (some [(0,.l),(1,.s),(6,.p),(7,.p),(8,.i),(31,.w),(32,.w),(33,.b)]) .r (.cond .z .z)) (.n (.blk (.q (.h))) .r))))) (.n (.q (.cond (.q (.q .z)) .z)) (.q (.q (.n (.q (.h)) (.n (.q (.h)) (.q .z)))))))))))
def g7 (l_1 : Sl) (path_2 : ByteArray) (K : KH) : H -> Prop :=
 alW (.cells ⟨[.int .i64 0, .int .i64 0]⟩ 64 (0, 0)) (fun b3 => stW Tryz.prog 64 (.pointer (some ⟨b3, 0, none⟩)) (.agg ⟨[.int .i64 80, .int .i64 3000]⟩) (rdT (rdA 2 b3 0) (.one (.agg [(.int .i64), (.int .i64)])) (fun (x4 : Int) (x5 : Int) => rdT (rdA 2 b3 0) (.one (.agg [(.int .i64), (.int .i64)])) (fun (x6 : Int) (x7 : Int) => callT Tryz.prog 31 [.agg ⟨[.int .i64 x4, .int .i64 x5]⟩] kP (fun x8 => andW (fun σ => (rdA 2 b3 0) σ = some (.agg ⟨[.int .i64 x6, .int .i64 x7]⟩))
 (callT Tryz.prog 32 [.agg ⟨[.int .i64 x6, .int .i64 x7]⟩] kP (fun x9 => letJ (T := Sl -> ByteArray -> Option Addr -> Option Addr -> Bool -> H -> Prop) (fun l_11 path_12 f_13 r_14 x15 => brW x15 (K (.bool false)) (loopW [.sc .slc, .sc .str, .sc .ptr, .sc .ptr, .sc (.int .i64)] (fun (R16 : Sl -> ByteArray -> Option Addr -> Option Addr -> Int -> H -> Prop) => (fun (l_17 : Sl) (path_18 : ByteArray) (f_19 : Option Addr) (r_20 : Option Addr) (i_21 : Int) =>
 letJ (T := Sl -> ByteArray -> Option Addr -> Option Addr -> Int -> Value -> Value -> Bool -> H -> Prop) (fun l_23 path_24 f_25 r_26 i_27 _x28 _x29 x30 => brW x30 (ptrW l_23.base (fun b31 o32 => ifW (0 <= i_27 /\ i_27 < ((l_23.len : Nat) : Int)) (rdT (rdA 4 b31 (o32 + i_27.toNat * 4)) (.one (.agg [(.int .u8), .str, .str, (.int .i64)])) (fun (x33 : Int) (x34 : ByteArray) (x35 : ByteArray) (x36 : Int) =>
 callT Tryz.prog 33 [.pointer f_25, .pointer r_26, .agg ⟨[.int .u8 x33, .string x34, .string x35, .int .i64 x36]⟩] kB (fun x37 => brW (!x37) (K (.bool false)) (R16 l_23 path_24 f_25 r_26 (IntKind.i64.wrap (i_27 + 1)))))))) (callT Tryz.prog 34 [.string path_24] kS (fun (x38 : ByteArray) => brW (strEq x38 (⟨⟨[]⟩⟩ : ByteArray))
 (callT Tryz.prog 35 [.pointer f_25, .string (⟨⟨[]⟩⟩ : ByteArray)] (.tup [.agg [.str, (.int .i64), .bool, .str, .slc], .sc (.int .i64)]) (fun (x39 : ByteArray) (x40 : Int) (x41 : Bool) (x42 : ByteArray) (x43 : Sl) (x44 : Int) => alW (.cells ⟨[.string (⟨⟨[]⟩⟩ : ByteArray), .int .i64 0, .bool false, .string (⟨⟨[]⟩⟩ : ByteArray), .slice none 0 0]⟩ 73 (0, 0)) (fun b45 =>
 stW Tryz.prog 73 (.pointer (some ⟨b45, 0, none⟩)) (.agg ⟨[.string x39, .int .i64 x40, .bool x41, .string x42, .slice x43.base x43.len x43.cap]⟩) (brW ((x44 : Int) == 5) (callT Tryz.prog 36 [] kB (fun x46 => K (.bool x46))) (K (.bool false)))))) (callT Tryz.prog 34 [.string path_24] kS (fun (x47 : ByteArray) =>
 callT Tryz.prog 35 [.pointer f_25, .string x47] (.tup [.agg [.str, (.int .i64), .bool, .str, .slc], .sc (.int .i64)]) (fun (x48 : ByteArray) (x49 : Int) (x50 : Bool) (x51 : ByteArray) (x52 : Sl) (x53 : Int) => alW (.cells ⟨[.string (⟨⟨[]⟩⟩ : ByteArray), .int .i64 0, .bool false, .string (⟨⟨[]⟩⟩ : ByteArray), .slice none 0 0]⟩ 73 (0, 0)) (fun b54 =>
 stW Tryz.prog 73 (.pointer (some ⟨b54, 0, none⟩)) (.agg ⟨[.string x48, .int .i64 x49, .bool x50, .string x51, .slice x52.base x52.len x52.cap]⟩) (callT Tryz.prog 34 [.string path_24] kS (fun (x55 : ByteArray) => callT Tryz.prog 37 [.pointer r_26, .string x55] (.tup [.agg [.str, (.int .i64), .bool, .str, .slc], .sc (.int .i64)]) (fun (x56 : ByteArray) (x57 : Int) (x58 : Bool) (x59 : ByteArray) (x60 : Sl) (x61 : Int) =>
 alW (.cells ⟨[.string (⟨⟨[]⟩⟩ : ByteArray), .int .i64 0, .bool false, .string (⟨⟨[]⟩⟩ : ByteArray), .slice none 0 0]⟩ 73 (0, 0)) (fun b62 => stW Tryz.prog 73 (.pointer (some ⟨b62, 0, none⟩)) (.agg ⟨[.string x56, .int .i64 x57, .bool x58, .string x59, .slice x60.base x60.len x60.cap]⟩) (brW ((x53 : Int) != x61) (K (.bool false)) (brW ((x53 : Int) != 0) (rdT (rdC b54 1) kI (fun (x63 : Int) => brW ((x63 : Int) == 0) (rdT (rdC b54 4) kL (fun x64 => brW ((((x64.len : Nat) : Int) : Int) == 0)
 (callT Tryz.prog 36 [] kB (fun x65 => K (.bool x65))) (K (.bool false)))) (K (.bool false)))) (rdT (rdA 5 b54 0) (.one (.agg [.str, (.int .i64), .bool, .str, .slc])) (fun (x66 : ByteArray) (x67 : Int) (x68 : Bool) (x69 : ByteArray) (x70 : Sl) => rdT (rdA 5 b62 0) (.one (.agg [.str, (.int .i64), .bool, .str, .slc])) (fun (x71 : ByteArray) (x72 : Int) (x73 : Bool) (x74 : ByteArray) (x75 : Sl) =>
 callT Tryz.prog 38 [.agg ⟨[.string x66, .int .i64 x67, .bool x68, .string x69, .slice x70.base x70.len x70.cap]⟩, .agg ⟨[.string x71, .int .i64 x72, .bool x73, .string x74, .slice x75.base x75.len x75.cap]⟩] kB (fun x76 => brW x76 (callT Tryz.prog 39 [.pointer f_25] (.one (.agg [(.int .i64), (.int .i64)])) (fun (x77 : Int) (x78 : Int) => callT Tryz.prog 40 [.pointer r_26] (.one (.agg [(.int .i64), (.int .i64)])) (fun (x79 : Int) (x80 : Int) =>
 brW (((x77 : Int) == x79) && (((x78 : Int) == x80) && true)) (callT Tryz.prog 36 [] kB (fun x81 => K (.bool x81))) (K (.bool false))))) (K (.bool false))))))))))))))))))) (fun j22 => brW (decide ((i_21 : Int) < ((l_17.len : Nat) : Int))) (j22 l_17 path_18 f_19 r_20 i_21 (.int .i64 i_21) (.bool (decide ((i_21 : Int) < 50))) (decide ((i_21 : Int) < 50)))
 (j22 l_17 path_18 f_19 r_20 i_21 (.tuple ⟨[]⟩) (.tuple ⟨[]⟩) false)))) (fun (R82 : Sl -> ByteArray -> Option Addr -> Option Addr -> Int -> H -> Prop) => R82 l_11 path_12 f_13 r_14 0))) (fun j10 => brW x8.isNone (j10 l_1 path_2 x8 x9 true) (j10 l_1 path_2 x8 x9 x9.isNone)))))))))
theorem e7 (l_1 : Sl) (path_2 : ByteArray) (K : KH) : bodyF Tryz.prog tau Tryz.f7 an7 [.slice l_1.base l_1.len l_1.cap, .string path_2] K = g7 l_1 path_2 K := by kernel_rfl
theorem c7 (l_1 : Sl) (path_2 : ByteArray) {K : KH} {σ : H} (h : g7 l_1 path_2 K σ) : callW Tryz.prog 7 [.slice l_1.base l_1.len l_1.cap, .string path_2] K σ := call_of_body mixed Tryz.func7 (by rw [e7]; exact h)


def an15 : Ann := (.q (.q (.q .z)))
def g15 (f_1 : Option Addr) (cwd_2 : ByteArray) (path_3 : ByteArray) (follow_4 : Bool) (K : KH) : H -> Prop :=
 alW (.cells ⟨[.int .i64 0, .int .i64 0, .string (⟨⟨[]⟩⟩ : ByteArray), .int .i64 0]⟩ 35 (0, 0)) (fun b5 => callT Tryz.prog 69 [.pointer f_1, .string cwd_2, .string path_3, .bool follow_4, .func (.func 70) ⟨[]⟩ ⟨[.pointer (some ⟨b5, 0, none⟩)]⟩] kI (fun (x6 : Int) => rdT (rdA 4 b5 0) (.one (.agg [(.int .i64), (.int .i64), .str, (.int .i64)])) (fun (x7 : Int) (x8 : Int) (x9 : ByteArray) (x10 : Int) =>
 stW Tryz.prog 35 (.pointer (some ⟨b5, 0, none⟩)) (.agg ⟨[.int .i64 x7, .int .i64 x8, .string x9, .int .i64 x10]⟩) (rdT (rdA 4 b5 0) (.one (.agg [(.int .i64), (.int .i64), .str, (.int .i64)])) (fun (r11 : Int) (r12 : Int) (r13 : ByteArray) (r14 : Int) => K (.tuple ⟨[.agg ⟨[.int .i64 r11, .int .i64 r12, .string r13, .int .i64 r14]⟩, .int .i64 x6]⟩))))))
theorem e15 (f_1 : Option Addr) (cwd_2 : ByteArray) (path_3 : ByteArray) (follow_4 : Bool) (K : KH) : bodyF Tryz.prog tau Tryz.f15 an15 [.pointer f_1, .string cwd_2, .string path_3, .bool follow_4] K = g15 f_1 cwd_2 path_3 follow_4 K := by kernel_rfl
theorem c15 (f_1 : Option Addr) (cwd_2 : ByteArray) (path_3 : ByteArray) (follow_4 : Bool) {K : KH} {σ : H} (h : g15 f_1 cwd_2 path_3 follow_4 K σ) : callW Tryz.prog 15 [.pointer f_1, .string cwd_2, .string path_3, .bool follow_4] K σ := call_of_body mixed Tryz.func15 (by rw [e15]; exact h)


def an17 : Ann := (.q (.q (.q .z)))
def g17 (f_1 : Option Addr) (cwd_2 : ByteArray) (path_3 : ByteArray) (K : KH) : H -> Prop :=
 alW (.cells ⟨[.pointer f_1]⟩ 24 (0, 0)) (fun b4 => alW (.cells ⟨[.slice none 0 0]⟩ 22 (0, 0)) (fun b5 => rdT (rdC b4 0) kP (fun x6 => callT Tryz.prog 69 [.pointer x6, .string cwd_2, .string path_3, .bool true, .func (.func 72) ⟨[]⟩ ⟨[.pointer (some ⟨b4, 0, none⟩), .pointer (some ⟨b5, 0, none⟩)]⟩] kI (fun (x7 : Int) => rdT (rdC b5 0) kL (fun x8 => stW Tryz.prog 22 (.pointer (some ⟨b5, 0, none⟩)) (.slice x8.base x8.len x8.cap) (rdT (rdC b5 0) kL (fun r9 =>
 K (.tuple ⟨[.slice r9.base r9.len r9.cap, .int .i64 x7]⟩))))))))
theorem e17 (f_1 : Option Addr) (cwd_2 : ByteArray) (path_3 : ByteArray) (K : KH) : bodyF Tryz.prog tau Tryz.f17 an17 [.pointer f_1, .string cwd_2, .string path_3] K = g17 f_1 cwd_2 path_3 K := by kernel_rfl
theorem c17 (f_1 : Option Addr) (cwd_2 : ByteArray) (path_3 : ByteArray) {K : KH} {σ : H} (h : g17 f_1 cwd_2 path_3 K σ) : callW Tryz.prog 17 [.pointer f_1, .string cwd_2, .string path_3] K σ := call_of_body mixed Tryz.func17 (by rw [e17]; exact h)


def an26 : Ann := (.q (.q .z))
def g26 (s_1 : ByteArray) (c_2 : Int) (K : KH) : H -> Prop :=
 callT Tryz.prog 79 [.string s_1, .int .u8 c_2] kI (fun (x3 : Int) => K (.int .i64 x3))
theorem e26 (s_1 : ByteArray) (c_2 : Int) (K : KH) : bodyF Tryz.prog tau Tryz.f26 an26 [.string s_1, .int .u8 c_2] K = g26 s_1 c_2 K := by kernel_rfl
theorem c26 (s_1 : ByteArray) (c_2 : Int) {K : KH} {σ : H} (h : g26 s_1 c_2 K σ) : callW Tryz.prog 26 [.string s_1, .int .u8 c_2] K σ := call_of_body mixed Tryz.func26 (by rw [e26]; exact h)


def an31 : Ann := (.q (.q (.n (.q (.h)) (.q .z))))
def g31 (q_1 : Int) (q_2 : Int) (K : KH) : H -> Prop :=
 alW (.cells ⟨[.int .i64 q_1, .int .i64 q_2]⟩ 64 (0, 0)) (fun b3 => rdT (rdA 2 b3 0) (.one (.agg [(.int .i64), (.int .i64)])) (fun (x4 : Int) (x5 : Int) => callT Tryz.prog 82 [.agg ⟨[.int .i64 x4, .int .i64 x5]⟩] kP (fun x6 => brW x6.isNone (K (.pointer none)) (alW (.cells ⟨[.pointer x6]⟩ 110 (0, 0)) (fun b7 => K (.pointer (some ⟨b7, 0, none⟩)))))))
theorem e31 (q_1 : Int) (q_2 : Int) (K : KH) : bodyF Tryz.prog tau Tryz.f31 an31 [.agg ⟨[.int .i64 q_1, .int .i64 q_2]⟩] K = g31 q_1 q_2 K := by kernel_rfl
theorem c31 (q_1 : Int) (q_2 : Int) {K : KH} {σ : H} (h : g31 q_1 q_2 K σ) : callW Tryz.prog 31 [.agg ⟨[.int .i64 q_1, .int .i64 q_2]⟩] K σ := call_of_body mixed Tryz.func31 (by rw [e31]; exact h)


def an32 : Ann := (.q (.n (.seq (some [(1,.p),(20,.b)]) .r (.h)) (.q .z)))
def g32 (q_1 : Int) (q_2 : Int) (K : KH) : H -> Prop :=
 alW (.cells ⟨[.int .i64 q_1, .int .i64 q_2]⟩ 64 (0, 0)) (fun b3 => letJ (T := Option Addr -> Bool -> H -> Prop) (fun q_5 x6 => brW x6 (K (.pointer none)) (ptrW q_5 (fun b7 o8 => rdT (rdA 2 b7 o8) (.one (.agg [(.int .i64), (.int .i64)])) (fun (x9 : Int) (x10 : Int) => alW (.cells ⟨[.int .i64 2, .int .i64 493, .string (⟨⟨[]⟩⟩ : ByteArray), .slice none 0 0, .int .i64 0]⟩ 131 (0, 0)) (fun b11 => alW (.cells ⟨[.pointer (some ⟨b11, 0, none⟩)]⟩ 128 (0, 0)) (fun b12 =>
 alW (.cells ⟨[.int .i64 x9, .int .i64 x10, .slice (some ⟨b12, 0, none⟩) 1 1]⟩ 134 (0, 0)) (fun b13 => K (.pointer (some ⟨b13, 0, none⟩))))))))) (fun j4 => rdT (rdC b3 0) kI (fun (x14 : Int) => brW (decide ((x14 : Int) < 1)) (j4 (some ⟨b3, 0, none⟩) true) (rdT (rdC b3 0) kI (fun (x15 : Int) => brW (decide ((x15 : Int) > 1048576)) (j4 (some ⟨b3, 0, none⟩) true) (rdT (rdC b3 1) kI (fun (x16 : Int) => brW (decide ((x16 : Int) < 0)) (j4 (some ⟨b3, 0, none⟩) true)
 (rdT (rdC b3 1) kI (fun (x17 : Int) => j4 (some ⟨b3, 0, none⟩) (decide ((x17 : Int) > 1073741824)))))))))))
theorem e32 (q_1 : Int) (q_2 : Int) (K : KH) : bodyF Tryz.prog tau Tryz.f32 an32 [.agg ⟨[.int .i64 q_1, .int .i64 q_2]⟩] K = g32 q_1 q_2 K := by kernel_rfl
theorem c32 (q_1 : Int) (q_2 : Int) {K : KH} {σ : H} (h : g32 q_1 q_2 K σ) : callW Tryz.prog 32 [.agg ⟨[.int .i64 q_1, .int .i64 q_2]⟩] K σ := call_of_body mixed Tryz.func32 (by rw [e32]; exact h)


def an33 : Ann := (.q (.n (.reg [0,1,3,4,2,5,6,7] [[],[0],[0,1],[],[3],(rn 5),(rn 6),(rn 7)]) (.n (.q (.blk (.q (.cond (.q .z) (.q (.cond (.q .z) (.q (.cond (.q .z) (.q (.cond (.q .z) (.q (.h)))))))))))) (.n (.reg [0,1,2,3,5,6,7,8,4,9,10,11] [[],[],[],[2],(rn 4),[],[],[],[7],(rn 9),(rn 10),(rn 11)]) .z))))
def g33 (f_1 : Option Addr) (r_2 : Option Addr) (x_3 : Int) (x_4 : ByteArray) (x_5 : ByteArray) (x_6 : Int) (K : KH) : H -> Prop :=
 alW (.cells ⟨[.int .u8 x_3, .string x_4, .string x_5, .int .i64 x_6]⟩ 69 (0, 0)) (fun b7 => rdT (rdC b7 1) kS (fun (x8 : ByteArray) => rdT (rdC b7 2) kS (fun (x9 : ByteArray) => callT Tryz.prog 34 [.string x8] kS (fun (x10 : ByteArray) => andW (fun σ => (rdC b7 2) σ = some (.string x9)) (callT Tryz.prog 34 [.string x9] kS (fun (x11 : ByteArray) => rdT (rdC b7 0) kC (fun (x12 : Int) => ifW ((6 : Int) ≠ 0) (brW (((Int.tmod x12 6) : Int) == 0)
 (callT Tryz.prog 48 [.pointer f_1, .string (⟨⟨[47]⟩⟩ : ByteArray), .string x10] kI (fun (x13 : Int) => callT Tryz.prog 63 [.pointer r_2, .string (⟨⟨[47]⟩⟩ : ByteArray), .string x10] kI (fun (x14 : Int) => K (.bool ((x13 : Int) == x14))))) (brW (((Int.tmod x12 6) : Int) == 1) (callT Tryz.prog 47 [.pointer f_1, .string (⟨⟨[47]⟩⟩ : ByteArray), .string x10, .string x11, .bool false] kI (fun (x15 : Int) =>
 callT Tryz.prog 64 [.pointer r_2, .string (⟨⟨[47]⟩⟩ : ByteArray), .string x10, .string x11, .bool false] kI (fun (x16 : Int) => K (.bool ((x15 : Int) == x16))))) (brW (((Int.tmod x12 6) : Int) == 2) (callT Tryz.prog 41 [.pointer f_1, .string (⟨⟨[47]⟩⟩ : ByteArray), .string x11, .string x10] kI (fun (x17 : Int) => callT Tryz.prog 83 [.pointer r_2, .string (⟨⟨[47]⟩⟩ : ByteArray), .string x11, .string x10] kI (fun (x18 : Int) => K (.bool ((x17 : Int) == x18)))))
 (brW (((Int.tmod x12 6) : Int) == 3) (callT Tryz.prog 55 [.pointer f_1, .string (⟨⟨[47]⟩⟩ : ByteArray), .string x10, .string x11] kI (fun (x19 : Int) => callT Tryz.prog 84 [.pointer r_2, .string (⟨⟨[47]⟩⟩ : ByteArray), .string x10, .string x11] kI (fun (x20 : Int) => K (.bool ((x19 : Int) == x20))))) (brW (((Int.tmod x12 6) : Int) == 4) (callT Tryz.prog 57 [.pointer f_1, .string (⟨⟨[47]⟩⟩ : ByteArray), .string x10, .string x11] kI (fun (x21 : Int) =>
 callT Tryz.prog 85 [.pointer r_2, .string (⟨⟨[47]⟩⟩ : ByteArray), .string x10, .string x11] kI (fun (x22 : Int) => K (.bool ((x21 : Int) == x22))))) (rdT (rdC b7 3) kI (fun (x23 : Int) => rdT (rdC b7 3) kI (fun (x24 : Int) => callT Tryz.prog 58 [.pointer f_1, .string (⟨⟨[47]⟩⟩ : ByteArray), .string x10, .int .i64 x23] kI (fun (x25 : Int) => andW (fun σ => (rdC b7 3) σ = some (.int .i64 x24))
 (callT Tryz.prog 86 [.pointer r_2, .string (⟨⟨[47]⟩⟩ : ByteArray), .string x10, .int .i64 x24] kI (fun (x26 : Int) => K (.bool ((x25 : Int) == x26))))))))))))))))))))
theorem e33 (f_1 : Option Addr) (r_2 : Option Addr) (x_3 : Int) (x_4 : ByteArray) (x_5 : ByteArray) (x_6 : Int) (K : KH) : bodyF Tryz.prog tau Tryz.f33 an33 [.pointer f_1, .pointer r_2, .agg ⟨[.int .u8 x_3, .string x_4, .string x_5, .int .i64 x_6]⟩] K = g33 f_1 r_2 x_3 x_4 x_5 x_6 K := by kernel_rfl
theorem c33 (f_1 : Option Addr) (r_2 : Option Addr) (x_3 : Int) (x_4 : ByteArray) (x_5 : ByteArray) (x_6 : Int) {K : KH} {σ : H} (h : g33 f_1 r_2 x_3 x_4 x_5 x_6 K σ) : callW Tryz.prog 33 [.pointer f_1, .pointer r_2, .agg ⟨[.int .u8 x_3, .string x_4, .string x_5, .int .i64 x_6]⟩] K σ := call_of_body mixed Tryz.func33 (by rw [e33]; exact h)


def an34 : Ann := (.q (.q .z))
def g34 (s_1 : ByteArray) (K : KH) : H -> Prop :=
 ifW (bndOk (some (if 270 < ((s_1.size : Nat) : Int) then 270 else ((s_1.size : Nat) : Int))) s_1.size /\ bndOk none ((if 270 < ((s_1.size : Nat) : Int) then 270 else ((s_1.size : Nat) : Int)).toNat)) (K (.string (s_1.extract 0 ((if 270 < ((s_1.size : Nat) : Int) then 270 else ((s_1.size : Nat) : Int)).toNat))))
theorem e34 (s_1 : ByteArray) (K : KH) : bodyF Tryz.prog tau Tryz.f34 an34 [.string s_1] K = g34 s_1 K := by kernel_rfl
theorem c34 (s_1 : ByteArray) {K : KH} {σ : H} (h : g34 s_1 K σ) : callW Tryz.prog 34 [.string s_1] K σ := call_of_body mixed Tryz.func34 (by rw [e34]; exact h)


def an35 : Ann := (.q (.q (.seq (some [(4,.p),(6,.p),(7,.i)]) (.q (.cond .r .z)) (.n (.q (.h)) (.q .z)))))
def g35 (f_1 : Option Addr) (path_2 : ByteArray) (K : KH) : H -> Prop :=
 alW (.cells ⟨[.string (⟨⟨[]⟩⟩ : ByteArray), .int .i64 0, .bool false, .string (⟨⟨[]⟩⟩ : ByteArray), .slice none 0 0]⟩ 73 (0, 0)) (fun b3 => callT Tryz.prog 87 [.agg ⟨[.pointer f_1]⟩, .string path_2] (.tup [.agg [.str, (.int .i64), .bool, .str, .slc], .sc (.int .i64)]) (fun (x4 : ByteArray) (x5 : Int) (x6 : Bool) (x7 : ByteArray) (x8 : Sl) (x9 : Int) => alW (.cells ⟨[.string (⟨⟨[]⟩⟩ : ByteArray), .int .i64 0, .bool false, .string (⟨⟨[]⟩⟩ : ByteArray), .slice none 0 0]⟩ 73 (0, 0)) (fun b10 =>
 stW Tryz.prog 73 (.pointer (some ⟨b10, 0, none⟩)) (.agg ⟨[.string x4, .int .i64 x5, .bool x6, .string x7, .slice x8.base x8.len x8.cap]⟩) (letJ (T := Option Addr -> Option Addr -> Int -> H -> Prop) (fun x12 n_13 e_14 => brW ((e_14 : Int) != 0) (stW Tryz.prog 73 (.pointer x12) (.agg ⟨[.string (⟨⟨[]⟩⟩ : ByteArray), .int .i64 0, .bool false, .string (⟨⟨[]⟩⟩ : ByteArray), .slice none 0 0]⟩) (ptrW x12 (fun b15 o16 =>
 rdT (rdA 5 b15 o16) (.one (.agg [.str, (.int .i64), .bool, .str, .slc])) (fun (r17 : ByteArray) (r18 : Int) (r19 : Bool) (r20 : ByteArray) (r21 : Sl) => K (.tuple ⟨[.agg ⟨[.string r17, .int .i64 r18, .bool r19, .string r20, .slice r21.base r21.len r21.cap]⟩, .int .i64 e_14]⟩))))) (ptrW n_13 (fun b22 o23 => rdT (rdA 5 b22 o23) (.one (.agg [.str, (.int .i64), .bool, .str, .slc])) (fun (x24 : ByteArray) (x25 : Int) (x26 : Bool) (x27 : ByteArray) (x28 : Sl) =>
 stW Tryz.prog 73 (.pointer x12) (.agg ⟨[.string x24, .int .i64 x25, .bool x26, .string x27, .slice x28.base x28.len x28.cap]⟩) (ptrW x12 (fun b29 o30 => rdT (rdA 5 b29 o30) (.one (.agg [.str, (.int .i64), .bool, .str, .slc])) (fun (r31 : ByteArray) (r32 : Int) (r33 : Bool) (r34 : ByteArray) (r35 : Sl) => K (.tuple ⟨[.agg ⟨[.string r31, .int .i64 r32, .bool r33, .string r34, .slice r35.base r35.len r35.cap]⟩, .int .i64 0]⟩)))))))) (fun j11 => brW ((x9 : Int) == 0)
 (rdT (rdA 5 b10 0) (.one (.agg [.str, (.int .i64), .bool, .str, .slc])) (fun (x36 : ByteArray) (x37 : Int) (x38 : Bool) (x39 : ByteArray) (x40 : Sl) => callT Tryz.prog 88 [.agg ⟨[.string x36, .int .i64 x37, .bool x38, .string x39, .slice x40.base x40.len x40.cap]⟩] kI (fun (x41 : Int) => j11 (some ⟨b3, 0, none⟩) (some ⟨b10, 0, none⟩) x41))) (j11 (some ⟨b3, 0, none⟩) (some ⟨b10, 0, none⟩) x9))))))
theorem e35 (f_1 : Option Addr) (path_2 : ByteArray) (K : KH) : bodyF Tryz.prog tau Tryz.f35 an35 [.pointer f_1, .string path_2] K = g35 f_1 path_2 K := by kernel_rfl
theorem c35 (f_1 : Option Addr) (path_2 : ByteArray) {K : KH} {σ : H} (h : g35 f_1 path_2 K σ) : callW Tryz.prog 35 [.pointer f_1, .string path_2] K σ := call_of_body mixed Tryz.func35 (by rw [e35]; exact h)


def an36 : Ann := (.q (.q (.n (.seq (some [(1,.p),(34,.b)]) .r (.h)) (.q (.q (.n (.reg (rn 16) [[],[0],[0,1],[0,1,2],(rn 4),(rn 5),(rn 6),(rn 7),(rn 7),[0,1,2,3,4,5,6,8],[0,1,2,3,4,5,6,8,9],[0,1,2,3,4,5,6,8,9,10],[0,1,2,3,4,5,6,8,9,10,11],(rn 13),(rn 14),(rn 15)]) .z))))))
def g36  (K : KH) : H -> Prop :=
 callT Tryz.prog 31 [.agg ⟨[.int .i64 20, .int .i64 200]⟩] kP (fun x1 => letJ (T := Option Addr -> Bool -> H -> Prop) (fun f_3 x4 => brW x4 (K (.bool false)) (callT Tryz.prog 35 [.pointer f_3, .string (⟨⟨[47, 111]⟩⟩ : ByteArray)] (.tup [.agg [.str, (.int .i64), .bool, .str, .slc], .sc (.int .i64)]) (fun (x5 : ByteArray) (x6 : Int) (x7 : Bool) (x8 : ByteArray) (x9 : Sl) (x10 : Int) =>
 alW (.cells ⟨[.string (⟨⟨[]⟩⟩ : ByteArray), .int .i64 0, .bool false, .string (⟨⟨[]⟩⟩ : ByteArray), .slice none 0 0]⟩ 73 (0, 0)) (fun b11 =>
 stW Tryz.prog 73 (.pointer (some ⟨b11, 0, none⟩)) (.agg ⟨[.string x5, .int .i64 x6, .bool x7, .string x8, .slice x9.base x9.len x9.cap]⟩) (callT Tryz.prog 35 [.pointer f_3, .string (⟨⟨[47, 112]⟩⟩ : ByteArray)] (.tup [.agg [.str, (.int .i64), .bool, .str, .slc], .sc (.int .i64)]) (fun (x12 : ByteArray) (x13 : Int) (x14 : Bool) (x15 : ByteArray) (x16 : Sl) (x17 : Int) =>
 alW (.cells ⟨[.string (⟨⟨[]⟩⟩ : ByteArray), .int .i64 0, .bool false, .string (⟨⟨[]⟩⟩ : ByteArray), .slice none 0 0]⟩ 73 (0, 0)) (fun b18 => stW Tryz.prog 73 (.pointer (some ⟨b18, 0, none⟩)) (.agg ⟨[.string x12, .int .i64 x13, .bool x14, .string x15, .slice x16.base x16.len x16.cap]⟩) (brW ((x10 : Int) == 0) (brW ((x17 : Int) == 5) (rdT (rdA 5 b11 0) (.one (.agg [.str, (.int .i64), .bool, .str, .slc])) (fun (x19 : ByteArray) (x20 : Int) (x21 : Bool) (x22 : ByteArray) (x23 : Sl) =>
 callT Tryz.prog 50 [.string (⟨⟨[104]⟩⟩ : ByteArray), .string (⟨⟨[49]⟩⟩ : ByteArray), .bool true] (.one (.agg [.str, (.int .i64), .bool, .str, .slc])) (fun (x24 : ByteArray) (x25 : Int) (x26 : Bool) (x27 : ByteArray) (x28 : Sl) => andW (fun σ => (rdA 5 b11 0) σ = some (.agg ⟨[.string x19, .int .i64 x20, .bool x21, .string x22, .slice x23.base x23.len x23.cap]⟩))
 (callT Tryz.prog 51 [.string (⟨⟨[108]⟩⟩ : ByteArray), .string (⟨⟨[120]⟩⟩ : ByteArray)] (.one (.agg [.str, (.int .i64), .bool, .str, .slc])) (fun (x29 : ByteArray) (x30 : Int) (x31 : Bool) (x32 : ByteArray) (x33 : Sl) => andW (fun σ => (rdA 5 b11 0) σ = some (.agg ⟨[.string x19, .int .i64 x20, .bool x21, .string x22, .slice x23.base x23.len x23.cap]⟩))
 (callT Tryz.prog 50 [.string (⟨⟨[120]⟩⟩ : ByteArray), .string (⟨⟨[49]⟩⟩ : ByteArray), .bool true] (.one (.agg [.str, (.int .i64), .bool, .str, .slc])) (fun (x34 : ByteArray) (x35 : Int) (x36 : Bool) (x37 : ByteArray) (x38 : Sl) => andW (fun σ => (rdA 5 b11 0) σ = some (.agg ⟨[.string x19, .int .i64 x20, .bool x21, .string x22, .slice x23.base x23.len x23.cap]⟩))
 (alW (.cells ⟨[.string x24, .int .i64 x25, .bool x26, .string x27, .slice x28.base x28.len x28.cap, .string x29, .int .i64 x30, .bool x31, .string x32, .slice x33.base x33.len x33.cap, .string x34, .int .i64 x35, .bool x36, .string x37, .slice x38.base x38.len x38.cap]⟩ 73 (0, 0)) (fun b39 =>
 callT Tryz.prog 49 [.agg ⟨[.string x19, .int .i64 x20, .bool x21, .string x22, .slice x23.base x23.len x23.cap]⟩, .agg ⟨[.string (⟨⟨[]⟩⟩ : ByteArray), .int .i64 2, .bool false, .string (⟨⟨[]⟩⟩ : ByteArray), .slice (some ⟨b39, 0, none⟩) 3 3]⟩] kB (fun x40 => K (.bool x40))))))))))) (K (.bool false))) (K (.bool false)))))))))) (fun j2 => brW x1.isNone (j2 x1 true) (callT Tryz.prog 48 [.pointer x1, .string (⟨⟨[47]⟩⟩ : ByteArray), .string (⟨⟨[111]⟩⟩ : ByteArray)] kI (fun (x41 : Int) =>
 brW ((x41 : Int) != 0) (j2 x1 true) (callT Tryz.prog 47 [.pointer x1, .string (⟨⟨[47, 111]⟩⟩ : ByteArray), .string (⟨⟨[120]⟩⟩ : ByteArray), .string (⟨⟨[49]⟩⟩ : ByteArray), .bool false] kI (fun (x42 : Int) => brW ((x42 : Int) != 0) (j2 x1 true) (callT Tryz.prog 58 [.pointer x1, .string (⟨⟨[47, 111]⟩⟩ : ByteArray), .string (⟨⟨[120]⟩⟩ : ByteArray), .int .i64 448] kI (fun (x43 : Int) => brW ((x43 : Int) != 0) (j2 x1 true)
 (callT Tryz.prog 41 [.pointer x1, .string (⟨⟨[47, 111]⟩⟩ : ByteArray), .string (⟨⟨[120]⟩⟩ : ByteArray), .string (⟨⟨[108]⟩⟩ : ByteArray)] kI (fun (x44 : Int) => brW ((x44 : Int) != 0) (j2 x1 true) (callT Tryz.prog 55 [.pointer x1, .string (⟨⟨[47, 111]⟩⟩ : ByteArray), .string (⟨⟨[120]⟩⟩ : ByteArray), .string (⟨⟨[104]⟩⟩ : ByteArray)] kI (fun (x45 : Int) => j2 x1 ((x45 : Int) != 0)))))))))))))
theorem e36  (K : KH) : bodyF Tryz.prog tau Tryz.f36 an36 [] K = g36  K := by kernel_rfl
theorem c36  {K : KH} {σ : H} (h : g36  K σ) : callW Tryz.prog 36 [] K σ := call_of_body mixed Tryz.func36 (by rw [e36]; exact h)


def an37 : Ann := (.q (.q (.seq (some [(4,.p),(6,.p),(7,.i)]) (.q (.cond .r .z)) (.n (.q (.h)) (.q .z)))))
def g37 (f_1 : Option Addr) (path_2 : ByteArray) (K : KH) : H -> Prop :=
 alW (.cells ⟨[.string (⟨⟨[]⟩⟩ : ByteArray), .int .i64 0, .bool false, .string (⟨⟨[]⟩⟩ : ByteArray), .slice none 0 0]⟩ 73 (0, 0)) (fun b3 => callT Tryz.prog 89 [.pointer f_1, .string path_2] (.tup [.agg [.str, (.int .i64), .bool, .str, .slc], .sc (.int .i64)]) (fun (x4 : ByteArray) (x5 : Int) (x6 : Bool) (x7 : ByteArray) (x8 : Sl) (x9 : Int) => alW (.cells ⟨[.string (⟨⟨[]⟩⟩ : ByteArray), .int .i64 0, .bool false, .string (⟨⟨[]⟩⟩ : ByteArray), .slice none 0 0]⟩ 73 (0, 0)) (fun b10 =>
 stW Tryz.prog 73 (.pointer (some ⟨b10, 0, none⟩)) (.agg ⟨[.string x4, .int .i64 x5, .bool x6, .string x7, .slice x8.base x8.len x8.cap]⟩) (letJ (T := Option Addr -> Option Addr -> Int -> H -> Prop) (fun x12 n_13 e_14 => brW ((e_14 : Int) != 0) (stW Tryz.prog 73 (.pointer x12) (.agg ⟨[.string (⟨⟨[]⟩⟩ : ByteArray), .int .i64 0, .bool false, .string (⟨⟨[]⟩⟩ : ByteArray), .slice none 0 0]⟩) (ptrW x12 (fun b15 o16 =>
 rdT (rdA 5 b15 o16) (.one (.agg [.str, (.int .i64), .bool, .str, .slc])) (fun (r17 : ByteArray) (r18 : Int) (r19 : Bool) (r20 : ByteArray) (r21 : Sl) => K (.tuple ⟨[.agg ⟨[.string r17, .int .i64 r18, .bool r19, .string r20, .slice r21.base r21.len r21.cap]⟩, .int .i64 e_14]⟩))))) (ptrW n_13 (fun b22 o23 => rdT (rdA 5 b22 o23) (.one (.agg [.str, (.int .i64), .bool, .str, .slc])) (fun (x24 : ByteArray) (x25 : Int) (x26 : Bool) (x27 : ByteArray) (x28 : Sl) =>
 stW Tryz.prog 73 (.pointer x12) (.agg ⟨[.string x24, .int .i64 x25, .bool x26, .string x27, .slice x28.base x28.len x28.cap]⟩) (ptrW x12 (fun b29 o30 => rdT (rdA 5 b29 o30) (.one (.agg [.str, (.int .i64), .bool, .str, .slc])) (fun (r31 : ByteArray) (r32 : Int) (r33 : Bool) (r34 : ByteArray) (r35 : Sl) => K (.tuple ⟨[.agg ⟨[.string r31, .int .i64 r32, .bool r33, .string r34, .slice r35.base r35.len r35.cap]⟩, .int .i64 0]⟩)))))))) (fun j11 => brW ((x9 : Int) == 0)
 (rdT (rdA 5 b10 0) (.one (.agg [.str, (.int .i64), .bool, .str, .slc])) (fun (x36 : ByteArray) (x37 : Int) (x38 : Bool) (x39 : ByteArray) (x40 : Sl) => callT Tryz.prog 90 [.agg ⟨[.string x36, .int .i64 x37, .bool x38, .string x39, .slice x40.base x40.len x40.cap]⟩] kI (fun (x41 : Int) => j11 (some ⟨b3, 0, none⟩) (some ⟨b10, 0, none⟩) x41))) (j11 (some ⟨b3, 0, none⟩) (some ⟨b10, 0, none⟩) x9))))))
theorem e37 (f_1 : Option Addr) (path_2 : ByteArray) (K : KH) : bodyF Tryz.prog tau Tryz.f37 an37 [.pointer f_1, .string path_2] K = g37 f_1 path_2 K := by kernel_rfl
theorem c37 (f_1 : Option Addr) (path_2 : ByteArray) {K : KH} {σ : H} (h : g37 f_1 path_2 K σ) : callW Tryz.prog 37 [.pointer f_1, .string path_2] K σ := call_of_body mixed Tryz.func37 (by rw [e37]; exact h)


def an38 : Ann := (.q (.n (.seq (some [(2,.p),(3,.p),(13,.b)]) .r (.h)) (.n (.seq (some [(2,.p),(3,.p),(48,.b)]) .r (.h)) (.n (.q (.blk (.loop [(2,.p),(3,.p),(5,.i)] (.n (.q (.cond .z .z)) (.n (.blk (.n (.reg (rn 12) [[],[0],[],[0,1,2],(rn 4),[],[5],[],[5,6,7],[5,6,7,8],(rn 10),(rn 11)]) (.h))) .r))))) (.q .z)))))
def g38 (a_1 : ByteArray) (a_2 : Int) (a_3 : Bool) (a_4 : ByteArray) (a_5 : Sl) (b_6 : ByteArray) (b_7 : Int) (b_8 : Bool) (b_9 : ByteArray) (b_10 : Sl) (K : KH) : H -> Prop :=
 alW (.cells ⟨[.string a_1, .int .i64 a_2, .bool a_3, .string a_4, .slice a_5.base a_5.len a_5.cap]⟩ 73 (0, 0)) (fun b11 => alW (.cells ⟨[.string b_6, .int .i64 b_7, .bool b_8, .string b_9, .slice b_10.base b_10.len b_10.cap]⟩ 73 (0, 0)) (fun b12 => letJ (T := Option Addr -> Option Addr -> Bool -> H -> Prop) (fun a_14 b_15 x16 => brW x16 (K (.bool false)) (letJ (T := Option Addr -> Option Addr -> Bool -> H -> Prop) (fun a_18 b_19 x20 => brW x20 (K (.bool false))
 (loopW [.sc .ptr, .sc .ptr, .sc (.int .i64)] (fun (R21 : Option Addr -> Option Addr -> Int -> H -> Prop) => (fun (a_22 : Option Addr) (b_23 : Option Addr) (i_24 : Int) => ptrW a_22 (fun b25 o26 => rdT (rdC b25 (o26 + 4)) kL (fun x27 => brW (decide ((i_24 : Int) < ((x27.len : Nat) : Int))) (ptrW a_22 (fun b28 o29 => rdT (rdC b28 (o29 + 4)) kL (fun x30 => ptrW x30.base (fun b31 o32 => ifW (0 <= i_24 /\ i_24 < ((x30.len : Nat) : Int))
 (rdT (rdA 5 b31 (o32 + i_24.toNat * 5)) (.one (.agg [.str, (.int .i64), .bool, .str, .slc])) (fun (x33 : ByteArray) (x34 : Int) (x35 : Bool) (x36 : ByteArray) (x37 : Sl) => ptrW b_23 (fun b38 o39 => rdT (rdC b38 (o39 + 4)) kL (fun x40 => ptrW x40.base (fun b41 o42 => ifW (0 <= i_24 /\ i_24 < ((x40.len : Nat) : Int)) (rdT (rdA 5 b41 (o42 + i_24.toNat * 5)) (.one (.agg [.str, (.int .i64), .bool, .str, .slc])) (fun (x43 : ByteArray) (x44 : Int) (x45 : Bool) (x46 : ByteArray) (x47 : Sl) =>
 callT Tryz.prog 38 [.agg ⟨[.string x33, .int .i64 x34, .bool x35, .string x36, .slice x37.base x37.len x37.cap]⟩, .agg ⟨[.string x43, .int .i64 x44, .bool x45, .string x46, .slice x47.base x47.len x47.cap]⟩] kB (fun x48 => brW (!x48) (K (.bool false)) (R21 a_22 b_23 (IntKind.i64.wrap (i_24 + 1))))))))))))))) (K (.bool true)))))) (fun (R49 : Option Addr -> Option Addr -> Int -> H -> Prop) => R49 a_18 b_19 0))) (fun j17 => ptrW a_14 (fun b50 o51 => rdT (rdC b50 o51) kS (fun (x52 : ByteArray) =>
 ptrW b_15 (fun b53 o54 => rdT (rdC b53 o54) kS (fun (x55 : ByteArray) => brW (!strEq x52 x55) (j17 a_14 b_15 true) (ptrW a_14 (fun b56 o57 => rdT (rdC b56 (o57 + 1)) kI (fun (x58 : Int) => ptrW b_15 (fun b59 o60 => rdT (rdC b59 (o60 + 1)) kI (fun (x61 : Int) => brW ((x58 : Int) != x61) (j17 a_14 b_15 true) (ptrW a_14 (fun b62 o63 => rdT (rdC b62 (o63 + 2)) kB (fun x64 => ptrW b_15 (fun b65 o66 => rdT (rdC b65 (o66 + 2)) kB (fun x67 => brW (!(x64 == x67)) (j17 a_14 b_15 true)
 (ptrW a_14 (fun b68 o69 => rdT (rdC b68 (o69 + 3)) kS (fun (x70 : ByteArray) => ptrW b_15 (fun b71 o72 => rdT (rdC b71 (o72 + 3)) kS (fun (x73 : ByteArray) => brW (!strEq x70 x73) (j17 a_14 b_15 true) (ptrW a_14 (fun b74 o75 => rdT (rdC b74 (o75 + 4)) kL (fun x76 => ptrW b_15 (fun b77 o78 => rdT (rdC b77 (o78 + 4)) kL (fun x79 => j17 a_14 b_15 ((((x76.len : Nat) : Int) : Int) != ((x79.len : Nat) : Int))))))))))))))))))))))))))))) (fun j13 =>
 rdT (rdA 5 b11 0) (.one (.agg [.str, (.int .i64), .bool, .str, .slc])) (fun (x80 : ByteArray) (x81 : Int) (x82 : Bool) (x83 : ByteArray) (x84 : Sl) => callT Tryz.prog 91 [.agg ⟨[.string x80, .int .i64 x81, .bool x82, .string x83, .slice x84.base x84.len x84.cap]⟩] kI (fun (x85 : Int) => brW (decide ((x85 : Int) > 12)) (j13 (some ⟨b11, 0, none⟩) (some ⟨b12, 0, none⟩) true)
 (rdT (rdA 5 b12 0) (.one (.agg [.str, (.int .i64), .bool, .str, .slc])) (fun (x86 : ByteArray) (x87 : Int) (x88 : Bool) (x89 : ByteArray) (x90 : Sl) => callT Tryz.prog 91 [.agg ⟨[.string x86, .int .i64 x87, .bool x88, .string x89, .slice x90.base x90.len x90.cap]⟩] kI (fun (x91 : Int) => j13 (some ⟨b11, 0, none⟩) (some ⟨b12, 0, none⟩) (decide ((x91 : Int) > 12))))))))))
theorem e38 (a_1 : ByteArray) (a_2 : Int) (a_3 : Bool) (a_4 : ByteArray) (a_5 : Sl) (b_6 : ByteArray) (b_7 : Int) (b_8 : Bool) (b_9 : ByteArray) (b_10 : Sl) (K : KH) : bodyF Tryz.prog tau Tryz.f38 an38 [.agg ⟨[.string a_1, .int .i64 a_2, .bool a_3, .string a_4, .slice a_5.base a_5.len a_5.cap]⟩, .agg ⟨[.string b_6, .int .i64 b_7, .bool b_8, .string b_9, .slice b_10.base b_10.len b_10.cap]⟩] K = g38 a_1 a_2 a_3 a_4 a_5 b_6 b_7 b_8 b_9 b_10 K := by kernel_rfl
theorem c38 (a_1 : ByteArray) (a_2 : Int) (a_3 : Bool) (a_4 : ByteArray) (a_5 : Sl) (b_6 : ByteArray) (b_7 : Int) (b_8 : Bool) (b_9 : ByteArray) (b_10 : Sl) {K : KH} {σ : H} (h : g38 a_1 a_2 a_3 a_4 a_5 b_6 b_7 b_8 b_9 b_10 K σ) : callW Tryz.prog 38 [.agg ⟨[.string a_1, .int .i64 a_2, .bool a_3, .string a_4, .slice a_5.base a_5.len a_5.cap]⟩, .agg ⟨[.string b_6, .int .i64 b_7, .bool b_8, .string b_9, .slice b_10.base b_10.len b_10.cap]⟩] K σ := call_of_body mixed Tryz.func38 (by rw [e38]; exact h)


def an39 : Ann := (.q (.n (.q (.h)) (.q .z)))
def g39 (f_1 : Option Addr) (K : KH) : H -> Prop :=
 alW (.cells ⟨[.int .i64 0, .int .i64 0]⟩ 64 (0, 0)) (fun b2 => callT Tryz.prog 92 [.pointer f_1] kB (fun x3 => brW x3 (stW Tryz.prog 64 (.pointer (some ⟨b2, 0, none⟩)) (.agg ⟨[.int .i64 0, .int .i64 0]⟩) (rdT (rdA 2 b2 0) (.one (.agg [(.int .i64), (.int .i64)])) (fun (r4 : Int) (r5 : Int) => K (.agg ⟨[.int .i64 r4, .int .i64 r5]⟩)))) (ptrW f_1 (fun b6 o7 => rdT (rdC b6 o7) kP (fun x8 => callT Tryz.prog 93 [.pointer x8] (.one (.agg [(.int .i64), (.int .i64)])) (fun (x9 : Int) (x10 : Int) =>
 stW Tryz.prog 64 (.pointer (some ⟨b2, 0, none⟩)) (.agg ⟨[.int .i64 x9, .int .i64 x10]⟩) (rdT (rdA 2 b2 0) (.one (.agg [(.int .i64), (.int .i64)])) (fun (r11 : Int) (r12 : Int) => K (.agg ⟨[.int .i64 r11, .int .i64 r12]⟩)))))))))
theorem e39 (f_1 : Option Addr) (K : KH) : bodyF Tryz.prog tau Tryz.f39 an39 [.pointer f_1] K = g39 f_1 K := by kernel_rfl
theorem c39 (f_1 : Option Addr) {K : KH} {σ : H} (h : g39 f_1 K σ) : callW Tryz.prog 39 [.pointer f_1] K σ := call_of_body mixed Tryz.func39 (by rw [e39]; exact h)


def an40 : Ann := (.q (.q (.n (.q (.blk (.loop [(0,.p),(2,.p),(3,.p),(4,.i)] (.n (.q (.cond .z .z)) (.seq (some [(0,.p),(2,.p),(3,.p),(4,.i)]) (.blk (.q (.cond (.q (.reg (rn 16) [[],[0],[],[2],[2,3],[2,3,4],[],[2,3,4,5,6],[2,3,4,5,6,7],[2,3,4,5,6,7,8],[2,3,4,5,6,7,8,9],[2,3,4,5,6,7,8,9,10],[2,3,4,5,6,7,8,9,10,11],(rn 13),(rn 14),(rn 15)])) .z))) .r))))) (.q .z))))
def g40 (f_1 : Option Addr) (K : KH) : H -> Prop :=
 alW (.cells ⟨[.int .i64 0, .int .i64 0]⟩ 64 (0, 0)) (fun b2 => alW (.cells ⟨[.int .i64 0, .int .i64 0]⟩ 64 (0, 0)) (fun b3 => stW Tryz.prog 64 (.pointer (some ⟨b3, 0, none⟩)) (.agg ⟨[.int .i64 0, .int .i64 0]⟩) (loopW [.sc .ptr, .sc .ptr, .sc .ptr, .sc (.int .i64)] (fun (R4 : Option Addr -> Option Addr -> Option Addr -> Int -> H -> Prop) => (fun (f_5 : Option Addr) (x6 : Option Addr) (q_7 : Option Addr) (i_8 : Int) => ptrW f_5 (fun b9 o10 => rdT (rdC b9 (o10 + 2)) kL (fun x11 =>
 brW (decide ((i_8 : Int) < ((x11.len : Nat) : Int))) (letJ (T := Option Addr -> Option Addr -> Option Addr -> Int -> H -> Prop) (fun f_13 x14 q_15 i_16 => R4 f_13 x14 q_15 (IntKind.i64.wrap (i_16 + 1))) (fun j12 => ptrW f_5 (fun b17 o18 => rdT (rdC b17 (o18 + 2)) kL (fun x19 => ptrW x19.base (fun b20 o21 => ifW (0 <= i_8 /\ i_8 < ((x19.len : Nat) : Int)) (rdT (rdC b20 (o21 + i_8.toNat * 1)) kP (fun x22 => brW (!x22.isNone) (ptrW q_7 (fun b23 o24 => rdT (rdC b23 o24) kI (fun (x25 : Int) =>
 ptrW q_7 (fun b26 o27 => stW Tryz.prog 3 (.pointer (some ⟨b26, o27, none⟩)) (.int .i64 (IntKind.i64.wrap (x25 + 1))) (ptrW q_7 (fun b28 o29 => rdT (rdC b28 (o29 + 1)) kI (fun (x30 : Int) => ptrW f_5 (fun b31 o32 => rdT (rdC b31 (o32 + 2)) kL (fun x33 => ptrW x33.base (fun b34 o35 => ifW (0 <= i_8 /\ i_8 < ((x33.len : Nat) : Int)) (rdT (rdC b34 (o35 + i_8.toNat * 1)) kP (fun x36 => ptrW x36 (fun b37 o38 => rdT (rdC b37 (o38 + 2)) kS (fun (x39 : ByteArray) => ptrW q_7 (fun b40 o41 =>
 stW Tryz.prog 3 (.pointer (some ⟨b40, o41 + 1, none⟩)) (.int .i64 (IntKind.i64.wrap (x30 + ((x39.size : Nat) : Int)))) (j12 f_5 x6 q_7 i_8)))))))))))))))) (j12 f_5 x6 q_7 i_8)))))))) (ptrW q_7 (fun b42 o43 => rdT (rdA 2 b42 o43) (.one (.agg [(.int .i64), (.int .i64)])) (fun (x44 : Int) (x45 : Int) => stW Tryz.prog 64 (.pointer x6) (.agg ⟨[.int .i64 x44, .int .i64 x45]⟩) (ptrW x6 (fun b46 o47 => rdT (rdA 2 b46 o47) (.one (.agg [(.int .i64), (.int .i64)])) (fun (r48 : Int) (r49 : Int) =>
 K (.agg ⟨[.int .i64 r48, .int .i64 r49]⟩))))))))))) (fun (R50 : Option Addr -> Option Addr -> Option Addr -> Int -> H -> Prop) => R50 f_1 (some ⟨b2, 0, none⟩) (some ⟨b3, 0, none⟩) 0))))
theorem e40 (f_1 : Option Addr) (K : KH) : bodyF Tryz.prog tau Tryz.f40 an40 [.pointer f_1] K = g40 f_1 K := by kernel_rfl
theorem c40 (f_1 : Option Addr) {K : KH} {σ : H} (h : g40 f_1 K σ) : callW Tryz.prog 40 [.pointer f_1] K σ := call_of_body mixed Tryz.func40 (by rw [e40]; exact h)


def an41 : Ann := (.q (.n (.q (.h)) (.n (.seq (some [(1,.s),(3,.s),(4,.p),(6,.p),(22,.b)]) .r (.h)) (.q .z))))
def g41 (f_1 : Option Addr) (cwd_2 : ByteArray) (target_3 : ByteArray) (path_4 : ByteArray) (K : KH) : H -> Prop :=
 alW (.cells ⟨[.pointer f_1]⟩ 24 (0, 0)) (fun b5 => alW (.cells ⟨[.string target_3]⟩ 9 (0, 0)) (fun b6 => rdT (rdC b5 0) kP (fun x7 => callT Tryz.prog 92 [.pointer x7] kB (fun x8 => brW x8 (K (.int .i64 1)) (letJ (T := ByteArray -> ByteArray -> Option Addr -> Option Addr -> Bool -> H -> Prop) (fun cwd_10 path_11 f_12 target_13 x14 => brW x14 (K (.int .i64 2)) (ptrW f_12 (fun b15 o16 => rdT (rdC b15 o16) kP (fun x17 =>
 callT Tryz.prog 94 [.pointer x17, .string cwd_10, .string path_11, .func (.func 95) ⟨[]⟩ ⟨[.pointer f_12, .pointer target_13]⟩] kI (fun (x18 : Int) => K (.int .i64 x18)))))) (fun j9 => rdT (rdC b6 0) kS (fun (x19 : ByteArray) => brW (strEq x19 (⟨⟨[]⟩⟩ : ByteArray)) (j9 cwd_2 path_4 (some ⟨b5, 0, none⟩) (some ⟨b6, 0, none⟩) true) (rdT (rdC b6 0) kS (fun (x20 : ByteArray) => brW (decide ((((x20.size : Nat) : Int) : Int) > 255)) (j9 cwd_2 path_4 (some ⟨b5, 0, none⟩) (some ⟨b6, 0, none⟩) true)
 (rdT (rdC b6 0) kS (fun (x21 : ByteArray) => callT Tryz.prog 26 [.string x21, .int .u8 0] kI (fun (x22 : Int) => j9 cwd_2 path_4 (some ⟨b5, 0, none⟩) (some ⟨b6, 0, none⟩) (decide ((x22 : Int) >= 0))))))))))))))
theorem e41 (f_1 : Option Addr) (cwd_2 : ByteArray) (target_3 : ByteArray) (path_4 : ByteArray) (K : KH) : bodyF Tryz.prog tau Tryz.f41 an41 [.pointer f_1, .string cwd_2, .string target_3, .string path_4] K = g41 f_1 cwd_2 target_3 path_4 K := by kernel_rfl
theorem c41 (f_1 : Option Addr) (cwd_2 : ByteArray) (target_3 : ByteArray) (path_4 : ByteArray) {K : KH} {σ : H} (h : g41 f_1 cwd_2 target_3 path_4 K σ) : callW Tryz.prog 41 [.pointer f_1, .string cwd_2, .string target_3, .string path_4] K σ := call_of_body mixed Tryz.func41 (by rw [e41]; exact h)


def an47 : Ann := (.q (.q (.n (.q (.h)) (.n (.q (.cond (.n (.reg (rn 15) [[],[0],[0,1],[0,1,2],[],[4],[],[6],[],(rn 9),(rn 10),(rn 11),(rn 11),(rn 12),(rn 14)]) (.q .z)) .z)) (.n (.reg (rn 13) [[],[0],[0,1],[0,1,2],[],[4],(rn 6),(rn 7),(rn 8),(rn 8),[],[0,1,2,3,4,5,6,7,8,10],(rn 12)]) (.n (.q (.h)) (.seq (some [(0,.p),(3,.s),(11,.p)]) (.q (.cond .r .z)) (.n (.reg (rn 9) [[],[0],[0,1],[0,1,2],[],[4],[],(rn 7),(rn 8)]) .z))))))))
def g47 (f_1 : Option Addr) (cwd_2 : ByteArray) (path_3 : ByteArray) (data_4 : ByteArray) (more_5 : Bool) (K : KH) : H -> Prop :=
 callT Tryz.prog 98 [.pointer f_1, .string cwd_2, .string path_3, .bool true] (.tup [.agg [(.int .i64), .str, (.int .i64), .bool], .sc (.int .i64)]) (fun (x6 : Int) (x7 : ByteArray) (x8 : Int) (x9 : Bool) (x10 : Int) => alW (.cells ⟨[.int .i64 0, .string (⟨⟨[]⟩⟩ : ByteArray), .int .i64 0, .bool false]⟩ 142 (0, 0)) (fun b11 => stW Tryz.prog 142 (.pointer (some ⟨b11, 0, none⟩)) (.agg ⟨[.int .i64 x6, .string x7, .int .i64 x8, .bool x9]⟩) (brW ((x10 : Int) != 0) (K (.int .i64 x10))
 (rdT (rdC b11 3) kB (fun x12 => brW (!x12) (ptrW f_1 (fun b13 o14 => rdT (rdC b13 o14) kP (fun x15 => rdT (rdC b11 0) kI (fun (x16 : Int) => rdT (rdC b11 1) kS (fun (x17 : ByteArray) => callT Tryz.prog 96 [.pointer x15, .int .i64 x16, .string x17, .int .i64 1, .int .i64 420, .string data_4] (.tup [.sc (.int .i64), .sc (.int .i64)]) (fun (_x18 : Int) (x19 : Int) => K (.int .i64 x19))))))) (ptrW f_1 (fun b20 o21 => rdT (rdC b20 o21) kP (fun x22 => rdT (rdC b11 2) kI (fun (x23 : Int) =>
 callT Tryz.prog 99 [.pointer x22, .int .i64 x23] (.tup [.agg [(.int .i64), (.int .i64), .str, (.int .i64)], .sc .bool]) (fun (x24 : Int) (x25 : Int) (x26 : ByteArray) (x27 : Int) (_x28 : Bool) => alW (.cells ⟨[.int .i64 0, .int .i64 0, .string (⟨⟨[]⟩⟩ : ByteArray), .int .i64 0]⟩ 35 (0, 0)) (fun b29 => stW Tryz.prog 35 (.pointer (some ⟨b29, 0, none⟩)) (.agg ⟨[.int .i64 x24, .int .i64 x25, .string x26, .int .i64 x27]⟩) (rdT (rdC b29 0) kI (fun (x30 : Int) => brW ((x30 : Int) == 2)
 (K (.int .i64 7)) (letJ (T := Option Addr -> ByteArray -> Option Addr -> H -> Prop) (fun f_32 data_33 p_34 => ptrW f_32 (fun b35 o36 => rdT (rdC b35 o36) kP (fun x37 => ptrW p_34 (fun b38 o39 => rdT (rdC b38 (o39 + 2)) kI (fun (x40 : Int) => callT Tryz.prog 100 [.pointer x37, .int .i64 x40, .string data_33] kI (fun (x41 : Int) => K (.int .i64 x41))))))) (fun j31 => brW more_5 (rdT (rdC b29 2) kS (fun (x42 : ByteArray) => ifW (x42.size + data_4.size <= 9223372036854775807)
 (j31 f_1 (x42 ++ data_4) (some ⟨b11, 0, none⟩)))) (j31 f_1 data_4 (some ⟨b11, 0, none⟩)))))))))))))))))
theorem e47 (f_1 : Option Addr) (cwd_2 : ByteArray) (path_3 : ByteArray) (data_4 : ByteArray) (more_5 : Bool) (K : KH) : bodyF Tryz.prog tau Tryz.f47 an47 [.pointer f_1, .string cwd_2, .string path_3, .string data_4, .bool more_5] K = g47 f_1 cwd_2 path_3 data_4 more_5 K := by kernel_rfl
theorem c47 (f_1 : Option Addr) (cwd_2 : ByteArray) (path_3 : ByteArray) (data_4 : ByteArray) (more_5 : Bool) {K : KH} {σ : H} (h : g47 f_1 cwd_2 path_3 data_4 more_5 K σ) : callW Tryz.prog 47 [.pointer f_1, .string cwd_2, .string path_3, .string data_4, .bool more_5] K σ := call_of_body mixed Tryz.func47 (by rw [e47]; exact h)


def an48 : Ann := (.q (.q .z))
def g48 (f_1 : Option Addr) (cwd_2 : ByteArray) (path_3 : ByteArray) (K : KH) : H -> Prop :=
 alW (.cells ⟨[.pointer f_1]⟩ 24 (0, 0)) (fun b4 => rdT (rdC b4 0) kP (fun x5 => callT Tryz.prog 94 [.pointer x5, .string cwd_2, .string path_3, .func (.func 101) ⟨[]⟩ ⟨[.pointer (some ⟨b4, 0, none⟩)]⟩] kI (fun (x6 : Int) => K (.int .i64 x6))))
theorem e48 (f_1 : Option Addr) (cwd_2 : ByteArray) (path_3 : ByteArray) (K : KH) : bodyF Tryz.prog tau Tryz.f48 an48 [.pointer f_1, .string cwd_2, .string path_3] K = g48 f_1 cwd_2 path_3 K := by kernel_rfl
theorem c48 (f_1 : Option Addr) (cwd_2 : ByteArray) (path_3 : ByteArray) {K : KH} {σ : H} (h : g48 f_1 cwd_2 path_3 K σ) : callW Tryz.prog 48 [.pointer f_1, .string cwd_2, .string path_3] K σ := call_of_body mixed Tryz.func48 (by rw [e48]; exact h)


def an49 : Ann := (.q (.n (.seq (some [(2,.p),(3,.p),(10,.b)]) .r (.h)) (.q .z)))
def g49 (a_1 : ByteArray) (a_2 : Int) (a_3 : Bool) (a_4 : ByteArray) (a_5 : Sl) (b_6 : ByteArray) (b_7 : Int) (b_8 : Bool) (b_9 : ByteArray) (b_10 : Sl) (K : KH) : H -> Prop :=
 alW (.cells ⟨[.string a_1, .int .i64 a_2, .bool a_3, .string a_4, .slice a_5.base a_5.len a_5.cap]⟩ 73 (0, 0)) (fun b11 => alW (.cells ⟨[.string b_6, .int .i64 b_7, .bool b_8, .string b_9, .slice b_10.base b_10.len b_10.cap]⟩ 73 (0, 0)) (fun b12 => letJ (T := Option Addr -> Option Addr -> Bool -> H -> Prop) (fun a_14 b_15 x16 => brW x16 (K (.bool false)) (ptrW a_14 (fun b17 o18 => rdT (rdC b17 o18) kS (fun (x19 : ByteArray) => ptrW b_15 (fun b20 o21 =>
 rdT (rdC b20 o21) kS (fun (x22 : ByteArray) => brW (strEq x19 x22) (ptrW a_14 (fun b23 o24 => rdT (rdC b23 (o24 + 1)) kI (fun (x25 : Int) => ptrW b_15 (fun b26 o27 => rdT (rdC b26 (o27 + 1)) kI (fun (x28 : Int) => brW ((x25 : Int) == x28) (ptrW a_14 (fun b29 o30 => rdT (rdC b29 (o30 + 2)) kB (fun x31 => ptrW b_15 (fun b32 o33 => rdT (rdC b32 (o33 + 2)) kB (fun x34 => brW (x31 == x34) (ptrW a_14 (fun b35 o36 => rdT (rdC b35 (o36 + 3)) kS (fun (x37 : ByteArray) => ptrW b_15 (fun b38 o39 =>
 rdT (rdC b38 (o39 + 3)) kS (fun (x40 : ByteArray) => brW (strEq x37 x40) (ptrW a_14 (fun b41 o42 => rdT (rdC b41 (o42 + 4)) kL (fun x43 => ptrW b_15 (fun b44 o45 => rdT (rdC b44 (o45 + 4)) kL (fun x46 => callT Tryz.prog 104 [.slice x43.base x43.len x43.cap, .slice x46.base x46.len x46.cap, .func (.func 49) ⟨[]⟩ ⟨[]⟩] kB (fun x47 => K (.bool x47))))))) (K (.bool false))))))) (K (.bool false))))))) (K (.bool false))))))) (K (.bool false)))))))) (fun j13 =>
 rdT (rdA 5 b11 0) (.one (.agg [.str, (.int .i64), .bool, .str, .slc])) (fun (x48 : ByteArray) (x49 : Int) (x50 : Bool) (x51 : ByteArray) (x52 : Sl) => callT Tryz.prog 103 [.agg ⟨[.string x48, .int .i64 x49, .bool x50, .string x51, .slice x52.base x52.len x52.cap]⟩] kB (fun x53 => brW x53 (j13 (some ⟨b11, 0, none⟩) (some ⟨b12, 0, none⟩) true) (rdT (rdA 5 b12 0) (.one (.agg [.str, (.int .i64), .bool, .str, .slc])) (fun (x54 : ByteArray) (x55 : Int) (x56 : Bool) (x57 : ByteArray) (x58 : Sl) =>
 callT Tryz.prog 103 [.agg ⟨[.string x54, .int .i64 x55, .bool x56, .string x57, .slice x58.base x58.len x58.cap]⟩] kB (fun x59 => j13 (some ⟨b11, 0, none⟩) (some ⟨b12, 0, none⟩) x59))))))))
theorem e49 (a_1 : ByteArray) (a_2 : Int) (a_3 : Bool) (a_4 : ByteArray) (a_5 : Sl) (b_6 : ByteArray) (b_7 : Int) (b_8 : Bool) (b_9 : ByteArray) (b_10 : Sl) (K : KH) : bodyF Tryz.prog tau Tryz.f49 an49 [.agg ⟨[.string a_1, .int .i64 a_2, .bool a_3, .string a_4, .slice a_5.base a_5.len a_5.cap]⟩, .agg ⟨[.string b_6, .int .i64 b_7, .bool b_8, .string b_9, .slice b_10.base b_10.len b_10.cap]⟩] K = g49 a_1 a_2 a_3 a_4 a_5 b_6 b_7 b_8 b_9 b_10 K := by kernel_rfl
theorem c49 (a_1 : ByteArray) (a_2 : Int) (a_3 : Bool) (a_4 : ByteArray) (a_5 : Sl) (b_6 : ByteArray) (b_7 : Int) (b_8 : Bool) (b_9 : ByteArray) (b_10 : Sl) {K : KH} {σ : H} (h : g49 a_1 a_2 a_3 a_4 a_5 b_6 b_7 b_8 b_9 b_10 K σ) : callW Tryz.prog 49 [.agg ⟨[.string a_1, .int .i64 a_2, .bool a_3, .string a_4, .slice a_5.base a_5.len a_5.cap]⟩, .agg ⟨[.string b_6, .int .i64 b_7, .bool b_8, .string b_9, .slice b_10.base b_10.len b_10.cap]⟩] K σ := call_of_body mixed Tryz.func49 (by rw [e49]; exact h)


def an50 : Ann := (.q (.q .z))
def g50 (name_1 : ByteArray) (data_2 : ByteArray) (exec_3 : Bool) (K : KH) : H -> Prop :=
 alW (.cells ⟨[.string (⟨⟨[]⟩⟩ : ByteArray), .int .i64 0, .bool false, .string (⟨⟨[]⟩⟩ : ByteArray), .slice none 0 0]⟩ 73 (0, 0)) (fun b4 => stW Tryz.prog 73 (.pointer (some ⟨b4, 0, none⟩)) (.agg ⟨[.string name_1, .int .i64 1, .bool exec_3, .string data_2, .slice none 0 0]⟩) (rdT (rdA 5 b4 0) (.one (.agg [.str, (.int .i64), .bool, .str, .slc])) (fun (r5 : ByteArray) (r6 : Int) (r7 : Bool) (r8 : ByteArray) (r9 : Sl) =>
 K (.agg ⟨[.string r5, .int .i64 r6, .bool r7, .string r8, .slice r9.base r9.len r9.cap]⟩))))
theorem e50 (name_1 : ByteArray) (data_2 : ByteArray) (exec_3 : Bool) (K : KH) : bodyF Tryz.prog tau Tryz.f50 an50 [.string name_1, .string data_2, .bool exec_3] K = g50 name_1 data_2 exec_3 K := by kernel_rfl
theorem c50 (name_1 : ByteArray) (data_2 : ByteArray) (exec_3 : Bool) {K : KH} {σ : H} (h : g50 name_1 data_2 exec_3 K σ) : callW Tryz.prog 50 [.string name_1, .string data_2, .bool exec_3] K σ := call_of_body mixed Tryz.func50 (by rw [e50]; exact h)


def an51 : Ann := (.q (.q .z))
def g51 (name_1 : ByteArray) (to_2 : ByteArray) (K : KH) : H -> Prop :=
 alW (.cells ⟨[.string (⟨⟨[]⟩⟩ : ByteArray), .int .i64 0, .bool false, .string (⟨⟨[]⟩⟩ : ByteArray), .slice none 0 0]⟩ 73 (0, 0)) (fun b3 => stW Tryz.prog 73 (.pointer (some ⟨b3, 0, none⟩)) (.agg ⟨[.string name_1, .int .i64 3, .bool false, .string to_2, .slice none 0 0]⟩) (rdT (rdA 5 b3 0) (.one (.agg [.str, (.int .i64), .bool, .str, .slc])) (fun (r4 : ByteArray) (r5 : Int) (r6 : Bool) (r7 : ByteArray) (r8 : Sl) =>
 K (.agg ⟨[.string r4, .int .i64 r5, .bool r6, .string r7, .slice r8.base r8.len r8.cap]⟩))))
theorem e51 (name_1 : ByteArray) (to_2 : ByteArray) (K : KH) : bodyF Tryz.prog tau Tryz.f51 an51 [.string name_1, .string to_2] K = g51 name_1 to_2 K := by kernel_rfl
theorem c51 (name_1 : ByteArray) (to_2 : ByteArray) {K : KH} {σ : H} (h : g51 name_1 to_2 K σ) : callW Tryz.prog 51 [.string name_1, .string to_2] K σ := call_of_body mixed Tryz.func51 (by rw [e51]; exact h)


def an55 : Ann := (.q (.q (.n (.blk (.q (.cond (.q .z) (.q (.cond (.q .z) (.q (.cond (.q .z) (.q (.cond (.q .z) (.q (.h))))))))))) (.n (.reg (rn 12) [[],[0],[0,1],[0,1,2],[],[4],[],[6],[],[8],(rn 10),(rn 11)]) .z))))
def g55 (f_1 : Option Addr) (cwd_2 : ByteArray) (from_3 : ByteArray) (to_4 : ByteArray) (K : KH) : H -> Prop :=
 callT Tryz.prog 109 [.pointer f_1, .string cwd_2, .string from_3, .string to_4] (.tup [.agg [(.int .i64), .str, (.int .i64), .bool], .agg [(.int .i64), .str, (.int .i64), .bool], .sc (.int .i64)]) (fun (x5 : Int) (x6 : ByteArray) (x7 : Int) (x8 : Bool) (x9 : Int) (x10 : ByteArray) (x11 : Int) (x12 : Bool) (x13 : Int) => alW (.cells ⟨[.int .i64 0, .string (⟨⟨[]⟩⟩ : ByteArray), .int .i64 0, .bool false]⟩ 142 (0, 0)) (fun b14 =>
 alW (.cells ⟨[.int .i64 0, .string (⟨⟨[]⟩⟩ : ByteArray), .int .i64 0, .bool false]⟩ 142 (0, 0)) (fun b15 => stW Tryz.prog 142 (.pointer (some ⟨b14, 0, none⟩)) (.agg ⟨[.int .i64 x5, .string x6, .int .i64 x7, .bool x8]⟩) (stW Tryz.prog 142 (.pointer (some ⟨b15, 0, none⟩)) (.agg ⟨[.int .i64 x9, .string x10, .int .i64 x11, .bool x12]⟩) (brW ((x13 : Int) != 0) (K (.int .i64 x13)) (rdT (rdC b14 3) kB (fun x16 => brW (!x16) (K (.int .i64 5)) (rdT (rdC b14 2) kI (fun (x17 : Int) =>
 callT Tryz.prog 110 [.pointer f_1, .int .i64 x17] kI (fun (x18 : Int) => brW ((x18 : Int) == 2) (K (.int .i64 7)) (rdT (rdC b14 2) kI (fun (x19 : Int) => callT Tryz.prog 110 [.pointer f_1, .int .i64 x19] kI (fun (x20 : Int) => brW ((x20 : Int) == 3) (K (.int .i64 2)) (rdT (rdC b15 3) kB (fun x21 => brW x21 (K (.int .i64 6)) (ptrW f_1 (fun b22 o23 => rdT (rdC b22 o23) kP (fun x24 => rdT (rdC b15 0) kI (fun (x25 : Int) => rdT (rdC b15 1) kS (fun (x26 : ByteArray) =>
 rdT (rdC b14 2) kI (fun (x27 : Int) => callT Tryz.prog 111 [.pointer x24, .int .i64 x25, .string x26, .int .i64 x27] kI (fun (x28 : Int) => K (.int .i64 x28)))))))))))))))))))))))
theorem e55 (f_1 : Option Addr) (cwd_2 : ByteArray) (from_3 : ByteArray) (to_4 : ByteArray) (K : KH) : bodyF Tryz.prog tau Tryz.f55 an55 [.pointer f_1, .string cwd_2, .string from_3, .string to_4] K = g55 f_1 cwd_2 from_3 to_4 K := by kernel_rfl
theorem c55 (f_1 : Option Addr) (cwd_2 : ByteArray) (from_3 : ByteArray) (to_4 : ByteArray) {K : KH} {σ : H} (h : g55 f_1 cwd_2 from_3 to_4 K σ) : callW Tryz.prog 55 [.pointer f_1, .string cwd_2, .string from_3, .string to_4] K σ := call_of_body mixed Tryz.func55 (by rw [e55]; exact h)


def an57 : Ann := (.q (.q (.n (.blk (.q (.cond (.q .z) (.seq (some [(0,.p),(9,.p),(10,.p),(27,.b)]) .r (.cond (.q .z) (.q (.cond (.q .z) (.seq (some [(0,.p),(9,.p),(10,.p),(40,.b)]) .r (.h))))))))) (.n (.q (.q (.h))) (.seq (some [(0,.p),(9,.p),(10,.p)]) (.q (.cond (.n (.reg (rn 10) [[],[0],[0,1],[0,1,2],[],[4],[],[6],(rn 8),(rn 9)]) (.q (.h))) .z)) (.n (.reg (rn 14) [[],[0],[0,1],[0,1,2],[],[4],[],[6],[],[8],[],[10],(rn 12),(rn 13)]) .z))))))
def g57 (f_1 : Option Addr) (cwd_2 : ByteArray) (from_3 : ByteArray) (to_4 : ByteArray) (K : KH) : H -> Prop :=
 callT Tryz.prog 109 [.pointer f_1, .string cwd_2, .string from_3, .string to_4] (.tup [.agg [(.int .i64), .str, (.int .i64), .bool], .agg [(.int .i64), .str, (.int .i64), .bool], .sc (.int .i64)]) (fun (x5 : Int) (x6 : ByteArray) (x7 : Int) (x8 : Bool) (x9 : Int) (x10 : ByteArray) (x11 : Int) (x12 : Bool) (x13 : Int) => alW (.cells ⟨[.int .i64 0, .string (⟨⟨[]⟩⟩ : ByteArray), .int .i64 0, .bool false]⟩ 142 (0, 0)) (fun b14 =>
 alW (.cells ⟨[.int .i64 0, .string (⟨⟨[]⟩⟩ : ByteArray), .int .i64 0, .bool false]⟩ 142 (0, 0)) (fun b15 => stW Tryz.prog 142 (.pointer (some ⟨b14, 0, none⟩)) (.agg ⟨[.int .i64 x5, .string x6, .int .i64 x7, .bool x8]⟩) (stW Tryz.prog 142 (.pointer (some ⟨b15, 0, none⟩)) (.agg ⟨[.int .i64 x9, .string x10, .int .i64 x11, .bool x12]⟩) (brW ((x13 : Int) != 0) (K (.int .i64 x13)) (letJ (T := Option Addr -> Option Addr -> Option Addr -> Bool -> H -> Prop) (fun f_17 p_18 q_19 x20 => brW x20
 (K (.int .i64 2)) (ptrW p_18 (fun b21 o22 => rdT (rdC b21 (o22 + 3)) kB (fun x23 => brW (!x23) (K (.int .i64 5)) (letJ (T := Option Addr -> Option Addr -> Option Addr -> Bool -> H -> Prop) (fun f_25 p_26 q_27 x28 => brW x28 (K (.int .i64 0)) (ptrW p_26 (fun b29 o30 => rdT (rdA 4 b29 o30) (.one (.agg [(.int .i64), .str, (.int .i64), .bool])) (fun (x31 : Int) (x32 : ByteArray) (x33 : Int) (x34 : Bool) => ptrW q_27 (fun b35 o36 =>
 rdT (rdA 4 b35 o36) (.one (.agg [(.int .i64), .str, (.int .i64), .bool])) (fun (x37 : Int) (x38 : ByteArray) (x39 : Int) (x40 : Bool) => callT Tryz.prog 113 [.pointer f_25, .agg ⟨[.int .i64 x31, .string x32, .int .i64 x33, .bool x34]⟩, .agg ⟨[.int .i64 x37, .string x38, .int .i64 x39, .bool x40]⟩] kI (fun (x41 : Int) => brW ((x41 : Int) != 0) (K (.int .i64 x41)) (letJ (T := Option Addr -> Option Addr -> Option Addr -> H -> Prop) (fun f_43 p_44 q_45 => ptrW f_43 (fun b46 o47 =>
 rdT (rdC b46 o47) kP (fun x48 => ptrW p_44 (fun b49 o50 => rdT (rdC b49 o50) kI (fun (x51 : Int) => ptrW p_44 (fun b52 o53 => rdT (rdC b52 (o53 + 1)) kS (fun (x54 : ByteArray) => ptrW q_45 (fun b55 o56 => rdT (rdC b55 o56) kI (fun (x57 : Int) => ptrW q_45 (fun b58 o59 => rdT (rdC b58 (o59 + 1)) kS (fun (x60 : ByteArray) => callT Tryz.prog 114 [.pointer x48, .int .i64 x51, .string x54, .int .i64 x57, .string x60] kI (fun (x61 : Int) => K (.int .i64 x61))))))))))))) (fun j42 =>
 ptrW q_27 (fun b62 o63 => rdT (rdC b62 (o63 + 3)) kB (fun x64 => brW x64 (ptrW f_25 (fun b65 o66 => rdT (rdC b65 o66) kP (fun x67 => ptrW q_27 (fun b68 o69 => rdT (rdC b68 o69) kI (fun (x70 : Int) => ptrW q_27 (fun b71 o72 => rdT (rdC b71 (o72 + 1)) kS (fun (x73 : ByteArray) => callT Tryz.prog 112 [.pointer x67, .int .i64 x70, .string x73] kI (fun (x74 : Int) => brW ((x74 : Int) != 0) (K (.int .i64 x74)) (j42 f_25 p_26 q_27))))))))) (j42 f_25 p_26 q_27)))))))))))) (fun j24 =>
 ptrW q_19 (fun b75 o76 => rdT (rdC b75 (o76 + 3)) kB (fun x77 => brW x77 (ptrW p_18 (fun b78 o79 => rdT (rdC b78 (o79 + 2)) kI (fun (x80 : Int) => ptrW q_19 (fun b81 o82 => rdT (rdC b81 (o82 + 2)) kI (fun (x83 : Int) => j24 f_17 p_18 q_19 ((x80 : Int) == x83)))))) (j24 f_17 p_18 q_19 false))))))))) (fun j16 => rdT (rdC b14 1) kS (fun (x84 : ByteArray) => brW (strEq x84 (⟨⟨[]⟩⟩ : ByteArray)) (j16 f_1 (some ⟨b14, 0, none⟩) (some ⟨b15, 0, none⟩) true) (rdT (rdC b15 1) kS (fun (x85 : ByteArray) =>
 j16 f_1 (some ⟨b14, 0, none⟩) (some ⟨b15, 0, none⟩) (strEq x85 (⟨⟨[]⟩⟩ : ByteArray))))))))))))
theorem e57 (f_1 : Option Addr) (cwd_2 : ByteArray) (from_3 : ByteArray) (to_4 : ByteArray) (K : KH) : bodyF Tryz.prog tau Tryz.f57 an57 [.pointer f_1, .string cwd_2, .string from_3, .string to_4] K = g57 f_1 cwd_2 from_3 to_4 K := by kernel_rfl
theorem c57 (f_1 : Option Addr) (cwd_2 : ByteArray) (from_3 : ByteArray) (to_4 : ByteArray) {K : KH} {σ : H} (h : g57 f_1 cwd_2 from_3 to_4 K σ) : callW Tryz.prog 57 [.pointer f_1, .string cwd_2, .string from_3, .string to_4] K σ := call_of_body mixed Tryz.func57 (by rw [e57]; exact h)


def an58 : Ann := (.q (.n (.q (.h)) (.n (.seq (some [(1,.s),(2,.s),(4,.p),(7,.p),(16,.b)]) .r (.h)) (.q .z))))
def g58 (f_1 : Option Addr) (cwd_2 : ByteArray) (path_3 : ByteArray) (mode_4 : Int) (K : KH) : H -> Prop :=
 alW (.cells ⟨[.pointer f_1]⟩ 24 (0, 0)) (fun b5 => alW (.cells ⟨[.int .i64 mode_4]⟩ 3 (0, 0)) (fun b6 => rdT (rdC b5 0) kP (fun x7 => callT Tryz.prog 92 [.pointer x7] kB (fun x8 => brW x8 (K (.int .i64 1)) (letJ (T := ByteArray -> ByteArray -> Option Addr -> Option Addr -> Bool -> H -> Prop) (fun cwd_10 path_11 f_12 mode_13 x14 => brW x14 (K (.int .i64 2)) (ptrW f_12 (fun b15 o16 => rdT (rdC b15 o16) kP (fun x17 =>
 callT Tryz.prog 69 [.pointer x17, .string cwd_10, .string path_11, .bool true, .func (.func 115) ⟨[]⟩ ⟨[.pointer f_12, .pointer mode_13]⟩] kI (fun (x18 : Int) => K (.int .i64 x18)))))) (fun j9 => rdT (rdC b6 0) kI (fun (x19 : Int) => brW (decide ((x19 : Int) < 0)) (j9 cwd_2 path_3 (some ⟨b5, 0, none⟩) (some ⟨b6, 0, none⟩) true) (rdT (rdC b6 0) kI (fun (x20 : Int) => j9 cwd_2 path_3 (some ⟨b5, 0, none⟩) (some ⟨b6, 0, none⟩) (decide ((x20 : Int) > 511)))))))))))
theorem e58 (f_1 : Option Addr) (cwd_2 : ByteArray) (path_3 : ByteArray) (mode_4 : Int) (K : KH) : bodyF Tryz.prog tau Tryz.f58 an58 [.pointer f_1, .string cwd_2, .string path_3, .int .i64 mode_4] K = g58 f_1 cwd_2 path_3 mode_4 K := by kernel_rfl
theorem c58 (f_1 : Option Addr) (cwd_2 : ByteArray) (path_3 : ByteArray) (mode_4 : Int) {K : KH} {σ : H} (h : g58 f_1 cwd_2 path_3 mode_4 K σ) : callW Tryz.prog 58 [.pointer f_1, .string cwd_2, .string path_3, .int .i64 mode_4] K σ := call_of_body mixed Tryz.func58 (by rw [e58]; exact h)


def an63 : Ann := (.q (.q (.n (.q (.h)) (.n (.q (.h)) (.n (.q (.h)) (.q .z))))))
def g63 (f_1 : Option Addr) (cwd_2 : ByteArray) (path_3 : ByteArray) (K : KH) : H -> Prop :=
 callT Tryz.prog 126 [.pointer f_1, .string cwd_2, .string path_3, .bool false] (.tup [.agg [(.int .i64), .str, (.int .i64)], .sc (.int .i64)]) (fun (x4 : Int) (x5 : ByteArray) (x6 : Int) (x7 : Int) => alW (.cells ⟨[.int .i64 0, .string (⟨⟨[]⟩⟩ : ByteArray), .int .i64 0]⟩ 171 (0, 0)) (fun b8 => stW Tryz.prog 171 (.pointer (some ⟨b8, 0, none⟩)) (.agg ⟨[.int .i64 x4, .string x5, .int .i64 x6]⟩) (brW ((x7 : Int) != 0) (K (.int .i64 x7)) (rdT (rdC b8 2) kI (fun (x9 : Int) =>
 brW (decide ((x9 : Int) >= 0)) (K (.int .i64 6)) (rdT (rdC b8 0) kI (fun (x10 : Int) => callT Tryz.prog 127 [.pointer f_1, .int .i64 x10] kI (fun (x11 : Int) => brW (decide ((x11 : Int) >= 12)) (K (.int .i64 3)) (rdT (rdA 3 b8 0) (.one (.agg [(.int .i64), .str, (.int .i64)])) (fun (x12 : Int) (x13 : ByteArray) (x14 : Int) => callT Tryz.prog 128 [.pointer f_1, .agg ⟨[.int .i64 x12, .string x13, .int .i64 x14]⟩, .int .i64 2, .int .i64 493, .string (⟨⟨[]⟩⟩ : ByteArray)] kI (fun (x15 : Int) =>
 K (.int .i64 x15))))))))))))
theorem e63 (f_1 : Option Addr) (cwd_2 : ByteArray) (path_3 : ByteArray) (K : KH) : bodyF Tryz.prog tau Tryz.f63 an63 [.pointer f_1, .string cwd_2, .string path_3] K = g63 f_1 cwd_2 path_3 K := by kernel_rfl
theorem c63 (f_1 : Option Addr) (cwd_2 : ByteArray) (path_3 : ByteArray) {K : KH} {σ : H} (h : g63 f_1 cwd_2 path_3 K σ) : callW Tryz.prog 63 [.pointer f_1, .string cwd_2, .string path_3] K σ := call_of_body mixed Tryz.func63 (by rw [e63]; exact h)


def an64 : Ann := (.q (.q (.n (.q (.h)) (.n (.q (.h)) (.n (.reg (rn 9) [[],[0],[0,1],[0,1,2],[],[4],(rn 6),(rn 7),(rn 8)]) (.n (.q (.h)) (.seq (some [(0,.p),(3,.s),(13,.p)]) (.q (.cond .r .z)) (.n (.q (.h)) (.q (.q .z))))))))))
def g64 (f_1 : Option Addr) (cwd_2 : ByteArray) (path_3 : ByteArray) (data_4 : ByteArray) (more_5 : Bool) (K : KH) : H -> Prop :=
 callT Tryz.prog 126 [.pointer f_1, .string cwd_2, .string path_3, .bool true] (.tup [.agg [(.int .i64), .str, (.int .i64)], .sc (.int .i64)]) (fun (x6 : Int) (x7 : ByteArray) (x8 : Int) (x9 : Int) => alW (.cells ⟨[.int .i64 0, .string (⟨⟨[]⟩⟩ : ByteArray), .int .i64 0]⟩ 171 (0, 0)) (fun b10 => stW Tryz.prog 171 (.pointer (some ⟨b10, 0, none⟩)) (.agg ⟨[.int .i64 x6, .string x7, .int .i64 x8]⟩) (brW ((x9 : Int) != 0) (K (.int .i64 x9)) (rdT (rdC b10 2) kI (fun (x11 : Int) =>
 brW (decide ((x11 : Int) < 0)) (rdT (rdA 3 b10 0) (.one (.agg [(.int .i64), .str, (.int .i64)])) (fun (x12 : Int) (x13 : ByteArray) (x14 : Int) => callT Tryz.prog 128 [.pointer f_1, .agg ⟨[.int .i64 x12, .string x13, .int .i64 x14]⟩, .int .i64 1, .int .i64 420, .string data_4] kI (fun (x15 : Int) => K (.int .i64 x15)))) (ptrW f_1 (fun b16 o17 => rdT (rdC b16 (o17 + 2)) kL (fun x18 => rdT (rdC b10 2) kI (fun (x19 : Int) => ptrW x18.base (fun b20 o21 =>
 ifW (0 <= x19 /\ x19 < ((x18.len : Nat) : Int)) (rdT (rdC b20 (o21 + x19.toNat * 1)) kP (fun x22 => ptrW x22 (fun b23 o24 => rdT (rdC b23 o24) kI (fun (x25 : Int) => brW ((x25 : Int) == 2) (K (.int .i64 7)) (letJ (T := Option Addr -> ByteArray -> Option Addr -> H -> Prop) (fun f_27 data_28 x_29 => ptrW x_29 (fun b30 o31 => rdT (rdC b30 (o31 + 2)) kS (fun (x32 : ByteArray) =>
 callT Tryz.prog 129 [.pointer f_27, .int .i64 0, .int .i64 (IntKind.i64.wrap (((data_28.size : Nat) : Int) - ((x32.size : Nat) : Int)))] kB (fun x33 => brW (!x33) (K (.int .i64 10)) (ptrW x_29 (fun b34 o35 => stW Tryz.prog 9 (.pointer (some ⟨b34, o35 + 2, none⟩)) (.string data_28) (K (.int .i64 0)))))))) (fun j26 => brW more_5 (ptrW x22 (fun b36 o37 => rdT (rdC b36 (o37 + 2)) kS (fun (x38 : ByteArray) => ifW (x38.size + data_4.size <= 9223372036854775807) (j26 f_1 (x38 ++ data_4) x22))))
 (j26 f_1 data_4 x22)))))))))))))))))
theorem e64 (f_1 : Option Addr) (cwd_2 : ByteArray) (path_3 : ByteArray) (data_4 : ByteArray) (more_5 : Bool) (K : KH) : bodyF Tryz.prog tau Tryz.f64 an64 [.pointer f_1, .string cwd_2, .string path_3, .string data_4, .bool more_5] K = g64 f_1 cwd_2 path_3 data_4 more_5 K := by kernel_rfl
theorem c64 (f_1 : Option Addr) (cwd_2 : ByteArray) (path_3 : ByteArray) (data_4 : ByteArray) (more_5 : Bool) {K : KH} {σ : H} (h : g64 f_1 cwd_2 path_3 data_4 more_5 K σ) : callW Tryz.prog 64 [.pointer f_1, .string cwd_2, .string path_3, .string data_4, .bool more_5] K σ := call_of_body mixed Tryz.func64 (by rw [e64]; exact h)


def an69 : Ann := (.q (.q (.n (.q (.h)) (.n (.reg (rn 13) [[],[0],[0,1],[0,1,2],[],[4],(rn 6),(rn 7),(rn 8),(rn 8),[],[0,1,2,3,4,5,6,7,8,10],(rn 12)]) (.n (.seq (some [(4,.w),(11,.p),(13,.p),(42,.b)]) .r (.h)) (.q .z))))))
def g69 (f_1 : Option Addr) (cwd_2 : ByteArray) (path_3 : ByteArray) (follow_4 : Bool) (do_5 : Value) (K : KH) : H -> Prop :=
 callT Tryz.prog 98 [.pointer f_1, .string cwd_2, .string path_3, .bool follow_4] (.tup [.agg [(.int .i64), .str, (.int .i64), .bool], .sc (.int .i64)]) (fun (x6 : Int) (x7 : ByteArray) (x8 : Int) (x9 : Bool) (x10 : Int) => alW (.cells ⟨[.int .i64 0, .string (⟨⟨[]⟩⟩ : ByteArray), .int .i64 0, .bool false]⟩ 142 (0, 0)) (fun b11 => stW Tryz.prog 142 (.pointer (some ⟨b11, 0, none⟩)) (.agg ⟨[.int .i64 x6, .string x7, .int .i64 x8, .bool x9]⟩) (brW ((x10 : Int) != 0) (K (.int .i64 x10))
 (ptrW f_1 (fun b12 o13 => rdT (rdC b12 o13) kP (fun x14 => rdT (rdC b11 2) kI (fun (x15 : Int) => callT Tryz.prog 99 [.pointer x14, .int .i64 x15] (.tup [.agg [(.int .i64), (.int .i64), .str, (.int .i64)], .sc .bool]) (fun (x16 : Int) (x17 : Int) (x18 : ByteArray) (x19 : Int) (x20 : Bool) => alW (.cells ⟨[.int .i64 0, .int .i64 0, .string (⟨⟨[]⟩⟩ : ByteArray), .int .i64 0]⟩ 35 (0, 0)) (fun b21 =>
 stW Tryz.prog 35 (.pointer (some ⟨b21, 0, none⟩)) (.agg ⟨[.int .i64 x16, .int .i64 x17, .string x18, .int .i64 x19]⟩) (letJ (T := Value -> Option Addr -> Option Addr -> Bool -> H -> Prop) (fun do_23 p_24 n_25 x26 => brW x26 (K (.int .i64 5)) (ptrW p_24 (fun b27 o28 => rdT (rdC b27 (o28 + 2)) kI (fun (x29 : Int) => ptrW n_25 (fun b30 o31 => rdT (rdA 4 b30 o31) (.one (.agg [(.int .i64), (.int .i64), .str, (.int .i64)])) (fun (x32 : Int) (x33 : Int) (x34 : ByteArray) (x35 : Int) =>
 cvalT Tryz.prog do_23 [.int .i64 x29, .agg ⟨[.int .i64 x32, .int .i64 x33, .string x34, .int .i64 x35]⟩] kI (fun (x36 : Int) => K (.int .i64 x36)))))))) (fun j22 => rdT (rdC b11 3) kB (fun x37 => brW (!x37) (j22 do_5 (some ⟨b11, 0, none⟩) (some ⟨b21, 0, none⟩) true) (j22 do_5 (some ⟨b11, 0, none⟩) (some ⟨b21, 0, none⟩) (!x20))))))))))))))
theorem e69 (f_1 : Option Addr) (cwd_2 : ByteArray) (path_3 : ByteArray) (follow_4 : Bool) (do_5 : Value) (K : KH) : bodyF Tryz.prog tau Tryz.f69 an69 [.pointer f_1, .string cwd_2, .string path_3, .bool follow_4, do_5] K = g69 f_1 cwd_2 path_3 follow_4 do_5 K := by kernel_rfl
theorem c69 (f_1 : Option Addr) (cwd_2 : ByteArray) (path_3 : ByteArray) (follow_4 : Bool) (do_5 : Value) {K : KH} {σ : H} (h : g69 f_1 cwd_2 path_3 follow_4 do_5 K σ) : callW Tryz.prog 69 [.pointer f_1, .string cwd_2, .string path_3, .bool follow_4, do_5] K σ := call_of_body mixed Tryz.func69 (by rw [e69]; exact h)


def an70 : Ann := (.q (.q (.q .z)))
def g70 (__1 : Int) (n_2 : Int) (n_3 : Int) (n_4 : ByteArray) (n_5 : Int) (x6 : Option Addr) (K : KH) : H -> Prop :=
 alW (.cells ⟨[.int .i64 n_2, .int .i64 n_3, .string n_4, .int .i64 n_5]⟩ 35 (0, 0)) (fun b7 => rdT (rdA 4 b7 0) (.one (.agg [(.int .i64), (.int .i64), .str, (.int .i64)])) (fun (x8 : Int) (x9 : Int) (x10 : ByteArray) (x11 : Int) => stW Tryz.prog 35 (.pointer x6) (.agg ⟨[.int .i64 x8, .int .i64 x9, .string x10, .int .i64 x11]⟩) (K (.int .i64 0))))
theorem e70 (__1 : Int) (n_2 : Int) (n_3 : Int) (n_4 : ByteArray) (n_5 : Int) (x6 : Option Addr) (K : KH) : bodyF Tryz.prog tau Tryz.f70 an70 [.int .i64 __1, .agg ⟨[.int .i64 n_2, .int .i64 n_3, .string n_4, .int .i64 n_5]⟩, .pointer x6] K = g70 __1 n_2 n_3 n_4 n_5 x6 K := by kernel_rfl
theorem c70 (__1 : Int) (n_2 : Int) (n_3 : Int) (n_4 : ByteArray) (n_5 : Int) (x6 : Option Addr) {K : KH} {σ : H} (h : g70 __1 n_2 n_3 n_4 n_5 x6 K σ) : callW Tryz.prog 70 [.int .i64 __1, .agg ⟨[.int .i64 n_2, .int .i64 n_3, .string n_4, .int .i64 n_5]⟩, .pointer x6] K σ := call_of_body mixed Tryz.func70 (by rw [e70]; exact h)


def an71 : Ann := (.q (.q .z))
def g71 (s_1 : ByteArray) (substr_2 : ByteArray) (K : KH) : H -> Prop :=
 callT Tryz.prog 137 [.string s_1, .string substr_2] kI (fun (x3 : Int) => K (.int .i64 x3))
theorem e71 (s_1 : ByteArray) (substr_2 : ByteArray) (K : KH) : bodyF Tryz.prog tau Tryz.f71 an71 [.string s_1, .string substr_2] K = g71 s_1 substr_2 K := by kernel_rfl
theorem c71 (s_1 : ByteArray) (substr_2 : ByteArray) {K : KH} {σ : H} (h : g71 s_1 substr_2 K σ) : callW Tryz.prog 71 [.string s_1, .string substr_2] K σ := call_of_body mixed Tryz.func71 (by rw [e71]; exact h)


def an72 : Ann := (.q (.n (.q (.h)) (.q (.q .z))))
def g72 (ino_1 : Int) (n_2 : Int) (n_3 : Int) (n_4 : ByteArray) (n_5 : Int) (x6 : Option Addr) (x7 : Option Addr) (K : KH) : H -> Prop :=
 alW (.cells ⟨[.int .i64 n_2, .int .i64 n_3, .string n_4, .int .i64 n_5]⟩ 35 (0, 0)) (fun b8 => rdT (rdC b8 0) kI (fun (x9 : Int) => brW ((x9 : Int) != 2) (K (.int .i64 8)) (ptrW x6 (fun b10 o11 => rdT (rdC b10 o11) kP (fun x12 => ptrW x12 (fun b13 o14 => rdT (rdC b13 o14) kP (fun x15 => callT Tryz.prog 73 [.pointer x15, .int .i64 ino_1] kL (fun x16 => stW Tryz.prog 22 (.pointer x7) (.slice x16.base x16.len x16.cap) (K (.int .i64 0))))))))))
theorem e72 (ino_1 : Int) (n_2 : Int) (n_3 : Int) (n_4 : ByteArray) (n_5 : Int) (x6 : Option Addr) (x7 : Option Addr) (K : KH) : bodyF Tryz.prog tau Tryz.f72 an72 [.int .i64 ino_1, .agg ⟨[.int .i64 n_2, .int .i64 n_3, .string n_4, .int .i64 n_5]⟩, .pointer x6, .pointer x7] K = g72 ino_1 n_2 n_3 n_4 n_5 x6 x7 K := by kernel_rfl
theorem c72 (ino_1 : Int) (n_2 : Int) (n_3 : Int) (n_4 : ByteArray) (n_5 : Int) (x6 : Option Addr) (x7 : Option Addr) {K : KH} {σ : H} (h : g72 ino_1 n_2 n_3 n_4 n_5 x6 x7 K σ) : callW Tryz.prog 72 [.int .i64 ino_1, .agg ⟨[.int .i64 n_2, .int .i64 n_3, .string n_4, .int .i64 n_5]⟩, .pointer x6, .pointer x7] K σ := call_of_body mixed Tryz.func72 (by rw [e72]; exact h)


def an73 : Ann := (.q (.q (.n (.q (.h)) (.q .z))))
def g73 (t_1 : Option Addr) (dir_2 : Int) (K : KH) : H -> Prop :=
 callT Tryz.prog 138 [.pointer t_1, .int .i64 dir_2] kP (fun x3 => brW x3.isNone (K (.slice none 0 0)) (ptrW x3 (fun b4 o5 => rdT (rdC b4 (o5 + 5)) kM (fun (x6 : Option Nat) => callT Tryz.prog 139 [.map x6] kR (fun x7 => callT Tryz.prog 66 [x7] kL (fun x8 => K (.slice x8.base x8.len x8.cap)))))))
theorem e73 (t_1 : Option Addr) (dir_2 : Int) (K : KH) : bodyF Tryz.prog tau Tryz.f73 an73 [.pointer t_1, .int .i64 dir_2] K = g73 t_1 dir_2 K := by kernel_rfl
theorem c73 (t_1 : Option Addr) (dir_2 : Int) {K : KH} {σ : H} (h : g73 t_1 dir_2 K σ) : callW Tryz.prog 73 [.pointer t_1, .int .i64 dir_2] K σ := call_of_body mixed Tryz.func73 (by rw [e73]; exact h)


def an79 : Ann := (.q (.q .z))
def g79 (s_1 : ByteArray) (c_2 : Int) (K : KH) : H -> Prop :=
 cvalT Tryz.prog (.func (.func 143) ⟨[]⟩ ⟨[]⟩) [.string s_1, .int .u8 c_2] kI (fun (x3 : Int) => K (.int .i64 x3))
theorem e79 (s_1 : ByteArray) (c_2 : Int) (K : KH) : bodyF Tryz.prog tau Tryz.f79 an79 [.string s_1, .int .u8 c_2] K = g79 s_1 c_2 K := by kernel_rfl
theorem c79 (s_1 : ByteArray) (c_2 : Int) {K : KH} {σ : H} (h : g79 s_1 c_2 K σ) : callW Tryz.prog 79 [.string s_1, .int .u8 c_2] K σ := call_of_body mixed Tryz.func79 (by rw [e79]; exact h)


def an82 : Ann := (.q (.n (.seq (some [(1,.p),(21,.b)]) .r (.h)) (.q (.q .z))))
def g82 (q_1 : Int) (q_2 : Int) (K : KH) : H -> Prop :=
 alW (.cells ⟨[.int .i64 q_1, .int .i64 q_2]⟩ 64 (0, 0)) (fun b3 => letJ (T := Option Addr -> Bool -> H -> Prop) (fun q_5 x6 => brW x6 (K (.pointer none)) (alW (.map #[] 0) (fun b7 => alW (.cells ⟨[.int .i64 2, .int .i64 493, .string (⟨⟨[]⟩⟩ : ByteArray), .int .i64 1, .int .i64 1, .map (some b7)]⟩ 194 (0, 0)) (fun b8 => ptrW q_5 (fun b9 o10 => rdT (rdA 2 b9 o10) (.one (.agg [(.int .i64), (.int .i64)])) (fun (x11 : Int) (x12 : Int) => alW (.map #[] 0) (fun b13 =>
 muW Tryz.prog 198 (.map (some b13)) (.int .i64 1) (.pointer (some ⟨b8, 0, none⟩)) (alW (.cells ⟨[.int .i64 x11, .int .i64 x12, .int .i64 1, .int .i64 0, .map (some b13), .int .i64 1]⟩ 200 (0, 0)) (fun b14 => K (.pointer (some ⟨b14, 0, none⟩))))))))))) (fun j4 => rdT (rdC b3 0) kI (fun (x15 : Int) => brW (decide ((x15 : Int) < 1)) (j4 (some ⟨b3, 0, none⟩) true) (rdT (rdC b3 0) kI (fun (x16 : Int) => brW (decide ((x16 : Int) > 1048576)) (j4 (some ⟨b3, 0, none⟩) true)
 (rdT (rdC b3 1) kI (fun (x17 : Int) => brW (decide ((x17 : Int) < 0)) (j4 (some ⟨b3, 0, none⟩) true) (rdT (rdC b3 1) kI (fun (x18 : Int) => j4 (some ⟨b3, 0, none⟩) (decide ((x18 : Int) > 1073741824)))))))))))
theorem e82 (q_1 : Int) (q_2 : Int) (K : KH) : bodyF Tryz.prog tau Tryz.f82 an82 [.agg ⟨[.int .i64 q_1, .int .i64 q_2]⟩] K = g82 q_1 q_2 K := by kernel_rfl
theorem c82 (q_1 : Int) (q_2 : Int) {K : KH} {σ : H} (h : g82 q_1 q_2 K σ) : callW Tryz.prog 82 [.agg ⟨[.int .i64 q_1, .int .i64 q_2]⟩] K σ := call_of_body mixed Tryz.func82 (by rw [e82]; exact h)


def an83 : Ann := (.q (.n (.q (.blk (.loop [(0,.p),(1,.s),(2,.s),(3,.s),(9,.i)] (.n (.q (.cond .z .z)) (.n (.blk (.q (.h))) .r))))) (.n (.seq (some [(0,.p),(1,.s),(2,.s),(3,.s),(29,.b)]) .r (.h)) (.q (.n (.q (.h)) (.n (.q (.h)) (.q .z)))))))
def g83 (f_1 : Option Addr) (cwd_2 : ByteArray) (target_3 : ByteArray) (path_4 : ByteArray) (K : KH) : H -> Prop :=
 loopW [.sc .ptr, .sc .str, .sc .str, .sc .str, .sc (.int .i64)] (fun (R5 : Option Addr -> ByteArray -> ByteArray -> ByteArray -> Int -> H -> Prop) => (fun (f_6 : Option Addr) (cwd_7 : ByteArray) (target_8 : ByteArray) (path_9 : ByteArray) (i_10 : Int) => brW (decide ((i_10 : Int) < ((target_8.size : Nat) : Int))) (idxW target_8 i_10 (fun c11 => brW (((c11.toNat : Int) : Int) == 0) (K (.int .i64 2)) (R5 f_6 cwd_7 target_8 path_9 (IntKind.i64.wrap (i_10 + 1)))))
 (letJ (T := Option Addr -> ByteArray -> ByteArray -> ByteArray -> Bool -> H -> Prop) (fun f_13 cwd_14 target_15 path_16 x17 => brW x17 (K (.int .i64 2)) (callT Tryz.prog 126 [.pointer f_13, .string cwd_14, .string path_16, .bool false] (.tup [.agg [(.int .i64), .str, (.int .i64)], .sc (.int .i64)]) (fun (x18 : Int) (x19 : ByteArray) (x20 : Int) (x21 : Int) => alW (.cells ⟨[.int .i64 0, .string (⟨⟨[]⟩⟩ : ByteArray), .int .i64 0]⟩ 171 (0, 0)) (fun b22 =>
 stW Tryz.prog 171 (.pointer (some ⟨b22, 0, none⟩)) (.agg ⟨[.int .i64 x18, .string x19, .int .i64 x20]⟩) (brW ((x21 : Int) != 0) (K (.int .i64 x21)) (rdT (rdC b22 2) kI (fun (x23 : Int) => brW (decide ((x23 : Int) >= 0)) (K (.int .i64 6)) (rdT (rdA 3 b22 0) (.one (.agg [(.int .i64), .str, (.int .i64)])) (fun (x24 : Int) (x25 : ByteArray) (x26 : Int) =>
 callT Tryz.prog 128 [.pointer f_13, .agg ⟨[.int .i64 x24, .string x25, .int .i64 x26]⟩, .int .i64 3, .int .i64 511, .string target_15] kI (fun (x27 : Int) => K (.int .i64 x27))))))))))) (fun j12 => brW (decide ((((target_8.size : Nat) : Int) : Int) < 1)) (j12 f_6 cwd_7 target_8 path_9 true) (j12 f_6 cwd_7 target_8 path_9 (decide ((((target_8.size : Nat) : Int) : Int) > 255))))))) (fun (R28 : Option Addr -> ByteArray -> ByteArray -> ByteArray -> Int -> H -> Prop) => R28 f_1 cwd_2 target_3 path_4 0)
theorem e83 (f_1 : Option Addr) (cwd_2 : ByteArray) (target_3 : ByteArray) (path_4 : ByteArray) (K : KH) : bodyF Tryz.prog tau Tryz.f83 an83 [.pointer f_1, .string cwd_2, .string target_3, .string path_4] K = g83 f_1 cwd_2 target_3 path_4 K := by kernel_rfl
theorem c83 (f_1 : Option Addr) (cwd_2 : ByteArray) (target_3 : ByteArray) (path_4 : ByteArray) {K : KH} {σ : H} (h : g83 f_1 cwd_2 target_3 path_4 K σ) : callW Tryz.prog 83 [.pointer f_1, .string cwd_2, .string target_3, .string path_4] K σ := call_of_body mixed Tryz.func83 (by rw [e83]; exact h)


def an84 : Ann := (.q (.q (.n (.q (.h)) (.q (.n (.q (.h)) (.n (.blk (.q (.cond (.q .z) (.n (.reg (rn 13) [[],[0],[0,1],[0,1,2],[],[4],(rn 6),(rn 7),(rn 8),(rn 9),(rn 10),(rn 11),(rn 12)]) (.cond (.q .z) (.n (.reg (rn 13) [[],[0],[0,1],[0,1,2],[],[4],(rn 6),(rn 7),(rn 8),(rn 9),(rn 10),(rn 11),(rn 12)]) (.cond (.q .z) (.q (.h))))))))) (.q (.q .z))))))))
def g84 (f_1 : Option Addr) (cwd_2 : ByteArray) (from_3 : ByteArray) (to_4 : ByteArray) (K : KH) : H -> Prop :=
 callT Tryz.prog 126 [.pointer f_1, .string cwd_2, .string from_3, .bool false] (.tup [.agg [(.int .i64), .str, (.int .i64)], .sc (.int .i64)]) (fun (x5 : Int) (x6 : ByteArray) (x7 : Int) (x8 : Int) => alW (.cells ⟨[.int .i64 0, .string (⟨⟨[]⟩⟩ : ByteArray), .int .i64 0]⟩ 171 (0, 0)) (fun b9 => stW Tryz.prog 171 (.pointer (some ⟨b9, 0, none⟩)) (.agg ⟨[.int .i64 x5, .string x6, .int .i64 x7]⟩) (brW ((x8 : Int) != 0) (K (.int .i64 x8))
 (callT Tryz.prog 126 [.pointer f_1, .string cwd_2, .string to_4, .bool false] (.tup [.agg [(.int .i64), .str, (.int .i64)], .sc (.int .i64)]) (fun (x10 : Int) (x11 : ByteArray) (x12 : Int) (x13 : Int) => alW (.cells ⟨[.int .i64 0, .string (⟨⟨[]⟩⟩ : ByteArray), .int .i64 0]⟩ 171 (0, 0)) (fun b14 => stW Tryz.prog 171 (.pointer (some ⟨b14, 0, none⟩)) (.agg ⟨[.int .i64 x10, .string x11, .int .i64 x12]⟩) (brW ((x13 : Int) != 0) (K (.int .i64 x13)) (rdT (rdC b9 2) kI (fun (x15 : Int) =>
 brW (decide ((x15 : Int) < 0)) (K (.int .i64 5)) (ptrW f_1 (fun b16 o17 => rdT (rdC b16 (o17 + 2)) kL (fun x18 => rdT (rdC b9 2) kI (fun (x19 : Int) => ptrW x18.base (fun b20 o21 => ifW (0 <= x19 /\ x19 < ((x18.len : Nat) : Int)) (rdT (rdC b20 (o21 + x19.toNat * 1)) kP (fun x22 => ptrW x22 (fun b23 o24 => rdT (rdC b23 o24) kI (fun (x25 : Int) => brW ((x25 : Int) == 2) (K (.int .i64 7)) (ptrW f_1 (fun b26 o27 => rdT (rdC b26 (o27 + 2)) kL (fun x28 => rdT (rdC b9 2) kI (fun (x29 : Int) =>
 ptrW x28.base (fun b30 o31 => ifW (0 <= x29 /\ x29 < ((x28.len : Nat) : Int)) (rdT (rdC b30 (o31 + x29.toNat * 1)) kP (fun x32 => ptrW x32 (fun b33 o34 => rdT (rdC b33 o34) kI (fun (x35 : Int) => brW ((x35 : Int) == 3) (K (.int .i64 2)) (rdT (rdC b14 2) kI (fun (x36 : Int) => brW (decide ((x36 : Int) >= 0)) (K (.int .i64 6)) (rdT (rdC b14 0) kI (fun (x37 : Int) => rdT (rdC b14 1) kS (fun (x38 : ByteArray) => rdT (rdC b9 2) kI (fun (x39 : Int) =>
 callT Tryz.prog 145 [.pointer f_1, .int .i64 x37, .string x38, .int .i64 x39] kU (K (.int .i64 0)))))))))))))))))))))))))))))))))))
theorem e84 (f_1 : Option Addr) (cwd_2 : ByteArray) (from_3 : ByteArray) (to_4 : ByteArray) (K : KH) : bodyF Tryz.prog tau Tryz.f84 an84 [.pointer f_1, .string cwd_2, .string from_3, .string to_4] K = g84 f_1 cwd_2 from_3 to_4 K := by kernel_rfl
theorem c84 (f_1 : Option Addr) (cwd_2 : ByteArray) (from_3 : ByteArray) (to_4 : ByteArray) {K : KH} {σ : H} (h : g84 f_1 cwd_2 from_3 to_4 K σ) : callW Tryz.prog 84 [.pointer f_1, .string cwd_2, .string from_3, .string to_4] K σ := call_of_body mixed Tryz.func84 (by rw [e84]; exact h)


def an85 : Ann := (.q (.q (.n (.q (.h)) (.q (.n (.q (.h)) (.n (.seq (some [(0,.p),(9,.p),(11,.p),(41,.b)]) .r (.h)) (.n (.q (.h)) (.n (.q (.h)) (.n (.reg (rn 13) [[],[0],[0,1],[0,1,2],[],[4],(rn 6),(rn 7),(rn 8),(rn 9),(rn 10),(rn 11),(rn 12)]) (.seq (some [(0,.p),(9,.p),(11,.p),(12,.b)]) (.q (.cond (.n (.reg (rn 13) [[],[0],[0,1],[0,1,2],[],[4],(rn 6),(rn 7),(rn 8),(rn 9),(rn 10),(rn 11),(rn 12)]) (.blk (.seq (some [(0,.p),(9,.p),(11,.p),(12,.b),(13,.b),(77,.b)]) .r (.cond (.q .z) (.seq (some [(0,.p),(9,.p),(11,.p),(12,.b),(83,.b)]) .r (.cond (.q .z) (.n (.reg (rn 14) [[],[0],[0,1],[0,1,2],[],[4],(rn 6),(rn 7),(rn 8),(rn 9),(rn 10),(rn 11),(rn 12),(rn 13)]) (.h)))))))) .z)) (.n (.seq (some [(0,.p),(9,.p),(11,.p),(111,.b)]) .r (.h)) (.n (.n (.reg [0,1,2,4,5,6,3,7,8,9] [[],[],[1],[0,1,2],[],[],[5],(rn 7),(rn 8),(rn 9)]) (.h)) (.seq (some [(0,.p),(9,.p),(11,.p)]) (.q (.cond (.q .r) .z)) (.q (.q (.q .z))))))))))))))))
def g85 (f_1 : Option Addr) (cwd_2 : ByteArray) (from_3 : ByteArray) (to_4 : ByteArray) (K : KH) : H -> Prop :=
 callT Tryz.prog 126 [.pointer f_1, .string cwd_2, .string from_3, .bool false] (.tup [.agg [(.int .i64), .str, (.int .i64)], .sc (.int .i64)]) (fun (x5 : Int) (x6 : ByteArray) (x7 : Int) (x8 : Int) => alW (.cells ⟨[.int .i64 0, .string (⟨⟨[]⟩⟩ : ByteArray), .int .i64 0]⟩ 171 (0, 0)) (fun b9 => stW Tryz.prog 171 (.pointer (some ⟨b9, 0, none⟩)) (.agg ⟨[.int .i64 x5, .string x6, .int .i64 x7]⟩) (brW ((x8 : Int) != 0) (K (.int .i64 x8))
 (callT Tryz.prog 126 [.pointer f_1, .string cwd_2, .string to_4, .bool false] (.tup [.agg [(.int .i64), .str, (.int .i64)], .sc (.int .i64)]) (fun (x10 : Int) (x11 : ByteArray) (x12 : Int) (x13 : Int) => alW (.cells ⟨[.int .i64 0, .string (⟨⟨[]⟩⟩ : ByteArray), .int .i64 0]⟩ 171 (0, 0)) (fun b14 => stW Tryz.prog 171 (.pointer (some ⟨b14, 0, none⟩)) (.agg ⟨[.int .i64 x10, .string x11, .int .i64 x12]⟩) (brW ((x13 : Int) != 0) (K (.int .i64 x13))
 (letJ (T := Option Addr -> Option Addr -> Option Addr -> Bool -> H -> Prop) (fun f_16 p_17 q_18 x19 => brW x19 (K (.int .i64 2)) (ptrW p_17 (fun b20 o21 => rdT (rdC b20 (o21 + 2)) kI (fun (x22 : Int) => brW (decide ((x22 : Int) < 0)) (K (.int .i64 5)) (ptrW p_17 (fun b23 o24 => rdT (rdC b23 (o24 + 2)) kI (fun (x25 : Int) => ptrW q_18 (fun b26 o27 => rdT (rdC b26 (o27 + 2)) kI (fun (x28 : Int) => brW ((x25 : Int) == x28) (K (.int .i64 0)) (ptrW f_16 (fun b29 o30 =>
 rdT (rdC b29 (o30 + 2)) kL (fun x31 => ptrW p_17 (fun b32 o33 => rdT (rdC b32 (o33 + 2)) kI (fun (x34 : Int) => ptrW x31.base (fun b35 o36 => ifW (0 <= x34 /\ x34 < ((x31.len : Nat) : Int)) (rdT (rdC b35 (o36 + x34.toNat * 1)) kP (fun x37 => ptrW x37 (fun b38 o39 => rdT (rdC b38 o39) kI (fun (x40 : Int) => letJ (T := Option Addr -> Option Addr -> Option Addr -> Bool -> H -> Prop) (fun f_42 p_43 q_44 is_45 =>
 letJ (T := Option Addr -> Option Addr -> Option Addr -> Bool -> H -> Prop) (fun f_47 p_48 q_49 x50 => brW x50 (K (.int .i64 2)) (ptrW q_49 (fun b51 o52 => rdT (rdC b51 o52) kI (fun (x53 : Int) => ptrW p_48 (fun b54 o55 => rdT (rdC b54 (o55 + 2)) kI (fun (x56 : Int) => callT Tryz.prog 127 [.pointer f_47, .int .i64 x53] kI (fun (x57 : Int) => andW (fun σ => (rdC b54 (o55 + 2)) σ = some (.int .i64 x56)) (callT Tryz.prog 147 [.pointer f_47, .int .i64 x56] kI (fun (x58 : Int) =>
 brW (decide (((IntKind.i64.wrap (x57 + x58)) : Int) > 12)) (K (.int .i64 3)) (letJ (T := Option Addr -> Option Addr -> Option Addr -> H -> Prop) (fun f_60 p_61 q_62 => ptrW p_61 (fun b63 o64 => rdT (rdC b63 o64) kI (fun (x65 : Int) => ptrW p_61 (fun b66 o67 => rdT (rdC b66 (o67 + 1)) kS (fun (x68 : ByteArray) => callT Tryz.prog 148 [.pointer f_60, .int .i64 x65, .string x68] kU (ptrW q_62 (fun b69 o70 => rdT (rdC b69 o70) kI (fun (x71 : Int) => ptrW q_62 (fun b72 o73 =>
 rdT (rdC b72 (o73 + 1)) kS (fun (x74 : ByteArray) => ptrW p_61 (fun b75 o76 => rdT (rdC b75 (o76 + 2)) kI (fun (x77 : Int) => callT Tryz.prog 145 [.pointer f_60, .int .i64 x71, .string x74, .int .i64 x77] kU (K (.int .i64 0)))))))))))))) (fun j59 => ptrW q_49 (fun b78 o79 => rdT (rdC b78 (o79 + 2)) kI (fun (x80 : Int) => brW (decide ((x80 : Int) >= 0)) (ptrW q_49 (fun b81 o82 => rdT (rdC b81 o82) kI (fun (x83 : Int) => ptrW q_49 (fun b84 o85 =>
 rdT (rdC b84 (o85 + 1)) kS (fun (x86 : ByteArray) => callT Tryz.prog 148 [.pointer f_47, .int .i64 x83, .string x86] kU (ptrW q_49 (fun b87 o88 => rdT (rdC b87 (o88 + 2)) kI (fun (x89 : Int) => callT Tryz.prog 149 [.pointer f_47, .int .i64 x89] kU (j59 f_47 p_48 q_49))))))))) (j59 f_47 p_48 q_49)))))))))))))) (fun j46 => brW is_45 (ptrW q_44 (fun b90 o91 => rdT (rdC b90 o91) kI (fun (x92 : Int) => ptrW p_43 (fun b93 o94 => rdT (rdC b93 (o94 + 2)) kI (fun (x95 : Int) =>
 callT Tryz.prog 146 [.pointer f_42, .int .i64 x92, .int .i64 x95] kB (fun x96 => j46 f_42 p_43 q_44 x96)))))) (j46 f_42 p_43 q_44 false))) (fun j41 => ptrW q_18 (fun b97 o98 => rdT (rdC b97 (o98 + 2)) kI (fun (x99 : Int) => brW (decide ((x99 : Int) >= 0)) (ptrW f_16 (fun b100 o101 => rdT (rdC b100 (o101 + 2)) kL (fun x102 => ptrW q_18 (fun b103 o104 => rdT (rdC b103 (o104 + 2)) kI (fun (x105 : Int) => ptrW x102.base (fun b106 o107 => ifW (0 <= x105 /\ x105 < ((x102.len : Nat) : Int))
 (rdT (rdC b106 (o107 + x105.toNat * 1)) kP (fun x108 => ptrW x108 (fun b109 o110 => rdT (rdC b109 o110) kI (fun (x111 : Int) => letJ (T := Option Addr -> Option Addr -> Option Addr -> Bool -> Bool -> Bool -> H -> Prop) (fun f_113 p_114 q_115 is_116 other_117 x118 => brW x118 (K (.int .i64 7)) (letJ (T := Option Addr -> Option Addr -> Option Addr -> Bool -> Bool -> H -> Prop) (fun f_120 p_121 q_122 is_123 x124 => brW x124 (K (.int .i64 8)) (ptrW f_120 (fun b125 o126 =>
 rdT (rdC b125 (o126 + 2)) kL (fun x127 => ptrW q_122 (fun b128 o129 => rdT (rdC b128 (o129 + 2)) kI (fun (x130 : Int) => ptrW x127.base (fun b131 o132 => ifW (0 <= x130 /\ x130 < ((x127.len : Nat) : Int)) (rdT (rdC b131 (o132 + x130.toNat * 1)) kP (fun x133 => ptrW x133 (fun b134 o135 => rdT (rdC b134 (o135 + 3)) kL (fun x136 => brW (decide ((((x136.len : Nat) : Int) : Int) > 0)) (K (.int .i64 20)) (j41 f_120 p_121 q_122 is_123)))))))))))) (fun j119 => brW is_116
 (j119 f_113 p_114 q_115 is_116 (!other_117)) (j119 f_113 p_114 q_115 is_116 false)))) (fun j112 => brW ((x111 : Int) == 2) (j112 f_16 p_17 q_18 ((x40 : Int) == 2) ((x111 : Int) == 2) (!((x40 : Int) == 2))) (j112 f_16 p_17 q_18 ((x40 : Int) == 2) ((x111 : Int) == 2) false)))))))))))) (j41 f_16 p_17 q_18 ((x40 : Int) == 2)))))))))))))))))))))))) (fun j15 => rdT (rdC b9 1) kS (fun (x137 : ByteArray) => brW (strEq x137 (⟨⟨[]⟩⟩ : ByteArray)) (j15 f_1 (some ⟨b9, 0, none⟩) (some ⟨b14, 0, none⟩) true)
 (rdT (rdC b14 1) kS (fun (x138 : ByteArray) => j15 f_1 (some ⟨b9, 0, none⟩) (some ⟨b14, 0, none⟩) (strEq x138 (⟨⟨[]⟩⟩ : ByteArray))))))))))))))
theorem e85 (f_1 : Option Addr) (cwd_2 : ByteArray) (from_3 : ByteArray) (to_4 : ByteArray) (K : KH) : bodyF Tryz.prog tau Tryz.f85 an85 [.pointer f_1, .string cwd_2, .string from_3, .string to_4] K = g85 f_1 cwd_2 from_3 to_4 K := by kernel_rfl
theorem c85 (f_1 : Option Addr) (cwd_2 : ByteArray) (from_3 : ByteArray) (to_4 : ByteArray) {K : KH} {σ : H} (h : g85 f_1 cwd_2 from_3 to_4 K σ) : callW Tryz.prog 85 [.pointer f_1, .string cwd_2, .string from_3, .string to_4] K σ := call_of_body mixed Tryz.func85 (by rw [e85]; exact h)


def an86 : Ann := (.q (.n (.seq (some [(0,.p),(1,.s),(2,.s),(3,.i),(16,.b)]) .r (.h)) (.q (.seq (some [(10,.i)]) (.q (.cond .r .z)) (.q .z)))))
def g86 (f_1 : Option Addr) (cwd_2 : ByteArray) (path_3 : ByteArray) (mode_4 : Int) (K : KH) : H -> Prop :=
 letJ (T := Option Addr -> ByteArray -> ByteArray -> Int -> Bool -> H -> Prop) (fun f_6 cwd_7 path_8 mode_9 x10 => brW x10 (K (.int .i64 2)) (callT Tryz.prog 150 [.pointer f_6, .string cwd_7, .string path_8, .bool true] (.tup [.sc (.int .i64), .sc (.int .i64)]) (fun (x11 : Int) (x12 : Int) => letJ (T := Int -> H -> Prop) (fun e_14 => K (.int .i64 e_14)) (fun j13 => brW ((x12 : Int) == 0) (ptrW f_6 (fun b15 o16 => rdT (rdC b15 (o16 + 2)) kL (fun x17 => ptrW x17.base (fun b18 o19 =>
 ifW (0 <= x11 /\ x11 < ((x17.len : Nat) : Int)) (rdT (rdC b18 (o19 + x11.toNat * 1)) kP (fun x20 => ptrW x20 (fun b21 o22 => stW Tryz.prog 3 (.pointer (some ⟨b21, o22 + 1, none⟩)) (.int .i64 mode_9) (j13 x12)))))))) (j13 x12))))) (fun j5 => brW (decide ((mode_4 : Int) < 0)) (j5 f_1 cwd_2 path_3 mode_4 true) (j5 f_1 cwd_2 path_3 mode_4 (decide ((mode_4 : Int) > 511))))
theorem e86 (f_1 : Option Addr) (cwd_2 : ByteArray) (path_3 : ByteArray) (mode_4 : Int) (K : KH) : bodyF Tryz.prog tau Tryz.f86 an86 [.pointer f_1, .string cwd_2, .string path_3, .int .i64 mode_4] K = g86 f_1 cwd_2 path_3 mode_4 K := by kernel_rfl
theorem c86 (f_1 : Option Addr) (cwd_2 : ByteArray) (path_3 : ByteArray) (mode_4 : Int) {K : KH} {σ : H} (h : g86 f_1 cwd_2 path_3 mode_4 K σ) : callW Tryz.prog 86 [.pointer f_1, .string cwd_2, .string path_3, .int .i64 mode_4] K σ := call_of_body mixed Tryz.func86 (by rw [e86]; exact h)

end Go.Proofs.YtbjbeajbckcecaaGreatDoor

set_option maxRecDepth 100000
namespace Go.Proofs.YtbjbeajbckcecaaGreatDoor
open Go Go.HL
def an87 : Ann := (.q (.q (.n (.q (.h)) (.q (.q (.seq (some [(4,.p),(7,.i),(8,.p)]) (.q (.cond .r .z)) (.q .z)))))))
def g87 (t_1 : Option Addr) (path_2 : ByteArray) (K : KH) : H -> Prop :=
 alW (.cells ⟨[.pointer t_1]⟩ 136 (0, 0)) (fun b3 => alW (.cells ⟨[.string path_2]⟩ 9 (0, 0)) (fun b4 => alW (.cells ⟨[.string (⟨⟨[]⟩⟩ : ByteArray), .int .i64 0, .bool false, .string (⟨⟨[]⟩⟩ : ByteArray), .slice none 0 0]⟩ 73 (0, 0)) (fun b5 => rdT (rdC b3 0) kP (fun x6 => rdT (rdC b4 0) kS (fun (x7 : ByteArray) =>
 callT Tryz.prog 15 [.pointer x6, .string (⟨⟨[47]⟩⟩ : ByteArray), .string x7, .bool false] (.tup [.agg [(.int .i64), (.int .i64), .str, (.int .i64)], .sc (.int .i64)]) (fun (x8 : Int) (x9 : Int) (x10 : ByteArray) (x11 : Int) (x12 : Int) => alW (.cells ⟨[.int .i64 0, .int .i64 0, .string (⟨⟨[]⟩⟩ : ByteArray), .int .i64 0]⟩ 35 (0, 0)) (fun b13 => stW Tryz.prog 35 (.pointer (some ⟨b13, 0, none⟩)) (.agg ⟨[.int .i64 x8, .int .i64 x9, .string x10, .int .i64 x11]⟩) (brW ((x12 : Int) != 0)
 (stW Tryz.prog 73 (.pointer (some ⟨b5, 0, none⟩)) (.agg ⟨[.string (⟨⟨[]⟩⟩ : ByteArray), .int .i64 0, .bool false, .string (⟨⟨[]⟩⟩ : ByteArray), .slice none 0 0]⟩) (rdT (rdA 5 b5 0) (.one (.agg [.str, (.int .i64), .bool, .str, .slc])) (fun (r14 : ByteArray) (r15 : Int) (r16 : Bool) (r17 : ByteArray) (r18 : Sl) => K (.tuple ⟨[.agg ⟨[.string r14, .int .i64 r15, .bool r16, .string r17, .slice r18.base r18.len r18.cap]⟩, .int .i64 x12]⟩)))) (rdT (rdC b13 0) kI (fun (x19 : Int) =>
 rdT (rdC b13 2) kS (fun (x20 : ByteArray) => alW (.cells ⟨[.string (⟨⟨[]⟩⟩ : ByteArray), .int .i64 0, .bool false, .string (⟨⟨[]⟩⟩ : ByteArray), .slice none 0 0]⟩ 73 (0, 0)) (fun b21 => stW Tryz.prog 73 (.pointer (some ⟨b21, 0, none⟩)) (.agg ⟨[.string (⟨⟨[]⟩⟩ : ByteArray), .int .i64 x19, .bool false, .string x20, .slice none 0 0]⟩) (alW (.map #[] 0) (fun b22 =>
 muW Tryz.prog 209 (.map (some b22)) (.int .i64 1) (.func (.func 151) ⟨[]⟩ ⟨[.pointer (some ⟨b13, 0, none⟩), .pointer (some ⟨b21, 0, none⟩)]⟩) (muW Tryz.prog 209 (.map (some b22)) (.int .i64 2) (.func (.func 152) ⟨[]⟩ ⟨[.pointer (some ⟨b3, 0, none⟩), .pointer (some ⟨b4, 0, none⟩), .pointer (some ⟨b21, 0, none⟩)]⟩) (rdT (rdC b13 0) kI (fun (x23 : Int) => rdT (rdM (.int .i64) (.nilFunc) true (some b22) (.int .i64 x23)) (.tup [.sc .raw, .sc .bool]) (fun x24 x25 =>
 letJ (T := Option Addr -> Int -> Option Addr -> H -> Prop) (fun x27 e_28 n_29 => ptrW n_29 (fun b30 o31 => rdT (rdA 5 b30 o31) (.one (.agg [.str, (.int .i64), .bool, .str, .slc])) (fun (x32 : ByteArray) (x33 : Int) (x34 : Bool) (x35 : ByteArray) (x36 : Sl) => stW Tryz.prog 73 (.pointer x27) (.agg ⟨[.string x32, .int .i64 x33, .bool x34, .string x35, .slice x36.base x36.len x36.cap]⟩) (ptrW x27 (fun b37 o38 =>
 rdT (rdA 5 b37 o38) (.one (.agg [.str, (.int .i64), .bool, .str, .slc])) (fun (r39 : ByteArray) (r40 : Int) (r41 : Bool) (r42 : ByteArray) (r43 : Sl) => K (.tuple ⟨[.agg ⟨[.string r39, .int .i64 r40, .bool r41, .string r42, .slice r43.base r43.len r43.cap]⟩, .int .i64 e_28]⟩))))))) (fun j26 => brW x25 (cvalT Tryz.prog x24 [] kI (fun (x44 : Int) => j26 (some ⟨b5, 0, none⟩) x44 (some ⟨b21, 0, none⟩))) (j26 (some ⟨b5, 0, none⟩) x12 (some ⟨b21, 0, none⟩)))))))))))))))))))))
theorem e87 (t_1 : Option Addr) (path_2 : ByteArray) (K : KH) : bodyF Tryz.prog tau Tryz.f87 an87 [.agg ⟨[.pointer t_1]⟩, .string path_2] K = g87 t_1 path_2 K := by kernel_rfl
theorem c87 (t_1 : Option Addr) (path_2 : ByteArray) {K : KH} {σ : H} (h : g87 t_1 path_2 K σ) : callW Tryz.prog 87 [.agg ⟨[.pointer t_1]⟩, .string path_2] K σ := call_of_body mixed Tryz.func87 (by rw [e87]; exact h)


def an88 : Ann := (.q (.n (.blk (.q (.cond (.q .z) (.seq (some [(1,.p),(8,.b)]) .r (.h))))) (.n (.q (.seq (some [(27,.b)]) .r (.h))) (.q .z))))
def g88 (n_1 : ByteArray) (n_2 : Int) (n_3 : Bool) (n_4 : ByteArray) (n_5 : Sl) (K : KH) : H -> Prop :=
 alW (.cells ⟨[.string n_1, .int .i64 n_2, .bool n_3, .string n_4, .slice n_5.base n_5.len n_5.cap]⟩ 73 (0, 0)) (fun b6 => rdT (rdA 5 b6 0) (.one (.agg [.str, (.int .i64), .bool, .str, .slc])) (fun (x7 : ByteArray) (x8 : Int) (x9 : Bool) (x10 : ByteArray) (x11 : Sl) => callT Tryz.prog 103 [.agg ⟨[.string x7, .int .i64 x8, .bool x9, .string x10, .slice x11.base x11.len x11.cap]⟩] kB (fun x12 => brW x12 (K (.int .i64 3)) (letJ (T := Option Addr -> Bool -> H -> Prop) (fun n_14 x15 => brW x15
 (K (.int .i64 2)) (ptrW n_14 (fun b16 o17 => rdT (rdA 5 b16 o17) (.one (.agg [.str, (.int .i64), .bool, .str, .slc])) (fun (x18 : ByteArray) (x19 : Int) (x20 : Bool) (x21 : ByteArray) (x22 : Sl) => callT Tryz.prog 118 [.agg ⟨[.string x18, .int .i64 x19, .bool x20, .string x21, .slice x22.base x22.len x22.cap]⟩] (.tup [.sc (.int .i64), .sc (.int .i64)]) (fun (x23 : Int) (x24 : Int) => letJ (T := Bool -> H -> Prop) (fun x26 => brW x26 (K (.int .i64 3)) (K (.int .i64 0))) (fun j25 =>
 brW (decide ((x23 : Int) > 2000)) (j25 true) (j25 (decide ((x24 : Int) > 100000))))))))) (fun j13 => rdT (rdC b6 0) kS (fun (x27 : ByteArray) => brW (!strEq x27 (⟨⟨[]⟩⟩ : ByteArray)) (j13 (some ⟨b6, 0, none⟩) true) (rdT (rdA 5 b6 0) (.one (.agg [.str, (.int .i64), .bool, .str, .slc])) (fun (x28 : ByteArray) (x29 : Int) (x30 : Bool) (x31 : ByteArray) (x32 : Sl) => callT Tryz.prog 154 [.agg ⟨[.string x28, .int .i64 x29, .bool x30, .string x31, .slice x32.base x32.len x32.cap]⟩] kB (fun x33 =>
 j13 (some ⟨b6, 0, none⟩) (!x33))))))))))
theorem e88 (n_1 : ByteArray) (n_2 : Int) (n_3 : Bool) (n_4 : ByteArray) (n_5 : Sl) (K : KH) : bodyF Tryz.prog tau Tryz.f88 an88 [.agg ⟨[.string n_1, .int .i64 n_2, .bool n_3, .string n_4, .slice n_5.base n_5.len n_5.cap]⟩] K = g88 n_1 n_2 n_3 n_4 n_5 K := by kernel_rfl
theorem c88 (n_1 : ByteArray) (n_2 : Int) (n_3 : Bool) (n_4 : ByteArray) (n_5 : Sl) {K : KH} {σ : H} (h : g88 n_1 n_2 n_3 n_4 n_5 K σ) : callW Tryz.prog 88 [.agg ⟨[.string n_1, .int .i64 n_2, .bool n_3, .string n_4, .slice n_5.base n_5.len n_5.cap]⟩] K σ := call_of_body mixed Tryz.func88 (by rw [e88]; exact h)


def an89 : Ann := (.q (.q (.n (.q (.h)) (.q (.seq (some [(0,.p),(1,.s),(4,.p),(6,.p),(8,.p)]) (.q (.cond .r .z)) (.n (.q (.h)) (.q (.n (.q (.h)) (.n (.q (.blk (.loop [(0,.p),(1,.s),(4,.p),(8,.p),(9,.l),(10,.i)] (.n (.q (.cond .z .z)) (.n (.blk (.q (.seq (some [(0,.p),(1,.s),(4,.p),(8,.p),(9,.l),(10,.i),(11,.s)]) (.q (.cond .r .z)) (.q (.n (.q (.h)) (.q .r)))))) .r))))) (.q .z))))))))))
def g89 (f_1 : Option Addr) (path_2 : ByteArray) (K : KH) : H -> Prop :=
 alW (.cells ⟨[.string (⟨⟨[]⟩⟩ : ByteArray), .int .i64 0, .bool false, .string (⟨⟨[]⟩⟩ : ByteArray), .slice none 0 0]⟩ 73 (0, 0)) (fun b3 => callT Tryz.prog 155 [.pointer f_1, .string (⟨⟨[47]⟩⟩ : ByteArray), .string path_2, .bool false] (.tup [.agg [(.int .i64), (.int .i64), .str, (.int .i64)], .sc (.int .i64)]) (fun (x4 : Int) (x5 : Int) (x6 : ByteArray) (x7 : Int) (x8 : Int) => alW (.cells ⟨[.int .i64 0, .int .i64 0, .string (⟨⟨[]⟩⟩ : ByteArray), .int .i64 0]⟩ 35 (0, 0)) (fun b9 =>
 stW Tryz.prog 35 (.pointer (some ⟨b9, 0, none⟩)) (.agg ⟨[.int .i64 x4, .int .i64 x5, .string x6, .int .i64 x7]⟩) (brW ((x8 : Int) != 0) (stW Tryz.prog 73 (.pointer (some ⟨b3, 0, none⟩)) (.agg ⟨[.string (⟨⟨[]⟩⟩ : ByteArray), .int .i64 0, .bool false, .string (⟨⟨[]⟩⟩ : ByteArray), .slice none 0 0]⟩) (rdT (rdA 5 b3 0) (.one (.agg [.str, (.int .i64), .bool, .str, .slc])) (fun (r10 : ByteArray) (r11 : Int) (r12 : Bool) (r13 : ByteArray) (r14 : Sl) =>
 K (.tuple ⟨[.agg ⟨[.string r10, .int .i64 r11, .bool r12, .string r13, .slice r14.base r14.len r14.cap]⟩, .int .i64 x8]⟩)))) (rdT (rdC b9 0) kI (fun (x15 : Int) => rdT (rdC b9 2) kS (fun (x16 : ByteArray) => alW (.cells ⟨[.string (⟨⟨[]⟩⟩ : ByteArray), .int .i64 0, .bool false, .string (⟨⟨[]⟩⟩ : ByteArray), .slice none 0 0]⟩ 73 (0, 0)) (fun b17 =>
 stW Tryz.prog 73 (.pointer (some ⟨b17, 0, none⟩)) (.agg ⟨[.string (⟨⟨[]⟩⟩ : ByteArray), .int .i64 x15, .bool false, .string x16, .slice none 0 0]⟩) (letJ (T := Option Addr -> ByteArray -> Option Addr -> Option Addr -> Option Addr -> H -> Prop) (fun f_19 path_20 x21 x_22 n_23 => ptrW x_22 (fun b24 o25 => rdT (rdC b24 o25) kI (fun (x26 : Int) => brW ((x26 : Int) != 2) (ptrW n_23 (fun b27 o28 =>
 rdT (rdA 5 b27 o28) (.one (.agg [.str, (.int .i64), .bool, .str, .slc])) (fun (x29 : ByteArray) (x30 : Int) (x31 : Bool) (x32 : ByteArray) (x33 : Sl) => stW Tryz.prog 73 (.pointer x21) (.agg ⟨[.string x29, .int .i64 x30, .bool x31, .string x32, .slice x33.base x33.len x33.cap]⟩) (ptrW x21 (fun b34 o35 => rdT (rdA 5 b34 o35) (.one (.agg [.str, (.int .i64), .bool, .str, .slc])) (fun (r36 : ByteArray) (r37 : Int) (r38 : Bool) (r39 : ByteArray) (r40 : Sl) =>
 K (.tuple ⟨[.agg ⟨[.string r36, .int .i64 r37, .bool r38, .string r39, .slice r40.base r40.len r40.cap]⟩, .int .i64 0]⟩))))))) (callT Tryz.prog 156 [.pointer f_19, .string (⟨⟨[47]⟩⟩ : ByteArray), .string path_20] (.tup [.sc .slc, .sc (.int .i64)]) (fun (x41 : Sl) (x42 : Int) => brW ((x42 : Int) != 0) (stW Tryz.prog 73 (.pointer x21) (.agg ⟨[.string (⟨⟨[]⟩⟩ : ByteArray), .int .i64 0, .bool false, .string (⟨⟨[]⟩⟩ : ByteArray), .slice none 0 0]⟩) (ptrW x21 (fun b43 o44 =>
 rdT (rdA 5 b43 o44) (.one (.agg [.str, (.int .i64), .bool, .str, .slc])) (fun (r45 : ByteArray) (r46 : Int) (r47 : Bool) (r48 : ByteArray) (r49 : Sl) => K (.tuple ⟨[.agg ⟨[.string r45, .int .i64 r46, .bool r47, .string r48, .slice r49.base r49.len r49.cap]⟩, .int .i64 x42]⟩)))))
 (loopW [.sc .ptr, .sc .str, .sc .ptr, .sc .ptr, .sc .slc, .sc (.int .i64)] (fun (R50 : Option Addr -> ByteArray -> Option Addr -> Option Addr -> Sl -> Int -> H -> Prop) => (fun (f_51 : Option Addr) (path_52 : ByteArray) (x53 : Option Addr) (n_54 : Option Addr) (l_55 : Sl) (i_56 : Int) => brW (decide ((i_56 : Int) < ((l_55.len : Nat) : Int))) (ifW (path_52.size + (⟨⟨[47]⟩⟩ : ByteArray).size <= 9223372036854775807) (ptrW l_55.base (fun b57 o58 => ifW (0 <= i_56 /\ i_56 < ((l_55.len : Nat) : Int))
 (rdT (rdC b57 (o58 + i_56.toNat * 1)) kS (fun (x59 : ByteArray) => ifW ((path_52 ++ (⟨⟨[47]⟩⟩ : ByteArray)).size + x59.size <= 9223372036854775807) (letJ (T := Option Addr -> ByteArray -> Option Addr -> Option Addr -> Sl -> Int -> ByteArray -> H -> Prop) (fun f_61 path_62 x63 n_64 l_65 i_66 sub_67 =>
 callT Tryz.prog 89 [.pointer f_61, .string sub_67] (.tup [.agg [.str, (.int .i64), .bool, .str, .slc], .sc (.int .i64)]) (fun (x68 : ByteArray) (x69 : Int) (x70 : Bool) (x71 : ByteArray) (x72 : Sl) (x73 : Int) => alW (.cells ⟨[.string (⟨⟨[]⟩⟩ : ByteArray), .int .i64 0, .bool false, .string (⟨⟨[]⟩⟩ : ByteArray), .slice none 0 0]⟩ 73 (0, 0)) (fun b74 =>
 stW Tryz.prog 73 (.pointer (some ⟨b74, 0, none⟩)) (.agg ⟨[.string x68, .int .i64 x69, .bool x70, .string x71, .slice x72.base x72.len x72.cap]⟩) (brW ((x73 : Int) != 0) (stW Tryz.prog 73 (.pointer x63) (.agg ⟨[.string (⟨⟨[]⟩⟩ : ByteArray), .int .i64 0, .bool false, .string (⟨⟨[]⟩⟩ : ByteArray), .slice none 0 0]⟩) (ptrW x63 (fun b75 o76 => rdT (rdA 5 b75 o76) (.one (.agg [.str, (.int .i64), .bool, .str, .slc])) (fun (r77 : ByteArray) (r78 : Int) (r79 : Bool) (r80 : ByteArray) (r81 : Sl) =>
 K (.tuple ⟨[.agg ⟨[.string r77, .int .i64 r78, .bool r79, .string r80, .slice r81.base r81.len r81.cap]⟩, .int .i64 x73]⟩))))) (ptrW l_65.base (fun b82 o83 => ifW (0 <= i_66 /\ i_66 < ((l_65.len : Nat) : Int)) (rdT (rdC b82 (o83 + i_66.toNat * 1)) kS (fun (x84 : ByteArray) => stW Tryz.prog 9 (.pointer (some ⟨b74, 0, none⟩)) (.string x84) (ptrW n_64 (fun b85 o86 => rdT (rdC b85 (o86 + 4)) kL (fun x87 =>
 rdT (rdA 5 b74 0) (.one (.agg [.str, (.int .i64), .bool, .str, .slc])) (fun (x88 : ByteArray) (x89 : Int) (x90 : Bool) (x91 : ByteArray) (x92 : Sl) => alW (.cells ⟨[.string x88, .int .i64 x89, .bool x90, .string x91, .slice x92.base x92.len x92.cap]⟩ 73 (0, 0)) (fun b93 => biW Tryz.prog .append #[71, 71] 71 [false, false] [.slice x87.base x87.len x87.cap, .slice (some ⟨b93, 0, none⟩) 1 1] kL (fun x94 => ptrW n_64 (fun b95 o96 =>
 stW Tryz.prog 71 (.pointer (some ⟨b95, o96 + 4, none⟩)) (.slice x94.base x94.len x94.cap) (R50 f_61 path_62 x63 n_64 l_65 (IntKind.i64.wrap (i_66 + 1)))))))))))))))))) (fun j60 => idxW path_52 (IntKind.i64.wrap (((path_52.size : Nat) : Int) - 1)) (fun c97 => brW (((c97.toNat : Int) : Int) == 47) (ptrW l_55.base (fun b98 o99 => ifW (0 <= i_56 /\ i_56 < ((l_55.len : Nat) : Int)) (rdT (rdC b98 (o99 + i_56.toNat * 1)) kS (fun (x100 : ByteArray) => ifW (path_52.size + x100.size <= 9223372036854775807)
 (j60 f_51 path_52 x53 n_54 l_55 i_56 (path_52 ++ x100)))))) (j60 f_51 path_52 x53 n_54 l_55 i_56 ((path_52 ++ (⟨⟨[47]⟩⟩ : ByteArray)) ++ x59)))))))))) (ptrW n_54 (fun b101 o102 => rdT (rdA 5 b101 o102) (.one (.agg [.str, (.int .i64), .bool, .str, .slc])) (fun (x103 : ByteArray) (x104 : Int) (x105 : Bool) (x106 : ByteArray) (x107 : Sl) =>
 stW Tryz.prog 73 (.pointer x53) (.agg ⟨[.string x103, .int .i64 x104, .bool x105, .string x106, .slice x107.base x107.len x107.cap]⟩) (ptrW x53 (fun b108 o109 => rdT (rdA 5 b108 o109) (.one (.agg [.str, (.int .i64), .bool, .str, .slc])) (fun (r110 : ByteArray) (r111 : Int) (r112 : Bool) (r113 : ByteArray) (r114 : Sl) =>
 K (.tuple ⟨[.agg ⟨[.string r110, .int .i64 r111, .bool r112, .string r113, .slice r114.base r114.len r114.cap]⟩, .int .i64 0]⟩))))))))) (fun (R115 : Option Addr -> ByteArray -> Option Addr -> Option Addr -> Sl -> Int -> H -> Prop) => R115 f_19 path_20 x21 n_23 x41 0))))))) (fun j18 => rdT (rdC b9 0) kI (fun (x116 : Int) => brW ((x116 : Int) == 1) (rdT (rdC b9 1) kI (fun (x117 : Int) =>
 stW Tryz.prog 4 (.pointer (some ⟨b17, 2, none⟩)) (.bool (((bitV .and .i64 x117 73) : Int) != 0)) (j18 f_1 path_2 (some ⟨b3, 0, none⟩) (some ⟨b9, 0, none⟩) (some ⟨b17, 0, none⟩)))) (j18 f_1 path_2 (some ⟨b3, 0, none⟩) (some ⟨b9, 0, none⟩) (some ⟨b17, 0, none⟩)))))))))))))
theorem e89 (f_1 : Option Addr) (path_2 : ByteArray) (K : KH) : bodyF Tryz.prog tau Tryz.f89 an89 [.pointer f_1, .string path_2] K = g89 f_1 path_2 K := by kernel_rfl
theorem c89 (f_1 : Option Addr) (path_2 : ByteArray) {K : KH} {σ : H} (h : g89 f_1 path_2 K σ) : callW Tryz.prog 89 [.pointer f_1, .string path_2] K σ := call_of_body mixed Tryz.func89 (by rw [e89]; exact h)


def an90 : Ann := (.q (.n (.q (.h)) (.n (.seq (some [(1,.p),(15,.b)]) .r (.h)) (.q (.n (.seq (some [(26,.b)]) .r (.h)) (.q .z))))))
def g90 (n_1 : ByteArray) (n_2 : Int) (n_3 : Bool) (n_4 : ByteArray) (n_5 : Sl) (K : KH) : H -> Prop :=
 alW (.cells ⟨[.string n_1, .int .i64 n_2, .bool n_3, .string n_4, .slice n_5.base n_5.len n_5.cap]⟩ 73 (0, 0)) (fun b6 => rdT (rdA 5 b6 0) (.one (.agg [.str, (.int .i64), .bool, .str, .slc])) (fun (x7 : ByteArray) (x8 : Int) (x9 : Bool) (x10 : ByteArray) (x11 : Sl) => callT Tryz.prog 91 [.agg ⟨[.string x7, .int .i64 x8, .bool x9, .string x10, .slice x11.base x11.len x11.cap]⟩] kI (fun (x12 : Int) => brW (decide ((x12 : Int) > 12)) (K (.int .i64 3))
 (letJ (T := Option Addr -> Bool -> H -> Prop) (fun n_14 x15 => brW x15 (K (.int .i64 2)) (ptrW n_14 (fun b16 o17 => rdT (rdA 5 b16 o17) (.one (.agg [.str, (.int .i64), .bool, .str, .slc])) (fun (x18 : ByteArray) (x19 : Int) (x20 : Bool) (x21 : ByteArray) (x22 : Sl) => callT Tryz.prog 158 [.agg ⟨[.string x18, .int .i64 x19, .bool x20, .string x21, .slice x22.base x22.len x22.cap]⟩] (.tup [.sc (.int .i64), .sc (.int .i64)]) (fun (x23 : Int) (x24 : Int) => letJ (T := Bool -> H -> Prop) (fun x26 =>
 brW x26 (K (.int .i64 3)) (K (.int .i64 0))) (fun j25 => brW (decide ((x23 : Int) > 2000)) (j25 true) (j25 (decide ((x24 : Int) > 100000))))))))) (fun j13 => rdT (rdC b6 0) kS (fun (x27 : ByteArray) => brW (!strEq x27 (⟨⟨[]⟩⟩ : ByteArray)) (j13 (some ⟨b6, 0, none⟩) true) (rdT (rdA 5 b6 0) (.one (.agg [.str, (.int .i64), .bool, .str, .slc])) (fun (x28 : ByteArray) (x29 : Int) (x30 : Bool) (x31 : ByteArray) (x32 : Sl) =>
 callT Tryz.prog 157 [.agg ⟨[.string x28, .int .i64 x29, .bool x30, .string x31, .slice x32.base x32.len x32.cap]⟩] kB (fun x33 => j13 (some ⟨b6, 0, none⟩) (!x33))))))))))
theorem e90 (n_1 : ByteArray) (n_2 : Int) (n_3 : Bool) (n_4 : ByteArray) (n_5 : Sl) (K : KH) : bodyF Tryz.prog tau Tryz.f90 an90 [.agg ⟨[.string n_1, .int .i64 n_2, .bool n_3, .string n_4, .slice n_5.base n_5.len n_5.cap]⟩] K = g90 n_1 n_2 n_3 n_4 n_5 K := by kernel_rfl
theorem c90 (n_1 : ByteArray) (n_2 : Int) (n_3 : Bool) (n_4 : ByteArray) (n_5 : Sl) {K : KH} {σ : H} (h : g90 n_1 n_2 n_3 n_4 n_5 K σ) : callW Tryz.prog 90 [.agg ⟨[.string n_1, .int .i64 n_2, .bool n_3, .string n_4, .slice n_5.base n_5.len n_5.cap]⟩] K σ := call_of_body mixed Tryz.func90 (by rw [e90]; exact h)


def an91 : Ann := (.q (.q .z))
def g91 (n_1 : ByteArray) (n_2 : Int) (n_3 : Bool) (n_4 : ByteArray) (n_5 : Sl) (K : KH) : H -> Prop :=
 alW (.cells ⟨[.string n_1, .int .i64 n_2, .bool n_3, .string n_4, .slice n_5.base n_5.len n_5.cap]⟩ 73 (0, 0)) (fun b6 => rdT (rdA 5 b6 0) (.one (.agg [.str, (.int .i64), .bool, .str, .slc])) (fun (x7 : ByteArray) (x8 : Int) (x9 : Bool) (x10 : ByteArray) (x11 : Sl) => callT Tryz.prog 159 [.agg ⟨[.string x7, .int .i64 x8, .bool x9, .string x10, .slice x11.base x11.len x11.cap]⟩, .int .i64 14] kI (fun (x12 : Int) => K (.int .i64 x12))))
theorem e91 (n_1 : ByteArray) (n_2 : Int) (n_3 : Bool) (n_4 : ByteArray) (n_5 : Sl) (K : KH) : bodyF Tryz.prog tau Tryz.f91 an91 [.agg ⟨[.string n_1, .int .i64 n_2, .bool n_3, .string n_4, .slice n_5.base n_5.len n_5.cap]⟩] K = g91 n_1 n_2 n_3 n_4 n_5 K := by kernel_rfl
theorem c91 (n_1 : ByteArray) (n_2 : Int) (n_3 : Bool) (n_4 : ByteArray) (n_5 : Sl) {K : KH} {σ : H} (h : g91 n_1 n_2 n_3 n_4 n_5 K σ) : callW Tryz.prog 91 [.agg ⟨[.string n_1, .int .i64 n_2, .bool n_3, .string n_4, .slice n_5.base n_5.len n_5.cap]⟩] K σ := call_of_body mixed Tryz.func91 (by rw [e91]; exact h)


def an92 : Ann := (.q (.q .z))
def g92 (f_1 : Option Addr) (K : KH) : H -> Prop :=
 brW f_1.isNone (K (.bool true)) (ptrW f_1 (fun b2 o3 => rdT (rdC b2 o3) kP (fun x4 => K (.bool x4.isNone))))
theorem e92 (f_1 : Option Addr) (K : KH) : bodyF Tryz.prog tau Tryz.f92 an92 [.pointer f_1] K = g92 f_1 K := by kernel_rfl
theorem c92 (f_1 : Option Addr) {K : KH} {σ : H} (h : g92 f_1 K σ) : callW Tryz.prog 92 [.pointer f_1] K σ := call_of_body mixed Tryz.func92 (by rw [e92]; exact h)


def an93 : Ann := (.q (.n (.q (.h)) (.q .z)))
def g93 (t_1 : Option Addr) (K : KH) : H -> Prop :=
 alW (.cells ⟨[.int .i64 0, .int .i64 0]⟩ 64 (0, 0)) (fun b2 => brW t_1.isNone (stW Tryz.prog 64 (.pointer (some ⟨b2, 0, none⟩)) (.agg ⟨[.int .i64 0, .int .i64 0]⟩) (rdT (rdA 2 b2 0) (.one (.agg [(.int .i64), (.int .i64)])) (fun (r3 : Int) (r4 : Int) => K (.agg ⟨[.int .i64 r3, .int .i64 r4]⟩)))) (ptrW t_1 (fun b5 o6 => rdT (rdA 2 b5 (o6 + 2)) (.one (.agg [(.int .i64), (.int .i64)])) (fun (x7 : Int) (x8 : Int) =>
 stW Tryz.prog 64 (.pointer (some ⟨b2, 0, none⟩)) (.agg ⟨[.int .i64 x7, .int .i64 x8]⟩) (rdT (rdA 2 b2 0) (.one (.agg [(.int .i64), (.int .i64)])) (fun (r9 : Int) (r10 : Int) => K (.agg ⟨[.int .i64 r9, .int .i64 r10]⟩)))))))
theorem e93 (t_1 : Option Addr) (K : KH) : bodyF Tryz.prog tau Tryz.f93 an93 [.pointer t_1] K = g93 t_1 K := by kernel_rfl
theorem c93 (t_1 : Option Addr) {K : KH} {σ : H} (h : g93 t_1 K σ) : callW Tryz.prog 93 [.pointer t_1] K σ := call_of_body mixed Tryz.func93 (by rw [e93]; exact h)


def an94 : Ann := (.q (.q (.n (.blk (.q (.cond (.q .z) (.q (.h))))) (.q .z))))
def g94 (f_1 : Option Addr) (cwd_2 : ByteArray) (path_3 : ByteArray) (do_4 : Value) (K : KH) : H -> Prop :=
 callT Tryz.prog 98 [.pointer f_1, .string cwd_2, .string path_3, .bool false] (.tup [.agg [(.int .i64), .str, (.int .i64), .bool], .sc (.int .i64)]) (fun (x5 : Int) (x6 : ByteArray) (x7 : Int) (x8 : Bool) (x9 : Int) => alW (.cells ⟨[.int .i64 0, .string (⟨⟨[]⟩⟩ : ByteArray), .int .i64 0, .bool false]⟩ 142 (0, 0)) (fun b10 => stW Tryz.prog 142 (.pointer (some ⟨b10, 0, none⟩)) (.agg ⟨[.int .i64 x5, .string x6, .int .i64 x7, .bool x8]⟩) (brW ((x9 : Int) != 0) (K (.int .i64 x9))
 (rdT (rdC b10 3) kB (fun x11 => brW x11 (K (.int .i64 6)) (rdT (rdA 4 b10 0) (.one (.agg [(.int .i64), .str, (.int .i64), .bool])) (fun (x12 : Int) (x13 : ByteArray) (x14 : Int) (x15 : Bool) => cvalT Tryz.prog do_4 [.agg ⟨[.int .i64 x12, .string x13, .int .i64 x14, .bool x15]⟩] kI (fun (x16 : Int) => K (.int .i64 x16)))))))))
theorem e94 (f_1 : Option Addr) (cwd_2 : ByteArray) (path_3 : ByteArray) (do_4 : Value) (K : KH) : bodyF Tryz.prog tau Tryz.f94 an94 [.pointer f_1, .string cwd_2, .string path_3, do_4] K = g94 f_1 cwd_2 path_3 do_4 K := by kernel_rfl
theorem c94 (f_1 : Option Addr) (cwd_2 : ByteArray) (path_3 : ByteArray) (do_4 : Value) {K : KH} {σ : H} (h : g94 f_1 cwd_2 path_3 do_4 K σ) : callW Tryz.prog 94 [.pointer f_1, .string cwd_2, .string path_3, do_4] K σ := call_of_body mixed Tryz.func94 (by rw [e94]; exact h)


def an95 : Ann := (.q (.n (.reg (rn 15) [[],[0],[0,1],[0,1,2],[],[4],[],[6],[],(rn 9),(rn 10),(rn 11),(rn 11),(rn 12),(rn 14)]) (.q .z)))
def g95 (p_1 : Int) (p_2 : ByteArray) (p_3 : Int) (p_4 : Bool) (x5 : Option Addr) (x6 : Option Addr) (K : KH) : H -> Prop :=
 alW (.cells ⟨[.int .i64 p_1, .string p_2, .int .i64 p_3, .bool p_4]⟩ 142 (0, 0)) (fun b7 => ptrW x5 (fun b8 o9 => rdT (rdC b8 o9) kP (fun x10 => ptrW x10 (fun b11 o12 => rdT (rdC b11 o12) kP (fun x13 => rdT (rdC b7 0) kI (fun (x14 : Int) => rdT (rdC b7 1) kS (fun (x15 : ByteArray) => ptrW x6 (fun b16 o17 => rdT (rdC b16 o17) kS (fun (x18 : ByteArray) =>
 callT Tryz.prog 96 [.pointer x13, .int .i64 x14, .string x15, .int .i64 3, .int .i64 511, .string x18] (.tup [.sc (.int .i64), .sc (.int .i64)]) (fun (_x19 : Int) (x20 : Int) => K (.int .i64 x20)))))))))))
theorem e95 (p_1 : Int) (p_2 : ByteArray) (p_3 : Int) (p_4 : Bool) (x5 : Option Addr) (x6 : Option Addr) (K : KH) : bodyF Tryz.prog tau Tryz.f95 an95 [.agg ⟨[.int .i64 p_1, .string p_2, .int .i64 p_3, .bool p_4]⟩, .pointer x5, .pointer x6] K = g95 p_1 p_2 p_3 p_4 x5 x6 K := by kernel_rfl
theorem c95 (p_1 : Int) (p_2 : ByteArray) (p_3 : Int) (p_4 : Bool) (x5 : Option Addr) (x6 : Option Addr) {K : KH} {σ : H} (h : g95 p_1 p_2 p_3 p_4 x5 x6 K σ) : callW Tryz.prog 95 [.agg ⟨[.int .i64 p_1, .string p_2, .int .i64 p_3, .bool p_4]⟩, .pointer x5, .pointer x6] K σ := call_of_body mixed Tryz.func95 (by rw [e95]; exact h)


def an96 : Ann := (.q (.q (.n (.n (.reg [0,1,2,3,5,7,8,4,6,9,10,11,12,13,14,15] [[],[0],[],[],[2,3],[],[2,3,4,5],[],[],[],[],[2,3,4,5,6,8,9,10],[],(rn 13),(rn 14),(rn 15)]) (.q (.h))) (.q (.q (.seq (some [(1,.i),(2,.s),(6,.p),(11,.p),(16,.p)]) (.q (.cond .r .z)) (.n (.reg (rn 10) [[],[0],[0,1],[0,1,2],[],[4],[4,5],[4,5,6],[],(rn 9)]) (.n (.reg (rn 15) [[],[0],[0,1],[0,1,2],[],(rn 5),(rn 6),(rn 7),(rn 8),[],[],[10],[10,11],[10,11,12],(rn 14)]) (.q (.n (.reg (rn 12) [[],[0],[0,1],[0,1,2],(rn 4),[],[5],(rn 7),(rn 8),(rn 9),(rn 10),(rn 11)]) (.q .z)))))))))))
def g96 (t_1 : Option Addr) (dir_2 : Int) (name_3 : ByteArray) (kind_4 : Int) (mode_5 : Int) (data_6 : ByteArray) (K : KH) : H -> Prop :=
 alW (.cells ⟨[.pointer t_1]⟩ 108 (0, 0)) (fun b7 => alW (.cells ⟨[.int .i64 kind_4]⟩ 3 (0, 0)) (fun b8 => alW (.cells ⟨[.int .i64 mode_5]⟩ 3 (0, 0)) (fun b9 => alW (.cells ⟨[.string data_6]⟩ 9 (0, 0)) (fun b10 => rdT (rdC b7 0) kP (fun x11 => rdT (rdC b7 0) kP (fun x12 => rdT (rdC b7 0) kP (fun x13 => callT Tryz.prog 164 [.pointer x12, .int .i64 dir_2] kR (fun x14 => andW (fun σ => (rdC b7 0) σ = some (.pointer x13)) (andW (fun σ => (rdC b7 0) σ = some (.pointer x11))
 (callT Tryz.prog 165 [.string name_3] kR (fun x15 => andW (fun σ => (rdC b7 0) σ = some (.pointer x13)) (andW (fun σ => (rdC b7 0) σ = some (.pointer x11)) (callT Tryz.prog 166 [.pointer x13, .int .i64 dir_2, .string name_3] kR (fun x16 => andW (fun σ => (rdC b7 0) σ = some (.pointer x11)) (oneK x14 (oneK x15 (oneK x16
 (alW (.cells ⟨[.func (.func 163) ⟨[.pointer x11]⟩ ⟨[]⟩, x14, x15, .func (.func 160) ⟨[]⟩ ⟨[.pointer (some ⟨b10, 0, none⟩), .pointer (some ⟨b8, 0, none⟩), .pointer (some ⟨b9, 0, none⟩)]⟩, x16, .func (.func 167) ⟨[]⟩ ⟨[.pointer (some ⟨b7, 0, none⟩), .pointer (some ⟨b10, 0, none⟩)]⟩]⟩ 204 (0, 0)) (fun b17 => callT Tryz.prog 162 [.slice (some ⟨b17, 0, none⟩) 6 6] kI (fun (x18 : Int) => brW ((x18 : Int) != 0) (K (.tuple ⟨[.int .i64 0, .int .i64 x18]⟩)) (rdT (rdC b7 0) kP (fun x19 =>
 ptrW x19 (fun b20 o21 => rdT (rdC b20 (o21 + 5)) kI (fun (x22 : Int) => ptrW x19 (fun b23 o24 => stW Tryz.prog 3 (.pointer (some ⟨b23, o24 + 5, none⟩)) (.int .i64 (IntKind.i64.wrap (x22 + 1))) (rdT (rdC b8 0) kI (fun (x25 : Int) => rdT (rdC b9 0) kI (fun (x26 : Int) => rdT (rdC b10 0) kS (fun (x27 : ByteArray) => alW (.cells ⟨[.int .i64 x25, .int .i64 x26, .string x27, .int .i64 1, .int .i64 0, .map none]⟩ 194 (0, 0)) (fun b28 =>
 letJ (T := Int -> ByteArray -> Option Addr -> Option Addr -> Option Addr -> H -> Prop) (fun dir_30 name_31 t_32 data_33 n_34 => ptrW t_32 (fun b35 o36 => rdT (rdC b35 o36) kP (fun x37 => ptrW x37 (fun b38 o39 => rdT (rdC b38 (o39 + 4)) kM (fun (x40 : Option Nat) => ptrW t_32 (fun b41 o42 => rdT (rdC b41 o42) kP (fun x43 => ptrW x43 (fun b44 o45 => rdT (rdC b44 (o45 + 5)) kI (fun (x46 : Int) => muW Tryz.prog 198 (.map x40) (.int .i64 x46) (.pointer n_34) (ptrW t_32 (fun b47 o48 =>
 rdT (rdC b47 o48) kP (fun x49 => ptrW x49 (fun b50 o51 => rdT (rdC b50 (o51 + 4)) kM (fun (x52 : Option Nat) => rdT (rdM (.int .i64) (.pointer none) false x52 (.int .i64 dir_30)) kP (fun x53 => ptrW x53 (fun b54 o55 => rdT (rdC b54 (o55 + 5)) kM (fun (x56 : Option Nat) => ptrW t_32 (fun b57 o58 => rdT (rdC b57 o58) kP (fun x59 => ptrW x59 (fun b60 o61 => rdT (rdC b60 (o61 + 5)) kI (fun (x62 : Int) => muW Tryz.prog 192 (.map x56) (.string name_31) (.int .i64 x62) (ptrW t_32 (fun b63 o64 =>
 rdT (rdC b63 o64) kP (fun x65 => ptrW x65 (fun b66 o67 => rdT (rdC b66 (o67 + 2)) kI (fun (x68 : Int) => ptrW x65 (fun b69 o70 => stW Tryz.prog 3 (.pointer (some ⟨b69, o70 + 2, none⟩)) (.int .i64 (IntKind.i64.wrap (x68 + 1))) (ptrW t_32 (fun b71 o72 => rdT (rdC b71 o72) kP (fun x73 => ptrW x73 (fun b74 o75 => rdT (rdC b74 (o75 + 3)) kI (fun (x76 : Int) => ptrW data_33 (fun b77 o78 => rdT (rdC b77 o78) kS (fun (x79 : ByteArray) => ptrW x73 (fun b80 o81 =>
 stW Tryz.prog 3 (.pointer (some ⟨b80, o81 + 3, none⟩)) (.int .i64 (IntKind.i64.wrap (x76 + ((x79.size : Nat) : Int)))) (ptrW t_32 (fun b82 o83 => rdT (rdC b82 o83) kP (fun x84 => ptrW x84 (fun b85 o86 => rdT (rdC b85 (o86 + 5)) kI (fun (x87 : Int) => K (.tuple ⟨[.int .i64 x87, .int .i64 0]⟩))))))))))))))))))))))))))))))))))))))))) (fun j29 => rdT (rdC b8 0) kI (fun (x88 : Int) => brW ((x88 : Int) == 2) (alW (.map #[] 0) (fun b89 =>
 stW Tryz.prog 3 (.pointer (some ⟨b28, 4, none⟩)) (.int .i64 dir_2) (stW Tryz.prog 192 (.pointer (some ⟨b28, 5, none⟩)) (.map (some b89)) (j29 dir_2 name_3 (some ⟨b7, 0, none⟩) (some ⟨b10, 0, none⟩) (some ⟨b28, 0, none⟩))))) (j29 dir_2 name_3 (some ⟨b7, 0, none⟩) (some ⟨b10, 0, none⟩) (some ⟨b28, 0, none⟩))))))))))))))))))))))))))))))))))
theorem e96 (t_1 : Option Addr) (dir_2 : Int) (name_3 : ByteArray) (kind_4 : Int) (mode_5 : Int) (data_6 : ByteArray) (K : KH) : bodyF Tryz.prog tau Tryz.f96 an96 [.pointer t_1, .int .i64 dir_2, .string name_3, .int .i64 kind_4, .int .i64 mode_5, .string data_6] K = g96 t_1 dir_2 name_3 kind_4 mode_5 data_6 K := by kernel_rfl
theorem c96 (t_1 : Option Addr) (dir_2 : Int) (name_3 : ByteArray) (kind_4 : Int) (mode_5 : Int) (data_6 : ByteArray) {K : KH} {σ : H} (h : g96 t_1 dir_2 name_3 kind_4 mode_5 data_6 K σ) : callW Tryz.prog 96 [.pointer t_1, .int .i64 dir_2, .string name_3, .int .i64 kind_4, .int .i64 mode_5, .string data_6] K σ := call_of_body mixed Tryz.func96 (by rw [e96]; exact h)


def an98 : Ann := (.q (.n (.q (.h)) (.q (.n (.q (.h)) (.seq (some [(0,.p),(2,.s),(3,.b),(8,.p),(10,.i),(11,.p)]) (.q (.cond (.n (.q (.h)) (.q (.n (.blk (.q (.cond (.q .z) (.q (.cond (.q .z) (.q (.h))))))) .r))) .z)) (.q .z))))))
def g98 (f_1 : Option Addr) (cwd_2 : ByteArray) (path_3 : ByteArray) (follow_4 : Bool) (K : KH) : H -> Prop :=
 alW (.cells ⟨[.int .i64 0, .string (⟨⟨[]⟩⟩ : ByteArray), .int .i64 0, .bool false]⟩ 142 (0, 0)) (fun b5 => callT Tryz.prog 92 [.pointer f_1] kB (fun x6 => brW x6 (stW Tryz.prog 142 (.pointer (some ⟨b5, 0, none⟩)) (.agg ⟨[.int .i64 0, .string (⟨⟨[]⟩⟩ : ByteArray), .int .i64 0, .bool false]⟩) (rdT (rdA 4 b5 0) (.one (.agg [(.int .i64), .str, (.int .i64), .bool])) (fun (r7 : Int) (r8 : ByteArray) (r9 : Int) (r10 : Bool) =>
 K (.tuple ⟨[.agg ⟨[.int .i64 r7, .string r8, .int .i64 r9, .bool r10]⟩, .int .i64 1]⟩)))) (ptrW f_1 (fun b11 o12 => rdT (rdC b11 o12) kP (fun x13 => callT Tryz.prog 123 [.pointer x13] kI (fun (x14 : Int) => alW (.cells ⟨[.int .i64 0]⟩ 3 (0, 0)) (fun b15 => stW Tryz.prog 3 (.pointer (some ⟨b15, 0, none⟩)) (.int .i64 8) (brW (strEq path_3 (⟨⟨[]⟩⟩ : ByteArray))
 (stW Tryz.prog 142 (.pointer (some ⟨b5, 0, none⟩)) (.agg ⟨[.int .i64 0, .string (⟨⟨[]⟩⟩ : ByteArray), .int .i64 0, .bool false]⟩) (rdT (rdA 4 b5 0) (.one (.agg [(.int .i64), .str, (.int .i64), .bool])) (fun (r16 : Int) (r17 : ByteArray) (r18 : Int) (r19 : Bool) => K (.tuple ⟨[.agg ⟨[.int .i64 r16, .string r17, .int .i64 r18, .bool r19]⟩, .int .i64 5]⟩)))) (letJ (T := Option Addr -> ByteArray -> Bool -> Option Addr -> Int -> Option Addr -> H -> Prop) (fun f_21 path_22 follow_23 x24 at_25 hops_26 =>
 callT Tryz.prog 170 [.pointer f_21, .int .i64 at_25, .string path_22, .bool follow_23, .pointer hops_26] (.tup [.agg [(.int .i64), .str, (.int .i64), .bool], .sc (.int .i64)]) (fun (x27 : Int) (x28 : ByteArray) (x29 : Int) (x30 : Bool) (x31 : Int) => stW Tryz.prog 142 (.pointer x24) (.agg ⟨[.int .i64 x27, .string x28, .int .i64 x29, .bool x30]⟩) (ptrW x24 (fun b32 o33 =>
 rdT (rdA 4 b32 o33) (.one (.agg [(.int .i64), .str, (.int .i64), .bool])) (fun (r34 : Int) (r35 : ByteArray) (r36 : Int) (r37 : Bool) => K (.tuple ⟨[.agg ⟨[.int .i64 r34, .string r35, .int .i64 r36, .bool r37]⟩, .int .i64 x31]⟩)))))) (fun j20 => idxW path_3 0 (fun c38 => brW (((c38.toNat : Int) : Int) != 47) (callT Tryz.prog 106 [.string cwd_2, .string (⟨⟨[47]⟩⟩ : ByteArray)] kB (fun x39 => brW (!x39)
 (stW Tryz.prog 142 (.pointer (some ⟨b5, 0, none⟩)) (.agg ⟨[.int .i64 0, .string (⟨⟨[]⟩⟩ : ByteArray), .int .i64 0, .bool false]⟩) (rdT (rdA 4 b5 0) (.one (.agg [(.int .i64), .str, (.int .i64), .bool])) (fun (r40 : Int) (r41 : ByteArray) (r42 : Int) (r43 : Bool) => K (.tuple ⟨[.agg ⟨[.int .i64 r40, .string r41, .int .i64 r42, .bool r43]⟩, .int .i64 5]⟩))))
 (callT Tryz.prog 170 [.pointer f_1, .int .i64 x14, .string cwd_2, .bool true, .pointer (some ⟨b15, 0, none⟩)] (.tup [.agg [(.int .i64), .str, (.int .i64), .bool], .sc (.int .i64)]) (fun (x44 : Int) (x45 : ByteArray) (x46 : Int) (x47 : Bool) (x48 : Int) => alW (.cells ⟨[.int .i64 0, .string (⟨⟨[]⟩⟩ : ByteArray), .int .i64 0, .bool false]⟩ 142 (0, 0)) (fun b49 =>
 stW Tryz.prog 142 (.pointer (some ⟨b49, 0, none⟩)) (.agg ⟨[.int .i64 x44, .string x45, .int .i64 x46, .bool x47]⟩) (brW ((x48 : Int) != 0) (stW Tryz.prog 142 (.pointer (some ⟨b5, 0, none⟩)) (.agg ⟨[.int .i64 0, .string (⟨⟨[]⟩⟩ : ByteArray), .int .i64 0, .bool false]⟩) (rdT (rdA 4 b5 0) (.one (.agg [(.int .i64), .str, (.int .i64), .bool])) (fun (r50 : Int) (r51 : ByteArray) (r52 : Int) (r53 : Bool) => K (.tuple ⟨[.agg ⟨[.int .i64 r50, .string r51, .int .i64 r52, .bool r53]⟩, .int .i64 x48]⟩))))
 (rdT (rdC b49 3) kB (fun x54 => brW (!x54) (stW Tryz.prog 142 (.pointer (some ⟨b5, 0, none⟩)) (.agg ⟨[.int .i64 0, .string (⟨⟨[]⟩⟩ : ByteArray), .int .i64 0, .bool false]⟩) (rdT (rdA 4 b5 0) (.one (.agg [(.int .i64), .str, (.int .i64), .bool])) (fun (r55 : Int) (r56 : ByteArray) (r57 : Int) (r58 : Bool) => K (.tuple ⟨[.agg ⟨[.int .i64 r55, .string r56, .int .i64 r57, .bool r58]⟩, .int .i64 5]⟩)))) (rdT (rdC b49 2) kI (fun (x59 : Int) =>
 callT Tryz.prog 110 [.pointer f_1, .int .i64 x59] kI (fun (x60 : Int) => brW ((x60 : Int) != 2) (stW Tryz.prog 142 (.pointer (some ⟨b5, 0, none⟩)) (.agg ⟨[.int .i64 0, .string (⟨⟨[]⟩⟩ : ByteArray), .int .i64 0, .bool false]⟩) (rdT (rdA 4 b5 0) (.one (.agg [(.int .i64), .str, (.int .i64), .bool])) (fun (r61 : Int) (r62 : ByteArray) (r63 : Int) (r64 : Bool) => K (.tuple ⟨[.agg ⟨[.int .i64 r61, .string r62, .int .i64 r63, .bool r64]⟩, .int .i64 8]⟩)))) (rdT (rdC b49 2) kI (fun (x65 : Int) =>
 stW Tryz.prog 3 (.pointer (some ⟨b15, 0, none⟩)) (.int .i64 8) (j20 f_1 path_3 follow_4 (some ⟨b5, 0, none⟩) x65 (some ⟨b15, 0, none⟩))))))))))))))) (j20 f_1 path_3 follow_4 (some ⟨b5, 0, none⟩) x14 (some ⟨b15, 0, none⟩)))))))))))))
theorem e98 (f_1 : Option Addr) (cwd_2 : ByteArray) (path_3 : ByteArray) (follow_4 : Bool) (K : KH) : bodyF Tryz.prog tau Tryz.f98 an98 [.pointer f_1, .string cwd_2, .string path_3, .bool follow_4] K = g98 f_1 cwd_2 path_3 follow_4 K := by kernel_rfl
theorem c98 (f_1 : Option Addr) (cwd_2 : ByteArray) (path_3 : ByteArray) (follow_4 : Bool) {K : KH} {σ : H} (h : g98 f_1 cwd_2 path_3 follow_4 K σ) : callW Tryz.prog 98 [.pointer f_1, .string cwd_2, .string path_3, .bool follow_4] K σ := call_of_body mixed Tryz.func98 (by rw [e98]; exact h)


def an99 : Ann := (.q (.q (.n (.q (.h)) (.q .z))))
def g99 (t_1 : Option Addr) (ino_2 : Int) (K : KH) : H -> Prop :=
 alW (.cells ⟨[.int .i64 0, .int .i64 0, .string (⟨⟨[]⟩⟩ : ByteArray), .int .i64 0]⟩ 35 (0, 0)) (fun b3 => callT Tryz.prog 138 [.pointer t_1, .int .i64 ino_2] kP (fun x4 => brW x4.isNone (stW Tryz.prog 35 (.pointer (some ⟨b3, 0, none⟩)) (.agg ⟨[.int .i64 0, .int .i64 0, .string (⟨⟨[]⟩⟩ : ByteArray), .int .i64 0]⟩) (rdT (rdA 4 b3 0) (.one (.agg [(.int .i64), (.int .i64), .str, (.int .i64)])) (fun (r5 : Int) (r6 : Int) (r7 : ByteArray) (r8 : Int) =>
 K (.tuple ⟨[.agg ⟨[.int .i64 r5, .int .i64 r6, .string r7, .int .i64 r8]⟩, .bool false]⟩)))) (ptrW x4 (fun b9 o10 => rdT (rdA 4 b9 o10) (.one (.agg [(.int .i64), (.int .i64), .str, (.int .i64)])) (fun (x11 : Int) (x12 : Int) (x13 : ByteArray) (x14 : Int) =>
 stW Tryz.prog 35 (.pointer (some ⟨b3, 0, none⟩)) (.agg ⟨[.int .i64 x11, .int .i64 x12, .string x13, .int .i64 x14]⟩) (rdT (rdA 4 b3 0) (.one (.agg [(.int .i64), (.int .i64), .str, (.int .i64)])) (fun (r15 : Int) (r16 : Int) (r17 : ByteArray) (r18 : Int) => K (.tuple ⟨[.agg ⟨[.int .i64 r15, .int .i64 r16, .string r17, .int .i64 r18]⟩, .bool true]⟩))))))))
theorem e99 (t_1 : Option Addr) (ino_2 : Int) (K : KH) : bodyF Tryz.prog tau Tryz.f99 an99 [.pointer t_1, .int .i64 ino_2] K = g99 t_1 ino_2 K := by kernel_rfl
theorem c99 (t_1 : Option Addr) (ino_2 : Int) {K : KH} {σ : H} (h : g99 t_1 ino_2 K σ) : callW Tryz.prog 99 [.pointer t_1, .int .i64 ino_2] K σ := call_of_body mixed Tryz.func99 (by rw [e99]; exact h)


def an100 : Ann := (.q (.q (.n (.n (.reg (rn 9) [[],[0],[],[],[2,3],[],(rn 6),(rn 7),(rn 8)]) (.q (.h))) (.n (.reg (rn 7) [[],[0],[0,1],[0,1,2],[],(rn 5),(rn 6)]) (.n (.reg (rn 19) [[],[0],[0,1],[0,1,2],(rn 4),[],[5],[],[7],[7,8],[7,8,9],[7,8,9,10],[7,8,9,10,11],[5,6,7,8,9,10,11,12],(rn 14),(rn 15),(rn 16),(rn 17),(rn 18)]) (.q (.q .z)))))))
def g100 (t_1 : Option Addr) (ino_2 : Int) (data_3 : ByteArray) (K : KH) : H -> Prop :=
 alW (.cells ⟨[.pointer t_1]⟩ 108 (0, 0)) (fun b4 => alW (.cells ⟨[.int .i64 ino_2]⟩ 3 (0, 0)) (fun b5 => alW (.cells ⟨[.string data_3]⟩ 9 (0, 0)) (fun b6 => rdT (rdC b4 0) kP (fun x7 => rdT (rdC b4 0) kP (fun x8 => rdT (rdC b5 0) kI (fun (x9 : Int) => callT Tryz.prog 172 [.pointer x8, .int .i64 x9] kR (fun x10 => andW (fun σ => (rdC b4 0) σ = some (.pointer x7)) (oneK x10
 (alW (.cells ⟨[.func (.func 163) ⟨[.pointer x7]⟩ ⟨[]⟩, x10, .func (.func 171) ⟨[]⟩ ⟨[.pointer (some ⟨b4, 0, none⟩), .pointer (some ⟨b6, 0, none⟩), .pointer (some ⟨b5, 0, none⟩)]⟩]⟩ 204 (0, 0)) (fun b11 => callT Tryz.prog 162 [.slice (some ⟨b11, 0, none⟩) 3 3] kI (fun (x12 : Int) => brW ((x12 : Int) != 0) (K (.int .i64 x12)) (rdT (rdC b4 0) kP (fun x13 => ptrW x13 (fun b14 o15 => rdT (rdC b14 (o15 + 4)) kM (fun (x16 : Option Nat) => rdT (rdC b5 0) kI (fun (x17 : Int) =>
 rdT (rdM (.int .i64) (.pointer none) false x16 (.int .i64 x17)) kP (fun x18 => rdT (rdC b4 0) kP (fun x19 => ptrW x19 (fun b20 o21 => rdT (rdC b20 (o21 + 3)) kI (fun (x22 : Int) => rdT (rdC b6 0) kS (fun (x23 : ByteArray) => ptrW x18 (fun b24 o25 => rdT (rdC b24 (o25 + 2)) kS (fun (x26 : ByteArray) => ptrW x19 (fun b27 o28 =>
 stW Tryz.prog 3 (.pointer (some ⟨b27, o28 + 3, none⟩)) (.int .i64 (IntKind.i64.wrap (x22 + (IntKind.i64.wrap (((x23.size : Nat) : Int) - ((x26.size : Nat) : Int)))))) (rdT (rdC b6 0) kS (fun (x29 : ByteArray) => ptrW x18 (fun b30 o31 => stW Tryz.prog 9 (.pointer (some ⟨b30, o31 + 2, none⟩)) (.string x29) (K (.int .i64 0)))))))))))))))))))))))))))))
theorem e100 (t_1 : Option Addr) (ino_2 : Int) (data_3 : ByteArray) (K : KH) : bodyF Tryz.prog tau Tryz.f100 an100 [.pointer t_1, .int .i64 ino_2, .string data_3] K = g100 t_1 ino_2 data_3 K := by kernel_rfl
theorem c100 (t_1 : Option Addr) (ino_2 : Int) (data_3 : ByteArray) {K : KH} {σ : H} (h : g100 t_1 ino_2 data_3 K σ) : callW Tryz.prog 100 [.pointer t_1, .int .i64 ino_2, .string data_3] K σ := call_of_body mixed Tryz.func100 (by rw [e100]; exact h)


def an101 : Ann := (.q (.n (.q (.h)) (.n (.reg (rn 14) [[],[0],[0,1],[0,1,2],[],[4],[],[6],(rn 8),(rn 9),(rn 10),(rn 10),(rn 11),(rn 13)]) (.q .z))))
def g101 (p_1 : Int) (p_2 : ByteArray) (p_3 : Int) (p_4 : Bool) (x5 : Option Addr) (K : KH) : H -> Prop :=
 alW (.cells ⟨[.int .i64 p_1, .string p_2, .int .i64 p_3, .bool p_4]⟩ 142 (0, 0)) (fun b6 => ptrW x5 (fun b7 o8 => rdT (rdC b7 o8) kP (fun x9 => rdT (rdC b6 0) kI (fun (x10 : Int) => callT Tryz.prog 102 [.pointer x9, .int .i64 x10] kI (fun (x11 : Int) => brW (decide ((x11 : Int) >= 12)) (K (.int .i64 3)) (ptrW x5 (fun b12 o13 => rdT (rdC b12 o13) kP (fun x14 => ptrW x14 (fun b15 o16 => rdT (rdC b15 o16) kP (fun x17 => rdT (rdC b6 0) kI (fun (x18 : Int) =>
 rdT (rdC b6 1) kS (fun (x19 : ByteArray) => callT Tryz.prog 96 [.pointer x17, .int .i64 x18, .string x19, .int .i64 2, .int .i64 493, .string (⟨⟨[]⟩⟩ : ByteArray)] (.tup [.sc (.int .i64), .sc (.int .i64)]) (fun (_x20 : Int) (x21 : Int) => K (.int .i64 x21))))))))))))))
theorem e101 (p_1 : Int) (p_2 : ByteArray) (p_3 : Int) (p_4 : Bool) (x5 : Option Addr) (K : KH) : bodyF Tryz.prog tau Tryz.f101 an101 [.agg ⟨[.int .i64 p_1, .string p_2, .int .i64 p_3, .bool p_4]⟩, .pointer x5] K = g101 p_1 p_2 p_3 p_4 x5 K := by kernel_rfl
theorem c101 (p_1 : Int) (p_2 : ByteArray) (p_3 : Int) (p_4 : Bool) (x5 : Option Addr) {K : KH} {σ : H} (h : g101 p_1 p_2 p_3 p_4 x5 K σ) : callW Tryz.prog 101 [.agg ⟨[.int .i64 p_1, .string p_2, .int .i64 p_3, .bool p_4]⟩, .pointer x5] K σ := call_of_body mixed Tryz.func101 (by rw [e101]; exact h)


def an102 : Ann := (.q (.q (.n (.blk (.loop [(0,.p),(1,.i),(5,.i)] (.n (.q (.cond .z .z)) (.n (.blk .r) .r)))) (.q .z))))
def g102 (f_1 : Option Addr) (dir_2 : Int) (K : KH) : H -> Prop :=
 loopW [.sc .ptr, .sc (.int .i64), .sc (.int .i64)] (fun (R3 : Option Addr -> Int -> Int -> H -> Prop) => (fun (f_4 : Option Addr) (dir_5 : Int) (n_6 : Int) => ptrW f_4 (fun b7 o8 => rdT (rdC b7 o8) kP (fun x9 => callT Tryz.prog 123 [.pointer x9] kI (fun (x10 : Int) => brW ((dir_5 : Int) != x10) (ptrW f_4 (fun b11 o12 => rdT (rdC b11 o12) kP (fun x13 => callT Tryz.prog 124 [.pointer x13, .int .i64 dir_5] kI (fun (x14 : Int) => R3 f_4 x14 (IntKind.i64.wrap (n_6 + 1))))))
 (K (.int .i64 n_6))))))) (fun (R15 : Option Addr -> Int -> Int -> H -> Prop) => R15 f_1 dir_2 1)
theorem e102 (f_1 : Option Addr) (dir_2 : Int) (K : KH) : bodyF Tryz.prog tau Tryz.f102 an102 [.pointer f_1, .int .i64 dir_2] K = g102 f_1 dir_2 K := by kernel_rfl
theorem c102 (f_1 : Option Addr) (dir_2 : Int) {K : KH} {σ : H} (h : g102 f_1 dir_2 K σ) : callW Tryz.prog 102 [.pointer f_1, .int .i64 dir_2] K σ := call_of_body mixed Tryz.func102 (by rw [e102]; exact h)


def an103 : Ann := (.q (.q .z))
def g103 (n_1 : ByteArray) (n_2 : Int) (n_3 : Bool) (n_4 : ByteArray) (n_5 : Sl) (K : KH) : H -> Prop :=
 alW (.cells ⟨[.string n_1, .int .i64 n_2, .bool n_3, .string n_4, .slice n_5.base n_5.len n_5.cap]⟩ 73 (0, 0)) (fun b6 => rdT (rdA 5 b6 0) (.one (.agg [.str, (.int .i64), .bool, .str, .slc])) (fun (x7 : ByteArray) (x8 : Int) (x9 : Bool) (x10 : ByteArray) (x11 : Sl) => callT Tryz.prog 173 [.agg ⟨[.string x7, .int .i64 x8, .bool x9, .string x10, .slice x11.base x11.len x11.cap]⟩] kI (fun (x12 : Int) => K (.bool (decide ((x12 : Int) > 12))))))
theorem e103 (n_1 : ByteArray) (n_2 : Int) (n_3 : Bool) (n_4 : ByteArray) (n_5 : Sl) (K : KH) : bodyF Tryz.prog tau Tryz.f103 an103 [.agg ⟨[.string n_1, .int .i64 n_2, .bool n_3, .string n_4, .slice n_5.base n_5.len n_5.cap]⟩] K = g103 n_1 n_2 n_3 n_4 n_5 K := by kernel_rfl
theorem c103 (n_1 : ByteArray) (n_2 : Int) (n_3 : Bool) (n_4 : ByteArray) (n_5 : Sl) {K : KH} {σ : H} (h : g103 n_1 n_2 n_3 n_4 n_5 K σ) : callW Tryz.prog 103 [.agg ⟨[.string n_1, .int .i64 n_2, .bool n_3, .string n_4, .slice n_5.base n_5.len n_5.cap]⟩] K σ := call_of_body mixed Tryz.func103 (by rw [e103]; exact h)


def an104 : Ann := (.q (.n (.q (.h)) (.n (.q (.blk (.loop [(1,.l),(2,.w),(15,.l),(16,.i),(17,.i)] (.q (.n (.cond .z .z) (.n (.blk (.q (.q (.q (.h))))) .r)))))) (.q .z))))
def g104 (s1_1 : Sl) (s2_2 : Sl) (eq_3 : Value) (K : KH) : H -> Prop :=
 brW ((((s1_1.len : Nat) : Int) : Int) != ((s2_2.len : Nat) : Int)) (K (.bool false)) (loopW [.sc .slc, .sc .raw, .sc .slc, .sc (.int .i64), .sc (.int .i64)] (fun (R4 : Sl -> Value -> Sl -> Int -> Int -> H -> Prop) => (fun (s2_5 : Sl) (eq_6 : Value) (x7 : Sl) (x8 : Int) (x9 : Int) => brW (decide ((x9 : Int) < x8)) (ptrW x7.base (fun b10 o11 => ifW (0 <= x9 /\ x9 < ((x7.len : Nat) : Int))
 (rdT (rdA 5 b10 (o11 + x9.toNat * 5)) (.one (.agg [.str, (.int .i64), .bool, .str, .slc])) (fun (x12 : ByteArray) (x13 : Int) (x14 : Bool) (x15 : ByteArray) (x16 : Sl) => alW (.cells ⟨[.string (⟨⟨[]⟩⟩ : ByteArray), .int .i64 0, .bool false, .string (⟨⟨[]⟩⟩ : ByteArray), .slice none 0 0]⟩ 73 (0, 0)) (fun b17 => stW Tryz.prog 73 (.pointer (some ⟨b17, 0, none⟩)) (.agg ⟨[.string x12, .int .i64 x13, .bool x14, .string x15, .slice x16.base x16.len x16.cap]⟩) (ptrW s2_5.base (fun b18 o19 =>
 ifW (0 <= x9 /\ x9 < ((s2_5.len : Nat) : Int)) (rdT (rdA 5 b18 (o19 + x9.toNat * 5)) (.one (.agg [.str, (.int .i64), .bool, .str, .slc])) (fun (x20 : ByteArray) (x21 : Int) (x22 : Bool) (x23 : ByteArray) (x24 : Sl) => alW (.cells ⟨[.string (⟨⟨[]⟩⟩ : ByteArray), .int .i64 0, .bool false, .string (⟨⟨[]⟩⟩ : ByteArray), .slice none 0 0]⟩ 73 (0, 0)) (fun b25 =>
 stW Tryz.prog 73 (.pointer (some ⟨b25, 0, none⟩)) (.agg ⟨[.string x20, .int .i64 x21, .bool x22, .string x23, .slice x24.base x24.len x24.cap]⟩) (rdT (rdA 5 b17 0) (.one (.agg [.str, (.int .i64), .bool, .str, .slc])) (fun (x26 : ByteArray) (x27 : Int) (x28 : Bool) (x29 : ByteArray) (x30 : Sl) => rdT (rdA 5 b25 0) (.one (.agg [.str, (.int .i64), .bool, .str, .slc])) (fun (x31 : ByteArray) (x32 : Int) (x33 : Bool) (x34 : ByteArray) (x35 : Sl) =>
 cvalT Tryz.prog eq_6 [.agg ⟨[.string x26, .int .i64 x27, .bool x28, .string x29, .slice x30.base x30.len x30.cap]⟩, .agg ⟨[.string x31, .int .i64 x32, .bool x33, .string x34, .slice x35.base x35.len x35.cap]⟩] kB (fun x36 => brW (!x36) (K (.bool false)) (R4 s2_5 eq_6 x7 x8 (IntKind.i64.wrap (x9 + 1))))))))))))))))) (K (.bool true)))) (fun (R37 : Sl -> Value -> Sl -> Int -> Int -> H -> Prop) => R37 s2_2 eq_3 s1_1 ((s1_1.len : Nat) : Int) 0))
theorem e104 (s1_1 : Sl) (s2_2 : Sl) (eq_3 : Value) (K : KH) : bodyF Tryz.prog tau Tryz.f104 an104 [.slice s1_1.base s1_1.len s1_1.cap, .slice s2_2.base s2_2.len s2_2.cap, eq_3] K = g104 s1_1 s2_2 eq_3 K := by kernel_rfl
theorem c104 (s1_1 : Sl) (s2_2 : Sl) (eq_3 : Value) {K : KH} {σ : H} (h : g104 s1_1 s2_2 eq_3 K σ) : callW Tryz.prog 104 [.slice s1_1.base s1_1.len s1_1.cap, .slice s2_2.base s2_2.len s2_2.cap, eq_3] K σ := call_of_body mixed Tryz.func104 (by rw [e104]; exact h)


def an106 : Ann := (.q (.q .z))
def g106 (s_1 : ByteArray) (prefix_2 : ByteArray) (K : KH) : H -> Prop :=
 callT Tryz.prog 176 [.string s_1, .string prefix_2] kB (fun x3 => K (.bool x3))
theorem e106 (s_1 : ByteArray) (prefix_2 : ByteArray) (K : KH) : bodyF Tryz.prog tau Tryz.f106 an106 [.string s_1, .string prefix_2] K = g106 s_1 prefix_2 K := by kernel_rfl
theorem c106 (s_1 : ByteArray) (prefix_2 : ByteArray) {K : KH} {σ : H} (h : g106 s_1 prefix_2 K σ) : callW Tryz.prog 106 [.string s_1, .string prefix_2] K σ := call_of_body mixed Tryz.func106 (by rw [e106]; exact h)


def an109 : Ann := (.q (.seq (some [(8,.p),(9,.p),(10,.i)]) (.q (.q (.cond .r .z))) (.n (.reg (rn 6) [[],[],[],[0],[0,1,3],(rn 5)]) .z)))
def g109 (f_1 : Option Addr) (cwd_2 : ByteArray) (from_3 : ByteArray) (to_4 : ByteArray) (K : KH) : H -> Prop :=
 alW (.cells ⟨[.int .i64 0, .string (⟨⟨[]⟩⟩ : ByteArray), .int .i64 0, .bool false]⟩ 142 (0, 0)) (fun b5 => alW (.cells ⟨[.int .i64 0, .string (⟨⟨[]⟩⟩ : ByteArray), .int .i64 0, .bool false]⟩ 142 (0, 0)) (fun b6 => letJ (T := Option Addr -> Option Addr -> Int -> H -> Prop) (fun p_8 q_9 e_10 => ptrW p_8 (fun b11 o12 => rdT (rdA 4 b11 o12) (.one (.agg [(.int .i64), .str, (.int .i64), .bool])) (fun (x13 : Int) (x14 : ByteArray) (x15 : Int) (x16 : Bool) => ptrW q_9 (fun b17 o18 =>
 rdT (rdA 4 b17 o18) (.one (.agg [(.int .i64), .str, (.int .i64), .bool])) (fun (x19 : Int) (x20 : ByteArray) (x21 : Int) (x22 : Bool) => stW Tryz.prog 142 (.pointer p_8) (.agg ⟨[.int .i64 x13, .string x14, .int .i64 x15, .bool x16]⟩) (andW (fun σ => (rdA 4 b17 o18) σ = some (.agg ⟨[.int .i64 x19, .string x20, .int .i64 x21, .bool x22]⟩)) (stW Tryz.prog 142 (.pointer q_9) (.agg ⟨[.int .i64 x19, .string x20, .int .i64 x21, .bool x22]⟩) (ptrW p_8 (fun b23 o24 =>
 rdT (rdA 4 b23 o24) (.one (.agg [(.int .i64), .str, (.int .i64), .bool])) (fun (r25 : Int) (r26 : ByteArray) (r27 : Int) (r28 : Bool) => ptrW q_9 (fun b29 o30 => rdT (rdA 4 b29 o30) (.one (.agg [(.int .i64), .str, (.int .i64), .bool])) (fun (r31 : Int) (r32 : ByteArray) (r33 : Int) (r34 : Bool) => K (.tuple ⟨[.agg ⟨[.int .i64 r25, .string r26, .int .i64 r27, .bool r28]⟩, .agg ⟨[.int .i64 r31, .string r32, .int .i64 r33, .bool r34]⟩, .int .i64 e_10]⟩))))))))))))) (fun j7 =>
 callT Tryz.prog 98 [.pointer f_1, .string cwd_2, .string from_3, .bool false] (.tup [.agg [(.int .i64), .str, (.int .i64), .bool], .sc (.int .i64)]) (fun (x35 : Int) (x36 : ByteArray) (x37 : Int) (x38 : Bool) (x39 : Int) => stW Tryz.prog 142 (.pointer (some ⟨b5, 0, none⟩)) (.agg ⟨[.int .i64 x35, .string x36, .int .i64 x37, .bool x38]⟩) (brW ((x39 : Int) == 0)
 (callT Tryz.prog 98 [.pointer f_1, .string cwd_2, .string to_4, .bool false] (.tup [.agg [(.int .i64), .str, (.int .i64), .bool], .sc (.int .i64)]) (fun (x40 : Int) (x41 : ByteArray) (x42 : Int) (x43 : Bool) (x44 : Int) => stW Tryz.prog 142 (.pointer (some ⟨b6, 0, none⟩)) (.agg ⟨[.int .i64 x40, .string x41, .int .i64 x42, .bool x43]⟩) (j7 (some ⟨b5, 0, none⟩) (some ⟨b6, 0, none⟩) x44))) (j7 (some ⟨b5, 0, none⟩) (some ⟨b6, 0, none⟩) x39))))))
theorem e109 (f_1 : Option Addr) (cwd_2 : ByteArray) (from_3 : ByteArray) (to_4 : ByteArray) (K : KH) : bodyF Tryz.prog tau Tryz.f109 an109 [.pointer f_1, .string cwd_2, .string from_3, .string to_4] K = g109 f_1 cwd_2 from_3 to_4 K := by kernel_rfl
theorem c109 (f_1 : Option Addr) (cwd_2 : ByteArray) (from_3 : ByteArray) (to_4 : ByteArray) {K : KH} {σ : H} (h : g109 f_1 cwd_2 from_3 to_4 K σ) : callW Tryz.prog 109 [.pointer f_1, .string cwd_2, .string from_3, .string to_4] K σ := call_of_body mixed Tryz.func109 (by rw [e109]; exact h)


def an110 : Ann := (.q (.q (.q .z)))
def g110 (f_1 : Option Addr) (ino_2 : Int) (K : KH) : H -> Prop :=
 ptrW f_1 (fun b3 o4 => rdT (rdC b3 o4) kP (fun x5 => callT Tryz.prog 99 [.pointer x5, .int .i64 ino_2] (.tup [.agg [(.int .i64), (.int .i64), .str, (.int .i64)], .sc .bool]) (fun (x6 : Int) (x7 : Int) (x8 : ByteArray) (x9 : Int) (_x10 : Bool) => alW (.cells ⟨[.int .i64 0, .int .i64 0, .string (⟨⟨[]⟩⟩ : ByteArray), .int .i64 0]⟩ 35 (0, 0)) (fun b11 =>
 stW Tryz.prog 35 (.pointer (some ⟨b11, 0, none⟩)) (.agg ⟨[.int .i64 x6, .int .i64 x7, .string x8, .int .i64 x9]⟩) (rdT (rdC b11 0) kI (fun (x12 : Int) => K (.int .i64 x12)))))))
theorem e110 (f_1 : Option Addr) (ino_2 : Int) (K : KH) : bodyF Tryz.prog tau Tryz.f110 an110 [.pointer f_1, .int .i64 ino_2] K = g110 f_1 ino_2 K := by kernel_rfl
theorem c110 (f_1 : Option Addr) (ino_2 : Int) {K : KH} {σ : H} (h : g110 f_1 ino_2 K σ) : callW Tryz.prog 110 [.pointer f_1, .int .i64 ino_2] K σ := call_of_body mixed Tryz.func110 (by rw [e110]; exact h)


def an111 : Ann := (.q (.n (.q (.q (.h))) (.q (.q (.q .z)))))
def g111 (t_1 : Option Addr) (dir_2 : Int) (name_3 : ByteArray) (ino_4 : Int) (K : KH) : H -> Prop :=
 callT Tryz.prog 164 [.pointer t_1, .int .i64 dir_2] kR (fun x5 => callT Tryz.prog 165 [.string name_3] kR (fun x6 => callT Tryz.prog 172 [.pointer t_1, .int .i64 ino_4] kR (fun x7 => callT Tryz.prog 166 [.pointer t_1, .int .i64 dir_2, .string name_3] kR (fun x8 => oneK x5 (oneK x6 (oneK x7 (oneK x8 (alW (.cells ⟨[.func (.func 163) ⟨[.pointer t_1]⟩ ⟨[]⟩, x5, x6, x7, x8]⟩ 204 (0, 0)) (fun b9 => callT Tryz.prog 162 [.slice (some ⟨b9, 0, none⟩) 5 5] kI (fun (x10 : Int) => brW ((x10 : Int) != 0)
 (K (.int .i64 x10)) (ptrW t_1 (fun b11 o12 => rdT (rdC b11 (o12 + 4)) kM (fun (x13 : Option Nat) => rdT (rdM (.int .i64) (.pointer none) false x13 (.int .i64 dir_2)) kP (fun x14 => ptrW x14 (fun b15 o16 => rdT (rdC b15 (o16 + 5)) kM (fun (x17 : Option Nat) => muW Tryz.prog 192 (.map x17) (.string name_3) (.int .i64 ino_4) (ptrW t_1 (fun b18 o19 => rdT (rdC b18 (o19 + 4)) kM (fun (x20 : Option Nat) => rdT (rdM (.int .i64) (.pointer none) false x20 (.int .i64 ino_4)) kP (fun x21 =>
 ptrW x21 (fun b22 o23 => rdT (rdC b22 (o23 + 3)) kI (fun (x24 : Int) => ptrW x21 (fun b25 o26 => stW Tryz.prog 3 (.pointer (some ⟨b25, o26 + 3, none⟩)) (.int .i64 (IntKind.i64.wrap (x24 + 1))) (K (.int .i64 0)))))))))))))))))))))))))
theorem e111 (t_1 : Option Addr) (dir_2 : Int) (name_3 : ByteArray) (ino_4 : Int) (K : KH) : bodyF Tryz.prog tau Tryz.f111 an111 [.pointer t_1, .int .i64 dir_2, .string name_3, .int .i64 ino_4] K = g111 t_1 dir_2 name_3 ino_4 K := by kernel_rfl
theorem c111 (t_1 : Option Addr) (dir_2 : Int) (name_3 : ByteArray) (ino_4 : Int) {K : KH} {σ : H} (h : g111 t_1 dir_2 name_3 ino_4 K σ) : callW Tryz.prog 111 [.pointer t_1, .int .i64 dir_2, .string name_3, .int .i64 ino_4] K σ := call_of_body mixed Tryz.func111 (by rw [e111]; exact h)


def an112 : Ann := (.q (.q (.n (.n (.reg [0,1,2,3,5,6,7,4,8,9,10,11,12] [[],[0],[],[],[2,3],[],[],[],[2,3,4,5,6,7],[],(rn 10),(rn 11),(rn 12)]) (.q (.h))) (.q (.n (.reg (rn 11) [[],[0],[0,1],[0,1,2],[],(rn 5),(rn 6),(rn 7),(rn 8),[],(rn 10)]) (.q (.seq (some []) (.q (.q (.cond (.q (.q (.reg (rn 16) [[],[0],[0,1],[0,1,2],(rn 4),[],[5],[5,6],[5,6,7],[5,6,7,8],[5,6,7,8,9],(rn 11),(rn 12),(rn 13),(rn 14),(rn 15)]))) .z))) (.q .z))))))))
def g112 (t_1 : Option Addr) (dir_2 : Int) (name_3 : ByteArray) (K : KH) : H -> Prop :=
 alW (.cells ⟨[.pointer t_1]⟩ 108 (0, 0)) (fun b4 => alW (.cells ⟨[.int .i64 dir_2]⟩ 3 (0, 0)) (fun b5 => alW (.cells ⟨[.string name_3]⟩ 9 (0, 0)) (fun b6 => rdT (rdC b4 0) kP (fun x7 => rdT (rdC b4 0) kP (fun x8 => rdT (rdC b5 0) kI (fun (x9 : Int) => rdT (rdC b4 0) kP (fun x10 => rdT (rdC b5 0) kI (fun (x11 : Int) => rdT (rdC b6 0) kS (fun (x12 : ByteArray) => callT Tryz.prog 164 [.pointer x8, .int .i64 x9] kR (fun x13 => andW (fun σ => (rdC b6 0) σ = some (.string x12))
 (andW (fun σ => (rdC b5 0) σ = some (.int .i64 x11)) (andW (fun σ => (rdC b4 0) σ = some (.pointer x10)) (andW (fun σ => (rdC b4 0) σ = some (.pointer x7)) (callT Tryz.prog 178 [.pointer x10, .int .i64 x11, .string x12] kR (fun x14 => andW (fun σ => (rdC b4 0) σ = some (.pointer x7)) (oneK x13 (oneK x14
 (alW (.cells ⟨[.func (.func 163) ⟨[.pointer x7]⟩ ⟨[]⟩, x13, x14, .func (.func 177) ⟨[]⟩ ⟨[.pointer (some ⟨b4, 0, none⟩), .pointer (some ⟨b5, 0, none⟩), .pointer (some ⟨b6, 0, none⟩)]⟩]⟩ 204 (0, 0)) (fun b15 => callT Tryz.prog 162 [.slice (some ⟨b15, 0, none⟩) 4 4] kI (fun (x16 : Int) => brW ((x16 : Int) != 0) (K (.int .i64 x16)) (rdT (rdC b4 0) kP (fun x17 => rdT (rdC b5 0) kI (fun (x18 : Int) => rdT (rdC b6 0) kS (fun (x19 : ByteArray) =>
 callT Tryz.prog 125 [.pointer x17, .int .i64 x18, .string x19] (.tup [.sc (.int .i64), .sc .bool]) (fun (x20 : Int) (_x21 : Bool) => rdT (rdC b4 0) kP (fun x22 => ptrW x22 (fun b23 o24 => rdT (rdC b23 (o24 + 4)) kM (fun (x25 : Option Nat) => rdT (rdC b5 0) kI (fun (x26 : Int) => rdT (rdM (.int .i64) (.pointer none) false x25 (.int .i64 x26)) kP (fun x27 => ptrW x27 (fun b28 o29 => rdT (rdC b28 (o29 + 5)) kM (fun (x30 : Option Nat) => rdT (rdC b6 0) kS (fun (x31 : ByteArray) =>
 biW Tryz.prog .delete #[192, 9] 0 [false, false] [.map x30, .string x31] kU (rdT (rdC b4 0) kP (fun x32 => ptrW x32 (fun b33 o34 => rdT (rdC b33 (o34 + 4)) kM (fun (x35 : Option Nat) => rdT (rdM (.int .i64) (.pointer none) false x35 (.int .i64 x20)) kP (fun x36 => letJ (T := H -> Prop) (K (.int .i64 0)) (fun j37 => ptrW x36 (fun b38 o39 => rdT (rdC b38 (o39 + 3)) kI (fun (x40 : Int) => ptrW x36 (fun b41 o42 =>
 stW Tryz.prog 3 (.pointer (some ⟨b41, o42 + 3, none⟩)) (.int .i64 (IntKind.i64.wrap (x40 - 1))) (ptrW x36 (fun b43 o44 => rdT (rdC b43 (o44 + 3)) kI (fun (x45 : Int) => brW ((x45 : Int) == 0) (rdT (rdC b4 0) kP (fun x46 => ptrW x46 (fun b47 o48 => rdT (rdC b47 (o48 + 4)) kM (fun (x49 : Option Nat) => biW Tryz.prog .delete #[198, 3] 0 [false, false] [.map x49, .int .i64 x20] kU (rdT (rdC b4 0) kP (fun x50 => ptrW x50 (fun b51 o52 => rdT (rdC b51 (o52 + 2)) kI (fun (x53 : Int) =>
 ptrW x50 (fun b54 o55 => stW Tryz.prog 3 (.pointer (some ⟨b54, o55 + 2, none⟩)) (.int .i64 (IntKind.i64.wrap (x53 - 1))) (rdT (rdC b4 0) kP (fun x56 => ptrW x56 (fun b57 o58 => rdT (rdC b57 (o58 + 3)) kI (fun (x59 : Int) => ptrW x36 (fun b60 o61 => rdT (rdC b60 (o61 + 2)) kS (fun (x62 : ByteArray) => ptrW x56 (fun b63 o64 => stW Tryz.prog 3 (.pointer (some ⟨b63, o64 + 3, none⟩)) (.int .i64 (IntKind.i64.wrap (x59 - ((x62.size : Nat) : Int)))) (j37)))))))))))))))))
 (j37))))))))))))))))))))))))))))))))))))))))))))))
theorem e112 (t_1 : Option Addr) (dir_2 : Int) (name_3 : ByteArray) (K : KH) : bodyF Tryz.prog tau Tryz.f112 an112 [.pointer t_1, .int .i64 dir_2, .string name_3] K = g112 t_1 dir_2 name_3 K := by kernel_rfl
theorem c112 (t_1 : Option Addr) (dir_2 : Int) (name_3 : ByteArray) {K : KH} {σ : H} (h : g112 t_1 dir_2 name_3 K σ) : callW Tryz.prog 112 [.pointer t_1, .int .i64 dir_2, .string name_3] K σ := call_of_body mixed Tryz.func112 (by rw [e112]; exact h)


def an113 : Ann := (.q (.n (.reg [0,1,2,5,6,7,3,4,8,9,10,11] [[],[],[1],[0,1,2],(rn 4),[],[],[6],[0,1,2,3,5,6,7],[0,1,2,3,5,6,7,8],(rn 9),(rn 11)]) (.seq (some [(0,.p),(4,.p),(5,.p),(7,.b)]) (.blk (.q (.cond .z (.seq (some [(0,.p),(4,.p),(5,.p),(7,.b),(8,.b),(23,.b)]) .r (.cond (.q .z) (.seq (some [(0,.p),(4,.p),(5,.p),(7,.b),(29,.b)]) .r (.cond (.q .z) (.n (.reg (rn 10) [[],[0],[0,1],[0,1,2],[],[4],(rn 6),(rn 7),(rn 8),(rn 9)]) (.h))))))))) (.n (.seq (some [(0,.p),(4,.p),(5,.p),(53,.b)]) .r (.h)) (.n (.n (.reg [0,1,2,4,5,6,3,7,8,9] [[],[],[1],[0,1,2],[],[],[5],(rn 7),(rn 8),(rn 9)]) (.h)) (.q .z))))))
def g113 (f_1 : Option Addr) (p_2 : Int) (p_3 : ByteArray) (p_4 : Int) (p_5 : Bool) (q_6 : Int) (q_7 : ByteArray) (q_8 : Int) (q_9 : Bool) (K : KH) : H -> Prop :=
 alW (.cells ⟨[.int .i64 p_2, .string p_3, .int .i64 p_4, .bool p_5]⟩ 142 (0, 0)) (fun b10 => alW (.cells ⟨[.int .i64 q_6, .string q_7, .int .i64 q_8, .bool q_9]⟩ 142 (0, 0)) (fun b11 => rdT (rdC b10 2) kI (fun (x12 : Int) => rdT (rdC b11 2) kI (fun (x13 : Int) => callT Tryz.prog 110 [.pointer f_1, .int .i64 x12] kI (fun (x14 : Int) => andW (fun σ => (rdC b11 2) σ = some (.int .i64 x13)) (callT Tryz.prog 110 [.pointer f_1, .int .i64 x13] kI (fun (x15 : Int) =>
 letJ (T := Option Addr -> Option Addr -> Option Addr -> Bool -> H -> Prop) (fun f_17 p_18 q_19 is_20 => letJ (T := Option Addr -> Option Addr -> Option Addr -> Bool -> H -> Prop) (fun f_22 p_23 q_24 x25 => brW x25 (K (.int .i64 2)) (ptrW q_24 (fun b26 o27 => rdT (rdC b26 o27) kI (fun (x28 : Int) => ptrW p_23 (fun b29 o30 => rdT (rdC b29 (o30 + 2)) kI (fun (x31 : Int) => callT Tryz.prog 102 [.pointer f_22, .int .i64 x28] kI (fun (x32 : Int) => andW (fun σ => (rdC b29 (o30 + 2)) σ = some (.int .i64 x31))
 (callT Tryz.prog 180 [.pointer f_22, .int .i64 x31] kI (fun (x33 : Int) => brW (decide (((IntKind.i64.wrap (x32 + x33)) : Int) > 12)) (K (.int .i64 3)) (K (.int .i64 0))))))))))) (fun j21 => brW is_20 (ptrW q_19 (fun b34 o35 => rdT (rdC b34 o35) kI (fun (x36 : Int) => ptrW p_18 (fun b37 o38 => rdT (rdC b37 (o38 + 2)) kI (fun (x39 : Int) => callT Tryz.prog 179 [.pointer f_17, .int .i64 x36, .int .i64 x39] kB (fun x40 => j21 f_17 p_18 q_19 x40)))))) (j21 f_17 p_18 q_19 false))) (fun j16 =>
 rdT (rdC b11 3) kB (fun x41 => brW (!x41) (j16 f_1 (some ⟨b10, 0, none⟩) (some ⟨b11, 0, none⟩) ((x14 : Int) == 2)) (letJ (T := Option Addr -> Option Addr -> Option Addr -> Bool -> Bool -> Bool -> H -> Prop) (fun f_43 p_44 q_45 is_46 other_47 x48 => brW x48 (K (.int .i64 7)) (letJ (T := Option Addr -> Option Addr -> Option Addr -> Bool -> Bool -> H -> Prop) (fun f_50 p_51 q_52 is_53 x54 => brW x54 (K (.int .i64 8)) (ptrW f_50 (fun b55 o56 => rdT (rdC b55 o56) kP (fun x57 => ptrW q_52 (fun b58 o59 =>
 rdT (rdC b58 (o59 + 2)) kI (fun (x60 : Int) => callT Tryz.prog 73 [.pointer x57, .int .i64 x60] kL (fun x61 => brW (decide ((((x61.len : Nat) : Int) : Int) > 0)) (K (.int .i64 20)) (j16 f_50 p_51 q_52 is_53)))))))) (fun j49 => brW is_46 (j49 f_43 p_44 q_45 is_46 (!other_47)) (j49 f_43 p_44 q_45 is_46 false)))) (fun j42 => brW ((x15 : Int) == 2) (j42 f_1 (some ⟨b10, 0, none⟩) (some ⟨b11, 0, none⟩) ((x14 : Int) == 2) ((x15 : Int) == 2) (!((x14 : Int) == 2)))
 (j42 f_1 (some ⟨b10, 0, none⟩) (some ⟨b11, 0, none⟩) ((x14 : Int) == 2) ((x15 : Int) == 2) false))))))))))))
theorem e113 (f_1 : Option Addr) (p_2 : Int) (p_3 : ByteArray) (p_4 : Int) (p_5 : Bool) (q_6 : Int) (q_7 : ByteArray) (q_8 : Int) (q_9 : Bool) (K : KH) : bodyF Tryz.prog tau Tryz.f113 an113 [.pointer f_1, .agg ⟨[.int .i64 p_2, .string p_3, .int .i64 p_4, .bool p_5]⟩, .agg ⟨[.int .i64 q_6, .string q_7, .int .i64 q_8, .bool q_9]⟩] K = g113 f_1 p_2 p_3 p_4 p_5 q_6 q_7 q_8 q_9 K := by kernel_rfl
theorem c113 (f_1 : Option Addr) (p_2 : Int) (p_3 : ByteArray) (p_4 : Int) (p_5 : Bool) (q_6 : Int) (q_7 : ByteArray) (q_8 : Int) (q_9 : Bool) {K : KH} {σ : H} (h : g113 f_1 p_2 p_3 p_4 p_5 q_6 q_7 q_8 q_9 K σ) : callW Tryz.prog 113 [.pointer f_1, .agg ⟨[.int .i64 p_2, .string p_3, .int .i64 p_4, .bool p_5]⟩, .agg ⟨[.int .i64 q_6, .string q_7, .int .i64 q_8, .bool q_9]⟩] K σ := call_of_body mixed Tryz.func113 (by rw [e113]; exact h)


def an114 : Ann := (.q (.n (.reg [0,1,2,3,5,6,8,10,4,7,9,11,12,13,14,15,16] [[],[0],[],[],[2,3],[],[],[2,3,4,5,6],[],[2,3,4,5,6,7,8],[],[],[],[2,3,4,5,6,7,8,9,10,11,12],(rn 14),(rn 15),(rn 16)]) (.n (.seq (some [(1,.i),(2,.s),(4,.s),(5,.p),(8,.p),(11,.i),(44,.b)]) .r (.h)) (.q (.q (.n (.q (.q (.h))) (.q (.n (.reg (rn 12) [[],[0],[0,1],[0,1,2],[],(rn 5),(rn 6),(rn 7),(rn 8),[],[],(rn 11)]) (.seq (some []) (.n (.reg (rn 7) [[],[0],[0,1],[0,1,2],[],(rn 5),(rn 6)]) (.q (.cond .r .z))) (.q .z))))))))))
def g114 (t_1 : Option Addr) (from_2 : Int) (name_3 : ByteArray) (to_4 : Int) (as_5 : ByteArray) (K : KH) : H -> Prop :=
 alW (.cells ⟨[.pointer t_1]⟩ 108 (0, 0)) (fun b6 => alW (.cells ⟨[.int .i64 to_4]⟩ 3 (0, 0)) (fun b7 => rdT (rdC b6 0) kP (fun x8 => rdT (rdC b6 0) kP (fun x9 => rdT (rdC b6 0) kP (fun x10 => rdT (rdC b7 0) kI (fun (x11 : Int) => rdT (rdC b6 0) kP (fun x12 => callT Tryz.prog 164 [.pointer x9, .int .i64 from_2] kR (fun x13 => andW (fun σ => (rdC b6 0) σ = some (.pointer x12)) (andW (fun σ => (rdC b7 0) σ = some (.int .i64 x11)) (andW (fun σ => (rdC b6 0) σ = some (.pointer x10))
 (andW (fun σ => (rdC b6 0) σ = some (.pointer x8)) (callT Tryz.prog 164 [.pointer x10, .int .i64 x11] kR (fun x14 => andW (fun σ => (rdC b6 0) σ = some (.pointer x12)) (andW (fun σ => (rdC b6 0) σ = some (.pointer x8)) (callT Tryz.prog 165 [.string as_5] kR (fun x15 => andW (fun σ => (rdC b6 0) σ = some (.pointer x12)) (andW (fun σ => (rdC b6 0) σ = some (.pointer x8)) (callT Tryz.prog 178 [.pointer x12, .int .i64 from_2, .string name_3] kR (fun x16 =>
 andW (fun σ => (rdC b6 0) σ = some (.pointer x8)) (oneK x13 (oneK x14 (oneK x15 (oneK x16 (alW (.cells ⟨[.func (.func 163) ⟨[.pointer x8]⟩ ⟨[]⟩, x13, x14, x15, x16]⟩ 204 (0, 0)) (fun b17 => callT Tryz.prog 162 [.slice (some ⟨b17, 0, none⟩) 5 5] kI (fun (x18 : Int) => letJ (T := Int -> ByteArray -> ByteArray -> Option Addr -> Option Addr -> Int -> Bool -> H -> Prop) (fun from_20 name_21 as_22 t_23 to_24 e_25 x26 => brW x26 (K (.int .i64 e_25)) (ptrW t_23 (fun b27 o28 => rdT (rdC b27 o28) kP (fun x29 =>
 callT Tryz.prog 125 [.pointer x29, .int .i64 from_20, .string name_21] (.tup [.sc (.int .i64), .sc .bool]) (fun (x30 : Int) (_x31 : Bool) => alW (.cells ⟨[.int .i64 0]⟩ 3 (0, 0)) (fun b32 => stW Tryz.prog 3 (.pointer (some ⟨b32, 0, none⟩)) (.int .i64 x30) (ptrW t_23 (fun b33 o34 => rdT (rdC b33 o34) kP (fun x35 => ptrW to_24 (fun b36 o37 => rdT (rdC b36 o37) kI (fun (x38 : Int) => callT Tryz.prog 166 [.pointer x35, .int .i64 x38, .string as_22] kR (fun x39 => oneK x39
 (alW (.cells ⟨[x39, .func (.func 181) ⟨[]⟩ ⟨[.pointer to_24, .pointer t_23, .pointer (some ⟨b32, 0, none⟩)]⟩]⟩ 204 (0, 0)) (fun b40 => callT Tryz.prog 162 [.slice (some ⟨b40, 0, none⟩) 2 2] kI (fun (x41 : Int) => brW ((x41 : Int) != 0) (K (.int .i64 x41)) (ptrW t_23 (fun b42 o43 => rdT (rdC b42 o43) kP (fun x44 => ptrW x44 (fun b45 o46 => rdT (rdC b45 (o46 + 4)) kM (fun (x47 : Option Nat) => rdT (rdM (.int .i64) (.pointer none) false x47 (.int .i64 from_20)) kP (fun x48 =>
 ptrW x48 (fun b49 o50 => rdT (rdC b49 (o50 + 5)) kM (fun (x51 : Option Nat) => biW Tryz.prog .delete #[192, 9] 0 [false, false] [.map x51, .string name_21] kU (ptrW t_23 (fun b52 o53 => rdT (rdC b52 o53) kP (fun x54 => ptrW x54 (fun b55 o56 => rdT (rdC b55 (o56 + 4)) kM (fun (x57 : Option Nat) => ptrW to_24 (fun b58 o59 => rdT (rdC b58 o59) kI (fun (x60 : Int) => rdT (rdM (.int .i64) (.pointer none) false x57 (.int .i64 x60)) kP (fun x61 => ptrW x61 (fun b62 o63 =>
 rdT (rdC b62 (o63 + 5)) kM (fun (x64 : Option Nat) => rdT (rdC b32 0) kI (fun (x65 : Int) => muW Tryz.prog 192 (.map x64) (.string as_22) (.int .i64 x65) (letJ (T := H -> Prop) (K (.int .i64 0)) (fun j66 => ptrW t_23 (fun b67 o68 => rdT (rdC b67 o68) kP (fun x69 => ptrW x69 (fun b70 o71 => rdT (rdC b70 (o71 + 4)) kM (fun (x72 : Option Nat) => rdT (rdC b32 0) kI (fun (x73 : Int) => rdT (rdM (.int .i64) (.pointer none) false x72 (.int .i64 x73)) kP (fun x74 => ptrW x74 (fun b75 o76 =>
 rdT (rdC b75 o76) kI (fun (x77 : Int) => brW ((x77 : Int) == 2) (ptrW to_24 (fun b78 o79 => rdT (rdC b78 o79) kI (fun (x80 : Int) => ptrW x74 (fun b81 o82 => stW Tryz.prog 3 (.pointer (some ⟨b81, o82 + 4, none⟩)) (.int .i64 x80) (j66))))) (j66))))))))))))))))))))))))))))))))))))))))))))) (fun j19 => brW ((x18 : Int) != 0) (j19 from_2 name_3 as_5 (some ⟨b6, 0, none⟩) (some ⟨b7, 0, none⟩) x18 true) (rdT (rdC b7 0) kI (fun (x83 : Int) => brW ((from_2 : Int) == x83)
 (j19 from_2 name_3 as_5 (some ⟨b6, 0, none⟩) (some ⟨b7, 0, none⟩) x18 (strEq name_3 as_5)) (j19 from_2 name_3 as_5 (some ⟨b6, 0, none⟩) (some ⟨b7, 0, none⟩) x18 false))))))))))))))))))))))))))))))
theorem e114 (t_1 : Option Addr) (from_2 : Int) (name_3 : ByteArray) (to_4 : Int) (as_5 : ByteArray) (K : KH) : bodyF Tryz.prog tau Tryz.f114 an114 [.pointer t_1, .int .i64 from_2, .string name_3, .int .i64 to_4, .string as_5] K = g114 t_1 from_2 name_3 to_4 as_5 K := by kernel_rfl
theorem c114 (t_1 : Option Addr) (from_2 : Int) (name_3 : ByteArray) (to_4 : Int) (as_5 : ByteArray) {K : KH} {σ : H} (h : g114 t_1 from_2 name_3 to_4 as_5 K σ) : callW Tryz.prog 114 [.pointer t_1, .int .i64 from_2, .string name_3, .int .i64 to_4, .string as_5] K σ := call_of_body mixed Tryz.func114 (by rw [e114]; exact h)


def an115 : Ann := (.q (.n (.reg (rn 8) [[],[0],[0,1],[0,1,2],[],[],(rn 6),(rn 7)]) .z))
def g115 (ino_1 : Int) (__2 : Int) (__3 : Int) (__4 : ByteArray) (__5 : Int) (x6 : Option Addr) (x7 : Option Addr) (K : KH) : H -> Prop :=
 alW (.cells ⟨[.int .i64 __2, .int .i64 __3, .string __4, .int .i64 __5]⟩ 35 (0, 0)) (fun _b8 => ptrW x6 (fun b9 o10 => rdT (rdC b9 o10) kP (fun x11 => ptrW x11 (fun b12 o13 => rdT (rdC b12 o13) kP (fun x14 => ptrW x7 (fun b15 o16 => rdT (rdC b15 o16) kI (fun (x17 : Int) => callT Tryz.prog 116 [.pointer x14, .int .i64 ino_1, .int .i64 x17] kI (fun (x18 : Int) => K (.int .i64 x18)))))))))
theorem e115 (ino_1 : Int) (__2 : Int) (__3 : Int) (__4 : ByteArray) (__5 : Int) (x6 : Option Addr) (x7 : Option Addr) (K : KH) : bodyF Tryz.prog tau Tryz.f115 an115 [.int .i64 ino_1, .agg ⟨[.int .i64 __2, .int .i64 __3, .string __4, .int .i64 __5]⟩, .pointer x6, .pointer x7] K = g115 ino_1 __2 __3 __4 __5 x6 x7 K := by kernel_rfl
theorem c115 (ino_1 : Int) (__2 : Int) (__3 : Int) (__4 : ByteArray) (__5 : Int) (x6 : Option Addr) (x7 : Option Addr) {K : KH} {σ : H} (h : g115 ino_1 __2 __3 __4 __5 x6 x7 K σ) : callW Tryz.prog 115 [.int .i64 ino_1, .agg ⟨[.int .i64 __2, .int .i64 __3, .string __4, .int .i64 __5]⟩, .pointer x6, .pointer x7] K σ := call_of_body mixed Tryz.func115 (by rw [e115]; exact h)


def an116 : Ann := (.q (.q (.q (.n (.q (.q (.h))) (.n (.reg (rn 11) [[],[0],[0,1],[0,1,2],[],(rn 5),[],(rn 7),(rn 8),(rn 9),(rn 10)]) (.q .z))))))
def g116 (t_1 : Option Addr) (ino_2 : Int) (mode_3 : Int) (K : KH) : H -> Prop :=
 alW (.cells ⟨[.pointer t_1]⟩ 108 (0, 0)) (fun b4 => alW (.cells ⟨[.int .i64 ino_2]⟩ 3 (0, 0)) (fun b5 => alW (.cells ⟨[.int .i64 mode_3]⟩ 3 (0, 0)) (fun b6 => rdT (rdC b4 0) kP (fun x7 => alW (.cells ⟨[.func (.func 163) ⟨[.pointer x7]⟩ ⟨[]⟩, .func (.func 182) ⟨[]⟩ ⟨[.pointer (some ⟨b6, 0, none⟩)]⟩, .func (.func 183) ⟨[]⟩ ⟨[.pointer (some ⟨b4, 0, none⟩), .pointer (some ⟨b5, 0, none⟩)]⟩]⟩ 204 (0, 0)) (fun b8 => callT Tryz.prog 162 [.slice (some ⟨b8, 0, none⟩) 3 3] kI (fun (x9 : Int) =>
 brW ((x9 : Int) != 0) (K (.int .i64 x9)) (rdT (rdC b4 0) kP (fun x10 => ptrW x10 (fun b11 o12 => rdT (rdC b11 (o12 + 4)) kM (fun (x13 : Option Nat) => rdT (rdC b5 0) kI (fun (x14 : Int) => rdT (rdM (.int .i64) (.pointer none) false x13 (.int .i64 x14)) kP (fun x15 => rdT (rdC b6 0) kI (fun (x16 : Int) => ptrW x15 (fun b17 o18 => stW Tryz.prog 3 (.pointer (some ⟨b17, o18 + 1, none⟩)) (.int .i64 x16) (K (.int .i64 0))))))))))))))))
theorem e116 (t_1 : Option Addr) (ino_2 : Int) (mode_3 : Int) (K : KH) : bodyF Tryz.prog tau Tryz.f116 an116 [.pointer t_1, .int .i64 ino_2, .int .i64 mode_3] K = g116 t_1 ino_2 mode_3 K := by kernel_rfl
theorem c116 (t_1 : Option Addr) (ino_2 : Int) (mode_3 : Int) {K : KH} {σ : H} (h : g116 t_1 ino_2 mode_3 K σ) : callW Tryz.prog 116 [.pointer t_1, .int .i64 ino_2, .int .i64 mode_3] K σ := call_of_body mixed Tryz.func116 (by rw [e116]; exact h)


def an118 : Ann := (.q (.n (.q (.h)) (.q .z)))
def g118 (n_1 : ByteArray) (n_2 : Int) (n_3 : Bool) (n_4 : ByteArray) (n_5 : Sl) (K : KH) : H -> Prop :=
 alW (.cells ⟨[.string n_1, .int .i64 n_2, .bool n_3, .string n_4, .slice n_5.base n_5.len n_5.cap]⟩ 73 (0, 0)) (fun b6 => rdT (rdA 5 b6 0) (.one (.agg [.str, (.int .i64), .bool, .str, .slc])) (fun (x7 : ByteArray) (x8 : Int) (x9 : Bool) (x10 : ByteArray) (x11 : Sl) => callT Tryz.prog 103 [.agg ⟨[.string x7, .int .i64 x8, .bool x9, .string x10, .slice x11.base x11.len x11.cap]⟩] kB (fun x12 => brW x12 (K (.tuple ⟨[.int .i64 0, .int .i64 0]⟩))
 (rdT (rdA 5 b6 0) (.one (.agg [.str, (.int .i64), .bool, .str, .slc])) (fun (x13 : ByteArray) (x14 : Int) (x15 : Bool) (x16 : ByteArray) (x17 : Sl) => callT Tryz.prog 184 [.agg ⟨[.string x13, .int .i64 x14, .bool x15, .string x16, .slice x17.base x17.len x17.cap]⟩] (.tup [.sc (.int .i64), .sc (.int .i64)]) (fun (x18 : Int) (x19 : Int) => K (.tuple ⟨[.int .i64 x18, .int .i64 x19]⟩)))))))
theorem e118 (n_1 : ByteArray) (n_2 : Int) (n_3 : Bool) (n_4 : ByteArray) (n_5 : Sl) (K : KH) : bodyF Tryz.prog tau Tryz.f118 an118 [.agg ⟨[.string n_1, .int .i64 n_2, .bool n_3, .string n_4, .slice n_5.base n_5.len n_5.cap]⟩] K = g118 n_1 n_2 n_3 n_4 n_5 K := by kernel_rfl
theorem c118 (n_1 : ByteArray) (n_2 : Int) (n_3 : Bool) (n_4 : ByteArray) (n_5 : Sl) {K : KH} {σ : H} (h : g118 n_1 n_2 n_3 n_4 n_5 K σ) : callW Tryz.prog 118 [.agg ⟨[.string n_1, .int .i64 n_2, .bool n_3, .string n_4, .slice n_5.base n_5.len n_5.cap]⟩] K σ := call_of_body mixed Tryz.func118 (by rw [e118]; exact h)


def an123 : Ann := (.q (.n (.q (.h)) (.q .z)))
def g123 (t_1 : Option Addr) (K : KH) : H -> Prop :=
 brW t_1.isNone (K (.int .i64 0)) (K (.int .i64 1))
theorem e123 (t_1 : Option Addr) (K : KH) : bodyF Tryz.prog tau Tryz.f123 an123 [.pointer t_1] K = g123 t_1 K := by kernel_rfl
theorem c123 (t_1 : Option Addr) {K : KH} {σ : H} (h : g123 t_1 K σ) : callW Tryz.prog 123 [.pointer t_1] K σ := call_of_body mixed Tryz.func123 (by rw [e123]; exact h)


def an124 : Ann := (.q (.q (.n (.q (.h)) (.q .z))))
def g124 (t_1 : Option Addr) (dir_2 : Int) (K : KH) : H -> Prop :=
 callT Tryz.prog 138 [.pointer t_1, .int .i64 dir_2] kP (fun x3 => brW x3.isNone (K (.int .i64 0)) (ptrW x3 (fun b4 o5 => rdT (rdC b4 (o5 + 4)) kI (fun (x6 : Int) => K (.int .i64 x6)))))
theorem e124 (t_1 : Option Addr) (dir_2 : Int) (K : KH) : bodyF Tryz.prog tau Tryz.f124 an124 [.pointer t_1, .int .i64 dir_2] K = g124 t_1 dir_2 K := by kernel_rfl
theorem c124 (t_1 : Option Addr) (dir_2 : Int) {K : KH} {σ : H} (h : g124 t_1 dir_2 K σ) : callW Tryz.prog 124 [.pointer t_1, .int .i64 dir_2] K σ := call_of_body mixed Tryz.func124 (by rw [e124]; exact h)


def an125 : Ann := (.q (.q (.n (.q (.h)) (.q (.q .z)))))
def g125 (t_1 : Option Addr) (dir_2 : Int) (name_3 : ByteArray) (K : KH) : H -> Prop :=
 callT Tryz.prog 138 [.pointer t_1, .int .i64 dir_2] kP (fun x4 => brW x4.isNone (K (.tuple ⟨[.int .i64 0, .bool false]⟩)) (ptrW x4 (fun b5 o6 => rdT (rdC b5 (o6 + 5)) kM (fun (x7 : Option Nat) => rdT (rdM .string (.int .i64 0) true x7 (.string name_3)) (.tup [.sc (.int .i64), .sc .bool]) (fun (x8 : Int) (x9 : Bool) => K (.tuple ⟨[.int .i64 x8, .bool x9]⟩))))))
theorem e125 (t_1 : Option Addr) (dir_2 : Int) (name_3 : ByteArray) (K : KH) : bodyF Tryz.prog tau Tryz.f125 an125 [.pointer t_1, .int .i64 dir_2, .string name_3] K = g125 t_1 dir_2 name_3 K := by kernel_rfl
theorem c125 (t_1 : Option Addr) (dir_2 : Int) (name_3 : ByteArray) {K : KH} {σ : H} (h : g125 t_1 dir_2 name_3 K σ) : callW Tryz.prog 125 [.pointer t_1, .int .i64 dir_2, .string name_3] K σ := call_of_body mixed Tryz.func125 (by rw [e125]; exact h)


def an126 : Ann := (.q (.q (.q (.seq (some [(0,.p),(2,.s),(3,.b),(8,.p),(10,.i),(11,.p)]) (.seq (some [(0,.p),(1,.s),(2,.s),(3,.b),(8,.p),(10,.i),(11,.p),(20,.b)]) .r (.cond (.n (.q (.h)) (.n (.seq (some [(0,.p),(1,.s),(2,.s),(3,.b),(8,.p),(11,.p),(30,.b)]) .r (.h)) (.q (.n (.q (.h)) (.n (.q (.h)) (.n (.n (.reg (rn 12) [[],[0],[0,1],[0,1,2],[],[4],(rn 6),(rn 7),(rn 8),(rn 9),(rn 10),(rn 11)]) (.h)) (.q .r))))))) .z)) (.q .z)))))
def g126 (f_1 : Option Addr) (cwd_2 : ByteArray) (path_3 : ByteArray) (follow_4 : Bool) (K : KH) : H -> Prop :=
 alW (.cells ⟨[.int .i64 0, .string (⟨⟨[]⟩⟩ : ByteArray), .int .i64 0]⟩ 171 (0, 0)) (fun b5 => alW (.cells ⟨[.int .i64 0]⟩ 3 (0, 0)) (fun b6 => stW Tryz.prog 3 (.pointer (some ⟨b6, 0, none⟩)) (.int .i64 8) (letJ (T := Option Addr -> ByteArray -> Bool -> Option Addr -> Int -> Option Addr -> H -> Prop) (fun f_8 path_9 follow_10 x11 at_12 hops_13 =>
 callT Tryz.prog 185 [.pointer f_8, .int .i64 at_12, .string path_9, .bool follow_10, .pointer hops_13] (.tup [.agg [(.int .i64), .str, (.int .i64)], .sc (.int .i64)]) (fun (x14 : Int) (x15 : ByteArray) (x16 : Int) (x17 : Int) => stW Tryz.prog 171 (.pointer x11) (.agg ⟨[.int .i64 x14, .string x15, .int .i64 x16]⟩) (ptrW x11 (fun b18 o19 => rdT (rdA 3 b18 o19) (.one (.agg [(.int .i64), .str, (.int .i64)])) (fun (r20 : Int) (r21 : ByteArray) (r22 : Int) =>
 K (.tuple ⟨[.agg ⟨[.int .i64 r20, .string r21, .int .i64 r22]⟩, .int .i64 x17]⟩)))))) (fun j7 => letJ (T := Option Addr -> ByteArray -> ByteArray -> Bool -> Option Addr -> Int -> Option Addr -> Bool -> H -> Prop) (fun f_24 cwd_25 path_26 follow_27 x28 at_29 hops_30 x31 => brW x31 (brW (strEq path_26 (⟨⟨[]⟩⟩ : ByteArray)) (stW Tryz.prog 171 (.pointer x28) (.agg ⟨[.int .i64 0, .string (⟨⟨[]⟩⟩ : ByteArray), .int .i64 0]⟩) (ptrW x28 (fun b32 o33 =>
 rdT (rdA 3 b32 o33) (.one (.agg [(.int .i64), .str, (.int .i64)])) (fun (r34 : Int) (r35 : ByteArray) (r36 : Int) => K (.tuple ⟨[.agg ⟨[.int .i64 r34, .string r35, .int .i64 r36]⟩, .int .i64 5]⟩))))) (letJ (T := Option Addr -> ByteArray -> ByteArray -> Bool -> Option Addr -> Option Addr -> Bool -> H -> Prop) (fun f_38 cwd_39 path_40 follow_41 x42 hops_43 x44 => brW x44 (stW Tryz.prog 171 (.pointer x42) (.agg ⟨[.int .i64 0, .string (⟨⟨[]⟩⟩ : ByteArray), .int .i64 0]⟩) (ptrW x42 (fun b45 o46 =>
 rdT (rdA 3 b45 o46) (.one (.agg [(.int .i64), .str, (.int .i64)])) (fun (r47 : Int) (r48 : ByteArray) (r49 : Int) => K (.tuple ⟨[.agg ⟨[.int .i64 r47, .string r48, .int .i64 r49]⟩, .int .i64 5]⟩))))) (callT Tryz.prog 185 [.pointer f_38, .int .i64 0, .string cwd_39, .bool true, .pointer hops_43] (.tup [.agg [(.int .i64), .str, (.int .i64)], .sc (.int .i64)]) (fun (x50 : Int) (x51 : ByteArray) (x52 : Int) (x53 : Int) =>
 alW (.cells ⟨[.int .i64 0, .string (⟨⟨[]⟩⟩ : ByteArray), .int .i64 0]⟩ 171 (0, 0)) (fun b54 => stW Tryz.prog 171 (.pointer (some ⟨b54, 0, none⟩)) (.agg ⟨[.int .i64 x50, .string x51, .int .i64 x52]⟩) (brW ((x53 : Int) != 0) (stW Tryz.prog 171 (.pointer x42) (.agg ⟨[.int .i64 0, .string (⟨⟨[]⟩⟩ : ByteArray), .int .i64 0]⟩) (ptrW x42 (fun b55 o56 => rdT (rdA 3 b55 o56) (.one (.agg [(.int .i64), .str, (.int .i64)])) (fun (r57 : Int) (r58 : ByteArray) (r59 : Int) =>
 K (.tuple ⟨[.agg ⟨[.int .i64 r57, .string r58, .int .i64 r59]⟩, .int .i64 x53]⟩))))) (rdT (rdC b54 2) kI (fun (x60 : Int) => brW (decide ((x60 : Int) < 0)) (stW Tryz.prog 171 (.pointer x42) (.agg ⟨[.int .i64 0, .string (⟨⟨[]⟩⟩ : ByteArray), .int .i64 0]⟩) (ptrW x42 (fun b61 o62 => rdT (rdA 3 b61 o62) (.one (.agg [(.int .i64), .str, (.int .i64)])) (fun (r63 : Int) (r64 : ByteArray) (r65 : Int) => K (.tuple ⟨[.agg ⟨[.int .i64 r63, .string r64, .int .i64 r65]⟩, .int .i64 5]⟩)))))
 (ptrW f_38 (fun b66 o67 => rdT (rdC b66 (o67 + 2)) kL (fun x68 => rdT (rdC b54 2) kI (fun (x69 : Int) => ptrW x68.base (fun b70 o71 => ifW (0 <= x69 /\ x69 < ((x68.len : Nat) : Int)) (rdT (rdC b70 (o71 + x69.toNat * 1)) kP (fun x72 => ptrW x72 (fun b73 o74 => rdT (rdC b73 o74) kI (fun (x75 : Int) => brW ((x75 : Int) != 2) (stW Tryz.prog 171 (.pointer x42) (.agg ⟨[.int .i64 0, .string (⟨⟨[]⟩⟩ : ByteArray), .int .i64 0]⟩) (ptrW x42 (fun b76 o77 =>
 rdT (rdA 3 b76 o77) (.one (.agg [(.int .i64), .str, (.int .i64)])) (fun (r78 : Int) (r79 : ByteArray) (r80 : Int) => K (.tuple ⟨[.agg ⟨[.int .i64 r78, .string r79, .int .i64 r80]⟩, .int .i64 8]⟩))))) (rdT (rdC b54 2) kI (fun (x81 : Int) => stW Tryz.prog 3 (.pointer hops_43) (.int .i64 8) (j7 f_38 path_40 follow_41 x42 x81 hops_43))))))))))))))))))) (fun j37 => brW (strEq cwd_25 (⟨⟨[]⟩⟩ : ByteArray)) (j37 f_24 cwd_25 path_26 follow_27 x28 hops_30 true) (idxW cwd_25 0 (fun c82 =>
 j37 f_24 cwd_25 path_26 follow_27 x28 hops_30 (((c82.toNat : Int) : Int) != 47)))))) (j7 f_24 path_26 follow_27 x28 at_29 hops_30)) (fun j23 => brW (strEq path_3 (⟨⟨[]⟩⟩ : ByteArray)) (j23 f_1 cwd_2 path_3 follow_4 (some ⟨b5, 0, none⟩) 0 (some ⟨b6, 0, none⟩) true) (idxW path_3 0 (fun c83 => j23 f_1 cwd_2 path_3 follow_4 (some ⟨b5, 0, none⟩) 0 (some ⟨b6, 0, none⟩) (((c83.toNat : Int) : Int) != 47))))))))
theorem e126 (f_1 : Option Addr) (cwd_2 : ByteArray) (path_3 : ByteArray) (follow_4 : Bool) (K : KH) : bodyF Tryz.prog tau Tryz.f126 an126 [.pointer f_1, .string cwd_2, .string path_3, .bool follow_4] K = g126 f_1 cwd_2 path_3 follow_4 K := by kernel_rfl
theorem c126 (f_1 : Option Addr) (cwd_2 : ByteArray) (path_3 : ByteArray) (follow_4 : Bool) {K : KH} {σ : H} (h : g126 f_1 cwd_2 path_3 follow_4 K σ) : callW Tryz.prog 126 [.pointer f_1, .string cwd_2, .string path_3, .bool follow_4] K σ := call_of_body mixed Tryz.func126 (by rw [e126]; exact h)


def an127 : Ann := (.q (.q (.n (.blk (.loop [(0,.p),(1,.i),(5,.i)] (.n (.q (.cond .z .z)) (.blk (.q .r))))) (.q .z))))
def g127 (f_1 : Option Addr) (dir_2 : Int) (K : KH) : H -> Prop :=
 loopW [.sc .ptr, .sc (.int .i64), .sc (.int .i64)] (fun (R3 : Option Addr -> Int -> Int -> H -> Prop) => (fun (f_4 : Option Addr) (dir_5 : Int) (n_6 : Int) => brW ((dir_5 : Int) != 0) (ptrW f_4 (fun b7 o8 => rdT (rdC b7 (o8 + 2)) kL (fun x9 => ptrW x9.base (fun b10 o11 => ifW (0 <= dir_5 /\ dir_5 < ((x9.len : Nat) : Int)) (rdT (rdC b10 (o11 + dir_5.toNat * 1)) kP (fun x12 => ptrW x12 (fun b13 o14 => rdT (rdC b13 (o14 + 4)) kI (fun (x15 : Int) => R3 f_4 x15 (IntKind.i64.wrap (n_6 + 1))))))))))
 (K (.int .i64 n_6)))) (fun (R16 : Option Addr -> Int -> Int -> H -> Prop) => R16 f_1 dir_2 1)
theorem e127 (f_1 : Option Addr) (dir_2 : Int) (K : KH) : bodyF Tryz.prog tau Tryz.f127 an127 [.pointer f_1, .int .i64 dir_2] K = g127 f_1 dir_2 K := by kernel_rfl
theorem c127 (f_1 : Option Addr) (dir_2 : Int) {K : KH} {σ : H} (h : g127 f_1 dir_2 K σ) : callW Tryz.prog 127 [.pointer f_1, .int .i64 dir_2] K σ := call_of_body mixed Tryz.func127 (by rw [e127]; exact h)


def an128 : Ann := (.q (.n (.q (.h)) (.q (.n (.reg (rn 12) [[],[],[1],[],[3],[],[5],[5,6],[5,6,7],[5,6,7,8],[5,6,7,8,9],(rn 11)]) (.q .z)))))
def g128 (f_1 : Option Addr) (p_2 : Int) (p_3 : ByteArray) (p_4 : Int) (kind_5 : Int) (mode_6 : Int) (data_7 : ByteArray) (K : KH) : H -> Prop :=
 alW (.cells ⟨[.int .i64 p_2, .string p_3, .int .i64 p_4]⟩ 171 (0, 0)) (fun b8 => callT Tryz.prog 129 [.pointer f_1, .int .i64 1, .int .i64 ((data_7.size : Nat) : Int)] kB (fun x9 => brW (!x9) (K (.int .i64 10)) (ptrW f_1 (fun b10 o11 => rdT (rdC b10 (o11 + 2)) kL (fun x12 => alW (.cells ⟨[.int .i64 kind_5, .int .i64 mode_6, .string data_7, .slice none 0 0, .int .i64 0]⟩ 131 (0, 0)) (fun b13 => alW (.cells ⟨[.pointer (some ⟨b13, 0, none⟩)]⟩ 128 (0, 0)) (fun b14 =>
 biW Tryz.prog .append #[132, 132] 132 [false, false] [.slice x12.base x12.len x12.cap, .slice (some ⟨b14, 0, none⟩) 1 1] kL (fun x15 => ptrW f_1 (fun b16 o17 => stW Tryz.prog 132 (.pointer (some ⟨b16, o17 + 2, none⟩)) (.slice x15.base x15.len x15.cap) (rdT (rdC b8 0) kI (fun (x18 : Int) => rdT (rdC b8 1) kS (fun (x19 : ByteArray) => ptrW f_1 (fun b20 o21 => rdT (rdC b20 (o21 + 2)) kL (fun x22 =>
 callT Tryz.prog 145 [.pointer f_1, .int .i64 x18, .string x19, .int .i64 (IntKind.i64.wrap (((x22.len : Nat) : Int) - 1))] kU (K (.int .i64 0))))))))))))))))
theorem e128 (f_1 : Option Addr) (p_2 : Int) (p_3 : ByteArray) (p_4 : Int) (kind_5 : Int) (mode_6 : Int) (data_7 : ByteArray) (K : KH) : bodyF Tryz.prog tau Tryz.f128 an128 [.pointer f_1, .agg ⟨[.int .i64 p_2, .string p_3, .int .i64 p_4]⟩, .int .i64 kind_5, .int .i64 mode_6, .string data_7] K = g128 f_1 p_2 p_3 p_4 kind_5 mode_6 data_7 K := by kernel_rfl
theorem c128 (f_1 : Option Addr) (p_2 : Int) (p_3 : ByteArray) (p_4 : Int) (kind_5 : Int) (mode_6 : Int) (data_7 : ByteArray) {K : KH} {σ : H} (h : g128 f_1 p_2 p_3 p_4 kind_5 mode_6 data_7 K σ) : callW Tryz.prog 128 [.pointer f_1, .agg ⟨[.int .i64 p_2, .string p_3, .int .i64 p_4]⟩, .int .i64 kind_5, .int .i64 mode_6, .string data_7] K σ := call_of_body mixed Tryz.func128 (by rw [e128]; exact h)


def an129 : Ann := (.q (.q (.n (.reg (rn 23) [[],[0],[],[0,1,2],[],[4],[4,5],[4,5,6],[4,5,6,7],(rn 9),(rn 10),(rn 11),(rn 12),(rn 11),(rn 14),(rn 11),[0,1,2,3,4,5,6,7,8,9,10,15],[0,1,2,3,4,5,6,7,8,9,10,15,16],[0,1,2,3,4,5,6,7,8,9,10,15,16,17],[0,1,2,3,4,5,6,7,8,9,10,15,16,17,18],(rn 20),(rn 21),(rn 22)]) .z)))
def g129 (f_1 : Option Addr) (inodes_2 : Int) (bytes_3 : Int) (K : KH) : H -> Prop :=
 callT Tryz.prog 40 [.pointer f_1] (.one (.agg [(.int .i64), (.int .i64)])) (fun (x4 : Int) (x5 : Int) => alW (.cells ⟨[.int .i64 0, .int .i64 0]⟩ 64 (0, 0)) (fun b6 => stW Tryz.prog 64 (.pointer (some ⟨b6, 0, none⟩)) (.agg ⟨[.int .i64 x4, .int .i64 x5]⟩) (rdT (rdC b6 0) kI (fun (x7 : Int) => ptrW f_1 (fun b8 o9 => rdT (rdC b8 o9) kI (fun (x10 : Int) => brW (decide (((IntKind.i64.wrap (x7 + inodes_2)) : Int) <= x10)) (rdT (rdC b6 1) kI (fun (x11 : Int) => ptrW f_1 (fun b12 o13 =>
 rdT (rdC b12 (o13 + 1)) kI (fun (x14 : Int) => K (.bool (decide (((IntKind.i64.wrap (x11 + bytes_3)) : Int) <= x14))))))) (K (.bool false))))))))
theorem e129 (f_1 : Option Addr) (inodes_2 : Int) (bytes_3 : Int) (K : KH) : bodyF Tryz.prog tau Tryz.f129 an129 [.pointer f_1, .int .i64 inodes_2, .int .i64 bytes_3] K = g129 f_1 inodes_2 bytes_3 K := by kernel_rfl
theorem c129 (f_1 : Option Addr) (inodes_2 : Int) (bytes_3 : Int) {K : KH} {σ : H} (h : g129 f_1 inodes_2 bytes_3 K σ) : callW Tryz.prog 129 [.pointer f_1, .int .i64 inodes_2, .int .i64 bytes_3] K σ := call_of_body mixed Tryz.func129 (by rw [e129]; exact h)

end Go.Proofs.YtbjbeajbckcecaaGreatDoor

set_option maxRecDepth 100000
namespace Go.Proofs.YtbjbeajbckcecaaGreatDoor
open Go Go.HL
def an137 : Ann := (.q (.q (.n (.blk (.seq (some [(0,.s),(1,.s),(5,.i),(16,.b)]) .r (.cond (.q .z) (.q (.cond (.q .z) (.q (.cond (.q .z) (.seq (some [(0,.s),(1,.s),(5,.i),(36,.b)]) .r (.h))))))))) (.q (.q (.q (.q (.q (.n (.blk (.loop [(0,.s),(1,.s),(5,.i),(6,.sc (.int .u8)),(7,.sc (.int .u8)),(8,.i),(9,.i),(10,.i)] (.n (.q (.cond .z .z)) (.blk (.seq (some [(0,.s),(1,.s),(5,.i),(6,.sc (.int .u8)),(7,.sc (.int .u8)),(8,.i),(9,.i),(10,.i)]) (.q (.cond (.q (.n (.q (.h)) .r)) .z)) (.n (.seq (some [(0,.s),(1,.s),(5,.i),(6,.sc (.int .u8)),(7,.sc (.int .u8)),(8,.i),(9,.i),(10,.i),(85,.w),(86,.w),(87,.w),(88,.w),(89,.w),(90,.w),(91,.w),(92,.w),(93,.b)]) .r (.h)) (.q (.q (.seq (some [(0,.s),(1,.s),(5,.i),(6,.sc (.int .u8)),(7,.sc (.int .u8)),(8,.i),(9,.i),(10,.i),(85,.w),(86,.w),(87,.w),(88,.w),(89,.w),(90,.w),(91,.w),(92,.w),(103,.w),(104,.w),(105,.w),(106,.w),(107,.b)]) .r (.cond (.q (.n (.q (.h)) (.q .z))) (.seq (some [(0,.s),(1,.s),(5,.i),(6,.sc (.int .u8)),(7,.sc (.int .u8)),(8,.i),(9,.i),(10,.i),(85,.w),(86,.w),(87,.w),(88,.w),(89,.w),(90,.w),(91,.w),(92,.w),(103,.w),(104,.w),(105,.w),(106,.w),(122,.w),(123,.w),(124,.w),(125,.w),(126,.w),(129,.w),(130,.w),(131,.w),(132,.b)]) .r (.cond (.q (.n (.q (.h)) (.q .z))) .z)))))))))))) (.q .z))))))))))
def g137 (s_1 : ByteArray) (substr_2 : ByteArray) (K : KH) : H -> Prop :=
 letJ (T := ByteArray -> ByteArray -> Int -> Bool -> H -> Prop) (fun s_4 substr_5 n_6 x7 => brW x7 (K (.int .i64 0)) (brW ((n_6 : Int) == 1) (idxW substr_5 0 (fun c8 => callT Tryz.prog 79 [.string s_4, .int .u8 (c8.toNat : Int)] kI (fun (x9 : Int) => K (.int .i64 x9)))) (brW (decide ((n_6 : Int) >= ((s_4.size : Nat) : Int))) (K (.int .i64 (-1))) (letJ (T := ByteArray -> ByteArray -> Int -> Bool -> H -> Prop) (fun s_11 substr_12 n_13 x14 => brW x14
 (cvalT Tryz.prog (.func (.func 198) ⟨[]⟩ ⟨[]⟩) [.string s_11, .string substr_12] kI (fun (x15 : Int) => K (.int .i64 x15))) (idxW substr_12 0 (fun c16 => idxW substr_12 1 (fun c17 =>
 loopW [.sc .str, .sc .str, .sc (.int .i64), .sc (.int .u8), .sc (.int .u8), .sc (.int .i64), .sc (.int .i64), .sc (.int .i64)] (fun (R18 : ByteArray -> ByteArray -> Int -> Int -> Int -> Int -> Int -> Int -> H -> Prop) => (fun (s_19 : ByteArray) (substr_20 : ByteArray) (n_21 : Int) (c0_22 : Int) (c1_23 : Int) (i_24 : Int) (t_25 : Int) (fails_26 : Int) => brW (decide ((i_24 : Int) < t_25))
 (letJ (T := ByteArray -> ByteArray -> Int -> Int -> Int -> Int -> Int -> Int -> H -> Prop) (fun s_28 substr_29 n_30 c0_31 c1_32 i_33 t_34 fails_35 => letJ (T := ByteArray -> ByteArray -> Int -> Int -> Int -> Int -> Int -> Int -> Value -> Value -> Value -> Value -> Value -> Value -> Value -> Value -> Bool -> H -> Prop) (fun s_37 substr_38 n_39 c0_40 c1_41 i_42 t_43 fails_44 x45 x46 x47 x48 x49 x50 x51 x52 x53 => brW x53 (K (.int .i64 i_42))
 (letJ (T := ByteArray -> ByteArray -> Int -> Int -> Int -> Int -> Int -> Int -> Value -> Value -> Value -> Value -> Value -> Value -> Value -> Value -> Value -> Value -> Value -> Value -> Bool -> H -> Prop) (fun s_55 substr_56 n_57 c0_58 c1_59 i_60 t_61 fails_62 x63 x64 x65 x66 x67 x68 x69 x70 x71 x72 x73 x74 x75 => brW x75 (ifW (bndOk none s_55.size /\ bndOk (some i_60) (s_55.size)) (cvalT Tryz.prog (.func (.func 198) ⟨[]⟩ ⟨[]⟩) [.string (s_55.extract i_60.toNat s_55.size), .string substr_56] kI (fun (x76 : Int) =>
 brW (decide ((x76 : Int) >= 0)) (K (.int .i64 (IntKind.i64.wrap (x76 + i_60)))) (K (.int .i64 (-1))))))
 (letJ (T := ByteArray -> ByteArray -> Int -> Int -> Int -> Int -> Int -> Int -> Value -> Value -> Value -> Value -> Value -> Value -> Value -> Value -> Value -> Value -> Value -> Value -> Value -> Value -> Value -> Value -> Value -> Value -> Value -> Value -> Bool -> H -> Prop) (fun s_78 substr_79 n_80 c0_81 c1_82 i_83 t_84 fails_85 _x86 _x87 _x88 _x89 _x90 _x91 _x92 _x93 _x94 _x95 _x96 _x97 _x98 _x99 _x100 _x101 _x102 _x103 _x104 _x105 x106 => brW x106 (ifW (bndOk none s_78.size /\ bndOk (some i_83) (s_78.size))
 (callT Tryz.prog 200 [.string (s_78.extract i_83.toNat s_78.size), .string substr_79] kI (fun (x107 : Int) => brW (decide ((x107 : Int) < 0)) (K (.int .i64 (-1))) (K (.int .i64 (IntKind.i64.wrap (i_83 + x107))))))) (R18 s_78 substr_79 n_80 c0_81 c1_82 i_83 t_84 fails_85)) (fun j77 => rdT (rdC 0 0) kI (fun (x108 : Int) => brW (decide ((n_57 : Int) > x108)) (ifW (0 <= (4 : Int)) (brW (decide ((fails_62 : Int) >= (IntKind.i64.wrap (4 + (Int.fdiv i_60 (2 ^ min (Int.toNat 4) (IntKind.bits .i64)))))))
 (j77 s_55 substr_56 n_57 c0_58 c1_59 i_60 t_61 fails_62 x63 x64 x65 x66 x67 x68 x69 x70 x71 x72 x73 x74 (.int .i64 fails_62) (.int .i64 i_60) (.int .i64 (Int.fdiv i_60 (2 ^ min (Int.toNat 4) (IntKind.bits .i64)))) (.int .i64 (IntKind.i64.wrap (4 + (Int.fdiv i_60 (2 ^ min (Int.toNat 4) (IntKind.bits .i64)))))) (.bool (decide ((fails_62 : Int) >= (IntKind.i64.wrap (4 + (Int.fdiv i_60 (2 ^ min (Int.toNat 4) (IntKind.bits .i64)))))))) (.int .i64 i_60) (.int .i64 t_61) (.bool (decide ((i_60 : Int) < t_61))) (decide ((i_60 : Int) < t_61)))
 (j77 s_55 substr_56 n_57 c0_58 c1_59 i_60 t_61 fails_62 x63 x64 x65 x66 x67 x68 x69 x70 x71 x72 x73 x74 (.int .i64 fails_62) (.int .i64 i_60) (.int .i64 (Int.fdiv i_60 (2 ^ min (Int.toNat 4) (IntKind.bits .i64)))) (.int .i64 (IntKind.i64.wrap (4 + (Int.fdiv i_60 (2 ^ min (Int.toNat 4) (IntKind.bits .i64)))))) (.bool (decide ((fails_62 : Int) >= (IntKind.i64.wrap (4 + (Int.fdiv i_60 (2 ^ min (Int.toNat 4) (IntKind.bits .i64)))))))) (.tuple ⟨[]⟩) (.tuple ⟨[]⟩) (.tuple ⟨[]⟩) false)))
 (j77 s_55 substr_56 n_57 c0_58 c1_59 i_60 t_61 fails_62 x63 x64 x65 x66 x67 x68 x69 x70 x71 x72 x73 x74 (.tuple ⟨[]⟩) (.tuple ⟨[]⟩) (.tuple ⟨[]⟩) (.tuple ⟨[]⟩) (.tuple ⟨[]⟩) (.tuple ⟨[]⟩) (.tuple ⟨[]⟩) (.tuple ⟨[]⟩) false))))) (fun j54 => rdT (rdC 0 0) kI (fun (x109 : Int) => brW (decide ((n_39 : Int) <= x109)) (callT Tryz.prog 199 [.int .i64 (IntKind.i64.wrap (i_42 + 1))] kI (fun (x110 : Int) =>
 j54 s_37 substr_38 n_39 c0_40 c1_41 (IntKind.i64.wrap (i_42 + 1)) t_43 (IntKind.i64.wrap (fails_44 + 1)) x45 x46 x47 x48 x49 x50 x51 x52 (.int .i64 (IntKind.i64.wrap (fails_44 + 1))) (.int .i64 (IntKind.i64.wrap (i_42 + 1))) (.int .i64 x110) (.bool (decide (((IntKind.i64.wrap (fails_44 + 1)) : Int) > x110))) (decide (((IntKind.i64.wrap (fails_44 + 1)) : Int) > x110))))
 (j54 s_37 substr_38 n_39 c0_40 c1_41 (IntKind.i64.wrap (i_42 + 1)) t_43 (IntKind.i64.wrap (fails_44 + 1)) x45 x46 x47 x48 x49 x50 x51 x52 (.tuple ⟨[]⟩) (.tuple ⟨[]⟩) (.tuple ⟨[]⟩) (.tuple ⟨[]⟩) false))))) (fun j36 => idxW s_28 (IntKind.i64.wrap (i_33 + 1)) (fun c111 => brW (((c111.toNat : Int) : Int) == c1_32) (ifW (bndOk (some (IntKind.i64.wrap (i_33 + n_30))) s_28.size /\ bndOk (some i_33) ((IntKind.i64.wrap (i_33 + n_30)).toNat))
 (j36 s_28 substr_29 n_30 c0_31 c1_32 i_33 t_34 fails_35 (.string s_28) (.int .i64 i_33) (.int .i64 i_33) (.int .i64 n_30) (.int .i64 (IntKind.i64.wrap (i_33 + n_30))) (.string (s_28.extract i_33.toNat ((IntKind.i64.wrap (i_33 + n_30)).toNat))) (.string substr_29) (.bool (strEq (s_28.extract i_33.toNat ((IntKind.i64.wrap (i_33 + n_30)).toNat)) substr_29)) (strEq (s_28.extract i_33.toNat ((IntKind.i64.wrap (i_33 + n_30)).toNat)) substr_29)))
 (j36 s_28 substr_29 n_30 c0_31 c1_32 i_33 t_34 fails_35 (.tuple ⟨[]⟩) (.tuple ⟨[]⟩) (.tuple ⟨[]⟩) (.tuple ⟨[]⟩) (.tuple ⟨[]⟩) (.tuple ⟨[]⟩) (.tuple ⟨[]⟩) (.tuple ⟨[]⟩) false)))) (fun j27 => idxW s_19 i_24 (fun c112 => brW (((c112.toNat : Int) : Int) != c0_22) (ifW (bndOk (some t_25) s_19.size /\ bndOk (some (IntKind.i64.wrap (i_24 + 1))) (t_25.toNat)) (callT Tryz.prog 79 [.string (s_19.extract ((IntKind.i64.wrap (i_24 + 1)).toNat) t_25.toNat), .int .u8 c0_22] kI (fun (x113 : Int) =>
 brW (decide ((x113 : Int) < 0)) (K (.int .i64 (-1))) (j27 s_19 substr_20 n_21 c0_22 c1_23 (IntKind.i64.wrap (i_24 + (IntKind.i64.wrap (x113 + 1)))) t_25 fails_26)))) (j27 s_19 substr_20 n_21 c0_22 c1_23 i_24 t_25 fails_26)))) (K (.int .i64 (-1))))) (fun (R114 : ByteArray -> ByteArray -> Int -> Int -> Int -> Int -> Int -> Int -> H -> Prop) => R114 s_11 substr_12 n_13 (c16.toNat : Int) (c17.toNat : Int) 0 (IntKind.i64.wrap ((IntKind.i64.wrap (((s_11.size : Nat) : Int) - n_13)) + 1)) 0))))) (fun j10 =>
 rdT (rdC 0 0) kI (fun (x115 : Int) => brW (decide ((n_6 : Int) <= x115)) (j10 s_4 substr_5 n_6 (decide ((((s_4.size : Nat) : Int) : Int) <= 64))) (j10 s_4 substr_5 n_6 false))))))) (fun j3 => brW ((((substr_2.size : Nat) : Int) : Int) == 0) (j3 s_1 substr_2 ((substr_2.size : Nat) : Int) true) (j3 s_1 substr_2 ((substr_2.size : Nat) : Int) (strEq substr_2 s_1)))
theorem e137 (s_1 : ByteArray) (substr_2 : ByteArray) (K : KH) : bodyF Tryz.prog tau Tryz.f137 an137 [.string s_1, .string substr_2] K = g137 s_1 substr_2 K := by kernel_rfl
theorem c137 (s_1 : ByteArray) (substr_2 : ByteArray) {K : KH} {σ : H} (h : g137 s_1 substr_2 K σ) : callW Tryz.prog 137 [.string s_1, .string substr_2] K σ := call_of_body mixed Tryz.func137 (by rw [e137]; exact h)


def an138 : Ann := (.q (.n (.q (.h)) (.q .z)))
def g138 (t_1 : Option Addr) (ino_2 : Int) (K : KH) : H -> Prop :=
 brW t_1.isNone (K (.pointer none)) (ptrW t_1 (fun b3 o4 => rdT (rdC b3 (o4 + 4)) kM (fun (x5 : Option Nat) => rdT (rdM (.int .i64) (.pointer none) false x5 (.int .i64 ino_2)) kP (fun x6 => K (.pointer x6)))))
theorem e138 (t_1 : Option Addr) (ino_2 : Int) (K : KH) : bodyF Tryz.prog tau Tryz.f138 an138 [.pointer t_1, .int .i64 ino_2] K = g138 t_1 ino_2 K := by kernel_rfl
theorem c138 (t_1 : Option Addr) (ino_2 : Int) {K : KH} {σ : H} (h : g138 t_1 ino_2 K σ) : callW Tryz.prog 138 [.pointer t_1, .int .i64 ino_2] K σ := call_of_body mixed Tryz.func138 (by rw [e138]; exact h)


def an139 : Ann := (.q (.q .z))
def g139 (m_1 : Option Nat) (K : KH) : H -> Prop :=
 alW (.cells ⟨[.map m_1]⟩ 192 (0, 0)) (fun b2 => K (.func (.func 201) ⟨[]⟩ ⟨[.pointer (some ⟨b2, 0, none⟩)]⟩))
theorem e139 (m_1 : Option Nat) (K : KH) : bodyF Tryz.prog tau Tryz.f139 an139 [.map m_1] K = g139 m_1 K := by kernel_rfl
theorem c139 (m_1 : Option Nat) {K : KH} {σ : H} (h : g139 m_1 K σ) : callW Tryz.prog 139 [.map m_1] K σ := call_of_body mixed Tryz.func139 (by rw [e139]; exact h)


def an145 : Ann := (.q (.q (.n (.q (.blk (.loop [(0,.p),(1,.i),(2,.s),(3,.i),(8,.l),(9,.b),(10,.i)] (.n (.q (.cond .z .z)) (.n (.blk (.q (.seq (some [(0,.p),(1,.i),(2,.s),(3,.i),(8,.l),(9,.b),(10,.i),(11,.p),(43,.w),(44,.w),(45,.w),(46,.w)]) (.seq (some [(0,.p),(1,.i),(2,.s),(3,.i),(8,.l),(9,.b),(10,.i),(11,.p),(43,.w),(44,.w),(45,.w),(46,.w),(47,.b)]) .r (.cond (.q .r) .z)) .r))) .r))))) (.seq (some [(0,.p),(1,.i),(3,.i),(8,.l)]) (.q (.cond .r .z)) (.q (.q (.cond .r .z)))))))
def g145 (f_1 : Option Addr) (dir_2 : Int) (name_3 : ByteArray) (ino_4 : Int) (K : KH) : H -> Prop :=
 loopW [.sc .ptr, .sc (.int .i64), .sc .str, .sc (.int .i64), .sc .slc, .sc .bool, .sc (.int .i64)] (fun (R5 : Option Addr -> Int -> ByteArray -> Int -> Sl -> Bool -> Int -> H -> Prop) => (fun (f_6 : Option Addr) (dir_7 : Int) (name_8 : ByteArray) (ino_9 : Int) (l_10 : Sl) (done_11 : Bool) (i_12 : Int) => ptrW f_6 (fun b13 o14 => rdT (rdC b13 (o14 + 2)) kL (fun x15 => ptrW x15.base (fun b16 o17 => ifW (0 <= dir_7 /\ dir_7 < ((x15.len : Nat) : Int)) (rdT (rdC b16 (o17 + dir_7.toNat * 1)) kP (fun x18 =>
 ptrW x18 (fun b19 o20 => rdT (rdC b19 (o20 + 3)) kL (fun x21 => brW (decide ((i_12 : Int) < ((x21.len : Nat) : Int))) (ptrW f_6 (fun b22 o23 => rdT (rdC b22 (o23 + 2)) kL (fun x24 => ptrW x24.base (fun b25 o26 => ifW (0 <= dir_7 /\ dir_7 < ((x24.len : Nat) : Int)) (rdT (rdC b25 (o26 + dir_7.toNat * 1)) kP (fun x27 => ptrW x27 (fun b28 o29 => rdT (rdC b28 (o29 + 3)) kL (fun x30 => ptrW x30.base (fun b31 o32 => ifW (0 <= i_12 /\ i_12 < ((x30.len : Nat) : Int))
 (rdT (rdA 2 b31 (o32 + i_12.toNat * 2)) (.one (.agg [.str, (.int .i64)])) (fun (x33 : ByteArray) (x34 : Int) => alW (.cells ⟨[.string (⟨⟨[]⟩⟩ : ByteArray), .int .i64 0]⟩ 245 (0, 0)) (fun b35 => stW Tryz.prog 245 (.pointer (some ⟨b35, 0, none⟩)) (.agg ⟨[.string x33, .int .i64 x34]⟩) (letJ (T := Option Addr -> Int -> ByteArray -> Int -> Sl -> Bool -> Int -> Option Addr -> Value -> Value -> Value -> Value -> H -> Prop) (fun f_37 dir_38 name_39 ino_40 l_41 done_42 i_43 x_44 _x45 _x46 _x47 _x48 =>
 ptrW x_44 (fun b49 o50 => rdT (rdA 2 b49 o50) (.one (.agg [.str, (.int .i64)])) (fun (x51 : ByteArray) (x52 : Int) => alW (.cells ⟨[.string x51, .int .i64 x52]⟩ 245 (0, 0)) (fun b53 => biW Tryz.prog .append #[129, 129] 129 [false, false] [.slice l_41.base l_41.len l_41.cap, .slice (some ⟨b53, 0, none⟩) 1 1] kL (fun x54 => R5 f_37 dir_38 name_39 ino_40 x54 done_42 (IntKind.i64.wrap (i_43 + 1))))))) (fun j36 =>
 letJ (T := Option Addr -> Int -> ByteArray -> Int -> Sl -> Bool -> Int -> Option Addr -> Value -> Value -> Value -> Value -> Bool -> H -> Prop) (fun f_56 dir_57 name_58 ino_59 l_60 done_61 i_62 x_63 x64 x65 x66 x67 x68 => brW x68 (alW (.cells ⟨[.string name_58, .int .i64 ino_59]⟩ 245 (0, 0)) (fun b69 => biW Tryz.prog .append #[129, 129] 129 [false, false] [.slice l_60.base l_60.len l_60.cap, .slice (some ⟨b69, 0, none⟩) 1 1] kL (fun x70 => j36 f_56 dir_57 name_58 ino_59 x70 true i_62 x_63 x64 x65 x66 x67)))
 (j36 f_56 dir_57 name_58 ino_59 l_60 done_61 i_62 x_63 x64 x65 x66 x67)) (fun j55 => brW (!done_11) (rdT (rdC b35 0) kS (fun (x71 : ByteArray) => j55 f_6 dir_7 name_8 ino_9 l_10 done_11 i_12 (some ⟨b35, 0, none⟩) (.string name_8) (.pointer (some ⟨b35, 0, none⟩)) (.string x71) (.bool (strLt name_8 x71)) (strLt name_8 x71))) (j55 f_6 dir_7 name_8 ino_9 l_10 done_11 i_12 (some ⟨b35, 0, none⟩) (.tuple ⟨[]⟩) (.tuple ⟨[]⟩) (.tuple ⟨[]⟩) (.tuple ⟨[]⟩) false))))))))))))))))
 (letJ (T := Option Addr -> Int -> Int -> Sl -> H -> Prop) (fun f_73 dir_74 ino_75 l_76 => ptrW f_73 (fun b77 o78 => rdT (rdC b77 (o78 + 2)) kL (fun x79 => ptrW x79.base (fun b80 o81 => ifW (0 <= dir_74 /\ dir_74 < ((x79.len : Nat) : Int)) (rdT (rdC b80 (o81 + dir_74.toNat * 1)) kP (fun x82 => ptrW x82 (fun b83 o84 => stW Tryz.prog 129 (.pointer (some ⟨b83, o84 + 3, none⟩)) (.slice l_76.base l_76.len l_76.cap) (ptrW f_73 (fun b85 o86 => rdT (rdC b85 (o86 + 2)) kL (fun x87 =>
 ptrW x87.base (fun b88 o89 => ifW (0 <= ino_75 /\ ino_75 < ((x87.len : Nat) : Int)) (rdT (rdC b88 (o89 + ino_75.toNat * 1)) kP (fun x90 => ptrW x90 (fun b91 o92 => rdT (rdC b91 o92) kI (fun (x93 : Int) => brW ((x93 : Int) == 2) (ptrW f_73 (fun b94 o95 => rdT (rdC b94 (o95 + 2)) kL (fun x96 => ptrW x96.base (fun b97 o98 => ifW (0 <= ino_75 /\ ino_75 < ((x96.len : Nat) : Int)) (rdT (rdC b97 (o98 + ino_75.toNat * 1)) kP (fun x99 => ptrW x99 (fun b100 o101 =>
 stW Tryz.prog 3 (.pointer (some ⟨b100, o101 + 4, none⟩)) (.int .i64 dir_74) (K (.tuple ⟨[]⟩))))))))) (K (.tuple ⟨[]⟩))))))))))))))))) (fun j72 => brW (!done_11) (alW (.cells ⟨[.string name_8, .int .i64 ino_9]⟩ 245 (0, 0)) (fun b102 => biW Tryz.prog .append #[129, 129] 129 [false, false] [.slice l_10.base l_10.len l_10.cap, .slice (some ⟨b102, 0, none⟩) 1 1] kL (fun x103 => j72 f_6 dir_7 ino_9 x103)))
 (j72 f_6 dir_7 ino_9 l_10)))))))))))) (fun (R104 : Option Addr -> Int -> ByteArray -> Int -> Sl -> Bool -> Int -> H -> Prop) => R104 f_1 dir_2 name_3 ino_4 ⟨none, 0, 0⟩ false 0)
theorem e145 (f_1 : Option Addr) (dir_2 : Int) (name_3 : ByteArray) (ino_4 : Int) (K : KH) : bodyF Tryz.prog tau Tryz.f145 an145 [.pointer f_1, .int .i64 dir_2, .string name_3, .int .i64 ino_4] K = g145 f_1 dir_2 name_3 ino_4 K := by kernel_rfl
theorem c145 (f_1 : Option Addr) (dir_2 : Int) (name_3 : ByteArray) (ino_4 : Int) {K : KH} {σ : H} (h : g145 f_1 dir_2 name_3 ino_4 K σ) : callW Tryz.prog 145 [.pointer f_1, .int .i64 dir_2, .string name_3, .int .i64 ino_4] K σ := call_of_body mixed Tryz.func145 (by rw [e145]; exact h)


def an146 : Ann := (.q (.n (.blk (.loop [(0,.p),(1,.i),(2,.i)] (.n (.seq (some [(0,.p),(1,.i),(2,.i),(11,.w),(12,.w),(13,.b)]) .r (.cond .z .z)) (.blk .r)))) (.q .z)))
def g146 (f_1 : Option Addr) (dir_2 : Int) (ino_3 : Int) (K : KH) : H -> Prop :=
 loopW [.sc .ptr, .sc (.int .i64), .sc (.int .i64)] (fun (R4 : Option Addr -> Int -> Int -> H -> Prop) => (fun (f_5 : Option Addr) (dir_6 : Int) (ino_7 : Int) => letJ (T := Option Addr -> Int -> Int -> Value -> Value -> Bool -> H -> Prop) (fun f_9 dir_10 ino_11 _x12 _x13 x14 => brW x14 (ptrW f_9 (fun b15 o16 => rdT (rdC b15 (o16 + 2)) kL (fun x17 => ptrW x17.base (fun b18 o19 => ifW (0 <= dir_10 /\ dir_10 < ((x17.len : Nat) : Int)) (rdT (rdC b18 (o19 + dir_10.toNat * 1)) kP (fun x20 =>
 ptrW x20 (fun b21 o22 => rdT (rdC b21 (o22 + 4)) kI (fun (x23 : Int) => R4 f_9 x23 ino_11)))))))) (K (.bool ((dir_10 : Int) == ino_11)))) (fun j8 => brW ((dir_6 : Int) != ino_7) (j8 f_5 dir_6 ino_7 (.int .i64 dir_6) (.bool ((dir_6 : Int) != 0)) ((dir_6 : Int) != 0)) (j8 f_5 dir_6 ino_7 (.tuple ⟨[]⟩) (.tuple ⟨[]⟩) false)))) (fun (R24 : Option Addr -> Int -> Int -> H -> Prop) => R24 f_1 dir_2 ino_3)
theorem e146 (f_1 : Option Addr) (dir_2 : Int) (ino_3 : Int) (K : KH) : bodyF Tryz.prog tau Tryz.f146 an146 [.pointer f_1, .int .i64 dir_2, .int .i64 ino_3] K = g146 f_1 dir_2 ino_3 K := by kernel_rfl
theorem c146 (f_1 : Option Addr) (dir_2 : Int) (ino_3 : Int) {K : KH} {σ : H} (h : g146 f_1 dir_2 ino_3 K σ) : callW Tryz.prog 146 [.pointer f_1, .int .i64 dir_2, .int .i64 ino_3] K σ := call_of_body mixed Tryz.func146 (by rw [e146]; exact h)


def an147 : Ann := (.q (.n (.q (.h)) (.q (.n (.q (.blk (.loop [(0,.p),(1,.i),(5,.i),(6,.i)] (.n (.q (.cond .z .z)) (.n (.blk .r) .r))))) (.q .z)))))
def g147 (f_1 : Option Addr) (ino_2 : Int) (K : KH) : H -> Prop :=
 ptrW f_1 (fun b3 o4 => rdT (rdC b3 (o4 + 2)) kL (fun x5 => ptrW x5.base (fun b6 o7 => ifW (0 <= ino_2 /\ ino_2 < ((x5.len : Nat) : Int)) (rdT (rdC b6 (o7 + ino_2.toNat * 1)) kP (fun x8 => ptrW x8 (fun b9 o10 => rdT (rdC b9 o10) kI (fun (x11 : Int) => brW ((x11 : Int) != 2) (K (.int .i64 0)) (loopW [.sc .ptr, .sc (.int .i64), .sc (.int .i64), .sc (.int .i64)] (fun (R12 : Option Addr -> Int -> Int -> Int -> H -> Prop) => (fun (f_13 : Option Addr) (ino_14 : Int) (n_15 : Int) (i_16 : Int) =>
 ptrW f_13 (fun b17 o18 => rdT (rdC b17 (o18 + 2)) kL (fun x19 => ptrW x19.base (fun b20 o21 => ifW (0 <= ino_14 /\ ino_14 < ((x19.len : Nat) : Int)) (rdT (rdC b20 (o21 + ino_14.toNat * 1)) kP (fun x22 => ptrW x22 (fun b23 o24 => rdT (rdC b23 (o24 + 3)) kL (fun x25 => brW (decide ((i_16 : Int) < ((x25.len : Nat) : Int))) (ptrW f_13 (fun b26 o27 => rdT (rdC b26 (o27 + 2)) kL (fun x28 => ptrW x28.base (fun b29 o30 => ifW (0 <= ino_14 /\ ino_14 < ((x28.len : Nat) : Int))
 (rdT (rdC b29 (o30 + ino_14.toNat * 1)) kP (fun x31 => ptrW x31 (fun b32 o33 => rdT (rdC b32 (o33 + 3)) kL (fun x34 => ptrW x34.base (fun b35 o36 => ifW (0 <= i_16 /\ i_16 < ((x34.len : Nat) : Int)) (rdT (rdC b35 (o36 + i_16.toNat * 2 + 1)) kI (fun (x37 : Int) => callT Tryz.prog 147 [.pointer f_13, .int .i64 x37] kI (fun (x38 : Int) => R12 f_13 ino_14 (if x38 > n_15 then x38 else n_15) (IntKind.i64.wrap (i_16 + 1))))))))))))))
 (K (.int .i64 (IntKind.i64.wrap (1 + n_15))))))))))))) (fun (R39 : Option Addr -> Int -> Int -> Int -> H -> Prop) => R39 f_1 ino_2 0 0)))))))))
theorem e147 (f_1 : Option Addr) (ino_2 : Int) (K : KH) : bodyF Tryz.prog tau Tryz.f147 an147 [.pointer f_1, .int .i64 ino_2] K = g147 f_1 ino_2 K := by kernel_rfl
theorem c147 (f_1 : Option Addr) (ino_2 : Int) {K : KH} {σ : H} (h : g147 f_1 ino_2 K σ) : callW Tryz.prog 147 [.pointer f_1, .int .i64 ino_2] K σ := call_of_body mixed Tryz.func147 (by rw [e147]; exact h)


def an148 : Ann := (.q (.n (.q (.blk (.loop [(0,.p),(1,.i),(2,.s),(6,.l),(7,.i)] (.n (.q (.cond .z .z)) (.seq (some [(0,.p),(1,.i),(2,.s),(6,.l),(7,.i)]) (.blk (.q (.cond .r .z))) .r))))) .r))
def g148 (f_1 : Option Addr) (dir_2 : Int) (name_3 : ByteArray) (K : KH) : H -> Prop :=
 loopW [.sc .ptr, .sc (.int .i64), .sc .str, .sc .slc, .sc (.int .i64)] (fun (R4 : Option Addr -> Int -> ByteArray -> Sl -> Int -> H -> Prop) => (fun (f_5 : Option Addr) (dir_6 : Int) (name_7 : ByteArray) (l_8 : Sl) (i_9 : Int) => ptrW f_5 (fun b10 o11 => rdT (rdC b10 (o11 + 2)) kL (fun x12 => ptrW x12.base (fun b13 o14 => ifW (0 <= dir_6 /\ dir_6 < ((x12.len : Nat) : Int)) (rdT (rdC b13 (o14 + dir_6.toNat * 1)) kP (fun x15 => ptrW x15 (fun b16 o17 => rdT (rdC b16 (o17 + 3)) kL (fun x18 =>
 brW (decide ((i_9 : Int) < ((x18.len : Nat) : Int))) (letJ (T := Option Addr -> Int -> ByteArray -> Sl -> Int -> H -> Prop) (fun f_20 dir_21 name_22 l_23 i_24 => R4 f_20 dir_21 name_22 l_23 (IntKind.i64.wrap (i_24 + 1))) (fun j19 => ptrW f_5 (fun b25 o26 => rdT (rdC b25 (o26 + 2)) kL (fun x27 => ptrW x27.base (fun b28 o29 => ifW (0 <= dir_6 /\ dir_6 < ((x27.len : Nat) : Int)) (rdT (rdC b28 (o29 + dir_6.toNat * 1)) kP (fun x30 => ptrW x30 (fun b31 o32 => rdT (rdC b31 (o32 + 3)) kL (fun x33 =>
 ptrW x33.base (fun b34 o35 => ifW (0 <= i_9 /\ i_9 < ((x33.len : Nat) : Int)) (rdT (rdC b34 (o35 + i_9.toNat * 2)) kS (fun (x36 : ByteArray) => brW (!strEq x36 name_7) (ptrW f_5 (fun b37 o38 => rdT (rdC b37 (o38 + 2)) kL (fun x39 => ptrW x39.base (fun b40 o41 => ifW (0 <= dir_6 /\ dir_6 < ((x39.len : Nat) : Int)) (rdT (rdC b40 (o41 + dir_6.toNat * 1)) kP (fun x42 => ptrW x42 (fun b43 o44 => rdT (rdC b43 (o44 + 3)) kL (fun x45 => ptrW x45.base (fun b46 o47 =>
 ifW (0 <= i_9 /\ i_9 < ((x45.len : Nat) : Int)) (rdT (rdA 2 b46 (o47 + i_9.toNat * 2)) (.one (.agg [.str, (.int .i64)])) (fun (x48 : ByteArray) (x49 : Int) => alW (.cells ⟨[.string x48, .int .i64 x49]⟩ 245 (0, 0)) (fun b50 => biW Tryz.prog .append #[129, 129] 129 [false, false] [.slice l_8.base l_8.len l_8.cap, .slice (some ⟨b50, 0, none⟩) 1 1] kL (fun x51 => j19 f_5 dir_6 name_7 x51 i_9))))))))))))) (j19 f_5 dir_6 name_7 l_8 i_9))))))))))))) (ptrW f_5 (fun b52 o53 =>
 rdT (rdC b52 (o53 + 2)) kL (fun x54 => ptrW x54.base (fun b55 o56 => ifW (0 <= dir_6 /\ dir_6 < ((x54.len : Nat) : Int)) (rdT (rdC b55 (o56 + dir_6.toNat * 1)) kP (fun x57 => ptrW x57 (fun b58 o59 => stW Tryz.prog 129 (.pointer (some ⟨b58, o59 + 3, none⟩)) (.slice l_8.base l_8.len l_8.cap) (K (.tuple ⟨[]⟩)))))))))))))))))) (fun (R60 : Option Addr -> Int -> ByteArray -> Sl -> Int -> H -> Prop) => R60 f_1 dir_2 name_3 ⟨none, 0, 0⟩ 0)
theorem e148 (f_1 : Option Addr) (dir_2 : Int) (name_3 : ByteArray) (K : KH) : bodyF Tryz.prog tau Tryz.f148 an148 [.pointer f_1, .int .i64 dir_2, .string name_3] K = g148 f_1 dir_2 name_3 K := by kernel_rfl
theorem c148 (f_1 : Option Addr) (dir_2 : Int) (name_3 : ByteArray) {K : KH} {σ : H} (h : g148 f_1 dir_2 name_3 K σ) : callW Tryz.prog 148 [.pointer f_1, .int .i64 dir_2, .string name_3] K σ := call_of_body mixed Tryz.func148 (by rw [e148]; exact h)


def an149 : Ann := (.q (.cond .r .z))
def g149 (f_1 : Option Addr) (ino_2 : Int) (K : KH) : H -> Prop :=
 callT Tryz.prog 203 [.pointer f_1, .int .i64 ino_2] kI (fun (x3 : Int) => brW ((x3 : Int) == 0) (ptrW f_1 (fun b4 o5 => rdT (rdC b4 (o5 + 2)) kL (fun x6 => ptrW x6.base (fun b7 o8 => ifW (0 <= ino_2 /\ ino_2 < ((x6.len : Nat) : Int)) (stW Tryz.prog 128 (.pointer (some ⟨b7, o8 + ino_2.toNat * 1, none⟩)) (.pointer none) (K (.tuple ⟨[]⟩))))))) (K (.tuple ⟨[]⟩)))
theorem e149 (f_1 : Option Addr) (ino_2 : Int) (K : KH) : bodyF Tryz.prog tau Tryz.f149 an149 [.pointer f_1, .int .i64 ino_2] K = g149 f_1 ino_2 K := by kernel_rfl
theorem c149 (f_1 : Option Addr) (ino_2 : Int) {K : KH} {σ : H} (h : g149 f_1 ino_2 K σ) : callW Tryz.prog 149 [.pointer f_1, .int .i64 ino_2] K σ := call_of_body mixed Tryz.func149 (by rw [e149]; exact h)


def an150 : Ann := (.q (.q (.n (.seq (some [(10,.p),(11,.i),(26,.b)]) .r (.h)) (.q .z))))
def g150 (f_1 : Option Addr) (cwd_2 : ByteArray) (path_3 : ByteArray) (follow_4 : Bool) (K : KH) : H -> Prop :=
 callT Tryz.prog 126 [.pointer f_1, .string cwd_2, .string path_3, .bool follow_4] (.tup [.agg [(.int .i64), .str, (.int .i64)], .sc (.int .i64)]) (fun (x5 : Int) (x6 : ByteArray) (x7 : Int) (x8 : Int) => alW (.cells ⟨[.int .i64 0, .string (⟨⟨[]⟩⟩ : ByteArray), .int .i64 0]⟩ 171 (0, 0)) (fun b9 => stW Tryz.prog 171 (.pointer (some ⟨b9, 0, none⟩)) (.agg ⟨[.int .i64 x5, .string x6, .int .i64 x7]⟩) (letJ (T := Option Addr -> Int -> Bool -> H -> Prop) (fun p_11 e_12 x13 => brW x13
 (K (.tuple ⟨[.int .i64 0, .int .i64 5]⟩)) (ptrW p_11 (fun b14 o15 => rdT (rdC b14 (o15 + 2)) kI (fun (x16 : Int) => K (.tuple ⟨[.int .i64 x16, .int .i64 e_12]⟩))))) (fun j10 => brW ((x8 : Int) == 0) (rdT (rdC b9 2) kI (fun (x17 : Int) => j10 (some ⟨b9, 0, none⟩) x8 (decide ((x17 : Int) < 0)))) (j10 (some ⟨b9, 0, none⟩) x8 false)))))
theorem e150 (f_1 : Option Addr) (cwd_2 : ByteArray) (path_3 : ByteArray) (follow_4 : Bool) (K : KH) : bodyF Tryz.prog tau Tryz.f150 an150 [.pointer f_1, .string cwd_2, .string path_3, .bool follow_4] K = g150 f_1 cwd_2 path_3 follow_4 K := by kernel_rfl
theorem c150 (f_1 : Option Addr) (cwd_2 : ByteArray) (path_3 : ByteArray) (follow_4 : Bool) {K : KH} {σ : H} (h : g150 f_1 cwd_2 path_3 follow_4 K σ) : callW Tryz.prog 150 [.pointer f_1, .string cwd_2, .string path_3, .bool follow_4] K σ := call_of_body mixed Tryz.func150 (by rw [e150]; exact h)


def an151 : Ann := (.q (.q (.q .z)))
def g151 (x1 : Option Addr) (x2 : Option Addr) (K : KH) : H -> Prop :=
 ptrW x1 (fun b3 o4 => rdT (rdC b3 (o4 + 1)) kI (fun (x5 : Int) => ptrW x2 (fun b6 o7 => stW Tryz.prog 4 (.pointer (some ⟨b6, o7 + 2, none⟩)) (.bool (((bitV .and .i64 x5 73) : Int) != 0)) (K (.int .i64 0)))))
theorem e151 (x1 : Option Addr) (x2 : Option Addr) (K : KH) : bodyF Tryz.prog tau Tryz.f151 an151 [.pointer x1, .pointer x2] K = g151 x1 x2 K := by kernel_rfl
theorem c151 (x1 : Option Addr) (x2 : Option Addr) {K : KH} {σ : H} (h : g151 x1 x2 K σ) : callW Tryz.prog 151 [.pointer x1, .pointer x2] K σ := call_of_body mixed Tryz.func151 (by rw [e151]; exact h)


def an152 : Ann := (.q (.seq (some [(3,.p)]) (.q (.blk (.rf [.agg [.str,(.int .i64),.bool,.str,.slc],.i] (.q .r) (.blk (.n (.q (.h)) (.reg2 [0,1,2,3,4,5,6,8] 7 [9] 9 [7] [[],[0],[],[0,1],[],(rn 5),(rn 6),(rn 7),(rn 6),[0,1,2,3,4,5,8]])))))) (.q .z)))
def g152 (x1 : Option Addr) (x2 : Option Addr) (x3 : Option Addr) (K : KH) : H -> Prop :=
 alW (.cells ⟨[.int .i64 0]⟩ 36 (0, 0)) (fun b4 => letJ (T := Option Addr -> H -> Prop) (fun x6 => stW Tryz.prog 36 (.pointer x6) (.int .i64 0) (ptrW x6 (fun b7 o8 => rdT (rdC b7 o8) kI (fun (r9 : Int) => K (.int .i64 r9))))) (fun j5 => ptrW x1 (fun b10 o11 => rdT (rdA 1 b10 o11) (.one (.agg [.ptr])) (fun x12 => ptrW x2 (fun b13 o14 => rdT (rdC b13 o14) kS (fun (x15 : ByteArray) => callT Tryz.prog 153 [.agg ⟨[.pointer x12]⟩, .string x15] kR (fun x16 =>
 funW x16 (fun (g42 : FuncId) (as43 cs44 : List Value) => rfW Tryz.prog none g42 as43 cs44 [.agg [.str, (.int .i64), .bool, .str, .slc], .sc (.int .i64)] (fun (l17 : Nat) (obj18 : LoopState -> Option Code -> Obj) (K19 : Value -> H -> Prop) => (fun (x20 : ByteArray) (x21 : Int) (x22 : Bool) (x23 : ByteArray) (x24 : Sl) (x25 : Int) => alW (.cells ⟨[.string (⟨⟨[]⟩⟩ : ByteArray), .int .i64 0, .bool false, .string (⟨⟨[]⟩⟩ : ByteArray), .slice none 0 0]⟩ 73 (0, 0)) (fun b26 =>
 stW Tryz.prog 73 (.pointer (some ⟨b26, 0, none⟩)) (.agg ⟨[.string x20, .int .i64 x21, .bool x22, .string x23, .slice x24.base x24.len x24.cap]⟩) (begW l17 obj18 (brW ((x25 : Int) != 0) (stW Tryz.prog 36 (.pointer (some ⟨b4, 0, none⟩)) (.int .i64 x25) (roundK l17 obj18 K19 (some .ret) false .done)) (ptrW x3 (fun b27 o28 => rdT (rdC b27 (o28 + 4)) kL (fun x29 =>
 rdT (rdA 5 b26 0) (.one (.agg [.str, (.int .i64), .bool, .str, .slc])) (fun (x30 : ByteArray) (x31 : Int) (x32 : Bool) (x33 : ByteArray) (x34 : Sl) => alW (.cells ⟨[.string (⟨⟨[]⟩⟩ : ByteArray), .int .i64 0, .bool false, .string (⟨⟨[]⟩⟩ : ByteArray), .slice none 0 0]⟩ 73 (0, 0)) (fun b35 => biW Tryz.prog .append #[71, 71] 71 [false, false] [.slice x29.base x29.len x29.cap, .slice (some ⟨b35, 0, none⟩) 1 1] kL (fun x36 => ptrW x36.base (fun b37 o38 =>
 ifW (0 <= ((x29.len : Nat) : Int) /\ ((x29.len : Nat) : Int) < ((x36.len : Nat) : Int)) (ptrW x3 (fun b39 o40 => bothW (stW Tryz.prog 73 (.pointer (some ⟨b37, o38 + (((x29.len : Nat) : Int) : Int).toNat * 5, none⟩)) (.agg ⟨[.string x30, .int .i64 x31, .bool x32, .string x33, .slice x34.base x34.len x34.cap]⟩) (stW Tryz.prog 71 (.pointer (some ⟨b39, o40 + 4, none⟩)) (.slice x36.base x36.len x36.cap) (roundK l17 obj18 K19 none true .ready)))
 (stW Tryz.prog 71 (.pointer (some ⟨b39, o40 + 4, none⟩)) (.slice x36.base x36.len x36.cap) (stW Tryz.prog 73 (.pointer (some ⟨b37, o38 + (((x29.len : Nat) : Int) : Int).toNat * 5, none⟩)) (.agg ⟨[.string x30, .int .i64 x31, .bool x32, .string x33, .slice x34.base x34.len x34.cap]⟩) (roundK l17 obj18 K19 none true .ready))))))))))))))))) (j5 (some ⟨b4, 0, none⟩)) (fun i41 => exW i41 0 (j5 (some ⟨b4, 0, none⟩)) (nW)) (rdT (rdC b4 0) kI (fun (r45 : Int) => K (.int .i64 r45)))))))))))
theorem e152 (x1 : Option Addr) (x2 : Option Addr) (x3 : Option Addr) (K : KH) : bodyF Tryz.prog tau Tryz.f152 an152 [.pointer x1, .pointer x2, .pointer x3] K = g152 x1 x2 x3 K := by kernel_rfl
theorem c152 (x1 : Option Addr) (x2 : Option Addr) (x3 : Option Addr) {K : KH} {σ : H} (h : g152 x1 x2 x3 K σ) : callW Tryz.prog 152 [.pointer x1, .pointer x2, .pointer x3] K σ := call_of_body mixed Tryz.func152 (by rw [e152]; exact h)


def an153 : Ann := (.q (.q .z))
def g153 (t_1 : Option Addr) (path_2 : ByteArray) (K : KH) : H -> Prop :=
 alW (.cells ⟨[.pointer t_1]⟩ 136 (0, 0)) (fun b3 => alW (.cells ⟨[.string path_2]⟩ 9 (0, 0)) (fun b4 => K (.func (.func 204) ⟨[]⟩ ⟨[.pointer (some ⟨b3, 0, none⟩), .pointer (some ⟨b4, 0, none⟩)]⟩)))
theorem e153 (t_1 : Option Addr) (path_2 : ByteArray) (K : KH) : bodyF Tryz.prog tau Tryz.f153 an153 [.agg ⟨[.pointer t_1]⟩, .string path_2] K = g153 t_1 path_2 K := by kernel_rfl
theorem c153 (t_1 : Option Addr) (path_2 : ByteArray) {K : KH} {σ : H} (h : g153 t_1 path_2 K σ) : callW Tryz.prog 153 [.agg ⟨[.pointer t_1]⟩, .string path_2] K σ := call_of_body mixed Tryz.func153 (by rw [e153]; exact h)


def an154 : Ann := (.q (.q (.q (.n (.q (.blk (.q (.cond (.q .z) (.q (.cond (.q .z) (.q (.h)))))))) (.q .z)))))
def g154 (n_1 : ByteArray) (n_2 : Int) (n_3 : Bool) (n_4 : ByteArray) (n_5 : Sl) (K : KH) : H -> Prop :=
 alW (.cells ⟨[.string n_1, .int .i64 n_2, .bool n_3, .string n_4, .slice n_5.base n_5.len n_5.cap]⟩ 73 (0, 0)) (fun b6 => rdT (rdC b6 1) kI (fun (x7 : Int) => brW ((x7 : Int) == 1) (callT Tryz.prog 206 [.pointer (some ⟨b6, 0, none⟩)] kB (fun x8 => K (.bool x8))) (brW ((x7 : Int) == 3) (alW (.cells ⟨[.func (.func 206) ⟨[]⟩ ⟨[.pointer (some ⟨b6, 0, none⟩)]⟩, .func (.func 207) ⟨[]⟩ ⟨[.pointer (some ⟨b6, 0, none⟩)]⟩, .func (.func 209) ⟨[]⟩ ⟨[.pointer (some ⟨b6, 0, none⟩)]⟩]⟩ 23 (0, 0)) (fun b9 =>
 callT Tryz.prog 208 [.slice (some ⟨b9, 0, none⟩) 3 3] kB (fun x10 => K (.bool x10)))) (brW ((x7 : Int) == 2) (alW (.cells ⟨[.func (.func 207) ⟨[]⟩ ⟨[.pointer (some ⟨b6, 0, none⟩)]⟩, .func (.func 210) ⟨[]⟩ ⟨[.pointer (some ⟨b6, 0, none⟩)]⟩, .func (.func 211) ⟨[]⟩ ⟨[.pointer (some ⟨b6, 0, none⟩)]⟩]⟩ 23 (0, 0)) (fun b11 => callT Tryz.prog 208 [.slice (some ⟨b11, 0, none⟩) 3 3] kB (fun x12 => K (.bool x12)))) (K (.bool false))))))
theorem e154 (n_1 : ByteArray) (n_2 : Int) (n_3 : Bool) (n_4 : ByteArray) (n_5 : Sl) (K : KH) : bodyF Tryz.prog tau Tryz.f154 an154 [.agg ⟨[.string n_1, .int .i64 n_2, .bool n_3, .string n_4, .slice n_5.base n_5.len n_5.cap]⟩] K = g154 n_1 n_2 n_3 n_4 n_5 K := by kernel_rfl
theorem c154 (n_1 : ByteArray) (n_2 : Int) (n_3 : Bool) (n_4 : ByteArray) (n_5 : Sl) {K : KH} {σ : H} (h : g154 n_1 n_2 n_3 n_4 n_5 K σ) : callW Tryz.prog 154 [.agg ⟨[.string n_1, .int .i64 n_2, .bool n_3, .string n_4, .slice n_5.base n_5.len n_5.cap]⟩] K σ := call_of_body mixed Tryz.func154 (by rw [e154]; exact h)


def an155 : Ann := (.q (.q (.n (.q (.h)) (.q (.n (.reg (rn 18) [[],[0],[0,1],[0,1,2],[],[4],[4,5],[4,5,6],[],[8],[8,9],[8,9,10],[],[],[12,13],(rn 15),(rn 16),(rn 17)]) .z)))))
def g155 (f_1 : Option Addr) (cwd_2 : ByteArray) (path_3 : ByteArray) (follow_4 : Bool) (K : KH) : H -> Prop :=
 alW (.cells ⟨[.int .i64 0, .int .i64 0, .string (⟨⟨[]⟩⟩ : ByteArray), .int .i64 0]⟩ 35 (0, 0)) (fun b5 => callT Tryz.prog 150 [.pointer f_1, .string cwd_2, .string path_3, .bool follow_4] (.tup [.sc (.int .i64), .sc (.int .i64)]) (fun (x6 : Int) (x7 : Int) => brW ((x7 : Int) != 0)
 (stW Tryz.prog 35 (.pointer (some ⟨b5, 0, none⟩)) (.agg ⟨[.int .i64 0, .int .i64 0, .string (⟨⟨[]⟩⟩ : ByteArray), .int .i64 0]⟩) (rdT (rdA 4 b5 0) (.one (.agg [(.int .i64), (.int .i64), .str, (.int .i64)])) (fun (r8 : Int) (r9 : Int) (r10 : ByteArray) (r11 : Int) => K (.tuple ⟨[.agg ⟨[.int .i64 r8, .int .i64 r9, .string r10, .int .i64 r11]⟩, .int .i64 x7]⟩)))) (ptrW f_1 (fun b12 o13 => rdT (rdC b12 (o13 + 2)) kL (fun x14 => ptrW x14.base (fun b15 o16 =>
 ifW (0 <= x6 /\ x6 < ((x14.len : Nat) : Int)) (rdT (rdC b15 (o16 + x6.toNat * 1)) kP (fun x17 => ptrW x17 (fun b18 o19 => rdT (rdC b18 o19) kI (fun (x20 : Int) => ptrW x17 (fun b21 o22 => rdT (rdC b21 (o22 + 1)) kI (fun (x23 : Int) => ptrW x17 (fun b24 o25 => rdT (rdC b24 (o25 + 2)) kS (fun (x26 : ByteArray) => callT Tryz.prog 203 [.pointer f_1, .int .i64 x6] kI (fun (x27 : Int) => andW (fun σ => (rdC b24 (o25 + 2)) σ = some (.string x26))
 (andW (fun σ => (rdC b21 (o22 + 1)) σ = some (.int .i64 x23)) (andW (fun σ => (rdC b18 o19) σ = some (.int .i64 x20)) (stW Tryz.prog 35 (.pointer (some ⟨b5, 0, none⟩)) (.agg ⟨[.int .i64 x20, .int .i64 x23, .string x26, .int .i64 x27]⟩) (rdT (rdA 4 b5 0) (.one (.agg [(.int .i64), (.int .i64), .str, (.int .i64)])) (fun (r28 : Int) (r29 : Int) (r30 : ByteArray) (r31 : Int) => K (.tuple ⟨[.agg ⟨[.int .i64 r28, .int .i64 r29, .string r30, .int .i64 r31]⟩, .int .i64 0]⟩)))))))))))))))))))))
theorem e155 (f_1 : Option Addr) (cwd_2 : ByteArray) (path_3 : ByteArray) (follow_4 : Bool) (K : KH) : bodyF Tryz.prog tau Tryz.f155 an155 [.pointer f_1, .string cwd_2, .string path_3, .bool follow_4] K = g155 f_1 cwd_2 path_3 follow_4 K := by kernel_rfl
theorem c155 (f_1 : Option Addr) (cwd_2 : ByteArray) (path_3 : ByteArray) (follow_4 : Bool) {K : KH} {σ : H} (h : g155 f_1 cwd_2 path_3 follow_4 K σ) : callW Tryz.prog 155 [.pointer f_1, .string cwd_2, .string path_3, .bool follow_4] K σ := call_of_body mixed Tryz.func155 (by rw [e155]; exact h)


def an156 : Ann := (.q (.q (.n (.q (.h)) (.n (.q (.h)) (.q (.n (.q (.blk (.loop [(0,.p),(8,.i),(10,.l),(11,.i)] (.n (.q (.cond .z .z)) (.n (.blk .r) .r))))) (.q .z)))))))
def g156 (f_1 : Option Addr) (cwd_2 : ByteArray) (path_3 : ByteArray) (K : KH) : H -> Prop :=
 callT Tryz.prog 150 [.pointer f_1, .string cwd_2, .string path_3, .bool true] (.tup [.sc (.int .i64), .sc (.int .i64)]) (fun (x4 : Int) (x5 : Int) => brW ((x5 : Int) != 0) (K (.tuple ⟨[.slice none 0 0, .int .i64 x5]⟩)) (ptrW f_1 (fun b6 o7 => rdT (rdC b6 (o7 + 2)) kL (fun x8 => ptrW x8.base (fun b9 o10 => ifW (0 <= x4 /\ x4 < ((x8.len : Nat) : Int)) (rdT (rdC b9 (o10 + x4.toNat * 1)) kP (fun x11 => ptrW x11 (fun b12 o13 => rdT (rdC b12 o13) kI (fun (x14 : Int) => brW ((x14 : Int) != 2)
 (K (.tuple ⟨[.slice none 0 0, .int .i64 8]⟩)) (loopW [.sc .ptr, .sc (.int .i64), .sc .slc, .sc (.int .i64)] (fun (R15 : Option Addr -> Int -> Sl -> Int -> H -> Prop) => (fun (f_16 : Option Addr) (n_17 : Int) (out_18 : Sl) (i_19 : Int) => ptrW f_16 (fun b20 o21 => rdT (rdC b20 (o21 + 2)) kL (fun x22 => ptrW x22.base (fun b23 o24 => ifW (0 <= n_17 /\ n_17 < ((x22.len : Nat) : Int)) (rdT (rdC b23 (o24 + n_17.toNat * 1)) kP (fun x25 => ptrW x25 (fun b26 o27 => rdT (rdC b26 (o27 + 3)) kL (fun x28 =>
 brW (decide ((i_19 : Int) < ((x28.len : Nat) : Int))) (ptrW f_16 (fun b29 o30 => rdT (rdC b29 (o30 + 2)) kL (fun x31 => ptrW x31.base (fun b32 o33 => ifW (0 <= n_17 /\ n_17 < ((x31.len : Nat) : Int)) (rdT (rdC b32 (o33 + n_17.toNat * 1)) kP (fun x34 => ptrW x34 (fun b35 o36 => rdT (rdC b35 (o36 + 3)) kL (fun x37 => ptrW x37.base (fun b38 o39 => ifW (0 <= i_19 /\ i_19 < ((x37.len : Nat) : Int)) (rdT (rdC b38 (o39 + i_19.toNat * 2)) kS (fun (x40 : ByteArray) =>
 alW (.cells ⟨[.string x40]⟩ 9 (0, 0)) (fun b41 => biW Tryz.prog .append #[22, 22] 22 [false, false] [.slice out_18.base out_18.len out_18.cap, .slice (some ⟨b41, 0, none⟩) 1 1] kL (fun x42 => R15 f_16 n_17 x42 (IntKind.i64.wrap (i_19 + 1))))))))))))))) (K (.tuple ⟨[.slice out_18.base out_18.len out_18.cap, .int .i64 0]⟩))))))))))) (fun (R43 : Option Addr -> Int -> Sl -> Int -> H -> Prop) => R43 f_1 x4 ⟨none, 0, 0⟩ 0)))))))))))
theorem e156 (f_1 : Option Addr) (cwd_2 : ByteArray) (path_3 : ByteArray) (K : KH) : bodyF Tryz.prog tau Tryz.f156 an156 [.pointer f_1, .string cwd_2, .string path_3] K = g156 f_1 cwd_2 path_3 K := by kernel_rfl
theorem c156 (f_1 : Option Addr) (cwd_2 : ByteArray) (path_3 : ByteArray) {K : KH} {σ : H} (h : g156 f_1 cwd_2 path_3 K σ) : callW Tryz.prog 156 [.pointer f_1, .string cwd_2, .string path_3] K σ := call_of_body mixed Tryz.func156 (by rw [e156]; exact h)


def an157 : Ann := (.q (.n (.q (.blk (.q (.cond (.q .z) (.q (.cond (.n (.q (.blk (.loop [(1,.p),(3,.i)] (.n (.q (.cond .z .z)) (.n (.blk (.q (.h))) .r))))) (.q .z)) (.q (.cond (.n (.q (.blk (.loop [(1,.p),(4,.i)] (.n (.q (.cond .z .z)) (.n (.blk (.seq (some [(1,.p),(4,.i),(66,.w),(67,.w),(68,.w),(69,.w),(70,.w),(71,.w),(72,.w),(75,.w),(76,.w),(77,.w),(78,.w),(79,.w),(80,.w),(81,.w),(82,.w),(83,.w),(84,.w),(85,.w),(86,.w),(87,.w),(88,.w),(89,.w),(90,.w),(91,.w),(92,.w),(93,.b)]) (.reg (rn 37) [[],[0],[],[0,1,2],(rn 4),(rn 5),(rn 6),(rn 7),(rn 8),(rn 9),(rn 10),(rn 9),(rn 12),(rn 13),(rn 14),(rn 15),(rn 16),(rn 17),(rn 18),(rn 19),(rn 20),(rn 21),(rn 22),(rn 21),[0,1,2,3,4,5,6,7,8,9,10,11,12,13,14,15,16,17,18,19,20,23],(rn 25),(rn 26),(rn 27),(rn 21),[0,1,2,3,4,5,6,7,8,9,10,11,12,13,14,15,16,17,18,19,20,28],(rn 21),[0,1,2,3,4,5,6,7,8,9,10,11,12,13,14,15,16,17,18,19,20,28,29,30],[0,1,2,3,4,5,6,7,8,9,10,11,12,13,14,15,16,17,18,19,20,28,29,30,31],[0,1,2,3,4,5,6,7,8,9,10,11,12,13,14,15,16,17,18,19,20,28,29,30,31,32],(rn 34),(rn 35),(rn 36)]) (.h))) .r))))) (.q .z)) .z)))))))) (.q .z)))
def g157 (n_1 : ByteArray) (n_2 : Int) (n_3 : Bool) (n_4 : ByteArray) (n_5 : Sl) (K : KH) : H -> Prop :=
 alW (.cells ⟨[.string n_1, .int .i64 n_2, .bool n_3, .string n_4, .slice n_5.base n_5.len n_5.cap]⟩ 73 (0, 0)) (fun b6 => rdT (rdC b6 1) kI (fun (x7 : Int) => brW ((x7 : Int) == 1) (rdT (rdC b6 4) kL (fun x8 => K (.bool ((((x8.len : Nat) : Int) : Int) == 0)))) (brW ((x7 : Int) == 3) (loopW [.sc .ptr, .sc (.int .i64)] (fun (R9 : Option Addr -> Int -> H -> Prop) => (fun (n_10 : Option Addr) (i_11 : Int) => ptrW n_10 (fun b12 o13 => rdT (rdC b12 (o13 + 3)) kS (fun (x14 : ByteArray) =>
 brW (decide ((i_11 : Int) < ((x14.size : Nat) : Int))) (ptrW n_10 (fun b15 o16 => rdT (rdC b15 (o16 + 3)) kS (fun (x17 : ByteArray) => idxW x17 i_11 (fun c18 => brW (((c18.toNat : Int) : Int) == 0) (K (.bool false)) (R9 n_10 (IntKind.i64.wrap (i_11 + 1))))))) (ptrW n_10 (fun b19 o20 => rdT (rdC b19 (o20 + 2)) kB (fun x21 => brW (!x21) (ptrW n_10 (fun b22 o23 => rdT (rdC b22 (o23 + 4)) kL (fun x24 => brW ((((x24.len : Nat) : Int) : Int) == 0) (ptrW n_10 (fun b25 o26 =>
 rdT (rdC b25 (o26 + 3)) kS (fun (x27 : ByteArray) => brW (decide ((((x27.size : Nat) : Int) : Int) >= 1)) (ptrW n_10 (fun b28 o29 => rdT (rdC b28 (o29 + 3)) kS (fun (x30 : ByteArray) => K (.bool (decide ((((x30.size : Nat) : Int) : Int) <= 255)))))) (K (.bool false))))) (K (.bool false))))) (K (.bool false))))))))) (fun (R31 : Option Addr -> Int -> H -> Prop) => R31 (some ⟨b6, 0, none⟩) 0)) (brW ((x7 : Int) == 2)
 (loopW [.sc .ptr, .sc (.int .i64)] (fun (R32 : Option Addr -> Int -> H -> Prop) => (fun (n_33 : Option Addr) (i_34 : Int) => ptrW n_33 (fun b35 o36 => rdT (rdC b35 (o36 + 4)) kL (fun x37 => brW (decide ((i_34 : Int) < ((x37.len : Nat) : Int)))
 (letJ (T := Option Addr -> Int -> Value -> Value -> Value -> Value -> Value -> Value -> Value -> Value -> Value -> Value -> Value -> Value -> Value -> Value -> Value -> Value -> Value -> Value -> Value -> Value -> Value -> Value -> Value -> Value -> Value -> Bool -> H -> Prop) (fun n_39 i_40 _x41 _x42 _x43 _x44 _x45 _x46 _x47 _x48 _x49 _x50 _x51 _x52 _x53 _x54 _x55 _x56 _x57 _x58 _x59 _x60 _x61 _x62 _x63 _x64 _x65 x66 => brW x66 (K (.bool false)) (R32 n_39 (IntKind.i64.wrap (i_40 + 1)))) (fun j38 =>
 ptrW n_33 (fun b67 o68 => rdT (rdC b67 (o68 + 4)) kL (fun x69 => ptrW x69.base (fun b70 o71 => ifW (0 <= i_34 /\ i_34 < ((x69.len : Nat) : Int)) (rdT (rdC b70 (o71 + i_34.toNat * 5)) kS (fun (x72 : ByteArray) => callT Tryz.prog 213 [.string x72] kB (fun x73 => brW (!x73)
 (j38 n_33 i_34 (.tuple ⟨[]⟩) (.tuple ⟨[]⟩) (.tuple ⟨[]⟩) (.tuple ⟨[]⟩) (.tuple ⟨[]⟩) (.tuple ⟨[]⟩) (.tuple ⟨[]⟩) (.tuple ⟨[]⟩) (.tuple ⟨[]⟩) (.tuple ⟨[]⟩) (.tuple ⟨[]⟩) (.tuple ⟨[]⟩) (.tuple ⟨[]⟩) (.tuple ⟨[]⟩) (.tuple ⟨[]⟩) (.tuple ⟨[]⟩) (.tuple ⟨[]⟩) (.tuple ⟨[]⟩) (.tuple ⟨[]⟩) (.tuple ⟨[]⟩) (.tuple ⟨[]⟩) (.tuple ⟨[]⟩) (.tuple ⟨[]⟩) (.tuple ⟨[]⟩) (.tuple ⟨[]⟩) true) (ptrW n_33 (fun b74 o75 => rdT (rdC b74 (o75 + 4)) kL (fun x76 => ptrW x76.base (fun b77 o78 =>
 ifW (0 <= i_34 /\ i_34 < ((x76.len : Nat) : Int)) (rdT (rdA 5 b77 (o78 + i_34.toNat * 5)) (.one (.agg [.str, (.int .i64), .bool, .str, .slc])) (fun (x79 : ByteArray) (x80 : Int) (x81 : Bool) (x82 : ByteArray) (x83 : Sl) => callT Tryz.prog 157 [.agg ⟨[.string x79, .int .i64 x80, .bool x81, .string x82, .slice x83.base x83.len x83.cap]⟩] kB (fun x84 => brW (!x84)
 (j38 n_33 i_34 (.pointer (some ⟨b74, o75 + 4, none⟩)) (.slice x76.base x76.len x76.cap) (.int .i64 i_34) (.pointer (some ⟨b77, o78 + i_34.toNat * 5, none⟩)) (.agg ⟨[.string x79, .int .i64 x80, .bool x81, .string x82, .slice x83.base x83.len x83.cap]⟩) (.bool x84) (.bool (!x84)) (.tuple ⟨[]⟩) (.tuple ⟨[]⟩) (.tuple ⟨[]⟩) (.tuple ⟨[]⟩) (.tuple ⟨[]⟩) (.tuple ⟨[]⟩) (.tuple ⟨[]⟩) (.tuple ⟨[]⟩) (.tuple ⟨[]⟩) (.tuple ⟨[]⟩) (.tuple ⟨[]⟩) (.tuple ⟨[]⟩) (.tuple ⟨[]⟩) (.tuple ⟨[]⟩) (.tuple ⟨[]⟩) (.tuple ⟨[]⟩) (.tuple ⟨[]⟩) (.tuple ⟨[]⟩) true)
 (brW (decide ((i_34 : Int) > 0)) (ptrW n_33 (fun b85 o86 => rdT (rdC b85 (o86 + 4)) kL (fun x87 => ptrW x87.base (fun b88 o89 => ifW (0 <= IntKind.i64.wrap (i_34 - 1) /\ IntKind.i64.wrap (i_34 - 1) < ((x87.len : Nat) : Int)) (rdT (rdC b88 (o89 + (IntKind.i64.wrap (i_34 - 1) : Int).toNat * 5)) kS (fun (x90 : ByteArray) => ptrW n_33 (fun b91 o92 => rdT (rdC b91 (o92 + 4)) kL (fun x93 => ptrW x93.base (fun b94 o95 => ifW (0 <= i_34 /\ i_34 < ((x93.len : Nat) : Int))
 (rdT (rdC b94 (o95 + i_34.toNat * 5)) kS (fun (x96 : ByteArray) =>
 j38 n_33 i_34 (.pointer (some ⟨b74, o75 + 4, none⟩)) (.slice x76.base x76.len x76.cap) (.int .i64 i_34) (.pointer (some ⟨b77, o78 + i_34.toNat * 5, none⟩)) (.agg ⟨[.string x79, .int .i64 x80, .bool x81, .string x82, .slice x83.base x83.len x83.cap]⟩) (.bool x84) (.bool (!x84)) (.int .i64 i_34) (.bool (decide ((i_34 : Int) > 0))) (.bool true) (.pointer (some ⟨b85, o86 + 4, none⟩)) (.slice x87.base x87.len x87.cap) (.int .i64 i_34) (.int .i64 (IntKind.i64.wrap (i_34 - 1))) (.pointer (some ⟨b88, o89 + (IntKind.i64.wrap (i_34 - 1) : Int).toNat * 5, none⟩)) (.pointer (some ⟨b88, o89 + (IntKind.i64.wrap (i_34 - 1) : Int).toNat * 5, none⟩)) (.string x90) (.pointer (some ⟨b91, o92 + 4, none⟩)) (.slice x93.base x93.len x93.cap) (.int .i64 i_34) (.pointer (some ⟨b94, o95 + i_34.toNat * 5, none⟩)) (.pointer (some ⟨b94, o95 + i_34.toNat * 5, none⟩)) (.string x96) (.bool (!strLt x90 x96)) (.bool (!strLt x90 x96)) (!strLt x90 x96))))))))))))
 (j38 n_33 i_34 (.pointer (some ⟨b74, o75 + 4, none⟩)) (.slice x76.base x76.len x76.cap) (.int .i64 i_34) (.pointer (some ⟨b77, o78 + i_34.toNat * 5, none⟩)) (.agg ⟨[.string x79, .int .i64 x80, .bool x81, .string x82, .slice x83.base x83.len x83.cap]⟩) (.bool x84) (.bool (!x84)) (.int .i64 i_34) (.bool (decide ((i_34 : Int) > 0))) (.bool false) (.tuple ⟨[]⟩) (.tuple ⟨[]⟩) (.tuple ⟨[]⟩) (.tuple ⟨[]⟩) (.tuple ⟨[]⟩) (.tuple ⟨[]⟩) (.tuple ⟨[]⟩) (.tuple ⟨[]⟩) (.tuple ⟨[]⟩) (.tuple ⟨[]⟩) (.tuple ⟨[]⟩) (.tuple ⟨[]⟩) (.tuple ⟨[]⟩) (.tuple ⟨[]⟩) (.bool false) false)))))))))))))))))
 (ptrW n_33 (fun b97 o98 => rdT (rdC b97 (o98 + 2)) kB (fun x99 => brW (!x99) (ptrW n_33 (fun b100 o101 => rdT (rdC b100 (o101 + 3)) kS (fun (x102 : ByteArray) => K (.bool (strEq x102 (⟨⟨[]⟩⟩ : ByteArray)))))) (K (.bool false))))))))) (fun (R103 : Option Addr -> Int -> H -> Prop) => R103 (some ⟨b6, 0, none⟩) 0)) (K (.bool false))))))
theorem e157 (n_1 : ByteArray) (n_2 : Int) (n_3 : Bool) (n_4 : ByteArray) (n_5 : Sl) (K : KH) : bodyF Tryz.prog tau Tryz.f157 an157 [.agg ⟨[.string n_1, .int .i64 n_2, .bool n_3, .string n_4, .slice n_5.base n_5.len n_5.cap]⟩] K = g157 n_1 n_2 n_3 n_4 n_5 K := by kernel_rfl
theorem c157 (n_1 : ByteArray) (n_2 : Int) (n_3 : Bool) (n_4 : ByteArray) (n_5 : Sl) {K : KH} {σ : H} (h : g157 n_1 n_2 n_3 n_4 n_5 K σ) : callW Tryz.prog 157 [.agg ⟨[.string n_1, .int .i64 n_2, .bool n_3, .string n_4, .slice n_5.base n_5.len n_5.cap]⟩] K σ := call_of_body mixed Tryz.func157 (by rw [e157]; exact h)


def an158 : Ann := (.q (.n (.q (.h)) (.n (.reg (rn 5) [[],[0],[0,1],[],(rn 4)]) (.n (.q (.blk (.loop [(1,.p),(4,.i),(5,.i),(6,.i)] (.n (.q (.cond .z .z)) (.n (.blk (.q (.q .r))) .r))))) (.q .z)))))
def g158 (n_1 : ByteArray) (n_2 : Int) (n_3 : Bool) (n_4 : ByteArray) (n_5 : Sl) (K : KH) : H -> Prop :=
 alW (.cells ⟨[.string n_1, .int .i64 n_2, .bool n_3, .string n_4, .slice n_5.base n_5.len n_5.cap]⟩ 73 (0, 0)) (fun b6 => rdT (rdA 5 b6 0) (.one (.agg [.str, (.int .i64), .bool, .str, .slc])) (fun (x7 : ByteArray) (x8 : Int) (x9 : Bool) (x10 : ByteArray) (x11 : Sl) => callT Tryz.prog 91 [.agg ⟨[.string x7, .int .i64 x8, .bool x9, .string x10, .slice x11.base x11.len x11.cap]⟩] kI (fun (x12 : Int) => brW (decide ((x12 : Int) > 12)) (K (.tuple ⟨[.int .i64 0, .int .i64 0]⟩))
 (rdT (rdC b6 3) kS (fun (x13 : ByteArray) => loopW [.sc .ptr, .sc (.int .i64), .sc (.int .i64), .sc (.int .i64)] (fun (R14 : Option Addr -> Int -> Int -> Int -> H -> Prop) => (fun (n_15 : Option Addr) (inodes_16 : Int) (bytes_17 : Int) (i_18 : Int) => ptrW n_15 (fun b19 o20 => rdT (rdC b19 (o20 + 4)) kL (fun x21 => brW (decide ((i_18 : Int) < ((x21.len : Nat) : Int))) (ptrW n_15 (fun b22 o23 => rdT (rdC b22 (o23 + 4)) kL (fun x24 => ptrW x24.base (fun b25 o26 =>
 ifW (0 <= i_18 /\ i_18 < ((x24.len : Nat) : Int)) (rdT (rdA 5 b25 (o26 + i_18.toNat * 5)) (.one (.agg [.str, (.int .i64), .bool, .str, .slc])) (fun (x27 : ByteArray) (x28 : Int) (x29 : Bool) (x30 : ByteArray) (x31 : Sl) => callT Tryz.prog 158 [.agg ⟨[.string x27, .int .i64 x28, .bool x29, .string x30, .slice x31.base x31.len x31.cap]⟩] (.tup [.sc (.int .i64), .sc (.int .i64)]) (fun (x32 : Int) (x33 : Int) =>
 R14 n_15 (IntKind.i64.wrap (inodes_16 + x32)) (IntKind.i64.wrap (bytes_17 + x33)) (IntKind.i64.wrap (i_18 + 1))))))))) (K (.tuple ⟨[.int .i64 inodes_16, .int .i64 bytes_17]⟩)))))) (fun (R34 : Option Addr -> Int -> Int -> Int -> H -> Prop) => R34 (some ⟨b6, 0, none⟩) 1 ((x13.size : Nat) : Int) 0))))))
theorem e158 (n_1 : ByteArray) (n_2 : Int) (n_3 : Bool) (n_4 : ByteArray) (n_5 : Sl) (K : KH) : bodyF Tryz.prog tau Tryz.f158 an158 [.agg ⟨[.string n_1, .int .i64 n_2, .bool n_3, .string n_4, .slice n_5.base n_5.len n_5.cap]⟩] K = g158 n_1 n_2 n_3 n_4 n_5 K := by kernel_rfl
theorem c158 (n_1 : ByteArray) (n_2 : Int) (n_3 : Bool) (n_4 : ByteArray) (n_5 : Sl) {K : KH} {σ : H} (h : g158 n_1 n_2 n_3 n_4 n_5 K σ) : callW Tryz.prog 158 [.agg ⟨[.string n_1, .int .i64 n_2, .bool n_3, .string n_4, .slice n_5.base n_5.len n_5.cap]⟩] K σ := call_of_body mixed Tryz.func158 (by rw [e158]; exact h)


def an159 : Ann := (.q (.n (.seq (some [(1,.i),(2,.p),(13,.b)]) .r (.h)) (.q (.n (.q (.blk (.loop [(1,.i),(2,.p),(5,.i),(6,.i)] (.n (.q (.cond .z .z)) (.n (.blk .r) .r))))) (.q .z)))))
def g159 (n_1 : ByteArray) (n_2 : Int) (n_3 : Bool) (n_4 : ByteArray) (n_5 : Sl) (most_6 : Int) (K : KH) : H -> Prop :=
 alW (.cells ⟨[.string n_1, .int .i64 n_2, .bool n_3, .string n_4, .slice n_5.base n_5.len n_5.cap]⟩ 73 (0, 0)) (fun b7 => letJ (T := Int -> Option Addr -> Bool -> H -> Prop) (fun most_9 n_10 x11 => brW x11 (K (.int .i64 1)) (loopW [.sc (.int .i64), .sc .ptr, .sc (.int .i64), .sc (.int .i64)] (fun (R12 : Int -> Option Addr -> Int -> Int -> H -> Prop) => (fun (most_13 : Int) (n_14 : Option Addr) (d_15 : Int) (i_16 : Int) => ptrW n_14 (fun b17 o18 => rdT (rdC b17 (o18 + 4)) kL (fun x19 =>
 brW (decide ((i_16 : Int) < ((x19.len : Nat) : Int))) (ptrW n_14 (fun b20 o21 => rdT (rdC b20 (o21 + 4)) kL (fun x22 => ptrW x22.base (fun b23 o24 => ifW (0 <= i_16 /\ i_16 < ((x22.len : Nat) : Int)) (rdT (rdA 5 b23 (o24 + i_16.toNat * 5)) (.one (.agg [.str, (.int .i64), .bool, .str, .slc])) (fun (x25 : ByteArray) (x26 : Int) (x27 : Bool) (x28 : ByteArray) (x29 : Sl) =>
 callT Tryz.prog 159 [.agg ⟨[.string x25, .int .i64 x26, .bool x27, .string x28, .slice x29.base x29.len x29.cap]⟩, .int .i64 (IntKind.i64.wrap (most_13 - 1))] kI (fun (x30 : Int) => R12 most_13 n_14 (if (IntKind.i64.wrap (1 + x30)) > d_15 then (IntKind.i64.wrap (1 + x30)) else d_15) (IntKind.i64.wrap (i_16 + 1))))))))) (K (.int .i64 d_15)))))) (fun (R31 : Int -> Option Addr -> Int -> Int -> H -> Prop) => R31 most_9 n_10 1 0))) (fun j8 => rdT (rdC b7 1) kI (fun (x32 : Int) => brW ((x32 : Int) != 2)
 (j8 most_6 (some ⟨b7, 0, none⟩) true) (j8 most_6 (some ⟨b7, 0, none⟩) ((most_6 : Int) == 1)))))
theorem e159 (n_1 : ByteArray) (n_2 : Int) (n_3 : Bool) (n_4 : ByteArray) (n_5 : Sl) (most_6 : Int) (K : KH) : bodyF Tryz.prog tau Tryz.f159 an159 [.agg ⟨[.string n_1, .int .i64 n_2, .bool n_3, .string n_4, .slice n_5.base n_5.len n_5.cap]⟩, .int .i64 most_6] K = g159 n_1 n_2 n_3 n_4 n_5 most_6 K := by kernel_rfl
theorem c159 (n_1 : ByteArray) (n_2 : Int) (n_3 : Bool) (n_4 : ByteArray) (n_5 : Sl) (most_6 : Int) {K : KH} {σ : H} (h : g159 n_1 n_2 n_3 n_4 n_5 most_6 K σ) : callW Tryz.prog 159 [.agg ⟨[.string n_1, .int .i64 n_2, .bool n_3, .string n_4, .slice n_5.base n_5.len n_5.cap]⟩, .int .i64 most_6] K σ := call_of_body mixed Tryz.func159 (by rw [e159]; exact h)


def an160 : Ann := (.q (.seq (some [(0,.p),(1,.p),(2,.p),(4,.b)]) .r (.q (.q .z))))
def g160 (x1 : Option Addr) (x2 : Option Addr) (x3 : Option Addr) (K : KH) : H -> Prop :=
 letJ (T := Option Addr -> Option Addr -> Option Addr -> Bool -> H -> Prop) (fun x5 x6 x7 link_8 => alW (.map #[] 0) (fun b9 => muW Tryz.prog 211 (.map (some b9)) (.int .i64 1) (.bool true) (ptrW x5 (fun b10 o11 => rdT (rdC b10 o11) kS (fun (x12 : ByteArray) => muW Tryz.prog 211 (.map (some b9)) (.int .i64 2) (.bool (strEq x12 (⟨⟨[]⟩⟩ : ByteArray))) (muW Tryz.prog 211 (.map (some b9)) (.int .i64 3) (.bool link_8) (ptrW x6 (fun b13 o14 => rdT (rdC b13 o14) kI (fun (x15 : Int) =>
 rdT (rdM (.int .i64) (.bool false) false (some b9) (.int .i64 x15)) kB (fun x16 => brW x16 (ptrW x7 (fun b17 o18 => rdT (rdC b17 o18) kI (fun (x19 : Int) => brW (decide ((x19 : Int) >= 0)) (ptrW x7 (fun b20 o21 => rdT (rdC b20 o21) kI (fun (x22 : Int) => callT Tryz.prog 161 [.bool (decide ((x22 : Int) <= 511)), .int .i64 2] kI (fun (x23 : Int) => K (.int .i64 x23))))) (callT Tryz.prog 161 [.bool false, .int .i64 2] kI (fun (x24 : Int) => K (.int .i64 x24))))))
 (callT Tryz.prog 161 [.bool false, .int .i64 2] kI (fun (x25 : Int) => K (.int .i64 x25))))))))))))) (fun j4 => ptrW x1 (fun b26 o27 => rdT (rdC b26 o27) kS (fun (x28 : ByteArray) => brW (!strEq x28 (⟨⟨[]⟩⟩ : ByteArray)) (ptrW x1 (fun b29 o30 => rdT (rdC b29 o30) kS (fun (x31 : ByteArray) => brW (decide ((((x31.size : Nat) : Int) : Int) <= 255)) (ptrW x1 (fun b32 o33 => rdT (rdC b32 o33) kS (fun (x34 : ByteArray) => callT Tryz.prog 26 [.string x34, .int .u8 0] kI (fun (x35 : Int) =>
 j4 x1 x2 x3 (decide ((x35 : Int) < 0)))))) (j4 x1 x2 x3 false)))) (j4 x1 x2 x3 false))))
theorem e160 (x1 : Option Addr) (x2 : Option Addr) (x3 : Option Addr) (K : KH) : bodyF Tryz.prog tau Tryz.f160 an160 [.pointer x1, .pointer x2, .pointer x3] K = g160 x1 x2 x3 K := by kernel_rfl
theorem c160 (x1 : Option Addr) (x2 : Option Addr) (x3 : Option Addr) {K : KH} {σ : H} (h : g160 x1 x2 x3 K σ) : callW Tryz.prog 160 [.pointer x1, .pointer x2, .pointer x3] K σ := call_of_body mixed Tryz.func160 (by rw [e160]; exact h)


def an161 : Ann := (.q (.n (.q (.h)) (.q .z)))
def g161 (is_1 : Bool) (e_2 : Int) (K : KH) : H -> Prop :=
 brW (!is_1) (K (.int .i64 e_2)) (K (.int .i64 0))
theorem e161 (is_1 : Bool) (e_2 : Int) (K : KH) : bodyF Tryz.prog tau Tryz.f161 an161 [.bool is_1, .int .i64 e_2] K = g161 is_1 e_2 K := by kernel_rfl
theorem c161 (is_1 : Bool) (e_2 : Int) {K : KH} {σ : H} (h : g161 is_1 e_2 K σ) : callW Tryz.prog 161 [.bool is_1, .int .i64 e_2] K σ := call_of_body mixed Tryz.func161 (by rw [e161]; exact h)


def an162 : Ann := (.q (.n (.q (.blk (.loop [(6,.l),(7,.i),(8,.i)] (.q (.n (.cond .z .z) (.n (.blk (.q (.q (.q (.h))))) .r)))))) (.q .z)))
def g162 (asked_1 : Sl) (K : KH) : H -> Prop :=
 loopW [.sc .slc, .sc (.int .i64), .sc (.int .i64)] (fun (R2 : Sl -> Int -> Int -> H -> Prop) => (fun (x3 : Sl) (x4 : Int) (x5 : Int) => brW (decide ((x5 : Int) < x4)) (ptrW x3.base (fun b6 o7 => ifW (0 <= x5 /\ x5 < ((x3.len : Nat) : Int)) (rdT (rdC b6 (o7 + x5.toNat * 1)) kR (fun x8 => cvalT Tryz.prog x8 [] kI (fun (x9 : Int) => brW ((x9 : Int) != 0) (K (.int .i64 x9)) (R2 x3 x4 (IntKind.i64.wrap (x5 + 1))))))))
 (K (.int .i64 0)))) (fun (R10 : Sl -> Int -> Int -> H -> Prop) => R10 asked_1 ((asked_1.len : Nat) : Int) 0)
theorem e162 (asked_1 : Sl) (K : KH) : bodyF Tryz.prog tau Tryz.f162 an162 [.slice asked_1.base asked_1.len asked_1.cap] K = g162 asked_1 K := by kernel_rfl
theorem c162 (asked_1 : Sl) {K : KH} {σ : H} (h : g162 asked_1 K σ) : callW Tryz.prog 162 [.slice asked_1.base asked_1.len asked_1.cap] K σ := call_of_body mixed Tryz.func162 (by rw [e162]; exact h)


def an163 : Ann := (.q (.q .z))
def g163 (t_1 : Option Addr) (K : KH) : H -> Prop :=
 callT Tryz.prog 161 [.bool (!t_1.isNone), .int .i64 1] kI (fun (x2 : Int) => K (.int .i64 x2))
theorem e163 (t_1 : Option Addr) (K : KH) : bodyF Tryz.prog tau Tryz.f163 an163 [.pointer t_1] K = g163 t_1 K := by kernel_rfl
theorem c163 (t_1 : Option Addr) {K : KH} {σ : H} (h : g163 t_1 K σ) : callW Tryz.prog 163 [.pointer t_1] K σ := call_of_body mixed Tryz.func163 (by rw [e163]; exact h)


def an164 : Ann := (.q (.q .z))
def g164 (t_1 : Option Addr) (ino_2 : Int) (K : KH) : H -> Prop :=
 alW (.cells ⟨[.pointer t_1]⟩ 108 (0, 0)) (fun b3 => alW (.cells ⟨[.int .i64 ino_2]⟩ 3 (0, 0)) (fun b4 => K (.func (.func 214) ⟨[]⟩ ⟨[.pointer (some ⟨b3, 0, none⟩), .pointer (some ⟨b4, 0, none⟩)]⟩)))
theorem e164 (t_1 : Option Addr) (ino_2 : Int) (K : KH) : bodyF Tryz.prog tau Tryz.f164 an164 [.pointer t_1, .int .i64 ino_2] K = g164 t_1 ino_2 K := by kernel_rfl
theorem c164 (t_1 : Option Addr) (ino_2 : Int) {K : KH} {σ : H} (h : g164 t_1 ino_2 K σ) : callW Tryz.prog 164 [.pointer t_1, .int .i64 ino_2] K σ := call_of_body mixed Tryz.func164 (by rw [e164]; exact h)


def an165 : Ann := (.q (.q .z))
def g165 (name_1 : ByteArray) (K : KH) : H -> Prop :=
 alW (.cells ⟨[.string name_1]⟩ 9 (0, 0)) (fun b2 => K (.func (.func 215) ⟨[]⟩ ⟨[.pointer (some ⟨b2, 0, none⟩)]⟩))
theorem e165 (name_1 : ByteArray) (K : KH) : bodyF Tryz.prog tau Tryz.f165 an165 [.string name_1] K = g165 name_1 K := by kernel_rfl
theorem c165 (name_1 : ByteArray) {K : KH} {σ : H} (h : g165 name_1 K σ) : callW Tryz.prog 165 [.string name_1] K σ := call_of_body mixed Tryz.func165 (by rw [e165]; exact h)


def an166 : Ann := (.q (.q .z))
def g166 (t_1 : Option Addr) (dir_2 : Int) (name_3 : ByteArray) (K : KH) : H -> Prop :=
 alW (.cells ⟨[.pointer t_1]⟩ 108 (0, 0)) (fun b4 => alW (.cells ⟨[.int .i64 dir_2]⟩ 3 (0, 0)) (fun b5 => alW (.cells ⟨[.string name_3]⟩ 9 (0, 0)) (fun b6 => K (.func (.func 217) ⟨[]⟩ ⟨[.pointer (some ⟨b4, 0, none⟩), .pointer (some ⟨b5, 0, none⟩), .pointer (some ⟨b6, 0, none⟩)]⟩))))
theorem e166 (t_1 : Option Addr) (dir_2 : Int) (name_3 : ByteArray) (K : KH) : bodyF Tryz.prog tau Tryz.f166 an166 [.pointer t_1, .int .i64 dir_2, .string name_3] K = g166 t_1 dir_2 name_3 K := by kernel_rfl
theorem c166 (t_1 : Option Addr) (dir_2 : Int) (name_3 : ByteArray) {K : KH} {σ : H} (h : g166 t_1 dir_2 name_3 K σ) : callW Tryz.prog 166 [.pointer t_1, .int .i64 dir_2, .string name_3] K σ := call_of_body mixed Tryz.func166 (by rw [e166]; exact h)


def an167 : Ann := (.q (.q .z))
def g167 (x1 : Option Addr) (x2 : Option Addr) (K : KH) : H -> Prop :=
 ptrW x1 (fun b3 o4 => rdT (rdC b3 o4) kP (fun x5 => ptrW x2 (fun b6 o7 => rdT (rdC b6 o7) kS (fun (x8 : ByteArray) => callT Tryz.prog 168 [.pointer x5, .int .i64 1, .int .i64 ((x8.size : Nat) : Int)] kR (fun x9 => cvalT Tryz.prog x9 [] kI (fun (x10 : Int) => K (.int .i64 x10)))))))
theorem e167 (x1 : Option Addr) (x2 : Option Addr) (K : KH) : bodyF Tryz.prog tau Tryz.f167 an167 [.pointer x1, .pointer x2] K = g167 x1 x2 K := by kernel_rfl
theorem c167 (x1 : Option Addr) (x2 : Option Addr) {K : KH} {σ : H} (h : g167 x1 x2 K σ) : callW Tryz.prog 167 [.pointer x1, .pointer x2] K σ := call_of_body mixed Tryz.func167 (by rw [e167]; exact h)


def an168 : Ann := (.q (.q .z))
def g168 (t_1 : Option Addr) (inodes_2 : Int) (bytes_3 : Int) (K : KH) : H -> Prop :=
 alW (.cells ⟨[.pointer t_1]⟩ 108 (0, 0)) (fun b4 => alW (.cells ⟨[.int .i64 inodes_2]⟩ 3 (0, 0)) (fun b5 => alW (.cells ⟨[.int .i64 bytes_3]⟩ 3 (0, 0)) (fun b6 => K (.func (.func 218) ⟨[]⟩ ⟨[.pointer (some ⟨b4, 0, none⟩), .pointer (some ⟨b5, 0, none⟩), .pointer (some ⟨b6, 0, none⟩)]⟩))))
theorem e168 (t_1 : Option Addr) (inodes_2 : Int) (bytes_3 : Int) (K : KH) : bodyF Tryz.prog tau Tryz.f168 an168 [.pointer t_1, .int .i64 inodes_2, .int .i64 bytes_3] K = g168 t_1 inodes_2 bytes_3 K := by kernel_rfl
theorem c168 (t_1 : Option Addr) (inodes_2 : Int) (bytes_3 : Int) {K : KH} {σ : H} (h : g168 t_1 inodes_2 bytes_3 K σ) : callW Tryz.prog 168 [.pointer t_1, .int .i64 inodes_2, .int .i64 bytes_3] K σ := call_of_body mixed Tryz.func168 (by rw [e168]; exact h)


def an170 : Ann := (.q (.n (.q (.q (.h))) (.seq (some [(1,.i),(2,.s),(5,.p),(8,.p),(9,.p),(10,.p),(11,.p)]) (.q (.cond .r .z)) (.q (.seq (some [(10,.p),(11,.p),(13,.p)]) (.q (.blk (.rf [.s,.b] (.q .r) (.blk (.n (.blk (.q (.cond (.q .z) (.q (.cond (.q .z) (.q (.cond (.n (.reg (rn 8) [[],[0],[0,1],[0,1,2],[],[4],(rn 6),(rn 7)]) (.q .z)) (.q (.h))))))))) (.q (.n (.reg (rn 15) [[],[0],[0,1],[0,1,2],[],[4],[],(rn 7),(rn 8),(rn 9),(rn 9),(rn 10),[0,1,2,3,4,5,6,7,8,9,11],(rn 13),(rn 14)]) (.n (.seq (some [(5,.p),(9,.p),(10,.p),(11,.p),(13,.p),(105,.b)]) .r (.cond .z .z)) (.n (.q (.q (.h))) (.n (.reg (rn 13) [[],[0],[0,1],[0,1,2],[],[4],(rn 6),(rn 7),(rn 8),(rn 8),[],[0,1,2,3,4,5,6,7,8,10],(rn 12)]) (.q (.n (.q (.h)) .r)))))))))))) (.q .z))))))
def g170 (f_1 : Option Addr) (at_2 : Int) (path_3 : ByteArray) (follow_4 : Bool) (hops_5 : Option Addr) (K : KH) : H -> Prop :=
 alW (.cells ⟨[.pointer f_1]⟩ 24 (0, 0)) (fun b6 => alW (.cells ⟨[.bool follow_4]⟩ 4 (0, 0)) (fun b7 => alW (.cells ⟨[.pointer hops_5]⟩ 219 (0, 0)) (fun b8 => alW (.cells ⟨[.int .i64 0, .string (⟨⟨[]⟩⟩ : ByteArray), .int .i64 0, .bool false]⟩ 142 (0, 0)) (fun b9 => alW (.cells ⟨[.int .i64 0]⟩ 36 (0, 0)) (fun b10 => callT Tryz.prog 220 [.string path_3] kI (fun (x11 : Int) => brW ((x11 : Int) != 0)
 (stW Tryz.prog 142 (.pointer (some ⟨b9, 0, none⟩)) (.agg ⟨[.int .i64 0, .string (⟨⟨[]⟩⟩ : ByteArray), .int .i64 0, .bool false]⟩) (stW Tryz.prog 36 (.pointer (some ⟨b10, 0, none⟩)) (.int .i64 x11) (rdT (rdA 4 b9 0) (.one (.agg [(.int .i64), .str, (.int .i64), .bool])) (fun (r12 : Int) (r13 : ByteArray) (r14 : Int) (r15 : Bool) => rdT (rdC b10 0) kI (fun (r16 : Int) => K (.tuple ⟨[.agg ⟨[.int .i64 r12, .string r13, .int .i64 r14, .bool r15]⟩, .int .i64 r16]⟩))))))
 (letJ (T := Int -> ByteArray -> Option Addr -> Option Addr -> Option Addr -> Option Addr -> Option Addr -> H -> Prop) (fun at_18 path_19 f_20 follow_21 hops_22 x23 x24 => alW (.cells ⟨[.int .i64 0, .string (⟨⟨[]⟩⟩ : ByteArray), .int .i64 0, .bool false]⟩ 142 (0, 0)) (fun b25 => stW Tryz.prog 142 (.pointer (some ⟨b25, 0, none⟩)) (.agg ⟨[.int .i64 at_18, .string (⟨⟨[]⟩⟩ : ByteArray), .int .i64 at_18, .bool true]⟩) (letJ (T := Option Addr -> Option Addr -> Option Addr -> H -> Prop) (fun x27 x28 p_29 =>
 ptrW p_29 (fun b30 o31 => rdT (rdA 4 b30 o31) (.one (.agg [(.int .i64), .str, (.int .i64), .bool])) (fun (x32 : Int) (x33 : ByteArray) (x34 : Int) (x35 : Bool) => stW Tryz.prog 142 (.pointer x27) (.agg ⟨[.int .i64 x32, .string x33, .int .i64 x34, .bool x35]⟩) (stW Tryz.prog 36 (.pointer x28) (.int .i64 0) (ptrW x27 (fun b36 o37 => rdT (rdA 4 b36 o37) (.one (.agg [(.int .i64), .str, (.int .i64), .bool])) (fun (r38 : Int) (r39 : ByteArray) (r40 : Int) (r41 : Bool) => ptrW x28 (fun b42 o43 =>
 rdT (rdC b42 o43) kI (fun (r44 : Int) => K (.tuple ⟨[.agg ⟨[.int .i64 r38, .string r39, .int .i64 r40, .bool r41]⟩, .int .i64 r44]⟩)))))))))) (fun j26 => callT Tryz.prog 221 [.string path_19] kR (fun x45 => funW x45 (fun (g146 : FuncId) (as147 cs148 : List Value) => rfW Tryz.prog none g146 as147 cs148 [.sc .str, .sc .bool] (fun (l46 : Nat) (obj47 : LoopState -> Option Code -> Obj) (K48 : Value -> H -> Prop) => (fun (x49 : ByteArray) (x50 : Bool) => begW l46 obj47 (rdT (rdC b25 3) kB (fun x51 =>
 brW (!x51) (stW Tryz.prog 142 (.pointer x23) (.agg ⟨[.int .i64 0, .string (⟨⟨[]⟩⟩ : ByteArray), .int .i64 0, .bool false]⟩) (stW Tryz.prog 36 (.pointer x24) (.int .i64 5) (roundK l46 obj47 K48 (some .ret) false .done))) (ptrW f_20 (fun b52 o53 => rdT (rdC b52 o53) kP (fun x54 => rdT (rdC b25 2) kI (fun (x55 : Int) => callT Tryz.prog 110 [.pointer x54, .int .i64 x55] kI (fun (x56 : Int) => brW ((x56 : Int) != 2)
 (stW Tryz.prog 142 (.pointer x23) (.agg ⟨[.int .i64 0, .string (⟨⟨[]⟩⟩ : ByteArray), .int .i64 0, .bool false]⟩) (stW Tryz.prog 36 (.pointer x24) (.int .i64 8) (roundK l46 obj47 K48 (some .ret) false .done))) (brW (strEq x49 (⟨⟨[46, 46]⟩⟩ : ByteArray)) (ptrW f_20 (fun b57 o58 => rdT (rdC b57 o58) kP (fun x59 => ptrW x59 (fun b60 o61 => rdT (rdC b60 o61) kP (fun x62 => rdT (rdC b25 2) kI (fun (x63 : Int) => callT Tryz.prog 124 [.pointer x62, .int .i64 x63] kI (fun (x64 : Int) =>
 stW Tryz.prog 142 (.pointer (some ⟨b25, 0, none⟩)) (.agg ⟨[.int .i64 x64, .string (⟨⟨[]⟩⟩ : ByteArray), .int .i64 x64, .bool true]⟩) (roundK l46 obj47 K48 none true .ready)))))))) (brW (decide ((((x49.size : Nat) : Int) : Int) > 56)) (stW Tryz.prog 142 (.pointer x23) (.agg ⟨[.int .i64 0, .string (⟨⟨[]⟩⟩ : ByteArray), .int .i64 0, .bool false]⟩) (stW Tryz.prog 36 (.pointer x24) (.int .i64 3) (roundK l46 obj47 K48 (some .ret) false .done))) (rdT (rdC b25 2) kI (fun (x65 : Int) =>
 stW Tryz.prog 142 (.pointer (some ⟨b25, 0, none⟩)) (.agg ⟨[.int .i64 x65, .string x49, .int .i64 0, .bool false]⟩) (ptrW f_20 (fun b66 o67 => rdT (rdC b66 o67) kP (fun x68 => ptrW x68 (fun b69 o70 => rdT (rdC b69 o70) kP (fun x71 => rdT (rdC b25 0) kI (fun (x72 : Int) => callT Tryz.prog 125 [.pointer x71, .int .i64 x72, .string x49] (.tup [.sc (.int .i64), .sc .bool]) (fun (x73 : Int) (x74 : Bool) =>
 stW Tryz.prog 3 (.pointer (some ⟨b25, 2, none⟩)) (.int .i64 x73) (stW Tryz.prog 4 (.pointer (some ⟨b25, 3, none⟩)) (.bool x74) (letJ (T := Option Addr -> Option Addr -> Option Addr -> Option Addr -> Option Addr -> Bool -> H -> Prop) (fun f_76 hops_77 x78 x79 p_80 x81 => brW x81 (roundK l46 obj47 K48 none true .ready) (ptrW hops_77 (fun b82 o83 => rdT (rdC b82 o83) kP (fun x84 => ptrW x84 (fun b85 o86 => rdT (rdC b85 o86) kI (fun (x87 : Int) => ptrW x84 (fun b88 o89 =>
 stW Tryz.prog 3 (.pointer (some ⟨b88, o89, none⟩)) (.int .i64 (IntKind.i64.wrap (x87 - 1))) (ptrW hops_77 (fun b90 o91 => rdT (rdC b90 o91) kP (fun x92 => ptrW x92 (fun b93 o94 => rdT (rdC b93 o94) kI (fun (x95 : Int) => brW (decide ((x95 : Int) < 0)) (stW Tryz.prog 142 (.pointer x78) (.agg ⟨[.int .i64 0, .string (⟨⟨[]⟩⟩ : ByteArray), .int .i64 0, .bool false]⟩) (stW Tryz.prog 36 (.pointer x79) (.int .i64 9) (roundK l46 obj47 K48 (some .ret) false .done))) (ptrW f_76 (fun b96 o97 =>
 rdT (rdC b96 o97) kP (fun x98 => ptrW x98 (fun b99 o100 => rdT (rdC b99 o100) kP (fun x101 => ptrW p_80 (fun b102 o103 => rdT (rdC b102 (o103 + 2)) kI (fun (x104 : Int) => callT Tryz.prog 99 [.pointer x101, .int .i64 x104] (.tup [.agg [(.int .i64), (.int .i64), .str, (.int .i64)], .sc .bool]) (fun (x105 : Int) (x106 : Int) (x107 : ByteArray) (x108 : Int) (_x109 : Bool) => alW (.cells ⟨[.int .i64 0, .int .i64 0, .string (⟨⟨[]⟩⟩ : ByteArray), .int .i64 0]⟩ 35 (0, 0)) (fun b110 =>
 stW Tryz.prog 35 (.pointer (some ⟨b110, 0, none⟩)) (.agg ⟨[.int .i64 x105, .int .i64 x106, .string x107, .int .i64 x108]⟩) (ptrW f_76 (fun b111 o112 => rdT (rdC b111 o112) kP (fun x113 => ptrW p_80 (fun b114 o115 => rdT (rdC b114 o115) kI (fun (x116 : Int) => rdT (rdC b110 2) kS (fun (x117 : ByteArray) => ptrW hops_77 (fun b118 o119 => rdT (rdC b118 o119) kP (fun x120 =>
 callT Tryz.prog 170 [.pointer x113, .int .i64 x116, .string x117, .bool true, .pointer x120] (.tup [.agg [(.int .i64), .str, (.int .i64), .bool], .sc (.int .i64)]) (fun (x121 : Int) (x122 : ByteArray) (x123 : Int) (x124 : Bool) (x125 : Int) => alW (.cells ⟨[.int .i64 0, .string (⟨⟨[]⟩⟩ : ByteArray), .int .i64 0, .bool false]⟩ 142 (0, 0)) (fun b126 => stW Tryz.prog 142 (.pointer (some ⟨b126, 0, none⟩)) (.agg ⟨[.int .i64 x121, .string x122, .int .i64 x123, .bool x124]⟩) (brW ((x125 : Int) != 0)
 (stW Tryz.prog 142 (.pointer x78) (.agg ⟨[.int .i64 0, .string (⟨⟨[]⟩⟩ : ByteArray), .int .i64 0, .bool false]⟩) (stW Tryz.prog 36 (.pointer x79) (.int .i64 x125) (roundK l46 obj47 K48 (some .ret) false .done))) (rdT (rdA 4 b126 0) (.one (.agg [(.int .i64), .str, (.int .i64), .bool])) (fun (x127 : Int) (x128 : ByteArray) (x129 : Int) (x130 : Bool) =>
 stW Tryz.prog 142 (.pointer p_80) (.agg ⟨[.int .i64 x127, .string x128, .int .i64 x129, .bool x130]⟩) (roundK l46 obj47 K48 none true .ready))))))))))))))))))))))))))))))))))) (fun j75 => rdT (rdC b25 3) kB (fun x131 => brW (!x131) (j75 f_20 hops_22 x23 x24 (some ⟨b25, 0, none⟩) true) (brW x50 (ptrW follow_21 (fun b132 o133 => rdT (rdC b132 o133) kB (fun x134 => brW (!x134) (j75 f_20 hops_22 x23 x24 (some ⟨b25, 0, none⟩) true) (ptrW f_20 (fun b135 o136 => rdT (rdC b135 o136) kP (fun x137 =>
 rdT (rdC b25 2) kI (fun (x138 : Int) => callT Tryz.prog 110 [.pointer x137, .int .i64 x138] kI (fun (x139 : Int) => j75 f_20 hops_22 x23 x24 (some ⟨b25, 0, none⟩) ((x139 : Int) != 3))))))))) (ptrW f_20 (fun b140 o141 => rdT (rdC b140 o141) kP (fun x142 => rdT (rdC b25 2) kI (fun (x143 : Int) => callT Tryz.prog 110 [.pointer x142, .int .i64 x143] kI (fun (x144 : Int) => j75 f_20 hops_22 x23 x24 (some ⟨b25, 0, none⟩) ((x144 : Int) != 3)))))))))))))))))))))))))))))))
 (j26 x23 x24 (some ⟨b25, 0, none⟩)) (fun i145 => exW i145 0 (j26 x23 x24 (some ⟨b25, 0, none⟩)) (nW)) (ptrW x23 (fun b149 o150 => rdT (rdA 4 b149 o150) (.one (.agg [(.int .i64), .str, (.int .i64), .bool])) (fun (r151 : Int) (r152 : ByteArray) (r153 : Int) (r154 : Bool) => ptrW x24 (fun b155 o156 => rdT (rdC b155 o156) kI (fun (r157 : Int) => K (.tuple ⟨[.agg ⟨[.int .i64 r151, .string r152, .int .i64 r153, .bool r154]⟩, .int .i64 r157]⟩)))))))))))) (fun j17 => idxW path_3 0 (fun c158 =>
 brW (((c158.toNat : Int) : Int) == 47) (rdT (rdC b6 0) kP (fun x159 => ptrW x159 (fun b160 o161 => rdT (rdC b160 o161) kP (fun x162 => callT Tryz.prog 123 [.pointer x162] kI (fun (x163 : Int) => j17 x163 path_3 (some ⟨b6, 0, none⟩) (some ⟨b7, 0, none⟩) (some ⟨b8, 0, none⟩) (some ⟨b9, 0, none⟩) (some ⟨b10, 0, none⟩)))))) (j17 at_2 path_3 (some ⟨b6, 0, none⟩) (some ⟨b7, 0, none⟩) (some ⟨b8, 0, none⟩) (some ⟨b9, 0, none⟩) (some ⟨b10, 0, none⟩)))))))))))
theorem e170 (f_1 : Option Addr) (at_2 : Int) (path_3 : ByteArray) (follow_4 : Bool) (hops_5 : Option Addr) (K : KH) : bodyF Tryz.prog tau Tryz.f170 an170 [.pointer f_1, .int .i64 at_2, .string path_3, .bool follow_4, .pointer hops_5] K = g170 f_1 at_2 path_3 follow_4 hops_5 K := by kernel_rfl
theorem c170 (f_1 : Option Addr) (at_2 : Int) (path_3 : ByteArray) (follow_4 : Bool) (hops_5 : Option Addr) {K : KH} {σ : H} (h : g170 f_1 at_2 path_3 follow_4 hops_5 K σ) : callW Tryz.prog 170 [.pointer f_1, .int .i64 at_2, .string path_3, .bool follow_4, .pointer hops_5] K σ := call_of_body mixed Tryz.func170 (by rw [e170]; exact h)


def an171 : Ann := (.q (.n (.reg (rn 18) [[],[],[1],[],[3],[3,4],[3,4,5],[],[3,4,5,6,7],[3,4,5,6,7,8],[3,4,5,6,7,8,9],[3,4,5,6,7,8,9,10],[3,4,5,6,7,8,9,10,11],[3,4,5,6,7,8,9,10,11,12],[1,2,3,4,5,6,7,8,9,10,11,12,13],(rn 15),(rn 16),(rn 17)]) .z))
def g171 (x1 : Option Addr) (x2 : Option Addr) (x3 : Option Addr) (K : KH) : H -> Prop :=
 ptrW x1 (fun b4 o5 => rdT (rdC b4 o5) kP (fun x6 => ptrW x2 (fun b7 o8 => rdT (rdC b7 o8) kS (fun (x9 : ByteArray) => ptrW x1 (fun b10 o11 => rdT (rdC b10 o11) kP (fun x12 => ptrW x12 (fun b13 o14 => rdT (rdC b13 (o14 + 4)) kM (fun (x15 : Option Nat) => ptrW x3 (fun b16 o17 => rdT (rdC b16 o17) kI (fun (x18 : Int) => rdT (rdM (.int .i64) (.pointer none) false x15 (.int .i64 x18)) kP (fun x19 => ptrW x19 (fun b20 o21 => rdT (rdC b20 (o21 + 2)) kS (fun (x22 : ByteArray) =>
 callT Tryz.prog 168 [.pointer x6, .int .i64 0, .int .i64 (IntKind.i64.wrap (((x9.size : Nat) : Int) - ((x22.size : Nat) : Int)))] kR (fun x23 => cvalT Tryz.prog x23 [] kI (fun (x24 : Int) => K (.int .i64 x24))))))))))))))))
theorem e171 (x1 : Option Addr) (x2 : Option Addr) (x3 : Option Addr) (K : KH) : bodyF Tryz.prog tau Tryz.f171 an171 [.pointer x1, .pointer x2, .pointer x3] K = g171 x1 x2 x3 K := by kernel_rfl
theorem c171 (x1 : Option Addr) (x2 : Option Addr) (x3 : Option Addr) {K : KH} {σ : H} (h : g171 x1 x2 x3 K σ) : callW Tryz.prog 171 [.pointer x1, .pointer x2, .pointer x3] K σ := call_of_body mixed Tryz.func171 (by rw [e171]; exact h)


def an172 : Ann := (.q (.q .z))
def g172 (t_1 : Option Addr) (ino_2 : Int) (K : KH) : H -> Prop :=
 alW (.cells ⟨[.pointer t_1]⟩ 108 (0, 0)) (fun b3 => alW (.cells ⟨[.int .i64 ino_2]⟩ 3 (0, 0)) (fun b4 => K (.func (.func 222) ⟨[]⟩ ⟨[.pointer (some ⟨b3, 0, none⟩), .pointer (some ⟨b4, 0, none⟩)]⟩)))
theorem e172 (t_1 : Option Addr) (ino_2 : Int) (K : KH) : bodyF Tryz.prog tau Tryz.f172 an172 [.pointer t_1, .int .i64 ino_2] K = g172 t_1 ino_2 K := by kernel_rfl
theorem c172 (t_1 : Option Addr) (ino_2 : Int) {K : KH} {σ : H} (h : g172 t_1 ino_2 K σ) : callW Tryz.prog 172 [.pointer t_1, .int .i64 ino_2] K σ := call_of_body mixed Tryz.func172 (by rw [e172]; exact h)


def an173 : Ann := (.q (.q .z))
def g173 (n_1 : ByteArray) (n_2 : Int) (n_3 : Bool) (n_4 : ByteArray) (n_5 : Sl) (K : KH) : H -> Prop :=
 alW (.cells ⟨[.string n_1, .int .i64 n_2, .bool n_3, .string n_4, .slice n_5.base n_5.len n_5.cap]⟩ 73 (0, 0)) (fun b6 => rdT (rdA 5 b6 0) (.one (.agg [.str, (.int .i64), .bool, .str, .slc])) (fun (x7 : ByteArray) (x8 : Int) (x9 : Bool) (x10 : ByteArray) (x11 : Sl) => callT Tryz.prog 223 [.agg ⟨[.string x7, .int .i64 x8, .bool x9, .string x10, .slice x11.base x11.len x11.cap]⟩, .int .i64 14] kI (fun (x12 : Int) => K (.int .i64 x12))))
theorem e173 (n_1 : ByteArray) (n_2 : Int) (n_3 : Bool) (n_4 : ByteArray) (n_5 : Sl) (K : KH) : bodyF Tryz.prog tau Tryz.f173 an173 [.agg ⟨[.string n_1, .int .i64 n_2, .bool n_3, .string n_4, .slice n_5.base n_5.len n_5.cap]⟩] K = g173 n_1 n_2 n_3 n_4 n_5 K := by kernel_rfl
theorem c173 (n_1 : ByteArray) (n_2 : Int) (n_3 : Bool) (n_4 : ByteArray) (n_5 : Sl) {K : KH} {σ : H} (h : g173 n_1 n_2 n_3 n_4 n_5 K σ) : callW Tryz.prog 173 [.agg ⟨[.string n_1, .int .i64 n_2, .bool n_3, .string n_4, .slice n_5.base n_5.len n_5.cap]⟩] K σ := call_of_body mixed Tryz.func173 (by rw [e173]; exact h)


def an176 : Ann := (.q (.q .z))
def g176 (s_1 : ByteArray) (prefix_2 : ByteArray) (K : KH) : H -> Prop :=
 brW (decide ((((s_1.size : Nat) : Int) : Int) >= ((prefix_2.size : Nat) : Int))) (ifW (bndOk (some ((prefix_2.size : Nat) : Int)) s_1.size /\ bndOk none (((prefix_2.size : Nat) : Int).toNat)) (K (.bool (strEq (s_1.extract 0 (((prefix_2.size : Nat) : Int).toNat)) prefix_2)))) (K (.bool false))
theorem e176 (s_1 : ByteArray) (prefix_2 : ByteArray) (K : KH) : bodyF Tryz.prog tau Tryz.f176 an176 [.string s_1, .string prefix_2] K = g176 s_1 prefix_2 K := by kernel_rfl
theorem c176 (s_1 : ByteArray) (prefix_2 : ByteArray) {K : KH} {σ : H} (h : g176 s_1 prefix_2 K σ) : callW Tryz.prog 176 [.string s_1, .string prefix_2] K σ := call_of_body mixed Tryz.func176 (by rw [e176]; exact h)


def an177 : Ann := (.q (.q (.q .z)))
def g177 (x1 : Option Addr) (x2 : Option Addr) (x3 : Option Addr) (K : KH) : H -> Prop :=
 ptrW x1 (fun b4 o5 => rdT (rdC b4 o5) kP (fun x6 => ptrW x2 (fun b7 o8 => rdT (rdC b7 o8) kI (fun (x9 : Int) => ptrW x3 (fun b10 o11 => rdT (rdC b10 o11) kS (fun (x12 : ByteArray) => callT Tryz.prog 125 [.pointer x6, .int .i64 x9, .string x12] (.tup [.sc (.int .i64), .sc .bool]) (fun (x13 : Int) (_x14 : Bool) => ptrW x1 (fun b15 o16 => rdT (rdC b15 o16) kP (fun x17 => ptrW x17 (fun b18 o19 => rdT (rdC b18 (o19 + 4)) kM (fun (x20 : Option Nat) =>
 rdT (rdM (.int .i64) (.pointer none) false x20 (.int .i64 x13)) kP (fun x21 => ptrW x21 (fun b22 o23 => rdT (rdC b22 (o23 + 5)) kM (fun (x24 : Option Nat) => rdT (rdLen x24) kI (fun (x25 : Int) => callT Tryz.prog 161 [.bool ((x25 : Int) == 0), .int .i64 20] kI (fun (x26 : Int) => K (.int .i64 x26)))))))))))))))))
theorem e177 (x1 : Option Addr) (x2 : Option Addr) (x3 : Option Addr) (K : KH) : bodyF Tryz.prog tau Tryz.f177 an177 [.pointer x1, .pointer x2, .pointer x3] K = g177 x1 x2 x3 K := by kernel_rfl
theorem c177 (x1 : Option Addr) (x2 : Option Addr) (x3 : Option Addr) {K : KH} {σ : H} (h : g177 x1 x2 x3 K σ) : callW Tryz.prog 177 [.pointer x1, .pointer x2, .pointer x3] K σ := call_of_body mixed Tryz.func177 (by rw [e177]; exact h)


def an178 : Ann := (.q (.q .z))
def g178 (t_1 : Option Addr) (dir_2 : Int) (name_3 : ByteArray) (K : KH) : H -> Prop :=
 alW (.cells ⟨[.pointer t_1]⟩ 108 (0, 0)) (fun b4 => alW (.cells ⟨[.int .i64 dir_2]⟩ 3 (0, 0)) (fun b5 => alW (.cells ⟨[.string name_3]⟩ 9 (0, 0)) (fun b6 => K (.func (.func 224) ⟨[]⟩ ⟨[.pointer (some ⟨b4, 0, none⟩), .pointer (some ⟨b5, 0, none⟩), .pointer (some ⟨b6, 0, none⟩)]⟩))))
theorem e178 (t_1 : Option Addr) (dir_2 : Int) (name_3 : ByteArray) (K : KH) : bodyF Tryz.prog tau Tryz.f178 an178 [.pointer t_1, .int .i64 dir_2, .string name_3] K = g178 t_1 dir_2 name_3 K := by kernel_rfl
theorem c178 (t_1 : Option Addr) (dir_2 : Int) (name_3 : ByteArray) {K : KH} {σ : H} (h : g178 t_1 dir_2 name_3 K σ) : callW Tryz.prog 178 [.pointer t_1, .int .i64 dir_2, .string name_3] K σ := call_of_body mixed Tryz.func178 (by rw [e178]; exact h)


def an179 : Ann := (.q (.n (.blk (.loop [(0,.p),(1,.i),(2,.i)] (.n (.seq (some [(0,.p),(1,.i),(2,.i),(11,.w),(12,.w),(13,.w),(14,.w),(15,.w),(16,.w),(17,.w),(18,.b)]) .r (.cond .z .z)) (.blk .r)))) (.q .z)))
def g179 (f_1 : Option Addr) (dir_2 : Int) (ino_3 : Int) (K : KH) : H -> Prop :=
 loopW [.sc .ptr, .sc (.int .i64), .sc (.int .i64)] (fun (R4 : Option Addr -> Int -> Int -> H -> Prop) => (fun (f_5 : Option Addr) (dir_6 : Int) (ino_7 : Int) => letJ (T := Option Addr -> Int -> Int -> Value -> Value -> Value -> Value -> Value -> Value -> Value -> Bool -> H -> Prop) (fun f_9 dir_10 ino_11 _x12 _x13 _x14 _x15 _x16 _x17 _x18 x19 => brW x19 (ptrW f_9 (fun b20 o21 => rdT (rdC b20 o21) kP (fun x22 => callT Tryz.prog 124 [.pointer x22, .int .i64 dir_10] kI (fun (x23 : Int) => R4 f_9 x23 ino_11))))
 (K (.bool ((dir_10 : Int) == ino_11)))) (fun j8 => brW ((dir_6 : Int) != ino_7) (ptrW f_5 (fun b24 o25 => rdT (rdC b24 o25) kP (fun x26 => callT Tryz.prog 123 [.pointer x26] kI (fun (x27 : Int) => j8 f_5 dir_6 ino_7 (.int .i64 dir_6) (.pointer f_5) (.pointer (some ⟨b24, o25, none⟩)) (.pointer (some ⟨b24, o25, none⟩)) (.pointer x26) (.int .i64 x27) (.bool ((dir_6 : Int) != x27)) ((dir_6 : Int) != x27)))))
 (j8 f_5 dir_6 ino_7 (.tuple ⟨[]⟩) (.tuple ⟨[]⟩) (.tuple ⟨[]⟩) (.tuple ⟨[]⟩) (.tuple ⟨[]⟩) (.tuple ⟨[]⟩) (.tuple ⟨[]⟩) false)))) (fun (R28 : Option Addr -> Int -> Int -> H -> Prop) => R28 f_1 dir_2 ino_3)
theorem e179 (f_1 : Option Addr) (dir_2 : Int) (ino_3 : Int) (K : KH) : bodyF Tryz.prog tau Tryz.f179 an179 [.pointer f_1, .int .i64 dir_2, .int .i64 ino_3] K = g179 f_1 dir_2 ino_3 K := by kernel_rfl
theorem c179 (f_1 : Option Addr) (dir_2 : Int) (ino_3 : Int) {K : KH} {σ : H} (h : g179 f_1 dir_2 ino_3 K σ) : callW Tryz.prog 179 [.pointer f_1, .int .i64 dir_2, .int .i64 ino_3] K σ := call_of_body mixed Tryz.func179 (by rw [e179]; exact h)


def an180 : Ann := (.q (.n (.q (.h)) (.q (.n (.q (.blk (.loop [(0,.p),(1,.i),(5,.i),(19,.l),(20,.i),(21,.i)] (.q (.n (.cond .z .z) (.n (.blk (.q (.q .r))) .r)))))) (.q .z)))))
def g180 (f_1 : Option Addr) (ino_2 : Int) (K : KH) : H -> Prop :=
 callT Tryz.prog 110 [.pointer f_1, .int .i64 ino_2] kI (fun (x3 : Int) => brW ((x3 : Int) != 2) (K (.int .i64 0)) (ptrW f_1 (fun b4 o5 => rdT (rdC b4 o5) kP (fun x6 => callT Tryz.prog 73 [.pointer x6, .int .i64 ino_2] kL (fun x7 => loopW [.sc .ptr, .sc (.int .i64), .sc (.int .i64), .sc .slc, .sc (.int .i64), .sc (.int .i64)] (fun (R8 : Option Addr -> Int -> Int -> Sl -> Int -> Int -> H -> Prop) => (fun (f_9 : Option Addr) (ino_10 : Int) (n_11 : Int) (x12 : Sl) (x13 : Int) (x14 : Int) =>
 brW (decide ((x14 : Int) < x13)) (ptrW x12.base (fun b15 o16 => ifW (0 <= x14 /\ x14 < ((x12.len : Nat) : Int)) (rdT (rdC b15 (o16 + x14.toNat * 1)) kS (fun (x17 : ByteArray) => ptrW f_9 (fun b18 o19 => rdT (rdC b18 o19) kP (fun x20 => callT Tryz.prog 125 [.pointer x20, .int .i64 ino_10, .string x17] (.tup [.sc (.int .i64), .sc .bool]) (fun (x21 : Int) (_x22 : Bool) => callT Tryz.prog 180 [.pointer f_9, .int .i64 x21] kI (fun (x23 : Int) =>
 R8 f_9 ino_10 (if x23 > n_11 then x23 else n_11) x12 x13 (IntKind.i64.wrap (x14 + 1)))))))))) (K (.int .i64 (IntKind.i64.wrap (n_11 + 1)))))) (fun (R24 : Option Addr -> Int -> Int -> Sl -> Int -> Int -> H -> Prop) => R24 f_1 ino_2 0 x7 ((x7.len : Nat) : Int) 0))))))
theorem e180 (f_1 : Option Addr) (ino_2 : Int) (K : KH) : bodyF Tryz.prog tau Tryz.f180 an180 [.pointer f_1, .int .i64 ino_2] K = g180 f_1 ino_2 K := by kernel_rfl
theorem c180 (f_1 : Option Addr) (ino_2 : Int) {K : KH} {σ : H} (h : g180 f_1 ino_2 K σ) : callW Tryz.prog 180 [.pointer f_1, .int .i64 ino_2] K σ := call_of_body mixed Tryz.func180 (by rw [e180]; exact h)


def an181 : Ann := (.q (.n (.q (.blk (.loop [(1,.p),(2,.p),(4,.i)] (.n (.q (.cond .z .z)) (.n (.blk (.q (.h))) .r))))) (.q .z)))
def g181 (x1 : Option Addr) (x2 : Option Addr) (x3 : Option Addr) (K : KH) : H -> Prop :=
 ptrW x1 (fun b4 o5 => rdT (rdC b4 o5) kI (fun (x6 : Int) => loopW [.sc .ptr, .sc .ptr, .sc (.int .i64)] (fun (R7 : Option Addr -> Option Addr -> Int -> H -> Prop) => (fun (x8 : Option Addr) (x9 : Option Addr) (at_10 : Int) => brW ((at_10 : Int) != 1) (ptrW x9 (fun b11 o12 => rdT (rdC b11 o12) kI (fun (x13 : Int) => brW ((at_10 : Int) == x13) (K (.int .i64 2)) (ptrW x8 (fun b14 o15 => rdT (rdC b14 o15) kP (fun x16 => ptrW x16 (fun b17 o18 => rdT (rdC b17 (o18 + 4)) kM (fun (x19 : Option Nat) =>
 rdT (rdM (.int .i64) (.pointer none) false x19 (.int .i64 at_10)) kP (fun x20 => ptrW x20 (fun b21 o22 => rdT (rdC b21 (o22 + 4)) kI (fun (x23 : Int) => R7 x8 x9 x23))))))))))) (K (.int .i64 0)))) (fun (R24 : Option Addr -> Option Addr -> Int -> H -> Prop) => R24 x2 x3 x6)))
theorem e181 (x1 : Option Addr) (x2 : Option Addr) (x3 : Option Addr) (K : KH) : bodyF Tryz.prog tau Tryz.f181 an181 [.pointer x1, .pointer x2, .pointer x3] K = g181 x1 x2 x3 K := by kernel_rfl
theorem c181 (x1 : Option Addr) (x2 : Option Addr) (x3 : Option Addr) {K : KH} {σ : H} (h : g181 x1 x2 x3 K σ) : callW Tryz.prog 181 [.pointer x1, .pointer x2, .pointer x3] K σ := call_of_body mixed Tryz.func181 (by rw [e181]; exact h)


def an182 : Ann := (.q (.q .z))
def g182 (x1 : Option Addr) (K : KH) : H -> Prop :=
 ptrW x1 (fun b2 o3 => rdT (rdC b2 o3) kI (fun (x4 : Int) => brW (decide ((x4 : Int) >= 0)) (ptrW x1 (fun b5 o6 => rdT (rdC b5 o6) kI (fun (x7 : Int) => callT Tryz.prog 161 [.bool (decide ((x7 : Int) <= 511)), .int .i64 2] kI (fun (x8 : Int) => K (.int .i64 x8))))) (callT Tryz.prog 161 [.bool false, .int .i64 2] kI (fun (x9 : Int) => K (.int .i64 x9)))))
theorem e182 (x1 : Option Addr) (K : KH) : bodyF Tryz.prog tau Tryz.f182 an182 [.pointer x1] K = g182 x1 K := by kernel_rfl
theorem c182 (x1 : Option Addr) {K : KH} {σ : H} (h : g182 x1 K σ) : callW Tryz.prog 182 [.pointer x1] K σ := call_of_body mixed Tryz.func182 (by rw [e182]; exact h)


def an183 : Ann := (.q (.q .z))
def g183 (x1 : Option Addr) (x2 : Option Addr) (K : KH) : H -> Prop :=
 ptrW x1 (fun b3 o4 => rdT (rdC b3 o4) kP (fun x5 => ptrW x2 (fun b6 o7 => rdT (rdC b6 o7) kI (fun (x8 : Int) => callT Tryz.prog 138 [.pointer x5, .int .i64 x8] kP (fun x9 => callT Tryz.prog 161 [.bool (!x9.isNone), .int .i64 5] kI (fun (x10 : Int) => K (.int .i64 x10)))))))
theorem e183 (x1 : Option Addr) (x2 : Option Addr) (K : KH) : bodyF Tryz.prog tau Tryz.f183 an183 [.pointer x1, .pointer x2] K = g183 x1 x2 K := by kernel_rfl
theorem c183 (x1 : Option Addr) (x2 : Option Addr) {K : KH} {σ : H} (h : g183 x1 x2 K σ) : callW Tryz.prog 183 [.pointer x1, .pointer x2] K σ := call_of_body mixed Tryz.func183 (by rw [e183]; exact h)

end Go.Proofs.YtbjbeajbckcecaaGreatDoor

