/- A part of the proof: MiscNumbers holds. -/
import Derived.Test.YthclifcpjnhmjaaGreatDoorPan
import Derived.Test.YthclifcpjnhmjaaGreatDoorProg
import Derived.KernelRfl
import Derived.Test.YthclifcpjnhmjaaGreatDoorChecked
namespace Go.Wk
open Go Go.HL
structure AN where
 kind : Int
 mode : Int
 data : ByteArray
 links : Int
 up : Int
 ents : List (ByteArray × Int)
structure AT where
 qi : Int
 qb : Int
 ui : Int
 ub : Int
 last : Int
 nodes : List (Int × AN)
def AT.get (A : AT) (i : Int) : Option AN := lk i A.nodes
def AT.find (A : AT) (dir : Int) (name : ByteArray) : Option Int := (A.get dir).bind fun n => lk name n.ents
def AT.kind (A : AT) (i : Int) : Int := ((A.get i).map (·.kind)).getD 0
def AT.upOf (A : AT) (i : Int) : Int := ((A.get i).map (·.up)).getD 0
def AT.dirE (A : AT) (ino : Int) : Int := match A.get ino with
 | none => 5
 | some n => if n.kind == 2 then 0 else 8
def AT.fileE (A : AT) (ino : Int) : Int := match A.get ino with
 | none => 5
 | some n => if n.kind == 2 then 7 else if n.kind == 1 then 0 else 2
def sEq (x y : ByteArray) : Bool := x.data.toList == y.data.toList
theorem sEq_eq (x y : ByteArray) : sEq x y = strEq x y := by unfold sEq strEq; rw [ByteArray.toList_eq, ByteArray.toList_eq]
theorem sEq_iff {x y : ByteArray} : sEq x y = true ↔ x = y := by rw [sEq_eq]; exact strEq_iff
def badByte (s : ByteArray) : Bool := s.data.toList.any fun c => c == 47 || c == 0
def hasNul (s : ByteArray) : Bool := s.data.toList.any fun c => c == 0
def namedE (name : ByteArray) : Int := if name.size > 56 then 3 else if !sEq name ⟨⟨[]⟩⟩ && !sEq name ⟨⟨[46]⟩⟩ && !sEq name ⟨⟨[46, 46]⟩⟩ && !badByte name then 0 else 2
def linkOk (d : ByteArray) : Bool := !sEq d ⟨⟨[]⟩⟩ && (decide (d.size <= 255) && !hasNul d)
def kindOkE (kind : Int) (d : ByteArray) : Bool := (lk kind [((1 : Int), true), (2, sEq d ⟨⟨[]⟩⟩), (3, linkOk d)]).getD false
def likeE (kind mode : Int) (d : ByteArray) : Int := if kindOkE kind d && (decide (0 <= mode) && decide (mode <= 511)) then 0 else 2
def wr (x : Int) : Int := IntKind.i64.wrap x
def AT.roomE (A : AT) (i n : Int) : Int := if wr (A.ui + i) <= A.qi /\ wr (A.ub + n) <= A.qb then 0 else 10
def firstE : List Int -> Int
 | [] => 0
 | e :: es => if e = 0 then firstE es else e
def AT.set (A : AT) (i : Int) (n : AN) : AT := { A with nodes := up i n A.nodes }
def AT.ent (A : AT) (dir : Int) (f : List (ByteArray × Int) -> List (ByteArray × Int)) : AT := match A.get dir with
 | none => A
 | some n => A.set dir { n with ents := f n.ents }
def AT.makeE (A : AT) (dir : Int) (name : ByteArray) (kind mode : Int) (data : ByteArray) : Int :=
 firstE [0, A.dirE dir, namedE name, likeE kind mode data, if (A.find dir name).isSome then 6 else 0, A.roomE 1 (data.size : Int)]
def AT.made (A : AT) (dir : Int) (name : ByteArray) (kind mode : Int) (data : ByteArray) : AT :=
 let i := wr (A.last + 1)
 let A1 := { A with last := i, nodes := up i ⟨kind, mode, data, 1, if kind == 2 then dir else 0, []⟩ A.nodes }
 let A2 := A1.ent dir (up name i)
 { A2 with ui := wr (A.ui + 1), ub := wr (A.ub + data.size) }
def AT.mod (A : AT) (i : Int) (f : AN -> AN) : AT := match A.get i with
 | none => A
 | some n => A.set i (f n)
def AT.writeE (A : AT) (ino : Int) (data : ByteArray) : Int :=
 firstE [0, A.fileE ino, A.roomE 0 (wr ((data.size : Int) - ((A.get ino).map (·.data.size)).getD 0))]
def AT.written (A : AT) (ino : Int) (data : ByteArray) : AT := match A.get ino with
 | none => A
 | some n => { A.set ino { n with data := data } with ub := wr (A.ub + wr ((data.size : Int) - n.data.size)) }
def AT.chmodE (A : AT) (ino mode : Int) : Int := firstE [0, if 0 <= mode /\ mode <= 511 then 0 else 2, if (A.get ino).isSome then 0 else 5]
def AT.chmoded (A : AT) (ino mode : Int) : AT := A.mod ino fun n => { n with mode := mode }
def newOk (qi qb : Int) : Bool := !(decide (qi < 1) || (decide (qi > 1048576) || (decide (qb < 0) || decide (qb > 1073741824))))
def newT (qi qb : Int) : AT := ⟨qi, qb, 1, 0, 1, [(1, ⟨2, 493, ⟨⟨[]⟩⟩, 1, 1, []⟩)]⟩
def AT.makeR (A : AT) (dir : Int) (name : ByteArray) (kind mode : Int) (data : ByteArray) : Int × Int × AT :=
 if A.makeE dir name kind mode data = 0 then (wr (A.last + 1), 0, A.made dir name kind mode data) else (0, A.makeE dir name kind mode data, A)
def AT.writeR (A : AT) (ino : Int) (data : ByteArray) : Int × AT := if A.writeE ino data = 0 then (0, A.written ino data) else (A.writeE ino data, A)
def AT.chmodR (A : AT) (ino mode : Int) : Int × AT := if A.chmodE ino mode = 0 then (0, A.chmoded ino mode) else (A.chmodE ino mode, A)
end Go.Wk

namespace Go.Proofs.YthclifcpjnhmjaaGreatDoor
open Go Go.HL
@[reducible] def kI : TK := .one (.sc (.int .i64))
@[reducible] def kC : TK := .one (.sc (.int .u8))
@[reducible] def kB : TK := .one (.sc .bool)
@[reducible] def kS : TK := .one (.sc .str)
@[reducible] def kP : TK := .one (.sc .ptr)
@[reducible] def kL : TK := .one (.sc .slc)
@[reducible] def kM : TK := .one (.sc .map)
@[reducible] def kR : TK := .one (.sc .raw)
@[reducible] def kU : TK := .tup []
def tau : Nat -> TK
 | 0 => kU
 | 2 => kI
 | 3 => kI
 | 4 => kB
 | 5 => kC
 | 6 => kC
 | 7 => (.one (.agg [(.int .i64), (.int .i64), .bool, (.int .u8)]))
 | 8 => (.one (.agg [(.int .i64), (.int .i64), .bool, (.int .u8)]))
 | 9 => kS
 | 10 => kS
 | 11 => kS
 | 12 => (.one (.sc (.int .u64)))
 | 13 => (.one (.agg [.str, (.int .u64)]))
 | 14 => (.one (.agg [.str, (.int .u64)]))
 | 15 => kP
 | 16 => kP
 | 17 => kP
 | 18 => (.one (.agg [.ptr]))
 | 19 => (.one (.agg [.ptr]))
 | 21 => (.one (.sc (.int .i32)))
 | 22 => kL
 | 24 => kP
 | 25 => kP
 | 26 => (.tup [.sc .ptr, .sc .ptr])
 | 28 => (.one (.agg [.str, .str, .str, .str, .str]))
 | 34 => (.one (.agg [.str, .str, (.int .i64)]))
 | 35 => (.one (.agg [.str, .str, (.int .i64)]))
 | 38 => kL
 | 39 => kL
 | 41 => (.tup [.agg [.str, .str, (.int .i64)], .sc .bool])
 | 43 => (.one (.agg [.str, .slc, .str, .str]))
 | 44 => (.one (.agg [.str, .slc, .str, .str]))
 | 49 => (.one (.agg [(.int .i64), (.int .i64)]))
 | 50 => (.one (.agg [(.int .i64), (.int .i64)]))
 | 58 => kI
 | 63 => (.one (.sc (.int .u64)))
 | 64 => (.tup [.sc (.int .u64), .sc (.int .u64)])
 | 67 => kP
 | 68 => (.one (.agg [.ptr, .slc]))
 | 69 => (.one (.agg [.ptr, .slc]))
 | 73 => (.tup [.sc (.int .i64), .sc .raw])
 | 80 => (.tup [.sc .raw, .sc .bool])
 | 83 => kP
 | 85 => (.tup [.sc .raw, .sc .bool])
 | 87 => (.one (.agg [.str, .slc, .str, .str, .ptr]))
 | 88 => (.one (.agg [.str, .slc, .str, .str, .ptr]))
 | 89 => kM
 | 92 => kP
 | 93 => (.one (.agg [.ptr]))
 | 94 => (.one (.agg [.ptr]))
 | 95 => kL
 | 96 => (.one (.agg [(.int .i64), (.int .i64), .slc]))
 | 97 => (.one (.agg [(.int .i64), (.int .i64), .slc]))
 | 98 => kP
 | 99 => kL
 | 100 => (.one (.agg [(.int .i64), (.int .i64), .str, .slc, (.int .i64)]))
 | 101 => (.one (.agg [(.int .i64), (.int .i64), .str, .slc, (.int .i64)]))
 | 103 => (.tup [.sc (.int .i32), .sc (.int .i64)])
 | 106 => (.one (.agg [(.int .i64), .str, (.int .i64), .bool]))
 | 107 => (.one (.agg [(.int .i64), .str, (.int .i64), .bool]))
 | 108 => (.tup [.agg [(.int .i64), .str, (.int .i64), .bool], .sc (.int .i64)])
 | 110 => (.tup [.sc (.int .i64), .sc (.int .i64)])
 | 112 => (.one (.agg [(.int .i64), (.int .i64), .str, (.int .i64)]))
 | 113 => (.one (.agg [(.int .i64), (.int .i64), .str, (.int .i64)]))
 | 114 => (.tup [.agg [(.int .i64), (.int .i64), .str, (.int .i64)], .sc .bool])
 | 124 => (.one (.agg [(.int .i64), .str, (.int .i64)]))
 | 125 => (.one (.agg [(.int .i64), .str, (.int .i64)]))
 | 126 => (.tup [.agg [(.int .i64), .str, (.int .i64)], .sc (.int .i64)])
 | 131 => (.one (.sc (.int .u32)))
 | 132 => (.tup [.sc (.int .u32), .sc (.int .u32)])
 | 134 => (.one (.sc (.int .u64)))
 | 135 => (.tup [.sc (.int .u64), .sc (.int .u64)])
 | 137 => kP
 | 140 => kL
 | 141 => (.tup [.sc .slc, .sc .bool])
 | 144 => (.tup [.sc .str, .sc .bool])
 | 145 => (.tup [.sc (.int .i64), .sc .bool])
 | 149 => (.one (.agg [.str, (.int .u8), (.int .i64), .bool]))
 | 150 => (.one (.agg [.str, (.int .u8), (.int .i64), .bool]))
 | 151 => (.tup [.sc .bool, .sc .bool])
 | 154 => kL
 | 155 => (.tup [.sc .slc, .sc .bool])
 | 157 => (.one (.agg [.str, (.int .u8), (.int .i64), .bool]))
 | 158 => (.one (.agg [.str, (.int .u8), (.int .i64), .bool]))
 | 161 => kM
 | 162 => (.one (.agg [(.int .i64), (.int .i64), (.int .i64), (.int .i64), .map, (.int .i64)]))
 | 163 => (.one (.agg [(.int .i64), (.int .i64), (.int .i64), (.int .i64), .map, (.int .i64)]))
 | 164 => kP
 | 165 => kM
 | 166 => (.one (.agg [(.int .i64), (.int .i64), .str, (.int .i64), (.int .i64), .map]))
 | 167 => (.one (.agg [(.int .i64), (.int .i64), .str, (.int .i64), (.int .i64), .map]))
 | 169 => kP
 | 170 => kM
 | 186 => (.tup [.agg [.str, (.int .u8), (.int .i64), .bool], .sc (.int .i64)])
 | 188 => (.tup [.sc .bool, .sc .bool, .sc .bool])
 | 194 => (.one (.agg [(.int .u8), (.int .u8)]))
 | 195 => (.one (.agg [(.int .u8), (.int .u8)]))
 | 202 => kL
 | 205 => (.one (.agg [.str, (.int .i64)]))
 | 206 => (.one (.agg [.str, (.int .i64)]))
 | 209 => (.one (.agg [(.int .u8), (.int .u8), (.int .u8), (.int .u8), (.int .u8), (.int .u8), (.int .u8), (.int .u8), (.int .u8), (.int .u8), (.int .u8), (.int .u8), (.int .u8), (.int .u8), (.int .u8), (.int .u8), (.int .u8), (.int .u8), (.int .u8), (.int .u8), (.int .u8), (.int .u8), (.int .u8), (.int .u8)]))
 | 212 => (.tup [.sc .slc, .sc .str])
 | 214 => (.tup [.sc .raw, .sc .bool])
 | 215 => kM
 | 217 => (.tup [.agg [(.int .i64), (.int .i64), .str, (.int .i64)], .sc (.int .i64)])
 | 221 => (.tup [.sc .raw, .sc .bool])
 | 222 => kM
 | 229 => kI
 | 230 => (.tup [.sc (.int .i64), .sc .raw])
 | 232 => kP
 | 236 => (.one (.agg [(.int .u64), (.int .u64), (.int .u64), (.int .u64), (.int .u64), (.int .u64), (.int .u64), (.int .u64), (.int .u64), (.int .u64), (.int .u64), (.int .u64), (.int .u64), (.int .u64), (.int .u64), (.int .u64), (.int .u64), (.int .u64), (.int .u64), (.int .u64)]))
 | 241 => (.tup [.sc (.int .u64), .sc .raw])
 | 243 => (.one (.agg [.str, .str, .raw]))
 | 244 => (.one (.agg [.str, .str, .raw]))
 | 248 => kP
 | 249 => (.one (.agg [.str]))
 | 250 => (.one (.agg [.str]))
 | 253 => (.one (.agg [.ptr, .ptr, .ptr, .str]))
 | 254 => (.one (.agg [.ptr, .ptr, .ptr, .str]))
 | 255 => (.one (.agg []))
 | 256 => (.one (.agg []))
 | 257 => (.one (.agg []))
 | 258 => kC
 | 259 => kC
 | 261 => (.one (.sc (.int .i32)))
 | 262 => (.one (.sc (.int .i32)))
 | 263 => (.one (.agg [(.int .u64), (.int .u64), (.int .u32), (.int .u8), (.int .u8), (.int .u8), (.int .u8), .raw, .ptr, (.int .i32), (.int .i32)]))
 | 264 => (.one (.agg [(.int .u64), (.int .u64), (.int .u32), (.int .u8), (.int .u8), (.int .u8), (.int .u8), .raw, .ptr, (.int .i32), (.int .i32)]))
 | _ => kR
theorem mixed : Tryz.prog.follows .mixedOrders = true := by kernel_rfl
end Go.Proofs.YthclifcpjnhmjaaGreatDoor

set_option maxRecDepth 100000
namespace Go.Proofs.YthclifcpjnhmjaaGreatDoor
open Go Go.HL
def an4 : Ann := (.q (.n (.q (.h)) (.q (.n (.q (.h)) (.q (.q (.n (.seq (some [(5,.p),(7,.i),(8,.i),(9,.s),(10,.s),(44,.b)]) .r (.h)) (.q .z))))))))
def g4 (a_1 : Int) (b_2 : Int) (K : KH) : H -> Prop :=
 callT Tryz.prog 9 [] kB (fun x3 => brW (!x3) (K (.bool false)) (callT Tryz.prog 10 [] (.tup [.sc .ptr, .sc .ptr]) (fun x4 _x5 => brW x4.isNone (K (.bool false)) (ifW ((1000000000000 : Int) ≠ 0) (ifW ((1000000000000 : Int) ≠ 0) (callT Tryz.prog 14 [.int .i64 (Int.tmod a_1 1000000000000)] kS (fun (x6 : ByteArray) => callT Tryz.prog 14 [.int .i64 (Int.tmod b_2 1000000000000)] kS (fun (x7 : ByteArray) =>
 letJ (T := Option Addr -> Int -> Int -> ByteArray -> ByteArray -> Bool -> H -> Prop) (fun f_9 x_10 y_11 s_12 t_13 x14 => brW x14 (K (.bool false)) (alW (.cells ⟨[.string (⟨⟨[116, 101, 115, 116]⟩⟩ : ByteArray), .string s_12, .string (⟨⟨[45, 108, 116]⟩⟩ : ByteArray), .string t_13]⟩ 9 (0, 0)) (fun b15 => callT Tryz.prog 15 [.pointer f_9, .slice (some ⟨b15, 0, none⟩) 4 4] (.one (.agg [.str, .str, (.int .i64)])) (fun (_x16 : ByteArray) (_x17 : ByteArray) (x18 : Int) =>
 brW (((x18 : Int) == 0) == (decide ((x_10 : Int) < y_11))) (alW (.cells ⟨[.string (⟨⟨[116, 101, 115, 116]⟩⟩ : ByteArray), .string s_12, .string (⟨⟨[45, 103, 101]⟩⟩ : ByteArray), .string t_13]⟩ 9 (0, 0)) (fun b19 => callT Tryz.prog 15 [.pointer f_9, .slice (some ⟨b19, 0, none⟩) 4 4] (.one (.agg [.str, .str, (.int .i64)])) (fun (_x20 : ByteArray) (_x21 : ByteArray) (x22 : Int) => brW (((x22 : Int) == 0) == (decide ((x_10 : Int) >= y_11)))
 (alW (.cells ⟨[.string (⟨⟨[91]⟩⟩ : ByteArray), .string s_12, .string (⟨⟨[45, 101, 113]⟩⟩ : ByteArray), .string t_13, .string (⟨⟨[93]⟩⟩ : ByteArray)]⟩ 9 (0, 0)) (fun b23 => callT Tryz.prog 15 [.pointer f_9, .slice (some ⟨b23, 0, none⟩) 5 5] (.one (.agg [.str, .str, (.int .i64)])) (fun (_x24 : ByteArray) (_x25 : ByteArray) (x26 : Int) => brW (((x26 : Int) == 0) == ((x_10 : Int) == y_11))
 (alW (.cells ⟨[.string (⟨⟨[116, 101, 115, 116]⟩⟩ : ByteArray), .string s_12, .string (⟨⟨[61]⟩⟩ : ByteArray), .string t_13]⟩ 9 (0, 0)) (fun b27 => callT Tryz.prog 15 [.pointer f_9, .slice (some ⟨b27, 0, none⟩) 4 4] (.one (.agg [.str, .str, (.int .i64)])) (fun (_x28 : ByteArray) (_x29 : ByteArray) (x30 : Int) => brW (((x30 : Int) == 0) == ((x_10 : Int) == y_11))
 (alW (.cells ⟨[.string (⟨⟨[116, 101, 115, 116]⟩⟩ : ByteArray), .string s_12, .string (⟨⟨[45, 108, 101]⟩⟩ : ByteArray), .string s_12]⟩ 9 (0, 0)) (fun b31 => callT Tryz.prog 15 [.pointer f_9, .slice (some ⟨b31, 0, none⟩) 4 4] (.one (.agg [.str, .str, (.int .i64)])) (fun (_x32 : ByteArray) (_x33 : ByteArray) (x34 : Int) => K (.bool ((x34 : Int) == 0))))) (K (.bool false))))) (K (.bool false))))) (K (.bool false))))) (K (.bool false)))))) (fun j8 =>
 ifW (x6.size + (⟨⟨[32]⟩⟩ : ByteArray).size <= 9223372036854775807) (ifW ((x6 ++ (⟨⟨[32]⟩⟩ : ByteArray)).size + x7.size <= 9223372036854775807) (alW (.cells ⟨[.string (⟨⟨[112, 114, 105, 110, 116, 102]⟩⟩ : ByteArray), .string (⟨⟨[37, 100, 32, 37, 100]⟩⟩ : ByteArray), .string x6, .string x7]⟩ 9 (0, 0)) (fun b35 => callT Tryz.prog 12 [.pointer x4, .string ((x6 ++ (⟨⟨[32]⟩⟩ : ByteArray)) ++ x7), .slice (some ⟨b35, 0, none⟩) 4 4] kB (fun x36 => brW (!x36)
 (j8 x4 (Int.tmod a_1 1000000000000) (Int.tmod b_2 1000000000000) x6 x7 true) (alW (.cells ⟨[.string (⟨⟨[112, 114, 105, 110, 116, 102]⟩⟩ : ByteArray), .string (⟨⟨[37, 115]⟩⟩ : ByteArray), .string x6]⟩ 9 (0, 0)) (fun b37 => callT Tryz.prog 12 [.pointer x4, .string x6, .slice (some ⟨b37, 0, none⟩) 3 3] kB (fun x38 => j8 x4 (Int.tmod a_1 1000000000000) (Int.tmod b_2 1000000000000) x6 x7 (!x38)))))))))))))))))
theorem e4 (a_1 : Int) (b_2 : Int) (K : KH) : bodyF Tryz.prog tau Tryz.f4 an4 [.int .i64 a_1, .int .i64 b_2] K = g4 a_1 b_2 K := by kernel_rfl
theorem c4 (a_1 : Int) (b_2 : Int) {K : KH} {σ : H} (h : g4 a_1 b_2 K σ) : callW Tryz.prog 4 [.int .i64 a_1, .int .i64 b_2] K σ := call_of_body mixed Tryz.func4 (by rw [e4]; exact h)


def an9 : Ann := (.q (.q (.n (.q (.h)) (.q .z))))
def g9  (K : KH) : H -> Prop :=
 callT Tryz.prog 10 [] (.tup [.sc .ptr, .sc .ptr]) (fun x1 _x2 => brW x1.isNone (K (.bool false)) (alW (.cells ⟨[.string (⟨⟨[101, 99, 104, 111]⟩⟩ : ByteArray), .string (⟨⟨[97]⟩⟩ : ByteArray), .string (⟨⟨[98, 32, 99]⟩⟩ : ByteArray)]⟩ 9 (0, 0)) (fun b3 => callT Tryz.prog 12 [.pointer x1, .string (⟨⟨[97, 32, 98, 32, 99, 10]⟩⟩ : ByteArray), .slice (some ⟨b3, 0, none⟩) 3 3] kB (fun x4 => brW x4
 (alW (.cells ⟨[.string (⟨⟨[101, 99, 104, 111]⟩⟩ : ByteArray), .string (⟨⟨[45, 110]⟩⟩ : ByteArray), .string (⟨⟨[120]⟩⟩ : ByteArray)]⟩ 9 (0, 0)) (fun b5 => callT Tryz.prog 12 [.pointer x1, .string (⟨⟨[120]⟩⟩ : ByteArray), .slice (some ⟨b5, 0, none⟩) 3 3] kB (fun x6 => brW x6
 (alW (.cells ⟨[.string (⟨⟨[112, 114, 105, 110, 116, 102]⟩⟩ : ByteArray), .string (⟨⟨[37, 115, 61, 37, 100, 92, 110]⟩⟩ : ByteArray), .string (⟨⟨[97]⟩⟩ : ByteArray), .string (⟨⟨[49]⟩⟩ : ByteArray), .string (⟨⟨[98]⟩⟩ : ByteArray), .string (⟨⟨[50]⟩⟩ : ByteArray)]⟩ 9 (0, 0)) (fun b7 => callT Tryz.prog 12 [.pointer x1, .string (⟨⟨[97, 61, 49, 10, 98, 61, 50, 10]⟩⟩ : ByteArray), .slice (some ⟨b7, 0, none⟩) 6 6] kB (fun x8 => brW x8
 (alW (.cells ⟨[.string (⟨⟨[112, 114, 105, 110, 116, 102]⟩⟩ : ByteArray), .string (⟨⟨[37, 51, 100, 124, 37, 45, 51, 115, 124, 37, 120]⟩⟩ : ByteArray), .string (⟨⟨[53]⟩⟩ : ByteArray), .string (⟨⟨[97]⟩⟩ : ByteArray), .string (⟨⟨[50, 53, 53]⟩⟩ : ByteArray)]⟩ 9 (0, 0)) (fun b9 => callT Tryz.prog 12 [.pointer x1, .string (⟨⟨[32, 32, 53, 124, 97, 32, 32, 124, 102, 102]⟩⟩ : ByteArray), .slice (some ⟨b9, 0, none⟩) 5 5] kB (fun x10 => brW x10
 (alW (.cells ⟨[.string (⟨⟨[116, 101, 115, 116]⟩⟩ : ByteArray), .string (⟨⟨[97]⟩⟩ : ByteArray), .string (⟨⟨[61]⟩⟩ : ByteArray), .string (⟨⟨[97]⟩⟩ : ByteArray)]⟩ 9 (0, 0)) (fun b11 => callT Tryz.prog 16 [.pointer x1, .int .i64 0, .slice (some ⟨b11, 0, none⟩) 4 4] kB (fun x12 => brW x12 (alW (.cells ⟨[.string (⟨⟨[116, 101, 115, 116]⟩⟩ : ByteArray), .string (⟨⟨[51]⟩⟩ : ByteArray), .string (⟨⟨[45, 108, 116]⟩⟩ : ByteArray), .string (⟨⟨[50, 48]⟩⟩ : ByteArray)]⟩ 9 (0, 0)) (fun b13 =>
 callT Tryz.prog 16 [.pointer x1, .int .i64 0, .slice (some ⟨b13, 0, none⟩) 4 4] kB (fun x14 => brW x14 (alW (.cells ⟨[.string (⟨⟨[116, 101, 115, 116]⟩⟩ : ByteArray), .string (⟨⟨[33]⟩⟩ : ByteArray), .string (⟨⟨[]⟩⟩ : ByteArray)]⟩ 9 (0, 0)) (fun b15 => callT Tryz.prog 16 [.pointer x1, .int .i64 0, .slice (some ⟨b15, 0, none⟩) 3 3] kB (fun x16 => brW x16
 (alW (.cells ⟨[.string (⟨⟨[91]⟩⟩ : ByteArray), .string (⟨⟨[45, 110]⟩⟩ : ByteArray), .string (⟨⟨[]⟩⟩ : ByteArray), .string (⟨⟨[93]⟩⟩ : ByteArray)]⟩ 9 (0, 0)) (fun b17 => callT Tryz.prog 16 [.pointer x1, .int .i64 1, .slice (some ⟨b17, 0, none⟩) 4 4] kB (fun x18 => brW x18 (alW (.cells ⟨[.string (⟨⟨[91]⟩⟩ : ByteArray), .string (⟨⟨[120]⟩⟩ : ByteArray)]⟩ 9 (0, 0)) (fun b19 => callT Tryz.prog 16 [.pointer x1, .int .i64 2, .slice (some ⟨b19, 0, none⟩) 2 2] kB (fun x20 => brW x20
 (alW (.cells ⟨[.string (⟨⟨[98, 97, 115, 101, 110, 97, 109, 101]⟩⟩ : ByteArray), .string (⟨⟨[47, 97, 47, 98, 46, 99]⟩⟩ : ByteArray), .string (⟨⟨[46, 99]⟩⟩ : ByteArray)]⟩ 9 (0, 0)) (fun b21 => callT Tryz.prog 12 [.pointer x1, .string (⟨⟨[98, 10]⟩⟩ : ByteArray), .slice (some ⟨b21, 0, none⟩) 3 3] kB (fun x22 => brW x22 (alW (.cells ⟨[.string (⟨⟨[98, 97, 115, 101, 110, 97, 109, 101]⟩⟩ : ByteArray), .string (⟨⟨[97, 47]⟩⟩ : ByteArray)]⟩ 9 (0, 0)) (fun b23 =>
 callT Tryz.prog 12 [.pointer x1, .string (⟨⟨[97, 10]⟩⟩ : ByteArray), .slice (some ⟨b23, 0, none⟩) 2 2] kB (fun x24 => brW x24 (alW (.cells ⟨[.string (⟨⟨[100, 105, 114, 110, 97, 109, 101]⟩⟩ : ByteArray), .string (⟨⟨[97, 47, 98]⟩⟩ : ByteArray)]⟩ 9 (0, 0)) (fun b25 => callT Tryz.prog 12 [.pointer x1, .string (⟨⟨[97, 10]⟩⟩ : ByteArray), .slice (some ⟨b25, 0, none⟩) 2 2] kB (fun x26 => brW x26
 (alW (.cells ⟨[.string (⟨⟨[100, 105, 114, 110, 97, 109, 101]⟩⟩ : ByteArray), .string (⟨⟨[47, 97]⟩⟩ : ByteArray)]⟩ 9 (0, 0)) (fun b27 => callT Tryz.prog 12 [.pointer x1, .string (⟨⟨[47, 10]⟩⟩ : ByteArray), .slice (some ⟨b27, 0, none⟩) 2 2] kB (fun x28 => brW x28 (alW (.cells ⟨[.string (⟨⟨[100, 105, 114, 110, 97, 109, 101]⟩⟩ : ByteArray), .string (⟨⟨[97]⟩⟩ : ByteArray)]⟩ 9 (0, 0)) (fun b29 =>
 callT Tryz.prog 12 [.pointer x1, .string (⟨⟨[46, 10]⟩⟩ : ByteArray), .slice (some ⟨b29, 0, none⟩) 2 2] kB (fun x30 => K (.bool x30)))) (K (.bool false))))) (K (.bool false))))) (K (.bool false))))) (K (.bool false))))) (K (.bool false))))) (K (.bool false))))) (K (.bool false))))) (K (.bool false))))) (K (.bool false))))) (K (.bool false))))) (K (.bool false))))) (K (.bool false))))) (K (.bool false))))))
theorem e9  (K : KH) : bodyF Tryz.prog tau Tryz.f9 an9 [] K = g9  K := by kernel_rfl
theorem c9  {K : KH} {σ : H} (h : g9  K σ) : callW Tryz.prog 9 [] K σ := call_of_body mixed Tryz.func9 (by rw [e9]; exact h)


def an10 : Ann := (.q (.q (.n (.reg [0,2,1,3,4,5] [[],[0],[],[0,1,2],(rn 4),(rn 5)]) (.n (.seq (some [(3,.p),(4,.p),(45,.b)]) .r (.h)) (.q (.q (.q (.q (.q (.q (.q .z)))))))))))
def g10  (K : KH) : H -> Prop :=
 alW (.cells ⟨[.int .i64 0, .int .i64 0]⟩ 50 (0, 0)) (fun b1 => stW Tryz.prog 50 (.pointer (some ⟨b1, 0, none⟩)) (.agg ⟨[.int .i64 20, .int .i64 1000]⟩) (rdT (rdA 2 b1 0) (.one (.agg [(.int .i64), (.int .i64)])) (fun (x2 : Int) (x3 : Int) => rdT (rdA 2 b1 0) (.one (.agg [(.int .i64), (.int .i64)])) (fun (x4 : Int) (x5 : Int) => callT Tryz.prog 26 [.agg ⟨[.int .i64 x2, .int .i64 x3]⟩] kP (fun x6 => andW (fun σ => (rdA 2 b1 0) σ = some (.agg ⟨[.int .i64 x4, .int .i64 x5]⟩))
 (callT Tryz.prog 27 [.agg ⟨[.int .i64 x4, .int .i64 x5]⟩] kP (fun x7 => letJ (T := Option Addr -> Option Addr -> Bool -> H -> Prop) (fun f_9 r_10 x11 => brW x11 (K (.tuple ⟨[.pointer none, .pointer none]⟩)) (callT Tryz.prog 32 [.pointer r_10, .string (⟨⟨[47]⟩⟩ : ByteArray), .string (⟨⟨[102]⟩⟩ : ByteArray), .string (⟨⟨[120]⟩⟩ : ByteArray), .bool false] kI (fun (_x12 : Int) =>
 callT Tryz.prog 32 [.pointer r_10, .string (⟨⟨[47]⟩⟩ : ByteArray), .string (⟨⟨[101]⟩⟩ : ByteArray), .string (⟨⟨[]⟩⟩ : ByteArray), .bool false] kI (fun (_x13 : Int) => callT Tryz.prog 33 [.pointer r_10, .string (⟨⟨[47]⟩⟩ : ByteArray), .string (⟨⟨[101]⟩⟩ : ByteArray), .int .i64 64] kI (fun (_x14 : Int) => callT Tryz.prog 34 [.pointer r_10, .string (⟨⟨[47]⟩⟩ : ByteArray), .string (⟨⟨[100]⟩⟩ : ByteArray)] kI (fun (_x15 : Int) =>
 callT Tryz.prog 35 [.pointer r_10, .string (⟨⟨[47]⟩⟩ : ByteArray), .string (⟨⟨[102]⟩⟩ : ByteArray), .string (⟨⟨[108]⟩⟩ : ByteArray)] kI (fun (_x16 : Int) => callT Tryz.prog 35 [.pointer r_10, .string (⟨⟨[47]⟩⟩ : ByteArray), .string (⟨⟨[122, 122]⟩⟩ : ByteArray), .string (⟨⟨[110]⟩⟩ : ByteArray)] kI (fun (_x17 : Int) => K (.tuple ⟨[.pointer f_9, .pointer r_10]⟩))))))))) (fun j8 => brW x6.isNone (j8 x6 x7 true) (brW x7.isNone (j8 x6 x7 true)
 (callT Tryz.prog 28 [.pointer x6, .string (⟨⟨[47]⟩⟩ : ByteArray), .string (⟨⟨[102]⟩⟩ : ByteArray), .string (⟨⟨[120]⟩⟩ : ByteArray), .bool false] kI (fun (x18 : Int) => brW ((x18 : Int) != 0) (j8 x6 x7 true) (callT Tryz.prog 28 [.pointer x6, .string (⟨⟨[47]⟩⟩ : ByteArray), .string (⟨⟨[101]⟩⟩ : ByteArray), .string (⟨⟨[]⟩⟩ : ByteArray), .bool false] kI (fun (x19 : Int) => brW ((x19 : Int) != 0) (j8 x6 x7 true)
 (callT Tryz.prog 29 [.pointer x6, .string (⟨⟨[47]⟩⟩ : ByteArray), .string (⟨⟨[101]⟩⟩ : ByteArray), .int .i64 64] kI (fun (x20 : Int) => brW ((x20 : Int) != 0) (j8 x6 x7 true) (callT Tryz.prog 30 [.pointer x6, .string (⟨⟨[47]⟩⟩ : ByteArray), .string (⟨⟨[100]⟩⟩ : ByteArray)] kI (fun (x21 : Int) => brW ((x21 : Int) != 0) (j8 x6 x7 true) (callT Tryz.prog 31 [.pointer x6, .string (⟨⟨[47]⟩⟩ : ByteArray), .string (⟨⟨[102]⟩⟩ : ByteArray), .string (⟨⟨[108]⟩⟩ : ByteArray)] kI (fun (x22 : Int) =>
 brW ((x22 : Int) != 0) (j8 x6 x7 true) (callT Tryz.prog 31 [.pointer x6, .string (⟨⟨[47]⟩⟩ : ByteArray), .string (⟨⟨[122, 122]⟩⟩ : ByteArray), .string (⟨⟨[110]⟩⟩ : ByteArray)] kI (fun (x23 : Int) => j8 x6 x7 ((x23 : Int) != 0))))))))))))))))))))))
theorem e10  (K : KH) : bodyF Tryz.prog tau Tryz.f10 an10 [] K = g10  K := by kernel_rfl
theorem c10  {K : KH} {σ : H} (h : g10  K σ) : callW Tryz.prog 10 [] K σ := call_of_body mixed Tryz.func10 (by rw [e10]; exact h)


def an12 : Ann := (.q (.q .z))
def g12 (f_1 : Option Addr) (want_2 : ByteArray) (l_3 : Sl) (K : KH) : H -> Prop :=
 callT Tryz.prog 15 [.pointer f_1, .slice l_3.base l_3.len l_3.cap] (.one (.agg [.str, .str, (.int .i64)])) (fun (x4 : ByteArray) (x5 : ByteArray) (x6 : Int) => K (.bool (strEq x4 want_2 && (strEq x5 (⟨⟨[]⟩⟩ : ByteArray) && (((x6 : Int) == 0) && true)))))
theorem e12 (f_1 : Option Addr) (want_2 : ByteArray) (l_3 : Sl) (K : KH) : bodyF Tryz.prog tau Tryz.f12 an12 [.pointer f_1, .string want_2, .slice l_3.base l_3.len l_3.cap] K = g12 f_1 want_2 l_3 K := by kernel_rfl
theorem c12 (f_1 : Option Addr) (want_2 : ByteArray) (l_3 : Sl) {K : KH} {σ : H} (h : g12 f_1 want_2 l_3 K σ) : callW Tryz.prog 12 [.pointer f_1, .string want_2, .slice l_3.base l_3.len l_3.cap] K σ := call_of_body mixed Tryz.func12 (by rw [e12]; exact h)


def an13 : Ann := (.q (.n (.seq (some [(0,.s),(1,.s),(12,.b)]) .r (.h)) (.n (.seq (some [(0,.s),(1,.s),(21,.b)]) .r (.h)) (.n (.q (.q (.h))) (.q .z)))))
def g13 (s_1 : ByteArray) (cutset_2 : ByteArray) (K : KH) : H -> Prop :=
 letJ (T := ByteArray -> ByteArray -> Bool -> H -> Prop) (fun s_4 cutset_5 x6 => brW x6 (K (.string s_4)) (letJ (T := ByteArray -> ByteArray -> Bool -> H -> Prop) (fun s_8 cutset_9 x10 => brW x10 (idxW cutset_9 0 (fun c11 => callT Tryz.prog 42 [.string s_8, .int .u8 (c11.toNat : Int)] kS (fun (x12 : ByteArray) => K (.string x12)))) (callT Tryz.prog 43 [.string cutset_9] (.tup [.sc .raw, .sc .bool]) (fun x13 x14 =>
 alW (.cells ⟨[.bool false, .bool false, .bool false, .bool false, .bool false, .bool false, .bool false, .bool false, .bool false, .bool false, .bool false, .bool false, .bool false, .bool false, .bool false, .bool false, .bool false, .bool false, .bool false, .bool false, .bool false, .bool false, .bool false, .bool false, .bool false, .bool false, .bool false, .bool false, .bool false, .bool false, .bool false, .bool false, .bool false, .bool false, .bool false, .bool false, .bool false, .bool false, .bool false, .bool false, .bool false, .bool false, .bool false, .bool false, .bool false, .bool false, .bool false, .bool false, .bool false, .bool false, .bool false, .bool false, .bool false, .bool false, .bool false, .bool false, .bool false, .bool false, .bool false, .bool false, .bool false, .bool false, .bool false, .bool false, .bool false, .bool false, .bool false, .bool false, .bool false, .bool false, .bool false, .bool false, .bool false, .bool false, .bool false, .bool false, .bool false, .bool false, .bool false, .bool false, .bool false, .bool false, .bool false, .bool false, .bool false, .bool false, .bool false, .bool false, .bool false, .bool false, .bool false, .bool false, .bool false, .bool false, .bool false, .bool false, .bool false, .bool false, .bool false, .bool false, .bool false, .bool false, .bool false, .bool false, .bool false, .bool false, .bool false, .bool false, .bool false, .bool false, .bool false, .bool false, .bool false, .bool false, .bool false, .bool false, .bool false, .bool false, .bool false, .bool false, .bool false, .bool false, .bool false, .bool false, .bool false, .bool false, .bool false, .bool false, .bool false, .bool false, .bool false, .bool false, .bool false, .bool false, .bool false, .bool false, .bool false, .bool false, .bool false, .bool false, .bool false, .bool false, .bool false, .bool false, .bool false, .bool false, .bool false, .bool false, .bool false, .bool false, .bool false, .bool false, .bool false, .bool false, .bool false, .bool false, .bool false, .bool false, .bool false, .bool false, .bool false, .bool false, .bool false, .bool false, .bool false, .bool false, .bool false, .bool false, .bool false, .bool false, .bool false, .bool false, .bool false, .bool false, .bool false, .bool false, .bool false, .bool false, .bool false, .bool false, .bool false, .bool false, .bool false, .bool false, .bool false, .bool false, .bool false, .bool false, .bool false, .bool false, .bool false, .bool false, .bool false, .bool false, .bool false, .bool false, .bool false, .bool false, .bool false, .bool false, .bool false, .bool false, .bool false, .bool false, .bool false, .bool false, .bool false, .bool false, .bool false, .bool false, .bool false, .bool false, .bool false, .bool false, .bool false, .bool false, .bool false, .bool false, .bool false, .bool false, .bool false, .bool false, .bool false, .bool false, .bool false, .bool false, .bool false, .bool false, .bool false, .bool false, .bool false, .bool false, .bool false, .bool false, .bool false, .bool false, .bool false, .bool false, .bool false, .bool false, .bool false, .bool false, .bool false, .bool false, .bool false, .bool false, .bool false, .bool false, .bool false, .bool false, .bool false, .bool false, .bool false, .bool false, .bool false, .bool false]⟩ 79 (0, 0)) (fun b15 =>
 stW Tryz.prog 79 (.pointer (some ⟨b15, 0, none⟩)) (x13) (brW x14 (callT Tryz.prog 44 [.string s_8, .pointer (some ⟨b15, 0, none⟩)] kS (fun (x16 : ByteArray) => K (.string x16))) (callT Tryz.prog 45 [.string s_8, .string cutset_9] kS (fun (x17 : ByteArray) => K (.string x17)))))))) (fun j7 => brW ((((cutset_5.size : Nat) : Int) : Int) == 1) (idxW cutset_5 0 (fun c18 => j7 s_4 cutset_5 (decide (((c18.toNat : Int) : Int) < 128)))) (j7 s_4 cutset_5 false)))) (fun j3 =>
 brW (strEq s_1 (⟨⟨[]⟩⟩ : ByteArray)) (j3 s_1 cutset_2 true) (j3 s_1 cutset_2 (strEq cutset_2 (⟨⟨[]⟩⟩ : ByteArray))))
theorem e13 (s_1 : ByteArray) (cutset_2 : ByteArray) (K : KH) : bodyF Tryz.prog tau Tryz.f13 an13 [.string s_1, .string cutset_2] K = g13 s_1 cutset_2 K := by kernel_rfl
theorem c13 (s_1 : ByteArray) (cutset_2 : ByteArray) {K : KH} {σ : H} (h : g13 s_1 cutset_2 K σ) : callW Tryz.prog 13 [.string s_1, .string cutset_2] K σ := call_of_body mixed Tryz.func13 (by rw [e13]; exact h)


def an15 : Ann := (.q (.n (.reg (rn 14) [[],[],[1],[1,2],[],[4],[1,2,3,4,5],(rn 7),(rn 8),(rn 9),(rn 9),[],[0,1,2,3,4,5,6,7,8,9,11],(rn 13)]) (.n (.q (.h)) (.q .z))))
def g15 (f_1 : Option Addr) (l_2 : Sl) (K : KH) : H -> Prop :=
 alW (.cells ⟨[.string (⟨⟨[]⟩⟩ : ByteArray), .string (⟨⟨[]⟩⟩ : ByteArray), .int .i64 0]⟩ 35 (0, 0)) (fun b3 => ptrW l_2.base (fun b4 o5 => ifW (0 <= (0 : Int) /\ (0 : Int) < ((l_2.len : Nat) : Int)) (rdT (rdC b4 (o5 + (0 : Int).toNat * 1)) kS (fun (x6 : ByteArray) => ifW (bndOk none l_2.cap /\ bndOk (some 1) l_2.len)
 (callT Tryz.prog 17 [.pointer f_1, .agg ⟨[.string x6, .slice (slBase l_2.base ((1 : Int).toNat) l_2.cap 1) (l_2.len - ((1 : Int).toNat)) (l_2.cap - ((1 : Int).toNat)), .string (⟨⟨[]⟩⟩ : ByteArray), .string (⟨⟨[47]⟩⟩ : ByteArray)]⟩] (.tup [.agg [.str, .str, (.int .i64)], .sc .bool]) (fun (x7 : ByteArray) (x8 : ByteArray) (x9 : Int) (x10 : Bool) => alW (.cells ⟨[.string (⟨⟨[]⟩⟩ : ByteArray), .string (⟨⟨[]⟩⟩ : ByteArray), .int .i64 0]⟩ 35 (0, 0)) (fun b11 =>
 stW Tryz.prog 35 (.pointer (some ⟨b11, 0, none⟩)) (.agg ⟨[.string x7, .string x8, .int .i64 x9]⟩) (brW (!x10) (stW Tryz.prog 35 (.pointer (some ⟨b3, 0, none⟩)) (.agg ⟨[.string (⟨⟨[]⟩⟩ : ByteArray), .string (⟨⟨[]⟩⟩ : ByteArray), .int .i64 99]⟩) (rdT (rdA 3 b3 0) (.one (.agg [.str, .str, (.int .i64)])) (fun (r12 : ByteArray) (r13 : ByteArray) (r14 : Int) => K (.agg ⟨[.string r12, .string r13, .int .i64 r14]⟩))))
 (rdT (rdA 3 b11 0) (.one (.agg [.str, .str, (.int .i64)])) (fun (x15 : ByteArray) (x16 : ByteArray) (x17 : Int) => stW Tryz.prog 35 (.pointer (some ⟨b3, 0, none⟩)) (.agg ⟨[.string x15, .string x16, .int .i64 x17]⟩) (rdT (rdA 3 b3 0) (.one (.agg [.str, .str, (.int .i64)])) (fun (r18 : ByteArray) (r19 : ByteArray) (r20 : Int) => K (.agg ⟨[.string r18, .string r19, .int .i64 r20]⟩)))))))))))))
theorem e15 (f_1 : Option Addr) (l_2 : Sl) (K : KH) : bodyF Tryz.prog tau Tryz.f15 an15 [.pointer f_1, .slice l_2.base l_2.len l_2.cap] K = g15 f_1 l_2 K := by kernel_rfl
theorem c15 (f_1 : Option Addr) (l_2 : Sl) {K : KH} {σ : H} (h : g15 f_1 l_2 K σ) : callW Tryz.prog 15 [.pointer f_1, .slice l_2.base l_2.len l_2.cap] K σ := call_of_body mixed Tryz.func15 (by rw [e15]; exact h)


def an16 : Ann := (.q (.q (.n (.q (.cond (.n (.reg (rn 8) [[],[],[1],[1,2],[1,2,3],[1,2,3,4],(rn 6),(rn 7)]) .z) .z)) (.q .z))))
def g16 (f_1 : Option Addr) (status_2 : Int) (l_3 : Sl) (K : KH) : H -> Prop :=
 callT Tryz.prog 15 [.pointer f_1, .slice l_3.base l_3.len l_3.cap] (.one (.agg [.str, .str, (.int .i64)])) (fun (x4 : ByteArray) (x5 : ByteArray) (x6 : Int) => alW (.cells ⟨[.string (⟨⟨[]⟩⟩ : ByteArray), .string (⟨⟨[]⟩⟩ : ByteArray), .int .i64 0]⟩ 35 (0, 0)) (fun b7 => stW Tryz.prog 35 (.pointer (some ⟨b7, 0, none⟩)) (.agg ⟨[.string x4, .string x5, .int .i64 x6]⟩) (brW ((status_2 : Int) == 2)
 (rdT (rdA 3 b7 0) (.one (.agg [.str, .str, (.int .i64)])) (fun (x8 : ByteArray) (x9 : ByteArray) (x10 : Int) => ptrW l_3.base (fun b11 o12 => ifW (0 <= (0 : Int) /\ (0 : Int) < ((l_3.len : Nat) : Int)) (rdT (rdC b11 (o12 + (0 : Int).toNat * 1)) kS (fun (x13 : ByteArray) => ifW (x13.size + (⟨⟨[58, 32, 117, 115, 97, 103, 101, 10]⟩⟩ : ByteArray).size <= 9223372036854775807)
 (K (.bool (strEq x8 (⟨⟨[]⟩⟩ : ByteArray) && (strEq x9 (x13 ++ (⟨⟨[58, 32, 117, 115, 97, 103, 101, 10]⟩⟩ : ByteArray)) && (((x10 : Int) == 2) && true)))))))))) (rdT (rdA 3 b7 0) (.one (.agg [.str, .str, (.int .i64)])) (fun (x14 : ByteArray) (x15 : ByteArray) (x16 : Int) => K (.bool (strEq x14 (⟨⟨[]⟩⟩ : ByteArray) && (strEq x15 (⟨⟨[]⟩⟩ : ByteArray) && (((x16 : Int) == status_2) && true)))))))))
theorem e16 (f_1 : Option Addr) (status_2 : Int) (l_3 : Sl) (K : KH) : bodyF Tryz.prog tau Tryz.f16 an16 [.pointer f_1, .int .i64 status_2, .slice l_3.base l_3.len l_3.cap] K = g16 f_1 status_2 l_3 K := by kernel_rfl
theorem c16 (f_1 : Option Addr) (status_2 : Int) (l_3 : Sl) {K : KH} {σ : H} (h : g16 f_1 status_2 l_3 K σ) : callW Tryz.prog 16 [.pointer f_1, .int .i64 status_2, .slice l_3.base l_3.len l_3.cap] K σ := call_of_body mixed Tryz.func16 (by rw [e16]; exact h)


def an17 : Ann := (.q (.q (.n (.q (.h)) (.q .z))))
def g17 (f_1 : Option Addr) (u_2 : ByteArray) (u_3 : Sl) (u_4 : ByteArray) (u_5 : ByteArray) (K : KH) : H -> Prop :=
 alW (.cells ⟨[.string u_2, .slice u_3.base u_3.len u_3.cap, .string u_4, .string u_5]⟩ 44 (0, 0)) (fun b6 => alW (.cells ⟨[.string (⟨⟨[]⟩⟩ : ByteArray), .string (⟨⟨[]⟩⟩ : ByteArray), .int .i64 0]⟩ 35 (0, 0)) (fun b7 => alW (.map #[] 0) (fun b8 =>
 muW Tryz.prog 89 (.map (some b8)) (.string (⟨⟨[116, 114, 117, 101]⟩⟩ : ByteArray)) (.func (.func 46) ⟨[]⟩ ⟨[]⟩) (muW Tryz.prog 89 (.map (some b8)) (.string (⟨⟨[102, 97, 108, 115, 101]⟩⟩ : ByteArray)) (.func (.func 47) ⟨[]⟩ ⟨[]⟩) (muW Tryz.prog 89 (.map (some b8)) (.string (⟨⟨[101, 99, 104, 111]⟩⟩ : ByteArray)) (.func (.func 48) ⟨[]⟩ ⟨[]⟩) (muW Tryz.prog 89 (.map (some b8)) (.string (⟨⟨[112, 114, 105, 110, 116, 102]⟩⟩ : ByteArray)) (.func (.func 49) ⟨[]⟩ ⟨[]⟩) (muW Tryz.prog 89 (.map (some b8)) (.string (⟨⟨[116, 101, 115, 116]⟩⟩ : ByteArray)) (.func (.func 50) ⟨[]⟩ ⟨[]⟩) (muW Tryz.prog 89 (.map (some b8)) (.string (⟨⟨[91]⟩⟩ : ByteArray)) (.func (.func 50) ⟨[]⟩ ⟨[]⟩) (muW Tryz.prog 89 (.map (some b8)) (.string (⟨⟨[98, 97, 115, 101, 110, 97, 109, 101]⟩⟩ : ByteArray)) (.func (.func 51) ⟨[]⟩ ⟨[]⟩) (muW Tryz.prog 89 (.map (some b8)) (.string (⟨⟨[100, 105, 114, 110, 97, 109, 101]⟩⟩ : ByteArray)) (.func (.func 52) ⟨[]⟩ ⟨[]⟩) (rdT (rdC b6 0) kS (fun (x9 : ByteArray) =>
 rdT (rdM .string (.nilFunc) true (some b8) (.string x9)) (.tup [.sc .raw, .sc .bool]) (fun x10 x11 => brW (!x11) (stW Tryz.prog 35 (.pointer (some ⟨b7, 0, none⟩)) (.agg ⟨[.string (⟨⟨[]⟩⟩ : ByteArray), .string (⟨⟨[]⟩⟩ : ByteArray), .int .i64 0]⟩) (rdT (rdA 3 b7 0) (.one (.agg [.str, .str, (.int .i64)])) (fun (r12 : ByteArray) (r13 : ByteArray) (r14 : Int) => K (.tuple ⟨[.agg ⟨[.string r12, .string r13, .int .i64 r14]⟩, .bool false]⟩))))
 (rdT (rdA 4 b6 0) (.one (.agg [.str, .slc, .str, .str])) (fun (x15 : ByteArray) (x16 : Sl) (x17 : ByteArray) (x18 : ByteArray) => cvalT Tryz.prog x10 [.agg ⟨[.string x15, .slice x16.base x16.len x16.cap, .string x17, .string x18, .pointer f_1]⟩] (.one (.agg [.str, .str, (.int .i64)])) (fun (x19 : ByteArray) (x20 : ByteArray) (x21 : Int) =>
 stW Tryz.prog 35 (.pointer (some ⟨b7, 0, none⟩)) (.agg ⟨[.string x19, .string x20, .int .i64 x21]⟩) (rdT (rdA 3 b7 0) (.one (.agg [.str, .str, (.int .i64)])) (fun (r22 : ByteArray) (r23 : ByteArray) (r24 : Int) => K (.tuple ⟨[.agg ⟨[.string r22, .string r23, .int .i64 r24]⟩, .bool true]⟩)))))))))))))))))))
theorem e17 (f_1 : Option Addr) (u_2 : ByteArray) (u_3 : Sl) (u_4 : ByteArray) (u_5 : ByteArray) (K : KH) : bodyF Tryz.prog tau Tryz.f17 an17 [.pointer f_1, .agg ⟨[.string u_2, .slice u_3.base u_3.len u_3.cap, .string u_4, .string u_5]⟩] K = g17 f_1 u_2 u_3 u_4 u_5 K := by kernel_rfl
theorem c17 (f_1 : Option Addr) (u_2 : ByteArray) (u_3 : Sl) (u_4 : ByteArray) (u_5 : ByteArray) {K : KH} {σ : H} (h : g17 f_1 u_2 u_3 u_4 u_5 K σ) : callW Tryz.prog 17 [.pointer f_1, .agg ⟨[.string u_2, .slice u_3.base u_3.len u_3.cap, .string u_4, .string u_5]⟩] K σ := call_of_body mixed Tryz.func17 (by rw [e17]; exact h)


def an22 : Ann := (.q (.q (.n (.q (.blk (.loop [(0,.p),(2,.p),(3,.p),(4,.i)] (.n (.q (.cond .z .z)) (.seq (some [(0,.p),(2,.p),(3,.p),(4,.i)]) (.blk (.q (.cond (.q (.reg (rn 16) [[],[0],[],[2],[2,3],[2,3,4],[],[2,3,4,5,6],[2,3,4,5,6,7],[2,3,4,5,6,7,8],[2,3,4,5,6,7,8,9],[2,3,4,5,6,7,8,9,10],[2,3,4,5,6,7,8,9,10,11],(rn 13),(rn 14),(rn 15)])) .z))) .r))))) (.q .z))))
def g22 (f_1 : Option Addr) (K : KH) : H -> Prop :=
 alW (.cells ⟨[.int .i64 0, .int .i64 0]⟩ 50 (0, 0)) (fun b2 => alW (.cells ⟨[.int .i64 0, .int .i64 0]⟩ 50 (0, 0)) (fun b3 => stW Tryz.prog 50 (.pointer (some ⟨b3, 0, none⟩)) (.agg ⟨[.int .i64 0, .int .i64 0]⟩) (loopW [.sc .ptr, .sc .ptr, .sc .ptr, .sc (.int .i64)] (fun (R4 : Option Addr -> Option Addr -> Option Addr -> Int -> H -> Prop) => (fun (f_5 : Option Addr) (x6 : Option Addr) (q_7 : Option Addr) (i_8 : Int) => ptrW f_5 (fun b9 o10 => rdT (rdC b9 (o10 + 2)) kL (fun x11 =>
 brW (decide ((i_8 : Int) < ((x11.len : Nat) : Int))) (letJ (T := Option Addr -> Option Addr -> Option Addr -> Int -> H -> Prop) (fun f_13 x14 q_15 i_16 => R4 f_13 x14 q_15 (IntKind.i64.wrap (i_16 + 1))) (fun j12 => ptrW f_5 (fun b17 o18 => rdT (rdC b17 (o18 + 2)) kL (fun x19 => ptrW x19.base (fun b20 o21 => ifW (0 <= i_8 /\ i_8 < ((x19.len : Nat) : Int)) (rdT (rdC b20 (o21 + i_8.toNat * 1)) kP (fun x22 => brW (!x22.isNone) (ptrW q_7 (fun b23 o24 => rdT (rdC b23 o24) kI (fun (x25 : Int) =>
 ptrW q_7 (fun b26 o27 => stW Tryz.prog 3 (.pointer (some ⟨b26, o27, none⟩)) (.int .i64 (IntKind.i64.wrap (x25 + 1))) (ptrW q_7 (fun b28 o29 => rdT (rdC b28 (o29 + 1)) kI (fun (x30 : Int) => ptrW f_5 (fun b31 o32 => rdT (rdC b31 (o32 + 2)) kL (fun x33 => ptrW x33.base (fun b34 o35 => ifW (0 <= i_8 /\ i_8 < ((x33.len : Nat) : Int)) (rdT (rdC b34 (o35 + i_8.toNat * 1)) kP (fun x36 => ptrW x36 (fun b37 o38 => rdT (rdC b37 (o38 + 2)) kS (fun (x39 : ByteArray) => ptrW q_7 (fun b40 o41 =>
 stW Tryz.prog 3 (.pointer (some ⟨b40, o41 + 1, none⟩)) (.int .i64 (IntKind.i64.wrap (x30 + ((x39.size : Nat) : Int)))) (j12 f_5 x6 q_7 i_8)))))))))))))))) (j12 f_5 x6 q_7 i_8)))))))) (ptrW q_7 (fun b42 o43 => rdT (rdA 2 b42 o43) (.one (.agg [(.int .i64), (.int .i64)])) (fun (x44 : Int) (x45 : Int) => stW Tryz.prog 50 (.pointer x6) (.agg ⟨[.int .i64 x44, .int .i64 x45]⟩) (ptrW x6 (fun b46 o47 => rdT (rdA 2 b46 o47) (.one (.agg [(.int .i64), (.int .i64)])) (fun (r48 : Int) (r49 : Int) =>
 K (.agg ⟨[.int .i64 r48, .int .i64 r49]⟩))))))))))) (fun (R50 : Option Addr -> Option Addr -> Option Addr -> Int -> H -> Prop) => R50 f_1 (some ⟨b2, 0, none⟩) (some ⟨b3, 0, none⟩) 0))))
theorem e22 (f_1 : Option Addr) (K : KH) : bodyF Tryz.prog tau Tryz.f22 an22 [.pointer f_1] K = g22 f_1 K := by kernel_rfl
theorem c22 (f_1 : Option Addr) {K : KH} {σ : H} (h : g22 f_1 K σ) : callW Tryz.prog 22 [.pointer f_1] K σ := call_of_body mixed Tryz.func22 (by rw [e22]; exact h)


def an23 : Ann := (.q (.n (.q (.blk (.q (.cond (.q .z) (.q (.h)))))) (.q (.seq (some [(0,.l),(1,.s),(5,.i)]) (.q (.cond (.n (.q (.cond .r .z)) .r) .z)) (.n (.q (.blk (.loop [(0,.l),(1,.s),(5,.i),(39,.l),(40,.i),(41,.i)] (.q (.n (.cond .z .z) (.n (.blk (.q (.n (.q (.cond .r .z)) .r))) .r)))))) (.q (.q (.q (.n (.q (.blk (.loop [(1,.s),(8,.p),(63,.l),(64,.i),(65,.i)] (.q (.n (.cond .z .z) (.n (.blk (.q (.q .r))) .r)))))) (.q .z))))))))))
def g23 (elems_1 : Sl) (sep_2 : ByteArray) (K : KH) : H -> Prop :=
 brW ((((elems_1.len : Nat) : Int) : Int) == 0) (K (.string (⟨⟨[]⟩⟩ : ByteArray))) (brW ((((elems_1.len : Nat) : Int) : Int) == 1) (ptrW elems_1.base (fun b3 o4 => ifW (0 <= (0 : Int) /\ (0 : Int) < ((elems_1.len : Nat) : Int)) (rdT (rdC b3 (o4 + (0 : Int).toNat * 1)) kS (fun (x5 : ByteArray) => K (.string x5))))) (letJ (T := Sl -> ByteArray -> Int -> H -> Prop) (fun elems_7 sep_8 n_9 =>
 loopW [.sc .slc, .sc .str, .sc (.int .i64), .sc .slc, .sc (.int .i64), .sc (.int .i64)] (fun (R10 : Sl -> ByteArray -> Int -> Sl -> Int -> Int -> H -> Prop) => (fun (elems_11 : Sl) (sep_12 : ByteArray) (n_13 : Int) (x14 : Sl) (x15 : Int) (x16 : Int) => brW (decide ((x16 : Int) < x15)) (ptrW x14.base (fun b17 o18 => ifW (0 <= x16 /\ x16 < ((x14.len : Nat) : Int)) (rdT (rdC b17 (o18 + x16.toNat * 1)) kS (fun (x19 : ByteArray) =>
 brW (decide ((((x19.size : Nat) : Int) : Int) > (IntKind.i64.wrap (9223372036854775807 - n_13)))) (nW) (R10 elems_11 sep_12 (IntKind.i64.wrap (n_13 + ((x19.size : Nat) : Int))) x14 x15 (IntKind.i64.wrap (x16 + 1))))))) (alW (.cells ⟨[.pointer none, .slice none 0 0]⟩ 69 (0, 0)) (fun b20 => callT Tryz.prog 38 [.pointer (some ⟨b20, 0, none⟩), .int .i64 n_13] kU (ptrW elems_11.base (fun b21 o22 => ifW (0 <= (0 : Int) /\ (0 : Int) < ((elems_11.len : Nat) : Int))
 (rdT (rdC b21 (o22 + (0 : Int).toNat * 1)) kS (fun (x23 : ByteArray) => callT Tryz.prog 39 [.pointer (some ⟨b20, 0, none⟩), .string x23] (.tup [.sc (.int .i64), .sc .raw]) (fun (_x24 : Int) (_x25 : Value) => ifW (bndOk none elems_11.cap /\ bndOk (some 1) elems_11.len) (loopW [.sc .str, .sc .ptr, .sc .slc, .sc (.int .i64), .sc (.int .i64)] (fun (R26 : ByteArray -> Option Addr -> Sl -> Int -> Int -> H -> Prop) => (fun (sep_27 : ByteArray) (b_28 : Option Addr) (x29 : Sl) (x30 : Int) (x31 : Int) =>
 brW (decide ((x31 : Int) < x30)) (ptrW x29.base (fun b32 o33 => ifW (0 <= x31 /\ x31 < ((x29.len : Nat) : Int)) (rdT (rdC b32 (o33 + x31.toNat * 1)) kS (fun (x34 : ByteArray) => callT Tryz.prog 39 [.pointer b_28, .string sep_27] (.tup [.sc (.int .i64), .sc .raw]) (fun (_x35 : Int) (_x36 : Value) => callT Tryz.prog 39 [.pointer b_28, .string x34] (.tup [.sc (.int .i64), .sc .raw]) (fun (_x37 : Int) (_x38 : Value) => R26 sep_27 b_28 x29 x30 (IntKind.i64.wrap (x31 + 1))))))))
 (callT Tryz.prog 41 [.pointer b_28] kS (fun (x39 : ByteArray) =>
 K (.string x39))))) (fun (R40 : ByteArray -> Option Addr -> Sl -> Int -> Int -> H -> Prop) => R40 sep_12 (some ⟨b20, 0, none⟩) ⟨slBase elems_11.base ((1 : Int).toNat) elems_11.cap 1, elems_11.len - ((1 : Int).toNat), elems_11.cap - ((1 : Int).toNat)⟩ ((elems_11.len - ((1 : Int).toNat) : Nat) : Int) 0))))))))))) (fun (R41 : Sl -> ByteArray -> Int -> Sl -> Int -> Int -> H -> Prop) => R41 elems_7 sep_8 n_9 elems_7 ((elems_7.len : Nat) : Int) 0)) (fun j6 => brW (decide ((((sep_2.size : Nat) : Int) : Int) > 0))
 (ifW ((IntKind.i64.wrap (((elems_1.len : Nat) : Int) - 1)) ≠ 0) (brW (decide ((((sep_2.size : Nat) : Int) : Int) >= (IntKind.i64.wrap (Int.tdiv 9223372036854775807 (IntKind.i64.wrap (((elems_1.len : Nat) : Int) - 1)))))) (nW) (j6 elems_1 sep_2 (IntKind.i64.wrap (0 + (IntKind.i64.wrap (((sep_2.size : Nat) : Int) * (IntKind.i64.wrap (((elems_1.len : Nat) : Int) - 1))))))))) (j6 elems_1 sep_2 0))))
theorem e23 (elems_1 : Sl) (sep_2 : ByteArray) (K : KH) : bodyF Tryz.prog tau Tryz.f23 an23 [.slice elems_1.base elems_1.len elems_1.cap, .string sep_2] K = g23 elems_1 sep_2 K := by kernel_rfl
theorem c23 (elems_1 : Sl) (sep_2 : ByteArray) {K : KH} {σ : H} (h : g23 elems_1 sep_2 K σ) : callW Tryz.prog 23 [.slice elems_1.base elems_1.len elems_1.cap, .string sep_2] K σ := call_of_body mixed Tryz.func23 (by rw [e23]; exact h)


def an26 : Ann := (.q (.q (.n (.q (.h)) (.q .z))))
def g26 (q_1 : Int) (q_2 : Int) (K : KH) : H -> Prop :=
 alW (.cells ⟨[.int .i64 q_1, .int .i64 q_2]⟩ 50 (0, 0)) (fun b3 => rdT (rdA 2 b3 0) (.one (.agg [(.int .i64), (.int .i64)])) (fun (x4 : Int) (x5 : Int) => callT Tryz.prog 67 [.agg ⟨[.int .i64 x4, .int .i64 x5]⟩] kP (fun x6 => brW x6.isNone (K (.pointer none)) (alW (.cells ⟨[.pointer x6]⟩ 94 (0, 0)) (fun b7 => K (.pointer (some ⟨b7, 0, none⟩)))))))
theorem e26 (q_1 : Int) (q_2 : Int) (K : KH) : bodyF Tryz.prog tau Tryz.f26 an26 [.agg ⟨[.int .i64 q_1, .int .i64 q_2]⟩] K = g26 q_1 q_2 K := by kernel_rfl
theorem c26 (q_1 : Int) (q_2 : Int) {K : KH} {σ : H} (h : g26 q_1 q_2 K σ) : callW Tryz.prog 26 [.agg ⟨[.int .i64 q_1, .int .i64 q_2]⟩] K σ := call_of_body mixed Tryz.func26 (by rw [e26]; exact h)


def an27 : Ann := (.q (.n (.seq (some [(1,.p),(20,.b)]) .r (.h)) (.q .z)))
def g27 (q_1 : Int) (q_2 : Int) (K : KH) : H -> Prop :=
 alW (.cells ⟨[.int .i64 q_1, .int .i64 q_2]⟩ 50 (0, 0)) (fun b3 => letJ (T := Option Addr -> Bool -> H -> Prop) (fun q_5 x6 => brW x6 (K (.pointer none)) (ptrW q_5 (fun b7 o8 => rdT (rdA 2 b7 o8) (.one (.agg [(.int .i64), (.int .i64)])) (fun (x9 : Int) (x10 : Int) => alW (.cells ⟨[.int .i64 2, .int .i64 493, .string (⟨⟨[]⟩⟩ : ByteArray), .slice none 0 0, .int .i64 0]⟩ 101 (0, 0)) (fun b11 => alW (.cells ⟨[.pointer (some ⟨b11, 0, none⟩)]⟩ 98 (0, 0)) (fun b12 =>
 alW (.cells ⟨[.int .i64 x9, .int .i64 x10, .slice (some ⟨b12, 0, none⟩) 1 1]⟩ 97 (0, 0)) (fun b13 => K (.pointer (some ⟨b13, 0, none⟩))))))))) (fun j4 => rdT (rdC b3 0) kI (fun (x14 : Int) => brW (decide ((x14 : Int) < 1)) (j4 (some ⟨b3, 0, none⟩) true) (rdT (rdC b3 0) kI (fun (x15 : Int) => brW (decide ((x15 : Int) > 1048576)) (j4 (some ⟨b3, 0, none⟩) true) (rdT (rdC b3 1) kI (fun (x16 : Int) => brW (decide ((x16 : Int) < 0)) (j4 (some ⟨b3, 0, none⟩) true)
 (rdT (rdC b3 1) kI (fun (x17 : Int) => j4 (some ⟨b3, 0, none⟩) (decide ((x17 : Int) > 1073741824)))))))))))
theorem e27 (q_1 : Int) (q_2 : Int) (K : KH) : bodyF Tryz.prog tau Tryz.f27 an27 [.agg ⟨[.int .i64 q_1, .int .i64 q_2]⟩] K = g27 q_1 q_2 K := by kernel_rfl
theorem c27 (q_1 : Int) (q_2 : Int) {K : KH} {σ : H} (h : g27 q_1 q_2 K σ) : callW Tryz.prog 27 [.agg ⟨[.int .i64 q_1, .int .i64 q_2]⟩] K σ := call_of_body mixed Tryz.func27 (by rw [e27]; exact h)


def an28 : Ann := (.q (.q (.n (.q (.h)) (.n (.q (.cond (.n (.reg (rn 15) [[],[0],[0,1],[0,1,2],[],[4],[],[6],[],(rn 9),(rn 10),(rn 11),(rn 11),(rn 12),(rn 14)]) (.q .z)) .z)) (.n (.reg (rn 13) [[],[0],[0,1],[0,1,2],[],[4],(rn 6),(rn 7),(rn 8),(rn 8),[],[0,1,2,3,4,5,6,7,8,10],(rn 12)]) (.n (.q (.h)) (.seq (some [(0,.p),(3,.s),(11,.p)]) (.q (.cond .r .z)) (.n (.reg (rn 9) [[],[0],[0,1],[0,1,2],[],[4],[],(rn 7),(rn 8)]) .z))))))))
def g28 (f_1 : Option Addr) (cwd_2 : ByteArray) (path_3 : ByteArray) (data_4 : ByteArray) (more_5 : Bool) (K : KH) : H -> Prop :=
 callT Tryz.prog 68 [.pointer f_1, .string cwd_2, .string path_3, .bool true] (.tup [.agg [(.int .i64), .str, (.int .i64), .bool], .sc (.int .i64)]) (fun (x6 : Int) (x7 : ByteArray) (x8 : Int) (x9 : Bool) (x10 : Int) => alW (.cells ⟨[.int .i64 0, .string (⟨⟨[]⟩⟩ : ByteArray), .int .i64 0, .bool false]⟩ 107 (0, 0)) (fun b11 => stW Tryz.prog 107 (.pointer (some ⟨b11, 0, none⟩)) (.agg ⟨[.int .i64 x6, .string x7, .int .i64 x8, .bool x9]⟩) (brW ((x10 : Int) != 0) (K (.int .i64 x10))
 (rdT (rdC b11 3) kB (fun x12 => brW (!x12) (ptrW f_1 (fun b13 o14 => rdT (rdC b13 o14) kP (fun x15 => rdT (rdC b11 0) kI (fun (x16 : Int) => rdT (rdC b11 1) kS (fun (x17 : ByteArray) => callT Tryz.prog 69 [.pointer x15, .int .i64 x16, .string x17, .int .i64 1, .int .i64 420, .string data_4] (.tup [.sc (.int .i64), .sc (.int .i64)]) (fun (_x18 : Int) (x19 : Int) => K (.int .i64 x19))))))) (ptrW f_1 (fun b20 o21 => rdT (rdC b20 o21) kP (fun x22 => rdT (rdC b11 2) kI (fun (x23 : Int) =>
 callT Tryz.prog 70 [.pointer x22, .int .i64 x23] (.tup [.agg [(.int .i64), (.int .i64), .str, (.int .i64)], .sc .bool]) (fun (x24 : Int) (x25 : Int) (x26 : ByteArray) (x27 : Int) (_x28 : Bool) => alW (.cells ⟨[.int .i64 0, .int .i64 0, .string (⟨⟨[]⟩⟩ : ByteArray), .int .i64 0]⟩ 113 (0, 0)) (fun b29 => stW Tryz.prog 113 (.pointer (some ⟨b29, 0, none⟩)) (.agg ⟨[.int .i64 x24, .int .i64 x25, .string x26, .int .i64 x27]⟩) (rdT (rdC b29 0) kI (fun (x30 : Int) => brW ((x30 : Int) == 2)
 (K (.int .i64 7)) (letJ (T := Option Addr -> ByteArray -> Option Addr -> H -> Prop) (fun f_32 data_33 p_34 => ptrW f_32 (fun b35 o36 => rdT (rdC b35 o36) kP (fun x37 => ptrW p_34 (fun b38 o39 => rdT (rdC b38 (o39 + 2)) kI (fun (x40 : Int) => callT Tryz.prog 71 [.pointer x37, .int .i64 x40, .string data_33] kI (fun (x41 : Int) => K (.int .i64 x41))))))) (fun j31 => brW more_5 (rdT (rdC b29 2) kS (fun (x42 : ByteArray) => ifW (x42.size + data_4.size <= 9223372036854775807)
 (j31 f_1 (x42 ++ data_4) (some ⟨b11, 0, none⟩)))) (j31 f_1 data_4 (some ⟨b11, 0, none⟩)))))))))))))))))
theorem e28 (f_1 : Option Addr) (cwd_2 : ByteArray) (path_3 : ByteArray) (data_4 : ByteArray) (more_5 : Bool) (K : KH) : bodyF Tryz.prog tau Tryz.f28 an28 [.pointer f_1, .string cwd_2, .string path_3, .string data_4, .bool more_5] K = g28 f_1 cwd_2 path_3 data_4 more_5 K := by kernel_rfl
theorem c28 (f_1 : Option Addr) (cwd_2 : ByteArray) (path_3 : ByteArray) (data_4 : ByteArray) (more_5 : Bool) {K : KH} {σ : H} (h : g28 f_1 cwd_2 path_3 data_4 more_5 K σ) : callW Tryz.prog 28 [.pointer f_1, .string cwd_2, .string path_3, .string data_4, .bool more_5] K σ := call_of_body mixed Tryz.func28 (by rw [e28]; exact h)


def an29 : Ann := (.q (.n (.q (.h)) (.n (.seq (some [(1,.s),(2,.s),(4,.p),(7,.p),(16,.b)]) .r (.h)) (.q .z))))
def g29 (f_1 : Option Addr) (cwd_2 : ByteArray) (path_3 : ByteArray) (mode_4 : Int) (K : KH) : H -> Prop :=
 alW (.cells ⟨[.pointer f_1]⟩ 24 (0, 0)) (fun b5 => alW (.cells ⟨[.int .i64 mode_4]⟩ 3 (0, 0)) (fun b6 => rdT (rdC b5 0) kP (fun x7 => callT Tryz.prog 59 [.pointer x7] kB (fun x8 => brW x8 (K (.int .i64 1)) (letJ (T := ByteArray -> ByteArray -> Option Addr -> Option Addr -> Bool -> H -> Prop) (fun cwd_10 path_11 f_12 mode_13 x14 => brW x14 (K (.int .i64 2)) (ptrW f_12 (fun b15 o16 => rdT (rdC b15 o16) kP (fun x17 =>
 callT Tryz.prog 72 [.pointer x17, .string cwd_10, .string path_11, .bool true, .func (.func 73) ⟨[]⟩ ⟨[.pointer f_12, .pointer mode_13]⟩] kI (fun (x18 : Int) => K (.int .i64 x18)))))) (fun j9 => rdT (rdC b6 0) kI (fun (x19 : Int) => brW (decide ((x19 : Int) < 0)) (j9 cwd_2 path_3 (some ⟨b5, 0, none⟩) (some ⟨b6, 0, none⟩) true) (rdT (rdC b6 0) kI (fun (x20 : Int) => j9 cwd_2 path_3 (some ⟨b5, 0, none⟩) (some ⟨b6, 0, none⟩) (decide ((x20 : Int) > 511)))))))))))
theorem e29 (f_1 : Option Addr) (cwd_2 : ByteArray) (path_3 : ByteArray) (mode_4 : Int) (K : KH) : bodyF Tryz.prog tau Tryz.f29 an29 [.pointer f_1, .string cwd_2, .string path_3, .int .i64 mode_4] K = g29 f_1 cwd_2 path_3 mode_4 K := by kernel_rfl
theorem c29 (f_1 : Option Addr) (cwd_2 : ByteArray) (path_3 : ByteArray) (mode_4 : Int) {K : KH} {σ : H} (h : g29 f_1 cwd_2 path_3 mode_4 K σ) : callW Tryz.prog 29 [.pointer f_1, .string cwd_2, .string path_3, .int .i64 mode_4] K σ := call_of_body mixed Tryz.func29 (by rw [e29]; exact h)


def an30 : Ann := (.q (.q .z))
def g30 (f_1 : Option Addr) (cwd_2 : ByteArray) (path_3 : ByteArray) (K : KH) : H -> Prop :=
 alW (.cells ⟨[.pointer f_1]⟩ 24 (0, 0)) (fun b4 => rdT (rdC b4 0) kP (fun x5 => callT Tryz.prog 75 [.pointer x5, .string cwd_2, .string path_3, .func (.func 76) ⟨[]⟩ ⟨[.pointer (some ⟨b4, 0, none⟩)]⟩] kI (fun (x6 : Int) => K (.int .i64 x6))))
theorem e30 (f_1 : Option Addr) (cwd_2 : ByteArray) (path_3 : ByteArray) (K : KH) : bodyF Tryz.prog tau Tryz.f30 an30 [.pointer f_1, .string cwd_2, .string path_3] K = g30 f_1 cwd_2 path_3 K := by kernel_rfl
theorem c30 (f_1 : Option Addr) (cwd_2 : ByteArray) (path_3 : ByteArray) {K : KH} {σ : H} (h : g30 f_1 cwd_2 path_3 K σ) : callW Tryz.prog 30 [.pointer f_1, .string cwd_2, .string path_3] K σ := call_of_body mixed Tryz.func30 (by rw [e30]; exact h)


def an31 : Ann := (.q (.n (.q (.h)) (.n (.seq (some [(1,.s),(3,.s),(4,.p),(6,.p),(22,.b)]) .r (.h)) (.q .z))))
def g31 (f_1 : Option Addr) (cwd_2 : ByteArray) (target_3 : ByteArray) (path_4 : ByteArray) (K : KH) : H -> Prop :=
 alW (.cells ⟨[.pointer f_1]⟩ 24 (0, 0)) (fun b5 => alW (.cells ⟨[.string target_3]⟩ 9 (0, 0)) (fun b6 => rdT (rdC b5 0) kP (fun x7 => callT Tryz.prog 59 [.pointer x7] kB (fun x8 => brW x8 (K (.int .i64 1)) (letJ (T := ByteArray -> ByteArray -> Option Addr -> Option Addr -> Bool -> H -> Prop) (fun cwd_10 path_11 f_12 target_13 x14 => brW x14 (K (.int .i64 2)) (ptrW f_12 (fun b15 o16 => rdT (rdC b15 o16) kP (fun x17 =>
 callT Tryz.prog 75 [.pointer x17, .string cwd_10, .string path_11, .func (.func 79) ⟨[]⟩ ⟨[.pointer f_12, .pointer target_13]⟩] kI (fun (x18 : Int) => K (.int .i64 x18)))))) (fun j9 => rdT (rdC b6 0) kS (fun (x19 : ByteArray) => brW (strEq x19 (⟨⟨[]⟩⟩ : ByteArray)) (j9 cwd_2 path_4 (some ⟨b5, 0, none⟩) (some ⟨b6, 0, none⟩) true) (rdT (rdC b6 0) kS (fun (x20 : ByteArray) => brW (decide ((((x20.size : Nat) : Int) : Int) > 255)) (j9 cwd_2 path_4 (some ⟨b5, 0, none⟩) (some ⟨b6, 0, none⟩) true)
 (rdT (rdC b6 0) kS (fun (x21 : ByteArray) => callT Tryz.prog 78 [.string x21, .int .u8 0] kI (fun (x22 : Int) => j9 cwd_2 path_4 (some ⟨b5, 0, none⟩) (some ⟨b6, 0, none⟩) (decide ((x22 : Int) >= 0))))))))))))))
theorem e31 (f_1 : Option Addr) (cwd_2 : ByteArray) (target_3 : ByteArray) (path_4 : ByteArray) (K : KH) : bodyF Tryz.prog tau Tryz.f31 an31 [.pointer f_1, .string cwd_2, .string target_3, .string path_4] K = g31 f_1 cwd_2 target_3 path_4 K := by kernel_rfl
theorem c31 (f_1 : Option Addr) (cwd_2 : ByteArray) (target_3 : ByteArray) (path_4 : ByteArray) {K : KH} {σ : H} (h : g31 f_1 cwd_2 target_3 path_4 K σ) : callW Tryz.prog 31 [.pointer f_1, .string cwd_2, .string target_3, .string path_4] K σ := call_of_body mixed Tryz.func31 (by rw [e31]; exact h)


def an32 : Ann := (.q (.q (.n (.q (.h)) (.n (.q (.h)) (.n (.reg (rn 9) [[],[0],[0,1],[0,1,2],[],[4],(rn 6),(rn 7),(rn 8)]) (.n (.q (.h)) (.seq (some [(0,.p),(3,.s),(13,.p)]) (.q (.cond .r .z)) (.n (.q (.h)) (.q (.q .z))))))))))
def g32 (f_1 : Option Addr) (cwd_2 : ByteArray) (path_3 : ByteArray) (data_4 : ByteArray) (more_5 : Bool) (K : KH) : H -> Prop :=
 callT Tryz.prog 80 [.pointer f_1, .string cwd_2, .string path_3, .bool true] (.tup [.agg [(.int .i64), .str, (.int .i64)], .sc (.int .i64)]) (fun (x6 : Int) (x7 : ByteArray) (x8 : Int) (x9 : Int) => alW (.cells ⟨[.int .i64 0, .string (⟨⟨[]⟩⟩ : ByteArray), .int .i64 0]⟩ 125 (0, 0)) (fun b10 => stW Tryz.prog 125 (.pointer (some ⟨b10, 0, none⟩)) (.agg ⟨[.int .i64 x6, .string x7, .int .i64 x8]⟩) (brW ((x9 : Int) != 0) (K (.int .i64 x9)) (rdT (rdC b10 2) kI (fun (x11 : Int) =>
 brW (decide ((x11 : Int) < 0)) (rdT (rdA 3 b10 0) (.one (.agg [(.int .i64), .str, (.int .i64)])) (fun (x12 : Int) (x13 : ByteArray) (x14 : Int) => callT Tryz.prog 81 [.pointer f_1, .agg ⟨[.int .i64 x12, .string x13, .int .i64 x14]⟩, .int .i64 1, .int .i64 420, .string data_4] kI (fun (x15 : Int) => K (.int .i64 x15)))) (ptrW f_1 (fun b16 o17 => rdT (rdC b16 (o17 + 2)) kL (fun x18 => rdT (rdC b10 2) kI (fun (x19 : Int) => ptrW x18.base (fun b20 o21 =>
 ifW (0 <= x19 /\ x19 < ((x18.len : Nat) : Int)) (rdT (rdC b20 (o21 + x19.toNat * 1)) kP (fun x22 => ptrW x22 (fun b23 o24 => rdT (rdC b23 o24) kI (fun (x25 : Int) => brW ((x25 : Int) == 2) (K (.int .i64 7)) (letJ (T := Option Addr -> ByteArray -> Option Addr -> H -> Prop) (fun f_27 data_28 x_29 => ptrW x_29 (fun b30 o31 => rdT (rdC b30 (o31 + 2)) kS (fun (x32 : ByteArray) =>
 callT Tryz.prog 82 [.pointer f_27, .int .i64 0, .int .i64 (IntKind.i64.wrap (((data_28.size : Nat) : Int) - ((x32.size : Nat) : Int)))] kB (fun x33 => brW (!x33) (K (.int .i64 10)) (ptrW x_29 (fun b34 o35 => stW Tryz.prog 9 (.pointer (some ⟨b34, o35 + 2, none⟩)) (.string data_28) (K (.int .i64 0)))))))) (fun j26 => brW more_5 (ptrW x22 (fun b36 o37 => rdT (rdC b36 (o37 + 2)) kS (fun (x38 : ByteArray) => ifW (x38.size + data_4.size <= 9223372036854775807) (j26 f_1 (x38 ++ data_4) x22))))
 (j26 f_1 data_4 x22)))))))))))))))))
theorem e32 (f_1 : Option Addr) (cwd_2 : ByteArray) (path_3 : ByteArray) (data_4 : ByteArray) (more_5 : Bool) (K : KH) : bodyF Tryz.prog tau Tryz.f32 an32 [.pointer f_1, .string cwd_2, .string path_3, .string data_4, .bool more_5] K = g32 f_1 cwd_2 path_3 data_4 more_5 K := by kernel_rfl
theorem c32 (f_1 : Option Addr) (cwd_2 : ByteArray) (path_3 : ByteArray) (data_4 : ByteArray) (more_5 : Bool) {K : KH} {σ : H} (h : g32 f_1 cwd_2 path_3 data_4 more_5 K σ) : callW Tryz.prog 32 [.pointer f_1, .string cwd_2, .string path_3, .string data_4, .bool more_5] K σ := call_of_body mixed Tryz.func32 (by rw [e32]; exact h)


def an33 : Ann := (.q (.n (.seq (some [(0,.p),(1,.s),(2,.s),(3,.i),(16,.b)]) .r (.h)) (.q (.seq (some [(10,.i)]) (.q (.cond .r .z)) (.q .z)))))
def g33 (f_1 : Option Addr) (cwd_2 : ByteArray) (path_3 : ByteArray) (mode_4 : Int) (K : KH) : H -> Prop :=
 letJ (T := Option Addr -> ByteArray -> ByteArray -> Int -> Bool -> H -> Prop) (fun f_6 cwd_7 path_8 mode_9 x10 => brW x10 (K (.int .i64 2)) (callT Tryz.prog 83 [.pointer f_6, .string cwd_7, .string path_8, .bool true] (.tup [.sc (.int .i64), .sc (.int .i64)]) (fun (x11 : Int) (x12 : Int) => letJ (T := Int -> H -> Prop) (fun e_14 => K (.int .i64 e_14)) (fun j13 => brW ((x12 : Int) == 0) (ptrW f_6 (fun b15 o16 => rdT (rdC b15 (o16 + 2)) kL (fun x17 => ptrW x17.base (fun b18 o19 =>
 ifW (0 <= x11 /\ x11 < ((x17.len : Nat) : Int)) (rdT (rdC b18 (o19 + x11.toNat * 1)) kP (fun x20 => ptrW x20 (fun b21 o22 => stW Tryz.prog 3 (.pointer (some ⟨b21, o22 + 1, none⟩)) (.int .i64 mode_9) (j13 x12)))))))) (j13 x12))))) (fun j5 => brW (decide ((mode_4 : Int) < 0)) (j5 f_1 cwd_2 path_3 mode_4 true) (j5 f_1 cwd_2 path_3 mode_4 (decide ((mode_4 : Int) > 511))))
theorem e33 (f_1 : Option Addr) (cwd_2 : ByteArray) (path_3 : ByteArray) (mode_4 : Int) (K : KH) : bodyF Tryz.prog tau Tryz.f33 an33 [.pointer f_1, .string cwd_2, .string path_3, .int .i64 mode_4] K = g33 f_1 cwd_2 path_3 mode_4 K := by kernel_rfl
theorem c33 (f_1 : Option Addr) (cwd_2 : ByteArray) (path_3 : ByteArray) (mode_4 : Int) {K : KH} {σ : H} (h : g33 f_1 cwd_2 path_3 mode_4 K σ) : callW Tryz.prog 33 [.pointer f_1, .string cwd_2, .string path_3, .int .i64 mode_4] K σ := call_of_body mixed Tryz.func33 (by rw [e33]; exact h)


def an34 : Ann := (.q (.q (.n (.q (.h)) (.n (.q (.h)) (.n (.q (.h)) (.q .z))))))
def g34 (f_1 : Option Addr) (cwd_2 : ByteArray) (path_3 : ByteArray) (K : KH) : H -> Prop :=
 callT Tryz.prog 80 [.pointer f_1, .string cwd_2, .string path_3, .bool false] (.tup [.agg [(.int .i64), .str, (.int .i64)], .sc (.int .i64)]) (fun (x4 : Int) (x5 : ByteArray) (x6 : Int) (x7 : Int) => alW (.cells ⟨[.int .i64 0, .string (⟨⟨[]⟩⟩ : ByteArray), .int .i64 0]⟩ 125 (0, 0)) (fun b8 => stW Tryz.prog 125 (.pointer (some ⟨b8, 0, none⟩)) (.agg ⟨[.int .i64 x4, .string x5, .int .i64 x6]⟩) (brW ((x7 : Int) != 0) (K (.int .i64 x7)) (rdT (rdC b8 2) kI (fun (x9 : Int) =>
 brW (decide ((x9 : Int) >= 0)) (K (.int .i64 6)) (rdT (rdC b8 0) kI (fun (x10 : Int) => callT Tryz.prog 84 [.pointer f_1, .int .i64 x10] kI (fun (x11 : Int) => brW (decide ((x11 : Int) >= 12)) (K (.int .i64 3)) (rdT (rdA 3 b8 0) (.one (.agg [(.int .i64), .str, (.int .i64)])) (fun (x12 : Int) (x13 : ByteArray) (x14 : Int) => callT Tryz.prog 81 [.pointer f_1, .agg ⟨[.int .i64 x12, .string x13, .int .i64 x14]⟩, .int .i64 2, .int .i64 493, .string (⟨⟨[]⟩⟩ : ByteArray)] kI (fun (x15 : Int) =>
 K (.int .i64 x15))))))))))))
theorem e34 (f_1 : Option Addr) (cwd_2 : ByteArray) (path_3 : ByteArray) (K : KH) : bodyF Tryz.prog tau Tryz.f34 an34 [.pointer f_1, .string cwd_2, .string path_3] K = g34 f_1 cwd_2 path_3 K := by kernel_rfl
theorem c34 (f_1 : Option Addr) (cwd_2 : ByteArray) (path_3 : ByteArray) {K : KH} {σ : H} (h : g34 f_1 cwd_2 path_3 K σ) : callW Tryz.prog 34 [.pointer f_1, .string cwd_2, .string path_3] K σ := call_of_body mixed Tryz.func34 (by rw [e34]; exact h)


def an35 : Ann := (.q (.n (.q (.blk (.loop [(0,.p),(1,.s),(2,.s),(3,.s),(9,.i)] (.n (.q (.cond .z .z)) (.n (.blk (.q (.h))) .r))))) (.n (.seq (some [(0,.p),(1,.s),(2,.s),(3,.s),(29,.b)]) .r (.h)) (.q (.n (.q (.h)) (.n (.q (.h)) (.q .z)))))))
def g35 (f_1 : Option Addr) (cwd_2 : ByteArray) (target_3 : ByteArray) (path_4 : ByteArray) (K : KH) : H -> Prop :=
 loopW [.sc .ptr, .sc .str, .sc .str, .sc .str, .sc (.int .i64)] (fun (R5 : Option Addr -> ByteArray -> ByteArray -> ByteArray -> Int -> H -> Prop) => (fun (f_6 : Option Addr) (cwd_7 : ByteArray) (target_8 : ByteArray) (path_9 : ByteArray) (i_10 : Int) => brW (decide ((i_10 : Int) < ((target_8.size : Nat) : Int))) (idxW target_8 i_10 (fun c11 => brW (((c11.toNat : Int) : Int) == 0) (K (.int .i64 2)) (R5 f_6 cwd_7 target_8 path_9 (IntKind.i64.wrap (i_10 + 1)))))
 (letJ (T := Option Addr -> ByteArray -> ByteArray -> ByteArray -> Bool -> H -> Prop) (fun f_13 cwd_14 target_15 path_16 x17 => brW x17 (K (.int .i64 2)) (callT Tryz.prog 80 [.pointer f_13, .string cwd_14, .string path_16, .bool false] (.tup [.agg [(.int .i64), .str, (.int .i64)], .sc (.int .i64)]) (fun (x18 : Int) (x19 : ByteArray) (x20 : Int) (x21 : Int) => alW (.cells ⟨[.int .i64 0, .string (⟨⟨[]⟩⟩ : ByteArray), .int .i64 0]⟩ 125 (0, 0)) (fun b22 =>
 stW Tryz.prog 125 (.pointer (some ⟨b22, 0, none⟩)) (.agg ⟨[.int .i64 x18, .string x19, .int .i64 x20]⟩) (brW ((x21 : Int) != 0) (K (.int .i64 x21)) (rdT (rdC b22 2) kI (fun (x23 : Int) => brW (decide ((x23 : Int) >= 0)) (K (.int .i64 6)) (rdT (rdA 3 b22 0) (.one (.agg [(.int .i64), .str, (.int .i64)])) (fun (x24 : Int) (x25 : ByteArray) (x26 : Int) =>
 callT Tryz.prog 81 [.pointer f_13, .agg ⟨[.int .i64 x24, .string x25, .int .i64 x26]⟩, .int .i64 3, .int .i64 511, .string target_15] kI (fun (x27 : Int) => K (.int .i64 x27))))))))))) (fun j12 => brW (decide ((((target_8.size : Nat) : Int) : Int) < 1)) (j12 f_6 cwd_7 target_8 path_9 true) (j12 f_6 cwd_7 target_8 path_9 (decide ((((target_8.size : Nat) : Int) : Int) > 255))))))) (fun (R28 : Option Addr -> ByteArray -> ByteArray -> ByteArray -> Int -> H -> Prop) => R28 f_1 cwd_2 target_3 path_4 0)
theorem e35 (f_1 : Option Addr) (cwd_2 : ByteArray) (target_3 : ByteArray) (path_4 : ByteArray) (K : KH) : bodyF Tryz.prog tau Tryz.f35 an35 [.pointer f_1, .string cwd_2, .string target_3, .string path_4] K = g35 f_1 cwd_2 target_3 path_4 K := by kernel_rfl
theorem c35 (f_1 : Option Addr) (cwd_2 : ByteArray) (target_3 : ByteArray) (path_4 : ByteArray) {K : KH} {σ : H} (h : g35 f_1 cwd_2 target_3 path_4 K σ) : callW Tryz.prog 35 [.pointer f_1, .string cwd_2, .string target_3, .string path_4] K σ := call_of_body mixed Tryz.func35 (by rw [e35]; exact h)


def an37 : Ann := (.q (.q .z))
def g37 (s_1 : ByteArray) (prefix_2 : ByteArray) (K : KH) : H -> Prop :=
 callT Tryz.prog 87 [.string s_1, .string prefix_2] kB (fun x3 => K (.bool x3))
theorem e37 (s_1 : ByteArray) (prefix_2 : ByteArray) (K : KH) : bodyF Tryz.prog tau Tryz.f37 an37 [.string s_1, .string prefix_2] K = g37 s_1 prefix_2 K := by kernel_rfl
theorem c37 (s_1 : ByteArray) (prefix_2 : ByteArray) {K : KH} {σ : H} (h : g37 s_1 prefix_2 K σ) : callW Tryz.prog 37 [.string s_1, .string prefix_2] K σ := call_of_body mixed Tryz.func37 (by rw [e37]; exact h)


def an38 : Ann := (.q (.n (.q (.cond .r .z)) (.n (.reg (rn 13) [[],[0],[0,1],[0,1,2],(rn 4),[],[5],[5,6],[5,6,7],[5,6,7,8],(rn 10),[],(rn 12)]) (.cond .r .z))))
def g38 (b_1 : Option Addr) (n_2 : Int) (K : KH) : H -> Prop :=
 callT Tryz.prog 88 [.pointer b_1] kU (brW (decide ((n_2 : Int) < 0)) (nW) (ptrW b_1 (fun b3 o4 => rdT (rdC b3 (o4 + 1)) kL (fun x5 => ptrW b_1 (fun b6 o7 => rdT (rdC b6 (o7 + 1)) kL (fun x8 => brW (decide (((IntKind.i64.wrap (((x5.cap : Nat) : Int) - ((x8.len : Nat) : Int))) : Int) < n_2)) (callT Tryz.prog 89 [.pointer b_1, .int .i64 n_2] kU (K (.tuple ⟨[]⟩))) (K (.tuple ⟨[]⟩))))))))
theorem e38 (b_1 : Option Addr) (n_2 : Int) (K : KH) : bodyF Tryz.prog tau Tryz.f38 an38 [.pointer b_1, .int .i64 n_2] K = g38 b_1 n_2 K := by kernel_rfl
theorem c38 (b_1 : Option Addr) (n_2 : Int) {K : KH} {σ : H} (h : g38 b_1 n_2 K σ) : callW Tryz.prog 38 [.pointer b_1, .int .i64 n_2] K σ := call_of_body mixed Tryz.func38 (by rw [e38]; exact h)


def an39 : Ann := (.q (.q (.q (.q .z))))
def g39 (b_1 : Option Addr) (s_2 : ByteArray) (K : KH) : H -> Prop :=
 callT Tryz.prog 88 [.pointer b_1] kU (ptrW b_1 (fun b3 o4 => rdT (rdC b3 (o4 + 1)) kL (fun x5 => biW Tryz.prog .append #[22, 9] 22 [false, false] [.slice x5.base x5.len x5.cap, .string s_2] kL (fun x6 => ptrW b_1 (fun b7 o8 => stW Tryz.prog 22 (.pointer (some ⟨b7, o8 + 1, none⟩)) (.slice x6.base x6.len x6.cap) (K (.tuple ⟨[.int .i64 ((s_2.size : Nat) : Int), .nilIface]⟩)))))))
theorem e39 (b_1 : Option Addr) (s_2 : ByteArray) (K : KH) : bodyF Tryz.prog tau Tryz.f39 an39 [.pointer b_1, .string s_2] K = g39 b_1 s_2 K := by kernel_rfl
theorem c39 (b_1 : Option Addr) (s_2 : ByteArray) {K : KH} {σ : H} (h : g39 b_1 s_2 K σ) : callW Tryz.prog 39 [.pointer b_1, .string s_2] K σ := call_of_body mixed Tryz.func39 (by rw [e39]; exact h)


def an41 : Ann := (.q (.n (.reg [0,1,2,3,5,6,7,8,4,9,10,11] [[],[0],[0,1],[0,1,2],(rn 4),[],[5],[5,6],[5,6,7],[5,6,7,8],(rn 10),(rn 11)]) .z))
def g41 (b_1 : Option Addr) (K : KH) : H -> Prop :=
 ptrW b_1 (fun b2 o3 => rdT (rdC b2 (o3 + 1)) kL (fun x4 => ptrW b_1 (fun b5 o6 => rdT (rdC b5 (o6 + 1)) kL (fun x7 => biW Tryz.prog .unsafeSliceData #[22] 137 [false] [.slice x4.base x4.len x4.cap] kP (fun x8 => andW (fun σ => (rdC b5 (o6 + 1)) σ = some (.slice x7.base x7.len x7.cap)) (biW Tryz.prog .unsafeString #[137, 3] 9 [false, false] [.pointer x8, .int .i64 ((x7.len : Nat) : Int)] kS (fun (x9 : ByteArray) => K (.string x9))))))))
theorem e41 (b_1 : Option Addr) (K : KH) : bodyF Tryz.prog tau Tryz.f41 an41 [.pointer b_1] K = g41 b_1 K := by kernel_rfl
theorem c41 (b_1 : Option Addr) {K : KH} {σ : H} (h : g41 b_1 K σ) : callW Tryz.prog 41 [.pointer b_1] K σ := call_of_body mixed Tryz.func41 (by rw [e41]; exact h)


def an42 : Ann := (.q (.n (.blk (.loop [(0,.s),(1,.sc (.int .u8))] (.n (.seq (some [(0,.s),(1,.sc (.int .u8)),(9,.w),(10,.w),(11,.w),(12,.w),(13,.w),(14,.w),(15,.w),(16,.b)]) .r (.cond .z .z)) (.blk .r)))) (.q .z)))
def g42 (s_1 : ByteArray) (c_2 : Int) (K : KH) : H -> Prop :=
 loopW [.sc .str, .sc (.int .u8)] (fun (R3 : ByteArray -> Int -> H -> Prop) => (fun (s_4 : ByteArray) (c_5 : Int) => letJ (T := ByteArray -> Int -> Value -> Value -> Value -> Value -> Value -> Value -> Value -> Bool -> H -> Prop) (fun s_7 c_8 _x9 _x10 _x11 _x12 _x13 _x14 _x15 x16 => brW x16 (ifW (bndOk (some (IntKind.i64.wrap (((s_7.size : Nat) : Int) - 1))) s_7.size /\ bndOk none ((IntKind.i64.wrap (((s_7.size : Nat) : Int) - 1)).toNat))
 (R3 (s_7.extract 0 ((IntKind.i64.wrap (((s_7.size : Nat) : Int) - 1)).toNat)) c_8)) (K (.string s_7))) (fun j6 => brW (decide ((((s_4.size : Nat) : Int) : Int) > 0)) (idxW s_4 (IntKind.i64.wrap (((s_4.size : Nat) : Int) - 1)) (fun c17 =>
 j6 s_4 c_5 (.string s_4) (.string s_4) (.int .i64 ((s_4.size : Nat) : Int)) (.int .i64 (IntKind.i64.wrap (((s_4.size : Nat) : Int) - 1))) (.int .u8 (c17.toNat : Int)) (.int .u8 c_5) (.bool (((c17.toNat : Int) : Int) == c_5)) (((c17.toNat : Int) : Int) == c_5))) (j6 s_4 c_5 (.tuple ⟨[]⟩) (.tuple ⟨[]⟩) (.tuple ⟨[]⟩) (.tuple ⟨[]⟩) (.tuple ⟨[]⟩) (.tuple ⟨[]⟩) (.tuple ⟨[]⟩) false)))) (fun (R18 : ByteArray -> Int -> H -> Prop) => R18 s_1 c_2)
theorem e42 (s_1 : ByteArray) (c_2 : Int) (K : KH) : bodyF Tryz.prog tau Tryz.f42 an42 [.string s_1, .int .u8 c_2] K = g42 s_1 c_2 K := by kernel_rfl
theorem c42 (s_1 : ByteArray) (c_2 : Int) {K : KH} {σ : H} (h : g42 s_1 c_2 K σ) : callW Tryz.prog 42 [.string s_1, .int .u8 c_2] K σ := call_of_body mixed Tryz.func42 (by rw [e42]; exact h)


def an43 : Ann := (.q (.n (.q (.blk (.loop [(0,.s),(2,.p),(4,.i)] (.n (.q (.cond .z .z)) (.n (.blk (.q (.n (.q (.h)) .r))) .r))))) (.q .z)))
def g43 (chars_1 : ByteArray) (K : KH) : H -> Prop :=
 alW (.cells ⟨[.bool false, .bool false, .bool false, .bool false, .bool false, .bool false, .bool false, .bool false, .bool false, .bool false, .bool false, .bool false, .bool false, .bool false, .bool false, .bool false, .bool false, .bool false, .bool false, .bool false, .bool false, .bool false, .bool false, .bool false, .bool false, .bool false, .bool false, .bool false, .bool false, .bool false, .bool false, .bool false, .bool false, .bool false, .bool false, .bool false, .bool false, .bool false, .bool false, .bool false, .bool false, .bool false, .bool false, .bool false, .bool false, .bool false, .bool false, .bool false, .bool false, .bool false, .bool false, .bool false, .bool false, .bool false, .bool false, .bool false, .bool false, .bool false, .bool false, .bool false, .bool false, .bool false, .bool false, .bool false, .bool false, .bool false, .bool false, .bool false, .bool false, .bool false, .bool false, .bool false, .bool false, .bool false, .bool false, .bool false, .bool false, .bool false, .bool false, .bool false, .bool false, .bool false, .bool false, .bool false, .bool false, .bool false, .bool false, .bool false, .bool false, .bool false, .bool false, .bool false, .bool false, .bool false, .bool false, .bool false, .bool false, .bool false, .bool false, .bool false, .bool false, .bool false, .bool false, .bool false, .bool false, .bool false, .bool false, .bool false, .bool false, .bool false, .bool false, .bool false, .bool false, .bool false, .bool false, .bool false, .bool false, .bool false, .bool false, .bool false, .bool false, .bool false, .bool false, .bool false, .bool false, .bool false, .bool false, .bool false, .bool false, .bool false, .bool false, .bool false, .bool false, .bool false, .bool false, .bool false, .bool false, .bool false, .bool false, .bool false, .bool false, .bool false, .bool false, .bool false, .bool false, .bool false, .bool false, .bool false, .bool false, .bool false, .bool false, .bool false, .bool false, .bool false, .bool false, .bool false, .bool false, .bool false, .bool false, .bool false, .bool false, .bool false, .bool false, .bool false, .bool false, .bool false, .bool false, .bool false, .bool false, .bool false, .bool false, .bool false, .bool false, .bool false, .bool false, .bool false, .bool false, .bool false, .bool false, .bool false, .bool false, .bool false, .bool false, .bool false, .bool false, .bool false, .bool false, .bool false, .bool false, .bool false, .bool false, .bool false, .bool false, .bool false, .bool false, .bool false, .bool false, .bool false, .bool false, .bool false, .bool false, .bool false, .bool false, .bool false, .bool false, .bool false, .bool false, .bool false, .bool false, .bool false, .bool false, .bool false, .bool false, .bool false, .bool false, .bool false, .bool false, .bool false, .bool false, .bool false, .bool false, .bool false, .bool false, .bool false, .bool false, .bool false, .bool false, .bool false, .bool false, .bool false, .bool false, .bool false, .bool false, .bool false, .bool false, .bool false, .bool false, .bool false, .bool false, .bool false, .bool false, .bool false, .bool false, .bool false, .bool false, .bool false, .bool false, .bool false, .bool false, .bool false, .bool false, .bool false, .bool false, .bool false, .bool false, .bool false]⟩ 79 (0, 0)) (fun b2 =>
 loopW [.sc .str, .sc .ptr, .sc (.int .i64)] (fun (R3 : ByteArray -> Option Addr -> Int -> H -> Prop) => (fun (chars_4 : ByteArray) (as_5 : Option Addr) (i_6 : Int) => brW (decide ((i_6 : Int) < ((chars_4.size : Nat) : Int))) (idxW chars_4 i_6 (fun c7 => brW (decide (((c7.toNat : Int) : Int) >= 128)) (ptrW as_5 (fun b8 o9 => rdT (rdA 256 b8 o9) kR (fun x10 => stW Tryz.prog 79 (.pointer as_5) (x10) (ptrW as_5 (fun b11 o12 => rdT (rdA 256 b11 o12) kR (fun r13 => K (.tuple ⟨[r13, .bool false]⟩)))))))
 (ptrW as_5 (fun b14 o15 => ifW (0 <= (c7.toNat : Int) /\ (c7.toNat : Int) < ((256 : Nat) : Int)) (stW Tryz.prog 4 (.pointer (some ⟨b14, o15 + ((c7.toNat : Int) : Int).toNat * 1, none⟩)) (.bool true) (R3 chars_4 as_5 (IntKind.i64.wrap (i_6 + 1)))))))) (ptrW as_5 (fun b16 o17 => rdT (rdA 256 b16 o17) kR (fun x18 => stW Tryz.prog 79 (.pointer as_5) (x18) (ptrW as_5 (fun b19 o20 => rdT (rdA 256 b19 o20) kR (fun r21 =>
 K (.tuple ⟨[r21, .bool true]⟩))))))))) (fun (R22 : ByteArray -> Option Addr -> Int -> H -> Prop) => R22 chars_1 (some ⟨b2, 0, none⟩) 0))
theorem e43 (chars_1 : ByteArray) (K : KH) : bodyF Tryz.prog tau Tryz.f43 an43 [.string chars_1] K = g43 chars_1 K := by kernel_rfl
theorem c43 (chars_1 : ByteArray) {K : KH} {σ : H} (h : g43 chars_1 K σ) : callW Tryz.prog 43 [.string chars_1] K σ := call_of_body mixed Tryz.func43 (by rw [e43]; exact h)


def an46 : Ann := (.q (.q .z))
def g46 (t_1 : ByteArray) (t_2 : Sl) (t_3 : ByteArray) (t_4 : ByteArray) (t_5 : Option Addr) (K : KH) : H -> Prop :=
 alW (.cells ⟨[.string t_1, .slice t_2.base t_2.len t_2.cap, .string t_3, .string t_4, .pointer t_5]⟩ 88 (0, 0)) (fun _b6 => alW (.cells ⟨[.string (⟨⟨[]⟩⟩ : ByteArray), .string (⟨⟨[]⟩⟩ : ByteArray), .int .i64 0]⟩ 35 (0, 0)) (fun b7 => stW Tryz.prog 35 (.pointer (some ⟨b7, 0, none⟩)) (.agg ⟨[.string (⟨⟨[]⟩⟩ : ByteArray), .string (⟨⟨[]⟩⟩ : ByteArray), .int .i64 0]⟩) (rdT (rdA 3 b7 0) (.one (.agg [.str, .str, (.int .i64)])) (fun (r8 : ByteArray) (r9 : ByteArray) (r10 : Int) =>
 K (.agg ⟨[.string r8, .string r9, .int .i64 r10]⟩)))))
theorem e46 (t_1 : ByteArray) (t_2 : Sl) (t_3 : ByteArray) (t_4 : ByteArray) (t_5 : Option Addr) (K : KH) : bodyF Tryz.prog tau Tryz.f46 an46 [.agg ⟨[.string t_1, .slice t_2.base t_2.len t_2.cap, .string t_3, .string t_4, .pointer t_5]⟩] K = g46 t_1 t_2 t_3 t_4 t_5 K := by kernel_rfl
theorem c46 (t_1 : ByteArray) (t_2 : Sl) (t_3 : ByteArray) (t_4 : ByteArray) (t_5 : Option Addr) {K : KH} {σ : H} (h : g46 t_1 t_2 t_3 t_4 t_5 K σ) : callW Tryz.prog 46 [.agg ⟨[.string t_1, .slice t_2.base t_2.len t_2.cap, .string t_3, .string t_4, .pointer t_5]⟩] K σ := call_of_body mixed Tryz.func46 (by rw [e46]; exact h)


def an47 : Ann := (.q (.q .z))
def g47 (t_1 : ByteArray) (t_2 : Sl) (t_3 : ByteArray) (t_4 : ByteArray) (t_5 : Option Addr) (K : KH) : H -> Prop :=
 alW (.cells ⟨[.string t_1, .slice t_2.base t_2.len t_2.cap, .string t_3, .string t_4, .pointer t_5]⟩ 88 (0, 0)) (fun _b6 => alW (.cells ⟨[.string (⟨⟨[]⟩⟩ : ByteArray), .string (⟨⟨[]⟩⟩ : ByteArray), .int .i64 0]⟩ 35 (0, 0)) (fun b7 => stW Tryz.prog 35 (.pointer (some ⟨b7, 0, none⟩)) (.agg ⟨[.string (⟨⟨[]⟩⟩ : ByteArray), .string (⟨⟨[]⟩⟩ : ByteArray), .int .i64 1]⟩) (rdT (rdA 3 b7 0) (.one (.agg [.str, .str, (.int .i64)])) (fun (r8 : ByteArray) (r9 : ByteArray) (r10 : Int) =>
 K (.agg ⟨[.string r8, .string r9, .int .i64 r10]⟩)))))
theorem e47 (t_1 : ByteArray) (t_2 : Sl) (t_3 : ByteArray) (t_4 : ByteArray) (t_5 : Option Addr) (K : KH) : bodyF Tryz.prog tau Tryz.f47 an47 [.agg ⟨[.string t_1, .slice t_2.base t_2.len t_2.cap, .string t_3, .string t_4, .pointer t_5]⟩] K = g47 t_1 t_2 t_3 t_4 t_5 K := by kernel_rfl
theorem c47 (t_1 : ByteArray) (t_2 : Sl) (t_3 : ByteArray) (t_4 : ByteArray) (t_5 : Option Addr) {K : KH} {σ : H} (h : g47 t_1 t_2 t_3 t_4 t_5 K σ) : callW Tryz.prog 47 [.agg ⟨[.string t_1, .slice t_2.base t_2.len t_2.cap, .string t_3, .string t_4, .pointer t_5]⟩] K σ := call_of_body mixed Tryz.func47 (by rw [e47]; exact h)


def an48 : Ann := (.q (.q (.seq (some [(2,.p),(3,.l),(4,.s)]) (.seq (some [(2,.p),(3,.l),(4,.s),(16,.b)]) .r (.cond .r .z)) (.q .z))))
def g48 (t_1 : ByteArray) (t_2 : Sl) (t_3 : ByteArray) (t_4 : ByteArray) (t_5 : Option Addr) (K : KH) : H -> Prop :=
 alW (.cells ⟨[.string t_1, .slice t_2.base t_2.len t_2.cap, .string t_3, .string t_4, .pointer t_5]⟩ 88 (0, 0)) (fun b6 => alW (.cells ⟨[.string (⟨⟨[]⟩⟩ : ByteArray), .string (⟨⟨[]⟩⟩ : ByteArray), .int .i64 0]⟩ 35 (0, 0)) (fun b7 => rdT (rdC b6 1) kL (fun x8 => letJ (T := Option Addr -> Sl -> ByteArray -> H -> Prop) (fun x10 l_11 end_12 => callT Tryz.prog 23 [.slice l_11.base l_11.len l_11.cap, .string (⟨⟨[32]⟩⟩ : ByteArray)] kS (fun (x13 : ByteArray) =>
 ifW (x13.size + end_12.size <= 9223372036854775807) (stW Tryz.prog 35 (.pointer x10) (.agg ⟨[.string (x13 ++ end_12), .string (⟨⟨[]⟩⟩ : ByteArray), .int .i64 0]⟩) (ptrW x10 (fun b14 o15 => rdT (rdA 3 b14 o15) (.one (.agg [.str, .str, (.int .i64)])) (fun (r16 : ByteArray) (r17 : ByteArray) (r18 : Int) => K (.agg ⟨[.string r16, .string r17, .int .i64 r18]⟩))))))) (fun j9 => letJ (T := Option Addr -> Sl -> ByteArray -> Bool -> H -> Prop) (fun x20 l_21 end_22 x23 => brW x23
 (ifW (bndOk none l_21.cap /\ bndOk (some 1) l_21.len) (j9 x20 ⟨slBase l_21.base ((1 : Int).toNat) l_21.cap 1, l_21.len - ((1 : Int).toNat), l_21.cap - ((1 : Int).toNat)⟩ (⟨⟨[]⟩⟩ : ByteArray))) (j9 x20 l_21 end_22)) (fun j19 => brW (decide ((((x8.len : Nat) : Int) : Int) > 0)) (ptrW x8.base (fun b24 o25 => ifW (0 <= (0 : Int) /\ (0 : Int) < ((x8.len : Nat) : Int)) (rdT (rdC b24 (o25 + (0 : Int).toNat * 1)) kS (fun (x26 : ByteArray) =>
 j19 (some ⟨b7, 0, none⟩) x8 (⟨⟨[10]⟩⟩ : ByteArray) (strEq x26 (⟨⟨[45, 110]⟩⟩ : ByteArray)))))) (j19 (some ⟨b7, 0, none⟩) x8 (⟨⟨[10]⟩⟩ : ByteArray) false))))))
theorem e48 (t_1 : ByteArray) (t_2 : Sl) (t_3 : ByteArray) (t_4 : ByteArray) (t_5 : Option Addr) (K : KH) : bodyF Tryz.prog tau Tryz.f48 an48 [.agg ⟨[.string t_1, .slice t_2.base t_2.len t_2.cap, .string t_3, .string t_4, .pointer t_5]⟩] K = g48 t_1 t_2 t_3 t_4 t_5 K := by kernel_rfl
theorem c48 (t_1 : ByteArray) (t_2 : Sl) (t_3 : ByteArray) (t_4 : ByteArray) (t_5 : Option Addr) {K : KH} {σ : H} (h : g48 t_1 t_2 t_3 t_4 t_5 K σ) : callW Tryz.prog 48 [.agg ⟨[.string t_1, .slice t_2.base t_2.len t_2.cap, .string t_3, .string t_4, .pointer t_5]⟩] K σ := call_of_body mixed Tryz.func48 (by rw [e48]; exact h)


def an49 : Ann := (.q (.n (.q (.h)) (.q (.n (.q (.h)) (.q (.q (.q (.q (.q (.n (.q (.blk (.loop [(2,.p),(3,.l),(5,.p),(6,.p),(7,.p),(8,.p),(9,.p),(10,.w),(11,.b)] (.n (.q (.cond .z .z)) (.n (.blk (.q (.blk (.loop [(2,.p),(3,.l),(5,.p),(6,.p),(7,.p),(8,.p),(9,.p),(10,.w),(49,.l),(50,.i),(51,.i)] (.q (.n (.cond .z .z) (.n (.blk (.q (.q (.seq (some [(2,.p),(3,.l),(5,.p),(6,.p),(7,.p),(8,.p),(9,.p),(10,.w),(13,.p),(14,.s),(49,.l),(50,.i),(51,.i)]) (.q (.blk (.q (.cond .r (.q (.cond .r (.q (.cond .r (.q (.cond (.q .r) .z)))))))))) (.q (.seq (some [(2,.p),(3,.l),(5,.p),(6,.p),(7,.p),(8,.p),(9,.p),(10,.w),(14,.s),(49,.l),(50,.i),(51,.i)]) (.q (.cond .r .r)) .r)))))) .r))))))) .r))))) (.q (.q .z))))))))))))
def g49 (t_1 : ByteArray) (t_2 : Sl) (t_3 : ByteArray) (t_4 : ByteArray) (t_5 : Option Addr) (K : KH) : H -> Prop :=
 alW (.cells ⟨[.string t_1, .slice t_2.base t_2.len t_2.cap, .string t_3, .string t_4, .pointer t_5]⟩ 88 (0, 0)) (fun b6 => alW (.cells ⟨[.string (⟨⟨[]⟩⟩ : ByteArray), .string (⟨⟨[]⟩⟩ : ByteArray), .int .i64 0]⟩ 35 (0, 0)) (fun b7 => rdT (rdC b6 1) kL (fun x8 => brW ((((x8.len : Nat) : Int) : Int) == 0) (rdT (rdA 5 b6 0) (.one (.agg [.str, .slc, .str, .str, .ptr])) (fun (x9 : ByteArray) (x10 : Sl) (x11 : ByteArray) (x12 : ByteArray) (x13 : Option Addr) =>
 callT Tryz.prog 93 [.agg ⟨[.string x9, .slice x10.base x10.len x10.cap, .string x11, .string x12, .pointer x13]⟩] (.one (.agg [.str, .str, (.int .i64)])) (fun (x14 : ByteArray) (x15 : ByteArray) (x16 : Int) => stW Tryz.prog 35 (.pointer (some ⟨b7, 0, none⟩)) (.agg ⟨[.string x14, .string x15, .int .i64 x16]⟩) (rdT (rdA 3 b7 0) (.one (.agg [.str, .str, (.int .i64)])) (fun (r17 : ByteArray) (r18 : ByteArray) (r19 : Int) => K (.agg ⟨[.string r17, .string r18, .int .i64 r19]⟩))))))
 (rdT (rdC b6 1) kL (fun x20 => ptrW x20.base (fun b21 o22 => ifW (0 <= (0 : Int) /\ (0 : Int) < ((x20.len : Nat) : Int)) (rdT (rdC b21 (o22 + (0 : Int).toNat * 1)) kS (fun (x23 : ByteArray) => callT Tryz.prog 94 [.string x23] (.tup [.sc .slc, .sc .bool]) (fun x24 x25 => brW (!x25) (rdT (rdA 5 b6 0) (.one (.agg [.str, .slc, .str, .str, .ptr])) (fun (x26 : ByteArray) (x27 : Sl) (x28 : ByteArray) (x29 : ByteArray) (x30 : Option Addr) =>
 callT Tryz.prog 93 [.agg ⟨[.string x26, .slice x27.base x27.len x27.cap, .string x28, .string x29, .pointer x30]⟩] (.one (.agg [.str, .str, (.int .i64)])) (fun (x31 : ByteArray) (x32 : ByteArray) (x33 : Int) => stW Tryz.prog 35 (.pointer (some ⟨b7, 0, none⟩)) (.agg ⟨[.string x31, .string x32, .int .i64 x33]⟩) (rdT (rdA 3 b7 0) (.one (.agg [.str, .str, (.int .i64)])) (fun (r34 : ByteArray) (r35 : ByteArray) (r36 : Int) => K (.agg ⟨[.string r34, .string r35, .int .i64 r36]⟩))))))
 (alW (.cells ⟨[.string (⟨⟨[]⟩⟩ : ByteArray), .string (⟨⟨[]⟩⟩ : ByteArray), .int .i64 0]⟩ 35 (0, 0)) (fun b37 => alW (.cells ⟨[.pointer none, .slice none 0 0]⟩ 69 (0, 0)) (fun b38 => rdT (rdC b6 1) kL (fun x39 => ifW (bndOk none x39.cap /\ bndOk (some 1) x39.len) (alW (.cells ⟨[.slice none 0 0]⟩ 38 (0, 0)) (fun b40 => alW (.cells ⟨[.bool false]⟩ 4 (0, 0)) (fun b41 =>
 stW Tryz.prog 38 (.pointer (some ⟨b40, 0, none⟩)) (.slice (slBase x39.base ((1 : Int).toNat) x39.cap 1) (x39.len - ((1 : Int).toNat)) (x39.cap - ((1 : Int).toNat))) (stW Tryz.prog 4 (.pointer (some ⟨b41, 0, none⟩)) (.bool false) (alW (.cells ⟨[.nilFunc]⟩ 143 (0, 0)) (fun b42 =>
 stW Tryz.prog 143 (.pointer (some ⟨b42, 0, none⟩)) (.func (.func 95) ⟨[]⟩ ⟨[.pointer (some ⟨b41, 0, none⟩), .pointer (some ⟨b40, 0, none⟩)]⟩) (loopW [.sc .ptr, .sc .slc, .sc .ptr, .sc .ptr, .sc .ptr, .sc .ptr, .sc .ptr, .sc .raw, .sc .bool] (fun (R43 : Option Addr -> Sl -> Option Addr -> Option Addr -> Option Addr -> Option Addr -> Option Addr -> Value -> Bool -> H -> Prop) => (fun x44 form_45 d_46 out_47 args_48 took_49 next_50 num_51 again_52 => brW again_52
 (loopW [.sc .ptr, .sc .slc, .sc .ptr, .sc .ptr, .sc .ptr, .sc .ptr, .sc .ptr, .sc .raw, .sc .slc, .sc (.int .i64), .sc (.int .i64)] (fun (R53 : Option Addr -> Sl -> Option Addr -> Option Addr -> Option Addr -> Option Addr -> Option Addr -> Value -> Sl -> Int -> Int -> H -> Prop) => (fun (x54 : Option Addr) (form_55 : Sl) (d_56 : Option Addr) (out_57 : Option Addr) (args_58 : Option Addr) (took_59 : Option Addr) (next_60 : Option Addr) (num_61 : Value) (x62 : Sl) (x63 : Int) (x64 : Int) =>
 brW (decide ((x64 : Int) < x63)) (ptrW x62.base (fun b65 o66 => ifW (0 <= x64 /\ x64 < ((x62.len : Nat) : Int)) (rdT (rdA 4 b65 (o66 + x64.toNat * 4)) (.one (.agg [.str, (.int .u8), (.int .i64), .bool])) (fun (x67 : ByteArray) (x68 : Int) (x69 : Int) (x70 : Bool) => alW (.cells ⟨[.string (⟨⟨[]⟩⟩ : ByteArray), .int .u8 0, .int .i64 0, .bool false]⟩ 150 (0, 0)) (fun b71 =>
 stW Tryz.prog 150 (.pointer (some ⟨b71, 0, none⟩)) (.agg ⟨[.string x67, .int .u8 x68, .int .i64 x69, .bool x70]⟩) (rdT (rdC b71 0) kS (fun (x72 : ByteArray) => letJ (T := Option Addr -> Sl -> Option Addr -> Option Addr -> Option Addr -> Option Addr -> Option Addr -> Value -> Option Addr -> ByteArray -> Sl -> Int -> Int -> H -> Prop) (fun x74 form_75 d_76 out_77 args_78 took_79 next_80 num_81 p_82 s_83 x84 x85 x86 => ptrW p_82 (fun b87 o88 => rdT (rdC b87 (o88 + 2)) kI (fun (x89 : Int) =>
 callT Tryz.prog 11 [.string (⟨⟨[32]⟩⟩ : ByteArray), .int .i64 (if 0 > (IntKind.i64.wrap (x89 - ((s_83.size : Nat) : Int))) then 0 else (IntKind.i64.wrap (x89 - ((s_83.size : Nat) : Int))))] kS (fun (x90 : ByteArray) => letJ (T := Option Addr -> Sl -> Option Addr -> Option Addr -> Option Addr -> Option Addr -> Option Addr -> Value -> ByteArray -> Sl -> Int -> Int -> H -> Prop) (fun x92 form_93 d_94 out_95 args_96 took_97 next_98 num_99 s_100 x101 x102 x103 =>
 callT Tryz.prog 39 [.pointer out_95, .string s_100] (.tup [.sc (.int .i64), .sc .raw]) (fun (_x104 : Int) (_x105 : Value) => R53 x92 form_93 d_94 out_95 args_96 took_97 next_98 num_99 x101 x102 (IntKind.i64.wrap (x103 + 1)))) (fun j91 => ptrW p_82 (fun b106 o107 => rdT (rdC b106 (o107 + 3)) kB (fun x108 => brW x108 (ifW (s_83.size + x90.size <= 9223372036854775807) (j91 x74 form_75 d_76 out_77 args_78 took_79 next_80 num_81 (s_83 ++ x90) x84 x85 x86))
 (ifW (x90.size + s_83.size <= 9223372036854775807) (j91 x74 form_75 d_76 out_77 args_78 took_79 next_80 num_81 (x90 ++ s_83) x84 x85 x86))))))))) (fun j73 => rdT (rdC b71 1) kC (fun (x109 : Int) => brW ((x109 : Int) == 115) (ptrW next_60 (fun b110 o111 => rdT (rdC b110 o111) kR (fun x112 => cvalT Tryz.prog x112 [] (.tup [.sc .str, .sc .bool]) (fun (x113 : ByteArray) (_x114 : Bool) => j73 x54 form_55 d_56 out_57 args_58 took_59 next_60 num_61 (some ⟨b71, 0, none⟩) x113 x62 x63 x64))))
 (brW ((x109 : Int) == 100) (cvalT Tryz.prog num_61 [.int .i64 10] kS (fun (x115 : ByteArray) => j73 x54 form_55 d_56 out_57 args_58 took_59 next_60 num_61 (some ⟨b71, 0, none⟩) x115 x62 x63 x64)) (brW ((x109 : Int) == 120) (cvalT Tryz.prog num_61 [.int .i64 16] kS (fun (x116 : ByteArray) => j73 x54 form_55 d_56 out_57 args_58 took_59 next_60 num_61 (some ⟨b71, 0, none⟩) x116 x62 x63 x64)) (brW ((x109 : Int) == 99) (ptrW next_60 (fun b117 o118 => rdT (rdC b117 o118) kR (fun x119 =>
 cvalT Tryz.prog x119 [] (.tup [.sc .str, .sc .bool]) (fun (x120 : ByteArray) (_x121 : Bool) => ifW (bndOk (some (if 1 < ((x120.size : Nat) : Int) then 1 else ((x120.size : Nat) : Int))) x120.size /\ bndOk none ((if 1 < ((x120.size : Nat) : Int) then 1 else ((x120.size : Nat) : Int)).toNat)) (j73 x54 form_55 d_56 out_57 args_58 took_59 next_60 num_61 (some ⟨b71, 0, none⟩) (x120.extract 0 ((if 1 < ((x120.size : Nat) : Int) then 1 else ((x120.size : Nat) : Int)).toNat)) x62 x63 x64)))))
 (j73 x54 form_55 d_56 out_57 args_58 took_59 next_60 num_61 (some ⟨b71, 0, none⟩) x72 x62 x63 x64))))))))))))) (ptrW took_59 (fun b122 o123 => rdT (rdC b122 o123) kB (fun x124 => brW x124 (ptrW args_58 (fun b125 o126 => rdT (rdC b125 o126) kL (fun x127 => R43 x54 form_55 d_56 out_57 args_58 took_59 next_60 num_61 (decide ((((x127.len : Nat) : Int) : Int) > 0)))))
 (R43 x54 form_55 d_56 out_57 args_58 took_59 next_60 num_61 false)))))) (fun (R128 : Option Addr -> Sl -> Option Addr -> Option Addr -> Option Addr -> Option Addr -> Option Addr -> Value -> Sl -> Int -> Int -> H -> Prop) => R128 x44 form_45 d_46 out_47 args_48 took_49 next_50 num_51 form_45 ((form_45.len : Nat) : Int) 0)) (callT Tryz.prog 41 [.pointer out_47] kS (fun (x129 : ByteArray) => ptrW d_46 (fun b130 o131 =>
 stW Tryz.prog 9 (.pointer (some ⟨b130, o131, none⟩)) (.string x129) (ptrW d_46 (fun b132 o133 => rdT (rdA 3 b132 o133) (.one (.agg [.str, .str, (.int .i64)])) (fun (x134 : ByteArray) (x135 : ByteArray) (x136 : Int) => stW Tryz.prog 35 (.pointer x44) (.agg ⟨[.string x134, .string x135, .int .i64 x136]⟩) (ptrW x44 (fun b137 o138 => rdT (rdA 3 b137 o138) (.one (.agg [.str, .str, (.int .i64)])) (fun (r139 : ByteArray) (r140 : ByteArray) (r141 : Int) =>
 K (.agg ⟨[.string r139, .string r140, .int .i64 r141]⟩)))))))))))) (fun (R142 : Option Addr -> Sl -> Option Addr -> Option Addr -> Option Addr -> Option Addr -> Option Addr -> Value -> Bool -> H -> Prop) => R142 (some ⟨b7, 0, none⟩) x24 (some ⟨b37, 0, none⟩) (some ⟨b38, 0, none⟩) (some ⟨b40, 0, none⟩) (some ⟨b41, 0, none⟩) (some ⟨b42, 0, none⟩) (.func (.func 96) ⟨[]⟩ ⟨[.pointer (some ⟨b42, 0, none⟩), .pointer (some ⟨b37, 0, none⟩), .pointer (some ⟨b6, 0, none⟩)]⟩) true)))))))))))))))))))))
theorem e49 (t_1 : ByteArray) (t_2 : Sl) (t_3 : ByteArray) (t_4 : ByteArray) (t_5 : Option Addr) (K : KH) : bodyF Tryz.prog tau Tryz.f49 an49 [.agg ⟨[.string t_1, .slice t_2.base t_2.len t_2.cap, .string t_3, .string t_4, .pointer t_5]⟩] K = g49 t_1 t_2 t_3 t_4 t_5 K := by kernel_rfl
theorem c49 (t_1 : ByteArray) (t_2 : Sl) (t_3 : ByteArray) (t_4 : ByteArray) (t_5 : Option Addr) {K : KH} {σ : H} (h : g49 t_1 t_2 t_3 t_4 t_5 K σ) : callW Tryz.prog 49 [.agg ⟨[.string t_1, .slice t_2.base t_2.len t_2.cap, .string t_3, .string t_4, .pointer t_5]⟩] K σ := call_of_body mixed Tryz.func49 (by rw [e49]; exact h)


def an50 : Ann := (.q (.q (.seq (some [(1,.p),(2,.p),(3,.l)]) (.q (.cond (.n (.seq (some [(1,.p),(2,.p),(3,.l),(24,.b)]) .r (.h)) .r) .z)) (.q (.n (.blk (.q (.cond (.q .z) (.q (.h))))) (.q .z))))))
def g50 (t_1 : ByteArray) (t_2 : Sl) (t_3 : ByteArray) (t_4 : ByteArray) (t_5 : Option Addr) (K : KH) : H -> Prop :=
 alW (.cells ⟨[.string t_1, .slice t_2.base t_2.len t_2.cap, .string t_3, .string t_4, .pointer t_5]⟩ 88 (0, 0)) (fun b6 => alW (.cells ⟨[.string (⟨⟨[]⟩⟩ : ByteArray), .string (⟨⟨[]⟩⟩ : ByteArray), .int .i64 0]⟩ 35 (0, 0)) (fun b7 => rdT (rdC b6 1) kL (fun x8 => letJ (T := Option Addr -> Option Addr -> Sl -> H -> Prop) (fun t_10 x11 l_12 => ptrW t_10 (fun b13 o14 =>
 rdT (rdA 5 b13 o14) (.one (.agg [.str, .slc, .str, .str, .ptr])) (fun (x15 : ByteArray) (x16 : Sl) (x17 : ByteArray) (x18 : ByteArray) (x19 : Option Addr) => callT Tryz.prog 99 [.agg ⟨[.string x15, .slice x16.base x16.len x16.cap, .string x17, .string x18, .pointer x19]⟩, .slice l_12.base l_12.len l_12.cap] (.tup [.sc .bool, .sc .bool]) (fun x20 x21 => brW (!x21) (ptrW t_10 (fun b22 o23 =>
 rdT (rdA 5 b22 o23) (.one (.agg [.str, .slc, .str, .str, .ptr])) (fun (x24 : ByteArray) (x25 : Sl) (x26 : ByteArray) (x27 : ByteArray) (x28 : Option Addr) => callT Tryz.prog 93 [.agg ⟨[.string x24, .slice x25.base x25.len x25.cap, .string x26, .string x27, .pointer x28]⟩] (.one (.agg [.str, .str, (.int .i64)])) (fun (x29 : ByteArray) (x30 : ByteArray) (x31 : Int) => stW Tryz.prog 35 (.pointer x11) (.agg ⟨[.string x29, .string x30, .int .i64 x31]⟩) (ptrW x11 (fun b32 o33 =>
 rdT (rdA 3 b32 o33) (.one (.agg [.str, .str, (.int .i64)])) (fun (r34 : ByteArray) (r35 : ByteArray) (r36 : Int) => K (.agg ⟨[.string r34, .string r35, .int .i64 r36]⟩)))))))) (brW x20 (ptrW t_10 (fun b37 o38 => rdT (rdA 5 b37 o38) (.one (.agg [.str, .slc, .str, .str, .ptr])) (fun (x39 : ByteArray) (x40 : Sl) (x41 : ByteArray) (x42 : ByteArray) (x43 : Option Addr) =>
 callT Tryz.prog 46 [.agg ⟨[.string x39, .slice x40.base x40.len x40.cap, .string x41, .string x42, .pointer x43]⟩] (.one (.agg [.str, .str, (.int .i64)])) (fun (x44 : ByteArray) (x45 : ByteArray) (x46 : Int) => stW Tryz.prog 35 (.pointer x11) (.agg ⟨[.string x44, .string x45, .int .i64 x46]⟩) (ptrW x11 (fun b47 o48 => rdT (rdA 3 b47 o48) (.one (.agg [.str, .str, (.int .i64)])) (fun (r49 : ByteArray) (r50 : ByteArray) (r51 : Int) => K (.agg ⟨[.string r49, .string r50, .int .i64 r51]⟩))))))))
 (ptrW t_10 (fun b52 o53 => rdT (rdA 5 b52 o53) (.one (.agg [.str, .slc, .str, .str, .ptr])) (fun (x54 : ByteArray) (x55 : Sl) (x56 : ByteArray) (x57 : ByteArray) (x58 : Option Addr) => callT Tryz.prog 47 [.agg ⟨[.string x54, .slice x55.base x55.len x55.cap, .string x56, .string x57, .pointer x58]⟩] (.one (.agg [.str, .str, (.int .i64)])) (fun (x59 : ByteArray) (x60 : ByteArray) (x61 : Int) =>
 stW Tryz.prog 35 (.pointer x11) (.agg ⟨[.string x59, .string x60, .int .i64 x61]⟩) (ptrW x11 (fun b62 o63 => rdT (rdA 3 b62 o63) (.one (.agg [.str, .str, (.int .i64)])) (fun (r64 : ByteArray) (r65 : ByteArray) (r66 : Int) => K (.agg ⟨[.string r64, .string r65, .int .i64 r66]⟩))))))))))))) (fun j9 => rdT (rdC b6 0) kS (fun (x67 : ByteArray) => brW (strEq x67 (⟨⟨[91]⟩⟩ : ByteArray)) (letJ (T := Option Addr -> Option Addr -> Sl -> Bool -> H -> Prop) (fun t_69 x70 l_71 x72 => brW x72
 (ptrW t_69 (fun b73 o74 => rdT (rdA 5 b73 o74) (.one (.agg [.str, .slc, .str, .str, .ptr])) (fun (x75 : ByteArray) (x76 : Sl) (x77 : ByteArray) (x78 : ByteArray) (x79 : Option Addr) => callT Tryz.prog 93 [.agg ⟨[.string x75, .slice x76.base x76.len x76.cap, .string x77, .string x78, .pointer x79]⟩] (.one (.agg [.str, .str, (.int .i64)])) (fun (x80 : ByteArray) (x81 : ByteArray) (x82 : Int) =>
 stW Tryz.prog 35 (.pointer x70) (.agg ⟨[.string x80, .string x81, .int .i64 x82]⟩) (ptrW x70 (fun b83 o84 => rdT (rdA 3 b83 o84) (.one (.agg [.str, .str, (.int .i64)])) (fun (r85 : ByteArray) (r86 : ByteArray) (r87 : Int) => K (.agg ⟨[.string r85, .string r86, .int .i64 r87]⟩)))))))) (ifW (bndOk (some (IntKind.i64.wrap (((l_71.len : Nat) : Int) - 1))) l_71.cap /\ bndOk none ((IntKind.i64.wrap (((l_71.len : Nat) : Int) - 1)).toNat))
 (j9 t_69 x70 ⟨slBase l_71.base 0 l_71.cap 1, ((IntKind.i64.wrap (((l_71.len : Nat) : Int) - 1)).toNat) - 0, l_71.cap - 0⟩))) (fun j68 => brW ((((x8.len : Nat) : Int) : Int) == 0) (j68 (some ⟨b6, 0, none⟩) (some ⟨b7, 0, none⟩) x8 true) (ptrW x8.base (fun b88 o89 => ifW (0 <= IntKind.i64.wrap (((x8.len : Nat) : Int) - 1) /\ IntKind.i64.wrap (((x8.len : Nat) : Int) - 1) < ((x8.len : Nat) : Int))
 (rdT (rdC b88 (o89 + (IntKind.i64.wrap (((x8.len : Nat) : Int) - 1) : Int).toNat * 1)) kS (fun (x90 : ByteArray) => j68 (some ⟨b6, 0, none⟩) (some ⟨b7, 0, none⟩) x8 (!strEq x90 (⟨⟨[93]⟩⟩ : ByteArray)))))))) (j9 (some ⟨b6, 0, none⟩) (some ⟨b7, 0, none⟩) x8))))))
theorem e50 (t_1 : ByteArray) (t_2 : Sl) (t_3 : ByteArray) (t_4 : ByteArray) (t_5 : Option Addr) (K : KH) : bodyF Tryz.prog tau Tryz.f50 an50 [.agg ⟨[.string t_1, .slice t_2.base t_2.len t_2.cap, .string t_3, .string t_4, .pointer t_5]⟩] K = g50 t_1 t_2 t_3 t_4 t_5 K := by kernel_rfl
theorem c50 (t_1 : ByteArray) (t_2 : Sl) (t_3 : ByteArray) (t_4 : ByteArray) (t_5 : Option Addr) {K : KH} {σ : H} (h : g50 t_1 t_2 t_3 t_4 t_5 K σ) : callW Tryz.prog 50 [.agg ⟨[.string t_1, .slice t_2.base t_2.len t_2.cap, .string t_3, .string t_4, .pointer t_5]⟩] K σ := call_of_body mixed Tryz.func50 (by rw [e50]; exact h)

end Go.Proofs.YthclifcpjnhmjaaGreatDoor

set_option maxRecDepth 100000
namespace Go.Proofs.YthclifcpjnhmjaaGreatDoor
open Go Go.HL
def an51 : Ann := (.q (.n (.seq (some [(1,.p),(2,.p),(15,.b)]) .r (.h)) (.q (.n (.seq (some [(1,.p),(2,.p),(3,.s),(33,.b)]) .r (.h)) (.q (.seq (some [(2,.p),(3,.s)]) (.seq (some [(1,.p),(2,.p),(3,.s),(53,.b)]) .r (.cond .r .z)) (.q .z)))))))
def g51 (t_1 : ByteArray) (t_2 : Sl) (t_3 : ByteArray) (t_4 : ByteArray) (t_5 : Option Addr) (K : KH) : H -> Prop :=
 alW (.cells ⟨[.string t_1, .slice t_2.base t_2.len t_2.cap, .string t_3, .string t_4, .pointer t_5]⟩ 88 (0, 0)) (fun b6 => alW (.cells ⟨[.string (⟨⟨[]⟩⟩ : ByteArray), .string (⟨⟨[]⟩⟩ : ByteArray), .int .i64 0]⟩ 35 (0, 0)) (fun b7 => letJ (T := Option Addr -> Option Addr -> Bool -> H -> Prop) (fun t_9 x10 x11 => brW x11 (ptrW t_9 (fun b12 o13 =>
 rdT (rdA 5 b12 o13) (.one (.agg [.str, .slc, .str, .str, .ptr])) (fun (x14 : ByteArray) (x15 : Sl) (x16 : ByteArray) (x17 : ByteArray) (x18 : Option Addr) => callT Tryz.prog 93 [.agg ⟨[.string x14, .slice x15.base x15.len x15.cap, .string x16, .string x17, .pointer x18]⟩] (.one (.agg [.str, .str, (.int .i64)])) (fun (x19 : ByteArray) (x20 : ByteArray) (x21 : Int) => stW Tryz.prog 35 (.pointer x10) (.agg ⟨[.string x19, .string x20, .int .i64 x21]⟩) (ptrW x10 (fun b22 o23 =>
 rdT (rdA 3 b22 o23) (.one (.agg [.str, .str, (.int .i64)])) (fun (r24 : ByteArray) (r25 : ByteArray) (r26 : Int) => K (.agg ⟨[.string r24, .string r25, .int .i64 r26]⟩)))))))) (ptrW t_9 (fun b27 o28 => rdT (rdC b27 (o28 + 1)) kL (fun x29 => ptrW x29.base (fun b30 o31 => ifW (0 <= (0 : Int) /\ (0 : Int) < ((x29.len : Nat) : Int)) (rdT (rdC b30 (o31 + (0 : Int).toNat * 1)) kS (fun (x32 : ByteArray) => callT Tryz.prog 100 [.string x32] kS (fun (x33 : ByteArray) =>
 letJ (T := Option Addr -> Option Addr -> ByteArray -> Bool -> H -> Prop) (fun t_35 x36 s_37 x38 => brW x38 (stW Tryz.prog 35 (.pointer x36) (.agg ⟨[.string (⟨⟨[47, 10]⟩⟩ : ByteArray), .string (⟨⟨[]⟩⟩ : ByteArray), .int .i64 0]⟩) (ptrW x36 (fun b39 o40 => rdT (rdA 3 b39 o40) (.one (.agg [.str, .str, (.int .i64)])) (fun (r41 : ByteArray) (r42 : ByteArray) (r43 : Int) => K (.agg ⟨[.string r41, .string r42, .int .i64 r43]⟩))))) (callT Tryz.prog 101 [.string s_37, .int .u8 47] kI (fun (x44 : Int) =>
 ifW (bndOk none s_37.size /\ bndOk (some (IntKind.i64.wrap (x44 + 1))) (s_37.size)) (letJ (T := Option Addr -> ByteArray -> H -> Prop) (fun x46 s_47 => ifW (s_47.size + (⟨⟨[10]⟩⟩ : ByteArray).size <= 9223372036854775807) (stW Tryz.prog 35 (.pointer x46) (.agg ⟨[.string (s_47 ++ (⟨⟨[10]⟩⟩ : ByteArray)), .string (⟨⟨[]⟩⟩ : ByteArray), .int .i64 0]⟩) (ptrW x46 (fun b48 o49 => rdT (rdA 3 b48 o49) (.one (.agg [.str, .str, (.int .i64)])) (fun (r50 : ByteArray) (r51 : ByteArray) (r52 : Int) =>
 K (.agg ⟨[.string r50, .string r51, .int .i64 r52]⟩)))))) (fun j45 => letJ (T := Option Addr -> Option Addr -> ByteArray -> Bool -> H -> Prop) (fun t_54 x55 s_56 x57 => brW x57 (ptrW t_54 (fun b58 o59 => rdT (rdC b58 (o59 + 1)) kL (fun x60 => ptrW x60.base (fun b61 o62 => ifW (0 <= (1 : Int) /\ (1 : Int) < ((x60.len : Nat) : Int)) (rdT (rdC b61 (o62 + (1 : Int).toNat * 1)) kS (fun (x63 : ByteArray) => callT Tryz.prog 102 [.string s_56, .string x63] kS (fun (x64 : ByteArray) => j45 x55 x64)))))))
 (j45 x55 s_56)) (fun j53 => ptrW t_35 (fun b65 o66 => rdT (rdC b65 (o66 + 1)) kL (fun x67 => brW ((((x67.len : Nat) : Int) : Int) == 2) (ptrW t_35 (fun b68 o69 => rdT (rdC b68 (o69 + 1)) kL (fun x70 => ptrW x70.base (fun b71 o72 => ifW (0 <= (1 : Int) /\ (1 : Int) < ((x70.len : Nat) : Int)) (rdT (rdC b71 (o72 + (1 : Int).toNat * 1)) kS (fun (x73 : ByteArray) =>
 j53 t_35 x36 (s_37.extract ((IntKind.i64.wrap (x44 + 1)).toNat) s_37.size) (!strEq (s_37.extract ((IntKind.i64.wrap (x44 + 1)).toNat) s_37.size) x73))))))) (j53 t_35 x36 (s_37.extract ((IntKind.i64.wrap (x44 + 1)).toNat) s_37.size) false))))))))) (fun j34 => brW (strEq x33 (⟨⟨[]⟩⟩ : ByteArray)) (ptrW t_9 (fun b74 o75 => rdT (rdC b74 (o75 + 1)) kL (fun x76 => ptrW x76.base (fun b77 o78 => ifW (0 <= (0 : Int) /\ (0 : Int) < ((x76.len : Nat) : Int))
 (rdT (rdC b77 (o78 + (0 : Int).toNat * 1)) kS (fun (x79 : ByteArray) => j34 t_9 x10 x33 (!strEq x79 (⟨⟨[]⟩⟩ : ByteArray)))))))) (j34 t_9 x10 x33 false)))))))))) (fun j8 => rdT (rdC b6 1) kL (fun x80 => brW ((((x80.len : Nat) : Int) : Int) != 1) (rdT (rdC b6 1) kL (fun x81 => j8 (some ⟨b6, 0, none⟩) (some ⟨b7, 0, none⟩) ((((x81.len : Nat) : Int) : Int) != 2))) (j8 (some ⟨b6, 0, none⟩) (some ⟨b7, 0, none⟩) false)))))
theorem e51 (t_1 : ByteArray) (t_2 : Sl) (t_3 : ByteArray) (t_4 : ByteArray) (t_5 : Option Addr) (K : KH) : bodyF Tryz.prog tau Tryz.f51 an51 [.agg ⟨[.string t_1, .slice t_2.base t_2.len t_2.cap, .string t_3, .string t_4, .pointer t_5]⟩] K = g51 t_1 t_2 t_3 t_4 t_5 K := by kernel_rfl
theorem c51 (t_1 : ByteArray) (t_2 : Sl) (t_3 : ByteArray) (t_4 : ByteArray) (t_5 : Option Addr) {K : KH} {σ : H} (h : g51 t_1 t_2 t_3 t_4 t_5 K σ) : callW Tryz.prog 51 [.agg ⟨[.string t_1, .slice t_2.base t_2.len t_2.cap, .string t_3, .string t_4, .pointer t_5]⟩] K σ := call_of_body mixed Tryz.func51 (by rw [e51]; exact h)


def an52 : Ann := (.q (.n (.q (.h)) (.q (.q (.seq (some [(2,.p),(3,.s)]) (.blk (.q (.cond .z (.q (.cond .r .r))))) (.q .z))))))
def g52 (t_1 : ByteArray) (t_2 : Sl) (t_3 : ByteArray) (t_4 : ByteArray) (t_5 : Option Addr) (K : KH) : H -> Prop :=
 alW (.cells ⟨[.string t_1, .slice t_2.base t_2.len t_2.cap, .string t_3, .string t_4, .pointer t_5]⟩ 88 (0, 0)) (fun b6 => alW (.cells ⟨[.string (⟨⟨[]⟩⟩ : ByteArray), .string (⟨⟨[]⟩⟩ : ByteArray), .int .i64 0]⟩ 35 (0, 0)) (fun b7 => rdT (rdC b6 1) kL (fun x8 => brW ((((x8.len : Nat) : Int) : Int) != 1) (rdT (rdA 5 b6 0) (.one (.agg [.str, .slc, .str, .str, .ptr])) (fun (x9 : ByteArray) (x10 : Sl) (x11 : ByteArray) (x12 : ByteArray) (x13 : Option Addr) =>
 callT Tryz.prog 93 [.agg ⟨[.string x9, .slice x10.base x10.len x10.cap, .string x11, .string x12, .pointer x13]⟩] (.one (.agg [.str, .str, (.int .i64)])) (fun (x14 : ByteArray) (x15 : ByteArray) (x16 : Int) => stW Tryz.prog 35 (.pointer (some ⟨b7, 0, none⟩)) (.agg ⟨[.string x14, .string x15, .int .i64 x16]⟩) (rdT (rdA 3 b7 0) (.one (.agg [.str, .str, (.int .i64)])) (fun (r17 : ByteArray) (r18 : ByteArray) (r19 : Int) => K (.agg ⟨[.string r17, .string r18, .int .i64 r19]⟩))))))
 (rdT (rdC b6 1) kL (fun x20 => ptrW x20.base (fun b21 o22 => ifW (0 <= (0 : Int) /\ (0 : Int) < ((x20.len : Nat) : Int)) (rdT (rdC b21 (o22 + (0 : Int).toNat * 1)) kS (fun (x23 : ByteArray) => callT Tryz.prog 100 [.string x23] kS (fun (x24 : ByteArray) => callT Tryz.prog 101 [.string x24, .int .u8 47] kI (fun (x25 : Int) => ifW (bndOk (some (IntKind.i64.wrap (x25 + 1))) x24.size /\ bndOk none ((IntKind.i64.wrap (x25 + 1)).toNat))
 (callT Tryz.prog 100 [.string (x24.extract 0 ((IntKind.i64.wrap (x25 + 1)).toNat))] kS (fun (x26 : ByteArray) => letJ (T := Option Addr -> ByteArray -> H -> Prop) (fun x28 s_29 => ifW (s_29.size + (⟨⟨[10]⟩⟩ : ByteArray).size <= 9223372036854775807) (stW Tryz.prog 35 (.pointer x28) (.agg ⟨[.string (s_29 ++ (⟨⟨[10]⟩⟩ : ByteArray)), .string (⟨⟨[]⟩⟩ : ByteArray), .int .i64 0]⟩) (ptrW x28 (fun b30 o31 =>
 rdT (rdA 3 b30 o31) (.one (.agg [.str, .str, (.int .i64)])) (fun (r32 : ByteArray) (r33 : ByteArray) (r34 : Int) => K (.agg ⟨[.string r32, .string r33, .int .i64 r34]⟩)))))) (fun j27 => brW (!strEq x26 (⟨⟨[]⟩⟩ : ByteArray)) (j27 (some ⟨b7, 0, none⟩) x26) (rdT (rdC b6 1) kL (fun x35 => ptrW x35.base (fun b36 o37 => ifW (0 <= (0 : Int) /\ (0 : Int) < ((x35.len : Nat) : Int)) (rdT (rdC b36 (o37 + (0 : Int).toNat * 1)) kS (fun (x38 : ByteArray) =>
 callT Tryz.prog 37 [.string x38, .string (⟨⟨[47]⟩⟩ : ByteArray)] kB (fun x39 => brW x39 (j27 (some ⟨b7, 0, none⟩) (⟨⟨[47]⟩⟩ : ByteArray)) (j27 (some ⟨b7, 0, none⟩) (⟨⟨[46]⟩⟩ : ByteArray)))))))))))))))))))))
theorem e52 (t_1 : ByteArray) (t_2 : Sl) (t_3 : ByteArray) (t_4 : ByteArray) (t_5 : Option Addr) (K : KH) : bodyF Tryz.prog tau Tryz.f52 an52 [.agg ⟨[.string t_1, .slice t_2.base t_2.len t_2.cap, .string t_3, .string t_4, .pointer t_5]⟩] K = g52 t_1 t_2 t_3 t_4 t_5 K := by kernel_rfl
theorem c52 (t_1 : ByteArray) (t_2 : Sl) (t_3 : ByteArray) (t_4 : ByteArray) (t_5 : Option Addr) {K : KH} {σ : H} (h : g52 t_1 t_2 t_3 t_4 t_5 K σ) : callW Tryz.prog 52 [.agg ⟨[.string t_1, .slice t_2.base t_2.len t_2.cap, .string t_3, .string t_4, .pointer t_5]⟩] K σ := call_of_body mixed Tryz.func52 (by rw [e52]; exact h)


def an59 : Ann := (.q (.q .z))
def g59 (f_1 : Option Addr) (K : KH) : H -> Prop :=
 brW f_1.isNone (K (.bool true)) (ptrW f_1 (fun b2 o3 => rdT (rdC b2 o3) kP (fun x4 => K (.bool x4.isNone))))
theorem e59 (f_1 : Option Addr) (K : KH) : bodyF Tryz.prog tau Tryz.f59 an59 [.pointer f_1] K = g59 f_1 K := by kernel_rfl
theorem c59 (f_1 : Option Addr) {K : KH} {σ : H} (h : g59 f_1 K σ) : callW Tryz.prog 59 [.pointer f_1] K σ := call_of_body mixed Tryz.func59 (by rw [e59]; exact h)


def an65 : Ann := (.q (.q .z))
def g65 (s_1 : ByteArray) (substr_2 : ByteArray) (K : KH) : H -> Prop :=
 callT Tryz.prog 113 [.string s_1, .string substr_2] kI (fun (x3 : Int) => K (.int .i64 x3))
theorem e65 (s_1 : ByteArray) (substr_2 : ByteArray) (K : KH) : bodyF Tryz.prog tau Tryz.f65 an65 [.string s_1, .string substr_2] K = g65 s_1 substr_2 K := by kernel_rfl
theorem c65 (s_1 : ByteArray) (substr_2 : ByteArray) {K : KH} {σ : H} (h : g65 s_1 substr_2 K σ) : callW Tryz.prog 65 [.string s_1, .string substr_2] K σ := call_of_body mixed Tryz.func65 (by rw [e65]; exact h)


def an67 : Ann := (.q (.n (.seq (some [(1,.p),(21,.b)]) .r (.h)) (.q (.q .z))))
def g67 (q_1 : Int) (q_2 : Int) (K : KH) : H -> Prop :=
 alW (.cells ⟨[.int .i64 q_1, .int .i64 q_2]⟩ 50 (0, 0)) (fun b3 => letJ (T := Option Addr -> Bool -> H -> Prop) (fun q_5 x6 => brW x6 (K (.pointer none)) (alW (.map #[] 0) (fun b7 => alW (.cells ⟨[.int .i64 2, .int .i64 493, .string (⟨⟨[]⟩⟩ : ByteArray), .int .i64 1, .int .i64 1, .map (some b7)]⟩ 167 (0, 0)) (fun b8 => ptrW q_5 (fun b9 o10 => rdT (rdA 2 b9 o10) (.one (.agg [(.int .i64), (.int .i64)])) (fun (x11 : Int) (x12 : Int) => alW (.map #[] 0) (fun b13 =>
 muW Tryz.prog 161 (.map (some b13)) (.int .i64 1) (.pointer (some ⟨b8, 0, none⟩)) (alW (.cells ⟨[.int .i64 x11, .int .i64 x12, .int .i64 1, .int .i64 0, .map (some b13), .int .i64 1]⟩ 163 (0, 0)) (fun b14 => K (.pointer (some ⟨b14, 0, none⟩))))))))))) (fun j4 => rdT (rdC b3 0) kI (fun (x15 : Int) => brW (decide ((x15 : Int) < 1)) (j4 (some ⟨b3, 0, none⟩) true) (rdT (rdC b3 0) kI (fun (x16 : Int) => brW (decide ((x16 : Int) > 1048576)) (j4 (some ⟨b3, 0, none⟩) true)
 (rdT (rdC b3 1) kI (fun (x17 : Int) => brW (decide ((x17 : Int) < 0)) (j4 (some ⟨b3, 0, none⟩) true) (rdT (rdC b3 1) kI (fun (x18 : Int) => j4 (some ⟨b3, 0, none⟩) (decide ((x18 : Int) > 1073741824)))))))))))
theorem e67 (q_1 : Int) (q_2 : Int) (K : KH) : bodyF Tryz.prog tau Tryz.f67 an67 [.agg ⟨[.int .i64 q_1, .int .i64 q_2]⟩] K = g67 q_1 q_2 K := by kernel_rfl
theorem c67 (q_1 : Int) (q_2 : Int) {K : KH} {σ : H} (h : g67 q_1 q_2 K σ) : callW Tryz.prog 67 [.agg ⟨[.int .i64 q_1, .int .i64 q_2]⟩] K σ := call_of_body mixed Tryz.func67 (by rw [e67]; exact h)


def an68 : Ann := (.q (.n (.q (.h)) (.q (.n (.q (.h)) (.seq (some [(0,.p),(2,.s),(3,.b),(8,.p),(10,.i),(11,.p)]) (.q (.cond (.n (.q (.h)) (.q (.n (.blk (.q (.cond (.q .z) (.q (.cond (.q .z) (.q (.h))))))) .r))) .z)) (.q .z))))))
def g68 (f_1 : Option Addr) (cwd_2 : ByteArray) (path_3 : ByteArray) (follow_4 : Bool) (K : KH) : H -> Prop :=
 alW (.cells ⟨[.int .i64 0, .string (⟨⟨[]⟩⟩ : ByteArray), .int .i64 0, .bool false]⟩ 107 (0, 0)) (fun b5 => callT Tryz.prog 59 [.pointer f_1] kB (fun x6 => brW x6 (stW Tryz.prog 107 (.pointer (some ⟨b5, 0, none⟩)) (.agg ⟨[.int .i64 0, .string (⟨⟨[]⟩⟩ : ByteArray), .int .i64 0, .bool false]⟩) (rdT (rdA 4 b5 0) (.one (.agg [(.int .i64), .str, (.int .i64), .bool])) (fun (r7 : Int) (r8 : ByteArray) (r9 : Int) (r10 : Bool) =>
 K (.tuple ⟨[.agg ⟨[.int .i64 r7, .string r8, .int .i64 r9, .bool r10]⟩, .int .i64 1]⟩)))) (ptrW f_1 (fun b11 o12 => rdT (rdC b11 o12) kP (fun x13 => callT Tryz.prog 115 [.pointer x13] kI (fun (x14 : Int) => alW (.cells ⟨[.int .i64 0]⟩ 3 (0, 0)) (fun b15 => stW Tryz.prog 3 (.pointer (some ⟨b15, 0, none⟩)) (.int .i64 8) (brW (strEq path_3 (⟨⟨[]⟩⟩ : ByteArray))
 (stW Tryz.prog 107 (.pointer (some ⟨b5, 0, none⟩)) (.agg ⟨[.int .i64 0, .string (⟨⟨[]⟩⟩ : ByteArray), .int .i64 0, .bool false]⟩) (rdT (rdA 4 b5 0) (.one (.agg [(.int .i64), .str, (.int .i64), .bool])) (fun (r16 : Int) (r17 : ByteArray) (r18 : Int) (r19 : Bool) => K (.tuple ⟨[.agg ⟨[.int .i64 r16, .string r17, .int .i64 r18, .bool r19]⟩, .int .i64 5]⟩)))) (letJ (T := Option Addr -> ByteArray -> Bool -> Option Addr -> Int -> Option Addr -> H -> Prop) (fun f_21 path_22 follow_23 x24 at_25 hops_26 =>
 callT Tryz.prog 116 [.pointer f_21, .int .i64 at_25, .string path_22, .bool follow_23, .pointer hops_26] (.tup [.agg [(.int .i64), .str, (.int .i64), .bool], .sc (.int .i64)]) (fun (x27 : Int) (x28 : ByteArray) (x29 : Int) (x30 : Bool) (x31 : Int) => stW Tryz.prog 107 (.pointer x24) (.agg ⟨[.int .i64 x27, .string x28, .int .i64 x29, .bool x30]⟩) (ptrW x24 (fun b32 o33 =>
 rdT (rdA 4 b32 o33) (.one (.agg [(.int .i64), .str, (.int .i64), .bool])) (fun (r34 : Int) (r35 : ByteArray) (r36 : Int) (r37 : Bool) => K (.tuple ⟨[.agg ⟨[.int .i64 r34, .string r35, .int .i64 r36, .bool r37]⟩, .int .i64 x31]⟩)))))) (fun j20 => idxW path_3 0 (fun c38 => brW (((c38.toNat : Int) : Int) != 47) (callT Tryz.prog 37 [.string cwd_2, .string (⟨⟨[47]⟩⟩ : ByteArray)] kB (fun x39 => brW (!x39)
 (stW Tryz.prog 107 (.pointer (some ⟨b5, 0, none⟩)) (.agg ⟨[.int .i64 0, .string (⟨⟨[]⟩⟩ : ByteArray), .int .i64 0, .bool false]⟩) (rdT (rdA 4 b5 0) (.one (.agg [(.int .i64), .str, (.int .i64), .bool])) (fun (r40 : Int) (r41 : ByteArray) (r42 : Int) (r43 : Bool) => K (.tuple ⟨[.agg ⟨[.int .i64 r40, .string r41, .int .i64 r42, .bool r43]⟩, .int .i64 5]⟩))))
 (callT Tryz.prog 116 [.pointer f_1, .int .i64 x14, .string cwd_2, .bool true, .pointer (some ⟨b15, 0, none⟩)] (.tup [.agg [(.int .i64), .str, (.int .i64), .bool], .sc (.int .i64)]) (fun (x44 : Int) (x45 : ByteArray) (x46 : Int) (x47 : Bool) (x48 : Int) => alW (.cells ⟨[.int .i64 0, .string (⟨⟨[]⟩⟩ : ByteArray), .int .i64 0, .bool false]⟩ 107 (0, 0)) (fun b49 =>
 stW Tryz.prog 107 (.pointer (some ⟨b49, 0, none⟩)) (.agg ⟨[.int .i64 x44, .string x45, .int .i64 x46, .bool x47]⟩) (brW ((x48 : Int) != 0) (stW Tryz.prog 107 (.pointer (some ⟨b5, 0, none⟩)) (.agg ⟨[.int .i64 0, .string (⟨⟨[]⟩⟩ : ByteArray), .int .i64 0, .bool false]⟩) (rdT (rdA 4 b5 0) (.one (.agg [(.int .i64), .str, (.int .i64), .bool])) (fun (r50 : Int) (r51 : ByteArray) (r52 : Int) (r53 : Bool) => K (.tuple ⟨[.agg ⟨[.int .i64 r50, .string r51, .int .i64 r52, .bool r53]⟩, .int .i64 x48]⟩))))
 (rdT (rdC b49 3) kB (fun x54 => brW (!x54) (stW Tryz.prog 107 (.pointer (some ⟨b5, 0, none⟩)) (.agg ⟨[.int .i64 0, .string (⟨⟨[]⟩⟩ : ByteArray), .int .i64 0, .bool false]⟩) (rdT (rdA 4 b5 0) (.one (.agg [(.int .i64), .str, (.int .i64), .bool])) (fun (r55 : Int) (r56 : ByteArray) (r57 : Int) (r58 : Bool) => K (.tuple ⟨[.agg ⟨[.int .i64 r55, .string r56, .int .i64 r57, .bool r58]⟩, .int .i64 5]⟩)))) (rdT (rdC b49 2) kI (fun (x59 : Int) =>
 callT Tryz.prog 117 [.pointer f_1, .int .i64 x59] kI (fun (x60 : Int) => brW ((x60 : Int) != 2) (stW Tryz.prog 107 (.pointer (some ⟨b5, 0, none⟩)) (.agg ⟨[.int .i64 0, .string (⟨⟨[]⟩⟩ : ByteArray), .int .i64 0, .bool false]⟩) (rdT (rdA 4 b5 0) (.one (.agg [(.int .i64), .str, (.int .i64), .bool])) (fun (r61 : Int) (r62 : ByteArray) (r63 : Int) (r64 : Bool) => K (.tuple ⟨[.agg ⟨[.int .i64 r61, .string r62, .int .i64 r63, .bool r64]⟩, .int .i64 8]⟩)))) (rdT (rdC b49 2) kI (fun (x65 : Int) =>
 stW Tryz.prog 3 (.pointer (some ⟨b15, 0, none⟩)) (.int .i64 8) (j20 f_1 path_3 follow_4 (some ⟨b5, 0, none⟩) x65 (some ⟨b15, 0, none⟩))))))))))))))) (j20 f_1 path_3 follow_4 (some ⟨b5, 0, none⟩) x14 (some ⟨b15, 0, none⟩)))))))))))))
theorem e68 (f_1 : Option Addr) (cwd_2 : ByteArray) (path_3 : ByteArray) (follow_4 : Bool) (K : KH) : bodyF Tryz.prog tau Tryz.f68 an68 [.pointer f_1, .string cwd_2, .string path_3, .bool follow_4] K = g68 f_1 cwd_2 path_3 follow_4 K := by kernel_rfl
theorem c68 (f_1 : Option Addr) (cwd_2 : ByteArray) (path_3 : ByteArray) (follow_4 : Bool) {K : KH} {σ : H} (h : g68 f_1 cwd_2 path_3 follow_4 K σ) : callW Tryz.prog 68 [.pointer f_1, .string cwd_2, .string path_3, .bool follow_4] K σ := call_of_body mixed Tryz.func68 (by rw [e68]; exact h)


def an69 : Ann := (.q (.q (.n (.n (.reg [0,1,2,3,5,7,8,4,6,9,10,11,12,13,14,15] [[],[0],[],[],[2,3],[],[2,3,4,5],[],[],[],[],[2,3,4,5,6,8,9,10],[],(rn 13),(rn 14),(rn 15)]) (.q (.h))) (.q (.q (.seq (some [(1,.i),(2,.s),(6,.p),(11,.p),(16,.p)]) (.q (.cond .r .z)) (.n (.reg (rn 10) [[],[0],[0,1],[0,1,2],[],[4],[4,5],[4,5,6],[],(rn 9)]) (.n (.reg (rn 15) [[],[0],[0,1],[0,1,2],[],(rn 5),(rn 6),(rn 7),(rn 8),[],[],[10],[10,11],[10,11,12],(rn 14)]) (.q (.n (.reg (rn 12) [[],[0],[0,1],[0,1,2],(rn 4),[],[5],(rn 7),(rn 8),(rn 9),(rn 10),(rn 11)]) (.q .z)))))))))))
def g69 (t_1 : Option Addr) (dir_2 : Int) (name_3 : ByteArray) (kind_4 : Int) (mode_5 : Int) (data_6 : ByteArray) (K : KH) : H -> Prop :=
 alW (.cells ⟨[.pointer t_1]⟩ 92 (0, 0)) (fun b7 => alW (.cells ⟨[.int .i64 kind_4]⟩ 3 (0, 0)) (fun b8 => alW (.cells ⟨[.int .i64 mode_5]⟩ 3 (0, 0)) (fun b9 => alW (.cells ⟨[.string data_6]⟩ 9 (0, 0)) (fun b10 => rdT (rdC b7 0) kP (fun x11 => rdT (rdC b7 0) kP (fun x12 => rdT (rdC b7 0) kP (fun x13 => callT Tryz.prog 122 [.pointer x12, .int .i64 dir_2] kR (fun x14 => andW (fun σ => (rdC b7 0) σ = some (.pointer x13)) (andW (fun σ => (rdC b7 0) σ = some (.pointer x11))
 (callT Tryz.prog 123 [.string name_3] kR (fun x15 => andW (fun σ => (rdC b7 0) σ = some (.pointer x13)) (andW (fun σ => (rdC b7 0) σ = some (.pointer x11)) (callT Tryz.prog 124 [.pointer x13, .int .i64 dir_2, .string name_3] kR (fun x16 => andW (fun σ => (rdC b7 0) σ = some (.pointer x11)) (oneK x14 (oneK x15 (oneK x16
 (alW (.cells ⟨[.func (.func 121) ⟨[.pointer x11]⟩ ⟨[]⟩, x14, x15, .func (.func 118) ⟨[]⟩ ⟨[.pointer (some ⟨b10, 0, none⟩), .pointer (some ⟨b8, 0, none⟩), .pointer (some ⟨b9, 0, none⟩)]⟩, x16, .func (.func 125) ⟨[]⟩ ⟨[.pointer (some ⟨b7, 0, none⟩), .pointer (some ⟨b10, 0, none⟩)]⟩]⟩ 172 (0, 0)) (fun b17 => callT Tryz.prog 120 [.slice (some ⟨b17, 0, none⟩) 6 6] kI (fun (x18 : Int) => brW ((x18 : Int) != 0) (K (.tuple ⟨[.int .i64 0, .int .i64 x18]⟩)) (rdT (rdC b7 0) kP (fun x19 =>
 ptrW x19 (fun b20 o21 => rdT (rdC b20 (o21 + 5)) kI (fun (x22 : Int) => ptrW x19 (fun b23 o24 => stW Tryz.prog 3 (.pointer (some ⟨b23, o24 + 5, none⟩)) (.int .i64 (IntKind.i64.wrap (x22 + 1))) (rdT (rdC b8 0) kI (fun (x25 : Int) => rdT (rdC b9 0) kI (fun (x26 : Int) => rdT (rdC b10 0) kS (fun (x27 : ByteArray) => alW (.cells ⟨[.int .i64 x25, .int .i64 x26, .string x27, .int .i64 1, .int .i64 0, .map none]⟩ 167 (0, 0)) (fun b28 =>
 letJ (T := Int -> ByteArray -> Option Addr -> Option Addr -> Option Addr -> H -> Prop) (fun dir_30 name_31 t_32 data_33 n_34 => ptrW t_32 (fun b35 o36 => rdT (rdC b35 o36) kP (fun x37 => ptrW x37 (fun b38 o39 => rdT (rdC b38 (o39 + 4)) kM (fun (x40 : Option Nat) => ptrW t_32 (fun b41 o42 => rdT (rdC b41 o42) kP (fun x43 => ptrW x43 (fun b44 o45 => rdT (rdC b44 (o45 + 5)) kI (fun (x46 : Int) => muW Tryz.prog 161 (.map x40) (.int .i64 x46) (.pointer n_34) (ptrW t_32 (fun b47 o48 =>
 rdT (rdC b47 o48) kP (fun x49 => ptrW x49 (fun b50 o51 => rdT (rdC b50 (o51 + 4)) kM (fun (x52 : Option Nat) => rdT (rdM (.int .i64) (.pointer none) false x52 (.int .i64 dir_30)) kP (fun x53 => ptrW x53 (fun b54 o55 => rdT (rdC b54 (o55 + 5)) kM (fun (x56 : Option Nat) => ptrW t_32 (fun b57 o58 => rdT (rdC b57 o58) kP (fun x59 => ptrW x59 (fun b60 o61 => rdT (rdC b60 (o61 + 5)) kI (fun (x62 : Int) => muW Tryz.prog 165 (.map x56) (.string name_31) (.int .i64 x62) (ptrW t_32 (fun b63 o64 =>
 rdT (rdC b63 o64) kP (fun x65 => ptrW x65 (fun b66 o67 => rdT (rdC b66 (o67 + 2)) kI (fun (x68 : Int) => ptrW x65 (fun b69 o70 => stW Tryz.prog 3 (.pointer (some ⟨b69, o70 + 2, none⟩)) (.int .i64 (IntKind.i64.wrap (x68 + 1))) (ptrW t_32 (fun b71 o72 => rdT (rdC b71 o72) kP (fun x73 => ptrW x73 (fun b74 o75 => rdT (rdC b74 (o75 + 3)) kI (fun (x76 : Int) => ptrW data_33 (fun b77 o78 => rdT (rdC b77 o78) kS (fun (x79 : ByteArray) => ptrW x73 (fun b80 o81 =>
 stW Tryz.prog 3 (.pointer (some ⟨b80, o81 + 3, none⟩)) (.int .i64 (IntKind.i64.wrap (x76 + ((x79.size : Nat) : Int)))) (ptrW t_32 (fun b82 o83 => rdT (rdC b82 o83) kP (fun x84 => ptrW x84 (fun b85 o86 => rdT (rdC b85 (o86 + 5)) kI (fun (x87 : Int) => K (.tuple ⟨[.int .i64 x87, .int .i64 0]⟩))))))))))))))))))))))))))))))))))))))))) (fun j29 => rdT (rdC b8 0) kI (fun (x88 : Int) => brW ((x88 : Int) == 2) (alW (.map #[] 0) (fun b89 =>
 stW Tryz.prog 3 (.pointer (some ⟨b28, 4, none⟩)) (.int .i64 dir_2) (stW Tryz.prog 165 (.pointer (some ⟨b28, 5, none⟩)) (.map (some b89)) (j29 dir_2 name_3 (some ⟨b7, 0, none⟩) (some ⟨b10, 0, none⟩) (some ⟨b28, 0, none⟩))))) (j29 dir_2 name_3 (some ⟨b7, 0, none⟩) (some ⟨b10, 0, none⟩) (some ⟨b28, 0, none⟩))))))))))))))))))))))))))))))))))
theorem e69 (t_1 : Option Addr) (dir_2 : Int) (name_3 : ByteArray) (kind_4 : Int) (mode_5 : Int) (data_6 : ByteArray) (K : KH) : bodyF Tryz.prog tau Tryz.f69 an69 [.pointer t_1, .int .i64 dir_2, .string name_3, .int .i64 kind_4, .int .i64 mode_5, .string data_6] K = g69 t_1 dir_2 name_3 kind_4 mode_5 data_6 K := by kernel_rfl
theorem c69 (t_1 : Option Addr) (dir_2 : Int) (name_3 : ByteArray) (kind_4 : Int) (mode_5 : Int) (data_6 : ByteArray) {K : KH} {σ : H} (h : g69 t_1 dir_2 name_3 kind_4 mode_5 data_6 K σ) : callW Tryz.prog 69 [.pointer t_1, .int .i64 dir_2, .string name_3, .int .i64 kind_4, .int .i64 mode_5, .string data_6] K σ := call_of_body mixed Tryz.func69 (by rw [e69]; exact h)


def an70 : Ann := (.q (.q (.n (.q (.h)) (.q .z))))
def g70 (t_1 : Option Addr) (ino_2 : Int) (K : KH) : H -> Prop :=
 alW (.cells ⟨[.int .i64 0, .int .i64 0, .string (⟨⟨[]⟩⟩ : ByteArray), .int .i64 0]⟩ 113 (0, 0)) (fun b3 => callT Tryz.prog 127 [.pointer t_1, .int .i64 ino_2] kP (fun x4 => brW x4.isNone (stW Tryz.prog 113 (.pointer (some ⟨b3, 0, none⟩)) (.agg ⟨[.int .i64 0, .int .i64 0, .string (⟨⟨[]⟩⟩ : ByteArray), .int .i64 0]⟩) (rdT (rdA 4 b3 0) (.one (.agg [(.int .i64), (.int .i64), .str, (.int .i64)])) (fun (r5 : Int) (r6 : Int) (r7 : ByteArray) (r8 : Int) =>
 K (.tuple ⟨[.agg ⟨[.int .i64 r5, .int .i64 r6, .string r7, .int .i64 r8]⟩, .bool false]⟩)))) (ptrW x4 (fun b9 o10 => rdT (rdA 4 b9 o10) (.one (.agg [(.int .i64), (.int .i64), .str, (.int .i64)])) (fun (x11 : Int) (x12 : Int) (x13 : ByteArray) (x14 : Int) =>
 stW Tryz.prog 113 (.pointer (some ⟨b3, 0, none⟩)) (.agg ⟨[.int .i64 x11, .int .i64 x12, .string x13, .int .i64 x14]⟩) (rdT (rdA 4 b3 0) (.one (.agg [(.int .i64), (.int .i64), .str, (.int .i64)])) (fun (r15 : Int) (r16 : Int) (r17 : ByteArray) (r18 : Int) => K (.tuple ⟨[.agg ⟨[.int .i64 r15, .int .i64 r16, .string r17, .int .i64 r18]⟩, .bool true]⟩))))))))
theorem e70 (t_1 : Option Addr) (ino_2 : Int) (K : KH) : bodyF Tryz.prog tau Tryz.f70 an70 [.pointer t_1, .int .i64 ino_2] K = g70 t_1 ino_2 K := by kernel_rfl
theorem c70 (t_1 : Option Addr) (ino_2 : Int) {K : KH} {σ : H} (h : g70 t_1 ino_2 K σ) : callW Tryz.prog 70 [.pointer t_1, .int .i64 ino_2] K σ := call_of_body mixed Tryz.func70 (by rw [e70]; exact h)


def an71 : Ann := (.q (.q (.n (.n (.reg (rn 9) [[],[0],[],[],[2,3],[],(rn 6),(rn 7),(rn 8)]) (.q (.h))) (.n (.reg (rn 7) [[],[0],[0,1],[0,1,2],[],(rn 5),(rn 6)]) (.n (.reg (rn 19) [[],[0],[0,1],[0,1,2],(rn 4),[],[5],[],[7],[7,8],[7,8,9],[7,8,9,10],[7,8,9,10,11],[5,6,7,8,9,10,11,12],(rn 14),(rn 15),(rn 16),(rn 17),(rn 18)]) (.q (.q .z)))))))
def g71 (t_1 : Option Addr) (ino_2 : Int) (data_3 : ByteArray) (K : KH) : H -> Prop :=
 alW (.cells ⟨[.pointer t_1]⟩ 92 (0, 0)) (fun b4 => alW (.cells ⟨[.int .i64 ino_2]⟩ 3 (0, 0)) (fun b5 => alW (.cells ⟨[.string data_3]⟩ 9 (0, 0)) (fun b6 => rdT (rdC b4 0) kP (fun x7 => rdT (rdC b4 0) kP (fun x8 => rdT (rdC b5 0) kI (fun (x9 : Int) => callT Tryz.prog 129 [.pointer x8, .int .i64 x9] kR (fun x10 => andW (fun σ => (rdC b4 0) σ = some (.pointer x7)) (oneK x10
 (alW (.cells ⟨[.func (.func 121) ⟨[.pointer x7]⟩ ⟨[]⟩, x10, .func (.func 128) ⟨[]⟩ ⟨[.pointer (some ⟨b4, 0, none⟩), .pointer (some ⟨b6, 0, none⟩), .pointer (some ⟨b5, 0, none⟩)]⟩]⟩ 172 (0, 0)) (fun b11 => callT Tryz.prog 120 [.slice (some ⟨b11, 0, none⟩) 3 3] kI (fun (x12 : Int) => brW ((x12 : Int) != 0) (K (.int .i64 x12)) (rdT (rdC b4 0) kP (fun x13 => ptrW x13 (fun b14 o15 => rdT (rdC b14 (o15 + 4)) kM (fun (x16 : Option Nat) => rdT (rdC b5 0) kI (fun (x17 : Int) =>
 rdT (rdM (.int .i64) (.pointer none) false x16 (.int .i64 x17)) kP (fun x18 => rdT (rdC b4 0) kP (fun x19 => ptrW x19 (fun b20 o21 => rdT (rdC b20 (o21 + 3)) kI (fun (x22 : Int) => rdT (rdC b6 0) kS (fun (x23 : ByteArray) => ptrW x18 (fun b24 o25 => rdT (rdC b24 (o25 + 2)) kS (fun (x26 : ByteArray) => ptrW x19 (fun b27 o28 =>
 stW Tryz.prog 3 (.pointer (some ⟨b27, o28 + 3, none⟩)) (.int .i64 (IntKind.i64.wrap (x22 + (IntKind.i64.wrap (((x23.size : Nat) : Int) - ((x26.size : Nat) : Int)))))) (rdT (rdC b6 0) kS (fun (x29 : ByteArray) => ptrW x18 (fun b30 o31 => stW Tryz.prog 9 (.pointer (some ⟨b30, o31 + 2, none⟩)) (.string x29) (K (.int .i64 0)))))))))))))))))))))))))))))
theorem e71 (t_1 : Option Addr) (ino_2 : Int) (data_3 : ByteArray) (K : KH) : bodyF Tryz.prog tau Tryz.f71 an71 [.pointer t_1, .int .i64 ino_2, .string data_3] K = g71 t_1 ino_2 data_3 K := by kernel_rfl
theorem c71 (t_1 : Option Addr) (ino_2 : Int) (data_3 : ByteArray) {K : KH} {σ : H} (h : g71 t_1 ino_2 data_3 K σ) : callW Tryz.prog 71 [.pointer t_1, .int .i64 ino_2, .string data_3] K σ := call_of_body mixed Tryz.func71 (by rw [e71]; exact h)


def an72 : Ann := (.q (.q (.n (.q (.h)) (.n (.reg (rn 13) [[],[0],[0,1],[0,1,2],[],[4],(rn 6),(rn 7),(rn 8),(rn 8),[],[0,1,2,3,4,5,6,7,8,10],(rn 12)]) (.n (.seq (some [(4,.w),(11,.p),(13,.p),(42,.b)]) .r (.h)) (.q .z))))))
def g72 (f_1 : Option Addr) (cwd_2 : ByteArray) (path_3 : ByteArray) (follow_4 : Bool) (do_5 : Value) (K : KH) : H -> Prop :=
 callT Tryz.prog 68 [.pointer f_1, .string cwd_2, .string path_3, .bool follow_4] (.tup [.agg [(.int .i64), .str, (.int .i64), .bool], .sc (.int .i64)]) (fun (x6 : Int) (x7 : ByteArray) (x8 : Int) (x9 : Bool) (x10 : Int) => alW (.cells ⟨[.int .i64 0, .string (⟨⟨[]⟩⟩ : ByteArray), .int .i64 0, .bool false]⟩ 107 (0, 0)) (fun b11 => stW Tryz.prog 107 (.pointer (some ⟨b11, 0, none⟩)) (.agg ⟨[.int .i64 x6, .string x7, .int .i64 x8, .bool x9]⟩) (brW ((x10 : Int) != 0) (K (.int .i64 x10))
 (ptrW f_1 (fun b12 o13 => rdT (rdC b12 o13) kP (fun x14 => rdT (rdC b11 2) kI (fun (x15 : Int) => callT Tryz.prog 70 [.pointer x14, .int .i64 x15] (.tup [.agg [(.int .i64), (.int .i64), .str, (.int .i64)], .sc .bool]) (fun (x16 : Int) (x17 : Int) (x18 : ByteArray) (x19 : Int) (x20 : Bool) => alW (.cells ⟨[.int .i64 0, .int .i64 0, .string (⟨⟨[]⟩⟩ : ByteArray), .int .i64 0]⟩ 113 (0, 0)) (fun b21 =>
 stW Tryz.prog 113 (.pointer (some ⟨b21, 0, none⟩)) (.agg ⟨[.int .i64 x16, .int .i64 x17, .string x18, .int .i64 x19]⟩) (letJ (T := Value -> Option Addr -> Option Addr -> Bool -> H -> Prop) (fun do_23 p_24 n_25 x26 => brW x26 (K (.int .i64 5)) (ptrW p_24 (fun b27 o28 => rdT (rdC b27 (o28 + 2)) kI (fun (x29 : Int) => ptrW n_25 (fun b30 o31 => rdT (rdA 4 b30 o31) (.one (.agg [(.int .i64), (.int .i64), .str, (.int .i64)])) (fun (x32 : Int) (x33 : Int) (x34 : ByteArray) (x35 : Int) =>
 cvalT Tryz.prog do_23 [.int .i64 x29, .agg ⟨[.int .i64 x32, .int .i64 x33, .string x34, .int .i64 x35]⟩] kI (fun (x36 : Int) => K (.int .i64 x36)))))))) (fun j22 => rdT (rdC b11 3) kB (fun x37 => brW (!x37) (j22 do_5 (some ⟨b11, 0, none⟩) (some ⟨b21, 0, none⟩) true) (j22 do_5 (some ⟨b11, 0, none⟩) (some ⟨b21, 0, none⟩) (!x20))))))))))))))
theorem e72 (f_1 : Option Addr) (cwd_2 : ByteArray) (path_3 : ByteArray) (follow_4 : Bool) (do_5 : Value) (K : KH) : bodyF Tryz.prog tau Tryz.f72 an72 [.pointer f_1, .string cwd_2, .string path_3, .bool follow_4, do_5] K = g72 f_1 cwd_2 path_3 follow_4 do_5 K := by kernel_rfl
theorem c72 (f_1 : Option Addr) (cwd_2 : ByteArray) (path_3 : ByteArray) (follow_4 : Bool) (do_5 : Value) {K : KH} {σ : H} (h : g72 f_1 cwd_2 path_3 follow_4 do_5 K σ) : callW Tryz.prog 72 [.pointer f_1, .string cwd_2, .string path_3, .bool follow_4, do_5] K σ := call_of_body mixed Tryz.func72 (by rw [e72]; exact h)


def an73 : Ann := (.q (.n (.reg (rn 8) [[],[0],[0,1],[0,1,2],[],[],(rn 6),(rn 7)]) .z))
def g73 (ino_1 : Int) (__2 : Int) (__3 : Int) (__4 : ByteArray) (__5 : Int) (x6 : Option Addr) (x7 : Option Addr) (K : KH) : H -> Prop :=
 alW (.cells ⟨[.int .i64 __2, .int .i64 __3, .string __4, .int .i64 __5]⟩ 113 (0, 0)) (fun _b8 => ptrW x6 (fun b9 o10 => rdT (rdC b9 o10) kP (fun x11 => ptrW x11 (fun b12 o13 => rdT (rdC b12 o13) kP (fun x14 => ptrW x7 (fun b15 o16 => rdT (rdC b15 o16) kI (fun (x17 : Int) => callT Tryz.prog 74 [.pointer x14, .int .i64 ino_1, .int .i64 x17] kI (fun (x18 : Int) => K (.int .i64 x18)))))))))
theorem e73 (ino_1 : Int) (__2 : Int) (__3 : Int) (__4 : ByteArray) (__5 : Int) (x6 : Option Addr) (x7 : Option Addr) (K : KH) : bodyF Tryz.prog tau Tryz.f73 an73 [.int .i64 ino_1, .agg ⟨[.int .i64 __2, .int .i64 __3, .string __4, .int .i64 __5]⟩, .pointer x6, .pointer x7] K = g73 ino_1 __2 __3 __4 __5 x6 x7 K := by kernel_rfl
theorem c73 (ino_1 : Int) (__2 : Int) (__3 : Int) (__4 : ByteArray) (__5 : Int) (x6 : Option Addr) (x7 : Option Addr) {K : KH} {σ : H} (h : g73 ino_1 __2 __3 __4 __5 x6 x7 K σ) : callW Tryz.prog 73 [.int .i64 ino_1, .agg ⟨[.int .i64 __2, .int .i64 __3, .string __4, .int .i64 __5]⟩, .pointer x6, .pointer x7] K σ := call_of_body mixed Tryz.func73 (by rw [e73]; exact h)


def an74 : Ann := (.q (.q (.q (.n (.q (.q (.h))) (.n (.reg (rn 11) [[],[0],[0,1],[0,1,2],[],(rn 5),[],(rn 7),(rn 8),(rn 9),(rn 10)]) (.q .z))))))
def g74 (t_1 : Option Addr) (ino_2 : Int) (mode_3 : Int) (K : KH) : H -> Prop :=
 alW (.cells ⟨[.pointer t_1]⟩ 92 (0, 0)) (fun b4 => alW (.cells ⟨[.int .i64 ino_2]⟩ 3 (0, 0)) (fun b5 => alW (.cells ⟨[.int .i64 mode_3]⟩ 3 (0, 0)) (fun b6 => rdT (rdC b4 0) kP (fun x7 => alW (.cells ⟨[.func (.func 121) ⟨[.pointer x7]⟩ ⟨[]⟩, .func (.func 130) ⟨[]⟩ ⟨[.pointer (some ⟨b6, 0, none⟩)]⟩, .func (.func 131) ⟨[]⟩ ⟨[.pointer (some ⟨b4, 0, none⟩), .pointer (some ⟨b5, 0, none⟩)]⟩]⟩ 172 (0, 0)) (fun b8 => callT Tryz.prog 120 [.slice (some ⟨b8, 0, none⟩) 3 3] kI (fun (x9 : Int) =>
 brW ((x9 : Int) != 0) (K (.int .i64 x9)) (rdT (rdC b4 0) kP (fun x10 => ptrW x10 (fun b11 o12 => rdT (rdC b11 (o12 + 4)) kM (fun (x13 : Option Nat) => rdT (rdC b5 0) kI (fun (x14 : Int) => rdT (rdM (.int .i64) (.pointer none) false x13 (.int .i64 x14)) kP (fun x15 => rdT (rdC b6 0) kI (fun (x16 : Int) => ptrW x15 (fun b17 o18 => stW Tryz.prog 3 (.pointer (some ⟨b17, o18 + 1, none⟩)) (.int .i64 x16) (K (.int .i64 0))))))))))))))))
theorem e74 (t_1 : Option Addr) (ino_2 : Int) (mode_3 : Int) (K : KH) : bodyF Tryz.prog tau Tryz.f74 an74 [.pointer t_1, .int .i64 ino_2, .int .i64 mode_3] K = g74 t_1 ino_2 mode_3 K := by kernel_rfl
theorem c74 (t_1 : Option Addr) (ino_2 : Int) (mode_3 : Int) {K : KH} {σ : H} (h : g74 t_1 ino_2 mode_3 K σ) : callW Tryz.prog 74 [.pointer t_1, .int .i64 ino_2, .int .i64 mode_3] K σ := call_of_body mixed Tryz.func74 (by rw [e74]; exact h)


def an75 : Ann := (.q (.q (.n (.blk (.q (.cond (.q .z) (.q (.h))))) (.q .z))))
def g75 (f_1 : Option Addr) (cwd_2 : ByteArray) (path_3 : ByteArray) (do_4 : Value) (K : KH) : H -> Prop :=
 callT Tryz.prog 68 [.pointer f_1, .string cwd_2, .string path_3, .bool false] (.tup [.agg [(.int .i64), .str, (.int .i64), .bool], .sc (.int .i64)]) (fun (x5 : Int) (x6 : ByteArray) (x7 : Int) (x8 : Bool) (x9 : Int) => alW (.cells ⟨[.int .i64 0, .string (⟨⟨[]⟩⟩ : ByteArray), .int .i64 0, .bool false]⟩ 107 (0, 0)) (fun b10 => stW Tryz.prog 107 (.pointer (some ⟨b10, 0, none⟩)) (.agg ⟨[.int .i64 x5, .string x6, .int .i64 x7, .bool x8]⟩) (brW ((x9 : Int) != 0) (K (.int .i64 x9))
 (rdT (rdC b10 3) kB (fun x11 => brW x11 (K (.int .i64 6)) (rdT (rdA 4 b10 0) (.one (.agg [(.int .i64), .str, (.int .i64), .bool])) (fun (x12 : Int) (x13 : ByteArray) (x14 : Int) (x15 : Bool) => cvalT Tryz.prog do_4 [.agg ⟨[.int .i64 x12, .string x13, .int .i64 x14, .bool x15]⟩] kI (fun (x16 : Int) => K (.int .i64 x16)))))))))
theorem e75 (f_1 : Option Addr) (cwd_2 : ByteArray) (path_3 : ByteArray) (do_4 : Value) (K : KH) : bodyF Tryz.prog tau Tryz.f75 an75 [.pointer f_1, .string cwd_2, .string path_3, do_4] K = g75 f_1 cwd_2 path_3 do_4 K := by kernel_rfl
theorem c75 (f_1 : Option Addr) (cwd_2 : ByteArray) (path_3 : ByteArray) (do_4 : Value) {K : KH} {σ : H} (h : g75 f_1 cwd_2 path_3 do_4 K σ) : callW Tryz.prog 75 [.pointer f_1, .string cwd_2, .string path_3, do_4] K σ := call_of_body mixed Tryz.func75 (by rw [e75]; exact h)


def an76 : Ann := (.q (.n (.q (.h)) (.n (.reg (rn 14) [[],[0],[0,1],[0,1,2],[],[4],[],[6],(rn 8),(rn 9),(rn 10),(rn 10),(rn 11),(rn 13)]) (.q .z))))
def g76 (p_1 : Int) (p_2 : ByteArray) (p_3 : Int) (p_4 : Bool) (x5 : Option Addr) (K : KH) : H -> Prop :=
 alW (.cells ⟨[.int .i64 p_1, .string p_2, .int .i64 p_3, .bool p_4]⟩ 107 (0, 0)) (fun b6 => ptrW x5 (fun b7 o8 => rdT (rdC b7 o8) kP (fun x9 => rdT (rdC b6 0) kI (fun (x10 : Int) => callT Tryz.prog 77 [.pointer x9, .int .i64 x10] kI (fun (x11 : Int) => brW (decide ((x11 : Int) >= 12)) (K (.int .i64 3)) (ptrW x5 (fun b12 o13 => rdT (rdC b12 o13) kP (fun x14 => ptrW x14 (fun b15 o16 => rdT (rdC b15 o16) kP (fun x17 => rdT (rdC b6 0) kI (fun (x18 : Int) =>
 rdT (rdC b6 1) kS (fun (x19 : ByteArray) => callT Tryz.prog 69 [.pointer x17, .int .i64 x18, .string x19, .int .i64 2, .int .i64 493, .string (⟨⟨[]⟩⟩ : ByteArray)] (.tup [.sc (.int .i64), .sc (.int .i64)]) (fun (_x20 : Int) (x21 : Int) => K (.int .i64 x21))))))))))))))
theorem e76 (p_1 : Int) (p_2 : ByteArray) (p_3 : Int) (p_4 : Bool) (x5 : Option Addr) (K : KH) : bodyF Tryz.prog tau Tryz.f76 an76 [.agg ⟨[.int .i64 p_1, .string p_2, .int .i64 p_3, .bool p_4]⟩, .pointer x5] K = g76 p_1 p_2 p_3 p_4 x5 K := by kernel_rfl
theorem c76 (p_1 : Int) (p_2 : ByteArray) (p_3 : Int) (p_4 : Bool) (x5 : Option Addr) {K : KH} {σ : H} (h : g76 p_1 p_2 p_3 p_4 x5 K σ) : callW Tryz.prog 76 [.agg ⟨[.int .i64 p_1, .string p_2, .int .i64 p_3, .bool p_4]⟩, .pointer x5] K σ := call_of_body mixed Tryz.func76 (by rw [e76]; exact h)


def an77 : Ann := (.q (.q (.n (.blk (.loop [(0,.p),(1,.i),(5,.i)] (.n (.q (.cond .z .z)) (.n (.blk .r) .r)))) (.q .z))))
def g77 (f_1 : Option Addr) (dir_2 : Int) (K : KH) : H -> Prop :=
 loopW [.sc .ptr, .sc (.int .i64), .sc (.int .i64)] (fun (R3 : Option Addr -> Int -> Int -> H -> Prop) => (fun (f_4 : Option Addr) (dir_5 : Int) (n_6 : Int) => ptrW f_4 (fun b7 o8 => rdT (rdC b7 o8) kP (fun x9 => callT Tryz.prog 115 [.pointer x9] kI (fun (x10 : Int) => brW ((dir_5 : Int) != x10) (ptrW f_4 (fun b11 o12 => rdT (rdC b11 o12) kP (fun x13 => callT Tryz.prog 132 [.pointer x13, .int .i64 dir_5] kI (fun (x14 : Int) => R3 f_4 x14 (IntKind.i64.wrap (n_6 + 1))))))
 (K (.int .i64 n_6))))))) (fun (R15 : Option Addr -> Int -> Int -> H -> Prop) => R15 f_1 dir_2 1)
theorem e77 (f_1 : Option Addr) (dir_2 : Int) (K : KH) : bodyF Tryz.prog tau Tryz.f77 an77 [.pointer f_1, .int .i64 dir_2] K = g77 f_1 dir_2 K := by kernel_rfl
theorem c77 (f_1 : Option Addr) (dir_2 : Int) {K : KH} {σ : H} (h : g77 f_1 dir_2 K σ) : callW Tryz.prog 77 [.pointer f_1, .int .i64 dir_2] K σ := call_of_body mixed Tryz.func77 (by rw [e77]; exact h)


def an78 : Ann := (.q (.q .z))
def g78 (s_1 : ByteArray) (c_2 : Int) (K : KH) : H -> Prop :=
 callT Tryz.prog 133 [.string s_1, .int .u8 c_2] kI (fun (x3 : Int) => K (.int .i64 x3))
theorem e78 (s_1 : ByteArray) (c_2 : Int) (K : KH) : bodyF Tryz.prog tau Tryz.f78 an78 [.string s_1, .int .u8 c_2] K = g78 s_1 c_2 K := by kernel_rfl
theorem c78 (s_1 : ByteArray) (c_2 : Int) {K : KH} {σ : H} (h : g78 s_1 c_2 K σ) : callW Tryz.prog 78 [.string s_1, .int .u8 c_2] K σ := call_of_body mixed Tryz.func78 (by rw [e78]; exact h)


def an79 : Ann := (.q (.n (.reg (rn 15) [[],[0],[0,1],[0,1,2],[],[4],[],[6],[],(rn 9),(rn 10),(rn 11),(rn 11),(rn 12),(rn 14)]) (.q .z)))
def g79 (p_1 : Int) (p_2 : ByteArray) (p_3 : Int) (p_4 : Bool) (x5 : Option Addr) (x6 : Option Addr) (K : KH) : H -> Prop :=
 alW (.cells ⟨[.int .i64 p_1, .string p_2, .int .i64 p_3, .bool p_4]⟩ 107 (0, 0)) (fun b7 => ptrW x5 (fun b8 o9 => rdT (rdC b8 o9) kP (fun x10 => ptrW x10 (fun b11 o12 => rdT (rdC b11 o12) kP (fun x13 => rdT (rdC b7 0) kI (fun (x14 : Int) => rdT (rdC b7 1) kS (fun (x15 : ByteArray) => ptrW x6 (fun b16 o17 => rdT (rdC b16 o17) kS (fun (x18 : ByteArray) =>
 callT Tryz.prog 69 [.pointer x13, .int .i64 x14, .string x15, .int .i64 3, .int .i64 511, .string x18] (.tup [.sc (.int .i64), .sc (.int .i64)]) (fun (_x19 : Int) (x20 : Int) => K (.int .i64 x20)))))))))))
theorem e79 (p_1 : Int) (p_2 : ByteArray) (p_3 : Int) (p_4 : Bool) (x5 : Option Addr) (x6 : Option Addr) (K : KH) : bodyF Tryz.prog tau Tryz.f79 an79 [.agg ⟨[.int .i64 p_1, .string p_2, .int .i64 p_3, .bool p_4]⟩, .pointer x5, .pointer x6] K = g79 p_1 p_2 p_3 p_4 x5 x6 K := by kernel_rfl
theorem c79 (p_1 : Int) (p_2 : ByteArray) (p_3 : Int) (p_4 : Bool) (x5 : Option Addr) (x6 : Option Addr) {K : KH} {σ : H} (h : g79 p_1 p_2 p_3 p_4 x5 x6 K σ) : callW Tryz.prog 79 [.agg ⟨[.int .i64 p_1, .string p_2, .int .i64 p_3, .bool p_4]⟩, .pointer x5, .pointer x6] K σ := call_of_body mixed Tryz.func79 (by rw [e79]; exact h)


def an80 : Ann := (.q (.q (.q (.seq (some [(0,.p),(2,.s),(3,.b),(8,.p),(10,.i),(11,.p)]) (.seq (some [(0,.p),(1,.s),(2,.s),(3,.b),(8,.p),(10,.i),(11,.p),(20,.b)]) .r (.cond (.n (.q (.h)) (.n (.seq (some [(0,.p),(1,.s),(2,.s),(3,.b),(8,.p),(11,.p),(30,.b)]) .r (.h)) (.q (.n (.q (.h)) (.n (.q (.h)) (.n (.n (.reg (rn 12) [[],[0],[0,1],[0,1,2],[],[4],(rn 6),(rn 7),(rn 8),(rn 9),(rn 10),(rn 11)]) (.h)) (.q .r))))))) .z)) (.q .z)))))
def g80 (f_1 : Option Addr) (cwd_2 : ByteArray) (path_3 : ByteArray) (follow_4 : Bool) (K : KH) : H -> Prop :=
 alW (.cells ⟨[.int .i64 0, .string (⟨⟨[]⟩⟩ : ByteArray), .int .i64 0]⟩ 125 (0, 0)) (fun b5 => alW (.cells ⟨[.int .i64 0]⟩ 3 (0, 0)) (fun b6 => stW Tryz.prog 3 (.pointer (some ⟨b6, 0, none⟩)) (.int .i64 8) (letJ (T := Option Addr -> ByteArray -> Bool -> Option Addr -> Int -> Option Addr -> H -> Prop) (fun f_8 path_9 follow_10 x11 at_12 hops_13 =>
 callT Tryz.prog 134 [.pointer f_8, .int .i64 at_12, .string path_9, .bool follow_10, .pointer hops_13] (.tup [.agg [(.int .i64), .str, (.int .i64)], .sc (.int .i64)]) (fun (x14 : Int) (x15 : ByteArray) (x16 : Int) (x17 : Int) => stW Tryz.prog 125 (.pointer x11) (.agg ⟨[.int .i64 x14, .string x15, .int .i64 x16]⟩) (ptrW x11 (fun b18 o19 => rdT (rdA 3 b18 o19) (.one (.agg [(.int .i64), .str, (.int .i64)])) (fun (r20 : Int) (r21 : ByteArray) (r22 : Int) =>
 K (.tuple ⟨[.agg ⟨[.int .i64 r20, .string r21, .int .i64 r22]⟩, .int .i64 x17]⟩)))))) (fun j7 => letJ (T := Option Addr -> ByteArray -> ByteArray -> Bool -> Option Addr -> Int -> Option Addr -> Bool -> H -> Prop) (fun f_24 cwd_25 path_26 follow_27 x28 at_29 hops_30 x31 => brW x31 (brW (strEq path_26 (⟨⟨[]⟩⟩ : ByteArray)) (stW Tryz.prog 125 (.pointer x28) (.agg ⟨[.int .i64 0, .string (⟨⟨[]⟩⟩ : ByteArray), .int .i64 0]⟩) (ptrW x28 (fun b32 o33 =>
 rdT (rdA 3 b32 o33) (.one (.agg [(.int .i64), .str, (.int .i64)])) (fun (r34 : Int) (r35 : ByteArray) (r36 : Int) => K (.tuple ⟨[.agg ⟨[.int .i64 r34, .string r35, .int .i64 r36]⟩, .int .i64 5]⟩))))) (letJ (T := Option Addr -> ByteArray -> ByteArray -> Bool -> Option Addr -> Option Addr -> Bool -> H -> Prop) (fun f_38 cwd_39 path_40 follow_41 x42 hops_43 x44 => brW x44 (stW Tryz.prog 125 (.pointer x42) (.agg ⟨[.int .i64 0, .string (⟨⟨[]⟩⟩ : ByteArray), .int .i64 0]⟩) (ptrW x42 (fun b45 o46 =>
 rdT (rdA 3 b45 o46) (.one (.agg [(.int .i64), .str, (.int .i64)])) (fun (r47 : Int) (r48 : ByteArray) (r49 : Int) => K (.tuple ⟨[.agg ⟨[.int .i64 r47, .string r48, .int .i64 r49]⟩, .int .i64 5]⟩))))) (callT Tryz.prog 134 [.pointer f_38, .int .i64 0, .string cwd_39, .bool true, .pointer hops_43] (.tup [.agg [(.int .i64), .str, (.int .i64)], .sc (.int .i64)]) (fun (x50 : Int) (x51 : ByteArray) (x52 : Int) (x53 : Int) =>
 alW (.cells ⟨[.int .i64 0, .string (⟨⟨[]⟩⟩ : ByteArray), .int .i64 0]⟩ 125 (0, 0)) (fun b54 => stW Tryz.prog 125 (.pointer (some ⟨b54, 0, none⟩)) (.agg ⟨[.int .i64 x50, .string x51, .int .i64 x52]⟩) (brW ((x53 : Int) != 0) (stW Tryz.prog 125 (.pointer x42) (.agg ⟨[.int .i64 0, .string (⟨⟨[]⟩⟩ : ByteArray), .int .i64 0]⟩) (ptrW x42 (fun b55 o56 => rdT (rdA 3 b55 o56) (.one (.agg [(.int .i64), .str, (.int .i64)])) (fun (r57 : Int) (r58 : ByteArray) (r59 : Int) =>
 K (.tuple ⟨[.agg ⟨[.int .i64 r57, .string r58, .int .i64 r59]⟩, .int .i64 x53]⟩))))) (rdT (rdC b54 2) kI (fun (x60 : Int) => brW (decide ((x60 : Int) < 0)) (stW Tryz.prog 125 (.pointer x42) (.agg ⟨[.int .i64 0, .string (⟨⟨[]⟩⟩ : ByteArray), .int .i64 0]⟩) (ptrW x42 (fun b61 o62 => rdT (rdA 3 b61 o62) (.one (.agg [(.int .i64), .str, (.int .i64)])) (fun (r63 : Int) (r64 : ByteArray) (r65 : Int) => K (.tuple ⟨[.agg ⟨[.int .i64 r63, .string r64, .int .i64 r65]⟩, .int .i64 5]⟩)))))
 (ptrW f_38 (fun b66 o67 => rdT (rdC b66 (o67 + 2)) kL (fun x68 => rdT (rdC b54 2) kI (fun (x69 : Int) => ptrW x68.base (fun b70 o71 => ifW (0 <= x69 /\ x69 < ((x68.len : Nat) : Int)) (rdT (rdC b70 (o71 + x69.toNat * 1)) kP (fun x72 => ptrW x72 (fun b73 o74 => rdT (rdC b73 o74) kI (fun (x75 : Int) => brW ((x75 : Int) != 2) (stW Tryz.prog 125 (.pointer x42) (.agg ⟨[.int .i64 0, .string (⟨⟨[]⟩⟩ : ByteArray), .int .i64 0]⟩) (ptrW x42 (fun b76 o77 =>
 rdT (rdA 3 b76 o77) (.one (.agg [(.int .i64), .str, (.int .i64)])) (fun (r78 : Int) (r79 : ByteArray) (r80 : Int) => K (.tuple ⟨[.agg ⟨[.int .i64 r78, .string r79, .int .i64 r80]⟩, .int .i64 8]⟩))))) (rdT (rdC b54 2) kI (fun (x81 : Int) => stW Tryz.prog 3 (.pointer hops_43) (.int .i64 8) (j7 f_38 path_40 follow_41 x42 x81 hops_43))))))))))))))))))) (fun j37 => brW (strEq cwd_25 (⟨⟨[]⟩⟩ : ByteArray)) (j37 f_24 cwd_25 path_26 follow_27 x28 hops_30 true) (idxW cwd_25 0 (fun c82 =>
 j37 f_24 cwd_25 path_26 follow_27 x28 hops_30 (((c82.toNat : Int) : Int) != 47)))))) (j7 f_24 path_26 follow_27 x28 at_29 hops_30)) (fun j23 => brW (strEq path_3 (⟨⟨[]⟩⟩ : ByteArray)) (j23 f_1 cwd_2 path_3 follow_4 (some ⟨b5, 0, none⟩) 0 (some ⟨b6, 0, none⟩) true) (idxW path_3 0 (fun c83 => j23 f_1 cwd_2 path_3 follow_4 (some ⟨b5, 0, none⟩) 0 (some ⟨b6, 0, none⟩) (((c83.toNat : Int) : Int) != 47))))))))
theorem e80 (f_1 : Option Addr) (cwd_2 : ByteArray) (path_3 : ByteArray) (follow_4 : Bool) (K : KH) : bodyF Tryz.prog tau Tryz.f80 an80 [.pointer f_1, .string cwd_2, .string path_3, .bool follow_4] K = g80 f_1 cwd_2 path_3 follow_4 K := by kernel_rfl
theorem c80 (f_1 : Option Addr) (cwd_2 : ByteArray) (path_3 : ByteArray) (follow_4 : Bool) {K : KH} {σ : H} (h : g80 f_1 cwd_2 path_3 follow_4 K σ) : callW Tryz.prog 80 [.pointer f_1, .string cwd_2, .string path_3, .bool follow_4] K σ := call_of_body mixed Tryz.func80 (by rw [e80]; exact h)


def an81 : Ann := (.q (.n (.q (.h)) (.q (.n (.reg (rn 12) [[],[],[1],[],[3],[],[5],[5,6],[5,6,7],[5,6,7,8],[5,6,7,8,9],(rn 11)]) (.q .z)))))
def g81 (f_1 : Option Addr) (p_2 : Int) (p_3 : ByteArray) (p_4 : Int) (kind_5 : Int) (mode_6 : Int) (data_7 : ByteArray) (K : KH) : H -> Prop :=
 alW (.cells ⟨[.int .i64 p_2, .string p_3, .int .i64 p_4]⟩ 125 (0, 0)) (fun b8 => callT Tryz.prog 82 [.pointer f_1, .int .i64 1, .int .i64 ((data_7.size : Nat) : Int)] kB (fun x9 => brW (!x9) (K (.int .i64 10)) (ptrW f_1 (fun b10 o11 => rdT (rdC b10 (o11 + 2)) kL (fun x12 => alW (.cells ⟨[.int .i64 kind_5, .int .i64 mode_6, .string data_7, .slice none 0 0, .int .i64 0]⟩ 101 (0, 0)) (fun b13 => alW (.cells ⟨[.pointer (some ⟨b13, 0, none⟩)]⟩ 98 (0, 0)) (fun b14 =>
 biW Tryz.prog .append #[95, 95] 95 [false, false] [.slice x12.base x12.len x12.cap, .slice (some ⟨b14, 0, none⟩) 1 1] kL (fun x15 => ptrW f_1 (fun b16 o17 => stW Tryz.prog 95 (.pointer (some ⟨b16, o17 + 2, none⟩)) (.slice x15.base x15.len x15.cap) (rdT (rdC b8 0) kI (fun (x18 : Int) => rdT (rdC b8 1) kS (fun (x19 : ByteArray) => ptrW f_1 (fun b20 o21 => rdT (rdC b20 (o21 + 2)) kL (fun x22 =>
 callT Tryz.prog 135 [.pointer f_1, .int .i64 x18, .string x19, .int .i64 (IntKind.i64.wrap (((x22.len : Nat) : Int) - 1))] kU (K (.int .i64 0))))))))))))))))
theorem e81 (f_1 : Option Addr) (p_2 : Int) (p_3 : ByteArray) (p_4 : Int) (kind_5 : Int) (mode_6 : Int) (data_7 : ByteArray) (K : KH) : bodyF Tryz.prog tau Tryz.f81 an81 [.pointer f_1, .agg ⟨[.int .i64 p_2, .string p_3, .int .i64 p_4]⟩, .int .i64 kind_5, .int .i64 mode_6, .string data_7] K = g81 f_1 p_2 p_3 p_4 kind_5 mode_6 data_7 K := by kernel_rfl
theorem c81 (f_1 : Option Addr) (p_2 : Int) (p_3 : ByteArray) (p_4 : Int) (kind_5 : Int) (mode_6 : Int) (data_7 : ByteArray) {K : KH} {σ : H} (h : g81 f_1 p_2 p_3 p_4 kind_5 mode_6 data_7 K σ) : callW Tryz.prog 81 [.pointer f_1, .agg ⟨[.int .i64 p_2, .string p_3, .int .i64 p_4]⟩, .int .i64 kind_5, .int .i64 mode_6, .string data_7] K σ := call_of_body mixed Tryz.func81 (by rw [e81]; exact h)


def an82 : Ann := (.q (.q (.n (.reg (rn 23) [[],[0],[],[0,1,2],[],[4],[4,5],[4,5,6],[4,5,6,7],(rn 9),(rn 10),(rn 11),(rn 12),(rn 11),(rn 14),(rn 11),[0,1,2,3,4,5,6,7,8,9,10,15],[0,1,2,3,4,5,6,7,8,9,10,15,16],[0,1,2,3,4,5,6,7,8,9,10,15,16,17],[0,1,2,3,4,5,6,7,8,9,10,15,16,17,18],(rn 20),(rn 21),(rn 22)]) .z)))
def g82 (f_1 : Option Addr) (inodes_2 : Int) (bytes_3 : Int) (K : KH) : H -> Prop :=
 callT Tryz.prog 22 [.pointer f_1] (.one (.agg [(.int .i64), (.int .i64)])) (fun (x4 : Int) (x5 : Int) => alW (.cells ⟨[.int .i64 0, .int .i64 0]⟩ 50 (0, 0)) (fun b6 => stW Tryz.prog 50 (.pointer (some ⟨b6, 0, none⟩)) (.agg ⟨[.int .i64 x4, .int .i64 x5]⟩) (rdT (rdC b6 0) kI (fun (x7 : Int) => ptrW f_1 (fun b8 o9 => rdT (rdC b8 o9) kI (fun (x10 : Int) => brW (decide (((IntKind.i64.wrap (x7 + inodes_2)) : Int) <= x10)) (rdT (rdC b6 1) kI (fun (x11 : Int) => ptrW f_1 (fun b12 o13 =>
 rdT (rdC b12 (o13 + 1)) kI (fun (x14 : Int) => K (.bool (decide (((IntKind.i64.wrap (x11 + bytes_3)) : Int) <= x14))))))) (K (.bool false))))))))
theorem e82 (f_1 : Option Addr) (inodes_2 : Int) (bytes_3 : Int) (K : KH) : bodyF Tryz.prog tau Tryz.f82 an82 [.pointer f_1, .int .i64 inodes_2, .int .i64 bytes_3] K = g82 f_1 inodes_2 bytes_3 K := by kernel_rfl
theorem c82 (f_1 : Option Addr) (inodes_2 : Int) (bytes_3 : Int) {K : KH} {σ : H} (h : g82 f_1 inodes_2 bytes_3 K σ) : callW Tryz.prog 82 [.pointer f_1, .int .i64 inodes_2, .int .i64 bytes_3] K σ := call_of_body mixed Tryz.func82 (by rw [e82]; exact h)


def an83 : Ann := (.q (.q (.n (.seq (some [(10,.p),(11,.i),(26,.b)]) .r (.h)) (.q .z))))
def g83 (f_1 : Option Addr) (cwd_2 : ByteArray) (path_3 : ByteArray) (follow_4 : Bool) (K : KH) : H -> Prop :=
 callT Tryz.prog 80 [.pointer f_1, .string cwd_2, .string path_3, .bool follow_4] (.tup [.agg [(.int .i64), .str, (.int .i64)], .sc (.int .i64)]) (fun (x5 : Int) (x6 : ByteArray) (x7 : Int) (x8 : Int) => alW (.cells ⟨[.int .i64 0, .string (⟨⟨[]⟩⟩ : ByteArray), .int .i64 0]⟩ 125 (0, 0)) (fun b9 => stW Tryz.prog 125 (.pointer (some ⟨b9, 0, none⟩)) (.agg ⟨[.int .i64 x5, .string x6, .int .i64 x7]⟩) (letJ (T := Option Addr -> Int -> Bool -> H -> Prop) (fun p_11 e_12 x13 => brW x13
 (K (.tuple ⟨[.int .i64 0, .int .i64 5]⟩)) (ptrW p_11 (fun b14 o15 => rdT (rdC b14 (o15 + 2)) kI (fun (x16 : Int) => K (.tuple ⟨[.int .i64 x16, .int .i64 e_12]⟩))))) (fun j10 => brW ((x8 : Int) == 0) (rdT (rdC b9 2) kI (fun (x17 : Int) => j10 (some ⟨b9, 0, none⟩) x8 (decide ((x17 : Int) < 0)))) (j10 (some ⟨b9, 0, none⟩) x8 false)))))
theorem e83 (f_1 : Option Addr) (cwd_2 : ByteArray) (path_3 : ByteArray) (follow_4 : Bool) (K : KH) : bodyF Tryz.prog tau Tryz.f83 an83 [.pointer f_1, .string cwd_2, .string path_3, .bool follow_4] K = g83 f_1 cwd_2 path_3 follow_4 K := by kernel_rfl
theorem c83 (f_1 : Option Addr) (cwd_2 : ByteArray) (path_3 : ByteArray) (follow_4 : Bool) {K : KH} {σ : H} (h : g83 f_1 cwd_2 path_3 follow_4 K σ) : callW Tryz.prog 83 [.pointer f_1, .string cwd_2, .string path_3, .bool follow_4] K σ := call_of_body mixed Tryz.func83 (by rw [e83]; exact h)


def an84 : Ann := (.q (.q (.n (.blk (.loop [(0,.p),(1,.i),(5,.i)] (.n (.q (.cond .z .z)) (.blk (.q .r))))) (.q .z))))
def g84 (f_1 : Option Addr) (dir_2 : Int) (K : KH) : H -> Prop :=
 loopW [.sc .ptr, .sc (.int .i64), .sc (.int .i64)] (fun (R3 : Option Addr -> Int -> Int -> H -> Prop) => (fun (f_4 : Option Addr) (dir_5 : Int) (n_6 : Int) => brW ((dir_5 : Int) != 0) (ptrW f_4 (fun b7 o8 => rdT (rdC b7 (o8 + 2)) kL (fun x9 => ptrW x9.base (fun b10 o11 => ifW (0 <= dir_5 /\ dir_5 < ((x9.len : Nat) : Int)) (rdT (rdC b10 (o11 + dir_5.toNat * 1)) kP (fun x12 => ptrW x12 (fun b13 o14 => rdT (rdC b13 (o14 + 4)) kI (fun (x15 : Int) => R3 f_4 x15 (IntKind.i64.wrap (n_6 + 1))))))))))
 (K (.int .i64 n_6)))) (fun (R16 : Option Addr -> Int -> Int -> H -> Prop) => R16 f_1 dir_2 1)
theorem e84 (f_1 : Option Addr) (dir_2 : Int) (K : KH) : bodyF Tryz.prog tau Tryz.f84 an84 [.pointer f_1, .int .i64 dir_2] K = g84 f_1 dir_2 K := by kernel_rfl
theorem c84 (f_1 : Option Addr) (dir_2 : Int) {K : KH} {σ : H} (h : g84 f_1 dir_2 K σ) : callW Tryz.prog 84 [.pointer f_1, .int .i64 dir_2] K σ := call_of_body mixed Tryz.func84 (by rw [e84]; exact h)


def an87 : Ann := (.q (.q .z))
def g87 (s_1 : ByteArray) (prefix_2 : ByteArray) (K : KH) : H -> Prop :=
 brW (decide ((((s_1.size : Nat) : Int) : Int) >= ((prefix_2.size : Nat) : Int))) (ifW (bndOk (some ((prefix_2.size : Nat) : Int)) s_1.size /\ bndOk none (((prefix_2.size : Nat) : Int).toNat)) (K (.bool (strEq (s_1.extract 0 (((prefix_2.size : Nat) : Int).toNat)) prefix_2)))) (K (.bool false))
theorem e87 (s_1 : ByteArray) (prefix_2 : ByteArray) (K : KH) : bodyF Tryz.prog tau Tryz.f87 an87 [.string s_1, .string prefix_2] K = g87 s_1 prefix_2 K := by kernel_rfl
theorem c87 (s_1 : ByteArray) (prefix_2 : ByteArray) {K : KH} {σ : H} (h : g87 s_1 prefix_2 K σ) : callW Tryz.prog 87 [.string s_1, .string prefix_2] K σ := call_of_body mixed Tryz.func87 (by rw [e87]; exact h)


def an88 : Ann := (.q (.cond .r (.q (.cond .z .z))))
def g88 (b_1 : Option Addr) (K : KH) : H -> Prop :=
 ptrW b_1 (fun b2 o3 => rdT (rdC b2 o3) kP (fun x4 => brW x4.isNone (vaW Tryz.prog (convert 67 181 (.pointer b_1)) kR (fun x5 => cvalT Tryz.prog (.func (.func 136) ⟨[]⟩ ⟨[]⟩) [x5] kR (fun x6 => vaW Tryz.prog (convert 181 67 (x6)) kP (fun x7 => ptrW b_1 (fun b8 o9 => stW Tryz.prog 67 (.pointer (some ⟨b8, o9, none⟩)) (.pointer x7) (K (.tuple ⟨[]⟩))))))) (ptrW b_1 (fun b10 o11 => rdT (rdC b10 o11) kP (fun x12 =>
 vaW Tryz.prog (do eqGuard .neq 67 (.tmp 17) (.tmp 18) (.pointer x12) (.pointer b_1); binOp .neq 67 (.pointer x12) (.pointer b_1)) kB (fun x13 => brW x13 (nW) (K (.tuple ⟨[]⟩))))))))
theorem e88 (b_1 : Option Addr) (K : KH) : bodyF Tryz.prog tau Tryz.f88 an88 [.pointer b_1] K = g88 b_1 K := by kernel_rfl
theorem c88 (b_1 : Option Addr) {K : KH} {σ : H} (h : g88 b_1 K σ) : callW Tryz.prog 88 [.pointer b_1] K σ := call_of_body mixed Tryz.func88 (by rw [e88]; exact h)


def an89 : Ann := (.n (.reg [0,1,2,3,4,5,6,7,9,10,11,12,8,13,14,15] [[],[0],[0,1],[0,1,2],(rn 4),(rn 5),[],(rn 7),(rn 8),[],[9],[9,10],[9,10,11],[9,10,11,12],(rn 14),(rn 15)]) (.q .r))
def g89 (b_1 : Option Addr) (n_2 : Int) (K : KH) : H -> Prop :=
 ptrW b_1 (fun b3 o4 => rdT (rdC b3 (o4 + 1)) kL (fun x5 => ptrW b_1 (fun b6 o7 => rdT (rdC b6 (o7 + 1)) kL (fun x8 => cvalT Tryz.prog (.func (.func 137) ⟨[]⟩ ⟨[]⟩) [.int .i64 (IntKind.i64.wrap ((IntKind.i64.wrap (2 * ((x5.cap : Nat) : Int))) + n_2))] kL (fun x9 => andW (fun σ => (rdC b6 (o7 + 1)) σ = some (.slice x8.base x8.len x8.cap)) (ifW (bndOk (some ((x8.len : Nat) : Int)) x9.cap /\ bndOk none (((x8.len : Nat) : Int).toNat)) (ptrW b_1 (fun b10 o11 => rdT (rdC b10 (o11 + 1)) kL (fun x12 =>
 biW Tryz.prog .copy #[22, 22] 3 [false, false] [.slice (slBase x9.base 0 x9.cap 1) ((((x8.len : Nat) : Int).toNat) - 0) (x9.cap - 0), .slice x12.base x12.len x12.cap] kI (fun (_x13 : Int) => ptrW b_1 (fun b14 o15 => stW Tryz.prog 22 (.pointer (some ⟨b14, o15 + 1, none⟩)) (.slice (slBase x9.base 0 x9.cap 1) ((((x8.len : Nat) : Int).toNat) - 0) (x9.cap - 0)) (K (.tuple ⟨[]⟩)))))))))))))
theorem e89 (b_1 : Option Addr) (n_2 : Int) (K : KH) : bodyF Tryz.prog tau Tryz.f89 an89 [.pointer b_1, .int .i64 n_2] K = g89 b_1 n_2 K := by kernel_rfl
theorem c89 (b_1 : Option Addr) (n_2 : Int) {K : KH} {σ : H} (h : g89 b_1 n_2 K σ) : callW Tryz.prog 89 [.pointer b_1, .int .i64 n_2] K σ := call_of_body mixed Tryz.func89 (by rw [e89]; exact h)


def an90 : Ann := (.q (.q .z))
def g90 (as_1 : Option Addr) (c_2 : Int) (K : KH) : H -> Prop :=
 ptrW as_1 (fun b3 o4 => ifW (0 <= c_2 /\ c_2 < ((256 : Nat) : Int)) (rdT (rdC b3 (o4 + c_2.toNat * 1)) kB (fun x5 => K (.bool x5))))
theorem e90 (as_1 : Option Addr) (c_2 : Int) (K : KH) : bodyF Tryz.prog tau Tryz.f90 an90 [.pointer as_1, .int .u8 c_2] K = g90 as_1 c_2 K := by kernel_rfl
theorem c90 (as_1 : Option Addr) (c_2 : Int) {K : KH} {σ : H} (h : g90 as_1 c_2 K σ) : callW Tryz.prog 90 [.pointer as_1, .int .u8 c_2] K σ := call_of_body mixed Tryz.func90 (by rw [e90]; exact h)


def an93 : Ann := (.q (.q .z))
def g93 (t_1 : ByteArray) (t_2 : Sl) (t_3 : ByteArray) (t_4 : ByteArray) (t_5 : Option Addr) (K : KH) : H -> Prop :=
 alW (.cells ⟨[.string t_1, .slice t_2.base t_2.len t_2.cap, .string t_3, .string t_4, .pointer t_5]⟩ 88 (0, 0)) (fun b6 => alW (.cells ⟨[.string (⟨⟨[]⟩⟩ : ByteArray), .string (⟨⟨[]⟩⟩ : ByteArray), .int .i64 0]⟩ 35 (0, 0)) (fun b7 => rdT (rdC b6 0) kS (fun (x8 : ByteArray) => ifW (x8.size + (⟨⟨[58, 32, 117, 115, 97, 103, 101, 10]⟩⟩ : ByteArray).size <= 9223372036854775807)
 (stW Tryz.prog 35 (.pointer (some ⟨b7, 0, none⟩)) (.agg ⟨[.string (⟨⟨[]⟩⟩ : ByteArray), .string (x8 ++ (⟨⟨[58, 32, 117, 115, 97, 103, 101, 10]⟩⟩ : ByteArray)), .int .i64 2]⟩) (rdT (rdA 3 b7 0) (.one (.agg [.str, .str, (.int .i64)])) (fun (r9 : ByteArray) (r10 : ByteArray) (r11 : Int) => K (.agg ⟨[.string r9, .string r10, .int .i64 r11]⟩)))))))
theorem e93 (t_1 : ByteArray) (t_2 : Sl) (t_3 : ByteArray) (t_4 : ByteArray) (t_5 : Option Addr) (K : KH) : bodyF Tryz.prog tau Tryz.f93 an93 [.agg ⟨[.string t_1, .slice t_2.base t_2.len t_2.cap, .string t_3, .string t_4, .pointer t_5]⟩] K = g93 t_1 t_2 t_3 t_4 t_5 K := by kernel_rfl
theorem c93 (t_1 : ByteArray) (t_2 : Sl) (t_3 : ByteArray) (t_4 : ByteArray) (t_5 : Option Addr) {K : KH} {σ : H} (h : g93 t_1 t_2 t_3 t_4 t_5 K σ) : callW Tryz.prog 93 [.agg ⟨[.string t_1, .slice t_2.base t_2.len t_2.cap, .string t_3, .string t_4, .pointer t_5]⟩] K σ := call_of_body mixed Tryz.func93 (by rw [e93]; exact h)


def an94 : Ann := (.q (.blk (.n .z (.n (.blk (.loop [(0,.s),(2,.l)] (.n (.q (.cond .z .z)) (.blk (.n (.blk (.seq (some [(0,.s),(2,.l),(8,.b),(13,.w),(14,.w),(15,.w)]) .r (.cond (.n (.reg (rn 11) [[],[],[1],[1,2],[1,2,3],[1,2,3,4],(rn 6),[],[7],(rn 7),(rn 10)]) .z) (.q (.cond (.n (.reg (rn 8) [[],[],[1],[0,1,2],[],[4],(rn 4),(rn 7)]) .z) (.q (.cond (.n (.reg (rn 10) [[],[],[1],[1,2],[1,2,3],(rn 5),[],[6],(rn 6),(rn 9)]) .z) .z))))))) (.q (.n (.q (.h)) (.reg (rn 10) [[],[],[1],[0,1,2],[],[],[5],[4,5,6],(rn 4),(rn 9)])))))))) (.q .z)))))
def g94 (s_1 : ByteArray) (K : KH) : H -> Prop :=
 loopW [.sc .str, .sc .slc] (fun (R2 : ByteArray -> Sl -> H -> Prop) => (fun (s_3 : ByteArray) (out_4 : Sl) => brW (!strEq s_3 (⟨⟨[]⟩⟩ : ByteArray)) (letJ (T := ByteArray -> Sl -> Bool -> Value -> Value -> Value -> H -> Prop) (fun s_6 out_7 x8 _x9 _x10 _x11 => brW x8 (idxW s_6 1 (fun c12 => callT Tryz.prog 140 [.int .u8 (c12.toNat : Int)] kS (fun (x13 : ByteArray) => alW (.cells ⟨[.string x13, .int .u8 0, .int .i64 0, .bool false]⟩ 150 (0, 0)) (fun b14 =>
 biW Tryz.prog .append #[140, 140] 140 [false, false] [.slice out_7.base out_7.len out_7.cap, .slice (some ⟨b14, 0, none⟩) 1 1] kL (fun x15 => ifW (bndOk none s_6.size /\ bndOk (some 2) (s_6.size)) (R2 (s_6.extract ((2 : Int).toNat) s_6.size) x15)))))) (callT Tryz.prog 37 [.string s_6, .string (⟨⟨[37, 37]⟩⟩ : ByteArray)] kB (fun x16 => brW x16 (alW (.cells ⟨[.string (⟨⟨[37]⟩⟩ : ByteArray), .int .u8 0, .int .i64 0, .bool false]⟩ 150 (0, 0)) (fun b17 =>
 biW Tryz.prog .append #[140, 140] 140 [false, false] [.slice out_7.base out_7.len out_7.cap, .slice (some ⟨b17, 0, none⟩) 1 1] kL (fun x18 => ifW (bndOk none s_6.size /\ bndOk (some 2) (s_6.size)) (R2 (s_6.extract ((2 : Int).toNat) s_6.size) x18)))) (idxW s_6 0 (fun c19 => brW (((c19.toNat : Int) : Int) != 37) (ifW (bndOk (some 1) s_6.size /\ bndOk none ((1 : Int).toNat)) (alW (.cells ⟨[.string (s_6.extract 0 ((1 : Int).toNat)), .int .u8 0, .int .i64 0, .bool false]⟩ 150 (0, 0)) (fun b20 =>
 biW Tryz.prog .append #[140, 140] 140 [false, false] [.slice out_7.base out_7.len out_7.cap, .slice (some ⟨b20, 0, none⟩) 1 1] kL (fun x21 => ifW (bndOk none s_6.size /\ bndOk (some 1) (s_6.size)) (R2 (s_6.extract ((1 : Int).toNat) s_6.size) x21))))) (ifW (bndOk none s_6.size /\ bndOk (some 1) (s_6.size))
 (callT Tryz.prog 141 [.string (s_6.extract ((1 : Int).toNat) s_6.size)] (.tup [.agg [.str, (.int .u8), (.int .i64), .bool], .sc (.int .i64)]) (fun (x22 : ByteArray) (x23 : Int) (x24 : Int) (x25 : Bool) (x26 : Int) => alW (.cells ⟨[.string (⟨⟨[]⟩⟩ : ByteArray), .int .u8 0, .int .i64 0, .bool false]⟩ 150 (0, 0)) (fun b27 => stW Tryz.prog 150 (.pointer (some ⟨b27, 0, none⟩)) (.agg ⟨[.string x22, .int .u8 x23, .int .i64 x24, .bool x25]⟩) (brW ((x26 : Int) == 0)
 (K (.tuple ⟨[.slice none 0 0, .bool false]⟩)) (rdT (rdA 4 b27 0) (.one (.agg [.str, (.int .u8), (.int .i64), .bool])) (fun (x28 : ByteArray) (x29 : Int) (x30 : Int) (x31 : Bool) => alW (.cells ⟨[.string x28, .int .u8 x29, .int .i64 x30, .bool x31]⟩ 150 (0, 0)) (fun b32 => biW Tryz.prog .append #[140, 140] 140 [false, false] [.slice out_7.base out_7.len out_7.cap, .slice (some ⟨b32, 0, none⟩) 1 1] kL (fun x33 => ifW (bndOk none s_6.size /\ bndOk (some (IntKind.i64.wrap (1 + x26))) (s_6.size))
 (R2 (s_6.extract ((IntKind.i64.wrap (1 + x26)).toNat) s_6.size) x33))))))))))))))) (fun j5 => idxW s_3 0 (fun c34 => brW (((c34.toNat : Int) : Int) == 92) (j5 s_3 out_4 (decide ((((s_3.size : Nat) : Int) : Int) > 1)) (.string s_3) (.int .i64 ((s_3.size : Nat) : Int)) (.bool (decide ((((s_3.size : Nat) : Int) : Int) > 1)))) (j5 s_3 out_4 false (.tuple ⟨[]⟩) (.tuple ⟨[]⟩) (.tuple ⟨[]⟩)))))
 (K (.tuple ⟨[.slice out_4.base out_4.len out_4.cap, .bool true]⟩)))) (fun (R35 : ByteArray -> Sl -> H -> Prop) => R35 s_1 ⟨none, 0, 0⟩)
theorem e94 (s_1 : ByteArray) (K : KH) : bodyF Tryz.prog tau Tryz.f94 an94 [.string s_1] K = g94 s_1 K := by kernel_rfl
theorem c94 (s_1 : ByteArray) {K : KH} {σ : H} (h : g94 s_1 K σ) : callW Tryz.prog 94 [.string s_1] K σ := call_of_body mixed Tryz.func94 (by rw [e94]; exact h)


def an95 : Ann := (.q (.q (.n (.q (.h)) (.q (.q (.q .z))))))
def g95 (x1 : Option Addr) (x2 : Option Addr) (K : KH) : H -> Prop :=
 stW Tryz.prog 4 (.pointer x1) (.bool true) (ptrW x2 (fun b3 o4 => rdT (rdC b3 o4) kL (fun x5 => brW ((((x5.len : Nat) : Int) : Int) == 0) (K (.tuple ⟨[.string (⟨⟨[]⟩⟩ : ByteArray), .bool false]⟩)) (ptrW x2 (fun b6 o7 => rdT (rdC b6 o7) kL (fun x8 => ptrW x8.base (fun b9 o10 => ifW (0 <= (0 : Int) /\ (0 : Int) < ((x8.len : Nat) : Int)) (rdT (rdC b9 (o10 + (0 : Int).toNat * 1)) kS (fun (x11 : ByteArray) => ptrW x2 (fun b12 o13 => rdT (rdC b12 o13) kL (fun x14 =>
 ifW (bndOk none x14.cap /\ bndOk (some 1) x14.len) (stW Tryz.prog 38 (.pointer x2) (.slice (slBase x14.base ((1 : Int).toNat) x14.cap 1) (x14.len - ((1 : Int).toNat)) (x14.cap - ((1 : Int).toNat))) (K (.tuple ⟨[.string x11, .bool true]⟩))))))))))))))
theorem e95 (x1 : Option Addr) (x2 : Option Addr) (K : KH) : bodyF Tryz.prog tau Tryz.f95 an95 [.pointer x1, .pointer x2] K = g95 x1 x2 K := by kernel_rfl
theorem c95 (x1 : Option Addr) (x2 : Option Addr) {K : KH} {σ : H} (h : g95 x1 x2 K σ) : callW Tryz.prog 95 [.pointer x1, .pointer x2] K σ := call_of_body mixed Tryz.func95 (by rw [e95]; exact h)


def an96 : Ann := (.q (.q (.q (.seq (some [(0,.i),(8,.i)]) (.seq (some [(0,.i),(2,.p),(3,.p),(6,.s),(8,.i),(24,.b)]) .r (.cond (.q .r) .z)) (.q .z)))))
def g96 (base_1 : Int) (x2 : Option Addr) (x3 : Option Addr) (x4 : Option Addr) (K : KH) : H -> Prop :=
 ptrW x2 (fun b5 o6 => rdT (rdC b5 o6) kR (fun x7 => cvalT Tryz.prog x7 [] (.tup [.sc .str, .sc .bool]) (fun (x8 : ByteArray) (x9 : Bool) => callT Tryz.prog 97 [.string x8] (.tup [.sc (.int .i64), .sc .bool]) (fun (x10 : Int) (x11 : Bool) => letJ (T := Int -> Int -> H -> Prop) (fun base_13 n_14 => callT Tryz.prog 98 [.int .i64 n_14, .int .i64 base_13] kS (fun (x15 : ByteArray) => K (.string x15))) (fun j12 =>
 letJ (T := Int -> Option Addr -> Option Addr -> ByteArray -> Int -> Bool -> H -> Prop) (fun base_17 x18 x19 s_20 n_21 x22 => brW x22 (ptrW x18 (fun b23 o24 => rdT (rdC b23 (o24 + 1)) kS (fun (x25 : ByteArray) => ptrW x19 (fun b26 o27 => rdT (rdC b26 o27) kS (fun (x28 : ByteArray) => ifW (x28.size + (⟨⟨[58, 32]⟩⟩ : ByteArray).size <= 9223372036854775807) (ifW ((x28 ++ (⟨⟨[58, 32]⟩⟩ : ByteArray)).size + s_20.size <= 9223372036854775807)
 (ifW (((x28 ++ (⟨⟨[58, 32]⟩⟩ : ByteArray)) ++ s_20).size + (⟨⟨[58, 32, 50, 10]⟩⟩ : ByteArray).size <= 9223372036854775807) (ifW (x25.size + (((x28 ++ (⟨⟨[58, 32]⟩⟩ : ByteArray)) ++ s_20) ++ (⟨⟨[58, 32, 50, 10]⟩⟩ : ByteArray)).size <= 9223372036854775807) (ptrW x18 (fun b29 o30 => stW Tryz.prog 9 (.pointer (some ⟨b29, o30 + 1, none⟩)) (.string (x25 ++ (((x28 ++ (⟨⟨[58, 32]⟩⟩ : ByteArray)) ++ s_20) ++ (⟨⟨[58, 32, 50, 10]⟩⟩ : ByteArray)))) (ptrW x18 (fun b31 o32 =>
 stW Tryz.prog 3 (.pointer (some ⟨b31, o32 + 2, none⟩)) (.int .i64 1) (j12 base_17 n_21))))))))))))) (j12 base_17 n_21)) (fun j16 => brW x9 (j16 base_1 x3 x4 x8 x10 (!x11)) (j16 base_1 x3 x4 x8 x10 false)))))))
theorem e96 (base_1 : Int) (x2 : Option Addr) (x3 : Option Addr) (x4 : Option Addr) (K : KH) : bodyF Tryz.prog tau Tryz.f96 an96 [.int .i64 base_1, .pointer x2, .pointer x3, .pointer x4] K = g96 base_1 x2 x3 x4 K := by kernel_rfl
theorem c96 (base_1 : Int) (x2 : Option Addr) (x3 : Option Addr) (x4 : Option Addr) {K : KH} {σ : H} (h : g96 base_1 x2 x3 x4 K σ) : callW Tryz.prog 96 [.int .i64 base_1, .pointer x2, .pointer x3, .pointer x4] K σ := call_of_body mixed Tryz.func96 (by rw [e96]; exact h)


def an97 : Ann := (.q (.q (.n (.seq (some [(0,.s),(20,.b)]) .r (.h)) (.q (.n (.reg (rn 5) [[],[],[1],[0],(rn 4)]) .z)))))
def g97 (s_1 : ByteArray) (K : KH) : H -> Prop :=
 callT Tryz.prog 142 [.string s_1, .string (⟨⟨[45]⟩⟩ : ByteArray)] kS (fun (x2 : ByteArray) => letJ (T := ByteArray -> Bool -> H -> Prop) (fun s_4 x5 => brW x5 (K (.tuple ⟨[.int .i64 0, .bool false]⟩)) (callT Tryz.prog 144 [.string s_4] (.tup [.sc (.int .i64), .sc .raw]) (fun (x6 : Int) (x7 : Value) => vaW Tryz.prog (do eqGuard .eql 72 (.tmp 27) (.const (.nilIface)) (x7) (.nilIface); binOp .eql 72 (x7) (.nilIface)) kB (fun x8 => K (.tuple ⟨[.int .i64 x6, .bool x8]⟩))))) (fun j3 =>
 brW (strEq x2 (⟨⟨[]⟩⟩ : ByteArray)) (j3 s_1 true) (brW (decide ((((x2.size : Nat) : Int) : Int) > 15)) (j3 s_1 true) (callT Tryz.prog 143 [.string x2, .string (⟨⟨[48, 49, 50, 51, 52, 53, 54, 55, 56, 57]⟩⟩ : ByteArray)] kS (fun (x9 : ByteArray) => j3 s_1 (!strEq x9 (⟨⟨[]⟩⟩ : ByteArray)))))))
theorem e97 (s_1 : ByteArray) (K : KH) : bodyF Tryz.prog tau Tryz.f97 an97 [.string s_1] K = g97 s_1 K := by kernel_rfl
theorem c97 (s_1 : ByteArray) {K : KH} {σ : H} (h : g97 s_1 K σ) : callW Tryz.prog 97 [.string s_1] K σ := call_of_body mixed Tryz.func97 (by rw [e97]; exact h)


def an98 : Ann := (.q (.q .z))
def g98 (i_1 : Int) (base_2 : Int) (K : KH) : H -> Prop :=
 callT Tryz.prog 145 [.int .i64 i_1, .int .i64 base_2] kS (fun (x3 : ByteArray) => K (.string x3))
theorem e98 (i_1 : Int) (base_2 : Int) (K : KH) : bodyF Tryz.prog tau Tryz.f98 an98 [.int .i64 i_1, .int .i64 base_2] K = g98 i_1 base_2 K := by kernel_rfl
theorem c98 (i_1 : Int) (base_2 : Int) {K : KH} {σ : H} (h : g98 i_1 base_2 K σ) : callW Tryz.prog 98 [.int .i64 i_1, .int .i64 base_2] K σ := call_of_body mixed Tryz.func98 (by rw [e98]; exact h)


def an99 : Ann := (.q (.seq (some [(1,.l),(2,.p)]) (.q (.blk (.q (.cond (.q .z) (.q (.cond (.q .z) (.q (.cond (.n (.reg (rn 17) [[],[0],[0,1],[],[3],[3,4],[],[6],[6,7],(rn 9),(rn 10),(rn 11),(rn 11),(rn 11),(rn 12),[0,1,2,3,4,5,6,7,8,9,10,11,12,14],(rn 16)]) (.q (.h))) .z)))))))) (.n (.seq (some [(1,.l),(2,.p),(48,.b)]) .r (.cond (.n (.reg (rn 9) [[],[],[1],[0,1,2],(rn 4),(rn 5),(rn 5),(rn 6),(rn 8)]) (.q .z)) .z)) (.n (.q (.cond (.n (.reg (rn 12) [[],[],[1],[1,2],[],[4],[4,5],(rn 7),(rn 8),(rn 8),(rn 10),(rn 11)]) .z) .z)) (.q .z)))))
def g99 (t_1 : ByteArray) (t_2 : Sl) (t_3 : ByteArray) (t_4 : ByteArray) (t_5 : Option Addr) (l_6 : Sl) (K : KH) : H -> Prop :=
 alW (.cells ⟨[.string t_1, .slice t_2.base t_2.len t_2.cap, .string t_3, .string t_4, .pointer t_5]⟩ 88 (0, 0)) (fun b7 => letJ (T := Sl -> Option Addr -> H -> Prop) (fun l_9 t_10 => letJ (T := Sl -> Option Addr -> Bool -> H -> Prop) (fun l_12 t_13 x14 => brW x14 (ptrW t_13 (fun b15 o16 => rdT (rdA 5 b15 o16) (.one (.agg [.str, .slc, .str, .str, .ptr])) (fun (x17 : ByteArray) (x18 : Sl) (x19 : ByteArray) (x20 : ByteArray) (x21 : Option Addr) => ifW (bndOk none l_12.cap /\ bndOk (some 1) l_12.len)
 (callT Tryz.prog 99 [.agg ⟨[.string x17, .slice x18.base x18.len x18.cap, .string x19, .string x20, .pointer x21]⟩, .slice (slBase l_12.base ((1 : Int).toNat) l_12.cap 1) (l_12.len - ((1 : Int).toNat)) (l_12.cap - ((1 : Int).toNat))] (.tup [.sc .bool, .sc .bool]) (fun x22 x23 => K (.tuple ⟨[.bool (!x22), .bool x23]⟩)))))) (brW ((((l_12.len : Nat) : Int) : Int) == 2) (ptrW t_13 (fun b24 o25 =>
 rdT (rdA 5 b24 o25) (.one (.agg [.str, .slc, .str, .str, .ptr])) (fun (x26 : ByteArray) (x27 : Sl) (x28 : ByteArray) (x29 : ByteArray) (x30 : Option Addr) => ptrW l_12.base (fun b31 o32 => ifW (0 <= (0 : Int) /\ (0 : Int) < ((l_12.len : Nat) : Int)) (rdT (rdC b31 (o32 + (0 : Int).toNat * 1)) kS (fun (x33 : ByteArray) => ptrW l_12.base (fun b34 o35 => ifW (0 <= (1 : Int) /\ (1 : Int) < ((l_12.len : Nat) : Int)) (rdT (rdC b34 (o35 + (1 : Int).toNat * 1)) kS (fun (x36 : ByteArray) =>
 callT Tryz.prog 147 [.agg ⟨[.string x26, .slice x27.base x27.len x27.cap, .string x28, .string x29, .pointer x30]⟩, .string x33, .string x36] (.tup [.sc .bool, .sc .bool]) (fun x37 x38 => K (.tuple ⟨[.bool x37, .bool x38]⟩))))))))))) (K (.tuple ⟨[.bool false, .bool false]⟩)))) (fun j11 => brW (decide ((((l_9.len : Nat) : Int) : Int) <= 4)) (ptrW l_9.base (fun b39 o40 => ifW (0 <= (0 : Int) /\ (0 : Int) < ((l_9.len : Nat) : Int))
 (rdT (rdC b39 (o40 + (0 : Int).toNat * 1)) kS (fun (x41 : ByteArray) => j11 l_9 t_10 (strEq x41 (⟨⟨[33]⟩⟩ : ByteArray)))))) (j11 l_9 t_10 false))) (fun j8 => brW ((((l_6.len : Nat) : Int) : Int) == 0) (K (.tuple ⟨[.bool false, .bool true]⟩)) (brW ((((l_6.len : Nat) : Int) : Int) == 1) (ptrW l_6.base (fun b42 o43 => ifW (0 <= (0 : Int) /\ (0 : Int) < ((l_6.len : Nat) : Int)) (rdT (rdC b42 (o43 + (0 : Int).toNat * 1)) kS (fun (x44 : ByteArray) =>
 K (.tuple ⟨[.bool (!strEq x44 (⟨⟨[]⟩⟩ : ByteArray)), .bool true]⟩))))) (brW ((((l_6.len : Nat) : Int) : Int) == 3) (ptrW l_6.base (fun b45 o46 => ifW (0 <= (0 : Int) /\ (0 : Int) < ((l_6.len : Nat) : Int)) (rdT (rdC b45 (o46 + (0 : Int).toNat * 1)) kS (fun (x47 : ByteArray) => ptrW l_6.base (fun b48 o49 => ifW (0 <= (1 : Int) /\ (1 : Int) < ((l_6.len : Nat) : Int)) (rdT (rdC b48 (o49 + (1 : Int).toNat * 1)) kS (fun (x50 : ByteArray) => ptrW l_6.base (fun b51 o52 =>
 ifW (0 <= (2 : Int) /\ (2 : Int) < ((l_6.len : Nat) : Int)) (rdT (rdC b51 (o52 + (2 : Int).toNat * 1)) kS (fun (x53 : ByteArray) => callT Tryz.prog 146 [.string x47, .string x50, .string x53] (.tup [.sc .bool, .sc .bool, .sc .bool]) (fun x54 x55 x56 => brW x55 (K (.tuple ⟨[.bool x54, .bool x56]⟩)) (j8 l_6 (some ⟨b7, 0, none⟩))))))))))))) (j8 l_6 (some ⟨b7, 0, none⟩))))))
theorem e99 (t_1 : ByteArray) (t_2 : Sl) (t_3 : ByteArray) (t_4 : ByteArray) (t_5 : Option Addr) (l_6 : Sl) (K : KH) : bodyF Tryz.prog tau Tryz.f99 an99 [.agg ⟨[.string t_1, .slice t_2.base t_2.len t_2.cap, .string t_3, .string t_4, .pointer t_5]⟩, .slice l_6.base l_6.len l_6.cap] K = g99 t_1 t_2 t_3 t_4 t_5 l_6 K := by kernel_rfl
theorem c99 (t_1 : ByteArray) (t_2 : Sl) (t_3 : ByteArray) (t_4 : ByteArray) (t_5 : Option Addr) (l_6 : Sl) {K : KH} {σ : H} (h : g99 t_1 t_2 t_3 t_4 t_5 l_6 K σ) : callW Tryz.prog 99 [.agg ⟨[.string t_1, .slice t_2.base t_2.len t_2.cap, .string t_3, .string t_4, .pointer t_5]⟩, .slice l_6.base l_6.len l_6.cap] K σ := call_of_body mixed Tryz.func99 (by rw [e99]; exact h)


def an100 : Ann := (.q (.q .z))
def g100 (s_1 : ByteArray) (K : KH) : H -> Prop :=
 callT Tryz.prog 13 [.string s_1, .string (⟨⟨[47]⟩⟩ : ByteArray)] kS (fun (x2 : ByteArray) => K (.string x2))
theorem e100 (s_1 : ByteArray) (K : KH) : bodyF Tryz.prog tau Tryz.f100 an100 [.string s_1] K = g100 s_1 K := by kernel_rfl
theorem c100 (s_1 : ByteArray) {K : KH} {σ : H} (h : g100 s_1 K σ) : callW Tryz.prog 100 [.string s_1] K σ := call_of_body mixed Tryz.func100 (by rw [e100]; exact h)


def an101 : Ann := (.q (.q .z))
def g101 (s_1 : ByteArray) (c_2 : Int) (K : KH) : H -> Prop :=
 callT Tryz.prog 148 [.string s_1, .int .u8 c_2] kI (fun (x3 : Int) => K (.int .i64 x3))
theorem e101 (s_1 : ByteArray) (c_2 : Int) (K : KH) : bodyF Tryz.prog tau Tryz.f101 an101 [.string s_1, .int .u8 c_2] K = g101 s_1 c_2 K := by kernel_rfl
theorem c101 (s_1 : ByteArray) (c_2 : Int) {K : KH} {σ : H} (h : g101 s_1 c_2 K σ) : callW Tryz.prog 101 [.string s_1, .int .u8 c_2] K σ := call_of_body mixed Tryz.func101 (by rw [e101]; exact h)


def an102 : Ann := (.q (.q .z))
def g102 (s_1 : ByteArray) (suffix_2 : ByteArray) (K : KH) : H -> Prop :=
 callT Tryz.prog 149 [.string s_1, .string suffix_2] kS (fun (x3 : ByteArray) => K (.string x3))
theorem e102 (s_1 : ByteArray) (suffix_2 : ByteArray) (K : KH) : bodyF Tryz.prog tau Tryz.f102 an102 [.string s_1, .string suffix_2] K = g102 s_1 suffix_2 K := by kernel_rfl
theorem c102 (s_1 : ByteArray) (suffix_2 : ByteArray) {K : KH} {σ : H} (h : g102 s_1 suffix_2 K σ) : callW Tryz.prog 102 [.string s_1, .string suffix_2] K σ := call_of_body mixed Tryz.func102 (by rw [e102]; exact h)


def an113 : Ann := (.q (.q (.n (.blk (.seq (some [(0,.s),(1,.s),(5,.i),(16,.b)]) .r (.cond (.q .z) (.q (.cond (.q .z) (.q (.cond (.q .z) (.seq (some [(0,.s),(1,.s),(5,.i),(36,.b)]) .r (.h))))))))) (.q (.q (.q (.q (.q (.n (.blk (.loop [(0,.s),(1,.s),(5,.i),(6,.sc (.int .u8)),(7,.sc (.int .u8)),(8,.i),(9,.i),(10,.i)] (.n (.q (.cond .z .z)) (.blk (.seq (some [(0,.s),(1,.s),(5,.i),(6,.sc (.int .u8)),(7,.sc (.int .u8)),(8,.i),(9,.i),(10,.i)]) (.q (.cond (.q (.n (.q (.h)) .r)) .z)) (.n (.seq (some [(0,.s),(1,.s),(5,.i),(6,.sc (.int .u8)),(7,.sc (.int .u8)),(8,.i),(9,.i),(10,.i),(85,.w),(86,.w),(87,.w),(88,.w),(89,.w),(90,.w),(91,.w),(92,.w),(93,.b)]) .r (.h)) (.q (.q (.seq (some [(0,.s),(1,.s),(5,.i),(6,.sc (.int .u8)),(7,.sc (.int .u8)),(8,.i),(9,.i),(10,.i),(85,.w),(86,.w),(87,.w),(88,.w),(89,.w),(90,.w),(91,.w),(92,.w),(103,.w),(104,.w),(105,.w),(106,.w),(107,.b)]) .r (.cond (.q (.n (.q (.h)) (.q .z))) (.seq (some [(0,.s),(1,.s),(5,.i),(6,.sc (.int .u8)),(7,.sc (.int .u8)),(8,.i),(9,.i),(10,.i),(85,.w),(86,.w),(87,.w),(88,.w),(89,.w),(90,.w),(91,.w),(92,.w),(103,.w),(104,.w),(105,.w),(106,.w),(122,.w),(123,.w),(124,.w),(125,.w),(126,.w),(129,.w),(130,.w),(131,.w),(132,.b)]) .r (.cond (.q (.n (.q (.h)) (.q .z))) .z)))))))))))) (.q .z))))))))))
def g113 (s_1 : ByteArray) (substr_2 : ByteArray) (K : KH) : H -> Prop :=
 letJ (T := ByteArray -> ByteArray -> Int -> Bool -> H -> Prop) (fun s_4 substr_5 n_6 x7 => brW x7 (K (.int .i64 0)) (brW ((n_6 : Int) == 1) (idxW substr_5 0 (fun c8 => callT Tryz.prog 133 [.string s_4, .int .u8 (c8.toNat : Int)] kI (fun (x9 : Int) => K (.int .i64 x9)))) (brW (decide ((n_6 : Int) >= ((s_4.size : Nat) : Int))) (K (.int .i64 (-1))) (letJ (T := ByteArray -> ByteArray -> Int -> Bool -> H -> Prop) (fun s_11 substr_12 n_13 x14 => brW x14
 (cvalT Tryz.prog (.func (.func 154) ⟨[]⟩ ⟨[]⟩) [.string s_11, .string substr_12] kI (fun (x15 : Int) => K (.int .i64 x15))) (idxW substr_12 0 (fun c16 => idxW substr_12 1 (fun c17 =>
 loopW [.sc .str, .sc .str, .sc (.int .i64), .sc (.int .u8), .sc (.int .u8), .sc (.int .i64), .sc (.int .i64), .sc (.int .i64)] (fun (R18 : ByteArray -> ByteArray -> Int -> Int -> Int -> Int -> Int -> Int -> H -> Prop) => (fun (s_19 : ByteArray) (substr_20 : ByteArray) (n_21 : Int) (c0_22 : Int) (c1_23 : Int) (i_24 : Int) (t_25 : Int) (fails_26 : Int) => brW (decide ((i_24 : Int) < t_25))
 (letJ (T := ByteArray -> ByteArray -> Int -> Int -> Int -> Int -> Int -> Int -> H -> Prop) (fun s_28 substr_29 n_30 c0_31 c1_32 i_33 t_34 fails_35 => letJ (T := ByteArray -> ByteArray -> Int -> Int -> Int -> Int -> Int -> Int -> Value -> Value -> Value -> Value -> Value -> Value -> Value -> Value -> Bool -> H -> Prop) (fun s_37 substr_38 n_39 c0_40 c1_41 i_42 t_43 fails_44 x45 x46 x47 x48 x49 x50 x51 x52 x53 => brW x53 (K (.int .i64 i_42))
 (letJ (T := ByteArray -> ByteArray -> Int -> Int -> Int -> Int -> Int -> Int -> Value -> Value -> Value -> Value -> Value -> Value -> Value -> Value -> Value -> Value -> Value -> Value -> Bool -> H -> Prop) (fun s_55 substr_56 n_57 c0_58 c1_59 i_60 t_61 fails_62 x63 x64 x65 x66 x67 x68 x69 x70 x71 x72 x73 x74 x75 => brW x75 (ifW (bndOk none s_55.size /\ bndOk (some i_60) (s_55.size)) (cvalT Tryz.prog (.func (.func 154) ⟨[]⟩ ⟨[]⟩) [.string (s_55.extract i_60.toNat s_55.size), .string substr_56] kI (fun (x76 : Int) =>
 brW (decide ((x76 : Int) >= 0)) (K (.int .i64 (IntKind.i64.wrap (x76 + i_60)))) (K (.int .i64 (-1))))))
 (letJ (T := ByteArray -> ByteArray -> Int -> Int -> Int -> Int -> Int -> Int -> Value -> Value -> Value -> Value -> Value -> Value -> Value -> Value -> Value -> Value -> Value -> Value -> Value -> Value -> Value -> Value -> Value -> Value -> Value -> Value -> Bool -> H -> Prop) (fun s_78 substr_79 n_80 c0_81 c1_82 i_83 t_84 fails_85 _x86 _x87 _x88 _x89 _x90 _x91 _x92 _x93 _x94 _x95 _x96 _x97 _x98 _x99 _x100 _x101 _x102 _x103 _x104 _x105 x106 => brW x106 (ifW (bndOk none s_78.size /\ bndOk (some i_83) (s_78.size))
 (callT Tryz.prog 156 [.string (s_78.extract i_83.toNat s_78.size), .string substr_79] kI (fun (x107 : Int) => brW (decide ((x107 : Int) < 0)) (K (.int .i64 (-1))) (K (.int .i64 (IntKind.i64.wrap (i_83 + x107))))))) (R18 s_78 substr_79 n_80 c0_81 c1_82 i_83 t_84 fails_85)) (fun j77 => rdT (rdC 0 0) kI (fun (x108 : Int) => brW (decide ((n_57 : Int) > x108)) (ifW (0 <= (4 : Int)) (brW (decide ((fails_62 : Int) >= (IntKind.i64.wrap (4 + (Int.fdiv i_60 (2 ^ min (Int.toNat 4) (IntKind.bits .i64)))))))
 (j77 s_55 substr_56 n_57 c0_58 c1_59 i_60 t_61 fails_62 x63 x64 x65 x66 x67 x68 x69 x70 x71 x72 x73 x74 (.int .i64 fails_62) (.int .i64 i_60) (.int .i64 (Int.fdiv i_60 (2 ^ min (Int.toNat 4) (IntKind.bits .i64)))) (.int .i64 (IntKind.i64.wrap (4 + (Int.fdiv i_60 (2 ^ min (Int.toNat 4) (IntKind.bits .i64)))))) (.bool (decide ((fails_62 : Int) >= (IntKind.i64.wrap (4 + (Int.fdiv i_60 (2 ^ min (Int.toNat 4) (IntKind.bits .i64)))))))) (.int .i64 i_60) (.int .i64 t_61) (.bool (decide ((i_60 : Int) < t_61))) (decide ((i_60 : Int) < t_61)))
 (j77 s_55 substr_56 n_57 c0_58 c1_59 i_60 t_61 fails_62 x63 x64 x65 x66 x67 x68 x69 x70 x71 x72 x73 x74 (.int .i64 fails_62) (.int .i64 i_60) (.int .i64 (Int.fdiv i_60 (2 ^ min (Int.toNat 4) (IntKind.bits .i64)))) (.int .i64 (IntKind.i64.wrap (4 + (Int.fdiv i_60 (2 ^ min (Int.toNat 4) (IntKind.bits .i64)))))) (.bool (decide ((fails_62 : Int) >= (IntKind.i64.wrap (4 + (Int.fdiv i_60 (2 ^ min (Int.toNat 4) (IntKind.bits .i64)))))))) (.tuple ⟨[]⟩) (.tuple ⟨[]⟩) (.tuple ⟨[]⟩) false)))
 (j77 s_55 substr_56 n_57 c0_58 c1_59 i_60 t_61 fails_62 x63 x64 x65 x66 x67 x68 x69 x70 x71 x72 x73 x74 (.tuple ⟨[]⟩) (.tuple ⟨[]⟩) (.tuple ⟨[]⟩) (.tuple ⟨[]⟩) (.tuple ⟨[]⟩) (.tuple ⟨[]⟩) (.tuple ⟨[]⟩) (.tuple ⟨[]⟩) false))))) (fun j54 => rdT (rdC 0 0) kI (fun (x109 : Int) => brW (decide ((n_39 : Int) <= x109)) (callT Tryz.prog 155 [.int .i64 (IntKind.i64.wrap (i_42 + 1))] kI (fun (x110 : Int) =>
 j54 s_37 substr_38 n_39 c0_40 c1_41 (IntKind.i64.wrap (i_42 + 1)) t_43 (IntKind.i64.wrap (fails_44 + 1)) x45 x46 x47 x48 x49 x50 x51 x52 (.int .i64 (IntKind.i64.wrap (fails_44 + 1))) (.int .i64 (IntKind.i64.wrap (i_42 + 1))) (.int .i64 x110) (.bool (decide (((IntKind.i64.wrap (fails_44 + 1)) : Int) > x110))) (decide (((IntKind.i64.wrap (fails_44 + 1)) : Int) > x110))))
 (j54 s_37 substr_38 n_39 c0_40 c1_41 (IntKind.i64.wrap (i_42 + 1)) t_43 (IntKind.i64.wrap (fails_44 + 1)) x45 x46 x47 x48 x49 x50 x51 x52 (.tuple ⟨[]⟩) (.tuple ⟨[]⟩) (.tuple ⟨[]⟩) (.tuple ⟨[]⟩) false))))) (fun j36 => idxW s_28 (IntKind.i64.wrap (i_33 + 1)) (fun c111 => brW (((c111.toNat : Int) : Int) == c1_32) (ifW (bndOk (some (IntKind.i64.wrap (i_33 + n_30))) s_28.size /\ bndOk (some i_33) ((IntKind.i64.wrap (i_33 + n_30)).toNat))
 (j36 s_28 substr_29 n_30 c0_31 c1_32 i_33 t_34 fails_35 (.string s_28) (.int .i64 i_33) (.int .i64 i_33) (.int .i64 n_30) (.int .i64 (IntKind.i64.wrap (i_33 + n_30))) (.string (s_28.extract i_33.toNat ((IntKind.i64.wrap (i_33 + n_30)).toNat))) (.string substr_29) (.bool (strEq (s_28.extract i_33.toNat ((IntKind.i64.wrap (i_33 + n_30)).toNat)) substr_29)) (strEq (s_28.extract i_33.toNat ((IntKind.i64.wrap (i_33 + n_30)).toNat)) substr_29)))
 (j36 s_28 substr_29 n_30 c0_31 c1_32 i_33 t_34 fails_35 (.tuple ⟨[]⟩) (.tuple ⟨[]⟩) (.tuple ⟨[]⟩) (.tuple ⟨[]⟩) (.tuple ⟨[]⟩) (.tuple ⟨[]⟩) (.tuple ⟨[]⟩) (.tuple ⟨[]⟩) false)))) (fun j27 => idxW s_19 i_24 (fun c112 => brW (((c112.toNat : Int) : Int) != c0_22) (ifW (bndOk (some t_25) s_19.size /\ bndOk (some (IntKind.i64.wrap (i_24 + 1))) (t_25.toNat)) (callT Tryz.prog 133 [.string (s_19.extract ((IntKind.i64.wrap (i_24 + 1)).toNat) t_25.toNat), .int .u8 c0_22] kI (fun (x113 : Int) =>
 brW (decide ((x113 : Int) < 0)) (K (.int .i64 (-1))) (j27 s_19 substr_20 n_21 c0_22 c1_23 (IntKind.i64.wrap (i_24 + (IntKind.i64.wrap (x113 + 1)))) t_25 fails_26)))) (j27 s_19 substr_20 n_21 c0_22 c1_23 i_24 t_25 fails_26)))) (K (.int .i64 (-1))))) (fun (R114 : ByteArray -> ByteArray -> Int -> Int -> Int -> Int -> Int -> Int -> H -> Prop) => R114 s_11 substr_12 n_13 (c16.toNat : Int) (c17.toNat : Int) 0 (IntKind.i64.wrap ((IntKind.i64.wrap (((s_11.size : Nat) : Int) - n_13)) + 1)) 0))))) (fun j10 =>
 rdT (rdC 0 0) kI (fun (x115 : Int) => brW (decide ((n_6 : Int) <= x115)) (j10 s_4 substr_5 n_6 (decide ((((s_4.size : Nat) : Int) : Int) <= 64))) (j10 s_4 substr_5 n_6 false))))))) (fun j3 => brW ((((substr_2.size : Nat) : Int) : Int) == 0) (j3 s_1 substr_2 ((substr_2.size : Nat) : Int) true) (j3 s_1 substr_2 ((substr_2.size : Nat) : Int) (strEq substr_2 s_1)))
theorem e113 (s_1 : ByteArray) (substr_2 : ByteArray) (K : KH) : bodyF Tryz.prog tau Tryz.f113 an113 [.string s_1, .string substr_2] K = g113 s_1 substr_2 K := by kernel_rfl
theorem c113 (s_1 : ByteArray) (substr_2 : ByteArray) {K : KH} {σ : H} (h : g113 s_1 substr_2 K σ) : callW Tryz.prog 113 [.string s_1, .string substr_2] K σ := call_of_body mixed Tryz.func113 (by rw [e113]; exact h)


def an115 : Ann := (.q (.n (.q (.h)) (.q .z)))
def g115 (t_1 : Option Addr) (K : KH) : H -> Prop :=
 brW t_1.isNone (K (.int .i64 0)) (K (.int .i64 1))
theorem e115 (t_1 : Option Addr) (K : KH) : bodyF Tryz.prog tau Tryz.f115 an115 [.pointer t_1] K = g115 t_1 K := by kernel_rfl
theorem c115 (t_1 : Option Addr) {K : KH} {σ : H} (h : g115 t_1 K σ) : callW Tryz.prog 115 [.pointer t_1] K σ := call_of_body mixed Tryz.func115 (by rw [e115]; exact h)

end Go.Proofs.YthclifcpjnhmjaaGreatDoor

set_option maxRecDepth 100000
namespace Go.Proofs.YthclifcpjnhmjaaGreatDoor
open Go Go.HL
def an116 : Ann := (.q (.n (.q (.q (.h))) (.seq (some [(1,.i),(2,.s),(5,.p),(8,.p),(9,.p),(10,.p),(11,.p)]) (.q (.cond .r .z)) (.q (.seq (some [(10,.p),(11,.p),(13,.p)]) (.q (.blk (.rf [.s,.b] (.q .r) (.blk (.n (.blk (.q (.cond (.q .z) (.q (.cond (.q .z) (.q (.cond (.n (.reg (rn 8) [[],[0],[0,1],[0,1,2],[],[4],(rn 6),(rn 7)]) (.q .z)) (.q (.h))))))))) (.q (.n (.reg (rn 15) [[],[0],[0,1],[0,1,2],[],[4],[],(rn 7),(rn 8),(rn 9),(rn 9),(rn 10),[0,1,2,3,4,5,6,7,8,9,11],(rn 13),(rn 14)]) (.n (.seq (some [(5,.p),(9,.p),(10,.p),(11,.p),(13,.p),(105,.b)]) .r (.cond .z .z)) (.n (.q (.q (.h))) (.n (.reg (rn 13) [[],[0],[0,1],[0,1,2],[],[4],(rn 6),(rn 7),(rn 8),(rn 8),[],[0,1,2,3,4,5,6,7,8,10],(rn 12)]) (.q (.n (.q (.h)) .r)))))))))))) (.q .z))))))
def g116 (f_1 : Option Addr) (at_2 : Int) (path_3 : ByteArray) (follow_4 : Bool) (hops_5 : Option Addr) (K : KH) : H -> Prop :=
 alW (.cells ⟨[.pointer f_1]⟩ 24 (0, 0)) (fun b6 => alW (.cells ⟨[.bool follow_4]⟩ 4 (0, 0)) (fun b7 => alW (.cells ⟨[.pointer hops_5]⟩ 169 (0, 0)) (fun b8 => alW (.cells ⟨[.int .i64 0, .string (⟨⟨[]⟩⟩ : ByteArray), .int .i64 0, .bool false]⟩ 107 (0, 0)) (fun b9 => alW (.cells ⟨[.int .i64 0]⟩ 58 (0, 0)) (fun b10 => callT Tryz.prog 157 [.string path_3] kI (fun (x11 : Int) => brW ((x11 : Int) != 0)
 (stW Tryz.prog 107 (.pointer (some ⟨b9, 0, none⟩)) (.agg ⟨[.int .i64 0, .string (⟨⟨[]⟩⟩ : ByteArray), .int .i64 0, .bool false]⟩) (stW Tryz.prog 58 (.pointer (some ⟨b10, 0, none⟩)) (.int .i64 x11) (rdT (rdA 4 b9 0) (.one (.agg [(.int .i64), .str, (.int .i64), .bool])) (fun (r12 : Int) (r13 : ByteArray) (r14 : Int) (r15 : Bool) => rdT (rdC b10 0) kI (fun (r16 : Int) => K (.tuple ⟨[.agg ⟨[.int .i64 r12, .string r13, .int .i64 r14, .bool r15]⟩, .int .i64 r16]⟩))))))
 (letJ (T := Int -> ByteArray -> Option Addr -> Option Addr -> Option Addr -> Option Addr -> Option Addr -> H -> Prop) (fun at_18 path_19 f_20 follow_21 hops_22 x23 x24 => alW (.cells ⟨[.int .i64 0, .string (⟨⟨[]⟩⟩ : ByteArray), .int .i64 0, .bool false]⟩ 107 (0, 0)) (fun b25 => stW Tryz.prog 107 (.pointer (some ⟨b25, 0, none⟩)) (.agg ⟨[.int .i64 at_18, .string (⟨⟨[]⟩⟩ : ByteArray), .int .i64 at_18, .bool true]⟩) (letJ (T := Option Addr -> Option Addr -> Option Addr -> H -> Prop) (fun x27 x28 p_29 =>
 ptrW p_29 (fun b30 o31 => rdT (rdA 4 b30 o31) (.one (.agg [(.int .i64), .str, (.int .i64), .bool])) (fun (x32 : Int) (x33 : ByteArray) (x34 : Int) (x35 : Bool) => stW Tryz.prog 107 (.pointer x27) (.agg ⟨[.int .i64 x32, .string x33, .int .i64 x34, .bool x35]⟩) (stW Tryz.prog 58 (.pointer x28) (.int .i64 0) (ptrW x27 (fun b36 o37 => rdT (rdA 4 b36 o37) (.one (.agg [(.int .i64), .str, (.int .i64), .bool])) (fun (r38 : Int) (r39 : ByteArray) (r40 : Int) (r41 : Bool) => ptrW x28 (fun b42 o43 =>
 rdT (rdC b42 o43) kI (fun (r44 : Int) => K (.tuple ⟨[.agg ⟨[.int .i64 r38, .string r39, .int .i64 r40, .bool r41]⟩, .int .i64 r44]⟩)))))))))) (fun j26 => callT Tryz.prog 158 [.string path_19] kR (fun x45 => funW x45 (fun (g146 : FuncId) (as147 cs148 : List Value) => rfW Tryz.prog none g146 as147 cs148 [.sc .str, .sc .bool] (fun (l46 : Nat) (obj47 : LoopState -> Option Code -> Obj) (K48 : Value -> H -> Prop) => (fun (x49 : ByteArray) (x50 : Bool) => begW l46 obj47 (rdT (rdC b25 3) kB (fun x51 =>
 brW (!x51) (stW Tryz.prog 107 (.pointer x23) (.agg ⟨[.int .i64 0, .string (⟨⟨[]⟩⟩ : ByteArray), .int .i64 0, .bool false]⟩) (stW Tryz.prog 58 (.pointer x24) (.int .i64 5) (roundK l46 obj47 K48 (some .ret) false .done))) (ptrW f_20 (fun b52 o53 => rdT (rdC b52 o53) kP (fun x54 => rdT (rdC b25 2) kI (fun (x55 : Int) => callT Tryz.prog 117 [.pointer x54, .int .i64 x55] kI (fun (x56 : Int) => brW ((x56 : Int) != 2)
 (stW Tryz.prog 107 (.pointer x23) (.agg ⟨[.int .i64 0, .string (⟨⟨[]⟩⟩ : ByteArray), .int .i64 0, .bool false]⟩) (stW Tryz.prog 58 (.pointer x24) (.int .i64 8) (roundK l46 obj47 K48 (some .ret) false .done))) (brW (strEq x49 (⟨⟨[46, 46]⟩⟩ : ByteArray)) (ptrW f_20 (fun b57 o58 => rdT (rdC b57 o58) kP (fun x59 => ptrW x59 (fun b60 o61 => rdT (rdC b60 o61) kP (fun x62 => rdT (rdC b25 2) kI (fun (x63 : Int) => callT Tryz.prog 132 [.pointer x62, .int .i64 x63] kI (fun (x64 : Int) =>
 stW Tryz.prog 107 (.pointer (some ⟨b25, 0, none⟩)) (.agg ⟨[.int .i64 x64, .string (⟨⟨[]⟩⟩ : ByteArray), .int .i64 x64, .bool true]⟩) (roundK l46 obj47 K48 none true .ready)))))))) (brW (decide ((((x49.size : Nat) : Int) : Int) > 56)) (stW Tryz.prog 107 (.pointer x23) (.agg ⟨[.int .i64 0, .string (⟨⟨[]⟩⟩ : ByteArray), .int .i64 0, .bool false]⟩) (stW Tryz.prog 58 (.pointer x24) (.int .i64 3) (roundK l46 obj47 K48 (some .ret) false .done))) (rdT (rdC b25 2) kI (fun (x65 : Int) =>
 stW Tryz.prog 107 (.pointer (some ⟨b25, 0, none⟩)) (.agg ⟨[.int .i64 x65, .string x49, .int .i64 0, .bool false]⟩) (ptrW f_20 (fun b66 o67 => rdT (rdC b66 o67) kP (fun x68 => ptrW x68 (fun b69 o70 => rdT (rdC b69 o70) kP (fun x71 => rdT (rdC b25 0) kI (fun (x72 : Int) => callT Tryz.prog 159 [.pointer x71, .int .i64 x72, .string x49] (.tup [.sc (.int .i64), .sc .bool]) (fun (x73 : Int) (x74 : Bool) =>
 stW Tryz.prog 3 (.pointer (some ⟨b25, 2, none⟩)) (.int .i64 x73) (stW Tryz.prog 4 (.pointer (some ⟨b25, 3, none⟩)) (.bool x74) (letJ (T := Option Addr -> Option Addr -> Option Addr -> Option Addr -> Option Addr -> Bool -> H -> Prop) (fun f_76 hops_77 x78 x79 p_80 x81 => brW x81 (roundK l46 obj47 K48 none true .ready) (ptrW hops_77 (fun b82 o83 => rdT (rdC b82 o83) kP (fun x84 => ptrW x84 (fun b85 o86 => rdT (rdC b85 o86) kI (fun (x87 : Int) => ptrW x84 (fun b88 o89 =>
 stW Tryz.prog 3 (.pointer (some ⟨b88, o89, none⟩)) (.int .i64 (IntKind.i64.wrap (x87 - 1))) (ptrW hops_77 (fun b90 o91 => rdT (rdC b90 o91) kP (fun x92 => ptrW x92 (fun b93 o94 => rdT (rdC b93 o94) kI (fun (x95 : Int) => brW (decide ((x95 : Int) < 0)) (stW Tryz.prog 107 (.pointer x78) (.agg ⟨[.int .i64 0, .string (⟨⟨[]⟩⟩ : ByteArray), .int .i64 0, .bool false]⟩) (stW Tryz.prog 58 (.pointer x79) (.int .i64 9) (roundK l46 obj47 K48 (some .ret) false .done))) (ptrW f_76 (fun b96 o97 =>
 rdT (rdC b96 o97) kP (fun x98 => ptrW x98 (fun b99 o100 => rdT (rdC b99 o100) kP (fun x101 => ptrW p_80 (fun b102 o103 => rdT (rdC b102 (o103 + 2)) kI (fun (x104 : Int) => callT Tryz.prog 70 [.pointer x101, .int .i64 x104] (.tup [.agg [(.int .i64), (.int .i64), .str, (.int .i64)], .sc .bool]) (fun (x105 : Int) (x106 : Int) (x107 : ByteArray) (x108 : Int) (_x109 : Bool) => alW (.cells ⟨[.int .i64 0, .int .i64 0, .string (⟨⟨[]⟩⟩ : ByteArray), .int .i64 0]⟩ 113 (0, 0)) (fun b110 =>
 stW Tryz.prog 113 (.pointer (some ⟨b110, 0, none⟩)) (.agg ⟨[.int .i64 x105, .int .i64 x106, .string x107, .int .i64 x108]⟩) (ptrW f_76 (fun b111 o112 => rdT (rdC b111 o112) kP (fun x113 => ptrW p_80 (fun b114 o115 => rdT (rdC b114 o115) kI (fun (x116 : Int) => rdT (rdC b110 2) kS (fun (x117 : ByteArray) => ptrW hops_77 (fun b118 o119 => rdT (rdC b118 o119) kP (fun x120 =>
 callT Tryz.prog 116 [.pointer x113, .int .i64 x116, .string x117, .bool true, .pointer x120] (.tup [.agg [(.int .i64), .str, (.int .i64), .bool], .sc (.int .i64)]) (fun (x121 : Int) (x122 : ByteArray) (x123 : Int) (x124 : Bool) (x125 : Int) => alW (.cells ⟨[.int .i64 0, .string (⟨⟨[]⟩⟩ : ByteArray), .int .i64 0, .bool false]⟩ 107 (0, 0)) (fun b126 => stW Tryz.prog 107 (.pointer (some ⟨b126, 0, none⟩)) (.agg ⟨[.int .i64 x121, .string x122, .int .i64 x123, .bool x124]⟩) (brW ((x125 : Int) != 0)
 (stW Tryz.prog 107 (.pointer x78) (.agg ⟨[.int .i64 0, .string (⟨⟨[]⟩⟩ : ByteArray), .int .i64 0, .bool false]⟩) (stW Tryz.prog 58 (.pointer x79) (.int .i64 x125) (roundK l46 obj47 K48 (some .ret) false .done))) (rdT (rdA 4 b126 0) (.one (.agg [(.int .i64), .str, (.int .i64), .bool])) (fun (x127 : Int) (x128 : ByteArray) (x129 : Int) (x130 : Bool) =>
 stW Tryz.prog 107 (.pointer p_80) (.agg ⟨[.int .i64 x127, .string x128, .int .i64 x129, .bool x130]⟩) (roundK l46 obj47 K48 none true .ready))))))))))))))))))))))))))))))))))) (fun j75 => rdT (rdC b25 3) kB (fun x131 => brW (!x131) (j75 f_20 hops_22 x23 x24 (some ⟨b25, 0, none⟩) true) (brW x50 (ptrW follow_21 (fun b132 o133 => rdT (rdC b132 o133) kB (fun x134 => brW (!x134) (j75 f_20 hops_22 x23 x24 (some ⟨b25, 0, none⟩) true) (ptrW f_20 (fun b135 o136 => rdT (rdC b135 o136) kP (fun x137 =>
 rdT (rdC b25 2) kI (fun (x138 : Int) => callT Tryz.prog 117 [.pointer x137, .int .i64 x138] kI (fun (x139 : Int) => j75 f_20 hops_22 x23 x24 (some ⟨b25, 0, none⟩) ((x139 : Int) != 3))))))))) (ptrW f_20 (fun b140 o141 => rdT (rdC b140 o141) kP (fun x142 => rdT (rdC b25 2) kI (fun (x143 : Int) => callT Tryz.prog 117 [.pointer x142, .int .i64 x143] kI (fun (x144 : Int) => j75 f_20 hops_22 x23 x24 (some ⟨b25, 0, none⟩) ((x144 : Int) != 3)))))))))))))))))))))))))))))))
 (j26 x23 x24 (some ⟨b25, 0, none⟩)) (fun i145 => exW i145 0 (j26 x23 x24 (some ⟨b25, 0, none⟩)) (nW)) (ptrW x23 (fun b149 o150 => rdT (rdA 4 b149 o150) (.one (.agg [(.int .i64), .str, (.int .i64), .bool])) (fun (r151 : Int) (r152 : ByteArray) (r153 : Int) (r154 : Bool) => ptrW x24 (fun b155 o156 => rdT (rdC b155 o156) kI (fun (r157 : Int) => K (.tuple ⟨[.agg ⟨[.int .i64 r151, .string r152, .int .i64 r153, .bool r154]⟩, .int .i64 r157]⟩)))))))))))) (fun j17 => idxW path_3 0 (fun c158 =>
 brW (((c158.toNat : Int) : Int) == 47) (rdT (rdC b6 0) kP (fun x159 => ptrW x159 (fun b160 o161 => rdT (rdC b160 o161) kP (fun x162 => callT Tryz.prog 115 [.pointer x162] kI (fun (x163 : Int) => j17 x163 path_3 (some ⟨b6, 0, none⟩) (some ⟨b7, 0, none⟩) (some ⟨b8, 0, none⟩) (some ⟨b9, 0, none⟩) (some ⟨b10, 0, none⟩)))))) (j17 at_2 path_3 (some ⟨b6, 0, none⟩) (some ⟨b7, 0, none⟩) (some ⟨b8, 0, none⟩) (some ⟨b9, 0, none⟩) (some ⟨b10, 0, none⟩)))))))))))
theorem e116 (f_1 : Option Addr) (at_2 : Int) (path_3 : ByteArray) (follow_4 : Bool) (hops_5 : Option Addr) (K : KH) : bodyF Tryz.prog tau Tryz.f116 an116 [.pointer f_1, .int .i64 at_2, .string path_3, .bool follow_4, .pointer hops_5] K = g116 f_1 at_2 path_3 follow_4 hops_5 K := by kernel_rfl
theorem c116 (f_1 : Option Addr) (at_2 : Int) (path_3 : ByteArray) (follow_4 : Bool) (hops_5 : Option Addr) {K : KH} {σ : H} (h : g116 f_1 at_2 path_3 follow_4 hops_5 K σ) : callW Tryz.prog 116 [.pointer f_1, .int .i64 at_2, .string path_3, .bool follow_4, .pointer hops_5] K σ := call_of_body mixed Tryz.func116 (by rw [e116]; exact h)


def an117 : Ann := (.q (.q (.q .z)))
def g117 (f_1 : Option Addr) (ino_2 : Int) (K : KH) : H -> Prop :=
 ptrW f_1 (fun b3 o4 => rdT (rdC b3 o4) kP (fun x5 => callT Tryz.prog 70 [.pointer x5, .int .i64 ino_2] (.tup [.agg [(.int .i64), (.int .i64), .str, (.int .i64)], .sc .bool]) (fun (x6 : Int) (x7 : Int) (x8 : ByteArray) (x9 : Int) (_x10 : Bool) => alW (.cells ⟨[.int .i64 0, .int .i64 0, .string (⟨⟨[]⟩⟩ : ByteArray), .int .i64 0]⟩ 113 (0, 0)) (fun b11 =>
 stW Tryz.prog 113 (.pointer (some ⟨b11, 0, none⟩)) (.agg ⟨[.int .i64 x6, .int .i64 x7, .string x8, .int .i64 x9]⟩) (rdT (rdC b11 0) kI (fun (x12 : Int) => K (.int .i64 x12)))))))
theorem e117 (f_1 : Option Addr) (ino_2 : Int) (K : KH) : bodyF Tryz.prog tau Tryz.f117 an117 [.pointer f_1, .int .i64 ino_2] K = g117 f_1 ino_2 K := by kernel_rfl
theorem c117 (f_1 : Option Addr) (ino_2 : Int) {K : KH} {σ : H} (h : g117 f_1 ino_2 K σ) : callW Tryz.prog 117 [.pointer f_1, .int .i64 ino_2] K σ := call_of_body mixed Tryz.func117 (by rw [e117]; exact h)


def an118 : Ann := (.q (.seq (some [(0,.p),(1,.p),(2,.p),(4,.b)]) .r (.q (.q .z))))
def g118 (x1 : Option Addr) (x2 : Option Addr) (x3 : Option Addr) (K : KH) : H -> Prop :=
 letJ (T := Option Addr -> Option Addr -> Option Addr -> Bool -> H -> Prop) (fun x5 x6 x7 link_8 => alW (.map #[] 0) (fun b9 => muW Tryz.prog 170 (.map (some b9)) (.int .i64 1) (.bool true) (ptrW x5 (fun b10 o11 => rdT (rdC b10 o11) kS (fun (x12 : ByteArray) => muW Tryz.prog 170 (.map (some b9)) (.int .i64 2) (.bool (strEq x12 (⟨⟨[]⟩⟩ : ByteArray))) (muW Tryz.prog 170 (.map (some b9)) (.int .i64 3) (.bool link_8) (ptrW x6 (fun b13 o14 => rdT (rdC b13 o14) kI (fun (x15 : Int) =>
 rdT (rdM (.int .i64) (.bool false) false (some b9) (.int .i64 x15)) kB (fun x16 => brW x16 (ptrW x7 (fun b17 o18 => rdT (rdC b17 o18) kI (fun (x19 : Int) => brW (decide ((x19 : Int) >= 0)) (ptrW x7 (fun b20 o21 => rdT (rdC b20 o21) kI (fun (x22 : Int) => callT Tryz.prog 119 [.bool (decide ((x22 : Int) <= 511)), .int .i64 2] kI (fun (x23 : Int) => K (.int .i64 x23))))) (callT Tryz.prog 119 [.bool false, .int .i64 2] kI (fun (x24 : Int) => K (.int .i64 x24))))))
 (callT Tryz.prog 119 [.bool false, .int .i64 2] kI (fun (x25 : Int) => K (.int .i64 x25))))))))))))) (fun j4 => ptrW x1 (fun b26 o27 => rdT (rdC b26 o27) kS (fun (x28 : ByteArray) => brW (!strEq x28 (⟨⟨[]⟩⟩ : ByteArray)) (ptrW x1 (fun b29 o30 => rdT (rdC b29 o30) kS (fun (x31 : ByteArray) => brW (decide ((((x31.size : Nat) : Int) : Int) <= 255)) (ptrW x1 (fun b32 o33 => rdT (rdC b32 o33) kS (fun (x34 : ByteArray) => callT Tryz.prog 78 [.string x34, .int .u8 0] kI (fun (x35 : Int) =>
 j4 x1 x2 x3 (decide ((x35 : Int) < 0)))))) (j4 x1 x2 x3 false)))) (j4 x1 x2 x3 false))))
theorem e118 (x1 : Option Addr) (x2 : Option Addr) (x3 : Option Addr) (K : KH) : bodyF Tryz.prog tau Tryz.f118 an118 [.pointer x1, .pointer x2, .pointer x3] K = g118 x1 x2 x3 K := by kernel_rfl
theorem c118 (x1 : Option Addr) (x2 : Option Addr) (x3 : Option Addr) {K : KH} {σ : H} (h : g118 x1 x2 x3 K σ) : callW Tryz.prog 118 [.pointer x1, .pointer x2, .pointer x3] K σ := call_of_body mixed Tryz.func118 (by rw [e118]; exact h)


def an119 : Ann := (.q (.n (.q (.h)) (.q .z)))
def g119 (is_1 : Bool) (e_2 : Int) (K : KH) : H -> Prop :=
 brW (!is_1) (K (.int .i64 e_2)) (K (.int .i64 0))
theorem e119 (is_1 : Bool) (e_2 : Int) (K : KH) : bodyF Tryz.prog tau Tryz.f119 an119 [.bool is_1, .int .i64 e_2] K = g119 is_1 e_2 K := by kernel_rfl
theorem c119 (is_1 : Bool) (e_2 : Int) {K : KH} {σ : H} (h : g119 is_1 e_2 K σ) : callW Tryz.prog 119 [.bool is_1, .int .i64 e_2] K σ := call_of_body mixed Tryz.func119 (by rw [e119]; exact h)


def an120 : Ann := (.q (.n (.q (.blk (.loop [(6,.l),(7,.i),(8,.i)] (.q (.n (.cond .z .z) (.n (.blk (.q (.q (.q (.h))))) .r)))))) (.q .z)))
def g120 (asked_1 : Sl) (K : KH) : H -> Prop :=
 loopW [.sc .slc, .sc (.int .i64), .sc (.int .i64)] (fun (R2 : Sl -> Int -> Int -> H -> Prop) => (fun (x3 : Sl) (x4 : Int) (x5 : Int) => brW (decide ((x5 : Int) < x4)) (ptrW x3.base (fun b6 o7 => ifW (0 <= x5 /\ x5 < ((x3.len : Nat) : Int)) (rdT (rdC b6 (o7 + x5.toNat * 1)) kR (fun x8 => cvalT Tryz.prog x8 [] kI (fun (x9 : Int) => brW ((x9 : Int) != 0) (K (.int .i64 x9)) (R2 x3 x4 (IntKind.i64.wrap (x5 + 1))))))))
 (K (.int .i64 0)))) (fun (R10 : Sl -> Int -> Int -> H -> Prop) => R10 asked_1 ((asked_1.len : Nat) : Int) 0)
theorem e120 (asked_1 : Sl) (K : KH) : bodyF Tryz.prog tau Tryz.f120 an120 [.slice asked_1.base asked_1.len asked_1.cap] K = g120 asked_1 K := by kernel_rfl
theorem c120 (asked_1 : Sl) {K : KH} {σ : H} (h : g120 asked_1 K σ) : callW Tryz.prog 120 [.slice asked_1.base asked_1.len asked_1.cap] K σ := call_of_body mixed Tryz.func120 (by rw [e120]; exact h)


def an121 : Ann := (.q (.q .z))
def g121 (t_1 : Option Addr) (K : KH) : H -> Prop :=
 callT Tryz.prog 119 [.bool (!t_1.isNone), .int .i64 1] kI (fun (x2 : Int) => K (.int .i64 x2))
theorem e121 (t_1 : Option Addr) (K : KH) : bodyF Tryz.prog tau Tryz.f121 an121 [.pointer t_1] K = g121 t_1 K := by kernel_rfl
theorem c121 (t_1 : Option Addr) {K : KH} {σ : H} (h : g121 t_1 K σ) : callW Tryz.prog 121 [.pointer t_1] K σ := call_of_body mixed Tryz.func121 (by rw [e121]; exact h)


def an122 : Ann := (.q (.q .z))
def g122 (t_1 : Option Addr) (ino_2 : Int) (K : KH) : H -> Prop :=
 alW (.cells ⟨[.pointer t_1]⟩ 92 (0, 0)) (fun b3 => alW (.cells ⟨[.int .i64 ino_2]⟩ 3 (0, 0)) (fun b4 => K (.func (.func 160) ⟨[]⟩ ⟨[.pointer (some ⟨b3, 0, none⟩), .pointer (some ⟨b4, 0, none⟩)]⟩)))
theorem e122 (t_1 : Option Addr) (ino_2 : Int) (K : KH) : bodyF Tryz.prog tau Tryz.f122 an122 [.pointer t_1, .int .i64 ino_2] K = g122 t_1 ino_2 K := by kernel_rfl
theorem c122 (t_1 : Option Addr) (ino_2 : Int) {K : KH} {σ : H} (h : g122 t_1 ino_2 K σ) : callW Tryz.prog 122 [.pointer t_1, .int .i64 ino_2] K σ := call_of_body mixed Tryz.func122 (by rw [e122]; exact h)


def an123 : Ann := (.q (.q .z))
def g123 (name_1 : ByteArray) (K : KH) : H -> Prop :=
 alW (.cells ⟨[.string name_1]⟩ 9 (0, 0)) (fun b2 => K (.func (.func 161) ⟨[]⟩ ⟨[.pointer (some ⟨b2, 0, none⟩)]⟩))
theorem e123 (name_1 : ByteArray) (K : KH) : bodyF Tryz.prog tau Tryz.f123 an123 [.string name_1] K = g123 name_1 K := by kernel_rfl
theorem c123 (name_1 : ByteArray) {K : KH} {σ : H} (h : g123 name_1 K σ) : callW Tryz.prog 123 [.string name_1] K σ := call_of_body mixed Tryz.func123 (by rw [e123]; exact h)


def an124 : Ann := (.q (.q .z))
def g124 (t_1 : Option Addr) (dir_2 : Int) (name_3 : ByteArray) (K : KH) : H -> Prop :=
 alW (.cells ⟨[.pointer t_1]⟩ 92 (0, 0)) (fun b4 => alW (.cells ⟨[.int .i64 dir_2]⟩ 3 (0, 0)) (fun b5 => alW (.cells ⟨[.string name_3]⟩ 9 (0, 0)) (fun b6 => K (.func (.func 163) ⟨[]⟩ ⟨[.pointer (some ⟨b4, 0, none⟩), .pointer (some ⟨b5, 0, none⟩), .pointer (some ⟨b6, 0, none⟩)]⟩))))
theorem e124 (t_1 : Option Addr) (dir_2 : Int) (name_3 : ByteArray) (K : KH) : bodyF Tryz.prog tau Tryz.f124 an124 [.pointer t_1, .int .i64 dir_2, .string name_3] K = g124 t_1 dir_2 name_3 K := by kernel_rfl
theorem c124 (t_1 : Option Addr) (dir_2 : Int) (name_3 : ByteArray) {K : KH} {σ : H} (h : g124 t_1 dir_2 name_3 K σ) : callW Tryz.prog 124 [.pointer t_1, .int .i64 dir_2, .string name_3] K σ := call_of_body mixed Tryz.func124 (by rw [e124]; exact h)


def an125 : Ann := (.q (.q .z))
def g125 (x1 : Option Addr) (x2 : Option Addr) (K : KH) : H -> Prop :=
 ptrW x1 (fun b3 o4 => rdT (rdC b3 o4) kP (fun x5 => ptrW x2 (fun b6 o7 => rdT (rdC b6 o7) kS (fun (x8 : ByteArray) => callT Tryz.prog 126 [.pointer x5, .int .i64 1, .int .i64 ((x8.size : Nat) : Int)] kR (fun x9 => cvalT Tryz.prog x9 [] kI (fun (x10 : Int) => K (.int .i64 x10)))))))
theorem e125 (x1 : Option Addr) (x2 : Option Addr) (K : KH) : bodyF Tryz.prog tau Tryz.f125 an125 [.pointer x1, .pointer x2] K = g125 x1 x2 K := by kernel_rfl
theorem c125 (x1 : Option Addr) (x2 : Option Addr) {K : KH} {σ : H} (h : g125 x1 x2 K σ) : callW Tryz.prog 125 [.pointer x1, .pointer x2] K σ := call_of_body mixed Tryz.func125 (by rw [e125]; exact h)


def an126 : Ann := (.q (.q .z))
def g126 (t_1 : Option Addr) (inodes_2 : Int) (bytes_3 : Int) (K : KH) : H -> Prop :=
 alW (.cells ⟨[.pointer t_1]⟩ 92 (0, 0)) (fun b4 => alW (.cells ⟨[.int .i64 inodes_2]⟩ 3 (0, 0)) (fun b5 => alW (.cells ⟨[.int .i64 bytes_3]⟩ 3 (0, 0)) (fun b6 => K (.func (.func 164) ⟨[]⟩ ⟨[.pointer (some ⟨b4, 0, none⟩), .pointer (some ⟨b5, 0, none⟩), .pointer (some ⟨b6, 0, none⟩)]⟩))))
theorem e126 (t_1 : Option Addr) (inodes_2 : Int) (bytes_3 : Int) (K : KH) : bodyF Tryz.prog tau Tryz.f126 an126 [.pointer t_1, .int .i64 inodes_2, .int .i64 bytes_3] K = g126 t_1 inodes_2 bytes_3 K := by kernel_rfl
theorem c126 (t_1 : Option Addr) (inodes_2 : Int) (bytes_3 : Int) {K : KH} {σ : H} (h : g126 t_1 inodes_2 bytes_3 K σ) : callW Tryz.prog 126 [.pointer t_1, .int .i64 inodes_2, .int .i64 bytes_3] K σ := call_of_body mixed Tryz.func126 (by rw [e126]; exact h)


def an127 : Ann := (.q (.n (.q (.h)) (.q .z)))
def g127 (t_1 : Option Addr) (ino_2 : Int) (K : KH) : H -> Prop :=
 brW t_1.isNone (K (.pointer none)) (ptrW t_1 (fun b3 o4 => rdT (rdC b3 (o4 + 4)) kM (fun (x5 : Option Nat) => rdT (rdM (.int .i64) (.pointer none) false x5 (.int .i64 ino_2)) kP (fun x6 => K (.pointer x6)))))
theorem e127 (t_1 : Option Addr) (ino_2 : Int) (K : KH) : bodyF Tryz.prog tau Tryz.f127 an127 [.pointer t_1, .int .i64 ino_2] K = g127 t_1 ino_2 K := by kernel_rfl
theorem c127 (t_1 : Option Addr) (ino_2 : Int) {K : KH} {σ : H} (h : g127 t_1 ino_2 K σ) : callW Tryz.prog 127 [.pointer t_1, .int .i64 ino_2] K σ := call_of_body mixed Tryz.func127 (by rw [e127]; exact h)


def an128 : Ann := (.q (.n (.reg (rn 18) [[],[],[1],[],[3],[3,4],[3,4,5],[],[3,4,5,6,7],[3,4,5,6,7,8],[3,4,5,6,7,8,9],[3,4,5,6,7,8,9,10],[3,4,5,6,7,8,9,10,11],[3,4,5,6,7,8,9,10,11,12],[1,2,3,4,5,6,7,8,9,10,11,12,13],(rn 15),(rn 16),(rn 17)]) .z))
def g128 (x1 : Option Addr) (x2 : Option Addr) (x3 : Option Addr) (K : KH) : H -> Prop :=
 ptrW x1 (fun b4 o5 => rdT (rdC b4 o5) kP (fun x6 => ptrW x2 (fun b7 o8 => rdT (rdC b7 o8) kS (fun (x9 : ByteArray) => ptrW x1 (fun b10 o11 => rdT (rdC b10 o11) kP (fun x12 => ptrW x12 (fun b13 o14 => rdT (rdC b13 (o14 + 4)) kM (fun (x15 : Option Nat) => ptrW x3 (fun b16 o17 => rdT (rdC b16 o17) kI (fun (x18 : Int) => rdT (rdM (.int .i64) (.pointer none) false x15 (.int .i64 x18)) kP (fun x19 => ptrW x19 (fun b20 o21 => rdT (rdC b20 (o21 + 2)) kS (fun (x22 : ByteArray) =>
 callT Tryz.prog 126 [.pointer x6, .int .i64 0, .int .i64 (IntKind.i64.wrap (((x9.size : Nat) : Int) - ((x22.size : Nat) : Int)))] kR (fun x23 => cvalT Tryz.prog x23 [] kI (fun (x24 : Int) => K (.int .i64 x24))))))))))))))))
theorem e128 (x1 : Option Addr) (x2 : Option Addr) (x3 : Option Addr) (K : KH) : bodyF Tryz.prog tau Tryz.f128 an128 [.pointer x1, .pointer x2, .pointer x3] K = g128 x1 x2 x3 K := by kernel_rfl
theorem c128 (x1 : Option Addr) (x2 : Option Addr) (x3 : Option Addr) {K : KH} {σ : H} (h : g128 x1 x2 x3 K σ) : callW Tryz.prog 128 [.pointer x1, .pointer x2, .pointer x3] K σ := call_of_body mixed Tryz.func128 (by rw [e128]; exact h)


def an129 : Ann := (.q (.q .z))
def g129 (t_1 : Option Addr) (ino_2 : Int) (K : KH) : H -> Prop :=
 alW (.cells ⟨[.pointer t_1]⟩ 92 (0, 0)) (fun b3 => alW (.cells ⟨[.int .i64 ino_2]⟩ 3 (0, 0)) (fun b4 => K (.func (.func 165) ⟨[]⟩ ⟨[.pointer (some ⟨b3, 0, none⟩), .pointer (some ⟨b4, 0, none⟩)]⟩)))
theorem e129 (t_1 : Option Addr) (ino_2 : Int) (K : KH) : bodyF Tryz.prog tau Tryz.f129 an129 [.pointer t_1, .int .i64 ino_2] K = g129 t_1 ino_2 K := by kernel_rfl
theorem c129 (t_1 : Option Addr) (ino_2 : Int) {K : KH} {σ : H} (h : g129 t_1 ino_2 K σ) : callW Tryz.prog 129 [.pointer t_1, .int .i64 ino_2] K σ := call_of_body mixed Tryz.func129 (by rw [e129]; exact h)


def an130 : Ann := (.q (.q .z))
def g130 (x1 : Option Addr) (K : KH) : H -> Prop :=
 ptrW x1 (fun b2 o3 => rdT (rdC b2 o3) kI (fun (x4 : Int) => brW (decide ((x4 : Int) >= 0)) (ptrW x1 (fun b5 o6 => rdT (rdC b5 o6) kI (fun (x7 : Int) => callT Tryz.prog 119 [.bool (decide ((x7 : Int) <= 511)), .int .i64 2] kI (fun (x8 : Int) => K (.int .i64 x8))))) (callT Tryz.prog 119 [.bool false, .int .i64 2] kI (fun (x9 : Int) => K (.int .i64 x9)))))
theorem e130 (x1 : Option Addr) (K : KH) : bodyF Tryz.prog tau Tryz.f130 an130 [.pointer x1] K = g130 x1 K := by kernel_rfl
theorem c130 (x1 : Option Addr) {K : KH} {σ : H} (h : g130 x1 K σ) : callW Tryz.prog 130 [.pointer x1] K σ := call_of_body mixed Tryz.func130 (by rw [e130]; exact h)


def an131 : Ann := (.q (.q .z))
def g131 (x1 : Option Addr) (x2 : Option Addr) (K : KH) : H -> Prop :=
 ptrW x1 (fun b3 o4 => rdT (rdC b3 o4) kP (fun x5 => ptrW x2 (fun b6 o7 => rdT (rdC b6 o7) kI (fun (x8 : Int) => callT Tryz.prog 127 [.pointer x5, .int .i64 x8] kP (fun x9 => callT Tryz.prog 119 [.bool (!x9.isNone), .int .i64 5] kI (fun (x10 : Int) => K (.int .i64 x10)))))))
theorem e131 (x1 : Option Addr) (x2 : Option Addr) (K : KH) : bodyF Tryz.prog tau Tryz.f131 an131 [.pointer x1, .pointer x2] K = g131 x1 x2 K := by kernel_rfl
theorem c131 (x1 : Option Addr) (x2 : Option Addr) {K : KH} {σ : H} (h : g131 x1 x2 K σ) : callW Tryz.prog 131 [.pointer x1, .pointer x2] K σ := call_of_body mixed Tryz.func131 (by rw [e131]; exact h)


def an132 : Ann := (.q (.q (.n (.q (.h)) (.q .z))))
def g132 (t_1 : Option Addr) (dir_2 : Int) (K : KH) : H -> Prop :=
 callT Tryz.prog 127 [.pointer t_1, .int .i64 dir_2] kP (fun x3 => brW x3.isNone (K (.int .i64 0)) (ptrW x3 (fun b4 o5 => rdT (rdC b4 (o5 + 4)) kI (fun (x6 : Int) => K (.int .i64 x6)))))
theorem e132 (t_1 : Option Addr) (dir_2 : Int) (K : KH) : bodyF Tryz.prog tau Tryz.f132 an132 [.pointer t_1, .int .i64 dir_2] K = g132 t_1 dir_2 K := by kernel_rfl
theorem c132 (t_1 : Option Addr) (dir_2 : Int) {K : KH} {σ : H} (h : g132 t_1 dir_2 K σ) : callW Tryz.prog 132 [.pointer t_1, .int .i64 dir_2] K σ := call_of_body mixed Tryz.func132 (by rw [e132]; exact h)


def an133 : Ann := (.q (.q .z))
def g133 (s_1 : ByteArray) (c_2 : Int) (K : KH) : H -> Prop :=
 cvalT Tryz.prog (.func (.func 166) ⟨[]⟩ ⟨[]⟩) [.string s_1, .int .u8 c_2] kI (fun (x3 : Int) => K (.int .i64 x3))
theorem e133 (s_1 : ByteArray) (c_2 : Int) (K : KH) : bodyF Tryz.prog tau Tryz.f133 an133 [.string s_1, .int .u8 c_2] K = g133 s_1 c_2 K := by kernel_rfl
theorem c133 (s_1 : ByteArray) (c_2 : Int) {K : KH} {σ : H} (h : g133 s_1 c_2 K σ) : callW Tryz.prog 133 [.string s_1, .int .u8 c_2] K σ := call_of_body mixed Tryz.func133 (by rw [e133]; exact h)


def an134 : Ann := (.q (.n (.q (.h)) (.n (.q (.h)) (.n (.q (.blk (.loop [(0,.p),(1,.i),(2,.s),(3,.b),(4,.p),(10,.p),(12,.i)] (.n (.q (.cond .z .z)) (.n (.blk (.q (.h))) .r))))) (.seq (some [(0,.p),(1,.i),(2,.s),(3,.b),(4,.p),(10,.p)]) (.q (.cond .r .z)) (.q (.q (.n (.q (.blk (.loop [(0,.p),(3,.b),(4,.p),(10,.p),(13,.p),(14,.l),(15,.i)] (.n (.q (.cond .z .z)) (.seq (some [(0,.p),(3,.b),(4,.p),(10,.p),(13,.p),(14,.l),(15,.i),(76,.w),(79,.w),(80,.w),(81,.w),(84,.w),(85,.w),(86,.w),(87,.w),(88,.w),(89,.w),(90,.w),(91,.w),(92,.w),(93,.w),(94,.w),(95,.w)]) (.blk (.n (.q (.h)) (.n (.reg (rn 14) [[],[],[1],[],[],[3,4],[3,4,5],(rn 7),(rn 8),(rn 9),(rn 9),[],[0,1,2,3,4,5,6,7,8,9,11],(rn 13)]) (.n (.q (.h)) (.q (.seq (some [(0,.p),(3,.b),(4,.p),(10,.p),(13,.p),(14,.l),(15,.i),(76,.w),(79,.w),(80,.w),(81,.w),(84,.w),(85,.w),(86,.w),(87,.w),(88,.w),(89,.w),(90,.w),(91,.w),(92,.w),(93,.w),(94,.w),(95,.w),(96,.b)]) (.reg (rn 27) [[],[0],[],[2],(rn 4),(rn 5),(rn 6),(rn 7),(rn 8),(rn 9),(rn 10),(rn 11),(rn 12),(rn 13),(rn 14),(rn 15),(rn 16),(rn 17),(rn 14),[0,1,2,3,4,5,6,7,8,9,10,11,12,13,18],(rn 20),(rn 21),(rn 22),(rn 23),(rn 24),(rn 25),(rn 26)]) (.cond (.q (.n (.q (.h)) (.n (.reg (rn 21) [[],[],[1],[],[3],[3,4],[3,4,5],[],[7],[3,4,5,6,7,8],[3,4,5,6,7,8,9],[3,4,5,6,7,8,9,10],[3,4,5,6,7,8,9,10,11],[3,4,5,6,7,8,9,10,11,12],[],(rn 15),(rn 16),(rn 17),(rn 17),(rn 18),(rn 20)]) (.q (.h))))) .z))))))) .r))))) (.q .z)))))))))
def g134 (f_1 : Option Addr) (at_2 : Int) (path_3 : ByteArray) (follow_4 : Bool) (hops_5 : Option Addr) (K : KH) : H -> Prop :=
 alW (.cells ⟨[.int .i64 0, .string (⟨⟨[]⟩⟩ : ByteArray), .int .i64 0]⟩ 125 (0, 0)) (fun b6 => brW (strEq path_3 (⟨⟨[]⟩⟩ : ByteArray)) (stW Tryz.prog 125 (.pointer (some ⟨b6, 0, none⟩)) (.agg ⟨[.int .i64 0, .string (⟨⟨[]⟩⟩ : ByteArray), .int .i64 0]⟩) (rdT (rdA 3 b6 0) (.one (.agg [(.int .i64), .str, (.int .i64)])) (fun (r7 : Int) (r8 : ByteArray) (r9 : Int) => K (.tuple ⟨[.agg ⟨[.int .i64 r7, .string r8, .int .i64 r9]⟩, .int .i64 5]⟩))))
 (brW (decide ((((path_3.size : Nat) : Int) : Int) > 255)) (stW Tryz.prog 125 (.pointer (some ⟨b6, 0, none⟩)) (.agg ⟨[.int .i64 0, .string (⟨⟨[]⟩⟩ : ByteArray), .int .i64 0]⟩) (rdT (rdA 3 b6 0) (.one (.agg [(.int .i64), .str, (.int .i64)])) (fun (r10 : Int) (r11 : ByteArray) (r12 : Int) => K (.tuple ⟨[.agg ⟨[.int .i64 r10, .string r11, .int .i64 r12]⟩, .int .i64 3]⟩))))
 (loopW [.sc .ptr, .sc (.int .i64), .sc .str, .sc .bool, .sc .ptr, .sc .ptr, .sc (.int .i64)] (fun (R13 : Option Addr -> Int -> ByteArray -> Bool -> Option Addr -> Option Addr -> Int -> H -> Prop) => (fun (f_14 : Option Addr) (at_15 : Int) (path_16 : ByteArray) (follow_17 : Bool) (hops_18 : Option Addr) (x19 : Option Addr) (i_20 : Int) => brW (decide ((i_20 : Int) < ((path_16.size : Nat) : Int))) (idxW path_16 i_20 (fun c21 => brW (((c21.toNat : Int) : Int) == 0)
 (stW Tryz.prog 125 (.pointer x19) (.agg ⟨[.int .i64 0, .string (⟨⟨[]⟩⟩ : ByteArray), .int .i64 0]⟩) (ptrW x19 (fun b22 o23 => rdT (rdA 3 b22 o23) (.one (.agg [(.int .i64), .str, (.int .i64)])) (fun (r24 : Int) (r25 : ByteArray) (r26 : Int) => K (.tuple ⟨[.agg ⟨[.int .i64 r24, .string r25, .int .i64 r26]⟩, .int .i64 2]⟩))))) (R13 f_14 at_15 path_16 follow_17 hops_18 x19 (IntKind.i64.wrap (i_20 + 1)))))
 (letJ (T := Option Addr -> Int -> ByteArray -> Bool -> Option Addr -> Option Addr -> H -> Prop) (fun f_28 at_29 path_30 follow_31 hops_32 x33 => alW (.cells ⟨[.int .i64 0, .string (⟨⟨[]⟩⟩ : ByteArray), .int .i64 0]⟩ 125 (0, 0)) (fun b34 => stW Tryz.prog 125 (.pointer (some ⟨b34, 0, none⟩)) (.agg ⟨[.int .i64 at_29, .string (⟨⟨[]⟩⟩ : ByteArray), .int .i64 at_29]⟩) (callT Tryz.prog 167 [.string path_30] kL (fun x35 =>
 loopW [.sc .ptr, .sc .bool, .sc .ptr, .sc .ptr, .sc .ptr, .sc .slc, .sc (.int .i64)] (fun (R36 : Option Addr -> Bool -> Option Addr -> Option Addr -> Option Addr -> Sl -> Int -> H -> Prop) => (fun (f_37 : Option Addr) (follow_38 : Bool) (hops_39 : Option Addr) (x40 : Option Addr) (p_41 : Option Addr) (l_42 : Sl) (i_43 : Int) => brW (decide ((i_43 : Int) < ((l_42.len : Nat) : Int)))
 (letJ (T := Option Addr -> Bool -> Option Addr -> Option Addr -> Option Addr -> Sl -> Int -> Value -> Value -> Value -> Value -> Value -> Value -> Value -> Value -> Value -> Value -> Value -> Value -> Value -> Value -> Value -> Value -> H -> Prop) (fun f_45 follow_46 hops_47 x48 p_49 l_50 i_51 _x52 _x53 _x54 _x55 _x56 _x57 _x58 _x59 _x60 _x61 _x62 _x63 _x64 _x65 _x66 _x67 => R36 f_45 follow_46 hops_47 x48 p_49 l_50 (IntKind.i64.wrap (i_51 + 1))) (fun j44 => ptrW p_41 (fun b68 o69 =>
 rdT (rdC b68 (o69 + 2)) kI (fun (x70 : Int) => brW (decide ((x70 : Int) < 0)) (stW Tryz.prog 125 (.pointer x40) (.agg ⟨[.int .i64 0, .string (⟨⟨[]⟩⟩ : ByteArray), .int .i64 0]⟩) (ptrW x40 (fun b71 o72 => rdT (rdA 3 b71 o72) (.one (.agg [(.int .i64), .str, (.int .i64)])) (fun (r73 : Int) (r74 : ByteArray) (r75 : Int) => K (.tuple ⟨[.agg ⟨[.int .i64 r73, .string r74, .int .i64 r75]⟩, .int .i64 5]⟩))))) (ptrW p_41 (fun b76 o77 => rdT (rdC b76 (o77 + 2)) kI (fun (x78 : Int) =>
 ptrW l_42.base (fun b79 o80 => ifW (0 <= i_43 /\ i_43 < ((l_42.len : Nat) : Int)) (rdT (rdC b79 (o80 + i_43.toNat * 1)) kS (fun (x81 : ByteArray) => callT Tryz.prog 168 [.pointer f_37, .int .i64 x78, .string x81] (.tup [.agg [(.int .i64), .str, (.int .i64)], .sc (.int .i64)]) (fun (x82 : Int) (x83 : ByteArray) (x84 : Int) (x85 : Int) => alW (.cells ⟨[.int .i64 0, .string (⟨⟨[]⟩⟩ : ByteArray), .int .i64 0]⟩ 125 (0, 0)) (fun b86 =>
 stW Tryz.prog 125 (.pointer (some ⟨b86, 0, none⟩)) (.agg ⟨[.int .i64 x82, .string x83, .int .i64 x84]⟩) (brW ((x85 : Int) != 0) (stW Tryz.prog 125 (.pointer x40) (.agg ⟨[.int .i64 0, .string (⟨⟨[]⟩⟩ : ByteArray), .int .i64 0]⟩) (ptrW x40 (fun b87 o88 => rdT (rdA 3 b87 o88) (.one (.agg [(.int .i64), .str, (.int .i64)])) (fun (r89 : Int) (r90 : ByteArray) (r91 : Int) => K (.tuple ⟨[.agg ⟨[.int .i64 r89, .string r90, .int .i64 r91]⟩, .int .i64 x85]⟩)))))
 (rdT (rdA 3 b86 0) (.one (.agg [(.int .i64), .str, (.int .i64)])) (fun (x92 : Int) (x93 : ByteArray) (x94 : Int) =>
 stW Tryz.prog 125 (.pointer p_41) (.agg ⟨[.int .i64 x92, .string x93, .int .i64 x94]⟩) (letJ (T := Option Addr -> Bool -> Option Addr -> Option Addr -> Option Addr -> Sl -> Int -> Value -> Value -> Value -> Value -> Value -> Value -> Value -> Value -> Value -> Value -> Value -> Value -> Value -> Value -> Value -> Value -> Bool -> H -> Prop) (fun f_96 follow_97 hops_98 x99 p_100 l_101 i_102 x103 x104 x105 x106 x107 x108 x109 x110 x111 x112 x113 x114 x115 x116 x117 x118 x119 => brW x119 (ptrW hops_98 (fun b120 o121 =>
 rdT (rdC b120 o121) kI (fun (x122 : Int) => ptrW hops_98 (fun b123 o124 => stW Tryz.prog 3 (.pointer (some ⟨b123, o124, none⟩)) (.int .i64 (IntKind.i64.wrap (x122 - 1))) (ptrW hops_98 (fun b125 o126 => rdT (rdC b125 o126) kI (fun (x127 : Int) => brW (decide ((x127 : Int) < 0)) (stW Tryz.prog 125 (.pointer x99) (.agg ⟨[.int .i64 0, .string (⟨⟨[]⟩⟩ : ByteArray), .int .i64 0]⟩) (ptrW x99 (fun b128 o129 =>
 rdT (rdA 3 b128 o129) (.one (.agg [(.int .i64), .str, (.int .i64)])) (fun (r130 : Int) (r131 : ByteArray) (r132 : Int) => K (.tuple ⟨[.agg ⟨[.int .i64 r130, .string r131, .int .i64 r132]⟩, .int .i64 9]⟩))))) (ptrW p_100 (fun b133 o134 => rdT (rdC b133 o134) kI (fun (x135 : Int) => ptrW f_96 (fun b136 o137 => rdT (rdC b136 (o137 + 2)) kL (fun x138 => ptrW p_100 (fun b139 o140 => rdT (rdC b139 (o140 + 2)) kI (fun (x141 : Int) => ptrW x138.base (fun b142 o143 =>
 ifW (0 <= x141 /\ x141 < ((x138.len : Nat) : Int)) (rdT (rdC b142 (o143 + x141.toNat * 1)) kP (fun x144 => ptrW x144 (fun b145 o146 => rdT (rdC b145 (o146 + 2)) kS (fun (x147 : ByteArray) => callT Tryz.prog 134 [.pointer f_96, .int .i64 x135, .string x147, .bool true, .pointer hops_98] (.tup [.agg [(.int .i64), .str, (.int .i64)], .sc (.int .i64)]) (fun (x148 : Int) (x149 : ByteArray) (x150 : Int) (x151 : Int) =>
 stW Tryz.prog 125 (.pointer p_100) (.agg ⟨[.int .i64 x148, .string x149, .int .i64 x150]⟩) (brW ((x151 : Int) != 0) (stW Tryz.prog 125 (.pointer x99) (.agg ⟨[.int .i64 0, .string (⟨⟨[]⟩⟩ : ByteArray), .int .i64 0]⟩) (ptrW x99 (fun b152 o153 => rdT (rdA 3 b152 o153) (.one (.agg [(.int .i64), .str, (.int .i64)])) (fun (r154 : Int) (r155 : ByteArray) (r156 : Int) => K (.tuple ⟨[.agg ⟨[.int .i64 r154, .string r155, .int .i64 r156]⟩, .int .i64 x151]⟩)))))
 (j44 f_96 follow_97 hops_98 x99 p_100 l_101 i_102 x103 x104 x105 x106 x107 x108 x109 x110 x111 x112 x113 x114 x115 x116 x117 x118)))))))))))))))))))))) (j44 f_96 follow_97 hops_98 x99 p_100 l_101 i_102 x103 x104 x105 x106 x107 x108 x109 x110 x111 x112 x113 x114 x115 x116 x117 x118)) (fun j95 => brW (decide (((IntKind.i64.wrap (i_43 + 1)) : Int) < ((l_42.len : Nat) : Int))) (ptrW p_41 (fun b157 o158 => rdT (rdC b157 (o158 + 2)) kI (fun (x159 : Int) => brW (decide ((x159 : Int) >= 0))
 (ptrW f_37 (fun b160 o161 => rdT (rdC b160 (o161 + 2)) kL (fun x162 => ptrW p_41 (fun b163 o164 => rdT (rdC b163 (o164 + 2)) kI (fun (x165 : Int) => ptrW x162.base (fun b166 o167 => ifW (0 <= x165 /\ x165 < ((x162.len : Nat) : Int)) (rdT (rdC b166 (o167 + x165.toNat * 1)) kP (fun x168 => ptrW x168 (fun b169 o170 => rdT (rdC b169 o170) kI (fun (x171 : Int) =>
 j95 f_37 follow_38 hops_39 x40 p_41 l_42 i_43 (.tuple ⟨[]⟩) (.pointer (some ⟨b157, o158 + 2, none⟩)) (.int .i64 x159) (.bool (decide ((x159 : Int) >= 0))) (.pointer f_37) (.pointer (some ⟨b160, o161, none⟩)) (.pointer (some ⟨b160, o161 + 2, none⟩)) (.slice x162.base x162.len x162.cap) (.pointer (some ⟨b163, o164 + 2, none⟩)) (.int .i64 x165) (.pointer (some ⟨b166, o167 + x165.toNat * 1, none⟩)) (.pointer x168) (.pointer (some ⟨b169, o170, none⟩)) (.pointer (some ⟨b169, o170, none⟩)) (.int .i64 x171) (.bool ((x171 : Int) == 3)) ((x171 : Int) == 3)))))))))))
 (j95 f_37 follow_38 hops_39 x40 p_41 l_42 i_43 (.tuple ⟨[]⟩) (.pointer (some ⟨b157, o158 + 2, none⟩)) (.int .i64 x159) (.bool (decide ((x159 : Int) >= 0))) (.tuple ⟨[]⟩) (.tuple ⟨[]⟩) (.tuple ⟨[]⟩) (.tuple ⟨[]⟩) (.tuple ⟨[]⟩) (.tuple ⟨[]⟩) (.tuple ⟨[]⟩) (.tuple ⟨[]⟩) (.tuple ⟨[]⟩) (.tuple ⟨[]⟩) (.tuple ⟨[]⟩) (.tuple ⟨[]⟩) false)))) (brW follow_38 (ptrW p_41 (fun b172 o173 => rdT (rdC b172 (o173 + 2)) kI (fun (x174 : Int) => brW (decide ((x174 : Int) >= 0)) (ptrW f_37 (fun b175 o176 =>
 rdT (rdC b175 (o176 + 2)) kL (fun x177 => ptrW p_41 (fun b178 o179 => rdT (rdC b178 (o179 + 2)) kI (fun (x180 : Int) => ptrW x177.base (fun b181 o182 => ifW (0 <= x180 /\ x180 < ((x177.len : Nat) : Int)) (rdT (rdC b181 (o182 + x180.toNat * 1)) kP (fun x183 => ptrW x183 (fun b184 o185 => rdT (rdC b184 o185) kI (fun (x186 : Int) =>
 j95 f_37 follow_38 hops_39 x40 p_41 l_42 i_43 (.bool follow_38) (.pointer (some ⟨b172, o173 + 2, none⟩)) (.int .i64 x174) (.bool (decide ((x174 : Int) >= 0))) (.pointer f_37) (.pointer (some ⟨b175, o176, none⟩)) (.pointer (some ⟨b175, o176 + 2, none⟩)) (.slice x177.base x177.len x177.cap) (.pointer (some ⟨b178, o179 + 2, none⟩)) (.int .i64 x180) (.pointer (some ⟨b181, o182 + x180.toNat * 1, none⟩)) (.pointer x183) (.pointer (some ⟨b184, o185, none⟩)) (.pointer (some ⟨b184, o185, none⟩)) (.int .i64 x186) (.bool ((x186 : Int) == 3)) ((x186 : Int) == 3)))))))))))
 (j95 f_37 follow_38 hops_39 x40 p_41 l_42 i_43 (.bool follow_38) (.pointer (some ⟨b172, o173 + 2, none⟩)) (.int .i64 x174) (.bool (decide ((x174 : Int) >= 0))) (.tuple ⟨[]⟩) (.tuple ⟨[]⟩) (.tuple ⟨[]⟩) (.tuple ⟨[]⟩) (.tuple ⟨[]⟩) (.tuple ⟨[]⟩) (.tuple ⟨[]⟩) (.tuple ⟨[]⟩) (.tuple ⟨[]⟩) (.tuple ⟨[]⟩) (.tuple ⟨[]⟩) (.tuple ⟨[]⟩) false))))
 (j95 f_37 follow_38 hops_39 x40 p_41 l_42 i_43 (.bool follow_38) (.tuple ⟨[]⟩) (.tuple ⟨[]⟩) (.tuple ⟨[]⟩) (.tuple ⟨[]⟩) (.tuple ⟨[]⟩) (.tuple ⟨[]⟩) (.tuple ⟨[]⟩) (.tuple ⟨[]⟩) (.tuple ⟨[]⟩) (.tuple ⟨[]⟩) (.tuple ⟨[]⟩) (.tuple ⟨[]⟩) (.tuple ⟨[]⟩) (.tuple ⟨[]⟩) (.tuple ⟨[]⟩) false))))))))))))))))))) (ptrW p_41 (fun b187 o188 => rdT (rdA 3 b187 o188) (.one (.agg [(.int .i64), .str, (.int .i64)])) (fun (x189 : Int) (x190 : ByteArray) (x191 : Int) =>
 stW Tryz.prog 125 (.pointer x40) (.agg ⟨[.int .i64 x189, .string x190, .int .i64 x191]⟩) (ptrW x40 (fun b192 o193 => rdT (rdA 3 b192 o193) (.one (.agg [(.int .i64), .str, (.int .i64)])) (fun (r194 : Int) (r195 : ByteArray) (r196 : Int) =>
 K (.tuple ⟨[.agg ⟨[.int .i64 r194, .string r195, .int .i64 r196]⟩, .int .i64 0]⟩))))))))) (fun (R197 : Option Addr -> Bool -> Option Addr -> Option Addr -> Option Addr -> Sl -> Int -> H -> Prop) => R197 f_28 follow_31 hops_32 x33 (some ⟨b34, 0, none⟩) x35 0))))) (fun j27 => idxW path_16 0 (fun c198 => brW (((c198.toNat : Int) : Int) == 47) (j27 f_14 0 path_16 follow_17 hops_18 x19)
 (j27 f_14 at_15 path_16 follow_17 hops_18 x19)))))) (fun (R199 : Option Addr -> Int -> ByteArray -> Bool -> Option Addr -> Option Addr -> Int -> H -> Prop) => R199 f_1 at_2 path_3 follow_4 hops_5 (some ⟨b6, 0, none⟩) 0))))
theorem e134 (f_1 : Option Addr) (at_2 : Int) (path_3 : ByteArray) (follow_4 : Bool) (hops_5 : Option Addr) (K : KH) : bodyF Tryz.prog tau Tryz.f134 an134 [.pointer f_1, .int .i64 at_2, .string path_3, .bool follow_4, .pointer hops_5] K = g134 f_1 at_2 path_3 follow_4 hops_5 K := by kernel_rfl
theorem c134 (f_1 : Option Addr) (at_2 : Int) (path_3 : ByteArray) (follow_4 : Bool) (hops_5 : Option Addr) {K : KH} {σ : H} (h : g134 f_1 at_2 path_3 follow_4 hops_5 K σ) : callW Tryz.prog 134 [.pointer f_1, .int .i64 at_2, .string path_3, .bool follow_4, .pointer hops_5] K σ := call_of_body mixed Tryz.func134 (by rw [e134]; exact h)


def an135 : Ann := (.q (.q (.n (.q (.blk (.loop [(0,.p),(1,.i),(2,.s),(3,.i),(8,.l),(9,.b),(10,.i)] (.n (.q (.cond .z .z)) (.n (.blk (.q (.seq (some [(0,.p),(1,.i),(2,.s),(3,.i),(8,.l),(9,.b),(10,.i),(11,.p),(43,.w),(44,.w),(45,.w),(46,.w)]) (.seq (some [(0,.p),(1,.i),(2,.s),(3,.i),(8,.l),(9,.b),(10,.i),(11,.p),(43,.w),(44,.w),(45,.w),(46,.w),(47,.b)]) .r (.cond (.q .r) .z)) .r))) .r))))) (.seq (some [(0,.p),(1,.i),(3,.i),(8,.l)]) (.q (.cond .r .z)) (.q (.q (.cond .r .z)))))))
def g135 (f_1 : Option Addr) (dir_2 : Int) (name_3 : ByteArray) (ino_4 : Int) (K : KH) : H -> Prop :=
 loopW [.sc .ptr, .sc (.int .i64), .sc .str, .sc (.int .i64), .sc .slc, .sc .bool, .sc (.int .i64)] (fun (R5 : Option Addr -> Int -> ByteArray -> Int -> Sl -> Bool -> Int -> H -> Prop) => (fun (f_6 : Option Addr) (dir_7 : Int) (name_8 : ByteArray) (ino_9 : Int) (l_10 : Sl) (done_11 : Bool) (i_12 : Int) => ptrW f_6 (fun b13 o14 => rdT (rdC b13 (o14 + 2)) kL (fun x15 => ptrW x15.base (fun b16 o17 => ifW (0 <= dir_7 /\ dir_7 < ((x15.len : Nat) : Int)) (rdT (rdC b16 (o17 + dir_7.toNat * 1)) kP (fun x18 =>
 ptrW x18 (fun b19 o20 => rdT (rdC b19 (o20 + 3)) kL (fun x21 => brW (decide ((i_12 : Int) < ((x21.len : Nat) : Int))) (ptrW f_6 (fun b22 o23 => rdT (rdC b22 (o23 + 2)) kL (fun x24 => ptrW x24.base (fun b25 o26 => ifW (0 <= dir_7 /\ dir_7 < ((x24.len : Nat) : Int)) (rdT (rdC b25 (o26 + dir_7.toNat * 1)) kP (fun x27 => ptrW x27 (fun b28 o29 => rdT (rdC b28 (o29 + 3)) kL (fun x30 => ptrW x30.base (fun b31 o32 => ifW (0 <= i_12 /\ i_12 < ((x30.len : Nat) : Int))
 (rdT (rdA 2 b31 (o32 + i_12.toNat * 2)) (.one (.agg [.str, (.int .i64)])) (fun (x33 : ByteArray) (x34 : Int) => alW (.cells ⟨[.string (⟨⟨[]⟩⟩ : ByteArray), .int .i64 0]⟩ 206 (0, 0)) (fun b35 => stW Tryz.prog 206 (.pointer (some ⟨b35, 0, none⟩)) (.agg ⟨[.string x33, .int .i64 x34]⟩) (letJ (T := Option Addr -> Int -> ByteArray -> Int -> Sl -> Bool -> Int -> Option Addr -> Value -> Value -> Value -> Value -> H -> Prop) (fun f_37 dir_38 name_39 ino_40 l_41 done_42 i_43 x_44 _x45 _x46 _x47 _x48 =>
 ptrW x_44 (fun b49 o50 => rdT (rdA 2 b49 o50) (.one (.agg [.str, (.int .i64)])) (fun (x51 : ByteArray) (x52 : Int) => alW (.cells ⟨[.string x51, .int .i64 x52]⟩ 206 (0, 0)) (fun b53 => biW Tryz.prog .append #[99, 99] 99 [false, false] [.slice l_41.base l_41.len l_41.cap, .slice (some ⟨b53, 0, none⟩) 1 1] kL (fun x54 => R5 f_37 dir_38 name_39 ino_40 x54 done_42 (IntKind.i64.wrap (i_43 + 1))))))) (fun j36 =>
 letJ (T := Option Addr -> Int -> ByteArray -> Int -> Sl -> Bool -> Int -> Option Addr -> Value -> Value -> Value -> Value -> Bool -> H -> Prop) (fun f_56 dir_57 name_58 ino_59 l_60 done_61 i_62 x_63 x64 x65 x66 x67 x68 => brW x68 (alW (.cells ⟨[.string name_58, .int .i64 ino_59]⟩ 206 (0, 0)) (fun b69 => biW Tryz.prog .append #[99, 99] 99 [false, false] [.slice l_60.base l_60.len l_60.cap, .slice (some ⟨b69, 0, none⟩) 1 1] kL (fun x70 => j36 f_56 dir_57 name_58 ino_59 x70 true i_62 x_63 x64 x65 x66 x67)))
 (j36 f_56 dir_57 name_58 ino_59 l_60 done_61 i_62 x_63 x64 x65 x66 x67)) (fun j55 => brW (!done_11) (rdT (rdC b35 0) kS (fun (x71 : ByteArray) => j55 f_6 dir_7 name_8 ino_9 l_10 done_11 i_12 (some ⟨b35, 0, none⟩) (.string name_8) (.pointer (some ⟨b35, 0, none⟩)) (.string x71) (.bool (strLt name_8 x71)) (strLt name_8 x71))) (j55 f_6 dir_7 name_8 ino_9 l_10 done_11 i_12 (some ⟨b35, 0, none⟩) (.tuple ⟨[]⟩) (.tuple ⟨[]⟩) (.tuple ⟨[]⟩) (.tuple ⟨[]⟩) false))))))))))))))))
 (letJ (T := Option Addr -> Int -> Int -> Sl -> H -> Prop) (fun f_73 dir_74 ino_75 l_76 => ptrW f_73 (fun b77 o78 => rdT (rdC b77 (o78 + 2)) kL (fun x79 => ptrW x79.base (fun b80 o81 => ifW (0 <= dir_74 /\ dir_74 < ((x79.len : Nat) : Int)) (rdT (rdC b80 (o81 + dir_74.toNat * 1)) kP (fun x82 => ptrW x82 (fun b83 o84 => stW Tryz.prog 99 (.pointer (some ⟨b83, o84 + 3, none⟩)) (.slice l_76.base l_76.len l_76.cap) (ptrW f_73 (fun b85 o86 => rdT (rdC b85 (o86 + 2)) kL (fun x87 =>
 ptrW x87.base (fun b88 o89 => ifW (0 <= ino_75 /\ ino_75 < ((x87.len : Nat) : Int)) (rdT (rdC b88 (o89 + ino_75.toNat * 1)) kP (fun x90 => ptrW x90 (fun b91 o92 => rdT (rdC b91 o92) kI (fun (x93 : Int) => brW ((x93 : Int) == 2) (ptrW f_73 (fun b94 o95 => rdT (rdC b94 (o95 + 2)) kL (fun x96 => ptrW x96.base (fun b97 o98 => ifW (0 <= ino_75 /\ ino_75 < ((x96.len : Nat) : Int)) (rdT (rdC b97 (o98 + ino_75.toNat * 1)) kP (fun x99 => ptrW x99 (fun b100 o101 =>
 stW Tryz.prog 3 (.pointer (some ⟨b100, o101 + 4, none⟩)) (.int .i64 dir_74) (K (.tuple ⟨[]⟩))))))))) (K (.tuple ⟨[]⟩))))))))))))))))) (fun j72 => brW (!done_11) (alW (.cells ⟨[.string name_8, .int .i64 ino_9]⟩ 206 (0, 0)) (fun b102 => biW Tryz.prog .append #[99, 99] 99 [false, false] [.slice l_10.base l_10.len l_10.cap, .slice (some ⟨b102, 0, none⟩) 1 1] kL (fun x103 => j72 f_6 dir_7 ino_9 x103)))
 (j72 f_6 dir_7 ino_9 l_10)))))))))))) (fun (R104 : Option Addr -> Int -> ByteArray -> Int -> Sl -> Bool -> Int -> H -> Prop) => R104 f_1 dir_2 name_3 ino_4 ⟨none, 0, 0⟩ false 0)
theorem e135 (f_1 : Option Addr) (dir_2 : Int) (name_3 : ByteArray) (ino_4 : Int) (K : KH) : bodyF Tryz.prog tau Tryz.f135 an135 [.pointer f_1, .int .i64 dir_2, .string name_3, .int .i64 ino_4] K = g135 f_1 dir_2 name_3 ino_4 K := by kernel_rfl
theorem c135 (f_1 : Option Addr) (dir_2 : Int) (name_3 : ByteArray) (ino_4 : Int) {K : KH} {σ : H} (h : g135 f_1 dir_2 name_3 ino_4 K σ) : callW Tryz.prog 135 [.pointer f_1, .int .i64 dir_2, .string name_3, .int .i64 ino_4] K σ := call_of_body mixed Tryz.func135 (by rw [e135]; exact h)


def an139 : Ann := (.q (.blk (.seq (some [(0,.s),(1,.sc (.int .i32)),(160,.b)]) .r (.cond (.q .z) (.q (.cond (.n (.q (.blk (.loop [(175,.p)] (.q (.n (.cond .z .z) (.blk (.q (.q (.h))))))))) (.q .z)) (.q (.cond (.q .z) (.blk (.q (.q (.q (.q (.n (.blk (.loop [(0,.s),(7,.s),(8,.i),(9,.i)] (.n (.q (.cond .z .z)) (.blk (.blk (.seq (some [(0,.s),(7,.s),(8,.i),(9,.i)]) (.n (.reg (rn 7) [[],[],[0,1],[],[],[3,4],(rn 6)]) (.cond (.n (.reg (rn 9) [[],[],[1],[0,1,2],[],[],[4,5],(rn 7),(rn 8)]) (.n (.q (.h)) .r)) .z)) (.n (.q (.blk (.loop [(0,.s),(7,.s),(8,.i),(9,.i),(12,.i)] (.n (.q (.cond .z .z)) (.n (.blk (.n (.reg (rn 11) [[],[],[],[1,2],(rn 4),[],[],[],[6,7],[5,6,7,8],(rn 10)]) (.cond .z .z))) .r))))) (.n (.q .z) (.n .z (.q (.q (.q (.cond .z .z))))))))))))) (.n (.q .z) (.n .z (.n (.cond (.q (.q (.h))) (.blk (.q (.q (.n .z (.blk (.loop [] (.n (.q (.cond .z .z)) (.n (.blk (.q (.cond (.n (.q (.blk (.loop [] (.n (.q (.cond .z .z)) (.n (.blk (.q (.cond .z .z))) .r))))) (.q .z)) .z))) .r))))))))) (.q .z))))))))))))))))))
def g139 (s_1 : ByteArray) (r_2 : Int) (K : KH) : H -> Prop :=
 letJ (T := ByteArray -> Int -> Bool -> H -> Prop) (fun s_4 r_5 x6 => brW x6 (callT Tryz.prog 78 [.string s_4, .int .u8 (IntKind.u8.wrap r_5)] kI (fun (x7 : Int) => K (.int .i64 x7))) (brW ((r_5 : Int) == 65533) (vaW Tryz.prog (Instr.range 9 (.string s_4)) kP (fun x8 => loopW [.sc .ptr] (fun (R9 : Option Addr -> H -> Prop) => (fun x10 => vaW Tryz.prog (Instr.next (.pointer x10) true 0) (.opt [.sc (.int .i64), .sc (.int .i32)]) (K (.int .i64 (-1)), (fun (x11 : Int) (x12 : Int) =>
 brW ((x12 : Int) == 65533) (K (.int .i64 x11)) (R9 x10))))) (fun (R13 : Option Addr -> H -> Prop) => R13 x8))) (callT Tryz.prog 169 [.int .i32 r_5] kB (fun x14 => brW (!x14) (K (.int .i64 (-1))) (vaW Tryz.prog (convert 21 9 (.int .i32 r_5)) kS (fun (x15 : ByteArray) => loopW [.sc .str, .sc .str, .sc (.int .i64), .sc (.int .i64)] (fun (R16 : ByteArray -> ByteArray -> Int -> Int -> H -> Prop) => (fun (s_17 : ByteArray) (rs_18 : ByteArray) (last_19 : Int) (i_20 : Int) =>
 brW (decide ((i_20 : Int) < ((s_17.size : Nat) : Int))) (letJ (T := ByteArray -> ByteArray -> Int -> Int -> H -> Prop) (fun s_22 rs_23 last_24 i_25 => loopW [.sc .str, .sc .str, .sc (.int .i64), .sc (.int .i64), .sc (.int .i64)] (fun (R26 : ByteArray -> ByteArray -> Int -> Int -> Int -> H -> Prop) => (fun (s_27 : ByteArray) (rs_28 : ByteArray) (last_29 : Int) (i_30 : Int) (j_31 : Int) => brW (decide ((j_31 : Int) < ((rs_28.size : Nat) : Int))) (idxW s_27 (IntKind.i64.wrap (i_30 - j_31)) (fun c32 =>
 idxW rs_28 (IntKind.i64.wrap (last_29 - j_31)) (fun c33 => brW (((c32.toNat : Int) : Int) != (c33.toNat : Int)) (nW) (R26 s_27 rs_28 last_29 i_30 (IntKind.i64.wrap (j_31 + 1)))))) (K (.int .i64 (IntKind.i64.wrap (i_30 - last_29)))))) (fun (R34 : ByteArray -> ByteArray -> Int -> Int -> Int -> H -> Prop) => R34 s_22 rs_23 last_24 i_25 1)) (fun j21 => idxW s_17 i_20 (fun c35 => idxW rs_18 last_19 (fun c36 => brW (((c35.toNat : Int) : Int) != (c36.toNat : Int))
 (ifW (bndOk none s_17.size /\ bndOk (some (IntKind.i64.wrap (i_20 + 1))) (s_17.size)) (idxW rs_18 last_19 (fun c37 => callT Tryz.prog 78 [.string (s_17.extract ((IntKind.i64.wrap (i_20 + 1)).toNat) s_17.size), .int .u8 (c37.toNat : Int)] kI (fun (x38 : Int) => brW (decide ((x38 : Int) < 0)) (K (.int .i64 (-1))) (j21 s_17 rs_18 last_19 (IntKind.i64.wrap (i_20 + (IntKind.i64.wrap (x38 + 1))))))))) (j21 s_17 rs_18 last_19 i_20)))))
 (K (.int .i64 (-1))))) (fun (R39 : ByteArray -> ByteArray -> Int -> Int -> H -> Prop) => R39 s_4 x15 (IntKind.i64.wrap (((x15.size : Nat) : Int) - 1)) (IntKind.i64.wrap (((x15.size : Nat) : Int) - 1))))))))) (fun j3 => brW (decide ((0 : Int) <= r_2)) (j3 s_1 r_2 (decide ((r_2 : Int) < 128))) (j3 s_1 r_2 false))
theorem e139 (s_1 : ByteArray) (r_2 : Int) (K : KH) : bodyF Tryz.prog tau Tryz.f139 an139 [.string s_1, .int .i32 r_2] K = g139 s_1 r_2 K := by kernel_rfl
theorem c139 (s_1 : ByteArray) (r_2 : Int) {K : KH} {σ : H} (h : g139 s_1 r_2 K σ) : callW Tryz.prog 139 [.string s_1, .int .i32 r_2] K σ := call_of_body mixed Tryz.func139 (by rw [e139]; exact h)


def an140 : Ann := (.q (.n (.q (.q (.h))) (.q .z)))
def g140 (c_1 : Int) (K : KH) : H -> Prop :=
 callT Tryz.prog 78 [.string (⟨⟨[110, 116, 92]⟩⟩ : ByteArray), .int .u8 c_1] kI (fun (x2 : Int) => brW (decide ((x2 : Int) >= 0)) (ifW (bndOk (some (IntKind.i64.wrap (x2 + 1))) (⟨⟨[10, 9, 92]⟩⟩ : ByteArray).size /\ bndOk (some x2) ((IntKind.i64.wrap (x2 + 1)).toNat)) (K (.string ((⟨⟨[10, 9, 92]⟩⟩ : ByteArray).extract x2.toNat ((IntKind.i64.wrap (x2 + 1)).toNat))))) (alW (.cells ⟨[.int .u8 c_1]⟩ 5 (0, 0)) (fun b3 =>
 vaW Tryz.prog (convert 22 9 (.slice (some ⟨b3, 0, none⟩) 1 1)) kS (fun (x4 : ByteArray) => ifW ((⟨⟨[92]⟩⟩ : ByteArray).size + x4.size <= 9223372036854775807) (K (.string ((⟨⟨[92]⟩⟩ : ByteArray) ++ x4)))))))
theorem e140 (c_1 : Int) (K : KH) : bodyF Tryz.prog tau Tryz.f140 an140 [.int .u8 c_1] K = g140 c_1 K := by kernel_rfl
theorem c140 (c_1 : Int) {K : KH} {σ : H} (h : g140 c_1 K σ) : callW Tryz.prog 140 [.int .u8 c_1] K σ := call_of_body mixed Tryz.func140 (by rw [e140]; exact h)


def an141 : Ann := (.q (.seq (some [(0,.s),(2,.p),(3,.i)]) (.q (.cond .r .z)) (.q (.n (.blk (.loop [(0,.s),(2,.p),(3,.i),(4,.i)] (.n (.seq (some [(0,.s),(2,.p),(3,.i),(4,.i),(11,.w),(12,.w),(13,.w),(14,.w),(17,.w),(18,.w),(19,.w),(20,.w),(23,.w),(24,.w),(25,.w),(26,.w),(29,.w),(30,.w),(31,.w),(32,.w),(33,.w),(34,.w),(35,.w),(36,.w),(37,.b)]) .r (.cond .z .z)) (.blk (.n (.reg (rn 11) [[],[0],[0,1],[],[],[3,4],[3,4,5],[3,4,5,6],(rn 8),(rn 9),(rn 10)]) (.q .r)))))) (.n (.seq (some [(0,.s),(2,.p),(3,.i),(70,.b)]) .r (.h)) (.q (.q .z)))))))
def g141 (s_1 : ByteArray) (K : KH) : H -> Prop :=
 alW (.cells ⟨[.string (⟨⟨[]⟩⟩ : ByteArray), .int .u8 0, .int .i64 0, .bool false]⟩ 150 (0, 0)) (fun b2 => letJ (T := ByteArray -> Option Addr -> Int -> H -> Prop) (fun s_4 p_5 n_6 => loopW [.sc .str, .sc .ptr, .sc (.int .i64), .sc (.int .i64)] (fun (R7 : ByteArray -> Option Addr -> Int -> Int -> H -> Prop) => (fun (s_8 : ByteArray) (p_9 : Option Addr) (n_10 : Int) (digits_11 : Int) =>
 letJ (T := ByteArray -> Option Addr -> Int -> Int -> Value -> Value -> Value -> Value -> Value -> Value -> Value -> Value -> Value -> Value -> Value -> Value -> Value -> Value -> Value -> Value -> Value -> Value -> Value -> Value -> Bool -> H -> Prop) (fun s_13 p_14 n_15 digits_16 _x17 _x18 _x19 _x20 _x21 _x22 _x23 _x24 _x25 _x26 _x27 _x28 _x29 _x30 _x31 _x32 _x33 _x34 _x35 _x36 x37 => brW x37 (ptrW p_14 (fun b38 o39 => rdT (rdC b38 (o39 + 2)) kI (fun (x40 : Int) => idxW s_13 n_15 (fun c41 => ptrW p_14 (fun b42 o43 =>
 stW Tryz.prog 3 (.pointer (some ⟨b42, o43 + 2, none⟩)) (.int .i64 (IntKind.i64.wrap ((IntKind.i64.wrap (10 * x40)) + (IntKind.i64.wrap (IntKind.u8.wrap ((c41.toNat : Int) - 48)))))) (R7 s_13 p_14 (IntKind.i64.wrap (n_15 + 1)) (IntKind.i64.wrap (digits_16 + 1)))))))) (letJ (T := ByteArray -> Option Addr -> Int -> Bool -> H -> Prop) (fun s_45 p_46 n_47 x48 => brW x48 (ptrW p_46 (fun b49 o50 =>
 rdT (rdA 4 b49 o50) (.one (.agg [.str, (.int .u8), (.int .i64), .bool])) (fun (x51 : ByteArray) (x52 : Int) (x53 : Int) (x54 : Bool) => stW Tryz.prog 150 (.pointer p_46) (.agg ⟨[.string x51, .int .u8 x52, .int .i64 x53, .bool x54]⟩) (ptrW p_46 (fun b55 o56 => rdT (rdA 4 b55 o56) (.one (.agg [.str, (.int .u8), (.int .i64), .bool])) (fun (r57 : ByteArray) (r58 : Int) (r59 : Int) (r60 : Bool) => K (.tuple ⟨[.agg ⟨[.string r57, .int .u8 r58, .int .i64 r59, .bool r60]⟩, .int .i64 0]⟩)))))))
 (idxW s_45 n_47 (fun c61 => ptrW p_46 (fun b62 o63 => stW Tryz.prog 5 (.pointer (some ⟨b62, o63 + 1, none⟩)) (.int .u8 (c61.toNat : Int)) (ptrW p_46 (fun b64 o65 => rdT (rdA 4 b64 o65) (.one (.agg [.str, (.int .u8), (.int .i64), .bool])) (fun (x66 : ByteArray) (x67 : Int) (x68 : Int) (x69 : Bool) => stW Tryz.prog 150 (.pointer p_46) (.agg ⟨[.string x66, .int .u8 x67, .int .i64 x68, .bool x69]⟩) (ptrW p_46 (fun b70 o71 =>
 rdT (rdA 4 b70 o71) (.one (.agg [.str, (.int .u8), (.int .i64), .bool])) (fun (r72 : ByteArray) (r73 : Int) (r74 : Int) (r75 : Bool) => K (.tuple ⟨[.agg ⟨[.string r72, .int .u8 r73, .int .i64 r74, .bool r75]⟩, .int .i64 (IntKind.i64.wrap (n_47 + 1))]⟩))))))))))) (fun j44 => brW (decide ((n_15 : Int) >= ((s_13.size : Nat) : Int))) (j44 s_13 p_14 n_15 true) (idxW s_13 n_15 (fun c76 =>
 callT Tryz.prog 78 [.string (⟨⟨[115, 100, 120, 99]⟩⟩ : ByteArray), .int .u8 (c76.toNat : Int)] kI (fun (x77 : Int) => brW (decide ((x77 : Int) < 0)) (j44 s_13 p_14 n_15 true) (ptrW p_14 (fun b78 o79 => rdT (rdC b78 (o79 + 3)) kB (fun x80 => brW x80 (j44 s_13 p_14 n_15 ((digits_16 : Int) == 0)) (j44 s_13 p_14 n_15 false)))))))))) (fun j12 => brW (decide ((digits_11 : Int) < 2)) (brW (decide ((n_10 : Int) < ((s_8.size : Nat) : Int))) (idxW s_8 n_10 (fun c81 =>
 brW (decide (((c81.toNat : Int) : Int) >= 48)) (idxW s_8 n_10 (fun c82 => brW (decide (((c82.toNat : Int) : Int) <= 57)) (brW (decide ((digits_11 : Int) > 0))
 (j12 s_8 p_9 n_10 digits_11 (.int .i64 n_10) (.string s_8) (.int .i64 ((s_8.size : Nat) : Int)) (.bool (decide ((n_10 : Int) < ((s_8.size : Nat) : Int)))) (.string s_8) (.int .i64 n_10) (.int .u8 (c81.toNat : Int)) (.bool (decide (((c81.toNat : Int) : Int) >= 48))) (.string s_8) (.int .i64 n_10) (.int .u8 (c82.toNat : Int)) (.bool (decide (((c82.toNat : Int) : Int) <= 57))) (.int .i64 digits_11) (.bool (decide ((digits_11 : Int) > 0))) (.bool true) (.tuple ⟨[]⟩) (.tuple ⟨[]⟩) (.tuple ⟨[]⟩) (.tuple ⟨[]⟩) (.bool true) true)
 (idxW s_8 n_10 (fun c83 =>
 j12 s_8 p_9 n_10 digits_11 (.int .i64 n_10) (.string s_8) (.int .i64 ((s_8.size : Nat) : Int)) (.bool (decide ((n_10 : Int) < ((s_8.size : Nat) : Int)))) (.string s_8) (.int .i64 n_10) (.int .u8 (c81.toNat : Int)) (.bool (decide (((c81.toNat : Int) : Int) >= 48))) (.string s_8) (.int .i64 n_10) (.int .u8 (c82.toNat : Int)) (.bool (decide (((c82.toNat : Int) : Int) <= 57))) (.int .i64 digits_11) (.bool (decide ((digits_11 : Int) > 0))) (.bool false) (.string s_8) (.int .i64 n_10) (.int .u8 (c83.toNat : Int)) (.bool (((c83.toNat : Int) : Int) != 48)) (.bool (((c83.toNat : Int) : Int) != 48)) (((c83.toNat : Int) : Int) != 48))))
 (j12 s_8 p_9 n_10 digits_11 (.int .i64 n_10) (.string s_8) (.int .i64 ((s_8.size : Nat) : Int)) (.bool (decide ((n_10 : Int) < ((s_8.size : Nat) : Int)))) (.string s_8) (.int .i64 n_10) (.int .u8 (c81.toNat : Int)) (.bool (decide (((c81.toNat : Int) : Int) >= 48))) (.string s_8) (.int .i64 n_10) (.int .u8 (c82.toNat : Int)) (.bool (decide (((c82.toNat : Int) : Int) <= 57))) (.tuple ⟨[]⟩) (.tuple ⟨[]⟩) (.tuple ⟨[]⟩) (.tuple ⟨[]⟩) (.tuple ⟨[]⟩) (.tuple ⟨[]⟩) (.tuple ⟨[]⟩) (.tuple ⟨[]⟩) false)))
 (j12 s_8 p_9 n_10 digits_11 (.int .i64 n_10) (.string s_8) (.int .i64 ((s_8.size : Nat) : Int)) (.bool (decide ((n_10 : Int) < ((s_8.size : Nat) : Int)))) (.string s_8) (.int .i64 n_10) (.int .u8 (c81.toNat : Int)) (.bool (decide (((c81.toNat : Int) : Int) >= 48))) (.tuple ⟨[]⟩) (.tuple ⟨[]⟩) (.tuple ⟨[]⟩) (.tuple ⟨[]⟩) (.tuple ⟨[]⟩) (.tuple ⟨[]⟩) (.tuple ⟨[]⟩) (.tuple ⟨[]⟩) (.tuple ⟨[]⟩) (.tuple ⟨[]⟩) (.tuple ⟨[]⟩) (.tuple ⟨[]⟩) false)))
 (j12 s_8 p_9 n_10 digits_11 (.int .i64 n_10) (.string s_8) (.int .i64 ((s_8.size : Nat) : Int)) (.bool (decide ((n_10 : Int) < ((s_8.size : Nat) : Int)))) (.tuple ⟨[]⟩) (.tuple ⟨[]⟩) (.tuple ⟨[]⟩) (.tuple ⟨[]⟩) (.tuple ⟨[]⟩) (.tuple ⟨[]⟩) (.tuple ⟨[]⟩) (.tuple ⟨[]⟩) (.tuple ⟨[]⟩) (.tuple ⟨[]⟩) (.tuple ⟨[]⟩) (.tuple ⟨[]⟩) (.tuple ⟨[]⟩) (.tuple ⟨[]⟩) (.tuple ⟨[]⟩) (.tuple ⟨[]⟩) false))
 (j12 s_8 p_9 n_10 digits_11 (.tuple ⟨[]⟩) (.tuple ⟨[]⟩) (.tuple ⟨[]⟩) (.tuple ⟨[]⟩) (.tuple ⟨[]⟩) (.tuple ⟨[]⟩) (.tuple ⟨[]⟩) (.tuple ⟨[]⟩) (.tuple ⟨[]⟩) (.tuple ⟨[]⟩) (.tuple ⟨[]⟩) (.tuple ⟨[]⟩) (.tuple ⟨[]⟩) (.tuple ⟨[]⟩) (.tuple ⟨[]⟩) (.tuple ⟨[]⟩) (.tuple ⟨[]⟩) (.tuple ⟨[]⟩) (.tuple ⟨[]⟩) (.tuple ⟨[]⟩) false)))) (fun (R84 : ByteArray -> Option Addr -> Int -> Int -> H -> Prop) => R84 s_4 p_5 n_6 0)) (fun j3 => callT Tryz.prog 37 [.string s_1, .string (⟨⟨[45]⟩⟩ : ByteArray)] kB (fun x85 =>
 brW x85 (stW Tryz.prog 4 (.pointer (some ⟨b2, 3, none⟩)) (.bool true) (j3 s_1 (some ⟨b2, 0, none⟩) 1)) (j3 s_1 (some ⟨b2, 0, none⟩) 0))))
theorem e141 (s_1 : ByteArray) (K : KH) : bodyF Tryz.prog tau Tryz.f141 an141 [.string s_1] K = g141 s_1 K := by kernel_rfl
theorem c141 (s_1 : ByteArray) {K : KH} {σ : H} (h : g141 s_1 K σ) : callW Tryz.prog 141 [.string s_1] K σ := call_of_body mixed Tryz.func141 (by rw [e141]; exact h)


def an142 : Ann := (.q (.q .z))
def g142 (s_1 : ByteArray) (prefix_2 : ByteArray) (K : KH) : H -> Prop :=
 callT Tryz.prog 170 [.string s_1, .string prefix_2] kS (fun (x3 : ByteArray) => K (.string x3))
theorem e142 (s_1 : ByteArray) (prefix_2 : ByteArray) (K : KH) : bodyF Tryz.prog tau Tryz.f142 an142 [.string s_1, .string prefix_2] K = g142 s_1 prefix_2 K := by kernel_rfl
theorem c142 (s_1 : ByteArray) (prefix_2 : ByteArray) {K : KH} {σ : H} (h : g142 s_1 prefix_2 K σ) : callW Tryz.prog 142 [.string s_1, .string prefix_2] K σ := call_of_body mixed Tryz.func142 (by rw [e142]; exact h)


def an144 : Ann := (.q (.q (.n (.q (.h)) (.q .z))))
def g144 (s_1 : ByteArray) (K : KH) : H -> Prop :=
 callT Tryz.prog 171 [.string s_1] (.tup [.sc (.int .i64), .sc .raw]) (fun (x2 : Int) (x3 : Value) => vaW Tryz.prog (do eqGuard .neq 72 (.tmp 11) (.const (.nilIface)) (x3) (.nilIface); binOp .neq 72 (x3) (.nilIface)) kB (fun x4 => brW x4 (callT Tryz.prog 172 [.string (⟨⟨[65, 116, 111, 105]⟩⟩ : ByteArray), .string s_1, .int .i64 0, .int .i64 0, x3] kR (fun x5 => K (.tuple ⟨[.int .i64 x2, x5]⟩))) (K (.tuple ⟨[.int .i64 x2, .nilIface]⟩))))
theorem e144 (s_1 : ByteArray) (K : KH) : bodyF Tryz.prog tau Tryz.f144 an144 [.string s_1] K = g144 s_1 K := by kernel_rfl
theorem c144 (s_1 : ByteArray) {K : KH} {σ : H} (h : g144 s_1 K σ) : callW Tryz.prog 144 [.string s_1] K σ := call_of_body mixed Tryz.func144 (by rw [e144]; exact h)


def an145 : Ann := (.q (.n (.q (.cond (.n (.seq (some [(0,.i),(17,.b)]) .r (.h)) (.q (.q (.seq (some [(0,.i),(5,.p),(6,.sc (.int .u64))]) (.q (.cond .r .z)) (.q (.q (.n (.q (.cond (.q (.q .z)) .z)) (.q .z)))))))) .z)) (.q (.q .z))))
def g145 (i_1 : Int) (base_2 : Int) (K : KH) : H -> Prop :=
 brW ((base_2 : Int) == 10) (letJ (T := Int -> Bool -> H -> Prop) (fun i_4 x5 => brW x5 (callT Tryz.prog 173 [.int .i64 i_4] kS (fun (x6 : ByteArray) => K (.string x6))) (alW (.cells ⟨[.int .u8 0, .int .u8 0, .int .u8 0, .int .u8 0, .int .u8 0, .int .u8 0, .int .u8 0, .int .u8 0, .int .u8 0, .int .u8 0, .int .u8 0, .int .u8 0, .int .u8 0, .int .u8 0, .int .u8 0, .int .u8 0, .int .u8 0, .int .u8 0, .int .u8 0, .int .u8 0, .int .u8 0, .int .u8 0, .int .u8 0, .int .u8 0]⟩ 209 (0, 0)) (fun b7 =>
 letJ (T := Int -> Option Addr -> Int -> H -> Prop) (fun i_9 a_10 u_11 => callT Tryz.prog 174 [.int .u64 u_11] kI (fun (x12 : Int) => ptrW a_10 (fun b13 o14 => ifW (bndOk (some (IntKind.i64.wrap (1 + x12))) 24 /\ bndOk (some 1) ((IntKind.i64.wrap (1 + x12)).toNat)) (callT Tryz.prog 175 [.slice (slBase (some ⟨b13, o14, none⟩) ((1 : Int).toNat) 24 1) (((IntKind.i64.wrap (1 + x12)).toNat) - ((1 : Int).toNat)) (24 - ((1 : Int).toNat)), .int .u64 u_11] kU (brW (decide ((i_9 : Int) < 0))
 (ptrW a_10 (fun b15 o16 => ifW (0 <= (0 : Int) /\ (0 : Int) < ((24 : Nat) : Int)) (stW Tryz.prog 5 (.pointer (some ⟨b15, o16 + (0 : Int).toNat * 1, none⟩)) (.int .u8 45) (ptrW a_10 (fun b17 o18 => ifW (bndOk (some (IntKind.i64.wrap (1 + x12))) 24 /\ bndOk none ((IntKind.i64.wrap (1 + x12)).toNat)) (vaW Tryz.prog (convert 22 9 (.slice (slBase (some ⟨b17, o18, none⟩) 0 24 1) (((IntKind.i64.wrap (1 + x12)).toNat) - 0) (24 - 0))) kS (fun (x19 : ByteArray) => K (.string x19))))))))
 (ptrW a_10 (fun b20 o21 => ifW (bndOk (some (IntKind.i64.wrap (1 + x12))) 24 /\ bndOk (some 1) ((IntKind.i64.wrap (1 + x12)).toNat)) (vaW Tryz.prog (convert 22 9 (.slice (slBase (some ⟨b20, o21, none⟩) ((1 : Int).toNat) 24 1) (((IntKind.i64.wrap (1 + x12)).toNat) - ((1 : Int).toNat)) (24 - ((1 : Int).toNat)))) kS (fun (x22 : ByteArray) => K (.string x22)))))))))) (fun j8 => brW (decide ((i_4 : Int) < 0)) (j8 i_4 (some ⟨b7, 0, none⟩) (IntKind.u64.wrap (0 - (IntKind.u64.wrap i_4))))
 (j8 i_4 (some ⟨b7, 0, none⟩) (IntKind.u64.wrap i_4)))))) (fun j3 => brW (decide ((0 : Int) <= i_1)) (j3 i_1 (decide ((i_1 : Int) < 100))) (j3 i_1 false))) (callT Tryz.prog 176 [.slice none 0 0, .int .u64 (IntKind.u64.wrap i_1), .int .i64 base_2, .bool (decide ((i_1 : Int) < 0)), .bool false] (.tup [.sc .slc, .sc .str]) (fun (_x23 : Sl) (x24 : ByteArray) => K (.string x24)))
theorem e145 (i_1 : Int) (base_2 : Int) (K : KH) : bodyF Tryz.prog tau Tryz.f145 an145 [.int .i64 i_1, .int .i64 base_2] K = g145 i_1 base_2 K := by kernel_rfl
theorem c145 (i_1 : Int) (base_2 : Int) {K : KH} {σ : H} (h : g145 i_1 base_2 K σ) : callW Tryz.prog 145 [.int .i64 i_1, .int .i64 base_2] K σ := call_of_body mixed Tryz.func145 (by rw [e145]; exact h)


def an146 : Ann := (.q (.n (.q (.blk (.q (.cond (.q .z) (.q (.cond (.q .z) (.q (.cond (.q .z) (.q (.h)))))))))) (.q (.q (.q (.n (.seq (some [(7,.b),(9,.w),(10,.i),(12,.i),(67,.b)]) .r (.h)) (.q .z)))))))
def g146 (a_1 : ByteArray) (q_2 : ByteArray) (b_3 : ByteArray) (K : KH) : H -> Prop :=
 brW (strEq q_2 (⟨⟨[61]⟩⟩ : ByteArray)) (K (.tuple ⟨[.bool (strEq a_1 b_3), .bool true, .bool true]⟩)) (brW (strEq q_2 (⟨⟨[33, 61]⟩⟩ : ByteArray)) (K (.tuple ⟨[.bool (!strEq a_1 b_3), .bool true, .bool true]⟩)) (brW (strEq q_2 (⟨⟨[45, 97]⟩⟩ : ByteArray)) (brW (!strEq a_1 (⟨⟨[]⟩⟩ : ByteArray)) (K (.tuple ⟨[.bool (!strEq b_3 (⟨⟨[]⟩⟩ : ByteArray)), .bool true, .bool true]⟩)) (K (.tuple ⟨[.bool false, .bool true, .bool true]⟩))) (brW (strEq q_2 (⟨⟨[45, 111]⟩⟩ : ByteArray))
 (brW (!strEq a_1 (⟨⟨[]⟩⟩ : ByteArray)) (K (.tuple ⟨[.bool true, .bool true, .bool true]⟩)) (K (.tuple ⟨[.bool (!strEq b_3 (⟨⟨[]⟩⟩ : ByteArray)), .bool true, .bool true]⟩))) (alW (.map #[] 0) (fun b4 =>
 muW Tryz.prog 215 (.map (some b4)) (.string (⟨⟨[45, 101, 113]⟩⟩ : ByteArray)) (.func (.func 177) ⟨[]⟩ ⟨[]⟩) (muW Tryz.prog 215 (.map (some b4)) (.string (⟨⟨[45, 110, 101]⟩⟩ : ByteArray)) (.func (.func 178) ⟨[]⟩ ⟨[]⟩) (muW Tryz.prog 215 (.map (some b4)) (.string (⟨⟨[45, 108, 116]⟩⟩ : ByteArray)) (.func (.func 179) ⟨[]⟩ ⟨[]⟩) (muW Tryz.prog 215 (.map (some b4)) (.string (⟨⟨[45, 108, 101]⟩⟩ : ByteArray)) (.func (.func 180) ⟨[]⟩ ⟨[]⟩) (muW Tryz.prog 215 (.map (some b4)) (.string (⟨⟨[45, 103, 116]⟩⟩ : ByteArray)) (.func (.func 181) ⟨[]⟩ ⟨[]⟩) (muW Tryz.prog 215 (.map (some b4)) (.string (⟨⟨[45, 103, 101]⟩⟩ : ByteArray)) (.func (.func 182) ⟨[]⟩ ⟨[]⟩) (rdT (rdM .string (.nilFunc) true (some b4) (.string q_2)) (.tup [.sc .raw, .sc .bool]) (fun x5 x6 =>
 callT Tryz.prog 97 [.string a_1] (.tup [.sc (.int .i64), .sc .bool]) (fun (x7 : Int) (x8 : Bool) => callT Tryz.prog 97 [.string b_3] (.tup [.sc (.int .i64), .sc .bool]) (fun (x9 : Int) (x10 : Bool) => letJ (T := Bool -> Value -> Int -> Int -> Bool -> H -> Prop) (fun some_12 ask_13 x_14 y_15 x16 => brW x16 (K (.tuple ⟨[.bool false, .bool some_12, .bool false]⟩)) (cvalT Tryz.prog ask_13 [.int .i64 x_14, .int .i64 y_15] kB (fun x17 => K (.tuple ⟨[.bool x17, .bool true, .bool true]⟩)))) (fun j11 =>
 brW (!x6) (j11 x6 x5 x7 x9 true) (brW (!x8) (j11 x6 x5 x7 x9 true) (j11 x6 x5 x7 x9 (!x10))))))))))))))))))
theorem e146 (a_1 : ByteArray) (q_2 : ByteArray) (b_3 : ByteArray) (K : KH) : bodyF Tryz.prog tau Tryz.f146 an146 [.string a_1, .string q_2, .string b_3] K = g146 a_1 q_2 b_3 K := by kernel_rfl
theorem c146 (a_1 : ByteArray) (q_2 : ByteArray) (b_3 : ByteArray) {K : KH} {σ : H} (h : g146 a_1 q_2 b_3 K σ) : callW Tryz.prog 146 [.string a_1, .string q_2, .string b_3] K σ := call_of_body mixed Tryz.func146 (by rw [e146]; exact h)


def an147 : Ann := (.q (.q (.q (.q (.q (.q .z))))))
def g147 (t_1 : ByteArray) (t_2 : Sl) (t_3 : ByteArray) (t_4 : ByteArray) (t_5 : Option Addr) (q_6 : ByteArray) (s_7 : ByteArray) (K : KH) : H -> Prop :=
 alW (.cells ⟨[.string t_1, .slice t_2.base t_2.len t_2.cap, .string t_3, .string t_4, .pointer t_5]⟩ 88 (0, 0)) (fun b8 => alW (.cells ⟨[.string s_7]⟩ 9 (0, 0)) (fun b9 => alW (.cells ⟨[.nilFunc]⟩ 219 (0, 0)) (fun b10 => stW Tryz.prog 219 (.pointer (some ⟨b10, 0, none⟩)) (.func (.func 183) ⟨[]⟩ ⟨[.pointer (some ⟨b8, 0, none⟩), .pointer (some ⟨b9, 0, none⟩)]⟩) (alW (.cells ⟨[.nilFunc]⟩ 220 (0, 0)) (fun b11 =>
 stW Tryz.prog 220 (.pointer (some ⟨b11, 0, none⟩)) (.func (.func 185) ⟨[]⟩ ⟨[]⟩) (alW (.map #[] 0) (fun b12 =>
 muW Tryz.prog 222 (.map (some b12)) (.string (⟨⟨[45, 110]⟩⟩ : ByteArray)) (.func (.func 188) ⟨[]⟩ ⟨[.pointer (some ⟨b9, 0, none⟩)]⟩) (muW Tryz.prog 222 (.map (some b12)) (.string (⟨⟨[45, 122]⟩⟩ : ByteArray)) (.func (.func 189) ⟨[]⟩ ⟨[.pointer (some ⟨b9, 0, none⟩)]⟩) (muW Tryz.prog 222 (.map (some b12)) (.string (⟨⟨[45, 101]⟩⟩ : ByteArray)) (.func (.func 190) ⟨[]⟩ ⟨[.pointer (some ⟨b10, 0, none⟩)]⟩) (muW Tryz.prog 222 (.map (some b12)) (.string (⟨⟨[45, 102]⟩⟩ : ByteArray)) (.func (.func 192) ⟨[]⟩ ⟨[.pointer (some ⟨b10, 0, none⟩), .pointer (some ⟨b11, 0, none⟩)]⟩) (muW Tryz.prog 222 (.map (some b12)) (.string (⟨⟨[45, 100]⟩⟩ : ByteArray)) (.func (.func 193) ⟨[]⟩ ⟨[.pointer (some ⟨b10, 0, none⟩), .pointer (some ⟨b11, 0, none⟩)]⟩) (muW Tryz.prog 222 (.map (some b12)) (.string (⟨⟨[45, 76]⟩⟩ : ByteArray)) (.func (.func 187) ⟨[]⟩ ⟨[.pointer (some ⟨b10, 0, none⟩), .pointer (some ⟨b11, 0, none⟩)]⟩) (muW Tryz.prog 222 (.map (some b12)) (.string (⟨⟨[45, 104]⟩⟩ : ByteArray)) (.func (.func 187) ⟨[]⟩ ⟨[.pointer (some ⟨b10, 0, none⟩), .pointer (some ⟨b11, 0, none⟩)]⟩) (muW Tryz.prog 222 (.map (some b12)) (.string (⟨⟨[45, 120]⟩⟩ : ByteArray)) (.func (.func 194) ⟨[]⟩ ⟨[.pointer (some ⟨b10, 0, none⟩)]⟩) (muW Tryz.prog 222 (.map (some b12)) (.string (⟨⟨[45, 115]⟩⟩ : ByteArray)) (.func (.func 196) ⟨[]⟩ ⟨[.pointer (some ⟨b10, 0, none⟩)]⟩) (rdT (rdM .string (.nilFunc) true (some b12) (.string q_6)) (.tup [.sc .raw, .sc .bool]) (fun x13 x14 =>
 brW x14 (cvalT Tryz.prog x13 [] kB (fun x15 => K (.tuple ⟨[.bool x15, .bool x14]⟩))) (K (.tuple ⟨[.bool false, .bool x14]⟩)))))))))))))))))))
theorem e147 (t_1 : ByteArray) (t_2 : Sl) (t_3 : ByteArray) (t_4 : ByteArray) (t_5 : Option Addr) (q_6 : ByteArray) (s_7 : ByteArray) (K : KH) : bodyF Tryz.prog tau Tryz.f147 an147 [.agg ⟨[.string t_1, .slice t_2.base t_2.len t_2.cap, .string t_3, .string t_4, .pointer t_5]⟩, .string q_6, .string s_7] K = g147 t_1 t_2 t_3 t_4 t_5 q_6 s_7 K := by kernel_rfl
theorem c147 (t_1 : ByteArray) (t_2 : Sl) (t_3 : ByteArray) (t_4 : ByteArray) (t_5 : Option Addr) (q_6 : ByteArray) (s_7 : ByteArray) {K : KH} {σ : H} (h : g147 t_1 t_2 t_3 t_4 t_5 q_6 s_7 K σ) : callW Tryz.prog 147 [.agg ⟨[.string t_1, .slice t_2.base t_2.len t_2.cap, .string t_3, .string t_4, .pointer t_5]⟩, .string q_6, .string s_7] K σ := call_of_body mixed Tryz.func147 (by rw [e147]; exact h)


def an148 : Ann := (.q (.n (.q (.blk (.loop [(0,.s),(1,.sc (.int .u8)),(5,.i)] (.n (.q (.cond .z .z)) (.n (.blk (.q (.h))) .r))))) (.q .z)))
def g148 (s_1 : ByteArray) (c_2 : Int) (K : KH) : H -> Prop :=
 loopW [.sc .str, .sc (.int .u8), .sc (.int .i64)] (fun (R3 : ByteArray -> Int -> Int -> H -> Prop) => (fun (s_4 : ByteArray) (c_5 : Int) (i_6 : Int) => brW (decide ((i_6 : Int) >= 0)) (idxW s_4 i_6 (fun c7 => brW (((c7.toNat : Int) : Int) == c_5) (K (.int .i64 i_6)) (R3 s_4 c_5 (IntKind.i64.wrap (i_6 - 1))))) (K (.int .i64 (-1))))) (fun (R8 : ByteArray -> Int -> Int -> H -> Prop) => R8 s_1 c_2 (IntKind.i64.wrap (((s_1.size : Nat) : Int) - 1)))
theorem e148 (s_1 : ByteArray) (c_2 : Int) (K : KH) : bodyF Tryz.prog tau Tryz.f148 an148 [.string s_1, .int .u8 c_2] K = g148 s_1 c_2 K := by kernel_rfl
theorem c148 (s_1 : ByteArray) (c_2 : Int) {K : KH} {σ : H} (h : g148 s_1 c_2 K σ) : callW Tryz.prog 148 [.string s_1, .int .u8 c_2] K σ := call_of_body mixed Tryz.func148 (by rw [e148]; exact h)


def an149 : Ann := (.q (.n (.q (.h)) (.q .z)))
def g149 (s_1 : ByteArray) (suffix_2 : ByteArray) (K : KH) : H -> Prop :=
 callT Tryz.prog 198 [.string s_1, .string suffix_2] kB (fun x3 => brW x3 (ifW (bndOk (some (IntKind.i64.wrap (((s_1.size : Nat) : Int) - ((suffix_2.size : Nat) : Int)))) s_1.size /\ bndOk none ((IntKind.i64.wrap (((s_1.size : Nat) : Int) - ((suffix_2.size : Nat) : Int))).toNat)) (K (.string (s_1.extract 0 ((IntKind.i64.wrap (((s_1.size : Nat) : Int) - ((suffix_2.size : Nat) : Int))).toNat))))) (K (.string s_1)))
theorem e149 (s_1 : ByteArray) (suffix_2 : ByteArray) (K : KH) : bodyF Tryz.prog tau Tryz.f149 an149 [.string s_1, .string suffix_2] K = g149 s_1 suffix_2 K := by kernel_rfl
theorem c149 (s_1 : ByteArray) (suffix_2 : ByteArray) {K : KH} {σ : H} (h : g149 s_1 suffix_2 K σ) : callW Tryz.prog 149 [.string s_1, .string suffix_2] K σ := call_of_body mixed Tryz.func149 (by rw [e149]; exact h)


def an157 : Ann := (.q (.n (.blk (.q (.cond (.q .z) (.q (.cond (.q .z) (.q (.h))))))) (.q .z)))
def g157 (path_1 : ByteArray) (K : KH) : H -> Prop :=
 brW (strEq path_1 (⟨⟨[]⟩⟩ : ByteArray)) (K (.int .i64 5)) (brW (decide ((((path_1.size : Nat) : Int) : Int) > 255)) (K (.int .i64 3)) (callT Tryz.prog 78 [.string path_1, .int .u8 0] kI (fun (x2 : Int) => brW (decide ((x2 : Int) >= 0)) (K (.int .i64 2)) (K (.int .i64 0)))))
theorem e157 (path_1 : ByteArray) (K : KH) : bodyF Tryz.prog tau Tryz.f157 an157 [.string path_1] K = g157 path_1 K := by kernel_rfl
theorem c157 (path_1 : ByteArray) {K : KH} {σ : H} (h : g157 path_1 K σ) : callW Tryz.prog 157 [.string path_1] K σ := call_of_body mixed Tryz.func157 (by rw [e157]; exact h)


def an158 : Ann := (.q (.q .z))
def g158 (path_1 : ByteArray) (K : KH) : H -> Prop :=
 alW (.cells ⟨[.string path_1]⟩ 9 (0, 0)) (fun b2 => K (.func (.func 201) ⟨[]⟩ ⟨[.pointer (some ⟨b2, 0, none⟩)]⟩))
theorem e158 (path_1 : ByteArray) (K : KH) : bodyF Tryz.prog tau Tryz.f158 an158 [.string path_1] K = g158 path_1 K := by kernel_rfl
theorem c158 (path_1 : ByteArray) {K : KH} {σ : H} (h : g158 path_1 K σ) : callW Tryz.prog 158 [.string path_1] K σ := call_of_body mixed Tryz.func158 (by rw [e158]; exact h)


def an159 : Ann := (.q (.q (.n (.q (.h)) (.q (.q .z)))))
def g159 (t_1 : Option Addr) (dir_2 : Int) (name_3 : ByteArray) (K : KH) : H -> Prop :=
 callT Tryz.prog 127 [.pointer t_1, .int .i64 dir_2] kP (fun x4 => brW x4.isNone (K (.tuple ⟨[.int .i64 0, .bool false]⟩)) (ptrW x4 (fun b5 o6 => rdT (rdC b5 (o6 + 5)) kM (fun (x7 : Option Nat) => rdT (rdM .string (.int .i64 0) true x7 (.string name_3)) (.tup [.sc (.int .i64), .sc .bool]) (fun (x8 : Int) (x9 : Bool) => K (.tuple ⟨[.int .i64 x8, .bool x9]⟩))))))
theorem e159 (t_1 : Option Addr) (dir_2 : Int) (name_3 : ByteArray) (K : KH) : bodyF Tryz.prog tau Tryz.f159 an159 [.pointer t_1, .int .i64 dir_2, .string name_3] K = g159 t_1 dir_2 name_3 K := by kernel_rfl
theorem c159 (t_1 : Option Addr) (dir_2 : Int) (name_3 : ByteArray) {K : KH} {σ : H} (h : g159 t_1 dir_2 name_3 K σ) : callW Tryz.prog 159 [.pointer t_1, .int .i64 dir_2, .string name_3] K σ := call_of_body mixed Tryz.func159 (by rw [e159]; exact h)


def an160 : Ann := (.q (.q (.n (.q (.h)) (.q .z))))
def g160 (x1 : Option Addr) (x2 : Option Addr) (K : KH) : H -> Prop :=
 ptrW x1 (fun b3 o4 => rdT (rdC b3 o4) kP (fun x5 => ptrW x2 (fun b6 o7 => rdT (rdC b6 o7) kI (fun (x8 : Int) => callT Tryz.prog 127 [.pointer x5, .int .i64 x8] kP (fun x9 => brW x9.isNone (K (.int .i64 5)) (ptrW x9 (fun b10 o11 => rdT (rdC b10 o11) kI (fun (x12 : Int) => callT Tryz.prog 119 [.bool ((x12 : Int) == 2), .int .i64 8] kI (fun (x13 : Int) => K (.int .i64 x13))))))))))
theorem e160 (x1 : Option Addr) (x2 : Option Addr) (K : KH) : bodyF Tryz.prog tau Tryz.f160 an160 [.pointer x1, .pointer x2] K = g160 x1 x2 K := by kernel_rfl
theorem c160 (x1 : Option Addr) (x2 : Option Addr) {K : KH} {σ : H} (h : g160 x1 x2 K σ) : callW Tryz.prog 160 [.pointer x1, .pointer x2] K σ := call_of_body mixed Tryz.func160 (by rw [e160]; exact h)


def an161 : Ann := (.q (.n (.q (.h)) (.q .z)))
def g161 (x1 : Option Addr) (K : KH) : H -> Prop :=
 ptrW x1 (fun b2 o3 => rdT (rdC b2 o3) kS (fun (x4 : ByteArray) => brW (decide ((((x4.size : Nat) : Int) : Int) > 56)) (K (.int .i64 3)) (ptrW x1 (fun b5 o6 => rdT (rdC b5 o6) kS (fun (x7 : ByteArray) => brW (!strEq x7 (⟨⟨[]⟩⟩ : ByteArray)) (ptrW x1 (fun b8 o9 => rdT (rdC b8 o9) kS (fun (x10 : ByteArray) => brW (!strEq x10 (⟨⟨[46]⟩⟩ : ByteArray)) (ptrW x1 (fun b11 o12 => rdT (rdC b11 o12) kS (fun (x13 : ByteArray) => brW (!strEq x13 (⟨⟨[46, 46]⟩⟩ : ByteArray)) (ptrW x1 (fun b14 o15 =>
 rdT (rdC b14 o15) kS (fun (x16 : ByteArray) => callT Tryz.prog 162 [.string x16, .string (⟨⟨[47, 0]⟩⟩ : ByteArray)] kB (fun x17 => callT Tryz.prog 119 [.bool (!x17), .int .i64 2] kI (fun (x18 : Int) => K (.int .i64 x18)))))) (callT Tryz.prog 119 [.bool false, .int .i64 2] kI (fun (x19 : Int) => K (.int .i64 x19)))))) (callT Tryz.prog 119 [.bool false, .int .i64 2] kI (fun (x20 : Int) => K (.int .i64 x20)))))) (callT Tryz.prog 119 [.bool false, .int .i64 2] kI (fun (x21 : Int) =>
 K (.int .i64 x21))))))))
theorem e161 (x1 : Option Addr) (K : KH) : bodyF Tryz.prog tau Tryz.f161 an161 [.pointer x1] K = g161 x1 K := by kernel_rfl
theorem c161 (x1 : Option Addr) {K : KH} {σ : H} (h : g161 x1 K σ) : callW Tryz.prog 161 [.pointer x1] K σ := call_of_body mixed Tryz.func161 (by rw [e161]; exact h)


def an162 : Ann := (.q (.q .z))
def g162 (s_1 : ByteArray) (chars_2 : ByteArray) (K : KH) : H -> Prop :=
 callT Tryz.prog 203 [.string s_1, .string chars_2] kI (fun (x3 : Int) => K (.bool (decide ((x3 : Int) >= 0))))
theorem e162 (s_1 : ByteArray) (chars_2 : ByteArray) (K : KH) : bodyF Tryz.prog tau Tryz.f162 an162 [.string s_1, .string chars_2] K = g162 s_1 chars_2 K := by kernel_rfl
theorem c162 (s_1 : ByteArray) (chars_2 : ByteArray) {K : KH} {σ : H} (h : g162 s_1 chars_2 K σ) : callW Tryz.prog 162 [.string s_1, .string chars_2] K σ := call_of_body mixed Tryz.func162 (by rw [e162]; exact h)


def an163 : Ann := (.q (.q (.q .z)))
def g163 (x1 : Option Addr) (x2 : Option Addr) (x3 : Option Addr) (K : KH) : H -> Prop :=
 ptrW x1 (fun b4 o5 => rdT (rdC b4 o5) kP (fun x6 => ptrW x2 (fun b7 o8 => rdT (rdC b7 o8) kI (fun (x9 : Int) => ptrW x3 (fun b10 o11 => rdT (rdC b10 o11) kS (fun (x12 : ByteArray) => callT Tryz.prog 159 [.pointer x6, .int .i64 x9, .string x12] (.tup [.sc (.int .i64), .sc .bool]) (fun (_x13 : Int) (x14 : Bool) => callT Tryz.prog 119 [.bool (!x14), .int .i64 6] kI (fun (x15 : Int) => K (.int .i64 x15)))))))))
theorem e163 (x1 : Option Addr) (x2 : Option Addr) (x3 : Option Addr) (K : KH) : bodyF Tryz.prog tau Tryz.f163 an163 [.pointer x1, .pointer x2, .pointer x3] K = g163 x1 x2 x3 K := by kernel_rfl
theorem c163 (x1 : Option Addr) (x2 : Option Addr) (x3 : Option Addr) {K : KH} {σ : H} (h : g163 x1 x2 x3 K σ) : callW Tryz.prog 163 [.pointer x1, .pointer x2, .pointer x3] K σ := call_of_body mixed Tryz.func163 (by rw [e163]; exact h)


def an164 : Ann := (.q (.n (.reg (rn 30) [[],[0],[0,1],[0,1,2],(rn 4),[],(rn 6),[],[7],[7,8],[7,8,9],[7,8,9,10],(rn 12),(rn 13),(rn 14),(rn 15),(rn 16),(rn 17),(rn 18),(rn 14),(rn 20),(rn 14),[0,1,2,3,4,5,6,7,8,9,10,11,12,13,21],[0,1,2,3,4,5,6,7,8,9,10,11,12,13,21,22],[0,1,2,3,4,5,6,7,8,9,10,11,12,13,21,22,23],[0,1,2,3,4,5,6,7,8,9,10,11,12,13,21,22,23,24],(rn 26),(rn 27),(rn 28),(rn 29)]) .z))
def g164 (x1 : Option Addr) (x2 : Option Addr) (x3 : Option Addr) (K : KH) : H -> Prop :=
 ptrW x1 (fun b4 o5 => rdT (rdC b4 o5) kP (fun x6 => ptrW x6 (fun b7 o8 => rdT (rdC b7 (o8 + 2)) kI (fun (x9 : Int) => ptrW x2 (fun b10 o11 => rdT (rdC b10 o11) kI (fun (x12 : Int) => ptrW x1 (fun b13 o14 => rdT (rdC b13 o14) kP (fun x15 => ptrW x15 (fun b16 o17 => rdT (rdC b16 o17) kI (fun (x18 : Int) => brW (decide (((IntKind.i64.wrap (x9 + x12)) : Int) <= x18)) (ptrW x1 (fun b19 o20 => rdT (rdC b19 o20) kP (fun x21 => ptrW x21 (fun b22 o23 => rdT (rdC b22 (o23 + 3)) kI (fun (x24 : Int) =>
 ptrW x3 (fun b25 o26 => rdT (rdC b25 o26) kI (fun (x27 : Int) => ptrW x1 (fun b28 o29 => rdT (rdC b28 o29) kP (fun x30 => ptrW x30 (fun b31 o32 => rdT (rdC b31 (o32 + 1)) kI (fun (x33 : Int) => callT Tryz.prog 119 [.bool (decide (((IntKind.i64.wrap (x24 + x27)) : Int) <= x33)), .int .i64 10] kI (fun (x34 : Int) => K (.int .i64 x34))))))))))))) (callT Tryz.prog 119 [.bool false, .int .i64 10] kI (fun (x35 : Int) => K (.int .i64 x35)))))))))))))
theorem e164 (x1 : Option Addr) (x2 : Option Addr) (x3 : Option Addr) (K : KH) : bodyF Tryz.prog tau Tryz.f164 an164 [.pointer x1, .pointer x2, .pointer x3] K = g164 x1 x2 x3 K := by kernel_rfl
theorem c164 (x1 : Option Addr) (x2 : Option Addr) (x3 : Option Addr) {K : KH} {σ : H} (h : g164 x1 x2 x3 K σ) : callW Tryz.prog 164 [.pointer x1, .pointer x2, .pointer x3] K σ := call_of_body mixed Tryz.func164 (by rw [e164]; exact h)


def an165 : Ann := (.q (.q (.n (.blk (.q (.cond (.q .z) (.q (.h))))) (.q .z))))
def g165 (x1 : Option Addr) (x2 : Option Addr) (K : KH) : H -> Prop :=
 ptrW x1 (fun b3 o4 => rdT (rdC b3 o4) kP (fun x5 => ptrW x2 (fun b6 o7 => rdT (rdC b6 o7) kI (fun (x8 : Int) => callT Tryz.prog 127 [.pointer x5, .int .i64 x8] kP (fun x9 => brW x9.isNone (K (.int .i64 5)) (ptrW x9 (fun b10 o11 => rdT (rdC b10 o11) kI (fun (x12 : Int) => brW ((x12 : Int) == 2) (K (.int .i64 7)) (ptrW x9 (fun b13 o14 => rdT (rdC b13 o14) kI (fun (x15 : Int) => callT Tryz.prog 119 [.bool ((x15 : Int) == 1), .int .i64 2] kI (fun (x16 : Int) => K (.int .i64 x16)))))))))))))
theorem e165 (x1 : Option Addr) (x2 : Option Addr) (K : KH) : bodyF Tryz.prog tau Tryz.f165 an165 [.pointer x1, .pointer x2] K = g165 x1 x2 K := by kernel_rfl
theorem c165 (x1 : Option Addr) (x2 : Option Addr) {K : KH} {σ : H} (h : g165 x1 x2 K σ) : callW Tryz.prog 165 [.pointer x1, .pointer x2] K σ := call_of_body mixed Tryz.func165 (by rw [e165]; exact h)


def an167 : Ann := (.q (.q (.q (.n (.q (.blk (.loop [(0,.s),(3,.l),(4,.i),(5,.i)] (.n (.q (.cond .z .z)) (.seq (some [(0,.s),(3,.l),(4,.i),(5,.i),(18,.w),(19,.w),(20,.w),(21,.w)]) (.blk (.n (.seq (some [(0,.s),(3,.l),(4,.i),(5,.i),(18,.w),(19,.w),(20,.w),(21,.w),(22,.b)]) .r (.cond .z .z)) (.q (.seq (some [(0,.s),(3,.l),(5,.i),(18,.w),(19,.w),(20,.w),(21,.w),(30,.w),(31,.w)]) (.seq (some [(0,.s),(3,.l),(5,.i),(6,.s),(18,.w),(19,.w),(20,.w),(21,.w),(30,.w),(31,.w),(32,.b)]) .r (.cond .r .z)) .r)))) .r))))) (.q .z)))))
def g167 (path_1 : ByteArray) (K : KH) : H -> Prop :=
 loopW [.sc .str, .sc .slc, .sc (.int .i64), .sc (.int .i64)] (fun (R2 : ByteArray -> Sl -> Int -> Int -> H -> Prop) => (fun (path_3 : ByteArray) (out_4 : Sl) (from_5 : Int) (i_6 : Int) => brW (decide ((i_6 : Int) <= ((path_3.size : Nat) : Int))) (letJ (T := ByteArray -> Sl -> Int -> Int -> Value -> Value -> Value -> Value -> H -> Prop) (fun path_8 out_9 from_10 i_11 _x12 _x13 _x14 _x15 => R2 path_8 out_9 from_10 (IntKind.i64.wrap (i_11 + 1))) (fun j7 =>
 letJ (T := ByteArray -> Sl -> Int -> Int -> Value -> Value -> Value -> Value -> Bool -> H -> Prop) (fun path_17 out_18 from_19 i_20 x21 x22 x23 x24 x25 => brW x25 (j7 path_17 out_18 from_19 i_20 x21 x22 x23 x24) (ifW (bndOk (some i_20) path_17.size /\ bndOk (some from_19) (i_20.toNat)) (letJ (T := ByteArray -> Sl -> Int -> Value -> Value -> Value -> Value -> Value -> Value -> H -> Prop) (fun path_27 out_28 i_29 x30 x31 x32 x33 _x34 _x35 =>
 j7 path_27 out_28 (IntKind.i64.wrap (i_29 + 1)) i_29 x30 x31 x32 x33) (fun j26 => letJ (T := ByteArray -> Sl -> Int -> ByteArray -> Value -> Value -> Value -> Value -> Value -> Value -> Bool -> H -> Prop) (fun path_37 out_38 i_39 s_40 x41 x42 x43 x44 x45 x46 x47 => brW x47 (alW (.cells ⟨[.string s_40]⟩ 9 (0, 0)) (fun b48 => biW Tryz.prog .append #[38, 38] 38 [false, false] [.slice out_38.base out_38.len out_38.cap, .slice (some ⟨b48, 0, none⟩) 1 1] kL (fun x49 =>
 j26 path_37 x49 i_39 x41 x42 x43 x44 x45 x46))) (j26 path_37 out_38 i_39 x41 x42 x43 x44 x45 x46)) (fun j36 => brW (!strEq (path_17.extract from_19.toNat i_20.toNat) (⟨⟨[]⟩⟩ : ByteArray)) (j36 path_17 out_18 i_20 (path_17.extract from_19.toNat i_20.toNat) x21 x22 x23 x24 (.string (path_17.extract from_19.toNat i_20.toNat)) (.bool (!strEq (path_17.extract from_19.toNat i_20.toNat) (⟨⟨[46]⟩⟩ : ByteArray))) (!strEq (path_17.extract from_19.toNat i_20.toNat) (⟨⟨[46]⟩⟩ : ByteArray)))
 (j36 path_17 out_18 i_20 (path_17.extract from_19.toNat i_20.toNat) x21 x22 x23 x24 (.tuple ⟨[]⟩) (.tuple ⟨[]⟩) false)))))) (fun j16 => brW (decide ((i_6 : Int) < ((path_3.size : Nat) : Int))) (idxW path_3 i_6 (fun c50 => j16 path_3 out_4 from_5 i_6 (.string path_3) (.int .i64 i_6) (.int .u8 (c50.toNat : Int)) (.bool (((c50.toNat : Int) : Int) != 47)) (((c50.toNat : Int) : Int) != 47))) (j16 path_3 out_4 from_5 i_6 (.tuple ⟨[]⟩) (.tuple ⟨[]⟩) (.tuple ⟨[]⟩) (.tuple ⟨[]⟩) false))))
 (K (.slice out_4.base out_4.len out_4.cap)))) (fun (R51 : ByteArray -> Sl -> Int -> Int -> H -> Prop) => R51 path_1 ⟨none, 0, 0⟩ 0 0)
theorem e167 (path_1 : ByteArray) (K : KH) : bodyF Tryz.prog tau Tryz.f167 an167 [.string path_1] K = g167 path_1 K := by kernel_rfl
theorem c167 (path_1 : ByteArray) {K : KH} {σ : H} (h : g167 path_1 K σ) : callW Tryz.prog 167 [.string path_1] K σ := call_of_body mixed Tryz.func167 (by rw [e167]; exact h)

end Go.Proofs.YthclifcpjnhmjaaGreatDoor

