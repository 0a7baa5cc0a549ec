/- A part of a proof. -/
import Derived.Test.YtpfkfphjigcdeaaGreatDoorVaq
import Derived.Test.YtpfkfphjigcdeaaGreatDoorProg
import Derived.KernelRfl
import Derived.Test.YtpfkfphjigcdeaaGreatDoorChecked
import Derived.IntWalk
namespace Go.Wk
open Go Go.HL
structure AN where
 kind : Int
 mode : Int
 data : ByteArray
 links : Int
 up : Int
 ents : List (ByteArray × Int)
structure AT where
 qi : Int
 qb : Int
 ui : Int
 ub : Int
 last : Int
 nodes : List (Int × AN)
def AT.get (A : AT) (i : Int) : Option AN := lk i A.nodes
def AT.find (A : AT) (dir : Int) (name : ByteArray) : Option Int := (A.get dir).bind fun n => lk name n.ents
def AT.kind (A : AT) (i : Int) : Int := ((A.get i).map (·.kind)).getD 0
def AT.upOf (A : AT) (i : Int) : Int := ((A.get i).map (·.up)).getD 0
def sEq (x y : ByteArray) : Bool := x.data.toList == y.data.toList
theorem sEq_eq (x y : ByteArray) : sEq x y = strEq x y := by unfold sEq strEq; rw [ByteArray.toList_eq, ByteArray.toList_eq]
theorem sEq_iff {x y : ByteArray} : sEq x y = true ↔ x = y := by rw [sEq_eq]; exact strEq_iff
def badByte (s : ByteArray) : Bool := s.data.toList.any fun c => c == 47 || c == 0
def hasNul (s : ByteArray) : Bool := s.data.toList.any fun c => c == 0
def namedE (name : ByteArray) : Int := if name.size > 56 then 3 else if !sEq name ⟨⟨[]⟩⟩ && !sEq name ⟨⟨[46]⟩⟩ && !sEq name ⟨⟨[46, 46]⟩⟩ && !badByte name then 0 else 2
def linkOk (d : ByteArray) : Bool := !sEq d ⟨⟨[]⟩⟩ && (decide (d.size <= 255) && !hasNul d)
def kindOkE (kind : Int) (d : ByteArray) : Bool := (lk kind [((1 : Int), true), (2, sEq d ⟨⟨[]⟩⟩), (3, linkOk d)]).getD false
def likeE (kind mode : Int) (d : ByteArray) : Int := if kindOkE kind d && (decide (0 <= mode) && decide (mode <= 511)) then 0 else 2
def wr (x : Int) : Int := IntKind.i64.wrap x
def AT.set (A : AT) (i : Int) (n : AN) : AT := { A with nodes := up i n A.nodes }
def AT.ent (A : AT) (dir : Int) (f : List (ByteArray × Int) -> List (ByteArray × Int)) : AT := match A.get dir with
 | none => A
 | some n => A.set dir { n with ents := f n.ents }
def newOk (qi qb : Int) : Bool := !(decide (qi < 1) || (decide (qi > 1048576) || (decide (qb < 0) || decide (qb > 1073741824))))
def newT (qi qb : Int) : AT := ⟨qi, qb, 1, 0, 1, [(1, ⟨2, 493, ⟨⟨[]⟩⟩, 1, 1, []⟩)]⟩
end Go.Wk

namespace Go.Proofs.YtpfkfphjigcdeaaGreatDoor
open Go Go.HL
@[reducible] def kI : TK := .one (.sc (.int .i64))
@[reducible] def kC : TK := .one (.sc (.int .u8))
@[reducible] def kB : TK := .one (.sc .bool)
@[reducible] def kS : TK := .one (.sc .str)
@[reducible] def kP : TK := .one (.sc .ptr)
@[reducible] def kL : TK := .one (.sc .slc)
@[reducible] def kM : TK := .one (.sc .map)
@[reducible] def kR : TK := .one (.sc .raw)
@[reducible] def kU : TK := .tup []
def tau : Nat -> TK
 | 0 => kU
 | 2 => kI
 | 3 => kI
 | 4 => kB
 | 5 => kC
 | 6 => kC
 | 7 => (.one (.agg [(.int .i64), (.int .i64), .bool, (.int .u8)]))
 | 8 => (.one (.agg [(.int .i64), (.int .i64), .bool, (.int .u8)]))
 | 9 => kS
 | 10 => kS
 | 11 => kS
 | 12 => (.one (.sc (.int .u64)))
 | 13 => (.one (.agg [.str, (.int .u64)]))
 | 14 => (.one (.agg [.str, (.int .u64)]))
 | 15 => kP
 | 16 => kP
 | 17 => kP
 | 18 => (.one (.agg [.ptr]))
 | 19 => (.one (.agg [.ptr]))
 | 21 => (.one (.sc (.int .i32)))
 | 22 => kL
 | 24 => kP
 | 26 => kL
 | 27 => (.tup [.sc .str, .sc .slc])
 | 29 => (.one (.agg [.str, .str, .str]))
 | 32 => kM
 | 41 => (.one (.agg [(.int .i64), (.int .i64)]))
 | 42 => (.one (.agg [(.int .i64), (.int .i64)]))
 | 43 => (.one (.agg [.str, .str, .str, .str, .str, .str, .str, .str, .str, .str, .str, .str]))
 | 44 => (.one (.agg [.str, .str, (.int .i64)]))
 | 45 => (.one (.agg [.str, .str, (.int .i64)]))
 | 46 => (.tup [.agg [.str, .str, (.int .i64)], .sc .bool])
 | 48 => (.one (.agg [.str, .slc, .str, .str]))
 | 49 => (.one (.agg [.str, .slc, .str, .str]))
 | 52 => kP
 | 54 => (.one (.agg [.ptr]))
 | 55 => (.one (.agg [.ptr]))
 | 56 => (.one (.agg [.str, .slc, .str, .str, .ptr]))
 | 57 => (.one (.agg [.str, .slc, .str, .str, .ptr]))
 | 59 => (.tup [.sc .raw, .sc .bool])
 | 60 => kM
 | 63 => kP
 | 64 => (.one (.agg [(.int .i64), (.int .i64), .str, (.int .i64)]))
 | 65 => (.one (.agg [(.int .i64), (.int .i64), .str, (.int .i64)]))
 | 66 => (.one (.agg [(.int .i64), (.int .i64), .str, (.int .i64), (.int .i64), .map]))
 | 67 => (.one (.agg [(.int .i64), (.int .i64), .str, (.int .i64), (.int .i64), .map]))
 | 68 => kM
 | 69 => (.one (.agg [(.int .i64), (.int .i64), (.int .i64), (.int .i64), .map, (.int .i64)]))
 | 70 => (.one (.agg [(.int .i64), (.int .i64), (.int .i64), (.int .i64), .map, (.int .i64)]))
 | 71 => (.tup [.sc .str, .sc .slc, .sc .bool])
 | 73 => (.tup [.sc .str, .agg [.str, .str, (.int .i64)]])
 | 79 => kL
 | 82 => (.tup [.sc .slc, .sc .bool])
 | 85 => kM
 | 86 => (.tup [.sc .map, .sc .slc, .sc .bool])
 | 88 => (.tup [.sc .str, .sc .bool])
 | 89 => kL
 | 90 => (.tup [.sc .slc, .sc .bool])
 | 101 => (.tup [.sc (.int .i32), .sc (.int .i64)])
 | 106 => kP
 | 107 => (.one (.agg [(.int .u8), .str, .bool]))
 | 108 => (.one (.agg [(.int .u8), .str, .bool]))
 | 109 => kP
 | 110 => (.one (.agg [.ptr, .slc]))
 | 111 => (.one (.agg [.ptr, .slc]))
 | 112 => kI
 | 113 => (.tup [.sc .str, .sc (.int .i64)])
 | 117 => (.tup [.sc (.int .i64), .sc .raw])
 | 120 => (.tup [.sc (.int .i64), .sc .bool])
 | 122 => kL
 | 123 => (.one (.agg [(.int .i64), (.int .i64)]))
 | 124 => (.one (.agg [(.int .i64), (.int .i64)]))
 | 126 => kL
 | 127 => (.one (.agg [(.int .u8), .bool]))
 | 128 => (.one (.agg [(.int .u8), .bool]))
 | 132 => (.tup [.sc .str, .sc .str, .sc .bool])
 | 134 => (.one (.agg [(.int .i64), (.int .i64)]))
 | 135 => (.one (.agg [(.int .i64), (.int .i64)]))
 | 142 => (.tup [.sc (.int .i64), .sc .raw])
 | 146 => (.one (.sc (.int .u64)))
 | 150 => kP
 | 157 => (.tup [.sc .raw, .sc .bool])
 | 160 => kP
 | 161 => (.tup [.sc .raw, .sc .raw])
 | 167 => (.one (.agg [(.int .u8), (.int .u8)]))
 | 168 => (.one (.agg [(.int .u8), (.int .u8)]))
 | 170 => (.one (.sc (.int .u32)))
 | 171 => (.tup [.sc (.int .u32), .sc (.int .u32)])
 | 173 => (.one (.agg [(.int .i64), .str, (.int .i64), .bool]))
 | 174 => (.one (.agg [(.int .i64), .str, (.int .i64), .bool]))
 | 175 => (.tup [.agg [(.int .i64), .str, (.int .i64), .bool], .sc (.int .i64)])
 | 177 => (.tup [.agg [(.int .i64), (.int .i64), .str, (.int .i64)], .sc .bool])
 | 182 => (.one (.agg [(.int .u8), (.int .u8), (.int .u8), (.int .u8), (.int .u8), (.int .u8), (.int .u8), (.int .u8), (.int .u8), (.int .u8), (.int .u8), (.int .u8), (.int .u8), (.int .u8), (.int .u8), (.int .u8), (.int .u8), (.int .u8), (.int .u8), (.int .u8), (.int .u8), (.int .u8), (.int .u8), (.int .u8)]))
 | 183 => (.one (.sc (.int .u64)))
 | 186 => (.tup [.sc .slc, .sc .str])
 | 191 => (.tup [.sc .str, .sc (.int .i64)])
 | 195 => kP
 | 197 => kI
 | 198 => (.tup [.sc (.int .i64), .sc .raw])
 | 200 => kP
 | 204 => (.one (.agg [(.int .u64), (.int .u64), (.int .u64), (.int .u64), (.int .u64), (.int .u64), (.int .u64), (.int .u64), (.int .u64), (.int .u64), (.int .u64), (.int .u64), (.int .u64), (.int .u64), (.int .u64), (.int .u64), (.int .u64), (.int .u64), (.int .u64), (.int .u64)]))
 | 208 => (.tup [.sc .raw, .sc (.int .i64), .sc .raw])
 | 215 => (.tup [.sc (.int .u64), .sc .raw])
 | 217 => (.one (.agg [.str, .str, .raw]))
 | 218 => (.one (.agg [.str, .str, .raw]))
 | 222 => (.tup [.sc .raw, .sc (.int .i64), .sc .raw])
 | 227 => kP
 | 228 => (.one (.agg [.str]))
 | 229 => (.one (.agg [.str]))
 | 232 => (.tup [.sc .raw, .sc (.int .i64), .sc .bool])
 | 234 => (.tup [.sc (.int .u64), .sc (.int .i64), .sc .bool, .sc .bool, .sc .bool, .sc (.int .i64), .sc .bool])
 | 237 => kP
 | 238 => (.one (.agg [(.int .u64), (.int .u64), (.int .i64)]))
 | 239 => (.one (.agg [(.int .u64), (.int .u64), (.int .i64)]))
 | 242 => (.tup [.sc .raw, .sc .bool])
 | 244 => (.tup [.sc .raw, .sc .raw])
 | 249 => (.tup [.sc (.int .u64), .sc .bool])
 | 253 => (.tup [.sc .raw, .sc .bool])
 | 258 => kL
 | 259 => (.one (.agg [(.int .u64), (.int .u64), (.int .i64)]))
 | 260 => (.one (.agg [(.int .u64), (.int .u64), (.int .i64)]))
 | 262 => kP
 | 263 => (.one (.sc (.int .u64)))
 | 268 => kP
 | 269 => kL
 | 271 => (.one (.agg [(.int .u64), (.int .u64)]))
 | 272 => (.one (.agg [(.int .u64), (.int .u64)]))
 | 274 => (.tup [.sc (.int .u64), .sc (.int .u64)])
 | 278 => (.one (.agg [(.int .i64), .str]))
 | 279 => (.one (.agg [(.int .i64), .str]))
 | 280 => kL
 | 283 => (.one (.agg [.ptr, .ptr, .ptr, .str]))
 | 284 => (.one (.agg [.ptr, .ptr, .ptr, .str]))
 | 285 => (.one (.agg []))
 | 286 => (.one (.agg []))
 | 287 => (.one (.agg []))
 | 288 => kC
 | 289 => kC
 | 291 => (.one (.sc (.int .i32)))
 | 292 => (.one (.sc (.int .i32)))
 | 293 => (.one (.agg [(.int .u64), (.int .u64), (.int .u32), (.int .u8), (.int .u8), (.int .u8), (.int .u8), .raw, .ptr, (.int .i32), (.int .i32)]))
 | 294 => (.one (.agg [(.int .u64), (.int .u64), (.int .u32), (.int .u8), (.int .u8), (.int .u8), (.int .u8), .raw, .ptr, (.int .i32), (.int .i32)]))
 | 1000000 => (.tup [.sc .str, .sc (.int .i64)])
 | _ => kR
theorem mixed : Tryz.prog.follows .mixedOrders = true := by kernel_rfl
end Go.Proofs.YtpfkfphjigcdeaaGreatDoor

set_option maxRecDepth 100000
namespace Go.Proofs.YtpfkfphjigcdeaaGreatDoor
open Go Go.HL
theorem call_k {fn : Func} {f : FuncId} (an : Ann) {args : List Value} {K : KH} {σ : H} {G : H -> Prop} (hf : Tryz.prog.funcs[f]? = some fn) (e : bodyF Tryz.prog tau fn an args K = G) (h : G σ) : callW Tryz.prog f args K σ := call_of_body mixed hf (by rw [e]; exact h)

def an3 : Ann := (.q (.n (.q (.h)) (.q (.n (.q (.h)) (.q (.q (.q (.n (.seq (some [(1,.sc (.int .u8)),(5,.p),(6,.s),(8,.s),(9,.s),(47,.b)]) .r (.h)) (.q (.q (.n (.q (.h)) (.q (.n (.q (.blk (.loop [(1,.sc (.int .u8)),(5,.p),(6,.s),(8,.s),(9,.s),(10,.l),(11,.l),(12,.i),(13,.i)] (.n (.q (.cond .z .z)) (.n (.blk (.n (.reg (rn 12) [[],[],[0,1],[0,1,2],[],[],[5],[],[5,6,7],[4,5,6,7,8],[4,5,6,7,8,9],(rn 11)]) (.h))) .r))))) (.n (.q (.blk (.loop [(1,.sc (.int .u8)),(5,.p),(6,.s),(9,.s),(87,.p)] (.q (.n (.cond .z .z) (.blk (.q (.q (.h))))))))) (.q .z)))))))))))))))
def g3 (v1 : Sl) (v2 : Int) (K : KH) : H -> Prop :=
 callT Tryz.prog 6 [] kB (fun x3 => brW (!x3) (K (.bool false)) (callT Tryz.prog 7 [] kP (fun x4 => brW x4.isNone (K (.bool false)) (callT Tryz.prog 8 [.slice v1.base v1.len v1.cap] (.tup [.sc .str, .sc .slc]) (fun (x5 : ByteArray) (_x6 : Sl) => ifW ((3 : Int) ≠ 0)
 (rdT (rdX 3 [.string ⟨⟨[115, 111, 114, 116]⟩⟩, .string ⟨⟨[115, 111, 114, 116, 124, 45, 110]⟩⟩, .string ⟨⟨[115, 111, 114, 116, 124, 45, 103]⟩⟩] (Int.tmod v2 3)) kS (fun (x7 : ByteArray) => callT Tryz.prog 9 [.pointer x4, .string x5, .string x7] kS (fun (x8 : ByteArray) => letJ (T := Int -> Option Addr -> ByteArray -> ByteArray -> ByteArray -> Bool -> H -> Prop) (fun v10 v11 v12 v13 v14 x15 => brW x15 (K (.bool false))
 (ifW (v13.size + (⟨⟨[124, 45, 114]⟩⟩ : ByteArray).size <= 9223372036854775807) (callT Tryz.prog 9 [.pointer v11, .string v12, .string (v13 ++ ⟨⟨[124, 45, 114]⟩⟩)] kS (fun (x16 : ByteArray) => callT Tryz.prog 12 [.string x16, .string ⟨⟨[10]⟩⟩] kL (fun x17 => callT Tryz.prog 12 [.string v14, .string ⟨⟨[10]⟩⟩] kL (fun x18 => brW (((x17.len : Nat) : Int) != ((x18.len : Nat) : Int)) (K (.bool false))
 (loopW [.sc (.int .u8), .sc .ptr, .sc .str, .sc .str, .sc .str, .sc .slc, .sc .slc, .sc (.int .i64), .sc (.int .i64)] (fun (R19 : Int -> Option Addr -> ByteArray -> ByteArray -> ByteArray -> Sl -> Sl -> Int -> Int -> H -> Prop) => (fun (v20 : Int) (v21 : Option Addr) (v22 : ByteArray) (v23 : ByteArray) (v24 : ByteArray) (v25 : Sl) (v26 : Sl) (v27 : Int) (v28 : Int) => brW (decide ((v28 : Int) < v27)) (ptrW v25.base (fun b29 o30 => ifW (0 <= v28 /\ v28 < ((v25.len : Nat) : Int))
 (rdT (rdC b29 (o30 + v28.toNat * 1)) kS (fun (x31 : ByteArray) => ptrW v26.base (fun b32 o33 => ifW (0 <= IntKind.i64.wrap ((IntKind.i64.wrap (v27 - 1)) - v28) /\ IntKind.i64.wrap ((IntKind.i64.wrap (v27 - 1)) - v28) < ((v26.len : Nat) : Int)) (rdT (rdC b32 (o33 + (IntKind.i64.wrap ((IntKind.i64.wrap (v27 - 1)) - v28) : Int).toNat * 1)) kS (fun (x34 : ByteArray) => brW (!strEq x31 x34) (K (.bool false))
 (R19 v20 v21 v22 v23 v24 v25 v26 v27 (IntKind.i64.wrap (v28 + 1)))))))))) (ifW (v23.size + (⟨⟨[124, 45, 117]⟩⟩ : ByteArray).size <= 9223372036854775807) (callT Tryz.prog 9 [.pointer v21, .string v22, .string (v23 ++ ⟨⟨[124, 45, 117]⟩⟩)] kS (fun (x35 : ByteArray) => callT Tryz.prog 11 [.string x35] kM (fun (x36 : Option Nat) => vaW Tryz.prog (Instr.range 32 (.map x36)) kP (fun x37 =>
 loopW [.sc (.int .u8), .sc .ptr, .sc .str, .sc .str, .sc .ptr] (fun (R38 : Int -> Option Addr -> ByteArray -> ByteArray -> Option Addr -> H -> Prop) => (fun (v39 : Int) (v40 : Option Addr) (v41 : ByteArray) (v42 : ByteArray) (x43 : Option Addr) => vaW Tryz.prog (Instr.next (.pointer x43) false 0) (.opt [.sc .raw, .sc .raw]) (callT Tryz.prog 9 [.pointer v40, .string v41, .string ⟨⟨[115, 111, 114, 116, 124, 45, 117]⟩⟩] kS (fun (x44 : ByteArray) =>
 callT Tryz.prog 9 [.pointer v40, .string v42, .string ⟨⟨[117, 110, 105, 113]⟩⟩] kS (fun (x45 : ByteArray) => brW (strEq x44 x45) (K (.bool true)) (ifW ((3 : Int) ≠ 0) (K (.bool (decide (((Int.tmod v39 3) : Int) > 0))))))), (fun _x46 _x47 => vaW Tryz.prog (Instr.entry (.pointer x43)) (.tup [.sc .str, .sc (.int .i64)]) (fun (_x48 : ByteArray) (x49 : Int) => brW ((x49 : Int) != 1) (K (.bool false))
 (R38 v39 v40 v41 v42 x43)))))) (fun (R50 : Int -> Option Addr -> ByteArray -> ByteArray -> Option Addr -> H -> Prop) => R50 v20 v21 v22 v24 x37)))))))) (fun (R51 : Int -> Option Addr -> ByteArray -> ByteArray -> ByteArray -> Sl -> Sl -> Int -> Int -> H -> Prop) => R51 v10 v11 v12 v13 v14 x17 x18 (IntKind.i64.wrap (((x18.len : Nat) : Int) - 1)) 0)))))))) (fun j9 => callT Tryz.prog 11 [.string x8] kM (fun (x52 : Option Nat) => callT Tryz.prog 11 [.string x5] kM (fun (x53 : Option Nat) =>
 callT Tryz.prog 10 [.map x52, .map x53] kB (fun x54 => brW (!x54) (j9 v2 x4 x5 x7 x8 true) (callT Tryz.prog 9 [.pointer x4, .string x8, .string x7] kS (fun (x55 : ByteArray) => j9 v2 x4 x5 x7 x8 (!strEq x55 x8)))))))))))))))
theorem c3 (v1 : Sl) (v2 : Int) {K : KH} {σ : H} : g3 v1 v2 K σ -> callW Tryz.prog 3 [.slice v1.base v1.len v1.cap, .int .u8 v2] K σ := call_k an3 Tryz.func3 (by kernel_rfl)


def an6 : Ann := (.q (.q (.n (.q (.h)) (.q (.q .z)))))
def g6  (K : KH) : H -> Prop :=
 callT Tryz.prog 7 [] kP (fun x1 => brW x1.isNone (K (.bool false)) (callT Tryz.prog 9 [.pointer x1, .string ⟨⟨[98, 32, 50, 10, 97, 32, 49, 48, 10, 97, 32, 49, 48, 10]⟩⟩, .string ⟨⟨[115, 111, 114, 116]⟩⟩] kS (fun (x2 : ByteArray) => brW (strEq x2 (⟨⟨[97, 32, 49, 48, 10, 97, 32, 49, 48, 10, 98, 32, 50, 10]⟩⟩ : ByteArray))
 (callT Tryz.prog 9 [.pointer x1, .string ⟨⟨[98, 32, 50, 10, 97, 32, 49, 48, 10, 97, 32, 49, 48, 10]⟩⟩, .string ⟨⟨[115, 111, 114, 116, 124, 45, 117]⟩⟩] kS (fun (x3 : ByteArray) => brW (strEq x3 (⟨⟨[97, 32, 49, 48, 10, 98, 32, 50, 10]⟩⟩ : ByteArray)) (callT Tryz.prog 9 [.pointer x1, .string ⟨⟨[98, 32, 50, 10, 97, 32, 49, 48, 10, 97, 32, 49, 48, 10]⟩⟩, .string ⟨⟨[115, 111, 114, 116, 124, 45, 114]⟩⟩] kS (fun (x4 : ByteArray) =>
 brW (strEq x4 (⟨⟨[98, 32, 50, 10, 97, 32, 49, 48, 10, 97, 32, 49, 48, 10]⟩⟩ : ByteArray)) (callT Tryz.prog 9 [.pointer x1, .string ⟨⟨[98, 32, 50, 10, 97, 32, 49, 48, 10, 97, 32, 49, 48, 10]⟩⟩, .string ⟨⟨[117, 110, 105, 113, 124, 45, 99]⟩⟩] kS (fun (x5 : ByteArray) => brW (strEq x5 (⟨⟨[49, 32, 98, 32, 50, 10, 50, 32, 97, 32, 49, 48, 10]⟩⟩ : ByteArray))
 (callT Tryz.prog 9 [.pointer x1, .string ⟨⟨[98, 32, 50, 10, 97, 32, 49, 48, 10, 97, 32, 49, 48, 10]⟩⟩, .string ⟨⟨[104, 101, 97, 100, 124, 45, 110, 124, 49]⟩⟩] kS (fun (x6 : ByteArray) => brW (strEq x6 (⟨⟨[98, 32, 50, 10]⟩⟩ : ByteArray)) (callT Tryz.prog 9 [.pointer x1, .string ⟨⟨[98, 32, 50, 10, 97, 32, 49, 48, 10, 97, 32, 49, 48, 10]⟩⟩, .string ⟨⟨[116, 97, 105, 108, 124, 45, 110, 49]⟩⟩] kS (fun (x7 : ByteArray) =>
 brW (strEq x7 (⟨⟨[97, 32, 49, 48, 10]⟩⟩ : ByteArray)) (callT Tryz.prog 9 [.pointer x1, .string ⟨⟨[98, 32, 50, 10, 97, 32, 49, 48, 10, 97, 32, 49, 48, 10]⟩⟩, .string ⟨⟨[119, 99]⟩⟩] kS (fun (x8 : ByteArray) => brW (strEq x8 (⟨⟨[51, 32, 54, 32, 49, 52, 10]⟩⟩ : ByteArray)) (callT Tryz.prog 9 [.pointer x1, .string ⟨⟨[98, 32, 50, 10, 97, 32, 49, 48, 10, 97, 32, 49, 48, 10]⟩⟩, .string ⟨⟨[119, 99, 124, 45, 108]⟩⟩] kS (fun (x9 : ByteArray) =>
 brW (strEq x9 (⟨⟨[51, 10]⟩⟩ : ByteArray)) (callT Tryz.prog 9 [.pointer x1, .string ⟨⟨[98, 32, 50, 10, 97, 32, 49, 48, 10, 97, 32, 49, 48, 10]⟩⟩, .string ⟨⟨[116, 114, 124, 97, 45, 98, 124, 120]⟩⟩] kS (fun (x10 : ByteArray) => brW (strEq x10 (⟨⟨[120, 32, 50, 10, 120, 32, 49, 48, 10, 120, 32, 49, 48, 10]⟩⟩ : ByteArray))
 (callT Tryz.prog 9 [.pointer x1, .string ⟨⟨[98, 32, 50, 10, 97, 32, 49, 48, 10, 97, 32, 49, 48, 10]⟩⟩, .string ⟨⟨[116, 114, 124, 45, 100, 124, 48]⟩⟩] kS (fun (x11 : ByteArray) => brW (strEq x11 (⟨⟨[98, 32, 50, 10, 97, 32, 49, 10, 97, 32, 49, 10]⟩⟩ : ByteArray))
 (callT Tryz.prog 9 [.pointer x1, .string ⟨⟨[98, 32, 50, 10, 97, 32, 49, 48, 10, 97, 32, 49, 48, 10]⟩⟩, .string ⟨⟨[99, 117, 116, 124, 45, 100, 124, 32, 124, 45, 102, 124, 50]⟩⟩] kS (fun (x12 : ByteArray) => brW (strEq x12 (⟨⟨[50, 10, 49, 48, 10, 49, 48, 10]⟩⟩ : ByteArray))
 (callT Tryz.prog 9 [.pointer x1, .string ⟨⟨[98, 32, 50, 10, 97, 32, 49, 48, 10, 97, 32, 49, 48, 10]⟩⟩, .string ⟨⟨[99, 117, 116, 124, 45, 99, 124, 49]⟩⟩] kS (fun (x13 : ByteArray) => brW (strEq x13 (⟨⟨[98, 10, 97, 10, 97, 10]⟩⟩ : ByteArray)) (callT Tryz.prog 14 [.pointer x1, .string ⟨⟨[99, 97, 116, 124, 110, 111, 110, 101]⟩⟩, .string ⟨⟨[99, 97, 116, 58, 32, 110, 111, 110, 101, 58, 32, 53, 10]⟩⟩, .int .i64 1] kB (fun x14 => brW x14
 (callT Tryz.prog 14 [.pointer x1, .string ⟨⟨[104, 101, 97, 100, 124, 45, 120]⟩⟩, .string ⟨⟨[104, 101, 97, 100, 58, 32, 117, 115, 97, 103, 101, 10]⟩⟩, .int .i64 2] kB (fun x15 => K (.bool x15))) (K (.bool false)))) (K (.bool false)))) (K (.bool false)))) (K (.bool false)))) (K (.bool false)))) (K (.bool false)))) (K (.bool false)))) (K (.bool false)))) (K (.bool false)))) (K (.bool false)))) (K (.bool false)))) (K (.bool false)))) (K (.bool false)))))
theorem c6  {K : KH} {σ : H} : g6  K σ -> callW Tryz.prog 6 [] K σ := call_k an6 Tryz.func6 (by kernel_rfl)


def an7 : Ann := (.q (.q .z))
def g7  (K : KH) : H -> Prop :=
 callT Tryz.prog 15 [.agg ⟨[.int .i64 9, .int .i64 900]⟩] kP (fun x1 => K (.pointer x1))
theorem c7  {K : KH} {σ : H} : g7  K σ -> callW Tryz.prog 7 [] K σ := call_k an7 Tryz.func7 (by kernel_rfl)


def an8 : Ann := (.q (.q (.q (.q (.n (.q (.blk (.loop [(0,.l),(4,.p),(5,.s),(6,.l),(7,.i)] (.n (.seq (some [(0,.l),(4,.p),(5,.s),(6,.l),(7,.i),(17,.b)]) .r (.cond .z .z)) (.n (.blk (.q (.q .r))) .r))))) (.q .z))))))
def g8 (v1 : Sl) (K : KH) : H -> Prop :=
 alW (.cells ⟨[.string ⟨⟨[]⟩⟩, .string ⟨⟨[]⟩⟩, .string ⟨⟨[]⟩⟩, .string ⟨⟨[]⟩⟩, .string ⟨⟨[]⟩⟩, .string ⟨⟨[]⟩⟩, .string ⟨⟨[]⟩⟩, .string ⟨⟨[]⟩⟩, .string ⟨⟨[]⟩⟩, .string ⟨⟨[]⟩⟩, .string ⟨⟨[]⟩⟩, .string ⟨⟨[]⟩⟩]⟩ 43 (0, 0)) (fun b2 =>
 stW Tryz.prog 43 (.pointer (some ⟨b2, 0, none⟩)) (.agg ⟨[.string ⟨⟨[]⟩⟩, .string ⟨⟨[97]⟩⟩, .string ⟨⟨[98]⟩⟩, .string ⟨⟨[97, 98]⟩⟩, .string ⟨⟨[49, 48]⟩⟩, .string ⟨⟨[57]⟩⟩, .string ⟨⟨[45, 51]⟩⟩, .string ⟨⟨[32, 55]⟩⟩, .string ⟨⟨[49, 101, 51]⟩⟩, .string ⟨⟨[110, 97, 110]⟩⟩, .string ⟨⟨[48, 120]⟩⟩, .string ⟨⟨[45, 48]⟩⟩]⟩) (loopW [.sc .slc, .sc .ptr, .sc .str, .sc .slc, .sc (.int .i64)] (fun (R3 : Sl -> Option Addr -> ByteArray -> Sl -> Int -> H -> Prop) => (fun (v4 : Sl) (v5 : Option Addr) (v6 : ByteArray) (v7 : Sl) (v8 : Int) =>
 letJ (T := Sl -> Option Addr -> ByteArray -> Sl -> Int -> Bool -> H -> Prop) (fun v10 v11 v12 v13 v14 x15 => brW x15 (ptrW v10.base (fun b16 o17 => ifW (0 <= v14 /\ v14 < ((v10.len : Nat) : Int)) (rdT (rdC b16 (o17 + v14.toNat * 1)) kC (fun (x18 : Int) => ifW ((12 : Int) ≠ 0) (ptrW v11 (fun b19 o20 => ifW (0 <= Int.tmod x18 12 /\ Int.tmod x18 12 < ((12 : Nat) : Int)) (rdT (rdC b19 (o20 + (Int.tmod x18 12 : Int).toNat * 1)) kS (fun (x21 : ByteArray) =>
 ifW (v12.size + x21.size <= 9223372036854775807) (ifW ((v12 ++ x21).size + (⟨⟨[10]⟩⟩ : ByteArray).size <= 9223372036854775807) (alW (.cells ⟨[.string x21]⟩ 9 (0, 0)) (fun b22 => biW Tryz.prog .append #[26, 26] 26 [false, false] [.slice v13.base v13.len v13.cap, .slice (some ⟨b22, 0, none⟩) 1 1] kL (fun x23 => R3 v10 v11 ((v12 ++ x21) ++ ⟨⟨[10]⟩⟩) x23 (IntKind.i64.wrap (v14 + 1))))))))))))))
 (K (.tuple ⟨[.string v12, .slice v13.base v13.len v13.cap]⟩))) (fun j9 => brW (decide ((v8 : Int) < ((v4.len : Nat) : Int))) (j9 v4 v5 v6 v7 v8 (decide ((v8 : Int) < 80))) (j9 v4 v5 v6 v7 v8 false)))) (fun (R24 : Sl -> Option Addr -> ByteArray -> Sl -> Int -> H -> Prop) => R24 v1 (some ⟨b2, 0, none⟩) (⟨⟨[]⟩⟩ : ByteArray) ⟨none, 0, 0⟩ 0)))
theorem c8 (v1 : Sl) {K : KH} {σ : H} : g8 v1 K σ -> callW Tryz.prog 8 [.slice v1.base v1.len v1.cap] K σ := call_k an8 Tryz.func8 (by kernel_rfl)


def an9 : Ann := (.q (.q (.n (.reg (rn 15) [[],[],[1],[1,2],[],[4],[],[1,2,3,4,5,6],(rn 8),(rn 9),(rn 10),(rn 10),[],[0,1,2,3,4,5,6,7,8,9,10,12],(rn 14)]) (.n (.seq (some [(8,.p),(35,.b)]) .r (.h)) (.q .z)))))
def g9 (v1 : Option Addr) (v2 : ByteArray) (v3 : ByteArray) (K : KH) : H -> Prop :=
 callT Tryz.prog 12 [.string v3, .string ⟨⟨[124]⟩⟩] kL (fun x4 => ptrW x4.base (fun b5 o6 => ifW (0 <= (0 : Int) /\ (0 : Int) < ((x4.len : Nat) : Int)) (rdT (rdC b5 (o6 + (0 : Int).toNat * 1)) kS (fun (x7 : ByteArray) => ifW (bndOk none x4.cap /\ bndOk (some 1) x4.len)
 (callT Tryz.prog 16 [.pointer v1, .agg ⟨[.string x7, .slice (slBase x4.base ((1 : Int).toNat) x4.cap 1) (x4.len - ((1 : Int).toNat)) (x4.cap - ((1 : Int).toNat)), .string v2, .string ⟨⟨[47]⟩⟩]⟩] (.tup [.agg [.str, .str, (.int .i64)], .sc .bool]) (fun (x8 : ByteArray) (x9 : ByteArray) (x10 : Int) (x11 : Bool) => alW (.cells ⟨[.string ⟨⟨[]⟩⟩, .string ⟨⟨[]⟩⟩, .int .i64 0]⟩ 45 (0, 0)) (fun b12 =>
 stW Tryz.prog 45 (.pointer (some ⟨b12, 0, none⟩)) (.agg ⟨[.string x8, .string x9, .int .i64 x10]⟩) (letJ (T := Option Addr -> Bool -> H -> Prop) (fun v14 x15 => brW x15 (K (.string ⟨⟨[63]⟩⟩)) (ptrW v14 (fun b16 o17 => rdT (rdC b16 o17) kS (fun (x18 : ByteArray) => K (.string x18))))) (fun j13 => brW (!x11) (j13 (some ⟨b12, 0, none⟩) true) (rdT (rdC b12 2) kI (fun (x19 : Int) => brW ((x19 : Int) != 0) (j13 (some ⟨b12, 0, none⟩) true) (rdT (rdC b12 1) kS (fun (x20 : ByteArray) =>
 j13 (some ⟨b12, 0, none⟩) (!strEq x20 (⟨⟨[]⟩⟩ : ByteArray)))))))))))))))
theorem c9 (v1 : Option Addr) (v2 : ByteArray) (v3 : ByteArray) {K : KH} {σ : H} : g9 v1 v2 v3 K σ -> callW Tryz.prog 9 [.pointer v1, .string v2, .string v3] K σ := call_k an9 Tryz.func9 (by kernel_rfl)


def an10 : Ann := (.q (.n (.q (.h)) (.n (.q (.blk (.loop [(1,.sc .map),(13,.p)] (.q (.n (.cond .z .z) (.blk (.q (.q (.h))))))))) (.q .z))))
def g10 (v1 : Option Nat) (v2 : Option Nat) (K : KH) : H -> Prop :=
 rdT (rdLen v1) kI (fun (x3 : Int) => rdT (rdLen v2) kI (fun (x4 : Int) => brW ((x3 : Int) != x4) (K (.bool false)) (vaW Tryz.prog (Instr.range 32 (.map v1)) kP (fun x5 => loopW [.sc .map, .sc .ptr] (fun (R6 : Option Nat -> Option Addr -> H -> Prop) => (fun (v7 : Option Nat) (x8 : Option Addr) => vaW Tryz.prog (Instr.next (.pointer x8) false 0) (.opt [.sc .raw, .sc .raw]) (K (.bool true), (fun _x9 _x10 =>
 vaW Tryz.prog (Instr.entry (.pointer x8)) (.tup [.sc .str, .sc (.int .i64)]) (fun (x11 : ByteArray) (x12 : Int) => rdT (rdM .string (.int .i64 0) false v7 (.string x11)) kI (fun (x13 : Int) => brW ((x13 : Int) != x12) (K (.bool false)) (R6 v7 x8))))))) (fun (R14 : Option Nat -> Option Addr -> H -> Prop) => R14 v2 x5)))))
theorem c10 (v1 : Option Nat) (v2 : Option Nat) {K : KH} {σ : H} : g10 v1 v2 K σ -> callW Tryz.prog 10 [.map v1, .map v2] K σ := call_k an10 Tryz.func10 (by kernel_rfl)


def an11 : Ann := (.q (.q (.seq (some [(3,.sc .map)]) (.q (.cond (.q (.q (.blk (.loop [(3,.sc .map),(4,.l),(5,.i)] (.n (.q (.cond .z .z)) (.n (.blk .r) .r)))))) .z)) (.q .z))))
def g11 (v1 : ByteArray) (K : KH) : H -> Prop :=
 alW (.map #[] 0) (fun b2 => letJ (T := Option Nat -> H -> Prop) (fun v4 => K (.map v4)) (fun j3 => brW (!strEq v1 (⟨⟨[]⟩⟩ : ByteArray)) (callT Tryz.prog 17 [.string v1, .string ⟨⟨[10]⟩⟩] kS (fun (x5 : ByteArray) => callT Tryz.prog 12 [.string x5, .string ⟨⟨[10]⟩⟩] kL (fun x6 => loopW [.sc .map, .sc .slc, .sc (.int .i64)] (fun (R7 : Option Nat -> Sl -> Int -> H -> Prop) => (fun (v8 : Option Nat) (v9 : Sl) (v10 : Int) =>
 brW (decide ((v10 : Int) < ((v9.len : Nat) : Int))) (ptrW v9.base (fun b11 o12 => ifW (0 <= v10 /\ v10 < ((v9.len : Nat) : Int)) (rdT (rdC b11 (o12 + v10.toNat * 1)) kS (fun (x13 : ByteArray) => rdT (rdM .string (.int .i64 0) false v8 (.string x13)) kI (fun (x14 : Int) => muW Tryz.prog 32 (.map v8) (.string x13) (.int .i64 (IntKind.i64.wrap (x14 + 1))) (R7 v8 v9 (IntKind.i64.wrap (v10 + 1)))))))) (j3 v8))) (fun (R15 : Option Nat -> Sl -> Int -> H -> Prop) => R15 (some b2) x6 0))))
 (j3 (some b2))))
theorem c11 (v1 : ByteArray) {K : KH} {σ : H} : g11 v1 K σ -> callW Tryz.prog 11 [.string v1] K σ := call_k an11 Tryz.func11 (by kernel_rfl)


def an12 : Ann := (.q (.q .z))
def g12 (v1 : ByteArray) (v2 : ByteArray) (K : KH) : H -> Prop :=
 callT Tryz.prog 18 [.string v1, .string v2, .int .i64 0, .int .i64 (-1)] kL (fun x3 => K (.slice x3.base x3.len x3.cap))
theorem c12 (v1 : ByteArray) (v2 : ByteArray) {K : KH} {σ : H} : g12 v1 v2 K σ -> callW Tryz.prog 12 [.string v1, .string v2] K σ := call_k an12 Tryz.func12 (by kernel_rfl)


def an14 : Ann := (.q (.q (.n (.reg (rn 14) [[],[],[1],[1,2],[],[4],[1,2,3,4,5],(rn 7),(rn 8),(rn 9),(rn 9),[],[0,1,2,3,4,5,6,7,8,9,11],(rn 13)]) (.q .z))))
def g14 (v1 : Option Addr) (v2 : ByteArray) (v3 : ByteArray) (v4 : Int) (K : KH) : H -> Prop :=
 callT Tryz.prog 12 [.string v2, .string ⟨⟨[124]⟩⟩] kL (fun x5 => ptrW x5.base (fun b6 o7 => ifW (0 <= (0 : Int) /\ (0 : Int) < ((x5.len : Nat) : Int)) (rdT (rdC b6 (o7 + (0 : Int).toNat * 1)) kS (fun (x8 : ByteArray) => ifW (bndOk none x5.cap /\ bndOk (some 1) x5.len)
 (callT Tryz.prog 16 [.pointer v1, .agg ⟨[.string x8, .slice (slBase x5.base ((1 : Int).toNat) x5.cap 1) (x5.len - ((1 : Int).toNat)) (x5.cap - ((1 : Int).toNat)), .string ⟨⟨[]⟩⟩, .string ⟨⟨[47]⟩⟩]⟩] (.tup [.agg [.str, .str, (.int .i64)], .sc .bool]) (fun (x9 : ByteArray) (x10 : ByteArray) (x11 : Int) (x12 : Bool) => alW (.cells ⟨[.string ⟨⟨[]⟩⟩, .string ⟨⟨[]⟩⟩, .int .i64 0]⟩ 45 (0, 0)) (fun b13 =>
 stW Tryz.prog 45 (.pointer (some ⟨b13, 0, none⟩)) (.agg ⟨[.string x9, .string x10, .int .i64 x11]⟩) (brW x12 (rdT (rdC b13 2) kI (fun (x14 : Int) => brW ((x14 : Int) == v4) (rdT (rdC b13 1) kS (fun (x15 : ByteArray) => brW (strEq x15 v3) (rdT (rdC b13 0) kS (fun (x16 : ByteArray) => K (.bool (strEq x16 (⟨⟨[]⟩⟩ : ByteArray))))) (K (.bool false)))) (K (.bool false)))) (K (.bool false))))))))))
theorem c14 (v1 : Option Addr) (v2 : ByteArray) (v3 : ByteArray) (v4 : Int) {K : KH} {σ : H} : g14 v1 v2 v3 v4 K σ -> callW Tryz.prog 14 [.pointer v1, .string v2, .string v3, .int .i64 v4] K σ := call_k an14 Tryz.func14 (by kernel_rfl)


def an15 : Ann := (.q (.q (.n (.q (.h)) (.q .z))))
def g15 (v1 : Int) (v2 : Int) (K : KH) : H -> Prop :=
 alW (.cells ⟨[.int .i64 v1, .int .i64 v2]⟩ 42 (0, 0)) (fun b3 => rdT (rdA 2 b3 0) (.one (.agg [(.int .i64), (.int .i64)])) (fun (x4 : Int) (x5 : Int) => callT Tryz.prog 19 [.agg ⟨[.int .i64 x4, .int .i64 x5]⟩] kP (fun x6 => brW x6.isNone (K (.pointer none)) (alW (.cells ⟨[.pointer x6]⟩ 55 (0, 0)) (fun b7 => K (.pointer (some ⟨b7, 0, none⟩)))))))
theorem c15 (v1 : Int) (v2 : Int) {K : KH} {σ : H} : g15 v1 v2 K σ -> callW Tryz.prog 15 [.agg ⟨[.int .i64 v1, .int .i64 v2]⟩] K σ := call_k an15 Tryz.func15 (by kernel_rfl)


def an16 : Ann := (.q (.q (.q (.n (.q (.h)) (.q .z)))))
def g16 (v1 : Option Addr) (v2 : ByteArray) (v3 : Sl) (v4 : ByteArray) (v5 : ByteArray) (K : KH) : H -> Prop :=
 alW (.cells ⟨[.string v2, .slice v3.base v3.len v3.cap, .string v4, .string v5]⟩ 49 (0, 0)) (fun b6 => alW (.cells ⟨[.string ⟨⟨[]⟩⟩, .string ⟨⟨[]⟩⟩, .int .i64 0]⟩ 45 (0, 0)) (fun b7 => rdT (rdA 4 b6 0) (.one (.agg [.str, .slc, .str, .str])) (fun (x8 : ByteArray) (x9 : Sl) (x10 : ByteArray) (x11 : ByteArray) =>
 alW (.cells ⟨[.string ⟨⟨[]⟩⟩, .slice none 0 0, .string ⟨⟨[]⟩⟩, .string ⟨⟨[]⟩⟩, .pointer none]⟩ 57 (0, 0)) (fun b12 => stW Tryz.prog 57 (.pointer (some ⟨b12, 0, none⟩)) (.agg ⟨[.string x8, .slice x9.base x9.len x9.cap, .string x10, .string x11, .pointer v1]⟩) (alW (.map #[] 0) (fun b13 => rdT (rdA 5 b12 0) (.one (.agg [.str, .slc, .str, .str, .ptr])) (fun (x14 : ByteArray) (x15 : Sl) (x16 : ByteArray) (x17 : ByteArray) (x18 : Option Addr) =>
 muW Tryz.prog 60 (.map (some b13)) (.string ⟨⟨[99, 97, 116]⟩⟩) (.func (.func 20) ⟨[.agg ⟨[.string x14, .slice x15.base x15.len x15.cap, .string x16, .string x17, .pointer x18]⟩]⟩ ⟨[]⟩) (rdT (rdA 5 b12 0) (.one (.agg [.str, .slc, .str, .str, .ptr])) (fun (x19 : ByteArray) (x20 : Sl) (x21 : ByteArray) (x22 : ByteArray) (x23 : Option Addr) =>
 muW Tryz.prog 60 (.map (some b13)) (.string ⟨⟨[104, 101, 97, 100]⟩⟩) (.func (.func 21) ⟨[.agg ⟨[.string x19, .slice x20.base x20.len x20.cap, .string x21, .string x22, .pointer x23]⟩]⟩ ⟨[]⟩) (rdT (rdA 5 b12 0) (.one (.agg [.str, .slc, .str, .str, .ptr])) (fun (x24 : ByteArray) (x25 : Sl) (x26 : ByteArray) (x27 : ByteArray) (x28 : Option Addr) =>
 muW Tryz.prog 60 (.map (some b13)) (.string ⟨⟨[116, 97, 105, 108]⟩⟩) (.func (.func 22) ⟨[.agg ⟨[.string x24, .slice x25.base x25.len x25.cap, .string x26, .string x27, .pointer x28]⟩]⟩ ⟨[]⟩) (rdT (rdA 5 b12 0) (.one (.agg [.str, .slc, .str, .str, .ptr])) (fun (x29 : ByteArray) (x30 : Sl) (x31 : ByteArray) (x32 : ByteArray) (x33 : Option Addr) =>
 muW Tryz.prog 60 (.map (some b13)) (.string ⟨⟨[119, 99]⟩⟩) (.func (.func 23) ⟨[.agg ⟨[.string x29, .slice x30.base x30.len x30.cap, .string x31, .string x32, .pointer x33]⟩]⟩ ⟨[]⟩) (rdT (rdA 5 b12 0) (.one (.agg [.str, .slc, .str, .str, .ptr])) (fun (x34 : ByteArray) (x35 : Sl) (x36 : ByteArray) (x37 : ByteArray) (x38 : Option Addr) =>
 muW Tryz.prog 60 (.map (some b13)) (.string ⟨⟨[116, 114]⟩⟩) (.func (.func 24) ⟨[.agg ⟨[.string x34, .slice x35.base x35.len x35.cap, .string x36, .string x37, .pointer x38]⟩]⟩ ⟨[]⟩) (rdT (rdA 5 b12 0) (.one (.agg [.str, .slc, .str, .str, .ptr])) (fun (x39 : ByteArray) (x40 : Sl) (x41 : ByteArray) (x42 : ByteArray) (x43 : Option Addr) =>
 muW Tryz.prog 60 (.map (some b13)) (.string ⟨⟨[99, 117, 116]⟩⟩) (.func (.func 25) ⟨[.agg ⟨[.string x39, .slice x40.base x40.len x40.cap, .string x41, .string x42, .pointer x43]⟩]⟩ ⟨[]⟩) (rdT (rdA 5 b12 0) (.one (.agg [.str, .slc, .str, .str, .ptr])) (fun (x44 : ByteArray) (x45 : Sl) (x46 : ByteArray) (x47 : ByteArray) (x48 : Option Addr) =>
 muW Tryz.prog 60 (.map (some b13)) (.string ⟨⟨[115, 111, 114, 116]⟩⟩) (.func (.func 26) ⟨[.agg ⟨[.string x44, .slice x45.base x45.len x45.cap, .string x46, .string x47, .pointer x48]⟩]⟩ ⟨[]⟩) (rdT (rdA 5 b12 0) (.one (.agg [.str, .slc, .str, .str, .ptr])) (fun (x49 : ByteArray) (x50 : Sl) (x51 : ByteArray) (x52 : ByteArray) (x53 : Option Addr) =>
 muW Tryz.prog 60 (.map (some b13)) (.string ⟨⟨[117, 110, 105, 113]⟩⟩) (.func (.func 27) ⟨[.agg ⟨[.string x49, .slice x50.base x50.len x50.cap, .string x51, .string x52, .pointer x53]⟩]⟩ ⟨[]⟩) (rdT (rdC b6 0) kS (fun (x54 : ByteArray) => rdT (rdM .string (.nilFunc) true (some b13) (.string x54)) (.tup [.sc .raw, .sc .bool]) (fun x55 x56 => brW (!x56)
 (stW Tryz.prog 45 (.pointer (some ⟨b7, 0, none⟩)) (.agg ⟨[.string ⟨⟨[]⟩⟩, .string ⟨⟨[]⟩⟩, .int .i64 0]⟩) (rdT (rdA 3 b7 0) (.one (.agg [.str, .str, (.int .i64)])) (fun (r57 : ByteArray) (r58 : ByteArray) (r59 : Int) => K (.tuple ⟨[.agg ⟨[.string r57, .string r58, .int .i64 r59]⟩, .bool false]⟩)))) (cvalT Tryz.prog x55 [] (.one (.agg [.str, .str, (.int .i64)])) (fun (x60 : ByteArray) (x61 : ByteArray) (x62 : Int) =>
 stW Tryz.prog 45 (.pointer (some ⟨b7, 0, none⟩)) (.agg ⟨[.string x60, .string x61, .int .i64 x62]⟩) (rdT (rdA 3 b7 0) (.one (.agg [.str, .str, (.int .i64)])) (fun (r63 : ByteArray) (r64 : ByteArray) (r65 : Int) => K (.tuple ⟨[.agg ⟨[.string r63, .string r64, .int .i64 r65]⟩, .bool true]⟩)))))))))))))))))))))))))))))
theorem c16 (v1 : Option Addr) (v2 : ByteArray) (v3 : Sl) (v4 : ByteArray) (v5 : ByteArray) {K : KH} {σ : H} : g16 v1 v2 v3 v4 v5 K σ -> callW Tryz.prog 16 [.pointer v1, .agg ⟨[.string v2, .slice v3.base v3.len v3.cap, .string v4, .string v5]⟩] K σ := call_k an16 Tryz.func16 (by kernel_rfl)


def an17 : Ann := (.q (.q .z))
def g17 (v1 : ByteArray) (v2 : ByteArray) (K : KH) : H -> Prop :=
 callT Tryz.prog 28 [.string v1, .string v2] kS (fun (x3 : ByteArray) => K (.string x3))
theorem c17 (v1 : ByteArray) (v2 : ByteArray) {K : KH} {σ : H} : g17 v1 v2 K σ -> callW Tryz.prog 17 [.string v1, .string v2] K σ := call_k an17 Tryz.func17 (by kernel_rfl)


def an18 : Ann := (.q (.n (.q (.h)) (.n (.q (.h)) (.seq (some [(0,.s),(1,.s),(2,.i),(3,.i)]) (.q (.cond .r .z)) (.q (.q (.q (.q (.seq (some [(0,.s),(9,.l),(10,.i)]) (.blk (.loop [(0,.s),(1,.s),(2,.i),(3,.i),(9,.l),(10,.i)] (.n (.q (.cond .z .z)) (.blk (.q (.n (.q (.cond .z .z)) (.q (.q .r)))))))) (.q (.q .z)))))))))))
def g18 (v1 : ByteArray) (v2 : ByteArray) (v3 : Int) (v4 : Int) (K : KH) : H -> Prop :=
 brW ((v4 : Int) == 0) (K (.slice none 0 0)) (brW (strEq v2 (⟨⟨[]⟩⟩ : ByteArray)) (callT Tryz.prog 29 [.string v1, .int .i64 v4] kL (fun x5 => K (.slice x5.base x5.len x5.cap))) (letJ (T := ByteArray -> ByteArray -> Int -> Int -> H -> Prop) (fun v7 v8 v9 v10 =>
 vaW Tryz.prog (Instr.makeSlice 26 (.int .i64 (if (IntKind.i64.wrap (((v7.size : Nat) : Int) + 1)) < v10 then (IntKind.i64.wrap (((v7.size : Nat) : Int) + 1)) else v10)) (.int .i64 (if (IntKind.i64.wrap (((v7.size : Nat) : Int) + 1)) < v10 then (IntKind.i64.wrap (((v7.size : Nat) : Int) + 1)) else v10))) kL (fun x11 => letJ (T := ByteArray -> Sl -> Int -> H -> Prop) (fun v13 v14 v15 => ptrW v14.base (fun b16 o17 => ifW (0 <= v15 /\ v15 < ((v14.len : Nat) : Int))
 (stW Tryz.prog 9 (.pointer (some ⟨b16, o17 + v15.toNat * 1, none⟩)) (.string v13) (ifW (bndOk (some (IntKind.i64.wrap (v15 + 1))) v14.cap /\ bndOk none ((IntKind.i64.wrap (v15 + 1)).toNat)) (K (.slice (slBase v14.base 0 v14.cap 1) (((IntKind.i64.wrap (v15 + 1)).toNat) - 0) (v14.cap - 0))))))) (fun j12 =>
 loopW [.sc .str, .sc .str, .sc (.int .i64), .sc (.int .i64), .sc .slc, .sc (.int .i64)] (fun (R18 : ByteArray -> ByteArray -> Int -> Int -> Sl -> Int -> H -> Prop) => (fun (v19 : ByteArray) (v20 : ByteArray) (v21 : Int) (v22 : Int) (v23 : Sl) (v24 : Int) => brW (decide ((v24 : Int) < v22)) (callT Tryz.prog 31 [.string v19, .string v20] kI (fun (x25 : Int) => brW (decide ((x25 : Int) < 0)) (j12 v19 v23 v24)
 (ifW (bndOk (some (IntKind.i64.wrap (x25 + v21))) v19.size /\ bndOk none ((IntKind.i64.wrap (x25 + v21)).toNat)) (ptrW v23.base (fun b26 o27 => ifW (0 <= v24 /\ v24 < ((v23.len : Nat) : Int)) (stW Tryz.prog 9 (.pointer (some ⟨b26, o27 + v24.toNat * 1, none⟩)) (.string (v19.extract 0 ((IntKind.i64.wrap (x25 + v21)).toNat))) (ifW (bndOk none v19.size /\ bndOk (some (IntKind.i64.wrap (x25 + ((v20.size : Nat) : Int)))) (v19.size))
 (R18 (v19.extract ((IntKind.i64.wrap (x25 + ((v20.size : Nat) : Int))).toNat) v19.size) v20 v21 v22 v23 (IntKind.i64.wrap (v24 + 1)))))))))) (j12 v19 v23 v24))) (fun (R28 : ByteArray -> ByteArray -> Int -> Int -> Sl -> Int -> H -> Prop) => R28 v7 v8 v9 (IntKind.i64.wrap ((if (IntKind.i64.wrap (((v7.size : Nat) : Int) + 1)) < v10 then (IntKind.i64.wrap (((v7.size : Nat) : Int) + 1)) else v10) - 1)) x11 0)))) (fun j6 => brW (decide ((v4 : Int) < 0))
 (callT Tryz.prog 30 [.string v1, .string v2] kI (fun (x29 : Int) => j6 v1 v2 v3 (IntKind.i64.wrap (x29 + 1)))) (j6 v1 v2 v3 v4))))
theorem c18 (v1 : ByteArray) (v2 : ByteArray) (v3 : Int) (v4 : Int) {K : KH} {σ : H} : g18 v1 v2 v3 v4 K σ -> callW Tryz.prog 18 [.string v1, .string v2, .int .i64 v3, .int .i64 v4] K σ := call_k an18 Tryz.func18 (by kernel_rfl)


def an19 : Ann := (.q (.n (.seq (some [(1,.p),(21,.b)]) .r (.h)) (.q (.q .z))))
def g19 (v1 : Int) (v2 : Int) (K : KH) : H -> Prop :=
 alW (.cells ⟨[.int .i64 v1, .int .i64 v2]⟩ 42 (0, 0)) (fun b3 => letJ (T := Option Addr -> Bool -> H -> Prop) (fun v5 x6 => brW x6 (K (.pointer none)) (alW (.map #[] 0) (fun b7 => alW (.cells ⟨[.int .i64 2, .int .i64 493, .string ⟨⟨[]⟩⟩, .int .i64 1, .int .i64 1, .map (some b7)]⟩ 67 (0, 0)) (fun b8 => ptrW v5 (fun b9 o10 => rdT (rdA 2 b9 o10) (.one (.agg [(.int .i64), (.int .i64)])) (fun (x11 : Int) (x12 : Int) => alW (.map #[] 0) (fun b13 =>
 muW Tryz.prog 68 (.map (some b13)) (.int .i64 1) (.pointer (some ⟨b8, 0, none⟩)) (alW (.cells ⟨[.int .i64 x11, .int .i64 x12, .int .i64 1, .int .i64 0, .map (some b13), .int .i64 1]⟩ 70 (0, 0)) (fun b14 => K (.pointer (some ⟨b14, 0, none⟩))))))))))) (fun j4 => rdT (rdC b3 0) kI (fun (x15 : Int) => brW (decide ((x15 : Int) < 1)) (j4 (some ⟨b3, 0, none⟩) true) (rdT (rdC b3 0) kI (fun (x16 : Int) => brW (decide ((x16 : Int) > 1048576)) (j4 (some ⟨b3, 0, none⟩) true)
 (rdT (rdC b3 1) kI (fun (x17 : Int) => brW (decide ((x17 : Int) < 0)) (j4 (some ⟨b3, 0, none⟩) true) (rdT (rdC b3 1) kI (fun (x18 : Int) => j4 (some ⟨b3, 0, none⟩) (decide ((x18 : Int) > 1073741824)))))))))))
theorem c19 (v1 : Int) (v2 : Int) {K : KH} {σ : H} : g19 v1 v2 K σ -> callW Tryz.prog 19 [.agg ⟨[.int .i64 v1, .int .i64 v2]⟩] K σ := call_k an19 Tryz.func19 (by kernel_rfl)


def an20 : Ann := (.q (.q (.n (.q (.h)) (.q (.q (.q .z))))))
def g20 (v1 : ByteArray) (v2 : Sl) (v3 : ByteArray) (v4 : ByteArray) (v5 : Option Addr) (K : KH) : H -> Prop :=
 alW (.cells ⟨[.string v1, .slice v2.base v2.len v2.cap, .string v3, .string v4, .pointer v5]⟩ 57 (0, 0)) (fun b6 => alW (.cells ⟨[.string ⟨⟨[]⟩⟩, .string ⟨⟨[]⟩⟩, .int .i64 0]⟩ 45 (0, 0)) (fun b7 => rdT (rdA 5 b6 0) (.one (.agg [.str, .slc, .str, .str, .ptr])) (fun (x8 : ByteArray) (x9 : Sl) (x10 : ByteArray) (x11 : ByteArray) (x12 : Option Addr) =>
 callT Tryz.prog 32 [.agg ⟨[.string x8, .slice x9.base x9.len x9.cap, .string x10, .string x11, .pointer x12]⟩, .string ⟨⟨[]⟩⟩] (.tup [.sc .str, .sc .slc, .sc .bool]) (fun (_x13 : ByteArray) (x14 : Sl) (x15 : Bool) => brW (!x15) (rdT (rdA 5 b6 0) (.one (.agg [.str, .slc, .str, .str, .ptr])) (fun (x16 : ByteArray) (x17 : Sl) (x18 : ByteArray) (x19 : ByteArray) (x20 : Option Addr) =>
 callT Tryz.prog 33 [.agg ⟨[.string x16, .slice x17.base x17.len x17.cap, .string x18, .string x19, .pointer x20]⟩] (.one (.agg [.str, .str, (.int .i64)])) (fun (x21 : ByteArray) (x22 : ByteArray) (x23 : Int) => stW Tryz.prog 45 (.pointer (some ⟨b7, 0, none⟩)) (.agg ⟨[.string x21, .string x22, .int .i64 x23]⟩) (rdT (rdA 3 b7 0) (.one (.agg [.str, .str, (.int .i64)])) (fun (r24 : ByteArray) (r25 : ByteArray) (r26 : Int) => K (.agg ⟨[.string r24, .string r25, .int .i64 r26]⟩))))))
 (rdT (rdA 5 b6 0) (.one (.agg [.str, .slc, .str, .str, .ptr])) (fun (x27 : ByteArray) (x28 : Sl) (x29 : ByteArray) (x30 : ByteArray) (x31 : Option Addr) => callT Tryz.prog 34 [.agg ⟨[.string x27, .slice x28.base x28.len x28.cap, .string x29, .string x30, .pointer x31]⟩, .slice x14.base x14.len x14.cap] (.tup [.sc .str, .agg [.str, .str, (.int .i64)]]) (fun (x32 : ByteArray) (x33 : ByteArray) (x34 : ByteArray) (x35 : Int) =>
 alW (.cells ⟨[.string ⟨⟨[]⟩⟩, .string ⟨⟨[]⟩⟩, .int .i64 0]⟩ 45 (0, 0)) (fun b36 => stW Tryz.prog 45 (.pointer (some ⟨b36, 0, none⟩)) (.agg ⟨[.string x33, .string x34, .int .i64 x35]⟩) (stW Tryz.prog 9 (.pointer (some ⟨b36, 0, none⟩)) (.string x32) (rdT (rdA 3 b36 0) (.one (.agg [.str, .str, (.int .i64)])) (fun (x37 : ByteArray) (x38 : ByteArray) (x39 : Int) =>
 stW Tryz.prog 45 (.pointer (some ⟨b7, 0, none⟩)) (.agg ⟨[.string x37, .string x38, .int .i64 x39]⟩) (rdT (rdA 3 b7 0) (.one (.agg [.str, .str, (.int .i64)])) (fun (r40 : ByteArray) (r41 : ByteArray) (r42 : Int) => K (.agg ⟨[.string r40, .string r41, .int .i64 r42]⟩))))))))))))))
theorem c20 (v1 : ByteArray) (v2 : Sl) (v3 : ByteArray) (v4 : ByteArray) (v5 : Option Addr) {K : KH} {σ : H} : g20 v1 v2 v3 v4 v5 K σ -> callW Tryz.prog 20 [.agg ⟨[.string v1, .slice v2.base v2.len v2.cap, .string v3, .string v4, .pointer v5]⟩] K σ := call_k an20 Tryz.func20 (by kernel_rfl)


def an21 : Ann := (.q (.q .z))
def g21 (v1 : ByteArray) (v2 : Sl) (v3 : ByteArray) (v4 : ByteArray) (v5 : Option Addr) (K : KH) : H -> Prop :=
 alW (.cells ⟨[.string v1, .slice v2.base v2.len v2.cap, .string v3, .string v4, .pointer v5]⟩ 57 (0, 0)) (fun b6 => alW (.cells ⟨[.string ⟨⟨[]⟩⟩, .string ⟨⟨[]⟩⟩, .int .i64 0]⟩ 45 (0, 0)) (fun b7 => rdT (rdA 5 b6 0) (.one (.agg [.str, .slc, .str, .str, .ptr])) (fun (x8 : ByteArray) (x9 : Sl) (x10 : ByteArray) (x11 : ByteArray) (x12 : Option Addr) =>
 callT Tryz.prog 35 [.agg ⟨[.string x8, .slice x9.base x9.len x9.cap, .string x10, .string x11, .pointer x12]⟩, .func (.func 36) ⟨[]⟩ ⟨[]⟩] (.one (.agg [.str, .str, (.int .i64)])) (fun (x13 : ByteArray) (x14 : ByteArray) (x15 : Int) => stW Tryz.prog 45 (.pointer (some ⟨b7, 0, none⟩)) (.agg ⟨[.string x13, .string x14, .int .i64 x15]⟩) (rdT (rdA 3 b7 0) (.one (.agg [.str, .str, (.int .i64)])) (fun (r16 : ByteArray) (r17 : ByteArray) (r18 : Int) =>
 K (.agg ⟨[.string r16, .string r17, .int .i64 r18]⟩)))))))
theorem c21 (v1 : ByteArray) (v2 : Sl) (v3 : ByteArray) (v4 : ByteArray) (v5 : Option Addr) {K : KH} {σ : H} : g21 v1 v2 v3 v4 v5 K σ -> callW Tryz.prog 21 [.agg ⟨[.string v1, .slice v2.base v2.len v2.cap, .string v3, .string v4, .pointer v5]⟩] K σ := call_k an21 Tryz.func21 (by kernel_rfl)


def an22 : Ann := (.q (.q .z))
def g22 (v1 : ByteArray) (v2 : Sl) (v3 : ByteArray) (v4 : ByteArray) (v5 : Option Addr) (K : KH) : H -> Prop :=
 alW (.cells ⟨[.string v1, .slice v2.base v2.len v2.cap, .string v3, .string v4, .pointer v5]⟩ 57 (0, 0)) (fun b6 => alW (.cells ⟨[.string ⟨⟨[]⟩⟩, .string ⟨⟨[]⟩⟩, .int .i64 0]⟩ 45 (0, 0)) (fun b7 => rdT (rdA 5 b6 0) (.one (.agg [.str, .slc, .str, .str, .ptr])) (fun (x8 : ByteArray) (x9 : Sl) (x10 : ByteArray) (x11 : ByteArray) (x12 : Option Addr) =>
 callT Tryz.prog 35 [.agg ⟨[.string x8, .slice x9.base x9.len x9.cap, .string x10, .string x11, .pointer x12]⟩, .func (.func 37) ⟨[]⟩ ⟨[]⟩] (.one (.agg [.str, .str, (.int .i64)])) (fun (x13 : ByteArray) (x14 : ByteArray) (x15 : Int) => stW Tryz.prog 45 (.pointer (some ⟨b7, 0, none⟩)) (.agg ⟨[.string x13, .string x14, .int .i64 x15]⟩) (rdT (rdA 3 b7 0) (.one (.agg [.str, .str, (.int .i64)])) (fun (r16 : ByteArray) (r17 : ByteArray) (r18 : Int) =>
 K (.agg ⟨[.string r16, .string r17, .int .i64 r18]⟩)))))))
theorem c22 (v1 : ByteArray) (v2 : Sl) (v3 : ByteArray) (v4 : ByteArray) (v5 : Option Addr) {K : KH} {σ : H} : g22 v1 v2 v3 v4 v5 K σ -> callW Tryz.prog 22 [.agg ⟨[.string v1, .slice v2.base v2.len v2.cap, .string v3, .string v4, .pointer v5]⟩] K σ := call_k an22 Tryz.func22 (by kernel_rfl)


def an23 : Ann := (.q (.q (.n (.q (.h)) (.q (.q (.q (.n (.q (.blk (.loop [(2,.p),(3,.s),(7,.p),(9,.l),(36,.l),(37,.i),(38,.i)] (.q (.n (.cond .z .z) (.seq (some [(2,.p),(3,.s),(7,.p),(9,.l),(36,.l),(37,.i),(38,.i)]) (.blk (.q (.seq (some [(2,.p),(3,.s),(7,.p),(9,.l),(11,.i),(36,.l),(37,.i),(38,.i),(51,.b)]) .r (.cond .r .z)))) .r)))))) (.q (.q .z)))))))))
def g23 (v1 : ByteArray) (v2 : Sl) (v3 : ByteArray) (v4 : ByteArray) (v5 : Option Addr) (K : KH) : H -> Prop :=
 alW (.cells ⟨[.string v1, .slice v2.base v2.len v2.cap, .string v3, .string v4, .pointer v5]⟩ 57 (0, 0)) (fun b6 => alW (.cells ⟨[.string ⟨⟨[]⟩⟩, .string ⟨⟨[]⟩⟩, .int .i64 0]⟩ 45 (0, 0)) (fun b7 => rdT (rdA 5 b6 0) (.one (.agg [.str, .slc, .str, .str, .ptr])) (fun (x8 : ByteArray) (x9 : Sl) (x10 : ByteArray) (x11 : ByteArray) (x12 : Option Addr) =>
 callT Tryz.prog 32 [.agg ⟨[.string x8, .slice x9.base x9.len x9.cap, .string x10, .string x11, .pointer x12]⟩, .string ⟨⟨[108, 119, 99]⟩⟩] (.tup [.sc .str, .sc .slc, .sc .bool]) (fun (x13 : ByteArray) (x14 : Sl) (x15 : Bool) => brW (!x15) (rdT (rdA 5 b6 0) (.one (.agg [.str, .slc, .str, .str, .ptr])) (fun (x16 : ByteArray) (x17 : Sl) (x18 : ByteArray) (x19 : ByteArray) (x20 : Option Addr) =>
 callT Tryz.prog 33 [.agg ⟨[.string x16, .slice x17.base x17.len x17.cap, .string x18, .string x19, .pointer x20]⟩] (.one (.agg [.str, .str, (.int .i64)])) (fun (x21 : ByteArray) (x22 : ByteArray) (x23 : Int) => stW Tryz.prog 45 (.pointer (some ⟨b7, 0, none⟩)) (.agg ⟨[.string x21, .string x22, .int .i64 x23]⟩) (rdT (rdA 3 b7 0) (.one (.agg [.str, .str, (.int .i64)])) (fun (r24 : ByteArray) (r25 : ByteArray) (r26 : Int) => K (.agg ⟨[.string r24, .string r25, .int .i64 r26]⟩))))))
 (rdT (rdA 5 b6 0) (.one (.agg [.str, .slc, .str, .str, .ptr])) (fun (x27 : ByteArray) (x28 : Sl) (x29 : ByteArray) (x30 : ByteArray) (x31 : Option Addr) => callT Tryz.prog 34 [.agg ⟨[.string x27, .slice x28.base x28.len x28.cap, .string x29, .string x30, .pointer x31]⟩, .slice x14.base x14.len x14.cap] (.tup [.sc .str, .agg [.str, .str, (.int .i64)]]) (fun (x32 : ByteArray) (x33 : ByteArray) (x34 : ByteArray) (x35 : Int) =>
 alW (.cells ⟨[.string ⟨⟨[]⟩⟩, .string ⟨⟨[]⟩⟩, .int .i64 0]⟩ 45 (0, 0)) (fun b36 => stW Tryz.prog 45 (.pointer (some ⟨b36, 0, none⟩)) (.agg ⟨[.string x33, .string x34, .int .i64 x35]⟩) (callT Tryz.prog 30 [.string x32, .string ⟨⟨[10]⟩⟩] kI (fun (x37 : Int) => callT Tryz.prog 39 [.string x32, .func (.func 38) ⟨[]⟩ ⟨[]⟩] kL (fun x38 =>
 alW (.cells ⟨[.int .i64 x37, .int .i64 ((x38.len : Nat) : Int), .int .i64 ((x32.size : Nat) : Int)]⟩ 3 (0, 0)) (fun b39 => loopW [.sc .ptr, .sc .str, .sc .ptr, .sc .slc, .sc .slc, .sc (.int .i64), .sc (.int .i64)] (fun (R40 : Option Addr -> ByteArray -> Option Addr -> Sl -> Sl -> Int -> Int -> H -> Prop) => (fun (x41 : Option Addr) (v42 : ByteArray) (v43 : Option Addr) (v44 : Sl) (x45 : Sl) (x46 : Int) (x47 : Int) => brW (decide ((x47 : Int) < x46))
 (letJ (T := Option Addr -> ByteArray -> Option Addr -> Sl -> Sl -> Int -> Int -> H -> Prop) (fun x49 v50 v51 v52 x53 x54 x55 => R40 x49 v50 v51 v52 x53 x54 (IntKind.i64.wrap (x55 + 1))) (fun j48 => ptrW x45.base (fun b56 o57 => ifW (0 <= x47 /\ x47 < ((x45.len : Nat) : Int)) (rdT (rdC b56 (o57 + x47.toNat * 1)) kI (fun (x58 : Int) => letJ (T := Option Addr -> ByteArray -> Option Addr -> Sl -> Int -> Sl -> Int -> Int -> Bool -> H -> Prop) (fun x60 v61 v62 v63 v64 x65 x66 x67 x68 => brW x68
 (callT Tryz.prog 41 [.int .i64 v64] kS (fun (x69 : ByteArray) => alW (.cells ⟨[.string x69]⟩ 9 (0, 0)) (fun b70 => biW Tryz.prog .append #[26, 26] 26 [false, false] [.slice v63.base v63.len v63.cap, .slice (some ⟨b70, 0, none⟩) 1 1] kL (fun x71 => j48 x60 v61 v62 x71 x65 x66 x67)))) (j48 x60 v61 v62 v63 x65 x66 x67)) (fun j59 => brW (strEq v42 (⟨⟨[]⟩⟩ : ByteArray)) (j59 x41 v42 v43 v44 x58 x45 x46 x47 true) (idxW (⟨⟨[108, 119, 99]⟩⟩ : ByteArray) x47 (fun ch72 =>
 callT Tryz.prog 40 [.string v42, .int .u8 (ch72.toNat : Int)] kI (fun (x73 : Int) => j59 x41 v42 v43 v44 x58 x45 x46 x47 (decide ((x73 : Int) >= 0))))))))))) (callT Tryz.prog 42 [.slice v44.base v44.len v44.cap, .string ⟨⟨[32]⟩⟩] kS (fun (x74 : ByteArray) => ifW (x74.size + (⟨⟨[10]⟩⟩ : ByteArray).size <= 9223372036854775807) (ptrW v43 (fun b75 o76 =>
 stW Tryz.prog 9 (.pointer (some ⟨b75, o76, none⟩)) (.string (x74 ++ ⟨⟨[10]⟩⟩)) (ptrW v43 (fun b77 o78 => rdT (rdA 3 b77 o78) (.one (.agg [.str, .str, (.int .i64)])) (fun (x79 : ByteArray) (x80 : ByteArray) (x81 : Int) => stW Tryz.prog 45 (.pointer x41) (.agg ⟨[.string x79, .string x80, .int .i64 x81]⟩) (ptrW x41 (fun b82 o83 => rdT (rdA 3 b82 o83) (.one (.agg [.str, .str, (.int .i64)])) (fun (r84 : ByteArray) (r85 : ByteArray) (r86 : Int) =>
 K (.agg ⟨[.string r84, .string r85, .int .i64 r86]⟩))))))))))))) (fun (R87 : Option Addr -> ByteArray -> Option Addr -> Sl -> Sl -> Int -> Int -> H -> Prop) => R87 (some ⟨b7, 0, none⟩) x13 (some ⟨b36, 0, none⟩) ⟨none, 0, 0⟩ ⟨(some ⟨b39, 0, none⟩), 3, 3⟩ ((3 : Nat) : Int) 0)))))))))))))
theorem c23 (v1 : ByteArray) (v2 : Sl) (v3 : ByteArray) (v4 : ByteArray) (v5 : Option Addr) {K : KH} {σ : H} : g23 v1 v2 v3 v4 v5 K σ -> callW Tryz.prog 23 [.agg ⟨[.string v1, .slice v2.base v2.len v2.cap, .string v3, .string v4, .pointer v5]⟩] K σ := call_k an23 Tryz.func23 (by kernel_rfl)


def an24 : Ann := (.q (.q (.q (.n (.seq (some [(1,.p),(2,.p),(4,.l),(6,.b),(41,.b)]) .r (.h)) (.q (.q (.n (.seq (some [(1,.p),(2,.p),(6,.b),(7,.l),(8,.l),(66,.b)]) .r (.h)) (.q (.n (.q (.blk (.loop [(2,.p),(6,.b),(7,.l),(8,.l),(10,.l),(72,.l),(73,.i),(74,.i)] (.q (.n (.cond .z .z) (.seq (some [(2,.p),(6,.b),(7,.l),(8,.l),(10,.l),(72,.l),(73,.i),(74,.i)]) (.blk (.q (.q (.n (.q (.blk (.loop [(2,.p),(6,.b),(7,.l),(8,.l),(10,.l),(12,.sc (.int .u8)),(13,.i),(14,.i),(72,.l),(73,.i),(74,.i)] (.n (.seq (some [(2,.p),(6,.b),(7,.l),(8,.l),(10,.l),(12,.sc (.int .u8)),(13,.i),(14,.i),(72,.l),(73,.i),(74,.i),(90,.b)]) .r (.cond .z .z)) (.seq (some [(2,.p),(6,.b),(7,.l),(8,.l),(10,.l),(12,.sc (.int .u8)),(13,.i),(14,.i),(72,.l),(73,.i),(74,.i)]) (.blk (.q (.cond .r .z))) .r))))) (.blk (.q (.cond .r (.q (.cond .r .z))))))))) .r)))))) (.q .z))))))))))
def g24 (v1 : ByteArray) (v2 : Sl) (v3 : ByteArray) (v4 : ByteArray) (v5 : Option Addr) (K : KH) : H -> Prop :=
 alW (.cells ⟨[.string v1, .slice v2.base v2.len v2.cap, .string v3, .string v4, .pointer v5]⟩ 57 (0, 0)) (fun b6 => alW (.cells ⟨[.string ⟨⟨[]⟩⟩, .string ⟨⟨[]⟩⟩, .int .i64 0]⟩ 45 (0, 0)) (fun b7 => rdT (rdA 5 b6 0) (.one (.agg [.str, .slc, .str, .str, .ptr])) (fun (x8 : ByteArray) (x9 : Sl) (x10 : ByteArray) (x11 : ByteArray) (x12 : Option Addr) =>
 callT Tryz.prog 32 [.agg ⟨[.string x8, .slice x9.base x9.len x9.cap, .string x10, .string x11, .pointer x12]⟩, .string ⟨⟨[100]⟩⟩] (.tup [.sc .str, .sc .slc, .sc .bool]) (fun (x13 : ByteArray) (x14 : Sl) (x15 : Bool) => letJ (T := Option Addr -> Option Addr -> Sl -> Bool -> Bool -> H -> Prop) (fun v17 x18 v19 v20 x21 => brW x21 (ptrW v17 (fun b22 o23 =>
 rdT (rdA 5 b22 o23) (.one (.agg [.str, .slc, .str, .str, .ptr])) (fun (x24 : ByteArray) (x25 : Sl) (x26 : ByteArray) (x27 : ByteArray) (x28 : Option Addr) => callT Tryz.prog 33 [.agg ⟨[.string x24, .slice x25.base x25.len x25.cap, .string x26, .string x27, .pointer x28]⟩] (.one (.agg [.str, .str, (.int .i64)])) (fun (x29 : ByteArray) (x30 : ByteArray) (x31 : Int) => stW Tryz.prog 45 (.pointer x18) (.agg ⟨[.string x29, .string x30, .int .i64 x31]⟩) (ptrW x18 (fun b32 o33 =>
 rdT (rdA 3 b32 o33) (.one (.agg [.str, .str, (.int .i64)])) (fun (r34 : ByteArray) (r35 : ByteArray) (r36 : Int) => K (.agg ⟨[.string r34, .string r35, .int .i64 r36]⟩)))))))) (ptrW v19.base (fun b37 o38 => ifW (0 <= (0 : Int) /\ (0 : Int) < ((v19.len : Nat) : Int)) (rdT (rdC b37 (o38 + (0 : Int).toNat * 1)) kS (fun (x39 : ByteArray) => callT Tryz.prog 43 [.string x39] (.tup [.sc .slc, .sc .bool]) (fun x40 x41 => ptrW v19.base (fun b42 o43 =>
 ifW (0 <= IntKind.i64.wrap (((v19.len : Nat) : Int) - 1) /\ IntKind.i64.wrap (((v19.len : Nat) : Int) - 1) < ((v19.len : Nat) : Int)) (rdT (rdC b42 (o43 + (IntKind.i64.wrap (((v19.len : Nat) : Int) - 1) : Int).toNat * 1)) kS (fun (x44 : ByteArray) => callT Tryz.prog 43 [.string x44] (.tup [.sc .slc, .sc .bool]) (fun x45 x46 => letJ (T := Option Addr -> Option Addr -> Bool -> Sl -> Sl -> Bool -> H -> Prop) (fun v48 x49 v50 v51 v52 x53 => brW x53 (ptrW v48 (fun b54 o55 =>
 rdT (rdA 5 b54 o55) (.one (.agg [.str, .slc, .str, .str, .ptr])) (fun (x56 : ByteArray) (x57 : Sl) (x58 : ByteArray) (x59 : ByteArray) (x60 : Option Addr) => callT Tryz.prog 33 [.agg ⟨[.string x56, .slice x57.base x57.len x57.cap, .string x58, .string x59, .pointer x60]⟩] (.one (.agg [.str, .str, (.int .i64)])) (fun (x61 : ByteArray) (x62 : ByteArray) (x63 : Int) => stW Tryz.prog 45 (.pointer x49) (.agg ⟨[.string x61, .string x62, .int .i64 x63]⟩) (ptrW x49 (fun b64 o65 =>
 rdT (rdA 3 b64 o65) (.one (.agg [.str, .str, (.int .i64)])) (fun (r66 : ByteArray) (r67 : ByteArray) (r68 : Int) => K (.agg ⟨[.string r66, .string r67, .int .i64 r68]⟩)))))))) (ptrW v48 (fun b69 o70 => rdT (rdC b69 (o70 + 2)) kS (fun (x71 : ByteArray) => vaW Tryz.prog (convert 9 22 (.string x71)) kL (fun x72 =>
 loopW [.sc .ptr, .sc .bool, .sc .slc, .sc .slc, .sc .slc, .sc .slc, .sc (.int .i64), .sc (.int .i64)] (fun (R73 : Option Addr -> Bool -> Sl -> Sl -> Sl -> Sl -> Int -> Int -> H -> Prop) => (fun (x74 : Option Addr) (v75 : Bool) (v76 : Sl) (v77 : Sl) (v78 : Sl) (x79 : Sl) (x80 : Int) (x81 : Int) => brW (decide ((x81 : Int) < x80)) (letJ (T := Option Addr -> Bool -> Sl -> Sl -> Sl -> Sl -> Int -> Int -> H -> Prop) (fun x83 v84 v85 v86 v87 x88 x89 x90 =>
 R73 x83 v84 v85 v86 v87 x88 x89 (IntKind.i64.wrap (x90 + 1))) (fun j82 => ptrW x79.base (fun b91 o92 => ifW (0 <= x81 /\ x81 < ((x79.len : Nat) : Int)) (rdT (rdC b91 (o92 + x81.toNat * 1)) kC (fun (x93 : Int) => callT Tryz.prog 44 [.slice v76.base v76.len v76.cap, .int .u8 x93] kI (fun (x94 : Int) =>
 loopW [.sc .ptr, .sc .bool, .sc .slc, .sc .slc, .sc .slc, .sc (.int .u8), .sc (.int .i64), .sc (.int .i64), .sc .slc, .sc (.int .i64), .sc (.int .i64)] (fun (R95 : Option Addr -> Bool -> Sl -> Sl -> Sl -> Int -> Int -> Int -> Sl -> Int -> Int -> H -> Prop) => (fun (x96 : Option Addr) (v97 : Bool) (v98 : Sl) (v99 : Sl) (v100 : Sl) (v101 : Int) (v102 : Int) (v103 : Int) (x104 : Sl) (x105 : Int) (x106 : Int) =>
 letJ (T := Option Addr -> Bool -> Sl -> Sl -> Sl -> Int -> Int -> Int -> Sl -> Int -> Int -> Bool -> H -> Prop) (fun x108 v109 v110 v111 v112 v113 v114 v115 x116 x117 x118 x119 => brW x119 (letJ (T := Option Addr -> Bool -> Sl -> Sl -> Sl -> Int -> Int -> Int -> Sl -> Int -> Int -> H -> Prop) (fun x121 v122 v123 v124 v125 v126 v127 v128 x129 x130 x131 => R95 x121 v122 v123 v124 v125 v126 v127 (IntKind.i64.wrap (v128 + 1)) x129 x130 x131) (fun j120 =>
 ptrW v110.base (fun b132 o133 => ifW (0 <= v115 /\ v115 < ((v110.len : Nat) : Int)) (rdT (rdC b132 (o133 + v115.toNat * 1)) kC (fun (x134 : Int) => brW ((x134 : Int) == v113) (j120 x108 v109 v110 v111 v112 v113 v115 v115 x116 x117 x118) (j120 x108 v109 v110 v111 v112 v113 v114 v115 x116 x117 x118)))))) (brW (decide ((v114 : Int) < 0)) (alW (.cells ⟨[.int .u8 v113]⟩ 5 (0, 0)) (fun b135 =>
 biW Tryz.prog .append #[22, 22] 22 [false, false] [.slice v112.base v112.len v112.cap, .slice (some ⟨b135, 0, none⟩) 1 1] kL (fun x136 => j82 x108 v109 v110 v111 x136 x116 x117 x118))) (brW (!v109) (ptrW v111.base (fun b137 o138 =>
 ifW (0 <= (if (IntKind.i64.wrap (((v111.len : Nat) : Int) - 1)) < v114 then (IntKind.i64.wrap (((v111.len : Nat) : Int) - 1)) else v114) /\ (if (IntKind.i64.wrap (((v111.len : Nat) : Int) - 1)) < v114 then (IntKind.i64.wrap (((v111.len : Nat) : Int) - 1)) else v114) < ((v111.len : Nat) : Int))
 (rdT (rdC b137 (o138 + ((if (IntKind.i64.wrap (((v111.len : Nat) : Int) - 1)) < v114 then (IntKind.i64.wrap (((v111.len : Nat) : Int) - 1)) else v114) : Int).toNat * 1)) kC (fun (x139 : Int) => alW (.cells ⟨[.int .u8 x139]⟩ 5 (0, 0)) (fun b140 => biW Tryz.prog .append #[22, 22] 22 [false, false] [.slice v112.base v112.len v112.cap, .slice (some ⟨b140, 0, none⟩) 1 1] kL (fun x141 => j82 x108 v109 v110 v111 x141 x116 x117 x118))))))
 (j82 x108 v109 v110 v111 v112 x116 x117 x118)))) (fun j107 => brW (decide ((v102 : Int) >= 0)) (j107 x96 v97 v98 v99 v100 v101 v102 v103 x104 x105 x106 (decide ((v103 : Int) < ((v98.len : Nat) : Int))))
 (j107 x96 v97 v98 v99 v100 v101 v102 v103 x104 x105 x106 false)))) (fun (R142 : Option Addr -> Bool -> Sl -> Sl -> Sl -> Int -> Int -> Int -> Sl -> Int -> Int -> H -> Prop) => R142 x74 v75 v76 v77 v78 x93 x94 (IntKind.i64.wrap (x94 + 1)) x79 x80 x81))))))) (vaW Tryz.prog (convert 22 9 (.slice v78.base v78.len v78.cap)) kS (fun (x143 : ByteArray) =>
 stW Tryz.prog 45 (.pointer x74) (.agg ⟨[.string x143, .string ⟨⟨[]⟩⟩, .int .i64 0]⟩) (ptrW x74 (fun b144 o145 => rdT (rdA 3 b144 o145) (.one (.agg [.str, .str, (.int .i64)])) (fun (r146 : ByteArray) (r147 : ByteArray) (r148 : Int) => K (.agg ⟨[.string r146, .string r147, .int .i64 r148]⟩)))))))) (fun (R149 : Option Addr -> Bool -> Sl -> Sl -> Sl -> Sl -> Int -> Int -> H -> Prop) => R149 x49 v50 v51 v52 ⟨none, 0, 0⟩ x72 ((x72.len : Nat) : Int) 0)))))) (fun j47 => brW (!x41)
 (j47 v17 x18 v20 x40 x45 true) (j47 v17 x18 v20 x40 x45 (!x46))))))))))))) (fun j16 => brW (!x15) (j16 (some ⟨b6, 0, none⟩) (some ⟨b7, 0, none⟩) x14 (!strEq x13 (⟨⟨[]⟩⟩ : ByteArray)) true) (brW (!strEq x13 (⟨⟨[]⟩⟩ : ByteArray)) (brW (((x14.len : Nat) : Int) != 1) (j16 (some ⟨b6, 0, none⟩) (some ⟨b7, 0, none⟩) x14 (!strEq x13 (⟨⟨[]⟩⟩ : ByteArray)) true) (brW (!(!strEq x13 (⟨⟨[]⟩⟩ : ByteArray)))
 (j16 (some ⟨b6, 0, none⟩) (some ⟨b7, 0, none⟩) x14 (!strEq x13 (⟨⟨[]⟩⟩ : ByteArray)) (((x14.len : Nat) : Int) != 2)) (j16 (some ⟨b6, 0, none⟩) (some ⟨b7, 0, none⟩) x14 (!strEq x13 (⟨⟨[]⟩⟩ : ByteArray)) false))) (brW (!(!strEq x13 (⟨⟨[]⟩⟩ : ByteArray))) (j16 (some ⟨b6, 0, none⟩) (some ⟨b7, 0, none⟩) x14 (!strEq x13 (⟨⟨[]⟩⟩ : ByteArray)) (((x14.len : Nat) : Int) != 2)) (j16 (some ⟨b6, 0, none⟩) (some ⟨b7, 0, none⟩) x14 (!strEq x13 (⟨⟨[]⟩⟩ : ByteArray)) false))))))))
theorem c24 (v1 : ByteArray) (v2 : Sl) (v3 : ByteArray) (v4 : ByteArray) (v5 : Option Addr) {K : KH} {σ : H} : g24 v1 v2 v3 v4 v5 K σ -> callW Tryz.prog 24 [.agg ⟨[.string v1, .slice v2.base v2.len v2.cap, .string v3, .string v4, .pointer v5]⟩] K σ := call_k an24 Tryz.func24 (by kernel_rfl)


def an25 : Ann := (.q (.q (.q (.q (.q (.n (.seq (some [(1,.p),(2,.p),(4,.l),(6,.p),(7,.b),(8,.s),(9,.p),(10,.s),(56,.b)]) .r (.h)) (.q (.n (.q (.h)) (.seq (some [(1,.p),(2,.p),(4,.l),(6,.p),(9,.p),(12,.p)]) (.q (.cond .r .z)) (.q (.q (.q (.n (.q (.blk (.loop [(2,.p),(13,.w),(15,.p),(16,.l),(82,.i),(83,.i)] (.q (.n (.cond .z .z) (.n (.blk (.q .r)) .r)))))) (.q (.q .z)))))))))))))))
def g25 (v1 : ByteArray) (v2 : Sl) (v3 : ByteArray) (v4 : ByteArray) (v5 : Option Addr) (K : KH) : H -> Prop :=
 alW (.cells ⟨[.string v1, .slice v2.base v2.len v2.cap, .string v3, .string v4, .pointer v5]⟩ 57 (0, 0)) (fun b6 => alW (.cells ⟨[.string ⟨⟨[]⟩⟩, .string ⟨⟨[]⟩⟩, .int .i64 0]⟩ 45 (0, 0)) (fun b7 => rdT (rdA 5 b6 0) (.one (.agg [.str, .slc, .str, .str, .ptr])) (fun (x8 : ByteArray) (x9 : Sl) (x10 : ByteArray) (x11 : ByteArray) (x12 : Option Addr) =>
 callT Tryz.prog 45 [.agg ⟨[.string x8, .slice x9.base x9.len x9.cap, .string x10, .string x11, .pointer x12]⟩, .string ⟨⟨[100, 102, 99]⟩⟩] (.tup [.sc .map, .sc .slc, .sc .bool]) (fun (x13 : Option Nat) (x14 : Sl) (x15 : Bool) => rdT (rdM (.int .u8) (.string ⟨⟨[]⟩⟩) true x13 (.int .u8 100)) (.tup [.sc .str, .sc .bool]) (fun (x16 : ByteArray) (x17 : Bool) => alW (.cells ⟨[.string ⟨⟨[]⟩⟩]⟩ 9 (0, 0)) (fun b18 =>
 stW Tryz.prog 9 (.pointer (some ⟨b18, 0, none⟩)) (.string x16) (rdT (rdM (.int .u8) (.string ⟨⟨[]⟩⟩) true x13 (.int .u8 102)) (.tup [.sc .str, .sc .bool]) (fun (x19 : ByteArray) (x20 : Bool) => alW (.cells ⟨[.bool false]⟩ 4 (0, 0)) (fun b21 => stW Tryz.prog 4 (.pointer (some ⟨b21, 0, none⟩)) (.bool x20) (rdT (rdM (.int .u8) (.string ⟨⟨[]⟩⟩) true x13 (.int .u8 99)) (.tup [.sc .str, .sc .bool]) (fun (x22 : ByteArray) (x23 : Bool) =>
 letJ (T := Option Addr -> Option Addr -> Sl -> Option Addr -> Bool -> ByteArray -> Option Addr -> ByteArray -> Bool -> H -> Prop) (fun v25 x26 v27 v28 v29 v30 v31 v32 x33 => brW x33 (ptrW v25 (fun b34 o35 => rdT (rdA 5 b34 o35) (.one (.agg [.str, .slc, .str, .str, .ptr])) (fun (x36 : ByteArray) (x37 : Sl) (x38 : ByteArray) (x39 : ByteArray) (x40 : Option Addr) =>
 callT Tryz.prog 33 [.agg ⟨[.string x36, .slice x37.base x37.len x37.cap, .string x38, .string x39, .pointer x40]⟩] (.one (.agg [.str, .str, (.int .i64)])) (fun (x41 : ByteArray) (x42 : ByteArray) (x43 : Int) => stW Tryz.prog 45 (.pointer x26) (.agg ⟨[.string x41, .string x42, .int .i64 x43]⟩) (ptrW x26 (fun b44 o45 => rdT (rdA 3 b44 o45) (.one (.agg [.str, .str, (.int .i64)])) (fun (r46 : ByteArray) (r47 : ByteArray) (r48 : Int) => K (.agg ⟨[.string r46, .string r47, .int .i64 r48]⟩))))))))
 (ifW (v30.size + v32.size <= 9223372036854775807) (callT Tryz.prog 46 [.string (v30 ++ v32)] (.tup [.sc .slc, .sc .bool]) (fun x49 x50 => alW (.cells ⟨[.slice none 0 0]⟩ 89 (0, 0)) (fun b51 => stW Tryz.prog 89 (.pointer (some ⟨b51, 0, none⟩)) (.slice x49.base x49.len x49.cap) (brW (!x50) (ptrW v25 (fun b52 o53 => rdT (rdA 5 b52 o53) (.one (.agg [.str, .slc, .str, .str, .ptr])) (fun (x54 : ByteArray) (x55 : Sl) (x56 : ByteArray) (x57 : ByteArray) (x58 : Option Addr) =>
 callT Tryz.prog 33 [.agg ⟨[.string x54, .slice x55.base x55.len x55.cap, .string x56, .string x57, .pointer x58]⟩] (.one (.agg [.str, .str, (.int .i64)])) (fun (x59 : ByteArray) (x60 : ByteArray) (x61 : Int) => stW Tryz.prog 45 (.pointer x26) (.agg ⟨[.string x59, .string x60, .int .i64 x61]⟩) (ptrW x26 (fun b62 o63 => rdT (rdA 3 b62 o63) (.one (.agg [.str, .str, (.int .i64)])) (fun (r64 : ByteArray) (r65 : ByteArray) (r66 : Int) => K (.agg ⟨[.string r64, .string r65, .int .i64 r66]⟩))))))))
 (letJ (T := Option Addr -> Option Addr -> Sl -> Option Addr -> Option Addr -> Option Addr -> H -> Prop) (fun v68 x69 v70 v71 v72 v73 => ptrW v68 (fun b74 o75 => rdT (rdA 5 b74 o75) (.one (.agg [.str, .slc, .str, .str, .ptr])) (fun (x76 : ByteArray) (x77 : Sl) (x78 : ByteArray) (x79 : ByteArray) (x80 : Option Addr) =>
 callT Tryz.prog 34 [.agg ⟨[.string x76, .slice x77.base x77.len x77.cap, .string x78, .string x79, .pointer x80]⟩, .slice v70.base v70.len v70.cap] (.tup [.sc .str, .agg [.str, .str, (.int .i64)]]) (fun (x81 : ByteArray) (x82 : ByteArray) (x83 : ByteArray) (x84 : Int) => alW (.cells ⟨[.string ⟨⟨[]⟩⟩, .string ⟨⟨[]⟩⟩, .int .i64 0]⟩ 45 (0, 0)) (fun b85 =>
 stW Tryz.prog 45 (.pointer (some ⟨b85, 0, none⟩)) (.agg ⟨[.string x82, .string x83, .int .i64 x84]⟩) (callT Tryz.prog 51 [.string x81] kL (fun x86 => loopW [.sc .ptr, .sc .raw, .sc .ptr, .sc .slc, .sc (.int .i64), .sc (.int .i64)] (fun (R87 : Option Addr -> Value -> Option Addr -> Sl -> Int -> Int -> H -> Prop) => (fun (x88 : Option Addr) (v89 : Value) (v90 : Option Addr) (v91 : Sl) (x92 : Int) (x93 : Int) => brW (decide ((x93 : Int) < x92)) (ptrW v91.base (fun b94 o95 =>
 ifW (0 <= x93 /\ x93 < ((v91.len : Nat) : Int)) (rdT (rdC b94 (o95 + x93.toNat * 1)) kS (fun (x96 : ByteArray) => cvalT Tryz.prog v89 [.string x96] kS (fun (x97 : ByteArray) => ptrW v91.base (fun b98 o99 => ifW (0 <= x93 /\ x93 < ((v91.len : Nat) : Int)) (stW Tryz.prog 9 (.pointer (some ⟨b98, o99 + x93.toNat * 1, none⟩)) (.string x97) (R87 x88 v89 v90 v91 x92 (IntKind.i64.wrap (x93 + 1)))))))))) (callT Tryz.prog 52 [.slice v91.base v91.len v91.cap] kS (fun (x100 : ByteArray) =>
 ptrW v90 (fun b101 o102 => stW Tryz.prog 9 (.pointer (some ⟨b101, o102, none⟩)) (.string x100) (ptrW v90 (fun b103 o104 => rdT (rdA 3 b103 o104) (.one (.agg [.str, .str, (.int .i64)])) (fun (x105 : ByteArray) (x106 : ByteArray) (x107 : Int) => stW Tryz.prog 45 (.pointer x88) (.agg ⟨[.string x105, .string x106, .int .i64 x107]⟩) (ptrW x88 (fun b108 o109 => rdT (rdA 3 b108 o109) (.one (.agg [.str, .str, (.int .i64)])) (fun (r110 : ByteArray) (r111 : ByteArray) (r112 : Int) =>
 K (.agg ⟨[.string r110, .string r111, .int .i64 r112]⟩)))))))))))) (fun (R113 : Option Addr -> Value -> Option Addr -> Sl -> Int -> Int -> H -> Prop) => R113 x69 (.func (.func 47) ⟨[]⟩ ⟨[.pointer v72, .pointer v71, .pointer v73]⟩) (some ⟨b85, 0, none⟩) x86 ((x86.len : Nat) : Int) 0)))))))) (fun j67 => brW (!v29) (stW Tryz.prog 9 (.pointer v28) (.string ⟨⟨[9]⟩⟩) (j67 v25 x26 v27 v28 v31 (some ⟨b51, 0, none⟩)))
 (j67 v25 x26 v27 v28 v31 (some ⟨b51, 0, none⟩)))))))))) (fun j24 => brW (!x15) (j24 (some ⟨b6, 0, none⟩) (some ⟨b7, 0, none⟩) x14 (some ⟨b18, 0, none⟩) x17 x19 (some ⟨b21, 0, none⟩) x22 true) (rdT (rdC b21 0) kB (fun x114 => brW (x114 == x23) (j24 (some ⟨b6, 0, none⟩) (some ⟨b7, 0, none⟩) x14 (some ⟨b18, 0, none⟩) x17 x19 (some ⟨b21, 0, none⟩) x22 true) (brW x17 (brW x23
 (j24 (some ⟨b6, 0, none⟩) (some ⟨b7, 0, none⟩) x14 (some ⟨b18, 0, none⟩) x17 x19 (some ⟨b21, 0, none⟩) x22 true) (rdT (rdC b18 0) kS (fun (x115 : ByteArray) => j24 (some ⟨b6, 0, none⟩) (some ⟨b7, 0, none⟩) x14 (some ⟨b18, 0, none⟩) x17 x19 (some ⟨b21, 0, none⟩) x22 (((x115.size : Nat) : Int) != 1)))) (j24 (some ⟨b6, 0, none⟩) (some ⟨b7, 0, none⟩) x14 (some ⟨b18, 0, none⟩) x17 x19 (some ⟨b21, 0, none⟩) x22 false))))))))))))))))
theorem c25 (v1 : ByteArray) (v2 : Sl) (v3 : ByteArray) (v4 : ByteArray) (v5 : Option Addr) {K : KH} {σ : H} : g25 v1 v2 v3 v4 v5 K σ -> callW Tryz.prog 25 [.agg ⟨[.string v1, .slice v2.base v2.len v2.cap, .string v3, .string v4, .pointer v5]⟩] K σ := call_k an25 Tryz.func25 (by kernel_rfl)


def an26 : Ann := (.q (.q (.n (.q (.h)) (.q (.seq (some [(1,.p),(2,.p),(3,.s),(4,.l),(6,.p)]) (.q (.blk (.q (.cond .r (.q (.cond .r .z)))))) (.q (.q (.q (.q (.seq (some [(2,.p),(12,.p),(13,.l)]) (.q (.cond .r .z)) (.q (.q .z))))))))))))
def g26 (v1 : ByteArray) (v2 : Sl) (v3 : ByteArray) (v4 : ByteArray) (v5 : Option Addr) (K : KH) : H -> Prop :=
 alW (.cells ⟨[.string v1, .slice v2.base v2.len v2.cap, .string v3, .string v4, .pointer v5]⟩ 57 (0, 0)) (fun b6 => alW (.cells ⟨[.string ⟨⟨[]⟩⟩, .string ⟨⟨[]⟩⟩, .int .i64 0]⟩ 45 (0, 0)) (fun b7 => rdT (rdA 5 b6 0) (.one (.agg [.str, .slc, .str, .str, .ptr])) (fun (x8 : ByteArray) (x9 : Sl) (x10 : ByteArray) (x11 : ByteArray) (x12 : Option Addr) =>
 callT Tryz.prog 32 [.agg ⟨[.string x8, .slice x9.base x9.len x9.cap, .string x10, .string x11, .pointer x12]⟩, .string ⟨⟨[110, 114, 117, 103]⟩⟩] (.tup [.sc .str, .sc .slc, .sc .bool]) (fun (x13 : ByteArray) (x14 : Sl) (x15 : Bool) => brW (!x15) (rdT (rdA 5 b6 0) (.one (.agg [.str, .slc, .str, .str, .ptr])) (fun (x16 : ByteArray) (x17 : Sl) (x18 : ByteArray) (x19 : ByteArray) (x20 : Option Addr) =>
 callT Tryz.prog 33 [.agg ⟨[.string x16, .slice x17.base x17.len x17.cap, .string x18, .string x19, .pointer x20]⟩] (.one (.agg [.str, .str, (.int .i64)])) (fun (x21 : ByteArray) (x22 : ByteArray) (x23 : Int) => stW Tryz.prog 45 (.pointer (some ⟨b7, 0, none⟩)) (.agg ⟨[.string x21, .string x22, .int .i64 x23]⟩) (rdT (rdA 3 b7 0) (.one (.agg [.str, .str, (.int .i64)])) (fun (r24 : ByteArray) (r25 : ByteArray) (r26 : Int) => K (.agg ⟨[.string r24, .string r25, .int .i64 r26]⟩))))))
 (alW (.cells ⟨[.nilFunc]⟩ 62 (0, 0)) (fun b27 => stW Tryz.prog 62 (.pointer (some ⟨b27, 0, none⟩)) (.func (.func 53) ⟨[]⟩ ⟨[]⟩) (letJ (T := Option Addr -> Option Addr -> ByteArray -> Sl -> Option Addr -> H -> Prop) (fun v29 x30 v31 v32 v33 => callT Tryz.prog 48 [.string v31, .string ⟨⟨[117]⟩⟩] kB (fun x34 => callT Tryz.prog 48 [.string v31, .string ⟨⟨[114]⟩⟩] kB (fun x35 => alW (.cells ⟨[.bool false]⟩ 4 (0, 0)) (fun b36 =>
 alW (.cells ⟨[.bool false]⟩ 4 (0, 0)) (fun b37 => stW Tryz.prog 4 (.pointer (some ⟨b36, 0, none⟩)) (.bool x34) (stW Tryz.prog 4 (.pointer (some ⟨b37, 0, none⟩)) (.bool x35) (ptrW v29 (fun b38 o39 => rdT (rdA 5 b38 o39) (.one (.agg [.str, .slc, .str, .str, .ptr])) (fun (x40 : ByteArray) (x41 : Sl) (x42 : ByteArray) (x43 : ByteArray) (x44 : Option Addr) =>
 callT Tryz.prog 34 [.agg ⟨[.string x40, .slice x41.base x41.len x41.cap, .string x42, .string x43, .pointer x44]⟩, .slice v32.base v32.len v32.cap] (.tup [.sc .str, .agg [.str, .str, (.int .i64)]]) (fun (x45 : ByteArray) (x46 : ByteArray) (x47 : ByteArray) (x48 : Int) => alW (.cells ⟨[.string ⟨⟨[]⟩⟩, .string ⟨⟨[]⟩⟩, .int .i64 0]⟩ 45 (0, 0)) (fun b49 =>
 stW Tryz.prog 45 (.pointer (some ⟨b49, 0, none⟩)) (.agg ⟨[.string x46, .string x47, .int .i64 x48]⟩) (callT Tryz.prog 51 [.string x45] kL (fun x50 => callT Tryz.prog 59 [.slice x50.base x50.len x50.cap, .func (.func 60) ⟨[]⟩ ⟨[.pointer v33, .pointer (some ⟨b36, 0, none⟩), .pointer (some ⟨b37, 0, none⟩)]⟩] kU (letJ (T := Option Addr -> Option Addr -> Sl -> H -> Prop) (fun x52 v53 v54 => callT Tryz.prog 52 [.slice v54.base v54.len v54.cap] kS (fun (x55 : ByteArray) =>
 ptrW v53 (fun b56 o57 => stW Tryz.prog 9 (.pointer (some ⟨b56, o57, none⟩)) (.string x55) (ptrW v53 (fun b58 o59 => rdT (rdA 3 b58 o59) (.one (.agg [.str, .str, (.int .i64)])) (fun (x60 : ByteArray) (x61 : ByteArray) (x62 : Int) => stW Tryz.prog 45 (.pointer x52) (.agg ⟨[.string x60, .string x61, .int .i64 x62]⟩) (ptrW x52 (fun b63 o64 => rdT (rdA 3 b63 o64) (.one (.agg [.str, .str, (.int .i64)])) (fun (r65 : ByteArray) (r66 : ByteArray) (r67 : Int) =>
 K (.agg ⟨[.string r65, .string r66, .int .i64 r67]⟩)))))))))) (fun j51 => rdT (rdC b36 0) kB (fun x68 => brW x68 (callT Tryz.prog 61 [.slice x50.base x50.len x50.cap, .func (.func 62) ⟨[]⟩ ⟨[.pointer v33]⟩] kL (fun x69 => j51 x30 (some ⟨b49, 0, none⟩) x69)) (j51 x30 (some ⟨b49, 0, none⟩) x50))))))))))))))))) (fun j28 => callT Tryz.prog 54 [.string x13, .int .u8 110] kI (fun (x70 : Int) => callT Tryz.prog 54 [.string x13, .int .u8 103] kI (fun (x71 : Int) => brW (decide ((x70 : Int) > x71))
 (stW Tryz.prog 62 (.pointer (some ⟨b27, 0, none⟩)) (.func (.func 55) ⟨[]⟩ ⟨[]⟩) (j28 (some ⟨b6, 0, none⟩) (some ⟨b7, 0, none⟩) x13 x14 (some ⟨b27, 0, none⟩))) (brW (decide ((x71 : Int) > x70)) (stW Tryz.prog 62 (.pointer (some ⟨b27, 0, none⟩)) (.func (.func 58) ⟨[]⟩ ⟨[]⟩) (j28 (some ⟨b6, 0, none⟩) (some ⟨b7, 0, none⟩) x13 x14 (some ⟨b27, 0, none⟩))) (j28 (some ⟨b6, 0, none⟩) (some ⟨b7, 0, none⟩) x13 x14 (some ⟨b27, 0, none⟩)))))))))))))
theorem c26 (v1 : ByteArray) (v2 : Sl) (v3 : ByteArray) (v4 : ByteArray) (v5 : Option Addr) {K : KH} {σ : H} : g26 v1 v2 v3 v4 v5 K σ -> callW Tryz.prog 26 [.agg ⟨[.string v1, .slice v2.base v2.len v2.cap, .string v3, .string v4, .pointer v5]⟩] K σ := call_k an26 Tryz.func26 (by kernel_rfl)


def an27 : Ann := (.q (.q (.n (.q (.h)) (.q (.q (.n (.q (.blk (.loop [(2,.p),(3,.s),(7,.p),(8,.l),(9,.l)] (.n (.q (.cond .z .z)) (.blk (.q (.n (.blk (.loop [(2,.p),(3,.s),(7,.p),(8,.l),(9,.l),(10,.i)] (.n (.seq (some [(2,.p),(3,.s),(7,.p),(8,.l),(9,.l),(10,.i),(46,.b)]) (.reg (rn 14) [[],[],[1],[0,1,2],(rn 4),(rn 5),(rn 5),(rn 7),(rn 8),(rn 5),[0,1,2,3,4,9],[0,1,2,3,4,9,10],(rn 12),(rn 13)]) (.cond .z .z)) (.blk .r)))) (.q (.seq (some [(2,.p),(3,.s),(7,.p),(8,.l),(9,.l),(10,.i),(11,.s)]) (.q (.cond .r .z)) (.seq (some [(2,.p),(3,.s),(7,.p),(8,.l),(9,.l),(10,.i)]) (.seq (some [(2,.p),(3,.s),(7,.p),(8,.l),(9,.l),(10,.i),(11,.s),(65,.b)]) .r (.cond .r .z)) .r)))))))))) (.q (.q .z))))))))
def g27 (v1 : ByteArray) (v2 : Sl) (v3 : ByteArray) (v4 : ByteArray) (v5 : Option Addr) (K : KH) : H -> Prop :=
 alW (.cells ⟨[.string v1, .slice v2.base v2.len v2.cap, .string v3, .string v4, .pointer v5]⟩ 57 (0, 0)) (fun b6 => alW (.cells ⟨[.string ⟨⟨[]⟩⟩, .string ⟨⟨[]⟩⟩, .int .i64 0]⟩ 45 (0, 0)) (fun b7 => rdT (rdA 5 b6 0) (.one (.agg [.str, .slc, .str, .str, .ptr])) (fun (x8 : ByteArray) (x9 : Sl) (x10 : ByteArray) (x11 : ByteArray) (x12 : Option Addr) =>
 callT Tryz.prog 32 [.agg ⟨[.string x8, .slice x9.base x9.len x9.cap, .string x10, .string x11, .pointer x12]⟩, .string ⟨⟨[99, 100]⟩⟩] (.tup [.sc .str, .sc .slc, .sc .bool]) (fun (x13 : ByteArray) (x14 : Sl) (x15 : Bool) => brW (!x15) (rdT (rdA 5 b6 0) (.one (.agg [.str, .slc, .str, .str, .ptr])) (fun (x16 : ByteArray) (x17 : Sl) (x18 : ByteArray) (x19 : ByteArray) (x20 : Option Addr) =>
 callT Tryz.prog 33 [.agg ⟨[.string x16, .slice x17.base x17.len x17.cap, .string x18, .string x19, .pointer x20]⟩] (.one (.agg [.str, .str, (.int .i64)])) (fun (x21 : ByteArray) (x22 : ByteArray) (x23 : Int) => stW Tryz.prog 45 (.pointer (some ⟨b7, 0, none⟩)) (.agg ⟨[.string x21, .string x22, .int .i64 x23]⟩) (rdT (rdA 3 b7 0) (.one (.agg [.str, .str, (.int .i64)])) (fun (r24 : ByteArray) (r25 : ByteArray) (r26 : Int) => K (.agg ⟨[.string r24, .string r25, .int .i64 r26]⟩))))))
 (rdT (rdA 5 b6 0) (.one (.agg [.str, .slc, .str, .str, .ptr])) (fun (x27 : ByteArray) (x28 : Sl) (x29 : ByteArray) (x30 : ByteArray) (x31 : Option Addr) => callT Tryz.prog 34 [.agg ⟨[.string x27, .slice x28.base x28.len x28.cap, .string x29, .string x30, .pointer x31]⟩, .slice x14.base x14.len x14.cap] (.tup [.sc .str, .agg [.str, .str, (.int .i64)]]) (fun (x32 : ByteArray) (x33 : ByteArray) (x34 : ByteArray) (x35 : Int) =>
 alW (.cells ⟨[.string ⟨⟨[]⟩⟩, .string ⟨⟨[]⟩⟩, .int .i64 0]⟩ 45 (0, 0)) (fun b36 => stW Tryz.prog 45 (.pointer (some ⟨b36, 0, none⟩)) (.agg ⟨[.string x33, .string x34, .int .i64 x35]⟩) (callT Tryz.prog 51 [.string x32] kL (fun x37 => loopW [.sc .ptr, .sc .str, .sc .ptr, .sc .slc, .sc .slc] (fun (R38 : Option Addr -> ByteArray -> Option Addr -> Sl -> Sl -> H -> Prop) => (fun (x39 : Option Addr) (v40 : ByteArray) (v41 : Option Addr) (v42 : Sl) (v43 : Sl) =>
 brW (decide (((v43.len : Nat) : Int) > 0)) (loopW [.sc .ptr, .sc .str, .sc .ptr, .sc .slc, .sc .slc, .sc (.int .i64)] (fun (R44 : Option Addr -> ByteArray -> Option Addr -> Sl -> Sl -> Int -> H -> Prop) => (fun (x45 : Option Addr) (v46 : ByteArray) (v47 : Option Addr) (v48 : Sl) (v49 : Sl) (v50 : Int) => letJ (T := Option Addr -> ByteArray -> Option Addr -> Sl -> Sl -> Int -> Bool -> H -> Prop) (fun x52 v53 v54 v55 v56 v57 x58 => brW x58
 (R44 x52 v53 v54 v55 v56 (IntKind.i64.wrap (v57 + 1))) (ptrW v56.base (fun b59 o60 => ifW (0 <= (0 : Int) /\ (0 : Int) < ((v56.len : Nat) : Int)) (rdT (rdC b59 (o60 + (0 : Int).toNat * 1)) kS (fun (x61 : ByteArray) => letJ (T := Option Addr -> ByteArray -> Option Addr -> Sl -> Sl -> Int -> ByteArray -> H -> Prop) (fun x63 v64 v65 v66 v67 v68 v69 => letJ (T := Option Addr -> ByteArray -> Option Addr -> Sl -> Sl -> Int -> H -> Prop) (fun x71 v72 v73 v74 v75 v76 =>
 ifW (bndOk none v75.cap /\ bndOk (some v76) v75.len) (R38 x71 v72 v73 v74 ⟨slBase v75.base v76.toNat v75.cap 1, v75.len - v76.toNat, v75.cap - v76.toNat⟩)) (fun j70 => letJ (T := Option Addr -> ByteArray -> Option Addr -> Sl -> Sl -> Int -> ByteArray -> Bool -> H -> Prop) (fun x78 v79 v80 v81 v82 v83 v84 x85 => brW x85 (alW (.cells ⟨[.string v84]⟩ 9 (0, 0)) (fun b86 =>
 biW Tryz.prog .append #[26, 26] 26 [false, false] [.slice v81.base v81.len v81.cap, .slice (some ⟨b86, 0, none⟩) 1 1] kL (fun x87 => j70 x78 v79 v80 x87 v82 v83))) (j70 x78 v79 v80 v81 v82 v83)) (fun j77 => brW (decide ((v68 : Int) > 1)) (j77 x63 v64 v65 v66 v67 v68 v69 true) (callT Tryz.prog 48 [.string v64, .string ⟨⟨[100]⟩⟩] kB (fun x88 => j77 x63 v64 v65 v66 v67 v68 v69 (!x88)))))) (fun j62 =>
 callT Tryz.prog 48 [.string v53, .string ⟨⟨[99]⟩⟩] kB (fun x89 => brW x89 (callT Tryz.prog 41 [.int .i64 v57] kS (fun (x90 : ByteArray) => ifW (x90.size + (⟨⟨[32]⟩⟩ : ByteArray).size <= 9223372036854775807) (ifW ((x90 ++ ⟨⟨[32]⟩⟩).size + x61.size <= 9223372036854775807) (j62 x52 v53 v54 v55 v56 v57 ((x90 ++ ⟨⟨[32]⟩⟩) ++ x61))))) (j62 x52 v53 v54 v55 v56 v57 x61)))))))) (fun j51 =>
 brW (decide ((v50 : Int) < ((v49.len : Nat) : Int))) (ptrW v49.base (fun b91 o92 => ifW (0 <= v50 /\ v50 < ((v49.len : Nat) : Int)) (rdT (rdC b91 (o92 + v50.toNat * 1)) kS (fun (x93 : ByteArray) => ptrW v49.base (fun b94 o95 => ifW (0 <= (0 : Int) /\ (0 : Int) < ((v49.len : Nat) : Int)) (rdT (rdC b94 (o95 + (0 : Int).toNat * 1)) kS (fun (x96 : ByteArray) => j51 x45 v46 v47 v48 v49 v50 (strEq x93 x96))))))))
 (j51 x45 v46 v47 v48 v49 v50 false)))) (fun (R97 : Option Addr -> ByteArray -> Option Addr -> Sl -> Sl -> Int -> H -> Prop) => R97 x39 v40 v41 v42 v43 1)) (callT Tryz.prog 52 [.slice v42.base v42.len v42.cap] kS (fun (x98 : ByteArray) => ptrW v41 (fun b99 o100 => stW Tryz.prog 9 (.pointer (some ⟨b99, o100, none⟩)) (.string x98) (ptrW v41 (fun b101 o102 =>
 rdT (rdA 3 b101 o102) (.one (.agg [.str, .str, (.int .i64)])) (fun (x103 : ByteArray) (x104 : ByteArray) (x105 : Int) => stW Tryz.prog 45 (.pointer x39) (.agg ⟨[.string x103, .string x104, .int .i64 x105]⟩) (ptrW x39 (fun b106 o107 => rdT (rdA 3 b106 o107) (.one (.agg [.str, .str, (.int .i64)])) (fun (r108 : ByteArray) (r109 : ByteArray) (r110 : Int) =>
 K (.agg ⟨[.string r108, .string r109, .int .i64 r110]⟩)))))))))))) (fun (R111 : Option Addr -> ByteArray -> Option Addr -> Sl -> Sl -> H -> Prop) => R111 (some ⟨b7, 0, none⟩) x13 (some ⟨b36, 0, none⟩) ⟨none, 0, 0⟩ x37)))))))))))
theorem c27 (v1 : ByteArray) (v2 : Sl) (v3 : ByteArray) (v4 : ByteArray) (v5 : Option Addr) {K : KH} {σ : H} : g27 v1 v2 v3 v4 v5 K σ -> callW Tryz.prog 27 [.agg ⟨[.string v1, .slice v2.base v2.len v2.cap, .string v3, .string v4, .pointer v5]⟩] K σ := call_k an27 Tryz.func27 (by kernel_rfl)


def an28 : Ann := (.q (.n (.q (.h)) (.q .z)))
def g28 (v1 : ByteArray) (v2 : ByteArray) (K : KH) : H -> Prop :=
 callT Tryz.prog 63 [.string v1, .string v2] kB (fun x3 => brW x3 (ifW (bndOk (some (IntKind.i64.wrap (((v1.size : Nat) : Int) - ((v2.size : Nat) : Int)))) v1.size /\ bndOk none ((IntKind.i64.wrap (((v1.size : Nat) : Int) - ((v2.size : Nat) : Int))).toNat)) (K (.string (v1.extract 0 ((IntKind.i64.wrap (((v1.size : Nat) : Int) - ((v2.size : Nat) : Int))).toNat))))) (K (.string v1)))
theorem c28 (v1 : ByteArray) (v2 : ByteArray) {K : KH} {σ : H} : g28 v1 v2 K σ -> callW Tryz.prog 28 [.string v1, .string v2] K σ := call_k an28 Tryz.func28 (by kernel_rfl)


def an30 : Ann := (.q (.n (.q (.h)) (.n (.q (.h)) (.q (.blk (.loop [(0,.s),(1,.s),(5,.i)] (.blk (.q (.n (.q (.h)) (.q .r))))))))))
def g30 (v1 : ByteArray) (v2 : ByteArray) (K : KH) : H -> Prop :=
 brW (((v2.size : Nat) : Int) == 0) (callT Tryz.prog 64 [.string v1] kI (fun (x3 : Int) => K (.int .i64 (IntKind.i64.wrap (x3 + 1))))) (brW (((v2.size : Nat) : Int) == 1) (idxW v2 0 (fun ch4 => cvalT Tryz.prog (.func (.func 66) ⟨[]⟩ ⟨[]⟩) [.string v1, .int .u8 (ch4.toNat : Int)] kI (fun (x5 : Int) => K (.int .i64 x5))))
 (loopW [.sc .str, .sc .str, .sc (.int .i64)] (fun (R6 : ByteArray -> ByteArray -> Int -> H -> Prop) => (fun (v7 : ByteArray) (v8 : ByteArray) (v9 : Int) => callT Tryz.prog 31 [.string v7, .string v8] kI (fun (x10 : Int) => brW ((x10 : Int) == (-1)) (K (.int .i64 v9)) (ifW (bndOk none v7.size /\ bndOk (some (IntKind.i64.wrap (x10 + ((v8.size : Nat) : Int)))) (v7.size))
 (R6 (v7.extract ((IntKind.i64.wrap (x10 + ((v8.size : Nat) : Int))).toNat) v7.size) v8 (IntKind.i64.wrap (v9 + 1))))))) (fun (R11 : ByteArray -> ByteArray -> Int -> H -> Prop) => R11 v1 v2 0)))
theorem c30 (v1 : ByteArray) (v2 : ByteArray) {K : KH} {σ : H} : g30 v1 v2 K σ -> callW Tryz.prog 30 [.string v1, .string v2] K σ := call_k an30 Tryz.func30 (by kernel_rfl)


def an31 : Ann := (.q (.q .z))
def g31 (v1 : ByteArray) (v2 : ByteArray) (K : KH) : H -> Prop :=
 callT Tryz.prog 67 [.string v1, .string v2] kI (fun (x3 : Int) => K (.int .i64 x3))
theorem c31 (v1 : ByteArray) (v2 : ByteArray) {K : KH} {σ : H} : g31 v1 v2 K σ -> callW Tryz.prog 31 [.string v1, .string v2] K σ := call_k an31 Tryz.func31 (by kernel_rfl)


def an32 : Ann := (.q (.seq (some [(4,.p),(5,.p),(6,.p)]) (.q (.blk (.rf [.agg [(.int .u8),.str,.bool]] .r (.blk (.n (.q (.h)) .r))))) (.n (.reg (rn 5) [[],[],[0],[0,1,2],(rn 4)]) .z)))
def g32 (v1 : ByteArray) (v2 : Sl) (v3 : ByteArray) (v4 : ByteArray) (v5 : Option Addr) (v6 : ByteArray) (K : KH) : H -> Prop :=
 alW (.cells ⟨[.string v1, .slice v2.base v2.len v2.cap, .string v3, .string v4, .pointer v5]⟩ 57 (0, 0)) (fun b7 => alW (.cells ⟨[.string ⟨⟨[]⟩⟩]⟩ 9 (0, 0)) (fun b8 => alW (.cells ⟨[.slice none 0 0]⟩ 26 (0, 0)) (fun b9 => alW (.cells ⟨[.bool false]⟩ 4 (0, 0)) (fun b10 => letJ (T := Option Addr -> Option Addr -> Option Addr -> H -> Prop) (fun v12 v13 v14 => ptrW v12 (fun b15 o16 => rdT (rdC b15 o16) kS (fun (x17 : ByteArray) => ptrW v13 (fun b18 o19 =>
 rdT (rdC b18 o19) kL (fun x20 => stW Tryz.prog 9 (.pointer v12) (.string x17) (andW (fun σ => (rdC b18 o19) σ = some (.slice x20.base x20.len x20.cap)) (stW Tryz.prog 26 (.pointer v13) (.slice x20.base x20.len x20.cap) (stW Tryz.prog 4 (.pointer v14) (.bool true) (ptrW v12 (fun b21 o22 => rdT (rdC b21 o22) kS (fun (r23 : ByteArray) => ptrW v13 (fun b24 o25 => rdT (rdC b24 o25) kL (fun r26 => ptrW v14 (fun b27 o28 => rdT (rdC b27 o28) kB (fun r29 =>
 K (.tuple ⟨[.string r23, .slice r26.base r26.len r26.cap, .bool r29]⟩)))))))))))))))) (fun j11 => rdT (rdC b7 1) kL (fun x30 => callT Tryz.prog 68 [.slice x30.base x30.len x30.cap, .string v6, .string ⟨⟨[]⟩⟩, .pointer (some ⟨b9, 0, none⟩)] kR (fun x31 => funW x31 (fun (g45 : FuncId) (as46 cs47 : List Value) =>
 rfW Tryz.prog none g45 as46 cs47 [.agg [(.int .u8), .str, .bool]] (fun (l32 : Nat) (obj33 : LoopState -> Option Code -> Obj) (K34 : Value -> H -> Prop) => (fun (x35 : Int) (x36 : ByteArray) (x37 : Bool) => alW (.cells ⟨[.int .u8 0, .string ⟨⟨[]⟩⟩, .bool false]⟩ 108 (0, 0)) (fun b38 => stW Tryz.prog 108 (.pointer (some ⟨b38, 0, none⟩)) (.agg ⟨[.int .u8 x35, .string x36, .bool x37]⟩) (begW l32 obj33 (rdT (rdC b38 2) kB (fun x39 => brW x39
 (stW Tryz.prog 9 (.pointer (some ⟨b8, 0, none⟩)) (.string ⟨⟨[]⟩⟩) (stW Tryz.prog 26 (.pointer (some ⟨b9, 0, none⟩)) (.slice none 0 0) (stW Tryz.prog 4 (.pointer (some ⟨b10, 0, none⟩)) (.bool false) (roundK l32 obj33 K34 (some .ret) false .done)))) (rdT (rdC b8 0) kS (fun (x40 : ByteArray) => rdT (rdC b38 0) kC (fun (x41 : Int) => alW (.cells ⟨[.int .u8 x41]⟩ 5 (0, 0)) (fun b42 => vaW Tryz.prog (convert 22 9 (.slice (some ⟨b42, 0, none⟩) 1 1)) kS (fun (x43 : ByteArray) =>
 ifW (x40.size + x43.size <= 9223372036854775807) (stW Tryz.prog 9 (.pointer (some ⟨b8, 0, none⟩)) (.string (x40 ++ x43)) (roundK l32 obj33 K34 none true .ready))))))))))))) (j11 (some ⟨b8, 0, none⟩) (some ⟨b9, 0, none⟩) (some ⟨b10, 0, none⟩)) (fun i44 => exW i44 0 (j11 (some ⟨b8, 0, none⟩) (some ⟨b9, 0, none⟩) (some ⟨b10, 0, none⟩)) (nW)) (rdT (rdC b8 0) kS (fun (r48 : ByteArray) => rdT (rdC b9 0) kL (fun r49 => rdT (rdC b10 0) kB (fun r50 =>
 K (.tuple ⟨[.string r48, .slice r49.base r49.len r49.cap, .bool r50]⟩)))))))))))))
theorem c32 (v1 : ByteArray) (v2 : Sl) (v3 : ByteArray) (v4 : ByteArray) (v5 : Option Addr) (v6 : ByteArray) {K : KH} {σ : H} : g32 v1 v2 v3 v4 v5 v6 K σ -> callW Tryz.prog 32 [.agg ⟨[.string v1, .slice v2.base v2.len v2.cap, .string v3, .string v4, .pointer v5]⟩, .string v6] K σ := call_k an32 Tryz.func32 (by kernel_rfl)


def an33 : Ann := (.q (.q .z))
def g33 (v1 : ByteArray) (v2 : Sl) (v3 : ByteArray) (v4 : ByteArray) (v5 : Option Addr) (K : KH) : H -> Prop :=
 alW (.cells ⟨[.string v1, .slice v2.base v2.len v2.cap, .string v3, .string v4, .pointer v5]⟩ 57 (0, 0)) (fun b6 => alW (.cells ⟨[.string ⟨⟨[]⟩⟩, .string ⟨⟨[]⟩⟩, .int .i64 0]⟩ 45 (0, 0)) (fun b7 => rdT (rdC b6 0) kS (fun (x8 : ByteArray) => ifW (x8.size + (⟨⟨[58, 32, 117, 115, 97, 103, 101, 10]⟩⟩ : ByteArray).size <= 9223372036854775807)
 (stW Tryz.prog 45 (.pointer (some ⟨b7, 0, none⟩)) (.agg ⟨[.string ⟨⟨[]⟩⟩, .string (x8 ++ ⟨⟨[58, 32, 117, 115, 97, 103, 101, 10]⟩⟩), .int .i64 2]⟩) (rdT (rdA 3 b7 0) (.one (.agg [.str, .str, (.int .i64)])) (fun (r9 : ByteArray) (r10 : ByteArray) (r11 : Int) => K (.agg ⟨[.string r9, .string r10, .int .i64 r11]⟩)))))))
theorem c33 (v1 : ByteArray) (v2 : Sl) (v3 : ByteArray) (v4 : ByteArray) (v5 : Option Addr) {K : KH} {σ : H} : g33 v1 v2 v3 v4 v5 K σ -> callW Tryz.prog 33 [.agg ⟨[.string v1, .slice v2.base v2.len v2.cap, .string v3, .string v4, .pointer v5]⟩] K σ := call_k an33 Tryz.func33 (by kernel_rfl)

end Go.Proofs.YtpfkfphjigcdeaaGreatDoor

set_option maxRecDepth 100000
namespace Go.Proofs.YtpfkfphjigcdeaaGreatDoor
open Go Go.HL
def an34 : Ann := (.q (.seq (some [(1,.l),(2,.p),(5,.p)]) (.q (.cond .r .z)) (.q (.q (.n (.q (.blk (.loop [(2,.p),(5,.p),(6,.p),(7,.p),(16,.l),(17,.i),(18,.i)] (.q (.n (.cond .z .z) (.seq (some [(2,.p),(5,.p),(6,.p),(7,.p),(16,.l),(17,.i),(18,.i)]) (.blk (.q (.q (.seq (some [(2,.p),(5,.p),(6,.p),(7,.p),(9,.s),(10,.s),(11,.i),(16,.l),(17,.i),(18,.i)]) (.q (.cond .r .z)) (.n (.q (.cond (.n (.reg (rn 16) [[],[0],[],[2],[2,3],[2,3,4],[],[2,3,4,5,6],[2,3,4,5,6,7],[],[9],[2,3,4,5,6,7,8,9,10],[2,3,4,5,6,7,8,9,10,11],(rn 13),(rn 14),(rn 15)]) (.q .z)) .z)) .r))))) .r)))))) (.n (.reg [1,0,2,3] [[],[],[0],[0,1,2]]) .z))))))
def g34 (v1 : ByteArray) (v2 : Sl) (v3 : ByteArray) (v4 : ByteArray) (v5 : Option Addr) (v6 : Sl) (K : KH) : H -> Prop :=
 alW (.cells ⟨[.string v1, .slice v2.base v2.len v2.cap, .string v3, .string v4, .pointer v5]⟩ 57 (0, 0)) (fun b7 => alW (.cells ⟨[.string ⟨⟨[]⟩⟩, .string ⟨⟨[]⟩⟩, .int .i64 0]⟩ 45 (0, 0)) (fun b8 => letJ (T := Sl -> Option Addr -> Option Addr -> H -> Prop) (fun v10 v11 x12 => alW (.cells ⟨[.pointer none, .slice none 0 0]⟩ 111 (0, 0)) (fun b13 => alW (.cells ⟨[.string ⟨⟨[]⟩⟩, .string ⟨⟨[]⟩⟩, .int .i64 0]⟩ 45 (0, 0)) (fun b14 =>
 loopW [.sc .ptr, .sc .ptr, .sc .ptr, .sc .ptr, .sc .slc, .sc (.int .i64), .sc (.int .i64)] (fun (R15 : Option Addr -> Option Addr -> Option Addr -> Option Addr -> Sl -> Int -> Int -> H -> Prop) => (fun (v16 : Option Addr) (x17 : Option Addr) (v18 : Option Addr) (v19 : Option Addr) (x20 : Sl) (x21 : Int) (x22 : Int) => brW (decide ((x22 : Int) < x21)) (letJ (T := Option Addr -> Option Addr -> Option Addr -> Option Addr -> Sl -> Int -> Int -> H -> Prop) (fun v24 x25 v26 v27 x28 x29 x30 =>
 R15 v24 x25 v26 v27 x28 x29 (IntKind.i64.wrap (x30 + 1))) (fun j23 => ptrW x20.base (fun b31 o32 => ifW (0 <= x22 /\ x22 < ((x20.len : Nat) : Int)) (rdT (rdC b31 (o32 + x22.toNat * 1)) kS (fun (x33 : ByteArray) => ptrW v16 (fun b34 o35 => rdT (rdC b34 (o35 + 2)) kS (fun (x36 : ByteArray) => letJ (T := Option Addr -> Option Addr -> Option Addr -> Option Addr -> ByteArray -> ByteArray -> Int -> Sl -> Int -> Int -> H -> Prop) (fun v38 x39 v40 v41 v42 v43 v44 x45 x46 x47 =>
 brW ((v44 : Int) != 0) (ptrW v41 (fun b48 o49 => rdT (rdC b48 (o49 + 1)) kS (fun (x50 : ByteArray) => ptrW v38 (fun b51 o52 => rdT (rdC b51 o52) kS (fun (x53 : ByteArray) => ifW (x53.size + (⟨⟨[58, 32]⟩⟩ : ByteArray).size <= 9223372036854775807) (ifW ((x53 ++ ⟨⟨[58, 32]⟩⟩).size + v42.size <= 9223372036854775807) (ifW (((x53 ++ ⟨⟨[58, 32]⟩⟩) ++ v42).size + (⟨⟨[58, 32]⟩⟩ : ByteArray).size <= 9223372036854775807)
 (callT Tryz.prog 41 [.int .i64 v44] kS (fun (x54 : ByteArray) => andW (fun σ => (rdC b51 o52) σ = some (.string x53)) (andW (fun σ => (rdC b48 (o49 + 1)) σ = some (.string x50)) (ifW ((((x53 ++ ⟨⟨[58, 32]⟩⟩) ++ v42) ++ ⟨⟨[58, 32]⟩⟩).size + x54.size <= 9223372036854775807) (ifW (((((x53 ++ ⟨⟨[58, 32]⟩⟩) ++ v42) ++ ⟨⟨[58, 32]⟩⟩) ++ x54).size + (⟨⟨[10]⟩⟩ : ByteArray).size <= 9223372036854775807)
 (ifW (x50.size + (((((x53 ++ ⟨⟨[58, 32]⟩⟩) ++ v42) ++ ⟨⟨[58, 32]⟩⟩) ++ x54) ++ ⟨⟨[10]⟩⟩).size <= 9223372036854775807) (ptrW v41 (fun b55 o56 => stW Tryz.prog 9 (.pointer (some ⟨b55, o56 + 1, none⟩)) (.string (x50 ++ (((((x53 ++ ⟨⟨[58, 32]⟩⟩) ++ v42) ++ ⟨⟨[58, 32]⟩⟩) ++ x54) ++ ⟨⟨[10]⟩⟩))) (ptrW v41 (fun b57 o58 =>
 stW Tryz.prog 3 (.pointer (some ⟨b57, o58 + 2, none⟩)) (.int .i64 1) (j23 v38 x39 v40 v41 x45 x46 x47)))))))))))))))))) (callT Tryz.prog 70 [.pointer v40, .string v43] (.tup [.sc (.int .i64), .sc .raw]) (fun (_x59 : Int) (_x60 : Value) => j23 v38 x39 v40 v41 x45 x46 x47))) (fun j37 => brW (!strEq x33 (⟨⟨[45]⟩⟩ : ByteArray)) (ptrW v16 (fun b61 o62 => rdT (rdC b61 (o62 + 4)) kP (fun x63 => ptrW v16 (fun b64 o65 => rdT (rdC b64 (o65 + 3)) kS (fun (x66 : ByteArray) =>
 callT Tryz.prog 69 [.pointer x63, .string x66, .string x33] (.tup [.sc .str, .sc (.int .i64)]) (fun (x67 : ByteArray) (x68 : Int) => j37 v16 x17 v18 v19 x33 x67 x68 x20 x21 x22)))))) (j37 v16 x17 v18 v19 x33 x36 0 x20 x21 x22))))))))) (ptrW v19 (fun b69 o70 => rdT (rdA 3 b69 o70) (.one (.agg [.str, .str, (.int .i64)])) (fun (x71 : ByteArray) (x72 : ByteArray) (x73 : Int) => callT Tryz.prog 71 [.pointer v18] kS (fun (x74 : ByteArray) =>
 andW (fun σ => (rdA 3 b69 o70) σ = some (.agg ⟨[.string x71, .string x72, .int .i64 x73]⟩)) (stW Tryz.prog 45 (.pointer x17) (.agg ⟨[.string x71, .string x72, .int .i64 x73]⟩) (ptrW x17 (fun b75 o76 => rdT (rdA 3 b75 o76) (.one (.agg [.str, .str, (.int .i64)])) (fun (r77 : ByteArray) (r78 : ByteArray) (r79 : Int) =>
 K (.tuple ⟨[.string x74, .agg ⟨[.string r77, .string r78, .int .i64 r79]⟩]⟩))))))))))) (fun (R80 : Option Addr -> Option Addr -> Option Addr -> Option Addr -> Sl -> Int -> Int -> H -> Prop) => R80 v11 x12 (some ⟨b13, 0, none⟩) (some ⟨b14, 0, none⟩) v10 ((v10.len : Nat) : Int) 0)))) (fun j9 => brW (((v6.len : Nat) : Int) == 0) (alW (.cells ⟨[.string ⟨⟨[45]⟩⟩]⟩ 9 (0, 0)) (fun b81 => j9 ⟨(some ⟨b81, 0, none⟩), 1, 1⟩ (some ⟨b7, 0, none⟩) (some ⟨b8, 0, none⟩)))
 (j9 v6 (some ⟨b7, 0, none⟩) (some ⟨b8, 0, none⟩)))))
theorem c34 (v1 : ByteArray) (v2 : Sl) (v3 : ByteArray) (v4 : ByteArray) (v5 : Option Addr) (v6 : Sl) {K : KH} {σ : H} : g34 v1 v2 v3 v4 v5 v6 K σ -> callW Tryz.prog 34 [.agg ⟨[.string v1, .slice v2.base v2.len v2.cap, .string v3, .string v4, .pointer v5]⟩, .slice v6.base v6.len v6.cap] K σ := call_k an34 Tryz.func34 (by kernel_rfl)


def an35 : Ann := (.q (.q (.q (.seq (some [(1,.w),(2,.p),(4,.p),(6,.l),(7,.b),(8,.i)]) (.q (.seq (some [(1,.w),(2,.p),(4,.p),(6,.l),(7,.b),(8,.i),(9,.s),(28,.b)]) .r (.cond .r .z))) (.n (.q (.h)) (.q (.q (.q (.q .z)))))))))
def g35 (v1 : ByteArray) (v2 : Sl) (v3 : ByteArray) (v4 : ByteArray) (v5 : Option Addr) (v6 : Value) (K : KH) : H -> Prop :=
 alW (.cells ⟨[.string v1, .slice v2.base v2.len v2.cap, .string v3, .string v4, .pointer v5]⟩ 57 (0, 0)) (fun b7 => alW (.cells ⟨[.string ⟨⟨[]⟩⟩, .string ⟨⟨[]⟩⟩, .int .i64 0]⟩ 45 (0, 0)) (fun b8 => rdT (rdA 5 b7 0) (.one (.agg [.str, .slc, .str, .str, .ptr])) (fun (x9 : ByteArray) (x10 : Sl) (x11 : ByteArray) (x12 : ByteArray) (x13 : Option Addr) =>
 callT Tryz.prog 45 [.agg ⟨[.string x9, .slice x10.base x10.len x10.cap, .string x11, .string x12, .pointer x13]⟩, .string ⟨⟨[110]⟩⟩] (.tup [.sc .map, .sc .slc, .sc .bool]) (fun (x14 : Option Nat) (x15 : Sl) (x16 : Bool) => letJ (T := Value -> Option Addr -> Option Addr -> Sl -> Bool -> Int -> H -> Prop) (fun v18 v19 x20 v21 v22 v23 => brW (!v22) (ptrW v19 (fun b24 o25 =>
 rdT (rdA 5 b24 o25) (.one (.agg [.str, .slc, .str, .str, .ptr])) (fun (x26 : ByteArray) (x27 : Sl) (x28 : ByteArray) (x29 : ByteArray) (x30 : Option Addr) => callT Tryz.prog 33 [.agg ⟨[.string x26, .slice x27.base x27.len x27.cap, .string x28, .string x29, .pointer x30]⟩] (.one (.agg [.str, .str, (.int .i64)])) (fun (x31 : ByteArray) (x32 : ByteArray) (x33 : Int) => stW Tryz.prog 45 (.pointer x20) (.agg ⟨[.string x31, .string x32, .int .i64 x33]⟩) (ptrW x20 (fun b34 o35 =>
 rdT (rdA 3 b34 o35) (.one (.agg [.str, .str, (.int .i64)])) (fun (r36 : ByteArray) (r37 : ByteArray) (r38 : Int) => K (.agg ⟨[.string r36, .string r37, .int .i64 r38]⟩)))))))) (ptrW v19 (fun b39 o40 => rdT (rdA 5 b39 o40) (.one (.agg [.str, .slc, .str, .str, .ptr])) (fun (x41 : ByteArray) (x42 : Sl) (x43 : ByteArray) (x44 : ByteArray) (x45 : Option Addr) =>
 callT Tryz.prog 34 [.agg ⟨[.string x41, .slice x42.base x42.len x42.cap, .string x43, .string x44, .pointer x45]⟩, .slice v21.base v21.len v21.cap] (.tup [.sc .str, .agg [.str, .str, (.int .i64)]]) (fun (x46 : ByteArray) (x47 : ByteArray) (x48 : ByteArray) (x49 : Int) => alW (.cells ⟨[.string ⟨⟨[]⟩⟩, .string ⟨⟨[]⟩⟩, .int .i64 0]⟩ 45 (0, 0)) (fun b50 =>
 stW Tryz.prog 45 (.pointer (some ⟨b50, 0, none⟩)) (.agg ⟨[.string x47, .string x48, .int .i64 x49]⟩) (callT Tryz.prog 51 [.string x46] kL (fun x51 => cvalT Tryz.prog v18 [.slice x51.base x51.len x51.cap, .int .i64 (if ((x51.len : Nat) : Int) < v23 then ((x51.len : Nat) : Int) else v23)] kL (fun x52 => callT Tryz.prog 52 [.slice x52.base x52.len x52.cap] kS (fun (x53 : ByteArray) =>
 stW Tryz.prog 9 (.pointer (some ⟨b50, 0, none⟩)) (.string x53) (rdT (rdA 3 b50 0) (.one (.agg [.str, .str, (.int .i64)])) (fun (x54 : ByteArray) (x55 : ByteArray) (x56 : Int) => stW Tryz.prog 45 (.pointer x20) (.agg ⟨[.string x54, .string x55, .int .i64 x56]⟩) (ptrW x20 (fun b57 o58 => rdT (rdA 3 b57 o58) (.one (.agg [.str, .str, (.int .i64)])) (fun (r59 : ByteArray) (r60 : ByteArray) (r61 : Int) => K (.agg ⟨[.string r59, .string r60, .int .i64 r61]⟩)))))))))))))))) (fun j17 =>
 rdT (rdM (.int .u8) (.string ⟨⟨[]⟩⟩) true x14 (.int .u8 110)) (.tup [.sc .str, .sc .bool]) (fun (x62 : ByteArray) (x63 : Bool) => letJ (T := Value -> Option Addr -> Option Addr -> Sl -> Bool -> Int -> ByteArray -> Bool -> H -> Prop) (fun v65 v66 x67 v68 v69 v70 v71 x72 => brW x72 (callT Tryz.prog 72 [.string v71] (.tup [.sc (.int .i64), .sc .bool]) (fun (x73 : Int) (x74 : Bool) => j17 v65 v66 x67 v68 x74 x73))
 (j17 v65 v66 x67 v68 v69 v70)) (fun j64 => brW x16 (j64 v6 (some ⟨b7, 0, none⟩) (some ⟨b8, 0, none⟩) x15 x16 10 x62 x63) (j64 v6 (some ⟨b7, 0, none⟩) (some ⟨b8, 0, none⟩) x15 x16 10 x62 false))))))))
theorem c35 (v1 : ByteArray) (v2 : Sl) (v3 : ByteArray) (v4 : ByteArray) (v5 : Option Addr) (v6 : Value) {K : KH} {σ : H} : g35 v1 v2 v3 v4 v5 v6 K σ -> callW Tryz.prog 35 [.agg ⟨[.string v1, .slice v2.base v2.len v2.cap, .string v3, .string v4, .pointer v5]⟩, v6] K σ := call_k an35 Tryz.func35 (by kernel_rfl)


def an36 : Ann := (.q (.q .z))
def g36 (v1 : Sl) (v2 : Int) (K : KH) : H -> Prop :=
 ifW (bndOk (some v2) v1.cap /\ bndOk none v2.toNat) (K (.slice (slBase v1.base 0 v1.cap 1) (v2.toNat - 0) (v1.cap - 0)))
theorem c36 (v1 : Sl) (v2 : Int) {K : KH} {σ : H} : g36 v1 v2 K σ -> callW Tryz.prog 36 [.slice v1.base v1.len v1.cap, .int .i64 v2] K σ := call_k an36 Tryz.func36 (by kernel_rfl)


def an37 : Ann := (.q (.q .z))
def g37 (v1 : Sl) (v2 : Int) (K : KH) : H -> Prop :=
 ifW (bndOk none v1.cap /\ bndOk (some (IntKind.i64.wrap (((v1.len : Nat) : Int) - v2))) v1.len) (K (.slice (slBase v1.base ((IntKind.i64.wrap (((v1.len : Nat) : Int) - v2)).toNat) v1.cap 1) (v1.len - ((IntKind.i64.wrap (((v1.len : Nat) : Int) - v2)).toNat)) (v1.cap - ((IntKind.i64.wrap (((v1.len : Nat) : Int) - v2)).toNat))))
theorem c37 (v1 : Sl) (v2 : Int) {K : KH} {σ : H} : g37 v1 v2 K σ -> callW Tryz.prog 37 [.slice v1.base v1.len v1.cap, .int .i64 v2] K σ := call_k an37 Tryz.func37 (by kernel_rfl)


def an38 : Ann := (.q (.q .z))
def g38 (v1 : Int) (K : KH) : H -> Prop :=
 brW ((v1 : Int) == 32) (K (.bool true)) (brW ((v1 : Int) == 9) (K (.bool true)) (K (.bool ((v1 : Int) == 10))))
theorem c38 (v1 : Int) {K : KH} {σ : H} : g38 v1 K σ -> callW Tryz.prog 38 [.int .i32 v1] K σ := call_k an38 Tryz.func38 (by kernel_rfl)


def an39 : Ann := (.q (.q (.q (.n (.q (.blk (.loop [(0,.s),(1,.w),(5,.l),(6,.i),(14,.p)] (.q (.n (.cond .z .z) (.blk (.q (.q (.cond (.q (.cond (.q .r) .z)) (.q (.cond .r .z))))))))))) (.seq (some [(0,.s),(5,.l)]) (.q (.cond .r .z)) (.q (.n (.q (.blk (.loop [(0,.s),(9,.l),(47,.l),(48,.i),(49,.i)] (.q (.n (.cond .z .z) (.n (.blk (.q .r)) .r)))))) (.q .z))))))))
def g39 (v1 : ByteArray) (v2 : Value) (K : KH) : H -> Prop :=
 vaW Tryz.prog (Instr.makeSlice 122 (.int .i64 0) (.int .i64 32)) kL (fun x3 => vaW Tryz.prog (Instr.range 9 (.string v1)) kP (fun x4 => loopW [.sc .str, .sc .raw, .sc .slc, .sc (.int .i64), .sc .ptr] (fun (R5 : ByteArray -> Value -> Sl -> Int -> Option Addr -> H -> Prop) => (fun (v6 : ByteArray) (v7 : Value) (v8 : Sl) (v9 : Int) (x10 : Option Addr) =>
 vaW Tryz.prog (Instr.next (.pointer x10) true 0) (.opt [.sc (.int .i64), .sc (.int .i32)]) (letJ (T := ByteArray -> Sl -> H -> Prop) (fun v12 v13 => vaW Tryz.prog (Instr.makeSlice 26 (.int .i64 ((v13.len : Nat) : Int)) (.int .i64 ((v13.len : Nat) : Int))) kL (fun x14 => loopW [.sc .str, .sc .slc, .sc .slc, .sc (.int .i64), .sc (.int .i64)] (fun (R15 : ByteArray -> Sl -> Sl -> Int -> Int -> H -> Prop) => (fun (v16 : ByteArray) (v17 : Sl) (x18 : Sl) (x19 : Int) (x20 : Int) =>
 brW (decide ((x20 : Int) < x19)) (ptrW x18.base (fun b21 o22 => ifW (0 <= x20 /\ x20 < ((x18.len : Nat) : Int)) (rdT (rdA 2 b21 (o22 + x20.toNat * 2)) (.one (.agg [(.int .i64), (.int .i64)])) (fun (x23 : Int) (x24 : Int) => alW (.cells ⟨[.int .i64 0, .int .i64 0]⟩ 124 (0, 0)) (fun b25 => stW Tryz.prog 124 (.pointer (some ⟨b25, 0, none⟩)) (.agg ⟨[.int .i64 x23, .int .i64 x24]⟩) (rdT (rdC b25 0) kI (fun (x26 : Int) => rdT (rdC b25 1) kI (fun (x27 : Int) =>
 ifW (bndOk (some x27) v16.size /\ bndOk (some x26) (x27.toNat)) (ptrW v17.base (fun b28 o29 => ifW (0 <= x20 /\ x20 < ((v17.len : Nat) : Int)) (stW Tryz.prog 9 (.pointer (some ⟨b28, o29 + x20.toNat * 1, none⟩)) (.string (v16.extract x26.toNat x27.toNat)) (R15 v16 v17 x18 x19 (IntKind.i64.wrap (x20 + 1)))))))))))))) (K (.slice v17.base v17.len v17.cap)))) (fun (R30 : ByteArray -> Sl -> Sl -> Int -> Int -> H -> Prop) => R30 v12 x14 v13 ((v13.len : Nat) : Int) 0))) (fun j11 =>
 brW (decide ((v9 : Int) >= 0)) (alW (.cells ⟨[.int .i64 v9, .int .i64 ((v6.size : Nat) : Int)]⟩ 124 (0, 0)) (fun b31 => biW Tryz.prog .append #[122, 122] 122 [false, false] [.slice v8.base v8.len v8.cap, .slice (some ⟨b31, 0, none⟩) 1 1] kL (fun x32 => j11 v6 x32))) (j11 v6 v8)), (fun (x33 : Int) (x34 : Int) => cvalT Tryz.prog v7 [.int .i32 x34] kB (fun x35 => brW x35 (brW (decide ((v9 : Int) >= 0))
 (alW (.cells ⟨[.int .i64 v9, .int .i64 x33]⟩ 124 (0, 0)) (fun b36 => biW Tryz.prog .append #[122, 122] 122 [false, false] [.slice v8.base v8.len v8.cap, .slice (some ⟨b36, 0, none⟩) 1 1] kL (fun x37 => R5 v6 v7 x37 (bitV .xor .i64 (-1) v9) x10))) (R5 v6 v7 v8 v9 x10)) (brW (decide ((v9 : Int) < 0)) (R5 v6 v7 v8 x33 x10)
 (R5 v6 v7 v8 v9 x10))))))) (fun (R38 : ByteArray -> Value -> Sl -> Int -> Option Addr -> H -> Prop) => R38 v1 v2 x3 (-1) x4)))
theorem c39 (v1 : ByteArray) (v2 : Value) {K : KH} {σ : H} : g39 v1 v2 K σ -> callW Tryz.prog 39 [.string v1, v2] K σ := call_k an39 Tryz.func39 (by kernel_rfl)


def an40 : Ann := (.q (.q .z))
def g40 (v1 : ByteArray) (v2 : Int) (K : KH) : H -> Prop :=
 callT Tryz.prog 73 [.string v1, .int .u8 v2] kI (fun (x3 : Int) => K (.int .i64 x3))
theorem c40 (v1 : ByteArray) (v2 : Int) {K : KH} {σ : H} : g40 v1 v2 K σ -> callW Tryz.prog 40 [.string v1, .int .u8 v2] K σ := call_k an40 Tryz.func40 (by kernel_rfl)


def an42 : Ann := (.q (.n (.q (.blk (.q (.cond (.q .z) (.q (.h)))))) (.q (.seq (some [(0,.l),(1,.s),(5,.i)]) (.q (.cond (.n (.q (.cond .r .z)) .r) .z)) (.n (.q (.blk (.loop [(0,.l),(1,.s),(5,.i),(39,.l),(40,.i),(41,.i)] (.q (.n (.cond .z .z) (.n (.blk (.q (.n (.q (.cond .r .z)) .r))) .r)))))) (.q (.q (.q (.n (.q (.blk (.loop [(1,.s),(8,.p),(63,.l),(64,.i),(65,.i)] (.q (.n (.cond .z .z) (.n (.blk (.q (.q .r))) .r)))))) (.q .z))))))))))
def g42 (v1 : Sl) (v2 : ByteArray) (K : KH) : H -> Prop :=
 brW (((v1.len : Nat) : Int) == 0) (K (.string ⟨⟨[]⟩⟩)) (brW (((v1.len : Nat) : Int) == 1) (ptrW v1.base (fun b3 o4 => ifW (0 <= (0 : Int) /\ (0 : Int) < ((v1.len : Nat) : Int)) (rdT (rdC b3 (o4 + (0 : Int).toNat * 1)) kS (fun (x5 : ByteArray) => K (.string x5))))) (letJ (T := Sl -> ByteArray -> Int -> H -> Prop) (fun v7 v8 v9 =>
 loopW [.sc .slc, .sc .str, .sc (.int .i64), .sc .slc, .sc (.int .i64), .sc (.int .i64)] (fun (R10 : Sl -> ByteArray -> Int -> Sl -> Int -> Int -> H -> Prop) => (fun (v11 : Sl) (v12 : ByteArray) (v13 : Int) (x14 : Sl) (x15 : Int) (x16 : Int) => brW (decide ((x16 : Int) < x15)) (ptrW x14.base (fun b17 o18 => ifW (0 <= x16 /\ x16 < ((x14.len : Nat) : Int)) (rdT (rdC b17 (o18 + x16.toNat * 1)) kS (fun (x19 : ByteArray) =>
 brW (decide (((x19.size : Nat) : Int) > (IntKind.i64.wrap (9223372036854775807 - v13)))) (nW) (R10 v11 v12 (IntKind.i64.wrap (v13 + ((x19.size : Nat) : Int))) x14 x15 (IntKind.i64.wrap (x16 + 1))))))) (alW (.cells ⟨[.pointer none, .slice none 0 0]⟩ 111 (0, 0)) (fun b20 => callT Tryz.prog 75 [.pointer (some ⟨b20, 0, none⟩), .int .i64 v13] kU (ptrW v11.base (fun b21 o22 => ifW (0 <= (0 : Int) /\ (0 : Int) < ((v11.len : Nat) : Int))
 (rdT (rdC b21 (o22 + (0 : Int).toNat * 1)) kS (fun (x23 : ByteArray) => callT Tryz.prog 70 [.pointer (some ⟨b20, 0, none⟩), .string x23] (.tup [.sc (.int .i64), .sc .raw]) (fun (_x24 : Int) (_x25 : Value) => ifW (bndOk none v11.cap /\ bndOk (some 1) v11.len) (loopW [.sc .str, .sc .ptr, .sc .slc, .sc (.int .i64), .sc (.int .i64)] (fun (R26 : ByteArray -> Option Addr -> Sl -> Int -> Int -> H -> Prop) => (fun (v27 : ByteArray) (v28 : Option Addr) (x29 : Sl) (x30 : Int) (x31 : Int) =>
 brW (decide ((x31 : Int) < x30)) (ptrW x29.base (fun b32 o33 => ifW (0 <= x31 /\ x31 < ((x29.len : Nat) : Int)) (rdT (rdC b32 (o33 + x31.toNat * 1)) kS (fun (x34 : ByteArray) => callT Tryz.prog 70 [.pointer v28, .string v27] (.tup [.sc (.int .i64), .sc .raw]) (fun (_x35 : Int) (_x36 : Value) => callT Tryz.prog 70 [.pointer v28, .string x34] (.tup [.sc (.int .i64), .sc .raw]) (fun (_x37 : Int) (_x38 : Value) => R26 v27 v28 x29 x30 (IntKind.i64.wrap (x31 + 1))))))))
 (callT Tryz.prog 71 [.pointer v28] kS (fun (x39 : ByteArray) =>
 K (.string x39))))) (fun (R40 : ByteArray -> Option Addr -> Sl -> Int -> Int -> H -> Prop) => R40 v12 (some ⟨b20, 0, none⟩) ⟨slBase v11.base ((1 : Int).toNat) v11.cap 1, v11.len - ((1 : Int).toNat), v11.cap - ((1 : Int).toNat)⟩ ((v11.len - ((1 : Int).toNat) : Nat) : Int) 0))))))))))) (fun (R41 : Sl -> ByteArray -> Int -> Sl -> Int -> Int -> H -> Prop) => R41 v7 v8 v9 v7 ((v7.len : Nat) : Int) 0)) (fun j6 => brW (decide (((v2.size : Nat) : Int) > 0))
 (ifW ((IntKind.i64.wrap (((v1.len : Nat) : Int) - 1)) ≠ 0) (brW (decide (((v2.size : Nat) : Int) >= (IntKind.i64.wrap (Int.tdiv 9223372036854775807 (IntKind.i64.wrap (((v1.len : Nat) : Int) - 1)))))) (nW) (j6 v1 v2 (IntKind.i64.wrap (0 + (IntKind.i64.wrap (((v2.size : Nat) : Int) * (IntKind.i64.wrap (((v1.len : Nat) : Int) - 1))))))))) (j6 v1 v2 0))))
theorem c42 (v1 : Sl) (v2 : ByteArray) {K : KH} {σ : H} : g42 v1 v2 K σ -> callW Tryz.prog 42 [.slice v1.base v1.len v1.cap, .string v2] K σ := call_k an42 Tryz.func42 (by kernel_rfl)


def an43 : Ann := (.q (.q (.n (.q (.blk (.loop [(0,.s),(2,.l),(4,.l),(5,.i)] (.n (.q (.cond .z .z)) (.n (.blk (.q (.seq (some [(0,.s),(2,.l),(4,.l),(5,.i),(6,.p)]) (.seq (some [(0,.s),(2,.l),(4,.l),(5,.i),(6,.p),(29,.b)]) .r (.cond (.q (.q (.cond (.q .r) .z))) .z)) .r))) .r))))) (.n (.blk (.loop [(2,.l),(4,.l)] (.n (.q (.cond .z .z)) (.blk (.n (.seq (some [(2,.l),(4,.l),(58,.b)]) .r (.cond (.n (.reg (rn 11) [[],[],[1],[1,2],[1,2,3],[1,2,3,4],(rn 6),[],[7],(rn 7),(rn 10)]) .z) .z)) (.n (.n (.reg (rn 9) [[],[0],[0,1],[0,1,2],[],[4],[4,5],[4,5,6],(rn 8)]) (.h)) (.n (.q (.blk (.loop [(2,.l),(4,.l),(8,.i)] (.n (.q (.cond .z .z)) (.n (.blk .r) .r))))) .r))))))) (.q .z)))))
def g43 (v1 : ByteArray) (K : KH) : H -> Prop :=
 loopW [.sc .str, .sc .slc, .sc .slc, .sc (.int .i64)] (fun (R2 : ByteArray -> Sl -> Sl -> Int -> H -> Prop) => (fun (v3 : ByteArray) (v4 : Sl) (v5 : Sl) (v6 : Int) => brW (decide ((v6 : Int) < ((v3.size : Nat) : Int))) (idxW v3 v6 (fun ch7 => alW (.cells ⟨[.int .u8 0, .bool false]⟩ 128 (0, 0)) (fun b8 =>
 stW Tryz.prog 128 (.pointer (some ⟨b8, 0, none⟩)) (.agg ⟨[.int .u8 (ch7.toNat : Int), .bool true]⟩) (letJ (T := ByteArray -> Sl -> Sl -> Int -> Option Addr -> H -> Prop) (fun v10 v11 v12 v13 v14 => ptrW v14 (fun b15 o16 => rdT (rdA 2 b15 o16) (.one (.agg [(.int .u8), .bool])) (fun (x17 : Int) (x18 : Bool) => alW (.cells ⟨[.int .u8 x17, .bool x18]⟩ 128 (0, 0)) (fun b19 =>
 biW Tryz.prog .append #[126, 126] 126 [false, false] [.slice v12.base v12.len v12.cap, .slice (some ⟨b19, 0, none⟩) 1 1] kL (fun x20 => R2 v10 v11 x20 (IntKind.i64.wrap (v13 + 1))))))) (fun j9 => letJ (T := ByteArray -> Sl -> Sl -> Int -> Option Addr -> Bool -> H -> Prop) (fun v22 v23 v24 v25 v26 x27 => brW x27 (idxW v22 (IntKind.i64.wrap (v25 + 1)) (fun ch28 => callT Tryz.prog 40 [.string ⟨⟨[110, 116, 92]⟩⟩, .int .u8 (ch28.toNat : Int)] kI (fun (x29 : Int) =>
 brW (decide ((x29 : Int) >= 0)) (idxW (⟨⟨[10, 9, 92]⟩⟩ : ByteArray) x29 (fun ch30 => stW Tryz.prog 128 (.pointer v26) (.agg ⟨[.int .u8 (ch30.toNat : Int), .bool false]⟩) (j9 v22 v23 v24 (IntKind.i64.wrap (v25 + 1)) v26))) (j9 v22 v23 v24 v25 v26)))) (j9 v22 v23 v24 v25 v26)) (fun j21 => idxW v3 v6 (fun ch31 => brW ((ch31.toNat : Int) == 92) (j21 v3 v4 v5 v6 (some ⟨b8, 0, none⟩) (decide (((IntKind.i64.wrap (v6 + 1)) : Int) < ((v3.size : Nat) : Int))))
 (j21 v3 v4 v5 v6 (some ⟨b8, 0, none⟩) false)))))))) (loopW [.sc .slc, .sc .slc] (fun (R32 : Sl -> Sl -> H -> Prop) => (fun v33 v34 => brW (decide (((v34.len : Nat) : Int) > 0)) (letJ (T := Sl -> Sl -> Bool -> H -> Prop) (fun v36 v37 x38 => brW x38 (ptrW v37.base (fun b39 o40 => ifW (0 <= (0 : Int) /\ (0 : Int) < ((v37.len : Nat) : Int)) (rdT (rdC b39 (o40 + (0 : Int).toNat * 2)) kC (fun (x41 : Int) => alW (.cells ⟨[.int .u8 x41]⟩ 5 (0, 0)) (fun b42 =>
 biW Tryz.prog .append #[22, 22] 22 [false, false] [.slice v36.base v36.len v36.cap, .slice (some ⟨b42, 0, none⟩) 1 1] kL (fun x43 => ifW (bndOk none v37.cap /\ bndOk (some 1) v37.len) (R32 x43 ⟨slBase v37.base ((1 : Int).toNat) v37.cap 2, v37.len - ((1 : Int).toNat), v37.cap - ((1 : Int).toNat)⟩))))))) (ptrW v37.base (fun b44 o45 => ifW (0 <= (0 : Int) /\ (0 : Int) < ((v37.len : Nat) : Int)) (rdT (rdC b44 (o45 + (0 : Int).toNat * 2)) kC (fun (x46 : Int) =>
 ptrW v37.base (fun b47 o48 => ifW (0 <= (2 : Int) /\ (2 : Int) < ((v37.len : Nat) : Int)) (rdT (rdC b47 (o48 + (2 : Int).toNat * 2)) kC (fun (x49 : Int) => brW (decide ((x46 : Int) > x49)) (K (.tuple ⟨[.slice none 0 0, .bool false]⟩)) (ptrW v37.base (fun b50 o51 => ifW (0 <= (0 : Int) /\ (0 : Int) < ((v37.len : Nat) : Int)) (rdT (rdC b50 (o51 + (0 : Int).toNat * 2)) kC (fun (x52 : Int) =>
 loopW [.sc .slc, .sc .slc, .sc (.int .i64)] (fun (R53 : Sl -> Sl -> Int -> H -> Prop) => (fun (v54 : Sl) (v55 : Sl) (v56 : Int) => ptrW v55.base (fun b57 o58 => ifW (0 <= (2 : Int) /\ (2 : Int) < ((v55.len : Nat) : Int)) (rdT (rdC b57 (o58 + (2 : Int).toNat * 2)) kC (fun (x59 : Int) => brW (decide ((v56 : Int) <= (IntKind.i64.wrap x59))) (alW (.cells ⟨[.int .u8 (IntKind.u8.wrap v56)]⟩ 5 (0, 0)) (fun b60 =>
 biW Tryz.prog .append #[22, 22] 22 [false, false] [.slice v54.base v54.len v54.cap, .slice (some ⟨b60, 0, none⟩) 1 1] kL (fun x61 => R53 x61 v55 (IntKind.i64.wrap (v56 + 1))))) (ifW (bndOk none v55.cap /\ bndOk (some 3) v55.len) (R32 v54 ⟨slBase v55.base ((3 : Int).toNat) v55.cap 2, v55.len - ((3 : Int).toNat), v55.cap - ((3 : Int).toNat)⟩))))))) (fun (R62 : Sl -> Sl -> Int -> H -> Prop) => R62 v36 v37 (IntKind.i64.wrap x52)))))))))))))) (fun j35 =>
 brW (decide (((v34.len : Nat) : Int) < 3)) (j35 v33 v34 true) (ptrW v34.base (fun b63 o64 => ifW (0 <= (1 : Int) /\ (1 : Int) < ((v34.len : Nat) : Int)) (rdT (rdA 2 b63 (o64 + (1 : Int).toNat * 2)) (.one (.agg [(.int .u8), .bool])) (fun (x65 : Int) (x66 : Bool) => j35 v33 v34 (!(((x65 : Int) == 45) && ((x66 == true) && true)))))))))
 (K (.tuple ⟨[.slice v33.base v33.len v33.cap, .bool (decide (((v33.len : Nat) : Int) > 0))]⟩)))) (fun (R67 : Sl -> Sl -> H -> Prop) => R67 v4 v5)))) (fun (R68 : ByteArray -> Sl -> Sl -> Int -> H -> Prop) => R68 v1 ⟨none, 0, 0⟩ ⟨none, 0, 0⟩ 0)
theorem c43 (v1 : ByteArray) {K : KH} {σ : H} : g43 v1 K σ -> callW Tryz.prog 43 [.string v1] K σ := call_k an43 Tryz.func43 (by kernel_rfl)


def an44 : Ann := (.q (.n (.q (.blk (.loop [(0,.l),(1,.sc (.int .u8)),(7,.i),(8,.i)] (.q (.n (.cond .z .z) (.n (.blk (.q (.q (.h)))) .r)))))) (.q .z)))
def g44 (v1 : Sl) (v2 : Int) (K : KH) : H -> Prop :=
 loopW [.sc .slc, .sc (.int .u8), .sc (.int .i64), .sc (.int .i64)] (fun (R3 : Sl -> Int -> Int -> Int -> H -> Prop) => (fun (v4 : Sl) (v5 : Int) (x6 : Int) (x7 : Int) => brW (decide ((x7 : Int) < x6)) (ptrW v4.base (fun b8 o9 => ifW (0 <= x7 /\ x7 < ((v4.len : Nat) : Int)) (rdT (rdC b8 (o9 + x7.toNat * 1)) kC (fun (x10 : Int) => brW ((v5 : Int) == x10) (K (.int .i64 x7)) (R3 v4 v5 x6 (IntKind.i64.wrap (x7 + 1)))))))
 (K (.int .i64 (-1))))) (fun (R11 : Sl -> Int -> Int -> Int -> H -> Prop) => R11 v1 v2 ((v1.len : Nat) : Int) 0)
theorem c44 (v1 : Sl) (v2 : Int) {K : KH} {σ : H} : g44 v1 v2 K σ -> callW Tryz.prog 44 [.slice v1.base v1.len v1.cap, .int .u8 v2] K σ := call_k an44 Tryz.func44 (by kernel_rfl)


def an45 : Ann := (.q (.q (.seq (some [(4,.p),(5,.p),(6,.p)]) (.q (.blk (.rf [.agg [(.int .u8),.str,.bool]] .r (.blk (.n (.q (.h)) .r))))) (.n (.reg (rn 5) [[],[],[0],[0,1,2],(rn 4)]) .z))))
def g45 (v1 : ByteArray) (v2 : Sl) (v3 : ByteArray) (v4 : ByteArray) (v5 : Option Addr) (v6 : ByteArray) (K : KH) : H -> Prop :=
 alW (.cells ⟨[.string v1, .slice v2.base v2.len v2.cap, .string v3, .string v4, .pointer v5]⟩ 57 (0, 0)) (fun b7 => alW (.cells ⟨[.map none]⟩ 85 (0, 0)) (fun b8 => alW (.cells ⟨[.slice none 0 0]⟩ 26 (0, 0)) (fun b9 => alW (.cells ⟨[.bool false]⟩ 4 (0, 0)) (fun b10 => alW (.map #[] 0) (fun b11 => stW Tryz.prog 85 (.pointer (some ⟨b8, 0, none⟩)) (.map (some b11)) (letJ (T := Option Addr -> Option Addr -> Option Addr -> H -> Prop) (fun v13 v14 v15 => ptrW v13 (fun b16 o17 =>
 rdT (rdC b16 o17) kM (fun (x18 : Option Nat) => ptrW v14 (fun b19 o20 => rdT (rdC b19 o20) kL (fun x21 => stW Tryz.prog 85 (.pointer v13) (.map x18) (andW (fun σ => (rdC b19 o20) σ = some (.slice x21.base x21.len x21.cap)) (stW Tryz.prog 26 (.pointer v14) (.slice x21.base x21.len x21.cap) (stW Tryz.prog 4 (.pointer v15) (.bool true) (ptrW v13 (fun b22 o23 => rdT (rdC b22 o23) kM (fun (r24 : Option Nat) => ptrW v14 (fun b25 o26 => rdT (rdC b25 o26) kL (fun r27 =>
 ptrW v15 (fun b28 o29 => rdT (rdC b28 o29) kB (fun r30 => K (.tuple ⟨[.map r24, .slice r27.base r27.len r27.cap, .bool r30]⟩)))))))))))))))) (fun j12 => rdT (rdC b7 1) kL (fun x31 => callT Tryz.prog 68 [.slice x31.base x31.len x31.cap, .string ⟨⟨[]⟩⟩, .string v6, .pointer (some ⟨b9, 0, none⟩)] kR (fun x32 => funW x32 (fun (g45 : FuncId) (as46 cs47 : List Value) =>
 rfW Tryz.prog none g45 as46 cs47 [.agg [(.int .u8), .str, .bool]] (fun (l33 : Nat) (obj34 : LoopState -> Option Code -> Obj) (K35 : Value -> H -> Prop) => (fun (x36 : Int) (x37 : ByteArray) (x38 : Bool) => alW (.cells ⟨[.int .u8 0, .string ⟨⟨[]⟩⟩, .bool false]⟩ 108 (0, 0)) (fun b39 => stW Tryz.prog 108 (.pointer (some ⟨b39, 0, none⟩)) (.agg ⟨[.int .u8 x36, .string x37, .bool x38]⟩) (begW l33 obj34 (rdT (rdC b39 2) kB (fun x40 => brW x40
 (stW Tryz.prog 85 (.pointer (some ⟨b8, 0, none⟩)) (.map none) (stW Tryz.prog 26 (.pointer (some ⟨b9, 0, none⟩)) (.slice none 0 0) (stW Tryz.prog 4 (.pointer (some ⟨b10, 0, none⟩)) (.bool false) (roundK l33 obj34 K35 (some .ret) false .done)))) (rdT (rdC b8 0) kM (fun (x41 : Option Nat) => rdT (rdC b39 0) kC (fun (x42 : Int) => rdT (rdC b39 1) kS (fun (x43 : ByteArray) => muW Tryz.prog 85 (.map x41) (.int .u8 x42) (.string x43) (roundK l33 obj34 K35 none true .ready)))))))))))
 (j12 (some ⟨b8, 0, none⟩) (some ⟨b9, 0, none⟩) (some ⟨b10, 0, none⟩)) (fun i44 => exW i44 0 (j12 (some ⟨b8, 0, none⟩) (some ⟨b9, 0, none⟩) (some ⟨b10, 0, none⟩)) (nW)) (rdT (rdC b8 0) kM (fun (r48 : Option Nat) => rdT (rdC b9 0) kL (fun r49 => rdT (rdC b10 0) kB (fun r50 => K (.tuple ⟨[.map r48, .slice r49.base r49.len r49.cap, .bool r50]⟩)))))))))))))))
theorem c45 (v1 : ByteArray) (v2 : Sl) (v3 : ByteArray) (v4 : ByteArray) (v5 : Option Addr) (v6 : ByteArray) {K : KH} {σ : H} : g45 v1 v2 v3 v4 v5 v6 K σ -> callW Tryz.prog 45 [.agg ⟨[.string v1, .slice v2.base v2.len v2.cap, .string v3, .string v4, .pointer v5]⟩, .string v6] K σ := call_k an45 Tryz.func45 (by kernel_rfl)


def an46 : Ann := (.q (.seq (some [(2,.p),(3,.p)]) (.q (.blk (.rf [.s] .r (.blk (.q (.q (.q (.seq (some [(2,.p),(3,.p),(4,.s),(5,.s),(6,.s),(7,.b),(8,.p),(9,.b)]) (.q (.cond .r .z)) (.seq (some [(2,.p),(3,.p),(4,.s),(6,.s),(7,.b),(8,.p),(9,.b)]) (.seq (some [(2,.p),(3,.p),(4,.s),(5,.s),(6,.s),(7,.b),(8,.p),(9,.b),(29,.b)]) .r (.cond .r .z)) (.seq (some [(2,.p),(3,.p),(4,.s),(7,.b),(8,.p),(9,.b)]) (.seq (some [(2,.p),(3,.p),(4,.s),(6,.s),(7,.b),(8,.p),(9,.b),(40,.b)]) .r (.cond .r .z)) (.n (.seq (some [(2,.p),(3,.p),(8,.p),(68,.b)]) .r (.h)) .r))))))))))) (.q .z)))
def g46 (v1 : ByteArray) (K : KH) : H -> Prop :=
 alW (.cells ⟨[.slice none 0 0]⟩ 89 (0, 0)) (fun b2 => alW (.cells ⟨[.bool false]⟩ 4 (0, 0)) (fun b3 => letJ (T := Option Addr -> Option Addr -> H -> Prop) (fun v5 v6 => ptrW v5 (fun b7 o8 => rdT (rdC b7 o8) kL (fun x9 => stW Tryz.prog 89 (.pointer v5) (.slice x9.base x9.len x9.cap) (stW Tryz.prog 4 (.pointer v6) (.bool true) (ptrW v5 (fun b10 o11 => rdT (rdC b10 o11) kL (fun r12 => ptrW v6 (fun b13 o14 => rdT (rdC b13 o14) kB (fun r15 =>
 K (.tuple ⟨[.slice r12.base r12.len r12.cap, .bool r15]⟩)))))))))) (fun j4 => callT Tryz.prog 76 [.string v1, .string ⟨⟨[44]⟩⟩] kR (fun x16 => funW x16 (fun (g109 : FuncId) (as110 cs111 : List Value) => rfW Tryz.prog none g109 as110 cs111 [.sc .str] (fun (l17 : Nat) (obj18 : LoopState -> Option Code -> Obj) (K19 : Value -> H -> Prop) => (fun (x20 : ByteArray) =>
 begW l17 obj18 (callT Tryz.prog 77 [.string x20, .string ⟨⟨[45]⟩⟩] (.tup [.sc .str, .sc .str, .sc .bool]) (fun (x21 : ByteArray) (x22 : ByteArray) (x23 : Bool) => alW (.cells ⟨[.int .i64 0, .int .i64 0]⟩ 135 (0, 0)) (fun b24 =>
 stW Tryz.prog 135 (.pointer (some ⟨b24, 0, none⟩)) (.agg ⟨[.int .i64 1, .int .i64 9223372036854775807]⟩) (letJ (T := Option Addr -> Option Addr -> ByteArray -> ByteArray -> ByteArray -> Bool -> Option Addr -> Bool -> H -> Prop) (fun v26 v27 v28 v29 v30 v31 v32 v33 => letJ (T := Option Addr -> Option Addr -> ByteArray -> ByteArray -> Bool -> Option Addr -> Bool -> H -> Prop) (fun v35 v36 v37 v38 v39 v40 v41 =>
 letJ (T := Option Addr -> Option Addr -> ByteArray -> Bool -> Option Addr -> Bool -> H -> Prop) (fun v43 v44 v45 v46 v47 v48 => letJ (T := Option Addr -> Option Addr -> Option Addr -> Bool -> H -> Prop) (fun v50 v51 v52 x53 => brW x53 (stW Tryz.prog 89 (.pointer v50) (.slice none 0 0) (stW Tryz.prog 4 (.pointer v51) (.bool false) (roundK l17 obj18 K19 (some .ret) false .done))) (ptrW v50 (fun b54 o55 => rdT (rdC b54 o55) kL (fun x56 => ptrW v52 (fun b57 o58 =>
 rdT (rdA 2 b57 o58) (.one (.agg [(.int .i64), (.int .i64)])) (fun (x59 : Int) (x60 : Int) => alW (.cells ⟨[.int .i64 x59, .int .i64 x60]⟩ 135 (0, 0)) (fun b61 => biW Tryz.prog .append #[89, 89] 89 [false, false] [.slice x56.base x56.len x56.cap, .slice (some ⟨b61, 0, none⟩) 1 1] kL (fun x62 => stW Tryz.prog 89 (.pointer v50) (.slice x62.base x62.len x62.cap) (roundK l17 obj18 K19 none true .ready))))))))) (fun j49 => brW (!v48) (j49 v43 v44 v47 true) (brW (!v46)
 (brW (strEq v45 (⟨⟨[]⟩⟩ : ByteArray)) (j49 v43 v44 v47 true) (ptrW v47 (fun b63 o64 => ifW (0 <= (0 : Int) /\ (0 : Int) < ((2 : Nat) : Int)) (rdT (rdC b63 (o64 + (0 : Int).toNat * 1)) kI (fun (x65 : Int) => brW (decide ((x65 : Int) < 1)) (j49 v43 v44 v47 true) (ptrW v47 (fun b66 o67 => ifW (0 <= (1 : Int) /\ (1 : Int) < ((2 : Nat) : Int)) (rdT (rdC b66 (o67 + (1 : Int).toNat * 1)) kI (fun (x68 : Int) => ptrW v47 (fun b69 o70 => ifW (0 <= (0 : Int) /\ (0 : Int) < ((2 : Nat) : Int))
 (rdT (rdC b69 (o70 + (0 : Int).toNat * 1)) kI (fun (x71 : Int) => j49 v43 v44 v47 (decide ((x68 : Int) < x71)))))))))))))) (ptrW v47 (fun b72 o73 => ifW (0 <= (0 : Int) /\ (0 : Int) < ((2 : Nat) : Int)) (rdT (rdC b72 (o73 + (0 : Int).toNat * 1)) kI (fun (x74 : Int) => brW (decide ((x74 : Int) < 1)) (j49 v43 v44 v47 true) (ptrW v47 (fun b75 o76 => ifW (0 <= (1 : Int) /\ (1 : Int) < ((2 : Nat) : Int)) (rdT (rdC b75 (o76 + (1 : Int).toNat * 1)) kI (fun (x77 : Int) =>
 ptrW v47 (fun b78 o79 => ifW (0 <= (0 : Int) /\ (0 : Int) < ((2 : Nat) : Int)) (rdT (rdC b78 (o79 + (0 : Int).toNat * 1)) kI (fun (x80 : Int) => j49 v43 v44 v47 (decide ((x77 : Int) < x80)))))))))))))))) (fun j42 => letJ (T := Option Addr -> Option Addr -> ByteArray -> ByteArray -> Bool -> Option Addr -> Bool -> Bool -> H -> Prop) (fun v82 v83 v84 v85 v86 v87 v88 x89 => brW x89 (callT Tryz.prog 72 [.string v85] (.tup [.sc (.int .i64), .sc .bool]) (fun (x90 : Int) (x91 : Bool) =>
 ptrW v87 (fun b92 o93 => ifW (0 <= (1 : Int) /\ (1 : Int) < ((2 : Nat) : Int)) (stW Tryz.prog 3 (.pointer (some ⟨b92, o93 + (1 : Int).toNat * 1, none⟩)) (.int .i64 x90) (j42 v82 v83 v84 v86 v87 x91))))) (j42 v82 v83 v84 v86 v87 v88)) (fun j81 => brW v41 (j81 v35 v36 v37 v38 v39 v40 v41 (!strEq v38 (⟨⟨[]⟩⟩ : ByteArray))) (j81 v35 v36 v37 v38 v39 v40 v41 false)))) (fun j34 =>
 letJ (T := Option Addr -> Option Addr -> ByteArray -> ByteArray -> ByteArray -> Bool -> Option Addr -> Bool -> Bool -> H -> Prop) (fun v95 v96 v97 v98 v99 v100 v101 v102 x103 => brW x103 (callT Tryz.prog 72 [.string v98] (.tup [.sc (.int .i64), .sc .bool]) (fun (x104 : Int) (x105 : Bool) => ptrW v101 (fun b106 o107 => ifW (0 <= (0 : Int) /\ (0 : Int) < ((2 : Nat) : Int))
 (stW Tryz.prog 3 (.pointer (some ⟨b106, o107 + (0 : Int).toNat * 1, none⟩)) (.int .i64 x104) (j34 v95 v96 v97 v99 v100 v101 x105))))) (j34 v95 v96 v97 v99 v100 v101 v102)) (fun j94 => brW v33 (j94 v26 v27 v28 v29 v30 v31 v32 v33 (!strEq v29 (⟨⟨[]⟩⟩ : ByteArray))) (j94 v26 v27 v28 v29 v30 v31 v32 v33 false)))) (fun j25 => brW (!x23)
 (j25 (some ⟨b2, 0, none⟩) (some ⟨b3, 0, none⟩) x20 x21 x21 x23 (some ⟨b24, 0, none⟩) (!strEq x20 (⟨⟨[45]⟩⟩ : ByteArray))) (j25 (some ⟨b2, 0, none⟩) (some ⟨b3, 0, none⟩) x20 x21 x22 x23 (some ⟨b24, 0, none⟩) (!strEq x20 (⟨⟨[45]⟩⟩ : ByteArray)))))))))) (j4 (some ⟨b2, 0, none⟩) (some ⟨b3, 0, none⟩)) (fun i108 => exW i108 0 (j4 (some ⟨b2, 0, none⟩) (some ⟨b3, 0, none⟩)) (nW)) (rdT (rdC b2 0) kL (fun r112 => rdT (rdC b3 0) kB (fun r113 =>
 K (.tuple ⟨[.slice r112.base r112.len r112.cap, .bool r113]⟩)))))))))
theorem c46 (v1 : ByteArray) {K : KH} {σ : H} : g46 v1 K σ -> callW Tryz.prog 46 [.string v1] K σ := call_k an46 Tryz.func46 (by kernel_rfl)


def an47 : Ann := (.q (.n (.seq (some [(0,.s),(1,.p),(2,.p),(3,.p),(16,.b)]) .r (.h)) (.q (.seq (some [(0,.s),(3,.p),(6,.s)]) (.q (.cond .r .z)) (.q (.n (.q (.blk (.loop [(3,.p),(6,.s),(7,.l),(22,.l),(23,.i),(24,.i)] (.q (.n (.cond .z .z) (.seq (some [(3,.p),(6,.s),(7,.l),(22,.l),(23,.i),(24,.i)]) (.blk (.q (.q (.cond .r .z)))) .r)))))) (.q .z)))))))
def g47 (v1 : ByteArray) (x2 : Option Addr) (x3 : Option Addr) (x4 : Option Addr) (K : KH) : H -> Prop :=
 letJ (T := ByteArray -> Option Addr -> Option Addr -> Option Addr -> Bool -> H -> Prop) (fun v6 x7 x8 x9 x10 => brW x10 (K (.string v6)) (letJ (T := ByteArray -> Option Addr -> ByteArray -> H -> Prop) (fun v12 x13 v14 => callT Tryz.prog 49 [.string v12, .string v14] kL (fun x15 =>
 loopW [.sc .ptr, .sc .str, .sc .slc, .sc .slc, .sc (.int .i64), .sc (.int .i64)] (fun (R16 : Option Addr -> ByteArray -> Sl -> Sl -> Int -> Int -> H -> Prop) => (fun (x17 : Option Addr) (v18 : ByteArray) (v19 : Sl) (x20 : Sl) (x21 : Int) (x22 : Int) => brW (decide ((x22 : Int) < x21)) (letJ (T := Option Addr -> ByteArray -> Sl -> Sl -> Int -> Int -> H -> Prop) (fun x24 v25 v26 x27 x28 x29 => R16 x24 v25 v26 x27 x28 (IntKind.i64.wrap (x29 + 1))) (fun j23 =>
 ptrW x20.base (fun b30 o31 => ifW (0 <= x22 /\ x22 < ((x20.len : Nat) : Int)) (rdT (rdC b30 (o31 + x22.toNat * 1)) kS (fun (x32 : ByteArray) => ptrW x17 (fun b33 o34 => rdT (rdC b33 o34) kL (fun x35 => callT Tryz.prog 50 [.slice x35.base x35.len x35.cap, .int .i64 (IntKind.i64.wrap (x22 + 1))] kB (fun x36 => brW x36 (alW (.cells ⟨[.string x32]⟩ 9 (0, 0)) (fun b37 =>
 biW Tryz.prog .append #[26, 26] 26 [false, false] [.slice v19.base v19.len v19.cap, .slice (some ⟨b37, 0, none⟩) 1 1] kL (fun x38 => j23 x17 v18 x38 x20 x21 x22))) (j23 x17 v18 v19 x20 x21 x22))))))))) (callT Tryz.prog 42 [.slice v19.base v19.len v19.cap, .string v18] kS (fun (x39 : ByteArray) =>
 K (.string x39))))) (fun (R40 : Option Addr -> ByteArray -> Sl -> Sl -> Int -> Int -> H -> Prop) => R40 x13 v14 ⟨none, 0, 0⟩ x15 ((x15.len : Nat) : Int) 0))) (fun j11 => ptrW x7 (fun b41 o42 => rdT (rdC b41 o42) kB (fun x43 => brW x43 (ptrW x8 (fun b44 o45 => rdT (rdC b44 o45) kS (fun (x46 : ByteArray) => j11 v6 x9 x46))) (j11 v6 x9 (⟨⟨[]⟩⟩ : ByteArray))))))) (fun j5 => ptrW x2 (fun b47 o48 => rdT (rdC b47 o48) kB (fun x49 => brW x49 (ptrW x3 (fun b50 o51 =>
 rdT (rdC b50 o51) kS (fun (x52 : ByteArray) => callT Tryz.prog 48 [.string v1, .string x52] kB (fun x53 => j5 v1 x2 x3 x4 (!x53))))) (j5 v1 x2 x3 x4 false))))
theorem c47 (v1 : ByteArray) (x2 : Option Addr) (x3 : Option Addr) (x4 : Option Addr) {K : KH} {σ : H} : g47 v1 x2 x3 x4 K σ -> callW Tryz.prog 47 [.string v1, .pointer x2, .pointer x3, .pointer x4] K σ := call_k an47 Tryz.func47 (by kernel_rfl)


def an48 : Ann := (.q (.q .z))
def g48 (v1 : ByteArray) (v2 : ByteArray) (K : KH) : H -> Prop :=
 callT Tryz.prog 31 [.string v1, .string v2] kI (fun (x3 : Int) => K (.bool (decide ((x3 : Int) >= 0))))
theorem c48 (v1 : ByteArray) (v2 : ByteArray) {K : KH} {σ : H} : g48 v1 v2 K σ -> callW Tryz.prog 48 [.string v1, .string v2] K σ := call_k an48 Tryz.func48 (by kernel_rfl)


def an49 : Ann := (.q (.n (.q (.h)) (.q (.n (.q (.blk (.loop [(0,.s),(5,.l),(13,.i),(14,.i)] (.q (.n (.cond .z .z) (.n (.blk (.q .r)) .r)))))) (.q .z)))))
def g49 (v1 : ByteArray) (v2 : ByteArray) (K : KH) : H -> Prop :=
 brW (!strEq v2 (⟨⟨[]⟩⟩ : ByteArray)) (callT Tryz.prog 12 [.string v1, .string v2] kL (fun x3 => K (.slice x3.base x3.len x3.cap))) (loopW [.sc .str, .sc .slc, .sc (.int .i64), .sc (.int .i64)] (fun (R4 : ByteArray -> Sl -> Int -> Int -> H -> Prop) => (fun (v5 : ByteArray) (v6 : Sl) (x7 : Int) (x8 : Int) => brW (decide ((x8 : Int) < x7)) (ifW (bndOk (some (IntKind.i64.wrap (x8 + 1))) v5.size /\ bndOk (some x8) ((IntKind.i64.wrap (x8 + 1)).toNat))
 (alW (.cells ⟨[.string (v5.extract x8.toNat ((IntKind.i64.wrap (x8 + 1)).toNat))]⟩ 9 (0, 0)) (fun b9 => biW Tryz.prog .append #[26, 26] 26 [false, false] [.slice v6.base v6.len v6.cap, .slice (some ⟨b9, 0, none⟩) 1 1] kL (fun x10 => R4 v5 x10 x7 (IntKind.i64.wrap (x8 + 1)))))) (K (.slice v6.base v6.len v6.cap)))) (fun (R11 : ByteArray -> Sl -> Int -> Int -> H -> Prop) => R11 v1 ⟨none, 0, 0⟩ ((v1.size : Nat) : Int) 0))
theorem c49 (v1 : ByteArray) (v2 : ByteArray) {K : KH} {σ : H} : g49 v1 v2 K σ -> callW Tryz.prog 49 [.string v1, .string v2] K σ := call_k an49 Tryz.func49 (by kernel_rfl)


def an50 : Ann := (.q (.q .z))
def g50 (v1 : Sl) (v2 : Int) (K : KH) : H -> Prop :=
 alW (.cells ⟨[.int .i64 v2]⟩ 3 (0, 0)) (fun b3 => callT Tryz.prog 78 [.slice v1.base v1.len v1.cap, .func (.func 79) ⟨[]⟩ ⟨[.pointer (some ⟨b3, 0, none⟩)]⟩] kB (fun x4 => K (.bool x4)))
theorem c50 (v1 : Sl) (v2 : Int) {K : KH} {σ : H} : g50 v1 v2 K σ -> callW Tryz.prog 50 [.slice v1.base v1.len v1.cap, .int .i64 v2] K σ := call_k an50 Tryz.func50 (by kernel_rfl)


def an51 : Ann := (.q (.n (.q (.h)) (.q .z)))
def g51 (v1 : ByteArray) (K : KH) : H -> Prop :=
 brW (strEq v1 (⟨⟨[]⟩⟩ : ByteArray)) (K (.slice none 0 0)) (callT Tryz.prog 17 [.string v1, .string ⟨⟨[10]⟩⟩] kS (fun (x2 : ByteArray) => callT Tryz.prog 12 [.string x2, .string ⟨⟨[10]⟩⟩] kL (fun x3 => K (.slice x3.base x3.len x3.cap))))
theorem c51 (v1 : ByteArray) {K : KH} {σ : H} : g51 v1 K σ -> callW Tryz.prog 51 [.string v1] K σ := call_k an51 Tryz.func51 (by kernel_rfl)


def an52 : Ann := (.q (.q (.n (.q (.blk (.loop [(3,.p),(6,.l),(7,.i),(8,.i)] (.q (.n (.cond .z .z) (.n (.blk (.q .r)) .r)))))) (.q .z))))
def g52 (v1 : Sl) (K : KH) : H -> Prop :=
 alW (.cells ⟨[.pointer none, .slice none 0 0]⟩ 111 (0, 0)) (fun b2 => loopW [.sc .ptr, .sc .slc, .sc (.int .i64), .sc (.int .i64)] (fun (R3 : Option Addr -> Sl -> Int -> Int -> H -> Prop) => (fun (v4 : Option Addr) (x5 : Sl) (x6 : Int) (x7 : Int) => brW (decide ((x7 : Int) < x6)) (ptrW x5.base (fun b8 o9 => ifW (0 <= x7 /\ x7 < ((x5.len : Nat) : Int)) (rdT (rdC b8 (o9 + x7.toNat * 1)) kS (fun (x10 : ByteArray) => ifW (x10.size + (⟨⟨[10]⟩⟩ : ByteArray).size <= 9223372036854775807)
 (callT Tryz.prog 70 [.pointer v4, .string (x10 ++ ⟨⟨[10]⟩⟩)] (.tup [.sc (.int .i64), .sc .raw]) (fun (_x11 : Int) (_x12 : Value) => R3 v4 x5 x6 (IntKind.i64.wrap (x7 + 1)))))))) (callT Tryz.prog 71 [.pointer v4] kS (fun (x13 : ByteArray) => K (.string x13))))) (fun (R14 : Option Addr -> Sl -> Int -> Int -> H -> Prop) => R14 (some ⟨b2, 0, none⟩) v1 ((v1.len : Nat) : Int) 0))
theorem c52 (v1 : Sl) {K : KH} {σ : H} : g52 v1 K σ -> callW Tryz.prog 52 [.slice v1.base v1.len v1.cap] K σ := call_k an52 Tryz.func52 (by kernel_rfl)


def an53 : Ann := (.q (.q (.q (.n (.q (.cond (.n (.q (.h)) (.q .z)) .z)) (.n (.q (.h)) (.n (.q (.h)) (.n (.q (.h)) (.q .z))))))))
def g53 (v1 : ByteArray) (v2 : ByteArray) (K : KH) : H -> Prop :=
 callT Tryz.prog 80 [.string v1] kB (fun x3 => callT Tryz.prog 80 [.string v2] kB (fun x4 => brW x3 (brW x4 (K (.int .i64 0)) (K (.int .i64 (-1)))) (brW x4 (K (.int .i64 1)) (brW (strLt v1 v2) (K (.int .i64 (-1))) (brW (!(strLt v1 v2 || strEq v1 v2)) (K (.int .i64 1)) (K (.int .i64 0)))))))
theorem c53 (v1 : ByteArray) (v2 : ByteArray) {K : KH} {σ : H} : g53 v1 v2 K σ -> callW Tryz.prog 53 [.string v1, .string v2] K σ := call_k an53 Tryz.func53 (by kernel_rfl)


def an54 : Ann := (.q (.q .z))
def g54 (v1 : ByteArray) (v2 : Int) (K : KH) : H -> Prop :=
 callT Tryz.prog 81 [.string v1, .int .u8 v2] kI (fun (x3 : Int) => K (.int .i64 x3))
theorem c54 (v1 : ByteArray) (v2 : Int) {K : KH} {σ : H} : g54 v1 v2 K σ -> callW Tryz.prog 54 [.string v1, .int .u8 v2] K σ := call_k an54 Tryz.func54 (by kernel_rfl)


def an55 : Ann := (.q (.q .z))
def g55 (v1 : ByteArray) (v2 : ByteArray) (K : KH) : H -> Prop :=
 callT Tryz.prog 57 [.string v1] kI (fun (x3 : Int) => callT Tryz.prog 57 [.string v2] kI (fun (x4 : Int) => callT Tryz.prog 56 [.int .i64 x3, .int .i64 x4] kI (fun (x5 : Int) => K (.int .i64 x5))))
theorem c55 (v1 : ByteArray) (v2 : ByteArray) {K : KH} {σ : H} : g55 v1 v2 K σ -> callW Tryz.prog 55 [.string v1, .string v2] K σ := call_k an55 Tryz.func55 (by kernel_rfl)


def an56 : Ann := (.q (.q (.q (.n (.q (.cond (.n (.q (.h)) (.q .z)) .z)) (.n (.q (.h)) (.n (.q (.h)) (.n (.q (.h)) (.q .z))))))))
def g56 (v1 : Int) (v2 : Int) (K : KH) : H -> Prop :=
 callT Tryz.prog 82 [.int .i64 v1] kB (fun x3 => callT Tryz.prog 82 [.int .i64 v2] kB (fun x4 => brW x3 (brW x4 (K (.int .i64 0)) (K (.int .i64 (-1)))) (brW x4 (K (.int .i64 1)) (brW (decide ((v1 : Int) < v2)) (K (.int .i64 (-1))) (brW (decide ((v1 : Int) > v2)) (K (.int .i64 1)) (K (.int .i64 0)))))))
theorem c56 (v1 : Int) (v2 : Int) {K : KH} {σ : H} : g56 v1 v2 K σ -> callW Tryz.prog 56 [.int .i64 v1, .int .i64 v2] K σ := call_k an56 Tryz.func56 (by kernel_rfl)


def an57 : Ann := (.q (.q (.q (.q (.n (.q (.blk (.loop [(0,.s),(3,.b),(4,.i),(5,.i)] (.n (.seq (some [(0,.s),(3,.b),(4,.i),(5,.i),(29,.b)]) .r (.cond .z .z)) (.n (.blk .r) .r))))) (.n (.q (.h)) (.q .z)))))))
def g57 (v1 : ByteArray) (K : KH) : H -> Prop :=
 callT Tryz.prog 83 [.string v1, .string ⟨⟨[32, 9]⟩⟩] kS (fun (x2 : ByteArray) => callT Tryz.prog 84 [.string x2, .string ⟨⟨[45]⟩⟩] (.tup [.sc .str, .sc .bool]) (fun (x3 : ByteArray) (x4 : Bool) => loopW [.sc .str, .sc .bool, .sc (.int .i64), .sc (.int .i64)] (fun (R5 : ByteArray -> Bool -> Int -> Int -> H -> Prop) => (fun (v6 : ByteArray) (v7 : Bool) (v8 : Int) (v9 : Int) =>
 letJ (T := ByteArray -> Bool -> Int -> Int -> Bool -> H -> Prop) (fun v11 v12 v13 v14 x15 => brW x15 (idxW v11 v14 (fun ch16 => R5 v11 v12 (IntKind.i64.wrap ((IntKind.i64.wrap (10 * v13)) + (IntKind.i64.wrap (IntKind.u8.wrap ((ch16.toNat : Int) - 48))))) (IntKind.i64.wrap (v14 + 1)))) (brW v12 (K (.int .i64 (IntKind.i64.wrap (0 - v13)))) (K (.int .i64 v13)))) (fun j10 => brW (decide ((v9 : Int) < (if 15 < ((v6.size : Nat) : Int) then 15 else ((v6.size : Nat) : Int))))
 (idxW v6 v9 (fun ch17 => brW (decide ((ch17.toNat : Int) >= 48)) (idxW v6 v9 (fun ch18 => j10 v6 v7 v8 v9 (decide ((ch18.toNat : Int) <= 57)))) (j10 v6 v7 v8 v9 false))) (j10 v6 v7 v8 v9 false)))) (fun (R19 : ByteArray -> Bool -> Int -> Int -> H -> Prop) => R19 x3 x4 0 0)))
theorem c57 (v1 : ByteArray) {K : KH} {σ : H} : g57 v1 K σ -> callW Tryz.prog 57 [.string v1] K σ := call_k an57 Tryz.func57 (by kernel_rfl)


def an58 : Ann := (.q (.q (.q (.n (.blk (.q (.cond (.q .z) (.q (.cond (.q .z) (.q (.h))))))) (.q .z)))))
def g58 (v1 : ByteArray) (v2 : ByteArray) (K : KH) : H -> Prop :=
 callT Tryz.prog 85 [.string v1] (.tup [.sc (.int .i64), .sc .raw]) (fun (x3 : Int) (x4 : Value) => callT Tryz.prog 85 [.string v2] (.tup [.sc (.int .i64), .sc .raw]) (fun (x5 : Int) (x6 : Value) => brW ((x3 : Int) != x5) (callT Tryz.prog 56 [.int .i64 x3, .int .i64 x5] kI (fun (x7 : Int) => K (.int .i64 x7))) (vaW Tryz.prog (do eqGuard .lss 141 (.tmp 27) (.tmp 28) (x4) (x6); binOp .lss 141 (x4) (x6)) kB (fun x8 => brW x8 (K (.int .i64 (-1)))
 (vaW Tryz.prog (do eqGuard .gtr 141 (.tmp 31) (.tmp 32) (x4) (x6); binOp .gtr 141 (x4) (x6)) kB (fun x9 => brW x9 (K (.int .i64 1)) (K (.int .i64 0))))))))
theorem c58 (v1 : ByteArray) (v2 : ByteArray) {K : KH} {σ : H} : g58 v1 v2 K σ -> callW Tryz.prog 58 [.string v1, .string v2] K σ := call_k an58 Tryz.func58 (by kernel_rfl)


def an59 : Ann := .r
def g59 (v1 : Sl) (v2 : Value) (K : KH) : H -> Prop :=
 callT Tryz.prog 86 [.slice v1.base v1.len v1.cap, .int .i64 ((v1.len : Nat) : Int), v2] kU (K (.tuple ⟨[]⟩))
theorem c59 (v1 : Sl) (v2 : Value) {K : KH} {σ : H} : g59 v1 v2 K σ -> callW Tryz.prog 59 [.slice v1.base v1.len v1.cap, v2] K σ := call_k an59 Tryz.func59 (by kernel_rfl)


def an60 : Ann := (.q (.q (.seq (some [(4,.p),(8,.i)]) (.seq (some [(0,.s),(1,.s),(4,.p),(8,.i),(18,.b)]) .r (.cond .r .z)) (.n (.q (.h)) (.q .z)))))
def g60 (v1 : ByteArray) (v2 : ByteArray) (x3 : Option Addr) (x4 : Option Addr) (x5 : Option Addr) (K : KH) : H -> Prop :=
 ptrW x3 (fun b6 o7 => rdT (rdC b6 o7) kR (fun x8 => cvalT Tryz.prog x8 [.string v1, .string v2] kI (fun (x9 : Int) => letJ (T := Option Addr -> Int -> H -> Prop) (fun x11 v12 => ptrW x11 (fun b13 o14 => rdT (rdC b13 o14) kB (fun x15 => brW x15 (K (.int .i64 (IntKind.i64.wrap (0 - v12)))) (K (.int .i64 v12))))) (fun j10 => letJ (T := ByteArray -> ByteArray -> Option Addr -> Int -> Bool -> H -> Prop) (fun v17 v18 x19 v20 x21 => brW x21
 (callT Tryz.prog 53 [.string v17, .string v18] kI (fun (x22 : Int) => j10 x19 x22)) (j10 x19 v20)) (fun j16 => brW ((x9 : Int) == 0) (ptrW x4 (fun b23 o24 => rdT (rdC b23 o24) kB (fun x25 => j16 v1 v2 x5 x9 (!x25)))) (j16 v1 v2 x5 x9 false))))))
theorem c60 (v1 : ByteArray) (v2 : ByteArray) (x3 : Option Addr) (x4 : Option Addr) (x5 : Option Addr) {K : KH} {σ : H} : g60 v1 v2 x3 x4 x5 K σ -> callW Tryz.prog 60 [.string v1, .string v2, .pointer x3, .pointer x4, .pointer x5] K σ := call_k an60 Tryz.func60 (by kernel_rfl)


def an61 : Ann := (.q (.n (.q (.h)) (.n (.q (.blk (.loop [(0,.l),(1,.w),(5,.i)] (.n (.q (.cond .z .z)) (.n (.blk (.n (.reg (rn 11) [[],[],[],[1,2],[1,2,3],[],[],[6],[5,6,7],[5,6,7,8],(rn 10)]) (.cond (.q (.n (.q (.blk (.loop [(0,.l),(1,.w),(5,.i),(6,.l),(7,.i)] (.n (.q (.cond .z .z)) (.seq (some [(0,.l),(1,.w),(5,.i),(6,.l),(7,.i)]) (.blk (.n (.reg (rn 12) [[],[],[],[1,2],[1,2,3],[],[],[6],[5,6,7],[5,6,7,8],(rn 10),(rn 11)]) (.cond (.q .r) .z))) .r))))) (.q (.q .z)))) .z))) .r))))) (.q .z))))
def g61 (v1 : Sl) (v2 : Value) (K : KH) : H -> Prop :=
 brW (decide (((v1.len : Nat) : Int) < 2)) (K (.slice v1.base v1.len v1.cap)) (loopW [.sc .slc, .sc .raw, .sc (.int .i64)] (fun (R3 : Sl -> Value -> Int -> H -> Prop) => (fun (v4 : Sl) (v5 : Value) (v6 : Int) => brW (decide ((v6 : Int) < ((v4.len : Nat) : Int))) (ptrW v4.base (fun b7 o8 => ifW (0 <= v6 /\ v6 < ((v4.len : Nat) : Int)) (rdT (rdC b7 (o8 + v6.toNat * 1)) kS (fun (x9 : ByteArray) => ptrW v4.base (fun b10 o11 =>
 ifW (0 <= IntKind.i64.wrap (v6 - 1) /\ IntKind.i64.wrap (v6 - 1) < ((v4.len : Nat) : Int)) (rdT (rdC b10 (o11 + (IntKind.i64.wrap (v6 - 1) : Int).toNat * 1)) kS (fun (x12 : ByteArray) => cvalT Tryz.prog v5 [.string x9, .string x12] kB (fun x13 => brW x13 (ifW (bndOk none v4.cap /\ bndOk (some v6) v4.len)
 (loopW [.sc .slc, .sc .raw, .sc (.int .i64), .sc .slc, .sc (.int .i64)] (fun (R14 : Sl -> Value -> Int -> Sl -> Int -> H -> Prop) => (fun (v15 : Sl) (v16 : Value) (v17 : Int) (s2_18 : Sl) (k2_19 : Int) => brW (decide ((k2_19 : Int) < ((s2_18.len : Nat) : Int))) (letJ (T := Sl -> Value -> Int -> Sl -> Int -> H -> Prop) (fun v21 v22 v23 s2_24 k2_25 => R14 v21 v22 v23 s2_24 (IntKind.i64.wrap (k2_25 + 1))) (fun j20 => ptrW s2_18.base (fun b26 o27 =>
 ifW (0 <= k2_19 /\ k2_19 < ((s2_18.len : Nat) : Int)) (rdT (rdC b26 (o27 + k2_19.toNat * 1)) kS (fun (x28 : ByteArray) => ptrW s2_18.base (fun b29 o30 => ifW (0 <= IntKind.i64.wrap (k2_19 - 1) /\ IntKind.i64.wrap (k2_19 - 1) < ((s2_18.len : Nat) : Int)) (rdT (rdC b29 (o30 + (IntKind.i64.wrap (k2_19 - 1) : Int).toNat * 1)) kS (fun (x31 : ByteArray) => cvalT Tryz.prog v16 [.string x28, .string x31] kB (fun x32 => brW (!x32) (ptrW s2_18.base (fun b33 o34 =>
 ifW (0 <= k2_19 /\ k2_19 < ((s2_18.len : Nat) : Int)) (rdT (rdC b33 (o34 + k2_19.toNat * 1)) kS (fun (x35 : ByteArray) => ptrW v15.base (fun b36 o37 => ifW (0 <= v17 /\ v17 < ((v15.len : Nat) : Int)) (stW Tryz.prog 9 (.pointer (some ⟨b36, o37 + v17.toNat * 1, none⟩)) (.string x35) (j20 v15 v16 (IntKind.i64.wrap (v17 + 1)) s2_18 k2_19))))))) (j20 v15 v16 v17 s2_18 k2_19)))))))))) (ifW (bndOk none v15.cap /\ bndOk (some v17) v15.len)
 (biW Tryz.prog .clear #[26] 0 [false] [.slice (slBase v15.base v17.toNat v15.cap 1) (v15.len - v17.toNat) (v15.cap - v17.toNat)] kU (ifW (bndOk (some v17) v15.cap /\ bndOk none v17.toNat) (K (.slice (slBase v15.base 0 v15.cap 1) (v17.toNat - 0) (v15.cap - 0)))))))) (fun (R38 : Sl -> Value -> Int -> Sl -> Int -> H -> Prop) => R38 v4 v5 v6 ⟨slBase v4.base v6.toNat v4.cap 1, v4.len - v6.toNat, v4.cap - v6.toNat⟩ 1))) (R3 v4 v5 (IntKind.i64.wrap (v6 + 1)))))))))))
 (K (.slice v4.base v4.len v4.cap)))) (fun (R39 : Sl -> Value -> Int -> H -> Prop) => R39 v1 v2 1))
theorem c61 (v1 : Sl) (v2 : Value) {K : KH} {σ : H} : g61 v1 v2 K σ -> callW Tryz.prog 61 [.slice v1.base v1.len v1.cap, v2] K σ := call_k an61 Tryz.func61 (by kernel_rfl)


def an62 : Ann := (.q (.q .z))
def g62 (v1 : ByteArray) (v2 : ByteArray) (x3 : Option Addr) (K : KH) : H -> Prop :=
 ptrW x3 (fun b4 o5 => rdT (rdC b4 o5) kR (fun x6 => cvalT Tryz.prog x6 [.string v1, .string v2] kI (fun (x7 : Int) => K (.bool ((x7 : Int) == 0)))))
theorem c62 (v1 : ByteArray) (v2 : ByteArray) (x3 : Option Addr) {K : KH} {σ : H} : g62 v1 v2 x3 K σ -> callW Tryz.prog 62 [.string v1, .string v2, .pointer x3] K σ := call_k an62 Tryz.func62 (by kernel_rfl)


def an63 : Ann := (.q (.q .z))
def g63 (v1 : ByteArray) (v2 : ByteArray) (K : KH) : H -> Prop :=
 brW (decide (((v1.size : Nat) : Int) >= ((v2.size : Nat) : Int))) (ifW (bndOk none v1.size /\ bndOk (some (IntKind.i64.wrap (((v1.size : Nat) : Int) - ((v2.size : Nat) : Int)))) (v1.size)) (K (.bool (strEq (v1.extract ((IntKind.i64.wrap (((v1.size : Nat) : Int) - ((v2.size : Nat) : Int))).toNat) v1.size) v2)))) (K (.bool false))
theorem c63 (v1 : ByteArray) (v2 : ByteArray) {K : KH} {σ : H} : g63 v1 v2 K σ -> callW Tryz.prog 63 [.string v1, .string v2] K σ := call_k an63 Tryz.func63 (by kernel_rfl)


def an67 : Ann := (.q (.q (.n (.blk (.seq (some [(0,.s),(1,.s),(5,.i),(16,.b)]) .r (.cond (.q .z) (.q (.cond (.q .z) (.q (.cond (.q .z) (.seq (some [(0,.s),(1,.s),(5,.i),(36,.b)]) .r (.h))))))))) (.q (.q (.q (.q (.q (.n (.blk (.loop [(0,.s),(1,.s),(5,.i),(6,.sc (.int .u8)),(7,.sc (.int .u8)),(8,.i),(9,.i),(10,.i)] (.n (.q (.cond .z .z)) (.blk (.seq (some [(0,.s),(1,.s),(5,.i),(6,.sc (.int .u8)),(7,.sc (.int .u8)),(8,.i),(9,.i),(10,.i)]) (.q (.cond (.q (.n (.q (.h)) .r)) .z)) (.n (.seq (some [(0,.s),(1,.s),(5,.i),(6,.sc (.int .u8)),(7,.sc (.int .u8)),(8,.i),(9,.i),(10,.i),(85,.w),(86,.w),(87,.w),(88,.w),(89,.w),(90,.w),(91,.w),(92,.w),(93,.b)]) .r (.h)) (.q (.q (.seq (some [(0,.s),(1,.s),(5,.i),(6,.sc (.int .u8)),(7,.sc (.int .u8)),(8,.i),(9,.i),(10,.i),(85,.w),(86,.w),(87,.w),(88,.w),(89,.w),(90,.w),(91,.w),(92,.w),(103,.w),(104,.w),(105,.w),(106,.w),(107,.b)]) .r (.cond (.q (.n (.q (.h)) (.q .z))) (.seq (some [(0,.s),(1,.s),(5,.i),(6,.sc (.int .u8)),(7,.sc (.int .u8)),(8,.i),(9,.i),(10,.i),(85,.w),(86,.w),(87,.w),(88,.w),(89,.w),(90,.w),(91,.w),(92,.w),(103,.w),(104,.w),(105,.w),(106,.w),(122,.w),(123,.w),(124,.w),(125,.w),(126,.w),(129,.w),(130,.w),(131,.w),(132,.b)]) .r (.cond (.q (.n (.q (.h)) (.q .z))) .z)))))))))))) (.q .z))))))))))
def g67 (v1 : ByteArray) (v2 : ByteArray) (K : KH) : H -> Prop :=
 letJ (T := ByteArray -> ByteArray -> Int -> Bool -> H -> Prop) (fun v4 v5 v6 x7 => brW x7 (K (.int .i64 0)) (brW ((v6 : Int) == 1) (idxW v5 0 (fun ch8 => callT Tryz.prog 73 [.string v4, .int .u8 (ch8.toNat : Int)] kI (fun (x9 : Int) => K (.int .i64 x9)))) (brW (decide ((v6 : Int) >= ((v4.size : Nat) : Int))) (K (.int .i64 (-1))) (letJ (T := ByteArray -> ByteArray -> Int -> Bool -> H -> Prop) (fun v11 v12 v13 x14 => brW x14
 (cvalT Tryz.prog (.func (.func 88) ⟨[]⟩ ⟨[]⟩) [.string v11, .string v12] kI (fun (x15 : Int) => K (.int .i64 x15))) (idxW v12 0 (fun ch16 => idxW v12 1 (fun ch17 =>
 loopW [.sc .str, .sc .str, .sc (.int .i64), .sc (.int .u8), .sc (.int .u8), .sc (.int .i64), .sc (.int .i64), .sc (.int .i64)] (fun (R18 : ByteArray -> ByteArray -> Int -> Int -> Int -> Int -> Int -> Int -> H -> Prop) => (fun (v19 : ByteArray) (v20 : ByteArray) (v21 : Int) (c0_22 : Int) (c1_23 : Int) (v24 : Int) (v25 : Int) (v26 : Int) => brW (decide ((v24 : Int) < v25))
 (letJ (T := ByteArray -> ByteArray -> Int -> Int -> Int -> Int -> Int -> Int -> H -> Prop) (fun v28 v29 v30 c0_31 c1_32 v33 v34 v35 => letJ (T := ByteArray -> ByteArray -> Int -> Int -> Int -> Int -> Int -> Int -> Value -> Value -> Value -> Value -> Value -> Value -> Value -> Value -> Bool -> H -> Prop) (fun v37 v38 v39 c0_40 c1_41 v42 v43 v44 x45 x46 x47 x48 x49 x50 x51 x52 x53 => brW x53 (K (.int .i64 v42))
 (letJ (T := ByteArray -> ByteArray -> Int -> Int -> Int -> Int -> Int -> Int -> Value -> Value -> Value -> Value -> Value -> Value -> Value -> Value -> Value -> Value -> Value -> Value -> Bool -> H -> Prop) (fun v55 v56 v57 c0_58 c1_59 v60 v61 v62 x63 x64 x65 x66 x67 x68 x69 x70 x71 x72 x73 x74 x75 => brW x75 (ifW (bndOk none v55.size /\ bndOk (some v60) (v55.size)) (cvalT Tryz.prog (.func (.func 88) ⟨[]⟩ ⟨[]⟩) [.string (v55.extract v60.toNat v55.size), .string v56] kI (fun (x76 : Int) =>
 brW (decide ((x76 : Int) >= 0)) (K (.int .i64 (IntKind.i64.wrap (x76 + v60)))) (K (.int .i64 (-1))))))
 (letJ (T := ByteArray -> ByteArray -> Int -> Int -> Int -> Int -> Int -> Int -> Value -> Value -> Value -> Value -> Value -> Value -> Value -> Value -> Value -> Value -> Value -> Value -> Value -> Value -> Value -> Value -> Value -> Value -> Value -> Value -> Bool -> H -> Prop) (fun v78 v79 v80 c0_81 c1_82 v83 v84 v85 _x86 _x87 _x88 _x89 _x90 _x91 _x92 _x93 _x94 _x95 _x96 _x97 _x98 _x99 _x100 _x101 _x102 _x103 _x104 _x105 x106 => brW x106 (ifW (bndOk none v78.size /\ bndOk (some v83) (v78.size))
 (callT Tryz.prog 90 [.string (v78.extract v83.toNat v78.size), .string v79] kI (fun (x107 : Int) => brW (decide ((x107 : Int) < 0)) (K (.int .i64 (-1))) (K (.int .i64 (IntKind.i64.wrap (v83 + x107))))))) (R18 v78 v79 v80 c0_81 c1_82 v83 v84 v85)) (fun j77 => rdT (rdC 0 0) kI (fun (x108 : Int) => brW (decide ((v57 : Int) > x108)) (ifW (0 <= (4 : Int)) (brW (decide ((v62 : Int) >= (IntKind.i64.wrap (4 + (Int.fdiv v60 (2 ^ min (Int.toNat 4) (IntKind.bits .i64)))))))
 (j77 v55 v56 v57 c0_58 c1_59 v60 v61 v62 x63 x64 x65 x66 x67 x68 x69 x70 x71 x72 x73 x74 (.int .i64 v62) (.int .i64 v60) (.int .i64 (Int.fdiv v60 (2 ^ min (Int.toNat 4) (IntKind.bits .i64)))) (.int .i64 (IntKind.i64.wrap (4 + (Int.fdiv v60 (2 ^ min (Int.toNat 4) (IntKind.bits .i64)))))) (.bool (decide ((v62 : Int) >= (IntKind.i64.wrap (4 + (Int.fdiv v60 (2 ^ min (Int.toNat 4) (IntKind.bits .i64)))))))) (.int .i64 v60) (.int .i64 v61) (.bool (decide ((v60 : Int) < v61))) (decide ((v60 : Int) < v61)))
 (j77 v55 v56 v57 c0_58 c1_59 v60 v61 v62 x63 x64 x65 x66 x67 x68 x69 x70 x71 x72 x73 x74 (.int .i64 v62) (.int .i64 v60) (.int .i64 (Int.fdiv v60 (2 ^ min (Int.toNat 4) (IntKind.bits .i64)))) (.int .i64 (IntKind.i64.wrap (4 + (Int.fdiv v60 (2 ^ min (Int.toNat 4) (IntKind.bits .i64)))))) (.bool (decide ((v62 : Int) >= (IntKind.i64.wrap (4 + (Int.fdiv v60 (2 ^ min (Int.toNat 4) (IntKind.bits .i64)))))))) (.tuple ⟨[]⟩) (.tuple ⟨[]⟩) (.tuple ⟨[]⟩) false)))
 (j77 v55 v56 v57 c0_58 c1_59 v60 v61 v62 x63 x64 x65 x66 x67 x68 x69 x70 x71 x72 x73 x74 (.tuple ⟨[]⟩) (.tuple ⟨[]⟩) (.tuple ⟨[]⟩) (.tuple ⟨[]⟩) (.tuple ⟨[]⟩) (.tuple ⟨[]⟩) (.tuple ⟨[]⟩) (.tuple ⟨[]⟩) false))))) (fun j54 => rdT (rdC 0 0) kI (fun (x109 : Int) => brW (decide ((v39 : Int) <= x109)) (callT Tryz.prog 89 [.int .i64 (IntKind.i64.wrap (v42 + 1))] kI (fun (x110 : Int) =>
 j54 v37 v38 v39 c0_40 c1_41 (IntKind.i64.wrap (v42 + 1)) v43 (IntKind.i64.wrap (v44 + 1)) x45 x46 x47 x48 x49 x50 x51 x52 (.int .i64 (IntKind.i64.wrap (v44 + 1))) (.int .i64 (IntKind.i64.wrap (v42 + 1))) (.int .i64 x110) (.bool (decide (((IntKind.i64.wrap (v44 + 1)) : Int) > x110))) (decide (((IntKind.i64.wrap (v44 + 1)) : Int) > x110))))
 (j54 v37 v38 v39 c0_40 c1_41 (IntKind.i64.wrap (v42 + 1)) v43 (IntKind.i64.wrap (v44 + 1)) x45 x46 x47 x48 x49 x50 x51 x52 (.tuple ⟨[]⟩) (.tuple ⟨[]⟩) (.tuple ⟨[]⟩) (.tuple ⟨[]⟩) false))))) (fun j36 => idxW v28 (IntKind.i64.wrap (v33 + 1)) (fun ch111 => brW ((ch111.toNat : Int) == c1_32) (ifW (bndOk (some (IntKind.i64.wrap (v33 + v30))) v28.size /\ bndOk (some v33) ((IntKind.i64.wrap (v33 + v30)).toNat))
 (j36 v28 v29 v30 c0_31 c1_32 v33 v34 v35 (.string v28) (.int .i64 v33) (.int .i64 v33) (.int .i64 v30) (.int .i64 (IntKind.i64.wrap (v33 + v30))) (.string (v28.extract v33.toNat ((IntKind.i64.wrap (v33 + v30)).toNat))) (.string v29) (.bool (strEq (v28.extract v33.toNat ((IntKind.i64.wrap (v33 + v30)).toNat)) v29)) (strEq (v28.extract v33.toNat ((IntKind.i64.wrap (v33 + v30)).toNat)) v29)))
 (j36 v28 v29 v30 c0_31 c1_32 v33 v34 v35 (.tuple ⟨[]⟩) (.tuple ⟨[]⟩) (.tuple ⟨[]⟩) (.tuple ⟨[]⟩) (.tuple ⟨[]⟩) (.tuple ⟨[]⟩) (.tuple ⟨[]⟩) (.tuple ⟨[]⟩) false)))) (fun j27 => idxW v19 v24 (fun ch112 => brW ((ch112.toNat : Int) != c0_22) (ifW (bndOk (some v25) v19.size /\ bndOk (some (IntKind.i64.wrap (v24 + 1))) (v25.toNat)) (callT Tryz.prog 73 [.string (v19.extract ((IntKind.i64.wrap (v24 + 1)).toNat) v25.toNat), .int .u8 c0_22] kI (fun (x113 : Int) =>
 brW (decide ((x113 : Int) < 0)) (K (.int .i64 (-1))) (j27 v19 v20 v21 c0_22 c1_23 (IntKind.i64.wrap (v24 + (IntKind.i64.wrap (x113 + 1)))) v25 v26)))) (j27 v19 v20 v21 c0_22 c1_23 v24 v25 v26)))) (K (.int .i64 (-1))))) (fun (R114 : ByteArray -> ByteArray -> Int -> Int -> Int -> Int -> Int -> Int -> H -> Prop) => R114 v11 v12 v13 (ch16.toNat : Int) (ch17.toNat : Int) 0 (IntKind.i64.wrap ((IntKind.i64.wrap (((v11.size : Nat) : Int) - v13)) + 1)) 0))))) (fun j10 =>
 rdT (rdC 0 0) kI (fun (x115 : Int) => brW (decide ((v6 : Int) <= x115)) (j10 v4 v5 v6 (decide (((v4.size : Nat) : Int) <= 64))) (j10 v4 v5 v6 false))))))) (fun j3 => brW (((v2.size : Nat) : Int) == 0) (j3 v1 v2 ((v2.size : Nat) : Int) true) (j3 v1 v2 ((v2.size : Nat) : Int) (strEq v2 v1)))
theorem c67 (v1 : ByteArray) (v2 : ByteArray) {K : KH} {σ : H} : g67 v1 v2 K σ -> callW Tryz.prog 67 [.string v1, .string v2] K σ := call_k an67 Tryz.func67 (by kernel_rfl)


def an68 : Ann := (.q (.q .z))
def g68 (v1 : Sl) (v2 : ByteArray) (v3 : ByteArray) (v4 : Option Addr) (K : KH) : H -> Prop :=
 alW (.cells ⟨[.slice v1.base v1.len v1.cap]⟩ 26 (0, 0)) (fun b5 => alW (.cells ⟨[.string v2]⟩ 9 (0, 0)) (fun b6 => alW (.cells ⟨[.string v3]⟩ 9 (0, 0)) (fun b7 => alW (.cells ⟨[.pointer v4]⟩ 106 (0, 0)) (fun b8 => K (.func (.func 91) ⟨[]⟩ ⟨[.pointer (some ⟨b5, 0, none⟩), .pointer (some ⟨b8, 0, none⟩), .pointer (some ⟨b7, 0, none⟩), .pointer (some ⟨b6, 0, none⟩)]⟩)))))
theorem c68 (v1 : Sl) (v2 : ByteArray) (v3 : ByteArray) (v4 : Option Addr) {K : KH} {σ : H} : g68 v1 v2 v3 v4 K σ -> callW Tryz.prog 68 [.slice v1.base v1.len v1.cap, .string v2, .string v3, .pointer v4] K σ := call_k an68 Tryz.func68 (by kernel_rfl)


def an69 : Ann := (.q (.q (.q .z)))
def g69 (v1 : Option Addr) (v2 : ByteArray) (v3 : ByteArray) (K : KH) : H -> Prop :=
 alW (.cells ⟨[.string ⟨⟨[]⟩⟩]⟩ 9 (0, 0)) (fun b4 => callT Tryz.prog 92 [.pointer v1, .string v2, .string v3, .bool true, .func (.func 93) ⟨[]⟩ ⟨[.pointer (some ⟨b4, 0, none⟩)]⟩] kI (fun (x5 : Int) => rdT (rdC b4 0) kS (fun (x6 : ByteArray) => stW Tryz.prog 9 (.pointer (some ⟨b4, 0, none⟩)) (.string x6) (rdT (rdC b4 0) kS (fun (r7 : ByteArray) => K (.tuple ⟨[.string r7, .int .i64 x5]⟩))))))
theorem c69 (v1 : Option Addr) (v2 : ByteArray) (v3 : ByteArray) {K : KH} {σ : H} : g69 v1 v2 v3 K σ -> callW Tryz.prog 69 [.pointer v1, .string v2, .string v3] K σ := call_k an69 Tryz.func69 (by kernel_rfl)


def an70 : Ann := (.q (.q (.q (.q .z))))
def g70 (v1 : Option Addr) (v2 : ByteArray) (K : KH) : H -> Prop :=
 callT Tryz.prog 94 [.pointer v1] kU (ptrW v1 (fun b3 o4 => rdT (rdC b3 (o4 + 1)) kL (fun x5 => biW Tryz.prog .append #[22, 9] 22 [false, false] [.slice x5.base x5.len x5.cap, .string v2] kL (fun x6 => ptrW v1 (fun b7 o8 => stW Tryz.prog 22 (.pointer (some ⟨b7, o8 + 1, none⟩)) (.slice x6.base x6.len x6.cap) (K (.tuple ⟨[.int .i64 ((v2.size : Nat) : Int), .nilIface]⟩)))))))
theorem c70 (v1 : Option Addr) (v2 : ByteArray) {K : KH} {σ : H} : g70 v1 v2 K σ -> callW Tryz.prog 70 [.pointer v1, .string v2] K σ := call_k an70 Tryz.func70 (by kernel_rfl)


def an71 : Ann := (.q (.n (.reg [0,1,2,3,5,6,7,8,4,9,10,11] [[],[0],[0,1],[0,1,2],(rn 4),[],[5],[5,6],[5,6,7],[5,6,7,8],(rn 10),(rn 11)]) .z))
def g71 (v1 : Option Addr) (K : KH) : H -> Prop :=
 ptrW v1 (fun b2 o3 => rdT (rdC b2 (o3 + 1)) kL (fun x4 => ptrW v1 (fun b5 o6 => rdT (rdC b5 (o6 + 1)) kL (fun x7 => biW Tryz.prog .unsafeSliceData #[22] 150 [false] [.slice x4.base x4.len x4.cap] kP (fun x8 => andW (fun σ => (rdC b5 (o6 + 1)) σ = some (.slice x7.base x7.len x7.cap)) (biW Tryz.prog .unsafeString #[150, 3] 9 [false, false] [.pointer x8, .int .i64 ((x7.len : Nat) : Int)] kS (fun (x9 : ByteArray) => K (.string x9))))))))
theorem c71 (v1 : Option Addr) {K : KH} {σ : H} : g71 v1 K σ -> callW Tryz.prog 71 [.pointer v1] K σ := call_k an71 Tryz.func71 (by kernel_rfl)


def an72 : Ann := (.q (.n (.seq (some [(0,.s),(17,.b)]) .r (.h)) (.q (.n (.reg (rn 5) [[],[],[1],[0],(rn 4)]) .z))))
def g72 (v1 : ByteArray) (K : KH) : H -> Prop :=
 letJ (T := ByteArray -> Bool -> H -> Prop) (fun v3 x4 => brW x4 (K (.tuple ⟨[.int .i64 0, .bool false]⟩)) (callT Tryz.prog 96 [.string v3] (.tup [.sc (.int .i64), .sc .raw]) (fun (x5 : Int) (x6 : Value) => vaW Tryz.prog (do eqGuard .eql 116 (.tmp 24) (.const (.nilIface)) (x6) (.nilIface); binOp .eql 116 (x6) (.nilIface)) kB (fun x7 => K (.tuple ⟨[.int .i64 x5, .bool x7]⟩))))) (fun j2 => brW (strEq v1 (⟨⟨[]⟩⟩ : ByteArray)) (j2 v1 true) (brW (decide (((v1.size : Nat) : Int) > 6))
 (j2 v1 true) (callT Tryz.prog 95 [.string v1, .string ⟨⟨[48, 49, 50, 51, 52, 53, 54, 55, 56, 57]⟩⟩] kS (fun (x8 : ByteArray) => j2 v1 (!strEq x8 (⟨⟨[]⟩⟩ : ByteArray))))))
theorem c72 (v1 : ByteArray) {K : KH} {σ : H} : g72 v1 K σ -> callW Tryz.prog 72 [.string v1] K σ := call_k an72 Tryz.func72 (by kernel_rfl)


def an73 : Ann := (.q (.q .z))
def g73 (v1 : ByteArray) (v2 : Int) (K : KH) : H -> Prop :=
 cvalT Tryz.prog (.func (.func 97) ⟨[]⟩ ⟨[]⟩) [.string v1, .int .u8 v2] kI (fun (x3 : Int) => K (.int .i64 x3))
theorem c73 (v1 : ByteArray) (v2 : Int) {K : KH} {σ : H} : g73 v1 v2 K σ -> callW Tryz.prog 73 [.string v1, .int .u8 v2] K σ := call_k an73 Tryz.func73 (by kernel_rfl)


def an75 : Ann := (.q (.n (.q (.cond .r .z)) (.n (.reg (rn 13) [[],[0],[0,1],[0,1,2],(rn 4),[],[5],[5,6],[5,6,7],[5,6,7,8],(rn 10),[],(rn 12)]) (.cond .r .z))))
def g75 (v1 : Option Addr) (v2 : Int) (K : KH) : H -> Prop :=
 callT Tryz.prog 94 [.pointer v1] kU (brW (decide ((v2 : Int) < 0)) (nW) (ptrW v1 (fun b3 o4 => rdT (rdC b3 (o4 + 1)) kL (fun x5 => ptrW v1 (fun b6 o7 => rdT (rdC b6 (o7 + 1)) kL (fun x8 => brW (decide (((IntKind.i64.wrap (((x5.cap : Nat) : Int) - ((x8.len : Nat) : Int))) : Int) < v2)) (callT Tryz.prog 99 [.pointer v1, .int .i64 v2] kU (K (.tuple ⟨[]⟩))) (K (.tuple ⟨[]⟩))))))))
theorem c75 (v1 : Option Addr) (v2 : Int) {K : KH} {σ : H} : g75 v1 v2 K σ -> callW Tryz.prog 75 [.pointer v1, .int .i64 v2] K σ := call_k an75 Tryz.func75 (by kernel_rfl)


def an76 : Ann := (.q (.q .z))
def g76 (v1 : ByteArray) (v2 : ByteArray) (K : KH) : H -> Prop :=
 callT Tryz.prog 100 [.string v1, .string v2, .int .i64 0] kR (fun x3 => K (x3))
theorem c76 (v1 : ByteArray) (v2 : ByteArray) {K : KH} {σ : H} : g76 v1 v2 K σ -> callW Tryz.prog 76 [.string v1, .string v2] K σ := call_k an76 Tryz.func76 (by kernel_rfl)


def an77 : Ann := (.q (.q .z))
def g77 (v1 : ByteArray) (v2 : ByteArray) (K : KH) : H -> Prop :=
 callT Tryz.prog 101 [.string v1, .string v2] (.tup [.sc .str, .sc .str, .sc .bool]) (fun (x3 : ByteArray) (x4 : ByteArray) (x5 : Bool) => K (.tuple ⟨[.string x3, .string x4, .bool x5]⟩))
theorem c77 (v1 : ByteArray) (v2 : ByteArray) {K : KH} {σ : H} : g77 v1 v2 K σ -> callW Tryz.prog 77 [.string v1, .string v2] K σ := call_k an77 Tryz.func77 (by kernel_rfl)


def an78 : Ann := (.q (.q .z))
def g78 (v1 : Sl) (v2 : Value) (K : KH) : H -> Prop :=
 callT Tryz.prog 102 [.slice v1.base v1.len v1.cap, v2] kI (fun (x3 : Int) => K (.bool (decide ((x3 : Int) >= 0))))
theorem c78 (v1 : Sl) (v2 : Value) {K : KH} {σ : H} : g78 v1 v2 K σ -> callW Tryz.prog 78 [.slice v1.base v1.len v1.cap, v2] K σ := call_k an78 Tryz.func78 (by kernel_rfl)


def an79 : Ann := (.q (.q .z))
def g79 (v1 : Int) (v2 : Int) (x3 : Option Addr) (K : KH) : H -> Prop :=
 alW (.cells ⟨[.int .i64 v1, .int .i64 v2]⟩ 135 (0, 0)) (fun b4 => ptrW x3 (fun b5 o6 => rdT (rdC b5 o6) kI (fun (x7 : Int) => ifW (0 <= (0 : Int) /\ (0 : Int) < ((2 : Nat) : Int)) (rdT (rdC b4 (0 + (0 : Int).toNat * 1)) kI (fun (x8 : Int) => brW (decide ((x7 : Int) >= x8)) (ptrW x3 (fun b9 o10 => rdT (rdC b9 o10) kI (fun (x11 : Int) => ifW (0 <= (1 : Int) /\ (1 : Int) < ((2 : Nat) : Int)) (rdT (rdC b4 (0 + (1 : Int).toNat * 1)) kI (fun (x12 : Int) => K (.bool (decide ((x11 : Int) <= x12))))))))
 (K (.bool false)))))))
theorem c79 (v1 : Int) (v2 : Int) (x3 : Option Addr) {K : KH} {σ : H} : g79 v1 v2 x3 K σ -> callW Tryz.prog 79 [.agg ⟨[.int .i64 v1, .int .i64 v2]⟩, .pointer x3] K σ := call_k an79 Tryz.func79 (by kernel_rfl)


def an80 : Ann := (.q (.q .z))
def g80 (v1 : ByteArray) (K : KH) : H -> Prop :=
 K (.bool (!strEq v1 v1))
theorem c80 (v1 : ByteArray) {K : KH} {σ : H} : g80 v1 K σ -> callW Tryz.prog 80 [.string v1] K σ := call_k an80 Tryz.func80 (by kernel_rfl)


def an81 : Ann := (.q (.n (.q (.blk (.loop [(0,.s),(1,.sc (.int .u8)),(5,.i)] (.n (.q (.cond .z .z)) (.n (.blk (.q (.h))) .r))))) (.q .z)))
def g81 (v1 : ByteArray) (v2 : Int) (K : KH) : H -> Prop :=
 loopW [.sc .str, .sc (.int .u8), .sc (.int .i64)] (fun (R3 : ByteArray -> Int -> Int -> H -> Prop) => (fun (v4 : ByteArray) (v5 : Int) (v6 : Int) => brW (decide ((v6 : Int) >= 0)) (idxW v4 v6 (fun ch7 => brW ((ch7.toNat : Int) == v5) (K (.int .i64 v6)) (R3 v4 v5 (IntKind.i64.wrap (v6 - 1))))) (K (.int .i64 (-1))))) (fun (R8 : ByteArray -> Int -> Int -> H -> Prop) => R8 v1 v2 (IntKind.i64.wrap (((v1.size : Nat) : Int) - 1)))
theorem c81 (v1 : ByteArray) (v2 : Int) {K : KH} {σ : H} : g81 v1 v2 K σ -> callW Tryz.prog 81 [.string v1, .int .u8 v2] K σ := call_k an81 Tryz.func81 (by kernel_rfl)


def an82 : Ann := (.q (.q .z))
def g82 (v1 : Int) (K : KH) : H -> Prop :=
 K (.bool ((v1 : Int) != v1))
theorem c82 (v1 : Int) {K : KH} {σ : H} : g82 v1 K σ -> callW Tryz.prog 82 [.int .i64 v1] K σ := call_k an82 Tryz.func82 (by kernel_rfl)


def an84 : Ann := (.q (.q .z))
def g84 (v1 : ByteArray) (v2 : ByteArray) (K : KH) : H -> Prop :=
 callT Tryz.prog 107 [.string v1, .string v2] (.tup [.sc .str, .sc .bool]) (fun (x3 : ByteArray) (x4 : Bool) => K (.tuple ⟨[.string x3, .bool x4]⟩))
theorem c84 (v1 : ByteArray) (v2 : ByteArray) {K : KH} {σ : H} : g84 v1 v2 K σ -> callW Tryz.prog 84 [.string v1, .string v2] K σ := call_k an84 Tryz.func84 (by kernel_rfl)


def an85 : Ann := (.q (.q (.n (.seq (some [(0,.s),(17,.b)]) .r (.h)) (.q (.n (.q (.h)) (.q .z))))))
def g85 (v1 : ByteArray) (K : KH) : H -> Prop :=
 callT Tryz.prog 95 [.string v1, .string ⟨⟨[32, 9]⟩⟩] kS (fun (x2 : ByteArray) => letJ (T := ByteArray -> Bool -> H -> Prop) (fun v4 x5 => brW x5 (K (.tuple ⟨[.int .i64 0, .float .f64 0]⟩)) (callT Tryz.prog 110 [.string v4, .int .i64 64] (.tup [.sc .raw, .sc .raw]) (fun x6 _x7 => callT Tryz.prog 111 [x6] kB (fun x8 => brW x8 (K (.tuple ⟨[.int .i64 1, .float .f64 0]⟩)) (K (.tuple ⟨[.int .i64 2, x6]⟩)))))) (fun j3 => callT Tryz.prog 108 [.string x2] kB (fun x9 => brW (!x9)
 (brW (!strEq x2 (⟨⟨[110, 97, 110]⟩⟩ : ByteArray)) (callT Tryz.prog 109 [.string x2] kS (fun (x10 : ByteArray) => j3 x2 (!strEq x10 (⟨⟨[105, 110, 102]⟩⟩ : ByteArray)))) (j3 x2 false)) (j3 x2 false))))
theorem c85 (v1 : ByteArray) {K : KH} {σ : H} : g85 v1 K σ -> callW Tryz.prog 85 [.string v1] K σ := call_k an85 Tryz.func85 (by kernel_rfl)

end Go.Proofs.YtpfkfphjigcdeaaGreatDoor

set_option maxRecDepth 100000
namespace Go.Proofs.YtpfkfphjigcdeaaGreatDoor
open Go Go.HL
def an86 : Ann := (.q (.q (.n (.blk (.loop [(0,.l),(1,.i),(2,.w),(6,.i),(7,.i),(8,.i)] (.n (.q (.cond .z .z)) (.blk (.q (.q .r)))))) (.q (.blk (.loop [(0,.l),(1,.i),(2,.w),(6,.i)] (.n (.q (.cond .z .z)) (.blk (.q (.n (.blk (.loop [(0,.l),(1,.i),(2,.w),(6,.i),(7,.i),(8,.i)] (.n (.q (.cond .z .z)) (.blk (.q (.q .r)))))) (.seq (some [(0,.l),(1,.i),(2,.w),(6,.i)]) (.q (.q (.cond .r .z))) .r)))))))))))
def g86 (v1 : Sl) (v2 : Int) (v3 : Value) (K : KH) : H -> Prop :=
 loopW [.sc .slc, .sc (.int .i64), .sc .raw, .sc (.int .i64), .sc (.int .i64), .sc (.int .i64)] (fun (R4 : Sl -> Int -> Value -> Int -> Int -> Int -> H -> Prop) => (fun (v5 : Sl) (v6 : Int) (v7 : Value) (v8 : Int) (v9 : Int) (v10 : Int) => brW (decide ((v10 : Int) <= v6)) (callT Tryz.prog 112 [.slice v5.base v5.len v5.cap, .int .i64 v9, .int .i64 v10, v7] kU (R4 v5 v6 v7 v8 v10 (IntKind.i64.wrap (v10 + v8))))
 (callT Tryz.prog 112 [.slice v5.base v5.len v5.cap, .int .i64 v9, .int .i64 v6, v7] kU (loopW [.sc .slc, .sc (.int .i64), .sc .raw, .sc (.int .i64)] (fun (R11 : Sl -> Int -> Value -> Int -> H -> Prop) => (fun (v12 : Sl) (v13 : Int) (v14 : Value) (v15 : Int) => brW (decide ((v15 : Int) < v13))
 (loopW [.sc .slc, .sc (.int .i64), .sc .raw, .sc (.int .i64), .sc (.int .i64), .sc (.int .i64)] (fun (R16 : Sl -> Int -> Value -> Int -> Int -> Int -> H -> Prop) => (fun (v17 : Sl) (v18 : Int) (v19 : Value) (v20 : Int) (v21 : Int) (v22 : Int) => brW (decide ((v22 : Int) <= v18))
 (callT Tryz.prog 113 [.slice v17.base v17.len v17.cap, .int .i64 v21, .int .i64 (IntKind.i64.wrap (v21 + v20)), .int .i64 v22, v19] kU (R16 v17 v18 v19 v20 v22 (IntKind.i64.wrap (v22 + (IntKind.i64.wrap (2 * v20)))))) (letJ (T := Sl -> Int -> Value -> Int -> H -> Prop) (fun v24 v25 v26 v27 => R11 v24 v25 v26 (IntKind.i64.wrap (v27 * 2))) (fun j23 =>
 brW (decide (((IntKind.i64.wrap (v21 + v20)) : Int) < v18)) (callT Tryz.prog 113 [.slice v17.base v17.len v17.cap, .int .i64 v21, .int .i64 (IntKind.i64.wrap (v21 + v20)), .int .i64 v18, v19] kU (j23 v17 v18 v19 v20)) (j23 v17 v18 v19 v20))))) (fun (R28 : Sl -> Int -> Value -> Int -> Int -> Int -> H -> Prop) => R28 v12 v13 v14 v15 0 (IntKind.i64.wrap (2 * v15))))
 (K (.tuple ⟨[]⟩)))) (fun (R29 : Sl -> Int -> Value -> Int -> H -> Prop) => R29 v5 v6 v7 v8))))) (fun (R30 : Sl -> Int -> Value -> Int -> Int -> Int -> H -> Prop) => R30 v1 v2 v3 20 0 20)
theorem c86 (v1 : Sl) (v2 : Int) (v3 : Value) {K : KH} {σ : H} : g86 v1 v2 v3 K σ -> callW Tryz.prog 86 [.slice v1.base v1.len v1.cap, .int .i64 v2, v3] K σ := call_k an86 Tryz.func86 (by kernel_rfl)


def an91 : Ann := (.q (.blk (.loop [(0,.w),(2,.p),(3,.p),(4,.p)] (.n (.q (.cond .z .z)) (.blk (.q (.n (.seq (some [(0,.w),(2,.p),(3,.p),(4,.p),(6,.s),(29,.b)]) .r (.cond .z .z)) (.n (.reg (rn 7) [[],[],[1],[1,2],[1,2,3],(rn 5),(rn 6)]) (.n (.q (.cond .z .z)) (.n (.n (.reg (rn 5) [[],[],[1],[0,1,2],(rn 4)]) (.cond (.n (.reg (rn 7) [[],[0],[],[2],(rn 4),[],(rn 6)]) (.seq (some [(0,.w),(2,.p),(3,.p),(4,.p),(7,.p)]) (.q (.cond (.q (.q (.cond (.reg (rn 14) [[],[],[1],[1,2],[1,2,3],[1,2,3,4],[],[6],[6,7],[6,7,8],[1,2,3,4,5],[1,2,3,4,5,10],(rn 12),(rn 13)]) .z))) .z)) (.n (.q (.cond .z .z)) .z))) .z)) (.q (.blk (.loop [(0,.w),(2,.p),(3,.p),(4,.p),(6,.s),(8,.i)] (.n (.q (.cond .z .z)) (.n (.blk (.n (.reg (rn 13) [[],[],[],[1,2],[],[],[],[5,6],[4,5,6,7],[4,5,6,7,8],[1,2,3,4,5,6,7,8,9],(rn 11),(rn 12)]) (.cond .z .z))) .r)))))))))))))))
def g91 (v1 : Value) (x2 : Option Addr) (x3 : Option Addr) (x4 : Option Addr) (x5 : Option Addr) (K : KH) : H -> Prop :=
 ptrW x3 (fun b6 o7 => rdT (rdC b6 o7) kP (fun x8 => ptrW x2 (fun b9 o10 => rdT (rdC b9 o10) kL (fun x11 => ptrW x8 (fun b12 o13 => stW Tryz.prog 26 (.pointer (some ⟨b12, o13, none⟩)) (.slice x11.base x11.len x11.cap) (loopW [.sc .raw, .sc .ptr, .sc .ptr, .sc .ptr] (fun (R14 : Value -> Option Addr -> Option Addr -> Option Addr -> H -> Prop) => (fun v15 x16 x17 x18 => ptrW x16 (fun b19 o20 => rdT (rdC b19 o20) kP (fun x21 => ptrW x21 (fun b22 o23 => rdT (rdC b22 o23) kL (fun x24 =>
 brW (decide (((x24.len : Nat) : Int) > 0)) (ptrW x16 (fun b25 o26 => rdT (rdC b25 o26) kP (fun x27 => ptrW x27 (fun b28 o29 => rdT (rdC b28 o29) kL (fun x30 => ptrW x30.base (fun b31 o32 => ifW (0 <= (0 : Int) /\ (0 : Int) < ((x30.len : Nat) : Int)) (rdT (rdC b31 (o32 + (0 : Int).toNat * 1)) kS (fun (x33 : ByteArray) => letJ (T := Value -> Option Addr -> Option Addr -> Option Addr -> ByteArray -> Bool -> H -> Prop) (fun v35 x36 x37 x38 v39 x40 => brW x40 (K (.tuple ⟨[]⟩))
 (ptrW x36 (fun b41 o42 => rdT (rdC b41 o42) kP (fun x43 => ptrW x36 (fun b44 o45 => rdT (rdC b44 o45) kP (fun x46 => ptrW x46 (fun b47 o48 => rdT (rdC b47 o48) kL (fun x49 => ifW (bndOk none x49.cap /\ bndOk (some 1) x49.len) (ptrW x43 (fun b50 o51 => stW Tryz.prog 26 (.pointer (some ⟨b50, o51, none⟩)) (.slice (slBase x49.base ((1 : Int).toNat) x49.cap 1) (x49.len - ((1 : Int).toNat)) (x49.cap - ((1 : Int).toNat))) (brW (strEq v39 (⟨⟨[45, 45]⟩⟩ : ByteArray)) (K (.tuple ⟨[]⟩))
 (ptrW x37 (fun b52 o53 => rdT (rdC b52 o53) kS (fun (x54 : ByteArray) => idxW v39 1 (fun ch55 => callT Tryz.prog 40 [.string x54, .int .u8 (ch55.toNat : Int)] kI (fun (x56 : Int) => brW (decide ((x56 : Int) >= 0)) (idxW v39 1 (fun ch57 => ifW (bndOk none v39.size /\ bndOk (some 2) (v39.size)) (alW (.cells ⟨[.int .u8 0, .string ⟨⟨[]⟩⟩, .bool false]⟩ 108 (0, 0)) (fun b58 =>
 stW Tryz.prog 108 (.pointer (some ⟨b58, 0, none⟩)) (.agg ⟨[.int .u8 (ch57.toNat : Int), .string (v39.extract ((2 : Int).toNat) v39.size), .bool false]⟩) (letJ (T := Value -> Option Addr -> Option Addr -> Option Addr -> Option Addr -> H -> Prop) (fun v60 x61 x62 x63 v64 => ptrW v64 (fun b65 o66 => rdT (rdA 3 b65 o66) (.one (.agg [(.int .u8), .str, .bool])) (fun (x67 : Int) (x68 : ByteArray) (x69 : Bool) =>
 cvalT Tryz.prog v60 [.agg ⟨[.int .u8 x67, .string x68, .bool x69]⟩] kB (fun x70 => brW (!x70) (K (.tuple ⟨[]⟩)) (R14 v60 x61 x62 x63))))) (fun j59 => brW (((v39.size : Nat) : Int) == 2) (ptrW x36 (fun b71 o72 => rdT (rdC b71 o72) kP (fun x73 => ptrW x73 (fun b74 o75 => rdT (rdC b74 o75) kL (fun x76 => stW Tryz.prog 4 (.pointer (some ⟨b58, 2, none⟩)) (.bool (((x76.len : Nat) : Int) == 0)) (rdT (rdC b58 2) kB (fun x77 => brW (!x77) (ptrW x36 (fun b78 o79 =>
 rdT (rdC b78 o79) kP (fun x80 => ptrW x36 (fun b81 o82 => rdT (rdC b81 o82) kP (fun x83 => ptrW x83 (fun b84 o85 => rdT (rdC b84 o85) kL (fun x86 => ptrW x86.base (fun b87 o88 => ifW (0 <= (0 : Int) /\ (0 : Int) < ((x86.len : Nat) : Int)) (rdT (rdC b87 (o88 + (0 : Int).toNat * 1)) kS (fun (x89 : ByteArray) => ptrW x36 (fun b90 o91 => rdT (rdC b90 o91) kP (fun x92 => ptrW x92 (fun b93 o94 => rdT (rdC b93 o94) kL (fun x95 => ifW (bndOk none x95.cap /\ bndOk (some 1) x95.len)
 (stW Tryz.prog 9 (.pointer (some ⟨b58, 1, none⟩)) (.string x89) (andW (fun σ => (rdC b93 o94) σ = some (.slice x95.base x95.len x95.cap)) (andW (fun σ => (rdC b90 o91) σ = some (.pointer x92)) (andW (fun σ => (rdC b78 o79) σ = some (.pointer x80)) (ptrW x80 (fun b96 o97 =>
 stW Tryz.prog 26 (.pointer (some ⟨b96, o97, none⟩)) (.slice (slBase x95.base ((1 : Int).toNat) x95.cap 1) (x95.len - ((1 : Int).toNat)) (x95.cap - ((1 : Int).toNat))) (j59 v35 x36 x37 x38 (some ⟨b58, 0, none⟩)))))))))))))))))))))) (j59 v35 x36 x37 x38 (some ⟨b58, 0, none⟩))))))))) (j59 v35 x36 x37 x38 (some ⟨b58, 0, none⟩))))))))
 (loopW [.sc .raw, .sc .ptr, .sc .ptr, .sc .ptr, .sc .str, .sc (.int .i64)] (fun (R98 : Value -> Option Addr -> Option Addr -> Option Addr -> ByteArray -> Int -> H -> Prop) => (fun (v99 : Value) (x100 : Option Addr) (x101 : Option Addr) (x102 : Option Addr) (v103 : ByteArray) (v104 : Int) => brW (decide ((v104 : Int) < ((v103.size : Nat) : Int))) (idxW v103 v104 (fun ch105 => ptrW x102 (fun b106 o107 => rdT (rdC b106 o107) kS (fun (x108 : ByteArray) => idxW v103 v104 (fun ch109 =>
 callT Tryz.prog 40 [.string x108, .int .u8 (ch109.toNat : Int)] kI (fun (x110 : Int) => cvalT Tryz.prog v99 [.agg ⟨[.int .u8 (ch105.toNat : Int), .string ⟨⟨[]⟩⟩, .bool (decide ((x110 : Int) < 0))]⟩] kB (fun x111 => brW (!x111) (K (.tuple ⟨[]⟩)) (R98 v99 x100 x101 x102 v103 (IntKind.i64.wrap (v104 + 1))))))))))
 (R14 v99 x100 x101 x102))) (fun (R112 : Value -> Option Addr -> Option Addr -> Option Addr -> ByteArray -> Int -> H -> Prop) => R112 v35 x36 x37 x38 v39 1)))))))))))))))))) (fun j34 => brW (decide (((x33.size : Nat) : Int) < 2)) (j34 v15 x16 x17 x18 x33 true) (idxW x33 0 (fun ch113 => j34 v15 x16 x17 x18 x33 ((ch113.toNat : Int) != 45))))))))))))
 (K (.tuple ⟨[]⟩)))))))) (fun (R114 : Value -> Option Addr -> Option Addr -> Option Addr -> H -> Prop) => R114 v1 x3 x4 x5)))))))
theorem c91 (v1 : Value) (x2 : Option Addr) (x3 : Option Addr) (x4 : Option Addr) (x5 : Option Addr) {K : KH} {σ : H} : g91 v1 x2 x3 x4 x5 K σ -> callW Tryz.prog 91 [v1, .pointer x2, .pointer x3, .pointer x4, .pointer x5] K σ := call_k an91 Tryz.func91 (by kernel_rfl)


def an92 : Ann := (.q (.q (.n (.q (.h)) (.n (.reg (rn 13) [[],[0],[0,1],[0,1,2],[],[4],(rn 6),(rn 7),(rn 8),(rn 8),[],[0,1,2,3,4,5,6,7,8,10],(rn 12)]) (.n (.seq (some [(4,.w),(11,.p),(13,.p),(42,.b)]) .r (.h)) (.q .z))))))
def g92 (v1 : Option Addr) (v2 : ByteArray) (v3 : ByteArray) (v4 : Bool) (v5 : Value) (K : KH) : H -> Prop :=
 callT Tryz.prog 115 [.pointer v1, .string v2, .string v3, .bool v4] (.tup [.agg [(.int .i64), .str, (.int .i64), .bool], .sc (.int .i64)]) (fun (x6 : Int) (x7 : ByteArray) (x8 : Int) (x9 : Bool) (x10 : Int) => alW (.cells ⟨[.int .i64 0, .string ⟨⟨[]⟩⟩, .int .i64 0, .bool false]⟩ 174 (0, 0)) (fun b11 => stW Tryz.prog 174 (.pointer (some ⟨b11, 0, none⟩)) (.agg ⟨[.int .i64 x6, .string x7, .int .i64 x8, .bool x9]⟩) (brW ((x10 : Int) != 0) (K (.int .i64 x10))
 (ptrW v1 (fun b12 o13 => rdT (rdC b12 o13) kP (fun x14 => rdT (rdC b11 2) kI (fun (x15 : Int) => callT Tryz.prog 116 [.pointer x14, .int .i64 x15] (.tup [.agg [(.int .i64), (.int .i64), .str, (.int .i64)], .sc .bool]) (fun (x16 : Int) (x17 : Int) (x18 : ByteArray) (x19 : Int) (x20 : Bool) => alW (.cells ⟨[.int .i64 0, .int .i64 0, .string ⟨⟨[]⟩⟩, .int .i64 0]⟩ 65 (0, 0)) (fun b21 =>
 stW Tryz.prog 65 (.pointer (some ⟨b21, 0, none⟩)) (.agg ⟨[.int .i64 x16, .int .i64 x17, .string x18, .int .i64 x19]⟩) (letJ (T := Value -> Option Addr -> Option Addr -> Bool -> H -> Prop) (fun v23 v24 v25 x26 => brW x26 (K (.int .i64 5)) (ptrW v24 (fun b27 o28 => rdT (rdC b27 (o28 + 2)) kI (fun (x29 : Int) => ptrW v25 (fun b30 o31 => rdT (rdA 4 b30 o31) (.one (.agg [(.int .i64), (.int .i64), .str, (.int .i64)])) (fun (x32 : Int) (x33 : Int) (x34 : ByteArray) (x35 : Int) =>
 cvalT Tryz.prog v23 [.int .i64 x29, .agg ⟨[.int .i64 x32, .int .i64 x33, .string x34, .int .i64 x35]⟩] kI (fun (x36 : Int) => K (.int .i64 x36)))))))) (fun j22 => rdT (rdC b11 3) kB (fun x37 => brW (!x37) (j22 v5 (some ⟨b11, 0, none⟩) (some ⟨b21, 0, none⟩) true) (j22 v5 (some ⟨b11, 0, none⟩) (some ⟨b21, 0, none⟩) (!x20))))))))))))))
theorem c92 (v1 : Option Addr) (v2 : ByteArray) (v3 : ByteArray) (v4 : Bool) (v5 : Value) {K : KH} {σ : H} : g92 v1 v2 v3 v4 v5 K σ -> callW Tryz.prog 92 [.pointer v1, .string v2, .string v3, .bool v4, v5] K σ := call_k an92 Tryz.func92 (by kernel_rfl)


def an93 : Ann := (.q (.n (.q (.h)) (.q (.q .z))))
def g93 (__1 : Int) (v2 : Int) (v3 : Int) (v4 : ByteArray) (v5 : Int) (x6 : Option Addr) (K : KH) : H -> Prop :=
 alW (.cells ⟨[.int .i64 v2, .int .i64 v3, .string v4, .int .i64 v5]⟩ 65 (0, 0)) (fun b7 => rdT (rdC b7 0) kI (fun (x8 : Int) => brW ((x8 : Int) == 2) (K (.int .i64 7)) (rdT (rdC b7 2) kS (fun (x9 : ByteArray) => stW Tryz.prog 9 (.pointer x6) (.string x9) (K (.int .i64 0))))))
theorem c93 (__1 : Int) (v2 : Int) (v3 : Int) (v4 : ByteArray) (v5 : Int) (x6 : Option Addr) {K : KH} {σ : H} : g93 __1 v2 v3 v4 v5 x6 K σ -> callW Tryz.prog 93 [.int .i64 __1, .agg ⟨[.int .i64 v2, .int .i64 v3, .string v4, .int .i64 v5]⟩, .pointer x6] K σ := call_k an93 Tryz.func93 (by kernel_rfl)


def an94 : Ann := (.q (.cond .r (.q (.cond .z .z))))
def g94 (v1 : Option Addr) (K : KH) : H -> Prop :=
 ptrW v1 (fun b2 o3 => rdT (rdC b2 o3) kP (fun x4 => brW x4.isNone (vaW Tryz.prog (convert 109 179 (.pointer v1)) kR (fun x5 => cvalT Tryz.prog (.func (.func 117) ⟨[]⟩ ⟨[]⟩) [x5] kR (fun x6 => vaW Tryz.prog (convert 179 109 (x6)) kP (fun x7 => ptrW v1 (fun b8 o9 => stW Tryz.prog 109 (.pointer (some ⟨b8, o9, none⟩)) (.pointer x7) (K (.tuple ⟨[]⟩))))))) (ptrW v1 (fun b10 o11 => rdT (rdC b10 o11) kP (fun x12 =>
 vaW Tryz.prog (do eqGuard .neq 109 (.tmp 17) (.tmp 18) (.pointer x12) (.pointer v1); binOp .neq 109 (.pointer x12) (.pointer v1)) kB (fun x13 => brW x13 (nW) (K (.tuple ⟨[]⟩))))))))
theorem c94 (v1 : Option Addr) {K : KH} {σ : H} : g94 v1 K σ -> callW Tryz.prog 94 [.pointer v1] K σ := call_k an94 Tryz.func94 (by kernel_rfl)


def an96 : Ann := (.q (.q (.n (.q (.h)) (.q .z))))
def g96 (v1 : ByteArray) (K : KH) : H -> Prop :=
 callT Tryz.prog 121 [.string v1] (.tup [.sc (.int .i64), .sc .raw]) (fun (x2 : Int) (x3 : Value) => vaW Tryz.prog (do eqGuard .neq 116 (.tmp 11) (.const (.nilIface)) (x3) (.nilIface); binOp .neq 116 (x3) (.nilIface)) kB (fun x4 => brW x4 (callT Tryz.prog 122 [.string ⟨⟨[65, 116, 111, 105]⟩⟩, .string v1, .int .i64 0, .int .i64 0, x3] kR (fun x5 => K (.tuple ⟨[.int .i64 x2, x5]⟩))) (K (.tuple ⟨[.int .i64 x2, .nilIface]⟩))))
theorem c96 (v1 : ByteArray) {K : KH} {σ : H} : g96 v1 K σ -> callW Tryz.prog 96 [.string v1] K σ := call_k an96 Tryz.func96 (by kernel_rfl)


def an99 : Ann := (.n (.reg [0,1,2,3,4,5,6,7,9,10,11,12,8,13,14,15] [[],[0],[0,1],[0,1,2],(rn 4),(rn 5),[],(rn 7),(rn 8),[],[9],[9,10],[9,10,11],[9,10,11,12],(rn 14),(rn 15)]) (.q .r))
def g99 (v1 : Option Addr) (v2 : Int) (K : KH) : H -> Prop :=
 ptrW v1 (fun b3 o4 => rdT (rdC b3 (o4 + 1)) kL (fun x5 => ptrW v1 (fun b6 o7 => rdT (rdC b6 (o7 + 1)) kL (fun x8 => cvalT Tryz.prog (.func (.func 127) ⟨[]⟩ ⟨[]⟩) [.int .i64 (IntKind.i64.wrap ((IntKind.i64.wrap (2 * ((x5.cap : Nat) : Int))) + v2))] kL (fun x9 => andW (fun σ => (rdC b6 (o7 + 1)) σ = some (.slice x8.base x8.len x8.cap)) (ifW (bndOk (some ((x8.len : Nat) : Int)) x9.cap /\ bndOk none (((x8.len : Nat) : Int).toNat)) (ptrW v1 (fun b10 o11 => rdT (rdC b10 (o11 + 1)) kL (fun x12 =>
 biW Tryz.prog .copy #[22, 22] 3 [false, false] [.slice (slBase x9.base 0 x9.cap 1) ((((x8.len : Nat) : Int).toNat) - 0) (x9.cap - 0), .slice x12.base x12.len x12.cap] kI (fun (_x13 : Int) => ptrW v1 (fun b14 o15 => stW Tryz.prog 22 (.pointer (some ⟨b14, o15 + 1, none⟩)) (.slice (slBase x9.base 0 x9.cap 1) ((((x8.len : Nat) : Int).toNat) - 0) (x9.cap - 0)) (K (.tuple ⟨[]⟩)))))))))))))
theorem c99 (v1 : Option Addr) (v2 : Int) {K : KH} {σ : H} : g99 v1 v2 K σ -> callW Tryz.prog 99 [.pointer v1, .int .i64 v2] K σ := call_k an99 Tryz.func99 (by kernel_rfl)


def an100 : Ann := (.q (.q .z))
def g100 (v1 : ByteArray) (v2 : ByteArray) (v3 : Int) (K : KH) : H -> Prop :=
 alW (.cells ⟨[.string v1]⟩ 9 (0, 0)) (fun b4 => alW (.cells ⟨[.string v2]⟩ 9 (0, 0)) (fun b5 => alW (.cells ⟨[.int .i64 v3]⟩ 3 (0, 0)) (fun b6 => K (.func (.func 128) ⟨[]⟩ ⟨[.pointer (some ⟨b5, 0, none⟩), .pointer (some ⟨b4, 0, none⟩), .pointer (some ⟨b6, 0, none⟩)]⟩))))
theorem c100 (v1 : ByteArray) (v2 : ByteArray) (v3 : Int) {K : KH} {σ : H} : g100 v1 v2 v3 K σ -> callW Tryz.prog 100 [.string v1, .string v2, .int .i64 v3] K σ := call_k an100 Tryz.func100 (by kernel_rfl)


def an101 : Ann := (.q (.n (.q (.q (.cond (.n (.reg (rn 12) [[],[],[0,1],[],[],[],[5],[4,5,6],[3,4,5,6,7],[0,1,2],(rn 10),(rn 11)]) .z) .z))) (.q .z)))
def g101 (v1 : ByteArray) (v2 : ByteArray) (K : KH) : H -> Prop :=
 callT Tryz.prog 67 [.string v1, .string v2] kI (fun (x3 : Int) => brW (decide ((x3 : Int) >= 0)) (ifW (bndOk (some x3) v1.size /\ bndOk none (x3.toNat)) (ifW (bndOk none v1.size /\ bndOk (some (IntKind.i64.wrap (x3 + ((v2.size : Nat) : Int)))) (v1.size)) (K (.tuple ⟨[.string (v1.extract 0 x3.toNat), .string (v1.extract ((IntKind.i64.wrap (x3 + ((v2.size : Nat) : Int))).toNat) v1.size), .bool true]⟩)))) (K (.tuple ⟨[.string v1, .string ⟨⟨[]⟩⟩, .bool false]⟩)))
theorem c101 (v1 : ByteArray) (v2 : ByteArray) {K : KH} {σ : H} : g101 v1 v2 K σ -> callW Tryz.prog 101 [.string v1, .string v2] K σ := call_k an101 Tryz.func101 (by kernel_rfl)


def an102 : Ann := (.q (.n (.q (.blk (.loop [(0,.l),(1,.w),(7,.i),(8,.i)] (.q (.n (.cond .z .z) (.n (.blk (.q (.q (.h)))) .r)))))) (.q .z)))
def g102 (v1 : Sl) (v2 : Value) (K : KH) : H -> Prop :=
 loopW [.sc .slc, .sc .raw, .sc (.int .i64), .sc (.int .i64)] (fun (R3 : Sl -> Value -> Int -> Int -> H -> Prop) => (fun (v4 : Sl) (v5 : Value) (x6 : Int) (x7 : Int) => brW (decide ((x7 : Int) < x6)) (ptrW v4.base (fun b8 o9 => ifW (0 <= x7 /\ x7 < ((v4.len : Nat) : Int)) (rdT (rdA 2 b8 (o9 + x7.toNat * 2)) (.one (.agg [(.int .i64), (.int .i64)])) (fun (x10 : Int) (x11 : Int) => cvalT Tryz.prog v5 [.agg ⟨[.int .i64 x10, .int .i64 x11]⟩] kB (fun x12 => brW x12 (K (.int .i64 x7))
 (R3 v4 v5 x6 (IntKind.i64.wrap (x7 + 1)))))))) (K (.int .i64 (-1))))) (fun (R13 : Sl -> Value -> Int -> Int -> H -> Prop) => R13 v1 v2 ((v1.len : Nat) : Int) 0)
theorem c102 (v1 : Sl) (v2 : Value) {K : KH} {σ : H} : g102 v1 v2 K σ -> callW Tryz.prog 102 [.slice v1.base v1.len v1.cap, v2] K σ := call_k an102 Tryz.func102 (by kernel_rfl)


def an107 : Ann := (.q (.n (.q (.h)) (.q .z)))
def g107 (v1 : ByteArray) (v2 : ByteArray) (K : KH) : H -> Prop :=
 callT Tryz.prog 131 [.string v1, .string v2] kB (fun x3 => brW (!x3) (K (.tuple ⟨[.string v1, .bool false]⟩)) (ifW (bndOk none v1.size /\ bndOk (some ((v2.size : Nat) : Int)) (v1.size)) (K (.tuple ⟨[.string (v1.extract (((v2.size : Nat) : Int).toNat) v1.size), .bool true]⟩))))
theorem c107 (v1 : ByteArray) (v2 : ByteArray) {K : KH} {σ : H} : g107 v1 v2 K σ -> callW Tryz.prog 107 [.string v1, .string v2] K σ := call_k an107 Tryz.func107 (by kernel_rfl)


def an108 : Ann := (.q (.q (.seq (some [(0,.s),(3,.i)]) (.q (.q (.cond (.q (.q .r)) .z))) (.seq (some [(0,.s),(3,.i)]) (.seq (some [(0,.s),(3,.i),(39,.b)]) .r (.cond (.q (.q (.q (.h)))) .z)) (.q .z)))))
def g108 (v1 : ByteArray) (K : KH) : H -> Prop :=
 callT Tryz.prog 109 [.string v1] kS (fun (x2 : ByteArray) => callT Tryz.prog 132 [.string x2] (.tup [.sc .str, .sc (.int .i64)]) (fun (x3 : ByteArray) (x4 : Int) => letJ (T := ByteArray -> Int -> H -> Prop) (fun v6 v7 => letJ (T := ByteArray -> Int -> H -> Prop) (fun v9 v10 => brW (decide ((v10 : Int) > 0)) (K (.bool (strEq v9 (⟨⟨[]⟩⟩ : ByteArray)))) (K (.bool false))) (fun j8 => letJ (T := ByteArray -> Int -> Bool -> H -> Prop) (fun v12 v13 x14 => brW x14
 (ifW (bndOk none v12.size /\ bndOk (some 1) (v12.size)) (callT Tryz.prog 109 [.string (v12.extract ((1 : Int).toNat) v12.size)] kS (fun (x15 : ByteArray) => callT Tryz.prog 132 [.string x15] (.tup [.sc .str, .sc (.int .i64)]) (fun (x16 : ByteArray) (x17 : Int) => brW ((x17 : Int) == 0) (K (.bool false)) (j8 x16 v13))))) (j8 v12 v13)) (fun j11 => brW (!strEq v6 (⟨⟨[]⟩⟩ : ByteArray)) (idxW v6 0 (fun ch18 => brW ((ch18.toNat : Int) == 101) (j11 v6 v7 true)
 (idxW v6 0 (fun ch19 => j11 v6 v7 ((ch19.toNat : Int) == 69))))) (j11 v6 v7 false)))) (fun j5 => callT Tryz.prog 84 [.string x3, .string ⟨⟨[46]⟩⟩] (.tup [.sc .str, .sc .bool]) (fun (x20 : ByteArray) (x21 : Bool) => brW x21 (callT Tryz.prog 132 [.string x20] (.tup [.sc .str, .sc (.int .i64)]) (fun (x22 : ByteArray) (x23 : Int) => j5 x22 (IntKind.i64.wrap (x4 + x23)))) (j5 x3 x4)))))
theorem c108 (v1 : ByteArray) {K : KH} {σ : H} : g108 v1 K σ -> callW Tryz.prog 108 [.string v1] K σ := call_k an108 Tryz.func108 (by kernel_rfl)


def an109 : Ann := (.q (.n (.seq (some [(0,.s),(14,.b)]) .r (.h)) (.q .z)))
def g109 (v1 : ByteArray) (K : KH) : H -> Prop :=
 letJ (T := ByteArray -> Bool -> H -> Prop) (fun v3 x4 => brW x4 (ifW (bndOk none v3.size /\ bndOk (some 1) (v3.size)) (K (.string (v3.extract ((1 : Int).toNat) v3.size)))) (K (.string v3))) (fun j2 => brW (!strEq v1 (⟨⟨[]⟩⟩ : ByteArray)) (idxW v1 0 (fun ch5 => brW ((ch5.toNat : Int) == 43) (j2 v1 true) (idxW v1 0 (fun ch6 => j2 v1 ((ch6.toNat : Int) == 45))))) (j2 v1 false))
theorem c109 (v1 : ByteArray) {K : KH} {σ : H} : g109 v1 K σ -> callW Tryz.prog 109 [.string v1] K σ := call_k an109 Tryz.func109 (by kernel_rfl)


def an110 : Ann := (.q (.q (.n (.q (.h)) (.q .z))))
def g110 (v1 : ByteArray) (v2 : Int) (K : KH) : H -> Prop :=
 callT Tryz.prog 133 [.string v1, .int .i64 v2] (.tup [.sc .raw, .sc .raw]) (fun x3 x4 => vaW Tryz.prog (do eqGuard .neq 116 (.tmp 14) (.const (.nilIface)) (x4) (.nilIface); binOp .neq 116 (x4) (.nilIface)) kB (fun x5 => brW x5 (callT Tryz.prog 122 [.string ⟨⟨[80, 97, 114, 115, 101, 70, 108, 111, 97, 116]⟩⟩, .string v1, .int .i64 0, .int .i64 v2, x4] kR (fun x6 => K (.tuple ⟨[x3, x6]⟩))) (K (.tuple ⟨[x3, .nilIface]⟩))))
theorem c110 (v1 : ByteArray) (v2 : Int) {K : KH} {σ : H} : g110 v1 v2 K σ -> callW Tryz.prog 110 [.string v1, .int .i64 v2] K σ := call_k an110 Tryz.func110 (by kernel_rfl)


def an111 : Ann := (.q (.q .z))
def g111 (v1 : Value) (K : KH) : H -> Prop :=
 vaW Tryz.prog (do eqGuard .neq 141 (.tmp 3) (.tmp 4) (v1) (v1); binOp .neq 141 (v1) (v1)) kB (fun x2 => K (.bool x2))
theorem c111 (v1 : Value) {K : KH} {σ : H} : g111 v1 K σ -> callW Tryz.prog 111 [v1] K σ := call_k an111 Tryz.func111 (by kernel_rfl)


def an112 : Ann := (.q (.blk (.loop [(0,.l),(1,.i),(2,.i),(3,.w),(8,.i)] (.n (.q (.cond .z .z)) (.n (.blk (.q (.blk (.loop [(0,.l),(1,.i),(2,.i),(3,.w),(8,.i),(9,.i)] (.n (.seq (some [(0,.l),(1,.i),(2,.i),(3,.w),(8,.i),(9,.i),(22,.w),(23,.w),(24,.w),(25,.w),(26,.w),(27,.w),(28,.w),(29,.w),(30,.w),(31,.w),(32,.w),(33,.w),(34,.b)]) (.reg (rn 17) [[],[],[0,1],[0,1,2],(rn 4),(rn 4),(rn 4),[0,1,2,3,5,6],[0,1,2,3,5,6,7],(rn 4),(rn 4),[0,1,2,3,10],[0,1,2,3,9,10,11],[0,1,2,3,9,10,11,12],(rn 14),(rn 15),(rn 16)]) (.cond .z .z)) (.n (.blk (.reg (rn 18) [[],[],[],[],[3],[],[],[6],[5,6,7],[5,6,7,8],[],[],[10,11],[10,11,12],[0,1,5,6,7,8,9,10,11,12,13],[0,1,5,6,7,8,9,10,11,12,13,14],(rn 16),(rn 17)])) .r)))))) .r)))))
def g112 (v1 : Sl) (v2 : Int) (v3 : Int) (v4 : Value) (K : KH) : H -> Prop :=
 loopW [.sc .slc, .sc (.int .i64), .sc (.int .i64), .sc .raw, .sc (.int .i64)] (fun (R5 : Sl -> Int -> Int -> Value -> Int -> H -> Prop) => (fun (v6 : Sl) (v7 : Int) (v8 : Int) (v9 : Value) (v10 : Int) => brW (decide ((v10 : Int) < v8)) (loopW [.sc .slc, .sc (.int .i64), .sc (.int .i64), .sc .raw, .sc (.int .i64), .sc (.int .i64)] (fun (R11 : Sl -> Int -> Int -> Value -> Int -> Int -> H -> Prop) => (fun (v12 : Sl) (v13 : Int) (v14 : Int) (v15 : Value) (v16 : Int) (v17 : Int) =>
 letJ (T := Sl -> Int -> Int -> Value -> Int -> Int -> Value -> Value -> Value -> Value -> Value -> Value -> Value -> Value -> Value -> Value -> Value -> Value -> Bool -> H -> Prop) (fun v19 v20 v21 v22 v23 v24 _x25 _x26 _x27 _x28 _x29 _x30 _x31 _x32 _x33 _x34 _x35 _x36 x37 => brW x37 (ptrW v19.base (fun b38 o39 => ifW (0 <= IntKind.i64.wrap (v24 - 1) /\ IntKind.i64.wrap (v24 - 1) < ((v19.len : Nat) : Int))
 (rdT (rdC b38 (o39 + (IntKind.i64.wrap (v24 - 1) : Int).toNat * 1)) kS (fun (x40 : ByteArray) => ptrW v19.base (fun b41 o42 => ifW (0 <= v24 /\ v24 < ((v19.len : Nat) : Int)) (rdT (rdC b41 (o42 + v24.toNat * 1)) kS (fun (x43 : ByteArray) => ptrW v19.base (fun b44 o45 => ifW (0 <= v24 /\ v24 < ((v19.len : Nat) : Int)) (stW Tryz.prog 9 (.pointer (some ⟨b44, o45 + v24.toNat * 1, none⟩)) (.string x40) (ptrW v19.base (fun b46 o47 =>
 ifW (0 <= IntKind.i64.wrap (v24 - 1) /\ IntKind.i64.wrap (v24 - 1) < ((v19.len : Nat) : Int)) (stW Tryz.prog 9 (.pointer (some ⟨b46, o47 + (IntKind.i64.wrap (v24 - 1) : Int).toNat * 1, none⟩)) (.string x43) (R11 v19 v20 v21 v22 v23 (IntKind.i64.wrap (v24 - 1))))))))))))))) (R5 v19 v20 v21 v22 (IntKind.i64.wrap (v23 + 1)))) (fun j18 => brW (decide ((v17 : Int) > v13)) (ptrW v12.base (fun b48 o49 => ifW (0 <= v17 /\ v17 < ((v12.len : Nat) : Int))
 (rdT (rdC b48 (o49 + v17.toNat * 1)) kS (fun (x50 : ByteArray) => ptrW v12.base (fun b51 o52 => ifW (0 <= IntKind.i64.wrap (v17 - 1) /\ IntKind.i64.wrap (v17 - 1) < ((v12.len : Nat) : Int)) (rdT (rdC b51 (o52 + (IntKind.i64.wrap (v17 - 1) : Int).toNat * 1)) kS (fun (x53 : ByteArray) => cvalT Tryz.prog v15 [.string x50, .string x53] kI (fun (x54 : Int) =>
 j18 v12 v13 v14 v15 v16 v17 v15 (.slice v12.base v12.len v12.cap) (.int .i64 v17) (.pointer (some ⟨b48, o49 + v17.toNat * 1, none⟩)) (.string x50) (.slice v12.base v12.len v12.cap) (.int .i64 v17) (.int .i64 (IntKind.i64.wrap (v17 - 1))) (.pointer (some ⟨b51, o52 + (IntKind.i64.wrap (v17 - 1) : Int).toNat * 1, none⟩)) (.string x53) (.int .i64 x54) (.bool (decide ((x54 : Int) < 0))) (decide ((x54 : Int) < 0))))))))))
 (j18 v12 v13 v14 v15 v16 v17 (.tuple ⟨[]⟩) (.tuple ⟨[]⟩) (.tuple ⟨[]⟩) (.tuple ⟨[]⟩) (.tuple ⟨[]⟩) (.tuple ⟨[]⟩) (.tuple ⟨[]⟩) (.tuple ⟨[]⟩) (.tuple ⟨[]⟩) (.tuple ⟨[]⟩) (.tuple ⟨[]⟩) (.tuple ⟨[]⟩) false)))) (fun (R55 : Sl -> Int -> Int -> Value -> Int -> Int -> H -> Prop) => R55 v6 v7 v8 v9 v10 v10)) (K (.tuple ⟨[]⟩)))) (fun (R56 : Sl -> Int -> Int -> Value -> Int -> H -> Prop) => R56 v1 v2 v3 v4 (IntKind.i64.wrap (v2 + 1)))
theorem c112 (v1 : Sl) (v2 : Int) (v3 : Int) (v4 : Value) {K : KH} {σ : H} : g112 v1 v2 v3 v4 K σ -> callW Tryz.prog 112 [.slice v1.base v1.len v1.cap, .int .i64 v2, .int .i64 v3, v4] K σ := call_k an112 Tryz.func112 (by kernel_rfl)


def an113 : Ann := (.n (.q (.cond (.q (.q (.n (.blk (.loop [(0,.l),(1,.i),(4,.w),(10,.i),(11,.i)] (.n (.q (.cond .z .z)) (.blk (.q (.n (.reg (rn 11) [[],[],[],[1,2],[1,2,3],[],[],[5,6],[5,6,7],(rn 9),(rn 10)]) (.cond .r .r))))))) (.n (.q (.blk (.loop [(0,.l),(10,.i),(13,.i)] (.n (.q (.cond .z .z)) (.n (.blk (.reg (rn 18) [[],[],[],[],[3],[],[],[6],[5,6,7],[5,6,7,8],[],[],[10,11],[10,11,12],[0,1,5,6,7,8,9,10,11,12,13],[0,1,5,6,7,8,9,10,11,12,13,14],(rn 16),(rn 17)])) .r))))) .z)))) .z)) (.n (.q (.cond (.q (.q (.n (.blk (.loop [(0,.l),(2,.i),(4,.w),(14,.i),(15,.i)] (.n (.q (.cond .z .z)) (.blk (.q (.n (.reg (rn 12) [[],[],[],[1,2],[1,2,3],[],[],[5,6],[5,6,7],(rn 9),(rn 10),(rn 11)]) (.cond .r .r))))))) (.n (.q (.blk (.loop [(0,.l),(14,.i),(17,.i)] (.n (.q (.cond .z .z)) (.n (.blk (.reg (rn 18) [[],[],[],[],[3],[],[],[6],[5,6,7],[5,6,7,8],[],[],[10,11],[10,11,12],[0,1,5,6,7,8,9,10,11,12,13],[0,1,5,6,7,8,9,10,11,12,13,14],(rn 16),(rn 17)])) .r))))) .z)))) .z)) (.q (.q (.q (.seq (some [(0,.l),(1,.i),(2,.i),(3,.i),(4,.w),(18,.i),(19,.i),(20,.i),(21,.i)]) (.q (.cond (.q .r) (.q .r))) (.q (.n (.blk (.loop [(0,.l),(1,.i),(2,.i),(3,.i),(4,.w),(18,.i),(19,.i),(20,.i),(21,.i),(22,.i)] (.n (.q (.cond .z .z)) (.blk (.q (.n (.reg (rn 14) [[],[],[],[],[2,3],[1,2,3,4],[1,2,3,4,5],[],[],[7,8],[7,8,9],(rn 11),(rn 12),(rn 13)]) (.cond .r .r))))))) (.q (.seq (some [(0,.l),(1,.i),(3,.i),(4,.w),(18,.i),(20,.i),(24,.i)]) (.seq (some [(0,.l),(1,.i),(2,.i),(3,.i),(4,.w),(18,.i),(20,.i),(24,.i),(185,.b)]) .r (.cond .r .z)) (.seq (some [(0,.l),(3,.i),(4,.w),(18,.i),(24,.i)]) (.seq (some [(0,.l),(1,.i),(3,.i),(4,.w),(18,.i),(20,.i),(24,.i),(199,.b)]) .r (.cond .r .z)) (.seq (some [(0,.l),(3,.i),(4,.w),(18,.i),(24,.i),(213,.b)]) .r (.cond .r .z)))))))))))))
def g113 (v1 : Sl) (v2 : Int) (v3 : Int) (v4 : Int) (v5 : Value) (K : KH) : H -> Prop :=
 brW (((IntKind.i64.wrap (v3 - v2)) : Int) == 1) (loopW [.sc .slc, .sc (.int .i64), .sc .raw, .sc (.int .i64), .sc (.int .i64)] (fun (R6 : Sl -> Int -> Value -> Int -> Int -> H -> Prop) => (fun (v7 : Sl) (v8 : Int) (v9 : Value) (v10 : Int) (v11 : Int) => brW (decide ((v10 : Int) < v11)) (ifW (0 <= (1 : Int)) (ptrW v7.base (fun b12 o13 =>
 ifW (0 <= IntKind.i64.wrap (Int.fdiv (IntKind.u64.wrap (IntKind.i64.wrap (v10 + v11))) (2 ^ min (Int.toNat 1) (IntKind.bits .u64))) /\ IntKind.i64.wrap (Int.fdiv (IntKind.u64.wrap (IntKind.i64.wrap (v10 + v11))) (2 ^ min (Int.toNat 1) (IntKind.bits .u64))) < ((v7.len : Nat) : Int)) (rdT (rdC b12 (o13 + (IntKind.i64.wrap (Int.fdiv (IntKind.u64.wrap (IntKind.i64.wrap (v10 + v11))) (2 ^ min (Int.toNat 1) (IntKind.bits .u64))) : Int).toNat * 1)) kS (fun (x14 : ByteArray) =>
 ptrW v7.base (fun b15 o16 => ifW (0 <= v8 /\ v8 < ((v7.len : Nat) : Int)) (rdT (rdC b15 (o16 + v8.toNat * 1)) kS (fun (x17 : ByteArray) => cvalT Tryz.prog v9 [.string x14, .string x17] kI (fun (x18 : Int) => brW (decide ((x18 : Int) < 0)) (R6 v7 v8 v9 (IntKind.i64.wrap ((IntKind.i64.wrap (Int.fdiv (IntKind.u64.wrap (IntKind.i64.wrap (v10 + v11))) (2 ^ min (Int.toNat 1) (IntKind.bits .u64)))) + 1)) v11)
 (R6 v7 v8 v9 v10 (IntKind.i64.wrap (Int.fdiv (IntKind.u64.wrap (IntKind.i64.wrap (v10 + v11))) (2 ^ min (Int.toNat 1) (IntKind.bits .u64)))))))))))))) (loopW [.sc .slc, .sc (.int .i64), .sc (.int .i64)] (fun (R19 : Sl -> Int -> Int -> H -> Prop) => (fun (v20 : Sl) (v21 : Int) (v22 : Int) => brW (decide ((v22 : Int) < (IntKind.i64.wrap (v21 - 1)))) (ptrW v20.base (fun b23 o24 => ifW (0 <= IntKind.i64.wrap (v22 + 1) /\ IntKind.i64.wrap (v22 + 1) < ((v20.len : Nat) : Int))
 (rdT (rdC b23 (o24 + (IntKind.i64.wrap (v22 + 1) : Int).toNat * 1)) kS (fun (x25 : ByteArray) => ptrW v20.base (fun b26 o27 => ifW (0 <= v22 /\ v22 < ((v20.len : Nat) : Int)) (rdT (rdC b26 (o27 + v22.toNat * 1)) kS (fun (x28 : ByteArray) => ptrW v20.base (fun b29 o30 => ifW (0 <= v22 /\ v22 < ((v20.len : Nat) : Int)) (stW Tryz.prog 9 (.pointer (some ⟨b29, o30 + v22.toNat * 1, none⟩)) (.string x25) (ptrW v20.base (fun b31 o32 =>
 ifW (0 <= IntKind.i64.wrap (v22 + 1) /\ IntKind.i64.wrap (v22 + 1) < ((v20.len : Nat) : Int)) (stW Tryz.prog 9 (.pointer (some ⟨b31, o32 + (IntKind.i64.wrap (v22 + 1) : Int).toNat * 1, none⟩)) (.string x28) (R19 v20 v21 (IntKind.i64.wrap (v22 + 1))))))))))))))) (K (.tuple ⟨[]⟩)))) (fun (R33 : Sl -> Int -> Int -> H -> Prop) => R33 v7 v10 v8)))) (fun (R34 : Sl -> Int -> Value -> Int -> Int -> H -> Prop) => R34 v1 v2 v5 v3 v4)) (brW (((IntKind.i64.wrap (v4 - v3)) : Int) == 1)
 (loopW [.sc .slc, .sc (.int .i64), .sc .raw, .sc (.int .i64), .sc (.int .i64)] (fun (R35 : Sl -> Int -> Value -> Int -> Int -> H -> Prop) => (fun (v36 : Sl) (v37 : Int) (v38 : Value) (v39 : Int) (v40 : Int) => brW (decide ((v39 : Int) < v40)) (ifW (0 <= (1 : Int)) (ptrW v36.base (fun b41 o42 => ifW (0 <= v37 /\ v37 < ((v36.len : Nat) : Int)) (rdT (rdC b41 (o42 + v37.toNat * 1)) kS (fun (x43 : ByteArray) => ptrW v36.base (fun b44 o45 =>
 ifW (0 <= IntKind.i64.wrap (Int.fdiv (IntKind.u64.wrap (IntKind.i64.wrap (v39 + v40))) (2 ^ min (Int.toNat 1) (IntKind.bits .u64))) /\ IntKind.i64.wrap (Int.fdiv (IntKind.u64.wrap (IntKind.i64.wrap (v39 + v40))) (2 ^ min (Int.toNat 1) (IntKind.bits .u64))) < ((v36.len : Nat) : Int)) (rdT (rdC b44 (o45 + (IntKind.i64.wrap (Int.fdiv (IntKind.u64.wrap (IntKind.i64.wrap (v39 + v40))) (2 ^ min (Int.toNat 1) (IntKind.bits .u64))) : Int).toNat * 1)) kS (fun (x46 : ByteArray) =>
 cvalT Tryz.prog v38 [.string x43, .string x46] kI (fun (x47 : Int) => brW (!(decide ((x47 : Int) < 0))) (R35 v36 v37 v38 (IntKind.i64.wrap ((IntKind.i64.wrap (Int.fdiv (IntKind.u64.wrap (IntKind.i64.wrap (v39 + v40))) (2 ^ min (Int.toNat 1) (IntKind.bits .u64)))) + 1)) v40) (R35 v36 v37 v38 v39 (IntKind.i64.wrap (Int.fdiv (IntKind.u64.wrap (IntKind.i64.wrap (v39 + v40))) (2 ^ min (Int.toNat 1) (IntKind.bits .u64))))))))))))))
 (loopW [.sc .slc, .sc (.int .i64), .sc (.int .i64)] (fun (R48 : Sl -> Int -> Int -> H -> Prop) => (fun (v49 : Sl) (v50 : Int) (v51 : Int) => brW (decide ((v51 : Int) > v50)) (ptrW v49.base (fun b52 o53 => ifW (0 <= IntKind.i64.wrap (v51 - 1) /\ IntKind.i64.wrap (v51 - 1) < ((v49.len : Nat) : Int)) (rdT (rdC b52 (o53 + (IntKind.i64.wrap (v51 - 1) : Int).toNat * 1)) kS (fun (x54 : ByteArray) => ptrW v49.base (fun b55 o56 => ifW (0 <= v51 /\ v51 < ((v49.len : Nat) : Int))
 (rdT (rdC b55 (o56 + v51.toNat * 1)) kS (fun (x57 : ByteArray) => ptrW v49.base (fun b58 o59 => ifW (0 <= v51 /\ v51 < ((v49.len : Nat) : Int)) (stW Tryz.prog 9 (.pointer (some ⟨b58, o59 + v51.toNat * 1, none⟩)) (.string x54) (ptrW v49.base (fun b60 o61 => ifW (0 <= IntKind.i64.wrap (v51 - 1) /\ IntKind.i64.wrap (v51 - 1) < ((v49.len : Nat) : Int))
 (stW Tryz.prog 9 (.pointer (some ⟨b60, o61 + (IntKind.i64.wrap (v51 - 1) : Int).toNat * 1, none⟩)) (.string x57) (R48 v49 v50 (IntKind.i64.wrap (v51 - 1))))))))))))))) (K (.tuple ⟨[]⟩)))) (fun (R62 : Sl -> Int -> Int -> H -> Prop) => R62 v36 v39 v37)))) (fun (R63 : Sl -> Int -> Value -> Int -> Int -> H -> Prop) => R63 v1 v3 v5 v2 v3)) (ifW (0 <= (1 : Int))
 (letJ (T := Sl -> Int -> Int -> Int -> Value -> Int -> Int -> Int -> Int -> H -> Prop) (fun v65 v66 v67 v68 v69 v70 v71 v72 v73 =>
 loopW [.sc .slc, .sc (.int .i64), .sc (.int .i64), .sc (.int .i64), .sc .raw, .sc (.int .i64), .sc (.int .i64), .sc (.int .i64), .sc (.int .i64), .sc (.int .i64)] (fun (R74 : Sl -> Int -> Int -> Int -> Value -> Int -> Int -> Int -> Int -> Int -> H -> Prop) => (fun (v75 : Sl) (v76 : Int) (v77 : Int) (v78 : Int) (v79 : Value) (v80 : Int) (v81 : Int) (v82 : Int) (v83 : Int) (v84 : Int) => brW (decide ((v82 : Int) < v83)) (ifW (0 <= (1 : Int)) (ptrW v75.base (fun b85 o86 =>
 ifW (0 <= IntKind.i64.wrap (v84 - (IntKind.i64.wrap (Int.fdiv (IntKind.u64.wrap (IntKind.i64.wrap (v82 + v83))) (2 ^ min (Int.toNat 1) (IntKind.bits .u64))))) /\ IntKind.i64.wrap (v84 - (IntKind.i64.wrap (Int.fdiv (IntKind.u64.wrap (IntKind.i64.wrap (v82 + v83))) (2 ^ min (Int.toNat 1) (IntKind.bits .u64))))) < ((v75.len : Nat) : Int))
 (rdT (rdC b85 (o86 + (IntKind.i64.wrap (v84 - (IntKind.i64.wrap (Int.fdiv (IntKind.u64.wrap (IntKind.i64.wrap (v82 + v83))) (2 ^ min (Int.toNat 1) (IntKind.bits .u64))))) : Int).toNat * 1)) kS (fun (x87 : ByteArray) => ptrW v75.base (fun b88 o89 =>
 ifW (0 <= IntKind.i64.wrap (Int.fdiv (IntKind.u64.wrap (IntKind.i64.wrap (v82 + v83))) (2 ^ min (Int.toNat 1) (IntKind.bits .u64))) /\ IntKind.i64.wrap (Int.fdiv (IntKind.u64.wrap (IntKind.i64.wrap (v82 + v83))) (2 ^ min (Int.toNat 1) (IntKind.bits .u64))) < ((v75.len : Nat) : Int)) (rdT (rdC b88 (o89 + (IntKind.i64.wrap (Int.fdiv (IntKind.u64.wrap (IntKind.i64.wrap (v82 + v83))) (2 ^ min (Int.toNat 1) (IntKind.bits .u64))) : Int).toNat * 1)) kS (fun (x90 : ByteArray) =>
 cvalT Tryz.prog v79 [.string x87, .string x90] kI (fun (x91 : Int) => brW (!(decide ((x91 : Int) < 0))) (R74 v75 v76 v77 v78 v79 v80 v81 (IntKind.i64.wrap ((IntKind.i64.wrap (Int.fdiv (IntKind.u64.wrap (IntKind.i64.wrap (v82 + v83))) (2 ^ min (Int.toNat 1) (IntKind.bits .u64)))) + 1)) v83 v84)
 (R74 v75 v76 v77 v78 v79 v80 v81 v82 (IntKind.i64.wrap (Int.fdiv (IntKind.u64.wrap (IntKind.i64.wrap (v82 + v83))) (2 ^ min (Int.toNat 1) (IntKind.bits .u64)))) v84)))))))))) (letJ (T := Sl -> Int -> Int -> Value -> Int -> Int -> Int -> H -> Prop) (fun v93 v94 v95 v96 v97 v98 v99 => letJ (T := Sl -> Int -> Value -> Int -> Int -> H -> Prop) (fun v101 v102 v103 v104 v105 =>
 letJ (T := Sl -> Int -> Value -> Int -> Int -> Bool -> H -> Prop) (fun v107 v108 v109 v110 v111 x112 => brW x112 (callT Tryz.prog 113 [.slice v107.base v107.len v107.cap, .int .i64 v110, .int .i64 v111, .int .i64 v108, v109] kU (K (.tuple ⟨[]⟩))) (K (.tuple ⟨[]⟩))) (fun j106 => brW (decide ((v104 : Int) < v105)) (j106 v101 v102 v103 v104 v105 (decide ((v105 : Int) < v102))) (j106 v101 v102 v103 v104 v105 false))) (fun j100 =>
 letJ (T := Sl -> Int -> Int -> Value -> Int -> Int -> Int -> Bool -> H -> Prop) (fun v114 v115 v116 v117 v118 v119 v120 x121 => brW x121 (callT Tryz.prog 113 [.slice v114.base v114.len v114.cap, .int .i64 v115, .int .i64 v119, .int .i64 v118, v117] kU (j100 v114 v116 v117 v118 v120)) (j100 v114 v116 v117 v118 v120)) (fun j113 => brW (decide ((v94 : Int) < v98))
 (j113 v93 v94 v95 v96 v97 v98 v99 (decide ((v98 : Int) < v97))) (j113 v93 v94 v95 v96 v97 v98 v99 false)))) (fun j92 => letJ (T := Sl -> Int -> Int -> Int -> Value -> Int -> Int -> Int -> Bool -> H -> Prop) (fun v123 v124 v125 v126 v127 v128 v129 v130 x131 => brW x131
 (callT Tryz.prog 134 [.slice v123.base v123.len v123.cap, .int .i64 v129, .int .i64 v125, .int .i64 v130, v127] kU (j92 v123 v124 v126 v127 v128 v129 v130)) (j92 v123 v124 v126 v127 v128 v129 v130)) (fun j122 => brW (decide ((v82 : Int) < v77)) (j122 v75 v76 v77 v78 v79 v80 v82 (IntKind.i64.wrap (v81 - v82)) (decide ((v77 : Int) < (IntKind.i64.wrap (v81 - v82)))))
 (j122 v75 v76 v77 v78 v79 v80 v82 (IntKind.i64.wrap (v81 - v82)) false)))))) (fun (R132 : Sl -> Int -> Int -> Int -> Value -> Int -> Int -> Int -> Int -> Int -> H -> Prop) => R132 v65 v66 v67 v68 v69 v70 v71 v72 v73 (IntKind.i64.wrap (v71 - 1)))) (fun j64 => brW (decide ((v3 : Int) > (IntKind.i64.wrap (Int.fdiv (IntKind.u64.wrap (IntKind.i64.wrap (v2 + v4))) (2 ^ min (Int.toNat 1) (IntKind.bits .u64))))))
 (j64 v1 v2 v3 v4 v5 (IntKind.i64.wrap (Int.fdiv (IntKind.u64.wrap (IntKind.i64.wrap (v2 + v4))) (2 ^ min (Int.toNat 1) (IntKind.bits .u64)))) (IntKind.i64.wrap ((IntKind.i64.wrap (Int.fdiv (IntKind.u64.wrap (IntKind.i64.wrap (v2 + v4))) (2 ^ min (Int.toNat 1) (IntKind.bits .u64)))) + v3)) (IntKind.i64.wrap ((IntKind.i64.wrap ((IntKind.i64.wrap (Int.fdiv (IntKind.u64.wrap (IntKind.i64.wrap (v2 + v4))) (2 ^ min (Int.toNat 1) (IntKind.bits .u64)))) + v3)) - v4)) (IntKind.i64.wrap (Int.fdiv (IntKind.u64.wrap (IntKind.i64.wrap (v2 + v4))) (2 ^ min (Int.toNat 1) (IntKind.bits .u64)))))
 (j64 v1 v2 v3 v4 v5 (IntKind.i64.wrap (Int.fdiv (IntKind.u64.wrap (IntKind.i64.wrap (v2 + v4))) (2 ^ min (Int.toNat 1) (IntKind.bits .u64)))) (IntKind.i64.wrap ((IntKind.i64.wrap (Int.fdiv (IntKind.u64.wrap (IntKind.i64.wrap (v2 + v4))) (2 ^ min (Int.toNat 1) (IntKind.bits .u64)))) + v3)) v2 v3)))))
theorem c113 (v1 : Sl) (v2 : Int) (v3 : Int) (v4 : Int) (v5 : Value) {K : KH} {σ : H} : g113 v1 v2 v3 v4 v5 K σ -> callW Tryz.prog 113 [.slice v1.base v1.len v1.cap, .int .i64 v2, .int .i64 v3, .int .i64 v4, v5] K σ := call_k an113 Tryz.func113 (by kernel_rfl)


def an115 : Ann := (.q (.n (.q (.h)) (.q (.n (.q (.h)) (.seq (some [(0,.p),(2,.s),(3,.b),(8,.p),(10,.i),(11,.p)]) (.q (.cond (.n (.q (.h)) (.q (.n (.blk (.q (.cond (.q .z) (.q (.cond (.q .z) (.q (.h))))))) .r))) .z)) (.q .z))))))
def g115 (v1 : Option Addr) (v2 : ByteArray) (v3 : ByteArray) (v4 : Bool) (K : KH) : H -> Prop :=
 alW (.cells ⟨[.int .i64 0, .string ⟨⟨[]⟩⟩, .int .i64 0, .bool false]⟩ 174 (0, 0)) (fun b5 => callT Tryz.prog 135 [.pointer v1] kB (fun x6 => brW x6 (stW Tryz.prog 174 (.pointer (some ⟨b5, 0, none⟩)) (.agg ⟨[.int .i64 0, .string ⟨⟨[]⟩⟩, .int .i64 0, .bool false]⟩) (rdT (rdA 4 b5 0) (.one (.agg [(.int .i64), .str, (.int .i64), .bool])) (fun (r7 : Int) (r8 : ByteArray) (r9 : Int) (r10 : Bool) =>
 K (.tuple ⟨[.agg ⟨[.int .i64 r7, .string r8, .int .i64 r9, .bool r10]⟩, .int .i64 1]⟩)))) (ptrW v1 (fun b11 o12 => rdT (rdC b11 o12) kP (fun x13 => callT Tryz.prog 136 [.pointer x13] kI (fun (x14 : Int) => alW (.cells ⟨[.int .i64 0]⟩ 3 (0, 0)) (fun b15 => stW Tryz.prog 3 (.pointer (some ⟨b15, 0, none⟩)) (.int .i64 8) (brW (strEq v3 (⟨⟨[]⟩⟩ : ByteArray))
 (stW Tryz.prog 174 (.pointer (some ⟨b5, 0, none⟩)) (.agg ⟨[.int .i64 0, .string ⟨⟨[]⟩⟩, .int .i64 0, .bool false]⟩) (rdT (rdA 4 b5 0) (.one (.agg [(.int .i64), .str, (.int .i64), .bool])) (fun (r16 : Int) (r17 : ByteArray) (r18 : Int) (r19 : Bool) => K (.tuple ⟨[.agg ⟨[.int .i64 r16, .string r17, .int .i64 r18, .bool r19]⟩, .int .i64 5]⟩)))) (letJ (T := Option Addr -> ByteArray -> Bool -> Option Addr -> Int -> Option Addr -> H -> Prop) (fun v21 v22 v23 x24 v25 v26 =>
 callT Tryz.prog 138 [.pointer v21, .int .i64 v25, .string v22, .bool v23, .pointer v26] (.tup [.agg [(.int .i64), .str, (.int .i64), .bool], .sc (.int .i64)]) (fun (x27 : Int) (x28 : ByteArray) (x29 : Int) (x30 : Bool) (x31 : Int) => stW Tryz.prog 174 (.pointer x24) (.agg ⟨[.int .i64 x27, .string x28, .int .i64 x29, .bool x30]⟩) (ptrW x24 (fun b32 o33 =>
 rdT (rdA 4 b32 o33) (.one (.agg [(.int .i64), .str, (.int .i64), .bool])) (fun (r34 : Int) (r35 : ByteArray) (r36 : Int) (r37 : Bool) => K (.tuple ⟨[.agg ⟨[.int .i64 r34, .string r35, .int .i64 r36, .bool r37]⟩, .int .i64 x31]⟩)))))) (fun j20 => idxW v3 0 (fun ch38 => brW ((ch38.toNat : Int) != 47) (callT Tryz.prog 137 [.string v2, .string ⟨⟨[47]⟩⟩] kB (fun x39 => brW (!x39)
 (stW Tryz.prog 174 (.pointer (some ⟨b5, 0, none⟩)) (.agg ⟨[.int .i64 0, .string ⟨⟨[]⟩⟩, .int .i64 0, .bool false]⟩) (rdT (rdA 4 b5 0) (.one (.agg [(.int .i64), .str, (.int .i64), .bool])) (fun (r40 : Int) (r41 : ByteArray) (r42 : Int) (r43 : Bool) => K (.tuple ⟨[.agg ⟨[.int .i64 r40, .string r41, .int .i64 r42, .bool r43]⟩, .int .i64 5]⟩))))
 (callT Tryz.prog 138 [.pointer v1, .int .i64 x14, .string v2, .bool true, .pointer (some ⟨b15, 0, none⟩)] (.tup [.agg [(.int .i64), .str, (.int .i64), .bool], .sc (.int .i64)]) (fun (x44 : Int) (x45 : ByteArray) (x46 : Int) (x47 : Bool) (x48 : Int) => alW (.cells ⟨[.int .i64 0, .string ⟨⟨[]⟩⟩, .int .i64 0, .bool false]⟩ 174 (0, 0)) (fun b49 =>
 stW Tryz.prog 174 (.pointer (some ⟨b49, 0, none⟩)) (.agg ⟨[.int .i64 x44, .string x45, .int .i64 x46, .bool x47]⟩) (brW ((x48 : Int) != 0) (stW Tryz.prog 174 (.pointer (some ⟨b5, 0, none⟩)) (.agg ⟨[.int .i64 0, .string ⟨⟨[]⟩⟩, .int .i64 0, .bool false]⟩) (rdT (rdA 4 b5 0) (.one (.agg [(.int .i64), .str, (.int .i64), .bool])) (fun (r50 : Int) (r51 : ByteArray) (r52 : Int) (r53 : Bool) => K (.tuple ⟨[.agg ⟨[.int .i64 r50, .string r51, .int .i64 r52, .bool r53]⟩, .int .i64 x48]⟩))))
 (rdT (rdC b49 3) kB (fun x54 => brW (!x54) (stW Tryz.prog 174 (.pointer (some ⟨b5, 0, none⟩)) (.agg ⟨[.int .i64 0, .string ⟨⟨[]⟩⟩, .int .i64 0, .bool false]⟩) (rdT (rdA 4 b5 0) (.one (.agg [(.int .i64), .str, (.int .i64), .bool])) (fun (r55 : Int) (r56 : ByteArray) (r57 : Int) (r58 : Bool) => K (.tuple ⟨[.agg ⟨[.int .i64 r55, .string r56, .int .i64 r57, .bool r58]⟩, .int .i64 5]⟩)))) (rdT (rdC b49 2) kI (fun (x59 : Int) =>
 callT Tryz.prog 139 [.pointer v1, .int .i64 x59] kI (fun (x60 : Int) => brW ((x60 : Int) != 2) (stW Tryz.prog 174 (.pointer (some ⟨b5, 0, none⟩)) (.agg ⟨[.int .i64 0, .string ⟨⟨[]⟩⟩, .int .i64 0, .bool false]⟩) (rdT (rdA 4 b5 0) (.one (.agg [(.int .i64), .str, (.int .i64), .bool])) (fun (r61 : Int) (r62 : ByteArray) (r63 : Int) (r64 : Bool) => K (.tuple ⟨[.agg ⟨[.int .i64 r61, .string r62, .int .i64 r63, .bool r64]⟩, .int .i64 8]⟩)))) (rdT (rdC b49 2) kI (fun (x65 : Int) =>
 stW Tryz.prog 3 (.pointer (some ⟨b15, 0, none⟩)) (.int .i64 8) (j20 v1 v3 v4 (some ⟨b5, 0, none⟩) x65 (some ⟨b15, 0, none⟩))))))))))))))) (j20 v1 v3 v4 (some ⟨b5, 0, none⟩) x14 (some ⟨b15, 0, none⟩)))))))))))))
theorem c115 (v1 : Option Addr) (v2 : ByteArray) (v3 : ByteArray) (v4 : Bool) {K : KH} {σ : H} : g115 v1 v2 v3 v4 K σ -> callW Tryz.prog 115 [.pointer v1, .string v2, .string v3, .bool v4] K σ := call_k an115 Tryz.func115 (by kernel_rfl)


def an116 : Ann := (.q (.q (.n (.q (.h)) (.q .z))))
def g116 (v1 : Option Addr) (v2 : Int) (K : KH) : H -> Prop :=
 alW (.cells ⟨[.int .i64 0, .int .i64 0, .string ⟨⟨[]⟩⟩, .int .i64 0]⟩ 65 (0, 0)) (fun b3 => callT Tryz.prog 140 [.pointer v1, .int .i64 v2] kP (fun x4 => brW x4.isNone (stW Tryz.prog 65 (.pointer (some ⟨b3, 0, none⟩)) (.agg ⟨[.int .i64 0, .int .i64 0, .string ⟨⟨[]⟩⟩, .int .i64 0]⟩) (rdT (rdA 4 b3 0) (.one (.agg [(.int .i64), (.int .i64), .str, (.int .i64)])) (fun (r5 : Int) (r6 : Int) (r7 : ByteArray) (r8 : Int) =>
 K (.tuple ⟨[.agg ⟨[.int .i64 r5, .int .i64 r6, .string r7, .int .i64 r8]⟩, .bool false]⟩)))) (ptrW x4 (fun b9 o10 => rdT (rdA 4 b9 o10) (.one (.agg [(.int .i64), (.int .i64), .str, (.int .i64)])) (fun (x11 : Int) (x12 : Int) (x13 : ByteArray) (x14 : Int) =>
 stW Tryz.prog 65 (.pointer (some ⟨b3, 0, none⟩)) (.agg ⟨[.int .i64 x11, .int .i64 x12, .string x13, .int .i64 x14]⟩) (rdT (rdA 4 b3 0) (.one (.agg [(.int .i64), (.int .i64), .str, (.int .i64)])) (fun (r15 : Int) (r16 : Int) (r17 : ByteArray) (r18 : Int) => K (.tuple ⟨[.agg ⟨[.int .i64 r15, .int .i64 r16, .string r17, .int .i64 r18]⟩, .bool true]⟩))))))))
theorem c116 (v1 : Option Addr) (v2 : Int) {K : KH} {σ : H} : g116 v1 v2 K σ -> callW Tryz.prog 116 [.pointer v1, .int .i64 v2] K σ := call_k an116 Tryz.func116 (by kernel_rfl)


def an121 : Ann := (.q (.q (.n (.seq (some [(0,.s),(30,.b)]) .r (.cond (.q (.seq (some [(0,.s),(5,.s)]) (.seq (some [(0,.s),(5,.s),(39,.b)]) .r (.cond (.q (.q (.h))) .z)) (.q (.n (.q (.blk (.loop [(5,.s),(6,.i),(47,.l),(48,.i),(49,.i)] (.q (.n (.cond .z .z) (.n (.blk (.q (.q (.n (.q (.h)) .r)))) .r)))))) (.seq (some [(6,.i)]) (.q (.cond .r .z)) (.q .z)))))) .z)) (.q (.q .z)))))
def g121 (v1 : ByteArray) (K : KH) : H -> Prop :=
 letJ (T := ByteArray -> Bool -> H -> Prop) (fun v3 x4 => brW x4 (letJ (T := ByteArray -> ByteArray -> H -> Prop) (fun v6 s0_7 => vaW Tryz.prog (convert 9 22 (.string v6)) kL (fun x8 => loopW [.sc .str, .sc (.int .i64), .sc .slc, .sc (.int .i64), .sc (.int .i64)] (fun (R9 : ByteArray -> Int -> Sl -> Int -> Int -> H -> Prop) => (fun (s0_10 : ByteArray) (v11 : Int) (x12 : Sl) (x13 : Int) (x14 : Int) => brW (decide ((x14 : Int) < x13)) (ptrW x12.base (fun b15 o16 =>
 ifW (0 <= x14 /\ x14 < ((x12.len : Nat) : Int)) (rdT (rdC b15 (o16 + x14.toNat * 1)) kC (fun (x17 : Int) => brW (decide (((IntKind.u8.wrap (x17 - 48)) : Int) > 9)) (K (.tuple ⟨[.int .i64 0, .iface 197 (.int .i64 2)]⟩)) (R9 s0_10 (IntKind.i64.wrap ((IntKind.i64.wrap (v11 * 10)) + (IntKind.i64.wrap (IntKind.u8.wrap (x17 - 48))))) x12 x13 (IntKind.i64.wrap (x14 + 1))))))) (letJ (T := Int -> H -> Prop) (fun v19 => K (.tuple ⟨[.int .i64 v19, .nilIface]⟩)) (fun j18 => idxW s0_10 0 (fun ch20 =>
 brW ((ch20.toNat : Int) == 45) (j18 (IntKind.i64.wrap (0 - v11))) (j18 v11)))))) (fun (R21 : ByteArray -> Int -> Sl -> Int -> Int -> H -> Prop) => R21 s0_7 0 x8 ((x8.len : Nat) : Int) 0))) (fun j5 => letJ (T := ByteArray -> ByteArray -> Bool -> H -> Prop) (fun v23 s0_24 x25 => brW x25 (ifW (bndOk none v23.size /\ bndOk (some 1) (v23.size)) (brW (decide (((((v23.extract ((1 : Int).toNat) v23.size).size : Nat) : Int) : Int) < 1)) (K (.tuple ⟨[.int .i64 0, .iface 197 (.int .i64 2)]⟩))
 (j5 (v23.extract ((1 : Int).toNat) v23.size) s0_24))) (j5 v23 s0_24)) (fun j22 => idxW v3 0 (fun ch26 => brW ((ch26.toNat : Int) == 45) (j22 v3 v3 true) (idxW v3 0 (fun ch27 => j22 v3 v3 ((ch27.toNat : Int) == 43))))))) (callT Tryz.prog 142 [.string v3, .int .i64 10, .int .i64 0] (.tup [.sc (.int .i64), .sc .raw]) (fun (x28 : Int) (x29 : Value) => K (.tuple ⟨[.int .i64 x28, x29]⟩)))) (fun j2 => brW (decide ((0 : Int) < ((v1.size : Nat) : Int)))
 (j2 v1 (decide (((v1.size : Nat) : Int) < 19))) (j2 v1 false))
theorem c121 (v1 : ByteArray) {K : KH} {σ : H} : g121 v1 K σ -> callW Tryz.prog 121 [.string v1] K σ := call_k an121 Tryz.func121 (by kernel_rfl)


def an128 : Ann := (.n (.q (.cond (.n (.blk (.loop [(0,.w),(2,.p)] (.n (.q (.cond .z .z)) (.blk (.q (.n (.q (.cond .z .z)) .r)))))) .z) .z)) (.n (.blk (.loop [(0,.w),(1,.p),(2,.p),(3,.p)] (.blk (.q (.n (.q (.cond .z .z)) (.q (.n (.q (.cond .z .z)) .r))))))) .r))
def g128 (v1 : Value) (x2 : Option Addr) (x3 : Option Addr) (x4 : Option Addr) (K : KH) : H -> Prop :=
 ptrW x2 (fun b5 o6 => rdT (rdC b5 o6) kS (fun (x7 : ByteArray) => brW (((x7.size : Nat) : Int) == 0) (loopW [.sc .raw, .sc .ptr] (fun (R8 : Value -> Option Addr -> H -> Prop) => (fun v9 x10 => ptrW x10 (fun b11 o12 => rdT (rdC b11 o12) kS (fun (x13 : ByteArray) => brW (decide (((x13.size : Nat) : Int) > 0)) (ptrW x10 (fun b14 o15 => rdT (rdC b14 o15) kS (fun (x16 : ByteArray) =>
 callT Tryz.prog 65 [.string x16] (.tup [.sc (.int .i32), .sc (.int .i64)]) (fun (_x17 : Int) (x18 : Int) => ptrW x10 (fun b19 o20 => rdT (rdC b19 o20) kS (fun (x21 : ByteArray) => ifW (bndOk (some x18) x21.size /\ bndOk none (x18.toNat)) (cvalT Tryz.prog v9 [.string (x21.extract 0 x18.toNat)] kB (fun x22 => brW (!x22) (K (.tuple ⟨[]⟩)) (ptrW x10 (fun b23 o24 => rdT (rdC b23 o24) kS (fun (x25 : ByteArray) => ifW (bndOk none x25.size /\ bndOk (some x18) (x25.size))
 (stW Tryz.prog 9 (.pointer x10) (.string (x25.extract x18.toNat x25.size)) (R8 v9 x10))))))))))))) (K (.tuple ⟨[]⟩)))))) (fun (R26 : Value -> Option Addr -> H -> Prop) => R26 v1 x3)) (loopW [.sc .raw, .sc .ptr, .sc .ptr, .sc .ptr] (fun (R27 : Value -> Option Addr -> Option Addr -> Option Addr -> H -> Prop) => (fun v28 x29 x30 x31 => ptrW x30 (fun b32 o33 => rdT (rdC b32 o33) kS (fun (x34 : ByteArray) => ptrW x29 (fun b35 o36 => rdT (rdC b35 o36) kS (fun (x37 : ByteArray) =>
 callT Tryz.prog 31 [.string x34, .string x37] kI (fun (x38 : Int) => brW (decide ((x38 : Int) < 0)) (ptrW x30 (fun b39 o40 => rdT (rdC b39 o40) kS (fun (x41 : ByteArray) => cvalT Tryz.prog v28 [.string x41] kB (fun _x42 => K (.tuple ⟨[]⟩))))) (ptrW x30 (fun b43 o44 => rdT (rdC b43 o44) kS (fun (x45 : ByteArray) => ptrW x31 (fun b46 o47 => rdT (rdC b46 o47) kI (fun (x48 : Int) => ifW (bndOk (some (IntKind.i64.wrap (x38 + x48))) x45.size /\ bndOk none ((IntKind.i64.wrap (x38 + x48)).toNat))
 (cvalT Tryz.prog v28 [.string (x45.extract 0 ((IntKind.i64.wrap (x38 + x48)).toNat))] kB (fun x49 => brW (!x49) (K (.tuple ⟨[]⟩)) (ptrW x30 (fun b50 o51 => rdT (rdC b50 o51) kS (fun (x52 : ByteArray) => ptrW x29 (fun b53 o54 => rdT (rdC b53 o54) kS (fun (x55 : ByteArray) => ifW (bndOk none x52.size /\ bndOk (some (IntKind.i64.wrap (x38 + ((x55.size : Nat) : Int)))) (x52.size))
 (stW Tryz.prog 9 (.pointer x30) (.string (x52.extract ((IntKind.i64.wrap (x38 + ((x55.size : Nat) : Int))).toNat) x52.size)) (R27 v28 x29 x30 x31))))))))))))))))))))) (fun (R56 : Value -> Option Addr -> Option Addr -> Option Addr -> H -> Prop) => R56 v1 x2 x3 x4))))
theorem c128 (v1 : Value) (x2 : Option Addr) (x3 : Option Addr) (x4 : Option Addr) {K : KH} {σ : H} : g128 v1 x2 x3 x4 K σ -> callW Tryz.prog 128 [v1, .pointer x2, .pointer x3, .pointer x4] K σ := call_k an128 Tryz.func128 (by kernel_rfl)


def an131 : Ann := (.q (.q .z))
def g131 (v1 : ByteArray) (v2 : ByteArray) (K : KH) : H -> Prop :=
 brW (decide (((v1.size : Nat) : Int) >= ((v2.size : Nat) : Int))) (ifW (bndOk (some ((v2.size : Nat) : Int)) v1.size /\ bndOk none (((v2.size : Nat) : Int).toNat)) (K (.bool (strEq (v1.extract 0 (((v2.size : Nat) : Int).toNat)) v2)))) (K (.bool false))
theorem c131 (v1 : ByteArray) (v2 : ByteArray) {K : KH} {σ : H} : g131 v1 v2 K σ -> callW Tryz.prog 131 [.string v1, .string v2] K σ := call_k an131 Tryz.func131 (by kernel_rfl)


def an132 : Ann := (.q (.q (.q .z)))
def g132 (v1 : ByteArray) (K : KH) : H -> Prop :=
 callT Tryz.prog 83 [.string v1, .string ⟨⟨[48, 49, 50, 51, 52, 53, 54, 55, 56, 57]⟩⟩] kS (fun (x2 : ByteArray) => K (.tuple ⟨[.string x2, .int .i64 (IntKind.i64.wrap (((v1.size : Nat) : Int) - ((x2.size : Nat) : Int)))]⟩))
theorem c132 (v1 : ByteArray) {K : KH} {σ : H} : g132 v1 K σ -> callW Tryz.prog 132 [.string v1] K σ := call_k an132 Tryz.func132 (by kernel_rfl)


def an133 : Ann := (.q (.q (.n (.q (.h)) (.q .z))))
def g133 (v1 : ByteArray) (v2 : Int) (K : KH) : H -> Prop :=
 callT Tryz.prog 153 [.string v1, .int .i64 v2] (.tup [.sc .raw, .sc (.int .i64), .sc .raw]) (fun (x3 : Value) (x4 : Int) (x5 : Value) => brW ((x4 : Int) != ((v1.size : Nat) : Int)) (K (.tuple ⟨[.float .f64 0, .iface 197 (.int .i64 2)]⟩)) (K (.tuple ⟨[x3, x5]⟩)))
theorem c133 (v1 : ByteArray) (v2 : Int) {K : KH} {σ : H} : g133 v1 v2 K σ -> callW Tryz.prog 133 [.string v1, .int .i64 v2] K σ := call_k an133 Tryz.func133 (by kernel_rfl)


def an134 : Ann := (.q (.q (.n (.blk (.loop [(0,.l),(2,.i),(4,.w),(10,.i),(11,.i)] (.n (.q (.cond .z .z)) (.blk (.q (.cond (.q .r) (.q .r))))))) .r)))
def g134 (v1 : Sl) (v2 : Int) (v3 : Int) (v4 : Int) (v5 : Value) (K : KH) : H -> Prop :=
 loopW [.sc .slc, .sc (.int .i64), .sc .raw, .sc (.int .i64), .sc (.int .i64)] (fun (R6 : Sl -> Int -> Value -> Int -> Int -> H -> Prop) => (fun (v7 : Sl) (v8 : Int) (v9 : Value) (v10 : Int) (v11 : Int) => brW ((v10 : Int) != v11) (brW (decide ((v10 : Int) > v11)) (callT Tryz.prog 154 [.slice v7.base v7.len v7.cap, .int .i64 (IntKind.i64.wrap (v8 - v10)), .int .i64 v8, .int .i64 v11, v9] kU (R6 v7 v8 v9 (IntKind.i64.wrap (v10 - v11)) v11))
 (callT Tryz.prog 154 [.slice v7.base v7.len v7.cap, .int .i64 (IntKind.i64.wrap (v8 - v10)), .int .i64 (IntKind.i64.wrap ((IntKind.i64.wrap (v8 + v11)) - v10)), .int .i64 v10, v9] kU (R6 v7 v8 v9 v10 (IntKind.i64.wrap (v11 - v10)))))
 (callT Tryz.prog 154 [.slice v7.base v7.len v7.cap, .int .i64 (IntKind.i64.wrap (v8 - v10)), .int .i64 v8, .int .i64 v10, v9] kU (K (.tuple ⟨[]⟩))))) (fun (R12 : Sl -> Int -> Value -> Int -> Int -> H -> Prop) => R12 v1 v3 v5 (IntKind.i64.wrap (v3 - v2)) (IntKind.i64.wrap (v4 - v3)))
theorem c134 (v1 : Sl) (v2 : Int) (v3 : Int) (v4 : Int) (v5 : Value) {K : KH} {σ : H} : g134 v1 v2 v3 v4 v5 K σ -> callW Tryz.prog 134 [.slice v1.base v1.len v1.cap, .int .i64 v2, .int .i64 v3, .int .i64 v4, v5] K σ := call_k an134 Tryz.func134 (by kernel_rfl)


def an135 : Ann := (.q (.q .z))
def g135 (v1 : Option Addr) (K : KH) : H -> Prop :=
 brW v1.isNone (K (.bool true)) (ptrW v1 (fun b2 o3 => rdT (rdC b2 o3) kP (fun x4 => K (.bool x4.isNone))))
theorem c135 (v1 : Option Addr) {K : KH} {σ : H} : g135 v1 K σ -> callW Tryz.prog 135 [.pointer v1] K σ := call_k an135 Tryz.func135 (by kernel_rfl)


def an136 : Ann := (.q (.n (.q (.h)) (.q .z)))
def g136 (v1 : Option Addr) (K : KH) : H -> Prop :=
 brW v1.isNone (K (.int .i64 0)) (K (.int .i64 1))
theorem c136 (v1 : Option Addr) {K : KH} {σ : H} : g136 v1 K σ -> callW Tryz.prog 136 [.pointer v1] K σ := call_k an136 Tryz.func136 (by kernel_rfl)


def an137 : Ann := (.q (.q .z))
def g137 (v1 : ByteArray) (v2 : ByteArray) (K : KH) : H -> Prop :=
 callT Tryz.prog 131 [.string v1, .string v2] kB (fun x3 => K (.bool x3))
theorem c137 (v1 : ByteArray) (v2 : ByteArray) {K : KH} {σ : H} : g137 v1 v2 K σ -> callW Tryz.prog 137 [.string v1, .string v2] K σ := call_k an137 Tryz.func137 (by kernel_rfl)


def an138 : Ann := (.q (.n (.q (.q (.h))) (.seq (some [(1,.i),(2,.s),(5,.p),(8,.p),(9,.p),(10,.p),(11,.p)]) (.q (.cond .r .z)) (.q (.seq (some [(10,.p),(11,.p),(13,.p)]) (.q (.blk (.rf [.s,.b] (.q .r) (.blk (.n (.blk (.q (.cond (.q .z) (.q (.cond (.q .z) (.q (.cond (.n (.reg (rn 8) [[],[0],[0,1],[0,1,2],[],[4],(rn 6),(rn 7)]) (.q .z)) (.q (.h))))))))) (.q (.n (.reg (rn 15) [[],[0],[0,1],[0,1,2],[],[4],[],(rn 7),(rn 8),(rn 9),(rn 9),(rn 10),[0,1,2,3,4,5,6,7,8,9,11],(rn 13),(rn 14)]) (.n (.seq (some [(5,.p),(9,.p),(10,.p),(11,.p),(13,.p),(105,.b)]) .r (.cond .z .z)) (.n (.q (.q (.h))) (.n (.reg (rn 13) [[],[0],[0,1],[0,1,2],[],[4],(rn 6),(rn 7),(rn 8),(rn 8),[],[0,1,2,3,4,5,6,7,8,10],(rn 12)]) (.q (.n (.q (.h)) .r)))))))))))) (.q .z))))))
def g138 (v1 : Option Addr) (v2 : Int) (v3 : ByteArray) (v4 : Bool) (v5 : Option Addr) (K : KH) : H -> Prop :=
 alW (.cells ⟨[.pointer v1]⟩ 24 (0, 0)) (fun b6 => alW (.cells ⟨[.bool v4]⟩ 4 (0, 0)) (fun b7 => alW (.cells ⟨[.pointer v5]⟩ 195 (0, 0)) (fun b8 => alW (.cells ⟨[.int .i64 0, .string ⟨⟨[]⟩⟩, .int .i64 0, .bool false]⟩ 174 (0, 0)) (fun b9 => alW (.cells ⟨[.int .i64 0]⟩ 112 (0, 0)) (fun b10 => callT Tryz.prog 155 [.string v3] kI (fun (x11 : Int) => brW ((x11 : Int) != 0)
 (stW Tryz.prog 174 (.pointer (some ⟨b9, 0, none⟩)) (.agg ⟨[.int .i64 0, .string ⟨⟨[]⟩⟩, .int .i64 0, .bool false]⟩) (stW Tryz.prog 112 (.pointer (some ⟨b10, 0, none⟩)) (.int .i64 x11) (rdT (rdA 4 b9 0) (.one (.agg [(.int .i64), .str, (.int .i64), .bool])) (fun (r12 : Int) (r13 : ByteArray) (r14 : Int) (r15 : Bool) => rdT (rdC b10 0) kI (fun (r16 : Int) => K (.tuple ⟨[.agg ⟨[.int .i64 r12, .string r13, .int .i64 r14, .bool r15]⟩, .int .i64 r16]⟩))))))
 (letJ (T := Int -> ByteArray -> Option Addr -> Option Addr -> Option Addr -> Option Addr -> Option Addr -> H -> Prop) (fun v18 v19 v20 v21 v22 x23 x24 => alW (.cells ⟨[.int .i64 0, .string ⟨⟨[]⟩⟩, .int .i64 0, .bool false]⟩ 174 (0, 0)) (fun b25 => stW Tryz.prog 174 (.pointer (some ⟨b25, 0, none⟩)) (.agg ⟨[.int .i64 v18, .string ⟨⟨[]⟩⟩, .int .i64 v18, .bool true]⟩) (letJ (T := Option Addr -> Option Addr -> Option Addr -> H -> Prop) (fun x27 x28 v29 =>
 ptrW v29 (fun b30 o31 => rdT (rdA 4 b30 o31) (.one (.agg [(.int .i64), .str, (.int .i64), .bool])) (fun (x32 : Int) (x33 : ByteArray) (x34 : Int) (x35 : Bool) => stW Tryz.prog 174 (.pointer x27) (.agg ⟨[.int .i64 x32, .string x33, .int .i64 x34, .bool x35]⟩) (stW Tryz.prog 112 (.pointer x28) (.int .i64 0) (ptrW x27 (fun b36 o37 => rdT (rdA 4 b36 o37) (.one (.agg [(.int .i64), .str, (.int .i64), .bool])) (fun (r38 : Int) (r39 : ByteArray) (r40 : Int) (r41 : Bool) => ptrW x28 (fun b42 o43 =>
 rdT (rdC b42 o43) kI (fun (r44 : Int) => K (.tuple ⟨[.agg ⟨[.int .i64 r38, .string r39, .int .i64 r40, .bool r41]⟩, .int .i64 r44]⟩)))))))))) (fun j26 => callT Tryz.prog 156 [.string v19] kR (fun x45 => funW x45 (fun (g146 : FuncId) (as147 cs148 : List Value) => rfW Tryz.prog none g146 as147 cs148 [.sc .str, .sc .bool] (fun (l46 : Nat) (obj47 : LoopState -> Option Code -> Obj) (K48 : Value -> H -> Prop) => (fun (x49 : ByteArray) (x50 : Bool) => begW l46 obj47 (rdT (rdC b25 3) kB (fun x51 =>
 brW (!x51) (stW Tryz.prog 174 (.pointer x23) (.agg ⟨[.int .i64 0, .string ⟨⟨[]⟩⟩, .int .i64 0, .bool false]⟩) (stW Tryz.prog 112 (.pointer x24) (.int .i64 5) (roundK l46 obj47 K48 (some .ret) false .done))) (ptrW v20 (fun b52 o53 => rdT (rdC b52 o53) kP (fun x54 => rdT (rdC b25 2) kI (fun (x55 : Int) => callT Tryz.prog 139 [.pointer x54, .int .i64 x55] kI (fun (x56 : Int) => brW ((x56 : Int) != 2)
 (stW Tryz.prog 174 (.pointer x23) (.agg ⟨[.int .i64 0, .string ⟨⟨[]⟩⟩, .int .i64 0, .bool false]⟩) (stW Tryz.prog 112 (.pointer x24) (.int .i64 8) (roundK l46 obj47 K48 (some .ret) false .done))) (brW (strEq x49 (⟨⟨[46, 46]⟩⟩ : ByteArray)) (ptrW v20 (fun b57 o58 => rdT (rdC b57 o58) kP (fun x59 => ptrW x59 (fun b60 o61 => rdT (rdC b60 o61) kP (fun x62 => rdT (rdC b25 2) kI (fun (x63 : Int) => callT Tryz.prog 157 [.pointer x62, .int .i64 x63] kI (fun (x64 : Int) =>
 stW Tryz.prog 174 (.pointer (some ⟨b25, 0, none⟩)) (.agg ⟨[.int .i64 x64, .string ⟨⟨[]⟩⟩, .int .i64 x64, .bool true]⟩) (roundK l46 obj47 K48 none true .ready)))))))) (brW (decide (((x49.size : Nat) : Int) > 56)) (stW Tryz.prog 174 (.pointer x23) (.agg ⟨[.int .i64 0, .string ⟨⟨[]⟩⟩, .int .i64 0, .bool false]⟩) (stW Tryz.prog 112 (.pointer x24) (.int .i64 3) (roundK l46 obj47 K48 (some .ret) false .done))) (rdT (rdC b25 2) kI (fun (x65 : Int) =>
 stW Tryz.prog 174 (.pointer (some ⟨b25, 0, none⟩)) (.agg ⟨[.int .i64 x65, .string x49, .int .i64 0, .bool false]⟩) (ptrW v20 (fun b66 o67 => rdT (rdC b66 o67) kP (fun x68 => ptrW x68 (fun b69 o70 => rdT (rdC b69 o70) kP (fun x71 => rdT (rdC b25 0) kI (fun (x72 : Int) => callT Tryz.prog 158 [.pointer x71, .int .i64 x72, .string x49] (.tup [.sc (.int .i64), .sc .bool]) (fun (x73 : Int) (x74 : Bool) =>
 stW Tryz.prog 3 (.pointer (some ⟨b25, 2, none⟩)) (.int .i64 x73) (stW Tryz.prog 4 (.pointer (some ⟨b25, 3, none⟩)) (.bool x74) (letJ (T := Option Addr -> Option Addr -> Option Addr -> Option Addr -> Option Addr -> Bool -> H -> Prop) (fun v76 v77 x78 x79 v80 x81 => brW x81 (roundK l46 obj47 K48 none true .ready) (ptrW v77 (fun b82 o83 => rdT (rdC b82 o83) kP (fun x84 => ptrW x84 (fun b85 o86 => rdT (rdC b85 o86) kI (fun (x87 : Int) => ptrW x84 (fun b88 o89 =>
 stW Tryz.prog 3 (.pointer (some ⟨b88, o89, none⟩)) (.int .i64 (IntKind.i64.wrap (x87 - 1))) (ptrW v77 (fun b90 o91 => rdT (rdC b90 o91) kP (fun x92 => ptrW x92 (fun b93 o94 => rdT (rdC b93 o94) kI (fun (x95 : Int) => brW (decide ((x95 : Int) < 0)) (stW Tryz.prog 174 (.pointer x78) (.agg ⟨[.int .i64 0, .string ⟨⟨[]⟩⟩, .int .i64 0, .bool false]⟩) (stW Tryz.prog 112 (.pointer x79) (.int .i64 9) (roundK l46 obj47 K48 (some .ret) false .done))) (ptrW v76 (fun b96 o97 =>
 rdT (rdC b96 o97) kP (fun x98 => ptrW x98 (fun b99 o100 => rdT (rdC b99 o100) kP (fun x101 => ptrW v80 (fun b102 o103 => rdT (rdC b102 (o103 + 2)) kI (fun (x104 : Int) => callT Tryz.prog 116 [.pointer x101, .int .i64 x104] (.tup [.agg [(.int .i64), (.int .i64), .str, (.int .i64)], .sc .bool]) (fun (x105 : Int) (x106 : Int) (x107 : ByteArray) (x108 : Int) (_x109 : Bool) => alW (.cells ⟨[.int .i64 0, .int .i64 0, .string ⟨⟨[]⟩⟩, .int .i64 0]⟩ 65 (0, 0)) (fun b110 =>
 stW Tryz.prog 65 (.pointer (some ⟨b110, 0, none⟩)) (.agg ⟨[.int .i64 x105, .int .i64 x106, .string x107, .int .i64 x108]⟩) (ptrW v76 (fun b111 o112 => rdT (rdC b111 o112) kP (fun x113 => ptrW v80 (fun b114 o115 => rdT (rdC b114 o115) kI (fun (x116 : Int) => rdT (rdC b110 2) kS (fun (x117 : ByteArray) => ptrW v77 (fun b118 o119 => rdT (rdC b118 o119) kP (fun x120 =>
 callT Tryz.prog 138 [.pointer x113, .int .i64 x116, .string x117, .bool true, .pointer x120] (.tup [.agg [(.int .i64), .str, (.int .i64), .bool], .sc (.int .i64)]) (fun (x121 : Int) (x122 : ByteArray) (x123 : Int) (x124 : Bool) (x125 : Int) => alW (.cells ⟨[.int .i64 0, .string ⟨⟨[]⟩⟩, .int .i64 0, .bool false]⟩ 174 (0, 0)) (fun b126 => stW Tryz.prog 174 (.pointer (some ⟨b126, 0, none⟩)) (.agg ⟨[.int .i64 x121, .string x122, .int .i64 x123, .bool x124]⟩) (brW ((x125 : Int) != 0)
 (stW Tryz.prog 174 (.pointer x78) (.agg ⟨[.int .i64 0, .string ⟨⟨[]⟩⟩, .int .i64 0, .bool false]⟩) (stW Tryz.prog 112 (.pointer x79) (.int .i64 x125) (roundK l46 obj47 K48 (some .ret) false .done))) (rdT (rdA 4 b126 0) (.one (.agg [(.int .i64), .str, (.int .i64), .bool])) (fun (x127 : Int) (x128 : ByteArray) (x129 : Int) (x130 : Bool) =>
 stW Tryz.prog 174 (.pointer v80) (.agg ⟨[.int .i64 x127, .string x128, .int .i64 x129, .bool x130]⟩) (roundK l46 obj47 K48 none true .ready))))))))))))))))))))))))))))))))))) (fun j75 => rdT (rdC b25 3) kB (fun x131 => brW (!x131) (j75 v20 v22 x23 x24 (some ⟨b25, 0, none⟩) true) (brW x50 (ptrW v21 (fun b132 o133 => rdT (rdC b132 o133) kB (fun x134 => brW (!x134) (j75 v20 v22 x23 x24 (some ⟨b25, 0, none⟩) true) (ptrW v20 (fun b135 o136 => rdT (rdC b135 o136) kP (fun x137 =>
 rdT (rdC b25 2) kI (fun (x138 : Int) => callT Tryz.prog 139 [.pointer x137, .int .i64 x138] kI (fun (x139 : Int) => j75 v20 v22 x23 x24 (some ⟨b25, 0, none⟩) ((x139 : Int) != 3))))))))) (ptrW v20 (fun b140 o141 => rdT (rdC b140 o141) kP (fun x142 => rdT (rdC b25 2) kI (fun (x143 : Int) => callT Tryz.prog 139 [.pointer x142, .int .i64 x143] kI (fun (x144 : Int) => j75 v20 v22 x23 x24 (some ⟨b25, 0, none⟩) ((x144 : Int) != 3)))))))))))))))))))))))))))))))
 (j26 x23 x24 (some ⟨b25, 0, none⟩)) (fun i145 => exW i145 0 (j26 x23 x24 (some ⟨b25, 0, none⟩)) (nW)) (ptrW x23 (fun b149 o150 => rdT (rdA 4 b149 o150) (.one (.agg [(.int .i64), .str, (.int .i64), .bool])) (fun (r151 : Int) (r152 : ByteArray) (r153 : Int) (r154 : Bool) => ptrW x24 (fun b155 o156 => rdT (rdC b155 o156) kI (fun (r157 : Int) => K (.tuple ⟨[.agg ⟨[.int .i64 r151, .string r152, .int .i64 r153, .bool r154]⟩, .int .i64 r157]⟩)))))))))))) (fun j17 => idxW v3 0 (fun ch158 =>
 brW ((ch158.toNat : Int) == 47) (rdT (rdC b6 0) kP (fun x159 => ptrW x159 (fun b160 o161 => rdT (rdC b160 o161) kP (fun x162 => callT Tryz.prog 136 [.pointer x162] kI (fun (x163 : Int) => j17 x163 v3 (some ⟨b6, 0, none⟩) (some ⟨b7, 0, none⟩) (some ⟨b8, 0, none⟩) (some ⟨b9, 0, none⟩) (some ⟨b10, 0, none⟩)))))) (j17 v2 v3 (some ⟨b6, 0, none⟩) (some ⟨b7, 0, none⟩) (some ⟨b8, 0, none⟩) (some ⟨b9, 0, none⟩) (some ⟨b10, 0, none⟩)))))))))))
theorem c138 (v1 : Option Addr) (v2 : Int) (v3 : ByteArray) (v4 : Bool) (v5 : Option Addr) {K : KH} {σ : H} : g138 v1 v2 v3 v4 v5 K σ -> callW Tryz.prog 138 [.pointer v1, .int .i64 v2, .string v3, .bool v4, .pointer v5] K σ := call_k an138 Tryz.func138 (by kernel_rfl)


def an139 : Ann := (.q (.q (.q .z)))
def g139 (v1 : Option Addr) (v2 : Int) (K : KH) : H -> Prop :=
 ptrW v1 (fun b3 o4 => rdT (rdC b3 o4) kP (fun x5 => callT Tryz.prog 116 [.pointer x5, .int .i64 v2] (.tup [.agg [(.int .i64), (.int .i64), .str, (.int .i64)], .sc .bool]) (fun (x6 : Int) (x7 : Int) (x8 : ByteArray) (x9 : Int) (_x10 : Bool) => alW (.cells ⟨[.int .i64 0, .int .i64 0, .string ⟨⟨[]⟩⟩, .int .i64 0]⟩ 65 (0, 0)) (fun b11 =>
 stW Tryz.prog 65 (.pointer (some ⟨b11, 0, none⟩)) (.agg ⟨[.int .i64 x6, .int .i64 x7, .string x8, .int .i64 x9]⟩) (rdT (rdC b11 0) kI (fun (x12 : Int) => K (.int .i64 x12)))))))
theorem c139 (v1 : Option Addr) (v2 : Int) {K : KH} {σ : H} : g139 v1 v2 K σ -> callW Tryz.prog 139 [.pointer v1, .int .i64 v2] K σ := call_k an139 Tryz.func139 (by kernel_rfl)


def an140 : Ann := (.q (.n (.q (.h)) (.q .z)))
def g140 (v1 : Option Addr) (v2 : Int) (K : KH) : H -> Prop :=
 brW v1.isNone (K (.pointer none)) (ptrW v1 (fun b3 o4 => rdT (rdC b3 (o4 + 4)) kM (fun (x5 : Option Nat) => rdT (rdM (.int .i64) (.pointer none) false x5 (.int .i64 v2)) kP (fun x6 => K (.pointer x6)))))
theorem c140 (v1 : Option Addr) (v2 : Int) {K : KH} {σ : H} : g140 v1 v2 K σ -> callW Tryz.prog 140 [.pointer v1, .int .i64 v2] K σ := call_k an140 Tryz.func140 (by kernel_rfl)


def an153 : Ann := (.q (.n (.q (.cond (.q (.q .z)) .z)) (.q .z)))
def g153 (v1 : ByteArray) (v2 : Int) (K : KH) : H -> Prop :=
 brW ((v2 : Int) == 32) (callT Tryz.prog 166 [.string v1] (.tup [.sc .raw, .sc (.int .i64), .sc .raw]) (fun (x3 : Value) (x4 : Int) (x5 : Value) => vaW Tryz.prog (convert 221 141 (x3)) kR (fun x6 => K (.tuple ⟨[x6, .int .i64 x4, x5]⟩)))) (callT Tryz.prog 167 [.string v1] (.tup [.sc .raw, .sc (.int .i64), .sc .raw]) (fun (x7 : Value) (x8 : Int) (x9 : Value) => K (.tuple ⟨[x7, .int .i64 x8, x9]⟩)))
theorem c153 (v1 : ByteArray) (v2 : Int) {K : KH} {σ : H} : g153 v1 v2 K σ -> callW Tryz.prog 153 [.string v1, .int .i64 v2] K σ := call_k an153 Tryz.func153 (by kernel_rfl)


def an154 : Ann := (.q (.blk (.loop [(0,.l),(1,.i),(2,.i),(3,.i),(10,.i)] (.n (.q (.cond .z .z)) (.n (.blk (.reg (rn 24) [[],[],[],[1,2],[],[],[],[5,6],[],[],[],[9,10],[8,9,10,11],[8,9,10,11,12],[],[],[],[15,16],[14,15,16,17],[14,15,16,17,18],[0,1,2,3,8,9,10,11,12,13,14,15,16,17,18,19],[0,1,2,3,8,9,10,11,12,13,14,15,16,17,18,19,20],(rn 22),(rn 23)])) .r)))))
def g154 (v1 : Sl) (v2 : Int) (v3 : Int) (v4 : Int) (v5 : Value) (K : KH) : H -> Prop :=
 loopW [.sc .slc, .sc (.int .i64), .sc (.int .i64), .sc (.int .i64), .sc (.int .i64)] (fun (R6 : Sl -> Int -> Int -> Int -> Int -> H -> Prop) => (fun (v7 : Sl) (v8 : Int) (v9 : Int) (v10 : Int) (v11 : Int) => brW (decide ((v11 : Int) < v10)) (ptrW v7.base (fun b12 o13 => ifW (0 <= IntKind.i64.wrap (v9 + v11) /\ IntKind.i64.wrap (v9 + v11) < ((v7.len : Nat) : Int)) (rdT (rdC b12 (o13 + (IntKind.i64.wrap (v9 + v11) : Int).toNat * 1)) kS (fun (x14 : ByteArray) =>
 ptrW v7.base (fun b15 o16 => ifW (0 <= IntKind.i64.wrap (v8 + v11) /\ IntKind.i64.wrap (v8 + v11) < ((v7.len : Nat) : Int)) (rdT (rdC b15 (o16 + (IntKind.i64.wrap (v8 + v11) : Int).toNat * 1)) kS (fun (x17 : ByteArray) => ptrW v7.base (fun b18 o19 => ifW (0 <= IntKind.i64.wrap (v8 + v11) /\ IntKind.i64.wrap (v8 + v11) < ((v7.len : Nat) : Int))
 (stW Tryz.prog 9 (.pointer (some ⟨b18, o19 + (IntKind.i64.wrap (v8 + v11) : Int).toNat * 1, none⟩)) (.string x14) (ptrW v7.base (fun b20 o21 => ifW (0 <= IntKind.i64.wrap (v9 + v11) /\ IntKind.i64.wrap (v9 + v11) < ((v7.len : Nat) : Int)) (stW Tryz.prog 9 (.pointer (some ⟨b20, o21 + (IntKind.i64.wrap (v9 + v11) : Int).toNat * 1, none⟩)) (.string x17) (R6 v7 v8 v9 v10 (IntKind.i64.wrap (v11 + 1)))))))))))))))
 (K (.tuple ⟨[]⟩)))) (fun (R22 : Sl -> Int -> Int -> Int -> Int -> H -> Prop) => R22 v1 v2 v3 v4 0)
theorem c154 (v1 : Sl) (v2 : Int) (v3 : Int) (v4 : Int) (v5 : Value) {K : KH} {σ : H} : g154 v1 v2 v3 v4 v5 K σ -> callW Tryz.prog 154 [.slice v1.base v1.len v1.cap, .int .i64 v2, .int .i64 v3, .int .i64 v4, v5] K σ := call_k an154 Tryz.func154 (by kernel_rfl)


def an155 : Ann := (.q (.n (.blk (.q (.cond (.q .z) (.q (.cond (.q .z) (.q (.h))))))) (.q .z)))
def g155 (v1 : ByteArray) (K : KH) : H -> Prop :=
 brW (strEq v1 (⟨⟨[]⟩⟩ : ByteArray)) (K (.int .i64 5)) (brW (decide (((v1.size : Nat) : Int) > 255)) (K (.int .i64 3)) (callT Tryz.prog 40 [.string v1, .int .u8 0] kI (fun (x2 : Int) => brW (decide ((x2 : Int) >= 0)) (K (.int .i64 2)) (K (.int .i64 0)))))
theorem c155 (v1 : ByteArray) {K : KH} {σ : H} : g155 v1 K σ -> callW Tryz.prog 155 [.string v1] K σ := call_k an155 Tryz.func155 (by kernel_rfl)


def an156 : Ann := (.q (.q .z))
def g156 (v1 : ByteArray) (K : KH) : H -> Prop :=
 alW (.cells ⟨[.string v1]⟩ 9 (0, 0)) (fun b2 => K (.func (.func 168) ⟨[]⟩ ⟨[.pointer (some ⟨b2, 0, none⟩)]⟩))
theorem c156 (v1 : ByteArray) {K : KH} {σ : H} : g156 v1 K σ -> callW Tryz.prog 156 [.string v1] K σ := call_k an156 Tryz.func156 (by kernel_rfl)


def an157 : Ann := (.q (.q (.n (.q (.h)) (.q .z))))
def g157 (v1 : Option Addr) (v2 : Int) (K : KH) : H -> Prop :=
 callT Tryz.prog 140 [.pointer v1, .int .i64 v2] kP (fun x3 => brW x3.isNone (K (.int .i64 0)) (ptrW x3 (fun b4 o5 => rdT (rdC b4 (o5 + 4)) kI (fun (x6 : Int) => K (.int .i64 x6)))))
theorem c157 (v1 : Option Addr) (v2 : Int) {K : KH} {σ : H} : g157 v1 v2 K σ -> callW Tryz.prog 157 [.pointer v1, .int .i64 v2] K σ := call_k an157 Tryz.func157 (by kernel_rfl)


def an158 : Ann := (.q (.q (.n (.q (.h)) (.q (.q .z)))))
def g158 (v1 : Option Addr) (v2 : Int) (v3 : ByteArray) (K : KH) : H -> Prop :=
 callT Tryz.prog 140 [.pointer v1, .int .i64 v2] kP (fun x4 => brW x4.isNone (K (.tuple ⟨[.int .i64 0, .bool false]⟩)) (ptrW x4 (fun b5 o6 => rdT (rdC b5 (o6 + 5)) kM (fun (x7 : Option Nat) => rdT (rdM .string (.int .i64 0) true x7 (.string v3)) (.tup [.sc (.int .i64), .sc .bool]) (fun (x8 : Int) (x9 : Bool) => K (.tuple ⟨[.int .i64 x8, .bool x9]⟩))))))
theorem c158 (v1 : Option Addr) (v2 : Int) (v3 : ByteArray) {K : KH} {σ : H} : g158 v1 v2 v3 K σ -> callW Tryz.prog 158 [.pointer v1, .int .i64 v2, .string v3] K σ := call_k an158 Tryz.func158 (by kernel_rfl)

end Go.Proofs.YtpfkfphjigcdeaaGreatDoor

set_option maxRecDepth 100000
namespace Go.Proofs.YtpfkfphjigcdeaaGreatDoor
open Go Go.HL
def an167 : Ann := (.q (.n (.q (.q (.h))) (.q (.n (.q (.h)) (.n (.q (.cond (.q (.q .z)) .z)) (.seq (some [(0,.s),(3,.i),(4,.w)]) (.q (.cond (.q (.n (.q (.h)) (.n (.q (.h)) (.n (.q (.h)) (.seq (some [(0,.s),(3,.i),(4,.w),(8,.sc (.int .u64)),(9,.i),(11,.b),(16,.sc (.int .u64))]) (.q (.cond (.q (.q (.h))) .z)) (.q (.n (.q (.h)) (.q (.q (.h)))))))))) .z)) (.q (.n (.q (.h)) (.q (.q (.seq (some [(2,.w),(3,.i),(4,.w)]) (.q (.cond .r .z)) (.q .z))))))))))))
def g167 (v1 : ByteArray) (K : KH) : H -> Prop :=
 callT Tryz.prog 171 [.string v1] (.tup [.sc .raw, .sc (.int .i64), .sc .bool]) (fun (x2 : Value) (x3 : Int) (x4 : Bool) => brW x4 (K (.tuple ⟨[x2, .int .i64 x3, .nilIface]⟩)) (callT Tryz.prog 172 [.string v1] (.tup [.sc (.int .u64), .sc (.int .i64), .sc .bool, .sc .bool, .sc .bool, .sc (.int .i64), .sc .bool]) (fun (x5 : Int) (x6 : Int) (x7 : Bool) (x8 : Bool) (x9 : Bool) (x10 : Int) (x11 : Bool) => brW (!x11) (K (.tuple ⟨[.float .f64 0, .int .i64 x10, .iface 197 (.int .i64 2)]⟩)) (brW x9
 (ifW (bndOk (some x10) v1.size /\ bndOk none (x10.toNat)) (callT Tryz.prog 173 [.string (v1.extract 0 x10.toNat), .pointer (some ⟨11, 0, none⟩), .int .u64 x5, .int .i64 x6, .bool x7, .bool x8] (.tup [.sc .raw, .sc .raw]) (fun x12 x13 => K (.tuple ⟨[x12, .int .i64 x10, x13]⟩)))) (letJ (T := ByteArray -> Int -> Value -> H -> Prop) (fun v15 v16 v17 =>
 alW (.cells ⟨[.int .u8 0, .int .u8 0, .int .u8 0, .int .u8 0, .int .u8 0, .int .u8 0, .int .u8 0, .int .u8 0, .int .u8 0, .int .u8 0, .int .u8 0, .int .u8 0, .int .u8 0, .int .u8 0, .int .u8 0, .int .u8 0, .int .u8 0, .int .u8 0, .int .u8 0, .int .u8 0, .int .u8 0, .int .u8 0, .int .u8 0, .int .u8 0, .int .u8 0, .int .u8 0, .int .u8 0, .int .u8 0, .int .u8 0, .int .u8 0, .int .u8 0, .int .u8 0, .int .u8 0, .int .u8 0, .int .u8 0, .int .u8 0, .int .u8 0, .int .u8 0, .int .u8 0, .int .u8 0, .int .u8 0, .int .u8 0, .int .u8 0, .int .u8 0, .int .u8 0, .int .u8 0, .int .u8 0, .int .u8 0, .int .u8 0, .int .u8 0, .int .u8 0, .int .u8 0, .int .u8 0, .int .u8 0, .int .u8 0, .int .u8 0, .int .u8 0, .int .u8 0, .int .u8 0, .int .u8 0, .int .u8 0, .int .u8 0, .int .u8 0, .int .u8 0, .int .u8 0, .int .u8 0, .int .u8 0, .int .u8 0, .int .u8 0, .int .u8 0, .int .u8 0, .int .u8 0, .int .u8 0, .int .u8 0, .int .u8 0, .int .u8 0, .int .u8 0, .int .u8 0, .int .u8 0, .int .u8 0, .int .u8 0, .int .u8 0, .int .u8 0, .int .u8 0, .int .u8 0, .int .u8 0, .int .u8 0, .int .u8 0, .int .u8 0, .int .u8 0, .int .u8 0, .int .u8 0, .int .u8 0, .int .u8 0, .int .u8 0, .int .u8 0, .int .u8 0, .int .u8 0, .int .u8 0, .int .u8 0, .int .u8 0, .int .u8 0, .int .u8 0, .int .u8 0, .int .u8 0, .int .u8 0, .int .u8 0, .int .u8 0, .int .u8 0, .int .u8 0, .int .u8 0, .int .u8 0, .int .u8 0, .int .u8 0, .int .u8 0, .int .u8 0, .int .u8 0, .int .u8 0, .int .u8 0, .int .u8 0, .int .u8 0, .int .u8 0, .int .u8 0, .int .u8 0, .int .u8 0, .int .u8 0, .int .u8 0, .int .u8 0, .int .u8 0, .int .u8 0, .int .u8 0, .int .u8 0, .int .u8 0, .int .u8 0, .int .u8 0, .int .u8 0, .int .u8 0, .int .u8 0, .int .u8 0, .int .u8 0, .int .u8 0, .int .u8 0, .int .u8 0, .int .u8 0, .int .u8 0, .int .u8 0, .int .u8 0, .int .u8 0, .int .u8 0, .int .u8 0, .int .u8 0, .int .u8 0, .int .u8 0, .int .u8 0, .int .u8 0, .int .u8 0, .int .u8 0, .int .u8 0, .int .u8 0, .int .u8 0, .int .u8 0, .int .u8 0, .int .u8 0, .int .u8 0, .int .u8 0, .int .u8 0, .int .u8 0, .int .u8 0, .int .u8 0, .int .u8 0, .int .u8 0, .int .u8 0, .int .u8 0, .int .u8 0, .int .u8 0, .int .u8 0, .int .u8 0, .int .u8 0, .int .u8 0, .int .u8 0, .int .u8 0, .int .u8 0, .int .u8 0, .int .u8 0, .int .u8 0, .int .u8 0, .int .u8 0, .int .u8 0, .int .u8 0, .int .u8 0, .int .u8 0, .int .u8 0, .int .u8 0, .int .u8 0, .int .u8 0, .int .u8 0, .int .u8 0, .int .u8 0, .int .u8 0, .int .u8 0, .int .u8 0, .int .u8 0, .int .u8 0, .int .u8 0, .int .u8 0, .int .u8 0, .int .u8 0, .int .u8 0, .int .u8 0, .int .u8 0, .int .u8 0, .int .u8 0, .int .u8 0, .int .u8 0, .int .u8 0, .int .u8 0, .int .u8 0, .int .u8 0, .int .u8 0, .int .u8 0, .int .u8 0, .int .u8 0, .int .u8 0, .int .u8 0, .int .u8 0, .int .u8 0, .int .u8 0, .int .u8 0, .int .u8 0, .int .u8 0, .int .u8 0, .int .u8 0, .int .u8 0, .int .u8 0, .int .u8 0, .int .u8 0, .int .u8 0, .int .u8 0, .int .u8 0, .int .u8 0, .int .u8 0, .int .u8 0, .int .u8 0, .int .u8 0, .int .u8 0, .int .u8 0, .int .u8 0, .int .u8 0, .int .u8 0, .int .u8 0, .int .u8 0, .int .u8 0, .int .u8 0, .int .u8 0, .int .u8 0, .int .u8 0, .int .u8 0, .int .u8 0, .int .u8 0, .int .u8 0, .int .u8 0, .int .u8 0, .int .u8 0, .int .u8 0, .int .u8 0, .int .u8 0, .int .u8 0, .int .u8 0, .int .u8 0, .int .u8 0, .int .u8 0, .int .u8 0, .int .u8 0, .int .u8 0, .int .u8 0, .int .u8 0, .int .u8 0, .int .u8 0, .int .u8 0, .int .u8 0, .int .u8 0, .int .u8 0, .int .u8 0, .int .u8 0, .int .u8 0, .int .u8 0, .int .u8 0, .int .u8 0, .int .u8 0, .int .u8 0, .int .u8 0, .int .u8 0, .int .u8 0, .int .u8 0, .int .u8 0, .int .u8 0, .int .u8 0, .int .u8 0, .int .u8 0, .int .u8 0, .int .u8 0, .int .u8 0, .int .u8 0, .int .u8 0, .int .u8 0, .int .u8 0, .int .u8 0, .int .u8 0, .int .u8 0, .int .u8 0, .int .u8 0, .int .u8 0, .int .u8 0, .int .u8 0, .int .u8 0, .int .u8 0, .int .u8 0, .int .u8 0, .int .u8 0, .int .u8 0, .int .u8 0, .int .u8 0, .int .u8 0, .int .u8 0, .int .u8 0, .int .u8 0, .int .u8 0, .int .u8 0, .int .u8 0, .int .u8 0, .int .u8 0, .int .u8 0, .int .u8 0, .int .u8 0, .int .u8 0, .int .u8 0, .int .u8 0, .int .u8 0, .int .u8 0, .int .u8 0, .int .u8 0, .int .u8 0, .int .u8 0, .int .u8 0, .int .u8 0, .int .u8 0, .int .u8 0, .int .u8 0, .int .u8 0, .int .u8 0, .int .u8 0, .int .u8 0, .int .u8 0, .int .u8 0, .int .u8 0, .int .u8 0, .int .u8 0, .int .u8 0, .int .u8 0, .int .u8 0, .int .u8 0, .int .u8 0, .int .u8 0, .int .u8 0, .int .u8 0, .int .u8 0, .int .u8 0, .int .u8 0, .int .u8 0, .int .u8 0, .int .u8 0, .int .u8 0, .int .u8 0, .int .u8 0, .int .u8 0, .int .u8 0, .int .u8 0, .int .u8 0, .int .u8 0, .int .u8 0, .int .u8 0, .int .u8 0, .int .u8 0, .int .u8 0, .int .u8 0, .int .u8 0, .int .u8 0, .int .u8 0, .int .u8 0, .int .u8 0, .int .u8 0, .int .u8 0, .int .u8 0, .int .u8 0, .int .u8 0, .int .u8 0, .int .u8 0, .int .u8 0, .int .u8 0, .int .u8 0, .int .u8 0, .int .u8 0, .int .u8 0, .int .u8 0, .int .u8 0, .int .u8 0, .int .u8 0, .int .u8 0, .int .u8 0, .int .u8 0, .int .u8 0, .int .u8 0, .int .u8 0, .int .u8 0, .int .u8 0, .int .u8 0, .int .u8 0, .int .u8 0, .int .u8 0, .int .u8 0, .int .u8 0, .int .u8 0, .int .u8 0, .int .u8 0, .int .u8 0, .int .u8 0, .int .u8 0, .int .u8 0, .int .u8 0, .int .u8 0, .int .u8 0, .int .u8 0, .int .u8 0, .int .u8 0, .int .u8 0, .int .u8 0, .int .u8 0, .int .u8 0, .int .u8 0, .int .u8 0, .int .u8 0, .int .u8 0, .int .u8 0, .int .u8 0, .int .u8 0, .int .u8 0, .int .u8 0, .int .u8 0, .int .u8 0, .int .u8 0, .int .u8 0, .int .u8 0, .int .u8 0, .int .u8 0, .int .u8 0, .int .u8 0, .int .u8 0, .int .u8 0, .int .u8 0, .int .u8 0, .int .u8 0, .int .u8 0, .int .u8 0, .int .u8 0, .int .u8 0, .int .u8 0, .int .u8 0, .int .u8 0, .int .u8 0, .int .u8 0, .int .u8 0, .int .u8 0, .int .u8 0, .int .u8 0, .int .u8 0, .int .u8 0, .int .u8 0, .int .u8 0, .int .u8 0, .int .u8 0, .int .u8 0, .int .u8 0, .int .u8 0, .int .u8 0, .int .u8 0, .int .u8 0, .int .u8 0, .int .u8 0, .int .u8 0, .int .u8 0, .int .u8 0, .int .u8 0, .int .u8 0, .int .u8 0, .int .u8 0, .int .u8 0, .int .u8 0, .int .u8 0, .int .u8 0, .int .u8 0, .int .u8 0, .int .u8 0, .int .u8 0, .int .u8 0, .int .u8 0, .int .u8 0, .int .u8 0, .int .u8 0, .int .u8 0, .int .u8 0, .int .u8 0, .int .u8 0, .int .u8 0, .int .u8 0, .int .u8 0, .int .u8 0, .int .u8 0, .int .u8 0, .int .u8 0, .int .u8 0, .int .u8 0, .int .u8 0, .int .u8 0, .int .u8 0, .int .u8 0, .int .u8 0, .int .u8 0, .int .u8 0, .int .u8 0, .int .u8 0, .int .u8 0, .int .u8 0, .int .u8 0, .int .u8 0, .int .u8 0, .int .u8 0, .int .u8 0, .int .u8 0, .int .u8 0, .int .u8 0, .int .u8 0, .int .u8 0, .int .u8 0, .int .u8 0, .int .u8 0, .int .u8 0, .int .u8 0, .int .u8 0, .int .u8 0, .int .u8 0, .int .u8 0, .int .u8 0, .int .u8 0, .int .u8 0, .int .u8 0, .int .u8 0, .int .u8 0, .int .u8 0, .int .u8 0, .int .u8 0, .int .u8 0, .int .u8 0, .int .u8 0, .int .u8 0, .int .u8 0, .int .u8 0, .int .u8 0, .int .u8 0, .int .u8 0, .int .u8 0, .int .u8 0, .int .u8 0, .int .u8 0, .int .u8 0, .int .u8 0, .int .u8 0, .int .u8 0, .int .u8 0, .int .u8 0, .int .u8 0, .int .u8 0, .int .u8 0, .int .u8 0, .int .u8 0, .int .u8 0, .int .u8 0, .int .u8 0, .int .u8 0, .int .u8 0, .int .u8 0, .int .u8 0, .int .u8 0, .int .u8 0, .int .u8 0, .int .u8 0, .int .u8 0, .int .u8 0, .int .u8 0, .int .u8 0, .int .u8 0, .int .u8 0, .int .u8 0, .int .u8 0, .int .u8 0, .int .u8 0, .int .u8 0, .int .u8 0, .int .u8 0, .int .u8 0, .int .u8 0, .int .u8 0, .int .u8 0, .int .u8 0, .int .u8 0, .int .u8 0, .int .u8 0, .int .u8 0, .int .u8 0, .int .u8 0, .int .u8 0, .int .u8 0, .int .u8 0, .int .u8 0, .int .u8 0, .int .u8 0, .int .u8 0, .int .u8 0, .int .u8 0, .int .u8 0, .int .u8 0, .int .u8 0, .int .u8 0, .int .u8 0, .int .u8 0, .int .u8 0, .int .u8 0, .int .u8 0, .int .u8 0, .int .u8 0, .int .u8 0, .int .u8 0, .int .u8 0, .int .u8 0, .int .u8 0, .int .u8 0, .int .u8 0, .int .u8 0, .int .u8 0, .int .u8 0, .int .u8 0, .int .u8 0, .int .u8 0, .int .u8 0, .int .u8 0, .int .u8 0, .int .u8 0, .int .u8 0, .int .u8 0, .int .u8 0, .int .u8 0, .int .u8 0, .int .u8 0, .int .u8 0, .int .u8 0, .int .u8 0, .int .u8 0, .int .u8 0, .int .u8 0, .int .u8 0, .int .u8 0, .int .u8 0, .int .u8 0, .int .u8 0, .int .u8 0, .int .u8 0, .int .u8 0, .int .u8 0, .int .u8 0, .int .u8 0, .int .u8 0, .int .u8 0, .int .u8 0, .int .u8 0, .int .u8 0, .int .u8 0, .int .u8 0, .int .u8 0, .int .u8 0, .int .u8 0, .int .u8 0, .int .u8 0, .int .u8 0, .int .u8 0, .int .u8 0, .int .u8 0, .int .u8 0, .int .u8 0, .int .u8 0, .int .u8 0, .int .u8 0, .int .u8 0, .int .u8 0, .int .u8 0, .int .u8 0, .int .u8 0, .int .u8 0, .int .u8 0, .int .u8 0, .int .u8 0, .int .u8 0, .int .u8 0, .int .u8 0, .int .u8 0, .int .u8 0, .int .u8 0, .int .u8 0, .int .u8 0, .int .u8 0, .int .u8 0, .int .u8 0, .int .u8 0, .int .u8 0, .int .u8 0, .int .u8 0, .int .u8 0, .int .u8 0, .int .u8 0, .int .u8 0, .int .u8 0, .int .u8 0, .int .u8 0, .int .u8 0, .int .u8 0, .int .u8 0, .int .u8 0, .int .u8 0, .int .u8 0, .int .u8 0, .int .u8 0, .int .u8 0, .int .u8 0, .int .u8 0, .int .u8 0, .int .u8 0, .int .u8 0, .int .u8 0, .int .u8 0, .int .u8 0, .int .u8 0, .int .u8 0, .int .u8 0, .int .u8 0, .int .u8 0, .int .u8 0, .int .u8 0, .int .u8 0, .int .u8 0, .int .u8 0, .int .u8 0, .int .u8 0, .int .u8 0, .int .u8 0, .int .u8 0, .int .u8 0, .int .u8 0, .int .u8 0, .int .u8 0, .int .u8 0, .int .u8 0, .int .u8 0, .int .u8 0, .int .u8 0, .int .u8 0, .int .u8 0, .int .u8 0, .int .u8 0, .int .u8 0, .int .u8 0, .int .u8 0, .int .u8 0, .int .u8 0, .int .u8 0, .int .u8 0, .int .u8 0, .int .u8 0, .int .u8 0, .int .u8 0, .int .u8 0, .int .u8 0, .int .u8 0, .int .u8 0, .int .u8 0, .int .u8 0, .int .u8 0, .int .u8 0, .int .u8 0, .int .u8 0, .int .u8 0, .int .u8 0, .int .u8 0, .int .i64 0, .int .i64 0, .bool false, .bool false]⟩ 248 (0, 0)) (fun b18 =>
 ifW (bndOk (some v16) v15.size /\ bndOk none (v16.toNat)) (callT Tryz.prog 178 [.pointer (some ⟨b18, 0, none⟩), .string (v15.extract 0 v16.toNat)] kB (fun x19 => brW (!x19) (K (.tuple ⟨[.float .f64 0, .int .i64 v16, .iface 197 (.int .i64 2)]⟩)) (callT Tryz.prog 179 [.pointer (some ⟨b18, 0, none⟩), .pointer (some ⟨11, 0, none⟩)] (.tup [.sc (.int .u64), .sc .bool]) (fun (x20 : Int) (x21 : Bool) => cvalT Tryz.prog (.func (.func 181) ⟨[]⟩ ⟨[]⟩) [.int .u64 x20] kR (fun x22 =>
 letJ (T := Value -> Int -> Value -> H -> Prop) (fun v24 v25 v26 => K (.tuple ⟨[v24, .int .i64 v25, v26]⟩)) (fun j23 => brW x21 (j23 x22 v16 (.iface 197 (.int .i64 1))) (j23 x22 v16 v17))))))))) (fun j14 => rdT (rdC 10 0) kB (fun x27 => brW x27 (callT Tryz.prog 180 [.bool x7] (.one (.sc (.int .u64))) (fun (x28 : Int) => ifW (0 <= (63 : Int)) (brW ((x5 : Int) == 0)
 (cvalT Tryz.prog (.func (.func 181) ⟨[]⟩ ⟨[]⟩) [.int .u64 (bitV .or .u64 (IntKind.u64.wrap (x28 * 2 ^ min (Int.toNat 63) (IntKind.bits .u64))) 0)] kR (fun x29 => K (.tuple ⟨[x29, .int .i64 x10, .nilIface]⟩))) (brW (decide ((x6 : Int) > 310)) (cvalT Tryz.prog (.func (.func 181) ⟨[]⟩ ⟨[]⟩) [.int .u64 (bitV .or .u64 (IntKind.u64.wrap (x28 * 2 ^ min (Int.toNat 63) (IntKind.bits .u64))) 9218868437227405312)] kR (fun x30 => K (.tuple ⟨[x30, .int .i64 x10, .iface 197 (.int .i64 1)]⟩)))
 (brW (decide ((x6 : Int) < (-345))) (cvalT Tryz.prog (.func (.func 181) ⟨[]⟩ ⟨[]⟩) [.int .u64 (bitV .or .u64 (IntKind.u64.wrap (x28 * 2 ^ min (Int.toNat 63) (IntKind.bits .u64))) 0)] kR (fun x31 => K (.tuple ⟨[x31, .int .i64 x10, .nilIface]⟩))) (letJ (T := ByteArray -> Int -> Value -> Int -> Int -> Bool -> Int -> H -> Prop) (fun v33 v34 v35 v36 v37 v38 v39 => callT Tryz.prog 183 [.int .u64 v36, .int .i64 v37, .int .u64 v39] (.tup [.sc .raw, .sc .raw]) (fun x40 x41 =>
 brW (!v38) (K (.tuple ⟨[x40, .int .i64 v34, x41]⟩)) (callT Tryz.prog 183 [.int .u64 (IntKind.u64.wrap (v36 + 1)), .int .i64 v37, .int .u64 v39] (.tup [.sc .raw, .sc .raw]) (fun x42 _x43 => vaW Tryz.prog (do eqGuard .eql 141 (.tmp 119) (.tmp 120) (x40) (x42); binOp .eql 141 (x40) (x42)) kB (fun x44 => brW x44 (K (.tuple ⟨[x40, .int .i64 v34, x41]⟩)) (j14 v33 v34 v35)))))) (fun j32 => brW (!x8)
 (callT Tryz.prog 182 [.int .u64 x5, .int .i64 x6, .bool x7] (.tup [.sc .raw, .sc .bool]) (fun x45 x46 => brW x46 (K (.tuple ⟨[x45, .int .i64 x10, .nilIface]⟩)) (j32 v1 x10 .nilIface x5 x6 x8 (IntKind.u64.wrap (x28 * 2 ^ min (Int.toNat 63) (IntKind.bits .u64)))))) (j32 v1 x10 .nilIface x5 x6 x8 (IntKind.u64.wrap (x28 * 2 ^ min (Int.toNat 63) (IntKind.bits .u64))))))))))) (j14 v1 x10 .nilIface))))))))
theorem c167 (v1 : ByteArray) {K : KH} {σ : H} : g167 v1 K σ -> callW Tryz.prog 167 [.string v1] K σ := call_k an167 Tryz.func167 (by kernel_rfl)


def an168 : Ann := (.q (.q (.seq (some [(2,.p),(3,.p),(4,.p)]) (.q (.blk (.rf [.s] .r (.blk (.n (.seq (some [(2,.p),(3,.p),(4,.p),(5,.s),(14,.b)]) .r (.cond .z .z)) (.n (.seq (some [(3,.p),(4,.p),(5,.s),(21,.b)]) .r (.cond .z .z)) .r)))))) (.q (.cond .r .z)))))
def g168 (v1 : Value) (x2 : Option Addr) (K : KH) : H -> Prop :=
 oneK v1 (alW (.cells ⟨[v1]⟩ 225 (0, 0)) (fun b3 => alW (.cells ⟨[.string ⟨⟨[]⟩⟩]⟩ 9 (0, 0)) (fun b4 => alW (.cells ⟨[.bool false]⟩ 4 (0, 0)) (fun b5 => stW Tryz.prog 9 (.pointer (some ⟨b4, 0, none⟩)) (.string ⟨⟨[]⟩⟩) (stW Tryz.prog 4 (.pointer (some ⟨b5, 0, none⟩)) (.bool false) (letJ (T := Option Addr -> Option Addr -> Option Addr -> H -> Prop) (fun v7 v8 v9 => ptrW v9 (fun b10 o11 => rdT (rdC b10 o11) kB (fun x12 => brW x12
 (ptrW v7 (fun b13 o14 => rdT (rdC b13 o14) kR (fun x15 => ptrW v8 (fun b16 o17 => rdT (rdC b16 o17) kS (fun (x18 : ByteArray) => cvalT Tryz.prog x15 [.string x18, .bool true] kB (fun _x19 => K (.tuple ⟨[]⟩))))))) (K (.tuple ⟨[]⟩))))) (fun j6 => ptrW x2 (fun b20 o21 => rdT (rdC b20 o21) kS (fun (x22 : ByteArray) => callT Tryz.prog 76 [.string x22, .string ⟨⟨[47]⟩⟩] kR (fun x23 => funW x23 (fun (g50 : FuncId) (as51 cs52 : List Value) =>
 rfW Tryz.prog none g50 as51 cs52 [.sc .str] (fun (l24 : Nat) (obj25 : LoopState -> Option Code -> Obj) (K26 : Value -> H -> Prop) => (fun (x27 : ByteArray) => begW l24 obj25 (letJ (T := Option Addr -> Option Addr -> Option Addr -> ByteArray -> Bool -> H -> Prop) (fun v29 v30 v31 v32 x33 => brW x33 (roundK l24 obj25 K26 none true .ready) (letJ (T := Option Addr -> Option Addr -> ByteArray -> Bool -> H -> Prop) (fun v35 v36 v37 x38 => brW x38
 (roundK l24 obj25 K26 (some .ret) false .done) (stW Tryz.prog 9 (.pointer v35) (.string v37) (stW Tryz.prog 4 (.pointer v36) (.bool true) (roundK l24 obj25 K26 none true .ready)))) (fun j34 => ptrW v31 (fun b39 o40 => rdT (rdC b39 o40) kB (fun x41 => brW x41 (ptrW v29 (fun b42 o43 => rdT (rdC b42 o43) kR (fun x44 => ptrW v30 (fun b45 o46 => rdT (rdC b45 o46) kS (fun (x47 : ByteArray) => cvalT Tryz.prog x44 [.string x47, .bool false] kB (fun x48 =>
 j34 v30 v31 v32 (!x48))))))) (j34 v30 v31 v32 false)))))) (fun j28 => brW (strEq x27 (⟨⟨[]⟩⟩ : ByteArray)) (j28 (some ⟨b3, 0, none⟩) (some ⟨b4, 0, none⟩) (some ⟨b5, 0, none⟩) x27 true) (j28 (some ⟨b3, 0, none⟩) (some ⟨b4, 0, none⟩) (some ⟨b5, 0, none⟩) x27 (strEq x27 (⟨⟨[46]⟩⟩ : ByteArray))))))) (j6 (some ⟨b3, 0, none⟩) (some ⟨b4, 0, none⟩) (some ⟨b5, 0, none⟩)) (fun i49 => exW i49 0 (j6 (some ⟨b3, 0, none⟩) (some ⟨b4, 0, none⟩) (some ⟨b5, 0, none⟩)) (nW))
 (K (.tuple ⟨[]⟩)))))))))))))
theorem c168 (v1 : Value) (x2 : Option Addr) {K : KH} {σ : H} : g168 v1 x2 K σ -> callW Tryz.prog 168 [v1, .pointer x2] K σ := call_k an168 Tryz.func168 (by kernel_rfl)


def an169 : Ann := (.q (.q .z))
def g169 (v1 : Int) (K : KH) : H -> Prop :=
 K (.int .u8 (bitV .or .u8 v1 32))
theorem c169 (v1 : Int) {K : KH} {σ : H} : g169 v1 K σ -> callW Tryz.prog 169 [.int .u8 v1] K σ := call_k an169 Tryz.func169 (by kernel_rfl)


def an171 : Ann := (.q (.n (.q (.h)) (.q (.q (.seq (some []) (.q (.blk (.n (.blk (.seq (some [(0,.s),(5,.i),(6,.i)]) (.blk (.n (.blk (.n (.n (.seq (some [(0,.s),(5,.i),(6,.i),(12,.sc (.int .u8)),(13,.b)]) (.q (.cond .z .r)) (.cond .z .z)) (.n (.seq (some [(0,.s),(5,.i),(6,.i),(12,.sc (.int .u8)),(16,.b)]) (.q (.cond .z .r)) (.cond .z .z)) (.seq (some [(0,.s),(19,.b)]) (.q (.cond .z .r)) (.cond .z .z)))) .z)) (.seq (some [(0,.s),(5,.i)]) (.q (.cond .r .z)) (.q .r)))) (.n (.q (.seq (some [(5,.i),(6,.i),(7,.i)]) (.seq (some [(5,.i),(6,.i),(7,.i),(34,.b)]) .r (.cond .r .z)) (.seq (some [(5,.i),(6,.i),(7,.i),(40,.b)]) .r (.h)))) .z))) (.n (.q (.h)) .z)))) (.q .z))))))
def g171 (v1 : ByteArray) (K : KH) : H -> Prop :=
 brW (((v1.size : Nat) : Int) == 0) (K (.tuple ⟨[.float .f64 0, .int .i64 0, .bool false]⟩)) (letJ (T := H -> Prop) (K (.tuple ⟨[.float .f64 0, .int .i64 0, .bool false]⟩)) (fun j2 => idxW v1 0 (fun ch3 => letJ (T := ByteArray -> Int -> Int -> H -> Prop) (fun v5 v6 v7 => callT Tryz.prog 184 [.string v5, .string ⟨⟨[105, 110, 102, 105, 110, 105, 116, 121]⟩⟩] kI (fun (x8 : Int) => letJ (T := Int -> Int -> Int -> H -> Prop) (fun v10 v11 v12 =>
 letJ (T := Int -> Int -> Int -> Bool -> H -> Prop) (fun v14 v15 v16 x17 => brW x17 (callT Tryz.prog 185 [.int .i64 v14] kR (fun x18 => K (.tuple ⟨[x18, .int .i64 (IntKind.i64.wrap (v15 + v16)), .bool true]⟩))) (j2)) (fun j13 => brW ((v12 : Int) == 3) (j13 v10 v11 v12 true) (j13 v10 v11 v12 ((v12 : Int) == 8)))) (fun j9 => letJ (T := Int -> Int -> Int -> Bool -> H -> Prop) (fun v20 v21 v22 x23 => brW x23 (j9 v20 v21 3)
 (j9 v20 v21 v22)) (fun j19 => brW (decide ((3 : Int) < x8)) (j19 v6 v7 x8 (decide ((x8 : Int) < 8))) (j19 v6 v7 x8 false))))) (fun j4 => letJ (T := ByteArray -> Int -> Int -> Int -> Bool -> H -> Prop) (fun v25 v26 v27 x28 x29 => brW x29 (letJ (T := ByteArray -> Int -> H -> Prop) (fun v31 v32 => ifW (bndOk none v31.size /\ bndOk (some 1) (v31.size)) (j4 (v31.extract ((1 : Int).toNat) v31.size) v32 1)) (fun j30 => idxW v25 0 (fun ch33 =>
 brW ((ch33.toNat : Int) == 45) (j30 v25 (-1)) (j30 v25 v26)))) (letJ (T := ByteArray -> Int -> Int -> Int -> Bool -> H -> Prop) (fun v35 v36 v37 x38 x39 => brW x39 (j4 v35 v36 v37) (letJ (T := ByteArray -> Bool -> H -> Prop) (fun v41 x42 => brW x42 (callT Tryz.prog 184 [.string v41, .string ⟨⟨[110, 97, 110]⟩⟩] kI (fun (x43 : Int) => brW ((x43 : Int) == 3) (callT Tryz.prog 186 [] kR (fun x44 => K (.tuple ⟨[x44, .int .i64 3, .bool true]⟩))) (j2)))
 (j2)) (fun j40 => brW ((x38 : Int) == 110) (j40 v35 ((x38 : Int) == 110)) (j40 v35 ((x38 : Int) == 78))))) (fun j34 => brW ((x28 : Int) == 105) (j34 v25 v26 v27 x28 ((x28 : Int) == 105)) (j34 v25 v26 v27 x28 ((x28 : Int) == 73))))) (fun j24 => brW ((ch3.toNat : Int) == 43) (j24 v1 1 0 (ch3.toNat : Int) ((ch3.toNat : Int) == 43)) (j24 v1 1 0 (ch3.toNat : Int) ((ch3.toNat : Int) == 45)))))))
theorem c171 (v1 : ByteArray) {K : KH} {σ : H} : g171 v1 K σ -> callW Tryz.prog 171 [.string v1] K σ := call_k an171 Tryz.func171 (by kernel_rfl)


def an172 : Ann := (.q (.blk (.q (.n (.q (.cond .z .z)) (.seq (some [(0,.s),(2,.sc (.int .u64)),(3,.i),(4,.b),(5,.b),(6,.b),(7,.i),(8,.b),(9,.b)]) (.q (.blk (.q (.cond .r (.q (.cond (.q .r) .z)))))) (.q (.q (.q (.seq (some [(0,.s),(2,.sc (.int .u64)),(3,.i),(4,.b),(5,.b),(6,.b),(7,.i),(8,.b),(9,.b),(10,.sc (.int .u64)),(11,.i),(12,.sc (.int .u8))]) (.seq (some [(0,.s),(2,.sc (.int .u64)),(3,.i),(4,.b),(5,.b),(6,.b),(7,.i),(8,.b),(9,.b),(10,.sc (.int .u64)),(11,.i),(12,.sc (.int .u8)),(54,.b)]) .r (.cond (.q (.q (.q (.q .r)))) .z)) (.q (.q (.q (.q (.q (.n .z (.seq (some [(0,.s),(2,.sc (.int .u64)),(3,.i),(4,.b),(5,.b),(6,.b),(7,.i),(8,.b),(9,.b),(10,.sc (.int .u64)),(12,.sc (.int .u8)),(13,.b),(14,.b),(15,.i),(16,.i),(17,.i)]) (.blk (.loop [(0,.s),(2,.sc (.int .u64)),(3,.i),(4,.b),(5,.b),(6,.b),(7,.i),(8,.b),(9,.b),(10,.sc (.int .u64)),(11,.i),(12,.sc (.int .u8)),(13,.b),(14,.b),(15,.i),(16,.i),(17,.i)] (.n (.q (.cond .z .z)) (.seq (some [(0,.s),(2,.sc (.int .u64)),(3,.i),(4,.b),(5,.b),(6,.b),(7,.i),(8,.b),(9,.b),(10,.sc (.int .u64)),(11,.i),(12,.sc (.int .u8)),(13,.b),(14,.b),(15,.i),(16,.i),(17,.i)]) (.blk (.n (.q (.blk (.q (.cond (.q .z) (.q (.cond (.n (.q (.cond .z .z)) (.q (.q .z))) (.seq (some [(0,.s),(2,.sc (.int .u64)),(3,.i),(4,.b),(5,.b),(6,.b),(7,.i),(8,.b),(9,.b),(10,.sc (.int .u64)),(11,.i),(12,.sc (.int .u8)),(13,.b),(14,.b),(15,.i),(16,.i),(17,.i),(18,.sc (.int .u8)),(76,.b),(80,.w),(81,.w)]) .r (.cond (.q (.n (.seq (some [(0,.s),(2,.sc (.int .u64)),(3,.i),(4,.b),(5,.b),(6,.b),(7,.i),(8,.b),(9,.b),(10,.sc (.int .u64)),(11,.i),(12,.sc (.int .u8)),(13,.b),(14,.b),(15,.i),(16,.i),(17,.i),(18,.sc (.int .u8)),(80,.w),(81,.w),(87,.w),(88,.w),(89,.b)]) .r (.h)) (.q (.n (.q (.cond (.q (.q .r)) (.q (.cond .r .z)))) .z)))) (.seq (some [(0,.s),(2,.sc (.int .u64)),(3,.i),(4,.b),(5,.b),(6,.b),(7,.i),(8,.b),(9,.b),(10,.sc (.int .u64)),(11,.i),(12,.sc (.int .u8)),(13,.b),(14,.b),(15,.i),(16,.i),(17,.i),(18,.sc (.int .u8)),(80,.w),(81,.w),(109,.b),(113,.w),(114,.w),(115,.w),(118,.w),(119,.w),(120,.w)]) .r (.cond (.q (.q (.n (.q (.cond (.q (.q .r)) .r)) .z))) .z)))))))))) .z)) .r)))) (.n (.q (.cond .z .z)) (.seq (some [(0,.s),(2,.sc (.int .u64)),(3,.i),(4,.b),(5,.b),(6,.b),(7,.i),(8,.b),(9,.b),(10,.sc (.int .u64)),(12,.sc (.int .u8)),(16,.i),(17,.i)]) (.q (.cond .r .z)) (.seq (some [(0,.s),(2,.sc (.int .u64)),(3,.i),(4,.b),(5,.b),(6,.b),(7,.i),(8,.b),(9,.b),(10,.sc (.int .u64)),(12,.sc (.int .u8)),(16,.i),(17,.i)]) (.q (.cond (.q .r) .z)) (.seq (some [(0,.s),(2,.sc (.int .u64)),(3,.i),(4,.b),(5,.b),(6,.b),(7,.i),(8,.b),(9,.b),(16,.i),(17,.i)]) (.seq (some [(0,.s),(2,.sc (.int .u64)),(3,.i),(4,.b),(5,.b),(6,.b),(7,.i),(8,.b),(9,.b),(10,.sc (.int .u64)),(16,.i),(17,.i),(161,.b)]) .r (.cond (.q (.n (.q (.cond .z .z)) (.q (.seq (some [(0,.s),(2,.sc (.int .u64)),(3,.i),(4,.b),(5,.b),(6,.b),(7,.i),(8,.b),(9,.b),(16,.i),(17,.i),(19,.i)]) (.q (.blk (.q (.cond .r (.q (.cond (.q .r) .z)))))) (.n (.seq (some [(0,.s),(2,.sc (.int .u64)),(3,.i),(4,.b),(5,.b),(6,.b),(7,.i),(8,.b),(9,.b),(16,.i),(17,.i),(19,.i),(194,.b)]) .r (.cond .z .z)) (.q (.n (.blk (.loop [(0,.s),(2,.sc (.int .u64)),(3,.i),(4,.b),(5,.b),(6,.b),(7,.i),(8,.b),(9,.b),(16,.i),(17,.i),(19,.i),(20,.i)] (.n (.seq (some [(0,.s),(2,.sc (.int .u64)),(3,.i),(4,.b),(5,.b),(6,.b),(7,.i),(8,.b),(9,.b),(16,.i),(17,.i),(19,.i),(20,.i),(200,.w),(201,.w),(202,.w),(203,.w),(204,.w),(205,.w),(206,.w),(207,.w),(208,.w),(209,.w),(210,.w),(211,.w),(212,.w),(213,.w),(214,.w),(215,.w),(216,.b)]) .r (.cond .z .z)) (.seq (some [(0,.s),(2,.sc (.int .u64)),(3,.i),(4,.b),(5,.b),(6,.b),(7,.i),(8,.b),(9,.b),(16,.i),(17,.i),(19,.i),(20,.i),(200,.w),(201,.w),(202,.w),(203,.w),(204,.w),(205,.w),(206,.w),(207,.w),(208,.w),(209,.w),(210,.w),(211,.w),(212,.w),(213,.w),(214,.w),(215,.w)]) (.blk (.n (.q (.h)) (.q (.cond .r .z)))) .r)))) .r))))))) (.q (.cond .z .z)))) (.seq (some [(0,.s),(2,.sc (.int .u64)),(3,.i),(4,.b),(5,.b),(6,.b),(7,.i),(8,.b),(9,.b)]) (.q (.cond .r .z)) (.n (.seq (some [(2,.sc (.int .u64)),(3,.i),(4,.b),(5,.b),(6,.b),(7,.i),(8,.b),(252,.b)]) .r (.cond .z .z)) (.q .z)))))))))))))))))))))))
def g172 (v1 : ByteArray) (K : KH) : H -> Prop :=
 brW (decide ((0 : Int) >= ((v1.size : Nat) : Int))) (K (.tuple ⟨[.int .u64 0, .int .i64 0, .bool false, .bool false, .bool false, .int .i64 0, .bool false]⟩)) (letJ (T := ByteArray -> Int -> Int -> Bool -> Bool -> Bool -> Int -> Bool -> Bool -> H -> Prop) (fun v3 v4 v5 v6 v7 v8 v9 v10 v11 =>
 letJ (T := ByteArray -> Int -> Int -> Bool -> Bool -> Bool -> Int -> Bool -> Bool -> Int -> Int -> Int -> H -> Prop) (fun v13 v14 v15 v16 v17 v18 v19 v20 v21 v22 v23 v24 => letJ (T := ByteArray -> Int -> Int -> Bool -> Bool -> Bool -> Int -> Bool -> Bool -> Int -> Int -> Bool -> Bool -> Int -> Int -> Int -> H -> Prop) (fun v26 v27 v28 v29 v30 v31 v32 v33 v34 v35 v36 v37 v38 v39 v40 v41 =>
 brW (!v38) (K (.tuple ⟨[.int .u64 v27, .int .i64 v28, .bool v29, .bool v30, .bool v31, .int .i64 v32, .bool v33]⟩)) (letJ (T := ByteArray -> Int -> Int -> Bool -> Bool -> Bool -> Int -> Bool -> Bool -> Int -> Int -> Int -> Int -> H -> Prop) (fun v43 v44 v45 v46 v47 v48 v49 v50 v51 v52 v53 v54 v55 =>
 letJ (T := ByteArray -> Int -> Int -> Bool -> Bool -> Bool -> Int -> Bool -> Bool -> Int -> Int -> Int -> Int -> H -> Prop) (fun v57 v58 v59 v60 v61 v62 v63 v64 v65 v66 v67 v68 v69 => letJ (T := ByteArray -> Int -> Int -> Bool -> Bool -> Bool -> Int -> Bool -> Bool -> Int -> Int -> H -> Prop) (fun v71 v72 v73 v74 v75 v76 v77 v78 v79 v80 v81 =>
 letJ (T := ByteArray -> Int -> Int -> Bool -> Bool -> Bool -> Int -> Bool -> Bool -> H -> Prop) (fun v83 v84 v85 v86 v87 v88 v89 v90 v91 => letJ (T := Int -> Int -> Bool -> Bool -> Bool -> Int -> Bool -> Bool -> H -> Prop) (fun v93 v94 v95 v96 v97 v98 v99 x100 => brW x100 (K (.tuple ⟨[.int .u64 v93, .int .i64 v94, .bool v95, .bool v96, .bool v97, .int .i64 v98, .bool v99]⟩))
 (K (.tuple ⟨[.int .u64 v93, .int .i64 v94, .bool v95, .bool v96, .bool v97, .int .i64 v98, .bool true]⟩))) (fun j92 => brW v91 (ifW (bndOk (some v89) v83.size /\ bndOk none (v89.toNat)) (callT Tryz.prog 170 [.string (v83.extract 0 v89.toNat)] kB (fun x101 => j92 v84 v85 v86 v87 v88 v89 v90 (!x101)))) (j92 v84 v85 v86 v87 v88 v89 v90 false))) (fun j82 => brW ((v72 : Int) != 0)
 (j82 v71 v72 (IntKind.i64.wrap (v81 - v80)) v74 v75 v76 v77 v78 v79) (j82 v71 v72 v73 v74 v75 v76 v77 v78 v79))) (fun j70 => letJ (T := ByteArray -> Int -> Int -> Bool -> Bool -> Bool -> Int -> Bool -> Bool -> Int -> Int -> Int -> Bool -> H -> Prop) (fun v103 v104 v105 v106 v107 v108 v109 v110 v111 v112 v113 v114 x115 => brW x115
 (brW (decide (((IntKind.i64.wrap (v109 + 1)) : Int) >= ((v103.size : Nat) : Int))) (K (.tuple ⟨[.int .u64 v104, .int .i64 v105, .bool v106, .bool v107, .bool v108, .int .i64 (IntKind.i64.wrap (v109 + 1)), .bool v110]⟩)) (letJ (T := ByteArray -> Int -> Int -> Bool -> Bool -> Bool -> Int -> Bool -> Bool -> Int -> Int -> Int -> H -> Prop) (fun v117 v118 v119 v120 v121 v122 v123 v124 v125 v126 v127 v128 =>
 letJ (T := ByteArray -> Int -> Int -> Bool -> Bool -> Bool -> Int -> Bool -> Bool -> Int -> Int -> Int -> Bool -> H -> Prop) (fun v130 v131 v132 v133 v134 v135 v136 v137 v138 v139 v140 v141 x142 => brW x142 (K (.tuple ⟨[.int .u64 v131, .int .i64 v132, .bool v133, .bool v134, .bool v135, .int .i64 v136, .bool v137]⟩))
 (loopW [.sc .str, .sc (.int .u64), .sc (.int .i64), .sc .bool, .sc .bool, .sc .bool, .sc (.int .i64), .sc .bool, .sc .bool, .sc (.int .i64), .sc (.int .i64), .sc (.int .i64), .sc (.int .i64)] (fun (R143 : ByteArray -> Int -> Int -> Bool -> Bool -> Bool -> Int -> Bool -> Bool -> Int -> Int -> Int -> Int -> H -> Prop) => (fun (v144 : ByteArray) (v145 : Int) (v146 : Int) (v147 : Bool) (v148 : Bool) (v149 : Bool) (v150 : Int) (v151 : Bool) (v152 : Bool) (v153 : Int) (v154 : Int) (v155 : Int) (v156 : Int) =>
 letJ (T := ByteArray -> Int -> Int -> Bool -> Bool -> Bool -> Int -> Bool -> Bool -> Int -> Int -> Int -> Int -> Value -> Value -> Value -> Value -> Value -> Value -> Value -> Value -> Value -> Value -> Value -> Value -> Value -> Value -> Value -> Value -> Bool -> H -> Prop) (fun v158 v159 v160 v161 v162 v163 v164 v165 v166 v167 v168 v169 v170 x171 x172 x173 x174 x175 x176 x177 x178 x179 x180 x181 x182 x183 x184 x185 x186 x187 => brW x187
 (letJ (T := ByteArray -> Int -> Int -> Bool -> Bool -> Bool -> Int -> Bool -> Bool -> Int -> Int -> Int -> Int -> Value -> Value -> Value -> Value -> Value -> Value -> Value -> Value -> Value -> Value -> Value -> Value -> Value -> Value -> Value -> Value -> H -> Prop) (fun v189 v190 v191 v192 v193 v194 v195 v196 v197 v198 v199 v200 v201 _x202 _x203 _x204 _x205 _x206 _x207 _x208 _x209 _x210 _x211 _x212 _x213 _x214 _x215 _x216 _x217 =>
 R143 v189 v190 v191 v192 v193 v194 (IntKind.i64.wrap (v195 + 1)) v196 v197 v198 v199 v200 v201) (fun j188 => idxW v158 v164 (fun ch218 => brW ((ch218.toNat : Int) == 95) (j188 v158 v159 v160 v161 v162 v163 v164 v165 true v167 v168 v169 v170 x171 x172 x173 x174 x175 x176 x177 x178 x179 x180 x181 x182 x183 x184 x185 x186) (brW (decide ((v170 : Int) < 10000)) (idxW v158 v164 (fun ch219 =>
 j188 v158 v159 v160 v161 v162 v163 v164 v165 v166 v167 v168 v169 (IntKind.i64.wrap ((IntKind.i64.wrap ((IntKind.i64.wrap (v170 * 10)) + (IntKind.i64.wrap (ch219.toNat : Int)))) - 48)) x171 x172 x173 x174 x175 x176 x177 x178 x179 x180 x181 x182 x183 x184 x185 x186))
 (j188 v158 v159 v160 v161 v162 v163 v164 v165 v166 v167 v168 v169 v170 x171 x172 x173 x174 x175 x176 x177 x178 x179 x180 x181 x182 x183 x184 x185 x186))))) (j70 v158 v159 v160 v161 v162 v163 v164 v165 v166 v167 (IntKind.i64.wrap (v168 + (IntKind.i64.wrap (v170 * v169)))))) (fun j157 => brW (decide ((v150 : Int) < ((v144.size : Nat) : Int))) (idxW v144 v150 (fun ch220 =>
 brW (decide ((48 : Int) <= (ch220.toNat : Int))) (idxW v144 v150 (fun ch221 => brW (decide ((ch221.toNat : Int) <= 57))
 (j157 v144 v145 v146 v147 v148 v149 v150 v151 v152 v153 v154 v155 v156 (.string v144) (.int .i64 v150) (.int .u8 (ch220.toNat : Int)) (.bool (decide ((48 : Int) <= (ch220.toNat : Int)))) (.bool true) (.string v144) (.int .i64 v150) (.int .u8 (ch221.toNat : Int)) (.bool (decide ((ch221.toNat : Int) <= 57))) (.bool (decide ((ch221.toNat : Int) <= 57))) (.bool true) (.tuple ⟨[]⟩) (.tuple ⟨[]⟩) (.tuple ⟨[]⟩) (.tuple ⟨[]⟩) (.bool true) true)
 (idxW v144 v150 (fun ch222 =>
 j157 v144 v145 v146 v147 v148 v149 v150 v151 v152 v153 v154 v155 v156 (.string v144) (.int .i64 v150) (.int .u8 (ch220.toNat : Int)) (.bool (decide ((48 : Int) <= (ch220.toNat : Int)))) (.bool true) (.string v144) (.int .i64 v150) (.int .u8 (ch221.toNat : Int)) (.bool (decide ((ch221.toNat : Int) <= 57))) (.bool (decide ((ch221.toNat : Int) <= 57))) (.bool false) (.string v144) (.int .i64 v150) (.int .u8 (ch222.toNat : Int)) (.bool ((ch222.toNat : Int) == 95)) (.bool ((ch222.toNat : Int) == 95)) ((ch222.toNat : Int) == 95)))))
 (idxW v144 v150 (fun ch223 =>
 j157 v144 v145 v146 v147 v148 v149 v150 v151 v152 v153 v154 v155 v156 (.string v144) (.int .i64 v150) (.int .u8 (ch220.toNat : Int)) (.bool (decide ((48 : Int) <= (ch220.toNat : Int)))) (.bool false) (.tuple ⟨[]⟩) (.tuple ⟨[]⟩) (.tuple ⟨[]⟩) (.tuple ⟨[]⟩) (.bool false) (.bool false) (.string v144) (.int .i64 v150) (.int .u8 (ch223.toNat : Int)) (.bool ((ch223.toNat : Int) == 95)) (.bool ((ch223.toNat : Int) == 95)) ((ch223.toNat : Int) == 95)))))
 (j157 v144 v145 v146 v147 v148 v149 v150 v151 v152 v153 v154 v155 v156 (.tuple ⟨[]⟩) (.tuple ⟨[]⟩) (.tuple ⟨[]⟩) (.tuple ⟨[]⟩) (.tuple ⟨[]⟩) (.tuple ⟨[]⟩) (.tuple ⟨[]⟩) (.tuple ⟨[]⟩) (.tuple ⟨[]⟩) (.tuple ⟨[]⟩) (.tuple ⟨[]⟩) (.tuple ⟨[]⟩) (.tuple ⟨[]⟩) (.tuple ⟨[]⟩) (.tuple ⟨[]⟩) (.tuple ⟨[]⟩) false)))) (fun (R224 : ByteArray -> Int -> Int -> Bool -> Bool -> Bool -> Int -> Bool -> Bool -> Int -> Int -> Int -> Int -> H -> Prop) => R224 v130 v131 v132 v133 v134 v135 v136 v137 v138 v139 v140 v141 0))) (fun j129 =>
 brW (decide ((v123 : Int) >= ((v117.size : Nat) : Int))) (j129 v117 v118 v119 v120 v121 v122 v123 v124 v125 v126 v127 v128 true) (idxW v117 v123 (fun ch225 => brW (decide ((ch225.toNat : Int) < 48)) (j129 v117 v118 v119 v120 v121 v122 v123 v124 v125 v126 v127 v128 true) (idxW v117 v123 (fun ch226 =>
 j129 v117 v118 v119 v120 v121 v122 v123 v124 v125 v126 v127 v128 (decide ((ch226.toNat : Int) > 57)))))))) (fun j116 => idxW v103 (IntKind.i64.wrap (v109 + 1)) (fun ch227 => brW ((ch227.toNat : Int) == 43) (j116 v103 v104 v105 v106 v107 v108 (IntKind.i64.wrap ((IntKind.i64.wrap (v109 + 1)) + 1)) v110 v111 v113 v114 1) (brW ((ch227.toNat : Int) == 45)
 (j116 v103 v104 v105 v106 v107 v108 (IntKind.i64.wrap ((IntKind.i64.wrap (v109 + 1)) + 1)) v110 v111 v113 v114 (-1)) (j116 v103 v104 v105 v106 v107 v108 (IntKind.i64.wrap (v109 + 1)) v110 v111 v113 v114 1)))))) (brW ((v112 : Int) == 16) (K (.tuple ⟨[.int .u64 v104, .int .i64 v105, .bool v106, .bool v107, .bool v108, .int .i64 v109, .bool v110]⟩))
 (j70 v103 v104 v105 v106 v107 v108 v109 v110 v111 v113 v114))) (fun j102 => brW (decide ((v63 : Int) < ((v57.size : Nat) : Int))) (idxW v57 v63 (fun ch228 => callT Tryz.prog 169 [.int .u8 (ch228.toNat : Int)] kC (fun (x229 : Int) => j102 v57 v58 v59 v60 v61 v62 v63 v64 v65 v66 v68 v69 ((x229 : Int) == v67))))
 (j102 v57 v58 v59 v60 v61 v62 v63 v64 v65 v66 v68 v69 false)))) (fun j56 => brW ((v52 : Int) == 16) (j56 v43 v44 v45 v46 v47 v48 v49 v50 v51 v52 v53 (IntKind.i64.wrap (v54 * 4)) (IntKind.i64.wrap (v55 * 4))) (j56 v43 v44 v45 v46 v47 v48 v49 v50 v51 v52 v53 v54 v55))) (fun j42 => brW (!v37)
 (j42 v26 v27 v28 v29 v30 v31 v32 v33 v34 v35 v36 v40 v39) (j42 v26 v27 v28 v29 v30 v31 v32 v33 v34 v35 v36 v40 v41)))) (fun j25 =>
 loopW [.sc .str, .sc (.int .u64), .sc (.int .i64), .sc .bool, .sc .bool, .sc .bool, .sc (.int .i64), .sc .bool, .sc .bool, .sc (.int .u64), .sc (.int .i64), .sc (.int .u8), .sc .bool, .sc .bool, .sc (.int .i64), .sc (.int .i64), .sc (.int .i64)] (fun (R230 : ByteArray -> Int -> Int -> Bool -> Bool -> Bool -> Int -> Bool -> Bool -> Int -> Int -> Int -> Bool -> Bool -> Int -> Int -> Int -> H -> Prop) => (fun (v231 : ByteArray) (v232 : Int) (v233 : Int) (v234 : Bool) (v235 : Bool) (v236 : Bool) (v237 : Int) (v238 : Bool) (v239 : Bool) (v240 : Int) (v241 : Int) (v242 : Int) (v243 : Bool) (v244 : Bool) (v245 : Int) (v246 : Int) (v247 : Int) =>
 brW (decide ((v237 : Int) < ((v231.size : Nat) : Int))) (letJ (T := ByteArray -> Int -> Int -> Bool -> Bool -> Bool -> Int -> Bool -> Bool -> Int -> Int -> Int -> Bool -> Bool -> Int -> Int -> Int -> H -> Prop) (fun v249 v250 v251 v252 v253 v254 v255 v256 v257 v258 v259 v260 v261 v262 v263 v264 v265 =>
 R230 v249 v250 v251 v252 v253 v254 (IntKind.i64.wrap (v255 + 1)) v256 v257 v258 v259 v260 v261 v262 v263 v264 v265) (fun j248 => idxW v231 v237 (fun ch266 => brW (true == ((ch266.toNat : Int) == 95)) (j248 v231 v232 v233 v234 v235 v236 v237 v238 true v240 v241 v242 v243 v244 v245 v246 v247)
 (brW (true == ((ch266.toNat : Int) == 46)) (brW v243 (j25 v231 v232 v233 v234 v235 v236 v237 v238 v239 v240 v242 v243 v244 v245 v246 v247) (j248 v231 v232 v233 v234 v235 v236 v237 v238 v239 v240 v241 v242 true v244 v245 v246 v245))
 (letJ (T := ByteArray -> Int -> Int -> Bool -> Bool -> Bool -> Int -> Bool -> Bool -> Int -> Int -> Int -> Bool -> Bool -> Int -> Int -> Int -> Int -> Bool -> Value -> Value -> H -> Prop) (fun v268 v269 v270 v271 v272 v273 v274 v275 v276 v277 v278 v279 v280 v281 v282 v283 v284 v285 x286 x287 x288 => brW x286
 (letJ (T := ByteArray -> Int -> Int -> Bool -> Bool -> Bool -> Int -> Bool -> Bool -> Int -> Int -> Int -> Bool -> Bool -> Int -> Int -> Int -> Int -> Value -> Value -> Value -> Value -> Bool -> H -> Prop) (fun v290 v291 v292 v293 v294 v295 v296 v297 v298 v299 v300 v301 v302 v303 v304 v305 v306 v307 _x308 _x309 _x310 _x311 x312 => brW x312
 (j248 v290 v291 v292 v293 v294 v295 v296 v297 v298 v299 v300 v301 v302 v303 v304 v305 (IntKind.i64.wrap (v306 - 1))) (brW (decide ((v305 : Int) < v300))
 (j248 v290 (IntKind.u64.wrap ((IntKind.u64.wrap (v291 * v299)) + (IntKind.u64.wrap (IntKind.u8.wrap (v307 - 48))))) v292 v293 v294 v295 v296 v297 v298 v299 v300 v301 v302 v303 (IntKind.i64.wrap (v304 + 1)) (IntKind.i64.wrap (v305 + 1)) v306) (brW ((v307 : Int) != 48)
 (j248 v290 v291 v292 v293 true v295 v296 v297 v298 v299 v300 v301 v302 v303 (IntKind.i64.wrap (v304 + 1)) v305 v306) (j248 v290 v291 v292 v293 v294 v295 v296 v297 v298 v299 v300 v301 v302 v303 (IntKind.i64.wrap (v304 + 1)) v305 v306)))) (fun j289 => brW ((v285 : Int) == 48)
 (j289 v268 v269 v270 v271 v272 v273 v274 v275 v276 v277 v278 v279 v280 true v282 v283 v284 v285 x287 x288 (.int .i64 v282) (.bool ((v282 : Int) == 0)) ((v282 : Int) == 0)) (j289 v268 v269 v270 v271 v272 v273 v274 v275 v276 v277 v278 v279 v280 true v282 v283 v284 v285 x287 x288 (.tuple ⟨[]⟩) (.tuple ⟨[]⟩) false)))
 (letJ (T := ByteArray -> Int -> Int -> Bool -> Bool -> Bool -> Int -> Bool -> Bool -> Int -> Int -> Int -> Bool -> Bool -> Int -> Int -> Int -> Int -> Value -> Value -> Bool -> Value -> Value -> Value -> Value -> Value -> Value -> H -> Prop) (fun v314 v315 v316 v317 v318 v319 v320 v321 v322 v323 v324 v325 v326 v327 v328 v329 v330 v331 _x332 _x333 x334 _x335 _x336 _x337 _x338 _x339 _x340 => brW x334
 (brW (decide ((v329 : Int) < v324)) (callT Tryz.prog 169 [.int .u8 v331] kC (fun (x341 : Int) => j248 v314 (IntKind.u64.wrap ((IntKind.u64.wrap (v315 * 16)) + (IntKind.u64.wrap (IntKind.u8.wrap ((IntKind.u8.wrap (x341 - 97)) + 10))))) v316 v317 v318 v319 v320 v321 v322 v323 v324 v325 v326 true (IntKind.i64.wrap (v328 + 1)) (IntKind.i64.wrap (v329 + 1)) v330))
 (j248 v314 v315 v316 v317 true v319 v320 v321 v322 v323 v324 v325 v326 true (IntKind.i64.wrap (v328 + 1)) v329 v330)) (j25 v314 v315 v316 v317 v318 v319 v320 v321 v322 v323 v325 v326 v327 v328 v329 v330)) (fun j313 => brW ((v277 : Int) == 16) (callT Tryz.prog 169 [.int .u8 v285] kC (fun (x342 : Int) => brW (decide ((97 : Int) <= x342))
 (callT Tryz.prog 169 [.int .u8 v285] kC (fun (x343 : Int) => j313 v268 v269 v270 v271 v272 v273 v274 v275 v276 v277 v278 v279 v280 v281 v282 v283 v284 v285 x287 x288 (true == (decide ((x343 : Int) <= 102))) (.int .u8 v285) (.int .u8 x342) (.bool (decide ((97 : Int) <= x342))) (.int .u8 v285) (.int .u8 x343) (.bool (decide ((x343 : Int) <= 102)))))
 (j313 v268 v269 v270 v271 v272 v273 v274 v275 v276 v277 v278 v279 v280 v281 v282 v283 v284 v285 x287 x288 (true == false) (.int .u8 v285) (.int .u8 x342) (.bool (decide ((97 : Int) <= x342))) (.tuple ⟨[]⟩) (.tuple ⟨[]⟩) (.tuple ⟨[]⟩))))
 (j313 v268 v269 v270 v271 v272 v273 v274 v275 v276 v277 v278 v279 v280 v281 v282 v283 v284 v285 x287 x288 (true == false) (.tuple ⟨[]⟩) (.tuple ⟨[]⟩) (.tuple ⟨[]⟩) (.tuple ⟨[]⟩) (.tuple ⟨[]⟩) (.tuple ⟨[]⟩))))) (fun j267 => brW (decide ((48 : Int) <= (ch266.toNat : Int)))
 (j267 v231 v232 v233 v234 v235 v236 v237 v238 v239 v240 v241 v242 v243 v244 v245 v246 v247 (ch266.toNat : Int) (true == (decide ((ch266.toNat : Int) <= 57))) (.int .u8 (ch266.toNat : Int)) (.bool (decide ((ch266.toNat : Int) <= 57))))
 (j267 v231 v232 v233 v234 v235 v236 v237 v238 v239 v240 v241 v242 v243 v244 v245 v246 v247 (ch266.toNat : Int) (true == false) (.tuple ⟨[]⟩) (.tuple ⟨[]⟩))))))))
 (j25 v231 v232 v233 v234 v235 v236 v237 v238 v239 v240 v242 v243 v244 v245 v246 v247))) (fun (R344 : ByteArray -> Int -> Int -> Bool -> Bool -> Bool -> Int -> Bool -> Bool -> Int -> Int -> Int -> Bool -> Bool -> Int -> Int -> Int -> H -> Prop) => R344 v13 v14 v15 v16 v17 v18 v19 v20 v21 v22 v23 v24 false false 0 0 0))) (fun j12 =>
 letJ (T := ByteArray -> Int -> Int -> Bool -> Bool -> Bool -> Int -> Bool -> Bool -> Int -> Int -> Int -> Bool -> H -> Prop) (fun v346 v347 v348 v349 v350 v351 v352 v353 v354 v355 v356 v357 x358 => brW x358 (j12 v346 v347 v348 v349 v350 true (IntKind.i64.wrap (v352 + 2)) v353 v354 16 16 112)
 (j12 v346 v347 v348 v349 v350 v351 v352 v353 v354 v355 v356 v357)) (fun j345 => brW (decide (((IntKind.i64.wrap (v9 + 2)) : Int) < ((v3.size : Nat) : Int))) (idxW v3 v9 (fun ch359 => brW ((ch359.toNat : Int) == 48) (idxW v3 (IntKind.i64.wrap (v9 + 1)) (fun ch360 => callT Tryz.prog 169 [.int .u8 (ch360.toNat : Int)] kC (fun (x361 : Int) =>
 j345 v3 v4 v5 v6 v7 v8 v9 v10 v11 10 19 101 ((x361 : Int) == 120)))) (j345 v3 v4 v5 v6 v7 v8 v9 v10 v11 10 19 101 false))) (j345 v3 v4 v5 v6 v7 v8 v9 v10 v11 10 19 101 false)))) (fun j2 => idxW v1 0 (fun ch362 => brW ((ch362.toNat : Int) == 43) (j2 v1 0 0 false false false (IntKind.i64.wrap (0 + 1)) false false) (brW ((ch362.toNat : Int) == 45)
 (j2 v1 0 0 true false false (IntKind.i64.wrap (0 + 1)) false false) (j2 v1 0 0 false false false 0 false false)))))
theorem c172 (v1 : ByteArray) {K : KH} {σ : H} : g172 v1 K σ -> callW Tryz.prog 172 [.string v1] K σ := call_k an172 Tryz.func172 (by kernel_rfl)


def an180 : Ann := (.q (.n (.q (.h)) (.q .z)))
def g180 (v1 : Bool) (K : KH) : H -> Prop :=
 brW v1 (K (.int .u64 1)) (K (.int .u64 0))
theorem c180 (v1 : Bool) {K : KH} {σ : H} : g180 v1 K σ -> callW Tryz.prog 180 [.bool v1] K σ := call_k an180 Tryz.func180 (by kernel_rfl)


def an182 : Ann := (.q (.n (.q (.cond .z .z)) (.q (.seq (some [(1,.i),(6,.w),(7,.b)]) (.q (.cond .r .z)) (.n (.blk (.q (.cond (.q .z) (.seq (some [(1,.i),(6,.w),(7,.b),(22,.b)]) .r (.cond (.seq (some [(1,.i),(6,.w),(7,.b)]) (.q (.cond (.q .r) .z)) (.n (.seq (some [(1,.i),(6,.w),(7,.b),(43,.b)]) .r (.cond .z .z)) (.q .z))) (.seq (some [(1,.i),(6,.w),(7,.b),(50,.b)]) .r (.h))))))) .z)))))
def g182 (v1 : Int) (v2 : Int) (v3 : Bool) (K : KH) : H -> Prop :=
 rdT (rdC 11 0) (.one (.sc (.int .u64))) (fun (x4 : Int) => ifW (0 <= x4) (brW (((Int.fdiv v1 (2 ^ min (Int.toNat x4) (IntKind.bits .u64))) : Int) != 0) (K (.tuple ⟨[.float .f64 0, .bool false]⟩)) (vaW Tryz.prog (convert 183 141 (.int .u64 v1)) kR (fun x5 => letJ (T := Int -> Value -> Bool -> H -> Prop) (fun v7 v8 v9 => brW ((v7 : Int) == 0) (K (.tuple ⟨[v8, .bool true]⟩)) (letJ (T := Int -> Value -> Bool -> Bool -> H -> Prop) (fun v11 v12 v13 x14 => brW x14
 (letJ (T := Int -> Value -> Bool -> H -> Prop) (fun v16 v17 v18 => letJ (T := Int -> Value -> Bool -> Bool -> H -> Prop) (fun v20 v21 v22 x23 => brW x23 (K (.tuple ⟨[v21, .bool v22]⟩)) (rdT (rdC 14 0) kL (fun x24 => ptrW x24.base (fun b25 o26 => ifW (0 <= v20 /\ v20 < ((x24.len : Nat) : Int)) (rdT (rdC b25 (o26 + v20.toNat * 1)) kR (fun x27 => vaW Tryz.prog (do eqGuard .mul 141 (.tmp 44) (.tmp 48) (v21) (x27); binOp .mul 141 (v21) (x27)) kR (fun x28 =>
 K (.tuple ⟨[x28, .bool true]⟩)))))))) (fun j19 => vaW Tryz.prog (do eqGuard .gtr 141 (.tmp 38) (.const (.float .f64 4831355200913801216)) (v17) (.float .f64 4831355200913801216); binOp .gtr 141 (v17) (.float .f64 4831355200913801216)) kB (fun x29 => brW x29 (j19 v16 v17 v18 true) (vaW Tryz.prog (do eqGuard .lss 141 (.tmp 41) (.const (.float .f64 14054727237768577024)) (v17) (.float .f64 14054727237768577024); binOp .lss 141 (v17) (.float .f64 14054727237768577024)) kB (fun x30 =>
 j19 v16 v17 v18 x30))))) (fun j15 => brW (decide ((v11 : Int) > 22)) (rdT (rdC 14 0) kL (fun x31 => ptrW x31.base (fun b32 o33 => ifW (0 <= IntKind.i64.wrap (v11 - 22) /\ IntKind.i64.wrap (v11 - 22) < ((x31.len : Nat) : Int)) (rdT (rdC b32 (o33 + (IntKind.i64.wrap (v11 - 22) : Int).toNat * 1)) kR (fun x34 => vaW Tryz.prog (do eqGuard .mul 141 (.tmp 31) (.tmp 36) (v12) (x34); binOp .mul 141 (v12) (x34)) kR (fun x35 => j15 22 x35 v13)))))) (j15 v11 v12 v13)))
 (letJ (T := Int -> Value -> Bool -> Bool -> H -> Prop) (fun v37 v38 v39 x40 => brW x40 (rdT (rdC 14 0) kL (fun x41 => ptrW x41.base (fun b42 o43 => ifW (0 <= IntKind.i64.wrap (0 - v37) /\ IntKind.i64.wrap (0 - v37) < ((x41.len : Nat) : Int)) (rdT (rdC b42 (o43 + (IntKind.i64.wrap (0 - v37) : Int).toNat * 1)) kR (fun x44 => vaW Tryz.prog (do eqGuard .quo 141 (.tmp 57) (.tmp 62) (v38) (x44); binOp .quo 141 (v38) (x44)) kR (fun x45 => K (.tuple ⟨[x45, .bool true]⟩)))))))
 (K (.tuple ⟨[v38, .bool v39]⟩))) (fun j36 => brW (decide ((v11 : Int) < 0)) (j36 v11 v12 v13 (decide ((v11 : Int) >= (-22)))) (j36 v11 v12 v13 false)))) (fun j10 => brW (decide ((v7 : Int) > 0)) (j10 v7 v8 v9 (decide ((v7 : Int) <= 37))) (j10 v7 v8 v9 false)))) (fun j6 => brW v3 (vaW Tryz.prog (Op.unary .neg (x5)) kR (fun x46 => j6 v2 x46 false)) (j6 v2 x5 false))))))
theorem c182 (v1 : Int) (v2 : Int) (v3 : Bool) {K : KH} {σ : H} : g182 v1 v2 v3 K σ -> callW Tryz.prog 182 [.int .u64 v1, .int .i64 v2, .bool v3] K σ := call_k an182 Tryz.func182 (by kernel_rfl)


def an184 : Ann := (.q (.q (.n (.q (.blk (.loop [(0,.s),(1,.s),(5,.i),(6,.i)] (.n (.q (.cond .z .z)) (.n (.blk (.q (.seq (some [(0,.s),(1,.s),(5,.i),(6,.i),(7,.sc (.int .u8)),(24,.w),(25,.w)]) (.seq (some [(0,.s),(1,.s),(5,.i),(6,.i),(7,.sc (.int .u8)),(24,.w),(25,.w),(26,.b)]) .r (.cond .r .z)) (.q (.h))))) .r))))) (.q .z))))
def g184 (v1 : ByteArray) (v2 : ByteArray) (K : KH) : H -> Prop :=
 loopW [.sc .str, .sc .str, .sc (.int .i64), .sc (.int .i64)] (fun (R3 : ByteArray -> ByteArray -> Int -> Int -> H -> Prop) => (fun (v4 : ByteArray) (v5 : ByteArray) (v6 : Int) (v7 : Int) => brW (decide ((v7 : Int) < v6)) (idxW v4 v7 (fun ch8 => letJ (T := ByteArray -> ByteArray -> Int -> Int -> Int -> Value -> Value -> H -> Prop) (fun v10 v11 v12 v13 v14 _x15 _x16 => idxW v11 v13 (fun ch17 => brW ((v14 : Int) != (ch17.toNat : Int)) (K (.int .i64 v13))
 (R3 v10 v11 v12 (IntKind.i64.wrap (v13 + 1))))) (fun j9 => letJ (T := ByteArray -> ByteArray -> Int -> Int -> Int -> Value -> Value -> Bool -> H -> Prop) (fun v19 v20 v21 v22 v23 x24 x25 x26 => brW x26 (j9 v19 v20 v21 v22 (IntKind.u8.wrap (v23 + 32)) x24 x25) (j9 v19 v20 v21 v22 v23 x24 x25)) (fun j18 => brW (decide ((65 : Int) <= (ch8.toNat : Int)))
 (j18 v4 v5 v6 v7 (ch8.toNat : Int) (.int .u8 (ch8.toNat : Int)) (.bool (decide ((ch8.toNat : Int) <= 90))) (decide ((ch8.toNat : Int) <= 90))) (j18 v4 v5 v6 v7 (ch8.toNat : Int) (.tuple ⟨[]⟩) (.tuple ⟨[]⟩) false))))) (K (.int .i64 v6)))) (fun (R27 : ByteArray -> ByteArray -> Int -> Int -> H -> Prop) => R27 v1 v2 (if ((v1.size : Nat) : Int) < ((v2.size : Nat) : Int) then ((v1.size : Nat) : Int) else ((v2.size : Nat) : Int)) 0)
theorem c184 (v1 : ByteArray) (v2 : ByteArray) {K : KH} {σ : H} : g184 v1 v2 K σ -> callW Tryz.prog 184 [.string v1, .string v2] K σ := call_k an184 Tryz.func184 (by kernel_rfl)


def an186 : Ann := (.q (.q .z))
def g186  (K : KH) : H -> Prop :=
 cvalT Tryz.prog (.func (.func 181) ⟨[]⟩ ⟨[]⟩) [.int .u64 9221120237041090561] kR (fun x1 => K (x1))
theorem c186  {K : KH} {σ : H} : g186  K σ -> callW Tryz.prog 186 [] K σ := call_k an186 Tryz.func186 (by kernel_rfl)

end Go.Proofs.YtpfkfphjigcdeaaGreatDoor

namespace Go.Proofs.YtpfkfphjigcdeaaGreatDoor
open Go Go.HL
end Go.Proofs.YtpfkfphjigcdeaaGreatDoor

set_option maxRecDepth 100000
namespace Go.Proofs.YtpfkfphjigcdeaaGreatDoor
open Go Go.HL Go.Wk
attribute [local irreducible] ptrW ifW brW andW rdT alW letJ stW muW biW vaW imW callT cvalT app callW invW callVW sizeT oW nilF oneK loopW rfW funW begW roundK exW idxW Gr Put
structure Nd where
 blk : Nat
 kind : Int
 mode : Int
 data : ByteArray
 links : Int
 up : Int
 eb : Option Nat
 ents : List (ByteArray × Int)
structure Tb where
 qi : Int
 qb : Int
 ui : Int
 ub : Int
 last : Int
 mb : Nat
 nodes : List (Int × Nd)
def Nd.cells (n : Nd) : Obj := .cells ⟨[.int .i64 n.kind, .int .i64 n.mode, .string n.data, .int .i64 n.links, .int .i64 n.up, .map n.eb]⟩ 67 (0, 0)
def Nd.ptr (n : Nd) : Value := .pointer (some ⟨n.blk, 0, none⟩)
def Tb.cells (T : Tb) : Obj := .cells ⟨[.int .i64 T.qi, .int .i64 T.qb, .int .i64 T.ui, .int .i64 T.ub, .map (some T.mb), .int .i64 T.last]⟩ 70 (0, 0)
def valI (n : Int) : Value := .int .i64 n
structure NdAt (σ : H) (n : Nd) : Prop where
 cells : σ n.blk = some n.cells
 ents : ∀ e, n.eb = some e -> MapAt σ e (encL kkS valI n.ents)
 none : n.eb = none -> n.ents = []
 dir : n.kind = 2 -> n.eb ≠ Option.none
def Tb.get (T : Tb) (ino : Int) : Option Nd := lk ino T.nodes
structure TAt (σ : H) (bt : Nat) (T : Tb) : Prop where
 cells : σ bt = some T.cells
 nodes : MapAt σ T.mb (encL kkI Nd.ptr T.nodes)
 each : ∀ i n, T.get i = some n -> NdAt σ n
theorem NdAt.gr {σ σ' : H} {n : Nd} (h : NdAt σ n) (hg : Gr σ σ') : NdAt σ' n := ⟨hg.get h.cells, fun e he => (h.ents e he).gr hg, h.none, h.dir⟩
theorem TAt.gr {σ σ' : H} {bt : Nat} {T : Tb} (h : TAt σ bt T) (hg : Gr σ σ') : TAt σ' bt T := ⟨hg.get h.cells, h.nodes.gr hg, fun i n hn => (h.each i n hn).gr hg⟩
theorem TAt.get {σ : H} {bt : Nat} {T : Tb} (h : TAt σ bt T) {ino : Int} {n : Nd} (hn : T.get ino = some n) : NdAt σ n := h.each ino n hn
theorem get_ptr (o : Option Nd) : (o.map Nd.ptr).getD (.pointer none) = .pointer (o.map fun n => ⟨n.blk, 0, none⟩) := by cases o <;> rfl

theorem s_get {σ : H} {bt : Nat} {T : Tb} (hT : TAt σ bt T) (ino : Int) {K : KH} (hK : K (.pointer ((T.get ino).map fun n => ⟨n.blk, 0, none⟩)) σ) : callW Tryz.prog 140 [.pointer (some ⟨bt, 0, none⟩), .int .i64 ino] K σ := by
 refine c140 _ _ ?_
 unfold g140
 refine br_f rfl ?_
 refine ptr_i ?_
 refine rd_M (rdC_of hT.cells (by rfl)) ?_
 refine rd_P (x := (T.get ino).map fun n => ⟨n.blk, 0, none⟩) ?_ hK
 rw [<- get_ptr]
 exact rdM_at (kk := kkI) hT.nodes _ false ino
def Tb.find (T : Tb) (dir : Int) (name : ByteArray) : Option Int := (T.get dir).bind fun n => lk name n.ents
theorem s_Find {σ : H} {bt : Nat} {T : Tb} (hT : TAt σ bt T) (dir : Int) (name : ByteArray) {K : KH} (hK : K (.tuple ⟨[.int .i64 ((T.find dir name).getD 0), .bool (T.find dir name).isSome]⟩) σ) :
 callW Tryz.prog 158 [.pointer (some ⟨bt, 0, none⟩), .int .i64 dir, .string name] K σ := by
 refine c158 _ _ _ ?_
 unfold g158
 refine call_i (s_get hT dir ?_)
 refine app_P ?_
 unfold Tb.find at hK
 cases hn : T.get dir with
 | none => rw [hn] at hK; exact br_t rfl hK
 | some n =>
  rw [hn] at hK
  have hN := hT.get hn
  refine br_f rfl (ptr_i ?_)
  refine rd_M (rdC_of hN.cells (by rfl)) ?_
  cases he : n.eb with
  | none =>
   have := hN.none he
   simp only [Option.bind_some, this] at hK
   exact rd_G rfl (app_IB hK)
  | some e =>
   refine rd_G (rdM_at (kk := kkS) (hN.ents e he) _ true name) ?_
   have hv : ((lk name n.ents).map valI).getD (.int .i64 0) = .int .i64 ((lk name n.ents).getD 0) := by cases lk name n.ents <;> rfl
   rw [hv]
   exact app_IB hK
def Tb.up (T : Tb) (dir : Int) : Int := ((T.get dir).map (·.up)).getD 0
theorem s_Up {σ : H} {bt : Nat} {T : Tb} (hT : TAt σ bt T) (dir : Int) {K : KH} (hK : K (.int .i64 (T.up dir)) σ) : callW Tryz.prog 157 [.pointer (some ⟨bt, 0, none⟩), .int .i64 dir] K σ := by
 refine c157 _ _ ?_
 unfold g157
 refine call_i (s_get hT dir (app_P ?_))
 unfold Tb.up at hK
 cases hn : T.get dir with
 | none => rw [hn] at hK; exact br_t rfl hK
 | some n =>
  rw [hn] at hK
  have hN := hT.get hn
  refine br_f rfl (ptr_i ?_)
  exact rd_I (rdC_of hN.cells (by rfl)) hK
theorem s_Root (bt : Addr) {σ : H} {K : KH} (hK : K (.int .i64 1) σ) : callW Tryz.prog 136 [.pointer (some bt)] K σ := by
 refine c136 _ ?_
 unfold g136
 exact br_f rfl hK

def Tb.dirE (T : Tb) (ino : Int) : Int := match T.get ino with
 | none => 5
 | some n => if n.kind == 2 then 0 else 8
theorem sz_int : sizeT Tryz.prog 3 = some 1 := by kernel_rfl
theorem sz_string : sizeT Tryz.prog 9 = some 1 := by kernel_rfl
theorem sz_bool : sizeT Tryz.prog 4 = some 1 := by kernel_rfl
theorem sz_Inode : sizeT Tryz.prog 65 = some 4 := by kernel_rfl
theorem sz_Quota : sizeT Tryz.prog 42 = some 2 := by kernel_rfl
theorem sz_MSI : sizeT Tryz.prog 32 = some 1 := by kernel_rfl
def Tb.node (T : Tb) (ino : Int) : List Value := match T.get ino with
 | none => [.int .i64 0, .int .i64 0, .string ⟨⟨[]⟩⟩, .int .i64 0]
 | some n => [.int .i64 n.kind, .int .i64 n.mode, .string n.data, .int .i64 n.links]
theorem s_Node {σ : H} {bt : Nat} {T : Tb} (hT : TAt σ bt T) (ino : Int) {K : KH} (hK : K (.tuple ⟨[.agg ⟨T.node ino⟩, .bool (T.get ino).isSome]⟩) σ) : callW Tryz.prog 116 [.pointer (some ⟨bt, 0, none⟩), .int .i64 ino] K σ := by
 refine pure_i _ hK (c116 _ _ ?_)
 unfold g116
 refine al_i ?_
 intro b σ1 hg hb hn
 refine call_i (s_get (hT.gr hg) ino (app_P ?_))
 unfold Tb.node
 cases hnn : T.get ino with
 | none =>
  refine br_t rfl ?_
  (repeat (first|refine ptr_i ?_|refine z2 ?_|(refine al_i ?_;intro _ _ _ _ _)|refine z4 ?_|refine z5 ?_|(refine z6 ?_;intro _ _)|refine app_P ?_|refine app_I ?_|refine app_S ?_|refine app_B ?_|refine app_M ?_|refine app_L ?_|refine app_U ?_|refine app_R ?_|(refine app_of rfl ?_;try dsimp only)))
  exact ⟨rfl, by repeat (first | exact Gr.refl _ | assumption | refine Gr.trans ?_ ‹_› | refine Gr.putF ?_ ‹_› (none_of ?_ ‹_›))⟩
 | some n =>
  have hN := ((hT.gr hg).get hnn).cells
  unfold Nd.cells at hN
  refine br_f rfl (ptr_i ?_)
  (repeat (first|refine ptr_i ?_|refine z2 ?_|(refine al_i ?_;intro _ _ _ _ _)|refine z4 ?_|refine z5 ?_|(refine z6 ?_;intro _ _)|refine app_P ?_|refine app_I ?_|refine app_S ?_|refine app_B ?_|refine app_M ?_|refine app_L ?_|refine app_U ?_|refine app_R ?_|(refine app_of rfl ?_;try dsimp only)))
  exact ⟨rfl, by repeat (first | exact Gr.refl _ | assumption | refine Gr.trans ?_ ‹_› | refine Gr.putF ?_ ‹_› (none_of ?_ ‹_›))⟩
theorem wrap_id {x : Int} (h1 : -9223372036854775808 <= x) (h2 : x <= 9223372036854775807) : IntKind.i64.wrap x = x := by
 rw [IntKind.wrap_i64]; omega
theorem und_int : Tryz.prog.underlying 3 = some (.int .i64) := by kernel_rfl
def IByte : Prop := ∀ (s : ByteArray) (σ : H) (K : KH), (∀ n : Int, (decide (n < 0) = !hasNul s) -> K (.int .i64 n) σ) -> callW Tryz.prog 40 [.string s, .int .u8 0] K σ
end Go.Proofs.YtpfkfphjigcdeaaGreatDoor

