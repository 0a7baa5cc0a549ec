/- A part of the proof: LookKnown holds. -/
import Derived.Test.YtgfiobhpipollaaGreatDoorNan
import Derived.Test.YtgfiobhpipollaaGreatDoorProg
import Derived.KernelRfl
import Derived.Test.YtgfiobhpipollaaGreatDoorChecked
import Derived.IntWalk
import Derived.Laws.StandIn
namespace Go.Wk
open Go Go.HL
structure AN where
 kind : Int
 mode : Int
 data : ByteArray
 links : Int
 up : Int
 ents : List (ByteArray × Int)
structure AT where
 qi : Int
 qb : Int
 ui : Int
 ub : Int
 last : Int
 nodes : List (Int × AN)
def AT.get (A : AT) (i : Int) : Option AN := lk i A.nodes
def AT.find (A : AT) (dir : Int) (name : ByteArray) : Option Int := (A.get dir).bind fun n => lk name n.ents
def AT.kind (A : AT) (i : Int) : Int := ((A.get i).map (·.kind)).getD 0
def AT.upOf (A : AT) (i : Int) : Int := ((A.get i).map (·.up)).getD 0
def sEq (x y : ByteArray) : Bool := x.data.toList == y.data.toList
theorem sEq_eq (x y : ByteArray) : sEq x y = strEq x y := by unfold sEq strEq; rw [ByteArray.toList_eq, ByteArray.toList_eq]
theorem sEq_iff {x y : ByteArray} : sEq x y = true ↔ x = y := by rw [sEq_eq]; exact strEq_iff
def badByte (s : ByteArray) : Bool := s.data.toList.any fun c => c == 47 || c == 0
def hasNul (s : ByteArray) : Bool := s.data.toList.any fun c => c == 0
def namedE (name : ByteArray) : Int := if name.size > 56 then 3 else if !sEq name ⟨⟨[]⟩⟩ && !sEq name ⟨⟨[46]⟩⟩ && !sEq name ⟨⟨[46, 46]⟩⟩ && !badByte name then 0 else 2
def linkOk (d : ByteArray) : Bool := !sEq d ⟨⟨[]⟩⟩ && (decide (d.size <= 255) && !hasNul d)
def kindOkE (kind : Int) (d : ByteArray) : Bool := (lk kind [((1 : Int), true), (2, sEq d ⟨⟨[]⟩⟩), (3, linkOk d)]).getD false
def likeE (kind mode : Int) (d : ByteArray) : Int := if kindOkE kind d && (decide (0 <= mode) && decide (mode <= 511)) then 0 else 2
def AT.set (A : AT) (i : Int) (n : AN) : AT := { A with nodes := up i n A.nodes }
def AT.ent (A : AT) (dir : Int) (f : List (ByteArray × Int) -> List (ByteArray × Int)) : AT := match A.get dir with
 | none => A
 | some n => A.set dir { n with ents := f n.ents }
end Go.Wk

namespace Go.Proofs.YtgfiobhpipollaaGreatDoor
open Go Go.HL
@[reducible] def kI : TK := .one (.sc (.int .i64))
@[reducible] def kC : TK := .one (.sc (.int .u8))
@[reducible] def kB : TK := .one (.sc .bool)
@[reducible] def kS : TK := .one (.sc .str)
@[reducible] def kP : TK := .one (.sc .ptr)
@[reducible] def kL : TK := .one (.sc .slc)
@[reducible] def kM : TK := .one (.sc .map)
@[reducible] def kR : TK := .one (.sc .raw)
@[reducible] def kU : TK := .tup []
def tau : Nat -> TK
 | 0 => kU
 | 2 => kI
 | 3 => kI
 | 4 => kB
 | 5 => kC
 | 6 => kC
 | 7 => (.one (.agg [(.int .i64), (.int .i64), .bool, (.int .u8)]))
 | 8 => (.one (.agg [(.int .i64), (.int .i64), .bool, (.int .u8)]))
 | 9 => kS
 | 10 => kS
 | 11 => kS
 | 12 => (.one (.sc (.int .u64)))
 | 13 => (.one (.agg [.str, (.int .u64)]))
 | 14 => (.one (.agg [.str, (.int .u64)]))
 | 15 => kP
 | 16 => kP
 | 17 => kP
 | 18 => (.one (.agg [.ptr]))
 | 19 => (.one (.agg [.ptr]))
 | 21 => (.one (.sc (.int .i32)))
 | 22 => kL
 | 23 => kL
 | 24 => (.one (.agg [.slc, .slc]))
 | 25 => (.one (.agg [.slc, .slc]))
 | 28 => (.one (.agg [.slc, .slc]))
 | 36 => kL
 | 37 => (.one (.agg [.str, .slc, .str, .str]))
 | 38 => (.one (.agg [.str, .slc, .str, .str]))
 | 39 => kM
 | 46 => kP
 | 50 => kL
 | 51 => (.one (.agg [(.int .i64), (.int .i64), (.int .i64), (.int .i64), (.int .i64), (.int .i64), (.int .i64), (.int .i64), (.int .i64), (.int .i64), (.int .i64), (.int .i64)]))
 | 53 => kM
 | 54 => (.one (.agg [.slc, .slc, .map]))
 | 55 => (.one (.agg [.slc, .slc, .map]))
 | 57 => (.one (.agg [.raw, .raw, .raw, .raw, .raw, .raw]))
 | 70 => kI
 | 71 => (.tup [.sc .str, .sc (.int .i64)])
 | 73 => kL
 | 74 => (.one (.agg [.str, (.int .i64), .bool, .str, .slc]))
 | 75 => (.one (.agg [.str, (.int .i64), .bool, .str, .slc]))
 | 77 => (.tup [.agg [.str, .slc, .str, .str], .sc .bool])
 | 82 => (.tup [.agg [.str, (.int .i64), .bool, .str, .slc], .sc (.int .i64)])
 | 84 => (.tup [.sc .str, .sc .str, .sc (.int .i64)])
 | 90 => kP
 | 92 => (.one (.agg [.str]))
 | 93 => (.one (.agg [.str]))
 | 99 => (.one (.agg []))
 | 100 => (.one (.agg []))
 | 101 => (.tup [.agg [], .sc .bool])
 | 102 => kP
 | 103 => kP
 | 105 => (.one (.agg [.ptr, (.int .i64)]))
 | 106 => (.one (.agg [.ptr, (.int .i64)]))
 | 111 => kL
 | 112 => (.one (.agg [.str, .slc, .slc, .str]))
 | 113 => (.one (.agg [.str, .slc, .slc, .str]))
 | 116 => (.tup [.agg [.str, .slc, .slc, .str], .sc .raw])
 | 119 => kP
 | 120 => (.one (.agg [.str, .bool]))
 | 121 => (.one (.agg [.str, .bool]))
 | 122 => (.tup [.agg [.str, (.int .i64), .bool, .str, .slc], .sc .bool])
 | 126 => (.one (.agg [(.int .i64), (.int .i64)]))
 | 127 => (.one (.agg [(.int .i64), (.int .i64)]))
 | 128 => (.tup [.agg [.str, .slc, .slc, .str], .agg [(.int .i64), (.int .i64)]])
 | 133 => (.one (.sc (.int .u64)))
 | 135 => (.tup [.sc (.int .i64), .sc (.int .i64)])
 | 138 => (.one (.sc (.int .u64)))
 | 139 => kM
 | 143 => kP
 | 144 => (.one (.agg [.ptr, .slc]))
 | 145 => (.one (.agg [.ptr, .slc]))
 | 148 => (.one (.agg [.slc, .bool]))
 | 149 => (.one (.agg [.slc, .bool]))
 | 154 => (.tup [.sc .raw, .sc .bool])
 | 155 => kM
 | 156 => kP
 | 157 => kM
 | 159 => (.tup [.sc (.int .i64), .sc .bool])
 | 161 => (.one (.agg [(.int .i64), (.int .i64)]))
 | 162 => (.tup [.agg [(.int .i64), (.int .i64)], .sc .bool])
 | 163 => kP
 | 164 => kP
 | 165 => (.one (.agg [.str, .slc, .slc, .str, (.int .i64), .str]))
 | 166 => (.one (.agg [.str, .slc, .slc, .str, (.int .i64), .str]))
 | 167 => kM
 | 168 => (.tup [.sc .str, .sc .str, .sc .bool])
 | 171 => (.tup [.sc .raw, .sc .bool])
 | 177 => kP
 | 178 => kP
 | 181 => kI
 | 182 => (.tup [.sc (.int .i64), .sc (.int .i64)])
 | 188 => (.one (.sc (.int .u32)))
 | 191 => (.one (.agg [(.int .u8), (.int .u8), (.int .u8), (.int .u8), (.int .u8), (.int .u8), (.int .u8), (.int .u8), (.int .u8), (.int .u8)]))
 | 192 => kL
 | 193 => (.one (.agg [(.int .u32), (.int .u32), (.int .u32), (.int .u32), (.int .u32), (.int .u32), (.int .u32), (.int .u32)]))
 | 194 => (.one (.agg [(.int .u32), (.int .u32), (.int .u32), (.int .u32), (.int .u32), (.int .u32), (.int .u32), (.int .u32)]))
 | 196 => (.tup [.agg [(.int .u32), (.int .u32), (.int .u32), (.int .u32), (.int .u32), (.int .u32), (.int .u32), (.int .u32)], .sc .raw])
 | 202 => kP
 | 203 => kP
 | 205 => (.one (.agg [.str, .str]))
 | 206 => (.one (.agg [.str, .str]))
 | 209 => (.tup [.sc (.int .i64), .sc .raw])
 | 215 => (.tup [.sc .str, .sc .bool])
 | 217 => (.one (.sc (.int .u64)))
 | 221 => kL
 | 224 => kL
 | 228 => kL
 | 242 => kP
 | 245 => (.tup [.sc (.int .u64), .sc (.int .u64)])
 | 252 => (.tup [.sc .raw, .sc .bool])
 | 255 => kP
 | 258 => (.tup [.sc (.int .i32), .sc (.int .i64)])
 | 264 => (.tup [.sc (.int .u32), .sc (.int .u32)])
 | 269 => (.one (.agg [(.int .u8), (.int .u8)]))
 | 270 => (.one (.agg [(.int .u8), (.int .u8)]))
 | 272 => (.one (.agg [.ptr, .ptr, .ptr, .str]))
 | 273 => (.one (.agg [.ptr, .ptr, .ptr, .str]))
 | 274 => (.one (.agg []))
 | 275 => (.one (.agg []))
 | 276 => (.one (.agg []))
 | 278 => kC
 | 279 => kC
 | 281 => (.one (.sc (.int .i32)))
 | 282 => (.one (.sc (.int .i32)))
 | 283 => (.one (.agg [(.int .u64), (.int .u64), (.int .u32), (.int .u8), (.int .u8), (.int .u8), (.int .u8), .raw, .ptr, (.int .i32), (.int .i32)]))
 | 284 => (.one (.agg [(.int .u64), (.int .u64), (.int .u32), (.int .u8), (.int .u8), (.int .u8), (.int .u8), .raw, .ptr, (.int .i32), (.int .i32)]))
 | _ => kR
theorem mixed : Tryz.prog.follows .mixedOrders = true := by kernel_rfl
end Go.Proofs.YtgfiobhpipollaaGreatDoor

set_option maxRecDepth 100000
namespace Go.Proofs.YtgfiobhpipollaaGreatDoor
open Go Go.HL
theorem call_k {fn : Func} {f : FuncId} (an : Ann) {args : List Value} {K : KH} {σ : H} {G : H -> Prop} (hf : Tryz.prog.funcs[f]? = some fn) (e : bodyF Tryz.prog tau fn an args K = G) (h : G σ) : callW Tryz.prog f args K σ := call_of_body mixed hf (by rw [e]; exact h)

def an7 : Ann := (.q (.q (.q (.seq (some [(1,.p),(2,.p)]) (.q (.cond .r .z)) (.q (.q (.q (.q (.q (.q (.q (.q (.q (.q (.q (.q (.q (.n (.q (.blk (.loop [(1,.p),(2,.p),(3,.l),(4,.p),(11,.l),(12,.p),(13,.i)] (.n (.q (.cond .z .z)) (.n (.blk (.n (.reg [0,1,2,3,5,6,7,4,8] [[],[],[0,1],[0,1,2],(rn 4),[],[5],[5,6],(rn 8)]) (.h))) .r))))) (.n (.reg [0,1,2,3,7,8,9,10,4,5,6,11,12,13,14] [[],[],[],[2],[2,3],[1,2,3,4],(rn 6),[],[7],[],[9],[7,8,9,10],(rn 12),[],(rn 14)]) (.n (.reg [0,1,2,3,4,6,7,8,9,5,10,11,12,13,14,15,16,17,18,19,20,21,22,23,24,25,26,27,28,29,30,31,32,33,34,35,36,37,38,39,40,41,42,43,44,45,46] [[],[0],[0,1],[0,1,2],(rn 4),(rn 5),(rn 4),[0,1,2,3,6],(rn 4),[0,1,2,3,8],[0,1,2,3,6,7,8,9],(rn 11),(rn 12),(rn 13),(rn 14),(rn 15),(rn 16),(rn 17),(rn 18),(rn 19),(rn 20),(rn 21),(rn 22),(rn 23),(rn 21),[0,1,2,3,4,5,6,7,8,9,10,11,12,13,14,15,16,17,18,19,20,24],[0,1,2,3,4,5,6,7,8,9,10,11,12,13,14,15,16,17,18,19,20,24,25],(rn 21),[0,1,2,3,4,5,6,7,8,9,10,11,12,13,14,15,16,17,18,19,20,27],[0,1,2,3,4,5,6,7,8,9,10,11,12,13,14,15,16,17,18,19,20,27,28],(rn 30),(rn 31),(rn 32),(rn 33),(rn 34),(rn 35),(rn 36),(rn 34),[0,1,2,3,4,5,6,7,8,9,10,11,12,13,14,15,16,17,18,19,20,21,22,23,24,25,26,27,28,29,30,31,32,33,37],[0,1,2,3,4,5,6,7,8,9,10,11,12,13,14,15,16,17,18,19,20,21,22,23,24,25,26,27,28,29,30,31,32,33,37,38],(rn 34),[0,1,2,3,4,5,6,7,8,9,10,11,12,13,14,15,16,17,18,19,20,21,22,23,24,25,26,27,28,29,30,31,32,33,40],[0,1,2,3,4,5,6,7,8,9,10,11,12,13,14,15,16,17,18,19,20,21,22,23,24,25,26,27,28,29,30,31,32,33,40,41],(rn 43),(rn 44),(rn 45),(rn 46)]) .z))))))))))))))))))))
def g7  (K : KH) : H -> Prop :=
 callT Tryz.prog 20 [.string ⟨⟨[112]⟩⟩, .string ⟨⟨[49]⟩⟩] (.one (.agg [.str, .slc, .str, .str])) (fun (x1 : ByteArray) (x2 : Sl) (x3 : ByteArray) (x4 : ByteArray) => alW (.cells ⟨[.string ⟨⟨[]⟩⟩, .slice none 0 0, .string ⟨⟨[]⟩⟩, .string ⟨⟨[]⟩⟩]⟩ 38 (0, 0)) (fun b5 =>
 stW Tryz.prog 38 (.pointer (some ⟨b5, 0, none⟩)) (.agg ⟨[.string x1, .slice x2.base x2.len x2.cap, .string x3, .string x4]⟩) (callT Tryz.prog 20 [.string ⟨⟨[113]⟩⟩, .string ⟨⟨[50]⟩⟩] (.one (.agg [.str, .slc, .str, .str])) (fun (x6 : ByteArray) (x7 : Sl) (x8 : ByteArray) (x9 : ByteArray) => alW (.cells ⟨[.string ⟨⟨[]⟩⟩, .slice none 0 0, .string ⟨⟨[]⟩⟩, .string ⟨⟨[]⟩⟩]⟩ 38 (0, 0)) (fun b10 =>
 stW Tryz.prog 38 (.pointer (some ⟨b10, 0, none⟩)) (.agg ⟨[.string x6, .slice x7.base x7.len x7.cap, .string x8, .string x9]⟩) (letJ (T := Option Addr -> Option Addr -> H -> Prop) (fun v12 v13 => ptrW v12 (fun b14 o15 => rdT (rdA 4 b14 o15) (.one (.agg [.str, .slc, .str, .str])) (fun (x16 : ByteArray) (x17 : Sl) (x18 : ByteArray) (x19 : ByteArray) => ptrW v13 (fun b20 o21 =>
 rdT (rdA 4 b20 o21) (.one (.agg [.str, .slc, .str, .str])) (fun (x22 : ByteArray) (x23 : Sl) (x24 : ByteArray) (x25 : ByteArray) => alW (.cells ⟨[.string x16, .slice x17.base x17.len x17.cap, .string x18, .string x19, .string x22, .slice x23.base x23.len x23.cap, .string x24, .string x25]⟩ 38 (0, 0)) (fun b26 => ptrW v12 (fun b27 o28 => rdT (rdA 4 b27 o28) (.one (.agg [.str, .slc, .str, .str])) (fun (x29 : ByteArray) (x30 : Sl) (x31 : ByteArray) (x32 : ByteArray) => ptrW v13 (fun b33 o34 =>
 rdT (rdC b33 o34) kS (fun (x35 : ByteArray) => alW (.cells ⟨[.string x35]⟩ 9 (0, 0)) (fun b36 => callT Tryz.prog 21 [.agg ⟨[.string x29, .slice x30.base x30.len x30.cap, .string x31, .string x32]⟩, .slice (some ⟨b36, 0, none⟩) 1 1] (.one (.agg [.str, .slc, .str, .str])) (fun (x37 : ByteArray) (x38 : Sl) (x39 : ByteArray) (x40 : ByteArray) => alW (.cells ⟨[.string ⟨⟨[]⟩⟩, .slice none 0 0, .string ⟨⟨[]⟩⟩, .string ⟨⟨[]⟩⟩]⟩ 38 (0, 0)) (fun b41 =>
 stW Tryz.prog 38 (.pointer (some ⟨b41, 0, none⟩)) (.agg ⟨[.string x37, .slice x38.base x38.len x38.cap, .string x39, .string x40]⟩) (ptrW v12 (fun b42 o43 => rdT (rdA 4 b42 o43) (.one (.agg [.str, .slc, .str, .str])) (fun (x44 : ByteArray) (x45 : Sl) (x46 : ByteArray) (x47 : ByteArray) => ptrW v12 (fun b48 o49 => rdT (rdC b48 o49) kS (fun (x50 : ByteArray) => alW (.cells ⟨[.string x50]⟩ 9 (0, 0)) (fun b51 =>
 callT Tryz.prog 21 [.agg ⟨[.string x44, .slice x45.base x45.len x45.cap, .string x46, .string x47]⟩, .slice (some ⟨b51, 0, none⟩) 1 1] (.one (.agg [.str, .slc, .str, .str])) (fun (x52 : ByteArray) (x53 : Sl) (x54 : ByteArray) (x55 : ByteArray) => alW (.cells ⟨[.string ⟨⟨[]⟩⟩, .slice none 0 0, .string ⟨⟨[]⟩⟩, .string ⟨⟨[]⟩⟩]⟩ 38 (0, 0)) (fun b56 =>
 stW Tryz.prog 38 (.pointer (some ⟨b56, 0, none⟩)) (.agg ⟨[.string x52, .slice x53.base x53.len x53.cap, .string x54, .string x55]⟩) (ptrW v12 (fun b57 o58 => rdT (rdA 4 b57 o58) (.one (.agg [.str, .slc, .str, .str])) (fun (x59 : ByteArray) (x60 : Sl) (x61 : ByteArray) (x62 : ByteArray) => alW (.cells ⟨[.string ⟨⟨[]⟩⟩, .slice none 0 0, .string ⟨⟨[]⟩⟩, .string ⟨⟨[]⟩⟩]⟩ 38 (0, 0)) (fun b63 =>
 stW Tryz.prog 38 (.pointer (some ⟨b63, 0, none⟩)) (.agg ⟨[.string x59, .slice x60.base x60.len x60.cap, .string x61, .string x62]⟩) (stW Tryz.prog 9 (.pointer (some ⟨b63, 3, none⟩)) (.string ⟨⟨[63]⟩⟩) (ptrW v12 (fun b64 o65 => rdT (rdA 4 b64 o65) (.one (.agg [.str, .slc, .str, .str])) (fun (x66 : ByteArray) (x67 : Sl) (x68 : ByteArray) (x69 : ByteArray) =>
 alW (.cells ⟨[.string ⟨⟨[]⟩⟩, .slice none 0 0, .string ⟨⟨[]⟩⟩, .string ⟨⟨[]⟩⟩]⟩ 38 (0, 0)) (fun b70 => stW Tryz.prog 38 (.pointer (some ⟨b70, 0, none⟩)) (.agg ⟨[.string x66, .slice x67.base x67.len x67.cap, .string x68, .string x69]⟩) (stW Tryz.prog 9 (.pointer (some ⟨b70, 0, none⟩)) (.string ⟨⟨[120]⟩⟩) (ptrW v12 (fun b71 o72 =>
 rdT (rdA 4 b71 o72) (.one (.agg [.str, .slc, .str, .str])) (fun (x73 : ByteArray) (x74 : Sl) (x75 : ByteArray) (x76 : ByteArray) => alW (.cells ⟨[.string ⟨⟨[]⟩⟩, .slice none 0 0, .string ⟨⟨[]⟩⟩, .string ⟨⟨[]⟩⟩]⟩ 38 (0, 0)) (fun b77 =>
 stW Tryz.prog 38 (.pointer (some ⟨b77, 0, none⟩)) (.agg ⟨[.string x73, .slice x74.base x74.len x74.cap, .string x75, .string x76]⟩) (stW Tryz.prog 9 (.pointer (some ⟨b77, 2, none⟩)) (.string ⟨⟨[63]⟩⟩) (ptrW v12 (fun b78 o79 => rdT (rdA 4 b78 o79) (.one (.agg [.str, .slc, .str, .str])) (fun (x80 : ByteArray) (x81 : Sl) (x82 : ByteArray) (x83 : ByteArray) => ptrW v13 (fun b84 o85 => rdT (rdC b84 o85) kS (fun (x86 : ByteArray) => ptrW v13 (fun b87 o88 =>
 rdT (rdC b87 o88) kS (fun (x89 : ByteArray) => alW (.cells ⟨[.string x86, .string x89]⟩ 9 (0, 0)) (fun b90 => callT Tryz.prog 21 [.agg ⟨[.string x80, .slice x81.base x81.len x81.cap, .string x82, .string x83]⟩, .slice (some ⟨b90, 0, none⟩) 2 2] (.one (.agg [.str, .slc, .str, .str])) (fun (x91 : ByteArray) (x92 : Sl) (x93 : ByteArray) (x94 : ByteArray) =>
 alW (.cells ⟨[.string ⟨⟨[]⟩⟩, .slice none 0 0, .string ⟨⟨[]⟩⟩, .string ⟨⟨[]⟩⟩]⟩ 38 (0, 0)) (fun b95 => stW Tryz.prog 38 (.pointer (some ⟨b95, 0, none⟩)) (.agg ⟨[.string x91, .slice x92.base x92.len x92.cap, .string x93, .string x94]⟩) (ptrW v12 (fun b96 o97 => rdT (rdA 4 b96 o97) (.one (.agg [.str, .slc, .str, .str])) (fun (x98 : ByteArray) (x99 : Sl) (x100 : ByteArray) (x101 : ByteArray) =>
 alW (.cells ⟨[.string ⟨⟨[120]⟩⟩]⟩ 9 (0, 0)) (fun b102 => callT Tryz.prog 21 [.agg ⟨[.string x98, .slice x99.base x99.len x99.cap, .string x100, .string x101]⟩, .slice (some ⟨b102, 0, none⟩) 1 1] (.one (.agg [.str, .slc, .str, .str])) (fun (x103 : ByteArray) (x104 : Sl) (x105 : ByteArray) (x106 : ByteArray) => alW (.cells ⟨[.string ⟨⟨[]⟩⟩, .slice none 0 0, .string ⟨⟨[]⟩⟩, .string ⟨⟨[]⟩⟩]⟩ 38 (0, 0)) (fun b107 =>
 stW Tryz.prog 38 (.pointer (some ⟨b107, 0, none⟩)) (.agg ⟨[.string x103, .slice x104.base x104.len x104.cap, .string x105, .string x106]⟩) (ptrW v13 (fun b108 o109 => rdT (rdA 4 b108 o109) (.one (.agg [.str, .slc, .str, .str])) (fun (x110 : ByteArray) (x111 : Sl) (x112 : ByteArray) (x113 : ByteArray) => ptrW v12 (fun b114 o115 => rdT (rdA 4 b114 o115) (.one (.agg [.str, .slc, .str, .str])) (fun (x116 : ByteArray) (x117 : Sl) (x118 : ByteArray) (x119 : ByteArray) =>
 alW (.cells ⟨[.string x110, .slice x111.base x111.len x111.cap, .string x112, .string x113, .string x116, .slice x117.base x117.len x117.cap, .string x118, .string x119]⟩ 38 (0, 0)) (fun b120 => rdT (rdA 4 b70 0) (.one (.agg [.str, .slc, .str, .str])) (fun (x121 : ByteArray) (x122 : Sl) (x123 : ByteArray) (x124 : ByteArray) => alW (.cells ⟨[.string x121, .slice x122.base x122.len x122.cap, .string x123, .string x124]⟩ 38 (0, 0)) (fun b125 =>
 rdT (rdA 4 b95 0) (.one (.agg [.str, .slc, .str, .str])) (fun (x126 : ByteArray) (x127 : Sl) (x128 : ByteArray) (x129 : ByteArray) => ptrW v13 (fun b130 o131 => rdT (rdA 4 b130 o131) (.one (.agg [.str, .slc, .str, .str])) (fun (x132 : ByteArray) (x133 : Sl) (x134 : ByteArray) (x135 : ByteArray) => alW (.cells ⟨[.string x126, .slice x127.base x127.len x127.cap, .string x128, .string x129, .string x132, .slice x133.base x133.len x133.cap, .string x134, .string x135]⟩ 38 (0, 0)) (fun b136 =>
 rdT (rdA 4 b107 0) (.one (.agg [.str, .slc, .str, .str])) (fun (x137 : ByteArray) (x138 : Sl) (x139 : ByteArray) (x140 : ByteArray) => ptrW v13 (fun b141 o142 => rdT (rdA 4 b141 o142) (.one (.agg [.str, .slc, .str, .str])) (fun (x143 : ByteArray) (x144 : Sl) (x145 : ByteArray) (x146 : ByteArray) => alW (.cells ⟨[.string x137, .slice x138.base x138.len x138.cap, .string x139, .string x140, .string x143, .slice x144.base x144.len x144.cap, .string x145, .string x146]⟩ 38 (0, 0)) (fun b147 =>
 rdT (rdA 4 b41 0) (.one (.agg [.str, .slc, .str, .str])) (fun (x148 : ByteArray) (x149 : Sl) (x150 : ByteArray) (x151 : ByteArray) => alW (.cells ⟨[.string x148, .slice x149.base x149.len x149.cap, .string x150, .string x151]⟩ 38 (0, 0)) (fun b152 => ptrW v13 (fun b153 o154 => rdT (rdC b153 o154) kS (fun (x155 : ByteArray) => ptrW v12 (fun b156 o157 => rdT (rdC b156 o157) kS (fun (x158 : ByteArray) => alW (.cells ⟨[.string x155, .string x158]⟩ 9 (0, 0)) (fun b159 =>
 ptrW v13 (fun b160 o161 => rdT (rdC b160 o161) kS (fun (x162 : ByteArray) => ptrW v13 (fun b163 o164 => rdT (rdC b163 o164) kS (fun (x165 : ByteArray) => alW (.cells ⟨[.string x162, .string x165]⟩ 9 (0, 0)) (fun b166 => rdT (rdA 4 b77 0) (.one (.agg [.str, .slc, .str, .str])) (fun (x167 : ByteArray) (x168 : Sl) (x169 : ByteArray) (x170 : ByteArray) => alW (.cells ⟨[.string x167, .slice x168.base x168.len x168.cap, .string x169, .string x170]⟩ 38 (0, 0)) (fun b171 =>
 rdT (rdA 4 b41 0) (.one (.agg [.str, .slc, .str, .str])) (fun (x172 : ByteArray) (x173 : Sl) (x174 : ByteArray) (x175 : ByteArray) => ptrW v13 (fun b176 o177 => rdT (rdA 4 b176 o177) (.one (.agg [.str, .slc, .str, .str])) (fun (x178 : ByteArray) (x179 : Sl) (x180 : ByteArray) (x181 : ByteArray) => alW (.cells ⟨[.string x172, .slice x173.base x173.len x173.cap, .string x174, .string x175, .string x178, .slice x179.base x179.len x179.cap, .string x180, .string x181]⟩ 38 (0, 0)) (fun b182 =>
 rdT (rdA 4 b56 0) (.one (.agg [.str, .slc, .str, .str])) (fun (x183 : ByteArray) (x184 : Sl) (x185 : ByteArray) (x186 : ByteArray) => alW (.cells ⟨[.string x183, .slice x184.base x184.len x184.cap, .string x185, .string x186]⟩ 38 (0, 0)) (fun b187 => rdT (rdA 4 b63 0) (.one (.agg [.str, .slc, .str, .str])) (fun (x188 : ByteArray) (x189 : Sl) (x190 : ByteArray) (x191 : ByteArray) =>
 alW (.cells ⟨[.string x188, .slice x189.base x189.len x189.cap, .string x190, .string x191]⟩ 38 (0, 0)) (fun b192 =>
 alW (.cells ⟨[.slice (some ⟨b26, 0, none⟩) 2 2, .slice none 0 0, .slice (some ⟨b120, 0, none⟩) 2 2, .slice none 0 0, .slice (some ⟨b125, 0, none⟩) 1 1, .slice none 0 0, .slice (some ⟨b136, 0, none⟩) 2 2, .slice none 0 0, .slice (some ⟨b147, 0, none⟩) 2 2, .slice none 0 0, .slice (some ⟨b152, 0, none⟩) 1 1, .slice none 0 0, .slice (some ⟨b26, 0, none⟩) 2 2, .slice (some ⟨b159, 0, none⟩) 2 2, .slice (some ⟨b26, 0, none⟩) 2 2, .slice (some ⟨b166, 0, none⟩) 2 2, .slice (some ⟨b171, 0, none⟩) 1 1, .slice none 0 0, .slice (some ⟨b182, 0, none⟩) 2 2, .slice none 0 0, .slice (some ⟨b187, 0, none⟩) 1 1, .slice none 0 0, .slice (some ⟨b192, 0, none⟩) 1 1, .slice none 0 0]⟩ 28 (0, 0)) (fun b193 =>
 alW (.cells ⟨[.int .i64 0, .int .i64 0, .int .i64 0, .int .i64 0, .int .i64 0, .int .i64 0, .int .i64 0, .int .i64 0, .int .i64 0, .int .i64 0, .int .i64 0, .int .i64 0]⟩ 51 (0, 0)) (fun b194 =>
 stW Tryz.prog 51 (.pointer (some ⟨b194, 0, none⟩)) (.agg ⟨[.int .i64 0, .int .i64 1, .int .i64 1, .int .i64 1, .int .i64 1, .int .i64 2, .int .i64 3, .int .i64 3, .int .i64 4, .int .i64 5, .int .i64 5, .int .i64 6]⟩) (loopW [.sc .ptr, .sc .ptr, .sc .slc, .sc .ptr, .sc .slc, .sc .ptr, .sc (.int .i64)] (fun (R195 : Option Addr -> Option Addr -> Sl -> Option Addr -> Sl -> Option Addr -> Int -> H -> Prop) => (fun (v196 : Option Addr) (v197 : Option Addr) (v198 : Sl) (v199 : Option Addr) (v200 : Sl) (v201 : Option Addr) (v202 : Int) =>
 brW (decide ((v202 : Int) < 12)) (ptrW v200.base (fun b203 o204 => ifW (0 <= v202 /\ v202 < ((v200.len : Nat) : Int)) (rdT (rdA 2 b203 (o204 + v202.toNat * 2)) (.one (.agg [.slc, .slc])) (fun x205 x206 => ptrW v201 (fun b207 o208 => ifW (0 <= v202 /\ v202 < ((12 : Nat) : Int)) (rdT (rdC b207 (o208 + v202.toNat * 1)) kI (fun (x209 : Int) => callT Tryz.prog 9 [.agg ⟨[.slice x205.base x205.len x205.cap, .slice x206.base x206.len x206.cap]⟩] kI (fun (x210 : Int) =>
 andW (fun σ => (rdC b207 (o208 + v202.toNat * 1)) σ = some (.int .i64 x209)) (brW ((x210 : Int) != x209) (K (.bool false)) (R195 v196 v197 v198 v199 v200 v201 (IntKind.i64.wrap (v202 + 1)))))))))))) (ptrW v199 (fun b211 o212 => rdT (rdA 4 b211 o212) (.one (.agg [.str, .slc, .str, .str])) (fun (x213 : ByteArray) (x214 : Sl) (x215 : ByteArray) (x216 : ByteArray) => ptrW v197 (fun b217 o218 =>
 rdT (rdA 4 b217 o218) (.one (.agg [.str, .slc, .str, .str])) (fun (x219 : ByteArray) (x220 : Sl) (x221 : ByteArray) (x222 : ByteArray) => ptrW v196 (fun b223 o224 => rdT (rdC b223 o224) kS (fun (x225 : ByteArray) => ptrW v197 (fun b226 o227 => rdT (rdC b226 o227) kS (fun (x228 : ByteArray) => ptrW v197 (fun b229 o230 => rdT (rdC b229 o230) kS (fun (x231 : ByteArray) => alW (.cells ⟨[.string ⟨⟨[108, 111, 115, 116]⟩⟩, .string x225]⟩ 9 (0, 0)) (fun b232 =>
 callT Tryz.prog 21 [.agg ⟨[.string x219, .slice x220.base x220.len x220.cap, .string x221, .string x222]⟩, .slice (some ⟨b232, 0, none⟩) 2 2] (.one (.agg [.str, .slc, .str, .str])) (fun (x233 : ByteArray) (x234 : Sl) (x235 : ByteArray) (x236 : ByteArray) => andW (fun σ => (rdC b229 o230) σ = some (.string x231)) (andW (fun σ => (rdC b226 o227) σ = some (.string x228))
 (andW (fun σ => (rdA 4 b211 o212) σ = some (.agg ⟨[.string x213, .slice x214.base x214.len x214.cap, .string x215, .string x216]⟩)) (alW (.cells ⟨[.string x213, .slice x214.base x214.len x214.cap, .string x215, .string x216, .string x233, .slice x234.base x234.len x234.cap, .string x235, .string x236]⟩ 38 (0, 0)) (fun b237 => alW (.cells ⟨[.string x228, .string ⟨⟨[110, 111, 110, 101]⟩⟩, .string x231]⟩ 9 (0, 0)) (fun b238 =>
 alW (.cells ⟨[.slice none 0 0, .slice none 0 0]⟩ 28 (0, 0)) (fun b239 => stW Tryz.prog 28 (.pointer (some ⟨b239, 0, none⟩)) (.agg ⟨[.slice (some ⟨b237, 0, none⟩) 2 2, .slice (some ⟨b238, 0, none⟩) 3 3]⟩) (callT Tryz.prog 15 [] kB (fun x240 => brW x240 (rdT (rdA 2 b239 0) (.one (.agg [.slc, .slc])) (fun x241 x242 => ptrW v196 (fun b243 o244 => rdT (rdC b243 o244) kS (fun (x245 : ByteArray) => ptrW v197 (fun b246 o247 => rdT (rdC b246 o247) kS (fun (x248 : ByteArray) =>
 callT Tryz.prog 13 [.agg ⟨[.slice x241.base x241.len x241.cap, .slice x242.base x242.len x242.cap]⟩] kL (fun x249 => andW (fun σ => (rdC b246 o247) σ = some (.string x248)) (andW (fun σ => (rdC b243 o244) σ = some (.string x245)) (alW (.cells ⟨[.string x245, .string x248]⟩ 9 (0, 0)) (fun b250 => callT Tryz.prog 12 [.slice x249.base x249.len x249.cap, .slice (some ⟨b250, 0, none⟩) 2 2] kB (fun x251 => brW x251
 (callT Tryz.prog 13 [.agg ⟨[.slice v198.base v198.len v198.cap, .slice none 0 0]⟩] kL (fun x252 => brW (((x252.len : Nat) : Int) == 0) (ptrW v200.base (fun b253 o254 => ifW (0 <= (0 : Int) /\ (0 : Int) < ((v200.len : Nat) : Int)) (rdT (rdA 2 b253 (o254 + (0 : Int).toNat * 2)) (.one (.agg [.slc, .slc])) (fun x255 x256 => ptrW v200.base (fun b257 o258 => ifW (0 <= (0 : Int) /\ (0 : Int) < ((v200.len : Nat) : Int))
 (rdT (rdA 2 b257 (o258 + (0 : Int).toNat * 2)) (.one (.agg [.slc, .slc])) (fun x259 x260 => ptrW v200.base (fun b261 o262 => ifW (0 <= (0 : Int) /\ (0 : Int) < ((v200.len : Nat) : Int)) (rdT (rdA 2 b261 (o262 + (0 : Int).toNat * 2)) (.one (.agg [.slc, .slc])) (fun x263 x264 =>
 callT Tryz.prog 18 [.agg ⟨[.slice x255.base x255.len x255.cap, .slice x256.base x256.len x256.cap]⟩, .agg ⟨[.slice x259.base x259.len x259.cap, .slice x260.base x260.len x260.cap]⟩, .agg ⟨[.slice x263.base x263.len x263.cap, .slice x264.base x264.len x264.cap]⟩] kI (fun (x265 : Int) => brW ((x265 : Int) == 3) (ptrW v200.base (fun b266 o267 => ifW (0 <= (0 : Int) /\ (0 : Int) < ((v200.len : Nat) : Int))
 (rdT (rdA 2 b266 (o267 + (0 : Int).toNat * 2)) (.one (.agg [.slc, .slc])) (fun x268 x269 => ptrW v200.base (fun b270 o271 => ifW (0 <= (1 : Int) /\ (1 : Int) < ((v200.len : Nat) : Int)) (rdT (rdA 2 b270 (o271 + (1 : Int).toNat * 2)) (.one (.agg [.slc, .slc])) (fun x272 x273 => ptrW v200.base (fun b274 o275 => ifW (0 <= (2 : Int) /\ (2 : Int) < ((v200.len : Nat) : Int)) (rdT (rdA 2 b274 (o275 + (2 : Int).toNat * 2)) (.one (.agg [.slc, .slc])) (fun x276 x277 =>
 callT Tryz.prog 18 [.agg ⟨[.slice x268.base x268.len x268.cap, .slice x269.base x269.len x269.cap]⟩, .agg ⟨[.slice x272.base x272.len x272.cap, .slice x273.base x273.len x273.cap]⟩, .agg ⟨[.slice x276.base x276.len x276.cap, .slice x277.base x277.len x277.cap]⟩] kI (fun (x278 : Int) => K (.bool ((x278 : Int) == 0))))))))))))) (K (.bool false))))))))))))) (K (.bool false)))) (K (.bool false)))))))))))))
 (K (.bool false))))))))))))))))))))))))) (fun (R279 : Option Addr -> Option Addr -> Sl -> Option Addr -> Sl -> Option Addr -> Int -> H -> Prop) => R279 v12 v13 ⟨(some ⟨b26, 0, none⟩), 2, 2⟩ (some ⟨b41, 0, none⟩) ⟨(some ⟨b193, 0, none⟩), 12, 12⟩ (some ⟨b194, 0, none⟩) 0)))))))))))))))))))))))))))))))))))))))))))))))))))))))))))))))))))))))))))))))))))))))))))))) (fun j11 => rdT (rdC b10 0) kS (fun (x280 : ByteArray) => rdT (rdC b5 0) kS (fun (x281 : ByteArray) => brW (strLt x280 x281)
 (rdT (rdA 4 b10 0) (.one (.agg [.str, .slc, .str, .str])) (fun (x282 : ByteArray) (x283 : Sl) (x284 : ByteArray) (x285 : ByteArray) => rdT (rdA 4 b5 0) (.one (.agg [.str, .slc, .str, .str])) (fun (x286 : ByteArray) (x287 : Sl) (x288 : ByteArray) (x289 : ByteArray) =>
 stW Tryz.prog 38 (.pointer (some ⟨b5, 0, none⟩)) (.agg ⟨[.string x282, .slice x283.base x283.len x283.cap, .string x284, .string x285]⟩) (stW Tryz.prog 38 (.pointer (some ⟨b10, 0, none⟩)) (.agg ⟨[.string x286, .slice x287.base x287.len x287.cap, .string x288, .string x289]⟩) (j11 (some ⟨b5, 0, none⟩) (some ⟨b10, 0, none⟩)))))) (j11 (some ⟨b5, 0, none⟩) (some ⟨b10, 0, none⟩)))))))))))
theorem c7  {K : KH} {σ : H} : g7  K σ -> callW Tryz.prog 7 [] K σ := call_k an7 Tryz.func7 (by kernel_rfl)


def an9 : Ann := (.q (.q (.q (.n (.q (.blk (.loop [(22,.agg [.raw,.raw,.raw,.raw,.raw,.raw]),(23,.i)] (.q (.n (.cond .z .z) (.n (.blk (.q (.q (.h)))) .r)))))) (.q .z)))))
def g9 (v1 : Sl) (v2 : Sl) (K : KH) : H -> Prop :=
 alW (.cells ⟨[.slice v1.base v1.len v1.cap, .slice v2.base v2.len v2.cap]⟩ 28 (0, 0)) (fun b3 => rdT (rdA 2 b3 0) (.one (.agg [.slc, .slc])) (fun x4 x5 => callT Tryz.prog 23 [.agg ⟨[.slice x4.base x4.len x4.cap, .slice x5.base x5.len x5.cap]⟩] (.one (.agg [.slc, .slc, .map])) (fun (x6 : Sl) (x7 : Sl) (x8 : Option Nat) => alW (.cells ⟨[.slice none 0 0, .slice none 0 0, .map none]⟩ 55 (0, 0)) (fun b9 =>
 stW Tryz.prog 55 (.pointer (some ⟨b9, 0, none⟩)) (.agg ⟨[.slice x6.base x6.len x6.cap, .slice x7.base x7.len x7.cap, .map x8]⟩) (rdT (rdA 3 b9 0) (.one (.agg [.slc, .slc, .map])) (fun (x10 : Sl) (x11 : Sl) (x12 : Option Nat) => rdT (rdA 3 b9 0) (.one (.agg [.slc, .slc, .map])) (fun (x13 : Sl) (x14 : Sl) (x15 : Option Nat) => rdT (rdA 3 b9 0) (.one (.agg [.slc, .slc, .map])) (fun (x16 : Sl) (x17 : Sl) (x18 : Option Nat) =>
 rdT (rdA 3 b9 0) (.one (.agg [.slc, .slc, .map])) (fun (x19 : Sl) (x20 : Sl) (x21 : Option Nat) => rdT (rdA 3 b9 0) (.one (.agg [.slc, .slc, .map])) (fun (x22 : Sl) (x23 : Sl) (x24 : Option Nat) => rdT (rdA 3 b9 0) (.one (.agg [.slc, .slc, .map])) (fun (x25 : Sl) (x26 : Sl) (x27 : Option Nat) => alW (.cells ⟨[.nilFunc, .nilFunc, .nilFunc, .nilFunc, .nilFunc, .nilFunc]⟩ 57 (0, 0)) (fun b28 =>
 stW Tryz.prog 57 (.pointer (some ⟨b28, 0, none⟩)) (.agg ⟨[.func (.func 24) ⟨[.agg ⟨[.slice x10.base x10.len x10.cap, .slice x11.base x11.len x11.cap, .map x12]⟩]⟩ ⟨[]⟩, .func (.func 25) ⟨[.agg ⟨[.slice x13.base x13.len x13.cap, .slice x14.base x14.len x14.cap, .map x15]⟩]⟩ ⟨[]⟩, .func (.func 26) ⟨[.agg ⟨[.slice x16.base x16.len x16.cap, .slice x17.base x17.len x17.cap, .map x18]⟩]⟩ ⟨[]⟩, .func (.func 27) ⟨[.agg ⟨[.slice x19.base x19.len x19.cap, .slice x20.base x20.len x20.cap, .map x21]⟩]⟩ ⟨[]⟩, .func (.func 28) ⟨[.agg ⟨[.slice x22.base x22.len x22.cap, .slice x23.base x23.len x23.cap, .map x24]⟩]⟩ ⟨[]⟩, .func (.func 29) ⟨[.agg ⟨[.slice x25.base x25.len x25.cap, .slice x26.base x26.len x26.cap, .map x27]⟩]⟩ ⟨[]⟩]⟩) (rdT (rdA 6 b28 0) (.one (.agg [.raw, .raw, .raw, .raw, .raw, .raw])) (fun x29 x30 x31 x32 x33 x34 =>
 loopW [.agg [.raw, .raw, .raw, .raw, .raw, .raw], .sc (.int .i64)] (fun (R35 : Value -> Value -> Value -> Value -> Value -> Value -> Int -> H -> Prop) => (fun (x36 : Value) (x37 : Value) (x38 : Value) (x39 : Value) (x40 : Value) (x41 : Value) (x42 : Int) => brW (decide ((x42 : Int) < 6)) (rdT (rdX 6 [x36, x37, x38, x39, x40, x41] x42) kR (fun x43 => cvalT Tryz.prog x43 [] kB (fun x44 => brW (!x44) (K (.int .i64 (IntKind.i64.wrap (x42 + 1))))
 (R35 x36 x37 x38 x39 x40 x41 (IntKind.i64.wrap (x42 + 1)))))) (K (.int .i64 0)))) (fun (R45 : Value -> Value -> Value -> Value -> Value -> Value -> Int -> H -> Prop) => R45 x29 x30 x31 x32 x33 x34 0)))))))))))))))
theorem c9 (v1 : Sl) (v2 : Sl) {K : KH} {σ : H} : g9 v1 v2 K σ -> callW Tryz.prog 9 [.agg ⟨[.slice v1.base v1.len v1.cap, .slice v2.base v2.len v2.cap]⟩] K σ := call_k an9 Tryz.func9 (by kernel_rfl)


def an12 : Ann := (.q (.n (.q (.h)) (.n (.q (.blk (.loop [(0,.l),(1,.l),(5,.i)] (.n (.q (.cond .z .z)) (.n (.blk (.n (.reg (rn 9) [[],[],[0,1],[0,1,2],[],[],[4,5],[4,5,6],(rn 8)]) (.h))) .r))))) (.q .z))))
def g12 (v1 : Sl) (v2 : Sl) (K : KH) : H -> Prop :=
 brW (((v1.len : Nat) : Int) != ((v2.len : Nat) : Int)) (K (.bool false)) (loopW [.sc .slc, .sc .slc, .sc (.int .i64)] (fun (R3 : Sl -> Sl -> Int -> H -> Prop) => (fun (v4 : Sl) (v5 : Sl) (v6 : Int) => brW (decide ((v6 : Int) < ((v4.len : Nat) : Int))) (ptrW v4.base (fun b7 o8 => ifW (0 <= v6 /\ v6 < ((v4.len : Nat) : Int)) (rdT (rdC b7 (o8 + v6.toNat * 1)) kS (fun (x9 : ByteArray) => ptrW v5.base (fun b10 o11 => ifW (0 <= v6 /\ v6 < ((v5.len : Nat) : Int))
 (rdT (rdC b10 (o11 + v6.toNat * 1)) kS (fun (x12 : ByteArray) => brW (!strEq x9 x12) (K (.bool false)) (R3 v4 v5 (IntKind.i64.wrap (v6 + 1)))))))))) (K (.bool true)))) (fun (R13 : Sl -> Sl -> Int -> H -> Prop) => R13 v1 v2 0))
theorem c12 (v1 : Sl) (v2 : Sl) {K : KH} {σ : H} : g12 v1 v2 K σ -> callW Tryz.prog 12 [.slice v1.base v1.len v1.cap, .slice v2.base v2.len v2.cap] K σ := call_k an12 Tryz.func12 (by kernel_rfl)


def an13 : Ann := (.q (.q (.q (.q (.q (.n (.q (.blk (.loop [(4,.p),(5,.p),(13,.l),(14,.i),(15,.i)] (.q (.n (.cond .z .z) (.n (.blk (.q .r)) .r)))))) (.q .z)))))))
def g13 (v1 : Sl) (v2 : Sl) (K : KH) : H -> Prop :=
 alW (.cells ⟨[.slice v1.base v1.len v1.cap, .slice v2.base v2.len v2.cap]⟩ 28 (0, 0)) (fun b3 => rdT (rdA 2 b3 0) (.one (.agg [.slc, .slc])) (fun x4 x5 => callT Tryz.prog 23 [.agg ⟨[.slice x4.base x4.len x4.cap, .slice x5.base x5.len x5.cap]⟩] (.one (.agg [.slc, .slc, .map])) (fun (x6 : Sl) (x7 : Sl) (x8 : Option Nat) => alW (.cells ⟨[.slice none 0 0, .slice none 0 0, .map none]⟩ 55 (0, 0)) (fun b9 =>
 stW Tryz.prog 55 (.pointer (some ⟨b9, 0, none⟩)) (.agg ⟨[.slice x6.base x6.len x6.cap, .slice x7.base x7.len x7.cap, .map x8]⟩) (alW (.map #[] 0) (fun b10 => alW (.cells ⟨[.map none]⟩ 39 (0, 0)) (fun b11 => stW Tryz.prog 39 (.pointer (some ⟨b11, 0, none⟩)) (.map (some b10)) (alW (.cells ⟨[.nilFunc]⟩ 60 (0, 0)) (fun b12 =>
 stW Tryz.prog 60 (.pointer (some ⟨b12, 0, none⟩)) (.func (.func 32) ⟨[]⟩ ⟨[.pointer (some ⟨b9, 0, none⟩), .pointer (some ⟨b11, 0, none⟩), .pointer (some ⟨b3, 0, none⟩), .pointer (some ⟨b12, 0, none⟩)]⟩) (rdT (rdC b3 1) kL (fun x13 => loopW [.sc .ptr, .sc .ptr, .sc .slc, .sc (.int .i64), .sc (.int .i64)] (fun (R14 : Option Addr -> Option Addr -> Sl -> Int -> Int -> H -> Prop) => (fun (v15 : Option Addr) (v16 : Option Addr) (x17 : Sl) (x18 : Int) (x19 : Int) =>
 brW (decide ((x19 : Int) < x18)) (ptrW x17.base (fun b20 o21 => ifW (0 <= x19 /\ x19 < ((x17.len : Nat) : Int)) (rdT (rdC b20 (o21 + x19.toNat * 1)) kS (fun (x22 : ByteArray) => ptrW v16 (fun b23 o24 => rdT (rdC b23 o24) kR (fun x25 => cvalT Tryz.prog x25 [.string x22] kU (R14 v15 v16 x17 x18 (IntKind.i64.wrap (x19 + 1))))))))) (ptrW v15 (fun b26 o27 => rdT (rdC b26 o27) kM (fun (x28 : Option Nat) => callT Tryz.prog 35 [.map x28] kR (fun x29 =>
 callT Tryz.prog 34 [x29] kL (fun x30 => K (.slice x30.base x30.len x30.cap)))))))) (fun (R31 : Option Addr -> Option Addr -> Sl -> Int -> Int -> H -> Prop) => R31 (some ⟨b11, 0, none⟩) (some ⟨b12, 0, none⟩) x13 ((x13.len : Nat) : Int) 0))))))))))))
theorem c13 (v1 : Sl) (v2 : Sl) {K : KH} {σ : H} : g13 v1 v2 K σ -> callW Tryz.prog 13 [.agg ⟨[.slice v1.base v1.len v1.cap, .slice v2.base v2.len v2.cap]⟩] K σ := call_k an13 Tryz.func13 (by kernel_rfl)


def an15 : Ann := (.q (.q (.q (.q (.q (.n (.reg [0,1,2,3,4,5,6,7,8,9,10,11,12,13,14,16,17,15,18,19,20,21,22,23,24,25,26,27,28,29,30,31,32,33,34,35,36,37,38,39,40,41,42,43,44] [[],[0],[0,1],[0,1,2],(rn 4),(rn 5),(rn 6),(rn 7),(rn 8),(rn 9),(rn 10),(rn 11),(rn 12),(rn 13),(rn 14),(rn 15),(rn 14),[0,1,2,3,4,5,6,7,8,9,10,11,12,13,16],[0,1,2,3,4,5,6,7,8,9,10,11,12,13,16,17],(rn 19),(rn 20),(rn 21),(rn 22),(rn 23),(rn 24),(rn 25),(rn 26),(rn 27),(rn 28),(rn 29),(rn 30),(rn 29),(rn 32),(rn 33),(rn 34),(rn 35),(rn 36),(rn 37),(rn 37),(rn 39),(rn 40),(rn 41),(rn 42),(rn 43),(rn 44)]) .z))))))
def g15  (K : KH) : H -> Prop :=
 callT Tryz.prog 20 [.string ⟨⟨[120]⟩⟩, .string ⟨⟨[49]⟩⟩] (.one (.agg [.str, .slc, .str, .str])) (fun (x1 : ByteArray) (x2 : Sl) (x3 : ByteArray) (x4 : ByteArray) => alW (.cells ⟨[.string ⟨⟨[]⟩⟩, .slice none 0 0, .string ⟨⟨[]⟩⟩, .string ⟨⟨[]⟩⟩]⟩ 38 (0, 0)) (fun b5 =>
 stW Tryz.prog 38 (.pointer (some ⟨b5, 0, none⟩)) (.agg ⟨[.string x1, .slice x2.base x2.len x2.cap, .string x3, .string x4]⟩) (rdT (rdA 4 b5 0) (.one (.agg [.str, .slc, .str, .str])) (fun (x6 : ByteArray) (x7 : Sl) (x8 : ByteArray) (x9 : ByteArray) => alW (.cells ⟨[.string ⟨⟨[]⟩⟩, .slice none 0 0, .string ⟨⟨[]⟩⟩, .string ⟨⟨[]⟩⟩]⟩ 38 (0, 0)) (fun b10 =>
 stW Tryz.prog 38 (.pointer (some ⟨b10, 0, none⟩)) (.agg ⟨[.string x6, .slice x7.base x7.len x7.cap, .string x8, .string x9]⟩) (callT Tryz.prog 20 [.string ⟨⟨[120]⟩⟩, .string ⟨⟨[50]⟩⟩] (.one (.agg [.str, .slc, .str, .str])) (fun (_x11 : ByteArray) (_x12 : Sl) (x13 : ByteArray) (_x14 : ByteArray) =>
 stW Tryz.prog 9 (.pointer (some ⟨b10, 2, none⟩)) (.string x13) (rdT (rdA 4 b5 0) (.one (.agg [.str, .slc, .str, .str])) (fun (x15 : ByteArray) (x16 : Sl) (x17 : ByteArray) (x18 : ByteArray) => alW (.cells ⟨[.string x15, .slice x16.base x16.len x16.cap, .string x17, .string x18]⟩ 38 (0, 0)) (fun b19 => rdT (rdC b5 0) kS (fun (x20 : ByteArray) => alW (.cells ⟨[.string x20]⟩ 9 (0, 0)) (fun b21 => alW (.cells ⟨[.slice none 0 0, .slice none 0 0]⟩ 28 (0, 0)) (fun b22 =>
 stW Tryz.prog 28 (.pointer (some ⟨b22, 0, none⟩)) (.agg ⟨[.slice (some ⟨b19, 0, none⟩) 1 1, .slice (some ⟨b21, 0, none⟩) 1 1]⟩) (rdT (rdC b5 0) kS (fun (x23 : ByteArray) => brW (!strEq x23 (⟨⟨[]⟩⟩ : ByteArray)) (callT Tryz.prog 9 [.agg ⟨[.slice none 0 0, .slice none 0 0]⟩] kI (fun (x24 : Int) => brW ((x24 : Int) == 0) (rdT (rdA 2 b22 0) (.one (.agg [.slc, .slc])) (fun x25 x26 => callT Tryz.prog 9 [.agg ⟨[.slice x25.base x25.len x25.cap, .slice x26.base x26.len x26.cap]⟩] kI (fun (x27 : Int) =>
 brW ((x27 : Int) == 0) (rdT (rdA 2 b22 0) (.one (.agg [.slc, .slc])) (fun x28 x29 => rdT (rdC b5 0) kS (fun (x30 : ByteArray) => callT Tryz.prog 13 [.agg ⟨[.slice x28.base x28.len x28.cap, .slice x29.base x29.len x29.cap]⟩] kL (fun x31 => andW (fun σ => (rdC b5 0) σ = some (.string x30)) (alW (.cells ⟨[.string x30]⟩ 9 (0, 0)) (fun b32 => callT Tryz.prog 12 [.slice x31.base x31.len x31.cap, .slice (some ⟨b32, 0, none⟩) 1 1] kB (fun x33 => brW x33
 (rdT (rdA 4 b10 0) (.one (.agg [.str, .slc, .str, .str])) (fun (x34 : ByteArray) (x35 : Sl) (x36 : ByteArray) (x37 : ByteArray) => alW (.cells ⟨[.string x34, .slice x35.base x35.len x35.cap, .string x36, .string x37]⟩ 38 (0, 0)) (fun b38 => callT Tryz.prog 9 [.agg ⟨[.slice (some ⟨b38, 0, none⟩) 1 1, .slice none 0 0]⟩] kI (fun (x39 : Int) => brW ((x39 : Int) == 6) (rdT (rdC b22 0) kL (fun x40 => alW (.cells ⟨[.string ⟨⟨[120]⟩⟩]⟩ 9 (0, 0)) (fun b41 =>
 callT Tryz.prog 9 [.agg ⟨[.slice x40.base x40.len x40.cap, .slice (some ⟨b41, 0, none⟩) 1 1]⟩] kI (fun (x42 : Int) => brW ((x42 : Int) == 3) (rdT (rdA 4 b5 0) (.one (.agg [.str, .slc, .str, .str])) (fun (x43 : ByteArray) (x44 : Sl) (x45 : ByteArray) (x46 : ByteArray) => rdT (rdA 4 b5 0) (.one (.agg [.str, .slc, .str, .str])) (fun (x47 : ByteArray) (x48 : Sl) (x49 : ByteArray) (x50 : ByteArray) =>
 alW (.cells ⟨[.string x43, .slice x44.base x44.len x44.cap, .string x45, .string x46, .string x47, .slice x48.base x48.len x48.cap, .string x49, .string x50]⟩ 38 (0, 0)) (fun b51 => callT Tryz.prog 9 [.agg ⟨[.slice (some ⟨b51, 0, none⟩) 2 2, .slice none 0 0]⟩] kI (fun (x52 : Int) => K (.bool ((x52 : Int) == 1))))))) (K (.bool false)))))) (K (.bool false)))))) (K (.bool false))))))))) (K (.bool false))))) (K (.bool false)))) (K (.bool false)))))))))))))))))
theorem c15  {K : KH} {σ : H} : g15  K σ -> callW Tryz.prog 15 [] K σ := call_k an15 Tryz.func15 (by kernel_rfl)


def an16 : Ann := (.q (.q .z))
def g16 (v1 : Sl) (v2 : Sl) (v3 : Sl) (v4 : Sl) (K : KH) : H -> Prop :=
 alW (.cells ⟨[.slice v1.base v1.len v1.cap, .slice v2.base v2.len v2.cap]⟩ 28 (0, 0)) (fun b5 => alW (.cells ⟨[.slice v3.base v3.len v3.cap, .slice v4.base v4.len v4.cap]⟩ 28 (0, 0)) (fun b6 => rdT (rdC b5 0) kL (fun x7 => rdT (rdC b6 0) kL (fun x8 => callT Tryz.prog 37 [.slice x7.base x7.len x7.cap, .slice x8.base x8.len x8.cap, .func (.func 38) ⟨[]⟩ ⟨[]⟩] kB (fun x9 => brW x9 (rdT (rdC b5 1) kL (fun x10 => rdT (rdC b6 1) kL (fun x11 =>
 callT Tryz.prog 39 [.slice x10.base x10.len x10.cap, .slice x11.base x11.len x11.cap] kB (fun x12 => K (.bool x12))))) (K (.bool false)))))))
theorem c16 (v1 : Sl) (v2 : Sl) (v3 : Sl) (v4 : Sl) {K : KH} {σ : H} : g16 v1 v2 v3 v4 K σ -> callW Tryz.prog 16 [.agg ⟨[.slice v1.base v1.len v1.cap, .slice v2.base v2.len v2.cap]⟩, .agg ⟨[.slice v3.base v3.len v3.cap, .slice v4.base v4.len v4.cap]⟩] K σ := call_k an16 Tryz.func16 (by kernel_rfl)


def an18 : Ann := (.q (.seq (some [(4,.p),(5,.p),(6,.i)]) (.q (.cond .r .z)) (.seq (some [(6,.i)]) (.q (.cond .r .z)) (.q .z))))
def g18 (v1 : Sl) (v2 : Sl) (v3 : Sl) (v4 : Sl) (v5 : Sl) (v6 : Sl) (K : KH) : H -> Prop :=
 alW (.cells ⟨[.slice v1.base v1.len v1.cap, .slice v2.base v2.len v2.cap]⟩ 28 (0, 0)) (fun b7 => alW (.cells ⟨[.slice v3.base v3.len v3.cap, .slice v4.base v4.len v4.cap]⟩ 28 (0, 0)) (fun b8 => alW (.cells ⟨[.slice v5.base v5.len v5.cap, .slice v6.base v6.len v6.cap]⟩ 28 (0, 0)) (fun b9 => letJ (T := Option Addr -> Option Addr -> Int -> H -> Prop) (fun v11 v12 v13 => letJ (T := Int -> H -> Prop) (fun v15 =>
 K (.int .i64 v15)) (fun j14 => ptrW v11 (fun b16 o17 => rdT (rdA 2 b16 o17) (.one (.agg [.slc, .slc])) (fun x18 x19 => ptrW v12 (fun b20 o21 => rdT (rdA 2 b20 o21) (.one (.agg [.slc, .slc])) (fun x22 x23 => callT Tryz.prog 16 [.agg ⟨[.slice x18.base x18.len x18.cap, .slice x19.base x19.len x19.cap]⟩, .agg ⟨[.slice x22.base x22.len x22.cap, .slice x23.base x23.len x23.cap]⟩] kB (fun x24 => brW x24 (j14 (IntKind.i64.wrap (v13 + 2))) (j14 v13)))))))) (fun j10 =>
 rdT (rdA 2 b7 0) (.one (.agg [.slc, .slc])) (fun x25 x26 => rdT (rdA 2 b9 0) (.one (.agg [.slc, .slc])) (fun x27 x28 => callT Tryz.prog 16 [.agg ⟨[.slice x25.base x25.len x25.cap, .slice x26.base x26.len x26.cap]⟩, .agg ⟨[.slice x27.base x27.len x27.cap, .slice x28.base x28.len x28.cap]⟩] kB (fun x29 => brW x29 (j10 (some ⟨b8, 0, none⟩) (some ⟨b9, 0, none⟩) (IntKind.i64.wrap (0 + 1))) (j10 (some ⟨b8, 0, none⟩) (some ⟨b9, 0, none⟩) 0))))))))
theorem c18 (v1 : Sl) (v2 : Sl) (v3 : Sl) (v4 : Sl) (v5 : Sl) (v6 : Sl) {K : KH} {σ : H} : g18 v1 v2 v3 v4 v5 v6 K σ -> callW Tryz.prog 18 [.agg ⟨[.slice v1.base v1.len v1.cap, .slice v2.base v2.len v2.cap]⟩, .agg ⟨[.slice v3.base v3.len v3.cap, .slice v4.base v4.len v4.cap]⟩, .agg ⟨[.slice v5.base v5.len v5.cap, .slice v6.base v6.len v6.cap]⟩] K σ := call_k an18 Tryz.func18 (by kernel_rfl)


def an20 : Ann := (.q (.q (.q (.n (.seq (some [(4,.p),(5,.s),(7,.s),(26,.b)]) .r (.h)) (.q .z)))))
def g20 (v1 : ByteArray) (v2 : ByteArray) (K : KH) : H -> Prop :=
 alW (.cells ⟨[.string ⟨⟨[]⟩⟩, .slice none 0 0, .string ⟨⟨[]⟩⟩, .string ⟨⟨[]⟩⟩]⟩ 38 (0, 0)) (fun b3 => callT Tryz.prog 41 [.agg ⟨[.string ⟨⟨[]⟩⟩, .int .i64 1, .bool false, .string v2, .slice none 0 0]⟩] (.tup [.sc .str, .sc (.int .i64)]) (fun (x4 : ByteArray) (x5 : Int) => callT Tryz.prog 42 [.string x4, .string v1] (.tup [.sc .str, .sc (.int .i64)]) (fun (x6 : ByteArray) (x7 : Int) =>
 letJ (T := Option Addr -> ByteArray -> ByteArray -> Bool -> H -> Prop) (fun x9 v10 v11 x12 => brW x12 (stW Tryz.prog 38 (.pointer x9) (.agg ⟨[.string ⟨⟨[]⟩⟩, .slice none 0 0, .string ⟨⟨[]⟩⟩, .string ⟨⟨[]⟩⟩]⟩) (ptrW x9 (fun b13 o14 => rdT (rdA 4 b13 o14) (.one (.agg [.str, .slc, .str, .str])) (fun (r15 : ByteArray) (r16 : Sl) (r17 : ByteArray) (r18 : ByteArray) => K (.agg ⟨[.string r15, .slice r16.base r16.len r16.cap, .string r17, .string r18]⟩)))))
 (stW Tryz.prog 38 (.pointer x9) (.agg ⟨[.string v11, .slice none 0 0, .string v10, .string ⟨⟨[]⟩⟩]⟩) (ptrW x9 (fun b19 o20 => rdT (rdA 4 b19 o20) (.one (.agg [.str, .slc, .str, .str])) (fun (r21 : ByteArray) (r22 : Sl) (r23 : ByteArray) (r24 : ByteArray) => K (.agg ⟨[.string r21, .slice r22.base r22.len r22.cap, .string r23, .string r24]⟩)))))) (fun j8 => brW ((x5 : Int) != 0) (j8 (some ⟨b3, 0, none⟩) x4 x6 true) (j8 (some ⟨b3, 0, none⟩) x4 x6 ((x7 : Int) != 0))))))
theorem c20 (v1 : ByteArray) (v2 : ByteArray) {K : KH} {σ : H} : g20 v1 v2 K σ -> callW Tryz.prog 20 [.string v1, .string v2] K σ := call_k an20 Tryz.func20 (by kernel_rfl)


def an21 : Ann := (.q (.q (.q .z)))
def g21 (v1 : ByteArray) (v2 : Sl) (v3 : ByteArray) (v4 : ByteArray) (v5 : Sl) (K : KH) : H -> Prop :=
 alW (.cells ⟨[.string v1, .slice v2.base v2.len v2.cap, .string v3, .string v4]⟩ 38 (0, 0)) (fun b6 => alW (.cells ⟨[.string ⟨⟨[]⟩⟩, .slice none 0 0, .string ⟨⟨[]⟩⟩, .string ⟨⟨[]⟩⟩]⟩ 38 (0, 0)) (fun b7 => stW Tryz.prog 23 (.pointer (some ⟨b6, 1, none⟩)) (.slice v5.base v5.len v5.cap) (rdT (rdA 4 b6 0) (.one (.agg [.str, .slc, .str, .str])) (fun (x8 : ByteArray) (x9 : Sl) (x10 : ByteArray) (x11 : ByteArray) =>
 stW Tryz.prog 38 (.pointer (some ⟨b7, 0, none⟩)) (.agg ⟨[.string x8, .slice x9.base x9.len x9.cap, .string x10, .string x11]⟩) (rdT (rdA 4 b7 0) (.one (.agg [.str, .slc, .str, .str])) (fun (r12 : ByteArray) (r13 : Sl) (r14 : ByteArray) (r15 : ByteArray) => K (.agg ⟨[.string r12, .slice r13.base r13.len r13.cap, .string r14, .string r15]⟩)))))))
theorem c21 (v1 : ByteArray) (v2 : Sl) (v3 : ByteArray) (v4 : ByteArray) (v5 : Sl) {K : KH} {σ : H} : g21 v1 v2 v3 v4 v5 K σ -> callW Tryz.prog 21 [.agg ⟨[.string v1, .slice v2.base v2.len v2.cap, .string v3, .string v4]⟩, .slice v5.base v5.len v5.cap] K σ := call_k an21 Tryz.func21 (by kernel_rfl)


def an23 : Ann := (.q (.q (.n (.q (.blk (.loop [(2,.p),(3,.p),(12,.l),(13,.i),(14,.i)] (.q (.n (.cond .z .z) (.seq (some [(2,.p),(3,.p),(12,.l),(13,.i),(14,.i)]) (.blk (.q (.q (.q (.cond .r .z))))) .r)))))) (.q .z))))
def g23 (v1 : Sl) (v2 : Sl) (K : KH) : H -> Prop :=
 alW (.cells ⟨[.slice v1.base v1.len v1.cap, .slice v2.base v2.len v2.cap]⟩ 28 (0, 0)) (fun b3 => alW (.cells ⟨[.slice none 0 0, .slice none 0 0, .map none]⟩ 55 (0, 0)) (fun b4 => rdT (rdA 2 b3 0) (.one (.agg [.slc, .slc])) (fun x5 x6 => alW (.map #[] 0) (fun b7 => alW (.cells ⟨[.slice none 0 0, .slice none 0 0, .map none]⟩ 55 (0, 0)) (fun b8 =>
 stW Tryz.prog 55 (.pointer (some ⟨b8, 0, none⟩)) (.agg ⟨[.slice x5.base x5.len x5.cap, .slice x6.base x6.len x6.cap, .map (some b7)]⟩) (rdT (rdC b3 0) kL (fun x9 => loopW [.sc .ptr, .sc .ptr, .sc .slc, .sc (.int .i64), .sc (.int .i64)] (fun (R10 : Option Addr -> Option Addr -> Sl -> Int -> Int -> H -> Prop) => (fun (x11 : Option Addr) (v12 : Option Addr) (x13 : Sl) (x14 : Int) (x15 : Int) => brW (decide ((x15 : Int) < x14))
 (letJ (T := Option Addr -> Option Addr -> Sl -> Int -> Int -> H -> Prop) (fun x17 v18 x19 x20 x21 => R10 x17 v18 x19 x20 (IntKind.i64.wrap (x21 + 1))) (fun j16 => ptrW x13.base (fun b22 o23 => ifW (0 <= x15 /\ x15 < ((x13.len : Nat) : Int)) (rdT (rdA 4 b22 (o23 + x15.toNat * 4)) (.one (.agg [.str, .slc, .str, .str])) (fun (x24 : ByteArray) (x25 : Sl) (x26 : ByteArray) (x27 : ByteArray) =>
 alW (.cells ⟨[.string ⟨⟨[]⟩⟩, .slice none 0 0, .string ⟨⟨[]⟩⟩, .string ⟨⟨[]⟩⟩]⟩ 38 (0, 0)) (fun b28 => stW Tryz.prog 38 (.pointer (some ⟨b28, 0, none⟩)) (.agg ⟨[.string x24, .slice x25.base x25.len x25.cap, .string x26, .string x27]⟩) (ptrW v12 (fun b29 o30 => rdT (rdC b29 (o30 + 2)) kM (fun (x31 : Option Nat) => rdT (rdC b28 0) kS (fun (x32 : ByteArray) =>
 rdT (rdM .string (.agg ⟨[.string ⟨⟨[]⟩⟩, .slice none 0 0, .string ⟨⟨[]⟩⟩, .string ⟨⟨[]⟩⟩]⟩) true x31 (.string x32)) (.tup [.agg [.str, .slc, .str, .str], .sc .bool]) (fun (x33 : ByteArray) (x34 : Sl) (x35 : ByteArray) (x36 : ByteArray) (x37 : Bool) => alW (.cells ⟨[.string ⟨⟨[]⟩⟩, .slice none 0 0, .string ⟨⟨[]⟩⟩, .string ⟨⟨[]⟩⟩]⟩ 38 (0, 0)) (fun b38 =>
 stW Tryz.prog 38 (.pointer (some ⟨b38, 0, none⟩)) (.agg ⟨[.string x33, .slice x34.base x34.len x34.cap, .string x35, .string x36]⟩) (brW (!x37) (ptrW v12 (fun b39 o40 => rdT (rdC b39 (o40 + 2)) kM (fun (x41 : Option Nat) => rdT (rdC b28 0) kS (fun (x42 : ByteArray) => rdT (rdA 4 b28 0) (.one (.agg [.str, .slc, .str, .str])) (fun (x43 : ByteArray) (x44 : Sl) (x45 : ByteArray) (x46 : ByteArray) =>
 muW Tryz.prog 53 (.map x41) (.string x42) (.agg ⟨[.string x43, .slice x44.base x44.len x44.cap, .string x45, .string x46]⟩) (j16 x11 v12 x13 x14 x15)))))) (j16 x11 v12 x13 x14 x15)))))))))))))) (ptrW v12 (fun b47 o48 => rdT (rdA 3 b47 o48) (.one (.agg [.slc, .slc, .map])) (fun (x49 : Sl) (x50 : Sl) (x51 : Option Nat) => stW Tryz.prog 55 (.pointer x11) (.agg ⟨[.slice x49.base x49.len x49.cap, .slice x50.base x50.len x50.cap, .map x51]⟩) (ptrW x11 (fun b52 o53 =>
 rdT (rdA 3 b52 o53) (.one (.agg [.slc, .slc, .map])) (fun (r54 : Sl) (r55 : Sl) (r56 : Option Nat) => K (.agg ⟨[.slice r54.base r54.len r54.cap, .slice r55.base r55.len r55.cap, .map r56]⟩))))))))) (fun (R57 : Option Addr -> Option Addr -> Sl -> Int -> Int -> H -> Prop) => R57 (some ⟨b4, 0, none⟩) (some ⟨b8, 0, none⟩) x9 ((x9.len : Nat) : Int) 0))))))))
theorem c23 (v1 : Sl) (v2 : Sl) {K : KH} {σ : H} : g23 v1 v2 K σ -> callW Tryz.prog 23 [.agg ⟨[.slice v1.base v1.len v1.cap, .slice v2.base v2.len v2.cap]⟩] K σ := call_k an23 Tryz.func23 (by kernel_rfl)


def an24 : Ann := (.q (.q (.n (.q (.blk (.loop [(1,.p),(3,.l),(8,.l),(9,.i),(10,.i)] (.q (.n (.cond .z .z) (.n (.blk (.q .r)) .r)))))) (.q .z))))
def g24 (v1 : Sl) (v2 : Sl) (v3 : Option Nat) (K : KH) : H -> Prop :=
 alW (.cells ⟨[.slice v1.base v1.len v1.cap, .slice v2.base v2.len v2.cap, .map v3]⟩ 55 (0, 0)) (fun b4 => rdT (rdC b4 0) kL (fun x5 => loopW [.sc .ptr, .sc .slc, .sc .slc, .sc (.int .i64), .sc (.int .i64)] (fun (R6 : Option Addr -> Sl -> Sl -> Int -> Int -> H -> Prop) => (fun (v7 : Option Addr) (v8 : Sl) (x9 : Sl) (x10 : Int) (x11 : Int) => brW (decide ((x11 : Int) < x10)) (ptrW x9.base (fun b12 o13 => ifW (0 <= x11 /\ x11 < ((x9.len : Nat) : Int))
 (rdT (rdA 4 b12 (o13 + x11.toNat * 4)) (.one (.agg [.str, .slc, .str, .str])) (fun (x14 : ByteArray) (x15 : Sl) (x16 : ByteArray) (x17 : ByteArray) => alW (.cells ⟨[.string ⟨⟨[]⟩⟩, .slice none 0 0, .string ⟨⟨[]⟩⟩, .string ⟨⟨[]⟩⟩]⟩ 38 (0, 0)) (fun b18 => stW Tryz.prog 38 (.pointer (some ⟨b18, 0, none⟩)) (.agg ⟨[.string x14, .slice x15.base x15.len x15.cap, .string x16, .string x17]⟩) (rdT (rdC b18 0) kS (fun (x19 : ByteArray) =>
 alW (.cells ⟨[.string x19]⟩ 9 (0, 0)) (fun b20 => biW Tryz.prog .append #[23, 23] 23 [false, false] [.slice v8.base v8.len v8.cap, .slice (some ⟨b20, 0, none⟩) 1 1] kL (fun x21 => R6 v7 x21 x9 x10 (IntKind.i64.wrap (x11 + 1))))))))))) (callT Tryz.prog 43 [.slice v8.base v8.len v8.cap] kB (fun x22 => brW x22 (ptrW v7 (fun b23 o24 => rdT (rdA 3 b23 o24) (.one (.agg [.slc, .slc, .map])) (fun (x25 : Sl) (x26 : Sl) (x27 : Option Nat) =>
 callT Tryz.prog 44 [.agg ⟨[.slice x25.base x25.len x25.cap, .slice x26.base x26.len x26.cap, .map x27]⟩, .func (.func 45) ⟨[]⟩ ⟨[]⟩] kB (fun x28 => K (.bool x28))))) (K (.bool false)))))) (fun (R29 : Option Addr -> Sl -> Sl -> Int -> Int -> H -> Prop) => R29 (some ⟨b4, 0, none⟩) ⟨none, 0, 0⟩ x5 ((x5.len : Nat) : Int) 0)))
theorem c24 (v1 : Sl) (v2 : Sl) (v3 : Option Nat) {K : KH} {σ : H} : g24 v1 v2 v3 K σ -> callW Tryz.prog 24 [.agg ⟨[.slice v1.base v1.len v1.cap, .slice v2.base v2.len v2.cap, .map v3]⟩] K σ := call_k an24 Tryz.func24 (by kernel_rfl)


def an25 : Ann := (.q (.q .z))
def g25 (v1 : Sl) (v2 : Sl) (v3 : Option Nat) (K : KH) : H -> Prop :=
 alW (.cells ⟨[.slice v1.base v1.len v1.cap, .slice v2.base v2.len v2.cap, .map v3]⟩ 55 (0, 0)) (fun b4 => rdT (rdA 3 b4 0) (.one (.agg [.slc, .slc, .map])) (fun (x5 : Sl) (x6 : Sl) (x7 : Option Nat) => callT Tryz.prog 44 [.agg ⟨[.slice x5.base x5.len x5.cap, .slice x6.base x6.len x6.cap, .map x7]⟩, .func (.func 49) ⟨[]⟩ ⟨[.pointer (some ⟨b4, 0, none⟩)]⟩] kB (fun x8 => K (.bool x8))))
theorem c25 (v1 : Sl) (v2 : Sl) (v3 : Option Nat) {K : KH} {σ : H} : g25 v1 v2 v3 K σ -> callW Tryz.prog 25 [.agg ⟨[.slice v1.base v1.len v1.cap, .slice v2.base v2.len v2.cap, .map v3]⟩] K σ := call_k an25 Tryz.func25 (by kernel_rfl)


def an26 : Ann := (.q (.q .z))
def g26 (v1 : Sl) (v2 : Sl) (v3 : Option Nat) (K : KH) : H -> Prop :=
 alW (.cells ⟨[.slice v1.base v1.len v1.cap, .slice v2.base v2.len v2.cap, .map v3]⟩ 55 (0, 0)) (fun b4 => rdT (rdC b4 1) kL (fun x5 => callT Tryz.prog 43 [.slice x5.base x5.len x5.cap] kB (fun x6 => brW x6 (rdT (rdC b4 1) kL (fun x7 => callT Tryz.prog 47 [.slice x7.base x7.len x7.cap, .func (.func 51) ⟨[]⟩ ⟨[.pointer (some ⟨b4, 0, none⟩)]⟩] kB (fun x8 => K (.bool (!x8))))) (K (.bool false)))))
theorem c26 (v1 : Sl) (v2 : Sl) (v3 : Option Nat) {K : KH} {σ : H} : g26 v1 v2 v3 K σ -> callW Tryz.prog 26 [.agg ⟨[.slice v1.base v1.len v1.cap, .slice v2.base v2.len v2.cap, .map v3]⟩] K σ := call_k an26 Tryz.func26 (by kernel_rfl)


def an27 : Ann := (.q (.q .z))
def g27 (v1 : Sl) (v2 : Sl) (v3 : Option Nat) (K : KH) : H -> Prop :=
 alW (.cells ⟨[.slice v1.base v1.len v1.cap, .slice v2.base v2.len v2.cap, .map v3]⟩ 55 (0, 0)) (fun b4 => rdT (rdA 3 b4 0) (.one (.agg [.slc, .slc, .map])) (fun (x5 : Sl) (x6 : Sl) (x7 : Option Nat) => callT Tryz.prog 44 [.agg ⟨[.slice x5.base x5.len x5.cap, .slice x6.base x6.len x6.cap, .map x7]⟩, .func (.func 52) ⟨[]⟩ ⟨[]⟩] kB (fun x8 => K (.bool x8))))
theorem c27 (v1 : Sl) (v2 : Sl) (v3 : Option Nat) {K : KH} {σ : H} : g27 v1 v2 v3 K σ -> callW Tryz.prog 27 [.agg ⟨[.slice v1.base v1.len v1.cap, .slice v2.base v2.len v2.cap, .map v3]⟩] K σ := call_k an27 Tryz.func27 (by kernel_rfl)


def an28 : Ann := (.q (.q .z))
def g28 (v1 : Sl) (v2 : Sl) (v3 : Option Nat) (K : KH) : H -> Prop :=
 alW (.cells ⟨[.slice v1.base v1.len v1.cap, .slice v2.base v2.len v2.cap, .map v3]⟩ 55 (0, 0)) (fun b4 => rdT (rdA 3 b4 0) (.one (.agg [.slc, .slc, .map])) (fun (x5 : Sl) (x6 : Sl) (x7 : Option Nat) => callT Tryz.prog 44 [.agg ⟨[.slice x5.base x5.len x5.cap, .slice x6.base x6.len x6.cap, .map x7]⟩, .func (.func 54) ⟨[]⟩ ⟨[]⟩] kB (fun x8 => K (.bool x8))))
theorem c28 (v1 : Sl) (v2 : Sl) (v3 : Option Nat) {K : KH} {σ : H} : g28 v1 v2 v3 K σ -> callW Tryz.prog 28 [.agg ⟨[.slice v1.base v1.len v1.cap, .slice v2.base v2.len v2.cap, .map v3]⟩] K σ := call_k an28 Tryz.func28 (by kernel_rfl)


def an29 : Ann := (.q (.q .z))
def g29 (v1 : Sl) (v2 : Sl) (v3 : Option Nat) (K : KH) : H -> Prop :=
 alW (.cells ⟨[.slice v1.base v1.len v1.cap, .slice v2.base v2.len v2.cap, .map v3]⟩ 55 (0, 0)) (fun b4 => rdT (rdA 3 b4 0) (.one (.agg [.slc, .slc, .map])) (fun (x5 : Sl) (x6 : Sl) (x7 : Option Nat) => callT Tryz.prog 44 [.agg ⟨[.slice x5.base x5.len x5.cap, .slice x6.base x6.len x6.cap, .map x7]⟩, .func (.func 58) ⟨[]⟩ ⟨[]⟩] kB (fun x8 => K (.bool x8))))
theorem c29 (v1 : Sl) (v2 : Sl) (v3 : Option Nat) {K : KH} {σ : H} : g29 v1 v2 v3 K σ -> callW Tryz.prog 29 [.agg ⟨[.slice v1.base v1.len v1.cap, .slice v2.base v2.len v2.cap, .map v3]⟩] K σ := call_k an29 Tryz.func29 (by kernel_rfl)


def an32 : Ann := (.n (.seq (some [(0,.s),(2,.p),(3,.p),(4,.p),(19,.b)]) .r (.cond .z .z)) (.q (.q (.blk (.loop [(0,.s),(4,.p),(23,.l),(24,.i),(25,.i)] (.q (.n (.cond .z .z) (.seq (some [(0,.s),(4,.p),(23,.l),(24,.i),(25,.i)]) (.blk (.q (.q (.cond (.q (.blk (.loop [(0,.s),(4,.p),(23,.l),(24,.i),(25,.i),(34,.l),(35,.i),(36,.i)] (.q (.n (.cond .z .z) (.n (.blk (.q .r)) .r)))))) .z)))) .r))))))))
def g32 (v1 : ByteArray) (x2 : Option Addr) (x3 : Option Addr) (x4 : Option Addr) (x5 : Option Addr) (K : KH) : H -> Prop :=
 letJ (T := ByteArray -> Option Addr -> Option Addr -> Option Addr -> Bool -> H -> Prop) (fun v7 x8 x9 x10 x11 => brW x11 (K (.tuple ⟨[]⟩)) (ptrW x8 (fun b12 o13 => rdT (rdC b12 o13) kM (fun (x14 : Option Nat) => muW Tryz.prog 39 (.map x14) (.string v7) (.int .i64 1) (ptrW x9 (fun b15 o16 => rdT (rdC b15 o16) kL (fun x17 =>
 loopW [.sc .str, .sc .ptr, .sc .slc, .sc (.int .i64), .sc (.int .i64)] (fun (R18 : ByteArray -> Option Addr -> Sl -> Int -> Int -> H -> Prop) => (fun (v19 : ByteArray) (x20 : Option Addr) (x21 : Sl) (x22 : Int) (x23 : Int) => brW (decide ((x23 : Int) < x22)) (letJ (T := ByteArray -> Option Addr -> Sl -> Int -> Int -> H -> Prop) (fun v25 x26 x27 x28 x29 => R18 v25 x26 x27 x28 (IntKind.i64.wrap (x29 + 1))) (fun j24 => ptrW x21.base (fun b30 o31 => ifW (0 <= x23 /\ x23 < ((x21.len : Nat) : Int))
 (rdT (rdA 4 b30 (o31 + x23.toNat * 4)) (.one (.agg [.str, .slc, .str, .str])) (fun (x32 : ByteArray) (x33 : Sl) (x34 : ByteArray) (x35 : ByteArray) => alW (.cells ⟨[.string ⟨⟨[]⟩⟩, .slice none 0 0, .string ⟨⟨[]⟩⟩, .string ⟨⟨[]⟩⟩]⟩ 38 (0, 0)) (fun b36 => stW Tryz.prog 38 (.pointer (some ⟨b36, 0, none⟩)) (.agg ⟨[.string x32, .slice x33.base x33.len x33.cap, .string x34, .string x35]⟩) (rdT (rdC b36 0) kS (fun (x37 : ByteArray) => brW (strEq x37 v19)
 (rdT (rdC b36 1) kL (fun x38 => loopW [.sc .str, .sc .ptr, .sc .slc, .sc (.int .i64), .sc (.int .i64), .sc .slc, .sc (.int .i64), .sc (.int .i64)] (fun (R39 : ByteArray -> Option Addr -> Sl -> Int -> Int -> Sl -> Int -> Int -> H -> Prop) => (fun (v40 : ByteArray) (x41 : Option Addr) (x42 : Sl) (x43 : Int) (x44 : Int) (x45 : Sl) (x46 : Int) (x47 : Int) => brW (decide ((x47 : Int) < x46)) (ptrW x45.base (fun b48 o49 => ifW (0 <= x47 /\ x47 < ((x45.len : Nat) : Int))
 (rdT (rdC b48 (o49 + x47.toNat * 1)) kS (fun (x50 : ByteArray) => ptrW x41 (fun b51 o52 => rdT (rdC b51 o52) kR (fun x53 => cvalT Tryz.prog x53 [.string x50] kU (R39 v40 x41 x42 x43 x44 x45 x46 (IntKind.i64.wrap (x47 + 1))))))))) (j24 v40 x41 x42 x43 x44))) (fun (R54 : ByteArray -> Option Addr -> Sl -> Int -> Int -> Sl -> Int -> Int -> H -> Prop) => R54 v19 x20 x21 x22 x23 x38 ((x38.len : Nat) : Int) 0))) (j24 v19 x20 x21 x22 x23)))))))))
 (K (.tuple ⟨[]⟩)))) (fun (R55 : ByteArray -> Option Addr -> Sl -> Int -> Int -> H -> Prop) => R55 v7 x10 x17 ((x17.len : Nat) : Int) 0)))))))) (fun j6 => ptrW x2 (fun b56 o57 => rdT (rdA 3 b56 o57) (.one (.agg [.slc, .slc, .map])) (fun (x58 : Sl) (x59 : Sl) (x60 : Option Nat) => callT Tryz.prog 33 [.agg ⟨[.slice x58.base x58.len x58.cap, .slice x59.base x59.len x59.cap, .map x60]⟩, .string v1] kB (fun x61 => brW (!x61) (j6 v1 x3 x4 x5 true) (ptrW x3 (fun b62 o63 =>
 rdT (rdC b62 o63) kM (fun (x64 : Option Nat) => rdT (rdM .string (.int .i64 0) false x64 (.string v1)) kI (fun (x65 : Int) => j6 v1 x3 x4 x5 (decide ((x65 : Int) > 0))))))))))
theorem c32 (v1 : ByteArray) (x2 : Option Addr) (x3 : Option Addr) (x4 : Option Addr) (x5 : Option Addr) {K : KH} {σ : H} : g32 v1 x2 x3 x4 x5 K σ -> callW Tryz.prog 32 [.string v1, .pointer x2, .pointer x3, .pointer x4, .pointer x5] K σ := call_k an32 Tryz.func32 (by kernel_rfl)


def an33 : Ann := (.q (.q (.q .z)))
def g33 (v1 : Sl) (v2 : Sl) (v3 : Option Nat) (v4 : ByteArray) (K : KH) : H -> Prop :=
 alW (.cells ⟨[.slice v1.base v1.len v1.cap, .slice v2.base v2.len v2.cap, .map v3]⟩ 55 (0, 0)) (fun b5 => rdT (rdC b5 2) kM (fun (x6 : Option Nat) => rdT (rdM .string (.agg ⟨[.string ⟨⟨[]⟩⟩, .slice none 0 0, .string ⟨⟨[]⟩⟩, .string ⟨⟨[]⟩⟩]⟩) true x6 (.string v4)) (.tup [.agg [.str, .slc, .str, .str], .sc .bool]) (fun (x7 : ByteArray) (x8 : Sl) (x9 : ByteArray) (x10 : ByteArray) (x11 : Bool) =>
 alW (.cells ⟨[.string ⟨⟨[]⟩⟩, .slice none 0 0, .string ⟨⟨[]⟩⟩, .string ⟨⟨[]⟩⟩]⟩ 38 (0, 0)) (fun b12 => stW Tryz.prog 38 (.pointer (some ⟨b12, 0, none⟩)) (.agg ⟨[.string x7, .slice x8.base x8.len x8.cap, .string x9, .string x10]⟩) (K (.bool x11))))))
theorem c33 (v1 : Sl) (v2 : Sl) (v3 : Option Nat) (v4 : ByteArray) {K : KH} {σ : H} : g33 v1 v2 v3 v4 K σ -> callW Tryz.prog 33 [.agg ⟨[.slice v1.base v1.len v1.cap, .slice v2.base v2.len v2.cap, .map v3]⟩, .string v4] K σ := call_k an33 Tryz.func33 (by kernel_rfl)


def an35 : Ann := (.q (.q .z))
def g35 (v1 : Option Nat) (K : KH) : H -> Prop :=
 alW (.cells ⟨[.map v1]⟩ 39 (0, 0)) (fun b2 => K (.func (.func 68) ⟨[]⟩ ⟨[.pointer (some ⟨b2, 0, none⟩)]⟩))
theorem c35 (v1 : Option Nat) {K : KH} {σ : H} : g35 v1 K σ -> callW Tryz.prog 35 [.map v1] K σ := call_k an35 Tryz.func35 (by kernel_rfl)


def an37 : Ann := (.q (.n (.q (.h)) (.n (.q (.blk (.loop [(1,.l),(2,.w),(15,.l),(16,.i),(17,.i)] (.q (.n (.cond .z .z) (.n (.blk (.q (.q (.q (.h))))) .r)))))) (.q .z))))
def g37 (s1_1 : Sl) (s2_2 : Sl) (v3 : Value) (K : KH) : H -> Prop :=
 brW (((s1_1.len : Nat) : Int) != ((s2_2.len : Nat) : Int)) (K (.bool false)) (loopW [.sc .slc, .sc .raw, .sc .slc, .sc (.int .i64), .sc (.int .i64)] (fun (R4 : Sl -> Value -> Sl -> Int -> Int -> H -> Prop) => (fun (s2_5 : Sl) (v6 : Value) (x7 : Sl) (x8 : Int) (x9 : Int) => brW (decide ((x9 : Int) < x8)) (ptrW x7.base (fun b10 o11 => ifW (0 <= x9 /\ x9 < ((x7.len : Nat) : Int))
 (rdT (rdA 4 b10 (o11 + x9.toNat * 4)) (.one (.agg [.str, .slc, .str, .str])) (fun (x12 : ByteArray) (x13 : Sl) (x14 : ByteArray) (x15 : ByteArray) => alW (.cells ⟨[.string ⟨⟨[]⟩⟩, .slice none 0 0, .string ⟨⟨[]⟩⟩, .string ⟨⟨[]⟩⟩]⟩ 38 (0, 0)) (fun b16 => stW Tryz.prog 38 (.pointer (some ⟨b16, 0, none⟩)) (.agg ⟨[.string x12, .slice x13.base x13.len x13.cap, .string x14, .string x15]⟩) (ptrW s2_5.base (fun b17 o18 =>
 ifW (0 <= x9 /\ x9 < ((s2_5.len : Nat) : Int)) (rdT (rdA 4 b17 (o18 + x9.toNat * 4)) (.one (.agg [.str, .slc, .str, .str])) (fun (x19 : ByteArray) (x20 : Sl) (x21 : ByteArray) (x22 : ByteArray) => alW (.cells ⟨[.string ⟨⟨[]⟩⟩, .slice none 0 0, .string ⟨⟨[]⟩⟩, .string ⟨⟨[]⟩⟩]⟩ 38 (0, 0)) (fun b23 =>
 stW Tryz.prog 38 (.pointer (some ⟨b23, 0, none⟩)) (.agg ⟨[.string x19, .slice x20.base x20.len x20.cap, .string x21, .string x22]⟩) (rdT (rdA 4 b16 0) (.one (.agg [.str, .slc, .str, .str])) (fun (x24 : ByteArray) (x25 : Sl) (x26 : ByteArray) (x27 : ByteArray) => rdT (rdA 4 b23 0) (.one (.agg [.str, .slc, .str, .str])) (fun (x28 : ByteArray) (x29 : Sl) (x30 : ByteArray) (x31 : ByteArray) =>
 cvalT Tryz.prog v6 [.agg ⟨[.string x24, .slice x25.base x25.len x25.cap, .string x26, .string x27]⟩, .agg ⟨[.string x28, .slice x29.base x29.len x29.cap, .string x30, .string x31]⟩] kB (fun x32 => brW (!x32) (K (.bool false)) (R4 s2_5 v6 x7 x8 (IntKind.i64.wrap (x9 + 1))))))))))))))))) (K (.bool true)))) (fun (R33 : Sl -> Value -> Sl -> Int -> Int -> H -> Prop) => R33 s2_2 v3 s1_1 ((s1_1.len : Nat) : Int) 0))
theorem c37 (s1_1 : Sl) (s2_2 : Sl) (v3 : Value) {K : KH} {σ : H} : g37 s1_1 s2_2 v3 K σ -> callW Tryz.prog 37 [.slice s1_1.base s1_1.len s1_1.cap, .slice s2_2.base s2_2.len s2_2.cap, v3] K σ := call_k an37 Tryz.func37 (by kernel_rfl)


def an38 : Ann := (.q (.q .z))
def g38 (v1 : ByteArray) (v2 : Sl) (v3 : ByteArray) (v4 : ByteArray) (v5 : ByteArray) (v6 : Sl) (v7 : ByteArray) (v8 : ByteArray) (K : KH) : H -> Prop :=
 alW (.cells ⟨[.string v1, .slice v2.base v2.len v2.cap, .string v3, .string v4]⟩ 38 (0, 0)) (fun b9 => alW (.cells ⟨[.string v5, .slice v6.base v6.len v6.cap, .string v7, .string v8]⟩ 38 (0, 0)) (fun b10 => rdT (rdC b9 0) kS (fun (x11 : ByteArray) => rdT (rdC b10 0) kS (fun (x12 : ByteArray) => brW (strEq x11 x12) (rdT (rdC b9 2) kS (fun (x13 : ByteArray) => rdT (rdC b10 2) kS (fun (x14 : ByteArray) => brW (strEq x13 x14) (rdT (rdC b9 3) kS (fun (x15 : ByteArray) =>
 rdT (rdC b10 3) kS (fun (x16 : ByteArray) => brW (strEq x15 x16) (rdT (rdC b9 1) kL (fun x17 => rdT (rdC b10 1) kL (fun x18 => callT Tryz.prog 39 [.slice x17.base x17.len x17.cap, .slice x18.base x18.len x18.cap] kB (fun x19 => K (.bool x19))))) (K (.bool false))))) (K (.bool false))))) (K (.bool false))))))
theorem c38 (v1 : ByteArray) (v2 : Sl) (v3 : ByteArray) (v4 : ByteArray) (v5 : ByteArray) (v6 : Sl) (v7 : ByteArray) (v8 : ByteArray) {K : KH} {σ : H} : g38 v1 v2 v3 v4 v5 v6 v7 v8 K σ -> callW Tryz.prog 38 [.agg ⟨[.string v1, .slice v2.base v2.len v2.cap, .string v3, .string v4]⟩, .agg ⟨[.string v5, .slice v6.base v6.len v6.cap, .string v7, .string v8]⟩] K σ := call_k an38 Tryz.func38 (by kernel_rfl)


def an39 : Ann := (.q (.n (.q (.h)) (.n (.q (.blk (.loop [(0,.l),(1,.l),(12,.i),(13,.i)] (.q (.n (.cond .z .z) (.n (.blk (.q (.n (.reg (rn 9) [[],[],[0,1],[0,1,2],[],[],[4,5],[4,5,6],(rn 8)]) (.h)))) .r)))))) (.q .z))))
def g39 (s1_1 : Sl) (s2_2 : Sl) (K : KH) : H -> Prop :=
 brW (((s1_1.len : Nat) : Int) != ((s2_2.len : Nat) : Int)) (K (.bool false)) (loopW [.sc .slc, .sc .slc, .sc (.int .i64), .sc (.int .i64)] (fun (R3 : Sl -> Sl -> Int -> Int -> H -> Prop) => (fun (s1_4 : Sl) (s2_5 : Sl) (x6 : Int) (x7 : Int) => brW (decide ((x7 : Int) < x6)) (ptrW s1_4.base (fun b8 o9 => ifW (0 <= x7 /\ x7 < ((s1_4.len : Nat) : Int)) (rdT (rdC b8 (o9 + x7.toNat * 1)) kS (fun (x10 : ByteArray) => ptrW s2_5.base (fun b11 o12 => ifW (0 <= x7 /\ x7 < ((s2_5.len : Nat) : Int))
 (rdT (rdC b11 (o12 + x7.toNat * 1)) kS (fun (x13 : ByteArray) => brW (!strEq x10 x13) (K (.bool false)) (R3 s1_4 s2_5 x6 (IntKind.i64.wrap (x7 + 1)))))))))) (K (.bool true)))) (fun (R14 : Sl -> Sl -> Int -> Int -> H -> Prop) => R14 s1_1 s2_2 ((s1_1.len : Nat) : Int) 0))
theorem c39 (s1_1 : Sl) (s2_2 : Sl) {K : KH} {σ : H} : g39 s1_1 s2_2 K σ -> callW Tryz.prog 39 [.slice s1_1.base s1_1.len s1_1.cap, .slice s2_2.base s2_2.len s2_2.cap] K σ := call_k an39 Tryz.func39 (by kernel_rfl)


def an41 : Ann := (.q (.n (.q (.q (.h))) (.q (.q (.n (.q (.h)) (.q .z))))))
def g41 (v1 : ByteArray) (v2 : Int) (v3 : Bool) (v4 : ByteArray) (v5 : Sl) (K : KH) : H -> Prop :=
 alW (.cells ⟨[.string v1, .int .i64 v2, .bool v3, .string v4, .slice v5.base v5.len v5.cap]⟩ 75 (0, 0)) (fun b6 => rdT (rdA 5 b6 0) (.one (.agg [.str, (.int .i64), .bool, .str, .slc])) (fun (x7 : ByteArray) (x8 : Int) (x9 : Bool) (x10 : ByteArray) (x11 : Sl) => callT Tryz.prog 70 [.agg ⟨[.string x7, .int .i64 x8, .bool x9, .string x10, .slice x11.base x11.len x11.cap]⟩] kI (fun (x12 : Int) => brW ((x12 : Int) != 0) (K (.tuple ⟨[.string ⟨⟨[]⟩⟩, .int .i64 x12]⟩))
 (callT Tryz.prog 71 [.string ⟨⟨[]⟩⟩, .string ⟨⟨[119, 104, 105, 115, 107, 45, 116, 114, 101, 101]⟩⟩] kS (fun (x13 : ByteArray) => alW (.cells ⟨[.string x13]⟩ 93 (0, 0)) (fun b14 => rdT (rdA 5 b6 0) (.one (.agg [.str, (.int .i64), .bool, .str, .slc])) (fun (x15 : ByteArray) (x16 : Int) (x17 : Bool) (x18 : ByteArray) (x19 : Sl) =>
 callT Tryz.prog 72 [.pointer (some ⟨b14, 0, none⟩), .agg ⟨[.string x15, .int .i64 x16, .bool x17, .string x18, .slice x19.base x19.len x19.cap]⟩] kU (rdT (rdC b14 0) kS (fun (x20 : ByteArray) => brW (decide (((x20.size : Nat) : Int) > 60000)) (K (.tuple ⟨[.string ⟨⟨[]⟩⟩, .int .i64 3]⟩)) (rdT (rdC b14 0) kS (fun (x21 : ByteArray) => K (.tuple ⟨[.string x21, .int .i64 0]⟩))))))))))))
theorem c41 (v1 : ByteArray) (v2 : Int) (v3 : Bool) (v4 : ByteArray) (v5 : Sl) {K : KH} {σ : H} : g41 v1 v2 v3 v4 v5 K σ -> callW Tryz.prog 41 [.agg ⟨[.string v1, .int .i64 v2, .bool v3, .string v4, .slice v5.base v5.len v5.cap]⟩] K σ := call_k an41 Tryz.func41 (by kernel_rfl)


def an42 : Ann := (.q (.n (.q (.q (.h))) (.n (.q (.q (.h))) (.q .z))))
def g42 (v1 : ByteArray) (v2 : ByteArray) (K : KH) : H -> Prop :=
 callT Tryz.prog 73 [.string v2] kI (fun (x3 : Int) => brW ((x3 : Int) != 0) (K (.tuple ⟨[.string ⟨⟨[]⟩⟩, .int .i64 x3]⟩)) (callT Tryz.prog 53 [.string v1] (.tup [.agg [.str, (.int .i64), .bool, .str, .slc], .sc (.int .i64)]) (fun (x4 : ByteArray) (x5 : Int) (x6 : Bool) (x7 : ByteArray) (x8 : Sl) (x9 : Int) => alW (.cells ⟨[.string ⟨⟨[]⟩⟩, .int .i64 0, .bool false, .string ⟨⟨[]⟩⟩, .slice none 0 0]⟩ 75 (0, 0)) (fun b10 =>
 stW Tryz.prog 75 (.pointer (some ⟨b10, 0, none⟩)) (.agg ⟨[.string x4, .int .i64 x5, .bool x6, .string x7, .slice x8.base x8.len x8.cap]⟩) (brW ((x9 : Int) != 0) (K (.tuple ⟨[.string ⟨⟨[]⟩⟩, .int .i64 x9]⟩)) (callT Tryz.prog 71 [.string ⟨⟨[97, 100, 100, 58]⟩⟩, .string v1] kS (fun (x11 : ByteArray) => callT Tryz.prog 71 [.string x11, .string v2] kS (fun (x12 : ByteArray) => callT Tryz.prog 75 [.string x12] kS (fun (x13 : ByteArray) =>
 callT Tryz.prog 74 [.string x13, .string v2] (.tup [.sc .str, .sc (.int .i64)]) (fun (x14 : ByteArray) (x15 : Int) => K (.tuple ⟨[.string x14, .int .i64 x15]⟩)))))))))))
theorem c42 (v1 : ByteArray) (v2 : ByteArray) {K : KH} {σ : H} : g42 v1 v2 K σ -> callW Tryz.prog 42 [.string v1, .string v2] K σ := call_k an42 Tryz.func42 (by kernel_rfl)


def an43 : Ann := (.q (.n (.q (.blk (.loop [(0,.l),(3,.i)] (.n (.q (.cond .z .z)) (.n (.blk (.n (.reg (rn 10) [[],[],[1],[0,1,2],(rn 4),[],[],[5,6],[5,6,7],(rn 9)]) (.h))) .r))))) (.q .z)))
def g43 (v1 : Sl) (K : KH) : H -> Prop :=
 loopW [.sc .slc, .sc (.int .i64)] (fun (R2 : Sl -> Int -> H -> Prop) => (fun (v3 : Sl) (v4 : Int) => brW (decide ((v4 : Int) < ((v3.len : Nat) : Int))) (ptrW v3.base (fun b5 o6 => ifW (0 <= IntKind.i64.wrap (v4 - 1) /\ IntKind.i64.wrap (v4 - 1) < ((v3.len : Nat) : Int)) (rdT (rdC b5 (o6 + (IntKind.i64.wrap (v4 - 1) : Int).toNat * 1)) kS (fun (x7 : ByteArray) => ptrW v3.base (fun b8 o9 => ifW (0 <= v4 /\ v4 < ((v3.len : Nat) : Int))
 (rdT (rdC b8 (o9 + v4.toNat * 1)) kS (fun (x10 : ByteArray) => brW (!strLt x7 x10) (K (.bool false)) (R2 v3 (IntKind.i64.wrap (v4 + 1)))))))))) (K (.bool true)))) (fun (R11 : Sl -> Int -> H -> Prop) => R11 v1 1)
theorem c43 (v1 : Sl) {K : KH} {σ : H} : g43 v1 K σ -> callW Tryz.prog 43 [.slice v1.base v1.len v1.cap] K σ := call_k an43 Tryz.func43 (by kernel_rfl)


def an44 : Ann := (.q (.q .z))
def g44 (v1 : Sl) (v2 : Sl) (v3 : Option Nat) (v4 : Value) (K : KH) : H -> Prop :=
 alW (.cells ⟨[.slice v1.base v1.len v1.cap, .slice v2.base v2.len v2.cap, .map v3]⟩ 55 (0, 0)) (fun b5 => oneK v4 (alW (.cells ⟨[v4]⟩ 81 (0, 0)) (fun b6 => rdT (rdC b5 0) kL (fun x7 => callT Tryz.prog 76 [.slice x7.base x7.len x7.cap, .func (.func 77) ⟨[]⟩ ⟨[.pointer (some ⟨b6, 0, none⟩)]⟩] kB (fun x8 => K (.bool (!x8)))))))
theorem c44 (v1 : Sl) (v2 : Sl) (v3 : Option Nat) (v4 : Value) {K : KH} {σ : H} : g44 v1 v2 v3 v4 K σ -> callW Tryz.prog 44 [.agg ⟨[.slice v1.base v1.len v1.cap, .slice v2.base v2.len v2.cap, .map v3]⟩, v4] K σ := call_k an44 Tryz.func44 (by kernel_rfl)


def an45 : Ann := (.q (.q .z))
def g45 (v1 : ByteArray) (v2 : Sl) (v3 : ByteArray) (v4 : ByteArray) (K : KH) : H -> Prop :=
 alW (.cells ⟨[.string v1, .slice v2.base v2.len v2.cap, .string v3, .string v4]⟩ 38 (0, 0)) (fun b5 => rdT (rdC b5 0) kS (fun (x6 : ByteArray) => callT Tryz.prog 46 [.string x6] kB (fun x7 => brW x7 (rdT (rdC b5 1) kL (fun x8 => callT Tryz.prog 43 [.slice x8.base x8.len x8.cap] kB (fun x9 => brW x9 (rdT (rdC b5 1) kL (fun x10 => callT Tryz.prog 47 [.slice x10.base x10.len x10.cap, .func (.func 48) ⟨[]⟩ ⟨[]⟩] kB (fun x11 => K (.bool (!x11))))) (K (.bool false))))) (K (.bool false)))))
theorem c45 (v1 : ByteArray) (v2 : Sl) (v3 : ByteArray) (v4 : ByteArray) {K : KH} {σ : H} : g45 v1 v2 v3 v4 K σ -> callW Tryz.prog 45 [.agg ⟨[.string v1, .slice v2.base v2.len v2.cap, .string v3, .string v4]⟩] K σ := call_k an45 Tryz.func45 (by kernel_rfl)


def an46 : Ann := (.q (.q (.q .z)))
def g46 (v1 : ByteArray) (K : KH) : H -> Prop :=
 callT Tryz.prog 56 [.string v1] (.tup [.sc .str, .sc .str, .sc (.int .i64)]) (fun (_x2 : ByteArray) (_x3 : ByteArray) (x4 : Int) => K (.bool ((x4 : Int) == 0)))
theorem c46 (v1 : ByteArray) {K : KH} {σ : H} : g46 v1 K σ -> callW Tryz.prog 46 [.string v1] K σ := call_k an46 Tryz.func46 (by kernel_rfl)


def an47 : Ann := (.q (.q .z))
def g47 (v1 : Sl) (v2 : Value) (K : KH) : H -> Prop :=
 callT Tryz.prog 78 [.slice v1.base v1.len v1.cap, v2] kI (fun (x3 : Int) => K (.bool (decide ((x3 : Int) >= 0))))
theorem c47 (v1 : Sl) (v2 : Value) {K : KH} {σ : H} : g47 v1 v2 K σ -> callW Tryz.prog 47 [.slice v1.base v1.len v1.cap, v2] K σ := call_k an47 Tryz.func47 (by kernel_rfl)


def an48 : Ann := (.q (.q .z))
def g48 (v1 : ByteArray) (K : KH) : H -> Prop :=
 callT Tryz.prog 46 [.string v1] kB (fun x2 => K (.bool (!x2)))
theorem c48 (v1 : ByteArray) {K : KH} {σ : H} : g48 v1 K σ -> callW Tryz.prog 48 [.string v1] K σ := call_k an48 Tryz.func48 (by kernel_rfl)


def an49 : Ann := (.q (.q .z))
def g49 (v1 : ByteArray) (v2 : Sl) (v3 : ByteArray) (v4 : ByteArray) (x5 : Option Addr) (K : KH) : H -> Prop :=
 alW (.cells ⟨[.string v1, .slice v2.base v2.len v2.cap, .string v3, .string v4]⟩ 38 (0, 0)) (fun b6 => rdT (rdC b6 1) kL (fun x7 => callT Tryz.prog 47 [.slice x7.base x7.len x7.cap, .func (.func 50) ⟨[]⟩ ⟨[.pointer x5]⟩] kB (fun x8 => K (.bool (!x8)))))
theorem c49 (v1 : ByteArray) (v2 : Sl) (v3 : ByteArray) (v4 : ByteArray) (x5 : Option Addr) {K : KH} {σ : H} : g49 v1 v2 v3 v4 x5 K σ -> callW Tryz.prog 49 [.agg ⟨[.string v1, .slice v2.base v2.len v2.cap, .string v3, .string v4]⟩, .pointer x5] K σ := call_k an49 Tryz.func49 (by kernel_rfl)


def an50 : Ann := (.q (.q .z))
def g50 (v1 : ByteArray) (x2 : Option Addr) (K : KH) : H -> Prop :=
 ptrW x2 (fun b3 o4 => rdT (rdA 3 b3 o4) (.one (.agg [.slc, .slc, .map])) (fun (x5 : Sl) (x6 : Sl) (x7 : Option Nat) => callT Tryz.prog 33 [.agg ⟨[.slice x5.base x5.len x5.cap, .slice x6.base x6.len x6.cap, .map x7]⟩, .string v1] kB (fun x8 => K (.bool (!x8)))))
theorem c50 (v1 : ByteArray) (x2 : Option Addr) {K : KH} {σ : H} : g50 v1 x2 K σ -> callW Tryz.prog 50 [.string v1, .pointer x2] K σ := call_k an50 Tryz.func50 (by kernel_rfl)


def an51 : Ann := (.q (.q .z))
def g51 (v1 : ByteArray) (x2 : Option Addr) (K : KH) : H -> Prop :=
 ptrW x2 (fun b3 o4 => rdT (rdA 3 b3 o4) (.one (.agg [.slc, .slc, .map])) (fun (x5 : Sl) (x6 : Sl) (x7 : Option Nat) => callT Tryz.prog 33 [.agg ⟨[.slice x5.base x5.len x5.cap, .slice x6.base x6.len x6.cap, .map x7]⟩, .string v1] kB (fun x8 => K (.bool (!x8)))))
theorem c51 (v1 : ByteArray) (x2 : Option Addr) {K : KH} {σ : H} : g51 v1 x2 K σ -> callW Tryz.prog 51 [.string v1, .pointer x2] K σ := call_k an51 Tryz.func51 (by kernel_rfl)


def an52 : Ann := (.q (.q (.n (.q (.h)) (.q (.q .z)))))
def g52 (v1 : ByteArray) (v2 : Sl) (v3 : ByteArray) (v4 : ByteArray) (K : KH) : H -> Prop :=
 alW (.cells ⟨[.string v1, .slice v2.base v2.len v2.cap, .string v3, .string v4]⟩ 38 (0, 0)) (fun b5 => rdT (rdC b5 2) kS (fun (x6 : ByteArray) => callT Tryz.prog 53 [.string x6] (.tup [.agg [.str, (.int .i64), .bool, .str, .slc], .sc (.int .i64)]) (fun (x7 : ByteArray) (x8 : Int) (x9 : Bool) (x10 : ByteArray) (x11 : Sl) (x12 : Int) => alW (.cells ⟨[.string ⟨⟨[]⟩⟩, .int .i64 0, .bool false, .string ⟨⟨[]⟩⟩, .slice none 0 0]⟩ 75 (0, 0)) (fun b13 =>
 stW Tryz.prog 75 (.pointer (some ⟨b13, 0, none⟩)) (.agg ⟨[.string x7, .int .i64 x8, .bool x9, .string x10, .slice x11.base x11.len x11.cap]⟩) (brW ((x12 : Int) != 0) (K (.bool false)) (rdT (rdA 5 b13 0) (.one (.agg [.str, (.int .i64), .bool, .str, .slc])) (fun (x14 : ByteArray) (x15 : Int) (x16 : Bool) (x17 : ByteArray) (x18 : Sl) =>
 callT Tryz.prog 41 [.agg ⟨[.string x14, .int .i64 x15, .bool x16, .string x17, .slice x18.base x18.len x18.cap]⟩] (.tup [.sc .str, .sc (.int .i64)]) (fun (x19 : ByteArray) (x20 : Int) => brW ((x20 : Int) == 0) (rdT (rdC b5 2) kS (fun (x21 : ByteArray) => K (.bool (strEq x19 x21)))) (K (.bool false))))))))))
theorem c52 (v1 : ByteArray) (v2 : Sl) (v3 : ByteArray) (v4 : ByteArray) {K : KH} {σ : H} : g52 v1 v2 v3 v4 K σ -> callW Tryz.prog 52 [.agg ⟨[.string v1, .slice v2.base v2.len v2.cap, .string v3, .string v4]⟩] K σ := call_k an52 Tryz.func52 (by kernel_rfl)


def an54 : Ann := (.q (.q (.q .z)))
def g54 (v1 : ByteArray) (v2 : Sl) (v3 : ByteArray) (v4 : ByteArray) (K : KH) : H -> Prop :=
 alW (.cells ⟨[.string v1, .slice v2.base v2.len v2.cap, .string v3, .string v4]⟩ 38 (0, 0)) (fun b5 => rdT (rdC b5 2) kS (fun (x6 : ByteArray) => callT Tryz.prog 53 [.string x6] (.tup [.agg [.str, (.int .i64), .bool, .str, .slc], .sc (.int .i64)]) (fun (x7 : ByteArray) (x8 : Int) (x9 : Bool) (x10 : ByteArray) (x11 : Sl) (_x12 : Int) => alW (.cells ⟨[.string ⟨⟨[]⟩⟩, .int .i64 0, .bool false, .string ⟨⟨[]⟩⟩, .slice none 0 0]⟩ 75 (0, 0)) (fun b13 =>
 stW Tryz.prog 75 (.pointer (some ⟨b13, 0, none⟩)) (.agg ⟨[.string x7, .int .i64 x8, .bool x9, .string x10, .slice x11.base x11.len x11.cap]⟩) (rdT (rdC b5 1) kL (fun x14 => callT Tryz.prog 47 [.slice x14.base x14.len x14.cap, .func (.func 55) ⟨[]⟩ ⟨[.pointer (some ⟨b13, 0, none⟩)]⟩] kB (fun x15 => K (.bool (!x15)))))))))
theorem c54 (v1 : ByteArray) (v2 : Sl) (v3 : ByteArray) (v4 : ByteArray) {K : KH} {σ : H} : g54 v1 v2 v3 v4 K σ -> callW Tryz.prog 54 [.agg ⟨[.string v1, .slice v2.base v2.len v2.cap, .string v3, .string v4]⟩] K σ := call_k an54 Tryz.func54 (by kernel_rfl)


def an55 : Ann := (.q (.q (.q .z)))
def g55 (v1 : ByteArray) (x2 : Option Addr) (K : KH) : H -> Prop :=
 callT Tryz.prog 56 [.string v1] (.tup [.sc .str, .sc .str, .sc (.int .i64)]) (fun (x3 : ByteArray) (_x4 : ByteArray) (_x5 : Int) => ptrW x2 (fun b6 o7 => rdT (rdA 5 b6 o7) (.one (.agg [.str, (.int .i64), .bool, .str, .slc])) (fun (x8 : ByteArray) (x9 : Int) (x10 : Bool) (x11 : ByteArray) (x12 : Sl) => alW (.cells ⟨[.string x3]⟩ 9 (0, 0)) (fun b13 =>
 callT Tryz.prog 57 [.agg ⟨[.string x8, .int .i64 x9, .bool x10, .string x11, .slice x12.base x12.len x12.cap]⟩, .slice (some ⟨b13, 0, none⟩) 1 1] kL (fun x14 => K (.bool (((x14.len : Nat) : Int) == 0)))))))
theorem c55 (v1 : ByteArray) (x2 : Option Addr) {K : KH} {σ : H} : g55 v1 x2 K σ -> callW Tryz.prog 55 [.string v1, .pointer x2] K σ := call_k an55 Tryz.func55 (by kernel_rfl)


def an56 : Ann := (.q (.n (.seq (some [(0,.s),(12,.b)]) .r (.h)) (.n (.reg (rn 6) [[],[0],[],[2],[0,1],(rn 5)]) (.n (.seq (some [(2,.s),(3,.s),(24,.b)]) .r (.h)) (.q .z)))))
def g56 (v1 : ByteArray) (K : KH) : H -> Prop :=
 letJ (T := ByteArray -> Bool -> H -> Prop) (fun v3 x4 => brW x4 (K (.tuple ⟨[.string ⟨⟨[]⟩⟩, .string ⟨⟨[]⟩⟩, .int .i64 4]⟩)) (ifW (bndOk (some 32) v3.size /\ bndOk none ((32 : Int).toNat)) (ifW (bndOk none v3.size /\ bndOk (some 33) (v3.size)) (letJ (T := ByteArray -> ByteArray -> Bool -> H -> Prop) (fun v6 v7 x8 => brW x8 (K (.tuple ⟨[.string ⟨⟨[]⟩⟩, .string ⟨⟨[]⟩⟩, .int .i64 4]⟩))
 (K (.tuple ⟨[.string v6, .string v7, .int .i64 0]⟩))) (fun j5 => callT Tryz.prog 85 [.string (v3.extract 0 ((32 : Int).toNat))] kB (fun x9 => brW (!x9) (j5 (v3.extract 0 ((32 : Int).toNat)) (v3.extract ((33 : Int).toNat) v3.size) true) (callT Tryz.prog 73 [.string (v3.extract ((33 : Int).toNat) v3.size)] kI (fun (x10 : Int) => j5 (v3.extract 0 ((32 : Int).toNat)) (v3.extract ((33 : Int).toNat) v3.size) ((x10 : Int) != 0))))))))) (fun j2 =>
 brW (decide (((v1.size : Nat) : Int) <= 32)) (j2 v1 true) (idxW v1 32 (fun c11 => j2 v1 ((c11.toNat : Int) != 45))))
theorem c56 (v1 : ByteArray) {K : KH} {σ : H} : g56 v1 K σ -> callW Tryz.prog 56 [.string v1] K σ := call_k an56 Tryz.func56 (by kernel_rfl)

end Go.Proofs.YtgfiobhpipollaaGreatDoor

set_option maxRecDepth 100000
namespace Go.Proofs.YtgfiobhpipollaaGreatDoor
open Go Go.HL
def an57 : Ann := (.q (.n (.q (.h)) (.q (.n (.q (.blk (.loop [(2,.p),(4,.l),(5,.p),(18,.l),(19,.i),(20,.i)] (.q (.n (.cond .z .z) (.seq (some [(2,.p),(4,.l),(5,.p),(18,.l),(19,.i),(20,.i)]) (.blk (.q (.q (.q (.cond .r .z))))) .r)))))) (.q (.q (.seq (some [(10,.p)]) (.q (.blk (.rf [.s] .r (.blk (.q (.blk (.loop [(5,.p),(11,.p),(12,.s),(13,.i)] (.n (.seq (some [(5,.p),(11,.p),(12,.s),(13,.i),(47,.b)]) .r (.cond .z .z)) (.n (.blk (.reg (rn 7) [[],[],[],[],[3],[1,2,3,4],(rn 6)])) .r))))))))) (.q (.q .z)))))))))
def g57 (v1 : ByteArray) (v2 : Int) (v3 : Bool) (v4 : ByteArray) (v5 : Sl) (v6 : Sl) (K : KH) : H -> Prop :=
 alW (.cells ⟨[.string v1, .int .i64 v2, .bool v3, .string v4, .slice v5.base v5.len v5.cap]⟩ 75 (0, 0)) (fun b7 => rdT (rdA 5 b7 0) (.one (.agg [.str, (.int .i64), .bool, .str, .slc])) (fun (x8 : ByteArray) (x9 : Int) (x10 : Bool) (x11 : ByteArray) (x12 : Sl) => callT Tryz.prog 70 [.agg ⟨[.string x8, .int .i64 x9, .bool x10, .string x11, .slice x12.base x12.len x12.cap]⟩] kI (fun (x13 : Int) => brW ((x13 : Int) != 0) (K (.slice none 0 0)) (alW (.map #[] 0) (fun b14 =>
 alW (.cells ⟨[.map none]⟩ 39 (0, 0)) (fun b15 => stW Tryz.prog 39 (.pointer (some ⟨b15, 0, none⟩)) (.map (some b14)) (loopW [.sc .ptr, .sc .slc, .sc .ptr, .sc .slc, .sc (.int .i64), .sc (.int .i64)] (fun (R16 : Option Addr -> Sl -> Option Addr -> Sl -> Int -> Int -> H -> Prop) => (fun (v17 : Option Addr) (x18 : Sl) (v19 : Option Addr) (x20 : Sl) (x21 : Int) (x22 : Int) => brW (decide ((x22 : Int) < x21))
 (letJ (T := Option Addr -> Sl -> Option Addr -> Sl -> Int -> Int -> H -> Prop) (fun v24 x25 v26 x27 x28 x29 => R16 v24 x25 v26 x27 x28 (IntKind.i64.wrap (x29 + 1))) (fun j23 => ptrW x20.base (fun b30 o31 => ifW (0 <= x22 /\ x22 < ((x20.len : Nat) : Int)) (rdT (rdC b30 (o31 + x22.toNat * 1)) kS (fun (x32 : ByteArray) => callT Tryz.prog 74 [.string x32, .string ⟨⟨[120]⟩⟩] (.tup [.sc .str, .sc (.int .i64)]) (fun (_x33 : ByteArray) (x34 : Int) => brW ((x34 : Int) == 0)
 (ptrW v19 (fun b35 o36 => rdT (rdC b35 o36) kM (fun (x37 : Option Nat) => muW Tryz.prog 39 (.map x37) (.string x32) (.int .i64 1) (j23 v17 x18 v19 x20 x21 x22)))) (j23 v17 x18 v19 x20 x21 x22))))))) (alW (.cells ⟨[.slice none 0 0]⟩ 23 (0, 0)) (fun b38 => alW (.cells ⟨[.nilFunc]⟩ 60 (0, 0)) (fun b39 => stW Tryz.prog 60 (.pointer (some ⟨b39, 0, none⟩)) (.func (.func 86) ⟨[]⟩ ⟨[.pointer v19, .pointer (some ⟨b38, 0, none⟩)]⟩) (letJ (T := Option Addr -> H -> Prop) (fun v41 =>
 ptrW v41 (fun b42 o43 => rdT (rdC b42 o43) kL (fun x44 => callT Tryz.prog 67 [.slice x44.base x44.len x44.cap] kU (ptrW v41 (fun b45 o46 => rdT (rdC b45 o46) kL (fun x47 => K (.slice x47.base x47.len x47.cap))))))) (fun j40 => ptrW v17 (fun b48 o49 => rdT (rdA 5 b48 o49) (.one (.agg [.str, (.int .i64), .bool, .str, .slc])) (fun (x50 : ByteArray) (x51 : Int) (x52 : Bool) (x53 : ByteArray) (x54 : Sl) =>
 callT Tryz.prog 87 [.agg ⟨[.string x50, .int .i64 x51, .bool x52, .string x53, .slice x54.base x54.len x54.cap]⟩] kR (fun x55 => funW x55 (fun (g80 : FuncId) (as81 cs82 : List Value) => rfW Tryz.prog none g80 as81 cs82 [.sc .str] (fun (l56 : Nat) (obj57 : LoopState -> Option Code -> Obj) (K58 : Value -> H -> Prop) => (fun (x59 : ByteArray) =>
 begW l56 obj57 (loopW [.sc .ptr, .sc .ptr, .sc .str, .sc (.int .i64)] (fun (R60 : Option Addr -> Option Addr -> ByteArray -> Int -> H -> Prop) => (fun (v61 : Option Addr) (v62 : Option Addr) (v63 : ByteArray) (v64 : Int) => letJ (T := Option Addr -> Option Addr -> ByteArray -> Int -> Bool -> H -> Prop) (fun v66 v67 v68 v69 x70 => brW x70 (ptrW v67 (fun b71 o72 => rdT (rdC b71 o72) kR (fun x73 =>
 ifW (bndOk (some (IntKind.i64.wrap (v69 + 32))) v68.size /\ bndOk (some v69) ((IntKind.i64.wrap (v69 + 32)).toNat)) (cvalT Tryz.prog x73 [.string (v68.extract v69.toNat ((IntKind.i64.wrap (v69 + 32)).toNat))] kU (R60 v66 v67 v68 (IntKind.i64.wrap (v69 + 1))))))) (roundK l56 obj57 K58 none true .ready)) (fun j65 => brW (decide (((IntKind.i64.wrap (v64 + 32)) : Int) <= ((v63.size : Nat) : Int))) (ptrW v61 (fun b74 o75 => rdT (rdC b74 o75) kM (fun (x76 : Option Nat) =>
 rdT (rdLen x76) kI (fun (x77 : Int) => j65 v61 v62 v63 v64 (decide ((x77 : Int) > 0)))))) (j65 v61 v62 v63 v64 false)))) (fun (R78 : Option Addr -> Option Addr -> ByteArray -> Int -> H -> Prop) => R78 v19 (some ⟨b39, 0, none⟩) x59 0)))) (j40 (some ⟨b38, 0, none⟩)) (fun i79 => exW i79 2 (j40 (some ⟨b38, 0, none⟩)) (nW))
 (K (.slice x18.base x18.len x18.cap))))))))))))) (fun (R83 : Option Addr -> Sl -> Option Addr -> Sl -> Int -> Int -> H -> Prop) => R83 (some ⟨b7, 0, none⟩) ⟨none, 0, 0⟩ (some ⟨b15, 0, none⟩) v6 ((v6.len : Nat) : Int) 0))))))))
theorem c57 (v1 : ByteArray) (v2 : Int) (v3 : Bool) (v4 : ByteArray) (v5 : Sl) (v6 : Sl) {K : KH} {σ : H} : g57 v1 v2 v3 v4 v5 v6 K σ -> callW Tryz.prog 57 [.agg ⟨[.string v1, .int .i64 v2, .bool v3, .string v4, .slice v5.base v5.len v5.cap]⟩, .slice v6.base v6.len v6.cap] K σ := call_k an57 Tryz.func57 (by kernel_rfl)


def an58 : Ann := (.q (.q (.q .z)))
def g58 (v1 : ByteArray) (v2 : Sl) (v3 : ByteArray) (v4 : ByteArray) (K : KH) : H -> Prop :=
 alW (.cells ⟨[.string v1, .slice v2.base v2.len v2.cap, .string v3, .string v4]⟩ 38 (0, 0)) (fun b5 => rdT (rdA 4 b5 0) (.one (.agg [.str, .slc, .str, .str])) (fun (x6 : ByteArray) (x7 : Sl) (x8 : ByteArray) (x9 : ByteArray) => callT Tryz.prog 59 [.agg ⟨[.string x6, .slice x7.base x7.len x7.cap, .string x8, .string x9]⟩] kS (fun (x10 : ByteArray) => brW (!strEq x10 (⟨⟨[]⟩⟩ : ByteArray)) (rdT (rdC b5 0) kS (fun (x11 : ByteArray) => K (.bool (strEq x10 x11)))) (K (.bool false)))))
theorem c58 (v1 : ByteArray) (v2 : Sl) (v3 : ByteArray) (v4 : ByteArray) {K : KH} {σ : H} : g58 v1 v2 v3 v4 K σ -> callW Tryz.prog 58 [.agg ⟨[.string v1, .slice v2.base v2.len v2.cap, .string v3, .string v4]⟩] K σ := call_k an58 Tryz.func58 (by kernel_rfl)


def an59 : Ann := (.q (.n (.q (.cond (.q (.q (.q .z))) .z)) (.q (.n (.q (.h)) (.q (.q .z))))))
def g59 (v1 : ByteArray) (v2 : Sl) (v3 : ByteArray) (v4 : ByteArray) (K : KH) : H -> Prop :=
 alW (.cells ⟨[.string v1, .slice v2.base v2.len v2.cap, .string v3, .string v4]⟩ 38 (0, 0)) (fun b5 => rdT (rdC b5 3) kS (fun (x6 : ByteArray) => brW (strEq x6 (⟨⟨[]⟩⟩ : ByteArray)) (rdT (rdC b5 0) kS (fun (x7 : ByteArray) => callT Tryz.prog 56 [.string x7] (.tup [.sc .str, .sc .str, .sc (.int .i64)]) (fun (_x8 : ByteArray) (x9 : ByteArray) (_x10 : Int) => rdT (rdC b5 2) kS (fun (x11 : ByteArray) =>
 callT Tryz.prog 42 [.string x11, .string x9] (.tup [.sc .str, .sc (.int .i64)]) (fun (x12 : ByteArray) (_x13 : Int) => K (.string x12)))))) (rdT (rdC b5 3) kS (fun (x14 : ByteArray) => callT Tryz.prog 88 [.string x14] (.tup [.agg [.str, .slc, .slc, .str], .sc .raw]) (fun (x15 : ByteArray) (x16 : Sl) (x17 : Sl) (x18 : ByteArray) (x19 : Value) => alW (.cells ⟨[.string ⟨⟨[]⟩⟩, .slice none 0 0, .slice none 0 0, .string ⟨⟨[]⟩⟩]⟩ 113 (0, 0)) (fun b20 =>
 stW Tryz.prog 113 (.pointer (some ⟨b20, 0, none⟩)) (.agg ⟨[.string x15, .slice x16.base x16.len x16.cap, .slice x17.base x17.len x17.cap, .string x18]⟩) (vaW Tryz.prog (do eqGuard .neq 115 (.tmp 36) (.const (.nilIface)) (x19) (.nilIface); binOp .neq 115 (x19) (.nilIface)) kB (fun x21 => brW x21 (K (.string ⟨⟨[]⟩⟩)) (rdT (rdA 4 b20 0) (.one (.agg [.str, .slc, .slc, .str])) (fun (x22 : ByteArray) (x23 : Sl) (x24 : Sl) (x25 : ByteArray) =>
 callT Tryz.prog 89 [.agg ⟨[.string x22, .slice x23.base x23.len x23.cap, .slice x24.base x24.len x24.cap, .string x25]⟩] (.tup [.sc .str, .sc (.int .i64)]) (fun (x26 : ByteArray) (_x27 : Int) => K (.string x26))))))))))))
theorem c59 (v1 : ByteArray) (v2 : Sl) (v3 : ByteArray) (v4 : ByteArray) {K : KH} {σ : H} : g59 v1 v2 v3 v4 K σ -> callW Tryz.prog 59 [.agg ⟨[.string v1, .slice v2.base v2.len v2.cap, .string v3, .string v4]⟩] K σ := call_k an59 Tryz.func59 (by kernel_rfl)


def an67 : Ann := (.q .r)
def g67 (v1 : Sl) (K : KH) : H -> Prop :=
 callT Tryz.prog 104 [.int .u64 (IntKind.u64.wrap ((v1.len : Nat) : Int))] kI (fun (x2 : Int) => callT Tryz.prog 103 [.slice v1.base v1.len v1.cap, .int .i64 0, .int .i64 ((v1.len : Nat) : Int), .int .i64 x2] kU (K (.tuple ⟨[]⟩)))
theorem c67 (v1 : Sl) {K : KH} {σ : H} : g67 v1 K σ -> callW Tryz.prog 67 [.slice v1.base v1.len v1.cap] K σ := call_k an67 Tryz.func67 (by kernel_rfl)


def an70 : Ann := (.q (.n (.blk (.q (.cond (.q .z) (.seq (some [(1,.p),(8,.b)]) .r (.h))))) (.n (.q (.seq (some [(27,.b)]) .r (.h))) (.q .z))))
def g70 (v1 : ByteArray) (v2 : Int) (v3 : Bool) (v4 : ByteArray) (v5 : Sl) (K : KH) : H -> Prop :=
 alW (.cells ⟨[.string v1, .int .i64 v2, .bool v3, .string v4, .slice v5.base v5.len v5.cap]⟩ 75 (0, 0)) (fun b6 => rdT (rdA 5 b6 0) (.one (.agg [.str, (.int .i64), .bool, .str, .slc])) (fun (x7 : ByteArray) (x8 : Int) (x9 : Bool) (x10 : ByteArray) (x11 : Sl) => callT Tryz.prog 105 [.agg ⟨[.string x7, .int .i64 x8, .bool x9, .string x10, .slice x11.base x11.len x11.cap]⟩] kB (fun x12 => brW x12 (K (.int .i64 3)) (letJ (T := Option Addr -> Bool -> H -> Prop) (fun v14 x15 => brW x15
 (K (.int .i64 2)) (ptrW v14 (fun b16 o17 => rdT (rdA 5 b16 o17) (.one (.agg [.str, (.int .i64), .bool, .str, .slc])) (fun (x18 : ByteArray) (x19 : Int) (x20 : Bool) (x21 : ByteArray) (x22 : Sl) => callT Tryz.prog 107 [.agg ⟨[.string x18, .int .i64 x19, .bool x20, .string x21, .slice x22.base x22.len x22.cap]⟩] (.tup [.sc (.int .i64), .sc (.int .i64)]) (fun (x23 : Int) (x24 : Int) => letJ (T := Bool -> H -> Prop) (fun x26 => brW x26 (K (.int .i64 3)) (K (.int .i64 0))) (fun j25 =>
 brW (decide ((x23 : Int) > 2000)) (j25 true) (j25 (decide ((x24 : Int) > 100000))))))))) (fun j13 => rdT (rdC b6 0) kS (fun (x27 : ByteArray) => brW (!strEq x27 (⟨⟨[]⟩⟩ : ByteArray)) (j13 (some ⟨b6, 0, none⟩) true) (rdT (rdA 5 b6 0) (.one (.agg [.str, (.int .i64), .bool, .str, .slc])) (fun (x28 : ByteArray) (x29 : Int) (x30 : Bool) (x31 : ByteArray) (x32 : Sl) => callT Tryz.prog 106 [.agg ⟨[.string x28, .int .i64 x29, .bool x30, .string x31, .slice x32.base x32.len x32.cap]⟩] kB (fun x33 =>
 j13 (some ⟨b6, 0, none⟩) (!x33))))))))))
theorem c70 (v1 : ByteArray) (v2 : Int) (v3 : Bool) (v4 : ByteArray) (v5 : Sl) {K : KH} {σ : H} : g70 v1 v2 v3 v4 v5 K σ -> callW Tryz.prog 70 [.agg ⟨[.string v1, .int .i64 v2, .bool v3, .string v4, .slice v5.base v5.len v5.cap]⟩] K σ := call_k an70 Tryz.func70 (by kernel_rfl)


def an71 : Ann := (.q (.q .z))
def g71 (v1 : ByteArray) (v2 : ByteArray) (K : KH) : H -> Prop :=
 callT Tryz.prog 108 [.string v1, .int .u64 (IntKind.u64.wrap ((v2.size : Nat) : Int))] kS (fun (x3 : ByteArray) => ifW (x3.size + v2.size <= 9223372036854775807) (K (.string (x3 ++ v2))))
theorem c71 (v1 : ByteArray) (v2 : ByteArray) {K : KH} {σ : H} : g71 v1 v2 K σ -> callW Tryz.prog 71 [.string v1, .string v2] K σ := call_k an71 Tryz.func71 (by kernel_rfl)


def an72 : Ann := (.q (.n (.reg (rn 12) [[],[],[1],[1,2],[1,2,3],[],[5],[5,6],[1,2,3,4,5,6,7],(rn 9),(rn 10),(rn 11)]) .r))
def g72 (v1 : Option Addr) (v2 : ByteArray) (v3 : Int) (v4 : Bool) (v5 : ByteArray) (v6 : Sl) (K : KH) : H -> Prop :=
 alW (.cells ⟨[.string v2, .int .i64 v3, .bool v4, .string v5, .slice v6.base v6.len v6.cap]⟩ 75 (0, 0)) (fun b7 => ptrW v1 (fun b8 o9 => rdT (rdC b8 o9) kS (fun (x10 : ByteArray) => rdT (rdC b7 1) kI (fun (x11 : Int) => callT Tryz.prog 108 [.string x10, .int .u64 (IntKind.u64.wrap x11)] kS (fun (x12 : ByteArray) => ptrW v1 (fun b13 o14 => stW Tryz.prog 9 (.pointer (some ⟨b13, o14, none⟩)) (.string x12) (alW (.map #[] 0) (fun b15 =>
 muW Tryz.prog 139 (.map (some b15)) (.int .i64 1) (.func (.func 109) ⟨[.pointer v1]⟩ ⟨[]⟩) (muW Tryz.prog 139 (.map (some b15)) (.int .i64 3) (.func (.func 110) ⟨[.pointer v1]⟩ ⟨[]⟩) (muW Tryz.prog 139 (.map (some b15)) (.int .i64 2) (.func (.func 111) ⟨[.pointer v1]⟩ ⟨[]⟩) (rdT (rdC b7 1) kI (fun (x16 : Int) => rdT (rdM (.int .i64) (.nilFunc) false (some b15) (.int .i64 x16)) kR (fun x17 =>
 rdT (rdA 5 b7 0) (.one (.agg [.str, (.int .i64), .bool, .str, .slc])) (fun (x18 : ByteArray) (x19 : Int) (x20 : Bool) (x21 : ByteArray) (x22 : Sl) => cvalT Tryz.prog x17 [.agg ⟨[.string x18, .int .i64 x19, .bool x20, .string x21, .slice x22.base x22.len x22.cap]⟩] kU (K (.tuple ⟨[]⟩))))))))))))))))
theorem c72 (v1 : Option Addr) (v2 : ByteArray) (v3 : Int) (v4 : Bool) (v5 : ByteArray) (v6 : Sl) {K : KH} {σ : H} : g72 v1 v2 v3 v4 v5 v6 K σ -> callW Tryz.prog 72 [.pointer v1, .agg ⟨[.string v2, .int .i64 v3, .bool v4, .string v5, .slice v6.base v6.len v6.cap]⟩] K σ := call_k an72 Tryz.func72 (by kernel_rfl)


def an73 : Ann := (.q (.n (.q (.h)) (.q (.q (.q (.q (.n (.q (.blk (.loop [(0,.s),(3,.w),(4,.w),(5,.w),(6,.w),(12,.i),(13,.i)] (.q (.n (.cond .z .z) (.n (.blk (.q (.q (.h)))) .r)))))) (.n (.seq (some [(33,.b)]) .r (.h)) (.q .z)))))))))
def g73 (v1 : ByteArray) (K : KH) : H -> Prop :=
 brW (decide (((v1.size : Nat) : Int) > 20)) (K (.int .i64 3)) (loopW [.sc .str, .sc .raw, .sc .raw, .sc .raw, .sc .raw, .sc (.int .i64), .sc (.int .i64)] (fun (R2 : ByteArray -> Value -> Value -> Value -> Value -> Int -> Int -> H -> Prop) => (fun (v3 : ByteArray) (v4 : Value) (v5 : Value) (v6 : Value) (v7 : Value) (x8 : Int) (x9 : Int) => brW (decide ((x9 : Int) < x8)) (idxW v3 x9 (fun c10 => oneK v4 (oneK v5 (oneK v6 (oneK v7
 (alW (.cells ⟨[v4, v5, v6, v7]⟩ 140 (0, 0)) (fun b11 => callT Tryz.prog 117 [.int .u8 (c10.toNat : Int), .slice (some ⟨b11, 0, none⟩) 4 4] kB (fun x12 => brW (!x12) (K (.int .i64 2)) (R2 v3 v4 v5 v6 v7 x8 (IntKind.i64.wrap (x9 + 1))))))))))) (letJ (T := Bool -> H -> Prop) (fun x14 => brW x14 (K (.int .i64 2)) (K (.int .i64 0))) (fun j13 => brW (strEq v3 (⟨⟨[]⟩⟩ : ByteArray)) (j13 true) (idxW v3 0 (fun c15 =>
 j13 ((c15.toNat : Int) == 46))))))) (fun (R16 : ByteArray -> Value -> Value -> Value -> Value -> Int -> Int -> H -> Prop) => R16 v1 (.func (.func 112) ⟨[]⟩ ⟨[]⟩) (.func (.func 113) ⟨[]⟩ ⟨[]⟩) (.func (.func 114) ⟨[]⟩ ⟨[]⟩) (.func (.func 115) ⟨[]⟩ ⟨[]⟩) ((v1.size : Nat) : Int) 0))
theorem c73 (v1 : ByteArray) {K : KH} {σ : H} : g73 v1 K σ -> callW Tryz.prog 73 [.string v1] K σ := call_k an73 Tryz.func73 (by kernel_rfl)


def an74 : Ann := (.q (.n (.q (.h)) (.n (.q (.q (.h))) (.q .z))))
def g74 (v1 : ByteArray) (v2 : ByteArray) (K : KH) : H -> Prop :=
 callT Tryz.prog 85 [.string v1] kB (fun x3 => brW (!x3) (K (.tuple ⟨[.string ⟨⟨[]⟩⟩, .int .i64 2]⟩)) (callT Tryz.prog 73 [.string v2] kI (fun (x4 : Int) => brW ((x4 : Int) != 0) (K (.tuple ⟨[.string ⟨⟨[]⟩⟩, .int .i64 x4]⟩)) (ifW (v1.size + (⟨⟨[45]⟩⟩ : ByteArray).size <= 9223372036854775807) (ifW ((v1 ++ ⟨⟨[45]⟩⟩).size + v2.size <= 9223372036854775807)
 (K (.tuple ⟨[.string ((v1 ++ ⟨⟨[45]⟩⟩) ++ v2), .int .i64 0]⟩)))))))
theorem c74 (v1 : ByteArray) (v2 : ByteArray) {K : KH} {σ : H} : g74 v1 v2 K σ -> callW Tryz.prog 74 [.string v1, .string v2] K σ := call_k an74 Tryz.func74 (by kernel_rfl)


def an75 : Ann := (.q (.q (.q (.q (.n (.q (.blk (.loop [(3,.s),(4,.p),(5,.sc (.int .u64)),(6,.i),(12,.i),(13,.i)] (.q (.n (.cond .z .z) (.n (.blk (.q (.q (.n (.q (.blk (.loop [(3,.s),(4,.p),(5,.sc (.int .u64)),(6,.i),(12,.i),(13,.i)] (.n (.q (.cond .z .z)) (.blk (.q .r)))))) .r)))) .r)))))) (.q .z))))))
def g75 (v1 : ByteArray) (K : KH) : H -> Prop :=
 callT Tryz.prog 118 [.string v1] kS (fun (x2 : ByteArray) => alW (.cells ⟨[.pointer none, .slice none 0 0]⟩ 145 (0, 0)) (fun b3 => loopW [.sc .str, .sc .ptr, .sc (.int .u64), .sc (.int .i64), .sc (.int .i64), .sc (.int .i64)] (fun (R4 : ByteArray -> Option Addr -> Int -> Int -> Int -> Int -> H -> Prop) => (fun (v5 : ByteArray) (v6 : Option Addr) (v7 : Int) (v8 : Int) (x9 : Int) (x10 : Int) => brW (decide ((x10 : Int) < x9)) (ifW (0 <= (8 : Int)) (idxW v5 x10 (fun c11 =>
 loopW [.sc .str, .sc .ptr, .sc (.int .u64), .sc (.int .i64), .sc (.int .i64), .sc (.int .i64)] (fun (R12 : ByteArray -> Option Addr -> Int -> Int -> Int -> Int -> H -> Prop) => (fun (v13 : ByteArray) (v14 : Option Addr) (v15 : Int) (v16 : Int) (x17 : Int) (x18 : Int) => brW (decide ((v16 : Int) >= 5)) (ifW (0 <= (IntKind.i64.wrap (v16 - 5)))
 (idxW (⟨⟨[48, 49, 50, 51, 52, 53, 54, 55, 56, 57, 97, 98, 99, 100, 102, 103, 104, 105, 106, 107, 108, 109, 110, 112, 113, 114, 115, 118, 119, 120, 121, 122]⟩⟩ : ByteArray) (bitV .and .u64 (Int.fdiv v15 (2 ^ min (Int.toNat (IntKind.i64.wrap (v16 - 5))) (IntKind.bits .u64))) 31) (fun c19 => callT Tryz.prog 119 [.pointer v14, .int .u8 (c19.toNat : Int)] kR (fun _x20 => R12 v13 v14 v15 (IntKind.i64.wrap (v16 - 5)) x17 x18)))) (ifW (0 <= v16)
 (R4 v13 v14 (bitV .and .u64 v15 (IntKind.u64.wrap ((IntKind.u64.wrap (1 * 2 ^ min (Int.toNat v16) (IntKind.bits .u64))) - 1))) v16 x17 (IntKind.i64.wrap (x18 + 1)))))) (fun (R21 : ByteArray -> Option Addr -> Int -> Int -> Int -> Int -> H -> Prop) => R21 v5 v6 (bitV .or .u64 (IntKind.u64.wrap (v7 * 2 ^ min (Int.toNat 8) (IntKind.bits .u64))) (IntKind.u64.wrap (c11.toNat : Int))) (IntKind.i64.wrap (v8 + 8)) x9 x10))))
 (callT Tryz.prog 120 [.pointer v6] kS (fun (x22 : ByteArray) => K (.string x22))))) (fun (R23 : ByteArray -> Option Addr -> Int -> Int -> Int -> Int -> H -> Prop) => R23 x2 (some ⟨b3, 0, none⟩) 0 0 (if 20 < ((x2.size : Nat) : Int) then 20 else ((x2.size : Nat) : Int)) 0)))
theorem c75 (v1 : ByteArray) {K : KH} {σ : H} : g75 v1 K σ -> callW Tryz.prog 75 [.string v1] K σ := call_k an75 Tryz.func75 (by kernel_rfl)


def an76 : Ann := (.q (.q .z))
def g76 (v1 : Sl) (v2 : Value) (K : KH) : H -> Prop :=
 callT Tryz.prog 121 [.slice v1.base v1.len v1.cap, v2] kI (fun (x3 : Int) => K (.bool (decide ((x3 : Int) >= 0))))
theorem c76 (v1 : Sl) (v2 : Value) {K : KH} {σ : H} : g76 v1 v2 K σ -> callW Tryz.prog 76 [.slice v1.base v1.len v1.cap, v2] K σ := call_k an76 Tryz.func76 (by kernel_rfl)


def an77 : Ann := (.q (.q .z))
def g77 (v1 : ByteArray) (v2 : Sl) (v3 : ByteArray) (v4 : ByteArray) (x5 : Option Addr) (K : KH) : H -> Prop :=
 alW (.cells ⟨[.string v1, .slice v2.base v2.len v2.cap, .string v3, .string v4]⟩ 38 (0, 0)) (fun b6 => ptrW x5 (fun b7 o8 => rdT (rdC b7 o8) kR (fun x9 => rdT (rdA 4 b6 0) (.one (.agg [.str, .slc, .str, .str])) (fun (x10 : ByteArray) (x11 : Sl) (x12 : ByteArray) (x13 : ByteArray) => cvalT Tryz.prog x9 [.agg ⟨[.string x10, .slice x11.base x11.len x11.cap, .string x12, .string x13]⟩] kB (fun x14 => K (.bool (!x14)))))))
theorem c77 (v1 : ByteArray) (v2 : Sl) (v3 : ByteArray) (v4 : ByteArray) (x5 : Option Addr) {K : KH} {σ : H} : g77 v1 v2 v3 v4 x5 K σ -> callW Tryz.prog 77 [.agg ⟨[.string v1, .slice v2.base v2.len v2.cap, .string v3, .string v4]⟩, .pointer x5] K σ := call_k an77 Tryz.func77 (by kernel_rfl)


def an78 : Ann := (.q (.n (.q (.blk (.loop [(0,.l),(1,.w),(7,.i),(8,.i)] (.q (.n (.cond .z .z) (.n (.blk (.q (.q (.h)))) .r)))))) (.q .z)))
def g78 (v1 : Sl) (v2 : Value) (K : KH) : H -> Prop :=
 loopW [.sc .slc, .sc .raw, .sc (.int .i64), .sc (.int .i64)] (fun (R3 : Sl -> Value -> Int -> Int -> H -> Prop) => (fun (v4 : Sl) (v5 : Value) (x6 : Int) (x7 : Int) => brW (decide ((x7 : Int) < x6)) (ptrW v4.base (fun b8 o9 => ifW (0 <= x7 /\ x7 < ((v4.len : Nat) : Int)) (rdT (rdC b8 (o9 + x7.toNat * 1)) kS (fun (x10 : ByteArray) => cvalT Tryz.prog v5 [.string x10] kB (fun x11 => brW x11 (K (.int .i64 x7)) (R3 v4 v5 x6 (IntKind.i64.wrap (x7 + 1))))))))
 (K (.int .i64 (-1))))) (fun (R12 : Sl -> Value -> Int -> Int -> H -> Prop) => R12 v1 v2 ((v1.len : Nat) : Int) 0)
theorem c78 (v1 : Sl) (v2 : Value) {K : KH} {σ : H} : g78 v1 v2 K σ -> callW Tryz.prog 78 [.slice v1.base v1.len v1.cap, v2] K σ := call_k an78 Tryz.func78 (by kernel_rfl)


def an80 : Ann := (.q (.q .z))
def g80 (v1 : ByteArray) (K : KH) : H -> Prop :=
 vaW Tryz.prog (convert 9 36 (.string v1)) kL (fun x2 => alW (.cells ⟨[.slice x2.base x2.len x2.cap, .bool false]⟩ 149 (0, 0)) (fun b3 => K (.pointer (some ⟨b3, 0, none⟩))))
theorem c80 (v1 : ByteArray) {K : KH} {σ : H} : g80 v1 K σ -> callW Tryz.prog 80 [.string v1] K σ := call_k an80 Tryz.func80 (by kernel_rfl)


def an82 : Ann := (.q (.q (.n (.q (.h)) (.q .z))))
def g82 (v1 : Option Addr) (K : KH) : H -> Prop :=
 callT Tryz.prog 122 [.pointer v1] (.one (.sc (.int .u64))) (fun (x2 : Int) => alW (.cells ⟨[.int .u64 0]⟩ 138 (0, 0)) (fun b3 => stW Tryz.prog 138 (.pointer (some ⟨b3, 0, none⟩)) (.int .u64 x2) (rdT (rdC b3 0) (.one (.sc (.int .u64))) (fun (x4 : Int) => brW ((x4 : Int) == 0) (K (.string ⟨⟨[]⟩⟩)) (callT Tryz.prog 123 [.pointer v1, .func (.func 124) ⟨[]⟩ ⟨[.pointer (some ⟨b3, 0, none⟩)]⟩] kL (fun x5 =>
 vaW Tryz.prog (convert 36 9 (.slice x5.base x5.len x5.cap)) kS (fun (x6 : ByteArray) => K (.string x6))))))))
theorem c82 (v1 : Option Addr) {K : KH} {σ : H} : g82 v1 K σ -> callW Tryz.prog 82 [.pointer v1] K σ := call_k an82 Tryz.func82 (by kernel_rfl)


def an84 : Ann := (.q (.q .z))
def g84 (v1 : Option Addr) (K : KH) : H -> Prop :=
 callT Tryz.prog 128 [.pointer v1] kB (fun x2 => brW x2 (ptrW v1 (fun b3 o4 => rdT (rdC b3 o4) kL (fun x5 => K (.bool (((x5.len : Nat) : Int) == 0))))) (K (.bool false)))
theorem c84 (v1 : Option Addr) {K : KH} {σ : H} : g84 v1 K σ -> callW Tryz.prog 84 [.pointer v1] K σ := call_k an84 Tryz.func84 (by kernel_rfl)


def an85 : Ann := (.q (.q (.n (.q (.blk (.loop [(0,.s),(3,.sc .map),(9,.i),(10,.i)] (.q (.n (.cond .z .z) (.n (.blk (.q (.q (.q (.h))))) .r)))))) (.q .z))))
def g85 (v1 : ByteArray) (K : KH) : H -> Prop :=
 callT Tryz.prog 129 [] kM (fun (x2 : Option Nat) => loopW [.sc .str, .sc .map, .sc (.int .i64), .sc (.int .i64)] (fun (R3 : ByteArray -> Option Nat -> Int -> Int -> H -> Prop) => (fun (v4 : ByteArray) (v5 : Option Nat) (x6 : Int) (x7 : Int) => brW (decide ((x7 : Int) < x6)) (idxW v4 x7 (fun c8 => rdT (rdM (.int .u8) (.int .i64 0) true v5 (.int .u8 (c8.toNat : Int))) (.tup [.sc (.int .i64), .sc .bool]) (fun (_x9 : Int) (x10 : Bool) => brW (!x10) (K (.bool false))
 (R3 v4 v5 x6 (IntKind.i64.wrap (x7 + 1)))))) (K (.bool (((v4.size : Nat) : Int) == 32))))) (fun (R11 : ByteArray -> Option Nat -> Int -> Int -> H -> Prop) => R11 v1 x2 ((v1.size : Nat) : Int) 0))
theorem c85 (v1 : ByteArray) {K : KH} {σ : H} : g85 v1 K σ -> callW Tryz.prog 85 [.string v1] K σ := call_k an85 Tryz.func85 (by kernel_rfl)


def an87 : Ann := (.q (.q .z))
def g87 (v1 : ByteArray) (v2 : Int) (v3 : Bool) (v4 : ByteArray) (v5 : Sl) (K : KH) : H -> Prop :=
 alW (.cells ⟨[.string v1, .int .i64 v2, .bool v3, .string v4, .slice v5.base v5.len v5.cap]⟩ 75 (0, 0)) (fun b6 => K (.func (.func 130) ⟨[]⟩ ⟨[.pointer (some ⟨b6, 0, none⟩)]⟩))
theorem c87 (v1 : ByteArray) (v2 : Int) (v3 : Bool) (v4 : ByteArray) (v5 : Sl) {K : KH} {σ : H} : g87 v1 v2 v3 v4 v5 K σ -> callW Tryz.prog 87 [.agg ⟨[.string v1, .int .i64 v2, .bool v3, .string v4, .slice v5.base v5.len v5.cap]⟩] K σ := call_k an87 Tryz.func87 (by kernel_rfl)


def an103 : Ann := (.q (.q (.blk (.loop [(0,.l),(1,.i),(2,.i),(3,.i),(8,.b),(9,.b)] (.blk (.q (.n (.q (.h)) (.n (.q (.h)) (.seq (some [(0,.l),(1,.i),(2,.i),(3,.i),(8,.b),(9,.b),(10,.i)]) (.q (.cond (.q .r) .z)) (.q (.seq (some [(0,.l),(1,.i),(2,.i),(3,.i),(8,.b),(9,.b),(10,.i),(11,.i),(12,.i)]) (.q (.cond (.q (.q .r)) .z)) (.seq (some [(0,.l),(1,.i),(2,.i),(3,.i),(8,.b),(9,.b),(10,.i),(11,.i),(63,.w),(66,.w),(67,.w)]) (.seq (some [(0,.l),(1,.i),(2,.i),(3,.i),(8,.b),(9,.b),(10,.i),(11,.i),(63,.w),(66,.w),(67,.w),(68,.b)]) .r (.cond (.q (.cond .z .z)) .z)) (.n (.seq (some [(0,.l),(1,.i),(2,.i),(3,.i),(8,.b),(9,.b),(10,.i),(11,.i),(63,.w),(66,.w),(67,.w),(76,.w),(77,.w),(78,.w),(79,.w),(80,.w),(81,.w),(82,.w),(83,.w),(84,.w),(85,.w),(86,.w),(87,.b)]) (.reg (rn 15) [[],[0],[0,1],[0,1,2],[0,1,2],[0,1,2,4],(rn 6),(rn 7),[0,1,2],[0,1,2],[0,1,2,8,9],[0,1,2,8,9,10],(rn 12),(rn 13),(rn 14)]) (.cond (.q (.q .z)) .z)) (.q (.q (.q (.q (.q (.cond (.q (.q .r)) (.q (.q .r)))))))))))))))))))))
def g103 (v1 : Sl) (v2 : Int) (v3 : Int) (v4 : Int) (K : KH) : H -> Prop :=
 loopW [.sc .slc, .sc (.int .i64), .sc (.int .i64), .sc (.int .i64), .sc .bool, .sc .bool] (fun (R5 : Sl -> Int -> Int -> Int -> Bool -> Bool -> H -> Prop) => (fun (v6 : Sl) (v7 : Int) (v8 : Int) (v9 : Int) (v10 : Bool) (v11 : Bool) => brW (decide (((IntKind.i64.wrap (v8 - v7)) : Int) <= 12)) (callT Tryz.prog 156 [.slice v6.base v6.len v6.cap, .int .i64 v7, .int .i64 v8] kU (K (.tuple ⟨[]⟩))) (brW ((v9 : Int) == 0)
 (callT Tryz.prog 157 [.slice v6.base v6.len v6.cap, .int .i64 v7, .int .i64 v8] kU (K (.tuple ⟨[]⟩))) (letJ (T := Sl -> Int -> Int -> Int -> Bool -> Bool -> Int -> H -> Prop) (fun v13 v14 v15 v16 v17 v18 v19 => callT Tryz.prog 159 [.slice v13.base v13.len v13.cap, .int .i64 v14, .int .i64 v15] (.tup [.sc (.int .i64), .sc (.int .i64)]) (fun (x20 : Int) (x21 : Int) =>
 letJ (T := Sl -> Int -> Int -> Int -> Bool -> Bool -> Int -> Int -> Int -> H -> Prop) (fun v23 v24 v25 v26 v27 v28 v29 v30 v31 => letJ (T := Sl -> Int -> Int -> Int -> Bool -> Bool -> Int -> Int -> Value -> Value -> Value -> H -> Prop) (fun v33 v34 v35 v36 v37 v38 v39 v40 x41 x42 x43 =>
 letJ (T := Sl -> Int -> Int -> Int -> Bool -> Bool -> Int -> Int -> Value -> Value -> Value -> Value -> Value -> Value -> Value -> Value -> Value -> Value -> Value -> Value -> Value -> Value -> Bool -> H -> Prop) (fun v45 v46 v47 v48 v49 v50 v51 v52 _x53 _x54 _x55 _x56 _x57 _x58 _x59 _x60 _x61 _x62 _x63 _x64 _x65 _x66 x67 => brW x67
 (callT Tryz.prog 163 [.slice v45.base v45.len v45.cap, .int .i64 v46, .int .i64 v47, .int .i64 v52] kI (fun (x68 : Int) => R5 v45 x68 v47 v48 v49 v50)) (callT Tryz.prog 164 [.slice v45.base v45.len v45.cap, .int .i64 v46, .int .i64 v47, .int .i64 v52] (.tup [.sc (.int .i64), .sc .bool]) (fun (x69 : Int) (x70 : Bool) => ifW ((8 : Int) ≠ 0)
 (brW (decide (((IntKind.i64.wrap (x69 - v46)) : Int) < (IntKind.i64.wrap (v47 - x69)))) (callT Tryz.prog 103 [.slice v45.base v45.len v45.cap, .int .i64 v46, .int .i64 x69, .int .i64 v48] kU (R5 v45 (IntKind.i64.wrap (x69 + 1)) v47 v48 (decide (((IntKind.i64.wrap (x69 - v46)) : Int) >= (IntKind.i64.wrap (Int.tdiv v51 8)))) x70))
 (callT Tryz.prog 103 [.slice v45.base v45.len v45.cap, .int .i64 (IntKind.i64.wrap (x69 + 1)), .int .i64 v47, .int .i64 v48] kU (R5 v45 v46 x69 v48 (decide (((IntKind.i64.wrap (v47 - x69)) : Int) >= (IntKind.i64.wrap (Int.tdiv v51 8)))) x70)))))) (fun j44 => brW (decide ((v34 : Int) > 0)) (ptrW v33.base (fun b71 o72 => ifW (0 <= IntKind.i64.wrap (v34 - 1) /\ IntKind.i64.wrap (v34 - 1) < ((v33.len : Nat) : Int))
 (rdT (rdC b71 (o72 + (IntKind.i64.wrap (v34 - 1) : Int).toNat * 1)) kS (fun (x73 : ByteArray) => ptrW v33.base (fun b74 o75 => ifW (0 <= v40 /\ v40 < ((v33.len : Nat) : Int)) (rdT (rdC b74 (o75 + v40.toNat * 1)) kS (fun (x76 : ByteArray) => callT Tryz.prog 162 [.string x73, .string x76] kB (fun x77 =>
 j44 v33 v34 v35 v36 v37 v38 v39 v40 x41 x42 x43 (.slice v33.base v33.len v33.cap) (.int .i64 v34) (.int .i64 (IntKind.i64.wrap (v34 - 1))) (.pointer (some ⟨b71, o72 + (IntKind.i64.wrap (v34 - 1) : Int).toNat * 1, none⟩)) (.string x73) (.slice v33.base v33.len v33.cap) (.int .i64 v40) (.pointer (some ⟨b74, o75 + v40.toNat * 1, none⟩)) (.string x76) (.bool x77) (.bool (!x77)) (!x77)))))))))
 (j44 v33 v34 v35 v36 v37 v38 v39 v40 x41 x42 x43 (.tuple ⟨[]⟩) (.tuple ⟨[]⟩) (.tuple ⟨[]⟩) (.tuple ⟨[]⟩) (.tuple ⟨[]⟩) (.tuple ⟨[]⟩) (.tuple ⟨[]⟩) (.tuple ⟨[]⟩) (.tuple ⟨[]⟩) (.tuple ⟨[]⟩) (.tuple ⟨[]⟩) false))) (fun j32 => letJ (T := Sl -> Int -> Int -> Int -> Bool -> Bool -> Int -> Int -> Value -> Value -> Value -> Bool -> H -> Prop) (fun v79 v80 v81 v82 v83 v84 v85 v86 x87 x88 x89 x90 => brW x90
 (callT Tryz.prog 161 [.slice v79.base v79.len v79.cap, .int .i64 v80, .int .i64 v81] kB (fun x91 => brW x91 (K (.tuple ⟨[]⟩)) (j32 v79 v80 v81 v82 v83 v84 v85 v86 x87 x88 x89))) (j32 v79 v80 v81 v82 v83 v84 v85 v86 x87 x88 x89)) (fun j78 => brW v27 (brW v28
 (j78 v23 v24 v25 v26 v27 v28 v29 v30 (.bool v28) (.int .i64 v31) (.bool ((v31 : Int) == 1)) ((v31 : Int) == 1)) (j78 v23 v24 v25 v26 v27 v28 v29 v30 (.bool v28) (.tuple ⟨[]⟩) (.tuple ⟨[]⟩) false)) (j78 v23 v24 v25 v26 v27 v28 v29 v30 (.tuple ⟨[]⟩) (.tuple ⟨[]⟩) (.tuple ⟨[]⟩) false)))) (fun j22 =>
 brW ((x21 : Int) == 2) (callT Tryz.prog 160 [.slice v13.base v13.len v13.cap, .int .i64 v14, .int .i64 v15] kU (j22 v13 v14 v15 v16 v17 v18 v19 (IntKind.i64.wrap ((IntKind.i64.wrap (v15 - 1)) - (IntKind.i64.wrap (x20 - v14)))) 1)) (j22 v13 v14 v15 v16 v17 v18 v19 x20 x21)))) (fun j12 => brW (!v10)
 (callT Tryz.prog 158 [.slice v6.base v6.len v6.cap, .int .i64 v7, .int .i64 v8] kU (j12 v6 v7 v8 (IntKind.i64.wrap (v9 - 1)) v10 v11 (IntKind.i64.wrap (v8 - v7)))) (j12 v6 v7 v8 v9 v10 v11 (IntKind.i64.wrap (v8 - v7)))))))) (fun (R92 : Sl -> Int -> Int -> Int -> Bool -> Bool -> H -> Prop) => R92 v1 v2 v3 v4 true true)
theorem c103 (v1 : Sl) (v2 : Int) (v3 : Int) (v4 : Int) {K : KH} {σ : H} : g103 v1 v2 v3 v4 K σ -> callW Tryz.prog 103 [.slice v1.base v1.len v1.cap, .int .i64 v2, .int .i64 v3, .int .i64 v4] K σ := call_k an103 Tryz.func103 (by kernel_rfl)


def an104 : Ann := (.q (.n (.h) (.q .z)))
def g104 (v1 : Int) (K : KH) : H -> Prop :=
 callT Tryz.prog 166 [.int .u64 v1] kI (fun (x2 : Int) => K (.int .i64 x2))
theorem c104 (v1 : Int) {K : KH} {σ : H} : g104 v1 K σ -> callW Tryz.prog 104 [.int .u64 v1] K σ := call_k an104 Tryz.func104 (by kernel_rfl)


def an105 : Ann := (.q (.q .z))
def g105 (v1 : ByteArray) (v2 : Int) (v3 : Bool) (v4 : ByteArray) (v5 : Sl) (K : KH) : H -> Prop :=
 alW (.cells ⟨[.string v1, .int .i64 v2, .bool v3, .string v4, .slice v5.base v5.len v5.cap]⟩ 75 (0, 0)) (fun b6 => rdT (rdA 5 b6 0) (.one (.agg [.str, (.int .i64), .bool, .str, .slc])) (fun (x7 : ByteArray) (x8 : Int) (x9 : Bool) (x10 : ByteArray) (x11 : Sl) => callT Tryz.prog 167 [.agg ⟨[.string x7, .int .i64 x8, .bool x9, .string x10, .slice x11.base x11.len x11.cap]⟩] kI (fun (x12 : Int) => K (.bool (decide ((x12 : Int) > 12))))))
theorem c105 (v1 : ByteArray) (v2 : Int) (v3 : Bool) (v4 : ByteArray) (v5 : Sl) {K : KH} {σ : H} : g105 v1 v2 v3 v4 v5 K σ -> callW Tryz.prog 105 [.agg ⟨[.string v1, .int .i64 v2, .bool v3, .string v4, .slice v5.base v5.len v5.cap]⟩] K σ := call_k an105 Tryz.func105 (by kernel_rfl)


def an106 : Ann := (.q (.q (.q (.n (.q (.blk (.q (.cond (.q .z) (.q (.cond (.q .z) (.q (.h)))))))) (.q .z)))))
def g106 (v1 : ByteArray) (v2 : Int) (v3 : Bool) (v4 : ByteArray) (v5 : Sl) (K : KH) : H -> Prop :=
 alW (.cells ⟨[.string v1, .int .i64 v2, .bool v3, .string v4, .slice v5.base v5.len v5.cap]⟩ 75 (0, 0)) (fun b6 => rdT (rdC b6 1) kI (fun (x7 : Int) => brW ((x7 : Int) == 1) (callT Tryz.prog 168 [.pointer (some ⟨b6, 0, none⟩)] kB (fun x8 => K (.bool x8))) (brW ((x7 : Int) == 3) (alW (.cells ⟨[.func (.func 168) ⟨[]⟩ ⟨[.pointer (some ⟨b6, 0, none⟩)]⟩, .func (.func 169) ⟨[]⟩ ⟨[.pointer (some ⟨b6, 0, none⟩)]⟩, .func (.func 171) ⟨[]⟩ ⟨[.pointer (some ⟨b6, 0, none⟩)]⟩]⟩ 34 (0, 0)) (fun b9 =>
 callT Tryz.prog 170 [.slice (some ⟨b9, 0, none⟩) 3 3] kB (fun x10 => K (.bool x10)))) (brW ((x7 : Int) == 2) (alW (.cells ⟨[.func (.func 169) ⟨[]⟩ ⟨[.pointer (some ⟨b6, 0, none⟩)]⟩, .func (.func 172) ⟨[]⟩ ⟨[.pointer (some ⟨b6, 0, none⟩)]⟩, .func (.func 173) ⟨[]⟩ ⟨[.pointer (some ⟨b6, 0, none⟩)]⟩]⟩ 34 (0, 0)) (fun b11 => callT Tryz.prog 170 [.slice (some ⟨b11, 0, none⟩) 3 3] kB (fun x12 => K (.bool x12)))) (K (.bool false))))))
theorem c106 (v1 : ByteArray) (v2 : Int) (v3 : Bool) (v4 : ByteArray) (v5 : Sl) {K : KH} {σ : H} : g106 v1 v2 v3 v4 v5 K σ -> callW Tryz.prog 106 [.agg ⟨[.string v1, .int .i64 v2, .bool v3, .string v4, .slice v5.base v5.len v5.cap]⟩] K σ := call_k an106 Tryz.func106 (by kernel_rfl)


def an107 : Ann := (.q (.n (.q (.h)) (.q .z)))
def g107 (v1 : ByteArray) (v2 : Int) (v3 : Bool) (v4 : ByteArray) (v5 : Sl) (K : KH) : H -> Prop :=
 alW (.cells ⟨[.string v1, .int .i64 v2, .bool v3, .string v4, .slice v5.base v5.len v5.cap]⟩ 75 (0, 0)) (fun b6 => rdT (rdA 5 b6 0) (.one (.agg [.str, (.int .i64), .bool, .str, .slc])) (fun (x7 : ByteArray) (x8 : Int) (x9 : Bool) (x10 : ByteArray) (x11 : Sl) => callT Tryz.prog 105 [.agg ⟨[.string x7, .int .i64 x8, .bool x9, .string x10, .slice x11.base x11.len x11.cap]⟩] kB (fun x12 => brW x12 (K (.tuple ⟨[.int .i64 0, .int .i64 0]⟩))
 (rdT (rdA 5 b6 0) (.one (.agg [.str, (.int .i64), .bool, .str, .slc])) (fun (x13 : ByteArray) (x14 : Int) (x15 : Bool) (x16 : ByteArray) (x17 : Sl) => callT Tryz.prog 175 [.agg ⟨[.string x13, .int .i64 x14, .bool x15, .string x16, .slice x17.base x17.len x17.cap]⟩] (.tup [.sc (.int .i64), .sc (.int .i64)]) (fun (x18 : Int) (x19 : Int) => K (.tuple ⟨[.int .i64 x18, .int .i64 x19]⟩)))))))
theorem c107 (v1 : ByteArray) (v2 : Int) (v3 : Bool) (v4 : ByteArray) (v5 : Sl) {K : KH} {σ : H} : g107 v1 v2 v3 v4 v5 K σ -> callW Tryz.prog 107 [.agg ⟨[.string v1, .int .i64 v2, .bool v3, .string v4, .slice v5.base v5.len v5.cap]⟩] K σ := call_k an107 Tryz.func107 (by kernel_rfl)


def an108 : Ann := (.q (.q (.q (.q (.n (.q (.blk (.loop [(0,.s),(1,.sc (.int .u64)),(5,.p),(6,.i)] (.n (.q (.cond .z .z)) (.n (.blk (.q .r)) .r))))) (.q (.q (.n (.reg (rn 7) [[],[],[1],[0,1,2],[],[4],(rn 6)]) (.q .z)))))))))
def g108 (v1 : ByteArray) (v2 : Int) (K : KH) : H -> Prop :=
 alW (.cells ⟨[.int .u8 0, .int .u8 0, .int .u8 0, .int .u8 0, .int .u8 0, .int .u8 0, .int .u8 0, .int .u8 0, .int .u8 0, .int .u8 0]⟩ 191 (0, 0)) (fun b3 => ifW ((128 : Int) ≠ 0) (ifW (0 <= (9 : Int) /\ (9 : Int) < ((10 : Nat) : Int)) (stW Tryz.prog 5 (.pointer (some ⟨b3, 0 + (9 : Int).toNat * 1, none⟩)) (.int .u8 (IntKind.u8.wrap (Int.tmod v2 128))) (ifW ((128 : Int) ≠ 0)
 (loopW [.sc .str, .sc (.int .u64), .sc .ptr, .sc (.int .i64)] (fun (R4 : ByteArray -> Int -> Option Addr -> Int -> H -> Prop) => (fun (v5 : ByteArray) (v6 : Int) (v7 : Option Addr) (v8 : Int) => brW (decide ((v6 : Int) > 0)) (ifW ((128 : Int) ≠ 0) (ptrW v7 (fun b9 o10 => ifW (0 <= IntKind.i64.wrap (v8 - 1) /\ IntKind.i64.wrap (v8 - 1) < ((10 : Nat) : Int))
 (stW Tryz.prog 5 (.pointer (some ⟨b9, o10 + (IntKind.i64.wrap (v8 - 1) : Int).toNat * 1, none⟩)) (.int .u8 (IntKind.u8.wrap ((IntKind.u8.wrap (Int.tmod v6 128)) + 128))) (ifW ((128 : Int) ≠ 0) (R4 v5 (IntKind.u64.wrap (Int.tdiv v6 128)) v7 (IntKind.i64.wrap (v8 - 1))))))))
 (vaW Tryz.prog (Instr.makeSlice 36 (.int .i64 (IntKind.i64.wrap ((IntKind.i64.wrap (((v5.size : Nat) : Int) + 10)) - v8))) (.int .i64 (IntKind.i64.wrap ((IntKind.i64.wrap (((v5.size : Nat) : Int) + 10)) - v8)))) kL (fun x11 => biW Tryz.prog .copy #[36, 9] 3 [false, false] [.slice x11.base x11.len x11.cap, .string v5] kI (fun (_x12 : Int) => ifW (bndOk none x11.cap /\ bndOk (some ((v5.size : Nat) : Int)) x11.len) (ptrW v7 (fun b13 o14 => ifW (bndOk none 10 /\ bndOk (some v8) 10)
 (biW Tryz.prog .copy #[36, 36] 3 [false, false] [.slice (slBase x11.base (((v5.size : Nat) : Int).toNat) x11.cap 1) (x11.len - (((v5.size : Nat) : Int).toNat)) (x11.cap - (((v5.size : Nat) : Int).toNat)), .slice (slBase (some ⟨b13, o14, none⟩) v8.toNat 10 1) (10 - v8.toNat) (10 - v8.toNat)] kI (fun (_x15 : Int) => vaW Tryz.prog (convert 36 9 (.slice x11.base x11.len x11.cap)) kS (fun (x16 : ByteArray) =>
 K (.string x16))))))))))) (fun (R17 : ByteArray -> Int -> Option Addr -> Int -> H -> Prop) => R17 v1 (IntKind.u64.wrap (Int.tdiv v2 128)) (some ⟨b3, 0, none⟩) 9))))))
theorem c108 (v1 : ByteArray) (v2 : Int) {K : KH} {σ : H} : g108 v1 v2 K σ -> callW Tryz.prog 108 [.string v1, .int .u64 v2] K σ := call_k an108 Tryz.func108 (by kernel_rfl)


def an109 : Ann := (.q (.q (.seq (some [(0,.p),(3,.p),(4,.sc (.int .u64))]) (.q (.cond .r .z)) (.reg [0,1,2,3,4,5,7,8,6,9,10,11,12] [[],[],[1],[1,2],[1,2,3],[],[1,2,3,4,5],[],[7],[1,2,3,4,5,6,7,8],(rn 10),(rn 11),(rn 12)]))))
def g109 (v1 : Option Addr) (v2 : ByteArray) (v3 : Int) (v4 : Bool) (v5 : ByteArray) (v6 : Sl) (K : KH) : H -> Prop :=
 alW (.cells ⟨[.string v2, .int .i64 v3, .bool v4, .string v5, .slice v6.base v6.len v6.cap]⟩ 75 (0, 0)) (fun b7 => letJ (T := Option Addr -> Option Addr -> Int -> H -> Prop) (fun v9 v10 v11 => ptrW v9 (fun b12 o13 => rdT (rdC b12 o13) kS (fun (x14 : ByteArray) => ptrW v10 (fun b15 o16 => rdT (rdC b15 (o16 + 3)) kS (fun (x17 : ByteArray) => callT Tryz.prog 108 [.string x14, .int .u64 v11] kS (fun (x18 : ByteArray) => andW (fun σ => (rdC b15 (o16 + 3)) σ = some (.string x17))
 (callT Tryz.prog 71 [.string x18, .string x17] kS (fun (x19 : ByteArray) => ptrW v9 (fun b20 o21 => stW Tryz.prog 9 (.pointer (some ⟨b20, o21, none⟩)) (.string x19) (K (.tuple ⟨[]⟩))))))))))) (fun j8 => rdT (rdC b7 2) kB (fun x22 => brW x22 (j8 v1 (some ⟨b7, 0, none⟩) 1) (j8 v1 (some ⟨b7, 0, none⟩) 0))))
theorem c109 (v1 : Option Addr) (v2 : ByteArray) (v3 : Int) (v4 : Bool) (v5 : ByteArray) (v6 : Sl) {K : KH} {σ : H} : g109 v1 v2 v3 v4 v5 v6 K σ -> callW Tryz.prog 109 [.pointer v1, .agg ⟨[.string v2, .int .i64 v3, .bool v4, .string v5, .slice v6.base v6.len v6.cap]⟩] K σ := call_k an109 Tryz.func109 (by kernel_rfl)


def an110 : Ann := (.q (.reg (rn 11) [[],[],[1],[1,2],[1,2,3],[],[5],[1,2,3,4,5,6],(rn 8),(rn 9),(rn 10)]))
def g110 (v1 : Option Addr) (v2 : ByteArray) (v3 : Int) (v4 : Bool) (v5 : ByteArray) (v6 : Sl) (K : KH) : H -> Prop :=
 alW (.cells ⟨[.string v2, .int .i64 v3, .bool v4, .string v5, .slice v6.base v6.len v6.cap]⟩ 75 (0, 0)) (fun b7 => ptrW v1 (fun b8 o9 => rdT (rdC b8 o9) kS (fun (x10 : ByteArray) => rdT (rdC b7 3) kS (fun (x11 : ByteArray) => callT Tryz.prog 71 [.string x10, .string x11] kS (fun (x12 : ByteArray) => ptrW v1 (fun b13 o14 => stW Tryz.prog 9 (.pointer (some ⟨b13, o14, none⟩)) (.string x12) (K (.tuple ⟨[]⟩))))))))
theorem c110 (v1 : Option Addr) (v2 : ByteArray) (v3 : Int) (v4 : Bool) (v5 : ByteArray) (v6 : Sl) {K : KH} {σ : H} : g110 v1 v2 v3 v4 v5 v6 K σ -> callW Tryz.prog 110 [.pointer v1, .agg ⟨[.string v2, .int .i64 v3, .bool v4, .string v5, .slice v6.base v6.len v6.cap]⟩] K σ := call_k an110 Tryz.func110 (by kernel_rfl)


def an111 : Ann := (.q (.n (.reg (rn 13) [[],[],[1],[1,2],[1,2,3],[],[5],[5,6],[5,6,7],[1,2,3,4,5,6,7,8],(rn 10),(rn 11),(rn 12)]) (.q (.blk (.loop [(0,.p),(19,.l),(20,.i),(21,.i)] (.q (.n (.cond .z .z) (.n (.blk (.q (.n (.reg (rn 11) [[],[],[1],[1,2],[1,2,3],[],[5],[1,2,3,4,5,6],(rn 8),(rn 9),(rn 10)]) .r))) .r))))))))
def g111 (v1 : Option Addr) (v2 : ByteArray) (v3 : Int) (v4 : Bool) (v5 : ByteArray) (v6 : Sl) (K : KH) : H -> Prop :=
 alW (.cells ⟨[.string v2, .int .i64 v3, .bool v4, .string v5, .slice v6.base v6.len v6.cap]⟩ 75 (0, 0)) (fun b7 => ptrW v1 (fun b8 o9 => rdT (rdC b8 o9) kS (fun (x10 : ByteArray) => rdT (rdC b7 4) kL (fun x11 => callT Tryz.prog 108 [.string x10, .int .u64 (IntKind.u64.wrap ((x11.len : Nat) : Int))] kS (fun (x12 : ByteArray) => ptrW v1 (fun b13 o14 => stW Tryz.prog 9 (.pointer (some ⟨b13, o14, none⟩)) (.string x12) (rdT (rdC b7 4) kL (fun x15 =>
 loopW [.sc .ptr, .sc .slc, .sc (.int .i64), .sc (.int .i64)] (fun (R16 : Option Addr -> Sl -> Int -> Int -> H -> Prop) => (fun (v17 : Option Addr) (x18 : Sl) (x19 : Int) (x20 : Int) => brW (decide ((x20 : Int) < x19)) (ptrW x18.base (fun b21 o22 => ifW (0 <= x20 /\ x20 < ((x18.len : Nat) : Int)) (rdT (rdA 5 b21 (o22 + x20.toNat * 5)) (.one (.agg [.str, (.int .i64), .bool, .str, .slc])) (fun (x23 : ByteArray) (x24 : Int) (x25 : Bool) (x26 : ByteArray) (x27 : Sl) =>
 alW (.cells ⟨[.string ⟨⟨[]⟩⟩, .int .i64 0, .bool false, .string ⟨⟨[]⟩⟩, .slice none 0 0]⟩ 75 (0, 0)) (fun b28 => stW Tryz.prog 75 (.pointer (some ⟨b28, 0, none⟩)) (.agg ⟨[.string x23, .int .i64 x24, .bool x25, .string x26, .slice x27.base x27.len x27.cap]⟩) (ptrW v17 (fun b29 o30 => rdT (rdC b29 o30) kS (fun (x31 : ByteArray) => rdT (rdC b28 0) kS (fun (x32 : ByteArray) => callT Tryz.prog 71 [.string x31, .string x32] kS (fun (x33 : ByteArray) =>
 ptrW v17 (fun b34 o35 => stW Tryz.prog 9 (.pointer (some ⟨b34, o35, none⟩)) (.string x33) (rdT (rdA 5 b28 0) (.one (.agg [.str, (.int .i64), .bool, .str, .slc])) (fun (x36 : ByteArray) (x37 : Int) (x38 : Bool) (x39 : ByteArray) (x40 : Sl) => callT Tryz.prog 72 [.pointer v17, .agg ⟨[.string x36, .int .i64 x37, .bool x38, .string x39, .slice x40.base x40.len x40.cap]⟩] kU (R16 v17 x18 x19 (IntKind.i64.wrap (x20 + 1))))))))))))))))
 (K (.tuple ⟨[]⟩)))) (fun (R41 : Option Addr -> Sl -> Int -> Int -> H -> Prop) => R41 v1 x15 ((x15.len : Nat) : Int) 0)))))))))
theorem c111 (v1 : Option Addr) (v2 : ByteArray) (v3 : Int) (v4 : Bool) (v5 : ByteArray) (v6 : Sl) {K : KH} {σ : H} : g111 v1 v2 v3 v4 v5 v6 K σ -> callW Tryz.prog 111 [.pointer v1, .agg ⟨[.string v2, .int .i64 v3, .bool v4, .string v5, .slice v6.base v6.len v6.cap]⟩] K σ := call_k an111 Tryz.func111 (by kernel_rfl)


def an112 : Ann := (.q (.q .z))
def g112 (v1 : Int) (K : KH) : H -> Prop :=
 brW (decide ((v1 : Int) >= 97)) (K (.bool (decide ((v1 : Int) <= 122)))) (K (.bool false))
theorem c112 (v1 : Int) {K : KH} {σ : H} : g112 v1 K σ -> callW Tryz.prog 112 [.int .u8 v1] K σ := call_k an112 Tryz.func112 (by kernel_rfl)


def an113 : Ann := (.q (.q .z))
def g113 (v1 : Int) (K : KH) : H -> Prop :=
 brW (decide ((v1 : Int) >= 65)) (K (.bool (decide ((v1 : Int) <= 90)))) (K (.bool false))
theorem c113 (v1 : Int) {K : KH} {σ : H} : g113 v1 K σ -> callW Tryz.prog 113 [.int .u8 v1] K σ := call_k an113 Tryz.func113 (by kernel_rfl)


def an114 : Ann := (.q (.q .z))
def g114 (v1 : Int) (K : KH) : H -> Prop :=
 brW (decide ((v1 : Int) >= 48)) (K (.bool (decide ((v1 : Int) <= 57)))) (K (.bool false))
theorem c114 (v1 : Int) {K : KH} {σ : H} : g114 v1 K σ -> callW Tryz.prog 114 [.int .u8 v1] K σ := call_k an114 Tryz.func114 (by kernel_rfl)


def an115 : Ann := (.q (.q .z))
def g115 (v1 : Int) (K : KH) : H -> Prop :=
 callT Tryz.prog 116 [.string ⟨⟨[43, 45, 46, 95]⟩⟩, .int .u8 v1] kI (fun (x2 : Int) => K (.bool (decide ((x2 : Int) >= 0))))
theorem c115 (v1 : Int) {K : KH} {σ : H} : g115 v1 K σ -> callW Tryz.prog 115 [.int .u8 v1] K σ := call_k an115 Tryz.func115 (by kernel_rfl)


def an116 : Ann := (.q (.q .z))
def g116 (v1 : ByteArray) (v2 : Int) (K : KH) : H -> Prop :=
 callT Tryz.prog 176 [.string v1, .int .u8 v2] kI (fun (x3 : Int) => K (.int .i64 x3))
theorem c116 (v1 : ByteArray) (v2 : Int) {K : KH} {σ : H} : g116 v1 v2 K σ -> callW Tryz.prog 116 [.string v1, .int .u8 v2] K σ := call_k an116 Tryz.func116 (by kernel_rfl)


def an117 : Ann := (.q (.n (.q (.blk (.loop [(0,.sc (.int .u8)),(7,.l),(8,.i),(9,.i)] (.q (.n (.cond .z .z) (.n (.blk (.q (.q (.h)))) .r)))))) (.q .z)))
def g117 (v1 : Int) (v2 : Sl) (K : KH) : H -> Prop :=
 loopW [.sc (.int .u8), .sc .slc, .sc (.int .i64), .sc (.int .i64)] (fun (R3 : Int -> Sl -> Int -> Int -> H -> Prop) => (fun (v4 : Int) (x5 : Sl) (x6 : Int) (x7 : Int) => brW (decide ((x7 : Int) < x6)) (ptrW x5.base (fun b8 o9 => ifW (0 <= x7 /\ x7 < ((x5.len : Nat) : Int)) (rdT (rdC b8 (o9 + x7.toNat * 1)) kR (fun x10 => cvalT Tryz.prog x10 [.int .u8 v4] kB (fun x11 => brW x11 (K (.bool true)) (R3 v4 x5 x6 (IntKind.i64.wrap (x7 + 1))))))))
 (K (.bool false)))) (fun (R12 : Int -> Sl -> Int -> Int -> H -> Prop) => R12 v1 v2 ((v2.len : Nat) : Int) 0)
theorem c117 (v1 : Int) (v2 : Sl) {K : KH} {σ : H} : g117 v1 v2 K σ -> callW Tryz.prog 117 [.int .u8 v1, .slice v2.base v2.len v2.cap] K σ := call_k an117 Tryz.func117 (by kernel_rfl)


def an118 : Ann := (.q (.q (.seq (some [(3,.p)]) (.q (.blk (.rf [.l] .r (.blk .r)))) (.q (.n (.q (.blk (.loop [(6,.l),(19,.agg [(.int .u32),(.int .u32),(.int .u32),(.int .u32),(.int .u32),(.int .u32),(.int .u32),(.int .u32)]),(20,.i)] (.q (.n (.cond .z .z) (.n (.blk (.q .r)) .r)))))) (.q .z))))))
def g118 (v1 : ByteArray) (K : KH) : H -> Prop :=
 callT Tryz.prog 177 [] (.tup [.agg [(.int .u32), (.int .u32), (.int .u32), (.int .u32), (.int .u32), (.int .u32), (.int .u32), (.int .u32)], .sc .raw]) (fun (x2 : Int) (x3 : Int) (x4 : Int) (x5 : Int) (x6 : Int) (x7 : Int) (x8 : Int) (x9 : Int) (x10 : Value) => alW (.cells ⟨[.int .u32 0, .int .u32 0, .int .u32 0, .int .u32 0, .int .u32 0, .int .u32 0, .int .u32 0, .int .u32 0]⟩ 194 (0, 0)) (fun b11 =>
 alW (.cells ⟨[.int .u32 0, .int .u32 0, .int .u32 0, .int .u32 0, .int .u32 0, .int .u32 0, .int .u32 0, .int .u32 0, .int .u32 0, .int .u32 0, .int .u32 0, .int .u32 0, .int .u32 0, .int .u32 0, .int .u32 0, .int .u32 0, .int .u32 0, .int .u32 0, .int .u32 0, .int .u32 0, .int .u32 0, .int .u32 0, .int .u32 0, .int .u32 0, .int .u32 0, .int .u32 0, .int .u32 0, .int .u32 0, .int .u32 0, .int .u32 0, .int .u32 0, .int .u32 0, .int .u32 0, .int .u32 0, .int .u32 0, .int .u32 0, .int .u32 0, .int .u32 0, .int .u32 0, .int .u32 0, .int .u32 0, .int .u32 0, .int .u32 0, .int .u32 0, .int .u32 0, .int .u32 0, .int .u32 0, .int .u32 0, .int .u32 0, .int .u32 0, .int .u32 0, .int .u32 0, .int .u32 0, .int .u32 0, .int .u32 0, .int .u32 0, .int .u32 0, .int .u32 0, .int .u32 0, .int .u32 0, .int .u32 0, .int .u32 0, .int .u32 0, .int .u32 0]⟩ 195 (0, 0)) (fun b12 =>
 stW Tryz.prog 194 (.pointer (some ⟨b11, 0, none⟩)) (.agg ⟨[.int .u32 x2, .int .u32 x3, .int .u32 x4, .int .u32 x5, .int .u32 x6, .int .u32 x7, .int .u32 x8, .int .u32 x9]⟩) (stW Tryz.prog 195 (.pointer (some ⟨b12, 0, none⟩)) (x10) (letJ (T := Option Addr -> H -> Prop) (fun v14 => ptrW v14 (fun b15 o16 =>
 rdT (rdA 8 b15 o16) (.one (.agg [(.int .u32), (.int .u32), (.int .u32), (.int .u32), (.int .u32), (.int .u32), (.int .u32), (.int .u32)])) (fun (x17 : Int) (x18 : Int) (x19 : Int) (x20 : Int) (x21 : Int) (x22 : Int) (x23 : Int) (x24 : Int) =>
 loopW [.sc .slc, .agg [(.int .u32), (.int .u32), (.int .u32), (.int .u32), (.int .u32), (.int .u32), (.int .u32), (.int .u32)], .sc (.int .i64)] (fun (R25 : Sl -> Int -> Int -> Int -> Int -> Int -> Int -> Int -> Int -> Int -> H -> Prop) => (fun (v26 : Sl) (x27 : Int) (x28 : Int) (x29 : Int) (x30 : Int) (x31 : Int) (x32 : Int) (x33 : Int) (x34 : Int) (x35 : Int) => brW (decide ((x35 : Int) < 8))
 (rdT (rdX 8 [.int .u32 x27, .int .u32 x28, .int .u32 x29, .int .u32 x30, .int .u32 x31, .int .u32 x32, .int .u32 x33, .int .u32 x34] x35) (.one (.sc (.int .u32))) (fun (x36 : Int) => ifW (0 <= (24 : Int)) (ifW (0 <= (16 : Int)) (ifW (0 <= (8 : Int))
 (alW (.cells ⟨[.int .u8 (IntKind.u8.wrap (Int.fdiv x36 (2 ^ min (Int.toNat 24) (IntKind.bits .u32)))), .int .u8 (IntKind.u8.wrap (Int.fdiv x36 (2 ^ min (Int.toNat 16) (IntKind.bits .u32)))), .int .u8 (IntKind.u8.wrap (Int.fdiv x36 (2 ^ min (Int.toNat 8) (IntKind.bits .u32)))), .int .u8 (IntKind.u8.wrap x36)]⟩ 5 (0, 0)) (fun b37 => biW Tryz.prog .append #[36, 36] 36 [false, false] [.slice v26.base v26.len v26.cap, .slice (some ⟨b37, 0, none⟩) 4 4] kL (fun x38 =>
 R25 x38 x27 x28 x29 x30 x31 x32 x33 x34 (IntKind.i64.wrap (x35 + 1))))))))) (vaW Tryz.prog (convert 36 9 (.slice v26.base v26.len v26.cap)) kS (fun (x39 : ByteArray) => K (.string x39))))) (fun (R40 : Sl -> Int -> Int -> Int -> Int -> Int -> Int -> Int -> Int -> Int -> H -> Prop) => R40 ⟨none, 0, 0⟩ x17 x18 x19 x20 x21 x22 x23 x24 0)))) (fun j13 => callT Tryz.prog 178 [.string v1] kR (fun x41 => funW x41 (fun (g63 : FuncId) (as64 cs65 : List Value) =>
 rfW Tryz.prog none g63 as64 cs65 [.sc .slc] (fun (l42 : Nat) (obj43 : LoopState -> Option Code -> Obj) (K44 : Value -> H -> Prop) => (fun x45 => begW l42 obj43 (rdT (rdA 8 b11 0) (.one (.agg [(.int .u32), (.int .u32), (.int .u32), (.int .u32), (.int .u32), (.int .u32), (.int .u32), (.int .u32)])) (fun (x46 : Int) (x47 : Int) (x48 : Int) (x49 : Int) (x50 : Int) (x51 : Int) (x52 : Int) (x53 : Int) =>
 callT Tryz.prog 179 [.agg ⟨[.int .u32 x46, .int .u32 x47, .int .u32 x48, .int .u32 x49, .int .u32 x50, .int .u32 x51, .int .u32 x52, .int .u32 x53]⟩, .slice x45.base x45.len x45.cap, .pointer (some ⟨b12, 0, none⟩)] (.one (.agg [(.int .u32), (.int .u32), (.int .u32), (.int .u32), (.int .u32), (.int .u32), (.int .u32), (.int .u32)])) (fun (x54 : Int) (x55 : Int) (x56 : Int) (x57 : Int) (x58 : Int) (x59 : Int) (x60 : Int) (x61 : Int) =>
 stW Tryz.prog 194 (.pointer (some ⟨b11, 0, none⟩)) (.agg ⟨[.int .u32 x54, .int .u32 x55, .int .u32 x56, .int .u32 x57, .int .u32 x58, .int .u32 x59, .int .u32 x60, .int .u32 x61]⟩) (roundK l42 obj43 K44 none true .ready)))))) (j13 (some ⟨b11, 0, none⟩)) (fun i62 => exW i62 0 (j13 (some ⟨b11, 0, none⟩)) (nW)) (K (.string ⟨⟨[]⟩⟩))))))))))
theorem c118 (v1 : ByteArray) {K : KH} {σ : H} : g118 v1 K σ -> callW Tryz.prog 118 [.string v1] K σ := call_k an118 Tryz.func118 (by kernel_rfl)


def an119 : Ann := (.q (.q (.q (.q .z))))
def g119 (v1 : Option Addr) (v2 : Int) (K : KH) : H -> Prop :=
 callT Tryz.prog 180 [.pointer v1] kU (ptrW v1 (fun b3 o4 => rdT (rdC b3 (o4 + 1)) kL (fun x5 => alW (.cells ⟨[.int .u8 v2]⟩ 5 (0, 0)) (fun b6 => biW Tryz.prog .append #[36, 36] 36 [false, false] [.slice x5.base x5.len x5.cap, .slice (some ⟨b6, 0, none⟩) 1 1] kL (fun x7 => ptrW v1 (fun b8 o9 => stW Tryz.prog 36 (.pointer (some ⟨b8, o9 + 1, none⟩)) (.slice x7.base x7.len x7.cap) (K (.nilIface))))))))
theorem c119 (v1 : Option Addr) (v2 : Int) {K : KH} {σ : H} : g119 v1 v2 K σ -> callW Tryz.prog 119 [.pointer v1, .int .u8 v2] K σ := call_k an119 Tryz.func119 (by kernel_rfl)


def an120 : Ann := (.q (.n (.reg [0,1,2,3,5,6,7,8,4,9,10,11] [[],[0],[0,1],[0,1,2],(rn 4),[],[5],[5,6],[5,6,7],[5,6,7,8],(rn 10),(rn 11)]) .z))
def g120 (v1 : Option Addr) (K : KH) : H -> Prop :=
 ptrW v1 (fun b2 o3 => rdT (rdC b2 (o3 + 1)) kL (fun x4 => ptrW v1 (fun b5 o6 => rdT (rdC b5 (o6 + 1)) kL (fun x7 => biW Tryz.prog .unsafeSliceData #[36] 203 [false] [.slice x4.base x4.len x4.cap] kP (fun x8 => andW (fun σ => (rdC b5 (o6 + 1)) σ = some (.slice x7.base x7.len x7.cap)) (biW Tryz.prog .unsafeString #[203, 3] 9 [false, false] [.pointer x8, .int .i64 ((x7.len : Nat) : Int)] kS (fun (x9 : ByteArray) => K (.string x9))))))))
theorem c120 (v1 : Option Addr) {K : KH} {σ : H} : g120 v1 K σ -> callW Tryz.prog 120 [.pointer v1] K σ := call_k an120 Tryz.func120 (by kernel_rfl)


def an121 : Ann := (.q (.n (.q (.blk (.loop [(0,.l),(1,.w),(7,.i),(8,.i)] (.q (.n (.cond .z .z) (.n (.blk (.q (.q (.h)))) .r)))))) (.q .z)))
def g121 (v1 : Sl) (v2 : Value) (K : KH) : H -> Prop :=
 loopW [.sc .slc, .sc .raw, .sc (.int .i64), .sc (.int .i64)] (fun (R3 : Sl -> Value -> Int -> Int -> H -> Prop) => (fun (v4 : Sl) (v5 : Value) (x6 : Int) (x7 : Int) => brW (decide ((x7 : Int) < x6)) (ptrW v4.base (fun b8 o9 => ifW (0 <= x7 /\ x7 < ((v4.len : Nat) : Int)) (rdT (rdA 4 b8 (o9 + x7.toNat * 4)) (.one (.agg [.str, .slc, .str, .str])) (fun (x10 : ByteArray) (x11 : Sl) (x12 : ByteArray) (x13 : ByteArray) =>
 cvalT Tryz.prog v5 [.agg ⟨[.string x10, .slice x11.base x11.len x11.cap, .string x12, .string x13]⟩] kB (fun x14 => brW x14 (K (.int .i64 x7)) (R3 v4 v5 x6 (IntKind.i64.wrap (x7 + 1)))))))) (K (.int .i64 (-1))))) (fun (R15 : Sl -> Value -> Int -> Int -> H -> Prop) => R15 v1 v2 ((v1.len : Nat) : Int) 0)
theorem c121 (v1 : Sl) (v2 : Value) {K : KH} {σ : H} : g121 v1 v2 K σ -> callW Tryz.prog 121 [.slice v1.base v1.len v1.cap, v2] K σ := call_k an121 Tryz.func121 (by kernel_rfl)


def an122 : Ann := (.q (.n (.q (.blk (.loop [(2,.sc (.int .u64)),(6,.l),(7,.i),(8,.i)] (.q (.n (.cond .z .z) (.n (.blk (.q .r)) .r)))))) (.q .z)))
def g122 (v1 : Option Addr) (K : KH) : H -> Prop :=
 callT Tryz.prog 123 [.pointer v1, .func (.func 181) ⟨[]⟩ ⟨[]⟩] kL (fun x2 => loopW [.sc (.int .u64), .sc .slc, .sc (.int .i64), .sc (.int .i64)] (fun (R3 : Int -> Sl -> Int -> Int -> H -> Prop) => (fun (v4 : Int) (x5 : Sl) (x6 : Int) (x7 : Int) => brW (decide ((x7 : Int) < x6)) (ptrW x5.base (fun b8 o9 => ifW (0 <= x7 /\ x7 < ((x5.len : Nat) : Int)) (rdT (rdC b8 (o9 + x7.toNat * 1)) kC (fun (x10 : Int) => ifW ((128 : Int) ≠ 0)
 (R3 (IntKind.u64.wrap ((IntKind.u64.wrap (v4 * 128)) + (IntKind.u64.wrap (Int.tmod x10 128)))) x5 x6 (IntKind.i64.wrap (x7 + 1))))))) (K (.int .u64 v4)))) (fun (R11 : Int -> Sl -> Int -> Int -> H -> Prop) => R11 0 x2 ((x2.len : Nat) : Int) 0))
theorem c122 (v1 : Option Addr) {K : KH} {σ : H} : g122 v1 K σ -> callW Tryz.prog 122 [.pointer v1] K σ := call_k an122 Tryz.func122 (by kernel_rfl)


def an123 : Ann := (.q (.n (.q (.h)) (.q (.n (.seq (some [(0,.p),(5,.i),(25,.b)]) .r (.cond (.q (.q .z)) .z)) (.q (.q (.q .z)))))))
def g123 (v1 : Option Addr) (v2 : Value) (K : KH) : H -> Prop :=
 brW v1.isNone (K (.slice none 0 0)) (ptrW v1 (fun b3 o4 => rdT (rdC b3 o4) kL (fun x5 => cvalT Tryz.prog v2 [.slice x5.base x5.len x5.cap] kI (fun (x6 : Int) => letJ (T := Option Addr -> Int -> Bool -> H -> Prop) (fun v8 v9 x10 => brW x10 (ptrW v8 (fun b11 o12 => stW Tryz.prog 36 (.pointer (some ⟨b11, o12, none⟩)) (.slice none 0 0) (ptrW v8 (fun b13 o14 => stW Tryz.prog 4 (.pointer (some ⟨b13, o14 + 1, none⟩)) (.bool true) (K (.slice none 0 0)))))) (ptrW v8 (fun b15 o16 =>
 rdT (rdC b15 o16) kL (fun x17 => ifW (bndOk (some v9) x17.cap /\ bndOk none v9.toNat) (ptrW v8 (fun b18 o19 => rdT (rdC b18 o19) kL (fun x20 => ifW (bndOk none x20.cap /\ bndOk (some v9) x20.len) (ptrW v8 (fun b21 o22 => stW Tryz.prog 36 (.pointer (some ⟨b21, o22, none⟩)) (.slice (slBase x20.base v9.toNat x20.cap 1) (x20.len - v9.toNat) (x20.cap - v9.toNat)) (K (.slice (slBase x17.base 0 x17.cap 1) (v9.toNat - 0) (x17.cap - 0)))))))))))) (fun j7 => brW (decide ((x6 : Int) <= 0))
 (j7 v1 x6 true) (ptrW v1 (fun b23 o24 => rdT (rdC b23 o24) kL (fun x25 => j7 v1 x6 (decide ((x6 : Int) > ((x25.len : Nat) : Int)))))))))))
theorem c123 (v1 : Option Addr) (v2 : Value) {K : KH} {σ : H} : g123 v1 v2 K σ -> callW Tryz.prog 123 [.pointer v1, v2] K σ := call_k an123 Tryz.func123 (by kernel_rfl)


def an124 : Ann := (.q (.q .z))
def g124 (v1 : Sl) (x2 : Option Addr) (K : KH) : H -> Prop :=
 ptrW x2 (fun b3 o4 => rdT (rdC b3 o4) (.one (.sc (.int .u64))) (fun (x5 : Int) => K (.int .i64 (IntKind.i64.wrap (if (IntKind.u64.wrap ((IntKind.u64.wrap ((v1.len : Nat) : Int)) + 1)) < x5 then (IntKind.u64.wrap ((IntKind.u64.wrap ((v1.len : Nat) : Int)) + 1)) else x5)))))
theorem c124 (v1 : Sl) (x2 : Option Addr) {K : KH} {σ : H} : g124 v1 x2 K σ -> callW Tryz.prog 124 [.slice v1.base v1.len v1.cap, .pointer x2] K σ := call_k an124 Tryz.func124 (by kernel_rfl)


def an126 : Ann := .r
def g126 (v1 : Option Addr) (v2 : Option Addr) (K : KH) : H -> Prop :=
 ptrW v1 (fun b3 o4 => rdT (rdC b3 o4) kP (fun x5 => callT Tryz.prog 82 [.pointer x5] kS (fun (x6 : ByteArray) => ptrW v2 (fun b7 o8 => stW Tryz.prog 9 (.pointer (some ⟨b7, o8 + 3, none⟩)) (.string x6) (K (.tuple ⟨[]⟩))))))
theorem c126 (v1 : Option Addr) (v2 : Option Addr) {K : KH} {σ : H} : g126 v1 v2 K σ -> callW Tryz.prog 126 [.pointer v1, .pointer v2] K σ := call_k an126 Tryz.func126 (by kernel_rfl)


def an128 : Ann := (.q (.q .z))
def g128 (v1 : Option Addr) (K : KH) : H -> Prop :=
 brW (!v1.isNone) (ptrW v1 (fun b2 o3 => rdT (rdC b2 (o3 + 1)) kB (fun x4 => K (.bool (!x4))))) (K (.bool false))
theorem c128 (v1 : Option Addr) {K : KH} {σ : H} : g128 v1 K σ -> callW Tryz.prog 128 [.pointer v1] K σ := call_k an128 Tryz.func128 (by kernel_rfl)


def an129 : Ann := (.q (.q (.n (.q (.blk (.loop [(1,.sc .map),(4,.i)] (.q (.n (.cond .z .z) (.n (.blk (.q .r)) .r)))))) (.q .z))))
def g129  (K : KH) : H -> Prop :=
 alW (.map #[] 0) (fun b1 => loopW [.sc .map, .sc (.int .i64)] (fun (R2 : Option Nat -> Int -> H -> Prop) => (fun (v3 : Option Nat) (x4 : Int) => brW (decide ((x4 : Int) < 32)) (idxW (⟨⟨[48, 49, 50, 51, 52, 53, 54, 55, 56, 57, 97, 98, 99, 100, 102, 103, 104, 105, 106, 107, 108, 109, 110, 112, 113, 114, 115, 118, 119, 120, 121, 122]⟩⟩ : ByteArray) x4 (fun c5 => muW Tryz.prog 157 (.map v3) (.int .u8 (c5.toNat : Int)) (.int .i64 x4) (R2 v3 (IntKind.i64.wrap (x4 + 1)))))
 (K (.map v3)))) (fun (R6 : Option Nat -> Int -> H -> Prop) => R6 (some b1) 0))
theorem c129  {K : KH} {σ : H} : g129  K σ -> callW Tryz.prog 129 [] K σ := call_k an129 Tryz.func129 (by kernel_rfl)


def an130 : Ann := .r
def g130 (v1 : Value) (x2 : Option Addr) (K : KH) : H -> Prop :=
 ptrW x2 (fun b3 o4 => rdT (rdA 5 b3 o4) (.one (.agg [.str, (.int .i64), .bool, .str, .slc])) (fun (x5 : ByteArray) (x6 : Int) (x7 : Bool) (x8 : ByteArray) (x9 : Sl) => callT Tryz.prog 131 [.agg ⟨[.string x5, .int .i64 x6, .bool x7, .string x8, .slice x9.base x9.len x9.cap]⟩, v1] kB (fun _x10 => K (.tuple ⟨[]⟩))))
theorem c130 (v1 : Value) (x2 : Option Addr) {K : KH} {σ : H} : g130 v1 x2 K σ -> callW Tryz.prog 130 [v1, .pointer x2] K σ := call_k an130 Tryz.func130 (by kernel_rfl)


def an131 : Ann := (.q (.n (.q (.h)) (.n (.q (.blk (.loop [(1,.w),(13,.l),(14,.i),(15,.i)] (.q (.n (.cond .z .z) (.n (.blk (.q (.q (.h)))) .r)))))) (.q .z))))
def g131 (v1 : ByteArray) (v2 : Int) (v3 : Bool) (v4 : ByteArray) (v5 : Sl) (v6 : Value) (K : KH) : H -> Prop :=
 alW (.cells ⟨[.string v1, .int .i64 v2, .bool v3, .string v4, .slice v5.base v5.len v5.cap]⟩ 75 (0, 0)) (fun b7 => rdT (rdC b7 3) kS (fun (x8 : ByteArray) => cvalT Tryz.prog v6 [.string x8] kB (fun x9 => brW (!x9) (K (.bool false)) (rdT (rdC b7 4) kL (fun x10 => loopW [.sc .raw, .sc .slc, .sc (.int .i64), .sc (.int .i64)] (fun (R11 : Value -> Sl -> Int -> Int -> H -> Prop) => (fun (v12 : Value) (x13 : Sl) (x14 : Int) (x15 : Int) => brW (decide ((x15 : Int) < x14))
 (ptrW x13.base (fun b16 o17 => ifW (0 <= x15 /\ x15 < ((x13.len : Nat) : Int)) (rdT (rdA 5 b16 (o17 + x15.toNat * 5)) (.one (.agg [.str, (.int .i64), .bool, .str, .slc])) (fun (x18 : ByteArray) (x19 : Int) (x20 : Bool) (x21 : ByteArray) (x22 : Sl) => alW (.cells ⟨[.string ⟨⟨[]⟩⟩, .int .i64 0, .bool false, .string ⟨⟨[]⟩⟩, .slice none 0 0]⟩ 75 (0, 0)) (fun b23 =>
 stW Tryz.prog 75 (.pointer (some ⟨b23, 0, none⟩)) (.agg ⟨[.string x18, .int .i64 x19, .bool x20, .string x21, .slice x22.base x22.len x22.cap]⟩) (rdT (rdA 5 b23 0) (.one (.agg [.str, (.int .i64), .bool, .str, .slc])) (fun (x24 : ByteArray) (x25 : Int) (x26 : Bool) (x27 : ByteArray) (x28 : Sl) => callT Tryz.prog 131 [.agg ⟨[.string x24, .int .i64 x25, .bool x26, .string x27, .slice x28.base x28.len x28.cap]⟩, v12] kB (fun x29 => brW (!x29) (K (.bool false))
 (R11 v12 x13 x14 (IntKind.i64.wrap (x15 + 1))))))))))) (K (.bool true)))) (fun (R30 : Value -> Sl -> Int -> Int -> H -> Prop) => R30 v6 x10 ((x10.len : Nat) : Int) 0))))))
theorem c131 (v1 : ByteArray) (v2 : Int) (v3 : Bool) (v4 : ByteArray) (v5 : Sl) (v6 : Value) {K : KH} {σ : H} : g131 v1 v2 v3 v4 v5 v6 K σ -> callW Tryz.prog 131 [.agg ⟨[.string v1, .int .i64 v2, .bool v3, .string v4, .slice v5.base v5.len v5.cap]⟩, v6] K σ := call_k an131 Tryz.func131 (by kernel_rfl)


def an137 : Ann := (.q (.q .z))
def g137 (v1 : ByteArray) (v2 : ByteArray) (K : KH) : H -> Prop :=
 callT Tryz.prog 187 [.string v1, .string v2] (.tup [.sc .str, .sc .str, .sc .bool]) (fun (x3 : ByteArray) (x4 : ByteArray) (x5 : Bool) => K (.tuple ⟨[.string x3, .string x4, .bool x5]⟩))
theorem c137 (v1 : ByteArray) (v2 : ByteArray) {K : KH} {σ : H} : g137 v1 v2 K σ -> callW Tryz.prog 137 [.string v1, .string v2] K σ := call_k an137 Tryz.func137 (by kernel_rfl)


def an138 : Ann := (.q (.q .z))
def g138 (v1 : ByteArray) (v2 : ByteArray) (K : KH) : H -> Prop :=
 callT Tryz.prog 188 [.string v1, .string v2, .int .i64 0, .int .i64 (-1)] kL (fun x3 => K (.slice x3.base x3.len x3.cap))
theorem c138 (v1 : ByteArray) (v2 : ByteArray) {K : KH} {σ : H} : g138 v1 v2 K σ -> callW Tryz.prog 138 [.string v1, .string v2] K σ := call_k an138 Tryz.func138 (by kernel_rfl)


def an156 : Ann := (.q (.blk (.loop [(0,.l),(1,.i),(2,.i),(6,.i)] (.n (.q (.cond .z .z)) (.n (.blk (.q (.blk (.loop [(0,.l),(1,.i),(2,.i),(6,.i),(7,.i)] (.n (.seq (some [(0,.l),(1,.i),(2,.i),(6,.i),(7,.i),(20,.w),(21,.w),(22,.w),(23,.w),(24,.w),(25,.w),(26,.w),(27,.w),(28,.w),(29,.w),(30,.b)]) (.reg (rn 15) [[],[],[0,1],[0,1,2],(rn 4),(rn 4),(rn 6),(rn 7),(rn 4),(rn 4),[0,1,2,3,9],[0,1,2,3,8,9,10],[0,1,2,3,8,9,10,11],(rn 13),(rn 14)]) (.cond .z .z)) (.n (.blk (.reg (rn 18) [[],[],[],[],[3],[],[],[6],[5,6,7],[5,6,7,8],[],[],[10,11],[10,11,12],[0,1,5,6,7,8,9,10,11,12,13],[0,1,5,6,7,8,9,10,11,12,13,14],(rn 16),(rn 17)])) .r)))))) .r)))))
def g156 (v1 : Sl) (v2 : Int) (v3 : Int) (K : KH) : H -> Prop :=
 loopW [.sc .slc, .sc (.int .i64), .sc (.int .i64), .sc (.int .i64)] (fun (R4 : Sl -> Int -> Int -> Int -> H -> Prop) => (fun (v5 : Sl) (v6 : Int) (v7 : Int) (v8 : Int) => brW (decide ((v8 : Int) < v7)) (loopW [.sc .slc, .sc (.int .i64), .sc (.int .i64), .sc (.int .i64), .sc (.int .i64)] (fun (R9 : Sl -> Int -> Int -> Int -> Int -> H -> Prop) => (fun (v10 : Sl) (v11 : Int) (v12 : Int) (v13 : Int) (v14 : Int) =>
 letJ (T := Sl -> Int -> Int -> Int -> Int -> Value -> Value -> Value -> Value -> Value -> Value -> Value -> Value -> Value -> Value -> Bool -> H -> Prop) (fun v16 v17 v18 v19 v20 _x21 _x22 _x23 _x24 _x25 _x26 _x27 _x28 _x29 _x30 x31 => brW x31 (ptrW v16.base (fun b32 o33 => ifW (0 <= IntKind.i64.wrap (v20 - 1) /\ IntKind.i64.wrap (v20 - 1) < ((v16.len : Nat) : Int)) (rdT (rdC b32 (o33 + (IntKind.i64.wrap (v20 - 1) : Int).toNat * 1)) kS (fun (x34 : ByteArray) =>
 ptrW v16.base (fun b35 o36 => ifW (0 <= v20 /\ v20 < ((v16.len : Nat) : Int)) (rdT (rdC b35 (o36 + v20.toNat * 1)) kS (fun (x37 : ByteArray) => ptrW v16.base (fun b38 o39 => ifW (0 <= v20 /\ v20 < ((v16.len : Nat) : Int)) (stW Tryz.prog 9 (.pointer (some ⟨b38, o39 + v20.toNat * 1, none⟩)) (.string x34) (ptrW v16.base (fun b40 o41 => ifW (0 <= IntKind.i64.wrap (v20 - 1) /\ IntKind.i64.wrap (v20 - 1) < ((v16.len : Nat) : Int))
 (stW Tryz.prog 9 (.pointer (some ⟨b40, o41 + (IntKind.i64.wrap (v20 - 1) : Int).toNat * 1, none⟩)) (.string x37) (R9 v16 v17 v18 v19 (IntKind.i64.wrap (v20 - 1))))))))))))))) (R4 v16 v17 v18 (IntKind.i64.wrap (v19 + 1)))) (fun j15 => brW (decide ((v14 : Int) > v11)) (ptrW v10.base (fun b42 o43 => ifW (0 <= v14 /\ v14 < ((v10.len : Nat) : Int)) (rdT (rdC b42 (o43 + v14.toNat * 1)) kS (fun (x44 : ByteArray) => ptrW v10.base (fun b45 o46 =>
 ifW (0 <= IntKind.i64.wrap (v14 - 1) /\ IntKind.i64.wrap (v14 - 1) < ((v10.len : Nat) : Int)) (rdT (rdC b45 (o46 + (IntKind.i64.wrap (v14 - 1) : Int).toNat * 1)) kS (fun (x47 : ByteArray) => callT Tryz.prog 162 [.string x44, .string x47] kB (fun x48 =>
 j15 v10 v11 v12 v13 v14 (.slice v10.base v10.len v10.cap) (.int .i64 v14) (.pointer (some ⟨b42, o43 + v14.toNat * 1, none⟩)) (.string x44) (.slice v10.base v10.len v10.cap) (.int .i64 v14) (.int .i64 (IntKind.i64.wrap (v14 - 1))) (.pointer (some ⟨b45, o46 + (IntKind.i64.wrap (v14 - 1) : Int).toNat * 1, none⟩)) (.string x47) (.bool x48) x48))))))))
 (j15 v10 v11 v12 v13 v14 (.tuple ⟨[]⟩) (.tuple ⟨[]⟩) (.tuple ⟨[]⟩) (.tuple ⟨[]⟩) (.tuple ⟨[]⟩) (.tuple ⟨[]⟩) (.tuple ⟨[]⟩) (.tuple ⟨[]⟩) (.tuple ⟨[]⟩) (.tuple ⟨[]⟩) false)))) (fun (R49 : Sl -> Int -> Int -> Int -> Int -> H -> Prop) => R49 v5 v6 v7 v8 v8)) (K (.tuple ⟨[]⟩)))) (fun (R50 : Sl -> Int -> Int -> Int -> H -> Prop) => R50 v1 v2 v3 (IntKind.i64.wrap (v2 + 1)))
theorem c156 (v1 : Sl) (v2 : Int) (v3 : Int) {K : KH} {σ : H} : g156 v1 v2 v3 K σ -> callW Tryz.prog 156 [.slice v1.base v1.len v1.cap, .int .i64 v2, .int .i64 v3] K σ := call_k an156 Tryz.func156 (by kernel_rfl)


def an166 : Ann := (.q (.seq (some [(0,.sc (.int .u64)),(2,.i)]) (.q (.cond (.q .r) .z)) (.seq (some [(0,.sc (.int .u64)),(2,.i)]) (.q (.cond (.q .r) .z)) (.seq (some [(0,.sc (.int .u64)),(2,.i)]) (.q (.cond (.q .r) .z)) (.q .z)))))
def g166 (v1 : Int) (K : KH) : H -> Prop :=
 letJ (T := Int -> Int -> H -> Prop) (fun v3 v4 => letJ (T := Int -> Int -> H -> Prop) (fun v6 v7 => letJ (T := Int -> Int -> H -> Prop) (fun v9 v10 =>
 idxW (⟨⟨[0, 1, 2, 2, 3, 3, 3, 3, 4, 4, 4, 4, 4, 4, 4, 4, 5, 5, 5, 5, 5, 5, 5, 5, 5, 5, 5, 5, 5, 5, 5, 5, 6, 6, 6, 6, 6, 6, 6, 6, 6, 6, 6, 6, 6, 6, 6, 6, 6, 6, 6, 6, 6, 6, 6, 6, 6, 6, 6, 6, 6, 6, 6, 6, 7, 7, 7, 7, 7, 7, 7, 7, 7, 7, 7, 7, 7, 7, 7, 7, 7, 7, 7, 7, 7, 7, 7, 7, 7, 7, 7, 7, 7, 7, 7, 7, 7, 7, 7, 7, 7, 7, 7, 7, 7, 7, 7, 7, 7, 7, 7, 7, 7, 7, 7, 7, 7, 7, 7, 7, 7, 7, 7, 7, 7, 7, 7, 7, 8, 8, 8, 8, 8, 8, 8, 8, 8, 8, 8, 8, 8, 8, 8, 8, 8, 8, 8, 8, 8, 8, 8, 8, 8, 8, 8, 8, 8, 8, 8, 8, 8, 8, 8, 8, 8, 8, 8, 8, 8, 8, 8, 8, 8, 8, 8, 8, 8, 8, 8, 8, 8, 8, 8, 8, 8, 8, 8, 8, 8, 8, 8, 8, 8, 8, 8, 8, 8, 8, 8, 8, 8, 8, 8, 8, 8, 8, 8, 8, 8, 8, 8, 8, 8, 8, 8, 8, 8, 8, 8, 8, 8, 8, 8, 8, 8, 8, 8, 8, 8, 8, 8, 8, 8, 8, 8, 8, 8, 8, 8, 8, 8, 8, 8, 8, 8, 8, 8, 8, 8, 8, 8, 8, 8, 8, 8, 8]⟩⟩ : ByteArray) (IntKind.u8.wrap v9) (fun c11 =>
 K (.int .i64 (IntKind.i64.wrap (v10 + (IntKind.i64.wrap (c11.toNat : Int))))))) (fun j8 => brW (decide ((v6 : Int) >= 256)) (ifW (0 <= (8 : Int)) (j8 (Int.fdiv v6 (2 ^ min (Int.toNat 8) (IntKind.bits .u64))) (IntKind.i64.wrap (v7 + 8)))) (j8 v6 v7))) (fun j5 => brW (decide ((v3 : Int) >= 65536)) (ifW (0 <= (16 : Int)) (j5 (Int.fdiv v3 (2 ^ min (Int.toNat 16) (IntKind.bits .u64))) (IntKind.i64.wrap (v4 + 16)))) (j5 v3 v4))) (fun j2 => brW (decide ((v1 : Int) >= 4294967296))
 (ifW (0 <= (32 : Int)) (j2 (Int.fdiv v1 (2 ^ min (Int.toNat 32) (IntKind.bits .u64))) 32)) (j2 v1 0))
theorem c166 (v1 : Int) {K : KH} {σ : H} : g166 v1 K σ -> callW Tryz.prog 166 [.int .u64 v1] K σ := call_k an166 Tryz.func166 (by kernel_rfl)


def an167 : Ann := (.q (.q .z))
def g167 (v1 : ByteArray) (v2 : Int) (v3 : Bool) (v4 : ByteArray) (v5 : Sl) (K : KH) : H -> Prop :=
 alW (.cells ⟨[.string v1, .int .i64 v2, .bool v3, .string v4, .slice v5.base v5.len v5.cap]⟩ 75 (0, 0)) (fun b6 => rdT (rdA 5 b6 0) (.one (.agg [.str, (.int .i64), .bool, .str, .slc])) (fun (x7 : ByteArray) (x8 : Int) (x9 : Bool) (x10 : ByteArray) (x11 : Sl) => callT Tryz.prog 209 [.agg ⟨[.string x7, .int .i64 x8, .bool x9, .string x10, .slice x11.base x11.len x11.cap]⟩, .int .i64 14] kI (fun (x12 : Int) => K (.int .i64 x12))))
theorem c167 (v1 : ByteArray) (v2 : Int) (v3 : Bool) (v4 : ByteArray) (v5 : Sl) {K : KH} {σ : H} : g167 v1 v2 v3 v4 v5 K σ -> callW Tryz.prog 167 [.agg ⟨[.string v1, .int .i64 v2, .bool v3, .string v4, .slice v5.base v5.len v5.cap]⟩] K σ := call_k an167 Tryz.func167 (by kernel_rfl)


def an168 : Ann := (.q (.q .z))
def g168 (x1 : Option Addr) (K : KH) : H -> Prop :=
 ptrW x1 (fun b2 o3 => rdT (rdC b2 (o3 + 4)) kL (fun x4 => K (.bool (((x4.len : Nat) : Int) == 0))))
theorem c168 (x1 : Option Addr) {K : KH} {σ : H} : g168 x1 K σ -> callW Tryz.prog 168 [.pointer x1] K σ := call_k an168 Tryz.func168 (by kernel_rfl)


def an169 : Ann := (.q (.q .z))
def g169 (x1 : Option Addr) (K : KH) : H -> Prop :=
 ptrW x1 (fun b2 o3 => rdT (rdC b2 (o3 + 2)) kB (fun x4 => K (.bool (!x4))))
theorem c169 (x1 : Option Addr) {K : KH} {σ : H} : g169 x1 K σ -> callW Tryz.prog 169 [.pointer x1] K σ := call_k an169 Tryz.func169 (by kernel_rfl)


def an170 : Ann := (.q (.q .z))
def g170 (v1 : Sl) (K : KH) : H -> Prop :=
 callT Tryz.prog 210 [.slice v1.base v1.len v1.cap, .func (.func 211) ⟨[]⟩ ⟨[]⟩] kB (fun x2 => K (.bool (!x2)))
theorem c170 (v1 : Sl) {K : KH} {σ : H} : g170 v1 K σ -> callW Tryz.prog 170 [.slice v1.base v1.len v1.cap] K σ := call_k an170 Tryz.func170 (by kernel_rfl)


def an171 : Ann := (.q (.q .z))
def g171 (x1 : Option Addr) (K : KH) : H -> Prop :=
 ptrW x1 (fun b2 o3 => rdT (rdC b2 (o3 + 3)) kS (fun (x4 : ByteArray) => brW (decide (((x4.size : Nat) : Int) >= 1)) (ptrW x1 (fun b5 o6 => rdT (rdC b5 (o6 + 3)) kS (fun (x7 : ByteArray) => brW (decide (((x7.size : Nat) : Int) <= 255)) (ptrW x1 (fun b8 o9 => rdT (rdC b8 (o9 + 3)) kS (fun (x10 : ByteArray) => callT Tryz.prog 116 [.string x10, .int .u8 0] kI (fun (x11 : Int) => K (.bool (decide ((x11 : Int) < 0))))))) (K (.bool false))))) (K (.bool false))))
theorem c171 (x1 : Option Addr) {K : KH} {σ : H} : g171 x1 K σ -> callW Tryz.prog 171 [.pointer x1] K σ := call_k an171 Tryz.func171 (by kernel_rfl)


def an172 : Ann := (.q (.q .z))
def g172 (x1 : Option Addr) (K : KH) : H -> Prop :=
 ptrW x1 (fun b2 o3 => rdT (rdC b2 (o3 + 3)) kS (fun (x4 : ByteArray) => K (.bool (strEq x4 (⟨⟨[]⟩⟩ : ByteArray)))))
theorem c172 (x1 : Option Addr) {K : KH} {σ : H} : g172 x1 K σ -> callW Tryz.prog 172 [.pointer x1] K σ := call_k an172 Tryz.func172 (by kernel_rfl)

end Go.Proofs.YtgfiobhpipollaaGreatDoor

set_option maxRecDepth 100000
namespace Go.Proofs.YtgfiobhpipollaaGreatDoor
open Go Go.HL
def an173 : Ann := (.q (.n (.q (.blk (.loop [(0,.p),(5,.l),(6,.i),(7,.i)] (.q (.n (.cond .z .z) (.n (.blk (.q (.seq (some [(0,.p),(5,.l),(6,.i),(7,.i),(17,.w),(18,.w),(19,.w),(22,.w),(23,.w),(24,.w),(25,.w),(26,.w),(27,.w),(28,.w),(29,.w),(30,.w),(31,.w),(32,.w),(33,.w),(34,.w),(35,.w),(36,.b)]) (.reg (rn 25) [[],[0],[0,1],[0,1,2],(rn 4),(rn 5),(rn 6),(rn 7),(rn 8),(rn 9),(rn 10),(rn 11),(rn 12),(rn 13),(rn 14),(rn 13),[0,1,2,3,4,5,6,7,8,9,10,11,12,15],(rn 17),(rn 18),(rn 19),(rn 13),[0,1,2,3,4,5,6,7,8,9,10,11,12,20],(rn 22),(rn 23),(rn 24)]) (.h)))) .r)))))) (.q .z)))
def g173 (x1 : Option Addr) (K : KH) : H -> Prop :=
 ptrW x1 (fun b2 o3 => rdT (rdC b2 (o3 + 4)) kL (fun x4 => loopW [.sc .ptr, .sc .slc, .sc (.int .i64), .sc (.int .i64)] (fun (R5 : Option Addr -> Sl -> Int -> Int -> H -> Prop) => (fun (x6 : Option Addr) (x7 : Sl) (x8 : Int) (x9 : Int) => brW (decide ((x9 : Int) < x8)) (ptrW x7.base (fun b10 o11 => ifW (0 <= x9 /\ x9 < ((x7.len : Nat) : Int))
 (rdT (rdA 5 b10 (o11 + x9.toNat * 5)) (.one (.agg [.str, (.int .i64), .bool, .str, .slc])) (fun (x12 : ByteArray) (x13 : Int) (x14 : Bool) (x15 : ByteArray) (x16 : Sl) => alW (.cells ⟨[.string ⟨⟨[]⟩⟩, .int .i64 0, .bool false, .string ⟨⟨[]⟩⟩, .slice none 0 0]⟩ 75 (0, 0)) (fun b17 =>
 stW Tryz.prog 75 (.pointer (some ⟨b17, 0, none⟩)) (.agg ⟨[.string x12, .int .i64 x13, .bool x14, .string x15, .slice x16.base x16.len x16.cap]⟩) (letJ (T := Option Addr -> Sl -> Int -> Int -> Value -> Value -> Value -> Value -> Value -> Value -> Value -> Value -> Value -> Value -> Value -> Value -> Value -> Value -> Value -> Value -> Value -> Bool -> H -> Prop) (fun x19 x20 x21 x22 _x23 _x24 _x25 _x26 _x27 _x28 _x29 _x30 _x31 _x32 _x33 _x34 _x35 _x36 _x37 _x38 _x39 x40 => brW x40 (K (.bool false))
 (R5 x19 x20 x21 (IntKind.i64.wrap (x22 + 1)))) (fun j18 => rdT (rdC b17 0) kS (fun (x41 : ByteArray) => callT Tryz.prog 174 [.string x41] kB (fun x42 => brW (!x42) (j18 x6 x7 x8 x9 (.tuple ⟨[]⟩) (.tuple ⟨[]⟩) (.tuple ⟨[]⟩) (.tuple ⟨[]⟩) (.tuple ⟨[]⟩) (.tuple ⟨[]⟩) (.tuple ⟨[]⟩) (.tuple ⟨[]⟩) (.tuple ⟨[]⟩) (.tuple ⟨[]⟩) (.tuple ⟨[]⟩) (.tuple ⟨[]⟩) (.tuple ⟨[]⟩) (.tuple ⟨[]⟩) (.tuple ⟨[]⟩) (.tuple ⟨[]⟩) (.tuple ⟨[]⟩) true)
 (rdT (rdA 5 b17 0) (.one (.agg [.str, (.int .i64), .bool, .str, .slc])) (fun (x43 : ByteArray) (x44 : Int) (x45 : Bool) (x46 : ByteArray) (x47 : Sl) => callT Tryz.prog 106 [.agg ⟨[.string x43, .int .i64 x44, .bool x45, .string x46, .slice x47.base x47.len x47.cap]⟩] kB (fun x48 => brW (!x48)
 (j18 x6 x7 x8 x9 (.agg ⟨[.string x43, .int .i64 x44, .bool x45, .string x46, .slice x47.base x47.len x47.cap]⟩) (.bool x48) (.bool (!x48)) (.tuple ⟨[]⟩) (.tuple ⟨[]⟩) (.tuple ⟨[]⟩) (.tuple ⟨[]⟩) (.tuple ⟨[]⟩) (.tuple ⟨[]⟩) (.tuple ⟨[]⟩) (.tuple ⟨[]⟩) (.tuple ⟨[]⟩) (.tuple ⟨[]⟩) (.tuple ⟨[]⟩) (.tuple ⟨[]⟩) (.tuple ⟨[]⟩) (.tuple ⟨[]⟩) true) (brW (decide ((x9 : Int) > 0)) (ptrW x6 (fun b49 o50 => rdT (rdC b49 (o50 + 4)) kL (fun x51 => ptrW x51.base (fun b52 o53 =>
 ifW (0 <= IntKind.i64.wrap (x9 - 1) /\ IntKind.i64.wrap (x9 - 1) < ((x51.len : Nat) : Int)) (rdT (rdC b52 (o53 + (IntKind.i64.wrap (x9 - 1) : Int).toNat * 5)) kS (fun (x54 : ByteArray) => rdT (rdC b17 0) kS (fun (x55 : ByteArray) =>
 j18 x6 x7 x8 x9 (.agg ⟨[.string x43, .int .i64 x44, .bool x45, .string x46, .slice x47.base x47.len x47.cap]⟩) (.bool x48) (.bool (!x48)) (.int .i64 x9) (.bool (decide ((x9 : Int) > 0))) (.bool true) (.pointer (some ⟨b49, o50 + 4, none⟩)) (.slice x51.base x51.len x51.cap) (.int .i64 x9) (.int .i64 (IntKind.i64.wrap (x9 - 1))) (.pointer (some ⟨b52, o53 + (IntKind.i64.wrap (x9 - 1) : Int).toNat * 5, none⟩)) (.pointer (some ⟨b52, o53 + (IntKind.i64.wrap (x9 - 1) : Int).toNat * 5, none⟩)) (.string x54) (.pointer (some ⟨b17, 0, none⟩)) (.string x55) (.bool (!strLt x54 x55)) (.bool (!strLt x54 x55)) (!strLt x54 x55))))))))
 (j18 x6 x7 x8 x9 (.agg ⟨[.string x43, .int .i64 x44, .bool x45, .string x46, .slice x47.base x47.len x47.cap]⟩) (.bool x48) (.bool (!x48)) (.int .i64 x9) (.bool (decide ((x9 : Int) > 0))) (.bool false) (.tuple ⟨[]⟩) (.tuple ⟨[]⟩) (.tuple ⟨[]⟩) (.tuple ⟨[]⟩) (.tuple ⟨[]⟩) (.tuple ⟨[]⟩) (.tuple ⟨[]⟩) (.tuple ⟨[]⟩) (.tuple ⟨[]⟩) (.tuple ⟨[]⟩) (.bool false) false)))))))))))))) (K (.bool true)))) (fun (R56 : Option Addr -> Sl -> Int -> Int -> H -> Prop) => R56 x1 x4 ((x4.len : Nat) : Int) 0)))
theorem c173 (x1 : Option Addr) {K : KH} {σ : H} : g173 x1 K σ -> callW Tryz.prog 173 [.pointer x1] K σ := call_k an173 Tryz.func173 (by kernel_rfl)


def an174 : Ann := (.q (.q .z))
def g174 (v1 : ByteArray) (K : KH) : H -> Prop :=
 brW (decide (((v1.size : Nat) : Int) >= 1)) (brW (decide (((v1.size : Nat) : Int) <= 56)) (callT Tryz.prog 212 [.string v1, .string ⟨⟨[47, 0]⟩⟩] kB (fun x2 => brW (!x2) (brW (!strEq v1 (⟨⟨[46]⟩⟩ : ByteArray)) (K (.bool (!strEq v1 (⟨⟨[46, 46]⟩⟩ : ByteArray)))) (K (.bool false))) (K (.bool false)))) (K (.bool false))) (K (.bool false))
theorem c174 (v1 : ByteArray) {K : KH} {σ : H} : g174 v1 K σ -> callW Tryz.prog 174 [.string v1] K σ := call_k an174 Tryz.func174 (by kernel_rfl)


def an175 : Ann := (.q (.n (.reg (rn 5) [[],[0],[0,1],[],(rn 4)]) (.n (.q (.blk (.loop [(2,.i),(3,.i),(12,.l),(13,.i),(14,.i)] (.q (.n (.cond .z .z) (.seq (some [(2,.i),(3,.i),(12,.l),(13,.i),(14,.i)]) (.blk (.q (.n (.q (.cond .z .z)) (.q .r)))) .r)))))) (.q .z))))
def g175 (v1 : ByteArray) (v2 : Int) (v3 : Bool) (v4 : ByteArray) (v5 : Sl) (K : KH) : H -> Prop :=
 alW (.cells ⟨[.string v1, .int .i64 v2, .bool v3, .string v4, .slice v5.base v5.len v5.cap]⟩ 75 (0, 0)) (fun b6 => rdT (rdC b6 3) kS (fun (x7 : ByteArray) => rdT (rdC b6 4) kL (fun x8 => loopW [.sc (.int .i64), .sc (.int .i64), .sc .slc, .sc (.int .i64), .sc (.int .i64)] (fun (R9 : Int -> Int -> Sl -> Int -> Int -> H -> Prop) => (fun (v10 : Int) (v11 : Int) (x12 : Sl) (x13 : Int) (x14 : Int) => brW (decide ((x14 : Int) < x13))
 (letJ (T := Int -> Int -> Sl -> Int -> Int -> H -> Prop) (fun v16 v17 x18 x19 x20 => R9 v16 v17 x18 x19 (IntKind.i64.wrap (x20 + 1))) (fun j15 => ptrW x12.base (fun b21 o22 => ifW (0 <= x14 /\ x14 < ((x12.len : Nat) : Int)) (rdT (rdA 5 b21 (o22 + x14.toNat * 5)) (.one (.agg [.str, (.int .i64), .bool, .str, .slc])) (fun (x23 : ByteArray) (x24 : Int) (x25 : Bool) (x26 : ByteArray) (x27 : Sl) =>
 alW (.cells ⟨[.string ⟨⟨[]⟩⟩, .int .i64 0, .bool false, .string ⟨⟨[]⟩⟩, .slice none 0 0]⟩ 75 (0, 0)) (fun b28 => stW Tryz.prog 75 (.pointer (some ⟨b28, 0, none⟩)) (.agg ⟨[.string x23, .int .i64 x24, .bool x25, .string x26, .slice x27.base x27.len x27.cap]⟩) (rdT (rdA 5 b28 0) (.one (.agg [.str, (.int .i64), .bool, .str, .slc])) (fun (x29 : ByteArray) (x30 : Int) (x31 : Bool) (x32 : ByteArray) (x33 : Sl) =>
 callT Tryz.prog 105 [.agg ⟨[.string x29, .int .i64 x30, .bool x31, .string x32, .slice x33.base x33.len x33.cap]⟩] kB (fun x34 => brW x34 (j15 v10 v11 x12 x13 x14) (rdT (rdA 5 b28 0) (.one (.agg [.str, (.int .i64), .bool, .str, .slc])) (fun (x35 : ByteArray) (x36 : Int) (x37 : Bool) (x38 : ByteArray) (x39 : Sl) =>
 callT Tryz.prog 175 [.agg ⟨[.string x35, .int .i64 x36, .bool x37, .string x38, .slice x39.base x39.len x39.cap]⟩] (.tup [.sc (.int .i64), .sc (.int .i64)]) (fun (x40 : Int) (x41 : Int) => j15 (IntKind.i64.wrap (v10 + x40)) (IntKind.i64.wrap (v11 + x41)) x12 x13 x14)))))))))))) (K (.tuple ⟨[.int .i64 v10, .int .i64 v11]⟩)))) (fun (R42 : Int -> Int -> Sl -> Int -> Int -> H -> Prop) => R42 1 ((x7.size : Nat) : Int) x8 ((x8.len : Nat) : Int) 0))))
theorem c175 (v1 : ByteArray) (v2 : Int) (v3 : Bool) (v4 : ByteArray) (v5 : Sl) {K : KH} {σ : H} : g175 v1 v2 v3 v4 v5 K σ -> callW Tryz.prog 175 [.agg ⟨[.string v1, .int .i64 v2, .bool v3, .string v4, .slice v5.base v5.len v5.cap]⟩] K σ := call_k an175 Tryz.func175 (by kernel_rfl)


def an176 : Ann := (.q (.q .z))
def g176 (v1 : ByteArray) (v2 : Int) (K : KH) : H -> Prop :=
 cvalT Tryz.prog (.func (.func 213) ⟨[]⟩ ⟨[]⟩) [.string v1, .int .u8 v2] kI (fun (x3 : Int) => K (.int .i64 x3))
theorem c176 (v1 : ByteArray) (v2 : Int) {K : KH} {σ : H} : g176 v1 v2 K σ -> callW Tryz.prog 176 [.string v1, .int .u8 v2] K σ := call_k an176 Tryz.func176 (by kernel_rfl)


def an177 : Ann := (.q (.blk (.q (.n .z (.n (.q (.blk (.loop [(0,.p),(1,.p),(2,.l),(3,.sc (.int .u64))] (.n (.q (.cond .z .z)) (.seq (some [(0,.p),(1,.p),(2,.l),(3,.sc (.int .u64))]) (.blk (.n (.q (.blk (.loop [(0,.p),(1,.p),(2,.l),(3,.sc (.int .u64)),(14,.l),(15,.i),(16,.i)] (.q (.n (.cond .z .z) (.n (.blk (.q (.q (.cond .z .z)))) .r)))))) .r)) .r))))) (.n (.q (.blk (.loop [(0,.p),(1,.p),(2,.l),(29,.l),(30,.i),(31,.i)] (.q (.n (.cond .z .z) (.n (.blk (.q .r)) .r)))))) (.n (.q (.blk (.loop [(0,.p),(1,.p),(2,.l),(41,.i)] (.q (.n (.cond .z .z) (.n (.blk (.q .r)) .r)))))) (.n (.reg (rn 4) [[],[],[0],[0,1,2]]) .z))))))))
def g177  (K : KH) : H -> Prop :=
 alW (.cells ⟨[.int .u32 0, .int .u32 0, .int .u32 0, .int .u32 0, .int .u32 0, .int .u32 0, .int .u32 0, .int .u32 0]⟩ 194 (0, 0)) (fun b1 =>
 alW (.cells ⟨[.int .u32 0, .int .u32 0, .int .u32 0, .int .u32 0, .int .u32 0, .int .u32 0, .int .u32 0, .int .u32 0, .int .u32 0, .int .u32 0, .int .u32 0, .int .u32 0, .int .u32 0, .int .u32 0, .int .u32 0, .int .u32 0, .int .u32 0, .int .u32 0, .int .u32 0, .int .u32 0, .int .u32 0, .int .u32 0, .int .u32 0, .int .u32 0, .int .u32 0, .int .u32 0, .int .u32 0, .int .u32 0, .int .u32 0, .int .u32 0, .int .u32 0, .int .u32 0, .int .u32 0, .int .u32 0, .int .u32 0, .int .u32 0, .int .u32 0, .int .u32 0, .int .u32 0, .int .u32 0, .int .u32 0, .int .u32 0, .int .u32 0, .int .u32 0, .int .u32 0, .int .u32 0, .int .u32 0, .int .u32 0, .int .u32 0, .int .u32 0, .int .u32 0, .int .u32 0, .int .u32 0, .int .u32 0, .int .u32 0, .int .u32 0, .int .u32 0, .int .u32 0, .int .u32 0, .int .u32 0, .int .u32 0, .int .u32 0, .int .u32 0, .int .u32 0]⟩ 195 (0, 0)) (fun b2 =>
 loopW [.sc .ptr, .sc .ptr, .sc .slc, .sc (.int .u64)] (fun (R3 : Option Addr -> Option Addr -> Sl -> Int -> H -> Prop) => (fun (v4 : Option Addr) (v5 : Option Addr) (v6 : Sl) (v7 : Int) => brW (decide (((v6.len : Nat) : Int) < 64)) (letJ (T := Option Addr -> Option Addr -> Sl -> Int -> H -> Prop) (fun v9 v10 v11 v12 => R3 v9 v10 v11 (IntKind.u64.wrap (v12 + 1))) (fun j8 =>
 loopW [.sc .ptr, .sc .ptr, .sc .slc, .sc (.int .u64), .sc .slc, .sc (.int .i64), .sc (.int .i64)] (fun (R13 : Option Addr -> Option Addr -> Sl -> Int -> Sl -> Int -> Int -> H -> Prop) => (fun (v14 : Option Addr) (v15 : Option Addr) (v16 : Sl) (v17 : Int) (x18 : Sl) (x19 : Int) (x20 : Int) => brW (decide ((x20 : Int) < x19)) (ptrW x18.base (fun b21 o22 => ifW (0 <= x20 /\ x20 < ((x18.len : Nat) : Int)) (rdT (rdC b21 (o22 + x20.toNat * 1)) (.one (.sc (.int .u64))) (fun (x23 : Int) =>
 ifW (x23 ≠ 0) (brW (((Int.tmod v17 x23) : Int) == 0) (j8 v14 v15 v16 v17) (R13 v14 v15 v16 v17 x18 x19 (IntKind.i64.wrap (x20 + 1)))))))) (alW (.cells ⟨[.int .u64 v17]⟩ 138 (0, 0)) (fun b24 => biW Tryz.prog .append #[224, 224] 224 [false, false] [.slice v16.base v16.len v16.cap, .slice (some ⟨b24, 0, none⟩) 1 1] kL (fun x25 =>
 j8 v14 v15 x25 v17))))) (fun (R26 : Option Addr -> Option Addr -> Sl -> Int -> Sl -> Int -> Int -> H -> Prop) => R26 v4 v5 v6 v7 v6 ((v6.len : Nat) : Int) 0))) (loopW [.sc .ptr, .sc .ptr, .sc .slc, .sc .slc, .sc (.int .i64), .sc (.int .i64)] (fun (R27 : Option Addr -> Option Addr -> Sl -> Sl -> Int -> Int -> H -> Prop) => (fun (v28 : Option Addr) (v29 : Option Addr) (v30 : Sl) (x31 : Sl) (x32 : Int) (x33 : Int) => brW (decide ((x33 : Int) < x32)) (ptrW x31.base (fun b34 o35 =>
 ifW (0 <= x33 /\ x33 < ((x31.len : Nat) : Int)) (rdT (rdC b34 (o35 + x33.toNat * 1)) (.one (.sc (.int .u64))) (fun (x36 : Int) => callT Tryz.prog 214 [.int .u64 x36, .func (.func 215) ⟨[]⟩ ⟨[]⟩] (.one (.sc (.int .u32))) (fun (x37 : Int) => ptrW v29 (fun b38 o39 => ifW (0 <= x33 /\ x33 < ((64 : Nat) : Int)) (stW Tryz.prog 188 (.pointer (some ⟨b38, o39 + x33.toNat * 1, none⟩)) (.int .u32 x37) (R27 v28 v29 v30 x31 x32 (IntKind.i64.wrap (x33 + 1))))))))))
 (loopW [.sc .ptr, .sc .ptr, .sc .slc, .sc (.int .i64)] (fun (R40 : Option Addr -> Option Addr -> Sl -> Int -> H -> Prop) => (fun (v41 : Option Addr) (v42 : Option Addr) (v43 : Sl) (x44 : Int) => brW (decide ((x44 : Int) < 8)) (ptrW v43.base (fun b45 o46 => ifW (0 <= x44 /\ x44 < ((v43.len : Nat) : Int)) (rdT (rdC b45 (o46 + x44.toNat * 1)) (.one (.sc (.int .u64))) (fun (x47 : Int) =>
 callT Tryz.prog 214 [.int .u64 x47, .func (.func 216) ⟨[]⟩ ⟨[]⟩] (.one (.sc (.int .u32))) (fun (x48 : Int) => ptrW v41 (fun b49 o50 => ifW (0 <= x44 /\ x44 < ((8 : Nat) : Int)) (stW Tryz.prog 188 (.pointer (some ⟨b49, o50 + x44.toNat * 1, none⟩)) (.int .u32 x48) (R40 v41 v42 v43 (IntKind.i64.wrap (x44 + 1)))))))))) (ptrW v41 (fun b51 o52 =>
 rdT (rdA 8 b51 o52) (.one (.agg [(.int .u32), (.int .u32), (.int .u32), (.int .u32), (.int .u32), (.int .u32), (.int .u32), (.int .u32)])) (fun (x53 : Int) (x54 : Int) (x55 : Int) (x56 : Int) (x57 : Int) (x58 : Int) (x59 : Int) (x60 : Int) => ptrW v42 (fun b61 o62 => rdT (rdA 64 b61 o62) kR (fun x63 =>
 stW Tryz.prog 194 (.pointer v41) (.agg ⟨[.int .u32 x53, .int .u32 x54, .int .u32 x55, .int .u32 x56, .int .u32 x57, .int .u32 x58, .int .u32 x59, .int .u32 x60]⟩) (andW (fun σ => (rdA 64 b61 o62) σ = some (x63)) (stW Tryz.prog 195 (.pointer v42) (x63) (ptrW v41 (fun b64 o65 =>
 rdT (rdA 8 b64 o65) (.one (.agg [(.int .u32), (.int .u32), (.int .u32), (.int .u32), (.int .u32), (.int .u32), (.int .u32), (.int .u32)])) (fun (r66 : Int) (r67 : Int) (r68 : Int) (r69 : Int) (r70 : Int) (r71 : Int) (r72 : Int) (r73 : Int) => ptrW v42 (fun b74 o75 => rdT (rdA 64 b74 o75) kR (fun r76 =>
 K (.tuple ⟨[.agg ⟨[.int .u32 r66, .int .u32 r67, .int .u32 r68, .int .u32 r69, .int .u32 r70, .int .u32 r71, .int .u32 r72, .int .u32 r73]⟩, r76]⟩))))))))))))))) (fun (R77 : Option Addr -> Option Addr -> Sl -> Int -> H -> Prop) => R77 v28 v29 v30 0)))) (fun (R78 : Option Addr -> Option Addr -> Sl -> Sl -> Int -> Int -> H -> Prop) => R78 v4 v5 v6 v6 ((v6.len : Nat) : Int) 0)))) (fun (R79 : Option Addr -> Option Addr -> Sl -> Int -> H -> Prop) => R79 (some ⟨b1, 0, none⟩) (some ⟨b2, 0, none⟩) ⟨none, 0, 0⟩ 2)))
theorem c177  {K : KH} {σ : H} : g177  K σ -> callW Tryz.prog 177 [] K σ := call_k an177 Tryz.func177 (by kernel_rfl)


def an178 : Ann := (.q (.q .z))
def g178 (v1 : ByteArray) (K : KH) : H -> Prop :=
 alW (.cells ⟨[.string v1]⟩ 9 (0, 0)) (fun b2 => K (.func (.func 217) ⟨[]⟩ ⟨[.pointer (some ⟨b2, 0, none⟩)]⟩))
theorem c178 (v1 : ByteArray) {K : KH} {σ : H} : g178 v1 K σ -> callW Tryz.prog 178 [.string v1] K σ := call_k an178 Tryz.func178 (by kernel_rfl)


def an179 : Ann := (.q (.q (.q (.n (.q (.blk (.loop [(1,.l),(2,.p),(3,.p),(6,.p),(7,.w),(8,.p),(15,.i)] (.q (.n (.cond .z .z) (.seq (some [(1,.l),(2,.p),(3,.p),(6,.p),(7,.w),(8,.p),(15,.i)]) (.blk (.q (.n (.q (.cond (.n (.reg (rn 36) [[],[],[],[2],[1,2,3],[1,2,3,4],[1,2,3,4,5],[1,2,3,4,5,6],[],[],[9],[9,10],[8,9,10,11],[8,9,10,11,12],[8,9,10,11,12,13],[8,9,10,11,12,13,14],[1,2,3,4,5,6,7,8,9,10,11,12,13,14,15],[],[],[18],[18,19],[17,18,19,20],[17,18,19,20,21],[17,18,19,20,21,22],[17,18,19,20,21,22,23],[1,2,3,4,5,6,7,8,9,10,11,12,13,14,15,16,17,18,19,20,21,22,23,24],[],[],[27],[27,28],[26,27,28,29],[26,27,28,29,30],[26,27,28,29,30,31],[1,2,3,4,5,6,7,8,9,10,11,12,13,14,15,16,17,18,19,20,21,22,23,24,25,26,27,28,29,30,31,32],(rn 34),(rn 35)]) .z) .z)) (.reg [0,1,2,3,4,5,6,7,8,9,12,13,14,15,16,19,20,21,22,24,25,26,27,28,31,32,33,34,10,11,17,18,23,29,30,35,36,37,38,39] [[],[],[1],[1,2],[1,2,3],[],[],[6],[6,7],[6,7,8],[],[5,6,7,8,9,10],[],[12],[12,13],[12,13,14],[12,13,14,15],[5,6,7,8,9,10,11,12,13,14,15,16],[1,2,3,4,5,6,7,8,9,10,11,12,13,14,15,16,17],[],[19],[19,20],[19,20,21],[1,2,3,4,5,6,7,8,9,10,11,12,13,14,15,16,17,18,19,20,21,22],[],[],[25],[25,26],[25,26,27],[],[5,6,7,8,9,10,11,24,25,26,27,28,29],[],[31],[31,32],[31,32,33],[31,32,33,34],[5,6,7,8,9,10,11,24,25,26,27,28,29,30,31,32,33,34,35],[1,2,3,4,5,6,7,8,9,10,11,12,13,14,15,16,17,18,19,20,21,22,23,24,25,26,27,28,29,30,31,32,33,34,35,36],(rn 38),(rn 39)])))) .r)))))) (.q (.n (.q (.blk (.loop [(2,.p),(3,.p),(6,.p),(7,.w),(8,.p),(10,.p),(96,.i)] (.q (.n (.cond .z .z) (.n (.blk (.q (.n (.reg [0,1,2,3,4,8,9,10,11,12,13,14,15,16,17,18,19,21,22,23,24,25,27,28,29,5,6,7,20,26,30,31] [[],[0],[],[],[3],[],[2,3,4,5],(rn 7),[],[8],[],[10],[8,9,10,11],[],[13],[13,14],[],[16],[13,14,15,16,17],[8,9,10,11,12,13,14,15,16,17,18],(rn 20),[],[],[21],[21,22,23],[21,22,23,24],(rn 26),[],[27],[27,28],(rn 30),(rn 31)]) (.n (.reg [0,1,2,5,6,7,8,9,10,11,12,13,14,15,16,17,18,19,3,4,20,21,22,23] [[],[],[1],[],(rn 4),[],[5],[],[7],[5,6,7,8],[],[10],[],[12],[10,11,12,13],[5,6,7,8,9,10,11,12,13,14],[],[16],[],[18],[16,17,18,19],[5,6,7,8,9,10,11,12,13,14,15,16,17,18,19,20],(rn 22),(rn 23)]) .r)))) .r)))))) (.n (.q (.blk (.loop [(3,.p),(6,.p),(10,.p),(174,.i)] (.q (.n (.cond .z .z) (.n (.blk (.q (.reg (rn 9) [[],[0],[0,1],[],[3],[3,4],(rn 6),(rn 7),(rn 8)]))) .r)))))) (.q .z))))))))
def g179 (v1 : Int) (v2 : Int) (v3 : Int) (v4 : Int) (v5 : Int) (v6 : Int) (v7 : Int) (v8 : Int) (v9 : Sl) (v10 : Option Addr) (K : KH) : H -> Prop :=
 alW (.cells ⟨[.int .u32 v1, .int .u32 v2, .int .u32 v3, .int .u32 v4, .int .u32 v5, .int .u32 v6, .int .u32 v7, .int .u32 v8]⟩ 194 (0, 0)) (fun b11 => alW (.cells ⟨[.int .u32 0, .int .u32 0, .int .u32 0, .int .u32 0, .int .u32 0, .int .u32 0, .int .u32 0, .int .u32 0]⟩ 194 (0, 0)) (fun b12 =>
 alW (.cells ⟨[.int .u32 0, .int .u32 0, .int .u32 0, .int .u32 0, .int .u32 0, .int .u32 0, .int .u32 0, .int .u32 0, .int .u32 0, .int .u32 0, .int .u32 0, .int .u32 0, .int .u32 0, .int .u32 0, .int .u32 0, .int .u32 0, .int .u32 0, .int .u32 0, .int .u32 0, .int .u32 0, .int .u32 0, .int .u32 0, .int .u32 0, .int .u32 0, .int .u32 0, .int .u32 0, .int .u32 0, .int .u32 0, .int .u32 0, .int .u32 0, .int .u32 0, .int .u32 0, .int .u32 0, .int .u32 0, .int .u32 0, .int .u32 0, .int .u32 0, .int .u32 0, .int .u32 0, .int .u32 0, .int .u32 0, .int .u32 0, .int .u32 0, .int .u32 0, .int .u32 0, .int .u32 0, .int .u32 0, .int .u32 0, .int .u32 0, .int .u32 0, .int .u32 0, .int .u32 0, .int .u32 0, .int .u32 0, .int .u32 0, .int .u32 0, .int .u32 0, .int .u32 0, .int .u32 0, .int .u32 0, .int .u32 0, .int .u32 0, .int .u32 0, .int .u32 0]⟩ 195 (0, 0)) (fun b13 =>
 loopW [.sc .slc, .sc .ptr, .sc .ptr, .sc .ptr, .sc .raw, .sc .ptr, .sc (.int .i64)] (fun (R14 : Sl -> Option Addr -> Option Addr -> Option Addr -> Value -> Option Addr -> Int -> H -> Prop) => (fun (v15 : Sl) (v16 : Option Addr) (v17 : Option Addr) (x18 : Option Addr) (v19 : Value) (v20 : Option Addr) (x21 : Int) => brW (decide ((x21 : Int) < 64)) (letJ (T := Sl -> Option Addr -> Option Addr -> Option Addr -> Value -> Option Addr -> Int -> H -> Prop) (fun v23 v24 v25 x26 v27 v28 x29 =>
 R14 v23 v24 v25 x26 v27 v28 (IntKind.i64.wrap (x29 + 1))) (fun j22 => brW (decide ((x21 : Int) < 16)) (ptrW v15.base (fun b30 o31 => ifW (0 <= IntKind.i64.wrap (4 * x21) /\ IntKind.i64.wrap (4 * x21) < ((v15.len : Nat) : Int)) (rdT (rdC b30 (o31 + (IntKind.i64.wrap (4 * x21) : Int).toNat * 1)) kC (fun (x32 : Int) => ifW (0 <= (24 : Int)) (ptrW v15.base (fun b33 o34 =>
 ifW (0 <= IntKind.i64.wrap ((IntKind.i64.wrap (4 * x21)) + 1) /\ IntKind.i64.wrap ((IntKind.i64.wrap (4 * x21)) + 1) < ((v15.len : Nat) : Int)) (rdT (rdC b33 (o34 + (IntKind.i64.wrap ((IntKind.i64.wrap (4 * x21)) + 1) : Int).toNat * 1)) kC (fun (x35 : Int) => ifW (0 <= (16 : Int)) (ptrW v15.base (fun b36 o37 => ifW (0 <= IntKind.i64.wrap ((IntKind.i64.wrap (4 * x21)) + 2) /\ IntKind.i64.wrap ((IntKind.i64.wrap (4 * x21)) + 2) < ((v15.len : Nat) : Int))
 (rdT (rdC b36 (o37 + (IntKind.i64.wrap ((IntKind.i64.wrap (4 * x21)) + 2) : Int).toNat * 1)) kC (fun (x38 : Int) => ifW (0 <= (8 : Int)) (ptrW v15.base (fun b39 o40 => ifW (0 <= IntKind.i64.wrap ((IntKind.i64.wrap (4 * x21)) + 3) /\ IntKind.i64.wrap ((IntKind.i64.wrap (4 * x21)) + 3) < ((v15.len : Nat) : Int)) (rdT (rdC b39 (o40 + (IntKind.i64.wrap ((IntKind.i64.wrap (4 * x21)) + 3) : Int).toNat * 1)) kC (fun (x41 : Int) => ptrW v20 (fun b42 o43 => ifW (0 <= x21 /\ x21 < ((64 : Nat) : Int))
 (stW Tryz.prog 188 (.pointer (some ⟨b42, o43 + x21.toNat * 1, none⟩)) (.int .u32 (bitV .or .u32 (bitV .or .u32 (bitV .or .u32 (IntKind.u32.wrap ((IntKind.u32.wrap x32) * 2 ^ min (Int.toNat 24) (IntKind.bits .u32))) (IntKind.u32.wrap ((IntKind.u32.wrap x35) * 2 ^ min (Int.toNat 16) (IntKind.bits .u32)))) (IntKind.u32.wrap ((IntKind.u32.wrap x38) * 2 ^ min (Int.toNat 8) (IntKind.bits .u32)))) (IntKind.u32.wrap x41))) (j22 v15 v16 v17 x18 v19 v20 x21)))))))))))))))))))
 (ptrW v20 (fun b44 o45 => ifW (0 <= IntKind.i64.wrap (x21 - 16) /\ IntKind.i64.wrap (x21 - 16) < ((64 : Nat) : Int)) (rdT (rdC b44 (o45 + (IntKind.i64.wrap (x21 - 16) : Int).toNat * 1)) (.one (.sc (.int .u32))) (fun (x46 : Int) => ptrW v20 (fun b47 o48 => ifW (0 <= IntKind.i64.wrap (x21 - 15) /\ IntKind.i64.wrap (x21 - 15) < ((64 : Nat) : Int)) (rdT (rdC b47 (o48 + (IntKind.i64.wrap (x21 - 15) : Int).toNat * 1)) (.one (.sc (.int .u32))) (fun (x49 : Int) => ptrW v20 (fun b50 o51 =>
 ifW (0 <= IntKind.i64.wrap (x21 - 15) /\ IntKind.i64.wrap (x21 - 15) < ((64 : Nat) : Int)) (rdT (rdC b50 (o51 + (IntKind.i64.wrap (x21 - 15) : Int).toNat * 1)) (.one (.sc (.int .u32))) (fun (x52 : Int) => ifW (0 <= (3 : Int)) (ptrW v20 (fun b53 o54 => ifW (0 <= IntKind.i64.wrap (x21 - 7) /\ IntKind.i64.wrap (x21 - 7) < ((64 : Nat) : Int)) (rdT (rdC b53 (o54 + (IntKind.i64.wrap (x21 - 7) : Int).toNat * 1)) (.one (.sc (.int .u32))) (fun (x55 : Int) => ptrW v20 (fun b56 o57 =>
 ifW (0 <= IntKind.i64.wrap (x21 - 2) /\ IntKind.i64.wrap (x21 - 2) < ((64 : Nat) : Int)) (rdT (rdC b56 (o57 + (IntKind.i64.wrap (x21 - 2) : Int).toNat * 1)) (.one (.sc (.int .u32))) (fun (x58 : Int) => ptrW v20 (fun b59 o60 => ifW (0 <= IntKind.i64.wrap (x21 - 2) /\ IntKind.i64.wrap (x21 - 2) < ((64 : Nat) : Int)) (rdT (rdC b59 (o60 + (IntKind.i64.wrap (x21 - 2) : Int).toNat * 1)) (.one (.sc (.int .u32))) (fun (x61 : Int) => alW (.cells ⟨[.int .i64 7, .int .i64 18]⟩ 3 (0, 0)) (fun b62 =>
 cvalT Tryz.prog v19 [.int .u32 x49, .slice (some ⟨b62, 0, none⟩) 2 2] (.one (.sc (.int .u32))) (fun (x63 : Int) => andW (fun σ => (rdC b59 (o60 + (IntKind.i64.wrap (x21 - 2) : Int).toNat * 1)) σ = some (.int .u32 x61)) (andW (fun σ => (rdC b56 (o57 + (IntKind.i64.wrap (x21 - 2) : Int).toNat * 1)) σ = some (.int .u32 x58)) (andW (fun σ => (rdC b53 (o54 + (IntKind.i64.wrap (x21 - 7) : Int).toNat * 1)) σ = some (.int .u32 x55))
 (andW (fun σ => (rdC b50 (o51 + (IntKind.i64.wrap (x21 - 15) : Int).toNat * 1)) σ = some (.int .u32 x52)) (andW (fun σ => (rdC b44 (o45 + (IntKind.i64.wrap (x21 - 16) : Int).toNat * 1)) σ = some (.int .u32 x46)) (alW (.cells ⟨[.int .i64 17, .int .i64 19]⟩ 3 (0, 0)) (fun b64 => cvalT Tryz.prog v19 [.int .u32 x58, .slice (some ⟨b64, 0, none⟩) 2 2] (.one (.sc (.int .u32))) (fun (x65 : Int) =>
 andW (fun σ => (rdC b59 (o60 + (IntKind.i64.wrap (x21 - 2) : Int).toNat * 1)) σ = some (.int .u32 x61)) (andW (fun σ => (rdC b53 (o54 + (IntKind.i64.wrap (x21 - 7) : Int).toNat * 1)) σ = some (.int .u32 x55)) (andW (fun σ => (rdC b50 (o51 + (IntKind.i64.wrap (x21 - 15) : Int).toNat * 1)) σ = some (.int .u32 x52)) (andW (fun σ => (rdC b44 (o45 + (IntKind.i64.wrap (x21 - 16) : Int).toNat * 1)) σ = some (.int .u32 x46)) (ifW (0 <= (10 : Int)) (ptrW v20 (fun b66 o67 =>
 ifW (0 <= x21 /\ x21 < ((64 : Nat) : Int)) (stW Tryz.prog 188 (.pointer (some ⟨b66, o67 + x21.toNat * 1, none⟩)) (.int .u32 (IntKind.u32.wrap ((IntKind.u32.wrap ((IntKind.u32.wrap (x46 + (bitV .xor .u32 x63 (Int.fdiv x52 (2 ^ min (Int.toNat 3) (IntKind.bits .u32)))))) + x55)) + (bitV .xor .u32 x65 (Int.fdiv x61 (2 ^ min (Int.toNat 10) (IntKind.bits .u32))))))) (j22 v15 v16 v17 x18 v19 v20 x21))))))))))))))))))))))))))))))))))))))) (ptrW v17 (fun b68 o69 =>
 rdT (rdA 8 b68 o69) (.one (.agg [(.int .u32), (.int .u32), (.int .u32), (.int .u32), (.int .u32), (.int .u32), (.int .u32), (.int .u32)])) (fun (x70 : Int) (x71 : Int) (x72 : Int) (x73 : Int) (x74 : Int) (x75 : Int) (x76 : Int) (x77 : Int) => alW (.cells ⟨[.int .u32 0, .int .u32 0, .int .u32 0, .int .u32 0, .int .u32 0, .int .u32 0, .int .u32 0, .int .u32 0]⟩ 194 (0, 0)) (fun b78 =>
 stW Tryz.prog 194 (.pointer (some ⟨b78, 0, none⟩)) (.agg ⟨[.int .u32 x70, .int .u32 x71, .int .u32 x72, .int .u32 x73, .int .u32 x74, .int .u32 x75, .int .u32 x76, .int .u32 x77]⟩) (loopW [.sc .ptr, .sc .ptr, .sc .ptr, .sc .raw, .sc .ptr, .sc .ptr, .sc (.int .i64)] (fun (R79 : Option Addr -> Option Addr -> Option Addr -> Value -> Option Addr -> Option Addr -> Int -> H -> Prop) => (fun (v80 : Option Addr) (v81 : Option Addr) (x82 : Option Addr) (v83 : Value) (v84 : Option Addr) (v85 : Option Addr) (x86 : Int) =>
 brW (decide ((x86 : Int) < 64)) (ptrW v85 (fun b87 o88 => ifW (0 <= (7 : Int) /\ (7 : Int) < ((8 : Nat) : Int)) (rdT (rdC b87 (o88 + (7 : Int).toNat * 1)) (.one (.sc (.int .u32))) (fun (x89 : Int) => ptrW v85 (fun b90 o91 => ifW (0 <= (4 : Int) /\ (4 : Int) < ((8 : Nat) : Int)) (rdT (rdC b90 (o91 + (4 : Int).toNat * 1)) (.one (.sc (.int .u32))) (fun (x92 : Int) => ptrW v85 (fun b93 o94 => ifW (0 <= (4 : Int) /\ (4 : Int) < ((8 : Nat) : Int))
 (rdT (rdC b93 (o94 + (4 : Int).toNat * 1)) (.one (.sc (.int .u32))) (fun (x95 : Int) => ptrW v85 (fun b96 o97 => ifW (0 <= (5 : Int) /\ (5 : Int) < ((8 : Nat) : Int)) (rdT (rdC b96 (o97 + (5 : Int).toNat * 1)) (.one (.sc (.int .u32))) (fun (x98 : Int) => ptrW v85 (fun b99 o100 => ifW (0 <= (4 : Int) /\ (4 : Int) < ((8 : Nat) : Int)) (rdT (rdC b99 (o100 + (4 : Int).toNat * 1)) (.one (.sc (.int .u32))) (fun (x101 : Int) => ptrW v85 (fun b102 o103 =>
 ifW (0 <= (6 : Int) /\ (6 : Int) < ((8 : Nat) : Int)) (rdT (rdC b102 (o103 + (6 : Int).toNat * 1)) (.one (.sc (.int .u32))) (fun (x104 : Int) => ptrW v80 (fun b105 o106 => ifW (0 <= x86 /\ x86 < ((64 : Nat) : Int)) (rdT (rdC b105 (o106 + x86.toNat * 1)) (.one (.sc (.int .u32))) (fun (x107 : Int) => ptrW v84 (fun b108 o109 => ifW (0 <= x86 /\ x86 < ((64 : Nat) : Int)) (rdT (rdC b108 (o109 + x86.toNat * 1)) (.one (.sc (.int .u32))) (fun (x110 : Int) =>
 alW (.cells ⟨[.int .i64 6, .int .i64 11, .int .i64 25]⟩ 3 (0, 0)) (fun b111 => cvalT Tryz.prog v83 [.int .u32 x92, .slice (some ⟨b111, 0, none⟩) 3 3] (.one (.sc (.int .u32))) (fun (x112 : Int) => andW (fun σ => (rdC b108 (o109 + x86.toNat * 1)) σ = some (.int .u32 x110)) (andW (fun σ => (rdC b105 (o106 + x86.toNat * 1)) σ = some (.int .u32 x107)) (andW (fun σ => (rdC b102 (o103 + (6 : Int).toNat * 1)) σ = some (.int .u32 x104))
 (andW (fun σ => (rdC b99 (o100 + (4 : Int).toNat * 1)) σ = some (.int .u32 x101)) (andW (fun σ => (rdC b96 (o97 + (5 : Int).toNat * 1)) σ = some (.int .u32 x98)) (andW (fun σ => (rdC b93 (o94 + (4 : Int).toNat * 1)) σ = some (.int .u32 x95)) (andW (fun σ => (rdC b87 (o88 + (7 : Int).toNat * 1)) σ = some (.int .u32 x89)) (ptrW v85 (fun b113 o114 => ifW (0 <= (0 : Int) /\ (0 : Int) < ((8 : Nat) : Int)) (rdT (rdC b113 (o114 + (0 : Int).toNat * 1)) (.one (.sc (.int .u32))) (fun (x115 : Int) =>
 ptrW v85 (fun b116 o117 => ifW (0 <= (0 : Int) /\ (0 : Int) < ((8 : Nat) : Int)) (rdT (rdC b116 (o117 + (0 : Int).toNat * 1)) (.one (.sc (.int .u32))) (fun (x118 : Int) => ptrW v85 (fun b119 o120 => ifW (0 <= (1 : Int) /\ (1 : Int) < ((8 : Nat) : Int)) (rdT (rdC b119 (o120 + (1 : Int).toNat * 1)) (.one (.sc (.int .u32))) (fun (x121 : Int) => ptrW v85 (fun b122 o123 => ifW (0 <= (0 : Int) /\ (0 : Int) < ((8 : Nat) : Int))
 (rdT (rdC b122 (o123 + (0 : Int).toNat * 1)) (.one (.sc (.int .u32))) (fun (x124 : Int) => ptrW v85 (fun b125 o126 => ifW (0 <= (2 : Int) /\ (2 : Int) < ((8 : Nat) : Int)) (rdT (rdC b125 (o126 + (2 : Int).toNat * 1)) (.one (.sc (.int .u32))) (fun (x127 : Int) => ptrW v85 (fun b128 o129 => ifW (0 <= (1 : Int) /\ (1 : Int) < ((8 : Nat) : Int)) (rdT (rdC b128 (o129 + (1 : Int).toNat * 1)) (.one (.sc (.int .u32))) (fun (x130 : Int) => ptrW v85 (fun b131 o132 =>
 ifW (0 <= (2 : Int) /\ (2 : Int) < ((8 : Nat) : Int)) (rdT (rdC b131 (o132 + (2 : Int).toNat * 1)) (.one (.sc (.int .u32))) (fun (x133 : Int) => alW (.cells ⟨[.int .i64 2, .int .i64 13, .int .i64 22]⟩ 3 (0, 0)) (fun b134 => cvalT Tryz.prog v83 [.int .u32 x115, .slice (some ⟨b134, 0, none⟩) 3 3] (.one (.sc (.int .u32))) (fun (x135 : Int) => andW (fun σ => (rdC b131 (o132 + (2 : Int).toNat * 1)) σ = some (.int .u32 x133))
 (andW (fun σ => (rdC b128 (o129 + (1 : Int).toNat * 1)) σ = some (.int .u32 x130)) (andW (fun σ => (rdC b125 (o126 + (2 : Int).toNat * 1)) σ = some (.int .u32 x127)) (andW (fun σ => (rdC b122 (o123 + (0 : Int).toNat * 1)) σ = some (.int .u32 x124)) (andW (fun σ => (rdC b119 (o120 + (1 : Int).toNat * 1)) σ = some (.int .u32 x121)) (andW (fun σ => (rdC b116 (o117 + (0 : Int).toNat * 1)) σ = some (.int .u32 x118)) (ptrW v85 (fun b136 o137 => ifW (0 <= (0 : Int) /\ (0 : Int) < ((8 : Nat) : Int))
 (rdT (rdC b136 (o137 + (0 : Int).toNat * 1)) (.one (.sc (.int .u32))) (fun (x138 : Int) => ptrW v85 (fun b139 o140 => ifW (0 <= (1 : Int) /\ (1 : Int) < ((8 : Nat) : Int)) (rdT (rdC b139 (o140 + (1 : Int).toNat * 1)) (.one (.sc (.int .u32))) (fun (x141 : Int) => ptrW v85 (fun b142 o143 => ifW (0 <= (2 : Int) /\ (2 : Int) < ((8 : Nat) : Int)) (rdT (rdC b142 (o143 + (2 : Int).toNat * 1)) (.one (.sc (.int .u32))) (fun (x144 : Int) => ptrW v85 (fun b145 o146 =>
 ifW (0 <= (3 : Int) /\ (3 : Int) < ((8 : Nat) : Int)) (rdT (rdC b145 (o146 + (3 : Int).toNat * 1)) (.one (.sc (.int .u32))) (fun (x147 : Int) => ptrW v85 (fun b148 o149 => ifW (0 <= (4 : Int) /\ (4 : Int) < ((8 : Nat) : Int)) (rdT (rdC b148 (o149 + (4 : Int).toNat * 1)) (.one (.sc (.int .u32))) (fun (x150 : Int) => ptrW v85 (fun b151 o152 => ifW (0 <= (5 : Int) /\ (5 : Int) < ((8 : Nat) : Int)) (rdT (rdC b151 (o152 + (5 : Int).toNat * 1)) (.one (.sc (.int .u32))) (fun (x153 : Int) =>
 ptrW v85 (fun b154 o155 => ifW (0 <= (6 : Int) /\ (6 : Int) < ((8 : Nat) : Int)) (rdT (rdC b154 (o155 + (6 : Int).toNat * 1)) (.one (.sc (.int .u32))) (fun (x156 : Int) =>
 stW Tryz.prog 194 (.pointer v85) (.agg ⟨[.int .u32 (IntKind.u32.wrap ((IntKind.u32.wrap ((IntKind.u32.wrap ((IntKind.u32.wrap ((IntKind.u32.wrap (x89 + x112)) + (bitV .xor .u32 (bitV .and .u32 x95 x98) (bitV .and .u32 (bitV .xor .u32 4294967295 x101) x104)))) + x107)) + x110)) + (IntKind.u32.wrap (x135 + (bitV .xor .u32 (bitV .xor .u32 (bitV .and .u32 x118 x121) (bitV .and .u32 x124 x127)) (bitV .and .u32 x130 x133)))))), .int .u32 x138, .int .u32 x141, .int .u32 x144, .int .u32 (IntKind.u32.wrap (x147 + (IntKind.u32.wrap ((IntKind.u32.wrap ((IntKind.u32.wrap ((IntKind.u32.wrap (x89 + x112)) + (bitV .xor .u32 (bitV .and .u32 x95 x98) (bitV .and .u32 (bitV .xor .u32 4294967295 x101) x104)))) + x107)) + x110)))), .int .u32 x150, .int .u32 x153, .int .u32 x156]⟩) (R79 v80 v81 x82 v83 v84 v85 (IntKind.i64.wrap (x86 + 1)))))))))))))))))))))))))))))))))))))))))))))))))))))))))))))))))))))))))))))))))))))))
 (loopW [.sc .ptr, .sc .ptr, .sc .ptr, .sc (.int .i64)] (fun (R157 : Option Addr -> Option Addr -> Option Addr -> Int -> H -> Prop) => (fun (v158 : Option Addr) (x159 : Option Addr) (v160 : Option Addr) (x161 : Int) => brW (decide ((x161 : Int) < 8)) (ptrW v158 (fun b162 o163 => ifW (0 <= x161 /\ x161 < ((8 : Nat) : Int)) (rdT (rdC b162 (o163 + x161.toNat * 1)) (.one (.sc (.int .u32))) (fun (x164 : Int) => ptrW v160 (fun b165 o166 => ifW (0 <= x161 /\ x161 < ((8 : Nat) : Int))
 (rdT (rdC b165 (o166 + x161.toNat * 1)) (.one (.sc (.int .u32))) (fun (x167 : Int) => ptrW v158 (fun b168 o169 => ifW (0 <= x161 /\ x161 < ((8 : Nat) : Int)) (stW Tryz.prog 188 (.pointer (some ⟨b168, o169 + x161.toNat * 1, none⟩)) (.int .u32 (IntKind.u32.wrap (x164 + x167))) (R157 v158 x159 v160 (IntKind.i64.wrap (x161 + 1)))))))))))) (ptrW v158 (fun b170 o171 =>
 rdT (rdA 8 b170 o171) (.one (.agg [(.int .u32), (.int .u32), (.int .u32), (.int .u32), (.int .u32), (.int .u32), (.int .u32), (.int .u32)])) (fun (x172 : Int) (x173 : Int) (x174 : Int) (x175 : Int) (x176 : Int) (x177 : Int) (x178 : Int) (x179 : Int) => stW Tryz.prog 194 (.pointer x159) (.agg ⟨[.int .u32 x172, .int .u32 x173, .int .u32 x174, .int .u32 x175, .int .u32 x176, .int .u32 x177, .int .u32 x178, .int .u32 x179]⟩) (ptrW x159 (fun b180 o181 =>
 rdT (rdA 8 b180 o181) (.one (.agg [(.int .u32), (.int .u32), (.int .u32), (.int .u32), (.int .u32), (.int .u32), (.int .u32), (.int .u32)])) (fun (r182 : Int) (r183 : Int) (r184 : Int) (r185 : Int) (r186 : Int) (r187 : Int) (r188 : Int) (r189 : Int) =>
 K (.agg ⟨[.int .u32 r182, .int .u32 r183, .int .u32 r184, .int .u32 r185, .int .u32 r186, .int .u32 r187, .int .u32 r188, .int .u32 r189]⟩))))))))) (fun (R190 : Option Addr -> Option Addr -> Option Addr -> Int -> H -> Prop) => R190 v81 x82 v85 0)))) (fun (R191 : Option Addr -> Option Addr -> Option Addr -> Value -> Option Addr -> Option Addr -> Int -> H -> Prop) => R191 v16 v17 x18 v19 v20 (some ⟨b78, 0, none⟩) 0)))))))) (fun (R192 : Sl -> Option Addr -> Option Addr -> Option Addr -> Value -> Option Addr -> Int -> H -> Prop) => R192 v9 v10 (some ⟨b11, 0, none⟩) (some ⟨b12, 0, none⟩) (.func (.func 218) ⟨[]⟩ ⟨[]⟩) (some ⟨b13, 0, none⟩) 0))))
theorem c179 (v1 : Int) (v2 : Int) (v3 : Int) (v4 : Int) (v5 : Int) (v6 : Int) (v7 : Int) (v8 : Int) (v9 : Sl) (v10 : Option Addr) {K : KH} {σ : H} : g179 v1 v2 v3 v4 v5 v6 v7 v8 v9 v10 K σ -> callW Tryz.prog 179 [.agg ⟨[.int .u32 v1, .int .u32 v2, .int .u32 v3, .int .u32 v4, .int .u32 v5, .int .u32 v6, .int .u32 v7, .int .u32 v8]⟩, .slice v9.base v9.len v9.cap, .pointer v10] K σ := call_k an179 Tryz.func179 (by kernel_rfl)


def an180 : Ann := (.q (.cond .r (.q (.cond .z .z))))
def g180 (v1 : Option Addr) (K : KH) : H -> Prop :=
 ptrW v1 (fun b2 o3 => rdT (rdC b2 o3) kP (fun x4 => brW x4.isNone (vaW Tryz.prog (convert 143 231 (.pointer v1)) kR (fun x5 => cvalT Tryz.prog (.func (.func 220) ⟨[]⟩ ⟨[]⟩) [x5] kR (fun x6 => vaW Tryz.prog (convert 231 143 (x6)) kP (fun x7 => ptrW v1 (fun b8 o9 => stW Tryz.prog 143 (.pointer (some ⟨b8, o9, none⟩)) (.pointer x7) (K (.tuple ⟨[]⟩))))))) (ptrW v1 (fun b10 o11 => rdT (rdC b10 o11) kP (fun x12 =>
 vaW Tryz.prog (do eqGuard .neq 143 (.tmp 17) (.tmp 18) (.pointer x12) (.pointer v1); binOp .neq 143 (.pointer x12) (.pointer v1)) kB (fun x13 => brW x13 (nW) (K (.tuple ⟨[]⟩))))))))
theorem c180 (v1 : Option Addr) {K : KH} {σ : H} : g180 v1 K σ -> callW Tryz.prog 180 [.pointer v1] K σ := call_k an180 Tryz.func180 (by kernel_rfl)


def an181 : Ann := (.q (.n (.q (.blk (.loop [(0,.l),(5,.l),(6,.i),(7,.i)] (.q (.n (.cond .z .z) (.n (.blk (.q (.blk (.seq (some [(0,.l),(3,.i),(4,.sc (.int .u8)),(5,.l),(6,.i),(7,.i),(12,.b),(16,.w),(17,.w)]) (.seq (some [(0,.l),(3,.i),(4,.sc (.int .u8)),(5,.l),(6,.i),(7,.i),(12,.b),(16,.w),(17,.w)]) .r (.cond .z (.seq (some [(0,.l),(3,.i),(4,.sc (.int .u8)),(5,.l),(6,.i),(7,.i),(12,.b),(16,.w),(17,.w),(22,.w),(23,.w),(24,.w),(25,.w)]) .r (.cond .z .r)))) (.cond (.q .z) (.q (.h))))))) .r)))))) (.q .z)))
def g181 (v1 : Sl) (K : KH) : H -> Prop :=
 loopW [.sc .slc, .sc .slc, .sc (.int .i64), .sc (.int .i64)] (fun (R2 : Sl -> Sl -> Int -> Int -> H -> Prop) => (fun (v3 : Sl) (x4 : Sl) (x5 : Int) (x6 : Int) => brW (decide ((x6 : Int) < x5)) (ptrW x4.base (fun b7 o8 => ifW (0 <= x6 /\ x6 < ((x4.len : Nat) : Int)) (rdT (rdC b7 (o8 + x6.toNat * 1)) kC (fun (x9 : Int) => letJ (T := Sl -> Int -> Int -> Sl -> Int -> Int -> Bool -> Value -> Value -> H -> Prop) (fun v11 v12 v13 x14 x15 x16 x17 _x18 _x19 => brW x17 (K (.int .i64 0))
 (brW (decide ((v13 : Int) < 128)) (K (.int .i64 (IntKind.i64.wrap (v12 + 1)))) (R2 v11 x14 x15 (IntKind.i64.wrap (x16 + 1))))) (fun j10 => letJ (T := Sl -> Int -> Int -> Sl -> Int -> Int -> Bool -> Value -> Value -> H -> Prop) (fun v21 v22 v23 x24 x25 x26 x27 x28 x29 => brW x27 (j10 v21 v22 v23 x24 x25 x26 x27 x28 x29) (letJ (T := Sl -> Int -> Int -> Sl -> Int -> Int -> Bool -> Value -> Value -> Value -> Value -> Value -> Value -> H -> Prop) (fun v31 v32 v33 x34 x35 x36 x37 x38 x39 _x40 _x41 _x42 _x43 =>
 brW x37 (j10 v31 v32 v33 x34 x35 x36 x37 x38 x39) (j10 v31 v32 v33 x34 x35 x36 ((v32 : Int) == 10) x38 x39)) (fun j30 => brW ((v22 : Int) == 9) (ptrW v21.base (fun b44 o45 => ifW (0 <= (0 : Int) /\ (0 : Int) < ((v21.len : Nat) : Int)) (rdT (rdC b44 (o45 + (0 : Int).toNat * 1)) kC (fun (x46 : Int) =>
 j30 v21 v22 v23 x24 x25 x26 (decide ((x46 : Int) > 129)) x28 x29 (.slice v21.base v21.len v21.cap) (.pointer (some ⟨b44, o45 + (0 : Int).toNat * 1, none⟩)) (.int .u8 x46) (.bool (decide ((x46 : Int) > 129))))))) (j30 v21 v22 v23 x24 x25 x26 false x28 x29 (.tuple ⟨[]⟩) (.tuple ⟨[]⟩) (.tuple ⟨[]⟩) (.tuple ⟨[]⟩))))) (fun j20 => brW ((x6 : Int) == 0) (j20 v3 x6 x9 x4 x5 x6 ((x9 : Int) == 128) (.int .u8 x9) (.bool ((x9 : Int) == 128)))
 (j20 v3 x6 x9 x4 x5 x6 false (.tuple ⟨[]⟩) (.tuple ⟨[]⟩)))))))) (K (.int .i64 0)))) (fun (R47 : Sl -> Sl -> Int -> Int -> H -> Prop) => R47 v1 v1 ((v1.len : Nat) : Int) 0)
theorem c181 (v1 : Sl) {K : KH} {σ : H} : g181 v1 K σ -> callW Tryz.prog 181 [.slice v1.base v1.len v1.cap] K σ := call_k an181 Tryz.func181 (by kernel_rfl)


def an187 : Ann := (.q (.n (.q (.q (.cond (.n (.reg (rn 12) [[],[],[0,1],[],[],[],[5],[4,5,6],[3,4,5,6,7],[0,1,2],(rn 10),(rn 11)]) .z) .z))) (.q .z)))
def g187 (v1 : ByteArray) (v2 : ByteArray) (K : KH) : H -> Prop :=
 callT Tryz.prog 224 [.string v1, .string v2] kI (fun (x3 : Int) => brW (decide ((x3 : Int) >= 0)) (ifW (bndOk (some x3) v1.size /\ bndOk none (x3.toNat)) (ifW (bndOk none v1.size /\ bndOk (some (IntKind.i64.wrap (x3 + ((v2.size : Nat) : Int)))) (v1.size)) (K (.tuple ⟨[.string (v1.extract 0 x3.toNat), .string (v1.extract ((IntKind.i64.wrap (x3 + ((v2.size : Nat) : Int))).toNat) v1.size), .bool true]⟩)))) (K (.tuple ⟨[.string v1, .string ⟨⟨[]⟩⟩, .bool false]⟩)))
theorem c187 (v1 : ByteArray) (v2 : ByteArray) {K : KH} {σ : H} : g187 v1 v2 K σ -> callW Tryz.prog 187 [.string v1, .string v2] K σ := call_k an187 Tryz.func187 (by kernel_rfl)


def an188 : Ann := (.q (.n (.q (.h)) (.n (.q (.h)) (.seq (some [(0,.s),(1,.s),(2,.i),(3,.i)]) (.q (.cond .r .z)) (.q (.q (.q (.q (.seq (some [(0,.s),(9,.l),(10,.i)]) (.blk (.loop [(0,.s),(1,.s),(2,.i),(3,.i),(9,.l),(10,.i)] (.n (.q (.cond .z .z)) (.blk (.q (.n (.q (.cond .z .z)) (.q (.q .r)))))))) (.q (.q .z)))))))))))
def g188 (v1 : ByteArray) (v2 : ByteArray) (v3 : Int) (v4 : Int) (K : KH) : H -> Prop :=
 brW ((v4 : Int) == 0) (K (.slice none 0 0)) (brW (strEq v2 (⟨⟨[]⟩⟩ : ByteArray)) (callT Tryz.prog 225 [.string v1, .int .i64 v4] kL (fun x5 => K (.slice x5.base x5.len x5.cap))) (letJ (T := ByteArray -> ByteArray -> Int -> Int -> H -> Prop) (fun v7 v8 v9 v10 =>
 vaW Tryz.prog (Instr.makeSlice 23 (.int .i64 (if (IntKind.i64.wrap (((v7.size : Nat) : Int) + 1)) < v10 then (IntKind.i64.wrap (((v7.size : Nat) : Int) + 1)) else v10)) (.int .i64 (if (IntKind.i64.wrap (((v7.size : Nat) : Int) + 1)) < v10 then (IntKind.i64.wrap (((v7.size : Nat) : Int) + 1)) else v10))) kL (fun x11 => letJ (T := ByteArray -> Sl -> Int -> H -> Prop) (fun v13 v14 v15 => ptrW v14.base (fun b16 o17 => ifW (0 <= v15 /\ v15 < ((v14.len : Nat) : Int))
 (stW Tryz.prog 9 (.pointer (some ⟨b16, o17 + v15.toNat * 1, none⟩)) (.string v13) (ifW (bndOk (some (IntKind.i64.wrap (v15 + 1))) v14.cap /\ bndOk none ((IntKind.i64.wrap (v15 + 1)).toNat)) (K (.slice (slBase v14.base 0 v14.cap 1) (((IntKind.i64.wrap (v15 + 1)).toNat) - 0) (v14.cap - 0))))))) (fun j12 =>
 loopW [.sc .str, .sc .str, .sc (.int .i64), .sc (.int .i64), .sc .slc, .sc (.int .i64)] (fun (R18 : ByteArray -> ByteArray -> Int -> Int -> Sl -> Int -> H -> Prop) => (fun (v19 : ByteArray) (v20 : ByteArray) (v21 : Int) (v22 : Int) (v23 : Sl) (v24 : Int) => brW (decide ((v24 : Int) < v22)) (callT Tryz.prog 227 [.string v19, .string v20] kI (fun (x25 : Int) => brW (decide ((x25 : Int) < 0)) (j12 v19 v23 v24)
 (ifW (bndOk (some (IntKind.i64.wrap (x25 + v21))) v19.size /\ bndOk none ((IntKind.i64.wrap (x25 + v21)).toNat)) (ptrW v23.base (fun b26 o27 => ifW (0 <= v24 /\ v24 < ((v23.len : Nat) : Int)) (stW Tryz.prog 9 (.pointer (some ⟨b26, o27 + v24.toNat * 1, none⟩)) (.string (v19.extract 0 ((IntKind.i64.wrap (x25 + v21)).toNat))) (ifW (bndOk none v19.size /\ bndOk (some (IntKind.i64.wrap (x25 + ((v20.size : Nat) : Int)))) (v19.size))
 (R18 (v19.extract ((IntKind.i64.wrap (x25 + ((v20.size : Nat) : Int))).toNat) v19.size) v20 v21 v22 v23 (IntKind.i64.wrap (v24 + 1)))))))))) (j12 v19 v23 v24))) (fun (R28 : ByteArray -> ByteArray -> Int -> Int -> Sl -> Int -> H -> Prop) => R28 v7 v8 v9 (IntKind.i64.wrap ((if (IntKind.i64.wrap (((v7.size : Nat) : Int) + 1)) < v10 then (IntKind.i64.wrap (((v7.size : Nat) : Int) + 1)) else v10) - 1)) x11 0)))) (fun j6 => brW (decide ((v4 : Int) < 0))
 (callT Tryz.prog 226 [.string v1, .string v2] kI (fun (x29 : Int) => j6 v1 v2 v3 (IntKind.i64.wrap (x29 + 1)))) (j6 v1 v2 v3 v4))))
theorem c188 (v1 : ByteArray) (v2 : ByteArray) (v3 : Int) (v4 : Int) {K : KH} {σ : H} : g188 v1 v2 v3 v4 K σ -> callW Tryz.prog 188 [.string v1, .string v2, .int .i64 v3, .int .i64 v4] K σ := call_k an188 Tryz.func188 (by kernel_rfl)


def an209 : Ann := (.q (.q (.n (.seq (some [(1,.i),(2,.p),(5,.i),(14,.b)]) .r (.h)) (.n (.q (.blk (.loop [(1,.i),(5,.i),(17,.l),(18,.i),(19,.i)] (.q (.n (.cond .z .z) (.n (.blk (.q .r)) .r)))))) (.q .z)))))
def g209 (v1 : ByteArray) (v2 : Int) (v3 : Bool) (v4 : ByteArray) (v5 : Sl) (v6 : Int) (K : KH) : H -> Prop :=
 alW (.cells ⟨[.string v1, .int .i64 v2, .bool v3, .string v4, .slice v5.base v5.len v5.cap]⟩ 75 (0, 0)) (fun b7 => letJ (T := Int -> Option Addr -> Int -> Bool -> H -> Prop) (fun v9 v10 v11 x12 => brW x12 (K (.int .i64 v11)) (ptrW v10 (fun b13 o14 => rdT (rdC b13 (o14 + 4)) kL (fun x15 =>
 loopW [.sc (.int .i64), .sc (.int .i64), .sc .slc, .sc (.int .i64), .sc (.int .i64)] (fun (R16 : Int -> Int -> Sl -> Int -> Int -> H -> Prop) => (fun (v17 : Int) (v18 : Int) (x19 : Sl) (x20 : Int) (x21 : Int) => brW (decide ((x21 : Int) < x20)) (ptrW x19.base (fun b22 o23 => ifW (0 <= x21 /\ x21 < ((x19.len : Nat) : Int)) (rdT (rdA 5 b22 (o23 + x21.toNat * 5)) (.one (.agg [.str, (.int .i64), .bool, .str, .slc])) (fun (x24 : ByteArray) (x25 : Int) (x26 : Bool) (x27 : ByteArray) (x28 : Sl) =>
 alW (.cells ⟨[.string ⟨⟨[]⟩⟩, .int .i64 0, .bool false, .string ⟨⟨[]⟩⟩, .slice none 0 0]⟩ 75 (0, 0)) (fun b29 => stW Tryz.prog 75 (.pointer (some ⟨b29, 0, none⟩)) (.agg ⟨[.string x24, .int .i64 x25, .bool x26, .string x27, .slice x28.base x28.len x28.cap]⟩) (rdT (rdA 5 b29 0) (.one (.agg [.str, (.int .i64), .bool, .str, .slc])) (fun (x30 : ByteArray) (x31 : Int) (x32 : Bool) (x33 : ByteArray) (x34 : Sl) =>
 callT Tryz.prog 209 [.agg ⟨[.string x30, .int .i64 x31, .bool x32, .string x33, .slice x34.base x34.len x34.cap]⟩, .int .i64 (IntKind.i64.wrap (v17 - 1))] kI (fun (x35 : Int) => R16 v17 (if (IntKind.i64.wrap (1 + x35)) > v18 then (IntKind.i64.wrap (1 + x35)) else v18) x19 x20 (IntKind.i64.wrap (x21 + 1)))))))))) (K (.int .i64 v18)))) (fun (R36 : Int -> Int -> Sl -> Int -> Int -> H -> Prop) => R36 v9 v11 x15 ((x15.len : Nat) : Int) 0))))) (fun j8 =>
 rdT (rdC b7 1) kI (fun (x37 : Int) => brW ((x37 : Int) != 2) (j8 v6 (some ⟨b7, 0, none⟩) 1 true) (j8 v6 (some ⟨b7, 0, none⟩) 1 ((v6 : Int) == 1)))))
theorem c209 (v1 : ByteArray) (v2 : Int) (v3 : Bool) (v4 : ByteArray) (v5 : Sl) (v6 : Int) {K : KH} {σ : H} : g209 v1 v2 v3 v4 v5 v6 K σ -> callW Tryz.prog 209 [.agg ⟨[.string v1, .int .i64 v2, .bool v3, .string v4, .slice v5.base v5.len v5.cap]⟩, .int .i64 v6] K σ := call_k an209 Tryz.func209 (by kernel_rfl)


def an210 : Ann := (.q (.q .z))
def g210 (v1 : Sl) (v2 : Value) (K : KH) : H -> Prop :=
 callT Tryz.prog 246 [.slice v1.base v1.len v1.cap, v2] kI (fun (x3 : Int) => K (.bool (decide ((x3 : Int) >= 0))))
theorem c210 (v1 : Sl) (v2 : Value) {K : KH} {σ : H} : g210 v1 v2 K σ -> callW Tryz.prog 210 [.slice v1.base v1.len v1.cap, v2] K σ := call_k an210 Tryz.func210 (by kernel_rfl)


def an211 : Ann := (.q (.q .z))
def g211 (v1 : Value) (K : KH) : H -> Prop :=
 cvalT Tryz.prog v1 [] kB (fun x2 => K (.bool (!x2)))
theorem c211 (v1 : Value) {K : KH} {σ : H} : g211 v1 K σ -> callW Tryz.prog 211 [v1] K σ := call_k an211 Tryz.func211 (by kernel_rfl)


def an212 : Ann := (.q (.q .z))
def g212 (v1 : ByteArray) (v2 : ByteArray) (K : KH) : H -> Prop :=
 callT Tryz.prog 247 [.string v1, .string v2] kI (fun (x3 : Int) => K (.bool (decide ((x3 : Int) >= 0))))
theorem c212 (v1 : ByteArray) (v2 : ByteArray) {K : KH} {σ : H} : g212 v1 v2 K σ -> callW Tryz.prog 212 [.string v1, .string v2] K σ := call_k an212 Tryz.func212 (by kernel_rfl)


def an214 : Ann := (.q (.q (.n (.blk (.loop [(0,.sc (.int .u64)),(1,.w),(5,.sc (.int .u64)),(6,.sc (.int .u64))] (.n (.q (.cond .z .z)) (.blk (.q (.q (.cond .r .r))))))) (.q .z))))
def g214 (v1 : Int) (v2 : Value) (K : KH) : H -> Prop :=
 loopW [.sc (.int .u64), .sc .raw, .sc (.int .u64), .sc (.int .u64)] (fun (R3 : Int -> Value -> Int -> Int -> H -> Prop) => (fun (v4 : Int) (v5 : Value) (v6 : Int) (v7 : Int) => brW (decide (((IntKind.u64.wrap (v7 - v6)) : Int) > 1)) (ifW ((2 : Int) ≠ 0) (cvalT Tryz.prog v5 [.int .u64 (IntKind.u64.wrap (Int.tdiv (IntKind.u64.wrap (v6 + v7)) 2)), .int .u64 v4] kB (fun x8 => brW x8
 (R3 v4 v5 v6 (IntKind.u64.wrap (Int.tdiv (IntKind.u64.wrap (v6 + v7)) 2))) (R3 v4 v5 (IntKind.u64.wrap (Int.tdiv (IntKind.u64.wrap (v6 + v7)) 2)) v7)))) (K (.int .u32 (IntKind.u32.wrap v6))))) (fun (R9 : Int -> Value -> Int -> Int -> H -> Prop) => R9 v1 v2 0 68719476736)
theorem c214 (v1 : Int) (v2 : Value) {K : KH} {σ : H} : g214 v1 v2 K σ -> callW Tryz.prog 214 [.int .u64 v1, v2] K σ := call_k an214 Tryz.func214 (by kernel_rfl)


def an215 : Ann := (.q (.q (.q (.q (.q (.n (.q (.h)) (.q .z)))))))
def g215 (v1 : Int) (v2 : Int) (K : KH) : H -> Prop :=
 callT Tryz.prog 248 [.int .u64 v1, .int .u64 v1] (.tup [.sc (.int .u64), .sc (.int .u64)]) (fun (x3 : Int) (x4 : Int) => callT Tryz.prog 248 [.int .u64 x4, .int .u64 v1] (.tup [.sc (.int .u64), .sc (.int .u64)]) (fun (x5 : Int) (x6 : Int) => callT Tryz.prog 248 [.int .u64 x3, .int .u64 v1] (.tup [.sc (.int .u64), .sc (.int .u64)]) (fun (x7 : Int) (x8 : Int) =>
 cvalT Tryz.prog (.func (.func 249) ⟨[]⟩ ⟨[]⟩) [.int .u64 x5, .int .u64 x8, .int .u64 0] (.tup [.sc (.int .u64), .sc (.int .u64)]) (fun (x9 : Int) (x10 : Int) => brW (decide (((IntKind.u64.wrap (x7 + x10)) : Int) > 0)) (K (.bool true)) (ifW (0 <= (32 : Int)) (brW (decide ((x9 : Int) > (IntKind.u64.wrap (v2 * 2 ^ min (Int.toNat 32) (IntKind.bits .u64))))) (K (.bool true)) (ifW (0 <= (32 : Int)) (brW ((x9 : Int) == (IntKind.u64.wrap (v2 * 2 ^ min (Int.toNat 32) (IntKind.bits .u64))))
 (K (.bool (decide ((x6 : Int) > 0)))) (K (.bool false))))))))))
theorem c215 (v1 : Int) (v2 : Int) {K : KH} {σ : H} : g215 v1 v2 K σ -> callW Tryz.prog 215 [.int .u64 v1, .int .u64 v2] K σ := call_k an215 Tryz.func215 (by kernel_rfl)


def an216 : Ann := (.q (.q (.q .z)))
def g216 (v1 : Int) (v2 : Int) (K : KH) : H -> Prop :=
 callT Tryz.prog 248 [.int .u64 v1, .int .u64 v1] (.tup [.sc (.int .u64), .sc (.int .u64)]) (fun (x3 : Int) (x4 : Int) => brW (decide ((x3 : Int) > v2)) (K (.bool true)) (brW ((x3 : Int) == v2) (K (.bool (decide ((x4 : Int) > 0)))) (K (.bool false))))
theorem c216 (v1 : Int) (v2 : Int) {K : KH} {σ : H} : g216 v1 v2 K σ -> callW Tryz.prog 216 [.int .u64 v1, .int .u64 v2] K σ := call_k an216 Tryz.func216 (by kernel_rfl)


def an217 : Ann := (.q (.n (.blk (.loop [(0,.w),(1,.p),(3,.l)] (.n (.q (.cond .z .z)) (.blk .r)))) (.n (.q (.blk (.loop [(0,.w),(1,.p),(3,.l),(16,.i)] (.q (.n (.cond .z .z) (.n (.blk (.q .r)) .r)))))) (.blk (.loop [(0,.w),(3,.l)] (.n (.q (.cond .z .z)) (.blk (.n (.q (.cond .z .z)) .r))))))))
def g217 (v1 : Value) (x2 : Option Addr) (K : KH) : H -> Prop :=
 ptrW x2 (fun b3 o4 => rdT (rdC b3 o4) kS (fun (x5 : ByteArray) => vaW Tryz.prog (convert 9 36 (.string x5)) kL (fun x6 => alW (.cells ⟨[.int .u8 128]⟩ 5 (0, 0)) (fun b7 => biW Tryz.prog .append #[36, 36] 36 [false, false] [.slice x6.base x6.len x6.cap, .slice (some ⟨b7, 0, none⟩) 1 1] kL (fun x8 => loopW [.sc .raw, .sc .ptr, .sc .slc] (fun (R9 : Value -> Option Addr -> Sl -> H -> Prop) => (fun v10 x11 v12 => ifW ((64 : Int) ≠ 0) (brW (((Int.tmod ((v12.len : Nat) : Int) 64) : Int) != 56)
 (alW (.cells ⟨[.int .u8 0]⟩ 5 (0, 0)) (fun b13 => biW Tryz.prog .append #[36, 36] 36 [false, false] [.slice v12.base v12.len v12.cap, .slice (some ⟨b13, 0, none⟩) 1 1] kL (fun x14 => R9 v10 x11 x14))) (loopW [.sc .raw, .sc .ptr, .sc .slc, .sc (.int .i64)] (fun (R15 : Value -> Option Addr -> Sl -> Int -> H -> Prop) => (fun (v16 : Value) (x17 : Option Addr) (v18 : Sl) (x19 : Int) => brW (decide ((x19 : Int) < 8)) (ptrW x17 (fun b20 o21 => rdT (rdC b20 o21) kS (fun (x22 : ByteArray) =>
 ifW (0 <= (IntKind.i64.wrap (8 * (IntKind.i64.wrap (7 - x19))))) (alW (.cells ⟨[.int .u8 (IntKind.u8.wrap (Int.fdiv (IntKind.u64.wrap ((IntKind.u64.wrap ((x22.size : Nat) : Int)) * 8)) (2 ^ min (Int.toNat (IntKind.i64.wrap (8 * (IntKind.i64.wrap (7 - x19))))) (IntKind.bits .u64))))]⟩ 5 (0, 0)) (fun b23 => biW Tryz.prog .append #[36, 36] 36 [false, false] [.slice v18.base v18.len v18.cap, .slice (some ⟨b23, 0, none⟩) 1 1] kL (fun x24 => R15 v16 x17 x24 (IntKind.i64.wrap (x19 + 1))))))))
 (loopW [.sc .raw, .sc .slc] (fun (R25 : Value -> Sl -> H -> Prop) => (fun v26 v27 => brW (decide (((v27.len : Nat) : Int) > 0)) (ifW (bndOk (some 64) v27.cap /\ bndOk none ((64 : Int).toNat)) (cvalT Tryz.prog v26 [.slice (slBase v27.base 0 v27.cap 1) (((64 : Int).toNat) - 0) (v27.cap - 0)] kB (fun x28 => brW (!x28) (K (.tuple ⟨[]⟩)) (ifW (bndOk none v27.cap /\ bndOk (some 64) v27.len)
 (R25 v26 ⟨slBase v27.base ((64 : Int).toNat) v27.cap 1, v27.len - ((64 : Int).toNat), v27.cap - ((64 : Int).toNat)⟩))))) (K (.tuple ⟨[]⟩)))) (fun (R29 : Value -> Sl -> H -> Prop) => R29 v16 v18)))) (fun (R30 : Value -> Option Addr -> Sl -> Int -> H -> Prop) => R30 v10 x11 v12 0))))) (fun (R31 : Value -> Option Addr -> Sl -> H -> Prop) => R31 v1 x2 x8))))))
theorem c217 (v1 : Value) (x2 : Option Addr) {K : KH} {σ : H} : g217 v1 x2 K σ -> callW Tryz.prog 217 [v1, .pointer x2] K σ := call_k an217 Tryz.func217 (by kernel_rfl)


def an218 : Ann := (.q (.n (.q (.blk (.loop [(0,.sc (.int .u32)),(4,.sc (.int .u32)),(7,.l),(8,.i),(9,.i)] (.q (.n (.cond .z .z) (.n (.blk (.q .r)) .r)))))) (.q .z)))
def g218 (v1 : Int) (v2 : Sl) (K : KH) : H -> Prop :=
 loopW [.sc (.int .u32), .sc (.int .u32), .sc .slc, .sc (.int .i64), .sc (.int .i64)] (fun (R3 : Int -> Int -> Sl -> Int -> Int -> H -> Prop) => (fun (v4 : Int) (v5 : Int) (x6 : Sl) (x7 : Int) (x8 : Int) => brW (decide ((x8 : Int) < x7)) (ptrW x6.base (fun b9 o10 => ifW (0 <= x8 /\ x8 < ((x6.len : Nat) : Int)) (rdT (rdC b9 (o10 + x8.toNat * 1)) kI (fun (x11 : Int) => callT Tryz.prog 219 [.int .u32 v4, .int .i64 (IntKind.i64.wrap (0 - x11))] (.one (.sc (.int .u32))) (fun (x12 : Int) =>
 R3 v4 (bitV .xor .u32 v5 x12) x6 x7 (IntKind.i64.wrap (x8 + 1))))))) (K (.int .u32 v5)))) (fun (R13 : Int -> Int -> Sl -> Int -> Int -> H -> Prop) => R13 v1 0 v2 ((v2.len : Nat) : Int) 0)
theorem c218 (v1 : Int) (v2 : Sl) {K : KH} {σ : H} : g218 v1 v2 K σ -> callW Tryz.prog 218 [.int .u32 v1, .slice v2.base v2.len v2.cap] K σ := call_k an218 Tryz.func218 (by kernel_rfl)


def an219 : Ann := (.q (.q (.q .z)))
def g219 (v1 : Int) (v2 : Int) (K : KH) : H -> Prop :=
 ifW (0 <= (bitV .and .u64 (IntKind.u64.wrap v2) 31)) (ifW (0 <= (IntKind.u64.wrap (32 - (bitV .and .u64 (IntKind.u64.wrap v2) 31)))) (K (.int .u32 (bitV .or .u32 (IntKind.u32.wrap (v1 * 2 ^ min (Int.toNat (bitV .and .u64 (IntKind.u64.wrap v2) 31)) (IntKind.bits .u32))) (Int.fdiv v1 (2 ^ min (Int.toNat (IntKind.u64.wrap (32 - (bitV .and .u64 (IntKind.u64.wrap v2) 31)))) (IntKind.bits .u32)))))))
theorem c219 (v1 : Int) (v2 : Int) {K : KH} {σ : H} : g219 v1 v2 K σ -> callW Tryz.prog 219 [.int .u32 v1, .int .i64 v2] K σ := call_k an219 Tryz.func219 (by kernel_rfl)


def an224 : Ann := (.q (.q (.n (.blk (.seq (some [(0,.s),(1,.s),(5,.i),(16,.b)]) .r (.cond (.q .z) (.q (.cond (.q .z) (.q (.cond (.q .z) (.seq (some [(0,.s),(1,.s),(5,.i),(36,.b)]) .r (.h))))))))) (.q (.q (.q (.q (.q (.n (.blk (.loop [(0,.s),(1,.s),(5,.i),(6,.sc (.int .u8)),(7,.sc (.int .u8)),(8,.i),(9,.i),(10,.i)] (.n (.q (.cond .z .z)) (.blk (.seq (some [(0,.s),(1,.s),(5,.i),(6,.sc (.int .u8)),(7,.sc (.int .u8)),(8,.i),(9,.i),(10,.i)]) (.q (.cond (.q (.n (.q (.h)) .r)) .z)) (.n (.seq (some [(0,.s),(1,.s),(5,.i),(6,.sc (.int .u8)),(7,.sc (.int .u8)),(8,.i),(9,.i),(10,.i),(85,.w),(86,.w),(87,.w),(88,.w),(89,.w),(90,.w),(91,.w),(92,.w),(93,.b)]) .r (.h)) (.q (.q (.seq (some [(0,.s),(1,.s),(5,.i),(6,.sc (.int .u8)),(7,.sc (.int .u8)),(8,.i),(9,.i),(10,.i),(85,.w),(86,.w),(87,.w),(88,.w),(89,.w),(90,.w),(91,.w),(92,.w),(103,.w),(104,.w),(105,.w),(106,.w),(107,.b)]) .r (.cond (.q (.n (.q (.h)) (.q .z))) (.seq (some [(0,.s),(1,.s),(5,.i),(6,.sc (.int .u8)),(7,.sc (.int .u8)),(8,.i),(9,.i),(10,.i),(85,.w),(86,.w),(87,.w),(88,.w),(89,.w),(90,.w),(91,.w),(92,.w),(103,.w),(104,.w),(105,.w),(106,.w),(122,.w),(123,.w),(124,.w),(125,.w),(126,.w),(129,.w),(130,.w),(131,.w),(132,.b)]) .r (.cond (.q (.n (.q (.h)) (.q .z))) .z)))))))))))) (.q .z))))))))))
def g224 (v1 : ByteArray) (v2 : ByteArray) (K : KH) : H -> Prop :=
 letJ (T := ByteArray -> ByteArray -> Int -> Bool -> H -> Prop) (fun v4 v5 v6 x7 => brW x7 (K (.int .i64 0)) (brW ((v6 : Int) == 1) (idxW v5 0 (fun c8 => callT Tryz.prog 176 [.string v4, .int .u8 (c8.toNat : Int)] kI (fun (x9 : Int) => K (.int .i64 x9)))) (brW (decide ((v6 : Int) >= ((v4.size : Nat) : Int))) (K (.int .i64 (-1))) (letJ (T := ByteArray -> ByteArray -> Int -> Bool -> H -> Prop) (fun v11 v12 v13 x14 => brW x14
 (cvalT Tryz.prog (.func (.func 258) ⟨[]⟩ ⟨[]⟩) [.string v11, .string v12] kI (fun (x15 : Int) => K (.int .i64 x15))) (idxW v12 0 (fun c16 => idxW v12 1 (fun c17 =>
 loopW [.sc .str, .sc .str, .sc (.int .i64), .sc (.int .u8), .sc (.int .u8), .sc (.int .i64), .sc (.int .i64), .sc (.int .i64)] (fun (R18 : ByteArray -> ByteArray -> Int -> Int -> Int -> Int -> Int -> Int -> H -> Prop) => (fun (v19 : ByteArray) (v20 : ByteArray) (v21 : Int) (c0_22 : Int) (c1_23 : Int) (v24 : Int) (v25 : Int) (v26 : Int) => brW (decide ((v24 : Int) < v25))
 (letJ (T := ByteArray -> ByteArray -> Int -> Int -> Int -> Int -> Int -> Int -> H -> Prop) (fun v28 v29 v30 c0_31 c1_32 v33 v34 v35 => letJ (T := ByteArray -> ByteArray -> Int -> Int -> Int -> Int -> Int -> Int -> Value -> Value -> Value -> Value -> Value -> Value -> Value -> Value -> Bool -> H -> Prop) (fun v37 v38 v39 c0_40 c1_41 v42 v43 v44 x45 x46 x47 x48 x49 x50 x51 x52 x53 => brW x53 (K (.int .i64 v42))
 (letJ (T := ByteArray -> ByteArray -> Int -> Int -> Int -> Int -> Int -> Int -> Value -> Value -> Value -> Value -> Value -> Value -> Value -> Value -> Value -> Value -> Value -> Value -> Bool -> H -> Prop) (fun v55 v56 v57 c0_58 c1_59 v60 v61 v62 x63 x64 x65 x66 x67 x68 x69 x70 x71 x72 x73 x74 x75 => brW x75 (ifW (bndOk none v55.size /\ bndOk (some v60) (v55.size)) (cvalT Tryz.prog (.func (.func 258) ⟨[]⟩ ⟨[]⟩) [.string (v55.extract v60.toNat v55.size), .string v56] kI (fun (x76 : Int) =>
 brW (decide ((x76 : Int) >= 0)) (K (.int .i64 (IntKind.i64.wrap (x76 + v60)))) (K (.int .i64 (-1))))))
 (letJ (T := ByteArray -> ByteArray -> Int -> Int -> Int -> Int -> Int -> Int -> Value -> Value -> Value -> Value -> Value -> Value -> Value -> Value -> Value -> Value -> Value -> Value -> Value -> Value -> Value -> Value -> Value -> Value -> Value -> Value -> Bool -> H -> Prop) (fun v78 v79 v80 c0_81 c1_82 v83 v84 v85 _x86 _x87 _x88 _x89 _x90 _x91 _x92 _x93 _x94 _x95 _x96 _x97 _x98 _x99 _x100 _x101 _x102 _x103 _x104 _x105 x106 => brW x106 (ifW (bndOk none v78.size /\ bndOk (some v83) (v78.size))
 (callT Tryz.prog 260 [.string (v78.extract v83.toNat v78.size), .string v79] kI (fun (x107 : Int) => brW (decide ((x107 : Int) < 0)) (K (.int .i64 (-1))) (K (.int .i64 (IntKind.i64.wrap (v83 + x107))))))) (R18 v78 v79 v80 c0_81 c1_82 v83 v84 v85)) (fun j77 => rdT (rdC 0 0) kI (fun (x108 : Int) => brW (decide ((v57 : Int) > x108)) (ifW (0 <= (4 : Int)) (brW (decide ((v62 : Int) >= (IntKind.i64.wrap (4 + (Int.fdiv v60 (2 ^ min (Int.toNat 4) (IntKind.bits .i64)))))))
 (j77 v55 v56 v57 c0_58 c1_59 v60 v61 v62 x63 x64 x65 x66 x67 x68 x69 x70 x71 x72 x73 x74 (.int .i64 v62) (.int .i64 v60) (.int .i64 (Int.fdiv v60 (2 ^ min (Int.toNat 4) (IntKind.bits .i64)))) (.int .i64 (IntKind.i64.wrap (4 + (Int.fdiv v60 (2 ^ min (Int.toNat 4) (IntKind.bits .i64)))))) (.bool (decide ((v62 : Int) >= (IntKind.i64.wrap (4 + (Int.fdiv v60 (2 ^ min (Int.toNat 4) (IntKind.bits .i64)))))))) (.int .i64 v60) (.int .i64 v61) (.bool (decide ((v60 : Int) < v61))) (decide ((v60 : Int) < v61)))
 (j77 v55 v56 v57 c0_58 c1_59 v60 v61 v62 x63 x64 x65 x66 x67 x68 x69 x70 x71 x72 x73 x74 (.int .i64 v62) (.int .i64 v60) (.int .i64 (Int.fdiv v60 (2 ^ min (Int.toNat 4) (IntKind.bits .i64)))) (.int .i64 (IntKind.i64.wrap (4 + (Int.fdiv v60 (2 ^ min (Int.toNat 4) (IntKind.bits .i64)))))) (.bool (decide ((v62 : Int) >= (IntKind.i64.wrap (4 + (Int.fdiv v60 (2 ^ min (Int.toNat 4) (IntKind.bits .i64)))))))) (.tuple ⟨[]⟩) (.tuple ⟨[]⟩) (.tuple ⟨[]⟩) false)))
 (j77 v55 v56 v57 c0_58 c1_59 v60 v61 v62 x63 x64 x65 x66 x67 x68 x69 x70 x71 x72 x73 x74 (.tuple ⟨[]⟩) (.tuple ⟨[]⟩) (.tuple ⟨[]⟩) (.tuple ⟨[]⟩) (.tuple ⟨[]⟩) (.tuple ⟨[]⟩) (.tuple ⟨[]⟩) (.tuple ⟨[]⟩) false))))) (fun j54 => rdT (rdC 0 0) kI (fun (x109 : Int) => brW (decide ((v39 : Int) <= x109)) (callT Tryz.prog 259 [.int .i64 (IntKind.i64.wrap (v42 + 1))] kI (fun (x110 : Int) =>
 j54 v37 v38 v39 c0_40 c1_41 (IntKind.i64.wrap (v42 + 1)) v43 (IntKind.i64.wrap (v44 + 1)) x45 x46 x47 x48 x49 x50 x51 x52 (.int .i64 (IntKind.i64.wrap (v44 + 1))) (.int .i64 (IntKind.i64.wrap (v42 + 1))) (.int .i64 x110) (.bool (decide (((IntKind.i64.wrap (v44 + 1)) : Int) > x110))) (decide (((IntKind.i64.wrap (v44 + 1)) : Int) > x110))))
 (j54 v37 v38 v39 c0_40 c1_41 (IntKind.i64.wrap (v42 + 1)) v43 (IntKind.i64.wrap (v44 + 1)) x45 x46 x47 x48 x49 x50 x51 x52 (.tuple ⟨[]⟩) (.tuple ⟨[]⟩) (.tuple ⟨[]⟩) (.tuple ⟨[]⟩) false))))) (fun j36 => idxW v28 (IntKind.i64.wrap (v33 + 1)) (fun c111 => brW ((c111.toNat : Int) == c1_32) (ifW (bndOk (some (IntKind.i64.wrap (v33 + v30))) v28.size /\ bndOk (some v33) ((IntKind.i64.wrap (v33 + v30)).toNat))
 (j36 v28 v29 v30 c0_31 c1_32 v33 v34 v35 (.string v28) (.int .i64 v33) (.int .i64 v33) (.int .i64 v30) (.int .i64 (IntKind.i64.wrap (v33 + v30))) (.string (v28.extract v33.toNat ((IntKind.i64.wrap (v33 + v30)).toNat))) (.string v29) (.bool (strEq (v28.extract v33.toNat ((IntKind.i64.wrap (v33 + v30)).toNat)) v29)) (strEq (v28.extract v33.toNat ((IntKind.i64.wrap (v33 + v30)).toNat)) v29)))
 (j36 v28 v29 v30 c0_31 c1_32 v33 v34 v35 (.tuple ⟨[]⟩) (.tuple ⟨[]⟩) (.tuple ⟨[]⟩) (.tuple ⟨[]⟩) (.tuple ⟨[]⟩) (.tuple ⟨[]⟩) (.tuple ⟨[]⟩) (.tuple ⟨[]⟩) false)))) (fun j27 => idxW v19 v24 (fun c112 => brW ((c112.toNat : Int) != c0_22) (ifW (bndOk (some v25) v19.size /\ bndOk (some (IntKind.i64.wrap (v24 + 1))) (v25.toNat)) (callT Tryz.prog 176 [.string (v19.extract ((IntKind.i64.wrap (v24 + 1)).toNat) v25.toNat), .int .u8 c0_22] kI (fun (x113 : Int) =>
 brW (decide ((x113 : Int) < 0)) (K (.int .i64 (-1))) (j27 v19 v20 v21 c0_22 c1_23 (IntKind.i64.wrap (v24 + (IntKind.i64.wrap (x113 + 1)))) v25 v26)))) (j27 v19 v20 v21 c0_22 c1_23 v24 v25 v26)))) (K (.int .i64 (-1))))) (fun (R114 : ByteArray -> ByteArray -> Int -> Int -> Int -> Int -> Int -> Int -> H -> Prop) => R114 v11 v12 v13 (c16.toNat : Int) (c17.toNat : Int) 0 (IntKind.i64.wrap ((IntKind.i64.wrap (((v11.size : Nat) : Int) - v13)) + 1)) 0))))) (fun j10 =>
 rdT (rdC 0 0) kI (fun (x115 : Int) => brW (decide ((v6 : Int) <= x115)) (j10 v4 v5 v6 (decide (((v4.size : Nat) : Int) <= 64))) (j10 v4 v5 v6 false))))))) (fun j3 => brW (((v2.size : Nat) : Int) == 0) (j3 v1 v2 ((v2.size : Nat) : Int) true) (j3 v1 v2 ((v2.size : Nat) : Int) (strEq v2 v1)))
theorem c224 (v1 : ByteArray) (v2 : ByteArray) {K : KH} {σ : H} : g224 v1 v2 K σ -> callW Tryz.prog 224 [.string v1, .string v2] K σ := call_k an224 Tryz.func224 (by kernel_rfl)


def an226 : Ann := (.q (.n (.q (.h)) (.n (.q (.h)) (.q (.blk (.loop [(0,.s),(1,.s),(5,.i)] (.blk (.q (.n (.q (.h)) (.q .r))))))))))
def g226 (v1 : ByteArray) (v2 : ByteArray) (K : KH) : H -> Prop :=
 brW (((v2.size : Nat) : Int) == 0) (callT Tryz.prog 261 [.string v1] kI (fun (x3 : Int) => K (.int .i64 (IntKind.i64.wrap (x3 + 1))))) (brW (((v2.size : Nat) : Int) == 1) (idxW v2 0 (fun c4 => cvalT Tryz.prog (.func (.func 263) ⟨[]⟩ ⟨[]⟩) [.string v1, .int .u8 (c4.toNat : Int)] kI (fun (x5 : Int) => K (.int .i64 x5))))
 (loopW [.sc .str, .sc .str, .sc (.int .i64)] (fun (R6 : ByteArray -> ByteArray -> Int -> H -> Prop) => (fun (v7 : ByteArray) (v8 : ByteArray) (v9 : Int) => callT Tryz.prog 227 [.string v7, .string v8] kI (fun (x10 : Int) => brW ((x10 : Int) == (-1)) (K (.int .i64 v9)) (ifW (bndOk none v7.size /\ bndOk (some (IntKind.i64.wrap (x10 + ((v8.size : Nat) : Int)))) (v7.size))
 (R6 (v7.extract ((IntKind.i64.wrap (x10 + ((v8.size : Nat) : Int))).toNat) v7.size) v8 (IntKind.i64.wrap (v9 + 1))))))) (fun (R11 : ByteArray -> ByteArray -> Int -> H -> Prop) => R11 v1 v2 0)))
theorem c226 (v1 : ByteArray) (v2 : ByteArray) {K : KH} {σ : H} : g226 v1 v2 K σ -> callW Tryz.prog 226 [.string v1, .string v2] K σ := call_k an226 Tryz.func226 (by kernel_rfl)


def an227 : Ann := (.q (.q .z))
def g227 (v1 : ByteArray) (v2 : ByteArray) (K : KH) : H -> Prop :=
 callT Tryz.prog 224 [.string v1, .string v2] kI (fun (x3 : Int) => K (.int .i64 x3))
theorem c227 (v1 : ByteArray) (v2 : ByteArray) {K : KH} {σ : H} : g227 v1 v2 K σ -> callW Tryz.prog 227 [.string v1, .string v2] K σ := call_k an227 Tryz.func227 (by kernel_rfl)


def an246 : Ann := (.q (.n (.q (.blk (.loop [(0,.l),(1,.w),(7,.i),(8,.i)] (.q (.n (.cond .z .z) (.n (.blk (.q (.q (.h)))) .r)))))) (.q .z)))
def g246 (v1 : Sl) (v2 : Value) (K : KH) : H -> Prop :=
 loopW [.sc .slc, .sc .raw, .sc (.int .i64), .sc (.int .i64)] (fun (R3 : Sl -> Value -> Int -> Int -> H -> Prop) => (fun (v4 : Sl) (v5 : Value) (x6 : Int) (x7 : Int) => brW (decide ((x7 : Int) < x6)) (ptrW v4.base (fun b8 o9 => ifW (0 <= x7 /\ x7 < ((v4.len : Nat) : Int)) (rdT (rdC b8 (o9 + x7.toNat * 1)) kR (fun x10 => cvalT Tryz.prog v5 [x10] kB (fun x11 => brW x11 (K (.int .i64 x7)) (R3 v4 v5 x6 (IntKind.i64.wrap (x7 + 1))))))))
 (K (.int .i64 (-1))))) (fun (R12 : Sl -> Value -> Int -> Int -> H -> Prop) => R12 v1 v2 ((v1.len : Nat) : Int) 0)
theorem c246 (v1 : Sl) (v2 : Value) {K : KH} {σ : H} : g246 v1 v2 K σ -> callW Tryz.prog 246 [.slice v1.base v1.len v1.cap, v2] K σ := call_k an246 Tryz.func246 (by kernel_rfl)


def an247 : Ann := (.q (.n (.q (.h)) (.n (.q (.cond (.q (.seq (some [(0,.s),(5,.sc (.int .i32))]) (.q (.cond .r .z)) (.q .z))) .z)) (.seq (some [(0,.s),(1,.s)]) (.q (.cond (.q (.q (.cond (.n (.q (.blk (.loop [(0,.s),(6,.p),(8,.i)] (.n (.q (.cond .z .z)) (.n (.blk (.q (.h))) .r))))) (.q .z)) .z))) .z)) (.n (.q (.blk (.loop [(1,.s),(45,.p)] (.q (.n (.cond .z .z) (.blk (.q (.q (.h))))))))) (.q .z))))))
def g247 (v1 : ByteArray) (v2 : ByteArray) (K : KH) : H -> Prop :=
 brW (strEq v2 (⟨⟨[]⟩⟩ : ByteArray)) (K (.int .i64 (-1))) (brW (((v2.size : Nat) : Int) == 1) (idxW v2 0 (fun c3 => letJ (T := ByteArray -> Int -> H -> Prop) (fun v5 v6 => callT Tryz.prog 270 [.string v5, .int .i32 v6] kI (fun (x7 : Int) => K (.int .i64 x7))) (fun j4 => brW (decide (((IntKind.i32.wrap (c3.toNat : Int)) : Int) >= 128)) (j4 v1 65533) (j4 v1 (IntKind.i32.wrap (c3.toNat : Int)))))) (letJ (T := ByteArray -> ByteArray -> H -> Prop) (fun v9 v10 =>
 vaW Tryz.prog (Instr.range 9 (.string v9)) kP (fun x11 => loopW [.sc .str, .sc .ptr] (fun (R12 : ByteArray -> Option Addr -> H -> Prop) => (fun (v13 : ByteArray) (x14 : Option Addr) => vaW Tryz.prog (Instr.next (.pointer x14) true 0) (.opt [.sc (.int .i64), .sc (.int .i32)]) (K (.int .i64 (-1)), (fun (x15 : Int) (x16 : Int) => callT Tryz.prog 270 [.string v13, .int .i32 x16] kI (fun (x17 : Int) => brW (decide ((x17 : Int) >= 0)) (K (.int .i64 x15))
 (R12 v13 x14)))))) (fun (R18 : ByteArray -> Option Addr -> H -> Prop) => R18 v10 x11))) (fun j8 => callT Tryz.prog 271 [.int .i64 ((v1.size : Nat) : Int)] kB (fun x19 => brW x19 (callT Tryz.prog 253 [.string v2] (.tup [.sc .raw, .sc .bool]) (fun x20 x21 =>
 alW (.cells ⟨[.bool false, .bool false, .bool false, .bool false, .bool false, .bool false, .bool false, .bool false, .bool false, .bool false, .bool false, .bool false, .bool false, .bool false, .bool false, .bool false, .bool false, .bool false, .bool false, .bool false, .bool false, .bool false, .bool false, .bool false, .bool false, .bool false, .bool false, .bool false, .bool false, .bool false, .bool false, .bool false, .bool false, .bool false, .bool false, .bool false, .bool false, .bool false, .bool false, .bool false, .bool false, .bool false, .bool false, .bool false, .bool false, .bool false, .bool false, .bool false, .bool false, .bool false, .bool false, .bool false, .bool false, .bool false, .bool false, .bool false, .bool false, .bool false, .bool false, .bool false, .bool false, .bool false, .bool false, .bool false, .bool false, .bool false, .bool false, .bool false, .bool false, .bool false, .bool false, .bool false, .bool false, .bool false, .bool false, .bool false, .bool false, .bool false, .bool false, .bool false, .bool false, .bool false, .bool false, .bool false, .bool false, .bool false, .bool false, .bool false, .bool false, .bool false, .bool false, .bool false, .bool false, .bool false, .bool false, .bool false, .bool false, .bool false, .bool false, .bool false, .bool false, .bool false, .bool false, .bool false, .bool false, .bool false, .bool false, .bool false, .bool false, .bool false, .bool false, .bool false, .bool false, .bool false, .bool false, .bool false, .bool false, .bool false, .bool false, .bool false, .bool false, .bool false, .bool false, .bool false, .bool false, .bool false, .bool false, .bool false, .bool false, .bool false, .bool false, .bool false, .bool false, .bool false, .bool false, .bool false, .bool false, .bool false, .bool false, .bool false, .bool false, .bool false, .bool false, .bool false, .bool false, .bool false, .bool false, .bool false, .bool false, .bool false, .bool false, .bool false, .bool false, .bool false, .bool false, .bool false, .bool false, .bool false, .bool false, .bool false, .bool false, .bool false, .bool false, .bool false, .bool false, .bool false, .bool false, .bool false, .bool false, .bool false, .bool false, .bool false, .bool false, .bool false, .bool false, .bool false, .bool false, .bool false, .bool false, .bool false, .bool false, .bool false, .bool false, .bool false, .bool false, .bool false, .bool false, .bool false, .bool false, .bool false, .bool false, .bool false, .bool false, .bool false, .bool false, .bool false, .bool false, .bool false, .bool false, .bool false, .bool false, .bool false, .bool false, .bool false, .bool false, .bool false, .bool false, .bool false, .bool false, .bool false, .bool false, .bool false, .bool false, .bool false, .bool false, .bool false, .bool false, .bool false, .bool false, .bool false, .bool false, .bool false, .bool false, .bool false, .bool false, .bool false, .bool false, .bool false, .bool false, .bool false, .bool false, .bool false, .bool false, .bool false, .bool false, .bool false, .bool false, .bool false, .bool false, .bool false, .bool false, .bool false, .bool false, .bool false, .bool false, .bool false, .bool false, .bool false, .bool false, .bool false, .bool false, .bool false, .bool false, .bool false, .bool false, .bool false]⟩ 251 (0, 0)) (fun b22 =>
 stW Tryz.prog 251 (.pointer (some ⟨b22, 0, none⟩)) (x20) (brW x21 (loopW [.sc .str, .sc .ptr, .sc (.int .i64)] (fun (R23 : ByteArray -> Option Addr -> Int -> H -> Prop) => (fun (v24 : ByteArray) (v25 : Option Addr) (v26 : Int) => brW (decide ((v26 : Int) < ((v24.size : Nat) : Int))) (idxW v24 v26 (fun c27 => callT Tryz.prog 272 [.pointer v25, .int .u8 (c27.toNat : Int)] kB (fun x28 => brW x28 (K (.int .i64 v26)) (R23 v24 v25 (IntKind.i64.wrap (v26 + 1))))))
 (K (.int .i64 (-1))))) (fun (R29 : ByteArray -> Option Addr -> Int -> H -> Prop) => R29 v1 (some ⟨b22, 0, none⟩) 0)) (j8 v1 v2))))) (j8 v1 v2)))))
theorem c247 (v1 : ByteArray) (v2 : ByteArray) {K : KH} {σ : H} : g247 v1 v2 K σ -> callW Tryz.prog 247 [.string v1, .string v2] K σ := call_k an247 Tryz.func247 (by kernel_rfl)


def an248 : Ann := (.q (.q (.q (.q (.q (.q (.q (.q (.q (.q (.q (.q .z))))))))))))
def g248 (v1 : Int) (v2 : Int) (K : KH) : H -> Prop :=
 ifW (0 <= (32 : Int)) (ifW (0 <= (32 : Int)) (ifW (0 <= (32 : Int)) (ifW (0 <= (32 : Int)) (ifW (0 <= (32 : Int))
 (K (.tuple ⟨[.int .u64 (IntKind.u64.wrap ((IntKind.u64.wrap ((IntKind.u64.wrap ((Int.fdiv v1 (2 ^ min (Int.toNat 32) (IntKind.bits .u64))) * (Int.fdiv v2 (2 ^ min (Int.toNat 32) (IntKind.bits .u64))))) + (Int.fdiv (IntKind.u64.wrap ((IntKind.u64.wrap ((Int.fdiv v1 (2 ^ min (Int.toNat 32) (IntKind.bits .u64))) * (bitV .and .u64 v2 4294967295))) + (Int.fdiv (IntKind.u64.wrap ((bitV .and .u64 v1 4294967295) * (bitV .and .u64 v2 4294967295))) (2 ^ min (Int.toNat 32) (IntKind.bits .u64))))) (2 ^ min (Int.toNat 32) (IntKind.bits .u64))))) + (Int.fdiv (IntKind.u64.wrap ((bitV .and .u64 (IntKind.u64.wrap ((IntKind.u64.wrap ((Int.fdiv v1 (2 ^ min (Int.toNat 32) (IntKind.bits .u64))) * (bitV .and .u64 v2 4294967295))) + (Int.fdiv (IntKind.u64.wrap ((bitV .and .u64 v1 4294967295) * (bitV .and .u64 v2 4294967295))) (2 ^ min (Int.toNat 32) (IntKind.bits .u64))))) 4294967295) + (IntKind.u64.wrap ((bitV .and .u64 v1 4294967295) * (Int.fdiv v2 (2 ^ min (Int.toNat 32) (IntKind.bits .u64))))))) (2 ^ min (Int.toNat 32) (IntKind.bits .u64))))), .int .u64 (IntKind.u64.wrap (v1 * v2))]⟩))))))
theorem c248 (v1 : Int) (v2 : Int) {K : KH} {σ : H} : g248 v1 v2 K σ -> callW Tryz.prog 248 [.int .u64 v1, .int .u64 v2] K σ := call_k an248 Tryz.func248 (by kernel_rfl)


def an253 : Ann := (.q (.n (.q (.blk (.loop [(0,.s),(2,.p),(4,.i)] (.n (.q (.cond .z .z)) (.n (.blk (.q (.n (.q (.h)) .r))) .r))))) (.q .z)))
def g253 (v1 : ByteArray) (K : KH) : H -> Prop :=
 alW (.cells ⟨[.bool false, .bool false, .bool false, .bool false, .bool false, .bool false, .bool false, .bool false, .bool false, .bool false, .bool false, .bool false, .bool false, .bool false, .bool false, .bool false, .bool false, .bool false, .bool false, .bool false, .bool false, .bool false, .bool false, .bool false, .bool false, .bool false, .bool false, .bool false, .bool false, .bool false, .bool false, .bool false, .bool false, .bool false, .bool false, .bool false, .bool false, .bool false, .bool false, .bool false, .bool false, .bool false, .bool false, .bool false, .bool false, .bool false, .bool false, .bool false, .bool false, .bool false, .bool false, .bool false, .bool false, .bool false, .bool false, .bool false, .bool false, .bool false, .bool false, .bool false, .bool false, .bool false, .bool false, .bool false, .bool false, .bool false, .bool false, .bool false, .bool false, .bool false, .bool false, .bool false, .bool false, .bool false, .bool false, .bool false, .bool false, .bool false, .bool false, .bool false, .bool false, .bool false, .bool false, .bool false, .bool false, .bool false, .bool false, .bool false, .bool false, .bool false, .bool false, .bool false, .bool false, .bool false, .bool false, .bool false, .bool false, .bool false, .bool false, .bool false, .bool false, .bool false, .bool false, .bool false, .bool false, .bool false, .bool false, .bool false, .bool false, .bool false, .bool false, .bool false, .bool false, .bool false, .bool false, .bool false, .bool false, .bool false, .bool false, .bool false, .bool false, .bool false, .bool false, .bool false, .bool false, .bool false, .bool false, .bool false, .bool false, .bool false, .bool false, .bool false, .bool false, .bool false, .bool false, .bool false, .bool false, .bool false, .bool false, .bool false, .bool false, .bool false, .bool false, .bool false, .bool false, .bool false, .bool false, .bool false, .bool false, .bool false, .bool false, .bool false, .bool false, .bool false, .bool false, .bool false, .bool false, .bool false, .bool false, .bool false, .bool false, .bool false, .bool false, .bool false, .bool false, .bool false, .bool false, .bool false, .bool false, .bool false, .bool false, .bool false, .bool false, .bool false, .bool false, .bool false, .bool false, .bool false, .bool false, .bool false, .bool false, .bool false, .bool false, .bool false, .bool false, .bool false, .bool false, .bool false, .bool false, .bool false, .bool false, .bool false, .bool false, .bool false, .bool false, .bool false, .bool false, .bool false, .bool false, .bool false, .bool false, .bool false, .bool false, .bool false, .bool false, .bool false, .bool false, .bool false, .bool false, .bool false, .bool false, .bool false, .bool false, .bool false, .bool false, .bool false, .bool false, .bool false, .bool false, .bool false, .bool false, .bool false, .bool false, .bool false, .bool false, .bool false, .bool false, .bool false, .bool false, .bool false, .bool false, .bool false, .bool false, .bool false, .bool false, .bool false, .bool false, .bool false, .bool false, .bool false, .bool false, .bool false, .bool false, .bool false, .bool false, .bool false, .bool false, .bool false, .bool false, .bool false, .bool false, .bool false, .bool false, .bool false, .bool false, .bool false]⟩ 251 (0, 0)) (fun b2 =>
 loopW [.sc .str, .sc .ptr, .sc (.int .i64)] (fun (R3 : ByteArray -> Option Addr -> Int -> H -> Prop) => (fun (v4 : ByteArray) (v5 : Option Addr) (v6 : Int) => brW (decide ((v6 : Int) < ((v4.size : Nat) : Int))) (idxW v4 v6 (fun c7 => brW (decide ((c7.toNat : Int) >= 128)) (ptrW v5 (fun b8 o9 => rdT (rdA 256 b8 o9) kR (fun x10 => stW Tryz.prog 251 (.pointer v5) (x10) (ptrW v5 (fun b11 o12 => rdT (rdA 256 b11 o12) kR (fun r13 => K (.tuple ⟨[r13, .bool false]⟩)))))))
 (ptrW v5 (fun b14 o15 => ifW (0 <= (c7.toNat : Int) /\ (c7.toNat : Int) < ((256 : Nat) : Int)) (stW Tryz.prog 4 (.pointer (some ⟨b14, o15 + (c7.toNat : Int).toNat * 1, none⟩)) (.bool true) (R3 v4 v5 (IntKind.i64.wrap (v6 + 1)))))))) (ptrW v5 (fun b16 o17 => rdT (rdA 256 b16 o17) kR (fun x18 => stW Tryz.prog 251 (.pointer v5) (x18) (ptrW v5 (fun b19 o20 => rdT (rdA 256 b19 o20) kR (fun r21 =>
 K (.tuple ⟨[r21, .bool true]⟩))))))))) (fun (R22 : ByteArray -> Option Addr -> Int -> H -> Prop) => R22 v1 (some ⟨b2, 0, none⟩) 0))
theorem c253 (v1 : ByteArray) {K : KH} {σ : H} : g253 v1 K σ -> callW Tryz.prog 253 [.string v1] K σ := call_k an253 Tryz.func253 (by kernel_rfl)

end Go.Proofs.YtgfiobhpipollaaGreatDoor

set_option maxRecDepth 100000
namespace Go.Proofs.YtgfiobhpipollaaGreatDoor
open Go Go.HL
def an270 : Ann := (.q (.blk (.seq (some [(0,.s),(1,.sc (.int .i32)),(160,.b)]) .r (.cond (.q .z) (.q (.cond (.n (.q (.blk (.loop [(175,.p)] (.q (.n (.cond .z .z) (.blk (.q (.q (.h))))))))) (.q .z)) (.q (.cond (.q .z) (.blk (.q (.q (.q (.q (.n (.blk (.loop [(0,.s),(7,.s),(8,.i),(9,.i)] (.n (.q (.cond .z .z)) (.blk (.blk (.seq (some [(0,.s),(7,.s),(8,.i),(9,.i)]) (.n (.reg (rn 7) [[],[],[0,1],[],[],[3,4],(rn 6)]) (.cond (.n (.reg (rn 9) [[],[],[1],[0,1,2],[],[],[4,5],(rn 7),(rn 8)]) (.n (.q (.h)) .r)) .z)) (.n (.q (.blk (.loop [(0,.s),(7,.s),(8,.i),(9,.i),(12,.i)] (.n (.q (.cond .z .z)) (.n (.blk (.n (.reg (rn 11) [[],[],[],[1,2],(rn 4),[],[],[],[6,7],[5,6,7,8],(rn 10)]) (.cond .z .z))) .r))))) (.n (.q .z) (.n .z (.q (.q (.q (.cond .z .z))))))))))))) (.n (.q .z) (.n .z (.n (.cond (.q (.q (.h))) (.blk (.q (.q (.n .z (.blk (.loop [] (.n (.q (.cond .z .z)) (.n (.blk (.q (.cond (.n (.q (.blk (.loop [] (.n (.q (.cond .z .z)) (.n (.blk (.q (.cond .z .z))) .r))))) (.q .z)) .z))) .r))))))))) (.q .z))))))))))))))))))
def g270 (v1 : ByteArray) (v2 : Int) (K : KH) : H -> Prop :=
 letJ (T := ByteArray -> Int -> Bool -> H -> Prop) (fun v4 v5 x6 => brW x6 (callT Tryz.prog 116 [.string v4, .int .u8 (IntKind.u8.wrap v5)] kI (fun (x7 : Int) => K (.int .i64 x7))) (brW ((v5 : Int) == 65533) (vaW Tryz.prog (Instr.range 9 (.string v4)) kP (fun x8 => loopW [.sc .ptr] (fun (R9 : Option Addr -> H -> Prop) => (fun x10 => vaW Tryz.prog (Instr.next (.pointer x10) true 0) (.opt [.sc (.int .i64), .sc (.int .i32)]) (K (.int .i64 (-1)), (fun (x11 : Int) (x12 : Int) =>
 brW ((x12 : Int) == 65533) (K (.int .i64 x11)) (R9 x10))))) (fun (R13 : Option Addr -> H -> Prop) => R13 x8))) (callT Tryz.prog 278 [.int .i32 v5] kB (fun x14 => brW (!x14) (K (.int .i64 (-1))) (vaW Tryz.prog (convert 21 9 (.int .i32 v5)) kS (fun (x15 : ByteArray) => loopW [.sc .str, .sc .str, .sc (.int .i64), .sc (.int .i64)] (fun (R16 : ByteArray -> ByteArray -> Int -> Int -> H -> Prop) => (fun (v17 : ByteArray) (v18 : ByteArray) (v19 : Int) (v20 : Int) =>
 brW (decide ((v20 : Int) < ((v17.size : Nat) : Int))) (letJ (T := ByteArray -> ByteArray -> Int -> Int -> H -> Prop) (fun v22 v23 v24 v25 => loopW [.sc .str, .sc .str, .sc (.int .i64), .sc (.int .i64), .sc (.int .i64)] (fun (R26 : ByteArray -> ByteArray -> Int -> Int -> Int -> H -> Prop) => (fun (v27 : ByteArray) (v28 : ByteArray) (v29 : Int) (v30 : Int) (v31 : Int) => brW (decide ((v31 : Int) < ((v28.size : Nat) : Int))) (idxW v27 (IntKind.i64.wrap (v30 - v31)) (fun c32 =>
 idxW v28 (IntKind.i64.wrap (v29 - v31)) (fun c33 => brW ((c32.toNat : Int) != (c33.toNat : Int)) (nW) (R26 v27 v28 v29 v30 (IntKind.i64.wrap (v31 + 1)))))) (K (.int .i64 (IntKind.i64.wrap (v30 - v29)))))) (fun (R34 : ByteArray -> ByteArray -> Int -> Int -> Int -> H -> Prop) => R34 v22 v23 v24 v25 1)) (fun j21 => idxW v17 v20 (fun c35 => idxW v18 v19 (fun c36 => brW ((c35.toNat : Int) != (c36.toNat : Int))
 (ifW (bndOk none v17.size /\ bndOk (some (IntKind.i64.wrap (v20 + 1))) (v17.size)) (idxW v18 v19 (fun c37 => callT Tryz.prog 116 [.string (v17.extract ((IntKind.i64.wrap (v20 + 1)).toNat) v17.size), .int .u8 (c37.toNat : Int)] kI (fun (x38 : Int) => brW (decide ((x38 : Int) < 0)) (K (.int .i64 (-1))) (j21 v17 v18 v19 (IntKind.i64.wrap (v20 + (IntKind.i64.wrap (x38 + 1))))))))) (j21 v17 v18 v19 v20)))))
 (K (.int .i64 (-1))))) (fun (R39 : ByteArray -> ByteArray -> Int -> Int -> H -> Prop) => R39 v4 x15 (IntKind.i64.wrap (((x15.size : Nat) : Int) - 1)) (IntKind.i64.wrap (((x15.size : Nat) : Int) - 1))))))))) (fun j3 => brW (decide ((0 : Int) <= v2)) (j3 v1 v2 (decide ((v2 : Int) < 128))) (j3 v1 v2 false))
theorem c270 (v1 : ByteArray) (v2 : Int) {K : KH} {σ : H} : g270 v1 v2 K σ -> callW Tryz.prog 270 [.string v1, .int .i32 v2] K σ := call_k an270 Tryz.func270 (by kernel_rfl)


def an271 : Ann := (.q (.q .z))
def g271 (v1 : Int) (K : KH) : H -> Prop :=
 K (.bool (decide ((v1 : Int) > 8)))
theorem c271 (v1 : Int) {K : KH} {σ : H} : g271 v1 K σ -> callW Tryz.prog 271 [.int .i64 v1] K σ := call_k an271 Tryz.func271 (by kernel_rfl)


def an272 : Ann := (.q (.q .z))
def g272 (v1 : Option Addr) (v2 : Int) (K : KH) : H -> Prop :=
 ptrW v1 (fun b3 o4 => ifW (0 <= v2 /\ v2 < ((256 : Nat) : Int)) (rdT (rdC b3 (o4 + v2.toNat * 1)) kB (fun x5 => K (.bool x5))))
theorem c272 (v1 : Option Addr) (v2 : Int) {K : KH} {σ : H} : g272 v1 v2 K σ -> callW Tryz.prog 272 [.pointer v1, .int .u8 v2] K σ := call_k an272 Tryz.func272 (by kernel_rfl)


def an278 : Ann := (.q (.n (.blk (.seq (some [(0,.sc (.int .i32)),(3,.b)]) .r (.cond (.q .z) (.seq (some [(10,.b)]) .r (.h))))) (.q .z)))
def g278 (v1 : Int) (K : KH) : H -> Prop :=
 letJ (T := Int -> Bool -> H -> Prop) (fun v3 x4 => brW x4 (K (.bool true)) (letJ (T := Bool -> H -> Prop) (fun x6 => brW x6 (K (.bool true)) (K (.bool false))) (fun j5 => brW (decide ((57343 : Int) < v3)) (j5 (decide ((v3 : Int) <= 1114111))) (j5 false)))) (fun j2 => brW (decide ((0 : Int) <= v1)) (j2 v1 (decide ((v1 : Int) < 55296))) (j2 v1 false))
theorem c278 (v1 : Int) {K : KH} {σ : H} : g278 v1 K σ -> callW Tryz.prog 278 [.int .i32 v1] K σ := call_k an278 Tryz.func278 (by kernel_rfl)

end Go.Proofs.YtgfiobhpipollaaGreatDoor

namespace Go.Proofs.YtgfiobhpipollaaGreatDoor
open Go Go.HL
end Go.Proofs.YtgfiobhpipollaaGreatDoor

set_option maxRecDepth 100000
namespace Go.Proofs.YtgfiobhpipollaaGreatDoor
open Go Go.HL Go.Wk
attribute [local irreducible] ptrW ifW brW andW rdT alW letJ stW muW biW vaW imW callT cvalT app callW invW callVW sizeT oW nilF oneK loopW rfW funW begW roundK exW idxW Gr Put
structure Nd where
 blk : Nat
 kind : Int
 mode : Int
 data : ByteArray
 links : Int
 up : Int
 eb : Option Nat
 ents : List (ByteArray × Int)
structure Tb where
 qi : Int
 qb : Int
 ui : Int
 ub : Int
 last : Int
 mb : Nat
 nodes : List (Int × Nd)
def valI (n : Int) : Value := .int .i64 n
def Tb.get (T : Tb) (ino : Int) : Option Nd := lk ino T.nodes
def Tb.find (T : Tb) (dir : Int) (name : ByteArray) : Option Int := (T.get dir).bind fun n => lk name n.ents
def Tb.up (T : Tb) (dir : Int) : Int := ((T.get dir).map (·.up)).getD 0
theorem sz_int : sizeT Tryz.prog 3 = some 1 := by kernel_rfl
theorem sz_bool : sizeT Tryz.prog 4 = some 1 := by kernel_rfl
theorem wrap_id {x : Int} (h1 : -9223372036854775808 <= x) (h2 : x <= 9223372036854775807) : IntKind.i64.wrap x = x := by
 rw [IntKind.wrap_i64]; omega
theorem und_string : Tryz.prog.underlying 9 = some .string := by kernel_rfl
def IByte : Prop := ∀ (s : ByteArray) (σ : H) (K : KH), (∀ n : Int, (decide (n < 0) = !hasNul s) -> K (.int .i64 n) σ) -> callW Tryz.prog 116 [.string s, .int .u8 0] K σ
def CAny : Prop := ∀ (s : ByteArray) (_ : s.size <= 1000000) (σ : H) (K : KH), K (.bool (badByte s)) σ -> callW Tryz.prog 212 [.string s, .string ⟨⟨[47, 0]⟩⟩] K σ
structure Own (T : Tb) : Prop where
 blk : ∀ i j n m, T.get i = some n -> T.get j = some m -> n.blk = m.blk -> i = j
 eb : ∀ i j n m e, T.get i = some n -> T.get j = some m -> n.eb = some e -> m.eb = some e -> i = j
 mb : ∀ i n, T.get i = some n -> n.eb ≠ some T.mb
def Tb.set (T : Tb) (i : Int) (n : Nd) : Tb := { T with nodes := HL.up i n T.nodes }
theorem get_set (T : Tb) (i j : Int) (n : Nd) : (T.set i n).get j = if j = i then some n else T.get j := by
 unfold Tb.set Tb.get; simp only [lk_up]
 by_cases h : j = i <;> simp [h]
section
variable {σ σ' : H} {bt : Nat} {T : Tb} {b : Nat} {o : Obj}
theorem Own.same {T' : Tb} (h : Own T) (h1 : T'.mb = T.mb) (h2 : T'.nodes = T.nodes) : Own T' := by
 have hg : ∀ i, T'.get i = T.get i := by intro i; unfold Tb.get; rw [h2]
 refine ⟨?_, ?_, ?_⟩
 ·intro i j n m; rw [hg, hg]; exact h.blk i j n m
 ·intro i j n m e; rw [hg, hg]; exact h.eb i j n m e
 ·intro i n; rw [hg, h1]; exact h.mb i n
theorem Own.set (ho : Own T) {i : Int} {n n' : Nd} (hn : T.get i = some n) (h1 : n'.blk = n.blk) (h2 : n'.eb = n.eb) : Own (T.set i n') := by
 have key : ∀ j m, (T.set i n').get j = some m -> ∃ m', T.get j = some m' /\ m.blk = m'.blk /\ m.eb = m'.eb := by
  intro j m hm
  rw [get_set] at hm
  by_cases e : j = i
  ·rw [if_pos e] at hm; cases hm; subst e; exact ⟨n, hn, h1, h2⟩
  ·rw [if_neg e] at hm; exact ⟨m, hm, rfl, rfl⟩
 refine ⟨?_, ?_, ?_⟩
 ·intro a c x y hx hy hb
  obtain ⟨x', hx', e1, _⟩ := key a x hx
  obtain ⟨y', hy', e2, _⟩ := key c y hy
  exact ho.blk a c x' y' hx' hy' (by rw [<- e1, <- e2]; exact hb)
 ·intro a c x y e hx hy h3 h4
  obtain ⟨x', hx', _, e1⟩ := key a x hx
  obtain ⟨y', hy', _, e2⟩ := key c y hy
  exact ho.eb a c x' y' e hx' hy' (by rw [<- e1]; exact h3) (by rw [<- e2]; exact h4)
 ·intro a x hx
  obtain ⟨x', hx', _, e1⟩ := key a x hx
  rw [e1]; exact ho.mb a x' hx'
end
end Go.Proofs.YtgfiobhpipollaaGreatDoor

set_option maxRecDepth 100000
namespace Go.Proofs.YtgfiobhpipollaaGreatDoor
open Go Go.HL Go.Wk
theorem go_IBS : isGo Tryz.prog 213 = false := by kernel_rfl
theorem fn_IBS : (Tryz.prog.funcs[213]?).map (fun fn => ((fn.name == "runtime.NumGoroutine"), fn.body.isNone)) = some (false, true) := by kernel_rfl
theorem ex_IBS : (Tryz.prog.funcs[213]?).bind (fun fn => Extern.find fn) = some Extern.BytealgIndexByte.indexByte := by kernel_rfl
theorem en_IBS : (Tryz.prog.funcs[213]?).map (fun fn => (Extern.findNext fn).isNone) = some true := by kernel_rfl
theorem x_IBS (s : ByteArray) (c : Int) {σ : H} {F : Int -> H -> Prop} (hF : F (firstIdx s c.toNat.toUInt8) σ) : cvalT Tryz.prog (.func (.func 213) ⟨[]⟩ ⟨[]⟩) [.string s, .int .u8 c] kI F σ := by
 unfold cvalT callVW
 simp only [go_IBS]
 intro w hw
 have h1 := fn_IBS
 have h2 := ex_IBS
 have h3 := en_IBS
 cases hf : Tryz.prog.funcs[213]? with
 | none => rw [hf] at h1; cases h1
 | some fn =>
  rw [hf] at h1 h2 h3
  simp only [Option.map_some, Option.some.injEq, Prod.mk.injEq, Option.bind_some] at h1 h2 h3
  have hr := run_callFunc_indexByte hf h1.1 h1.2 (Option.isNone_iff_eq_none.1 h3) h2 #[.string s, .int .u8 c] w
  rw [run_indexByte_string] at hr
  have : (callS (.func (.func 213) ⟨[]⟩ ⟨[]⟩) [.string s, .int .u8 c]).run Tryz.prog w = .ok (.value (.int .i64 (firstIdx s c.toNat.toUInt8))) w := by
   refine Eq.trans ?_ hr
   simp [callS, Deferred.ofValue, invoke]
  rw [this]
  exact ⟨σ, Ext.refl hw, app_I hF⟩
theorem firstIdx_lt (s : ByteArray) (c : UInt8) : decide (firstIdx s c < 0) = !(s.toList.any fun x => x == c) := by
 have key : (∃ i, i < s.size /\ s[i]! = c) ↔ c ∈ s.toList := by
  rw [ByteArray.toList_eq]
  constructor
  ·rintro ⟨i, hi, he⟩
   rw [getElem!_pos s i hi] at he
   rw [<- he]
   exact Array.getElem_mem_toList (xs := s.data) hi
  ·intro h
   obtain ⟨i, hi, he⟩ := List.getElem_of_mem h
   have hi' : i < s.data.size := by simpa using hi
   refine ⟨i, hi', ?_⟩
   rw [getElem!_pos s i hi', <- he]
   simp [ByteArray.getElem_eq_getElem_data]
 unfold firstIdx
 cases hf : (List.range s.size).find? fun i => s[i]! == c with
 | some i =>
  have h1 := List.find?_some hf
  have h2 := List.mem_of_find?_eq_some hf
  have : c ∈ s.toList := key.1 ⟨i, by simpa using h2, by simpa using h1⟩
  have h3 : (s.toList.any fun x => x == c) = true := List.any_eq_true.2 ⟨c, this, by simp⟩
  rw [h3]
  simp
 | none =>
  have h1 := List.find?_eq_none.1 hf
  have h3 : (s.toList.any fun x => x == c) = false := by
   rw [List.any_eq_false]
   intro x hx hxc
   have : x = c := by simpa using hxc
   subst this
   obtain ⟨i, hi, he⟩ := key.2 hx
   exact h1 i (by simpa using hi) (by simpa using he)
  rw [h3]; rfl
theorem x_IndexByte (s : ByteArray) (c : Int) {σ : H} {K : KH} (hK : K (.int .i64 (firstIdx s c.toNat.toUInt8)) σ) : callW Tryz.prog 116 [.string s, .int .u8 c] K σ := by
 refine c116 _ _ ?_
 unfold g116
 refine call_i ?_
 refine c176 _ _ ?_
 unfold g176
 exact x_IBS s c (app_I hK)
theorem iByte : IByte := by
 intro s σ K hK
 refine x_IndexByte s 0 (hK _ ?_)
 have := firstIdx_lt s 0
 rw [ByteArray.toList_eq] at this
 exact this
end Go.Proofs.YtgfiobhpipollaaGreatDoor

namespace Go.Wk
open Go Go.HL
def leB : List UInt8 -> List UInt8 -> Bool
 | [], _ => true
 | _ :: _, [] => false
 | a :: r, b :: s => match Nat.blt a.toNat b.toNat with
  | true => true
  | false => match Nat.blt b.toNat a.toNat with
   | true => false
   | false => leB r s
def insB (x : List UInt8) : List (List UInt8) -> List (List UInt8)
 | [] => [x]
 | y :: r => match leB x y with
  | true => x :: y :: r
  | false => y :: insB x r
def sortB : List (List UInt8) -> List (List UInt8)
 | [] => []
 | x :: r => insB x (sortB r)
def sortN (l : List ByteArray) : List ByteArray := (sortB (l.map fun s => s.data.toList)).map fun x => (⟨⟨x⟩⟩ : ByteArray)
theorem leB_iff : ∀ x y : List UInt8, leB x y = true ↔ x <= y := by
 intro x
 induction x with
 | nil => intro y; simp [leB]
 | cons a r ih =>
  intro y
  cases y with
  | nil => simp [leB]
  | cons b s =>
   rw [List.cons_le_cons_iff]
   unfold leB
   cases h1 : Nat.blt a.toNat b.toNat with
   | true =>
    have : a < b := UInt8.lt_iff_toNat_lt.2 (by simpa [Nat.blt_eq] using h1)
    simp [this]
   | false =>
    have h1' : ¬ a < b := by
     intro h; have : Nat.blt a.toNat b.toNat = true := by rw [Nat.blt_eq]; exact h
     rw [h1] at this; cases this
    cases h2 : Nat.blt b.toNat a.toNat with
    | true =>
     have : b < a := UInt8.lt_iff_toNat_lt.2 (by simpa [Nat.blt_eq] using h2)
     simp only [Bool.false_eq_true, false_iff, not_or, not_and]
     refine ⟨h1', fun e => ?_⟩
     subst e; exact absurd this (UInt8.lt_irrefl _)
    | false =>
     have h2' : ¬ b < a := by
      intro h; have : Nat.blt b.toNat a.toNat = true := by rw [Nat.blt_eq]; exact h
      rw [h2] at this; cases this
     have : a = b := UInt8.le_antisymm (UInt8.not_lt.1 h2') (UInt8.not_lt.1 h1')
     simp [this, ih]
theorem insB_perm (x : List UInt8) : ∀ l, (insB x l).Perm (x :: l) := by
 intro l
 induction l with
 | nil => exact List.Perm.refl _
 | cons y r ih =>
  unfold insB
  cases leB x y with
  | true => exact List.Perm.refl _
  | false => exact (ih.cons y).trans (List.Perm.swap x y r)
theorem sortB_perm : ∀ l, (sortB l).Perm l := by
 intro l
 induction l with
 | nil => exact List.Perm.refl _
 | cons x r ih => exact (insB_perm x _).trans (ih.cons x)
theorem insB_sorted {x : List UInt8} : ∀ {l : List (List UInt8)}, l.Pairwise (· <= ·) -> (insB x l).Pairwise (· <= ·) := by
 intro l
 induction l with
 | nil => intro _; simp [insB]
 | cons y r ih =>
  intro h
  obtain ⟨h1, h2⟩ := List.pairwise_cons.1 h
  unfold insB
  cases hb : leB x y with
  | true =>
   have hxy := (leB_iff x y).1 hb
   refine List.pairwise_cons.2 ⟨fun z hz => ?_, h⟩
   rcases List.mem_cons.1 hz with e | e
   ·rw [e]; exact hxy
   ·exact List.le_trans hxy (h1 z e)
  | false =>
   have hyx : y <= x := by
    have : ¬ x <= y := by rw [<- leB_iff, hb]; simp
    exact (List.le_total x y).resolve_left this
   refine List.pairwise_cons.2 ⟨fun z hz => ?_, ih h2⟩
   rcases List.mem_cons.1 ((insB_perm x r).mem_iff.1 hz) with e | e
   ·rw [e]; exact hyx
   ·exact h1 z e
theorem sortB_sorted : ∀ l, (sortB l).Pairwise (· <= ·) := by
 intro l
 induction l with
 | nil => exact List.Pairwise.nil
 | cons x r ih => exact insB_sorted ih
theorem sortB_merge (l : List (List UInt8)) : l.mergeSort (fun x y => decide (x <= y)) = sortB l := by
 have h1 := List.pairwise_mergeSort (le := fun x y : List UInt8 => decide (x <= y)) (by intro a b c h1 h2; simp only [decide_eq_true_eq] at *; exact List.le_trans h1 h2) (by intro a b; simp only [Bool.or_eq_true, decide_eq_true_eq]; exact List.le_total a b) l
 have h1' : (l.mergeSort (fun x y => decide (x <= y))).Pairwise (· <= ·) := h1.imp (by intro a b h; simpa using h)
 refine List.Perm.eq_of_pairwise (le := (· <= ·)) ?_ h1' (sortB_sorted l) ((List.mergeSort_perm l _).trans (sortB_perm l).symm)
 intro a b _ _ h1 h2; exact List.le_antisymm h1 h2
def AT.names (A : AT) (dir : Int) : List ByteArray := match A.get dir with
 | none => []
 | some n => sortN (keysL n.ents)
structure Pl where
 dir : Int
 name : ByteArray
 ino : Int
 there : Bool
def Pl.z : Pl := ⟨0, ⟨⟨[]⟩⟩, 0, false⟩
def splitL (c : UInt8) : List UInt8 -> List (List UInt8)
 | [] => [[]]
 | x :: r => match x == c with
  | true => [] :: splitL c r
  | false => match splitL c r with
   | [] => [[x]]
   | h :: t => (x :: h) :: t
def okPart (s : ByteArray) : Bool := !sEq s ⟨⟨[]⟩⟩ && !sEq s ⟨⟨[46]⟩⟩
def partsB (path : ByteArray) : List ByteArray := ((splitL 47 path.data.toList).map fun l => (⟨⟨l⟩⟩ : ByteArray)).filter okPart
def mayE (path : ByteArray) : Int := if sEq path ⟨⟨[]⟩⟩ then 5 else if path.size > 255 then 3 else if hasNul path then 2 else 0
def headIs (c : UInt8) (s : ByteArray) : Bool := match s.data.toList with
 | [] => false
 | x :: _ => x == c
def AT.data (A : AT) (i : Int) : ByteArray := ((A.get i).map (·.data)).getD ⟨⟨[]⟩⟩
def AT.steps (A : AT) (go : Int -> ByteArray -> Int -> Int × Pl × Int) (follow : Bool) : List ByteArray -> Pl -> Int -> Int × Pl × Int
 | [], p, h => (0, p, h)
 | name :: rest, p, h =>
  if p.there = false then (5, Pl.z, h)
  else if A.kind p.ino ≠ 2 then (8, Pl.z, h)
  else if sEq name ⟨⟨[46, 46]⟩⟩ = true then AT.steps A go follow rest ⟨A.upOf p.ino, ⟨⟨[]⟩⟩, A.upOf p.ino, true⟩ h
  else if name.size > 56 then (3, Pl.z, h)
  else
   let o := A.find p.ino name
   let q : Pl := ⟨p.ino, name, o.getD 0, o.isSome⟩
   if o.isSome = false \/ (rest.isEmpty && !follow) = true \/ A.kind q.ino ≠ 3 then AT.steps A go follow rest q h
   else if h - 1 < 0 then (9, Pl.z, h - 1)
   else
    let r := go q.dir (A.data q.ino) (h - 1)
    if r.1 ≠ 0 then (r.1, Pl.z, r.2.2) else AT.steps A go follow rest r.2.1 r.2.2
def AT.walk (A : AT) : Nat -> Int -> ByteArray -> Bool -> Int -> Int × Pl × Int
 | 0, _, _, _, h => (9, Pl.z, h)
 | f + 1, at_, path, follow, h =>
  if mayE path ≠ 0 then (mayE path, Pl.z, h)
  else
   let a := if headIs 47 path then 1 else at_
   A.steps (fun d s h' => AT.walk A f d s true h') follow (partsB path) ⟨a, ⟨⟨[]⟩⟩, a, true⟩ h
def AT.locate (A : AT) (cwd path : ByteArray) (follow : Bool) : Int × Pl :=
 if sEq path ⟨⟨[]⟩⟩ then (5, Pl.z)
 else if headIs 47 path then let r := A.walk 10 1 path follow 8; (r.1, r.2.1)
 else if headIs 47 cwd = false then (5, Pl.z)
 else
  let r := A.walk 10 1 cwd true 8
  if r.1 ≠ 0 then (r.1, Pl.z)
  else if r.2.1.there = false then (5, Pl.z)
  else if A.kind r.2.1.ino ≠ 2 then (8, Pl.z)
  else let r' := A.walk 10 r.2.1.ino path follow 8; (r'.1, r'.2.1)
structure IN where
 kind : Int
 mode : Int
 data : ByteArray
 links : Int
def IN.z : IN := ⟨0, 0, ⟨⟨[]⟩⟩, 0⟩
def AN.inode (n : AN) : IN := ⟨n.kind, n.mode, n.data, n.links⟩
def AT.ino (A : AT) (i : Int) : IN := ((A.get i).map AN.inode).getD IN.z
def AT.with_ (A : AT) (cwd path : ByteArray) (follow : Bool) : Int × Int × IN :=
 let r := A.locate cwd path follow
 if r.1 ≠ 0 then (r.1, 0, IN.z)
 else if r.2.there = false then (5, 0, IN.z)
 else match A.get r.2.ino with
  | none => (5, 0, IN.z)
  | some n => (0, r.2.ino, n.inode)
def AT.stat (A : AT) (cwd path : ByteArray) (follow : Bool) : Int × IN := let r := A.with_ cwd path follow; (r.1, r.2.2)
def AT.deep (A : AT) : Nat -> Int -> Option Int
 | 0, _ => none
 | f + 1, d => if d = 1 then some 1 else (AT.deep A f (A.upOf d)).map (· + 1)
def AT.listF (A : AT) (cwd path : ByteArray) : Int × List ByteArray :=
 let r := A.with_ cwd path true
 if r.1 ≠ 0 then (r.1, []) else if r.2.2.kind ≠ 2 then (8, []) else (0, A.names r.2.1)
def AT.levels (A : AT) : Nat -> Int -> Int
 | 0, _ => 0
 | f + 1, i => if A.kind i ≠ 2 then 0 else (A.names i).foldl (fun n s => let x := AT.levels A f ((A.find i s).getD 0); if x > n then x else n) 0 + 1
end Go.Wk

