/- A part of the proof: FieldRises holds. -/
import Derived.Test.YtbjbeajbckcecaaGreatDoorSan
import Derived.Test.YtbjbeajbckcecaaGreatDoorProg
import Derived.KernelRfl
import Derived.Test.YtbjbeajbckcecaaGreatDoorChecked
namespace Go.Wk
open Go Go.HL
structure AN where
 kind : Int
 mode : Int
 data : ByteArray
 links : Int
 up : Int
 ents : List (ByteArray × Int)
structure AT where
 qi : Int
 qb : Int
 ui : Int
 ub : Int
 last : Int
 nodes : List (Int × AN)
def AT.get (A : AT) (i : Int) : Option AN := lk i A.nodes
def AT.find (A : AT) (dir : Int) (name : ByteArray) : Option Int := (A.get dir).bind fun n => lk name n.ents
def AT.kind (A : AT) (i : Int) : Int := ((A.get i).map (·.kind)).getD 0
def AT.upOf (A : AT) (i : Int) : Int := ((A.get i).map (·.up)).getD 0
def AT.dirE (A : AT) (ino : Int) : Int := match A.get ino with
 | none => 5
 | some n => if n.kind == 2 then 0 else 8
def AT.fileE (A : AT) (ino : Int) : Int := match A.get ino with
 | none => 5
 | some n => if n.kind == 2 then 7 else if n.kind == 1 then 0 else 2
def sEq (x y : ByteArray) : Bool := x.data.toList == y.data.toList
theorem sEq_eq (x y : ByteArray) : sEq x y = strEq x y := by unfold sEq strEq; rw [ByteArray.toList_eq, ByteArray.toList_eq]
theorem sEq_iff {x y : ByteArray} : sEq x y = true ↔ x = y := by rw [sEq_eq]; exact strEq_iff
def badByte (s : ByteArray) : Bool := s.data.toList.any fun c => c == 47 || c == 0
def hasNul (s : ByteArray) : Bool := s.data.toList.any fun c => c == 0
def namedE (name : ByteArray) : Int := if name.size > 56 then 3 else if !sEq name ⟨⟨[]⟩⟩ && !sEq name ⟨⟨[46]⟩⟩ && !sEq name ⟨⟨[46, 46]⟩⟩ && !badByte name then 0 else 2
def linkOk (d : ByteArray) : Bool := !sEq d ⟨⟨[]⟩⟩ && (decide (d.size <= 255) && !hasNul d)
def kindOkE (kind : Int) (d : ByteArray) : Bool := (lk kind [((1 : Int), true), (2, sEq d ⟨⟨[]⟩⟩), (3, linkOk d)]).getD false
def likeE (kind mode : Int) (d : ByteArray) : Int := if kindOkE kind d && (decide (0 <= mode) && decide (mode <= 511)) then 0 else 2
def wr (x : Int) : Int := IntKind.i64.wrap x
def AT.roomE (A : AT) (i n : Int) : Int := if wr (A.ui + i) <= A.qi /\ wr (A.ub + n) <= A.qb then 0 else 10
def firstE : List Int -> Int
 | [] => 0
 | e :: es => if e = 0 then firstE es else e
def AT.set (A : AT) (i : Int) (n : AN) : AT := { A with nodes := up i n A.nodes }
def AT.ent (A : AT) (dir : Int) (f : List (ByteArray × Int) -> List (ByteArray × Int)) : AT := match A.get dir with
 | none => A
 | some n => A.set dir { n with ents := f n.ents }
def AT.makeE (A : AT) (dir : Int) (name : ByteArray) (kind mode : Int) (data : ByteArray) : Int :=
 firstE [0, A.dirE dir, namedE name, likeE kind mode data, if (A.find dir name).isSome then 6 else 0, A.roomE 1 (data.size : Int)]
def AT.made (A : AT) (dir : Int) (name : ByteArray) (kind mode : Int) (data : ByteArray) : AT :=
 let i := wr (A.last + 1)
 let A1 := { A with last := i, nodes := up i ⟨kind, mode, data, 1, if kind == 2 then dir else 0, []⟩ A.nodes }
 let A2 := A1.ent dir (up name i)
 { A2 with ui := wr (A.ui + 1), ub := wr (A.ub + data.size) }
def AT.writeE (A : AT) (ino : Int) (data : ByteArray) : Int :=
 firstE [0, A.fileE ino, A.roomE 0 (wr ((data.size : Int) - ((A.get ino).map (·.data.size)).getD 0))]
def AT.written (A : AT) (ino : Int) (data : ByteArray) : AT := match A.get ino with
 | none => A
 | some n => { A.set ino { n with data := data } with ub := wr (A.ub + wr ((data.size : Int) - n.data.size)) }
def newOk (qi qb : Int) : Bool := !(decide (qi < 1) || (decide (qi > 1048576) || (decide (qb < 0) || decide (qb > 1073741824))))
def newT (qi qb : Int) : AT := ⟨qi, qb, 1, 0, 1, [(1, ⟨2, 493, ⟨⟨[]⟩⟩, 1, 1, []⟩)]⟩
def AT.makeR (A : AT) (dir : Int) (name : ByteArray) (kind mode : Int) (data : ByteArray) : Int × Int × AT :=
 if A.makeE dir name kind mode data = 0 then (wr (A.last + 1), 0, A.made dir name kind mode data) else (0, A.makeE dir name kind mode data, A)
def AT.writeR (A : AT) (ino : Int) (data : ByteArray) : Int × AT := if A.writeE ino data = 0 then (0, A.written ino data) else (A.writeE ino data, A)
end Go.Wk

namespace Go.Proofs.YtbjbeajbckcecaaGreatDoor
open Go Go.HL
@[reducible] def kI : TK := .one (.sc (.int .i64))
@[reducible] def kC : TK := .one (.sc (.int .u8))
@[reducible] def kB : TK := .one (.sc .bool)
@[reducible] def kS : TK := .one (.sc .str)
@[reducible] def kP : TK := .one (.sc .ptr)
@[reducible] def kL : TK := .one (.sc .slc)
@[reducible] def kM : TK := .one (.sc .map)
@[reducible] def kR : TK := .one (.sc .raw)
@[reducible] def kU : TK := .tup []
def tau : Nat -> TK
 | 0 => kU
 | 2 => kI
 | 3 => kI
 | 4 => kB
 | 5 => kC
 | 6 => kC
 | 7 => (.one (.agg [(.int .i64), (.int .i64), .bool, (.int .u8)]))
 | 8 => (.one (.agg [(.int .i64), (.int .i64), .bool, (.int .u8)]))
 | 9 => kS
 | 10 => kS
 | 11 => kS
 | 12 => (.one (.sc (.int .u64)))
 | 13 => (.one (.agg [.str, (.int .u64)]))
 | 14 => (.one (.agg [.str, (.int .u64)]))
 | 15 => kP
 | 16 => kP
 | 17 => kP
 | 18 => (.one (.agg [.ptr]))
 | 19 => (.one (.agg [.ptr]))
 | 21 => (.one (.sc (.int .i32)))
 | 22 => kL
 | 24 => kP
 | 25 => kP
 | 26 => (.tup [.sc .ptr, .sc .ptr])
 | 28 => (.one (.agg [.str, .bool, .bool]))
 | 29 => (.one (.agg [.str, .bool, .bool]))
 | 31 => kL
 | 32 => (.tup [.sc .slc, .sc (.int .i64)])
 | 34 => (.one (.agg [(.int .i64), (.int .i64), .str, (.int .i64)]))
 | 35 => (.one (.agg [(.int .i64), (.int .i64), .str, (.int .i64)]))
 | 36 => kI
 | 37 => (.tup [.agg [(.int .i64), (.int .i64), .str, (.int .i64)], .sc (.int .i64)])
 | 40 => (.tup [.sc .slc, .sc (.int .i64)])
 | 44 => kL
 | 47 => kL
 | 51 => kL
 | 52 => (.one (.agg [.slc]))
 | 53 => (.one (.agg [.slc]))
 | 56 => kL
 | 62 => kL
 | 63 => (.one (.agg [(.int .i64), (.int .i64)]))
 | 64 => (.one (.agg [(.int .i64), (.int .i64)]))
 | 68 => (.one (.agg [(.int .u8), .str, .str, (.int .i64)]))
 | 69 => (.one (.agg [(.int .u8), .str, .str, (.int .i64)]))
 | 71 => kL
 | 72 => (.one (.agg [.str, (.int .i64), .bool, .str, .slc]))
 | 73 => (.one (.agg [.str, (.int .i64), .bool, .str, .slc]))
 | 74 => (.tup [.agg [.str, (.int .i64), .bool, .str, .slc], .sc (.int .i64)])
 | 92 => (.tup [.sc .str, .sc (.int .i64)])
 | 95 => kP
 | 96 => (.one (.agg [.ptr, .str, (.int .i64)]))
 | 97 => (.one (.agg [.ptr, .str, (.int .i64)]))
 | 102 => kL
 | 108 => kP
 | 109 => (.one (.agg [.ptr]))
 | 110 => (.one (.agg [.ptr]))
 | 114 => kP
 | 116 => (.one (.agg [(.int .u8), .bool]))
 | 117 => (.one (.agg [(.int .u8), .bool]))
 | 119 => kP
 | 120 => (.one (.agg [.ptr, .slc]))
 | 121 => (.one (.agg [.ptr, .slc]))
 | 124 => (.tup [.sc (.int .i64), .sc .raw])
 | 128 => kP
 | 129 => kL
 | 130 => (.one (.agg [(.int .i64), (.int .i64), .str, .slc, (.int .i64)]))
 | 131 => (.one (.agg [(.int .i64), (.int .i64), .str, .slc, (.int .i64)]))
 | 132 => kL
 | 133 => (.one (.agg [(.int .i64), (.int .i64), .slc]))
 | 134 => (.one (.agg [(.int .i64), (.int .i64), .slc]))
 | 135 => (.one (.agg [.ptr]))
 | 136 => (.one (.agg [.ptr]))
 | 141 => (.one (.agg [(.int .i64), .str, (.int .i64), .bool]))
 | 142 => (.one (.agg [(.int .i64), .str, (.int .i64), .bool]))
 | 143 => (.tup [.sc (.int .i64), .sc (.int .i64)])
 | 147 => (.tup [.agg [(.int .i64), .str, (.int .i64), .bool], .sc (.int .i64)])
 | 149 => (.tup [.agg [(.int .i64), (.int .i64), .str, (.int .i64)], .sc .bool])
 | 155 => (.one (.sc (.int .u64)))
 | 156 => (.tup [.sc (.int .u64), .sc (.int .u64)])
 | 159 => (.tup [.agg [(.int .i64), .str, (.int .i64), .bool], .agg [(.int .i64), .str, (.int .i64), .bool], .sc (.int .i64)])
 | 165 => (.tup [.sc (.int .i64), .sc (.int .i64)])
 | 168 => (.tup [.sc (.int .i64), .sc .bool])
 | 170 => (.one (.agg [(.int .i64), .str, (.int .i64)]))
 | 171 => (.one (.agg [(.int .i64), .str, (.int .i64)]))
 | 172 => (.tup [.agg [(.int .i64), .str, (.int .i64)], .sc (.int .i64)])
 | 177 => kL
 | 179 => (.one (.agg [.bool, .raw, .bool]))
 | 180 => (.one (.agg [.bool, .raw, .bool]))
 | 185 => (.one (.agg [.slc, .bool]))
 | 186 => (.one (.agg [.slc, .bool]))
 | 188 => kP
 | 189 => kP
 | 192 => kM
 | 193 => (.one (.agg [(.int .i64), (.int .i64), .str, (.int .i64), (.int .i64), .map]))
 | 194 => (.one (.agg [(.int .i64), (.int .i64), .str, (.int .i64), (.int .i64), .map]))
 | 197 => kP
 | 198 => kM
 | 199 => (.one (.agg [(.int .i64), (.int .i64), (.int .i64), (.int .i64), .map, (.int .i64)]))
 | 200 => (.one (.agg [(.int .i64), (.int .i64), (.int .i64), (.int .i64), .map, (.int .i64)]))
 | 205 => (.tup [.sc .raw, .sc .bool])
 | 209 => kM
 | 211 => kM
 | 219 => kP
 | 220 => (.one (.sc (.int .u32)))
 | 221 => (.tup [.sc (.int .u32), .sc (.int .u32)])
 | 223 => (.one (.sc (.int .u64)))
 | 224 => (.tup [.sc (.int .u64), .sc (.int .u64)])
 | 226 => kM
 | 229 => kL
 | 233 => (.one (.agg [(.int .u8), .bool]))
 | 234 => (.one (.agg [(.int .u8), .bool]))
 | 235 => (.tup [.sc .raw, .sc (.int .i64)])
 | 244 => (.one (.agg [.str, (.int .i64)]))
 | 245 => (.one (.agg [.str, (.int .i64)]))
 | 249 => kL
 | 260 => kI
 | 261 => (.tup [.sc (.int .i64), .sc (.int .i64)])
 | 270 => kL
 | 276 => (.one (.sc (.int .u64)))
 | 286 => (.tup [.sc .raw, .sc .bool])
 | 289 => kP
 | 292 => kP
 | 293 => (.tup [.sc (.int .i32), .sc (.int .i64)])
 | 296 => (.one (.agg [(.int .u8), (.int .u8)]))
 | 297 => (.one (.agg [(.int .u8), (.int .u8)]))
 | 299 => (.one (.agg [.ptr, .ptr, .ptr, .str]))
 | 300 => (.one (.agg [.ptr, .ptr, .ptr, .str]))
 | 301 => (.one (.agg []))
 | 302 => (.one (.agg []))
 | 303 => (.one (.agg []))
 | 304 => kC
 | 305 => kC
 | 307 => (.one (.sc (.int .i32)))
 | 308 => (.one (.sc (.int .i32)))
 | 309 => (.one (.agg [(.int .u64), (.int .u64), (.int .u32), (.int .u8), (.int .u8), (.int .u8), (.int .u8), .raw, .ptr, (.int .i32), (.int .i32)]))
 | 310 => (.one (.agg [(.int .u64), (.int .u64), (.int .u32), (.int .u8), (.int .u8), (.int .u8), (.int .u8), .raw, .ptr, (.int .i32), (.int .i32)]))
 | _ => kR
theorem mixed : Tryz.prog.follows .mixedOrders = true := by kernel_rfl
end Go.Proofs.YtbjbeajbckcecaaGreatDoor

set_option maxRecDepth 100000
namespace Go.Proofs.YtbjbeajbckcecaaGreatDoor
open Go Go.HL
def an3 : Ann := (.q (.n (.q (.h)) (.q (.n (.q (.h)) (.q (.seq (some [(1,.b),(5,.p),(7,.l)]) (.q (.cond .r .z)) (.q (.n (.seq (some [(1,.b),(5,.p),(8,.l),(9,.i),(51,.b)]) (.reg (rn 13) [[],[0],[0,1],[0,1,2],(rn 4),(rn 5),(rn 6),(rn 4),[0,1,2,3,7],[0,1,2,3,7,8],[0,1,2,3,7,8,9],(rn 11),(rn 12)]) (.cond (.q (.q .z)) .z)) (.n (.q (.blk (.loop [(1,.b),(5,.p),(8,.l),(9,.i),(12,.i)] (.n (.q (.cond .z .z)) (.n (.blk (.q (.seq (some [(1,.b),(5,.p),(8,.l),(9,.i),(12,.i),(92,.w),(93,.w),(94,.w),(95,.w),(96,.w),(97,.w),(98,.w),(99,.w),(100,.w),(101,.w),(102,.w),(103,.w),(104,.w),(105,.w),(108,.w),(109,.w),(110,.w),(111,.w),(112,.w),(115,.w),(116,.w),(117,.w),(118,.w),(119,.w),(120,.w),(123,.w),(124,.w),(125,.w),(126,.w),(127,.w),(128,.b)]) (.reg (rn 40) [[],[0],[0,1],[0,1,2],(rn 4),(rn 5),(rn 6),(rn 6),[0,1,2,3,4,5,7],(rn 9),(rn 10),(rn 6),(rn 6),[0,1,2,3,4,5,11,12],[0,1,2,3,4,5,11,12,13],(rn 15),(rn 16),(rn 17),(rn 18),(rn 19),(rn 19),(rn 21),(rn 22),(rn 23),(rn 24),(rn 25),(rn 26),(rn 26),(rn 28),(rn 29),(rn 30),(rn 31),(rn 32),(rn 33),(rn 34),(rn 34),(rn 36),(rn 37),(rn 38),(rn 39)]) (.h)))) .r))))) (.n (.q (.h)) (.q (.q (.n (.q (.blk (.loop [(8,.l),(9,.i),(15,.l),(16,.i),(17,.l),(18,.i)] (.n (.q (.cond .z .z)) (.seq (some [(8,.l),(9,.i),(15,.l),(16,.i),(17,.l),(18,.i)]) (.blk (.q (.cond .r .z))) .r))))) (.q .z))))))))))))))
def g3 (paths_1 : Sl) (deep_2 : Bool) (K : KH) : H -> Prop :=
 callT Tryz.prog 11 [] kB (fun x3 => brW (!x3) (K (.bool false)) (callT Tryz.prog 12 [.slice paths_1.base paths_1.len paths_1.cap] (.tup [.sc .ptr, .sc .ptr]) (fun x4 _x5 => brW x4.isNone (K (.bool false)) (callT Tryz.prog 13 [.string (⟨⟨[42]⟩⟩ : ByteArray)] (.one (.agg [.str, .bool, .bool])) (fun (x6 : ByteArray) (x7 : Bool) (x8 : Bool) => alW (.cells ⟨[.string x6, .bool x7, .bool x8]⟩ 29 (0, 0)) (fun b9 => letJ (T := Bool -> Option Addr -> Sl -> H -> Prop) (fun deep_11 f_12 p_13 =>
 callT Tryz.prog 14 [.pointer f_12, .string (⟨⟨[47]⟩⟩ : ByteArray), .slice p_13.base p_13.len p_13.cap] (.tup [.sc .slc, .sc (.int .i64)]) (fun (x14 : Sl) (x15 : Int) => letJ (T := Bool -> Option Addr -> Sl -> Int -> Bool -> H -> Prop) (fun deep_17 f_18 l_19 looked_20 x21 => brW x21 (ptrW l_19.base (fun b22 o23 => ifW (0 <= (0 : Int) /\ (0 : Int) < ((l_19.len : Nat) : Int)) (rdT (rdC b22 (o23 + (0 : Int).toNat * 1)) kS (fun (x24 : ByteArray) =>
 callT Tryz.prog 15 [.pointer f_18, .string (⟨⟨[47]⟩⟩ : ByteArray), .string x24, .bool false] (.tup [.agg [(.int .i64), (.int .i64), .str, (.int .i64)], .sc (.int .i64)]) (fun (x25 : Int) (x26 : Int) (x27 : ByteArray) (x28 : Int) (x29 : Int) => alW (.cells ⟨[.int .i64 0, .int .i64 0, .string (⟨⟨[]⟩⟩ : ByteArray), .int .i64 0]⟩ 35 (0, 0)) (fun b30 =>
 stW Tryz.prog 35 (.pointer (some ⟨b30, 0, none⟩)) (.agg ⟨[.int .i64 x25, .int .i64 x26, .string x27, .int .i64 x28]⟩) (brW (decide ((looked_20 : Int) >= 0)) (brW ((x29 : Int) == 0) (K (.bool true)) (brW ((x29 : Int) == 5) (K (.bool true)) (K (.bool ((x29 : Int) == 8))))) (K (.bool false)))))))))
 (loopW [.sc .bool, .sc .ptr, .sc .slc, .sc (.int .i64), .sc (.int .i64)] (fun (R31 : Bool -> Option Addr -> Sl -> Int -> Int -> H -> Prop) => (fun (deep_32 : Bool) (f_33 : Option Addr) (l_34 : Sl) (looked_35 : Int) (i_36 : Int) => brW (decide ((i_36 : Int) < ((l_34.len : Nat) : Int))) (ptrW l_34.base (fun b37 o38 => ifW (0 <= i_36 /\ i_36 < ((l_34.len : Nat) : Int)) (rdT (rdC b37 (o38 + i_36.toNat * 1)) kS (fun (x39 : ByteArray) =>
 callT Tryz.prog 15 [.pointer f_33, .string (⟨⟨[47]⟩⟩ : ByteArray), .string x39, .bool false] (.tup [.agg [(.int .i64), (.int .i64), .str, (.int .i64)], .sc (.int .i64)]) (fun (x40 : Int) (x41 : Int) (x42 : ByteArray) (x43 : Int) (x44 : Int) => alW (.cells ⟨[.int .i64 0, .int .i64 0, .string (⟨⟨[]⟩⟩ : ByteArray), .int .i64 0]⟩ 35 (0, 0)) (fun b45 =>
 stW Tryz.prog 35 (.pointer (some ⟨b45, 0, none⟩)) (.agg ⟨[.int .i64 x40, .int .i64 x41, .string x42, .int .i64 x43]⟩) (letJ (T := Bool -> Option Addr -> Sl -> Int -> Int -> Value -> Value -> Value -> Value -> Value -> Value -> Value -> Value -> Value -> Value -> Value -> Value -> Value -> Value -> Value -> Value -> Value -> Value -> Value -> Value -> Value -> Value -> Value -> Value -> Value -> Value -> Value -> Value -> Value -> Value -> Bool -> H -> Prop) (fun deep_47 f_48 l_49 looked_50 i_51 _x52 _x53 _x54 _x55 _x56 _x57 _x58 _x59 _x60 _x61 _x62 _x63 _x64 _x65 _x66 _x67 _x68 _x69 _x70 _x71 _x72 _x73 _x74 _x75 _x76 _x77 _x78 _x79 _x80 _x81 x82 =>
 brW x82 (K (.bool false)) (R31 deep_47 f_48 l_49 looked_50 (IntKind.i64.wrap (i_51 + 1)))) (fun j46 => brW ((x44 : Int) != 0)
 (j46 deep_32 f_33 l_34 looked_35 i_36 (.tuple ⟨[]⟩) (.tuple ⟨[]⟩) (.tuple ⟨[]⟩) (.tuple ⟨[]⟩) (.tuple ⟨[]⟩) (.tuple ⟨[]⟩) (.tuple ⟨[]⟩) (.tuple ⟨[]⟩) (.tuple ⟨[]⟩) (.tuple ⟨[]⟩) (.tuple ⟨[]⟩) (.tuple ⟨[]⟩) (.tuple ⟨[]⟩) (.tuple ⟨[]⟩) (.tuple ⟨[]⟩) (.tuple ⟨[]⟩) (.tuple ⟨[]⟩) (.tuple ⟨[]⟩) (.tuple ⟨[]⟩) (.tuple ⟨[]⟩) (.tuple ⟨[]⟩) (.tuple ⟨[]⟩) (.tuple ⟨[]⟩) (.tuple ⟨[]⟩) (.tuple ⟨[]⟩) (.tuple ⟨[]⟩) (.tuple ⟨[]⟩) (.tuple ⟨[]⟩) (.tuple ⟨[]⟩) (.tuple ⟨[]⟩) true) (brW (decide ((i_36 : Int) > 0))
 (ptrW l_34.base (fun b83 o84 => ifW (0 <= IntKind.i64.wrap (i_36 - 1) /\ IntKind.i64.wrap (i_36 - 1) < ((l_34.len : Nat) : Int)) (rdT (rdC b83 (o84 + (IntKind.i64.wrap (i_36 - 1) : Int).toNat * 1)) kS (fun (x85 : ByteArray) => ptrW l_34.base (fun b86 o87 => ifW (0 <= i_36 /\ i_36 < ((l_34.len : Nat) : Int)) (rdT (rdC b86 (o87 + i_36.toNat * 1)) kS (fun (x88 : ByteArray) => brW (!strLt x85 x88)
 (j46 deep_32 f_33 l_34 looked_35 i_36 (.int .i64 i_36) (.bool (decide ((i_36 : Int) > 0))) (.bool true) (.slice l_34.base l_34.len l_34.cap) (.int .i64 i_36) (.int .i64 (IntKind.i64.wrap (i_36 - 1))) (.pointer (some ⟨b83, o84 + (IntKind.i64.wrap (i_36 - 1) : Int).toNat * 1, none⟩)) (.string x85) (.slice l_34.base l_34.len l_34.cap) (.int .i64 i_36) (.pointer (some ⟨b86, o87 + i_36.toNat * 1, none⟩)) (.string x88) (.bool (!strLt x85 x88)) (.bool (!strLt x85 x88)) (.tuple ⟨[]⟩) (.tuple ⟨[]⟩) (.tuple ⟨[]⟩) (.tuple ⟨[]⟩) (.tuple ⟨[]⟩) (.tuple ⟨[]⟩) (.tuple ⟨[]⟩) (.tuple ⟨[]⟩) (.tuple ⟨[]⟩) (.tuple ⟨[]⟩) (.tuple ⟨[]⟩) (.tuple ⟨[]⟩) (.tuple ⟨[]⟩) (.tuple ⟨[]⟩) (.tuple ⟨[]⟩) (.tuple ⟨[]⟩) true)
 (ptrW l_34.base (fun b89 o90 => ifW (0 <= i_36 /\ i_36 < ((l_34.len : Nat) : Int)) (rdT (rdC b89 (o90 + i_36.toNat * 1)) kS (fun (x91 : ByteArray) => brW (strEq x91 (⟨⟨[]⟩⟩ : ByteArray))
 (j46 deep_32 f_33 l_34 looked_35 i_36 (.int .i64 i_36) (.bool (decide ((i_36 : Int) > 0))) (.bool true) (.slice l_34.base l_34.len l_34.cap) (.int .i64 i_36) (.int .i64 (IntKind.i64.wrap (i_36 - 1))) (.pointer (some ⟨b83, o84 + (IntKind.i64.wrap (i_36 - 1) : Int).toNat * 1, none⟩)) (.string x85) (.slice l_34.base l_34.len l_34.cap) (.int .i64 i_36) (.pointer (some ⟨b86, o87 + i_36.toNat * 1, none⟩)) (.string x88) (.bool (!strLt x85 x88)) (.bool (!strLt x85 x88)) (.slice l_34.base l_34.len l_34.cap) (.int .i64 i_36) (.pointer (some ⟨b89, o90 + i_36.toNat * 1, none⟩)) (.string x91) (.bool (strEq x91 (⟨⟨[]⟩⟩ : ByteArray))) (.tuple ⟨[]⟩) (.tuple ⟨[]⟩) (.tuple ⟨[]⟩) (.tuple ⟨[]⟩) (.tuple ⟨[]⟩) (.tuple ⟨[]⟩) (.tuple ⟨[]⟩) (.tuple ⟨[]⟩) (.tuple ⟨[]⟩) (.tuple ⟨[]⟩) (.tuple ⟨[]⟩) true)
 (ptrW l_34.base (fun b92 o93 => ifW (0 <= i_36 /\ i_36 < ((l_34.len : Nat) : Int)) (rdT (rdC b92 (o93 + i_36.toNat * 1)) kS (fun (x94 : ByteArray) => idxW x94 0 (fun c95 => brW (((c95.toNat : Int) : Int) == 46)
 (j46 deep_32 f_33 l_34 looked_35 i_36 (.int .i64 i_36) (.bool (decide ((i_36 : Int) > 0))) (.bool true) (.slice l_34.base l_34.len l_34.cap) (.int .i64 i_36) (.int .i64 (IntKind.i64.wrap (i_36 - 1))) (.pointer (some ⟨b83, o84 + (IntKind.i64.wrap (i_36 - 1) : Int).toNat * 1, none⟩)) (.string x85) (.slice l_34.base l_34.len l_34.cap) (.int .i64 i_36) (.pointer (some ⟨b86, o87 + i_36.toNat * 1, none⟩)) (.string x88) (.bool (!strLt x85 x88)) (.bool (!strLt x85 x88)) (.slice l_34.base l_34.len l_34.cap) (.int .i64 i_36) (.pointer (some ⟨b89, o90 + i_36.toNat * 1, none⟩)) (.string x91) (.bool (strEq x91 (⟨⟨[]⟩⟩ : ByteArray))) (.slice l_34.base l_34.len l_34.cap) (.int .i64 i_36) (.pointer (some ⟨b92, o93 + i_36.toNat * 1, none⟩)) (.string x94) (.int .u8 (c95.toNat : Int)) (.bool (((c95.toNat : Int) : Int) == 46)) (.tuple ⟨[]⟩) (.tuple ⟨[]⟩) (.tuple ⟨[]⟩) (.tuple ⟨[]⟩) (.tuple ⟨[]⟩) true)
 (ptrW l_34.base (fun b96 o97 => ifW (0 <= i_36 /\ i_36 < ((l_34.len : Nat) : Int)) (rdT (rdC b96 (o97 + i_36.toNat * 1)) kS (fun (x98 : ByteArray) => callT Tryz.prog 16 [.string x98, .string (⟨⟨[47, 46]⟩⟩ : ByteArray)] kB (fun x99 =>
 j46 deep_32 f_33 l_34 looked_35 i_36 (.int .i64 i_36) (.bool (decide ((i_36 : Int) > 0))) (.bool true) (.slice l_34.base l_34.len l_34.cap) (.int .i64 i_36) (.int .i64 (IntKind.i64.wrap (i_36 - 1))) (.pointer (some ⟨b83, o84 + (IntKind.i64.wrap (i_36 - 1) : Int).toNat * 1, none⟩)) (.string x85) (.slice l_34.base l_34.len l_34.cap) (.int .i64 i_36) (.pointer (some ⟨b86, o87 + i_36.toNat * 1, none⟩)) (.string x88) (.bool (!strLt x85 x88)) (.bool (!strLt x85 x88)) (.slice l_34.base l_34.len l_34.cap) (.int .i64 i_36) (.pointer (some ⟨b89, o90 + i_36.toNat * 1, none⟩)) (.string x91) (.bool (strEq x91 (⟨⟨[]⟩⟩ : ByteArray))) (.slice l_34.base l_34.len l_34.cap) (.int .i64 i_36) (.pointer (some ⟨b92, o93 + i_36.toNat * 1, none⟩)) (.string x94) (.int .u8 (c95.toNat : Int)) (.bool (((c95.toNat : Int) : Int) == 46)) (.slice l_34.base l_34.len l_34.cap) (.int .i64 i_36) (.pointer (some ⟨b96, o97 + i_36.toNat * 1, none⟩)) (.string x98) (.bool x99) x99)))))))))))))))))))))
 (ptrW l_34.base (fun b100 o101 => ifW (0 <= i_36 /\ i_36 < ((l_34.len : Nat) : Int)) (rdT (rdC b100 (o101 + i_36.toNat * 1)) kS (fun (x102 : ByteArray) => brW (strEq x102 (⟨⟨[]⟩⟩ : ByteArray))
 (j46 deep_32 f_33 l_34 looked_35 i_36 (.int .i64 i_36) (.bool (decide ((i_36 : Int) > 0))) (.bool false) (.tuple ⟨[]⟩) (.tuple ⟨[]⟩) (.tuple ⟨[]⟩) (.tuple ⟨[]⟩) (.tuple ⟨[]⟩) (.tuple ⟨[]⟩) (.tuple ⟨[]⟩) (.tuple ⟨[]⟩) (.tuple ⟨[]⟩) (.tuple ⟨[]⟩) (.bool false) (.slice l_34.base l_34.len l_34.cap) (.int .i64 i_36) (.pointer (some ⟨b100, o101 + i_36.toNat * 1, none⟩)) (.string x102) (.bool (strEq x102 (⟨⟨[]⟩⟩ : ByteArray))) (.tuple ⟨[]⟩) (.tuple ⟨[]⟩) (.tuple ⟨[]⟩) (.tuple ⟨[]⟩) (.tuple ⟨[]⟩) (.tuple ⟨[]⟩) (.tuple ⟨[]⟩) (.tuple ⟨[]⟩) (.tuple ⟨[]⟩) (.tuple ⟨[]⟩) (.tuple ⟨[]⟩) true)
 (ptrW l_34.base (fun b103 o104 => ifW (0 <= i_36 /\ i_36 < ((l_34.len : Nat) : Int)) (rdT (rdC b103 (o104 + i_36.toNat * 1)) kS (fun (x105 : ByteArray) => idxW x105 0 (fun c106 => brW (((c106.toNat : Int) : Int) == 46)
 (j46 deep_32 f_33 l_34 looked_35 i_36 (.int .i64 i_36) (.bool (decide ((i_36 : Int) > 0))) (.bool false) (.tuple ⟨[]⟩) (.tuple ⟨[]⟩) (.tuple ⟨[]⟩) (.tuple ⟨[]⟩) (.tuple ⟨[]⟩) (.tuple ⟨[]⟩) (.tuple ⟨[]⟩) (.tuple ⟨[]⟩) (.tuple ⟨[]⟩) (.tuple ⟨[]⟩) (.bool false) (.slice l_34.base l_34.len l_34.cap) (.int .i64 i_36) (.pointer (some ⟨b100, o101 + i_36.toNat * 1, none⟩)) (.string x102) (.bool (strEq x102 (⟨⟨[]⟩⟩ : ByteArray))) (.slice l_34.base l_34.len l_34.cap) (.int .i64 i_36) (.pointer (some ⟨b103, o104 + i_36.toNat * 1, none⟩)) (.string x105) (.int .u8 (c106.toNat : Int)) (.bool (((c106.toNat : Int) : Int) == 46)) (.tuple ⟨[]⟩) (.tuple ⟨[]⟩) (.tuple ⟨[]⟩) (.tuple ⟨[]⟩) (.tuple ⟨[]⟩) true)
 (ptrW l_34.base (fun b107 o108 => ifW (0 <= i_36 /\ i_36 < ((l_34.len : Nat) : Int)) (rdT (rdC b107 (o108 + i_36.toNat * 1)) kS (fun (x109 : ByteArray) => callT Tryz.prog 16 [.string x109, .string (⟨⟨[47, 46]⟩⟩ : ByteArray)] kB (fun x110 =>
 j46 deep_32 f_33 l_34 looked_35 i_36 (.int .i64 i_36) (.bool (decide ((i_36 : Int) > 0))) (.bool false) (.tuple ⟨[]⟩) (.tuple ⟨[]⟩) (.tuple ⟨[]⟩) (.tuple ⟨[]⟩) (.tuple ⟨[]⟩) (.tuple ⟨[]⟩) (.tuple ⟨[]⟩) (.tuple ⟨[]⟩) (.tuple ⟨[]⟩) (.tuple ⟨[]⟩) (.bool false) (.slice l_34.base l_34.len l_34.cap) (.int .i64 i_36) (.pointer (some ⟨b100, o101 + i_36.toNat * 1, none⟩)) (.string x102) (.bool (strEq x102 (⟨⟨[]⟩⟩ : ByteArray))) (.slice l_34.base l_34.len l_34.cap) (.int .i64 i_36) (.pointer (some ⟨b103, o104 + i_36.toNat * 1, none⟩)) (.string x105) (.int .u8 (c106.toNat : Int)) (.bool (((c106.toNat : Int) : Int) == 46)) (.slice l_34.base l_34.len l_34.cap) (.int .i64 i_36) (.pointer (some ⟨b107, o108 + i_36.toNat * 1, none⟩)) (.string x109) (.bool x110) x110)))))))))))))))))))))))
 (brW deep_32 (K (.bool (decide ((((l_34.len : Nat) : Int) : Int) > 0)))) (callT Tryz.prog 17 [.pointer f_33, .string (⟨⟨[47]⟩⟩ : ByteArray), .string (⟨⟨[47]⟩⟩ : ByteArray)] (.tup [.sc .slc, .sc (.int .i64)]) (fun (x111 : Sl) (x112 : Int) => loopW [.sc .slc, .sc (.int .i64), .sc .slc, .sc (.int .i64), .sc .slc, .sc (.int .i64)] (fun (R113 : Sl -> Int -> Sl -> Int -> Sl -> Int -> H -> Prop) => (fun (l_114 : Sl) (looked_115 : Int) (all_116 : Sl) (e_117 : Int) (want_118 : Sl) (i_119 : Int) =>
 brW (decide ((i_119 : Int) < ((all_116.len : Nat) : Int))) (letJ (T := Sl -> Int -> Sl -> Int -> Sl -> Int -> H -> Prop) (fun l_121 looked_122 all_123 e_124 want_125 i_126 => R113 l_121 looked_122 all_123 e_124 want_125 (IntKind.i64.wrap (i_126 + 1))) (fun j120 => ptrW all_116.base (fun b127 o128 => ifW (0 <= i_119 /\ i_119 < ((all_116.len : Nat) : Int)) (rdT (rdC b127 (o128 + i_119.toNat * 1)) kS (fun (x129 : ByteArray) => idxW x129 0 (fun c130 => brW (((c130.toNat : Int) : Int) != 46)
 (ptrW all_116.base (fun b131 o132 => ifW (0 <= i_119 /\ i_119 < ((all_116.len : Nat) : Int)) (rdT (rdC b131 (o132 + i_119.toNat * 1)) kS (fun (x133 : ByteArray) => alW (.cells ⟨[.string x133]⟩ 9 (0, 0)) (fun b134 => biW Tryz.prog .append #[22, 22] 22 [false, false] [.slice want_118.base want_118.len want_118.cap, .slice (some ⟨b134, 0, none⟩) 1 1] kL (fun x135 => j120 l_114 looked_115 all_116 e_117 x135 i_119)))))) (j120 l_114 looked_115 all_116 e_117 want_118 i_119)))))))
 (brW ((e_117 : Int) == 0) (callT Tryz.prog 18 [.slice l_114.base l_114.len l_114.cap, .slice want_118.base want_118.len want_118.cap] kB (fun x136 => brW x136 (K (.bool ((looked_115 : Int) == ((all_116.len : Nat) : Int)))) (K (.bool false)))) (K (.bool false))))) (fun (R137 : Sl -> Int -> Sl -> Int -> Sl -> Int -> H -> Prop) => R137 l_34 looked_35 x111 x112 ⟨none, 0, 0⟩ 0)))))) (fun (R138 : Bool -> Option Addr -> Sl -> Int -> Int -> H -> Prop) => R138 deep_17 f_18 l_19 looked_20 0))) (fun j16 =>
 brW ((((x14.len : Nat) : Int) : Int) == 1) (ptrW x14.base (fun b139 o140 => ifW (0 <= (0 : Int) /\ (0 : Int) < ((x14.len : Nat) : Int)) (rdT (rdC b139 (o140 + (0 : Int).toNat * 1)) kS (fun (x141 : ByteArray) => ptrW p_13.base (fun b142 o143 => ifW (0 <= (0 : Int) /\ (0 : Int) < ((p_13.len : Nat) : Int)) (rdT (rdC b142 (o143 + (0 : Int).toNat * 3)) kS (fun (x144 : ByteArray) => j16 deep_11 f_12 x14 x15 (strEq x141 x144)))))))) (j16 deep_11 f_12 x14 x15 false)))) (fun j10 => brW deep_2
 (callT Tryz.prog 13 [.string (⟨⟨[42, 47, 42]⟩⟩ : ByteArray)] (.one (.agg [.str, .bool, .bool])) (fun (x145 : ByteArray) (x146 : Bool) (x147 : Bool) => alW (.cells ⟨[.string x145, .bool x146, .bool x147]⟩ 29 (0, 0)) (fun b148 => j10 deep_2 x4 ⟨(some ⟨b148, 0, none⟩), 1, 1⟩))) (j10 deep_2 x4 ⟨(some ⟨b9, 0, none⟩), 1, 1⟩))))))))
theorem e3 (paths_1 : Sl) (deep_2 : Bool) (K : KH) : bodyF Tryz.prog tau Tryz.f3 an3 [.slice paths_1.base paths_1.len paths_1.cap, .bool deep_2] K = g3 paths_1 deep_2 K := by kernel_rfl
theorem c3 (paths_1 : Sl) (deep_2 : Bool) {K : KH} {σ : H} (h : g3 paths_1 deep_2 K σ) : callW Tryz.prog 3 [.slice paths_1.base paths_1.len paths_1.cap, .bool deep_2] K σ := call_of_body mixed Tryz.func3 (by rw [e3]; exact h)


def an11 : Ann := (.q (.q (.q (.q .z))))
def g11  (K : KH) : H -> Prop :=
 callT Tryz.prog 28 [] kP (fun x1 => brW (!x1.isNone) (alW (.cells ⟨[.string (⟨⟨[97]⟩⟩ : ByteArray), .string (⟨⟨[98]⟩⟩ : ByteArray)]⟩ 9 (0, 0)) (fun b2 => callT Tryz.prog 43 [.string (⟨⟨[97, 32, 98]⟩⟩ : ByteArray)] (.one (.agg [.str, .bool, .bool])) (fun (x3 : ByteArray) (x4 : Bool) (x5 : Bool) => alW (.cells ⟨[.string x3, .bool x4, .bool x5]⟩ 29 (0, 0)) (fun b6 =>
 callT Tryz.prog 42 [.string (⟨⟨[32, 58]⟩⟩ : ByteArray), .slice (some ⟨b2, 0, none⟩) 2 2, .slice (some ⟨b6, 0, none⟩) 1 1] kB (fun x7 => brW x7 (alW (.cells ⟨[.string (⟨⟨[97]⟩⟩ : ByteArray)]⟩ 9 (0, 0)) (fun b8 => callT Tryz.prog 43 [.string (⟨⟨[32, 97, 32]⟩⟩ : ByteArray)] (.one (.agg [.str, .bool, .bool])) (fun (x9 : ByteArray) (x10 : Bool) (x11 : Bool) => alW (.cells ⟨[.string x9, .bool x10, .bool x11]⟩ 29 (0, 0)) (fun b12 =>
 callT Tryz.prog 42 [.string (⟨⟨[32, 58]⟩⟩ : ByteArray), .slice (some ⟨b8, 0, none⟩) 1 1, .slice (some ⟨b12, 0, none⟩) 1 1] kB (fun x13 => brW x13 (alW (.cells ⟨[.string (⟨⟨[97]⟩⟩ : ByteArray), .string (⟨⟨[98]⟩⟩ : ByteArray)]⟩ 9 (0, 0)) (fun b14 => callT Tryz.prog 43 [.string (⟨⟨[97, 32, 58, 32, 98]⟩⟩ : ByteArray)] (.one (.agg [.str, .bool, .bool])) (fun (x15 : ByteArray) (x16 : Bool) (x17 : Bool) => alW (.cells ⟨[.string x15, .bool x16, .bool x17]⟩ 29 (0, 0)) (fun b18 =>
 callT Tryz.prog 42 [.string (⟨⟨[32, 58]⟩⟩ : ByteArray), .slice (some ⟨b14, 0, none⟩) 2 2, .slice (some ⟨b18, 0, none⟩) 1 1] kB (fun x19 => brW x19 (alW (.cells ⟨[.string (⟨⟨[97]⟩⟩ : ByteArray), .string (⟨⟨[]⟩⟩ : ByteArray), .string (⟨⟨[98]⟩⟩ : ByteArray)]⟩ 9 (0, 0)) (fun b20 => callT Tryz.prog 43 [.string (⟨⟨[97, 58, 58, 98]⟩⟩ : ByteArray)] (.one (.agg [.str, .bool, .bool])) (fun (x21 : ByteArray) (x22 : Bool) (x23 : Bool) =>
 alW (.cells ⟨[.string x21, .bool x22, .bool x23]⟩ 29 (0, 0)) (fun b24 => callT Tryz.prog 42 [.string (⟨⟨[32, 58]⟩⟩ : ByteArray), .slice (some ⟨b20, 0, none⟩) 3 3, .slice (some ⟨b24, 0, none⟩) 1 1] kB (fun x25 => brW x25 (alW (.cells ⟨[.string (⟨⟨[]⟩⟩ : ByteArray), .string (⟨⟨[97]⟩⟩ : ByteArray)]⟩ 9 (0, 0)) (fun b26 => callT Tryz.prog 43 [.string (⟨⟨[58, 97, 58]⟩⟩ : ByteArray)] (.one (.agg [.str, .bool, .bool])) (fun (x27 : ByteArray) (x28 : Bool) (x29 : Bool) =>
 alW (.cells ⟨[.string x27, .bool x28, .bool x29]⟩ 29 (0, 0)) (fun b30 => callT Tryz.prog 42 [.string (⟨⟨[32, 58]⟩⟩ : ByteArray), .slice (some ⟨b26, 0, none⟩) 2 2, .slice (some ⟨b30, 0, none⟩) 1 1] kB (fun x31 => brW x31 (callT Tryz.prog 43 [.string (⟨⟨[]⟩⟩ : ByteArray)] (.one (.agg [.str, .bool, .bool])) (fun (x32 : ByteArray) (x33 : Bool) (x34 : Bool) => alW (.cells ⟨[.string x32, .bool x33, .bool x34]⟩ 29 (0, 0)) (fun b35 =>
 callT Tryz.prog 42 [.string (⟨⟨[32, 58]⟩⟩ : ByteArray), .slice none 0 0, .slice (some ⟨b35, 0, none⟩) 1 1] kB (fun x36 => brW x36 (alW (.cells ⟨[.string (⟨⟨[]⟩⟩ : ByteArray)]⟩ 9 (0, 0)) (fun b37 => callT Tryz.prog 44 [.string (⟨⟨[]⟩⟩ : ByteArray)] (.one (.agg [.str, .bool, .bool])) (fun (x38 : ByteArray) (x39 : Bool) (x40 : Bool) => alW (.cells ⟨[.string x38, .bool x39, .bool x40]⟩ 29 (0, 0)) (fun b41 =>
 callT Tryz.prog 42 [.string (⟨⟨[32, 58]⟩⟩ : ByteArray), .slice (some ⟨b37, 0, none⟩) 1 1, .slice (some ⟨b41, 0, none⟩) 1 1] kB (fun x42 => brW x42 (alW (.cells ⟨[.string (⟨⟨[97]⟩⟩ : ByteArray), .string (⟨⟨[]⟩⟩ : ByteArray), .string (⟨⟨[98]⟩⟩ : ByteArray)]⟩ 9 (0, 0)) (fun b43 => callT Tryz.prog 43 [.string (⟨⟨[97, 32]⟩⟩ : ByteArray)] (.one (.agg [.str, .bool, .bool])) (fun (x44 : ByteArray) (x45 : Bool) (x46 : Bool) =>
 callT Tryz.prog 44 [.string (⟨⟨[]⟩⟩ : ByteArray)] (.one (.agg [.str, .bool, .bool])) (fun (x47 : ByteArray) (x48 : Bool) (x49 : Bool) => callT Tryz.prog 43 [.string (⟨⟨[32, 98]⟩⟩ : ByteArray)] (.one (.agg [.str, .bool, .bool])) (fun (x50 : ByteArray) (x51 : Bool) (x52 : Bool) => alW (.cells ⟨[.string x44, .bool x45, .bool x46, .string x47, .bool x48, .bool x49, .string x50, .bool x51, .bool x52]⟩ 29 (0, 0)) (fun b53 =>
 callT Tryz.prog 42 [.string (⟨⟨[32, 58]⟩⟩ : ByteArray), .slice (some ⟨b43, 0, none⟩) 3 3, .slice (some ⟨b53, 0, none⟩) 3 3] kB (fun x54 => brW x54 (alW (.cells ⟨[.string (⟨⟨[32, 120, 32]⟩⟩ : ByteArray)]⟩ 9 (0, 0)) (fun b55 => callT Tryz.prog 44 [.string (⟨⟨[32, 120, 32]⟩⟩ : ByteArray)] (.one (.agg [.str, .bool, .bool])) (fun (x56 : ByteArray) (x57 : Bool) (x58 : Bool) => alW (.cells ⟨[.string x56, .bool x57, .bool x58]⟩ 29 (0, 0)) (fun b59 =>
 callT Tryz.prog 42 [.string (⟨⟨[32, 58]⟩⟩ : ByteArray), .slice (some ⟨b55, 0, none⟩) 1 1, .slice (some ⟨b59, 0, none⟩) 1 1] kB (fun x60 => brW x60 (callT Tryz.prog 13 [.string (⟨⟨[97, 42]⟩⟩ : ByteArray)] (.one (.agg [.str, .bool, .bool])) (fun (x61 : ByteArray) (x62 : Bool) (x63 : Bool) => alW (.cells ⟨[.string x61, .bool x62, .bool x63]⟩ 29 (0, 0)) (fun b64 =>
 callT Tryz.prog 45 [.pointer x1, .string (⟨⟨[47]⟩⟩ : ByteArray), .string (⟨⟨[97, 98, 32, 97, 99]⟩⟩ : ByteArray), .slice (some ⟨b64, 0, none⟩) 1 1] kB (fun x65 => brW x65 (callT Tryz.prog 13 [.string (⟨⟨[42]⟩⟩ : ByteArray)] (.one (.agg [.str, .bool, .bool])) (fun (x66 : ByteArray) (x67 : Bool) (x68 : Bool) => alW (.cells ⟨[.string x66, .bool x67, .bool x68]⟩ 29 (0, 0)) (fun b69 =>
 callT Tryz.prog 45 [.pointer x1, .string (⟨⟨[47]⟩⟩ : ByteArray), .string (⟨⟨[97, 98, 32, 97, 99, 32, 100]⟩⟩ : ByteArray), .slice (some ⟨b69, 0, none⟩) 1 1] kB (fun x70 => brW x70 (callT Tryz.prog 13 [.string (⟨⟨[46, 42]⟩⟩ : ByteArray)] (.one (.agg [.str, .bool, .bool])) (fun (x71 : ByteArray) (x72 : Bool) (x73 : Bool) => alW (.cells ⟨[.string x71, .bool x72, .bool x73]⟩ 29 (0, 0)) (fun b74 =>
 callT Tryz.prog 45 [.pointer x1, .string (⟨⟨[47]⟩⟩ : ByteArray), .string (⟨⟨[46, 97, 100]⟩⟩ : ByteArray), .slice (some ⟨b74, 0, none⟩) 1 1] kB (fun x75 => brW x75 (callT Tryz.prog 13 [.string (⟨⟨[42, 47, 97, 98]⟩⟩ : ByteArray)] (.one (.agg [.str, .bool, .bool])) (fun (x76 : ByteArray) (x77 : Bool) (x78 : Bool) => alW (.cells ⟨[.string x76, .bool x77, .bool x78]⟩ 29 (0, 0)) (fun b79 =>
 callT Tryz.prog 45 [.pointer x1, .string (⟨⟨[47]⟩⟩ : ByteArray), .string (⟨⟨[100, 47, 97, 98]⟩⟩ : ByteArray), .slice (some ⟨b79, 0, none⟩) 1 1] kB (fun x80 => brW x80 (callT Tryz.prog 13 [.string (⟨⟨[122, 42]⟩⟩ : ByteArray)] (.one (.agg [.str, .bool, .bool])) (fun (x81 : ByteArray) (x82 : Bool) (x83 : Bool) => alW (.cells ⟨[.string x81, .bool x82, .bool x83]⟩ 29 (0, 0)) (fun b84 =>
 callT Tryz.prog 45 [.pointer x1, .string (⟨⟨[47]⟩⟩ : ByteArray), .string (⟨⟨[122, 42]⟩⟩ : ByteArray), .slice (some ⟨b84, 0, none⟩) 1 1] kB (fun x85 => brW x85 (callT Tryz.prog 44 [.string (⟨⟨[97]⟩⟩ : ByteArray)] (.one (.agg [.str, .bool, .bool])) (fun (x86 : ByteArray) (x87 : Bool) (x88 : Bool) => callT Tryz.prog 13 [.string (⟨⟨[63]⟩⟩ : ByteArray)] (.one (.agg [.str, .bool, .bool])) (fun (x89 : ByteArray) (x90 : Bool) (x91 : Bool) =>
 alW (.cells ⟨[.string x86, .bool x87, .bool x88, .string x89, .bool x90, .bool x91]⟩ 29 (0, 0)) (fun b92 => callT Tryz.prog 45 [.pointer x1, .string (⟨⟨[47]⟩⟩ : ByteArray), .string (⟨⟨[97, 98, 32, 97, 99]⟩⟩ : ByteArray), .slice (some ⟨b92, 0, none⟩) 2 2] kB (fun x93 => K (.bool x93)))))) (K (.bool false)))))) (K (.bool false)))))) (K (.bool false)))))) (K (.bool false)))))) (K (.bool false)))))) (K (.bool false))))))) (K (.bool false))))))))) (K (.bool false))))))) (K (.bool false))))))
 (K (.bool false))))))) (K (.bool false))))))) (K (.bool false))))))) (K (.bool false))))))) (K (.bool false))))))) (K (.bool false)))
theorem e11  (K : KH) : bodyF Tryz.prog tau Tryz.f11 an11 [] K = g11  K := by kernel_rfl
theorem c11  {K : KH} {σ : H} (h : g11  K σ) : callW Tryz.prog 11 [] K σ := call_of_body mixed Tryz.func11 (by rw [e11]; exact h)


def an12 : Ann := (.q (.q (.n (.reg [0,2,1,3,4,5] [[],[0],[],[0,1,2],(rn 4),(rn 5)]) (.n (.seq (some [(0,.l),(5,.p),(6,.p),(19,.b)]) .r (.h)) (.n (.q (.blk (.loop [(0,.l),(5,.p),(6,.p),(7,.i)] (.n (.seq (some [(0,.l),(5,.p),(6,.p),(7,.i),(25,.w),(26,.w),(27,.b)]) .r (.cond .z .z)) (.seq (some [(0,.l),(5,.p),(6,.p),(7,.i),(25,.w),(26,.w),(45,.w),(46,.w),(47,.w),(48,.w),(49,.w),(50,.w)]) (.blk (.n (.reg (rn 12) [[],[],[0,1],[0,1,2],[],[],[4,5],[4,5,6],[4,5,6,7],[4,5,6,7,8],(rn 10),(rn 11)]) (.seq (some [(0,.l),(5,.p),(6,.p),(7,.i),(8,.s),(25,.w),(26,.w),(45,.w),(46,.w),(47,.w),(48,.w),(49,.w),(50,.w),(51,.b)]) .r (.cond (.q (.h)) (.q (.h)))))) .r))))) (.q .z))))))
def g12 (paths_1 : Sl) (K : KH) : H -> Prop :=
 alW (.cells ⟨[.int .i64 0, .int .i64 0]⟩ 64 (0, 0)) (fun b2 => stW Tryz.prog 64 (.pointer (some ⟨b2, 0, none⟩)) (.agg ⟨[.int .i64 40, .int .i64 100]⟩) (rdT (rdA 2 b2 0) (.one (.agg [(.int .i64), (.int .i64)])) (fun (x3 : Int) (x4 : Int) => rdT (rdA 2 b2 0) (.one (.agg [(.int .i64), (.int .i64)])) (fun (x5 : Int) (x6 : Int) => callT Tryz.prog 31 [.agg ⟨[.int .i64 x3, .int .i64 x4]⟩] kP (fun x7 => andW (fun σ => (rdA 2 b2 0) σ = some (.agg ⟨[.int .i64 x5, .int .i64 x6]⟩))
 (callT Tryz.prog 32 [.agg ⟨[.int .i64 x5, .int .i64 x6]⟩] kP (fun x8 => letJ (T := Sl -> Option Addr -> Option Addr -> Bool -> H -> Prop) (fun paths_10 f_11 r_12 x13 => brW x13 (K (.tuple ⟨[.pointer none, .pointer none]⟩)) (loopW [.sc .slc, .sc .ptr, .sc .ptr, .sc (.int .i64)] (fun (R14 : Sl -> Option Addr -> Option Addr -> Int -> H -> Prop) => (fun (paths_15 : Sl) (f_16 : Option Addr) (r_17 : Option Addr) (i_18 : Int) =>
 letJ (T := Sl -> Option Addr -> Option Addr -> Int -> Value -> Value -> Bool -> H -> Prop) (fun paths_20 f_21 r_22 i_23 x24 x25 x26 => brW x26 (letJ (T := Sl -> Option Addr -> Option Addr -> Int -> Value -> Value -> Value -> Value -> Value -> Value -> Value -> Value -> H -> Prop) (fun paths_28 f_29 r_30 i_31 _x32 _x33 _x34 _x35 _x36 _x37 _x38 _x39 => R14 paths_28 f_29 r_30 (IntKind.i64.wrap (i_31 + 1))) (fun j27 => ptrW paths_20.base (fun b40 o41 => ifW (0 <= i_23 /\ i_23 < ((paths_20.len : Nat) : Int))
 (rdT (rdC b40 (o41 + i_23.toNat * 1)) kS (fun (x42 : ByteArray) => ptrW paths_20.base (fun b43 o44 => ifW (0 <= i_23 /\ i_23 < ((paths_20.len : Nat) : Int)) (rdT (rdC b43 (o44 + i_23.toNat * 1)) kS (fun (x45 : ByteArray) => ifW (bndOk (some (if 40 < ((x45.size : Nat) : Int) then 40 else ((x45.size : Nat) : Int))) x42.size /\ bndOk none ((if 40 < ((x45.size : Nat) : Int) then 40 else ((x45.size : Nat) : Int)).toNat))
 (letJ (T := Sl -> Option Addr -> Option Addr -> Int -> ByteArray -> Value -> Value -> Value -> Value -> Value -> Value -> Value -> Value -> Bool -> H -> Prop) (fun paths_47 f_48 r_49 i_50 p_51 x52 x53 x54 x55 x56 x57 x58 x59 x60 => brW x60 (callT Tryz.prog 48 [.pointer f_48, .string (⟨⟨[47]⟩⟩ : ByteArray), .string p_51] kI (fun (x61 : Int) => callT Tryz.prog 63 [.pointer r_49, .string (⟨⟨[47]⟩⟩ : ByteArray), .string p_51] kI (fun (x62 : Int) => brW ((x61 : Int) != x62)
 (K (.tuple ⟨[.pointer none, .pointer none]⟩)) (j27 paths_47 f_48 r_49 i_50 x52 x53 x54 x55 x56 x57 x58 x59)))) (callT Tryz.prog 47 [.pointer f_48, .string (⟨⟨[47]⟩⟩ : ByteArray), .string p_51, .string (⟨⟨[]⟩⟩ : ByteArray), .bool false] kI (fun (x63 : Int) => callT Tryz.prog 64 [.pointer r_49, .string (⟨⟨[47]⟩⟩ : ByteArray), .string p_51, .string (⟨⟨[]⟩⟩ : ByteArray), .bool false] kI (fun (x64 : Int) => brW ((x63 : Int) != x64) (K (.tuple ⟨[.pointer none, .pointer none]⟩))
 (j27 paths_47 f_48 r_49 i_50 x52 x53 x54 x55 x56 x57 x58 x59))))) (fun j46 => brW (decide (((((x42.extract 0 ((if 40 < ((x45.size : Nat) : Int) then 40 else ((x45.size : Nat) : Int)).toNat)).size : Nat) : Int) : Int) > 0)) (idxW (x42.extract 0 ((if 40 < ((x45.size : Nat) : Int) then 40 else ((x45.size : Nat) : Int)).toNat)) (IntKind.i64.wrap ((((x42.extract 0 ((if 40 < ((x45.size : Nat) : Int) then 40 else ((x45.size : Nat) : Int)).toNat)).size : Nat) : Int) - 1)) (fun c65 =>
 j46 paths_20 f_21 r_22 i_23 (x42.extract 0 ((if 40 < ((x45.size : Nat) : Int) then 40 else ((x45.size : Nat) : Int)).toNat)) x24 x25 (.string (x42.extract 0 ((if 40 < ((x45.size : Nat) : Int) then 40 else ((x45.size : Nat) : Int)).toNat))) (.string (x42.extract 0 ((if 40 < ((x45.size : Nat) : Int) then 40 else ((x45.size : Nat) : Int)).toNat))) (.int .i64 (((x42.extract 0 ((if 40 < ((x45.size : Nat) : Int) then 40 else ((x45.size : Nat) : Int)).toNat)).size : Nat) : Int)) (.int .i64 (IntKind.i64.wrap ((((x42.extract 0 ((if 40 < ((x45.size : Nat) : Int) then 40 else ((x45.size : Nat) : Int)).toNat)).size : Nat) : Int) - 1))) (.int .u8 (c65.toNat : Int)) (.bool (((c65.toNat : Int) : Int) == 47)) (((c65.toNat : Int) : Int) == 47)))
 (j46 paths_20 f_21 r_22 i_23 (x42.extract 0 ((if 40 < ((x45.size : Nat) : Int) then 40 else ((x45.size : Nat) : Int)).toNat)) x24 x25 (.tuple ⟨[]⟩) (.tuple ⟨[]⟩) (.tuple ⟨[]⟩) (.tuple ⟨[]⟩) (.tuple ⟨[]⟩) (.tuple ⟨[]⟩) false))))))))))) (K (.tuple ⟨[.pointer f_21, .pointer r_22]⟩))) (fun j19 => brW (decide ((i_18 : Int) < ((paths_15.len : Nat) : Int))) (j19 paths_15 f_16 r_17 i_18 (.int .i64 i_18) (.bool (decide ((i_18 : Int) < 20))) (decide ((i_18 : Int) < 20)))
 (j19 paths_15 f_16 r_17 i_18 (.tuple ⟨[]⟩) (.tuple ⟨[]⟩) false)))) (fun (R66 : Sl -> Option Addr -> Option Addr -> Int -> H -> Prop) => R66 paths_10 f_11 r_12 0))) (fun j9 => brW x7.isNone (j9 paths_1 x7 x8 true) (j9 paths_1 x7 x8 x8.isNone)))))))))
theorem e12 (paths_1 : Sl) (K : KH) : bodyF Tryz.prog tau Tryz.f12 an12 [.slice paths_1.base paths_1.len paths_1.cap] K = g12 paths_1 K := by kernel_rfl
theorem c12 (paths_1 : Sl) {K : KH} {σ : H} (h : g12 paths_1 K σ) : callW Tryz.prog 12 [.slice paths_1.base paths_1.len paths_1.cap] K σ := call_of_body mixed Tryz.func12 (by rw [e12]; exact h)


def an13 : Ann := (.q (.q .z))
def g13 (s_1 : ByteArray) (K : KH) : H -> Prop :=
 alW (.cells ⟨[.string (⟨⟨[]⟩⟩ : ByteArray), .bool false, .bool false]⟩ 29 (0, 0)) (fun b2 => stW Tryz.prog 29 (.pointer (some ⟨b2, 0, none⟩)) (.agg ⟨[.string s_1, .bool false, .bool false]⟩) (rdT (rdA 3 b2 0) (.one (.agg [.str, .bool, .bool])) (fun (r3 : ByteArray) (r4 : Bool) (r5 : Bool) => K (.agg ⟨[.string r3, .bool r4, .bool r5]⟩))))
theorem e13 (s_1 : ByteArray) (K : KH) : bodyF Tryz.prog tau Tryz.f13 an13 [.string s_1] K = g13 s_1 K := by kernel_rfl
theorem c13 (s_1 : ByteArray) {K : KH} {σ : H} (h : g13 s_1 K σ) : callW Tryz.prog 13 [.string s_1] K σ := call_of_body mixed Tryz.func13 (by rw [e13]; exact h)


def an14 : Ann := (.q (.n (.q (.h)) (.q (.q (.seq (some [(6,.l),(8,.p)]) (.q (.cond .r .z)) (.n (.reg (rn 7) [[],[],[1],[1,2],[1,2,3],[0],(rn 6)]) .z))))))
def g14 (f_1 : Option Addr) (cwd_2 : ByteArray) (r_3 : Sl) (K : KH) : H -> Prop :=
 callT Tryz.prog 65 [.slice r_3.base r_3.len r_3.cap] kB (fun x4 => brW (!x4) (callT Tryz.prog 27 [.slice r_3.base r_3.len r_3.cap] kS (fun (x5 : ByteArray) => alW (.cells ⟨[.string x5]⟩ 9 (0, 0)) (fun b6 => K (.tuple ⟨[.slice (some ⟨b6, 0, none⟩) 1 1, .int .i64 0]⟩)))) (alW (.cells ⟨[.pointer f_1, .string cwd_2, .int .i64 0]⟩ 97 (0, 0)) (fun b7 => callT Tryz.prog 68 [.slice r_3.base r_3.len r_3.cap] kL (fun x8 =>
 callT Tryz.prog 67 [.pointer (some ⟨b7, 0, none⟩), .string (⟨⟨[]⟩⟩ : ByteArray), .slice x8.base x8.len x8.cap] kR (fun x9 => callT Tryz.prog 66 [x9] kL (fun x10 => letJ (T := Sl -> Option Addr -> H -> Prop) (fun names_12 s_13 => ptrW s_13 (fun b14 o15 => rdT (rdC b14 (o15 + 2)) kI (fun (x16 : Int) => K (.tuple ⟨[.slice names_12.base names_12.len names_12.cap, .int .i64 x16]⟩)))) (fun j11 => brW ((((x10.len : Nat) : Int) : Int) == 0)
 (callT Tryz.prog 27 [.slice r_3.base r_3.len r_3.cap] kS (fun (x17 : ByteArray) => alW (.cells ⟨[.string x17]⟩ 9 (0, 0)) (fun b18 => j11 ⟨(some ⟨b18, 0, none⟩), 1, 1⟩ (some ⟨b7, 0, none⟩)))) (j11 x10 (some ⟨b7, 0, none⟩)))))))))
theorem e14 (f_1 : Option Addr) (cwd_2 : ByteArray) (r_3 : Sl) (K : KH) : bodyF Tryz.prog tau Tryz.f14 an14 [.pointer f_1, .string cwd_2, .slice r_3.base r_3.len r_3.cap] K = g14 f_1 cwd_2 r_3 K := by kernel_rfl
theorem c14 (f_1 : Option Addr) (cwd_2 : ByteArray) (r_3 : Sl) {K : KH} {σ : H} (h : g14 f_1 cwd_2 r_3 K σ) : callW Tryz.prog 14 [.pointer f_1, .string cwd_2, .slice r_3.base r_3.len r_3.cap] K σ := call_of_body mixed Tryz.func14 (by rw [e14]; exact h)


def an15 : Ann := (.q (.q (.q .z)))
def g15 (f_1 : Option Addr) (cwd_2 : ByteArray) (path_3 : ByteArray) (follow_4 : Bool) (K : KH) : H -> Prop :=
 alW (.cells ⟨[.int .i64 0, .int .i64 0, .string (⟨⟨[]⟩⟩ : ByteArray), .int .i64 0]⟩ 35 (0, 0)) (fun b5 => callT Tryz.prog 69 [.pointer f_1, .string cwd_2, .string path_3, .bool follow_4, .func (.func 70) ⟨[]⟩ ⟨[.pointer (some ⟨b5, 0, none⟩)]⟩] kI (fun (x6 : Int) => rdT (rdA 4 b5 0) (.one (.agg [(.int .i64), (.int .i64), .str, (.int .i64)])) (fun (x7 : Int) (x8 : Int) (x9 : ByteArray) (x10 : Int) =>
 stW Tryz.prog 35 (.pointer (some ⟨b5, 0, none⟩)) (.agg ⟨[.int .i64 x7, .int .i64 x8, .string x9, .int .i64 x10]⟩) (rdT (rdA 4 b5 0) (.one (.agg [(.int .i64), (.int .i64), .str, (.int .i64)])) (fun (r11 : Int) (r12 : Int) (r13 : ByteArray) (r14 : Int) => K (.tuple ⟨[.agg ⟨[.int .i64 r11, .int .i64 r12, .string r13, .int .i64 r14]⟩, .int .i64 x6]⟩))))))
theorem e15 (f_1 : Option Addr) (cwd_2 : ByteArray) (path_3 : ByteArray) (follow_4 : Bool) (K : KH) : bodyF Tryz.prog tau Tryz.f15 an15 [.pointer f_1, .string cwd_2, .string path_3, .bool follow_4] K = g15 f_1 cwd_2 path_3 follow_4 K := by kernel_rfl
theorem c15 (f_1 : Option Addr) (cwd_2 : ByteArray) (path_3 : ByteArray) (follow_4 : Bool) {K : KH} {σ : H} (h : g15 f_1 cwd_2 path_3 follow_4 K σ) : callW Tryz.prog 15 [.pointer f_1, .string cwd_2, .string path_3, .bool follow_4] K σ := call_of_body mixed Tryz.func15 (by rw [e15]; exact h)


def an16 : Ann := (.q (.q .z))
def g16 (s_1 : ByteArray) (substr_2 : ByteArray) (K : KH) : H -> Prop :=
 callT Tryz.prog 71 [.string s_1, .string substr_2] kI (fun (x3 : Int) => K (.bool (decide ((x3 : Int) >= 0))))
theorem e16 (s_1 : ByteArray) (substr_2 : ByteArray) (K : KH) : bodyF Tryz.prog tau Tryz.f16 an16 [.string s_1, .string substr_2] K = g16 s_1 substr_2 K := by kernel_rfl
theorem c16 (s_1 : ByteArray) (substr_2 : ByteArray) {K : KH} {σ : H} (h : g16 s_1 substr_2 K σ) : callW Tryz.prog 16 [.string s_1, .string substr_2] K σ := call_of_body mixed Tryz.func16 (by rw [e16]; exact h)


def an17 : Ann := (.q (.q (.q .z)))
def g17 (f_1 : Option Addr) (cwd_2 : ByteArray) (path_3 : ByteArray) (K : KH) : H -> Prop :=
 alW (.cells ⟨[.pointer f_1]⟩ 24 (0, 0)) (fun b4 => alW (.cells ⟨[.slice none 0 0]⟩ 22 (0, 0)) (fun b5 => rdT (rdC b4 0) kP (fun x6 => callT Tryz.prog 69 [.pointer x6, .string cwd_2, .string path_3, .bool true, .func (.func 72) ⟨[]⟩ ⟨[.pointer (some ⟨b4, 0, none⟩), .pointer (some ⟨b5, 0, none⟩)]⟩] kI (fun (x7 : Int) => rdT (rdC b5 0) kL (fun x8 => stW Tryz.prog 22 (.pointer (some ⟨b5, 0, none⟩)) (.slice x8.base x8.len x8.cap) (rdT (rdC b5 0) kL (fun r9 =>
 K (.tuple ⟨[.slice r9.base r9.len r9.cap, .int .i64 x7]⟩))))))))
theorem e17 (f_1 : Option Addr) (cwd_2 : ByteArray) (path_3 : ByteArray) (K : KH) : bodyF Tryz.prog tau Tryz.f17 an17 [.pointer f_1, .string cwd_2, .string path_3] K = g17 f_1 cwd_2 path_3 K := by kernel_rfl
theorem c17 (f_1 : Option Addr) (cwd_2 : ByteArray) (path_3 : ByteArray) {K : KH} {σ : H} (h : g17 f_1 cwd_2 path_3 K σ) : callW Tryz.prog 17 [.pointer f_1, .string cwd_2, .string path_3] K σ := call_of_body mixed Tryz.func17 (by rw [e17]; exact h)


def an18 : Ann := (.q (.n (.q (.h)) (.n (.q (.blk (.loop [(0,.l),(1,.l),(5,.i)] (.n (.q (.cond .z .z)) (.n (.blk (.n (.reg (rn 9) [[],[],[0,1],[0,1,2],[],[],[4,5],[4,5,6],(rn 8)]) (.h))) .r))))) (.q .z))))
def g18 (a_1 : Sl) (b_2 : Sl) (K : KH) : H -> Prop :=
 brW ((((a_1.len : Nat) : Int) : Int) != ((b_2.len : Nat) : Int)) (K (.bool false)) (loopW [.sc .slc, .sc .slc, .sc (.int .i64)] (fun (R3 : Sl -> Sl -> Int -> H -> Prop) => (fun (a_4 : Sl) (b_5 : Sl) (i_6 : Int) => brW (decide ((i_6 : Int) < ((a_4.len : Nat) : Int))) (ptrW a_4.base (fun b7 o8 => ifW (0 <= i_6 /\ i_6 < ((a_4.len : Nat) : Int)) (rdT (rdC b7 (o8 + i_6.toNat * 1)) kS (fun (x9 : ByteArray) => ptrW b_5.base (fun b10 o11 => ifW (0 <= i_6 /\ i_6 < ((b_5.len : Nat) : Int))
 (rdT (rdC b10 (o11 + i_6.toNat * 1)) kS (fun (x12 : ByteArray) => brW (!strEq x9 x12) (K (.bool false)) (R3 a_4 b_5 (IntKind.i64.wrap (i_6 + 1)))))))))) (K (.bool true)))) (fun (R13 : Sl -> Sl -> Int -> H -> Prop) => R13 a_1 b_2 0))
theorem e18 (a_1 : Sl) (b_2 : Sl) (K : KH) : bodyF Tryz.prog tau Tryz.f18 an18 [.slice a_1.base a_1.len a_1.cap, .slice b_2.base b_2.len b_2.cap] K = g18 a_1 b_2 K := by kernel_rfl
theorem c18 (a_1 : Sl) (b_2 : Sl) {K : KH} {σ : H} (h : g18 a_1 b_2 K σ) : callW Tryz.prog 18 [.slice a_1.base a_1.len a_1.cap, .slice b_2.base b_2.len b_2.cap] K σ := call_of_body mixed Tryz.func18 (by rw [e18]; exact h)


def an20 : Ann := (.q (.q (.q (.n (.q (.blk (.loop [(5,.p),(6,.l),(11,.l),(12,.i),(13,.i)] (.q (.n (.cond .z .z) (.n (.blk (.q .r)) .r)))))) (.q .z)))))
def g20 (l_1 : Sl) (ifs_2 : ByteArray) (K : KH) : H -> Prop :=
 callT Tryz.prog 74 [.string ifs_2] kR (fun x3 =>
 alW (.cells ⟨[.int .i64 0, .int .i64 0, .int .i64 0, .int .i64 0, .int .i64 0, .int .i64 0, .int .i64 0, .int .i64 0, .int .i64 0, .int .i64 0, .int .i64 0, .int .i64 0, .int .i64 0, .int .i64 0, .int .i64 0, .int .i64 0, .int .i64 0, .int .i64 0, .int .i64 0, .int .i64 0, .int .i64 0, .int .i64 0, .int .i64 0, .int .i64 0, .int .i64 0, .int .i64 0, .int .i64 0, .int .i64 0, .int .i64 0, .int .i64 0, .int .i64 0, .int .i64 0, .int .i64 0, .int .i64 0, .int .i64 0, .int .i64 0, .int .i64 0, .int .i64 0, .int .i64 0, .int .i64 0, .int .i64 0, .int .i64 0, .int .i64 0, .int .i64 0, .int .i64 0, .int .i64 0, .int .i64 0, .int .i64 0, .int .i64 0, .int .i64 0, .int .i64 0, .int .i64 0, .int .i64 0, .int .i64 0, .int .i64 0, .int .i64 0, .int .i64 0, .int .i64 0, .int .i64 0, .int .i64 0, .int .i64 0, .int .i64 0, .int .i64 0, .int .i64 0, .int .i64 0, .int .i64 0, .int .i64 0, .int .i64 0, .int .i64 0, .int .i64 0, .int .i64 0, .int .i64 0, .int .i64 0, .int .i64 0, .int .i64 0, .int .i64 0, .int .i64 0, .int .i64 0, .int .i64 0, .int .i64 0, .int .i64 0, .int .i64 0, .int .i64 0, .int .i64 0, .int .i64 0, .int .i64 0, .int .i64 0, .int .i64 0, .int .i64 0, .int .i64 0, .int .i64 0, .int .i64 0, .int .i64 0, .int .i64 0, .int .i64 0, .int .i64 0, .int .i64 0, .int .i64 0, .int .i64 0, .int .i64 0, .int .i64 0, .int .i64 0, .int .i64 0, .int .i64 0, .int .i64 0, .int .i64 0, .int .i64 0, .int .i64 0, .int .i64 0, .int .i64 0, .int .i64 0, .int .i64 0, .int .i64 0, .int .i64 0, .int .i64 0, .int .i64 0, .int .i64 0, .int .i64 0, .int .i64 0, .int .i64 0, .int .i64 0, .int .i64 0, .int .i64 0, .int .i64 0, .int .i64 0, .int .i64 0, .int .i64 0, .int .i64 0, .int .i64 0, .int .i64 0, .int .i64 0, .int .i64 0, .int .i64 0, .int .i64 0, .int .i64 0, .int .i64 0, .int .i64 0, .int .i64 0, .int .i64 0, .int .i64 0, .int .i64 0, .int .i64 0, .int .i64 0, .int .i64 0, .int .i64 0, .int .i64 0, .int .i64 0, .int .i64 0, .int .i64 0, .int .i64 0, .int .i64 0, .int .i64 0, .int .i64 0, .int .i64 0, .int .i64 0, .int .i64 0, .int .i64 0, .int .i64 0, .int .i64 0, .int .i64 0, .int .i64 0, .int .i64 0, .int .i64 0, .int .i64 0, .int .i64 0, .int .i64 0, .int .i64 0, .int .i64 0, .int .i64 0, .int .i64 0, .int .i64 0, .int .i64 0, .int .i64 0, .int .i64 0, .int .i64 0, .int .i64 0, .int .i64 0, .int .i64 0, .int .i64 0, .int .i64 0, .int .i64 0, .int .i64 0, .int .i64 0, .int .i64 0, .int .i64 0, .int .i64 0, .int .i64 0, .int .i64 0, .int .i64 0, .int .i64 0, .int .i64 0, .int .i64 0, .int .i64 0, .int .i64 0, .int .i64 0, .int .i64 0, .int .i64 0, .int .i64 0, .int .i64 0, .int .i64 0, .int .i64 0, .int .i64 0, .int .i64 0, .int .i64 0, .int .i64 0, .int .i64 0, .int .i64 0, .int .i64 0, .int .i64 0, .int .i64 0, .int .i64 0, .int .i64 0, .int .i64 0, .int .i64 0, .int .i64 0, .int .i64 0, .int .i64 0, .int .i64 0, .int .i64 0, .int .i64 0, .int .i64 0, .int .i64 0, .int .i64 0, .int .i64 0, .int .i64 0, .int .i64 0, .int .i64 0, .int .i64 0, .int .i64 0, .int .i64 0, .int .i64 0, .int .i64 0, .int .i64 0, .int .i64 0, .int .i64 0, .int .i64 0, .int .i64 0, .int .i64 0, .int .i64 0, .int .i64 0, .int .i64 0, .int .i64 0, .int .i64 0, .int .i64 0, .int .i64 0, .int .i64 0, .int .i64 0, .int .i64 0, .int .i64 0, .int .i64 0, .int .i64 0, .int .i64 0, .int .i64 0, .int .i64 0, .int .i64 0, .int .i64 0]⟩ 111 (0, 0)) (fun b4 =>
 stW Tryz.prog 111 (.pointer (some ⟨b4, 0, none⟩)) (x3) (loopW [.sc .ptr, .sc .slc, .sc .slc, .sc (.int .i64), .sc (.int .i64)] (fun (R5 : Option Addr -> Sl -> Sl -> Int -> Int -> H -> Prop) => (fun (class_6 : Option Addr) (out_7 : Sl) (x8 : Sl) (x9 : Int) (x10 : Int) => brW (decide ((x10 : Int) < x9)) (ptrW x8.base (fun b11 o12 => ifW (0 <= x10 /\ x10 < ((x8.len : Nat) : Int)) (rdT (rdC b11 (o12 + x10.toNat * 1)) kL (fun x13 =>
 callT Tryz.prog 75 [.slice x13.base x13.len x13.cap, .pointer class_6] kL (fun x14 => biW Tryz.prog .append #[44, 44] 44 [false, false] [.slice out_7.base out_7.len out_7.cap, .slice x14.base x14.len x14.cap] kL (fun x15 => R5 class_6 x15 x8 x9 (IntKind.i64.wrap (x10 + 1)))))))) (K (.slice out_7.base out_7.len out_7.cap)))) (fun (R16 : Option Addr -> Sl -> Sl -> Int -> Int -> H -> Prop) => R16 (some ⟨b4, 0, none⟩) ⟨none, 0, 0⟩ l_1 ((l_1.len : Nat) : Int) 0))))
theorem e20 (l_1 : Sl) (ifs_2 : ByteArray) (K : KH) : bodyF Tryz.prog tau Tryz.f20 an20 [.slice l_1.base l_1.len l_1.cap, .string ifs_2] K = g20 l_1 ifs_2 K := by kernel_rfl
theorem c20 (l_1 : Sl) (ifs_2 : ByteArray) {K : KH} {σ : H} (h : g20 l_1 ifs_2 K σ) : callW Tryz.prog 20 [.slice l_1.base l_1.len l_1.cap, .string ifs_2] K σ := call_of_body mixed Tryz.func20 (by rw [e20]; exact h)


def an26 : Ann := (.q (.q .z))
def g26 (s_1 : ByteArray) (c_2 : Int) (K : KH) : H -> Prop :=
 callT Tryz.prog 79 [.string s_1, .int .u8 c_2] kI (fun (x3 : Int) => K (.int .i64 x3))
theorem e26 (s_1 : ByteArray) (c_2 : Int) (K : KH) : bodyF Tryz.prog tau Tryz.f26 an26 [.string s_1, .int .u8 c_2] K = g26 s_1 c_2 K := by kernel_rfl
theorem c26 (s_1 : ByteArray) (c_2 : Int) {K : KH} {σ : H} (h : g26 s_1 c_2 K σ) : callW Tryz.prog 26 [.string s_1, .int .u8 c_2] K σ := call_of_body mixed Tryz.func26 (by rw [e26]; exact h)


def an27 : Ann := (.q (.q (.n (.q (.blk (.loop [(3,.p),(6,.l),(7,.i),(8,.i)] (.q (.n (.cond .z .z) (.n (.blk (.q .r)) .r)))))) (.q .z))))
def g27 (p_1 : Sl) (K : KH) : H -> Prop :=
 alW (.cells ⟨[.pointer none, .slice none 0 0]⟩ 121 (0, 0)) (fun b2 => loopW [.sc .ptr, .sc .slc, .sc (.int .i64), .sc (.int .i64)] (fun (R3 : Option Addr -> Sl -> Int -> Int -> H -> Prop) => (fun (b_4 : Option Addr) (x5 : Sl) (x6 : Int) (x7 : Int) => brW (decide ((x7 : Int) < x6)) (ptrW x5.base (fun b8 o9 => ifW (0 <= x7 /\ x7 < ((x5.len : Nat) : Int)) (rdT (rdA 3 b8 (o9 + x7.toNat * 3)) (.one (.agg [.str, .bool, .bool])) (fun (x10 : ByteArray) (x11 : Bool) (x12 : Bool) =>
 alW (.cells ⟨[.string (⟨⟨[]⟩⟩ : ByteArray), .bool false, .bool false]⟩ 29 (0, 0)) (fun b13 => stW Tryz.prog 29 (.pointer (some ⟨b13, 0, none⟩)) (.agg ⟨[.string x10, .bool x11, .bool x12]⟩) (rdT (rdC b13 0) kS (fun (x14 : ByteArray) => callT Tryz.prog 80 [.pointer b_4, .string x14] (.tup [.sc (.int .i64), .sc .raw]) (fun (_x15 : Int) (_x16 : Value) => R3 b_4 x5 x6 (IntKind.i64.wrap (x7 + 1)))))))))) (callT Tryz.prog 81 [.pointer b_4] kS (fun (x17 : ByteArray) =>
 K (.string x17))))) (fun (R18 : Option Addr -> Sl -> Int -> Int -> H -> Prop) => R18 (some ⟨b2, 0, none⟩) p_1 ((p_1.len : Nat) : Int) 0))
theorem e27 (p_1 : Sl) (K : KH) : bodyF Tryz.prog tau Tryz.f27 an27 [.slice p_1.base p_1.len p_1.cap] K = g27 p_1 K := by kernel_rfl
theorem c27 (p_1 : Sl) {K : KH} {σ : H} (h : g27 p_1 K σ) : callW Tryz.prog 27 [.slice p_1.base p_1.len p_1.cap] K σ := call_of_body mixed Tryz.func27 (by rw [e27]; exact h)


def an28 : Ann := (.q (.q (.q .z)))
def g28  (K : KH) : H -> Prop :=
 alW (.cells ⟨[.string (⟨⟨[97, 98]⟩⟩ : ByteArray), .string (⟨⟨[97, 99]⟩⟩ : ByteArray), .string (⟨⟨[46, 97, 100]⟩⟩ : ByteArray), .string (⟨⟨[100, 47]⟩⟩ : ByteArray), .string (⟨⟨[100, 47, 97, 98]⟩⟩ : ByteArray)]⟩ 9 (0, 0)) (fun b1 => callT Tryz.prog 12 [.slice (some ⟨b1, 0, none⟩) 5 5] (.tup [.sc .ptr, .sc .ptr]) (fun x2 _x3 => K (.pointer x2)))
theorem e28  (K : KH) : bodyF Tryz.prog tau Tryz.f28 an28 [] K = g28  K := by kernel_rfl
theorem c28  {K : KH} {σ : H} (h : g28  K σ) : callW Tryz.prog 28 [] K σ := call_of_body mixed Tryz.func28 (by rw [e28]; exact h)


def an31 : Ann := (.q (.q (.n (.q (.h)) (.q .z))))
def g31 (q_1 : Int) (q_2 : Int) (K : KH) : H -> Prop :=
 alW (.cells ⟨[.int .i64 q_1, .int .i64 q_2]⟩ 64 (0, 0)) (fun b3 => rdT (rdA 2 b3 0) (.one (.agg [(.int .i64), (.int .i64)])) (fun (x4 : Int) (x5 : Int) => callT Tryz.prog 82 [.agg ⟨[.int .i64 x4, .int .i64 x5]⟩] kP (fun x6 => brW x6.isNone (K (.pointer none)) (alW (.cells ⟨[.pointer x6]⟩ 110 (0, 0)) (fun b7 => K (.pointer (some ⟨b7, 0, none⟩)))))))
theorem e31 (q_1 : Int) (q_2 : Int) (K : KH) : bodyF Tryz.prog tau Tryz.f31 an31 [.agg ⟨[.int .i64 q_1, .int .i64 q_2]⟩] K = g31 q_1 q_2 K := by kernel_rfl
theorem c31 (q_1 : Int) (q_2 : Int) {K : KH} {σ : H} (h : g31 q_1 q_2 K σ) : callW Tryz.prog 31 [.agg ⟨[.int .i64 q_1, .int .i64 q_2]⟩] K σ := call_of_body mixed Tryz.func31 (by rw [e31]; exact h)


def an32 : Ann := (.q (.n (.seq (some [(1,.p),(20,.b)]) .r (.h)) (.q .z)))
def g32 (q_1 : Int) (q_2 : Int) (K : KH) : H -> Prop :=
 alW (.cells ⟨[.int .i64 q_1, .int .i64 q_2]⟩ 64 (0, 0)) (fun b3 => letJ (T := Option Addr -> Bool -> H -> Prop) (fun q_5 x6 => brW x6 (K (.pointer none)) (ptrW q_5 (fun b7 o8 => rdT (rdA 2 b7 o8) (.one (.agg [(.int .i64), (.int .i64)])) (fun (x9 : Int) (x10 : Int) => alW (.cells ⟨[.int .i64 2, .int .i64 493, .string (⟨⟨[]⟩⟩ : ByteArray), .slice none 0 0, .int .i64 0]⟩ 131 (0, 0)) (fun b11 => alW (.cells ⟨[.pointer (some ⟨b11, 0, none⟩)]⟩ 128 (0, 0)) (fun b12 =>
 alW (.cells ⟨[.int .i64 x9, .int .i64 x10, .slice (some ⟨b12, 0, none⟩) 1 1]⟩ 134 (0, 0)) (fun b13 => K (.pointer (some ⟨b13, 0, none⟩))))))))) (fun j4 => rdT (rdC b3 0) kI (fun (x14 : Int) => brW (decide ((x14 : Int) < 1)) (j4 (some ⟨b3, 0, none⟩) true) (rdT (rdC b3 0) kI (fun (x15 : Int) => brW (decide ((x15 : Int) > 1048576)) (j4 (some ⟨b3, 0, none⟩) true) (rdT (rdC b3 1) kI (fun (x16 : Int) => brW (decide ((x16 : Int) < 0)) (j4 (some ⟨b3, 0, none⟩) true)
 (rdT (rdC b3 1) kI (fun (x17 : Int) => j4 (some ⟨b3, 0, none⟩) (decide ((x17 : Int) > 1073741824)))))))))))
theorem e32 (q_1 : Int) (q_2 : Int) (K : KH) : bodyF Tryz.prog tau Tryz.f32 an32 [.agg ⟨[.int .i64 q_1, .int .i64 q_2]⟩] K = g32 q_1 q_2 K := by kernel_rfl
theorem c32 (q_1 : Int) (q_2 : Int) {K : KH} {σ : H} (h : g32 q_1 q_2 K σ) : callW Tryz.prog 32 [.agg ⟨[.int .i64 q_1, .int .i64 q_2]⟩] K σ := call_of_body mixed Tryz.func32 (by rw [e32]; exact h)


def an40 : Ann := (.q (.q (.n (.q (.blk (.loop [(0,.p),(2,.p),(3,.p),(4,.i)] (.n (.q (.cond .z .z)) (.seq (some [(0,.p),(2,.p),(3,.p),(4,.i)]) (.blk (.q (.cond (.q (.reg (rn 16) [[],[0],[],[2],[2,3],[2,3,4],[],[2,3,4,5,6],[2,3,4,5,6,7],[2,3,4,5,6,7,8],[2,3,4,5,6,7,8,9],[2,3,4,5,6,7,8,9,10],[2,3,4,5,6,7,8,9,10,11],(rn 13),(rn 14),(rn 15)])) .z))) .r))))) (.q .z))))
def g40 (f_1 : Option Addr) (K : KH) : H -> Prop :=
 alW (.cells ⟨[.int .i64 0, .int .i64 0]⟩ 64 (0, 0)) (fun b2 => alW (.cells ⟨[.int .i64 0, .int .i64 0]⟩ 64 (0, 0)) (fun b3 => stW Tryz.prog 64 (.pointer (some ⟨b3, 0, none⟩)) (.agg ⟨[.int .i64 0, .int .i64 0]⟩) (loopW [.sc .ptr, .sc .ptr, .sc .ptr, .sc (.int .i64)] (fun (R4 : Option Addr -> Option Addr -> Option Addr -> Int -> H -> Prop) => (fun (f_5 : Option Addr) (x6 : Option Addr) (q_7 : Option Addr) (i_8 : Int) => ptrW f_5 (fun b9 o10 => rdT (rdC b9 (o10 + 2)) kL (fun x11 =>
 brW (decide ((i_8 : Int) < ((x11.len : Nat) : Int))) (letJ (T := Option Addr -> Option Addr -> Option Addr -> Int -> H -> Prop) (fun f_13 x14 q_15 i_16 => R4 f_13 x14 q_15 (IntKind.i64.wrap (i_16 + 1))) (fun j12 => ptrW f_5 (fun b17 o18 => rdT (rdC b17 (o18 + 2)) kL (fun x19 => ptrW x19.base (fun b20 o21 => ifW (0 <= i_8 /\ i_8 < ((x19.len : Nat) : Int)) (rdT (rdC b20 (o21 + i_8.toNat * 1)) kP (fun x22 => brW (!x22.isNone) (ptrW q_7 (fun b23 o24 => rdT (rdC b23 o24) kI (fun (x25 : Int) =>
 ptrW q_7 (fun b26 o27 => stW Tryz.prog 3 (.pointer (some ⟨b26, o27, none⟩)) (.int .i64 (IntKind.i64.wrap (x25 + 1))) (ptrW q_7 (fun b28 o29 => rdT (rdC b28 (o29 + 1)) kI (fun (x30 : Int) => ptrW f_5 (fun b31 o32 => rdT (rdC b31 (o32 + 2)) kL (fun x33 => ptrW x33.base (fun b34 o35 => ifW (0 <= i_8 /\ i_8 < ((x33.len : Nat) : Int)) (rdT (rdC b34 (o35 + i_8.toNat * 1)) kP (fun x36 => ptrW x36 (fun b37 o38 => rdT (rdC b37 (o38 + 2)) kS (fun (x39 : ByteArray) => ptrW q_7 (fun b40 o41 =>
 stW Tryz.prog 3 (.pointer (some ⟨b40, o41 + 1, none⟩)) (.int .i64 (IntKind.i64.wrap (x30 + ((x39.size : Nat) : Int)))) (j12 f_5 x6 q_7 i_8)))))))))))))))) (j12 f_5 x6 q_7 i_8)))))))) (ptrW q_7 (fun b42 o43 => rdT (rdA 2 b42 o43) (.one (.agg [(.int .i64), (.int .i64)])) (fun (x44 : Int) (x45 : Int) => stW Tryz.prog 64 (.pointer x6) (.agg ⟨[.int .i64 x44, .int .i64 x45]⟩) (ptrW x6 (fun b46 o47 => rdT (rdA 2 b46 o47) (.one (.agg [(.int .i64), (.int .i64)])) (fun (r48 : Int) (r49 : Int) =>
 K (.agg ⟨[.int .i64 r48, .int .i64 r49]⟩))))))))))) (fun (R50 : Option Addr -> Option Addr -> Option Addr -> Int -> H -> Prop) => R50 f_1 (some ⟨b2, 0, none⟩) (some ⟨b3, 0, none⟩) 0))))
theorem e40 (f_1 : Option Addr) (K : KH) : bodyF Tryz.prog tau Tryz.f40 an40 [.pointer f_1] K = g40 f_1 K := by kernel_rfl
theorem c40 (f_1 : Option Addr) {K : KH} {σ : H} (h : g40 f_1 K σ) : callW Tryz.prog 40 [.pointer f_1] K σ := call_of_body mixed Tryz.func40 (by rw [e40]; exact h)


def an42 : Ann := (.q (.q (.n (.q (.h)) (.n (.q (.blk (.loop [(1,.l),(7,.l),(8,.i)] (.n (.q (.cond .z .z)) (.n (.blk (.n (.reg [0,1,2,3,5,6,7,8,4,9] [[],[],[0,1],[0,1,2],(rn 4),[],[],[5,6],[5,6,7],(rn 9)]) (.h))) .r))))) (.q .z)))))
def g42 (ifs_1 : ByteArray) (want_2 : Sl) (r_3 : Sl) (K : KH) : H -> Prop :=
 alW (.cells ⟨[.slice r_3.base r_3.len r_3.cap]⟩ 31 (0, 0)) (fun b4 => callT Tryz.prog 20 [.slice (some ⟨b4, 0, none⟩) 1 1, .string ifs_1] kL (fun x5 => brW ((((x5.len : Nat) : Int) : Int) != ((want_2.len : Nat) : Int)) (K (.bool false)) (loopW [.sc .slc, .sc .slc, .sc (.int .i64)] (fun (R6 : Sl -> Sl -> Int -> H -> Prop) => (fun (want_7 : Sl) (l_8 : Sl) (i_9 : Int) => brW (decide ((i_9 : Int) < ((l_8.len : Nat) : Int))) (ptrW l_8.base (fun b10 o11 => ifW (0 <= i_9 /\ i_9 < ((l_8.len : Nat) : Int))
 (rdT (rdC b10 (o11 + i_9.toNat * 1)) kL (fun x12 => ptrW want_7.base (fun b13 o14 => ifW (0 <= i_9 /\ i_9 < ((want_7.len : Nat) : Int)) (rdT (rdC b13 (o14 + i_9.toNat * 1)) kS (fun (x15 : ByteArray) => callT Tryz.prog 27 [.slice x12.base x12.len x12.cap] kS (fun (x16 : ByteArray) => andW (fun σ => (rdC b13 (o14 + i_9.toNat * 1)) σ = some (.string x15)) (brW (!strEq x16 x15) (K (.bool false)) (R6 want_7 l_8 (IntKind.i64.wrap (i_9 + 1))))))))))))
 (K (.bool true)))) (fun (R17 : Sl -> Sl -> Int -> H -> Prop) => R17 want_2 x5 0))))
theorem e42 (ifs_1 : ByteArray) (want_2 : Sl) (r_3 : Sl) (K : KH) : bodyF Tryz.prog tau Tryz.f42 an42 [.string ifs_1, .slice want_2.base want_2.len want_2.cap, .slice r_3.base r_3.len r_3.cap] K = g42 ifs_1 want_2 r_3 K := by kernel_rfl
theorem c42 (ifs_1 : ByteArray) (want_2 : Sl) (r_3 : Sl) {K : KH} {σ : H} (h : g42 ifs_1 want_2 r_3 K σ) : callW Tryz.prog 42 [.string ifs_1, .slice want_2.base want_2.len want_2.cap, .slice r_3.base r_3.len r_3.cap] K σ := call_of_body mixed Tryz.func42 (by rw [e42]; exact h)


def an43 : Ann := (.q (.q .z))
def g43 (s_1 : ByteArray) (K : KH) : H -> Prop :=
 alW (.cells ⟨[.string (⟨⟨[]⟩⟩ : ByteArray), .bool false, .bool false]⟩ 29 (0, 0)) (fun b2 => stW Tryz.prog 29 (.pointer (some ⟨b2, 0, none⟩)) (.agg ⟨[.string s_1, .bool false, .bool true]⟩) (rdT (rdA 3 b2 0) (.one (.agg [.str, .bool, .bool])) (fun (r3 : ByteArray) (r4 : Bool) (r5 : Bool) => K (.agg ⟨[.string r3, .bool r4, .bool r5]⟩))))
theorem e43 (s_1 : ByteArray) (K : KH) : bodyF Tryz.prog tau Tryz.f43 an43 [.string s_1] K = g43 s_1 K := by kernel_rfl
theorem c43 (s_1 : ByteArray) {K : KH} {σ : H} (h : g43 s_1 K σ) : callW Tryz.prog 43 [.string s_1] K σ := call_of_body mixed Tryz.func43 (by rw [e43]; exact h)


def an44 : Ann := (.q (.q .z))
def g44 (s_1 : ByteArray) (K : KH) : H -> Prop :=
 alW (.cells ⟨[.string (⟨⟨[]⟩⟩ : ByteArray), .bool false, .bool false]⟩ 29 (0, 0)) (fun b2 => stW Tryz.prog 29 (.pointer (some ⟨b2, 0, none⟩)) (.agg ⟨[.string s_1, .bool true, .bool false]⟩) (rdT (rdA 3 b2 0) (.one (.agg [.str, .bool, .bool])) (fun (r3 : ByteArray) (r4 : Bool) (r5 : Bool) => K (.agg ⟨[.string r3, .bool r4, .bool r5]⟩))))
theorem e44 (s_1 : ByteArray) (K : KH) : bodyF Tryz.prog tau Tryz.f44 an44 [.string s_1] K = g44 s_1 K := by kernel_rfl
theorem c44 (s_1 : ByteArray) {K : KH} {σ : H} (h : g44 s_1 K σ) : callW Tryz.prog 44 [.string s_1] K σ := call_of_body mixed Tryz.func44 (by rw [e44]; exact h)


def an45 : Ann := (.q (.q (.q .z)))
def g45 (f_1 : Option Addr) (cwd_2 : ByteArray) (want_3 : ByteArray) (r_4 : Sl) (K : KH) : H -> Prop :=
 callT Tryz.prog 14 [.pointer f_1, .string cwd_2, .slice r_4.base r_4.len r_4.cap] (.tup [.sc .slc, .sc (.int .i64)]) (fun (x5 : Sl) (_x6 : Int) => callT Tryz.prog 46 [.slice x5.base x5.len x5.cap, .string (⟨⟨[32]⟩⟩ : ByteArray)] kS (fun (x7 : ByteArray) => K (.bool (strEq x7 want_3))))
theorem e45 (f_1 : Option Addr) (cwd_2 : ByteArray) (want_3 : ByteArray) (r_4 : Sl) (K : KH) : bodyF Tryz.prog tau Tryz.f45 an45 [.pointer f_1, .string cwd_2, .string want_3, .slice r_4.base r_4.len r_4.cap] K = g45 f_1 cwd_2 want_3 r_4 K := by kernel_rfl
theorem c45 (f_1 : Option Addr) (cwd_2 : ByteArray) (want_3 : ByteArray) (r_4 : Sl) {K : KH} {σ : H} (h : g45 f_1 cwd_2 want_3 r_4 K σ) : callW Tryz.prog 45 [.pointer f_1, .string cwd_2, .string want_3, .slice r_4.base r_4.len r_4.cap] K σ := call_of_body mixed Tryz.func45 (by rw [e45]; exact h)


def an46 : Ann := (.q (.n (.q (.blk (.q (.cond (.q .z) (.q (.h)))))) (.q (.seq (some [(0,.l),(1,.s),(5,.i)]) (.q (.cond (.n (.q (.cond .r .z)) .r) .z)) (.n (.q (.blk (.loop [(0,.l),(1,.s),(5,.i),(39,.l),(40,.i),(41,.i)] (.q (.n (.cond .z .z) (.n (.blk (.q (.n (.q (.cond .r .z)) .r))) .r)))))) (.q (.q (.q (.n (.q (.blk (.loop [(1,.s),(8,.p),(63,.l),(64,.i),(65,.i)] (.q (.n (.cond .z .z) (.n (.blk (.q (.q .r))) .r)))))) (.q .z))))))))))
def g46 (elems_1 : Sl) (sep_2 : ByteArray) (K : KH) : H -> Prop :=
 brW ((((elems_1.len : Nat) : Int) : Int) == 0) (K (.string (⟨⟨[]⟩⟩ : ByteArray))) (brW ((((elems_1.len : Nat) : Int) : Int) == 1) (ptrW elems_1.base (fun b3 o4 => ifW (0 <= (0 : Int) /\ (0 : Int) < ((elems_1.len : Nat) : Int)) (rdT (rdC b3 (o4 + (0 : Int).toNat * 1)) kS (fun (x5 : ByteArray) => K (.string x5))))) (letJ (T := Sl -> ByteArray -> Int -> H -> Prop) (fun elems_7 sep_8 n_9 =>
 loopW [.sc .slc, .sc .str, .sc (.int .i64), .sc .slc, .sc (.int .i64), .sc (.int .i64)] (fun (R10 : Sl -> ByteArray -> Int -> Sl -> Int -> Int -> H -> Prop) => (fun (elems_11 : Sl) (sep_12 : ByteArray) (n_13 : Int) (x14 : Sl) (x15 : Int) (x16 : Int) => brW (decide ((x16 : Int) < x15)) (ptrW x14.base (fun b17 o18 => ifW (0 <= x16 /\ x16 < ((x14.len : Nat) : Int)) (rdT (rdC b17 (o18 + x16.toNat * 1)) kS (fun (x19 : ByteArray) =>
 brW (decide ((((x19.size : Nat) : Int) : Int) > (IntKind.i64.wrap (9223372036854775807 - n_13)))) (nW) (R10 elems_11 sep_12 (IntKind.i64.wrap (n_13 + ((x19.size : Nat) : Int))) x14 x15 (IntKind.i64.wrap (x16 + 1))))))) (alW (.cells ⟨[.pointer none, .slice none 0 0]⟩ 121 (0, 0)) (fun b20 => callT Tryz.prog 97 [.pointer (some ⟨b20, 0, none⟩), .int .i64 n_13] kU (ptrW elems_11.base (fun b21 o22 => ifW (0 <= (0 : Int) /\ (0 : Int) < ((elems_11.len : Nat) : Int))
 (rdT (rdC b21 (o22 + (0 : Int).toNat * 1)) kS (fun (x23 : ByteArray) => callT Tryz.prog 80 [.pointer (some ⟨b20, 0, none⟩), .string x23] (.tup [.sc (.int .i64), .sc .raw]) (fun (_x24 : Int) (_x25 : Value) => ifW (bndOk none elems_11.cap /\ bndOk (some 1) elems_11.len) (loopW [.sc .str, .sc .ptr, .sc .slc, .sc (.int .i64), .sc (.int .i64)] (fun (R26 : ByteArray -> Option Addr -> Sl -> Int -> Int -> H -> Prop) => (fun (sep_27 : ByteArray) (b_28 : Option Addr) (x29 : Sl) (x30 : Int) (x31 : Int) =>
 brW (decide ((x31 : Int) < x30)) (ptrW x29.base (fun b32 o33 => ifW (0 <= x31 /\ x31 < ((x29.len : Nat) : Int)) (rdT (rdC b32 (o33 + x31.toNat * 1)) kS (fun (x34 : ByteArray) => callT Tryz.prog 80 [.pointer b_28, .string sep_27] (.tup [.sc (.int .i64), .sc .raw]) (fun (_x35 : Int) (_x36 : Value) => callT Tryz.prog 80 [.pointer b_28, .string x34] (.tup [.sc (.int .i64), .sc .raw]) (fun (_x37 : Int) (_x38 : Value) => R26 sep_27 b_28 x29 x30 (IntKind.i64.wrap (x31 + 1))))))))
 (callT Tryz.prog 81 [.pointer b_28] kS (fun (x39 : ByteArray) =>
 K (.string x39))))) (fun (R40 : ByteArray -> Option Addr -> Sl -> Int -> Int -> H -> Prop) => R40 sep_12 (some ⟨b20, 0, none⟩) ⟨slBase elems_11.base ((1 : Int).toNat) elems_11.cap 1, elems_11.len - ((1 : Int).toNat), elems_11.cap - ((1 : Int).toNat)⟩ ((elems_11.len - ((1 : Int).toNat) : Nat) : Int) 0))))))))))) (fun (R41 : Sl -> ByteArray -> Int -> Sl -> Int -> Int -> H -> Prop) => R41 elems_7 sep_8 n_9 elems_7 ((elems_7.len : Nat) : Int) 0)) (fun j6 => brW (decide ((((sep_2.size : Nat) : Int) : Int) > 0))
 (ifW ((IntKind.i64.wrap (((elems_1.len : Nat) : Int) - 1)) ≠ 0) (brW (decide ((((sep_2.size : Nat) : Int) : Int) >= (IntKind.i64.wrap (Int.tdiv 9223372036854775807 (IntKind.i64.wrap (((elems_1.len : Nat) : Int) - 1)))))) (nW) (j6 elems_1 sep_2 (IntKind.i64.wrap (0 + (IntKind.i64.wrap (((sep_2.size : Nat) : Int) * (IntKind.i64.wrap (((elems_1.len : Nat) : Int) - 1))))))))) (j6 elems_1 sep_2 0))))
theorem e46 (elems_1 : Sl) (sep_2 : ByteArray) (K : KH) : bodyF Tryz.prog tau Tryz.f46 an46 [.slice elems_1.base elems_1.len elems_1.cap, .string sep_2] K = g46 elems_1 sep_2 K := by kernel_rfl
theorem c46 (elems_1 : Sl) (sep_2 : ByteArray) {K : KH} {σ : H} (h : g46 elems_1 sep_2 K σ) : callW Tryz.prog 46 [.slice elems_1.base elems_1.len elems_1.cap, .string sep_2] K σ := call_of_body mixed Tryz.func46 (by rw [e46]; exact h)


def an47 : Ann := (.q (.q (.n (.q (.h)) (.n (.q (.cond (.n (.reg (rn 15) [[],[0],[0,1],[0,1,2],[],[4],[],[6],[],(rn 9),(rn 10),(rn 11),(rn 11),(rn 12),(rn 14)]) (.q .z)) .z)) (.n (.reg (rn 13) [[],[0],[0,1],[0,1,2],[],[4],(rn 6),(rn 7),(rn 8),(rn 8),[],[0,1,2,3,4,5,6,7,8,10],(rn 12)]) (.n (.q (.h)) (.seq (some [(0,.p),(3,.s),(11,.p)]) (.q (.cond .r .z)) (.n (.reg (rn 9) [[],[0],[0,1],[0,1,2],[],[4],[],(rn 7),(rn 8)]) .z))))))))
def g47 (f_1 : Option Addr) (cwd_2 : ByteArray) (path_3 : ByteArray) (data_4 : ByteArray) (more_5 : Bool) (K : KH) : H -> Prop :=
 callT Tryz.prog 98 [.pointer f_1, .string cwd_2, .string path_3, .bool true] (.tup [.agg [(.int .i64), .str, (.int .i64), .bool], .sc (.int .i64)]) (fun (x6 : Int) (x7 : ByteArray) (x8 : Int) (x9 : Bool) (x10 : Int) => alW (.cells ⟨[.int .i64 0, .string (⟨⟨[]⟩⟩ : ByteArray), .int .i64 0, .bool false]⟩ 142 (0, 0)) (fun b11 => stW Tryz.prog 142 (.pointer (some ⟨b11, 0, none⟩)) (.agg ⟨[.int .i64 x6, .string x7, .int .i64 x8, .bool x9]⟩) (brW ((x10 : Int) != 0) (K (.int .i64 x10))
 (rdT (rdC b11 3) kB (fun x12 => brW (!x12) (ptrW f_1 (fun b13 o14 => rdT (rdC b13 o14) kP (fun x15 => rdT (rdC b11 0) kI (fun (x16 : Int) => rdT (rdC b11 1) kS (fun (x17 : ByteArray) => callT Tryz.prog 96 [.pointer x15, .int .i64 x16, .string x17, .int .i64 1, .int .i64 420, .string data_4] (.tup [.sc (.int .i64), .sc (.int .i64)]) (fun (_x18 : Int) (x19 : Int) => K (.int .i64 x19))))))) (ptrW f_1 (fun b20 o21 => rdT (rdC b20 o21) kP (fun x22 => rdT (rdC b11 2) kI (fun (x23 : Int) =>
 callT Tryz.prog 99 [.pointer x22, .int .i64 x23] (.tup [.agg [(.int .i64), (.int .i64), .str, (.int .i64)], .sc .bool]) (fun (x24 : Int) (x25 : Int) (x26 : ByteArray) (x27 : Int) (_x28 : Bool) => alW (.cells ⟨[.int .i64 0, .int .i64 0, .string (⟨⟨[]⟩⟩ : ByteArray), .int .i64 0]⟩ 35 (0, 0)) (fun b29 => stW Tryz.prog 35 (.pointer (some ⟨b29, 0, none⟩)) (.agg ⟨[.int .i64 x24, .int .i64 x25, .string x26, .int .i64 x27]⟩) (rdT (rdC b29 0) kI (fun (x30 : Int) => brW ((x30 : Int) == 2)
 (K (.int .i64 7)) (letJ (T := Option Addr -> ByteArray -> Option Addr -> H -> Prop) (fun f_32 data_33 p_34 => ptrW f_32 (fun b35 o36 => rdT (rdC b35 o36) kP (fun x37 => ptrW p_34 (fun b38 o39 => rdT (rdC b38 (o39 + 2)) kI (fun (x40 : Int) => callT Tryz.prog 100 [.pointer x37, .int .i64 x40, .string data_33] kI (fun (x41 : Int) => K (.int .i64 x41))))))) (fun j31 => brW more_5 (rdT (rdC b29 2) kS (fun (x42 : ByteArray) => ifW (x42.size + data_4.size <= 9223372036854775807)
 (j31 f_1 (x42 ++ data_4) (some ⟨b11, 0, none⟩)))) (j31 f_1 data_4 (some ⟨b11, 0, none⟩)))))))))))))))))
theorem e47 (f_1 : Option Addr) (cwd_2 : ByteArray) (path_3 : ByteArray) (data_4 : ByteArray) (more_5 : Bool) (K : KH) : bodyF Tryz.prog tau Tryz.f47 an47 [.pointer f_1, .string cwd_2, .string path_3, .string data_4, .bool more_5] K = g47 f_1 cwd_2 path_3 data_4 more_5 K := by kernel_rfl
theorem c47 (f_1 : Option Addr) (cwd_2 : ByteArray) (path_3 : ByteArray) (data_4 : ByteArray) (more_5 : Bool) {K : KH} {σ : H} (h : g47 f_1 cwd_2 path_3 data_4 more_5 K σ) : callW Tryz.prog 47 [.pointer f_1, .string cwd_2, .string path_3, .string data_4, .bool more_5] K σ := call_of_body mixed Tryz.func47 (by rw [e47]; exact h)


def an48 : Ann := (.q (.q .z))
def g48 (f_1 : Option Addr) (cwd_2 : ByteArray) (path_3 : ByteArray) (K : KH) : H -> Prop :=
 alW (.cells ⟨[.pointer f_1]⟩ 24 (0, 0)) (fun b4 => rdT (rdC b4 0) kP (fun x5 => callT Tryz.prog 94 [.pointer x5, .string cwd_2, .string path_3, .func (.func 101) ⟨[]⟩ ⟨[.pointer (some ⟨b4, 0, none⟩)]⟩] kI (fun (x6 : Int) => K (.int .i64 x6))))
theorem e48 (f_1 : Option Addr) (cwd_2 : ByteArray) (path_3 : ByteArray) (K : KH) : bodyF Tryz.prog tau Tryz.f48 an48 [.pointer f_1, .string cwd_2, .string path_3] K = g48 f_1 cwd_2 path_3 K := by kernel_rfl
theorem c48 (f_1 : Option Addr) (cwd_2 : ByteArray) (path_3 : ByteArray) {K : KH} {σ : H} (h : g48 f_1 cwd_2 path_3 K σ) : callW Tryz.prog 48 [.pointer f_1, .string cwd_2, .string path_3] K σ := call_of_body mixed Tryz.func48 (by rw [e48]; exact h)


def an63 : Ann := (.q (.q (.n (.q (.h)) (.n (.q (.h)) (.n (.q (.h)) (.q .z))))))
def g63 (f_1 : Option Addr) (cwd_2 : ByteArray) (path_3 : ByteArray) (K : KH) : H -> Prop :=
 callT Tryz.prog 126 [.pointer f_1, .string cwd_2, .string path_3, .bool false] (.tup [.agg [(.int .i64), .str, (.int .i64)], .sc (.int .i64)]) (fun (x4 : Int) (x5 : ByteArray) (x6 : Int) (x7 : Int) => alW (.cells ⟨[.int .i64 0, .string (⟨⟨[]⟩⟩ : ByteArray), .int .i64 0]⟩ 171 (0, 0)) (fun b8 => stW Tryz.prog 171 (.pointer (some ⟨b8, 0, none⟩)) (.agg ⟨[.int .i64 x4, .string x5, .int .i64 x6]⟩) (brW ((x7 : Int) != 0) (K (.int .i64 x7)) (rdT (rdC b8 2) kI (fun (x9 : Int) =>
 brW (decide ((x9 : Int) >= 0)) (K (.int .i64 6)) (rdT (rdC b8 0) kI (fun (x10 : Int) => callT Tryz.prog 127 [.pointer f_1, .int .i64 x10] kI (fun (x11 : Int) => brW (decide ((x11 : Int) >= 12)) (K (.int .i64 3)) (rdT (rdA 3 b8 0) (.one (.agg [(.int .i64), .str, (.int .i64)])) (fun (x12 : Int) (x13 : ByteArray) (x14 : Int) => callT Tryz.prog 128 [.pointer f_1, .agg ⟨[.int .i64 x12, .string x13, .int .i64 x14]⟩, .int .i64 2, .int .i64 493, .string (⟨⟨[]⟩⟩ : ByteArray)] kI (fun (x15 : Int) =>
 K (.int .i64 x15))))))))))))
theorem e63 (f_1 : Option Addr) (cwd_2 : ByteArray) (path_3 : ByteArray) (K : KH) : bodyF Tryz.prog tau Tryz.f63 an63 [.pointer f_1, .string cwd_2, .string path_3] K = g63 f_1 cwd_2 path_3 K := by kernel_rfl
theorem c63 (f_1 : Option Addr) (cwd_2 : ByteArray) (path_3 : ByteArray) {K : KH} {σ : H} (h : g63 f_1 cwd_2 path_3 K σ) : callW Tryz.prog 63 [.pointer f_1, .string cwd_2, .string path_3] K σ := call_of_body mixed Tryz.func63 (by rw [e63]; exact h)


def an64 : Ann := (.q (.q (.n (.q (.h)) (.n (.q (.h)) (.n (.reg (rn 9) [[],[0],[0,1],[0,1,2],[],[4],(rn 6),(rn 7),(rn 8)]) (.n (.q (.h)) (.seq (some [(0,.p),(3,.s),(13,.p)]) (.q (.cond .r .z)) (.n (.q (.h)) (.q (.q .z))))))))))
def g64 (f_1 : Option Addr) (cwd_2 : ByteArray) (path_3 : ByteArray) (data_4 : ByteArray) (more_5 : Bool) (K : KH) : H -> Prop :=
 callT Tryz.prog 126 [.pointer f_1, .string cwd_2, .string path_3, .bool true] (.tup [.agg [(.int .i64), .str, (.int .i64)], .sc (.int .i64)]) (fun (x6 : Int) (x7 : ByteArray) (x8 : Int) (x9 : Int) => alW (.cells ⟨[.int .i64 0, .string (⟨⟨[]⟩⟩ : ByteArray), .int .i64 0]⟩ 171 (0, 0)) (fun b10 => stW Tryz.prog 171 (.pointer (some ⟨b10, 0, none⟩)) (.agg ⟨[.int .i64 x6, .string x7, .int .i64 x8]⟩) (brW ((x9 : Int) != 0) (K (.int .i64 x9)) (rdT (rdC b10 2) kI (fun (x11 : Int) =>
 brW (decide ((x11 : Int) < 0)) (rdT (rdA 3 b10 0) (.one (.agg [(.int .i64), .str, (.int .i64)])) (fun (x12 : Int) (x13 : ByteArray) (x14 : Int) => callT Tryz.prog 128 [.pointer f_1, .agg ⟨[.int .i64 x12, .string x13, .int .i64 x14]⟩, .int .i64 1, .int .i64 420, .string data_4] kI (fun (x15 : Int) => K (.int .i64 x15)))) (ptrW f_1 (fun b16 o17 => rdT (rdC b16 (o17 + 2)) kL (fun x18 => rdT (rdC b10 2) kI (fun (x19 : Int) => ptrW x18.base (fun b20 o21 =>
 ifW (0 <= x19 /\ x19 < ((x18.len : Nat) : Int)) (rdT (rdC b20 (o21 + x19.toNat * 1)) kP (fun x22 => ptrW x22 (fun b23 o24 => rdT (rdC b23 o24) kI (fun (x25 : Int) => brW ((x25 : Int) == 2) (K (.int .i64 7)) (letJ (T := Option Addr -> ByteArray -> Option Addr -> H -> Prop) (fun f_27 data_28 x_29 => ptrW x_29 (fun b30 o31 => rdT (rdC b30 (o31 + 2)) kS (fun (x32 : ByteArray) =>
 callT Tryz.prog 129 [.pointer f_27, .int .i64 0, .int .i64 (IntKind.i64.wrap (((data_28.size : Nat) : Int) - ((x32.size : Nat) : Int)))] kB (fun x33 => brW (!x33) (K (.int .i64 10)) (ptrW x_29 (fun b34 o35 => stW Tryz.prog 9 (.pointer (some ⟨b34, o35 + 2, none⟩)) (.string data_28) (K (.int .i64 0)))))))) (fun j26 => brW more_5 (ptrW x22 (fun b36 o37 => rdT (rdC b36 (o37 + 2)) kS (fun (x38 : ByteArray) => ifW (x38.size + data_4.size <= 9223372036854775807) (j26 f_1 (x38 ++ data_4) x22))))
 (j26 f_1 data_4 x22)))))))))))))))))
theorem e64 (f_1 : Option Addr) (cwd_2 : ByteArray) (path_3 : ByteArray) (data_4 : ByteArray) (more_5 : Bool) (K : KH) : bodyF Tryz.prog tau Tryz.f64 an64 [.pointer f_1, .string cwd_2, .string path_3, .string data_4, .bool more_5] K = g64 f_1 cwd_2 path_3 data_4 more_5 K := by kernel_rfl
theorem c64 (f_1 : Option Addr) (cwd_2 : ByteArray) (path_3 : ByteArray) (data_4 : ByteArray) (more_5 : Bool) {K : KH} {σ : H} (h : g64 f_1 cwd_2 path_3 data_4 more_5 K σ) : callW Tryz.prog 64 [.pointer f_1, .string cwd_2, .string path_3, .string data_4, .bool more_5] K σ := call_of_body mixed Tryz.func64 (by rw [e64]; exact h)


def an65 : Ann := (.q (.q .z))
def g65 (p_1 : Sl) (K : KH) : H -> Prop :=
 callT Tryz.prog 131 [.slice p_1.base p_1.len p_1.cap] kL (fun x2 => callT Tryz.prog 130 [.slice x2.base x2.len x2.cap, .func (.func 132) ⟨[]⟩ ⟨[]⟩] kB (fun x3 => K (.bool x3)))
theorem e65 (p_1 : Sl) (K : KH) : bodyF Tryz.prog tau Tryz.f65 an65 [.slice p_1.base p_1.len p_1.cap] K = g65 p_1 K := by kernel_rfl
theorem c65 (p_1 : Sl) {K : KH} {σ : H} (h : g65 p_1 K σ) : callW Tryz.prog 65 [.slice p_1.base p_1.len p_1.cap] K σ := call_of_body mixed Tryz.func65 (by rw [e65]; exact h)


def an66 : Ann := (.q (.q (.q (.q .z))))
def g66 (seq_1 : Value) (K : KH) : H -> Prop :=
 callT Tryz.prog 133 [seq_1] kL (fun x2 => callT Tryz.prog 134 [.slice x2.base x2.len x2.cap] kU (K (.slice x2.base x2.len x2.cap)))
theorem e66 (seq_1 : Value) (K : KH) : bodyF Tryz.prog tau Tryz.f66 an66 [seq_1] K = g66 seq_1 K := by kernel_rfl
theorem c66 (seq_1 : Value) {K : KH} {σ : H} (h : g66 seq_1 K σ) : callW Tryz.prog 66 [seq_1] K σ := call_of_body mixed Tryz.func66 (by rw [e66]; exact h)


def an67 : Ann := (.q (.q .z))
def g67 (s_1 : Option Addr) (base_2 : ByteArray) (l_3 : Sl) (K : KH) : H -> Prop :=
 alW (.cells ⟨[.pointer s_1]⟩ 95 (0, 0)) (fun b4 => alW (.cells ⟨[.string base_2]⟩ 9 (0, 0)) (fun b5 => alW (.cells ⟨[.slice l_3.base l_3.len l_3.cap]⟩ 102 (0, 0)) (fun b6 => K (.func (.func 135) ⟨[]⟩ ⟨[.pointer (some ⟨b6, 0, none⟩), .pointer (some ⟨b5, 0, none⟩), .pointer (some ⟨b4, 0, none⟩)]⟩))))
theorem e67 (s_1 : Option Addr) (base_2 : ByteArray) (l_3 : Sl) (K : KH) : bodyF Tryz.prog tau Tryz.f67 an67 [.pointer s_1, .string base_2, .slice l_3.base l_3.len l_3.cap] K = g67 s_1 base_2 l_3 K := by kernel_rfl
theorem c67 (s_1 : Option Addr) (base_2 : ByteArray) (l_3 : Sl) {K : KH} {σ : H} (h : g67 s_1 base_2 l_3 K σ) : callW Tryz.prog 67 [.pointer s_1, .string base_2, .slice l_3.base l_3.len l_3.cap] K σ := call_of_body mixed Tryz.func67 (by rw [e67]; exact h)


def an68 : Ann := (.q (.q (.n (.q (.blk (.loop [(3,.l),(10,.l),(11,.i),(12,.i)] (.q (.n (.cond .z .z) (.n (.blk (.q (.q (.blk (.loop [(3,.l),(5,.p),(10,.l),(11,.i),(12,.i),(18,.i),(19,.i)] (.q (.n (.cond .z .z) (.n (.blk (.q (.q (.seq (some [(3,.l),(5,.p),(6,.i),(10,.l),(11,.i),(12,.i),(18,.i),(19,.i),(32,.w),(33,.w),(34,.w),(35,.w),(36,.w),(37,.w),(38,.w),(39,.w)]) (.q (.seq (some [(3,.l),(5,.p),(6,.i),(7,.b),(10,.l),(11,.i),(12,.i),(18,.i),(19,.i),(32,.w),(33,.w),(34,.w),(35,.w),(36,.w),(37,.w),(38,.w),(39,.w),(40,.b)]) .r (.cond .r .z))) (.q (.reg (rn 19) [[],[],[1],[1,2],[1,2,3],[],[5],[],[],[8],[5,6,7,8,9],[],[11],[5,6,7,8,9,10,11,12],[5,6,7,8,9,10,11,12,13],[1,2,3,4,5,6,7,8,9,10,11,12,13,14],(rn 16),(rn 17),(rn 18)])))))) .r)))))))) .r)))))) (.q .z))))
def g68 (r_1 : Sl) (K : KH) : H -> Prop :=
 loopW [.sc .slc, .sc .slc, .sc (.int .i64), .sc (.int .i64)] (fun (R2 : Sl -> Sl -> Int -> Int -> H -> Prop) => (fun (out_3 : Sl) (x4 : Sl) (x5 : Int) (x6 : Int) => brW (decide ((x6 : Int) < x5)) (ptrW x4.base (fun b7 o8 => ifW (0 <= x6 /\ x6 < ((x4.len : Nat) : Int)) (rdT (rdA 3 b7 (o8 + x6.toNat * 3)) (.one (.agg [.str, .bool, .bool])) (fun (x9 : ByteArray) (x10 : Bool) (x11 : Bool) => alW (.cells ⟨[.string (⟨⟨[]⟩⟩ : ByteArray), .bool false, .bool false]⟩ 29 (0, 0)) (fun b12 =>
 stW Tryz.prog 29 (.pointer (some ⟨b12, 0, none⟩)) (.agg ⟨[.string x9, .bool x10, .bool x11]⟩) (rdT (rdC b12 0) kS (fun (x13 : ByteArray) => loopW [.sc .slc, .sc .ptr, .sc .slc, .sc (.int .i64), .sc (.int .i64), .sc (.int .i64), .sc (.int .i64)] (fun (R14 : Sl -> Option Addr -> Sl -> Int -> Int -> Int -> Int -> H -> Prop) => (fun (out_15 : Sl) (x_16 : Option Addr) (x17 : Sl) (x18 : Int) (x19 : Int) (x20 : Int) (x21 : Int) => brW (decide ((x21 : Int) < x20)) (ptrW x_16 (fun b22 o23 =>
 rdT (rdC b22 o23) kS (fun (x24 : ByteArray) => idxW x24 x21 (fun c25 => letJ (T := Sl -> Option Addr -> Int -> Sl -> Int -> Int -> Int -> Int -> Value -> Value -> Value -> Value -> Value -> Value -> Value -> Value -> H -> Prop) (fun out_27 x_28 i_29 x30 x31 x32 x33 x34 _x35 _x36 _x37 _x38 _x39 _x40 _x41 _x42 => ptrW out_27.base (fun b43 o44 => ifW (0 <= IntKind.i64.wrap (((out_27.len : Nat) : Int) - 1) /\ IntKind.i64.wrap (((out_27.len : Nat) : Int) - 1) < ((out_27.len : Nat) : Int))
 (rdT (rdC b43 (o44 + (IntKind.i64.wrap (((out_27.len : Nat) : Int) - 1) : Int).toNat * 2)) kL (fun x45 => ptrW x_28 (fun b46 o47 => rdT (rdC b46 o47) kS (fun (x48 : ByteArray) => ifW (bndOk (some (IntKind.i64.wrap (i_29 + 1))) x48.size /\ bndOk (some i_29) ((IntKind.i64.wrap (i_29 + 1)).toNat)) (ptrW x_28 (fun b49 o50 => rdT (rdC b49 (o50 + 1)) kB (fun x51 => alW (.cells ⟨[.string (x48.extract i_29.toNat ((IntKind.i64.wrap (i_29 + 1)).toNat)), .bool x51, .bool false]⟩ 29 (0, 0)) (fun b52 =>
 biW Tryz.prog .append #[31, 31] 31 [false, false] [.slice x45.base x45.len x45.cap, .slice (some ⟨b52, 0, none⟩) 1 1] kL (fun x53 => stW Tryz.prog 31 (.pointer (some ⟨b43, o44 + (IntKind.i64.wrap (((out_27.len : Nat) : Int) - 1) : Int).toNat * 2, none⟩)) (.slice x53.base x53.len x53.cap) (R14 out_27 x_28 x30 x31 x32 x33 (IntKind.i64.wrap (x34 + 1)))))))))))))) (fun j26 =>
 letJ (T := Sl -> Option Addr -> Int -> Bool -> Sl -> Int -> Int -> Int -> Int -> Value -> Value -> Value -> Value -> Value -> Value -> Value -> Value -> Bool -> H -> Prop) (fun out_55 x_56 i_57 stroke_58 x59 x60 x61 x62 x63 x64 x65 x66 x67 x68 x69 x70 x71 x72 => brW x72 (alW (.cells ⟨[.slice none 0 0, .bool stroke_58]⟩ 186 (0, 0)) (fun b73 => biW Tryz.prog .append #[102, 102] 102 [false, false] [.slice out_55.base out_55.len out_55.cap, .slice (some ⟨b73, 0, none⟩) 1 1] kL (fun x74 =>
 j26 x74 x_56 i_57 x59 x60 x61 x62 x63 x64 x65 x66 x67 x68 x69 x70 x71))) (j26 out_55 x_56 i_57 x59 x60 x61 x62 x63 x64 x65 x66 x67 x68 x69 x70 x71)) (fun j54 => brW ((((out_15.len : Nat) : Int) : Int) == 0) (j54 out_15 x_16 x21 (((c25.toNat : Int) : Int) == 47) x17 x18 x19 x20 x21 (.tuple ⟨[]⟩) (.tuple ⟨[]⟩) (.tuple ⟨[]⟩) (.tuple ⟨[]⟩) (.tuple ⟨[]⟩) (.tuple ⟨[]⟩) (.tuple ⟨[]⟩) (.tuple ⟨[]⟩) true) (ptrW out_15.base (fun b75 o76 =>
 ifW (0 <= IntKind.i64.wrap (((out_15.len : Nat) : Int) - 1) /\ IntKind.i64.wrap (((out_15.len : Nat) : Int) - 1) < ((out_15.len : Nat) : Int)) (rdT (rdC b75 (o76 + (IntKind.i64.wrap (((out_15.len : Nat) : Int) - 1) : Int).toNat * 2 + 1)) kB (fun x77 =>
 j54 out_15 x_16 x21 (((c25.toNat : Int) : Int) == 47) x17 x18 x19 x20 x21 (.slice out_15.base out_15.len out_15.cap) (.int .i64 ((out_15.len : Nat) : Int)) (.int .i64 (IntKind.i64.wrap (((out_15.len : Nat) : Int) - 1))) (.pointer (some ⟨b75, o76 + (IntKind.i64.wrap (((out_15.len : Nat) : Int) - 1) : Int).toNat * 2, none⟩)) (.pointer (some ⟨b75, o76 + (IntKind.i64.wrap (((out_15.len : Nat) : Int) - 1) : Int).toNat * 2 + 1, none⟩)) (.bool x77) (.bool (((c25.toNat : Int) : Int) == 47)) (.bool (!(x77 == (((c25.toNat : Int) : Int) == 47)))) (!(x77 == (((c25.toNat : Int) : Int) == 47)))))))))))))
 (R2 out_15 x17 x18 (IntKind.i64.wrap (x19 + 1))))) (fun (R78 : Sl -> Option Addr -> Sl -> Int -> Int -> Int -> Int -> H -> Prop) => R78 out_3 (some ⟨b12, 0, none⟩) x4 x5 x6 ((x13.size : Nat) : Int) 0)))))))) (K (.slice out_3.base out_3.len out_3.cap)))) (fun (R79 : Sl -> Sl -> Int -> Int -> H -> Prop) => R79 ⟨none, 0, 0⟩ r_1 ((r_1.len : Nat) : Int) 0)
theorem e68 (r_1 : Sl) (K : KH) : bodyF Tryz.prog tau Tryz.f68 an68 [.slice r_1.base r_1.len r_1.cap] K = g68 r_1 K := by kernel_rfl
theorem c68 (r_1 : Sl) {K : KH} {σ : H} (h : g68 r_1 K σ) : callW Tryz.prog 68 [.slice r_1.base r_1.len r_1.cap] K σ := call_of_body mixed Tryz.func68 (by rw [e68]; exact h)


def an69 : Ann := (.q (.q (.n (.q (.h)) (.n (.reg (rn 13) [[],[0],[0,1],[0,1,2],[],[4],(rn 6),(rn 7),(rn 8),(rn 8),[],[0,1,2,3,4,5,6,7,8,10],(rn 12)]) (.n (.seq (some [(4,.w),(11,.p),(13,.p),(42,.b)]) .r (.h)) (.q .z))))))
def g69 (f_1 : Option Addr) (cwd_2 : ByteArray) (path_3 : ByteArray) (follow_4 : Bool) (do_5 : Value) (K : KH) : H -> Prop :=
 callT Tryz.prog 98 [.pointer f_1, .string cwd_2, .string path_3, .bool follow_4] (.tup [.agg [(.int .i64), .str, (.int .i64), .bool], .sc (.int .i64)]) (fun (x6 : Int) (x7 : ByteArray) (x8 : Int) (x9 : Bool) (x10 : Int) => alW (.cells ⟨[.int .i64 0, .string (⟨⟨[]⟩⟩ : ByteArray), .int .i64 0, .bool false]⟩ 142 (0, 0)) (fun b11 => stW Tryz.prog 142 (.pointer (some ⟨b11, 0, none⟩)) (.agg ⟨[.int .i64 x6, .string x7, .int .i64 x8, .bool x9]⟩) (brW ((x10 : Int) != 0) (K (.int .i64 x10))
 (ptrW f_1 (fun b12 o13 => rdT (rdC b12 o13) kP (fun x14 => rdT (rdC b11 2) kI (fun (x15 : Int) => callT Tryz.prog 99 [.pointer x14, .int .i64 x15] (.tup [.agg [(.int .i64), (.int .i64), .str, (.int .i64)], .sc .bool]) (fun (x16 : Int) (x17 : Int) (x18 : ByteArray) (x19 : Int) (x20 : Bool) => alW (.cells ⟨[.int .i64 0, .int .i64 0, .string (⟨⟨[]⟩⟩ : ByteArray), .int .i64 0]⟩ 35 (0, 0)) (fun b21 =>
 stW Tryz.prog 35 (.pointer (some ⟨b21, 0, none⟩)) (.agg ⟨[.int .i64 x16, .int .i64 x17, .string x18, .int .i64 x19]⟩) (letJ (T := Value -> Option Addr -> Option Addr -> Bool -> H -> Prop) (fun do_23 p_24 n_25 x26 => brW x26 (K (.int .i64 5)) (ptrW p_24 (fun b27 o28 => rdT (rdC b27 (o28 + 2)) kI (fun (x29 : Int) => ptrW n_25 (fun b30 o31 => rdT (rdA 4 b30 o31) (.one (.agg [(.int .i64), (.int .i64), .str, (.int .i64)])) (fun (x32 : Int) (x33 : Int) (x34 : ByteArray) (x35 : Int) =>
 cvalT Tryz.prog do_23 [.int .i64 x29, .agg ⟨[.int .i64 x32, .int .i64 x33, .string x34, .int .i64 x35]⟩] kI (fun (x36 : Int) => K (.int .i64 x36)))))))) (fun j22 => rdT (rdC b11 3) kB (fun x37 => brW (!x37) (j22 do_5 (some ⟨b11, 0, none⟩) (some ⟨b21, 0, none⟩) true) (j22 do_5 (some ⟨b11, 0, none⟩) (some ⟨b21, 0, none⟩) (!x20))))))))))))))
theorem e69 (f_1 : Option Addr) (cwd_2 : ByteArray) (path_3 : ByteArray) (follow_4 : Bool) (do_5 : Value) (K : KH) : bodyF Tryz.prog tau Tryz.f69 an69 [.pointer f_1, .string cwd_2, .string path_3, .bool follow_4, do_5] K = g69 f_1 cwd_2 path_3 follow_4 do_5 K := by kernel_rfl
theorem c69 (f_1 : Option Addr) (cwd_2 : ByteArray) (path_3 : ByteArray) (follow_4 : Bool) (do_5 : Value) {K : KH} {σ : H} (h : g69 f_1 cwd_2 path_3 follow_4 do_5 K σ) : callW Tryz.prog 69 [.pointer f_1, .string cwd_2, .string path_3, .bool follow_4, do_5] K σ := call_of_body mixed Tryz.func69 (by rw [e69]; exact h)


def an70 : Ann := (.q (.q (.q .z)))
def g70 (__1 : Int) (n_2 : Int) (n_3 : Int) (n_4 : ByteArray) (n_5 : Int) (x6 : Option Addr) (K : KH) : H -> Prop :=
 alW (.cells ⟨[.int .i64 n_2, .int .i64 n_3, .string n_4, .int .i64 n_5]⟩ 35 (0, 0)) (fun b7 => rdT (rdA 4 b7 0) (.one (.agg [(.int .i64), (.int .i64), .str, (.int .i64)])) (fun (x8 : Int) (x9 : Int) (x10 : ByteArray) (x11 : Int) => stW Tryz.prog 35 (.pointer x6) (.agg ⟨[.int .i64 x8, .int .i64 x9, .string x10, .int .i64 x11]⟩) (K (.int .i64 0))))
theorem e70 (__1 : Int) (n_2 : Int) (n_3 : Int) (n_4 : ByteArray) (n_5 : Int) (x6 : Option Addr) (K : KH) : bodyF Tryz.prog tau Tryz.f70 an70 [.int .i64 __1, .agg ⟨[.int .i64 n_2, .int .i64 n_3, .string n_4, .int .i64 n_5]⟩, .pointer x6] K = g70 __1 n_2 n_3 n_4 n_5 x6 K := by kernel_rfl
theorem c70 (__1 : Int) (n_2 : Int) (n_3 : Int) (n_4 : ByteArray) (n_5 : Int) (x6 : Option Addr) {K : KH} {σ : H} (h : g70 __1 n_2 n_3 n_4 n_5 x6 K σ) : callW Tryz.prog 70 [.int .i64 __1, .agg ⟨[.int .i64 n_2, .int .i64 n_3, .string n_4, .int .i64 n_5]⟩, .pointer x6] K σ := call_of_body mixed Tryz.func70 (by rw [e70]; exact h)


def an71 : Ann := (.q (.q .z))
def g71 (s_1 : ByteArray) (substr_2 : ByteArray) (K : KH) : H -> Prop :=
 callT Tryz.prog 137 [.string s_1, .string substr_2] kI (fun (x3 : Int) => K (.int .i64 x3))
theorem e71 (s_1 : ByteArray) (substr_2 : ByteArray) (K : KH) : bodyF Tryz.prog tau Tryz.f71 an71 [.string s_1, .string substr_2] K = g71 s_1 substr_2 K := by kernel_rfl
theorem c71 (s_1 : ByteArray) (substr_2 : ByteArray) {K : KH} {σ : H} (h : g71 s_1 substr_2 K σ) : callW Tryz.prog 71 [.string s_1, .string substr_2] K σ := call_of_body mixed Tryz.func71 (by rw [e71]; exact h)


def an72 : Ann := (.q (.n (.q (.h)) (.q (.q .z))))
def g72 (ino_1 : Int) (n_2 : Int) (n_3 : Int) (n_4 : ByteArray) (n_5 : Int) (x6 : Option Addr) (x7 : Option Addr) (K : KH) : H -> Prop :=
 alW (.cells ⟨[.int .i64 n_2, .int .i64 n_3, .string n_4, .int .i64 n_5]⟩ 35 (0, 0)) (fun b8 => rdT (rdC b8 0) kI (fun (x9 : Int) => brW ((x9 : Int) != 2) (K (.int .i64 8)) (ptrW x6 (fun b10 o11 => rdT (rdC b10 o11) kP (fun x12 => ptrW x12 (fun b13 o14 => rdT (rdC b13 o14) kP (fun x15 => callT Tryz.prog 73 [.pointer x15, .int .i64 ino_1] kL (fun x16 => stW Tryz.prog 22 (.pointer x7) (.slice x16.base x16.len x16.cap) (K (.int .i64 0))))))))))
theorem e72 (ino_1 : Int) (n_2 : Int) (n_3 : Int) (n_4 : ByteArray) (n_5 : Int) (x6 : Option Addr) (x7 : Option Addr) (K : KH) : bodyF Tryz.prog tau Tryz.f72 an72 [.int .i64 ino_1, .agg ⟨[.int .i64 n_2, .int .i64 n_3, .string n_4, .int .i64 n_5]⟩, .pointer x6, .pointer x7] K = g72 ino_1 n_2 n_3 n_4 n_5 x6 x7 K := by kernel_rfl
theorem c72 (ino_1 : Int) (n_2 : Int) (n_3 : Int) (n_4 : ByteArray) (n_5 : Int) (x6 : Option Addr) (x7 : Option Addr) {K : KH} {σ : H} (h : g72 ino_1 n_2 n_3 n_4 n_5 x6 x7 K σ) : callW Tryz.prog 72 [.int .i64 ino_1, .agg ⟨[.int .i64 n_2, .int .i64 n_3, .string n_4, .int .i64 n_5]⟩, .pointer x6, .pointer x7] K σ := call_of_body mixed Tryz.func72 (by rw [e72]; exact h)


def an73 : Ann := (.q (.q (.n (.q (.h)) (.q .z))))
def g73 (t_1 : Option Addr) (dir_2 : Int) (K : KH) : H -> Prop :=
 callT Tryz.prog 138 [.pointer t_1, .int .i64 dir_2] kP (fun x3 => brW x3.isNone (K (.slice none 0 0)) (ptrW x3 (fun b4 o5 => rdT (rdC b4 (o5 + 5)) kM (fun (x6 : Option Nat) => callT Tryz.prog 139 [.map x6] kR (fun x7 => callT Tryz.prog 66 [x7] kL (fun x8 => K (.slice x8.base x8.len x8.cap)))))))
theorem e73 (t_1 : Option Addr) (dir_2 : Int) (K : KH) : bodyF Tryz.prog tau Tryz.f73 an73 [.pointer t_1, .int .i64 dir_2] K = g73 t_1 dir_2 K := by kernel_rfl
theorem c73 (t_1 : Option Addr) (dir_2 : Int) {K : KH} {σ : H} (h : g73 t_1 dir_2 K σ) : callW Tryz.prog 73 [.pointer t_1, .int .i64 dir_2] K σ := call_of_body mixed Tryz.func73 (by rw [e73]; exact h)

end Go.Proofs.YtbjbeajbckcecaaGreatDoor

set_option maxRecDepth 100000
namespace Go.Proofs.YtbjbeajbckcecaaGreatDoor
open Go Go.HL
def an74 : Ann := (.q (.n (.q (.blk (.loop [(2,.p),(6,.l),(7,.i),(8,.i)] (.q (.n (.cond .z .z) (.seq (some [(2,.p),(6,.l),(7,.i),(8,.i),(17,.w),(18,.w),(21,.w),(22,.w)]) (.blk (.q (.q (.seq (some [(2,.p),(4,.sc (.int .u8)),(6,.l),(7,.i),(8,.i),(17,.w),(18,.w),(21,.w),(22,.w),(23,.b)]) .r (.cond .r .z))))) .r)))))) (.q .z)))
def g74 (ifs_1 : ByteArray) (K : KH) : H -> Prop :=
 alW (.cells ⟨[.int .i64 0, .int .i64 0, .int .i64 0, .int .i64 0, .int .i64 0, .int .i64 0, .int .i64 0, .int .i64 0, .int .i64 0, .int .i64 0, .int .i64 0, .int .i64 0, .int .i64 0, .int .i64 0, .int .i64 0, .int .i64 0, .int .i64 0, .int .i64 0, .int .i64 0, .int .i64 0, .int .i64 0, .int .i64 0, .int .i64 0, .int .i64 0, .int .i64 0, .int .i64 0, .int .i64 0, .int .i64 0, .int .i64 0, .int .i64 0, .int .i64 0, .int .i64 0, .int .i64 0, .int .i64 0, .int .i64 0, .int .i64 0, .int .i64 0, .int .i64 0, .int .i64 0, .int .i64 0, .int .i64 0, .int .i64 0, .int .i64 0, .int .i64 0, .int .i64 0, .int .i64 0, .int .i64 0, .int .i64 0, .int .i64 0, .int .i64 0, .int .i64 0, .int .i64 0, .int .i64 0, .int .i64 0, .int .i64 0, .int .i64 0, .int .i64 0, .int .i64 0, .int .i64 0, .int .i64 0, .int .i64 0, .int .i64 0, .int .i64 0, .int .i64 0, .int .i64 0, .int .i64 0, .int .i64 0, .int .i64 0, .int .i64 0, .int .i64 0, .int .i64 0, .int .i64 0, .int .i64 0, .int .i64 0, .int .i64 0, .int .i64 0, .int .i64 0, .int .i64 0, .int .i64 0, .int .i64 0, .int .i64 0, .int .i64 0, .int .i64 0, .int .i64 0, .int .i64 0, .int .i64 0, .int .i64 0, .int .i64 0, .int .i64 0, .int .i64 0, .int .i64 0, .int .i64 0, .int .i64 0, .int .i64 0, .int .i64 0, .int .i64 0, .int .i64 0, .int .i64 0, .int .i64 0, .int .i64 0, .int .i64 0, .int .i64 0, .int .i64 0, .int .i64 0, .int .i64 0, .int .i64 0, .int .i64 0, .int .i64 0, .int .i64 0, .int .i64 0, .int .i64 0, .int .i64 0, .int .i64 0, .int .i64 0, .int .i64 0, .int .i64 0, .int .i64 0, .int .i64 0, .int .i64 0, .int .i64 0, .int .i64 0, .int .i64 0, .int .i64 0, .int .i64 0, .int .i64 0, .int .i64 0, .int .i64 0, .int .i64 0, .int .i64 0, .int .i64 0, .int .i64 0, .int .i64 0, .int .i64 0, .int .i64 0, .int .i64 0, .int .i64 0, .int .i64 0, .int .i64 0, .int .i64 0, .int .i64 0, .int .i64 0, .int .i64 0, .int .i64 0, .int .i64 0, .int .i64 0, .int .i64 0, .int .i64 0, .int .i64 0, .int .i64 0, .int .i64 0, .int .i64 0, .int .i64 0, .int .i64 0, .int .i64 0, .int .i64 0, .int .i64 0, .int .i64 0, .int .i64 0, .int .i64 0, .int .i64 0, .int .i64 0, .int .i64 0, .int .i64 0, .int .i64 0, .int .i64 0, .int .i64 0, .int .i64 0, .int .i64 0, .int .i64 0, .int .i64 0, .int .i64 0, .int .i64 0, .int .i64 0, .int .i64 0, .int .i64 0, .int .i64 0, .int .i64 0, .int .i64 0, .int .i64 0, .int .i64 0, .int .i64 0, .int .i64 0, .int .i64 0, .int .i64 0, .int .i64 0, .int .i64 0, .int .i64 0, .int .i64 0, .int .i64 0, .int .i64 0, .int .i64 0, .int .i64 0, .int .i64 0, .int .i64 0, .int .i64 0, .int .i64 0, .int .i64 0, .int .i64 0, .int .i64 0, .int .i64 0, .int .i64 0, .int .i64 0, .int .i64 0, .int .i64 0, .int .i64 0, .int .i64 0, .int .i64 0, .int .i64 0, .int .i64 0, .int .i64 0, .int .i64 0, .int .i64 0, .int .i64 0, .int .i64 0, .int .i64 0, .int .i64 0, .int .i64 0, .int .i64 0, .int .i64 0, .int .i64 0, .int .i64 0, .int .i64 0, .int .i64 0, .int .i64 0, .int .i64 0, .int .i64 0, .int .i64 0, .int .i64 0, .int .i64 0, .int .i64 0, .int .i64 0, .int .i64 0, .int .i64 0, .int .i64 0, .int .i64 0, .int .i64 0, .int .i64 0, .int .i64 0, .int .i64 0, .int .i64 0, .int .i64 0, .int .i64 0, .int .i64 0, .int .i64 0, .int .i64 0, .int .i64 0, .int .i64 0, .int .i64 0, .int .i64 0, .int .i64 0, .int .i64 0, .int .i64 0, .int .i64 0, .int .i64 0, .int .i64 0, .int .i64 0]⟩ 111 (0, 0)) (fun b2 =>
 vaW Tryz.prog (convert 9 56 (.string ifs_1)) kL (fun x3 => loopW [.sc .ptr, .sc .slc, .sc (.int .i64), .sc (.int .i64)] (fun (R4 : Option Addr -> Sl -> Int -> Int -> H -> Prop) => (fun (out_5 : Option Addr) (x6 : Sl) (x7 : Int) (x8 : Int) => brW (decide ((x8 : Int) < x7)) (letJ (T := Option Addr -> Sl -> Int -> Int -> Value -> Value -> Value -> Value -> H -> Prop) (fun out_10 x11 x12 x13 _x14 _x15 _x16 _x17 => R4 out_10 x11 x12 (IntKind.i64.wrap (x13 + 1))) (fun j9 => ptrW x6.base (fun b18 o19 =>
 ifW (0 <= x8 /\ x8 < ((x6.len : Nat) : Int)) (rdT (rdC b18 (o19 + x8.toNat * 1)) kC (fun (x20 : Int) => ptrW out_5 (fun b21 o22 => ifW (0 <= x20 /\ x20 < ((256 : Nat) : Int)) (stW Tryz.prog 3 (.pointer (some ⟨b21, o22 + x20.toNat * 1, none⟩)) (.int .i64 2) (letJ (T := Option Addr -> Int -> Sl -> Int -> Int -> Value -> Value -> Value -> Value -> Bool -> H -> Prop) (fun out_24 c_25 x26 x27 x28 x29 x30 x31 x32 x33 => brW x33 (ptrW out_24 (fun b34 o35 => ifW (0 <= c_25 /\ c_25 < ((256 : Nat) : Int))
 (stW Tryz.prog 3 (.pointer (some ⟨b34, o35 + c_25.toNat * 1, none⟩)) (.int .i64 1) (j9 out_24 x26 x27 x28 x29 x30 x31 x32)))) (j9 out_24 x26 x27 x28 x29 x30 x31 x32)) (fun j23 => brW ((x20 : Int) == 32) (j23 out_5 x20 x6 x7 x8 (.tuple ⟨[]⟩) (.tuple ⟨[]⟩) (.tuple ⟨[]⟩) (.tuple ⟨[]⟩) true) (brW ((x20 : Int) == 9) (j23 out_5 x20 x6 x7 x8 (.int .u8 x20) (.bool ((x20 : Int) == 9)) (.tuple ⟨[]⟩) (.tuple ⟨[]⟩) true)
 (j23 out_5 x20 x6 x7 x8 (.int .u8 x20) (.bool ((x20 : Int) == 9)) (.int .u8 x20) (.bool ((x20 : Int) == 10)) ((x20 : Int) == 10)))))))))))) (ptrW out_5 (fun b36 o37 => rdT (rdA 256 b36 o37) kR (fun x38 => stW Tryz.prog 111 (.pointer out_5) (x38) (ptrW out_5 (fun b39 o40 => rdT (rdA 256 b39 o40) kR (fun r41 => K (r41))))))))) (fun (R42 : Option Addr -> Sl -> Int -> Int -> H -> Prop) => R42 (some ⟨b2, 0, none⟩) x3 ((x3.len : Nat) : Int) 0)))
theorem e74 (ifs_1 : ByteArray) (K : KH) : bodyF Tryz.prog tau Tryz.f74 an74 [.string ifs_1] K = g74 ifs_1 K := by kernel_rfl
theorem c74 (ifs_1 : ByteArray) {K : KH} {σ : H} (h : g74 ifs_1 K σ) : callW Tryz.prog 74 [.string ifs_1] K σ := call_of_body mixed Tryz.func74 (by rw [e74]; exact h)


def an75 : Ann := (.q (.q (.q (.q (.q (.q (.n (.q (.blk (.loop [(1,.p),(5,.p),(7,.p),(8,.p),(9,.w),(10,.w),(17,.l),(18,.i),(19,.i)] (.q (.n (.cond .z .z) (.seq (some [(1,.p),(5,.p),(7,.p),(8,.p),(9,.w),(10,.w),(17,.l),(18,.i),(19,.i),(26,.w),(27,.w),(28,.w)]) (.blk (.q (.n (.seq (some [(1,.p),(5,.p),(7,.p),(8,.p),(9,.w),(10,.w),(12,.p),(17,.l),(18,.i),(19,.i),(26,.w),(27,.w),(28,.w),(29,.b)]) .r (.cond (.n (.seq (some [(1,.p),(5,.p),(7,.p),(8,.p),(9,.w),(10,.w),(12,.p),(17,.l),(18,.i),(19,.i),(26,.w),(27,.w),(28,.w),(33,.w),(34,.w),(35,.w),(36,.b)]) .r (.cond .r .z)) .z) .z)) (.q (.blk (.loop [(1,.p),(5,.p),(7,.p),(8,.p),(9,.w),(10,.w),(12,.p),(17,.l),(18,.i),(19,.i),(26,.w),(27,.w),(28,.w),(42,.i),(43,.i)] (.q (.n (.cond .z .z) (.seq (some [(1,.p),(5,.p),(7,.p),(8,.p),(9,.w),(10,.w),(12,.p),(17,.l),(18,.i),(19,.i),(26,.w),(27,.w),(28,.w),(42,.i),(43,.i)]) (.blk (.q (.n (.reg (rn 9) [[],[],[1],[],[1,2,3],[0],(rn 6),(rn 7),(rn 8)]) (.blk (.q (.cond .r (.q (.cond (.q .r) (.q (.cond .z (.q (.cond .r .r)))))))))))) .r))))))))) .r)))))) (.seq (some [(5,.p)]) (.q (.cond .r .z)) (.q .z)))))))))
def g75 (l_1 : Sl) (class_2 : Option Addr) (K : KH) : H -> Prop :=
 alW (.cells ⟨[.slice none 0 0]⟩ 44 (0, 0)) (fun b3 => alW (.cells ⟨[.slice none 0 0]⟩ 31 (0, 0)) (fun b4 => alW (.cells ⟨[.bool false]⟩ 4 (0, 0)) (fun b5 => alW (.cells ⟨[.bool false]⟩ 4 (0, 0)) (fun b6 =>
 stW Tryz.prog 4 (.pointer (some ⟨b5, 0, none⟩)) (.bool true) (stW Tryz.prog 4 (.pointer (some ⟨b6, 0, none⟩)) (.bool false) (loopW [.sc .ptr, .sc .ptr, .sc .ptr, .sc .ptr, .sc .raw, .sc .raw, .sc .slc, .sc (.int .i64), .sc (.int .i64)] (fun (R7 : Option Addr -> Option Addr -> Option Addr -> Option Addr -> Value -> Value -> Sl -> Int -> Int -> H -> Prop) => (fun (class_8 : Option Addr) (out_9 : Option Addr) (bare_10 : Option Addr) (behind_11 : Option Addr) (gather_12 : Value) (end_13 : Value) (x14 : Sl) (x15 : Int) (x16 : Int) =>
 brW (decide ((x16 : Int) < x15)) (letJ (T := Option Addr -> Option Addr -> Option Addr -> Option Addr -> Value -> Value -> Sl -> Int -> Int -> Value -> Value -> Value -> H -> Prop) (fun class_18 out_19 bare_20 behind_21 gather_22 end_23 x24 x25 x26 _x27 _x28 _x29 => R7 class_18 out_19 bare_20 behind_21 gather_22 end_23 x24 x25 (IntKind.i64.wrap (x26 + 1))) (fun j17 => ptrW x14.base (fun b30 o31 => ifW (0 <= x16 /\ x16 < ((x14.len : Nat) : Int))
 (rdT (rdA 3 b30 (o31 + x16.toNat * 3)) (.one (.agg [.str, .bool, .bool])) (fun (x32 : ByteArray) (x33 : Bool) (x34 : Bool) => alW (.cells ⟨[.string (⟨⟨[]⟩⟩ : ByteArray), .bool false, .bool false]⟩ 29 (0, 0)) (fun b35 =>
 stW Tryz.prog 29 (.pointer (some ⟨b35, 0, none⟩)) (.agg ⟨[.string x32, .bool x33, .bool x34]⟩) (letJ (T := Option Addr -> Option Addr -> Option Addr -> Option Addr -> Value -> Value -> Option Addr -> Sl -> Int -> Int -> Value -> Value -> Value -> Bool -> H -> Prop) (fun class_37 out_38 bare_39 behind_40 gather_41 end_42 r_43 x44 x45 x46 x47 x48 x49 x50 => brW x50
 (letJ (T := Option Addr -> Option Addr -> Option Addr -> Option Addr -> Value -> Value -> Option Addr -> Sl -> Int -> Int -> Value -> Value -> Value -> Value -> Value -> Value -> Bool -> H -> Prop) (fun class_52 out_53 bare_54 behind_55 gather_56 end_57 r_58 x59 x60 x61 x62 x63 x64 _x65 _x66 _x67 x68 => brW x68 (ptrW r_58 (fun b69 o70 => rdT (rdA 3 b69 o70) (.one (.agg [.str, .bool, .bool])) (fun (x71 : ByteArray) (x72 : Bool) (x73 : Bool) =>
 cvalT Tryz.prog gather_56 [.agg ⟨[.string x71, .bool x72, .bool x73]⟩] kU (j17 class_52 out_53 bare_54 behind_55 gather_56 end_57 x59 x60 x61 x62 x63 x64)))) (j17 class_52 out_53 bare_54 behind_55 gather_56 end_57 x59 x60 x61 x62 x63 x64)) (fun j51 => ptrW r_43 (fun b74 o75 => rdT (rdC b74 (o75 + 1)) kB (fun x76 => brW x76 (j51 class_37 out_38 bare_39 behind_40 gather_41 end_42 r_43 x44 x45 x46 x47 x48 x49 (.tuple ⟨[]⟩) (.tuple ⟨[]⟩) (.tuple ⟨[]⟩) true) (ptrW r_43 (fun b77 o78 =>
 rdT (rdC b77 o78) kS (fun (x79 : ByteArray) => j51 class_37 out_38 bare_39 behind_40 gather_41 end_42 r_43 x44 x45 x46 x47 x48 x49 (.pointer (some ⟨b77, o78, none⟩)) (.string x79) (.bool (!strEq x79 (⟨⟨[]⟩⟩ : ByteArray))) (!strEq x79 (⟨⟨[]⟩⟩ : ByteArray))))))))) (ptrW r_43 (fun b80 o81 => rdT (rdC b80 o81) kS (fun (x82 : ByteArray) =>
 loopW [.sc .ptr, .sc .ptr, .sc .ptr, .sc .ptr, .sc .raw, .sc .raw, .sc .ptr, .sc .slc, .sc (.int .i64), .sc (.int .i64), .sc .raw, .sc .raw, .sc .raw, .sc (.int .i64), .sc (.int .i64)] (fun (R83 : Option Addr -> Option Addr -> Option Addr -> Option Addr -> Value -> Value -> Option Addr -> Sl -> Int -> Int -> Value -> Value -> Value -> Int -> Int -> H -> Prop) => (fun (class_84 : Option Addr) (out_85 : Option Addr) (bare_86 : Option Addr) (behind_87 : Option Addr) (gather_88 : Value) (end_89 : Value) (r_90 : Option Addr) (x91 : Sl) (x92 : Int) (x93 : Int) (x94 : Value) (x95 : Value) (x96 : Value) (x97 : Int) (x98 : Int) =>
 brW (decide ((x98 : Int) < x97)) (letJ (T := Option Addr -> Option Addr -> Option Addr -> Option Addr -> Value -> Value -> Option Addr -> Sl -> Int -> Int -> Value -> Value -> Value -> Int -> Int -> H -> Prop) (fun class_100 out_101 bare_102 behind_103 gather_104 end_105 r_106 x107 x108 x109 x110 x111 x112 x113 x114 => R83 class_100 out_101 bare_102 behind_103 gather_104 end_105 r_106 x107 x108 x109 x110 x111 x112 x113 (IntKind.i64.wrap (x114 + 1))) (fun j99 => ptrW r_90 (fun b115 o116 =>
 rdT (rdC b115 o116) kS (fun (x117 : ByteArray) => idxW x117 x98 (fun c118 => ptrW class_84 (fun b119 o120 => ifW (0 <= (c118.toNat : Int) /\ (c118.toNat : Int) < ((256 : Nat) : Int)) (rdT (rdC b119 (o120 + ((c118.toNat : Int) : Int).toNat * 1)) kI (fun (x121 : Int) => brW ((x121 : Int) == 0) (ptrW r_90 (fun b122 o123 => rdT (rdC b122 o123) kS (fun (x124 : ByteArray) => ifW (bndOk (some (IntKind.i64.wrap (x98 + 1))) x124.size /\ bndOk (some x98) ((IntKind.i64.wrap (x98 + 1)).toNat))
 (cvalT Tryz.prog gather_88 [.agg ⟨[.string (x124.extract x98.toNat ((IntKind.i64.wrap (x98 + 1)).toNat)), .bool false, .bool true]⟩] kU (j99 class_84 out_85 bare_86 behind_87 gather_88 end_89 r_90 x91 x92 x93 x94 x95 x96 x97 x98))))) (ptrW bare_86 (fun b125 o126 => rdT (rdC b125 o126) kB (fun x127 => brW (!x127)
 (cvalT Tryz.prog end_89 [] kU (stW Tryz.prog 4 (.pointer behind_87) (.bool ((x121 : Int) == 1)) (j99 class_84 out_85 bare_86 behind_87 gather_88 end_89 r_90 x91 x92 x93 x94 x95 x96 x97 x98))) (brW ((x121 : Int) == 1) (j99 class_84 out_85 bare_86 behind_87 gather_88 end_89 r_90 x91 x92 x93 x94 x95 x96 x97 x98) (ptrW behind_87 (fun b128 o129 => rdT (rdC b128 o129) kB (fun x130 => brW x130
 (stW Tryz.prog 4 (.pointer behind_87) (.bool false) (j99 class_84 out_85 bare_86 behind_87 gather_88 end_89 r_90 x91 x92 x93 x94 x95 x96 x97 x98)) (cvalT Tryz.prog end_89 [] kU (j99 class_84 out_85 bare_86 behind_87 gather_88 end_89 r_90 x91 x92 x93 x94 x95 x96 x97 x98)))))))))))))))))
 (j17 class_84 out_85 bare_86 behind_87 gather_88 end_89 x91 x92 x93 x94 x95 x96))) (fun (R131 : Option Addr -> Option Addr -> Option Addr -> Option Addr -> Value -> Value -> Option Addr -> Sl -> Int -> Int -> Value -> Value -> Value -> Int -> Int -> H -> Prop) => R131 class_37 out_38 bare_39 behind_40 gather_41 end_42 r_43 x44 x45 x46 x47 x48 x49 ((x82.size : Nat) : Int) 0))))) (fun j36 => rdT (rdC b35 1) kB (fun x132 => brW x132
 (j36 class_8 out_9 bare_10 behind_11 gather_12 end_13 (some ⟨b35, 0, none⟩) x14 x15 x16 (.tuple ⟨[]⟩) (.tuple ⟨[]⟩) (.tuple ⟨[]⟩) true) (rdT (rdC b35 2) kB (fun x133 => j36 class_8 out_9 bare_10 behind_11 gather_12 end_13 (some ⟨b35, 0, none⟩) x14 x15 x16 (.pointer (some ⟨b35, 2, none⟩)) (.bool x133) (.bool (!x133)) (!x133)))))))))))) (letJ (T := Option Addr -> H -> Prop) (fun out_135 => ptrW out_135 (fun b136 o137 => rdT (rdC b136 o137) kL (fun x138 =>
 K (.slice x138.base x138.len x138.cap)))) (fun j134 => ptrW bare_10 (fun b139 o140 => rdT (rdC b139 o140) kB (fun x141 => brW (!x141) (cvalT Tryz.prog end_13 [] kU (j134 out_9))
 (j134 out_9))))))) (fun (R142 : Option Addr -> Option Addr -> Option Addr -> Option Addr -> Value -> Value -> Sl -> Int -> Int -> H -> Prop) => R142 class_2 (some ⟨b3, 0, none⟩) (some ⟨b5, 0, none⟩) (some ⟨b6, 0, none⟩) (.func (.func 140) ⟨[]⟩ ⟨[.pointer (some ⟨b4, 0, none⟩), .pointer (some ⟨b5, 0, none⟩), .pointer (some ⟨b6, 0, none⟩)]⟩) (.func (.func 141) ⟨[]⟩ ⟨[.pointer (some ⟨b3, 0, none⟩), .pointer (some ⟨b4, 0, none⟩), .pointer (some ⟨b5, 0, none⟩)]⟩) l_1 ((l_1.len : Nat) : Int) 0)))))))
theorem e75 (l_1 : Sl) (class_2 : Option Addr) (K : KH) : bodyF Tryz.prog tau Tryz.f75 an75 [.slice l_1.base l_1.len l_1.cap, .pointer class_2] K = g75 l_1 class_2 K := by kernel_rfl
theorem c75 (l_1 : Sl) (class_2 : Option Addr) {K : KH} {σ : H} (h : g75 l_1 class_2 K σ) : callW Tryz.prog 75 [.slice l_1.base l_1.len l_1.cap, .pointer class_2] K σ := call_of_body mixed Tryz.func75 (by rw [e75]; exact h)


def an79 : Ann := (.q (.q .z))
def g79 (s_1 : ByteArray) (c_2 : Int) (K : KH) : H -> Prop :=
 cvalT Tryz.prog (.func (.func 143) ⟨[]⟩ ⟨[]⟩) [.string s_1, .int .u8 c_2] kI (fun (x3 : Int) => K (.int .i64 x3))
theorem e79 (s_1 : ByteArray) (c_2 : Int) (K : KH) : bodyF Tryz.prog tau Tryz.f79 an79 [.string s_1, .int .u8 c_2] K = g79 s_1 c_2 K := by kernel_rfl
theorem c79 (s_1 : ByteArray) (c_2 : Int) {K : KH} {σ : H} (h : g79 s_1 c_2 K σ) : callW Tryz.prog 79 [.string s_1, .int .u8 c_2] K σ := call_of_body mixed Tryz.func79 (by rw [e79]; exact h)


def an80 : Ann := (.q (.q (.q (.q .z))))
def g80 (b_1 : Option Addr) (s_2 : ByteArray) (K : KH) : H -> Prop :=
 callT Tryz.prog 144 [.pointer b_1] kU (ptrW b_1 (fun b3 o4 => rdT (rdC b3 (o4 + 1)) kL (fun x5 => biW Tryz.prog .append #[56, 9] 56 [false, false] [.slice x5.base x5.len x5.cap, .string s_2] kL (fun x6 => ptrW b_1 (fun b7 o8 => stW Tryz.prog 56 (.pointer (some ⟨b7, o8 + 1, none⟩)) (.slice x6.base x6.len x6.cap) (K (.tuple ⟨[.int .i64 ((s_2.size : Nat) : Int), .nilIface]⟩)))))))
theorem e80 (b_1 : Option Addr) (s_2 : ByteArray) (K : KH) : bodyF Tryz.prog tau Tryz.f80 an80 [.pointer b_1, .string s_2] K = g80 b_1 s_2 K := by kernel_rfl
theorem c80 (b_1 : Option Addr) (s_2 : ByteArray) {K : KH} {σ : H} (h : g80 b_1 s_2 K σ) : callW Tryz.prog 80 [.pointer b_1, .string s_2] K σ := call_of_body mixed Tryz.func80 (by rw [e80]; exact h)


def an81 : Ann := (.q (.n (.reg [0,1,2,3,5,6,7,8,4,9,10,11] [[],[0],[0,1],[0,1,2],(rn 4),[],[5],[5,6],[5,6,7],[5,6,7,8],(rn 10),(rn 11)]) .z))
def g81 (b_1 : Option Addr) (K : KH) : H -> Prop :=
 ptrW b_1 (fun b2 o3 => rdT (rdC b2 (o3 + 1)) kL (fun x4 => ptrW b_1 (fun b5 o6 => rdT (rdC b5 (o6 + 1)) kL (fun x7 => biW Tryz.prog .unsafeSliceData #[56] 197 [false] [.slice x4.base x4.len x4.cap] kP (fun x8 => andW (fun σ => (rdC b5 (o6 + 1)) σ = some (.slice x7.base x7.len x7.cap)) (biW Tryz.prog .unsafeString #[197, 3] 9 [false, false] [.pointer x8, .int .i64 ((x7.len : Nat) : Int)] kS (fun (x9 : ByteArray) => K (.string x9))))))))
theorem e81 (b_1 : Option Addr) (K : KH) : bodyF Tryz.prog tau Tryz.f81 an81 [.pointer b_1] K = g81 b_1 K := by kernel_rfl
theorem c81 (b_1 : Option Addr) {K : KH} {σ : H} (h : g81 b_1 K σ) : callW Tryz.prog 81 [.pointer b_1] K σ := call_of_body mixed Tryz.func81 (by rw [e81]; exact h)


def an82 : Ann := (.q (.n (.seq (some [(1,.p),(21,.b)]) .r (.h)) (.q (.q .z))))
def g82 (q_1 : Int) (q_2 : Int) (K : KH) : H -> Prop :=
 alW (.cells ⟨[.int .i64 q_1, .int .i64 q_2]⟩ 64 (0, 0)) (fun b3 => letJ (T := Option Addr -> Bool -> H -> Prop) (fun q_5 x6 => brW x6 (K (.pointer none)) (alW (.map #[] 0) (fun b7 => alW (.cells ⟨[.int .i64 2, .int .i64 493, .string (⟨⟨[]⟩⟩ : ByteArray), .int .i64 1, .int .i64 1, .map (some b7)]⟩ 194 (0, 0)) (fun b8 => ptrW q_5 (fun b9 o10 => rdT (rdA 2 b9 o10) (.one (.agg [(.int .i64), (.int .i64)])) (fun (x11 : Int) (x12 : Int) => alW (.map #[] 0) (fun b13 =>
 muW Tryz.prog 198 (.map (some b13)) (.int .i64 1) (.pointer (some ⟨b8, 0, none⟩)) (alW (.cells ⟨[.int .i64 x11, .int .i64 x12, .int .i64 1, .int .i64 0, .map (some b13), .int .i64 1]⟩ 200 (0, 0)) (fun b14 => K (.pointer (some ⟨b14, 0, none⟩))))))))))) (fun j4 => rdT (rdC b3 0) kI (fun (x15 : Int) => brW (decide ((x15 : Int) < 1)) (j4 (some ⟨b3, 0, none⟩) true) (rdT (rdC b3 0) kI (fun (x16 : Int) => brW (decide ((x16 : Int) > 1048576)) (j4 (some ⟨b3, 0, none⟩) true)
 (rdT (rdC b3 1) kI (fun (x17 : Int) => brW (decide ((x17 : Int) < 0)) (j4 (some ⟨b3, 0, none⟩) true) (rdT (rdC b3 1) kI (fun (x18 : Int) => j4 (some ⟨b3, 0, none⟩) (decide ((x18 : Int) > 1073741824)))))))))))
theorem e82 (q_1 : Int) (q_2 : Int) (K : KH) : bodyF Tryz.prog tau Tryz.f82 an82 [.agg ⟨[.int .i64 q_1, .int .i64 q_2]⟩] K = g82 q_1 q_2 K := by kernel_rfl
theorem c82 (q_1 : Int) (q_2 : Int) {K : KH} {σ : H} (h : g82 q_1 q_2 K σ) : callW Tryz.prog 82 [.agg ⟨[.int .i64 q_1, .int .i64 q_2]⟩] K σ := call_of_body mixed Tryz.func82 (by rw [e82]; exact h)


def an92 : Ann := (.q (.q .z))
def g92 (f_1 : Option Addr) (K : KH) : H -> Prop :=
 brW f_1.isNone (K (.bool true)) (ptrW f_1 (fun b2 o3 => rdT (rdC b2 o3) kP (fun x4 => K (.bool x4.isNone))))
theorem e92 (f_1 : Option Addr) (K : KH) : bodyF Tryz.prog tau Tryz.f92 an92 [.pointer f_1] K = g92 f_1 K := by kernel_rfl
theorem c92 (f_1 : Option Addr) {K : KH} {σ : H} (h : g92 f_1 K σ) : callW Tryz.prog 92 [.pointer f_1] K σ := call_of_body mixed Tryz.func92 (by rw [e92]; exact h)


def an94 : Ann := (.q (.q (.n (.blk (.q (.cond (.q .z) (.q (.h))))) (.q .z))))
def g94 (f_1 : Option Addr) (cwd_2 : ByteArray) (path_3 : ByteArray) (do_4 : Value) (K : KH) : H -> Prop :=
 callT Tryz.prog 98 [.pointer f_1, .string cwd_2, .string path_3, .bool false] (.tup [.agg [(.int .i64), .str, (.int .i64), .bool], .sc (.int .i64)]) (fun (x5 : Int) (x6 : ByteArray) (x7 : Int) (x8 : Bool) (x9 : Int) => alW (.cells ⟨[.int .i64 0, .string (⟨⟨[]⟩⟩ : ByteArray), .int .i64 0, .bool false]⟩ 142 (0, 0)) (fun b10 => stW Tryz.prog 142 (.pointer (some ⟨b10, 0, none⟩)) (.agg ⟨[.int .i64 x5, .string x6, .int .i64 x7, .bool x8]⟩) (brW ((x9 : Int) != 0) (K (.int .i64 x9))
 (rdT (rdC b10 3) kB (fun x11 => brW x11 (K (.int .i64 6)) (rdT (rdA 4 b10 0) (.one (.agg [(.int .i64), .str, (.int .i64), .bool])) (fun (x12 : Int) (x13 : ByteArray) (x14 : Int) (x15 : Bool) => cvalT Tryz.prog do_4 [.agg ⟨[.int .i64 x12, .string x13, .int .i64 x14, .bool x15]⟩] kI (fun (x16 : Int) => K (.int .i64 x16)))))))))
theorem e94 (f_1 : Option Addr) (cwd_2 : ByteArray) (path_3 : ByteArray) (do_4 : Value) (K : KH) : bodyF Tryz.prog tau Tryz.f94 an94 [.pointer f_1, .string cwd_2, .string path_3, do_4] K = g94 f_1 cwd_2 path_3 do_4 K := by kernel_rfl
theorem c94 (f_1 : Option Addr) (cwd_2 : ByteArray) (path_3 : ByteArray) (do_4 : Value) {K : KH} {σ : H} (h : g94 f_1 cwd_2 path_3 do_4 K σ) : callW Tryz.prog 94 [.pointer f_1, .string cwd_2, .string path_3, do_4] K σ := call_of_body mixed Tryz.func94 (by rw [e94]; exact h)


def an96 : Ann := (.q (.q (.n (.n (.reg [0,1,2,3,5,7,8,4,6,9,10,11,12,13,14,15] [[],[0],[],[],[2,3],[],[2,3,4,5],[],[],[],[],[2,3,4,5,6,8,9,10],[],(rn 13),(rn 14),(rn 15)]) (.q (.h))) (.q (.q (.seq (some [(1,.i),(2,.s),(6,.p),(11,.p),(16,.p)]) (.q (.cond .r .z)) (.n (.reg (rn 10) [[],[0],[0,1],[0,1,2],[],[4],[4,5],[4,5,6],[],(rn 9)]) (.n (.reg (rn 15) [[],[0],[0,1],[0,1,2],[],(rn 5),(rn 6),(rn 7),(rn 8),[],[],[10],[10,11],[10,11,12],(rn 14)]) (.q (.n (.reg (rn 12) [[],[0],[0,1],[0,1,2],(rn 4),[],[5],(rn 7),(rn 8),(rn 9),(rn 10),(rn 11)]) (.q .z)))))))))))
def g96 (t_1 : Option Addr) (dir_2 : Int) (name_3 : ByteArray) (kind_4 : Int) (mode_5 : Int) (data_6 : ByteArray) (K : KH) : H -> Prop :=
 alW (.cells ⟨[.pointer t_1]⟩ 108 (0, 0)) (fun b7 => alW (.cells ⟨[.int .i64 kind_4]⟩ 3 (0, 0)) (fun b8 => alW (.cells ⟨[.int .i64 mode_5]⟩ 3 (0, 0)) (fun b9 => alW (.cells ⟨[.string data_6]⟩ 9 (0, 0)) (fun b10 => rdT (rdC b7 0) kP (fun x11 => rdT (rdC b7 0) kP (fun x12 => rdT (rdC b7 0) kP (fun x13 => callT Tryz.prog 164 [.pointer x12, .int .i64 dir_2] kR (fun x14 => andW (fun σ => (rdC b7 0) σ = some (.pointer x13)) (andW (fun σ => (rdC b7 0) σ = some (.pointer x11))
 (callT Tryz.prog 165 [.string name_3] kR (fun x15 => andW (fun σ => (rdC b7 0) σ = some (.pointer x13)) (andW (fun σ => (rdC b7 0) σ = some (.pointer x11)) (callT Tryz.prog 166 [.pointer x13, .int .i64 dir_2, .string name_3] kR (fun x16 => andW (fun σ => (rdC b7 0) σ = some (.pointer x11)) (oneK x14 (oneK x15 (oneK x16
 (alW (.cells ⟨[.func (.func 163) ⟨[.pointer x11]⟩ ⟨[]⟩, x14, x15, .func (.func 160) ⟨[]⟩ ⟨[.pointer (some ⟨b10, 0, none⟩), .pointer (some ⟨b8, 0, none⟩), .pointer (some ⟨b9, 0, none⟩)]⟩, x16, .func (.func 167) ⟨[]⟩ ⟨[.pointer (some ⟨b7, 0, none⟩), .pointer (some ⟨b10, 0, none⟩)]⟩]⟩ 204 (0, 0)) (fun b17 => callT Tryz.prog 162 [.slice (some ⟨b17, 0, none⟩) 6 6] kI (fun (x18 : Int) => brW ((x18 : Int) != 0) (K (.tuple ⟨[.int .i64 0, .int .i64 x18]⟩)) (rdT (rdC b7 0) kP (fun x19 =>
 ptrW x19 (fun b20 o21 => rdT (rdC b20 (o21 + 5)) kI (fun (x22 : Int) => ptrW x19 (fun b23 o24 => stW Tryz.prog 3 (.pointer (some ⟨b23, o24 + 5, none⟩)) (.int .i64 (IntKind.i64.wrap (x22 + 1))) (rdT (rdC b8 0) kI (fun (x25 : Int) => rdT (rdC b9 0) kI (fun (x26 : Int) => rdT (rdC b10 0) kS (fun (x27 : ByteArray) => alW (.cells ⟨[.int .i64 x25, .int .i64 x26, .string x27, .int .i64 1, .int .i64 0, .map none]⟩ 194 (0, 0)) (fun b28 =>
 letJ (T := Int -> ByteArray -> Option Addr -> Option Addr -> Option Addr -> H -> Prop) (fun dir_30 name_31 t_32 data_33 n_34 => ptrW t_32 (fun b35 o36 => rdT (rdC b35 o36) kP (fun x37 => ptrW x37 (fun b38 o39 => rdT (rdC b38 (o39 + 4)) kM (fun (x40 : Option Nat) => ptrW t_32 (fun b41 o42 => rdT (rdC b41 o42) kP (fun x43 => ptrW x43 (fun b44 o45 => rdT (rdC b44 (o45 + 5)) kI (fun (x46 : Int) => muW Tryz.prog 198 (.map x40) (.int .i64 x46) (.pointer n_34) (ptrW t_32 (fun b47 o48 =>
 rdT (rdC b47 o48) kP (fun x49 => ptrW x49 (fun b50 o51 => rdT (rdC b50 (o51 + 4)) kM (fun (x52 : Option Nat) => rdT (rdM (.int .i64) (.pointer none) false x52 (.int .i64 dir_30)) kP (fun x53 => ptrW x53 (fun b54 o55 => rdT (rdC b54 (o55 + 5)) kM (fun (x56 : Option Nat) => ptrW t_32 (fun b57 o58 => rdT (rdC b57 o58) kP (fun x59 => ptrW x59 (fun b60 o61 => rdT (rdC b60 (o61 + 5)) kI (fun (x62 : Int) => muW Tryz.prog 192 (.map x56) (.string name_31) (.int .i64 x62) (ptrW t_32 (fun b63 o64 =>
 rdT (rdC b63 o64) kP (fun x65 => ptrW x65 (fun b66 o67 => rdT (rdC b66 (o67 + 2)) kI (fun (x68 : Int) => ptrW x65 (fun b69 o70 => stW Tryz.prog 3 (.pointer (some ⟨b69, o70 + 2, none⟩)) (.int .i64 (IntKind.i64.wrap (x68 + 1))) (ptrW t_32 (fun b71 o72 => rdT (rdC b71 o72) kP (fun x73 => ptrW x73 (fun b74 o75 => rdT (rdC b74 (o75 + 3)) kI (fun (x76 : Int) => ptrW data_33 (fun b77 o78 => rdT (rdC b77 o78) kS (fun (x79 : ByteArray) => ptrW x73 (fun b80 o81 =>
 stW Tryz.prog 3 (.pointer (some ⟨b80, o81 + 3, none⟩)) (.int .i64 (IntKind.i64.wrap (x76 + ((x79.size : Nat) : Int)))) (ptrW t_32 (fun b82 o83 => rdT (rdC b82 o83) kP (fun x84 => ptrW x84 (fun b85 o86 => rdT (rdC b85 (o86 + 5)) kI (fun (x87 : Int) => K (.tuple ⟨[.int .i64 x87, .int .i64 0]⟩))))))))))))))))))))))))))))))))))))))))) (fun j29 => rdT (rdC b8 0) kI (fun (x88 : Int) => brW ((x88 : Int) == 2) (alW (.map #[] 0) (fun b89 =>
 stW Tryz.prog 3 (.pointer (some ⟨b28, 4, none⟩)) (.int .i64 dir_2) (stW Tryz.prog 192 (.pointer (some ⟨b28, 5, none⟩)) (.map (some b89)) (j29 dir_2 name_3 (some ⟨b7, 0, none⟩) (some ⟨b10, 0, none⟩) (some ⟨b28, 0, none⟩))))) (j29 dir_2 name_3 (some ⟨b7, 0, none⟩) (some ⟨b10, 0, none⟩) (some ⟨b28, 0, none⟩))))))))))))))))))))))))))))))))))
theorem e96 (t_1 : Option Addr) (dir_2 : Int) (name_3 : ByteArray) (kind_4 : Int) (mode_5 : Int) (data_6 : ByteArray) (K : KH) : bodyF Tryz.prog tau Tryz.f96 an96 [.pointer t_1, .int .i64 dir_2, .string name_3, .int .i64 kind_4, .int .i64 mode_5, .string data_6] K = g96 t_1 dir_2 name_3 kind_4 mode_5 data_6 K := by kernel_rfl
theorem c96 (t_1 : Option Addr) (dir_2 : Int) (name_3 : ByteArray) (kind_4 : Int) (mode_5 : Int) (data_6 : ByteArray) {K : KH} {σ : H} (h : g96 t_1 dir_2 name_3 kind_4 mode_5 data_6 K σ) : callW Tryz.prog 96 [.pointer t_1, .int .i64 dir_2, .string name_3, .int .i64 kind_4, .int .i64 mode_5, .string data_6] K σ := call_of_body mixed Tryz.func96 (by rw [e96]; exact h)


def an97 : Ann := (.q (.n (.q (.cond .r .z)) (.n (.reg (rn 13) [[],[0],[0,1],[0,1,2],(rn 4),[],[5],[5,6],[5,6,7],[5,6,7,8],(rn 10),[],(rn 12)]) (.cond .r .z))))
def g97 (b_1 : Option Addr) (n_2 : Int) (K : KH) : H -> Prop :=
 callT Tryz.prog 144 [.pointer b_1] kU (brW (decide ((n_2 : Int) < 0)) (nW) (ptrW b_1 (fun b3 o4 => rdT (rdC b3 (o4 + 1)) kL (fun x5 => ptrW b_1 (fun b6 o7 => rdT (rdC b6 (o7 + 1)) kL (fun x8 => brW (decide (((IntKind.i64.wrap (((x5.cap : Nat) : Int) - ((x8.len : Nat) : Int))) : Int) < n_2)) (callT Tryz.prog 169 [.pointer b_1, .int .i64 n_2] kU (K (.tuple ⟨[]⟩))) (K (.tuple ⟨[]⟩))))))))
theorem e97 (b_1 : Option Addr) (n_2 : Int) (K : KH) : bodyF Tryz.prog tau Tryz.f97 an97 [.pointer b_1, .int .i64 n_2] K = g97 b_1 n_2 K := by kernel_rfl
theorem c97 (b_1 : Option Addr) (n_2 : Int) {K : KH} {σ : H} (h : g97 b_1 n_2 K σ) : callW Tryz.prog 97 [.pointer b_1, .int .i64 n_2] K σ := call_of_body mixed Tryz.func97 (by rw [e97]; exact h)


def an98 : Ann := (.q (.n (.q (.h)) (.q (.n (.q (.h)) (.seq (some [(0,.p),(2,.s),(3,.b),(8,.p),(10,.i),(11,.p)]) (.q (.cond (.n (.q (.h)) (.q (.n (.blk (.q (.cond (.q .z) (.q (.cond (.q .z) (.q (.h))))))) .r))) .z)) (.q .z))))))
def g98 (f_1 : Option Addr) (cwd_2 : ByteArray) (path_3 : ByteArray) (follow_4 : Bool) (K : KH) : H -> Prop :=
 alW (.cells ⟨[.int .i64 0, .string (⟨⟨[]⟩⟩ : ByteArray), .int .i64 0, .bool false]⟩ 142 (0, 0)) (fun b5 => callT Tryz.prog 92 [.pointer f_1] kB (fun x6 => brW x6 (stW Tryz.prog 142 (.pointer (some ⟨b5, 0, none⟩)) (.agg ⟨[.int .i64 0, .string (⟨⟨[]⟩⟩ : ByteArray), .int .i64 0, .bool false]⟩) (rdT (rdA 4 b5 0) (.one (.agg [(.int .i64), .str, (.int .i64), .bool])) (fun (r7 : Int) (r8 : ByteArray) (r9 : Int) (r10 : Bool) =>
 K (.tuple ⟨[.agg ⟨[.int .i64 r7, .string r8, .int .i64 r9, .bool r10]⟩, .int .i64 1]⟩)))) (ptrW f_1 (fun b11 o12 => rdT (rdC b11 o12) kP (fun x13 => callT Tryz.prog 123 [.pointer x13] kI (fun (x14 : Int) => alW (.cells ⟨[.int .i64 0]⟩ 3 (0, 0)) (fun b15 => stW Tryz.prog 3 (.pointer (some ⟨b15, 0, none⟩)) (.int .i64 8) (brW (strEq path_3 (⟨⟨[]⟩⟩ : ByteArray))
 (stW Tryz.prog 142 (.pointer (some ⟨b5, 0, none⟩)) (.agg ⟨[.int .i64 0, .string (⟨⟨[]⟩⟩ : ByteArray), .int .i64 0, .bool false]⟩) (rdT (rdA 4 b5 0) (.one (.agg [(.int .i64), .str, (.int .i64), .bool])) (fun (r16 : Int) (r17 : ByteArray) (r18 : Int) (r19 : Bool) => K (.tuple ⟨[.agg ⟨[.int .i64 r16, .string r17, .int .i64 r18, .bool r19]⟩, .int .i64 5]⟩)))) (letJ (T := Option Addr -> ByteArray -> Bool -> Option Addr -> Int -> Option Addr -> H -> Prop) (fun f_21 path_22 follow_23 x24 at_25 hops_26 =>
 callT Tryz.prog 170 [.pointer f_21, .int .i64 at_25, .string path_22, .bool follow_23, .pointer hops_26] (.tup [.agg [(.int .i64), .str, (.int .i64), .bool], .sc (.int .i64)]) (fun (x27 : Int) (x28 : ByteArray) (x29 : Int) (x30 : Bool) (x31 : Int) => stW Tryz.prog 142 (.pointer x24) (.agg ⟨[.int .i64 x27, .string x28, .int .i64 x29, .bool x30]⟩) (ptrW x24 (fun b32 o33 =>
 rdT (rdA 4 b32 o33) (.one (.agg [(.int .i64), .str, (.int .i64), .bool])) (fun (r34 : Int) (r35 : ByteArray) (r36 : Int) (r37 : Bool) => K (.tuple ⟨[.agg ⟨[.int .i64 r34, .string r35, .int .i64 r36, .bool r37]⟩, .int .i64 x31]⟩)))))) (fun j20 => idxW path_3 0 (fun c38 => brW (((c38.toNat : Int) : Int) != 47) (callT Tryz.prog 106 [.string cwd_2, .string (⟨⟨[47]⟩⟩ : ByteArray)] kB (fun x39 => brW (!x39)
 (stW Tryz.prog 142 (.pointer (some ⟨b5, 0, none⟩)) (.agg ⟨[.int .i64 0, .string (⟨⟨[]⟩⟩ : ByteArray), .int .i64 0, .bool false]⟩) (rdT (rdA 4 b5 0) (.one (.agg [(.int .i64), .str, (.int .i64), .bool])) (fun (r40 : Int) (r41 : ByteArray) (r42 : Int) (r43 : Bool) => K (.tuple ⟨[.agg ⟨[.int .i64 r40, .string r41, .int .i64 r42, .bool r43]⟩, .int .i64 5]⟩))))
 (callT Tryz.prog 170 [.pointer f_1, .int .i64 x14, .string cwd_2, .bool true, .pointer (some ⟨b15, 0, none⟩)] (.tup [.agg [(.int .i64), .str, (.int .i64), .bool], .sc (.int .i64)]) (fun (x44 : Int) (x45 : ByteArray) (x46 : Int) (x47 : Bool) (x48 : Int) => alW (.cells ⟨[.int .i64 0, .string (⟨⟨[]⟩⟩ : ByteArray), .int .i64 0, .bool false]⟩ 142 (0, 0)) (fun b49 =>
 stW Tryz.prog 142 (.pointer (some ⟨b49, 0, none⟩)) (.agg ⟨[.int .i64 x44, .string x45, .int .i64 x46, .bool x47]⟩) (brW ((x48 : Int) != 0) (stW Tryz.prog 142 (.pointer (some ⟨b5, 0, none⟩)) (.agg ⟨[.int .i64 0, .string (⟨⟨[]⟩⟩ : ByteArray), .int .i64 0, .bool false]⟩) (rdT (rdA 4 b5 0) (.one (.agg [(.int .i64), .str, (.int .i64), .bool])) (fun (r50 : Int) (r51 : ByteArray) (r52 : Int) (r53 : Bool) => K (.tuple ⟨[.agg ⟨[.int .i64 r50, .string r51, .int .i64 r52, .bool r53]⟩, .int .i64 x48]⟩))))
 (rdT (rdC b49 3) kB (fun x54 => brW (!x54) (stW Tryz.prog 142 (.pointer (some ⟨b5, 0, none⟩)) (.agg ⟨[.int .i64 0, .string (⟨⟨[]⟩⟩ : ByteArray), .int .i64 0, .bool false]⟩) (rdT (rdA 4 b5 0) (.one (.agg [(.int .i64), .str, (.int .i64), .bool])) (fun (r55 : Int) (r56 : ByteArray) (r57 : Int) (r58 : Bool) => K (.tuple ⟨[.agg ⟨[.int .i64 r55, .string r56, .int .i64 r57, .bool r58]⟩, .int .i64 5]⟩)))) (rdT (rdC b49 2) kI (fun (x59 : Int) =>
 callT Tryz.prog 110 [.pointer f_1, .int .i64 x59] kI (fun (x60 : Int) => brW ((x60 : Int) != 2) (stW Tryz.prog 142 (.pointer (some ⟨b5, 0, none⟩)) (.agg ⟨[.int .i64 0, .string (⟨⟨[]⟩⟩ : ByteArray), .int .i64 0, .bool false]⟩) (rdT (rdA 4 b5 0) (.one (.agg [(.int .i64), .str, (.int .i64), .bool])) (fun (r61 : Int) (r62 : ByteArray) (r63 : Int) (r64 : Bool) => K (.tuple ⟨[.agg ⟨[.int .i64 r61, .string r62, .int .i64 r63, .bool r64]⟩, .int .i64 8]⟩)))) (rdT (rdC b49 2) kI (fun (x65 : Int) =>
 stW Tryz.prog 3 (.pointer (some ⟨b15, 0, none⟩)) (.int .i64 8) (j20 f_1 path_3 follow_4 (some ⟨b5, 0, none⟩) x65 (some ⟨b15, 0, none⟩))))))))))))))) (j20 f_1 path_3 follow_4 (some ⟨b5, 0, none⟩) x14 (some ⟨b15, 0, none⟩)))))))))))))
theorem e98 (f_1 : Option Addr) (cwd_2 : ByteArray) (path_3 : ByteArray) (follow_4 : Bool) (K : KH) : bodyF Tryz.prog tau Tryz.f98 an98 [.pointer f_1, .string cwd_2, .string path_3, .bool follow_4] K = g98 f_1 cwd_2 path_3 follow_4 K := by kernel_rfl
theorem c98 (f_1 : Option Addr) (cwd_2 : ByteArray) (path_3 : ByteArray) (follow_4 : Bool) {K : KH} {σ : H} (h : g98 f_1 cwd_2 path_3 follow_4 K σ) : callW Tryz.prog 98 [.pointer f_1, .string cwd_2, .string path_3, .bool follow_4] K σ := call_of_body mixed Tryz.func98 (by rw [e98]; exact h)


def an99 : Ann := (.q (.q (.n (.q (.h)) (.q .z))))
def g99 (t_1 : Option Addr) (ino_2 : Int) (K : KH) : H -> Prop :=
 alW (.cells ⟨[.int .i64 0, .int .i64 0, .string (⟨⟨[]⟩⟩ : ByteArray), .int .i64 0]⟩ 35 (0, 0)) (fun b3 => callT Tryz.prog 138 [.pointer t_1, .int .i64 ino_2] kP (fun x4 => brW x4.isNone (stW Tryz.prog 35 (.pointer (some ⟨b3, 0, none⟩)) (.agg ⟨[.int .i64 0, .int .i64 0, .string (⟨⟨[]⟩⟩ : ByteArray), .int .i64 0]⟩) (rdT (rdA 4 b3 0) (.one (.agg [(.int .i64), (.int .i64), .str, (.int .i64)])) (fun (r5 : Int) (r6 : Int) (r7 : ByteArray) (r8 : Int) =>
 K (.tuple ⟨[.agg ⟨[.int .i64 r5, .int .i64 r6, .string r7, .int .i64 r8]⟩, .bool false]⟩)))) (ptrW x4 (fun b9 o10 => rdT (rdA 4 b9 o10) (.one (.agg [(.int .i64), (.int .i64), .str, (.int .i64)])) (fun (x11 : Int) (x12 : Int) (x13 : ByteArray) (x14 : Int) =>
 stW Tryz.prog 35 (.pointer (some ⟨b3, 0, none⟩)) (.agg ⟨[.int .i64 x11, .int .i64 x12, .string x13, .int .i64 x14]⟩) (rdT (rdA 4 b3 0) (.one (.agg [(.int .i64), (.int .i64), .str, (.int .i64)])) (fun (r15 : Int) (r16 : Int) (r17 : ByteArray) (r18 : Int) => K (.tuple ⟨[.agg ⟨[.int .i64 r15, .int .i64 r16, .string r17, .int .i64 r18]⟩, .bool true]⟩))))))))
theorem e99 (t_1 : Option Addr) (ino_2 : Int) (K : KH) : bodyF Tryz.prog tau Tryz.f99 an99 [.pointer t_1, .int .i64 ino_2] K = g99 t_1 ino_2 K := by kernel_rfl
theorem c99 (t_1 : Option Addr) (ino_2 : Int) {K : KH} {σ : H} (h : g99 t_1 ino_2 K σ) : callW Tryz.prog 99 [.pointer t_1, .int .i64 ino_2] K σ := call_of_body mixed Tryz.func99 (by rw [e99]; exact h)


def an100 : Ann := (.q (.q (.n (.n (.reg (rn 9) [[],[0],[],[],[2,3],[],(rn 6),(rn 7),(rn 8)]) (.q (.h))) (.n (.reg (rn 7) [[],[0],[0,1],[0,1,2],[],(rn 5),(rn 6)]) (.n (.reg (rn 19) [[],[0],[0,1],[0,1,2],(rn 4),[],[5],[],[7],[7,8],[7,8,9],[7,8,9,10],[7,8,9,10,11],[5,6,7,8,9,10,11,12],(rn 14),(rn 15),(rn 16),(rn 17),(rn 18)]) (.q (.q .z)))))))
def g100 (t_1 : Option Addr) (ino_2 : Int) (data_3 : ByteArray) (K : KH) : H -> Prop :=
 alW (.cells ⟨[.pointer t_1]⟩ 108 (0, 0)) (fun b4 => alW (.cells ⟨[.int .i64 ino_2]⟩ 3 (0, 0)) (fun b5 => alW (.cells ⟨[.string data_3]⟩ 9 (0, 0)) (fun b6 => rdT (rdC b4 0) kP (fun x7 => rdT (rdC b4 0) kP (fun x8 => rdT (rdC b5 0) kI (fun (x9 : Int) => callT Tryz.prog 172 [.pointer x8, .int .i64 x9] kR (fun x10 => andW (fun σ => (rdC b4 0) σ = some (.pointer x7)) (oneK x10
 (alW (.cells ⟨[.func (.func 163) ⟨[.pointer x7]⟩ ⟨[]⟩, x10, .func (.func 171) ⟨[]⟩ ⟨[.pointer (some ⟨b4, 0, none⟩), .pointer (some ⟨b6, 0, none⟩), .pointer (some ⟨b5, 0, none⟩)]⟩]⟩ 204 (0, 0)) (fun b11 => callT Tryz.prog 162 [.slice (some ⟨b11, 0, none⟩) 3 3] kI (fun (x12 : Int) => brW ((x12 : Int) != 0) (K (.int .i64 x12)) (rdT (rdC b4 0) kP (fun x13 => ptrW x13 (fun b14 o15 => rdT (rdC b14 (o15 + 4)) kM (fun (x16 : Option Nat) => rdT (rdC b5 0) kI (fun (x17 : Int) =>
 rdT (rdM (.int .i64) (.pointer none) false x16 (.int .i64 x17)) kP (fun x18 => rdT (rdC b4 0) kP (fun x19 => ptrW x19 (fun b20 o21 => rdT (rdC b20 (o21 + 3)) kI (fun (x22 : Int) => rdT (rdC b6 0) kS (fun (x23 : ByteArray) => ptrW x18 (fun b24 o25 => rdT (rdC b24 (o25 + 2)) kS (fun (x26 : ByteArray) => ptrW x19 (fun b27 o28 =>
 stW Tryz.prog 3 (.pointer (some ⟨b27, o28 + 3, none⟩)) (.int .i64 (IntKind.i64.wrap (x22 + (IntKind.i64.wrap (((x23.size : Nat) : Int) - ((x26.size : Nat) : Int)))))) (rdT (rdC b6 0) kS (fun (x29 : ByteArray) => ptrW x18 (fun b30 o31 => stW Tryz.prog 9 (.pointer (some ⟨b30, o31 + 2, none⟩)) (.string x29) (K (.int .i64 0)))))))))))))))))))))))))))))
theorem e100 (t_1 : Option Addr) (ino_2 : Int) (data_3 : ByteArray) (K : KH) : bodyF Tryz.prog tau Tryz.f100 an100 [.pointer t_1, .int .i64 ino_2, .string data_3] K = g100 t_1 ino_2 data_3 K := by kernel_rfl
theorem c100 (t_1 : Option Addr) (ino_2 : Int) (data_3 : ByteArray) {K : KH} {σ : H} (h : g100 t_1 ino_2 data_3 K σ) : callW Tryz.prog 100 [.pointer t_1, .int .i64 ino_2, .string data_3] K σ := call_of_body mixed Tryz.func100 (by rw [e100]; exact h)


def an101 : Ann := (.q (.n (.q (.h)) (.n (.reg (rn 14) [[],[0],[0,1],[0,1,2],[],[4],[],[6],(rn 8),(rn 9),(rn 10),(rn 10),(rn 11),(rn 13)]) (.q .z))))
def g101 (p_1 : Int) (p_2 : ByteArray) (p_3 : Int) (p_4 : Bool) (x5 : Option Addr) (K : KH) : H -> Prop :=
 alW (.cells ⟨[.int .i64 p_1, .string p_2, .int .i64 p_3, .bool p_4]⟩ 142 (0, 0)) (fun b6 => ptrW x5 (fun b7 o8 => rdT (rdC b7 o8) kP (fun x9 => rdT (rdC b6 0) kI (fun (x10 : Int) => callT Tryz.prog 102 [.pointer x9, .int .i64 x10] kI (fun (x11 : Int) => brW (decide ((x11 : Int) >= 12)) (K (.int .i64 3)) (ptrW x5 (fun b12 o13 => rdT (rdC b12 o13) kP (fun x14 => ptrW x14 (fun b15 o16 => rdT (rdC b15 o16) kP (fun x17 => rdT (rdC b6 0) kI (fun (x18 : Int) =>
 rdT (rdC b6 1) kS (fun (x19 : ByteArray) => callT Tryz.prog 96 [.pointer x17, .int .i64 x18, .string x19, .int .i64 2, .int .i64 493, .string (⟨⟨[]⟩⟩ : ByteArray)] (.tup [.sc (.int .i64), .sc (.int .i64)]) (fun (_x20 : Int) (x21 : Int) => K (.int .i64 x21))))))))))))))
theorem e101 (p_1 : Int) (p_2 : ByteArray) (p_3 : Int) (p_4 : Bool) (x5 : Option Addr) (K : KH) : bodyF Tryz.prog tau Tryz.f101 an101 [.agg ⟨[.int .i64 p_1, .string p_2, .int .i64 p_3, .bool p_4]⟩, .pointer x5] K = g101 p_1 p_2 p_3 p_4 x5 K := by kernel_rfl
theorem c101 (p_1 : Int) (p_2 : ByteArray) (p_3 : Int) (p_4 : Bool) (x5 : Option Addr) {K : KH} {σ : H} (h : g101 p_1 p_2 p_3 p_4 x5 K σ) : callW Tryz.prog 101 [.agg ⟨[.int .i64 p_1, .string p_2, .int .i64 p_3, .bool p_4]⟩, .pointer x5] K σ := call_of_body mixed Tryz.func101 (by rw [e101]; exact h)


def an102 : Ann := (.q (.q (.n (.blk (.loop [(0,.p),(1,.i),(5,.i)] (.n (.q (.cond .z .z)) (.n (.blk .r) .r)))) (.q .z))))
def g102 (f_1 : Option Addr) (dir_2 : Int) (K : KH) : H -> Prop :=
 loopW [.sc .ptr, .sc (.int .i64), .sc (.int .i64)] (fun (R3 : Option Addr -> Int -> Int -> H -> Prop) => (fun (f_4 : Option Addr) (dir_5 : Int) (n_6 : Int) => ptrW f_4 (fun b7 o8 => rdT (rdC b7 o8) kP (fun x9 => callT Tryz.prog 123 [.pointer x9] kI (fun (x10 : Int) => brW ((dir_5 : Int) != x10) (ptrW f_4 (fun b11 o12 => rdT (rdC b11 o12) kP (fun x13 => callT Tryz.prog 124 [.pointer x13, .int .i64 dir_5] kI (fun (x14 : Int) => R3 f_4 x14 (IntKind.i64.wrap (n_6 + 1))))))
 (K (.int .i64 n_6))))))) (fun (R15 : Option Addr -> Int -> Int -> H -> Prop) => R15 f_1 dir_2 1)
theorem e102 (f_1 : Option Addr) (dir_2 : Int) (K : KH) : bodyF Tryz.prog tau Tryz.f102 an102 [.pointer f_1, .int .i64 dir_2] K = g102 f_1 dir_2 K := by kernel_rfl
theorem c102 (f_1 : Option Addr) (dir_2 : Int) {K : KH} {σ : H} (h : g102 f_1 dir_2 K σ) : callW Tryz.prog 102 [.pointer f_1, .int .i64 dir_2] K σ := call_of_body mixed Tryz.func102 (by rw [e102]; exact h)


def an106 : Ann := (.q (.q .z))
def g106 (s_1 : ByteArray) (prefix_2 : ByteArray) (K : KH) : H -> Prop :=
 callT Tryz.prog 176 [.string s_1, .string prefix_2] kB (fun x3 => K (.bool x3))
theorem e106 (s_1 : ByteArray) (prefix_2 : ByteArray) (K : KH) : bodyF Tryz.prog tau Tryz.f106 an106 [.string s_1, .string prefix_2] K = g106 s_1 prefix_2 K := by kernel_rfl
theorem c106 (s_1 : ByteArray) (prefix_2 : ByteArray) {K : KH} {σ : H} (h : g106 s_1 prefix_2 K σ) : callW Tryz.prog 106 [.string s_1, .string prefix_2] K σ := call_of_body mixed Tryz.func106 (by rw [e106]; exact h)


def an110 : Ann := (.q (.q (.q .z)))
def g110 (f_1 : Option Addr) (ino_2 : Int) (K : KH) : H -> Prop :=
 ptrW f_1 (fun b3 o4 => rdT (rdC b3 o4) kP (fun x5 => callT Tryz.prog 99 [.pointer x5, .int .i64 ino_2] (.tup [.agg [(.int .i64), (.int .i64), .str, (.int .i64)], .sc .bool]) (fun (x6 : Int) (x7 : Int) (x8 : ByteArray) (x9 : Int) (_x10 : Bool) => alW (.cells ⟨[.int .i64 0, .int .i64 0, .string (⟨⟨[]⟩⟩ : ByteArray), .int .i64 0]⟩ 35 (0, 0)) (fun b11 =>
 stW Tryz.prog 35 (.pointer (some ⟨b11, 0, none⟩)) (.agg ⟨[.int .i64 x6, .int .i64 x7, .string x8, .int .i64 x9]⟩) (rdT (rdC b11 0) kI (fun (x12 : Int) => K (.int .i64 x12)))))))
theorem e110 (f_1 : Option Addr) (ino_2 : Int) (K : KH) : bodyF Tryz.prog tau Tryz.f110 an110 [.pointer f_1, .int .i64 ino_2] K = g110 f_1 ino_2 K := by kernel_rfl
theorem c110 (f_1 : Option Addr) (ino_2 : Int) {K : KH} {σ : H} (h : g110 f_1 ino_2 K σ) : callW Tryz.prog 110 [.pointer f_1, .int .i64 ino_2] K σ := call_of_body mixed Tryz.func110 (by rw [e110]; exact h)


def an123 : Ann := (.q (.n (.q (.h)) (.q .z)))
def g123 (t_1 : Option Addr) (K : KH) : H -> Prop :=
 brW t_1.isNone (K (.int .i64 0)) (K (.int .i64 1))
theorem e123 (t_1 : Option Addr) (K : KH) : bodyF Tryz.prog tau Tryz.f123 an123 [.pointer t_1] K = g123 t_1 K := by kernel_rfl
theorem c123 (t_1 : Option Addr) {K : KH} {σ : H} (h : g123 t_1 K σ) : callW Tryz.prog 123 [.pointer t_1] K σ := call_of_body mixed Tryz.func123 (by rw [e123]; exact h)


def an124 : Ann := (.q (.q (.n (.q (.h)) (.q .z))))
def g124 (t_1 : Option Addr) (dir_2 : Int) (K : KH) : H -> Prop :=
 callT Tryz.prog 138 [.pointer t_1, .int .i64 dir_2] kP (fun x3 => brW x3.isNone (K (.int .i64 0)) (ptrW x3 (fun b4 o5 => rdT (rdC b4 (o5 + 4)) kI (fun (x6 : Int) => K (.int .i64 x6)))))
theorem e124 (t_1 : Option Addr) (dir_2 : Int) (K : KH) : bodyF Tryz.prog tau Tryz.f124 an124 [.pointer t_1, .int .i64 dir_2] K = g124 t_1 dir_2 K := by kernel_rfl
theorem c124 (t_1 : Option Addr) (dir_2 : Int) {K : KH} {σ : H} (h : g124 t_1 dir_2 K σ) : callW Tryz.prog 124 [.pointer t_1, .int .i64 dir_2] K σ := call_of_body mixed Tryz.func124 (by rw [e124]; exact h)


def an125 : Ann := (.q (.q (.n (.q (.h)) (.q (.q .z)))))
def g125 (t_1 : Option Addr) (dir_2 : Int) (name_3 : ByteArray) (K : KH) : H -> Prop :=
 callT Tryz.prog 138 [.pointer t_1, .int .i64 dir_2] kP (fun x4 => brW x4.isNone (K (.tuple ⟨[.int .i64 0, .bool false]⟩)) (ptrW x4 (fun b5 o6 => rdT (rdC b5 (o6 + 5)) kM (fun (x7 : Option Nat) => rdT (rdM .string (.int .i64 0) true x7 (.string name_3)) (.tup [.sc (.int .i64), .sc .bool]) (fun (x8 : Int) (x9 : Bool) => K (.tuple ⟨[.int .i64 x8, .bool x9]⟩))))))
theorem e125 (t_1 : Option Addr) (dir_2 : Int) (name_3 : ByteArray) (K : KH) : bodyF Tryz.prog tau Tryz.f125 an125 [.pointer t_1, .int .i64 dir_2, .string name_3] K = g125 t_1 dir_2 name_3 K := by kernel_rfl
theorem c125 (t_1 : Option Addr) (dir_2 : Int) (name_3 : ByteArray) {K : KH} {σ : H} (h : g125 t_1 dir_2 name_3 K σ) : callW Tryz.prog 125 [.pointer t_1, .int .i64 dir_2, .string name_3] K σ := call_of_body mixed Tryz.func125 (by rw [e125]; exact h)


def an126 : Ann := (.q (.q (.q (.seq (some [(0,.p),(2,.s),(3,.b),(8,.p),(10,.i),(11,.p)]) (.seq (some [(0,.p),(1,.s),(2,.s),(3,.b),(8,.p),(10,.i),(11,.p),(20,.b)]) .r (.cond (.n (.q (.h)) (.n (.seq (some [(0,.p),(1,.s),(2,.s),(3,.b),(8,.p),(11,.p),(30,.b)]) .r (.h)) (.q (.n (.q (.h)) (.n (.q (.h)) (.n (.n (.reg (rn 12) [[],[0],[0,1],[0,1,2],[],[4],(rn 6),(rn 7),(rn 8),(rn 9),(rn 10),(rn 11)]) (.h)) (.q .r))))))) .z)) (.q .z)))))
def g126 (f_1 : Option Addr) (cwd_2 : ByteArray) (path_3 : ByteArray) (follow_4 : Bool) (K : KH) : H -> Prop :=
 alW (.cells ⟨[.int .i64 0, .string (⟨⟨[]⟩⟩ : ByteArray), .int .i64 0]⟩ 171 (0, 0)) (fun b5 => alW (.cells ⟨[.int .i64 0]⟩ 3 (0, 0)) (fun b6 => stW Tryz.prog 3 (.pointer (some ⟨b6, 0, none⟩)) (.int .i64 8) (letJ (T := Option Addr -> ByteArray -> Bool -> Option Addr -> Int -> Option Addr -> H -> Prop) (fun f_8 path_9 follow_10 x11 at_12 hops_13 =>
 callT Tryz.prog 185 [.pointer f_8, .int .i64 at_12, .string path_9, .bool follow_10, .pointer hops_13] (.tup [.agg [(.int .i64), .str, (.int .i64)], .sc (.int .i64)]) (fun (x14 : Int) (x15 : ByteArray) (x16 : Int) (x17 : Int) => stW Tryz.prog 171 (.pointer x11) (.agg ⟨[.int .i64 x14, .string x15, .int .i64 x16]⟩) (ptrW x11 (fun b18 o19 => rdT (rdA 3 b18 o19) (.one (.agg [(.int .i64), .str, (.int .i64)])) (fun (r20 : Int) (r21 : ByteArray) (r22 : Int) =>
 K (.tuple ⟨[.agg ⟨[.int .i64 r20, .string r21, .int .i64 r22]⟩, .int .i64 x17]⟩)))))) (fun j7 => letJ (T := Option Addr -> ByteArray -> ByteArray -> Bool -> Option Addr -> Int -> Option Addr -> Bool -> H -> Prop) (fun f_24 cwd_25 path_26 follow_27 x28 at_29 hops_30 x31 => brW x31 (brW (strEq path_26 (⟨⟨[]⟩⟩ : ByteArray)) (stW Tryz.prog 171 (.pointer x28) (.agg ⟨[.int .i64 0, .string (⟨⟨[]⟩⟩ : ByteArray), .int .i64 0]⟩) (ptrW x28 (fun b32 o33 =>
 rdT (rdA 3 b32 o33) (.one (.agg [(.int .i64), .str, (.int .i64)])) (fun (r34 : Int) (r35 : ByteArray) (r36 : Int) => K (.tuple ⟨[.agg ⟨[.int .i64 r34, .string r35, .int .i64 r36]⟩, .int .i64 5]⟩))))) (letJ (T := Option Addr -> ByteArray -> ByteArray -> Bool -> Option Addr -> Option Addr -> Bool -> H -> Prop) (fun f_38 cwd_39 path_40 follow_41 x42 hops_43 x44 => brW x44 (stW Tryz.prog 171 (.pointer x42) (.agg ⟨[.int .i64 0, .string (⟨⟨[]⟩⟩ : ByteArray), .int .i64 0]⟩) (ptrW x42 (fun b45 o46 =>
 rdT (rdA 3 b45 o46) (.one (.agg [(.int .i64), .str, (.int .i64)])) (fun (r47 : Int) (r48 : ByteArray) (r49 : Int) => K (.tuple ⟨[.agg ⟨[.int .i64 r47, .string r48, .int .i64 r49]⟩, .int .i64 5]⟩))))) (callT Tryz.prog 185 [.pointer f_38, .int .i64 0, .string cwd_39, .bool true, .pointer hops_43] (.tup [.agg [(.int .i64), .str, (.int .i64)], .sc (.int .i64)]) (fun (x50 : Int) (x51 : ByteArray) (x52 : Int) (x53 : Int) =>
 alW (.cells ⟨[.int .i64 0, .string (⟨⟨[]⟩⟩ : ByteArray), .int .i64 0]⟩ 171 (0, 0)) (fun b54 => stW Tryz.prog 171 (.pointer (some ⟨b54, 0, none⟩)) (.agg ⟨[.int .i64 x50, .string x51, .int .i64 x52]⟩) (brW ((x53 : Int) != 0) (stW Tryz.prog 171 (.pointer x42) (.agg ⟨[.int .i64 0, .string (⟨⟨[]⟩⟩ : ByteArray), .int .i64 0]⟩) (ptrW x42 (fun b55 o56 => rdT (rdA 3 b55 o56) (.one (.agg [(.int .i64), .str, (.int .i64)])) (fun (r57 : Int) (r58 : ByteArray) (r59 : Int) =>
 K (.tuple ⟨[.agg ⟨[.int .i64 r57, .string r58, .int .i64 r59]⟩, .int .i64 x53]⟩))))) (rdT (rdC b54 2) kI (fun (x60 : Int) => brW (decide ((x60 : Int) < 0)) (stW Tryz.prog 171 (.pointer x42) (.agg ⟨[.int .i64 0, .string (⟨⟨[]⟩⟩ : ByteArray), .int .i64 0]⟩) (ptrW x42 (fun b61 o62 => rdT (rdA 3 b61 o62) (.one (.agg [(.int .i64), .str, (.int .i64)])) (fun (r63 : Int) (r64 : ByteArray) (r65 : Int) => K (.tuple ⟨[.agg ⟨[.int .i64 r63, .string r64, .int .i64 r65]⟩, .int .i64 5]⟩)))))
 (ptrW f_38 (fun b66 o67 => rdT (rdC b66 (o67 + 2)) kL (fun x68 => rdT (rdC b54 2) kI (fun (x69 : Int) => ptrW x68.base (fun b70 o71 => ifW (0 <= x69 /\ x69 < ((x68.len : Nat) : Int)) (rdT (rdC b70 (o71 + x69.toNat * 1)) kP (fun x72 => ptrW x72 (fun b73 o74 => rdT (rdC b73 o74) kI (fun (x75 : Int) => brW ((x75 : Int) != 2) (stW Tryz.prog 171 (.pointer x42) (.agg ⟨[.int .i64 0, .string (⟨⟨[]⟩⟩ : ByteArray), .int .i64 0]⟩) (ptrW x42 (fun b76 o77 =>
 rdT (rdA 3 b76 o77) (.one (.agg [(.int .i64), .str, (.int .i64)])) (fun (r78 : Int) (r79 : ByteArray) (r80 : Int) => K (.tuple ⟨[.agg ⟨[.int .i64 r78, .string r79, .int .i64 r80]⟩, .int .i64 8]⟩))))) (rdT (rdC b54 2) kI (fun (x81 : Int) => stW Tryz.prog 3 (.pointer hops_43) (.int .i64 8) (j7 f_38 path_40 follow_41 x42 x81 hops_43))))))))))))))))))) (fun j37 => brW (strEq cwd_25 (⟨⟨[]⟩⟩ : ByteArray)) (j37 f_24 cwd_25 path_26 follow_27 x28 hops_30 true) (idxW cwd_25 0 (fun c82 =>
 j37 f_24 cwd_25 path_26 follow_27 x28 hops_30 (((c82.toNat : Int) : Int) != 47)))))) (j7 f_24 path_26 follow_27 x28 at_29 hops_30)) (fun j23 => brW (strEq path_3 (⟨⟨[]⟩⟩ : ByteArray)) (j23 f_1 cwd_2 path_3 follow_4 (some ⟨b5, 0, none⟩) 0 (some ⟨b6, 0, none⟩) true) (idxW path_3 0 (fun c83 => j23 f_1 cwd_2 path_3 follow_4 (some ⟨b5, 0, none⟩) 0 (some ⟨b6, 0, none⟩) (((c83.toNat : Int) : Int) != 47))))))))
theorem e126 (f_1 : Option Addr) (cwd_2 : ByteArray) (path_3 : ByteArray) (follow_4 : Bool) (K : KH) : bodyF Tryz.prog tau Tryz.f126 an126 [.pointer f_1, .string cwd_2, .string path_3, .bool follow_4] K = g126 f_1 cwd_2 path_3 follow_4 K := by kernel_rfl
theorem c126 (f_1 : Option Addr) (cwd_2 : ByteArray) (path_3 : ByteArray) (follow_4 : Bool) {K : KH} {σ : H} (h : g126 f_1 cwd_2 path_3 follow_4 K σ) : callW Tryz.prog 126 [.pointer f_1, .string cwd_2, .string path_3, .bool follow_4] K σ := call_of_body mixed Tryz.func126 (by rw [e126]; exact h)


def an127 : Ann := (.q (.q (.n (.blk (.loop [(0,.p),(1,.i),(5,.i)] (.n (.q (.cond .z .z)) (.blk (.q .r))))) (.q .z))))
def g127 (f_1 : Option Addr) (dir_2 : Int) (K : KH) : H -> Prop :=
 loopW [.sc .ptr, .sc (.int .i64), .sc (.int .i64)] (fun (R3 : Option Addr -> Int -> Int -> H -> Prop) => (fun (f_4 : Option Addr) (dir_5 : Int) (n_6 : Int) => brW ((dir_5 : Int) != 0) (ptrW f_4 (fun b7 o8 => rdT (rdC b7 (o8 + 2)) kL (fun x9 => ptrW x9.base (fun b10 o11 => ifW (0 <= dir_5 /\ dir_5 < ((x9.len : Nat) : Int)) (rdT (rdC b10 (o11 + dir_5.toNat * 1)) kP (fun x12 => ptrW x12 (fun b13 o14 => rdT (rdC b13 (o14 + 4)) kI (fun (x15 : Int) => R3 f_4 x15 (IntKind.i64.wrap (n_6 + 1))))))))))
 (K (.int .i64 n_6)))) (fun (R16 : Option Addr -> Int -> Int -> H -> Prop) => R16 f_1 dir_2 1)
theorem e127 (f_1 : Option Addr) (dir_2 : Int) (K : KH) : bodyF Tryz.prog tau Tryz.f127 an127 [.pointer f_1, .int .i64 dir_2] K = g127 f_1 dir_2 K := by kernel_rfl
theorem c127 (f_1 : Option Addr) (dir_2 : Int) {K : KH} {σ : H} (h : g127 f_1 dir_2 K σ) : callW Tryz.prog 127 [.pointer f_1, .int .i64 dir_2] K σ := call_of_body mixed Tryz.func127 (by rw [e127]; exact h)


def an128 : Ann := (.q (.n (.q (.h)) (.q (.n (.reg (rn 12) [[],[],[1],[],[3],[],[5],[5,6],[5,6,7],[5,6,7,8],[5,6,7,8,9],(rn 11)]) (.q .z)))))
def g128 (f_1 : Option Addr) (p_2 : Int) (p_3 : ByteArray) (p_4 : Int) (kind_5 : Int) (mode_6 : Int) (data_7 : ByteArray) (K : KH) : H -> Prop :=
 alW (.cells ⟨[.int .i64 p_2, .string p_3, .int .i64 p_4]⟩ 171 (0, 0)) (fun b8 => callT Tryz.prog 129 [.pointer f_1, .int .i64 1, .int .i64 ((data_7.size : Nat) : Int)] kB (fun x9 => brW (!x9) (K (.int .i64 10)) (ptrW f_1 (fun b10 o11 => rdT (rdC b10 (o11 + 2)) kL (fun x12 => alW (.cells ⟨[.int .i64 kind_5, .int .i64 mode_6, .string data_7, .slice none 0 0, .int .i64 0]⟩ 131 (0, 0)) (fun b13 => alW (.cells ⟨[.pointer (some ⟨b13, 0, none⟩)]⟩ 128 (0, 0)) (fun b14 =>
 biW Tryz.prog .append #[132, 132] 132 [false, false] [.slice x12.base x12.len x12.cap, .slice (some ⟨b14, 0, none⟩) 1 1] kL (fun x15 => ptrW f_1 (fun b16 o17 => stW Tryz.prog 132 (.pointer (some ⟨b16, o17 + 2, none⟩)) (.slice x15.base x15.len x15.cap) (rdT (rdC b8 0) kI (fun (x18 : Int) => rdT (rdC b8 1) kS (fun (x19 : ByteArray) => ptrW f_1 (fun b20 o21 => rdT (rdC b20 (o21 + 2)) kL (fun x22 =>
 callT Tryz.prog 145 [.pointer f_1, .int .i64 x18, .string x19, .int .i64 (IntKind.i64.wrap (((x22.len : Nat) : Int) - 1))] kU (K (.int .i64 0))))))))))))))))
theorem e128 (f_1 : Option Addr) (p_2 : Int) (p_3 : ByteArray) (p_4 : Int) (kind_5 : Int) (mode_6 : Int) (data_7 : ByteArray) (K : KH) : bodyF Tryz.prog tau Tryz.f128 an128 [.pointer f_1, .agg ⟨[.int .i64 p_2, .string p_3, .int .i64 p_4]⟩, .int .i64 kind_5, .int .i64 mode_6, .string data_7] K = g128 f_1 p_2 p_3 p_4 kind_5 mode_6 data_7 K := by kernel_rfl
theorem c128 (f_1 : Option Addr) (p_2 : Int) (p_3 : ByteArray) (p_4 : Int) (kind_5 : Int) (mode_6 : Int) (data_7 : ByteArray) {K : KH} {σ : H} (h : g128 f_1 p_2 p_3 p_4 kind_5 mode_6 data_7 K σ) : callW Tryz.prog 128 [.pointer f_1, .agg ⟨[.int .i64 p_2, .string p_3, .int .i64 p_4]⟩, .int .i64 kind_5, .int .i64 mode_6, .string data_7] K σ := call_of_body mixed Tryz.func128 (by rw [e128]; exact h)


def an129 : Ann := (.q (.q (.n (.reg (rn 23) [[],[0],[],[0,1,2],[],[4],[4,5],[4,5,6],[4,5,6,7],(rn 9),(rn 10),(rn 11),(rn 12),(rn 11),(rn 14),(rn 11),[0,1,2,3,4,5,6,7,8,9,10,15],[0,1,2,3,4,5,6,7,8,9,10,15,16],[0,1,2,3,4,5,6,7,8,9,10,15,16,17],[0,1,2,3,4,5,6,7,8,9,10,15,16,17,18],(rn 20),(rn 21),(rn 22)]) .z)))
def g129 (f_1 : Option Addr) (inodes_2 : Int) (bytes_3 : Int) (K : KH) : H -> Prop :=
 callT Tryz.prog 40 [.pointer f_1] (.one (.agg [(.int .i64), (.int .i64)])) (fun (x4 : Int) (x5 : Int) => alW (.cells ⟨[.int .i64 0, .int .i64 0]⟩ 64 (0, 0)) (fun b6 => stW Tryz.prog 64 (.pointer (some ⟨b6, 0, none⟩)) (.agg ⟨[.int .i64 x4, .int .i64 x5]⟩) (rdT (rdC b6 0) kI (fun (x7 : Int) => ptrW f_1 (fun b8 o9 => rdT (rdC b8 o9) kI (fun (x10 : Int) => brW (decide (((IntKind.i64.wrap (x7 + inodes_2)) : Int) <= x10)) (rdT (rdC b6 1) kI (fun (x11 : Int) => ptrW f_1 (fun b12 o13 =>
 rdT (rdC b12 (o13 + 1)) kI (fun (x14 : Int) => K (.bool (decide (((IntKind.i64.wrap (x11 + bytes_3)) : Int) <= x14))))))) (K (.bool false))))))))
theorem e129 (f_1 : Option Addr) (inodes_2 : Int) (bytes_3 : Int) (K : KH) : bodyF Tryz.prog tau Tryz.f129 an129 [.pointer f_1, .int .i64 inodes_2, .int .i64 bytes_3] K = g129 f_1 inodes_2 bytes_3 K := by kernel_rfl
theorem c129 (f_1 : Option Addr) (inodes_2 : Int) (bytes_3 : Int) {K : KH} {σ : H} (h : g129 f_1 inodes_2 bytes_3 K σ) : callW Tryz.prog 129 [.pointer f_1, .int .i64 inodes_2, .int .i64 bytes_3] K σ := call_of_body mixed Tryz.func129 (by rw [e129]; exact h)


def an130 : Ann := (.q (.q .z))
def g130 (s_1 : Sl) (f_2 : Value) (K : KH) : H -> Prop :=
 callT Tryz.prog 186 [.slice s_1.base s_1.len s_1.cap, f_2] kI (fun (x3 : Int) => K (.bool (decide ((x3 : Int) >= 0))))
theorem e130 (s_1 : Sl) (f_2 : Value) (K : KH) : bodyF Tryz.prog tau Tryz.f130 an130 [.slice s_1.base s_1.len s_1.cap, f_2] K = g130 s_1 f_2 K := by kernel_rfl
theorem c130 (s_1 : Sl) (f_2 : Value) {K : KH} {σ : H} (h : g130 s_1 f_2 K σ) : callW Tryz.prog 130 [.slice s_1.base s_1.len s_1.cap, f_2] K σ := call_of_body mixed Tryz.func130 (by rw [e130]; exact h)


def an131 : Ann := (.q (.q (.seq (some [(3,.p)]) (.q (.blk (.rf [.agg [(.int .u8),.bool]] .r (.blk .r)))) (.q (.n (.blk (.loop [(3,.p),(5,.l)] (.n (.q (.cond .z .z)) (.blk (.q (.q (.seq (some [(3,.p),(5,.l)]) (.blk (.q (.cond (.q (.q .z)) (.q (.cond .r (.q (.cond .r .r))))))) .r))))))) (.q .z))))))
def g131 (p_1 : Sl) (K : KH) : H -> Prop :=
 alW (.cells ⟨[.slice none 0 0]⟩ 229 (0, 0)) (fun b2 => letJ (T := Option Addr -> H -> Prop) (fun l_4 => loopW [.sc .ptr, .sc .slc] (fun (R5 : Option Addr -> Sl -> H -> Prop) => (fun l_6 out_7 => ptrW l_6 (fun b8 o9 => rdT (rdC b8 o9) kL (fun x10 => brW (decide ((((x10.len : Nat) : Int) : Int) > 0)) (ptrW l_6 (fun b11 o12 => rdT (rdC b11 o12) kL (fun x13 => ptrW x13.base (fun b14 o15 => ifW (0 <= (0 : Int) /\ (0 : Int) < ((x13.len : Nat) : Int))
 (rdT (rdA 2 b14 (o15 + (0 : Int).toNat * 2)) (.one (.agg [(.int .u8), .bool])) (fun (x16 : Int) (x17 : Bool) => alW (.cells ⟨[.int .u8 0, .bool false]⟩ 234 (0, 0)) (fun b18 => stW Tryz.prog 234 (.pointer (some ⟨b18, 0, none⟩)) (.agg ⟨[.int .u8 x16, .bool x17]⟩) (ptrW l_6 (fun b19 o20 => rdT (rdC b19 o20) kL (fun x21 => callT Tryz.prog 188 [.slice x21.base x21.len x21.cap] (.tup [.sc .raw, .sc (.int .i64)]) (fun (x22 : Value) (x23 : Int) =>
 letJ (T := Option Addr -> Sl -> H -> Prop) (fun l_25 out_26 => ptrW l_25 (fun b27 o28 => rdT (rdC b27 o28) kL (fun x29 => ifW (bndOk none x29.cap /\ bndOk (some 1) x29.len) (stW Tryz.prog 229 (.pointer l_25) (.slice (slBase x29.base ((1 : Int).toNat) x29.cap 2) (x29.len - ((1 : Int).toNat)) (x29.cap - ((1 : Int).toNat))) (R5 l_25 out_26))))) (fun j24 => brW (decide ((x23 : Int) > 0)) (oneK x22 (alW (.cells ⟨[.bool false, x22, .bool true]⟩ 180 (0, 0)) (fun b30 =>
 biW Tryz.prog .append #[177, 177] 177 [false, false] [.slice out_7.base out_7.len out_7.cap, .slice (some ⟨b30, 0, none⟩) 1 1] kL (fun x31 => ptrW l_6 (fun b32 o33 => rdT (rdC b32 o33) kL (fun x34 => ifW (bndOk none x34.cap /\ bndOk (some x23) x34.len) (stW Tryz.prog 229 (.pointer l_6) (.slice (slBase x34.base x23.toNat x34.cap 2) (x34.len - x23.toNat) (x34.cap - x23.toNat)) (R5 l_6 x31)))))))) (rdT (rdA 2 b18 0) (.one (.agg [(.int .u8), .bool])) (fun (x35 : Int) (x36 : Bool) =>
 callT Tryz.prog 189 [.agg ⟨[.int .u8 x35, .bool x36]⟩, .string (⟨⟨[42]⟩⟩ : ByteArray)] kB (fun x37 => brW x37 (alW (.cells ⟨[.bool true, .nilFunc, .bool true]⟩ 180 (0, 0)) (fun b38 => biW Tryz.prog .append #[177, 177] 177 [false, false] [.slice out_7.base out_7.len out_7.cap, .slice (some ⟨b38, 0, none⟩) 1 1] kL (fun x39 => j24 l_6 x39))) (rdT (rdA 2 b18 0) (.one (.agg [(.int .u8), .bool])) (fun (x40 : Int) (x41 : Bool) =>
 callT Tryz.prog 189 [.agg ⟨[.int .u8 x40, .bool x41]⟩, .string (⟨⟨[63]⟩⟩ : ByteArray)] kB (fun x42 => brW x42 (alW (.cells ⟨[.bool false, .func (.func 190) ⟨[]⟩ ⟨[]⟩, .bool true]⟩ 180 (0, 0)) (fun b43 => biW Tryz.prog .append #[177, 177] 177 [false, false] [.slice out_7.base out_7.len out_7.cap, .slice (some ⟨b43, 0, none⟩) 1 1] kL (fun x44 => j24 l_6 x44))) (alW (.cells ⟨[.bool false, .func (.func 191) ⟨[]⟩ ⟨[.pointer (some ⟨b18, 0, none⟩)]⟩, .bool false]⟩ 180 (0, 0)) (fun b45 =>
 biW Tryz.prog .append #[177, 177] 177 [false, false] [.slice out_7.base out_7.len out_7.cap, .slice (some ⟨b45, 0, none⟩) 1 1] kL (fun x46 => j24 l_6 x46))))))))))))))))))))) (K (.slice out_7.base out_7.len out_7.cap)))))) (fun (R47 : Option Addr -> Sl -> H -> Prop) => R47 l_4 ⟨none, 0, 0⟩)) (fun j3 => callT Tryz.prog 187 [.slice p_1.base p_1.len p_1.cap] kR (fun x48 => funW x48 (fun (g61 : FuncId) (as62 cs63 : List Value) =>
 rfW Tryz.prog none g61 as62 cs63 [.agg [(.int .u8), .bool]] (fun (l49 : Nat) (obj50 : LoopState -> Option Code -> Obj) (K51 : Value -> H -> Prop) => (fun (x52 : Int) (x53 : Bool) => alW (.cells ⟨[.int .u8 0, .bool false]⟩ 234 (0, 0)) (fun b54 => stW Tryz.prog 234 (.pointer (some ⟨b54, 0, none⟩)) (.agg ⟨[.int .u8 x52, .bool x53]⟩) (begW l49 obj50 (rdT (rdC b2 0) kL (fun x55 => rdT (rdA 2 b54 0) (.one (.agg [(.int .u8), .bool])) (fun (x56 : Int) (x57 : Bool) =>
 alW (.cells ⟨[.int .u8 x56, .bool x57]⟩ 234 (0, 0)) (fun b58 => biW Tryz.prog .append #[229, 229] 229 [false, false] [.slice x55.base x55.len x55.cap, .slice (some ⟨b58, 0, none⟩) 1 1] kL (fun x59 => stW Tryz.prog 229 (.pointer (some ⟨b2, 0, none⟩)) (.slice x59.base x59.len x59.cap) (roundK l49 obj50 K51 none true .ready)))))))))) (j3 (some ⟨b2, 0, none⟩)) (fun i60 => exW i60 0 (j3 (some ⟨b2, 0, none⟩)) (nW)) (K (.slice none 0 0))))))
theorem e131 (p_1 : Sl) (K : KH) : bodyF Tryz.prog tau Tryz.f131 an131 [.slice p_1.base p_1.len p_1.cap] K = g131 p_1 K := by kernel_rfl
theorem c131 (p_1 : Sl) {K : KH} {σ : H} (h : g131 p_1 K σ) : callW Tryz.prog 131 [.slice p_1.base p_1.len p_1.cap] K σ := call_of_body mixed Tryz.func131 (by rw [e131]; exact h)


def an132 : Ann := (.q (.q .z))
def g132 (x_1 : Bool) (x_2 : Value) (x_3 : Bool) (K : KH) : H -> Prop :=
 alW (.cells ⟨[.bool x_1, x_2, .bool x_3]⟩ 180 (0, 0)) (fun b4 => rdT (rdC b4 2) kB (fun x5 => K (.bool x5)))
theorem e132 (x_1 : Bool) (x_2 : Value) (x_3 : Bool) (K : KH) : bodyF Tryz.prog tau Tryz.f132 an132 [.agg ⟨[.bool x_1, x_2, .bool x_3]⟩] K = g132 x_1 x_2 x_3 K := by kernel_rfl
theorem c132 (x_1 : Bool) (x_2 : Value) (x_3 : Bool) {K : KH} {σ : H} (h : g132 x_1 x_2 x_3 K σ) : callW Tryz.prog 132 [.agg ⟨[.bool x_1, x_2, .bool x_3]⟩] K σ := call_of_body mixed Tryz.func132 (by rw [e132]; exact h)


def an133 : Ann := (.q (.q .z))
def g133 (seq_1 : Value) (K : KH) : H -> Prop :=
 callT Tryz.prog 192 [.slice none 0 0, seq_1] kL (fun x2 => K (.slice x2.base x2.len x2.cap))
theorem e133 (seq_1 : Value) (K : KH) : bodyF Tryz.prog tau Tryz.f133 an133 [seq_1] K = g133 seq_1 K := by kernel_rfl
theorem c133 (seq_1 : Value) {K : KH} {σ : H} (h : g133 seq_1 K σ) : callW Tryz.prog 133 [seq_1] K σ := call_of_body mixed Tryz.func133 (by rw [e133]; exact h)


def an135 : Ann := (.q (.n (.q (.h)) (.q (.q (.seq (some [(1,.p),(3,.p),(4,.p),(6,.l)]) (.blk (.q (.cond (.n (.reg (rn 16) [[],[0],[0,1],[0,1,2],[],[4],[4,5],[4,5,6],[],(rn 9),(rn 10),(rn 11),(rn 11),[],[0,1,2,3,4,5,6,7,8,9,10,11,13],(rn 15)]) (.seq (some [(1,.p),(2,.p),(3,.p),(4,.p),(5,.p),(6,.l),(74,.b)]) .r (.cond (.reg (rn 7) [[],[],[1],[1,2],(rn 4),(rn 5),(rn 6)]) .z))) (.q (.cond (.q (.blk (.loop [(1,.p),(2,.p),(3,.p),(4,.p),(6,.l),(88,.l),(89,.i),(90,.i)] (.q (.n (.cond .z .z) (.n (.blk (.q .r)) .r)))))) (.n (.reg (rn 6) [[],[],[1],[1,2],(rn 4),(rn 5)]) (.n (.reg (rn 16) [[],[0],[0,1],[0,1,2],[],[4],[4,5],[4,5,6],[],(rn 9),(rn 10),(rn 11),(rn 11),[],[0,1,2,3,4,5,6,7,8,9,10,11,13],(rn 15)]) (.q (.cond .r .z))))))))) (.q (.blk (.loop [(1,.p),(3,.p),(4,.p),(101,.l),(102,.i),(103,.i)] (.q (.n (.cond .z .z) (.seq (some [(1,.p),(3,.p),(4,.p),(101,.l),(102,.i),(103,.i)]) (.blk (.q (.n (.reg (rn 5) [[],[],[],[2],(rn 4)]) (.blk (.rf [.s] .r (.blk (.q (.cond .z .z)))))))) .r)))))))))))
def g135 (yield_1 : Value) (x2 : Option Addr) (x3 : Option Addr) (x4 : Option Addr) (K : KH) : H -> Prop :=
 oneK yield_1 (alW (.cells ⟨[yield_1]⟩ 184 (0, 0)) (fun b5 => ptrW x2 (fun b6 o7 => rdT (rdC b6 o7) kL (fun x8 => brW ((((x8.len : Nat) : Int) : Int) == 0) (rdT (rdC b5 0) kR (fun x9 => ptrW x3 (fun b10 o11 => rdT (rdC b10 o11) kS (fun (x12 : ByteArray) => cvalT Tryz.prog x9 [.string x12] kB (fun _x13 => K (.tuple ⟨[]⟩)))))) (ptrW x2 (fun b14 o15 => rdT (rdC b14 o15) kL (fun x16 => ptrW x16.base (fun b17 o18 => ifW (0 <= (0 : Int) /\ (0 : Int) < ((x16.len : Nat) : Int))
 (rdT (rdA 2 b17 (o18 + (0 : Int).toNat * 2)) (.one (.agg [.slc, .bool])) (fun x19 x20 => alW (.cells ⟨[.slice none 0 0, .bool false]⟩ 186 (0, 0)) (fun b21 => stW Tryz.prog 186 (.pointer (some ⟨b21, 0, none⟩)) (.agg ⟨[.slice x19.base x19.len x19.cap, .bool x20]⟩) (letJ (T := Option Addr -> Option Addr -> Option Addr -> Sl -> H -> Prop) (fun x23 x24 yield_25 next_26 =>
 loopW [.sc .ptr, .sc .ptr, .sc .ptr, .sc .slc, .sc (.int .i64), .sc (.int .i64)] (fun (R27 : Option Addr -> Option Addr -> Option Addr -> Sl -> Int -> Int -> H -> Prop) => (fun (x28 : Option Addr) (x29 : Option Addr) (yield_30 : Option Addr) (x31 : Sl) (x32 : Int) (x33 : Int) => brW (decide ((x33 : Int) < x32)) (letJ (T := Option Addr -> Option Addr -> Option Addr -> Sl -> Int -> Int -> H -> Prop) (fun x35 x36 yield_37 x38 x39 x40 => R27 x35 x36 yield_37 x38 x39 (IntKind.i64.wrap (x40 + 1))) (fun j34 =>
 ptrW x31.base (fun b41 o42 => ifW (0 <= x33 /\ x33 < ((x31.len : Nat) : Int)) (rdT (rdC b41 (o42 + x33.toNat * 1)) kS (fun (x43 : ByteArray) => ptrW x29 (fun b44 o45 => rdT (rdC b44 o45) kP (fun x46 => ptrW x28 (fun b47 o48 => rdT (rdC b47 o48) kL (fun x49 => ifW (bndOk none x49.cap /\ bndOk (some 1) x49.len) (callT Tryz.prog 67 [.pointer x46, .string x43, .slice (slBase x49.base ((1 : Int).toNat) x49.cap 2) (x49.len - ((1 : Int).toNat)) (x49.cap - ((1 : Int).toNat))] kR (fun x50 =>
 funW x50 (fun (g60 : FuncId) (as61 cs62 : List Value) => rfW Tryz.prog none g60 as61 cs62 [.sc .str] (fun (l51 : Nat) (obj52 : LoopState -> Option Code -> Obj) (K53 : Value -> H -> Prop) => (fun (x54 : ByteArray) => begW l51 obj52 (ptrW yield_30 (fun b55 o56 => rdT (rdC b55 o56) kR (fun x57 => cvalT Tryz.prog x57 [.string x54] kB (fun x58 => brW (!x58) (roundK l51 obj52 K53 (some .ret) false .done) (roundK l51 obj52 K53 none true .ready))))))) (j34 x28 x29 yield_30 x31 x32 x33)
 (fun i59 => exW i59 5 (j34 x28 x29 yield_30 x31 x32 x33) (exW i59 4 (j34 x28 x29 yield_30 x31 x32 x33) (exW i59 3 (K (.tuple ⟨[]⟩)) (nW)))) (K (.tuple ⟨[]⟩)))))))))))))) (K (.tuple ⟨[]⟩)))) (fun (R63 : Option Addr -> Option Addr -> Option Addr -> Sl -> Int -> Int -> H -> Prop) => R63 x23 x24 yield_25 next_26 ((next_26.len : Nat) : Int) 0)) (fun j22 => rdT (rdC b21 1) kB (fun x64 => brW x64 (ptrW x4 (fun b65 o66 => rdT (rdC b65 o66) kP (fun x67 => ptrW x67 (fun b68 o69 =>
 rdT (rdC b68 o69) kP (fun x70 => ptrW x4 (fun b71 o72 => rdT (rdC b71 o72) kP (fun x73 => ptrW x73 (fun b74 o75 => rdT (rdC b74 (o75 + 1)) kS (fun (x76 : ByteArray) => ptrW x3 (fun b77 o78 => rdT (rdC b77 o78) kS (fun (x79 : ByteArray) => callT Tryz.prog 15 [.pointer x70, .string x76, .string x79, .bool true] (.tup [.agg [(.int .i64), (.int .i64), .str, (.int .i64)], .sc (.int .i64)]) (fun (x80 : Int) (x81 : Int) (x82 : ByteArray) (x83 : Int) (x84 : Int) =>
 alW (.cells ⟨[.int .i64 0, .int .i64 0, .string (⟨⟨[]⟩⟩ : ByteArray), .int .i64 0]⟩ 35 (0, 0)) (fun b85 => stW Tryz.prog 35 (.pointer (some ⟨b85, 0, none⟩)) (.agg ⟨[.int .i64 x80, .int .i64 x81, .string x82, .int .i64 x83]⟩) (letJ (T := Option Addr -> Option Addr -> Option Addr -> Option Addr -> Option Addr -> Sl -> Bool -> H -> Prop) (fun x87 x88 x89 yield_90 p_91 next_92 x93 => brW x93 (ptrW x88 (fun b94 o95 => rdT (rdC b94 o95) kS (fun (x96 : ByteArray) => ptrW p_91 (fun b97 o98 =>
 rdT (rdC b97 o98) kL (fun x99 => callT Tryz.prog 27 [.slice x99.base x99.len x99.cap] kS (fun (x100 : ByteArray) => andW (fun σ => (rdC b94 o95) σ = some (.string x96)) (ifW (x96.size + x100.size <= 9223372036854775807) (alW (.cells ⟨[.string (x96 ++ x100)]⟩ 9 (0, 0)) (fun b101 => j22 x87 x89 yield_90 ⟨(some ⟨b101, 0, none⟩), 1, 1⟩))))))))) (j22 x87 x89 yield_90 next_92)) (fun j86 => ptrW x3 (fun b102 o103 => rdT (rdC b102 o103) kS (fun (x104 : ByteArray) =>
 brW (strEq x104 (⟨⟨[]⟩⟩ : ByteArray)) (j86 x2 x3 x4 (some ⟨b5, 0, none⟩) (some ⟨b21, 0, none⟩) ⟨none, 0, 0⟩ true) (brW ((x84 : Int) == 0) (rdT (rdC b85 0) kI (fun (x105 : Int) => j86 x2 x3 x4 (some ⟨b5, 0, none⟩) (some ⟨b21, 0, none⟩) ⟨none, 0, 0⟩ ((x105 : Int) == 2))) (j86 x2 x3 x4 (some ⟨b5, 0, none⟩) (some ⟨b21, 0, none⟩) ⟨none, 0, 0⟩ false))))))))))))))))))) (rdT (rdC b21 0) kL (fun x106 => callT Tryz.prog 65 [.slice x106.base x106.len x106.cap] kB (fun x107 => brW x107
 (ptrW x4 (fun b108 o109 => rdT (rdC b108 o109) kP (fun x110 => ptrW x3 (fun b111 o112 => rdT (rdC b111 o112) kS (fun (x113 : ByteArray) => rdT (rdA 2 b21 0) (.one (.agg [.slc, .bool])) (fun x114 x115 => callT Tryz.prog 136 [.pointer x110, .string x113, .agg ⟨[.slice x114.base x114.len x114.cap, .bool x115]⟩] kL (fun x116 =>
 loopW [.sc .ptr, .sc .ptr, .sc .ptr, .sc .ptr, .sc .slc, .sc .slc, .sc (.int .i64), .sc (.int .i64)] (fun (R117 : Option Addr -> Option Addr -> Option Addr -> Option Addr -> Sl -> Sl -> Int -> Int -> H -> Prop) => (fun (x118 : Option Addr) (x119 : Option Addr) (x120 : Option Addr) (yield_121 : Option Addr) (next_122 : Sl) (x123 : Sl) (x124 : Int) (x125 : Int) => brW (decide ((x125 : Int) < x124)) (ptrW x123.base (fun b126 o127 => ifW (0 <= x125 /\ x125 < ((x123.len : Nat) : Int))
 (rdT (rdC b126 (o127 + x125.toNat * 1)) kS (fun (x128 : ByteArray) => ptrW x119 (fun b129 o130 => rdT (rdC b129 o130) kS (fun (x131 : ByteArray) => ifW (x131.size + x128.size <= 9223372036854775807) (alW (.cells ⟨[.string (x131 ++ x128)]⟩ 9 (0, 0)) (fun b132 => biW Tryz.prog .append #[22, 22] 22 [false, false] [.slice next_122.base next_122.len next_122.cap, .slice (some ⟨b132, 0, none⟩) 1 1] kL (fun x133 => R117 x118 x119 x120 yield_121 x133 x123 x124 (IntKind.i64.wrap (x125 + 1)))))))))))
 (j22 x118 x120 yield_121 next_122))) (fun (R134 : Option Addr -> Option Addr -> Option Addr -> Option Addr -> Sl -> Sl -> Int -> Int -> H -> Prop) => R134 x2 x3 x4 (some ⟨b5, 0, none⟩) ⟨none, 0, 0⟩ x116 ((x116.len : Nat) : Int) 0)))))))) (ptrW x3 (fun b135 o136 => rdT (rdC b135 o136) kS (fun (x137 : ByteArray) => rdT (rdC b21 0) kL (fun x138 => callT Tryz.prog 27 [.slice x138.base x138.len x138.cap] kS (fun (x139 : ByteArray) => andW (fun σ => (rdC b135 o136) σ = some (.string x137))
 (ifW (x137.size + x139.size <= 9223372036854775807) (ptrW x4 (fun b140 o141 => rdT (rdC b140 o141) kP (fun x142 => ptrW x142 (fun b143 o144 => rdT (rdC b143 o144) kP (fun x145 => ptrW x4 (fun b146 o147 => rdT (rdC b146 o147) kP (fun x148 => ptrW x148 (fun b149 o150 => rdT (rdC b149 (o150 + 1)) kS (fun (x151 : ByteArray) =>
 callT Tryz.prog 15 [.pointer x145, .string x151, .string (x137 ++ x139), .bool false] (.tup [.agg [(.int .i64), (.int .i64), .str, (.int .i64)], .sc (.int .i64)]) (fun (x152 : Int) (x153 : Int) (x154 : ByteArray) (x155 : Int) (x156 : Int) => alW (.cells ⟨[.int .i64 0, .int .i64 0, .string (⟨⟨[]⟩⟩ : ByteArray), .int .i64 0]⟩ 35 (0, 0)) (fun b157 => stW Tryz.prog 35 (.pointer (some ⟨b157, 0, none⟩)) (.agg ⟨[.int .i64 x152, .int .i64 x153, .string x154, .int .i64 x155]⟩) (brW ((x156 : Int) == 0)
 (alW (.cells ⟨[.string (x137 ++ x139)]⟩ 9 (0, 0)) (fun b158 => j22 x2 x4 (some ⟨b5, 0, none⟩) ⟨(some ⟨b158, 0, none⟩), 1, 1⟩)) (j22 x2 x4 (some ⟨b5, 0, none⟩) ⟨none, 0, 0⟩))))))))))))))))))))))))))))))))))))
theorem e135 (yield_1 : Value) (x2 : Option Addr) (x3 : Option Addr) (x4 : Option Addr) (K : KH) : bodyF Tryz.prog tau Tryz.f135 an135 [yield_1, .pointer x2, .pointer x3, .pointer x4] K = g135 yield_1 x2 x3 x4 K := by kernel_rfl
theorem c135 (yield_1 : Value) (x2 : Option Addr) (x3 : Option Addr) (x4 : Option Addr) {K : KH} {σ : H} (h : g135 yield_1 x2 x3 x4 K σ) : callW Tryz.prog 135 [yield_1, .pointer x2, .pointer x3, .pointer x4] K σ := call_of_body mixed Tryz.func135 (by rw [e135]; exact h)


def an136 : Ann := (.q (.seq (some [(0,.p),(1,.s),(5,.p)]) (.q (.cond .r .z)) (.n (.reg (rn 15) [[],[0],[0,1],[0,1,2],[],[4],[4,5],[4,5,6],[],(rn 9),(rn 10),(rn 11),(rn 11),(rn 12),(rn 14)]) (.n (.q (.h)) (.q (.q (.q .z)))))))
def g136 (s_1 : Option Addr) (dir_2 : ByteArray) (p_3 : Sl) (p_4 : Bool) (K : KH) : H -> Prop :=
 alW (.cells ⟨[.slice p_3.base p_3.len p_3.cap, .bool p_4]⟩ 186 (0, 0)) (fun b5 => letJ (T := Option Addr -> ByteArray -> Option Addr -> H -> Prop) (fun s_7 dir_8 p_9 => ptrW s_7 (fun b10 o11 => rdT (rdC b10 o11) kP (fun x12 => ptrW s_7 (fun b13 o14 => rdT (rdC b13 (o14 + 1)) kS (fun (x15 : ByteArray) => callT Tryz.prog 17 [.pointer x12, .string x15, .string dir_8] (.tup [.sc .slc, .sc (.int .i64)]) (fun (x16 : Sl) (x17 : Int) => brW ((x17 : Int) != 0) (K (.slice none 0 0))
 (ptrW s_7 (fun b18 o19 => rdT (rdC b18 (o19 + 2)) kI (fun (x20 : Int) => ptrW s_7 (fun b21 o22 => stW Tryz.prog 3 (.pointer (some ⟨b21, o22 + 2, none⟩)) (.int .i64 (IntKind.i64.wrap (x20 + ((x16.len : Nat) : Int)))) (ptrW p_9 (fun b23 o24 => rdT (rdC b23 o24) kL (fun x25 => callT Tryz.prog 27 [.slice x25.base x25.len x25.cap] kS (fun (x26 : ByteArray) => callT Tryz.prog 106 [.string x26, .string (⟨⟨[46]⟩⟩ : ByteArray)] kB (fun x27 => alW (.cells ⟨[.bool false]⟩ 4 (0, 0)) (fun b28 =>
 stW Tryz.prog 4 (.pointer (some ⟨b28, 0, none⟩)) (.bool x27) (callT Tryz.prog 195 [.slice x16.base x16.len x16.cap, .func (.func 196) ⟨[]⟩ ⟨[.pointer (some ⟨b28, 0, none⟩), .pointer p_9]⟩] kL (fun x29 => K (.slice x29.base x29.len x29.cap))))))))))))))))))) (fun j6 => brW (strEq dir_2 (⟨⟨[]⟩⟩ : ByteArray)) (j6 s_1 (⟨⟨[46]⟩⟩ : ByteArray) (some ⟨b5, 0, none⟩)) (j6 s_1 dir_2 (some ⟨b5, 0, none⟩))))
theorem e136 (s_1 : Option Addr) (dir_2 : ByteArray) (p_3 : Sl) (p_4 : Bool) (K : KH) : bodyF Tryz.prog tau Tryz.f136 an136 [.pointer s_1, .string dir_2, .agg ⟨[.slice p_3.base p_3.len p_3.cap, .bool p_4]⟩] K = g136 s_1 dir_2 p_3 p_4 K := by kernel_rfl
theorem c136 (s_1 : Option Addr) (dir_2 : ByteArray) (p_3 : Sl) (p_4 : Bool) {K : KH} {σ : H} (h : g136 s_1 dir_2 p_3 p_4 K σ) : callW Tryz.prog 136 [.pointer s_1, .string dir_2, .agg ⟨[.slice p_3.base p_3.len p_3.cap, .bool p_4]⟩] K σ := call_of_body mixed Tryz.func136 (by rw [e136]; exact h)


def an137 : Ann := (.q (.q (.n (.blk (.seq (some [(0,.s),(1,.s),(5,.i),(16,.b)]) .r (.cond (.q .z) (.q (.cond (.q .z) (.q (.cond (.q .z) (.seq (some [(0,.s),(1,.s),(5,.i),(36,.b)]) .r (.h))))))))) (.q (.q (.q (.q (.q (.n (.blk (.loop [(0,.s),(1,.s),(5,.i),(6,.sc (.int .u8)),(7,.sc (.int .u8)),(8,.i),(9,.i),(10,.i)] (.n (.q (.cond .z .z)) (.blk (.seq (some [(0,.s),(1,.s),(5,.i),(6,.sc (.int .u8)),(7,.sc (.int .u8)),(8,.i),(9,.i),(10,.i)]) (.q (.cond (.q (.n (.q (.h)) .r)) .z)) (.n (.seq (some [(0,.s),(1,.s),(5,.i),(6,.sc (.int .u8)),(7,.sc (.int .u8)),(8,.i),(9,.i),(10,.i),(85,.w),(86,.w),(87,.w),(88,.w),(89,.w),(90,.w),(91,.w),(92,.w),(93,.b)]) .r (.h)) (.q (.q (.seq (some [(0,.s),(1,.s),(5,.i),(6,.sc (.int .u8)),(7,.sc (.int .u8)),(8,.i),(9,.i),(10,.i),(85,.w),(86,.w),(87,.w),(88,.w),(89,.w),(90,.w),(91,.w),(92,.w),(103,.w),(104,.w),(105,.w),(106,.w),(107,.b)]) .r (.cond (.q (.n (.q (.h)) (.q .z))) (.seq (some [(0,.s),(1,.s),(5,.i),(6,.sc (.int .u8)),(7,.sc (.int .u8)),(8,.i),(9,.i),(10,.i),(85,.w),(86,.w),(87,.w),(88,.w),(89,.w),(90,.w),(91,.w),(92,.w),(103,.w),(104,.w),(105,.w),(106,.w),(122,.w),(123,.w),(124,.w),(125,.w),(126,.w),(129,.w),(130,.w),(131,.w),(132,.b)]) .r (.cond (.q (.n (.q (.h)) (.q .z))) .z)))))))))))) (.q .z))))))))))
def g137 (s_1 : ByteArray) (substr_2 : ByteArray) (K : KH) : H -> Prop :=
 letJ (T := ByteArray -> ByteArray -> Int -> Bool -> H -> Prop) (fun s_4 substr_5 n_6 x7 => brW x7 (K (.int .i64 0)) (brW ((n_6 : Int) == 1) (idxW substr_5 0 (fun c8 => callT Tryz.prog 79 [.string s_4, .int .u8 (c8.toNat : Int)] kI (fun (x9 : Int) => K (.int .i64 x9)))) (brW (decide ((n_6 : Int) >= ((s_4.size : Nat) : Int))) (K (.int .i64 (-1))) (letJ (T := ByteArray -> ByteArray -> Int -> Bool -> H -> Prop) (fun s_11 substr_12 n_13 x14 => brW x14
 (cvalT Tryz.prog (.func (.func 198) ⟨[]⟩ ⟨[]⟩) [.string s_11, .string substr_12] kI (fun (x15 : Int) => K (.int .i64 x15))) (idxW substr_12 0 (fun c16 => idxW substr_12 1 (fun c17 =>
 loopW [.sc .str, .sc .str, .sc (.int .i64), .sc (.int .u8), .sc (.int .u8), .sc (.int .i64), .sc (.int .i64), .sc (.int .i64)] (fun (R18 : ByteArray -> ByteArray -> Int -> Int -> Int -> Int -> Int -> Int -> H -> Prop) => (fun (s_19 : ByteArray) (substr_20 : ByteArray) (n_21 : Int) (c0_22 : Int) (c1_23 : Int) (i_24 : Int) (t_25 : Int) (fails_26 : Int) => brW (decide ((i_24 : Int) < t_25))
 (letJ (T := ByteArray -> ByteArray -> Int -> Int -> Int -> Int -> Int -> Int -> H -> Prop) (fun s_28 substr_29 n_30 c0_31 c1_32 i_33 t_34 fails_35 => letJ (T := ByteArray -> ByteArray -> Int -> Int -> Int -> Int -> Int -> Int -> Value -> Value -> Value -> Value -> Value -> Value -> Value -> Value -> Bool -> H -> Prop) (fun s_37 substr_38 n_39 c0_40 c1_41 i_42 t_43 fails_44 x45 x46 x47 x48 x49 x50 x51 x52 x53 => brW x53 (K (.int .i64 i_42))
 (letJ (T := ByteArray -> ByteArray -> Int -> Int -> Int -> Int -> Int -> Int -> Value -> Value -> Value -> Value -> Value -> Value -> Value -> Value -> Value -> Value -> Value -> Value -> Bool -> H -> Prop) (fun s_55 substr_56 n_57 c0_58 c1_59 i_60 t_61 fails_62 x63 x64 x65 x66 x67 x68 x69 x70 x71 x72 x73 x74 x75 => brW x75 (ifW (bndOk none s_55.size /\ bndOk (some i_60) (s_55.size)) (cvalT Tryz.prog (.func (.func 198) ⟨[]⟩ ⟨[]⟩) [.string (s_55.extract i_60.toNat s_55.size), .string substr_56] kI (fun (x76 : Int) =>
 brW (decide ((x76 : Int) >= 0)) (K (.int .i64 (IntKind.i64.wrap (x76 + i_60)))) (K (.int .i64 (-1))))))
 (letJ (T := ByteArray -> ByteArray -> Int -> Int -> Int -> Int -> Int -> Int -> Value -> Value -> Value -> Value -> Value -> Value -> Value -> Value -> Value -> Value -> Value -> Value -> Value -> Value -> Value -> Value -> Value -> Value -> Value -> Value -> Bool -> H -> Prop) (fun s_78 substr_79 n_80 c0_81 c1_82 i_83 t_84 fails_85 _x86 _x87 _x88 _x89 _x90 _x91 _x92 _x93 _x94 _x95 _x96 _x97 _x98 _x99 _x100 _x101 _x102 _x103 _x104 _x105 x106 => brW x106 (ifW (bndOk none s_78.size /\ bndOk (some i_83) (s_78.size))
 (callT Tryz.prog 200 [.string (s_78.extract i_83.toNat s_78.size), .string substr_79] kI (fun (x107 : Int) => brW (decide ((x107 : Int) < 0)) (K (.int .i64 (-1))) (K (.int .i64 (IntKind.i64.wrap (i_83 + x107))))))) (R18 s_78 substr_79 n_80 c0_81 c1_82 i_83 t_84 fails_85)) (fun j77 => rdT (rdC 0 0) kI (fun (x108 : Int) => brW (decide ((n_57 : Int) > x108)) (ifW (0 <= (4 : Int)) (brW (decide ((fails_62 : Int) >= (IntKind.i64.wrap (4 + (Int.fdiv i_60 (2 ^ min (Int.toNat 4) (IntKind.bits .i64)))))))
 (j77 s_55 substr_56 n_57 c0_58 c1_59 i_60 t_61 fails_62 x63 x64 x65 x66 x67 x68 x69 x70 x71 x72 x73 x74 (.int .i64 fails_62) (.int .i64 i_60) (.int .i64 (Int.fdiv i_60 (2 ^ min (Int.toNat 4) (IntKind.bits .i64)))) (.int .i64 (IntKind.i64.wrap (4 + (Int.fdiv i_60 (2 ^ min (Int.toNat 4) (IntKind.bits .i64)))))) (.bool (decide ((fails_62 : Int) >= (IntKind.i64.wrap (4 + (Int.fdiv i_60 (2 ^ min (Int.toNat 4) (IntKind.bits .i64)))))))) (.int .i64 i_60) (.int .i64 t_61) (.bool (decide ((i_60 : Int) < t_61))) (decide ((i_60 : Int) < t_61)))
 (j77 s_55 substr_56 n_57 c0_58 c1_59 i_60 t_61 fails_62 x63 x64 x65 x66 x67 x68 x69 x70 x71 x72 x73 x74 (.int .i64 fails_62) (.int .i64 i_60) (.int .i64 (Int.fdiv i_60 (2 ^ min (Int.toNat 4) (IntKind.bits .i64)))) (.int .i64 (IntKind.i64.wrap (4 + (Int.fdiv i_60 (2 ^ min (Int.toNat 4) (IntKind.bits .i64)))))) (.bool (decide ((fails_62 : Int) >= (IntKind.i64.wrap (4 + (Int.fdiv i_60 (2 ^ min (Int.toNat 4) (IntKind.bits .i64)))))))) (.tuple ⟨[]⟩) (.tuple ⟨[]⟩) (.tuple ⟨[]⟩) false)))
 (j77 s_55 substr_56 n_57 c0_58 c1_59 i_60 t_61 fails_62 x63 x64 x65 x66 x67 x68 x69 x70 x71 x72 x73 x74 (.tuple ⟨[]⟩) (.tuple ⟨[]⟩) (.tuple ⟨[]⟩) (.tuple ⟨[]⟩) (.tuple ⟨[]⟩) (.tuple ⟨[]⟩) (.tuple ⟨[]⟩) (.tuple ⟨[]⟩) false))))) (fun j54 => rdT (rdC 0 0) kI (fun (x109 : Int) => brW (decide ((n_39 : Int) <= x109)) (callT Tryz.prog 199 [.int .i64 (IntKind.i64.wrap (i_42 + 1))] kI (fun (x110 : Int) =>
 j54 s_37 substr_38 n_39 c0_40 c1_41 (IntKind.i64.wrap (i_42 + 1)) t_43 (IntKind.i64.wrap (fails_44 + 1)) x45 x46 x47 x48 x49 x50 x51 x52 (.int .i64 (IntKind.i64.wrap (fails_44 + 1))) (.int .i64 (IntKind.i64.wrap (i_42 + 1))) (.int .i64 x110) (.bool (decide (((IntKind.i64.wrap (fails_44 + 1)) : Int) > x110))) (decide (((IntKind.i64.wrap (fails_44 + 1)) : Int) > x110))))
 (j54 s_37 substr_38 n_39 c0_40 c1_41 (IntKind.i64.wrap (i_42 + 1)) t_43 (IntKind.i64.wrap (fails_44 + 1)) x45 x46 x47 x48 x49 x50 x51 x52 (.tuple ⟨[]⟩) (.tuple ⟨[]⟩) (.tuple ⟨[]⟩) (.tuple ⟨[]⟩) false))))) (fun j36 => idxW s_28 (IntKind.i64.wrap (i_33 + 1)) (fun c111 => brW (((c111.toNat : Int) : Int) == c1_32) (ifW (bndOk (some (IntKind.i64.wrap (i_33 + n_30))) s_28.size /\ bndOk (some i_33) ((IntKind.i64.wrap (i_33 + n_30)).toNat))
 (j36 s_28 substr_29 n_30 c0_31 c1_32 i_33 t_34 fails_35 (.string s_28) (.int .i64 i_33) (.int .i64 i_33) (.int .i64 n_30) (.int .i64 (IntKind.i64.wrap (i_33 + n_30))) (.string (s_28.extract i_33.toNat ((IntKind.i64.wrap (i_33 + n_30)).toNat))) (.string substr_29) (.bool (strEq (s_28.extract i_33.toNat ((IntKind.i64.wrap (i_33 + n_30)).toNat)) substr_29)) (strEq (s_28.extract i_33.toNat ((IntKind.i64.wrap (i_33 + n_30)).toNat)) substr_29)))
 (j36 s_28 substr_29 n_30 c0_31 c1_32 i_33 t_34 fails_35 (.tuple ⟨[]⟩) (.tuple ⟨[]⟩) (.tuple ⟨[]⟩) (.tuple ⟨[]⟩) (.tuple ⟨[]⟩) (.tuple ⟨[]⟩) (.tuple ⟨[]⟩) (.tuple ⟨[]⟩) false)))) (fun j27 => idxW s_19 i_24 (fun c112 => brW (((c112.toNat : Int) : Int) != c0_22) (ifW (bndOk (some t_25) s_19.size /\ bndOk (some (IntKind.i64.wrap (i_24 + 1))) (t_25.toNat)) (callT Tryz.prog 79 [.string (s_19.extract ((IntKind.i64.wrap (i_24 + 1)).toNat) t_25.toNat), .int .u8 c0_22] kI (fun (x113 : Int) =>
 brW (decide ((x113 : Int) < 0)) (K (.int .i64 (-1))) (j27 s_19 substr_20 n_21 c0_22 c1_23 (IntKind.i64.wrap (i_24 + (IntKind.i64.wrap (x113 + 1)))) t_25 fails_26)))) (j27 s_19 substr_20 n_21 c0_22 c1_23 i_24 t_25 fails_26)))) (K (.int .i64 (-1))))) (fun (R114 : ByteArray -> ByteArray -> Int -> Int -> Int -> Int -> Int -> Int -> H -> Prop) => R114 s_11 substr_12 n_13 (c16.toNat : Int) (c17.toNat : Int) 0 (IntKind.i64.wrap ((IntKind.i64.wrap (((s_11.size : Nat) : Int) - n_13)) + 1)) 0))))) (fun j10 =>
 rdT (rdC 0 0) kI (fun (x115 : Int) => brW (decide ((n_6 : Int) <= x115)) (j10 s_4 substr_5 n_6 (decide ((((s_4.size : Nat) : Int) : Int) <= 64))) (j10 s_4 substr_5 n_6 false))))))) (fun j3 => brW ((((substr_2.size : Nat) : Int) : Int) == 0) (j3 s_1 substr_2 ((substr_2.size : Nat) : Int) true) (j3 s_1 substr_2 ((substr_2.size : Nat) : Int) (strEq substr_2 s_1)))
theorem e137 (s_1 : ByteArray) (substr_2 : ByteArray) (K : KH) : bodyF Tryz.prog tau Tryz.f137 an137 [.string s_1, .string substr_2] K = g137 s_1 substr_2 K := by kernel_rfl
theorem c137 (s_1 : ByteArray) (substr_2 : ByteArray) {K : KH} {σ : H} (h : g137 s_1 substr_2 K σ) : callW Tryz.prog 137 [.string s_1, .string substr_2] K σ := call_of_body mixed Tryz.func137 (by rw [e137]; exact h)


def an138 : Ann := (.q (.n (.q (.h)) (.q .z)))
def g138 (t_1 : Option Addr) (ino_2 : Int) (K : KH) : H -> Prop :=
 brW t_1.isNone (K (.pointer none)) (ptrW t_1 (fun b3 o4 => rdT (rdC b3 (o4 + 4)) kM (fun (x5 : Option Nat) => rdT (rdM (.int .i64) (.pointer none) false x5 (.int .i64 ino_2)) kP (fun x6 => K (.pointer x6)))))
theorem e138 (t_1 : Option Addr) (ino_2 : Int) (K : KH) : bodyF Tryz.prog tau Tryz.f138 an138 [.pointer t_1, .int .i64 ino_2] K = g138 t_1 ino_2 K := by kernel_rfl
theorem c138 (t_1 : Option Addr) (ino_2 : Int) {K : KH} {σ : H} (h : g138 t_1 ino_2 K σ) : callW Tryz.prog 138 [.pointer t_1, .int .i64 ino_2] K σ := call_of_body mixed Tryz.func138 (by rw [e138]; exact h)


def an139 : Ann := (.q (.q .z))
def g139 (m_1 : Option Nat) (K : KH) : H -> Prop :=
 alW (.cells ⟨[.map m_1]⟩ 192 (0, 0)) (fun b2 => K (.func (.func 201) ⟨[]⟩ ⟨[.pointer (some ⟨b2, 0, none⟩)]⟩))
theorem e139 (m_1 : Option Nat) (K : KH) : bodyF Tryz.prog tau Tryz.f139 an139 [.map m_1] K = g139 m_1 K := by kernel_rfl
theorem c139 (m_1 : Option Nat) {K : KH} {σ : H} (h : g139 m_1 K σ) : callW Tryz.prog 139 [.map m_1] K σ := call_of_body mixed Tryz.func139 (by rw [e139]; exact h)


def an140 : Ann := (.q (.q .r))
def g140 (r_1 : ByteArray) (r_2 : Bool) (r_3 : Bool) (x4 : Option Addr) (x5 : Option Addr) (x6 : Option Addr) (K : KH) : H -> Prop :=
 alW (.cells ⟨[.string r_1, .bool r_2, .bool r_3]⟩ 29 (0, 0)) (fun b7 => ptrW x4 (fun b8 o9 => rdT (rdC b8 o9) kL (fun x10 => rdT (rdA 3 b7 0) (.one (.agg [.str, .bool, .bool])) (fun (x11 : ByteArray) (x12 : Bool) (x13 : Bool) => alW (.cells ⟨[.string x11, .bool x12, .bool x13]⟩ 29 (0, 0)) (fun b14 => biW Tryz.prog .append #[31, 31] 31 [false, false] [.slice x10.base x10.len x10.cap, .slice (some ⟨b14, 0, none⟩) 1 1] kL (fun x15 =>
 stW Tryz.prog 31 (.pointer x4) (.slice x15.base x15.len x15.cap) (stW Tryz.prog 4 (.pointer x5) (.bool false) (stW Tryz.prog 4 (.pointer x6) (.bool false) (K (.tuple ⟨[]⟩))))))))))
theorem e140 (r_1 : ByteArray) (r_2 : Bool) (r_3 : Bool) (x4 : Option Addr) (x5 : Option Addr) (x6 : Option Addr) (K : KH) : bodyF Tryz.prog tau Tryz.f140 an140 [.agg ⟨[.string r_1, .bool r_2, .bool r_3]⟩, .pointer x4, .pointer x5, .pointer x6] K = g140 r_1 r_2 r_3 x4 x5 x6 K := by kernel_rfl
theorem c140 (r_1 : ByteArray) (r_2 : Bool) (r_3 : Bool) (x4 : Option Addr) (x5 : Option Addr) (x6 : Option Addr) {K : KH} {σ : H} (h : g140 r_1 r_2 r_3 x4 x5 x6 K σ) : callW Tryz.prog 140 [.agg ⟨[.string r_1, .bool r_2, .bool r_3]⟩, .pointer x4, .pointer x5, .pointer x6] K σ := call_of_body mixed Tryz.func140 (by rw [e140]; exact h)

end Go.Proofs.YtbjbeajbckcecaaGreatDoor

set_option maxRecDepth 100000
namespace Go.Proofs.YtbjbeajbckcecaaGreatDoor
open Go Go.HL
def an141 : Ann := (.q .r)
def g141 (x1 : Option Addr) (x2 : Option Addr) (x3 : Option Addr) (K : KH) : H -> Prop :=
 ptrW x1 (fun b4 o5 => rdT (rdC b4 o5) kL (fun x6 => ptrW x2 (fun b7 o8 => rdT (rdC b7 o8) kL (fun x9 => alW (.cells ⟨[.slice x9.base x9.len x9.cap]⟩ 31 (0, 0)) (fun b10 => biW Tryz.prog .append #[44, 44] 44 [false, false] [.slice x6.base x6.len x6.cap, .slice (some ⟨b10, 0, none⟩) 1 1] kL (fun x11 => stW Tryz.prog 44 (.pointer x1) (.slice x11.base x11.len x11.cap) (stW Tryz.prog 31 (.pointer x2) (.slice none 0 0) (stW Tryz.prog 4 (.pointer x3) (.bool true) (K (.tuple ⟨[]⟩))))))))))
theorem e141 (x1 : Option Addr) (x2 : Option Addr) (x3 : Option Addr) (K : KH) : bodyF Tryz.prog tau Tryz.f141 an141 [.pointer x1, .pointer x2, .pointer x3] K = g141 x1 x2 x3 K := by kernel_rfl
theorem c141 (x1 : Option Addr) (x2 : Option Addr) (x3 : Option Addr) {K : KH} {σ : H} (h : g141 x1 x2 x3 K σ) : callW Tryz.prog 141 [.pointer x1, .pointer x2, .pointer x3] K σ := call_of_body mixed Tryz.func141 (by rw [e141]; exact h)


def an144 : Ann := (.q (.cond .r (.q (.cond .z .z))))
def g144 (b_1 : Option Addr) (K : KH) : H -> Prop :=
 ptrW b_1 (fun b2 o3 => rdT (rdC b2 o3) kP (fun x4 => brW x4.isNone (vaW Tryz.prog (convert 119 242 (.pointer b_1)) kR (fun x5 => cvalT Tryz.prog (.func (.func 202) ⟨[]⟩ ⟨[]⟩) [x5] kR (fun x6 => vaW Tryz.prog (convert 242 119 (x6)) kP (fun x7 => ptrW b_1 (fun b8 o9 => stW Tryz.prog 119 (.pointer (some ⟨b8, o9, none⟩)) (.pointer x7) (K (.tuple ⟨[]⟩))))))) (ptrW b_1 (fun b10 o11 => rdT (rdC b10 o11) kP (fun x12 =>
 vaW Tryz.prog (do eqGuard .neq 119 (.tmp 17) (.tmp 18) (.pointer x12) (.pointer b_1); binOp .neq 119 (.pointer x12) (.pointer b_1)) kB (fun x13 => brW x13 (nW) (K (.tuple ⟨[]⟩))))))))
theorem e144 (b_1 : Option Addr) (K : KH) : bodyF Tryz.prog tau Tryz.f144 an144 [.pointer b_1] K = g144 b_1 K := by kernel_rfl
theorem c144 (b_1 : Option Addr) {K : KH} {σ : H} (h : g144 b_1 K σ) : callW Tryz.prog 144 [.pointer b_1] K σ := call_of_body mixed Tryz.func144 (by rw [e144]; exact h)


def an145 : Ann := (.q (.q (.n (.q (.blk (.loop [(0,.p),(1,.i),(2,.s),(3,.i),(8,.l),(9,.b),(10,.i)] (.n (.q (.cond .z .z)) (.n (.blk (.q (.seq (some [(0,.p),(1,.i),(2,.s),(3,.i),(8,.l),(9,.b),(10,.i),(11,.p),(43,.w),(44,.w),(45,.w),(46,.w)]) (.seq (some [(0,.p),(1,.i),(2,.s),(3,.i),(8,.l),(9,.b),(10,.i),(11,.p),(43,.w),(44,.w),(45,.w),(46,.w),(47,.b)]) .r (.cond (.q .r) .z)) .r))) .r))))) (.seq (some [(0,.p),(1,.i),(3,.i),(8,.l)]) (.q (.cond .r .z)) (.q (.q (.cond .r .z)))))))
def g145 (f_1 : Option Addr) (dir_2 : Int) (name_3 : ByteArray) (ino_4 : Int) (K : KH) : H -> Prop :=
 loopW [.sc .ptr, .sc (.int .i64), .sc .str, .sc (.int .i64), .sc .slc, .sc .bool, .sc (.int .i64)] (fun (R5 : Option Addr -> Int -> ByteArray -> Int -> Sl -> Bool -> Int -> H -> Prop) => (fun (f_6 : Option Addr) (dir_7 : Int) (name_8 : ByteArray) (ino_9 : Int) (l_10 : Sl) (done_11 : Bool) (i_12 : Int) => ptrW f_6 (fun b13 o14 => rdT (rdC b13 (o14 + 2)) kL (fun x15 => ptrW x15.base (fun b16 o17 => ifW (0 <= dir_7 /\ dir_7 < ((x15.len : Nat) : Int)) (rdT (rdC b16 (o17 + dir_7.toNat * 1)) kP (fun x18 =>
 ptrW x18 (fun b19 o20 => rdT (rdC b19 (o20 + 3)) kL (fun x21 => brW (decide ((i_12 : Int) < ((x21.len : Nat) : Int))) (ptrW f_6 (fun b22 o23 => rdT (rdC b22 (o23 + 2)) kL (fun x24 => ptrW x24.base (fun b25 o26 => ifW (0 <= dir_7 /\ dir_7 < ((x24.len : Nat) : Int)) (rdT (rdC b25 (o26 + dir_7.toNat * 1)) kP (fun x27 => ptrW x27 (fun b28 o29 => rdT (rdC b28 (o29 + 3)) kL (fun x30 => ptrW x30.base (fun b31 o32 => ifW (0 <= i_12 /\ i_12 < ((x30.len : Nat) : Int))
 (rdT (rdA 2 b31 (o32 + i_12.toNat * 2)) (.one (.agg [.str, (.int .i64)])) (fun (x33 : ByteArray) (x34 : Int) => alW (.cells ⟨[.string (⟨⟨[]⟩⟩ : ByteArray), .int .i64 0]⟩ 245 (0, 0)) (fun b35 => stW Tryz.prog 245 (.pointer (some ⟨b35, 0, none⟩)) (.agg ⟨[.string x33, .int .i64 x34]⟩) (letJ (T := Option Addr -> Int -> ByteArray -> Int -> Sl -> Bool -> Int -> Option Addr -> Value -> Value -> Value -> Value -> H -> Prop) (fun f_37 dir_38 name_39 ino_40 l_41 done_42 i_43 x_44 _x45 _x46 _x47 _x48 =>
 ptrW x_44 (fun b49 o50 => rdT (rdA 2 b49 o50) (.one (.agg [.str, (.int .i64)])) (fun (x51 : ByteArray) (x52 : Int) => alW (.cells ⟨[.string x51, .int .i64 x52]⟩ 245 (0, 0)) (fun b53 => biW Tryz.prog .append #[129, 129] 129 [false, false] [.slice l_41.base l_41.len l_41.cap, .slice (some ⟨b53, 0, none⟩) 1 1] kL (fun x54 => R5 f_37 dir_38 name_39 ino_40 x54 done_42 (IntKind.i64.wrap (i_43 + 1))))))) (fun j36 =>
 letJ (T := Option Addr -> Int -> ByteArray -> Int -> Sl -> Bool -> Int -> Option Addr -> Value -> Value -> Value -> Value -> Bool -> H -> Prop) (fun f_56 dir_57 name_58 ino_59 l_60 done_61 i_62 x_63 x64 x65 x66 x67 x68 => brW x68 (alW (.cells ⟨[.string name_58, .int .i64 ino_59]⟩ 245 (0, 0)) (fun b69 => biW Tryz.prog .append #[129, 129] 129 [false, false] [.slice l_60.base l_60.len l_60.cap, .slice (some ⟨b69, 0, none⟩) 1 1] kL (fun x70 => j36 f_56 dir_57 name_58 ino_59 x70 true i_62 x_63 x64 x65 x66 x67)))
 (j36 f_56 dir_57 name_58 ino_59 l_60 done_61 i_62 x_63 x64 x65 x66 x67)) (fun j55 => brW (!done_11) (rdT (rdC b35 0) kS (fun (x71 : ByteArray) => j55 f_6 dir_7 name_8 ino_9 l_10 done_11 i_12 (some ⟨b35, 0, none⟩) (.string name_8) (.pointer (some ⟨b35, 0, none⟩)) (.string x71) (.bool (strLt name_8 x71)) (strLt name_8 x71))) (j55 f_6 dir_7 name_8 ino_9 l_10 done_11 i_12 (some ⟨b35, 0, none⟩) (.tuple ⟨[]⟩) (.tuple ⟨[]⟩) (.tuple ⟨[]⟩) (.tuple ⟨[]⟩) false))))))))))))))))
 (letJ (T := Option Addr -> Int -> Int -> Sl -> H -> Prop) (fun f_73 dir_74 ino_75 l_76 => ptrW f_73 (fun b77 o78 => rdT (rdC b77 (o78 + 2)) kL (fun x79 => ptrW x79.base (fun b80 o81 => ifW (0 <= dir_74 /\ dir_74 < ((x79.len : Nat) : Int)) (rdT (rdC b80 (o81 + dir_74.toNat * 1)) kP (fun x82 => ptrW x82 (fun b83 o84 => stW Tryz.prog 129 (.pointer (some ⟨b83, o84 + 3, none⟩)) (.slice l_76.base l_76.len l_76.cap) (ptrW f_73 (fun b85 o86 => rdT (rdC b85 (o86 + 2)) kL (fun x87 =>
 ptrW x87.base (fun b88 o89 => ifW (0 <= ino_75 /\ ino_75 < ((x87.len : Nat) : Int)) (rdT (rdC b88 (o89 + ino_75.toNat * 1)) kP (fun x90 => ptrW x90 (fun b91 o92 => rdT (rdC b91 o92) kI (fun (x93 : Int) => brW ((x93 : Int) == 2) (ptrW f_73 (fun b94 o95 => rdT (rdC b94 (o95 + 2)) kL (fun x96 => ptrW x96.base (fun b97 o98 => ifW (0 <= ino_75 /\ ino_75 < ((x96.len : Nat) : Int)) (rdT (rdC b97 (o98 + ino_75.toNat * 1)) kP (fun x99 => ptrW x99 (fun b100 o101 =>
 stW Tryz.prog 3 (.pointer (some ⟨b100, o101 + 4, none⟩)) (.int .i64 dir_74) (K (.tuple ⟨[]⟩))))))))) (K (.tuple ⟨[]⟩))))))))))))))))) (fun j72 => brW (!done_11) (alW (.cells ⟨[.string name_8, .int .i64 ino_9]⟩ 245 (0, 0)) (fun b102 => biW Tryz.prog .append #[129, 129] 129 [false, false] [.slice l_10.base l_10.len l_10.cap, .slice (some ⟨b102, 0, none⟩) 1 1] kL (fun x103 => j72 f_6 dir_7 ino_9 x103)))
 (j72 f_6 dir_7 ino_9 l_10)))))))))))) (fun (R104 : Option Addr -> Int -> ByteArray -> Int -> Sl -> Bool -> Int -> H -> Prop) => R104 f_1 dir_2 name_3 ino_4 ⟨none, 0, 0⟩ false 0)
theorem e145 (f_1 : Option Addr) (dir_2 : Int) (name_3 : ByteArray) (ino_4 : Int) (K : KH) : bodyF Tryz.prog tau Tryz.f145 an145 [.pointer f_1, .int .i64 dir_2, .string name_3, .int .i64 ino_4] K = g145 f_1 dir_2 name_3 ino_4 K := by kernel_rfl
theorem c145 (f_1 : Option Addr) (dir_2 : Int) (name_3 : ByteArray) (ino_4 : Int) {K : KH} {σ : H} (h : g145 f_1 dir_2 name_3 ino_4 K σ) : callW Tryz.prog 145 [.pointer f_1, .int .i64 dir_2, .string name_3, .int .i64 ino_4] K σ := call_of_body mixed Tryz.func145 (by rw [e145]; exact h)


def an160 : Ann := (.q (.seq (some [(0,.p),(1,.p),(2,.p),(4,.b)]) .r (.q (.q .z))))
def g160 (x1 : Option Addr) (x2 : Option Addr) (x3 : Option Addr) (K : KH) : H -> Prop :=
 letJ (T := Option Addr -> Option Addr -> Option Addr -> Bool -> H -> Prop) (fun x5 x6 x7 link_8 => alW (.map #[] 0) (fun b9 => muW Tryz.prog 211 (.map (some b9)) (.int .i64 1) (.bool true) (ptrW x5 (fun b10 o11 => rdT (rdC b10 o11) kS (fun (x12 : ByteArray) => muW Tryz.prog 211 (.map (some b9)) (.int .i64 2) (.bool (strEq x12 (⟨⟨[]⟩⟩ : ByteArray))) (muW Tryz.prog 211 (.map (some b9)) (.int .i64 3) (.bool link_8) (ptrW x6 (fun b13 o14 => rdT (rdC b13 o14) kI (fun (x15 : Int) =>
 rdT (rdM (.int .i64) (.bool false) false (some b9) (.int .i64 x15)) kB (fun x16 => brW x16 (ptrW x7 (fun b17 o18 => rdT (rdC b17 o18) kI (fun (x19 : Int) => brW (decide ((x19 : Int) >= 0)) (ptrW x7 (fun b20 o21 => rdT (rdC b20 o21) kI (fun (x22 : Int) => callT Tryz.prog 161 [.bool (decide ((x22 : Int) <= 511)), .int .i64 2] kI (fun (x23 : Int) => K (.int .i64 x23))))) (callT Tryz.prog 161 [.bool false, .int .i64 2] kI (fun (x24 : Int) => K (.int .i64 x24))))))
 (callT Tryz.prog 161 [.bool false, .int .i64 2] kI (fun (x25 : Int) => K (.int .i64 x25))))))))))))) (fun j4 => ptrW x1 (fun b26 o27 => rdT (rdC b26 o27) kS (fun (x28 : ByteArray) => brW (!strEq x28 (⟨⟨[]⟩⟩ : ByteArray)) (ptrW x1 (fun b29 o30 => rdT (rdC b29 o30) kS (fun (x31 : ByteArray) => brW (decide ((((x31.size : Nat) : Int) : Int) <= 255)) (ptrW x1 (fun b32 o33 => rdT (rdC b32 o33) kS (fun (x34 : ByteArray) => callT Tryz.prog 26 [.string x34, .int .u8 0] kI (fun (x35 : Int) =>
 j4 x1 x2 x3 (decide ((x35 : Int) < 0)))))) (j4 x1 x2 x3 false)))) (j4 x1 x2 x3 false))))
theorem e160 (x1 : Option Addr) (x2 : Option Addr) (x3 : Option Addr) (K : KH) : bodyF Tryz.prog tau Tryz.f160 an160 [.pointer x1, .pointer x2, .pointer x3] K = g160 x1 x2 x3 K := by kernel_rfl
theorem c160 (x1 : Option Addr) (x2 : Option Addr) (x3 : Option Addr) {K : KH} {σ : H} (h : g160 x1 x2 x3 K σ) : callW Tryz.prog 160 [.pointer x1, .pointer x2, .pointer x3] K σ := call_of_body mixed Tryz.func160 (by rw [e160]; exact h)


def an161 : Ann := (.q (.n (.q (.h)) (.q .z)))
def g161 (is_1 : Bool) (e_2 : Int) (K : KH) : H -> Prop :=
 brW (!is_1) (K (.int .i64 e_2)) (K (.int .i64 0))
theorem e161 (is_1 : Bool) (e_2 : Int) (K : KH) : bodyF Tryz.prog tau Tryz.f161 an161 [.bool is_1, .int .i64 e_2] K = g161 is_1 e_2 K := by kernel_rfl
theorem c161 (is_1 : Bool) (e_2 : Int) {K : KH} {σ : H} (h : g161 is_1 e_2 K σ) : callW Tryz.prog 161 [.bool is_1, .int .i64 e_2] K σ := call_of_body mixed Tryz.func161 (by rw [e161]; exact h)


def an162 : Ann := (.q (.n (.q (.blk (.loop [(6,.l),(7,.i),(8,.i)] (.q (.n (.cond .z .z) (.n (.blk (.q (.q (.q (.h))))) .r)))))) (.q .z)))
def g162 (asked_1 : Sl) (K : KH) : H -> Prop :=
 loopW [.sc .slc, .sc (.int .i64), .sc (.int .i64)] (fun (R2 : Sl -> Int -> Int -> H -> Prop) => (fun (x3 : Sl) (x4 : Int) (x5 : Int) => brW (decide ((x5 : Int) < x4)) (ptrW x3.base (fun b6 o7 => ifW (0 <= x5 /\ x5 < ((x3.len : Nat) : Int)) (rdT (rdC b6 (o7 + x5.toNat * 1)) kR (fun x8 => cvalT Tryz.prog x8 [] kI (fun (x9 : Int) => brW ((x9 : Int) != 0) (K (.int .i64 x9)) (R2 x3 x4 (IntKind.i64.wrap (x5 + 1))))))))
 (K (.int .i64 0)))) (fun (R10 : Sl -> Int -> Int -> H -> Prop) => R10 asked_1 ((asked_1.len : Nat) : Int) 0)
theorem e162 (asked_1 : Sl) (K : KH) : bodyF Tryz.prog tau Tryz.f162 an162 [.slice asked_1.base asked_1.len asked_1.cap] K = g162 asked_1 K := by kernel_rfl
theorem c162 (asked_1 : Sl) {K : KH} {σ : H} (h : g162 asked_1 K σ) : callW Tryz.prog 162 [.slice asked_1.base asked_1.len asked_1.cap] K σ := call_of_body mixed Tryz.func162 (by rw [e162]; exact h)


def an163 : Ann := (.q (.q .z))
def g163 (t_1 : Option Addr) (K : KH) : H -> Prop :=
 callT Tryz.prog 161 [.bool (!t_1.isNone), .int .i64 1] kI (fun (x2 : Int) => K (.int .i64 x2))
theorem e163 (t_1 : Option Addr) (K : KH) : bodyF Tryz.prog tau Tryz.f163 an163 [.pointer t_1] K = g163 t_1 K := by kernel_rfl
theorem c163 (t_1 : Option Addr) {K : KH} {σ : H} (h : g163 t_1 K σ) : callW Tryz.prog 163 [.pointer t_1] K σ := call_of_body mixed Tryz.func163 (by rw [e163]; exact h)


def an164 : Ann := (.q (.q .z))
def g164 (t_1 : Option Addr) (ino_2 : Int) (K : KH) : H -> Prop :=
 alW (.cells ⟨[.pointer t_1]⟩ 108 (0, 0)) (fun b3 => alW (.cells ⟨[.int .i64 ino_2]⟩ 3 (0, 0)) (fun b4 => K (.func (.func 214) ⟨[]⟩ ⟨[.pointer (some ⟨b3, 0, none⟩), .pointer (some ⟨b4, 0, none⟩)]⟩)))
theorem e164 (t_1 : Option Addr) (ino_2 : Int) (K : KH) : bodyF Tryz.prog tau Tryz.f164 an164 [.pointer t_1, .int .i64 ino_2] K = g164 t_1 ino_2 K := by kernel_rfl
theorem c164 (t_1 : Option Addr) (ino_2 : Int) {K : KH} {σ : H} (h : g164 t_1 ino_2 K σ) : callW Tryz.prog 164 [.pointer t_1, .int .i64 ino_2] K σ := call_of_body mixed Tryz.func164 (by rw [e164]; exact h)


def an165 : Ann := (.q (.q .z))
def g165 (name_1 : ByteArray) (K : KH) : H -> Prop :=
 alW (.cells ⟨[.string name_1]⟩ 9 (0, 0)) (fun b2 => K (.func (.func 215) ⟨[]⟩ ⟨[.pointer (some ⟨b2, 0, none⟩)]⟩))
theorem e165 (name_1 : ByteArray) (K : KH) : bodyF Tryz.prog tau Tryz.f165 an165 [.string name_1] K = g165 name_1 K := by kernel_rfl
theorem c165 (name_1 : ByteArray) {K : KH} {σ : H} (h : g165 name_1 K σ) : callW Tryz.prog 165 [.string name_1] K σ := call_of_body mixed Tryz.func165 (by rw [e165]; exact h)


def an166 : Ann := (.q (.q .z))
def g166 (t_1 : Option Addr) (dir_2 : Int) (name_3 : ByteArray) (K : KH) : H -> Prop :=
 alW (.cells ⟨[.pointer t_1]⟩ 108 (0, 0)) (fun b4 => alW (.cells ⟨[.int .i64 dir_2]⟩ 3 (0, 0)) (fun b5 => alW (.cells ⟨[.string name_3]⟩ 9 (0, 0)) (fun b6 => K (.func (.func 217) ⟨[]⟩ ⟨[.pointer (some ⟨b4, 0, none⟩), .pointer (some ⟨b5, 0, none⟩), .pointer (some ⟨b6, 0, none⟩)]⟩))))
theorem e166 (t_1 : Option Addr) (dir_2 : Int) (name_3 : ByteArray) (K : KH) : bodyF Tryz.prog tau Tryz.f166 an166 [.pointer t_1, .int .i64 dir_2, .string name_3] K = g166 t_1 dir_2 name_3 K := by kernel_rfl
theorem c166 (t_1 : Option Addr) (dir_2 : Int) (name_3 : ByteArray) {K : KH} {σ : H} (h : g166 t_1 dir_2 name_3 K σ) : callW Tryz.prog 166 [.pointer t_1, .int .i64 dir_2, .string name_3] K σ := call_of_body mixed Tryz.func166 (by rw [e166]; exact h)


def an167 : Ann := (.q (.q .z))
def g167 (x1 : Option Addr) (x2 : Option Addr) (K : KH) : H -> Prop :=
 ptrW x1 (fun b3 o4 => rdT (rdC b3 o4) kP (fun x5 => ptrW x2 (fun b6 o7 => rdT (rdC b6 o7) kS (fun (x8 : ByteArray) => callT Tryz.prog 168 [.pointer x5, .int .i64 1, .int .i64 ((x8.size : Nat) : Int)] kR (fun x9 => cvalT Tryz.prog x9 [] kI (fun (x10 : Int) => K (.int .i64 x10)))))))
theorem e167 (x1 : Option Addr) (x2 : Option Addr) (K : KH) : bodyF Tryz.prog tau Tryz.f167 an167 [.pointer x1, .pointer x2] K = g167 x1 x2 K := by kernel_rfl
theorem c167 (x1 : Option Addr) (x2 : Option Addr) {K : KH} {σ : H} (h : g167 x1 x2 K σ) : callW Tryz.prog 167 [.pointer x1, .pointer x2] K σ := call_of_body mixed Tryz.func167 (by rw [e167]; exact h)


def an168 : Ann := (.q (.q .z))
def g168 (t_1 : Option Addr) (inodes_2 : Int) (bytes_3 : Int) (K : KH) : H -> Prop :=
 alW (.cells ⟨[.pointer t_1]⟩ 108 (0, 0)) (fun b4 => alW (.cells ⟨[.int .i64 inodes_2]⟩ 3 (0, 0)) (fun b5 => alW (.cells ⟨[.int .i64 bytes_3]⟩ 3 (0, 0)) (fun b6 => K (.func (.func 218) ⟨[]⟩ ⟨[.pointer (some ⟨b4, 0, none⟩), .pointer (some ⟨b5, 0, none⟩), .pointer (some ⟨b6, 0, none⟩)]⟩))))
theorem e168 (t_1 : Option Addr) (inodes_2 : Int) (bytes_3 : Int) (K : KH) : bodyF Tryz.prog tau Tryz.f168 an168 [.pointer t_1, .int .i64 inodes_2, .int .i64 bytes_3] K = g168 t_1 inodes_2 bytes_3 K := by kernel_rfl
theorem c168 (t_1 : Option Addr) (inodes_2 : Int) (bytes_3 : Int) {K : KH} {σ : H} (h : g168 t_1 inodes_2 bytes_3 K σ) : callW Tryz.prog 168 [.pointer t_1, .int .i64 inodes_2, .int .i64 bytes_3] K σ := call_of_body mixed Tryz.func168 (by rw [e168]; exact h)


def an169 : Ann := (.n (.reg [0,1,2,3,4,5,6,7,9,10,11,12,8,13,14,15] [[],[0],[0,1],[0,1,2],(rn 4),(rn 5),[],(rn 7),(rn 8),[],[9],[9,10],[9,10,11],[9,10,11,12],(rn 14),(rn 15)]) (.q .r))
def g169 (b_1 : Option Addr) (n_2 : Int) (K : KH) : H -> Prop :=
 ptrW b_1 (fun b3 o4 => rdT (rdC b3 (o4 + 1)) kL (fun x5 => ptrW b_1 (fun b6 o7 => rdT (rdC b6 (o7 + 1)) kL (fun x8 => cvalT Tryz.prog (.func (.func 219) ⟨[]⟩ ⟨[]⟩) [.int .i64 (IntKind.i64.wrap ((IntKind.i64.wrap (2 * ((x5.cap : Nat) : Int))) + n_2))] kL (fun x9 => andW (fun σ => (rdC b6 (o7 + 1)) σ = some (.slice x8.base x8.len x8.cap)) (ifW (bndOk (some ((x8.len : Nat) : Int)) x9.cap /\ bndOk none (((x8.len : Nat) : Int).toNat)) (ptrW b_1 (fun b10 o11 => rdT (rdC b10 (o11 + 1)) kL (fun x12 =>
 biW Tryz.prog .copy #[56, 56] 3 [false, false] [.slice (slBase x9.base 0 x9.cap 1) ((((x8.len : Nat) : Int).toNat) - 0) (x9.cap - 0), .slice x12.base x12.len x12.cap] kI (fun (_x13 : Int) => ptrW b_1 (fun b14 o15 => stW Tryz.prog 56 (.pointer (some ⟨b14, o15 + 1, none⟩)) (.slice (slBase x9.base 0 x9.cap 1) ((((x8.len : Nat) : Int).toNat) - 0) (x9.cap - 0)) (K (.tuple ⟨[]⟩)))))))))))))
theorem e169 (b_1 : Option Addr) (n_2 : Int) (K : KH) : bodyF Tryz.prog tau Tryz.f169 an169 [.pointer b_1, .int .i64 n_2] K = g169 b_1 n_2 K := by kernel_rfl
theorem c169 (b_1 : Option Addr) (n_2 : Int) {K : KH} {σ : H} (h : g169 b_1 n_2 K σ) : callW Tryz.prog 169 [.pointer b_1, .int .i64 n_2] K σ := call_of_body mixed Tryz.func169 (by rw [e169]; exact h)


def an170 : Ann := (.q (.n (.q (.q (.h))) (.seq (some [(1,.i),(2,.s),(5,.p),(8,.p),(9,.p),(10,.p),(11,.p)]) (.q (.cond .r .z)) (.q (.seq (some [(10,.p),(11,.p),(13,.p)]) (.q (.blk (.rf [.s,.b] (.q .r) (.blk (.n (.blk (.q (.cond (.q .z) (.q (.cond (.q .z) (.q (.cond (.n (.reg (rn 8) [[],[0],[0,1],[0,1,2],[],[4],(rn 6),(rn 7)]) (.q .z)) (.q (.h))))))))) (.q (.n (.reg (rn 15) [[],[0],[0,1],[0,1,2],[],[4],[],(rn 7),(rn 8),(rn 9),(rn 9),(rn 10),[0,1,2,3,4,5,6,7,8,9,11],(rn 13),(rn 14)]) (.n (.seq (some [(5,.p),(9,.p),(10,.p),(11,.p),(13,.p),(105,.b)]) .r (.cond .z .z)) (.n (.q (.q (.h))) (.n (.reg (rn 13) [[],[0],[0,1],[0,1,2],[],[4],(rn 6),(rn 7),(rn 8),(rn 8),[],[0,1,2,3,4,5,6,7,8,10],(rn 12)]) (.q (.n (.q (.h)) .r)))))))))))) (.q .z))))))
def g170 (f_1 : Option Addr) (at_2 : Int) (path_3 : ByteArray) (follow_4 : Bool) (hops_5 : Option Addr) (K : KH) : H -> Prop :=
 alW (.cells ⟨[.pointer f_1]⟩ 24 (0, 0)) (fun b6 => alW (.cells ⟨[.bool follow_4]⟩ 4 (0, 0)) (fun b7 => alW (.cells ⟨[.pointer hops_5]⟩ 219 (0, 0)) (fun b8 => alW (.cells ⟨[.int .i64 0, .string (⟨⟨[]⟩⟩ : ByteArray), .int .i64 0, .bool false]⟩ 142 (0, 0)) (fun b9 => alW (.cells ⟨[.int .i64 0]⟩ 36 (0, 0)) (fun b10 => callT Tryz.prog 220 [.string path_3] kI (fun (x11 : Int) => brW ((x11 : Int) != 0)
 (stW Tryz.prog 142 (.pointer (some ⟨b9, 0, none⟩)) (.agg ⟨[.int .i64 0, .string (⟨⟨[]⟩⟩ : ByteArray), .int .i64 0, .bool false]⟩) (stW Tryz.prog 36 (.pointer (some ⟨b10, 0, none⟩)) (.int .i64 x11) (rdT (rdA 4 b9 0) (.one (.agg [(.int .i64), .str, (.int .i64), .bool])) (fun (r12 : Int) (r13 : ByteArray) (r14 : Int) (r15 : Bool) => rdT (rdC b10 0) kI (fun (r16 : Int) => K (.tuple ⟨[.agg ⟨[.int .i64 r12, .string r13, .int .i64 r14, .bool r15]⟩, .int .i64 r16]⟩))))))
 (letJ (T := Int -> ByteArray -> Option Addr -> Option Addr -> Option Addr -> Option Addr -> Option Addr -> H -> Prop) (fun at_18 path_19 f_20 follow_21 hops_22 x23 x24 => alW (.cells ⟨[.int .i64 0, .string (⟨⟨[]⟩⟩ : ByteArray), .int .i64 0, .bool false]⟩ 142 (0, 0)) (fun b25 => stW Tryz.prog 142 (.pointer (some ⟨b25, 0, none⟩)) (.agg ⟨[.int .i64 at_18, .string (⟨⟨[]⟩⟩ : ByteArray), .int .i64 at_18, .bool true]⟩) (letJ (T := Option Addr -> Option Addr -> Option Addr -> H -> Prop) (fun x27 x28 p_29 =>
 ptrW p_29 (fun b30 o31 => rdT (rdA 4 b30 o31) (.one (.agg [(.int .i64), .str, (.int .i64), .bool])) (fun (x32 : Int) (x33 : ByteArray) (x34 : Int) (x35 : Bool) => stW Tryz.prog 142 (.pointer x27) (.agg ⟨[.int .i64 x32, .string x33, .int .i64 x34, .bool x35]⟩) (stW Tryz.prog 36 (.pointer x28) (.int .i64 0) (ptrW x27 (fun b36 o37 => rdT (rdA 4 b36 o37) (.one (.agg [(.int .i64), .str, (.int .i64), .bool])) (fun (r38 : Int) (r39 : ByteArray) (r40 : Int) (r41 : Bool) => ptrW x28 (fun b42 o43 =>
 rdT (rdC b42 o43) kI (fun (r44 : Int) => K (.tuple ⟨[.agg ⟨[.int .i64 r38, .string r39, .int .i64 r40, .bool r41]⟩, .int .i64 r44]⟩)))))))))) (fun j26 => callT Tryz.prog 221 [.string path_19] kR (fun x45 => funW x45 (fun (g146 : FuncId) (as147 cs148 : List Value) => rfW Tryz.prog none g146 as147 cs148 [.sc .str, .sc .bool] (fun (l46 : Nat) (obj47 : LoopState -> Option Code -> Obj) (K48 : Value -> H -> Prop) => (fun (x49 : ByteArray) (x50 : Bool) => begW l46 obj47 (rdT (rdC b25 3) kB (fun x51 =>
 brW (!x51) (stW Tryz.prog 142 (.pointer x23) (.agg ⟨[.int .i64 0, .string (⟨⟨[]⟩⟩ : ByteArray), .int .i64 0, .bool false]⟩) (stW Tryz.prog 36 (.pointer x24) (.int .i64 5) (roundK l46 obj47 K48 (some .ret) false .done))) (ptrW f_20 (fun b52 o53 => rdT (rdC b52 o53) kP (fun x54 => rdT (rdC b25 2) kI (fun (x55 : Int) => callT Tryz.prog 110 [.pointer x54, .int .i64 x55] kI (fun (x56 : Int) => brW ((x56 : Int) != 2)
 (stW Tryz.prog 142 (.pointer x23) (.agg ⟨[.int .i64 0, .string (⟨⟨[]⟩⟩ : ByteArray), .int .i64 0, .bool false]⟩) (stW Tryz.prog 36 (.pointer x24) (.int .i64 8) (roundK l46 obj47 K48 (some .ret) false .done))) (brW (strEq x49 (⟨⟨[46, 46]⟩⟩ : ByteArray)) (ptrW f_20 (fun b57 o58 => rdT (rdC b57 o58) kP (fun x59 => ptrW x59 (fun b60 o61 => rdT (rdC b60 o61) kP (fun x62 => rdT (rdC b25 2) kI (fun (x63 : Int) => callT Tryz.prog 124 [.pointer x62, .int .i64 x63] kI (fun (x64 : Int) =>
 stW Tryz.prog 142 (.pointer (some ⟨b25, 0, none⟩)) (.agg ⟨[.int .i64 x64, .string (⟨⟨[]⟩⟩ : ByteArray), .int .i64 x64, .bool true]⟩) (roundK l46 obj47 K48 none true .ready)))))))) (brW (decide ((((x49.size : Nat) : Int) : Int) > 56)) (stW Tryz.prog 142 (.pointer x23) (.agg ⟨[.int .i64 0, .string (⟨⟨[]⟩⟩ : ByteArray), .int .i64 0, .bool false]⟩) (stW Tryz.prog 36 (.pointer x24) (.int .i64 3) (roundK l46 obj47 K48 (some .ret) false .done))) (rdT (rdC b25 2) kI (fun (x65 : Int) =>
 stW Tryz.prog 142 (.pointer (some ⟨b25, 0, none⟩)) (.agg ⟨[.int .i64 x65, .string x49, .int .i64 0, .bool false]⟩) (ptrW f_20 (fun b66 o67 => rdT (rdC b66 o67) kP (fun x68 => ptrW x68 (fun b69 o70 => rdT (rdC b69 o70) kP (fun x71 => rdT (rdC b25 0) kI (fun (x72 : Int) => callT Tryz.prog 125 [.pointer x71, .int .i64 x72, .string x49] (.tup [.sc (.int .i64), .sc .bool]) (fun (x73 : Int) (x74 : Bool) =>
 stW Tryz.prog 3 (.pointer (some ⟨b25, 2, none⟩)) (.int .i64 x73) (stW Tryz.prog 4 (.pointer (some ⟨b25, 3, none⟩)) (.bool x74) (letJ (T := Option Addr -> Option Addr -> Option Addr -> Option Addr -> Option Addr -> Bool -> H -> Prop) (fun f_76 hops_77 x78 x79 p_80 x81 => brW x81 (roundK l46 obj47 K48 none true .ready) (ptrW hops_77 (fun b82 o83 => rdT (rdC b82 o83) kP (fun x84 => ptrW x84 (fun b85 o86 => rdT (rdC b85 o86) kI (fun (x87 : Int) => ptrW x84 (fun b88 o89 =>
 stW Tryz.prog 3 (.pointer (some ⟨b88, o89, none⟩)) (.int .i64 (IntKind.i64.wrap (x87 - 1))) (ptrW hops_77 (fun b90 o91 => rdT (rdC b90 o91) kP (fun x92 => ptrW x92 (fun b93 o94 => rdT (rdC b93 o94) kI (fun (x95 : Int) => brW (decide ((x95 : Int) < 0)) (stW Tryz.prog 142 (.pointer x78) (.agg ⟨[.int .i64 0, .string (⟨⟨[]⟩⟩ : ByteArray), .int .i64 0, .bool false]⟩) (stW Tryz.prog 36 (.pointer x79) (.int .i64 9) (roundK l46 obj47 K48 (some .ret) false .done))) (ptrW f_76 (fun b96 o97 =>
 rdT (rdC b96 o97) kP (fun x98 => ptrW x98 (fun b99 o100 => rdT (rdC b99 o100) kP (fun x101 => ptrW p_80 (fun b102 o103 => rdT (rdC b102 (o103 + 2)) kI (fun (x104 : Int) => callT Tryz.prog 99 [.pointer x101, .int .i64 x104] (.tup [.agg [(.int .i64), (.int .i64), .str, (.int .i64)], .sc .bool]) (fun (x105 : Int) (x106 : Int) (x107 : ByteArray) (x108 : Int) (_x109 : Bool) => alW (.cells ⟨[.int .i64 0, .int .i64 0, .string (⟨⟨[]⟩⟩ : ByteArray), .int .i64 0]⟩ 35 (0, 0)) (fun b110 =>
 stW Tryz.prog 35 (.pointer (some ⟨b110, 0, none⟩)) (.agg ⟨[.int .i64 x105, .int .i64 x106, .string x107, .int .i64 x108]⟩) (ptrW f_76 (fun b111 o112 => rdT (rdC b111 o112) kP (fun x113 => ptrW p_80 (fun b114 o115 => rdT (rdC b114 o115) kI (fun (x116 : Int) => rdT (rdC b110 2) kS (fun (x117 : ByteArray) => ptrW hops_77 (fun b118 o119 => rdT (rdC b118 o119) kP (fun x120 =>
 callT Tryz.prog 170 [.pointer x113, .int .i64 x116, .string x117, .bool true, .pointer x120] (.tup [.agg [(.int .i64), .str, (.int .i64), .bool], .sc (.int .i64)]) (fun (x121 : Int) (x122 : ByteArray) (x123 : Int) (x124 : Bool) (x125 : Int) => alW (.cells ⟨[.int .i64 0, .string (⟨⟨[]⟩⟩ : ByteArray), .int .i64 0, .bool false]⟩ 142 (0, 0)) (fun b126 => stW Tryz.prog 142 (.pointer (some ⟨b126, 0, none⟩)) (.agg ⟨[.int .i64 x121, .string x122, .int .i64 x123, .bool x124]⟩) (brW ((x125 : Int) != 0)
 (stW Tryz.prog 142 (.pointer x78) (.agg ⟨[.int .i64 0, .string (⟨⟨[]⟩⟩ : ByteArray), .int .i64 0, .bool false]⟩) (stW Tryz.prog 36 (.pointer x79) (.int .i64 x125) (roundK l46 obj47 K48 (some .ret) false .done))) (rdT (rdA 4 b126 0) (.one (.agg [(.int .i64), .str, (.int .i64), .bool])) (fun (x127 : Int) (x128 : ByteArray) (x129 : Int) (x130 : Bool) =>
 stW Tryz.prog 142 (.pointer p_80) (.agg ⟨[.int .i64 x127, .string x128, .int .i64 x129, .bool x130]⟩) (roundK l46 obj47 K48 none true .ready))))))))))))))))))))))))))))))))))) (fun j75 => rdT (rdC b25 3) kB (fun x131 => brW (!x131) (j75 f_20 hops_22 x23 x24 (some ⟨b25, 0, none⟩) true) (brW x50 (ptrW follow_21 (fun b132 o133 => rdT (rdC b132 o133) kB (fun x134 => brW (!x134) (j75 f_20 hops_22 x23 x24 (some ⟨b25, 0, none⟩) true) (ptrW f_20 (fun b135 o136 => rdT (rdC b135 o136) kP (fun x137 =>
 rdT (rdC b25 2) kI (fun (x138 : Int) => callT Tryz.prog 110 [.pointer x137, .int .i64 x138] kI (fun (x139 : Int) => j75 f_20 hops_22 x23 x24 (some ⟨b25, 0, none⟩) ((x139 : Int) != 3))))))))) (ptrW f_20 (fun b140 o141 => rdT (rdC b140 o141) kP (fun x142 => rdT (rdC b25 2) kI (fun (x143 : Int) => callT Tryz.prog 110 [.pointer x142, .int .i64 x143] kI (fun (x144 : Int) => j75 f_20 hops_22 x23 x24 (some ⟨b25, 0, none⟩) ((x144 : Int) != 3)))))))))))))))))))))))))))))))
 (j26 x23 x24 (some ⟨b25, 0, none⟩)) (fun i145 => exW i145 0 (j26 x23 x24 (some ⟨b25, 0, none⟩)) (nW)) (ptrW x23 (fun b149 o150 => rdT (rdA 4 b149 o150) (.one (.agg [(.int .i64), .str, (.int .i64), .bool])) (fun (r151 : Int) (r152 : ByteArray) (r153 : Int) (r154 : Bool) => ptrW x24 (fun b155 o156 => rdT (rdC b155 o156) kI (fun (r157 : Int) => K (.tuple ⟨[.agg ⟨[.int .i64 r151, .string r152, .int .i64 r153, .bool r154]⟩, .int .i64 r157]⟩)))))))))))) (fun j17 => idxW path_3 0 (fun c158 =>
 brW (((c158.toNat : Int) : Int) == 47) (rdT (rdC b6 0) kP (fun x159 => ptrW x159 (fun b160 o161 => rdT (rdC b160 o161) kP (fun x162 => callT Tryz.prog 123 [.pointer x162] kI (fun (x163 : Int) => j17 x163 path_3 (some ⟨b6, 0, none⟩) (some ⟨b7, 0, none⟩) (some ⟨b8, 0, none⟩) (some ⟨b9, 0, none⟩) (some ⟨b10, 0, none⟩)))))) (j17 at_2 path_3 (some ⟨b6, 0, none⟩) (some ⟨b7, 0, none⟩) (some ⟨b8, 0, none⟩) (some ⟨b9, 0, none⟩) (some ⟨b10, 0, none⟩)))))))))))
theorem e170 (f_1 : Option Addr) (at_2 : Int) (path_3 : ByteArray) (follow_4 : Bool) (hops_5 : Option Addr) (K : KH) : bodyF Tryz.prog tau Tryz.f170 an170 [.pointer f_1, .int .i64 at_2, .string path_3, .bool follow_4, .pointer hops_5] K = g170 f_1 at_2 path_3 follow_4 hops_5 K := by kernel_rfl
theorem c170 (f_1 : Option Addr) (at_2 : Int) (path_3 : ByteArray) (follow_4 : Bool) (hops_5 : Option Addr) {K : KH} {σ : H} (h : g170 f_1 at_2 path_3 follow_4 hops_5 K σ) : callW Tryz.prog 170 [.pointer f_1, .int .i64 at_2, .string path_3, .bool follow_4, .pointer hops_5] K σ := call_of_body mixed Tryz.func170 (by rw [e170]; exact h)


def an171 : Ann := (.q (.n (.reg (rn 18) [[],[],[1],[],[3],[3,4],[3,4,5],[],[3,4,5,6,7],[3,4,5,6,7,8],[3,4,5,6,7,8,9],[3,4,5,6,7,8,9,10],[3,4,5,6,7,8,9,10,11],[3,4,5,6,7,8,9,10,11,12],[1,2,3,4,5,6,7,8,9,10,11,12,13],(rn 15),(rn 16),(rn 17)]) .z))
def g171 (x1 : Option Addr) (x2 : Option Addr) (x3 : Option Addr) (K : KH) : H -> Prop :=
 ptrW x1 (fun b4 o5 => rdT (rdC b4 o5) kP (fun x6 => ptrW x2 (fun b7 o8 => rdT (rdC b7 o8) kS (fun (x9 : ByteArray) => ptrW x1 (fun b10 o11 => rdT (rdC b10 o11) kP (fun x12 => ptrW x12 (fun b13 o14 => rdT (rdC b13 (o14 + 4)) kM (fun (x15 : Option Nat) => ptrW x3 (fun b16 o17 => rdT (rdC b16 o17) kI (fun (x18 : Int) => rdT (rdM (.int .i64) (.pointer none) false x15 (.int .i64 x18)) kP (fun x19 => ptrW x19 (fun b20 o21 => rdT (rdC b20 (o21 + 2)) kS (fun (x22 : ByteArray) =>
 callT Tryz.prog 168 [.pointer x6, .int .i64 0, .int .i64 (IntKind.i64.wrap (((x9.size : Nat) : Int) - ((x22.size : Nat) : Int)))] kR (fun x23 => cvalT Tryz.prog x23 [] kI (fun (x24 : Int) => K (.int .i64 x24))))))))))))))))
theorem e171 (x1 : Option Addr) (x2 : Option Addr) (x3 : Option Addr) (K : KH) : bodyF Tryz.prog tau Tryz.f171 an171 [.pointer x1, .pointer x2, .pointer x3] K = g171 x1 x2 x3 K := by kernel_rfl
theorem c171 (x1 : Option Addr) (x2 : Option Addr) (x3 : Option Addr) {K : KH} {σ : H} (h : g171 x1 x2 x3 K σ) : callW Tryz.prog 171 [.pointer x1, .pointer x2, .pointer x3] K σ := call_of_body mixed Tryz.func171 (by rw [e171]; exact h)


def an172 : Ann := (.q (.q .z))
def g172 (t_1 : Option Addr) (ino_2 : Int) (K : KH) : H -> Prop :=
 alW (.cells ⟨[.pointer t_1]⟩ 108 (0, 0)) (fun b3 => alW (.cells ⟨[.int .i64 ino_2]⟩ 3 (0, 0)) (fun b4 => K (.func (.func 222) ⟨[]⟩ ⟨[.pointer (some ⟨b3, 0, none⟩), .pointer (some ⟨b4, 0, none⟩)]⟩)))
theorem e172 (t_1 : Option Addr) (ino_2 : Int) (K : KH) : bodyF Tryz.prog tau Tryz.f172 an172 [.pointer t_1, .int .i64 ino_2] K = g172 t_1 ino_2 K := by kernel_rfl
theorem c172 (t_1 : Option Addr) (ino_2 : Int) {K : KH} {σ : H} (h : g172 t_1 ino_2 K σ) : callW Tryz.prog 172 [.pointer t_1, .int .i64 ino_2] K σ := call_of_body mixed Tryz.func172 (by rw [e172]; exact h)


def an176 : Ann := (.q (.q .z))
def g176 (s_1 : ByteArray) (prefix_2 : ByteArray) (K : KH) : H -> Prop :=
 brW (decide ((((s_1.size : Nat) : Int) : Int) >= ((prefix_2.size : Nat) : Int))) (ifW (bndOk (some ((prefix_2.size : Nat) : Int)) s_1.size /\ bndOk none (((prefix_2.size : Nat) : Int).toNat)) (K (.bool (strEq (s_1.extract 0 (((prefix_2.size : Nat) : Int).toNat)) prefix_2)))) (K (.bool false))
theorem e176 (s_1 : ByteArray) (prefix_2 : ByteArray) (K : KH) : bodyF Tryz.prog tau Tryz.f176 an176 [.string s_1, .string prefix_2] K = g176 s_1 prefix_2 K := by kernel_rfl
theorem c176 (s_1 : ByteArray) (prefix_2 : ByteArray) {K : KH} {σ : H} (h : g176 s_1 prefix_2 K σ) : callW Tryz.prog 176 [.string s_1, .string prefix_2] K σ := call_of_body mixed Tryz.func176 (by rw [e176]; exact h)


def an185 : Ann := (.q (.n (.q (.h)) (.n (.q (.h)) (.n (.q (.blk (.loop [(0,.p),(1,.i),(2,.s),(3,.b),(4,.p),(10,.p),(12,.i)] (.n (.q (.cond .z .z)) (.n (.blk (.q (.h))) .r))))) (.seq (some [(0,.p),(1,.i),(2,.s),(3,.b),(4,.p),(10,.p)]) (.q (.cond .r .z)) (.q (.q (.n (.q (.blk (.loop [(0,.p),(3,.b),(4,.p),(10,.p),(13,.p),(14,.l),(15,.i)] (.n (.q (.cond .z .z)) (.seq (some [(0,.p),(3,.b),(4,.p),(10,.p),(13,.p),(14,.l),(15,.i),(76,.w),(79,.w),(80,.w),(81,.w),(84,.w),(85,.w),(86,.w),(87,.w),(88,.w),(89,.w),(90,.w),(91,.w),(92,.w),(93,.w),(94,.w),(95,.w)]) (.blk (.n (.q (.h)) (.n (.reg (rn 14) [[],[],[1],[],[],[3,4],[3,4,5],(rn 7),(rn 8),(rn 9),(rn 9),[],[0,1,2,3,4,5,6,7,8,9,11],(rn 13)]) (.n (.q (.h)) (.q (.seq (some [(0,.p),(3,.b),(4,.p),(10,.p),(13,.p),(14,.l),(15,.i),(76,.w),(79,.w),(80,.w),(81,.w),(84,.w),(85,.w),(86,.w),(87,.w),(88,.w),(89,.w),(90,.w),(91,.w),(92,.w),(93,.w),(94,.w),(95,.w),(96,.b)]) (.reg (rn 27) [[],[0],[],[2],(rn 4),(rn 5),(rn 6),(rn 7),(rn 8),(rn 9),(rn 10),(rn 11),(rn 12),(rn 13),(rn 14),(rn 15),(rn 16),(rn 17),(rn 14),[0,1,2,3,4,5,6,7,8,9,10,11,12,13,18],(rn 20),(rn 21),(rn 22),(rn 23),(rn 24),(rn 25),(rn 26)]) (.cond (.q (.n (.q (.h)) (.n (.reg (rn 21) [[],[],[1],[],[3],[3,4],[3,4,5],[],[7],[3,4,5,6,7,8],[3,4,5,6,7,8,9],[3,4,5,6,7,8,9,10],[3,4,5,6,7,8,9,10,11],[3,4,5,6,7,8,9,10,11,12],[],(rn 15),(rn 16),(rn 17),(rn 17),(rn 18),(rn 20)]) (.q (.h))))) .z))))))) .r))))) (.q .z)))))))))
def g185 (f_1 : Option Addr) (at_2 : Int) (path_3 : ByteArray) (follow_4 : Bool) (hops_5 : Option Addr) (K : KH) : H -> Prop :=
 alW (.cells ⟨[.int .i64 0, .string (⟨⟨[]⟩⟩ : ByteArray), .int .i64 0]⟩ 171 (0, 0)) (fun b6 => brW (strEq path_3 (⟨⟨[]⟩⟩ : ByteArray)) (stW Tryz.prog 171 (.pointer (some ⟨b6, 0, none⟩)) (.agg ⟨[.int .i64 0, .string (⟨⟨[]⟩⟩ : ByteArray), .int .i64 0]⟩) (rdT (rdA 3 b6 0) (.one (.agg [(.int .i64), .str, (.int .i64)])) (fun (r7 : Int) (r8 : ByteArray) (r9 : Int) => K (.tuple ⟨[.agg ⟨[.int .i64 r7, .string r8, .int .i64 r9]⟩, .int .i64 5]⟩))))
 (brW (decide ((((path_3.size : Nat) : Int) : Int) > 255)) (stW Tryz.prog 171 (.pointer (some ⟨b6, 0, none⟩)) (.agg ⟨[.int .i64 0, .string (⟨⟨[]⟩⟩ : ByteArray), .int .i64 0]⟩) (rdT (rdA 3 b6 0) (.one (.agg [(.int .i64), .str, (.int .i64)])) (fun (r10 : Int) (r11 : ByteArray) (r12 : Int) => K (.tuple ⟨[.agg ⟨[.int .i64 r10, .string r11, .int .i64 r12]⟩, .int .i64 3]⟩))))
 (loopW [.sc .ptr, .sc (.int .i64), .sc .str, .sc .bool, .sc .ptr, .sc .ptr, .sc (.int .i64)] (fun (R13 : Option Addr -> Int -> ByteArray -> Bool -> Option Addr -> Option Addr -> Int -> H -> Prop) => (fun (f_14 : Option Addr) (at_15 : Int) (path_16 : ByteArray) (follow_17 : Bool) (hops_18 : Option Addr) (x19 : Option Addr) (i_20 : Int) => brW (decide ((i_20 : Int) < ((path_16.size : Nat) : Int))) (idxW path_16 i_20 (fun c21 => brW (((c21.toNat : Int) : Int) == 0)
 (stW Tryz.prog 171 (.pointer x19) (.agg ⟨[.int .i64 0, .string (⟨⟨[]⟩⟩ : ByteArray), .int .i64 0]⟩) (ptrW x19 (fun b22 o23 => rdT (rdA 3 b22 o23) (.one (.agg [(.int .i64), .str, (.int .i64)])) (fun (r24 : Int) (r25 : ByteArray) (r26 : Int) => K (.tuple ⟨[.agg ⟨[.int .i64 r24, .string r25, .int .i64 r26]⟩, .int .i64 2]⟩))))) (R13 f_14 at_15 path_16 follow_17 hops_18 x19 (IntKind.i64.wrap (i_20 + 1)))))
 (letJ (T := Option Addr -> Int -> ByteArray -> Bool -> Option Addr -> Option Addr -> H -> Prop) (fun f_28 at_29 path_30 follow_31 hops_32 x33 => alW (.cells ⟨[.int .i64 0, .string (⟨⟨[]⟩⟩ : ByteArray), .int .i64 0]⟩ 171 (0, 0)) (fun b34 => stW Tryz.prog 171 (.pointer (some ⟨b34, 0, none⟩)) (.agg ⟨[.int .i64 at_29, .string (⟨⟨[]⟩⟩ : ByteArray), .int .i64 at_29]⟩) (callT Tryz.prog 225 [.string path_30] kL (fun x35 =>
 loopW [.sc .ptr, .sc .bool, .sc .ptr, .sc .ptr, .sc .ptr, .sc .slc, .sc (.int .i64)] (fun (R36 : Option Addr -> Bool -> Option Addr -> Option Addr -> Option Addr -> Sl -> Int -> H -> Prop) => (fun (f_37 : Option Addr) (follow_38 : Bool) (hops_39 : Option Addr) (x40 : Option Addr) (p_41 : Option Addr) (l_42 : Sl) (i_43 : Int) => brW (decide ((i_43 : Int) < ((l_42.len : Nat) : Int)))
 (letJ (T := Option Addr -> Bool -> Option Addr -> Option Addr -> Option Addr -> Sl -> Int -> Value -> Value -> Value -> Value -> Value -> Value -> Value -> Value -> Value -> Value -> Value -> Value -> Value -> Value -> Value -> Value -> H -> Prop) (fun f_45 follow_46 hops_47 x48 p_49 l_50 i_51 _x52 _x53 _x54 _x55 _x56 _x57 _x58 _x59 _x60 _x61 _x62 _x63 _x64 _x65 _x66 _x67 => R36 f_45 follow_46 hops_47 x48 p_49 l_50 (IntKind.i64.wrap (i_51 + 1))) (fun j44 => ptrW p_41 (fun b68 o69 =>
 rdT (rdC b68 (o69 + 2)) kI (fun (x70 : Int) => brW (decide ((x70 : Int) < 0)) (stW Tryz.prog 171 (.pointer x40) (.agg ⟨[.int .i64 0, .string (⟨⟨[]⟩⟩ : ByteArray), .int .i64 0]⟩) (ptrW x40 (fun b71 o72 => rdT (rdA 3 b71 o72) (.one (.agg [(.int .i64), .str, (.int .i64)])) (fun (r73 : Int) (r74 : ByteArray) (r75 : Int) => K (.tuple ⟨[.agg ⟨[.int .i64 r73, .string r74, .int .i64 r75]⟩, .int .i64 5]⟩))))) (ptrW p_41 (fun b76 o77 => rdT (rdC b76 (o77 + 2)) kI (fun (x78 : Int) =>
 ptrW l_42.base (fun b79 o80 => ifW (0 <= i_43 /\ i_43 < ((l_42.len : Nat) : Int)) (rdT (rdC b79 (o80 + i_43.toNat * 1)) kS (fun (x81 : ByteArray) => callT Tryz.prog 226 [.pointer f_37, .int .i64 x78, .string x81] (.tup [.agg [(.int .i64), .str, (.int .i64)], .sc (.int .i64)]) (fun (x82 : Int) (x83 : ByteArray) (x84 : Int) (x85 : Int) => alW (.cells ⟨[.int .i64 0, .string (⟨⟨[]⟩⟩ : ByteArray), .int .i64 0]⟩ 171 (0, 0)) (fun b86 =>
 stW Tryz.prog 171 (.pointer (some ⟨b86, 0, none⟩)) (.agg ⟨[.int .i64 x82, .string x83, .int .i64 x84]⟩) (brW ((x85 : Int) != 0) (stW Tryz.prog 171 (.pointer x40) (.agg ⟨[.int .i64 0, .string (⟨⟨[]⟩⟩ : ByteArray), .int .i64 0]⟩) (ptrW x40 (fun b87 o88 => rdT (rdA 3 b87 o88) (.one (.agg [(.int .i64), .str, (.int .i64)])) (fun (r89 : Int) (r90 : ByteArray) (r91 : Int) => K (.tuple ⟨[.agg ⟨[.int .i64 r89, .string r90, .int .i64 r91]⟩, .int .i64 x85]⟩)))))
 (rdT (rdA 3 b86 0) (.one (.agg [(.int .i64), .str, (.int .i64)])) (fun (x92 : Int) (x93 : ByteArray) (x94 : Int) =>
 stW Tryz.prog 171 (.pointer p_41) (.agg ⟨[.int .i64 x92, .string x93, .int .i64 x94]⟩) (letJ (T := Option Addr -> Bool -> Option Addr -> Option Addr -> Option Addr -> Sl -> Int -> Value -> Value -> Value -> Value -> Value -> Value -> Value -> Value -> Value -> Value -> Value -> Value -> Value -> Value -> Value -> Value -> Bool -> H -> Prop) (fun f_96 follow_97 hops_98 x99 p_100 l_101 i_102 x103 x104 x105 x106 x107 x108 x109 x110 x111 x112 x113 x114 x115 x116 x117 x118 x119 => brW x119 (ptrW hops_98 (fun b120 o121 =>
 rdT (rdC b120 o121) kI (fun (x122 : Int) => ptrW hops_98 (fun b123 o124 => stW Tryz.prog 3 (.pointer (some ⟨b123, o124, none⟩)) (.int .i64 (IntKind.i64.wrap (x122 - 1))) (ptrW hops_98 (fun b125 o126 => rdT (rdC b125 o126) kI (fun (x127 : Int) => brW (decide ((x127 : Int) < 0)) (stW Tryz.prog 171 (.pointer x99) (.agg ⟨[.int .i64 0, .string (⟨⟨[]⟩⟩ : ByteArray), .int .i64 0]⟩) (ptrW x99 (fun b128 o129 =>
 rdT (rdA 3 b128 o129) (.one (.agg [(.int .i64), .str, (.int .i64)])) (fun (r130 : Int) (r131 : ByteArray) (r132 : Int) => K (.tuple ⟨[.agg ⟨[.int .i64 r130, .string r131, .int .i64 r132]⟩, .int .i64 9]⟩))))) (ptrW p_100 (fun b133 o134 => rdT (rdC b133 o134) kI (fun (x135 : Int) => ptrW f_96 (fun b136 o137 => rdT (rdC b136 (o137 + 2)) kL (fun x138 => ptrW p_100 (fun b139 o140 => rdT (rdC b139 (o140 + 2)) kI (fun (x141 : Int) => ptrW x138.base (fun b142 o143 =>
 ifW (0 <= x141 /\ x141 < ((x138.len : Nat) : Int)) (rdT (rdC b142 (o143 + x141.toNat * 1)) kP (fun x144 => ptrW x144 (fun b145 o146 => rdT (rdC b145 (o146 + 2)) kS (fun (x147 : ByteArray) => callT Tryz.prog 185 [.pointer f_96, .int .i64 x135, .string x147, .bool true, .pointer hops_98] (.tup [.agg [(.int .i64), .str, (.int .i64)], .sc (.int .i64)]) (fun (x148 : Int) (x149 : ByteArray) (x150 : Int) (x151 : Int) =>
 stW Tryz.prog 171 (.pointer p_100) (.agg ⟨[.int .i64 x148, .string x149, .int .i64 x150]⟩) (brW ((x151 : Int) != 0) (stW Tryz.prog 171 (.pointer x99) (.agg ⟨[.int .i64 0, .string (⟨⟨[]⟩⟩ : ByteArray), .int .i64 0]⟩) (ptrW x99 (fun b152 o153 => rdT (rdA 3 b152 o153) (.one (.agg [(.int .i64), .str, (.int .i64)])) (fun (r154 : Int) (r155 : ByteArray) (r156 : Int) => K (.tuple ⟨[.agg ⟨[.int .i64 r154, .string r155, .int .i64 r156]⟩, .int .i64 x151]⟩)))))
 (j44 f_96 follow_97 hops_98 x99 p_100 l_101 i_102 x103 x104 x105 x106 x107 x108 x109 x110 x111 x112 x113 x114 x115 x116 x117 x118)))))))))))))))))))))) (j44 f_96 follow_97 hops_98 x99 p_100 l_101 i_102 x103 x104 x105 x106 x107 x108 x109 x110 x111 x112 x113 x114 x115 x116 x117 x118)) (fun j95 => brW (decide (((IntKind.i64.wrap (i_43 + 1)) : Int) < ((l_42.len : Nat) : Int))) (ptrW p_41 (fun b157 o158 => rdT (rdC b157 (o158 + 2)) kI (fun (x159 : Int) => brW (decide ((x159 : Int) >= 0))
 (ptrW f_37 (fun b160 o161 => rdT (rdC b160 (o161 + 2)) kL (fun x162 => ptrW p_41 (fun b163 o164 => rdT (rdC b163 (o164 + 2)) kI (fun (x165 : Int) => ptrW x162.base (fun b166 o167 => ifW (0 <= x165 /\ x165 < ((x162.len : Nat) : Int)) (rdT (rdC b166 (o167 + x165.toNat * 1)) kP (fun x168 => ptrW x168 (fun b169 o170 => rdT (rdC b169 o170) kI (fun (x171 : Int) =>
 j95 f_37 follow_38 hops_39 x40 p_41 l_42 i_43 (.tuple ⟨[]⟩) (.pointer (some ⟨b157, o158 + 2, none⟩)) (.int .i64 x159) (.bool (decide ((x159 : Int) >= 0))) (.pointer f_37) (.pointer (some ⟨b160, o161, none⟩)) (.pointer (some ⟨b160, o161 + 2, none⟩)) (.slice x162.base x162.len x162.cap) (.pointer (some ⟨b163, o164 + 2, none⟩)) (.int .i64 x165) (.pointer (some ⟨b166, o167 + x165.toNat * 1, none⟩)) (.pointer x168) (.pointer (some ⟨b169, o170, none⟩)) (.pointer (some ⟨b169, o170, none⟩)) (.int .i64 x171) (.bool ((x171 : Int) == 3)) ((x171 : Int) == 3)))))))))))
 (j95 f_37 follow_38 hops_39 x40 p_41 l_42 i_43 (.tuple ⟨[]⟩) (.pointer (some ⟨b157, o158 + 2, none⟩)) (.int .i64 x159) (.bool (decide ((x159 : Int) >= 0))) (.tuple ⟨[]⟩) (.tuple ⟨[]⟩) (.tuple ⟨[]⟩) (.tuple ⟨[]⟩) (.tuple ⟨[]⟩) (.tuple ⟨[]⟩) (.tuple ⟨[]⟩) (.tuple ⟨[]⟩) (.tuple ⟨[]⟩) (.tuple ⟨[]⟩) (.tuple ⟨[]⟩) (.tuple ⟨[]⟩) false)))) (brW follow_38 (ptrW p_41 (fun b172 o173 => rdT (rdC b172 (o173 + 2)) kI (fun (x174 : Int) => brW (decide ((x174 : Int) >= 0)) (ptrW f_37 (fun b175 o176 =>
 rdT (rdC b175 (o176 + 2)) kL (fun x177 => ptrW p_41 (fun b178 o179 => rdT (rdC b178 (o179 + 2)) kI (fun (x180 : Int) => ptrW x177.base (fun b181 o182 => ifW (0 <= x180 /\ x180 < ((x177.len : Nat) : Int)) (rdT (rdC b181 (o182 + x180.toNat * 1)) kP (fun x183 => ptrW x183 (fun b184 o185 => rdT (rdC b184 o185) kI (fun (x186 : Int) =>
 j95 f_37 follow_38 hops_39 x40 p_41 l_42 i_43 (.bool follow_38) (.pointer (some ⟨b172, o173 + 2, none⟩)) (.int .i64 x174) (.bool (decide ((x174 : Int) >= 0))) (.pointer f_37) (.pointer (some ⟨b175, o176, none⟩)) (.pointer (some ⟨b175, o176 + 2, none⟩)) (.slice x177.base x177.len x177.cap) (.pointer (some ⟨b178, o179 + 2, none⟩)) (.int .i64 x180) (.pointer (some ⟨b181, o182 + x180.toNat * 1, none⟩)) (.pointer x183) (.pointer (some ⟨b184, o185, none⟩)) (.pointer (some ⟨b184, o185, none⟩)) (.int .i64 x186) (.bool ((x186 : Int) == 3)) ((x186 : Int) == 3)))))))))))
 (j95 f_37 follow_38 hops_39 x40 p_41 l_42 i_43 (.bool follow_38) (.pointer (some ⟨b172, o173 + 2, none⟩)) (.int .i64 x174) (.bool (decide ((x174 : Int) >= 0))) (.tuple ⟨[]⟩) (.tuple ⟨[]⟩) (.tuple ⟨[]⟩) (.tuple ⟨[]⟩) (.tuple ⟨[]⟩) (.tuple ⟨[]⟩) (.tuple ⟨[]⟩) (.tuple ⟨[]⟩) (.tuple ⟨[]⟩) (.tuple ⟨[]⟩) (.tuple ⟨[]⟩) (.tuple ⟨[]⟩) false))))
 (j95 f_37 follow_38 hops_39 x40 p_41 l_42 i_43 (.bool follow_38) (.tuple ⟨[]⟩) (.tuple ⟨[]⟩) (.tuple ⟨[]⟩) (.tuple ⟨[]⟩) (.tuple ⟨[]⟩) (.tuple ⟨[]⟩) (.tuple ⟨[]⟩) (.tuple ⟨[]⟩) (.tuple ⟨[]⟩) (.tuple ⟨[]⟩) (.tuple ⟨[]⟩) (.tuple ⟨[]⟩) (.tuple ⟨[]⟩) (.tuple ⟨[]⟩) (.tuple ⟨[]⟩) false))))))))))))))))))) (ptrW p_41 (fun b187 o188 => rdT (rdA 3 b187 o188) (.one (.agg [(.int .i64), .str, (.int .i64)])) (fun (x189 : Int) (x190 : ByteArray) (x191 : Int) =>
 stW Tryz.prog 171 (.pointer x40) (.agg ⟨[.int .i64 x189, .string x190, .int .i64 x191]⟩) (ptrW x40 (fun b192 o193 => rdT (rdA 3 b192 o193) (.one (.agg [(.int .i64), .str, (.int .i64)])) (fun (r194 : Int) (r195 : ByteArray) (r196 : Int) =>
 K (.tuple ⟨[.agg ⟨[.int .i64 r194, .string r195, .int .i64 r196]⟩, .int .i64 0]⟩))))))))) (fun (R197 : Option Addr -> Bool -> Option Addr -> Option Addr -> Option Addr -> Sl -> Int -> H -> Prop) => R197 f_28 follow_31 hops_32 x33 (some ⟨b34, 0, none⟩) x35 0))))) (fun j27 => idxW path_16 0 (fun c198 => brW (((c198.toNat : Int) : Int) == 47) (j27 f_14 0 path_16 follow_17 hops_18 x19)
 (j27 f_14 at_15 path_16 follow_17 hops_18 x19)))))) (fun (R199 : Option Addr -> Int -> ByteArray -> Bool -> Option Addr -> Option Addr -> Int -> H -> Prop) => R199 f_1 at_2 path_3 follow_4 hops_5 (some ⟨b6, 0, none⟩) 0))))
theorem e185 (f_1 : Option Addr) (at_2 : Int) (path_3 : ByteArray) (follow_4 : Bool) (hops_5 : Option Addr) (K : KH) : bodyF Tryz.prog tau Tryz.f185 an185 [.pointer f_1, .int .i64 at_2, .string path_3, .bool follow_4, .pointer hops_5] K = g185 f_1 at_2 path_3 follow_4 hops_5 K := by kernel_rfl
theorem c185 (f_1 : Option Addr) (at_2 : Int) (path_3 : ByteArray) (follow_4 : Bool) (hops_5 : Option Addr) {K : KH} {σ : H} (h : g185 f_1 at_2 path_3 follow_4 hops_5 K σ) : callW Tryz.prog 185 [.pointer f_1, .int .i64 at_2, .string path_3, .bool follow_4, .pointer hops_5] K σ := call_of_body mixed Tryz.func185 (by rw [e185]; exact h)


def an186 : Ann := (.q (.n (.q (.blk (.loop [(0,.l),(1,.w),(7,.i),(8,.i)] (.q (.n (.cond .z .z) (.n (.blk (.q (.q (.h)))) .r)))))) (.q .z)))
def g186 (s_1 : Sl) (f_2 : Value) (K : KH) : H -> Prop :=
 loopW [.sc .slc, .sc .raw, .sc (.int .i64), .sc (.int .i64)] (fun (R3 : Sl -> Value -> Int -> Int -> H -> Prop) => (fun (s_4 : Sl) (f_5 : Value) (x6 : Int) (x7 : Int) => brW (decide ((x7 : Int) < x6)) (ptrW s_4.base (fun b8 o9 => ifW (0 <= x7 /\ x7 < ((s_4.len : Nat) : Int)) (rdT (rdA 3 b8 (o9 + x7.toNat * 3)) (.one (.agg [.bool, .raw, .bool])) (fun x10 x11 x12 => cvalT Tryz.prog f_5 [.agg ⟨[.bool x10, x11, .bool x12]⟩] kB (fun x13 => brW x13 (K (.int .i64 x7))
 (R3 s_4 f_5 x6 (IntKind.i64.wrap (x7 + 1)))))))) (K (.int .i64 (-1))))) (fun (R14 : Sl -> Value -> Int -> Int -> H -> Prop) => R14 s_1 f_2 ((s_1.len : Nat) : Int) 0)
theorem e186 (s_1 : Sl) (f_2 : Value) (K : KH) : bodyF Tryz.prog tau Tryz.f186 an186 [.slice s_1.base s_1.len s_1.cap, f_2] K = g186 s_1 f_2 K := by kernel_rfl
theorem c186 (s_1 : Sl) (f_2 : Value) {K : KH} {σ : H} (h : g186 s_1 f_2 K σ) : callW Tryz.prog 186 [.slice s_1.base s_1.len s_1.cap, f_2] K σ := call_of_body mixed Tryz.func186 (by rw [e186]; exact h)


def an187 : Ann := (.q (.q .z))
def g187 (p_1 : Sl) (K : KH) : H -> Prop :=
 alW (.cells ⟨[.slice p_1.base p_1.len p_1.cap]⟩ 31 (0, 0)) (fun b2 => K (.func (.func 227) ⟨[]⟩ ⟨[.pointer (some ⟨b2, 0, none⟩)]⟩))
theorem e187 (p_1 : Sl) (K : KH) : bodyF Tryz.prog tau Tryz.f187 an187 [.slice p_1.base p_1.len p_1.cap] K = g187 p_1 K := by kernel_rfl
theorem c187 (p_1 : Sl) {K : KH} {σ : H} (h : g187 p_1 K σ) : callW Tryz.prog 187 [.slice p_1.base p_1.len p_1.cap] K σ := call_of_body mixed Tryz.func187 (by rw [e187]; exact h)


def an188 : Ann := (.q (.n (.seq (some [(0,.l),(17,.b)]) .r (.h)) (.q (.q (.seq (some [(0,.l),(4,.p),(5,.i)]) (.q (.cond .r .z)) (.n (.q (.h)) (.q (.n (.q (.h)) (.q (.q (.q .z)))))))))))
def g188 (l_1 : Sl) (K : KH) : H -> Prop :=
 letJ (T := Sl -> Bool -> H -> Prop) (fun l_3 x4 => brW x4 (K (.tuple ⟨[.nilFunc, .int .i64 0]⟩)) (ptrW l_3.base (fun b5 o6 => ifW (0 <= (1 : Int) /\ (1 : Int) < ((l_3.len : Nat) : Int)) (rdT (rdA 2 b5 (o6 + (1 : Int).toNat * 2)) (.one (.agg [(.int .u8), .bool])) (fun (x7 : Int) (x8 : Bool) => callT Tryz.prog 189 [.agg ⟨[.int .u8 x7, .bool x8]⟩, .string (⟨⟨[33, 94]⟩⟩ : ByteArray)] kB (fun x9 => alW (.cells ⟨[.bool false]⟩ 4 (0, 0)) (fun b10 =>
 stW Tryz.prog 4 (.pointer (some ⟨b10, 0, none⟩)) (.bool x9) (letJ (T := Sl -> Option Addr -> Int -> H -> Prop) (fun l_12 not_13 from_14 => brW (decide (((IntKind.i64.wrap (from_14 + 1)) : Int) >= ((l_12.len : Nat) : Int))) (K (.tuple ⟨[.nilFunc, .int .i64 0]⟩)) (ifW (bndOk none l_12.cap /\ bndOk (some (IntKind.i64.wrap (from_14 + 1))) l_12.len)
 (callT Tryz.prog 228 [.slice (slBase l_12.base ((IntKind.i64.wrap (from_14 + 1)).toNat) l_12.cap 2) (l_12.len - ((IntKind.i64.wrap (from_14 + 1)).toNat)) (l_12.cap - ((IntKind.i64.wrap (from_14 + 1)).toNat)), .func (.func 229) ⟨[]⟩ ⟨[]⟩] kI (fun (x15 : Int) => brW (decide ((x15 : Int) < 0)) (K (.tuple ⟨[.nilFunc, .int .i64 0]⟩))
 (ifW (bndOk (some (IntKind.i64.wrap (x15 + (IntKind.i64.wrap (from_14 + 1))))) l_12.cap /\ bndOk (some from_14) ((IntKind.i64.wrap (x15 + (IntKind.i64.wrap (from_14 + 1)))).toNat)) (alW (.cells ⟨[.slice none 0 0]⟩ 229 (0, 0)) (fun b16 =>
 stW Tryz.prog 229 (.pointer (some ⟨b16, 0, none⟩)) (.slice (slBase l_12.base from_14.toNat l_12.cap 2) (((IntKind.i64.wrap (x15 + (IntKind.i64.wrap (from_14 + 1)))).toNat) - from_14.toNat) (l_12.cap - from_14.toNat)) (K (.tuple ⟨[.func (.func 230) ⟨[]⟩ ⟨[.pointer (some ⟨b16, 0, none⟩), .pointer not_13]⟩, .int .i64 (IntKind.i64.wrap ((IntKind.i64.wrap (x15 + (IntKind.i64.wrap (from_14 + 1)))) + 1))]⟩))))))))) (fun j11 => rdT (rdC b10 0) kB (fun x17 => brW x17 (j11 l_3 (some ⟨b10, 0, none⟩) 2)
 (j11 l_3 (some ⟨b10, 0, none⟩) 1))))))))))) (fun j2 => brW (decide ((((l_1.len : Nat) : Int) : Int) < 2)) (j2 l_1 true) (ptrW l_1.base (fun b18 o19 => ifW (0 <= (0 : Int) /\ (0 : Int) < ((l_1.len : Nat) : Int)) (rdT (rdA 2 b18 (o19 + (0 : Int).toNat * 2)) (.one (.agg [(.int .u8), .bool])) (fun (x20 : Int) (x21 : Bool) => callT Tryz.prog 189 [.agg ⟨[.int .u8 x20, .bool x21]⟩, .string (⟨⟨[91]⟩⟩ : ByteArray)] kB (fun x22 => j2 l_1 (!x22)))))))
theorem e188 (l_1 : Sl) (K : KH) : bodyF Tryz.prog tau Tryz.f188 an188 [.slice l_1.base l_1.len l_1.cap] K = g188 l_1 K := by kernel_rfl
theorem c188 (l_1 : Sl) {K : KH} {σ : H} (h : g188 l_1 K σ) : callW Tryz.prog 188 [.slice l_1.base l_1.len l_1.cap] K σ := call_of_body mixed Tryz.func188 (by rw [e188]; exact h)


def an189 : Ann := (.q (.q .z))
def g189 (c_1 : Int) (c_2 : Bool) (l_3 : ByteArray) (K : KH) : H -> Prop :=
 alW (.cells ⟨[.int .u8 c_1, .bool c_2]⟩ 234 (0, 0)) (fun b4 => rdT (rdC b4 1) kB (fun x5 => brW (!x5) (rdT (rdC b4 0) kC (fun (x6 : Int) => callT Tryz.prog 26 [.string l_3, .int .u8 x6] kI (fun (x7 : Int) => K (.bool (decide ((x7 : Int) >= 0)))))) (K (.bool false))))
theorem e189 (c_1 : Int) (c_2 : Bool) (l_3 : ByteArray) (K : KH) : bodyF Tryz.prog tau Tryz.f189 an189 [.agg ⟨[.int .u8 c_1, .bool c_2]⟩, .string l_3] K = g189 c_1 c_2 l_3 K := by kernel_rfl
theorem c189 (c_1 : Int) (c_2 : Bool) (l_3 : ByteArray) {K : KH} {σ : H} (h : g189 c_1 c_2 l_3 K σ) : callW Tryz.prog 189 [.agg ⟨[.int .u8 c_1, .bool c_2]⟩, .string l_3] K σ := call_of_body mixed Tryz.func189 (by rw [e189]; exact h)


def an190 : Ann := (.q (.q .z))
def g190 (x1 : Int) (K : KH) : H -> Prop :=
 K (.bool true)
theorem e190 (x1 : Int) (K : KH) : bodyF Tryz.prog tau Tryz.f190 an190 [.int .u8 x1] K = g190 x1 K := by kernel_rfl
theorem c190 (x1 : Int) {K : KH} {σ : H} (h : g190 x1 K σ) : callW Tryz.prog 190 [.int .u8 x1] K σ := call_of_body mixed Tryz.func190 (by rw [e190]; exact h)


def an191 : Ann := (.q (.q .z))
def g191 (b_1 : Int) (x2 : Option Addr) (K : KH) : H -> Prop :=
 ptrW x2 (fun b3 o4 => rdT (rdC b3 o4) kC (fun (x5 : Int) => K (.bool ((b_1 : Int) == x5))))
theorem e191 (b_1 : Int) (x2 : Option Addr) (K : KH) : bodyF Tryz.prog tau Tryz.f191 an191 [.int .u8 b_1, .pointer x2] K = g191 b_1 x2 K := by kernel_rfl
theorem c191 (b_1 : Int) (x2 : Option Addr) {K : KH} {σ : H} (h : g191 b_1 x2 K σ) : callW Tryz.prog 191 [.int .u8 b_1, .pointer x2] K σ := call_of_body mixed Tryz.func191 (by rw [e191]; exact h)


def an192 : Ann := (.q (.seq (some [(2,.p)]) (.q (.blk (.rf [.s] .r (.blk .r)))) (.q .z)))
def g192 (s_1 : Sl) (seq_2 : Value) (K : KH) : H -> Prop :=
 alW (.cells ⟨[.slice s_1.base s_1.len s_1.cap]⟩ 22 (0, 0)) (fun b3 => letJ (T := Option Addr -> H -> Prop) (fun s_5 => ptrW s_5 (fun b6 o7 => rdT (rdC b6 o7) kL (fun x8 => K (.slice x8.base x8.len x8.cap)))) (fun j4 => funW seq_2 (fun (g17 : FuncId) (as18 cs19 : List Value) => rfW Tryz.prog none g17 as18 cs19 [.sc .str] (fun (l9 : Nat) (obj10 : LoopState -> Option Code -> Obj) (K11 : Value -> H -> Prop) => (fun (x12 : ByteArray) => begW l9 obj10 (rdT (rdC b3 0) kL (fun x13 =>
 alW (.cells ⟨[.string x12]⟩ 9 (0, 0)) (fun b14 => biW Tryz.prog .append #[22, 22] 22 [false, false] [.slice x13.base x13.len x13.cap, .slice (some ⟨b14, 0, none⟩) 1 1] kL (fun x15 => stW Tryz.prog 22 (.pointer (some ⟨b3, 0, none⟩)) (.slice x15.base x15.len x15.cap) (roundK l9 obj10 K11 none true .ready))))))) (j4 (some ⟨b3, 0, none⟩)) (fun i16 => exW i16 0 (j4 (some ⟨b3, 0, none⟩)) (nW)) (K (.slice none 0 0)))))
theorem e192 (s_1 : Sl) (seq_2 : Value) (K : KH) : bodyF Tryz.prog tau Tryz.f192 an192 [.slice s_1.base s_1.len s_1.cap, seq_2] K = g192 s_1 seq_2 K := by kernel_rfl
theorem c192 (s_1 : Sl) (seq_2 : Value) {K : KH} {σ : H} (h : g192 s_1 seq_2 K σ) : callW Tryz.prog 192 [.slice s_1.base s_1.len s_1.cap, seq_2] K σ := call_of_body mixed Tryz.func192 (by rw [e192]; exact h)


def an195 : Ann := (.q (.q (.n (.q (.h)) (.n (.q (.blk (.loop [(0,.l),(1,.w),(5,.i),(6,.i)] (.n (.q (.cond .z .z)) (.seq (some [(0,.l),(1,.w),(5,.i),(6,.i)]) (.blk (.q (.q (.cond (.q .r) .z)))) .r))))) (.q (.q .z))))))
def g195 (s_1 : Sl) (del_2 : Value) (K : KH) : H -> Prop :=
 callT Tryz.prog 242 [.slice s_1.base s_1.len s_1.cap, del_2] kI (fun (x3 : Int) => brW ((x3 : Int) == (-1)) (K (.slice s_1.base s_1.len s_1.cap)) (loopW [.sc .slc, .sc .raw, .sc (.int .i64), .sc (.int .i64)] (fun (R4 : Sl -> Value -> Int -> Int -> H -> Prop) => (fun (s_5 : Sl) (del_6 : Value) (i_7 : Int) (j_8 : Int) => brW (decide ((j_8 : Int) < ((s_5.len : Nat) : Int))) (letJ (T := Sl -> Value -> Int -> Int -> H -> Prop) (fun s_10 del_11 i_12 j_13 =>
 R4 s_10 del_11 i_12 (IntKind.i64.wrap (j_13 + 1))) (fun j9 => ptrW s_5.base (fun b14 o15 => ifW (0 <= j_8 /\ j_8 < ((s_5.len : Nat) : Int)) (rdT (rdC b14 (o15 + j_8.toNat * 1)) kS (fun (x16 : ByteArray) => cvalT Tryz.prog del_6 [.string x16] kB (fun x17 => brW (!x17) (ptrW s_5.base (fun b18 o19 => ifW (0 <= i_7 /\ i_7 < ((s_5.len : Nat) : Int)) (stW Tryz.prog 9 (.pointer (some ⟨b18, o19 + i_7.toNat * 1, none⟩)) (.string x16) (j9 s_5 del_6 (IntKind.i64.wrap (i_7 + 1)) j_8))))
 (j9 s_5 del_6 i_7 j_8))))))) (ifW (bndOk none s_5.cap /\ bndOk (some i_7) s_5.len) (biW Tryz.prog .clear #[22] 0 [false] [.slice (slBase s_5.base i_7.toNat s_5.cap 1) (s_5.len - i_7.toNat) (s_5.cap - i_7.toNat)] kU (ifW (bndOk (some i_7) s_5.cap /\ bndOk none i_7.toNat) (K (.slice (slBase s_5.base 0 s_5.cap 1) (i_7.toNat - 0) (s_5.cap - 0)))))))) (fun (R20 : Sl -> Value -> Int -> Int -> H -> Prop) => R20 s_1 del_2 x3 (IntKind.i64.wrap (x3 + 1)))))
theorem e195 (s_1 : Sl) (del_2 : Value) (K : KH) : bodyF Tryz.prog tau Tryz.f195 an195 [.slice s_1.base s_1.len s_1.cap, del_2] K = g195 s_1 del_2 K := by kernel_rfl
theorem c195 (s_1 : Sl) (del_2 : Value) {K : KH} {σ : H} (h : g195 s_1 del_2 K σ) : callW Tryz.prog 195 [.slice s_1.base s_1.len s_1.cap, del_2] K σ := call_of_body mixed Tryz.func195 (by rw [e195]; exact h)


def an196 : Ann := (.q (.q .z))
def g196 (name_1 : ByteArray) (x2 : Option Addr) (x3 : Option Addr) (K : KH) : H -> Prop :=
 idxW name_1 0 (fun c4 => brW (((c4.toNat : Int) : Int) == 46) (ptrW x2 (fun b5 o6 => rdT (rdC b5 o6) kB (fun x7 => brW (!x7) (K (.bool true)) (ptrW x3 (fun b8 o9 => rdT (rdC b8 o9) kL (fun x10 => callT Tryz.prog 197 [.slice x10.base x10.len x10.cap, .string name_1] kB (fun x11 => K (.bool (!x11))))))))) (ptrW x3 (fun b12 o13 => rdT (rdC b12 o13) kL (fun x14 => callT Tryz.prog 197 [.slice x14.base x14.len x14.cap, .string name_1] kB (fun x15 => K (.bool (!x15)))))))
theorem e196 (name_1 : ByteArray) (x2 : Option Addr) (x3 : Option Addr) (K : KH) : bodyF Tryz.prog tau Tryz.f196 an196 [.string name_1, .pointer x2, .pointer x3] K = g196 name_1 x2 x3 K := by kernel_rfl
theorem c196 (name_1 : ByteArray) (x2 : Option Addr) (x3 : Option Addr) {K : KH} {σ : H} (h : g196 name_1 x2 x3 K σ) : callW Tryz.prog 196 [.string name_1, .pointer x2, .pointer x3] K σ := call_of_body mixed Tryz.func196 (by rw [e196]; exact h)


def an197 : Ann := (.q (.blk (.q (.q (.q (.n .z (.seq (some [(1,.s),(5,.l),(6,.i),(9,.i)]) (.blk (.loop [(1,.s),(5,.l),(6,.i),(7,.i),(8,.i),(9,.i)] (.n (.q (.cond .z .z)) (.blk (.n (.blk (.loop [(1,.s),(5,.l),(6,.i),(7,.i),(8,.i),(9,.i)] (.n (.seq (some [(1,.s),(5,.l),(6,.i),(7,.i),(8,.i),(9,.i),(21,.w),(22,.w),(23,.w),(24,.w),(25,.w),(26,.b)]) .r (.cond .z .z)) (.blk (.q .r))))) (.n (.blk (.seq (some [(1,.s),(5,.l),(6,.i),(7,.i),(8,.i),(9,.i),(21,.w),(22,.w),(23,.w),(24,.w),(25,.w),(31,.b),(37,.w),(38,.w),(39,.w),(40,.w),(41,.w),(42,.w),(43,.w),(44,.w),(45,.w)]) (.reg (rn 16) [[],[],[1],[0,1,2],(rn 4),(rn 5),(rn 5),(rn 7),(rn 8),(rn 9),(rn 5),(rn 5),[0,1,2,3,4,10,11],(rn 13),(rn 14),(rn 15)]) (.cond (.q (.q .z)) (.q (.cond .z .z))))) (.q .r))))))) (.n (.blk (.loop [(1,.s),(5,.l),(6,.i),(9,.i)] (.n (.seq (some [(1,.s),(5,.l),(6,.i),(9,.i),(63,.w),(64,.w),(65,.w),(66,.w),(67,.w),(68,.b)]) .r (.cond .z .z)) (.blk .r)))) (.q .z)))))))))
def g197 (p_1 : Sl) (s_2 : ByteArray) (K : KH) : H -> Prop :=
 callT Tryz.prog 131 [.slice p_1.base p_1.len p_1.cap] kL (fun x3 => letJ (T := ByteArray -> Sl -> Int -> Int -> H -> Prop) (fun s_5 l_6 at_7 i_8 => loopW [.sc .str, .sc .slc, .sc (.int .i64), .sc (.int .i64)] (fun (R9 : ByteArray -> Sl -> Int -> Int -> H -> Prop) => (fun (s_10 : ByteArray) (l_11 : Sl) (at_12 : Int) (i_13 : Int) => letJ (T := ByteArray -> Sl -> Int -> Int -> Value -> Value -> Value -> Value -> Value -> Bool -> H -> Prop) (fun s_15 l_16 at_17 i_18 _x19 _x20 _x21 _x22 _x23 x24 => brW x24
 (R9 s_15 l_16 (IntKind.i64.wrap (at_17 + 1)) i_18) (brW ((i_18 : Int) == ((s_15.size : Nat) : Int)) (K (.bool ((at_17 : Int) == ((l_16.len : Nat) : Int)))) (K (.bool false)))) (fun j14 => brW (decide ((at_12 : Int) < ((l_11.len : Nat) : Int))) (ptrW l_11.base (fun b25 o26 => ifW (0 <= at_12 /\ at_12 < ((l_11.len : Nat) : Int)) (rdT (rdC b25 (o26 + at_12.toNat * 3)) kB (fun x27 =>
 j14 s_10 l_11 at_12 i_13 (.slice l_11.base l_11.len l_11.cap) (.int .i64 at_12) (.pointer (some ⟨b25, o26 + at_12.toNat * 3, none⟩)) (.pointer (some ⟨b25, o26 + at_12.toNat * 3, none⟩)) (.bool x27) x27)))) (j14 s_10 l_11 at_12 i_13 (.tuple ⟨[]⟩) (.tuple ⟨[]⟩) (.tuple ⟨[]⟩) (.tuple ⟨[]⟩) (.tuple ⟨[]⟩) false)))) (fun (R28 : ByteArray -> Sl -> Int -> Int -> H -> Prop) => R28 s_5 l_6 at_7 i_8)) (fun j4 =>
 loopW [.sc .str, .sc .slc, .sc (.int .i64), .sc (.int .i64), .sc (.int .i64), .sc (.int .i64)] (fun (R29 : ByteArray -> Sl -> Int -> Int -> Int -> Int -> H -> Prop) => (fun (s_30 : ByteArray) (l_31 : Sl) (at_32 : Int) (back_33 : Int) (from_34 : Int) (i_35 : Int) => brW (decide ((i_35 : Int) < ((s_30.size : Nat) : Int)))
 (loopW [.sc .str, .sc .slc, .sc (.int .i64), .sc (.int .i64), .sc (.int .i64), .sc (.int .i64)] (fun (R36 : ByteArray -> Sl -> Int -> Int -> Int -> Int -> H -> Prop) => (fun (s_37 : ByteArray) (l_38 : Sl) (at_39 : Int) (back_40 : Int) (from_41 : Int) (i_42 : Int) => letJ (T := ByteArray -> Sl -> Int -> Int -> Int -> Int -> Value -> Value -> Value -> Value -> Value -> Bool -> H -> Prop) (fun s_44 l_45 at_46 back_47 from_48 i_49 x50 x51 x52 x53 x54 x55 => brW x55
 (R36 s_44 l_45 (IntKind.i64.wrap (at_46 + 1)) (IntKind.i64.wrap (at_46 + 1)) i_49 i_49) (letJ (T := ByteArray -> Sl -> Int -> Int -> Int -> Int -> Value -> Value -> Value -> Value -> Value -> Bool -> Value -> Value -> Value -> Value -> Value -> Value -> Value -> Value -> Value -> H -> Prop) (fun s_57 l_58 at_59 back_60 from_61 i_62 _x63 _x64 _x65 _x66 _x67 x68 _x69 _x70 _x71 _x72 _x73 _x74 _x75 _x76 _x77 => brW x68 (R29 s_57 l_58 (IntKind.i64.wrap (at_59 + 1)) back_60 from_61 (IntKind.i64.wrap (i_62 + 1)))
 (brW (decide ((back_60 : Int) < 0)) (j4 s_57 l_58 at_59 i_62) (R29 s_57 l_58 back_60 back_60 (IntKind.i64.wrap (from_61 + 1)) (IntKind.i64.wrap (from_61 + 1))))) (fun j56 => brW (decide ((at_46 : Int) < ((l_45.len : Nat) : Int))) (ptrW l_45.base (fun b78 o79 => ifW (0 <= at_46 /\ at_46 < ((l_45.len : Nat) : Int)) (rdT (rdC b78 (o79 + at_46.toNat * 3 + 1)) kR (fun x80 => idxW s_44 i_49 (fun c81 => cvalT Tryz.prog x80 [.int .u8 (c81.toNat : Int)] kB (fun x82 =>
 j56 s_44 l_45 at_46 back_47 from_48 i_49 x50 x51 x52 x53 x54 x82 (.slice l_45.base l_45.len l_45.cap) (.int .i64 at_46) (.pointer (some ⟨b78, o79 + at_46.toNat * 3, none⟩)) (.pointer (some ⟨b78, o79 + at_46.toNat * 3 + 1, none⟩)) x80 (.string s_44) (.int .i64 i_49) (.int .u8 (c81.toNat : Int)) (.bool x82)))))))
 (j56 s_44 l_45 at_46 back_47 from_48 i_49 x50 x51 x52 x53 x54 false (.tuple ⟨[]⟩) (.tuple ⟨[]⟩) (.tuple ⟨[]⟩) (.tuple ⟨[]⟩) (.tuple ⟨[]⟩) (.tuple ⟨[]⟩) (.tuple ⟨[]⟩) (.tuple ⟨[]⟩) (.tuple ⟨[]⟩))))) (fun j43 => brW (decide ((at_39 : Int) < ((l_38.len : Nat) : Int))) (ptrW l_38.base (fun b83 o84 => ifW (0 <= at_39 /\ at_39 < ((l_38.len : Nat) : Int)) (rdT (rdC b83 (o84 + at_39.toNat * 3)) kB (fun x85 =>
 j43 s_37 l_38 at_39 back_40 from_41 i_42 (.slice l_38.base l_38.len l_38.cap) (.int .i64 at_39) (.pointer (some ⟨b83, o84 + at_39.toNat * 3, none⟩)) (.pointer (some ⟨b83, o84 + at_39.toNat * 3, none⟩)) (.bool x85) x85)))) (j43 s_37 l_38 at_39 back_40 from_41 i_42 (.tuple ⟨[]⟩) (.tuple ⟨[]⟩) (.tuple ⟨[]⟩) (.tuple ⟨[]⟩) (.tuple ⟨[]⟩) false)))) (fun (R86 : ByteArray -> Sl -> Int -> Int -> Int -> Int -> H -> Prop) => R86 s_30 l_31 at_32 back_33 from_34 i_35))
 (j4 s_30 l_31 at_32 i_35))) (fun (R87 : ByteArray -> Sl -> Int -> Int -> Int -> Int -> H -> Prop) => R87 s_2 x3 0 (-1) 0 0)))
theorem e197 (p_1 : Sl) (s_2 : ByteArray) (K : KH) : bodyF Tryz.prog tau Tryz.f197 an197 [.slice p_1.base p_1.len p_1.cap, .string s_2] K = g197 p_1 s_2 K := by kernel_rfl
theorem c197 (p_1 : Sl) (s_2 : ByteArray) {K : KH} {σ : H} (h : g197 p_1 s_2 K σ) : callW Tryz.prog 197 [.slice p_1.base p_1.len p_1.cap, .string s_2] K σ := call_of_body mixed Tryz.func197 (by rw [e197]; exact h)


def an199 : Ann := (.q (.q .z))
def g199 (n_1 : Int) (K : KH) : H -> Prop :=
 ifW ((8 : Int) ≠ 0) (K (.int .i64 (IntKind.i64.wrap (Int.tdiv (IntKind.i64.wrap (n_1 + 16)) 8))))
theorem e199 (n_1 : Int) (K : KH) : bodyF Tryz.prog tau Tryz.f199 an199 [.int .i64 n_1] K = g199 n_1 K := by kernel_rfl
theorem c199 (n_1 : Int) {K : KH} {σ : H} (h : g199 n_1 K σ) : callW Tryz.prog 199 [.int .i64 n_1] K σ := call_of_body mixed Tryz.func199 (by rw [e199]; exact h)


def an214 : Ann := (.q (.q (.n (.q (.h)) (.q .z))))
def g214 (x1 : Option Addr) (x2 : Option Addr) (K : KH) : H -> Prop :=
 ptrW x1 (fun b3 o4 => rdT (rdC b3 o4) kP (fun x5 => ptrW x2 (fun b6 o7 => rdT (rdC b6 o7) kI (fun (x8 : Int) => callT Tryz.prog 138 [.pointer x5, .int .i64 x8] kP (fun x9 => brW x9.isNone (K (.int .i64 5)) (ptrW x9 (fun b10 o11 => rdT (rdC b10 o11) kI (fun (x12 : Int) => callT Tryz.prog 161 [.bool ((x12 : Int) == 2), .int .i64 8] kI (fun (x13 : Int) => K (.int .i64 x13))))))))))
theorem e214 (x1 : Option Addr) (x2 : Option Addr) (K : KH) : bodyF Tryz.prog tau Tryz.f214 an214 [.pointer x1, .pointer x2] K = g214 x1 x2 K := by kernel_rfl
theorem c214 (x1 : Option Addr) (x2 : Option Addr) {K : KH} {σ : H} (h : g214 x1 x2 K σ) : callW Tryz.prog 214 [.pointer x1, .pointer x2] K σ := call_of_body mixed Tryz.func214 (by rw [e214]; exact h)


def an215 : Ann := (.q (.n (.q (.h)) (.q .z)))
def g215 (x1 : Option Addr) (K : KH) : H -> Prop :=
 ptrW x1 (fun b2 o3 => rdT (rdC b2 o3) kS (fun (x4 : ByteArray) => brW (decide ((((x4.size : Nat) : Int) : Int) > 56)) (K (.int .i64 3)) (ptrW x1 (fun b5 o6 => rdT (rdC b5 o6) kS (fun (x7 : ByteArray) => brW (!strEq x7 (⟨⟨[]⟩⟩ : ByteArray)) (ptrW x1 (fun b8 o9 => rdT (rdC b8 o9) kS (fun (x10 : ByteArray) => brW (!strEq x10 (⟨⟨[46]⟩⟩ : ByteArray)) (ptrW x1 (fun b11 o12 => rdT (rdC b11 o12) kS (fun (x13 : ByteArray) => brW (!strEq x13 (⟨⟨[46, 46]⟩⟩ : ByteArray)) (ptrW x1 (fun b14 o15 =>
 rdT (rdC b14 o15) kS (fun (x16 : ByteArray) => callT Tryz.prog 216 [.string x16, .string (⟨⟨[47, 0]⟩⟩ : ByteArray)] kB (fun x17 => callT Tryz.prog 161 [.bool (!x17), .int .i64 2] kI (fun (x18 : Int) => K (.int .i64 x18)))))) (callT Tryz.prog 161 [.bool false, .int .i64 2] kI (fun (x19 : Int) => K (.int .i64 x19)))))) (callT Tryz.prog 161 [.bool false, .int .i64 2] kI (fun (x20 : Int) => K (.int .i64 x20)))))) (callT Tryz.prog 161 [.bool false, .int .i64 2] kI (fun (x21 : Int) =>
 K (.int .i64 x21))))))))
theorem e215 (x1 : Option Addr) (K : KH) : bodyF Tryz.prog tau Tryz.f215 an215 [.pointer x1] K = g215 x1 K := by kernel_rfl
theorem c215 (x1 : Option Addr) {K : KH} {σ : H} (h : g215 x1 K σ) : callW Tryz.prog 215 [.pointer x1] K σ := call_of_body mixed Tryz.func215 (by rw [e215]; exact h)


def an216 : Ann := (.q (.q .z))
def g216 (s_1 : ByteArray) (chars_2 : ByteArray) (K : KH) : H -> Prop :=
 callT Tryz.prog 247 [.string s_1, .string chars_2] kI (fun (x3 : Int) => K (.bool (decide ((x3 : Int) >= 0))))
theorem e216 (s_1 : ByteArray) (chars_2 : ByteArray) (K : KH) : bodyF Tryz.prog tau Tryz.f216 an216 [.string s_1, .string chars_2] K = g216 s_1 chars_2 K := by kernel_rfl
theorem c216 (s_1 : ByteArray) (chars_2 : ByteArray) {K : KH} {σ : H} (h : g216 s_1 chars_2 K σ) : callW Tryz.prog 216 [.string s_1, .string chars_2] K σ := call_of_body mixed Tryz.func216 (by rw [e216]; exact h)


def an217 : Ann := (.q (.q (.q .z)))
def g217 (x1 : Option Addr) (x2 : Option Addr) (x3 : Option Addr) (K : KH) : H -> Prop :=
 ptrW x1 (fun b4 o5 => rdT (rdC b4 o5) kP (fun x6 => ptrW x2 (fun b7 o8 => rdT (rdC b7 o8) kI (fun (x9 : Int) => ptrW x3 (fun b10 o11 => rdT (rdC b10 o11) kS (fun (x12 : ByteArray) => callT Tryz.prog 125 [.pointer x6, .int .i64 x9, .string x12] (.tup [.sc (.int .i64), .sc .bool]) (fun (_x13 : Int) (x14 : Bool) => callT Tryz.prog 161 [.bool (!x14), .int .i64 6] kI (fun (x15 : Int) => K (.int .i64 x15)))))))))
theorem e217 (x1 : Option Addr) (x2 : Option Addr) (x3 : Option Addr) (K : KH) : bodyF Tryz.prog tau Tryz.f217 an217 [.pointer x1, .pointer x2, .pointer x3] K = g217 x1 x2 x3 K := by kernel_rfl
theorem c217 (x1 : Option Addr) (x2 : Option Addr) (x3 : Option Addr) {K : KH} {σ : H} (h : g217 x1 x2 x3 K σ) : callW Tryz.prog 217 [.pointer x1, .pointer x2, .pointer x3] K σ := call_of_body mixed Tryz.func217 (by rw [e217]; exact h)


def an218 : Ann := (.q (.n (.reg (rn 30) [[],[0],[0,1],[0,1,2],(rn 4),[],(rn 6),[],[7],[7,8],[7,8,9],[7,8,9,10],(rn 12),(rn 13),(rn 14),(rn 15),(rn 16),(rn 17),(rn 18),(rn 14),(rn 20),(rn 14),[0,1,2,3,4,5,6,7,8,9,10,11,12,13,21],[0,1,2,3,4,5,6,7,8,9,10,11,12,13,21,22],[0,1,2,3,4,5,6,7,8,9,10,11,12,13,21,22,23],[0,1,2,3,4,5,6,7,8,9,10,11,12,13,21,22,23,24],(rn 26),(rn 27),(rn 28),(rn 29)]) .z))
def g218 (x1 : Option Addr) (x2 : Option Addr) (x3 : Option Addr) (K : KH) : H -> Prop :=
 ptrW x1 (fun b4 o5 => rdT (rdC b4 o5) kP (fun x6 => ptrW x6 (fun b7 o8 => rdT (rdC b7 (o8 + 2)) kI (fun (x9 : Int) => ptrW x2 (fun b10 o11 => rdT (rdC b10 o11) kI (fun (x12 : Int) => ptrW x1 (fun b13 o14 => rdT (rdC b13 o14) kP (fun x15 => ptrW x15 (fun b16 o17 => rdT (rdC b16 o17) kI (fun (x18 : Int) => brW (decide (((IntKind.i64.wrap (x9 + x12)) : Int) <= x18)) (ptrW x1 (fun b19 o20 => rdT (rdC b19 o20) kP (fun x21 => ptrW x21 (fun b22 o23 => rdT (rdC b22 (o23 + 3)) kI (fun (x24 : Int) =>
 ptrW x3 (fun b25 o26 => rdT (rdC b25 o26) kI (fun (x27 : Int) => ptrW x1 (fun b28 o29 => rdT (rdC b28 o29) kP (fun x30 => ptrW x30 (fun b31 o32 => rdT (rdC b31 (o32 + 1)) kI (fun (x33 : Int) => callT Tryz.prog 161 [.bool (decide (((IntKind.i64.wrap (x24 + x27)) : Int) <= x33)), .int .i64 10] kI (fun (x34 : Int) => K (.int .i64 x34))))))))))))) (callT Tryz.prog 161 [.bool false, .int .i64 10] kI (fun (x35 : Int) => K (.int .i64 x35)))))))))))))
theorem e218 (x1 : Option Addr) (x2 : Option Addr) (x3 : Option Addr) (K : KH) : bodyF Tryz.prog tau Tryz.f218 an218 [.pointer x1, .pointer x2, .pointer x3] K = g218 x1 x2 x3 K := by kernel_rfl
theorem c218 (x1 : Option Addr) (x2 : Option Addr) (x3 : Option Addr) {K : KH} {σ : H} (h : g218 x1 x2 x3 K σ) : callW Tryz.prog 218 [.pointer x1, .pointer x2, .pointer x3] K σ := call_of_body mixed Tryz.func218 (by rw [e218]; exact h)


def an220 : Ann := (.q (.n (.blk (.q (.cond (.q .z) (.q (.cond (.q .z) (.q (.h))))))) (.q .z)))
def g220 (path_1 : ByteArray) (K : KH) : H -> Prop :=
 brW (strEq path_1 (⟨⟨[]⟩⟩ : ByteArray)) (K (.int .i64 5)) (brW (decide ((((path_1.size : Nat) : Int) : Int) > 255)) (K (.int .i64 3)) (callT Tryz.prog 26 [.string path_1, .int .u8 0] kI (fun (x2 : Int) => brW (decide ((x2 : Int) >= 0)) (K (.int .i64 2)) (K (.int .i64 0)))))
theorem e220 (path_1 : ByteArray) (K : KH) : bodyF Tryz.prog tau Tryz.f220 an220 [.string path_1] K = g220 path_1 K := by kernel_rfl
theorem c220 (path_1 : ByteArray) {K : KH} {σ : H} (h : g220 path_1 K σ) : callW Tryz.prog 220 [.string path_1] K σ := call_of_body mixed Tryz.func220 (by rw [e220]; exact h)


def an221 : Ann := (.q (.q .z))
def g221 (path_1 : ByteArray) (K : KH) : H -> Prop :=
 alW (.cells ⟨[.string path_1]⟩ 9 (0, 0)) (fun b2 => K (.func (.func 248) ⟨[]⟩ ⟨[.pointer (some ⟨b2, 0, none⟩)]⟩))
theorem e221 (path_1 : ByteArray) (K : KH) : bodyF Tryz.prog tau Tryz.f221 an221 [.string path_1] K = g221 path_1 K := by kernel_rfl
theorem c221 (path_1 : ByteArray) {K : KH} {σ : H} (h : g221 path_1 K σ) : callW Tryz.prog 221 [.string path_1] K σ := call_of_body mixed Tryz.func221 (by rw [e221]; exact h)


def an222 : Ann := (.q (.q (.n (.blk (.q (.cond (.q .z) (.q (.h))))) (.q .z))))
def g222 (x1 : Option Addr) (x2 : Option Addr) (K : KH) : H -> Prop :=
 ptrW x1 (fun b3 o4 => rdT (rdC b3 o4) kP (fun x5 => ptrW x2 (fun b6 o7 => rdT (rdC b6 o7) kI (fun (x8 : Int) => callT Tryz.prog 138 [.pointer x5, .int .i64 x8] kP (fun x9 => brW x9.isNone (K (.int .i64 5)) (ptrW x9 (fun b10 o11 => rdT (rdC b10 o11) kI (fun (x12 : Int) => brW ((x12 : Int) == 2) (K (.int .i64 7)) (ptrW x9 (fun b13 o14 => rdT (rdC b13 o14) kI (fun (x15 : Int) => callT Tryz.prog 161 [.bool ((x15 : Int) == 1), .int .i64 2] kI (fun (x16 : Int) => K (.int .i64 x16)))))))))))))
theorem e222 (x1 : Option Addr) (x2 : Option Addr) (K : KH) : bodyF Tryz.prog tau Tryz.f222 an222 [.pointer x1, .pointer x2] K = g222 x1 x2 K := by kernel_rfl
theorem c222 (x1 : Option Addr) (x2 : Option Addr) {K : KH} {σ : H} (h : g222 x1 x2 K σ) : callW Tryz.prog 222 [.pointer x1, .pointer x2] K σ := call_of_body mixed Tryz.func222 (by rw [e222]; exact h)


def an225 : Ann := (.q (.q (.q (.n (.q (.blk (.loop [(0,.s),(3,.l),(4,.i),(5,.i)] (.n (.q (.cond .z .z)) (.seq (some [(0,.s),(3,.l),(4,.i),(5,.i),(18,.w),(19,.w),(20,.w),(21,.w)]) (.blk (.n (.seq (some [(0,.s),(3,.l),(4,.i),(5,.i),(18,.w),(19,.w),(20,.w),(21,.w),(22,.b)]) .r (.cond .z .z)) (.q (.seq (some [(0,.s),(3,.l),(5,.i),(18,.w),(19,.w),(20,.w),(21,.w),(30,.w),(31,.w)]) (.seq (some [(0,.s),(3,.l),(5,.i),(6,.s),(18,.w),(19,.w),(20,.w),(21,.w),(30,.w),(31,.w),(32,.b)]) .r (.cond .r .z)) .r)))) .r))))) (.q .z)))))
def g225 (path_1 : ByteArray) (K : KH) : H -> Prop :=
 loopW [.sc .str, .sc .slc, .sc (.int .i64), .sc (.int .i64)] (fun (R2 : ByteArray -> Sl -> Int -> Int -> H -> Prop) => (fun (path_3 : ByteArray) (out_4 : Sl) (from_5 : Int) (i_6 : Int) => brW (decide ((i_6 : Int) <= ((path_3.size : Nat) : Int))) (letJ (T := ByteArray -> Sl -> Int -> Int -> Value -> Value -> Value -> Value -> H -> Prop) (fun path_8 out_9 from_10 i_11 _x12 _x13 _x14 _x15 => R2 path_8 out_9 from_10 (IntKind.i64.wrap (i_11 + 1))) (fun j7 =>
 letJ (T := ByteArray -> Sl -> Int -> Int -> Value -> Value -> Value -> Value -> Bool -> H -> Prop) (fun path_17 out_18 from_19 i_20 x21 x22 x23 x24 x25 => brW x25 (j7 path_17 out_18 from_19 i_20 x21 x22 x23 x24) (ifW (bndOk (some i_20) path_17.size /\ bndOk (some from_19) (i_20.toNat)) (letJ (T := ByteArray -> Sl -> Int -> Value -> Value -> Value -> Value -> Value -> Value -> H -> Prop) (fun path_27 out_28 i_29 x30 x31 x32 x33 _x34 _x35 =>
 j7 path_27 out_28 (IntKind.i64.wrap (i_29 + 1)) i_29 x30 x31 x32 x33) (fun j26 => letJ (T := ByteArray -> Sl -> Int -> ByteArray -> Value -> Value -> Value -> Value -> Value -> Value -> Bool -> H -> Prop) (fun path_37 out_38 i_39 s_40 x41 x42 x43 x44 x45 x46 x47 => brW x47 (alW (.cells ⟨[.string s_40]⟩ 9 (0, 0)) (fun b48 => biW Tryz.prog .append #[22, 22] 22 [false, false] [.slice out_38.base out_38.len out_38.cap, .slice (some ⟨b48, 0, none⟩) 1 1] kL (fun x49 =>
 j26 path_37 x49 i_39 x41 x42 x43 x44 x45 x46))) (j26 path_37 out_38 i_39 x41 x42 x43 x44 x45 x46)) (fun j36 => brW (!strEq (path_17.extract from_19.toNat i_20.toNat) (⟨⟨[]⟩⟩ : ByteArray)) (j36 path_17 out_18 i_20 (path_17.extract from_19.toNat i_20.toNat) x21 x22 x23 x24 (.string (path_17.extract from_19.toNat i_20.toNat)) (.bool (!strEq (path_17.extract from_19.toNat i_20.toNat) (⟨⟨[46]⟩⟩ : ByteArray))) (!strEq (path_17.extract from_19.toNat i_20.toNat) (⟨⟨[46]⟩⟩ : ByteArray)))
 (j36 path_17 out_18 i_20 (path_17.extract from_19.toNat i_20.toNat) x21 x22 x23 x24 (.tuple ⟨[]⟩) (.tuple ⟨[]⟩) false)))))) (fun j16 => brW (decide ((i_6 : Int) < ((path_3.size : Nat) : Int))) (idxW path_3 i_6 (fun c50 => j16 path_3 out_4 from_5 i_6 (.string path_3) (.int .i64 i_6) (.int .u8 (c50.toNat : Int)) (.bool (((c50.toNat : Int) : Int) != 47)) (((c50.toNat : Int) : Int) != 47))) (j16 path_3 out_4 from_5 i_6 (.tuple ⟨[]⟩) (.tuple ⟨[]⟩) (.tuple ⟨[]⟩) (.tuple ⟨[]⟩) false))))
 (K (.slice out_4.base out_4.len out_4.cap)))) (fun (R51 : ByteArray -> Sl -> Int -> Int -> H -> Prop) => R51 path_1 ⟨none, 0, 0⟩ 0 0)
theorem e225 (path_1 : ByteArray) (K : KH) : bodyF Tryz.prog tau Tryz.f225 an225 [.string path_1] K = g225 path_1 K := by kernel_rfl
theorem c225 (path_1 : ByteArray) {K : KH} {σ : H} (h : g225 path_1 K σ) : callW Tryz.prog 225 [.string path_1] K σ := call_of_body mixed Tryz.func225 (by rw [e225]; exact h)


def an226 : Ann := (.q (.n (.q (.h)) (.n (.q (.cond (.n (.reg (rn 23) [[],[0],[0,1],[0,1,2],[],(rn 5),(rn 6),(rn 7),(rn 8),(rn 9),[],[10],[10,11],[10,11,12],[],[10,11,12,13,14],[10,11,12,13,14,15],[10,11,12,13,14,15,16],[10,11,12,13,14,15,16,17],[10,11,12,13,14,15,16,17,18],(rn 20),(rn 21),(rn 22)]) .z) .z)) (.n (.q (.h)) (.q .z)))))
def g226 (f_1 : Option Addr) (at_2 : Int) (name_3 : ByteArray) (K : KH) : H -> Prop :=
 alW (.cells ⟨[.int .i64 0, .string (⟨⟨[]⟩⟩ : ByteArray), .int .i64 0]⟩ 171 (0, 0)) (fun b4 => ptrW f_1 (fun b5 o6 => rdT (rdC b5 (o6 + 2)) kL (fun x7 => ptrW x7.base (fun b8 o9 => ifW (0 <= at_2 /\ at_2 < ((x7.len : Nat) : Int)) (rdT (rdC b8 (o9 + at_2.toNat * 1)) kP (fun x10 => ptrW x10 (fun b11 o12 => rdT (rdC b11 o12) kI (fun (x13 : Int) => brW ((x13 : Int) != 2)
 (stW Tryz.prog 171 (.pointer (some ⟨b4, 0, none⟩)) (.agg ⟨[.int .i64 0, .string (⟨⟨[]⟩⟩ : ByteArray), .int .i64 0]⟩) (rdT (rdA 3 b4 0) (.one (.agg [(.int .i64), .str, (.int .i64)])) (fun (r14 : Int) (r15 : ByteArray) (r16 : Int) => K (.tuple ⟨[.agg ⟨[.int .i64 r14, .string r15, .int .i64 r16]⟩, .int .i64 8]⟩)))) (brW (strEq name_3 (⟨⟨[46, 46]⟩⟩ : ByteArray)) (ptrW f_1 (fun b17 o18 => rdT (rdC b17 (o18 + 2)) kL (fun x19 => ptrW x19.base (fun b20 o21 =>
 ifW (0 <= at_2 /\ at_2 < ((x19.len : Nat) : Int)) (rdT (rdC b20 (o21 + at_2.toNat * 1)) kP (fun x22 => ptrW x22 (fun b23 o24 => rdT (rdC b23 (o24 + 4)) kI (fun (x25 : Int) => ptrW f_1 (fun b26 o27 => rdT (rdC b26 (o27 + 2)) kL (fun x28 => ptrW x28.base (fun b29 o30 => ifW (0 <= at_2 /\ at_2 < ((x28.len : Nat) : Int)) (rdT (rdC b29 (o30 + at_2.toNat * 1)) kP (fun x31 => ptrW x31 (fun b32 o33 => rdT (rdC b32 (o33 + 4)) kI (fun (x34 : Int) =>
 stW Tryz.prog 171 (.pointer (some ⟨b4, 0, none⟩)) (.agg ⟨[.int .i64 x34, .string (⟨⟨[]⟩⟩ : ByteArray), .int .i64 x25]⟩) (rdT (rdA 3 b4 0) (.one (.agg [(.int .i64), .str, (.int .i64)])) (fun (r35 : Int) (r36 : ByteArray) (r37 : Int) => K (.tuple ⟨[.agg ⟨[.int .i64 r35, .string r36, .int .i64 r37]⟩, .int .i64 0]⟩)))))))))))))))))) (brW (decide ((((name_3.size : Nat) : Int) : Int) > 56))
 (stW Tryz.prog 171 (.pointer (some ⟨b4, 0, none⟩)) (.agg ⟨[.int .i64 0, .string (⟨⟨[]⟩⟩ : ByteArray), .int .i64 0]⟩) (rdT (rdA 3 b4 0) (.one (.agg [(.int .i64), .str, (.int .i64)])) (fun (r38 : Int) (r39 : ByteArray) (r40 : Int) => K (.tuple ⟨[.agg ⟨[.int .i64 r38, .string r39, .int .i64 r40]⟩, .int .i64 3]⟩)))) (callT Tryz.prog 250 [.pointer f_1, .int .i64 at_2, .string name_3] kI (fun (x41 : Int) =>
 stW Tryz.prog 171 (.pointer (some ⟨b4, 0, none⟩)) (.agg ⟨[.int .i64 at_2, .string name_3, .int .i64 x41]⟩) (rdT (rdA 3 b4 0) (.one (.agg [(.int .i64), .str, (.int .i64)])) (fun (r42 : Int) (r43 : ByteArray) (r44 : Int) => K (.tuple ⟨[.agg ⟨[.int .i64 r42, .string r43, .int .i64 r44]⟩, .int .i64 0]⟩)))))))))))))))
theorem e226 (f_1 : Option Addr) (at_2 : Int) (name_3 : ByteArray) (K : KH) : bodyF Tryz.prog tau Tryz.f226 an226 [.pointer f_1, .int .i64 at_2, .string name_3] K = g226 f_1 at_2 name_3 K := by kernel_rfl
theorem c226 (f_1 : Option Addr) (at_2 : Int) (name_3 : ByteArray) {K : KH} {σ : H} (h : g226 f_1 at_2 name_3 K σ) : callW Tryz.prog 226 [.pointer f_1, .int .i64 at_2, .string name_3] K σ := call_of_body mixed Tryz.func226 (by rw [e226]; exact h)


def an227 : Ann := (.q (.blk (.loop [(0,.w),(6,.l),(7,.i),(8,.i)] (.q (.n (.cond .z .z) (.n (.blk (.q (.q (.blk (.loop [(0,.w),(4,.p),(6,.l),(7,.i),(8,.i),(14,.i),(15,.i)] (.q (.n (.cond .z .z) (.n (.blk (.q (.n (.reg (rn 10) [[],[],[1],[],[1,2,3],[],[5],[1,2,3,4,5,6],(rn 8),(rn 9)]) (.cond .z .z)))) .r)))))))) .r))))))
def g227 (yield_1 : Value) (x2 : Option Addr) (K : KH) : H -> Prop :=
 ptrW x2 (fun b3 o4 => rdT (rdC b3 o4) kL (fun x5 => loopW [.sc .raw, .sc .slc, .sc (.int .i64), .sc (.int .i64)] (fun (R6 : Value -> Sl -> Int -> Int -> H -> Prop) => (fun (yield_7 : Value) (x8 : Sl) (x9 : Int) (x10 : Int) => brW (decide ((x10 : Int) < x9)) (ptrW x8.base (fun b11 o12 => ifW (0 <= x10 /\ x10 < ((x8.len : Nat) : Int)) (rdT (rdA 3 b11 (o12 + x10.toNat * 3)) (.one (.agg [.str, .bool, .bool])) (fun (x13 : ByteArray) (x14 : Bool) (x15 : Bool) =>
 alW (.cells ⟨[.string (⟨⟨[]⟩⟩ : ByteArray), .bool false, .bool false]⟩ 29 (0, 0)) (fun b16 => stW Tryz.prog 29 (.pointer (some ⟨b16, 0, none⟩)) (.agg ⟨[.string x13, .bool x14, .bool x15]⟩) (rdT (rdC b16 0) kS (fun (x17 : ByteArray) =>
 loopW [.sc .raw, .sc .ptr, .sc .slc, .sc (.int .i64), .sc (.int .i64), .sc (.int .i64), .sc (.int .i64)] (fun (R18 : Value -> Option Addr -> Sl -> Int -> Int -> Int -> Int -> H -> Prop) => (fun (yield_19 : Value) (x_20 : Option Addr) (x21 : Sl) (x22 : Int) (x23 : Int) (x24 : Int) (x25 : Int) => brW (decide ((x25 : Int) < x24)) (ptrW x_20 (fun b26 o27 => rdT (rdC b26 o27) kS (fun (x28 : ByteArray) => idxW x28 x25 (fun c29 => ptrW x_20 (fun b30 o31 => rdT (rdC b30 (o31 + 1)) kB (fun x32 =>
 cvalT Tryz.prog yield_19 [.agg ⟨[.int .u8 (c29.toNat : Int), .bool x32]⟩] kB (fun x33 => brW (!x33) (K (.tuple ⟨[]⟩)) (R18 yield_19 x_20 x21 x22 x23 x24 (IntKind.i64.wrap (x25 + 1)))))))))) (R6 yield_19 x21 x22 (IntKind.i64.wrap (x23 + 1))))) (fun (R34 : Value -> Option Addr -> Sl -> Int -> Int -> Int -> Int -> H -> Prop) => R34 yield_7 (some ⟨b16, 0, none⟩) x8 x9 x10 ((x17.size : Nat) : Int) 0))))))))
 (K (.tuple ⟨[]⟩)))) (fun (R35 : Value -> Sl -> Int -> Int -> H -> Prop) => R35 yield_1 x5 ((x5.len : Nat) : Int) 0)))
theorem e227 (yield_1 : Value) (x2 : Option Addr) (K : KH) : bodyF Tryz.prog tau Tryz.f227 an227 [yield_1, .pointer x2] K = g227 yield_1 x2 K := by kernel_rfl
theorem c227 (yield_1 : Value) (x2 : Option Addr) {K : KH} {σ : H} (h : g227 yield_1 x2 K σ) : callW Tryz.prog 227 [yield_1, .pointer x2] K σ := call_of_body mixed Tryz.func227 (by rw [e227]; exact h)


def an228 : Ann := (.q (.n (.q (.blk (.loop [(0,.l),(1,.w),(7,.i),(8,.i)] (.q (.n (.cond .z .z) (.n (.blk (.q (.q (.h)))) .r)))))) (.q .z)))
def g228 (s_1 : Sl) (f_2 : Value) (K : KH) : H -> Prop :=
 loopW [.sc .slc, .sc .raw, .sc (.int .i64), .sc (.int .i64)] (fun (R3 : Sl -> Value -> Int -> Int -> H -> Prop) => (fun (s_4 : Sl) (f_5 : Value) (x6 : Int) (x7 : Int) => brW (decide ((x7 : Int) < x6)) (ptrW s_4.base (fun b8 o9 => ifW (0 <= x7 /\ x7 < ((s_4.len : Nat) : Int)) (rdT (rdA 2 b8 (o9 + x7.toNat * 2)) (.one (.agg [(.int .u8), .bool])) (fun (x10 : Int) (x11 : Bool) => cvalT Tryz.prog f_5 [.agg ⟨[.int .u8 x10, .bool x11]⟩] kB (fun x12 => brW x12 (K (.int .i64 x7))
 (R3 s_4 f_5 x6 (IntKind.i64.wrap (x7 + 1)))))))) (K (.int .i64 (-1))))) (fun (R13 : Sl -> Value -> Int -> Int -> H -> Prop) => R13 s_1 f_2 ((s_1.len : Nat) : Int) 0)
theorem e228 (s_1 : Sl) (f_2 : Value) (K : KH) : bodyF Tryz.prog tau Tryz.f228 an228 [.slice s_1.base s_1.len s_1.cap, f_2] K = g228 s_1 f_2 K := by kernel_rfl
theorem c228 (s_1 : Sl) (f_2 : Value) {K : KH} {σ : H} (h : g228 s_1 f_2 K σ) : callW Tryz.prog 228 [.slice s_1.base s_1.len s_1.cap, f_2] K σ := call_of_body mixed Tryz.func228 (by rw [e228]; exact h)


def an229 : Ann := (.q (.q .z))
def g229 (c_1 : Int) (c_2 : Bool) (K : KH) : H -> Prop :=
 alW (.cells ⟨[.int .u8 c_1, .bool c_2]⟩ 234 (0, 0)) (fun b3 => rdT (rdA 2 b3 0) (.one (.agg [(.int .u8), .bool])) (fun (x4 : Int) (x5 : Bool) => callT Tryz.prog 189 [.agg ⟨[.int .u8 x4, .bool x5]⟩, .string (⟨⟨[93]⟩⟩ : ByteArray)] kB (fun x6 => K (.bool x6))))
theorem e229 (c_1 : Int) (c_2 : Bool) (K : KH) : bodyF Tryz.prog tau Tryz.f229 an229 [.agg ⟨[.int .u8 c_1, .bool c_2]⟩] K = g229 c_1 c_2 K := by kernel_rfl
theorem c229 (c_1 : Int) (c_2 : Bool) {K : KH} {σ : H} (h : g229 c_1 c_2 K σ) : callW Tryz.prog 229 [.agg ⟨[.int .u8 c_1, .bool c_2]⟩] K σ := call_of_body mixed Tryz.func229 (by rw [e229]; exact h)

end Go.Proofs.YtbjbeajbckcecaaGreatDoor

