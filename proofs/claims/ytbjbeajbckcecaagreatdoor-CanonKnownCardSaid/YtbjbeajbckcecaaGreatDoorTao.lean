/- A part of the proof: CanonKnown holds. -/
import Derived.Test.YtbjbeajbckcecaaGreatDoorTan
import Derived.Test.YtbjbeajbckcecaaGreatDoorProg
import Derived.KernelRfl
import Derived.Test.YtbjbeajbckcecaaGreatDoorChecked
import Derived.IntWalk
namespace Go.Wk
open Go Go.HL
structure AN where
 kind : Int
 mode : Int
 data : ByteArray
 links : Int
 up : Int
 ents : List (ByteArray × Int)
structure AT where
 qi : Int
 qb : Int
 ui : Int
 ub : Int
 last : Int
 nodes : List (Int × AN)
def AT.get (A : AT) (i : Int) : Option AN := lk i A.nodes
def AT.find (A : AT) (dir : Int) (name : ByteArray) : Option Int := (A.get dir).bind fun n => lk name n.ents
def AT.kind (A : AT) (i : Int) : Int := ((A.get i).map (·.kind)).getD 0
def AT.upOf (A : AT) (i : Int) : Int := ((A.get i).map (·.up)).getD 0
def AT.dirE (A : AT) (ino : Int) : Int := match A.get ino with
 | none => 5
 | some n => if n.kind == 2 then 0 else 8
def AT.fileE (A : AT) (ino : Int) : Int := match A.get ino with
 | none => 5
 | some n => if n.kind == 2 then 7 else if n.kind == 1 then 0 else 2
def sEq (x y : ByteArray) : Bool := x.data.toList == y.data.toList
theorem sEq_eq (x y : ByteArray) : sEq x y = strEq x y := by unfold sEq strEq; rw [ByteArray.toList_eq, ByteArray.toList_eq]
theorem sEq_iff {x y : ByteArray} : sEq x y = true ↔ x = y := by rw [sEq_eq]; exact strEq_iff
def badByte (s : ByteArray) : Bool := s.data.toList.any fun c => c == 47 || c == 0
def hasNul (s : ByteArray) : Bool := s.data.toList.any fun c => c == 0
def namedE (name : ByteArray) : Int := if name.size > 56 then 3 else if !sEq name ⟨⟨[]⟩⟩ && !sEq name ⟨⟨[46]⟩⟩ && !sEq name ⟨⟨[46, 46]⟩⟩ && !badByte name then 0 else 2
def linkOk (d : ByteArray) : Bool := !sEq d ⟨⟨[]⟩⟩ && (decide (d.size <= 255) && !hasNul d)
def kindOkE (kind : Int) (d : ByteArray) : Bool := (lk kind [((1 : Int), true), (2, sEq d ⟨⟨[]⟩⟩), (3, linkOk d)]).getD false
def likeE (kind mode : Int) (d : ByteArray) : Int := if kindOkE kind d && (decide (0 <= mode) && decide (mode <= 511)) then 0 else 2
def wr (x : Int) : Int := IntKind.i64.wrap x
def AT.roomE (A : AT) (i n : Int) : Int := if wr (A.ui + i) <= A.qi /\ wr (A.ub + n) <= A.qb then 0 else 10
def firstE : List Int -> Int
 | [] => 0
 | e :: es => if e = 0 then firstE es else e
def AT.set (A : AT) (i : Int) (n : AN) : AT := { A with nodes := up i n A.nodes }
def AT.ent (A : AT) (dir : Int) (f : List (ByteArray × Int) -> List (ByteArray × Int)) : AT := match A.get dir with
 | none => A
 | some n => A.set dir { n with ents := f n.ents }
def AT.makeE (A : AT) (dir : Int) (name : ByteArray) (kind mode : Int) (data : ByteArray) : Int :=
 firstE [0, A.dirE dir, namedE name, likeE kind mode data, if (A.find dir name).isSome then 6 else 0, A.roomE 1 (data.size : Int)]
def AT.made (A : AT) (dir : Int) (name : ByteArray) (kind mode : Int) (data : ByteArray) : AT :=
 let i := wr (A.last + 1)
 let A1 := { A with last := i, nodes := up i ⟨kind, mode, data, 1, if kind == 2 then dir else 0, []⟩ A.nodes }
 let A2 := A1.ent dir (up name i)
 { A2 with ui := wr (A.ui + 1), ub := wr (A.ub + data.size) }
def AT.linkE (A : AT) (dir : Int) (name : ByteArray) (ino : Int) : Int :=
 firstE [0, A.dirE dir, namedE name, A.fileE ino, if (A.find dir name).isSome then 6 else 0]
def AT.mod (A : AT) (i : Int) (f : AN -> AN) : AT := match A.get i with
 | none => A
 | some n => A.set i (f n)
def AT.linked (A : AT) (dir : Int) (name : ByteArray) (ino : Int) : AT := (A.ent dir (up name ino)).mod ino fun n => { n with links := wr (n.links + 1) }
def AT.writeE (A : AT) (ino : Int) (data : ByteArray) : Int :=
 firstE [0, A.fileE ino, A.roomE 0 (wr ((data.size : Int) - ((A.get ino).map (·.data.size)).getD 0))]
def AT.written (A : AT) (ino : Int) (data : ByteArray) : AT := match A.get ino with
 | none => A
 | some n => { A.set ino { n with data := data } with ub := wr (A.ub + wr ((data.size : Int) - n.data.size)) }
def AT.chmodE (A : AT) (ino mode : Int) : Int := firstE [0, if 0 <= mode /\ mode <= 511 then 0 else 2, if (A.get ino).isSome then 0 else 5]
def AT.chmoded (A : AT) (ino mode : Int) : AT := A.mod ino fun n => { n with mode := mode }
def newOk (qi qb : Int) : Bool := !(decide (qi < 1) || (decide (qi > 1048576) || (decide (qb < 0) || decide (qb > 1073741824))))
def newT (qi qb : Int) : AT := ⟨qi, qb, 1, 0, 1, [(1, ⟨2, 493, ⟨⟨[]⟩⟩, 1, 1, []⟩)]⟩
def AT.makeR (A : AT) (dir : Int) (name : ByteArray) (kind mode : Int) (data : ByteArray) : Int × Int × AT :=
 if A.makeE dir name kind mode data = 0 then (wr (A.last + 1), 0, A.made dir name kind mode data) else (0, A.makeE dir name kind mode data, A)
def AT.linkR (A : AT) (dir : Int) (name : ByteArray) (ino : Int) : Int × AT :=
 if A.linkE dir name ino = 0 then (0, A.linked dir name ino) else (A.linkE dir name ino, A)
def AT.writeR (A : AT) (ino : Int) (data : ByteArray) : Int × AT := if A.writeE ino data = 0 then (0, A.written ino data) else (A.writeE ino data, A)
def AT.chmodR (A : AT) (ino mode : Int) : Int × AT := if A.chmodE ino mode = 0 then (0, A.chmoded ino mode) else (A.chmodE ino mode, A)
end Go.Wk

namespace Go.Proofs.YtbjbeajbckcecaaGreatDoor
open Go Go.HL
@[reducible] def kI : TK := .one (.sc (.int .i64))
@[reducible] def kC : TK := .one (.sc (.int .u8))
@[reducible] def kB : TK := .one (.sc .bool)
@[reducible] def kS : TK := .one (.sc .str)
@[reducible] def kP : TK := .one (.sc .ptr)
@[reducible] def kL : TK := .one (.sc .slc)
@[reducible] def kM : TK := .one (.sc .map)
@[reducible] def kR : TK := .one (.sc .raw)
@[reducible] def kU : TK := .tup []
def tau : Nat -> TK
 | 0 => kU
 | 2 => kI
 | 3 => kI
 | 4 => kB
 | 5 => kC
 | 6 => kC
 | 7 => (.one (.agg [(.int .i64), (.int .i64), .bool, (.int .u8)]))
 | 8 => (.one (.agg [(.int .i64), (.int .i64), .bool, (.int .u8)]))
 | 9 => kS
 | 10 => kS
 | 11 => kS
 | 12 => (.one (.sc (.int .u64)))
 | 13 => (.one (.agg [.str, (.int .u64)]))
 | 14 => (.one (.agg [.str, (.int .u64)]))
 | 15 => kP
 | 16 => kP
 | 17 => kP
 | 18 => (.one (.agg [.ptr]))
 | 19 => (.one (.agg [.ptr]))
 | 21 => (.one (.sc (.int .i32)))
 | 22 => kL
 | 24 => kP
 | 25 => kP
 | 26 => (.tup [.sc .ptr, .sc .ptr])
 | 28 => (.one (.agg [.str, .bool, .bool]))
 | 29 => (.one (.agg [.str, .bool, .bool]))
 | 31 => kL
 | 32 => (.tup [.sc .slc, .sc (.int .i64)])
 | 34 => (.one (.agg [(.int .i64), (.int .i64), .str, (.int .i64)]))
 | 35 => (.one (.agg [(.int .i64), (.int .i64), .str, (.int .i64)]))
 | 36 => kI
 | 37 => (.tup [.agg [(.int .i64), (.int .i64), .str, (.int .i64)], .sc (.int .i64)])
 | 40 => (.tup [.sc .slc, .sc (.int .i64)])
 | 44 => kL
 | 47 => kL
 | 51 => kL
 | 52 => (.one (.agg [.slc]))
 | 53 => (.one (.agg [.slc]))
 | 56 => kL
 | 62 => kL
 | 63 => (.one (.agg [(.int .i64), (.int .i64)]))
 | 64 => (.one (.agg [(.int .i64), (.int .i64)]))
 | 68 => (.one (.agg [(.int .u8), .str, .str, (.int .i64)]))
 | 69 => (.one (.agg [(.int .u8), .str, .str, (.int .i64)]))
 | 71 => kL
 | 72 => (.one (.agg [.str, (.int .i64), .bool, .str, .slc]))
 | 73 => (.one (.agg [.str, (.int .i64), .bool, .str, .slc]))
 | 74 => (.tup [.agg [.str, (.int .i64), .bool, .str, .slc], .sc (.int .i64)])
 | 92 => (.tup [.sc .str, .sc (.int .i64)])
 | 95 => kP
 | 96 => (.one (.agg [.ptr, .str, (.int .i64)]))
 | 97 => (.one (.agg [.ptr, .str, (.int .i64)]))
 | 102 => kL
 | 108 => kP
 | 109 => (.one (.agg [.ptr]))
 | 110 => (.one (.agg [.ptr]))
 | 114 => kP
 | 116 => (.one (.agg [(.int .u8), .bool]))
 | 117 => (.one (.agg [(.int .u8), .bool]))
 | 119 => kP
 | 120 => (.one (.agg [.ptr, .slc]))
 | 121 => (.one (.agg [.ptr, .slc]))
 | 124 => (.tup [.sc (.int .i64), .sc .raw])
 | 128 => kP
 | 129 => kL
 | 130 => (.one (.agg [(.int .i64), (.int .i64), .str, .slc, (.int .i64)]))
 | 131 => (.one (.agg [(.int .i64), (.int .i64), .str, .slc, (.int .i64)]))
 | 132 => kL
 | 133 => (.one (.agg [(.int .i64), (.int .i64), .slc]))
 | 134 => (.one (.agg [(.int .i64), (.int .i64), .slc]))
 | 135 => (.one (.agg [.ptr]))
 | 136 => (.one (.agg [.ptr]))
 | 141 => (.one (.agg [(.int .i64), .str, (.int .i64), .bool]))
 | 142 => (.one (.agg [(.int .i64), .str, (.int .i64), .bool]))
 | 143 => (.tup [.sc (.int .i64), .sc (.int .i64)])
 | 147 => (.tup [.agg [(.int .i64), .str, (.int .i64), .bool], .sc (.int .i64)])
 | 149 => (.tup [.agg [(.int .i64), (.int .i64), .str, (.int .i64)], .sc .bool])
 | 155 => (.one (.sc (.int .u64)))
 | 156 => (.tup [.sc (.int .u64), .sc (.int .u64)])
 | 159 => (.tup [.agg [(.int .i64), .str, (.int .i64), .bool], .agg [(.int .i64), .str, (.int .i64), .bool], .sc (.int .i64)])
 | 165 => (.tup [.sc (.int .i64), .sc (.int .i64)])
 | 168 => (.tup [.sc (.int .i64), .sc .bool])
 | 170 => (.one (.agg [(.int .i64), .str, (.int .i64)]))
 | 171 => (.one (.agg [(.int .i64), .str, (.int .i64)]))
 | 172 => (.tup [.agg [(.int .i64), .str, (.int .i64)], .sc (.int .i64)])
 | 177 => kL
 | 179 => (.one (.agg [.bool, .raw, .bool]))
 | 180 => (.one (.agg [.bool, .raw, .bool]))
 | 185 => (.one (.agg [.slc, .bool]))
 | 186 => (.one (.agg [.slc, .bool]))
 | 188 => kP
 | 189 => kP
 | 192 => kM
 | 193 => (.one (.agg [(.int .i64), (.int .i64), .str, (.int .i64), (.int .i64), .map]))
 | 194 => (.one (.agg [(.int .i64), (.int .i64), .str, (.int .i64), (.int .i64), .map]))
 | 197 => kP
 | 198 => kM
 | 199 => (.one (.agg [(.int .i64), (.int .i64), (.int .i64), (.int .i64), .map, (.int .i64)]))
 | 200 => (.one (.agg [(.int .i64), (.int .i64), (.int .i64), (.int .i64), .map, (.int .i64)]))
 | 205 => (.tup [.sc .raw, .sc .bool])
 | 209 => kM
 | 211 => kM
 | 219 => kP
 | 220 => (.one (.sc (.int .u32)))
 | 221 => (.tup [.sc (.int .u32), .sc (.int .u32)])
 | 223 => (.one (.sc (.int .u64)))
 | 224 => (.tup [.sc (.int .u64), .sc (.int .u64)])
 | 226 => kM
 | 229 => kL
 | 233 => (.one (.agg [(.int .u8), .bool]))
 | 234 => (.one (.agg [(.int .u8), .bool]))
 | 235 => (.tup [.sc .raw, .sc (.int .i64)])
 | 244 => (.one (.agg [.str, (.int .i64)]))
 | 245 => (.one (.agg [.str, (.int .i64)]))
 | 249 => kL
 | 260 => kI
 | 261 => (.tup [.sc (.int .i64), .sc (.int .i64)])
 | 270 => kL
 | 276 => (.one (.sc (.int .u64)))
 | 286 => (.tup [.sc .raw, .sc .bool])
 | 289 => kP
 | 292 => kP
 | 293 => (.tup [.sc (.int .i32), .sc (.int .i64)])
 | 296 => (.one (.agg [(.int .u8), (.int .u8)]))
 | 297 => (.one (.agg [(.int .u8), (.int .u8)]))
 | 299 => (.one (.agg [.ptr, .ptr, .ptr, .str]))
 | 300 => (.one (.agg [.ptr, .ptr, .ptr, .str]))
 | 301 => (.one (.agg []))
 | 302 => (.one (.agg []))
 | 303 => (.one (.agg []))
 | 304 => kC
 | 305 => kC
 | 307 => (.one (.sc (.int .i32)))
 | 308 => (.one (.sc (.int .i32)))
 | 309 => (.one (.agg [(.int .u64), (.int .u64), (.int .u32), (.int .u8), (.int .u8), (.int .u8), (.int .u8), .raw, .ptr, (.int .i32), (.int .i32)]))
 | 310 => (.one (.agg [(.int .u64), (.int .u64), (.int .u32), (.int .u8), (.int .u8), (.int .u8), (.int .u8), .raw, .ptr, (.int .i32), (.int .i32)]))
 | _ => kR
theorem mixed : Tryz.prog.follows .mixedOrders = true := by kernel_rfl
end Go.Proofs.YtbjbeajbckcecaaGreatDoor

set_option maxRecDepth 100000
namespace Go.Proofs.YtbjbeajbckcecaaGreatDoor
open Go Go.HL
def an9 : Ann := (.q (.q (.n (.seq (some [(1,.p),(46,.b)]) .r (.h)) (.q (.q (.q (.q (.seq (some [(1,.p),(10,.b)]) (.reg (rn 44) [[],[0],[0,1],[0,1,2],[0,1,2],(rn 5),(rn 6),(rn 7),(rn 8),(rn 9),(rn 10),(rn 11),(rn 12),(rn 12),(rn 14),(rn 15),(rn 16),(rn 17),(rn 18),(rn 19),(rn 20),(rn 21),(rn 21),(rn 23),(rn 24),(rn 25),(rn 26),(rn 27),(rn 28),(rn 29),(rn 30),(rn 31),(rn 32),(rn 33),(rn 34),(rn 35),(rn 36),(rn 37),(rn 38),(rn 39),(rn 40),(rn 41),(rn 42),(rn 43)]) (.q (.n (.q (.blk (.loop [(1,.p),(10,.b),(11,.s),(12,.i)] (.n (.q (.cond .z .z)) (.seq (some [(1,.p),(10,.b),(11,.s),(12,.i),(118,.w),(119,.w),(120,.w),(121,.w)]) (.blk (.q .r)) .r))))) (.q (.seq (some [(1,.p),(10,.b)]) .r (.q (.q (.q (.q (.n (.q (.blk (.loop [(1,.p),(10,.b),(16,.i),(18,.i),(19,.s),(20,.s),(21,.i)] (.n (.q (.cond .z .z)) (.seq (some [(1,.p),(10,.b),(16,.i),(18,.i),(19,.s),(20,.s),(21,.i),(161,.w),(162,.w),(163,.w),(164,.w)]) (.blk (.q .r)) .r))))) (.seq (some [(1,.p),(10,.b),(16,.i),(18,.i),(19,.s)]) .r (.q (.q (.q (.q .z))))))))))))))))))))))
def g9  (K : KH) : H -> Prop :=
 callT Tryz.prog 31 [.agg ⟨[.int .i64 60, .int .i64 2000]⟩] kP (fun x1 => letJ (T := Option Addr -> Bool -> H -> Prop) (fun f_3 x4 => brW x4 (K (.bool false)) (callT Tryz.prog 35 [.pointer f_3, .string (⟨⟨[47, 102]⟩⟩ : ByteArray)] (.tup [.agg [.str, (.int .i64), .bool, .str, .slc], .sc (.int .i64)]) (fun (x5 : ByteArray) (x6 : Int) (x7 : Bool) (x8 : ByteArray) (x9 : Sl) (x10 : Int) =>
 alW (.cells ⟨[.string (⟨⟨[]⟩⟩ : ByteArray), .int .i64 0, .bool false, .string (⟨⟨[]⟩⟩ : ByteArray), .slice none 0 0]⟩ 73 (0, 0)) (fun b11 =>
 stW Tryz.prog 73 (.pointer (some ⟨b11, 0, none⟩)) (.agg ⟨[.string x5, .int .i64 x6, .bool x7, .string x8, .slice x9.base x9.len x9.cap]⟩) (callT Tryz.prog 35 [.pointer f_3, .string (⟨⟨[47, 108]⟩⟩ : ByteArray)] (.tup [.agg [.str, (.int .i64), .bool, .str, .slc], .sc (.int .i64)]) (fun (x12 : ByteArray) (x13 : Int) (x14 : Bool) (x15 : ByteArray) (x16 : Sl) (x17 : Int) =>
 alW (.cells ⟨[.string (⟨⟨[]⟩⟩ : ByteArray), .int .i64 0, .bool false, .string (⟨⟨[]⟩⟩ : ByteArray), .slice none 0 0]⟩ 73 (0, 0)) (fun b18 =>
 stW Tryz.prog 73 (.pointer (some ⟨b18, 0, none⟩)) (.agg ⟨[.string x12, .int .i64 x13, .bool x14, .string x15, .slice x16.base x16.len x16.cap]⟩) (callT Tryz.prog 35 [.pointer f_3, .string (⟨⟨[47, 101]⟩⟩ : ByteArray)] (.tup [.agg [.str, (.int .i64), .bool, .str, .slc], .sc (.int .i64)]) (fun (x19 : ByteArray) (x20 : Int) (x21 : Bool) (x22 : ByteArray) (x23 : Sl) (x24 : Int) =>
 alW (.cells ⟨[.string (⟨⟨[]⟩⟩ : ByteArray), .int .i64 0, .bool false, .string (⟨⟨[]⟩⟩ : ByteArray), .slice none 0 0]⟩ 73 (0, 0)) (fun b25 =>
 stW Tryz.prog 73 (.pointer (some ⟨b25, 0, none⟩)) (.agg ⟨[.string x19, .int .i64 x20, .bool x21, .string x22, .slice x23.base x23.len x23.cap]⟩) (callT Tryz.prog 35 [.pointer f_3, .string (⟨⟨[47]⟩⟩ : ByteArray)] (.tup [.agg [.str, (.int .i64), .bool, .str, .slc], .sc (.int .i64)]) (fun (x26 : ByteArray) (x27 : Int) (x28 : Bool) (x29 : ByteArray) (x30 : Sl) (x31 : Int) =>
 alW (.cells ⟨[.string (⟨⟨[]⟩⟩ : ByteArray), .int .i64 0, .bool false, .string (⟨⟨[]⟩⟩ : ByteArray), .slice none 0 0]⟩ 73 (0, 0)) (fun b32 => stW Tryz.prog 73 (.pointer (some ⟨b32, 0, none⟩)) (.agg ⟨[.string x26, .int .i64 x27, .bool x28, .string x29, .slice x30.base x30.len x30.cap]⟩) (letJ (T := Option Addr -> Bool -> H -> Prop) (fun f_34 ok_35 =>
 loopW [.sc .ptr, .sc .bool, .sc .str, .sc (.int .i64)] (fun (R36 : Option Addr -> Bool -> ByteArray -> Int -> H -> Prop) => (fun (f_37 : Option Addr) (ok_38 : Bool) (path_39 : ByteArray) (i_40 : Int) => brW (decide ((i_40 : Int) < 11)) (letJ (T := Option Addr -> Bool -> ByteArray -> Int -> Value -> Value -> Value -> Value -> H -> Prop) (fun f_42 ok_43 path_44 i_45 _x46 _x47 _x48 _x49 => R36 f_42 ok_43 path_44 (IntKind.i64.wrap (i_45 + 1))) (fun j41 =>
 ifW (path_39.size + (⟨⟨[47, 100]⟩⟩ : ByteArray).size <= 9223372036854775807) (brW ok_38 (callT Tryz.prog 48 [.pointer f_37, .string (⟨⟨[47]⟩⟩ : ByteArray), .string (path_39 ++ (⟨⟨[47, 100]⟩⟩ : ByteArray))] kI (fun (x50 : Int) => j41 f_37 ((x50 : Int) == 0) (path_39 ++ (⟨⟨[47, 100]⟩⟩ : ByteArray)) i_40 (.pointer f_37) (.string (path_39 ++ (⟨⟨[47, 100]⟩⟩ : ByteArray))) (.int .i64 x50) (.bool ((x50 : Int) == 0))))
 (j41 f_37 false (path_39 ++ (⟨⟨[47, 100]⟩⟩ : ByteArray)) i_40 (.tuple ⟨[]⟩) (.tuple ⟨[]⟩) (.tuple ⟨[]⟩) (.tuple ⟨[]⟩))))) (callT Tryz.prog 35 [.pointer f_37, .string (⟨⟨[47]⟩⟩ : ByteArray)] (.tup [.agg [.str, (.int .i64), .bool, .str, .slc], .sc (.int .i64)]) (fun (x51 : ByteArray) (x52 : Int) (x53 : Bool) (x54 : ByteArray) (x55 : Sl) (x56 : Int) => alW (.cells ⟨[.string (⟨⟨[]⟩⟩ : ByteArray), .int .i64 0, .bool false, .string (⟨⟨[]⟩⟩ : ByteArray), .slice none 0 0]⟩ 73 (0, 0)) (fun b57 =>
 stW Tryz.prog 73 (.pointer (some ⟨b57, 0, none⟩)) (.agg ⟨[.string x51, .int .i64 x52, .bool x53, .string x54, .slice x55.base x55.len x55.cap]⟩) (letJ (T := Option Addr -> Bool -> H -> Prop) (fun f_59 ok_60 => callT Tryz.prog 35 [.pointer f_59, .string (⟨⟨[47]⟩⟩ : ByteArray)] (.tup [.agg [.str, (.int .i64), .bool, .str, .slc], .sc (.int .i64)]) (fun (x61 : ByteArray) (x62 : Int) (x63 : Bool) (x64 : ByteArray) (x65 : Sl) (x66 : Int) =>
 alW (.cells ⟨[.string (⟨⟨[]⟩⟩ : ByteArray), .int .i64 0, .bool false, .string (⟨⟨[]⟩⟩ : ByteArray), .slice none 0 0]⟩ 73 (0, 0)) (fun b67 =>
 stW Tryz.prog 73 (.pointer (some ⟨b67, 0, none⟩)) (.agg ⟨[.string x61, .int .i64 x62, .bool x63, .string x64, .slice x65.base x65.len x65.cap]⟩) (callT Tryz.prog 35 [.pointer f_59, .string (⟨⟨[47, 100]⟩⟩ : ByteArray)] (.tup [.agg [.str, (.int .i64), .bool, .str, .slc], .sc (.int .i64)]) (fun (x68 : ByteArray) (x69 : Int) (x70 : Bool) (x71 : ByteArray) (x72 : Sl) (x73 : Int) =>
 alW (.cells ⟨[.string (⟨⟨[]⟩⟩ : ByteArray), .int .i64 0, .bool false, .string (⟨⟨[]⟩⟩ : ByteArray), .slice none 0 0]⟩ 73 (0, 0)) (fun b74 => stW Tryz.prog 73 (.pointer (some ⟨b74, 0, none⟩)) (.agg ⟨[.string x68, .int .i64 x69, .bool x70, .string x71, .slice x72.base x72.len x72.cap]⟩) (callT Tryz.prog 52 [.string (⟨⟨[110]⟩⟩ : ByteArray), .int .i64 24] kS (fun (x75 : ByteArray) => ifW ((⟨⟨[47]⟩⟩ : ByteArray).size + x75.size <= 9223372036854775807)
 (loopW [.sc .ptr, .sc .bool, .sc (.int .i64), .sc (.int .i64), .sc .str, .sc .str, .sc (.int .i64)] (fun (R76 : Option Addr -> Bool -> Int -> Int -> ByteArray -> ByteArray -> Int -> H -> Prop) => (fun (f_77 : Option Addr) (ok_78 : Bool) (j_79 : Int) (k_80 : Int) (long_81 : ByteArray) (at_82 : ByteArray) (x_83 : Int) => brW (decide ((x_83 : Int) < 9))
 (letJ (T := Option Addr -> Bool -> Int -> Int -> ByteArray -> ByteArray -> Int -> Value -> Value -> Value -> Value -> H -> Prop) (fun f_85 ok_86 j_87 k_88 long_89 at_90 x_91 _x92 _x93 _x94 _x95 => R76 f_85 ok_86 j_87 k_88 long_89 at_90 (IntKind.i64.wrap (x_91 + 1))) (fun j84 => ifW (at_82.size + long_81.size <= 9223372036854775807) (brW ok_78 (callT Tryz.prog 48 [.pointer f_77, .string (⟨⟨[47]⟩⟩ : ByteArray), .string (at_82 ++ long_81)] kI (fun (x96 : Int) =>
 j84 f_77 ((x96 : Int) == 0) j_79 k_80 long_81 (at_82 ++ long_81) x_83 (.pointer f_77) (.string (at_82 ++ long_81)) (.int .i64 x96) (.bool ((x96 : Int) == 0)))) (j84 f_77 false j_79 k_80 long_81 (at_82 ++ long_81) x_83 (.tuple ⟨[]⟩) (.tuple ⟨[]⟩) (.tuple ⟨[]⟩) (.tuple ⟨[]⟩))))) (letJ (T := Option Addr -> Bool -> Int -> Int -> ByteArray -> H -> Prop) (fun f_98 ok_99 j_100 k_101 long_102 =>
 callT Tryz.prog 35 [.pointer f_98, .string long_102] (.tup [.agg [.str, (.int .i64), .bool, .str, .slc], .sc (.int .i64)]) (fun (x103 : ByteArray) (x104 : Int) (x105 : Bool) (x106 : ByteArray) (x107 : Sl) (x108 : Int) => alW (.cells ⟨[.string (⟨⟨[]⟩⟩ : ByteArray), .int .i64 0, .bool false, .string (⟨⟨[]⟩⟩ : ByteArray), .slice none 0 0]⟩ 73 (0, 0)) (fun b109 =>
 stW Tryz.prog 73 (.pointer (some ⟨b109, 0, none⟩)) (.agg ⟨[.string x103, .int .i64 x104, .bool x105, .string x106, .slice x107.base x107.len x107.cap]⟩) (callT Tryz.prog 35 [.pointer none, .string (⟨⟨[47]⟩⟩ : ByteArray)] (.tup [.agg [.str, (.int .i64), .bool, .str, .slc], .sc (.int .i64)]) (fun (x110 : ByteArray) (x111 : Int) (x112 : Bool) (x113 : ByteArray) (x114 : Sl) (x115 : Int) =>
 alW (.cells ⟨[.string (⟨⟨[]⟩⟩ : ByteArray), .int .i64 0, .bool false, .string (⟨⟨[]⟩⟩ : ByteArray), .slice none 0 0]⟩ 73 (0, 0)) (fun b116 =>
 stW Tryz.prog 73 (.pointer (some ⟨b116, 0, none⟩)) (.agg ⟨[.string x110, .int .i64 x111, .bool x112, .string x113, .slice x114.base x114.len x114.cap]⟩) (callT Tryz.prog 35 [.pointer f_98, .string (⟨⟨[]⟩⟩ : ByteArray)] (.tup [.agg [.str, (.int .i64), .bool, .str, .slc], .sc (.int .i64)]) (fun (x117 : ByteArray) (x118 : Int) (x119 : Bool) (x120 : ByteArray) (x121 : Sl) (x122 : Int) =>
 alW (.cells ⟨[.string (⟨⟨[]⟩⟩ : ByteArray), .int .i64 0, .bool false, .string (⟨⟨[]⟩⟩ : ByteArray), .slice none 0 0]⟩ 73 (0, 0)) (fun b123 => stW Tryz.prog 73 (.pointer (some ⟨b123, 0, none⟩)) (.agg ⟨[.string x117, .int .i64 x118, .bool x119, .string x120, .slice x121.base x121.len x121.cap]⟩) (callT Tryz.prog 36 [] kB (fun x124 => brW x124 (brW ok_99 (brW ((j_100 : Int) == 3) (brW ((k_101 : Int) == 0) (brW ((x108 : Int) == 0) (brW ((x115 : Int) == 1) (K (.bool ((x122 : Int) == 5)))
 (K (.bool false))) (K (.bool false))) (K (.bool false))) (K (.bool false))) (K (.bool false))) (K (.bool false))))))))))))) (fun j97 => brW ok_78 (callT Tryz.prog 52 [.string (⟨⟨[109]⟩⟩ : ByteArray), .int .i64 24] kS (fun (x125 : ByteArray) => callT Tryz.prog 48 [.pointer f_77, .string at_82, .string x125] kI (fun (x126 : Int) => brW ((x126 : Int) == 0) (ifW (at_82.size + (⟨⟨[47]⟩⟩ : ByteArray).size <= 9223372036854775807)
 (callT Tryz.prog 52 [.string (⟨⟨[109]⟩⟩ : ByteArray), .int .i64 24] kS (fun (x127 : ByteArray) => ifW ((at_82 ++ (⟨⟨[47]⟩⟩ : ByteArray)).size + x127.size <= 9223372036854775807) (callT Tryz.prog 48 [.pointer f_77, .string ((at_82 ++ (⟨⟨[47]⟩⟩ : ByteArray)) ++ x127), .string (⟨⟨[122]⟩⟩ : ByteArray)] kI (fun (x128 : Int) => j97 f_77 ((x128 : Int) == 0) j_79 k_80 long_81))))) (j97 f_77 false j_79 k_80 long_81))))
 (j97 f_77 false j_79 k_80 long_81))))) (fun (R129 : Option Addr -> Bool -> Int -> Int -> ByteArray -> ByteArray -> Int -> H -> Prop) => R129 f_59 ok_60 x66 x73 ((⟨⟨[47]⟩⟩ : ByteArray) ++ x75) (⟨⟨[]⟩⟩ : ByteArray) 0)))))))))) (fun j58 => brW ok_38 (brW ((x56 : Int) == 0) (ifW (path_39.size + (⟨⟨[47, 102]⟩⟩ : ByteArray).size <= 9223372036854775807)
 (callT Tryz.prog 47 [.pointer f_37, .string (⟨⟨[47]⟩⟩ : ByteArray), .string (path_39 ++ (⟨⟨[47, 102]⟩⟩ : ByteArray)), .string (⟨⟨[120]⟩⟩ : ByteArray), .bool false] kI (fun (x130 : Int) => j58 f_37 ((x130 : Int) == 0)))) (j58 f_37 false)) (j58 f_37 false)))))))) (fun (R131 : Option Addr -> Bool -> ByteArray -> Int -> H -> Prop) => R131 f_34 ok_35 (⟨⟨[]⟩⟩ : ByteArray) 0)) (fun j33 => brW ((x10 : Int) == 0)
 (rdT (rdA 5 b11 0) (.one (.agg [.str, (.int .i64), .bool, .str, .slc])) (fun (x132 : ByteArray) (x133 : Int) (x134 : Bool) (x135 : ByteArray) (x136 : Sl) => callT Tryz.prog 50 [.string (⟨⟨[]⟩⟩ : ByteArray), .string (⟨⟨[100, 97, 116, 97]⟩⟩ : ByteArray), .bool false] (.one (.agg [.str, (.int .i64), .bool, .str, .slc])) (fun (x137 : ByteArray) (x138 : Int) (x139 : Bool) (x140 : ByteArray) (x141 : Sl) =>
 andW (fun σ => (rdA 5 b11 0) σ = some (.agg ⟨[.string x132, .int .i64 x133, .bool x134, .string x135, .slice x136.base x136.len x136.cap]⟩)) (callT Tryz.prog 49 [.agg ⟨[.string x132, .int .i64 x133, .bool x134, .string x135, .slice x136.base x136.len x136.cap]⟩, .agg ⟨[.string x137, .int .i64 x138, .bool x139, .string x140, .slice x141.base x141.len x141.cap]⟩] kB (fun x142 => brW x142 (brW ((x17 : Int) == 0)
 (rdT (rdA 5 b18 0) (.one (.agg [.str, (.int .i64), .bool, .str, .slc])) (fun (x143 : ByteArray) (x144 : Int) (x145 : Bool) (x146 : ByteArray) (x147 : Sl) => callT Tryz.prog 51 [.string (⟨⟨[]⟩⟩ : ByteArray), .string (⟨⟨[102]⟩⟩ : ByteArray)] (.one (.agg [.str, (.int .i64), .bool, .str, .slc])) (fun (x148 : ByteArray) (x149 : Int) (x150 : Bool) (x151 : ByteArray) (x152 : Sl) =>
 andW (fun σ => (rdA 5 b18 0) σ = some (.agg ⟨[.string x143, .int .i64 x144, .bool x145, .string x146, .slice x147.base x147.len x147.cap]⟩)) (callT Tryz.prog 49 [.agg ⟨[.string x143, .int .i64 x144, .bool x145, .string x146, .slice x147.base x147.len x147.cap]⟩, .agg ⟨[.string x148, .int .i64 x149, .bool x150, .string x151, .slice x152.base x152.len x152.cap]⟩] kB (fun x153 => brW x153 (brW ((x24 : Int) == 0)
 (rdT (rdA 5 b25 0) (.one (.agg [.str, (.int .i64), .bool, .str, .slc])) (fun (x154 : ByteArray) (x155 : Int) (x156 : Bool) (x157 : ByteArray) (x158 : Sl) => callT Tryz.prog 49 [.agg ⟨[.string x154, .int .i64 x155, .bool x156, .string x157, .slice x158.base x158.len x158.cap]⟩, .agg ⟨[.string (⟨⟨[]⟩⟩ : ByteArray), .int .i64 2, .bool false, .string (⟨⟨[]⟩⟩ : ByteArray), .slice none 0 0]⟩] kB (fun x159 => brW x159 (brW ((x31 : Int) == 0) (rdT (rdC b32 4) kL (fun x160 =>
 brW ((((x160.len : Nat) : Int) : Int) == 3) (rdT (rdC b32 4) kL (fun x161 => ptrW x161.base (fun b162 o163 => ifW (0 <= (0 : Int) /\ (0 : Int) < ((x161.len : Nat) : Int)) (rdT (rdC b162 (o163 + (0 : Int).toNat * 5)) kS (fun (x164 : ByteArray) => j33 f_3 (strEq x164 (⟨⟨[101]⟩⟩ : ByteArray))))))) (j33 f_3 false))) (j33 f_3 false)) (j33 f_3 false)))) (j33 f_3 false)) (j33 f_3 false)))))) (j33 f_3 false)) (j33 f_3 false)))))) (j33 f_3 false)))))))))))))))) (fun j2 => brW x1.isNone (j2 x1 true)
 (callT Tryz.prog 47 [.pointer x1, .string (⟨⟨[47]⟩⟩ : ByteArray), .string (⟨⟨[102]⟩⟩ : ByteArray), .string (⟨⟨[100, 97, 116, 97]⟩⟩ : ByteArray), .bool false] kI (fun (x165 : Int) => brW ((x165 : Int) != 0) (j2 x1 true) (callT Tryz.prog 41 [.pointer x1, .string (⟨⟨[47]⟩⟩ : ByteArray), .string (⟨⟨[102]⟩⟩ : ByteArray), .string (⟨⟨[108]⟩⟩ : ByteArray)] kI (fun (x166 : Int) => brW ((x166 : Int) != 0) (j2 x1 true)
 (callT Tryz.prog 48 [.pointer x1, .string (⟨⟨[47]⟩⟩ : ByteArray), .string (⟨⟨[101]⟩⟩ : ByteArray)] kI (fun (x167 : Int) => j2 x1 ((x167 : Int) != 0)))))))))
theorem e9  (K : KH) : bodyF Tryz.prog tau Tryz.f9 an9 [] K = g9  K := by kernel_rfl
theorem c9  {K : KH} {σ : H} (h : g9  K σ) : callW Tryz.prog 9 [] K σ := call_of_body mixed Tryz.func9 (by rw [e9]; exact h)


def an15 : Ann := (.q (.q (.q .z)))
def g15 (f_1 : Option Addr) (cwd_2 : ByteArray) (path_3 : ByteArray) (follow_4 : Bool) (K : KH) : H -> Prop :=
 alW (.cells ⟨[.int .i64 0, .int .i64 0, .string (⟨⟨[]⟩⟩ : ByteArray), .int .i64 0]⟩ 35 (0, 0)) (fun b5 => callT Tryz.prog 69 [.pointer f_1, .string cwd_2, .string path_3, .bool follow_4, .func (.func 70) ⟨[]⟩ ⟨[.pointer (some ⟨b5, 0, none⟩)]⟩] kI (fun (x6 : Int) => rdT (rdA 4 b5 0) (.one (.agg [(.int .i64), (.int .i64), .str, (.int .i64)])) (fun (x7 : Int) (x8 : Int) (x9 : ByteArray) (x10 : Int) =>
 stW Tryz.prog 35 (.pointer (some ⟨b5, 0, none⟩)) (.agg ⟨[.int .i64 x7, .int .i64 x8, .string x9, .int .i64 x10]⟩) (rdT (rdA 4 b5 0) (.one (.agg [(.int .i64), (.int .i64), .str, (.int .i64)])) (fun (r11 : Int) (r12 : Int) (r13 : ByteArray) (r14 : Int) => K (.tuple ⟨[.agg ⟨[.int .i64 r11, .int .i64 r12, .string r13, .int .i64 r14]⟩, .int .i64 x6]⟩))))))
theorem e15 (f_1 : Option Addr) (cwd_2 : ByteArray) (path_3 : ByteArray) (follow_4 : Bool) (K : KH) : bodyF Tryz.prog tau Tryz.f15 an15 [.pointer f_1, .string cwd_2, .string path_3, .bool follow_4] K = g15 f_1 cwd_2 path_3 follow_4 K := by kernel_rfl
theorem c15 (f_1 : Option Addr) (cwd_2 : ByteArray) (path_3 : ByteArray) (follow_4 : Bool) {K : KH} {σ : H} (h : g15 f_1 cwd_2 path_3 follow_4 K σ) : callW Tryz.prog 15 [.pointer f_1, .string cwd_2, .string path_3, .bool follow_4] K σ := call_of_body mixed Tryz.func15 (by rw [e15]; exact h)


def an17 : Ann := (.q (.q (.q .z)))
def g17 (f_1 : Option Addr) (cwd_2 : ByteArray) (path_3 : ByteArray) (K : KH) : H -> Prop :=
 alW (.cells ⟨[.pointer f_1]⟩ 24 (0, 0)) (fun b4 => alW (.cells ⟨[.slice none 0 0]⟩ 22 (0, 0)) (fun b5 => rdT (rdC b4 0) kP (fun x6 => callT Tryz.prog 69 [.pointer x6, .string cwd_2, .string path_3, .bool true, .func (.func 72) ⟨[]⟩ ⟨[.pointer (some ⟨b4, 0, none⟩), .pointer (some ⟨b5, 0, none⟩)]⟩] kI (fun (x7 : Int) => rdT (rdC b5 0) kL (fun x8 => stW Tryz.prog 22 (.pointer (some ⟨b5, 0, none⟩)) (.slice x8.base x8.len x8.cap) (rdT (rdC b5 0) kL (fun r9 =>
 K (.tuple ⟨[.slice r9.base r9.len r9.cap, .int .i64 x7]⟩))))))))
theorem e17 (f_1 : Option Addr) (cwd_2 : ByteArray) (path_3 : ByteArray) (K : KH) : bodyF Tryz.prog tau Tryz.f17 an17 [.pointer f_1, .string cwd_2, .string path_3] K = g17 f_1 cwd_2 path_3 K := by kernel_rfl
theorem c17 (f_1 : Option Addr) (cwd_2 : ByteArray) (path_3 : ByteArray) {K : KH} {σ : H} (h : g17 f_1 cwd_2 path_3 K σ) : callW Tryz.prog 17 [.pointer f_1, .string cwd_2, .string path_3] K σ := call_of_body mixed Tryz.func17 (by rw [e17]; exact h)


def an26 : Ann := (.q (.q .z))
def g26 (s_1 : ByteArray) (c_2 : Int) (K : KH) : H -> Prop :=
 callT Tryz.prog 79 [.string s_1, .int .u8 c_2] kI (fun (x3 : Int) => K (.int .i64 x3))
theorem e26 (s_1 : ByteArray) (c_2 : Int) (K : KH) : bodyF Tryz.prog tau Tryz.f26 an26 [.string s_1, .int .u8 c_2] K = g26 s_1 c_2 K := by kernel_rfl
theorem c26 (s_1 : ByteArray) (c_2 : Int) {K : KH} {σ : H} (h : g26 s_1 c_2 K σ) : callW Tryz.prog 26 [.string s_1, .int .u8 c_2] K σ := call_of_body mixed Tryz.func26 (by rw [e26]; exact h)


def an31 : Ann := (.q (.q (.n (.q (.h)) (.q .z))))
def g31 (q_1 : Int) (q_2 : Int) (K : KH) : H -> Prop :=
 alW (.cells ⟨[.int .i64 q_1, .int .i64 q_2]⟩ 64 (0, 0)) (fun b3 => rdT (rdA 2 b3 0) (.one (.agg [(.int .i64), (.int .i64)])) (fun (x4 : Int) (x5 : Int) => callT Tryz.prog 82 [.agg ⟨[.int .i64 x4, .int .i64 x5]⟩] kP (fun x6 => brW x6.isNone (K (.pointer none)) (alW (.cells ⟨[.pointer x6]⟩ 110 (0, 0)) (fun b7 => K (.pointer (some ⟨b7, 0, none⟩)))))))
theorem e31 (q_1 : Int) (q_2 : Int) (K : KH) : bodyF Tryz.prog tau Tryz.f31 an31 [.agg ⟨[.int .i64 q_1, .int .i64 q_2]⟩] K = g31 q_1 q_2 K := by kernel_rfl
theorem c31 (q_1 : Int) (q_2 : Int) {K : KH} {σ : H} (h : g31 q_1 q_2 K σ) : callW Tryz.prog 31 [.agg ⟨[.int .i64 q_1, .int .i64 q_2]⟩] K σ := call_of_body mixed Tryz.func31 (by rw [e31]; exact h)


def an35 : Ann := (.q (.q (.seq (some [(4,.p),(6,.p),(7,.i)]) (.q (.cond .r .z)) (.n (.q (.h)) (.q .z)))))
def g35 (f_1 : Option Addr) (path_2 : ByteArray) (K : KH) : H -> Prop :=
 alW (.cells ⟨[.string (⟨⟨[]⟩⟩ : ByteArray), .int .i64 0, .bool false, .string (⟨⟨[]⟩⟩ : ByteArray), .slice none 0 0]⟩ 73 (0, 0)) (fun b3 => callT Tryz.prog 87 [.agg ⟨[.pointer f_1]⟩, .string path_2] (.tup [.agg [.str, (.int .i64), .bool, .str, .slc], .sc (.int .i64)]) (fun (x4 : ByteArray) (x5 : Int) (x6 : Bool) (x7 : ByteArray) (x8 : Sl) (x9 : Int) => alW (.cells ⟨[.string (⟨⟨[]⟩⟩ : ByteArray), .int .i64 0, .bool false, .string (⟨⟨[]⟩⟩ : ByteArray), .slice none 0 0]⟩ 73 (0, 0)) (fun b10 =>
 stW Tryz.prog 73 (.pointer (some ⟨b10, 0, none⟩)) (.agg ⟨[.string x4, .int .i64 x5, .bool x6, .string x7, .slice x8.base x8.len x8.cap]⟩) (letJ (T := Option Addr -> Option Addr -> Int -> H -> Prop) (fun x12 n_13 e_14 => brW ((e_14 : Int) != 0) (stW Tryz.prog 73 (.pointer x12) (.agg ⟨[.string (⟨⟨[]⟩⟩ : ByteArray), .int .i64 0, .bool false, .string (⟨⟨[]⟩⟩ : ByteArray), .slice none 0 0]⟩) (ptrW x12 (fun b15 o16 =>
 rdT (rdA 5 b15 o16) (.one (.agg [.str, (.int .i64), .bool, .str, .slc])) (fun (r17 : ByteArray) (r18 : Int) (r19 : Bool) (r20 : ByteArray) (r21 : Sl) => K (.tuple ⟨[.agg ⟨[.string r17, .int .i64 r18, .bool r19, .string r20, .slice r21.base r21.len r21.cap]⟩, .int .i64 e_14]⟩))))) (ptrW n_13 (fun b22 o23 => rdT (rdA 5 b22 o23) (.one (.agg [.str, (.int .i64), .bool, .str, .slc])) (fun (x24 : ByteArray) (x25 : Int) (x26 : Bool) (x27 : ByteArray) (x28 : Sl) =>
 stW Tryz.prog 73 (.pointer x12) (.agg ⟨[.string x24, .int .i64 x25, .bool x26, .string x27, .slice x28.base x28.len x28.cap]⟩) (ptrW x12 (fun b29 o30 => rdT (rdA 5 b29 o30) (.one (.agg [.str, (.int .i64), .bool, .str, .slc])) (fun (r31 : ByteArray) (r32 : Int) (r33 : Bool) (r34 : ByteArray) (r35 : Sl) => K (.tuple ⟨[.agg ⟨[.string r31, .int .i64 r32, .bool r33, .string r34, .slice r35.base r35.len r35.cap]⟩, .int .i64 0]⟩)))))))) (fun j11 => brW ((x9 : Int) == 0)
 (rdT (rdA 5 b10 0) (.one (.agg [.str, (.int .i64), .bool, .str, .slc])) (fun (x36 : ByteArray) (x37 : Int) (x38 : Bool) (x39 : ByteArray) (x40 : Sl) => callT Tryz.prog 88 [.agg ⟨[.string x36, .int .i64 x37, .bool x38, .string x39, .slice x40.base x40.len x40.cap]⟩] kI (fun (x41 : Int) => j11 (some ⟨b3, 0, none⟩) (some ⟨b10, 0, none⟩) x41))) (j11 (some ⟨b3, 0, none⟩) (some ⟨b10, 0, none⟩) x9))))))
theorem e35 (f_1 : Option Addr) (path_2 : ByteArray) (K : KH) : bodyF Tryz.prog tau Tryz.f35 an35 [.pointer f_1, .string path_2] K = g35 f_1 path_2 K := by kernel_rfl
theorem c35 (f_1 : Option Addr) (path_2 : ByteArray) {K : KH} {σ : H} (h : g35 f_1 path_2 K σ) : callW Tryz.prog 35 [.pointer f_1, .string path_2] K σ := call_of_body mixed Tryz.func35 (by rw [e35]; exact h)


def an36 : Ann := (.q (.q (.n (.seq (some [(1,.p),(34,.b)]) .r (.h)) (.q (.q (.n (.reg (rn 16) [[],[0],[0,1],[0,1,2],(rn 4),(rn 5),(rn 6),(rn 7),(rn 7),[0,1,2,3,4,5,6,8],[0,1,2,3,4,5,6,8,9],[0,1,2,3,4,5,6,8,9,10],[0,1,2,3,4,5,6,8,9,10,11],(rn 13),(rn 14),(rn 15)]) .z))))))
def g36  (K : KH) : H -> Prop :=
 callT Tryz.prog 31 [.agg ⟨[.int .i64 20, .int .i64 200]⟩] kP (fun x1 => letJ (T := Option Addr -> Bool -> H -> Prop) (fun f_3 x4 => brW x4 (K (.bool false)) (callT Tryz.prog 35 [.pointer f_3, .string (⟨⟨[47, 111]⟩⟩ : ByteArray)] (.tup [.agg [.str, (.int .i64), .bool, .str, .slc], .sc (.int .i64)]) (fun (x5 : ByteArray) (x6 : Int) (x7 : Bool) (x8 : ByteArray) (x9 : Sl) (x10 : Int) =>
 alW (.cells ⟨[.string (⟨⟨[]⟩⟩ : ByteArray), .int .i64 0, .bool false, .string (⟨⟨[]⟩⟩ : ByteArray), .slice none 0 0]⟩ 73 (0, 0)) (fun b11 =>
 stW Tryz.prog 73 (.pointer (some ⟨b11, 0, none⟩)) (.agg ⟨[.string x5, .int .i64 x6, .bool x7, .string x8, .slice x9.base x9.len x9.cap]⟩) (callT Tryz.prog 35 [.pointer f_3, .string (⟨⟨[47, 112]⟩⟩ : ByteArray)] (.tup [.agg [.str, (.int .i64), .bool, .str, .slc], .sc (.int .i64)]) (fun (x12 : ByteArray) (x13 : Int) (x14 : Bool) (x15 : ByteArray) (x16 : Sl) (x17 : Int) =>
 alW (.cells ⟨[.string (⟨⟨[]⟩⟩ : ByteArray), .int .i64 0, .bool false, .string (⟨⟨[]⟩⟩ : ByteArray), .slice none 0 0]⟩ 73 (0, 0)) (fun b18 => stW Tryz.prog 73 (.pointer (some ⟨b18, 0, none⟩)) (.agg ⟨[.string x12, .int .i64 x13, .bool x14, .string x15, .slice x16.base x16.len x16.cap]⟩) (brW ((x10 : Int) == 0) (brW ((x17 : Int) == 5) (rdT (rdA 5 b11 0) (.one (.agg [.str, (.int .i64), .bool, .str, .slc])) (fun (x19 : ByteArray) (x20 : Int) (x21 : Bool) (x22 : ByteArray) (x23 : Sl) =>
 callT Tryz.prog 50 [.string (⟨⟨[104]⟩⟩ : ByteArray), .string (⟨⟨[49]⟩⟩ : ByteArray), .bool true] (.one (.agg [.str, (.int .i64), .bool, .str, .slc])) (fun (x24 : ByteArray) (x25 : Int) (x26 : Bool) (x27 : ByteArray) (x28 : Sl) => andW (fun σ => (rdA 5 b11 0) σ = some (.agg ⟨[.string x19, .int .i64 x20, .bool x21, .string x22, .slice x23.base x23.len x23.cap]⟩))
 (callT Tryz.prog 51 [.string (⟨⟨[108]⟩⟩ : ByteArray), .string (⟨⟨[120]⟩⟩ : ByteArray)] (.one (.agg [.str, (.int .i64), .bool, .str, .slc])) (fun (x29 : ByteArray) (x30 : Int) (x31 : Bool) (x32 : ByteArray) (x33 : Sl) => andW (fun σ => (rdA 5 b11 0) σ = some (.agg ⟨[.string x19, .int .i64 x20, .bool x21, .string x22, .slice x23.base x23.len x23.cap]⟩))
 (callT Tryz.prog 50 [.string (⟨⟨[120]⟩⟩ : ByteArray), .string (⟨⟨[49]⟩⟩ : ByteArray), .bool true] (.one (.agg [.str, (.int .i64), .bool, .str, .slc])) (fun (x34 : ByteArray) (x35 : Int) (x36 : Bool) (x37 : ByteArray) (x38 : Sl) => andW (fun σ => (rdA 5 b11 0) σ = some (.agg ⟨[.string x19, .int .i64 x20, .bool x21, .string x22, .slice x23.base x23.len x23.cap]⟩))
 (alW (.cells ⟨[.string x24, .int .i64 x25, .bool x26, .string x27, .slice x28.base x28.len x28.cap, .string x29, .int .i64 x30, .bool x31, .string x32, .slice x33.base x33.len x33.cap, .string x34, .int .i64 x35, .bool x36, .string x37, .slice x38.base x38.len x38.cap]⟩ 73 (0, 0)) (fun b39 =>
 callT Tryz.prog 49 [.agg ⟨[.string x19, .int .i64 x20, .bool x21, .string x22, .slice x23.base x23.len x23.cap]⟩, .agg ⟨[.string (⟨⟨[]⟩⟩ : ByteArray), .int .i64 2, .bool false, .string (⟨⟨[]⟩⟩ : ByteArray), .slice (some ⟨b39, 0, none⟩) 3 3]⟩] kB (fun x40 => K (.bool x40))))))))))) (K (.bool false))) (K (.bool false)))))))))) (fun j2 => brW x1.isNone (j2 x1 true) (callT Tryz.prog 48 [.pointer x1, .string (⟨⟨[47]⟩⟩ : ByteArray), .string (⟨⟨[111]⟩⟩ : ByteArray)] kI (fun (x41 : Int) =>
 brW ((x41 : Int) != 0) (j2 x1 true) (callT Tryz.prog 47 [.pointer x1, .string (⟨⟨[47, 111]⟩⟩ : ByteArray), .string (⟨⟨[120]⟩⟩ : ByteArray), .string (⟨⟨[49]⟩⟩ : ByteArray), .bool false] kI (fun (x42 : Int) => brW ((x42 : Int) != 0) (j2 x1 true) (callT Tryz.prog 58 [.pointer x1, .string (⟨⟨[47, 111]⟩⟩ : ByteArray), .string (⟨⟨[120]⟩⟩ : ByteArray), .int .i64 448] kI (fun (x43 : Int) => brW ((x43 : Int) != 0) (j2 x1 true)
 (callT Tryz.prog 41 [.pointer x1, .string (⟨⟨[47, 111]⟩⟩ : ByteArray), .string (⟨⟨[120]⟩⟩ : ByteArray), .string (⟨⟨[108]⟩⟩ : ByteArray)] kI (fun (x44 : Int) => brW ((x44 : Int) != 0) (j2 x1 true) (callT Tryz.prog 55 [.pointer x1, .string (⟨⟨[47, 111]⟩⟩ : ByteArray), .string (⟨⟨[120]⟩⟩ : ByteArray), .string (⟨⟨[104]⟩⟩ : ByteArray)] kI (fun (x45 : Int) => j2 x1 ((x45 : Int) != 0)))))))))))))
theorem e36  (K : KH) : bodyF Tryz.prog tau Tryz.f36 an36 [] K = g36  K := by kernel_rfl
theorem c36  {K : KH} {σ : H} (h : g36  K σ) : callW Tryz.prog 36 [] K σ := call_of_body mixed Tryz.func36 (by rw [e36]; exact h)


def an41 : Ann := (.q (.n (.q (.h)) (.n (.seq (some [(1,.s),(3,.s),(4,.p),(6,.p),(22,.b)]) .r (.h)) (.q .z))))
def g41 (f_1 : Option Addr) (cwd_2 : ByteArray) (target_3 : ByteArray) (path_4 : ByteArray) (K : KH) : H -> Prop :=
 alW (.cells ⟨[.pointer f_1]⟩ 24 (0, 0)) (fun b5 => alW (.cells ⟨[.string target_3]⟩ 9 (0, 0)) (fun b6 => rdT (rdC b5 0) kP (fun x7 => callT Tryz.prog 92 [.pointer x7] kB (fun x8 => brW x8 (K (.int .i64 1)) (letJ (T := ByteArray -> ByteArray -> Option Addr -> Option Addr -> Bool -> H -> Prop) (fun cwd_10 path_11 f_12 target_13 x14 => brW x14 (K (.int .i64 2)) (ptrW f_12 (fun b15 o16 => rdT (rdC b15 o16) kP (fun x17 =>
 callT Tryz.prog 94 [.pointer x17, .string cwd_10, .string path_11, .func (.func 95) ⟨[]⟩ ⟨[.pointer f_12, .pointer target_13]⟩] kI (fun (x18 : Int) => K (.int .i64 x18)))))) (fun j9 => rdT (rdC b6 0) kS (fun (x19 : ByteArray) => brW (strEq x19 (⟨⟨[]⟩⟩ : ByteArray)) (j9 cwd_2 path_4 (some ⟨b5, 0, none⟩) (some ⟨b6, 0, none⟩) true) (rdT (rdC b6 0) kS (fun (x20 : ByteArray) => brW (decide ((((x20.size : Nat) : Int) : Int) > 255)) (j9 cwd_2 path_4 (some ⟨b5, 0, none⟩) (some ⟨b6, 0, none⟩) true)
 (rdT (rdC b6 0) kS (fun (x21 : ByteArray) => callT Tryz.prog 26 [.string x21, .int .u8 0] kI (fun (x22 : Int) => j9 cwd_2 path_4 (some ⟨b5, 0, none⟩) (some ⟨b6, 0, none⟩) (decide ((x22 : Int) >= 0))))))))))))))
theorem e41 (f_1 : Option Addr) (cwd_2 : ByteArray) (target_3 : ByteArray) (path_4 : ByteArray) (K : KH) : bodyF Tryz.prog tau Tryz.f41 an41 [.pointer f_1, .string cwd_2, .string target_3, .string path_4] K = g41 f_1 cwd_2 target_3 path_4 K := by kernel_rfl
theorem c41 (f_1 : Option Addr) (cwd_2 : ByteArray) (target_3 : ByteArray) (path_4 : ByteArray) {K : KH} {σ : H} (h : g41 f_1 cwd_2 target_3 path_4 K σ) : callW Tryz.prog 41 [.pointer f_1, .string cwd_2, .string target_3, .string path_4] K σ := call_of_body mixed Tryz.func41 (by rw [e41]; exact h)


def an47 : Ann := (.q (.q (.n (.q (.h)) (.n (.q (.cond (.n (.reg (rn 15) [[],[0],[0,1],[0,1,2],[],[4],[],[6],[],(rn 9),(rn 10),(rn 11),(rn 11),(rn 12),(rn 14)]) (.q .z)) .z)) (.n (.reg (rn 13) [[],[0],[0,1],[0,1,2],[],[4],(rn 6),(rn 7),(rn 8),(rn 8),[],[0,1,2,3,4,5,6,7,8,10],(rn 12)]) (.n (.q (.h)) (.seq (some [(0,.p),(3,.s),(11,.p)]) (.q (.cond .r .z)) (.n (.reg (rn 9) [[],[0],[0,1],[0,1,2],[],[4],[],(rn 7),(rn 8)]) .z))))))))
def g47 (f_1 : Option Addr) (cwd_2 : ByteArray) (path_3 : ByteArray) (data_4 : ByteArray) (more_5 : Bool) (K : KH) : H -> Prop :=
 callT Tryz.prog 98 [.pointer f_1, .string cwd_2, .string path_3, .bool true] (.tup [.agg [(.int .i64), .str, (.int .i64), .bool], .sc (.int .i64)]) (fun (x6 : Int) (x7 : ByteArray) (x8 : Int) (x9 : Bool) (x10 : Int) => alW (.cells ⟨[.int .i64 0, .string (⟨⟨[]⟩⟩ : ByteArray), .int .i64 0, .bool false]⟩ 142 (0, 0)) (fun b11 => stW Tryz.prog 142 (.pointer (some ⟨b11, 0, none⟩)) (.agg ⟨[.int .i64 x6, .string x7, .int .i64 x8, .bool x9]⟩) (brW ((x10 : Int) != 0) (K (.int .i64 x10))
 (rdT (rdC b11 3) kB (fun x12 => brW (!x12) (ptrW f_1 (fun b13 o14 => rdT (rdC b13 o14) kP (fun x15 => rdT (rdC b11 0) kI (fun (x16 : Int) => rdT (rdC b11 1) kS (fun (x17 : ByteArray) => callT Tryz.prog 96 [.pointer x15, .int .i64 x16, .string x17, .int .i64 1, .int .i64 420, .string data_4] (.tup [.sc (.int .i64), .sc (.int .i64)]) (fun (_x18 : Int) (x19 : Int) => K (.int .i64 x19))))))) (ptrW f_1 (fun b20 o21 => rdT (rdC b20 o21) kP (fun x22 => rdT (rdC b11 2) kI (fun (x23 : Int) =>
 callT Tryz.prog 99 [.pointer x22, .int .i64 x23] (.tup [.agg [(.int .i64), (.int .i64), .str, (.int .i64)], .sc .bool]) (fun (x24 : Int) (x25 : Int) (x26 : ByteArray) (x27 : Int) (_x28 : Bool) => alW (.cells ⟨[.int .i64 0, .int .i64 0, .string (⟨⟨[]⟩⟩ : ByteArray), .int .i64 0]⟩ 35 (0, 0)) (fun b29 => stW Tryz.prog 35 (.pointer (some ⟨b29, 0, none⟩)) (.agg ⟨[.int .i64 x24, .int .i64 x25, .string x26, .int .i64 x27]⟩) (rdT (rdC b29 0) kI (fun (x30 : Int) => brW ((x30 : Int) == 2)
 (K (.int .i64 7)) (letJ (T := Option Addr -> ByteArray -> Option Addr -> H -> Prop) (fun f_32 data_33 p_34 => ptrW f_32 (fun b35 o36 => rdT (rdC b35 o36) kP (fun x37 => ptrW p_34 (fun b38 o39 => rdT (rdC b38 (o39 + 2)) kI (fun (x40 : Int) => callT Tryz.prog 100 [.pointer x37, .int .i64 x40, .string data_33] kI (fun (x41 : Int) => K (.int .i64 x41))))))) (fun j31 => brW more_5 (rdT (rdC b29 2) kS (fun (x42 : ByteArray) => ifW (x42.size + data_4.size <= 9223372036854775807)
 (j31 f_1 (x42 ++ data_4) (some ⟨b11, 0, none⟩)))) (j31 f_1 data_4 (some ⟨b11, 0, none⟩)))))))))))))))))
theorem e47 (f_1 : Option Addr) (cwd_2 : ByteArray) (path_3 : ByteArray) (data_4 : ByteArray) (more_5 : Bool) (K : KH) : bodyF Tryz.prog tau Tryz.f47 an47 [.pointer f_1, .string cwd_2, .string path_3, .string data_4, .bool more_5] K = g47 f_1 cwd_2 path_3 data_4 more_5 K := by kernel_rfl
theorem c47 (f_1 : Option Addr) (cwd_2 : ByteArray) (path_3 : ByteArray) (data_4 : ByteArray) (more_5 : Bool) {K : KH} {σ : H} (h : g47 f_1 cwd_2 path_3 data_4 more_5 K σ) : callW Tryz.prog 47 [.pointer f_1, .string cwd_2, .string path_3, .string data_4, .bool more_5] K σ := call_of_body mixed Tryz.func47 (by rw [e47]; exact h)


def an48 : Ann := (.q (.q .z))
def g48 (f_1 : Option Addr) (cwd_2 : ByteArray) (path_3 : ByteArray) (K : KH) : H -> Prop :=
 alW (.cells ⟨[.pointer f_1]⟩ 24 (0, 0)) (fun b4 => rdT (rdC b4 0) kP (fun x5 => callT Tryz.prog 94 [.pointer x5, .string cwd_2, .string path_3, .func (.func 101) ⟨[]⟩ ⟨[.pointer (some ⟨b4, 0, none⟩)]⟩] kI (fun (x6 : Int) => K (.int .i64 x6))))
theorem e48 (f_1 : Option Addr) (cwd_2 : ByteArray) (path_3 : ByteArray) (K : KH) : bodyF Tryz.prog tau Tryz.f48 an48 [.pointer f_1, .string cwd_2, .string path_3] K = g48 f_1 cwd_2 path_3 K := by kernel_rfl
theorem c48 (f_1 : Option Addr) (cwd_2 : ByteArray) (path_3 : ByteArray) {K : KH} {σ : H} (h : g48 f_1 cwd_2 path_3 K σ) : callW Tryz.prog 48 [.pointer f_1, .string cwd_2, .string path_3] K σ := call_of_body mixed Tryz.func48 (by rw [e48]; exact h)


def an49 : Ann := (.q (.n (.seq (some [(2,.p),(3,.p),(10,.b)]) .r (.h)) (.q .z)))
def g49 (a_1 : ByteArray) (a_2 : Int) (a_3 : Bool) (a_4 : ByteArray) (a_5 : Sl) (b_6 : ByteArray) (b_7 : Int) (b_8 : Bool) (b_9 : ByteArray) (b_10 : Sl) (K : KH) : H -> Prop :=
 alW (.cells ⟨[.string a_1, .int .i64 a_2, .bool a_3, .string a_4, .slice a_5.base a_5.len a_5.cap]⟩ 73 (0, 0)) (fun b11 => alW (.cells ⟨[.string b_6, .int .i64 b_7, .bool b_8, .string b_9, .slice b_10.base b_10.len b_10.cap]⟩ 73 (0, 0)) (fun b12 => letJ (T := Option Addr -> Option Addr -> Bool -> H -> Prop) (fun a_14 b_15 x16 => brW x16 (K (.bool false)) (ptrW a_14 (fun b17 o18 => rdT (rdC b17 o18) kS (fun (x19 : ByteArray) => ptrW b_15 (fun b20 o21 =>
 rdT (rdC b20 o21) kS (fun (x22 : ByteArray) => brW (strEq x19 x22) (ptrW a_14 (fun b23 o24 => rdT (rdC b23 (o24 + 1)) kI (fun (x25 : Int) => ptrW b_15 (fun b26 o27 => rdT (rdC b26 (o27 + 1)) kI (fun (x28 : Int) => brW ((x25 : Int) == x28) (ptrW a_14 (fun b29 o30 => rdT (rdC b29 (o30 + 2)) kB (fun x31 => ptrW b_15 (fun b32 o33 => rdT (rdC b32 (o33 + 2)) kB (fun x34 => brW (x31 == x34) (ptrW a_14 (fun b35 o36 => rdT (rdC b35 (o36 + 3)) kS (fun (x37 : ByteArray) => ptrW b_15 (fun b38 o39 =>
 rdT (rdC b38 (o39 + 3)) kS (fun (x40 : ByteArray) => brW (strEq x37 x40) (ptrW a_14 (fun b41 o42 => rdT (rdC b41 (o42 + 4)) kL (fun x43 => ptrW b_15 (fun b44 o45 => rdT (rdC b44 (o45 + 4)) kL (fun x46 => callT Tryz.prog 104 [.slice x43.base x43.len x43.cap, .slice x46.base x46.len x46.cap, .func (.func 49) ⟨[]⟩ ⟨[]⟩] kB (fun x47 => K (.bool x47))))))) (K (.bool false))))))) (K (.bool false))))))) (K (.bool false))))))) (K (.bool false)))))))) (fun j13 =>
 rdT (rdA 5 b11 0) (.one (.agg [.str, (.int .i64), .bool, .str, .slc])) (fun (x48 : ByteArray) (x49 : Int) (x50 : Bool) (x51 : ByteArray) (x52 : Sl) => callT Tryz.prog 103 [.agg ⟨[.string x48, .int .i64 x49, .bool x50, .string x51, .slice x52.base x52.len x52.cap]⟩] kB (fun x53 => brW x53 (j13 (some ⟨b11, 0, none⟩) (some ⟨b12, 0, none⟩) true) (rdT (rdA 5 b12 0) (.one (.agg [.str, (.int .i64), .bool, .str, .slc])) (fun (x54 : ByteArray) (x55 : Int) (x56 : Bool) (x57 : ByteArray) (x58 : Sl) =>
 callT Tryz.prog 103 [.agg ⟨[.string x54, .int .i64 x55, .bool x56, .string x57, .slice x58.base x58.len x58.cap]⟩] kB (fun x59 => j13 (some ⟨b11, 0, none⟩) (some ⟨b12, 0, none⟩) x59))))))))
theorem e49 (a_1 : ByteArray) (a_2 : Int) (a_3 : Bool) (a_4 : ByteArray) (a_5 : Sl) (b_6 : ByteArray) (b_7 : Int) (b_8 : Bool) (b_9 : ByteArray) (b_10 : Sl) (K : KH) : bodyF Tryz.prog tau Tryz.f49 an49 [.agg ⟨[.string a_1, .int .i64 a_2, .bool a_3, .string a_4, .slice a_5.base a_5.len a_5.cap]⟩, .agg ⟨[.string b_6, .int .i64 b_7, .bool b_8, .string b_9, .slice b_10.base b_10.len b_10.cap]⟩] K = g49 a_1 a_2 a_3 a_4 a_5 b_6 b_7 b_8 b_9 b_10 K := by kernel_rfl
theorem c49 (a_1 : ByteArray) (a_2 : Int) (a_3 : Bool) (a_4 : ByteArray) (a_5 : Sl) (b_6 : ByteArray) (b_7 : Int) (b_8 : Bool) (b_9 : ByteArray) (b_10 : Sl) {K : KH} {σ : H} (h : g49 a_1 a_2 a_3 a_4 a_5 b_6 b_7 b_8 b_9 b_10 K σ) : callW Tryz.prog 49 [.agg ⟨[.string a_1, .int .i64 a_2, .bool a_3, .string a_4, .slice a_5.base a_5.len a_5.cap]⟩, .agg ⟨[.string b_6, .int .i64 b_7, .bool b_8, .string b_9, .slice b_10.base b_10.len b_10.cap]⟩] K σ := call_of_body mixed Tryz.func49 (by rw [e49]; exact h)


def an50 : Ann := (.q (.q .z))
def g50 (name_1 : ByteArray) (data_2 : ByteArray) (exec_3 : Bool) (K : KH) : H -> Prop :=
 alW (.cells ⟨[.string (⟨⟨[]⟩⟩ : ByteArray), .int .i64 0, .bool false, .string (⟨⟨[]⟩⟩ : ByteArray), .slice none 0 0]⟩ 73 (0, 0)) (fun b4 => stW Tryz.prog 73 (.pointer (some ⟨b4, 0, none⟩)) (.agg ⟨[.string name_1, .int .i64 1, .bool exec_3, .string data_2, .slice none 0 0]⟩) (rdT (rdA 5 b4 0) (.one (.agg [.str, (.int .i64), .bool, .str, .slc])) (fun (r5 : ByteArray) (r6 : Int) (r7 : Bool) (r8 : ByteArray) (r9 : Sl) =>
 K (.agg ⟨[.string r5, .int .i64 r6, .bool r7, .string r8, .slice r9.base r9.len r9.cap]⟩))))
theorem e50 (name_1 : ByteArray) (data_2 : ByteArray) (exec_3 : Bool) (K : KH) : bodyF Tryz.prog tau Tryz.f50 an50 [.string name_1, .string data_2, .bool exec_3] K = g50 name_1 data_2 exec_3 K := by kernel_rfl
theorem c50 (name_1 : ByteArray) (data_2 : ByteArray) (exec_3 : Bool) {K : KH} {σ : H} (h : g50 name_1 data_2 exec_3 K σ) : callW Tryz.prog 50 [.string name_1, .string data_2, .bool exec_3] K σ := call_of_body mixed Tryz.func50 (by rw [e50]; exact h)


def an51 : Ann := (.q (.q .z))
def g51 (name_1 : ByteArray) (to_2 : ByteArray) (K : KH) : H -> Prop :=
 alW (.cells ⟨[.string (⟨⟨[]⟩⟩ : ByteArray), .int .i64 0, .bool false, .string (⟨⟨[]⟩⟩ : ByteArray), .slice none 0 0]⟩ 73 (0, 0)) (fun b3 => stW Tryz.prog 73 (.pointer (some ⟨b3, 0, none⟩)) (.agg ⟨[.string name_1, .int .i64 3, .bool false, .string to_2, .slice none 0 0]⟩) (rdT (rdA 5 b3 0) (.one (.agg [.str, (.int .i64), .bool, .str, .slc])) (fun (r4 : ByteArray) (r5 : Int) (r6 : Bool) (r7 : ByteArray) (r8 : Sl) =>
 K (.agg ⟨[.string r4, .int .i64 r5, .bool r6, .string r7, .slice r8.base r8.len r8.cap]⟩))))
theorem e51 (name_1 : ByteArray) (to_2 : ByteArray) (K : KH) : bodyF Tryz.prog tau Tryz.f51 an51 [.string name_1, .string to_2] K = g51 name_1 to_2 K := by kernel_rfl
theorem c51 (name_1 : ByteArray) (to_2 : ByteArray) {K : KH} {σ : H} (h : g51 name_1 to_2 K σ) : callW Tryz.prog 51 [.string name_1, .string to_2] K σ := call_of_body mixed Tryz.func51 (by rw [e51]; exact h)


def an55 : Ann := (.q (.q (.n (.blk (.q (.cond (.q .z) (.q (.cond (.q .z) (.q (.cond (.q .z) (.q (.cond (.q .z) (.q (.h))))))))))) (.n (.reg (rn 12) [[],[0],[0,1],[0,1,2],[],[4],[],[6],[],[8],(rn 10),(rn 11)]) .z))))
def g55 (f_1 : Option Addr) (cwd_2 : ByteArray) (from_3 : ByteArray) (to_4 : ByteArray) (K : KH) : H -> Prop :=
 callT Tryz.prog 109 [.pointer f_1, .string cwd_2, .string from_3, .string to_4] (.tup [.agg [(.int .i64), .str, (.int .i64), .bool], .agg [(.int .i64), .str, (.int .i64), .bool], .sc (.int .i64)]) (fun (x5 : Int) (x6 : ByteArray) (x7 : Int) (x8 : Bool) (x9 : Int) (x10 : ByteArray) (x11 : Int) (x12 : Bool) (x13 : Int) => alW (.cells ⟨[.int .i64 0, .string (⟨⟨[]⟩⟩ : ByteArray), .int .i64 0, .bool false]⟩ 142 (0, 0)) (fun b14 =>
 alW (.cells ⟨[.int .i64 0, .string (⟨⟨[]⟩⟩ : ByteArray), .int .i64 0, .bool false]⟩ 142 (0, 0)) (fun b15 => stW Tryz.prog 142 (.pointer (some ⟨b14, 0, none⟩)) (.agg ⟨[.int .i64 x5, .string x6, .int .i64 x7, .bool x8]⟩) (stW Tryz.prog 142 (.pointer (some ⟨b15, 0, none⟩)) (.agg ⟨[.int .i64 x9, .string x10, .int .i64 x11, .bool x12]⟩) (brW ((x13 : Int) != 0) (K (.int .i64 x13)) (rdT (rdC b14 3) kB (fun x16 => brW (!x16) (K (.int .i64 5)) (rdT (rdC b14 2) kI (fun (x17 : Int) =>
 callT Tryz.prog 110 [.pointer f_1, .int .i64 x17] kI (fun (x18 : Int) => brW ((x18 : Int) == 2) (K (.int .i64 7)) (rdT (rdC b14 2) kI (fun (x19 : Int) => callT Tryz.prog 110 [.pointer f_1, .int .i64 x19] kI (fun (x20 : Int) => brW ((x20 : Int) == 3) (K (.int .i64 2)) (rdT (rdC b15 3) kB (fun x21 => brW x21 (K (.int .i64 6)) (ptrW f_1 (fun b22 o23 => rdT (rdC b22 o23) kP (fun x24 => rdT (rdC b15 0) kI (fun (x25 : Int) => rdT (rdC b15 1) kS (fun (x26 : ByteArray) =>
 rdT (rdC b14 2) kI (fun (x27 : Int) => callT Tryz.prog 111 [.pointer x24, .int .i64 x25, .string x26, .int .i64 x27] kI (fun (x28 : Int) => K (.int .i64 x28)))))))))))))))))))))))
theorem e55 (f_1 : Option Addr) (cwd_2 : ByteArray) (from_3 : ByteArray) (to_4 : ByteArray) (K : KH) : bodyF Tryz.prog tau Tryz.f55 an55 [.pointer f_1, .string cwd_2, .string from_3, .string to_4] K = g55 f_1 cwd_2 from_3 to_4 K := by kernel_rfl
theorem c55 (f_1 : Option Addr) (cwd_2 : ByteArray) (from_3 : ByteArray) (to_4 : ByteArray) {K : KH} {σ : H} (h : g55 f_1 cwd_2 from_3 to_4 K σ) : callW Tryz.prog 55 [.pointer f_1, .string cwd_2, .string from_3, .string to_4] K σ := call_of_body mixed Tryz.func55 (by rw [e55]; exact h)


def an58 : Ann := (.q (.n (.q (.h)) (.n (.seq (some [(1,.s),(2,.s),(4,.p),(7,.p),(16,.b)]) .r (.h)) (.q .z))))
def g58 (f_1 : Option Addr) (cwd_2 : ByteArray) (path_3 : ByteArray) (mode_4 : Int) (K : KH) : H -> Prop :=
 alW (.cells ⟨[.pointer f_1]⟩ 24 (0, 0)) (fun b5 => alW (.cells ⟨[.int .i64 mode_4]⟩ 3 (0, 0)) (fun b6 => rdT (rdC b5 0) kP (fun x7 => callT Tryz.prog 92 [.pointer x7] kB (fun x8 => brW x8 (K (.int .i64 1)) (letJ (T := ByteArray -> ByteArray -> Option Addr -> Option Addr -> Bool -> H -> Prop) (fun cwd_10 path_11 f_12 mode_13 x14 => brW x14 (K (.int .i64 2)) (ptrW f_12 (fun b15 o16 => rdT (rdC b15 o16) kP (fun x17 =>
 callT Tryz.prog 69 [.pointer x17, .string cwd_10, .string path_11, .bool true, .func (.func 115) ⟨[]⟩ ⟨[.pointer f_12, .pointer mode_13]⟩] kI (fun (x18 : Int) => K (.int .i64 x18)))))) (fun j9 => rdT (rdC b6 0) kI (fun (x19 : Int) => brW (decide ((x19 : Int) < 0)) (j9 cwd_2 path_3 (some ⟨b5, 0, none⟩) (some ⟨b6, 0, none⟩) true) (rdT (rdC b6 0) kI (fun (x20 : Int) => j9 cwd_2 path_3 (some ⟨b5, 0, none⟩) (some ⟨b6, 0, none⟩) (decide ((x20 : Int) > 511)))))))))))
theorem e58 (f_1 : Option Addr) (cwd_2 : ByteArray) (path_3 : ByteArray) (mode_4 : Int) (K : KH) : bodyF Tryz.prog tau Tryz.f58 an58 [.pointer f_1, .string cwd_2, .string path_3, .int .i64 mode_4] K = g58 f_1 cwd_2 path_3 mode_4 K := by kernel_rfl
theorem c58 (f_1 : Option Addr) (cwd_2 : ByteArray) (path_3 : ByteArray) (mode_4 : Int) {K : KH} {σ : H} (h : g58 f_1 cwd_2 path_3 mode_4 K σ) : callW Tryz.prog 58 [.pointer f_1, .string cwd_2, .string path_3, .int .i64 mode_4] K σ := call_of_body mixed Tryz.func58 (by rw [e58]; exact h)


def an69 : Ann := (.q (.q (.n (.q (.h)) (.n (.reg (rn 13) [[],[0],[0,1],[0,1,2],[],[4],(rn 6),(rn 7),(rn 8),(rn 8),[],[0,1,2,3,4,5,6,7,8,10],(rn 12)]) (.n (.seq (some [(4,.w),(11,.p),(13,.p),(42,.b)]) .r (.h)) (.q .z))))))
def g69 (f_1 : Option Addr) (cwd_2 : ByteArray) (path_3 : ByteArray) (follow_4 : Bool) (do_5 : Value) (K : KH) : H -> Prop :=
 callT Tryz.prog 98 [.pointer f_1, .string cwd_2, .string path_3, .bool follow_4] (.tup [.agg [(.int .i64), .str, (.int .i64), .bool], .sc (.int .i64)]) (fun (x6 : Int) (x7 : ByteArray) (x8 : Int) (x9 : Bool) (x10 : Int) => alW (.cells ⟨[.int .i64 0, .string (⟨⟨[]⟩⟩ : ByteArray), .int .i64 0, .bool false]⟩ 142 (0, 0)) (fun b11 => stW Tryz.prog 142 (.pointer (some ⟨b11, 0, none⟩)) (.agg ⟨[.int .i64 x6, .string x7, .int .i64 x8, .bool x9]⟩) (brW ((x10 : Int) != 0) (K (.int .i64 x10))
 (ptrW f_1 (fun b12 o13 => rdT (rdC b12 o13) kP (fun x14 => rdT (rdC b11 2) kI (fun (x15 : Int) => callT Tryz.prog 99 [.pointer x14, .int .i64 x15] (.tup [.agg [(.int .i64), (.int .i64), .str, (.int .i64)], .sc .bool]) (fun (x16 : Int) (x17 : Int) (x18 : ByteArray) (x19 : Int) (x20 : Bool) => alW (.cells ⟨[.int .i64 0, .int .i64 0, .string (⟨⟨[]⟩⟩ : ByteArray), .int .i64 0]⟩ 35 (0, 0)) (fun b21 =>
 stW Tryz.prog 35 (.pointer (some ⟨b21, 0, none⟩)) (.agg ⟨[.int .i64 x16, .int .i64 x17, .string x18, .int .i64 x19]⟩) (letJ (T := Value -> Option Addr -> Option Addr -> Bool -> H -> Prop) (fun do_23 p_24 n_25 x26 => brW x26 (K (.int .i64 5)) (ptrW p_24 (fun b27 o28 => rdT (rdC b27 (o28 + 2)) kI (fun (x29 : Int) => ptrW n_25 (fun b30 o31 => rdT (rdA 4 b30 o31) (.one (.agg [(.int .i64), (.int .i64), .str, (.int .i64)])) (fun (x32 : Int) (x33 : Int) (x34 : ByteArray) (x35 : Int) =>
 cvalT Tryz.prog do_23 [.int .i64 x29, .agg ⟨[.int .i64 x32, .int .i64 x33, .string x34, .int .i64 x35]⟩] kI (fun (x36 : Int) => K (.int .i64 x36)))))))) (fun j22 => rdT (rdC b11 3) kB (fun x37 => brW (!x37) (j22 do_5 (some ⟨b11, 0, none⟩) (some ⟨b21, 0, none⟩) true) (j22 do_5 (some ⟨b11, 0, none⟩) (some ⟨b21, 0, none⟩) (!x20))))))))))))))
theorem e69 (f_1 : Option Addr) (cwd_2 : ByteArray) (path_3 : ByteArray) (follow_4 : Bool) (do_5 : Value) (K : KH) : bodyF Tryz.prog tau Tryz.f69 an69 [.pointer f_1, .string cwd_2, .string path_3, .bool follow_4, do_5] K = g69 f_1 cwd_2 path_3 follow_4 do_5 K := by kernel_rfl
theorem c69 (f_1 : Option Addr) (cwd_2 : ByteArray) (path_3 : ByteArray) (follow_4 : Bool) (do_5 : Value) {K : KH} {σ : H} (h : g69 f_1 cwd_2 path_3 follow_4 do_5 K σ) : callW Tryz.prog 69 [.pointer f_1, .string cwd_2, .string path_3, .bool follow_4, do_5] K σ := call_of_body mixed Tryz.func69 (by rw [e69]; exact h)


def an70 : Ann := (.q (.q (.q .z)))
def g70 (__1 : Int) (n_2 : Int) (n_3 : Int) (n_4 : ByteArray) (n_5 : Int) (x6 : Option Addr) (K : KH) : H -> Prop :=
 alW (.cells ⟨[.int .i64 n_2, .int .i64 n_3, .string n_4, .int .i64 n_5]⟩ 35 (0, 0)) (fun b7 => rdT (rdA 4 b7 0) (.one (.agg [(.int .i64), (.int .i64), .str, (.int .i64)])) (fun (x8 : Int) (x9 : Int) (x10 : ByteArray) (x11 : Int) => stW Tryz.prog 35 (.pointer x6) (.agg ⟨[.int .i64 x8, .int .i64 x9, .string x10, .int .i64 x11]⟩) (K (.int .i64 0))))
theorem e70 (__1 : Int) (n_2 : Int) (n_3 : Int) (n_4 : ByteArray) (n_5 : Int) (x6 : Option Addr) (K : KH) : bodyF Tryz.prog tau Tryz.f70 an70 [.int .i64 __1, .agg ⟨[.int .i64 n_2, .int .i64 n_3, .string n_4, .int .i64 n_5]⟩, .pointer x6] K = g70 __1 n_2 n_3 n_4 n_5 x6 K := by kernel_rfl
theorem c70 (__1 : Int) (n_2 : Int) (n_3 : Int) (n_4 : ByteArray) (n_5 : Int) (x6 : Option Addr) {K : KH} {σ : H} (h : g70 __1 n_2 n_3 n_4 n_5 x6 K σ) : callW Tryz.prog 70 [.int .i64 __1, .agg ⟨[.int .i64 n_2, .int .i64 n_3, .string n_4, .int .i64 n_5]⟩, .pointer x6] K σ := call_of_body mixed Tryz.func70 (by rw [e70]; exact h)


def an71 : Ann := (.q (.q .z))
def g71 (s_1 : ByteArray) (substr_2 : ByteArray) (K : KH) : H -> Prop :=
 callT Tryz.prog 137 [.string s_1, .string substr_2] kI (fun (x3 : Int) => K (.int .i64 x3))
theorem e71 (s_1 : ByteArray) (substr_2 : ByteArray) (K : KH) : bodyF Tryz.prog tau Tryz.f71 an71 [.string s_1, .string substr_2] K = g71 s_1 substr_2 K := by kernel_rfl
theorem c71 (s_1 : ByteArray) (substr_2 : ByteArray) {K : KH} {σ : H} (h : g71 s_1 substr_2 K σ) : callW Tryz.prog 71 [.string s_1, .string substr_2] K σ := call_of_body mixed Tryz.func71 (by rw [e71]; exact h)


def an72 : Ann := (.q (.n (.q (.h)) (.q (.q .z))))
def g72 (ino_1 : Int) (n_2 : Int) (n_3 : Int) (n_4 : ByteArray) (n_5 : Int) (x6 : Option Addr) (x7 : Option Addr) (K : KH) : H -> Prop :=
 alW (.cells ⟨[.int .i64 n_2, .int .i64 n_3, .string n_4, .int .i64 n_5]⟩ 35 (0, 0)) (fun b8 => rdT (rdC b8 0) kI (fun (x9 : Int) => brW ((x9 : Int) != 2) (K (.int .i64 8)) (ptrW x6 (fun b10 o11 => rdT (rdC b10 o11) kP (fun x12 => ptrW x12 (fun b13 o14 => rdT (rdC b13 o14) kP (fun x15 => callT Tryz.prog 73 [.pointer x15, .int .i64 ino_1] kL (fun x16 => stW Tryz.prog 22 (.pointer x7) (.slice x16.base x16.len x16.cap) (K (.int .i64 0))))))))))
theorem e72 (ino_1 : Int) (n_2 : Int) (n_3 : Int) (n_4 : ByteArray) (n_5 : Int) (x6 : Option Addr) (x7 : Option Addr) (K : KH) : bodyF Tryz.prog tau Tryz.f72 an72 [.int .i64 ino_1, .agg ⟨[.int .i64 n_2, .int .i64 n_3, .string n_4, .int .i64 n_5]⟩, .pointer x6, .pointer x7] K = g72 ino_1 n_2 n_3 n_4 n_5 x6 x7 K := by kernel_rfl
theorem c72 (ino_1 : Int) (n_2 : Int) (n_3 : Int) (n_4 : ByteArray) (n_5 : Int) (x6 : Option Addr) (x7 : Option Addr) {K : KH} {σ : H} (h : g72 ino_1 n_2 n_3 n_4 n_5 x6 x7 K σ) : callW Tryz.prog 72 [.int .i64 ino_1, .agg ⟨[.int .i64 n_2, .int .i64 n_3, .string n_4, .int .i64 n_5]⟩, .pointer x6, .pointer x7] K σ := call_of_body mixed Tryz.func72 (by rw [e72]; exact h)


def an73 : Ann := (.q (.q (.n (.q (.h)) (.q .z))))
def g73 (t_1 : Option Addr) (dir_2 : Int) (K : KH) : H -> Prop :=
 callT Tryz.prog 138 [.pointer t_1, .int .i64 dir_2] kP (fun x3 => brW x3.isNone (K (.slice none 0 0)) (ptrW x3 (fun b4 o5 => rdT (rdC b4 (o5 + 5)) kM (fun (x6 : Option Nat) => callT Tryz.prog 139 [.map x6] kR (fun x7 => callT Tryz.prog 66 [x7] kL (fun x8 => K (.slice x8.base x8.len x8.cap)))))))
theorem e73 (t_1 : Option Addr) (dir_2 : Int) (K : KH) : bodyF Tryz.prog tau Tryz.f73 an73 [.pointer t_1, .int .i64 dir_2] K = g73 t_1 dir_2 K := by kernel_rfl
theorem c73 (t_1 : Option Addr) (dir_2 : Int) {K : KH} {σ : H} (h : g73 t_1 dir_2 K σ) : callW Tryz.prog 73 [.pointer t_1, .int .i64 dir_2] K σ := call_of_body mixed Tryz.func73 (by rw [e73]; exact h)


def an79 : Ann := (.q (.q .z))
def g79 (s_1 : ByteArray) (c_2 : Int) (K : KH) : H -> Prop :=
 cvalT Tryz.prog (.func (.func 143) ⟨[]⟩ ⟨[]⟩) [.string s_1, .int .u8 c_2] kI (fun (x3 : Int) => K (.int .i64 x3))
theorem e79 (s_1 : ByteArray) (c_2 : Int) (K : KH) : bodyF Tryz.prog tau Tryz.f79 an79 [.string s_1, .int .u8 c_2] K = g79 s_1 c_2 K := by kernel_rfl
theorem c79 (s_1 : ByteArray) (c_2 : Int) {K : KH} {σ : H} (h : g79 s_1 c_2 K σ) : callW Tryz.prog 79 [.string s_1, .int .u8 c_2] K σ := call_of_body mixed Tryz.func79 (by rw [e79]; exact h)


def an82 : Ann := (.q (.n (.seq (some [(1,.p),(21,.b)]) .r (.h)) (.q (.q .z))))
def g82 (q_1 : Int) (q_2 : Int) (K : KH) : H -> Prop :=
 alW (.cells ⟨[.int .i64 q_1, .int .i64 q_2]⟩ 64 (0, 0)) (fun b3 => letJ (T := Option Addr -> Bool -> H -> Prop) (fun q_5 x6 => brW x6 (K (.pointer none)) (alW (.map #[] 0) (fun b7 => alW (.cells ⟨[.int .i64 2, .int .i64 493, .string (⟨⟨[]⟩⟩ : ByteArray), .int .i64 1, .int .i64 1, .map (some b7)]⟩ 194 (0, 0)) (fun b8 => ptrW q_5 (fun b9 o10 => rdT (rdA 2 b9 o10) (.one (.agg [(.int .i64), (.int .i64)])) (fun (x11 : Int) (x12 : Int) => alW (.map #[] 0) (fun b13 =>
 muW Tryz.prog 198 (.map (some b13)) (.int .i64 1) (.pointer (some ⟨b8, 0, none⟩)) (alW (.cells ⟨[.int .i64 x11, .int .i64 x12, .int .i64 1, .int .i64 0, .map (some b13), .int .i64 1]⟩ 200 (0, 0)) (fun b14 => K (.pointer (some ⟨b14, 0, none⟩))))))))))) (fun j4 => rdT (rdC b3 0) kI (fun (x15 : Int) => brW (decide ((x15 : Int) < 1)) (j4 (some ⟨b3, 0, none⟩) true) (rdT (rdC b3 0) kI (fun (x16 : Int) => brW (decide ((x16 : Int) > 1048576)) (j4 (some ⟨b3, 0, none⟩) true)
 (rdT (rdC b3 1) kI (fun (x17 : Int) => brW (decide ((x17 : Int) < 0)) (j4 (some ⟨b3, 0, none⟩) true) (rdT (rdC b3 1) kI (fun (x18 : Int) => j4 (some ⟨b3, 0, none⟩) (decide ((x18 : Int) > 1073741824)))))))))))
theorem e82 (q_1 : Int) (q_2 : Int) (K : KH) : bodyF Tryz.prog tau Tryz.f82 an82 [.agg ⟨[.int .i64 q_1, .int .i64 q_2]⟩] K = g82 q_1 q_2 K := by kernel_rfl
theorem c82 (q_1 : Int) (q_2 : Int) {K : KH} {σ : H} (h : g82 q_1 q_2 K σ) : callW Tryz.prog 82 [.agg ⟨[.int .i64 q_1, .int .i64 q_2]⟩] K σ := call_of_body mixed Tryz.func82 (by rw [e82]; exact h)


def an87 : Ann := (.q (.q (.n (.q (.h)) (.q (.q (.seq (some [(4,.p),(7,.i),(8,.p)]) (.q (.cond .r .z)) (.q .z)))))))
def g87 (t_1 : Option Addr) (path_2 : ByteArray) (K : KH) : H -> Prop :=
 alW (.cells ⟨[.pointer t_1]⟩ 136 (0, 0)) (fun b3 => alW (.cells ⟨[.string path_2]⟩ 9 (0, 0)) (fun b4 => alW (.cells ⟨[.string (⟨⟨[]⟩⟩ : ByteArray), .int .i64 0, .bool false, .string (⟨⟨[]⟩⟩ : ByteArray), .slice none 0 0]⟩ 73 (0, 0)) (fun b5 => rdT (rdC b3 0) kP (fun x6 => rdT (rdC b4 0) kS (fun (x7 : ByteArray) =>
 callT Tryz.prog 15 [.pointer x6, .string (⟨⟨[47]⟩⟩ : ByteArray), .string x7, .bool false] (.tup [.agg [(.int .i64), (.int .i64), .str, (.int .i64)], .sc (.int .i64)]) (fun (x8 : Int) (x9 : Int) (x10 : ByteArray) (x11 : Int) (x12 : Int) => alW (.cells ⟨[.int .i64 0, .int .i64 0, .string (⟨⟨[]⟩⟩ : ByteArray), .int .i64 0]⟩ 35 (0, 0)) (fun b13 => stW Tryz.prog 35 (.pointer (some ⟨b13, 0, none⟩)) (.agg ⟨[.int .i64 x8, .int .i64 x9, .string x10, .int .i64 x11]⟩) (brW ((x12 : Int) != 0)
 (stW Tryz.prog 73 (.pointer (some ⟨b5, 0, none⟩)) (.agg ⟨[.string (⟨⟨[]⟩⟩ : ByteArray), .int .i64 0, .bool false, .string (⟨⟨[]⟩⟩ : ByteArray), .slice none 0 0]⟩) (rdT (rdA 5 b5 0) (.one (.agg [.str, (.int .i64), .bool, .str, .slc])) (fun (r14 : ByteArray) (r15 : Int) (r16 : Bool) (r17 : ByteArray) (r18 : Sl) => K (.tuple ⟨[.agg ⟨[.string r14, .int .i64 r15, .bool r16, .string r17, .slice r18.base r18.len r18.cap]⟩, .int .i64 x12]⟩)))) (rdT (rdC b13 0) kI (fun (x19 : Int) =>
 rdT (rdC b13 2) kS (fun (x20 : ByteArray) => alW (.cells ⟨[.string (⟨⟨[]⟩⟩ : ByteArray), .int .i64 0, .bool false, .string (⟨⟨[]⟩⟩ : ByteArray), .slice none 0 0]⟩ 73 (0, 0)) (fun b21 => stW Tryz.prog 73 (.pointer (some ⟨b21, 0, none⟩)) (.agg ⟨[.string (⟨⟨[]⟩⟩ : ByteArray), .int .i64 x19, .bool false, .string x20, .slice none 0 0]⟩) (alW (.map #[] 0) (fun b22 =>
 muW Tryz.prog 209 (.map (some b22)) (.int .i64 1) (.func (.func 151) ⟨[]⟩ ⟨[.pointer (some ⟨b13, 0, none⟩), .pointer (some ⟨b21, 0, none⟩)]⟩) (muW Tryz.prog 209 (.map (some b22)) (.int .i64 2) (.func (.func 152) ⟨[]⟩ ⟨[.pointer (some ⟨b3, 0, none⟩), .pointer (some ⟨b4, 0, none⟩), .pointer (some ⟨b21, 0, none⟩)]⟩) (rdT (rdC b13 0) kI (fun (x23 : Int) => rdT (rdM (.int .i64) (.nilFunc) true (some b22) (.int .i64 x23)) (.tup [.sc .raw, .sc .bool]) (fun x24 x25 =>
 letJ (T := Option Addr -> Int -> Option Addr -> H -> Prop) (fun x27 e_28 n_29 => ptrW n_29 (fun b30 o31 => rdT (rdA 5 b30 o31) (.one (.agg [.str, (.int .i64), .bool, .str, .slc])) (fun (x32 : ByteArray) (x33 : Int) (x34 : Bool) (x35 : ByteArray) (x36 : Sl) => stW Tryz.prog 73 (.pointer x27) (.agg ⟨[.string x32, .int .i64 x33, .bool x34, .string x35, .slice x36.base x36.len x36.cap]⟩) (ptrW x27 (fun b37 o38 =>
 rdT (rdA 5 b37 o38) (.one (.agg [.str, (.int .i64), .bool, .str, .slc])) (fun (r39 : ByteArray) (r40 : Int) (r41 : Bool) (r42 : ByteArray) (r43 : Sl) => K (.tuple ⟨[.agg ⟨[.string r39, .int .i64 r40, .bool r41, .string r42, .slice r43.base r43.len r43.cap]⟩, .int .i64 e_28]⟩))))))) (fun j26 => brW x25 (cvalT Tryz.prog x24 [] kI (fun (x44 : Int) => j26 (some ⟨b5, 0, none⟩) x44 (some ⟨b21, 0, none⟩))) (j26 (some ⟨b5, 0, none⟩) x12 (some ⟨b21, 0, none⟩)))))))))))))))))))))
theorem e87 (t_1 : Option Addr) (path_2 : ByteArray) (K : KH) : bodyF Tryz.prog tau Tryz.f87 an87 [.agg ⟨[.pointer t_1]⟩, .string path_2] K = g87 t_1 path_2 K := by kernel_rfl
theorem c87 (t_1 : Option Addr) (path_2 : ByteArray) {K : KH} {σ : H} (h : g87 t_1 path_2 K σ) : callW Tryz.prog 87 [.agg ⟨[.pointer t_1]⟩, .string path_2] K σ := call_of_body mixed Tryz.func87 (by rw [e87]; exact h)


def an88 : Ann := (.q (.n (.blk (.q (.cond (.q .z) (.seq (some [(1,.p),(8,.b)]) .r (.h))))) (.n (.q (.seq (some [(27,.b)]) .r (.h))) (.q .z))))
def g88 (n_1 : ByteArray) (n_2 : Int) (n_3 : Bool) (n_4 : ByteArray) (n_5 : Sl) (K : KH) : H -> Prop :=
 alW (.cells ⟨[.string n_1, .int .i64 n_2, .bool n_3, .string n_4, .slice n_5.base n_5.len n_5.cap]⟩ 73 (0, 0)) (fun b6 => rdT (rdA 5 b6 0) (.one (.agg [.str, (.int .i64), .bool, .str, .slc])) (fun (x7 : ByteArray) (x8 : Int) (x9 : Bool) (x10 : ByteArray) (x11 : Sl) => callT Tryz.prog 103 [.agg ⟨[.string x7, .int .i64 x8, .bool x9, .string x10, .slice x11.base x11.len x11.cap]⟩] kB (fun x12 => brW x12 (K (.int .i64 3)) (letJ (T := Option Addr -> Bool -> H -> Prop) (fun n_14 x15 => brW x15
 (K (.int .i64 2)) (ptrW n_14 (fun b16 o17 => rdT (rdA 5 b16 o17) (.one (.agg [.str, (.int .i64), .bool, .str, .slc])) (fun (x18 : ByteArray) (x19 : Int) (x20 : Bool) (x21 : ByteArray) (x22 : Sl) => callT Tryz.prog 118 [.agg ⟨[.string x18, .int .i64 x19, .bool x20, .string x21, .slice x22.base x22.len x22.cap]⟩] (.tup [.sc (.int .i64), .sc (.int .i64)]) (fun (x23 : Int) (x24 : Int) => letJ (T := Bool -> H -> Prop) (fun x26 => brW x26 (K (.int .i64 3)) (K (.int .i64 0))) (fun j25 =>
 brW (decide ((x23 : Int) > 2000)) (j25 true) (j25 (decide ((x24 : Int) > 100000))))))))) (fun j13 => rdT (rdC b6 0) kS (fun (x27 : ByteArray) => brW (!strEq x27 (⟨⟨[]⟩⟩ : ByteArray)) (j13 (some ⟨b6, 0, none⟩) true) (rdT (rdA 5 b6 0) (.one (.agg [.str, (.int .i64), .bool, .str, .slc])) (fun (x28 : ByteArray) (x29 : Int) (x30 : Bool) (x31 : ByteArray) (x32 : Sl) => callT Tryz.prog 154 [.agg ⟨[.string x28, .int .i64 x29, .bool x30, .string x31, .slice x32.base x32.len x32.cap]⟩] kB (fun x33 =>
 j13 (some ⟨b6, 0, none⟩) (!x33))))))))))
theorem e88 (n_1 : ByteArray) (n_2 : Int) (n_3 : Bool) (n_4 : ByteArray) (n_5 : Sl) (K : KH) : bodyF Tryz.prog tau Tryz.f88 an88 [.agg ⟨[.string n_1, .int .i64 n_2, .bool n_3, .string n_4, .slice n_5.base n_5.len n_5.cap]⟩] K = g88 n_1 n_2 n_3 n_4 n_5 K := by kernel_rfl
theorem c88 (n_1 : ByteArray) (n_2 : Int) (n_3 : Bool) (n_4 : ByteArray) (n_5 : Sl) {K : KH} {σ : H} (h : g88 n_1 n_2 n_3 n_4 n_5 K σ) : callW Tryz.prog 88 [.agg ⟨[.string n_1, .int .i64 n_2, .bool n_3, .string n_4, .slice n_5.base n_5.len n_5.cap]⟩] K σ := call_of_body mixed Tryz.func88 (by rw [e88]; exact h)


def an92 : Ann := (.q (.q .z))
def g92 (f_1 : Option Addr) (K : KH) : H -> Prop :=
 brW f_1.isNone (K (.bool true)) (ptrW f_1 (fun b2 o3 => rdT (rdC b2 o3) kP (fun x4 => K (.bool x4.isNone))))
theorem e92 (f_1 : Option Addr) (K : KH) : bodyF Tryz.prog tau Tryz.f92 an92 [.pointer f_1] K = g92 f_1 K := by kernel_rfl
theorem c92 (f_1 : Option Addr) {K : KH} {σ : H} (h : g92 f_1 K σ) : callW Tryz.prog 92 [.pointer f_1] K σ := call_of_body mixed Tryz.func92 (by rw [e92]; exact h)


def an94 : Ann := (.q (.q (.n (.blk (.q (.cond (.q .z) (.q (.h))))) (.q .z))))
def g94 (f_1 : Option Addr) (cwd_2 : ByteArray) (path_3 : ByteArray) (do_4 : Value) (K : KH) : H -> Prop :=
 callT Tryz.prog 98 [.pointer f_1, .string cwd_2, .string path_3, .bool false] (.tup [.agg [(.int .i64), .str, (.int .i64), .bool], .sc (.int .i64)]) (fun (x5 : Int) (x6 : ByteArray) (x7 : Int) (x8 : Bool) (x9 : Int) => alW (.cells ⟨[.int .i64 0, .string (⟨⟨[]⟩⟩ : ByteArray), .int .i64 0, .bool false]⟩ 142 (0, 0)) (fun b10 => stW Tryz.prog 142 (.pointer (some ⟨b10, 0, none⟩)) (.agg ⟨[.int .i64 x5, .string x6, .int .i64 x7, .bool x8]⟩) (brW ((x9 : Int) != 0) (K (.int .i64 x9))
 (rdT (rdC b10 3) kB (fun x11 => brW x11 (K (.int .i64 6)) (rdT (rdA 4 b10 0) (.one (.agg [(.int .i64), .str, (.int .i64), .bool])) (fun (x12 : Int) (x13 : ByteArray) (x14 : Int) (x15 : Bool) => cvalT Tryz.prog do_4 [.agg ⟨[.int .i64 x12, .string x13, .int .i64 x14, .bool x15]⟩] kI (fun (x16 : Int) => K (.int .i64 x16)))))))))
theorem e94 (f_1 : Option Addr) (cwd_2 : ByteArray) (path_3 : ByteArray) (do_4 : Value) (K : KH) : bodyF Tryz.prog tau Tryz.f94 an94 [.pointer f_1, .string cwd_2, .string path_3, do_4] K = g94 f_1 cwd_2 path_3 do_4 K := by kernel_rfl
theorem c94 (f_1 : Option Addr) (cwd_2 : ByteArray) (path_3 : ByteArray) (do_4 : Value) {K : KH} {σ : H} (h : g94 f_1 cwd_2 path_3 do_4 K σ) : callW Tryz.prog 94 [.pointer f_1, .string cwd_2, .string path_3, do_4] K σ := call_of_body mixed Tryz.func94 (by rw [e94]; exact h)


def an95 : Ann := (.q (.n (.reg (rn 15) [[],[0],[0,1],[0,1,2],[],[4],[],[6],[],(rn 9),(rn 10),(rn 11),(rn 11),(rn 12),(rn 14)]) (.q .z)))
def g95 (p_1 : Int) (p_2 : ByteArray) (p_3 : Int) (p_4 : Bool) (x5 : Option Addr) (x6 : Option Addr) (K : KH) : H -> Prop :=
 alW (.cells ⟨[.int .i64 p_1, .string p_2, .int .i64 p_3, .bool p_4]⟩ 142 (0, 0)) (fun b7 => ptrW x5 (fun b8 o9 => rdT (rdC b8 o9) kP (fun x10 => ptrW x10 (fun b11 o12 => rdT (rdC b11 o12) kP (fun x13 => rdT (rdC b7 0) kI (fun (x14 : Int) => rdT (rdC b7 1) kS (fun (x15 : ByteArray) => ptrW x6 (fun b16 o17 => rdT (rdC b16 o17) kS (fun (x18 : ByteArray) =>
 callT Tryz.prog 96 [.pointer x13, .int .i64 x14, .string x15, .int .i64 3, .int .i64 511, .string x18] (.tup [.sc (.int .i64), .sc (.int .i64)]) (fun (_x19 : Int) (x20 : Int) => K (.int .i64 x20)))))))))))
theorem e95 (p_1 : Int) (p_2 : ByteArray) (p_3 : Int) (p_4 : Bool) (x5 : Option Addr) (x6 : Option Addr) (K : KH) : bodyF Tryz.prog tau Tryz.f95 an95 [.agg ⟨[.int .i64 p_1, .string p_2, .int .i64 p_3, .bool p_4]⟩, .pointer x5, .pointer x6] K = g95 p_1 p_2 p_3 p_4 x5 x6 K := by kernel_rfl
theorem c95 (p_1 : Int) (p_2 : ByteArray) (p_3 : Int) (p_4 : Bool) (x5 : Option Addr) (x6 : Option Addr) {K : KH} {σ : H} (h : g95 p_1 p_2 p_3 p_4 x5 x6 K σ) : callW Tryz.prog 95 [.agg ⟨[.int .i64 p_1, .string p_2, .int .i64 p_3, .bool p_4]⟩, .pointer x5, .pointer x6] K σ := call_of_body mixed Tryz.func95 (by rw [e95]; exact h)


def an96 : Ann := (.q (.q (.n (.n (.reg [0,1,2,3,5,7,8,4,6,9,10,11,12,13,14,15] [[],[0],[],[],[2,3],[],[2,3,4,5],[],[],[],[],[2,3,4,5,6,8,9,10],[],(rn 13),(rn 14),(rn 15)]) (.q (.h))) (.q (.q (.seq (some [(1,.i),(2,.s),(6,.p),(11,.p),(16,.p)]) (.q (.cond .r .z)) (.n (.reg (rn 10) [[],[0],[0,1],[0,1,2],[],[4],[4,5],[4,5,6],[],(rn 9)]) (.n (.reg (rn 15) [[],[0],[0,1],[0,1,2],[],(rn 5),(rn 6),(rn 7),(rn 8),[],[],[10],[10,11],[10,11,12],(rn 14)]) (.q (.n (.reg (rn 12) [[],[0],[0,1],[0,1,2],(rn 4),[],[5],(rn 7),(rn 8),(rn 9),(rn 10),(rn 11)]) (.q .z)))))))))))
def g96 (t_1 : Option Addr) (dir_2 : Int) (name_3 : ByteArray) (kind_4 : Int) (mode_5 : Int) (data_6 : ByteArray) (K : KH) : H -> Prop :=
 alW (.cells ⟨[.pointer t_1]⟩ 108 (0, 0)) (fun b7 => alW (.cells ⟨[.int .i64 kind_4]⟩ 3 (0, 0)) (fun b8 => alW (.cells ⟨[.int .i64 mode_5]⟩ 3 (0, 0)) (fun b9 => alW (.cells ⟨[.string data_6]⟩ 9 (0, 0)) (fun b10 => rdT (rdC b7 0) kP (fun x11 => rdT (rdC b7 0) kP (fun x12 => rdT (rdC b7 0) kP (fun x13 => callT Tryz.prog 164 [.pointer x12, .int .i64 dir_2] kR (fun x14 => andW (fun σ => (rdC b7 0) σ = some (.pointer x13)) (andW (fun σ => (rdC b7 0) σ = some (.pointer x11))
 (callT Tryz.prog 165 [.string name_3] kR (fun x15 => andW (fun σ => (rdC b7 0) σ = some (.pointer x13)) (andW (fun σ => (rdC b7 0) σ = some (.pointer x11)) (callT Tryz.prog 166 [.pointer x13, .int .i64 dir_2, .string name_3] kR (fun x16 => andW (fun σ => (rdC b7 0) σ = some (.pointer x11)) (oneK x14 (oneK x15 (oneK x16
 (alW (.cells ⟨[.func (.func 163) ⟨[.pointer x11]⟩ ⟨[]⟩, x14, x15, .func (.func 160) ⟨[]⟩ ⟨[.pointer (some ⟨b10, 0, none⟩), .pointer (some ⟨b8, 0, none⟩), .pointer (some ⟨b9, 0, none⟩)]⟩, x16, .func (.func 167) ⟨[]⟩ ⟨[.pointer (some ⟨b7, 0, none⟩), .pointer (some ⟨b10, 0, none⟩)]⟩]⟩ 204 (0, 0)) (fun b17 => callT Tryz.prog 162 [.slice (some ⟨b17, 0, none⟩) 6 6] kI (fun (x18 : Int) => brW ((x18 : Int) != 0) (K (.tuple ⟨[.int .i64 0, .int .i64 x18]⟩)) (rdT (rdC b7 0) kP (fun x19 =>
 ptrW x19 (fun b20 o21 => rdT (rdC b20 (o21 + 5)) kI (fun (x22 : Int) => ptrW x19 (fun b23 o24 => stW Tryz.prog 3 (.pointer (some ⟨b23, o24 + 5, none⟩)) (.int .i64 (IntKind.i64.wrap (x22 + 1))) (rdT (rdC b8 0) kI (fun (x25 : Int) => rdT (rdC b9 0) kI (fun (x26 : Int) => rdT (rdC b10 0) kS (fun (x27 : ByteArray) => alW (.cells ⟨[.int .i64 x25, .int .i64 x26, .string x27, .int .i64 1, .int .i64 0, .map none]⟩ 194 (0, 0)) (fun b28 =>
 letJ (T := Int -> ByteArray -> Option Addr -> Option Addr -> Option Addr -> H -> Prop) (fun dir_30 name_31 t_32 data_33 n_34 => ptrW t_32 (fun b35 o36 => rdT (rdC b35 o36) kP (fun x37 => ptrW x37 (fun b38 o39 => rdT (rdC b38 (o39 + 4)) kM (fun (x40 : Option Nat) => ptrW t_32 (fun b41 o42 => rdT (rdC b41 o42) kP (fun x43 => ptrW x43 (fun b44 o45 => rdT (rdC b44 (o45 + 5)) kI (fun (x46 : Int) => muW Tryz.prog 198 (.map x40) (.int .i64 x46) (.pointer n_34) (ptrW t_32 (fun b47 o48 =>
 rdT (rdC b47 o48) kP (fun x49 => ptrW x49 (fun b50 o51 => rdT (rdC b50 (o51 + 4)) kM (fun (x52 : Option Nat) => rdT (rdM (.int .i64) (.pointer none) false x52 (.int .i64 dir_30)) kP (fun x53 => ptrW x53 (fun b54 o55 => rdT (rdC b54 (o55 + 5)) kM (fun (x56 : Option Nat) => ptrW t_32 (fun b57 o58 => rdT (rdC b57 o58) kP (fun x59 => ptrW x59 (fun b60 o61 => rdT (rdC b60 (o61 + 5)) kI (fun (x62 : Int) => muW Tryz.prog 192 (.map x56) (.string name_31) (.int .i64 x62) (ptrW t_32 (fun b63 o64 =>
 rdT (rdC b63 o64) kP (fun x65 => ptrW x65 (fun b66 o67 => rdT (rdC b66 (o67 + 2)) kI (fun (x68 : Int) => ptrW x65 (fun b69 o70 => stW Tryz.prog 3 (.pointer (some ⟨b69, o70 + 2, none⟩)) (.int .i64 (IntKind.i64.wrap (x68 + 1))) (ptrW t_32 (fun b71 o72 => rdT (rdC b71 o72) kP (fun x73 => ptrW x73 (fun b74 o75 => rdT (rdC b74 (o75 + 3)) kI (fun (x76 : Int) => ptrW data_33 (fun b77 o78 => rdT (rdC b77 o78) kS (fun (x79 : ByteArray) => ptrW x73 (fun b80 o81 =>
 stW Tryz.prog 3 (.pointer (some ⟨b80, o81 + 3, none⟩)) (.int .i64 (IntKind.i64.wrap (x76 + ((x79.size : Nat) : Int)))) (ptrW t_32 (fun b82 o83 => rdT (rdC b82 o83) kP (fun x84 => ptrW x84 (fun b85 o86 => rdT (rdC b85 (o86 + 5)) kI (fun (x87 : Int) => K (.tuple ⟨[.int .i64 x87, .int .i64 0]⟩))))))))))))))))))))))))))))))))))))))))) (fun j29 => rdT (rdC b8 0) kI (fun (x88 : Int) => brW ((x88 : Int) == 2) (alW (.map #[] 0) (fun b89 =>
 stW Tryz.prog 3 (.pointer (some ⟨b28, 4, none⟩)) (.int .i64 dir_2) (stW Tryz.prog 192 (.pointer (some ⟨b28, 5, none⟩)) (.map (some b89)) (j29 dir_2 name_3 (some ⟨b7, 0, none⟩) (some ⟨b10, 0, none⟩) (some ⟨b28, 0, none⟩))))) (j29 dir_2 name_3 (some ⟨b7, 0, none⟩) (some ⟨b10, 0, none⟩) (some ⟨b28, 0, none⟩))))))))))))))))))))))))))))))))))
theorem e96 (t_1 : Option Addr) (dir_2 : Int) (name_3 : ByteArray) (kind_4 : Int) (mode_5 : Int) (data_6 : ByteArray) (K : KH) : bodyF Tryz.prog tau Tryz.f96 an96 [.pointer t_1, .int .i64 dir_2, .string name_3, .int .i64 kind_4, .int .i64 mode_5, .string data_6] K = g96 t_1 dir_2 name_3 kind_4 mode_5 data_6 K := by kernel_rfl
theorem c96 (t_1 : Option Addr) (dir_2 : Int) (name_3 : ByteArray) (kind_4 : Int) (mode_5 : Int) (data_6 : ByteArray) {K : KH} {σ : H} (h : g96 t_1 dir_2 name_3 kind_4 mode_5 data_6 K σ) : callW Tryz.prog 96 [.pointer t_1, .int .i64 dir_2, .string name_3, .int .i64 kind_4, .int .i64 mode_5, .string data_6] K σ := call_of_body mixed Tryz.func96 (by rw [e96]; exact h)


def an98 : Ann := (.q (.n (.q (.h)) (.q (.n (.q (.h)) (.seq (some [(0,.p),(2,.s),(3,.b),(8,.p),(10,.i),(11,.p)]) (.q (.cond (.n (.q (.h)) (.q (.n (.blk (.q (.cond (.q .z) (.q (.cond (.q .z) (.q (.h))))))) .r))) .z)) (.q .z))))))
def g98 (f_1 : Option Addr) (cwd_2 : ByteArray) (path_3 : ByteArray) (follow_4 : Bool) (K : KH) : H -> Prop :=
 alW (.cells ⟨[.int .i64 0, .string (⟨⟨[]⟩⟩ : ByteArray), .int .i64 0, .bool false]⟩ 142 (0, 0)) (fun b5 => callT Tryz.prog 92 [.pointer f_1] kB (fun x6 => brW x6 (stW Tryz.prog 142 (.pointer (some ⟨b5, 0, none⟩)) (.agg ⟨[.int .i64 0, .string (⟨⟨[]⟩⟩ : ByteArray), .int .i64 0, .bool false]⟩) (rdT (rdA 4 b5 0) (.one (.agg [(.int .i64), .str, (.int .i64), .bool])) (fun (r7 : Int) (r8 : ByteArray) (r9 : Int) (r10 : Bool) =>
 K (.tuple ⟨[.agg ⟨[.int .i64 r7, .string r8, .int .i64 r9, .bool r10]⟩, .int .i64 1]⟩)))) (ptrW f_1 (fun b11 o12 => rdT (rdC b11 o12) kP (fun x13 => callT Tryz.prog 123 [.pointer x13] kI (fun (x14 : Int) => alW (.cells ⟨[.int .i64 0]⟩ 3 (0, 0)) (fun b15 => stW Tryz.prog 3 (.pointer (some ⟨b15, 0, none⟩)) (.int .i64 8) (brW (strEq path_3 (⟨⟨[]⟩⟩ : ByteArray))
 (stW Tryz.prog 142 (.pointer (some ⟨b5, 0, none⟩)) (.agg ⟨[.int .i64 0, .string (⟨⟨[]⟩⟩ : ByteArray), .int .i64 0, .bool false]⟩) (rdT (rdA 4 b5 0) (.one (.agg [(.int .i64), .str, (.int .i64), .bool])) (fun (r16 : Int) (r17 : ByteArray) (r18 : Int) (r19 : Bool) => K (.tuple ⟨[.agg ⟨[.int .i64 r16, .string r17, .int .i64 r18, .bool r19]⟩, .int .i64 5]⟩)))) (letJ (T := Option Addr -> ByteArray -> Bool -> Option Addr -> Int -> Option Addr -> H -> Prop) (fun f_21 path_22 follow_23 x24 at_25 hops_26 =>
 callT Tryz.prog 170 [.pointer f_21, .int .i64 at_25, .string path_22, .bool follow_23, .pointer hops_26] (.tup [.agg [(.int .i64), .str, (.int .i64), .bool], .sc (.int .i64)]) (fun (x27 : Int) (x28 : ByteArray) (x29 : Int) (x30 : Bool) (x31 : Int) => stW Tryz.prog 142 (.pointer x24) (.agg ⟨[.int .i64 x27, .string x28, .int .i64 x29, .bool x30]⟩) (ptrW x24 (fun b32 o33 =>
 rdT (rdA 4 b32 o33) (.one (.agg [(.int .i64), .str, (.int .i64), .bool])) (fun (r34 : Int) (r35 : ByteArray) (r36 : Int) (r37 : Bool) => K (.tuple ⟨[.agg ⟨[.int .i64 r34, .string r35, .int .i64 r36, .bool r37]⟩, .int .i64 x31]⟩)))))) (fun j20 => idxW path_3 0 (fun c38 => brW (((c38.toNat : Int) : Int) != 47) (callT Tryz.prog 106 [.string cwd_2, .string (⟨⟨[47]⟩⟩ : ByteArray)] kB (fun x39 => brW (!x39)
 (stW Tryz.prog 142 (.pointer (some ⟨b5, 0, none⟩)) (.agg ⟨[.int .i64 0, .string (⟨⟨[]⟩⟩ : ByteArray), .int .i64 0, .bool false]⟩) (rdT (rdA 4 b5 0) (.one (.agg [(.int .i64), .str, (.int .i64), .bool])) (fun (r40 : Int) (r41 : ByteArray) (r42 : Int) (r43 : Bool) => K (.tuple ⟨[.agg ⟨[.int .i64 r40, .string r41, .int .i64 r42, .bool r43]⟩, .int .i64 5]⟩))))
 (callT Tryz.prog 170 [.pointer f_1, .int .i64 x14, .string cwd_2, .bool true, .pointer (some ⟨b15, 0, none⟩)] (.tup [.agg [(.int .i64), .str, (.int .i64), .bool], .sc (.int .i64)]) (fun (x44 : Int) (x45 : ByteArray) (x46 : Int) (x47 : Bool) (x48 : Int) => alW (.cells ⟨[.int .i64 0, .string (⟨⟨[]⟩⟩ : ByteArray), .int .i64 0, .bool false]⟩ 142 (0, 0)) (fun b49 =>
 stW Tryz.prog 142 (.pointer (some ⟨b49, 0, none⟩)) (.agg ⟨[.int .i64 x44, .string x45, .int .i64 x46, .bool x47]⟩) (brW ((x48 : Int) != 0) (stW Tryz.prog 142 (.pointer (some ⟨b5, 0, none⟩)) (.agg ⟨[.int .i64 0, .string (⟨⟨[]⟩⟩ : ByteArray), .int .i64 0, .bool false]⟩) (rdT (rdA 4 b5 0) (.one (.agg [(.int .i64), .str, (.int .i64), .bool])) (fun (r50 : Int) (r51 : ByteArray) (r52 : Int) (r53 : Bool) => K (.tuple ⟨[.agg ⟨[.int .i64 r50, .string r51, .int .i64 r52, .bool r53]⟩, .int .i64 x48]⟩))))
 (rdT (rdC b49 3) kB (fun x54 => brW (!x54) (stW Tryz.prog 142 (.pointer (some ⟨b5, 0, none⟩)) (.agg ⟨[.int .i64 0, .string (⟨⟨[]⟩⟩ : ByteArray), .int .i64 0, .bool false]⟩) (rdT (rdA 4 b5 0) (.one (.agg [(.int .i64), .str, (.int .i64), .bool])) (fun (r55 : Int) (r56 : ByteArray) (r57 : Int) (r58 : Bool) => K (.tuple ⟨[.agg ⟨[.int .i64 r55, .string r56, .int .i64 r57, .bool r58]⟩, .int .i64 5]⟩)))) (rdT (rdC b49 2) kI (fun (x59 : Int) =>
 callT Tryz.prog 110 [.pointer f_1, .int .i64 x59] kI (fun (x60 : Int) => brW ((x60 : Int) != 2) (stW Tryz.prog 142 (.pointer (some ⟨b5, 0, none⟩)) (.agg ⟨[.int .i64 0, .string (⟨⟨[]⟩⟩ : ByteArray), .int .i64 0, .bool false]⟩) (rdT (rdA 4 b5 0) (.one (.agg [(.int .i64), .str, (.int .i64), .bool])) (fun (r61 : Int) (r62 : ByteArray) (r63 : Int) (r64 : Bool) => K (.tuple ⟨[.agg ⟨[.int .i64 r61, .string r62, .int .i64 r63, .bool r64]⟩, .int .i64 8]⟩)))) (rdT (rdC b49 2) kI (fun (x65 : Int) =>
 stW Tryz.prog 3 (.pointer (some ⟨b15, 0, none⟩)) (.int .i64 8) (j20 f_1 path_3 follow_4 (some ⟨b5, 0, none⟩) x65 (some ⟨b15, 0, none⟩))))))))))))))) (j20 f_1 path_3 follow_4 (some ⟨b5, 0, none⟩) x14 (some ⟨b15, 0, none⟩)))))))))))))
theorem e98 (f_1 : Option Addr) (cwd_2 : ByteArray) (path_3 : ByteArray) (follow_4 : Bool) (K : KH) : bodyF Tryz.prog tau Tryz.f98 an98 [.pointer f_1, .string cwd_2, .string path_3, .bool follow_4] K = g98 f_1 cwd_2 path_3 follow_4 K := by kernel_rfl
theorem c98 (f_1 : Option Addr) (cwd_2 : ByteArray) (path_3 : ByteArray) (follow_4 : Bool) {K : KH} {σ : H} (h : g98 f_1 cwd_2 path_3 follow_4 K σ) : callW Tryz.prog 98 [.pointer f_1, .string cwd_2, .string path_3, .bool follow_4] K σ := call_of_body mixed Tryz.func98 (by rw [e98]; exact h)


def an99 : Ann := (.q (.q (.n (.q (.h)) (.q .z))))
def g99 (t_1 : Option Addr) (ino_2 : Int) (K : KH) : H -> Prop :=
 alW (.cells ⟨[.int .i64 0, .int .i64 0, .string (⟨⟨[]⟩⟩ : ByteArray), .int .i64 0]⟩ 35 (0, 0)) (fun b3 => callT Tryz.prog 138 [.pointer t_1, .int .i64 ino_2] kP (fun x4 => brW x4.isNone (stW Tryz.prog 35 (.pointer (some ⟨b3, 0, none⟩)) (.agg ⟨[.int .i64 0, .int .i64 0, .string (⟨⟨[]⟩⟩ : ByteArray), .int .i64 0]⟩) (rdT (rdA 4 b3 0) (.one (.agg [(.int .i64), (.int .i64), .str, (.int .i64)])) (fun (r5 : Int) (r6 : Int) (r7 : ByteArray) (r8 : Int) =>
 K (.tuple ⟨[.agg ⟨[.int .i64 r5, .int .i64 r6, .string r7, .int .i64 r8]⟩, .bool false]⟩)))) (ptrW x4 (fun b9 o10 => rdT (rdA 4 b9 o10) (.one (.agg [(.int .i64), (.int .i64), .str, (.int .i64)])) (fun (x11 : Int) (x12 : Int) (x13 : ByteArray) (x14 : Int) =>
 stW Tryz.prog 35 (.pointer (some ⟨b3, 0, none⟩)) (.agg ⟨[.int .i64 x11, .int .i64 x12, .string x13, .int .i64 x14]⟩) (rdT (rdA 4 b3 0) (.one (.agg [(.int .i64), (.int .i64), .str, (.int .i64)])) (fun (r15 : Int) (r16 : Int) (r17 : ByteArray) (r18 : Int) => K (.tuple ⟨[.agg ⟨[.int .i64 r15, .int .i64 r16, .string r17, .int .i64 r18]⟩, .bool true]⟩))))))))
theorem e99 (t_1 : Option Addr) (ino_2 : Int) (K : KH) : bodyF Tryz.prog tau Tryz.f99 an99 [.pointer t_1, .int .i64 ino_2] K = g99 t_1 ino_2 K := by kernel_rfl
theorem c99 (t_1 : Option Addr) (ino_2 : Int) {K : KH} {σ : H} (h : g99 t_1 ino_2 K σ) : callW Tryz.prog 99 [.pointer t_1, .int .i64 ino_2] K σ := call_of_body mixed Tryz.func99 (by rw [e99]; exact h)


def an100 : Ann := (.q (.q (.n (.n (.reg (rn 9) [[],[0],[],[],[2,3],[],(rn 6),(rn 7),(rn 8)]) (.q (.h))) (.n (.reg (rn 7) [[],[0],[0,1],[0,1,2],[],(rn 5),(rn 6)]) (.n (.reg (rn 19) [[],[0],[0,1],[0,1,2],(rn 4),[],[5],[],[7],[7,8],[7,8,9],[7,8,9,10],[7,8,9,10,11],[5,6,7,8,9,10,11,12],(rn 14),(rn 15),(rn 16),(rn 17),(rn 18)]) (.q (.q .z)))))))
def g100 (t_1 : Option Addr) (ino_2 : Int) (data_3 : ByteArray) (K : KH) : H -> Prop :=
 alW (.cells ⟨[.pointer t_1]⟩ 108 (0, 0)) (fun b4 => alW (.cells ⟨[.int .i64 ino_2]⟩ 3 (0, 0)) (fun b5 => alW (.cells ⟨[.string data_3]⟩ 9 (0, 0)) (fun b6 => rdT (rdC b4 0) kP (fun x7 => rdT (rdC b4 0) kP (fun x8 => rdT (rdC b5 0) kI (fun (x9 : Int) => callT Tryz.prog 172 [.pointer x8, .int .i64 x9] kR (fun x10 => andW (fun σ => (rdC b4 0) σ = some (.pointer x7)) (oneK x10
 (alW (.cells ⟨[.func (.func 163) ⟨[.pointer x7]⟩ ⟨[]⟩, x10, .func (.func 171) ⟨[]⟩ ⟨[.pointer (some ⟨b4, 0, none⟩), .pointer (some ⟨b6, 0, none⟩), .pointer (some ⟨b5, 0, none⟩)]⟩]⟩ 204 (0, 0)) (fun b11 => callT Tryz.prog 162 [.slice (some ⟨b11, 0, none⟩) 3 3] kI (fun (x12 : Int) => brW ((x12 : Int) != 0) (K (.int .i64 x12)) (rdT (rdC b4 0) kP (fun x13 => ptrW x13 (fun b14 o15 => rdT (rdC b14 (o15 + 4)) kM (fun (x16 : Option Nat) => rdT (rdC b5 0) kI (fun (x17 : Int) =>
 rdT (rdM (.int .i64) (.pointer none) false x16 (.int .i64 x17)) kP (fun x18 => rdT (rdC b4 0) kP (fun x19 => ptrW x19 (fun b20 o21 => rdT (rdC b20 (o21 + 3)) kI (fun (x22 : Int) => rdT (rdC b6 0) kS (fun (x23 : ByteArray) => ptrW x18 (fun b24 o25 => rdT (rdC b24 (o25 + 2)) kS (fun (x26 : ByteArray) => ptrW x19 (fun b27 o28 =>
 stW Tryz.prog 3 (.pointer (some ⟨b27, o28 + 3, none⟩)) (.int .i64 (IntKind.i64.wrap (x22 + (IntKind.i64.wrap (((x23.size : Nat) : Int) - ((x26.size : Nat) : Int)))))) (rdT (rdC b6 0) kS (fun (x29 : ByteArray) => ptrW x18 (fun b30 o31 => stW Tryz.prog 9 (.pointer (some ⟨b30, o31 + 2, none⟩)) (.string x29) (K (.int .i64 0)))))))))))))))))))))))))))))
theorem e100 (t_1 : Option Addr) (ino_2 : Int) (data_3 : ByteArray) (K : KH) : bodyF Tryz.prog tau Tryz.f100 an100 [.pointer t_1, .int .i64 ino_2, .string data_3] K = g100 t_1 ino_2 data_3 K := by kernel_rfl
theorem c100 (t_1 : Option Addr) (ino_2 : Int) (data_3 : ByteArray) {K : KH} {σ : H} (h : g100 t_1 ino_2 data_3 K σ) : callW Tryz.prog 100 [.pointer t_1, .int .i64 ino_2, .string data_3] K σ := call_of_body mixed Tryz.func100 (by rw [e100]; exact h)


def an101 : Ann := (.q (.n (.q (.h)) (.n (.reg (rn 14) [[],[0],[0,1],[0,1,2],[],[4],[],[6],(rn 8),(rn 9),(rn 10),(rn 10),(rn 11),(rn 13)]) (.q .z))))
def g101 (p_1 : Int) (p_2 : ByteArray) (p_3 : Int) (p_4 : Bool) (x5 : Option Addr) (K : KH) : H -> Prop :=
 alW (.cells ⟨[.int .i64 p_1, .string p_2, .int .i64 p_3, .bool p_4]⟩ 142 (0, 0)) (fun b6 => ptrW x5 (fun b7 o8 => rdT (rdC b7 o8) kP (fun x9 => rdT (rdC b6 0) kI (fun (x10 : Int) => callT Tryz.prog 102 [.pointer x9, .int .i64 x10] kI (fun (x11 : Int) => brW (decide ((x11 : Int) >= 12)) (K (.int .i64 3)) (ptrW x5 (fun b12 o13 => rdT (rdC b12 o13) kP (fun x14 => ptrW x14 (fun b15 o16 => rdT (rdC b15 o16) kP (fun x17 => rdT (rdC b6 0) kI (fun (x18 : Int) =>
 rdT (rdC b6 1) kS (fun (x19 : ByteArray) => callT Tryz.prog 96 [.pointer x17, .int .i64 x18, .string x19, .int .i64 2, .int .i64 493, .string (⟨⟨[]⟩⟩ : ByteArray)] (.tup [.sc (.int .i64), .sc (.int .i64)]) (fun (_x20 : Int) (x21 : Int) => K (.int .i64 x21))))))))))))))
theorem e101 (p_1 : Int) (p_2 : ByteArray) (p_3 : Int) (p_4 : Bool) (x5 : Option Addr) (K : KH) : bodyF Tryz.prog tau Tryz.f101 an101 [.agg ⟨[.int .i64 p_1, .string p_2, .int .i64 p_3, .bool p_4]⟩, .pointer x5] K = g101 p_1 p_2 p_3 p_4 x5 K := by kernel_rfl
theorem c101 (p_1 : Int) (p_2 : ByteArray) (p_3 : Int) (p_4 : Bool) (x5 : Option Addr) {K : KH} {σ : H} (h : g101 p_1 p_2 p_3 p_4 x5 K σ) : callW Tryz.prog 101 [.agg ⟨[.int .i64 p_1, .string p_2, .int .i64 p_3, .bool p_4]⟩, .pointer x5] K σ := call_of_body mixed Tryz.func101 (by rw [e101]; exact h)


def an102 : Ann := (.q (.q (.n (.blk (.loop [(0,.p),(1,.i),(5,.i)] (.n (.q (.cond .z .z)) (.n (.blk .r) .r)))) (.q .z))))
def g102 (f_1 : Option Addr) (dir_2 : Int) (K : KH) : H -> Prop :=
 loopW [.sc .ptr, .sc (.int .i64), .sc (.int .i64)] (fun (R3 : Option Addr -> Int -> Int -> H -> Prop) => (fun (f_4 : Option Addr) (dir_5 : Int) (n_6 : Int) => ptrW f_4 (fun b7 o8 => rdT (rdC b7 o8) kP (fun x9 => callT Tryz.prog 123 [.pointer x9] kI (fun (x10 : Int) => brW ((dir_5 : Int) != x10) (ptrW f_4 (fun b11 o12 => rdT (rdC b11 o12) kP (fun x13 => callT Tryz.prog 124 [.pointer x13, .int .i64 dir_5] kI (fun (x14 : Int) => R3 f_4 x14 (IntKind.i64.wrap (n_6 + 1))))))
 (K (.int .i64 n_6))))))) (fun (R15 : Option Addr -> Int -> Int -> H -> Prop) => R15 f_1 dir_2 1)
theorem e102 (f_1 : Option Addr) (dir_2 : Int) (K : KH) : bodyF Tryz.prog tau Tryz.f102 an102 [.pointer f_1, .int .i64 dir_2] K = g102 f_1 dir_2 K := by kernel_rfl
theorem c102 (f_1 : Option Addr) (dir_2 : Int) {K : KH} {σ : H} (h : g102 f_1 dir_2 K σ) : callW Tryz.prog 102 [.pointer f_1, .int .i64 dir_2] K σ := call_of_body mixed Tryz.func102 (by rw [e102]; exact h)


def an103 : Ann := (.q (.q .z))
def g103 (n_1 : ByteArray) (n_2 : Int) (n_3 : Bool) (n_4 : ByteArray) (n_5 : Sl) (K : KH) : H -> Prop :=
 alW (.cells ⟨[.string n_1, .int .i64 n_2, .bool n_3, .string n_4, .slice n_5.base n_5.len n_5.cap]⟩ 73 (0, 0)) (fun b6 => rdT (rdA 5 b6 0) (.one (.agg [.str, (.int .i64), .bool, .str, .slc])) (fun (x7 : ByteArray) (x8 : Int) (x9 : Bool) (x10 : ByteArray) (x11 : Sl) => callT Tryz.prog 173 [.agg ⟨[.string x7, .int .i64 x8, .bool x9, .string x10, .slice x11.base x11.len x11.cap]⟩] kI (fun (x12 : Int) => K (.bool (decide ((x12 : Int) > 12))))))
theorem e103 (n_1 : ByteArray) (n_2 : Int) (n_3 : Bool) (n_4 : ByteArray) (n_5 : Sl) (K : KH) : bodyF Tryz.prog tau Tryz.f103 an103 [.agg ⟨[.string n_1, .int .i64 n_2, .bool n_3, .string n_4, .slice n_5.base n_5.len n_5.cap]⟩] K = g103 n_1 n_2 n_3 n_4 n_5 K := by kernel_rfl
theorem c103 (n_1 : ByteArray) (n_2 : Int) (n_3 : Bool) (n_4 : ByteArray) (n_5 : Sl) {K : KH} {σ : H} (h : g103 n_1 n_2 n_3 n_4 n_5 K σ) : callW Tryz.prog 103 [.agg ⟨[.string n_1, .int .i64 n_2, .bool n_3, .string n_4, .slice n_5.base n_5.len n_5.cap]⟩] K σ := call_of_body mixed Tryz.func103 (by rw [e103]; exact h)


def an104 : Ann := (.q (.n (.q (.h)) (.n (.q (.blk (.loop [(1,.l),(2,.w),(15,.l),(16,.i),(17,.i)] (.q (.n (.cond .z .z) (.n (.blk (.q (.q (.q (.h))))) .r)))))) (.q .z))))
def g104 (s1_1 : Sl) (s2_2 : Sl) (eq_3 : Value) (K : KH) : H -> Prop :=
 brW ((((s1_1.len : Nat) : Int) : Int) != ((s2_2.len : Nat) : Int)) (K (.bool false)) (loopW [.sc .slc, .sc .raw, .sc .slc, .sc (.int .i64), .sc (.int .i64)] (fun (R4 : Sl -> Value -> Sl -> Int -> Int -> H -> Prop) => (fun (s2_5 : Sl) (eq_6 : Value) (x7 : Sl) (x8 : Int) (x9 : Int) => brW (decide ((x9 : Int) < x8)) (ptrW x7.base (fun b10 o11 => ifW (0 <= x9 /\ x9 < ((x7.len : Nat) : Int))
 (rdT (rdA 5 b10 (o11 + x9.toNat * 5)) (.one (.agg [.str, (.int .i64), .bool, .str, .slc])) (fun (x12 : ByteArray) (x13 : Int) (x14 : Bool) (x15 : ByteArray) (x16 : Sl) => alW (.cells ⟨[.string (⟨⟨[]⟩⟩ : ByteArray), .int .i64 0, .bool false, .string (⟨⟨[]⟩⟩ : ByteArray), .slice none 0 0]⟩ 73 (0, 0)) (fun b17 => stW Tryz.prog 73 (.pointer (some ⟨b17, 0, none⟩)) (.agg ⟨[.string x12, .int .i64 x13, .bool x14, .string x15, .slice x16.base x16.len x16.cap]⟩) (ptrW s2_5.base (fun b18 o19 =>
 ifW (0 <= x9 /\ x9 < ((s2_5.len : Nat) : Int)) (rdT (rdA 5 b18 (o19 + x9.toNat * 5)) (.one (.agg [.str, (.int .i64), .bool, .str, .slc])) (fun (x20 : ByteArray) (x21 : Int) (x22 : Bool) (x23 : ByteArray) (x24 : Sl) => alW (.cells ⟨[.string (⟨⟨[]⟩⟩ : ByteArray), .int .i64 0, .bool false, .string (⟨⟨[]⟩⟩ : ByteArray), .slice none 0 0]⟩ 73 (0, 0)) (fun b25 =>
 stW Tryz.prog 73 (.pointer (some ⟨b25, 0, none⟩)) (.agg ⟨[.string x20, .int .i64 x21, .bool x22, .string x23, .slice x24.base x24.len x24.cap]⟩) (rdT (rdA 5 b17 0) (.one (.agg [.str, (.int .i64), .bool, .str, .slc])) (fun (x26 : ByteArray) (x27 : Int) (x28 : Bool) (x29 : ByteArray) (x30 : Sl) => rdT (rdA 5 b25 0) (.one (.agg [.str, (.int .i64), .bool, .str, .slc])) (fun (x31 : ByteArray) (x32 : Int) (x33 : Bool) (x34 : ByteArray) (x35 : Sl) =>
 cvalT Tryz.prog eq_6 [.agg ⟨[.string x26, .int .i64 x27, .bool x28, .string x29, .slice x30.base x30.len x30.cap]⟩, .agg ⟨[.string x31, .int .i64 x32, .bool x33, .string x34, .slice x35.base x35.len x35.cap]⟩] kB (fun x36 => brW (!x36) (K (.bool false)) (R4 s2_5 eq_6 x7 x8 (IntKind.i64.wrap (x9 + 1))))))))))))))))) (K (.bool true)))) (fun (R37 : Sl -> Value -> Sl -> Int -> Int -> H -> Prop) => R37 s2_2 eq_3 s1_1 ((s1_1.len : Nat) : Int) 0))
theorem e104 (s1_1 : Sl) (s2_2 : Sl) (eq_3 : Value) (K : KH) : bodyF Tryz.prog tau Tryz.f104 an104 [.slice s1_1.base s1_1.len s1_1.cap, .slice s2_2.base s2_2.len s2_2.cap, eq_3] K = g104 s1_1 s2_2 eq_3 K := by kernel_rfl
theorem c104 (s1_1 : Sl) (s2_2 : Sl) (eq_3 : Value) {K : KH} {σ : H} (h : g104 s1_1 s2_2 eq_3 K σ) : callW Tryz.prog 104 [.slice s1_1.base s1_1.len s1_1.cap, .slice s2_2.base s2_2.len s2_2.cap, eq_3] K σ := call_of_body mixed Tryz.func104 (by rw [e104]; exact h)


def an106 : Ann := (.q (.q .z))
def g106 (s_1 : ByteArray) (prefix_2 : ByteArray) (K : KH) : H -> Prop :=
 callT Tryz.prog 176 [.string s_1, .string prefix_2] kB (fun x3 => K (.bool x3))
theorem e106 (s_1 : ByteArray) (prefix_2 : ByteArray) (K : KH) : bodyF Tryz.prog tau Tryz.f106 an106 [.string s_1, .string prefix_2] K = g106 s_1 prefix_2 K := by kernel_rfl
theorem c106 (s_1 : ByteArray) (prefix_2 : ByteArray) {K : KH} {σ : H} (h : g106 s_1 prefix_2 K σ) : callW Tryz.prog 106 [.string s_1, .string prefix_2] K σ := call_of_body mixed Tryz.func106 (by rw [e106]; exact h)

end Go.Proofs.YtbjbeajbckcecaaGreatDoor

set_option maxRecDepth 100000
namespace Go.Proofs.YtbjbeajbckcecaaGreatDoor
open Go Go.HL
def an109 : Ann := (.q (.seq (some [(8,.p),(9,.p),(10,.i)]) (.q (.q (.cond .r .z))) (.n (.reg (rn 6) [[],[],[],[0],[0,1,3],(rn 5)]) .z)))
def g109 (f_1 : Option Addr) (cwd_2 : ByteArray) (from_3 : ByteArray) (to_4 : ByteArray) (K : KH) : H -> Prop :=
 alW (.cells ⟨[.int .i64 0, .string (⟨⟨[]⟩⟩ : ByteArray), .int .i64 0, .bool false]⟩ 142 (0, 0)) (fun b5 => alW (.cells ⟨[.int .i64 0, .string (⟨⟨[]⟩⟩ : ByteArray), .int .i64 0, .bool false]⟩ 142 (0, 0)) (fun b6 => letJ (T := Option Addr -> Option Addr -> Int -> H -> Prop) (fun p_8 q_9 e_10 => ptrW p_8 (fun b11 o12 => rdT (rdA 4 b11 o12) (.one (.agg [(.int .i64), .str, (.int .i64), .bool])) (fun (x13 : Int) (x14 : ByteArray) (x15 : Int) (x16 : Bool) => ptrW q_9 (fun b17 o18 =>
 rdT (rdA 4 b17 o18) (.one (.agg [(.int .i64), .str, (.int .i64), .bool])) (fun (x19 : Int) (x20 : ByteArray) (x21 : Int) (x22 : Bool) => stW Tryz.prog 142 (.pointer p_8) (.agg ⟨[.int .i64 x13, .string x14, .int .i64 x15, .bool x16]⟩) (andW (fun σ => (rdA 4 b17 o18) σ = some (.agg ⟨[.int .i64 x19, .string x20, .int .i64 x21, .bool x22]⟩)) (stW Tryz.prog 142 (.pointer q_9) (.agg ⟨[.int .i64 x19, .string x20, .int .i64 x21, .bool x22]⟩) (ptrW p_8 (fun b23 o24 =>
 rdT (rdA 4 b23 o24) (.one (.agg [(.int .i64), .str, (.int .i64), .bool])) (fun (r25 : Int) (r26 : ByteArray) (r27 : Int) (r28 : Bool) => ptrW q_9 (fun b29 o30 => rdT (rdA 4 b29 o30) (.one (.agg [(.int .i64), .str, (.int .i64), .bool])) (fun (r31 : Int) (r32 : ByteArray) (r33 : Int) (r34 : Bool) => K (.tuple ⟨[.agg ⟨[.int .i64 r25, .string r26, .int .i64 r27, .bool r28]⟩, .agg ⟨[.int .i64 r31, .string r32, .int .i64 r33, .bool r34]⟩, .int .i64 e_10]⟩))))))))))))) (fun j7 =>
 callT Tryz.prog 98 [.pointer f_1, .string cwd_2, .string from_3, .bool false] (.tup [.agg [(.int .i64), .str, (.int .i64), .bool], .sc (.int .i64)]) (fun (x35 : Int) (x36 : ByteArray) (x37 : Int) (x38 : Bool) (x39 : Int) => stW Tryz.prog 142 (.pointer (some ⟨b5, 0, none⟩)) (.agg ⟨[.int .i64 x35, .string x36, .int .i64 x37, .bool x38]⟩) (brW ((x39 : Int) == 0)
 (callT Tryz.prog 98 [.pointer f_1, .string cwd_2, .string to_4, .bool false] (.tup [.agg [(.int .i64), .str, (.int .i64), .bool], .sc (.int .i64)]) (fun (x40 : Int) (x41 : ByteArray) (x42 : Int) (x43 : Bool) (x44 : Int) => stW Tryz.prog 142 (.pointer (some ⟨b6, 0, none⟩)) (.agg ⟨[.int .i64 x40, .string x41, .int .i64 x42, .bool x43]⟩) (j7 (some ⟨b5, 0, none⟩) (some ⟨b6, 0, none⟩) x44))) (j7 (some ⟨b5, 0, none⟩) (some ⟨b6, 0, none⟩) x39))))))
theorem e109 (f_1 : Option Addr) (cwd_2 : ByteArray) (from_3 : ByteArray) (to_4 : ByteArray) (K : KH) : bodyF Tryz.prog tau Tryz.f109 an109 [.pointer f_1, .string cwd_2, .string from_3, .string to_4] K = g109 f_1 cwd_2 from_3 to_4 K := by kernel_rfl
theorem c109 (f_1 : Option Addr) (cwd_2 : ByteArray) (from_3 : ByteArray) (to_4 : ByteArray) {K : KH} {σ : H} (h : g109 f_1 cwd_2 from_3 to_4 K σ) : callW Tryz.prog 109 [.pointer f_1, .string cwd_2, .string from_3, .string to_4] K σ := call_of_body mixed Tryz.func109 (by rw [e109]; exact h)


def an110 : Ann := (.q (.q (.q .z)))
def g110 (f_1 : Option Addr) (ino_2 : Int) (K : KH) : H -> Prop :=
 ptrW f_1 (fun b3 o4 => rdT (rdC b3 o4) kP (fun x5 => callT Tryz.prog 99 [.pointer x5, .int .i64 ino_2] (.tup [.agg [(.int .i64), (.int .i64), .str, (.int .i64)], .sc .bool]) (fun (x6 : Int) (x7 : Int) (x8 : ByteArray) (x9 : Int) (_x10 : Bool) => alW (.cells ⟨[.int .i64 0, .int .i64 0, .string (⟨⟨[]⟩⟩ : ByteArray), .int .i64 0]⟩ 35 (0, 0)) (fun b11 =>
 stW Tryz.prog 35 (.pointer (some ⟨b11, 0, none⟩)) (.agg ⟨[.int .i64 x6, .int .i64 x7, .string x8, .int .i64 x9]⟩) (rdT (rdC b11 0) kI (fun (x12 : Int) => K (.int .i64 x12)))))))
theorem e110 (f_1 : Option Addr) (ino_2 : Int) (K : KH) : bodyF Tryz.prog tau Tryz.f110 an110 [.pointer f_1, .int .i64 ino_2] K = g110 f_1 ino_2 K := by kernel_rfl
theorem c110 (f_1 : Option Addr) (ino_2 : Int) {K : KH} {σ : H} (h : g110 f_1 ino_2 K σ) : callW Tryz.prog 110 [.pointer f_1, .int .i64 ino_2] K σ := call_of_body mixed Tryz.func110 (by rw [e110]; exact h)


def an111 : Ann := (.q (.n (.q (.q (.h))) (.q (.q (.q .z)))))
def g111 (t_1 : Option Addr) (dir_2 : Int) (name_3 : ByteArray) (ino_4 : Int) (K : KH) : H -> Prop :=
 callT Tryz.prog 164 [.pointer t_1, .int .i64 dir_2] kR (fun x5 => callT Tryz.prog 165 [.string name_3] kR (fun x6 => callT Tryz.prog 172 [.pointer t_1, .int .i64 ino_4] kR (fun x7 => callT Tryz.prog 166 [.pointer t_1, .int .i64 dir_2, .string name_3] kR (fun x8 => oneK x5 (oneK x6 (oneK x7 (oneK x8 (alW (.cells ⟨[.func (.func 163) ⟨[.pointer t_1]⟩ ⟨[]⟩, x5, x6, x7, x8]⟩ 204 (0, 0)) (fun b9 => callT Tryz.prog 162 [.slice (some ⟨b9, 0, none⟩) 5 5] kI (fun (x10 : Int) => brW ((x10 : Int) != 0)
 (K (.int .i64 x10)) (ptrW t_1 (fun b11 o12 => rdT (rdC b11 (o12 + 4)) kM (fun (x13 : Option Nat) => rdT (rdM (.int .i64) (.pointer none) false x13 (.int .i64 dir_2)) kP (fun x14 => ptrW x14 (fun b15 o16 => rdT (rdC b15 (o16 + 5)) kM (fun (x17 : Option Nat) => muW Tryz.prog 192 (.map x17) (.string name_3) (.int .i64 ino_4) (ptrW t_1 (fun b18 o19 => rdT (rdC b18 (o19 + 4)) kM (fun (x20 : Option Nat) => rdT (rdM (.int .i64) (.pointer none) false x20 (.int .i64 ino_4)) kP (fun x21 =>
 ptrW x21 (fun b22 o23 => rdT (rdC b22 (o23 + 3)) kI (fun (x24 : Int) => ptrW x21 (fun b25 o26 => stW Tryz.prog 3 (.pointer (some ⟨b25, o26 + 3, none⟩)) (.int .i64 (IntKind.i64.wrap (x24 + 1))) (K (.int .i64 0)))))))))))))))))))))))))
theorem e111 (t_1 : Option Addr) (dir_2 : Int) (name_3 : ByteArray) (ino_4 : Int) (K : KH) : bodyF Tryz.prog tau Tryz.f111 an111 [.pointer t_1, .int .i64 dir_2, .string name_3, .int .i64 ino_4] K = g111 t_1 dir_2 name_3 ino_4 K := by kernel_rfl
theorem c111 (t_1 : Option Addr) (dir_2 : Int) (name_3 : ByteArray) (ino_4 : Int) {K : KH} {σ : H} (h : g111 t_1 dir_2 name_3 ino_4 K σ) : callW Tryz.prog 111 [.pointer t_1, .int .i64 dir_2, .string name_3, .int .i64 ino_4] K σ := call_of_body mixed Tryz.func111 (by rw [e111]; exact h)


def an115 : Ann := (.q (.n (.reg (rn 8) [[],[0],[0,1],[0,1,2],[],[],(rn 6),(rn 7)]) .z))
def g115 (ino_1 : Int) (__2 : Int) (__3 : Int) (__4 : ByteArray) (__5 : Int) (x6 : Option Addr) (x7 : Option Addr) (K : KH) : H -> Prop :=
 alW (.cells ⟨[.int .i64 __2, .int .i64 __3, .string __4, .int .i64 __5]⟩ 35 (0, 0)) (fun _b8 => ptrW x6 (fun b9 o10 => rdT (rdC b9 o10) kP (fun x11 => ptrW x11 (fun b12 o13 => rdT (rdC b12 o13) kP (fun x14 => ptrW x7 (fun b15 o16 => rdT (rdC b15 o16) kI (fun (x17 : Int) => callT Tryz.prog 116 [.pointer x14, .int .i64 ino_1, .int .i64 x17] kI (fun (x18 : Int) => K (.int .i64 x18)))))))))
theorem e115 (ino_1 : Int) (__2 : Int) (__3 : Int) (__4 : ByteArray) (__5 : Int) (x6 : Option Addr) (x7 : Option Addr) (K : KH) : bodyF Tryz.prog tau Tryz.f115 an115 [.int .i64 ino_1, .agg ⟨[.int .i64 __2, .int .i64 __3, .string __4, .int .i64 __5]⟩, .pointer x6, .pointer x7] K = g115 ino_1 __2 __3 __4 __5 x6 x7 K := by kernel_rfl
theorem c115 (ino_1 : Int) (__2 : Int) (__3 : Int) (__4 : ByteArray) (__5 : Int) (x6 : Option Addr) (x7 : Option Addr) {K : KH} {σ : H} (h : g115 ino_1 __2 __3 __4 __5 x6 x7 K σ) : callW Tryz.prog 115 [.int .i64 ino_1, .agg ⟨[.int .i64 __2, .int .i64 __3, .string __4, .int .i64 __5]⟩, .pointer x6, .pointer x7] K σ := call_of_body mixed Tryz.func115 (by rw [e115]; exact h)


def an116 : Ann := (.q (.q (.q (.n (.q (.q (.h))) (.n (.reg (rn 11) [[],[0],[0,1],[0,1,2],[],(rn 5),[],(rn 7),(rn 8),(rn 9),(rn 10)]) (.q .z))))))
def g116 (t_1 : Option Addr) (ino_2 : Int) (mode_3 : Int) (K : KH) : H -> Prop :=
 alW (.cells ⟨[.pointer t_1]⟩ 108 (0, 0)) (fun b4 => alW (.cells ⟨[.int .i64 ino_2]⟩ 3 (0, 0)) (fun b5 => alW (.cells ⟨[.int .i64 mode_3]⟩ 3 (0, 0)) (fun b6 => rdT (rdC b4 0) kP (fun x7 => alW (.cells ⟨[.func (.func 163) ⟨[.pointer x7]⟩ ⟨[]⟩, .func (.func 182) ⟨[]⟩ ⟨[.pointer (some ⟨b6, 0, none⟩)]⟩, .func (.func 183) ⟨[]⟩ ⟨[.pointer (some ⟨b4, 0, none⟩), .pointer (some ⟨b5, 0, none⟩)]⟩]⟩ 204 (0, 0)) (fun b8 => callT Tryz.prog 162 [.slice (some ⟨b8, 0, none⟩) 3 3] kI (fun (x9 : Int) =>
 brW ((x9 : Int) != 0) (K (.int .i64 x9)) (rdT (rdC b4 0) kP (fun x10 => ptrW x10 (fun b11 o12 => rdT (rdC b11 (o12 + 4)) kM (fun (x13 : Option Nat) => rdT (rdC b5 0) kI (fun (x14 : Int) => rdT (rdM (.int .i64) (.pointer none) false x13 (.int .i64 x14)) kP (fun x15 => rdT (rdC b6 0) kI (fun (x16 : Int) => ptrW x15 (fun b17 o18 => stW Tryz.prog 3 (.pointer (some ⟨b17, o18 + 1, none⟩)) (.int .i64 x16) (K (.int .i64 0))))))))))))))))
theorem e116 (t_1 : Option Addr) (ino_2 : Int) (mode_3 : Int) (K : KH) : bodyF Tryz.prog tau Tryz.f116 an116 [.pointer t_1, .int .i64 ino_2, .int .i64 mode_3] K = g116 t_1 ino_2 mode_3 K := by kernel_rfl
theorem c116 (t_1 : Option Addr) (ino_2 : Int) (mode_3 : Int) {K : KH} {σ : H} (h : g116 t_1 ino_2 mode_3 K σ) : callW Tryz.prog 116 [.pointer t_1, .int .i64 ino_2, .int .i64 mode_3] K σ := call_of_body mixed Tryz.func116 (by rw [e116]; exact h)


def an118 : Ann := (.q (.n (.q (.h)) (.q .z)))
def g118 (n_1 : ByteArray) (n_2 : Int) (n_3 : Bool) (n_4 : ByteArray) (n_5 : Sl) (K : KH) : H -> Prop :=
 alW (.cells ⟨[.string n_1, .int .i64 n_2, .bool n_3, .string n_4, .slice n_5.base n_5.len n_5.cap]⟩ 73 (0, 0)) (fun b6 => rdT (rdA 5 b6 0) (.one (.agg [.str, (.int .i64), .bool, .str, .slc])) (fun (x7 : ByteArray) (x8 : Int) (x9 : Bool) (x10 : ByteArray) (x11 : Sl) => callT Tryz.prog 103 [.agg ⟨[.string x7, .int .i64 x8, .bool x9, .string x10, .slice x11.base x11.len x11.cap]⟩] kB (fun x12 => brW x12 (K (.tuple ⟨[.int .i64 0, .int .i64 0]⟩))
 (rdT (rdA 5 b6 0) (.one (.agg [.str, (.int .i64), .bool, .str, .slc])) (fun (x13 : ByteArray) (x14 : Int) (x15 : Bool) (x16 : ByteArray) (x17 : Sl) => callT Tryz.prog 184 [.agg ⟨[.string x13, .int .i64 x14, .bool x15, .string x16, .slice x17.base x17.len x17.cap]⟩] (.tup [.sc (.int .i64), .sc (.int .i64)]) (fun (x18 : Int) (x19 : Int) => K (.tuple ⟨[.int .i64 x18, .int .i64 x19]⟩)))))))
theorem e118 (n_1 : ByteArray) (n_2 : Int) (n_3 : Bool) (n_4 : ByteArray) (n_5 : Sl) (K : KH) : bodyF Tryz.prog tau Tryz.f118 an118 [.agg ⟨[.string n_1, .int .i64 n_2, .bool n_3, .string n_4, .slice n_5.base n_5.len n_5.cap]⟩] K = g118 n_1 n_2 n_3 n_4 n_5 K := by kernel_rfl
theorem c118 (n_1 : ByteArray) (n_2 : Int) (n_3 : Bool) (n_4 : ByteArray) (n_5 : Sl) {K : KH} {σ : H} (h : g118 n_1 n_2 n_3 n_4 n_5 K σ) : callW Tryz.prog 118 [.agg ⟨[.string n_1, .int .i64 n_2, .bool n_3, .string n_4, .slice n_5.base n_5.len n_5.cap]⟩] K σ := call_of_body mixed Tryz.func118 (by rw [e118]; exact h)


def an123 : Ann := (.q (.n (.q (.h)) (.q .z)))
def g123 (t_1 : Option Addr) (K : KH) : H -> Prop :=
 brW t_1.isNone (K (.int .i64 0)) (K (.int .i64 1))
theorem e123 (t_1 : Option Addr) (K : KH) : bodyF Tryz.prog tau Tryz.f123 an123 [.pointer t_1] K = g123 t_1 K := by kernel_rfl
theorem c123 (t_1 : Option Addr) {K : KH} {σ : H} (h : g123 t_1 K σ) : callW Tryz.prog 123 [.pointer t_1] K σ := call_of_body mixed Tryz.func123 (by rw [e123]; exact h)


def an124 : Ann := (.q (.q (.n (.q (.h)) (.q .z))))
def g124 (t_1 : Option Addr) (dir_2 : Int) (K : KH) : H -> Prop :=
 callT Tryz.prog 138 [.pointer t_1, .int .i64 dir_2] kP (fun x3 => brW x3.isNone (K (.int .i64 0)) (ptrW x3 (fun b4 o5 => rdT (rdC b4 (o5 + 4)) kI (fun (x6 : Int) => K (.int .i64 x6)))))
theorem e124 (t_1 : Option Addr) (dir_2 : Int) (K : KH) : bodyF Tryz.prog tau Tryz.f124 an124 [.pointer t_1, .int .i64 dir_2] K = g124 t_1 dir_2 K := by kernel_rfl
theorem c124 (t_1 : Option Addr) (dir_2 : Int) {K : KH} {σ : H} (h : g124 t_1 dir_2 K σ) : callW Tryz.prog 124 [.pointer t_1, .int .i64 dir_2] K σ := call_of_body mixed Tryz.func124 (by rw [e124]; exact h)


def an125 : Ann := (.q (.q (.n (.q (.h)) (.q (.q .z)))))
def g125 (t_1 : Option Addr) (dir_2 : Int) (name_3 : ByteArray) (K : KH) : H -> Prop :=
 callT Tryz.prog 138 [.pointer t_1, .int .i64 dir_2] kP (fun x4 => brW x4.isNone (K (.tuple ⟨[.int .i64 0, .bool false]⟩)) (ptrW x4 (fun b5 o6 => rdT (rdC b5 (o6 + 5)) kM (fun (x7 : Option Nat) => rdT (rdM .string (.int .i64 0) true x7 (.string name_3)) (.tup [.sc (.int .i64), .sc .bool]) (fun (x8 : Int) (x9 : Bool) => K (.tuple ⟨[.int .i64 x8, .bool x9]⟩))))))
theorem e125 (t_1 : Option Addr) (dir_2 : Int) (name_3 : ByteArray) (K : KH) : bodyF Tryz.prog tau Tryz.f125 an125 [.pointer t_1, .int .i64 dir_2, .string name_3] K = g125 t_1 dir_2 name_3 K := by kernel_rfl
theorem c125 (t_1 : Option Addr) (dir_2 : Int) (name_3 : ByteArray) {K : KH} {σ : H} (h : g125 t_1 dir_2 name_3 K σ) : callW Tryz.prog 125 [.pointer t_1, .int .i64 dir_2, .string name_3] K σ := call_of_body mixed Tryz.func125 (by rw [e125]; exact h)


def an137 : Ann := (.q (.q (.n (.blk (.seq (some [(0,.s),(1,.s),(5,.i),(16,.b)]) .r (.cond (.q .z) (.q (.cond (.q .z) (.q (.cond (.q .z) (.seq (some [(0,.s),(1,.s),(5,.i),(36,.b)]) .r (.h))))))))) (.q (.q (.q (.q (.q (.n (.blk (.loop [(0,.s),(1,.s),(5,.i),(6,.sc (.int .u8)),(7,.sc (.int .u8)),(8,.i),(9,.i),(10,.i)] (.n (.q (.cond .z .z)) (.blk (.seq (some [(0,.s),(1,.s),(5,.i),(6,.sc (.int .u8)),(7,.sc (.int .u8)),(8,.i),(9,.i),(10,.i)]) (.q (.cond (.q (.n (.q (.h)) .r)) .z)) (.n (.seq (some [(0,.s),(1,.s),(5,.i),(6,.sc (.int .u8)),(7,.sc (.int .u8)),(8,.i),(9,.i),(10,.i),(85,.w),(86,.w),(87,.w),(88,.w),(89,.w),(90,.w),(91,.w),(92,.w),(93,.b)]) .r (.h)) (.q (.q (.seq (some [(0,.s),(1,.s),(5,.i),(6,.sc (.int .u8)),(7,.sc (.int .u8)),(8,.i),(9,.i),(10,.i),(85,.w),(86,.w),(87,.w),(88,.w),(89,.w),(90,.w),(91,.w),(92,.w),(103,.w),(104,.w),(105,.w),(106,.w),(107,.b)]) .r (.cond (.q (.n (.q (.h)) (.q .z))) (.seq (some [(0,.s),(1,.s),(5,.i),(6,.sc (.int .u8)),(7,.sc (.int .u8)),(8,.i),(9,.i),(10,.i),(85,.w),(86,.w),(87,.w),(88,.w),(89,.w),(90,.w),(91,.w),(92,.w),(103,.w),(104,.w),(105,.w),(106,.w),(122,.w),(123,.w),(124,.w),(125,.w),(126,.w),(129,.w),(130,.w),(131,.w),(132,.b)]) .r (.cond (.q (.n (.q (.h)) (.q .z))) .z)))))))))))) (.q .z))))))))))
def g137 (s_1 : ByteArray) (substr_2 : ByteArray) (K : KH) : H -> Prop :=
 letJ (T := ByteArray -> ByteArray -> Int -> Bool -> H -> Prop) (fun s_4 substr_5 n_6 x7 => brW x7 (K (.int .i64 0)) (brW ((n_6 : Int) == 1) (idxW substr_5 0 (fun c8 => callT Tryz.prog 79 [.string s_4, .int .u8 (c8.toNat : Int)] kI (fun (x9 : Int) => K (.int .i64 x9)))) (brW (decide ((n_6 : Int) >= ((s_4.size : Nat) : Int))) (K (.int .i64 (-1))) (letJ (T := ByteArray -> ByteArray -> Int -> Bool -> H -> Prop) (fun s_11 substr_12 n_13 x14 => brW x14
 (cvalT Tryz.prog (.func (.func 198) ⟨[]⟩ ⟨[]⟩) [.string s_11, .string substr_12] kI (fun (x15 : Int) => K (.int .i64 x15))) (idxW substr_12 0 (fun c16 => idxW substr_12 1 (fun c17 =>
 loopW [.sc .str, .sc .str, .sc (.int .i64), .sc (.int .u8), .sc (.int .u8), .sc (.int .i64), .sc (.int .i64), .sc (.int .i64)] (fun (R18 : ByteArray -> ByteArray -> Int -> Int -> Int -> Int -> Int -> Int -> H -> Prop) => (fun (s_19 : ByteArray) (substr_20 : ByteArray) (n_21 : Int) (c0_22 : Int) (c1_23 : Int) (i_24 : Int) (t_25 : Int) (fails_26 : Int) => brW (decide ((i_24 : Int) < t_25))
 (letJ (T := ByteArray -> ByteArray -> Int -> Int -> Int -> Int -> Int -> Int -> H -> Prop) (fun s_28 substr_29 n_30 c0_31 c1_32 i_33 t_34 fails_35 => letJ (T := ByteArray -> ByteArray -> Int -> Int -> Int -> Int -> Int -> Int -> Value -> Value -> Value -> Value -> Value -> Value -> Value -> Value -> Bool -> H -> Prop) (fun s_37 substr_38 n_39 c0_40 c1_41 i_42 t_43 fails_44 x45 x46 x47 x48 x49 x50 x51 x52 x53 => brW x53 (K (.int .i64 i_42))
 (letJ (T := ByteArray -> ByteArray -> Int -> Int -> Int -> Int -> Int -> Int -> Value -> Value -> Value -> Value -> Value -> Value -> Value -> Value -> Value -> Value -> Value -> Value -> Bool -> H -> Prop) (fun s_55 substr_56 n_57 c0_58 c1_59 i_60 t_61 fails_62 x63 x64 x65 x66 x67 x68 x69 x70 x71 x72 x73 x74 x75 => brW x75 (ifW (bndOk none s_55.size /\ bndOk (some i_60) (s_55.size)) (cvalT Tryz.prog (.func (.func 198) ⟨[]⟩ ⟨[]⟩) [.string (s_55.extract i_60.toNat s_55.size), .string substr_56] kI (fun (x76 : Int) =>
 brW (decide ((x76 : Int) >= 0)) (K (.int .i64 (IntKind.i64.wrap (x76 + i_60)))) (K (.int .i64 (-1))))))
 (letJ (T := ByteArray -> ByteArray -> Int -> Int -> Int -> Int -> Int -> Int -> Value -> Value -> Value -> Value -> Value -> Value -> Value -> Value -> Value -> Value -> Value -> Value -> Value -> Value -> Value -> Value -> Value -> Value -> Value -> Value -> Bool -> H -> Prop) (fun s_78 substr_79 n_80 c0_81 c1_82 i_83 t_84 fails_85 _x86 _x87 _x88 _x89 _x90 _x91 _x92 _x93 _x94 _x95 _x96 _x97 _x98 _x99 _x100 _x101 _x102 _x103 _x104 _x105 x106 => brW x106 (ifW (bndOk none s_78.size /\ bndOk (some i_83) (s_78.size))
 (callT Tryz.prog 200 [.string (s_78.extract i_83.toNat s_78.size), .string substr_79] kI (fun (x107 : Int) => brW (decide ((x107 : Int) < 0)) (K (.int .i64 (-1))) (K (.int .i64 (IntKind.i64.wrap (i_83 + x107))))))) (R18 s_78 substr_79 n_80 c0_81 c1_82 i_83 t_84 fails_85)) (fun j77 => rdT (rdC 0 0) kI (fun (x108 : Int) => brW (decide ((n_57 : Int) > x108)) (ifW (0 <= (4 : Int)) (brW (decide ((fails_62 : Int) >= (IntKind.i64.wrap (4 + (Int.fdiv i_60 (2 ^ min (Int.toNat 4) (IntKind.bits .i64)))))))
 (j77 s_55 substr_56 n_57 c0_58 c1_59 i_60 t_61 fails_62 x63 x64 x65 x66 x67 x68 x69 x70 x71 x72 x73 x74 (.int .i64 fails_62) (.int .i64 i_60) (.int .i64 (Int.fdiv i_60 (2 ^ min (Int.toNat 4) (IntKind.bits .i64)))) (.int .i64 (IntKind.i64.wrap (4 + (Int.fdiv i_60 (2 ^ min (Int.toNat 4) (IntKind.bits .i64)))))) (.bool (decide ((fails_62 : Int) >= (IntKind.i64.wrap (4 + (Int.fdiv i_60 (2 ^ min (Int.toNat 4) (IntKind.bits .i64)))))))) (.int .i64 i_60) (.int .i64 t_61) (.bool (decide ((i_60 : Int) < t_61))) (decide ((i_60 : Int) < t_61)))
 (j77 s_55 substr_56 n_57 c0_58 c1_59 i_60 t_61 fails_62 x63 x64 x65 x66 x67 x68 x69 x70 x71 x72 x73 x74 (.int .i64 fails_62) (.int .i64 i_60) (.int .i64 (Int.fdiv i_60 (2 ^ min (Int.toNat 4) (IntKind.bits .i64)))) (.int .i64 (IntKind.i64.wrap (4 + (Int.fdiv i_60 (2 ^ min (Int.toNat 4) (IntKind.bits .i64)))))) (.bool (decide ((fails_62 : Int) >= (IntKind.i64.wrap (4 + (Int.fdiv i_60 (2 ^ min (Int.toNat 4) (IntKind.bits .i64)))))))) (.tuple ⟨[]⟩) (.tuple ⟨[]⟩) (.tuple ⟨[]⟩) false)))
 (j77 s_55 substr_56 n_57 c0_58 c1_59 i_60 t_61 fails_62 x63 x64 x65 x66 x67 x68 x69 x70 x71 x72 x73 x74 (.tuple ⟨[]⟩) (.tuple ⟨[]⟩) (.tuple ⟨[]⟩) (.tuple ⟨[]⟩) (.tuple ⟨[]⟩) (.tuple ⟨[]⟩) (.tuple ⟨[]⟩) (.tuple ⟨[]⟩) false))))) (fun j54 => rdT (rdC 0 0) kI (fun (x109 : Int) => brW (decide ((n_39 : Int) <= x109)) (callT Tryz.prog 199 [.int .i64 (IntKind.i64.wrap (i_42 + 1))] kI (fun (x110 : Int) =>
 j54 s_37 substr_38 n_39 c0_40 c1_41 (IntKind.i64.wrap (i_42 + 1)) t_43 (IntKind.i64.wrap (fails_44 + 1)) x45 x46 x47 x48 x49 x50 x51 x52 (.int .i64 (IntKind.i64.wrap (fails_44 + 1))) (.int .i64 (IntKind.i64.wrap (i_42 + 1))) (.int .i64 x110) (.bool (decide (((IntKind.i64.wrap (fails_44 + 1)) : Int) > x110))) (decide (((IntKind.i64.wrap (fails_44 + 1)) : Int) > x110))))
 (j54 s_37 substr_38 n_39 c0_40 c1_41 (IntKind.i64.wrap (i_42 + 1)) t_43 (IntKind.i64.wrap (fails_44 + 1)) x45 x46 x47 x48 x49 x50 x51 x52 (.tuple ⟨[]⟩) (.tuple ⟨[]⟩) (.tuple ⟨[]⟩) (.tuple ⟨[]⟩) false))))) (fun j36 => idxW s_28 (IntKind.i64.wrap (i_33 + 1)) (fun c111 => brW (((c111.toNat : Int) : Int) == c1_32) (ifW (bndOk (some (IntKind.i64.wrap (i_33 + n_30))) s_28.size /\ bndOk (some i_33) ((IntKind.i64.wrap (i_33 + n_30)).toNat))
 (j36 s_28 substr_29 n_30 c0_31 c1_32 i_33 t_34 fails_35 (.string s_28) (.int .i64 i_33) (.int .i64 i_33) (.int .i64 n_30) (.int .i64 (IntKind.i64.wrap (i_33 + n_30))) (.string (s_28.extract i_33.toNat ((IntKind.i64.wrap (i_33 + n_30)).toNat))) (.string substr_29) (.bool (strEq (s_28.extract i_33.toNat ((IntKind.i64.wrap (i_33 + n_30)).toNat)) substr_29)) (strEq (s_28.extract i_33.toNat ((IntKind.i64.wrap (i_33 + n_30)).toNat)) substr_29)))
 (j36 s_28 substr_29 n_30 c0_31 c1_32 i_33 t_34 fails_35 (.tuple ⟨[]⟩) (.tuple ⟨[]⟩) (.tuple ⟨[]⟩) (.tuple ⟨[]⟩) (.tuple ⟨[]⟩) (.tuple ⟨[]⟩) (.tuple ⟨[]⟩) (.tuple ⟨[]⟩) false)))) (fun j27 => idxW s_19 i_24 (fun c112 => brW (((c112.toNat : Int) : Int) != c0_22) (ifW (bndOk (some t_25) s_19.size /\ bndOk (some (IntKind.i64.wrap (i_24 + 1))) (t_25.toNat)) (callT Tryz.prog 79 [.string (s_19.extract ((IntKind.i64.wrap (i_24 + 1)).toNat) t_25.toNat), .int .u8 c0_22] kI (fun (x113 : Int) =>
 brW (decide ((x113 : Int) < 0)) (K (.int .i64 (-1))) (j27 s_19 substr_20 n_21 c0_22 c1_23 (IntKind.i64.wrap (i_24 + (IntKind.i64.wrap (x113 + 1)))) t_25 fails_26)))) (j27 s_19 substr_20 n_21 c0_22 c1_23 i_24 t_25 fails_26)))) (K (.int .i64 (-1))))) (fun (R114 : ByteArray -> ByteArray -> Int -> Int -> Int -> Int -> Int -> Int -> H -> Prop) => R114 s_11 substr_12 n_13 (c16.toNat : Int) (c17.toNat : Int) 0 (IntKind.i64.wrap ((IntKind.i64.wrap (((s_11.size : Nat) : Int) - n_13)) + 1)) 0))))) (fun j10 =>
 rdT (rdC 0 0) kI (fun (x115 : Int) => brW (decide ((n_6 : Int) <= x115)) (j10 s_4 substr_5 n_6 (decide ((((s_4.size : Nat) : Int) : Int) <= 64))) (j10 s_4 substr_5 n_6 false))))))) (fun j3 => brW ((((substr_2.size : Nat) : Int) : Int) == 0) (j3 s_1 substr_2 ((substr_2.size : Nat) : Int) true) (j3 s_1 substr_2 ((substr_2.size : Nat) : Int) (strEq substr_2 s_1)))
theorem e137 (s_1 : ByteArray) (substr_2 : ByteArray) (K : KH) : bodyF Tryz.prog tau Tryz.f137 an137 [.string s_1, .string substr_2] K = g137 s_1 substr_2 K := by kernel_rfl
theorem c137 (s_1 : ByteArray) (substr_2 : ByteArray) {K : KH} {σ : H} (h : g137 s_1 substr_2 K σ) : callW Tryz.prog 137 [.string s_1, .string substr_2] K σ := call_of_body mixed Tryz.func137 (by rw [e137]; exact h)


def an138 : Ann := (.q (.n (.q (.h)) (.q .z)))
def g138 (t_1 : Option Addr) (ino_2 : Int) (K : KH) : H -> Prop :=
 brW t_1.isNone (K (.pointer none)) (ptrW t_1 (fun b3 o4 => rdT (rdC b3 (o4 + 4)) kM (fun (x5 : Option Nat) => rdT (rdM (.int .i64) (.pointer none) false x5 (.int .i64 ino_2)) kP (fun x6 => K (.pointer x6)))))
theorem e138 (t_1 : Option Addr) (ino_2 : Int) (K : KH) : bodyF Tryz.prog tau Tryz.f138 an138 [.pointer t_1, .int .i64 ino_2] K = g138 t_1 ino_2 K := by kernel_rfl
theorem c138 (t_1 : Option Addr) (ino_2 : Int) {K : KH} {σ : H} (h : g138 t_1 ino_2 K σ) : callW Tryz.prog 138 [.pointer t_1, .int .i64 ino_2] K σ := call_of_body mixed Tryz.func138 (by rw [e138]; exact h)


def an139 : Ann := (.q (.q .z))
def g139 (m_1 : Option Nat) (K : KH) : H -> Prop :=
 alW (.cells ⟨[.map m_1]⟩ 192 (0, 0)) (fun b2 => K (.func (.func 201) ⟨[]⟩ ⟨[.pointer (some ⟨b2, 0, none⟩)]⟩))
theorem e139 (m_1 : Option Nat) (K : KH) : bodyF Tryz.prog tau Tryz.f139 an139 [.map m_1] K = g139 m_1 K := by kernel_rfl
theorem c139 (m_1 : Option Nat) {K : KH} {σ : H} (h : g139 m_1 K σ) : callW Tryz.prog 139 [.map m_1] K σ := call_of_body mixed Tryz.func139 (by rw [e139]; exact h)


def an151 : Ann := (.q (.q (.q .z)))
def g151 (x1 : Option Addr) (x2 : Option Addr) (K : KH) : H -> Prop :=
 ptrW x1 (fun b3 o4 => rdT (rdC b3 (o4 + 1)) kI (fun (x5 : Int) => ptrW x2 (fun b6 o7 => stW Tryz.prog 4 (.pointer (some ⟨b6, o7 + 2, none⟩)) (.bool (((bitV .and .i64 x5 73) : Int) != 0)) (K (.int .i64 0)))))
theorem e151 (x1 : Option Addr) (x2 : Option Addr) (K : KH) : bodyF Tryz.prog tau Tryz.f151 an151 [.pointer x1, .pointer x2] K = g151 x1 x2 K := by kernel_rfl
theorem c151 (x1 : Option Addr) (x2 : Option Addr) {K : KH} {σ : H} (h : g151 x1 x2 K σ) : callW Tryz.prog 151 [.pointer x1, .pointer x2] K σ := call_of_body mixed Tryz.func151 (by rw [e151]; exact h)


def an152 : Ann := (.q (.seq (some [(3,.p)]) (.q (.blk (.rf [.agg [.str,(.int .i64),.bool,.str,.slc],.i] (.q .r) (.blk (.n (.q (.h)) (.reg2 [0,1,2,3,4,5,6,8] 7 [9] 9 [7] [[],[0],[],[0,1],[],(rn 5),(rn 6),(rn 7),(rn 6),[0,1,2,3,4,5,8]])))))) (.q .z)))
def g152 (x1 : Option Addr) (x2 : Option Addr) (x3 : Option Addr) (K : KH) : H -> Prop :=
 alW (.cells ⟨[.int .i64 0]⟩ 36 (0, 0)) (fun b4 => letJ (T := Option Addr -> H -> Prop) (fun x6 => stW Tryz.prog 36 (.pointer x6) (.int .i64 0) (ptrW x6 (fun b7 o8 => rdT (rdC b7 o8) kI (fun (r9 : Int) => K (.int .i64 r9))))) (fun j5 => ptrW x1 (fun b10 o11 => rdT (rdA 1 b10 o11) (.one (.agg [.ptr])) (fun x12 => ptrW x2 (fun b13 o14 => rdT (rdC b13 o14) kS (fun (x15 : ByteArray) => callT Tryz.prog 153 [.agg ⟨[.pointer x12]⟩, .string x15] kR (fun x16 =>
 funW x16 (fun (g42 : FuncId) (as43 cs44 : List Value) => rfW Tryz.prog none g42 as43 cs44 [.agg [.str, (.int .i64), .bool, .str, .slc], .sc (.int .i64)] (fun (l17 : Nat) (obj18 : LoopState -> Option Code -> Obj) (K19 : Value -> H -> Prop) => (fun (x20 : ByteArray) (x21 : Int) (x22 : Bool) (x23 : ByteArray) (x24 : Sl) (x25 : Int) => alW (.cells ⟨[.string (⟨⟨[]⟩⟩ : ByteArray), .int .i64 0, .bool false, .string (⟨⟨[]⟩⟩ : ByteArray), .slice none 0 0]⟩ 73 (0, 0)) (fun b26 =>
 stW Tryz.prog 73 (.pointer (some ⟨b26, 0, none⟩)) (.agg ⟨[.string x20, .int .i64 x21, .bool x22, .string x23, .slice x24.base x24.len x24.cap]⟩) (begW l17 obj18 (brW ((x25 : Int) != 0) (stW Tryz.prog 36 (.pointer (some ⟨b4, 0, none⟩)) (.int .i64 x25) (roundK l17 obj18 K19 (some .ret) false .done)) (ptrW x3 (fun b27 o28 => rdT (rdC b27 (o28 + 4)) kL (fun x29 =>
 rdT (rdA 5 b26 0) (.one (.agg [.str, (.int .i64), .bool, .str, .slc])) (fun (x30 : ByteArray) (x31 : Int) (x32 : Bool) (x33 : ByteArray) (x34 : Sl) => alW (.cells ⟨[.string (⟨⟨[]⟩⟩ : ByteArray), .int .i64 0, .bool false, .string (⟨⟨[]⟩⟩ : ByteArray), .slice none 0 0]⟩ 73 (0, 0)) (fun b35 => biW Tryz.prog .append #[71, 71] 71 [false, false] [.slice x29.base x29.len x29.cap, .slice (some ⟨b35, 0, none⟩) 1 1] kL (fun x36 => ptrW x36.base (fun b37 o38 =>
 ifW (0 <= ((x29.len : Nat) : Int) /\ ((x29.len : Nat) : Int) < ((x36.len : Nat) : Int)) (ptrW x3 (fun b39 o40 => bothW (stW Tryz.prog 73 (.pointer (some ⟨b37, o38 + (((x29.len : Nat) : Int) : Int).toNat * 5, none⟩)) (.agg ⟨[.string x30, .int .i64 x31, .bool x32, .string x33, .slice x34.base x34.len x34.cap]⟩) (stW Tryz.prog 71 (.pointer (some ⟨b39, o40 + 4, none⟩)) (.slice x36.base x36.len x36.cap) (roundK l17 obj18 K19 none true .ready)))
 (stW Tryz.prog 71 (.pointer (some ⟨b39, o40 + 4, none⟩)) (.slice x36.base x36.len x36.cap) (stW Tryz.prog 73 (.pointer (some ⟨b37, o38 + (((x29.len : Nat) : Int) : Int).toNat * 5, none⟩)) (.agg ⟨[.string x30, .int .i64 x31, .bool x32, .string x33, .slice x34.base x34.len x34.cap]⟩) (roundK l17 obj18 K19 none true .ready))))))))))))))))) (j5 (some ⟨b4, 0, none⟩)) (fun i41 => exW i41 0 (j5 (some ⟨b4, 0, none⟩)) (nW)) (rdT (rdC b4 0) kI (fun (r45 : Int) => K (.int .i64 r45)))))))))))
theorem e152 (x1 : Option Addr) (x2 : Option Addr) (x3 : Option Addr) (K : KH) : bodyF Tryz.prog tau Tryz.f152 an152 [.pointer x1, .pointer x2, .pointer x3] K = g152 x1 x2 x3 K := by kernel_rfl
theorem c152 (x1 : Option Addr) (x2 : Option Addr) (x3 : Option Addr) {K : KH} {σ : H} (h : g152 x1 x2 x3 K σ) : callW Tryz.prog 152 [.pointer x1, .pointer x2, .pointer x3] K σ := call_of_body mixed Tryz.func152 (by rw [e152]; exact h)


def an153 : Ann := (.q (.q .z))
def g153 (t_1 : Option Addr) (path_2 : ByteArray) (K : KH) : H -> Prop :=
 alW (.cells ⟨[.pointer t_1]⟩ 136 (0, 0)) (fun b3 => alW (.cells ⟨[.string path_2]⟩ 9 (0, 0)) (fun b4 => K (.func (.func 204) ⟨[]⟩ ⟨[.pointer (some ⟨b3, 0, none⟩), .pointer (some ⟨b4, 0, none⟩)]⟩)))
theorem e153 (t_1 : Option Addr) (path_2 : ByteArray) (K : KH) : bodyF Tryz.prog tau Tryz.f153 an153 [.agg ⟨[.pointer t_1]⟩, .string path_2] K = g153 t_1 path_2 K := by kernel_rfl
theorem c153 (t_1 : Option Addr) (path_2 : ByteArray) {K : KH} {σ : H} (h : g153 t_1 path_2 K σ) : callW Tryz.prog 153 [.agg ⟨[.pointer t_1]⟩, .string path_2] K σ := call_of_body mixed Tryz.func153 (by rw [e153]; exact h)


def an154 : Ann := (.q (.q (.q (.n (.q (.blk (.q (.cond (.q .z) (.q (.cond (.q .z) (.q (.h)))))))) (.q .z)))))
def g154 (n_1 : ByteArray) (n_2 : Int) (n_3 : Bool) (n_4 : ByteArray) (n_5 : Sl) (K : KH) : H -> Prop :=
 alW (.cells ⟨[.string n_1, .int .i64 n_2, .bool n_3, .string n_4, .slice n_5.base n_5.len n_5.cap]⟩ 73 (0, 0)) (fun b6 => rdT (rdC b6 1) kI (fun (x7 : Int) => brW ((x7 : Int) == 1) (callT Tryz.prog 206 [.pointer (some ⟨b6, 0, none⟩)] kB (fun x8 => K (.bool x8))) (brW ((x7 : Int) == 3) (alW (.cells ⟨[.func (.func 206) ⟨[]⟩ ⟨[.pointer (some ⟨b6, 0, none⟩)]⟩, .func (.func 207) ⟨[]⟩ ⟨[.pointer (some ⟨b6, 0, none⟩)]⟩, .func (.func 209) ⟨[]⟩ ⟨[.pointer (some ⟨b6, 0, none⟩)]⟩]⟩ 23 (0, 0)) (fun b9 =>
 callT Tryz.prog 208 [.slice (some ⟨b9, 0, none⟩) 3 3] kB (fun x10 => K (.bool x10)))) (brW ((x7 : Int) == 2) (alW (.cells ⟨[.func (.func 207) ⟨[]⟩ ⟨[.pointer (some ⟨b6, 0, none⟩)]⟩, .func (.func 210) ⟨[]⟩ ⟨[.pointer (some ⟨b6, 0, none⟩)]⟩, .func (.func 211) ⟨[]⟩ ⟨[.pointer (some ⟨b6, 0, none⟩)]⟩]⟩ 23 (0, 0)) (fun b11 => callT Tryz.prog 208 [.slice (some ⟨b11, 0, none⟩) 3 3] kB (fun x12 => K (.bool x12)))) (K (.bool false))))))
theorem e154 (n_1 : ByteArray) (n_2 : Int) (n_3 : Bool) (n_4 : ByteArray) (n_5 : Sl) (K : KH) : bodyF Tryz.prog tau Tryz.f154 an154 [.agg ⟨[.string n_1, .int .i64 n_2, .bool n_3, .string n_4, .slice n_5.base n_5.len n_5.cap]⟩] K = g154 n_1 n_2 n_3 n_4 n_5 K := by kernel_rfl
theorem c154 (n_1 : ByteArray) (n_2 : Int) (n_3 : Bool) (n_4 : ByteArray) (n_5 : Sl) {K : KH} {σ : H} (h : g154 n_1 n_2 n_3 n_4 n_5 K σ) : callW Tryz.prog 154 [.agg ⟨[.string n_1, .int .i64 n_2, .bool n_3, .string n_4, .slice n_5.base n_5.len n_5.cap]⟩] K σ := call_of_body mixed Tryz.func154 (by rw [e154]; exact h)


def an160 : Ann := (.q (.seq (some [(0,.p),(1,.p),(2,.p),(4,.b)]) .r (.q (.q .z))))
def g160 (x1 : Option Addr) (x2 : Option Addr) (x3 : Option Addr) (K : KH) : H -> Prop :=
 letJ (T := Option Addr -> Option Addr -> Option Addr -> Bool -> H -> Prop) (fun x5 x6 x7 link_8 => alW (.map #[] 0) (fun b9 => muW Tryz.prog 211 (.map (some b9)) (.int .i64 1) (.bool true) (ptrW x5 (fun b10 o11 => rdT (rdC b10 o11) kS (fun (x12 : ByteArray) => muW Tryz.prog 211 (.map (some b9)) (.int .i64 2) (.bool (strEq x12 (⟨⟨[]⟩⟩ : ByteArray))) (muW Tryz.prog 211 (.map (some b9)) (.int .i64 3) (.bool link_8) (ptrW x6 (fun b13 o14 => rdT (rdC b13 o14) kI (fun (x15 : Int) =>
 rdT (rdM (.int .i64) (.bool false) false (some b9) (.int .i64 x15)) kB (fun x16 => brW x16 (ptrW x7 (fun b17 o18 => rdT (rdC b17 o18) kI (fun (x19 : Int) => brW (decide ((x19 : Int) >= 0)) (ptrW x7 (fun b20 o21 => rdT (rdC b20 o21) kI (fun (x22 : Int) => callT Tryz.prog 161 [.bool (decide ((x22 : Int) <= 511)), .int .i64 2] kI (fun (x23 : Int) => K (.int .i64 x23))))) (callT Tryz.prog 161 [.bool false, .int .i64 2] kI (fun (x24 : Int) => K (.int .i64 x24))))))
 (callT Tryz.prog 161 [.bool false, .int .i64 2] kI (fun (x25 : Int) => K (.int .i64 x25))))))))))))) (fun j4 => ptrW x1 (fun b26 o27 => rdT (rdC b26 o27) kS (fun (x28 : ByteArray) => brW (!strEq x28 (⟨⟨[]⟩⟩ : ByteArray)) (ptrW x1 (fun b29 o30 => rdT (rdC b29 o30) kS (fun (x31 : ByteArray) => brW (decide ((((x31.size : Nat) : Int) : Int) <= 255)) (ptrW x1 (fun b32 o33 => rdT (rdC b32 o33) kS (fun (x34 : ByteArray) => callT Tryz.prog 26 [.string x34, .int .u8 0] kI (fun (x35 : Int) =>
 j4 x1 x2 x3 (decide ((x35 : Int) < 0)))))) (j4 x1 x2 x3 false)))) (j4 x1 x2 x3 false))))
theorem e160 (x1 : Option Addr) (x2 : Option Addr) (x3 : Option Addr) (K : KH) : bodyF Tryz.prog tau Tryz.f160 an160 [.pointer x1, .pointer x2, .pointer x3] K = g160 x1 x2 x3 K := by kernel_rfl
theorem c160 (x1 : Option Addr) (x2 : Option Addr) (x3 : Option Addr) {K : KH} {σ : H} (h : g160 x1 x2 x3 K σ) : callW Tryz.prog 160 [.pointer x1, .pointer x2, .pointer x3] K σ := call_of_body mixed Tryz.func160 (by rw [e160]; exact h)


def an161 : Ann := (.q (.n (.q (.h)) (.q .z)))
def g161 (is_1 : Bool) (e_2 : Int) (K : KH) : H -> Prop :=
 brW (!is_1) (K (.int .i64 e_2)) (K (.int .i64 0))
theorem e161 (is_1 : Bool) (e_2 : Int) (K : KH) : bodyF Tryz.prog tau Tryz.f161 an161 [.bool is_1, .int .i64 e_2] K = g161 is_1 e_2 K := by kernel_rfl
theorem c161 (is_1 : Bool) (e_2 : Int) {K : KH} {σ : H} (h : g161 is_1 e_2 K σ) : callW Tryz.prog 161 [.bool is_1, .int .i64 e_2] K σ := call_of_body mixed Tryz.func161 (by rw [e161]; exact h)


def an162 : Ann := (.q (.n (.q (.blk (.loop [(6,.l),(7,.i),(8,.i)] (.q (.n (.cond .z .z) (.n (.blk (.q (.q (.q (.h))))) .r)))))) (.q .z)))
def g162 (asked_1 : Sl) (K : KH) : H -> Prop :=
 loopW [.sc .slc, .sc (.int .i64), .sc (.int .i64)] (fun (R2 : Sl -> Int -> Int -> H -> Prop) => (fun (x3 : Sl) (x4 : Int) (x5 : Int) => brW (decide ((x5 : Int) < x4)) (ptrW x3.base (fun b6 o7 => ifW (0 <= x5 /\ x5 < ((x3.len : Nat) : Int)) (rdT (rdC b6 (o7 + x5.toNat * 1)) kR (fun x8 => cvalT Tryz.prog x8 [] kI (fun (x9 : Int) => brW ((x9 : Int) != 0) (K (.int .i64 x9)) (R2 x3 x4 (IntKind.i64.wrap (x5 + 1))))))))
 (K (.int .i64 0)))) (fun (R10 : Sl -> Int -> Int -> H -> Prop) => R10 asked_1 ((asked_1.len : Nat) : Int) 0)
theorem e162 (asked_1 : Sl) (K : KH) : bodyF Tryz.prog tau Tryz.f162 an162 [.slice asked_1.base asked_1.len asked_1.cap] K = g162 asked_1 K := by kernel_rfl
theorem c162 (asked_1 : Sl) {K : KH} {σ : H} (h : g162 asked_1 K σ) : callW Tryz.prog 162 [.slice asked_1.base asked_1.len asked_1.cap] K σ := call_of_body mixed Tryz.func162 (by rw [e162]; exact h)


def an163 : Ann := (.q (.q .z))
def g163 (t_1 : Option Addr) (K : KH) : H -> Prop :=
 callT Tryz.prog 161 [.bool (!t_1.isNone), .int .i64 1] kI (fun (x2 : Int) => K (.int .i64 x2))
theorem e163 (t_1 : Option Addr) (K : KH) : bodyF Tryz.prog tau Tryz.f163 an163 [.pointer t_1] K = g163 t_1 K := by kernel_rfl
theorem c163 (t_1 : Option Addr) {K : KH} {σ : H} (h : g163 t_1 K σ) : callW Tryz.prog 163 [.pointer t_1] K σ := call_of_body mixed Tryz.func163 (by rw [e163]; exact h)


def an164 : Ann := (.q (.q .z))
def g164 (t_1 : Option Addr) (ino_2 : Int) (K : KH) : H -> Prop :=
 alW (.cells ⟨[.pointer t_1]⟩ 108 (0, 0)) (fun b3 => alW (.cells ⟨[.int .i64 ino_2]⟩ 3 (0, 0)) (fun b4 => K (.func (.func 214) ⟨[]⟩ ⟨[.pointer (some ⟨b3, 0, none⟩), .pointer (some ⟨b4, 0, none⟩)]⟩)))
theorem e164 (t_1 : Option Addr) (ino_2 : Int) (K : KH) : bodyF Tryz.prog tau Tryz.f164 an164 [.pointer t_1, .int .i64 ino_2] K = g164 t_1 ino_2 K := by kernel_rfl
theorem c164 (t_1 : Option Addr) (ino_2 : Int) {K : KH} {σ : H} (h : g164 t_1 ino_2 K σ) : callW Tryz.prog 164 [.pointer t_1, .int .i64 ino_2] K σ := call_of_body mixed Tryz.func164 (by rw [e164]; exact h)


def an165 : Ann := (.q (.q .z))
def g165 (name_1 : ByteArray) (K : KH) : H -> Prop :=
 alW (.cells ⟨[.string name_1]⟩ 9 (0, 0)) (fun b2 => K (.func (.func 215) ⟨[]⟩ ⟨[.pointer (some ⟨b2, 0, none⟩)]⟩))
theorem e165 (name_1 : ByteArray) (K : KH) : bodyF Tryz.prog tau Tryz.f165 an165 [.string name_1] K = g165 name_1 K := by kernel_rfl
theorem c165 (name_1 : ByteArray) {K : KH} {σ : H} (h : g165 name_1 K σ) : callW Tryz.prog 165 [.string name_1] K σ := call_of_body mixed Tryz.func165 (by rw [e165]; exact h)


def an166 : Ann := (.q (.q .z))
def g166 (t_1 : Option Addr) (dir_2 : Int) (name_3 : ByteArray) (K : KH) : H -> Prop :=
 alW (.cells ⟨[.pointer t_1]⟩ 108 (0, 0)) (fun b4 => alW (.cells ⟨[.int .i64 dir_2]⟩ 3 (0, 0)) (fun b5 => alW (.cells ⟨[.string name_3]⟩ 9 (0, 0)) (fun b6 => K (.func (.func 217) ⟨[]⟩ ⟨[.pointer (some ⟨b4, 0, none⟩), .pointer (some ⟨b5, 0, none⟩), .pointer (some ⟨b6, 0, none⟩)]⟩))))
theorem e166 (t_1 : Option Addr) (dir_2 : Int) (name_3 : ByteArray) (K : KH) : bodyF Tryz.prog tau Tryz.f166 an166 [.pointer t_1, .int .i64 dir_2, .string name_3] K = g166 t_1 dir_2 name_3 K := by kernel_rfl
theorem c166 (t_1 : Option Addr) (dir_2 : Int) (name_3 : ByteArray) {K : KH} {σ : H} (h : g166 t_1 dir_2 name_3 K σ) : callW Tryz.prog 166 [.pointer t_1, .int .i64 dir_2, .string name_3] K σ := call_of_body mixed Tryz.func166 (by rw [e166]; exact h)


def an167 : Ann := (.q (.q .z))
def g167 (x1 : Option Addr) (x2 : Option Addr) (K : KH) : H -> Prop :=
 ptrW x1 (fun b3 o4 => rdT (rdC b3 o4) kP (fun x5 => ptrW x2 (fun b6 o7 => rdT (rdC b6 o7) kS (fun (x8 : ByteArray) => callT Tryz.prog 168 [.pointer x5, .int .i64 1, .int .i64 ((x8.size : Nat) : Int)] kR (fun x9 => cvalT Tryz.prog x9 [] kI (fun (x10 : Int) => K (.int .i64 x10)))))))
theorem e167 (x1 : Option Addr) (x2 : Option Addr) (K : KH) : bodyF Tryz.prog tau Tryz.f167 an167 [.pointer x1, .pointer x2] K = g167 x1 x2 K := by kernel_rfl
theorem c167 (x1 : Option Addr) (x2 : Option Addr) {K : KH} {σ : H} (h : g167 x1 x2 K σ) : callW Tryz.prog 167 [.pointer x1, .pointer x2] K σ := call_of_body mixed Tryz.func167 (by rw [e167]; exact h)


def an168 : Ann := (.q (.q .z))
def g168 (t_1 : Option Addr) (inodes_2 : Int) (bytes_3 : Int) (K : KH) : H -> Prop :=
 alW (.cells ⟨[.pointer t_1]⟩ 108 (0, 0)) (fun b4 => alW (.cells ⟨[.int .i64 inodes_2]⟩ 3 (0, 0)) (fun b5 => alW (.cells ⟨[.int .i64 bytes_3]⟩ 3 (0, 0)) (fun b6 => K (.func (.func 218) ⟨[]⟩ ⟨[.pointer (some ⟨b4, 0, none⟩), .pointer (some ⟨b5, 0, none⟩), .pointer (some ⟨b6, 0, none⟩)]⟩))))
theorem e168 (t_1 : Option Addr) (inodes_2 : Int) (bytes_3 : Int) (K : KH) : bodyF Tryz.prog tau Tryz.f168 an168 [.pointer t_1, .int .i64 inodes_2, .int .i64 bytes_3] K = g168 t_1 inodes_2 bytes_3 K := by kernel_rfl
theorem c168 (t_1 : Option Addr) (inodes_2 : Int) (bytes_3 : Int) {K : KH} {σ : H} (h : g168 t_1 inodes_2 bytes_3 K σ) : callW Tryz.prog 168 [.pointer t_1, .int .i64 inodes_2, .int .i64 bytes_3] K σ := call_of_body mixed Tryz.func168 (by rw [e168]; exact h)


def an170 : Ann := (.q (.n (.q (.q (.h))) (.seq (some [(1,.i),(2,.s),(5,.p),(8,.p),(9,.p),(10,.p),(11,.p)]) (.q (.cond .r .z)) (.q (.seq (some [(10,.p),(11,.p),(13,.p)]) (.q (.blk (.rf [.s,.b] (.q .r) (.blk (.n (.blk (.q (.cond (.q .z) (.q (.cond (.q .z) (.q (.cond (.n (.reg (rn 8) [[],[0],[0,1],[0,1,2],[],[4],(rn 6),(rn 7)]) (.q .z)) (.q (.h))))))))) (.q (.n (.reg (rn 15) [[],[0],[0,1],[0,1,2],[],[4],[],(rn 7),(rn 8),(rn 9),(rn 9),(rn 10),[0,1,2,3,4,5,6,7,8,9,11],(rn 13),(rn 14)]) (.n (.seq (some [(5,.p),(9,.p),(10,.p),(11,.p),(13,.p),(105,.b)]) .r (.cond .z .z)) (.n (.q (.q (.h))) (.n (.reg (rn 13) [[],[0],[0,1],[0,1,2],[],[4],(rn 6),(rn 7),(rn 8),(rn 8),[],[0,1,2,3,4,5,6,7,8,10],(rn 12)]) (.q (.n (.q (.h)) .r)))))))))))) (.q .z))))))
def g170 (f_1 : Option Addr) (at_2 : Int) (path_3 : ByteArray) (follow_4 : Bool) (hops_5 : Option Addr) (K : KH) : H -> Prop :=
 alW (.cells ⟨[.pointer f_1]⟩ 24 (0, 0)) (fun b6 => alW (.cells ⟨[.bool follow_4]⟩ 4 (0, 0)) (fun b7 => alW (.cells ⟨[.pointer hops_5]⟩ 219 (0, 0)) (fun b8 => alW (.cells ⟨[.int .i64 0, .string (⟨⟨[]⟩⟩ : ByteArray), .int .i64 0, .bool false]⟩ 142 (0, 0)) (fun b9 => alW (.cells ⟨[.int .i64 0]⟩ 36 (0, 0)) (fun b10 => callT Tryz.prog 220 [.string path_3] kI (fun (x11 : Int) => brW ((x11 : Int) != 0)
 (stW Tryz.prog 142 (.pointer (some ⟨b9, 0, none⟩)) (.agg ⟨[.int .i64 0, .string (⟨⟨[]⟩⟩ : ByteArray), .int .i64 0, .bool false]⟩) (stW Tryz.prog 36 (.pointer (some ⟨b10, 0, none⟩)) (.int .i64 x11) (rdT (rdA 4 b9 0) (.one (.agg [(.int .i64), .str, (.int .i64), .bool])) (fun (r12 : Int) (r13 : ByteArray) (r14 : Int) (r15 : Bool) => rdT (rdC b10 0) kI (fun (r16 : Int) => K (.tuple ⟨[.agg ⟨[.int .i64 r12, .string r13, .int .i64 r14, .bool r15]⟩, .int .i64 r16]⟩))))))
 (letJ (T := Int -> ByteArray -> Option Addr -> Option Addr -> Option Addr -> Option Addr -> Option Addr -> H -> Prop) (fun at_18 path_19 f_20 follow_21 hops_22 x23 x24 => alW (.cells ⟨[.int .i64 0, .string (⟨⟨[]⟩⟩ : ByteArray), .int .i64 0, .bool false]⟩ 142 (0, 0)) (fun b25 => stW Tryz.prog 142 (.pointer (some ⟨b25, 0, none⟩)) (.agg ⟨[.int .i64 at_18, .string (⟨⟨[]⟩⟩ : ByteArray), .int .i64 at_18, .bool true]⟩) (letJ (T := Option Addr -> Option Addr -> Option Addr -> H -> Prop) (fun x27 x28 p_29 =>
 ptrW p_29 (fun b30 o31 => rdT (rdA 4 b30 o31) (.one (.agg [(.int .i64), .str, (.int .i64), .bool])) (fun (x32 : Int) (x33 : ByteArray) (x34 : Int) (x35 : Bool) => stW Tryz.prog 142 (.pointer x27) (.agg ⟨[.int .i64 x32, .string x33, .int .i64 x34, .bool x35]⟩) (stW Tryz.prog 36 (.pointer x28) (.int .i64 0) (ptrW x27 (fun b36 o37 => rdT (rdA 4 b36 o37) (.one (.agg [(.int .i64), .str, (.int .i64), .bool])) (fun (r38 : Int) (r39 : ByteArray) (r40 : Int) (r41 : Bool) => ptrW x28 (fun b42 o43 =>
 rdT (rdC b42 o43) kI (fun (r44 : Int) => K (.tuple ⟨[.agg ⟨[.int .i64 r38, .string r39, .int .i64 r40, .bool r41]⟩, .int .i64 r44]⟩)))))))))) (fun j26 => callT Tryz.prog 221 [.string path_19] kR (fun x45 => funW x45 (fun (g146 : FuncId) (as147 cs148 : List Value) => rfW Tryz.prog none g146 as147 cs148 [.sc .str, .sc .bool] (fun (l46 : Nat) (obj47 : LoopState -> Option Code -> Obj) (K48 : Value -> H -> Prop) => (fun (x49 : ByteArray) (x50 : Bool) => begW l46 obj47 (rdT (rdC b25 3) kB (fun x51 =>
 brW (!x51) (stW Tryz.prog 142 (.pointer x23) (.agg ⟨[.int .i64 0, .string (⟨⟨[]⟩⟩ : ByteArray), .int .i64 0, .bool false]⟩) (stW Tryz.prog 36 (.pointer x24) (.int .i64 5) (roundK l46 obj47 K48 (some .ret) false .done))) (ptrW f_20 (fun b52 o53 => rdT (rdC b52 o53) kP (fun x54 => rdT (rdC b25 2) kI (fun (x55 : Int) => callT Tryz.prog 110 [.pointer x54, .int .i64 x55] kI (fun (x56 : Int) => brW ((x56 : Int) != 2)
 (stW Tryz.prog 142 (.pointer x23) (.agg ⟨[.int .i64 0, .string (⟨⟨[]⟩⟩ : ByteArray), .int .i64 0, .bool false]⟩) (stW Tryz.prog 36 (.pointer x24) (.int .i64 8) (roundK l46 obj47 K48 (some .ret) false .done))) (brW (strEq x49 (⟨⟨[46, 46]⟩⟩ : ByteArray)) (ptrW f_20 (fun b57 o58 => rdT (rdC b57 o58) kP (fun x59 => ptrW x59 (fun b60 o61 => rdT (rdC b60 o61) kP (fun x62 => rdT (rdC b25 2) kI (fun (x63 : Int) => callT Tryz.prog 124 [.pointer x62, .int .i64 x63] kI (fun (x64 : Int) =>
 stW Tryz.prog 142 (.pointer (some ⟨b25, 0, none⟩)) (.agg ⟨[.int .i64 x64, .string (⟨⟨[]⟩⟩ : ByteArray), .int .i64 x64, .bool true]⟩) (roundK l46 obj47 K48 none true .ready)))))))) (brW (decide ((((x49.size : Nat) : Int) : Int) > 56)) (stW Tryz.prog 142 (.pointer x23) (.agg ⟨[.int .i64 0, .string (⟨⟨[]⟩⟩ : ByteArray), .int .i64 0, .bool false]⟩) (stW Tryz.prog 36 (.pointer x24) (.int .i64 3) (roundK l46 obj47 K48 (some .ret) false .done))) (rdT (rdC b25 2) kI (fun (x65 : Int) =>
 stW Tryz.prog 142 (.pointer (some ⟨b25, 0, none⟩)) (.agg ⟨[.int .i64 x65, .string x49, .int .i64 0, .bool false]⟩) (ptrW f_20 (fun b66 o67 => rdT (rdC b66 o67) kP (fun x68 => ptrW x68 (fun b69 o70 => rdT (rdC b69 o70) kP (fun x71 => rdT (rdC b25 0) kI (fun (x72 : Int) => callT Tryz.prog 125 [.pointer x71, .int .i64 x72, .string x49] (.tup [.sc (.int .i64), .sc .bool]) (fun (x73 : Int) (x74 : Bool) =>
 stW Tryz.prog 3 (.pointer (some ⟨b25, 2, none⟩)) (.int .i64 x73) (stW Tryz.prog 4 (.pointer (some ⟨b25, 3, none⟩)) (.bool x74) (letJ (T := Option Addr -> Option Addr -> Option Addr -> Option Addr -> Option Addr -> Bool -> H -> Prop) (fun f_76 hops_77 x78 x79 p_80 x81 => brW x81 (roundK l46 obj47 K48 none true .ready) (ptrW hops_77 (fun b82 o83 => rdT (rdC b82 o83) kP (fun x84 => ptrW x84 (fun b85 o86 => rdT (rdC b85 o86) kI (fun (x87 : Int) => ptrW x84 (fun b88 o89 =>
 stW Tryz.prog 3 (.pointer (some ⟨b88, o89, none⟩)) (.int .i64 (IntKind.i64.wrap (x87 - 1))) (ptrW hops_77 (fun b90 o91 => rdT (rdC b90 o91) kP (fun x92 => ptrW x92 (fun b93 o94 => rdT (rdC b93 o94) kI (fun (x95 : Int) => brW (decide ((x95 : Int) < 0)) (stW Tryz.prog 142 (.pointer x78) (.agg ⟨[.int .i64 0, .string (⟨⟨[]⟩⟩ : ByteArray), .int .i64 0, .bool false]⟩) (stW Tryz.prog 36 (.pointer x79) (.int .i64 9) (roundK l46 obj47 K48 (some .ret) false .done))) (ptrW f_76 (fun b96 o97 =>
 rdT (rdC b96 o97) kP (fun x98 => ptrW x98 (fun b99 o100 => rdT (rdC b99 o100) kP (fun x101 => ptrW p_80 (fun b102 o103 => rdT (rdC b102 (o103 + 2)) kI (fun (x104 : Int) => callT Tryz.prog 99 [.pointer x101, .int .i64 x104] (.tup [.agg [(.int .i64), (.int .i64), .str, (.int .i64)], .sc .bool]) (fun (x105 : Int) (x106 : Int) (x107 : ByteArray) (x108 : Int) (_x109 : Bool) => alW (.cells ⟨[.int .i64 0, .int .i64 0, .string (⟨⟨[]⟩⟩ : ByteArray), .int .i64 0]⟩ 35 (0, 0)) (fun b110 =>
 stW Tryz.prog 35 (.pointer (some ⟨b110, 0, none⟩)) (.agg ⟨[.int .i64 x105, .int .i64 x106, .string x107, .int .i64 x108]⟩) (ptrW f_76 (fun b111 o112 => rdT (rdC b111 o112) kP (fun x113 => ptrW p_80 (fun b114 o115 => rdT (rdC b114 o115) kI (fun (x116 : Int) => rdT (rdC b110 2) kS (fun (x117 : ByteArray) => ptrW hops_77 (fun b118 o119 => rdT (rdC b118 o119) kP (fun x120 =>
 callT Tryz.prog 170 [.pointer x113, .int .i64 x116, .string x117, .bool true, .pointer x120] (.tup [.agg [(.int .i64), .str, (.int .i64), .bool], .sc (.int .i64)]) (fun (x121 : Int) (x122 : ByteArray) (x123 : Int) (x124 : Bool) (x125 : Int) => alW (.cells ⟨[.int .i64 0, .string (⟨⟨[]⟩⟩ : ByteArray), .int .i64 0, .bool false]⟩ 142 (0, 0)) (fun b126 => stW Tryz.prog 142 (.pointer (some ⟨b126, 0, none⟩)) (.agg ⟨[.int .i64 x121, .string x122, .int .i64 x123, .bool x124]⟩) (brW ((x125 : Int) != 0)
 (stW Tryz.prog 142 (.pointer x78) (.agg ⟨[.int .i64 0, .string (⟨⟨[]⟩⟩ : ByteArray), .int .i64 0, .bool false]⟩) (stW Tryz.prog 36 (.pointer x79) (.int .i64 x125) (roundK l46 obj47 K48 (some .ret) false .done))) (rdT (rdA 4 b126 0) (.one (.agg [(.int .i64), .str, (.int .i64), .bool])) (fun (x127 : Int) (x128 : ByteArray) (x129 : Int) (x130 : Bool) =>
 stW Tryz.prog 142 (.pointer p_80) (.agg ⟨[.int .i64 x127, .string x128, .int .i64 x129, .bool x130]⟩) (roundK l46 obj47 K48 none true .ready))))))))))))))))))))))))))))))))))) (fun j75 => rdT (rdC b25 3) kB (fun x131 => brW (!x131) (j75 f_20 hops_22 x23 x24 (some ⟨b25, 0, none⟩) true) (brW x50 (ptrW follow_21 (fun b132 o133 => rdT (rdC b132 o133) kB (fun x134 => brW (!x134) (j75 f_20 hops_22 x23 x24 (some ⟨b25, 0, none⟩) true) (ptrW f_20 (fun b135 o136 => rdT (rdC b135 o136) kP (fun x137 =>
 rdT (rdC b25 2) kI (fun (x138 : Int) => callT Tryz.prog 110 [.pointer x137, .int .i64 x138] kI (fun (x139 : Int) => j75 f_20 hops_22 x23 x24 (some ⟨b25, 0, none⟩) ((x139 : Int) != 3))))))))) (ptrW f_20 (fun b140 o141 => rdT (rdC b140 o141) kP (fun x142 => rdT (rdC b25 2) kI (fun (x143 : Int) => callT Tryz.prog 110 [.pointer x142, .int .i64 x143] kI (fun (x144 : Int) => j75 f_20 hops_22 x23 x24 (some ⟨b25, 0, none⟩) ((x144 : Int) != 3)))))))))))))))))))))))))))))))
 (j26 x23 x24 (some ⟨b25, 0, none⟩)) (fun i145 => exW i145 0 (j26 x23 x24 (some ⟨b25, 0, none⟩)) (nW)) (ptrW x23 (fun b149 o150 => rdT (rdA 4 b149 o150) (.one (.agg [(.int .i64), .str, (.int .i64), .bool])) (fun (r151 : Int) (r152 : ByteArray) (r153 : Int) (r154 : Bool) => ptrW x24 (fun b155 o156 => rdT (rdC b155 o156) kI (fun (r157 : Int) => K (.tuple ⟨[.agg ⟨[.int .i64 r151, .string r152, .int .i64 r153, .bool r154]⟩, .int .i64 r157]⟩)))))))))))) (fun j17 => idxW path_3 0 (fun c158 =>
 brW (((c158.toNat : Int) : Int) == 47) (rdT (rdC b6 0) kP (fun x159 => ptrW x159 (fun b160 o161 => rdT (rdC b160 o161) kP (fun x162 => callT Tryz.prog 123 [.pointer x162] kI (fun (x163 : Int) => j17 x163 path_3 (some ⟨b6, 0, none⟩) (some ⟨b7, 0, none⟩) (some ⟨b8, 0, none⟩) (some ⟨b9, 0, none⟩) (some ⟨b10, 0, none⟩)))))) (j17 at_2 path_3 (some ⟨b6, 0, none⟩) (some ⟨b7, 0, none⟩) (some ⟨b8, 0, none⟩) (some ⟨b9, 0, none⟩) (some ⟨b10, 0, none⟩)))))))))))
theorem e170 (f_1 : Option Addr) (at_2 : Int) (path_3 : ByteArray) (follow_4 : Bool) (hops_5 : Option Addr) (K : KH) : bodyF Tryz.prog tau Tryz.f170 an170 [.pointer f_1, .int .i64 at_2, .string path_3, .bool follow_4, .pointer hops_5] K = g170 f_1 at_2 path_3 follow_4 hops_5 K := by kernel_rfl
theorem c170 (f_1 : Option Addr) (at_2 : Int) (path_3 : ByteArray) (follow_4 : Bool) (hops_5 : Option Addr) {K : KH} {σ : H} (h : g170 f_1 at_2 path_3 follow_4 hops_5 K σ) : callW Tryz.prog 170 [.pointer f_1, .int .i64 at_2, .string path_3, .bool follow_4, .pointer hops_5] K σ := call_of_body mixed Tryz.func170 (by rw [e170]; exact h)


def an171 : Ann := (.q (.n (.reg (rn 18) [[],[],[1],[],[3],[3,4],[3,4,5],[],[3,4,5,6,7],[3,4,5,6,7,8],[3,4,5,6,7,8,9],[3,4,5,6,7,8,9,10],[3,4,5,6,7,8,9,10,11],[3,4,5,6,7,8,9,10,11,12],[1,2,3,4,5,6,7,8,9,10,11,12,13],(rn 15),(rn 16),(rn 17)]) .z))
def g171 (x1 : Option Addr) (x2 : Option Addr) (x3 : Option Addr) (K : KH) : H -> Prop :=
 ptrW x1 (fun b4 o5 => rdT (rdC b4 o5) kP (fun x6 => ptrW x2 (fun b7 o8 => rdT (rdC b7 o8) kS (fun (x9 : ByteArray) => ptrW x1 (fun b10 o11 => rdT (rdC b10 o11) kP (fun x12 => ptrW x12 (fun b13 o14 => rdT (rdC b13 (o14 + 4)) kM (fun (x15 : Option Nat) => ptrW x3 (fun b16 o17 => rdT (rdC b16 o17) kI (fun (x18 : Int) => rdT (rdM (.int .i64) (.pointer none) false x15 (.int .i64 x18)) kP (fun x19 => ptrW x19 (fun b20 o21 => rdT (rdC b20 (o21 + 2)) kS (fun (x22 : ByteArray) =>
 callT Tryz.prog 168 [.pointer x6, .int .i64 0, .int .i64 (IntKind.i64.wrap (((x9.size : Nat) : Int) - ((x22.size : Nat) : Int)))] kR (fun x23 => cvalT Tryz.prog x23 [] kI (fun (x24 : Int) => K (.int .i64 x24))))))))))))))))
theorem e171 (x1 : Option Addr) (x2 : Option Addr) (x3 : Option Addr) (K : KH) : bodyF Tryz.prog tau Tryz.f171 an171 [.pointer x1, .pointer x2, .pointer x3] K = g171 x1 x2 x3 K := by kernel_rfl
theorem c171 (x1 : Option Addr) (x2 : Option Addr) (x3 : Option Addr) {K : KH} {σ : H} (h : g171 x1 x2 x3 K σ) : callW Tryz.prog 171 [.pointer x1, .pointer x2, .pointer x3] K σ := call_of_body mixed Tryz.func171 (by rw [e171]; exact h)


def an172 : Ann := (.q (.q .z))
def g172 (t_1 : Option Addr) (ino_2 : Int) (K : KH) : H -> Prop :=
 alW (.cells ⟨[.pointer t_1]⟩ 108 (0, 0)) (fun b3 => alW (.cells ⟨[.int .i64 ino_2]⟩ 3 (0, 0)) (fun b4 => K (.func (.func 222) ⟨[]⟩ ⟨[.pointer (some ⟨b3, 0, none⟩), .pointer (some ⟨b4, 0, none⟩)]⟩)))
theorem e172 (t_1 : Option Addr) (ino_2 : Int) (K : KH) : bodyF Tryz.prog tau Tryz.f172 an172 [.pointer t_1, .int .i64 ino_2] K = g172 t_1 ino_2 K := by kernel_rfl
theorem c172 (t_1 : Option Addr) (ino_2 : Int) {K : KH} {σ : H} (h : g172 t_1 ino_2 K σ) : callW Tryz.prog 172 [.pointer t_1, .int .i64 ino_2] K σ := call_of_body mixed Tryz.func172 (by rw [e172]; exact h)


def an173 : Ann := (.q (.q .z))
def g173 (n_1 : ByteArray) (n_2 : Int) (n_3 : Bool) (n_4 : ByteArray) (n_5 : Sl) (K : KH) : H -> Prop :=
 alW (.cells ⟨[.string n_1, .int .i64 n_2, .bool n_3, .string n_4, .slice n_5.base n_5.len n_5.cap]⟩ 73 (0, 0)) (fun b6 => rdT (rdA 5 b6 0) (.one (.agg [.str, (.int .i64), .bool, .str, .slc])) (fun (x7 : ByteArray) (x8 : Int) (x9 : Bool) (x10 : ByteArray) (x11 : Sl) => callT Tryz.prog 223 [.agg ⟨[.string x7, .int .i64 x8, .bool x9, .string x10, .slice x11.base x11.len x11.cap]⟩, .int .i64 14] kI (fun (x12 : Int) => K (.int .i64 x12))))
theorem e173 (n_1 : ByteArray) (n_2 : Int) (n_3 : Bool) (n_4 : ByteArray) (n_5 : Sl) (K : KH) : bodyF Tryz.prog tau Tryz.f173 an173 [.agg ⟨[.string n_1, .int .i64 n_2, .bool n_3, .string n_4, .slice n_5.base n_5.len n_5.cap]⟩] K = g173 n_1 n_2 n_3 n_4 n_5 K := by kernel_rfl
theorem c173 (n_1 : ByteArray) (n_2 : Int) (n_3 : Bool) (n_4 : ByteArray) (n_5 : Sl) {K : KH} {σ : H} (h : g173 n_1 n_2 n_3 n_4 n_5 K σ) : callW Tryz.prog 173 [.agg ⟨[.string n_1, .int .i64 n_2, .bool n_3, .string n_4, .slice n_5.base n_5.len n_5.cap]⟩] K σ := call_of_body mixed Tryz.func173 (by rw [e173]; exact h)


def an176 : Ann := (.q (.q .z))
def g176 (s_1 : ByteArray) (prefix_2 : ByteArray) (K : KH) : H -> Prop :=
 brW (decide ((((s_1.size : Nat) : Int) : Int) >= ((prefix_2.size : Nat) : Int))) (ifW (bndOk (some ((prefix_2.size : Nat) : Int)) s_1.size /\ bndOk none (((prefix_2.size : Nat) : Int).toNat)) (K (.bool (strEq (s_1.extract 0 (((prefix_2.size : Nat) : Int).toNat)) prefix_2)))) (K (.bool false))
theorem e176 (s_1 : ByteArray) (prefix_2 : ByteArray) (K : KH) : bodyF Tryz.prog tau Tryz.f176 an176 [.string s_1, .string prefix_2] K = g176 s_1 prefix_2 K := by kernel_rfl
theorem c176 (s_1 : ByteArray) (prefix_2 : ByteArray) {K : KH} {σ : H} (h : g176 s_1 prefix_2 K σ) : callW Tryz.prog 176 [.string s_1, .string prefix_2] K σ := call_of_body mixed Tryz.func176 (by rw [e176]; exact h)


def an182 : Ann := (.q (.q .z))
def g182 (x1 : Option Addr) (K : KH) : H -> Prop :=
 ptrW x1 (fun b2 o3 => rdT (rdC b2 o3) kI (fun (x4 : Int) => brW (decide ((x4 : Int) >= 0)) (ptrW x1 (fun b5 o6 => rdT (rdC b5 o6) kI (fun (x7 : Int) => callT Tryz.prog 161 [.bool (decide ((x7 : Int) <= 511)), .int .i64 2] kI (fun (x8 : Int) => K (.int .i64 x8))))) (callT Tryz.prog 161 [.bool false, .int .i64 2] kI (fun (x9 : Int) => K (.int .i64 x9)))))
theorem e182 (x1 : Option Addr) (K : KH) : bodyF Tryz.prog tau Tryz.f182 an182 [.pointer x1] K = g182 x1 K := by kernel_rfl
theorem c182 (x1 : Option Addr) {K : KH} {σ : H} (h : g182 x1 K σ) : callW Tryz.prog 182 [.pointer x1] K σ := call_of_body mixed Tryz.func182 (by rw [e182]; exact h)


def an183 : Ann := (.q (.q .z))
def g183 (x1 : Option Addr) (x2 : Option Addr) (K : KH) : H -> Prop :=
 ptrW x1 (fun b3 o4 => rdT (rdC b3 o4) kP (fun x5 => ptrW x2 (fun b6 o7 => rdT (rdC b6 o7) kI (fun (x8 : Int) => callT Tryz.prog 138 [.pointer x5, .int .i64 x8] kP (fun x9 => callT Tryz.prog 161 [.bool (!x9.isNone), .int .i64 5] kI (fun (x10 : Int) => K (.int .i64 x10)))))))
theorem e183 (x1 : Option Addr) (x2 : Option Addr) (K : KH) : bodyF Tryz.prog tau Tryz.f183 an183 [.pointer x1, .pointer x2] K = g183 x1 x2 K := by kernel_rfl
theorem c183 (x1 : Option Addr) (x2 : Option Addr) {K : KH} {σ : H} (h : g183 x1 x2 K σ) : callW Tryz.prog 183 [.pointer x1, .pointer x2] K σ := call_of_body mixed Tryz.func183 (by rw [e183]; exact h)


def an184 : Ann := (.q (.n (.reg (rn 5) [[],[0],[0,1],[],(rn 4)]) (.n (.q (.blk (.loop [(2,.i),(3,.i),(12,.l),(13,.i),(14,.i)] (.q (.n (.cond .z .z) (.seq (some [(2,.i),(3,.i),(12,.l),(13,.i),(14,.i)]) (.blk (.q (.n (.q (.cond .z .z)) (.q .r)))) .r)))))) (.q .z))))
def g184 (n_1 : ByteArray) (n_2 : Int) (n_3 : Bool) (n_4 : ByteArray) (n_5 : Sl) (K : KH) : H -> Prop :=
 alW (.cells ⟨[.string n_1, .int .i64 n_2, .bool n_3, .string n_4, .slice n_5.base n_5.len n_5.cap]⟩ 73 (0, 0)) (fun b6 => rdT (rdC b6 3) kS (fun (x7 : ByteArray) => rdT (rdC b6 4) kL (fun x8 => loopW [.sc (.int .i64), .sc (.int .i64), .sc .slc, .sc (.int .i64), .sc (.int .i64)] (fun (R9 : Int -> Int -> Sl -> Int -> Int -> H -> Prop) => (fun (inodes_10 : Int) (bytes_11 : Int) (x12 : Sl) (x13 : Int) (x14 : Int) => brW (decide ((x14 : Int) < x13))
 (letJ (T := Int -> Int -> Sl -> Int -> Int -> H -> Prop) (fun inodes_16 bytes_17 x18 x19 x20 => R9 inodes_16 bytes_17 x18 x19 (IntKind.i64.wrap (x20 + 1))) (fun j15 => ptrW x12.base (fun b21 o22 => ifW (0 <= x14 /\ x14 < ((x12.len : Nat) : Int)) (rdT (rdA 5 b21 (o22 + x14.toNat * 5)) (.one (.agg [.str, (.int .i64), .bool, .str, .slc])) (fun (x23 : ByteArray) (x24 : Int) (x25 : Bool) (x26 : ByteArray) (x27 : Sl) =>
 alW (.cells ⟨[.string (⟨⟨[]⟩⟩ : ByteArray), .int .i64 0, .bool false, .string (⟨⟨[]⟩⟩ : ByteArray), .slice none 0 0]⟩ 73 (0, 0)) (fun b28 => stW Tryz.prog 73 (.pointer (some ⟨b28, 0, none⟩)) (.agg ⟨[.string x23, .int .i64 x24, .bool x25, .string x26, .slice x27.base x27.len x27.cap]⟩) (rdT (rdA 5 b28 0) (.one (.agg [.str, (.int .i64), .bool, .str, .slc])) (fun (x29 : ByteArray) (x30 : Int) (x31 : Bool) (x32 : ByteArray) (x33 : Sl) =>
 callT Tryz.prog 103 [.agg ⟨[.string x29, .int .i64 x30, .bool x31, .string x32, .slice x33.base x33.len x33.cap]⟩] kB (fun x34 => brW x34 (j15 inodes_10 bytes_11 x12 x13 x14) (rdT (rdA 5 b28 0) (.one (.agg [.str, (.int .i64), .bool, .str, .slc])) (fun (x35 : ByteArray) (x36 : Int) (x37 : Bool) (x38 : ByteArray) (x39 : Sl) =>
 callT Tryz.prog 184 [.agg ⟨[.string x35, .int .i64 x36, .bool x37, .string x38, .slice x39.base x39.len x39.cap]⟩] (.tup [.sc (.int .i64), .sc (.int .i64)]) (fun (x40 : Int) (x41 : Int) => j15 (IntKind.i64.wrap (inodes_10 + x40)) (IntKind.i64.wrap (bytes_11 + x41)) x12 x13 x14)))))))))))) (K (.tuple ⟨[.int .i64 inodes_10, .int .i64 bytes_11]⟩)))) (fun (R42 : Int -> Int -> Sl -> Int -> Int -> H -> Prop) => R42 1 ((x7.size : Nat) : Int) x8 ((x8.len : Nat) : Int) 0))))
theorem e184 (n_1 : ByteArray) (n_2 : Int) (n_3 : Bool) (n_4 : ByteArray) (n_5 : Sl) (K : KH) : bodyF Tryz.prog tau Tryz.f184 an184 [.agg ⟨[.string n_1, .int .i64 n_2, .bool n_3, .string n_4, .slice n_5.base n_5.len n_5.cap]⟩] K = g184 n_1 n_2 n_3 n_4 n_5 K := by kernel_rfl
theorem c184 (n_1 : ByteArray) (n_2 : Int) (n_3 : Bool) (n_4 : ByteArray) (n_5 : Sl) {K : KH} {σ : H} (h : g184 n_1 n_2 n_3 n_4 n_5 K σ) : callW Tryz.prog 184 [.agg ⟨[.string n_1, .int .i64 n_2, .bool n_3, .string n_4, .slice n_5.base n_5.len n_5.cap]⟩] K σ := call_of_body mixed Tryz.func184 (by rw [e184]; exact h)


def an204 : Ann := (.q (.n (.q (.h)) (.q (.blk (.loop [(0,.w),(1,.p),(2,.p),(23,.l),(24,.i),(25,.i)] (.q (.n (.cond .z .z) (.n (.blk (.q (.n (.reg (rn 13) [[],[],[1],[1,2],[],[1,2,3,4],(rn 6),(rn 7),(rn 8),(rn 8),[],[0,1,2,3,4,5,6,7,8,10],(rn 12)]) (.q (.seq (some [(0,.w),(1,.p),(2,.p),(23,.l),(24,.i),(25,.i),(47,.w),(48,.w),(49,.b)]) .r (.cond .z .z)))))) .r))))))))
def g204 (yield_1 : Value) (x2 : Option Addr) (x3 : Option Addr) (K : KH) : H -> Prop :=
 ptrW x2 (fun b4 o5 => rdT (rdC b4 o5) kP (fun x6 => ptrW x3 (fun b7 o8 => rdT (rdC b7 o8) kS (fun (x9 : ByteArray) => callT Tryz.prog 17 [.pointer x6, .string (⟨⟨[47]⟩⟩ : ByteArray), .string x9] (.tup [.sc .slc, .sc (.int .i64)]) (fun (x10 : Sl) (x11 : Int) => brW ((x11 : Int) != 0) (cvalT Tryz.prog yield_1 [.agg ⟨[.string (⟨⟨[]⟩⟩ : ByteArray), .int .i64 0, .bool false, .string (⟨⟨[]⟩⟩ : ByteArray), .slice none 0 0]⟩, .int .i64 x11] kB (fun _x12 => K (.tuple ⟨[]⟩)))
 (loopW [.sc .raw, .sc .ptr, .sc .ptr, .sc .slc, .sc (.int .i64), .sc (.int .i64)] (fun (R13 : Value -> Option Addr -> Option Addr -> Sl -> Int -> Int -> H -> Prop) => (fun (yield_14 : Value) (x15 : Option Addr) (x16 : Option Addr) (x17 : Sl) (x18 : Int) (x19 : Int) => brW (decide ((x19 : Int) < x18)) (ptrW x17.base (fun b20 o21 => ifW (0 <= x19 /\ x19 < ((x17.len : Nat) : Int)) (rdT (rdC b20 (o21 + x19.toNat * 1)) kS (fun (x22 : ByteArray) => ptrW x15 (fun b23 o24 =>
 rdT (rdA 1 b23 o24) (.one (.agg [.ptr])) (fun x25 => ptrW x16 (fun b26 o27 => rdT (rdC b26 o27) kS (fun (x28 : ByteArray) => callT Tryz.prog 205 [.string x28, .string (⟨⟨[47]⟩⟩ : ByteArray)] kS (fun (x29 : ByteArray) => andW (fun σ => (rdA 1 b23 o24) σ = some (.agg ⟨[.pointer x25]⟩)) (ifW (x29.size + (⟨⟨[47]⟩⟩ : ByteArray).size <= 9223372036854775807) (ifW ((x29 ++ (⟨⟨[47]⟩⟩ : ByteArray)).size + x22.size <= 9223372036854775807)
 (callT Tryz.prog 87 [.agg ⟨[.pointer x25]⟩, .string ((x29 ++ (⟨⟨[47]⟩⟩ : ByteArray)) ++ x22)] (.tup [.agg [.str, (.int .i64), .bool, .str, .slc], .sc (.int .i64)]) (fun (x30 : ByteArray) (x31 : Int) (x32 : Bool) (x33 : ByteArray) (x34 : Sl) (x35 : Int) => alW (.cells ⟨[.string (⟨⟨[]⟩⟩ : ByteArray), .int .i64 0, .bool false, .string (⟨⟨[]⟩⟩ : ByteArray), .slice none 0 0]⟩ 73 (0, 0)) (fun b36 =>
 stW Tryz.prog 73 (.pointer (some ⟨b36, 0, none⟩)) (.agg ⟨[.string x30, .int .i64 x31, .bool x32, .string x33, .slice x34.base x34.len x34.cap]⟩) (stW Tryz.prog 9 (.pointer (some ⟨b36, 0, none⟩)) (.string x22) (letJ (T := Value -> Option Addr -> Option Addr -> Sl -> Int -> Int -> Value -> Value -> Bool -> H -> Prop) (fun yield_38 x39 x40 x41 x42 x43 _x44 _x45 x46 => brW x46 (K (.tuple ⟨[]⟩)) (R13 yield_38 x39 x40 x41 x42 (IntKind.i64.wrap (x43 + 1)))) (fun j37 =>
 rdT (rdA 5 b36 0) (.one (.agg [.str, (.int .i64), .bool, .str, .slc])) (fun (x47 : ByteArray) (x48 : Int) (x49 : Bool) (x50 : ByteArray) (x51 : Sl) => cvalT Tryz.prog yield_14 [.agg ⟨[.string x47, .int .i64 x48, .bool x49, .string x50, .slice x51.base x51.len x51.cap]⟩, .int .i64 x35] kB (fun x52 => brW (!x52) (j37 yield_14 x15 x16 x17 x18 x19 (.tuple ⟨[]⟩) (.tuple ⟨[]⟩) true) (j37 yield_14 x15 x16 x17 x18 x19 (.int .i64 x35) (.bool ((x35 : Int) != 0)) ((x35 : Int) != 0)))))))))))))))))))))
 (K (.tuple ⟨[]⟩)))) (fun (R53 : Value -> Option Addr -> Option Addr -> Sl -> Int -> Int -> H -> Prop) => R53 yield_1 x2 x3 x10 ((x10.len : Nat) : Int) 0)))))))
theorem e204 (yield_1 : Value) (x2 : Option Addr) (x3 : Option Addr) (K : KH) : bodyF Tryz.prog tau Tryz.f204 an204 [yield_1, .pointer x2, .pointer x3] K = g204 yield_1 x2 x3 K := by kernel_rfl
theorem c204 (yield_1 : Value) (x2 : Option Addr) (x3 : Option Addr) {K : KH} {σ : H} (h : g204 yield_1 x2 x3 K σ) : callW Tryz.prog 204 [yield_1, .pointer x2, .pointer x3] K σ := call_of_body mixed Tryz.func204 (by rw [e204]; exact h)


def an205 : Ann := (.q (.q .z))
def g205 (s_1 : ByteArray) (suffix_2 : ByteArray) (K : KH) : H -> Prop :=
 callT Tryz.prog 244 [.string s_1, .string suffix_2] kS (fun (x3 : ByteArray) => K (.string x3))
theorem e205 (s_1 : ByteArray) (suffix_2 : ByteArray) (K : KH) : bodyF Tryz.prog tau Tryz.f205 an205 [.string s_1, .string suffix_2] K = g205 s_1 suffix_2 K := by kernel_rfl
theorem c205 (s_1 : ByteArray) (suffix_2 : ByteArray) {K : KH} {σ : H} (h : g205 s_1 suffix_2 K σ) : callW Tryz.prog 205 [.string s_1, .string suffix_2] K σ := call_of_body mixed Tryz.func205 (by rw [e205]; exact h)


def an206 : Ann := (.q (.q .z))
def g206 (x1 : Option Addr) (K : KH) : H -> Prop :=
 ptrW x1 (fun b2 o3 => rdT (rdC b2 (o3 + 4)) kL (fun x4 => K (.bool ((((x4.len : Nat) : Int) : Int) == 0))))
theorem e206 (x1 : Option Addr) (K : KH) : bodyF Tryz.prog tau Tryz.f206 an206 [.pointer x1] K = g206 x1 K := by kernel_rfl
theorem c206 (x1 : Option Addr) {K : KH} {σ : H} (h : g206 x1 K σ) : callW Tryz.prog 206 [.pointer x1] K σ := call_of_body mixed Tryz.func206 (by rw [e206]; exact h)


def an207 : Ann := (.q (.q .z))
def g207 (x1 : Option Addr) (K : KH) : H -> Prop :=
 ptrW x1 (fun b2 o3 => rdT (rdC b2 (o3 + 2)) kB (fun x4 => K (.bool (!x4))))
theorem e207 (x1 : Option Addr) (K : KH) : bodyF Tryz.prog tau Tryz.f207 an207 [.pointer x1] K = g207 x1 K := by kernel_rfl
theorem c207 (x1 : Option Addr) {K : KH} {σ : H} (h : g207 x1 K σ) : callW Tryz.prog 207 [.pointer x1] K σ := call_of_body mixed Tryz.func207 (by rw [e207]; exact h)


def an208 : Ann := (.q (.q .z))
def g208 (l_1 : Sl) (K : KH) : H -> Prop :=
 callT Tryz.prog 245 [.slice l_1.base l_1.len l_1.cap, .func (.func 246) ⟨[]⟩ ⟨[]⟩] kB (fun x2 => K (.bool (!x2)))
theorem e208 (l_1 : Sl) (K : KH) : bodyF Tryz.prog tau Tryz.f208 an208 [.slice l_1.base l_1.len l_1.cap] K = g208 l_1 K := by kernel_rfl
theorem c208 (l_1 : Sl) {K : KH} {σ : H} (h : g208 l_1 K σ) : callW Tryz.prog 208 [.slice l_1.base l_1.len l_1.cap] K σ := call_of_body mixed Tryz.func208 (by rw [e208]; exact h)


def an209 : Ann := (.q (.q .z))
def g209 (x1 : Option Addr) (K : KH) : H -> Prop :=
 ptrW x1 (fun b2 o3 => rdT (rdC b2 (o3 + 3)) kS (fun (x4 : ByteArray) => brW (decide ((((x4.size : Nat) : Int) : Int) >= 1)) (ptrW x1 (fun b5 o6 => rdT (rdC b5 (o6 + 3)) kS (fun (x7 : ByteArray) => brW (decide ((((x7.size : Nat) : Int) : Int) <= 255)) (ptrW x1 (fun b8 o9 => rdT (rdC b8 (o9 + 3)) kS (fun (x10 : ByteArray) => callT Tryz.prog 26 [.string x10, .int .u8 0] kI (fun (x11 : Int) => K (.bool (decide ((x11 : Int) < 0))))))) (K (.bool false))))) (K (.bool false))))
theorem e209 (x1 : Option Addr) (K : KH) : bodyF Tryz.prog tau Tryz.f209 an209 [.pointer x1] K = g209 x1 K := by kernel_rfl
theorem c209 (x1 : Option Addr) {K : KH} {σ : H} (h : g209 x1 K σ) : callW Tryz.prog 209 [.pointer x1] K σ := call_of_body mixed Tryz.func209 (by rw [e209]; exact h)


def an210 : Ann := (.q (.q .z))
def g210 (x1 : Option Addr) (K : KH) : H -> Prop :=
 ptrW x1 (fun b2 o3 => rdT (rdC b2 (o3 + 3)) kS (fun (x4 : ByteArray) => K (.bool (strEq x4 (⟨⟨[]⟩⟩ : ByteArray)))))
theorem e210 (x1 : Option Addr) (K : KH) : bodyF Tryz.prog tau Tryz.f210 an210 [.pointer x1] K = g210 x1 K := by kernel_rfl
theorem c210 (x1 : Option Addr) {K : KH} {σ : H} (h : g210 x1 K σ) : callW Tryz.prog 210 [.pointer x1] K σ := call_of_body mixed Tryz.func210 (by rw [e210]; exact h)


def an211 : Ann := (.q (.n (.q (.blk (.loop [(0,.p),(5,.l),(6,.i),(7,.i)] (.q (.n (.cond .z .z) (.n (.blk (.q (.seq (some [(0,.p),(5,.l),(6,.i),(7,.i),(17,.w),(18,.w),(19,.w),(22,.w),(23,.w),(24,.w),(25,.w),(26,.w),(27,.w),(28,.w),(29,.w),(30,.w),(31,.w),(32,.w),(33,.w),(34,.w),(35,.w),(36,.b)]) (.reg (rn 25) [[],[0],[0,1],[0,1,2],(rn 4),(rn 5),(rn 6),(rn 7),(rn 8),(rn 9),(rn 10),(rn 11),(rn 12),(rn 13),(rn 14),(rn 13),[0,1,2,3,4,5,6,7,8,9,10,11,12,15],(rn 17),(rn 18),(rn 19),(rn 13),[0,1,2,3,4,5,6,7,8,9,10,11,12,20],(rn 22),(rn 23),(rn 24)]) (.h)))) .r)))))) (.q .z)))
def g211 (x1 : Option Addr) (K : KH) : H -> Prop :=
 ptrW x1 (fun b2 o3 => rdT (rdC b2 (o3 + 4)) kL (fun x4 => loopW [.sc .ptr, .sc .slc, .sc (.int .i64), .sc (.int .i64)] (fun (R5 : Option Addr -> Sl -> Int -> Int -> H -> Prop) => (fun (x6 : Option Addr) (x7 : Sl) (x8 : Int) (x9 : Int) => brW (decide ((x9 : Int) < x8)) (ptrW x7.base (fun b10 o11 => ifW (0 <= x9 /\ x9 < ((x7.len : Nat) : Int))
 (rdT (rdA 5 b10 (o11 + x9.toNat * 5)) (.one (.agg [.str, (.int .i64), .bool, .str, .slc])) (fun (x12 : ByteArray) (x13 : Int) (x14 : Bool) (x15 : ByteArray) (x16 : Sl) => alW (.cells ⟨[.string (⟨⟨[]⟩⟩ : ByteArray), .int .i64 0, .bool false, .string (⟨⟨[]⟩⟩ : ByteArray), .slice none 0 0]⟩ 73 (0, 0)) (fun b17 =>
 stW Tryz.prog 73 (.pointer (some ⟨b17, 0, none⟩)) (.agg ⟨[.string x12, .int .i64 x13, .bool x14, .string x15, .slice x16.base x16.len x16.cap]⟩) (letJ (T := Option Addr -> Sl -> Int -> Int -> Value -> Value -> Value -> Value -> Value -> Value -> Value -> Value -> Value -> Value -> Value -> Value -> Value -> Value -> Value -> Value -> Value -> Bool -> H -> Prop) (fun x19 x20 x21 x22 _x23 _x24 _x25 _x26 _x27 _x28 _x29 _x30 _x31 _x32 _x33 _x34 _x35 _x36 _x37 _x38 _x39 x40 => brW x40 (K (.bool false))
 (R5 x19 x20 x21 (IntKind.i64.wrap (x22 + 1)))) (fun j18 => rdT (rdC b17 0) kS (fun (x41 : ByteArray) => callT Tryz.prog 212 [.string x41] kB (fun x42 => brW (!x42) (j18 x6 x7 x8 x9 (.tuple ⟨[]⟩) (.tuple ⟨[]⟩) (.tuple ⟨[]⟩) (.tuple ⟨[]⟩) (.tuple ⟨[]⟩) (.tuple ⟨[]⟩) (.tuple ⟨[]⟩) (.tuple ⟨[]⟩) (.tuple ⟨[]⟩) (.tuple ⟨[]⟩) (.tuple ⟨[]⟩) (.tuple ⟨[]⟩) (.tuple ⟨[]⟩) (.tuple ⟨[]⟩) (.tuple ⟨[]⟩) (.tuple ⟨[]⟩) (.tuple ⟨[]⟩) true)
 (rdT (rdA 5 b17 0) (.one (.agg [.str, (.int .i64), .bool, .str, .slc])) (fun (x43 : ByteArray) (x44 : Int) (x45 : Bool) (x46 : ByteArray) (x47 : Sl) => callT Tryz.prog 154 [.agg ⟨[.string x43, .int .i64 x44, .bool x45, .string x46, .slice x47.base x47.len x47.cap]⟩] kB (fun x48 => brW (!x48)
 (j18 x6 x7 x8 x9 (.agg ⟨[.string x43, .int .i64 x44, .bool x45, .string x46, .slice x47.base x47.len x47.cap]⟩) (.bool x48) (.bool (!x48)) (.tuple ⟨[]⟩) (.tuple ⟨[]⟩) (.tuple ⟨[]⟩) (.tuple ⟨[]⟩) (.tuple ⟨[]⟩) (.tuple ⟨[]⟩) (.tuple ⟨[]⟩) (.tuple ⟨[]⟩) (.tuple ⟨[]⟩) (.tuple ⟨[]⟩) (.tuple ⟨[]⟩) (.tuple ⟨[]⟩) (.tuple ⟨[]⟩) (.tuple ⟨[]⟩) true) (brW (decide ((x9 : Int) > 0)) (ptrW x6 (fun b49 o50 => rdT (rdC b49 (o50 + 4)) kL (fun x51 => ptrW x51.base (fun b52 o53 =>
 ifW (0 <= IntKind.i64.wrap (x9 - 1) /\ IntKind.i64.wrap (x9 - 1) < ((x51.len : Nat) : Int)) (rdT (rdC b52 (o53 + (IntKind.i64.wrap (x9 - 1) : Int).toNat * 5)) kS (fun (x54 : ByteArray) => rdT (rdC b17 0) kS (fun (x55 : ByteArray) =>
 j18 x6 x7 x8 x9 (.agg ⟨[.string x43, .int .i64 x44, .bool x45, .string x46, .slice x47.base x47.len x47.cap]⟩) (.bool x48) (.bool (!x48)) (.int .i64 x9) (.bool (decide ((x9 : Int) > 0))) (.bool true) (.pointer (some ⟨b49, o50 + 4, none⟩)) (.slice x51.base x51.len x51.cap) (.int .i64 x9) (.int .i64 (IntKind.i64.wrap (x9 - 1))) (.pointer (some ⟨b52, o53 + (IntKind.i64.wrap (x9 - 1) : Int).toNat * 5, none⟩)) (.pointer (some ⟨b52, o53 + (IntKind.i64.wrap (x9 - 1) : Int).toNat * 5, none⟩)) (.string x54) (.pointer (some ⟨b17, 0, none⟩)) (.string x55) (.bool (!strLt x54 x55)) (.bool (!strLt x54 x55)) (!strLt x54 x55))))))))
 (j18 x6 x7 x8 x9 (.agg ⟨[.string x43, .int .i64 x44, .bool x45, .string x46, .slice x47.base x47.len x47.cap]⟩) (.bool x48) (.bool (!x48)) (.int .i64 x9) (.bool (decide ((x9 : Int) > 0))) (.bool false) (.tuple ⟨[]⟩) (.tuple ⟨[]⟩) (.tuple ⟨[]⟩) (.tuple ⟨[]⟩) (.tuple ⟨[]⟩) (.tuple ⟨[]⟩) (.tuple ⟨[]⟩) (.tuple ⟨[]⟩) (.tuple ⟨[]⟩) (.tuple ⟨[]⟩) (.bool false) false)))))))))))))) (K (.bool true)))) (fun (R56 : Option Addr -> Sl -> Int -> Int -> H -> Prop) => R56 x1 x4 ((x4.len : Nat) : Int) 0)))
theorem e211 (x1 : Option Addr) (K : KH) : bodyF Tryz.prog tau Tryz.f211 an211 [.pointer x1] K = g211 x1 K := by kernel_rfl
theorem c211 (x1 : Option Addr) {K : KH} {σ : H} (h : g211 x1 K σ) : callW Tryz.prog 211 [.pointer x1] K σ := call_of_body mixed Tryz.func211 (by rw [e211]; exact h)


def an212 : Ann := (.q (.q .z))
def g212 (s_1 : ByteArray) (K : KH) : H -> Prop :=
 brW (decide ((((s_1.size : Nat) : Int) : Int) >= 1)) (brW (decide ((((s_1.size : Nat) : Int) : Int) <= 56)) (callT Tryz.prog 216 [.string s_1, .string (⟨⟨[47, 0]⟩⟩ : ByteArray)] kB (fun x2 => brW (!x2) (brW (!strEq s_1 (⟨⟨[46]⟩⟩ : ByteArray)) (K (.bool (!strEq s_1 (⟨⟨[46, 46]⟩⟩ : ByteArray)))) (K (.bool false))) (K (.bool false)))) (K (.bool false))) (K (.bool false))
theorem e212 (s_1 : ByteArray) (K : KH) : bodyF Tryz.prog tau Tryz.f212 an212 [.string s_1] K = g212 s_1 K := by kernel_rfl
theorem c212 (s_1 : ByteArray) {K : KH} {σ : H} (h : g212 s_1 K σ) : callW Tryz.prog 212 [.string s_1] K σ := call_of_body mixed Tryz.func212 (by rw [e212]; exact h)


def an214 : Ann := (.q (.q (.n (.q (.h)) (.q .z))))
def g214 (x1 : Option Addr) (x2 : Option Addr) (K : KH) : H -> Prop :=
 ptrW x1 (fun b3 o4 => rdT (rdC b3 o4) kP (fun x5 => ptrW x2 (fun b6 o7 => rdT (rdC b6 o7) kI (fun (x8 : Int) => callT Tryz.prog 138 [.pointer x5, .int .i64 x8] kP (fun x9 => brW x9.isNone (K (.int .i64 5)) (ptrW x9 (fun b10 o11 => rdT (rdC b10 o11) kI (fun (x12 : Int) => callT Tryz.prog 161 [.bool ((x12 : Int) == 2), .int .i64 8] kI (fun (x13 : Int) => K (.int .i64 x13))))))))))
theorem e214 (x1 : Option Addr) (x2 : Option Addr) (K : KH) : bodyF Tryz.prog tau Tryz.f214 an214 [.pointer x1, .pointer x2] K = g214 x1 x2 K := by kernel_rfl
theorem c214 (x1 : Option Addr) (x2 : Option Addr) {K : KH} {σ : H} (h : g214 x1 x2 K σ) : callW Tryz.prog 214 [.pointer x1, .pointer x2] K σ := call_of_body mixed Tryz.func214 (by rw [e214]; exact h)


def an215 : Ann := (.q (.n (.q (.h)) (.q .z)))
def g215 (x1 : Option Addr) (K : KH) : H -> Prop :=
 ptrW x1 (fun b2 o3 => rdT (rdC b2 o3) kS (fun (x4 : ByteArray) => brW (decide ((((x4.size : Nat) : Int) : Int) > 56)) (K (.int .i64 3)) (ptrW x1 (fun b5 o6 => rdT (rdC b5 o6) kS (fun (x7 : ByteArray) => brW (!strEq x7 (⟨⟨[]⟩⟩ : ByteArray)) (ptrW x1 (fun b8 o9 => rdT (rdC b8 o9) kS (fun (x10 : ByteArray) => brW (!strEq x10 (⟨⟨[46]⟩⟩ : ByteArray)) (ptrW x1 (fun b11 o12 => rdT (rdC b11 o12) kS (fun (x13 : ByteArray) => brW (!strEq x13 (⟨⟨[46, 46]⟩⟩ : ByteArray)) (ptrW x1 (fun b14 o15 =>
 rdT (rdC b14 o15) kS (fun (x16 : ByteArray) => callT Tryz.prog 216 [.string x16, .string (⟨⟨[47, 0]⟩⟩ : ByteArray)] kB (fun x17 => callT Tryz.prog 161 [.bool (!x17), .int .i64 2] kI (fun (x18 : Int) => K (.int .i64 x18)))))) (callT Tryz.prog 161 [.bool false, .int .i64 2] kI (fun (x19 : Int) => K (.int .i64 x19)))))) (callT Tryz.prog 161 [.bool false, .int .i64 2] kI (fun (x20 : Int) => K (.int .i64 x20)))))) (callT Tryz.prog 161 [.bool false, .int .i64 2] kI (fun (x21 : Int) =>
 K (.int .i64 x21))))))))
theorem e215 (x1 : Option Addr) (K : KH) : bodyF Tryz.prog tau Tryz.f215 an215 [.pointer x1] K = g215 x1 K := by kernel_rfl
theorem c215 (x1 : Option Addr) {K : KH} {σ : H} (h : g215 x1 K σ) : callW Tryz.prog 215 [.pointer x1] K σ := call_of_body mixed Tryz.func215 (by rw [e215]; exact h)


def an216 : Ann := (.q (.q .z))
def g216 (s_1 : ByteArray) (chars_2 : ByteArray) (K : KH) : H -> Prop :=
 callT Tryz.prog 247 [.string s_1, .string chars_2] kI (fun (x3 : Int) => K (.bool (decide ((x3 : Int) >= 0))))
theorem e216 (s_1 : ByteArray) (chars_2 : ByteArray) (K : KH) : bodyF Tryz.prog tau Tryz.f216 an216 [.string s_1, .string chars_2] K = g216 s_1 chars_2 K := by kernel_rfl
theorem c216 (s_1 : ByteArray) (chars_2 : ByteArray) {K : KH} {σ : H} (h : g216 s_1 chars_2 K σ) : callW Tryz.prog 216 [.string s_1, .string chars_2] K σ := call_of_body mixed Tryz.func216 (by rw [e216]; exact h)


def an217 : Ann := (.q (.q (.q .z)))
def g217 (x1 : Option Addr) (x2 : Option Addr) (x3 : Option Addr) (K : KH) : H -> Prop :=
 ptrW x1 (fun b4 o5 => rdT (rdC b4 o5) kP (fun x6 => ptrW x2 (fun b7 o8 => rdT (rdC b7 o8) kI (fun (x9 : Int) => ptrW x3 (fun b10 o11 => rdT (rdC b10 o11) kS (fun (x12 : ByteArray) => callT Tryz.prog 125 [.pointer x6, .int .i64 x9, .string x12] (.tup [.sc (.int .i64), .sc .bool]) (fun (_x13 : Int) (x14 : Bool) => callT Tryz.prog 161 [.bool (!x14), .int .i64 6] kI (fun (x15 : Int) => K (.int .i64 x15)))))))))
theorem e217 (x1 : Option Addr) (x2 : Option Addr) (x3 : Option Addr) (K : KH) : bodyF Tryz.prog tau Tryz.f217 an217 [.pointer x1, .pointer x2, .pointer x3] K = g217 x1 x2 x3 K := by kernel_rfl
theorem c217 (x1 : Option Addr) (x2 : Option Addr) (x3 : Option Addr) {K : KH} {σ : H} (h : g217 x1 x2 x3 K σ) : callW Tryz.prog 217 [.pointer x1, .pointer x2, .pointer x3] K σ := call_of_body mixed Tryz.func217 (by rw [e217]; exact h)


def an218 : Ann := (.q (.n (.reg (rn 30) [[],[0],[0,1],[0,1,2],(rn 4),[],(rn 6),[],[7],[7,8],[7,8,9],[7,8,9,10],(rn 12),(rn 13),(rn 14),(rn 15),(rn 16),(rn 17),(rn 18),(rn 14),(rn 20),(rn 14),[0,1,2,3,4,5,6,7,8,9,10,11,12,13,21],[0,1,2,3,4,5,6,7,8,9,10,11,12,13,21,22],[0,1,2,3,4,5,6,7,8,9,10,11,12,13,21,22,23],[0,1,2,3,4,5,6,7,8,9,10,11,12,13,21,22,23,24],(rn 26),(rn 27),(rn 28),(rn 29)]) .z))
def g218 (x1 : Option Addr) (x2 : Option Addr) (x3 : Option Addr) (K : KH) : H -> Prop :=
 ptrW x1 (fun b4 o5 => rdT (rdC b4 o5) kP (fun x6 => ptrW x6 (fun b7 o8 => rdT (rdC b7 (o8 + 2)) kI (fun (x9 : Int) => ptrW x2 (fun b10 o11 => rdT (rdC b10 o11) kI (fun (x12 : Int) => ptrW x1 (fun b13 o14 => rdT (rdC b13 o14) kP (fun x15 => ptrW x15 (fun b16 o17 => rdT (rdC b16 o17) kI (fun (x18 : Int) => brW (decide (((IntKind.i64.wrap (x9 + x12)) : Int) <= x18)) (ptrW x1 (fun b19 o20 => rdT (rdC b19 o20) kP (fun x21 => ptrW x21 (fun b22 o23 => rdT (rdC b22 (o23 + 3)) kI (fun (x24 : Int) =>
 ptrW x3 (fun b25 o26 => rdT (rdC b25 o26) kI (fun (x27 : Int) => ptrW x1 (fun b28 o29 => rdT (rdC b28 o29) kP (fun x30 => ptrW x30 (fun b31 o32 => rdT (rdC b31 (o32 + 1)) kI (fun (x33 : Int) => callT Tryz.prog 161 [.bool (decide (((IntKind.i64.wrap (x24 + x27)) : Int) <= x33)), .int .i64 10] kI (fun (x34 : Int) => K (.int .i64 x34))))))))))))) (callT Tryz.prog 161 [.bool false, .int .i64 10] kI (fun (x35 : Int) => K (.int .i64 x35)))))))))))))
theorem e218 (x1 : Option Addr) (x2 : Option Addr) (x3 : Option Addr) (K : KH) : bodyF Tryz.prog tau Tryz.f218 an218 [.pointer x1, .pointer x2, .pointer x3] K = g218 x1 x2 x3 K := by kernel_rfl
theorem c218 (x1 : Option Addr) (x2 : Option Addr) (x3 : Option Addr) {K : KH} {σ : H} (h : g218 x1 x2 x3 K σ) : callW Tryz.prog 218 [.pointer x1, .pointer x2, .pointer x3] K σ := call_of_body mixed Tryz.func218 (by rw [e218]; exact h)


def an220 : Ann := (.q (.n (.blk (.q (.cond (.q .z) (.q (.cond (.q .z) (.q (.h))))))) (.q .z)))
def g220 (path_1 : ByteArray) (K : KH) : H -> Prop :=
 brW (strEq path_1 (⟨⟨[]⟩⟩ : ByteArray)) (K (.int .i64 5)) (brW (decide ((((path_1.size : Nat) : Int) : Int) > 255)) (K (.int .i64 3)) (callT Tryz.prog 26 [.string path_1, .int .u8 0] kI (fun (x2 : Int) => brW (decide ((x2 : Int) >= 0)) (K (.int .i64 2)) (K (.int .i64 0)))))
theorem e220 (path_1 : ByteArray) (K : KH) : bodyF Tryz.prog tau Tryz.f220 an220 [.string path_1] K = g220 path_1 K := by kernel_rfl
theorem c220 (path_1 : ByteArray) {K : KH} {σ : H} (h : g220 path_1 K σ) : callW Tryz.prog 220 [.string path_1] K σ := call_of_body mixed Tryz.func220 (by rw [e220]; exact h)


def an221 : Ann := (.q (.q .z))
def g221 (path_1 : ByteArray) (K : KH) : H -> Prop :=
 alW (.cells ⟨[.string path_1]⟩ 9 (0, 0)) (fun b2 => K (.func (.func 248) ⟨[]⟩ ⟨[.pointer (some ⟨b2, 0, none⟩)]⟩))
theorem e221 (path_1 : ByteArray) (K : KH) : bodyF Tryz.prog tau Tryz.f221 an221 [.string path_1] K = g221 path_1 K := by kernel_rfl
theorem c221 (path_1 : ByteArray) {K : KH} {σ : H} (h : g221 path_1 K σ) : callW Tryz.prog 221 [.string path_1] K σ := call_of_body mixed Tryz.func221 (by rw [e221]; exact h)


def an222 : Ann := (.q (.q (.n (.blk (.q (.cond (.q .z) (.q (.h))))) (.q .z))))
def g222 (x1 : Option Addr) (x2 : Option Addr) (K : KH) : H -> Prop :=
 ptrW x1 (fun b3 o4 => rdT (rdC b3 o4) kP (fun x5 => ptrW x2 (fun b6 o7 => rdT (rdC b6 o7) kI (fun (x8 : Int) => callT Tryz.prog 138 [.pointer x5, .int .i64 x8] kP (fun x9 => brW x9.isNone (K (.int .i64 5)) (ptrW x9 (fun b10 o11 => rdT (rdC b10 o11) kI (fun (x12 : Int) => brW ((x12 : Int) == 2) (K (.int .i64 7)) (ptrW x9 (fun b13 o14 => rdT (rdC b13 o14) kI (fun (x15 : Int) => callT Tryz.prog 161 [.bool ((x15 : Int) == 1), .int .i64 2] kI (fun (x16 : Int) => K (.int .i64 x16)))))))))))))
theorem e222 (x1 : Option Addr) (x2 : Option Addr) (K : KH) : bodyF Tryz.prog tau Tryz.f222 an222 [.pointer x1, .pointer x2] K = g222 x1 x2 K := by kernel_rfl
theorem c222 (x1 : Option Addr) (x2 : Option Addr) {K : KH} {σ : H} (h : g222 x1 x2 K σ) : callW Tryz.prog 222 [.pointer x1, .pointer x2] K σ := call_of_body mixed Tryz.func222 (by rw [e222]; exact h)


def an223 : Ann := (.q (.q (.n (.seq (some [(1,.i),(2,.p),(5,.i),(14,.b)]) .r (.h)) (.n (.q (.blk (.loop [(1,.i),(5,.i),(17,.l),(18,.i),(19,.i)] (.q (.n (.cond .z .z) (.n (.blk (.q .r)) .r)))))) (.q .z)))))
def g223 (n_1 : ByteArray) (n_2 : Int) (n_3 : Bool) (n_4 : ByteArray) (n_5 : Sl) (most_6 : Int) (K : KH) : H -> Prop :=
 alW (.cells ⟨[.string n_1, .int .i64 n_2, .bool n_3, .string n_4, .slice n_5.base n_5.len n_5.cap]⟩ 73 (0, 0)) (fun b7 => letJ (T := Int -> Option Addr -> Int -> Bool -> H -> Prop) (fun most_9 n_10 d_11 x12 => brW x12 (K (.int .i64 d_11)) (ptrW n_10 (fun b13 o14 => rdT (rdC b13 (o14 + 4)) kL (fun x15 =>
 loopW [.sc (.int .i64), .sc (.int .i64), .sc .slc, .sc (.int .i64), .sc (.int .i64)] (fun (R16 : Int -> Int -> Sl -> Int -> Int -> H -> Prop) => (fun (most_17 : Int) (d_18 : Int) (x19 : Sl) (x20 : Int) (x21 : Int) => brW (decide ((x21 : Int) < x20)) (ptrW x19.base (fun b22 o23 => ifW (0 <= x21 /\ x21 < ((x19.len : Nat) : Int)) (rdT (rdA 5 b22 (o23 + x21.toNat * 5)) (.one (.agg [.str, (.int .i64), .bool, .str, .slc])) (fun (x24 : ByteArray) (x25 : Int) (x26 : Bool) (x27 : ByteArray) (x28 : Sl) =>
 alW (.cells ⟨[.string (⟨⟨[]⟩⟩ : ByteArray), .int .i64 0, .bool false, .string (⟨⟨[]⟩⟩ : ByteArray), .slice none 0 0]⟩ 73 (0, 0)) (fun b29 => stW Tryz.prog 73 (.pointer (some ⟨b29, 0, none⟩)) (.agg ⟨[.string x24, .int .i64 x25, .bool x26, .string x27, .slice x28.base x28.len x28.cap]⟩) (rdT (rdA 5 b29 0) (.one (.agg [.str, (.int .i64), .bool, .str, .slc])) (fun (x30 : ByteArray) (x31 : Int) (x32 : Bool) (x33 : ByteArray) (x34 : Sl) =>
 callT Tryz.prog 223 [.agg ⟨[.string x30, .int .i64 x31, .bool x32, .string x33, .slice x34.base x34.len x34.cap]⟩, .int .i64 (IntKind.i64.wrap (most_17 - 1))] kI (fun (x35 : Int) => R16 most_17 (if (IntKind.i64.wrap (1 + x35)) > d_18 then (IntKind.i64.wrap (1 + x35)) else d_18) x19 x20 (IntKind.i64.wrap (x21 + 1)))))))))) (K (.int .i64 d_18)))) (fun (R36 : Int -> Int -> Sl -> Int -> Int -> H -> Prop) => R36 most_9 d_11 x15 ((x15.len : Nat) : Int) 0))))) (fun j8 =>
 rdT (rdC b7 1) kI (fun (x37 : Int) => brW ((x37 : Int) != 2) (j8 most_6 (some ⟨b7, 0, none⟩) 1 true) (j8 most_6 (some ⟨b7, 0, none⟩) 1 ((most_6 : Int) == 1)))))
theorem e223 (n_1 : ByteArray) (n_2 : Int) (n_3 : Bool) (n_4 : ByteArray) (n_5 : Sl) (most_6 : Int) (K : KH) : bodyF Tryz.prog tau Tryz.f223 an223 [.agg ⟨[.string n_1, .int .i64 n_2, .bool n_3, .string n_4, .slice n_5.base n_5.len n_5.cap]⟩, .int .i64 most_6] K = g223 n_1 n_2 n_3 n_4 n_5 most_6 K := by kernel_rfl
theorem c223 (n_1 : ByteArray) (n_2 : Int) (n_3 : Bool) (n_4 : ByteArray) (n_5 : Sl) (most_6 : Int) {K : KH} {σ : H} (h : g223 n_1 n_2 n_3 n_4 n_5 most_6 K σ) : callW Tryz.prog 223 [.agg ⟨[.string n_1, .int .i64 n_2, .bool n_3, .string n_4, .slice n_5.base n_5.len n_5.cap]⟩, .int .i64 most_6] K σ := call_of_body mixed Tryz.func223 (by rw [e223]; exact h)


def an244 : Ann := (.q (.n (.q (.h)) (.q .z)))
def g244 (s_1 : ByteArray) (suffix_2 : ByteArray) (K : KH) : H -> Prop :=
 callT Tryz.prog 257 [.string s_1, .string suffix_2] kB (fun x3 => brW x3 (ifW (bndOk (some (IntKind.i64.wrap (((s_1.size : Nat) : Int) - ((suffix_2.size : Nat) : Int)))) s_1.size /\ bndOk none ((IntKind.i64.wrap (((s_1.size : Nat) : Int) - ((suffix_2.size : Nat) : Int))).toNat)) (K (.string (s_1.extract 0 ((IntKind.i64.wrap (((s_1.size : Nat) : Int) - ((suffix_2.size : Nat) : Int))).toNat))))) (K (.string s_1)))
theorem e244 (s_1 : ByteArray) (suffix_2 : ByteArray) (K : KH) : bodyF Tryz.prog tau Tryz.f244 an244 [.string s_1, .string suffix_2] K = g244 s_1 suffix_2 K := by kernel_rfl
theorem c244 (s_1 : ByteArray) (suffix_2 : ByteArray) {K : KH} {σ : H} (h : g244 s_1 suffix_2 K σ) : callW Tryz.prog 244 [.string s_1, .string suffix_2] K σ := call_of_body mixed Tryz.func244 (by rw [e244]; exact h)


def an245 : Ann := (.q (.q .z))
def g245 (s_1 : Sl) (f_2 : Value) (K : KH) : H -> Prop :=
 callT Tryz.prog 258 [.slice s_1.base s_1.len s_1.cap, f_2] kI (fun (x3 : Int) => K (.bool (decide ((x3 : Int) >= 0))))
theorem e245 (s_1 : Sl) (f_2 : Value) (K : KH) : bodyF Tryz.prog tau Tryz.f245 an245 [.slice s_1.base s_1.len s_1.cap, f_2] K = g245 s_1 f_2 K := by kernel_rfl
theorem c245 (s_1 : Sl) (f_2 : Value) {K : KH} {σ : H} (h : g245 s_1 f_2 K σ) : callW Tryz.prog 245 [.slice s_1.base s_1.len s_1.cap, f_2] K σ := call_of_body mixed Tryz.func245 (by rw [e245]; exact h)


def an246 : Ann := (.q (.q .z))
def g246 (is_1 : Value) (K : KH) : H -> Prop :=
 cvalT Tryz.prog is_1 [] kB (fun x2 => K (.bool (!x2)))
theorem e246 (is_1 : Value) (K : KH) : bodyF Tryz.prog tau Tryz.f246 an246 [is_1] K = g246 is_1 K := by kernel_rfl
theorem c246 (is_1 : Value) {K : KH} {σ : H} (h : g246 is_1 K σ) : callW Tryz.prog 246 [is_1] K σ := call_of_body mixed Tryz.func246 (by rw [e246]; exact h)

end Go.Proofs.YtbjbeajbckcecaaGreatDoor

set_option maxRecDepth 100000
namespace Go.Proofs.YtbjbeajbckcecaaGreatDoor
open Go Go.HL
def an247 : Ann := (.q (.n (.q (.h)) (.n (.q (.cond (.q (.seq (some [(0,.s),(5,.sc (.int .i32))]) (.q (.cond .r .z)) (.q .z))) .z)) (.seq (some [(0,.s),(1,.s)]) (.q (.cond (.q (.q (.cond (.n (.q (.blk (.loop [(0,.s),(6,.p),(8,.i)] (.n (.q (.cond .z .z)) (.n (.blk (.q (.h))) .r))))) (.q .z)) .z))) .z)) (.n (.q (.blk (.loop [(1,.s),(45,.p)] (.q (.n (.cond .z .z) (.blk (.q (.q (.h))))))))) (.q .z))))))
def g247 (s_1 : ByteArray) (chars_2 : ByteArray) (K : KH) : H -> Prop :=
 brW (strEq chars_2 (⟨⟨[]⟩⟩ : ByteArray)) (K (.int .i64 (-1))) (brW ((((chars_2.size : Nat) : Int) : Int) == 1) (idxW chars_2 0 (fun c3 => letJ (T := ByteArray -> Int -> H -> Prop) (fun s_5 r_6 => callT Tryz.prog 259 [.string s_5, .int .i32 r_6] kI (fun (x7 : Int) => K (.int .i64 x7))) (fun j4 => brW (decide (((IntKind.i32.wrap (c3.toNat : Int)) : Int) >= 128)) (j4 s_1 65533) (j4 s_1 (IntKind.i32.wrap (c3.toNat : Int)))))) (letJ (T := ByteArray -> ByteArray -> H -> Prop) (fun s_9 chars_10 =>
 vaW Tryz.prog (Instr.range 9 (.string s_9)) kP (fun x11 => loopW [.sc .str, .sc .ptr] (fun (R12 : ByteArray -> Option Addr -> H -> Prop) => (fun (chars_13 : ByteArray) (x14 : Option Addr) => vaW Tryz.prog (Instr.next (.pointer x14) true 0) (.opt [.sc (.int .i64), .sc (.int .i32)]) (K (.int .i64 (-1)), (fun (x15 : Int) (x16 : Int) => callT Tryz.prog 259 [.string chars_13, .int .i32 x16] kI (fun (x17 : Int) => brW (decide ((x17 : Int) >= 0)) (K (.int .i64 x15))
 (R12 chars_13 x14)))))) (fun (R18 : ByteArray -> Option Addr -> H -> Prop) => R18 chars_10 x11))) (fun j8 => callT Tryz.prog 260 [.int .i64 ((s_1.size : Nat) : Int)] kB (fun x19 => brW x19 (callT Tryz.prog 261 [.string chars_2] (.tup [.sc .raw, .sc .bool]) (fun x20 x21 =>
 alW (.cells ⟨[.bool false, .bool false, .bool false, .bool false, .bool false, .bool false, .bool false, .bool false, .bool false, .bool false, .bool false, .bool false, .bool false, .bool false, .bool false, .bool false, .bool false, .bool false, .bool false, .bool false, .bool false, .bool false, .bool false, .bool false, .bool false, .bool false, .bool false, .bool false, .bool false, .bool false, .bool false, .bool false, .bool false, .bool false, .bool false, .bool false, .bool false, .bool false, .bool false, .bool false, .bool false, .bool false, .bool false, .bool false, .bool false, .bool false, .bool false, .bool false, .bool false, .bool false, .bool false, .bool false, .bool false, .bool false, .bool false, .bool false, .bool false, .bool false, .bool false, .bool false, .bool false, .bool false, .bool false, .bool false, .bool false, .bool false, .bool false, .bool false, .bool false, .bool false, .bool false, .bool false, .bool false, .bool false, .bool false, .bool false, .bool false, .bool false, .bool false, .bool false, .bool false, .bool false, .bool false, .bool false, .bool false, .bool false, .bool false, .bool false, .bool false, .bool false, .bool false, .bool false, .bool false, .bool false, .bool false, .bool false, .bool false, .bool false, .bool false, .bool false, .bool false, .bool false, .bool false, .bool false, .bool false, .bool false, .bool false, .bool false, .bool false, .bool false, .bool false, .bool false, .bool false, .bool false, .bool false, .bool false, .bool false, .bool false, .bool false, .bool false, .bool false, .bool false, .bool false, .bool false, .bool false, .bool false, .bool false, .bool false, .bool false, .bool false, .bool false, .bool false, .bool false, .bool false, .bool false, .bool false, .bool false, .bool false, .bool false, .bool false, .bool false, .bool false, .bool false, .bool false, .bool false, .bool false, .bool false, .bool false, .bool false, .bool false, .bool false, .bool false, .bool false, .bool false, .bool false, .bool false, .bool false, .bool false, .bool false, .bool false, .bool false, .bool false, .bool false, .bool false, .bool false, .bool false, .bool false, .bool false, .bool false, .bool false, .bool false, .bool false, .bool false, .bool false, .bool false, .bool false, .bool false, .bool false, .bool false, .bool false, .bool false, .bool false, .bool false, .bool false, .bool false, .bool false, .bool false, .bool false, .bool false, .bool false, .bool false, .bool false, .bool false, .bool false, .bool false, .bool false, .bool false, .bool false, .bool false, .bool false, .bool false, .bool false, .bool false, .bool false, .bool false, .bool false, .bool false, .bool false, .bool false, .bool false, .bool false, .bool false, .bool false, .bool false, .bool false, .bool false, .bool false, .bool false, .bool false, .bool false, .bool false, .bool false, .bool false, .bool false, .bool false, .bool false, .bool false, .bool false, .bool false, .bool false, .bool false, .bool false, .bool false, .bool false, .bool false, .bool false, .bool false, .bool false, .bool false, .bool false, .bool false, .bool false, .bool false, .bool false, .bool false, .bool false, .bool false, .bool false, .bool false, .bool false, .bool false, .bool false, .bool false, .bool false, .bool false, .bool false]⟩ 285 (0, 0)) (fun b22 =>
 stW Tryz.prog 285 (.pointer (some ⟨b22, 0, none⟩)) (x20) (brW x21 (loopW [.sc .str, .sc .ptr, .sc (.int .i64)] (fun (R23 : ByteArray -> Option Addr -> Int -> H -> Prop) => (fun (s_24 : ByteArray) (as_25 : Option Addr) (i_26 : Int) => brW (decide ((i_26 : Int) < ((s_24.size : Nat) : Int))) (idxW s_24 i_26 (fun c27 => callT Tryz.prog 262 [.pointer as_25, .int .u8 (c27.toNat : Int)] kB (fun x28 => brW x28 (K (.int .i64 i_26)) (R23 s_24 as_25 (IntKind.i64.wrap (i_26 + 1))))))
 (K (.int .i64 (-1))))) (fun (R29 : ByteArray -> Option Addr -> Int -> H -> Prop) => R29 s_1 (some ⟨b22, 0, none⟩) 0)) (j8 s_1 chars_2))))) (j8 s_1 chars_2)))))
theorem e247 (s_1 : ByteArray) (chars_2 : ByteArray) (K : KH) : bodyF Tryz.prog tau Tryz.f247 an247 [.string s_1, .string chars_2] K = g247 s_1 chars_2 K := by kernel_rfl
theorem c247 (s_1 : ByteArray) (chars_2 : ByteArray) {K : KH} {σ : H} (h : g247 s_1 chars_2 K σ) : callW Tryz.prog 247 [.string s_1, .string chars_2] K σ := call_of_body mixed Tryz.func247 (by rw [e247]; exact h)


def an248 : Ann := (.q (.q (.seq (some [(2,.p),(3,.p),(4,.p)]) (.q (.blk (.rf [.s] .r (.blk (.n (.seq (some [(2,.p),(3,.p),(4,.p),(5,.s),(14,.b)]) .r (.cond .z .z)) (.n (.seq (some [(3,.p),(4,.p),(5,.s),(21,.b)]) .r (.cond .z .z)) .r)))))) (.q (.cond .r .z)))))
def g248 (yield_1 : Value) (x2 : Option Addr) (K : KH) : H -> Prop :=
 oneK yield_1 (alW (.cells ⟨[yield_1]⟩ 273 (0, 0)) (fun b3 => alW (.cells ⟨[.string (⟨⟨[]⟩⟩ : ByteArray)]⟩ 9 (0, 0)) (fun b4 => alW (.cells ⟨[.bool false]⟩ 4 (0, 0)) (fun b5 => stW Tryz.prog 9 (.pointer (some ⟨b4, 0, none⟩)) (.string (⟨⟨[]⟩⟩ : ByteArray)) (stW Tryz.prog 4 (.pointer (some ⟨b5, 0, none⟩)) (.bool false) (letJ (T := Option Addr -> Option Addr -> Option Addr -> H -> Prop) (fun yield_7 ahead_8 some_9 => ptrW some_9 (fun b10 o11 => rdT (rdC b10 o11) kB (fun x12 => brW x12
 (ptrW yield_7 (fun b13 o14 => rdT (rdC b13 o14) kR (fun x15 => ptrW ahead_8 (fun b16 o17 => rdT (rdC b16 o17) kS (fun (x18 : ByteArray) => cvalT Tryz.prog x15 [.string x18, .bool true] kB (fun _x19 => K (.tuple ⟨[]⟩))))))) (K (.tuple ⟨[]⟩))))) (fun j6 => ptrW x2 (fun b20 o21 => rdT (rdC b20 o21) kS (fun (x22 : ByteArray) => callT Tryz.prog 249 [.string x22, .string (⟨⟨[47]⟩⟩ : ByteArray)] kR (fun x23 => funW x23 (fun (g50 : FuncId) (as51 cs52 : List Value) =>
 rfW Tryz.prog none g50 as51 cs52 [.sc .str] (fun (l24 : Nat) (obj25 : LoopState -> Option Code -> Obj) (K26 : Value -> H -> Prop) => (fun (x27 : ByteArray) => begW l24 obj25 (letJ (T := Option Addr -> Option Addr -> Option Addr -> ByteArray -> Bool -> H -> Prop) (fun yield_29 ahead_30 some_31 s_32 x33 => brW x33 (roundK l24 obj25 K26 none true .ready) (letJ (T := Option Addr -> Option Addr -> ByteArray -> Bool -> H -> Prop) (fun ahead_35 some_36 s_37 x38 => brW x38
 (roundK l24 obj25 K26 (some .ret) false .done) (stW Tryz.prog 9 (.pointer ahead_35) (.string s_37) (stW Tryz.prog 4 (.pointer some_36) (.bool true) (roundK l24 obj25 K26 none true .ready)))) (fun j34 => ptrW some_31 (fun b39 o40 => rdT (rdC b39 o40) kB (fun x41 => brW x41 (ptrW yield_29 (fun b42 o43 => rdT (rdC b42 o43) kR (fun x44 => ptrW ahead_30 (fun b45 o46 => rdT (rdC b45 o46) kS (fun (x47 : ByteArray) => cvalT Tryz.prog x44 [.string x47, .bool false] kB (fun x48 =>
 j34 ahead_30 some_31 s_32 (!x48))))))) (j34 ahead_30 some_31 s_32 false)))))) (fun j28 => brW (strEq x27 (⟨⟨[]⟩⟩ : ByteArray)) (j28 (some ⟨b3, 0, none⟩) (some ⟨b4, 0, none⟩) (some ⟨b5, 0, none⟩) x27 true) (j28 (some ⟨b3, 0, none⟩) (some ⟨b4, 0, none⟩) (some ⟨b5, 0, none⟩) x27 (strEq x27 (⟨⟨[46]⟩⟩ : ByteArray))))))) (j6 (some ⟨b3, 0, none⟩) (some ⟨b4, 0, none⟩) (some ⟨b5, 0, none⟩)) (fun i49 => exW i49 0 (j6 (some ⟨b3, 0, none⟩) (some ⟨b4, 0, none⟩) (some ⟨b5, 0, none⟩)) (nW))
 (K (.tuple ⟨[]⟩)))))))))))))
theorem e248 (yield_1 : Value) (x2 : Option Addr) (K : KH) : bodyF Tryz.prog tau Tryz.f248 an248 [yield_1, .pointer x2] K = g248 yield_1 x2 K := by kernel_rfl
theorem c248 (yield_1 : Value) (x2 : Option Addr) {K : KH} {σ : H} (h : g248 yield_1 x2 K σ) : callW Tryz.prog 248 [yield_1, .pointer x2] K σ := call_of_body mixed Tryz.func248 (by rw [e248]; exact h)


def an249 : Ann := (.q (.q .z))
def g249 (s_1 : ByteArray) (sep_2 : ByteArray) (K : KH) : H -> Prop :=
 callT Tryz.prog 263 [.string s_1, .string sep_2, .int .i64 0] kR (fun x3 => K (x3))
theorem e249 (s_1 : ByteArray) (sep_2 : ByteArray) (K : KH) : bodyF Tryz.prog tau Tryz.f249 an249 [.string s_1, .string sep_2] K = g249 s_1 sep_2 K := by kernel_rfl
theorem c249 (s_1 : ByteArray) (sep_2 : ByteArray) {K : KH} {σ : H} (h : g249 s_1 sep_2 K σ) : callW Tryz.prog 249 [.string s_1, .string sep_2] K σ := call_of_body mixed Tryz.func249 (by rw [e249]; exact h)


def an257 : Ann := (.q (.q .z))
def g257 (s_1 : ByteArray) (suffix_2 : ByteArray) (K : KH) : H -> Prop :=
 brW (decide ((((s_1.size : Nat) : Int) : Int) >= ((suffix_2.size : Nat) : Int))) (ifW (bndOk none s_1.size /\ bndOk (some (IntKind.i64.wrap (((s_1.size : Nat) : Int) - ((suffix_2.size : Nat) : Int)))) (s_1.size)) (K (.bool (strEq (s_1.extract ((IntKind.i64.wrap (((s_1.size : Nat) : Int) - ((suffix_2.size : Nat) : Int))).toNat) s_1.size) suffix_2)))) (K (.bool false))
theorem e257 (s_1 : ByteArray) (suffix_2 : ByteArray) (K : KH) : bodyF Tryz.prog tau Tryz.f257 an257 [.string s_1, .string suffix_2] K = g257 s_1 suffix_2 K := by kernel_rfl
theorem c257 (s_1 : ByteArray) (suffix_2 : ByteArray) {K : KH} {σ : H} (h : g257 s_1 suffix_2 K σ) : callW Tryz.prog 257 [.string s_1, .string suffix_2] K σ := call_of_body mixed Tryz.func257 (by rw [e257]; exact h)


def an258 : Ann := (.q (.n (.q (.blk (.loop [(0,.l),(1,.w),(7,.i),(8,.i)] (.q (.n (.cond .z .z) (.n (.blk (.q (.q (.h)))) .r)))))) (.q .z)))
def g258 (s_1 : Sl) (f_2 : Value) (K : KH) : H -> Prop :=
 loopW [.sc .slc, .sc .raw, .sc (.int .i64), .sc (.int .i64)] (fun (R3 : Sl -> Value -> Int -> Int -> H -> Prop) => (fun (s_4 : Sl) (f_5 : Value) (x6 : Int) (x7 : Int) => brW (decide ((x7 : Int) < x6)) (ptrW s_4.base (fun b8 o9 => ifW (0 <= x7 /\ x7 < ((s_4.len : Nat) : Int)) (rdT (rdC b8 (o9 + x7.toNat * 1)) kR (fun x10 => cvalT Tryz.prog f_5 [x10] kB (fun x11 => brW x11 (K (.int .i64 x7)) (R3 s_4 f_5 x6 (IntKind.i64.wrap (x7 + 1))))))))
 (K (.int .i64 (-1))))) (fun (R12 : Sl -> Value -> Int -> Int -> H -> Prop) => R12 s_1 f_2 ((s_1.len : Nat) : Int) 0)
theorem e258 (s_1 : Sl) (f_2 : Value) (K : KH) : bodyF Tryz.prog tau Tryz.f258 an258 [.slice s_1.base s_1.len s_1.cap, f_2] K = g258 s_1 f_2 K := by kernel_rfl
theorem c258 (s_1 : Sl) (f_2 : Value) {K : KH} {σ : H} (h : g258 s_1 f_2 K σ) : callW Tryz.prog 258 [.slice s_1.base s_1.len s_1.cap, f_2] K σ := call_of_body mixed Tryz.func258 (by rw [e258]; exact h)


def an259 : Ann := (.q (.blk (.seq (some [(0,.s),(1,.sc (.int .i32)),(160,.b)]) .r (.cond (.q .z) (.q (.cond (.n (.q (.blk (.loop [(175,.p)] (.q (.n (.cond .z .z) (.blk (.q (.q (.h))))))))) (.q .z)) (.q (.cond (.q .z) (.blk (.q (.q (.q (.q (.n (.blk (.loop [(0,.s),(7,.s),(8,.i),(9,.i)] (.n (.q (.cond .z .z)) (.blk (.blk (.seq (some [(0,.s),(7,.s),(8,.i),(9,.i)]) (.n (.reg (rn 7) [[],[],[0,1],[],[],[3,4],(rn 6)]) (.cond (.n (.reg (rn 9) [[],[],[1],[0,1,2],[],[],[4,5],(rn 7),(rn 8)]) (.n (.q (.h)) .r)) .z)) (.n (.q (.blk (.loop [(0,.s),(7,.s),(8,.i),(9,.i),(12,.i)] (.n (.q (.cond .z .z)) (.n (.blk (.n (.reg (rn 11) [[],[],[],[1,2],(rn 4),[],[],[],[6,7],[5,6,7,8],(rn 10)]) (.cond .z .z))) .r))))) (.n (.q .z) (.n .z (.q (.q (.q (.cond .z .z))))))))))))) (.n (.q .z) (.n .z (.n (.cond (.q (.q (.h))) (.blk (.q (.q (.n .z (.blk (.loop [] (.n (.q (.cond .z .z)) (.n (.blk (.q (.cond (.n (.q (.blk (.loop [] (.n (.q (.cond .z .z)) (.n (.blk (.q (.cond .z .z))) .r))))) (.q .z)) .z))) .r))))))))) (.q .z))))))))))))))))))
def g259 (s_1 : ByteArray) (r_2 : Int) (K : KH) : H -> Prop :=
 letJ (T := ByteArray -> Int -> Bool -> H -> Prop) (fun s_4 r_5 x6 => brW x6 (callT Tryz.prog 26 [.string s_4, .int .u8 (IntKind.u8.wrap r_5)] kI (fun (x7 : Int) => K (.int .i64 x7))) (brW ((r_5 : Int) == 65533) (vaW Tryz.prog (Instr.range 9 (.string s_4)) kP (fun x8 => loopW [.sc .ptr] (fun (R9 : Option Addr -> H -> Prop) => (fun x10 => vaW Tryz.prog (Instr.next (.pointer x10) true 0) (.opt [.sc (.int .i64), .sc (.int .i32)]) (K (.int .i64 (-1)), (fun (x11 : Int) (x12 : Int) =>
 brW ((x12 : Int) == 65533) (K (.int .i64 x11)) (R9 x10))))) (fun (R13 : Option Addr -> H -> Prop) => R13 x8))) (callT Tryz.prog 265 [.int .i32 r_5] kB (fun x14 => brW (!x14) (K (.int .i64 (-1))) (vaW Tryz.prog (convert 21 9 (.int .i32 r_5)) kS (fun (x15 : ByteArray) => loopW [.sc .str, .sc .str, .sc (.int .i64), .sc (.int .i64)] (fun (R16 : ByteArray -> ByteArray -> Int -> Int -> H -> Prop) => (fun (s_17 : ByteArray) (rs_18 : ByteArray) (last_19 : Int) (i_20 : Int) =>
 brW (decide ((i_20 : Int) < ((s_17.size : Nat) : Int))) (letJ (T := ByteArray -> ByteArray -> Int -> Int -> H -> Prop) (fun s_22 rs_23 last_24 i_25 => loopW [.sc .str, .sc .str, .sc (.int .i64), .sc (.int .i64), .sc (.int .i64)] (fun (R26 : ByteArray -> ByteArray -> Int -> Int -> Int -> H -> Prop) => (fun (s_27 : ByteArray) (rs_28 : ByteArray) (last_29 : Int) (i_30 : Int) (j_31 : Int) => brW (decide ((j_31 : Int) < ((rs_28.size : Nat) : Int))) (idxW s_27 (IntKind.i64.wrap (i_30 - j_31)) (fun c32 =>
 idxW rs_28 (IntKind.i64.wrap (last_29 - j_31)) (fun c33 => brW (((c32.toNat : Int) : Int) != (c33.toNat : Int)) (nW) (R26 s_27 rs_28 last_29 i_30 (IntKind.i64.wrap (j_31 + 1)))))) (K (.int .i64 (IntKind.i64.wrap (i_30 - last_29)))))) (fun (R34 : ByteArray -> ByteArray -> Int -> Int -> Int -> H -> Prop) => R34 s_22 rs_23 last_24 i_25 1)) (fun j21 => idxW s_17 i_20 (fun c35 => idxW rs_18 last_19 (fun c36 => brW (((c35.toNat : Int) : Int) != (c36.toNat : Int))
 (ifW (bndOk none s_17.size /\ bndOk (some (IntKind.i64.wrap (i_20 + 1))) (s_17.size)) (idxW rs_18 last_19 (fun c37 => callT Tryz.prog 26 [.string (s_17.extract ((IntKind.i64.wrap (i_20 + 1)).toNat) s_17.size), .int .u8 (c37.toNat : Int)] kI (fun (x38 : Int) => brW (decide ((x38 : Int) < 0)) (K (.int .i64 (-1))) (j21 s_17 rs_18 last_19 (IntKind.i64.wrap (i_20 + (IntKind.i64.wrap (x38 + 1))))))))) (j21 s_17 rs_18 last_19 i_20)))))
 (K (.int .i64 (-1))))) (fun (R39 : ByteArray -> ByteArray -> Int -> Int -> H -> Prop) => R39 s_4 x15 (IntKind.i64.wrap (((x15.size : Nat) : Int) - 1)) (IntKind.i64.wrap (((x15.size : Nat) : Int) - 1))))))))) (fun j3 => brW (decide ((0 : Int) <= r_2)) (j3 s_1 r_2 (decide ((r_2 : Int) < 128))) (j3 s_1 r_2 false))
theorem e259 (s_1 : ByteArray) (r_2 : Int) (K : KH) : bodyF Tryz.prog tau Tryz.f259 an259 [.string s_1, .int .i32 r_2] K = g259 s_1 r_2 K := by kernel_rfl
theorem c259 (s_1 : ByteArray) (r_2 : Int) {K : KH} {σ : H} (h : g259 s_1 r_2 K σ) : callW Tryz.prog 259 [.string s_1, .int .i32 r_2] K σ := call_of_body mixed Tryz.func259 (by rw [e259]; exact h)


def an260 : Ann := (.q (.q .z))
def g260 (bufLen_1 : Int) (K : KH) : H -> Prop :=
 K (.bool (decide ((bufLen_1 : Int) > 8)))
theorem e260 (bufLen_1 : Int) (K : KH) : bodyF Tryz.prog tau Tryz.f260 an260 [.int .i64 bufLen_1] K = g260 bufLen_1 K := by kernel_rfl
theorem c260 (bufLen_1 : Int) {K : KH} {σ : H} (h : g260 bufLen_1 K σ) : callW Tryz.prog 260 [.int .i64 bufLen_1] K σ := call_of_body mixed Tryz.func260 (by rw [e260]; exact h)


def an261 : Ann := (.q (.n (.q (.blk (.loop [(0,.s),(2,.p),(4,.i)] (.n (.q (.cond .z .z)) (.n (.blk (.q (.n (.q (.h)) .r))) .r))))) (.q .z)))
def g261 (chars_1 : ByteArray) (K : KH) : H -> Prop :=
 alW (.cells ⟨[.bool false, .bool false, .bool false, .bool false, .bool false, .bool false, .bool false, .bool false, .bool false, .bool false, .bool false, .bool false, .bool false, .bool false, .bool false, .bool false, .bool false, .bool false, .bool false, .bool false, .bool false, .bool false, .bool false, .bool false, .bool false, .bool false, .bool false, .bool false, .bool false, .bool false, .bool false, .bool false, .bool false, .bool false, .bool false, .bool false, .bool false, .bool false, .bool false, .bool false, .bool false, .bool false, .bool false, .bool false, .bool false, .bool false, .bool false, .bool false, .bool false, .bool false, .bool false, .bool false, .bool false, .bool false, .bool false, .bool false, .bool false, .bool false, .bool false, .bool false, .bool false, .bool false, .bool false, .bool false, .bool false, .bool false, .bool false, .bool false, .bool false, .bool false, .bool false, .bool false, .bool false, .bool false, .bool false, .bool false, .bool false, .bool false, .bool false, .bool false, .bool false, .bool false, .bool false, .bool false, .bool false, .bool false, .bool false, .bool false, .bool false, .bool false, .bool false, .bool false, .bool false, .bool false, .bool false, .bool false, .bool false, .bool false, .bool false, .bool false, .bool false, .bool false, .bool false, .bool false, .bool false, .bool false, .bool false, .bool false, .bool false, .bool false, .bool false, .bool false, .bool false, .bool false, .bool false, .bool false, .bool false, .bool false, .bool false, .bool false, .bool false, .bool false, .bool false, .bool false, .bool false, .bool false, .bool false, .bool false, .bool false, .bool false, .bool false, .bool false, .bool false, .bool false, .bool false, .bool false, .bool false, .bool false, .bool false, .bool false, .bool false, .bool false, .bool false, .bool false, .bool false, .bool false, .bool false, .bool false, .bool false, .bool false, .bool false, .bool false, .bool false, .bool false, .bool false, .bool false, .bool false, .bool false, .bool false, .bool false, .bool false, .bool false, .bool false, .bool false, .bool false, .bool false, .bool false, .bool false, .bool false, .bool false, .bool false, .bool false, .bool false, .bool false, .bool false, .bool false, .bool false, .bool false, .bool false, .bool false, .bool false, .bool false, .bool false, .bool false, .bool false, .bool false, .bool false, .bool false, .bool false, .bool false, .bool false, .bool false, .bool false, .bool false, .bool false, .bool false, .bool false, .bool false, .bool false, .bool false, .bool false, .bool false, .bool false, .bool false, .bool false, .bool false, .bool false, .bool false, .bool false, .bool false, .bool false, .bool false, .bool false, .bool false, .bool false, .bool false, .bool false, .bool false, .bool false, .bool false, .bool false, .bool false, .bool false, .bool false, .bool false, .bool false, .bool false, .bool false, .bool false, .bool false, .bool false, .bool false, .bool false, .bool false, .bool false, .bool false, .bool false, .bool false, .bool false, .bool false, .bool false, .bool false, .bool false, .bool false, .bool false, .bool false, .bool false, .bool false, .bool false, .bool false, .bool false, .bool false, .bool false, .bool false, .bool false, .bool false]⟩ 285 (0, 0)) (fun b2 =>
 loopW [.sc .str, .sc .ptr, .sc (.int .i64)] (fun (R3 : ByteArray -> Option Addr -> Int -> H -> Prop) => (fun (chars_4 : ByteArray) (as_5 : Option Addr) (i_6 : Int) => brW (decide ((i_6 : Int) < ((chars_4.size : Nat) : Int))) (idxW chars_4 i_6 (fun c7 => brW (decide (((c7.toNat : Int) : Int) >= 128)) (ptrW as_5 (fun b8 o9 => rdT (rdA 256 b8 o9) kR (fun x10 => stW Tryz.prog 285 (.pointer as_5) (x10) (ptrW as_5 (fun b11 o12 => rdT (rdA 256 b11 o12) kR (fun r13 => K (.tuple ⟨[r13, .bool false]⟩)))))))
 (ptrW as_5 (fun b14 o15 => ifW (0 <= (c7.toNat : Int) /\ (c7.toNat : Int) < ((256 : Nat) : Int)) (stW Tryz.prog 4 (.pointer (some ⟨b14, o15 + ((c7.toNat : Int) : Int).toNat * 1, none⟩)) (.bool true) (R3 chars_4 as_5 (IntKind.i64.wrap (i_6 + 1)))))))) (ptrW as_5 (fun b16 o17 => rdT (rdA 256 b16 o17) kR (fun x18 => stW Tryz.prog 285 (.pointer as_5) (x18) (ptrW as_5 (fun b19 o20 => rdT (rdA 256 b19 o20) kR (fun r21 =>
 K (.tuple ⟨[r21, .bool true]⟩))))))))) (fun (R22 : ByteArray -> Option Addr -> Int -> H -> Prop) => R22 chars_1 (some ⟨b2, 0, none⟩) 0))
theorem e261 (chars_1 : ByteArray) (K : KH) : bodyF Tryz.prog tau Tryz.f261 an261 [.string chars_1] K = g261 chars_1 K := by kernel_rfl
theorem c261 (chars_1 : ByteArray) {K : KH} {σ : H} (h : g261 chars_1 K σ) : callW Tryz.prog 261 [.string chars_1] K σ := call_of_body mixed Tryz.func261 (by rw [e261]; exact h)


def an262 : Ann := (.q (.q .z))
def g262 (as_1 : Option Addr) (c_2 : Int) (K : KH) : H -> Prop :=
 ptrW as_1 (fun b3 o4 => ifW (0 <= c_2 /\ c_2 < ((256 : Nat) : Int)) (rdT (rdC b3 (o4 + c_2.toNat * 1)) kB (fun x5 => K (.bool x5))))
theorem e262 (as_1 : Option Addr) (c_2 : Int) (K : KH) : bodyF Tryz.prog tau Tryz.f262 an262 [.pointer as_1, .int .u8 c_2] K = g262 as_1 c_2 K := by kernel_rfl
theorem c262 (as_1 : Option Addr) (c_2 : Int) {K : KH} {σ : H} (h : g262 as_1 c_2 K σ) : callW Tryz.prog 262 [.pointer as_1, .int .u8 c_2] K σ := call_of_body mixed Tryz.func262 (by rw [e262]; exact h)


def an263 : Ann := (.q (.q .z))
def g263 (s_1 : ByteArray) (sep_2 : ByteArray) (sepSave_3 : Int) (K : KH) : H -> Prop :=
 alW (.cells ⟨[.string s_1]⟩ 9 (0, 0)) (fun b4 => alW (.cells ⟨[.string sep_2]⟩ 9 (0, 0)) (fun b5 => alW (.cells ⟨[.int .i64 sepSave_3]⟩ 3 (0, 0)) (fun b6 => K (.func (.func 266) ⟨[]⟩ ⟨[.pointer (some ⟨b5, 0, none⟩), .pointer (some ⟨b4, 0, none⟩), .pointer (some ⟨b6, 0, none⟩)]⟩))))
theorem e263 (s_1 : ByteArray) (sep_2 : ByteArray) (sepSave_3 : Int) (K : KH) : bodyF Tryz.prog tau Tryz.f263 an263 [.string s_1, .string sep_2, .int .i64 sepSave_3] K = g263 s_1 sep_2 sepSave_3 K := by kernel_rfl
theorem c263 (s_1 : ByteArray) (sep_2 : ByteArray) (sepSave_3 : Int) {K : KH} {σ : H} (h : g263 s_1 sep_2 sepSave_3 K σ) : callW Tryz.prog 263 [.string s_1, .string sep_2, .int .i64 sepSave_3] K σ := call_of_body mixed Tryz.func263 (by rw [e263]; exact h)


def an265 : Ann := (.q (.n (.blk (.seq (some [(0,.sc (.int .i32)),(3,.b)]) .r (.cond (.q .z) (.seq (some [(10,.b)]) .r (.h))))) (.q .z)))
def g265 (r_1 : Int) (K : KH) : H -> Prop :=
 letJ (T := Int -> Bool -> H -> Prop) (fun r_3 x4 => brW x4 (K (.bool true)) (letJ (T := Bool -> H -> Prop) (fun x6 => brW x6 (K (.bool true)) (K (.bool false))) (fun j5 => brW (decide ((57343 : Int) < r_3)) (j5 (decide ((r_3 : Int) <= 1114111))) (j5 false)))) (fun j2 => brW (decide ((0 : Int) <= r_1)) (j2 r_1 (decide ((r_1 : Int) < 55296))) (j2 r_1 false))
theorem e265 (r_1 : Int) (K : KH) : bodyF Tryz.prog tau Tryz.f265 an265 [.int .i32 r_1] K = g265 r_1 K := by kernel_rfl
theorem c265 (r_1 : Int) {K : KH} {σ : H} (h : g265 r_1 K σ) : callW Tryz.prog 265 [.int .i32 r_1] K σ := call_of_body mixed Tryz.func265 (by rw [e265]; exact h)


def an266 : Ann := (.n (.q (.cond (.n (.blk (.loop [(0,.w),(2,.p)] (.n (.q (.cond .z .z)) (.blk (.q (.n (.q (.cond .z .z)) .r)))))) .z) .z)) (.n (.blk (.loop [(0,.w),(1,.p),(2,.p),(3,.p)] (.blk (.q (.n (.q (.cond .z .z)) (.q (.n (.q (.cond .z .z)) .r))))))) .r))
def g266 (yield_1 : Value) (x2 : Option Addr) (x3 : Option Addr) (x4 : Option Addr) (K : KH) : H -> Prop :=
 ptrW x2 (fun b5 o6 => rdT (rdC b5 o6) kS (fun (x7 : ByteArray) => brW ((((x7.size : Nat) : Int) : Int) == 0) (loopW [.sc .raw, .sc .ptr] (fun (R8 : Value -> Option Addr -> H -> Prop) => (fun yield_9 x10 => ptrW x10 (fun b11 o12 => rdT (rdC b11 o12) kS (fun (x13 : ByteArray) => brW (decide ((((x13.size : Nat) : Int) : Int) > 0)) (ptrW x10 (fun b14 o15 => rdT (rdC b14 o15) kS (fun (x16 : ByteArray) =>
 callT Tryz.prog 267 [.string x16] (.tup [.sc (.int .i32), .sc (.int .i64)]) (fun (_x17 : Int) (x18 : Int) => ptrW x10 (fun b19 o20 => rdT (rdC b19 o20) kS (fun (x21 : ByteArray) => ifW (bndOk (some x18) x21.size /\ bndOk none (x18.toNat)) (cvalT Tryz.prog yield_9 [.string (x21.extract 0 x18.toNat)] kB (fun x22 => brW (!x22) (K (.tuple ⟨[]⟩)) (ptrW x10 (fun b23 o24 => rdT (rdC b23 o24) kS (fun (x25 : ByteArray) => ifW (bndOk none x25.size /\ bndOk (some x18) (x25.size))
 (stW Tryz.prog 9 (.pointer x10) (.string (x25.extract x18.toNat x25.size)) (R8 yield_9 x10))))))))))))) (K (.tuple ⟨[]⟩)))))) (fun (R26 : Value -> Option Addr -> H -> Prop) => R26 yield_1 x3)) (loopW [.sc .raw, .sc .ptr, .sc .ptr, .sc .ptr] (fun (R27 : Value -> Option Addr -> Option Addr -> Option Addr -> H -> Prop) => (fun yield_28 x29 x30 x31 => ptrW x30 (fun b32 o33 => rdT (rdC b32 o33) kS (fun (x34 : ByteArray) => ptrW x29 (fun b35 o36 => rdT (rdC b35 o36) kS (fun (x37 : ByteArray) =>
 callT Tryz.prog 71 [.string x34, .string x37] kI (fun (x38 : Int) => brW (decide ((x38 : Int) < 0)) (ptrW x30 (fun b39 o40 => rdT (rdC b39 o40) kS (fun (x41 : ByteArray) => cvalT Tryz.prog yield_28 [.string x41] kB (fun _x42 => K (.tuple ⟨[]⟩))))) (ptrW x30 (fun b43 o44 => rdT (rdC b43 o44) kS (fun (x45 : ByteArray) => ptrW x31 (fun b46 o47 => rdT (rdC b46 o47) kI (fun (x48 : Int) => ifW (bndOk (some (IntKind.i64.wrap (x38 + x48))) x45.size /\ bndOk none ((IntKind.i64.wrap (x38 + x48)).toNat))
 (cvalT Tryz.prog yield_28 [.string (x45.extract 0 ((IntKind.i64.wrap (x38 + x48)).toNat))] kB (fun x49 => brW (!x49) (K (.tuple ⟨[]⟩)) (ptrW x30 (fun b50 o51 => rdT (rdC b50 o51) kS (fun (x52 : ByteArray) => ptrW x29 (fun b53 o54 => rdT (rdC b53 o54) kS (fun (x55 : ByteArray) => ifW (bndOk none x52.size /\ bndOk (some (IntKind.i64.wrap (x38 + ((x55.size : Nat) : Int)))) (x52.size))
 (stW Tryz.prog 9 (.pointer x30) (.string (x52.extract ((IntKind.i64.wrap (x38 + ((x55.size : Nat) : Int))).toNat) x52.size)) (R27 yield_28 x29 x30 x31))))))))))))))))))))) (fun (R56 : Value -> Option Addr -> Option Addr -> Option Addr -> H -> Prop) => R56 yield_1 x2 x3 x4))))
theorem e266 (yield_1 : Value) (x2 : Option Addr) (x3 : Option Addr) (x4 : Option Addr) (K : KH) : bodyF Tryz.prog tau Tryz.f266 an266 [yield_1, .pointer x2, .pointer x3, .pointer x4] K = g266 yield_1 x2 x3 x4 K := by kernel_rfl
theorem c266 (yield_1 : Value) (x2 : Option Addr) (x3 : Option Addr) (x4 : Option Addr) {K : KH} {σ : H} (h : g266 yield_1 x2 x3 x4 K σ) : callW Tryz.prog 266 [yield_1, .pointer x2, .pointer x3, .pointer x4] K σ := call_of_body mixed Tryz.func266 (by rw [e266]; exact h)

end Go.Proofs.YtbjbeajbckcecaaGreatDoor

namespace Go.Proofs.YtbjbeajbckcecaaGreatDoor
open Go Go.HL
end Go.Proofs.YtbjbeajbckcecaaGreatDoor

set_option maxRecDepth 100000
namespace Go.Proofs.YtbjbeajbckcecaaGreatDoor
open Go Go.HL Go.Wk
attribute [local irreducible] ptrW ifW brW andW rdT alW letJ stW muW biW vaW imW callT cvalT app callW invW callVW sizeT oW nilF oneK loopW rfW funW begW roundK exW idxW Gr Put
structure Nd where
 blk : Nat
 kind : Int
 mode : Int
 data : ByteArray
 links : Int
 up : Int
 eb : Option Nat
 ents : List (ByteArray × Int)
structure Tb where
 qi : Int
 qb : Int
 ui : Int
 ub : Int
 last : Int
 mb : Nat
 nodes : List (Int × Nd)
def Nd.cells (n : Nd) : Obj := .cells ⟨[.int .i64 n.kind, .int .i64 n.mode, .string n.data, .int .i64 n.links, .int .i64 n.up, .map n.eb]⟩ 194 (0, 0)
def Nd.ptr (n : Nd) : Value := .pointer (some ⟨n.blk, 0, none⟩)
def Tb.cells (T : Tb) : Obj := .cells ⟨[.int .i64 T.qi, .int .i64 T.qb, .int .i64 T.ui, .int .i64 T.ub, .map (some T.mb), .int .i64 T.last]⟩ 200 (0, 0)
def valI (n : Int) : Value := .int .i64 n
structure NdAt (σ : H) (n : Nd) : Prop where
 cells : σ n.blk = some n.cells
 ents : ∀ e, n.eb = some e -> MapAt σ e (encL kkS valI n.ents)
 none : n.eb = none -> n.ents = []
 dir : n.kind = 2 -> n.eb ≠ Option.none
def Tb.get (T : Tb) (ino : Int) : Option Nd := lk ino T.nodes
structure TAt (σ : H) (bt : Nat) (T : Tb) : Prop where
 cells : σ bt = some T.cells
 nodes : MapAt σ T.mb (encL kkI Nd.ptr T.nodes)
 each : ∀ i n, T.get i = some n -> NdAt σ n
theorem NdAt.gr {σ σ' : H} {n : Nd} (h : NdAt σ n) (hg : Gr σ σ') : NdAt σ' n := ⟨hg.get h.cells, fun e he => (h.ents e he).gr hg, h.none, h.dir⟩
theorem TAt.gr {σ σ' : H} {bt : Nat} {T : Tb} (h : TAt σ bt T) (hg : Gr σ σ') : TAt σ' bt T := ⟨hg.get h.cells, h.nodes.gr hg, fun i n hn => (h.each i n hn).gr hg⟩
theorem TAt.get {σ : H} {bt : Nat} {T : Tb} (h : TAt σ bt T) {ino : Int} {n : Nd} (hn : T.get ino = some n) : NdAt σ n := h.each ino n hn
theorem get_ptr (o : Option Nd) : (o.map Nd.ptr).getD (.pointer none) = .pointer (o.map fun n => ⟨n.blk, 0, none⟩) := by cases o <;> rfl

theorem s_get {σ : H} {bt : Nat} {T : Tb} (hT : TAt σ bt T) (ino : Int) {K : KH} (hK : K (.pointer ((T.get ino).map fun n => ⟨n.blk, 0, none⟩)) σ) : callW Tryz.prog 138 [.pointer (some ⟨bt, 0, none⟩), .int .i64 ino] K σ := by
 refine c138 _ _ ?_
 unfold g138
 refine br_f rfl ?_
 refine ptr_i ?_
 refine rd_M (rdC_of hT.cells (by rfl)) ?_
 refine rd_P (x := (T.get ino).map fun n => ⟨n.blk, 0, none⟩) ?_ hK
 rw [<- get_ptr]
 exact rdM_at (kk := kkI) hT.nodes _ false ino
def Tb.find (T : Tb) (dir : Int) (name : ByteArray) : Option Int := (T.get dir).bind fun n => lk name n.ents
theorem s_Find {σ : H} {bt : Nat} {T : Tb} (hT : TAt σ bt T) (dir : Int) (name : ByteArray) {K : KH} (hK : K (.tuple ⟨[.int .i64 ((T.find dir name).getD 0), .bool (T.find dir name).isSome]⟩) σ) :
 callW Tryz.prog 125 [.pointer (some ⟨bt, 0, none⟩), .int .i64 dir, .string name] K σ := by
 refine c125 _ _ _ ?_
 unfold g125
 refine call_i (s_get hT dir ?_)
 refine app_P ?_
 unfold Tb.find at hK
 cases hn : T.get dir with
 | none => rw [hn] at hK; exact br_t rfl hK
 | some n =>
  rw [hn] at hK
  have hN := hT.get hn
  refine br_f rfl (ptr_i ?_)
  refine rd_M (rdC_of hN.cells (by rfl)) ?_
  cases he : n.eb with
  | none =>
   have := hN.none he
   simp only [Option.bind_some, this] at hK
   exact rd_G rfl (app_IB hK)
  | some e =>
   refine rd_G (rdM_at (kk := kkS) (hN.ents e he) _ true name) ?_
   have hv : ((lk name n.ents).map valI).getD (.int .i64 0) = .int .i64 ((lk name n.ents).getD 0) := by cases lk name n.ents <;> rfl
   rw [hv]
   exact app_IB hK
theorem s_must (is : Bool) (e : Int) {σ : H} {K : KH} (hK : K (.int .i64 (if is then 0 else e)) σ) : callW Tryz.prog 161 [.bool is, .int .i64 e] K σ := by
 refine c161 _ _ ?_
 unfold g161
 cases is
 ·exact br_t rfl hK
 ·exact br_f rfl hK
theorem s_there (t : Option Addr) {σ : H} {K : KH} (hK : K (.int .i64 (if t.isSome then 0 else 1)) σ) : callW Tryz.prog 163 [.pointer t] K σ := by
 refine c163 _ ?_
 unfold g163
 refine call_i (s_must _ _ ?_)
 refine app_I ?_
 cases t <;> exact hK
def Tb.up (T : Tb) (dir : Int) : Int := ((T.get dir).map (·.up)).getD 0
theorem s_Up {σ : H} {bt : Nat} {T : Tb} (hT : TAt σ bt T) (dir : Int) {K : KH} (hK : K (.int .i64 (T.up dir)) σ) : callW Tryz.prog 124 [.pointer (some ⟨bt, 0, none⟩), .int .i64 dir] K σ := by
 refine c124 _ _ ?_
 unfold g124
 refine call_i (s_get hT dir (app_P ?_))
 unfold Tb.up at hK
 cases hn : T.get dir with
 | none => rw [hn] at hK; exact br_t rfl hK
 | some n =>
  rw [hn] at hK
  have hN := hT.get hn
  refine br_f rfl (ptr_i ?_)
  exact rd_I (rdC_of hN.cells (by rfl)) hK
theorem s_Root (bt : Addr) {σ : H} {K : KH} (hK : K (.int .i64 1) σ) : callW Tryz.prog 123 [.pointer (some bt)] K σ := by
 refine c123 _ ?_
 unfold g123
 exact br_f rfl hK

def Tb.dirE (T : Tb) (ino : Int) : Int := match T.get ino with
 | none => 5
 | some n => if n.kind == 2 then 0 else 8
theorem s_dir1 {σ : H} {bt : Nat} {T : Tb} (hT : TAt σ bt T) {b1 b2 : Nat} {ino : Int} {t1 t2 : TypeId} (h1 : σ b1 = some (.cells ⟨[.pointer (some ⟨bt, 0, none⟩)]⟩ t1 (0, 0))) (h2 : σ b2 = some (.cells ⟨[.int .i64 ino]⟩ t2 (0, 0))) {K : KH}
 (hK : K (.int .i64 (T.dirE ino)) σ) : callW Tryz.prog 214 [.pointer (some ⟨b1, 0, none⟩), .pointer (some ⟨b2, 0, none⟩)] K σ := by
 refine c214 _ _ ?_
 unfold g214
 (repeat (first|refine ptr_i ?_|refine z2 ?_|(refine al_i ?_;intro _ _ _ _ _)|refine z4 ?_|refine z5 ?_|(refine z6 ?_;intro _ _)|refine app_P ?_|refine app_I ?_|refine app_S ?_|refine app_B ?_|refine app_M ?_|refine app_L ?_|refine app_U ?_|refine app_R ?_|(refine app_of rfl ?_;try dsimp only)))
 refine call_i (s_get hT ino (app_P ?_))
 unfold Tb.dirE at hK
 cases hn : T.get ino with
 | none => rw [hn] at hK; exact br_t rfl hK
 | some n =>
  rw [hn] at hK
  have hN := hT.get hn
  refine br_f rfl (ptr_i ?_)
  refine rd_I (rdC_of hN.cells (by rfl)) ?_
  exact call_i (s_must _ _ (app_I hK))
theorem s_free1 {σ : H} {bt : Nat} {T : Tb} (hT : TAt σ bt T) {b1 b2 b3 : Nat} {dir : Int} {name : ByteArray} {t1 t2 t3 : TypeId} (h1 : σ b1 = some (.cells ⟨[.pointer (some ⟨bt, 0, none⟩)]⟩ t1 (0, 0))) (h2 : σ b2 = some (.cells ⟨[.int .i64 dir]⟩ t2 (0, 0))) (h3 : σ b3 = some (.cells ⟨[.string name]⟩ t3 (0, 0))) {K : KH}
 (hK : K (.int .i64 (if (T.find dir name).isSome then 6 else 0)) σ) : callW Tryz.prog 217 [.pointer (some ⟨b1, 0, none⟩), .pointer (some ⟨b2, 0, none⟩), .pointer (some ⟨b3, 0, none⟩)] K σ := by
 refine c217 _ _ _ ?_
 unfold g217
 (repeat (first|refine ptr_i ?_|refine z2 ?_|(refine al_i ?_;intro _ _ _ _ _)|refine z4 ?_|refine z5 ?_|(refine z6 ?_;intro _ _)|refine app_P ?_|refine app_I ?_|refine app_S ?_|refine app_B ?_|refine app_M ?_|refine app_L ?_|refine app_U ?_|refine app_R ?_|(refine app_of rfl ?_;try dsimp only)))
 refine call_i (s_Find hT dir name (app_IB ?_))
 refine call_i (s_must _ _ (app_I ?_))
 cases h : (T.find dir name).isSome <;> simpa [h] using hK
def Tb.fileE (T : Tb) (ino : Int) : Int := match T.get ino with
 | none => 5
 | some n => if n.kind == 2 then 7 else if n.kind == 1 then 0 else 2
theorem s_file1 {σ : H} {bt : Nat} {T : Tb} (hT : TAt σ bt T) {b1 b2 : Nat} {ino : Int} {t1 t2 : TypeId} (h1 : σ b1 = some (.cells ⟨[.pointer (some ⟨bt, 0, none⟩)]⟩ t1 (0, 0))) (h2 : σ b2 = some (.cells ⟨[.int .i64 ino]⟩ t2 (0, 0))) {K : KH}
 (hK : K (.int .i64 (T.fileE ino)) σ) : callW Tryz.prog 222 [.pointer (some ⟨b1, 0, none⟩), .pointer (some ⟨b2, 0, none⟩)] K σ := by
 refine c222 _ _ ?_
 unfold g222
 (repeat (first|refine ptr_i ?_|refine z2 ?_|(refine al_i ?_;intro _ _ _ _ _)|refine z4 ?_|refine z5 ?_|(refine z6 ?_;intro _ _)|refine app_P ?_|refine app_I ?_|refine app_S ?_|refine app_B ?_|refine app_M ?_|refine app_L ?_|refine app_U ?_|refine app_R ?_|(refine app_of rfl ?_;try dsimp only)))
 refine call_i (s_get hT ino (app_P ?_))
 unfold Tb.fileE at hK
 cases hn : T.get ino with
 | none => rw [hn] at hK; exact br_t rfl hK
 | some n =>
  rw [hn] at hK
  have hN := hT.get hn
  refine br_f rfl (ptr_i ?_)
  refine rd_I (rdC_of hN.cells (by rfl)) ?_
  cases hk : (n.kind == 2) with
  | true => simp only [hk] at hK; exact br_t rfl hK
  | false =>
   simp only [hk] at hK
   refine br_f rfl (ptr_i ?_)
   refine rd_I (rdC_of hN.cells (by rfl)) ?_
   exact call_i (s_must _ _ (app_I hK))
theorem sz_int : sizeT Tryz.prog 3 = some 1 := by kernel_rfl
theorem sz_string : sizeT Tryz.prog 9 = some 1 := by kernel_rfl
theorem sz_bool : sizeT Tryz.prog 4 = some 1 := by kernel_rfl
theorem sz_Inode : sizeT Tryz.prog 35 = some 4 := by kernel_rfl
theorem sz_Quota : sizeT Tryz.prog 64 = some 2 := by kernel_rfl
theorem sz_MSI : sizeT Tryz.prog 192 = some 1 := by kernel_rfl
def Tb.node (T : Tb) (ino : Int) : List Value := match T.get ino with
 | none => [.int .i64 0, .int .i64 0, .string ⟨⟨[]⟩⟩, .int .i64 0]
 | some n => [.int .i64 n.kind, .int .i64 n.mode, .string n.data, .int .i64 n.links]
theorem s_Node {σ : H} {bt : Nat} {T : Tb} (hT : TAt σ bt T) (ino : Int) {K : KH} (hK : K (.tuple ⟨[.agg ⟨T.node ino⟩, .bool (T.get ino).isSome]⟩) σ) : callW Tryz.prog 99 [.pointer (some ⟨bt, 0, none⟩), .int .i64 ino] K σ := by
 refine pure_i _ hK (c99 _ _ ?_)
 unfold g99
 refine al_i ?_
 intro b σ1 hg hb hn
 refine call_i (s_get (hT.gr hg) ino (app_P ?_))
 unfold Tb.node
 cases hnn : T.get ino with
 | none =>
  refine br_t rfl ?_
  (repeat (first|refine ptr_i ?_|refine z2 ?_|(refine al_i ?_;intro _ _ _ _ _)|refine z4 ?_|refine z5 ?_|(refine z6 ?_;intro _ _)|refine app_P ?_|refine app_I ?_|refine app_S ?_|refine app_B ?_|refine app_M ?_|refine app_L ?_|refine app_U ?_|refine app_R ?_|(refine app_of rfl ?_;try dsimp only)))
  exact ⟨rfl, by repeat (first | exact Gr.refl _ | assumption | refine Gr.trans ?_ ‹_› | refine Gr.putF ?_ ‹_› (none_of ?_ ‹_›))⟩
 | some n =>
  have hN := ((hT.gr hg).get hnn).cells
  unfold Nd.cells at hN
  refine br_f rfl (ptr_i ?_)
  (repeat (first|refine ptr_i ?_|refine z2 ?_|(refine al_i ?_;intro _ _ _ _ _)|refine z4 ?_|refine z5 ?_|(refine z6 ?_;intro _ _)|refine app_P ?_|refine app_I ?_|refine app_S ?_|refine app_B ?_|refine app_M ?_|refine app_L ?_|refine app_U ?_|refine app_R ?_|(refine app_of rfl ?_;try dsimp only)))
  exact ⟨rfl, by repeat (first | exact Gr.refl _ | assumption | refine Gr.trans ?_ ‹_› | refine Gr.putF ?_ ‹_› (none_of ?_ ‹_›))⟩
theorem wrap_id {x : Int} (h1 : -9223372036854775808 <= x) (h2 : x <= 9223372036854775807) : IntKind.i64.wrap x = x := by
 rw [IntKind.wrap_i64]; omega
def Pu (σ : H) (f : Value) (e : Int) : Prop := ∀ K : Value -> H -> Prop, K (.int .i64 e) σ -> callVW Tryz.prog f [] K σ
def FirstOk (σ : H) : List Value -> List Int -> Prop
 | [], [] => True
 | f :: fs, e :: es => Pu σ f e /\ (e = 0 -> FirstOk σ fs es)
 | _, _ => False
theorem wrapS {i : Nat} (h : i < 9000000000000000000) : IntKind.i64.wrap ((i : Int) + 1) = ((i + 1 : Nat) : Int) := by rw [wrap_id (by omega) (by omega)]; omega
theorem s_first {σ : H} {b : Nat} {fs : List Value} {es : List Int} {t : TypeId} (hb : σ b = some (.cells ⟨fs⟩ t (0, 0))) (h : FirstOk σ fs es) (hn : fs.length <= 1000) {K : KH} (hK : K (.int .i64 (firstE es)) σ) :
 callW Tryz.prog 162 [.slice (some ⟨b, 0, none⟩) fs.length fs.length] K σ := by
 refine c162 ⟨some ⟨b, 0, none⟩, _, _⟩ ?_
 unfold g162
 refine loop_i ?_
 intro R hR
 have key : ∀ (gs : List Value) (ds : List Int) (i : Nat), fs.drop i = gs -> FirstOk σ gs ds -> K (.int .i64 (firstE ds)) σ -> R ⟨some ⟨b, 0, none⟩, fs.length, fs.length⟩ ((fs.length : Nat) : Int) (i : Int) σ := by
  intro gs
  induction gs with
  | nil =>
   intro ds i hd hok hk
   have hge : fs.length <= i := by simpa using hd
   refine hR _ _ _ _ ?_
   cases ds with
   | cons d ds => exact hok.elim
   | nil => exact br_f (by simp; omega) hk
  | cons f gs ih =>
   intro ds i hd hok hk
   cases ds with
   | nil => exact hok.elim
   | cons d ds =>
    obtain ⟨hp, hok⟩ := hok
    have hlt : i < fs.length := by
     rcases Nat.lt_or_ge i fs.length with h | h
     ·exact h
     ·rw [List.drop_eq_nil_of_le h] at hd; cases hd
    have hf : fs[i]? = some f := by
     have : (fs.drop i)[0]? = some f := by rw [hd]; rfl
     simpa using this
    refine hR _ _ _ _ ?_
    refine br_t (by simpa using hlt) ?_
    refine ptr_i (if_i ⟨by omega, by show (i : Int) < (fs.length : Int); omega⟩ ?_)
    refine rd_R (rdC_of (v := f) hb (by simpa using hf)) ?_
    refine cvalv_i (hp _ (app_I ?_))
    by_cases he : d = 0
    ·subst he
     refine br_f rfl ?_
     rw [wrap_id (by omega) (by omega)]
     have h2 : fs.drop (i + 1) = gs := by rw [<- List.drop_drop, hd]; rfl
     exact ih ds (i + 1) h2 (hok rfl) (by simpa [firstE] using hk)
    ·refine br_t (by simpa using he) ?_
     simpa [firstE, he] using hk
 exact key fs es 0 rfl h hK
theorem pu_of {σ : H} {g : FuncId} {as_ cs : List Value} {e : Int} (hg : isGo Tryz.prog g = true) (h : ∀ K : Value -> H -> Prop, K (.int .i64 e) σ -> callW Tryz.prog g (as_ ++ cs) K σ) : Pu σ (.func (.func g) ⟨as_⟩ ⟨cs⟩) e := by
 intro K hk
 unfold callVW
 simp only [hg]
 simpa using h K hk
theorem go_there : isGo Tryz.prog 163 = true := by kernel_rfl
theorem go_dir1 : isGo Tryz.prog 214 = true := by kernel_rfl
theorem go_named1 : isGo Tryz.prog 215 = true := by kernel_rfl
theorem go_free1 : isGo Tryz.prog 217 = true := by kernel_rfl
theorem go_room1 : isGo Tryz.prog 218 = true := by kernel_rfl
theorem go_Make1 : isGo Tryz.prog 160 = true := by kernel_rfl
theorem go_Make2 : isGo Tryz.prog 167 = true := by kernel_rfl
theorem go_file1 : isGo Tryz.prog 222 = true := by kernel_rfl
theorem go_WriteT1 : isGo Tryz.prog 171 = true := by kernel_rfl
theorem go_ChmodT1 : isGo Tryz.prog 182 = true := by kernel_rfl
theorem go_ChmodT2 : isGo Tryz.prog 183 = true := by kernel_rfl

theorem s_dir {σ : H} (t : Option Addr) (ino : Int) {K : KH} (hK : ∀ b1 b2 σ', Gr σ σ' -> σ' b1 = some (.cells ⟨[.pointer t]⟩ 108 (0, 0)) -> σ' b2 = some (.cells ⟨[.int .i64 ino]⟩ 3 (0, 0)) -> K (.func (.func 214) ⟨[]⟩ ⟨[.pointer (some ⟨b1, 0, none⟩), .pointer (some ⟨b2, 0, none⟩)]⟩) σ') :
 callW Tryz.prog 164 [.pointer t, .int .i64 ino] K σ := by
 refine c164 _ _ ?_
 unfold g164
 (repeat (first|refine ptr_i ?_|refine z2 ?_|(refine al_i ?_;intro _ _ _ _ _)|refine z4 ?_|refine z5 ?_|(refine z6 ?_;intro _ _)|refine app_P ?_|refine app_I ?_|refine app_S ?_|refine app_B ?_|refine app_M ?_|refine app_L ?_|refine app_U ?_|refine app_R ?_|(refine app_of rfl ?_;try dsimp only)))
 exact hK _ _ _ (by repeat (first | exact Gr.refl _ | assumption | refine Gr.trans ?_ ‹_› | refine Gr.putF ?_ ‹_› (none_of ?_ ‹_›))) (by exact gA) (by exact gA)
theorem s_file {σ : H} (t : Option Addr) (ino : Int) {K : KH} (hK : ∀ b1 b2 σ', Gr σ σ' -> σ' b1 = some (.cells ⟨[.pointer t]⟩ 108 (0, 0)) -> σ' b2 = some (.cells ⟨[.int .i64 ino]⟩ 3 (0, 0)) -> K (.func (.func 222) ⟨[]⟩ ⟨[.pointer (some ⟨b1, 0, none⟩), .pointer (some ⟨b2, 0, none⟩)]⟩) σ') :
 callW Tryz.prog 172 [.pointer t, .int .i64 ino] K σ := by
 refine c172 _ _ ?_
 unfold g172
 (repeat (first|refine ptr_i ?_|refine z2 ?_|(refine al_i ?_;intro _ _ _ _ _)|refine z4 ?_|refine z5 ?_|(refine z6 ?_;intro _ _)|refine app_P ?_|refine app_I ?_|refine app_S ?_|refine app_B ?_|refine app_M ?_|refine app_L ?_|refine app_U ?_|refine app_R ?_|(refine app_of rfl ?_;try dsimp only)))
 exact hK _ _ _ (by repeat (first | exact Gr.refl _ | assumption | refine Gr.trans ?_ ‹_› | refine Gr.putF ?_ ‹_› (none_of ?_ ‹_›))) (by exact gA) (by exact gA)
theorem s_named {σ : H} (name : ByteArray) {K : KH} (hK : ∀ b1 σ', Gr σ σ' -> σ' b1 = some (.cells ⟨[.string name]⟩ 9 (0, 0)) -> K (.func (.func 215) ⟨[]⟩ ⟨[.pointer (some ⟨b1, 0, none⟩)]⟩) σ') :
 callW Tryz.prog 165 [.string name] K σ := by
 refine c165 _ ?_
 unfold g165
 (repeat (first|refine ptr_i ?_|refine z2 ?_|(refine al_i ?_;intro _ _ _ _ _)|refine z4 ?_|refine z5 ?_|(refine z6 ?_;intro _ _)|refine app_P ?_|refine app_I ?_|refine app_S ?_|refine app_B ?_|refine app_M ?_|refine app_L ?_|refine app_U ?_|refine app_R ?_|(refine app_of rfl ?_;try dsimp only)))
 exact hK _ _ (by repeat (first | exact Gr.refl _ | assumption | refine Gr.trans ?_ ‹_› | refine Gr.putF ?_ ‹_› (none_of ?_ ‹_›))) (by exact gA)
theorem s_free {σ : H} (t : Option Addr) (dir : Int) (name : ByteArray) {K : KH} (hK : ∀ b1 b2 b3 σ', Gr σ σ' -> σ' b1 = some (.cells ⟨[.pointer t]⟩ 108 (0, 0)) -> σ' b2 = some (.cells ⟨[.int .i64 dir]⟩ 3 (0, 0)) -> σ' b3 = some (.cells ⟨[.string name]⟩ 9 (0, 0)) -> K (.func (.func 217) ⟨[]⟩ ⟨[.pointer (some ⟨b1, 0, none⟩), .pointer (some ⟨b2, 0, none⟩), .pointer (some ⟨b3, 0, none⟩)]⟩) σ') :
 callW Tryz.prog 166 [.pointer t, .int .i64 dir, .string name] K σ := by
 refine c166 _ _ _ ?_
 unfold g166
 (repeat (first|refine ptr_i ?_|refine z2 ?_|(refine al_i ?_;intro _ _ _ _ _)|refine z4 ?_|refine z5 ?_|(refine z6 ?_;intro _ _)|refine app_P ?_|refine app_I ?_|refine app_S ?_|refine app_B ?_|refine app_M ?_|refine app_L ?_|refine app_U ?_|refine app_R ?_|(refine app_of rfl ?_;try dsimp only)))
 exact hK _ _ _ _ (by repeat (first | exact Gr.refl _ | assumption | refine Gr.trans ?_ ‹_› | refine Gr.putF ?_ ‹_› (none_of ?_ ‹_›))) (by exact gA) (by exact gA) (by exact gA)
theorem s_room {σ : H} (t : Option Addr) (i n : Int) {K : KH} (hK : ∀ b1 b2 b3 σ', Gr σ σ' -> σ' b1 = some (.cells ⟨[.pointer t]⟩ 108 (0, 0)) -> σ' b2 = some (.cells ⟨[.int .i64 i]⟩ 3 (0, 0)) -> σ' b3 = some (.cells ⟨[.int .i64 n]⟩ 3 (0, 0)) -> K (.func (.func 218) ⟨[]⟩ ⟨[.pointer (some ⟨b1, 0, none⟩), .pointer (some ⟨b2, 0, none⟩), .pointer (some ⟨b3, 0, none⟩)]⟩) σ') :
 callW Tryz.prog 168 [.pointer t, .int .i64 i, .int .i64 n] K σ := by
 refine c168 _ _ _ ?_
 unfold g168
 (repeat (first|refine ptr_i ?_|refine z2 ?_|(refine al_i ?_;intro _ _ _ _ _)|refine z4 ?_|refine z5 ?_|(refine z6 ?_;intro _ _)|refine app_P ?_|refine app_I ?_|refine app_S ?_|refine app_B ?_|refine app_M ?_|refine app_L ?_|refine app_U ?_|refine app_R ?_|(refine app_of rfl ?_;try dsimp only)))
 exact hK _ _ _ _ (by repeat (first | exact Gr.refl _ | assumption | refine Gr.trans ?_ ‹_› | refine Gr.putF ?_ ‹_› (none_of ?_ ‹_›))) (by exact gA) (by exact gA) (by exact gA)
def Tb.roomE (T : Tb) (i n : Int) : Int := if IntKind.i64.wrap (T.ui + i) <= T.qi /\ IntKind.i64.wrap (T.ub + n) <= T.qb then 0 else 10
theorem s_room1 {σ : H} {bt : Nat} {T : Tb} (hT : TAt σ bt T) {b1 b2 b3 : Nat} {i n : Int} {t1 t2 t3 : TypeId} (h1 : σ b1 = some (.cells ⟨[.pointer (some ⟨bt, 0, none⟩)]⟩ t1 (0, 0))) (h2 : σ b2 = some (.cells ⟨[.int .i64 i]⟩ t2 (0, 0))) (h3 : σ b3 = some (.cells ⟨[.int .i64 n]⟩ t3 (0, 0))) {K : KH}
 (hK : K (.int .i64 (T.roomE i n)) σ) : callW Tryz.prog 218 [.pointer (some ⟨b1, 0, none⟩), .pointer (some ⟨b2, 0, none⟩), .pointer (some ⟨b3, 0, none⟩)] K σ := by
 refine c218 _ _ _ ?_
 unfold g218
 have hc := hT.cells
 unfold Tb.cells at hc
 (repeat (first|refine ptr_i ?_|refine z2 ?_|(refine al_i ?_;intro _ _ _ _ _)|refine z4 ?_|refine z5 ?_|(refine z6 ?_;intro _ _)|refine app_P ?_|refine app_I ?_|refine app_S ?_|refine app_B ?_|refine app_M ?_|refine app_L ?_|refine app_U ?_|refine app_R ?_|(refine app_of rfl ?_;try dsimp only)))
 unfold Tb.roomE at hK
 by_cases ha : IntKind.i64.wrap (T.ui + i) <= T.qi
 ·refine br_t (by simpa using ha) ?_
  (repeat (first|refine ptr_i ?_|refine z2 ?_|(refine al_i ?_;intro _ _ _ _ _)|refine z4 ?_|refine z5 ?_|(refine z6 ?_;intro _ _)|refine app_P ?_|refine app_I ?_|refine app_S ?_|refine app_B ?_|refine app_M ?_|refine app_L ?_|refine app_U ?_|refine app_R ?_|(refine app_of rfl ?_;try dsimp only)))
  refine call_i (s_must _ _ (app_I ?_))
  simpa [ha] using hK
 ·refine br_f (by simpa using ha) ?_
  refine call_i (s_must _ _ (app_I ?_))
  simpa [ha] using hK
theorem und_MIB : Tryz.prog.underlying 211 = some (.map 3 4) := by kernel_rfl
theorem und_int : Tryz.prog.underlying 3 = some (.int .i64) := by kernel_rfl
theorem und_string : Tryz.prog.underlying 9 = some .string := by kernel_rfl
def IByte : Prop := ∀ (s : ByteArray) (σ : H) (K : KH), (∀ n : Int, (decide (n < 0) = !hasNul s) -> K (.int .i64 n) σ) -> callW Tryz.prog 26 [.string s, .int .u8 0] K σ
def CAny : Prop := ∀ (s : ByteArray) (_ : s.size <= 1000000) (σ : H) (K : KH), K (.bool (badByte s)) σ -> callW Tryz.prog 216 [.string s, .string ⟨⟨[47, 0]⟩⟩] K σ
theorem s_Make1 (hI : IByte) {σ : H} {b1 b2 b3 : Nat} {data : ByteArray} {kind mode : Int} {t1 t2 t3 : TypeId} (h1 : σ b1 = some (.cells ⟨[.string data]⟩ t1 (0, 0))) (h2 : σ b2 = some (.cells ⟨[.int .i64 kind]⟩ t2 (0, 0))) (h3 : σ b3 = some (.cells ⟨[.int .i64 mode]⟩ t3 (0, 0))) {K : KH}
 (hK : K (.int .i64 (likeE kind mode data)) σ) : callW Tryz.prog 160 [.pointer (some ⟨b1, 0, none⟩), .pointer (some ⟨b2, 0, none⟩), .pointer (some ⟨b3, 0, none⟩)] K σ := by
 have hsE : sEq data ⟨⟨[]⟩⟩ = strEq data ⟨⟨[]⟩⟩ := sEq_eq _ _
 refine pure_i _ hK (c160 _ _ _ ?_)
 unfold g160
 refine j_i (fun j => ∀ σ', Gr σ σ' -> j (some ⟨b1, 0, none⟩) (some ⟨b2, 0, none⟩) (some ⟨b3, 0, none⟩) (linkOk data) σ') ?_ ?_
 ·intro σ' hg
  refine al_i ?_
  intro b σ1 hg1 hb hn
  have m0 : MapAt σ1 b (encL kkI Value.bool []) := MapAt.new hb
  refine mu_i (kk := kkI) (f := Value.bool) und_MIB und_int m0 1 true ?_
  intro o1 σ2 hp1 m1
  have hne1 : b1 ≠ b := ne_fresh (hg.get h1) hn
  have hne2 : b2 ≠ b := ne_fresh (hg.get h2) hn
  have hne3 : b3 ≠ b := ne_fresh (hg.get h3) hn
  refine ptr_i (rd_S (rdC_of (by exact gA) (by rfl)) ?_)
  refine mu_i (kk := kkI) (f := Value.bool) und_MIB und_int m1 2 _ ?_
  intro o2 σ3 hp2 m2
  refine mu_i (kk := kkI) (f := Value.bool) und_MIB und_int m2 3 _ ?_
  intro o3 σ4 hp3 m3
  refine ptr_i (rd_I (rdC_of (by exact gA) (by rfl)) ?_)
  have hv : ((lk kind (up 3 (linkOk data) (up 2 (strEq data ⟨⟨[]⟩⟩) (up 1 true [])))).map Value.bool).getD (.bool false) = .bool (kindOkE kind data) := by
   show ((lk kind [((1 : Int), true), (2, strEq data ⟨⟨[]⟩⟩), (3, linkOk data)]).map Value.bool).getD (.bool false) = _
   unfold kindOkE
   rw [hsE]
   cases lk kind [((1 : Int), true), (2, strEq data ⟨⟨[]⟩⟩), (3, linkOk data)] <;> rfl
  have hr := rdM_at (kk := kkI) m3 (.bool false) false kind
  refine rd_B (x := kindOkE kind data) (by rw [<- hv]; exact hr) ?_
  have hgr : Gr σ σ4 := by repeat (first | exact Gr.refl _ | assumption | refine Gr.trans ?_ ‹_› | refine Gr.putF ?_ ‹_› (none_of ?_ ‹_›))
  unfold likeE
  cases hk : kindOkE kind data with
  | false =>
   refine br_f rfl (call_i (s_must _ _ (app_I ⟨rfl, hgr⟩)))
  | true =>
   refine br_t rfl (ptr_i (rd_I (rdC_of (by exact gA) (by rfl)) ?_))
   by_cases hm : 0 <= mode
   ·refine br_t (by simpa using hm) (ptr_i (rd_I (rdC_of (by exact gA) (by rfl)) ?_))
    refine call_i (s_must _ _ (app_I ⟨?_, hgr⟩))
    simp [hm]
   ·refine br_f (by simpa using hm) (call_i (s_must _ _ (app_I ⟨?_, hgr⟩)))
    simp [hm]
 ·intro j hj
  refine ptr_i (rd_S (rdC_of (by exact gA) (by rfl)) ?_)
  unfold linkOk at hj
  rw [hsE] at hj
  cases he : strEq data ⟨⟨[]⟩⟩ with
  | true => refine br_f rfl ?_; rw [he] at hj; exact hj σ (Gr.refl _)
  | false =>
   rw [he] at hj
   refine br_t rfl (ptr_i (rd_S (rdC_of (by exact gA) (by rfl)) ?_))
   by_cases hl : data.size <= 255
   ·refine br_t (by simp; omega) (ptr_i (rd_S (rdC_of (by exact gA) (by rfl)) ?_))
    refine call_i (hI data σ _ ?_)
    intro n hn
    refine app_I ?_
    rw [hn]
    simpa [hl] using hj σ (Gr.refl _)
   ·refine br_f (by simp; omega) ?_
    simpa [hl] using hj σ (Gr.refl _)
def Nd.abs (n : Nd) : AN := ⟨n.kind, n.mode, n.data, n.links, n.up, n.ents⟩
def Tb.abs (T : Tb) : AT := ⟨T.qi, T.qb, T.ui, T.ub, T.last, T.nodes.map fun p => (p.1, p.2.abs)⟩
theorem abs_get (T : Tb) (i : Int) : T.abs.get i = (T.get i).map Nd.abs := lk_map _ _ _
theorem abs_find (T : Tb) (d : Int) (s : ByteArray) : T.abs.find d s = T.find d s := by
 unfold AT.find Tb.find; rw [abs_get]; cases T.get d <;> rfl
theorem abs_dirE (T : Tb) (d : Int) : T.abs.dirE d = T.dirE d := by
 unfold AT.dirE Tb.dirE; rw [abs_get]; cases T.get d <;> rfl
theorem abs_fileE (T : Tb) (d : Int) : T.abs.fileE d = T.fileE d := by
 unfold AT.fileE Tb.fileE; rw [abs_get]; cases T.get d <;> rfl
theorem abs_up (T : Tb) (d : Int) : T.abs.upOf d = T.up d := by
 unfold AT.upOf Tb.up; rw [abs_get]; cases T.get d <;> rfl
theorem abs_roomE (T : Tb) (i n : Int) : T.abs.roomE i n = T.roomE i n := rfl
structure Own (T : Tb) : Prop where
 blk : ∀ i j n m, T.get i = some n -> T.get j = some m -> n.blk = m.blk -> i = j
 eb : ∀ i j n m e, T.get i = some n -> T.get j = some m -> n.eb = some e -> m.eb = some e -> i = j
 mb : ∀ i n, T.get i = some n -> n.eb ≠ some T.mb
def Tb.own (bt : Nat) (T : Tb) (b : Nat) : Prop := b = bt \/ b = T.mb \/ ∃ i n, T.get i = some n /\ (b = n.blk \/ n.eb = some b)
def Tb.set (T : Tb) (i : Int) (n : Nd) : Tb := { T with nodes := HL.up i n T.nodes }
theorem get_set (T : Tb) (i j : Int) (n : Nd) : (T.set i n).get j = if j = i then some n else T.get j := by
 unfold Tb.set Tb.get; simp only [lk_up]
 by_cases h : j = i <;> simp [h]
theorem get_set_self (T : Tb) (i : Int) (n : Nd) : (T.set i n).get i = some n := by rw [get_set]; simp
theorem abs_set (T : Tb) (i : Int) (n : Nd) : (T.set i n).abs = T.abs.set i n.abs := by
 unfold Tb.set Tb.abs AT.set; simp only [up_map]
section
variable {σ σ' : H} {bt : Nat} {T : Tb} {b : Nat} {o : Obj}
theorem NdAt.put {m : Nd} (h : NdAt σ m) (hp : Put σ b o σ') (h1 : m.blk ≠ b) (h2 : m.eb ≠ some b) : NdAt σ' m :=
 ⟨hp.get h1 h.cells, fun e he => (h.ents e he).put hp (by intro e'; subst e'; exact h2 he), h.none, h.dir⟩
theorem ne_cm {c d : Nat} {l : List (Value × Value)} {es : Array Value} {t : TypeId} {fz : Nat × Nat} (hc : σ c = some (.cells es t fz)) (hd : MapAt σ d l) : c ≠ d := by
 obtain ⟨es', k, hd, _⟩ := hd
 intro e; subst e; rw [hc] at hd; cases hd
theorem TAt.bt_mb (h : TAt σ bt T) : bt ≠ T.mb := ne_cm h.cells h.nodes
theorem TAt.blk_bt (h : TAt σ bt T) {i : Int} {n : Nd} (hn : T.get i = some n) : n.blk ≠ bt := by
 intro e
 have h1 := (h.get hn).cells
 have h2 := h.cells
 rw [e, h2] at h1
 unfold Tb.cells Nd.cells at h1
 simp at h1
theorem TAt.blk_mb (h : TAt σ bt T) {i : Int} {n : Nd} (hn : T.get i = some n) : n.blk ≠ T.mb := ne_cm (h.get hn).cells h.nodes
theorem TAt.eb_bt (h : TAt σ bt T) {i : Int} {n : Nd} (hn : T.get i = some n) : n.eb ≠ some bt := by
 intro e; exact ne_cm h.cells ((h.get hn).ents _ e) rfl
theorem TAt.eb_blk (h : TAt σ bt T) {i j : Int} {n m : Nd} (hn : T.get i = some n) (hm : T.get j = some m) : n.eb ≠ some m.blk := by
 intro e; exact ne_cm (h.get hm).cells ((h.get hn).ents _ e) rfl
theorem TAt.own_some (h : TAt σ bt T) (hb : T.own bt b) : ∃ o, σ b = some o := by
 rcases hb with e | e | ⟨i, n, hn, e | e⟩
 ·subst e; exact ⟨_, h.cells⟩
 ·subst e; obtain ⟨_, _, h1, _⟩ := h.nodes; exact ⟨_, h1⟩
 ·subst e; exact ⟨_, (h.get hn).cells⟩
 ·obtain ⟨_, _, h1, _⟩ := (h.get hn).ents _ e; exact ⟨_, h1⟩
theorem TAt.put (h : TAt σ bt T) (hp : Put σ b o σ') (hn : ¬ T.own bt b) : TAt σ' bt T := by
 refine ⟨hp.get ?_ h.cells, h.nodes.put hp ?_, fun i n hg => (h.get hg).put hp ?_ ?_⟩
 ·intro e; exact hn (.inl e.symm)
 ·intro e; exact hn (.inr (.inl e.symm))
 ·intro e; exact hn (.inr (.inr ⟨i, n, hg, .inl e.symm⟩))
 ·intro e; exact hn (.inr (.inr ⟨i, n, hg, .inr e⟩))
theorem TAt.putT {T' : Tb} (h : TAt σ bt T) (hp : Put σ bt T'.cells σ') (h1 : T'.mb = T.mb) (h2 : T'.nodes = T.nodes) : TAt σ' bt T' := by
 have hg : ∀ i, T'.get i = T.get i := by intro i; unfold Tb.get; rw [h2]
 refine ⟨hp.same, ?_, fun i n hn => ?_⟩
 ·rw [h1, h2]; exact h.nodes.put hp (h.bt_mb).symm
 ·rw [hg] at hn
  exact (h.get hn).put hp (h.blk_bt hn) (h.eb_bt hn)
theorem Own.same {T' : Tb} (h : Own T) (h1 : T'.mb = T.mb) (h2 : T'.nodes = T.nodes) : Own T' := by
 have hg : ∀ i, T'.get i = T.get i := by intro i; unfold Tb.get; rw [h2]
 refine ⟨?_, ?_, ?_⟩
 ·intro i j n m; rw [hg, hg]; exact h.blk i j n m
 ·intro i j n m e; rw [hg, hg]; exact h.eb i j n m e
 ·intro i n; rw [hg, h1]; exact h.mb i n
theorem own_same {T' : Tb} (h1 : T'.mb = T.mb) (h2 : T'.nodes = T.nodes) (b : Nat) : T'.own bt b ↔ T.own bt b := by
 have hg : ∀ i, T'.get i = T.get i := by intro i; unfold Tb.get; rw [h2]
 unfold Tb.own; simp only [hg, h1]
theorem TAt.putN (h : TAt σ bt T) (ho : Own T) {i : Int} {n n' : Nd} (hn : T.get i = some n) (hp : Put σ n.blk n'.cells σ') (h1 : n'.blk = n.blk) (h2 : n'.eb = n.eb) (h3 : n'.ents = n.ents) (h4 : n'.kind = n.kind) : TAt σ' bt (T.set i n') := by
 refine ⟨hp.get (h.blk_bt hn).symm h.cells, ?_, fun j m hm => ?_⟩
 ·have := enc_up_same (kk := kkI) (f := Nd.ptr) (k := i) (v := n') (u := n) (l := T.nodes) hn (by unfold Nd.ptr; rw [h1])
  show MapAt σ' T.mb (encL kkI Nd.ptr (up i n' T.nodes))
  rw [this]
  exact h.nodes.put hp (h.blk_mb hn).symm
 ·rw [get_set] at hm
  by_cases e : j = i
  ·rw [if_pos e] at hm; cases hm
   have hN := h.get hn
   refine ⟨by rw [h1]; exact hp.same, fun e he => ?_, fun he => ?_, fun hk => ?_⟩
   ·rw [h2] at he; rw [h3]
    exact (hN.ents e he).put hp (ne_cm hN.cells (hN.ents e he)).symm
   ·rw [h2] at he; rw [h3]; exact hN.none he
   ·rw [h2]; rw [h4] at hk; exact hN.dir hk
  ·rw [if_neg e] at hm
   exact (h.get hm).put hp (fun e' => e (ho.blk j i m n hm hn e')) (h.eb_blk hm hn)
theorem Own.set (ho : Own T) {i : Int} {n n' : Nd} (hn : T.get i = some n) (h1 : n'.blk = n.blk) (h2 : n'.eb = n.eb) : Own (T.set i n') := by
 have key : ∀ j m, (T.set i n').get j = some m -> ∃ m', T.get j = some m' /\ m.blk = m'.blk /\ m.eb = m'.eb := by
  intro j m hm
  rw [get_set] at hm
  by_cases e : j = i
  ·rw [if_pos e] at hm; cases hm; subst e; exact ⟨n, hn, h1, h2⟩
  ·rw [if_neg e] at hm; exact ⟨m, hm, rfl, rfl⟩
 refine ⟨?_, ?_, ?_⟩
 ·intro a c x y hx hy hb
  obtain ⟨x', hx', e1, _⟩ := key a x hx
  obtain ⟨y', hy', e2, _⟩ := key c y hy
  exact ho.blk a c x' y' hx' hy' (by rw [<- e1, <- e2]; exact hb)
 ·intro a c x y e hx hy h3 h4
  obtain ⟨x', hx', _, e1⟩ := key a x hx
  obtain ⟨y', hy', _, e2⟩ := key c y hy
  exact ho.eb a c x' y' e hx' hy' (by rw [<- e1]; exact h3) (by rw [<- e2]; exact h4)
 ·intro a x hx
  obtain ⟨x', hx', _, e1⟩ := key a x hx
  rw [e1]; exact ho.mb a x' hx'
theorem own_set {i : Int} {n n' : Nd} (hn : T.get i = some n) (h1 : n'.blk = n.blk) (h2 : n'.eb = n.eb) (b : Nat) : (T.set i n').own bt b ↔ T.own bt b := by
 unfold Tb.own
 have : (T.set i n').mb = T.mb := rfl
 rw [this]
 refine or_congr_right (or_congr_right ⟨?_, ?_⟩)
 ·rintro ⟨j, m, hm, hb⟩
  rw [get_set] at hm
  by_cases e : j = i
  ·rw [if_pos e] at hm; cases hm; exact ⟨i, n, hn, by rw [<- h1, <- h2]; exact hb⟩
  ·rw [if_neg e] at hm; exact ⟨j, m, hm, hb⟩
 ·rintro ⟨j, m, hm, hb⟩
  by_cases e : j = i
  ·subst e; rw [hn] at hm; cases hm; exact ⟨j, n', get_set_self .., by rw [h1, h2]; exact hb⟩
  ·exact ⟨j, m, by rw [get_set, if_neg e]; exact hm, hb⟩
theorem TAt.putE (h : TAt σ bt T) (ho : Own T) {i : Int} {n : Nd} {e : Nat} {l : List (ByteArray × Int)} (hn : T.get i = some n) (he : n.eb = some e) (hp : Put σ e o σ') (hm : MapAt σ' e (encL kkS valI l)) : TAt σ' bt (T.set i { n with ents := l }) := by
 have hE := (h.get hn).ents e he
 refine ⟨hp.get (ne_cm h.cells hE) h.cells, ?_, fun j m hj => ?_⟩
 ·have := enc_up_same (kk := kkI) (f := Nd.ptr) (k := i) (v := { n with ents := l }) (u := n) (l := T.nodes) hn rfl
  show MapAt σ' T.mb (encL kkI Nd.ptr (up i _ T.nodes))
  rw [this]
  exact h.nodes.put hp (by intro e'; exact ho.mb i n hn (by rw [he, e']))
 ·rw [get_set] at hj
  by_cases e' : j = i
  ·rw [if_pos e'] at hj; cases hj
   have hN := h.get hn
   refine ⟨hp.get (ne_cm hN.cells hE) hN.cells, fun e2 he2 => ?_, fun h0 => ?_, hN.dir⟩
   ·have : e2 = e := by have := he2.symm.trans he; cases this; rfl
    subst this; exact hm
   ·have := he.symm.trans h0; cases this
  ·rw [if_neg e'] at hj
   have hN := h.get hj
   exact hN.put hp (ne_cm hN.cells hE) (fun h2 => e' (ho.eb j i m n e hj hn h2 he))
theorem TAt.putA (h : TAt σ bt T) (ho : Own T) {i : Int} {n : Nd} (hN : NdAt σ n) (hp : Put σ T.mb o σ') (hm : MapAt σ' T.mb (encL kkI Nd.ptr (up i n T.nodes))) (hf : n.eb ≠ some T.mb) : TAt σ' bt (T.set i n) := by
 refine ⟨hp.get h.bt_mb h.cells, hm, fun j m hj => ?_⟩
 rw [get_set] at hj
 by_cases e : j = i
 ·rw [if_pos e] at hj; cases hj
  exact hN.put hp (ne_cm hN.cells h.nodes) hf
 ·rw [if_neg e] at hj
  exact (h.get hj).put hp (h.blk_mb hj) (ho.mb j m hj)
theorem Own.add (ho : Own T) {i : Int} {n : Nd} (h1 : ¬ T.own bt n.blk) (h2 : ∀ e, n.eb = some e -> ¬ T.own bt e) : Own (T.set i n) := by
 have hb : ∀ j m, T.get j = some m -> m.blk ≠ n.blk := fun j m hm e => h1 (.inr (.inr ⟨j, m, hm, .inl e.symm⟩))
 have he : ∀ j m e, T.get j = some m -> n.eb = some e -> m.eb ≠ some e := fun j m e hm hn h => h2 e hn (.inr (.inr ⟨j, m, hm, .inr h⟩))
 refine ⟨?_, ?_, ?_⟩
 ·intro a c x y hx hy hxy
  rw [get_set] at hx hy
  by_cases ea : a = i <;> by_cases ec : c = i
  ·rw [ea, ec]
  ·rw [if_pos ea] at hx; rw [if_neg ec] at hy; cases hx; exact absurd hxy.symm (hb c y hy)
  ·rw [if_neg ea] at hx; rw [if_pos ec] at hy; cases hy; exact absurd hxy (hb a x hx)
  ·rw [if_neg ea] at hx; rw [if_neg ec] at hy; exact ho.blk a c x y hx hy hxy
 ·intro a c x y e hx hy h3 h4
  rw [get_set] at hx hy
  by_cases ea : a = i <;> by_cases ec : c = i
  ·rw [ea, ec]
  ·rw [if_pos ea] at hx; rw [if_neg ec] at hy; cases hx; exact absurd h4 (he c y e hy h3)
  ·rw [if_neg ea] at hx; rw [if_pos ec] at hy; cases hy; exact absurd h3 (he a x e hx h4)
  ·rw [if_neg ea] at hx; rw [if_neg ec] at hy; exact ho.eb a c x y e hx hy h3 h4
 ·intro a x hx
  rw [get_set] at hx
  by_cases ea : a = i
  ·rw [if_pos ea] at hx; cases hx
   intro h; exact h2 _ h (.inr (.inl rfl))
  ·rw [if_neg ea] at hx; exact ho.mb a x hx
theorem own_add {i : Int} {n : Nd} (b : Nat) (h : (T.set i n).own bt b) : T.own bt b \/ b = n.blk \/ n.eb = some b := by
 rcases h with e | e | ⟨j, m, hm, hb⟩
 ·exact .inl (.inl e)
 ·exact .inl (.inr (.inl e))
 ·rw [get_set] at hm
  by_cases e : j = i
  ·rw [if_pos e] at hm; cases hm; exact .inr hb
  ·rw [if_neg e] at hm; exact .inl (.inr (.inr ⟨j, m, hm, hb⟩))
end
structure Lng (σ σ' : H) : Prop where
 gr : Gr σ σ'
def TabAt (σ : H) (bt : Nat) (A : AT) (B : Nat -> Prop) : Prop := ∃ T, TAt σ bt T /\ Own T /\ T.abs = A /\ ∀ b, T.own bt b ↔ B b
theorem TabAt.gr {σ σ' : H} {bt : Nat} {A : AT} {B : Nat -> Prop} (h : TabAt σ bt A B) (hg : Gr σ σ') : TabAt σ' bt A B := by
 obtain ⟨T, h1, h2⟩ := h; exact ⟨T, h1.gr hg, h2⟩
theorem TabAt.put {σ σ' : H} {bt b : Nat} {A : AT} {B : Nat -> Prop} {o : Obj} (h : TabAt σ bt A B) (hp : Put σ b o σ') (hn : ¬ B b) : TabAt σ' bt A B := by
 obtain ⟨T, h1, h2, h3, h4⟩ := h; exact ⟨T, h1.put hp (by rw [h4]; exact hn), h2, h3, h4⟩
theorem TabAt.some {σ : H} {bt b : Nat} {A : AT} {B : Nat -> Prop} (h : TabAt σ bt A B) (hb : B b) : ∃ o, σ b = some o := by
 obtain ⟨T, h1, h2, h3, h4⟩ := h; exact h1.own_some ((h4 b).2 hb)
theorem TabAt.fresh {σ : H} {bt b : Nat} {A : AT} {B : Nat -> Prop} (h : TabAt σ bt A B) (hb : σ b = none) : ¬ B b := by
 intro hB; obtain ⟨o, ho⟩ := h.some hB; rw [hb] at ho; cases ho
theorem s_named1 (hC : CAny) {σ : H} {b1 : Nat} {name : ByteArray} {t1 : TypeId} (h1 : σ b1 = some (.cells ⟨[.string name]⟩ t1 (0, 0))) {K : KH}
 (hK : K (.int .i64 (namedE name)) σ) : callW Tryz.prog 215 [.pointer (some ⟨b1, 0, none⟩)] K σ := by
 refine c215 _ ?_
 unfold g215
 (repeat (first|refine ptr_i ?_|refine z2 ?_|(refine al_i ?_;intro _ _ _ _ _)|refine z4 ?_|refine z5 ?_|(refine z6 ?_;intro _ _)|refine app_P ?_|refine app_I ?_|refine app_S ?_|refine app_B ?_|refine app_M ?_|refine app_L ?_|refine app_U ?_|refine app_R ?_|(refine app_of rfl ?_;try dsimp only)))
 unfold namedE at hK
 simp only [sEq_eq] at hK
 by_cases hl : name.size > 56
 ·rw [if_pos hl] at hK; exact br_t (by simp; omega) hK
 rw [if_neg hl] at hK
 refine br_f (by simp; omega) ?_
 (repeat (first|refine ptr_i ?_|refine z2 ?_|(refine al_i ?_;intro _ _ _ _ _)|refine z4 ?_|refine z5 ?_|(refine z6 ?_;intro _ _)|refine app_P ?_|refine app_I ?_|refine app_S ?_|refine app_B ?_|refine app_M ?_|refine app_L ?_|refine app_U ?_|refine app_R ?_|(refine app_of rfl ?_;try dsimp only)))
 cases ha : strEq name ⟨⟨[]⟩⟩ with
 | true => rw [ha] at hK; exact br_f rfl (call_i (s_must _ _ (app_I hK)))
 | false =>
  rw [ha] at hK
  refine br_t rfl ?_
  (repeat (first|refine ptr_i ?_|refine z2 ?_|(refine al_i ?_;intro _ _ _ _ _)|refine z4 ?_|refine z5 ?_|(refine z6 ?_;intro _ _)|refine app_P ?_|refine app_I ?_|refine app_S ?_|refine app_B ?_|refine app_M ?_|refine app_L ?_|refine app_U ?_|refine app_R ?_|(refine app_of rfl ?_;try dsimp only)))
  cases hb : strEq name ⟨⟨[46]⟩⟩ with
  | true => rw [hb] at hK; exact br_f rfl (call_i (s_must _ _ (app_I hK)))
  | false =>
   rw [hb] at hK
   refine br_t rfl ?_
   (repeat (first|refine ptr_i ?_|refine z2 ?_|(refine al_i ?_;intro _ _ _ _ _)|refine z4 ?_|refine z5 ?_|(refine z6 ?_;intro _ _)|refine app_P ?_|refine app_I ?_|refine app_S ?_|refine app_B ?_|refine app_M ?_|refine app_L ?_|refine app_U ?_|refine app_R ?_|(refine app_of rfl ?_;try dsimp only)))
   cases hc : strEq name ⟨⟨[46, 46]⟩⟩ with
   | true => rw [hc] at hK; exact br_f rfl (call_i (s_must _ _ (app_I hK)))
   | false =>
    rw [hc] at hK
    refine br_t rfl ?_
    (repeat (first|refine ptr_i ?_|refine z2 ?_|(refine al_i ?_;intro _ _ _ _ _)|refine z4 ?_|refine z5 ?_|(refine z6 ?_;intro _ _)|refine app_P ?_|refine app_I ?_|refine app_S ?_|refine app_B ?_|refine app_M ?_|refine app_L ?_|refine app_U ?_|refine app_R ?_|(refine app_of rfl ?_;try dsimp only)))
    refine call_i (hC _ (by omega) _ _ (app_B ?_))
    exact call_i (s_must _ _ (app_I (by simpa using hK)))
theorem s_Make2 {σ : H} {bt : Nat} {T : Tb} (hT : TAt σ bt T) {b1 b2 : Nat} {data : ByteArray} {t1 t2 : TypeId} (h1 : σ b1 = some (.cells ⟨[.pointer (some ⟨bt, 0, none⟩)]⟩ t1 (0, 0))) (h2 : σ b2 = some (.cells ⟨[.string data]⟩ t2 (0, 0))) {K : KH}
 (hK : K (.int .i64 (T.roomE 1 data.size)) σ) : callW Tryz.prog 167 [.pointer (some ⟨b1, 0, none⟩), .pointer (some ⟨b2, 0, none⟩)] K σ := by
 refine pure_i _ hK (c167 _ _ ?_)
 unfold g167
 (repeat (first|refine ptr_i ?_|refine z2 ?_|(refine al_i ?_;intro _ _ _ _ _)|refine z4 ?_|refine z5 ?_|(refine z6 ?_;intro _ _)|refine app_P ?_|refine app_I ?_|refine app_S ?_|refine app_B ?_|refine app_M ?_|refine app_L ?_|refine app_U ?_|refine app_R ?_|(refine app_of rfl ?_;try dsimp only)))
 refine call_i (s_room _ _ _ ?_)
 intro c1 c2 c3 σ' hg e1 e2 e3
 refine app_R ?_
 refine cval_i go_room1 ?_
 exact s_room1 (hT.gr hg) e1 e2 e3 (app_I ⟨rfl, hg⟩)
theorem one_f {f : Fn} {as_ cs : Array Value} {g : H -> Prop} {σ : H} (h : g σ) : oneK (.func f as_ cs) g σ := by unfold oneK; exact h
theorem und_MSI : Tryz.prog.underlying 192 = some (.map 9 3) := by kernel_rfl
theorem und_MIN : Tryz.prog.underlying 198 = some (.map 3 189) := by kernel_rfl
theorem firstE_z {e : Int} {es : List Int} (h : firstE (e :: es) = 0) : e = 0 /\ firstE es = 0 := by
 unfold firstE at h
 by_cases he : e = 0
 ·rw [if_pos he] at h; exact ⟨he, h⟩
 ·rw [if_neg he] at h; exact absurd h he
theorem dirE_z {T : Tb} {d : Int} (h : T.dirE d = 0) : ∃ n, T.get d = some n /\ n.kind = 2 := by
 unfold Tb.dirE at h
 cases hn : T.get d with
 | none => rw [hn] at h; cases h
 | some n =>
  rw [hn] at h
  refine ⟨n, rfl, ?_⟩
  cases hk : (n.kind == 2) with
  | true => simpa using hk
  | false => simp [hk] at h
theorem TAt.dir {σ : H} {bt : Nat} {T : Tb} (hT : TAt σ bt T) {d : Int} {n : Nd} (hn : T.get d = some n) (hk : n.kind = 2) : ∃ e, n.eb = some e := by
 have := (hT.get hn).dir hk
 cases he : n.eb with
 | none => exact absurd he this
 | some e => exact ⟨e, rfl⟩
theorem rdN {σ : H} {bt : Nat} {T : Tb} (hT : TAt σ bt T) {i : Int} {n : Nd} (hn : T.get i = some n) {F : Option Addr -> H -> Prop} (h : F (some ⟨n.blk, 0, none⟩) σ) : rdT (rdM (.int .i64) (.pointer none) false (some T.mb) (.int .i64 i)) kP F σ := by
 refine rd_P (x := some ⟨n.blk, 0, none⟩) ?_ h
 have := rdM_at (kk := kkI) hT.nodes (.pointer none) false i
 unfold Tb.get at hn
 rw [hn] at this
 exact this
theorem s_Make (hI : IByte) (hC : CAny) {σ : H} {bt : Nat} {A : AT} {B : Nat -> Prop} (hA : TabAt σ bt A B) (dir : Int) (name : ByteArray) (kind mode : Int) (data : ByteArray) (hL : A.get (wr (A.last + 1)) = none) {K : KH}
 (hK : ∀ σ' B', TabAt σ' bt (AT.makeR A dir name kind mode data).2.2 B' -> Sep σ B σ' B' -> K (.tuple ⟨[.int .i64 (AT.makeR A dir name kind mode data).1, .int .i64 (AT.makeR A dir name kind mode data).2.1]⟩) σ') :
 callW Tryz.prog 96 [.pointer (some ⟨bt, 0, none⟩), .int .i64 dir, .string name, .int .i64 kind, .int .i64 mode, .string data] K σ := by
 obtain ⟨T, hT, hO, rfl, hB⟩ := hA
 have hc0 := hT.cells
 refine c96 _ _ _ _ _ _ ?_
 unfold g96
 refine al_i ?_; intro b7 σ1 g1 e1 n1
 refine al_i ?_; intro b8 σ2 g2 e2 n2
 refine al_i ?_; intro b9 σ3 g3 e3 n3
 refine al_i ?_; intro b10 σ4 g4 e4 n4
 (repeat (first|refine ptr_i ?_|refine z2 ?_|(refine al_i ?_;intro _ _ _ _ _)|refine z4 ?_|refine z5 ?_|(refine z6 ?_;intro _ _)|refine app_P ?_|refine app_I ?_|refine app_S ?_|refine app_B ?_|refine app_M ?_|refine app_L ?_|refine app_U ?_|refine app_R ?_|(refine app_of rfl ?_;try dsimp only)))
 refine call_i (s_dir _ _ ?_)
 intro c1 c2 σ5 g5 f1 f2
 refine app_R ?_
 (repeat (first|refine ptr_i ?_|refine z2 ?_|(refine al_i ?_;intro _ _ _ _ _)|refine z4 ?_|refine z5 ?_|(refine z6 ?_;intro _ _)|refine app_P ?_|refine app_I ?_|refine app_S ?_|refine app_B ?_|refine app_M ?_|refine app_L ?_|refine app_U ?_|refine app_R ?_|(refine app_of rfl ?_;try dsimp only)))
 refine call_i (s_named _ ?_)
 intro c3 σ6 g6 f3
 refine app_R ?_
 (repeat (first|refine ptr_i ?_|refine z2 ?_|(refine al_i ?_;intro _ _ _ _ _)|refine z4 ?_|refine z5 ?_|(refine z6 ?_;intro _ _)|refine app_P ?_|refine app_I ?_|refine app_S ?_|refine app_B ?_|refine app_M ?_|refine app_L ?_|refine app_U ?_|refine app_R ?_|(refine app_of rfl ?_;try dsimp only)))
 refine call_i (s_free _ _ _ ?_)
 intro c4 c5 c6 σ7 g7 f4 f5 f6
 refine app_R ?_
 (repeat (first|refine ptr_i ?_|refine z2 ?_|(refine al_i ?_;intro _ _ _ _ _)|refine z4 ?_|refine z5 ?_|(refine z6 ?_;intro _ _)|refine app_P ?_|refine app_I ?_|refine app_S ?_|refine app_B ?_|refine app_M ?_|refine app_L ?_|refine app_U ?_|refine app_R ?_|(refine app_of rfl ?_;try dsimp only)))
 refine one_f (one_f (one_f ?_))
 refine al_i ?_; intro b17 σ8 g8 e8 n8
 have hgr : Lng σ σ8 := ⟨by repeat (first | exact Gr.refl _ | assumption | refine Gr.trans ?_ ‹_› | refine Gr.putF ?_ ‹_› (none_of ?_ ‹_›))⟩
 have hT8 := hT.gr hgr.gr
 refine call_i (s_first (es := [0, T.dirE dir, namedE name, likeE kind mode data, if (T.find dir name).isSome then 6 else 0, T.roomE 1 data.size]) e8 ?_ (by simp) (app_I ?_))
 ·refine ⟨pu_of go_there fun K hk => s_there _ hk, fun _ => ⟨pu_of go_dir1 fun K hk => s_dir1 hT8 (by exact gA) (by exact gA) hk, fun _ => ⟨pu_of go_named1 fun K hk => s_named1 hC (by exact gA) hk, fun _ => ⟨pu_of go_Make1 fun K hk => s_Make1 hI (by exact gA) (by exact gA) (by exact gA) hk, fun _ => ⟨pu_of go_free1 fun K hk => s_free1 hT8 (by exact gA) (by exact gA) (by exact gA) hk, fun _ => ⟨pu_of go_Make2 fun K hk => s_Make2 hT8 (by exact gA) (by exact gA) hk, fun _ => trivial⟩⟩⟩⟩⟩⟩
 have hE : firstE [0, T.dirE dir, namedE name, likeE kind mode data, if (T.find dir name).isSome then 6 else 0, T.roomE 1 data.size] = T.abs.makeE dir name kind mode data := by
  unfold AT.makeE; rw [abs_dirE, abs_find, abs_roomE]
 rw [hE]
 have hK' := hK; clear hK
 unfold AT.makeR at hK'
 by_cases h0 : T.abs.makeE dir name kind mode data = 0
 case neg =>
  rw [if_neg h0] at hK'
  refine br_t (by simpa using h0) ?_
  exact hK' σ8 B ⟨T, hT8, hO, rfl, hB⟩ (Sep.gr hgr.gr)
 rw [if_pos h0] at hK'
 refine br_f (by simpa using h0) ?_
 rw [<- hE] at h0
 have hd := (firstE_z (firstE_z h0).2).1
 obtain ⟨nd, hnd, hkd⟩ := dirE_z hd
 have hc := hT8.cells
 unfold Tb.cells at hc
 have hb7 : ¬ T.own bt b7 := by rw [hB]; intro h; obtain ⟨o, ho⟩ := hT.own_some ((hB _).2 h); exact ne_fresh ho n1 rfl
 (repeat (first|refine ptr_i ?_|refine z2 ?_|(refine al_i ?_;intro _ _ _ _ _)|refine z4 ?_|refine z5 ?_|(refine z6 ?_;intro _ _)|refine app_P ?_|refine app_I ?_|refine app_S ?_|refine app_B ?_|refine app_M ?_|refine app_L ?_|refine app_U ?_|refine app_R ?_|(refine app_of rfl ?_;try dsimp only)))
 rename_i σ9 p9 b28 σ10 g10 e10 n10
 let T1 : Tb := { T with last := wr (T.last + 1) }
 have hT9 : TAt σ9 bt T1 := hT8.putT p9 rfl rfl
 have hT10 := hT9.gr g10
 have hO1 : Own T1 := hO.same rfl rfl
 have o1 : ∀ b, T1.own bt b ↔ B b := fun b => (own_same rfl rfl b).trans (hB b)
 have s10 : Sep σ B σ10 B := by
  intro b o hb hn
  refine ⟨g10.get (p9.get ?_ (hgr.gr.get hb)), hn⟩
  intro e; subst e; exact hn ((hB _).1 (.inl rfl))
 have k7 : σ10 b7 = some (.cells ⟨[.pointer (some ⟨bt, 0, none⟩)]⟩ 108 (0, 0)) := by exact gA
 have k8 : σ10 b8 = some (.cells ⟨[.int .i64 kind]⟩ 3 (0, 0)) := by exact gA
 have k10 : σ10 b10 = some (.cells ⟨[.string data]⟩ 9 (0, 0)) := by exact gA
 have nb : ∀ b, T1.own bt b -> ∃ o, σ b = some o := by
  intro b hb; exact hT.own_some ((own_same rfl rfl b).1 hb)
 have q7 : b7 ≠ b28 := ne_fr n10 (by repeat (first | exact io ‹_› | exact mS ‹_› | refine gS ‹_› ?_ | refine pS ‹_› ?_))
 have q10 : b10 ≠ b28 := ne_fr n10 (by repeat (first | exact io ‹_› | exact mS ‹_› | refine gS ‹_› ?_ | refine pS ‹_› ?_))
 have f28 : σ b28 = none := none_of hgr.gr (by
  cases hx : σ8 b28 with
  | none => rfl
  | some o' =>
   exfalso
   have : b28 ≠ bt := ne_fr n10 (by repeat (first | exact io ‹_› | exact mS ‹_› | refine gS ‹_› ?_ | refine pS ‹_› ?_)) |>.symm
   exact ne_fresh (p9.get this hx) n10 rfl)
 have hfr : ¬ T1.own bt b28 := by
  intro h; obtain ⟨o, ho⟩ := nb _ h
  rw [f28] at ho; cases ho
 refine j_i (fun j => ∀ σ' eb, NdAt σ' ⟨b28, kind, mode, data, 1, if kind == 2 then dir else 0, eb, []⟩ -> TAt σ' bt T1 -> (∀ e, eb = some e -> σ e = none) -> σ' b7 = some (.cells ⟨[.pointer (some ⟨bt, 0, none⟩)]⟩ 108 (0, 0)) -> σ' b10 = some (.cells ⟨[.string data]⟩ 9 (0, 0)) -> Sep σ B σ' B -> j dir name (some ⟨b7, 0, none⟩) (some ⟨b10, 0, none⟩) (some ⟨b28, 0, none⟩) σ') ?_ ?_
 ·intro σ' eb hN hT' heb h7 h10 hs
  have hcT := hT'.cells
  unfold Tb.cells at hcT
  have hm := hT'.nodes
  have e28 := hN.cells
  have nm : bt ≠ T1.mb := hT'.bt_mb
  have n7m : b7 ≠ T1.mb := ne_cm h7 hm
  have n10m : b10 ≠ T1.mb := ne_cm h10 hm
  have n7t : b7 ≠ bt := by first | assumption | exact Ne.symm ‹_› | exact ne_fr ‹_› (by repeat (first | exact io ‹_› | exact mS ‹_› | refine gS ‹_› ?_ | refine pS ‹_› ?_)) | exact Ne.symm (ne_fr ‹_› (by repeat (first | exact io ‹_› | exact mS ‹_› | refine gS ‹_› ?_ | refine pS ‹_› ?_)))
  have n10t : b10 ≠ bt := by first | assumption | exact Ne.symm ‹_› | exact ne_fr ‹_› (by repeat (first | exact io ‹_› | exact mS ‹_› | refine gS ‹_› ?_ | refine pS ‹_› ?_)) | exact Ne.symm (ne_fr ‹_› (by repeat (first | exact io ‹_› | exact mS ‹_› | refine gS ‹_› ?_ | refine pS ‹_› ?_)))
  let nn : Nd := ⟨b28, kind, mode, data, 1, if kind == 2 then dir else 0, eb, []⟩
  have hfe : ∀ e, eb = some e -> ¬ T1.own bt e := by
   intro e he h; obtain ⟨o, ho⟩ := nb _ h; rw [heb e he] at ho; cases ho
  (repeat (first|refine ptr_i ?_|refine z2 ?_|(refine al_i ?_;intro _ _ _ _ _)|refine z4 ?_|refine z5 ?_|(refine z6 ?_;intro _ _)|refine app_P ?_|refine app_I ?_|refine app_S ?_|refine app_B ?_|refine app_M ?_|refine app_L ?_|refine app_U ?_|refine app_R ?_|(refine app_of rfl ?_;try dsimp only)))
  refine mu_i (kk := kkI) (f := Nd.ptr) und_MIN und_int hm (wr (T.last + 1)) nn ?_
  intro o11 σ11 p11 m11
  have hT11 : TAt σ11 bt (T1.set (wr (T.last + 1)) nn) := hT'.putA hO1 hN p11 m11 (by intro h; exact hfe _ h (.inr (.inl rfl)))
  have hO11 : Own (T1.set (wr (T.last + 1)) nn) := hO1.add hfr hfe
  (repeat (first|refine ptr_i ?_|refine z2 ?_|(refine al_i ?_;intro _ _ _ _ _)|refine z4 ?_|refine z5 ?_|(refine z6 ?_;intro _ _)|refine app_P ?_|refine app_I ?_|refine app_S ?_|refine app_B ?_|refine app_M ?_|refine app_L ?_|refine app_U ?_|refine app_R ?_|(refine app_of rfl ?_;try dsimp only)))
  have hL' : T1.get (wr (T.last + 1)) = none := by
   rw [abs_get] at hL
   exact Option.map_eq_none_iff.1 hL
  have hdl : dir ≠ wr (T.last + 1) := by
   intro e; rw [<- e] at hL'; have : T1.get dir = T.get dir := rfl; rw [this, hnd] at hL'; cases hL'
  have hd11 : (T1.set (wr (T.last + 1)) nn).get dir = some nd := by rw [get_set, if_neg hdl]; exact hnd
  refine rdN hT11 hd11 ?_
  obtain ⟨ed, hed⟩ := hT11.dir hd11 hkd
  have cD := (hT11.get hd11).cells
  unfold Nd.cells at cD
  rw [hed] at cD
  (repeat (first|refine ptr_i ?_|refine z2 ?_|(refine al_i ?_;intro _ _ _ _ _)|refine z4 ?_|refine z5 ?_|(refine z6 ?_;intro _ _)|refine app_P ?_|refine app_I ?_|refine app_S ?_|refine app_B ?_|refine app_M ?_|refine app_L ?_|refine app_U ?_|refine app_R ?_|(refine app_of rfl ?_;try dsimp only)))
  have mE := (hT11.get hd11).ents ed hed
  refine mu_i (kk := kkS) (f := valI) und_MSI und_string mE name (wr (T.last + 1)) ?_
  intro o12 σ12 p12 m12
  have hT12 := hT11.putE hO11 hd11 hed p12 m12
  have hO12 : Own ((T1.set (wr (T.last + 1)) nn).set dir { nd with ents := HL.up name (wr (T.last + 1)) nd.ents }) := hO11.set hd11 rfl rfl
  have n7e : b7 ≠ ed := ne_cm (p11.get n7m h7) mE
  have n10e : b10 ≠ ed := ne_cm (p11.get n10m h10) mE
  have nte : bt ≠ ed := ne_cm hT11.cells mE
  (repeat (first|refine ptr_i ?_|refine z2 ?_|(refine al_i ?_;intro _ _ _ _ _)|refine z4 ?_|refine z5 ?_|(refine z6 ?_;intro _ _)|refine app_P ?_|refine app_I ?_|refine app_S ?_|refine app_B ?_|refine app_M ?_|refine app_L ?_|refine app_U ?_|refine app_R ?_|(refine app_of rfl ?_;try dsimp only)))
  rename_i σ13 p13 σ14 p14
  have hT13 := hT12.putT (T' := { ((T1.set (wr (T.last + 1)) nn).set dir { nd with ents := HL.up name (wr (T.last + 1)) nd.ents }) with ui := wr (T.ui + 1) }) p13 rfl rfl
  have hT14 := hT13.putT (T' := { ((T1.set (wr (T.last + 1)) nn).set dir { nd with ents := HL.up name (wr (T.last + 1)) nd.ents }) with ui := wr (T.ui + 1), ub := wr (T.ub + data.size) }) p14 rfl rfl
  refine hK' σ14 (Tb.own bt { ((T1.set (wr (T.last + 1)) nn).set dir { nd with ents := HL.up name (wr (T.last + 1)) nd.ents }) with ui := wr (T.ui + 1), ub := wr (T.ub + data.size) }) ⟨_, hT14, hO12.same rfl rfl, ?_, fun _ => Iff.rfl⟩ ?_
  ·have hA1 : (T1.set (wr (T.last + 1)) nn).abs = { T.abs with last := wr (T.abs.last + 1), nodes := HL.up (wr (T.abs.last + 1)) ⟨kind, mode, data, 1, if kind == 2 then dir else 0, []⟩ T.abs.nodes } := abs_set ..
   have hg1 : (T1.set (wr (T.last + 1)) nn).abs.get dir = some nd.abs := by rw [abs_get, hd11]; rfl
   unfold AT.made AT.ent
   simp only
   rw [<- hA1, hg1]
   simp only
   have h5 := abs_set (T1.set (wr (T.last + 1)) nn) dir { nd with ents := HL.up name (wr (T.last + 1)) nd.ents }
   show ({ ((T1.set (wr (T.last + 1)) nn).set dir { nd with ents := HL.up name (wr (T.last + 1)) nd.ents }).abs with ui := wr (T.ui + 1), ub := wr (T.ub + data.size) } : AT) = _
   rw [h5]; rfl
  ·intro b o hb hn
   obtain ⟨hb', _⟩ := hs b o hb hn
   have q1 : b ≠ bt := by intro e; subst e; exact hn ((o1 _).1 (.inl rfl))
   have q2 : b ≠ T1.mb := by intro e; subst e; exact hn ((o1 _).1 (.inr (.inl rfl)))
   have q3 : b ≠ ed := by intro e; subst e; exact hn ((o1 _).1 (.inr (.inr ⟨dir, nd, hnd, .inr hed⟩)))
   refine ⟨p14.get q1 (p13.get q1 (p12.get q3 (p11.get q2 hb'))), ?_⟩
   intro hown
   have h1 := (own_same (T := (T1.set (wr (T.last + 1)) nn).set dir { nd with ents := HL.up name (wr (T.last + 1)) nd.ents }) rfl rfl b).1 hown
   have h2 := (own_set (n' := { nd with ents := HL.up name (wr (T.last + 1)) nd.ents }) hd11 rfl rfl b).1 h1
   rcases own_add b h2 with h3 | h3 | h3
   ·exact hn ((o1 _).1 h3)
   ·exact ne_fresh hb f28 h3
   ·exact ne_fresh hb (heb b h3) rfl
 ·intro j hj
  (repeat (first|refine ptr_i ?_|refine z2 ?_|(refine al_i ?_;intro _ _ _ _ _)|refine z4 ?_|refine z5 ?_|(refine z6 ?_;intro _ _)|refine app_P ?_|refine app_I ?_|refine app_S ?_|refine app_B ?_|refine app_M ?_|refine app_L ?_|refine app_U ?_|refine app_R ?_|(refine app_of rfl ?_;try dsimp only)))
  cases hk2 : (kind == 2) with
  | false =>
   refine br_f rfl ?_
   refine hj σ10 none ⟨by rw [hk2]; exact e10, fun _ h => (by cases h), fun _ => rfl, fun h => ?_⟩ hT10 (fun _ h => (by cases h)) k7 k10 s10
   exfalso; simp at hk2; exact hk2 h
  | true =>
   refine br_t rfl ?_
   (repeat (first|refine ptr_i ?_|refine z2 ?_|(refine al_i ?_;intro _ _ _ _ _)|refine z4 ?_|refine z5 ?_|(refine z6 ?_;intro _ _)|refine app_P ?_|refine app_I ?_|refine app_S ?_|refine app_B ?_|refine app_M ?_|refine app_L ?_|refine app_U ?_|refine app_R ?_|(refine app_of rfl ?_;try dsimp only)))
   rename_i b89 σ11 g11 e11 n11 σ12 p12 σ13 p13
   have n89 : ∀ b o, σ10 b = some o -> b ≠ b89 := fun b o hb => ne_fresh hb n11
   have hf89 : ¬ T1.own bt b89 := by
    intro h; obtain ⟨o, ho⟩ := hT10.own_some h; exact n89 _ _ ho rfl
   have f89 : σ b89 = none := by
    cases hx : σ b89 with
    | none => rfl
    | some o => exfalso; exact hf89 ((o1 _).2 (Classical.byContradiction fun h => n89 _ _ (s10 _ _ hx h).1 rfl))
   refine hj σ13 (some b89) ⟨by rw [hk2]; exact p13.same, fun e he => ?_, fun h => (by cases h), fun _ h => (by cases h)⟩ (((hT10.gr g11).put p12 hfr).put p13 hfr) (fun e he => by cases he; exact f89) (by exact gA) (by exact gA) ?_
   ·cases he
    refine MapAt.new ?_
    have : b89 ≠ b28 := (n89 _ _ e10).symm
    exact p13.get this (p12.get this e11)
   ·intro b o hb hn
    have q : b ≠ b28 := ne_fresh hb f28
    exact ⟨p13.get q (p12.get q (g11.get (s10 b o hb hn).1)), hn⟩
theorem fileE_z {T : Tb} {d : Int} (h : T.fileE d = 0) : ∃ n, T.get d = some n /\ n.kind = 1 := by
 unfold Tb.fileE at h
 cases hn : T.get d with
 | none => rw [hn] at h; cases h
 | some n =>
  rw [hn] at h
  refine ⟨n, rfl, ?_⟩
  cases hk : (n.kind == 2) with
  | true => simp [hk] at h
  | false =>
   simp only [hk] at h
   cases hk1 : (n.kind == 1) with
   | true => simpa using hk1
   | false => simp [hk1] at h
theorem TAt.ne {σ : H} {bt : Nat} {T : Tb} (_hT : TAt σ bt T) {b : Nat} (hb : ¬ T.own bt b) : b ≠ bt /\ b ≠ T.mb /\ (∀ i n, T.get i = some n -> b ≠ n.blk /\ n.eb ≠ some b) :=
 ⟨fun e => hb (.inl e), fun e => hb (.inr (.inl e)), fun i n hn => ⟨fun e => hb (.inr (.inr ⟨i, n, hn, .inl e⟩)), fun e => hb (.inr (.inr ⟨i, n, hn, .inr e⟩))⟩⟩
theorem s_Link (hC : CAny) {σ : H} {bt : Nat} {A : AT} {B : Nat -> Prop} (hA : TabAt σ bt A B) (dir : Int) (name : ByteArray) (ino : Int) {K : KH}
 (hK : ∀ σ' B', TabAt σ' bt (AT.linkR A dir name ino).2 B' -> Sep σ B σ' B' -> K (.int .i64 (AT.linkR A dir name ino).1) σ') :
 callW Tryz.prog 111 [.pointer (some ⟨bt, 0, none⟩), .int .i64 dir, .string name, .int .i64 ino] K σ := by
 obtain ⟨T, hT, hO, rfl, hB⟩ := hA
 have hc0 := hT.cells
 refine c111 _ _ _ _ ?_
 unfold g111
 refine call_i (s_dir _ _ ?_)
 intro c1 c2 σ5 g5 f1 f2
 refine app_R ?_
 refine call_i (s_named _ ?_)
 intro c3 σ6 g6 f3
 refine app_R ?_
 refine call_i (s_file _ _ ?_)
 intro c7 c8 σ6' g6' f7 f8
 refine app_R ?_
 refine call_i (s_free _ _ _ ?_)
 intro c4 c5 c6 σ7 g7 f4 f5 f6
 refine app_R ?_
 refine one_f (one_f (one_f (one_f ?_)))
 refine al_i ?_; intro b17 σ8 g8 e8 n8
 have hgr : Lng σ σ8 := ⟨by repeat (first | exact Gr.refl _ | assumption | refine Gr.trans ?_ ‹_› | refine Gr.putF ?_ ‹_› (none_of ?_ ‹_›))⟩
 have hT8 := hT.gr hgr.gr
 refine call_i (s_first (es := [0, T.dirE dir, namedE name, T.fileE ino, if (T.find dir name).isSome then 6 else 0]) e8 ?_ (by simp) (app_I ?_))
 ·refine ⟨pu_of go_there fun K hk => s_there _ hk, fun _ => ⟨pu_of go_dir1 fun K hk => s_dir1 hT8 (by exact gA) (by exact gA) hk, fun _ => ⟨pu_of go_named1 fun K hk => s_named1 hC (by exact gA) hk, fun _ => ⟨pu_of go_file1 fun K hk => s_file1 hT8 (by exact gA) (by exact gA) hk, fun _ => ⟨pu_of go_free1 fun K hk => s_free1 hT8 (by exact gA) (by exact gA) (by exact gA) hk, fun _ => trivial⟩⟩⟩⟩⟩
 have hE : firstE [0, T.dirE dir, namedE name, T.fileE ino, if (T.find dir name).isSome then 6 else 0] = T.abs.linkE dir name ino := by
  unfold AT.linkE; rw [abs_dirE, abs_find, abs_fileE]
 rw [hE]
 unfold AT.linkR at hK
 by_cases h0 : T.abs.linkE dir name ino = 0
 case neg =>
  rw [if_neg h0] at hK
  refine br_t (by simpa using h0) ?_
  exact hK σ8 B ⟨T, hT8, hO, rfl, hB⟩ (Sep.gr hgr.gr)
 rw [if_pos h0] at hK
 refine br_f (by simpa using h0) ?_
 rw [<- hE] at h0
 have hd := (firstE_z (firstE_z h0).2).1
 obtain ⟨nd, hnd, hkd⟩ := dirE_z hd
 have hf := (firstE_z (firstE_z (firstE_z (firstE_z h0).2).2).2).1
 obtain ⟨nf, hnf, hkf⟩ := fileE_z hf
 have hne : ino ≠ dir := by intro e; subst e; rw [hnd] at hnf; cases hnf; omega
 have hc := hT8.cells
 unfold Tb.cells at hc
 (repeat (first|refine ptr_i ?_|refine z2 ?_|(refine al_i ?_;intro _ _ _ _ _)|refine z4 ?_|refine z5 ?_|(refine z6 ?_;intro _ _)|refine app_P ?_|refine app_I ?_|refine app_S ?_|refine app_B ?_|refine app_M ?_|refine app_L ?_|refine app_U ?_|refine app_R ?_|(refine app_of rfl ?_;try dsimp only)))
 refine rdN hT8 hnd ?_
 obtain ⟨ed, hed⟩ := hT8.dir hnd hkd
 have cD := (hT8.get hnd).cells
 unfold Nd.cells at cD
 rw [hed] at cD
 (repeat (first|refine ptr_i ?_|refine z2 ?_|(refine al_i ?_;intro _ _ _ _ _)|refine z4 ?_|refine z5 ?_|(refine z6 ?_;intro _ _)|refine app_P ?_|refine app_I ?_|refine app_S ?_|refine app_B ?_|refine app_M ?_|refine app_L ?_|refine app_U ?_|refine app_R ?_|(refine app_of rfl ?_;try dsimp only)))
 have mE := (hT8.get hnd).ents ed hed
 refine mu_i (kk := kkS) (f := valI) und_MSI und_string mE name ino ?_
 intro o12 σ12 p12 m12
 have hT12 := hT8.putE hO hnd hed p12 m12
 have hO12 : Own (T.set dir { nd with ents := HL.up name ino nd.ents }) := hO.set hnd rfl rfl
 have hf12 : (T.set dir { nd with ents := HL.up name ino nd.ents }).get ino = some nf := by rw [get_set, if_neg hne]; exact hnf
 have hc12 := hT12.cells
 unfold Tb.cells at hc12
 (repeat (first|refine ptr_i ?_|refine z2 ?_|(refine al_i ?_;intro _ _ _ _ _)|refine z4 ?_|refine z5 ?_|(refine z6 ?_;intro _ _)|refine app_P ?_|refine app_I ?_|refine app_S ?_|refine app_B ?_|refine app_M ?_|refine app_L ?_|refine app_U ?_|refine app_R ?_|(refine app_of rfl ?_;try dsimp only)))
 refine rdN hT12 hf12 ?_
 have cF := (hT12.get hf12).cells
 unfold Nd.cells at cF
 (repeat (first|refine ptr_i ?_|refine z2 ?_|(refine al_i ?_;intro _ _ _ _ _)|refine z4 ?_|refine z5 ?_|(refine z6 ?_;intro _ _)|refine app_P ?_|refine app_I ?_|refine app_S ?_|refine app_B ?_|refine app_M ?_|refine app_L ?_|refine app_U ?_|refine app_R ?_|(refine app_of rfl ?_;try dsimp only)))
 rename_i σ13 p13
 have hT13 := hT12.putN hO12 (n' := { nf with links := wr (nf.links + 1) }) hf12 p13 rfl rfl rfl rfl
 have hO13 := hO12.set (n' := { nf with links := wr (nf.links + 1) }) hf12 rfl rfl
 refine hK σ13 B ⟨_, hT13, hO13, ?_, fun b => (own_set (n' := { nf with links := wr (nf.links + 1) }) hf12 rfl rfl b).trans ((own_set (n' := { nd with ents := HL.up name ino nd.ents }) hnd rfl rfl b).trans (hB b))⟩ ?_
 ·rw [abs_set]
  unfold AT.linked AT.ent AT.mod
  rw [abs_get, hnd]
  simp only [Option.map_some]
  have h5 : T.abs.set dir { nd.abs with ents := HL.up name ino nd.abs.ents } = (T.set dir { nd with ents := HL.up name ino nd.ents }).abs := (abs_set T dir { nd with ents := HL.up name ino nd.ents }).symm
  rw [h5, abs_get, hf12]
  rfl
 ·intro b o hb hn
  have hn' : ¬ T.own bt b := fun h => hn ((hB b).1 h)
  have q1 : b ≠ ed := by intro e; subst e; exact ((hT.ne hn').2.2 dir nd hnd).2 hed
  have q2 : b ≠ nf.blk := ((hT.ne hn').2.2 ino nf hnf).1
  exact ⟨p13.get q2 (p12.get q1 (hgr.gr.get hb)), hn⟩

theorem s_WriteT1 {σ : H} {bt : Nat} {T : Tb} (hT : TAt σ bt T) {b1 b2 b3 : Nat} {data : ByteArray} {ino : Int} {t1 t2 t3 : TypeId} (h1 : σ b1 = some (.cells ⟨[.pointer (some ⟨bt, 0, none⟩)]⟩ t1 (0, 0))) (h2 : σ b2 = some (.cells ⟨[.string data]⟩ t2 (0, 0))) (h3 : σ b3 = some (.cells ⟨[.int .i64 ino]⟩ t3 (0, 0))) {n : Nd} (hn : T.get ino = some n) {K : KH}
 (hK : K (.int .i64 (T.roomE 0 (wr ((data.size : Int) - n.data.size)))) σ) : callW Tryz.prog 171 [.pointer (some ⟨b1, 0, none⟩), .pointer (some ⟨b2, 0, none⟩), .pointer (some ⟨b3, 0, none⟩)] K σ := by
 refine pure_i _ hK (c171 _ _ _ ?_)
 unfold g171
 have hc := hT.cells
 unfold Tb.cells at hc
 (repeat (first|refine ptr_i ?_|refine z2 ?_|(refine al_i ?_;intro _ _ _ _ _)|refine z4 ?_|refine z5 ?_|(refine z6 ?_;intro _ _)|refine app_P ?_|refine app_I ?_|refine app_S ?_|refine app_B ?_|refine app_M ?_|refine app_L ?_|refine app_U ?_|refine app_R ?_|(refine app_of rfl ?_;try dsimp only)))
 refine rdN hT hn ?_
 have hN := (hT.get hn).cells
 unfold Nd.cells at hN
 (repeat (first|refine ptr_i ?_|refine z2 ?_|(refine al_i ?_;intro _ _ _ _ _)|refine z4 ?_|refine z5 ?_|(refine z6 ?_;intro _ _)|refine app_P ?_|refine app_I ?_|refine app_S ?_|refine app_B ?_|refine app_M ?_|refine app_L ?_|refine app_U ?_|refine app_R ?_|(refine app_of rfl ?_;try dsimp only)))
 refine call_i (s_room _ _ _ ?_)
 intro c1 c2 c3 σ' hg e1 e2 e3
 refine app_R ?_
 refine cval_i go_room1 ?_
 exact s_room1 (hT.gr hg) e1 e2 e3 (app_I ⟨rfl, hg⟩)
theorem s_WriteT {σ : H} {bt : Nat} {A : AT} {B : Nat -> Prop} (hA : TabAt σ bt A B) (ino : Int) (data : ByteArray) {K : KH}
 (hK : ∀ σ' B', TabAt σ' bt (AT.writeR A ino data).2 B' -> Sep σ B σ' B' -> K (.int .i64 (AT.writeR A ino data).1) σ') :
 callW Tryz.prog 100 [.pointer (some ⟨bt, 0, none⟩), .int .i64 ino, .string data] K σ := by
 obtain ⟨T, hT, hO, rfl, hB⟩ := hA
 have hc0 := hT.cells
 refine c100 _ _ _ ?_
 unfold g100
 refine al_i ?_; intro b4 σ1 g1 e1 n1
 refine al_i ?_; intro b5 σ2 g2 e2 n2
 refine al_i ?_; intro b6 σ3 g3 e3 n3
 (repeat (first|refine ptr_i ?_|refine z2 ?_|(refine al_i ?_;intro _ _ _ _ _)|refine z4 ?_|refine z5 ?_|(refine z6 ?_;intro _ _)|refine app_P ?_|refine app_I ?_|refine app_S ?_|refine app_B ?_|refine app_M ?_|refine app_L ?_|refine app_U ?_|refine app_R ?_|(refine app_of rfl ?_;try dsimp only)))
 refine call_i (s_file _ _ ?_)
 intro c7 c8 σ6' g6' f7 f8
 refine app_R ?_
 (repeat (first|refine ptr_i ?_|refine z2 ?_|(refine al_i ?_;intro _ _ _ _ _)|refine z4 ?_|refine z5 ?_|(refine z6 ?_;intro _ _)|refine app_P ?_|refine app_I ?_|refine app_S ?_|refine app_B ?_|refine app_M ?_|refine app_L ?_|refine app_U ?_|refine app_R ?_|(refine app_of rfl ?_;try dsimp only)))
 refine one_f ?_
 refine al_i ?_; intro b17 σ8 g8 e8 n8
 have hgr : Lng σ σ8 := ⟨by repeat (first | exact Gr.refl _ | assumption | refine Gr.trans ?_ ‹_› | refine Gr.putF ?_ ‹_› (none_of ?_ ‹_›))⟩
 have hT8 := hT.gr hgr.gr
 refine call_i (s_first (es := [0, T.fileE ino, T.roomE 0 (wr ((data.size : Int) - ((T.abs.get ino).map (·.data.size)).getD 0))]) e8 ?_ (by simp) (app_I ?_))
 ·refine ⟨pu_of go_there fun K hk => s_there _ hk, fun _ => ⟨pu_of go_file1 fun K hk => s_file1 hT8 (by exact gA) (by exact gA) hk, fun hz => ⟨pu_of go_WriteT1 fun K hk => ?_, fun _ => trivial⟩⟩⟩
  obtain ⟨nf, hnf, hkf⟩ := fileE_z hz
  refine s_WriteT1 hT8 (b1 := b4) (b2 := b6) (b3 := b5) (by exact gA) (by exact gA) (by exact gA) hnf ?_
  rw [abs_get, hnf] at hk
  exact hk
 have hE : firstE [0, T.fileE ino, T.roomE 0 (wr ((data.size : Int) - ((T.abs.get ino).map (·.data.size)).getD 0))] = T.abs.writeE ino data := by
  unfold AT.writeE; rw [abs_fileE, abs_roomE]
 rw [hE]
 unfold AT.writeR at hK
 by_cases h0 : T.abs.writeE ino data = 0
 case neg =>
  rw [if_neg h0] at hK
  refine br_t (by simpa using h0) ?_
  exact hK σ8 B ⟨T, hT8, hO, rfl, hB⟩ (Sep.gr hgr.gr)
 rw [if_pos h0] at hK
 refine br_f (by simpa using h0) ?_
 rw [<- hE] at h0
 obtain ⟨nf, hnf, hkf⟩ := fileE_z (firstE_z (firstE_z h0).2).1
 have hc := hT8.cells
 unfold Tb.cells at hc
 (repeat (first|refine ptr_i ?_|refine z2 ?_|(refine al_i ?_;intro _ _ _ _ _)|refine z4 ?_|refine z5 ?_|(refine z6 ?_;intro _ _)|refine app_P ?_|refine app_I ?_|refine app_S ?_|refine app_B ?_|refine app_M ?_|refine app_L ?_|refine app_U ?_|refine app_R ?_|(refine app_of rfl ?_;try dsimp only)))
 refine rdN hT8 hnf ?_
 have cF := (hT8.get hnf).cells
 unfold Nd.cells at cF
 have q0 : nf.blk ≠ bt := hT8.blk_bt hnf
 have q6 : b6 ≠ nf.blk := by
  intro e
  have h6 : σ8 b6 = some (.cells ⟨[.string data]⟩ 9 (0, 0)) := by exact gA
  rw [e, cF] at h6; simp at h6
 (repeat (first|refine ptr_i ?_|refine z2 ?_|(refine al_i ?_;intro _ _ _ _ _)|refine z4 ?_|refine z5 ?_|(refine z6 ?_;intro _ _)|refine app_P ?_|refine app_I ?_|refine app_S ?_|refine app_B ?_|refine app_M ?_|refine app_L ?_|refine app_U ?_|refine app_R ?_|(refine app_of rfl ?_;try dsimp only)))
 rename_i σ13 p13 σ14 p14
 have hT13 := hT8.putT (T' := { T with ub := wr (T.ub + wr ((data.size : Int) - nf.data.size)) }) p13 rfl rfl
 have hO13 : Own { T with ub := wr (T.ub + wr ((data.size : Int) - nf.data.size)) } := hO.same rfl rfl
 have hT14 := hT13.putN hO13 (n' := { nf with data := data }) (i := ino) hnf p14 rfl rfl rfl rfl
 have hO14 := hO13.set (n' := { nf with data := data }) (i := ino) hnf rfl rfl
 refine hK σ14 B ⟨_, hT14, hO14, ?_, fun b => (own_set (T := { T with ub := wr (T.ub + wr ((data.size : Int) - nf.data.size)) }) (i := ino) (n' := { nf with data := data }) hnf rfl rfl b).trans ((own_same rfl rfl b).trans (hB b))⟩ ?_
 ·rw [abs_set]
  unfold AT.written
  rw [abs_get, hnf]
  rfl
 ·intro b o hb hn
  have hn' : ¬ T.own bt b := fun h => hn ((hB b).1 h)
  exact ⟨p14.get ((hT.ne hn').2.2 ino nf hnf).1 (p13.get (hT.ne hn').1 (hgr.gr.get hb)), hn⟩
theorem s_ChmodT1 {σ : H} {b1 : Nat} {mode : Int} {t1 : TypeId} (h1 : σ b1 = some (.cells ⟨[.int .i64 mode]⟩ t1 (0, 0))) {K : KH}
 (hK : K (.int .i64 (if 0 <= mode /\ mode <= 511 then 0 else 2)) σ) : callW Tryz.prog 182 [.pointer (some ⟨b1, 0, none⟩)] K σ := by
 refine c182 _ ?_
 unfold g182
 (repeat (first|refine ptr_i ?_|refine z2 ?_|(refine al_i ?_;intro _ _ _ _ _)|refine z4 ?_|refine z5 ?_|(refine z6 ?_;intro _ _)|refine app_P ?_|refine app_I ?_|refine app_S ?_|refine app_B ?_|refine app_M ?_|refine app_L ?_|refine app_U ?_|refine app_R ?_|(refine app_of rfl ?_;try dsimp only)))
 by_cases ha : 0 <= mode
 ·refine br_t (by simpa using ha) ?_
  (repeat (first|refine ptr_i ?_|refine z2 ?_|(refine al_i ?_;intro _ _ _ _ _)|refine z4 ?_|refine z5 ?_|(refine z6 ?_;intro _ _)|refine app_P ?_|refine app_I ?_|refine app_S ?_|refine app_B ?_|refine app_M ?_|refine app_L ?_|refine app_U ?_|refine app_R ?_|(refine app_of rfl ?_;try dsimp only)))
  exact call_i (s_must _ _ (app_I (by simpa [ha] using hK)))
 ·refine br_f (by simpa using ha) ?_
  exact call_i (s_must _ _ (app_I (by simpa [ha] using hK)))
theorem s_ChmodT2 {σ : H} {bt : Nat} {T : Tb} (hT : TAt σ bt T) {b1 b2 : Nat} {ino : Int} {t1 t2 : TypeId} (h1 : σ b1 = some (.cells ⟨[.pointer (some ⟨bt, 0, none⟩)]⟩ t1 (0, 0))) (h2 : σ b2 = some (.cells ⟨[.int .i64 ino]⟩ t2 (0, 0))) {K : KH}
 (hK : K (.int .i64 (if (T.get ino).isSome then 0 else 5)) σ) : callW Tryz.prog 183 [.pointer (some ⟨b1, 0, none⟩), .pointer (some ⟨b2, 0, none⟩)] K σ := by
 refine c183 _ _ ?_
 unfold g183
 (repeat (first|refine ptr_i ?_|refine z2 ?_|(refine al_i ?_;intro _ _ _ _ _)|refine z4 ?_|refine z5 ?_|(refine z6 ?_;intro _ _)|refine app_P ?_|refine app_I ?_|refine app_S ?_|refine app_B ?_|refine app_M ?_|refine app_L ?_|refine app_U ?_|refine app_R ?_|(refine app_of rfl ?_;try dsimp only)))
 refine call_i (s_get hT ino (app_P ?_))
 refine call_i (s_must _ _ (app_I ?_))
 cases h : T.get ino <;> simpa [h] using hK
theorem s_ChmodT {σ : H} {bt : Nat} {A : AT} {B : Nat -> Prop} (hA : TabAt σ bt A B) (ino mode : Int) {K : KH}
 (hK : ∀ σ' B', TabAt σ' bt (AT.chmodR A ino mode).2 B' -> Sep σ B σ' B' -> K (.int .i64 (AT.chmodR A ino mode).1) σ') :
 callW Tryz.prog 116 [.pointer (some ⟨bt, 0, none⟩), .int .i64 ino, .int .i64 mode] K σ := by
 obtain ⟨T, hT, hO, rfl, hB⟩ := hA
 have hc0 := hT.cells
 refine c116 _ _ _ ?_
 unfold g116
 refine al_i ?_; intro b4 σ1 g1 e1 n1
 refine al_i ?_; intro b5 σ2 g2 e2 n2
 refine al_i ?_; intro b6 σ3 g3 e3 n3
 refine rd_P (rdC_of (by exact gA) (by rfl)) ?_
 refine al_i ?_; intro b17 σ8 g8 e8 n8
 have hgr : Lng σ σ8 := ⟨by repeat (first | exact Gr.refl _ | assumption | refine Gr.trans ?_ ‹_› | refine Gr.putF ?_ ‹_› (none_of ?_ ‹_›))⟩
 have hT8 := hT.gr hgr.gr
 refine call_i (s_first (es := [0, if 0 <= mode /\ mode <= 511 then 0 else 2, if (T.get ino).isSome then 0 else 5]) e8 ?_ (by simp) (app_I ?_))
 ·exact ⟨pu_of go_there fun K hk => s_there _ hk, fun _ => ⟨pu_of go_ChmodT1 fun K hk => s_ChmodT1 (by exact gA) hk, fun hz => ⟨pu_of go_ChmodT2 fun K hk => s_ChmodT2 hT8 (by exact gA) (by exact gA) hk, fun _ => trivial⟩⟩⟩
 have hE : firstE [0, if 0 <= mode /\ mode <= 511 then 0 else 2, if (T.get ino).isSome then 0 else 5] = T.abs.chmodE ino mode := by
  unfold AT.chmodE; rw [abs_get]; cases T.get ino <;> rfl
 rw [hE]
 unfold AT.chmodR at hK
 by_cases h0 : T.abs.chmodE ino mode = 0
 case neg =>
  rw [if_neg h0] at hK
  refine br_t (by simpa using h0) ?_
  exact hK σ8 B ⟨T, hT8, hO, rfl, hB⟩ (Sep.gr hgr.gr)
 rw [if_pos h0] at hK
 refine br_f (by simpa using h0) ?_
 rw [<- hE] at h0
 have hz := (firstE_z (firstE_z (firstE_z h0).2).2).1
 cases hnf : T.get ino with
 | none => rw [hnf] at hz; cases hz
 | some nf =>
 have hc := hT8.cells
 unfold Tb.cells at hc
 (repeat (first|refine ptr_i ?_|refine z2 ?_|(refine al_i ?_;intro _ _ _ _ _)|refine z4 ?_|refine z5 ?_|(refine z6 ?_;intro _ _)|refine app_P ?_|refine app_I ?_|refine app_S ?_|refine app_B ?_|refine app_M ?_|refine app_L ?_|refine app_U ?_|refine app_R ?_|(refine app_of rfl ?_;try dsimp only)))
 refine rdN hT8 hnf ?_
 have cF := (hT8.get hnf).cells
 unfold Nd.cells at cF
 (repeat (first|refine ptr_i ?_|refine z2 ?_|(refine al_i ?_;intro _ _ _ _ _)|refine z4 ?_|refine z5 ?_|(refine z6 ?_;intro _ _)|refine app_P ?_|refine app_I ?_|refine app_S ?_|refine app_B ?_|refine app_M ?_|refine app_L ?_|refine app_U ?_|refine app_R ?_|(refine app_of rfl ?_;try dsimp only)))
 rename_i σ14 p14
 have hT14 := hT8.putN hO (n' := { nf with mode := mode }) (i := ino) hnf p14 rfl rfl rfl rfl
 have hO14 := hO.set (n' := { nf with mode := mode }) (i := ino) hnf rfl rfl
 refine hK σ14 B ⟨_, hT14, hO14, ?_, fun b => (own_set (i := ino) (n' := { nf with mode := mode }) hnf rfl rfl b).trans (hB b)⟩ ?_
 ·rw [abs_set]
  unfold AT.chmoded AT.mod
  rw [abs_get, hnf]
  rfl
 ·intro b o hb hn
  have hn' : ¬ T.own bt b := fun h => hn ((hB b).1 h)
  exact ⟨p14.get ((hT.ne hn').2.2 ino nf hnf).1 (hgr.gr.get hb), hn⟩
end Go.Proofs.YtbjbeajbckcecaaGreatDoor

