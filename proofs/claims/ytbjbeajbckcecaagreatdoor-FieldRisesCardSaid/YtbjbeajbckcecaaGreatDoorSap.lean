/- A part of the proof: FieldRises holds. -/
import Derived.Test.YtbjbeajbckcecaaGreatDoorSao
import Derived.Test.YtbjbeajbckcecaaGreatDoorChecked
import Derived.IntWalk
import Derived.Laws.StandIn
set_option maxRecDepth 100000
namespace Go.Proofs.YtbjbeajbckcecaaGreatDoor
open Go Go.HL
def an230 : Ann := (.q (.q (.n (.q (.blk (.loop [(0,.sc (.int .u8)),(1,.p),(2,.p),(5,.b),(6,.i)] (.n (.q (.cond .z .z)) (.seq (some [(0,.sc (.int .u8)),(1,.p),(2,.p),(5,.b),(6,.i),(19,.w),(20,.w),(21,.w),(22,.w),(23,.w),(24,.w)]) (.blk (.seq (some [(0,.sc (.int .u8)),(1,.p),(2,.p),(5,.b),(6,.i),(19,.w),(20,.w),(21,.w),(22,.w),(23,.w),(24,.w),(25,.b)]) .r (.cond (.seq (some [(0,.sc (.int .u8)),(1,.p),(2,.p),(5,.b),(6,.i),(19,.w),(20,.w),(21,.w),(22,.w),(23,.w),(24,.w),(28,.w),(29,.w),(30,.w),(31,.w),(32,.w),(33,.w),(34,.w),(35,.w),(36,.w),(37,.w),(38,.w),(39,.w),(40,.w),(41,.w),(42,.w),(43,.w),(44,.w)]) .r .r) .r))) .r))))) (.q .z))))
def g230 (b_1 : Int) (x2 : Option Addr) (x3 : Option Addr) (K : KH) : H -> Prop :=
 loopW [.sc (.int .u8), .sc .ptr, .sc .ptr, .sc .bool, .sc (.int .i64)] (fun (R4 : Int -> Option Addr -> Option Addr -> Bool -> Int -> H -> Prop) => (fun (b_5 : Int) (x6 : Option Addr) (x7 : Option Addr) (some_8 : Bool) (i_9 : Int) => ptrW x6 (fun b10 o11 => rdT (rdC b10 o11) kL (fun x12 => brW (decide ((i_9 : Int) < ((x12.len : Nat) : Int)))
 (letJ (T := Int -> Option Addr -> Option Addr -> Bool -> Int -> Value -> Value -> Value -> Value -> Value -> Value -> H -> Prop) (fun b_14 x15 x16 some_17 i_18 _x19 _x20 _x21 _x22 _x23 _x24 => R4 b_14 x15 x16 some_17 (IntKind.i64.wrap (i_18 + 1))) (fun j13 => letJ (T := Int -> Option Addr -> Option Addr -> Bool -> Int -> Value -> Value -> Value -> Value -> Value -> Value -> Bool -> H -> Prop) (fun b_26 x27 x28 some_29 i_30 x31 x32 x33 x34 x35 x36 x37 => brW x37
 (letJ (T := Int -> Option Addr -> Option Addr -> Bool -> Int -> Value -> Value -> Value -> Value -> Value -> Value -> Value -> Value -> Value -> Value -> Value -> Value -> Value -> Value -> Value -> Value -> Value -> Value -> Value -> Value -> Value -> Value -> Value -> H -> Prop) (fun b_39 x40 x41 some_42 i_43 x44 x45 x46 x47 x48 x49 _x50 _x51 _x52 _x53 _x54 _x55 _x56 _x57 _x58 _x59 _x60 _x61 _x62 _x63 _x64 _x65 _x66 => j13 b_39 x40 x41 some_42 (IntKind.i64.wrap (i_43 + 2)) x44 x45 x46 x47 x48 x49) (fun j38 =>
 brW some_29 (j38 b_26 x27 x28 true i_30 x31 x32 x33 x34 x35 x36 (.tuple ⟨[]⟩) (.tuple ⟨[]⟩) (.tuple ⟨[]⟩) (.tuple ⟨[]⟩) (.tuple ⟨[]⟩) (.tuple ⟨[]⟩) (.tuple ⟨[]⟩) (.tuple ⟨[]⟩) (.tuple ⟨[]⟩) (.tuple ⟨[]⟩) (.tuple ⟨[]⟩) (.tuple ⟨[]⟩) (.tuple ⟨[]⟩) (.tuple ⟨[]⟩) (.tuple ⟨[]⟩) (.tuple ⟨[]⟩) (.tuple ⟨[]⟩)) (ptrW x27 (fun b67 o68 => rdT (rdC b67 o68) kL (fun x69 => ptrW x69.base (fun b70 o71 => ifW (0 <= i_30 /\ i_30 < ((x69.len : Nat) : Int))
 (rdT (rdC b70 (o71 + i_30.toNat * 2)) kC (fun (x72 : Int) => brW (decide ((b_26 : Int) >= x72)) (ptrW x27 (fun b73 o74 => rdT (rdC b73 o74) kL (fun x75 => ptrW x75.base (fun b76 o77 => ifW (0 <= IntKind.i64.wrap (i_30 + 2) /\ IntKind.i64.wrap (i_30 + 2) < ((x75.len : Nat) : Int)) (rdT (rdC b76 (o77 + (IntKind.i64.wrap (i_30 + 2) : Int).toNat * 2)) kC (fun (x78 : Int) =>
 j38 b_26 x27 x28 (decide ((b_26 : Int) <= x78)) i_30 x31 x32 x33 x34 x35 x36 (.int .u8 b_26) (.slice x69.base x69.len x69.cap) (.int .i64 i_30) (.pointer (some ⟨b70, o71 + i_30.toNat * 2, none⟩)) (.pointer (some ⟨b70, o71 + i_30.toNat * 2, none⟩)) (.int .u8 x72) (.bool (decide ((b_26 : Int) >= x72))) (.bool true) (.int .u8 b_26) (.slice x75.base x75.len x75.cap) (.int .i64 i_30) (.int .i64 (IntKind.i64.wrap (i_30 + 2))) (.pointer (some ⟨b76, o77 + (IntKind.i64.wrap (i_30 + 2) : Int).toNat * 2, none⟩)) (.pointer (some ⟨b76, o77 + (IntKind.i64.wrap (i_30 + 2) : Int).toNat * 2, none⟩)) (.int .u8 x78) (.bool (decide ((b_26 : Int) <= x78))) (.bool (decide ((b_26 : Int) <= x78)))))))))
 (j38 b_26 x27 x28 false i_30 x31 x32 x33 x34 x35 x36 (.int .u8 b_26) (.slice x69.base x69.len x69.cap) (.int .i64 i_30) (.pointer (some ⟨b70, o71 + i_30.toNat * 2, none⟩)) (.pointer (some ⟨b70, o71 + i_30.toNat * 2, none⟩)) (.int .u8 x72) (.bool (decide ((b_26 : Int) >= x72))) (.bool false) (.tuple ⟨[]⟩) (.tuple ⟨[]⟩) (.tuple ⟨[]⟩) (.tuple ⟨[]⟩) (.tuple ⟨[]⟩) (.tuple ⟨[]⟩) (.tuple ⟨[]⟩) (.tuple ⟨[]⟩) (.bool false)))))))))) (brW some_29 (j13 b_26 x27 x28 true i_30 x31 x32 x33 x34 x35 x36)
 (ptrW x27 (fun b79 o80 => rdT (rdC b79 o80) kL (fun x81 => ptrW x81.base (fun b82 o83 => ifW (0 <= i_30 /\ i_30 < ((x81.len : Nat) : Int)) (rdT (rdC b82 (o83 + i_30.toNat * 2)) kC (fun (x84 : Int) => j13 b_26 x27 x28 ((b_26 : Int) == x84) i_30 x31 x32 x33 x34 x35 x36)))))))) (fun j25 => ptrW x6 (fun b85 o86 => rdT (rdC b85 o86) kL (fun x87 => brW (decide (((IntKind.i64.wrap (i_9 + 2)) : Int) < ((x87.len : Nat) : Int))) (ptrW x6 (fun b88 o89 => rdT (rdC b88 o89) kL (fun x90 =>
 ptrW x90.base (fun b91 o92 => ifW (0 <= IntKind.i64.wrap (i_9 + 1) /\ IntKind.i64.wrap (i_9 + 1) < ((x90.len : Nat) : Int)) (rdT (rdA 2 b91 (o92 + (IntKind.i64.wrap (i_9 + 1) : Int).toNat * 2)) (.one (.agg [(.int .u8), .bool])) (fun (x93 : Int) (x94 : Bool) => callT Tryz.prog 189 [.agg ⟨[.int .u8 x93, .bool x94]⟩, .string (⟨⟨[45]⟩⟩ : ByteArray)] kB (fun x95 =>
 j25 b_5 x6 x7 some_8 i_9 (.slice x90.base x90.len x90.cap) (.int .i64 i_9) (.int .i64 (IntKind.i64.wrap (i_9 + 1))) (.pointer (some ⟨b91, o92 + (IntKind.i64.wrap (i_9 + 1) : Int).toNat * 2, none⟩)) (.agg ⟨[.int .u8 x93, .bool x94]⟩) (.bool x95) x95))))))) (j25 b_5 x6 x7 some_8 i_9 (.tuple ⟨[]⟩) (.tuple ⟨[]⟩) (.tuple ⟨[]⟩) (.tuple ⟨[]⟩) (.tuple ⟨[]⟩) (.tuple ⟨[]⟩) false)))))) (ptrW x7 (fun b96 o97 => rdT (rdC b96 o97) kB (fun x98 =>
 K (.bool (!(some_8 == x98)))))))))) (fun (R99 : Int -> Option Addr -> Option Addr -> Bool -> Int -> H -> Prop) => R99 b_1 x2 x3 false 0)
theorem e230 (b_1 : Int) (x2 : Option Addr) (x3 : Option Addr) (K : KH) : bodyF Tryz.prog tau Tryz.f230 an230 [.int .u8 b_1, .pointer x2, .pointer x3] K = g230 b_1 x2 x3 K := by kernel_rfl
theorem c230 (b_1 : Int) (x2 : Option Addr) (x3 : Option Addr) {K : KH} {σ : H} (h : g230 b_1 x2 x3 K σ) : callW Tryz.prog 230 [.int .u8 b_1, .pointer x2, .pointer x3] K σ := call_of_body mixed Tryz.func230 (by rw [e230]; exact h)


def an242 : Ann := (.q (.n (.q (.blk (.loop [(0,.l),(1,.w),(7,.i),(8,.i)] (.q (.n (.cond .z .z) (.n (.blk (.q (.q (.h)))) .r)))))) (.q .z)))
def g242 (s_1 : Sl) (f_2 : Value) (K : KH) : H -> Prop :=
 loopW [.sc .slc, .sc .raw, .sc (.int .i64), .sc (.int .i64)] (fun (R3 : Sl -> Value -> Int -> Int -> H -> Prop) => (fun (s_4 : Sl) (f_5 : Value) (x6 : Int) (x7 : Int) => brW (decide ((x7 : Int) < x6)) (ptrW s_4.base (fun b8 o9 => ifW (0 <= x7 /\ x7 < ((s_4.len : Nat) : Int)) (rdT (rdC b8 (o9 + x7.toNat * 1)) kS (fun (x10 : ByteArray) => cvalT Tryz.prog f_5 [.string x10] kB (fun x11 => brW x11 (K (.int .i64 x7)) (R3 s_4 f_5 x6 (IntKind.i64.wrap (x7 + 1))))))))
 (K (.int .i64 (-1))))) (fun (R12 : Sl -> Value -> Int -> Int -> H -> Prop) => R12 s_1 f_2 ((s_1.len : Nat) : Int) 0)
theorem e242 (s_1 : Sl) (f_2 : Value) (K : KH) : bodyF Tryz.prog tau Tryz.f242 an242 [.slice s_1.base s_1.len s_1.cap, f_2] K = g242 s_1 f_2 K := by kernel_rfl
theorem c242 (s_1 : Sl) (f_2 : Value) {K : KH} {σ : H} (h : g242 s_1 f_2 K σ) : callW Tryz.prog 242 [.slice s_1.base s_1.len s_1.cap, f_2] K σ := call_of_body mixed Tryz.func242 (by rw [e242]; exact h)


def an247 : Ann := (.q (.n (.q (.h)) (.n (.q (.cond (.q (.seq (some [(0,.s),(5,.sc (.int .i32))]) (.q (.cond .r .z)) (.q .z))) .z)) (.seq (some [(0,.s),(1,.s)]) (.q (.cond (.q (.q (.cond (.n (.q (.blk (.loop [(0,.s),(6,.p),(8,.i)] (.n (.q (.cond .z .z)) (.n (.blk (.q (.h))) .r))))) (.q .z)) .z))) .z)) (.n (.q (.blk (.loop [(1,.s),(45,.p)] (.q (.n (.cond .z .z) (.blk (.q (.q (.h))))))))) (.q .z))))))
def g247 (s_1 : ByteArray) (chars_2 : ByteArray) (K : KH) : H -> Prop :=
 brW (strEq chars_2 (⟨⟨[]⟩⟩ : ByteArray)) (K (.int .i64 (-1))) (brW ((((chars_2.size : Nat) : Int) : Int) == 1) (idxW chars_2 0 (fun c3 => letJ (T := ByteArray -> Int -> H -> Prop) (fun s_5 r_6 => callT Tryz.prog 259 [.string s_5, .int .i32 r_6] kI (fun (x7 : Int) => K (.int .i64 x7))) (fun j4 => brW (decide (((IntKind.i32.wrap (c3.toNat : Int)) : Int) >= 128)) (j4 s_1 65533) (j4 s_1 (IntKind.i32.wrap (c3.toNat : Int)))))) (letJ (T := ByteArray -> ByteArray -> H -> Prop) (fun s_9 chars_10 =>
 vaW Tryz.prog (Instr.range 9 (.string s_9)) kP (fun x11 => loopW [.sc .str, .sc .ptr] (fun (R12 : ByteArray -> Option Addr -> H -> Prop) => (fun (chars_13 : ByteArray) (x14 : Option Addr) => vaW Tryz.prog (Instr.next (.pointer x14) true 0) (.opt [.sc (.int .i64), .sc (.int .i32)]) (K (.int .i64 (-1)), (fun (x15 : Int) (x16 : Int) => callT Tryz.prog 259 [.string chars_13, .int .i32 x16] kI (fun (x17 : Int) => brW (decide ((x17 : Int) >= 0)) (K (.int .i64 x15))
 (R12 chars_13 x14)))))) (fun (R18 : ByteArray -> Option Addr -> H -> Prop) => R18 chars_10 x11))) (fun j8 => callT Tryz.prog 260 [.int .i64 ((s_1.size : Nat) : Int)] kB (fun x19 => brW x19 (callT Tryz.prog 261 [.string chars_2] (.tup [.sc .raw, .sc .bool]) (fun x20 x21 =>
 alW (.cells ⟨[.bool false, .bool false, .bool false, .bool false, .bool false, .bool false, .bool false, .bool false, .bool false, .bool false, .bool false, .bool false, .bool false, .bool false, .bool false, .bool false, .bool false, .bool false, .bool false, .bool false, .bool false, .bool false, .bool false, .bool false, .bool false, .bool false, .bool false, .bool false, .bool false, .bool false, .bool false, .bool false, .bool false, .bool false, .bool false, .bool false, .bool false, .bool false, .bool false, .bool false, .bool false, .bool false, .bool false, .bool false, .bool false, .bool false, .bool false, .bool false, .bool false, .bool false, .bool false, .bool false, .bool false, .bool false, .bool false, .bool false, .bool false, .bool false, .bool false, .bool false, .bool false, .bool false, .bool false, .bool false, .bool false, .bool false, .bool false, .bool false, .bool false, .bool false, .bool false, .bool false, .bool false, .bool false, .bool false, .bool false, .bool false, .bool false, .bool false, .bool false, .bool false, .bool false, .bool false, .bool false, .bool false, .bool false, .bool false, .bool false, .bool false, .bool false, .bool false, .bool false, .bool false, .bool false, .bool false, .bool false, .bool false, .bool false, .bool false, .bool false, .bool false, .bool false, .bool false, .bool false, .bool false, .bool false, .bool false, .bool false, .bool false, .bool false, .bool false, .bool false, .bool false, .bool false, .bool false, .bool false, .bool false, .bool false, .bool false, .bool false, .bool false, .bool false, .bool false, .bool false, .bool false, .bool false, .bool false, .bool false, .bool false, .bool false, .bool false, .bool false, .bool false, .bool false, .bool false, .bool false, .bool false, .bool false, .bool false, .bool false, .bool false, .bool false, .bool false, .bool false, .bool false, .bool false, .bool false, .bool false, .bool false, .bool false, .bool false, .bool false, .bool false, .bool false, .bool false, .bool false, .bool false, .bool false, .bool false, .bool false, .bool false, .bool false, .bool false, .bool false, .bool false, .bool false, .bool false, .bool false, .bool false, .bool false, .bool false, .bool false, .bool false, .bool false, .bool false, .bool false, .bool false, .bool false, .bool false, .bool false, .bool false, .bool false, .bool false, .bool false, .bool false, .bool false, .bool false, .bool false, .bool false, .bool false, .bool false, .bool false, .bool false, .bool false, .bool false, .bool false, .bool false, .bool false, .bool false, .bool false, .bool false, .bool false, .bool false, .bool false, .bool false, .bool false, .bool false, .bool false, .bool false, .bool false, .bool false, .bool false, .bool false, .bool false, .bool false, .bool false, .bool false, .bool false, .bool false, .bool false, .bool false, .bool false, .bool false, .bool false, .bool false, .bool false, .bool false, .bool false, .bool false, .bool false, .bool false, .bool false, .bool false, .bool false, .bool false, .bool false, .bool false, .bool false, .bool false, .bool false, .bool false, .bool false, .bool false, .bool false, .bool false, .bool false, .bool false, .bool false, .bool false, .bool false, .bool false, .bool false, .bool false, .bool false, .bool false, .bool false]⟩ 285 (0, 0)) (fun b22 =>
 stW Tryz.prog 285 (.pointer (some ⟨b22, 0, none⟩)) (x20) (brW x21 (loopW [.sc .str, .sc .ptr, .sc (.int .i64)] (fun (R23 : ByteArray -> Option Addr -> Int -> H -> Prop) => (fun (s_24 : ByteArray) (as_25 : Option Addr) (i_26 : Int) => brW (decide ((i_26 : Int) < ((s_24.size : Nat) : Int))) (idxW s_24 i_26 (fun c27 => callT Tryz.prog 262 [.pointer as_25, .int .u8 (c27.toNat : Int)] kB (fun x28 => brW x28 (K (.int .i64 i_26)) (R23 s_24 as_25 (IntKind.i64.wrap (i_26 + 1))))))
 (K (.int .i64 (-1))))) (fun (R29 : ByteArray -> Option Addr -> Int -> H -> Prop) => R29 s_1 (some ⟨b22, 0, none⟩) 0)) (j8 s_1 chars_2))))) (j8 s_1 chars_2)))))
theorem e247 (s_1 : ByteArray) (chars_2 : ByteArray) (K : KH) : bodyF Tryz.prog tau Tryz.f247 an247 [.string s_1, .string chars_2] K = g247 s_1 chars_2 K := by kernel_rfl
theorem c247 (s_1 : ByteArray) (chars_2 : ByteArray) {K : KH} {σ : H} (h : g247 s_1 chars_2 K σ) : callW Tryz.prog 247 [.string s_1, .string chars_2] K σ := call_of_body mixed Tryz.func247 (by rw [e247]; exact h)


def an248 : Ann := (.q (.q (.seq (some [(2,.p),(3,.p),(4,.p)]) (.q (.blk (.rf [.s] .r (.blk (.n (.seq (some [(2,.p),(3,.p),(4,.p),(5,.s),(14,.b)]) .r (.cond .z .z)) (.n (.seq (some [(3,.p),(4,.p),(5,.s),(21,.b)]) .r (.cond .z .z)) .r)))))) (.q (.cond .r .z)))))
def g248 (yield_1 : Value) (x2 : Option Addr) (K : KH) : H -> Prop :=
 oneK yield_1 (alW (.cells ⟨[yield_1]⟩ 273 (0, 0)) (fun b3 => alW (.cells ⟨[.string (⟨⟨[]⟩⟩ : ByteArray)]⟩ 9 (0, 0)) (fun b4 => alW (.cells ⟨[.bool false]⟩ 4 (0, 0)) (fun b5 => stW Tryz.prog 9 (.pointer (some ⟨b4, 0, none⟩)) (.string (⟨⟨[]⟩⟩ : ByteArray)) (stW Tryz.prog 4 (.pointer (some ⟨b5, 0, none⟩)) (.bool false) (letJ (T := Option Addr -> Option Addr -> Option Addr -> H -> Prop) (fun yield_7 ahead_8 some_9 => ptrW some_9 (fun b10 o11 => rdT (rdC b10 o11) kB (fun x12 => brW x12
 (ptrW yield_7 (fun b13 o14 => rdT (rdC b13 o14) kR (fun x15 => ptrW ahead_8 (fun b16 o17 => rdT (rdC b16 o17) kS (fun (x18 : ByteArray) => cvalT Tryz.prog x15 [.string x18, .bool true] kB (fun _x19 => K (.tuple ⟨[]⟩))))))) (K (.tuple ⟨[]⟩))))) (fun j6 => ptrW x2 (fun b20 o21 => rdT (rdC b20 o21) kS (fun (x22 : ByteArray) => callT Tryz.prog 249 [.string x22, .string (⟨⟨[47]⟩⟩ : ByteArray)] kR (fun x23 => funW x23 (fun (g50 : FuncId) (as51 cs52 : List Value) =>
 rfW Tryz.prog none g50 as51 cs52 [.sc .str] (fun (l24 : Nat) (obj25 : LoopState -> Option Code -> Obj) (K26 : Value -> H -> Prop) => (fun (x27 : ByteArray) => begW l24 obj25 (letJ (T := Option Addr -> Option Addr -> Option Addr -> ByteArray -> Bool -> H -> Prop) (fun yield_29 ahead_30 some_31 s_32 x33 => brW x33 (roundK l24 obj25 K26 none true .ready) (letJ (T := Option Addr -> Option Addr -> ByteArray -> Bool -> H -> Prop) (fun ahead_35 some_36 s_37 x38 => brW x38
 (roundK l24 obj25 K26 (some .ret) false .done) (stW Tryz.prog 9 (.pointer ahead_35) (.string s_37) (stW Tryz.prog 4 (.pointer some_36) (.bool true) (roundK l24 obj25 K26 none true .ready)))) (fun j34 => ptrW some_31 (fun b39 o40 => rdT (rdC b39 o40) kB (fun x41 => brW x41 (ptrW yield_29 (fun b42 o43 => rdT (rdC b42 o43) kR (fun x44 => ptrW ahead_30 (fun b45 o46 => rdT (rdC b45 o46) kS (fun (x47 : ByteArray) => cvalT Tryz.prog x44 [.string x47, .bool false] kB (fun x48 =>
 j34 ahead_30 some_31 s_32 (!x48))))))) (j34 ahead_30 some_31 s_32 false)))))) (fun j28 => brW (strEq x27 (⟨⟨[]⟩⟩ : ByteArray)) (j28 (some ⟨b3, 0, none⟩) (some ⟨b4, 0, none⟩) (some ⟨b5, 0, none⟩) x27 true) (j28 (some ⟨b3, 0, none⟩) (some ⟨b4, 0, none⟩) (some ⟨b5, 0, none⟩) x27 (strEq x27 (⟨⟨[46]⟩⟩ : ByteArray))))))) (j6 (some ⟨b3, 0, none⟩) (some ⟨b4, 0, none⟩) (some ⟨b5, 0, none⟩)) (fun i49 => exW i49 0 (j6 (some ⟨b3, 0, none⟩) (some ⟨b4, 0, none⟩) (some ⟨b5, 0, none⟩)) (nW))
 (K (.tuple ⟨[]⟩)))))))))))))
theorem e248 (yield_1 : Value) (x2 : Option Addr) (K : KH) : bodyF Tryz.prog tau Tryz.f248 an248 [yield_1, .pointer x2] K = g248 yield_1 x2 K := by kernel_rfl
theorem c248 (yield_1 : Value) (x2 : Option Addr) {K : KH} {σ : H} (h : g248 yield_1 x2 K σ) : callW Tryz.prog 248 [yield_1, .pointer x2] K σ := call_of_body mixed Tryz.func248 (by rw [e248]; exact h)


def an249 : Ann := (.q (.q .z))
def g249 (s_1 : ByteArray) (sep_2 : ByteArray) (K : KH) : H -> Prop :=
 callT Tryz.prog 263 [.string s_1, .string sep_2, .int .i64 0] kR (fun x3 => K (x3))
theorem e249 (s_1 : ByteArray) (sep_2 : ByteArray) (K : KH) : bodyF Tryz.prog tau Tryz.f249 an249 [.string s_1, .string sep_2] K = g249 s_1 sep_2 K := by kernel_rfl
theorem c249 (s_1 : ByteArray) (sep_2 : ByteArray) {K : KH} {σ : H} (h : g249 s_1 sep_2 K σ) : callW Tryz.prog 249 [.string s_1, .string sep_2] K σ := call_of_body mixed Tryz.func249 (by rw [e249]; exact h)


def an250 : Ann := (.q (.q (.n (.q (.blk (.loop [(2,.s),(7,.l),(8,.i)] (.n (.q (.cond .z .z)) (.n (.blk (.q (.h))) .r))))) (.q .z))))
def g250 (f_1 : Option Addr) (dir_2 : Int) (name_3 : ByteArray) (K : KH) : H -> Prop :=
 ptrW f_1 (fun b4 o5 => rdT (rdC b4 (o5 + 2)) kL (fun x6 => ptrW x6.base (fun b7 o8 => ifW (0 <= dir_2 /\ dir_2 < ((x6.len : Nat) : Int)) (rdT (rdC b7 (o8 + dir_2.toNat * 1)) kP (fun x9 => ptrW x9 (fun b10 o11 => rdT (rdC b10 (o11 + 3)) kL (fun x12 => loopW [.sc .str, .sc .slc, .sc (.int .i64)] (fun (R13 : ByteArray -> Sl -> Int -> H -> Prop) => (fun (name_14 : ByteArray) (l_15 : Sl) (i_16 : Int) => brW (decide ((i_16 : Int) < ((l_15.len : Nat) : Int))) (ptrW l_15.base (fun b17 o18 =>
 ifW (0 <= i_16 /\ i_16 < ((l_15.len : Nat) : Int)) (rdT (rdC b17 (o18 + i_16.toNat * 2)) kS (fun (x19 : ByteArray) => brW (strEq x19 name_14) (ptrW l_15.base (fun b20 o21 => ifW (0 <= i_16 /\ i_16 < ((l_15.len : Nat) : Int)) (rdT (rdC b20 (o21 + i_16.toNat * 2 + 1)) kI (fun (x22 : Int) => K (.int .i64 x22))))) (R13 name_14 l_15 (IntKind.i64.wrap (i_16 + 1))))))) (K (.int .i64 (-1))))) (fun (R23 : ByteArray -> Sl -> Int -> H -> Prop) => R23 name_3 x12 0))))))))
theorem e250 (f_1 : Option Addr) (dir_2 : Int) (name_3 : ByteArray) (K : KH) : bodyF Tryz.prog tau Tryz.f250 an250 [.pointer f_1, .int .i64 dir_2, .string name_3] K = g250 f_1 dir_2 name_3 K := by kernel_rfl
theorem c250 (f_1 : Option Addr) (dir_2 : Int) (name_3 : ByteArray) {K : KH} {σ : H} (h : g250 f_1 dir_2 name_3 K σ) : callW Tryz.prog 250 [.pointer f_1, .int .i64 dir_2, .string name_3] K σ := call_of_body mixed Tryz.func250 (by rw [e250]; exact h)


def an259 : Ann := (.q (.blk (.seq (some [(0,.s),(1,.sc (.int .i32)),(160,.b)]) .r (.cond (.q .z) (.q (.cond (.n (.q (.blk (.loop [(175,.p)] (.q (.n (.cond .z .z) (.blk (.q (.q (.h))))))))) (.q .z)) (.q (.cond (.q .z) (.blk (.q (.q (.q (.q (.n (.blk (.loop [(0,.s),(7,.s),(8,.i),(9,.i)] (.n (.q (.cond .z .z)) (.blk (.blk (.seq (some [(0,.s),(7,.s),(8,.i),(9,.i)]) (.n (.reg (rn 7) [[],[],[0,1],[],[],[3,4],(rn 6)]) (.cond (.n (.reg (rn 9) [[],[],[1],[0,1,2],[],[],[4,5],(rn 7),(rn 8)]) (.n (.q (.h)) .r)) .z)) (.n (.q (.blk (.loop [(0,.s),(7,.s),(8,.i),(9,.i),(12,.i)] (.n (.q (.cond .z .z)) (.n (.blk (.n (.reg (rn 11) [[],[],[],[1,2],(rn 4),[],[],[],[6,7],[5,6,7,8],(rn 10)]) (.cond .z .z))) .r))))) (.n (.q .z) (.n .z (.q (.q (.q (.cond .z .z))))))))))))) (.n (.q .z) (.n .z (.n (.cond (.q (.q (.h))) (.blk (.q (.q (.n .z (.blk (.loop [] (.n (.q (.cond .z .z)) (.n (.blk (.q (.cond (.n (.q (.blk (.loop [] (.n (.q (.cond .z .z)) (.n (.blk (.q (.cond .z .z))) .r))))) (.q .z)) .z))) .r))))))))) (.q .z))))))))))))))))))
def g259 (s_1 : ByteArray) (r_2 : Int) (K : KH) : H -> Prop :=
 letJ (T := ByteArray -> Int -> Bool -> H -> Prop) (fun s_4 r_5 x6 => brW x6 (callT Tryz.prog 26 [.string s_4, .int .u8 (IntKind.u8.wrap r_5)] kI (fun (x7 : Int) => K (.int .i64 x7))) (brW ((r_5 : Int) == 65533) (vaW Tryz.prog (Instr.range 9 (.string s_4)) kP (fun x8 => loopW [.sc .ptr] (fun (R9 : Option Addr -> H -> Prop) => (fun x10 => vaW Tryz.prog (Instr.next (.pointer x10) true 0) (.opt [.sc (.int .i64), .sc (.int .i32)]) (K (.int .i64 (-1)), (fun (x11 : Int) (x12 : Int) =>
 brW ((x12 : Int) == 65533) (K (.int .i64 x11)) (R9 x10))))) (fun (R13 : Option Addr -> H -> Prop) => R13 x8))) (callT Tryz.prog 265 [.int .i32 r_5] kB (fun x14 => brW (!x14) (K (.int .i64 (-1))) (vaW Tryz.prog (convert 21 9 (.int .i32 r_5)) kS (fun (x15 : ByteArray) => loopW [.sc .str, .sc .str, .sc (.int .i64), .sc (.int .i64)] (fun (R16 : ByteArray -> ByteArray -> Int -> Int -> H -> Prop) => (fun (s_17 : ByteArray) (rs_18 : ByteArray) (last_19 : Int) (i_20 : Int) =>
 brW (decide ((i_20 : Int) < ((s_17.size : Nat) : Int))) (letJ (T := ByteArray -> ByteArray -> Int -> Int -> H -> Prop) (fun s_22 rs_23 last_24 i_25 => loopW [.sc .str, .sc .str, .sc (.int .i64), .sc (.int .i64), .sc (.int .i64)] (fun (R26 : ByteArray -> ByteArray -> Int -> Int -> Int -> H -> Prop) => (fun (s_27 : ByteArray) (rs_28 : ByteArray) (last_29 : Int) (i_30 : Int) (j_31 : Int) => brW (decide ((j_31 : Int) < ((rs_28.size : Nat) : Int))) (idxW s_27 (IntKind.i64.wrap (i_30 - j_31)) (fun c32 =>
 idxW rs_28 (IntKind.i64.wrap (last_29 - j_31)) (fun c33 => brW (((c32.toNat : Int) : Int) != (c33.toNat : Int)) (nW) (R26 s_27 rs_28 last_29 i_30 (IntKind.i64.wrap (j_31 + 1)))))) (K (.int .i64 (IntKind.i64.wrap (i_30 - last_29)))))) (fun (R34 : ByteArray -> ByteArray -> Int -> Int -> Int -> H -> Prop) => R34 s_22 rs_23 last_24 i_25 1)) (fun j21 => idxW s_17 i_20 (fun c35 => idxW rs_18 last_19 (fun c36 => brW (((c35.toNat : Int) : Int) != (c36.toNat : Int))
 (ifW (bndOk none s_17.size /\ bndOk (some (IntKind.i64.wrap (i_20 + 1))) (s_17.size)) (idxW rs_18 last_19 (fun c37 => callT Tryz.prog 26 [.string (s_17.extract ((IntKind.i64.wrap (i_20 + 1)).toNat) s_17.size), .int .u8 (c37.toNat : Int)] kI (fun (x38 : Int) => brW (decide ((x38 : Int) < 0)) (K (.int .i64 (-1))) (j21 s_17 rs_18 last_19 (IntKind.i64.wrap (i_20 + (IntKind.i64.wrap (x38 + 1))))))))) (j21 s_17 rs_18 last_19 i_20)))))
 (K (.int .i64 (-1))))) (fun (R39 : ByteArray -> ByteArray -> Int -> Int -> H -> Prop) => R39 s_4 x15 (IntKind.i64.wrap (((x15.size : Nat) : Int) - 1)) (IntKind.i64.wrap (((x15.size : Nat) : Int) - 1))))))))) (fun j3 => brW (decide ((0 : Int) <= r_2)) (j3 s_1 r_2 (decide ((r_2 : Int) < 128))) (j3 s_1 r_2 false))
theorem e259 (s_1 : ByteArray) (r_2 : Int) (K : KH) : bodyF Tryz.prog tau Tryz.f259 an259 [.string s_1, .int .i32 r_2] K = g259 s_1 r_2 K := by kernel_rfl
theorem c259 (s_1 : ByteArray) (r_2 : Int) {K : KH} {σ : H} (h : g259 s_1 r_2 K σ) : callW Tryz.prog 259 [.string s_1, .int .i32 r_2] K σ := call_of_body mixed Tryz.func259 (by rw [e259]; exact h)


def an260 : Ann := (.q (.q .z))
def g260 (bufLen_1 : Int) (K : KH) : H -> Prop :=
 K (.bool (decide ((bufLen_1 : Int) > 8)))
theorem e260 (bufLen_1 : Int) (K : KH) : bodyF Tryz.prog tau Tryz.f260 an260 [.int .i64 bufLen_1] K = g260 bufLen_1 K := by kernel_rfl
theorem c260 (bufLen_1 : Int) {K : KH} {σ : H} (h : g260 bufLen_1 K σ) : callW Tryz.prog 260 [.int .i64 bufLen_1] K σ := call_of_body mixed Tryz.func260 (by rw [e260]; exact h)


def an261 : Ann := (.q (.n (.q (.blk (.loop [(0,.s),(2,.p),(4,.i)] (.n (.q (.cond .z .z)) (.n (.blk (.q (.n (.q (.h)) .r))) .r))))) (.q .z)))
def g261 (chars_1 : ByteArray) (K : KH) : H -> Prop :=
 alW (.cells ⟨[.bool false, .bool false, .bool false, .bool false, .bool false, .bool false, .bool false, .bool false, .bool false, .bool false, .bool false, .bool false, .bool false, .bool false, .bool false, .bool false, .bool false, .bool false, .bool false, .bool false, .bool false, .bool false, .bool false, .bool false, .bool false, .bool false, .bool false, .bool false, .bool false, .bool false, .bool false, .bool false, .bool false, .bool false, .bool false, .bool false, .bool false, .bool false, .bool false, .bool false, .bool false, .bool false, .bool false, .bool false, .bool false, .bool false, .bool false, .bool false, .bool false, .bool false, .bool false, .bool false, .bool false, .bool false, .bool false, .bool false, .bool false, .bool false, .bool false, .bool false, .bool false, .bool false, .bool false, .bool false, .bool false, .bool false, .bool false, .bool false, .bool false, .bool false, .bool false, .bool false, .bool false, .bool false, .bool false, .bool false, .bool false, .bool false, .bool false, .bool false, .bool false, .bool false, .bool false, .bool false, .bool false, .bool false, .bool false, .bool false, .bool false, .bool false, .bool false, .bool false, .bool false, .bool false, .bool false, .bool false, .bool false, .bool false, .bool false, .bool false, .bool false, .bool false, .bool false, .bool false, .bool false, .bool false, .bool false, .bool false, .bool false, .bool false, .bool false, .bool false, .bool false, .bool false, .bool false, .bool false, .bool false, .bool false, .bool false, .bool false, .bool false, .bool false, .bool false, .bool false, .bool false, .bool false, .bool false, .bool false, .bool false, .bool false, .bool false, .bool false, .bool false, .bool false, .bool false, .bool false, .bool false, .bool false, .bool false, .bool false, .bool false, .bool false, .bool false, .bool false, .bool false, .bool false, .bool false, .bool false, .bool false, .bool false, .bool false, .bool false, .bool false, .bool false, .bool false, .bool false, .bool false, .bool false, .bool false, .bool false, .bool false, .bool false, .bool false, .bool false, .bool false, .bool false, .bool false, .bool false, .bool false, .bool false, .bool false, .bool false, .bool false, .bool false, .bool false, .bool false, .bool false, .bool false, .bool false, .bool false, .bool false, .bool false, .bool false, .bool false, .bool false, .bool false, .bool false, .bool false, .bool false, .bool false, .bool false, .bool false, .bool false, .bool false, .bool false, .bool false, .bool false, .bool false, .bool false, .bool false, .bool false, .bool false, .bool false, .bool false, .bool false, .bool false, .bool false, .bool false, .bool false, .bool false, .bool false, .bool false, .bool false, .bool false, .bool false, .bool false, .bool false, .bool false, .bool false, .bool false, .bool false, .bool false, .bool false, .bool false, .bool false, .bool false, .bool false, .bool false, .bool false, .bool false, .bool false, .bool false, .bool false, .bool false, .bool false, .bool false, .bool false, .bool false, .bool false, .bool false, .bool false, .bool false, .bool false, .bool false, .bool false, .bool false, .bool false, .bool false, .bool false, .bool false, .bool false, .bool false, .bool false, .bool false, .bool false, .bool false]⟩ 285 (0, 0)) (fun b2 =>
 loopW [.sc .str, .sc .ptr, .sc (.int .i64)] (fun (R3 : ByteArray -> Option Addr -> Int -> H -> Prop) => (fun (chars_4 : ByteArray) (as_5 : Option Addr) (i_6 : Int) => brW (decide ((i_6 : Int) < ((chars_4.size : Nat) : Int))) (idxW chars_4 i_6 (fun c7 => brW (decide (((c7.toNat : Int) : Int) >= 128)) (ptrW as_5 (fun b8 o9 => rdT (rdA 256 b8 o9) kR (fun x10 => stW Tryz.prog 285 (.pointer as_5) (x10) (ptrW as_5 (fun b11 o12 => rdT (rdA 256 b11 o12) kR (fun r13 => K (.tuple ⟨[r13, .bool false]⟩)))))))
 (ptrW as_5 (fun b14 o15 => ifW (0 <= (c7.toNat : Int) /\ (c7.toNat : Int) < ((256 : Nat) : Int)) (stW Tryz.prog 4 (.pointer (some ⟨b14, o15 + ((c7.toNat : Int) : Int).toNat * 1, none⟩)) (.bool true) (R3 chars_4 as_5 (IntKind.i64.wrap (i_6 + 1)))))))) (ptrW as_5 (fun b16 o17 => rdT (rdA 256 b16 o17) kR (fun x18 => stW Tryz.prog 285 (.pointer as_5) (x18) (ptrW as_5 (fun b19 o20 => rdT (rdA 256 b19 o20) kR (fun r21 =>
 K (.tuple ⟨[r21, .bool true]⟩))))))))) (fun (R22 : ByteArray -> Option Addr -> Int -> H -> Prop) => R22 chars_1 (some ⟨b2, 0, none⟩) 0))
theorem e261 (chars_1 : ByteArray) (K : KH) : bodyF Tryz.prog tau Tryz.f261 an261 [.string chars_1] K = g261 chars_1 K := by kernel_rfl
theorem c261 (chars_1 : ByteArray) {K : KH} {σ : H} (h : g261 chars_1 K σ) : callW Tryz.prog 261 [.string chars_1] K σ := call_of_body mixed Tryz.func261 (by rw [e261]; exact h)


def an262 : Ann := (.q (.q .z))
def g262 (as_1 : Option Addr) (c_2 : Int) (K : KH) : H -> Prop :=
 ptrW as_1 (fun b3 o4 => ifW (0 <= c_2 /\ c_2 < ((256 : Nat) : Int)) (rdT (rdC b3 (o4 + c_2.toNat * 1)) kB (fun x5 => K (.bool x5))))
theorem e262 (as_1 : Option Addr) (c_2 : Int) (K : KH) : bodyF Tryz.prog tau Tryz.f262 an262 [.pointer as_1, .int .u8 c_2] K = g262 as_1 c_2 K := by kernel_rfl
theorem c262 (as_1 : Option Addr) (c_2 : Int) {K : KH} {σ : H} (h : g262 as_1 c_2 K σ) : callW Tryz.prog 262 [.pointer as_1, .int .u8 c_2] K σ := call_of_body mixed Tryz.func262 (by rw [e262]; exact h)


def an263 : Ann := (.q (.q .z))
def g263 (s_1 : ByteArray) (sep_2 : ByteArray) (sepSave_3 : Int) (K : KH) : H -> Prop :=
 alW (.cells ⟨[.string s_1]⟩ 9 (0, 0)) (fun b4 => alW (.cells ⟨[.string sep_2]⟩ 9 (0, 0)) (fun b5 => alW (.cells ⟨[.int .i64 sepSave_3]⟩ 3 (0, 0)) (fun b6 => K (.func (.func 266) ⟨[]⟩ ⟨[.pointer (some ⟨b5, 0, none⟩), .pointer (some ⟨b4, 0, none⟩), .pointer (some ⟨b6, 0, none⟩)]⟩))))
theorem e263 (s_1 : ByteArray) (sep_2 : ByteArray) (sepSave_3 : Int) (K : KH) : bodyF Tryz.prog tau Tryz.f263 an263 [.string s_1, .string sep_2, .int .i64 sepSave_3] K = g263 s_1 sep_2 sepSave_3 K := by kernel_rfl
theorem c263 (s_1 : ByteArray) (sep_2 : ByteArray) (sepSave_3 : Int) {K : KH} {σ : H} (h : g263 s_1 sep_2 sepSave_3 K σ) : callW Tryz.prog 263 [.string s_1, .string sep_2, .int .i64 sepSave_3] K σ := call_of_body mixed Tryz.func263 (by rw [e263]; exact h)


def an265 : Ann := (.q (.n (.blk (.seq (some [(0,.sc (.int .i32)),(3,.b)]) .r (.cond (.q .z) (.seq (some [(10,.b)]) .r (.h))))) (.q .z)))
def g265 (r_1 : Int) (K : KH) : H -> Prop :=
 letJ (T := Int -> Bool -> H -> Prop) (fun r_3 x4 => brW x4 (K (.bool true)) (letJ (T := Bool -> H -> Prop) (fun x6 => brW x6 (K (.bool true)) (K (.bool false))) (fun j5 => brW (decide ((57343 : Int) < r_3)) (j5 (decide ((r_3 : Int) <= 1114111))) (j5 false)))) (fun j2 => brW (decide ((0 : Int) <= r_1)) (j2 r_1 (decide ((r_1 : Int) < 55296))) (j2 r_1 false))
theorem e265 (r_1 : Int) (K : KH) : bodyF Tryz.prog tau Tryz.f265 an265 [.int .i32 r_1] K = g265 r_1 K := by kernel_rfl
theorem c265 (r_1 : Int) {K : KH} {σ : H} (h : g265 r_1 K σ) : callW Tryz.prog 265 [.int .i32 r_1] K σ := call_of_body mixed Tryz.func265 (by rw [e265]; exact h)


def an266 : Ann := (.n (.q (.cond (.n (.blk (.loop [(0,.w),(2,.p)] (.n (.q (.cond .z .z)) (.blk (.q (.n (.q (.cond .z .z)) .r)))))) .z) .z)) (.n (.blk (.loop [(0,.w),(1,.p),(2,.p),(3,.p)] (.blk (.q (.n (.q (.cond .z .z)) (.q (.n (.q (.cond .z .z)) .r))))))) .r))
def g266 (yield_1 : Value) (x2 : Option Addr) (x3 : Option Addr) (x4 : Option Addr) (K : KH) : H -> Prop :=
 ptrW x2 (fun b5 o6 => rdT (rdC b5 o6) kS (fun (x7 : ByteArray) => brW ((((x7.size : Nat) : Int) : Int) == 0) (loopW [.sc .raw, .sc .ptr] (fun (R8 : Value -> Option Addr -> H -> Prop) => (fun yield_9 x10 => ptrW x10 (fun b11 o12 => rdT (rdC b11 o12) kS (fun (x13 : ByteArray) => brW (decide ((((x13.size : Nat) : Int) : Int) > 0)) (ptrW x10 (fun b14 o15 => rdT (rdC b14 o15) kS (fun (x16 : ByteArray) =>
 callT Tryz.prog 267 [.string x16] (.tup [.sc (.int .i32), .sc (.int .i64)]) (fun (_x17 : Int) (x18 : Int) => ptrW x10 (fun b19 o20 => rdT (rdC b19 o20) kS (fun (x21 : ByteArray) => ifW (bndOk (some x18) x21.size /\ bndOk none (x18.toNat)) (cvalT Tryz.prog yield_9 [.string (x21.extract 0 x18.toNat)] kB (fun x22 => brW (!x22) (K (.tuple ⟨[]⟩)) (ptrW x10 (fun b23 o24 => rdT (rdC b23 o24) kS (fun (x25 : ByteArray) => ifW (bndOk none x25.size /\ bndOk (some x18) (x25.size))
 (stW Tryz.prog 9 (.pointer x10) (.string (x25.extract x18.toNat x25.size)) (R8 yield_9 x10))))))))))))) (K (.tuple ⟨[]⟩)))))) (fun (R26 : Value -> Option Addr -> H -> Prop) => R26 yield_1 x3)) (loopW [.sc .raw, .sc .ptr, .sc .ptr, .sc .ptr] (fun (R27 : Value -> Option Addr -> Option Addr -> Option Addr -> H -> Prop) => (fun yield_28 x29 x30 x31 => ptrW x30 (fun b32 o33 => rdT (rdC b32 o33) kS (fun (x34 : ByteArray) => ptrW x29 (fun b35 o36 => rdT (rdC b35 o36) kS (fun (x37 : ByteArray) =>
 callT Tryz.prog 71 [.string x34, .string x37] kI (fun (x38 : Int) => brW (decide ((x38 : Int) < 0)) (ptrW x30 (fun b39 o40 => rdT (rdC b39 o40) kS (fun (x41 : ByteArray) => cvalT Tryz.prog yield_28 [.string x41] kB (fun _x42 => K (.tuple ⟨[]⟩))))) (ptrW x30 (fun b43 o44 => rdT (rdC b43 o44) kS (fun (x45 : ByteArray) => ptrW x31 (fun b46 o47 => rdT (rdC b46 o47) kI (fun (x48 : Int) => ifW (bndOk (some (IntKind.i64.wrap (x38 + x48))) x45.size /\ bndOk none ((IntKind.i64.wrap (x38 + x48)).toNat))
 (cvalT Tryz.prog yield_28 [.string (x45.extract 0 ((IntKind.i64.wrap (x38 + x48)).toNat))] kB (fun x49 => brW (!x49) (K (.tuple ⟨[]⟩)) (ptrW x30 (fun b50 o51 => rdT (rdC b50 o51) kS (fun (x52 : ByteArray) => ptrW x29 (fun b53 o54 => rdT (rdC b53 o54) kS (fun (x55 : ByteArray) => ifW (bndOk none x52.size /\ bndOk (some (IntKind.i64.wrap (x38 + ((x55.size : Nat) : Int)))) (x52.size))
 (stW Tryz.prog 9 (.pointer x30) (.string (x52.extract ((IntKind.i64.wrap (x38 + ((x55.size : Nat) : Int))).toNat) x52.size)) (R27 yield_28 x29 x30 x31))))))))))))))))))))) (fun (R56 : Value -> Option Addr -> Option Addr -> Option Addr -> H -> Prop) => R56 yield_1 x2 x3 x4))))
theorem e266 (yield_1 : Value) (x2 : Option Addr) (x3 : Option Addr) (x4 : Option Addr) (K : KH) : bodyF Tryz.prog tau Tryz.f266 an266 [yield_1, .pointer x2, .pointer x3, .pointer x4] K = g266 yield_1 x2 x3 x4 K := by kernel_rfl
theorem c266 (yield_1 : Value) (x2 : Option Addr) (x3 : Option Addr) (x4 : Option Addr) {K : KH} {σ : H} (h : g266 yield_1 x2 x3 x4 K σ) : callW Tryz.prog 266 [yield_1, .pointer x2, .pointer x3, .pointer x4] K σ := call_of_body mixed Tryz.func266 (by rw [e266]; exact h)

end Go.Proofs.YtbjbeajbckcecaaGreatDoor

namespace Go.Proofs.YtbjbeajbckcecaaGreatDoor
open Go Go.HL
end Go.Proofs.YtbjbeajbckcecaaGreatDoor

set_option maxRecDepth 100000
namespace Go.Proofs.YtbjbeajbckcecaaGreatDoor
open Go Go.HL Go.Wk
attribute [local irreducible] ptrW ifW brW andW rdT alW letJ stW muW biW vaW imW callT cvalT app callW invW callVW sizeT oW nilF oneK loopW rfW funW begW roundK exW idxW Gr Put
structure Nd where
 blk : Nat
 kind : Int
 mode : Int
 data : ByteArray
 links : Int
 up : Int
 eb : Option Nat
 ents : List (ByteArray × Int)
structure Tb where
 qi : Int
 qb : Int
 ui : Int
 ub : Int
 last : Int
 mb : Nat
 nodes : List (Int × Nd)
def Nd.cells (n : Nd) : Obj := .cells ⟨[.int .i64 n.kind, .int .i64 n.mode, .string n.data, .int .i64 n.links, .int .i64 n.up, .map n.eb]⟩ 194 (0, 0)
def Nd.ptr (n : Nd) : Value := .pointer (some ⟨n.blk, 0, none⟩)
def Tb.cells (T : Tb) : Obj := .cells ⟨[.int .i64 T.qi, .int .i64 T.qb, .int .i64 T.ui, .int .i64 T.ub, .map (some T.mb), .int .i64 T.last]⟩ 200 (0, 0)
def valI (n : Int) : Value := .int .i64 n
structure NdAt (σ : H) (n : Nd) : Prop where
 cells : σ n.blk = some n.cells
 ents : ∀ e, n.eb = some e -> MapAt σ e (encL kkS valI n.ents)
 none : n.eb = none -> n.ents = []
 dir : n.kind = 2 -> n.eb ≠ Option.none
def Tb.get (T : Tb) (ino : Int) : Option Nd := lk ino T.nodes
structure TAt (σ : H) (bt : Nat) (T : Tb) : Prop where
 cells : σ bt = some T.cells
 nodes : MapAt σ T.mb (encL kkI Nd.ptr T.nodes)
 each : ∀ i n, T.get i = some n -> NdAt σ n
theorem NdAt.gr {σ σ' : H} {n : Nd} (h : NdAt σ n) (hg : Gr σ σ') : NdAt σ' n := ⟨hg.get h.cells, fun e he => (h.ents e he).gr hg, h.none, h.dir⟩
theorem TAt.gr {σ σ' : H} {bt : Nat} {T : Tb} (h : TAt σ bt T) (hg : Gr σ σ') : TAt σ' bt T := ⟨hg.get h.cells, h.nodes.gr hg, fun i n hn => (h.each i n hn).gr hg⟩
theorem TAt.get {σ : H} {bt : Nat} {T : Tb} (h : TAt σ bt T) {ino : Int} {n : Nd} (hn : T.get ino = some n) : NdAt σ n := h.each ino n hn
theorem get_ptr (o : Option Nd) : (o.map Nd.ptr).getD (.pointer none) = .pointer (o.map fun n => ⟨n.blk, 0, none⟩) := by cases o <;> rfl

theorem s_get {σ : H} {bt : Nat} {T : Tb} (hT : TAt σ bt T) (ino : Int) {K : KH} (hK : K (.pointer ((T.get ino).map fun n => ⟨n.blk, 0, none⟩)) σ) : callW Tryz.prog 138 [.pointer (some ⟨bt, 0, none⟩), .int .i64 ino] K σ := by
 refine c138 _ _ ?_
 unfold g138
 refine br_f rfl ?_
 refine ptr_i ?_
 refine rd_M (rdC_of hT.cells (by rfl)) ?_
 refine rd_P (x := (T.get ino).map fun n => ⟨n.blk, 0, none⟩) ?_ hK
 rw [<- get_ptr]
 exact rdM_at (kk := kkI) hT.nodes _ false ino
def Tb.find (T : Tb) (dir : Int) (name : ByteArray) : Option Int := (T.get dir).bind fun n => lk name n.ents
theorem s_Find {σ : H} {bt : Nat} {T : Tb} (hT : TAt σ bt T) (dir : Int) (name : ByteArray) {K : KH} (hK : K (.tuple ⟨[.int .i64 ((T.find dir name).getD 0), .bool (T.find dir name).isSome]⟩) σ) :
 callW Tryz.prog 125 [.pointer (some ⟨bt, 0, none⟩), .int .i64 dir, .string name] K σ := by
 refine c125 _ _ _ ?_
 unfold g125
 refine call_i (s_get hT dir ?_)
 refine app_P ?_
 unfold Tb.find at hK
 cases hn : T.get dir with
 | none => rw [hn] at hK; exact br_t rfl hK
 | some n =>
  rw [hn] at hK
  have hN := hT.get hn
  refine br_f rfl (ptr_i ?_)
  refine rd_M (rdC_of hN.cells (by rfl)) ?_
  cases he : n.eb with
  | none =>
   have := hN.none he
   simp only [Option.bind_some, this] at hK
   exact rd_G rfl (app_IB hK)
  | some e =>
   refine rd_G (rdM_at (kk := kkS) (hN.ents e he) _ true name) ?_
   have hv : ((lk name n.ents).map valI).getD (.int .i64 0) = .int .i64 ((lk name n.ents).getD 0) := by cases lk name n.ents <;> rfl
   rw [hv]
   exact app_IB hK
theorem s_must (is : Bool) (e : Int) {σ : H} {K : KH} (hK : K (.int .i64 (if is then 0 else e)) σ) : callW Tryz.prog 161 [.bool is, .int .i64 e] K σ := by
 refine c161 _ _ ?_
 unfold g161
 cases is
 ·exact br_t rfl hK
 ·exact br_f rfl hK
theorem s_there (t : Option Addr) {σ : H} {K : KH} (hK : K (.int .i64 (if t.isSome then 0 else 1)) σ) : callW Tryz.prog 163 [.pointer t] K σ := by
 refine c163 _ ?_
 unfold g163
 refine call_i (s_must _ _ ?_)
 refine app_I ?_
 cases t <;> exact hK
def Tb.up (T : Tb) (dir : Int) : Int := ((T.get dir).map (·.up)).getD 0
theorem s_Up {σ : H} {bt : Nat} {T : Tb} (hT : TAt σ bt T) (dir : Int) {K : KH} (hK : K (.int .i64 (T.up dir)) σ) : callW Tryz.prog 124 [.pointer (some ⟨bt, 0, none⟩), .int .i64 dir] K σ := by
 refine c124 _ _ ?_
 unfold g124
 refine call_i (s_get hT dir (app_P ?_))
 unfold Tb.up at hK
 cases hn : T.get dir with
 | none => rw [hn] at hK; exact br_t rfl hK
 | some n =>
  rw [hn] at hK
  have hN := hT.get hn
  refine br_f rfl (ptr_i ?_)
  exact rd_I (rdC_of hN.cells (by rfl)) hK
theorem s_Root (bt : Addr) {σ : H} {K : KH} (hK : K (.int .i64 1) σ) : callW Tryz.prog 123 [.pointer (some bt)] K σ := by
 refine c123 _ ?_
 unfold g123
 exact br_f rfl hK

def Tb.dirE (T : Tb) (ino : Int) : Int := match T.get ino with
 | none => 5
 | some n => if n.kind == 2 then 0 else 8
theorem s_dir1 {σ : H} {bt : Nat} {T : Tb} (hT : TAt σ bt T) {b1 b2 : Nat} {ino : Int} {t1 t2 : TypeId} (h1 : σ b1 = some (.cells ⟨[.pointer (some ⟨bt, 0, none⟩)]⟩ t1 (0, 0))) (h2 : σ b2 = some (.cells ⟨[.int .i64 ino]⟩ t2 (0, 0))) {K : KH}
 (hK : K (.int .i64 (T.dirE ino)) σ) : callW Tryz.prog 214 [.pointer (some ⟨b1, 0, none⟩), .pointer (some ⟨b2, 0, none⟩)] K σ := by
 refine c214 _ _ ?_
 unfold g214
 (repeat (first|refine ptr_i ?_|refine z2 ?_|(refine al_i ?_;intro _ _ _ _ _)|refine z4 ?_|refine z5 ?_|(refine z6 ?_;intro _ _)|refine app_P ?_|refine app_I ?_|refine app_S ?_|refine app_B ?_|refine app_M ?_|refine app_L ?_|refine app_U ?_|refine app_R ?_|(refine app_of rfl ?_;try dsimp only)))
 refine call_i (s_get hT ino (app_P ?_))
 unfold Tb.dirE at hK
 cases hn : T.get ino with
 | none => rw [hn] at hK; exact br_t rfl hK
 | some n =>
  rw [hn] at hK
  have hN := hT.get hn
  refine br_f rfl (ptr_i ?_)
  refine rd_I (rdC_of hN.cells (by rfl)) ?_
  exact call_i (s_must _ _ (app_I hK))
theorem s_free1 {σ : H} {bt : Nat} {T : Tb} (hT : TAt σ bt T) {b1 b2 b3 : Nat} {dir : Int} {name : ByteArray} {t1 t2 t3 : TypeId} (h1 : σ b1 = some (.cells ⟨[.pointer (some ⟨bt, 0, none⟩)]⟩ t1 (0, 0))) (h2 : σ b2 = some (.cells ⟨[.int .i64 dir]⟩ t2 (0, 0))) (h3 : σ b3 = some (.cells ⟨[.string name]⟩ t3 (0, 0))) {K : KH}
 (hK : K (.int .i64 (if (T.find dir name).isSome then 6 else 0)) σ) : callW Tryz.prog 217 [.pointer (some ⟨b1, 0, none⟩), .pointer (some ⟨b2, 0, none⟩), .pointer (some ⟨b3, 0, none⟩)] K σ := by
 refine c217 _ _ _ ?_
 unfold g217
 (repeat (first|refine ptr_i ?_|refine z2 ?_|(refine al_i ?_;intro _ _ _ _ _)|refine z4 ?_|refine z5 ?_|(refine z6 ?_;intro _ _)|refine app_P ?_|refine app_I ?_|refine app_S ?_|refine app_B ?_|refine app_M ?_|refine app_L ?_|refine app_U ?_|refine app_R ?_|(refine app_of rfl ?_;try dsimp only)))
 refine call_i (s_Find hT dir name (app_IB ?_))
 refine call_i (s_must _ _ (app_I ?_))
 cases h : (T.find dir name).isSome <;> simpa [h] using hK
def Tb.fileE (T : Tb) (ino : Int) : Int := match T.get ino with
 | none => 5
 | some n => if n.kind == 2 then 7 else if n.kind == 1 then 0 else 2
theorem s_file1 {σ : H} {bt : Nat} {T : Tb} (hT : TAt σ bt T) {b1 b2 : Nat} {ino : Int} {t1 t2 : TypeId} (h1 : σ b1 = some (.cells ⟨[.pointer (some ⟨bt, 0, none⟩)]⟩ t1 (0, 0))) (h2 : σ b2 = some (.cells ⟨[.int .i64 ino]⟩ t2 (0, 0))) {K : KH}
 (hK : K (.int .i64 (T.fileE ino)) σ) : callW Tryz.prog 222 [.pointer (some ⟨b1, 0, none⟩), .pointer (some ⟨b2, 0, none⟩)] K σ := by
 refine c222 _ _ ?_
 unfold g222
 (repeat (first|refine ptr_i ?_|refine z2 ?_|(refine al_i ?_;intro _ _ _ _ _)|refine z4 ?_|refine z5 ?_|(refine z6 ?_;intro _ _)|refine app_P ?_|refine app_I ?_|refine app_S ?_|refine app_B ?_|refine app_M ?_|refine app_L ?_|refine app_U ?_|refine app_R ?_|(refine app_of rfl ?_;try dsimp only)))
 refine call_i (s_get hT ino (app_P ?_))
 unfold Tb.fileE at hK
 cases hn : T.get ino with
 | none => rw [hn] at hK; exact br_t rfl hK
 | some n =>
  rw [hn] at hK
  have hN := hT.get hn
  refine br_f rfl (ptr_i ?_)
  refine rd_I (rdC_of hN.cells (by rfl)) ?_
  cases hk : (n.kind == 2) with
  | true => simp only [hk] at hK; exact br_t rfl hK
  | false =>
   simp only [hk] at hK
   refine br_f rfl (ptr_i ?_)
   refine rd_I (rdC_of hN.cells (by rfl)) ?_
   exact call_i (s_must _ _ (app_I hK))
theorem sz_int : sizeT Tryz.prog 3 = some 1 := by kernel_rfl
theorem sz_string : sizeT Tryz.prog 9 = some 1 := by kernel_rfl
theorem sz_bool : sizeT Tryz.prog 4 = some 1 := by kernel_rfl
theorem sz_Inode : sizeT Tryz.prog 35 = some 4 := by kernel_rfl
theorem sz_Quota : sizeT Tryz.prog 64 = some 2 := by kernel_rfl
theorem sz_MSI : sizeT Tryz.prog 192 = some 1 := by kernel_rfl
def Tb.node (T : Tb) (ino : Int) : List Value := match T.get ino with
 | none => [.int .i64 0, .int .i64 0, .string ⟨⟨[]⟩⟩, .int .i64 0]
 | some n => [.int .i64 n.kind, .int .i64 n.mode, .string n.data, .int .i64 n.links]
theorem s_Node {σ : H} {bt : Nat} {T : Tb} (hT : TAt σ bt T) (ino : Int) {K : KH} (hK : K (.tuple ⟨[.agg ⟨T.node ino⟩, .bool (T.get ino).isSome]⟩) σ) : callW Tryz.prog 99 [.pointer (some ⟨bt, 0, none⟩), .int .i64 ino] K σ := by
 refine pure_i _ hK (c99 _ _ ?_)
 unfold g99
 refine al_i ?_
 intro b σ1 hg hb hn
 refine call_i (s_get (hT.gr hg) ino (app_P ?_))
 unfold Tb.node
 cases hnn : T.get ino with
 | none =>
  refine br_t rfl ?_
  (repeat (first|refine ptr_i ?_|refine z2 ?_|(refine al_i ?_;intro _ _ _ _ _)|refine z4 ?_|refine z5 ?_|(refine z6 ?_;intro _ _)|refine app_P ?_|refine app_I ?_|refine app_S ?_|refine app_B ?_|refine app_M ?_|refine app_L ?_|refine app_U ?_|refine app_R ?_|(refine app_of rfl ?_;try dsimp only)))
  exact ⟨rfl, by repeat (first | exact Gr.refl _ | assumption | refine Gr.trans ?_ ‹_› | refine Gr.putF ?_ ‹_› (none_of ?_ ‹_›))⟩
 | some n =>
  have hN := ((hT.gr hg).get hnn).cells
  unfold Nd.cells at hN
  refine br_f rfl (ptr_i ?_)
  (repeat (first|refine ptr_i ?_|refine z2 ?_|(refine al_i ?_;intro _ _ _ _ _)|refine z4 ?_|refine z5 ?_|(refine z6 ?_;intro _ _)|refine app_P ?_|refine app_I ?_|refine app_S ?_|refine app_B ?_|refine app_M ?_|refine app_L ?_|refine app_U ?_|refine app_R ?_|(refine app_of rfl ?_;try dsimp only)))
  exact ⟨rfl, by repeat (first | exact Gr.refl _ | assumption | refine Gr.trans ?_ ‹_› | refine Gr.putF ?_ ‹_› (none_of ?_ ‹_›))⟩
theorem wrap_id {x : Int} (h1 : -9223372036854775808 <= x) (h2 : x <= 9223372036854775807) : IntKind.i64.wrap x = x := by
 rw [IntKind.wrap_i64]; omega
def Pu (σ : H) (f : Value) (e : Int) : Prop := ∀ K : Value -> H -> Prop, K (.int .i64 e) σ -> callVW Tryz.prog f [] K σ
def FirstOk (σ : H) : List Value -> List Int -> Prop
 | [], [] => True
 | f :: fs, e :: es => Pu σ f e /\ (e = 0 -> FirstOk σ fs es)
 | _, _ => False
theorem wrapS {i : Nat} (h : i < 9000000000000000000) : IntKind.i64.wrap ((i : Int) + 1) = ((i + 1 : Nat) : Int) := by rw [wrap_id (by omega) (by omega)]; omega
theorem s_first {σ : H} {b : Nat} {fs : List Value} {es : List Int} {t : TypeId} (hb : σ b = some (.cells ⟨fs⟩ t (0, 0))) (h : FirstOk σ fs es) (hn : fs.length <= 1000) {K : KH} (hK : K (.int .i64 (firstE es)) σ) :
 callW Tryz.prog 162 [.slice (some ⟨b, 0, none⟩) fs.length fs.length] K σ := by
 refine c162 ⟨some ⟨b, 0, none⟩, _, _⟩ ?_
 unfold g162
 refine loop_i ?_
 intro R hR
 have key : ∀ (gs : List Value) (ds : List Int) (i : Nat), fs.drop i = gs -> FirstOk σ gs ds -> K (.int .i64 (firstE ds)) σ -> R ⟨some ⟨b, 0, none⟩, fs.length, fs.length⟩ ((fs.length : Nat) : Int) (i : Int) σ := by
  intro gs
  induction gs with
  | nil =>
   intro ds i hd hok hk
   have hge : fs.length <= i := by simpa using hd
   refine hR _ _ _ _ ?_
   cases ds with
   | cons d ds => exact hok.elim
   | nil => exact br_f (by simp; omega) hk
  | cons f gs ih =>
   intro ds i hd hok hk
   cases ds with
   | nil => exact hok.elim
   | cons d ds =>
    obtain ⟨hp, hok⟩ := hok
    have hlt : i < fs.length := by
     rcases Nat.lt_or_ge i fs.length with h | h
     ·exact h
     ·rw [List.drop_eq_nil_of_le h] at hd; cases hd
    have hf : fs[i]? = some f := by
     have : (fs.drop i)[0]? = some f := by rw [hd]; rfl
     simpa using this
    refine hR _ _ _ _ ?_
    refine br_t (by simpa using hlt) ?_
    refine ptr_i (if_i ⟨by omega, by show (i : Int) < (fs.length : Int); omega⟩ ?_)
    refine rd_R (rdC_of (v := f) hb (by simpa using hf)) ?_
    refine cvalv_i (hp _ (app_I ?_))
    by_cases he : d = 0
    ·subst he
     refine br_f rfl ?_
     rw [wrap_id (by omega) (by omega)]
     have h2 : fs.drop (i + 1) = gs := by rw [<- List.drop_drop, hd]; rfl
     exact ih ds (i + 1) h2 (hok rfl) (by simpa [firstE] using hk)
    ·refine br_t (by simpa using he) ?_
     simpa [firstE, he] using hk
 exact key fs es 0 rfl h hK
theorem pu_of {σ : H} {g : FuncId} {as_ cs : List Value} {e : Int} (hg : isGo Tryz.prog g = true) (h : ∀ K : Value -> H -> Prop, K (.int .i64 e) σ -> callW Tryz.prog g (as_ ++ cs) K σ) : Pu σ (.func (.func g) ⟨as_⟩ ⟨cs⟩) e := by
 intro K hk
 unfold callVW
 simp only [hg]
 simpa using h K hk
theorem go_there : isGo Tryz.prog 163 = true := by kernel_rfl
theorem go_dir1 : isGo Tryz.prog 214 = true := by kernel_rfl
theorem go_named1 : isGo Tryz.prog 215 = true := by kernel_rfl
theorem go_free1 : isGo Tryz.prog 217 = true := by kernel_rfl
theorem go_room1 : isGo Tryz.prog 218 = true := by kernel_rfl
theorem go_Make1 : isGo Tryz.prog 160 = true := by kernel_rfl
theorem go_Make2 : isGo Tryz.prog 167 = true := by kernel_rfl
theorem go_file1 : isGo Tryz.prog 222 = true := by kernel_rfl
theorem go_WriteT1 : isGo Tryz.prog 171 = true := by kernel_rfl
theorem s_dir {σ : H} (t : Option Addr) (ino : Int) {K : KH} (hK : ∀ b1 b2 σ', Gr σ σ' -> σ' b1 = some (.cells ⟨[.pointer t]⟩ 108 (0, 0)) -> σ' b2 = some (.cells ⟨[.int .i64 ino]⟩ 3 (0, 0)) -> K (.func (.func 214) ⟨[]⟩ ⟨[.pointer (some ⟨b1, 0, none⟩), .pointer (some ⟨b2, 0, none⟩)]⟩) σ') :
 callW Tryz.prog 164 [.pointer t, .int .i64 ino] K σ := by
 refine c164 _ _ ?_
 unfold g164
 (repeat (first|refine ptr_i ?_|refine z2 ?_|(refine al_i ?_;intro _ _ _ _ _)|refine z4 ?_|refine z5 ?_|(refine z6 ?_;intro _ _)|refine app_P ?_|refine app_I ?_|refine app_S ?_|refine app_B ?_|refine app_M ?_|refine app_L ?_|refine app_U ?_|refine app_R ?_|(refine app_of rfl ?_;try dsimp only)))
 exact hK _ _ _ (by repeat (first | exact Gr.refl _ | assumption | refine Gr.trans ?_ ‹_› | refine Gr.putF ?_ ‹_› (none_of ?_ ‹_›))) (by exact gA) (by exact gA)
theorem s_file {σ : H} (t : Option Addr) (ino : Int) {K : KH} (hK : ∀ b1 b2 σ', Gr σ σ' -> σ' b1 = some (.cells ⟨[.pointer t]⟩ 108 (0, 0)) -> σ' b2 = some (.cells ⟨[.int .i64 ino]⟩ 3 (0, 0)) -> K (.func (.func 222) ⟨[]⟩ ⟨[.pointer (some ⟨b1, 0, none⟩), .pointer (some ⟨b2, 0, none⟩)]⟩) σ') :
 callW Tryz.prog 172 [.pointer t, .int .i64 ino] K σ := by
 refine c172 _ _ ?_
 unfold g172
 (repeat (first|refine ptr_i ?_|refine z2 ?_|(refine al_i ?_;intro _ _ _ _ _)|refine z4 ?_|refine z5 ?_|(refine z6 ?_;intro _ _)|refine app_P ?_|refine app_I ?_|refine app_S ?_|refine app_B ?_|refine app_M ?_|refine app_L ?_|refine app_U ?_|refine app_R ?_|(refine app_of rfl ?_;try dsimp only)))
 exact hK _ _ _ (by repeat (first | exact Gr.refl _ | assumption | refine Gr.trans ?_ ‹_› | refine Gr.putF ?_ ‹_› (none_of ?_ ‹_›))) (by exact gA) (by exact gA)
theorem s_named {σ : H} (name : ByteArray) {K : KH} (hK : ∀ b1 σ', Gr σ σ' -> σ' b1 = some (.cells ⟨[.string name]⟩ 9 (0, 0)) -> K (.func (.func 215) ⟨[]⟩ ⟨[.pointer (some ⟨b1, 0, none⟩)]⟩) σ') :
 callW Tryz.prog 165 [.string name] K σ := by
 refine c165 _ ?_
 unfold g165
 (repeat (first|refine ptr_i ?_|refine z2 ?_|(refine al_i ?_;intro _ _ _ _ _)|refine z4 ?_|refine z5 ?_|(refine z6 ?_;intro _ _)|refine app_P ?_|refine app_I ?_|refine app_S ?_|refine app_B ?_|refine app_M ?_|refine app_L ?_|refine app_U ?_|refine app_R ?_|(refine app_of rfl ?_;try dsimp only)))
 exact hK _ _ (by repeat (first | exact Gr.refl _ | assumption | refine Gr.trans ?_ ‹_› | refine Gr.putF ?_ ‹_› (none_of ?_ ‹_›))) (by exact gA)
theorem s_free {σ : H} (t : Option Addr) (dir : Int) (name : ByteArray) {K : KH} (hK : ∀ b1 b2 b3 σ', Gr σ σ' -> σ' b1 = some (.cells ⟨[.pointer t]⟩ 108 (0, 0)) -> σ' b2 = some (.cells ⟨[.int .i64 dir]⟩ 3 (0, 0)) -> σ' b3 = some (.cells ⟨[.string name]⟩ 9 (0, 0)) -> K (.func (.func 217) ⟨[]⟩ ⟨[.pointer (some ⟨b1, 0, none⟩), .pointer (some ⟨b2, 0, none⟩), .pointer (some ⟨b3, 0, none⟩)]⟩) σ') :
 callW Tryz.prog 166 [.pointer t, .int .i64 dir, .string name] K σ := by
 refine c166 _ _ _ ?_
 unfold g166
 (repeat (first|refine ptr_i ?_|refine z2 ?_|(refine al_i ?_;intro _ _ _ _ _)|refine z4 ?_|refine z5 ?_|(refine z6 ?_;intro _ _)|refine app_P ?_|refine app_I ?_|refine app_S ?_|refine app_B ?_|refine app_M ?_|refine app_L ?_|refine app_U ?_|refine app_R ?_|(refine app_of rfl ?_;try dsimp only)))
 exact hK _ _ _ _ (by repeat (first | exact Gr.refl _ | assumption | refine Gr.trans ?_ ‹_› | refine Gr.putF ?_ ‹_› (none_of ?_ ‹_›))) (by exact gA) (by exact gA) (by exact gA)
theorem s_room {σ : H} (t : Option Addr) (i n : Int) {K : KH} (hK : ∀ b1 b2 b3 σ', Gr σ σ' -> σ' b1 = some (.cells ⟨[.pointer t]⟩ 108 (0, 0)) -> σ' b2 = some (.cells ⟨[.int .i64 i]⟩ 3 (0, 0)) -> σ' b3 = some (.cells ⟨[.int .i64 n]⟩ 3 (0, 0)) -> K (.func (.func 218) ⟨[]⟩ ⟨[.pointer (some ⟨b1, 0, none⟩), .pointer (some ⟨b2, 0, none⟩), .pointer (some ⟨b3, 0, none⟩)]⟩) σ') :
 callW Tryz.prog 168 [.pointer t, .int .i64 i, .int .i64 n] K σ := by
 refine c168 _ _ _ ?_
 unfold g168
 (repeat (first|refine ptr_i ?_|refine z2 ?_|(refine al_i ?_;intro _ _ _ _ _)|refine z4 ?_|refine z5 ?_|(refine z6 ?_;intro _ _)|refine app_P ?_|refine app_I ?_|refine app_S ?_|refine app_B ?_|refine app_M ?_|refine app_L ?_|refine app_U ?_|refine app_R ?_|(refine app_of rfl ?_;try dsimp only)))
 exact hK _ _ _ _ (by repeat (first | exact Gr.refl _ | assumption | refine Gr.trans ?_ ‹_› | refine Gr.putF ?_ ‹_› (none_of ?_ ‹_›))) (by exact gA) (by exact gA) (by exact gA)
def Tb.roomE (T : Tb) (i n : Int) : Int := if IntKind.i64.wrap (T.ui + i) <= T.qi /\ IntKind.i64.wrap (T.ub + n) <= T.qb then 0 else 10
theorem s_room1 {σ : H} {bt : Nat} {T : Tb} (hT : TAt σ bt T) {b1 b2 b3 : Nat} {i n : Int} {t1 t2 t3 : TypeId} (h1 : σ b1 = some (.cells ⟨[.pointer (some ⟨bt, 0, none⟩)]⟩ t1 (0, 0))) (h2 : σ b2 = some (.cells ⟨[.int .i64 i]⟩ t2 (0, 0))) (h3 : σ b3 = some (.cells ⟨[.int .i64 n]⟩ t3 (0, 0))) {K : KH}
 (hK : K (.int .i64 (T.roomE i n)) σ) : callW Tryz.prog 218 [.pointer (some ⟨b1, 0, none⟩), .pointer (some ⟨b2, 0, none⟩), .pointer (some ⟨b3, 0, none⟩)] K σ := by
 refine c218 _ _ _ ?_
 unfold g218
 have hc := hT.cells
 unfold Tb.cells at hc
 (repeat (first|refine ptr_i ?_|refine z2 ?_|(refine al_i ?_;intro _ _ _ _ _)|refine z4 ?_|refine z5 ?_|(refine z6 ?_;intro _ _)|refine app_P ?_|refine app_I ?_|refine app_S ?_|refine app_B ?_|refine app_M ?_|refine app_L ?_|refine app_U ?_|refine app_R ?_|(refine app_of rfl ?_;try dsimp only)))
 unfold Tb.roomE at hK
 by_cases ha : IntKind.i64.wrap (T.ui + i) <= T.qi
 ·refine br_t (by simpa using ha) ?_
  (repeat (first|refine ptr_i ?_|refine z2 ?_|(refine al_i ?_;intro _ _ _ _ _)|refine z4 ?_|refine z5 ?_|(refine z6 ?_;intro _ _)|refine app_P ?_|refine app_I ?_|refine app_S ?_|refine app_B ?_|refine app_M ?_|refine app_L ?_|refine app_U ?_|refine app_R ?_|(refine app_of rfl ?_;try dsimp only)))
  refine call_i (s_must _ _ (app_I ?_))
  simpa [ha] using hK
 ·refine br_f (by simpa using ha) ?_
  refine call_i (s_must _ _ (app_I ?_))
  simpa [ha] using hK
theorem und_MIB : Tryz.prog.underlying 211 = some (.map 3 4) := by kernel_rfl
theorem und_int : Tryz.prog.underlying 3 = some (.int .i64) := by kernel_rfl
theorem und_string : Tryz.prog.underlying 9 = some .string := by kernel_rfl
def IByte : Prop := ∀ (s : ByteArray) (σ : H) (K : KH), (∀ n : Int, (decide (n < 0) = !hasNul s) -> K (.int .i64 n) σ) -> callW Tryz.prog 26 [.string s, .int .u8 0] K σ
def CAny : Prop := ∀ (s : ByteArray) (_ : s.size <= 1000000) (σ : H) (K : KH), K (.bool (badByte s)) σ -> callW Tryz.prog 216 [.string s, .string ⟨⟨[47, 0]⟩⟩] K σ
theorem s_Make1 (hI : IByte) {σ : H} {b1 b2 b3 : Nat} {data : ByteArray} {kind mode : Int} {t1 t2 t3 : TypeId} (h1 : σ b1 = some (.cells ⟨[.string data]⟩ t1 (0, 0))) (h2 : σ b2 = some (.cells ⟨[.int .i64 kind]⟩ t2 (0, 0))) (h3 : σ b3 = some (.cells ⟨[.int .i64 mode]⟩ t3 (0, 0))) {K : KH}
 (hK : K (.int .i64 (likeE kind mode data)) σ) : callW Tryz.prog 160 [.pointer (some ⟨b1, 0, none⟩), .pointer (some ⟨b2, 0, none⟩), .pointer (some ⟨b3, 0, none⟩)] K σ := by
 have hsE : sEq data ⟨⟨[]⟩⟩ = strEq data ⟨⟨[]⟩⟩ := sEq_eq _ _
 refine pure_i _ hK (c160 _ _ _ ?_)
 unfold g160
 refine j_i (fun j => ∀ σ', Gr σ σ' -> j (some ⟨b1, 0, none⟩) (some ⟨b2, 0, none⟩) (some ⟨b3, 0, none⟩) (linkOk data) σ') ?_ ?_
 ·intro σ' hg
  refine al_i ?_
  intro b σ1 hg1 hb hn
  have m0 : MapAt σ1 b (encL kkI Value.bool []) := MapAt.new hb
  refine mu_i (kk := kkI) (f := Value.bool) und_MIB und_int m0 1 true ?_
  intro o1 σ2 hp1 m1
  have hne1 : b1 ≠ b := ne_fresh (hg.get h1) hn
  have hne2 : b2 ≠ b := ne_fresh (hg.get h2) hn
  have hne3 : b3 ≠ b := ne_fresh (hg.get h3) hn
  refine ptr_i (rd_S (rdC_of (by exact gA) (by rfl)) ?_)
  refine mu_i (kk := kkI) (f := Value.bool) und_MIB und_int m1 2 _ ?_
  intro o2 σ3 hp2 m2
  refine mu_i (kk := kkI) (f := Value.bool) und_MIB und_int m2 3 _ ?_
  intro o3 σ4 hp3 m3
  refine ptr_i (rd_I (rdC_of (by exact gA) (by rfl)) ?_)
  have hv : ((lk kind (up 3 (linkOk data) (up 2 (strEq data ⟨⟨[]⟩⟩) (up 1 true [])))).map Value.bool).getD (.bool false) = .bool (kindOkE kind data) := by
   show ((lk kind [((1 : Int), true), (2, strEq data ⟨⟨[]⟩⟩), (3, linkOk data)]).map Value.bool).getD (.bool false) = _
   unfold kindOkE
   rw [hsE]
   cases lk kind [((1 : Int), true), (2, strEq data ⟨⟨[]⟩⟩), (3, linkOk data)] <;> rfl
  have hr := rdM_at (kk := kkI) m3 (.bool false) false kind
  refine rd_B (x := kindOkE kind data) (by rw [<- hv]; exact hr) ?_
  have hgr : Gr σ σ4 := by repeat (first | exact Gr.refl _ | assumption | refine Gr.trans ?_ ‹_› | refine Gr.putF ?_ ‹_› (none_of ?_ ‹_›))
  unfold likeE
  cases hk : kindOkE kind data with
  | false =>
   refine br_f rfl (call_i (s_must _ _ (app_I ⟨rfl, hgr⟩)))
  | true =>
   refine br_t rfl (ptr_i (rd_I (rdC_of (by exact gA) (by rfl)) ?_))
   by_cases hm : 0 <= mode
   ·refine br_t (by simpa using hm) (ptr_i (rd_I (rdC_of (by exact gA) (by rfl)) ?_))
    refine call_i (s_must _ _ (app_I ⟨?_, hgr⟩))
    simp [hm]
   ·refine br_f (by simpa using hm) (call_i (s_must _ _ (app_I ⟨?_, hgr⟩)))
    simp [hm]
 ·intro j hj
  refine ptr_i (rd_S (rdC_of (by exact gA) (by rfl)) ?_)
  unfold linkOk at hj
  rw [hsE] at hj
  cases he : strEq data ⟨⟨[]⟩⟩ with
  | true => refine br_f rfl ?_; rw [he] at hj; exact hj σ (Gr.refl _)
  | false =>
   rw [he] at hj
   refine br_t rfl (ptr_i (rd_S (rdC_of (by exact gA) (by rfl)) ?_))
   by_cases hl : data.size <= 255
   ·refine br_t (by simp; omega) (ptr_i (rd_S (rdC_of (by exact gA) (by rfl)) ?_))
    refine call_i (hI data σ _ ?_)
    intro n hn
    refine app_I ?_
    rw [hn]
    simpa [hl] using hj σ (Gr.refl _)
   ·refine br_f (by simp; omega) ?_
    simpa [hl] using hj σ (Gr.refl _)
def Nd.abs (n : Nd) : AN := ⟨n.kind, n.mode, n.data, n.links, n.up, n.ents⟩
def Tb.abs (T : Tb) : AT := ⟨T.qi, T.qb, T.ui, T.ub, T.last, T.nodes.map fun p => (p.1, p.2.abs)⟩
theorem abs_get (T : Tb) (i : Int) : T.abs.get i = (T.get i).map Nd.abs := lk_map _ _ _
theorem abs_find (T : Tb) (d : Int) (s : ByteArray) : T.abs.find d s = T.find d s := by
 unfold AT.find Tb.find; rw [abs_get]; cases T.get d <;> rfl
theorem abs_dirE (T : Tb) (d : Int) : T.abs.dirE d = T.dirE d := by
 unfold AT.dirE Tb.dirE; rw [abs_get]; cases T.get d <;> rfl
theorem abs_fileE (T : Tb) (d : Int) : T.abs.fileE d = T.fileE d := by
 unfold AT.fileE Tb.fileE; rw [abs_get]; cases T.get d <;> rfl
theorem abs_up (T : Tb) (d : Int) : T.abs.upOf d = T.up d := by
 unfold AT.upOf Tb.up; rw [abs_get]; cases T.get d <;> rfl
theorem abs_roomE (T : Tb) (i n : Int) : T.abs.roomE i n = T.roomE i n := rfl
structure Own (T : Tb) : Prop where
 blk : ∀ i j n m, T.get i = some n -> T.get j = some m -> n.blk = m.blk -> i = j
 eb : ∀ i j n m e, T.get i = some n -> T.get j = some m -> n.eb = some e -> m.eb = some e -> i = j
 mb : ∀ i n, T.get i = some n -> n.eb ≠ some T.mb
def Tb.own (bt : Nat) (T : Tb) (b : Nat) : Prop := b = bt \/ b = T.mb \/ ∃ i n, T.get i = some n /\ (b = n.blk \/ n.eb = some b)
def Tb.set (T : Tb) (i : Int) (n : Nd) : Tb := { T with nodes := HL.up i n T.nodes }
theorem get_set (T : Tb) (i j : Int) (n : Nd) : (T.set i n).get j = if j = i then some n else T.get j := by
 unfold Tb.set Tb.get; simp only [lk_up]
 by_cases h : j = i <;> simp [h]
theorem get_set_self (T : Tb) (i : Int) (n : Nd) : (T.set i n).get i = some n := by rw [get_set]; simp
theorem abs_set (T : Tb) (i : Int) (n : Nd) : (T.set i n).abs = T.abs.set i n.abs := by
 unfold Tb.set Tb.abs AT.set; simp only [up_map]
section
variable {σ σ' : H} {bt : Nat} {T : Tb} {b : Nat} {o : Obj}
theorem NdAt.put {m : Nd} (h : NdAt σ m) (hp : Put σ b o σ') (h1 : m.blk ≠ b) (h2 : m.eb ≠ some b) : NdAt σ' m :=
 ⟨hp.get h1 h.cells, fun e he => (h.ents e he).put hp (by intro e'; subst e'; exact h2 he), h.none, h.dir⟩
theorem ne_cm {c d : Nat} {l : List (Value × Value)} {es : Array Value} {t : TypeId} {fz : Nat × Nat} (hc : σ c = some (.cells es t fz)) (hd : MapAt σ d l) : c ≠ d := by
 obtain ⟨es', k, hd, _⟩ := hd
 intro e; subst e; rw [hc] at hd; cases hd
theorem TAt.bt_mb (h : TAt σ bt T) : bt ≠ T.mb := ne_cm h.cells h.nodes
theorem TAt.blk_bt (h : TAt σ bt T) {i : Int} {n : Nd} (hn : T.get i = some n) : n.blk ≠ bt := by
 intro e
 have h1 := (h.get hn).cells
 have h2 := h.cells
 rw [e, h2] at h1
 unfold Tb.cells Nd.cells at h1
 simp at h1
theorem TAt.blk_mb (h : TAt σ bt T) {i : Int} {n : Nd} (hn : T.get i = some n) : n.blk ≠ T.mb := ne_cm (h.get hn).cells h.nodes
theorem TAt.eb_bt (h : TAt σ bt T) {i : Int} {n : Nd} (hn : T.get i = some n) : n.eb ≠ some bt := by
 intro e; exact ne_cm h.cells ((h.get hn).ents _ e) rfl
theorem TAt.eb_blk (h : TAt σ bt T) {i j : Int} {n m : Nd} (hn : T.get i = some n) (hm : T.get j = some m) : n.eb ≠ some m.blk := by
 intro e; exact ne_cm (h.get hm).cells ((h.get hn).ents _ e) rfl
theorem TAt.own_some (h : TAt σ bt T) (hb : T.own bt b) : ∃ o, σ b = some o := by
 rcases hb with e | e | ⟨i, n, hn, e | e⟩
 ·subst e; exact ⟨_, h.cells⟩
 ·subst e; obtain ⟨_, _, h1, _⟩ := h.nodes; exact ⟨_, h1⟩
 ·subst e; exact ⟨_, (h.get hn).cells⟩
 ·obtain ⟨_, _, h1, _⟩ := (h.get hn).ents _ e; exact ⟨_, h1⟩
theorem TAt.put (h : TAt σ bt T) (hp : Put σ b o σ') (hn : ¬ T.own bt b) : TAt σ' bt T := by
 refine ⟨hp.get ?_ h.cells, h.nodes.put hp ?_, fun i n hg => (h.get hg).put hp ?_ ?_⟩
 ·intro e; exact hn (.inl e.symm)
 ·intro e; exact hn (.inr (.inl e.symm))
 ·intro e; exact hn (.inr (.inr ⟨i, n, hg, .inl e.symm⟩))
 ·intro e; exact hn (.inr (.inr ⟨i, n, hg, .inr e⟩))
theorem TAt.putT {T' : Tb} (h : TAt σ bt T) (hp : Put σ bt T'.cells σ') (h1 : T'.mb = T.mb) (h2 : T'.nodes = T.nodes) : TAt σ' bt T' := by
 have hg : ∀ i, T'.get i = T.get i := by intro i; unfold Tb.get; rw [h2]
 refine ⟨hp.same, ?_, fun i n hn => ?_⟩
 ·rw [h1, h2]; exact h.nodes.put hp (h.bt_mb).symm
 ·rw [hg] at hn
  exact (h.get hn).put hp (h.blk_bt hn) (h.eb_bt hn)
theorem Own.same {T' : Tb} (h : Own T) (h1 : T'.mb = T.mb) (h2 : T'.nodes = T.nodes) : Own T' := by
 have hg : ∀ i, T'.get i = T.get i := by intro i; unfold Tb.get; rw [h2]
 refine ⟨?_, ?_, ?_⟩
 ·intro i j n m; rw [hg, hg]; exact h.blk i j n m
 ·intro i j n m e; rw [hg, hg]; exact h.eb i j n m e
 ·intro i n; rw [hg, h1]; exact h.mb i n
theorem own_same {T' : Tb} (h1 : T'.mb = T.mb) (h2 : T'.nodes = T.nodes) (b : Nat) : T'.own bt b ↔ T.own bt b := by
 have hg : ∀ i, T'.get i = T.get i := by intro i; unfold Tb.get; rw [h2]
 unfold Tb.own; simp only [hg, h1]
theorem TAt.putN (h : TAt σ bt T) (ho : Own T) {i : Int} {n n' : Nd} (hn : T.get i = some n) (hp : Put σ n.blk n'.cells σ') (h1 : n'.blk = n.blk) (h2 : n'.eb = n.eb) (h3 : n'.ents = n.ents) (h4 : n'.kind = n.kind) : TAt σ' bt (T.set i n') := by
 refine ⟨hp.get (h.blk_bt hn).symm h.cells, ?_, fun j m hm => ?_⟩
 ·have := enc_up_same (kk := kkI) (f := Nd.ptr) (k := i) (v := n') (u := n) (l := T.nodes) hn (by unfold Nd.ptr; rw [h1])
  show MapAt σ' T.mb (encL kkI Nd.ptr (up i n' T.nodes))
  rw [this]
  exact h.nodes.put hp (h.blk_mb hn).symm
 ·rw [get_set] at hm
  by_cases e : j = i
  ·rw [if_pos e] at hm; cases hm
   have hN := h.get hn
   refine ⟨by rw [h1]; exact hp.same, fun e he => ?_, fun he => ?_, fun hk => ?_⟩
   ·rw [h2] at he; rw [h3]
    exact (hN.ents e he).put hp (ne_cm hN.cells (hN.ents e he)).symm
   ·rw [h2] at he; rw [h3]; exact hN.none he
   ·rw [h2]; rw [h4] at hk; exact hN.dir hk
  ·rw [if_neg e] at hm
   exact (h.get hm).put hp (fun e' => e (ho.blk j i m n hm hn e')) (h.eb_blk hm hn)
theorem Own.set (ho : Own T) {i : Int} {n n' : Nd} (hn : T.get i = some n) (h1 : n'.blk = n.blk) (h2 : n'.eb = n.eb) : Own (T.set i n') := by
 have key : ∀ j m, (T.set i n').get j = some m -> ∃ m', T.get j = some m' /\ m.blk = m'.blk /\ m.eb = m'.eb := by
  intro j m hm
  rw [get_set] at hm
  by_cases e : j = i
  ·rw [if_pos e] at hm; cases hm; subst e; exact ⟨n, hn, h1, h2⟩
  ·rw [if_neg e] at hm; exact ⟨m, hm, rfl, rfl⟩
 refine ⟨?_, ?_, ?_⟩
 ·intro a c x y hx hy hb
  obtain ⟨x', hx', e1, _⟩ := key a x hx
  obtain ⟨y', hy', e2, _⟩ := key c y hy
  exact ho.blk a c x' y' hx' hy' (by rw [<- e1, <- e2]; exact hb)
 ·intro a c x y e hx hy h3 h4
  obtain ⟨x', hx', _, e1⟩ := key a x hx
  obtain ⟨y', hy', _, e2⟩ := key c y hy
  exact ho.eb a c x' y' e hx' hy' (by rw [<- e1]; exact h3) (by rw [<- e2]; exact h4)
 ·intro a x hx
  obtain ⟨x', hx', _, e1⟩ := key a x hx
  rw [e1]; exact ho.mb a x' hx'
theorem own_set {i : Int} {n n' : Nd} (hn : T.get i = some n) (h1 : n'.blk = n.blk) (h2 : n'.eb = n.eb) (b : Nat) : (T.set i n').own bt b ↔ T.own bt b := by
 unfold Tb.own
 have : (T.set i n').mb = T.mb := rfl
 rw [this]
 refine or_congr_right (or_congr_right ⟨?_, ?_⟩)
 ·rintro ⟨j, m, hm, hb⟩
  rw [get_set] at hm
  by_cases e : j = i
  ·rw [if_pos e] at hm; cases hm; exact ⟨i, n, hn, by rw [<- h1, <- h2]; exact hb⟩
  ·rw [if_neg e] at hm; exact ⟨j, m, hm, hb⟩
 ·rintro ⟨j, m, hm, hb⟩
  by_cases e : j = i
  ·subst e; rw [hn] at hm; cases hm; exact ⟨j, n', get_set_self .., by rw [h1, h2]; exact hb⟩
  ·exact ⟨j, m, by rw [get_set, if_neg e]; exact hm, hb⟩
theorem TAt.putE (h : TAt σ bt T) (ho : Own T) {i : Int} {n : Nd} {e : Nat} {l : List (ByteArray × Int)} (hn : T.get i = some n) (he : n.eb = some e) (hp : Put σ e o σ') (hm : MapAt σ' e (encL kkS valI l)) : TAt σ' bt (T.set i { n with ents := l }) := by
 have hE := (h.get hn).ents e he
 refine ⟨hp.get (ne_cm h.cells hE) h.cells, ?_, fun j m hj => ?_⟩
 ·have := enc_up_same (kk := kkI) (f := Nd.ptr) (k := i) (v := { n with ents := l }) (u := n) (l := T.nodes) hn rfl
  show MapAt σ' T.mb (encL kkI Nd.ptr (up i _ T.nodes))
  rw [this]
  exact h.nodes.put hp (by intro e'; exact ho.mb i n hn (by rw [he, e']))
 ·rw [get_set] at hj
  by_cases e' : j = i
  ·rw [if_pos e'] at hj; cases hj
   have hN := h.get hn
   refine ⟨hp.get (ne_cm hN.cells hE) hN.cells, fun e2 he2 => ?_, fun h0 => ?_, hN.dir⟩
   ·have : e2 = e := by have := he2.symm.trans he; cases this; rfl
    subst this; exact hm
   ·have := he.symm.trans h0; cases this
  ·rw [if_neg e'] at hj
   have hN := h.get hj
   exact hN.put hp (ne_cm hN.cells hE) (fun h2 => e' (ho.eb j i m n e hj hn h2 he))
theorem TAt.putA (h : TAt σ bt T) (ho : Own T) {i : Int} {n : Nd} (hN : NdAt σ n) (hp : Put σ T.mb o σ') (hm : MapAt σ' T.mb (encL kkI Nd.ptr (up i n T.nodes))) (hf : n.eb ≠ some T.mb) : TAt σ' bt (T.set i n) := by
 refine ⟨hp.get h.bt_mb h.cells, hm, fun j m hj => ?_⟩
 rw [get_set] at hj
 by_cases e : j = i
 ·rw [if_pos e] at hj; cases hj
  exact hN.put hp (ne_cm hN.cells h.nodes) hf
 ·rw [if_neg e] at hj
  exact (h.get hj).put hp (h.blk_mb hj) (ho.mb j m hj)
theorem Own.add (ho : Own T) {i : Int} {n : Nd} (h1 : ¬ T.own bt n.blk) (h2 : ∀ e, n.eb = some e -> ¬ T.own bt e) : Own (T.set i n) := by
 have hb : ∀ j m, T.get j = some m -> m.blk ≠ n.blk := fun j m hm e => h1 (.inr (.inr ⟨j, m, hm, .inl e.symm⟩))
 have he : ∀ j m e, T.get j = some m -> n.eb = some e -> m.eb ≠ some e := fun j m e hm hn h => h2 e hn (.inr (.inr ⟨j, m, hm, .inr h⟩))
 refine ⟨?_, ?_, ?_⟩
 ·intro a c x y hx hy hxy
  rw [get_set] at hx hy
  by_cases ea : a = i <;> by_cases ec : c = i
  ·rw [ea, ec]
  ·rw [if_pos ea] at hx; rw [if_neg ec] at hy; cases hx; exact absurd hxy.symm (hb c y hy)
  ·rw [if_neg ea] at hx; rw [if_pos ec] at hy; cases hy; exact absurd hxy (hb a x hx)
  ·rw [if_neg ea] at hx; rw [if_neg ec] at hy; exact ho.blk a c x y hx hy hxy
 ·intro a c x y e hx hy h3 h4
  rw [get_set] at hx hy
  by_cases ea : a = i <;> by_cases ec : c = i
  ·rw [ea, ec]
  ·rw [if_pos ea] at hx; rw [if_neg ec] at hy; cases hx; exact absurd h4 (he c y e hy h3)
  ·rw [if_neg ea] at hx; rw [if_pos ec] at hy; cases hy; exact absurd h3 (he a x e hx h4)
  ·rw [if_neg ea] at hx; rw [if_neg ec] at hy; exact ho.eb a c x y e hx hy h3 h4
 ·intro a x hx
  rw [get_set] at hx
  by_cases ea : a = i
  ·rw [if_pos ea] at hx; cases hx
   intro h; exact h2 _ h (.inr (.inl rfl))
  ·rw [if_neg ea] at hx; exact ho.mb a x hx
theorem own_add {i : Int} {n : Nd} (b : Nat) (h : (T.set i n).own bt b) : T.own bt b \/ b = n.blk \/ n.eb = some b := by
 rcases h with e | e | ⟨j, m, hm, hb⟩
 ·exact .inl (.inl e)
 ·exact .inl (.inr (.inl e))
 ·rw [get_set] at hm
  by_cases e : j = i
  ·rw [if_pos e] at hm; cases hm; exact .inr hb
  ·rw [if_neg e] at hm; exact .inl (.inr (.inr ⟨j, m, hm, hb⟩))
end
structure Lng (σ σ' : H) : Prop where
 gr : Gr σ σ'
def TabAt (σ : H) (bt : Nat) (A : AT) (B : Nat -> Prop) : Prop := ∃ T, TAt σ bt T /\ Own T /\ T.abs = A /\ ∀ b, T.own bt b ↔ B b
theorem TabAt.gr {σ σ' : H} {bt : Nat} {A : AT} {B : Nat -> Prop} (h : TabAt σ bt A B) (hg : Gr σ σ') : TabAt σ' bt A B := by
 obtain ⟨T, h1, h2⟩ := h; exact ⟨T, h1.gr hg, h2⟩
theorem TabAt.put {σ σ' : H} {bt b : Nat} {A : AT} {B : Nat -> Prop} {o : Obj} (h : TabAt σ bt A B) (hp : Put σ b o σ') (hn : ¬ B b) : TabAt σ' bt A B := by
 obtain ⟨T, h1, h2, h3, h4⟩ := h; exact ⟨T, h1.put hp (by rw [h4]; exact hn), h2, h3, h4⟩
theorem TabAt.some {σ : H} {bt b : Nat} {A : AT} {B : Nat -> Prop} (h : TabAt σ bt A B) (hb : B b) : ∃ o, σ b = some o := by
 obtain ⟨T, h1, h2, h3, h4⟩ := h; exact h1.own_some ((h4 b).2 hb)
theorem TabAt.fresh {σ : H} {bt b : Nat} {A : AT} {B : Nat -> Prop} (h : TabAt σ bt A B) (hb : σ b = none) : ¬ B b := by
 intro hB; obtain ⟨o, ho⟩ := h.some hB; rw [hb] at ho; cases ho
theorem s_named1 (hC : CAny) {σ : H} {b1 : Nat} {name : ByteArray} {t1 : TypeId} (h1 : σ b1 = some (.cells ⟨[.string name]⟩ t1 (0, 0))) {K : KH}
 (hK : K (.int .i64 (namedE name)) σ) : callW Tryz.prog 215 [.pointer (some ⟨b1, 0, none⟩)] K σ := by
 refine c215 _ ?_
 unfold g215
 (repeat (first|refine ptr_i ?_|refine z2 ?_|(refine al_i ?_;intro _ _ _ _ _)|refine z4 ?_|refine z5 ?_|(refine z6 ?_;intro _ _)|refine app_P ?_|refine app_I ?_|refine app_S ?_|refine app_B ?_|refine app_M ?_|refine app_L ?_|refine app_U ?_|refine app_R ?_|(refine app_of rfl ?_;try dsimp only)))
 unfold namedE at hK
 simp only [sEq_eq] at hK
 by_cases hl : name.size > 56
 ·rw [if_pos hl] at hK; exact br_t (by simp; omega) hK
 rw [if_neg hl] at hK
 refine br_f (by simp; omega) ?_
 (repeat (first|refine ptr_i ?_|refine z2 ?_|(refine al_i ?_;intro _ _ _ _ _)|refine z4 ?_|refine z5 ?_|(refine z6 ?_;intro _ _)|refine app_P ?_|refine app_I ?_|refine app_S ?_|refine app_B ?_|refine app_M ?_|refine app_L ?_|refine app_U ?_|refine app_R ?_|(refine app_of rfl ?_;try dsimp only)))
 cases ha : strEq name ⟨⟨[]⟩⟩ with
 | true => rw [ha] at hK; exact br_f rfl (call_i (s_must _ _ (app_I hK)))
 | false =>
  rw [ha] at hK
  refine br_t rfl ?_
  (repeat (first|refine ptr_i ?_|refine z2 ?_|(refine al_i ?_;intro _ _ _ _ _)|refine z4 ?_|refine z5 ?_|(refine z6 ?_;intro _ _)|refine app_P ?_|refine app_I ?_|refine app_S ?_|refine app_B ?_|refine app_M ?_|refine app_L ?_|refine app_U ?_|refine app_R ?_|(refine app_of rfl ?_;try dsimp only)))
  cases hb : strEq name ⟨⟨[46]⟩⟩ with
  | true => rw [hb] at hK; exact br_f rfl (call_i (s_must _ _ (app_I hK)))
  | false =>
   rw [hb] at hK
   refine br_t rfl ?_
   (repeat (first|refine ptr_i ?_|refine z2 ?_|(refine al_i ?_;intro _ _ _ _ _)|refine z4 ?_|refine z5 ?_|(refine z6 ?_;intro _ _)|refine app_P ?_|refine app_I ?_|refine app_S ?_|refine app_B ?_|refine app_M ?_|refine app_L ?_|refine app_U ?_|refine app_R ?_|(refine app_of rfl ?_;try dsimp only)))
   cases hc : strEq name ⟨⟨[46, 46]⟩⟩ with
   | true => rw [hc] at hK; exact br_f rfl (call_i (s_must _ _ (app_I hK)))
   | false =>
    rw [hc] at hK
    refine br_t rfl ?_
    (repeat (first|refine ptr_i ?_|refine z2 ?_|(refine al_i ?_;intro _ _ _ _ _)|refine z4 ?_|refine z5 ?_|(refine z6 ?_;intro _ _)|refine app_P ?_|refine app_I ?_|refine app_S ?_|refine app_B ?_|refine app_M ?_|refine app_L ?_|refine app_U ?_|refine app_R ?_|(refine app_of rfl ?_;try dsimp only)))
    refine call_i (hC _ (by omega) _ _ (app_B ?_))
    exact call_i (s_must _ _ (app_I (by simpa using hK)))
theorem s_Make2 {σ : H} {bt : Nat} {T : Tb} (hT : TAt σ bt T) {b1 b2 : Nat} {data : ByteArray} {t1 t2 : TypeId} (h1 : σ b1 = some (.cells ⟨[.pointer (some ⟨bt, 0, none⟩)]⟩ t1 (0, 0))) (h2 : σ b2 = some (.cells ⟨[.string data]⟩ t2 (0, 0))) {K : KH}
 (hK : K (.int .i64 (T.roomE 1 data.size)) σ) : callW Tryz.prog 167 [.pointer (some ⟨b1, 0, none⟩), .pointer (some ⟨b2, 0, none⟩)] K σ := by
 refine pure_i _ hK (c167 _ _ ?_)
 unfold g167
 (repeat (first|refine ptr_i ?_|refine z2 ?_|(refine al_i ?_;intro _ _ _ _ _)|refine z4 ?_|refine z5 ?_|(refine z6 ?_;intro _ _)|refine app_P ?_|refine app_I ?_|refine app_S ?_|refine app_B ?_|refine app_M ?_|refine app_L ?_|refine app_U ?_|refine app_R ?_|(refine app_of rfl ?_;try dsimp only)))
 refine call_i (s_room _ _ _ ?_)
 intro c1 c2 c3 σ' hg e1 e2 e3
 refine app_R ?_
 refine cval_i go_room1 ?_
 exact s_room1 (hT.gr hg) e1 e2 e3 (app_I ⟨rfl, hg⟩)
theorem one_f {f : Fn} {as_ cs : Array Value} {g : H -> Prop} {σ : H} (h : g σ) : oneK (.func f as_ cs) g σ := by unfold oneK; exact h
theorem und_MSI : Tryz.prog.underlying 192 = some (.map 9 3) := by kernel_rfl
theorem und_MIN : Tryz.prog.underlying 198 = some (.map 3 189) := by kernel_rfl
theorem firstE_z {e : Int} {es : List Int} (h : firstE (e :: es) = 0) : e = 0 /\ firstE es = 0 := by
 unfold firstE at h
 by_cases he : e = 0
 ·rw [if_pos he] at h; exact ⟨he, h⟩
 ·rw [if_neg he] at h; exact absurd h he
theorem dirE_z {T : Tb} {d : Int} (h : T.dirE d = 0) : ∃ n, T.get d = some n /\ n.kind = 2 := by
 unfold Tb.dirE at h
 cases hn : T.get d with
 | none => rw [hn] at h; cases h
 | some n =>
  rw [hn] at h
  refine ⟨n, rfl, ?_⟩
  cases hk : (n.kind == 2) with
  | true => simpa using hk
  | false => simp [hk] at h
theorem TAt.dir {σ : H} {bt : Nat} {T : Tb} (hT : TAt σ bt T) {d : Int} {n : Nd} (hn : T.get d = some n) (hk : n.kind = 2) : ∃ e, n.eb = some e := by
 have := (hT.get hn).dir hk
 cases he : n.eb with
 | none => exact absurd he this
 | some e => exact ⟨e, rfl⟩
theorem rdN {σ : H} {bt : Nat} {T : Tb} (hT : TAt σ bt T) {i : Int} {n : Nd} (hn : T.get i = some n) {F : Option Addr -> H -> Prop} (h : F (some ⟨n.blk, 0, none⟩) σ) : rdT (rdM (.int .i64) (.pointer none) false (some T.mb) (.int .i64 i)) kP F σ := by
 refine rd_P (x := some ⟨n.blk, 0, none⟩) ?_ h
 have := rdM_at (kk := kkI) hT.nodes (.pointer none) false i
 unfold Tb.get at hn
 rw [hn] at this
 exact this
theorem s_Make (hI : IByte) (hC : CAny) {σ : H} {bt : Nat} {A : AT} {B : Nat -> Prop} (hA : TabAt σ bt A B) (dir : Int) (name : ByteArray) (kind mode : Int) (data : ByteArray) (hL : A.get (wr (A.last + 1)) = none) {K : KH}
 (hK : ∀ σ' B', TabAt σ' bt (AT.makeR A dir name kind mode data).2.2 B' -> Sep σ B σ' B' -> K (.tuple ⟨[.int .i64 (AT.makeR A dir name kind mode data).1, .int .i64 (AT.makeR A dir name kind mode data).2.1]⟩) σ') :
 callW Tryz.prog 96 [.pointer (some ⟨bt, 0, none⟩), .int .i64 dir, .string name, .int .i64 kind, .int .i64 mode, .string data] K σ := by
 obtain ⟨T, hT, hO, rfl, hB⟩ := hA
 have hc0 := hT.cells
 refine c96 _ _ _ _ _ _ ?_
 unfold g96
 refine al_i ?_; intro b7 σ1 g1 e1 n1
 refine al_i ?_; intro b8 σ2 g2 e2 n2
 refine al_i ?_; intro b9 σ3 g3 e3 n3
 refine al_i ?_; intro b10 σ4 g4 e4 n4
 (repeat (first|refine ptr_i ?_|refine z2 ?_|(refine al_i ?_;intro _ _ _ _ _)|refine z4 ?_|refine z5 ?_|(refine z6 ?_;intro _ _)|refine app_P ?_|refine app_I ?_|refine app_S ?_|refine app_B ?_|refine app_M ?_|refine app_L ?_|refine app_U ?_|refine app_R ?_|(refine app_of rfl ?_;try dsimp only)))
 refine call_i (s_dir _ _ ?_)
 intro c1 c2 σ5 g5 f1 f2
 refine app_R ?_
 (repeat (first|refine ptr_i ?_|refine z2 ?_|(refine al_i ?_;intro _ _ _ _ _)|refine z4 ?_|refine z5 ?_|(refine z6 ?_;intro _ _)|refine app_P ?_|refine app_I ?_|refine app_S ?_|refine app_B ?_|refine app_M ?_|refine app_L ?_|refine app_U ?_|refine app_R ?_|(refine app_of rfl ?_;try dsimp only)))
 refine call_i (s_named _ ?_)
 intro c3 σ6 g6 f3
 refine app_R ?_
 (repeat (first|refine ptr_i ?_|refine z2 ?_|(refine al_i ?_;intro _ _ _ _ _)|refine z4 ?_|refine z5 ?_|(refine z6 ?_;intro _ _)|refine app_P ?_|refine app_I ?_|refine app_S ?_|refine app_B ?_|refine app_M ?_|refine app_L ?_|refine app_U ?_|refine app_R ?_|(refine app_of rfl ?_;try dsimp only)))
 refine call_i (s_free _ _ _ ?_)
 intro c4 c5 c6 σ7 g7 f4 f5 f6
 refine app_R ?_
 (repeat (first|refine ptr_i ?_|refine z2 ?_|(refine al_i ?_;intro _ _ _ _ _)|refine z4 ?_|refine z5 ?_|(refine z6 ?_;intro _ _)|refine app_P ?_|refine app_I ?_|refine app_S ?_|refine app_B ?_|refine app_M ?_|refine app_L ?_|refine app_U ?_|refine app_R ?_|(refine app_of rfl ?_;try dsimp only)))
 refine one_f (one_f (one_f ?_))
 refine al_i ?_; intro b17 σ8 g8 e8 n8
 have hgr : Lng σ σ8 := ⟨by repeat (first | exact Gr.refl _ | assumption | refine Gr.trans ?_ ‹_› | refine Gr.putF ?_ ‹_› (none_of ?_ ‹_›))⟩
 have hT8 := hT.gr hgr.gr
 refine call_i (s_first (es := [0, T.dirE dir, namedE name, likeE kind mode data, if (T.find dir name).isSome then 6 else 0, T.roomE 1 data.size]) e8 ?_ (by simp) (app_I ?_))
 ·refine ⟨pu_of go_there fun K hk => s_there _ hk, fun _ => ⟨pu_of go_dir1 fun K hk => s_dir1 hT8 (by exact gA) (by exact gA) hk, fun _ => ⟨pu_of go_named1 fun K hk => s_named1 hC (by exact gA) hk, fun _ => ⟨pu_of go_Make1 fun K hk => s_Make1 hI (by exact gA) (by exact gA) (by exact gA) hk, fun _ => ⟨pu_of go_free1 fun K hk => s_free1 hT8 (by exact gA) (by exact gA) (by exact gA) hk, fun _ => ⟨pu_of go_Make2 fun K hk => s_Make2 hT8 (by exact gA) (by exact gA) hk, fun _ => trivial⟩⟩⟩⟩⟩⟩
 have hE : firstE [0, T.dirE dir, namedE name, likeE kind mode data, if (T.find dir name).isSome then 6 else 0, T.roomE 1 data.size] = T.abs.makeE dir name kind mode data := by
  unfold AT.makeE; rw [abs_dirE, abs_find, abs_roomE]
 rw [hE]
 have hK' := hK; clear hK
 unfold AT.makeR at hK'
 by_cases h0 : T.abs.makeE dir name kind mode data = 0
 case neg =>
  rw [if_neg h0] at hK'
  refine br_t (by simpa using h0) ?_
  exact hK' σ8 B ⟨T, hT8, hO, rfl, hB⟩ (Sep.gr hgr.gr)
 rw [if_pos h0] at hK'
 refine br_f (by simpa using h0) ?_
 rw [<- hE] at h0
 have hd := (firstE_z (firstE_z h0).2).1
 obtain ⟨nd, hnd, hkd⟩ := dirE_z hd
 have hc := hT8.cells
 unfold Tb.cells at hc
 have hb7 : ¬ T.own bt b7 := by rw [hB]; intro h; obtain ⟨o, ho⟩ := hT.own_some ((hB _).2 h); exact ne_fresh ho n1 rfl
 (repeat (first|refine ptr_i ?_|refine z2 ?_|(refine al_i ?_;intro _ _ _ _ _)|refine z4 ?_|refine z5 ?_|(refine z6 ?_;intro _ _)|refine app_P ?_|refine app_I ?_|refine app_S ?_|refine app_B ?_|refine app_M ?_|refine app_L ?_|refine app_U ?_|refine app_R ?_|(refine app_of rfl ?_;try dsimp only)))
 rename_i σ9 p9 b28 σ10 g10 e10 n10
 let T1 : Tb := { T with last := wr (T.last + 1) }
 have hT9 : TAt σ9 bt T1 := hT8.putT p9 rfl rfl
 have hT10 := hT9.gr g10
 have hO1 : Own T1 := hO.same rfl rfl
 have o1 : ∀ b, T1.own bt b ↔ B b := fun b => (own_same rfl rfl b).trans (hB b)
 have s10 : Sep σ B σ10 B := by
  intro b o hb hn
  refine ⟨g10.get (p9.get ?_ (hgr.gr.get hb)), hn⟩
  intro e; subst e; exact hn ((hB _).1 (.inl rfl))
 have k7 : σ10 b7 = some (.cells ⟨[.pointer (some ⟨bt, 0, none⟩)]⟩ 108 (0, 0)) := by exact gA
 have k8 : σ10 b8 = some (.cells ⟨[.int .i64 kind]⟩ 3 (0, 0)) := by exact gA
 have k10 : σ10 b10 = some (.cells ⟨[.string data]⟩ 9 (0, 0)) := by exact gA
 have nb : ∀ b, T1.own bt b -> ∃ o, σ b = some o := by
  intro b hb; exact hT.own_some ((own_same rfl rfl b).1 hb)
 have q7 : b7 ≠ b28 := ne_fr n10 (by repeat (first | exact io ‹_› | exact mS ‹_› | refine gS ‹_› ?_ | refine pS ‹_› ?_))
 have q10 : b10 ≠ b28 := ne_fr n10 (by repeat (first | exact io ‹_› | exact mS ‹_› | refine gS ‹_› ?_ | refine pS ‹_› ?_))
 have f28 : σ b28 = none := none_of hgr.gr (by
  cases hx : σ8 b28 with
  | none => rfl
  | some o' =>
   exfalso
   have : b28 ≠ bt := ne_fr n10 (by repeat (first | exact io ‹_› | exact mS ‹_› | refine gS ‹_› ?_ | refine pS ‹_› ?_)) |>.symm
   exact ne_fresh (p9.get this hx) n10 rfl)
 have hfr : ¬ T1.own bt b28 := by
  intro h; obtain ⟨o, ho⟩ := nb _ h
  rw [f28] at ho; cases ho
 refine j_i (fun j => ∀ σ' eb, NdAt σ' ⟨b28, kind, mode, data, 1, if kind == 2 then dir else 0, eb, []⟩ -> TAt σ' bt T1 -> (∀ e, eb = some e -> σ e = none) -> σ' b7 = some (.cells ⟨[.pointer (some ⟨bt, 0, none⟩)]⟩ 108 (0, 0)) -> σ' b10 = some (.cells ⟨[.string data]⟩ 9 (0, 0)) -> Sep σ B σ' B -> j dir name (some ⟨b7, 0, none⟩) (some ⟨b10, 0, none⟩) (some ⟨b28, 0, none⟩) σ') ?_ ?_
 ·intro σ' eb hN hT' heb h7 h10 hs
  have hcT := hT'.cells
  unfold Tb.cells at hcT
  have hm := hT'.nodes
  have e28 := hN.cells
  have nm : bt ≠ T1.mb := hT'.bt_mb
  have n7m : b7 ≠ T1.mb := ne_cm h7 hm
  have n10m : b10 ≠ T1.mb := ne_cm h10 hm
  have n7t : b7 ≠ bt := by first | assumption | exact Ne.symm ‹_› | exact ne_fr ‹_› (by repeat (first | exact io ‹_› | exact mS ‹_› | refine gS ‹_› ?_ | refine pS ‹_› ?_)) | exact Ne.symm (ne_fr ‹_› (by repeat (first | exact io ‹_› | exact mS ‹_› | refine gS ‹_› ?_ | refine pS ‹_› ?_)))
  have n10t : b10 ≠ bt := by first | assumption | exact Ne.symm ‹_› | exact ne_fr ‹_› (by repeat (first | exact io ‹_› | exact mS ‹_› | refine gS ‹_› ?_ | refine pS ‹_› ?_)) | exact Ne.symm (ne_fr ‹_› (by repeat (first | exact io ‹_› | exact mS ‹_› | refine gS ‹_› ?_ | refine pS ‹_› ?_)))
  let nn : Nd := ⟨b28, kind, mode, data, 1, if kind == 2 then dir else 0, eb, []⟩
  have hfe : ∀ e, eb = some e -> ¬ T1.own bt e := by
   intro e he h; obtain ⟨o, ho⟩ := nb _ h; rw [heb e he] at ho; cases ho
  (repeat (first|refine ptr_i ?_|refine z2 ?_|(refine al_i ?_;intro _ _ _ _ _)|refine z4 ?_|refine z5 ?_|(refine z6 ?_;intro _ _)|refine app_P ?_|refine app_I ?_|refine app_S ?_|refine app_B ?_|refine app_M ?_|refine app_L ?_|refine app_U ?_|refine app_R ?_|(refine app_of rfl ?_;try dsimp only)))
  refine mu_i (kk := kkI) (f := Nd.ptr) und_MIN und_int hm (wr (T.last + 1)) nn ?_
  intro o11 σ11 p11 m11
  have hT11 : TAt σ11 bt (T1.set (wr (T.last + 1)) nn) := hT'.putA hO1 hN p11 m11 (by intro h; exact hfe _ h (.inr (.inl rfl)))
  have hO11 : Own (T1.set (wr (T.last + 1)) nn) := hO1.add hfr hfe
  (repeat (first|refine ptr_i ?_|refine z2 ?_|(refine al_i ?_;intro _ _ _ _ _)|refine z4 ?_|refine z5 ?_|(refine z6 ?_;intro _ _)|refine app_P ?_|refine app_I ?_|refine app_S ?_|refine app_B ?_|refine app_M ?_|refine app_L ?_|refine app_U ?_|refine app_R ?_|(refine app_of rfl ?_;try dsimp only)))
  have hL' : T1.get (wr (T.last + 1)) = none := by
   rw [abs_get] at hL
   exact Option.map_eq_none_iff.1 hL
  have hdl : dir ≠ wr (T.last + 1) := by
   intro e; rw [<- e] at hL'; have : T1.get dir = T.get dir := rfl; rw [this, hnd] at hL'; cases hL'
  have hd11 : (T1.set (wr (T.last + 1)) nn).get dir = some nd := by rw [get_set, if_neg hdl]; exact hnd
  refine rdN hT11 hd11 ?_
  obtain ⟨ed, hed⟩ := hT11.dir hd11 hkd
  have cD := (hT11.get hd11).cells
  unfold Nd.cells at cD
  rw [hed] at cD
  (repeat (first|refine ptr_i ?_|refine z2 ?_|(refine al_i ?_;intro _ _ _ _ _)|refine z4 ?_|refine z5 ?_|(refine z6 ?_;intro _ _)|refine app_P ?_|refine app_I ?_|refine app_S ?_|refine app_B ?_|refine app_M ?_|refine app_L ?_|refine app_U ?_|refine app_R ?_|(refine app_of rfl ?_;try dsimp only)))
  have mE := (hT11.get hd11).ents ed hed
  refine mu_i (kk := kkS) (f := valI) und_MSI und_string mE name (wr (T.last + 1)) ?_
  intro o12 σ12 p12 m12
  have hT12 := hT11.putE hO11 hd11 hed p12 m12
  have hO12 : Own ((T1.set (wr (T.last + 1)) nn).set dir { nd with ents := HL.up name (wr (T.last + 1)) nd.ents }) := hO11.set hd11 rfl rfl
  have n7e : b7 ≠ ed := ne_cm (p11.get n7m h7) mE
  have n10e : b10 ≠ ed := ne_cm (p11.get n10m h10) mE
  have nte : bt ≠ ed := ne_cm hT11.cells mE
  (repeat (first|refine ptr_i ?_|refine z2 ?_|(refine al_i ?_;intro _ _ _ _ _)|refine z4 ?_|refine z5 ?_|(refine z6 ?_;intro _ _)|refine app_P ?_|refine app_I ?_|refine app_S ?_|refine app_B ?_|refine app_M ?_|refine app_L ?_|refine app_U ?_|refine app_R ?_|(refine app_of rfl ?_;try dsimp only)))
  rename_i σ13 p13 σ14 p14
  have hT13 := hT12.putT (T' := { ((T1.set (wr (T.last + 1)) nn).set dir { nd with ents := HL.up name (wr (T.last + 1)) nd.ents }) with ui := wr (T.ui + 1) }) p13 rfl rfl
  have hT14 := hT13.putT (T' := { ((T1.set (wr (T.last + 1)) nn).set dir { nd with ents := HL.up name (wr (T.last + 1)) nd.ents }) with ui := wr (T.ui + 1), ub := wr (T.ub + data.size) }) p14 rfl rfl
  refine hK' σ14 (Tb.own bt { ((T1.set (wr (T.last + 1)) nn).set dir { nd with ents := HL.up name (wr (T.last + 1)) nd.ents }) with ui := wr (T.ui + 1), ub := wr (T.ub + data.size) }) ⟨_, hT14, hO12.same rfl rfl, ?_, fun _ => Iff.rfl⟩ ?_
  ·have hA1 : (T1.set (wr (T.last + 1)) nn).abs = { T.abs with last := wr (T.abs.last + 1), nodes := HL.up (wr (T.abs.last + 1)) ⟨kind, mode, data, 1, if kind == 2 then dir else 0, []⟩ T.abs.nodes } := abs_set ..
   have hg1 : (T1.set (wr (T.last + 1)) nn).abs.get dir = some nd.abs := by rw [abs_get, hd11]; rfl
   unfold AT.made AT.ent
   simp only
   rw [<- hA1, hg1]
   simp only
   have h5 := abs_set (T1.set (wr (T.last + 1)) nn) dir { nd with ents := HL.up name (wr (T.last + 1)) nd.ents }
   show ({ ((T1.set (wr (T.last + 1)) nn).set dir { nd with ents := HL.up name (wr (T.last + 1)) nd.ents }).abs with ui := wr (T.ui + 1), ub := wr (T.ub + data.size) } : AT) = _
   rw [h5]; rfl
  ·intro b o hb hn
   obtain ⟨hb', _⟩ := hs b o hb hn
   have q1 : b ≠ bt := by intro e; subst e; exact hn ((o1 _).1 (.inl rfl))
   have q2 : b ≠ T1.mb := by intro e; subst e; exact hn ((o1 _).1 (.inr (.inl rfl)))
   have q3 : b ≠ ed := by intro e; subst e; exact hn ((o1 _).1 (.inr (.inr ⟨dir, nd, hnd, .inr hed⟩)))
   refine ⟨p14.get q1 (p13.get q1 (p12.get q3 (p11.get q2 hb'))), ?_⟩
   intro hown
   have h1 := (own_same (T := (T1.set (wr (T.last + 1)) nn).set dir { nd with ents := HL.up name (wr (T.last + 1)) nd.ents }) rfl rfl b).1 hown
   have h2 := (own_set (n' := { nd with ents := HL.up name (wr (T.last + 1)) nd.ents }) hd11 rfl rfl b).1 h1
   rcases own_add b h2 with h3 | h3 | h3
   ·exact hn ((o1 _).1 h3)
   ·exact ne_fresh hb f28 h3
   ·exact ne_fresh hb (heb b h3) rfl
 ·intro j hj
  (repeat (first|refine ptr_i ?_|refine z2 ?_|(refine al_i ?_;intro _ _ _ _ _)|refine z4 ?_|refine z5 ?_|(refine z6 ?_;intro _ _)|refine app_P ?_|refine app_I ?_|refine app_S ?_|refine app_B ?_|refine app_M ?_|refine app_L ?_|refine app_U ?_|refine app_R ?_|(refine app_of rfl ?_;try dsimp only)))
  cases hk2 : (kind == 2) with
  | false =>
   refine br_f rfl ?_
   refine hj σ10 none ⟨by rw [hk2]; exact e10, fun _ h => (by cases h), fun _ => rfl, fun h => ?_⟩ hT10 (fun _ h => (by cases h)) k7 k10 s10
   exfalso; simp at hk2; exact hk2 h
  | true =>
   refine br_t rfl ?_
   (repeat (first|refine ptr_i ?_|refine z2 ?_|(refine al_i ?_;intro _ _ _ _ _)|refine z4 ?_|refine z5 ?_|(refine z6 ?_;intro _ _)|refine app_P ?_|refine app_I ?_|refine app_S ?_|refine app_B ?_|refine app_M ?_|refine app_L ?_|refine app_U ?_|refine app_R ?_|(refine app_of rfl ?_;try dsimp only)))
   rename_i b89 σ11 g11 e11 n11 σ12 p12 σ13 p13
   have n89 : ∀ b o, σ10 b = some o -> b ≠ b89 := fun b o hb => ne_fresh hb n11
   have hf89 : ¬ T1.own bt b89 := by
    intro h; obtain ⟨o, ho⟩ := hT10.own_some h; exact n89 _ _ ho rfl
   have f89 : σ b89 = none := by
    cases hx : σ b89 with
    | none => rfl
    | some o => exfalso; exact hf89 ((o1 _).2 (Classical.byContradiction fun h => n89 _ _ (s10 _ _ hx h).1 rfl))
   refine hj σ13 (some b89) ⟨by rw [hk2]; exact p13.same, fun e he => ?_, fun h => (by cases h), fun _ h => (by cases h)⟩ (((hT10.gr g11).put p12 hfr).put p13 hfr) (fun e he => by cases he; exact f89) (by exact gA) (by exact gA) ?_
   ·cases he
    refine MapAt.new ?_
    have : b89 ≠ b28 := (n89 _ _ e10).symm
    exact p13.get this (p12.get this e11)
   ·intro b o hb hn
    have q : b ≠ b28 := ne_fresh hb f28
    exact ⟨p13.get q (p12.get q (g11.get (s10 b o hb hn).1)), hn⟩
theorem fileE_z {T : Tb} {d : Int} (h : T.fileE d = 0) : ∃ n, T.get d = some n /\ n.kind = 1 := by
 unfold Tb.fileE at h
 cases hn : T.get d with
 | none => rw [hn] at h; cases h
 | some n =>
  rw [hn] at h
  refine ⟨n, rfl, ?_⟩
  cases hk : (n.kind == 2) with
  | true => simp [hk] at h
  | false =>
   simp only [hk] at h
   cases hk1 : (n.kind == 1) with
   | true => simpa using hk1
   | false => simp [hk1] at h
theorem TAt.ne {σ : H} {bt : Nat} {T : Tb} (_hT : TAt σ bt T) {b : Nat} (hb : ¬ T.own bt b) : b ≠ bt /\ b ≠ T.mb /\ (∀ i n, T.get i = some n -> b ≠ n.blk /\ n.eb ≠ some b) :=
 ⟨fun e => hb (.inl e), fun e => hb (.inr (.inl e)), fun i n hn => ⟨fun e => hb (.inr (.inr ⟨i, n, hn, .inl e⟩)), fun e => hb (.inr (.inr ⟨i, n, hn, .inr e⟩))⟩⟩
theorem s_WriteT1 {σ : H} {bt : Nat} {T : Tb} (hT : TAt σ bt T) {b1 b2 b3 : Nat} {data : ByteArray} {ino : Int} {t1 t2 t3 : TypeId} (h1 : σ b1 = some (.cells ⟨[.pointer (some ⟨bt, 0, none⟩)]⟩ t1 (0, 0))) (h2 : σ b2 = some (.cells ⟨[.string data]⟩ t2 (0, 0))) (h3 : σ b3 = some (.cells ⟨[.int .i64 ino]⟩ t3 (0, 0))) {n : Nd} (hn : T.get ino = some n) {K : KH}
 (hK : K (.int .i64 (T.roomE 0 (wr ((data.size : Int) - n.data.size)))) σ) : callW Tryz.prog 171 [.pointer (some ⟨b1, 0, none⟩), .pointer (some ⟨b2, 0, none⟩), .pointer (some ⟨b3, 0, none⟩)] K σ := by
 refine pure_i _ hK (c171 _ _ _ ?_)
 unfold g171
 have hc := hT.cells
 unfold Tb.cells at hc
 (repeat (first|refine ptr_i ?_|refine z2 ?_|(refine al_i ?_;intro _ _ _ _ _)|refine z4 ?_|refine z5 ?_|(refine z6 ?_;intro _ _)|refine app_P ?_|refine app_I ?_|refine app_S ?_|refine app_B ?_|refine app_M ?_|refine app_L ?_|refine app_U ?_|refine app_R ?_|(refine app_of rfl ?_;try dsimp only)))
 refine rdN hT hn ?_
 have hN := (hT.get hn).cells
 unfold Nd.cells at hN
 (repeat (first|refine ptr_i ?_|refine z2 ?_|(refine al_i ?_;intro _ _ _ _ _)|refine z4 ?_|refine z5 ?_|(refine z6 ?_;intro _ _)|refine app_P ?_|refine app_I ?_|refine app_S ?_|refine app_B ?_|refine app_M ?_|refine app_L ?_|refine app_U ?_|refine app_R ?_|(refine app_of rfl ?_;try dsimp only)))
 refine call_i (s_room _ _ _ ?_)
 intro c1 c2 c3 σ' hg e1 e2 e3
 refine app_R ?_
 refine cval_i go_room1 ?_
 exact s_room1 (hT.gr hg) e1 e2 e3 (app_I ⟨rfl, hg⟩)
theorem s_WriteT {σ : H} {bt : Nat} {A : AT} {B : Nat -> Prop} (hA : TabAt σ bt A B) (ino : Int) (data : ByteArray) {K : KH}
 (hK : ∀ σ' B', TabAt σ' bt (AT.writeR A ino data).2 B' -> Sep σ B σ' B' -> K (.int .i64 (AT.writeR A ino data).1) σ') :
 callW Tryz.prog 100 [.pointer (some ⟨bt, 0, none⟩), .int .i64 ino, .string data] K σ := by
 obtain ⟨T, hT, hO, rfl, hB⟩ := hA
 have hc0 := hT.cells
 refine c100 _ _ _ ?_
 unfold g100
 refine al_i ?_; intro b4 σ1 g1 e1 n1
 refine al_i ?_; intro b5 σ2 g2 e2 n2
 refine al_i ?_; intro b6 σ3 g3 e3 n3
 (repeat (first|refine ptr_i ?_|refine z2 ?_|(refine al_i ?_;intro _ _ _ _ _)|refine z4 ?_|refine z5 ?_|(refine z6 ?_;intro _ _)|refine app_P ?_|refine app_I ?_|refine app_S ?_|refine app_B ?_|refine app_M ?_|refine app_L ?_|refine app_U ?_|refine app_R ?_|(refine app_of rfl ?_;try dsimp only)))
 refine call_i (s_file _ _ ?_)
 intro c7 c8 σ6' g6' f7 f8
 refine app_R ?_
 (repeat (first|refine ptr_i ?_|refine z2 ?_|(refine al_i ?_;intro _ _ _ _ _)|refine z4 ?_|refine z5 ?_|(refine z6 ?_;intro _ _)|refine app_P ?_|refine app_I ?_|refine app_S ?_|refine app_B ?_|refine app_M ?_|refine app_L ?_|refine app_U ?_|refine app_R ?_|(refine app_of rfl ?_;try dsimp only)))
 refine one_f ?_
 refine al_i ?_; intro b17 σ8 g8 e8 n8
 have hgr : Lng σ σ8 := ⟨by repeat (first | exact Gr.refl _ | assumption | refine Gr.trans ?_ ‹_› | refine Gr.putF ?_ ‹_› (none_of ?_ ‹_›))⟩
 have hT8 := hT.gr hgr.gr
 refine call_i (s_first (es := [0, T.fileE ino, T.roomE 0 (wr ((data.size : Int) - ((T.abs.get ino).map (·.data.size)).getD 0))]) e8 ?_ (by simp) (app_I ?_))
 ·refine ⟨pu_of go_there fun K hk => s_there _ hk, fun _ => ⟨pu_of go_file1 fun K hk => s_file1 hT8 (by exact gA) (by exact gA) hk, fun hz => ⟨pu_of go_WriteT1 fun K hk => ?_, fun _ => trivial⟩⟩⟩
  obtain ⟨nf, hnf, hkf⟩ := fileE_z hz
  refine s_WriteT1 hT8 (b1 := b4) (b2 := b6) (b3 := b5) (by exact gA) (by exact gA) (by exact gA) hnf ?_
  rw [abs_get, hnf] at hk
  exact hk
 have hE : firstE [0, T.fileE ino, T.roomE 0 (wr ((data.size : Int) - ((T.abs.get ino).map (·.data.size)).getD 0))] = T.abs.writeE ino data := by
  unfold AT.writeE; rw [abs_fileE, abs_roomE]
 rw [hE]
 unfold AT.writeR at hK
 by_cases h0 : T.abs.writeE ino data = 0
 case neg =>
  rw [if_neg h0] at hK
  refine br_t (by simpa using h0) ?_
  exact hK σ8 B ⟨T, hT8, hO, rfl, hB⟩ (Sep.gr hgr.gr)
 rw [if_pos h0] at hK
 refine br_f (by simpa using h0) ?_
 rw [<- hE] at h0
 obtain ⟨nf, hnf, hkf⟩ := fileE_z (firstE_z (firstE_z h0).2).1
 have hc := hT8.cells
 unfold Tb.cells at hc
 (repeat (first|refine ptr_i ?_|refine z2 ?_|(refine al_i ?_;intro _ _ _ _ _)|refine z4 ?_|refine z5 ?_|(refine z6 ?_;intro _ _)|refine app_P ?_|refine app_I ?_|refine app_S ?_|refine app_B ?_|refine app_M ?_|refine app_L ?_|refine app_U ?_|refine app_R ?_|(refine app_of rfl ?_;try dsimp only)))
 refine rdN hT8 hnf ?_
 have cF := (hT8.get hnf).cells
 unfold Nd.cells at cF
 have q0 : nf.blk ≠ bt := hT8.blk_bt hnf
 have q6 : b6 ≠ nf.blk := by
  intro e
  have h6 : σ8 b6 = some (.cells ⟨[.string data]⟩ 9 (0, 0)) := by exact gA
  rw [e, cF] at h6; simp at h6
 (repeat (first|refine ptr_i ?_|refine z2 ?_|(refine al_i ?_;intro _ _ _ _ _)|refine z4 ?_|refine z5 ?_|(refine z6 ?_;intro _ _)|refine app_P ?_|refine app_I ?_|refine app_S ?_|refine app_B ?_|refine app_M ?_|refine app_L ?_|refine app_U ?_|refine app_R ?_|(refine app_of rfl ?_;try dsimp only)))
 rename_i σ13 p13 σ14 p14
 have hT13 := hT8.putT (T' := { T with ub := wr (T.ub + wr ((data.size : Int) - nf.data.size)) }) p13 rfl rfl
 have hO13 : Own { T with ub := wr (T.ub + wr ((data.size : Int) - nf.data.size)) } := hO.same rfl rfl
 have hT14 := hT13.putN hO13 (n' := { nf with data := data }) (i := ino) hnf p14 rfl rfl rfl rfl
 have hO14 := hO13.set (n' := { nf with data := data }) (i := ino) hnf rfl rfl
 refine hK σ14 B ⟨_, hT14, hO14, ?_, fun b => (own_set (T := { T with ub := wr (T.ub + wr ((data.size : Int) - nf.data.size)) }) (i := ino) (n' := { nf with data := data }) hnf rfl rfl b).trans ((own_same rfl rfl b).trans (hB b))⟩ ?_
 ·rw [abs_set]
  unfold AT.written
  rw [abs_get, hnf]
  rfl
 ·intro b o hb hn
  have hn' : ¬ T.own bt b := fun h => hn ((hB b).1 h)
  exact ⟨p14.get ((hT.ne hn').2.2 ino nf hnf).1 (p13.get (hT.ne hn').1 (hgr.gr.get hb)), hn⟩
theorem s_NewT (qi qb : Int) {σ : H} {K : KH} (hN : newOk qi qb = false -> K (.pointer none) σ)
 (hK : newOk qi qb = true -> ∀ bt σ' B', σ bt = none -> TabAt σ' bt (newT qi qb) B' -> Gr σ σ' -> (∀ b, B' b -> σ b = none) -> K (.pointer (some ⟨bt, 0, none⟩)) σ') :
 callW Tryz.prog 82 [.agg ⟨[.int .i64 qi, .int .i64 qb]⟩] K σ := by
 refine callW.drop (K' := fun v σ' => (newOk qi qb = false /\ v = .pointer none /\ Gr σ σ') \/ (newOk qi qb = true /\ K v σ')) ?_ ?_
 case refine_2 =>
  rintro v σ' (⟨h1, h2, h3⟩ | ⟨h1, h2⟩)
  ·exact ⟨σ, h3, h2 ▸ hN h1⟩
  ·exact ⟨σ', Gr.refl _, h2⟩
 refine c82 _ _ ?_
 unfold g82
 refine al_i ?_; intro b3 σ1 g1 e1 n1
 refine j_i (fun j => ∀ x : Bool, x = !newOk qi qb -> j (some ⟨b3, 0, none⟩) x σ1) ?_ ?_
 case refine_2 =>
  intro j hj
  (repeat (first|refine ptr_i ?_|refine z2 ?_|(refine al_i ?_;intro _ _ _ _ _)|refine z4 ?_|refine z5 ?_|(refine z6 ?_;intro _ _)|refine app_P ?_|refine app_I ?_|refine app_S ?_|refine app_B ?_|refine app_M ?_|refine app_L ?_|refine app_U ?_|refine app_R ?_|(refine app_of rfl ?_;try dsimp only)))
  by_cases h1 : qi < 1
  ·exact br_t (by simpa using h1) (hj _ (by simp [newOk, h1]))
  refine br_f (by simpa using h1) ?_
  (repeat (first|refine ptr_i ?_|refine z2 ?_|(refine al_i ?_;intro _ _ _ _ _)|refine z4 ?_|refine z5 ?_|(refine z6 ?_;intro _ _)|refine app_P ?_|refine app_I ?_|refine app_S ?_|refine app_B ?_|refine app_M ?_|refine app_L ?_|refine app_U ?_|refine app_R ?_|(refine app_of rfl ?_;try dsimp only)))
  by_cases h2 : qi > 1048576
  ·exact br_t (by simpa using h2) (hj _ (by simp [newOk, h2]))
  refine br_f (by simpa using h2) ?_
  (repeat (first|refine ptr_i ?_|refine z2 ?_|(refine al_i ?_;intro _ _ _ _ _)|refine z4 ?_|refine z5 ?_|(refine z6 ?_;intro _ _)|refine app_P ?_|refine app_I ?_|refine app_S ?_|refine app_B ?_|refine app_M ?_|refine app_L ?_|refine app_U ?_|refine app_R ?_|(refine app_of rfl ?_;try dsimp only)))
  by_cases h3 : qb < 0
  ·exact br_t (by simpa using h3) (hj _ (by simp [newOk, h3]))
  refine br_f (by simpa using h3) ?_
  (repeat (first|refine ptr_i ?_|refine z2 ?_|(refine al_i ?_;intro _ _ _ _ _)|refine z4 ?_|refine z5 ?_|(refine z6 ?_;intro _ _)|refine app_P ?_|refine app_I ?_|refine app_S ?_|refine app_B ?_|refine app_M ?_|refine app_L ?_|refine app_U ?_|refine app_R ?_|(refine app_of rfl ?_;try dsimp only)))
  exact hj _ (by simp [newOk, h1, h2, h3])
 intro x hx
 cases hx2 : newOk qi qb with
 | false =>
  rw [hx2] at hx; subst hx
  exact br_t rfl (.inl ⟨rfl, rfl, g1⟩)
 | true =>
  rw [hx2] at hx; subst hx
  refine br_f rfl ?_
  refine al_i ?_; intro b7 σ2 g2 e2 n2
  refine al_i ?_; intro b8 σ3 g3 e3 n3
  (repeat (first|refine ptr_i ?_|refine z2 ?_|(refine al_i ?_;intro _ _ _ _ _)|refine z4 ?_|refine z5 ?_|(refine z6 ?_;intro _ _)|refine app_P ?_|refine app_I ?_|refine app_S ?_|refine app_B ?_|refine app_M ?_|refine app_L ?_|refine app_U ?_|refine app_R ?_|(refine app_of rfl ?_;try dsimp only)))
  rename_i b13 σ4 g4 e4 n4
  let nr : Nd := ⟨b8, 2, 493, ⟨⟨[]⟩⟩, 1, 1, some b7, []⟩
  have m0 : MapAt σ4 b13 (encL kkI Nd.ptr []) := MapAt.new e4
  refine mu_i (kk := kkI) (f := Nd.ptr) und_MIN und_int m0 1 nr ?_
  intro o5 σ5 p5 m5
  refine al_i ?_; intro b14 σ6 g6 e6 n6
  refine .inr ⟨rfl, ?_⟩
  let T : Tb := ⟨qi, qb, 1, 0, 1, b13, [(1, nr)]⟩
  have q8 : b8 ≠ b13 := ne_fresh e3 n4
  have q7 : b7 ≠ b13 := ne_fr n4 (by repeat (first | exact io ‹_› | exact mS ‹_› | refine gS ‹_› ?_ | refine pS ‹_› ?_))
  have hget : ∀ i n, T.get i = some n -> i = 1 /\ n = nr := by
   intro i n h
   unfold Tb.get at h
   simp only [T, lk] at h
   cases hi : (i == 1) with
   | true => rw [hi] at h; cases h; exact ⟨by simpa using hi, rfl⟩
   | false => rw [hi] at h; cases h
  have hT : TAt σ6 b14 T := by
   refine ⟨e6, m5.gr g6, ?_⟩
   intro i n h
   obtain ⟨_, rfl⟩ := hget i n h
   refine ⟨?_, ?_, fun h => (by cases h), fun _ h => (by cases h)⟩
   ·exact g6.get (p5.get q8 (g4.get e3))
   ·intro e he
    cases he
    exact MapAt.new (g6.get (p5.get q7 (g4.get (g3.get e2))))
  have hO : Own T := by
   refine ⟨?_, ?_, ?_⟩
   ·intro i j n m hi hj _; rw [(hget i n hi).1, (hget j m hj).1]
   ·intro i j n m e hi hj _ _; rw [(hget i n hi).1, (hget j m hj).1]
   ·intro i n hi; rw [(hget i n hi).2]; intro h; exact q7 (Option.some.inj h)
  have gg : Gr σ σ4 := by repeat (first | exact Gr.refl _ | assumption | refine Gr.trans ?_ ‹_› | refine Gr.putF ?_ ‹_› (none_of ?_ ‹_›))
  have g5 : Gr σ σ5 := gg.putF p5 (none_of (by repeat (first | exact Gr.refl _ | assumption | refine Gr.trans ?_ ‹_› | refine Gr.putF ?_ ‹_› (none_of ?_ ‹_›))) n4)
  refine hK hx2 b14 σ6 (T.own b14) (none_of g5 n6) ⟨T, hT, hO, rfl, fun _ => Iff.rfl⟩ (g5.trans g6) ?_
  rintro b (e | e | ⟨i, n, hn, hb⟩)
  ·subst e; exact none_of g5 n6
  ·subst e; exact none_of ((g1.trans g2).trans g3) n4
  ·obtain ⟨_, rfl⟩ := hget i n hn
   rcases hb with e | e
   ·subst e; exact none_of (g1.trans g2) n3
   ·cases e; exact none_of g1 n2
end Go.Proofs.YtbjbeajbckcecaaGreatDoor

set_option maxRecDepth 100000
namespace Go.Proofs.YtbjbeajbckcecaaGreatDoor
open Go Go.HL Go.Wk
theorem go_IBS : isGo Tryz.prog 143 = false := by kernel_rfl
theorem fn_IBS : (Tryz.prog.funcs[143]?).map (fun fn => ((fn.name == "runtime.NumGoroutine"), fn.body.isNone)) = some (false, true) := by kernel_rfl
theorem ex_IBS : (Tryz.prog.funcs[143]?).bind (fun fn => Extern.find fn) = some Extern.BytealgIndexByte.indexByte := by kernel_rfl
theorem en_IBS : (Tryz.prog.funcs[143]?).map (fun fn => (Extern.findNext fn).isNone) = some true := by kernel_rfl
theorem x_IBS (s : ByteArray) (c : Int) {σ : H} {F : Int -> H -> Prop} (hF : F (firstIdx s c.toNat.toUInt8) σ) : cvalT Tryz.prog (.func (.func 143) ⟨[]⟩ ⟨[]⟩) [.string s, .int .u8 c] kI F σ := by
 unfold cvalT callVW
 simp only [go_IBS]
 intro w hw
 have h1 := fn_IBS
 have h2 := ex_IBS
 have h3 := en_IBS
 cases hf : Tryz.prog.funcs[143]? with
 | none => rw [hf] at h1; cases h1
 | some fn =>
  rw [hf] at h1 h2 h3
  simp only [Option.map_some, Option.some.injEq, Prod.mk.injEq, Option.bind_some] at h1 h2 h3
  have hr := run_callFunc_indexByte hf h1.1 h1.2 (Option.isNone_iff_eq_none.1 h3) h2 #[.string s, .int .u8 c] w
  rw [run_indexByte_string] at hr
  have : (callS (.func (.func 143) ⟨[]⟩ ⟨[]⟩) [.string s, .int .u8 c]).run Tryz.prog w = .ok (.value (.int .i64 (firstIdx s c.toNat.toUInt8))) w := by
   refine Eq.trans ?_ hr
   simp [callS, Deferred.ofValue, invoke]
  rw [this]
  exact ⟨σ, Ext.refl hw, app_I hF⟩
theorem firstIdx_lt (s : ByteArray) (c : UInt8) : decide (firstIdx s c < 0) = !(s.toList.any fun x => x == c) := by
 have key : (∃ i, i < s.size /\ s[i]! = c) ↔ c ∈ s.toList := by
  rw [ByteArray.toList_eq]
  constructor
  ·rintro ⟨i, hi, he⟩
   rw [getElem!_pos s i hi] at he
   rw [<- he]
   exact Array.getElem_mem_toList (xs := s.data) hi
  ·intro h
   obtain ⟨i, hi, he⟩ := List.getElem_of_mem h
   have hi' : i < s.data.size := by simpa using hi
   refine ⟨i, hi', ?_⟩
   rw [getElem!_pos s i hi', <- he]
   simp [ByteArray.getElem_eq_getElem_data]
 unfold firstIdx
 cases hf : (List.range s.size).find? fun i => s[i]! == c with
 | some i =>
  have h1 := List.find?_some hf
  have h2 := List.mem_of_find?_eq_some hf
  have : c ∈ s.toList := key.1 ⟨i, by simpa using h2, by simpa using h1⟩
  have h3 : (s.toList.any fun x => x == c) = true := List.any_eq_true.2 ⟨c, this, by simp⟩
  rw [h3]
  simp
 | none =>
  have h1 := List.find?_eq_none.1 hf
  have h3 : (s.toList.any fun x => x == c) = false := by
   rw [List.any_eq_false]
   intro x hx hxc
   have : x = c := by simpa using hxc
   subst this
   obtain ⟨i, hi, he⟩ := key.2 hx
   exact h1 i (by simpa using hi) (by simpa using he)
  rw [h3]; rfl
theorem x_IndexByte (s : ByteArray) (c : Int) {σ : H} {K : KH} (hK : K (.int .i64 (firstIdx s c.toNat.toUInt8)) σ) : callW Tryz.prog 26 [.string s, .int .u8 c] K σ := by
 refine c26 _ _ ?_
 unfold g26
 refine call_i ?_
 refine c79 _ _ ?_
 unfold g79
 exact x_IBS s c (app_I hK)
theorem iByte : IByte := by
 intro s σ K hK
 refine x_IndexByte s 0 (hK _ ?_)
 have := firstIdx_lt s 0
 rw [ByteArray.toList_eq] at this
 exact this
end Go.Proofs.YtbjbeajbckcecaaGreatDoor

namespace Go.Wk
open Go Go.HL
def leB : List UInt8 -> List UInt8 -> Bool
 | [], _ => true
 | _ :: _, [] => false
 | a :: r, b :: s => match Nat.blt a.toNat b.toNat with
  | true => true
  | false => match Nat.blt b.toNat a.toNat with
   | true => false
   | false => leB r s
def insB (x : List UInt8) : List (List UInt8) -> List (List UInt8)
 | [] => [x]
 | y :: r => match leB x y with
  | true => x :: y :: r
  | false => y :: insB x r
def sortB : List (List UInt8) -> List (List UInt8)
 | [] => []
 | x :: r => insB x (sortB r)
def sortN (l : List ByteArray) : List ByteArray := (sortB (l.map fun s => s.data.toList)).map fun x => (⟨⟨x⟩⟩ : ByteArray)
theorem leB_iff : ∀ x y : List UInt8, leB x y = true ↔ x <= y := by
 intro x
 induction x with
 | nil => intro y; simp [leB]
 | cons a r ih =>
  intro y
  cases y with
  | nil => simp [leB]
  | cons b s =>
   rw [List.cons_le_cons_iff]
   unfold leB
   cases h1 : Nat.blt a.toNat b.toNat with
   | true =>
    have : a < b := UInt8.lt_iff_toNat_lt.2 (by simpa [Nat.blt_eq] using h1)
    simp [this]
   | false =>
    have h1' : ¬ a < b := by
     intro h; have : Nat.blt a.toNat b.toNat = true := by rw [Nat.blt_eq]; exact h
     rw [h1] at this; cases this
    cases h2 : Nat.blt b.toNat a.toNat with
    | true =>
     have : b < a := UInt8.lt_iff_toNat_lt.2 (by simpa [Nat.blt_eq] using h2)
     simp only [Bool.false_eq_true, false_iff, not_or, not_and]
     refine ⟨h1', fun e => ?_⟩
     subst e; exact absurd this (UInt8.lt_irrefl _)
    | false =>
     have h2' : ¬ b < a := by
      intro h; have : Nat.blt b.toNat a.toNat = true := by rw [Nat.blt_eq]; exact h
      rw [h2] at this; cases this
     have : a = b := UInt8.le_antisymm (UInt8.not_lt.1 h2') (UInt8.not_lt.1 h1')
     simp [this, ih]
theorem insB_perm (x : List UInt8) : ∀ l, (insB x l).Perm (x :: l) := by
 intro l
 induction l with
 | nil => exact List.Perm.refl _
 | cons y r ih =>
  unfold insB
  cases leB x y with
  | true => exact List.Perm.refl _
  | false => exact (ih.cons y).trans (List.Perm.swap x y r)
theorem sortB_perm : ∀ l, (sortB l).Perm l := by
 intro l
 induction l with
 | nil => exact List.Perm.refl _
 | cons x r ih => exact (insB_perm x _).trans (ih.cons x)
theorem insB_sorted {x : List UInt8} : ∀ {l : List (List UInt8)}, l.Pairwise (· <= ·) -> (insB x l).Pairwise (· <= ·) := by
 intro l
 induction l with
 | nil => intro _; simp [insB]
 | cons y r ih =>
  intro h
  obtain ⟨h1, h2⟩ := List.pairwise_cons.1 h
  unfold insB
  cases hb : leB x y with
  | true =>
   have hxy := (leB_iff x y).1 hb
   refine List.pairwise_cons.2 ⟨fun z hz => ?_, h⟩
   rcases List.mem_cons.1 hz with e | e
   ·rw [e]; exact hxy
   ·exact List.le_trans hxy (h1 z e)
  | false =>
   have hyx : y <= x := by
    have : ¬ x <= y := by rw [<- leB_iff, hb]; simp
    exact (List.le_total x y).resolve_left this
   refine List.pairwise_cons.2 ⟨fun z hz => ?_, ih h2⟩
   rcases List.mem_cons.1 ((insB_perm x r).mem_iff.1 hz) with e | e
   ·rw [e]; exact hyx
   ·exact h1 z e
theorem sortB_sorted : ∀ l, (sortB l).Pairwise (· <= ·) := by
 intro l
 induction l with
 | nil => exact List.Pairwise.nil
 | cons x r ih => exact insB_sorted ih
theorem sortB_merge (l : List (List UInt8)) : l.mergeSort (fun x y => decide (x <= y)) = sortB l := by
 have h1 := List.pairwise_mergeSort (le := fun x y : List UInt8 => decide (x <= y)) (by intro a b c h1 h2; simp only [decide_eq_true_eq] at *; exact List.le_trans h1 h2) (by intro a b; simp only [Bool.or_eq_true, decide_eq_true_eq]; exact List.le_total a b) l
 have h1' : (l.mergeSort (fun x y => decide (x <= y))).Pairwise (· <= ·) := h1.imp (by intro a b h; simpa using h)
 refine List.Perm.eq_of_pairwise (le := (· <= ·)) ?_ h1' (sortB_sorted l) ((List.mergeSort_perm l _).trans (sortB_perm l).symm)
 intro a b _ _ h1 h2; exact List.le_antisymm h1 h2
def AT.names (A : AT) (dir : Int) : List ByteArray := match A.get dir with
 | none => []
 | some n => sortN (keysL n.ents)
structure Pl where
 dir : Int
 name : ByteArray
 ino : Int
 there : Bool
def Pl.z : Pl := ⟨0, ⟨⟨[]⟩⟩, 0, false⟩
def splitL (c : UInt8) : List UInt8 -> List (List UInt8)
 | [] => [[]]
 | x :: r => match x == c with
  | true => [] :: splitL c r
  | false => match splitL c r with
   | [] => [[x]]
   | h :: t => (x :: h) :: t
def okPart (s : ByteArray) : Bool := !sEq s ⟨⟨[]⟩⟩ && !sEq s ⟨⟨[46]⟩⟩
def partsB (path : ByteArray) : List ByteArray := ((splitL 47 path.data.toList).map fun l => (⟨⟨l⟩⟩ : ByteArray)).filter okPart
def mayE (path : ByteArray) : Int := if sEq path ⟨⟨[]⟩⟩ then 5 else if path.size > 255 then 3 else if hasNul path then 2 else 0
def headIs (c : UInt8) (s : ByteArray) : Bool := match s.data.toList with
 | [] => false
 | x :: _ => x == c
def AT.data (A : AT) (i : Int) : ByteArray := ((A.get i).map (·.data)).getD ⟨⟨[]⟩⟩
def AT.steps (A : AT) (go : Int -> ByteArray -> Int -> Int × Pl × Int) (follow : Bool) : List ByteArray -> Pl -> Int -> Int × Pl × Int
 | [], p, h => (0, p, h)
 | name :: rest, p, h =>
  if p.there = false then (5, Pl.z, h)
  else if A.kind p.ino ≠ 2 then (8, Pl.z, h)
  else if sEq name ⟨⟨[46, 46]⟩⟩ = true then AT.steps A go follow rest ⟨A.upOf p.ino, ⟨⟨[]⟩⟩, A.upOf p.ino, true⟩ h
  else if name.size > 56 then (3, Pl.z, h)
  else
   let o := A.find p.ino name
   let q : Pl := ⟨p.ino, name, o.getD 0, o.isSome⟩
   if o.isSome = false \/ (rest.isEmpty && !follow) = true \/ A.kind q.ino ≠ 3 then AT.steps A go follow rest q h
   else if h - 1 < 0 then (9, Pl.z, h - 1)
   else
    let r := go q.dir (A.data q.ino) (h - 1)
    if r.1 ≠ 0 then (r.1, Pl.z, r.2.2) else AT.steps A go follow rest r.2.1 r.2.2
def AT.walk (A : AT) : Nat -> Int -> ByteArray -> Bool -> Int -> Int × Pl × Int
 | 0, _, _, _, h => (9, Pl.z, h)
 | f + 1, at_, path, follow, h =>
  if mayE path ≠ 0 then (mayE path, Pl.z, h)
  else
   let a := if headIs 47 path then 1 else at_
   A.steps (fun d s h' => AT.walk A f d s true h') follow (partsB path) ⟨a, ⟨⟨[]⟩⟩, a, true⟩ h
def AT.locate (A : AT) (cwd path : ByteArray) (follow : Bool) : Int × Pl :=
 if sEq path ⟨⟨[]⟩⟩ then (5, Pl.z)
 else if headIs 47 path then let r := A.walk 10 1 path follow 8; (r.1, r.2.1)
 else if headIs 47 cwd = false then (5, Pl.z)
 else
  let r := A.walk 10 1 cwd true 8
  if r.1 ≠ 0 then (r.1, Pl.z)
  else if r.2.1.there = false then (5, Pl.z)
  else if A.kind r.2.1.ino ≠ 2 then (8, Pl.z)
  else let r' := A.walk 10 r.2.1.ino path follow 8; (r'.1, r'.2.1)
structure IN where
 kind : Int
 mode : Int
 data : ByteArray
 links : Int
def IN.z : IN := ⟨0, 0, ⟨⟨[]⟩⟩, 0⟩
def AN.inode (n : AN) : IN := ⟨n.kind, n.mode, n.data, n.links⟩
def AT.ino (A : AT) (i : Int) : IN := ((A.get i).map AN.inode).getD IN.z
def AT.with_ (A : AT) (cwd path : ByteArray) (follow : Bool) : Int × Int × IN :=
 let r := A.locate cwd path follow
 if r.1 ≠ 0 then (r.1, 0, IN.z)
 else if r.2.there = false then (5, 0, IN.z)
 else match A.get r.2.ino with
  | none => (5, 0, IN.z)
  | some n => (0, r.2.ino, n.inode)
def AT.stat (A : AT) (cwd path : ByteArray) (follow : Bool) : Int × IN := let r := A.with_ cwd path follow; (r.1, r.2.2)
def AT.deep (A : AT) : Nat -> Int -> Option Int
 | 0, _ => none
 | f + 1, d => if d = 1 then some 1 else (AT.deep A f (A.upOf d)).map (· + 1)
def AT.writeF (A : AT) (cwd path data : ByteArray) (more : Bool) : Int × AT :=
 let r := A.locate cwd path true
 if r.1 ≠ 0 then (r.1, A)
 else if r.2.there = false then let m := A.makeR r.2.dir r.2.name 1 420 data; (m.2.1, m.2.2)
 else if A.kind r.2.ino = 2 then (7, A)
 else A.writeR r.2.ino (if more then A.data r.2.ino ++ data else data)
def AT.freshP (A : AT) (cwd path : ByteArray) : Int × Pl :=
 let r := A.locate cwd path false
 if r.1 ≠ 0 then (r.1, Pl.z) else if r.2.there = true then (6, Pl.z) else (0, r.2)
def AT.mkdirF (A : AT) (cwd path : ByteArray) : Int × AT :=
 let r := A.freshP cwd path
 if r.1 ≠ 0 then (r.1, A)
 else if (A.deep 13 r.2.dir).getD 0 >= 12 then (3, A)
 else let m := A.makeR r.2.dir r.2.name 2 493 ⟨⟨[]⟩⟩; (m.2.1, m.2.2)
def AT.listF (A : AT) (cwd path : ByteArray) : Int × List ByteArray :=
 let r := A.with_ cwd path true
 if r.1 ≠ 0 then (r.1, []) else if r.2.2.kind ≠ 2 then (8, []) else (0, A.names r.2.1)
def AT.levels (A : AT) : Nat -> Int -> Int
 | 0, _ => 0
 | f + 1, i => if A.kind i ≠ 2 then 0 else (A.names i).foldl (fun n s => let x := AT.levels A f ((A.find i s).getD 0); if x > n then x else n) 0 + 1
end Go.Wk

