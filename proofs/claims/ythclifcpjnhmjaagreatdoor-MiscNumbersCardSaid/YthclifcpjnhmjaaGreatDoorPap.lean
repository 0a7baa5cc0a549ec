/- A part of the proof: MiscNumbers holds. -/
import Derived.Test.YthclifcpjnhmjaaGreatDoorPao
import Derived.Test.YthclifcpjnhmjaaGreatDoorChecked
import Derived.IntWalk
import Derived.Laws.StandIn
set_option maxRecDepth 100000
namespace Go.Proofs.YthclifcpjnhmjaaGreatDoor
open Go Go.HL
def an168 : Ann := (.q (.n (.q (.h)) (.n (.q (.cond (.n (.reg (rn 23) [[],[0],[0,1],[0,1,2],[],(rn 5),(rn 6),(rn 7),(rn 8),(rn 9),[],[10],[10,11],[10,11,12],[],[10,11,12,13,14],[10,11,12,13,14,15],[10,11,12,13,14,15,16],[10,11,12,13,14,15,16,17],[10,11,12,13,14,15,16,17,18],(rn 20),(rn 21),(rn 22)]) .z) .z)) (.n (.q (.h)) (.q .z)))))
def g168 (f_1 : Option Addr) (at_2 : Int) (name_3 : ByteArray) (K : KH) : H -> Prop :=
 alW (.cells ⟨[.int .i64 0, .string (⟨⟨[]⟩⟩ : ByteArray), .int .i64 0]⟩ 125 (0, 0)) (fun b4 => ptrW f_1 (fun b5 o6 => rdT (rdC b5 (o6 + 2)) kL (fun x7 => ptrW x7.base (fun b8 o9 => ifW (0 <= at_2 /\ at_2 < ((x7.len : Nat) : Int)) (rdT (rdC b8 (o9 + at_2.toNat * 1)) kP (fun x10 => ptrW x10 (fun b11 o12 => rdT (rdC b11 o12) kI (fun (x13 : Int) => brW ((x13 : Int) != 2)
 (stW Tryz.prog 125 (.pointer (some ⟨b4, 0, none⟩)) (.agg ⟨[.int .i64 0, .string (⟨⟨[]⟩⟩ : ByteArray), .int .i64 0]⟩) (rdT (rdA 3 b4 0) (.one (.agg [(.int .i64), .str, (.int .i64)])) (fun (r14 : Int) (r15 : ByteArray) (r16 : Int) => K (.tuple ⟨[.agg ⟨[.int .i64 r14, .string r15, .int .i64 r16]⟩, .int .i64 8]⟩)))) (brW (strEq name_3 (⟨⟨[46, 46]⟩⟩ : ByteArray)) (ptrW f_1 (fun b17 o18 => rdT (rdC b17 (o18 + 2)) kL (fun x19 => ptrW x19.base (fun b20 o21 =>
 ifW (0 <= at_2 /\ at_2 < ((x19.len : Nat) : Int)) (rdT (rdC b20 (o21 + at_2.toNat * 1)) kP (fun x22 => ptrW x22 (fun b23 o24 => rdT (rdC b23 (o24 + 4)) kI (fun (x25 : Int) => ptrW f_1 (fun b26 o27 => rdT (rdC b26 (o27 + 2)) kL (fun x28 => ptrW x28.base (fun b29 o30 => ifW (0 <= at_2 /\ at_2 < ((x28.len : Nat) : Int)) (rdT (rdC b29 (o30 + at_2.toNat * 1)) kP (fun x31 => ptrW x31 (fun b32 o33 => rdT (rdC b32 (o33 + 4)) kI (fun (x34 : Int) =>
 stW Tryz.prog 125 (.pointer (some ⟨b4, 0, none⟩)) (.agg ⟨[.int .i64 x34, .string (⟨⟨[]⟩⟩ : ByteArray), .int .i64 x25]⟩) (rdT (rdA 3 b4 0) (.one (.agg [(.int .i64), .str, (.int .i64)])) (fun (r35 : Int) (r36 : ByteArray) (r37 : Int) => K (.tuple ⟨[.agg ⟨[.int .i64 r35, .string r36, .int .i64 r37]⟩, .int .i64 0]⟩)))))))))))))))))) (brW (decide ((((name_3.size : Nat) : Int) : Int) > 56))
 (stW Tryz.prog 125 (.pointer (some ⟨b4, 0, none⟩)) (.agg ⟨[.int .i64 0, .string (⟨⟨[]⟩⟩ : ByteArray), .int .i64 0]⟩) (rdT (rdA 3 b4 0) (.one (.agg [(.int .i64), .str, (.int .i64)])) (fun (r38 : Int) (r39 : ByteArray) (r40 : Int) => K (.tuple ⟨[.agg ⟨[.int .i64 r38, .string r39, .int .i64 r40]⟩, .int .i64 3]⟩)))) (callT Tryz.prog 204 [.pointer f_1, .int .i64 at_2, .string name_3] kI (fun (x41 : Int) =>
 stW Tryz.prog 125 (.pointer (some ⟨b4, 0, none⟩)) (.agg ⟨[.int .i64 at_2, .string name_3, .int .i64 x41]⟩) (rdT (rdA 3 b4 0) (.one (.agg [(.int .i64), .str, (.int .i64)])) (fun (r42 : Int) (r43 : ByteArray) (r44 : Int) => K (.tuple ⟨[.agg ⟨[.int .i64 r42, .string r43, .int .i64 r44]⟩, .int .i64 0]⟩)))))))))))))))
theorem e168 (f_1 : Option Addr) (at_2 : Int) (name_3 : ByteArray) (K : KH) : bodyF Tryz.prog tau Tryz.f168 an168 [.pointer f_1, .int .i64 at_2, .string name_3] K = g168 f_1 at_2 name_3 K := by kernel_rfl
theorem c168 (f_1 : Option Addr) (at_2 : Int) (name_3 : ByteArray) {K : KH} {σ : H} (h : g168 f_1 at_2 name_3 K σ) : callW Tryz.prog 168 [.pointer f_1, .int .i64 at_2, .string name_3] K σ := call_of_body mixed Tryz.func168 (by rw [e168]; exact h)


def an169 : Ann := (.q (.n (.blk (.seq (some [(0,.sc (.int .i32)),(3,.b)]) .r (.cond (.q .z) (.seq (some [(10,.b)]) .r (.h))))) (.q .z)))
def g169 (r_1 : Int) (K : KH) : H -> Prop :=
 letJ (T := Int -> Bool -> H -> Prop) (fun r_3 x4 => brW x4 (K (.bool true)) (letJ (T := Bool -> H -> Prop) (fun x6 => brW x6 (K (.bool true)) (K (.bool false))) (fun j5 => brW (decide ((57343 : Int) < r_3)) (j5 (decide ((r_3 : Int) <= 1114111))) (j5 false)))) (fun j2 => brW (decide ((0 : Int) <= r_1)) (j2 r_1 (decide ((r_1 : Int) < 55296))) (j2 r_1 false))
theorem e169 (r_1 : Int) (K : KH) : bodyF Tryz.prog tau Tryz.f169 an169 [.int .i32 r_1] K = g169 r_1 K := by kernel_rfl
theorem c169 (r_1 : Int) {K : KH} {σ : H} (h : g169 r_1 K σ) : callW Tryz.prog 169 [.int .i32 r_1] K σ := call_of_body mixed Tryz.func169 (by rw [e169]; exact h)


def an170 : Ann := (.q (.n (.q (.h)) (.q .z)))
def g170 (s_1 : ByteArray) (prefix_2 : ByteArray) (K : KH) : H -> Prop :=
 callT Tryz.prog 87 [.string s_1, .string prefix_2] kB (fun x3 => brW x3 (ifW (bndOk none s_1.size /\ bndOk (some ((prefix_2.size : Nat) : Int)) (s_1.size)) (K (.string (s_1.extract (((prefix_2.size : Nat) : Int).toNat) s_1.size)))) (K (.string s_1)))
theorem e170 (s_1 : ByteArray) (prefix_2 : ByteArray) (K : KH) : bodyF Tryz.prog tau Tryz.f170 an170 [.string s_1, .string prefix_2] K = g170 s_1 prefix_2 K := by kernel_rfl
theorem c170 (s_1 : ByteArray) (prefix_2 : ByteArray) {K : KH} {σ : H} (h : g170 s_1 prefix_2 K σ) : callW Tryz.prog 170 [.string s_1, .string prefix_2] K σ := call_of_body mixed Tryz.func170 (by rw [e170]; exact h)


def an171 : Ann := (.q (.q (.n (.seq (some [(0,.s),(30,.b)]) .r (.cond (.q (.seq (some [(0,.s),(5,.s)]) (.seq (some [(0,.s),(5,.s),(39,.b)]) .r (.cond (.q (.q (.h))) .z)) (.q (.n (.q (.blk (.loop [(5,.s),(6,.i),(47,.l),(48,.i),(49,.i)] (.q (.n (.cond .z .z) (.n (.blk (.q (.q (.n (.q (.h)) .r)))) .r)))))) (.seq (some [(6,.i)]) (.q (.cond .r .z)) (.q .z)))))) .z)) (.q (.q .z)))))
def g171 (s_1 : ByteArray) (K : KH) : H -> Prop :=
 letJ (T := ByteArray -> Bool -> H -> Prop) (fun s_3 x4 => brW x4 (letJ (T := ByteArray -> ByteArray -> H -> Prop) (fun s_6 s0_7 => vaW Tryz.prog (convert 9 22 (.string s_6)) kL (fun x8 => loopW [.sc .str, .sc (.int .i64), .sc .slc, .sc (.int .i64), .sc (.int .i64)] (fun (R9 : ByteArray -> Int -> Sl -> Int -> Int -> H -> Prop) => (fun (s0_10 : ByteArray) (n_11 : Int) (x12 : Sl) (x13 : Int) (x14 : Int) => brW (decide ((x14 : Int) < x13)) (ptrW x12.base (fun b15 o16 =>
 ifW (0 <= x14 /\ x14 < ((x12.len : Nat) : Int)) (rdT (rdC b15 (o16 + x14.toNat * 1)) kC (fun (x17 : Int) => brW (decide (((IntKind.u8.wrap (x17 - 48)) : Int) > 9)) (K (.tuple ⟨[.int .i64 0, .iface 229 (.int .i64 2)]⟩)) (R9 s0_10 (IntKind.i64.wrap ((IntKind.i64.wrap (n_11 * 10)) + (IntKind.i64.wrap (IntKind.u8.wrap (x17 - 48))))) x12 x13 (IntKind.i64.wrap (x14 + 1))))))) (letJ (T := Int -> H -> Prop) (fun n_19 => K (.tuple ⟨[.int .i64 n_19, .nilIface]⟩)) (fun j18 => idxW s0_10 0 (fun c20 =>
 brW (((c20.toNat : Int) : Int) == 45) (j18 (IntKind.i64.wrap (0 - n_11))) (j18 n_11)))))) (fun (R21 : ByteArray -> Int -> Sl -> Int -> Int -> H -> Prop) => R21 s0_7 0 x8 ((x8.len : Nat) : Int) 0))) (fun j5 => letJ (T := ByteArray -> ByteArray -> Bool -> H -> Prop) (fun s_23 s0_24 x25 => brW x25 (ifW (bndOk none s_23.size /\ bndOk (some 1) (s_23.size)) (brW (decide (((((s_23.extract ((1 : Int).toNat) s_23.size).size : Nat) : Int) : Int) < 1)) (K (.tuple ⟨[.int .i64 0, .iface 229 (.int .i64 2)]⟩))
 (j5 (s_23.extract ((1 : Int).toNat) s_23.size) s0_24))) (j5 s_23 s0_24)) (fun j22 => idxW s_3 0 (fun c26 => brW (((c26.toNat : Int) : Int) == 45) (j22 s_3 s_3 true) (idxW s_3 0 (fun c27 => j22 s_3 s_3 (((c27.toNat : Int) : Int) == 43))))))) (callT Tryz.prog 205 [.string s_3, .int .i64 10, .int .i64 0] (.tup [.sc (.int .i64), .sc .raw]) (fun (x28 : Int) (x29 : Value) => K (.tuple ⟨[.int .i64 x28, x29]⟩)))) (fun j2 => brW (decide ((0 : Int) < ((s_1.size : Nat) : Int)))
 (j2 s_1 (decide ((((s_1.size : Nat) : Int) : Int) < 19))) (j2 s_1 false))
theorem e171 (s_1 : ByteArray) (K : KH) : bodyF Tryz.prog tau Tryz.f171 an171 [.string s_1] K = g171 s_1 K := by kernel_rfl
theorem c171 (s_1 : ByteArray) {K : KH} {σ : H} (h : g171 s_1 K σ) : callW Tryz.prog 171 [.string s_1] K σ := call_of_body mixed Tryz.func171 (by rw [e171]; exact h)


def an176 : Ann := (.q (.n (.seq (some [(0,.l),(1,.sc (.int .u64)),(2,.i),(3,.b),(4,.b),(10,.l),(11,.s),(28,.b)]) .r (.cond .r .z)) (.q (.q (.seq (some [(0,.l),(1,.sc (.int .u64)),(2,.i),(3,.b),(4,.b),(10,.l),(11,.s),(12,.p),(13,.i)]) (.q (.cond .r .z)) (.seq (some [(0,.l),(3,.b),(4,.b),(10,.l),(11,.s),(12,.p),(13,.i)]) (.q (.cond (.q (.q (.q (.n (.blk (.loop [(0,.l),(1,.sc (.int .u64)),(3,.b),(4,.b),(10,.l),(11,.s),(12,.p),(13,.i),(14,.sc (.int .u64)),(15,.sc (.int .u64)),(16,.sc (.int .u64))] (.n (.q (.cond .z .z)) (.blk (.q (.q .r)))))) (.q .r))))) (.q (.n (.blk (.loop [(0,.l),(1,.sc (.int .u64)),(3,.b),(4,.b),(10,.l),(11,.s),(12,.p),(13,.i),(17,.sc (.int .u64))] (.n (.q (.cond .z .z)) (.blk (.q (.q (.q .r))))))) (.q .r))))) (.seq (some [(0,.l),(4,.b),(10,.l),(11,.s),(12,.p),(13,.i)]) (.q (.cond (.q .r) .z)) (.n (.q (.h)) (.q .z)))))))))
def g176 (dst_1 : Sl) (u_2 : Int) (base_3 : Int) (neg_4 : Bool) (append__5 : Bool) (K : KH) : H -> Prop :=
 letJ (T := Sl -> Int -> Int -> Bool -> Bool -> Sl -> ByteArray -> Bool -> H -> Prop) (fun dst_7 u_8 base_9 neg_10 append__11 d_12 s_13 x14 => brW x14 (nW)
 (alW (.cells ⟨[.int .u8 0, .int .u8 0, .int .u8 0, .int .u8 0, .int .u8 0, .int .u8 0, .int .u8 0, .int .u8 0, .int .u8 0, .int .u8 0, .int .u8 0, .int .u8 0, .int .u8 0, .int .u8 0, .int .u8 0, .int .u8 0, .int .u8 0, .int .u8 0, .int .u8 0, .int .u8 0, .int .u8 0, .int .u8 0, .int .u8 0, .int .u8 0, .int .u8 0, .int .u8 0, .int .u8 0, .int .u8 0, .int .u8 0, .int .u8 0, .int .u8 0, .int .u8 0, .int .u8 0, .int .u8 0, .int .u8 0, .int .u8 0, .int .u8 0, .int .u8 0, .int .u8 0, .int .u8 0, .int .u8 0, .int .u8 0, .int .u8 0, .int .u8 0, .int .u8 0, .int .u8 0, .int .u8 0, .int .u8 0, .int .u8 0, .int .u8 0, .int .u8 0, .int .u8 0, .int .u8 0, .int .u8 0, .int .u8 0, .int .u8 0, .int .u8 0, .int .u8 0, .int .u8 0, .int .u8 0, .int .u8 0, .int .u8 0, .int .u8 0, .int .u8 0, .int .u8 0]⟩ 237 (0, 0)) (fun b15 =>
 letJ (T := Sl -> Int -> Int -> Bool -> Bool -> Sl -> ByteArray -> Option Addr -> Int -> H -> Prop) (fun dst_17 u_18 base_19 neg_20 append__21 d_22 s_23 a_24 i_25 => letJ (T := Sl -> Bool -> Bool -> Sl -> ByteArray -> Option Addr -> Int -> H -> Prop) (fun dst_27 neg_28 append__29 d_30 s_31 a_32 i_33 => letJ (T := Sl -> Bool -> Sl -> ByteArray -> Option Addr -> Int -> H -> Prop) (fun dst_35 append__36 d_37 s_38 a_39 i_40 => brW append__36 (ptrW a_39 (fun b41 o42 => ifW (bndOk none 65 /\ bndOk (some i_40) 65)
 (biW Tryz.prog .append #[22, 22] 22 [false, false] [.slice dst_35.base dst_35.len dst_35.cap, .slice (slBase (some ⟨b41, o42, none⟩) i_40.toNat 65 1) (65 - i_40.toNat) (65 - i_40.toNat)] kL (fun x43 => K (.tuple ⟨[.slice x43.base x43.len x43.cap, .string s_38]⟩))))) (ptrW a_39 (fun b44 o45 => ifW (bndOk none 65 /\ bndOk (some i_40) 65) (vaW Tryz.prog (convert 22 9 (.slice (slBase (some ⟨b44, o45, none⟩) i_40.toNat 65 1) (65 - i_40.toNat) (65 - i_40.toNat))) kS (fun (x46 : ByteArray) =>
 K (.tuple ⟨[.slice d_37.base d_37.len d_37.cap, .string x46]⟩)))))) (fun j34 => brW neg_28 (ptrW a_32 (fun b47 o48 => ifW (0 <= IntKind.i64.wrap (i_33 - 1) /\ IntKind.i64.wrap (i_33 - 1) < ((65 : Nat) : Int)) (stW Tryz.prog 5 (.pointer (some ⟨b47, o48 + (IntKind.i64.wrap (i_33 - 1) : Int).toNat * 1, none⟩)) (.int .u8 45) (j34 dst_27 append__29 d_30 s_31 a_32 (IntKind.i64.wrap (i_33 - 1)))))) (j34 dst_27 append__29 d_30 s_31 a_32 i_33))) (fun j26 =>
 callT Tryz.prog 213 [.int .i64 base_19] kB (fun x49 => brW x49 (callT Tryz.prog 214 [.int .u64 (IntKind.u64.wrap base_19)] kI (fun (x50 : Int) =>
 loopW [.sc .slc, .sc (.int .u64), .sc .bool, .sc .bool, .sc .slc, .sc .str, .sc .ptr, .sc (.int .i64), .sc (.int .u64), .sc (.int .u64), .sc (.int .u64)] (fun (R51 : Sl -> Int -> Bool -> Bool -> Sl -> ByteArray -> Option Addr -> Int -> Int -> Int -> Int -> H -> Prop) => (fun (dst_52 : Sl) (u_53 : Int) (neg_54 : Bool) (append__55 : Bool) (d_56 : Sl) (s_57 : ByteArray) (a_58 : Option Addr) (i_59 : Int) (shift_60 : Int) (b_61 : Int) (m_62 : Int) => brW (decide ((u_53 : Int) >= b_61))
 (idxW (⟨⟨[48, 49, 50, 51, 52, 53, 54, 55, 56, 57, 97, 98, 99, 100, 101, 102, 103, 104, 105, 106, 107, 108, 109, 110, 111, 112, 113, 114, 115, 116, 117, 118, 119, 120, 121, 122]⟩⟩ : ByteArray) (bitV .and .u64 u_53 m_62) (fun c63 => ptrW a_58 (fun b64 o65 => ifW (0 <= IntKind.i64.wrap (i_59 - 1) /\ IntKind.i64.wrap (i_59 - 1) < ((65 : Nat) : Int)) (stW Tryz.prog 5 (.pointer (some ⟨b64, o65 + (IntKind.i64.wrap (i_59 - 1) : Int).toNat * 1, none⟩)) (.int .u8 (c63.toNat : Int)) (ifW (0 <= shift_60)
 (R51 dst_52 (Int.fdiv u_53 (2 ^ min (Int.toNat shift_60) (IntKind.bits .u64))) neg_54 append__55 d_56 s_57 a_58 (IntKind.i64.wrap (i_59 - 1)) shift_60 b_61 m_62)))))) (idxW (⟨⟨[48, 49, 50, 51, 52, 53, 54, 55, 56, 57, 97, 98, 99, 100, 101, 102, 103, 104, 105, 106, 107, 108, 109, 110, 111, 112, 113, 114, 115, 116, 117, 118, 119, 120, 121, 122]⟩⟩ : ByteArray) u_53 (fun c66 => ptrW a_58 (fun b67 o68 => ifW (0 <= IntKind.i64.wrap (i_59 - 1) /\ IntKind.i64.wrap (i_59 - 1) < ((65 : Nat) : Int))
 (stW Tryz.prog 5 (.pointer (some ⟨b67, o68 + (IntKind.i64.wrap (i_59 - 1) : Int).toNat * 1, none⟩)) (.int .u8 (c66.toNat : Int)) (j26 dst_52 neg_54 append__55 d_56 s_57 a_58 (IntKind.i64.wrap (i_59 - 1))))))))) (fun (R69 : Sl -> Int -> Bool -> Bool -> Sl -> ByteArray -> Option Addr -> Int -> Int -> Int -> Int -> H -> Prop) => R69 dst_17 u_18 neg_20 append__21 d_22 s_23 a_24 i_25 (IntKind.u64.wrap x50) (IntKind.u64.wrap base_19) (IntKind.u64.wrap ((IntKind.u64.wrap base_19) - 1)))))
 (loopW [.sc .slc, .sc (.int .u64), .sc .bool, .sc .bool, .sc .slc, .sc .str, .sc .ptr, .sc (.int .i64), .sc (.int .u64)] (fun (R70 : Sl -> Int -> Bool -> Bool -> Sl -> ByteArray -> Option Addr -> Int -> Int -> H -> Prop) => (fun (dst_71 : Sl) (u_72 : Int) (neg_73 : Bool) (append__74 : Bool) (d_75 : Sl) (s_76 : ByteArray) (a_77 : Option Addr) (i_78 : Int) (b_79 : Int) => brW (decide ((u_72 : Int) >= b_79)) (ifW (b_79 ≠ 0)
 (idxW (⟨⟨[48, 49, 50, 51, 52, 53, 54, 55, 56, 57, 97, 98, 99, 100, 101, 102, 103, 104, 105, 106, 107, 108, 109, 110, 111, 112, 113, 114, 115, 116, 117, 118, 119, 120, 121, 122]⟩⟩ : ByteArray) (IntKind.u64.wrap (u_72 - (IntKind.u64.wrap ((IntKind.u64.wrap (Int.tdiv u_72 b_79)) * b_79)))) (fun c80 => ptrW a_77 (fun b81 o82 => ifW (0 <= IntKind.i64.wrap (i_78 - 1) /\ IntKind.i64.wrap (i_78 - 1) < ((65 : Nat) : Int))
 (stW Tryz.prog 5 (.pointer (some ⟨b81, o82 + (IntKind.i64.wrap (i_78 - 1) : Int).toNat * 1, none⟩)) (.int .u8 (c80.toNat : Int)) (R70 dst_71 (IntKind.u64.wrap (Int.tdiv u_72 b_79)) neg_73 append__74 d_75 s_76 a_77 (IntKind.i64.wrap (i_78 - 1)) b_79)))))) (idxW (⟨⟨[48, 49, 50, 51, 52, 53, 54, 55, 56, 57, 97, 98, 99, 100, 101, 102, 103, 104, 105, 106, 107, 108, 109, 110, 111, 112, 113, 114, 115, 116, 117, 118, 119, 120, 121, 122]⟩⟩ : ByteArray) u_72 (fun c83 => ptrW a_77 (fun b84 o85 =>
 ifW (0 <= IntKind.i64.wrap (i_78 - 1) /\ IntKind.i64.wrap (i_78 - 1) < ((65 : Nat) : Int)) (stW Tryz.prog 5 (.pointer (some ⟨b84, o85 + (IntKind.i64.wrap (i_78 - 1) : Int).toNat * 1, none⟩)) (.int .u8 (c83.toNat : Int)) (j26 dst_71 neg_73 append__74 d_75 s_76 a_77 (IntKind.i64.wrap (i_78 - 1))))))))) (fun (R86 : Sl -> Int -> Bool -> Bool -> Sl -> ByteArray -> Option Addr -> Int -> Int -> H -> Prop) => R86 dst_17 u_18 neg_20 append__21 d_22 s_23 a_24 i_25 (IntKind.u64.wrap base_19)))))) (fun j16 =>
 brW neg_10 (j16 dst_7 (IntKind.u64.wrap (0 - u_8)) base_9 neg_10 append__11 d_12 s_13 (some ⟨b15, 0, none⟩) 65) (j16 dst_7 u_8 base_9 neg_10 append__11 d_12 s_13 (some ⟨b15, 0, none⟩) 65))))) (fun j6 => brW (decide ((base_3 : Int) < 2)) (j6 dst_1 u_2 base_3 neg_4 append__5 ⟨none, 0, 0⟩ (⟨⟨[]⟩⟩ : ByteArray) true) (brW ((base_3 : Int) == 10) (j6 dst_1 u_2 base_3 neg_4 append__5 ⟨none, 0, 0⟩ (⟨⟨[]⟩⟩ : ByteArray) true)
 (j6 dst_1 u_2 base_3 neg_4 append__5 ⟨none, 0, 0⟩ (⟨⟨[]⟩⟩ : ByteArray) (decide ((base_3 : Int) > 36)))))
theorem e176 (dst_1 : Sl) (u_2 : Int) (base_3 : Int) (neg_4 : Bool) (append__5 : Bool) (K : KH) : bodyF Tryz.prog tau Tryz.f176 an176 [.slice dst_1.base dst_1.len dst_1.cap, .int .u64 u_2, .int .i64 base_3, .bool neg_4, .bool append__5] K = g176 dst_1 u_2 base_3 neg_4 append__5 K := by kernel_rfl
theorem c176 (dst_1 : Sl) (u_2 : Int) (base_3 : Int) (neg_4 : Bool) (append__5 : Bool) {K : KH} {σ : H} (h : g176 dst_1 u_2 base_3 neg_4 append__5 K σ) : callW Tryz.prog 176 [.slice dst_1.base dst_1.len dst_1.cap, .int .u64 u_2, .int .i64 base_3, .bool neg_4, .bool append__5] K σ := call_of_body mixed Tryz.func176 (by rw [e176]; exact h)


def an177 : Ann := (.q (.q .z))
def g177 (x_1 : Int) (y_2 : Int) (K : KH) : H -> Prop :=
 K (.bool ((x_1 : Int) == y_2))
theorem e177 (x_1 : Int) (y_2 : Int) (K : KH) : bodyF Tryz.prog tau Tryz.f177 an177 [.int .i64 x_1, .int .i64 y_2] K = g177 x_1 y_2 K := by kernel_rfl
theorem c177 (x_1 : Int) (y_2 : Int) {K : KH} {σ : H} (h : g177 x_1 y_2 K σ) : callW Tryz.prog 177 [.int .i64 x_1, .int .i64 y_2] K σ := call_of_body mixed Tryz.func177 (by rw [e177]; exact h)


def an178 : Ann := (.q (.q .z))
def g178 (x_1 : Int) (y_2 : Int) (K : KH) : H -> Prop :=
 K (.bool ((x_1 : Int) != y_2))
theorem e178 (x_1 : Int) (y_2 : Int) (K : KH) : bodyF Tryz.prog tau Tryz.f178 an178 [.int .i64 x_1, .int .i64 y_2] K = g178 x_1 y_2 K := by kernel_rfl
theorem c178 (x_1 : Int) (y_2 : Int) {K : KH} {σ : H} (h : g178 x_1 y_2 K σ) : callW Tryz.prog 178 [.int .i64 x_1, .int .i64 y_2] K σ := call_of_body mixed Tryz.func178 (by rw [e178]; exact h)


def an179 : Ann := (.q (.q .z))
def g179 (x_1 : Int) (y_2 : Int) (K : KH) : H -> Prop :=
 K (.bool (decide ((x_1 : Int) < y_2)))
theorem e179 (x_1 : Int) (y_2 : Int) (K : KH) : bodyF Tryz.prog tau Tryz.f179 an179 [.int .i64 x_1, .int .i64 y_2] K = g179 x_1 y_2 K := by kernel_rfl
theorem c179 (x_1 : Int) (y_2 : Int) {K : KH} {σ : H} (h : g179 x_1 y_2 K σ) : callW Tryz.prog 179 [.int .i64 x_1, .int .i64 y_2] K σ := call_of_body mixed Tryz.func179 (by rw [e179]; exact h)


def an180 : Ann := (.q (.q .z))
def g180 (x_1 : Int) (y_2 : Int) (K : KH) : H -> Prop :=
 K (.bool (decide ((x_1 : Int) <= y_2)))
theorem e180 (x_1 : Int) (y_2 : Int) (K : KH) : bodyF Tryz.prog tau Tryz.f180 an180 [.int .i64 x_1, .int .i64 y_2] K = g180 x_1 y_2 K := by kernel_rfl
theorem c180 (x_1 : Int) (y_2 : Int) {K : KH} {σ : H} (h : g180 x_1 y_2 K σ) : callW Tryz.prog 180 [.int .i64 x_1, .int .i64 y_2] K σ := call_of_body mixed Tryz.func180 (by rw [e180]; exact h)


def an181 : Ann := (.q (.q .z))
def g181 (x_1 : Int) (y_2 : Int) (K : KH) : H -> Prop :=
 K (.bool (decide ((x_1 : Int) > y_2)))
theorem e181 (x_1 : Int) (y_2 : Int) (K : KH) : bodyF Tryz.prog tau Tryz.f181 an181 [.int .i64 x_1, .int .i64 y_2] K = g181 x_1 y_2 K := by kernel_rfl
theorem c181 (x_1 : Int) (y_2 : Int) {K : KH} {σ : H} (h : g181 x_1 y_2 K σ) : callW Tryz.prog 181 [.int .i64 x_1, .int .i64 y_2] K σ := call_of_body mixed Tryz.func181 (by rw [e181]; exact h)


def an182 : Ann := (.q (.q .z))
def g182 (x_1 : Int) (y_2 : Int) (K : KH) : H -> Prop :=
 K (.bool (decide ((x_1 : Int) >= y_2)))
theorem e182 (x_1 : Int) (y_2 : Int) (K : KH) : bodyF Tryz.prog tau Tryz.f182 an182 [.int .i64 x_1, .int .i64 y_2] K = g182 x_1 y_2 K := by kernel_rfl
theorem c182 (x_1 : Int) (y_2 : Int) {K : KH} {σ : H} (h : g182 x_1 y_2 K σ) : callW Tryz.prog 182 [.int .i64 x_1, .int .i64 y_2] K σ := call_of_body mixed Tryz.func182 (by rw [e182]; exact h)


def an183 : Ann := (.q (.q (.q .z)))
def g183 (follow_1 : Bool) (ask_2 : Value) (x3 : Option Addr) (x4 : Option Addr) (K : KH) : H -> Prop :=
 ptrW x3 (fun b5 o6 => rdT (rdC b5 (o6 + 4)) kP (fun x7 => ptrW x3 (fun b8 o9 => rdT (rdC b8 (o9 + 3)) kS (fun (x10 : ByteArray) => ptrW x4 (fun b11 o12 => rdT (rdC b11 o12) kS (fun (x13 : ByteArray) => callT Tryz.prog 184 [.pointer x7, .string x10, .string x13, .bool follow_1] (.tup [.agg [(.int .i64), (.int .i64), .str, (.int .i64)], .sc (.int .i64)]) (fun (x14 : Int) (x15 : Int) (x16 : ByteArray) (x17 : Int) (x18 : Int) =>
 alW (.cells ⟨[.int .i64 0, .int .i64 0, .string (⟨⟨[]⟩⟩ : ByteArray), .int .i64 0]⟩ 113 (0, 0)) (fun b19 => stW Tryz.prog 113 (.pointer (some ⟨b19, 0, none⟩)) (.agg ⟨[.int .i64 x14, .int .i64 x15, .string x16, .int .i64 x17]⟩) (brW ((x18 : Int) == 0) (rdT (rdA 4 b19 0) (.one (.agg [(.int .i64), (.int .i64), .str, (.int .i64)])) (fun (x20 : Int) (x21 : Int) (x22 : ByteArray) (x23 : Int) => cvalT Tryz.prog ask_2 [.agg ⟨[.int .i64 x20, .int .i64 x21, .string x22, .int .i64 x23]⟩] kB (fun x24 =>
 K (.bool x24)))) (K (.bool false)))))))))))
theorem e183 (follow_1 : Bool) (ask_2 : Value) (x3 : Option Addr) (x4 : Option Addr) (K : KH) : bodyF Tryz.prog tau Tryz.f183 an183 [.bool follow_1, ask_2, .pointer x3, .pointer x4] K = g183 follow_1 ask_2 x3 x4 K := by kernel_rfl
theorem c183 (follow_1 : Bool) (ask_2 : Value) (x3 : Option Addr) (x4 : Option Addr) {K : KH} {σ : H} (h : g183 follow_1 ask_2 x3 x4 K σ) : callW Tryz.prog 183 [.bool follow_1, ask_2, .pointer x3, .pointer x4] K σ := call_of_body mixed Tryz.func183 (by rw [e183]; exact h)


def an184 : Ann := (.q (.q (.q .z)))
def g184 (f_1 : Option Addr) (cwd_2 : ByteArray) (path_3 : ByteArray) (follow_4 : Bool) (K : KH) : H -> Prop :=
 alW (.cells ⟨[.int .i64 0, .int .i64 0, .string (⟨⟨[]⟩⟩ : ByteArray), .int .i64 0]⟩ 113 (0, 0)) (fun b5 => callT Tryz.prog 72 [.pointer f_1, .string cwd_2, .string path_3, .bool follow_4, .func (.func 215) ⟨[]⟩ ⟨[.pointer (some ⟨b5, 0, none⟩)]⟩] kI (fun (x6 : Int) => rdT (rdA 4 b5 0) (.one (.agg [(.int .i64), (.int .i64), .str, (.int .i64)])) (fun (x7 : Int) (x8 : Int) (x9 : ByteArray) (x10 : Int) =>
 stW Tryz.prog 113 (.pointer (some ⟨b5, 0, none⟩)) (.agg ⟨[.int .i64 x7, .int .i64 x8, .string x9, .int .i64 x10]⟩) (rdT (rdA 4 b5 0) (.one (.agg [(.int .i64), (.int .i64), .str, (.int .i64)])) (fun (r11 : Int) (r12 : Int) (r13 : ByteArray) (r14 : Int) => K (.tuple ⟨[.agg ⟨[.int .i64 r11, .int .i64 r12, .string r13, .int .i64 r14]⟩, .int .i64 x6]⟩))))))
theorem e184 (f_1 : Option Addr) (cwd_2 : ByteArray) (path_3 : ByteArray) (follow_4 : Bool) (K : KH) : bodyF Tryz.prog tau Tryz.f184 an184 [.pointer f_1, .string cwd_2, .string path_3, .bool follow_4] K = g184 f_1 cwd_2 path_3 follow_4 K := by kernel_rfl
theorem c184 (f_1 : Option Addr) (cwd_2 : ByteArray) (path_3 : ByteArray) (follow_4 : Bool) {K : KH} {σ : H} (h : g184 f_1 cwd_2 path_3 follow_4 K σ) : callW Tryz.prog 184 [.pointer f_1, .string cwd_2, .string path_3, .bool follow_4] K σ := call_of_body mixed Tryz.func184 (by rw [e184]; exact h)


def an185 : Ann := (.q (.q .z))
def g185 (k_1 : Int) (K : KH) : H -> Prop :=
 alW (.cells ⟨[.int .i64 k_1]⟩ 3 (0, 0)) (fun b2 => K (.func (.func 186) ⟨[]⟩ ⟨[.pointer (some ⟨b2, 0, none⟩)]⟩))
theorem e185 (k_1 : Int) (K : KH) : bodyF Tryz.prog tau Tryz.f185 an185 [.int .i64 k_1] K = g185 k_1 K := by kernel_rfl
theorem c185 (k_1 : Int) {K : KH} {σ : H} (h : g185 k_1 K σ) : callW Tryz.prog 185 [.int .i64 k_1] K σ := call_of_body mixed Tryz.func185 (by rw [e185]; exact h)


def an186 : Ann := (.q (.q .z))
def g186 (n_1 : Int) (n_2 : Int) (n_3 : ByteArray) (n_4 : Int) (x5 : Option Addr) (K : KH) : H -> Prop :=
 alW (.cells ⟨[.int .i64 n_1, .int .i64 n_2, .string n_3, .int .i64 n_4]⟩ 113 (0, 0)) (fun b6 => rdT (rdC b6 0) kI (fun (x7 : Int) => ptrW x5 (fun b8 o9 => rdT (rdC b8 o9) kI (fun (x10 : Int) => K (.bool ((x7 : Int) == x10))))))
theorem e186 (n_1 : Int) (n_2 : Int) (n_3 : ByteArray) (n_4 : Int) (x5 : Option Addr) (K : KH) : bodyF Tryz.prog tau Tryz.f186 an186 [.agg ⟨[.int .i64 n_1, .int .i64 n_2, .string n_3, .int .i64 n_4]⟩, .pointer x5] K = g186 n_1 n_2 n_3 n_4 x5 K := by kernel_rfl
theorem c186 (n_1 : Int) (n_2 : Int) (n_3 : ByteArray) (n_4 : Int) (x5 : Option Addr) {K : KH} {σ : H} (h : g186 n_1 n_2 n_3 n_4 x5 K σ) : callW Tryz.prog 186 [.agg ⟨[.int .i64 n_1, .int .i64 n_2, .string n_3, .int .i64 n_4]⟩, .pointer x5] K σ := call_of_body mixed Tryz.func186 (by rw [e186]; exact h)


def an187 : Ann := (.q (.n (.reg (rn 5) [[],[],[1],[0,1,2],(rn 4)]) .z))
def g187 (x1 : Option Addr) (x2 : Option Addr) (K : KH) : H -> Prop :=
 ptrW x1 (fun b3 o4 => rdT (rdC b3 o4) kR (fun x5 => ptrW x2 (fun b6 o7 => rdT (rdC b6 o7) kR (fun x8 => cvalT Tryz.prog x8 [.int .i64 3] kR (fun x9 => andW (fun σ => (rdC b3 o4) σ = some (x5)) (cvalT Tryz.prog x5 [.bool false, x9] kB (fun x10 => K (.bool x10))))))))
theorem e187 (x1 : Option Addr) (x2 : Option Addr) (K : KH) : bodyF Tryz.prog tau Tryz.f187 an187 [.pointer x1, .pointer x2] K = g187 x1 x2 K := by kernel_rfl
theorem c187 (x1 : Option Addr) (x2 : Option Addr) {K : KH} {σ : H} (h : g187 x1 x2 K σ) : callW Tryz.prog 187 [.pointer x1, .pointer x2] K σ := call_of_body mixed Tryz.func187 (by rw [e187]; exact h)


def an188 : Ann := (.q (.q .z))
def g188 (x1 : Option Addr) (K : KH) : H -> Prop :=
 ptrW x1 (fun b2 o3 => rdT (rdC b2 o3) kS (fun (x4 : ByteArray) => K (.bool (!strEq x4 (⟨⟨[]⟩⟩ : ByteArray)))))
theorem e188 (x1 : Option Addr) (K : KH) : bodyF Tryz.prog tau Tryz.f188 an188 [.pointer x1] K = g188 x1 K := by kernel_rfl
theorem c188 (x1 : Option Addr) {K : KH} {σ : H} (h : g188 x1 K σ) : callW Tryz.prog 188 [.pointer x1] K σ := call_of_body mixed Tryz.func188 (by rw [e188]; exact h)


def an189 : Ann := (.q (.q .z))
def g189 (x1 : Option Addr) (K : KH) : H -> Prop :=
 ptrW x1 (fun b2 o3 => rdT (rdC b2 o3) kS (fun (x4 : ByteArray) => K (.bool (strEq x4 (⟨⟨[]⟩⟩ : ByteArray)))))
theorem e189 (x1 : Option Addr) (K : KH) : bodyF Tryz.prog tau Tryz.f189 an189 [.pointer x1] K = g189 x1 K := by kernel_rfl
theorem c189 (x1 : Option Addr) {K : KH} {σ : H} (h : g189 x1 K σ) : callW Tryz.prog 189 [.pointer x1] K σ := call_of_body mixed Tryz.func189 (by rw [e189]; exact h)


def an190 : Ann := (.q (.q .z))
def g190 (x1 : Option Addr) (K : KH) : H -> Prop :=
 ptrW x1 (fun b2 o3 => rdT (rdC b2 o3) kR (fun x4 => cvalT Tryz.prog x4 [.bool true, .func (.func 191) ⟨[]⟩ ⟨[]⟩] kB (fun x5 => K (.bool x5))))
theorem e190 (x1 : Option Addr) (K : KH) : bodyF Tryz.prog tau Tryz.f190 an190 [.pointer x1] K = g190 x1 K := by kernel_rfl
theorem c190 (x1 : Option Addr) {K : KH} {σ : H} (h : g190 x1 K σ) : callW Tryz.prog 190 [.pointer x1] K σ := call_of_body mixed Tryz.func190 (by rw [e190]; exact h)


def an191 : Ann := (.q (.q .z))
def g191 (x1 : Int) (x2 : Int) (x3 : ByteArray) (x4 : Int) (K : KH) : H -> Prop :=
 alW (.cells ⟨[.int .i64 x1, .int .i64 x2, .string x3, .int .i64 x4]⟩ 113 (0, 0)) (fun _b5 => K (.bool true))
theorem e191 (x1 : Int) (x2 : Int) (x3 : ByteArray) (x4 : Int) (K : KH) : bodyF Tryz.prog tau Tryz.f191 an191 [.agg ⟨[.int .i64 x1, .int .i64 x2, .string x3, .int .i64 x4]⟩] K = g191 x1 x2 x3 x4 K := by kernel_rfl
theorem c191 (x1 : Int) (x2 : Int) (x3 : ByteArray) (x4 : Int) {K : KH} {σ : H} (h : g191 x1 x2 x3 x4 K σ) : callW Tryz.prog 191 [.agg ⟨[.int .i64 x1, .int .i64 x2, .string x3, .int .i64 x4]⟩] K σ := call_of_body mixed Tryz.func191 (by rw [e191]; exact h)


def an192 : Ann := (.q (.n (.reg (rn 5) [[],[],[1],[0,1,2],(rn 4)]) .z))
def g192 (x1 : Option Addr) (x2 : Option Addr) (K : KH) : H -> Prop :=
 ptrW x1 (fun b3 o4 => rdT (rdC b3 o4) kR (fun x5 => ptrW x2 (fun b6 o7 => rdT (rdC b6 o7) kR (fun x8 => cvalT Tryz.prog x8 [.int .i64 1] kR (fun x9 => andW (fun σ => (rdC b3 o4) σ = some (x5)) (cvalT Tryz.prog x5 [.bool true, x9] kB (fun x10 => K (.bool x10))))))))
theorem e192 (x1 : Option Addr) (x2 : Option Addr) (K : KH) : bodyF Tryz.prog tau Tryz.f192 an192 [.pointer x1, .pointer x2] K = g192 x1 x2 K := by kernel_rfl
theorem c192 (x1 : Option Addr) (x2 : Option Addr) {K : KH} {σ : H} (h : g192 x1 x2 K σ) : callW Tryz.prog 192 [.pointer x1, .pointer x2] K σ := call_of_body mixed Tryz.func192 (by rw [e192]; exact h)


def an193 : Ann := (.q (.n (.reg (rn 5) [[],[],[1],[0,1,2],(rn 4)]) .z))
def g193 (x1 : Option Addr) (x2 : Option Addr) (K : KH) : H -> Prop :=
 ptrW x1 (fun b3 o4 => rdT (rdC b3 o4) kR (fun x5 => ptrW x2 (fun b6 o7 => rdT (rdC b6 o7) kR (fun x8 => cvalT Tryz.prog x8 [.int .i64 2] kR (fun x9 => andW (fun σ => (rdC b3 o4) σ = some (x5)) (cvalT Tryz.prog x5 [.bool true, x9] kB (fun x10 => K (.bool x10))))))))
theorem e193 (x1 : Option Addr) (x2 : Option Addr) (K : KH) : bodyF Tryz.prog tau Tryz.f193 an193 [.pointer x1, .pointer x2] K = g193 x1 x2 K := by kernel_rfl
theorem c193 (x1 : Option Addr) (x2 : Option Addr) {K : KH} {σ : H} (h : g193 x1 x2 K σ) : callW Tryz.prog 193 [.pointer x1, .pointer x2] K σ := call_of_body mixed Tryz.func193 (by rw [e193]; exact h)


def an194 : Ann := (.q (.q .z))
def g194 (x1 : Option Addr) (K : KH) : H -> Prop :=
 ptrW x1 (fun b2 o3 => rdT (rdC b2 o3) kR (fun x4 => cvalT Tryz.prog x4 [.bool true, .func (.func 195) ⟨[]⟩ ⟨[]⟩] kB (fun x5 => K (.bool x5))))
theorem e194 (x1 : Option Addr) (K : KH) : bodyF Tryz.prog tau Tryz.f194 an194 [.pointer x1] K = g194 x1 K := by kernel_rfl
theorem c194 (x1 : Option Addr) {K : KH} {σ : H} (h : g194 x1 K σ) : callW Tryz.prog 194 [.pointer x1] K σ := call_of_body mixed Tryz.func194 (by rw [e194]; exact h)


def an195 : Ann := (.q (.q .z))
def g195 (n_1 : Int) (n_2 : Int) (n_3 : ByteArray) (n_4 : Int) (K : KH) : H -> Prop :=
 alW (.cells ⟨[.int .i64 n_1, .int .i64 n_2, .string n_3, .int .i64 n_4]⟩ 113 (0, 0)) (fun b5 => rdT (rdC b5 1) kI (fun (x6 : Int) => K (.bool (((bitV .and .i64 x6 73) : Int) != 0))))
theorem e195 (n_1 : Int) (n_2 : Int) (n_3 : ByteArray) (n_4 : Int) (K : KH) : bodyF Tryz.prog tau Tryz.f195 an195 [.agg ⟨[.int .i64 n_1, .int .i64 n_2, .string n_3, .int .i64 n_4]⟩] K = g195 n_1 n_2 n_3 n_4 K := by kernel_rfl
theorem c195 (n_1 : Int) (n_2 : Int) (n_3 : ByteArray) (n_4 : Int) {K : KH} {σ : H} (h : g195 n_1 n_2 n_3 n_4 K σ) : callW Tryz.prog 195 [.agg ⟨[.int .i64 n_1, .int .i64 n_2, .string n_3, .int .i64 n_4]⟩] K σ := call_of_body mixed Tryz.func195 (by rw [e195]; exact h)


def an196 : Ann := (.q (.q .z))
def g196 (x1 : Option Addr) (K : KH) : H -> Prop :=
 ptrW x1 (fun b2 o3 => rdT (rdC b2 o3) kR (fun x4 => cvalT Tryz.prog x4 [.bool true, .func (.func 197) ⟨[]⟩ ⟨[]⟩] kB (fun x5 => K (.bool x5))))
theorem e196 (x1 : Option Addr) (K : KH) : bodyF Tryz.prog tau Tryz.f196 an196 [.pointer x1] K = g196 x1 K := by kernel_rfl
theorem c196 (x1 : Option Addr) {K : KH} {σ : H} (h : g196 x1 K σ) : callW Tryz.prog 196 [.pointer x1] K σ := call_of_body mixed Tryz.func196 (by rw [e196]; exact h)


def an197 : Ann := (.q (.q .z))
def g197 (n_1 : Int) (n_2 : Int) (n_3 : ByteArray) (n_4 : Int) (K : KH) : H -> Prop :=
 alW (.cells ⟨[.int .i64 n_1, .int .i64 n_2, .string n_3, .int .i64 n_4]⟩ 113 (0, 0)) (fun b5 => rdT (rdC b5 0) kI (fun (x6 : Int) => brW ((x6 : Int) == 1) (rdT (rdC b5 2) kS (fun (x7 : ByteArray) => K (.bool (!strEq x7 (⟨⟨[]⟩⟩ : ByteArray))))) (K (.bool false))))
theorem e197 (n_1 : Int) (n_2 : Int) (n_3 : ByteArray) (n_4 : Int) (K : KH) : bodyF Tryz.prog tau Tryz.f197 an197 [.agg ⟨[.int .i64 n_1, .int .i64 n_2, .string n_3, .int .i64 n_4]⟩] K = g197 n_1 n_2 n_3 n_4 K := by kernel_rfl
theorem c197 (n_1 : Int) (n_2 : Int) (n_3 : ByteArray) (n_4 : Int) {K : KH} {σ : H} (h : g197 n_1 n_2 n_3 n_4 K σ) : callW Tryz.prog 197 [.agg ⟨[.int .i64 n_1, .int .i64 n_2, .string n_3, .int .i64 n_4]⟩] K σ := call_of_body mixed Tryz.func197 (by rw [e197]; exact h)


def an198 : Ann := (.q (.q .z))
def g198 (s_1 : ByteArray) (suffix_2 : ByteArray) (K : KH) : H -> Prop :=
 brW (decide ((((s_1.size : Nat) : Int) : Int) >= ((suffix_2.size : Nat) : Int))) (ifW (bndOk none s_1.size /\ bndOk (some (IntKind.i64.wrap (((s_1.size : Nat) : Int) - ((suffix_2.size : Nat) : Int)))) (s_1.size)) (K (.bool (strEq (s_1.extract ((IntKind.i64.wrap (((s_1.size : Nat) : Int) - ((suffix_2.size : Nat) : Int))).toNat) s_1.size) suffix_2)))) (K (.bool false))
theorem e198 (s_1 : ByteArray) (suffix_2 : ByteArray) (K : KH) : bodyF Tryz.prog tau Tryz.f198 an198 [.string s_1, .string suffix_2] K = g198 s_1 suffix_2 K := by kernel_rfl
theorem c198 (s_1 : ByteArray) (suffix_2 : ByteArray) {K : KH} {σ : H} (h : g198 s_1 suffix_2 K σ) : callW Tryz.prog 198 [.string s_1, .string suffix_2] K σ := call_of_body mixed Tryz.func198 (by rw [e198]; exact h)


def an201 : Ann := (.q (.q (.seq (some [(2,.p),(3,.p),(4,.p)]) (.q (.blk (.rf [.s] .r (.blk (.n (.seq (some [(2,.p),(3,.p),(4,.p),(5,.s),(14,.b)]) .r (.cond .z .z)) (.n (.seq (some [(3,.p),(4,.p),(5,.s),(21,.b)]) .r (.cond .z .z)) .r)))))) (.q (.cond .r .z)))))
def g201 (yield_1 : Value) (x2 : Option Addr) (K : KH) : H -> Prop :=
 oneK yield_1 (alW (.cells ⟨[yield_1]⟩ 224 (0, 0)) (fun b3 => alW (.cells ⟨[.string (⟨⟨[]⟩⟩ : ByteArray)]⟩ 9 (0, 0)) (fun b4 => alW (.cells ⟨[.bool false]⟩ 4 (0, 0)) (fun b5 => stW Tryz.prog 9 (.pointer (some ⟨b4, 0, none⟩)) (.string (⟨⟨[]⟩⟩ : ByteArray)) (stW Tryz.prog 4 (.pointer (some ⟨b5, 0, none⟩)) (.bool false) (letJ (T := Option Addr -> Option Addr -> Option Addr -> H -> Prop) (fun yield_7 ahead_8 some_9 => ptrW some_9 (fun b10 o11 => rdT (rdC b10 o11) kB (fun x12 => brW x12
 (ptrW yield_7 (fun b13 o14 => rdT (rdC b13 o14) kR (fun x15 => ptrW ahead_8 (fun b16 o17 => rdT (rdC b16 o17) kS (fun (x18 : ByteArray) => cvalT Tryz.prog x15 [.string x18, .bool true] kB (fun _x19 => K (.tuple ⟨[]⟩))))))) (K (.tuple ⟨[]⟩))))) (fun j6 => ptrW x2 (fun b20 o21 => rdT (rdC b20 o21) kS (fun (x22 : ByteArray) => callT Tryz.prog 202 [.string x22, .string (⟨⟨[47]⟩⟩ : ByteArray)] kR (fun x23 => funW x23 (fun (g50 : FuncId) (as51 cs52 : List Value) =>
 rfW Tryz.prog none g50 as51 cs52 [.sc .str] (fun (l24 : Nat) (obj25 : LoopState -> Option Code -> Obj) (K26 : Value -> H -> Prop) => (fun (x27 : ByteArray) => begW l24 obj25 (letJ (T := Option Addr -> Option Addr -> Option Addr -> ByteArray -> Bool -> H -> Prop) (fun yield_29 ahead_30 some_31 s_32 x33 => brW x33 (roundK l24 obj25 K26 none true .ready) (letJ (T := Option Addr -> Option Addr -> ByteArray -> Bool -> H -> Prop) (fun ahead_35 some_36 s_37 x38 => brW x38
 (roundK l24 obj25 K26 (some .ret) false .done) (stW Tryz.prog 9 (.pointer ahead_35) (.string s_37) (stW Tryz.prog 4 (.pointer some_36) (.bool true) (roundK l24 obj25 K26 none true .ready)))) (fun j34 => ptrW some_31 (fun b39 o40 => rdT (rdC b39 o40) kB (fun x41 => brW x41 (ptrW yield_29 (fun b42 o43 => rdT (rdC b42 o43) kR (fun x44 => ptrW ahead_30 (fun b45 o46 => rdT (rdC b45 o46) kS (fun (x47 : ByteArray) => cvalT Tryz.prog x44 [.string x47, .bool false] kB (fun x48 =>
 j34 ahead_30 some_31 s_32 (!x48))))))) (j34 ahead_30 some_31 s_32 false)))))) (fun j28 => brW (strEq x27 (⟨⟨[]⟩⟩ : ByteArray)) (j28 (some ⟨b3, 0, none⟩) (some ⟨b4, 0, none⟩) (some ⟨b5, 0, none⟩) x27 true) (j28 (some ⟨b3, 0, none⟩) (some ⟨b4, 0, none⟩) (some ⟨b5, 0, none⟩) x27 (strEq x27 (⟨⟨[46]⟩⟩ : ByteArray))))))) (j6 (some ⟨b3, 0, none⟩) (some ⟨b4, 0, none⟩) (some ⟨b5, 0, none⟩)) (fun i49 => exW i49 0 (j6 (some ⟨b3, 0, none⟩) (some ⟨b4, 0, none⟩) (some ⟨b5, 0, none⟩)) (nW))
 (K (.tuple ⟨[]⟩)))))))))))))
theorem e201 (yield_1 : Value) (x2 : Option Addr) (K : KH) : bodyF Tryz.prog tau Tryz.f201 an201 [yield_1, .pointer x2] K = g201 yield_1 x2 K := by kernel_rfl
theorem c201 (yield_1 : Value) (x2 : Option Addr) {K : KH} {σ : H} (h : g201 yield_1 x2 K σ) : callW Tryz.prog 201 [yield_1, .pointer x2] K σ := call_of_body mixed Tryz.func201 (by rw [e201]; exact h)


def an202 : Ann := (.q (.q .z))
def g202 (s_1 : ByteArray) (sep_2 : ByteArray) (K : KH) : H -> Prop :=
 callT Tryz.prog 217 [.string s_1, .string sep_2, .int .i64 0] kR (fun x3 => K (x3))
theorem e202 (s_1 : ByteArray) (sep_2 : ByteArray) (K : KH) : bodyF Tryz.prog tau Tryz.f202 an202 [.string s_1, .string sep_2] K = g202 s_1 sep_2 K := by kernel_rfl
theorem c202 (s_1 : ByteArray) (sep_2 : ByteArray) {K : KH} {σ : H} (h : g202 s_1 sep_2 K σ) : callW Tryz.prog 202 [.string s_1, .string sep_2] K σ := call_of_body mixed Tryz.func202 (by rw [e202]; exact h)


def an203 : Ann := (.q (.n (.q (.h)) (.n (.q (.cond (.q (.seq (some [(0,.s),(5,.sc (.int .i32))]) (.q (.cond .r .z)) (.q .z))) .z)) (.seq (some [(0,.s),(1,.s)]) (.q (.cond (.q (.q (.cond (.n (.q (.blk (.loop [(0,.s),(6,.p),(8,.i)] (.n (.q (.cond .z .z)) (.n (.blk (.q (.h))) .r))))) (.q .z)) .z))) .z)) (.n (.q (.blk (.loop [(1,.s),(45,.p)] (.q (.n (.cond .z .z) (.blk (.q (.q (.h))))))))) (.q .z))))))
def g203 (s_1 : ByteArray) (chars_2 : ByteArray) (K : KH) : H -> Prop :=
 brW (strEq chars_2 (⟨⟨[]⟩⟩ : ByteArray)) (K (.int .i64 (-1))) (brW ((((chars_2.size : Nat) : Int) : Int) == 1) (idxW chars_2 0 (fun c3 => letJ (T := ByteArray -> Int -> H -> Prop) (fun s_5 r_6 => callT Tryz.prog 139 [.string s_5, .int .i32 r_6] kI (fun (x7 : Int) => K (.int .i64 x7))) (fun j4 => brW (decide (((IntKind.i32.wrap (c3.toNat : Int)) : Int) >= 128)) (j4 s_1 65533) (j4 s_1 (IntKind.i32.wrap (c3.toNat : Int)))))) (letJ (T := ByteArray -> ByteArray -> H -> Prop) (fun s_9 chars_10 =>
 vaW Tryz.prog (Instr.range 9 (.string s_9)) kP (fun x11 => loopW [.sc .str, .sc .ptr] (fun (R12 : ByteArray -> Option Addr -> H -> Prop) => (fun (chars_13 : ByteArray) (x14 : Option Addr) => vaW Tryz.prog (Instr.next (.pointer x14) true 0) (.opt [.sc (.int .i64), .sc (.int .i32)]) (K (.int .i64 (-1)), (fun (x15 : Int) (x16 : Int) => callT Tryz.prog 139 [.string chars_13, .int .i32 x16] kI (fun (x17 : Int) => brW (decide ((x17 : Int) >= 0)) (K (.int .i64 x15))
 (R12 chars_13 x14)))))) (fun (R18 : ByteArray -> Option Addr -> H -> Prop) => R18 chars_10 x11))) (fun j8 => callT Tryz.prog 218 [.int .i64 ((s_1.size : Nat) : Int)] kB (fun x19 => brW x19 (callT Tryz.prog 43 [.string chars_2] (.tup [.sc .raw, .sc .bool]) (fun x20 x21 =>
 alW (.cells ⟨[.bool false, .bool false, .bool false, .bool false, .bool false, .bool false, .bool false, .bool false, .bool false, .bool false, .bool false, .bool false, .bool false, .bool false, .bool false, .bool false, .bool false, .bool false, .bool false, .bool false, .bool false, .bool false, .bool false, .bool false, .bool false, .bool false, .bool false, .bool false, .bool false, .bool false, .bool false, .bool false, .bool false, .bool false, .bool false, .bool false, .bool false, .bool false, .bool false, .bool false, .bool false, .bool false, .bool false, .bool false, .bool false, .bool false, .bool false, .bool false, .bool false, .bool false, .bool false, .bool false, .bool false, .bool false, .bool false, .bool false, .bool false, .bool false, .bool false, .bool false, .bool false, .bool false, .bool false, .bool false, .bool false, .bool false, .bool false, .bool false, .bool false, .bool false, .bool false, .bool false, .bool false, .bool false, .bool false, .bool false, .bool false, .bool false, .bool false, .bool false, .bool false, .bool false, .bool false, .bool false, .bool false, .bool false, .bool false, .bool false, .bool false, .bool false, .bool false, .bool false, .bool false, .bool false, .bool false, .bool false, .bool false, .bool false, .bool false, .bool false, .bool false, .bool false, .bool false, .bool false, .bool false, .bool false, .bool false, .bool false, .bool false, .bool false, .bool false, .bool false, .bool false, .bool false, .bool false, .bool false, .bool false, .bool false, .bool false, .bool false, .bool false, .bool false, .bool false, .bool false, .bool false, .bool false, .bool false, .bool false, .bool false, .bool false, .bool false, .bool false, .bool false, .bool false, .bool false, .bool false, .bool false, .bool false, .bool false, .bool false, .bool false, .bool false, .bool false, .bool false, .bool false, .bool false, .bool false, .bool false, .bool false, .bool false, .bool false, .bool false, .bool false, .bool false, .bool false, .bool false, .bool false, .bool false, .bool false, .bool false, .bool false, .bool false, .bool false, .bool false, .bool false, .bool false, .bool false, .bool false, .bool false, .bool false, .bool false, .bool false, .bool false, .bool false, .bool false, .bool false, .bool false, .bool false, .bool false, .bool false, .bool false, .bool false, .bool false, .bool false, .bool false, .bool false, .bool false, .bool false, .bool false, .bool false, .bool false, .bool false, .bool false, .bool false, .bool false, .bool false, .bool false, .bool false, .bool false, .bool false, .bool false, .bool false, .bool false, .bool false, .bool false, .bool false, .bool false, .bool false, .bool false, .bool false, .bool false, .bool false, .bool false, .bool false, .bool false, .bool false, .bool false, .bool false, .bool false, .bool false, .bool false, .bool false, .bool false, .bool false, .bool false, .bool false, .bool false, .bool false, .bool false, .bool false, .bool false, .bool false, .bool false, .bool false, .bool false, .bool false, .bool false, .bool false, .bool false, .bool false, .bool false, .bool false, .bool false, .bool false, .bool false, .bool false, .bool false, .bool false, .bool false, .bool false, .bool false, .bool false, .bool false, .bool false, .bool false, .bool false]⟩ 79 (0, 0)) (fun b22 =>
 stW Tryz.prog 79 (.pointer (some ⟨b22, 0, none⟩)) (x20) (brW x21 (loopW [.sc .str, .sc .ptr, .sc (.int .i64)] (fun (R23 : ByteArray -> Option Addr -> Int -> H -> Prop) => (fun (s_24 : ByteArray) (as_25 : Option Addr) (i_26 : Int) => brW (decide ((i_26 : Int) < ((s_24.size : Nat) : Int))) (idxW s_24 i_26 (fun c27 => callT Tryz.prog 90 [.pointer as_25, .int .u8 (c27.toNat : Int)] kB (fun x28 => brW x28 (K (.int .i64 i_26)) (R23 s_24 as_25 (IntKind.i64.wrap (i_26 + 1))))))
 (K (.int .i64 (-1))))) (fun (R29 : ByteArray -> Option Addr -> Int -> H -> Prop) => R29 s_1 (some ⟨b22, 0, none⟩) 0)) (j8 s_1 chars_2))))) (j8 s_1 chars_2)))))
theorem e203 (s_1 : ByteArray) (chars_2 : ByteArray) (K : KH) : bodyF Tryz.prog tau Tryz.f203 an203 [.string s_1, .string chars_2] K = g203 s_1 chars_2 K := by kernel_rfl
theorem c203 (s_1 : ByteArray) (chars_2 : ByteArray) {K : KH} {σ : H} (h : g203 s_1 chars_2 K σ) : callW Tryz.prog 203 [.string s_1, .string chars_2] K σ := call_of_body mixed Tryz.func203 (by rw [e203]; exact h)


def an204 : Ann := (.q (.q (.n (.q (.blk (.loop [(2,.s),(7,.l),(8,.i)] (.n (.q (.cond .z .z)) (.n (.blk (.q (.h))) .r))))) (.q .z))))
def g204 (f_1 : Option Addr) (dir_2 : Int) (name_3 : ByteArray) (K : KH) : H -> Prop :=
 ptrW f_1 (fun b4 o5 => rdT (rdC b4 (o5 + 2)) kL (fun x6 => ptrW x6.base (fun b7 o8 => ifW (0 <= dir_2 /\ dir_2 < ((x6.len : Nat) : Int)) (rdT (rdC b7 (o8 + dir_2.toNat * 1)) kP (fun x9 => ptrW x9 (fun b10 o11 => rdT (rdC b10 (o11 + 3)) kL (fun x12 => loopW [.sc .str, .sc .slc, .sc (.int .i64)] (fun (R13 : ByteArray -> Sl -> Int -> H -> Prop) => (fun (name_14 : ByteArray) (l_15 : Sl) (i_16 : Int) => brW (decide ((i_16 : Int) < ((l_15.len : Nat) : Int))) (ptrW l_15.base (fun b17 o18 =>
 ifW (0 <= i_16 /\ i_16 < ((l_15.len : Nat) : Int)) (rdT (rdC b17 (o18 + i_16.toNat * 2)) kS (fun (x19 : ByteArray) => brW (strEq x19 name_14) (ptrW l_15.base (fun b20 o21 => ifW (0 <= i_16 /\ i_16 < ((l_15.len : Nat) : Int)) (rdT (rdC b20 (o21 + i_16.toNat * 2 + 1)) kI (fun (x22 : Int) => K (.int .i64 x22))))) (R13 name_14 l_15 (IntKind.i64.wrap (i_16 + 1))))))) (K (.int .i64 (-1))))) (fun (R23 : ByteArray -> Sl -> Int -> H -> Prop) => R23 name_3 x12 0))))))))
theorem e204 (f_1 : Option Addr) (dir_2 : Int) (name_3 : ByteArray) (K : KH) : bodyF Tryz.prog tau Tryz.f204 an204 [.pointer f_1, .int .i64 dir_2, .string name_3] K = g204 f_1 dir_2 name_3 K := by kernel_rfl
theorem c204 (f_1 : Option Addr) (dir_2 : Int) (name_3 : ByteArray) {K : KH} {σ : H} (h : g204 f_1 dir_2 name_3 K σ) : callW Tryz.prog 204 [.pointer f_1, .int .i64 dir_2, .string name_3] K σ := call_of_body mixed Tryz.func204 (by rw [e204]; exact h)


def an213 : Ann := (.q (.q .z))
def g213 (x_1 : Int) (K : KH) : H -> Prop :=
 K (.bool (((bitV .and .i64 x_1 (IntKind.i64.wrap (x_1 - 1))) : Int) == 0))
theorem e213 (x_1 : Int) (K : KH) : bodyF Tryz.prog tau Tryz.f213 an213 [.int .i64 x_1] K = g213 x_1 K := by kernel_rfl
theorem c213 (x_1 : Int) {K : KH} {σ : H} (h : g213 x_1 K σ) : callW Tryz.prog 213 [.int .i64 x_1] K σ := call_of_body mixed Tryz.func213 (by rw [e213]; exact h)


def an214 : Ann := (.q (.n (.h) (.q .z)))
def g214 (x_1 : Int) (K : KH) : H -> Prop :=
 callT Tryz.prog 223 [.int .u64 x_1] kI (fun (x2 : Int) => K (.int .i64 x2))
theorem e214 (x_1 : Int) (K : KH) : bodyF Tryz.prog tau Tryz.f214 an214 [.int .u64 x_1] K = g214 x_1 K := by kernel_rfl
theorem c214 (x_1 : Int) {K : KH} {σ : H} (h : g214 x_1 K σ) : callW Tryz.prog 214 [.int .u64 x_1] K σ := call_of_body mixed Tryz.func214 (by rw [e214]; exact h)


def an215 : Ann := (.q (.q (.q .z)))
def g215 (__1 : Int) (n_2 : Int) (n_3 : Int) (n_4 : ByteArray) (n_5 : Int) (x6 : Option Addr) (K : KH) : H -> Prop :=
 alW (.cells ⟨[.int .i64 n_2, .int .i64 n_3, .string n_4, .int .i64 n_5]⟩ 113 (0, 0)) (fun b7 => rdT (rdA 4 b7 0) (.one (.agg [(.int .i64), (.int .i64), .str, (.int .i64)])) (fun (x8 : Int) (x9 : Int) (x10 : ByteArray) (x11 : Int) => stW Tryz.prog 113 (.pointer x6) (.agg ⟨[.int .i64 x8, .int .i64 x9, .string x10, .int .i64 x11]⟩) (K (.int .i64 0))))
theorem e215 (__1 : Int) (n_2 : Int) (n_3 : Int) (n_4 : ByteArray) (n_5 : Int) (x6 : Option Addr) (K : KH) : bodyF Tryz.prog tau Tryz.f215 an215 [.int .i64 __1, .agg ⟨[.int .i64 n_2, .int .i64 n_3, .string n_4, .int .i64 n_5]⟩, .pointer x6] K = g215 __1 n_2 n_3 n_4 n_5 x6 K := by kernel_rfl
theorem c215 (__1 : Int) (n_2 : Int) (n_3 : Int) (n_4 : ByteArray) (n_5 : Int) (x6 : Option Addr) {K : KH} {σ : H} (h : g215 __1 n_2 n_3 n_4 n_5 x6 K σ) : callW Tryz.prog 215 [.int .i64 __1, .agg ⟨[.int .i64 n_2, .int .i64 n_3, .string n_4, .int .i64 n_5]⟩, .pointer x6] K σ := call_of_body mixed Tryz.func215 (by rw [e215]; exact h)


def an217 : Ann := (.q (.q .z))
def g217 (s_1 : ByteArray) (sep_2 : ByteArray) (sepSave_3 : Int) (K : KH) : H -> Prop :=
 alW (.cells ⟨[.string s_1]⟩ 9 (0, 0)) (fun b4 => alW (.cells ⟨[.string sep_2]⟩ 9 (0, 0)) (fun b5 => alW (.cells ⟨[.int .i64 sepSave_3]⟩ 3 (0, 0)) (fun b6 => K (.func (.func 224) ⟨[]⟩ ⟨[.pointer (some ⟨b5, 0, none⟩), .pointer (some ⟨b4, 0, none⟩), .pointer (some ⟨b6, 0, none⟩)]⟩))))
theorem e217 (s_1 : ByteArray) (sep_2 : ByteArray) (sepSave_3 : Int) (K : KH) : bodyF Tryz.prog tau Tryz.f217 an217 [.string s_1, .string sep_2, .int .i64 sepSave_3] K = g217 s_1 sep_2 sepSave_3 K := by kernel_rfl
theorem c217 (s_1 : ByteArray) (sep_2 : ByteArray) (sepSave_3 : Int) {K : KH} {σ : H} (h : g217 s_1 sep_2 sepSave_3 K σ) : callW Tryz.prog 217 [.string s_1, .string sep_2, .int .i64 sepSave_3] K σ := call_of_body mixed Tryz.func217 (by rw [e217]; exact h)


def an218 : Ann := (.q (.q .z))
def g218 (bufLen_1 : Int) (K : KH) : H -> Prop :=
 K (.bool (decide ((bufLen_1 : Int) > 8)))
theorem e218 (bufLen_1 : Int) (K : KH) : bodyF Tryz.prog tau Tryz.f218 an218 [.int .i64 bufLen_1] K = g218 bufLen_1 K := by kernel_rfl
theorem c218 (bufLen_1 : Int) {K : KH} {σ : H} (h : g218 bufLen_1 K σ) : callW Tryz.prog 218 [.int .i64 bufLen_1] K σ := call_of_body mixed Tryz.func218 (by rw [e218]; exact h)


def an223 : Ann := (.q (.n (.q (.h)) (.q .z)))
def g223 (x_1 : Int) (K : KH) : H -> Prop :=
 brW ((x_1 : Int) == 0) (K (.int .i64 64)) (ifW (0 <= (58 : Int)) (ifW (0 <= Int.fdiv (IntKind.u64.wrap ((bitV .and .u64 x_1 (IntKind.u64.wrap (0 - x_1))) * 285870213051353865)) (2 ^ min (Int.toNat 58) (IntKind.bits .u64)) /\ Int.fdiv (IntKind.u64.wrap ((bitV .and .u64 x_1 (IntKind.u64.wrap (0 - x_1))) * 285870213051353865)) (2 ^ min (Int.toNat 58) (IntKind.bits .u64)) < ((64 : Nat) : Int))
 (rdT (rdC 7 (0 + (Int.fdiv (IntKind.u64.wrap ((bitV .and .u64 x_1 (IntKind.u64.wrap (0 - x_1))) * 285870213051353865)) (2 ^ min (Int.toNat 58) (IntKind.bits .u64)) : Int).toNat * 1)) kC (fun (x2 : Int) => K (.int .i64 (IntKind.i64.wrap x2))))))
theorem e223 (x_1 : Int) (K : KH) : bodyF Tryz.prog tau Tryz.f223 an223 [.int .u64 x_1] K = g223 x_1 K := by kernel_rfl
theorem c223 (x_1 : Int) {K : KH} {σ : H} (h : g223 x_1 K σ) : callW Tryz.prog 223 [.int .u64 x_1] K σ := call_of_body mixed Tryz.func223 (by rw [e223]; exact h)


def an224 : Ann := (.n (.q (.cond (.n (.blk (.loop [(0,.w),(2,.p)] (.n (.q (.cond .z .z)) (.blk (.q (.n (.q (.cond .z .z)) .r)))))) .z) .z)) (.n (.blk (.loop [(0,.w),(1,.p),(2,.p),(3,.p)] (.blk (.q (.n (.q (.cond .z .z)) (.q (.n (.q (.cond .z .z)) .r))))))) .r))
def g224 (yield_1 : Value) (x2 : Option Addr) (x3 : Option Addr) (x4 : Option Addr) (K : KH) : H -> Prop :=
 ptrW x2 (fun b5 o6 => rdT (rdC b5 o6) kS (fun (x7 : ByteArray) => brW ((((x7.size : Nat) : Int) : Int) == 0) (loopW [.sc .raw, .sc .ptr] (fun (R8 : Value -> Option Addr -> H -> Prop) => (fun yield_9 x10 => ptrW x10 (fun b11 o12 => rdT (rdC b11 o12) kS (fun (x13 : ByteArray) => brW (decide ((((x13.size : Nat) : Int) : Int) > 0)) (ptrW x10 (fun b14 o15 => rdT (rdC b14 o15) kS (fun (x16 : ByteArray) =>
 callT Tryz.prog 66 [.string x16] (.tup [.sc (.int .i32), .sc (.int .i64)]) (fun (_x17 : Int) (x18 : Int) => ptrW x10 (fun b19 o20 => rdT (rdC b19 o20) kS (fun (x21 : ByteArray) => ifW (bndOk (some x18) x21.size /\ bndOk none (x18.toNat)) (cvalT Tryz.prog yield_9 [.string (x21.extract 0 x18.toNat)] kB (fun x22 => brW (!x22) (K (.tuple ⟨[]⟩)) (ptrW x10 (fun b23 o24 => rdT (rdC b23 o24) kS (fun (x25 : ByteArray) => ifW (bndOk none x25.size /\ bndOk (some x18) (x25.size))
 (stW Tryz.prog 9 (.pointer x10) (.string (x25.extract x18.toNat x25.size)) (R8 yield_9 x10))))))))))))) (K (.tuple ⟨[]⟩)))))) (fun (R26 : Value -> Option Addr -> H -> Prop) => R26 yield_1 x3)) (loopW [.sc .raw, .sc .ptr, .sc .ptr, .sc .ptr] (fun (R27 : Value -> Option Addr -> Option Addr -> Option Addr -> H -> Prop) => (fun yield_28 x29 x30 x31 => ptrW x30 (fun b32 o33 => rdT (rdC b32 o33) kS (fun (x34 : ByteArray) => ptrW x29 (fun b35 o36 => rdT (rdC b35 o36) kS (fun (x37 : ByteArray) =>
 callT Tryz.prog 65 [.string x34, .string x37] kI (fun (x38 : Int) => brW (decide ((x38 : Int) < 0)) (ptrW x30 (fun b39 o40 => rdT (rdC b39 o40) kS (fun (x41 : ByteArray) => cvalT Tryz.prog yield_28 [.string x41] kB (fun _x42 => K (.tuple ⟨[]⟩))))) (ptrW x30 (fun b43 o44 => rdT (rdC b43 o44) kS (fun (x45 : ByteArray) => ptrW x31 (fun b46 o47 => rdT (rdC b46 o47) kI (fun (x48 : Int) => ifW (bndOk (some (IntKind.i64.wrap (x38 + x48))) x45.size /\ bndOk none ((IntKind.i64.wrap (x38 + x48)).toNat))
 (cvalT Tryz.prog yield_28 [.string (x45.extract 0 ((IntKind.i64.wrap (x38 + x48)).toNat))] kB (fun x49 => brW (!x49) (K (.tuple ⟨[]⟩)) (ptrW x30 (fun b50 o51 => rdT (rdC b50 o51) kS (fun (x52 : ByteArray) => ptrW x29 (fun b53 o54 => rdT (rdC b53 o54) kS (fun (x55 : ByteArray) => ifW (bndOk none x52.size /\ bndOk (some (IntKind.i64.wrap (x38 + ((x55.size : Nat) : Int)))) (x52.size))
 (stW Tryz.prog 9 (.pointer x30) (.string (x52.extract ((IntKind.i64.wrap (x38 + ((x55.size : Nat) : Int))).toNat) x52.size)) (R27 yield_28 x29 x30 x31))))))))))))))))))))) (fun (R56 : Value -> Option Addr -> Option Addr -> Option Addr -> H -> Prop) => R56 yield_1 x2 x3 x4))))
theorem e224 (yield_1 : Value) (x2 : Option Addr) (x3 : Option Addr) (x4 : Option Addr) (K : KH) : bodyF Tryz.prog tau Tryz.f224 an224 [yield_1, .pointer x2, .pointer x3, .pointer x4] K = g224 yield_1 x2 x3 x4 K := by kernel_rfl
theorem c224 (yield_1 : Value) (x2 : Option Addr) (x3 : Option Addr) (x4 : Option Addr) {K : KH} {σ : H} (h : g224 yield_1 x2 x3 x4 K σ) : callW Tryz.prog 224 [yield_1, .pointer x2, .pointer x3, .pointer x4] K σ := call_of_body mixed Tryz.func224 (by rw [e224]; exact h)

end Go.Proofs.YthclifcpjnhmjaaGreatDoor

namespace Go.Proofs.YthclifcpjnhmjaaGreatDoor
open Go Go.HL
end Go.Proofs.YthclifcpjnhmjaaGreatDoor

set_option maxRecDepth 100000
namespace Go.Proofs.YthclifcpjnhmjaaGreatDoor
open Go Go.HL Go.Wk
attribute [local irreducible] ptrW ifW brW andW rdT alW letJ stW muW biW vaW imW callT cvalT app callW invW callVW sizeT oW nilF oneK loopW rfW funW begW roundK exW idxW Gr Put
structure Nd where
 blk : Nat
 kind : Int
 mode : Int
 data : ByteArray
 links : Int
 up : Int
 eb : Option Nat
 ents : List (ByteArray × Int)
structure Tb where
 qi : Int
 qb : Int
 ui : Int
 ub : Int
 last : Int
 mb : Nat
 nodes : List (Int × Nd)
def Nd.cells (n : Nd) : Obj := .cells ⟨[.int .i64 n.kind, .int .i64 n.mode, .string n.data, .int .i64 n.links, .int .i64 n.up, .map n.eb]⟩ 167 (0, 0)
def Nd.ptr (n : Nd) : Value := .pointer (some ⟨n.blk, 0, none⟩)
def Tb.cells (T : Tb) : Obj := .cells ⟨[.int .i64 T.qi, .int .i64 T.qb, .int .i64 T.ui, .int .i64 T.ub, .map (some T.mb), .int .i64 T.last]⟩ 163 (0, 0)
def valI (n : Int) : Value := .int .i64 n
structure NdAt (σ : H) (n : Nd) : Prop where
 cells : σ n.blk = some n.cells
 ents : ∀ e, n.eb = some e -> MapAt σ e (encL kkS valI n.ents)
 none : n.eb = none -> n.ents = []
 dir : n.kind = 2 -> n.eb ≠ Option.none
def Tb.get (T : Tb) (ino : Int) : Option Nd := lk ino T.nodes
structure TAt (σ : H) (bt : Nat) (T : Tb) : Prop where
 cells : σ bt = some T.cells
 nodes : MapAt σ T.mb (encL kkI Nd.ptr T.nodes)
 each : ∀ i n, T.get i = some n -> NdAt σ n
theorem NdAt.gr {σ σ' : H} {n : Nd} (h : NdAt σ n) (hg : Gr σ σ') : NdAt σ' n := ⟨hg.get h.cells, fun e he => (h.ents e he).gr hg, h.none, h.dir⟩
theorem TAt.gr {σ σ' : H} {bt : Nat} {T : Tb} (h : TAt σ bt T) (hg : Gr σ σ') : TAt σ' bt T := ⟨hg.get h.cells, h.nodes.gr hg, fun i n hn => (h.each i n hn).gr hg⟩
theorem TAt.get {σ : H} {bt : Nat} {T : Tb} (h : TAt σ bt T) {ino : Int} {n : Nd} (hn : T.get ino = some n) : NdAt σ n := h.each ino n hn
theorem get_ptr (o : Option Nd) : (o.map Nd.ptr).getD (.pointer none) = .pointer (o.map fun n => ⟨n.blk, 0, none⟩) := by cases o <;> rfl

theorem s_get {σ : H} {bt : Nat} {T : Tb} (hT : TAt σ bt T) (ino : Int) {K : KH} (hK : K (.pointer ((T.get ino).map fun n => ⟨n.blk, 0, none⟩)) σ) : callW Tryz.prog 127 [.pointer (some ⟨bt, 0, none⟩), .int .i64 ino] K σ := by
 refine c127 _ _ ?_
 unfold g127
 refine br_f rfl ?_
 refine ptr_i ?_
 refine rd_M (rdC_of hT.cells (by rfl)) ?_
 refine rd_P (x := (T.get ino).map fun n => ⟨n.blk, 0, none⟩) ?_ hK
 rw [<- get_ptr]
 exact rdM_at (kk := kkI) hT.nodes _ false ino
def Tb.find (T : Tb) (dir : Int) (name : ByteArray) : Option Int := (T.get dir).bind fun n => lk name n.ents
theorem s_Find {σ : H} {bt : Nat} {T : Tb} (hT : TAt σ bt T) (dir : Int) (name : ByteArray) {K : KH} (hK : K (.tuple ⟨[.int .i64 ((T.find dir name).getD 0), .bool (T.find dir name).isSome]⟩) σ) :
 callW Tryz.prog 159 [.pointer (some ⟨bt, 0, none⟩), .int .i64 dir, .string name] K σ := by
 refine c159 _ _ _ ?_
 unfold g159
 refine call_i (s_get hT dir ?_)
 refine app_P ?_
 unfold Tb.find at hK
 cases hn : T.get dir with
 | none => rw [hn] at hK; exact br_t rfl hK
 | some n =>
  rw [hn] at hK
  have hN := hT.get hn
  refine br_f rfl (ptr_i ?_)
  refine rd_M (rdC_of hN.cells (by rfl)) ?_
  cases he : n.eb with
  | none =>
   have := hN.none he
   simp only [Option.bind_some, this] at hK
   exact rd_G rfl (app_IB hK)
  | some e =>
   refine rd_G (rdM_at (kk := kkS) (hN.ents e he) _ true name) ?_
   have hv : ((lk name n.ents).map valI).getD (.int .i64 0) = .int .i64 ((lk name n.ents).getD 0) := by cases lk name n.ents <;> rfl
   rw [hv]
   exact app_IB hK
theorem s_must (is : Bool) (e : Int) {σ : H} {K : KH} (hK : K (.int .i64 (if is then 0 else e)) σ) : callW Tryz.prog 119 [.bool is, .int .i64 e] K σ := by
 refine c119 _ _ ?_
 unfold g119
 cases is
 ·exact br_t rfl hK
 ·exact br_f rfl hK
theorem s_there (t : Option Addr) {σ : H} {K : KH} (hK : K (.int .i64 (if t.isSome then 0 else 1)) σ) : callW Tryz.prog 121 [.pointer t] K σ := by
 refine c121 _ ?_
 unfold g121
 refine call_i (s_must _ _ ?_)
 refine app_I ?_
 cases t <;> exact hK
def Tb.up (T : Tb) (dir : Int) : Int := ((T.get dir).map (·.up)).getD 0
theorem s_Up {σ : H} {bt : Nat} {T : Tb} (hT : TAt σ bt T) (dir : Int) {K : KH} (hK : K (.int .i64 (T.up dir)) σ) : callW Tryz.prog 132 [.pointer (some ⟨bt, 0, none⟩), .int .i64 dir] K σ := by
 refine c132 _ _ ?_
 unfold g132
 refine call_i (s_get hT dir (app_P ?_))
 unfold Tb.up at hK
 cases hn : T.get dir with
 | none => rw [hn] at hK; exact br_t rfl hK
 | some n =>
  rw [hn] at hK
  have hN := hT.get hn
  refine br_f rfl (ptr_i ?_)
  exact rd_I (rdC_of hN.cells (by rfl)) hK
theorem s_Root (bt : Addr) {σ : H} {K : KH} (hK : K (.int .i64 1) σ) : callW Tryz.prog 115 [.pointer (some bt)] K σ := by
 refine c115 _ ?_
 unfold g115
 exact br_f rfl hK

def Tb.dirE (T : Tb) (ino : Int) : Int := match T.get ino with
 | none => 5
 | some n => if n.kind == 2 then 0 else 8
theorem s_dir1 {σ : H} {bt : Nat} {T : Tb} (hT : TAt σ bt T) {b1 b2 : Nat} {ino : Int} {t1 t2 : TypeId} (h1 : σ b1 = some (.cells ⟨[.pointer (some ⟨bt, 0, none⟩)]⟩ t1 (0, 0))) (h2 : σ b2 = some (.cells ⟨[.int .i64 ino]⟩ t2 (0, 0))) {K : KH}
 (hK : K (.int .i64 (T.dirE ino)) σ) : callW Tryz.prog 160 [.pointer (some ⟨b1, 0, none⟩), .pointer (some ⟨b2, 0, none⟩)] K σ := by
 refine c160 _ _ ?_
 unfold g160
 (repeat (first|refine ptr_i ?_|refine z2 ?_|(refine al_i ?_;intro _ _ _ _ _)|refine z4 ?_|refine z5 ?_|(refine z6 ?_;intro _ _)|refine app_P ?_|refine app_I ?_|refine app_S ?_|refine app_B ?_|refine app_M ?_|refine app_L ?_|refine app_U ?_|refine app_R ?_|(refine app_of rfl ?_;try dsimp only)))
 refine call_i (s_get hT ino (app_P ?_))
 unfold Tb.dirE at hK
 cases hn : T.get ino with
 | none => rw [hn] at hK; exact br_t rfl hK
 | some n =>
  rw [hn] at hK
  have hN := hT.get hn
  refine br_f rfl (ptr_i ?_)
  refine rd_I (rdC_of hN.cells (by rfl)) ?_
  exact call_i (s_must _ _ (app_I hK))
theorem s_free1 {σ : H} {bt : Nat} {T : Tb} (hT : TAt σ bt T) {b1 b2 b3 : Nat} {dir : Int} {name : ByteArray} {t1 t2 t3 : TypeId} (h1 : σ b1 = some (.cells ⟨[.pointer (some ⟨bt, 0, none⟩)]⟩ t1 (0, 0))) (h2 : σ b2 = some (.cells ⟨[.int .i64 dir]⟩ t2 (0, 0))) (h3 : σ b3 = some (.cells ⟨[.string name]⟩ t3 (0, 0))) {K : KH}
 (hK : K (.int .i64 (if (T.find dir name).isSome then 6 else 0)) σ) : callW Tryz.prog 163 [.pointer (some ⟨b1, 0, none⟩), .pointer (some ⟨b2, 0, none⟩), .pointer (some ⟨b3, 0, none⟩)] K σ := by
 refine c163 _ _ _ ?_
 unfold g163
 (repeat (first|refine ptr_i ?_|refine z2 ?_|(refine al_i ?_;intro _ _ _ _ _)|refine z4 ?_|refine z5 ?_|(refine z6 ?_;intro _ _)|refine app_P ?_|refine app_I ?_|refine app_S ?_|refine app_B ?_|refine app_M ?_|refine app_L ?_|refine app_U ?_|refine app_R ?_|(refine app_of rfl ?_;try dsimp only)))
 refine call_i (s_Find hT dir name (app_IB ?_))
 refine call_i (s_must _ _ (app_I ?_))
 cases h : (T.find dir name).isSome <;> simpa [h] using hK
def Tb.fileE (T : Tb) (ino : Int) : Int := match T.get ino with
 | none => 5
 | some n => if n.kind == 2 then 7 else if n.kind == 1 then 0 else 2
theorem s_file1 {σ : H} {bt : Nat} {T : Tb} (hT : TAt σ bt T) {b1 b2 : Nat} {ino : Int} {t1 t2 : TypeId} (h1 : σ b1 = some (.cells ⟨[.pointer (some ⟨bt, 0, none⟩)]⟩ t1 (0, 0))) (h2 : σ b2 = some (.cells ⟨[.int .i64 ino]⟩ t2 (0, 0))) {K : KH}
 (hK : K (.int .i64 (T.fileE ino)) σ) : callW Tryz.prog 165 [.pointer (some ⟨b1, 0, none⟩), .pointer (some ⟨b2, 0, none⟩)] K σ := by
 refine c165 _ _ ?_
 unfold g165
 (repeat (first|refine ptr_i ?_|refine z2 ?_|(refine al_i ?_;intro _ _ _ _ _)|refine z4 ?_|refine z5 ?_|(refine z6 ?_;intro _ _)|refine app_P ?_|refine app_I ?_|refine app_S ?_|refine app_B ?_|refine app_M ?_|refine app_L ?_|refine app_U ?_|refine app_R ?_|(refine app_of rfl ?_;try dsimp only)))
 refine call_i (s_get hT ino (app_P ?_))
 unfold Tb.fileE at hK
 cases hn : T.get ino with
 | none => rw [hn] at hK; exact br_t rfl hK
 | some n =>
  rw [hn] at hK
  have hN := hT.get hn
  refine br_f rfl (ptr_i ?_)
  refine rd_I (rdC_of hN.cells (by rfl)) ?_
  cases hk : (n.kind == 2) with
  | true => simp only [hk] at hK; exact br_t rfl hK
  | false =>
   simp only [hk] at hK
   refine br_f rfl (ptr_i ?_)
   refine rd_I (rdC_of hN.cells (by rfl)) ?_
   exact call_i (s_must _ _ (app_I hK))
theorem sz_int : sizeT Tryz.prog 3 = some 1 := by kernel_rfl
theorem sz_string : sizeT Tryz.prog 9 = some 1 := by kernel_rfl
theorem sz_bool : sizeT Tryz.prog 4 = some 1 := by kernel_rfl
theorem sz_Inode : sizeT Tryz.prog 113 = some 4 := by kernel_rfl
theorem sz_Quota : sizeT Tryz.prog 50 = some 2 := by kernel_rfl
theorem sz_MSI : sizeT Tryz.prog 165 = some 1 := by kernel_rfl
def Tb.node (T : Tb) (ino : Int) : List Value := match T.get ino with
 | none => [.int .i64 0, .int .i64 0, .string ⟨⟨[]⟩⟩, .int .i64 0]
 | some n => [.int .i64 n.kind, .int .i64 n.mode, .string n.data, .int .i64 n.links]
theorem s_Node {σ : H} {bt : Nat} {T : Tb} (hT : TAt σ bt T) (ino : Int) {K : KH} (hK : K (.tuple ⟨[.agg ⟨T.node ino⟩, .bool (T.get ino).isSome]⟩) σ) : callW Tryz.prog 70 [.pointer (some ⟨bt, 0, none⟩), .int .i64 ino] K σ := by
 refine pure_i _ hK (c70 _ _ ?_)
 unfold g70
 refine al_i ?_
 intro b σ1 hg hb hn
 refine call_i (s_get (hT.gr hg) ino (app_P ?_))
 unfold Tb.node
 cases hnn : T.get ino with
 | none =>
  refine br_t rfl ?_
  (repeat (first|refine ptr_i ?_|refine z2 ?_|(refine al_i ?_;intro _ _ _ _ _)|refine z4 ?_|refine z5 ?_|(refine z6 ?_;intro _ _)|refine app_P ?_|refine app_I ?_|refine app_S ?_|refine app_B ?_|refine app_M ?_|refine app_L ?_|refine app_U ?_|refine app_R ?_|(refine app_of rfl ?_;try dsimp only)))
  exact ⟨rfl, by repeat (first | exact Gr.refl _ | assumption | refine Gr.trans ?_ ‹_› | refine Gr.putF ?_ ‹_› (none_of ?_ ‹_›))⟩
 | some n =>
  have hN := ((hT.gr hg).get hnn).cells
  unfold Nd.cells at hN
  refine br_f rfl (ptr_i ?_)
  (repeat (first|refine ptr_i ?_|refine z2 ?_|(refine al_i ?_;intro _ _ _ _ _)|refine z4 ?_|refine z5 ?_|(refine z6 ?_;intro _ _)|refine app_P ?_|refine app_I ?_|refine app_S ?_|refine app_B ?_|refine app_M ?_|refine app_L ?_|refine app_U ?_|refine app_R ?_|(refine app_of rfl ?_;try dsimp only)))
  exact ⟨rfl, by repeat (first | exact Gr.refl _ | assumption | refine Gr.trans ?_ ‹_› | refine Gr.putF ?_ ‹_› (none_of ?_ ‹_›))⟩
theorem wrap_id {x : Int} (h1 : -9223372036854775808 <= x) (h2 : x <= 9223372036854775807) : IntKind.i64.wrap x = x := by
 rw [IntKind.wrap_i64]; omega
def Pu (σ : H) (f : Value) (e : Int) : Prop := ∀ K : Value -> H -> Prop, K (.int .i64 e) σ -> callVW Tryz.prog f [] K σ
def FirstOk (σ : H) : List Value -> List Int -> Prop
 | [], [] => True
 | f :: fs, e :: es => Pu σ f e /\ (e = 0 -> FirstOk σ fs es)
 | _, _ => False
theorem wrapS {i : Nat} (h : i < 9000000000000000000) : IntKind.i64.wrap ((i : Int) + 1) = ((i + 1 : Nat) : Int) := by rw [wrap_id (by omega) (by omega)]; omega
theorem s_first {σ : H} {b : Nat} {fs : List Value} {es : List Int} {t : TypeId} (hb : σ b = some (.cells ⟨fs⟩ t (0, 0))) (h : FirstOk σ fs es) (hn : fs.length <= 1000) {K : KH} (hK : K (.int .i64 (firstE es)) σ) :
 callW Tryz.prog 120 [.slice (some ⟨b, 0, none⟩) fs.length fs.length] K σ := by
 refine c120 ⟨some ⟨b, 0, none⟩, _, _⟩ ?_
 unfold g120
 refine loop_i ?_
 intro R hR
 have key : ∀ (gs : List Value) (ds : List Int) (i : Nat), fs.drop i = gs -> FirstOk σ gs ds -> K (.int .i64 (firstE ds)) σ -> R ⟨some ⟨b, 0, none⟩, fs.length, fs.length⟩ ((fs.length : Nat) : Int) (i : Int) σ := by
  intro gs
  induction gs with
  | nil =>
   intro ds i hd hok hk
   have hge : fs.length <= i := by simpa using hd
   refine hR _ _ _ _ ?_
   cases ds with
   | cons d ds => exact hok.elim
   | nil => exact br_f (by simp; omega) hk
  | cons f gs ih =>
   intro ds i hd hok hk
   cases ds with
   | nil => exact hok.elim
   | cons d ds =>
    obtain ⟨hp, hok⟩ := hok
    have hlt : i < fs.length := by
     rcases Nat.lt_or_ge i fs.length with h | h
     ·exact h
     ·rw [List.drop_eq_nil_of_le h] at hd; cases hd
    have hf : fs[i]? = some f := by
     have : (fs.drop i)[0]? = some f := by rw [hd]; rfl
     simpa using this
    refine hR _ _ _ _ ?_
    refine br_t (by simpa using hlt) ?_
    refine ptr_i (if_i ⟨by omega, by show (i : Int) < (fs.length : Int); omega⟩ ?_)
    refine rd_R (rdC_of (v := f) hb (by simpa using hf)) ?_
    refine cvalv_i (hp _ (app_I ?_))
    by_cases he : d = 0
    ·subst he
     refine br_f rfl ?_
     rw [wrap_id (by omega) (by omega)]
     have h2 : fs.drop (i + 1) = gs := by rw [<- List.drop_drop, hd]; rfl
     exact ih ds (i + 1) h2 (hok rfl) (by simpa [firstE] using hk)
    ·refine br_t (by simpa using he) ?_
     simpa [firstE, he] using hk
 exact key fs es 0 rfl h hK
theorem pu_of {σ : H} {g : FuncId} {as_ cs : List Value} {e : Int} (hg : isGo Tryz.prog g = true) (h : ∀ K : Value -> H -> Prop, K (.int .i64 e) σ -> callW Tryz.prog g (as_ ++ cs) K σ) : Pu σ (.func (.func g) ⟨as_⟩ ⟨cs⟩) e := by
 intro K hk
 unfold callVW
 simp only [hg]
 simpa using h K hk
theorem go_there : isGo Tryz.prog 121 = true := by kernel_rfl
theorem go_dir1 : isGo Tryz.prog 160 = true := by kernel_rfl
theorem go_named1 : isGo Tryz.prog 161 = true := by kernel_rfl
theorem go_free1 : isGo Tryz.prog 163 = true := by kernel_rfl
theorem go_room1 : isGo Tryz.prog 164 = true := by kernel_rfl
theorem go_Make1 : isGo Tryz.prog 118 = true := by kernel_rfl
theorem go_Make2 : isGo Tryz.prog 125 = true := by kernel_rfl
theorem go_file1 : isGo Tryz.prog 165 = true := by kernel_rfl
theorem go_WriteT1 : isGo Tryz.prog 128 = true := by kernel_rfl
theorem go_ChmodT1 : isGo Tryz.prog 130 = true := by kernel_rfl
theorem go_ChmodT2 : isGo Tryz.prog 131 = true := by kernel_rfl

theorem s_dir {σ : H} (t : Option Addr) (ino : Int) {K : KH} (hK : ∀ b1 b2 σ', Gr σ σ' -> σ' b1 = some (.cells ⟨[.pointer t]⟩ 92 (0, 0)) -> σ' b2 = some (.cells ⟨[.int .i64 ino]⟩ 3 (0, 0)) -> K (.func (.func 160) ⟨[]⟩ ⟨[.pointer (some ⟨b1, 0, none⟩), .pointer (some ⟨b2, 0, none⟩)]⟩) σ') :
 callW Tryz.prog 122 [.pointer t, .int .i64 ino] K σ := by
 refine c122 _ _ ?_
 unfold g122
 (repeat (first|refine ptr_i ?_|refine z2 ?_|(refine al_i ?_;intro _ _ _ _ _)|refine z4 ?_|refine z5 ?_|(refine z6 ?_;intro _ _)|refine app_P ?_|refine app_I ?_|refine app_S ?_|refine app_B ?_|refine app_M ?_|refine app_L ?_|refine app_U ?_|refine app_R ?_|(refine app_of rfl ?_;try dsimp only)))
 exact hK _ _ _ (by repeat (first | exact Gr.refl _ | assumption | refine Gr.trans ?_ ‹_› | refine Gr.putF ?_ ‹_› (none_of ?_ ‹_›))) (by exact gA) (by exact gA)
theorem s_file {σ : H} (t : Option Addr) (ino : Int) {K : KH} (hK : ∀ b1 b2 σ', Gr σ σ' -> σ' b1 = some (.cells ⟨[.pointer t]⟩ 92 (0, 0)) -> σ' b2 = some (.cells ⟨[.int .i64 ino]⟩ 3 (0, 0)) -> K (.func (.func 165) ⟨[]⟩ ⟨[.pointer (some ⟨b1, 0, none⟩), .pointer (some ⟨b2, 0, none⟩)]⟩) σ') :
 callW Tryz.prog 129 [.pointer t, .int .i64 ino] K σ := by
 refine c129 _ _ ?_
 unfold g129
 (repeat (first|refine ptr_i ?_|refine z2 ?_|(refine al_i ?_;intro _ _ _ _ _)|refine z4 ?_|refine z5 ?_|(refine z6 ?_;intro _ _)|refine app_P ?_|refine app_I ?_|refine app_S ?_|refine app_B ?_|refine app_M ?_|refine app_L ?_|refine app_U ?_|refine app_R ?_|(refine app_of rfl ?_;try dsimp only)))
 exact hK _ _ _ (by repeat (first | exact Gr.refl _ | assumption | refine Gr.trans ?_ ‹_› | refine Gr.putF ?_ ‹_› (none_of ?_ ‹_›))) (by exact gA) (by exact gA)
theorem s_named {σ : H} (name : ByteArray) {K : KH} (hK : ∀ b1 σ', Gr σ σ' -> σ' b1 = some (.cells ⟨[.string name]⟩ 9 (0, 0)) -> K (.func (.func 161) ⟨[]⟩ ⟨[.pointer (some ⟨b1, 0, none⟩)]⟩) σ') :
 callW Tryz.prog 123 [.string name] K σ := by
 refine c123 _ ?_
 unfold g123
 (repeat (first|refine ptr_i ?_|refine z2 ?_|(refine al_i ?_;intro _ _ _ _ _)|refine z4 ?_|refine z5 ?_|(refine z6 ?_;intro _ _)|refine app_P ?_|refine app_I ?_|refine app_S ?_|refine app_B ?_|refine app_M ?_|refine app_L ?_|refine app_U ?_|refine app_R ?_|(refine app_of rfl ?_;try dsimp only)))
 exact hK _ _ (by repeat (first | exact Gr.refl _ | assumption | refine Gr.trans ?_ ‹_› | refine Gr.putF ?_ ‹_› (none_of ?_ ‹_›))) (by exact gA)
theorem s_free {σ : H} (t : Option Addr) (dir : Int) (name : ByteArray) {K : KH} (hK : ∀ b1 b2 b3 σ', Gr σ σ' -> σ' b1 = some (.cells ⟨[.pointer t]⟩ 92 (0, 0)) -> σ' b2 = some (.cells ⟨[.int .i64 dir]⟩ 3 (0, 0)) -> σ' b3 = some (.cells ⟨[.string name]⟩ 9 (0, 0)) -> K (.func (.func 163) ⟨[]⟩ ⟨[.pointer (some ⟨b1, 0, none⟩), .pointer (some ⟨b2, 0, none⟩), .pointer (some ⟨b3, 0, none⟩)]⟩) σ') :
 callW Tryz.prog 124 [.pointer t, .int .i64 dir, .string name] K σ := by
 refine c124 _ _ _ ?_
 unfold g124
 (repeat (first|refine ptr_i ?_|refine z2 ?_|(refine al_i ?_;intro _ _ _ _ _)|refine z4 ?_|refine z5 ?_|(refine z6 ?_;intro _ _)|refine app_P ?_|refine app_I ?_|refine app_S ?_|refine app_B ?_|refine app_M ?_|refine app_L ?_|refine app_U ?_|refine app_R ?_|(refine app_of rfl ?_;try dsimp only)))
 exact hK _ _ _ _ (by repeat (first | exact Gr.refl _ | assumption | refine Gr.trans ?_ ‹_› | refine Gr.putF ?_ ‹_› (none_of ?_ ‹_›))) (by exact gA) (by exact gA) (by exact gA)
theorem s_room {σ : H} (t : Option Addr) (i n : Int) {K : KH} (hK : ∀ b1 b2 b3 σ', Gr σ σ' -> σ' b1 = some (.cells ⟨[.pointer t]⟩ 92 (0, 0)) -> σ' b2 = some (.cells ⟨[.int .i64 i]⟩ 3 (0, 0)) -> σ' b3 = some (.cells ⟨[.int .i64 n]⟩ 3 (0, 0)) -> K (.func (.func 164) ⟨[]⟩ ⟨[.pointer (some ⟨b1, 0, none⟩), .pointer (some ⟨b2, 0, none⟩), .pointer (some ⟨b3, 0, none⟩)]⟩) σ') :
 callW Tryz.prog 126 [.pointer t, .int .i64 i, .int .i64 n] K σ := by
 refine c126 _ _ _ ?_
 unfold g126
 (repeat (first|refine ptr_i ?_|refine z2 ?_|(refine al_i ?_;intro _ _ _ _ _)|refine z4 ?_|refine z5 ?_|(refine z6 ?_;intro _ _)|refine app_P ?_|refine app_I ?_|refine app_S ?_|refine app_B ?_|refine app_M ?_|refine app_L ?_|refine app_U ?_|refine app_R ?_|(refine app_of rfl ?_;try dsimp only)))
 exact hK _ _ _ _ (by repeat (first | exact Gr.refl _ | assumption | refine Gr.trans ?_ ‹_› | refine Gr.putF ?_ ‹_› (none_of ?_ ‹_›))) (by exact gA) (by exact gA) (by exact gA)
def Tb.roomE (T : Tb) (i n : Int) : Int := if IntKind.i64.wrap (T.ui + i) <= T.qi /\ IntKind.i64.wrap (T.ub + n) <= T.qb then 0 else 10
theorem s_room1 {σ : H} {bt : Nat} {T : Tb} (hT : TAt σ bt T) {b1 b2 b3 : Nat} {i n : Int} {t1 t2 t3 : TypeId} (h1 : σ b1 = some (.cells ⟨[.pointer (some ⟨bt, 0, none⟩)]⟩ t1 (0, 0))) (h2 : σ b2 = some (.cells ⟨[.int .i64 i]⟩ t2 (0, 0))) (h3 : σ b3 = some (.cells ⟨[.int .i64 n]⟩ t3 (0, 0))) {K : KH}
 (hK : K (.int .i64 (T.roomE i n)) σ) : callW Tryz.prog 164 [.pointer (some ⟨b1, 0, none⟩), .pointer (some ⟨b2, 0, none⟩), .pointer (some ⟨b3, 0, none⟩)] K σ := by
 refine c164 _ _ _ ?_
 unfold g164
 have hc := hT.cells
 unfold Tb.cells at hc
 (repeat (first|refine ptr_i ?_|refine z2 ?_|(refine al_i ?_;intro _ _ _ _ _)|refine z4 ?_|refine z5 ?_|(refine z6 ?_;intro _ _)|refine app_P ?_|refine app_I ?_|refine app_S ?_|refine app_B ?_|refine app_M ?_|refine app_L ?_|refine app_U ?_|refine app_R ?_|(refine app_of rfl ?_;try dsimp only)))
 unfold Tb.roomE at hK
 by_cases ha : IntKind.i64.wrap (T.ui + i) <= T.qi
 ·refine br_t (by simpa using ha) ?_
  (repeat (first|refine ptr_i ?_|refine z2 ?_|(refine al_i ?_;intro _ _ _ _ _)|refine z4 ?_|refine z5 ?_|(refine z6 ?_;intro _ _)|refine app_P ?_|refine app_I ?_|refine app_S ?_|refine app_B ?_|refine app_M ?_|refine app_L ?_|refine app_U ?_|refine app_R ?_|(refine app_of rfl ?_;try dsimp only)))
  refine call_i (s_must _ _ (app_I ?_))
  simpa [ha] using hK
 ·refine br_f (by simpa using ha) ?_
  refine call_i (s_must _ _ (app_I ?_))
  simpa [ha] using hK
theorem und_MIB : Tryz.prog.underlying 170 = some (.map 3 4) := by kernel_rfl
theorem und_int : Tryz.prog.underlying 3 = some (.int .i64) := by kernel_rfl
theorem und_string : Tryz.prog.underlying 9 = some .string := by kernel_rfl
def IByte : Prop := ∀ (s : ByteArray) (σ : H) (K : KH), (∀ n : Int, (decide (n < 0) = !hasNul s) -> K (.int .i64 n) σ) -> callW Tryz.prog 78 [.string s, .int .u8 0] K σ
def CAny : Prop := ∀ (s : ByteArray) (_ : s.size <= 1000000) (σ : H) (K : KH), K (.bool (badByte s)) σ -> callW Tryz.prog 162 [.string s, .string ⟨⟨[47, 0]⟩⟩] K σ
theorem s_Make1 (hI : IByte) {σ : H} {b1 b2 b3 : Nat} {data : ByteArray} {kind mode : Int} {t1 t2 t3 : TypeId} (h1 : σ b1 = some (.cells ⟨[.string data]⟩ t1 (0, 0))) (h2 : σ b2 = some (.cells ⟨[.int .i64 kind]⟩ t2 (0, 0))) (h3 : σ b3 = some (.cells ⟨[.int .i64 mode]⟩ t3 (0, 0))) {K : KH}
 (hK : K (.int .i64 (likeE kind mode data)) σ) : callW Tryz.prog 118 [.pointer (some ⟨b1, 0, none⟩), .pointer (some ⟨b2, 0, none⟩), .pointer (some ⟨b3, 0, none⟩)] K σ := by
 have hsE : sEq data ⟨⟨[]⟩⟩ = strEq data ⟨⟨[]⟩⟩ := sEq_eq _ _
 refine pure_i _ hK (c118 _ _ _ ?_)
 unfold g118
 refine j_i (fun j => ∀ σ', Gr σ σ' -> j (some ⟨b1, 0, none⟩) (some ⟨b2, 0, none⟩) (some ⟨b3, 0, none⟩) (linkOk data) σ') ?_ ?_
 ·intro σ' hg
  refine al_i ?_
  intro b σ1 hg1 hb hn
  have m0 : MapAt σ1 b (encL kkI Value.bool []) := MapAt.new hb
  refine mu_i (kk := kkI) (f := Value.bool) und_MIB und_int m0 1 true ?_
  intro o1 σ2 hp1 m1
  have hne1 : b1 ≠ b := ne_fresh (hg.get h1) hn
  have hne2 : b2 ≠ b := ne_fresh (hg.get h2) hn
  have hne3 : b3 ≠ b := ne_fresh (hg.get h3) hn
  refine ptr_i (rd_S (rdC_of (by exact gA) (by rfl)) ?_)
  refine mu_i (kk := kkI) (f := Value.bool) und_MIB und_int m1 2 _ ?_
  intro o2 σ3 hp2 m2
  refine mu_i (kk := kkI) (f := Value.bool) und_MIB und_int m2 3 _ ?_
  intro o3 σ4 hp3 m3
  refine ptr_i (rd_I (rdC_of (by exact gA) (by rfl)) ?_)
  have hv : ((lk kind (up 3 (linkOk data) (up 2 (strEq data ⟨⟨[]⟩⟩) (up 1 true [])))).map Value.bool).getD (.bool false) = .bool (kindOkE kind data) := by
   show ((lk kind [((1 : Int), true), (2, strEq data ⟨⟨[]⟩⟩), (3, linkOk data)]).map Value.bool).getD (.bool false) = _
   unfold kindOkE
   rw [hsE]
   cases lk kind [((1 : Int), true), (2, strEq data ⟨⟨[]⟩⟩), (3, linkOk data)] <;> rfl
  have hr := rdM_at (kk := kkI) m3 (.bool false) false kind
  refine rd_B (x := kindOkE kind data) (by rw [<- hv]; exact hr) ?_
  have hgr : Gr σ σ4 := by repeat (first | exact Gr.refl _ | assumption | refine Gr.trans ?_ ‹_› | refine Gr.putF ?_ ‹_› (none_of ?_ ‹_›))
  unfold likeE
  cases hk : kindOkE kind data with
  | false =>
   refine br_f rfl (call_i (s_must _ _ (app_I ⟨rfl, hgr⟩)))
  | true =>
   refine br_t rfl (ptr_i (rd_I (rdC_of (by exact gA) (by rfl)) ?_))
   by_cases hm : 0 <= mode
   ·refine br_t (by simpa using hm) (ptr_i (rd_I (rdC_of (by exact gA) (by rfl)) ?_))
    refine call_i (s_must _ _ (app_I ⟨?_, hgr⟩))
    simp [hm]
   ·refine br_f (by simpa using hm) (call_i (s_must _ _ (app_I ⟨?_, hgr⟩)))
    simp [hm]
 ·intro j hj
  refine ptr_i (rd_S (rdC_of (by exact gA) (by rfl)) ?_)
  unfold linkOk at hj
  rw [hsE] at hj
  cases he : strEq data ⟨⟨[]⟩⟩ with
  | true => refine br_f rfl ?_; rw [he] at hj; exact hj σ (Gr.refl _)
  | false =>
   rw [he] at hj
   refine br_t rfl (ptr_i (rd_S (rdC_of (by exact gA) (by rfl)) ?_))
   by_cases hl : data.size <= 255
   ·refine br_t (by simp; omega) (ptr_i (rd_S (rdC_of (by exact gA) (by rfl)) ?_))
    refine call_i (hI data σ _ ?_)
    intro n hn
    refine app_I ?_
    rw [hn]
    simpa [hl] using hj σ (Gr.refl _)
   ·refine br_f (by simp; omega) ?_
    simpa [hl] using hj σ (Gr.refl _)
def Nd.abs (n : Nd) : AN := ⟨n.kind, n.mode, n.data, n.links, n.up, n.ents⟩
def Tb.abs (T : Tb) : AT := ⟨T.qi, T.qb, T.ui, T.ub, T.last, T.nodes.map fun p => (p.1, p.2.abs)⟩
theorem abs_get (T : Tb) (i : Int) : T.abs.get i = (T.get i).map Nd.abs := lk_map _ _ _
theorem abs_find (T : Tb) (d : Int) (s : ByteArray) : T.abs.find d s = T.find d s := by
 unfold AT.find Tb.find; rw [abs_get]; cases T.get d <;> rfl
theorem abs_dirE (T : Tb) (d : Int) : T.abs.dirE d = T.dirE d := by
 unfold AT.dirE Tb.dirE; rw [abs_get]; cases T.get d <;> rfl
theorem abs_fileE (T : Tb) (d : Int) : T.abs.fileE d = T.fileE d := by
 unfold AT.fileE Tb.fileE; rw [abs_get]; cases T.get d <;> rfl
theorem abs_up (T : Tb) (d : Int) : T.abs.upOf d = T.up d := by
 unfold AT.upOf Tb.up; rw [abs_get]; cases T.get d <;> rfl
theorem abs_roomE (T : Tb) (i n : Int) : T.abs.roomE i n = T.roomE i n := rfl
structure Own (T : Tb) : Prop where
 blk : ∀ i j n m, T.get i = some n -> T.get j = some m -> n.blk = m.blk -> i = j
 eb : ∀ i j n m e, T.get i = some n -> T.get j = some m -> n.eb = some e -> m.eb = some e -> i = j
 mb : ∀ i n, T.get i = some n -> n.eb ≠ some T.mb
def Tb.own (bt : Nat) (T : Tb) (b : Nat) : Prop := b = bt \/ b = T.mb \/ ∃ i n, T.get i = some n /\ (b = n.blk \/ n.eb = some b)
def Tb.set (T : Tb) (i : Int) (n : Nd) : Tb := { T with nodes := HL.up i n T.nodes }
theorem get_set (T : Tb) (i j : Int) (n : Nd) : (T.set i n).get j = if j = i then some n else T.get j := by
 unfold Tb.set Tb.get; simp only [lk_up]
 by_cases h : j = i <;> simp [h]
theorem get_set_self (T : Tb) (i : Int) (n : Nd) : (T.set i n).get i = some n := by rw [get_set]; simp
theorem abs_set (T : Tb) (i : Int) (n : Nd) : (T.set i n).abs = T.abs.set i n.abs := by
 unfold Tb.set Tb.abs AT.set; simp only [up_map]
section
variable {σ σ' : H} {bt : Nat} {T : Tb} {b : Nat} {o : Obj}
theorem NdAt.put {m : Nd} (h : NdAt σ m) (hp : Put σ b o σ') (h1 : m.blk ≠ b) (h2 : m.eb ≠ some b) : NdAt σ' m :=
 ⟨hp.get h1 h.cells, fun e he => (h.ents e he).put hp (by intro e'; subst e'; exact h2 he), h.none, h.dir⟩
theorem ne_cm {c d : Nat} {l : List (Value × Value)} {es : Array Value} {t : TypeId} {fz : Nat × Nat} (hc : σ c = some (.cells es t fz)) (hd : MapAt σ d l) : c ≠ d := by
 obtain ⟨es', k, hd, _⟩ := hd
 intro e; subst e; rw [hc] at hd; cases hd
theorem TAt.bt_mb (h : TAt σ bt T) : bt ≠ T.mb := ne_cm h.cells h.nodes
theorem TAt.blk_bt (h : TAt σ bt T) {i : Int} {n : Nd} (hn : T.get i = some n) : n.blk ≠ bt := by
 intro e
 have h1 := (h.get hn).cells
 have h2 := h.cells
 rw [e, h2] at h1
 unfold Tb.cells Nd.cells at h1
 simp at h1
theorem TAt.blk_mb (h : TAt σ bt T) {i : Int} {n : Nd} (hn : T.get i = some n) : n.blk ≠ T.mb := ne_cm (h.get hn).cells h.nodes
theorem TAt.eb_bt (h : TAt σ bt T) {i : Int} {n : Nd} (hn : T.get i = some n) : n.eb ≠ some bt := by
 intro e; exact ne_cm h.cells ((h.get hn).ents _ e) rfl
theorem TAt.eb_blk (h : TAt σ bt T) {i j : Int} {n m : Nd} (hn : T.get i = some n) (hm : T.get j = some m) : n.eb ≠ some m.blk := by
 intro e; exact ne_cm (h.get hm).cells ((h.get hn).ents _ e) rfl
theorem TAt.own_some (h : TAt σ bt T) (hb : T.own bt b) : ∃ o, σ b = some o := by
 rcases hb with e | e | ⟨i, n, hn, e | e⟩
 ·subst e; exact ⟨_, h.cells⟩
 ·subst e; obtain ⟨_, _, h1, _⟩ := h.nodes; exact ⟨_, h1⟩
 ·subst e; exact ⟨_, (h.get hn).cells⟩
 ·obtain ⟨_, _, h1, _⟩ := (h.get hn).ents _ e; exact ⟨_, h1⟩
theorem TAt.put (h : TAt σ bt T) (hp : Put σ b o σ') (hn : ¬ T.own bt b) : TAt σ' bt T := by
 refine ⟨hp.get ?_ h.cells, h.nodes.put hp ?_, fun i n hg => (h.get hg).put hp ?_ ?_⟩
 ·intro e; exact hn (.inl e.symm)
 ·intro e; exact hn (.inr (.inl e.symm))
 ·intro e; exact hn (.inr (.inr ⟨i, n, hg, .inl e.symm⟩))
 ·intro e; exact hn (.inr (.inr ⟨i, n, hg, .inr e⟩))
theorem TAt.putT {T' : Tb} (h : TAt σ bt T) (hp : Put σ bt T'.cells σ') (h1 : T'.mb = T.mb) (h2 : T'.nodes = T.nodes) : TAt σ' bt T' := by
 have hg : ∀ i, T'.get i = T.get i := by intro i; unfold Tb.get; rw [h2]
 refine ⟨hp.same, ?_, fun i n hn => ?_⟩
 ·rw [h1, h2]; exact h.nodes.put hp (h.bt_mb).symm
 ·rw [hg] at hn
  exact (h.get hn).put hp (h.blk_bt hn) (h.eb_bt hn)
theorem Own.same {T' : Tb} (h : Own T) (h1 : T'.mb = T.mb) (h2 : T'.nodes = T.nodes) : Own T' := by
 have hg : ∀ i, T'.get i = T.get i := by intro i; unfold Tb.get; rw [h2]
 refine ⟨?_, ?_, ?_⟩
 ·intro i j n m; rw [hg, hg]; exact h.blk i j n m
 ·intro i j n m e; rw [hg, hg]; exact h.eb i j n m e
 ·intro i n; rw [hg, h1]; exact h.mb i n
theorem own_same {T' : Tb} (h1 : T'.mb = T.mb) (h2 : T'.nodes = T.nodes) (b : Nat) : T'.own bt b ↔ T.own bt b := by
 have hg : ∀ i, T'.get i = T.get i := by intro i; unfold Tb.get; rw [h2]
 unfold Tb.own; simp only [hg, h1]
theorem TAt.putN (h : TAt σ bt T) (ho : Own T) {i : Int} {n n' : Nd} (hn : T.get i = some n) (hp : Put σ n.blk n'.cells σ') (h1 : n'.blk = n.blk) (h2 : n'.eb = n.eb) (h3 : n'.ents = n.ents) (h4 : n'.kind = n.kind) : TAt σ' bt (T.set i n') := by
 refine ⟨hp.get (h.blk_bt hn).symm h.cells, ?_, fun j m hm => ?_⟩
 ·have := enc_up_same (kk := kkI) (f := Nd.ptr) (k := i) (v := n') (u := n) (l := T.nodes) hn (by unfold Nd.ptr; rw [h1])
  show MapAt σ' T.mb (encL kkI Nd.ptr (up i n' T.nodes))
  rw [this]
  exact h.nodes.put hp (h.blk_mb hn).symm
 ·rw [get_set] at hm
  by_cases e : j = i
  ·rw [if_pos e] at hm; cases hm
   have hN := h.get hn
   refine ⟨by rw [h1]; exact hp.same, fun e he => ?_, fun he => ?_, fun hk => ?_⟩
   ·rw [h2] at he; rw [h3]
    exact (hN.ents e he).put hp (ne_cm hN.cells (hN.ents e he)).symm
   ·rw [h2] at he; rw [h3]; exact hN.none he
   ·rw [h2]; rw [h4] at hk; exact hN.dir hk
  ·rw [if_neg e] at hm
   exact (h.get hm).put hp (fun e' => e (ho.blk j i m n hm hn e')) (h.eb_blk hm hn)
theorem Own.set (ho : Own T) {i : Int} {n n' : Nd} (hn : T.get i = some n) (h1 : n'.blk = n.blk) (h2 : n'.eb = n.eb) : Own (T.set i n') := by
 have key : ∀ j m, (T.set i n').get j = some m -> ∃ m', T.get j = some m' /\ m.blk = m'.blk /\ m.eb = m'.eb := by
  intro j m hm
  rw [get_set] at hm
  by_cases e : j = i
  ·rw [if_pos e] at hm; cases hm; subst e; exact ⟨n, hn, h1, h2⟩
  ·rw [if_neg e] at hm; exact ⟨m, hm, rfl, rfl⟩
 refine ⟨?_, ?_, ?_⟩
 ·intro a c x y hx hy hb
  obtain ⟨x', hx', e1, _⟩ := key a x hx
  obtain ⟨y', hy', e2, _⟩ := key c y hy
  exact ho.blk a c x' y' hx' hy' (by rw [<- e1, <- e2]; exact hb)
 ·intro a c x y e hx hy h3 h4
  obtain ⟨x', hx', _, e1⟩ := key a x hx
  obtain ⟨y', hy', _, e2⟩ := key c y hy
  exact ho.eb a c x' y' e hx' hy' (by rw [<- e1]; exact h3) (by rw [<- e2]; exact h4)
 ·intro a x hx
  obtain ⟨x', hx', _, e1⟩ := key a x hx
  rw [e1]; exact ho.mb a x' hx'
theorem own_set {i : Int} {n n' : Nd} (hn : T.get i = some n) (h1 : n'.blk = n.blk) (h2 : n'.eb = n.eb) (b : Nat) : (T.set i n').own bt b ↔ T.own bt b := by
 unfold Tb.own
 have : (T.set i n').mb = T.mb := rfl
 rw [this]
 refine or_congr_right (or_congr_right ⟨?_, ?_⟩)
 ·rintro ⟨j, m, hm, hb⟩
  rw [get_set] at hm
  by_cases e : j = i
  ·rw [if_pos e] at hm; cases hm; exact ⟨i, n, hn, by rw [<- h1, <- h2]; exact hb⟩
  ·rw [if_neg e] at hm; exact ⟨j, m, hm, hb⟩
 ·rintro ⟨j, m, hm, hb⟩
  by_cases e : j = i
  ·subst e; rw [hn] at hm; cases hm; exact ⟨j, n', get_set_self .., by rw [h1, h2]; exact hb⟩
  ·exact ⟨j, m, by rw [get_set, if_neg e]; exact hm, hb⟩
theorem TAt.putE (h : TAt σ bt T) (ho : Own T) {i : Int} {n : Nd} {e : Nat} {l : List (ByteArray × Int)} (hn : T.get i = some n) (he : n.eb = some e) (hp : Put σ e o σ') (hm : MapAt σ' e (encL kkS valI l)) : TAt σ' bt (T.set i { n with ents := l }) := by
 have hE := (h.get hn).ents e he
 refine ⟨hp.get (ne_cm h.cells hE) h.cells, ?_, fun j m hj => ?_⟩
 ·have := enc_up_same (kk := kkI) (f := Nd.ptr) (k := i) (v := { n with ents := l }) (u := n) (l := T.nodes) hn rfl
  show MapAt σ' T.mb (encL kkI Nd.ptr (up i _ T.nodes))
  rw [this]
  exact h.nodes.put hp (by intro e'; exact ho.mb i n hn (by rw [he, e']))
 ·rw [get_set] at hj
  by_cases e' : j = i
  ·rw [if_pos e'] at hj; cases hj
   have hN := h.get hn
   refine ⟨hp.get (ne_cm hN.cells hE) hN.cells, fun e2 he2 => ?_, fun h0 => ?_, hN.dir⟩
   ·have : e2 = e := by have := he2.symm.trans he; cases this; rfl
    subst this; exact hm
   ·have := he.symm.trans h0; cases this
  ·rw [if_neg e'] at hj
   have hN := h.get hj
   exact hN.put hp (ne_cm hN.cells hE) (fun h2 => e' (ho.eb j i m n e hj hn h2 he))
theorem TAt.putA (h : TAt σ bt T) (ho : Own T) {i : Int} {n : Nd} (hN : NdAt σ n) (hp : Put σ T.mb o σ') (hm : MapAt σ' T.mb (encL kkI Nd.ptr (up i n T.nodes))) (hf : n.eb ≠ some T.mb) : TAt σ' bt (T.set i n) := by
 refine ⟨hp.get h.bt_mb h.cells, hm, fun j m hj => ?_⟩
 rw [get_set] at hj
 by_cases e : j = i
 ·rw [if_pos e] at hj; cases hj
  exact hN.put hp (ne_cm hN.cells h.nodes) hf
 ·rw [if_neg e] at hj
  exact (h.get hj).put hp (h.blk_mb hj) (ho.mb j m hj)
theorem Own.add (ho : Own T) {i : Int} {n : Nd} (h1 : ¬ T.own bt n.blk) (h2 : ∀ e, n.eb = some e -> ¬ T.own bt e) : Own (T.set i n) := by
 have hb : ∀ j m, T.get j = some m -> m.blk ≠ n.blk := fun j m hm e => h1 (.inr (.inr ⟨j, m, hm, .inl e.symm⟩))
 have he : ∀ j m e, T.get j = some m -> n.eb = some e -> m.eb ≠ some e := fun j m e hm hn h => h2 e hn (.inr (.inr ⟨j, m, hm, .inr h⟩))
 refine ⟨?_, ?_, ?_⟩
 ·intro a c x y hx hy hxy
  rw [get_set] at hx hy
  by_cases ea : a = i <;> by_cases ec : c = i
  ·rw [ea, ec]
  ·rw [if_pos ea] at hx; rw [if_neg ec] at hy; cases hx; exact absurd hxy.symm (hb c y hy)
  ·rw [if_neg ea] at hx; rw [if_pos ec] at hy; cases hy; exact absurd hxy (hb a x hx)
  ·rw [if_neg ea] at hx; rw [if_neg ec] at hy; exact ho.blk a c x y hx hy hxy
 ·intro a c x y e hx hy h3 h4
  rw [get_set] at hx hy
  by_cases ea : a = i <;> by_cases ec : c = i
  ·rw [ea, ec]
  ·rw [if_pos ea] at hx; rw [if_neg ec] at hy; cases hx; exact absurd h4 (he c y e hy h3)
  ·rw [if_neg ea] at hx; rw [if_pos ec] at hy; cases hy; exact absurd h3 (he a x e hx h4)
  ·rw [if_neg ea] at hx; rw [if_neg ec] at hy; exact ho.eb a c x y e hx hy h3 h4
 ·intro a x hx
  rw [get_set] at hx
  by_cases ea : a = i
  ·rw [if_pos ea] at hx; cases hx
   intro h; exact h2 _ h (.inr (.inl rfl))
  ·rw [if_neg ea] at hx; exact ho.mb a x hx
theorem own_add {i : Int} {n : Nd} (b : Nat) (h : (T.set i n).own bt b) : T.own bt b \/ b = n.blk \/ n.eb = some b := by
 rcases h with e | e | ⟨j, m, hm, hb⟩
 ·exact .inl (.inl e)
 ·exact .inl (.inr (.inl e))
 ·rw [get_set] at hm
  by_cases e : j = i
  ·rw [if_pos e] at hm; cases hm; exact .inr hb
  ·rw [if_neg e] at hm; exact .inl (.inr (.inr ⟨j, m, hm, hb⟩))
end
structure Lng (σ σ' : H) : Prop where
 gr : Gr σ σ'
def TabAt (σ : H) (bt : Nat) (A : AT) (B : Nat -> Prop) : Prop := ∃ T, TAt σ bt T /\ Own T /\ T.abs = A /\ ∀ b, T.own bt b ↔ B b
theorem TabAt.gr {σ σ' : H} {bt : Nat} {A : AT} {B : Nat -> Prop} (h : TabAt σ bt A B) (hg : Gr σ σ') : TabAt σ' bt A B := by
 obtain ⟨T, h1, h2⟩ := h; exact ⟨T, h1.gr hg, h2⟩
theorem TabAt.put {σ σ' : H} {bt b : Nat} {A : AT} {B : Nat -> Prop} {o : Obj} (h : TabAt σ bt A B) (hp : Put σ b o σ') (hn : ¬ B b) : TabAt σ' bt A B := by
 obtain ⟨T, h1, h2, h3, h4⟩ := h; exact ⟨T, h1.put hp (by rw [h4]; exact hn), h2, h3, h4⟩
theorem TabAt.some {σ : H} {bt b : Nat} {A : AT} {B : Nat -> Prop} (h : TabAt σ bt A B) (hb : B b) : ∃ o, σ b = some o := by
 obtain ⟨T, h1, h2, h3, h4⟩ := h; exact h1.own_some ((h4 b).2 hb)
theorem TabAt.fresh {σ : H} {bt b : Nat} {A : AT} {B : Nat -> Prop} (h : TabAt σ bt A B) (hb : σ b = none) : ¬ B b := by
 intro hB; obtain ⟨o, ho⟩ := h.some hB; rw [hb] at ho; cases ho
theorem s_named1 (hC : CAny) {σ : H} {b1 : Nat} {name : ByteArray} {t1 : TypeId} (h1 : σ b1 = some (.cells ⟨[.string name]⟩ t1 (0, 0))) {K : KH}
 (hK : K (.int .i64 (namedE name)) σ) : callW Tryz.prog 161 [.pointer (some ⟨b1, 0, none⟩)] K σ := by
 refine c161 _ ?_
 unfold g161
 (repeat (first|refine ptr_i ?_|refine z2 ?_|(refine al_i ?_;intro _ _ _ _ _)|refine z4 ?_|refine z5 ?_|(refine z6 ?_;intro _ _)|refine app_P ?_|refine app_I ?_|refine app_S ?_|refine app_B ?_|refine app_M ?_|refine app_L ?_|refine app_U ?_|refine app_R ?_|(refine app_of rfl ?_;try dsimp only)))
 unfold namedE at hK
 simp only [sEq_eq] at hK
 by_cases hl : name.size > 56
 ·rw [if_pos hl] at hK; exact br_t (by simp; omega) hK
 rw [if_neg hl] at hK
 refine br_f (by simp; omega) ?_
 (repeat (first|refine ptr_i ?_|refine z2 ?_|(refine al_i ?_;intro _ _ _ _ _)|refine z4 ?_|refine z5 ?_|(refine z6 ?_;intro _ _)|refine app_P ?_|refine app_I ?_|refine app_S ?_|refine app_B ?_|refine app_M ?_|refine app_L ?_|refine app_U ?_|refine app_R ?_|(refine app_of rfl ?_;try dsimp only)))
 cases ha : strEq name ⟨⟨[]⟩⟩ with
 | true => rw [ha] at hK; exact br_f rfl (call_i (s_must _ _ (app_I hK)))
 | false =>
  rw [ha] at hK
  refine br_t rfl ?_
  (repeat (first|refine ptr_i ?_|refine z2 ?_|(refine al_i ?_;intro _ _ _ _ _)|refine z4 ?_|refine z5 ?_|(refine z6 ?_;intro _ _)|refine app_P ?_|refine app_I ?_|refine app_S ?_|refine app_B ?_|refine app_M ?_|refine app_L ?_|refine app_U ?_|refine app_R ?_|(refine app_of rfl ?_;try dsimp only)))
  cases hb : strEq name ⟨⟨[46]⟩⟩ with
  | true => rw [hb] at hK; exact br_f rfl (call_i (s_must _ _ (app_I hK)))
  | false =>
   rw [hb] at hK
   refine br_t rfl ?_
   (repeat (first|refine ptr_i ?_|refine z2 ?_|(refine al_i ?_;intro _ _ _ _ _)|refine z4 ?_|refine z5 ?_|(refine z6 ?_;intro _ _)|refine app_P ?_|refine app_I ?_|refine app_S ?_|refine app_B ?_|refine app_M ?_|refine app_L ?_|refine app_U ?_|refine app_R ?_|(refine app_of rfl ?_;try dsimp only)))
   cases hc : strEq name ⟨⟨[46, 46]⟩⟩ with
   | true => rw [hc] at hK; exact br_f rfl (call_i (s_must _ _ (app_I hK)))
   | false =>
    rw [hc] at hK
    refine br_t rfl ?_
    (repeat (first|refine ptr_i ?_|refine z2 ?_|(refine al_i ?_;intro _ _ _ _ _)|refine z4 ?_|refine z5 ?_|(refine z6 ?_;intro _ _)|refine app_P ?_|refine app_I ?_|refine app_S ?_|refine app_B ?_|refine app_M ?_|refine app_L ?_|refine app_U ?_|refine app_R ?_|(refine app_of rfl ?_;try dsimp only)))
    refine call_i (hC _ (by omega) _ _ (app_B ?_))
    exact call_i (s_must _ _ (app_I (by simpa using hK)))
theorem s_Make2 {σ : H} {bt : Nat} {T : Tb} (hT : TAt σ bt T) {b1 b2 : Nat} {data : ByteArray} {t1 t2 : TypeId} (h1 : σ b1 = some (.cells ⟨[.pointer (some ⟨bt, 0, none⟩)]⟩ t1 (0, 0))) (h2 : σ b2 = some (.cells ⟨[.string data]⟩ t2 (0, 0))) {K : KH}
 (hK : K (.int .i64 (T.roomE 1 data.size)) σ) : callW Tryz.prog 125 [.pointer (some ⟨b1, 0, none⟩), .pointer (some ⟨b2, 0, none⟩)] K σ := by
 refine pure_i _ hK (c125 _ _ ?_)
 unfold g125
 (repeat (first|refine ptr_i ?_|refine z2 ?_|(refine al_i ?_;intro _ _ _ _ _)|refine z4 ?_|refine z5 ?_|(refine z6 ?_;intro _ _)|refine app_P ?_|refine app_I ?_|refine app_S ?_|refine app_B ?_|refine app_M ?_|refine app_L ?_|refine app_U ?_|refine app_R ?_|(refine app_of rfl ?_;try dsimp only)))
 refine call_i (s_room _ _ _ ?_)
 intro c1 c2 c3 σ' hg e1 e2 e3
 refine app_R ?_
 refine cval_i go_room1 ?_
 exact s_room1 (hT.gr hg) e1 e2 e3 (app_I ⟨rfl, hg⟩)
theorem one_f {f : Fn} {as_ cs : Array Value} {g : H -> Prop} {σ : H} (h : g σ) : oneK (.func f as_ cs) g σ := by unfold oneK; exact h
theorem und_MSI : Tryz.prog.underlying 165 = some (.map 9 3) := by kernel_rfl
theorem und_MIN : Tryz.prog.underlying 161 = some (.map 3 164) := by kernel_rfl
theorem firstE_z {e : Int} {es : List Int} (h : firstE (e :: es) = 0) : e = 0 /\ firstE es = 0 := by
 unfold firstE at h
 by_cases he : e = 0
 ·rw [if_pos he] at h; exact ⟨he, h⟩
 ·rw [if_neg he] at h; exact absurd h he
theorem dirE_z {T : Tb} {d : Int} (h : T.dirE d = 0) : ∃ n, T.get d = some n /\ n.kind = 2 := by
 unfold Tb.dirE at h
 cases hn : T.get d with
 | none => rw [hn] at h; cases h
 | some n =>
  rw [hn] at h
  refine ⟨n, rfl, ?_⟩
  cases hk : (n.kind == 2) with
  | true => simpa using hk
  | false => simp [hk] at h
theorem TAt.dir {σ : H} {bt : Nat} {T : Tb} (hT : TAt σ bt T) {d : Int} {n : Nd} (hn : T.get d = some n) (hk : n.kind = 2) : ∃ e, n.eb = some e := by
 have := (hT.get hn).dir hk
 cases he : n.eb with
 | none => exact absurd he this
 | some e => exact ⟨e, rfl⟩
theorem rdN {σ : H} {bt : Nat} {T : Tb} (hT : TAt σ bt T) {i : Int} {n : Nd} (hn : T.get i = some n) {F : Option Addr -> H -> Prop} (h : F (some ⟨n.blk, 0, none⟩) σ) : rdT (rdM (.int .i64) (.pointer none) false (some T.mb) (.int .i64 i)) kP F σ := by
 refine rd_P (x := some ⟨n.blk, 0, none⟩) ?_ h
 have := rdM_at (kk := kkI) hT.nodes (.pointer none) false i
 unfold Tb.get at hn
 rw [hn] at this
 exact this
theorem s_Make (hI : IByte) (hC : CAny) {σ : H} {bt : Nat} {A : AT} {B : Nat -> Prop} (hA : TabAt σ bt A B) (dir : Int) (name : ByteArray) (kind mode : Int) (data : ByteArray) (hL : A.get (wr (A.last + 1)) = none) {K : KH}
 (hK : ∀ σ' B', TabAt σ' bt (AT.makeR A dir name kind mode data).2.2 B' -> Sep σ B σ' B' -> K (.tuple ⟨[.int .i64 (AT.makeR A dir name kind mode data).1, .int .i64 (AT.makeR A dir name kind mode data).2.1]⟩) σ') :
 callW Tryz.prog 69 [.pointer (some ⟨bt, 0, none⟩), .int .i64 dir, .string name, .int .i64 kind, .int .i64 mode, .string data] K σ := by
 obtain ⟨T, hT, hO, rfl, hB⟩ := hA
 have hc0 := hT.cells
 refine c69 _ _ _ _ _ _ ?_
 unfold g69
 refine al_i ?_; intro b7 σ1 g1 e1 n1
 refine al_i ?_; intro b8 σ2 g2 e2 n2
 refine al_i ?_; intro b9 σ3 g3 e3 n3
 refine al_i ?_; intro b10 σ4 g4 e4 n4
 (repeat (first|refine ptr_i ?_|refine z2 ?_|(refine al_i ?_;intro _ _ _ _ _)|refine z4 ?_|refine z5 ?_|(refine z6 ?_;intro _ _)|refine app_P ?_|refine app_I ?_|refine app_S ?_|refine app_B ?_|refine app_M ?_|refine app_L ?_|refine app_U ?_|refine app_R ?_|(refine app_of rfl ?_;try dsimp only)))
 refine call_i (s_dir _ _ ?_)
 intro c1 c2 σ5 g5 f1 f2
 refine app_R ?_
 (repeat (first|refine ptr_i ?_|refine z2 ?_|(refine al_i ?_;intro _ _ _ _ _)|refine z4 ?_|refine z5 ?_|(refine z6 ?_;intro _ _)|refine app_P ?_|refine app_I ?_|refine app_S ?_|refine app_B ?_|refine app_M ?_|refine app_L ?_|refine app_U ?_|refine app_R ?_|(refine app_of rfl ?_;try dsimp only)))
 refine call_i (s_named _ ?_)
 intro c3 σ6 g6 f3
 refine app_R ?_
 (repeat (first|refine ptr_i ?_|refine z2 ?_|(refine al_i ?_;intro _ _ _ _ _)|refine z4 ?_|refine z5 ?_|(refine z6 ?_;intro _ _)|refine app_P ?_|refine app_I ?_|refine app_S ?_|refine app_B ?_|refine app_M ?_|refine app_L ?_|refine app_U ?_|refine app_R ?_|(refine app_of rfl ?_;try dsimp only)))
 refine call_i (s_free _ _ _ ?_)
 intro c4 c5 c6 σ7 g7 f4 f5 f6
 refine app_R ?_
 (repeat (first|refine ptr_i ?_|refine z2 ?_|(refine al_i ?_;intro _ _ _ _ _)|refine z4 ?_|refine z5 ?_|(refine z6 ?_;intro _ _)|refine app_P ?_|refine app_I ?_|refine app_S ?_|refine app_B ?_|refine app_M ?_|refine app_L ?_|refine app_U ?_|refine app_R ?_|(refine app_of rfl ?_;try dsimp only)))
 refine one_f (one_f (one_f ?_))
 refine al_i ?_; intro b17 σ8 g8 e8 n8
 have hgr : Lng σ σ8 := ⟨by repeat (first | exact Gr.refl _ | assumption | refine Gr.trans ?_ ‹_› | refine Gr.putF ?_ ‹_› (none_of ?_ ‹_›))⟩
 have hT8 := hT.gr hgr.gr
 refine call_i (s_first (es := [0, T.dirE dir, namedE name, likeE kind mode data, if (T.find dir name).isSome then 6 else 0, T.roomE 1 data.size]) e8 ?_ (by simp) (app_I ?_))
 ·refine ⟨pu_of go_there fun K hk => s_there _ hk, fun _ => ⟨pu_of go_dir1 fun K hk => s_dir1 hT8 (by exact gA) (by exact gA) hk, fun _ => ⟨pu_of go_named1 fun K hk => s_named1 hC (by exact gA) hk, fun _ => ⟨pu_of go_Make1 fun K hk => s_Make1 hI (by exact gA) (by exact gA) (by exact gA) hk, fun _ => ⟨pu_of go_free1 fun K hk => s_free1 hT8 (by exact gA) (by exact gA) (by exact gA) hk, fun _ => ⟨pu_of go_Make2 fun K hk => s_Make2 hT8 (by exact gA) (by exact gA) hk, fun _ => trivial⟩⟩⟩⟩⟩⟩
 have hE : firstE [0, T.dirE dir, namedE name, likeE kind mode data, if (T.find dir name).isSome then 6 else 0, T.roomE 1 data.size] = T.abs.makeE dir name kind mode data := by
  unfold AT.makeE; rw [abs_dirE, abs_find, abs_roomE]
 rw [hE]
 have hK' := hK; clear hK
 unfold AT.makeR at hK'
 by_cases h0 : T.abs.makeE dir name kind mode data = 0
 case neg =>
  rw [if_neg h0] at hK'
  refine br_t (by simpa using h0) ?_
  exact hK' σ8 B ⟨T, hT8, hO, rfl, hB⟩ (Sep.gr hgr.gr)
 rw [if_pos h0] at hK'
 refine br_f (by simpa using h0) ?_
 rw [<- hE] at h0
 have hd := (firstE_z (firstE_z h0).2).1
 obtain ⟨nd, hnd, hkd⟩ := dirE_z hd
 have hc := hT8.cells
 unfold Tb.cells at hc
 have hb7 : ¬ T.own bt b7 := by rw [hB]; intro h; obtain ⟨o, ho⟩ := hT.own_some ((hB _).2 h); exact ne_fresh ho n1 rfl
 (repeat (first|refine ptr_i ?_|refine z2 ?_|(refine al_i ?_;intro _ _ _ _ _)|refine z4 ?_|refine z5 ?_|(refine z6 ?_;intro _ _)|refine app_P ?_|refine app_I ?_|refine app_S ?_|refine app_B ?_|refine app_M ?_|refine app_L ?_|refine app_U ?_|refine app_R ?_|(refine app_of rfl ?_;try dsimp only)))
 rename_i σ9 p9 b28 σ10 g10 e10 n10
 let T1 : Tb := { T with last := wr (T.last + 1) }
 have hT9 : TAt σ9 bt T1 := hT8.putT p9 rfl rfl
 have hT10 := hT9.gr g10
 have hO1 : Own T1 := hO.same rfl rfl
 have o1 : ∀ b, T1.own bt b ↔ B b := fun b => (own_same rfl rfl b).trans (hB b)
 have s10 : Sep σ B σ10 B := by
  intro b o hb hn
  refine ⟨g10.get (p9.get ?_ (hgr.gr.get hb)), hn⟩
  intro e; subst e; exact hn ((hB _).1 (.inl rfl))
 have k7 : σ10 b7 = some (.cells ⟨[.pointer (some ⟨bt, 0, none⟩)]⟩ 92 (0, 0)) := by exact gA
 have k8 : σ10 b8 = some (.cells ⟨[.int .i64 kind]⟩ 3 (0, 0)) := by exact gA
 have k10 : σ10 b10 = some (.cells ⟨[.string data]⟩ 9 (0, 0)) := by exact gA
 have nb : ∀ b, T1.own bt b -> ∃ o, σ b = some o := by
  intro b hb; exact hT.own_some ((own_same rfl rfl b).1 hb)
 have q7 : b7 ≠ b28 := ne_fr n10 (by repeat (first | exact io ‹_› | exact mS ‹_› | refine gS ‹_› ?_ | refine pS ‹_› ?_))
 have q10 : b10 ≠ b28 := ne_fr n10 (by repeat (first | exact io ‹_› | exact mS ‹_› | refine gS ‹_› ?_ | refine pS ‹_› ?_))
 have f28 : σ b28 = none := none_of hgr.gr (by
  cases hx : σ8 b28 with
  | none => rfl
  | some o' =>
   exfalso
   have : b28 ≠ bt := ne_fr n10 (by repeat (first | exact io ‹_› | exact mS ‹_› | refine gS ‹_› ?_ | refine pS ‹_› ?_)) |>.symm
   exact ne_fresh (p9.get this hx) n10 rfl)
 have hfr : ¬ T1.own bt b28 := by
  intro h; obtain ⟨o, ho⟩ := nb _ h
  rw [f28] at ho; cases ho
 refine j_i (fun j => ∀ σ' eb, NdAt σ' ⟨b28, kind, mode, data, 1, if kind == 2 then dir else 0, eb, []⟩ -> TAt σ' bt T1 -> (∀ e, eb = some e -> σ e = none) -> σ' b7 = some (.cells ⟨[.pointer (some ⟨bt, 0, none⟩)]⟩ 92 (0, 0)) -> σ' b10 = some (.cells ⟨[.string data]⟩ 9 (0, 0)) -> Sep σ B σ' B -> j dir name (some ⟨b7, 0, none⟩) (some ⟨b10, 0, none⟩) (some ⟨b28, 0, none⟩) σ') ?_ ?_
 ·intro σ' eb hN hT' heb h7 h10 hs
  have hcT := hT'.cells
  unfold Tb.cells at hcT
  have hm := hT'.nodes
  have e28 := hN.cells
  have nm : bt ≠ T1.mb := hT'.bt_mb
  have n7m : b7 ≠ T1.mb := ne_cm h7 hm
  have n10m : b10 ≠ T1.mb := ne_cm h10 hm
  have n7t : b7 ≠ bt := by first | assumption | exact Ne.symm ‹_› | exact ne_fr ‹_› (by repeat (first | exact io ‹_› | exact mS ‹_› | refine gS ‹_› ?_ | refine pS ‹_› ?_)) | exact Ne.symm (ne_fr ‹_› (by repeat (first | exact io ‹_› | exact mS ‹_› | refine gS ‹_› ?_ | refine pS ‹_› ?_)))
  have n10t : b10 ≠ bt := by first | assumption | exact Ne.symm ‹_› | exact ne_fr ‹_› (by repeat (first | exact io ‹_› | exact mS ‹_› | refine gS ‹_› ?_ | refine pS ‹_› ?_)) | exact Ne.symm (ne_fr ‹_› (by repeat (first | exact io ‹_› | exact mS ‹_› | refine gS ‹_› ?_ | refine pS ‹_› ?_)))
  let nn : Nd := ⟨b28, kind, mode, data, 1, if kind == 2 then dir else 0, eb, []⟩
  have hfe : ∀ e, eb = some e -> ¬ T1.own bt e := by
   intro e he h; obtain ⟨o, ho⟩ := nb _ h; rw [heb e he] at ho; cases ho
  (repeat (first|refine ptr_i ?_|refine z2 ?_|(refine al_i ?_;intro _ _ _ _ _)|refine z4 ?_|refine z5 ?_|(refine z6 ?_;intro _ _)|refine app_P ?_|refine app_I ?_|refine app_S ?_|refine app_B ?_|refine app_M ?_|refine app_L ?_|refine app_U ?_|refine app_R ?_|(refine app_of rfl ?_;try dsimp only)))
  refine mu_i (kk := kkI) (f := Nd.ptr) und_MIN und_int hm (wr (T.last + 1)) nn ?_
  intro o11 σ11 p11 m11
  have hT11 : TAt σ11 bt (T1.set (wr (T.last + 1)) nn) := hT'.putA hO1 hN p11 m11 (by intro h; exact hfe _ h (.inr (.inl rfl)))
  have hO11 : Own (T1.set (wr (T.last + 1)) nn) := hO1.add hfr hfe
  (repeat (first|refine ptr_i ?_|refine z2 ?_|(refine al_i ?_;intro _ _ _ _ _)|refine z4 ?_|refine z5 ?_|(refine z6 ?_;intro _ _)|refine app_P ?_|refine app_I ?_|refine app_S ?_|refine app_B ?_|refine app_M ?_|refine app_L ?_|refine app_U ?_|refine app_R ?_|(refine app_of rfl ?_;try dsimp only)))
  have hL' : T1.get (wr (T.last + 1)) = none := by
   rw [abs_get] at hL
   exact Option.map_eq_none_iff.1 hL
  have hdl : dir ≠ wr (T.last + 1) := by
   intro e; rw [<- e] at hL'; have : T1.get dir = T.get dir := rfl; rw [this, hnd] at hL'; cases hL'
  have hd11 : (T1.set (wr (T.last + 1)) nn).get dir = some nd := by rw [get_set, if_neg hdl]; exact hnd
  refine rdN hT11 hd11 ?_
  obtain ⟨ed, hed⟩ := hT11.dir hd11 hkd
  have cD := (hT11.get hd11).cells
  unfold Nd.cells at cD
  rw [hed] at cD
  (repeat (first|refine ptr_i ?_|refine z2 ?_|(refine al_i ?_;intro _ _ _ _ _)|refine z4 ?_|refine z5 ?_|(refine z6 ?_;intro _ _)|refine app_P ?_|refine app_I ?_|refine app_S ?_|refine app_B ?_|refine app_M ?_|refine app_L ?_|refine app_U ?_|refine app_R ?_|(refine app_of rfl ?_;try dsimp only)))
  have mE := (hT11.get hd11).ents ed hed
  refine mu_i (kk := kkS) (f := valI) und_MSI und_string mE name (wr (T.last + 1)) ?_
  intro o12 σ12 p12 m12
  have hT12 := hT11.putE hO11 hd11 hed p12 m12
  have hO12 : Own ((T1.set (wr (T.last + 1)) nn).set dir { nd with ents := HL.up name (wr (T.last + 1)) nd.ents }) := hO11.set hd11 rfl rfl
  have n7e : b7 ≠ ed := ne_cm (p11.get n7m h7) mE
  have n10e : b10 ≠ ed := ne_cm (p11.get n10m h10) mE
  have nte : bt ≠ ed := ne_cm hT11.cells mE
  (repeat (first|refine ptr_i ?_|refine z2 ?_|(refine al_i ?_;intro _ _ _ _ _)|refine z4 ?_|refine z5 ?_|(refine z6 ?_;intro _ _)|refine app_P ?_|refine app_I ?_|refine app_S ?_|refine app_B ?_|refine app_M ?_|refine app_L ?_|refine app_U ?_|refine app_R ?_|(refine app_of rfl ?_;try dsimp only)))
  rename_i σ13 p13 σ14 p14
  have hT13 := hT12.putT (T' := { ((T1.set (wr (T.last + 1)) nn).set dir { nd with ents := HL.up name (wr (T.last + 1)) nd.ents }) with ui := wr (T.ui + 1) }) p13 rfl rfl
  have hT14 := hT13.putT (T' := { ((T1.set (wr (T.last + 1)) nn).set dir { nd with ents := HL.up name (wr (T.last + 1)) nd.ents }) with ui := wr (T.ui + 1), ub := wr (T.ub + data.size) }) p14 rfl rfl
  refine hK' σ14 (Tb.own bt { ((T1.set (wr (T.last + 1)) nn).set dir { nd with ents := HL.up name (wr (T.last + 1)) nd.ents }) with ui := wr (T.ui + 1), ub := wr (T.ub + data.size) }) ⟨_, hT14, hO12.same rfl rfl, ?_, fun _ => Iff.rfl⟩ ?_
  ·have hA1 : (T1.set (wr (T.last + 1)) nn).abs = { T.abs with last := wr (T.abs.last + 1), nodes := HL.up (wr (T.abs.last + 1)) ⟨kind, mode, data, 1, if kind == 2 then dir else 0, []⟩ T.abs.nodes } := abs_set ..
   have hg1 : (T1.set (wr (T.last + 1)) nn).abs.get dir = some nd.abs := by rw [abs_get, hd11]; rfl
   unfold AT.made AT.ent
   simp only
   rw [<- hA1, hg1]
   simp only
   have h5 := abs_set (T1.set (wr (T.last + 1)) nn) dir { nd with ents := HL.up name (wr (T.last + 1)) nd.ents }
   show ({ ((T1.set (wr (T.last + 1)) nn).set dir { nd with ents := HL.up name (wr (T.last + 1)) nd.ents }).abs with ui := wr (T.ui + 1), ub := wr (T.ub + data.size) } : AT) = _
   rw [h5]; rfl
  ·intro b o hb hn
   obtain ⟨hb', _⟩ := hs b o hb hn
   have q1 : b ≠ bt := by intro e; subst e; exact hn ((o1 _).1 (.inl rfl))
   have q2 : b ≠ T1.mb := by intro e; subst e; exact hn ((o1 _).1 (.inr (.inl rfl)))
   have q3 : b ≠ ed := by intro e; subst e; exact hn ((o1 _).1 (.inr (.inr ⟨dir, nd, hnd, .inr hed⟩)))
   refine ⟨p14.get q1 (p13.get q1 (p12.get q3 (p11.get q2 hb'))), ?_⟩
   intro hown
   have h1 := (own_same (T := (T1.set (wr (T.last + 1)) nn).set dir { nd with ents := HL.up name (wr (T.last + 1)) nd.ents }) rfl rfl b).1 hown
   have h2 := (own_set (n' := { nd with ents := HL.up name (wr (T.last + 1)) nd.ents }) hd11 rfl rfl b).1 h1
   rcases own_add b h2 with h3 | h3 | h3
   ·exact hn ((o1 _).1 h3)
   ·exact ne_fresh hb f28 h3
   ·exact ne_fresh hb (heb b h3) rfl
 ·intro j hj
  (repeat (first|refine ptr_i ?_|refine z2 ?_|(refine al_i ?_;intro _ _ _ _ _)|refine z4 ?_|refine z5 ?_|(refine z6 ?_;intro _ _)|refine app_P ?_|refine app_I ?_|refine app_S ?_|refine app_B ?_|refine app_M ?_|refine app_L ?_|refine app_U ?_|refine app_R ?_|(refine app_of rfl ?_;try dsimp only)))
  cases hk2 : (kind == 2) with
  | false =>
   refine br_f rfl ?_
   refine hj σ10 none ⟨by rw [hk2]; exact e10, fun _ h => (by cases h), fun _ => rfl, fun h => ?_⟩ hT10 (fun _ h => (by cases h)) k7 k10 s10
   exfalso; simp at hk2; exact hk2 h
  | true =>
   refine br_t rfl ?_
   (repeat (first|refine ptr_i ?_|refine z2 ?_|(refine al_i ?_;intro _ _ _ _ _)|refine z4 ?_|refine z5 ?_|(refine z6 ?_;intro _ _)|refine app_P ?_|refine app_I ?_|refine app_S ?_|refine app_B ?_|refine app_M ?_|refine app_L ?_|refine app_U ?_|refine app_R ?_|(refine app_of rfl ?_;try dsimp only)))
   rename_i b89 σ11 g11 e11 n11 σ12 p12 σ13 p13
   have n89 : ∀ b o, σ10 b = some o -> b ≠ b89 := fun b o hb => ne_fresh hb n11
   have hf89 : ¬ T1.own bt b89 := by
    intro h; obtain ⟨o, ho⟩ := hT10.own_some h; exact n89 _ _ ho rfl
   have f89 : σ b89 = none := by
    cases hx : σ b89 with
    | none => rfl
    | some o => exfalso; exact hf89 ((o1 _).2 (Classical.byContradiction fun h => n89 _ _ (s10 _ _ hx h).1 rfl))
   refine hj σ13 (some b89) ⟨by rw [hk2]; exact p13.same, fun e he => ?_, fun h => (by cases h), fun _ h => (by cases h)⟩ (((hT10.gr g11).put p12 hfr).put p13 hfr) (fun e he => by cases he; exact f89) (by exact gA) (by exact gA) ?_
   ·cases he
    refine MapAt.new ?_
    have : b89 ≠ b28 := (n89 _ _ e10).symm
    exact p13.get this (p12.get this e11)
   ·intro b o hb hn
    have q : b ≠ b28 := ne_fresh hb f28
    exact ⟨p13.get q (p12.get q (g11.get (s10 b o hb hn).1)), hn⟩
theorem fileE_z {T : Tb} {d : Int} (h : T.fileE d = 0) : ∃ n, T.get d = some n /\ n.kind = 1 := by
 unfold Tb.fileE at h
 cases hn : T.get d with
 | none => rw [hn] at h; cases h
 | some n =>
  rw [hn] at h
  refine ⟨n, rfl, ?_⟩
  cases hk : (n.kind == 2) with
  | true => simp [hk] at h
  | false =>
   simp only [hk] at h
   cases hk1 : (n.kind == 1) with
   | true => simpa using hk1
   | false => simp [hk1] at h
theorem TAt.ne {σ : H} {bt : Nat} {T : Tb} (_hT : TAt σ bt T) {b : Nat} (hb : ¬ T.own bt b) : b ≠ bt /\ b ≠ T.mb /\ (∀ i n, T.get i = some n -> b ≠ n.blk /\ n.eb ≠ some b) :=
 ⟨fun e => hb (.inl e), fun e => hb (.inr (.inl e)), fun i n hn => ⟨fun e => hb (.inr (.inr ⟨i, n, hn, .inl e⟩)), fun e => hb (.inr (.inr ⟨i, n, hn, .inr e⟩))⟩⟩
theorem s_WriteT1 {σ : H} {bt : Nat} {T : Tb} (hT : TAt σ bt T) {b1 b2 b3 : Nat} {data : ByteArray} {ino : Int} {t1 t2 t3 : TypeId} (h1 : σ b1 = some (.cells ⟨[.pointer (some ⟨bt, 0, none⟩)]⟩ t1 (0, 0))) (h2 : σ b2 = some (.cells ⟨[.string data]⟩ t2 (0, 0))) (h3 : σ b3 = some (.cells ⟨[.int .i64 ino]⟩ t3 (0, 0))) {n : Nd} (hn : T.get ino = some n) {K : KH}
 (hK : K (.int .i64 (T.roomE 0 (wr ((data.size : Int) - n.data.size)))) σ) : callW Tryz.prog 128 [.pointer (some ⟨b1, 0, none⟩), .pointer (some ⟨b2, 0, none⟩), .pointer (some ⟨b3, 0, none⟩)] K σ := by
 refine pure_i _ hK (c128 _ _ _ ?_)
 unfold g128
 have hc := hT.cells
 unfold Tb.cells at hc
 (repeat (first|refine ptr_i ?_|refine z2 ?_|(refine al_i ?_;intro _ _ _ _ _)|refine z4 ?_|refine z5 ?_|(refine z6 ?_;intro _ _)|refine app_P ?_|refine app_I ?_|refine app_S ?_|refine app_B ?_|refine app_M ?_|refine app_L ?_|refine app_U ?_|refine app_R ?_|(refine app_of rfl ?_;try dsimp only)))
 refine rdN hT hn ?_
 have hN := (hT.get hn).cells
 unfold Nd.cells at hN
 (repeat (first|refine ptr_i ?_|refine z2 ?_|(refine al_i ?_;intro _ _ _ _ _)|refine z4 ?_|refine z5 ?_|(refine z6 ?_;intro _ _)|refine app_P ?_|refine app_I ?_|refine app_S ?_|refine app_B ?_|refine app_M ?_|refine app_L ?_|refine app_U ?_|refine app_R ?_|(refine app_of rfl ?_;try dsimp only)))
 refine call_i (s_room _ _ _ ?_)
 intro c1 c2 c3 σ' hg e1 e2 e3
 refine app_R ?_
 refine cval_i go_room1 ?_
 exact s_room1 (hT.gr hg) e1 e2 e3 (app_I ⟨rfl, hg⟩)
theorem s_WriteT {σ : H} {bt : Nat} {A : AT} {B : Nat -> Prop} (hA : TabAt σ bt A B) (ino : Int) (data : ByteArray) {K : KH}
 (hK : ∀ σ' B', TabAt σ' bt (AT.writeR A ino data).2 B' -> Sep σ B σ' B' -> K (.int .i64 (AT.writeR A ino data).1) σ') :
 callW Tryz.prog 71 [.pointer (some ⟨bt, 0, none⟩), .int .i64 ino, .string data] K σ := by
 obtain ⟨T, hT, hO, rfl, hB⟩ := hA
 have hc0 := hT.cells
 refine c71 _ _ _ ?_
 unfold g71
 refine al_i ?_; intro b4 σ1 g1 e1 n1
 refine al_i ?_; intro b5 σ2 g2 e2 n2
 refine al_i ?_; intro b6 σ3 g3 e3 n3
 (repeat (first|refine ptr_i ?_|refine z2 ?_|(refine al_i ?_;intro _ _ _ _ _)|refine z4 ?_|refine z5 ?_|(refine z6 ?_;intro _ _)|refine app_P ?_|refine app_I ?_|refine app_S ?_|refine app_B ?_|refine app_M ?_|refine app_L ?_|refine app_U ?_|refine app_R ?_|(refine app_of rfl ?_;try dsimp only)))
 refine call_i (s_file _ _ ?_)
 intro c7 c8 σ6' g6' f7 f8
 refine app_R ?_
 (repeat (first|refine ptr_i ?_|refine z2 ?_|(refine al_i ?_;intro _ _ _ _ _)|refine z4 ?_|refine z5 ?_|(refine z6 ?_;intro _ _)|refine app_P ?_|refine app_I ?_|refine app_S ?_|refine app_B ?_|refine app_M ?_|refine app_L ?_|refine app_U ?_|refine app_R ?_|(refine app_of rfl ?_;try dsimp only)))
 refine one_f ?_
 refine al_i ?_; intro b17 σ8 g8 e8 n8
 have hgr : Lng σ σ8 := ⟨by repeat (first | exact Gr.refl _ | assumption | refine Gr.trans ?_ ‹_› | refine Gr.putF ?_ ‹_› (none_of ?_ ‹_›))⟩
 have hT8 := hT.gr hgr.gr
 refine call_i (s_first (es := [0, T.fileE ino, T.roomE 0 (wr ((data.size : Int) - ((T.abs.get ino).map (·.data.size)).getD 0))]) e8 ?_ (by simp) (app_I ?_))
 ·refine ⟨pu_of go_there fun K hk => s_there _ hk, fun _ => ⟨pu_of go_file1 fun K hk => s_file1 hT8 (by exact gA) (by exact gA) hk, fun hz => ⟨pu_of go_WriteT1 fun K hk => ?_, fun _ => trivial⟩⟩⟩
  obtain ⟨nf, hnf, hkf⟩ := fileE_z hz
  refine s_WriteT1 hT8 (b1 := b4) (b2 := b6) (b3 := b5) (by exact gA) (by exact gA) (by exact gA) hnf ?_
  rw [abs_get, hnf] at hk
  exact hk
 have hE : firstE [0, T.fileE ino, T.roomE 0 (wr ((data.size : Int) - ((T.abs.get ino).map (·.data.size)).getD 0))] = T.abs.writeE ino data := by
  unfold AT.writeE; rw [abs_fileE, abs_roomE]
 rw [hE]
 unfold AT.writeR at hK
 by_cases h0 : T.abs.writeE ino data = 0
 case neg =>
  rw [if_neg h0] at hK
  refine br_t (by simpa using h0) ?_
  exact hK σ8 B ⟨T, hT8, hO, rfl, hB⟩ (Sep.gr hgr.gr)
 rw [if_pos h0] at hK
 refine br_f (by simpa using h0) ?_
 rw [<- hE] at h0
 obtain ⟨nf, hnf, hkf⟩ := fileE_z (firstE_z (firstE_z h0).2).1
 have hc := hT8.cells
 unfold Tb.cells at hc
 (repeat (first|refine ptr_i ?_|refine z2 ?_|(refine al_i ?_;intro _ _ _ _ _)|refine z4 ?_|refine z5 ?_|(refine z6 ?_;intro _ _)|refine app_P ?_|refine app_I ?_|refine app_S ?_|refine app_B ?_|refine app_M ?_|refine app_L ?_|refine app_U ?_|refine app_R ?_|(refine app_of rfl ?_;try dsimp only)))
 refine rdN hT8 hnf ?_
 have cF := (hT8.get hnf).cells
 unfold Nd.cells at cF
 have q0 : nf.blk ≠ bt := hT8.blk_bt hnf
 have q6 : b6 ≠ nf.blk := by
  intro e
  have h6 : σ8 b6 = some (.cells ⟨[.string data]⟩ 9 (0, 0)) := by exact gA
  rw [e, cF] at h6; simp at h6
 (repeat (first|refine ptr_i ?_|refine z2 ?_|(refine al_i ?_;intro _ _ _ _ _)|refine z4 ?_|refine z5 ?_|(refine z6 ?_;intro _ _)|refine app_P ?_|refine app_I ?_|refine app_S ?_|refine app_B ?_|refine app_M ?_|refine app_L ?_|refine app_U ?_|refine app_R ?_|(refine app_of rfl ?_;try dsimp only)))
 rename_i σ13 p13 σ14 p14
 have hT13 := hT8.putT (T' := { T with ub := wr (T.ub + wr ((data.size : Int) - nf.data.size)) }) p13 rfl rfl
 have hO13 : Own { T with ub := wr (T.ub + wr ((data.size : Int) - nf.data.size)) } := hO.same rfl rfl
 have hT14 := hT13.putN hO13 (n' := { nf with data := data }) (i := ino) hnf p14 rfl rfl rfl rfl
 have hO14 := hO13.set (n' := { nf with data := data }) (i := ino) hnf rfl rfl
 refine hK σ14 B ⟨_, hT14, hO14, ?_, fun b => (own_set (T := { T with ub := wr (T.ub + wr ((data.size : Int) - nf.data.size)) }) (i := ino) (n' := { nf with data := data }) hnf rfl rfl b).trans ((own_same rfl rfl b).trans (hB b))⟩ ?_
 ·rw [abs_set]
  unfold AT.written
  rw [abs_get, hnf]
  rfl
 ·intro b o hb hn
  have hn' : ¬ T.own bt b := fun h => hn ((hB b).1 h)
  exact ⟨p14.get ((hT.ne hn').2.2 ino nf hnf).1 (p13.get (hT.ne hn').1 (hgr.gr.get hb)), hn⟩
theorem s_ChmodT1 {σ : H} {b1 : Nat} {mode : Int} {t1 : TypeId} (h1 : σ b1 = some (.cells ⟨[.int .i64 mode]⟩ t1 (0, 0))) {K : KH}
 (hK : K (.int .i64 (if 0 <= mode /\ mode <= 511 then 0 else 2)) σ) : callW Tryz.prog 130 [.pointer (some ⟨b1, 0, none⟩)] K σ := by
 refine c130 _ ?_
 unfold g130
 (repeat (first|refine ptr_i ?_|refine z2 ?_|(refine al_i ?_;intro _ _ _ _ _)|refine z4 ?_|refine z5 ?_|(refine z6 ?_;intro _ _)|refine app_P ?_|refine app_I ?_|refine app_S ?_|refine app_B ?_|refine app_M ?_|refine app_L ?_|refine app_U ?_|refine app_R ?_|(refine app_of rfl ?_;try dsimp only)))
 by_cases ha : 0 <= mode
 ·refine br_t (by simpa using ha) ?_
  (repeat (first|refine ptr_i ?_|refine z2 ?_|(refine al_i ?_;intro _ _ _ _ _)|refine z4 ?_|refine z5 ?_|(refine z6 ?_;intro _ _)|refine app_P ?_|refine app_I ?_|refine app_S ?_|refine app_B ?_|refine app_M ?_|refine app_L ?_|refine app_U ?_|refine app_R ?_|(refine app_of rfl ?_;try dsimp only)))
  exact call_i (s_must _ _ (app_I (by simpa [ha] using hK)))
 ·refine br_f (by simpa using ha) ?_
  exact call_i (s_must _ _ (app_I (by simpa [ha] using hK)))
theorem s_ChmodT2 {σ : H} {bt : Nat} {T : Tb} (hT : TAt σ bt T) {b1 b2 : Nat} {ino : Int} {t1 t2 : TypeId} (h1 : σ b1 = some (.cells ⟨[.pointer (some ⟨bt, 0, none⟩)]⟩ t1 (0, 0))) (h2 : σ b2 = some (.cells ⟨[.int .i64 ino]⟩ t2 (0, 0))) {K : KH}
 (hK : K (.int .i64 (if (T.get ino).isSome then 0 else 5)) σ) : callW Tryz.prog 131 [.pointer (some ⟨b1, 0, none⟩), .pointer (some ⟨b2, 0, none⟩)] K σ := by
 refine c131 _ _ ?_
 unfold g131
 (repeat (first|refine ptr_i ?_|refine z2 ?_|(refine al_i ?_;intro _ _ _ _ _)|refine z4 ?_|refine z5 ?_|(refine z6 ?_;intro _ _)|refine app_P ?_|refine app_I ?_|refine app_S ?_|refine app_B ?_|refine app_M ?_|refine app_L ?_|refine app_U ?_|refine app_R ?_|(refine app_of rfl ?_;try dsimp only)))
 refine call_i (s_get hT ino (app_P ?_))
 refine call_i (s_must _ _ (app_I ?_))
 cases h : T.get ino <;> simpa [h] using hK
theorem s_ChmodT {σ : H} {bt : Nat} {A : AT} {B : Nat -> Prop} (hA : TabAt σ bt A B) (ino mode : Int) {K : KH}
 (hK : ∀ σ' B', TabAt σ' bt (AT.chmodR A ino mode).2 B' -> Sep σ B σ' B' -> K (.int .i64 (AT.chmodR A ino mode).1) σ') :
 callW Tryz.prog 74 [.pointer (some ⟨bt, 0, none⟩), .int .i64 ino, .int .i64 mode] K σ := by
 obtain ⟨T, hT, hO, rfl, hB⟩ := hA
 have hc0 := hT.cells
 refine c74 _ _ _ ?_
 unfold g74
 refine al_i ?_; intro b4 σ1 g1 e1 n1
 refine al_i ?_; intro b5 σ2 g2 e2 n2
 refine al_i ?_; intro b6 σ3 g3 e3 n3
 refine rd_P (rdC_of (by exact gA) (by rfl)) ?_
 refine al_i ?_; intro b17 σ8 g8 e8 n8
 have hgr : Lng σ σ8 := ⟨by repeat (first | exact Gr.refl _ | assumption | refine Gr.trans ?_ ‹_› | refine Gr.putF ?_ ‹_› (none_of ?_ ‹_›))⟩
 have hT8 := hT.gr hgr.gr
 refine call_i (s_first (es := [0, if 0 <= mode /\ mode <= 511 then 0 else 2, if (T.get ino).isSome then 0 else 5]) e8 ?_ (by simp) (app_I ?_))
 ·exact ⟨pu_of go_there fun K hk => s_there _ hk, fun _ => ⟨pu_of go_ChmodT1 fun K hk => s_ChmodT1 (by exact gA) hk, fun hz => ⟨pu_of go_ChmodT2 fun K hk => s_ChmodT2 hT8 (by exact gA) (by exact gA) hk, fun _ => trivial⟩⟩⟩
 have hE : firstE [0, if 0 <= mode /\ mode <= 511 then 0 else 2, if (T.get ino).isSome then 0 else 5] = T.abs.chmodE ino mode := by
  unfold AT.chmodE; rw [abs_get]; cases T.get ino <;> rfl
 rw [hE]
 unfold AT.chmodR at hK
 by_cases h0 : T.abs.chmodE ino mode = 0
 case neg =>
  rw [if_neg h0] at hK
  refine br_t (by simpa using h0) ?_
  exact hK σ8 B ⟨T, hT8, hO, rfl, hB⟩ (Sep.gr hgr.gr)
 rw [if_pos h0] at hK
 refine br_f (by simpa using h0) ?_
 rw [<- hE] at h0
 have hz := (firstE_z (firstE_z (firstE_z h0).2).2).1
 cases hnf : T.get ino with
 | none => rw [hnf] at hz; cases hz
 | some nf =>
 have hc := hT8.cells
 unfold Tb.cells at hc
 (repeat (first|refine ptr_i ?_|refine z2 ?_|(refine al_i ?_;intro _ _ _ _ _)|refine z4 ?_|refine z5 ?_|(refine z6 ?_;intro _ _)|refine app_P ?_|refine app_I ?_|refine app_S ?_|refine app_B ?_|refine app_M ?_|refine app_L ?_|refine app_U ?_|refine app_R ?_|(refine app_of rfl ?_;try dsimp only)))
 refine rdN hT8 hnf ?_
 have cF := (hT8.get hnf).cells
 unfold Nd.cells at cF
 (repeat (first|refine ptr_i ?_|refine z2 ?_|(refine al_i ?_;intro _ _ _ _ _)|refine z4 ?_|refine z5 ?_|(refine z6 ?_;intro _ _)|refine app_P ?_|refine app_I ?_|refine app_S ?_|refine app_B ?_|refine app_M ?_|refine app_L ?_|refine app_U ?_|refine app_R ?_|(refine app_of rfl ?_;try dsimp only)))
 rename_i σ14 p14
 have hT14 := hT8.putN hO (n' := { nf with mode := mode }) (i := ino) hnf p14 rfl rfl rfl rfl
 have hO14 := hO.set (n' := { nf with mode := mode }) (i := ino) hnf rfl rfl
 refine hK σ14 B ⟨_, hT14, hO14, ?_, fun b => (own_set (i := ino) (n' := { nf with mode := mode }) hnf rfl rfl b).trans (hB b)⟩ ?_
 ·rw [abs_set]
  unfold AT.chmoded AT.mod
  rw [abs_get, hnf]
  rfl
 ·intro b o hb hn
  have hn' : ¬ T.own bt b := fun h => hn ((hB b).1 h)
  exact ⟨p14.get ((hT.ne hn').2.2 ino nf hnf).1 (hgr.gr.get hb), hn⟩
theorem s_NewT (qi qb : Int) {σ : H} {K : KH} (hN : newOk qi qb = false -> K (.pointer none) σ)
 (hK : newOk qi qb = true -> ∀ bt σ' B', σ bt = none -> TabAt σ' bt (newT qi qb) B' -> Gr σ σ' -> (∀ b, B' b -> σ b = none) -> K (.pointer (some ⟨bt, 0, none⟩)) σ') :
 callW Tryz.prog 67 [.agg ⟨[.int .i64 qi, .int .i64 qb]⟩] K σ := by
 refine callW.drop (K' := fun v σ' => (newOk qi qb = false /\ v = .pointer none /\ Gr σ σ') \/ (newOk qi qb = true /\ K v σ')) ?_ ?_
 case refine_2 =>
  rintro v σ' (⟨h1, h2, h3⟩ | ⟨h1, h2⟩)
  ·exact ⟨σ, h3, h2 ▸ hN h1⟩
  ·exact ⟨σ', Gr.refl _, h2⟩
 refine c67 _ _ ?_
 unfold g67
 refine al_i ?_; intro b3 σ1 g1 e1 n1
 refine j_i (fun j => ∀ x : Bool, x = !newOk qi qb -> j (some ⟨b3, 0, none⟩) x σ1) ?_ ?_
 case refine_2 =>
  intro j hj
  (repeat (first|refine ptr_i ?_|refine z2 ?_|(refine al_i ?_;intro _ _ _ _ _)|refine z4 ?_|refine z5 ?_|(refine z6 ?_;intro _ _)|refine app_P ?_|refine app_I ?_|refine app_S ?_|refine app_B ?_|refine app_M ?_|refine app_L ?_|refine app_U ?_|refine app_R ?_|(refine app_of rfl ?_;try dsimp only)))
  by_cases h1 : qi < 1
  ·exact br_t (by simpa using h1) (hj _ (by simp [newOk, h1]))
  refine br_f (by simpa using h1) ?_
  (repeat (first|refine ptr_i ?_|refine z2 ?_|(refine al_i ?_;intro _ _ _ _ _)|refine z4 ?_|refine z5 ?_|(refine z6 ?_;intro _ _)|refine app_P ?_|refine app_I ?_|refine app_S ?_|refine app_B ?_|refine app_M ?_|refine app_L ?_|refine app_U ?_|refine app_R ?_|(refine app_of rfl ?_;try dsimp only)))
  by_cases h2 : qi > 1048576
  ·exact br_t (by simpa using h2) (hj _ (by simp [newOk, h2]))
  refine br_f (by simpa using h2) ?_
  (repeat (first|refine ptr_i ?_|refine z2 ?_|(refine al_i ?_;intro _ _ _ _ _)|refine z4 ?_|refine z5 ?_|(refine z6 ?_;intro _ _)|refine app_P ?_|refine app_I ?_|refine app_S ?_|refine app_B ?_|refine app_M ?_|refine app_L ?_|refine app_U ?_|refine app_R ?_|(refine app_of rfl ?_;try dsimp only)))
  by_cases h3 : qb < 0
  ·exact br_t (by simpa using h3) (hj _ (by simp [newOk, h3]))
  refine br_f (by simpa using h3) ?_
  (repeat (first|refine ptr_i ?_|refine z2 ?_|(refine al_i ?_;intro _ _ _ _ _)|refine z4 ?_|refine z5 ?_|(refine z6 ?_;intro _ _)|refine app_P ?_|refine app_I ?_|refine app_S ?_|refine app_B ?_|refine app_M ?_|refine app_L ?_|refine app_U ?_|refine app_R ?_|(refine app_of rfl ?_;try dsimp only)))
  exact hj _ (by simp [newOk, h1, h2, h3])
 intro x hx
 cases hx2 : newOk qi qb with
 | false =>
  rw [hx2] at hx; subst hx
  exact br_t rfl (.inl ⟨rfl, rfl, g1⟩)
 | true =>
  rw [hx2] at hx; subst hx
  refine br_f rfl ?_
  refine al_i ?_; intro b7 σ2 g2 e2 n2
  refine al_i ?_; intro b8 σ3 g3 e3 n3
  (repeat (first|refine ptr_i ?_|refine z2 ?_|(refine al_i ?_;intro _ _ _ _ _)|refine z4 ?_|refine z5 ?_|(refine z6 ?_;intro _ _)|refine app_P ?_|refine app_I ?_|refine app_S ?_|refine app_B ?_|refine app_M ?_|refine app_L ?_|refine app_U ?_|refine app_R ?_|(refine app_of rfl ?_;try dsimp only)))
  rename_i b13 σ4 g4 e4 n4
  let nr : Nd := ⟨b8, 2, 493, ⟨⟨[]⟩⟩, 1, 1, some b7, []⟩
  have m0 : MapAt σ4 b13 (encL kkI Nd.ptr []) := MapAt.new e4
  refine mu_i (kk := kkI) (f := Nd.ptr) und_MIN und_int m0 1 nr ?_
  intro o5 σ5 p5 m5
  refine al_i ?_; intro b14 σ6 g6 e6 n6
  refine .inr ⟨rfl, ?_⟩
  let T : Tb := ⟨qi, qb, 1, 0, 1, b13, [(1, nr)]⟩
  have q8 : b8 ≠ b13 := ne_fresh e3 n4
  have q7 : b7 ≠ b13 := ne_fr n4 (by repeat (first | exact io ‹_› | exact mS ‹_› | refine gS ‹_› ?_ | refine pS ‹_› ?_))
  have hget : ∀ i n, T.get i = some n -> i = 1 /\ n = nr := by
   intro i n h
   unfold Tb.get at h
   simp only [T, lk] at h
   cases hi : (i == 1) with
   | true => rw [hi] at h; cases h; exact ⟨by simpa using hi, rfl⟩
   | false => rw [hi] at h; cases h
  have hT : TAt σ6 b14 T := by
   refine ⟨e6, m5.gr g6, ?_⟩
   intro i n h
   obtain ⟨_, rfl⟩ := hget i n h
   refine ⟨?_, ?_, fun h => (by cases h), fun _ h => (by cases h)⟩
   ·exact g6.get (p5.get q8 (g4.get e3))
   ·intro e he
    cases he
    exact MapAt.new (g6.get (p5.get q7 (g4.get (g3.get e2))))
  have hO : Own T := by
   refine ⟨?_, ?_, ?_⟩
   ·intro i j n m hi hj _; rw [(hget i n hi).1, (hget j m hj).1]
   ·intro i j n m e hi hj _ _; rw [(hget i n hi).1, (hget j m hj).1]
   ·intro i n hi; rw [(hget i n hi).2]; intro h; exact q7 (Option.some.inj h)
  have gg : Gr σ σ4 := by repeat (first | exact Gr.refl _ | assumption | refine Gr.trans ?_ ‹_› | refine Gr.putF ?_ ‹_› (none_of ?_ ‹_›))
  have g5 : Gr σ σ5 := gg.putF p5 (none_of (by repeat (first | exact Gr.refl _ | assumption | refine Gr.trans ?_ ‹_› | refine Gr.putF ?_ ‹_› (none_of ?_ ‹_›))) n4)
  refine hK hx2 b14 σ6 (T.own b14) (none_of g5 n6) ⟨T, hT, hO, rfl, fun _ => Iff.rfl⟩ (g5.trans g6) ?_
  rintro b (e | e | ⟨i, n, hn, hb⟩)
  ·subst e; exact none_of g5 n6
  ·subst e; exact none_of ((g1.trans g2).trans g3) n4
  ·obtain ⟨_, rfl⟩ := hget i n hn
   rcases hb with e | e
   ·subst e; exact none_of (g1.trans g2) n3
   ·cases e; exact none_of g1 n2
end Go.Proofs.YthclifcpjnhmjaaGreatDoor

set_option maxRecDepth 100000
namespace Go.Proofs.YthclifcpjnhmjaaGreatDoor
open Go Go.HL Go.Wk
theorem go_IBS : isGo Tryz.prog 166 = false := by kernel_rfl
theorem fn_IBS : (Tryz.prog.funcs[166]?).map (fun fn => ((fn.name == "runtime.NumGoroutine"), fn.body.isNone)) = some (false, true) := by kernel_rfl
theorem ex_IBS : (Tryz.prog.funcs[166]?).bind (fun fn => Extern.find fn) = some Extern.BytealgIndexByte.indexByte := by kernel_rfl
theorem en_IBS : (Tryz.prog.funcs[166]?).map (fun fn => (Extern.findNext fn).isNone) = some true := by kernel_rfl
theorem x_IBS (s : ByteArray) (c : Int) {σ : H} {F : Int -> H -> Prop} (hF : F (firstIdx s c.toNat.toUInt8) σ) : cvalT Tryz.prog (.func (.func 166) ⟨[]⟩ ⟨[]⟩) [.string s, .int .u8 c] kI F σ := by
 unfold cvalT callVW
 simp only [go_IBS]
 intro w hw
 have h1 := fn_IBS
 have h2 := ex_IBS
 have h3 := en_IBS
 cases hf : Tryz.prog.funcs[166]? with
 | none => rw [hf] at h1; cases h1
 | some fn =>
  rw [hf] at h1 h2 h3
  simp only [Option.map_some, Option.some.injEq, Prod.mk.injEq, Option.bind_some] at h1 h2 h3
  have hr := run_callFunc_indexByte hf h1.1 h1.2 (Option.isNone_iff_eq_none.1 h3) h2 #[.string s, .int .u8 c] w
  rw [run_indexByte_string] at hr
  have : (callS (.func (.func 166) ⟨[]⟩ ⟨[]⟩) [.string s, .int .u8 c]).run Tryz.prog w = .ok (.value (.int .i64 (firstIdx s c.toNat.toUInt8))) w := by
   refine Eq.trans ?_ hr
   simp [callS, Deferred.ofValue, invoke]
  rw [this]
  exact ⟨σ, Ext.refl hw, app_I hF⟩
theorem firstIdx_lt (s : ByteArray) (c : UInt8) : decide (firstIdx s c < 0) = !(s.toList.any fun x => x == c) := by
 have key : (∃ i, i < s.size /\ s[i]! = c) ↔ c ∈ s.toList := by
  rw [ByteArray.toList_eq]
  constructor
  ·rintro ⟨i, hi, he⟩
   rw [getElem!_pos s i hi] at he
   rw [<- he]
   exact Array.getElem_mem_toList (xs := s.data) hi
  ·intro h
   obtain ⟨i, hi, he⟩ := List.getElem_of_mem h
   have hi' : i < s.data.size := by simpa using hi
   refine ⟨i, hi', ?_⟩
   rw [getElem!_pos s i hi', <- he]
   simp [ByteArray.getElem_eq_getElem_data]
 unfold firstIdx
 cases hf : (List.range s.size).find? fun i => s[i]! == c with
 | some i =>
  have h1 := List.find?_some hf
  have h2 := List.mem_of_find?_eq_some hf
  have : c ∈ s.toList := key.1 ⟨i, by simpa using h2, by simpa using h1⟩
  have h3 : (s.toList.any fun x => x == c) = true := List.any_eq_true.2 ⟨c, this, by simp⟩
  rw [h3]
  simp
 | none =>
  have h1 := List.find?_eq_none.1 hf
  have h3 : (s.toList.any fun x => x == c) = false := by
   rw [List.any_eq_false]
   intro x hx hxc
   have : x = c := by simpa using hxc
   subst this
   obtain ⟨i, hi, he⟩ := key.2 hx
   exact h1 i (by simpa using hi) (by simpa using he)
  rw [h3]; rfl
theorem x_IndexByte (s : ByteArray) (c : Int) {σ : H} {K : KH} (hK : K (.int .i64 (firstIdx s c.toNat.toUInt8)) σ) : callW Tryz.prog 78 [.string s, .int .u8 c] K σ := by
 refine c78 _ _ ?_
 unfold g78
 refine call_i ?_
 refine c133 _ _ ?_
 unfold g133
 exact x_IBS s c (app_I hK)
theorem iByte : IByte := by
 intro s σ K hK
 refine x_IndexByte s 0 (hK _ ?_)
 have := firstIdx_lt s 0
 rw [ByteArray.toList_eq] at this
 exact this
end Go.Proofs.YthclifcpjnhmjaaGreatDoor

namespace Go.Wk
open Go Go.HL
def leB : List UInt8 -> List UInt8 -> Bool
 | [], _ => true
 | _ :: _, [] => false
 | a :: r, b :: s => match Nat.blt a.toNat b.toNat with
  | true => true
  | false => match Nat.blt b.toNat a.toNat with
   | true => false
   | false => leB r s
def insB (x : List UInt8) : List (List UInt8) -> List (List UInt8)
 | [] => [x]
 | y :: r => match leB x y with
  | true => x :: y :: r
  | false => y :: insB x r
def sortB : List (List UInt8) -> List (List UInt8)
 | [] => []
 | x :: r => insB x (sortB r)
def sortN (l : List ByteArray) : List ByteArray := (sortB (l.map fun s => s.data.toList)).map fun x => (⟨⟨x⟩⟩ : ByteArray)
theorem leB_iff : ∀ x y : List UInt8, leB x y = true ↔ x <= y := by
 intro x
 induction x with
 | nil => intro y; simp [leB]
 | cons a r ih =>
  intro y
  cases y with
  | nil => simp [leB]
  | cons b s =>
   rw [List.cons_le_cons_iff]
   unfold leB
   cases h1 : Nat.blt a.toNat b.toNat with
   | true =>
    have : a < b := UInt8.lt_iff_toNat_lt.2 (by simpa [Nat.blt_eq] using h1)
    simp [this]
   | false =>
    have h1' : ¬ a < b := by
     intro h; have : Nat.blt a.toNat b.toNat = true := by rw [Nat.blt_eq]; exact h
     rw [h1] at this; cases this
    cases h2 : Nat.blt b.toNat a.toNat with
    | true =>
     have : b < a := UInt8.lt_iff_toNat_lt.2 (by simpa [Nat.blt_eq] using h2)
     simp only [Bool.false_eq_true, false_iff, not_or, not_and]
     refine ⟨h1', fun e => ?_⟩
     subst e; exact absurd this (UInt8.lt_irrefl _)
    | false =>
     have h2' : ¬ b < a := by
      intro h; have : Nat.blt b.toNat a.toNat = true := by rw [Nat.blt_eq]; exact h
      rw [h2] at this; cases this
     have : a = b := UInt8.le_antisymm (UInt8.not_lt.1 h2') (UInt8.not_lt.1 h1')
     simp [this, ih]
theorem insB_perm (x : List UInt8) : ∀ l, (insB x l).Perm (x :: l) := by
 intro l
 induction l with
 | nil => exact List.Perm.refl _
 | cons y r ih =>
  unfold insB
  cases leB x y with
  | true => exact List.Perm.refl _
  | false => exact (ih.cons y).trans (List.Perm.swap x y r)
theorem sortB_perm : ∀ l, (sortB l).Perm l := by
 intro l
 induction l with
 | nil => exact List.Perm.refl _
 | cons x r ih => exact (insB_perm x _).trans (ih.cons x)
theorem insB_sorted {x : List UInt8} : ∀ {l : List (List UInt8)}, l.Pairwise (· <= ·) -> (insB x l).Pairwise (· <= ·) := by
 intro l
 induction l with
 | nil => intro _; simp [insB]
 | cons y r ih =>
  intro h
  obtain ⟨h1, h2⟩ := List.pairwise_cons.1 h
  unfold insB
  cases hb : leB x y with
  | true =>
   have hxy := (leB_iff x y).1 hb
   refine List.pairwise_cons.2 ⟨fun z hz => ?_, h⟩
   rcases List.mem_cons.1 hz with e | e
   ·rw [e]; exact hxy
   ·exact List.le_trans hxy (h1 z e)
  | false =>
   have hyx : y <= x := by
    have : ¬ x <= y := by rw [<- leB_iff, hb]; simp
    exact (List.le_total x y).resolve_left this
   refine List.pairwise_cons.2 ⟨fun z hz => ?_, ih h2⟩
   rcases List.mem_cons.1 ((insB_perm x r).mem_iff.1 hz) with e | e
   ·rw [e]; exact hyx
   ·exact h1 z e
theorem sortB_sorted : ∀ l, (sortB l).Pairwise (· <= ·) := by
 intro l
 induction l with
 | nil => exact List.Pairwise.nil
 | cons x r ih => exact insB_sorted ih
def AT.names (A : AT) (dir : Int) : List ByteArray := match A.get dir with
 | none => []
 | some n => sortN (keysL n.ents)
structure Pl where
 dir : Int
 name : ByteArray
 ino : Int
 there : Bool
def Pl.z : Pl := ⟨0, ⟨⟨[]⟩⟩, 0, false⟩
def splitL (c : UInt8) : List UInt8 -> List (List UInt8)
 | [] => [[]]
 | x :: r => match x == c with
  | true => [] :: splitL c r
  | false => match splitL c r with
   | [] => [[x]]
   | h :: t => (x :: h) :: t
def okPart (s : ByteArray) : Bool := !sEq s ⟨⟨[]⟩⟩ && !sEq s ⟨⟨[46]⟩⟩
def partsB (path : ByteArray) : List ByteArray := ((splitL 47 path.data.toList).map fun l => (⟨⟨l⟩⟩ : ByteArray)).filter okPart
def mayE (path : ByteArray) : Int := if sEq path ⟨⟨[]⟩⟩ then 5 else if path.size > 255 then 3 else if hasNul path then 2 else 0
def headIs (c : UInt8) (s : ByteArray) : Bool := match s.data.toList with
 | [] => false
 | x :: _ => x == c
def AT.data (A : AT) (i : Int) : ByteArray := ((A.get i).map (·.data)).getD ⟨⟨[]⟩⟩
def AT.steps (A : AT) (go : Int -> ByteArray -> Int -> Int × Pl × Int) (follow : Bool) : List ByteArray -> Pl -> Int -> Int × Pl × Int
 | [], p, h => (0, p, h)
 | name :: rest, p, h =>
  if p.there = false then (5, Pl.z, h)
  else if A.kind p.ino ≠ 2 then (8, Pl.z, h)
  else if sEq name ⟨⟨[46, 46]⟩⟩ = true then AT.steps A go follow rest ⟨A.upOf p.ino, ⟨⟨[]⟩⟩, A.upOf p.ino, true⟩ h
  else if name.size > 56 then (3, Pl.z, h)
  else
   let o := A.find p.ino name
   let q : Pl := ⟨p.ino, name, o.getD 0, o.isSome⟩
   if o.isSome = false \/ (rest.isEmpty && !follow) = true \/ A.kind q.ino ≠ 3 then AT.steps A go follow rest q h
   else if h - 1 < 0 then (9, Pl.z, h - 1)
   else
    let r := go q.dir (A.data q.ino) (h - 1)
    if r.1 ≠ 0 then (r.1, Pl.z, r.2.2) else AT.steps A go follow rest r.2.1 r.2.2
def AT.walk (A : AT) : Nat -> Int -> ByteArray -> Bool -> Int -> Int × Pl × Int
 | 0, _, _, _, h => (9, Pl.z, h)
 | f + 1, at_, path, follow, h =>
  if mayE path ≠ 0 then (mayE path, Pl.z, h)
  else
   let a := if headIs 47 path then 1 else at_
   A.steps (fun d s h' => AT.walk A f d s true h') follow (partsB path) ⟨a, ⟨⟨[]⟩⟩, a, true⟩ h
def AT.locate (A : AT) (cwd path : ByteArray) (follow : Bool) : Int × Pl :=
 if sEq path ⟨⟨[]⟩⟩ then (5, Pl.z)
 else if headIs 47 path then let r := A.walk 10 1 path follow 8; (r.1, r.2.1)
 else if headIs 47 cwd = false then (5, Pl.z)
 else
  let r := A.walk 10 1 cwd true 8
  if r.1 ≠ 0 then (r.1, Pl.z)
  else if r.2.1.there = false then (5, Pl.z)
  else if A.kind r.2.1.ino ≠ 2 then (8, Pl.z)
  else let r' := A.walk 10 r.2.1.ino path follow 8; (r'.1, r'.2.1)
structure IN where
 kind : Int
 mode : Int
 data : ByteArray
 links : Int
def IN.z : IN := ⟨0, 0, ⟨⟨[]⟩⟩, 0⟩
def AN.inode (n : AN) : IN := ⟨n.kind, n.mode, n.data, n.links⟩
def AT.ino (A : AT) (i : Int) : IN := ((A.get i).map AN.inode).getD IN.z
def AT.with_ (A : AT) (cwd path : ByteArray) (follow : Bool) : Int × Int × IN :=
 let r := A.locate cwd path follow
 if r.1 ≠ 0 then (r.1, 0, IN.z)
 else if r.2.there = false then (5, 0, IN.z)
 else match A.get r.2.ino with
  | none => (5, 0, IN.z)
  | some n => (0, r.2.ino, n.inode)
def AT.stat (A : AT) (cwd path : ByteArray) (follow : Bool) : Int × IN := let r := A.with_ cwd path follow; (r.1, r.2.2)
def AT.deep (A : AT) : Nat -> Int -> Option Int
 | 0, _ => none
 | f + 1, d => if d = 1 then some 1 else (AT.deep A f (A.upOf d)).map (· + 1)
def AT.writeF (A : AT) (cwd path data : ByteArray) (more : Bool) : Int × AT :=
 let r := A.locate cwd path true
 if r.1 ≠ 0 then (r.1, A)
 else if r.2.there = false then let m := A.makeR r.2.dir r.2.name 1 420 data; (m.2.1, m.2.2)
 else if A.kind r.2.ino = 2 then (7, A)
 else A.writeR r.2.ino (if more then A.data r.2.ino ++ data else data)
def AT.freshP (A : AT) (cwd path : ByteArray) : Int × Pl :=
 let r := A.locate cwd path false
 if r.1 ≠ 0 then (r.1, Pl.z) else if r.2.there = true then (6, Pl.z) else (0, r.2)
def AT.mkdirF (A : AT) (cwd path : ByteArray) : Int × AT :=
 let r := A.freshP cwd path
 if r.1 ≠ 0 then (r.1, A)
 else if (A.deep 13 r.2.dir).getD 0 >= 12 then (3, A)
 else let m := A.makeR r.2.dir r.2.name 2 493 ⟨⟨[]⟩⟩; (m.2.1, m.2.2)
def AT.symlinkF (A : AT) (cwd target path : ByteArray) : Int × AT :=
 if linkOk target = false then (2, A)
 else
  let r := A.freshP cwd path
  if r.1 ≠ 0 then (r.1, A)
  else let m := A.makeR r.2.dir r.2.name 3 511 target; (m.2.1, m.2.2)
def AT.chmodF (A : AT) (cwd path : ByteArray) (mode : Int) : Int × AT :=
 if mode < 0 \/ mode > 511 then (2, A)
 else
  let r := A.with_ cwd path true
  if r.1 ≠ 0 then (r.1, A)
  else A.chmodR r.2.1 mode
def AT.listF (A : AT) (cwd path : ByteArray) : Int × List ByteArray :=
 let r := A.with_ cwd path true
 if r.1 ≠ 0 then (r.1, []) else if r.2.2.kind ≠ 2 then (8, []) else (0, A.names r.2.1)
def AT.levels (A : AT) : Nat -> Int -> Int
 | 0, _ => 0
 | f + 1, i => if A.kind i ≠ 2 then 0 else (A.names i).foldl (fun n s => let x := AT.levels A f ((A.find i s).getD 0); if x > n then x else n) 0 + 1
end Go.Wk

