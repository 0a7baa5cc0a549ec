/- A part of the proof: MiscNumbers holds. -/
import Derived.Test.YthclifcpjnhmjaaGreatDoorPbb
import Derived.Lib.ItoaNum
import Derived.Lib.LaidTab
import Derived.Test.YthclifcpjnhmjaaGreatDoorCards
import Derived.Test.YthclifcpjnhmjaaGreatDoorTie
import Derived.WalkKit
import Derived.ProofKit
import Derived.OpenShut
import Derived.Deep.DeepHandedRow
import Derived.Deep.DeepLaidRun
import Derived.Shelf.Strings.SlTrimAscii
import Derived.Shelf.LaysM
import Derived.Ground.NamesProg
import Derived.Test.YthclifcpjnhmjaaGreatDoorProg
import Derived.Stop.IfaceNil
import Derived.Shelf.Strconv.Itoa4
import Derived.Shelf.Strings.Repeat
set_option maxRecDepth 100000
namespace Go.Wk
open Go Go.HL
theorem dig10 {u : Nat} (h : u < 10) : UInt8.ofNat (48 + u) = digitL u := by
 have : u = 0 \/ u = 1 \/ u = 2 \/ u = 3 \/ u = 4 \/ u = 5 \/ u = 6 \/ u = 7 \/ u = 8 \/ u = 9 := by omega
 rcases this with h | h | h | h | h | h | h | h | h | h <;> subst h <;> decide
theorem dec_fmt : ∀ (f u : Nat), u < 10 ^ f -> 0 < f -> Lib.decDigits u = fmtL 10 f u [] := by
 intro f
 induction f with
 | zero => intro u _ h; cases h
 | succ f ih =>
  intro u hu _
  rw [Lib.decDigits]
  by_cases h : u < 10
  ·rw [dif_pos h, fmtL, if_pos h, dig10 h]
  ·rw [dif_neg h, fmtL_step h]
   have hf : 0 < f := by
    rcases Nat.eq_zero_or_pos f with e | e
    ·subst e; simp at hu; omega
    ·exact e
   rw [ih (u / 10) (by rw [Nat.pow_succ] at hu; omega) hf, dig10 (Nat.mod_lt _ (by decide))]
theorem itoa_fmt {n : Int} (h1 : -1000000000000000 < n) (h2 : n < 1000000000000000) : (⟨⟨Lib.itoa n⟩⟩ : ByteArray) = fmtP 10 n := by
 have hb : n.natAbs < 10 ^ 64 := by have : n.natAbs < 10 ^ 15 := by omega
                                    exact Nat.lt_trans this (by decide)
 unfold Lib.itoa fmtP
 by_cases h : n < 0
 ·rw [if_pos h, if_pos h, dec_fmt 64 _ hb (by decide)]
 ·rw [if_neg h, if_neg h, show n.toNat = n.natAbs by omega, dec_fmt 64 _ hb (by decide)]
def hexS : List UInt8 := [48, 49, 50, 51, 52, 53, 54, 55, 56, 57, 97, 98, 99, 100, 101, 102, 103, 104, 105, 106, 107, 108, 109, 110, 111, 112, 113, 114, 115, 116, 117, 118, 119, 120, 121, 122]
theorem hexS_at : ∀ n, n < 16 -> hexS[n]? = some (digitL n) := by decide +kernel
theorem and15 {u : Nat} (h : u < 18446744073709551616) : bitV .and .u64 (u : Int) 15 = ((u % 16 : Nat) : Int) := by
 have e1 : (BitVec.ofInt 64 (u : Int) &&& BitVec.ofInt 64 15).toNat = u % 16 := by
  rw [BitVec.toNat_and, BitVec.toNat_ofInt]
  have : (((u : Int) % ((2 ^ 64 : Nat) : Int)).toNat) = u := by omega
  rw [this, show (BitVec.ofInt 64 15).toNat = 2 ^ 4 - 1 from rfl, Nat.and_two_pow_sub_one_eq_mod]
 show IntKind.u64.wrap ((BitVec.ofInt 64 (u : Int) &&& BitVec.ofInt 64 15).toNat : Int) = _
 rw [e1]
 have : IntKind.u64.wrap ((u % 16 : Nat) : Int) = ((u % 16 : Nat) : Int) % 18446744073709551616 := rfl
 rw [this]; omega
def TabC (σ : H) (g : Nat) (k : IntKind) (zs : List Int) : Prop := ∃ t fz, σ g = some (.cells ⟨zs.map fun z => Value.int k z⟩ t fz)
theorem TabC.gr {σ σ' : H} {g : Nat} {k : IntKind} {zs : List Int} (h : TabC σ g k zs) (hg : Gr σ σ') : TabC σ' g k zs := by
 obtain ⟨t, fz, h⟩ := h; exact ⟨t, fz, hg.get h⟩
theorem TabC.is {P : Program} {σ : H} {w : World} {g : Nat} {k : IntKind} {zs : List Int} {name : String} (h : TabC σ g k zs) (hw : σ.le w) (hg : P.globalNamed name = some g) : Lib.TabIs P w name k zs := by
 obtain ⟨t, fz, h⟩ := h
 unfold Lib.TabIs World.var?
 rw [hg]
 simp [hw g _ h]
theorem TabC.of {P : Program} {W : World} {g : Nat} {k : IntKind} {zs : List Int} {name : String} (h : Lib.TabIs P W name k zs) (hg : P.globalNamed name = some g) : TabC (whole W) g k zs := by
 unfold Lib.TabIs World.var? at h
 rw [hg] at h
 simp only [Option.bind_some] at h
 unfold TabC whole
 cases hb : W.heap[g]? with
 | none => rw [hb] at h; cases h
 | some o =>
  rw [hb] at h
  cases o with
  | cells cs t fz =>
   simp only [Option.some.injEq] at h
   exact ⟨t, fz, by rw [h]⟩
  | _ => cases h
def dbTab : List Int := [0, 1, 56, 2, 57, 49, 28, 3, 61, 58, 42, 50, 38, 29, 17, 4, 62, 47, 59, 36, 45, 43, 51, 22, 53, 39, 33, 30, 24, 18, 12, 5, 63, 55, 48, 27, 60, 41, 37, 16, 46, 35, 44, 21, 52, 32, 23, 11, 54, 26, 40, 15, 34, 20, 31, 10, 25, 14, 19, 9, 13, 8, 7, 6]
end Go.Wk

set_option maxRecDepth 100000
namespace Go.Proofs.YthclifcpjnhmjaaGreatDoor
open Go Go.HL Go.Wk Go.ChangeShapes Go.WideShapes Go.ChangeAt Go.RowKit
theorem own : ownKnob Tryz.prog.godebug = none := by kernel_rfl
theorem laidOut : laidOutB Tryz.prog = true := by kernel_rfl
def accCells : Array Value := #[.int .u8 128, .int .u8 191, .int .u8 160, .int .u8 191, .int .u8 128, .int .u8 159, .int .u8 144, .int .u8 191, .int .u8 128, .int .u8 143, .int .u8 0, .int .u8 0, .int .u8 0, .int .u8 0, .int .u8 0, .int .u8 0, .int .u8 0, .int .u8 0, .int .u8 0, .int .u8 0, .int .u8 0, .int .u8 0, .int .u8 0, .int .u8 0, .int .u8 0, .int .u8 0, .int .u8 0, .int .u8 0, .int .u8 0, .int .u8 0, .int .u8 0, .int .u8 0]
def firstCells : Array Value := ⟨Go.Pinned.utf8FirstZ.map fun (n : Nat) => .int .u8 (n : Int)⟩
def db32 : List Int := [0, 1, 28, 2, 29, 14, 24, 3, 30, 22, 20, 15, 25, 17, 4, 8, 31, 27, 13, 23, 21, 19, 16, 7, 26, 12, 18, 6, 11, 5, 10, 9]
def intC (k : IntKind) (l : List Int) : Array Value := ⟨l.map fun n => .int k n⟩
def setC (cs : Array Value) : Obj -> Obj
 | .cells _ t frozen => .cells cs t frozen
 | o => o
def errB (l : List UInt8) : Obj := .cells #[.string ⟨⟨l⟩⟩] 250 (0, 0)
def errV (b : Nat) : Array Value := #[.iface 248 (.pointer (some ⟨b, 0, none⟩))]
noncomputable def laidWorld (os : Os) : World :=
 let w := World.holding Tryz.prog os ⟨#[errB [118, 97, 108, 117, 101, 32, 111, 117, 116, 32, 111, 102, 32, 114, 97, 110, 103, 101], errB [105, 110, 118, 97, 108, 105, 100, 32, 115, 121, 110, 116, 97, 120]], #[], []⟩
 { w with heap := (((((((w.heap.modify 1 (setC firstCells)).modify 2 (setC accCells)).modify 3 (setC (intC .u64 Lib.pow10Tab))).modify 4 (setC (errV (Tryz.prog.globals.size + 6)))).modify 5 (setC (errV (Tryz.prog.globals.size + 5)))).modify 6 (setC (intC .u8 db32))).modify 7 (setC (intC .u8 dbTab))) }
end Go.Proofs.YthclifcpjnhmjaaGreatDoor

set_option maxRecDepth 100000
namespace Go.Proofs.YthclifcpjnhmjaaGreatDoor
open Go Go.HL Go.Wk
attribute [local irreducible] ptrW ifW brW andW rdT alW letJ stW muW biW vaW imW callT cvalT app callW invW callVW sizeT oW nilF oneK loopW rfW funW begW roundK exW idxW Gr Put
theorem wrS1 {n : Nat} (h : n <= 9000000000000000000) : IntKind.i64.wrap (((n + 1 : Nat) : Int) - 1) = (n : Int) := by rw [wrap_id (by omega) (by omega)]; omega
theorem sz_snoc (m : List UInt8) (x : UInt8) : (⟨⟨m ++ [x]⟩⟩ : ByteArray).size = m.length + 1 := by rw [bsz, List.length_append]; rfl
theorem x_trimRB (c : UInt8) (l : List UInt8) (hl : l.length <= 1000000000) {σ : H} {K : KH} (hK : K (.string ⟨⟨trR (· == c) l⟩⟩) σ) : callW Tryz.prog 42 [.string ⟨⟨l⟩⟩, .int .u8 ((c.toNat : Nat) : Int)] K σ := by
 refine c42 _ _ ?_
 unfold g42
 refine loop_i ?_
 intro R hR
 have key : ∀ (n : Nat) (m : List UInt8), m.length = n -> n <= 1000000000 -> trR (· == c) m = trR (· == c) l -> R ⟨⟨m⟩⟩ ((c.toNat : Nat) : Int) σ := by
  intro n
  induction n with
  | zero =>
   intro m hm _ ht
   have : m = [] := List.eq_nil_of_length_eq_zero hm
   subst this
   refine hR _ _ _ (j_d (br_f (by decide) (br_f rfl ?_)))
   rw [<- ht] at hK; exact hK
  | succ n ih =>
   intro m hm hn ht
   obtain ⟨q, x, rfl, hq⟩ := snoc_of hm
   rw [trR_snoc] at ht
   refine hR _ _ _ (j_d (br_t (by rw [sz_snoc, decide_eq_true_eq]; omega) ?_))
   rw [sz_snoc, wrS1 (by omega)]
   refine idx_l (c := x) (by omega) (by rw [Int.toNat_natCast]; exact get_snoc q x) ?_
   rw [u8e]
   cases hx : x == c with
   | true =>
    rw [hx, if_pos rfl] at ht
    refine br_t rfl ?_
    rw [sz_snoc, wrS1 (by omega)]
    refine if_i ⟨bnd_some (by omega) (by omega), bnd_none⟩ ?_
    rw [Int.toNat_natCast, ext_tl]
    exact ih q hq (by omega) ht
   | false =>
    rw [hx, if_neg (by simp)] at ht
    refine br_f rfl ?_
    rw [ht]; exact hK
 exact key l.length l rfl hl rfl
theorem x_TrimR1 (c : UInt8) (hc : c.toNat < 128) (l : List UInt8) (hl : l.length <= 1000000000) {σ : H} {K : KH} (hK : K (.string ⟨⟨trR (· == c) l⟩⟩) σ) : callW Tryz.prog 13 [.string ⟨⟨l⟩⟩, .string ⟨⟨[c]⟩⟩] K σ := by
 refine c13 _ _ ?_
 unfold g13
 refine j_d ?_
 rw [strEq_nil, strEq_nil]
 cases l with
 | nil => exact br_t rfl (br_t rfl hK)
 | cons x r =>
  refine br_f rfl (br_f rfl (j_d (br_t (by rfl) (idx_l (c := c) (by omega) (by rfl) ?_))))
  refine br_t (by simp only [decide_eq_true_eq]; omega) (idx_l (c := c) (by omega) (by rfl) ?_)
  exact call_i (x_trimRB c (x :: r) hl (app_S hK))
theorem x_LastIB (c : UInt8) (l : List UInt8) (hl : l.length <= 1000000000) {σ : H} {K : KH} (hK : K (.int .i64 (((lastN c l : Nat) : Int) - 1)) σ) : callW Tryz.prog 101 [.string ⟨⟨l⟩⟩, .int .u8 ((c.toNat : Nat) : Int)] K σ := by
 refine c101 _ _ ?_
 unfold g101
 refine call_i (c148 _ _ ?_)
 unfold g148
 refine loop_i ?_
 intro R hR
 have key : ∀ (n : Nat) (m q : List UInt8), m.length = n -> n <= 1000000000 -> l = m ++ q -> lastN c m = lastN c l -> R ⟨⟨l⟩⟩ ((c.toNat : Nat) : Int) ((n : Int) - 1) σ := by
  intro n
  induction n with
  | zero =>
   intro m q hm _ _ ht
   have : m = [] := List.eq_nil_of_length_eq_zero hm
   subst this
   refine hR _ _ _ _ (br_f (by simp only [decide_eq_false_iff_not]; omega) ?_)
   refine app_I ?_
   rw [<- ht] at hK; exact hK
  | succ n ih =>
   intro m q hm hn hlq ht
   obtain ⟨p, x, rfl, hp⟩ := snoc_of hm
   rw [lastN_snoc] at ht
   refine hR _ _ _ _ (br_t (by simp only [decide_eq_true_eq]; omega) ?_)
   have e1 : (((n + 1 : Nat) : Int) - 1) = (n : Int) := by omega
   rw [e1]
   refine idx_l (c := x) (by omega) (by rw [Int.toNat_natCast, hlq]; show ((p ++ [x]) ++ q)[n]? = some x; rw [List.append_assoc, List.getElem?_append_right (by omega), hp]; simp) ?_
   rw [u8e]
   cases hx : x == c with
   | true =>
    rw [hx, if_pos rfl] at ht
    refine br_t rfl (app_I ?_)
    rw [<- ht] at hK
    rw [hp, e1] at hK; exact hK
   | false =>
    rw [hx, if_neg (by simp)] at ht
    refine br_f rfl ?_
    rw [wrap_id (by omega) (by omega)]
    exact ih p ([x] ++ q) hp (by omega) (by rw [hlq, List.append_assoc]) ht
 have h := key l.length l [] rfl hl (by simp) rfl
 have e : IntKind.i64.wrap ((((⟨⟨l⟩⟩ : ByteArray).size : Nat) : Int) - 1) = ((l.length : Nat) : Int) - 1 := by rw [bsz, wrap_id (by omega) (by omega)]
 rw [e]; exact h
theorem x_TrimSuf (l e : List UInt8) (hl : l.length <= 1000000000) (he : e.length <= 1000000000) {σ : H} {K : KH} (hK : K (.string ⟨⟨trimEnd l e⟩⟩) σ) : callW Tryz.prog 102 [.string ⟨⟨l⟩⟩, .string ⟨⟨e⟩⟩] K σ := by
 refine c102 _ _ ?_
 unfold g102
 refine call_i (c149 _ _ ?_)
 unfold g149
 refine call_i (c198 _ _ ?_)
 unfold g198
 rw [bsz, bsz]
 unfold trimEnd hasEnd at hK
 by_cases h : e.length <= l.length
 ·have e1 : IntKind.i64.wrap ((l.length : Int) - (e.length : Int)) = ((l.length - e.length : Nat) : Int) := by rw [wrap_id (by omega) (by omega)]; omega
  rw [e1, Int.toNat_natCast]
  rw [Nat.ble_eq_true_of_le h] at hK
  refine br_t (by simp only [decide_eq_true_eq]; omega) (if_i ⟨bnd_none, bnd_some (by omega) (by omega)⟩ (app_B ?_))
  have e2 : (⟨⟨l⟩⟩ : ByteArray).extract (l.length - e.length) l.length = ⟨⟨l.drop (l.length - e.length)⟩⟩ := ext_drop l _
  rw [e2, <- sEq_eq]
  have e3 : sEq ⟨⟨l.drop (l.length - e.length)⟩⟩ ⟨⟨e⟩⟩ = (l.drop (l.length - e.length) == e) := rfl
  rw [e3]
  cases hd : (l.drop (l.length - e.length) == e) with
  | true =>
   rw [hd, if_pos (show (true && true) = true from rfl)] at hK
   refine br_t rfl (if_i ⟨bnd_some (by omega) (by omega), bnd_none⟩ (app_S ?_))
   have e4 : (⟨⟨l⟩⟩ : ByteArray).extract 0 (l.length - e.length) = ⟨⟨l.take (l.length - e.length)⟩⟩ := by rw [bex]; rfl
   rw [e4]; exact hK
  | false =>
   rw [hd, if_neg (show ¬ (true && false) = true by simp)] at hK
   exact br_f rfl (app_S hK)
 ·refine br_f (by simp only [decide_eq_false_iff_not]; omega) (app_B (br_f rfl (app_S ?_)))
  rw [if_neg] at hK
  ·exact hK
  ·have : Nat.ble e.length l.length = false := by
    cases hb : Nat.ble e.length l.length with
    | false => rfl
    | true => exact absurd (Nat.le_of_ble_eq_true hb) h
   rw [this]; simp
theorem x_sliHP (s p : ByteArray) {σ : H} {K : KH} (hK : K (.bool (p.data.toList.isPrefixOf s.data.toList)) σ) : callW Tryz.prog 87 [.string s, .string p] K σ := by
 have hls : s.data.toList.length = s.size := rfl
 have hlp : p.data.toList.length = p.size := rfl
 refine c87 _ _ ?_
 unfold g87
 by_cases h : p.size <= s.size
 ·refine br_t (by simp; omega) (if_i ⟨bnd_some (by omega) (by omega), bnd_none⟩ ?_)
  have e : strEq (s.extract 0 (((p.size : Nat) : Int).toNat)) p = p.data.toList.isPrefixOf s.data.toList := by
   unfold strEq
   rw [ByteArray.toList_eq, ByteArray.toList_eq, extract_toList]
   simp only [Int.toNat_natCast, List.drop_zero]
   rw [Bool.eq_iff_iff, beq_iff_eq, List.isPrefixOf_iff_prefix, List.prefix_iff_eq_take, hlp]
   exact eq_comm
  rw [e]; exact hK
 ·refine br_f (by simp; omega) ?_
  have e : p.data.toList.isPrefixOf s.data.toList = false := by
   rw [<- Bool.not_eq_true, List.isPrefixOf_iff_prefix]
   intro hp
   have := hp.length_le
   omega
  rw [e] at hK; exact hK
theorem x_TrimPre (l : List UInt8) {σ : H} {K : KH} (hK : K (.string ⟨⟨unsign l⟩⟩) σ) : callW Tryz.prog 142 [.string ⟨⟨l⟩⟩, .string ⟨⟨[45]⟩⟩] K σ := by
 refine c142 _ _ ?_
 unfold g142
 refine call_i (c170 _ _ ?_)
 unfold g170
 refine call_i (x_sliHP ⟨⟨l⟩⟩ ⟨⟨[45]⟩⟩ (app_B ?_))
 cases l with
 | nil => exact br_f rfl (app_S hK)
 | cons x r =>
  have e : List.isPrefixOf (⟨⟨[45]⟩⟩ : ByteArray).data.toList (⟨⟨x :: r⟩⟩ : ByteArray).data.toList = (x == 45) := by
   show ((45 : UInt8) == x && true) = (x == 45)
   rw [Bool.and_true, Bool.eq_iff_iff]; simp only [beq_iff_eq]; exact eq_comm
  rw [e]
  rw [show unsign (x :: r) = if (x == 45) = true then r else x :: r from rfl] at hK
  cases hx : x == 45 with
  | true =>
   rw [hx, if_pos rfl] at hK
   refine br_t rfl (if_i ⟨bnd_none, bnd_some (by decide) (by show (1 : Int) <= ((r.length + 1 : Nat) : Int); omega)⟩ (app_S ?_))
   have e1 : (⟨⟨x :: r⟩⟩ : ByteArray).extract ((((⟨⟨[45]⟩⟩ : ByteArray).size : Nat) : Int).toNat) (⟨⟨x :: r⟩⟩ : ByteArray).size = ⟨⟨r⟩⟩ := ext_hd x r
   rw [e1]; exact hK
  | false => rw [hx, if_neg (by simp)] at hK; exact br_f rfl (app_S hK)
end Go.Proofs.YthclifcpjnhmjaaGreatDoor

namespace Go.Proofs
open Go.Shelf
def Tryz.lays160_ren : Go.Shelf.Ren := ⟨fun | 160 => 143 | 232 => 42 | 231 => 61 | 227 => 43 | 234 => 44 | 233 => 62 | 236 => 45 | 235 => 63 | 228 => 90 | 271 => 91 | 151 => 92 | 197 => 66 | 120 => 138 | 152 => 139 | 260 => 114 | 137 => 78 | 119 => 169 | 224 => 155 | 225 => 154 | 217 => 133 | 266 => 166 | n => n, fun | 9 => 9 | 4 => 4 | 3 => 3 | 5 => 5 | 117 => 80 | 116 => 79 | 0 => 0 | 124 => 83 | 21 => 21 | 105 => 103 | 46 => 63 | 119 => 193 | 139 => 196 | 138 => 195 | n => n, fun | 3 => 1 | 4 => 2 | n => n⟩
theorem Tryz.lays160 : Go.Proofs.Lays.n160 Tryz.prog Tryz.lays160_ren := {
 mixed := by kernel_rfl
 f119 := Tryz.func169.trans (congrArg some (by kernel_rfl))
 f120 := Tryz.func138.trans (congrArg some (by kernel_rfl))
 f137 := Tryz.func78.trans (congrArg some (by kernel_rfl))
 f151 := Tryz.func92.trans (congrArg some (by kernel_rfl))
 f152 := Tryz.func139.trans (congrArg some (by kernel_rfl))
 f160 := Tryz.func143.trans (congrArg some (by kernel_rfl))
 f197 := Tryz.func66.trans (congrArg some (by kernel_rfl))
 f217 := Tryz.func133.trans (congrArg some (by kernel_rfl))
 f224 := Tryz.func155.trans (congrArg some (by kernel_rfl))
 f225 := Tryz.func154.trans (congrArg some (by kernel_rfl))
 f227 := Tryz.func43.trans (congrArg some (by kernel_rfl))
 f228 := Tryz.func90.trans (congrArg some (by kernel_rfl))
 f231 := Tryz.func61.trans (congrArg some (by kernel_rfl))
 f232 := Tryz.func42.trans (congrArg some (by kernel_rfl))
 f233 := Tryz.func62.trans (congrArg some (by kernel_rfl))
 f234 := Tryz.func44.trans (congrArg some (by kernel_rfl))
 f235 := Tryz.func63.trans (congrArg some (by kernel_rfl))
 f236 := Tryz.func45.trans (congrArg some (by kernel_rfl))
 f260 := Tryz.func114.trans (congrArg some (by kernel_rfl))
 f266 := Tryz.func166.trans (congrArg some (by kernel_rfl))
 f271 := Tryz.func91.trans (congrArg some (by kernel_rfl))
 t0 := Tryz.underlying0
 a0 := Tryz.isAgg0
 z0 := Tryz.sizeOf0
 v0 := Tryz.zeroValue0
 t3 := Tryz.underlying3
 a3 := Tryz.isAgg3
 z3 := Tryz.sizeOf3
 v3 := Tryz.zeroValue3
 t4 := Tryz.underlying4
 a4 := Tryz.isAgg4
 z4 := Tryz.sizeOf4
 v4 := Tryz.zeroValue4
 t5 := Tryz.underlying5
 a5 := Tryz.isAgg5
 z5 := Tryz.sizeOf5
 v5 := Tryz.zeroValue5
 t9 := Tryz.underlying9
 a9 := Tryz.isAgg9
 z9 := Tryz.sizeOf9
 v9 := Tryz.zeroValue9
 t21 := Tryz.underlying21
 a21 := Tryz.isAgg21
 z21 := Tryz.sizeOf21
 v21 := Tryz.zeroValue21
 t46 := Tryz.underlying63
 a46 := Tryz.isAgg63
 z46 := Tryz.sizeOf63
 v46 := Tryz.zeroValue63
 t105 := Tryz.underlying103
 a105 := Tryz.isAgg103
 z105 := Tryz.sizeOf103
 v105 := Tryz.zeroValue103
 t116 := Tryz.underlying79
 a116 := Tryz.isAgg79
 z116 := Tryz.sizeOf79
 t117 := Tryz.underlying80
 a117 := Tryz.isAgg80
 z117 := Tryz.sizeOf80
 v117 := Tryz.zeroValue80
 t119 := Tryz.underlying193
 a119 := Tryz.isAgg193
 z119 := Tryz.sizeOf193
 t124 := Tryz.underlying83
 a124 := Tryz.isAgg83
 z124 := Tryz.sizeOf83
 v124 := Tryz.zeroValue83
 t138 := Tryz.underlying195
 a138 := Tryz.isAgg195
 z138 := Tryz.sizeOf195
 v138 := Tryz.zeroValue195
 t139 := Tryz.underlying196
 a139 := Tryz.isAgg196
 z139 := Tryz.sizeOf196
 v139 := Tryz.zeroValue196
 g3 := by kernel_rfl
 g4 := by kernel_rfl }
end Go.Proofs

set_option maxRecDepth 100000
namespace Go.Proofs.YthclifcpjnhmjaaGreatDoor
open Go Go.HL Go.Wk
theorem und_bytesM : Tryz.prog.underlying 22 = some (.slice 5) := Tryz.underlying22
theorem und_u8M : Tryz.prog.underlying 5 = some (.int .u8) := Tryz.underlying5
theorem und_strM : Tryz.prog.underlying 9 = some .string := Tryz.underlying9
theorem x_TrimD (l : List UInt8) (hl : l.length <= 1000000000) {σ : H} {K : KH} (hK : K (.string ⟨⟨Lib.trimS l digL⟩⟩) σ) : callW Tryz.prog 143 [.string ⟨⟨l⟩⟩, .string ⟨⟨digL⟩⟩] K σ := by
 intro w hw
 refine callsIn_wide.2 ((Any.strings_Trim_laid Tryz.lays160 (by kernel_rfl) ⟨⟨l⟩⟩ ⟨⟨digL⟩⟩ w (by rw [bsz]; omega) (by decide) (ascii_of_all (by decide))).mono ?_)
 rintro en w' ⟨rfl, hb⟩
 exact ⟨_, rfl, σ, ext_below hw hb, hK⟩
theorem nileq_i {x : Operand} {F : Bool -> H -> Prop} {σ : H} (hF : F true σ) : vaW Tryz.prog (do eqGuard .eql 72 x (.const (.nilIface)) (.nilIface) (.nilIface); binOp .eql 72 (.nilIface) (.nilIface)) kB F σ := by
 intro w hw
 have h1 : (eqGuard .eql 72 x (.const (.nilIface)) (.nilIface) (.nilIface)).run Tryz.prog w = .ok () w := by simp [eqGuard]
 have h2 : (binOp .eql 72 (.nilIface) (.nilIface)).run Tryz.prog w = .ok (.bool true) w := run_eql_nil_nil_at w 72 (by kernel_rfl)
 simp only [valS, Sem.run_bind, h1, h2, Result.andThen_ok, Sem.run_pure]
 exact ⟨_, Ext.refl hw, app_B hF⟩
theorem nilne_i {x : Operand} {F : Bool -> H -> Prop} {σ : H} (hF : F false σ) : vaW Tryz.prog (do eqGuard .neq 72 x (.const (.nilIface)) (.nilIface) (.nilIface); binOp .neq 72 (.nilIface) (.nilIface)) kB F σ := by
 intro w hw
 have h1 : (eqGuard .neq 72 x (.const (.nilIface)) (.nilIface) (.nilIface)).run Tryz.prog w = .ok () w := by simp [eqGuard]
 have h2 : (binOp .neq 72 (.nilIface) (.nilIface)).run Tryz.prog w = .ok (.bool false) w := run_neq_nil_nil_at w 72 (by kernel_rfl)
 simp only [valS, Sem.run_bind, h1, h2, Result.andThen_ok, Sem.run_pure]
 exact ⟨_, Ext.refl hw, app_B hF⟩
attribute [local irreducible] ptrW ifW brW andW rdT alW letJ stW muW biW vaW imW callT cvalT app callW invW callVW sizeT oW nilF oneK loopW rfW funW begW roundK exW idxW Gr Put
theorem trimS_dig (l : List UInt8) : (Lib.trimS l digL).isEmpty = l.all dig := by
 have e : (fun c => digL.contains c) = dig := funext digL_dig
 show (List.dropWhile (fun c => digL.contains c) (List.dropWhile (fun c => digL.contains c) l.reverse).reverse).isEmpty = _
 rw [e]; exact trR_dig l dig
theorem x_iAtoi (l : List UInt8) (h1 : (unsign l).isEmpty = false) (h2 : (unsign l).length <= 15) (h3 : (unsign l).all dig = true) {σ : H} {K : KH} (hK : K (.tuple ⟨[.int .i64 (if headIs 45 ⟨⟨l⟩⟩ then -(numL (unsign l) 0 : Int) else (numL (unsign l) 0 : Int)), .nilIface]⟩) σ) : callW Tryz.prog 171 [.string ⟨⟨l⟩⟩] K σ := by
 refine pure_i _ hK (c171 _ ?_)
 clear hK
 unfold g171
 obtain ⟨c, r, rfl⟩ : ∃ c r, l = c :: r := by
  cases l with
  | nil => cases h1
  | cons c r => exact ⟨c, r, rfl⟩
 have hu : unsign (c :: r) = if (c == 45) = true then r else c :: r := rfl
 have hh : headIs 45 ⟨⟨c :: r⟩⟩ = (c == 45) := rfl
 have hlen : (c :: r).length <= 16 := by
  rw [hu] at h2
  cases hc : c == 45 with
  | true => rw [hc, if_pos rfl] at h2; simp only [List.length_cons]; omega
  | false => rw [hc, if_neg (by simp)] at h2; omega
 have hs : (⟨⟨c :: r⟩⟩ : ByteArray).size = (c :: r).length := rfl
 refine j_d ?_
 refine br_t (by rw [hs, decide_eq_true_eq]; simp only [List.length_cons]; omega) (br_t (by rw [hs, decide_eq_true_eq]; omega) ?_)
 refine j_i (fun j => j ⟨⟨unsign (c :: r)⟩⟩ ⟨⟨c :: r⟩⟩ σ) ?_ ?_
 case refine_2 =>
  intro j hj
  refine j_d (idx_l (c := c) (by omega) (by rfl) ?_)
  rw [show ((((c.toNat : Nat) : Int) : Int) == 45) = (c == 45) from u8e c 45]
  cases hc : c == 45 with
  | true =>
   rw [hu, hc, if_pos rfl] at hj h1
   refine br_t rfl (br_t rfl (if_i ⟨bnd_none, bnd_some (by decide) (by rw [hs, List.length_cons]; omega)⟩ ?_))
   rw [show ((1 : Int).toNat) = 1 from rfl, ext_hd]
   refine br_f ?_ hj
   rw [bsz, decide_eq_false_iff_not]
   cases r with
   | nil => cases h1
   | cons => simp only [List.length_cons]; omega
  | false =>
   rw [hu, hc, if_neg (by simp)] at hj h3
   have hd := all_at h3 (i := 0) rfl
   have hr := dig_rng hd
   refine br_f rfl (idx_l (c := c) (by omega) (by rfl) ?_)
   exact br_f (by simp only [beq_eq_false_iff_ne]; omega) hj
 generalize hd : unsign (c :: r) = d at *
 refine sbytes_i und_strM und_bytesM und_u8M ⟨⟨d⟩⟩ ?_
 intro x σ1 g1 hx
 have hxl : x.len = d.length := by rw [hx.1, brows_len]
 refine loop_i ?_
 intro R hR
 have key : ∀ (k i : Nat), k + i = d.length -> R ⟨⟨c :: r⟩⟩ ((numL (d.take i) 0 : Nat) : Int) x ((x.len : Nat) : Int) (i : Int) σ1 := by
  intro k
  induction k with
  | zero =>
   intro i hi
   refine hR _ _ _ _ _ _ ?_
   refine br_f (by simp only [decide_eq_false_iff_not]; omega) (j_d (idx_l (c := c) (by omega) (by rfl) ?_))
   rw [show ((((c.toNat : Nat) : Int) : Int) == 45) = (c == 45) from u8e c 45, hh, List.take_of_length_le (by omega)]
   have hb := numL_lt d 0 h3
   have hb2 : 10 ^ d.length <= 10 ^ 15 := Nat.pow_le_pow_right (by decide) h2
   cases hc : c == 45 with
   | true =>
    refine br_t rfl ⟨?_, g1⟩
    rw [wrap_id (by omega) (by omega), if_pos rfl, Int.zero_sub]
   | false => exact br_f rfl ⟨by rw [if_neg (by simp)], g1⟩
  | succ k ih =>
   intro i hi
   obtain ⟨q, hq⟩ : ∃ q, d[i]? = some q := ⟨_, List.getElem?_eq_getElem (by omega)⟩
   have hr := dig_rng (all_at h3 hq)
   obtain ⟨g, o, a1, _, a3⟩ := hx.rdA (i := i) (r := [.int .u8 q.toNat]) (by show (brows d)[i]? = _; unfold brows; rw [List.getElem?_map, hq]; rfl) (by decide)
   have a4 := a3 0 _ rfl
   refine hR _ _ _ _ _ _ ?_
   refine br_t (by simp only [decide_eq_true_eq]; omega) ?_
   rw [a1]
   refine ptr_i (if_i ⟨by omega, by omega⟩ (rd_I (by rw [Int.toNat_natCast]; exact a4) ?_))
   have e1 : IntKind.u8.wrap (((q.toNat : Nat) : Int) - 48) = ((q.toNat - 48 : Nat) : Int) := by
    have : IntKind.u8.wrap (((q.toNat : Nat) : Int) - 48) = (((q.toNat : Nat) : Int) - 48) % 256 := rfl
    rw [this]; omega
   rw [e1]
   refine br_f (by simp only [decide_eq_false_iff_not]; omega) ?_
   have ht : (d.take i).all dig = true := by
    rw [List.all_eq_true] at h3 ⊢
    exact fun z hz => h3 z (List.mem_of_mem_take hz)
   have hb := numL_lt (d.take i) 0 ht
   have hb2 : 10 ^ (d.take i).length <= 10 ^ 15 := Nat.pow_le_pow_right (by decide) (by rw [List.length_take]; omega)
   have e2 : IntKind.i64.wrap ((q.toNat - 48 : Nat) : Int) = ((q.toNat - 48 : Nat) : Int) := wrap_id (by omega) (by omega)
   have e3 : IntKind.i64.wrap (((numL (d.take i) 0 : Nat) : Int) * 10) = ((numL (d.take i) 0 : Nat) : Int) * 10 := wrap_id (by omega) (by omega)
   rw [e2, e3, wrap_id (by omega) (by omega), wrap_id (x := (i : Int) + 1) (by omega) (by omega)]
   have e4 : ((numL (d.take i) 0 : Nat) : Int) * 10 + ((q.toNat - 48 : Nat) : Int) = ((numL (d.take (i + 1)) 0 : Nat) : Int) := by
    rw [List.take_add_one, hq]
    show _ = ((numL (d.take i ++ [q]) 0 : Nat) : Int)
    rw [numL_snoc]; omega
   rw [e4, show (i : Int) + 1 = ((i + 1 : Nat) : Int) from by omega]
   exact ih (i + 1) (by omega)
 exact key d.length 0 (by omega)
theorem app_IR {n : Int} {v : Value} {F : Int -> Value -> H -> Prop} {σ : H} (h2 : F n v σ) : HL.app (.tup [.sc (.int .i64), .sc .raw]) F (.tuple ⟨[.int .i64 n, v]⟩) σ := by
 simp only [HL.app, TK.prj, CK.prj, SK.prj, prjInt, sameK_self, tupOf, prjC]; exact h2
theorem s_whole (l : List UInt8) (hl : l.length <= 1000000000) {σ : H} {K : KH} (hK : K (.tuple ⟨[.int .i64 ((wholeP ⟨⟨l⟩⟩).getD 0), .bool (wholeP ⟨⟨l⟩⟩).isSome]⟩) σ) : callW Tryz.prog 97 [.string ⟨⟨l⟩⟩] K σ := by
 refine c97 _ ?_
 unfold g97
 rw [wholeP_def] at hK
 refine call_i (x_TrimPre l (app_S ?_))
 have hu : (unsign l).length <= l.length := by
  cases l with
  | nil => exact Nat.le_refl _
  | cons c r =>
   show (if (c == 45) = true then r else c :: r).length <= _
   split <;> simp
 refine j_i (fun j => ∀ b : Bool, (b = ((unsign l).isEmpty || (decide ((unsign l).length > 15) || !(unsign l).all dig))) -> j ⟨⟨l⟩⟩ b σ) ?_ ?_
 case refine_2 =>
  intro j hj
  rw [strEq_nil]
  cases h1 : (unsign l).isEmpty with
  | true => exact br_t rfl (hj _ (by rw [h1]; rfl))
  | false =>
   rw [h1] at hj
   refine br_f rfl ?_
   rw [bsz]
   by_cases h2 : (unsign l).length > 15
   ·exact br_t (by rw [decide_eq_true_eq]; omega) (hj _ (by rw [decide_eq_true h2]; rfl))
   ·refine br_f (by rw [decide_eq_false_iff_not]; omega) (call_i (x_TrimD (unsign l) (by omega) (app_S ?_)))
    rw [strEq_nil, trimS_dig]
    exact hj _ (by rw [decide_eq_false h2]; rfl)
 intro b hb
 rw [<- hb] at hK
 cases b with
 | true => exact br_t rfl hK
 | false =>
  have hb' := hb.symm
  simp only [Bool.or_eq_false_iff, decide_eq_false_iff_not, Bool.not_eq_false'] at hb'
  obtain ⟨h1, h2, h3⟩ := hb'
  rw [if_neg (by simp)] at hK
  refine br_f rfl (call_i (c144 _ ?_))
  unfold g144
  refine call_i (x_iAtoi l h1 (by omega) h3 (app_IR (nilne_i (br_f rfl (app_IR (nileq_i ?_))))))
  exact hK
theorem s_bare (l : List UInt8) (hl : l.length <= 1000000000) {σ : H} {K : KH} (hK : K (.string ⟨⟨bareL l⟩⟩) σ) : callW Tryz.prog 100 [.string ⟨⟨l⟩⟩] K σ := by
 refine c100 _ ?_
 unfold g100
 exact call_i (x_TrimR1 47 (by decide) l hl (app_S hK))
end Go.Proofs.YthclifcpjnhmjaaGreatDoor

set_option maxRecDepth 100000
namespace Go.Proofs.YthclifcpjnhmjaaGreatDoor
open Go Go.HL Go.Wk
attribute [local irreducible] ptrW ifW brW andW rdT alW letJ stW muW biW vaW imW callT cvalT app callW invW callVW sizeT oW nilF oneK loopW rfW funW begW roundK exW idxW Gr Put
theorem u8b (c : UInt8) : ((((c.toNat : Nat) : Int)).toNat).toUInt8 = c := by
 rw [Int.toNat_natCast]; exact UInt8.ofNat_toNat
theorem fI_no {l : List UInt8} {c : UInt8} (h : c ∉ l) : firstIdx ⟨⟨l⟩⟩ c = -1 := by
 rcases firstIdx_split ⟨⟨l⟩⟩ c with ⟨h1, _⟩ | ⟨i, _, _, _, h4⟩
 ·exact h1
 ·refine absurd ?_ h
  have h5 : l = List.take i l ++ c :: List.drop (i + 1) l := h4
  rw [h5]; simp
theorem fI_yes {l : List UInt8} {c : UInt8} (h : c ∈ l) : 0 <= firstIdx ⟨⟨l⟩⟩ c := by
 rcases firstIdx_split ⟨⟨l⟩⟩ c with ⟨_, h1⟩ | ⟨i, h1, _⟩
 ·exact absurd h h1
 ·omega
theorem s_escaped (c : UInt8) {σ : H} {K : KH} (hK : K (.string (escP c)) σ) : callW Tryz.prog 140 [.int .u8 ((c.toNat : Nat) : Int)] K σ := by
 refine pure_i _ hK (c140 _ ?_)
 clear hK
 unfold g140
 refine call_i (x_IndexByte _ _ (app_I ?_))
 rw [u8b]
 by_cases h1 : c = 110
 ·subst h1; exact br_t (by decide) (if_i ⟨bnd_some (by decide) (by decide), bnd_some (by decide) (by decide)⟩ ⟨rfl, Gr.refl _⟩)
 by_cases h2 : c = 116
 ·subst h2; exact br_t (by decide) (if_i ⟨bnd_some (by decide) (by decide), bnd_some (by decide) (by decide)⟩ ⟨rfl, Gr.refl _⟩)
 by_cases h3 : c = 92
 ·subst h3; exact br_t (by decide) (if_i ⟨bnd_some (by decide) (by decide), bnd_some (by decide) (by decide)⟩ ⟨rfl, Gr.refl _⟩)
 rw [fI_no (by simp [h1, h2, h3])]
 refine br_f (by decide) (al_i ?_); intro b σ1 g1 e1 n1
 refine bstr_i und_bytesM und_u8M und_strM (l := [c]) (x := ⟨some ⟨b, 0, none⟩, 1, 1⟩) ⟨rfl, .inr ⟨b, 0, _, _, _, rfl, e1, fun i r hr => ?_⟩⟩ (if_i (by show (1 : Nat) + 1 <= _; decide) ⟨?_, g1⟩)
 ·match i, hr with
  | 0, hr => cases hr; exact ⟨rfl, rfl⟩
  | i + 1, hr => simp [brows] at hr
 ·have : escP c = ⟨⟨[92, c]⟩⟩ := by
   unfold escP
   rw [show (c == 110) = false by simpa using h1, show (c == 116) = false by simpa using h2, show (c == 92) = false by simpa using h3]; rfl
  rw [this]
  congr 1
def pcV (p : Pc) : List Value := [.string p.text, .int .u8 ((p.kind.toNat : Nat) : Int), .int .i64 ((p.width : Nat) : Int), .bool p.left]
def pcRows (l : List Pc) : List (List Value) := l.map pcV
theorem sz_u8M : sizeT Tryz.prog 5 = some 1 := by kernel_rfl
theorem sz_mpiece : sizeT Tryz.prog 150 = some 4 := by kernel_rfl
theorem el_mpiece : ElT Tryz.prog 140 150 4 := elT_of (by kernel_rfl) (by decide) (by kernel_rfl)
theorem kindOk_mem (c : UInt8) : kindOkP c = true ↔ c ∈ ([115, 100, 120, 99] : List UInt8) := by
 unfold kindOkP; simp
theorem drop_head {l : List UInt8} {n : Nat} {c : UInt8} {r : List UInt8} (h : l.drop n = c :: r) : l[n]? = some c /\ l.drop (n + 1) = r := by
 constructor
 ·have := congrArg (·[0]?) h
  simpa using this
 ·have := congrArg (List.drop 1) h
  rw [List.drop_drop] at this
  simpa [Nat.add_comm] using this
def cnd (f k : Nat) (m : List UInt8) : Bool := match f, m with
 | 0, _ => false
 | _ + 1, [] => false
 | _ + 1, c :: _ => dig c && (Nat.ble 1 k || !(c == 48))
theorem gdig_no {f k w : Nat} {m : List UInt8} (h : cnd f k m = false) : gdig f k w m = (w, k, m) := by
 match f, m with
 | 0, _ => rfl
 | _ + 1, [] => rfl
 | f + 1, c :: r =>
  show (if dig c && (Nat.ble 1 k || !(c == 48)) then _ else _) = _
  rw [show (dig c && (Nat.ble 1 k || !(c == 48))) = false from h]; rfl
theorem gdig_yes {f k w : Nat} {m : List UInt8} (h : cnd f k m = true) : ∃ f' c r, f = f' + 1 /\ m = c :: r /\ dig c = true /\ gdig f k w m = gdig f' (k + 1) (10 * w + (c.toNat - 48)) r := by
 match f, m with
 | 0, _ => cases h
 | _ + 1, [] => cases h
 | f + 1, c :: r =>
  have h2 : (dig c && (Nat.ble 1 k || !(c == 48))) = true := h
  refine ⟨f, c, r, rfl, rfl, (Bool.and_eq_true .. ▸ h2).1, ?_⟩
  show (if dig c && (Nat.ble 1 k || !(c == 48)) then _ else _) = _
  rw [h2]; rfl
theorem s_argument (l : List UInt8) (hl : l.length <= 1000000000) {σ : H} {K : KH} (hN : argP l = none -> ∀ t k w f σ', Gr σ σ' -> K (.tuple ⟨[.agg ⟨[.string t, .int .u8 k, .int .i64 w, .bool f]⟩, .int .i64 0]⟩) σ')
 (hS : ∀ p n, argP l = some (p, l.drop n) -> 1 <= n -> n <= l.length -> ∀ σ', Gr σ σ' -> K (.tuple ⟨[.agg ⟨pcV p⟩, .int .i64 ((n : Nat) : Int)]⟩) σ') : callW Tryz.prog 141 [.string ⟨⟨l⟩⟩] K σ := by
 refine c141 _ ?_
 unfold g141
 refine al_i ?_; intro b σ1 g1 e1 n1
 refine j_i (fun j => ∀ (left : Bool) (n : Nat) (τ : H), n <= l.length -> argP l = argT left (digsP (l.drop n)) -> Gr σ τ -> τ b = some (.cells ⟨[.string ⟨⟨[]⟩⟩, .int .u8 0, .int .i64 0, .bool left]⟩ 150 (0, 0)) -> j ⟨⟨l⟩⟩ (some ⟨b, 0, none⟩) ((n : Nat) : Int) τ) ?_ ?_
 case refine_2 =>
  intro j hj
  refine call_i (x_HasPrefix ⟨⟨l⟩⟩ ⟨⟨[45]⟩⟩ (app_B ?_))
  rw [show List.isPrefixOf (⟨⟨[45]⟩⟩ : ByteArray).data.toList (⟨⟨l⟩⟩ : ByteArray).data.toList = headIs 45 ⟨⟨l⟩⟩ from prefix_head ⟨⟨l⟩⟩ 45]
  have hd : argP l = if headIs 45 ⟨⟨l⟩⟩ then argT true (digsP (l.drop 1)) else argT false (digsP l) := rfl
  cases hh : headIs 45 ⟨⟨l⟩⟩ with
  | true =>
   rw [hh, if_pos rfl] at hd
   refine br_t rfl (st_i2 e1 sz_bool (by rfl) (by rfl) ?_); intro σ2 p2
   refine hj true 1 σ2 ?_ hd (g1.putF p2 n1) p2.same
   cases l with
   | nil => cases hh
   | cons => simp only [List.length_cons]; omega
  | false =>
   rw [hh, if_neg (by simp)] at hd
   exact br_f rfl (hj false 0 σ1 (by omega) (by rw [List.drop_zero]; exact hd) g1 e1)
 intro left n0 τ0 hn0 hP hg0 hb0
 refine loop_i ?_
 intro R hR
 have key : ∀ (f k w n : Nat) (τ : H), f + k = 2 -> w < 10 ^ k -> n <= l.length -> argP l = argT left (gdig f k w (l.drop n)) -> Gr σ τ -> τ b = some (.cells ⟨[.string ⟨⟨[]⟩⟩, .int .u8 0, .int .i64 ((w : Nat) : Int), .bool left]⟩ 150 (0, 0)) -> R ⟨⟨l⟩⟩ (some ⟨b, 0, none⟩) ((n : Nat) : Int) ((k : Nat) : Int) τ := by
  intro f
  induction f using Nat.strongRecOn with
  | ind f ih =>
   intro k w n τ hk hw hn hP hg hb
   have hls : (⟨⟨l⟩⟩ : ByteArray).size = l.length := rfl
   refine hR _ _ _ _ _ ?_
   refine j_i (fun j => ∀ v1 v2 v3 v4 v5 v6 v7 v8 v9 v10 v11 v12 v13 v14 v15 v16 v17 v18 v19 v20 (cb : Bool), cb = cnd f k (l.drop n) -> j ⟨⟨l⟩⟩ (some ⟨b, 0, none⟩) ((n : Nat) : Int) ((k : Nat) : Int) v1 v2 v3 v4 v5 v6 v7 v8 v9 v10 v11 v12 v13 v14 v15 v16 v17 v18 v19 v20 cb τ) ?_ ?_
   case refine_2 =>
    intro j hj
    match f, hk, hj with
    | 0, hk, hj => exact br_f (by simp only [decide_eq_false_iff_not]; omega) (hj _ _ _ _ _ _ _ _ _ _ _ _ _ _ _ _ _ _ _ _  _ rfl)
    | f + 1, hk, hj =>
     refine br_t (by simp only [decide_eq_true_eq]; omega) ?_
     cases hm : l.drop n with
     | nil =>
      have : l.length <= n := List.drop_eq_nil_iff.1 hm
      rw [hm] at hj
      exact br_f (by rw [hls, decide_eq_false_iff_not]; omega) (hj _ _ _ _ _ _ _ _ _ _ _ _ _ _ _ _ _ _ _ _  _ rfl)
     | cons c r =>
      obtain ⟨h1, h2⟩ := drop_head hm
      have hlt : n < l.length := by
       rcases Nat.lt_or_ge n l.length with h | h
       ·exact h
       ·rw [List.getElem?_eq_none h] at h1; cases h1
      rw [hm] at hj
      have hc : cnd (f + 1) k (c :: r) = (dig c && (Nat.ble 1 k || !(c == 48))) := rfl
      have hd : dig c = (decide ((c.toNat : Int) >= 48) && decide ((c.toNat : Int) <= 57)) := by
       unfold dig
       rw [Bool.eq_iff_iff]; simp only [Bool.and_eq_true, Nat.ble_eq, decide_eq_true_eq]; omega
      refine br_t (by rw [hls, decide_eq_true_eq]; omega) (idx_l (c := c) (by omega) (by rw [Int.toNat_natCast]; exact h1) ?_)
      by_cases c1 : (c.toNat : Int) >= 48
      case neg => exact br_f (decide_eq_false c1) (hj _ _ _ _ _ _ _ _ _ _ _ _ _ _ _ _ _ _ _ _  _ (by rw [hc, hd, decide_eq_false c1]; rfl))
      refine br_t (decide_eq_true c1) (idx_l (c := c) (by omega) (by rw [Int.toNat_natCast]; exact h1) ?_)
      by_cases c2 : (c.toNat : Int) <= 57
      case neg => exact br_f (decide_eq_false c2) (hj _ _ _ _ _ _ _ _ _ _ _ _ _ _ _ _ _ _ _ _  _ (by rw [hc, hd, decide_eq_false c2, Bool.and_false]; rfl))
      refine br_t (decide_eq_true c2) ?_
      rw [hd, decide_eq_true c1, decide_eq_true c2] at hc
      by_cases c3 : k = 0
      ·subst c3
       refine br_f (by decide) (idx_l (c := c) (by omega) (by rw [Int.toNat_natCast]; exact h1) (hj _ _ _ _ _ _ _ _ _ _ _ _ _ _ _ _ _ _ _ _  _ ?_))
       rw [hc]
       show (!(((c.toNat : Nat) : Int) == ((48 : UInt8).toNat : Int))) = _
       rw [u8e]; rfl
      ·refine br_t (by simp only [decide_eq_true_eq]; omega) (hj _ _ _ _ _ _ _ _ _ _ _ _ _ _ _ _ _ _ _ _  _ ?_)
       rw [hc, Nat.ble_eq_true_of_le (by omega : 1 <= k)]; rfl
   intro v1 v2 v3 v4 v5 v6 v7 v8 v9 v10 v11 v12 v13 v14 v15 v16 v17 v18 v19 v20 cb hcb
   cases cb with
   | true =>
    obtain ⟨f', c, r, rfl, hm, hdg, hgd⟩ := gdig_yes (w := w) hcb.symm
    obtain ⟨h1, h2⟩ := drop_head hm
    have hlt : n < l.length := by
     rcases Nat.lt_or_ge n l.length with h | h
     ·exact h
     ·rw [List.getElem?_eq_none h] at h1; cases h1
    have hr := dig_rng hdg
    have hw2 : w < 10 := by
     have : k <= 1 := by omega
     rcases (by omega : k = 0 \/ k = 1) with e | e <;> subst e <;> omega
    refine br_t rfl (ptr_i (rd_I (rdC_of hb (by rfl)) (idx_l (c := c) (by omega) (by rw [Int.toNat_natCast]; exact h1) (ptr_i ?_))))
    have e1 : IntKind.u8.wrap (((c.toNat : Nat) : Int) - 48) = ((c.toNat - 48 : Nat) : Int) := by
     have : IntKind.u8.wrap (((c.toNat : Nat) : Int) - 48) = (((c.toNat : Nat) : Int) - 48) % 256 := rfl
     rw [this]; omega
    rw [e1, wrap_id (x := 10 * ((w : Nat) : Int)) (by omega) (by omega), wrap_id (x := ((c.toNat - 48 : Nat) : Int)) (by omega) (by omega), wrap_id (by omega) (by omega), wrap_id (x := ((n : Nat) : Int) + 1) (by omega) (by omega), wrap_id (x := ((k : Nat) : Int) + 1) (by omega) (by omega)]
    refine st_i2 hb sz_int (by rfl) (by rfl) ?_; intro τ2 p2
    have k2 := p2.same
    rw [show 10 * ((w : Nat) : Int) + ((c.toNat - 48 : Nat) : Int) = ((10 * w + (c.toNat - 48) : Nat) : Int) by omega] at k2
    rw [show ((n : Nat) : Int) + 1 = ((n + 1 : Nat) : Int) by omega, show ((k : Nat) : Int) + 1 = ((k + 1 : Nat) : Int) by omega]
    refine ih f' (by omega) (k + 1) _ (n + 1) τ2 (by omega) ?_ (by omega) (by rw [hP, hgd, h2]) (hg.putF p2 n1) k2
    rw [Nat.pow_succ]; omega
   | false =>
    rw [gdig_no hcb.symm] at hP
    clear ih hcb hR
    refine br_f rfl ?_
    refine j_i (fun j => ∀ cb : Bool, (cb = (argP l).isNone) -> j ⟨⟨l⟩⟩ (some ⟨b, 0, none⟩) ((n : Nat) : Int) cb τ) ?_ ?_
    case refine_2 =>
     intro j hj
     cases hm : l.drop n with
     | nil =>
      have : l.length <= n := List.drop_eq_nil_iff.1 hm
      rw [hm] at hP
      exact br_t (by rw [hls, decide_eq_true_eq]; omega) (hj _ (by rw [hP]; rfl))
     | cons c r =>
      obtain ⟨h1, h2⟩ := drop_head hm
      have hlt : n < l.length := by
       rcases Nat.lt_or_ge n l.length with h | h
       ·exact h
       ·rw [List.getElem?_eq_none h] at h1; cases h1
      rw [hm] at hP
      have hP2 : argP l = if !kindOkP c || (left && k == 0) then none else some (⟨⟨⟨[]⟩⟩, c, w, left⟩, r) := hP
      refine br_f (by rw [hls, decide_eq_false_iff_not]; omega) (idx_l (c := c) (by omega) (by rw [Int.toNat_natCast]; exact h1) (call_i (x_IndexByte _ _ (app_I ?_))))
      rw [u8b]
      cases hk1 : kindOkP c with
      | false =>
       have hmem : c ∉ ([115, 100, 120, 99] : List UInt8) := fun h => by rw [(kindOk_mem c).2 h] at hk1; cases hk1
       rw [fI_no hmem]
       exact br_t (by decide) (hj _ (by rw [hP2, hk1]; rfl))
      | true =>
       have h0 := fI_yes ((kindOk_mem c).1 hk1)
       rw [hk1] at hP2
       refine br_f (by simp only [decide_eq_false_iff_not]; omega) (ptr_i (rd_B (rdC_of hb (by rfl)) ?_))
       cases left with
       | false => exact br_f rfl (hj _ (by rw [hP2]; rfl))
       | true =>
        refine br_t rfl (hj _ ?_)
        rw [hP2]
        cases k with
        | zero => rfl
        | succ k => rfl
    intro cb hcb
    have hb' := hb
    cases cb with
    | true =>
     refine br_t rfl (ptr_i (rd_G (rdA_of' hb (by rfl)) ?_))
     (refine app_of rfl ?_; try dsimp only)
     refine st_i2 hb sz_mpiece (by rfl) (by rfl) ?_; intro τ2 p2
     refine ptr_i (rd_G (rdA_of' p2.same (by rfl)) ?_)
     (refine app_of rfl ?_; try dsimp only)
     exact hN (Option.isNone_iff_eq_none.1 hcb.symm) _ _ _ _ τ2 (hg.putF p2 n1)
    | false =>
     cases hm : l.drop n with
     | nil => rw [hm] at hP; rw [hP] at hcb; cases hcb
     | cons c r =>
      obtain ⟨h1, h2⟩ := drop_head hm
      have hlt : n < l.length := by
       rcases Nat.lt_or_ge n l.length with h | h
       ·exact h
       ·rw [List.getElem?_eq_none h] at h1; cases h1
      rw [hm] at hP
      have hP2 : argP l = if !kindOkP c || (left && k == 0) then none else some (⟨⟨⟨[]⟩⟩, c, w, left⟩, r) := hP
      cases hq : (!kindOkP c || (left && k == 0)) with
      | true => rw [hq] at hP2; rw [hP2] at hcb; cases hcb
      | false =>
       rw [hq, if_neg (by simp)] at hP2
       refine br_f rfl (idx_l (c := c) (by omega) (by rw [Int.toNat_natCast]; exact h1) (ptr_i ?_))
       refine st_i2 hb sz_u8M (by rfl) (by rfl) ?_; intro τ2 p2
       have k2 : τ2 b = some (.cells ⟨pcV ⟨⟨⟨[]⟩⟩, c, w, left⟩⟩ 150 (0, 0)) := p2.same
       unfold pcV at k2
       refine ptr_i (rd_G (rdA_of' k2 (by rfl)) ?_)
       (refine app_of rfl ?_; try dsimp only)
       refine st_i2 k2 sz_mpiece (by rfl) (by rfl) ?_; intro τ3 p3
       refine ptr_i (rd_G (rdA_of' p3.same (by rfl)) ?_)
       (refine app_of rfl ?_; try dsimp only)
       rw [wrap_id (by omega) (by omega), show ((n : Nat) : Int) + 1 = ((n + 1 : Nat) : Int) by omega]
       exact hS ⟨⟨⟨[]⟩⟩, c, w, left⟩ (n + 1) (by rw [hP2, h2]) (by omega) (by omega) τ3 ((hg.putF p2 n1).putF p3 n1)
 exact key 2 0 0 n0 τ0 rfl (by decide) hn0 hP hg0 hb0
theorem mapT (o : Option (List Pc)) (acc : List Pc) (p : Pc) : (o.map (p :: ·)).map (acc ++ ·) = o.map ((acc ++ [p]) ++ ·) := by cases o <;> simp
theorem pcRows_snoc (acc : List Pc) (p : Pc) : pcRows acc ++ [pcV p] = pcRows (acc ++ [p]) := by simp [pcRows]
theorem pcRows_len (acc : List Pc) : (pcRows acc).length = acc.length := by simp [pcRows]
theorem ext_two (c d : UInt8) (r : List UInt8) : (⟨⟨c :: d :: r⟩⟩ : ByteArray).extract ((2 : Int).toNat) (⟨⟨c :: d :: r⟩⟩ : ByteArray).size = ⟨⟨r⟩⟩ := ext_drop (c :: d :: r) 2
theorem s_pieces (l : List UInt8) (hl : l.length <= 1000000) {σ : H} {K : KH} (hN : piecesP l.length l = none -> ∀ σ', Gr σ σ' -> K (.tuple ⟨[.slice none 0 0, .bool false]⟩) σ')
 (hS : ∀ ps, piecesP l.length l = some ps -> ∀ x σ', RNew σ σ' 150 4 (pcRows ps) x -> K (.tuple ⟨[.slice x.base x.len x.cap, .bool true]⟩) σ') : callW Tryz.prog 94 [.string ⟨⟨l⟩⟩] K σ := by
 refine c94 _ ?_
 unfold g94
 refine loop_i ?_
 intro R hR
 have key : ∀ (f : Nat) (m : List UInt8) (acc : List Pc) (x : Sl) (τ : H), m.length <= f -> acc.length + f <= l.length -> (piecesP f m).map (acc ++ ·) = piecesP l.length l -> RNew σ τ 150 4 (pcRows acc) x -> R ⟨⟨m⟩⟩ x τ := by
  intro f
  induction f with
  | zero =>
   intro m acc x τ hm hf hT hx
   have : m = [] := List.eq_nil_of_length_eq_zero (by omega)
   subst this
   refine hR _ _ _ ?_
   refine br_f (by rw [strEq_nil]; rfl) (hS acc ?_ x τ hx)
   rw [<- hT]; simp [piecesP]
  | succ f ih =>
   intro m acc x τ hm hf hT hx
   cases m with
   | nil =>
    refine hR _ _ _ ?_
    refine br_f (by rw [strEq_nil]; rfl) (hS acc ?_ x τ hx)
    rw [<- hT]; simp [piecesP]
   | cons c r =>
    have hsz : (⟨⟨c :: r⟩⟩ : ByteArray).size = r.length + 1 := rfl
    rw [List.length_cons] at hm
    refine hR _ _ _ ?_
    refine br_t (by rw [strEq_nil]; rfl) ?_
    refine j_i (fun j => ∀ v1 v2 v3 (cb : Bool), cb = (c == 92 && !r.isEmpty) -> j ⟨⟨c :: r⟩⟩ x cb v1 v2 v3 τ) ?_ ?_
    case refine_2 =>
     intro j hj
     refine idx_l (c := c) (by omega) (by rfl) ?_
     rw [show ((((c.toNat : Nat) : Int) : Int) == 92) = (c == 92) from u8e c 92]
     cases hc : c == 92 with
     | false => exact br_f rfl (hj _ _ _ _ (by rw [hc]; rfl))
     | true =>
      refine br_t rfl (hj _ _ _ _ ?_)
      rw [hc, hsz]
      cases r with
      | nil => rfl
      | cons d r => simp only [List.length_cons, List.isEmpty_cons, Bool.not_false, Bool.and_self, decide_eq_true_eq]; omega
    intro v1 v2 v3 cb hcb
    have hlen : (pcRows acc).length < 1000000000 := by rw [pcRows_len]; omega
    have go : ∀ (p : Pc) (m2 : List UInt8) (y : Sl) (τ2 : H), m2.length <= f -> (piecesP (f + 1) (c :: r)).map (acc ++ ·) = (piecesP f m2).map ((acc ++ [p]) ++ ·) -> RNew σ τ2 150 4 (pcRows acc ++ [pcV p]) y -> R ⟨⟨m2⟩⟩ y τ2 := by
     intro p m2 y τ2 h1 h2 h3
     rw [pcRows_snoc] at h3
     exact ih m2 (acc ++ [p]) y τ2 h1 (by rw [List.length_append, List.length_singleton]; omega) (by rw [<- h2]; exact hT) h3
    cases cb with
    | true =>
     have hcb' := hcb.symm
     rw [Bool.and_eq_true] at hcb'
     obtain ⟨hc, hr⟩ := hcb'
     obtain ⟨d, r2, rfl⟩ : ∃ d r2, r = d :: r2 := by
      cases r with
      | nil => cases hr
      | cons d r2 => exact ⟨d, r2, rfl⟩
     refine br_t rfl (idx_l (c := d) (by omega) (by rfl) (call_i (s_escaped d (app_S ?_))))
     refine RNew.app1 el_mpiece hx (r := pcV (litP (escP d))) rfl rfl hlen ?_
     intro y τ2 h1 h2 h3
     refine if_i ⟨bnd_none, bnd_some (by decide) (by rw [hsz, List.length_cons]; omega)⟩ ?_
     rw [ext_two]
     refine go (litP (escP d)) r2 y τ2 (by simp only [List.length_cons] at hm; omega) ?_ h1
     rw [<- mapT]
     show (if (c == 92 && !(d :: r2).isEmpty) = true then _ else _ : Option (List Pc)).map _ = _
     rw [<- hcb]; rfl
    | false =>
     have hp : piecesP (f + 1) (c :: r) = if (c == 37) = true then (if headIs 37 ⟨⟨r⟩⟩ = true then (piecesP f (r.drop 1)).map (litP ⟨⟨[37]⟩⟩ :: ·) else match argP r with
      | none => none
      | some (p, r2) => (piecesP f r2).map (p :: ·)) else (piecesP f r).map (litP ⟨⟨[c]⟩⟩ :: ·) := by
      show (if (c == 92 && !r.isEmpty) = true then _ else _ : Option (List Pc)) = _
      rw [<- hcb]; rfl
     refine br_f rfl (call_i (x_HasPrefix ⟨⟨c :: r⟩⟩ ⟨⟨[37, 37]⟩⟩ (app_B ?_)))
     have hpre : List.isPrefixOf (⟨⟨[37, 37]⟩⟩ : ByteArray).data.toList (⟨⟨c :: r⟩⟩ : ByteArray).data.toList = (c == 37 && headIs 37 ⟨⟨r⟩⟩) := by
      show ((37 : UInt8) == c && List.isPrefixOf [37] r) = _
      rw [show List.isPrefixOf [37] r = headIs 37 ⟨⟨r⟩⟩ from prefix_head ⟨⟨r⟩⟩ 37]
      congr 1
      exact BEq.comm
     rw [hpre]
     cases hc : c == 37 with
     | false =>
      rw [hc, if_neg (by simp)] at hp
      refine br_f rfl (idx_l (c := c) (by omega) (by rfl) ?_)
      refine br_t (by rw [bne_iff_ne]; intro e; rw [show (c == 37) = ((((c.toNat : Nat) : Int) : Int) == 37) from (u8e c 37).symm, e] at hc; simp at hc) (if_i ⟨bnd_some (by decide) (by rw [hsz]; omega), bnd_none⟩ ?_)
      rw [show (⟨⟨c :: r⟩⟩ : ByteArray).extract 0 ((1 : Int).toNat) = ⟨⟨[c]⟩⟩ from by rw [bex]; rfl]
      refine RNew.app1 el_mpiece hx (r := pcV (litP ⟨⟨[c]⟩⟩)) rfl rfl hlen ?_
      intro y τ2 h1 h2 h3
      refine if_i ⟨bnd_none, bnd_some (by decide) (by rw [hsz]; omega)⟩ ?_
      rw [show ((1 : Int).toNat) = 1 from rfl, ext_hd]
      exact go (litP ⟨⟨[c]⟩⟩) r y τ2 (by omega) (by rw [<- mapT, hp]) h1
     | true =>
      rw [hc, if_pos rfl] at hp
      cases hh : headIs 37 ⟨⟨r⟩⟩ with
      | true =>
       rw [hh, if_pos rfl] at hp
       obtain ⟨d, r2, rfl⟩ : ∃ d r2, r = d :: r2 := by
        cases r with
        | nil => cases hh
        | cons d r2 => exact ⟨d, r2, rfl⟩
       refine br_t rfl (RNew.app1 el_mpiece hx (r := pcV (litP ⟨⟨[37]⟩⟩)) rfl rfl hlen ?_)
       intro y τ2 h1 h2 h3
       refine if_i ⟨bnd_none, bnd_some (by decide) (by rw [hsz, List.length_cons]; omega)⟩ ?_
       rw [ext_two]
       exact go (litP ⟨⟨[37]⟩⟩) r2 y τ2 (by simp only [List.length_cons] at hm; omega) (by rw [<- mapT, hp]; rfl) h1
      | false =>
       rw [hh, if_neg (by simp)] at hp
       have hc' : c = 37 := by simpa using hc
       refine br_f rfl (idx_l (c := c) (by omega) (by rfl) ?_)
       refine br_f (by rw [hc']; rfl) (if_i ⟨bnd_none, bnd_some (by decide) (by rw [hsz]; omega)⟩ ?_)
       rw [show ((1 : Int).toNat) = 1 from rfl, ext_hd]
       refine call_i (s_argument r (by omega) ?_ ?_)
       ·intro ha t k w g τ2 g2
        (refine app_of rfl ?_; try dsimp only)
        refine al_i ?_; intro b3 τ3 g3 e3 n3
        refine st_i2 e3 sz_mpiece (by rfl) (by rfl) ?_; intro τ4 p4
        refine br_t rfl (hN ?_ τ4 (((hx.1.trans g2).trans g3).putF p4 (none_of (hx.1.trans g2) n3)))
        rw [<- hT, hp, ha]; rfl
       ·intro p n ha h1n hn τ2 g2
        unfold pcV
        (refine app_of rfl ?_; try dsimp only)
        refine al_i ?_; intro b3 τ3 g3 e3 n3
        refine st_i2 e3 sz_mpiece (by rfl) (by rfl) ?_; intro τ4 p4
        refine br_f (by simp only [beq_eq_false_iff_ne]; omega) (rd_G (rdA_of' p4.same (by rfl)) ?_)
        (refine app_of rfl ?_; try dsimp only)
        refine RNew.app1 el_mpiece (hx.gr ((g2.trans g3).putF p4 (none_of g2 n3))) (r := pcV p) rfl rfl hlen ?_
        intro y τ5 h1 h2 h3
        rw [wrap_id (by omega) (by omega)]
        refine if_i ⟨bnd_none, bnd_some (by omega) (by rw [hsz]; omega)⟩ ?_
        rw [show (1 + ((n : Nat) : Int)).toNat = n + 1 by omega, ext_drop]
        exact go p (r.drop n) y τ5 (by rw [List.length_drop]; omega) (by rw [<- mapT, hp, ha]) h1
 have h := key l.length l [] ⟨none, 0, 0⟩ σ (Nat.le_refl _) (by simp) (by simp) (RNew.nil σ _ _)
 exact h
end Go.Proofs.YthclifcpjnhmjaaGreatDoor

namespace Go.Proofs
open Go.Shelf
def Tryz.laysM173_ren : Go.Shelf.Ren := ⟨fun | 173 => 98 | 246 => 145 | 283 => 173 | 284 => 174 | 285 => 175 | 286 => 176 | 129 => 211 | 317 => 210 | 318 => 212 | 319 => 213 | 320 => 214 | 337 => 222 | 338 => 223 | n => n, fun | 2 => 2 | 3 => 3 | 9 => 9 | 4 => 4 | 171 => 209 | 0 => 0 | 53 => 134 | 37 => 22 | 5 => 5 | 173 => 212 | 212 => 236 | 51 => 131 | 20 => 20 | 213 => 237 | 46 => 63 | 232 => 251 | 233 => 252 | n => n, fun | 17 => 3 | 18 => 6 | 19 => 7 | n => n⟩
theorem Tryz.laysM173 : Go.Proofs.LaysM.n173 Tryz.prog Tryz.laysM173_ren := {
 mixed := by kernel_rfl
 f129 := Tryz.func211.trans (congrArg some (by kernel_rfl))
 f173 := Tryz.func98.trans (congrArg some (by kernel_rfl))
 f246 := Tryz.func145.trans (congrArg some (by kernel_rfl))
 f283 := Tryz.func173.trans (congrArg some (by kernel_rfl))
 f284 := Tryz.func174.trans (congrArg some (by kernel_rfl))
 f285 := Tryz.func175.trans (congrArg some (by kernel_rfl))
 f286 := Tryz.func176.trans (congrArg some (by kernel_rfl))
 f317 := Tryz.func210.trans (congrArg some (by kernel_rfl))
 f318 := Tryz.func212.trans (congrArg some (by kernel_rfl))
 f319 := Tryz.func213.trans (congrArg some (by kernel_rfl))
 f320 := Tryz.func214.trans (congrArg some (by kernel_rfl))
 f337 := Tryz.func222.trans (congrArg some (by kernel_rfl))
 f338 := Tryz.func223.trans (congrArg some (by kernel_rfl))
 t0 := Tryz.underlying0
 a0 := Tryz.isAgg0
 z0 := Tryz.sizeOf0
 v0 := Tryz.zeroValue0
 t2 := Tryz.underlying2
 a2 := Tryz.isAgg2
 z2 := Tryz.sizeOf2
 v2 := Tryz.zeroValue2
 t3 := Tryz.underlying3
 a3 := Tryz.isAgg3
 z3 := Tryz.sizeOf3
 v3 := Tryz.zeroValue3
 t4 := Tryz.underlying4
 a4 := Tryz.isAgg4
 z4 := Tryz.sizeOf4
 v4 := Tryz.zeroValue4
 t5 := Tryz.underlying5
 a5 := Tryz.isAgg5
 z5 := Tryz.sizeOf5
 v5 := Tryz.zeroValue5
 t9 := Tryz.underlying9
 a9 := Tryz.isAgg9
 z9 := Tryz.sizeOf9
 v9 := Tryz.zeroValue9
 t20 := Tryz.underlying20
 a20 := Tryz.isAgg20
 z20 := Tryz.sizeOf20
 v20 := Tryz.zeroValue20
 t37 := Tryz.underlying22
 a37 := Tryz.isAgg22
 z37 := Tryz.sizeOf22
 v37 := Tryz.zeroValue22
 t46 := Tryz.underlying63
 a46 := Tryz.isAgg63
 z46 := Tryz.sizeOf63
 v46 := Tryz.zeroValue63
 t51 := Tryz.underlying131
 a51 := Tryz.isAgg131
 z51 := Tryz.sizeOf131
 v51 := Tryz.zeroValue131
 t53 := Tryz.underlying134
 a53 := Tryz.isAgg134
 z53 := Tryz.sizeOf134
 v53 := Tryz.zeroValue134
 t171 := Tryz.underlying209
 a171 := Tryz.isAgg209
 z171 := Tryz.sizeOf209
 v171 := Tryz.zeroValue209
 t173 := Tryz.underlying212
 a173 := Tryz.isAgg212
 z173 := Tryz.sizeOf212
 v173 := Tryz.zeroValue212
 t212 := Tryz.underlying236
 a212 := Tryz.isAgg236
 z212 := Tryz.sizeOf236
 v212 := Tryz.zeroValue236
 t213 := Tryz.underlying237
 a213 := Tryz.isAgg237
 z213 := Tryz.sizeOf237
 t232 := Tryz.underlying251
 a232 := Tryz.isAgg251
 z232 := Tryz.sizeOf251
 v232 := Tryz.zeroValue251
 t233 := Tryz.underlying252
 a233 := Tryz.isAgg252
 z233 := Tryz.sizeOf252
 v233 := Tryz.zeroValue252
 g17 := by kernel_rfl
 g18 := by kernel_rfl
 g19 := by kernel_rfl
 i0 := by kernel_rfl
 i2 := by kernel_rfl
 i3 := by kernel_rfl
 i4 := by kernel_rfl
 i5 := by kernel_rfl
 i9 := by kernel_rfl
 i20 := by kernel_rfl
 i37 := by kernel_rfl
 i46 := by kernel_rfl
 i51 := by kernel_rfl
 i53 := by kernel_rfl
 i171 := by kernel_rfl
 i173 := by kernel_rfl
 i212 := by kernel_rfl
 i232 := by kernel_rfl
 i233 := by kernel_rfl
 m17 := by kernel_rfl
 m18 := by kernel_rfl
 m19 := by kernel_rfl }
end Go.Proofs

set_option maxRecDepth 100000
namespace Go.Proofs.YthclifcpjnhmjaaGreatDoor
open Go Go.HL Go.Wk
structure Tabs (σ : H) : Prop where
 p10 : TabC σ 3 .u64 Lib.pow10Tab
 db : TabC σ 7 .u8 dbTab
theorem Tabs.gr {σ σ' : H} (h : Tabs σ) (hg : Gr σ σ') : Tabs σ' := ⟨h.p10.gr hg, h.db.gr hg⟩
theorem below_gr (w : World) (k : Nat) (os : Array Obj) : RowKit.Below w.heap.size w (Sort.grow (w.drewN k) os) := ⟨rfl, rfl, rfl, by show w.heap.size <= (w.heap ++ os).size; simp, fun j hj => by show (w.heap ++ os)[j]? = _; exact Array.getElem?_append_left hj⟩
theorem x_Fmt10 (n : Int) (h1 : -1000000000000000 < n) (h2 : n < 1000000000000000) {σ : H} (hT : Tabs σ) {K : KH} (hK : K (.string (fmtP 10 n)) σ) : callW Tryz.prog 98 [.int .i64 n, .int .i64 10] K σ := by
 intro w hw
 refine callsIn_wide.2 ((Any.strconv_FormatInt_10 Tryz.laysM173 n (by omega) (by omega) w (hT.p10.is hw (by kernel_rfl))).mono ?_)
 rintro en w' ⟨rfl, k, os, hb⟩
 refine ⟨_, rfl, σ, ext_below hw (hb ▸ below_gr w k os), ?_⟩
 rw [<- itoa_fmt h1 h2] at hK; exact hK
attribute [local irreducible] ptrW ifW brW andW rdT alW letJ stW muW biW vaW imW callT cvalT app callW invW callVW sizeT oW nilF oneK loopW rfW funW begW roundK exW idxW Gr Put
theorem x_TZ16 {σ : H} (hT : Tabs σ) {K : KH} (hK : K (.int .i64 4) σ) : callW Tryz.prog 214 [.int .u64 16] K σ := by
 refine c214 _ ?_
 unfold g214
 refine call_i (c223 _ ?_)
 unfold g223
 obtain ⟨t, fz, h⟩ := hT.db
 refine br_f (by decide) (if_i (by decide) (if_i (by decide +kernel) (rd_I (n := 4) (rdC_of h (by kernel_rfl)) (app_I ?_))))
 exact hK
theorem set_mid (n : Nat) (ds : List UInt8) (c : UInt8) : ((brows (List.replicate (n + 1) 0 ++ ds)).flatten.take n ++ [Value.int .u8 ((c.toNat : Nat) : Int)] ++ (brows (List.replicate (n + 1) 0 ++ ds)).flatten.drop (n + 1)) = (brows (List.replicate n 0 ++ c :: ds)).flatten := by
 rw [brows_flat, brows_flat, List.map_append, List.map_append, List.map_replicate, List.map_replicate]
 rw [List.take_append_of_le_length (by simp), List.take_replicate, Nat.min_eq_left (by omega), List.drop_left' (by simp)]
 simp
theorem x_fmtBits (n : Int) (h1 : -1000000000000000 < n) (h2 : n < 1000000000000000) {σ : H} (hT : Tabs σ) {K : KH} (hK : K (.tuple ⟨[.slice none 0 0, .string (fmtP 16 n)]⟩) σ) : callW Tryz.prog 176 [.slice none 0 0, .int .u64 (IntKind.u64.wrap n), .int .i64 16, .bool (decide ((n : Int) < 0)), .bool false] K σ := by
 refine pure_i _ hK (c176 ⟨none, 0, 0⟩ _ _ _ _ ?_)
 clear hK
 unfold g176
 refine j_d (br_f (by decide) (br_f (by decide) (br_f (by decide) ?_)))
 refine al_i ?_; intro b σ1 g1 e1 n1
 have hu : (if decide (n < 0) then IntKind.u64.wrap (0 - IntKind.u64.wrap n) else IntKind.u64.wrap n) = ((n.natAbs : Nat) : Int) := by
  have q : ∀ x : Int, IntKind.u64.wrap x = x % 18446744073709551616 := fun _ => rfl
  rw [q, q]
  by_cases h : n < 0
  ·rw [if_pos (by simpa using h)]; omega
  ·rw [if_neg (by simpa using h)]; omega
 refine j_i (fun j => j ⟨none, 0, 0⟩ ((n.natAbs : Nat) : Int) 16 (decide (n < 0)) false ⟨none, 0, 0⟩ ⟨⟨[]⟩⟩ (some ⟨b, 0, none⟩) 65 σ1) ?_ ?_
 case refine_2 =>
  intro j hj
  cases hd : decide (n < 0) with
  | true => rw [hd, if_pos rfl] at hu; rw [hd] at hj; refine br_t rfl ?_; rw [hu]; exact hj
  | false => rw [hd, if_neg (by simp)] at hu; rw [hd] at hj; refine br_f rfl ?_; rw [hu]; exact hj
 clear hu
 refine j_i (fun j => ∀ (i : Nat) (ds : List UInt8) (τ : H), i + ds.length = 65 -> 1 <= i -> ds = fmtL 16 64 n.natAbs [] -> Gr σ τ -> τ b = some (.cells ⟨(brows (List.replicate i 0 ++ ds)).flatten⟩ 237 (0, 0)) -> j ⟨none, 0, 0⟩ (decide (n < 0)) false ⟨none, 0, 0⟩ ⟨⟨[]⟩⟩ (some ⟨b, 0, none⟩) ((i : Nat) : Int) τ) ?_ ?_
 ·intro i ds τ hi h1i hds hg hb
  refine j_i (fun j => ∀ (i : Nat) (ds : List UInt8) (τ : H), i + ds.length = 65 -> (⟨⟨ds⟩⟩ : ByteArray) = fmtP 16 n -> Gr σ τ -> τ b = some (.cells ⟨(brows (List.replicate i 0 ++ ds)).flatten⟩ 237 (0, 0)) -> j ⟨none, 0, 0⟩ false ⟨none, 0, 0⟩ ⟨⟨[]⟩⟩ (some ⟨b, 0, none⟩) ((i : Nat) : Int) τ) ?_ ?_
  ·intro i ds τ hi hds hg hb
   refine br_f rfl (ptr_i (if_i ⟨bnd_none, bnd_some (by omega) (by omega)⟩ ?_))
   have hl : (brows (List.replicate i 0 ++ ds)).length = 65 := by rw [brows_len, List.length_append, List.length_replicate]; exact hi
   have hown : RowsOwn τ 237 1 (brows (List.replicate i 0 ++ ds)) ⟨some ⟨b, 0, none⟩, 65, 65⟩ := ⟨hl.symm, brows_one _, .inr ⟨b, _, rfl, hb, by rw [brows_flat, List.length_map, List.length_append, List.length_replicate, hi]; rfl, Nat.le_refl _, by rw [List.take_of_length_le]; rw [brows_flat, List.length_map, List.length_append, List.length_replicate, hi]; exact Nat.le_refl _⟩⟩
   have hsub := hown.rows.sub (Nat.le_refl _) (k := i) (e := 65) (by omega) (by rw [hl]; exact Nat.le_refl _) (65 - i)
   have he : ((brows (List.replicate i 0 ++ ds)).take 65).drop i = brows ds := by
    rw [List.take_of_length_le (by rw [hl]; exact Nat.le_refl _), brows_app, List.drop_left' (by rw [brows_len, List.length_replicate])]
   rw [he] at hsub
   rw [Int.toNat_natCast]
   refine bstr_i und_bytesM und_u8M und_strM hsub ?_
   rw [hds]
   exact ⟨rfl, hg⟩
  ·intro j hj
   by_cases h : n < 0
   ·refine br_t (decide_eq_true h) (ptr_i ?_)
    obtain ⟨k, rfl⟩ : ∃ k, i = k + 1 := ⟨i - 1, by omega⟩
    rw [wrap_id (by omega) (by omega), show ((k + 1 : Nat) : Int) - 1 = (k : Int) by omega]
    refine if_i ⟨by omega, by omega⟩ ?_
    rw [Int.toNat_natCast, Nat.zero_add, Nat.mul_one]
    refine st_i2 hb sz_u8M (Nat.ble_eq_true_of_le (by rw [brows_flat, List.length_map, List.length_append, List.length_replicate]; show k + 1 <= _; omega)) (by rfl) ?_; intro τ2 p2
    refine hj k (45 :: ds) τ2 (by rw [List.length_cons]; omega) ?_ (hg.putF p2 n1) ?_
    ·unfold fmtP; rw [if_pos h, hds]
    ·rw [p2.same]
     have := set_mid k ds 45
     rw [<- this]; rfl
   ·refine br_f (decide_eq_false h) (hj i ds τ hi ?_ hg hb)
    unfold fmtP; rw [if_neg h, hds]
 ·intro j hj
  refine call_i (c213 _ ?_)
  unfold g213
  refine app_B (br_t (by decide +kernel) (call_i (x_TZ16 (hT.gr g1) (app_I (loop_i ?_)))))
  intro R hR
  have hn13 : n.natAbs < 16 ^ 13 := by have : n.natAbs < 10 ^ 15 := by omega
                                       exact Nat.lt_trans this (by decide)
  have key : ∀ (m f u : Nat) (acc : List UInt8) (τ : H), f = m + 51 -> u < 16 ^ m -> u < 18446744073709551616 -> 1 <= m -> acc.length + f = 64 -> fmtL 16 f u acc = fmtL 16 64 n.natAbs [] -> Gr σ τ -> τ b = some (.cells ⟨(brows (List.replicate (f + 1) 0 ++ acc)).flatten⟩ 237 (0, 0)) -> R ⟨none, 0, 0⟩ ((u : Nat) : Int) (decide (n < 0)) false ⟨none, 0, 0⟩ ⟨⟨[]⟩⟩ (some ⟨b, 0, none⟩) ((f + 1 : Nat) : Int) 4 16 15 τ := by
   intro m
   induction m with
   | zero => intro f u acc τ _ _ _ h; cases h
   | succ m ih =>
    intro f u acc τ hf hu hu18 _ hal hfm hg hb
    refine hR _ _ _ _ _ _ _ _ _ _ _ _ ?_
    have hst : ∀ c : UInt8, Nat.ble (f + 1) (brows (List.replicate (f + 1) 0 ++ acc)).flatten.length = true := fun c => Nat.ble_eq_true_of_le (by rw [brows_flat, List.length_map, List.length_append, List.length_replicate]; omega)
    by_cases h16 : u < 16
    ·refine br_f (by simp only [decide_eq_false_iff_not]; omega) (idx_l (c := digitL u) (by omega) (by rw [Int.toNat_natCast]; exact hexS_at u h16) (ptr_i ?_))
     rw [wrap_id (by omega) (by omega), show ((f + 1 : Nat) : Int) - 1 = (f : Int) by omega]
     refine if_i ⟨by omega, by omega⟩ ?_
     rw [Int.toNat_natCast, Nat.zero_add, Nat.mul_one]
     refine st_i2 hb sz_u8M (hst (digitL u)) (by rfl) ?_; intro τ2 p2
     refine hj f (digitL u :: acc) τ2 (by rw [List.length_cons]; omega) (by omega) ?_ (hg.putF p2 n1) ?_
     ·rw [<- hfm, hf]; show _ = fmtL 16 ((m + 51) + 1) u acc
      rw [fmtL, if_pos h16]
     ·rw [p2.same, <- set_mid f acc (digitL u)]; rfl
    ·refine br_t (by simp only [decide_eq_true_eq]; omega) ?_
     rw [and15 hu18]
     refine idx_l (c := digitL (u % 16)) (by omega) (by rw [Int.toNat_natCast]; exact hexS_at _ (Nat.mod_lt _ (by decide))) (ptr_i ?_)
     rw [wrap_id (by omega) (by omega), show ((f + 1 : Nat) : Int) - 1 = (f : Int) by omega]
     refine if_i ⟨by omega, by omega⟩ ?_
     rw [Int.toNat_natCast, Nat.zero_add, Nat.mul_one]
     refine st_i2 hb sz_u8M (hst (digitL (u % 16))) (by rfl) ?_; intro τ2 p2
     refine if_i (by decide) ?_
     have e4 : Int.fdiv ((u : Nat) : Int) (2 ^ min (Int.toNat 4) (IntKind.bits .u64)) = ((u / 16 : Nat) : Int) := by
      show Int.fdiv (u : Int) 16 = _
      rw [Int.fdiv_eq_ediv_of_nonneg _ (by decide)]; omega
     rw [e4]
     have hm1 : 1 <= m := by
      rcases Nat.eq_zero_or_pos m with e | e
      ·subst e; simp at hu; omega
      ·exact e
     have := ih (m + 51) (u / 16) (digitL (u % 16) :: acc) τ2 rfl (by rw [Nat.pow_succ] at hu; omega) (by omega) hm1 (by rw [List.length_cons]; omega) ?_ (hg.putF p2 n1) ?_
     ·have hff : ((m + 51 + 1 : Nat) : Int) = (f : Int) := by omega
      rw [hff] at this; exact this
     ·rw [<- hfm, hf]; show _ = fmtL 16 ((m + 51) + 1) u acc
      conv => rhs; rw [fmtL, if_neg h16]
     ·rw [p2.same, show m + 51 + 1 = f by omega, <- set_mid f acc (digitL (u % 16))]; rfl
  exact key 13 64 n.natAbs [] σ1 rfl hn13 (by omega) (by decide) rfl rfl g1 (by rw [e1]; rfl)
end Go.Proofs.YthclifcpjnhmjaaGreatDoor

set_option maxRecDepth 100000
namespace Go.Proofs.YthclifcpjnhmjaaGreatDoor
open Go Go.HL Go.Wk
theorem go_NE : isGo Tryz.prog 136 = false := by kernel_rfl
theorem fn_NE : (Tryz.prog.funcs[136]?).map (fun fn => ((fn.name == "runtime.NumGoroutine"), fn.body.isNone)) = some (false, true) := by kernel_rfl
theorem ex_NE : (Tryz.prog.funcs[136]?).bind (fun fn => Extern.find fn) = some Extern.AbiNoEscape.same := by kernel_rfl
theorem en_NE : (Tryz.prog.funcs[136]?).map (fun fn => (Extern.findNext fn).isNone) = some true := by kernel_rfl
theorem x_ext {f : FuncId} {e : Array Value -> Sem Value} {args : List Value} {t : TK} {F : t.Fn (H -> Prop)} {σ : H} (hg : isGo Tryz.prog f = false) (h1 : (Tryz.prog.funcs[f]?).map (fun fn => ((fn.name == "runtime.NumGoroutine"), fn.body.isNone)) = some (false, true))
 (h2 : (Tryz.prog.funcs[f]?).bind (fun fn => Extern.find fn) = some e) (h3 : (Tryz.prog.funcs[f]?).map (fun fn => (Extern.findNext fn).isNone) = some true)
 (h : ∀ w, σ.le w -> ∃ v w' σ', (e ⟨args⟩).run Tryz.prog w = .ok v w' /\ Ext σ w σ' w' /\ app t F v σ') : cvalT Tryz.prog (.func (.func f) ⟨[]⟩ ⟨[]⟩) args t F σ := by
 unfold cvalT callVW
 simp only [hg]
 intro w hw
 obtain ⟨v, w', σ', hr, hx, ha⟩ := h w hw
 cases hf : Tryz.prog.funcs[f]? with
 | none => rw [hf] at h1; cases h1
 | some fn =>
  rw [hf] at h1 h2 h3
  simp only [Option.map_some, Option.some.injEq, Prod.mk.injEq, Option.bind_some] at h1 h2 h3
  have hc := run_callFunc_standIn hf h1.1 h1.2 (Option.isNone_iff_eq_none.1 h3) h2 ⟨args⟩ w
  have : (callS (.func (.func f) ⟨[]⟩ ⟨[]⟩) args).run Tryz.prog w = .ok (.value v) w' := by
   simp [callS, Deferred.ofValue, invoke, hc, hr]
  rw [this]
  exact ⟨σ', hx, ha⟩
theorem x_NoEsc {v : Value} {F : Value -> H -> Prop} {σ : H} (hF : F v σ) : cvalT Tryz.prog (.func (.func 136) ⟨[]⟩ ⟨[]⟩) [v] kR F σ :=
 x_ext go_NE fn_NE ex_NE en_NE fun w hw => ⟨v, w, σ, Lib.run_noEscape w v, Ext.refl hw, app_R hF⟩
theorem go_MZ : isGo Tryz.prog 137 = false := by kernel_rfl
theorem fn_MZ : (Tryz.prog.funcs[137]?).map (fun fn => ((fn.name == "runtime.NumGoroutine"), fn.body.isNone)) = some (false, true) := by kernel_rfl
theorem ex_MZ : (Tryz.prog.funcs[137]?).bind (fun fn => Extern.find fn) = some (Extern.BytealgMakeNoZero.makeNoZero #[3] #[22]) := by kernel_rfl
theorem en_MZ : (Tryz.prog.funcs[137]?).map (fun fn => (Extern.findNext fn).isNone) = some true := by kernel_rfl
theorem und_bytes : Tryz.prog.underlying 22 = some (.slice 5) := by kernel_rfl
theorem und_str : Tryz.prog.underlying 9 = some .string := by kernel_rfl
theorem und_Pu8 : Tryz.prog.underlying 137 = some (.pointer 5) := by kernel_rfl
theorem und_PBu : Tryz.prog.underlying 67 = some (.pointer 69) := by kernel_rfl
theorem und_up : Tryz.prog.underlying 181 = some .unsafePointer := by kernel_rfl
theorem cells_u8 : Tryz.prog.cellsOf 5 = 1 := by kernel_rfl
theorem info_u8 : ∃ i, Tryz.prog.info? 5 = some i /\ i.zero = some (.int .u8 0) /\ i.size = 1 /\ i.bytes = 1 := by
 have h1 : (Tryz.prog.info? 5).map (fun i => (i.zero, i.size, i.bytes)) = some (some (.int .u8 0), 1, 1) := by kernel_rfl
 cases hi : Tryz.prog.info? 5 with
 | none => rw [hi] at h1; cases h1
 | some i =>
  rw [hi] at h1
  simp only [Option.map_some, Option.some.injEq, Prod.mk.injEq] at h1
  exact ⟨i, rfl, h1.1, h1.2.1, h1.2.2⟩
theorem info_Bu : ∃ i, Tryz.prog.info? 69 = some i /\ i.size ≠ 0 := by
 have h1 : (Tryz.prog.info? 69).map (·.size) = some 2 := by kernel_rfl
 cases hi : Tryz.prog.info? 69 with
 | none => rw [hi] at h1; cases h1
 | some i =>
  rw [hi] at h1
  simp only [Option.map_some, Option.some.injEq] at h1
  exact ⟨i, rfl, by omega⟩
theorem lies_Bu : liesAt Tryz.prog Tryz.prog.depth 69 (2 / Tryz.prog.cellsOf 69) 0 69 1 = true := by kernel_rfl
theorem szb_bytes : sizeT Tryz.prog 22 = some 1 := by kernel_rfl
theorem szb_PBu : sizeT Tryz.prog 67 = some 1 := by kernel_rfl
theorem x_MZ {n : Nat} (hn : n <= 281474976710656) {F : Sl -> H -> Prop} {σ : H} (hF : ∀ g cur σ', σ g = none -> σ' g = some (.cells ⟨cur⟩ 5 (0, 0)) -> Gr σ σ' -> n <= cur.length -> F ⟨some ⟨g, 0, none⟩, n, cur.length⟩ σ') : cvalT Tryz.prog (.func (.func 137) ⟨[]⟩ ⟨[]⟩) [.int .i64 (n : Int)] kL F σ := by
 refine x_ext go_MZ fn_MZ ex_MZ en_MZ fun w hw => ?_
 obtain ⟨⟨cs⟩, hr, h1, _⟩ := Lib.run_makeNoZero (P := Tryz.prog) w #[3] 22 5 und_bytes n hn
 obtain ⟨hn', he⟩ := Ext.alloc (σ := σ) (w := w.drew.drew) hw (.cells ⟨cs⟩ 5 (0, 0))
 exact ⟨_, _, _, hr, ⟨he.le, he.size, he.keep, he.own, he.os, he.tape, he.output⟩, app_L (hF w.heap.size cs _ hn' (H.put_same _ _ _) (Gr.put hn' _) h1)⟩
def BuAt (σ : H) (b : Nat) (l : List UInt8) (D : Nat -> Prop) : Prop := ∃ (p : Option Addr) (x : Sl), σ b = some (.cells ⟨[.pointer p, .slice x.base x.len x.cap]⟩ 69 (0, 0)) /\ (p = none \/ p = some ⟨b, 0, none⟩) /\ RowsOwn σ 5 1 (brows l) x /\ (∀ g, x.base = some ⟨g, 0, none⟩ -> g ≠ b) /\ (x.base ≠ none -> x.cap ≠ 0) /\ ∀ c, D c ↔ (c = b \/ x.base = some ⟨c, 0, none⟩)
theorem BuAt.gr {σ σ' : H} {b : Nat} {l : List UInt8} {D : Nat -> Prop} (h : BuAt σ b l D) (hg : Gr σ σ') : BuAt σ' b l D := by
 obtain ⟨p, x, h1, h2, h3, h4⟩ := h
 exact ⟨p, x, hg.get h1, h2, h3.gr hg, h4⟩
theorem BuAt.has {σ : H} {b : Nat} {l : List UInt8} {D : Nat -> Prop} (h : BuAt σ b l D) {c : Nat} (hc : D c) : σ c ≠ none := by
 obtain ⟨p, x, h1, h2, h3, h4, h5, h6⟩ := h
 rcases (h6 c).1 hc with rfl | e
 ·rw [h1]; simp
 ·exact h3.has e
theorem BuAt.put {σ σ' : H} {b c : Nat} {o : Obj} {l : List UInt8} {D : Nat -> Prop} (h : BuAt σ b l D) (hp : Put σ c o σ') (hc : ¬ D c) : BuAt σ' b l D := by
 obtain ⟨p, x, h1, h2, h3, h4, h5, h6⟩ := h
 exact ⟨p, x, hp.get (fun e => hc ((h6 c).2 (.inl e.symm))) h1, h2, h3.put hp (fun e => hc ((h6 c).2 (.inr e))), h4, h5, h6⟩
theorem BuAt.new {σ : H} {b : Nat} (h : σ b = some (.cells ⟨[.pointer none, .slice none 0 0]⟩ 69 (0, 0))) : BuAt σ b [] (fun c => c = b) :=
 ⟨none, ⟨none, 0, 0⟩, h, .inl rfl, RowsOwn.nil _ _ _, (fun g h => by cases h), (fun h => absurd rfl h), fun c => ⟨fun h => .inl h, fun h => h.resolve_right (by intro e; cases e)⟩⟩
attribute [local irreducible] ptrW ifW brW andW rdT alW letJ stW muW biW vaW imW callT cvalT app callW invW callVW sizeT oW nilF oneK loopW rfW funW begW roundK exW idxW Gr Put
section
variable {σ : H} {b : Nat} {l : List UInt8} {D : Nat -> Prop}
theorem s_BuCheck (h : BuAt σ b l D) {K : KH} (hK : ∀ σ', BuAt σ' b l D -> Sep σ D σ' D -> K (.tuple ⟨[]⟩) σ') : callW Tryz.prog 88 [.pointer (some ⟨b, 0, none⟩)] K σ := by
 obtain ⟨p, x, h1, h2, h3, h4, h5, h6⟩ := id h
 obtain ⟨i, hi, hi0⟩ := info_Bu
 refine c88 _ ?_
 unfold g88
 refine ptr_i (rd_P (rdC_of h1 (by rfl)) ?_)
 rcases h2 with rfl | rfl
 ·refine br_t rfl ?_
  refine toUp_i und_PBu und_up hi hi0 h1 (by simp) ?_
  refine x_NoEsc (fromUp_i und_up und_PBu hi h1 lies_Bu (ptr_i ?_))
  refine st_i2 h1 szb_PBu (by rfl) (by rfl) ?_; intro σ' hp
  refine hK σ' ⟨some ⟨b, 0, none⟩, x, hp.same, .inr rfl, h3.put hp (fun e => h4 b e rfl), h4, h5, h6⟩ ?_
  intro c o hc hn
  exact ⟨hp.get (fun e => hn ((h6 c).2 (.inl e))) hc, hn⟩
 ·refine br_f rfl (ptr_i (rd_P (rdC_of h1 (by rfl)) ?_))
  exact neqp_i und_PBu hi (br_f rfl (hK σ h (Sep.refl _ _)))
theorem key_BuWr (hb : BuAt σ b l D) {p : Option Addr} {x x' : Sl} {l' : List UInt8} {τ : H} (h1 : σ b = some (.cells ⟨[.pointer p, .slice x.base x.len x.cap]⟩ 69 (0, 0))) (h2 : p = none \/ p = some ⟨b, 0, none⟩) (h4 : ∀ g, x.base = some ⟨g, 0, none⟩ -> g ≠ b) (h5 : x.base ≠ none -> x.cap ≠ 0) (h6 : ∀ c, D c ↔ (c = b \/ x.base = some ⟨c, 0, none⟩))
 (hx' : RowsOwn τ 5 1 (brows l') x') (hcap : (x.base ≠ none -> x.cap ≠ 0) -> (x'.base ≠ none -> x'.cap ≠ 0)) (hcase : (∃ g o, x.base = some ⟨g, 0, none⟩ /\ x'.base = x.base /\ Put σ g o τ) \/ (((∃ g, x'.base = some ⟨g, 0, none⟩ /\ σ g = none) \/ x'.base = none) /\ Gr σ τ))
 {F : H -> Prop} (hK : ∀ σ' D', BuAt σ' b l' D' -> Sep σ D σ' D' -> F σ') : stW Tryz.prog 22 (.pointer (some ⟨b, 0 + 1, none⟩)) (.slice x'.base x'.len x'.cap) F τ := by
 have hbb : D b := (h6 b).2 (.inl rfl)
 have h1' : τ b = some (.cells ⟨[.pointer p, .slice x.base x.len x.cap]⟩ 69 (0, 0)) := by
  rcases hcase with ⟨g, o, z1, _, hp⟩ | ⟨_, hg⟩
  ·exact hp.get (Ne.symm (h4 g z1)) h1
  ·exact hg.get h1
 have n4 : ∀ g, x'.base = some ⟨g, 0, none⟩ -> g ≠ b := by
  intro g' e
  rcases hcase with ⟨g, o, z1, z2, hp⟩ | ⟨⟨g, y1, y2⟩ | y, hg⟩
  ·exact h4 g' (by rw [<- z2]; exact e)
  ·rw [y1] at e
   have : g = g' := by injection e with e; injection e
   subst this
   intro e2
   rw [e2, h1] at y2; cases y2
  ·rw [y] at e; cases e
 have S2 : ∀ c o, σ c = some o -> ¬ D c -> τ c = some o /\ x'.base ≠ some ⟨c, 0, none⟩ := by
  intro c o hc hn
  rcases hcase with ⟨g, o', z1, z2, hp⟩ | ⟨z, hg⟩
  ·have hcg : c ≠ g := fun e => hn ((h6 c).2 (.inr (by rw [e]; exact z1)))
   exact ⟨hp.get hcg hc, fun e => hn ((h6 c).2 (.inr (by rw [<- z2]; exact e)))⟩
  ·refine ⟨hg.get hc, fun e => ?_⟩
   rcases z with ⟨g, y1, y2⟩ | y
   ·rw [y1] at e
    have : g = c := by injection e with e; injection e
    subst this
    rw [hc] at y2; cases y2
   ·rw [y] at e; cases e
 refine st_i2 h1' szb_bytes (by rfl) (by rfl) ?_; intro σ3 p3
 refine hK σ3 (fun c => c = b \/ x'.base = some ⟨c, 0, none⟩) ⟨p, x', p3.same, h2, hx'.put p3 (fun e => n4 b e rfl), n4, hcap h5, fun c => Iff.rfl⟩ ?_
 intro c o hc hn
 obtain ⟨q1, q2⟩ := S2 c o hc hn
 have hcb : c ≠ b := fun e => hn ((h6 c).2 (.inl e))
 exact ⟨p3.get hcb q1, fun hd => hd.elim hcb q2⟩
theorem s_BuWrS (h : BuAt σ b l D) (s : ByteArray) (hl : l.length + s.size <= 100000000000) {K : KH} (hK : ∀ σ' D', BuAt σ' b (l ++ s.data.toList) D' -> Sep σ D σ' D' -> K (.tuple ⟨[.int .i64 ((s.size : Nat) : Int), .nilIface]⟩) σ') : callW Tryz.prog 39 [.pointer (some ⟨b, 0, none⟩), .string s] K σ := by
 refine c39 _ _ ?_
 unfold g39
 refine call_i (s_BuCheck h ?_)
 intro σ1 hb1 S1
 refine app_U ?_
 obtain ⟨p, x, h1, h2, h3, h4, h5, h6⟩ := id hb1
 refine ptr_i (rd_L (rdC_of h1 (by rfl)) ?_)
 obtain ⟨i, i1, i2, i3, i4⟩ := info_u8
 refine app_str_i und_bytes und_str i1 i2 i3 i4 h3 hl ?_
 intro x' σ2 hx' hcap hcase
 refine ptr_i ?_
 exact key_BuWr hb1 h1 h2 h4 h5 h6 hx' hcap hcase fun σ' D' B S => hK σ' D' B (S1.trans S)
theorem s_BuStr (h : BuAt σ b l D) (hl : l.length <= 100000000000) {K : KH} (hK : ∀ σ', (∀ c o, σ c = some o -> ¬ D c -> σ' c = some o) -> K (.string ⟨⟨l⟩⟩) σ') : callW Tryz.prog 41 [.pointer (some ⟨b, 0, none⟩)] K σ := by
 refine c41 _ ?_
 unfold g41
 obtain ⟨p, x, h1, h2, h3, h4, h5, h6⟩ := id h
 refine ptr_i (rd_L (rdC_of h1 (by rfl)) (ptr_i (rd_L (rdC_of h1 (by rfl)) ?_)))
 refine sdata_i h5 (and_i (rdC_of h1 (by rfl)) ?_)
 refine ustr_i und_Pu8 cells_u8 h3 (by omega) ?_ ?_
 ·intro e; rw [e] at hK; exact hK σ (fun c o hc _ => hc)
 ·intro g cur o σ' e hg hp
  refine hK σ' fun c o' hc hn => hp.get (fun e2 => hn ((h6 c).2 (.inr (by rw [e2]; exact e)))) hc
theorem s_Bugrow (hb : σ b = some (.cells ⟨[.pointer none, .slice none 0 0]⟩ 69 (0, 0))) {p : Option Addr} {n : Nat} (hn : n <= 100000000000) (h0 : n ≠ 0) {τ : H} (h1 : τ b = some (.cells ⟨[.pointer p, .slice none 0 0]⟩ 69 (0, 0))) (h2 : p = none \/ p = some ⟨b, 0, none⟩) {K : KH} (hK : ∀ σ' D', BuAt σ' b [] D' -> Sep τ (fun c => c = b) σ' D' -> K (.tuple ⟨[]⟩) σ') : callW Tryz.prog 89 [.pointer (some ⟨b, 0, none⟩), .int .i64 (n : Int)] K τ := by
 refine c89 _ _ ?_
 unfold g89
 refine ptr_i (rd_L (rdC_of h1 (by rfl)) (ptr_i (rd_L (rdC_of h1 (by rfl)) ?_)))
 have e : IntKind.i64.wrap (IntKind.i64.wrap (2 * (((0 : Nat) : Nat) : Int)) + (n : Int)) = (n : Int) := by
  rw [show (2 * (((0 : Nat) : Nat) : Int)) = 0 from rfl, wrap_id (x := 0) (by omega) (by omega), wrap_id (by omega) (by omega)]; omega
 show cvalT _ _ [.int .i64 (IntKind.i64.wrap (IntKind.i64.wrap (2 * (((0 : Nat) : Nat) : Int)) + (n : Int)))] _ _ _
 rw [e]
 refine x_MZ (by omega) ?_
 intro g cur σ1 hn1 hg1 hgr hlen
 have h1' := hgr.get h1
 refine and_i (rdC_of h1' (by rfl)) (if_i ⟨bnd_some (by simp) (by simp), bnd_none⟩ ?_)
 refine ptr_i (rd_L (rdC_of h1' (by rfl)) ?_)
 refine copy0_i und_bytes (by kernel_rfl) ?_
 refine ptr_i ?_
 have hgb : g ≠ b := by intro e; rw [e, h1] at hn1; cases hn1
 refine st_i2 h1' szb_bytes (by rfl) (by rfl) ?_; intro σ3 p3
 have hbase : slBase (some ⟨g, 0, none⟩) 0 cur.length 1 = some ⟨g, 0, none⟩ := by unfold slBase; split <;> rfl
 refine hK σ3 (fun c => c = b \/ c = g) ⟨p, ⟨some ⟨g, 0, none⟩, 0, cur.length⟩, ?_, h2, ?_, ?_, ?_, ?_⟩ ?_
 ·have := p3.same
  simp only [hbase] at this
  exact this
 ·exact ⟨rfl, by simp [brows], .inr ⟨g, cur, rfl, p3.get hgb hg1, by simp, Nat.zero_le _, by simp [brows]⟩⟩
 ·intro g' e
  have : g = g' := by injection e with e; injection e
  rw [<- this]; exact hgb
 ·intro _ ; show cur.length ≠ 0; omega
 ·intro c
  constructor
  ·rintro (h | h)
   ·exact .inl h
   ·exact .inr (by rw [h])
  ·rintro (h | h)
   ·exact .inl h
   ·exact .inr (by injection h with e; injection e with e; exact e.symm)
 ·intro c o hc hn
  refine ⟨p3.get hn (hgr.get hc), fun hd => hd.elim hn ?_⟩
  intro e; rw [e, hn1] at hc; cases hc
theorem s_BuGrow (hb : σ b = some (.cells ⟨[.pointer none, .slice none 0 0]⟩ 69 (0, 0))) {n : Nat} (hn : n <= 100000000000) {K : KH} (hK : ∀ σ' D', BuAt σ' b [] D' -> Sep σ (fun c => c = b) σ' D' -> K (.tuple ⟨[]⟩) σ') : callW Tryz.prog 38 [.pointer (some ⟨b, 0, none⟩), .int .i64 (n : Int)] K σ := by
 refine c38 _ _ ?_
 unfold g38
 refine call_i (s_BuCheck (BuAt.new hb) ?_)
 intro σ1 hb1 S1
 refine app_U (br_f (by simp only [decide_eq_false_iff_not]; omega) ?_)
 obtain ⟨p, x, h1, h2, h3, h4, h5, h6⟩ := id hb1
 have hx : x = ⟨none, 0, 0⟩ := by
  obtain ⟨q1, _, ⟨q3, q4, _⟩ | ⟨g, cur, q3, _⟩⟩ := h3
  ·cases x; simp only at q1 q3 q4; simp [brows] at q1; subst q1; subst q3; subst q4; rfl
  ·exact absurd ((h6 g).2 (.inr q3)) (h4 g q3)
 subst hx
 refine ptr_i (rd_L (rdC_of h1 (by rfl)) (ptr_i (rd_L (rdC_of h1 (by rfl)) ?_)))
 show brW (decide (IntKind.i64.wrap ((((0 : Nat) : Nat) : Int) - (((0 : Nat) : Nat) : Int)) < (n : Int))) _ _ _
 rw [show IntKind.i64.wrap ((((0 : Nat) : Nat) : Int) - (((0 : Nat) : Nat) : Int)) = 0 from by decide]
 by_cases h0 : n = 0
 ·refine br_f (by simp only [decide_eq_false_iff_not]; omega) (hK σ1 _ hb1 S1)
 ·refine br_t (by simp only [decide_eq_true_eq]; omega) (call_i (s_Bugrow hb hn h0 h1 h2 ?_))
  intro σ' D' B S
  exact app_U (hK σ' D' B (S1.trans S))
end
end Go.Proofs.YthclifcpjnhmjaaGreatDoor

namespace Go.Proofs
open Go.Shelf
def Tryz.lays105_ren : Go.Shelf.Ren := ⟨fun | 105 => 11 | 212 => 36 | 99 => 37 | 165 => 38 | 166 => 39 | 170 => 40 | 169 => 41 | 263 => 85 | 264 => 86 | 206 => 87 | 240 => 88 | 241 => 89 | 276 => 136 | 277 => 137 | n => n, fun | 9 => 9 | 3 => 3 | 4 => 4 | 20 => 20 | 0 => 0 | 46 => 63 | 109 => 64 | 5 => 5 | 72 => 69 | 76 => 73 | 51 => 131 | 146 => 132 | 53 => 134 | 148 => 135 | 70 => 67 | 37 => 22 | 75 => 72 | 127 => 137 | 164 => 181 | 80 => 76 | n => n, fun | n => n⟩
theorem Tryz.lays105 : Go.Proofs.Lays.n105 Tryz.prog Tryz.lays105_ren := {
 mixed := by kernel_rfl
 f99 := Tryz.func37.trans (congrArg some (by kernel_rfl))
 f105 := Tryz.func11.trans (congrArg some (by kernel_rfl))
 f165 := Tryz.func38.trans (congrArg some (by kernel_rfl))
 f166 := Tryz.func39.trans (congrArg some (by kernel_rfl))
 f169 := Tryz.func41.trans (congrArg some (by kernel_rfl))
 f170 := Tryz.func40.trans (congrArg some (by kernel_rfl))
 f206 := Tryz.func87.trans (congrArg some (by kernel_rfl))
 f212 := Tryz.func36.trans (congrArg some (by kernel_rfl))
 f240 := Tryz.func88.trans (congrArg some (by kernel_rfl))
 f241 := Tryz.func89.trans (congrArg some (by kernel_rfl))
 f263 := Tryz.func85.trans (congrArg some (by kernel_rfl))
 f264 := Tryz.func86.trans (congrArg some (by kernel_rfl))
 f276 := Tryz.func136.trans (congrArg some (by kernel_rfl))
 f277 := Tryz.func137.trans (congrArg some (by kernel_rfl))
 t0 := Tryz.underlying0
 a0 := Tryz.isAgg0
 z0 := Tryz.sizeOf0
 v0 := Tryz.zeroValue0
 t3 := Tryz.underlying3
 a3 := Tryz.isAgg3
 z3 := Tryz.sizeOf3
 v3 := Tryz.zeroValue3
 t4 := Tryz.underlying4
 a4 := Tryz.isAgg4
 z4 := Tryz.sizeOf4
 v4 := Tryz.zeroValue4
 t5 := Tryz.underlying5
 a5 := Tryz.isAgg5
 z5 := Tryz.sizeOf5
 v5 := Tryz.zeroValue5
 t9 := Tryz.underlying9
 a9 := Tryz.isAgg9
 z9 := Tryz.sizeOf9
 v9 := Tryz.zeroValue9
 t20 := Tryz.underlying20
 a20 := Tryz.isAgg20
 z20 := Tryz.sizeOf20
 v20 := Tryz.zeroValue20
 t37 := Tryz.underlying22
 a37 := Tryz.isAgg22
 z37 := Tryz.sizeOf22
 v37 := Tryz.zeroValue22
 t46 := Tryz.underlying63
 a46 := Tryz.isAgg63
 z46 := Tryz.sizeOf63
 v46 := Tryz.zeroValue63
 t51 := Tryz.underlying131
 a51 := Tryz.isAgg131
 z51 := Tryz.sizeOf131
 v51 := Tryz.zeroValue131
 t53 := Tryz.underlying134
 a53 := Tryz.isAgg134
 z53 := Tryz.sizeOf134
 v53 := Tryz.zeroValue134
 t70 := Tryz.underlying67
 a70 := Tryz.isAgg67
 z70 := Tryz.sizeOf67
 v70 := Tryz.zeroValue67
 t72 := Tryz.underlying69
 a72 := Tryz.isAgg69
 z72 := Tryz.sizeOf69
 v72 := Tryz.zeroValue69
 t75 := Tryz.underlying72
 a75 := Tryz.isAgg72
 z75 := Tryz.sizeOf72
 v75 := Tryz.zeroValue72
 t76 := Tryz.underlying73
 a76 := Tryz.isAgg73
 z76 := Tryz.sizeOf73
 v76 := Tryz.zeroValue73
 t109 := Tryz.underlying64
 a109 := Tryz.isAgg64
 z109 := Tryz.sizeOf64
 v109 := Tryz.zeroValue64
 t127 := Tryz.underlying137
 a127 := Tryz.isAgg137
 z127 := Tryz.sizeOf137
 v127 := Tryz.zeroValue137
 t146 := Tryz.underlying132
 a146 := Tryz.isAgg132
 z146 := Tryz.sizeOf132
 v146 := Tryz.zeroValue132
 t148 := Tryz.underlying135
 a148 := Tryz.isAgg135
 z148 := Tryz.sizeOf135
 v148 := Tryz.zeroValue135
 t164 := Tryz.underlying181
 a164 := Tryz.isAgg181
 z164 := Tryz.sizeOf181
 v164 := Tryz.zeroValue181 }
end Go.Proofs

set_option maxRecDepth 100000
namespace Go.Proofs.YthclifcpjnhmjaaGreatDoor
open Go Go.HL Go.Wk
theorem rep_extra : Go.Proofs.Builder.Extra Tryz.prog Tryz.lays105_ren := { sizeBuilder := by kernel_rfl, liesBuilder := by kernel_rfl, t5 := Tryz.underlying5, a5 := Tryz.isAgg5, z5 := Tryz.sizeOf5, v5 := Tryz.zeroValue5, infoByte := by kernel_rfl, cellsByte := by kernel_rfl, sizeByte := by kernel_rfl, neB5 := by decide }
theorem s_Repeat (s : ByteArray) (c : Nat) (hc : c <= 1000000) (hs : s.size * c <= 1000000) {σ : H} {K : KH} (hK : K (.string ⟨⟨Lib.repeatL s.data.toList c⟩⟩) σ) : callW Tryz.prog 11 [.string s, .int .i64 (c : Int)] K σ := by
 intro w hw
 refine callsIn_wide.2 ((Any.strings_Repeat Tryz.lays105 rep_extra s c w (by omega) (by omega)).mono ?_)
 rintro en w' ⟨rfl, hb⟩
 exact ⟨_, rfl, σ, ext_below hw hb, hK⟩
end Go.Proofs.YthclifcpjnhmjaaGreatDoor

set_option maxRecDepth 100000
namespace Go.Proofs.YthclifcpjnhmjaaGreatDoor
open Go Go.HL Go.Wk
attribute [local irreducible] ptrW ifW brW andW rdT alW letJ stW muW biW vaW imW callT cvalT app callW invW callVW sizeT oW nilF oneK loopW rfW funW begW roundK exW idxW Gr Put
theorem x_FmtInt (base : Nat) (hb : base = 10 \/ base = 16) (n : Int) (h1 : -1000000000000000 < n) (h2 : n < 1000000000000000) {σ : H} (hT : Tabs σ) {K : KH} (hK : K (.string (fmtP base n)) σ) : callW Tryz.prog 98 [.int .i64 n, .int .i64 ((base : Nat) : Int)] K σ := by
 rcases hb with rfl | rfl
 ·exact x_Fmt10 n h1 h2 hT hK
 ·refine c98 _ _ ?_
  unfold g98
  refine call_i (c145 _ _ ?_)
  unfold g145
  refine br_f (by decide) (call_i (x_fmtBits n h1 h2 hT ?_))
  (refine app_of rfl ?_; try dsimp only)
  exact app_S hK
theorem whole_rng {s : ByteArray} {n : Int} (h : wholeP s = some n) : -1000000000000000 < n /\ n < 1000000000000000 := by
 have hd : wholeP s = if (unsign s.data.toList).isEmpty || (decide ((unsign s.data.toList).length > 15) || !(unsign s.data.toList).all dig) then none else some (if headIs 45 s then -(numL (unsign s.data.toList) 0 : Int) else (numL (unsign s.data.toList) 0 : Int)) := rfl
 rw [hd] at h
 split at h
 ·cases h
 ·rename_i hc
  simp only [Bool.or_eq_true, not_or, decide_eq_true_eq, Bool.not_eq_true', Bool.not_eq_false] at hc
  obtain ⟨_, h2, h3⟩ := hc
  have hb := numL_lt (unsign s.data.toList) 0 h3
  have hb2 : 10 ^ (unsign s.data.toList).length <= 10 ^ 15 := Nat.pow_le_pow_right (by decide) (by omega)
  simp only [Option.some.injEq] at h
  split at h <;> omega
def PI (ρ τ : H) (bd bb ba bt : Nat) (s : PS) : Prop := ∃ D x, BuAt τ bb s.out.data.toList D /\ Off ρ τ D /\ (¬ D bd /\ ¬ D ba /\ ¬ D bt) /\ τ bd = some (.cells ⟨[.string ⟨⟨[]⟩⟩, .string s.err, .int .i64 s.st]⟩ 35 (0, 0)) /\ τ ba = some (.cells ⟨[.slice x.base x.len x.cap]⟩ 38 (0, 0)) /\ τ bt = some (.cells ⟨[.bool s.took]⟩ 4 (0, 0)) /\ RowsAt ρ 1 (strRows s.args) x /\ x.len <= x.cap /\ (ρ bd = none /\ ρ ba = none /\ ρ bt = none) /\ (bd ≠ ba /\ bd ≠ bt /\ ba ≠ bt)
section
variable {ρ τ : H} {bd bb ba bt : Nat} {s : PS}
theorem PI.gr (h : PI ρ τ bd bb ba bt s) : Gr ρ τ := by obtain ⟨D, x, _, h2, _⟩ := h; exact h2.1
theorem PI.add (h : PI ρ τ bd bb ba bt s) {b : Nat} {o : Obj} {τ' : H} (hg : Gr τ τ') (hn : τ b = none) (hb : τ' b = some o) : PI (ρ.put b o) τ' bd bb ba bt s := by
 obtain ⟨D, x, h1, h2, h3, h4, h5, h6, h7, h8, ⟨n1, n2, n3⟩, h10⟩ := h
 have hD : ¬ D b := fun hd => h1.has hd hn
 have hρ : ρ b = none := none_of h2.1 hn
 have q : ∀ c, τ c ≠ none -> c ≠ b := fun c hc e => hc (e ▸ hn)
 refine ⟨D, x, h1.gr hg, Off.add (h2.gr hg) hb hD, h3, hg.get h4, hg.get h5, hg.get h6, h7.gr (Gr.put hρ o), h8, ⟨?_, ?_, ?_⟩, h10⟩
 ·rw [H.put_other _ _ (q bd (by rw [h4]; simp))]; exact n1
 ·rw [H.put_other _ _ (q ba (by rw [h5]; simp))]; exact n2
 ·rw [H.put_other _ _ (q bt (by rw [h6]; simp))]; exact n3
theorem PI.sub {ρ' : H} (h : PI ρ' τ bd bb ba bt s) (hg : Gr ρ ρ') (hr : ∀ l x, RowsAt ρ' 1 (strRows l) x -> l = s.args -> RowsAt ρ 1 (strRows l) x) : PI ρ τ bd bb ba bt s := by
 obtain ⟨D, x, h1, h2, h3, h4, h5, h6, h7, h8, ⟨n1, n2, n3⟩, h10⟩ := h
 exact ⟨D, x, h1, h2.sub hg, h3, h4, h5, h6, hr _ _ h7 rfl, h8, ⟨none_of hg n1, none_of hg n2, none_of hg n3⟩, h10⟩
theorem s_next (h : PI ρ τ bd bb ba bt s) {K : KH} (hK : ∀ τ', PI ρ τ' bd bb ba bt s.next -> K (.tuple ⟨[.string s.a0, .bool (!s.args.isEmpty)]⟩) τ') : callW Tryz.prog 95 [.pointer (some ⟨bt, 0, none⟩), .pointer (some ⟨ba, 0, none⟩)] K τ := by
 refine c95 _ _ ?_
 unfold g95
 obtain ⟨D, x, h1, h2, ⟨d1, d2, d3⟩, h4, h5, h6, h7, h8, ⟨n1, n2, n3⟩, ⟨e1, e2, e3⟩⟩ := h
 refine st_i2 h6 sz_bool (by rfl) (by rfl) ?_; intro τ1 p1
 have k5 := p1.get e3 h5
 have hlen := sLen h7
 refine ptr_i (rd_L (rdC_of k5 (by rfl)) ?_)
 match hs : s.args, h7, hlen with
 | [], h7, hlen =>
  refine br_t (by rw [show x.len = 0 from hlen]; rfl) ?_
  have := hK τ1 ⟨D, x, h1.put p1 d3, h2.put p1 n3, ⟨d1, d2, d3⟩, p1.get e2 h4, k5, p1.same, by unfold PS.next; rw [hs]; exact h7, h8, ⟨n1, n2, n3⟩, ⟨e1, e2, e3⟩⟩
  unfold PS.a0 at this
  rw [hs] at this; exact this
 | a :: r, h7, hlen =>
  have hl1 : x.len = r.length + 1 := hlen
  obtain ⟨g, o, a1, a2, a3⟩ := sRow h7 (i := 0) rfl
  have a4 := rdC_gr (h2.put p1 n3).1 a3
  refine br_f (by rw [hl1]; simp only [beq_eq_false_iff_ne]; omega) (ptr_i (rd_L (rdC_of k5 (by rfl)) ?_))
  show ptrW x.base _ _
  rw [a1]
  refine ptr_i (if_i ⟨by decide, by show (0 : Int) < ((x.len : Nat) : Int); omega⟩ (rd_S a4 ?_))
  refine ptr_i (rd_L (rdC_of k5 (by rfl)) ?_)
  refine if_i ⟨bnd_none, bnd_some (by decide) (by show (1 : Int) <= ((x.len : Nat) : Int); omega)⟩ ?_
  refine st_i2 k5 sz_strs (by rfl) (by rfl) ?_; intro τ2 p2
  have := hK τ2 ⟨D, ⟨slBase x.base 1 x.cap 1, x.len - 1, x.cap - 1⟩, (h1.put p1 d3).put p2 d2, (h2.put p1 n3).put p2 n2, ⟨d1, d2, d3⟩, p2.get e1 (p1.get e2 h4), p2.same, p2.get (Ne.symm e3) p1.same, by unfold PS.next; rw [hs]; exact sTail h7 h8, by show x.len - 1 <= x.cap - 1; omega, ⟨n1, n2, n3⟩, ⟨e1, e2, e3⟩⟩
  unfold PS.a0 at this
  rw [hs] at this; exact this
theorem s_num (base : Nat) (hbs : base = 10 \/ base = 16) (nm : ByteArray) (h : PI ρ τ bd bb ba bt s) (hT : Tabs ρ) {bn b6 : Nat} {tool : List Value} {tt : TypeId} (hn : ρ bn = some (.cells ⟨[.func (.func 95) ⟨[]⟩ ⟨[.pointer (some ⟨bt, 0, none⟩), .pointer (some ⟨ba, 0, none⟩)]⟩]⟩ 143 (0, 0))) (h6 : ρ b6 = some (.cells ⟨.string nm :: tool⟩ tt (0, 0)))
 (z1 : s.a0.size <= 1000000000) (z2 : nm.size <= 1000000000) (z3 : s.err.size <= 1000000000) {K : KH} (hK : ∀ τ', PI ρ τ' bd bb ba bt (s.num nm) -> K (.string (fmtP base ((wholeP s.a0).getD 0))) τ') : callW Tryz.prog 96 [.int .i64 ((base : Nat) : Int), .pointer (some ⟨bn, 0, none⟩), .pointer (some ⟨bd, 0, none⟩), .pointer (some ⟨b6, 0, none⟩)] K τ := by
 refine c96 _ _ _ _ ?_
 unfold g96
 refine ptr_i (rd_R (rdC_of (h.gr.get hn) (by rfl)) (cval_i (by kernel_rfl) (s_next h ?_)))
 intro τ1 h1
 (refine app_of rfl ?_; try dsimp only)
 refine call_i (s_whole s.a0.data.toList (by rw [<- size_list]; exact z1) ?_)
 have e0 : (⟨⟨s.a0.data.toList⟩⟩ : ByteArray) = s.a0 := rfl
 rw [e0]
 (refine app_of rfl ?_; try dsimp only)
 refine j_i (fun j => ∀ τ', PI ρ τ' bd bb ba bt (s.num nm) -> j ((base : Nat) : Int) ((wholeP s.a0).getD 0) τ') ?_ ?_
 ·intro τ' h2
  refine call_i (x_FmtInt base hbs _ ?_ ?_ (hT.gr h2.gr) (app_S (hK τ' h2)))
  ·cases hw : wholeP s.a0 with
   | none => decide
   | some n => exact (whole_rng hw).1
  ·cases hw : wholeP s.a0 with
   | none => decide
   | some n => exact (whole_rng hw).2
 intro j hj
 refine j_i (fun j => ∀ b : Bool, b = (!s.args.isEmpty && (wholeP s.a0).isNone) -> j ((base : Nat) : Int) (some ⟨bd, 0, none⟩) (some ⟨b6, 0, none⟩) s.a0 ((wholeP s.a0).getD 0) b τ1) ?_ ?_
 case refine_2 =>
  intro j hj
  cases hc : s.args.isEmpty with
  | true => exact br_f rfl (hj _ (by rw [hc]; rfl))
  | false =>
   refine br_t rfl (hj _ ?_)
   rw [hc]
   cases wholeP s.a0 <;> rfl
 intro b hb
 cases b with
 | false =>
  refine br_f rfl (hj τ1 ?_)
  have : s.num nm = s.next := by
   unfold PS.num
   cases hw : wholeP s.a0 with
   | some n => rfl
   | none =>
    rw [hw] at hb
    have : s.args.isEmpty = true := by
     cases hc : s.args.isEmpty with
     | true => rfl
     | false => rw [hc] at hb; cases hb
    simp only [this]; rfl
  rw [this]; exact h1
 | true =>
  have hb' := hb.symm
  rw [Bool.and_eq_true, Option.isNone_iff_eq_none] at hb'
  obtain ⟨hc, hw⟩ := hb'
  have hc' : s.args.isEmpty = false := by simpa using hc
  have hnum : s.num nm = { s.next with err := s.err ++ errP nm s.a0, st := 1 } := by
   unfold PS.num
   rw [hw]; simp only [hc']; rfl
  rw [hnum] at hj
  obtain ⟨D, x, q1, q2, ⟨d1, d2, d3⟩, q4, q5, q6, q7, q8, ⟨n1, n2, n3⟩, ⟨e1, e2, e3⟩⟩ := h1
  have k6 := q2.get h6
  refine br_t rfl (ptr_i (rd_S (rdC_of q4 (by rfl)) (ptr_i (rd_S (rdC_of k6 (by rfl)) ?_))))
  have c2 : (⟨⟨[58, 32]⟩⟩ : ByteArray).size = 2 := rfl
  have c4 : (⟨⟨[58, 32, 50, 10]⟩⟩ : ByteArray).size = 4 := rfl
  have ze : s.next.err.size <= 1000000000 := z3
  refine if_i (by rw [c2]; omega) (if_i (by rw [ByteArray.size_append, c2]; omega) (if_i (by rw [ByteArray.size_append, ByteArray.size_append, c2, c4]; omega) (if_i (by rw [ByteArray.size_append, ByteArray.size_append, ByteArray.size_append, c2, c4]; omega) (ptr_i ?_))))
  refine st_i2 q4 sz_string (by rfl) (by rfl) ?_; intro τ2 p2
  refine ptr_i (st_i2 p2.same sz_int (by rfl) (by rfl) ?_); intro τ3 p3
  exact hj τ3 ⟨D, x, (q1.put p2 d1).put p3 d1, (q2.put p2 n1).put p3 n1, ⟨d1, d2, d3⟩, p3.same, p3.get (Ne.symm e1) (p2.get (Ne.symm e1) q5), p3.get (Ne.symm e2) (p2.get (Ne.symm e2) q6), q7, q8, ⟨n1, n2, n3⟩, ⟨e1, e2, e3⟩⟩
end
end Go.Proofs.YthclifcpjnhmjaaGreatDoor

set_option maxRecDepth 100000
namespace Go.Wk
open Go Go.HL
def consP (p : Pc) : Bool := p.kind == 115 || (p.kind == 100 || (p.kind == 120 || p.kind == 99))
theorem num_f (nm : ByteArray) (s : PS) : (s.num nm).args = s.args.drop 1 /\ (s.num nm).took = true /\ (s.num nm).out = s.out /\ (s.num nm).err.size <= s.err.size + nm.size + s.a0.size + 6 := by
 unfold PS.num
 have he : ∀ a b : ByteArray, (s.err ++ errP a b).size = s.err.size + a.size + b.size + 6 := by
  intro a b
  unfold errP
  rw [ByteArray.size_append, ByteArray.size_append, ByteArray.size_append, ByteArray.size_append]
  show _ + (_ + 2 + _ + 4) = _
  omega
 cases wholeP s.a0 with
 | some n => exact ⟨rfl, rfl, rfl, by show s.err.size <= _; omega⟩
 | none =>
  simp only
  split
  ·exact ⟨rfl, rfl, rfl, by show s.err.size <= _; omega⟩
  ·exact ⟨rfl, rfl, rfl, by show (s.err ++ errP nm s.a0).size <= _; rw [he]; exact Nat.le_refl _⟩
theorem spaces_size (n : Nat) : (spaces n).size = n := by
 show (List.replicate n (32 : UInt8)).length = n; simp
theorem put_out (s : PS) (p : Pc) (x : ByteArray) : (s.put p x).out.size <= s.out.size + x.size + p.width := by
 unfold PS.put
 show (s.out ++ _ : ByteArray).size <= _
 rw [ByteArray.size_append]
 split <;> rw [ByteArray.size_append, spaces_size] <;> omega
theorem fmtL_len (b : Nat) : ∀ (f n : Nat) (acc : List UInt8), (fmtL b f n acc).length <= f + acc.length := by
 intro f
 induction f with
 | zero => intro n acc; show acc.length <= _; omega
 | succ f ih =>
  intro n acc
  rw [fmtL]
  split
  ·simp only [List.length_cons]; omega
  ·have := ih (n / b) (digitL (n % b) :: acc)
   simp only [List.length_cons] at this; omega
theorem fmtP_size (b : Nat) (n : Int) : (fmtP b n).size <= 65 := by
 unfold fmtP
 show (if n < 0 then _ else _ : List UInt8).length <= 65
 have := fmtL_len b 64 n.natAbs []
 split <;> simp only [List.length_cons, List.length_nil] at * <;> omega
structure PB (k : Nat) (s : PS) : Prop where
 out : s.out.size <= 3000 * k
 err : s.err.size <= 3000 * k
 args : ∀ a ∈ s.args, a.size <= 1000
theorem PB.a0 {k : Nat} {s : PS} (h : PB k s) : s.a0.size <= 1000 := by
 unfold PS.a0
 cases hs : s.args with
 | nil => decide
 | cons a r => exact h.args a (by rw [hs]; exact List.mem_cons_self ..)
structure PcOk (p : Pc) : Prop where
 text : p.text.size <= 1000
 width : p.width <= 99
theorem piece_ok {nm : ByteArray} (hn : nm.size <= 1000) {k : Nat} {s : PS} (h : PB k s) {p : Pc} (hp : PcOk p) :
 PB (k + 1) (PS.piece nm s p) /\ (PS.piece nm s p).args = (if consP p then s.args.drop 1 else s.args) /\ (PS.piece nm s p).took = (s.took || consP p) := by
 have h0 := h.a0
 obtain ⟨h1, h2, h3⟩ := h
 have hd : ∀ a ∈ s.args.drop 1, a.size <= 1000 := fun a ha => h3 a (List.mem_of_mem_drop ha)
 obtain ⟨n1, n2, n3, n4⟩ := num_f nm s
 have hw := hp.width
 have ht := hp.text
 have mk : ∀ (s' : PS) (x : ByteArray), s'.out = s.out -> s'.err.size <= 3000 * (k + 1) -> (∀ a ∈ s'.args, a.size <= 1000) -> x.size <= 1000 -> PB (k + 1) (s'.put p x) := by
  intro s' x e1 e2 e3 e4
  refine ⟨?_, e2, e3⟩
  have := put_out s' p x
  rw [e1] at this
  omega
 unfold PS.piece consP
 cases c1 : p.kind == 115 with
 | true => exact ⟨mk s.next _ rfl (by show s.err.size <= _; omega) hd h0, rfl, by simp [PS.put, PS.next]⟩
 | false =>
  cases c2 : p.kind == 100 with
  | true => exact ⟨mk _ _ n3 (by omega) (by rw [n1]; exact hd) (by have := fmtP_size 10 ((wholeP s.a0).getD 0); omega), by simp [PS.put, n1], by simp [PS.put, n2]⟩
  | false =>
   cases c3 : p.kind == 120 with
   | true => exact ⟨mk _ _ n3 (by omega) (by rw [n1]; exact hd) (by have := fmtP_size 16 ((wholeP s.a0).getD 0); omega), by simp [PS.put, n1], by simp [PS.put, n2]⟩
   | false =>
    cases c4 : p.kind == 99 with
    | true => exact ⟨mk s.next _ rfl (by show s.err.size <= _; omega) hd (by rw [ByteArray.size_extract]; omega), rfl, by simp [PS.put, PS.next]⟩
    | false => exact ⟨mk s _ rfl (by omega) h3 ht, rfl, by simp [PS.put]⟩
theorem pass_ok {nm : ByteArray} (hn : nm.size <= 1000) : ∀ (form : List Pc) (k : Nat) (s : PS), PB k s -> (∀ p ∈ form, PcOk p) ->
 PB (k + form.length) (s.pass nm form) /\ (s.pass nm form).args = s.args.drop (form.countP consP) /\ (s.pass nm form).took = (s.took || form.any consP) := by
 intro form
 induction form with
 | nil => intro k s h _; exact ⟨h, by simp [PS.pass], by simp [PS.pass]⟩
 | cons p r ih =>
  intro k s h hp
  obtain ⟨h1, h2, h3⟩ := piece_ok hn h (hp p (List.mem_cons_self ..))
  obtain ⟨a1, a2, a3⟩ := ih (k + 1) (PS.piece nm s p) h1 fun q hq => hp q (List.mem_cons_of_mem _ hq)
  have e : s.pass nm (p :: r) = (PS.piece nm s p).pass nm r := rfl
  rw [e]
  refine ⟨by rw [List.length_cons, show k + (r.length + 1) = k + 1 + r.length by omega]; exact a1, ?_, ?_⟩
  ·rw [a2, h2, List.countP_cons]
   cases consP p
   ·simp
   ·simp [Nat.add_comm]
  ·rw [a3, h3, List.any_cons, Bool.or_assoc]
theorem pass_less {nm : ByteArray} (hn : nm.size <= 1000) {form : List Pc} {k : Nat} {s : PS} (h : PB k s) (hp : ∀ p ∈ form, PcOk p) (ht : s.took = true -> form.any consP = true) (h1 : (s.pass nm form).took = true) (h2 : (s.pass nm form).args ≠ []) :
 (s.pass nm form).args.length < s.args.length /\ form.any consP = true := by
 obtain ⟨_, a2, a3⟩ := pass_ok hn form k s h hp
 have hany : form.any consP = true := by
  rw [a3] at h1
  rcases Bool.or_eq_true _ _ ▸ h1 with h | h
  ·exact ht h
  ·exact h
 have hc : 1 <= form.countP consP := by
  obtain ⟨p, hp1, hp2⟩ := List.any_eq_true.1 hany
  exact List.countP_pos_iff.2 ⟨p, hp1, hp2⟩
 refine ⟨?_, hany⟩
 rw [a2] at h2 ⊢
 rw [List.length_drop]
 have : s.args ≠ [] := by intro e; rw [e] at h2; simp at h2
 have := List.length_pos_iff.2 this
 omega
theorem gdig_w : ∀ (f k w : Nat) (l : List UInt8), w < 10 ^ k -> (gdig f k w l).1 < 10 ^ (k + f) := by
 intro f
 induction f with
 | zero => intro k w l h; exact h
 | succ f ih =>
  intro k w l h
  cases l with
  | nil => exact Nat.lt_of_lt_of_le h (Nat.pow_le_pow_right (by decide) (by omega))
  | cons c r =>
   show (if dig c && (Nat.ble 1 k || !(c == 48)) then gdig f (k + 1) (10 * w + (c.toNat - 48)) r else (w, k, c :: r)).1 < _
   split
   ·rename_i hc
    have hd := dig_rng (Bool.and_eq_true .. ▸ hc).1
    have := ih (k + 1) (10 * w + (c.toNat - 48)) r (by rw [Nat.pow_succ]; omega)
    rw [show k + (f + 1) = k + 1 + f by omega]; exact this
   ·exact Nat.lt_of_lt_of_le h (Nat.pow_le_pow_right (by decide) (by omega))
theorem argP_ok {l : List UInt8} {p : Pc} {r : List UInt8} (h : argP l = some (p, r)) : PcOk p := by
 have key : ∀ b m, argT b (digsP m) = some (p, r) -> PcOk p := by
  intro b m h
  have hw := gdig_w 2 0 0 m (by decide)
  unfold argT at h
  unfold digsP at h
  split at h
  ·cases h
  ·split at h
   ·cases h
   ·cases h
    exact ⟨by show (0 : Nat) <= 1000; decide, by show (gdig 2 0 0 m).1 <= 99; omega⟩
 unfold argP at h
 split at h
 ·exact key _ _ h
 ·exact key _ _ h
theorem escP_size (c : UInt8) : (escP c).size <= 2 := by
 unfold escP
 split
 ·decide
 ·split
  ·decide
  ·split
   ·decide
   ·exact Nat.le_refl 2
theorem lit_ok {s : ByteArray} (h : s.size <= 1000) : PcOk (litP s) := ⟨h, by show (0 : Nat) <= 99; decide⟩
theorem pieces_ok : ∀ (f : Nat) (l : List UInt8) (ps : List Pc), piecesP f l = some ps -> (∀ p ∈ ps, PcOk p) /\ ps.length <= f := by
 intro f
 induction f with
 | zero =>
  intro l ps h
  cases l with
  | nil => cases h; simp
  | cons => cases h
 | succ f ih =>
  intro l ps h
  cases l with
  | nil => cases h; simp
  | cons c r =>
   have go : ∀ (p : Pc) (o : Option (List Pc)), PcOk p -> (∀ qs, o = some qs -> (∀ q ∈ qs, PcOk q) /\ qs.length <= f) -> o.map (p :: ·) = some ps -> (∀ p ∈ ps, PcOk p) /\ ps.length <= f + 1 := by
    intro p o hp ho he
    cases o with
    | none => cases he
    | some qs =>
     obtain ⟨h1, h2⟩ := ho qs rfl
     cases he
     refine ⟨fun q hq => ?_, by simp only [List.length_cons]; omega⟩
     rcases List.mem_cons.1 hq with e | e
     ·rw [e]; exact hp
     ·exact h1 q e
   unfold piecesP at h
   split at h
   ·split at h
    ·cases h
    ·exact go _ _ (lit_ok (Nat.le_trans (escP_size _) (by decide))) (fun qs hq => ih _ qs hq) h
   ·split at h
    ·split at h
     ·exact go _ _ (lit_ok (by decide)) (fun qs hq => ih _ qs hq) h
     ·split at h
      ·cases h
      ·rename_i ha
       exact go _ _ (argP_ok ha) (fun qs hq => ih _ qs hq) h
    ·exact go _ _ (lit_ok (by show (1 : Nat) <= 1000; decide)) (fun qs hq => ih _ qs hq) h
end Go.Wk

set_option maxRecDepth 100000
namespace Go.Proofs.YthclifcpjnhmjaaGreatDoor
open Go Go.HL Go.Wk
attribute [local irreducible] ptrW ifW brW andW rdT alW letJ stW muW biW vaW imW callT cvalT app callW invW callVW sizeT oW nilF oneK loopW rfW funW begW roundK exW idxW Gr Put
def dnV (d : Dn) : List Value := [.string d.out, .string d.err, .int .i64 d.st]
theorem sz_Done : sizeT Tryz.prog 35 = some 3 := by kernel_rfl
theorem sz_nextF : sizeT Tryz.prog 143 = some 1 := by kernel_rfl
section
variable {σ : H}
theorem s_usage (nm inn cwd : ByteArray) (x : Sl) (p : Option Addr) (hn : nm.size <= 1000000000) {K : KH} (hK : K (.agg ⟨dnV (usageP nm)⟩) σ) : callW Tryz.prog 93 [.agg ⟨[.string nm, .slice x.base x.len x.cap, .string inn, .string cwd, .pointer p]⟩] K σ := by
 refine pure_i _ hK (c93 _ _ _ _ _ ?_)
 clear hK
 unfold g93
 refine al_i ?_; intro b6 σ1 g1 e1 n1
 refine al_i ?_; intro b7 σ2 g2 e2 n2
 refine rd_S (rdC_of (g2.get e1) (by rfl)) (if_i (by show nm.size + 8 <= _; omega) ?_)
 refine st_i2 e2 sz_Done (by rfl) (by rfl) ?_; intro σ3 p3
 refine rd_G (rdA_of' p3.same (by rfl)) ?_
 (refine app_of rfl ?_; try dsimp only)
 exact ⟨rfl, (g1.trans g2).putF p3 (none_of g1 n2)⟩
theorem s_yes (nm inn cwd : ByteArray) (x : Sl) (p : Option Addr) {K : KH} (hK : K (.agg ⟨dnV yesP⟩) σ) : callW Tryz.prog 46 [.agg ⟨[.string nm, .slice x.base x.len x.cap, .string inn, .string cwd, .pointer p]⟩] K σ := by
 refine pure_i _ hK (c46 _ _ _ _ _ ?_)
 clear hK
 unfold g46
 refine al_i ?_; intro b6 σ1 g1 e1 n1
 refine al_i ?_; intro b7 σ2 g2 e2 n2
 refine st_i2 e2 sz_Done (by rfl) (by rfl) ?_; intro σ3 p3
 refine rd_G (rdA_of' p3.same (by rfl)) ?_
 (refine app_of rfl ?_; try dsimp only)
 exact ⟨rfl, (g1.trans g2).putF p3 (none_of g1 n2)⟩
theorem s_no (nm inn cwd : ByteArray) (x : Sl) (p : Option Addr) {K : KH} (hK : K (.agg ⟨dnV noP⟩) σ) : callW Tryz.prog 47 [.agg ⟨[.string nm, .slice x.base x.len x.cap, .string inn, .string cwd, .pointer p]⟩] K σ := by
 refine pure_i _ hK (c47 _ _ _ _ _ ?_)
 clear hK
 unfold g47
 refine al_i ?_; intro b6 σ1 g1 e1 n1
 refine al_i ?_; intro b7 σ2 g2 e2 n2
 refine st_i2 e2 sz_Done (by rfl) (by rfl) ?_; intro σ3 p3
 refine rd_G (rdA_of' p3.same (by rfl)) ?_
 (refine app_of rfl ?_; try dsimp only)
 exact ⟨rfl, (g1.trans g2).putF p3 (none_of g1 n2)⟩
theorem rep_sp (k : Nat) : (⟨⟨Lib.repeatL (⟨⟨[32]⟩⟩ : ByteArray).data.toList k⟩⟩ : ByteArray) = spaces k := by
 unfold spaces
 congr 2
 show Lib.repeatL [32] k = List.replicate k 32
 induction k with
 | zero => rfl
 | succ k ih =>
  rw [List.replicate_succ, <- ih]; rfl
theorem pad_n {w n : Nat} (h1 : w <= 99) (h2 : n <= 1000) : (if 0 > (IntKind.i64.wrap (((w : Nat) : Int) - ((n : Nat) : Int))) then 0 else (IntKind.i64.wrap (((w : Nat) : Int) - ((n : Nat) : Int)))) = ((w - n : Nat) : Int) := by
 rw [wrap_id (by omega) (by omega)]
 split <;> omega
theorem min_1 (n : Nat) : (if 1 < ((n : Nat) : Int) then (1 : Int) else ((n : Nat) : Int)) = ((min n 1 : Nat) : Int) := by split <;> omega
theorem s_printf (nm inn cwd : ByteArray) (p : Option Addr) {x : Sl} {args : List ByteArray} (hx : RowsAt σ 1 (strRows args) x) (hc : x.len <= x.cap) (hT : Tabs σ) (hn : nm.size <= 1000) (ha : ∀ a ∈ args, a.size <= 1000) (hl : args.length <= 20) {K : KH} (hK : ∀ σ', Gr σ σ' -> K (.agg ⟨dnV (printfP nm args)⟩) σ') :
 callW Tryz.prog 49 [.agg ⟨[.string nm, .slice x.base x.len x.cap, .string inn, .string cwd, .pointer p]⟩] K σ := by
 refine c49 _ _ _ _ _ ?_
 unfold g49
 refine al_i ?_; intro b6 σ1 g1 e1 n1
 refine al_i ?_; intro b7 σ2 g2 e2 n2
 have k6 := g2.get e1
 have G2 := g1.trans g2
 have hlen := sLen hx
 refine rd_L (rdC_of k6 (by rfl)) ?_
 match args, hx, hlen, ha, hl, hK with
 | [], hx, hlen, ha, hl, hK =>
  refine br_t (by show ((x.len : Nat) : Int) == 0; rw [hlen]; rfl) (rd_G (rdA_of' k6 (by rfl)) ?_)
  (refine app_of rfl ?_; try dsimp only)
  refine call_i (s_usage nm inn cwd x p (by omega) ?_)
  unfold dnV
  (refine app_of rfl ?_; try dsimp only)
  refine st_i2 e2 sz_Done (by rfl) (by rfl) ?_; intro σ3 p3
  refine rd_G (rdA_of' p3.same (by rfl)) ?_
  (refine app_of rfl ?_; try dsimp only)
  exact hK σ3 (G2.putF p3 (none_of g1 n2))
 | a :: r, hx, hlen, ha, hl, hK =>
  have hl1 : x.len = r.length + 1 := hlen
  obtain ⟨g, o, a1, a2, a3⟩ := sRow hx (i := 0) rfl
  have hal := ha a (List.mem_cons_self ..)
  refine br_f (by show (((x.len : Nat) : Int) == 0) = false; rw [hl1]; simp only [beq_eq_false_iff_ne]; omega) (rd_L (rdC_of k6 (by rfl)) ?_)
  show ptrW x.base _ _
  rw [a1]
  refine ptr_i (if_i ⟨by decide, by show (0 : Int) < ((x.len : Nat) : Int); omega⟩ (rd_S (rdC_gr G2 a3) ?_))
  rw [printfP_cons] at hK
  refine call_i (s_pieces a.data.toList (by rw [<- size_list]; omega) ?_ ?_)
  ·intro hps σ3 g3
   have hK := hK
   rw [show piecesP a.size a.data.toList = none from by rw [size_list]; exact hps] at hK
   (refine app_of rfl ?_; try dsimp only)
   refine br_t rfl (rd_G (rdA_of' (g3.get k6) (by rfl)) ?_)
   (refine app_of rfl ?_; try dsimp only)
   refine call_i (s_usage nm inn cwd x p (by omega) ?_)
   unfold dnV
   (refine app_of rfl ?_; try dsimp only)
   refine st_i2 (g3.get e2) sz_Done (by rfl) (by rfl) ?_; intro σ4 p4
   refine rd_G (rdA_of' p4.same (by rfl)) ?_
   (refine app_of rfl ?_; try dsimp only)
   exact hK σ4 ((G2.trans g3).putF p4 (none_of g1 n2))
  ·intro ps hps y σ3 hy
   rw [show piecesP a.size a.data.toList = some ps from by rw [size_list]; exact hps] at hK
   obtain ⟨hpo, hpl⟩ := pieces_ok _ _ _ hps
   rw [<- size_list] at hpl
   have g3 := hy.1
   have G3 := G2.trans g3
   (refine app_of rfl ?_; try dsimp only)
   refine br_f rfl ?_
   refine al_i ?_; intro b37 σ4 g4 e4 n4
   refine al_i ?_; intro b38 σ5 g5 e5 n5
   refine rd_L (rdC_of (g5.get (g4.get (g3.get k6))) (by rfl)) ?_
   refine if_i ⟨bnd_none, bnd_some (by decide) (by show (1 : Int) <= ((x.len : Nat) : Int); omega)⟩ ?_
   refine al_i ?_; intro b40 σ6 g6 e6 n6
   refine al_i ?_; intro b41 σ7 g7 e7 n7
   refine st_i2 (g7.get e6) sz_strs (by rfl) (by rfl) ?_; intro σ8 p8
   refine st_i2 (p8.get (Ne.symm (ne_fr n7 (isSome_of e6))) e7) sz_bool (by rfl) (by rfl) ?_; intro σ9 p9
   have d1 : b37 ≠ b40 := ne_fr n6 (isSome_of (g5.get e4))
   have d2 : b37 ≠ b41 := ne_fr n7 (isSome_of (g6.get (g5.get e4)))
   have d3 : b40 ≠ b41 := ne_fr n7 (isSome_of e6)
   have d4 : b38 ≠ b40 := ne_fr n6 (isSome_of e5)
   have d5 : b38 ≠ b41 := ne_fr n7 (isSome_of (g6.get e5))
   have d6 : b37 ≠ b38 := ne_fr n5 (isSome_of e4)
   have n40 : σ3 b40 = none := none_of (g4.trans g5) n6
   have n41 : σ3 b41 = none := none_of ((g4.trans g5).trans g6) n7
   have n38 : σ3 b38 = none := none_of g4 n5
   have q40 := p9.get d3 p8.same
   have q37 : σ9 b37 = some (.cells ⟨[.string ⟨⟨[]⟩⟩, .string ⟨⟨[]⟩⟩, .int .i64 0]⟩ 35 (0, 0)) := p9.get d2 (p8.get d1 (g7.get (g6.get (g5.get e4))))
   have q38 : σ9 b38 = some (.cells ⟨[.pointer none, .slice none 0 0]⟩ 69 (0, 0)) := p9.get d5 (p8.get d4 (g7.get (g6.get e5)))
   have G9 : Gr σ3 σ9 := ((((g4.trans g5).trans g6).trans g7).putF p8 n40).putF p9 n41
   have hx' : RowsAt σ3 1 (strRows r) ⟨slBase x.base 1 x.cap 1, x.len - 1, x.cap - 1⟩ := sTail (hx.gr G3) hc
   have PI9 : PI σ3 σ9 b37 b38 b40 b41 ⟨r, false, ⟨⟨[]⟩⟩, 0, ⟨⟨[]⟩⟩⟩ := by
    refine ⟨fun c => c = b38, ⟨slBase x.base 1 x.cap 1, x.len - 1, x.cap - 1⟩, BuAt.new q38, Off.new G9 (fun c hcD => by subst hcD; exact n38), ⟨d6, Ne.symm d4, Ne.symm d5⟩, q37, q40, p9.same, hx', by show x.len - 1 <= x.cap - 1; omega, ⟨n4, n40, n41⟩, ⟨d1, d2, d3⟩⟩
   refine al_i ?_; intro b42 σ10 g10 e10 n10
   refine st_i2 e10 sz_nextF (by rfl) (by rfl) ?_; intro σ11 p11
   have PI0 := PI9.add (g10.putF p11 n10) n10 p11.same
   generalize hρ : σ3.put b42 _ = ρ at PI0
   have gρ : Gr σ3 ρ := by rw [<- hρ]; exact Gr.put (none_of G9 n10) _
   have h42 : ρ b42 = some (.cells ⟨[.func (.func 95) ⟨[]⟩ ⟨[.pointer (some ⟨b41, 0, none⟩), .pointer (some ⟨b40, 0, none⟩)]⟩]⟩ 143 (0, 0)) := by rw [<- hρ]; exact H.put_same _ _ _
   have h6 := gρ.get (g3.get k6)
   have h7 := gρ.get (g3.get e2)
   have hy' : RowsAt ρ 4 (pcRows ps) y := hy.at.gr gρ
   have hTρ : Tabs ρ := (hT.gr G3).gr gρ
   have hyl : y.len = ps.length := by rw [hy.at.1, pcRows_len]
   clear hρ PI9 e10 p11 p9 p8 q40 q37 q38 G9 hx'
   refine loop_i ?_
   intro R hR
   have fin : ∀ (s : PS) (τ : H) (k : Nat), (∃ ρ', Gr ρ ρ' /\ PI ρ' τ b37 b38 b40 b41 s) -> PB k s -> k <= 1000000 -> formR nm r (some ps) = ⟨s.out, s.err, s.st⟩ -> R (some ⟨b7, 0, none⟩) y (some ⟨b37, 0, none⟩) (some ⟨b38, 0, none⟩) (some ⟨b40, 0, none⟩) (some ⟨b41, 0, none⟩) (some ⟨b42, 0, none⟩) (.func (.func 96) ⟨[]⟩ ⟨[.pointer (some ⟨b42, 0, none⟩), .pointer (some ⟨b37, 0, none⟩), .pointer (some ⟨b6, 0, none⟩)]⟩) false τ := by
    intro s τ k hPI hB hk hS
    refine hR _ _ _ _ _ _ _ _ _ _ ?_
    refine br_f rfl ?_
    obtain ⟨ρ', gρ', D, z, q1, q2, ⟨q3, _, _⟩, q4, _, _, _, _, ⟨m1, _, _⟩, _⟩ := hPI
    replace m1 := none_of gρ' m1
    replace q2 := q2.sub gρ'
    refine call_i (s_BuStr q1 (by rw [<- size_list]; have := hB.out; omega) ?_)
    intro τ1 hs1
    have w4 := hs1 _ _ q4 q3
    have gρ1 : Gr ρ τ1 := by
     unfold Gr; intro c o hc2; exact hs1 c o (q2.get hc2) (q2.2 c o hc2)
    refine app_S (ptr_i ?_)
    refine st_i2 w4 sz_string (by rfl) (by rfl) ?_; intro τ2 p2
    refine ptr_i (rd_G (rdA_of' p2.same (by rfl)) ?_)
    (refine app_of rfl ?_; try dsimp only)
    refine st_i2 ((gρ1.putF p2 m1).get h7) sz_Done (by rfl) (by rfl) ?_; intro τ3 p3
    refine ptr_i (rd_G (rdA_of' p3.same (by rfl)) ?_)
    (refine app_of rfl ?_; try dsimp only)
    have hK2 := hK τ3 (((G3.trans gρ).trans (gρ1.putF p2 m1)).putF p3 (none_of g1 n2))
    rw [hS] at hK2
    exact hK2
   have key : ∀ (f : Nat) (s : PS) (τ : H) (k : Nat), s.args.length < f -> f <= 21 -> (∃ ρ', Gr ρ ρ' /\ PI ρ' τ b37 b38 b40 b41 s) -> PB k s -> k <= (21 - f) * 1000 -> (s.took = true -> ps.any consP = true) -> formR nm r (some ps) = ⟨(PS.loop nm ps f s).out, (PS.loop nm ps f s).err, (PS.loop nm ps f s).st⟩ -> R (some ⟨b7, 0, none⟩) y (some ⟨b37, 0, none⟩) (some ⟨b38, 0, none⟩) (some ⟨b40, 0, none⟩) (some ⟨b41, 0, none⟩) (some ⟨b42, 0, none⟩) (.func (.func 96) ⟨[]⟩ ⟨[.pointer (some ⟨b42, 0, none⟩), .pointer (some ⟨b37, 0, none⟩), .pointer (some ⟨b6, 0, none⟩)]⟩) true τ := by
    intro f
    induction f with
    | zero => intro s τ k h; cases h
    | succ f ih =>
     intro s τ k hsl hf hPI hB hk htk hS
     refine hR _ _ _ _ _ _ _ _ _ _ ?_
     refine br_t rfl ?_
     have hps1 : ps.length <= 1000 := by omega
     have hpass := pass_ok hn ps k s hB hpo
     have after : ∀ (τ' : H), (∃ ρ', Gr ρ ρ' /\ PI ρ' τ' b37 b38 b40 b41 (s.pass nm ps)) -> ptrW (some ⟨b41, 0, none⟩) (fun (b122 o123 : Nat) => rdT (rdC b122 o123) kB (fun (x124 : Bool) => brW x124 (ptrW (some ⟨b40, 0, none⟩) (fun (b125 o126 : Nat) => rdT (rdC b125 o126) kL (fun (x127 : Sl) => R (some ⟨b7, 0, none⟩) y (some ⟨b37, 0, none⟩) (some ⟨b38, 0, none⟩) (some ⟨b40, 0, none⟩) (some ⟨b41, 0, none⟩) (some ⟨b42, 0, none⟩) (.func (.func 96) ⟨[]⟩ ⟨[.pointer (some ⟨b42, 0, none⟩), .pointer (some ⟨b37, 0, none⟩), .pointer (some ⟨b6, 0, none⟩)]⟩) (decide ((((x127.len : Nat) : Int) : Int) > 0))))) (R (some ⟨b7, 0, none⟩) y (some ⟨b37, 0, none⟩) (some ⟨b38, 0, none⟩) (some ⟨b40, 0, none⟩) (some ⟨b41, 0, none⟩) (some ⟨b42, 0, none⟩) (.func (.func 96) ⟨[]⟩ ⟨[.pointer (some ⟨b42, 0, none⟩), .pointer (some ⟨b37, 0, none⟩), .pointer (some ⟨b6, 0, none⟩)]⟩) false))) τ' := by
      intro τ' hP'
      have hP2 := hP'
      obtain ⟨ρ', gρ', D, z, q1, q2, _, _, q5, q6, q7, _⟩ := hP'
      have hzl := sLen q7
      have hL : PS.loop nm ps (f + 1) s = if (s.pass nm ps).took && !(s.pass nm ps).args.isEmpty then PS.loop nm ps f (s.pass nm ps) else s.pass nm ps := rfl
      refine ptr_i (rd_B (rdC_of q6 (by rfl)) ?_)
      cases htk1 : (s.pass nm ps).took with
      | false =>
       rw [htk1, Bool.false_and, if_neg (by simp)] at hL
       rw [hL] at hS
       exact br_f rfl (fin _ τ' (k + ps.length) hP2 hpass.1 (by omega) hS)
      | true =>
       rw [htk1, Bool.true_and] at hL
       refine br_t rfl (ptr_i (rd_L (rdC_of q5 (by rfl)) ?_))
       cases hargs : (s.pass nm ps).args with
       | nil =>
        rw [hargs, if_neg (by simp)] at hL
        rw [hL] at hS
        have : decide ((((z.len : Nat) : Int) : Int) > 0) = false := by rw [hzl, hargs]; rfl
        show R _ _ _ _ _ _ _ _ (decide ((((z.len : Nat) : Int) : Int) > 0)) τ'
        rw [this]
        exact fin _ τ' (k + ps.length) hP2 hpass.1 (by omega) hS
       | cons c cs =>
        rw [hargs, if_pos (by simp)] at hL
        rw [hL] at hS
        have : decide ((((z.len : Nat) : Int) : Int) > 0) = true := by rw [hzl, hargs, decide_eq_true_eq, List.length_cons]; omega
        show R _ _ _ _ _ _ _ _ (decide ((((z.len : Nat) : Int) : Int) > 0)) τ'
        rw [this]
        obtain ⟨l1, l2⟩ := pass_less hn hB hpo htk htk1 (by rw [hargs]; simp)
        refine ih (s.pass nm ps) τ' (k + ps.length) (by omega) (by omega) hP2 hpass.1 ?_ (fun _ => l2) hS
        rw [show 21 - f = (21 - (f + 1)) + 1 by omega, Nat.add_mul]; omega
     refine loop_i ?_
     intro R2 hR2
     have key2 : ∀ (c i : Nat) (s' : PS) (τ' : H), c + i = ps.length -> s' = (ps.take i).foldl (PS.piece nm) s -> (∃ ρ', Gr ρ ρ' /\ PI ρ' τ' b37 b38 b40 b41 s') -> PB (k + i) s' -> R2 (some ⟨b7, 0, none⟩) y (some ⟨b37, 0, none⟩) (some ⟨b38, 0, none⟩) (some ⟨b40, 0, none⟩) (some ⟨b41, 0, none⟩) (some ⟨b42, 0, none⟩) (.func (.func 96) ⟨[]⟩ ⟨[.pointer (some ⟨b42, 0, none⟩), .pointer (some ⟨b37, 0, none⟩), .pointer (some ⟨b6, 0, none⟩)]⟩) y ((y.len : Nat) : Int) (i : Int) τ' := by
      intro c
      induction c with
      | zero =>
       intro i s' τ' hci hs' hP' hB'
       refine hR2 _ _ _ _ _ _ _ _ _ _ _ _ ?_
       refine br_f (by simp only [decide_eq_false_iff_not]; omega) (after τ' ?_)
       rw [List.take_of_length_le (by omega)] at hs'
       rw [hs'] at hP'; exact hP'
      | succ c ih2 =>
       intro i s' τ' hci hs' ⟨ρ1, gρ1, hP'⟩ hB'
       obtain ⟨pc, hpc⟩ : ∃ pc, ps[i]? = some pc := ⟨_, List.getElem?_eq_getElem (by omega)⟩
       have hpk := hpo pc (List.mem_of_getElem? hpc)
       obtain ⟨gy, oy, y1, y2, _⟩ := hy'.rdA (i := i) (r := pcV pc) (by unfold pcRows; rw [List.getElem?_map, hpc]; rfl) (by decide)
       have y3 := rdA_gr (gρ1.trans hP'.gr) y2
       refine hR2 _ _ _ _ _ _ _ _ _ _ _ _ ?_
       refine br_t (by simp only [decide_eq_true_eq]; omega) ?_
       rw [y1]
       refine ptr_i (if_i ⟨by omega, by omega⟩ (rd_G (by rw [Int.toNat_natCast]; exact y3) ?_))
       unfold pcV
       (refine app_of rfl ?_; try dsimp only)
       refine al_i ?_; intro b71 τ1 h1 w1 m1
       refine st_i2 w1 sz_mpiece (by rfl) (by rfl) ?_; intro τ2 p2
       obtain ⟨ρ2, gρ2', w71, hP2⟩ : ∃ ρ2, Gr ρ1 ρ2 /\ ρ2 b71 = some (.cells ⟨[.string pc.text, .int .u8 ((pc.kind.toNat : Nat) : Int), .int .i64 ((pc.width : Nat) : Int), .bool pc.left]⟩ 150 (0, 0)) /\ PI ρ2 τ2 b37 b38 b40 b41 s' := ⟨_, Gr.put (none_of hP'.gr m1) _, H.put_same _ _ _, hP'.add (h1.putF p2 m1) m1 p2.same⟩
       have gρ2 := gρ1.trans gρ2'
       have w2 := hP2.gr.get w71
       refine rd_S (rdC_of w2 (by rfl)) ?_
       refine j_i (fun j => ∀ (s2 : PS) (xx : ByteArray) (τ9 : H), PI ρ2 τ9 b37 b38 b40 b41 s2 -> s2.put pc xx = PS.piece nm s' pc -> xx.size <= 1000 -> j (some ⟨b7, 0, none⟩) y (some ⟨b37, 0, none⟩) (some ⟨b38, 0, none⟩) (some ⟨b40, 0, none⟩) (some ⟨b41, 0, none⟩) (some ⟨b42, 0, none⟩) (.func (.func 96) ⟨[]⟩ ⟨[.pointer (some ⟨b42, 0, none⟩), .pointer (some ⟨b37, 0, none⟩), .pointer (some ⟨b6, 0, none⟩)]⟩) (some ⟨b71, 0, none⟩) xx y ((y.len : Nat) : Int) (i : Int) τ9) ?_ ?_
       ·intro s2 xx τ9 hP9 hput hxx
        have w9 := hP9.gr.get w71
        refine ptr_i (rd_I (rdC_of w9 (by rfl)) ?_)
        rw [pad_n hpk.width hxx]
        refine call_i (s_Repeat _ _ (by have := hpk.width; omega) (by show 1 * _ <= _; have := hpk.width; omega) (app_S ?_))
        rw [rep_sp]
        obtain ⟨hb1, hb2, hb3⟩ := piece_ok hn hB' hpk
        refine j_i (fun j => j (some ⟨b7, 0, none⟩) y (some ⟨b37, 0, none⟩) (some ⟨b38, 0, none⟩) (some ⟨b40, 0, none⟩) (some ⟨b41, 0, none⟩) (some ⟨b42, 0, none⟩) (.func (.func 96) ⟨[]⟩ ⟨[.pointer (some ⟨b42, 0, none⟩), .pointer (some ⟨b37, 0, none⟩), .pointer (some ⟨b6, 0, none⟩)]⟩) (if pc.left then xx ++ spaces (pc.width - xx.size) else spaces (pc.width - xx.size) ++ xx) y ((y.len : Nat) : Int) (i : Int) τ9) ?_ ?_
        ·obtain ⟨D, z, q1, q2, ⟨q3a, q3b, q3c⟩, q4, q5, q6, q7, q8, q9, q10⟩ := hP9
         have ho : s2.out.data.toList.length <= 100000000 := by
          rw [<- size_list]
          have h3 : (s2.put pc xx).out.size = s2.out.size + (if pc.left then xx ++ spaces (pc.width - xx.size) else spaces (pc.width - xx.size) ++ xx).size := ByteArray.size_append
          rw [hput] at h3
          have := hb1.out
          omega
         have hxs : (if pc.left then xx ++ spaces (pc.width - xx.size) else spaces (pc.width - xx.size) ++ xx).size <= 100000 := by
          have := hpk.width
          split <;> rw [ByteArray.size_append, spaces_size] <;> omega
         refine call_i (s_BuWrS q1 _ (by omega) ?_)
         intro τ10 D' r1 r2
         (refine app_of rfl ?_; try dsimp only)
         have e1 := r2 _ _ q4 q3a
         have e2 := r2 _ _ q5 q3b
         have e3 := r2 _ _ q6 q3c
         have hP10 : PI ρ2 τ10 b37 b38 b40 b41 (s2.put pc xx) := ⟨D', z, by
          show BuAt τ10 b38 (s2.out ++ _ : ByteArray).data.toList D'
          rw [app_data]; exact r1, q2.sep r2, ⟨e1.2, e2.2, e3.2⟩, e1.1, e2.1, e3.1, q7, q8, q9, q10⟩
         rw [hput] at hP10
         rw [wrap_id (by omega) (by omega), show (i : Int) + 1 = ((i + 1 : Nat) : Int) from by omega]
         refine ih2 (i + 1) (PS.piece nm s' pc) τ10 (by omega) ?_ ⟨ρ2, gρ2, hP10⟩ ?_
         ·rw [List.take_add_one, hpc, List.foldl_append, <- hs']; rfl
         ·rw [show k + (i + 1) = k + i + 1 by omega]; exact hb1
        ·intro j hj
         refine ptr_i (rd_B (rdC_of w9 (by rfl)) ?_)
         have z1 := spaces_size (pc.width - xx.size)
         have := hpk.width
         cases hleft : pc.left with
         | true => rw [hleft, if_pos rfl] at hj; exact br_t rfl (if_i (by rw [z1]; omega) hj)
         | false => rw [hleft, if_neg (by simp)] at hj; exact br_f rfl (if_i (by rw [z1]; omega) hj)
       ·intro j hj
        have hT2 : Tabs ρ2 := hTρ.gr gρ2
        have ha0 := hB'.a0
        have he0 : s'.err.size <= 1000000000 := by have := hB'.err; omega
        have e115 : ((((pc.kind.toNat : Nat) : Int) : Int) == 115) = (pc.kind == 115) := u8e pc.kind 115
        have e100 : ((((pc.kind.toNat : Nat) : Int) : Int) == 100) = (pc.kind == 100) := u8e pc.kind 100
        have e120 : ((((pc.kind.toNat : Nat) : Int) : Int) == 120) = (pc.kind == 120) := u8e pc.kind 120
        have e99 : ((((pc.kind.toNat : Nat) : Int) : Int) == 99) = (pc.kind == 99) := u8e pc.kind 99
        have hpd : PS.piece nm s' pc = if pc.kind == 115 then s'.next.put pc s'.a0 else if pc.kind == 100 then (s'.num nm).put pc (fmtP 10 ((wholeP s'.a0).getD 0)) else if pc.kind == 120 then (s'.num nm).put pc (fmtP 16 ((wholeP s'.a0).getD 0)) else if pc.kind == 99 then s'.next.put pc (s'.a0.extract 0 (min s'.a0.size 1)) else s'.put pc pc.text := rfl
        refine rd_I (rdC_of w2 (by rfl)) ?_
        rw [e115]
        cases c1 : pc.kind == 115 with
        | true =>
         rw [c1, if_pos rfl] at hpd
         refine br_t rfl (ptr_i (rd_R (rdC_of (hP2.gr.get (gρ2.get h42)) (by rfl)) (cval_i (by kernel_rfl) (s_next hP2 ?_))))
         intro τ9 hP9
         (refine app_of rfl ?_; try dsimp only)
         exact hj _ _ τ9 hP9 hpd.symm ha0
        | false =>
         rw [c1, if_neg (by simp)] at hpd
         refine br_f rfl ?_
         rw [e100]
         cases c2 : pc.kind == 100 with
         | true =>
          rw [c2, if_pos rfl] at hpd
          refine br_t rfl (cval_i (by kernel_rfl) (s_num 10 (.inl rfl) nm hP2 hT2 (gρ2.get h42) (gρ2.get h6) (by omega) (by omega) he0 ?_))
          intro τ9 hP9
          exact app_S (hj _ _ τ9 hP9 hpd.symm (by have := fmtP_size 10 ((wholeP s'.a0).getD 0); omega))
         | false =>
          rw [c2, if_neg (by simp)] at hpd
          refine br_f rfl ?_
          rw [e120]
          cases c3 : pc.kind == 120 with
          | true =>
           rw [c3, if_pos rfl] at hpd
           refine br_t rfl (cval_i (by kernel_rfl) (s_num 16 (.inr rfl) nm hP2 hT2 (gρ2.get h42) (gρ2.get h6) (by omega) (by omega) he0 ?_))
           intro τ9 hP9
           exact app_S (hj _ _ τ9 hP9 hpd.symm (by have := fmtP_size 16 ((wholeP s'.a0).getD 0); omega))
          | false =>
           rw [c3, if_neg (by simp)] at hpd
           refine br_f rfl ?_
           rw [e99]
           cases c4 : pc.kind == 99 with
           | true =>
            rw [c4, if_pos rfl] at hpd
            refine br_t rfl (ptr_i (rd_R (rdC_of (hP2.gr.get (gρ2.get h42)) (by rfl)) (cval_i (by kernel_rfl) (s_next hP2 ?_))))
            intro τ9 hP9
            (refine app_of rfl ?_; try dsimp only)
            rw [min_1]
            refine if_i ⟨bnd_some (by omega) (by omega), bnd_none⟩ ?_
            rw [Int.toNat_natCast]
            exact hj _ _ τ9 hP9 hpd.symm (by rw [ByteArray.size_extract]; omega)
           | false =>
            rw [c4, if_neg (by simp)] at hpd
            exact br_f rfl (hj _ _ τ2 hP2 hpd.symm hpk.text)
     exact key2 ps.length 0 s τ (by omega) rfl hPI (by rw [Nat.add_zero]; exact hB)
   have hB0 : PB 0 ⟨r, false, ⟨⟨[]⟩⟩, 0, ⟨⟨[]⟩⟩⟩ := ⟨Nat.le_refl _, Nat.le_refl _, fun a ha' => ha a (List.mem_cons_of_mem _ ha')⟩
   refine key (r.length + 1) ⟨r, false, ⟨⟨[]⟩⟩, 0, ⟨⟨[]⟩⟩⟩ σ11 0 (Nat.lt_succ_self _) (by simp only [List.length_cons] at hl; omega) ⟨ρ, Gr.refl _, PI0⟩ hB0 (Nat.zero_le _) (fun h => by cases h) rfl
end
end Go.Proofs.YthclifcpjnhmjaaGreatDoor

