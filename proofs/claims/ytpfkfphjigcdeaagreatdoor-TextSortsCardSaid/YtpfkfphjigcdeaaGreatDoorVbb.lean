/- A part of a proof. -/
import Derived.Test.YtpfkfphjigcdeaaGreatDoorVba
namespace Go.HL
open Go Go.Wk
theorem u8e (a c : UInt8) : (((a.toNat : Nat) : Int) == ((c.toNat : Nat) : Int)) = (a == c) := by
 rw [Bool.eq_iff_iff]; simp only [beq_iff_eq]
 constructor
 ·intro h; exact UInt8.toNat_inj.1 (by omega)
 ·intro h; rw [h]
def trR (p : UInt8 -> Bool) (l : List UInt8) : List UInt8 := (l.reverse.dropWhile p).reverse
theorem snoc_of {l : List UInt8} {n : Nat} (h : l.length = n + 1) : ∃ m x, l = m ++ [x] /\ m.length = n := by
 refine ⟨l.dropLast, l.getLast (by intro e; rw [e] at h; cases h), (List.dropLast_concat_getLast _).symm, ?_⟩
 rw [List.length_dropLast, h]; rfl
theorem bsz (l : List UInt8) : (⟨⟨l⟩⟩ : ByteArray).size = l.length := rfl
theorem bex (l : List UInt8) (a b : Nat) : (⟨⟨l⟩⟩ : ByteArray).extract a b = ⟨⟨(l.take b).drop a⟩⟩ := bytes_ext (extract_toList _ a b)
theorem ext_hd (c : UInt8) (r : List UInt8) : (⟨⟨c :: r⟩⟩ : ByteArray).extract 1 (⟨⟨c :: r⟩⟩ : ByteArray).size = ⟨⟨r⟩⟩ := by
 rw [bex, bsz, List.take_length]; rfl
theorem ext_drop (l : List UInt8) (k : Nat) : (⟨⟨l⟩⟩ : ByteArray).extract k (⟨⟨l⟩⟩ : ByteArray).size = ⟨⟨l.drop k⟩⟩ := by
 rw [bex, bsz, List.take_length]
theorem strEq_nil (l : List UInt8) : strEq ⟨⟨l⟩⟩ ⟨⟨[]⟩⟩ = l.isEmpty := by
 rw [<- sEq_eq]
 cases l <;> rfl
theorem trR_dig (l : List UInt8) (p : UInt8 -> Bool) : ((trR p l).dropWhile p).isEmpty = l.all p := by
 have h1 : ∀ l : List UInt8, l.dropWhile p = [] ↔ l.all p = true := by
  intro l
  induction l with
  | nil => simp
  | cons x r ih =>
   rw [List.dropWhile_cons, List.all_cons]
   cases p x with
   | true => simpa using ih
   | false => simp
 have h2 : ∀ l : List UInt8, l.dropWhile p = [] \/ ∃ x r, l.dropWhile p = x :: r /\ p x = false := by
  intro l
  induction l with
  | nil => exact .inl rfl
  | cons x r ih =>
   rw [List.dropWhile_cons]
   cases hx : p x with
   | true => simpa using ih
   | false => exact .inr ⟨x, r, by simp, hx⟩
 have key : (trR p l).dropWhile p = [] ↔ l.all p = true := by
  constructor
  ·intro h
   have h3 := (h1 _).1 h
   unfold trR at h3
   rw [List.all_reverse] at h3
   rcases h2 l.reverse with h4 | ⟨x, r, h4, h5⟩
   ·have := (h1 _).1 h4
    rwa [List.all_reverse] at this
   ·rw [h4, List.all_cons, h5] at h3; cases h3
  ·intro h
   have : l.reverse.dropWhile p = [] := (h1 _).2 (by rw [List.all_reverse]; exact h)
   unfold trR
   rw [this]; rfl
 rw [Bool.eq_iff_iff, List.isEmpty_iff]; exact key
def lastN (c : UInt8) (l : List UInt8) : Nat := l.length - (l.reverse.takeWhile (fun x => !(x == c))).length
theorem lastN_snoc (c x : UInt8) (m : List UInt8) : lastN c (m ++ [x]) = if x == c then m.length + 1 else lastN c m := by
 unfold lastN
 rw [List.reverse_append, List.reverse_singleton, List.singleton_append, List.takeWhile_cons]
 cases x == c with
 | true => simp
 | false =>
  have h1 : (m.reverse.takeWhile (fun x => !(x == c))).length <= m.reverse.length := (List.takeWhile_sublist _).length_le
  rw [List.length_reverse] at h1
  simp
theorem rd_Y {σ : H} {r : H -> Option Value} {y : Sl} {F : Sl -> H -> Prop} (h : r σ = some (.slice y.base y.len y.cap)) (h2 : F y σ) : rdT r (.one (.sc .slc)) F σ := rd_L h h2
theorem strRows_len (l : List ByteArray) : (strRows l).length = l.length := by simp [strRows]
theorem sLen {σ : H} {l : List ByteArray} {x : Sl} (h : RowsAt σ 1 (strRows l) x) : x.len = l.length := by rw [h.1]; simp [strRows]
theorem sRow {σ : H} {l : List ByteArray} {x : Sl} (h : RowsAt σ 1 (strRows l) x) {i : Nat} {s : ByteArray} (hi : l[i]? = some s) : ∃ g o, x.base = some ⟨g, o, none⟩ /\ i < x.len /\ rdC g (o + i * 1) σ = some (.string s) := by
 obtain ⟨g, o, h1, h2, h3⟩ := h.rdA (i := i) (r := [.string s]) (by unfold strRows; rw [List.getElem?_map, hi]; rfl) (by decide)
 refine ⟨g, o, h1, ?_, by simpa using h3 0 _ rfl⟩
 rw [sLen h]
 rcases Nat.lt_or_ge i l.length with h | h
 ·exact h
 ·rw [List.getElem?_eq_none h] at hi; cases hi
theorem sTail {σ : H} {a : ByteArray} {l : List ByteArray} {x : Sl} (h : RowsAt σ 1 (strRows (a :: l)) x) (hc : x.len <= x.cap) : RowsAt σ 1 (strRows l) ⟨slBase x.base 1 x.cap 1, x.len - 1, x.cap - 1⟩ := by
 have hl := sLen h
 have := h.sub hc (k := 1) (e := l.length + 1) (by omega) (by rw [strRows_len]; exact Nat.le_refl _) (x.cap - 1)
 rw [List.take_of_length_le (by rw [strRows_len]; exact Nat.le_refl _)] at this
 rw [hl]; exact this
theorem numL_lt : ∀ (l : List UInt8) (n : Nat), l.all dig = true -> numL l n < (n + 1) * 10 ^ l.length := by
 intro l
 induction l with
 | nil => intro n _; simp [numL]
 | cons c r ih =>
  intro n h
  rw [List.all_cons, Bool.and_eq_true] at h
  have h1 := ih (10 * n + (c.toNat - 48)) h.2
  have h2 : c.toNat <= 57 := by
   have := h.1; unfold dig at this; rw [Bool.and_eq_true] at this; exact Nat.le_of_ble_eq_true this.2
  show numL r (10 * n + (c.toNat - 48)) < (n + 1) * 10 ^ (r.length + 1)
  refine Nat.lt_of_lt_of_le h1 ?_
  rw [Nat.pow_succ, show (n + 1) * (10 ^ r.length * 10) = ((n + 1) * 10) * 10 ^ r.length by rw [Nat.mul_comm (10 ^ _) 10, Nat.mul_assoc]]
  exact Nat.mul_le_mul_right _ (by omega)
theorem numL_snoc (l : List UInt8) (c : UInt8) (n : Nat) : numL (l ++ [c]) n = 10 * numL l n + (c.toNat - 48) := by
 induction l generalizing n with
 | nil => rfl
 | cons x r ih => exact ih _
theorem dig_rng {c : UInt8} (h : dig c = true) : 48 <= c.toNat /\ c.toNat <= 57 := by
 unfold dig at h; rw [Bool.and_eq_true] at h
 exact ⟨Nat.le_of_ble_eq_true h.1, Nat.le_of_ble_eq_true h.2⟩
theorem all_at {l : List UInt8} {p : UInt8 -> Bool} (h : l.all p = true) {i : Nat} {c : UInt8} (hi : l[i]? = some c) : p c = true := List.all_eq_true.1 h c (List.mem_of_getElem? hi)
def digL : List UInt8 := [48, 49, 50, 51, 52, 53, 54, 55, 56, 57]
theorem digL_all : ∀ n, n < 256 -> digL.contains (UInt8.ofNat n) = dig (UInt8.ofNat n) := by decide +kernel
theorem digL_dig (c : UInt8) : digL.contains c = dig c := by
 have := digL_all c.toNat (UInt8.toNat_lt c)
 rwa [UInt8.ofNat_toNat] at this
end Go.HL

