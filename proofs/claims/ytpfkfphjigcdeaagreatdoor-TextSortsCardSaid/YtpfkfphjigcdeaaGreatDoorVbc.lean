/- A part of a proof. -/
import Derived.Test.YtpfkfphjigcdeaaGreatDoorVbb
import Derived.Shelf.Strings.SlTrimAscii
import Derived.Shelf.LaysM
import Derived.Ground.NamesProg
import Derived.Test.YtpfkfphjigcdeaaGreatDoorProg
import Derived.Stop.IfaceNil
import Derived.Lib.ItoaNum
import Derived.Lib.LaidTab
import Derived.Laws.RangeString
set_option maxRecDepth 100000
namespace Go.Proofs.YtpfkfphjigcdeaaGreatDoor
open Go Go.HL Go.Wk
attribute [local irreducible] ptrW ifW brW andW rdT alW letJ stW muW biW vaW imW callT cvalT app callW invW callVW sizeT oW nilF oneK loopW rfW funW begW roundK exW idxW Gr Put
theorem parts_len (c : UInt8) (s : ByteArray) : (partsOf c s).length = s.data.toList.count c + 1 := by
 unfold partsOf
 rw [List.length_map]
 induction s.data.toList with
 | nil => rfl
 | cons x r ih =>
  rw [List.count_cons]
  unfold splitL
  cases hx : x == c with
  | true => simp [ih]
  | false =>
   cases h : splitL c r with
   | nil => exact absurd h (splitL_ne r)
   | cons a b => rw [h] at ih; simpa using ih
theorem sz_strS : sizeT Tryz.prog 9 = some 1 := by kernel_rfl
theorem un_strsS : Tryz.prog.underlying 26 = some (.slice 9) := by kernel_rfl
theorem in_strS : ∃ i, Tryz.prog.info? 9 = some i /\ i.zero = some (.string ⟨⟨[]⟩⟩) /\ i.size = 1 /\ i.bytes <= 100 := by
 cases h : Tryz.prog.info? 9 with
 | none => exact absurd (congrArg Option.isSome h) (by rw [show (Tryz.prog.info? 9).isSome = true from by kernel_rfl]; decide)
 | some i =>
  have h1 : (Tryz.prog.info? 9).map (fun i => (i.size, Nat.ble i.bytes 100)) = some (1, true) := by kernel_rfl
  have h2 : (Tryz.prog.info? 9).bind (fun i => i.zero) = some (.string ⟨⟨[]⟩⟩) := by kernel_rfl
  rw [h] at h1 h2
  simp only [Option.map_some, Option.some.injEq, Prod.mk.injEq] at h1
  exact ⟨i, rfl, h2, h1.1, Nat.le_of_ble_eq_true h1.2⟩
def strV (l : List ByteArray) : List Value := l.map .string
theorem strV_set (l : List ByteArray) (s : ByteArray) (m : Nat) : (strV l ++ List.replicate (m + 1) (Value.string ⟨⟨[]⟩⟩)).take l.length ++ [Value.string s] ++ (strV l ++ List.replicate (m + 1) (Value.string ⟨⟨[]⟩⟩)).drop (l.length + 1) = strV (l ++ [s]) ++ List.replicate m (Value.string ⟨⟨[]⟩⟩) := by
 have h : (strV l).length = l.length := by simp [strV]
 rw [List.take_append, List.drop_append, h, Nat.sub_self, List.take_of_length_le (by omega), List.drop_eq_nil_of_le (by omega)]
 simp [strV, List.replicate_succ]
theorem strV_flat (l : List ByteArray) : (strRows l).flatten = strV l := by
 unfold strRows strV
 induction l with
 | nil => rfl
 | cons a r ih => simp only [List.map_cons, List.flatten_cons, ih]; rfl
section
variable {σ : H} {K : KH}
theorem s_SplitC (s : ByteArray) (c : UInt8) (hs : s.size <= 1000000000) (hK : ∀ y σ', RNew σ σ' 9 1 (strRows (partsOf c s)) y -> K (.slice y.base y.len y.cap) σ') : callW Tryz.prog 12 [.string s, .string ⟨⟨[c]⟩⟩] K σ := by
 refine c12 _ _ ?_
 unfold g12
 refine call_i (c18 _ _ _ _ ?_)
 unfold g18
 refine br_f rfl (br_f (by rw [Bool.eq_false_iff]; intro e; have := strEq_iff.1 e; cases this) ?_)
 have hpl := parts_len c s
 have hls : s.data.toList.length = s.size := rfl
 have hcl : s.data.toList.count c <= s.data.toList.length := List.count_le_length
 obtain ⟨i, hi, hz, hsz, hby⟩ := in_strS
 refine j_i (fun j => j s ⟨⟨[c]⟩⟩ 0 (((partsOf c s).length : Nat) : Int) σ) ?_ ?_
 rotate_left
 ·intro j hj
  refine br_t rfl (call_i (x_Count1 s c (app_I ?_)))
  rw [wrap_id (by omega) (by omega), show ((s.data.toList.count c : Nat) : Int) + 1 = (((partsOf c s).length : Nat) : Int) from by omega]
  exact hj
 rw [wrap_id (x := (s.size : Int) + 1) (by omega) (by omega)]
 generalize hN : (partsOf c s).length = N at *
 have hmin : (if ((s.size : Nat) : Int) + 1 < (N : Int) then ((s.size : Nat) : Int) + 1 else (N : Int)) = (N : Int) := by split <;> omega
 rw [hmin, wrap_id (x := (N : Int) - 1) (by omega) (by omega)]
 refine mk_i (n := N) un_strsS hi hz hsz hby rfl rfl (by omega) ?_
 intro b σ1 g1 n1 e1
 refine j_i (fun j => ∀ (done : List ByteArray) (t : ByteArray) (m : Nat) (τ : H), partsOf c s = done ++ [t] -> Gr σ τ -> τ b = some (.cells ⟨strV done ++ List.replicate (m + 1) (.string ⟨⟨[]⟩⟩)⟩ 9 (0, 0)) -> done.length + (m + 1) = N -> j t ⟨some ⟨b, 0, none⟩, N, N⟩ ((done.length : Nat) : Int) τ) ?_ ?_
 ·intro done t m τ hp hg hb hl
  refine ptr_i (if_i ⟨by omega, by show _ < ((N : Nat) : Int); omega⟩ (st_i hb sz_strS (by rw [Int.toNat_natCast]; simp [strV, arrL, Value.cells]) (by intro x hx; simp [arrL, Value.cells] at hx; subst hx; rfl) (.inl (Nat.le_refl _)) ?_))
  intro τ1 p1
  rw [wrap_id (x := ((done.length : Nat) : Int) + 1) (by omega) (by omega)]
  refine if_i ⟨bnd_some (by omega) (by show _ <= ((N : Nat) : Int); omega), bnd_none⟩ ?_
  have e0 : 0 + (((done.length : Nat) : Int)).toNat * 1 = done.length := by omega
  have e1 : arrL (Value.string t).cells = [.string t] := rfl
  rw [e0, e1] at p1
  have hm : m = 0 := by
   have := congrArg List.length hp
   rw [hN, List.length_append, List.length_singleton] at this; omega
  subst hm
  have hcells := strV_set done t 0
  simp only [List.length_singleton] at p1
  rw [hcells] at p1
  have s1 : slBase (some ⟨b, 0, none⟩) 0 N 1 = some ⟨b, 0, none⟩ := by
   unfold slBase
   split
   ·rfl
   ·rw [Option.map_some, add_none]
  refine app_L ?_
  show K (.slice (slBase (some ⟨b, 0, none⟩) 0 N 1) _ _) τ1
  rw [s1]
  refine hK ⟨some ⟨b, 0, none⟩, _, _⟩ τ1 ⟨hg.putF p1 n1, ⟨?_, ?_, .inr ⟨b, _, rfl, p1.same, ?_, ?_, ?_⟩⟩, fun g hx => by cases hx; exact n1⟩
  ·rw [strRows_len, hN]; show (((done.length : Nat) : Int) + 1).toNat - 0 = N; omega
  ·intro r hr; obtain ⟨u, _, rfl⟩ := List.mem_map.1 hr; rfl
  ·show (strV (done ++ [t]) ++ List.replicate 0 _).length = (N - 0) * 1; simp [strV]; omega
  ·show (((done.length : Nat) : Int) + 1).toNat - 0 <= N - 0; omega
  ·rw [strV_flat, hp]
   show (strV (done ++ [t]) ++ List.replicate 0 _).take (((((done.length : Nat) : Int) + 1).toNat - 0) * 1) = _
   rw [List.replicate_zero, List.append_nil, List.take_of_length_le (by simp [strV])]
 intro j12 hj
 refine loop_i ?_
 intro R hR
 have key : ∀ (m : Nat) (done : List ByteArray) (t : ByteArray) (τ : H), t.size <= s.size -> partsOf c s = done ++ partsOf c t -> (partsOf c t).length = m + 1 -> Gr σ τ -> τ b = some (.cells ⟨strV done ++ List.replicate (m + 1) (.string ⟨⟨[]⟩⟩)⟩ 9 (0, 0)) ->
  R t ⟨⟨[c]⟩⟩ 0 ((N : Int) - 1) ⟨some ⟨b, 0, none⟩, N, N⟩ ((done.length : Nat) : Int) τ := by
  intro m
  induction m with
  | zero =>
   intro done t τ ht hp hm hg hb
   have hdl : done.length + 1 = N := by rw [<- hN, hp, List.length_append, hm]
   have hone : partsOf c t = [t] := by
    rcases Int.lt_or_le (firstIdx t c) 0 with h | h
    ·exact partsOf_none h
    ·obtain ⟨_, h2⟩ := partsOf_some h
     rw [h2, List.length_cons, parts_len] at hm; omega
   rw [hone] at hp
   refine hR _ _ _ _ _ _ _ (br_f (by simp only [decide_eq_false_iff_not]; omega) (hj done t 0 τ hp hg hb (by omega)))
  | succ m ih =>
   intro done t τ ht hp hm hg hb
   have hdl : done.length + (m + 2) = N := by rw [<- hN, hp, List.length_append, hm]
   have hf : 0 <= firstIdx t c := by
    rcases Int.lt_or_le (firstIdx t c) 0 with h | h
    ·rw [partsOf_none h] at hm; simp at hm
    ·exact h
   obtain ⟨h1, h2⟩ := partsOf_some hf
   refine hR _ _ _ _ _ _ _ (br_t (by simp only [decide_eq_true_eq]; omega) (call_i (x_Index1 t c (app_I ?_))))
   refine br_f (by simp only [decide_eq_false_iff_not]; omega) ?_
   rw [wrap_id (x := firstIdx t c + 0) (by omega) (by omega), Int.add_zero]
   refine if_i ⟨bnd_some hf (by omega), bnd_none⟩ ?_
   refine ptr_i (if_i ⟨by omega, by show _ < ((N : Nat) : Int); omega⟩ (st_i hb sz_strS (by rw [Int.toNat_natCast]; simp [strV, arrL, Value.cells]) (by intro x hx; simp [arrL, Value.cells] at hx; subst hx; rfl) (.inl (Nat.le_refl _)) ?_))
   intro τ1 p1
   have hw : ((⟨⟨[c]⟩⟩ : ByteArray).size : Int) = 1 := rfl
   rw [hw, wrap_id (x := firstIdx t c + 1) (by omega) (by omega), wrap_id (x := ((done.length : Nat) : Int) + 1) (by omega) (by omega)]
   refine if_i ⟨bnd_none, bnd_some (by omega) (by omega)⟩ ?_
   have e0 : 0 + (((done.length : Nat) : Int)).toNat * 1 = done.length := by omega
   have e1 : arrL (Value.string (t.extract 0 (firstIdx t c).toNat)).cells = [.string (t.extract 0 (firstIdx t c).toNat)] := rfl
   rw [e0, e1] at p1
   simp only [List.length_singleton] at p1
   rw [strV_set] at p1
   have e2 : (firstIdx t c + 1).toNat = (firstIdx t c).toNat + 1 := by omega
   rw [e2, show ((done.length : Nat) : Int) + 1 = (((done ++ [t.extract 0 (firstIdx t c).toNat]).length : Nat) : Int) from by simp]
   refine ih _ _ τ1 ?_ ?_ ?_ (hg.putF p1 n1) p1.same
   ·rw [ByteArray.size_extract]; omega
   ·rw [hp, h2]; simp
   ·rw [h2, List.length_cons] at hm; omega
 have hl0 : (partsOf c s).length = (N - 1) + 1 := by omega
 refine key (N - 1) [] s σ1 (Nat.le_refl _) rfl hl0 g1 ?_
 rw [e1, show N - 1 + 1 = N by omega]; rfl
def cutB1 (c : UInt8) (s : ByteArray) : ByteArray × ByteArray × Bool := if 0 <= firstIdx s c then (s.extract 0 (firstIdx s c).toNat, s.extract ((firstIdx s c).toNat + 1) s.size, true) else (s, ⟨⟨[]⟩⟩, false)
theorem s_Cut1 (s : ByteArray) (c : UInt8) (hs : s.size <= 1000000000) (hK : K (.tuple ⟨[.string (cutB1 c s).1, .string (cutB1 c s).2.1, .bool (cutB1 c s).2.2]⟩) σ) : callW Tryz.prog 77 [.string s, .string ⟨⟨[c]⟩⟩] K σ := by
 refine c77 _ _ ?_
 unfold g77
 refine call_i (c101 _ _ ?_)
 unfold g101
 refine call_i (c67 _ _ ?_)
 refine s_sliIndex1 s c (app_I ?_)
 unfold cutB1 at hK
 refine br_i (fun h => ?_) (fun h => ?_)
 ·have h := of_decide_eq_true h
  rw [if_pos h] at hK
  obtain ⟨h1, h2⟩ := partsOf_some h
  have hw : ((⟨⟨[c]⟩⟩ : ByteArray).size : Int) = 1 := rfl
  rw [hw, wrap_id (x := firstIdx s c + 1) (by omega) (by omega)]
  refine if_i ⟨bnd_some h (by omega), bnd_none⟩ (if_i ⟨bnd_none, bnd_some (by omega) (by omega)⟩ ?_)
  rw [show (firstIdx s c + 1).toNat = (firstIdx s c).toNat + 1 from by omega]
  exact app_of rfl hK
 ·have h := of_decide_eq_false h
  rw [if_neg h] at hK
  exact app_of rfl hK
end
end Go.Proofs.YtpfkfphjigcdeaaGreatDoor

namespace Go.Wk
variable {α : Type}
structure Pre (lt : α -> α -> Bool) : Prop where
 asym : ∀ a b, lt a b = true -> lt b a = false
 tr : ∀ a b c, lt b a = false -> lt c b = false -> lt c a = false
def Vw (l : List α) (f : Nat -> α) : Prop := ∀ k, k < l.length -> l[k]? = some (f k)
def Sd (lt : α -> α -> Bool) (f : Nat -> α) (a b : Nat) : Prop := ∀ p q, a <= p -> p < q -> q < b -> lt (f q) (f p) = false
def swF (f : Nat -> α) (i j : Nat) : Nat -> α := fun k => if k = i then f j else if k = j then f i else f k
structure Im (f g : Nat -> α) (a b : Nat) : Prop where
 all : ∀ φ : α -> Prop, (∀ k, a <= k -> k < b -> φ (f k)) -> ∀ k, a <= k -> k < b -> φ (g k)
 out : ∀ k, ¬(a <= k /\ k < b) -> g k = f k
theorem Im.refl (f : Nat -> α) (a b : Nat) : Im f f a b := ⟨fun _ h => h, fun _ _ => rfl⟩
theorem Im.trans {f g h : Nat -> α} {a b : Nat} (i : Im f g a b) (j : Im g h a b) : Im f h a b := ⟨fun φ q => j.all φ (i.all φ q), fun k hk => (j.out k hk).trans (i.out k hk)⟩
theorem Im.wide {f g : Nat -> α} {a b c d : Nat} (i : Im f g a b) (h1 : c <= a) (h2 : b <= d) : Im f g c d := by
 refine ⟨fun φ q k k1 k2 => ?_, fun k hk => i.out k fun h => hk ⟨by omega, by omega⟩⟩
 by_cases e : a <= k /\ k < b
 ·exact i.all φ (fun j j1 j2 => q j (by omega) (by omega)) k e.1 e.2
 ·rw [i.out k e]; exact q k k1 k2
theorem Vw.sw {l : List α} {f : Nat -> α} (h : Vw l f) {i j : Nat} (hi : i < l.length) (hj : j < l.length) : Vw ((l.set i (f j)).set j (f i)) (swF f i j) /\ ((l.set i (f j)).set j (f i)).Perm l := by
 have e1 : l[i] = f i := by have := h i hi; rw [List.getElem?_eq_getElem hi] at this; exact Option.some.inj this
 have e2 : l[j] = f j := by have := h j hj; rw [List.getElem?_eq_getElem hj] at this; exact Option.some.inj this
 refine ⟨fun k hk => ?_, ?_⟩
 ·simp only [List.length_set] at hk
  simp only [List.getElem?_set, List.length_set, swF]
  by_cases a : j = k
  ·subst a; simp only [if_true, hj]
   by_cases b : j = i
   ·subst b; simp
   ·simp [b]
  ·by_cases b : i = k
   ·subst b; simp [a, hi]
   ·have a' : ¬ k = j := fun q => a q.symm
    have b' : ¬ k = i := fun q => b q.symm
    simp only [a, b, a', b', if_false]; exact h k hk
 ·have := List.set_set_perm hi hj
  rw [e1, e2] at this; exact this
theorem Vw.nil (f : Nat -> α) : Vw [] f := fun k hk => absurd hk (by simp)
theorem im_sw (f : Nat -> α) {i j a b : Nat} (hi : a <= i /\ i < b) (hj : a <= j /\ j < b) : Im f (swF f i j) a b := by
 refine ⟨fun φ q k k1 k2 => ?_, fun k hk => ?_⟩
 ·simp only [swF]; split
  ·exact q _ hj.1 hj.2
  ·split
   ·exact q _ hi.1 hi.2
   ·exact q _ k1 k2
 ·simp only [swF]; rw [if_neg (by rintro rfl; exact hk hi), if_neg (by rintro rfl; exact hk hj)]
def Sj (lt : α -> α -> Bool) (f : Nat -> α) (a i j : Nat) : Prop := ∀ p q, a <= p -> p < q -> q <= i -> q ≠ j -> lt (f q) (f p) = false
theorem sj_start {lt : α -> α -> Bool} {f : Nat -> α} {a i : Nat} (h : Sd lt f a i) : Sj lt f a i i := fun p q h1 h2 h3 h4 => h p q h1 h2 (by omega)
theorem sj_step {lt : α -> α -> Bool} (L : Pre lt) {f : Nat -> α} {a i j : Nat} (h : Sj lt f a i j) (hj : a < j) (hi : j <= i) (hl : lt (f j) (f (j - 1)) = true) : Sj lt (swF f j (j - 1)) a i (j - 1) := by
 intro p q h1 h2 h3 h4
 simp only [swF]
 by_cases c1 : q = j
 ·subst c1
  rw [if_pos rfl, if_neg (by omega)]
  by_cases c2 : p = q - 1
  ·rw [if_pos c2]; exact L.asym _ _ hl
  ·rw [if_neg c2]; exact h p (q - 1) h1 (by omega) (by omega) (by omega)
 ·rw [if_neg c1, if_neg h4]
  by_cases c2 : p = j
  ·rw [if_pos c2]; exact h (j - 1) q (by omega) (by omega) h3 c1
  ·rw [if_neg c2]
   by_cases c3 : p = j - 1
   ·rw [if_pos c3]; exact h j q (by omega) (by omega) h3 c1
   ·rw [if_neg c3]; exact h p q h1 h2 h3 c1
theorem sj_end {lt : α -> α -> Bool} (L : Pre lt) {f : Nat -> α} {a i j : Nat} (h : Sj lt f a i j) (hi : j <= i) (hl : j <= a \/ lt (f j) (f (j - 1)) = false) : Sd lt f a (i + 1) := by
 intro p q h1 h2 h3
 by_cases c : q = j
 ·subst c
  rcases hl with hl | hl
  ·omega
  ·by_cases c2 : p = q - 1
   ·rw [c2]; exact hl
   ·exact L.tr (f p) (f (q - 1)) (f q) (h p (q - 1) h1 (by omega) (by omega) (by omega)) hl
 ·exact h p q h1 h2 (by omega) c
def srF (f : Nat -> α) (p q n : Nat) : Nat -> α := fun k => if p <= k /\ k < p + n then f (k - p + q) else if q <= k /\ k < q + n then f (k - q + p) else f k
theorem sr_zero (f : Nat -> α) (p q : Nat) : srF f p q 0 = f := by
 funext k; simp only [srF]; rw [if_neg (by omega), if_neg (by omega)]
theorem sr_succ (f : Nat -> α) {p q n : Nat} (h : p + n < q) : swF (srF f p q n) (p + n) (q + n) = srF f p q (n + 1) := by
 funext k; simp only [swF, srF]
 by_cases c1 : k = p + n
 ·subst c1; rw [if_pos rfl, if_neg (by omega), if_neg (by omega), if_pos (by omega)]; congr 1; omega
 ·rw [if_neg c1]
  by_cases c2 : k = q + n
  ·subst c2; rw [if_pos rfl, if_neg (by omega), if_neg (by omega), if_neg (by omega), if_pos (by omega)]; congr 1; omega
  ·rw [if_neg c2]
   by_cases c3 : p <= k /\ k < p + n
   ·rw [if_pos c3, if_pos (by omega)]
   ·rw [if_neg c3]
    by_cases c4 : q <= k /\ k < q + n
    ·rw [if_pos c4, if_neg (by omega), if_pos (by omega)]
    ·rw [if_neg c4, if_neg (by omega), if_neg (by omega)]
def rot (f : Nat -> α) (a m b : Nat) : Nat -> α := fun k => if a <= k /\ k < a + (b - m) then f (k + (m - a)) else if a + (b - m) <= k /\ k < b then f (k - (b - m)) else f k
theorem rot_gt (f : Nat -> α) {m i j : Nat} (h1 : j < i) (h2 : i <= m) : rot (srF f (m - i) m j) (m - (i - j)) m (m + j) = rot f (m - i) m (m + j) := by
 funext k; simp only [rot, srF]
 have e1 : m + j - m = j := by omega
 have e2 : m - (m - (i - j)) = i - j := by omega
 have e3 : m - (m - i) = i := by omega
 simp only [e1, e2, e3]
 by_cases c1 : m - (i - j) <= k /\ k < m - (i - j) + j
 ·rw [if_pos c1, if_neg (by omega), if_pos (by omega), if_neg (by omega), if_pos (by omega)]; congr 1; omega
 ·rw [if_neg c1]
  by_cases c2 : m - (i - j) + j <= k /\ k < m + j
  ·rw [if_pos c2, if_neg (by omega), if_neg (by omega), if_neg (by omega), if_pos (by omega)]
  ·rw [if_neg c2]
   by_cases c3 : m - i <= k /\ k < m - i + j
   ·rw [if_pos c3, if_pos c3]; congr 1; omega
   ·rw [if_neg c3, if_neg c3, if_neg (by omega), if_neg (by omega)]
theorem rot_lt (f : Nat -> α) {m i j : Nat} (h1 : i < j) (h2 : i <= m) : rot (srF f (m - i) (m + j - i) i) (m - i) m (m + (j - i)) = rot f (m - i) m (m + j) := by
 funext k; simp only [rot, srF]
 have e1 : m + j - m = j := by omega
 have e2 : m + (j - i) - m = j - i := by omega
 have e3 : m - (m - i) = i := by omega
 simp only [e1, e2, e3]
 by_cases c1 : m - i <= k /\ k < m - i + (j - i)
 ·rw [if_pos c1, if_pos (by omega : m - i <= k /\ k < m - i + j), if_neg (by omega), if_neg (by omega)]
 ·rw [if_neg c1]
  by_cases c2 : m - i + (j - i) <= k /\ k < m + (j - i)
  ·rw [if_pos c2]
   by_cases c3 : k < m - i + j
   ·rw [if_pos (by omega : m - i <= k /\ k < m - i + j)]
    rw [if_pos (by omega)]; congr 1; omega
   ·rw [if_neg (by omega : ¬(m - i <= k /\ k < m - i + j)), if_pos (by omega : m - i + j <= k /\ k < m + j)]
    omega
  ·rw [if_neg c2]
   by_cases c3 : m + j - i <= k /\ k < m + j - i + i
   ·rw [if_neg (by omega), if_pos c3, if_neg (by omega), if_pos (by omega)]; congr 1; omega
   ·rw [if_neg (by omega), if_neg c3, if_neg (by omega), if_neg (by omega)]
theorem rot_eq (f : Nat -> α) {m i : Nat} (h2 : i <= m) : srF f (m - i) m i = rot f (m - i) m (m + i) := by
 funext k; simp only [rot, srF]
 have e1 : m + i - m = i := by omega
 have e3 : m - (m - i) = i := by omega
 simp only [e1, e3]
 by_cases c1 : m - i <= k /\ k < m - i + i
 ·rw [if_pos c1, if_pos c1]; congr 1; omega
 ·rw [if_neg c1, if_neg c1]
  by_cases c2 : m <= k /\ k < m + i
  ·rw [if_pos c2, if_pos (by omega)]; congr 1; omega
  ·rw [if_neg c2, if_neg (by omega)]
theorem im_rot (f : Nat -> α) {a m b : Nat} (h1 : a <= m) (h2 : m <= b) : Im f (rot f a m b) a b := by
 refine ⟨fun φ q k k1 k2 => ?_, fun k hk => ?_⟩
 ·simp only [rot]; split
  ·exact q _ (by omega) (by omega)
  ·split
   ·exact q _ (by omega) (by omega)
   ·exact q _ k1 k2
 ·simp only [rot]; rw [if_neg (by omega), if_neg (by omega)]
theorem rot_up (f : Nat -> α) {a k : Nat} (h : a <= k) : swF (rot f a (a + 1) (k + 1)) k (k + 1) = rot f a (a + 1) (k + 2) := by
 funext x; simp only [rot, swF]
 by_cases c1 : x = k
 ·subst c1; rw [if_pos rfl, if_neg (by omega), if_neg (by omega), if_pos (by omega)]; congr 1; omega
 ·rw [if_neg c1]
  by_cases c2 : x = k + 1
  ·subst c2
   rw [if_pos rfl, if_neg (by omega : ¬(a <= k + 1 /\ k + 1 < a + (k + 2 - (a + 1)))), if_pos (by omega : a + (k + 2 - (a + 1)) <= k + 1 /\ k + 1 < k + 2), if_neg (by omega), if_pos (by omega)]; congr 1; omega
  ·rw [if_neg c2]
   by_cases c3 : a <= x /\ x < a + (k + 1 - (a + 1))
   ·rw [if_pos c3, if_pos (by omega)]
   ·rw [if_neg c3, if_neg (by omega), if_neg (by omega), if_neg (by omega)]
theorem rot_up0 (f : Nat -> α) (a : Nat) : rot f a (a + 1) (a + 1) = f := by
 funext x; simp only [rot]; rw [if_neg (by omega)]; split
 ·congr 1; omega
 ·rfl
theorem rot_down (f : Nat -> α) {m k : Nat} (h : k < m) : swF (rot f (k + 1) m (m + 1)) (k + 1) k = rot f k m (m + 1) := by
 funext x; simp only [rot, swF]
 by_cases c1 : x = k + 1
 ·subst c1; rw [if_pos rfl, if_neg (by omega), if_neg (by omega), if_neg (by omega), if_pos (by omega)]; congr 1; omega
 ·rw [if_neg c1]
  by_cases c2 : x = k
  ·subst c2
   rw [if_pos rfl, if_pos (by omega), if_pos (by omega)]; congr 1; omega
  ·rw [if_neg c2]
   by_cases c3 : k + 1 + (m + 1 - m) <= x /\ x < m + 1
   ·rw [if_neg (by omega), if_pos c3, if_neg (by omega), if_pos (by omega)]
   ·rw [if_neg (by omega), if_neg c3, if_neg (by omega), if_neg (by omega)]
theorem rot_down0 (f : Nat -> α) (m : Nat) : rot f m m (m + 1) = f := by
 funext x; simp only [rot]; split
 ·congr 1; omega
 ·rw [if_neg (by omega)]
structure Mg (lt : α -> α -> Bool) (f g : Nat -> α) (a b : Nat) : Prop where
 im : Im f g a b
 sd : Sd lt g a b
section
variable {lt : α -> α -> Bool} {f : Nat -> α} {a m b s e : Nat}
theorem rot_lo (h1 : s <= m) (h2 : m <= e) {k : Nat} (hk : k < s) : rot f s m e k = f k := by
 simp only [rot]; rw [if_neg (by omega), if_neg (by omega)]
theorem rot_hi (h1 : s <= m) (h2 : m <= e) {k : Nat} (hk : e <= k) : rot f s m e k = f k := by
 simp only [rot]; rw [if_neg (by omega), if_neg (by omega)]
theorem rot_in1 (h1 : s <= m) (h2 : m <= e) {k : Nat} (hk : s <= k) (hk2 : k < s + (e - m)) : rot f s m e k = f (k + (m - s)) := by
 simp only [rot]; rw [if_pos ⟨hk, hk2⟩]
theorem rot_in2 (h1 : s <= m) (h2 : m <= e) {k : Nat} (hk : s + (e - m) <= k) (hk2 : k < e) : rot f s m e k = f (k - (e - m)) := by
 simp only [rot]; rw [if_neg (by omega), if_pos ⟨hk, hk2⟩]
theorem mg_one (L : Pre lt) {i : Nat} (hb : Sd lt f (a + 1) b) (h1 : a + 1 <= i) (h2 : i <= b) (hl : ∀ k, a + 1 <= k -> k < i -> lt (f k) (f a) = true) (hr : ∀ k, i <= k -> k < b -> lt (f k) (f a) = false) : Mg lt f (rot f a (a + 1) i) a b := by
 refine ⟨(im_rot f (by omega) h1).wide (Nat.le_refl _) h2, fun p q p1 p2 p3 => ?_⟩
 have A : ∀ k, a <= k -> k < i - 1 -> rot f a (a + 1) i k = f (k + 1) := fun k k1 k2 => by rw [rot_in1 (by omega) h1 k1 (by omega)]; congr 1; omega
 have B : rot f a (a + 1) i (i - 1) = f a := by rw [rot_in2 (by omega) h1 (by omega) (by omega)]; congr 1; omega
 have C : ∀ k, i <= k -> rot f a (a + 1) i k = f k := fun k k1 => rot_hi (by omega) h1 k1
 by_cases c1 : q < i - 1
 ·rw [A p p1 (by omega), A q (by omega) c1]; exact hb _ _ (by omega) (by omega) (by omega)
 ·by_cases c2 : q = i - 1
  ·rw [c2, B, A p p1 (by omega)]; exact L.asym _ _ (hl _ (by omega) (by omega))
  ·rw [C q (by omega)]
   by_cases c3 : p < i - 1
   ·rw [A p p1 c3]; exact hb _ _ (by omega) (by omega) p3
   ·by_cases c4 : p = i - 1
    ·rw [c4, B]; exact hr q (by omega) p3
    ·rw [C p (by omega)]; exact hb _ _ (by omega) p2 p3
theorem mg_last (L : Pre lt) {i : Nat} (ha : Sd lt f a m) (h1 : a <= i) (h2 : i <= m) (hl : ∀ k, a <= k -> k < i -> lt (f m) (f k) = false) (hr : ∀ k, i <= k -> k < m -> lt (f m) (f k) = true) : Mg lt f (rot f i m (m + 1)) a (m + 1) := by
 refine ⟨(im_rot f h2 (by omega)).wide h1 (Nat.le_refl _), fun p q p1 p2 p3 => ?_⟩
 have A : ∀ k, i < k -> k < m + 1 -> rot f i m (m + 1) k = f (k - 1) := fun k k1 k2 => by rw [rot_in2 h2 (by omega) (by omega) k2]; congr 1; omega
 have B : rot f i m (m + 1) i = f m := by rw [rot_in1 h2 (by omega) (by omega) (by omega)]; congr 1; omega
 have C : ∀ k, k < i -> rot f i m (m + 1) k = f k := fun k k1 => rot_lo h2 (by omega) k1
 by_cases c1 : q < i
 ·rw [C p (by omega), C q c1]; exact ha _ _ p1 p2 (by omega)
 ·by_cases c2 : q = i
  ·rw [c2, B, C p (by omega)]; exact hl p p1 (by omega)
  ·rw [A q (by omega) p3]
   by_cases c3 : p < i
   ·rw [C p c3]; exact ha _ _ p1 (by omega) (by omega)
   ·by_cases c4 : p = i
    ·rw [c4, B]; exact L.asym _ _ (hr _ (by omega) (by omega))
    ·rw [A p (by omega) (by omega)]; exact ha _ _ (by omega) (by omega) (by omega)
theorem cut_runs (L : Pre lt) {mid : Nat} (ha : Sd lt f a m) (hb : Sd lt f m b) (h1 : a <= s) (h2 : s <= m) (h3 : m <= e) (h4 : e <= b) (hm : mid = s + (e - m))
 (hl : a < s -> e < b -> lt (f e) (f (s - 1)) = false) (hr : s < m -> m < e -> lt (f (e - 1)) (f s) = true) :
 Sd lt (rot f s m e) a s /\ Sd lt (rot f s m e) s mid /\ Sd lt (rot f s m e) mid e /\ Sd lt (rot f s m e) e b /\ ∀ p q, a <= p -> p < mid -> mid <= q -> q < b -> lt (rot f s m e q) (rot f s m e p) = false := by
 subst hm
 refine ⟨fun p q p1 p2 p3 => ?_, fun p q p1 p2 p3 => ?_, fun p q p1 p2 p3 => ?_, fun p q p1 p2 p3 => ?_, fun p q p1 p2 p3 p4 => ?_⟩
 ·rw [rot_lo h2 h3 p3, rot_lo h2 h3 (by omega)]; exact ha _ _ p1 p2 (by omega)
 ·rw [rot_in1 h2 h3 (by omega) p3, rot_in1 h2 h3 p1 (by omega)]; exact hb _ _ (by omega) (by omega) (by omega)
 ·rw [rot_in2 h2 h3 (by omega) p3, rot_in2 h2 h3 p1 (by omega)]; exact ha _ _ (by omega) (by omega) (by omega)
 ·rw [rot_hi h2 h3 (by omega), rot_hi h2 h3 p1]; exact hb _ _ (by omega) p2 p3
 ·have le : ∀ x y, a <= x -> x <= y -> y < m -> lt (f y) (f x) = false := fun x y x1 x2 x3 => by
   rcases Nat.lt_or_eq_of_le x2 with q | q
   ·exact ha _ _ x1 q x3
   ·subst q; cases h : lt (f x) (f x) with
    | false => rfl
    | true => exact (L.asym _ _ h).symm.trans h |>.symm ▸ rfl
  have le2 : ∀ x y, m <= x -> x <= y -> y < b -> lt (f y) (f x) = false := fun x y x1 x2 x3 => by
   rcases Nat.lt_or_eq_of_le x2 with q | q
   ·exact hb _ _ x1 q x3
   ·subst q; cases h : lt (f x) (f x) with
    | false => rfl
    | true => exact (L.asym _ _ h).symm.trans h |>.symm ▸ rfl
  by_cases c1 : p < s
  ·rw [rot_lo h2 h3 c1]
   by_cases c2 : q < e
   ·rw [rot_in2 h2 h3 p3 c2]; exact le _ _ p1 (by omega) (by omega)
   ·rw [rot_hi h2 h3 (by omega)]
    exact L.tr _ _ _ (le p (s - 1) p1 (by omega) (by omega)) (L.tr _ _ _ (hl (by omega) (by omega)) (le2 e q h3 (by omega) p4))
  ·rw [rot_in1 h2 h3 (by omega) p2]
   by_cases c2 : q < e
   ·rw [rot_in2 h2 h3 p3 c2]
    have k1 : lt (f s) (f (e - 1)) = false := L.asym _ _ (hr (by omega) (by omega))
    exact L.tr _ _ _ (le2 (p + (m - s)) (e - 1) (by omega) (by omega) (by omega)) (L.tr _ _ _ k1 (le s _ h1 (by omega) (by omega)))
   ·rw [rot_hi h2 h3 (by omega)]; exact le2 _ _ (by omega) (by omega) p4
theorem join_runs {g h : Nat -> α} {mid : Nat} (h1 : a <= mid) (h2 : mid <= b) (hlr : ∀ p q, a <= p -> p < mid -> mid <= q -> q < b -> lt (f q) (f p) = false) (hg : Mg lt f g a mid) (hh : Mg lt g h mid b) : Mg lt f h a b := by
 refine ⟨(hg.im.wide (Nat.le_refl _) h2).trans (hh.im.wide h1 (Nat.le_refl _)), ?_⟩
 have e1 : ∀ k, k < mid -> h k = g k := fun k hk => hh.im.out k (by omega)
 have e2 : ∀ k, mid <= k -> g k = f k := fun k hk => hg.im.out k (by omega)
 have lr : ∀ p q, a <= p -> p < mid -> mid <= q -> q < b -> lt (h q) (h p) = false := by
  intro p q p1 p2 p3 p4
  rw [e1 p p2]
  refine hh.im.all (fun v => lt v (g p) = false) (fun k k1 k2 => ?_) q p3 p4
  rw [e2 k k1]
  exact hg.im.all (fun v => lt (f k) v = false) (fun j j1 j2 => hlr j k j1 j2 k1 k2) p p1 p2
 intro p q p1 p2 p3
 by_cases c1 : q < mid
 ·rw [e1 p (by omega), e1 q c1]; exact hg.sd p q p1 p2 c1
 ·by_cases c2 : p < mid
  ·exact lr p q p1 c2 (by omega) p3
  ·exact hh.sd p q (by omega) p2 p3
theorem mg_self (h : Sd lt f a b) : Mg lt f f a b := ⟨Im.refl _ _ _, h⟩
theorem Mg.same {g h : Nat -> α} (k : Mg lt f g a b) (e : f = h) : Mg lt h g a b := e ▸ k
end
inductive Rb (lt : α -> α -> Bool) (f : Nat -> α) (n : Nat) : Nat -> Prop
 | zero : Rb lt f n 0
 | more {a : Nat} : Rb lt f n a -> Sd lt f a (a + n) -> Rb lt f n (a + n)
inductive Rf (lt : α -> α -> Bool) (f : Nat -> α) (n e : Nat) : Nat -> Prop
 | last {a : Nat} : e < a + n -> Sd lt f a e -> Rf lt f n e a
 | more {a : Nat} : a + n <= e -> Sd lt f a (a + n) -> Rf lt f n e (a + n) -> Rf lt f n e a
section
variable {lt : α -> α -> Bool} {f g : Nat -> α} {n e : Nat}
theorem Sd.keep {a b : Nat} (h : Sd lt f a b) (k : ∀ x, a <= x -> x < b -> g x = f x) : Sd lt g a b := fun p q p1 p2 p3 => by rw [k p p1 (by omega), k q (by omega) p3]; exact h p q p1 p2 p3
theorem Rb.keep {a : Nat} (h : Rb lt f n a) (k : ∀ x, x < a -> g x = f x) : Rb lt g n a := by
 induction h with
 | zero => exact .zero
 | more h s ih => exact .more (ih fun x hx => k x (by omega)) (s.keep fun x _ hx => k x hx)
theorem Rf.keep {a : Nat} (h : Rf lt f n e a) (k : ∀ x, a <= x -> x < e -> g x = f x) : Rf lt g n e a := by
 induction h with
 | last h s => exact .last h (s.keep fun x h1 hx => k x h1 hx)
 | more h s _ ih => exact .more h (s.keep fun x h1 hx => k x h1 (by omega)) (ih fun x h1 hx => k x (by omega) hx)
theorem Rb.full {a : Nat} (h : Rb lt f n a) (hae : a <= e) (t : Rf lt f n e a) : Rf lt f n e 0 := by
 induction h with
 | zero => exact t
 | more h s ih => exact ih (by omega) (.more hae s t)
theorem Rf.head {a : Nat} (h : Rf lt f n e a) (hn : a + n <= e) : Sd lt f a (a + n) /\ Rf lt f n e (a + n) := by
 cases h with
 | last h _ => omega
 | more _ s r => exact ⟨s, r⟩
theorem Rf.end {a : Nat} (h : Rf lt f n e a) (hn : e < a + n) : Sd lt f a e := by
 cases h with
 | last _ s => exact s
 | more h _ _ => omega
theorem Rf.end' {a : Nat} (h : Rf lt f n e a) (hn : e <= a + n) : Sd lt f a e := by
 cases h with
 | last _ s => exact s
 | more h s _ => have : a + n = e := by omega
                 exact this ▸ s
end
end Go.Wk

set_option maxRecDepth 100000
namespace Go.Proofs.YtpfkfphjigcdeaaGreatDoor
open Go Go.HL Go.Wk
attribute [local irreducible] ptrW ifW brW andW rdT alW letJ stW muW biW vaW imW callT cvalT app callW invW callVW sizeT oW nilF oneK loopW rfW funW begW roundK exW idxW Gr Put
theorem wI {x : Int} {k : Nat} (h : x = k) (hk : k < 4000000000000000000) : IntKind.i64.wrap x = k := by rw [h]; exact wrap_id (by omega) (by omega)
theorem wAdd {a b : Nat} (h : a + b < 4000000000000000000) : IntKind.i64.wrap ((a : Int) + b) = ((a + b : Nat) : Int) := wI (by omega) h
theorem wSub {a b : Nat} (h : b <= a) (h2 : a < 4000000000000000000) : IntKind.i64.wrap ((a : Int) - b) = ((a - b : Nat) : Int) := wI (by omega) (by omega)
theorem wS {a : Nat} (h : a + 1 < 4000000000000000000) : IntKind.i64.wrap ((a : Int) + 1) = ((a + 1 : Nat) : Int) := wI (by omega) h
theorem wP {a : Nat} (h : 1 <= a) (h2 : a < 4000000000000000000) : IntKind.i64.wrap ((a : Int) - 1) = ((a - 1 : Nat) : Int) := wI (by omega) (by omega)
theorem wHalf {a b : Nat} (h : a + b < 4000000000000000000) : IntKind.i64.wrap (Int.fdiv (IntKind.u64.wrap (IntKind.i64.wrap ((a : Int) + b))) (2 ^ min (Int.toNat 1) (IntKind.bits .u64))) = (((a + b) / 2 : Nat) : Int) := by
 rw [wAdd h]
 have h1 : IntKind.u64.wrap (((a + b : Nat)) : Int) = ((a + b : Nat) : Int) := by
  rw [IntKind.wrap_u64]; omega
 rw [h1]
 have h2 : ((2 : Int) ^ min (Int.toNat 1) (IntKind.bits .u64)) = 2 := by decide
 rw [h2]
 refine wI ?_ (by omega)
 rw [Int.fdiv_eq_ediv_of_nonneg _ (by omega)]; omega
theorem strV_put {l : List ByteArray} {ex : List Value} {k : Nat} {s : ByteArray} (hk : k < l.length) : (strV l ++ ex).take k ++ [Value.string s] ++ (strV l ++ ex).drop (k + 1) = strV (l.set k s) ++ ex := by
 have h1 : strV (l.set k s) = (strV l).set k (.string s) := by simp [strV, List.map_set]
 have h2 : (strV l).length = l.length := by simp [strV]
 rw [h1, <- List.set_append_left _ _ (by omega), List.set_eq_take_append_cons_drop, if_pos (by rw [List.length_append]; omega)]
 simp
structure DS (τ σ : H) (g : Nat) (ex : List Value) (l : List ByteArray) : Prop where
 fr : τ g = none
 gr : Gr τ σ
 cell : σ g = some (.cells ⟨strV l ++ ex⟩ 9 (0, 0))
def SS (τ : H) (g : Nat) (ex : List Value) (l0 : List ByteArray) (σ : H) (f : Nat -> ByteArray) : Prop := ∃ l, DS τ σ g ex l /\ Vw l f /\ l.Perm l0
def Cm (τ : H) (cv : Value) (D : ByteArray -> Prop) (c : ByteArray -> ByteArray -> Int) : Prop :=
 ∀ a b σ K, D a -> D b -> Gr τ σ -> (∀ σ', Gr σ σ' -> K (.int .i64 (c a b)) σ') -> callVW Tryz.prog cv [.string a, .string b] K σ
def ltC (c : ByteArray -> ByteArray -> Int) (a b : ByteArray) : Bool := decide (c a b < 0)
section
variable {τ σ : H} {g n cap : Nat} {ex : List Value} {l0 : List ByteArray} {f : Nat -> ByteArray} {cv : Value} {D : ByteArray -> Prop} {c : ByteArray -> ByteArray -> Int} {K : KH}
theorem SS.gr {σ' : H} (h : SS τ g ex l0 σ f) (hg : Gr σ σ') : SS τ g ex l0 σ' f := by
 obtain ⟨l, h1, h2, h3⟩ := h
 exact ⟨l, ⟨h1.fr, h1.gr.trans hg, hg.get h1.cell⟩, h2, h3⟩
theorem SS.fg (h : SS τ g ex l0 σ f) : Gr τ σ := by obtain ⟨l, h1, h2, h3⟩ := h; exact h1.gr
theorem SS.mem (h : SS τ g ex l0 σ f) {k : Nat} (hk : k < l0.length) : f k ∈ l0 := by
 obtain ⟨l, h1, h2, h3⟩ := h
 rw [<- h3.length_eq] at hk
 exact h3.mem_iff.1 (List.mem_of_getElem? (h2 k hk))
theorem ss_rd (h : SS τ g ex l0 σ f) (hn : n = l0.length) {i : Int} {k : Nat} (hi : i = k) (hk : k < n) {F : Nat -> Nat -> ByteArray -> H -> Prop} (hF : F g 0 (f k) σ) :
 ptrW (some ⟨g, 0, none⟩) (fun b o => ifW (0 <= i /\ i < ((n : Nat) : Int)) (rdT (rdC b (o + i.toNat * 1)) kS (F b o))) σ := by
 obtain ⟨l, h1, h2, h3⟩ := h
 subst hi
 refine ptr_i (if_i ⟨by omega, by omega⟩ (rd_S (rdC_of h1.cell ?_) hF))
 have hkl : k < l.length := by rw [h3.length_eq, <- hn]; exact hk
 rw [show 0 + ((k : Nat) : Int).toNat * 1 = k by omega, List.getElem?_append_left (by simp [strV]; exact hkl)]
 unfold strV
 rw [List.getElem?_map, h2 k hkl]; rfl
theorem ds_st {l : List ByteArray} (h : DS τ σ g ex l) (hn : n = l.length) {i : Int} {k : Nat} (hi : i = k) (hk : k < n) {s : ByteArray} {G : H -> Prop} (hG : ∀ σ', DS τ σ' g ex (l.set k s) -> G σ') :
 ptrW (some ⟨g, 0, none⟩) (fun b o => ifW (0 <= i /\ i < ((n : Nat) : Int)) (stW Tryz.prog 9 (.pointer (some ⟨b, o + i.toNat * 1, none⟩)) (.string s) G)) σ := by
 subst hi
 have e0 : 0 + ((k : Nat) : Int).toNat * 1 = k := by omega
 have hl : (strV l ++ ex).length = l.length + ex.length := by simp [strV]
 refine ptr_i (if_i ⟨by omega, by omega⟩ (st_i h.cell sz_strS (by rw [e0, hl]; simp [arrL, Value.cells]; omega) (by intro x hx; simp [arrL, Value.cells] at hx; subst hx; rfl) (.inl (Nat.le_refl _)) ?_))
 intro σ1 p1
 have e1 : arrL (Value.string s).cells = [.string s] := rfl
 rw [e0, e1] at p1
 refine hG σ1 ⟨h.fr, h.gr.putF p1 h.fr, ?_⟩
 rw [p1.same]
 show some (Obj.cells ⟨List.take k (strV l ++ ex) ++ [.string s] ++ List.drop (k + 1) (strV l ++ ex)⟩ _ _) = _
 rw [strV_put (by omega)]
theorem ss_sw (h : SS τ g ex l0 σ f) (hn : n = l0.length) {ip iq : Int} {p q : Nat} (hp : ip = p) (hq : iq = q) (hpn : p < n) (hqn : q < n) {G : H -> Prop} (hG : ∀ σ', SS τ g ex l0 σ' (swF f q p) -> G σ') :
 ptrW (some ⟨g, 0, none⟩) (fun b o => ifW (0 <= ip /\ ip < ((n : Nat) : Int)) (rdT (rdC b (o + ip.toNat * 1)) kS (fun x =>
  ptrW (some ⟨g, 0, none⟩) (fun b o => ifW (0 <= iq /\ iq < ((n : Nat) : Int)) (rdT (rdC b (o + iq.toNat * 1)) kS (fun y =>
   ptrW (some ⟨g, 0, none⟩) (fun b o => ifW (0 <= iq /\ iq < ((n : Nat) : Int)) (stW Tryz.prog 9 (.pointer (some ⟨b, o + iq.toNat * 1, none⟩)) (.string x)
    (ptrW (some ⟨g, 0, none⟩) (fun b o => ifW (0 <= ip /\ ip < ((n : Nat) : Int)) (stW Tryz.prog 9 (.pointer (some ⟨b, o + ip.toNat * 1, none⟩)) (.string y) G))))))))))) σ := by
 refine ss_rd h hn hp hpn (F := fun b o x => _) (ss_rd h hn hq hqn (F := fun b o y => _) ?_)
 obtain ⟨l, h1, h2, h3⟩ := h
 have hl : n = l.length := by rw [h3.length_eq]; exact hn
 refine ds_st h1 hl hq hqn fun σ1 d1 => ds_st d1 (by rw [List.length_set]; exact hl) hp hpn fun σ2 d2 => hG σ2 ⟨_, d2, ?_⟩
 obtain ⟨v1, v2⟩ := h2.sw (i := q) (j := p) (by omega) (by omega)
 exact ⟨v1, v2.trans h3⟩
theorem ss_cmp (h : SS τ g ex l0 σ f) (hc : Cm τ cv D c) (hD : ∀ s ∈ l0, D s) {p q : Nat} (hp : p < l0.length) (hq : q < l0.length) {F : Int -> H -> Prop} (hF : ∀ σ', SS τ g ex l0 σ' f -> F (c (f p) (f q)) σ') : cvalT Tryz.prog cv [.string (f p), .string (f q)] kI F σ :=
 cvalv_i (hc _ _ _ _ (hD _ (h.mem hp)) (hD _ (h.mem hq)) h.fg fun σ' hg => app_I (hF σ' (h.gr hg)))
theorem s_ins (L : Pre (ltC c)) (hc : Cm τ cv D c) (hD : ∀ s ∈ l0, D s) (hn : n = l0.length) (hbig : n < 1000000000000000000) (h : SS τ g ex l0 σ f) {a b : Nat} (hab : a <= b) (hb : b <= n) (hK : ∀ σ' f', SS τ g ex l0 σ' f' -> Mg (ltC c) f f' a b -> K (.tuple ⟨[]⟩) σ') :
 callW Tryz.prog 112 [.slice (some ⟨g, 0, none⟩) n cap, .int .i64 a, .int .i64 b, cv] K σ := by
 refine c112 ⟨some ⟨g, 0, none⟩, n, cap⟩ _ _ _ ?_
 unfold g112
 refine loop_i fun R hR => ?_
 have key : ∀ m i σ f', b - i = m -> a + 1 <= i -> SS τ g ex l0 σ f' -> Im f f' a b -> Sd (ltC c) f' a i -> R ⟨some ⟨g, 0, none⟩, n, cap⟩ (a : Int) (b : Int) cv (i : Int) σ := by
  intro m
  induction m with
  | zero =>
   intro i σ f' hm hi hs him hsd
   refine hR _ _ _ _ _ _ (br_f (by rw [decide_eq_false_iff_not]; omega) (hK σ f' hs ⟨him, fun p q h1 h2 h3 => hsd p q h1 h2 (by omega)⟩))
  | succ m ih =>
   intro i σ f' hm hi hs him hsd
   refine hR _ _ _ _ _ _ (br_t (by rw [decide_eq_true_eq]; omega) (loop_i fun R2 hR2 => ?_))
   have key2 : ∀ j σ f', a <= j -> j <= i -> SS τ g ex l0 σ f' -> Im f f' a b -> Sj (ltC c) f' a i j -> R2 ⟨some ⟨g, 0, none⟩, n, cap⟩ (a : Int) (b : Int) cv (i : Int) (j : Int) σ := by
    intro j
    induction j with
    | zero =>
     intro σ f' h1 h2 hs him hj
     refine hR2 _ _ _ _ _ _ _ ?_
     refine j_d (br_f (by rw [decide_eq_false_iff_not]; omega) (br_f rfl ?_))
     rw [wI (k := i + 1) (by omega) (by omega)]
     exact ih _ _ f' (by omega) (by omega) hs him (sj_end L hj h2 (.inl (Nat.zero_le _)))
    | succ j ihj =>
     intro σ f' h1 h2 hs him hj
     refine hR2 _ _ _ _ _ _ _ ?_
     refine j_d ?_
     by_cases hja : j + 1 = a
     ·refine br_f (by rw [decide_eq_false_iff_not]; omega) (br_f rfl ?_)
      rw [wI (k := i + 1) (by omega) (by omega)]
      exact ih _ _ f' (by omega) (by omega) hs him (sj_end L hj h2 (.inl (by omega)))
     refine br_t (by rw [decide_eq_true_eq]; omega) ?_
     refine ss_rd hs hn rfl (k := j + 1) (by omega) (F := fun b o x => _) (ss_rd hs hn (k := j) (wI (by omega) (by omega)) (by omega) (F := fun b o y => _) ?_)
     refine ss_cmp hs hc hD (by omega) (by omega) fun σ1 hs1 => ?_
     cases hl : decide (c (f' (j + 1)) (f' j) < 0) with
     | false =>
      refine br_f rfl ?_
      rw [wI (k := i + 1) (by omega) (by omega)]
      exact ih _ _ f' (by omega) (by omega) hs1 him (sj_end L hj h2 (.inr hl))
     | true =>
      refine br_t rfl ?_
      refine ss_sw hs1 hn (p := j) (q := j + 1) (wI (by omega) (by omega)) rfl (by omega) (by omega) fun σ2 hs2 => ?_
      rw [wI (k := j) (by omega) (by omega)]
      exact ihj σ2 _ (by omega) (by omega) hs2 (him.trans (im_sw f' ⟨by omega, by omega⟩ ⟨by omega, by omega⟩)) (sj_step L hj (by omega) h2 hl)
   exact key2 i σ f' (by omega) (Nat.le_refl _) hs him (sj_start hsd)
 rw [wI (k := a + 1) (by omega) (by omega)]
 exact key _ _ σ f rfl (Nat.le_refl _) h (Im.refl _ _ _) (fun p q h1 h2 h3 => by omega)
theorem s_swr (hn : n = l0.length) (hbig : n < 1000000000000000000) (h : SS τ g ex l0 σ f) {a b k : Nat} (hab : a + k <= b) (hb : b + k <= n) (hK : ∀ σ', SS τ g ex l0 σ' (srF f a b k) -> K (.tuple ⟨[]⟩) σ') :
 callW Tryz.prog 154 [.slice (some ⟨g, 0, none⟩) n cap, .int .i64 a, .int .i64 b, .int .i64 k, cv] K σ := by
 refine c154 ⟨some ⟨g, 0, none⟩, n, cap⟩ _ _ _ _ ?_
 unfold g154
 refine loop_i fun R hR => ?_
 have key : ∀ m i σ, k - i = m -> i <= k -> SS τ g ex l0 σ (srF f a b i) -> R ⟨some ⟨g, 0, none⟩, n, cap⟩ (a : Int) (b : Int) (k : Int) (i : Int) σ := by
  intro m
  induction m with
  | zero =>
   intro i σ hm hi hs
   have : i = k := by omega
   subst this
   exact hR _ _ _ _ _ _ (br_f (by rw [decide_eq_false_iff_not]; omega) (hK σ hs))
  | succ m ih =>
   intro i σ hm hi hs
   refine hR _ _ _ _ _ _ (br_t (by rw [decide_eq_true_eq]; omega) ?_)
   refine ss_sw hs hn (p := b + i) (q := a + i) (wI (by omega) (by omega)) (wI (by omega) (by omega)) (by omega) (by omega) fun σ2 hs2 => ?_
   rw [wI (k := i + 1) (by omega) (by omega)]
   rw [sr_succ f (by omega)] at hs2
   exact ih _ σ2 (by omega) (by omega) hs2
 exact key _ 0 σ rfl (Nat.zero_le _) (by rw [sr_zero]; exact h)
theorem s_rot (hn : n = l0.length) (hbig : n < 1000000000000000000) (h : SS τ g ex l0 σ f) {a m b : Nat} (ham : a < m) (hmb : m < b) (hb : b <= n) (hK : ∀ σ', SS τ g ex l0 σ' (rot f a m b) -> K (.tuple ⟨[]⟩) σ') :
 callW Tryz.prog 134 [.slice (some ⟨g, 0, none⟩) n cap, .int .i64 a, .int .i64 m, .int .i64 b, cv] K σ := by
 refine c134 ⟨some ⟨g, 0, none⟩, n, cap⟩ _ _ _ _ ?_
 unfold g134
 refine loop_i fun R hR => ?_
 have key : ∀ x i j σ f', i + j = x -> 1 <= i -> 1 <= j -> i <= m - a -> j <= b - m -> SS τ g ex l0 σ f' -> rot f' (m - i) m (m + j) = rot f a m b -> R ⟨some ⟨g, 0, none⟩, n, cap⟩ (m : Int) cv (i : Int) (j : Int) σ := by
  intro x
  induction x using Nat.strongRecOn with
  | ind x ih =>
   intro i j σ f' hx hi hj him hjb hs hr
   refine hR _ _ _ _ _ _ ?_
   by_cases e : i = j
   ·subst e
    refine br_f (by simp) ?_
    rw [wI (k := m - i) (by omega) (by omega)]
    refine call_i (s_swr hn hbig hs (by omega) (by omega) fun σ1 hs1 => app_U ?_)
    rw [rot_eq f' (by omega), hr] at hs1
    exact hK σ1 hs1
   ·refine br_t (by simpa using by omega) ?_
    by_cases e2 : j < i
    ·refine br_t (by rw [decide_eq_true_eq]; omega) ?_
     rw [wSub (a := m) (b := i) (by omega) (by omega), wSub (a := i) (b := j) (by omega) (by omega)]
     refine call_i (s_swr hn hbig hs (by omega) (by omega) fun σ1 hs1 => app_U ?_)
     exact ih (i - j + j) (by omega) (i - j) j σ1 _ rfl (by omega) hj (by omega) hjb hs1 (by rw [rot_gt f' e2 (by omega)]; exact hr)
    ·refine br_f (by rw [decide_eq_false_iff_not]; omega) ?_
     rw [wSub (a := m) (b := i) (by omega) (by omega), wAdd (a := m) (b := j) (by omega), wSub (a := m + j) (b := i) (by omega) (by omega), wSub (a := j) (b := i) (by omega) (by omega)]
     refine call_i (s_swr hn hbig hs (by omega) (by omega) fun σ1 hs1 => app_U ?_)
     exact ih (i + (j - i)) (by omega) i (j - i) σ1 _ rfl hi (by omega) him (by omega) hs1 (by rw [rot_lt f' (by omega) (by omega)]; exact hr)
 rw [wSub (a := m) (b := a) (by omega) (by omega), wSub (a := b) (b := m) (by omega) (by omega)]
 exact key _ (m - a) (b - m) σ f rfl (by omega) (by omega) (Nat.le_refl _) (Nat.le_refl _) h (by rw [show m - (m - a) = a by omega, show m + (b - m) = b by omega])
end
theorem rot_id {α : Type} (f : Nat -> α) {s m e : Nat} (h1 : s <= m) (h2 : m <= e) (h : s = m \/ m = e) : rot f s m e = f := by
 funext k; simp only [rot]
 rcases h with h | h
 ·subst h; split
  ·congr 1; omega
  ·rw [if_neg (by omega)]
 ·subst h; rw [if_neg (by omega)]; split
  ·congr 1; omega
  ·rfl
section
variable {τ σ : H} {g n cap : Nat} {ex : List Value} {l0 : List ByteArray} {f : Nat -> ByteArray} {cv : Value} {D : ByteArray -> Prop} {c : ByteArray -> ByteArray -> Int} {K : KH}
theorem s_sym (L : Pre (ltC c)) (hc : Cm τ cv D c) (hD : ∀ s ∈ l0, D s) (hn : n = l0.length) (hbig : n < 1000000000000000000) : ∀ x a m b σ f (K : KH), b - a = x -> a < m -> m < b -> b <= n -> Sd (ltC c) f a m -> Sd (ltC c) f m b -> SS τ g ex l0 σ f -> (∀ σ' f', SS τ g ex l0 σ' f' -> Mg (ltC c) f f' a b -> K (.tuple ⟨[]⟩) σ') ->
 callW Tryz.prog 113 [.slice (some ⟨g, 0, none⟩) n cap, .int .i64 a, .int .i64 m, .int .i64 b, cv] K σ := by
 intro x
 induction x using Nat.strongRecOn with
 | ind x ih =>
 intro a m b σ f K hx ham hmb hb ha hbr hs hK
 have self : ∀ k, ltC c (f k) (f k) = false := fun k => by
  cases h : ltC c (f k) (f k) with
  | false => rfl
  | true => exact absurd h (by rw [L.asym _ _ h]; decide)
 refine c113 ⟨some ⟨g, 0, none⟩, n, cap⟩ _ _ _ _ ?_
 unfold g113
 rw [wSub (a := m) (b := a) (by omega) (by omega), wSub (a := b) (b := m) (by omega) (by omega)]
 by_cases c1 : m - a = 1
 ·have em : m = a + 1 := by omega
  subst em
  refine br_t (by rw [c1]; rfl) (loop_i fun R hR => ?_)
  have key : ∀ y i j σ, j - i = y -> a + 1 <= i -> i <= j -> j <= b -> (a + 1 < i -> ltC c (f (i - 1)) (f a) = true) -> (j < b -> ltC c (f j) (f a) = false) -> SS τ g ex l0 σ f -> R ⟨some ⟨g, 0, none⟩, n, cap⟩ (a : Int) cv (i : Int) (j : Int) σ := by
   intro y
   induction y using Nat.strongRecOn with
   | ind y ihy =>
   intro i j σ hy hi hij hj hl hr hs
   refine hR _ _ _ _ _ _ ?_
   by_cases c2 : i = j
   ·subst c2
    refine br_f (by rw [decide_eq_false_iff_not]; omega) (loop_i fun R2 hR2 => ?_)
    have hM : Mg (ltC c) f (rot f a (a + 1) i) a b := by
     refine mg_one L hbr hi hj (fun k k1 k2 => ?_) (fun k k1 k2 => ?_)
     ·by_cases e : k = i - 1
      ·rw [e]; exact hl (by omega)
      ·have h1 := hbr k (i - 1) k1 (by omega) (by omega)
       cases h2 : ltC c (f k) (f a) with
       | true => rfl
       | false => exact absurd (hl (by omega)) (by rw [L.tr _ _ _ h2 h1]; decide)
     ·by_cases e : k = i
      ·rw [e]; exact hr (by omega)
      ·exact L.tr _ _ _ (hr (by omega)) (hbr i k hi (by omega) k2)
    have key2 : ∀ z k σ, i - 1 - k = z -> a <= k -> k <= i - 1 -> SS τ g ex l0 σ (rot f a (a + 1) (k + 1)) -> R2 ⟨some ⟨g, 0, none⟩, n, cap⟩ (i : Int) (k : Int) σ := by
     intro z
     induction z with
     | zero =>
      intro k σ hz h1 h2 hs
      refine hR2 _ _ _ _ ?_
      dsimp only
      rw [wP (a := i) (by omega) (by omega)]
      have : k + 1 = i := by omega
      rw [this] at hs
      exact br_f (by rw [decide_eq_false_iff_not]; omega) (hK σ _ hs hM)
     | succ z ihz =>
      intro k σ hz h1 h2 hs
      refine hR2 _ _ _ _ ?_
      dsimp only
      rw [wP (a := i) (by omega) (by omega)]
      refine br_t (by rw [decide_eq_true_eq]; omega) (ss_sw hs hn (p := k + 1) (q := k) (wS (by omega)) rfl (by omega) (by omega) fun σ2 hs2 => ?_)
      rw [wS (a := k) (by omega)]
      rw [rot_up f h1] at hs2
      exact ihz (k + 1) σ2 (by omega) (by omega) (by omega) hs2
    exact key2 _ a σ rfl (Nat.le_refl _) (by omega) (by rw [rot_up0]; exact hs)
   ·dsimp only
    rw [wHalf (a := i) (b := j) (by omega)]
    refine br_t (by rw [decide_eq_true_eq]; omega) (if_i (by decide) ?_)
    refine ss_rd hs hn rfl (k := (i + j) / 2) (by omega) (F := fun b o x => _) (ss_rd hs hn rfl (by omega) (F := fun b o y => _) ?_)
    refine ss_cmp hs hc hD (by omega) (by omega) fun σ1 hs1 => ?_
    cases h : decide (c (f ((i + j) / 2)) (f a) < 0) with
    | true =>
     refine br_t rfl ?_
     rw [wS (by omega)]
     exact ihy (j - ((i + j) / 2 + 1)) (by omega) _ _ σ1 rfl (by omega) (by omega) hj (fun _ => h) hr hs1
    | false =>
     refine br_f rfl ?_
     exact ihy ((i + j) / 2 - i) (by omega) _ _ σ1 rfl hi (by omega) (by omega) hl (fun _ => h) hs1
  exact key _ (a + 1) b σ rfl (Nat.le_refl _) (by omega) (Nat.le_refl _) (fun h => by omega) (fun h => by omega) hs
 refine br_f (by rw [beq_eq_false_iff_ne]; omega) ?_
 by_cases c2 : b - m = 1
 ·have em : b = m + 1 := by omega
  subst em
  refine br_t (by rw [c2]; rfl) (loop_i fun R hR => ?_)
  have key : ∀ y i j σ, j - i = y -> a <= i -> i <= j -> j <= m -> (a < i -> ltC c (f m) (f (i - 1)) = false) -> (j < m -> ltC c (f m) (f j) = true) -> SS τ g ex l0 σ f -> R ⟨some ⟨g, 0, none⟩, n, cap⟩ (m : Int) cv (i : Int) (j : Int) σ := by
   intro y
   induction y using Nat.strongRecOn with
   | ind y ihy =>
   intro i j σ hy hi hij hj hl hr hs
   refine hR _ _ _ _ _ _ ?_
   by_cases c3 : i = j
   ·subst c3
    refine br_f (by rw [decide_eq_false_iff_not]; omega) (loop_i fun R2 hR2 => ?_)
    have hM : Mg (ltC c) f (rot f i m (m + 1)) a (m + 1) := by
     refine mg_last L ha hi hj (fun k k1 k2 => ?_) (fun k k1 k2 => ?_)
     ·by_cases e : k = i - 1
      ·rw [e]; exact hl (by omega)
      ·exact L.tr _ _ _ (ha k (i - 1) k1 (by omega) (by omega)) (hl (by omega))
     ·by_cases e : k = i
      ·rw [e]; exact hr (by omega)
      ·have h1 := ha i k hi (by omega) k2
       cases h2 : ltC c (f m) (f k) with
       | true => rfl
       | false => exact absurd (hr (by omega)) (by rw [L.tr _ _ _ h1 h2]; decide)
    have key2 : ∀ z k σ, k - i = z -> i <= k -> k <= m -> SS τ g ex l0 σ (rot f k m (m + 1)) -> R2 ⟨some ⟨g, 0, none⟩, n, cap⟩ (i : Int) (k : Int) σ := by
     intro z
     induction z with
     | zero =>
      intro k σ hz h1 h2 hs
      have : k = i := by omega
      subst this
      exact hR2 _ _ _ _ (br_f (by rw [decide_eq_false_iff_not]; omega) (hK σ _ hs hM))
     | succ z ihz =>
      intro k σ hz h1 h2 hs
      refine hR2 _ _ _ _ (br_t (by rw [decide_eq_true_eq]; omega) (ss_sw hs hn (p := k - 1) (q := k) (wP (by omega) (by omega)) rfl (by omega) (by omega) fun σ2 hs2 => ?_))
      rw [wP (a := k) (by omega) (by omega)]
      obtain ⟨k', rfl⟩ : ∃ k', k = k' + 1 := ⟨k - 1, by omega⟩
      rw [Nat.add_sub_cancel, rot_down f (by omega)] at hs2
      exact ihz (k' + 1 - 1) σ2 (by omega) (by omega) (by omega) hs2
    exact key2 _ m σ rfl (by omega) (Nat.le_refl _) (by rw [rot_down0]; exact hs)
   ·dsimp only
    rw [wHalf (a := i) (b := j) (by omega)]
    refine br_t (by rw [decide_eq_true_eq]; omega) (if_i (by decide) ?_)
    refine ss_rd hs hn rfl (k := m) (by omega) (F := fun b o x => _) (ss_rd hs hn rfl (k := (i + j) / 2) (by omega) (F := fun b o y => _) ?_)
    refine ss_cmp hs hc hD (by omega) (by omega) fun σ1 hs1 => ?_
    cases h : decide (c (f m) (f ((i + j) / 2)) < 0) with
    | false =>
     refine br_t rfl ?_
     rw [wS (by omega)]
     exact ihy (j - ((i + j) / 2 + 1)) (by omega) _ _ σ1 rfl (by omega) (by omega) hj (fun _ => h) hr hs1
    | true =>
     refine br_f rfl ?_
     exact ihy ((i + j) / 2 - i) (by omega) _ _ σ1 rfl hi (by omega) (by omega) hl (fun _ => h) hs1
  exact key _ a m σ rfl (Nat.le_refl _) (by omega) (Nat.le_refl _) (fun h => by omega) (fun h => by omega) hs
 refine br_f (by rw [beq_eq_false_iff_ne]; omega) (if_i (by decide) ?_)
 rw [wHalf (a := a) (b := b) (by omega)]
 obtain ⟨mid, hmid⟩ : ∃ mid, mid = (a + b) / 2 := ⟨_, rfl⟩
 rw [<- hmid]
 rw [wAdd (a := mid) (b := m) (by omega)]
 refine j_i (fun j => ∀ s0 r0 : Nat, (m > mid /\ s0 = mid + m - b /\ r0 = mid \/ m <= mid /\ s0 = a /\ r0 = m) -> j ⟨some ⟨g, 0, none⟩, n, cap⟩ (a : Int) (m : Int) (b : Int) cv (mid : Int) ((mid + m : Nat) : Int) (s0 : Int) (r0 : Int) σ) ?_ ?_
 case refine_2 =>
  intro j hj
  by_cases c3 : m > mid
  ·refine br_t (by rw [decide_eq_true_eq]; omega) ?_
   rw [wSub (a := mid + m) (b := b) (by omega) (by omega)]
   exact hj _ _ (.inl ⟨c3, rfl, rfl⟩)
  ·exact br_f (by rw [decide_eq_false_iff_not]; omega) (hj _ _ (.inr ⟨by omega, rfl, rfl⟩))
 intro s0 r0 hsr
 rw [wP (a := mid + m) (by omega) (by omega)]
 refine loop_i fun R hR => ?_
 have key : ∀ y s r σ, r - s = y -> s0 <= s -> s <= r -> r <= r0 -> (s0 < s -> ltC c (f (mid + m - 1 - (s - 1))) (f (s - 1)) = false) -> (r < r0 -> ltC c (f (mid + m - 1 - r)) (f r) = true) -> SS τ g ex l0 σ f ->
  R ⟨some ⟨g, 0, none⟩, n, cap⟩ (a : Int) (m : Int) (b : Int) cv (mid : Int) ((mid + m : Nat) : Int) (s : Int) (r : Int) ((mid + m - 1 : Nat) : Int) σ := by
  intro y
  induction y using Nat.strongRecOn with
  | ind y ihy =>
  intro s r σ hy hs0 hsr1 hr0 hl hr hs
  refine hR _ _ _ _ _ _ _ _ _ _ _ ?_
  dsimp only
  by_cases c3 : s = r
  ·subst c3
   obtain ⟨e, he⟩ : ∃ e, e = mid + m - s := ⟨_, rfl⟩
   have hes : s <= mid := by omega
   have hsm : s <= m := by omega
   have hme : m <= e := by omega
   have heb : e <= b := by omega
   have has : a <= s := by omega
   have hmide : mid = s + (e - m) := by omega
   obtain ⟨q1, q2, q3, q4, q5⟩ := cut_runs (lt := ltC c) L (mid := mid) ha hbr has hsm hme heb hmide
    (fun h1 h2 => by have := hl (by omega); rwa [show mid + m - 1 - (s - 1) = e by omega] at this)
    (fun h1 h2 => by have := hr (by omega); rwa [show mid + m - 1 - s = e - 1 by omega] at this)
   refine br_f (by rw [decide_eq_false_iff_not]; omega) ?_
   rw [wSub (a := mid + m) (b := s) (by omega) (by omega), <- he]
   refine j_i (fun j => ∀ σ, SS τ g ex l0 σ (rot f s m e) -> j ⟨some ⟨g, 0, none⟩, n, cap⟩ (a : Int) (b : Int) cv (mid : Int) (s : Int) (e : Int) σ) ?_ ?_
   case refine_2 =>
    intro j hj
    refine j_d ?_
    by_cases c4 : s < m
    ·refine br_t (by rw [decide_eq_true_eq]; omega) ?_
     by_cases c5 : m < e
     ·refine br_t (by rw [decide_eq_true_eq]; omega) ?_
      exact call_i (s_rot hn hbig hs c4 c5 (by omega) fun σ1 hs1 => app_U (hj σ1 hs1))
     ·refine br_f (by rw [decide_eq_false_iff_not]; omega) (hj σ ?_)
      rw [rot_id f hsm hme (.inr (by omega))]; exact hs
    ·refine br_f (by rw [decide_eq_false_iff_not]; omega) (br_f rfl (hj σ ?_))
     rw [rot_id f hsm hme (.inl (by omega))]; exact hs
   intro σ1 hs1
   have im1 : Im f (rot f s m e) a b := (im_rot f hsm hme).wide has heb
   refine j_i (fun j => ∀ σ f', SS τ g ex l0 σ f' -> Mg (ltC c) (rot f s m e) f' a mid -> j ⟨some ⟨g, 0, none⟩, n, cap⟩ (b : Int) cv (mid : Int) (e : Int) σ) ?_ ?_
   case refine_2 =>
    intro j hj
    refine j_d ?_
    by_cases c4 : a < s
    ·refine br_t (by rw [decide_eq_true_eq]; omega) ?_
     by_cases c5 : s < mid
     ·refine br_t (by rw [decide_eq_true_eq]; omega) ?_
      exact call_i (ih (mid - a) (by omega) a s mid σ1 _ _ rfl c4 c5 (by omega) q1 q2 hs1 fun σ2 f2 hs2 m2 => app_U (hj σ2 f2 hs2 m2))
     ·refine br_f (by rw [decide_eq_false_iff_not]; omega) (hj σ1 _ hs1 (mg_self ?_))
      have : s = mid := by omega
      rw [this] at q1
      exact this ▸ q1
    ·refine br_f (by rw [decide_eq_false_iff_not]; omega) (br_f rfl (hj σ1 _ hs1 (mg_self ?_)))
     have : s = a := by omega
     exact this ▸ q2
   intro σ2 f2 hs2 m2
   have kp : ∀ k, mid <= k -> f2 k = rot f s m e k := fun k hk => m2.im.out k (by omega)
   have r3 : Sd (ltC c) f2 mid e := q3.keep fun k h1 _ => kp k h1
   have r4 : Sd (ltC c) f2 e b := q4.keep fun k h1 _ => kp k (by omega)
   have fin : ∀ σ3 f3, SS τ g ex l0 σ3 f3 -> Mg (ltC c) f2 f3 mid b -> K (.tuple ⟨[]⟩) σ3 := fun σ3 f3 hs3 m3 => by
    have := join_runs (by omega) (by omega) q5 m2 m3
    exact hK σ3 f3 hs3 ⟨im1.trans this.im, this.sd⟩
   refine j_d ?_
   by_cases c4 : mid < e
   ·refine br_t (by rw [decide_eq_true_eq]; omega) ?_
    by_cases c5 : e < b
    ·refine br_t (by rw [decide_eq_true_eq]; omega) ?_
     exact call_i (ih (b - mid) (by omega) mid e b σ2 _ _ rfl c4 c5 hb r3 r4 hs2 fun σ3 f3 hs3 m3 => app_U (fin σ3 f3 hs3 m3))
    ·refine br_f (by rw [decide_eq_false_iff_not]; omega) (fin σ2 f2 hs2 (mg_self ?_))
     have : e = b := by omega
     exact this ▸ r3
   ·refine br_f (by rw [decide_eq_false_iff_not]; omega) (br_f rfl (fin σ2 f2 hs2 (mg_self ?_)))
    have : e = mid := by omega
    exact this ▸ r4
  ·rw [wHalf (a := s) (b := r) (by omega)]
   obtain ⟨h, hh⟩ : ∃ h, h = (s + r) / 2 := ⟨_, rfl⟩
   rw [<- hh, wSub (a := mid + m - 1) (b := h) (by omega) (by omega)]
   refine br_t (by rw [decide_eq_true_eq]; omega) (if_i (by decide) ?_)
   refine ss_rd hs hn rfl (k := mid + m - 1 - h) (by omega) (F := fun b o x => _) (ss_rd hs hn rfl (k := h) (by omega) (F := fun b o y => _) ?_)
   refine ss_cmp hs hc hD (by omega) (by omega) fun σ1 hs1 => ?_
   cases hcm : decide (c (f (mid + m - 1 - h)) (f h) < 0) with
   | false =>
    refine br_t rfl ?_
    rw [wS (a := h) (by omega)]
    exact ihy (r - (h + 1)) (by omega) _ _ σ1 rfl (by omega) (by omega) hr0 (fun _ => hcm) hr hs1
   | true =>
    refine br_f rfl ?_
    exact ihy (h - s) (by omega) _ _ σ1 rfl hs0 (by omega) (by omega) hl (fun _ => hcm) hs1
 exact key _ s0 r0 σ rfl (Nat.le_refl _) (by omega) (Nat.le_refl _) (fun h => by omega) (fun h => by omega) hs
end
theorem wTwo {a : Nat} (h : 2 * a < 4000000000000000000) : IntKind.i64.wrap (2 * (a : Int)) = ((2 * a : Nat) : Int) := wI (by omega) h
theorem wTwo2 {a : Nat} (h : 2 * a < 4000000000000000000) : IntKind.i64.wrap ((a : Int) * 2) = ((2 * a : Nat) : Int) := wI (by omega) h
theorem sd_pair {lt : ByteArray -> ByteArray -> Bool} {l : List ByteArray} {f : Nat -> ByteArray} (h : Vw l f) (hs : Sd lt f 0 l.length) : l.Pairwise (fun a b => lt b a = false) := by
 rw [List.pairwise_iff_getElem]
 intro i j hi hj hij
 have e1 := h i hi
 have e2 := h j hj
 rw [List.getElem?_eq_getElem hi] at e1
 rw [List.getElem?_eq_getElem hj] at e2
 rw [Option.some.inj e1, Option.some.inj e2]
 exact hs i j (Nat.zero_le _) hij hj
section
variable {τ σ : H} {g n cap : Nat} {ex : List Value} {l0 : List ByteArray} {f : Nat -> ByteArray} {cv : Value} {D : ByteArray -> Prop} {c : ByteArray -> ByteArray -> Int} {K : KH}
theorem s_stab (L : Pre (ltC c)) (hc : Cm τ cv D c) (hD : ∀ s ∈ l0, D s) (hn : n = l0.length) (hbig : n < 100000000000000000) (h : SS τ g ex l0 σ f) (hK : ∀ σ' f', SS τ g ex l0 σ' f' -> Sd (ltC c) f' 0 n -> K (.tuple ⟨[]⟩) σ') :
 callW Tryz.prog 86 [.slice (some ⟨g, 0, none⟩) n cap, .int .i64 (n : Int), cv] K σ := by
 refine c86 ⟨some ⟨g, 0, none⟩, n, cap⟩ _ _ ?_
 unfold g86
 refine loop_i fun R hR => ?_
 have key : ∀ y a σ f', n - a = y -> a <= n -> Rb (ltC c) f' 20 a -> SS τ g ex l0 σ f' -> R ⟨some ⟨g, 0, none⟩, n, cap⟩ (n : Int) cv 20 (a : Int) ((a + 20 : Nat) : Int) σ := by
  intro y
  induction y using Nat.strongRecOn with
  | ind y ih =>
  intro a σ f' hy ha hb hs
  refine hR _ _ _ _ _ _ _ ?_
  dsimp only
  by_cases c1 : a + 20 <= n
  ·refine br_t (by rw [decide_eq_true_eq]; omega) (call_i (s_ins L hc hD hn (by omega) hs (by omega) c1 fun σ1 f1 hs1 m1 => app_U ?_))
   rw [show ((a + 20 : Nat) : Int) + 20 = ((a + 20 + 20 : Nat) : Int) by omega, wI (k := a + 20 + 20) rfl (by omega)]
   exact ih (n - (a + 20)) (by omega) (a + 20) σ1 f1 rfl c1 (.more (hb.keep fun x hx => m1.im.out x (by omega)) m1.sd) hs1
  refine br_f (by rw [decide_eq_false_iff_not]; omega) (call_i (s_ins L hc hD hn (by omega) hs ha (Nat.le_refl _) fun σ1 f1 hs1 m1 => app_U ?_))
  have r0 : Rf (ltC c) f1 20 n 0 := (hb.keep fun x hx => m1.im.out x (by omega)).full ha (.last (by omega) m1.sd)
  clear ih hy hb hs hR m1 c1 ha
  refine loop_i fun R2 hR2 => ?_
  have key2 : ∀ y bs σ f', n - bs = y -> 1 <= bs -> bs <= 2 * n + 20 -> Rf (ltC c) f' bs n 0 -> SS τ g ex l0 σ f' -> R2 ⟨some ⟨g, 0, none⟩, n, cap⟩ (n : Int) cv (bs : Int) σ := by
   intro y
   induction y using Nat.strongRecOn with
   | ind y ih =>
   intro bs σ f' hy hb1 hb2 hr hs
   refine hR2 _ _ _ _ _ ?_
   dsimp only
   by_cases c1 : bs < n
   ·rw [wTwo (a := bs) (by omega)]
    refine br_t (by rw [decide_eq_true_eq]; omega) (loop_i fun R3 hR3 => ?_)
    have key3 : ∀ z a σ f', n - a = z -> a <= n -> Rb (ltC c) f' (2 * bs) a -> Rf (ltC c) f' bs n a -> SS τ g ex l0 σ f' -> R3 ⟨some ⟨g, 0, none⟩, n, cap⟩ (n : Int) cv (bs : Int) (a : Int) ((a + 2 * bs : Nat) : Int) σ := by
     intro z
     induction z using Nat.strongRecOn with
     | ind z ihz =>
     intro a σ f' hz ha hp hq hs
     refine hR3 _ _ _ _ _ _ _ ?_
     dsimp only
     rw [wAdd (a := a) (b := bs) (by omega), wTwo (a := bs) (by omega)]
     by_cases c2 : a + 2 * bs <= n
     ·obtain ⟨s1, t1⟩ := hq.head (by omega)
      obtain ⟨s2, t2⟩ := t1.head (by omega)
      have e2 : a + bs + bs = a + 2 * bs := by omega
      rw [e2] at s2 t2
      rw [wAdd (a := a + 2 * bs) (b := 2 * bs) (by omega)]
      refine br_t (by rw [decide_eq_true_eq]; omega) (call_i (s_sym L hc hD hn (by omega) _ a (a + bs) (a + 2 * bs) σ f' _ rfl (by omega) (by omega) c2 s1 s2 hs fun σ1 f1 hs1 m1 => app_U ?_))
      exact ihz (n - (a + 2 * bs)) (by omega) (a + 2 * bs) σ1 f1 rfl c2 (.more (hp.keep fun x hx => m1.im.out x (by omega)) m1.sd) (t2.keep fun x h1 _ => m1.im.out x (by omega)) hs1
     ·refine br_f (by rw [decide_eq_false_iff_not]; omega) ?_
      refine j_i (fun j => ∀ σ1 f1, SS τ g ex l0 σ1 f1 -> Rf (ltC c) f1 (2 * bs) n 0 -> j ⟨some ⟨g, 0, none⟩, n, cap⟩ (n : Int) cv (bs : Int) σ1) ?_ ?_
      ·intro σ1 f1 hs1 hr1
       rw [wTwo2 (a := bs) (by omega)]
       exact ih (n - 2 * bs) (by omega) (2 * bs) σ1 f1 rfl (by omega) (by omega) hr1 hs1
      intro j hj
      by_cases c3 : a + bs < n
      ·obtain ⟨s1, t1⟩ := hq.head (by omega)
       refine br_t (by rw [decide_eq_true_eq]; omega) (call_i (s_sym L hc hD hn (by omega) _ a (a + bs) n σ f' _ rfl (by omega) c3 (Nat.le_refl _) s1 (t1.end' (by omega)) hs fun σ1 f1 hs1 m1 => app_U ?_))
       exact hj σ1 f1 hs1 ((hp.keep fun x hx => m1.im.out x (by omega)).full ha (.last (by omega) m1.sd))
      ·exact br_f (by rw [decide_eq_false_iff_not]; omega) (hj σ f' hs (hp.full ha (.last (by omega) (hq.end' (by omega)))))
    have := key3 _ 0 σ f' rfl (Nat.zero_le _) .zero hr hs
    rw [Nat.zero_add] at this
    exact this
   ·exact br_f (by rw [decide_eq_false_iff_not]; omega) (hK σ f' hs (hr.end' (by omega)))
  exact key2 _ 20 σ1 f1 rfl (by omega) (by omega) r0 hs1
 exact key _ 0 σ f rfl (Nat.zero_le _) .zero h
end
theorem s_Stable {ρ σ : H} {l : List ByteArray} {x : Sl} {cv : Value} {D : ByteArray -> Prop} {c : ByteArray -> ByteArray -> Int} {K : KH} (L : Pre (ltC c)) (hc : Cm ρ cv D c) (hD : ∀ s ∈ l, D s) (hbig : l.length < 100000000000000000)
 (h : RNew ρ σ 9 1 (strRows l) x) (hK : ∀ l' σ', l'.Perm l -> l'.Pairwise (fun a b => ltC c b a = false) -> RNew ρ σ' 9 1 (strRows l') x -> K (.tuple ⟨[]⟩) σ') : callW Tryz.prog 59 [.slice x.base x.len x.cap, cv] K σ := by
 refine c59 x _ ?_
 unfold g59
 have hlen : x.len = l.length := by rw [h.len]; simp [strRows]
 obtain ⟨h1, ⟨h2, h3, ⟨h4, h5, h6⟩ | ⟨g, cur, h4, h5, h6, h7, h8⟩⟩, h9⟩ := id h
 ·have hl : l = [] := by simpa [strRows] using h6
  subst hl
  have hx : x = ⟨none, 0, 0⟩ := by
   cases x; simp only at h4 h5 hlen; subst h4; subst h5; subst hlen; rfl
  subst hx
  refine call_i (c86 ⟨none, 0, 0⟩ _ _ ?_)
  unfold g86
  refine loop_i fun R hR => ?_
  refine hR _ _ _ _ _ _ _ (br_f (by decide) (call_i (c112 ⟨none, 0, 0⟩ _ _ _ ?_)))
  unfold g112
  refine loop_i fun R2 hR2 => ?_
  refine hR2 _ _ _ _ _ _ (br_f (by decide) (app_U ?_))
  refine loop_i fun R3 hR3 => ?_
  refine hR3 _ _ _ _ _ (br_f (by decide) (app_U ?_))
  exact hK [] σ (List.Perm.refl _) List.Pairwise.nil h
 ·obtain ⟨xb, n, cap⟩ := x
  simp only at hlen h4 h6 h7 h8
  subst h4
  rw [Nat.mul_one, strV_flat] at h8
  have hf : Vw l (fun k => l.getD k ⟨⟨[]⟩⟩) := fun k hk => by
   show l[k]? = some (l.getD k ⟨⟨[]⟩⟩)
   rw [List.getD_eq_getElem?_getD, List.getElem?_eq_getElem hk]; rfl
  have hcur : cur = strV l ++ cur.drop n := by rw [<- h8]; exact (List.take_append_drop n cur).symm
  have hs : SS ρ g (cur.drop n) l σ (fun k => l.getD k ⟨⟨[]⟩⟩) := ⟨l, ⟨h9 g rfl, h1, by rw [<- hcur]; exact h5⟩, hf, List.Perm.refl _⟩
  refine call_i (s_stab L hc hD hlen (by rw [hlen]; exact hbig) hs fun σ' f' hs' hsd => app_U ?_)
  obtain ⟨l', d, v, p⟩ := hs'
  have hl' : l'.length = n := by rw [p.length_eq]; omega
  have hv' : (strV l').length = n := by simp [strV, hl']
  refine hK l' σ' p (sd_pair v (by rw [hl']; exact hsd)) ⟨d.gr, ⟨by simp [strRows, hl'], by intro r hr; simp [strRows] at hr; obtain ⟨_, _, rfl⟩ := hr; rfl, .inr ⟨g, _, rfl, d.cell, ?_, h7, ?_⟩⟩, h9⟩
  ·have e1 : (strV l ++ List.drop n cur).length = cur.length := by rw [<- hcur]
   have hv : (strV l).length = n := by simp [strV]; omega
   rw [List.length_append] at e1 ⊢
   rw [<- h6]; omega
  ·rw [Nat.mul_one, strV_flat]
   show List.take n _ = _
   rw [List.take_append_of_le_length (by omega), List.take_of_length_le (by omega)]
end Go.Proofs.YtpfkfphjigcdeaaGreatDoor

namespace Go.Wk
open Go Go.HL
structure Opt where
 l : UInt8
 v : ByteArray
 w : Bool
def bl (s : ByteArray) : List UInt8 := s.data.toList
def opsF (fl va : List UInt8) : List ByteArray -> List Opt × List ByteArray
 | [] => ([], [])
 | a :: r => match bl a with
  | 45 :: c :: t =>
   if c == 45 && t.isEmpty then ([], r)
   else if va.contains c then
    if t.isEmpty then match r with
     | [] => ([⟨c, ⟨⟨[]⟩⟩, true⟩], [])
     | v :: r' => (⟨c, v, false⟩ :: (opsF fl va r').1, (opsF fl va r').2)
    else (⟨c, ⟨⟨t⟩⟩, false⟩ :: (opsF fl va r).1, (opsF fl va r).2)
   else ((c :: t).map (fun x => ⟨x, ⟨⟨[]⟩⟩, !fl.contains x⟩) ++ (opsF fl va r).1, (opsF fl va r).2)
  | _ => ([], a :: r)
def stopA : List UInt8 -> Bool
 | 45 :: _ :: _ => false
 | _ => true
theorem stopA_f {l : List UInt8} (h : stopA l = false) : ∃ c t, l = 45 :: c :: t := by
 unfold stopA at h
 split at h
 ·exact ⟨_, _, rfl⟩
 ·cases h
theorem stopA_ne {u : UInt8} (h : u ≠ 45) (t : List UInt8) : stopA (u :: t) = true := by
 unfold stopA
 split
 ·rename_i e; exact absurd (List.cons.inj e).1 h
 ·rfl
theorem opsF_stop (fl va : List UInt8) {l : List UInt8} (h : stopA l = true) (r : List ByteArray) : opsF fl va (⟨⟨l⟩⟩ :: r) = ([], ⟨⟨l⟩⟩ :: r) := by
 have key : ∀ c t, l ≠ 45 :: c :: t := by rintro c t rfl; cases h
 unfold opsF bl
 split
 ·rename_i e; exact absurd e (key _ _)
 ·rfl
def flagsP (fl : List UInt8) (args : List ByteArray) : Option (List UInt8 × List ByteArray) :=
 if (opsF fl [] args).1.any (·.w) then none else some ((opsF fl [] args).1.map (·.l), (opsF fl [] args).2)
def putsP (l : List Opt) (m : List (Int × ByteArray)) : List (Int × ByteArray) := l.foldl (fun m o => up ((o.l.toNat : Nat) : Int) o.v m) m
def valuesP (va : List UInt8) (args : List ByteArray) : Option (List (Int × ByteArray) × List ByteArray) :=
 if (opsF [] va args).1.any (·.w) then none else some (putsP (opsF [] va args).1 [], (opsF [] va args).2)
def linesP (l : List UInt8) : List ByteArray := if l.isEmpty then [] else partsOf 10 ⟨⟨trimEnd l [10]⟩⟩
def joinedP (L : List ByteArray) : List UInt8 := L.flatMap fun s => bl s ++ [10]
def failsP (nm name : ByteArray) (e : Int) : Dn := ⟨⟨⟨[]⟩⟩, ((((nm ++ ⟨⟨[58, 32]⟩⟩) ++ name) ++ ⟨⟨[58, 32]⟩⟩) ++ fmtP 10 e) ++ ⟨⟨[10]⟩⟩, 1⟩
def numberP (l : List UInt8) : Option Nat := if l.isEmpty || (decide (l.length > 6) || !l.all dig) then none else some (numL l 0)
def doneP (out : List UInt8) : Dn := ⟨⟨⟨out⟩⟩, ⟨⟨[]⟩⟩, 0⟩
def aliN (a : ByteArray) : List ByteArray -> Nat
 | [] => 0
 | b :: r => if sEq b a then aliN a r + 1 else 0
theorem aliN_le (a : ByteArray) (r : List ByteArray) : aliN a r <= r.length := by
 induction r with
 | nil => exact Nat.le_refl _
 | cons b r ih => unfold aliN; split <;> simp only [List.length_cons] <;> omega
theorem aliN_get (a : ByteArray) : ∀ (r : List ByteArray) (k : Nat), k < aliN a r -> r[k]? = some a := by
 intro r
 induction r with
 | nil => intro k h; cases h
 | cons b r ih =>
  intro k h
  unfold aliN at h
  split at h
  ·rename_i e
   cases k with
   | zero => rw [sEq_iff.1 e]; rfl
   | succ k => exact ih k (by omega)
  ·cases h
theorem aliN_end (a : ByteArray) : ∀ (r : List ByteArray) (b : ByteArray), r[aliN a r]? = some b -> strEq b a = false := by
 intro r
 induction r with
 | nil => intro b h; cases h
 | cons c r ih =>
  intro b h
  unfold aliN at h
  split at h
  ·exact ih b h
  ·rename_i e
   cases h
   rw [<- sEq_eq]; simpa using e
def uniqP (c d : Bool) : Nat -> List ByteArray -> List ByteArray
 | 0, _ => []
 | _ + 1, [] => []
 | f + 1, a :: r => (if Nat.ble 2 (aliN a r + 1) || !d then [if c then (fmtP 10 ((aliN a r + 1 : Nat) : Int) ++ ⟨⟨[32]⟩⟩) ++ a else a] else []) ++ uniqP c d f (r.drop (aliN a r))
def dgT (e : ByteArray -> ByteArray -> Bool) : ByteArray -> List ByteArray -> List ByteArray
 | _, [] => []
 | p, b :: r => if e b p then dgT e b r else b :: dgT e b r
def dgP (e : ByteArray -> ByteArray -> Bool) : List ByteArray -> List ByteArray
 | [] => []
 | a :: r => a :: dgT e a r
theorem dgT_id {e : ByteArray -> ByteArray -> Bool} : ∀ (r : List ByteArray) (p : ByteArray), (∀ i a b, (p :: r)[i]? = some a -> (p :: r)[i + 1]? = some b -> e b a = false) -> dgT e p r = r := by
 intro r
 induction r with
 | nil => intro p _; rfl
 | cons b r ih =>
  intro p h
  show (if e b p then dgT e b r else b :: dgT e b r) = _
  rw [h 0 p b rfl rfl, ih b fun i a c h1 h2 => h (i + 1) a c h1 h2]; rfl
theorem dgT_app {e : ByteArray -> ByteArray -> Bool} : ∀ (u : List ByteArray) (p q : ByteArray) (r : List ByteArray), (∀ i a b, (p :: (u ++ [q]))[i]? = some a -> (p :: (u ++ [q]))[i + 1]? = some b -> e b a = false) -> dgT e p (u ++ q :: r) = u ++ q :: dgT e q r := by
 intro u
 induction u with
 | nil =>
  intro p q r h
  show (if e q p then dgT e q r else q :: dgT e q r) = _
  rw [h 0 p q rfl rfl]; rfl
 | cons b u ih =>
  intro p q r h
  show (if e b p then dgT e b (u ++ q :: r) else b :: dgT e b (u ++ q :: r)) = _
  rw [h 0 p b rfl rfl, ih b q r fun i a c h1 h2 => h (i + 1) a c h1 h2]; rfl
def blankB (c : UInt8) : Bool := c == 32 || (c == 9 || c == 10)
def spansP : List UInt8 -> Nat -> Option Nat -> List (Nat × Nat)
 | [], pos, none => []
 | [], pos, some s => [(s, pos)]
 | c :: r, pos, none => if blankB c then spansP r (pos + 1) none else spansP r (pos + 1) (some pos)
 | c :: r, pos, some s => if blankB c then (s, pos) :: spansP r (pos + 1) none else spansP r (pos + 1) (some s)
theorem spansP_ok : ∀ (r : List UInt8) (pos : Nat) (st : Option Nat), (∀ s, st = some s -> s <= pos) -> (∀ x ∈ spansP r pos st, x.1 <= x.2 /\ x.2 <= pos + r.length) /\ (spansP r pos st).length <= r.length + 1 := by
 intro r
 induction r with
 | nil =>
  intro pos st h
  cases st with
  | none => exact ⟨fun x h => (by cases h), by simp [spansP]⟩
  | some s => exact ⟨fun x hx => by simp [spansP] at hx; subst hx; exact ⟨h s rfl, by simp⟩, by simp [spansP]⟩
 | cons c r ih =>
  intro pos st h
  cases st with
  | none =>
   unfold spansP
   split
   ·have := ih (pos + 1) none (fun s hs => by cases hs)
    exact ⟨fun x hx => by have := this.1 x hx; simp only [List.length_cons]; omega, by have := this.2; simp only [List.length_cons]; omega⟩
   ·have := ih (pos + 1) (some pos) (fun s hs => by cases hs; omega)
    exact ⟨fun x hx => by have := this.1 x hx; simp only [List.length_cons]; omega, by have := this.2; simp only [List.length_cons]; omega⟩
  | some s =>
   have hs := h s rfl
   unfold spansP
   split
   ·have := ih (pos + 1) none (fun s hs => by cases hs)
    refine ⟨fun x hx => ?_, by have := this.2; simp only [List.length_cons]; omega⟩
    rcases List.mem_cons.1 hx with rfl | hx
    ·simp only [List.length_cons]; omega
    ·have := this.1 x hx; simp only [List.length_cons]; omega
   ·have := ih (pos + 1) (some s) (fun s' hs' => by cases hs'; omega)
    exact ⟨fun x hx => by have := this.1 x hx; simp only [List.length_cons]; omega, by have := this.2; simp only [List.length_cons]; omega⟩
def rangeB (a b : UInt8) : List UInt8 := (List.range (b.toNat + 1 - a.toNat)).map fun i => UInt8.ofNat (a.toNat + i)
def setP : List UInt8 -> Option (List UInt8)
 | [] => some []
 | [a] => some [a]
 | [a, b] => some [a, b]
 | a :: m :: b :: r => if m == 45 then (if a.toNat > b.toNat then none else (setP r).map (rangeB a b ++ ·)) else (setP (m :: b :: r)).map (a :: ·)
def trP (fr tq : List UInt8) (del : Bool) (l : List UInt8) : List UInt8 := l.flatMap fun c => if fr.contains c then (if del then [] else [tq.getD (min (tq.length - 1) (lastN c fr - 1)) 0]) else [c]
end Go.Wk

set_option maxRecDepth 100000
namespace Go.Proofs.YtpfkfphjigcdeaaGreatDoor
open Go Go.HL Go.Wk
attribute [local irreducible] ptrW ifW brW andW rdT alW letJ stW muW biW vaW imW callT cvalT app callW invW callVW sizeT oW nilF oneK loopW rfW funW begW roundK exW idxW Gr Put
theorem sz_strsT : sizeT Tryz.prog 26 = some 1 := by kernel_rfl
theorem sz_boolT : sizeT Tryz.prog 4 = some 1 := by kernel_rfl
theorem sz_option : sizeT Tryz.prog 108 = some 3 := by kernel_rfl
theorem go_txOptions1 : isGo Tryz.prog 91 = true := by kernel_rfl
theorem u8bT (c : UInt8) : ((((c.toNat : Nat) : Int)).toNat).toUInt8 = c := by
 rw [Int.toNat_natCast]; exact UInt8.ofNat_toNat
theorem fI_iff {l : List UInt8} {c : UInt8} : decide (firstIdx ⟨⟨l⟩⟩ c >= 0) = l.contains c := by
 rcases firstIdx_split ⟨⟨l⟩⟩ c with ⟨h1, h2⟩ | ⟨i, h1, h2, h3, h4⟩
 ·rw [h1]
  have : l.contains c = false := by
   rw [Bool.eq_false_iff]; intro h; rw [List.contains_iff_mem] at h; exact h2 h
  rw [this]; rfl
 ·have h5 : l = List.take i l ++ c :: List.drop (i + 1) l := h4
  have : l.contains c = true := by rw [List.contains_iff_mem, h5]; simp
  rw [this, decide_eq_true_eq]; omega
theorem fI_iff2 {l : List UInt8} {c : UInt8} : decide (firstIdx ⟨⟨l⟩⟩ c < 0) = !l.contains c := by
 rw [<- fI_iff, <- decide_not]
 congr 1
 rw [eq_iff_iff]; omega
def slC (z : Sl) : Obj := .cells ⟨[.slice z.base z.len z.cap]⟩ 26 (0, 0)
def opV (o : Opt) : Value := .agg ⟨[.int .u8 ((o.l.toNat : Nat) : Int), .string o.v, .bool o.w]⟩
structure OpC (ρ : H) (br : Nat) (y : Value) (I : List Opt -> H -> Prop) (S : H -> Prop) : Prop where
 nb : ρ br = none
 fr : ∀ r σ, I r σ -> Gr ρ σ
 gr : ∀ r σ σ', I r σ -> Gr σ σ' -> I r σ'
 set : ∀ r σ o σ', I r σ -> Put σ br o σ' -> I r σ'
 call : ∀ o r σ K z, I (o :: r) σ -> σ br = some (slC z) -> (∀ σ', I r σ' -> σ' br = some (slC z) -> K (.bool true) σ') -> (∀ σ', S σ' -> K (.bool false) σ') -> callVW Tryz.prog y [opV o] K σ
theorem wT (s : ByteArray) : ∃ l, s = ⟨⟨l⟩⟩ := ⟨s.data.toList, rfl⟩
section
variable {ρ σ : H} {br b5 b6 b7 b8 : Nat} {y : Value} {I : List Opt -> H -> Prop} {S : H -> Prop} {fl va : List UInt8}
theorem s_txOptions1 (C : OpC ρ br y I S) {args : List ByteArray} {x : Sl} (hx : RowsAt ρ 1 (strRows args) x) (hxc : x.len <= x.cap) (hz : ∀ a ∈ args, a.size <= 1000000000)
 (h5 : ρ b5 = some (slC x)) (h6 : ρ b6 = some (.cells ⟨[.string ⟨⟨fl⟩⟩]⟩ 9 (0, 0))) (h7 : ρ b7 = some (.cells ⟨[.string ⟨⟨va⟩⟩]⟩ 9 (0, 0))) (h8 : ρ b8 = some (.cells ⟨[.pointer (some ⟨br, 0, none⟩)]⟩ 106 (0, 0)))
 {z0 : Sl} (hi : I (opsF fl va args).1 σ) (hbr : σ br = some (slC z0)) {K : KH}
 (hK : ∀ σ' z, I [] σ' -> σ' br = some (slC z) -> RowsAt ρ 1 (strRows (opsF fl va args).2) z -> z.len <= z.cap -> K (.tuple ⟨[]⟩) σ') (hS : ∀ σ', S σ' -> K (.tuple ⟨[]⟩) σ') :
 callW Tryz.prog 91 [y, .pointer (some ⟨b5, 0, none⟩), .pointer (some ⟨b8, 0, none⟩), .pointer (some ⟨b7, 0, none⟩), .pointer (some ⟨b6, 0, none⟩)] K σ := by
 refine c91 _ _ _ _ _ ?_
 unfold g91
 have r8 : ∀ {τ : H}, Gr ρ τ -> rdC b8 0 τ = some (.pointer (some ⟨br, 0, none⟩)) := fun hg => rdC_of (hg.get h8) (by rfl)
 have rr : ∀ {τ : H} {z : Sl}, τ br = some (slC z) -> rdC br 0 τ = some (.slice z.base z.len z.cap) := fun h => rdC_of h (by rfl)
 have G := C.fr _ _ hi
 refine ptr_i (rd_P (r8 G) (ptr_i (rd_Y (rdC_of (G.get h5) (by rfl)) (ptr_i (st_i2 hbr sz_strsT (by rfl) (by rfl) ?_)))))
 intro σ1 p1
 have i1 := C.set _ _ _ _ hi p1
 have e1 : σ1 br = some (slC x) := p1.same
 clear hi hbr G p1
 refine loop_i fun R hR => ?_
 have key : ∀ m args z σ, args.length = m -> (∀ a ∈ args, a.size <= 1000000000) -> I (opsF fl va args).1 σ -> σ br = some (slC z) -> RowsAt ρ 1 (strRows args) z -> z.len <= z.cap ->
  (∀ σ' z, I [] σ' -> σ' br = some (slC z) -> RowsAt ρ 1 (strRows (opsF fl va args).2) z -> z.len <= z.cap -> K (.tuple ⟨[]⟩) σ') -> R y (some ⟨b8, 0, none⟩) (some ⟨b7, 0, none⟩) (some ⟨b6, 0, none⟩) σ := by
  intro m
  induction m using Nat.strongRecOn with
  | ind m ih =>
  intro args z σ hm hsz hi hbr hx hc hK
  have G := C.fr _ _ hi
  refine hR _ _ _ _ _ (ptr_i (rd_P (r8 G) (ptr_i (rd_Y (rr hbr) ?_))))
  have hl := sLen hx
  cases args with
  | nil => exact br_f (by rw [decide_eq_false_iff_not, hl]; simp) (hK σ z hi hbr hx hc)
  | cons a r =>
  rw [List.length_cons] at hl hm
  refine br_t (by rw [decide_eq_true_eq]; omega) (ptr_i (rd_P (r8 G) (ptr_i (rd_Y (rr hbr) ?_))))
  obtain ⟨g, o, q1, q2, q3⟩ := sRow (i := 0) (s := a) hx (by rfl)
  rw [q1]
  refine ptr_i (if_i ⟨Int.le_refl _, by omega⟩ (rd_S (rdC_gr G q3) ?_))
  obtain ⟨la, rfl⟩ := wT a
  have hsa : la.length <= 1000000000 := hsz ⟨⟨la⟩⟩ (List.mem_cons_self ..)
  have hsr : ∀ a ∈ r, a.size <= 1000000000 := fun a h => hsz a (List.mem_cons_of_mem _ h)
  have hx1 := sTail hx hc
  rw [q1] at hx1
  refine j_i (fun j => ∀ b : Bool, b = stopA la -> j y (some ⟨b8, 0, none⟩) (some ⟨b7, 0, none⟩) (some ⟨b6, 0, none⟩) ⟨⟨la⟩⟩ b σ) ?_ ?_
  case refine_2 =>
   intro j hj
   cases la with
   | nil => exact br_t (by rfl) (hj true rfl)
   | cons u t0 =>
   cases t0 with
   | nil => exact br_t (by rfl) (hj true (by unfold stopA; split <;> simp_all))
   | cons c t =>
    refine br_f (by rw [decide_eq_false_iff_not, bsz, List.length_cons, List.length_cons]; omega) (idx_l (c := u) (Int.le_refl _) (by rfl) (hj _ ?_))
    rw [show ((((u.toNat : Nat) : Int) : Int) != 45) = !(u == 45) from congrArg Bool.not (u8e u 45)]
    by_cases e : u = 45
    ·subst e; rfl
    ·rw [show (u == 45) = false by simpa using e, stopA_ne e]; rfl
  intro b hb
  subst hb
  cases hst : stopA la with
  | true =>
   rw [opsF_stop fl va hst] at hi hK
   exact br_t rfl (hK σ z hi hbr hx hc)
  | false =>
  obtain ⟨c, t, rfl⟩ := stopA_f hst
  have hop : opsF fl va (⟨⟨45 :: c :: t⟩⟩ :: r) = if c == 45 && t.isEmpty then ([], r)
   else if va.contains c then
    if t.isEmpty then match r with
     | [] => ([⟨c, ⟨⟨[]⟩⟩, true⟩], [])
     | v :: r' => (⟨c, v, false⟩ :: (opsF fl va r').1, (opsF fl va r').2)
    else (⟨c, ⟨⟨t⟩⟩, false⟩ :: (opsF fl va r).1, (opsF fl va r).2)
   else ((c :: t).map (fun x => ⟨x, ⟨⟨[]⟩⟩, !fl.contains x⟩) ++ (opsF fl va r).1, (opsF fl va r).2) := by
   cases r <;> rfl
  rw [hop] at hi hK
  clear hop
  refine br_f rfl ?_
  refine ptr_i (rd_P (r8 G) (ptr_i (rd_P (r8 G) (ptr_i (rd_Y (rr hbr) ?_)))))
  refine if_i ⟨bnd_none, bnd_some (by decide) (by omega)⟩ (ptr_i (st_i2 hbr sz_strsT (by rfl) (by rfl) ?_))
  intro σ2 p2
  have i2 := C.set _ _ _ _ hi p2
  have G2 := C.fr _ _ i2
  have e2 : σ2 br = some (slC ⟨slBase z.base 1 z.cap 1, z.len - 1, z.cap - 1⟩) := p2.same
  rw [q1] at e2
  clear hi G hbr p2 hx q3 q2
  have hc2 : z.len - 1 <= z.cap - 1 := by omega
  have hstr : strEq ⟨⟨45 :: c :: t⟩⟩ ⟨⟨[45, 45]⟩⟩ = (c == 45 && t.isEmpty) := by
   rw [Bool.eq_iff_iff, strEq_iff]
   simp only [ByteArray.mk.injEq, Array.mk.injEq, List.cons.injEq, true_and, Bool.and_eq_true, beq_iff_eq, List.isEmpty_iff]
  rw [hstr]
  cases hcc : (c == 45 && t.isEmpty) with
  | true =>
   rw [hcc] at i2 hK
   exact br_t rfl (hK σ2 _ i2 e2 hx1 hc2)
  | false =>
  rw [hcc] at i2 hK
  simp only [Bool.false_eq_true, if_false] at i2 hK
  refine br_f rfl (ptr_i (rd_S (rdC_of (G2.get h7) (by rfl)) ?_))
  refine idx_l (c := c) (by decide) (by rfl) (call_i (x_IndexByte _ _ (app_I ?_)))
  rw [u8bT, fI_iff]
  cases hv : va.contains c with
  | true =>
   rw [hv] at i2 hK
   simp only [if_true] at i2 hK
   refine br_t rfl (idx_l (c := c) (by decide) (by rfl) (if_i ⟨bnd_none, bnd_some (by decide) (by rw [bsz, List.length_cons, List.length_cons]; omega)⟩ ?_))
   refine al_i ?_; intro b σ3 g3 e3 n3
   refine st_i2 e3 sz_option (by rfl) (by rfl) ?_; intro σ4 p4
   have g4 : Gr σ2 σ4 := g3.putF p4 n3
   have hex : (⟨⟨45 :: c :: t⟩⟩ : ByteArray).extract ((2 : Int).toNat) (⟨⟨45 :: c :: t⟩⟩ : ByteArray).size = ⟨⟨t⟩⟩ := ext_drop _ 2
   have e4 : σ4 b = some (.cells ⟨[.int .u8 ((c.toNat : Nat) : Int), .string ⟨⟨t⟩⟩, .bool false]⟩ 108 (0, 0)) := by rw [<- hex]; exact p4.same
   have i4 := C.gr _ _ _ i2 g4
   have r4 := g4.get e2
   have nbb : b ≠ br := fun e => by rw [e] at n3; rw [n3] at e2; cases e2
   refine j_i (fun j => ∀ (o : Opt) (r' : List ByteArray) (z' : Sl) τ, r'.length < m -> (∀ a ∈ r', a.size <= 1000000000) -> τ b = some (.cells ⟨[.int .u8 ((o.l.toNat : Nat) : Int), .string o.v, .bool o.w]⟩ 108 (0, 0)) -> I (o :: (opsF fl va r').1) τ -> τ br = some (slC z') -> RowsAt ρ 1 (strRows r') z' -> z'.len <= z'.cap ->
    (∀ σ' z, I [] σ' -> σ' br = some (slC z) -> RowsAt ρ 1 (strRows (opsF fl va r').2) z -> z.len <= z.cap -> K (.tuple ⟨[]⟩) σ') ->
    j y (some ⟨b8, 0, none⟩) (some ⟨b7, 0, none⟩) (some ⟨b6, 0, none⟩) (some ⟨b, 0, none⟩) τ) ?_ ?_
   ·intro o r' z' τ hm' hsz' hcb hi' hbr' hx' hc' hK'
    refine ptr_i (rd_G (rdA_of hcb (Nat.le_refl 3)) ?_)
    refine app_of rfl ?_
    dsimp only
    refine cvalv_i (C.call o _ _ _ _ hi' hbr' (fun σ5 i5 b5 => app_B (br_f rfl ?_)) (fun σ5 s5 => app_B (br_t rfl (hS _ s5))))
    exact ih _ hm' r' z' σ5 rfl hsz' i5 b5 hx' hc' hK'
   intro j hj
   cases t with
   | nil =>
    simp only [List.isEmpty_nil, if_true] at i4 hK
    have G4 := C.fr _ _ i4
    refine br_t (by rfl) (ptr_i (rd_P (r8 G4) (ptr_i (rd_L (rr r4) ?_))))
    have hl1 : z.len - 1 = r.length := by omega
    refine st_i2 e4 sz_boolT (by rfl) (by rfl) ?_; intro σ5 p5
    have g5 : Gr σ2 σ5 := g4.putF p5 n3
    have i5 := C.gr _ _ _ i2 g5
    simp only [List.isEmpty_nil, if_true] at i5
    have r5 := g5.get e2
    have G5 := C.fr _ _ i5
    refine rd_B (rdC_of p5.same (by rfl)) ?_
    cases r with
    | nil =>
     have hb : ((((z.len - 1 : Nat) : Int) : Int) == 0) = true := by rw [hl1]; rfl
     refine br_f (by rw [hb]; rfl) ?_
     refine hj ⟨c, ⟨⟨[]⟩⟩, true⟩ [] _ σ5 (by simp at hm ⊢; omega) (fun _ h => by cases h) ?_ i5 r5 hx1 hc2 hK
     rw [p5.same]; rw [hb]; rfl
    | cons v r' =>
     rw [List.length_cons] at hl1 hm
     have hb : ((((z.len - 1 : Nat) : Int) : Int) == 0) = false := by rw [beq_eq_false_iff_ne]; omega
     refine br_t (by rw [hb]; rfl) ?_
     refine ptr_i (rd_P (r8 G5) (ptr_i (rd_P (r8 G5) (ptr_i (rd_L (rr r5) ?_)))))
     obtain ⟨g', o', w1, w2, w3⟩ := sRow (i := 0) (s := v) hx1 (by rfl)
     rw [w1]
     refine ptr_i (if_i ⟨Int.le_refl _, by show (0 : Int) < ((z.len - 1 : Nat) : Int); omega⟩ (rd_S (rdC_gr G5 w3) ?_))
     refine ptr_i (rd_P (r8 G5) (ptr_i (rd_L (rr r5) ?_)))
     refine if_i ⟨bnd_none, bnd_some (by decide) (by simp only at w2 ⊢; omega)⟩ ?_
     refine st_i2 p5.same sz_strS (by rfl) (by rfl) ?_; intro σ6 p6
     have g6 : Gr σ2 σ6 := g5.putF p6 n3
     have i6 := C.gr _ _ _ i2 g6
     simp only [List.isEmpty_nil, if_true] at i6
     have r6 := g6.get e2
     have G6 := C.fr _ _ i6
     refine and_i (rr r6) (and_i (r8 G6) (and_i (r8 G6) (ptr_i (st_i2 r6 sz_strsT (by rfl) (by rfl) ?_))))
     intro σ7 p7
     have i7 := C.set _ _ _ _ i6 p7
     have hx2 := sTail hx1 hc2
     have hsr' : ∀ a ∈ r', a.size <= 1000000000 := fun a h => hsr a (List.mem_cons_of_mem _ h)
     refine hj ⟨c, v, false⟩ r' ⟨slBase (slBase (some ⟨g, o, none⟩) 1 z.cap 1) 1 (z.cap - 1) 1, z.len - 1 - 1, z.cap - 1 - 1⟩ σ7 (by omega) hsr' ?_ i7 p7.same hx2 (by simp only; omega) hK
     rw [p7.get nbb p6.same]; rw [hb]; rfl
   | cons t0 t1 =>
    simp only [List.isEmpty_cons, Bool.false_eq_true, if_false] at i4 hK
    refine br_f (by rw [bsz, beq_eq_false_iff_ne, List.length_cons, List.length_cons, List.length_cons]; omega) ?_
    exact hj ⟨c, ⟨⟨t0 :: t1⟩⟩, false⟩ r _ σ4 (by omega) hsr e4 i4 r4 hx1 hc2 hK
  | false =>
   rw [hv] at i2 hK
   simp only [Bool.false_eq_true, if_false] at i2 hK
   refine br_f rfl (loop_i fun R2 hR2 => ?_)
   have key2 : ∀ u pre σ, 45 :: c :: t = pre ++ u -> I (u.map (fun x => (⟨x, ⟨⟨[]⟩⟩, !fl.contains x⟩ : Opt)) ++ (opsF fl va r).1) σ -> σ br = some (slC ⟨slBase (some ⟨g, o, none⟩) 1 z.cap 1, z.len - 1, z.cap - 1⟩) ->
    R2 y (some ⟨b8, 0, none⟩) (some ⟨b7, 0, none⟩) (some ⟨b6, 0, none⟩) ⟨⟨45 :: c :: t⟩⟩ ((pre.length : Nat) : Int) σ := by
    intro u
    induction u with
    | nil =>
     intro pre σ hp hi hbr
     refine hR2 _ _ _ _ _ _ _ (br_f ?_ ?_)
     ·rw [bsz, hp, List.append_nil, decide_eq_false_iff_not]; omega
     ·exact ih r.length (by omega) r _ σ rfl hsr hi hbr hx1 hc2 hK
    | cons d u ihu =>
     intro pre σ hp hi hbr
     have hd : (45 :: c :: t)[pre.length]? = some d := by rw [hp]; simp
     have hlen : (45 :: c :: t).length = pre.length + (u.length + 1) := by rw [hp]; simp
     have G := C.fr _ _ hi
     refine hR2 _ _ _ _ _ _ _ (br_t ?_ ?_)
     ·rw [bsz, hlen, decide_eq_true_eq]; omega
     refine idx_l (c := d) (by omega) (by rw [Int.toNat_natCast]; exact hd) (ptr_i (rd_S (rdC_of (G.get h6) (by rfl)) ?_))
     refine idx_l (c := d) (by omega) (by rw [Int.toNat_natCast]; exact hd) (call_i (x_IndexByte _ _ (app_I ?_)))
     rw [u8bT, fI_iff2]
     refine cvalv_i (C.call ⟨d, ⟨⟨[]⟩⟩, !fl.contains d⟩ _ _ _ _ hi hbr (fun σ5 i5 b5 => app_B (br_f rfl ?_)) (fun σ5 s5 => app_B (br_t rfl (hS _ s5))))
     rw [wS (a := pre.length) (by omega)]
     have := ihu (pre ++ [d]) σ5 (by rw [hp]; simp) i5 b5
     rw [List.length_append] at this
     exact this
   exact key2 (c :: t) [45] σ2 rfl i2 e2
 exact key _ args x σ1 rfl hz i1 e1 hx hxc hK
end
theorem und_bytesT : Tryz.prog.underlying 22 = some (.slice 5) := Tryz.underlying22
theorem und_u8T : Tryz.prog.underlying 5 = some (.int .u8) := Tryz.underlying5
theorem und_strT : Tryz.prog.underlying 9 = some .string := Tryz.underlying9
theorem und_map8 : Tryz.prog.underlying 85 = some (.map 5 9) := by kernel_rfl
theorem sz_map8 : sizeT Tryz.prog 85 = some 1 := by kernel_rfl
def kk8 : KK Int := ⟨.int .u8, .int .u8, fun _ _ => by simp [Instr.sameNow], fun a b h => by
 have := eq_of_beq h; subst this; simp [Instr.sameBits], fun a => by simp, fun a b h => by rw [eq_of_beq h], rfl⟩
def toolV (nm : ByteArray) (x : Sl) (inn cwd : ByteArray) (fs : Option Addr) : Value := .agg ⟨[.string nm, .slice x.base x.len x.cap, .string inn, .string cwd, .pointer fs]⟩
theorem none_putT {ρ : H} {b c : Nat} {o : Obj} (hn : ρ c = none) (hne : c ≠ b) : (ρ.put b o) c = none := by rw [H.put_other _ _ hne]; exact hn
theorem rows_keep {σ σ' : H} {n : Nat} {rows : List (List Value)} {x : Sl} (h : RowsAt σ n rows x) (hk : ∀ g o ob, x.base = some ⟨g, o, none⟩ -> rows ≠ [] -> σ g = some ob -> σ' g = some ob) : RowsAt σ' n rows x := by
 cases rows with
 | nil => exact ⟨h.1, .inl rfl⟩
 | cons a r => exact h.keep fun g o ob h1 h2 => hk g o ob h1 (by simp) h2
theorem rows_has {σ : H} {n : Nat} {rows : List (List Value)} {x : Sl} (h : RowsAt σ n rows x) {g o : Nat} (hb : x.base = some ⟨g, o, none⟩) (hne : rows ≠ []) : σ g ≠ none := by
 obtain ⟨h1, h2 | ⟨g', o', cur, t, fz, h3, h4, h5⟩⟩ := h
 ·exact absurd h2 hne
 ·rw [h3] at hb; cases hb; rw [h4]; simp
def optR (ρ : H) (b5 b6 b7 b8 br : Nat) (x : Sl) (fl va : List UInt8) : H :=
 (((ρ.put b5 (slC x)).put b6 (.cells ⟨[.string ⟨⟨fl⟩⟩]⟩ 9 (0, 0))).put b7 (.cells ⟨[.string ⟨⟨va⟩⟩]⟩ 9 (0, 0))).put b8 (.cells ⟨[.pointer (some ⟨br, 0, none⟩)]⟩ 106 (0, 0))
section
variable {σ : H} {nm inn cwd : ByteArray} {x : Sl} {fs : Option Addr} {args : List ByteArray} {K : KH}
theorem s_txOptions {br : Nat} {fl va : List UInt8} (hK : ∀ b5 b6 b7 b8 σ', Gr σ σ' -> σ b5 = none -> σ b6 = none -> σ b7 = none -> σ b8 = none -> b5 ≠ b6 -> b5 ≠ b7 -> b5 ≠ b8 -> b6 ≠ b7 -> b6 ≠ b8 -> b7 ≠ b8 ->
 σ' b5 = some (slC x) -> σ' b6 = some (.cells ⟨[.string ⟨⟨fl⟩⟩]⟩ 9 (0, 0)) -> σ' b7 = some (.cells ⟨[.string ⟨⟨va⟩⟩]⟩ 9 (0, 0)) -> σ' b8 = some (.cells ⟨[.pointer (some ⟨br, 0, none⟩)]⟩ 106 (0, 0)) ->
 K (.func (.func 91) ⟨[]⟩ ⟨[.pointer (some ⟨b5, 0, none⟩), .pointer (some ⟨b8, 0, none⟩), .pointer (some ⟨b7, 0, none⟩), .pointer (some ⟨b6, 0, none⟩)]⟩) σ') :
 callW Tryz.prog 68 [.slice x.base x.len x.cap, .string ⟨⟨fl⟩⟩, .string ⟨⟨va⟩⟩, .pointer (some ⟨br, 0, none⟩)] K σ := by
 refine c68 x _ _ _ ?_
 unfold g68
 refine al_i ?_; intro b5 σ1 g1 e1 n1
 refine al_i ?_; intro b6 σ2 g2 e2 n2
 refine al_i ?_; intro b7 σ3 g3 e3 n3
 refine al_i ?_; intro b8 σ4 g4 e4 n4
 have d56 := ne_fresh e1 n2
 have d57 := ne_fresh (g2.get e1) n3
 have d58 := ne_fresh ((g2.trans g3).get e1) n4
 have d67 := ne_fresh e2 n3
 have d68 := ne_fresh (g3.get e2) n4
 have d78 := ne_fresh e3 n4
 exact hK b5 b6 b7 b8 σ4 (((g1.trans g2).trans g3).trans g4) n1 (none_of g1 n2) (none_of (g1.trans g2) n3) (none_of ((g1.trans g2).trans g3) n4) d56 d57 d58 d67 d68 d78
  (((g2.trans g3).trans g4).get e1) ((g3.trans g4).get e2) (g4.get e3) e4
theorem s_txFlags (hx : RowsAt σ 1 (strRows args) x) (hxc : x.len <= x.cap) (hz : ∀ a ∈ args, a.size <= 1000000000) (fl : List UInt8) (hlen : (opsF fl [] args).1.length <= 1000000000)
 (hN : flagsP fl args = none -> ∀ σ', Gr σ σ' -> K (.tuple ⟨[.string ⟨⟨[]⟩⟩, .slice none 0 0, .bool false]⟩) σ')
 (hS : ∀ got rest z σ', flagsP fl args = some (got, rest) -> Gr σ σ' -> RowsAt σ' 1 (strRows rest) z -> z.len <= z.cap -> K (.tuple ⟨[.string ⟨⟨got⟩⟩, .slice z.base z.len z.cap, .bool true]⟩) σ') :
 callW Tryz.prog 32 [toolV nm x inn cwd fs, .string ⟨⟨fl⟩⟩] K σ := by
 refine c32 nm x inn cwd fs _ ?_
 unfold g32
 refine al_i ?_; intro b7 σ1 g1 e1 n1
 refine al_i ?_; intro b8 σ2 g2 e2 n2
 refine al_i ?_; intro b9 σ3 g3 e3 n3
 refine al_i ?_; intro b10 σ4 g4 e4 n4
 have G4 : Gr σ σ4 := ((g1.trans g2).trans g3).trans g4
 have d89 := ne_fresh e2 n3
 have d8t := ne_fresh (g3.get e2) n4
 have d9t := ne_fresh e3 n4
 have m8 : σ b8 = none := none_of g1 n2
 have m9 : σ b9 = none := none_of (g1.trans g2) n3
 have m10 : σ b10 = none := none_of ((g1.trans g2).trans g3) n4
 refine j_i (fun j => ∀ (got : List UInt8) (z : Sl) τ rest, flagsP fl args = some (got, rest) -> Gr σ τ -> RowsAt τ 1 (strRows rest) z -> z.len <= z.cap -> τ b8 = some (.cells ⟨[.string ⟨⟨got⟩⟩]⟩ 9 (0, 0)) -> τ b9 = some (slC z) -> τ b10 = some (.cells ⟨[.bool false]⟩ 4 (0, 0)) -> (∀ g o, z.base = some ⟨g, o, none⟩ -> rest ≠ [] -> g ≠ b8 /\ g ≠ b9 /\ g ≠ b10) ->
  j (some ⟨b8, 0, none⟩) (some ⟨b9, 0, none⟩) (some ⟨b10, 0, none⟩) τ) ?_ ?_
 ·intro got z τ rest hp hg hr hc k8 k9 k10 hne
  refine ptr_i (rd_S (rdC_of k8 (by rfl)) (ptr_i (rd_Y (rdC_of k9 (by rfl)) ?_)))
  refine st_i2 k8 sz_strS (by rfl) (by rfl) ?_; intro τ1 p1
  have k91 := p1.get d89.symm k9
  refine and_i (rdC_of k91 (by rfl)) (st_i2 k91 sz_strsT (by rfl) (by rfl) ?_); intro τ2 p2
  refine st_i2 (p2.get d9t.symm (p1.get d8t.symm k10)) sz_boolT (by rfl) (by rfl) ?_; intro τ3 p3
  have G3 : Gr σ τ3 := ((hg.putF p1 m8).putF p2 m9).putF p3 m10
  have w8 : τ3 b8 = some (.cells ⟨[.string ⟨⟨got⟩⟩]⟩ 9 (0, 0)) := p3.get d8t (p2.get d89 p1.same)
  have w9 : τ3 b9 = some (slC z) := p3.get d9t p2.same
  refine ptr_i (rd_S (rdC_of w8 (by rfl)) (ptr_i (rd_Y (rdC_of w9 (by rfl)) (ptr_i (rd_B (rdC_of p3.same (by rfl)) ?_)))))
  refine hS got rest z τ3 hp G3 ?_ hc
  refine rows_keep hr fun g o ob hb hne' hob => ?_
  obtain ⟨q1, q2, q3⟩ := hne g o hb (fun e => by subst e; exact hne' rfl)
  exact p3.get q3 (p2.get q2 (p1.get q1 hob))
 intro j hj
 refine rd_Y (rdC_of ((g2.trans (g3.trans g4)).get e1) (by rfl)) (call_i (s_txOptions (va := []) ?_))
 intro b5 b6 b7' b8' σ5 g5 v5 v6 v7 v8 d56 d57 d58 d67 d68 d78 u5 u6 u7 u8
 refine app_R (fun_i (rf_i go_txOptions1 ?_))
 intro l obj σ6 hl hput hlo hY
 have hσ : ∀ {b}, σ4 b = none -> σ b = none := fun h => none_of G4 h
 have gρ : Gr σ (optR σ b5 b6 b7' b8' b9 x fl []) := by
  refine (((Gr.put (hσ v5) _).trans (Gr.put ?_ _)).trans (Gr.put ?_ _)).trans (Gr.put ?_ _)
  ·exact none_putT (hσ v6) d56.symm
  ·exact none_putT (none_putT (hσ v7) d57.symm) d67.symm
  ·exact none_putT (none_putT (none_putT (hσ v8) d58.symm) d68.symm) d78.symm
 have nρ : ∀ {b}, σ b = none -> b ≠ b5 -> b ≠ b6 -> b ≠ b7' -> b ≠ b8' -> optR σ b5 b6 b7' b8' b9 x fl [] b = none := fun h h1 h2 h3 h4 => none_putT (none_putT (none_putT (none_putT h h1) h2) h3) h4
 have ρ5 : Gr (optR σ b5 b6 b7' b8' b9 x fl []) σ5 := ((((G4.trans g5).put_in u5).put_in u6).put_in u7).put_in u8
 have f8 : ∀ {b c o}, σ4 b = none -> σ4 c = some o -> c ≠ b := fun h1 h2 e => by rw [e, h1] at h2; cases h2
 have k8 := (g3.trans g4).get e2
 have k9 := g4.get e3
 have r8 : optR σ b5 b6 b7' b8' b9 x fl [] b8 = none := nρ m8 (f8 v5 k8) (f8 v6 k8) (f8 v7 k8) (f8 v8 k8)
 have r9 : optR σ b5 b6 b7' b8' b9 x fl [] b9 = none := nρ m9 (f8 v5 k9) (f8 v6 k9) (f8 v7 k9) (f8 v8 k9)
 have r10 : optR σ b5 b6 b7' b8' b9 x fl [] b10 = none := nρ m10 (f8 v5 e4) (f8 v6 e4) (f8 v7 e4) (f8 v8 e4)
 have rl : optR σ b5 b6 b7' b8' b9 x fl [] l = none := none_of ρ5 hl
 have x8 := g5.get k8
 have x9 := g5.get k9
 have x10 := g5.get e4
 have l8 : b8 ≠ l := ne_fresh x8 hl
 have l9 : b9 ≠ l := ne_fresh x9 hl
 have l10 : b10 ≠ l := ne_fresh x10 hl
 have C : OpC (optR σ b5 b6 b7' b8' b9 x fl []) b9 (yv l)
  (fun r τ => ∃ done, Gr (optR σ b5 b6 b7' b8' b9 x fl []) τ /\ τ l = some (obj .ready none) /\ τ b8 = some (.cells ⟨[.string ⟨⟨done.map (·.l)⟩⟩]⟩ 9 (0, 0)) /\ τ b10 = some (.cells ⟨[.bool false]⟩ 4 (0, 0)) /\ (opsF fl [] args).1 = done ++ r /\ done.any (·.w) = false)
  (fun τ => Gr σ τ /\ τ l = some (obj .done (some .ret)) /\ τ b8 = some (.cells ⟨[.string ⟨⟨[]⟩⟩]⟩ 9 (0, 0)) /\ τ b9 = some (slC ⟨none, 0, 0⟩) /\ τ b10 = some (.cells ⟨[.bool false]⟩ 4 (0, 0)) /\ (opsF fl [] args).1.any (·.w) = true) := by
  refine ⟨r9, fun r τ ⟨_, h, _⟩ => h, ?_, ?_, ?_⟩
  ·rintro r τ τ' ⟨d, h1, h2, h3, h4, h5⟩ hg
   exact ⟨d, h1.trans hg, hg.get h2, hg.get h3, hg.get h4, h5⟩
  ·rintro r τ o τ' ⟨d, h1, h2, h3, h4, h5⟩ hp
   exact ⟨d, h1.putF hp r9, hp.get l9.symm h2, hp.get d89 h3, hp.get d9t.symm h4, h5⟩
  ·rintro o r τ K' z ⟨d, h1, h2, h3, h4, h5, h6⟩ hz9 hT hF
   refine yv_call (hY _ _ _ ⟨h2, ?_⟩)
   show alW _ _ τ
   refine al_i ?_; intro b τ1 q1 w1 n1'
   refine st_i2 w1 sz_option (by rfl) (by rfl) ?_; intro τ2 p2
   have q2 : Gr τ τ2 := q1.putF p2 n1'
   refine beg_i (q2.get h2) ?_; intro τ3 p3
   have db : b ≠ l := fun e => by rw [e, h2] at n1'; cases n1'
   have wb : τ3 b = some (.cells ⟨[.int .u8 ((o.l.toNat : Nat) : Int), .string o.v, .bool o.w]⟩ 108 (0, 0)) := p3.get db p2.same
   have y8 := p3.get l8 (q2.get h3)
   have y9 := p3.get l9 (q2.get hz9)
   have y10 := p3.get l10 (q2.get h4)
   have G3 : Gr (optR σ b5 b6 b7' b8' b9 x fl []) τ3 := (h1.trans q2).putF p3 rl
   refine rd_B (rdC_of wb (by rfl)) ?_
   cases hw : o.w with
   | true =>
    refine br_t rfl (st_i2 y8 sz_strS (by rfl) (by rfl) ?_); intro τ4 p4
    refine st_i2 (p4.get d89.symm y9) sz_strsT (by rfl) (by rfl) ?_; intro τ5 p5
    refine st_i2 (p5.get d9t.symm (p4.get d8t.symm y10)) sz_boolT (by rfl) (by rfl) ?_; intro τ6 p6
    refine round_i (p6.get l10.symm (p5.get l9.symm (p4.get l8.symm p3.same))) ?_; intro τ7 p7
    refine hF τ7 ⟨?_, p7.same, p7.get l8 (p6.get d8t (p5.get d89 p4.same)), p7.get l9 (p6.get d9t p5.same), p7.get l10 p6.same, ?_⟩
    ·exact gρ.trans ((((G3.putF p4 r8).putF p5 r9).putF p6 r10).putF p7 rl)
    ·rw [h5, List.any_append, List.any_cons, hw]; simp
   | false =>
    refine br_f rfl (rd_S (rdC_of y8 (by rfl)) (rd_I (rdC_of wb (by rfl)) (al_i ?_)))
    intro bc τ4 q4 w4 n4'
    refine bstr_i und_bytesT und_u8T und_strT (l := [o.l]) (x := ⟨some ⟨bc, 0, none⟩, 1, 1⟩) ⟨rfl, .inr ⟨bc, 0, _, _, _, rfl, w4, fun i r hr => ?_⟩⟩ (if_i ?_ ?_)
    ·match i, hr with
     | 0, hr => cases hr; exact ⟨rfl, rfl⟩
     | i + 1, hr => simp [brows] at hr
    ·show (d.map (·.l)).length + 1 <= _
     rw [h5, List.length_append, List.length_cons] at hlen
     rw [List.length_map]; omega
    refine st_i2 (q4.get y8) sz_strS (by rfl) (by rfl) ?_; intro τ5 p5
    refine round_i (p5.get l8.symm (q4.get p3.same)) ?_; intro τ6 p6
    have q46 : Gr (optR σ b5 b6 b7' b8' b9 x fl []) τ6 := ((G3.trans q4).putF p5 r8).putF p6 rl
    refine hT τ6 ⟨d ++ [o], q46, p6.same, ?_, p6.get l10 (p5.get d8t.symm (q4.get y10)), by rw [h5, List.append_assoc]; rfl, by rw [List.any_append, h6, List.any_cons, hw]; rfl⟩ (p6.get l9 (p5.get d89.symm (q4.get y9)))
    rw [p6.get l8 p5.same, List.map_append]; rfl
 refine s_txOptions1 C (x := x) (args := args) (fl := fl) (va := []) (z0 := ⟨none, 0, 0⟩) (hx.gr gρ) hxc hz ?_ ?_ ?_ ?_ ?_ ?_ ?_ ?_
 ·rw [show optR σ b5 b6 b7' b8' b9 x fl [] b5 = _ from by unfold optR; rw [H.put_other _ _ d58, H.put_other _ _ d57, H.put_other _ _ d56, H.put_same]]
 ·rw [show optR σ b5 b6 b7' b8' b9 x fl [] b6 = _ from by unfold optR; rw [H.put_other _ _ d68, H.put_other _ _ d67, H.put_same]]
 ·rw [show optR σ b5 b6 b7' b8' b9 x fl [] b7' = _ from by unfold optR; rw [H.put_other _ _ d78, H.put_same]]
 ·exact H.put_same _ _ _
 ·exact ⟨[], ρ5.putF hput rl, hput.same, hput.get l8 x8, hput.get l10 x10, rfl, rfl⟩
 ·exact hput.get l9 x9
 ·rintro τ z ⟨d, h1, h2, h3, h4, h5, h6⟩ hbr hr hc
  rw [List.append_nil] at h5
  refine end_n h2 (by intro e; cases e) ?_; intro τ1 p1
  have hrT : RowsAt τ1 1 (strRows (opsF fl [] args).2) z := hr.gr (h1.putF p1 rl)
  have hfp : flagsP fl args = some (d.map (·.l), (opsF fl [] args).2) := by unfold flagsP; rw [h5, h6]; rfl
  refine hj _ z τ1 _ hfp (gρ.trans (h1.putF p1 rl)) hrT hc (p1.get l8 h3) (p1.get l9 hbr) (p1.get l10 h4) ?_
  intro g o hb hne
  have hgρ := rows_has hr hb (by intro e; exact hne (by simpa [strRows] using e))
  exact ⟨fun e => hgρ (e ▸ r8), fun e => hgρ (e ▸ r9), fun e => hgρ (e ▸ r10)⟩
 ·rintro τ ⟨h1, h2, h3, h4, h5, h6⟩
  refine end_r h2 (by intro e; cases e) ?_; intro τ1 p1
  refine rd_S (rdC_of (p1.get l8 h3) (by rfl)) (rd_L (rdC_of (p1.get l9 h4) (by rfl)) (rd_B (rdC_of (p1.get l10 h5) (by rfl)) ?_))
  exact hN (by unfold flagsP; rw [h6]; rfl) τ1 (h1.putF p1 (none_of gρ rl))
end
section
variable {σ : H} {nm inn cwd : ByteArray} {x : Sl} {fs : Option Addr} {args : List ByteArray} {K : KH}
theorem s_txValues (hx : RowsAt σ 1 (strRows args) x) (hxc : x.len <= x.cap) (hz : ∀ a ∈ args, a.size <= 1000000000) (va : List UInt8)
 (hN : valuesP va args = none -> ∀ σ', Gr σ σ' -> K (.tuple ⟨[.map none, .slice none 0 0, .bool false]⟩) σ')
 (hS : ∀ m rest z b σ', valuesP va args = some (m, rest) -> Gr σ σ' -> MapAt σ' b (encL kk8 Value.string m) -> RowsAt σ' 1 (strRows rest) z -> z.len <= z.cap -> K (.tuple ⟨[.map (some b), .slice z.base z.len z.cap, .bool true]⟩) σ') :
 callW Tryz.prog 45 [toolV nm x inn cwd fs, .string ⟨⟨va⟩⟩] K σ := by
 refine c45 nm x inn cwd fs _ ?_
 unfold g45
 refine al_i ?_; intro b7 σ1 g1 e1 n1
 refine al_i ?_; intro b8 σ2 g2 e2 n2
 refine al_i ?_; intro b9 σ3 g3 e3 n3
 refine al_i ?_; intro b10 σ4 g4 e4 n4
 refine al_i ?_; intro b11 σ5 g5 e5 n5
 have d8m := ne_fresh ((g3.trans g4).get e2) n5
 have d9m := ne_fresh (g4.get e3) n5
 have dtm := ne_fresh e4 n5
 have d7m := ne_fresh ((g2.trans (g3.trans g4)).get e1) n5
 refine st_i2 ((g3.trans (g4.trans g5)).get e2) sz_map8 (by rfl) (by rfl) ?_; intro σ6 p6
 have G5 : Gr σ σ5 := (((g1.trans g2).trans g3).trans g4).trans g5
 have d89 := ne_fresh e2 n3
 have d8t := ne_fresh (g3.get e2) n4
 have d9t := ne_fresh e3 n4
 have d78 := ne_fresh e1 n2
 have m8 : σ b8 = none := none_of g1 n2
 have m9 : σ b9 = none := none_of (g1.trans g2) n3
 have m10 : σ b10 = none := none_of ((g1.trans g2).trans g3) n4
 have m11 : σ b11 = none := none_of (((g1.trans g2).trans g3).trans g4) n5
 have G6 : Gr σ σ6 := G5.putF p6 m8
 have k7 := p6.get d78 ((g2.trans (g3.trans (g4.trans g5))).get e1)
 have k8 : σ6 b8 = some (.cells ⟨[.map (some b11)]⟩ 85 (0, 0)) := p6.same
 have k9 := p6.get d89.symm ((g4.trans g5).get e3)
 have k10 := p6.get d8t.symm (g5.get e4)
 have k11 := p6.get d8m.symm e5
 refine j_i (fun j => ∀ m (z : Sl) τ rest, valuesP va args = some (m, rest) -> Gr σ τ -> MapAt τ b11 (encL kk8 Value.string m) -> RowsAt τ 1 (strRows rest) z -> z.len <= z.cap -> τ b8 = some (.cells ⟨[.map (some b11)]⟩ 85 (0, 0)) -> τ b9 = some (slC z) -> τ b10 = some (.cells ⟨[.bool false]⟩ 4 (0, 0)) -> (∀ g o, z.base = some ⟨g, o, none⟩ -> rest ≠ [] -> g ≠ b8 /\ g ≠ b9 /\ g ≠ b10) ->
  j (some ⟨b8, 0, none⟩) (some ⟨b9, 0, none⟩) (some ⟨b10, 0, none⟩) τ) ?_ ?_
 ·intro m z τ rest hp hg hm hr hc k8 k9 k10 hne
  refine ptr_i (rd_M (rdC_of k8 (by rfl)) (ptr_i (rd_Y (rdC_of k9 (by rfl)) ?_)))
  refine st_i2 k8 sz_map8 (by rfl) (by rfl) ?_; intro τ1 p1
  have k91 := p1.get d89.symm k9
  refine and_i (rdC_of k91 (by rfl)) (st_i2 k91 sz_strsT (by rfl) (by rfl) ?_); intro τ2 p2
  refine st_i2 (p2.get d9t.symm (p1.get d8t.symm k10)) sz_boolT (by rfl) (by rfl) ?_; intro τ3 p3
  have G3 : Gr σ τ3 := ((hg.putF p1 m8).putF p2 m9).putF p3 m10
  have w8 : τ3 b8 = some (.cells ⟨[.map (some b11)]⟩ 85 (0, 0)) := p3.get d8t (p2.get d89 p1.same)
  have w9 : τ3 b9 = some (slC z) := p3.get d9t p2.same
  refine ptr_i (rd_M (rdC_of w8 (by rfl)) (ptr_i (rd_Y (rdC_of w9 (by rfl)) (ptr_i (rd_B (rdC_of p3.same (by rfl)) ?_)))))
  refine hS m rest z b11 τ3 hp G3 (((hm.put p1 d8m.symm).put p2 d9m.symm).put p3 dtm.symm) ?_ hc
  refine rows_keep hr fun g o ob hb hne' hob => ?_
  obtain ⟨q1, q2, q3⟩ := hne g o hb (fun e => by subst e; exact hne' rfl)
  exact p3.get q3 (p2.get q2 (p1.get q1 hob))
 intro j hj
 refine rd_Y (rdC_of k7 (by rfl)) (call_i (s_txOptions (fl := []) ?_))
 intro b5 b6 b7' b8' σ7 g7 v5 v6 v7 v8 d56 d57 d58 d67 d68 d78' u5 u6 u7 u8
 refine app_R (fun_i (rf_i go_txOptions1 ?_))
 intro l obj σ8 hl hput hlo hY
 have hσ : ∀ {b}, σ6 b = none -> σ b = none := fun h => none_of G6 h
 have gρ : Gr σ (optR σ b5 b6 b7' b8' b9 x [] va) := by
  refine (((Gr.put (hσ v5) _).trans (Gr.put ?_ _)).trans (Gr.put ?_ _)).trans (Gr.put ?_ _)
  ·exact none_putT (hσ v6) d56.symm
  ·exact none_putT (none_putT (hσ v7) d57.symm) d67.symm
  ·exact none_putT (none_putT (none_putT (hσ v8) d58.symm) d68.symm) d78'.symm
 have nρ : ∀ {b}, σ b = none -> b ≠ b5 -> b ≠ b6 -> b ≠ b7' -> b ≠ b8' -> optR σ b5 b6 b7' b8' b9 x [] va b = none := fun h h1 h2 h3 h4 => none_putT (none_putT (none_putT (none_putT h h1) h2) h3) h4
 have ρ5 : Gr (optR σ b5 b6 b7' b8' b9 x [] va) σ7 := ((((G6.trans g7).put_in u5).put_in u6).put_in u7).put_in u8
 have f8 : ∀ {b c o}, σ6 b = none -> σ6 c = some o -> c ≠ b := fun h1 h2 e => by rw [e, h1] at h2; cases h2
 have r8 : optR σ b5 b6 b7' b8' b9 x [] va b8 = none := nρ m8 (f8 v5 k8) (f8 v6 k8) (f8 v7 k8) (f8 v8 k8)
 have r9 : optR σ b5 b6 b7' b8' b9 x [] va b9 = none := nρ m9 (f8 v5 k9) (f8 v6 k9) (f8 v7 k9) (f8 v8 k9)
 have r10 : optR σ b5 b6 b7' b8' b9 x [] va b10 = none := nρ m10 (f8 v5 k10) (f8 v6 k10) (f8 v7 k10) (f8 v8 k10)
 have r11 : optR σ b5 b6 b7' b8' b9 x [] va b11 = none := nρ m11 (f8 v5 k11) (f8 v6 k11) (f8 v7 k11) (f8 v8 k11)
 have rl : optR σ b5 b6 b7' b8' b9 x [] va l = none := none_of ρ5 hl
 have x8 := g7.get k8
 have x9 := g7.get k9
 have x10 := g7.get k10
 have x11 := g7.get k11
 have l8 : b8 ≠ l := ne_fresh x8 hl
 have l9 : b9 ≠ l := ne_fresh x9 hl
 have l10 : b10 ≠ l := ne_fresh x10 hl
 have l11 : b11 ≠ l := ne_fresh x11 hl
 have C : OpC (optR σ b5 b6 b7' b8' b9 x [] va) b9 (yv l)
  (fun r τ => ∃ done, Gr (optR σ b5 b6 b7' b8' b9 x [] va) τ /\ τ l = some (obj .ready none) /\ τ b8 = some (.cells ⟨[.map (some b11)]⟩ 85 (0, 0)) /\ τ b10 = some (.cells ⟨[.bool false]⟩ 4 (0, 0)) /\ (opsF [] va args).1 = done ++ r /\ done.any (·.w) = false /\ MapAt τ b11 (encL kk8 Value.string (putsP done [])))
  (fun τ => Gr σ τ /\ τ l = some (obj .done (some .ret)) /\ τ b8 = some (.cells ⟨[.map none]⟩ 85 (0, 0)) /\ τ b9 = some (slC ⟨none, 0, 0⟩) /\ τ b10 = some (.cells ⟨[.bool false]⟩ 4 (0, 0)) /\ (opsF [] va args).1.any (·.w) = true) := by
  refine ⟨r9, fun r τ ⟨_, h, _⟩ => h, ?_, ?_, ?_⟩
  ·rintro r τ τ' ⟨d, h1, h2, h3, h4, h5, h6, h7⟩ hg
   exact ⟨d, h1.trans hg, hg.get h2, hg.get h3, hg.get h4, h5, h6, h7.gr hg⟩
  ·rintro r τ o τ' ⟨d, h1, h2, h3, h4, h5, h6, h7⟩ hp
   exact ⟨d, h1.putF hp r9, hp.get l9.symm h2, hp.get d89 h3, hp.get d9t.symm h4, h5, h6, h7.put hp d9m.symm⟩
  ·rintro o r τ K' z ⟨d, h1, h2, h3, h4, h5, h6, h7⟩ hz9 hT hF
   refine yv_call (hY _ _ _ ⟨h2, ?_⟩)
   show alW _ _ τ
   refine al_i ?_; intro b τ1 q1 w1 n1'
   refine st_i2 w1 sz_option (by rfl) (by rfl) ?_; intro τ2 p2
   have q2 : Gr τ τ2 := q1.putF p2 n1'
   refine beg_i (q2.get h2) ?_; intro τ3 p3
   have db : b ≠ l := fun e => by rw [e, h2] at n1'; cases n1'
   have wb : τ3 b = some (.cells ⟨[.int .u8 ((o.l.toNat : Nat) : Int), .string o.v, .bool o.w]⟩ 108 (0, 0)) := p3.get db p2.same
   have y8 := p3.get l8 (q2.get h3)
   have y9 := p3.get l9 (q2.get hz9)
   have y10 := p3.get l10 (q2.get h4)
   have G3 : Gr (optR σ b5 b6 b7' b8' b9 x [] va) τ3 := (h1.trans q2).putF p3 rl
   refine rd_B (rdC_of wb (by rfl)) ?_
   cases hw : o.w with
   | true =>
    refine br_t rfl (st_i2 y8 sz_map8 (by rfl) (by rfl) ?_); intro τ4 p4
    refine st_i2 (p4.get d89.symm y9) sz_strsT (by rfl) (by rfl) ?_; intro τ5 p5
    refine st_i2 (p5.get d9t.symm (p4.get d8t.symm y10)) sz_boolT (by rfl) (by rfl) ?_; intro τ6 p6
    refine round_i (p6.get l10.symm (p5.get l9.symm (p4.get l8.symm p3.same))) ?_; intro τ7 p7
    refine hF τ7 ⟨?_, p7.same, p7.get l8 (p6.get d8t (p5.get d89 p4.same)), p7.get l9 (p6.get d9t p5.same), p7.get l10 p6.same, ?_⟩
    ·exact gρ.trans ((((G3.putF p4 r8).putF p5 r9).putF p6 r10).putF p7 rl)
    ·rw [h5, List.any_append, List.any_cons, hw]; simp
   | false =>
    refine br_f rfl (rd_M (rdC_of y8 (by rfl)) (rd_I (rdC_of wb (by rfl)) (rd_S (rdC_of wb (by rfl)) ?_)))
    have m3 := ((h7.gr q2).put p3 l11)
    refine mu_i (kk := kk8) (f := Value.string) und_map8 und_u8T m3 ((o.l.toNat : Nat) : Int) o.v ?_
    intro ob τ4 p4 m4
    refine round_i (p4.get l11.symm p3.same) ?_; intro τ5 p5
    have q46 : Gr (optR σ b5 b6 b7' b8' b9 x [] va) τ5 := (G3.putF p4 r11).putF p5 rl
    refine hT τ5 ⟨d ++ [o], q46, p5.same, p5.get l8 (p4.get d8m y8), p5.get l10 (p4.get dtm y10), by rw [h5, List.append_assoc]; rfl, by rw [List.any_append, h6, List.any_cons, hw]; rfl, ?_⟩ (p5.get l9 (p4.get d9m y9))
    have := m4.put p5 l11
    unfold putsP at this ⊢
    rw [List.foldl_append]; exact this
 refine s_txOptions1 C (x := x) (args := args) (fl := []) (va := va) (z0 := ⟨none, 0, 0⟩) (hx.gr gρ) hxc hz ?_ ?_ ?_ ?_ ?_ ?_ ?_ ?_
 ·rw [show optR σ b5 b6 b7' b8' b9 x [] va b5 = _ from by unfold optR; rw [H.put_other _ _ d58, H.put_other _ _ d57, H.put_other _ _ d56, H.put_same]]
 ·rw [show optR σ b5 b6 b7' b8' b9 x [] va b6 = _ from by unfold optR; rw [H.put_other _ _ d68, H.put_other _ _ d67, H.put_same]]
 ·rw [show optR σ b5 b6 b7' b8' b9 x [] va b7' = _ from by unfold optR; rw [H.put_other _ _ d78', H.put_same]]
 ·exact H.put_same _ _ _
 ·exact ⟨[], ρ5.putF hput rl, hput.same, hput.get l8 x8, hput.get l10 x10, rfl, rfl, MapAt.new (hput.get l11 x11)⟩
 ·exact hput.get l9 x9
 ·rintro τ z ⟨d, h1, h2, h3, h4, h5, h6, h7⟩ hbr hr hc
  rw [List.append_nil] at h5
  refine end_n h2 (by intro e; cases e) ?_; intro τ1 p1
  have hrT : RowsAt τ1 1 (strRows (opsF [] va args).2) z := hr.gr (h1.putF p1 rl)
  have hfp : valuesP va args = some (putsP d [], (opsF [] va args).2) := by unfold valuesP; rw [h5, h6]; rfl
  refine hj _ z τ1 _ hfp (gρ.trans (h1.putF p1 rl)) (h7.put p1 l11) hrT hc (p1.get l8 h3) (p1.get l9 hbr) (p1.get l10 h4) ?_
  intro g o hb hne
  have hgρ := rows_has hr hb (by intro e; exact hne (by simpa [strRows] using e))
  exact ⟨fun e => hgρ (e ▸ r8), fun e => hgρ (e ▸ r9), fun e => hgρ (e ▸ r10)⟩
 ·rintro τ ⟨h1, h2, h3, h4, h5, h6⟩
  refine end_r h2 (by intro e; cases e) ?_; intro τ1 p1
  refine rd_M (rdC_of (p1.get l8 h3) (by rfl)) (rd_L (rdC_of (p1.get l9 h4) (by rfl)) (rd_B (rdC_of (p1.get l10 h5) (by rfl)) ?_))
  exact hN (by unfold valuesP; rw [h6]; rfl) τ1 (h1.putF p1 (none_of gρ rl))
end
theorem x_LastIB (c : UInt8) (l : List UInt8) (hl : l.length <= 1000000000) {σ : H} {K : KH} (hK : K (.int .i64 (((lastN c l : Nat) : Int) - 1)) σ) : callW Tryz.prog 54 [.string ⟨⟨l⟩⟩, .int .u8 ((c.toNat : Nat) : Int)] K σ := by
 refine c54 _ _ ?_
 unfold g54
 refine call_i (c81 _ _ ?_)
 unfold g81
 refine loop_i ?_
 intro R hR
 have key : ∀ (n : Nat) (m q : List UInt8), m.length = n -> n <= 1000000000 -> l = m ++ q -> lastN c m = lastN c l -> R ⟨⟨l⟩⟩ ((c.toNat : Nat) : Int) ((n : Int) - 1) σ := by
  intro n
  induction n with
  | zero =>
   intro m q hm _ _ ht
   have : m = [] := List.eq_nil_of_length_eq_zero hm
   subst this
   refine hR _ _ _ _ (br_f (by simp only [decide_eq_false_iff_not]; omega) ?_)
   refine app_I ?_
   rw [<- ht] at hK; exact hK
  | succ n ih =>
   intro m q hm hn hlq ht
   obtain ⟨p, x, rfl, hp⟩ := snoc_of hm
   rw [lastN_snoc] at ht
   refine hR _ _ _ _ (br_t (by simp only [decide_eq_true_eq]; omega) ?_)
   have e1 : (((n + 1 : Nat) : Int) - 1) = (n : Int) := by omega
   rw [e1]
   refine idx_l (c := x) (by omega) (by rw [Int.toNat_natCast, hlq]; show ((p ++ [x]) ++ q)[n]? = some x; rw [List.append_assoc, List.getElem?_append_right (by omega), hp]; simp) ?_
   rw [u8e]
   cases hx : x == c with
   | true =>
    rw [hx, if_pos rfl] at ht
    refine br_t rfl (app_I ?_)
    rw [<- ht] at hK
    rw [hp, e1] at hK; exact hK
   | false =>
    rw [hx, if_neg (by simp)] at ht
    refine br_f rfl ?_
    rw [wrap_id (by omega) (by omega)]
    exact ih p ([x] ++ q) hp (by omega) (by rw [hlq, List.append_assoc]) ht
 have h := key l.length l [] rfl hl (by simp) rfl
 have e : IntKind.i64.wrap ((((⟨⟨l⟩⟩ : ByteArray).size : Nat) : Int) - 1) = ((l.length : Nat) : Int) - 1 := by rw [bsz, wrap_id (by omega) (by omega)]
 rw [e]; exact h
theorem x_TrimSuf (l e : List UInt8) (hl : l.length <= 1000000000) (he : e.length <= 1000000000) {σ : H} {K : KH} (hK : K (.string ⟨⟨trimEnd l e⟩⟩) σ) : callW Tryz.prog 17 [.string ⟨⟨l⟩⟩, .string ⟨⟨e⟩⟩] K σ := by
 refine c17 _ _ ?_
 unfold g17
 refine call_i (c28 _ _ ?_)
 unfold g28
 refine call_i (c63 _ _ ?_)
 unfold g63
 rw [bsz, bsz]
 unfold trimEnd hasEnd at hK
 by_cases h : e.length <= l.length
 ·have e1 : IntKind.i64.wrap ((l.length : Int) - (e.length : Int)) = ((l.length - e.length : Nat) : Int) := by rw [wrap_id (by omega) (by omega)]; omega
  rw [e1, Int.toNat_natCast]
  rw [Nat.ble_eq_true_of_le h] at hK
  refine br_t (by simp only [decide_eq_true_eq]; omega) (if_i ⟨bnd_none, bnd_some (by omega) (by omega)⟩ (app_B ?_))
  have e2 : (⟨⟨l⟩⟩ : ByteArray).extract (l.length - e.length) l.length = ⟨⟨l.drop (l.length - e.length)⟩⟩ := ext_drop l _
  rw [e2, <- sEq_eq]
  have e3 : sEq ⟨⟨l.drop (l.length - e.length)⟩⟩ ⟨⟨e⟩⟩ = (l.drop (l.length - e.length) == e) := rfl
  rw [e3]
  cases hd : (l.drop (l.length - e.length) == e) with
  | true =>
   rw [hd, if_pos (show (true && true) = true from rfl)] at hK
   refine br_t rfl (if_i ⟨bnd_some (by omega) (by omega), bnd_none⟩ (app_S ?_))
   have e4 : (⟨⟨l⟩⟩ : ByteArray).extract 0 (l.length - e.length) = ⟨⟨l.take (l.length - e.length)⟩⟩ := by rw [bex]; rfl
   rw [e4]; exact hK
  | false =>
   rw [hd, if_neg (show ¬ (true && false) = true by simp)] at hK
   exact br_f rfl (app_S hK)
 ·refine br_f (by simp only [decide_eq_false_iff_not]; omega) (app_B (br_f rfl (app_S ?_)))
  rw [if_neg] at hK
  ·exact hK
  ·have : Nat.ble e.length l.length = false := by
    cases hb : Nat.ble e.length l.length with
    | false => rfl
    | true => exact absurd (Nat.le_of_ble_eq_true hb) h
   rw [this]; simp
theorem x_sliHP (s p : ByteArray) {σ : H} {K : KH} (hK : K (.bool (p.data.toList.isPrefixOf s.data.toList)) σ) : callW Tryz.prog 131 [.string s, .string p] K σ := by
 have hls : s.data.toList.length = s.size := rfl
 have hlp : p.data.toList.length = p.size := rfl
 refine c131 _ _ ?_
 unfold g131
 by_cases h : p.size <= s.size
 ·refine br_t (by simp; omega) (if_i ⟨bnd_some (by omega) (by omega), bnd_none⟩ ?_)
  have e : strEq (s.extract 0 (((p.size : Nat) : Int).toNat)) p = p.data.toList.isPrefixOf s.data.toList := by
   unfold strEq
   rw [ByteArray.toList_eq, ByteArray.toList_eq, extract_toList]
   simp only [Int.toNat_natCast, List.drop_zero]
   rw [Bool.eq_iff_iff, beq_iff_eq, List.isPrefixOf_iff_prefix, List.prefix_iff_eq_take, hlp]
   exact eq_comm
  rw [e]; exact hK
 ·refine br_f (by simp; omega) ?_
  have e : p.data.toList.isPrefixOf s.data.toList = false := by
   rw [<- Bool.not_eq_true, List.isPrefixOf_iff_prefix]
   intro hp
   have := hp.length_le
   omega
  rw [e] at hK; exact hK
theorem sz_tool : sizeT Tryz.prog 57 = some 5 := by kernel_rfl
theorem sz_done : sizeT Tryz.prog 45 = some 3 := by kernel_rfl
theorem sz_intT : sizeT Tryz.prog 3 = some 1 := by kernel_rfl
def dnW (d : Dn) : Value := .agg ⟨[.string d.out, .string d.err, .int .i64 d.st]⟩
def toolC (nm : ByteArray) (x : Sl) (inn cwd : ByteArray) (fs : Option Addr) : Obj := .cells ⟨[.string nm, .slice x.base x.len x.cap, .string inn, .string cwd, .pointer fs]⟩ 57 (0, 0)
def FB (σ τ : H) (b : Nat) (l : List UInt8) : Prop := ∃ D, BuAt τ b l D /\ Gr σ τ /\ ∀ c, D c -> σ c = none
section
variable {σ τ : H} {b : Nat} {l : List UInt8} {K : KH}
theorem FB.new {σ1 : H} (g : Gr σ σ1) (e : σ1 b = some (.cells ⟨[.pointer none, .slice none 0 0]⟩ 111 (0, 0))) (n : σ b = none) : FB σ σ1 b [] := ⟨_, BuAt.new e, g, fun c hc => hc ▸ n⟩
theorem FB.gr {τ' : H} (h : FB σ τ b l) (hg : Gr τ τ') : FB σ τ' b l := by
 obtain ⟨D, h1, h2, h3⟩ := h
 exact ⟨D, h1.gr hg, h2.trans hg, h3⟩
theorem FB.fg (h : FB σ τ b l) : Gr σ τ := by obtain ⟨D, h1, h2, h3⟩ := h; exact h2
theorem FB.al {τ' : H} {c : Nat} {o : Obj} (h : FB σ τ b l) (hg : Gr τ τ') (hc : τ' c = some o) (hn : τ c = none) : FB (σ.put c o) τ' b l := by
 obtain ⟨D, h1, h2, h3⟩ := h
 refine ⟨D, h1.gr hg, (h2.trans hg).put_in hc, fun d hd => ?_⟩
 have : d ≠ c := fun e => h1.has hd (by rw [e]; exact hn)
 rw [H.put_other _ _ this]; exact h3 d hd
theorem FB.set {τ' : H} {c : Nat} {o : Obj} (h : FB σ τ b l) (hc : σ c ≠ none) (hp : Put τ c o τ') : FB (σ.put c o) τ' b l := by
 obtain ⟨D, h1, h2, h3⟩ := h
 have hd : ¬ D c := fun e => hc (h3 c e)
 refine ⟨D, h1.put hp hd, ?_, fun d hd' => ?_⟩
 ·refine gr_of fun a oa ha => ?_
  by_cases e : a = c
  ·subst e; rw [H.put_same] at ha; cases ha; exact hp.same
  ·rw [H.put_other _ _ e] at ha; exact hp.get e (h2.get ha)
 ·have : d ≠ c := fun e => hd (e ▸ hd')
  rw [H.put_other _ _ this]; exact h3 d hd'
theorem FB.wr (h : FB σ τ b l) (s : ByteArray) (hl : l.length + s.size <= 100000000000) (hK : ∀ τ', FB σ τ' b (l ++ bl s) -> K (.tuple ⟨[.int .i64 ((s.size : Nat) : Int), .nilIface]⟩) τ') : callW Tryz.prog 70 [.pointer (some ⟨b, 0, none⟩), .string s] K τ := by
 obtain ⟨D, h1, h2, h3⟩ := h
 refine s_BuWrS h1 s hl fun τ' D' b' S' => hK τ' ⟨D', b', ?_, ?_⟩
 ·exact gr_of fun c o hc => (S' c o (h2.get hc) (fun hd => by rw [h3 c hd] at hc; cases hc)).1
 ·intro c hd
  cases hc : σ c with
  | none => rfl
  | some o => exact absurd hd (S' c o (h2.get hc) (fun hd => by rw [h3 c hd] at hc; cases hc)).2
theorem FB.str (h : FB σ τ b l) (hl : l.length <= 100000000000) (hK : ∀ τ', Gr σ τ' -> K (.string ⟨⟨l⟩⟩) τ') : callW Tryz.prog 71 [.pointer (some ⟨b, 0, none⟩)] K τ := by
 obtain ⟨D, h1, h2, h3⟩ := h
 exact s_BuStr h1 hl fun τ' hk => hK τ' <| gr_of fun c o hc => hk c o (h2.get hc) fun hd => by rw [h3 c hd] at hc; cases hc
end
section
variable {σ : H} {nm inn cwd : ByteArray} {x : Sl} {fs : Option Addr} {K : KH}
theorem s_txUsage (hn : nm.size <= 1000000000) (hK : ∀ σ', Gr σ σ' -> K (dnW (usageP nm)) σ') : callW Tryz.prog 33 [toolV nm x inn cwd fs] K σ := by
 refine c33 nm x inn cwd fs ?_
 unfold g33
 refine al_i ?_; intro b6 σ1 g1 e1 n1
 refine al_i ?_; intro b7 σ2 g2 e2 n2
 refine rd_S (rdC_of (g2.get e1) (by rfl)) (if_i (by show nm.size + 8 <= _; omega) ?_)
 refine st_i2 e2 sz_done (by rfl) (by rfl) ?_; intro σ3 p3
 refine rd_G (rdA_of p3.same (Nat.le_refl 3)) (app_of rfl ?_)
 exact hK σ3 ((g1.trans g2).putF p3 (none_of g1 n2))
theorem s_txLines (l : List UInt8) (hl : l.length <= 1000000000) (hK : ∀ y σ', RNew σ σ' 9 1 (strRows (linesP l)) y -> K (.slice y.base y.len y.cap) σ') : callW Tryz.prog 51 [.string ⟨⟨l⟩⟩] K σ := by
 refine c51 _ ?_
 unfold g51
 rw [strEq_nil]
 cases h : l.isEmpty with
 | true =>
  refine br_t rfl (hK ⟨none, 0, 0⟩ σ ?_)
  unfold linesP; rw [h]
  exact RNew.nil _ _ _
 | false =>
  refine br_f rfl (call_i (x_TrimSuf l [10] hl (by decide) (app_S ?_)))
  have ht : (trimEnd l [10]).length <= l.length := by
   unfold trimEnd; split
   ·rw [List.length_take]; omega
   ·exact Nat.le_refl _
  refine call_i (s_SplitC _ 10 (by rw [bsz]; omega) fun y σ' h' => app_L (hK y σ' ?_))
  unfold linesP; rw [h]; exact h'
theorem s_txJoined {L : List ByteArray} (hx : RowsAt σ 1 (strRows L) x) (hz : (joinedP L).length <= 1000000000) (hK : ∀ σ', Gr σ σ' -> K (.string ⟨⟨joinedP L⟩⟩) σ') : callW Tryz.prog 52 [.slice x.base x.len x.cap] K σ := by
 refine c52 x ?_
 unfold g52
 refine al_i ?_; intro b σ1 g1 e1 n1
 have hl := sLen hx
 have hjl : ∀ n, L.length <= n -> n <= L.length \/ True := fun _ _ => .inr trivial
 have hLz : L.length <= (joinedP L).length := by
  clear hz hK hx hl hjl
  induction L with
  | nil => exact Nat.le_refl _
  | cons a r ih => unfold joinedP at ih ⊢; rw [List.flatMap_cons, List.length_append, List.length_append, List.length_cons]; simp only [List.length_cons, List.length_nil]; omega
 refine loop_i fun R hR => ?_
 have key : ∀ r d τ, L = d ++ r -> FB σ τ b (joinedP d) -> R (some ⟨b, 0, none⟩) x ((x.len : Nat) : Int) ((d.length : Nat) : Int) τ := by
  intro r
  induction r with
  | nil =>
   intro d τ hd hf
   rw [List.append_nil] at hd
   subst hd
   refine hR _ _ _ _ _ (br_f (by rw [decide_eq_false_iff_not]; omega) (call_i (hf.str (by omega) fun τ' hg => app_S (hK τ' hg))))
  | cons a r ih =>
   intro d τ hd hf
   have hi : L[d.length]? = some a := by rw [hd]; simp
   have hlen : L.length = d.length + (r.length + 1) := by rw [hd]; simp
   have hsum : (joinedP L).length = (joinedP d).length + (bl a).length + 1 + (joinedP r).length := by
    rw [hd]; unfold joinedP; rw [List.flatMap_append, List.flatMap_cons]; simp only [List.length_append, List.length_cons, List.length_nil]; omega
   have hsz : a.size = (bl a).length := rfl
   obtain ⟨g, o, q1, q2, q3⟩ := sRow (hx.gr hf.fg) hi
   refine hR _ _ _ _ _ (br_t (by rw [decide_eq_true_eq]; omega) ?_)
   rw [q1]
   refine ptr_i (if_i ⟨by omega, by omega⟩ (rd_S (by rw [Int.toNat_natCast]; exact q3) (if_i (by show a.size + 1 <= _; omega) ?_)))
   have hbl : bl (a ++ ⟨⟨[10]⟩⟩) = bl a ++ [10] := by unfold bl; simp
   refine call_i (hf.wr _ (by rw [ByteArray.size_append]; show _ + (a.size + 1) <= _; omega) fun τ' hf' => app_of rfl ?_)
   rw [wS (by omega)]
   have := ih (d ++ [a]) τ' (by rw [hd]; simp) (by
    have e : joinedP (d ++ [a]) = joinedP d ++ bl (a ++ ⟨⟨[10]⟩⟩) := by rw [hbl]; unfold joinedP; simp
    rw [e]; exact hf')
   rw [List.length_append] at this
   exact this
 exact key L [] σ1 rfl (FB.new g1 e1 n1)
theorem s_txRead0 {y : Sl} (hy : y.len = 0) (hi : inn.size <= 1000000000) (hK : ∀ σ', Gr σ σ' -> K (.tuple ⟨[.string inn, dnW Dn.z]⟩) σ') : callW Tryz.prog 34 [toolV nm x inn cwd fs, .slice y.base y.len y.cap] K σ := by
 refine c34 nm x inn cwd fs y ?_
 unfold g34
 refine al_i ?_; intro b7 σ1 g1 e1 n1
 refine al_i ?_; intro b8 σ2 g2 e2 n2
 refine j_d (br_t (by rw [hy]; rfl) ?_)
 refine al_i ?_; intro bn σ3 g3 e3 n3
 refine al_i ?_; intro b13 σ4 g4 e4 n4
 have f4 : FB σ3 σ4 b13 [] := FB.new g4 e4 n4
 refine al_i ?_; intro b14 σ5 g5 e5 n5
 have f5 := f4.al g5 e5 n5
 refine loop_i fun R hR => ?_
 refine hR _ _ _ _ _ _ _ _ (br_t (by rfl) (j_d ?_))
 have u7 : σ5 b7 = some (toolC nm x inn cwd fs) := ((g2.trans g3).trans (g4.trans g5)).get e1
 have un : σ5 bn = some (.cells ⟨[.string ⟨⟨[45]⟩⟩]⟩ 9 (0, 0)) := (g4.trans g5).get e3
 refine ptr_i (if_i ⟨Int.le_refl _, by show (0 : Int) < ((1 : Nat) : Int); decide⟩ (rd_S (rdC_of un (by rfl)) (ptr_i (rd_S (rdC_of u7 (by rfl)) ?_))))
 refine j_d (br_f (by rw [strEq_iff.2 rfl]; rfl) (br_f rfl (call_i (f5.wr inn (by show 0 + inn.size <= _; omega) fun τ hf => app_of rfl ?_))))
 refine hR _ _ _ _ _ _ _ _ (br_f (by rfl) ?_)
 have n14 : σ3 b14 = none := none_of g4 n5
 have w14 := hf.fg.get (H.put_same _ _ _)
 refine ptr_i (rd_G (rdA_of w14 (Nat.le_refl 3)) (app_of rfl ?_))
 refine call_i (hf.str (by show ([] ++ bl inn).length <= _; rw [List.nil_append]; show inn.size <= _; omega) fun τ' hg => app_S ?_)
 have w14' := hg.get (H.put_same _ _ _)
 have G3 : Gr σ3 τ' := (Gr.put n14 _).trans hg
 refine and_i (rdA_of w14' (Nat.le_refl 3)) ?_
 have w8 : τ' b8 = _ := (g3.trans G3).get e2
 refine st_i2 w8 sz_done (by rfl) (by rfl) ?_; intro τ2 p2
 refine ptr_i (rd_G (rdA_of p2.same (Nat.le_refl 3)) (app_of rfl ?_))
 have : (⟨⟨[] ++ bl inn⟩⟩ : ByteArray) = inn := rfl
 rw [this]
 exact hK τ2 ((((g1.trans g2).trans g3).trans G3).putF p2 (none_of g1 n2))
theorem s_txRead1 {A : AT} {B : Nat -> Prop} {bf : Nat} (hF : FsAt σ bf A B) {y : Sl} {name : ByteArray} (hy : RowsAt σ 1 (strRows [name]) y) (hd : strEq name ⟨⟨[45]⟩⟩ = false) {e : Int} (he : (A.read cwd name).1 = e) (h0 : 1 <= e) (h1 : e <= 20) (hz : nm.size <= 1000000) (hz2 : name.size <= 1000000) (hfz : (fmtP 10 e).size <= 100)
 (hItoa : ∀ (τ : H) (K : KH), Gr σ τ -> K (.string (fmtP 10 e)) τ -> callW Tryz.prog 41 [.int .i64 e] K τ)
 (hK : ∀ σ', Gr σ σ' -> K (.tuple ⟨[.string ⟨⟨[]⟩⟩, dnW (failsP nm name e)]⟩) σ') : callW Tryz.prog 34 [toolV nm x inn cwd (some ⟨bf, 0, none⟩), .slice y.base y.len y.cap] K σ := by
 refine c34 nm x inn cwd _ y ?_
 unfold g34
 have hyl : y.len = 1 := sLen hy
 refine al_i ?_; intro b7 σ1 g1 e1 n1
 refine al_i ?_; intro b8 σ2 g2 e2 n2
 refine j_d (br_f (by rw [hyl]; rfl) ?_)
 refine al_i ?_; intro b13 σ4 g4 e4 n4
 have f4 : FB σ2 σ4 b13 [] := FB.new g4 e4 n4
 refine al_i ?_; intro b14 σ5 g5 e5 n5
 have f5 := f4.al g5 e5 n5
 refine loop_i fun R hR => ?_
 rw [hyl]
 refine hR _ _ _ _ _ _ _ _ (br_t (by rfl) (j_d ?_))
 have G5 : Gr σ σ5 := ((g1.trans g2).trans g4).trans g5
 have u7 : σ5 b7 = some (toolC nm x inn cwd (some ⟨bf, 0, none⟩)) := ((g2.trans g4).trans g5).get e1
 obtain ⟨g, o, q1, q2, q3⟩ := sRow (i := 0) (s := name) (hy.gr G5) (by rfl)
 rw [q1]
 refine ptr_i (if_i ⟨by decide, by rw [hyl]; decide⟩ (rd_S q3 (ptr_i (rd_S (rdC_of u7 (by rfl)) ?_))))
 have n14 : σ2 b14 = none := none_of g4 n5
 refine j_d (br_t (by rw [hd]; rfl) (ptr_i (rd_P (rdC_of u7 (by rfl)) (ptr_i (rd_S (rdC_of u7 (by rfl)) (call_i (s_Read (hF.gr G5) cwd name (app_of rfl ?_))))))))
 rw [he]
 refine br_t (by rw [bne_iff_ne]; omega) ?_
 refine ptr_i (rd_S (rdC_of e5 (by rfl)) (ptr_i (rd_S (rdC_of u7 (by rfl)) ?_)))
 refine if_i (by show nm.size + 2 <= _; omega) (if_i (by simp only [ByteArray.size_append]; show nm.size + 2 + name.size <= _; omega) (if_i (by simp only [ByteArray.size_append]; show nm.size + 2 + name.size + 2 <= _; omega) ?_))
 refine call_i (hItoa _ _ G5 (app_S ?_))
 refine and_i (rdC_of u7 (by rfl)) (and_i (rdC_of e5 (by rfl)) ?_)
 refine if_i (by simp only [ByteArray.size_append]; show nm.size + 2 + name.size + 2 + (fmtP 10 e).size <= _; omega) (if_i (by simp only [ByteArray.size_append]; show nm.size + 2 + name.size + 2 + (fmtP 10 e).size + 1 <= _; omega) (if_i (by simp only [ByteArray.size_append]; show 0 + (nm.size + 2 + name.size + 2 + (fmtP 10 e).size + 1) <= _; omega) ?_))
 refine ptr_i (st_i2 e5 sz_strS (by rfl) (by rfl) ?_); intro σ6 p6
 refine ptr_i (st_i2 p6.same sz_intT (by rfl) (by rfl) ?_); intro σ7 p7
 have f7 := (f5.set (by rw [H.put_same]; simp) p6).set (by rw [H.put_same]; simp) p7
 refine hR _ _ _ _ _ _ _ _ (br_f (by rfl) ?_)
 refine ptr_i (rd_G (rdA_of p7.same (Nat.le_refl 3)) (app_of rfl ?_))
 refine call_i (f7.str (by decide) fun τ' hg => app_S ?_)
 have w14' := hg.get (H.put_same _ _ _)
 have G3 : Gr σ2 τ' := by
  refine gr_of fun c oc hc => hg.get ?_
  have : c ≠ b14 := fun e => by rw [e, n14] at hc; cases hc
  rw [H.put_other _ _ this, H.put_other _ _ this, H.put_other _ _ this]; exact hc
 refine and_i (rdA_of w14' (Nat.le_refl 3)) ?_
 have w8 : τ' b8 = _ := G3.get e2
 refine st_i2 w8 sz_done (by rfl) (by rfl) ?_; intro τ2 p2
 refine ptr_i (rd_G (rdA_of p2.same (Nat.le_refl 3)) (app_of rfl ?_))
 have : (⟨⟨[]⟩⟩ : ByteArray) ++ (((((nm ++ ⟨⟨[58, 32]⟩⟩) ++ name) ++ ⟨⟨[58, 32]⟩⟩) ++ fmtP 10 e) ++ ⟨⟨[10]⟩⟩) = (failsP nm name e).err := by
  show _ = ((((nm ++ ⟨⟨[58, 32]⟩⟩) ++ name) ++ ⟨⟨[58, 32]⟩⟩) ++ fmtP 10 e) ++ ⟨⟨[10]⟩⟩
  exact ByteArray.empty_append
 have h2 := hK τ2 (((g1.trans g2).trans G3).putF p2 (none_of g1 n2))
 unfold dnW at h2
 rw [<- this] at h2
 exact h2
end
end Go.Proofs.YtpfkfphjigcdeaaGreatDoor

namespace Go.Proofs
open Go.Shelf
def Tryz.lays160_ren : Go.Shelf.Ren := ⟨fun | 160 => 95 | 232 => 118 | 231 => 103 | 227 => 104 | 234 => 119 | 233 => 105 | 236 => 120 | 235 => 106 | 228 => 129 | 271 => 141 | 151 => 130 | 197 => 65 | 120 => 159 | 152 => 152 | 260 => 87 | 137 => 40 | 119 => 165 | 224 => 89 | 225 => 88 | 217 => 73 | 266 => 97 | n => n, fun | 9 => 9 | 4 => 4 | 3 => 3 | 5 => 5 | 117 => 157 | 116 => 156 | 0 => 0 | 124 => 160 | 21 => 21 | 105 => 101 | 46 => 146 | 119 => 166 | 139 => 169 | 138 => 168 | n => n, fun | 3 => 1 | 4 => 2 | n => n⟩
theorem Tryz.lays160 : Go.Proofs.Lays.n160 Tryz.prog Tryz.lays160_ren := {
 mixed := by kernel_rfl
 f119 := Tryz.func165.trans (congrArg some (by kernel_rfl))
 f120 := Tryz.func159.trans (congrArg some (by kernel_rfl))
 f137 := Tryz.func40.trans (congrArg some (by kernel_rfl))
 f151 := Tryz.func130.trans (congrArg some (by kernel_rfl))
 f152 := Tryz.func152.trans (congrArg some (by kernel_rfl))
 f160 := Tryz.func95.trans (congrArg some (by kernel_rfl))
 f197 := Tryz.func65.trans (congrArg some (by kernel_rfl))
 f217 := Tryz.func73.trans (congrArg some (by kernel_rfl))
 f224 := Tryz.func89.trans (congrArg some (by kernel_rfl))
 f225 := Tryz.func88.trans (congrArg some (by kernel_rfl))
 f227 := Tryz.func104.trans (congrArg some (by kernel_rfl))
 f228 := Tryz.func129.trans (congrArg some (by kernel_rfl))
 f231 := Tryz.func103.trans (congrArg some (by kernel_rfl))
 f232 := Tryz.func118.trans (congrArg some (by kernel_rfl))
 f233 := Tryz.func105.trans (congrArg some (by kernel_rfl))
 f234 := Tryz.func119.trans (congrArg some (by kernel_rfl))
 f235 := Tryz.func106.trans (congrArg some (by kernel_rfl))
 f236 := Tryz.func120.trans (congrArg some (by kernel_rfl))
 f260 := Tryz.func87.trans (congrArg some (by kernel_rfl))
 f266 := Tryz.func97.trans (congrArg some (by kernel_rfl))
 f271 := Tryz.func141.trans (congrArg some (by kernel_rfl))
 t0 := Tryz.underlying0
 a0 := Tryz.isAgg0
 z0 := Tryz.sizeOf0
 v0 := Tryz.zeroValue0
 t3 := Tryz.underlying3
 a3 := Tryz.isAgg3
 z3 := Tryz.sizeOf3
 v3 := Tryz.zeroValue3
 t4 := Tryz.underlying4
 a4 := Tryz.isAgg4
 z4 := Tryz.sizeOf4
 v4 := Tryz.zeroValue4
 t5 := Tryz.underlying5
 a5 := Tryz.isAgg5
 z5 := Tryz.sizeOf5
 v5 := Tryz.zeroValue5
 t9 := Tryz.underlying9
 a9 := Tryz.isAgg9
 z9 := Tryz.sizeOf9
 v9 := Tryz.zeroValue9
 t21 := Tryz.underlying21
 a21 := Tryz.isAgg21
 z21 := Tryz.sizeOf21
 v21 := Tryz.zeroValue21
 t46 := Tryz.underlying146
 a46 := Tryz.isAgg146
 z46 := Tryz.sizeOf146
 v46 := Tryz.zeroValue146
 t105 := Tryz.underlying101
 a105 := Tryz.isAgg101
 z105 := Tryz.sizeOf101
 v105 := Tryz.zeroValue101
 t116 := Tryz.underlying156
 a116 := Tryz.isAgg156
 z116 := Tryz.sizeOf156
 t117 := Tryz.underlying157
 a117 := Tryz.isAgg157
 z117 := Tryz.sizeOf157
 v117 := Tryz.zeroValue157
 t119 := Tryz.underlying166
 a119 := Tryz.isAgg166
 z119 := Tryz.sizeOf166
 t124 := Tryz.underlying160
 a124 := Tryz.isAgg160
 z124 := Tryz.sizeOf160
 v124 := Tryz.zeroValue160
 t138 := Tryz.underlying168
 a138 := Tryz.isAgg168
 z138 := Tryz.sizeOf168
 v138 := Tryz.zeroValue168
 t139 := Tryz.underlying169
 a139 := Tryz.isAgg169
 z139 := Tryz.sizeOf169
 v139 := Tryz.zeroValue169
 g3 := by kernel_rfl
 g4 := by kernel_rfl }
end Go.Proofs

set_option maxRecDepth 100000
namespace Go.Proofs.YtpfkfphjigcdeaaGreatDoor
open Go Go.HL Go.Wk
theorem und_bytesM : Tryz.prog.underlying 22 = some (.slice 5) := Tryz.underlying22
theorem und_u8M : Tryz.prog.underlying 5 = some (.int .u8) := Tryz.underlying5
theorem und_strM : Tryz.prog.underlying 9 = some .string := Tryz.underlying9
theorem x_TrimD (l : List UInt8) (hl : l.length <= 1000000000) {σ : H} {K : KH} (hK : K (.string ⟨⟨Lib.trimS l digL⟩⟩) σ) : callW Tryz.prog 95 [.string ⟨⟨l⟩⟩, .string ⟨⟨digL⟩⟩] K σ := by
 intro w hw
 refine callsIn_wide.2 ((Any.strings_Trim_laid Tryz.lays160 (by kernel_rfl) ⟨⟨l⟩⟩ ⟨⟨digL⟩⟩ w (by rw [bsz]; omega) (by decide) (ascii_of_all (by decide))).mono ?_)
 rintro en w' ⟨rfl, hb⟩
 exact ⟨_, rfl, σ, ext_below hw hb, hK⟩
theorem nileq_i {x : Operand} {F : Bool -> H -> Prop} {σ : H} (hF : F true σ) : vaW Tryz.prog (do eqGuard .eql 116 x (.const (.nilIface)) (.nilIface) (.nilIface); binOp .eql 116 (.nilIface) (.nilIface)) kB F σ := by
 intro w hw
 have h1 : (eqGuard .eql 116 x (.const (.nilIface)) (.nilIface) (.nilIface)).run Tryz.prog w = .ok () w := by simp [eqGuard]
 have h2 : (binOp .eql 116 (.nilIface) (.nilIface)).run Tryz.prog w = .ok (.bool true) w := run_eql_nil_nil_at w 116 (by kernel_rfl)
 simp only [valS, Sem.run_bind, h1, h2, Result.andThen_ok, Sem.run_pure]
 exact ⟨_, Ext.refl hw, app_B hF⟩
theorem nilne_i {x : Operand} {F : Bool -> H -> Prop} {σ : H} (hF : F false σ) : vaW Tryz.prog (do eqGuard .neq 116 x (.const (.nilIface)) (.nilIface) (.nilIface); binOp .neq 116 (.nilIface) (.nilIface)) kB F σ := by
 intro w hw
 have h1 : (eqGuard .neq 116 x (.const (.nilIface)) (.nilIface) (.nilIface)).run Tryz.prog w = .ok () w := by simp [eqGuard]
 have h2 : (binOp .neq 116 (.nilIface) (.nilIface)).run Tryz.prog w = .ok (.bool false) w := run_neq_nil_nil_at w 116 (by kernel_rfl)
 simp only [valS, Sem.run_bind, h1, h2, Result.andThen_ok, Sem.run_pure]
 exact ⟨_, Ext.refl hw, app_B hF⟩
attribute [local irreducible] ptrW ifW brW andW rdT alW letJ stW muW biW vaW imW callT cvalT app callW invW callVW sizeT oW nilF oneK loopW rfW funW begW roundK exW idxW Gr Put
theorem trimS_dig (l : List UInt8) : (Lib.trimS l digL).isEmpty = l.all dig := by
 have e : (fun c => digL.contains c) = dig := funext digL_dig
 show (List.dropWhile (fun c => digL.contains c) (List.dropWhile (fun c => digL.contains c) l.reverse).reverse).isEmpty = _
 rw [e]; exact trR_dig l dig
theorem x_iAtoi (l : List UInt8) (h1 : (unsign l).isEmpty = false) (h2 : (unsign l).length <= 15) (h3 : (unsign l).all dig = true) {σ : H} {K : KH} (hK : K (.tuple ⟨[.int .i64 (if headIs 45 ⟨⟨l⟩⟩ then -(numL (unsign l) 0 : Int) else (numL (unsign l) 0 : Int)), .nilIface]⟩) σ) : callW Tryz.prog 121 [.string ⟨⟨l⟩⟩] K σ := by
 refine pure_i _ hK (c121 _ ?_)
 clear hK
 unfold g121
 obtain ⟨c, r, rfl⟩ : ∃ c r, l = c :: r := by
  cases l with
  | nil => cases h1
  | cons c r => exact ⟨c, r, rfl⟩
 have hu : unsign (c :: r) = if (c == 45) = true then r else c :: r := rfl
 have hh : headIs 45 ⟨⟨c :: r⟩⟩ = (c == 45) := rfl
 have hlen : (c :: r).length <= 16 := by
  rw [hu] at h2
  cases hc : c == 45 with
  | true => rw [hc, if_pos rfl] at h2; simp only [List.length_cons]; omega
  | false => rw [hc, if_neg (by simp)] at h2; omega
 have hs : (⟨⟨c :: r⟩⟩ : ByteArray).size = (c :: r).length := rfl
 refine j_d ?_
 refine br_t (by rw [hs, decide_eq_true_eq]; simp only [List.length_cons]; omega) (br_t (by rw [hs, decide_eq_true_eq]; omega) ?_)
 refine j_i (fun j => j ⟨⟨unsign (c :: r)⟩⟩ ⟨⟨c :: r⟩⟩ σ) ?_ ?_
 case refine_2 =>
  intro j hj
  refine j_d (idx_l (c := c) (by omega) (by rfl) ?_)
  rw [show ((((c.toNat : Nat) : Int) : Int) == 45) = (c == 45) from u8e c 45]
  cases hc : c == 45 with
  | true =>
   rw [hu, hc, if_pos rfl] at hj h1
   refine br_t rfl (br_t rfl (if_i ⟨bnd_none, bnd_some (by decide) (by rw [hs, List.length_cons]; omega)⟩ ?_))
   rw [show ((1 : Int).toNat) = 1 from rfl, ext_hd]
   refine br_f ?_ hj
   rw [bsz, decide_eq_false_iff_not]
   cases r with
   | nil => cases h1
   | cons => simp only [List.length_cons]; omega
  | false =>
   rw [hu, hc, if_neg (by simp)] at hj h3
   have hd := all_at h3 (i := 0) rfl
   have hr := dig_rng hd
   refine br_f rfl (idx_l (c := c) (by omega) (by rfl) ?_)
   exact br_f (by simp only [beq_eq_false_iff_ne]; omega) hj
 generalize hd : unsign (c :: r) = d at *
 refine sbytes_i und_strM und_bytesM und_u8M ⟨⟨d⟩⟩ ?_
 intro x σ1 g1 hx
 have hxl : x.len = d.length := by rw [hx.1, brows_len]
 refine loop_i ?_
 intro R hR
 have key : ∀ (k i : Nat), k + i = d.length -> R ⟨⟨c :: r⟩⟩ ((numL (d.take i) 0 : Nat) : Int) x ((x.len : Nat) : Int) (i : Int) σ1 := by
  intro k
  induction k with
  | zero =>
   intro i hi
   refine hR _ _ _ _ _ _ ?_
   refine br_f (by simp only [decide_eq_false_iff_not]; omega) (j_d (idx_l (c := c) (by omega) (by rfl) ?_))
   rw [show ((((c.toNat : Nat) : Int) : Int) == 45) = (c == 45) from u8e c 45, hh, List.take_of_length_le (by omega)]
   have hb := numL_lt d 0 h3
   have hb2 : 10 ^ d.length <= 10 ^ 15 := Nat.pow_le_pow_right (by decide) h2
   cases hc : c == 45 with
   | true =>
    refine br_t rfl ⟨?_, g1⟩
    rw [wrap_id (by omega) (by omega), if_pos rfl, Int.zero_sub]
   | false => exact br_f rfl ⟨by rw [if_neg (by simp)], g1⟩
  | succ k ih =>
   intro i hi
   obtain ⟨q, hq⟩ : ∃ q, d[i]? = some q := ⟨_, List.getElem?_eq_getElem (by omega)⟩
   have hr := dig_rng (all_at h3 hq)
   obtain ⟨g, o, a1, _, a3⟩ := hx.rdA (i := i) (r := [.int .u8 q.toNat]) (by show (brows d)[i]? = _; unfold brows; rw [List.getElem?_map, hq]; rfl) (by decide)
   have a4 := a3 0 _ rfl
   refine hR _ _ _ _ _ _ ?_
   refine br_t (by simp only [decide_eq_true_eq]; omega) ?_
   rw [a1]
   refine ptr_i (if_i ⟨by omega, by omega⟩ (rd_I (by rw [Int.toNat_natCast]; exact a4) ?_))
   have e1 : IntKind.u8.wrap (((q.toNat : Nat) : Int) - 48) = ((q.toNat - 48 : Nat) : Int) := by
    have : IntKind.u8.wrap (((q.toNat : Nat) : Int) - 48) = (((q.toNat : Nat) : Int) - 48) % 256 := rfl
    rw [this]; omega
   rw [e1]
   refine br_f (by simp only [decide_eq_false_iff_not]; omega) ?_
   have ht : (d.take i).all dig = true := by
    rw [List.all_eq_true] at h3 ⊢
    exact fun z hz => h3 z (List.mem_of_mem_take hz)
   have hb := numL_lt (d.take i) 0 ht
   have hb2 : 10 ^ (d.take i).length <= 10 ^ 15 := Nat.pow_le_pow_right (by decide) (by rw [List.length_take]; omega)
   have e2 : IntKind.i64.wrap ((q.toNat - 48 : Nat) : Int) = ((q.toNat - 48 : Nat) : Int) := wrap_id (by omega) (by omega)
   have e3 : IntKind.i64.wrap (((numL (d.take i) 0 : Nat) : Int) * 10) = ((numL (d.take i) 0 : Nat) : Int) * 10 := wrap_id (by omega) (by omega)
   rw [e2, e3, wrap_id (by omega) (by omega), wrap_id (x := (i : Int) + 1) (by omega) (by omega)]
   have e4 : ((numL (d.take i) 0 : Nat) : Int) * 10 + ((q.toNat - 48 : Nat) : Int) = ((numL (d.take (i + 1)) 0 : Nat) : Int) := by
    rw [List.take_add_one, hq]
    show _ = ((numL (d.take i ++ [q]) 0 : Nat) : Int)
    rw [numL_snoc]; omega
   rw [e4, show (i : Int) + 1 = ((i + 1 : Nat) : Int) from by omega]
   exact ih (i + 1) (by omega)
 exact key d.length 0 (by omega)
theorem app_IR {n : Int} {v : Value} {F : Int -> Value -> H -> Prop} {σ : H} (h2 : F n v σ) : HL.app (.tup [.sc (.int .i64), .sc .raw]) F (.tuple ⟨[.int .i64 n, v]⟩) σ := by
 simp only [HL.app, TK.prj, CK.prj, SK.prj, prjInt, sameK_self, tupOf, prjC]; exact h2
end Go.Proofs.YtpfkfphjigcdeaaGreatDoor

set_option maxRecDepth 100000
namespace Go.Proofs.YtpfkfphjigcdeaaGreatDoor
open Go Go.HL Go.Wk
attribute [local irreducible] ptrW ifW brW andW rdT alW letJ stW muW biW vaW imW callT cvalT app callW invW callVW sizeT oW nilF oneK loopW rfW funW begW roundK exW idxW Gr Put
def f64R : List (List Value) := [[.float .f64 4607182418800017408], [.float .f64 4621819117588971520], [.float .f64 4636737291354636288], [.float .f64 4652007308841189376], [.float .f64 4666723172467343360], [.float .f64 4681608360884174848], [.float .f64 4696837146684686336], [.float .f64 4711630319722168320], [.float .f64 4726483295884279808], [.float .f64 4741671816366391296], [.float .f64 4756540486875873280], [.float .f64 4771362005757984768], [.float .f64 4786511204640096256], [.float .f64 4801453603149578240], [.float .f64 4816244402031689728], [.float .f64 4831355200913801216], [.float .f64 4846369599423283200], [.float .f64 4861130398305394688], [.float .f64 4876203697187506176], [.float .f64 4891288408196988160], [.float .f64 4906019910204099648], [.float .f64 4921056587992461136], [.float .f64 4936209963552724370]]
def FloT (σ : H) : Prop := (∃ t fz, σ 10 = some (.cells ⟨[.bool true]⟩ t fz)) /\ (∃ t fz, σ 11 = some (.cells ⟨[.int .u64 52, .int .u64 11, .int .i64 (-1023)]⟩ t fz)) /\ ∃ (x : Sl) (t : TypeId) (fz : Nat × Nat), σ 14 = some (.cells ⟨[.slice x.base x.len x.cap]⟩ t fz) /\ RowsAt σ 1 f64R x
theorem FloT.gr {σ σ' : H} (h : FloT σ) (hg : Gr σ σ') : FloT σ' := by
 obtain ⟨⟨t1, z1, h1⟩, ⟨t2, z2, h2⟩, x, t3, z3, h3, hx⟩ := h
 exact ⟨⟨t1, z1, hg.get h1⟩, ⟨t2, z2, hg.get h2⟩, x, t3, z3, hg.get h3, hx.gr hg⟩
structure ItoaT (σ : H) : Prop where
 run : ∀ (τ : H) (n : Nat) (K : KH), Gr σ τ -> n < 1000000 -> K (.string (fmtP 10 n)) τ -> callW Tryz.prog 41 [.int .i64 n] K τ
 flo : FloT σ
theorem ItoaT.gr {σ σ' : H} (h : ItoaT σ) (hg : Gr σ σ') : ItoaT σ' := ⟨fun τ n K hg' => h.run τ n K (hg.trans hg'), h.flo.gr hg⟩
def FT (A : AT) (bf : Nat) (σ : H) : Prop := ItoaT σ /\ ∃ B, FsAt σ bf A B
theorem FT.gr {A : AT} {bf : Nat} {σ σ' : H} (h : FT A bf σ) (hg : Gr σ σ') : FT A bf σ' := ⟨h.1.gr hg, h.2.imp fun _ h => h.gr hg⟩
def TlOk (A : AT) (k : FuncId) (nm inn cwd : ByteArray) (args : List ByteArray) (d : Dn) : Prop := ∀ (σ : H) (x : Sl) (bf : Nat) (K : KH), FT A bf σ -> RowsAt σ 1 (strRows args) x -> x.len <= x.cap -> (∀ σ', Gr σ σ' -> K (dnW d) σ') ->
 callW Tryz.prog k [toolV nm x inn cwd (some ⟨bf, 0, none⟩)] K σ
theorem callVW_ofT {g : FuncId} {cs vs : List Value} {K : KH} {σ : H} (hg : isGo Tryz.prog g = true) (h : callW Tryz.prog g (vs ++ cs) K σ) : callVW Tryz.prog (.func (.func g) ⟨[]⟩ ⟨cs⟩) vs K σ := by
 unfold callVW; simp only [hg]; exact h
theorem rnew_cap {ρ σ : H} {e : TypeId} {n : Nat} {rows : List (List Value)} {y : Sl} (h : RNew ρ σ e n rows y) : y.len <= y.cap := by
 obtain ⟨_, ⟨h1, h2, ⟨h3, h4, h5⟩ | ⟨g, cur, _, _, _, h6, _⟩⟩, _⟩ := h
 ·rw [h1, h5]; exact Nat.zero_le _
 ·exact h6
theorem lines_len (l : List UInt8) : (linesP l).length <= l.length + 1 := by
 unfold linesP
 split
 ·simp
 ·rw [parts_len]
  have h1 : List.count 10 (trimEnd l [10]) <= (trimEnd l [10]).length := List.count_le_length
  have ht : (trimEnd l [10]).length <= l.length := by
   unfold trimEnd; split
   ·rw [List.length_take]; omega
   ·exact Nat.le_refl _
  show List.count 10 (trimEnd l [10]) + 1 <= _
  omega
theorem go_txHead1 : isGo Tryz.prog 36 = true := by kernel_rfl
theorem go_txTail1 : isGo Tryz.prog 37 = true := by kernel_rfl
theorem s_txNumber (l : List UInt8) {σ : H} {K : KH} (hK : K (.tuple ⟨[.int .i64 (((numberP l).getD 0 : Nat) : Int), .bool (numberP l).isSome]⟩) σ) : callW Tryz.prog 72 [.string ⟨⟨l⟩⟩] K σ := by
 refine c72 _ ?_
 unfold g72
 refine j_i (fun j => ∀ b : Bool, b = (l.isEmpty || (decide (l.length > 6) || !l.all dig)) -> j ⟨⟨l⟩⟩ b σ) ?_ ?_
 case refine_2 =>
  intro j hj
  rw [strEq_nil]
  cases h1 : l.isEmpty with
  | true => exact br_t rfl (hj _ (by rw [h1]; rfl))
  | false =>
   rw [h1] at hj
   refine br_f rfl ?_
   rw [bsz]
   by_cases h2 : l.length > 6
   ·exact br_t (by rw [decide_eq_true_eq]; omega) (hj _ (by rw [decide_eq_true h2]; rfl))
   ·refine br_f (by rw [decide_eq_false_iff_not]; omega) (call_i (x_TrimD l (by omega) (app_S ?_)))
    rw [strEq_nil, trimS_dig]
    exact hj _ (by rw [decide_eq_false h2]; rfl)
 intro b hb
 unfold numberP at hK
 rw [<- hb] at hK
 cases b with
 | true => exact br_t rfl hK
 | false =>
  have hb' := hb.symm
  simp only [Bool.or_eq_false_iff, decide_eq_false_iff_not, Bool.not_eq_false'] at hb'
  obtain ⟨h1, h2, h3⟩ := hb'
  rw [if_neg (by simp)] at hK
  have hu : unsign l = l /\ headIs 45 ⟨⟨l⟩⟩ = false := by
   cases l with
   | nil => exact ⟨rfl, rfl⟩
   | cons c r =>
    rw [List.all_cons, Bool.and_eq_true] at h3
    have hc : (c == 45) = false := by
     cases h : c == 45 with
     | false => rfl
     | true => rw [eq_of_beq h] at h3; exact absurd h3.1 (by decide)
    refine ⟨?_, ?_⟩
    ·show (if (c == 45) = true then r else c :: r) = _
     rw [hc]; rfl
    ·show (c == 45) = false
     exact hc
  refine br_f rfl (call_i (c96 _ ?_))
  unfold g96
  refine call_i (x_iAtoi l (by rw [hu.1]; exact h1) (by rw [hu.1]; omega) (by rw [hu.1]; exact h3) (app_IR (nilne_i (br_f rfl (app_IR (nileq_i ?_))))))
  rw [hu.1, hu.2]
  exact hK
section
variable {A : AT} {nm inn cwd : ByteArray} {args : List ByteArray}
theorem tl_ends_bad (hn : nm.size <= 1000000000) (hz : ∀ a ∈ args, a.size <= 1000000000) (hv : valuesP [110] args = none) (pv : Value) {σ : H} {x : Sl} {bf : Nat} {K : KH} (hx : RowsAt σ 1 (strRows args) x) (hxc : x.len <= x.cap) (hK : ∀ σ', Gr σ σ' -> K (dnW (usageP nm)) σ') :
 callW Tryz.prog 35 [toolV nm x inn cwd (some ⟨bf, 0, none⟩), pv] K σ := by
 refine c35 nm x inn cwd _ pv ?_
 unfold g35
 refine al_i ?_; intro b7 σ1 g1 e1 n1
 refine al_i ?_; intro b8 σ2 g2 e2 n2
 have n8 := none_of g1 n2
 have G2 := g1.trans g2
 refine rd_G (rdA_of (g2.get e1) (Nat.le_refl 5)) (app_of rfl ?_)
 refine call_i (s_txValues (hx.gr G2) hxc hz [110] (fun _ σ3 g3 => app_of rfl ?_) (fun m rest z b σ3 h => by rw [hv] at h; cases h))
 refine j_d ?_
 refine rd_G (r := rdM _ _ _ _ _) (v := .tuple ⟨[.string ⟨⟨[]⟩⟩, .bool false]⟩) rfl (app_of rfl ?_)
 refine j_d (br_f rfl (br_f rfl (br_t rfl (ptr_i ?_))))
 refine rd_G (rdA_of (g3.get (g2.get e1)) (Nat.le_refl 5)) (app_of rfl ?_)
 refine call_i (s_txUsage hn fun σ4 g4 => app_of rfl ?_)
 refine st_i2 (g4.get (g3.get e2)) sz_done (by rfl) (by rfl) ?_; intro σ5 p5
 refine ptr_i (rd_G (rdA_of p5.same (Nat.le_refl 3)) (app_of rfl ?_))
 exact hK σ5 (((G2.trans g3).trans g4).putF p5 n8)
theorem tl_ends {n : Nat} {m : List (Int × ByteArray)} (pt : List ByteArray -> Nat -> List ByteArray) (hz : ∀ a ∈ args, a.size <= 1000000000) (hv : valuesP [110] args = some (m, [])) (hnum : (lk (110 : Int) m = none /\ n = 10) \/ ∃ s, lk (110 : Int) m = some s /\ numberP (bl s) = some n) (hi : inn.size <= 1000000000)
 (pv : Value) (hp : ∀ (τ : H) (y : Sl) (L : List ByteArray) (k : Nat) (K : KH), RowsAt τ 1 (strRows L) y -> y.len <= y.cap -> L.length <= 2000000000 -> k <= L.length -> (∀ z, RowsAt τ 1 (strRows (pt L k)) z -> z.len <= z.cap -> K (.slice z.base z.len z.cap) τ) -> callVW Tryz.prog pv [.slice y.base y.len y.cap, .int .i64 k] K τ)
 (hj : (joinedP (pt (linesP (bl inn)) (min n (linesP (bl inn)).length))).length <= 1000000000) {σ : H} {x : Sl} {bf : Nat} {K : KH} (hx : RowsAt σ 1 (strRows args) x) (hxc : x.len <= x.cap) (hK : ∀ σ', Gr σ σ' -> K (dnW (doneP (joinedP (pt (linesP (bl inn)) (min n (linesP (bl inn)).length))))) σ') :
 callW Tryz.prog 35 [toolV nm x inn cwd (some ⟨bf, 0, none⟩), pv] K σ := by
 refine c35 nm x inn cwd _ pv ?_
 unfold g35
 refine al_i ?_; intro b7 σ1 g1 e1 n1
 refine al_i ?_; intro b8 σ2 g2 e2 n2
 have n8 := none_of g1 n2
 have G2 := g1.trans g2
 refine rd_G (rdA_of (g2.get e1) (Nat.le_refl 5)) (app_of rfl ?_)
 refine call_i (s_txValues (hx.gr G2) hxc hz [110] (fun h => by rw [hv] at h; cases h) (fun m' rest z b σ3 h g3 hm hr hc => app_of rfl ?_))
 rw [hv] at h
 injection h with h
 injection h with h1 h2
 subst h1; subst h2
 refine j_i (fun j => j pv (some ⟨b7, 0, none⟩) (some ⟨b8, 0, none⟩) z true (n : Int) σ3) ?_ ?_
 ·refine br_f rfl (ptr_i (rd_G (rdA_of (g3.get (g2.get e1)) (Nat.le_refl 5)) (app_of rfl ?_)))
  have hzl : z.len = 0 := sLen hr
  refine call_i (s_txRead0 hzl hi fun σ4 g4 => app_of rfl ?_)
  refine al_i ?_; intro b50 σ5 g5 e5 n5
  refine st_i2 e5 sz_done (by rfl) (by rfl) ?_; intro σ6 p6
  have g56 := g5.putF p6 n5
  refine call_i (s_txLines (bl inn) hi fun y σ7 hy => app_L ?_)
  have hyl : y.len = (linesP (bl inn)).length := by rw [hy.len, strRows_len]
  have hmin : (if ((y.len : Nat) : Int) < (n : Int) then ((y.len : Nat) : Int) else (n : Int)) = ((min n (linesP (bl inn)).length : Nat) : Int) := by
   rw [hyl]; split <;> omega
  rw [hmin]
  refine cvalv_i (hp _ _ _ _ _ hy.at (rnew_cap hy) (by have := lines_len (bl inn); have h2 : (bl inn).length = inn.size := rfl; omega) (Nat.min_le_right _ _) fun w hw hwc => app_L ?_)
  refine call_i (s_txJoined hw hj fun σ8 g8 => app_S ?_)
  have g68 : Gr σ6 σ8 := hy.1.trans g8
  refine st_i2 (g68.get p6.same) sz_strS (by rfl) (by rfl) ?_; intro σ9 p9
  refine rd_G (rdA_of p9.same (Nat.le_refl 3)) (app_of rfl ?_)
  have d8 : b8 ≠ b50 := ne_fresh (g4.get (g3.get e2)) n5
  have k8 := p9.get d8 (g68.get (g56.get (g4.get (g3.get e2))))
  refine st_i2 k8 sz_done (by rfl) (by rfl) ?_; intro σt pt'
  refine ptr_i (rd_G (rdA_of pt'.same (Nat.le_refl 3)) (app_of rfl ?_))
  have Gf : Gr σ σ8 := (((G2.trans g3).trans g4).trans g56).trans g68
  exact hK σt ((Gf.putF p9 (none_of ((G2.trans g3).trans g4) n5)).putF pt' n8)
 ·intro j hj'
  have hrd := rdM_at (kk := kk8) (f := Value.string) hm (.string ⟨⟨[]⟩⟩) true (110 : Int)
  refine rd_G hrd ?_
  rcases hnum with ⟨h1, h2⟩ | ⟨s, h1, h2⟩
  ·rw [h1]
   subst h2
   refine app_of rfl ?_
   exact j_d (br_t rfl (br_f rfl hj'))
  ·rw [h1]
   refine app_of rfl ?_
   refine j_d (br_t rfl (br_t rfl ?_))
   obtain ⟨l, rfl⟩ := wT s
   have h2' : numberP l = some n := h2
   refine call_i (s_txNumber l (app_of rfl ?_))
   rw [h2']; exact hj'
theorem tl_head {n : Nat} {m : List (Int × ByteArray)} (hz : ∀ a ∈ args, a.size <= 1000000000) (hv : valuesP [110] args = some (m, [])) (hnum : (lk (110 : Int) m = none /\ n = 10) \/ ∃ s, lk (110 : Int) m = some s /\ numberP (bl s) = some n) (hi : inn.size <= 1000000000)
 (hj : (joinedP ((linesP (bl inn)).take (min n (linesP (bl inn)).length))).length <= 1000000000) : TlOk A 21 nm inn cwd args (doneP (joinedP ((linesP (bl inn)).take (min n (linesP (bl inn)).length)))) := by
 intro σ x bf K hF hx hxc hK
 refine c21 nm x inn cwd _ ?_
 unfold g21
 refine al_i ?_; intro b6 σ1 g1 e1 n1
 refine al_i ?_; intro b7 σ2 g2 e2 n2
 refine rd_G (rdA_of (g2.get e1) (Nat.le_refl 5)) (app_of rfl ?_)
 refine call_i (tl_ends (fun L k => L.take k) hz hv hnum hi _ ?_ hj (hx.gr (g1.trans g2)) hxc fun σ3 g3 => app_of rfl ?_)
 ·intro τ y L k K hy hc _ hk hK
  refine callVW_ofT go_txHead1 (c36 y _ ?_)
  unfold g36
  have hl := sLen hy
  refine if_i ⟨bnd_some (by omega) (by omega), bnd_none⟩ ?_
  have := hy.sub hc (k := 0) (e := k) (Nat.zero_le _) (by rw [strRows_len]; exact hk) (y.cap - 0)
  rw [List.drop_zero] at this
  rw [Int.toNat_natCast]
  refine hK ⟨slBase y.base 0 y.cap 1, k - 0, y.cap - 0⟩ ?_ (by simp only; omega)
  rw [show strRows (L.take k) = (strRows L).take k by unfold strRows; rw [List.map_take]]; exact this
 refine st_i2 (g3.get e2) sz_done (by rfl) (by rfl) ?_; intro σ4 p4
 refine rd_G (rdA_of p4.same (Nat.le_refl 3)) (app_of rfl ?_)
 exact hK σ4 (((g1.trans g2).trans g3).putF p4 (none_of g1 n2))
theorem tl_head_bad (hn : nm.size <= 1000000000) (hz : ∀ a ∈ args, a.size <= 1000000000) (hv : valuesP [110] args = none) : TlOk A 21 nm inn cwd args (usageP nm) := by
 intro σ x bf K hF hx hxc hK
 refine c21 nm x inn cwd _ ?_
 unfold g21
 refine al_i ?_; intro b6 σ1 g1 e1 n1
 refine al_i ?_; intro b7 σ2 g2 e2 n2
 refine rd_G (rdA_of (g2.get e1) (Nat.le_refl 5)) (app_of rfl ?_)
 refine call_i (tl_ends_bad hn hz hv _ (hx.gr (g1.trans g2)) hxc fun σ3 g3 => app_of rfl ?_)
 refine st_i2 (g3.get e2) sz_done (by rfl) (by rfl) ?_; intro σ4 p4
 refine rd_G (rdA_of p4.same (Nat.le_refl 3)) (app_of rfl ?_)
 exact hK σ4 (((g1.trans g2).trans g3).putF p4 (none_of g1 n2))
theorem tl_tail {n : Nat} {m : List (Int × ByteArray)} (hz : ∀ a ∈ args, a.size <= 1000000000) (hv : valuesP [110] args = some (m, [])) (hnum : (lk (110 : Int) m = none /\ n = 10) \/ ∃ s, lk (110 : Int) m = some s /\ numberP (bl s) = some n) (hi : inn.size <= 1000000000)
 (hj : (joinedP ((linesP (bl inn)).drop ((linesP (bl inn)).length - min n (linesP (bl inn)).length))).length <= 1000000000) : TlOk A 22 nm inn cwd args (doneP (joinedP ((linesP (bl inn)).drop ((linesP (bl inn)).length - min n (linesP (bl inn)).length)))) := by
 intro σ x bf K hF hx hxc hK
 refine c22 nm x inn cwd _ ?_
 unfold g22
 refine al_i ?_; intro b6 σ1 g1 e1 n1
 refine al_i ?_; intro b7 σ2 g2 e2 n2
 refine rd_G (rdA_of (g2.get e1) (Nat.le_refl 5)) (app_of rfl ?_)
 refine call_i (tl_ends (fun L k => L.drop (L.length - k)) hz hv hnum hi _ ?_ hj (hx.gr (g1.trans g2)) hxc fun σ3 g3 => app_of rfl ?_)
 ·intro τ y L k K hy hc hb hk hK
  refine callVW_ofT go_txTail1 (c37 y _ ?_)
  unfold g37
  have hl := sLen hy
  rw [wSub (a := y.len) (b := k) (by omega) (by omega)]
  refine if_i ⟨bnd_none, bnd_some (by omega) (by omega)⟩ ?_
  have := hy.sub hc (k := y.len - k) (e := L.length) (by omega) (by rw [strRows_len]; exact Nat.le_refl _) (y.cap - (y.len - k))
  rw [List.take_of_length_le (by rw [strRows_len]; exact Nat.le_refl _)] at this
  rw [Int.toNat_natCast]
  refine hK ⟨slBase y.base (y.len - k) y.cap 1, y.len - (y.len - k), y.cap - (y.len - k)⟩ ?_ (by simp only; omega)
  rw [show strRows (L.drop (L.length - k)) = (strRows L).drop (y.len - k) by unfold strRows; rw [List.map_drop, hl]]
  rw [hl] at this ⊢; exact this
 refine st_i2 (g3.get e2) sz_done (by rfl) (by rfl) ?_; intro σ4 p4
 refine rd_G (rdA_of p4.same (Nat.le_refl 3)) (app_of rfl ?_)
 exact hK σ4 (((g1.trans g2).trans g3).putF p4 (none_of g1 n2))
end
end Go.Proofs.YtpfkfphjigcdeaaGreatDoor

set_option maxRecDepth 100000
namespace Go.Wk
open Go Go.HL
theorem fmtL_acc (b : Nat) : ∀ (f n : Nat) (acc : List UInt8), fmtL b f n acc = fmtL b f n [] ++ acc := by
 intro f
 induction f with
 | zero => intro n acc; rfl
 | succ f ih =>
  intro n acc
  unfold fmtL
  split
  ·rfl
  ·rw [ih (n / b) (digitL (n % b) :: acc), ih (n / b) [digitL (n % b)], List.append_assoc]; rfl
theorem fmtL_step {b f n : Nat} (h : ¬ n < b) : fmtL b (f + 1) n [] = fmtL b f (n / b) [] ++ [digitL (n % b)] := by
 rw [fmtL, if_neg h, fmtL_acc]
section
variable (A : AT) (cwd : ByteArray) {s t : ByteArray} {x y : Int}
end
end Go.Wk

set_option maxRecDepth 100000
namespace Go.Wk
open Go Go.HL
theorem dig10 {u : Nat} (h : u < 10) : UInt8.ofNat (48 + u) = digitL u := by
 have : u = 0 \/ u = 1 \/ u = 2 \/ u = 3 \/ u = 4 \/ u = 5 \/ u = 6 \/ u = 7 \/ u = 8 \/ u = 9 := by omega
 rcases this with h | h | h | h | h | h | h | h | h | h <;> subst h <;> decide
theorem dec_fmt : ∀ (f u : Nat), u < 10 ^ f -> 0 < f -> Lib.decDigits u = fmtL 10 f u [] := by
 intro f
 induction f with
 | zero => intro u _ h; cases h
 | succ f ih =>
  intro u hu _
  rw [Lib.decDigits]
  by_cases h : u < 10
  ·rw [dif_pos h, fmtL, if_pos h, dig10 h]
  ·rw [dif_neg h, fmtL_step h]
   have hf : 0 < f := by
    rcases Nat.eq_zero_or_pos f with e | e
    ·subst e; simp at hu; omega
    ·exact e
   rw [ih (u / 10) (by rw [Nat.pow_succ] at hu; omega) hf, dig10 (Nat.mod_lt _ (by decide))]
theorem itoa_fmt {n : Int} (h1 : -1000000000000000 < n) (h2 : n < 1000000000000000) : (⟨⟨Lib.itoa n⟩⟩ : ByteArray) = fmtP 10 n := by
 have hb : n.natAbs < 10 ^ 64 := by have : n.natAbs < 10 ^ 15 := by omega
                                    exact Nat.lt_trans this (by decide)
 unfold Lib.itoa fmtP
 by_cases h : n < 0
 ·rw [if_pos h, if_pos h, dec_fmt 64 _ hb (by decide)]
 ·rw [if_neg h, if_neg h, show n.toNat = n.natAbs by omega, dec_fmt 64 _ hb (by decide)]
def TabC (σ : H) (g : Nat) (k : IntKind) (zs : List Int) : Prop := ∃ t fz, σ g = some (.cells ⟨zs.map fun z => Value.int k z⟩ t fz)
theorem TabC.gr {σ σ' : H} {g : Nat} {k : IntKind} {zs : List Int} (h : TabC σ g k zs) (hg : Gr σ σ') : TabC σ' g k zs := by
 obtain ⟨t, fz, h⟩ := h; exact ⟨t, fz, hg.get h⟩
theorem TabC.is {P : Program} {σ : H} {w : World} {g : Nat} {k : IntKind} {zs : List Int} {name : String} (h : TabC σ g k zs) (hw : σ.le w) (hg : P.globalNamed name = some g) : Lib.TabIs P w name k zs := by
 obtain ⟨t, fz, h⟩ := h
 unfold Lib.TabIs World.var?
 rw [hg]
 simp [hw g _ h]
theorem TabC.of {P : Program} {W : World} {g : Nat} {k : IntKind} {zs : List Int} {name : String} (h : Lib.TabIs P W name k zs) (hg : P.globalNamed name = some g) : TabC (whole W) g k zs := by
 unfold Lib.TabIs World.var? at h
 rw [hg] at h
 simp only [Option.bind_some] at h
 unfold TabC whole
 cases hb : W.heap[g]? with
 | none => rw [hb] at h; cases h
 | some o =>
  rw [hb] at h
  cases o with
  | cells cs t fz =>
   simp only [Option.some.injEq] at h
   exact ⟨t, fz, by rw [h]⟩
  | _ => cases h
end Go.Wk

set_option maxRecDepth 100000
namespace Go.Wk
open Go Go.HL
theorem fmtL_len (b : Nat) : ∀ (f n : Nat) (acc : List UInt8), (fmtL b f n acc).length <= f + acc.length := by
 intro f
 induction f with
 | zero => intro n acc; show acc.length <= _; omega
 | succ f ih =>
  intro n acc
  rw [fmtL]
  split
  ·simp only [List.length_cons]; omega
  ·have := ih (n / b) (digitL (n % b) :: acc)
   simp only [List.length_cons] at this; omega
theorem fmtP_size (b : Nat) (n : Int) : (fmtP b n).size <= 65 := by
 unfold fmtP
 show (if n < 0 then _ else _ : List UInt8).length <= 65
 have := fmtL_len b 64 n.natAbs []
 split <;> simp only [List.length_cons, List.length_nil] at * <;> omega
structure PB (k : Nat) (s : PS) : Prop where
 out : s.out.size <= 3000 * k
 err : s.err.size <= 3000 * k
 args : ∀ a ∈ s.args, a.size <= 1000
theorem PB.a0 {k : Nat} {s : PS} (h : PB k s) : s.a0.size <= 1000 := by
 unfold PS.a0
 cases hs : s.args with
 | nil => decide
 | cons a r => exact h.args a (by rw [hs]; exact List.mem_cons_self ..)
end Go.Wk

set_option maxRecDepth 100000
namespace Go.Proofs.YtpfkfphjigcdeaaGreatDoor
open Go Go.HL Go.Wk
attribute [local irreducible] ptrW ifW brW andW rdT alW letJ stW muW biW vaW imW callT cvalT app callW invW callVW sizeT oW nilF oneK loopW rfW funW begW roundK exW idxW Gr Put
theorem el_strsT : ElT Tryz.prog 26 9 1 := elT_of (by kernel_rfl) (by decide) (by kernel_rfl)
theorem x_Contains1 (l : List UInt8) (c : UInt8) {σ : H} {K : KH} (hK : K (.bool (l.contains c)) σ) : callW Tryz.prog 48 [.string ⟨⟨l⟩⟩, .string ⟨⟨[c]⟩⟩] K σ := by
 refine c48 _ _ ?_
 unfold g48
 refine call_i (c31 _ _ ?_)
 unfold g31
 refine call_i (c67 _ _ ?_)
 unfold g67
 refine j_d (br_f rfl ?_)
 cases h : strEq ⟨⟨[c]⟩⟩ ⟨⟨l⟩⟩ with
 | true =>
  refine br_t rfl (app_I (app_I ?_))
  have e := strEq_iff.1 h
  injection e with e; injection e with e
  subst e
  have : ([c] : List UInt8).contains c = true := by simp
  rw [this] at hK; exact hK
 | false =>
  refine br_f rfl (br_t rfl (idx_l (c := c) (Int.le_refl _) rfl (call_i (c73 _ _ ?_))))
  unfold g73
  refine x_IBS _ _ (app_I (app_I (app_I ?_)))
  rw [u8bT, fI_iff]; exact hK
section
variable {A : AT} {nm inn cwd : ByteArray} {args : List ByteArray}
theorem tl_cat1 (hz : ∀ a ∈ args, a.size <= 1000000000) (hlen : (opsF [] [] args).1.length <= 1000000000) {got : List UInt8} {name : ByteArray} (hv : flagsP [] args = some (got, [name])) (hd : strEq name ⟨⟨[45]⟩⟩ = false) {e : Nat} (he : (A.read cwd name).1 = e) (h0 : 1 <= e) (h1 : e <= 20) (hn : nm.size <= 1000000) (hz2 : name.size <= 1000000) : TlOk A 20 nm inn cwd args (failsP nm name e) := by
 intro σ x bf K hF hx hxc hK
 refine c20 nm x inn cwd _ ?_
 unfold g20
 refine al_i ?_; intro b6 σ1 g1 e1 n1
 refine al_i ?_; intro b7 σ2 g2 e2 n2
 refine rd_G (rdA_of (g2.get e1) (Nat.le_refl 5)) (app_of rfl ?_)
 refine call_i (s_txFlags (hx.gr (g1.trans g2)) hxc hz [] hlen (fun h => by rw [hv] at h; cases h) (fun got' rest z σ3 h g3 hr hc => app_of rfl ?_))
 rw [hv] at h
 injection h with h
 injection h with h1' h2
 subst h1'; subst h2
 have G3 := (g1.trans g2).trans g3
 obtain ⟨hI, B, hFs⟩ := hF.gr G3
 refine br_f rfl (rd_G (rdA_of (g3.get (g2.get e1)) (Nat.le_refl 5)) (app_of rfl ?_))
 refine call_i (s_txRead1 hFs hr hd he (by omega) (by omega) hn hz2 (Nat.le_trans (fmtP_size _ _) (by decide)) (fun τ K' hg hk => hI.run τ e K' hg (by omega) hk) fun σ4 g4 => app_of rfl ?_)
 refine al_i ?_; intro b36 σ5 g5 e5 n5
 refine st_i2 e5 sz_done (by rfl) (by rfl) ?_; intro σ6 p6
 refine st_i2 p6.same sz_strS (by rfl) (by rfl) ?_; intro σ7 p7
 refine rd_G (rdA_of p7.same (Nat.le_refl 3)) (app_of rfl ?_)
 have g57 := (g5.putF p6 n5).putF p7 n5
 have G4 := G3.trans g4
 refine st_i2 (g57.get (g4.get (g3.get e2))) sz_done (by rfl) (by rfl) ?_; intro σ8 p8
 refine rd_G (rdA_of p8.same (Nat.le_refl 3)) (app_of rfl ?_)
 exact hK σ8 ((G4.trans g57).putF p8 (none_of g1 n2))
theorem tl_uniq (hz : ∀ a ∈ args, a.size <= 1000000000) (hlen : (opsF [99, 100] [] args).1.length <= 1000000000) {got : List UInt8} (hv : flagsP [99, 100] args = some (got, [])) (hi : inn.size <= 100000)
 (hj : (joinedP (uniqP (got.contains 99) (got.contains 100) ((linesP (bl inn)).length + 1) (linesP (bl inn)))).length <= 1000000000) (hlz : ∀ a ∈ linesP (bl inn), a.size <= 1000000000) :
 TlOk A 27 nm inn cwd args (doneP (joinedP (uniqP (got.contains 99) (got.contains 100) ((linesP (bl inn)).length + 1) (linesP (bl inn))))) := by
 intro σ x bf K hF hx hxc hK
 refine c27 nm x inn cwd _ ?_
 unfold g27
 refine al_i ?_; intro b6 σ1 g1 e1 n1
 refine al_i ?_; intro b7 σ2 g2 e2 n2
 refine rd_G (rdA_of (g2.get e1) (Nat.le_refl 5)) (app_of rfl ?_)
 refine call_i (s_txFlags (hx.gr (g1.trans g2)) hxc hz [99, 100] hlen (fun h => by rw [hv] at h; cases h) (fun got' rest z σ3 h g3 hr hc => app_of rfl ?_))
 rw [hv] at h
 injection h with h
 injection h with h1' h2
 subst h1'; subst h2
 have hzl : z.len = 0 := sLen hr
 refine br_f rfl (rd_G (rdA_of (g3.get (g2.get e1)) (Nat.le_refl 5)) (app_of rfl ?_))
 refine call_i (s_txRead0 hzl (by omega) fun σ4 g4 => app_of rfl ?_)
 refine al_i ?_; intro b36 σ5 g5 e5 n5
 refine st_i2 e5 sz_done (by rfl) (by rfl) ?_; intro σ6 p6
 have g56 := g5.putF p6 n5
 have G6 := (((g1.trans g2).trans g3).trans g4).trans g56
 have hbl : (bl inn).length = inn.size := rfl
 refine call_i (s_txLines (bl inn) (by omega) fun y σ7 hy => app_L ?_)
 have hll := lines_len (bl inn)
 generalize linesP (bl inn) = L at hy hll hj hK hlz
 have G7 := G6.trans hy.1
 have hI := hF.1
 have k36 : σ7 b36 = some (.cells ⟨[.string (doneP []).out, .string (doneP []).err, .int .i64 0]⟩ 45 (0, 0)) := hy.1.get p6.same
 have k7 : σ7 b7 = some (.cells ⟨[.string ⟨⟨[]⟩⟩, .string ⟨⟨[]⟩⟩, .int .i64 0]⟩ 45 (0, 0)) := hy.1.get (g56.get (g4.get (g3.get e2)))
 refine loop_i fun R hR => ?_
 have key : ∀ f L' acc (z : Sl) (o : Sl) τ, L'.length < f -> f <= L.length + 1 -> (∀ a ∈ L', a.size <= 1000000000) -> RowsAt σ7 1 (strRows L') z -> z.len <= z.cap -> RNew σ7 τ 9 1 (strRows acc) o -> acc ++ uniqP (got.contains 99) (got.contains 100) f L' = uniqP (got.contains 99) (got.contains 100) (L.length + 1) L -> acc.length + L'.length <= L.length ->
  R (some ⟨b7, 0, none⟩) ⟨⟨got⟩⟩ (some ⟨b36, 0, none⟩) o z τ := by
  intro f
  induction f with
  | zero => intro L' acc z o τ h; omega
  | succ f ih =>
   intro L' acc z o τ hf hfL hsz hz' hzc ho hacc hcount
   have hl := sLen hz'
   cases L' with
   | nil =>
    refine hR _ _ _ _ _ _ (br_f (by rw [hl]; rfl) ?_)
    have hu : acc = uniqP (got.contains 99) (got.contains 100) (L.length + 1) L := by rw [<- hacc]; unfold uniqP; rw [List.append_nil]
    subst hu
    refine call_i (s_txJoined ho.at hj fun τ1 q1 => app_S ?_)
    have q := ho.1.trans q1
    refine ptr_i (st_i2 (q.get k36) sz_strS (by rfl) (by rfl) ?_); intro τ2 p2
    refine ptr_i (rd_G (rdA_of p2.same (Nat.le_refl 3)) (app_of rfl ?_))
    have d : b7 ≠ b36 := ne_fresh (g4.get (g3.get e2)) n5
    refine st_i2 (p2.get d (q.get k7)) sz_done (by rfl) (by rfl) ?_; intro τ3 p3
    refine ptr_i (rd_G (rdA_of p3.same (Nat.le_refl 3)) (app_of rfl ?_))
    exact hK τ3 (((G7.trans q).putF p2 (none_of (((g1.trans g2).trans g3).trans g4) n5)).putF p3 (none_of g1 n2))
   | cons a r =>
    rw [List.length_cons] at hl hf hcount
    have hrn := aliN_le a r
    refine hR _ _ _ _ _ _ (br_t (by rw [decide_eq_true_eq]; omega) (loop_i fun R2 hR2 => ?_))
    have fin : ∀ τ' o', RNew σ7 τ' 9 1 (strRows (acc ++ (if Nat.ble 2 (aliN a r + 1) || !got.contains 100 then [if got.contains 99 then (fmtP 10 ((aliN a r + 1 : Nat) : Int) ++ ⟨⟨[32]⟩⟩) ++ a else a] else []))) o' ->
     R (some ⟨b7, 0, none⟩) ⟨⟨got⟩⟩ (some ⟨b36, 0, none⟩) o' ⟨slBase z.base (aliN a r + 1) z.cap 1, z.len - (aliN a r + 1), z.cap - (aliN a r + 1)⟩ τ' := by
     intro τ' o' ho'
     have hsub := hz'.sub hzc (k := aliN a r + 1) (e := (a :: r).length) (by simp; omega) (by rw [strRows_len]; exact Nat.le_refl _) (z.cap - (aliN a r + 1))
     rw [List.take_of_length_le (by rw [strRows_len]; exact Nat.le_refl _)] at hsub
     refine ih (r.drop (aliN a r)) _ _ o' τ' (by rw [List.length_drop]; omega) (by omega) (fun b hb => hsz b (List.mem_cons_of_mem _ (List.mem_of_mem_drop hb))) ?_ (by simp only; omega) ho' ?_ ?_
     ·rw [show strRows (r.drop (aliN a r)) = (strRows (a :: r)).drop (aliN a r + 1) by unfold strRows; rw [List.map_cons, List.drop_succ_cons, List.map_drop]]
      rw [show z.len - (aliN a r + 1) = (a :: r).length - (aliN a r + 1) by rw [List.length_cons, hl]]
      exact hsub
     ·rw [<- hacc, List.append_assoc]; rfl
     ·rw [List.length_append, List.length_drop]
      split <;> simp only [List.length_cons, List.length_nil] <;> omega
    have key2 : ∀ m n, aliN a r + 1 - n = m -> 1 <= n -> n <= aliN a r + 1 -> R2 (some ⟨b7, 0, none⟩) ⟨⟨got⟩⟩ (some ⟨b36, 0, none⟩) o z (n : Int) τ := by
     intro m
     induction m with
     | succ m ihm =>
      intro n hm hn1 hn2
      have hget : (a :: r)[n]? = some a := by
       obtain ⟨k, rfl⟩ : ∃ k, n = k + 1 := ⟨n - 1, by omega⟩
       rw [List.getElem?_cons_succ]; exact aliN_get a r k (by omega)
      obtain ⟨g, o', q1, q2, q3⟩ := sRow (hz'.gr ho.1) hget
      obtain ⟨g0, o0, w1, w2, w3⟩ := sRow (i := 0) (s := a) (hz'.gr ho.1) (by rfl)
      rw [q1] at w1; injection w1 with w1; injection w1 with w1 w1'; subst w1; subst w1'
      refine hR2 _ _ _ _ _ _ _ (j_d (br_t (by rw [decide_eq_true_eq]; omega) ?_))
      rw [q1]
      refine ptr_i (if_i ⟨by omega, by omega⟩ (rd_S (by rw [Int.toNat_natCast]; exact q3) (ptr_i (if_i ⟨Int.le_refl _, by omega⟩ (rd_S w3 ?_)))))
      refine br_t (strEq_iff.2 rfl) ?_
      rw [wS (a := n) (by omega)]
      exact ihm (n + 1) (by omega) (by omega) (by omega)
     | zero =>
      intro n hm hn1 hn2
      have hn : n = aliN a r + 1 := by omega
      refine hR2 _ _ _ _ _ _ _ (j_i (fun j => j (some ⟨b7, 0, none⟩) ⟨⟨got⟩⟩ (some ⟨b36, 0, none⟩) o z (n : Int) false τ) ?_ ?_)
      case refine_2 =>
       intro j hj'
       by_cases hlt : n < z.len
       ·obtain ⟨b, hb⟩ : ∃ b, (a :: r)[n]? = some b := ⟨_, List.getElem?_eq_getElem (by rw [List.length_cons]; omega)⟩
        obtain ⟨g, o', q1, q2, q3⟩ := sRow (hz'.gr ho.1) hb
        obtain ⟨g0, o0, w1, w2, w3⟩ := sRow (i := 0) (s := a) (hz'.gr ho.1) (by rfl)
        rw [q1] at w1; injection w1 with w1; injection w1 with w1 w1'; subst w1; subst w1'
        refine br_t (by rw [decide_eq_true_eq]; omega) ?_
        rw [q1]
        refine ptr_i (if_i ⟨by omega, by omega⟩ (rd_S (by rw [Int.toNat_natCast]; exact q3) (ptr_i (if_i ⟨Int.le_refl _, by omega⟩ (rd_S w3 ?_)))))
        rw [hn, List.getElem?_cons_succ] at hb
        rw [aliN_end a r b hb]; exact hj'
       ·exact br_f (by rw [decide_eq_false_iff_not]; omega) hj'
      refine br_f rfl ?_
      obtain ⟨g0, o0, w1, w2, w3⟩ := sRow (i := 0) (s := a) (hz'.gr ho.1) (by rfl)
      rw [w1]
      refine ptr_i (if_i ⟨Int.le_refl _, by omega⟩ (rd_S w3 ?_))
      refine j_i (fun j => ∀ τ1, RNew σ7 τ1 9 1 (strRows acc) o -> j (some ⟨b7, 0, none⟩) ⟨⟨got⟩⟩ (some ⟨b36, 0, none⟩) o z (n : Int) (if got.contains 99 then (fmtP 10 ((aliN a r + 1 : Nat) : Int) ++ ⟨⟨[32]⟩⟩) ++ a else a) τ1) ?_ ?_
      ·intro τ1 ho1
       refine j_i (fun j => ∀ o' τ', RNew σ7 τ' 9 1 (strRows (acc ++ (if Nat.ble 2 (aliN a r + 1) || !got.contains 100 then [if got.contains 99 then (fmtP 10 ((aliN a r + 1 : Nat) : Int) ++ ⟨⟨[32]⟩⟩) ++ a else a] else []))) o' -> j (some ⟨b7, 0, none⟩) ⟨⟨got⟩⟩ (some ⟨b36, 0, none⟩) o' z (n : Int) τ') ?_ ?_
       ·intro o' τ' ho'
        refine if_i ⟨bnd_none, bnd_some (by omega) (by omega)⟩ ?_
        rw [Int.toNat_natCast, hn]
        exact fin τ' o' ho'
       intro j hj2
       refine j_i (fun j => ∀ b : Bool, b = (Nat.ble 2 (aliN a r + 1) || !got.contains 100) -> j (some ⟨b7, 0, none⟩) ⟨⟨got⟩⟩ (some ⟨b36, 0, none⟩) o z (n : Int) (if got.contains 99 then (fmtP 10 ((aliN a r + 1 : Nat) : Int) ++ ⟨⟨[32]⟩⟩) ++ a else a) b τ1) ?_ ?_
       ·intro b hb
        cases b with
        | true =>
         rw [<- hb] at hj2
         refine br_t rfl (ho1.app1 el_strsT rfl rfl (by rw [strRows_len]; omega) fun o' τ' h _ _ => hj2 o' τ' ?_)
         rw [if_pos rfl]
         unfold strRows at h ⊢
         rw [List.map_append]; exact h
        | false =>
         rw [<- hb] at hj2
         refine br_f rfl (hj2 o τ1 ?_)
         rw [if_neg (by simp), List.append_nil]; exact ho1
       intro j3 hj3
       by_cases h2 : 2 <= aliN a r + 1
       ·refine br_t (by rw [decide_eq_true_eq]; omega) (hj3 true ?_)
        rw [Nat.ble_eq_true_of_le h2]; rfl
       ·refine br_f (by rw [decide_eq_false_iff_not]; omega) (call_i (x_Contains1 got 100 (app_B (hj3 _ ?_))))
        have : Nat.ble 2 (aliN a r + 1) = false := by
         rw [Bool.eq_false_iff]; intro e; exact h2 (Nat.le_of_ble_eq_true e)
        rw [this]; rfl
      ·intro j hj4
       refine call_i (x_Contains1 got 99 (app_B ?_))
       cases hc9 : got.contains 99 with
       | false =>
        rw [hc9] at hj4
        exact br_f rfl (hj4 τ ho)
       | true =>
        rw [hc9] at hj4
        have hfz := fmtP_size 10 ((aliN a r + 1 : Nat) : Int)
        have ha := hsz a (List.mem_cons_self ..)
        rw [hn]
        rw [hn] at hj4
        refine br_t rfl (call_i (hI.run _ _ _ (G7.trans ho.1) (by omega) (app_S (if_i ?_ (if_i ?_ (hj4 τ ho))))))
        ·show (fmtP 10 _).size + 1 <= _; omega
        ·rw [ByteArray.size_append]; show (fmtP 10 _).size + 1 + a.size <= _; omega
    exact key2 _ 1 rfl (Nat.le_refl _) (by omega)
 exact key (L.length + 1) L [] y ⟨none, 0, 0⟩ σ7 (by omega) (Nat.le_refl _) hlz hy.at (rnew_cap hy) (RNew.nil _ _ _) rfl (by simp)
end
def Eqv (τ : H) (cv : Value) (D : ByteArray -> Prop) (e : ByteArray -> ByteArray -> Bool) : Prop :=
 ∀ a b σ K, D a -> D b -> Gr τ σ -> (∀ σ', Gr σ σ' -> K (.bool (e a b)) σ') -> callVW Tryz.prog cv [.string a, .string b] K σ
section
variable {τ σ : H} {g n cap : Nat} {ex : List Value} {l : List ByteArray}
theorem DS.more {σ' : H} (h : DS τ σ g ex l) (hg : Gr σ σ') : DS τ σ' g ex l := ⟨h.fr, h.gr.trans hg, hg.get h.cell⟩
theorem ds_rd (h : DS τ σ g ex l) {o : Nat} {i : Int} {j k : Nat} {s : ByteArray} (hi : i = j) (hk : o + j = k) (hs : l[k]? = some s) {m : Nat} (hm : j < m) {F : Nat -> Nat -> ByteArray -> H -> Prop} (hF : F g o s σ) :
 ptrW (some ⟨g, o, none⟩) (fun b o => ifW (0 <= i /\ i < ((m : Nat) : Int)) (rdT (rdC b (o + i.toNat * 1)) kS (F b o))) σ := by
 subst hi
 refine ptr_i (if_i ⟨by omega, by omega⟩ (rd_S (rdC_of h.cell ?_) hF))
 have hkl : k < l.length := by
  rcases Nat.lt_or_ge k l.length with q | q
  ·exact q
  ·rw [List.getElem?_eq_none q] at hs; cases hs
 rw [show o + ((j : Nat) : Int).toNat * 1 = k by omega, List.getElem?_append_left (by simp [strV]; exact hkl)]
 unfold strV
 rw [List.getElem?_map, hs]; rfl
end
theorem s_Compact {ρ σ : H} {l : List ByteArray} {x : Sl} {cv : Value} {D : ByteArray -> Prop} {e : ByteArray -> ByteArray -> Bool} {K : KH} (he : Eqv ρ cv D e) (hD : ∀ s ∈ l, D s) (hbig : l.length < 100000000000000000)
 (h : RNew ρ σ 9 1 (strRows l) x) (hK : ∀ z σ', RowsAt σ' 1 (strRows (dgP e l)) z -> Gr ρ σ' -> K (.slice z.base z.len z.cap) σ') : callW Tryz.prog 61 [.slice x.base x.len x.cap, cv] K σ := by
 refine c61 x _ ?_
 unfold g61
 have hlen : x.len = l.length := by rw [h.len, strRows_len]
 by_cases hsm : l.length < 2
 ·refine br_t (by rw [decide_eq_true_eq]; omega) ?_
  have : dgP e l = l := by
   match l, hsm with
   | [], _ => rfl
   | [a], _ => rfl
  rw [this] at hK
  exact hK x σ h.at h.1
 refine br_f (by rw [decide_eq_false_iff_not]; omega) ?_
 obtain ⟨h1, ⟨h2, h3, ⟨h4, h5, h6⟩ | ⟨g, cur, h4, h5, h6, h7, h8⟩⟩, h9⟩ := id h
 ·have hl : l = [] := by simpa [strRows] using h6
  rw [hl] at hsm; simp at hsm
 obtain ⟨xb, n, cap⟩ := x
 simp only at hlen h4 h6 h7 h8
 subst h4
 rw [Nat.mul_one, strV_flat] at h8
 have hcur : cur = strV l ++ cur.drop n := by rw [<- h8]; exact (List.take_append_drop n cur).symm
 have hds : DS ρ σ g (cur.drop n) l := ⟨h9 g rfl, h1, by rw [<- hcur]; exact h5⟩
 have hcl : cur.length = cap := by rw [h6, Nat.mul_one]
 obtain ⟨a0, r0, hl0⟩ : ∃ a r, l = a :: r := by
  cases l with
  | nil => simp at hsm
  | cons a r => exact ⟨a, r, rfl⟩
 refine loop_i fun R hR => ?_
 have key : ∀ m k σ, l.length - k = m -> 1 <= k -> k <= l.length -> (∀ i a b, i + 1 < k -> l[i]? = some a -> l[i + 1]? = some b -> e b a = false) -> DS ρ σ g (cur.drop n) l -> R ⟨some ⟨g, 0, none⟩, n, cap⟩ cv (k : Int) σ := by
  intro m
  induction m with
  | zero =>
   intro k σ hm hk1 hk2 hno hd
   refine hR _ _ _ _ (br_f (by rw [decide_eq_false_iff_not]; simp only; omega) ?_)
   have hid : dgP e l = l := by
    rw [hl0]
    show a0 :: dgT e a0 r0 = _
    rw [dgT_id r0 a0 fun i a b p1 p2 => ?_]
    refine hno i a b ?_ (by rw [hl0]; exact p1) (by rw [hl0]; exact p2)
    have : i + 1 < (a0 :: r0).length := by
     rcases Nat.lt_or_ge (i + 1) (a0 :: r0).length with q | q
     ·exact q
     ·rw [List.getElem?_eq_none q] at p2; cases p2
    rw [<- hl0] at this; omega
   rw [hid] at hK
   refine hK ⟨some ⟨g, 0, none⟩, n, cap⟩ σ ?_ hd.gr
   have : RowsOwn σ 9 1 (strRows l) ⟨some ⟨g, 0, none⟩, n, cap⟩ := ⟨h2, h3, .inr ⟨g, _, rfl, by rw [hcur]; exact hd.cell, h6, h7, by rw [Nat.mul_one, strV_flat]; exact h8⟩⟩
   exact this.rows
  | succ m ih =>
   intro k σ hm hk1 hk2 hno hd
   obtain ⟨b, hb⟩ : ∃ b, l[k]? = some b := ⟨_, List.getElem?_eq_getElem (by omega)⟩
   obtain ⟨a, ha⟩ : ∃ a, l[k - 1]? = some a := ⟨_, List.getElem?_eq_getElem (by omega)⟩
   refine hR _ _ _ _ (br_t (by rw [decide_eq_true_eq]; simp only; omega) ?_)
   refine ds_rd hd (o := 0) (j := k) (k := k) rfl (by omega) hb (by simp only; omega) (F := fun b o y => _) (ds_rd hd (o := 0) (j := k - 1) (k := k - 1) (wP (by omega) (by omega)) (by omega) ha (by simp only; omega) (F := fun b o y => _) ?_)
   refine cvalv_i (he _ _ _ _ (hD _ (List.mem_of_getElem? hb)) (hD _ (List.mem_of_getElem? ha)) hd.gr fun σ1 g1 => app_B ?_)
   have hd1 := hd.more g1
   cases hee : e b a with
   | false =>
    refine br_f rfl ?_
    rw [wS (a := k) (by omega)]
    refine ih (k + 1) σ1 (by omega) (by omega) (by omega) (fun i a' b' p1 p2 p3 => ?_) hd1
    by_cases q : i + 1 = k
    ·have : i = k - 1 := by omega
     subst this
     rw [ha] at p2; cases p2
     rw [show k - 1 + 1 = k by omega, hb] at p3; cases p3
     exact hee
    ·exact hno i a' b' (by omega) p2 p3
   | true =>
    refine br_t rfl (if_i ⟨bnd_none, bnd_some (by omega) (by simp only; omega)⟩ (loop_i fun R2 hR2 => ?_))
    rw [Int.toNat_natCast]
    have hbase : slBase (some ⟨g, 0, none⟩) k cap 1 = some ⟨g, k, none⟩ := by
     unfold slBase; rw [if_neg (by omega)]
     rw [Option.map_some, add_none, show 0 + k * 1 = k by omega]
    have key2 : ∀ m j c (l' : List ByteArray) σ, n - k - j = m -> 1 <= j -> j <= n - k -> c + 1 <= k + j -> 1 <= c -> l'.length = n -> (∀ i, k + j - 1 <= i -> l'[i]? = l[i]?) -> (∀ p, l[k + j - 1]? = some p -> l'.take c ++ dgT e p (l.drop (k + j)) = dgP e l) -> DS ρ σ g (cur.drop n) l' ->
     R2 ⟨some ⟨g, 0, none⟩, n, cap⟩ cv (c : Int) ⟨slBase (some ⟨g, 0, none⟩) k cap 1, n - k, cap - k⟩ (j : Int) σ := by
     intro m
     induction m with
     | zero =>
      intro j c l' σ hm hj1 hj2 hc1 hc2 hl' hsame hres hd
      refine hR2 _ _ _ _ _ _ (br_f (by rw [decide_eq_false_iff_not]; simp only; omega) (if_i ⟨bnd_none, bnd_some (by omega) (by simp only; omega)⟩ ?_))
      obtain ⟨p, hp⟩ : ∃ p, l[k + j - 1]? = some p := ⟨_, List.getElem?_eq_getElem (by omega)⟩
      have hr := hres p hp
      rw [List.drop_eq_nil_of_le (by omega)] at hr
      unfold dgT at hr
      rw [List.append_nil] at hr
      have hbc : slBase (some ⟨g, 0, none⟩) c cap 1 = some ⟨g, c, none⟩ := by
       unfold slBase; rw [if_neg (by omega)]
       rw [Option.map_some, add_none, show 0 + c * 1 = c by omega]
      rw [Int.toNat_natCast]
      show biW Tryz.prog .clear _ _ _ [.slice (slBase (some ⟨g, 0, none⟩) c cap 1) (n - c) (cap - c)] _ _ _
      rw [hbc]
      obtain ⟨i, i1, i2, _, _⟩ := in_strS
      refine clear_i un_strsS i1 i2 rfl rfl hd.cell (by rw [List.length_append]; simp [strV, hl']; omega) (by omega) ?_
      intro σ' l2 p2 hl2 ht2
      refine if_i ⟨bnd_some (by omega) (by simp only; omega), bnd_none⟩ ?_
      refine hK ⟨slBase (some ⟨g, 0, none⟩) 0 cap 1, c - 0, cap - 0⟩ σ' ?_ (hd.gr.putF p2 hd.fr)
      rw [<- hr]
      have hb0 : slBase (some ⟨g, 0, none⟩) 0 cap 1 = some ⟨g, 0, none⟩ := by
       unfold slBase; split <;> rfl
      rw [hb0]
      have hv : (strV l').length = n := by simp [strV, hl']
      refine (show RowsOwn σ' 9 1 (strRows (l'.take c)) ⟨some ⟨g, 0, none⟩, c - 0, cap - 0⟩ from ⟨?_, ?_, .inr ⟨g, l2, rfl, p2.same, ?_, ?_, ?_⟩⟩).rows
      ·rw [strRows_len, List.length_take]; simp only; omega
      ·intro r hr; obtain ⟨_, _, rfl⟩ := List.mem_map.1 (show r ∈ (l'.take c).map _ from hr); rfl
      ·rw [hl2, List.length_append, hv, List.length_drop]; simp only; omega
      ·simp only; omega
      ·rw [Nat.mul_one, strV_flat]
       show List.take (c - 0) l2 = _
       rw [Nat.sub_zero, ht2, List.take_append_of_le_length (by omega)]
       unfold strV; rw [List.map_take]
     | succ m ih2 =>
      intro j c l' σ hm hj1 hj2 hc1 hc2 hl' hsame hres hd
      obtain ⟨q, hq⟩ : ∃ q, l[k + j]? = some q := ⟨_, List.getElem?_eq_getElem (by omega)⟩
      obtain ⟨p, hp⟩ : ∃ p, l[k + j - 1]? = some p := ⟨_, List.getElem?_eq_getElem (by omega)⟩
      have hq' : l'[k + j]? = some q := by rw [hsame _ (by omega)]; exact hq
      have hp' : l'[k + j - 1]? = some p := by rw [hsame _ (by omega)]; exact hp
      have hr := hres p hp
      have hdr : l.drop (k + j) = q :: l.drop (k + (j + 1)) := by
       rw [List.drop_eq_getElem_cons (by omega)]
       rw [List.getElem?_eq_getElem (by omega)] at hq
       rw [Option.some.inj hq]; rfl
      rw [hdr] at hr
      refine hR2 _ _ _ _ _ _ (br_t (by rw [decide_eq_true_eq]; simp only; omega) ?_)
      refine j_i (fun jj => ∀ c' l'' σ'', c' + 1 <= k + (j + 1) -> 1 <= c' -> l''.length = n -> (∀ i, k + (j + 1) - 1 <= i -> l''[i]? = l[i]?) -> (∀ p, l[k + (j + 1) - 1]? = some p -> l''.take c' ++ dgT e p (l.drop (k + (j + 1))) = dgP e l) -> DS ρ σ'' g (cur.drop n) l'' ->
       jj ⟨some ⟨g, 0, none⟩, n, cap⟩ cv (c' : Int) ⟨slBase (some ⟨g, 0, none⟩) k cap 1, n - k, cap - k⟩ (j : Int) σ'') ?_ ?_
      ·intro c' l'' σ'' w1 w2 w3 w4 w5 w6
       rw [wS (a := j) (by omega)]
       exact ih2 (j + 1) c' l'' σ'' (by omega) (by omega) (by omega) w1 w2 w3 w4 w5 w6
      intro jj hjj
      dsimp only
      rw [hbase]
      have hqs : ∀ p', l[k + (j + 1) - 1]? = some p' -> p' = q := fun p' h => by
       rw [show k + (j + 1) - 1 = k + j by omega, hq] at h; exact (Option.some.inj h).symm
      refine ds_rd hd (o := k) (j := j) (k := k + j) rfl rfl hq' (by omega) (F := fun b o y => _) (ds_rd hd (o := k) (j := j - 1) (k := k + j - 1) (wP (by omega) (by omega)) (by omega) hp' (by omega) (F := fun b o y => _) ?_)
      refine cvalv_i (he _ _ _ _ (hD _ (List.mem_of_getElem? hq)) (hD _ (List.mem_of_getElem? hp)) hd.gr fun σ1 g1 => app_B ?_)
      have hd1 := hd.more g1
      have hun : dgT e p (q :: l.drop (k + (j + 1))) = if e q p then dgT e q (l.drop (k + (j + 1))) else q :: dgT e q (l.drop (k + (j + 1))) := rfl
      rw [hun] at hr
      rw [hbase] at hjj
      cases hee : e q p with
      | true =>
       rw [hee, if_pos rfl] at hr
       refine br_f rfl (hjj c l' σ1 (by omega) hc2 hl' (fun i hi => hsame i (by omega)) (fun p' hp' => by rw [hqs p' hp']; exact hr) hd1)
      | false =>
       rw [hee, if_neg (by simp)] at hr
       refine br_t rfl (ds_rd hd1 (o := k) (j := j) (k := k + j) rfl rfl hq' (by omega) (F := fun b o y => _) ?_)
       refine ds_st hd1 hl'.symm (i := (c : Int)) (k := c) rfl (by omega) fun σ2 hd2 => ?_
       rw [wS (a := c) (by omega)]
       refine hjj (c + 1) (l'.set c q) σ2 (by omega) (by omega) (by rw [List.length_set]; exact hl') (fun i hi => ?_) (fun p' hp' => ?_) hd2
       ·rw [List.getElem?_set_ne (by omega)]; exact hsame i (by omega)
       ·rw [hqs p' hp', <- hr]
        have : (l'.set c q).take (c + 1) = l'.take c ++ [q] := by
         rw [List.take_add_one, List.take_set_of_le (Nat.le_refl _), List.getElem?_set_self (by omega)]; rfl
        rw [this, List.append_assoc]; rfl
    refine key2 _ 1 k l σ1 rfl (Nat.le_refl _) (by omega) (by omega) (by omega) hlen.symm (fun _ _ => rfl) (fun p hp => ?_) hd1
    rw [Nat.add_sub_cancel, hb] at hp
    cases hp
    have hsplit : l = l.take (k - 1) ++ a :: b :: l.drop (k + 1) := by
     have e1 : l.drop (k - 1) = a :: b :: l.drop (k + 1) := by
      rw [List.drop_eq_getElem_cons (by omega : k - 1 < l.length), show k - 1 + 1 = k by omega, List.drop_eq_getElem_cons (by omega : k < l.length)]
      rw [List.getElem?_eq_getElem (by omega)] at ha hb
      rw [Option.some.inj ha, Option.some.inj hb]
     rw [<- e1, List.take_append_drop]
    have htk : l.take k = l.take (k - 1) ++ [a] := by
     have : k = k - 1 + 1 := by omega
     rw [this, List.take_add_one, Nat.add_sub_cancel, ha]; rfl
    have hdg : dgP e l = l.take (k - 1) ++ a :: dgT e b (l.drop (k + 1)) := by
     have hno' : ∀ i x y, (l.take (k - 1) ++ [a])[i]? = some x -> (l.take (k - 1) ++ [a])[i + 1]? = some y -> e y x = false := by
      intro i x y p1 p2
      rw [<- htk] at p1 p2
      have hi : i + 1 < k := by
       rcases Nat.lt_or_ge (i + 1) k with w | w
       ·exact w
       ·rw [List.getElem?_eq_none (by rw [List.length_take]; omega)] at p2; cases p2
      rw [List.getElem?_take_of_lt (by omega)] at p1 p2
      exact hno i x y hi p1 p2
     have hba : dgT e a (b :: l.drop (k + 1)) = dgT e b (l.drop (k + 1)) := by
      show (if e b a then _ else _) = _
      rw [hee]; rfl
     generalize hu : l.take (k - 1) = u at *
     generalize l.drop (k + 1) = w at *
     rw [hsplit]
     cases u with
     | nil => show a :: dgT e a (b :: w) = _; rw [hba]; rfl
     | cons u0 u1 =>
      show u0 :: dgT e u0 (u1 ++ a :: b :: w) = _
      rw [dgT_app u1 u0 a (b :: w) (fun i x y p1 p2 => hno' i x y p1 p2), hba]; rfl
    rw [hdg, htk, List.append_assoc]; rfl
 exact key _ 1 σ rfl (Nat.le_refl _) (by omega) (fun i a b h => by omega) hds
end Go.Proofs.YtpfkfphjigcdeaaGreatDoor

namespace Go.Wk
open Go Go.HL
theorem bl_tri : ∀ a b : List UInt8, Op.bytesLess a b = false -> Op.bytesLess b a = false -> a = b := by
 intro a
 induction a with
 | nil => intro b h1 h2; cases b with
  | nil => rfl
  | cons y r => simp [Op.bytesLess] at h1
 | cons x q ih =>
  intro b h1 h2
  cases b with
  | nil => simp [Op.bytesLess] at h2
  | cons y r =>
   simp only [Op.bytesLess] at h1 h2
   by_cases c1 : x < y
   ·simp [c1] at h1
   ·by_cases c2 : y < x
    ·simp [c2] at h2
    ·have e : x = y := UInt8.le_antisymm (UInt8.not_lt.1 c2) (UInt8.not_lt.1 c1)
     subst e
     simp at h1 h2
     rw [ih r h1 h2]
theorem bl_asym : ∀ a b : List UInt8, Op.bytesLess a b = true -> Op.bytesLess b a = false := by
 intro a
 induction a with
 | nil => intro b h; cases b <;> simp [Op.bytesLess]
 | cons x q ih =>
  intro b h
  cases b with
  | nil => simp [Op.bytesLess] at h
  | cons y r =>
   simp only [Op.bytesLess] at h ⊢
   by_cases c1 : x < y
   ·have c2 : ¬ y < x := UInt8.lt_asymm c1
    have c3 : ¬ y = x := fun e => UInt8.lt_irrefl _ (e ▸ c1)
    simp [c2, c3]
   ·have e : x = y := by simp [c1] at h; exact h.1
    subst e
    simp at h
    simp [ih r h]
theorem bl_trans : ∀ a b c : List UInt8, Op.bytesLess a b = true -> Op.bytesLess b c = true -> Op.bytesLess a c = true := by
 intro a
 induction a with
 | nil => intro b c h1 h2; cases c with
  | nil => cases b <;> simp [Op.bytesLess] at h2
  | cons z s => simp [Op.bytesLess]
 | cons x q ih =>
  intro b c h1 h2
  cases b with
  | nil => simp [Op.bytesLess] at h1
  | cons y r =>
   cases c with
   | nil => simp [Op.bytesLess] at h2
   | cons z s =>
    simp only [Op.bytesLess, Bool.or_eq_true, Bool.and_eq_true, decide_eq_true_eq, beq_iff_eq] at h1 h2 ⊢
    rcases h1 with h1 | ⟨h1, h1'⟩
    ·rcases h2 with h2 | ⟨h2, _⟩
     ·exact .inl (UInt8.lt_trans h1 h2)
     ·exact .inl (h2 ▸ h1)
    ·subst h1
     rcases h2 with h2 | ⟨h2, h2'⟩
     ·exact .inl h2
     ·exact .inr ⟨h2, ih r s h1' h2'⟩
def cmpS (a b : ByteArray) : Int := if strLt a b then -1 else if strEq a b then 0 else 1
structure Ord3 (c : ByteArray -> ByteArray -> Int) : Prop where
 anti : ∀ a b, c b a = - c a b
 tr : ∀ a b d, c a b <= 0 -> c b d <= 0 -> c a d <= 0
 lo : ∀ a b, -1 <= c a b
 hi : ∀ a b, c a b <= 1
theorem strLt_data (a b : ByteArray) : strLt a b = Op.bytesLess a.data.toList b.data.toList := by unfold strLt; rw [ByteArray.toList_eq, ByteArray.toList_eq]
theorem cmpS_le {a b : ByteArray} : cmpS a b <= 0 ↔ Op.bytesLess b.data.toList a.data.toList = false := by
 unfold cmpS
 rw [strLt_data]
 cases h : Op.bytesLess a.data.toList b.data.toList with
 | true => simp [bl_asym _ _ h]
 | false =>
  simp only [Bool.false_eq_true, if_false]
  cases h2 : strEq a b with
  | true =>
   have := strEq_iff.1 h2
   subst this
   simp [h]
  | false =>
   simp only [Bool.false_eq_true, if_false]
   constructor
   ·intro h3; omega
   ·intro h3
    have e := bl_tri _ _ h h3
    have : a = b := by cases a with | mk x => cases b with | mk y => cases x; cases y; simp at e; rw [e]
    rw [this, strEq_iff.2 rfl] at h2; cases h2
theorem ord_S : Ord3 cmpS := by
 refine ⟨fun a b => ?_, fun a b d h1 h2 => ?_, fun a b => ?_, fun a b => ?_⟩
 ·unfold cmpS
  rw [strLt_data, strLt_data]
  cases h : Op.bytesLess a.data.toList b.data.toList with
  | true =>
   rw [bl_asym _ _ h]
   have : strEq b a = false := by
    rw [Bool.eq_false_iff]; intro e; have := strEq_iff.1 e; subst this; rw [bl_asym _ _ h] at h; cases h
   rw [this]; rfl
  | false =>
   cases h2 : Op.bytesLess b.data.toList a.data.toList with
   | true =>
    have : strEq a b = false := by
     rw [Bool.eq_false_iff]; intro e; have := strEq_iff.1 e; subst this; rw [h] at h2; cases h2
    rw [this]; rfl
   | false =>
    have e := bl_tri _ _ h h2
    have : a = b := by cases a with | mk x => cases b with | mk y => cases x; cases y; simp at e; rw [e]
    subst this
    rw [strEq_iff.2 rfl]; rfl
 ·rw [cmpS_le] at h1 h2 ⊢
  cases h : Op.bytesLess d.data.toList a.data.toList with
  | false => rfl
  | true =>
   cases h3 : Op.bytesLess a.data.toList b.data.toList with
   | true => rw [bl_trans _ _ _ h h3] at h2; cases h2
   | false =>
    have e := bl_tri _ _ h3 h1
    rw [<- e, h] at h2; cases h2
 ·unfold cmpS; split; · omega
  split <;> omega
 ·unfold cmpS; split; · omega
  split <;> omega
theorem cmpS_zero {a b : ByteArray} (h : cmpS a b = 0) : a = b := by
 unfold cmpS at h
 split at h
 ·omega
 ·split at h
  ·rename_i e; exact strEq_iff.1 e
  ·omega
theorem cmpS_self (a : ByteArray) : cmpS a a = 0 := by have := ord_S.anti a a; omega
def cmpK (k : ByteArray -> Int) (a b : ByteArray) : Int := if k a < k b then -1 else if k a > k b then 1 else 0
theorem ord_K (k : ByteArray -> Int) : Ord3 (cmpK k) := by
 refine ⟨fun a b => ?_, fun a b d h1 h2 => ?_, fun a b => ?_, fun a b => ?_⟩ <;> unfold cmpK at * <;> repeat' split at * <;> omega
def sortC (c : ByteArray -> ByteArray -> Int) (once turned : Bool) (a b : ByteArray) : Int :=
 let k := if c a b == 0 && !once then cmpS a b else c a b
 if turned then -k else k
theorem ord_once (c : ByteArray -> ByteArray -> Int) (h : Ord3 c) (once : Bool) : Ord3 (sortC c once false) := by
 have e : ∀ a b, sortC c once false a b = if c a b = 0 /\ once = false then cmpS a b else c a b := by
  intro a b
  unfold sortC
  cases once <;> simp
 refine ⟨fun a b => ?_, fun a b d h1 h2 => ?_, fun a b => ?_, fun a b => ?_⟩
 ·rw [e, e]
  have h1 := h.anti a b
  have h2 := ord_S.anti a b
  split
  ·rename_i q; rw [if_pos ⟨by omega, q.2⟩]; exact h2
  ·rename_i q; rw [if_neg (fun w => q ⟨by omega, w.2⟩)]; exact h1
 ·rw [e] at h1 h2 ⊢
  have t1 := h.tr a b d
  have t2 := h.tr d b a
  have t3 := h.tr b d a
  have t4 := h.tr d a b
  have n1 := h.anti a b
  have n2 := h.anti b d
  have n3 := h.anti a d
  have s := ord_S.tr a b d
  cases once with
  | true => simp only [Bool.true_eq_false, and_false, if_false] at h1 h2 ⊢; exact t1 h1 h2
  | false =>
   simp only [and_true] at h1 h2 ⊢
   by_cases z1 : c a b = 0
   ·rw [if_pos z1] at h1
    by_cases z2 : c b d = 0
    ·rw [if_pos z2] at h2
     have z3 : c a d = 0 := by
      have := t1 (by omega) (by omega)
      have := t2 (by omega) (by omega)
      omega
     rw [if_pos z3]; exact s h1 h2
    ·rw [if_neg z2] at h2
     by_cases z3 : c a d = 0
     ·exfalso
      have := t4 (by omega) (by omega)
      omega
     ·rw [if_neg z3]; exact t1 (by omega) h2
   ·rw [if_neg z1] at h1
    by_cases z2 : c b d = 0
    ·rw [if_pos z2] at h2
     by_cases z3 : c a d = 0
     ·exfalso
      have := t3 (by omega) (by omega)
      omega
     ·rw [if_neg z3]; exact t1 h1 (by omega)
    ·rw [if_neg z2] at h2
     by_cases z3 : c a d = 0
     ·exfalso
      have := t4 (by omega) (by
       have := h.anti a b; omega)
      have := t3 h2 (by omega)
      omega
     ·rw [if_neg z3]; exact t1 h1 h2
 ·rw [e]; have := h.lo a b; have := ord_S.lo a b; split <;> omega
 ·rw [e]; have := h.hi a b; have := ord_S.hi a b; split <;> omega
theorem ord_neg (c : ByteArray -> ByteArray -> Int) (h : Ord3 c) : Ord3 (fun a b => - c a b) := by
 refine ⟨fun a b => ?_, fun a b d h1 h2 => ?_, fun a b => ?_, fun a b => ?_⟩
 ·have := h.anti a b; omega
 ·have := h.tr d b a; have := h.anti a b; have := h.anti b d; have := h.anti a d; omega
 ·have := h.hi a b; omega
 ·have := h.lo a b; omega
theorem ord_sort (c : ByteArray -> ByteArray -> Int) (h : Ord3 c) (once turned : Bool) : Ord3 (sortC c once turned) := by
 cases turned with
 | false => exact ord_once c h once
 | true =>
  have e : sortC c once true = fun a b => - sortC c once false a b := by
   funext a b; unfold sortC; simp
  rw [e]; exact ord_neg _ (ord_once c h once)
theorem sortC_zero {c : ByteArray -> ByteArray -> Int} {turned : Bool} {a b : ByteArray} (h : sortC c false turned a b = 0) : a = b := by
 unfold sortC at h
 simp only [Bool.not_false, Bool.and_true, beq_iff_eq] at h
 have h2 : (if c a b = 0 then cmpS a b else c a b) = 0 := by
  cases turned with
  | true => simp only [if_true] at h; omega
  | false => simpa using h
 split at h2
 ·exact cmpS_zero h2
 ·omega
theorem pre_of {c : ByteArray -> ByteArray -> Int} (h : Ord3 c) : Pre (fun a b => decide (c a b < 0)) := by
 refine ⟨fun a b q => ?_, fun a b d h1 h2 => ?_⟩
 ·rw [decide_eq_true_eq] at q; rw [decide_eq_false_iff_not]; have := h.anti a b; omega
 ·rw [decide_eq_false_iff_not] at h1 h2 ⊢
  have := h.tr a b d
  have := h.anti a b
  have := h.anti b d
  have := h.anti a d
  omega
end Go.Wk

set_option maxRecDepth 100000
namespace Go.Proofs.YtpfkfphjigcdeaaGreatDoor
open Go Go.HL Go.Wk
attribute [local irreducible] ptrW ifW brW andW rdT alW letJ stW muW biW vaW imW callT cvalT app callW invW callVW sizeT oW nilF oneK loopW rfW funW begW roundK exW idxW Gr Put
theorem sz_fnSSI : sizeT Tryz.prog 62 = some 1 := by kernel_rfl
theorem go_cmpStr : isGo Tryz.prog 53 = true := by kernel_rfl
theorem go_txSort2 : isGo Tryz.prog 60 = true := by kernel_rfl
theorem go_txSort3 : isGo Tryz.prog 62 = true := by kernel_rfl
theorem x_cmpStr (a b : ByteArray) {σ : H} {K : KH} (hK : K (.int .i64 (cmpS a b)) σ) : callW Tryz.prog 53 [.string a, .string b] K σ := by
 refine c53 _ _ ?_
 unfold g53
 refine call_i (c80 _ (app_B ?_))
 refine call_i (c80 _ (app_B ?_))
 refine br_f (by rw [strEq_iff.2 rfl]; rfl) (br_f (by rw [strEq_iff.2 rfl]; rfl) ?_)
 unfold cmpS at hK
 cases h : strLt a b with
 | true => rw [h, if_pos rfl] at hK; exact br_t rfl hK
 | false =>
  rw [h, if_neg (by simp)] at hK
  refine br_f rfl ?_
  cases h2 : strEq a b with
  | true => rw [h2, if_pos rfl] at hK; exact br_f rfl hK
  | false => rw [h2, if_neg (by simp)] at hK; exact br_t rfl hK
def ByOk (ρ : H) (fv : Value) (D : ByteArray -> Prop) (c : ByteArray -> ByteArray -> Int) : Prop := ∀ a b (σ : H) (K : KH), Gr ρ σ -> D a -> D b -> (∀ σ', Gr σ σ' -> K (.int .i64 (c a b)) σ') -> callVW Tryz.prog fv [.string a, .string b] K σ
theorem by_str (ρ : H) : ByOk ρ (.func (.func 53) ⟨[]⟩ ⟨[]⟩) (fun _ => True) cmpS := fun a b σ K _ _ _ hK => callVW_ofT go_cmpStr (x_cmpStr a b (hK σ (Gr.refl _)))
section
variable {fv : Value} {D : ByteArray -> Prop} {c : ByteArray -> ByteArray -> Int} {ρ : H} {b27 b36 b37 : Nat} {once turned : Bool}
theorem cm_sort2 (h3 : Ord3 c) (hb : ByOk ρ fv D c) (h27 : ρ b27 = some (.cells ⟨[fv]⟩ 62 (0, 0))) (h36 : ρ b36 = some (.cells ⟨[.bool once]⟩ 4 (0, 0))) (h37 : ρ b37 = some (.cells ⟨[.bool turned]⟩ 4 (0, 0))) :
 Cm ρ (.func (.func 60) ⟨[]⟩ ⟨[.pointer (some ⟨b27, 0, none⟩), .pointer (some ⟨b36, 0, none⟩), .pointer (some ⟨b37, 0, none⟩)]⟩) D (sortC c once turned) := by
 intro a b σ K ha hb' hg hK
 refine callVW_ofT go_txSort2 (c60 _ _ _ _ _ ?_)
 unfold g60
 refine ptr_i (rd_R (rdC_of (hg.get h27) (by rfl)) (cvalv_i (hb a b _ _ hg ha hb' fun σ1 g1 => app_I ?_)))
 have G1 := hg.trans g1
 have hsc : sortC c once turned a b = if turned then - (if c a b == 0 && !once then cmpS a b else c a b) else (if c a b == 0 && !once then cmpS a b else c a b) := rfl
 have lo : -1 <= (if c a b == 0 && !once then cmpS a b else c a b) := by have := h3.lo a b; have := ord_S.lo a b; split <;> omega
 have hi : (if c a b == 0 && !once then cmpS a b else c a b) <= 1 := by have := h3.hi a b; have := ord_S.hi a b; split <;> omega
 have hK1 := hK σ1 g1
 rw [hsc] at hK1
 clear hsc hK
 refine j_i (fun j => j (some ⟨b37, 0, none⟩) (if c a b == 0 && !once then cmpS a b else c a b) σ1) ?_ ?_
 ·refine ptr_i (rd_B (rdC_of (G1.get h37) (by rfl)) ?_)
  cases turned with
  | true =>
   refine br_t rfl ?_
   rw [wrap_id (by omega) (by omega), Int.zero_sub]
   rw [if_pos rfl] at hK1; exact hK1
  | false => rw [if_neg (by simp)] at hK1; exact br_f rfl hK1
 ·intro j hj
  refine j_i (fun jj => ∀ x : Bool, x = (c a b == 0 && !once) -> jj a b (some ⟨b37, 0, none⟩) (c a b) x σ1) ?_ ?_
  ·intro x hx
   rw [<- hx] at hj
   cases x with
   | true => rw [if_pos rfl] at hj; exact br_t rfl (call_i (x_cmpStr a b (app_I hj)))
   | false => rw [if_neg (by simp)] at hj; exact br_f rfl hj
  ·intro jj hjj
   cases hz : c a b == 0 with
   | true => exact br_t rfl (ptr_i (rd_B (rdC_of (G1.get h36) (by rfl)) (hjj _ (by rw [hz]; rfl))))
   | false => exact br_f rfl (hjj _ (by rw [hz]; rfl))
theorem eq_sort3 (hb : ByOk ρ fv D c) (h27 : ρ b27 = some (.cells ⟨[fv]⟩ 62 (0, 0))) : Eqv ρ (.func (.func 62) ⟨[]⟩ ⟨[.pointer (some ⟨b27, 0, none⟩)]⟩) D (fun a b => c a b == 0) := by
 intro a b σ K ha hb' hg hK
 refine callVW_ofT go_txSort3 (c62 _ _ _ ?_)
 unfold g62
 exact ptr_i (rd_R (rdC_of (hg.get h27) (by rfl)) (cvalv_i (hb a b _ _ hg ha hb' fun σ1 g1 => app_I (hK σ1 g1))))
end
def SortR (c : ByteArray -> ByteArray -> Int) (once turned : Bool) (L out : List ByteArray) : Prop :=
 ∃ l', l'.Perm L /\ l'.Pairwise (fun a b => 0 <= sortC c once turned b a) /\ out = if once then dgP (fun a b => c a b == 0) l' else l'
def TlEx (A : AT) (k : FuncId) (nm inn cwd : ByteArray) (args : List ByteArray) (Q : Dn -> Prop) : Prop := ∀ (σ : H) (x : Sl) (bf : Nat) (K : KH), FT A bf σ -> RowsAt σ 1 (strRows args) x -> x.len <= x.cap -> (∀ σ' d, Q d -> Gr σ σ' -> K (dnW d) σ') ->
 callW Tryz.prog k [toolV nm x inn cwd (some ⟨bf, 0, none⟩)] K σ
theorem TlOk.ex {A : AT} {k : FuncId} {nm inn cwd : ByteArray} {args : List ByteArray} {d : Dn} (h : TlOk A k nm inn cwd args d) : TlEx A k nm inn cwd args (· = d) := fun σ x bf K h1 h2 h3 hK => h σ x bf K h1 h2 h3 fun σ' g => hK σ' d rfl g
theorem joined_cons_len (b : ByteArray) (x : List ByteArray) : (joinedP (b :: x)).length = (bl b).length + 1 + (joinedP x).length := by unfold joinedP; rw [List.flatMap_cons, List.length_append, List.length_append]; rfl
theorem dgT_len {e : ByteArray -> ByteArray -> Bool} : ∀ (r : List ByteArray) (p : ByteArray), (joinedP (dgT e p r)).length <= (joinedP r).length := by
 intro r
 induction r with
 | nil => intro p; exact Nat.le_refl _
 | cons b r ih =>
  intro p
  have h := ih b
  have hj : ∀ x, (joinedP (b :: x)).length = (bl b).length + 1 + (joinedP x).length := fun x => by unfold joinedP; rw [List.flatMap_cons, List.length_append, List.length_append]; rfl
  show (joinedP (if e b p then dgT e b r else b :: dgT e b r)).length <= _
  rw [hj]
  split
  ·omega
  ·rw [hj]; omega
theorem joined_perm {a b : List ByteArray} (h : a.Perm b) : (joinedP a).length = (joinedP b).length := by
 have : ∀ l : List ByteArray, (joinedP l).length = (l.map fun s => (bl s).length + 1).sum := by
  intro l
  unfold joinedP
  rw [List.length_flatMap]
  congr 1
  refine List.map_congr_left fun s _ => ?_
  rw [List.length_append]; rfl
 rw [this, this]
 exact (h.map _).sum_nat
theorem tl_sort {A : AT} {nm inn cwd : ByteArray} {args : List ByteArray} (hz : ∀ a ∈ args, a.size <= 1000000000) (hlen : (opsF [110, 114, 117, 103] [] args).1.length <= 1000000000) {got : List UInt8} (hv : flagsP [110, 114, 117, 103] args = some (got, [])) (hgl : got.length <= 1000000000) (hi : inn.size <= 100000)
 {fv : Value} (hone : fv.oneCell' = true) (hcs : arrL fv.cells = [fv]) {D : ByteArray -> Prop} {c : ByteArray -> ByteArray -> Int} (h3 : Ord3 c) (hb : ∀ ρ, ItoaT ρ -> ByOk ρ fv D c) (hD : ∀ a ∈ linesP (bl inn), D a)
 (hfv : (lastN 110 got > lastN 103 got /\ fv = .func (.func 55) ⟨[]⟩ ⟨[]⟩) \/ (lastN 103 got > lastN 110 got /\ fv = .func (.func 58) ⟨[]⟩ ⟨[]⟩) \/ (lastN 110 got = lastN 103 got /\ fv = .func (.func 53) ⟨[]⟩ ⟨[]⟩))
 (hj : (joinedP (linesP (bl inn))).length <= 1000000000) :
 TlEx A 26 nm inn cwd args (fun d => ∃ out, SortR c (got.contains 117) (got.contains 114) (linesP (bl inn)) out /\ d = doneP (joinedP out)) := by
 intro σ x bf K hF hx hxc hK
 refine c26 nm x inn cwd _ ?_
 unfold g26
 refine al_i ?_; intro b6 σ1 g1 e1 n1
 refine al_i ?_; intro b7 σ2 g2 e2 n2
 refine rd_G (rdA_of (g2.get e1) (Nat.le_refl 5)) (app_of rfl ?_)
 refine call_i (s_txFlags (hx.gr (g1.trans g2)) hxc hz [110, 114, 117, 103] hlen (fun h => by rw [hv] at h; cases h) (fun got' rest z σ3 h g3 hr hc => app_of rfl ?_))
 rw [hv] at h
 injection h with h
 injection h with h1' h2
 subst h1'; subst h2
 have hzl : z.len = 0 := sLen hr
 refine br_f rfl (al_i ?_); intro b27 σ4 g4 e4 n4
 refine st_i2 e4 sz_fnSSI (by rfl) (by rfl) ?_; intro σ5 p5
 have G3 := (g1.trans g2).trans g3
 have g45 := g4.putF p5 n4
 refine j_i (fun j => ∀ τ, Gr σ3 τ -> τ b27 = some (.cells ⟨[fv]⟩ 62 (0, 0)) -> j (some ⟨b6, 0, none⟩) (some ⟨b7, 0, none⟩) ⟨⟨got⟩⟩ z (some ⟨b27, 0, none⟩) τ) ?_ ?_
 case refine_2 =>
  intro j hj'
  refine call_i (x_LastIB 110 got hgl (app_I ?_))
  refine call_i (x_LastIB 103 got hgl (app_I ?_))
  rcases hfv with ⟨w, rfl⟩ | ⟨w, rfl⟩ | ⟨w, rfl⟩
  ·refine br_t (by rw [decide_eq_true_eq]; omega) (st_i2 p5.same sz_fnSSI (by rfl) (by rfl) ?_); intro σ6 p6
   exact hj' σ6 (g45.putF p6 n4) p6.same
  ·refine br_f (by rw [decide_eq_false_iff_not]; omega) (br_t (by rw [decide_eq_true_eq]; omega) (st_i2 p5.same sz_fnSSI (by rfl) (by rfl) ?_)); intro σ6 p6
   exact hj' σ6 (g45.putF p6 n4) p6.same
  ·exact br_f (by rw [decide_eq_false_iff_not]; omega) (br_f (by rw [decide_eq_false_iff_not]; omega) (hj' σ5 g45 p5.same))
 intro τ gτ k27
 refine call_i (x_Contains1 got 117 (app_B ?_))
 refine call_i (x_Contains1 got 114 (app_B ?_))
 refine al_i ?_; intro b36 τ1 q1 w1 m1
 refine al_i ?_; intro b37 τ2 q2 w2 m2
 refine st_i2 (q2.get w1) sz_boolT (by rfl) (by rfl) ?_; intro τ3 p3
 have d67 := ne_fresh w1 m2
 refine st_i2 (p3.get d67.symm w2) sz_boolT (by rfl) (by rfl) ?_; intro τ4 p4
 have m2' := none_of q1 m2
 have q4 : Gr τ τ4 := ((q1.trans q2).putF p3 m1).putF p4 m2'
 have k36 : τ4 b36 = some (.cells ⟨[.bool (got.contains 117)]⟩ 4 (0, 0)) := p4.get d67 p3.same
 have k37 : τ4 b37 = some (.cells ⟨[.bool (got.contains 114)]⟩ 4 (0, 0)) := p4.same
 have G4 : Gr σ τ4 := (G3.trans gτ).trans q4
 refine ptr_i (rd_G (rdA_of (q4.get (gτ.get (g3.get (g2.get e1)))) (Nat.le_refl 5)) (app_of rfl ?_))
 refine call_i (s_txRead0 hzl (by omega) fun τ5 g5 => app_of rfl ?_)
 refine al_i ?_; intro b49 τ6 g6 e6 n6
 refine st_i2 e6 sz_done (by rfl) (by rfl) ?_; intro τ7 p7
 have g57 := (g5.trans g6).putF p7 (none_of g5 n6)
 have hbl : (bl inn).length = inn.size := rfl
 refine call_i (s_txLines (bl inn) (by omega) fun y τ8 hy => app_L ?_)
 have hll := lines_len (bl inn)
 generalize linesP (bl inn) = L at hy hll hj hK hD
 have G7 := G4.trans g57
 have k27' := g57.get (q4.get k27)
 have k36' := g57.get k36
 have k37' := g57.get k37
 refine call_i (s_Stable (pre_of (ord_sort c h3 _ _)) (cm_sort2 h3 (hb _ (hF.1.gr G7)) k27' k36' k37') hD (by omega) hy fun l' τ9 hp hs hy9 => app_U ?_)
 have hs' : l'.Pairwise (fun a b => 0 <= sortC c (got.contains 117) (got.contains 114) b a) := by
  refine hs.imp fun {a b} h => ?_
  unfold ltC at h
  rw [decide_eq_false_iff_not] at h; omega
 have hjl := joined_perm hp
 have k7 := g57.get (q4.get (gτ.get (g3.get e2)))
 refine j_i (fun j => ∀ out z ω, SortR c (got.contains 117) (got.contains 114) L out -> (joinedP out).length <= 1000000000 -> RowsAt ω 1 (strRows out) z -> Gr τ7 ω -> j (some ⟨b7, 0, none⟩) (some ⟨b49, 0, none⟩) z ω) ?_ ?_
 ·intro out z ω hR hzj hr' hg'
  refine call_i (s_txJoined hr' hzj fun ω1 u1 => app_S ?_)
  have u := hg'.trans u1
  refine ptr_i (st_i2 (u.get p7.same) sz_strS (by rfl) (by rfl) ?_); intro ω2 v2
  refine ptr_i (rd_G (rdA_of v2.same (Nat.le_refl 3)) (app_of rfl ?_))
  have d : b7 ≠ b49 := ne_fresh (g5.get (q4.get (gτ.get (g3.get e2)))) n6
  refine st_i2 (v2.get d (u.get k7)) sz_done (by rfl) (by rfl) ?_; intro ω3 v3
  refine ptr_i (rd_G (rdA_of v3.same (Nat.le_refl 3)) (app_of rfl ?_))
  exact hK ω3 _ ⟨out, hR, rfl⟩ (((G7.trans u).putF v2 (none_of (G4.trans g5) n6)).putF v3 (none_of g1 n2))
 ·intro j hj'
  refine rd_B (rdC_of (hy9.1.get k36') (by rfl)) ?_
  cases ho : got.contains 117 with
  | false =>
   rw [ho] at hj' hs'
   exact br_f rfl (hj' l' y τ9 ⟨l', hp, hs', rfl⟩ (by omega) hy9.at hy9.1)
  | true =>
   rw [ho] at hj' hs'
   refine br_t rfl (call_i (s_Compact (eq_sort3 (hb _ (hF.1.gr G7)) k27') (fun s hs => hD s (hp.mem_iff.1 hs)) (by rw [hp.length_eq]; omega) hy9 fun z ω hz hg => app_L ?_))
   refine hj' _ z ω ⟨l', hp, hs', rfl⟩ ?_ hz hg
   have : (joinedP (dgP (fun a b => c a b == 0) l')).length <= (joinedP l').length := by
    cases l' with
    | nil => exact Nat.le_refl _
    | cons a r =>
     have h := dgT_len (e := fun a b => c a b == 0) r a
     show (joinedP (a :: dgT _ a r)).length <= _
     rw [joined_cons_len, joined_cons_len]; omega
   rw [hjl] at this
   exact Nat.le_trans this hj
end Go.Proofs.YtpfkfphjigcdeaaGreatDoor

namespace Go.HL
open Go
section
variable {P : Program} {σ : H}
end
end Go.HL

namespace Go.HL
open Go
section
variable {P : Program} {σ : H}
theorem mk_cap0 {t e : TypeId} {i : TypeInfo} {z : Value} {k : Nat} (ht : P.underlying t = some (.slice e)) (hi : P.info? e = some i) (hz : i.zero = some z) (hs : i.size = k) (hby : i.bytes <= 100) {n : Nat} (hn : n <= 100000000000) {F : Sl -> H -> Prop}
 (hF : ∀ y σ', RNew σ σ' e k [] y -> F y σ') : vaW P (Instr.makeSlice t (.int .i64 0) (.int .i64 (n : Int))) (.one (.sc .slc)) F σ := by
 intro w hw
 have hbytes : (i.bytes : Int) * ((n : Nat) : Int) <= 281474976710656 := by
  have : i.bytes * n <= 100 * 100000000000 := Nat.mul_le_mul hby hn
  have h2 : ((i.bytes * n : Nat) : Int) <= 281474976710656 := by omega
  rw [Int.natCast_mul] at h2; exact h2
 have hrun : (valS (Instr.makeSlice t (.int .i64 0) (.int .i64 (n : Int)))).run P w = .ok (.value (.slice (some ⟨w.heap.size, 0, none⟩) 0 n)) (w.alloc (.cells (madeCells z.cells (n * k)) e)) := by
  simp only [valS, Sem.run_bind, run_make (P := P) w t e i z ht hi hz .i64 .i64 0 (n : Int) (by omega) (by omega) hbytes (by omega), Result.andThen_ok, Sem.run_pure, Int.toNat_natCast, hs, Int.toNat_zero]
 rw [hrun]
 obtain ⟨h1, h2⟩ := Ext.alloc hw (.cells (madeCells z.cells (n * k)) e)
 refine ⟨_, h2, app_L (hF ⟨some ⟨w.heap.size, 0, none⟩, 0, n⟩ _ ⟨Gr.put h1 _, ⟨rfl, by simp, .inr ⟨w.heap.size, (madeCells z.cells (n * k)).toList, rfl, H.put_same _ _ _, ?_, Nat.zero_le _, ?_⟩⟩, fun g hg => ?_⟩)⟩
 ·rw [Array.length_toList, size_madeCells]
 ·simp
 ·cases hg; exact h1
end
end Go.HL

set_option maxRecDepth 100000
namespace Go.Proofs.YtpfkfphjigcdeaaGreatDoor
open Go Go.HL Go.Wk
def joinB (sep : List UInt8) : List (List UInt8) -> List UInt8
 | [] => []
 | [a] => a
 | a :: b :: r => a ++ sep ++ joinB sep (b :: r)
theorem joinB_cons (sep : List UInt8) (a : List UInt8) (l : List (List UInt8)) : joinB sep (a :: l) = a ++ l.flatMap fun x => sep ++ x := by
 induction l generalizing a with
 | nil => simp [joinB]
 | cons b r ih => rw [joinB, ih b, List.flatMap_cons]; simp
def sumS (l : List ByteArray) : Nat := (l.map ByteArray.size).sum
theorem sumS_cons (a : ByteArray) (l : List ByteArray) : sumS (a :: l) = a.size + sumS l := by simp [sumS]
theorem sumS_app (a b : List ByteArray) : sumS (a ++ b) = sumS a + sumS b := by simp [sumS]
theorem sumS_take (l : List ByteArray) (i : Nat) : sumS (l.take i) <= sumS l := by
 have : sumS l = sumS (l.take i) + sumS (l.drop i) := by rw [<- sumS_app, List.take_append_drop]
 omega
theorem flat_le (sep : List UInt8) (hs : sep.length <= 1) (l : List ByteArray) : (l.flatMap fun x => sep ++ x.data.toList).length <= l.length + sumS l := by
 induction l with
 | nil => exact Nat.le_refl _
 | cons a r ih => rw [List.flatMap_cons, List.length_append, List.length_append, sumS_cons, List.length_cons, <- size_list]; omega
attribute [local irreducible] ptrW ifW brW andW rdT alW letJ stW muW biW vaW imW callT cvalT app callW invW callVW sizeT oW nilF oneK loopW rfW funW begW roundK exW idxW Gr Put
section
variable {σ : H}
theorem s_Join {l : List ByteArray} {x : Sl} (hx : RowsAt σ 1 (strRows l) x) (hcap : x.len <= x.cap) (sep : ByteArray) (hsep : sep.size <= 1) (hl : l.length <= 1000000000) (hz : sumS l <= 1000000000) {K : KH} (hK : ∀ σ', Gr σ σ' -> K (.string ⟨⟨joinB sep.data.toList (l.map fun s => s.data.toList)⟩⟩) σ') :
 callW Tryz.prog 42 [.slice x.base x.len x.cap, .string sep] K σ := by
 refine c42 _ _ ?_
 unfold g42
 have hxl : x.len = l.length := by rw [hx.1]; simp [strRows]
 match l, hx, hl, hz, hK, hxl with
 | [], hx, hl, hz, hK, hxl =>
  exact br_t (by rw [hxl]; rfl) (hK σ (Gr.refl _))
 | [a], hx, hl, hz, hK, hxl =>
  refine br_f (by rw [hxl]; rfl) (br_t (by rw [hxl]; rfl) ?_)
  obtain ⟨g, o, a1, a2, a3⟩ := sRow hx (i := 0) (s := a) rfl
  rw [a1]
  refine ptr_i (if_i ⟨by omega, by show _ < ((x.len : Nat) : Int); omega⟩ (rd_S a3 ?_))
  exact hK σ (Gr.refl _)
 | a :: b :: r, hx, hl, hz, hK, hxl =>
  have hne : ¬ (((x.len : Nat) : Int) = 0) := by simp only [hxl, List.length_cons]; omega
  have hne1 : ¬ (((x.len : Nat) : Int) = 1) := by simp only [hxl, List.length_cons]; omega
  refine br_f (by simpa using hne) (br_f (by simpa using hne1) ?_)
  generalize hL : b :: r = rest at hx hl hz hK hxl
  have hrl : 1 <= rest.length := by rw [<- hL]; simp
  simp only [List.length_cons] at hl hxl
  obtain ⟨q, hq, hqs⟩ : ∃ q : Nat, q <= rest.length /\ q = sep.size * rest.length := ⟨_, by rcases (by omega : sep.size = 0 \/ sep.size = 1) with e | e <;> rw [e] <;> omega, rfl⟩
  refine j_i (fun j => j x sep (q : Int) σ) ?_ ?_
  ·refine loop_i ?_
   intro R hR
   have key : ∀ (c i : Nat), c + i = rest.length + 1 -> R x sep ((q + sumS ((a :: rest).take i) : Nat) : Int) x ((x.len : Nat) : Int) (i : Int) σ := by
    intro c
    induction c with
    | zero =>
     intro i hc
     refine hR _ _ _ _ _ _ _ ?_
     refine br_f (by simp only [decide_eq_false_iff_not]; omega) ?_
     have hst := sumS_take (a :: rest) i
     refine al_i ?_; intro b20 σ1 g1 e1 n1
     refine call_i (s_BuGrow e1 (by omega) ?_)
     intro σ2 D2 hB2 S2
     refine app_of rfl ?_
     have k2 : Gr σ σ2 := gr_of fun c o hc => (S2 c o (g1.get hc) (fun e => by rw [e, n1] at hc; cases hc)).1
     have d2 : ∀ c, D2 c -> σ c = none := fun c hd => by
      cases hc : σ c with
      | none => rfl
      | some o => exact absurd hd (S2 c o (g1.get hc) (fun e => by rw [e, n1] at hc; cases hc)).2
     obtain ⟨g, o, a1, a2, a3⟩ := sRow (hx.gr k2) (i := 0) (s := a) rfl
     rw [a1]
     refine ptr_i (if_i ⟨by omega, by show _ < ((x.len : Nat) : Int); omega⟩ (rd_S a3 ?_))
     rw [sumS_cons] at hz
     refine call_i (s_BuWrS hB2 a (by simp; omega) ?_)
     intro σ3 D3 hB3 S3
     refine app_of rfl ?_
     have k3 : Gr σ σ3 := gr_of fun c o hc => (S3 c o (k2.get hc) (fun hd => by rw [d2 c hd] at hc; cases hc)).1
     have d3 : ∀ c, D3 c -> σ c = none := fun c hd => by
      cases hc : σ c with
      | none => rfl
      | some o => exact absurd hd (S3 c o (k2.get hc) (fun hd => by rw [d2 c hd] at hc; cases hc)).2
     refine if_i ⟨bnd_none, bnd_some (by omega) (by show (1 : Int) <= ((x.len : Nat) : Int); omega)⟩ ?_
     have hsub : RowsAt σ 1 (strRows rest) ⟨slBase x.base ((1 : Int).toNat) x.cap 1, x.len - ((1 : Int).toNat), x.cap - ((1 : Int).toNat)⟩ := by
      have := hx.sub hcap (k := 1) (e := (strRows (a :: rest)).length) (by simp [strRows]) (Nat.le_refl _) (x.cap - 1)
      rw [List.take_length] at this
      have e : x.len - 1 = (strRows (a :: rest)).length - 1 := by simp [strRows]; omega
      show RowsAt σ 1 _ ⟨slBase x.base 1 x.cap 1, x.len - 1, x.cap - 1⟩
      rw [e]; exact this
     rw [<- a1]
     generalize hy : (⟨slBase x.base ((1 : Int).toNat) x.cap 1, x.len - ((1 : Int).toNat), x.cap - ((1 : Int).toNat)⟩ : Sl) = y at hsub ⊢
     have hyl : y.len = rest.length := by rw [hsub.1]; simp [strRows]
     have hyn : ((x.len - ((1 : Int).toNat) : Nat) : Int) = ((rest.length : Nat) : Int) := by show ((x.len - 1 : Nat) : Int) = _; omega
     rw [hyn]
     refine loop_i ?_
     intro R2 hR2
     have key2 : ∀ (c i : Nat) (τ : H) (D : Nat -> Prop), c + i = rest.length -> BuAt τ b20 (a.data.toList ++ (rest.take i).flatMap fun s => sep.data.toList ++ s.data.toList) D -> Gr σ τ -> (∀ c, D c -> σ c = none) -> R2 sep (some ⟨b20, 0, none⟩) y ((rest.length : Nat) : Int) (i : Int) τ := by
      have hsl : sep.data.toList.length <= 1 := by rw [<- size_list]; exact hsep
      have hal : a.data.toList.length = a.size := (size_list a).symm
      intro c
      induction c with
      | zero =>
       intro i τ D hc hB hg hD
       refine hR2 _ _ _ _ _ _ ?_
       refine br_f (by simp only [decide_eq_false_iff_not]; omega) ?_
       rw [List.take_of_length_le (by omega)] at hB
       have hfl := flat_le sep.data.toList hsl rest
       refine call_i (s_BuStr hB (by rw [List.length_append, hal]; omega) ?_)
       intro σ' hkeep
       refine app_S ?_
       have := hK σ' (gr_of fun c o hc => hkeep c o (hg.get hc) (fun hd => by rw [hD c hd] at hc; cases hc))
       rw [List.map_cons, joinB_cons, List.flatMap_map] at this
       exact this
      | succ c ih =>
       intro i τ D hc hB hg hD
       obtain ⟨s, hs⟩ : ∃ s, rest[i]? = some s := ⟨_, List.getElem?_eq_getElem (by omega)⟩
       obtain ⟨g, o, z1, z2, z3⟩ := sRow (hsub.gr hg) hs
       refine hR2 _ _ _ _ _ _ ?_
       refine br_t (by simp only [decide_eq_true_eq]; omega) ?_
       rw [z1]
       have hfl := flat_le sep.data.toList hsl (rest.take i)
       have hst2 := sumS_take rest (i + 1)
       have htk : rest.take (i + 1) = rest.take i ++ [s] := by rw [List.take_add_one, hs]; rfl
       rw [htk, sumS_app] at hst2
       have hs1 : sumS [s] = s.size := by simp [sumS]
       have hti : (rest.take i).length <= rest.length := by rw [List.length_take]; omega
       refine ptr_i (if_i ⟨by omega, by show _ < ((y.len : Nat) : Int); omega⟩ (rd_S (by rw [Int.toNat_natCast]; exact z3) ?_))
       refine call_i (s_BuWrS hB sep (by rw [List.length_append, hal]; omega) ?_)
       intro τ2 D2 hB2 T2
       refine app_of rfl ?_
       refine call_i (s_BuWrS hB2 s (by rw [List.length_append, List.length_append, hal]; omega) ?_)
       intro τ3 D3 hB3 T3
       refine app_of rfl ?_
       rw [wrap_id (x := (i : Int) + 1) (by omega) (by omega), show (i : Int) + 1 = ((i + 1 : Nat) : Int) from by omega]
       have h2 : ∀ c o, σ c = some o -> τ2 c = some o /\ ¬ D2 c := fun c o hc => T2 c o (hg.get hc) (fun hd => by rw [hD c hd] at hc; cases hc)
       have h3 : ∀ c o, σ c = some o -> τ3 c = some o /\ ¬ D3 c := fun c o hc => T3 c o (h2 c o hc).1 (h2 c o hc).2
       refine ih (i + 1) τ3 D3 (by omega) ?_ (gr_of fun c o hc => (h3 c o hc).1) (fun c hd => ?_)
       ·rw [htk, List.flatMap_append]
        simp only [List.flatMap_cons, List.flatMap_nil, List.append_nil]
        rw [<- List.append_assoc, <- List.append_assoc]
        exact hB3
       ·cases hc : σ c with
        | none => rfl
        | some o => exact absurd hd (h3 c o hc).2
     exact key2 rest.length 0 σ3 D3 (by omega) (by simpa using hB3) k3 d3
    | succ c ih =>
     intro i hc
     obtain ⟨s, hs⟩ : ∃ s, (a :: rest)[i]? = some s := ⟨_, List.getElem?_eq_getElem (by simp only [List.length_cons]; omega)⟩
     obtain ⟨g, o, z1, z2, z3⟩ := sRow hx hs
     have hst := sumS_take (a :: rest) (i + 1)
     have htk : (a :: rest).take (i + 1) = (a :: rest).take i ++ [s] := by rw [List.take_add_one, hs]; rfl
     have hs1 : sumS [s] = s.size := by simp [sumS]
     rw [htk, sumS_app, hs1] at hst
     refine hR _ _ _ _ _ _ _ ?_
     refine br_t (by simp only [decide_eq_true_eq]; omega) ?_
     rw [z1]
     refine ptr_i (if_i ⟨by omega, by show _ < ((x.len : Nat) : Int); omega⟩ (rd_S (by rw [Int.toNat_natCast]; exact z3) ?_))
     refine br_f (by
      simp only [decide_eq_false_iff_not]
      rw [wrap_id (by omega) (by omega)]; omega) ?_
     rw [wrap_id (x := (i : Int) + 1) (by omega) (by omega), show (i : Int) + 1 = ((i + 1 : Nat) : Int) from by omega]
     rw [wrap_id (x := ((q + sumS ((a :: rest).take i) : Nat) : Int) + ((s.size : Nat) : Int)) (by omega) (by omega)]
     have := ih (i + 1) (by omega)
     rw [htk, sumS_app, hs1] at this
     have e : ((q + sumS ((a :: rest).take i) : Nat) : Int) + ((s.size : Nat) : Int) = ((q + (sumS ((a :: rest).take i) + s.size) : Nat) : Int) := by omega
     rw [e]; exact this
   have := key (rest.length + 1) 0 (by omega)
   simpa [sumS] using this
  ·intro j hj
   rcases (by omega : sep.size = 0 \/ sep.size = 1) with e | hsep
   ·rw [e, Nat.zero_mul] at hqs
    subst hqs
    refine br_f (by rw [e]; rfl) hj
   rw [hsep, Nat.one_mul] at hqs
   rw [hqs] at hj
   refine br_t (by rw [hsep]; rfl) ?_
   have e1 : IntKind.i64.wrap (((x.len : Nat) : Int) - 1) = ((rest.length : Nat) : Int) := by rw [wrap_id (by omega) (by omega)]; omega
   rw [e1, hsep]
   refine if_i (by omega) (br_f ?_ ?_)
   ·simp only [decide_eq_false_iff_not]
    have h1 : (2 : Int) <= (9223372036854775807 : Int).tdiv ((rest.length : Nat) : Int) := by
     rw [Int.tdiv_eq_ediv_of_nonneg (by omega)]
     exact Int.le_ediv_of_mul_le (by omega) (by omega)
    have h2 : (9223372036854775807 : Int).tdiv ((rest.length : Nat) : Int) <= 9223372036854775807 := by
     rw [Int.tdiv_eq_ediv_of_nonneg (by omega)]
     exact Int.ediv_le_self _ (by omega)
    rw [wrap_id (by omega) (by omega)]
    omega
   ·have e2 : IntKind.i64.wrap (0 + IntKind.i64.wrap (((1 : Nat) : Int) * ((rest.length : Nat) : Int))) = ((rest.length : Nat) : Int) := by
     rw [wrap_id (x := ((1 : Nat) : Int) * _) (by omega) (by omega), wrap_id (by omega) (by omega)]; omega
    rw [e2]; exact hj
end
end Go.Proofs.YtpfkfphjigcdeaaGreatDoor

set_option maxRecDepth 100000
namespace Go.Proofs.YtpfkfphjigcdeaaGreatDoor
open Go Go.HL Go.Wk
attribute [local irreducible] ptrW ifW brW andW rdT alW letJ stW muW biW vaW imW callT cvalT app callW invW callVW sizeT oW nilF oneK loopW rfW funW begW roundK exW idxW Gr Put
theorem el_spanS : ElT Tryz.prog 122 124 2 := elT_of (by kernel_rfl) (by decide) (by kernel_rfl)
theorem sz_spanS : sizeT Tryz.prog 124 = some 2 := by kernel_rfl
theorem go_txWc1 : isGo Tryz.prog 38 = true := by kernel_rfl
theorem x_txWc1 (c : UInt8) {σ : H} {K : KH} (hK : K (.bool (blankB c)) σ) : callW Tryz.prog 38 [.int .i32 ((c.toNat : Nat) : Int)] K σ := by
 refine c38 _ ?_
 unfold g38
 unfold blankB at hK
 rw [show ((((c.toNat : Nat) : Int) : Int) == 32) = (c == 32) from u8e c 32, show ((((c.toNat : Nat) : Int) : Int) == 9) = (c == 9) from u8e c 9, show ((((c.toNat : Nat) : Int) : Int) == 10) = (c == 10) from u8e c 10]
 cases h1 : c == 32 with
 | true => rw [h1] at hK; exact br_t rfl hK
 | false =>
  rw [h1] at hK
  refine br_f rfl ?_
  cases h2 : c == 9 with
  | true => rw [h2] at hK; exact br_t rfl hK
  | false => rw [h2] at hK; exact br_f rfl hK
def spRows (l : List (Nat × Nat)) : List (List Value) := l.map fun x => [.int .i64 (x.1 : Int), .int .i64 (x.2 : Int)]
theorem dec_1 {l : List UInt8} {i : Nat} {c : UInt8} (h : l[i]? = some c) (hc : c.toNat < 128) : Utf8.decode ⟨⟨l⟩⟩ i = (c.toNat, 1) := by
 have hi : i < l.length := by
  rcases Nat.lt_or_ge i l.length with q | q
  ·exact q
  ·rw [List.getElem?_eq_none q] at h; cases h
 have hg : (⟨⟨l⟩⟩ : ByteArray)[i]'hi = c := by
  rw [List.getElem?_eq_getElem hi] at h
  exact Option.some.inj h
 have := decode_ascii ⟨⟨l⟩⟩ i hi (by rw [hg]; exact hc)
 rw [hg] at this; exact this
theorem xor_neg {s : Nat} (h : s < 1000000000) : bitV .xor .i64 (-1) (s : Int) = -(s : Int) - 1 := by
 show IntKind.i64.wrap (((BitVec.ofInt 64 (-1) ^^^ BitVec.ofInt 64 (s : Int)).toNat : Nat) : Int) = _
 have h1 : BitVec.ofInt 64 (-1) = BitVec.allOnes 64 := by decide
 rw [h1, BitVec.allOnes_xor, BitVec.toNat_not, BitVec.toNat_ofInt, IntKind.wrap_i64]
 omega
theorem s_FieldsFunc (l : List UInt8) (hl : l.length <= 100000) (ha : ∀ c ∈ l, c.toNat < 128) {σ : H} {K : KH} (hK : ∀ (y : Sl) σ', Gr σ σ' -> y.len = (spansP l 0 none).length -> K (.slice y.base y.len y.cap) σ') : callW Tryz.prog 39 [.string ⟨⟨l⟩⟩, .func (.func 38) ⟨[]⟩ ⟨[]⟩] K σ := by
 refine c39 _ _ ?_
 unfold g39
 obtain ⟨hu, _, i, z, i1, i2, i3, i4, i5⟩ := el_spanS
 refine mk_cap0 (n := 32) hu i1 i2 i3 (Nat.le_trans i4 (by decide)) (by decide) ?_
 intro y0 σ1 hy0
 refine range_str und_strT ⟨⟨l⟩⟩ ?_
 intro b σ2 g2 e2 n2
 have hok := spansP_ok l 0 none (fun s h => by cases h)
 generalize hS : spansP l 0 none = S at hK hok
 refine loop_i fun R hR => ?_
 have bs : (⟨⟨l⟩⟩ : ByteArray).size = l.length := rfl
 -- the last part
 have fin : ∀ (j : ByteArray -> Sl -> H -> Prop) , (∀ y τ, RNew σ τ 124 2 (spRows (S)) y -> j ⟨⟨l⟩⟩ y τ) -> ∀ y τ (st : Int) (so : Option Nat) acc, RNew σ τ 124 2 (spRows acc) y -> acc ++ spansP [] l.length so = S -> ((so = none /\ st < 0) \/ ∃ s, so = some s /\ st = (s : Int)) ->
  brW (decide (st >= 0)) (alW (.cells ⟨[.int .i64 st, .int .i64 (((⟨⟨l⟩⟩ : ByteArray).size : Nat) : Int)]⟩ 124 (0, 0)) (fun (b31 : Nat) => biW Tryz.prog .append #[122, 122] 122 [false, false] [.slice y.base y.len y.cap, .slice (some ⟨b31, 0, none⟩) 1 1] kL (fun (x32 : Sl) => j ⟨⟨l⟩⟩ x32))) (j ⟨⟨l⟩⟩ y) τ := by
  intro j hj y τ st so acc hy hacc hst
  have hal : acc.length <= l.length + 1 := by
   have := congrArg List.length hacc
   rw [List.length_append] at this; have := hok.2; omega
  rcases hst with ⟨rfl, h0⟩ | ⟨s, rfl, rfl⟩
  ·unfold spansP at hacc
   rw [List.append_nil] at hacc
   exact br_f (by rw [decide_eq_false_iff_not]; omega) (hj y τ (by rw [<- hacc]; exact hy))
  ·refine br_t (by rw [decide_eq_true_eq]; omega) (hy.app1 el_spanS rfl rfl (by unfold spRows; rw [List.length_map]; omega) fun y' τ' h _ _ => hj y' τ' ?_)
   rw [<- hacc]
   unfold spRows at h ⊢
   rw [List.map_append]; exact h
 have key : ∀ r pre y τ (st : Int) (so : Option Nat) acc, l = pre ++ r -> RNew σ τ 124 2 (spRows acc) y -> acc ++ spansP r pre.length so = S -> ((so = none /\ st < 0 /\ -200000 <= st) \/ ∃ s, so = some s /\ st = (s : Int) /\ s <= l.length) -> τ b = some (.stringIter ⟨⟨l⟩⟩ pre.length) -> (∀ g, y.base = some ⟨g, 0, none⟩ -> g ≠ b) ->
  R ⟨⟨l⟩⟩ (.func (.func 38) ⟨[]⟩ ⟨[]⟩) y st (some ⟨b, 0, none⟩) τ := by
  intro r
  induction r with
  | nil =>
   intro pre y τ st so acc hp hy hacc hst hit hyb
   rw [List.append_nil] at hp
   subst hp
   refine hR _ _ _ _ _ _ (next_str hit (fun _ => ?_) (fun h => absurd h (by rw [bs]; omega)))
   refine j_i (fun j => ∀ y τ, RNew σ τ 124 2 (spRows (S)) y -> j ⟨⟨l⟩⟩ y τ) ?_ ?_
   ·intro y τ hy
    have hyl : y.len = (S).length := by rw [hy.len]; unfold spRows; rw [List.length_map]
    obtain ⟨i', j1, j2, j3, j4⟩ := in_strS
    refine mk_i (n := (S).length) un_strsS j1 j2 j3 j4 rfl (by rw [hyl]) (by have := hok.2; omega) ?_
    intro ba τ1 q1 m1 w1
    refine loop_i fun R2 hR2 => ?_
    have key2 : ∀ m k τ2, (S).length - k = m -> k <= (S).length -> Gr τ τ2 -> (∃ cs, τ2 ba = some (.cells ⟨cs⟩ 9 (0, 0)) /\ cs.length = (S).length) -> R2 ⟨⟨l⟩⟩ ⟨some ⟨ba, 0, none⟩, (S).length, (S).length⟩ y ((y.len : Nat) : Int) (k : Int) τ2 := by
     intro m
     induction m with
     | zero =>
      intro k τ2 hm hk hg _
      refine hR2 _ _ _ _ _ _ (br_f (by rw [decide_eq_false_iff_not]; omega) (hK ⟨some ⟨ba, 0, none⟩, (S).length, (S).length⟩ τ2 (hy.1.trans hg) rfl))
     | succ m ihm =>
      intro k τ2 hm hk hg ⟨cs, hcs, hcl⟩
      obtain ⟨x, hx⟩ : ∃ x, (S)[k]? = some x := ⟨_, List.getElem?_eq_getElem (by omega)⟩
      obtain ⟨x1, x2⟩ := hok.1 x (List.mem_of_getElem? hx)
      obtain ⟨g, o, v1, v2, v3⟩ := (hy.at.gr hg).rdA (i := k) (r := [.int .i64 (x.1 : Int), .int .i64 (x.2 : Int)]) (by unfold spRows; rw [List.getElem?_map, hx]; rfl) (by decide)
      refine hR2 _ _ _ _ _ _ (br_t (by rw [decide_eq_true_eq]; omega) ?_)
      rw [v1]
      refine ptr_i (if_i ⟨by omega, by omega⟩ (rd_G (by rw [Int.toNat_natCast]; exact v2) (app_of rfl ?_)))
      refine al_i ?_; intro bt τ3 u3 t3 o3
      refine st_i2 t3 sz_spanS (by rfl) (by rfl) ?_; intro τ4 p4
      refine rd_I (rdC_of p4.same (by rfl)) (rd_I (rdC_of p4.same (by rfl)) ?_)
      refine if_i ⟨bnd_some (by omega) (by rw [bs]; omega), bnd_some (by omega) (by omega)⟩ ?_
      have g4 := u3.putF p4 o3
      have hba := g4.get hcs
      refine ptr_i (if_i ⟨by omega, by show (k : Int) < (((S).length : Nat) : Int); omega⟩ ?_)
      refine st_i hba sz_strS (by simp only [arrL, Value.cells]; rw [hcl]; simp only [List.length_cons, List.length_nil]; omega) (by intro x hx; simp [arrL, Value.cells] at hx; subst hx; rfl) (.inl (Nat.le_refl _)) ?_
      intro τ5 p5
      rw [wS (a := k) (by have := hok.2; omega)]
      have nba : τ ba = none := m1
      refine ihm (k + 1) τ5 (by omega) (by omega) ((hg.trans g4).putF p5 nba) ⟨_, p5.same, ?_⟩
      simp only [arrL, Value.cells, List.length_append, List.length_take, List.length_drop, List.length_cons, List.length_nil, hcl]; omega
    exact key2 _ 0 τ1 rfl (Nat.zero_le _) q1 ⟨_, w1, by rw [List.length_replicate]⟩
   ·intro j hj
    refine fin j hj y τ st so acc hy hacc ?_
    rcases hst with ⟨h1, h2, _⟩ | ⟨s, h1, h2, _⟩
    ·exact .inl ⟨h1, h2⟩
    ·exact .inr ⟨s, h1, h2⟩
  | cons c r ih =>
   intro pre y τ st so acc hp hy hacc hst hit hyb
   have hget : l[pre.length]? = some c := by rw [hp]; simp
   have hc := ha c (by rw [hp]; simp)
   have hlen : l.length = pre.length + (r.length + 1) := by rw [hp]; simp
   have hdec := dec_1 hget hc
   have nb : σ b = none := none_of hy0.1 n2
   have hal : acc.length <= l.length + 1 := by
    have := congrArg List.length hacc
    rw [List.length_append] at this; have := hok.2; omega
   refine hR _ _ _ _ _ _ (next_str hit (fun h => absurd (by rw [bs]; omega) h) (fun _ τ1 p1 => ?_))
   rw [hdec] at p1 ⊢
   have hy1 := hy.putF p1 nb (fun e => (hyb b e) rfl)
   have hit1 : τ1 b = some (.stringIter ⟨⟨l⟩⟩ (pre ++ [c]).length) := by rw [List.length_append]; exact p1.same
   refine cvalv_i (callVW_ofT go_txWc1 (x_txWc1 c (app_B ?_)))
   cases hb : blankB c with
   | true =>
    refine br_t rfl ?_
    rcases hst with ⟨rfl, h1, h2⟩ | ⟨s, rfl, rfl, h2⟩
    ·refine br_f (by rw [decide_eq_false_iff_not]; omega) ?_
     unfold spansP at hacc
     rw [hb, if_pos rfl] at hacc
     exact ih (pre ++ [c]) y τ1 st none acc (by rw [hp]; simp) hy1 (by rw [List.length_append]; exact hacc) (.inl ⟨rfl, h1, h2⟩) hit1 hyb
    ·refine br_t (by rw [decide_eq_true_eq]; omega) (hy1.app1 el_spanS rfl rfl (by unfold spRows; rw [List.length_map]; omega) fun y' τ' h hk1 hk2 => ?_)
     unfold spansP at hacc
     rw [hb, if_pos rfl] at hacc
     rw [xor_neg (by omega)]
     refine ih (pre ++ [c]) y' τ' _ none (acc ++ [(s, pre.length)]) (by rw [hp]; simp) ?_ (by rw [List.length_append, List.append_assoc]; exact hacc) (.inl ⟨rfl, by omega, by omega⟩) (hk1 b _ hit1 (fun e => hyb b e rfl)) ?_
     ·unfold spRows at h ⊢
      rw [List.map_append]; exact h
     ·intro g hg e
      subst e
      rcases hk2 g hg with q | q
      ·exact hyb g q rfl
      ·rw [q] at hit1; cases hit1
   | false =>
    refine br_f rfl ?_
    rcases hst with ⟨rfl, h1, h2⟩ | ⟨s, rfl, rfl, h2⟩
    ·refine br_t (by rw [decide_eq_true_eq]; omega) ?_
     unfold spansP at hacc
     rw [hb, if_neg (by simp)] at hacc
     exact ih (pre ++ [c]) y τ1 _ (some pre.length) acc (by rw [hp]; simp) hy1 (by rw [List.length_append]; exact hacc) (.inr ⟨_, rfl, rfl, by omega⟩) hit1 hyb
    ·refine br_f (by rw [decide_eq_false_iff_not]; omega) ?_
     unfold spansP at hacc
     rw [hb, if_neg (by simp)] at hacc
     exact ih (pre ++ [c]) y τ1 _ (some s) acc (by rw [hp]; simp) hy1 (by rw [List.length_append]; exact hacc) (.inr ⟨_, rfl, rfl, h2⟩) hit1 hyb
 refine key l [] y0 σ2 (-1) none [] rfl (by exact (hy0.gr g2)) hS (.inl ⟨rfl, by decide, by decide⟩) e2 ?_
 intro g hg e
 subst e
 exact (hy0.2.1.has hg) n2
def wcF (got : List UInt8) (c : UInt8) (n : Nat) : List ByteArray := if got.isEmpty || got.contains c then [fmtP 10 n] else []
def wcL (got l : List UInt8) : List ByteArray := wcF got 108 (l.count 10) ++ (wcF got 119 (spansP l 0 none).length ++ wcF got 99 l.length)
theorem wcF_len (got : List UInt8) (c : UInt8) (n : Nat) : (wcF got c n).length <= 1 /\ sumS (wcF got c n) <= 65 := by
 have := fmtP_size 10 n
 unfold wcF; split
 ·exact ⟨Nat.le_refl _, by simp [sumS]; omega⟩
 ·exact ⟨Nat.zero_le _, by simp [sumS]⟩
theorem joinB_le (c : UInt8) (l : List ByteArray) : (joinB [c] (l.map fun s => s.data.toList)).length <= l.length + sumS l := by
 cases l with
 | nil => exact Nat.le_refl _
 | cons a r =>
  rw [List.map_cons, joinB_cons, List.length_append, List.flatMap_map]
  have := flat_le [c] (Nat.le_refl _) r
  rw [sumS_cons, List.length_cons, <- size_list]; omega
theorem tl_wc {A : AT} {nm inn cwd : ByteArray} {args : List ByteArray} (hz : ∀ a ∈ args, a.size <= 1000000000) (hlen : (opsF [108, 119, 99] [] args).1.length <= 1000000000) {got : List UInt8} (hv : flagsP [108, 119, 99] args = some (got, [])) (hi : inn.size <= 100000) (ha : ∀ c ∈ bl inn, c.toNat < 128) :
 TlOk A 23 nm inn cwd args (doneP (joinB [32] ((wcL got (bl inn)).map fun s => s.data.toList) ++ [10])) := by
 intro σ x bf K hF hx hxc hK
 refine c23 nm x inn cwd _ ?_
 unfold g23
 refine al_i ?_; intro b6 σ1 g1 e1 n1
 refine al_i ?_; intro b7 σ2 g2 e2 n2
 refine rd_G (rdA_of (g2.get e1) (Nat.le_refl 5)) (app_of rfl ?_)
 refine call_i (s_txFlags (hx.gr (g1.trans g2)) hxc hz [108, 119, 99] hlen (fun h => by rw [hv] at h; cases h) (fun got' rest z σ3 h g3 hr hc => app_of rfl ?_))
 rw [hv] at h
 injection h with h
 injection h with h1' h2
 subst h1'; subst h2
 have hzl : z.len = 0 := sLen hr
 refine br_f rfl (rd_G (rdA_of (g3.get (g2.get e1)) (Nat.le_refl 5)) (app_of rfl ?_))
 refine call_i (s_txRead0 hzl (by omega) fun σ4 g4 => app_of rfl ?_)
 refine al_i ?_; intro b36 σ5 g5 e5 n5
 refine st_i2 e5 sz_done (by rfl) (by rfl) ?_; intro σ6 p6
 have g56 := g5.putF p6 n5
 have G4 := ((g1.trans g2).trans g3).trans g4
 have hbl : (bl inn).length = inn.size := rfl
 refine call_i (x_Count1 inn 10 (app_I ?_))
 refine call_i (s_FieldsFunc (bl inn) (by omega) ha fun y σ7 g7 hy => app_L ?_)
 refine al_i ?_; intro b39 σ8 g8 e8 n8
 have G8 : Gr σ σ8 := ((G4.trans g56).trans g7).trans g8
 have hI := hF.1
 have k36 := g8.get (g7.get p6.same)
 have k7 := g8.get (g7.get (g56.get (g4.get (g3.get e2))))
 have e39 : σ8 b39 = some (.cells ⟨[.int .i64 (((bl inn).count 10 : Nat) : Int), .int .i64 (((spansP (bl inn) 0 none).length : Nat) : Int), .int .i64 (((bl inn).length : Nat) : Int)]⟩ 3 (0, 0)) := by rw [<- hy]; exact e8
 have hn0 : (bl inn).count 10 <= (bl inn).length := List.count_le_length
 have hn1 := (spansP_ok (bl inn) 0 none (fun s h => by cases h)).2
 refine loop_i fun R hR => ?_
 have step : ∀ (k : Nat) (c : UInt8) (n : Nat) acc o τ, (k < 3) -> (([.int .i64 (((bl inn).count 10 : Nat) : Int), .int .i64 (((spansP (bl inn) 0 none).length : Nat) : Int), .int .i64 (((bl inn).length : Nat) : Int)] : List Value)[k]? = some (.int .i64 (n : Int))) -> (([108, 119, 99] : List UInt8)[k]? = some c) -> n < 1000000 -> acc.length <= 3 -> RNew σ8 τ 9 1 (strRows acc) o ->
  (∀ o' τ', RNew σ8 τ' 9 1 (strRows (acc ++ wcF got c n)) o' -> R (some ⟨b7, 0, none⟩) ⟨⟨got⟩⟩ (some ⟨b36, 0, none⟩) o' ⟨some ⟨b39, 0, none⟩, 3, 3⟩ ((3 : Nat) : Int) ((k + 1 : Nat) : Int) τ') ->
  R (some ⟨b7, 0, none⟩) ⟨⟨got⟩⟩ (some ⟨b36, 0, none⟩) o ⟨some ⟨b39, 0, none⟩, 3, 3⟩ ((3 : Nat) : Int) (k : Int) τ := by
  intro k c n acc o τ hk hn hc hnb hal ho hnext
  refine hR _ _ _ _ _ _ _ _ (br_t (by rw [decide_eq_true_eq]; omega) ?_)
  refine j_i (fun j => ∀ o' τ', RNew σ8 τ' 9 1 (strRows (acc ++ wcF got c n)) o' -> j (some ⟨b7, 0, none⟩) ⟨⟨got⟩⟩ (some ⟨b36, 0, none⟩) o' ⟨some ⟨b39, 0, none⟩, 3, 3⟩ ((3 : Nat) : Int) (k : Int) τ') ?_ ?_
  ·intro o' τ' h
   rw [wS (a := k) (by omega)]
   exact hnext o' τ' h
  intro j hj
  refine ptr_i (if_i ⟨by omega, by show (k : Int) < ((3 : Nat) : Int); omega⟩ (rd_I (rdC_of (ho.1.get e39) (by rw [show 0 + ((k : Nat) : Int).toNat * 1 = k by omega]; exact hn)) ?_))
  refine j_i (fun j => ∀ b : Bool, b = (got.isEmpty || got.contains c) -> j (some ⟨b7, 0, none⟩) ⟨⟨got⟩⟩ (some ⟨b36, 0, none⟩) o (n : Int) ⟨some ⟨b39, 0, none⟩, 3, 3⟩ ((3 : Nat) : Int) (k : Int) b τ) ?_ ?_
  ·intro b hb
   unfold wcF at hj
   rw [<- hb] at hj
   cases b with
   | true =>
    rw [if_pos rfl] at hj
    refine br_t rfl (call_i (hI.run _ _ _ (G8.trans ho.1) hnb (app_S (ho.app1 el_strsT rfl rfl (by rw [strRows_len]; omega) fun o' τ' h _ _ => hj o' τ' ?_))))
    unfold strRows at h ⊢
    rw [List.map_append]; exact h
   | false =>
    rw [if_neg (by simp), List.append_nil] at hj
    exact br_f rfl (hj o τ ho)
  ·intro jj hjj
   rw [strEq_nil]
   cases he : got.isEmpty with
   | true => exact br_t rfl (hjj _ (by rw [he]; rfl))
   | false =>
    refine br_f rfl (idx_l (c := c) (by omega) (by rw [Int.toNat_natCast]; exact hc) (call_i (x_IndexByte _ _ (app_I ?_))))
    rw [u8bT, fI_iff]
    exact hjj _ (by rw [he]; rfl)
 refine step 0 108 _ [] ⟨none, 0, 0⟩ σ8 (by decide) rfl rfl (by omega) (by decide) (RNew.nil _ _ _) fun o1 τ1 h1 => ?_
 have w1 := wcF_len got 108 (List.count 10 (bl inn))
 have w2 := wcF_len got 119 (spansP (bl inn) 0 none).length
 have w3 := wcF_len got 99 (bl inn).length
 refine step 1 119 _ _ o1 τ1 (by decide) rfl rfl (by omega) (by rw [List.nil_append]; omega) h1 fun o2 τ2 h2 => ?_
 refine step 2 99 _ _ o2 τ2 (by decide) rfl rfl (by omega) (by rw [List.nil_append, List.length_append]; omega) h2 fun o3 τ3 h3 => ?_
 have hwc : [] ++ wcF got 108 (List.count 10 (bl inn)) ++ wcF got 119 (spansP (bl inn) 0 none).length ++ wcF got 99 (bl inn).length = wcL got (bl inn) := by
  unfold wcL; rw [List.nil_append, List.append_assoc]
 rw [hwc] at h3
 refine hR _ _ _ _ _ _ _ _ (br_f (by decide) ?_)
 have hsum : sumS (wcL got (bl inn)) <= 195 := by
  unfold wcL
  rw [sumS_app, sumS_app]; omega
 have hll : (wcL got (bl inn)).length <= 3 := by unfold wcL; rw [List.length_append, List.length_append]; omega
 refine call_i (s_Join h3.at (rnew_cap h3) ⟨⟨[32]⟩⟩ (by decide) (by omega) (by omega) fun τ4 g4' => app_S ?_)
 have hjb := joinB_le 32 (wcL got (bl inn))
 refine if_i (by show (joinB [32] ((wcL got (bl inn)).map fun s => s.data.toList)).length + 1 <= _; omega) ?_
 have q := h3.1.trans g4'
 refine ptr_i (st_i2 (q.get k36) sz_strS (by rfl) (by rfl) ?_); intro τ5 p5
 refine ptr_i (rd_G (rdA_of p5.same (Nat.le_refl 3)) (app_of rfl ?_))
 have d : b7 ≠ b36 := ne_fresh (g4.get (g3.get e2)) n5
 refine st_i2 (p5.get d (q.get k7)) sz_done (by rfl) (by rfl) ?_; intro τ6 p6'
 refine ptr_i (rd_G (rdA_of p6'.same (Nat.le_refl 3)) (app_of rfl ?_))
 have hfin : (⟨⟨joinB [32] ((wcL got (bl inn)).map fun s => s.data.toList)⟩⟩ : ByteArray) ++ ⟨⟨[10]⟩⟩ = ⟨⟨joinB [32] ((wcL got (bl inn)).map fun s => s.data.toList) ++ [10]⟩⟩ := by
  exact bytes_ext (by simp)
 have hk := hK τ6 (((G8.trans q).putF p5 (none_of G4 n5)).putF p6' (none_of g1 n2))
 unfold doneP dnW at hk
 rw [<- hfin] at hk
 exact hk
theorem el_u8T : ElT Tryz.prog 22 5 1 := elT_of (by kernel_rfl) (by decide) (by kernel_rfl)
theorem el_char : ElT Tryz.prog 126 128 2 := elT_of (by kernel_rfl) (by decide) (by kernel_rfl)
theorem sz_char : sizeT Tryz.prog 128 = some 2 := by kernel_rfl
theorem bRow {σ : H} {l : List UInt8} {x : Sl} (h : RowsAt σ 1 (brows l) x) {i : Nat} {c : UInt8} (hi : l[i]? = some c) : ∃ g o, x.base = some ⟨g, o, none⟩ /\ i < x.len /\ rdC g (o + i * 1) σ = some (.int .u8 ((c.toNat : Nat) : Int)) := by
 obtain ⟨g, o, h1, h2, h3⟩ := h.rdA (i := i) (r := [.int .u8 ((c.toNat : Nat) : Int)]) (by unfold brows; rw [List.getElem?_map, hi]; rfl) (by decide)
 refine ⟨g, o, h1, ?_, by simpa using h3 0 _ rfl⟩
 rw [h.1, brows_len]
 rcases Nat.lt_or_ge i l.length with h | h
 ·exact h
 ·rw [List.getElem?_eq_none h] at hi; cases hi
theorem s_slIdxB {l : List UInt8} {x : Sl} {c : UInt8} {σ : H} (hx : RowsAt σ 1 (brows l) x) (hl : l.length <= 1000000000) {K : KH}
 (hK : (l.contains c = false -> K (.int .i64 (-1)) σ) /\ ∀ p q, l = p ++ c :: q -> p.contains c = false -> K (.int .i64 (p.length : Int)) σ) : callW Tryz.prog 44 [.slice x.base x.len x.cap, .int .u8 ((c.toNat : Nat) : Int)] K σ := by
 refine c44 x _ ?_
 unfold g44
 have hxl : x.len = l.length := by rw [hx.1, brows_len]
 refine loop_i fun R hR => ?_
 have key : ∀ q p, l = p ++ q -> p.contains c = false -> R x ((c.toNat : Nat) : Int) ((x.len : Nat) : Int) (p.length : Int) σ := by
  intro q
  induction q with
  | nil =>
   intro p hp hc
   rw [List.append_nil] at hp
   subst hp
   exact hR _ _ _ _ _ (br_f (by rw [decide_eq_false_iff_not]; omega) (hK.1 hc))
  | cons d q ih =>
   intro p hp hc
   obtain ⟨g, o, q1, q2, q3⟩ := bRow hx (i := p.length) (c := d) (by rw [hp]; simp)
   have hlen : l.length = p.length + (q.length + 1) := by rw [hp]; simp
   refine hR _ _ _ _ _ (br_t (by rw [decide_eq_true_eq]; omega) ?_)
   rw [q1]
   refine ptr_i (if_i ⟨by omega, by omega⟩ (rd_I (by rw [Int.toNat_natCast]; exact q3) ?_))
   rw [u8e]
   cases he : c == d with
   | true =>
    rw [<- eq_of_beq he] at hp
    exact br_t rfl (hK.2 p q hp hc)
   | false =>
    refine br_f rfl ?_
    rw [wS (by omega)]
    have := ih (p ++ [d]) (by rw [hp]; simp) (by
     rw [Bool.eq_false_iff] at hc ⊢
     intro h
     rw [List.contains_iff_mem, List.mem_append, List.mem_singleton] at h
     rcases h with h | h
     ·exact hc (List.contains_iff_mem.2 h)
     ·rw [h] at he; simp at he)
    rw [List.length_append] at this
    exact this
 exact key l [] rfl rfl
def chRows (l : List UInt8) : List (List Value) := l.map fun c => [.int .u8 ((c.toNat : Nat) : Int), .bool true]
theorem chRows_len (l : List UInt8) : (chRows l).length = l.length := by simp [chRows]
theorem u8w (c : UInt8) : IntKind.i64.wrap ((c.toNat : Nat) : Int) = ((c.toNat : Nat) : Int) := by have := c.toNat_lt; exact wI rfl (by omega)
theorem rangeB_succ (a : UInt8) (k : Nat) : ((List.range (k + 1)).map fun i => UInt8.ofNat (a.toNat + i)) = ((List.range k).map fun i => UInt8.ofNat (a.toNat + i)) ++ [UInt8.ofNat (a.toNat + k)] := by
 rw [List.range_succ, List.map_append]; rfl
theorem s_txSet {l : List UInt8} {out : List UInt8} (hl : l.length <= 1000000) (hb : ∀ c ∈ l, c ≠ 92) (ho : setP l = some out) (hol : out.length <= 1000000) (hne : out ≠ []) {σ : H} {K : KH} (hK : ∀ y σ', RNew σ σ' 5 1 (brows out) y -> K (.tuple ⟨[.slice y.base y.len y.cap, .bool true]⟩) σ') : callW Tryz.prog 43 [.string ⟨⟨l⟩⟩] K σ := by
 refine c43 _ ?_
 unfold g43
 refine loop_i fun R hR => ?_
 have bs : (⟨⟨l⟩⟩ : ByteArray).size = l.length := rfl
 have key : ∀ r p y τ, l = p ++ r -> RNew σ τ 128 2 (chRows p) y -> R ⟨⟨l⟩⟩ ⟨none, 0, 0⟩ y (p.length : Int) τ := by
  intro r
  induction r with
  | cons c r ih =>
   intro p y τ hp hy
   have hlen : l.length = p.length + (r.length + 1) := by rw [hp]; simp
   have hi : (⟨⟨l⟩⟩ : ByteArray).data.toList[((p.length : Nat) : Int).toNat]? = some c := by
    rw [Int.toNat_natCast]
    show l[p.length]? = some c
    rw [hp]; simp
   have hc : c ≠ 92 := hb c (by rw [hp]; simp)
   refine hR _ _ _ _ _ (br_t (by rw [bs, decide_eq_true_eq]; omega) (idx_l (c := c) (by omega) hi (al_i ?_)))
   intro b τ1 q1 w1 m1
   refine st_i2 w1 sz_char (by rfl) (by rfl) ?_; intro τ2 p2
   have q2 := q1.putF p2 m1
   refine j_i (fun j => j ⟨⟨l⟩⟩ ⟨none, 0, 0⟩ y (p.length : Int) (some ⟨b, 0, none⟩) τ2) ?_ ?_
   ·refine ptr_i (rd_G (rdA_of p2.same (Nat.le_refl 2)) (app_of rfl ?_))
    refine (hy.gr q2).app1 el_char rfl rfl (by rw [chRows_len]; omega) fun y' τ' h _ _ => ?_
    rw [wS (by omega)]
    have := ih (p ++ [c]) y' τ' (by rw [hp]; simp) (by unfold chRows at h ⊢; rw [List.map_append]; exact h)
    rw [List.length_append] at this
    exact this
   ·intro j hj
    refine j_i (fun jj => jj ⟨⟨l⟩⟩ ⟨none, 0, 0⟩ y (p.length : Int) (some ⟨b, 0, none⟩) false τ2) (br_f rfl hj) ?_
    intro jj hjj
    refine idx_l (c := c) (by omega) hi (br_f ?_ hjj)
    rw [show ((((c.toNat : Nat) : Int) : Int) == 92) = (c == 92) from u8e c 92]
    simpa using hc
  | nil =>
   intro p y τ hp hy
   rw [List.append_nil] at hp
   subst hp
   refine hR _ _ _ _ _ (br_f (by rw [bs, decide_eq_false_iff_not]; omega) ?_)
   refine loop_i fun R2 hR2 => ?_
   have key2 : ∀ m r acc o z τ', r.length = m -> (∃ t, setP r = some t /\ acc ++ t = out) -> RNew τ τ' 5 1 (brows acc) o -> RowsAt τ 2 (chRows r) z -> z.len <= z.cap -> R2 o z τ' := by
    intro m
    induction m using Nat.strongRecOn with
    | ind m ihm =>
    intro r acc o z τ' hm ⟨t, ht, hat⟩ ho' hz hzc
    have hzl : z.len = r.length := by rw [hz.1, chRows_len]
    have hacl : acc.length <= 1000000 := by have := congrArg List.length hat; rw [List.length_append] at this; omega
    have sub : ∀ k, k <= r.length -> RowsAt τ 2 (chRows (r.drop k)) ⟨slBase z.base k z.cap 2, z.len - k, z.cap - k⟩ := by
     intro k hk
     have hsub := hz.sub hzc (k := k) (e := r.length) hk (by rw [chRows_len]; exact Nat.le_refl _) (z.cap - k)
     rw [List.take_of_length_le (by rw [chRows_len]; exact Nat.le_refl _)] at hsub
     rw [hzl, show chRows (r.drop k) = (chRows r).drop k by unfold chRows; rw [List.map_drop]]
     exact hsub
    cases r with
    | nil =>
     cases ht
     rw [List.append_nil] at hat
     subst hat
     refine hR2 _ _ _ (br_f (by rw [decide_eq_false_iff_not, hzl]; simp) ?_)
     have hol' : o.len = acc.length := by rw [ho'.len, brows_len]
     have : 0 < acc.length := by cases acc with
      | nil => exact absurd rfl hne
      | cons => simp
     rw [show decide ((((o.len : Nat) : Int) : Int) > 0) = true by rw [decide_eq_true_eq]; omega]
     exact hK o τ' (ho'.since hy.1)
    | cons a r' =>
     rw [List.length_cons] at hzl hm
     obtain ⟨g, oo, v1, v2, v3⟩ := (hz.gr ho'.1).rdA (i := 0) (r := [.int .u8 ((a.toNat : Nat) : Int), .bool true]) (by rfl) (by decide)
     refine hR2 _ _ _ (br_t (by rw [decide_eq_true_eq]; omega) ?_)
     refine j_i (fun j => ∀ x : Bool, ((x = true /\ ∃ t', setP r' = some t' /\ (acc ++ [a]) ++ t' = out) \/ (x = false /\ ∃ b r2 t', r' = 45 :: b :: r2 /\ a.toNat <= b.toNat /\ setP r2 = some t' /\ acc ++ (rangeB a b ++ t') = out)) -> j o z x τ') ?_ ?_
     ·rintro x (⟨rfl, hex⟩ | ⟨rfl, b, r2, t', rfl, hab, ht', hat'⟩)
      ·refine br_t rfl ?_
       rw [v1]
       refine ptr_i (if_i ⟨Int.le_refl _, by omega⟩ (rd_I (v3 0 _ rfl) ?_))
       refine ho'.app1 el_u8T rfl rfl (by rw [brows_len]; omega) fun o2 τ2 h2 _ _ => ?_
       refine if_i ⟨bnd_none, bnd_some (by decide) (by omega)⟩ ?_
       rw [<- v1]
       exact ihm r'.length (by omega) r' (acc ++ [a]) o2 _ τ2 rfl hex (by rw [brows_app]; exact h2) (sub 1 (by simp)) (by simp only; omega)
      ·simp only [List.length_cons] at hzl hm
       obtain ⟨g2, oo2, u1, u2, u3⟩ := (hz.gr ho'.1).rdA (i := 2) (r := [.int .u8 ((b.toNat : Nat) : Int), .bool true]) (by rfl) (by decide)
       rw [v1] at u1; injection u1 with u1; injection u1 with u1 u1'; subst u1; subst u1'
       refine br_f rfl ?_
       rw [v1]
       refine ptr_i (if_i ⟨Int.le_refl _, by omega⟩ (rd_I (v3 0 _ rfl) (ptr_i (if_i ⟨by decide, by omega⟩ (rd_I (u3 0 _ rfl) ?_)))))
       refine br_f (by rw [decide_eq_false_iff_not]; omega) (ptr_i (if_i ⟨Int.le_refl _, by omega⟩ (rd_I (v3 0 _ rfl) ?_)))
       rw [u8w a]
       refine loop_i fun R3 hR3 => ?_
       have hrl : (rangeB a b).length = b.toNat + 1 - a.toNat := by unfold rangeB; rw [List.length_map, List.length_range]
       have hb256 := b.toNat_lt
       have key3 : ∀ m k o τ', b.toNat + 1 - a.toNat - k = m -> k <= b.toNat + 1 - a.toNat -> RNew τ τ' 5 1 (brows (acc ++ (List.range k).map fun i => UInt8.ofNat (a.toNat + i))) o -> R3 o z (((a.toNat + k : Nat)) : Int) τ' := by
        intro m
        induction m with
        | zero =>
         intro k o τ' hk1 hk2 ho2
         have hk : k = b.toNat + 1 - a.toNat := by omega
         subst hk
         obtain ⟨g3, oo3, w1, w2, w3⟩ := (hz.gr ho2.1).rdA (i := 2) (r := [.int .u8 ((b.toNat : Nat) : Int), .bool true]) (by rfl) (by decide)
         refine hR3 _ _ _ _ ?_
         dsimp only
         rw [w1]
         refine ptr_i (if_i ⟨by decide, by omega⟩ (rd_I (w3 0 _ rfl) ?_))
         rw [u8w b]
         refine br_f (by rw [decide_eq_false_iff_not]; omega) (if_i ⟨bnd_none, bnd_some (by decide) (by omega)⟩ ?_)
         rw [<- w1]
         exact ihm r2.length (by omega) r2 (acc ++ rangeB a b) o _ τ' rfl ⟨t', ht', by rw [List.append_assoc]; exact hat'⟩ ho2 (sub 3 (by simp)) (by simp only; omega)
        | succ m ih3 =>
         intro k o τ' hk1 hk2 ho2
         obtain ⟨g3, oo3, w1, w2, w3⟩ := (hz.gr ho2.1).rdA (i := 2) (r := [.int .u8 ((b.toNat : Nat) : Int), .bool true]) (by rfl) (by decide)
         refine hR3 _ _ _ _ ?_
         dsimp only
         rw [w1]
         refine ptr_i (if_i ⟨by decide, by omega⟩ (rd_I (w3 0 _ rfl) ?_))
         rw [u8w b]
         refine br_t (by rw [decide_eq_true_eq]; omega) ?_
         have hu8 : IntKind.u8.wrap ((a.toNat + k : Nat) : Int) = (((UInt8.ofNat (a.toNat + k)).toNat : Nat) : Int) := by
          rw [IntKind.wrap_u8, UInt8.toNat_ofNat']
          omega
         rw [hu8]
         refine ho2.app1 el_u8T rfl rfl (by rw [brows_len, List.length_append, List.length_map, List.length_range]; omega) fun o3 τ3 h3 _ _ => ?_
         rw [wS (a := a.toNat + k) (by omega)]
         refine ih3 (k + 1) o3 τ3 (by omega) (by omega) ?_
         rw [rangeB_succ, <- List.append_assoc, brows_app]
         exact h3
       exact key3 _ 0 o τ' rfl (Nat.zero_le _) (by rw [List.range_zero, List.map_nil, List.append_nil]; exact ho')
     ·intro j hj
      match r', ht, hz, sub, hm, hzl, hj with
      | [], ht, hz, sub, hm, hzl, hj =>
       cases ht
       exact br_t (by rw [decide_eq_true_eq, hzl]; decide) (hj true (.inl ⟨rfl, [], rfl, by rw [List.append_nil]; exact hat⟩))
      | [b], ht, hz, sub, hm, hzl, hj =>
       cases ht
       exact br_t (by rw [decide_eq_true_eq, hzl]; show ((2 : Nat) : Int) < 3; decide) (hj true (.inl ⟨rfl, [b], rfl, by rw [List.append_assoc]; exact hat⟩))
      | mm :: b :: r2, ht, hz, sub, hm, hzl, hj =>
       simp only [List.length_cons] at hzl
       obtain ⟨g2, oo2, u1, u2, u3⟩ := (hz.gr ho'.1).rdA (i := 1) (r := [.int .u8 ((mm.toNat : Nat) : Int), .bool true]) (by rfl) (by decide)
       refine br_f (by rw [decide_eq_false_iff_not]; omega) ?_
       rw [u1]
       refine ptr_i (if_i ⟨by decide, by omega⟩ (rd_G u2 (app_of rfl ?_)))
       dsimp only
       rw [show ((((mm.toNat : Nat) : Int) : Int) == 45) = (mm == 45) from u8e mm 45]
       have hun : setP (a :: mm :: b :: r2) = (if mm == 45 then (if a.toNat > b.toNat then none else (setP r2).map (rangeB a b ++ ·)) else (setP (mm :: b :: r2)).map (a :: ·)) := rfl
       rw [hun] at ht
       cases hmm : mm == 45 with
       | true =>
        rw [hmm, if_pos rfl] at ht
        split at ht
        ·cases ht
        ·rename_i hle
         cases hs2 : setP r2 with
         | none => rw [hs2] at ht; cases ht
         | some t' =>
          rw [hs2] at ht
          injection ht with ht
          subst ht
          refine hj _ (.inr ⟨rfl, b, r2, t', by rw [eq_of_beq hmm], by omega, hs2, hat⟩)
       | false =>
        rw [hmm, if_neg (by simp)] at ht
        cases hs2 : setP (mm :: b :: r2) with
        | none => rw [hs2] at ht; cases ht
        | some t' =>
         rw [hs2] at ht
         injection ht with ht
         subst ht
         exact hj _ (.inl ⟨rfl, t', hs2, by rw [List.append_assoc]; exact hat⟩)
   exact key2 l.length l [] ⟨none, 0, 0⟩ y τ rfl ⟨out, ho, rfl⟩ (RNew.nil _ _ _) hy.at (rnew_cap hy)
 exact key l [] ⟨none, 0, 0⟩ σ rfl (RNew.nil _ _ _)
theorem tl_tr {A : AT} {nm inn cwd : ByteArray} {args : List ByteArray} (hz : ∀ a ∈ args, a.size <= 1000000000) (hlen : (opsF [100] [] args).1.length <= 1000000000) {got : List UInt8} {s1 s2 : List UInt8} {rest : List ByteArray} (hv : flagsP [100] args = some (got, rest)) (hi : inn.size <= 100000)
 (hrest : (got ≠ [] /\ rest = [⟨⟨s1⟩⟩] /\ s2 = s1) \/ (got = [] /\ rest = [⟨⟨s1⟩⟩, ⟨⟨s2⟩⟩])) {fr tq : List UInt8} (h1 : setP s1 = some fr) (h2 : setP s2 = some tq) (hb1 : ∀ c ∈ s1, c ≠ 92) (hb2 : ∀ c ∈ s2, c ≠ 92) (hl1 : s1.length <= 1000000) (hl2 : s2.length <= 1000000) (hf1 : fr.length <= 1000000) (hf2 : tq.length <= 1000000) (hn1 : fr ≠ []) (hn2 : tq ≠ []) :
 TlOk A 24 nm inn cwd args (doneP (trP fr tq (!got.isEmpty) (bl inn))) := by
 intro σ x bf K hF hx hxc hK
 refine c24 nm x inn cwd _ ?_
 unfold g24
 refine al_i ?_; intro b6 σ1 g1 e1 n1
 refine al_i ?_; intro b7 σ2 g2 e2 n2
 refine rd_G (rdA_of (g2.get e1) (Nat.le_refl 5)) (app_of rfl ?_)
 refine call_i (s_txFlags (hx.gr (g1.trans g2)) hxc hz [100] hlen (fun h => by rw [hv] at h; cases h) (fun got' rest' z σ3 h g3 hr hc => app_of rfl ?_))
 rw [hv] at h
 injection h with h
 injection h with h1' h2'
 subst h1'; subst h2'
 have hzl : z.len = rest.length := sLen hr
 have G3 := (g1.trans g2).trans g3
 have k7 := g3.get e2
 have k6 := g3.get (g2.get e1)
 refine j_i (fun j => j (some ⟨b6, 0, none⟩) (some ⟨b7, 0, none⟩) z (!got.isEmpty) false σ3) ?_ ?_
 case refine_2 =>
  intro j hj
  rw [strEq_nil]
  refine br_f rfl ?_
  rcases hrest with ⟨w1, w2, w3⟩ | ⟨w1, w2⟩
  ·have hge : got.isEmpty = false := by cases got with
    | nil => exact absurd rfl w1
    | cons => rfl
   rw [hge] at hj ⊢
   refine br_t rfl (br_f (by rw [hzl, w2]; rfl) (br_f rfl hj))
  ·subst w1
   refine br_f rfl (br_t rfl ?_)
   have hne : ((((z.len : Nat) : Int) : Int) != 2) = false := by rw [hzl, w2]; rfl
   rw [hne]
   exact hj
 refine br_f rfl ?_
 have hs1 : rest[0]? = some ⟨⟨s1⟩⟩ := by rcases hrest with ⟨_, w2, _⟩ | ⟨_, w2⟩ <;> rw [w2] <;> rfl
 have hs2 : rest[rest.length - 1]? = some ⟨⟨s2⟩⟩ := by rcases hrest with ⟨_, w2, w3⟩ | ⟨_, w2⟩ <;> rw [w2] <;> first | rfl | (rw [w3]; rfl)
 have hrl : 1 <= rest.length := by rcases hrest with ⟨_, w2, _⟩ | ⟨_, w2⟩ <;> rw [w2] <;> simp
 have hrl2 : rest.length <= 2 := by rcases hrest with ⟨_, w2, _⟩ | ⟨_, w2⟩ <;> rw [w2] <;> simp
 obtain ⟨g, o, q1, q2, q3⟩ := sRow (i := 0) hr hs1
 rw [q1]
 refine ptr_i (if_i ⟨Int.le_refl _, by omega⟩ (rd_S q3 ?_))
 refine call_i (s_txSet hl1 hb1 h1 hf1 hn1 fun y1 σ4 hy1 => app_of rfl ?_)
 obtain ⟨g', o', u1, u2, u3⟩ := sRow (i := rest.length - 1) (hr.gr hy1.1) hs2
 rw [q1] at u1; injection u1 with u1; injection u1 with u1 u1'; subst u1; subst u1'
 have hwr : IntKind.i64.wrap (((z.len : Nat) : Int) - 1) = ((rest.length - 1 : Nat) : Int) := wI (by omega) (by omega)
 rw [hwr]
 refine ptr_i (if_i ⟨by omega, by omega⟩ (rd_S (by rw [Int.toNat_natCast]; exact u3) ?_))
 refine call_i (s_txSet hl2 hb2 h2 hf2 hn2 fun y2 σ5 hy2 => app_of rfl ?_)
 refine j_i (fun j => j (some ⟨b6, 0, none⟩) (some ⟨b7, 0, none⟩) (!got.isEmpty) y1 y2 false σ5) ?_ (fun j hj => br_f rfl hj)
 refine br_f rfl ?_
 have k6' := hy2.1.get (hy1.1.get k6)
 refine ptr_i (rd_S (rdC_of k6' (by rfl)) ?_)
 refine sbytes_i und_strT und_bytesT und_u8T inn ?_
 intro xb σ6 g6 hxb
 have hbl : (bl inn).length = inn.size := rfl
 have hxb' : RowsAt σ6 1 (brows (bl inn)) xb := hxb
 have hxl : xb.len = (bl inn).length := by rw [hxb'.1, brows_len]
 have hA1 : RowsAt σ6 1 (brows fr) y1 := (hy1.at.gr hy2.1).gr g6
 have hA2 : RowsAt σ6 1 (brows tq) y2 := hy2.at.gr g6
 have hl1' : y1.len = fr.length := by rw [hA1.1, brows_len]
 have hl2' : y2.len = tq.length := by rw [hA2.1, brows_len]
 have htl : 1 <= tq.length := by cases tq with
  | nil => exact absurd rfl hn2
  | cons => simp
 have G6 : Gr σ σ6 := ((G3.trans hy1.1).trans hy2.1).trans g6
 have k7' := g6.get (hy2.1.get (hy1.1.get k7))
 refine loop_i fun R hR => ?_
 have trl : ∀ l, (trP fr tq (!got.isEmpty) l).length <= l.length := by
  intro l
  unfold trP
  induction l with
  | nil => exact Nat.le_refl _
  | cons c r ih =>
   rw [List.flatMap_cons, List.length_append, List.length_cons]
   have : (if fr.contains c = true then (if (!got.isEmpty) = true then [] else [tq.getD (min (tq.length - 1) (lastN c fr - 1)) 0]) else [c]).length <= 1 := by
    split
    ·split <;> simp
    ·simp
   omega
 have key : ∀ r p o τ, bl inn = p ++ r -> RNew σ6 τ 5 1 (brows (trP fr tq (!got.isEmpty) p)) o -> R (some ⟨b7, 0, none⟩) (!got.isEmpty) y1 y2 o xb ((xb.len : Nat) : Int) (p.length : Int) τ := by
  intro r
  induction r with
  | nil =>
   intro p o τ hp ho
   rw [List.append_nil] at hp
   refine hR _ _ _ _ _ _ _ _ _ (br_f (by rw [decide_eq_false_iff_not, hxl, hp]; omega) ?_)
   refine bstr_i und_bytesT und_u8T und_strT ho.at ?_
   have hk := ho.1.get k7'
   refine st_i2 hk sz_done (by rfl) (by rfl) ?_; intro τ2 p2
   refine ptr_i (rd_G (rdA_of p2.same (Nat.le_refl 3)) (app_of rfl ?_))
   rw [hp] at hK
   exact hK τ2 ((G6.trans ho.1).putF p2 (none_of g1 n2))
  | cons c r ih =>
   intro p o τ hp ho
   have hlen : (bl inn).length = p.length + (r.length + 1) := by rw [hp]; simp
   obtain ⟨gg, oo, v1, v2, v3⟩ := bRow (hxb'.gr ho.1) (i := p.length) (c := c) (by rw [hp]; simp)
   refine hR _ _ _ _ _ _ _ _ _ (br_t (by rw [decide_eq_true_eq]; omega) ?_)
   have htp := trl p
   have hone : trP fr tq (!got.isEmpty) (p ++ [c]) = trP fr tq (!got.isEmpty) p ++ (if fr.contains c = true then (if (!got.isEmpty) = true then [] else [tq.getD (min (tq.length - 1) (lastN c fr - 1)) 0]) else [c]) := by
    unfold trP
    rw [List.flatMap_append, List.flatMap_cons, List.flatMap_nil, List.append_nil]
   refine j_i (fun j => ∀ o' τ', RNew σ6 τ' 5 1 (brows (trP fr tq (!got.isEmpty) (p ++ [c]))) o' -> j (some ⟨b7, 0, none⟩) (!got.isEmpty) y1 y2 o' xb ((xb.len : Nat) : Int) (p.length : Int) τ') ?_ ?_
   ·intro o' τ' ho'
    rw [wS (by omega)]
    have := ih (p ++ [c]) o' τ' (by rw [hp]; simp) ho'
    rw [List.length_append] at this
    exact this
   intro j hj
   rw [hone] at hj
   rw [v1]
   refine ptr_i (if_i ⟨by omega, by omega⟩ (rd_I (by rw [Int.toNat_natCast]; exact v3) ?_))
   refine call_i (s_slIdxB (c := c) (hA1.gr ho.1) (by omega) ⟨fun hcn => app_I ?_, fun p1 q1 hpq hpn => app_I ?_⟩)
   ·-- nowhere
    rw [hcn, if_neg (by simp)] at hj
    refine loop_i fun R2 hR2 => ?_
    refine hR2 _ _ _ _ _ _ _ _ _ _ _ _ (j_d (br_f (by decide) (br_f rfl (br_t (by decide) ?_))))
    refine ho.app1 el_u8T rfl rfl (by rw [brows_len]; omega) fun o2 τ2 h2 _ _ => hj o2 τ2 ?_
    rw [brows_app]; exact h2
   ·have hcn : fr.contains c = true := by rw [List.contains_iff_mem, hpq]; simp
    rw [hcn, if_pos rfl] at hj
    refine loop_i fun R2 hR2 => ?_
    have key2 : ∀ w u, fr = u ++ w -> u.contains c = true -> R2 (some ⟨b7, 0, none⟩) (!got.isEmpty) y1 y2 o ((c.toNat : Nat) : Int) (((lastN c u - 1 : Nat)) : Int) (u.length : Int) xb ((xb.len : Nat) : Int) (p.length : Int) τ := by
     intro w
     induction w with
     | nil =>
      intro u hu huc
      rw [List.append_nil] at hu
      subst hu
      refine hR2 _ _ _ _ _ _ _ _ _ _ _ _ (j_d (br_t (by rw [decide_eq_true_eq]; omega) ?_))
      have hlt : decide (((fr.length : Nat) : Int) < ((y1.len : Nat) : Int)) = false := by rw [decide_eq_false_iff_not]; omega
      rw [hlt]
      refine br_f rfl (br_f (by rw [decide_eq_false_iff_not]; omega) ?_)
      cases hge : (!got.isEmpty) with
      | true =>
       rw [hge, if_pos rfl, List.append_nil] at hj
       rw [hge] at ho
       exact br_f rfl (hj o τ ho)
      | false =>
       rw [hge, if_neg (by simp)] at hj
       rw [hge] at ho
       have hw2 : IntKind.i64.wrap (((y2.len : Nat) : Int) - 1) = ((tq.length - 1 : Nat) : Int) := wI (by omega) (by omega)
       rw [hw2]
       have hmin : (if ((tq.length - 1 : Nat) : Int) < ((lastN c fr - 1 : Nat) : Int) then ((tq.length - 1 : Nat) : Int) else ((lastN c fr - 1 : Nat) : Int)) = ((min (tq.length - 1) (lastN c fr - 1) : Nat) : Int) := by split <;> omega
       rw [hmin]
       have hget : tq[min (tq.length - 1) (lastN c fr - 1)]? = some (tq.getD (min (tq.length - 1) (lastN c fr - 1)) 0) := by
        rw [List.getD_eq_getElem?_getD, List.getElem?_eq_getElem (by omega)]; rfl
       obtain ⟨ga, oa, x1, x2, x3⟩ := bRow (hA2.gr ho.1) hget
       refine br_t rfl ?_
       rw [x1]
       refine ptr_i (if_i ⟨by omega, by omega⟩ (rd_I (by rw [Int.toNat_natCast]; exact x3) ?_))
       refine ho.app1 el_u8T rfl rfl (by rw [brows_len]; rw [hge] at htp; omega) fun o2 τ2 h2 _ _ => hj o2 τ2 ?_
       rw [brows_app]; exact h2
     | cons d w ihw =>
      intro u hu huc
      have hul : fr.length = u.length + (w.length + 1) := by rw [hu]; simp
      refine hR2 _ _ _ _ _ _ _ _ _ _ _ _ (j_d (br_t (by rw [decide_eq_true_eq]; omega) ?_))
      have hlt : decide (((u.length : Nat) : Int) < ((y1.len : Nat) : Int)) = true := by rw [decide_eq_true_eq]; omega
      rw [hlt]
      obtain ⟨ga, oa, x1, x2, x3⟩ := bRow (hA1.gr ho.1) (i := u.length) (c := d) (by rw [hu]; simp)
      refine br_t rfl (j_i (fun jj => jj (some ⟨b7, 0, none⟩) (!got.isEmpty) y1 y2 o ((c.toNat : Nat) : Int) (((lastN c (u ++ [d]) - 1 : Nat)) : Int) (u.length : Int) xb ((xb.len : Nat) : Int) (p.length : Int) τ) ?_ ?_)
      ·rw [wS (a := u.length) (by omega)]
       have := ihw (u ++ [d]) (by rw [hu]; simp) (by
        rw [List.contains_iff_mem] at huc ⊢
        exact List.mem_append_left _ huc)
       rw [List.length_append] at this
       exact this
      ·intro jj hjj
       rw [x1]
       refine ptr_i (if_i ⟨by omega, by omega⟩ (rd_I (by rw [Int.toNat_natCast]; exact x3) ?_))
       rw [u8e]
       rw [lastN_snoc] at hjj
       cases hd : d == c with
       | true =>
        rw [hd, if_pos rfl, Nat.add_sub_cancel] at hjj
        exact br_t rfl hjj
       | false =>
        rw [hd, if_neg (by simp)] at hjj
        exact br_f rfl hjj
    have := key2 q1 (p1 ++ [c]) (by rw [hpq]; simp) (by rw [List.contains_iff_mem]; simp)
    rw [lastN_snoc, List.length_append] at this
    simp only [beq_self_eq_true, if_true, Nat.add_sub_cancel] at this
    have hpl : fr.length = p1.length + (q1.length + 1) := by rw [hpq]; simp
    rw [wS (a := p1.length) (by omega)]
    exact this
 exact key (bl inn) [] ⟨none, 0, 0⟩ σ6 rfl (RNew.nil _ _ _)
theorem el_span : ElT Tryz.prog 89 135 2 := elT_of (by kernel_rfl) (by decide) (by kernel_rfl)
theorem sz_span : sizeT Tryz.prog 135 = some 2 := by kernel_rfl
theorem sz_spanL : sizeT Tryz.prog 89 = some 1 := by kernel_rfl
theorem go_txIn1 : isGo Tryz.prog 79 = true := by kernel_rfl
def spnC (z : Sl) : Obj := .cells ⟨[.slice z.base z.len z.cap]⟩ 89 (0, 0)
def NumOr (l : List UInt8) (d x : Int) : Prop := (l = [] /\ x = d) \/ (l ≠ [] /\ ∃ n : Nat, numberP l = some n /\ x = n)
theorem s_txList {w : List UInt8} {x y : Int} (hc : w.contains 44 = false) (hl : w.length <= 1000000) (hd : strEq ⟨⟨w⟩⟩ ⟨⟨[45]⟩⟩ = false) (hx : NumOr (bl (cutB1 45 ⟨⟨w⟩⟩).1) 1 x) (hy : NumOr (if (cutB1 45 ⟨⟨w⟩⟩).2.2 then bl (cutB1 45 ⟨⟨w⟩⟩).2.1 else bl (cutB1 45 ⟨⟨w⟩⟩).1) 9223372036854775807 y) (hw : w ≠ []) (h1 : 1 <= x) (hxy : x <= y) {σ : H} {K : KH}
 (hK : ∀ z σ', Gr σ σ' -> RowsAt σ' 2 [[.int .i64 x, .int .i64 y]] z -> z.len <= z.cap -> (∀ g o, z.base = some ⟨g, o, none⟩ -> σ g = none) -> K (.tuple ⟨[.slice z.base z.len z.cap, .bool true]⟩) σ') : callW Tryz.prog 46 [.string ⟨⟨w⟩⟩] K σ := by
 refine c46 _ ?_
 unfold g46
 refine al_i ?_; intro b2 σ1 g1 e1 n1
 refine al_i ?_; intro b3 σ2 g2 e2 n2
 have n3 : σ b3 = none := none_of g1 n2
 have d23 : b2 ≠ b3 := ne_fresh e1 n2
 refine j_i (fun j => ∀ z τ, Gr σ τ -> τ b2 = some (spnC z) -> τ b3 = some (.cells ⟨[.bool false]⟩ 4 (0, 0)) -> RowsAt τ 2 [[.int .i64 x, .int .i64 y]] z -> z.len <= z.cap -> (∀ g o, z.base = some ⟨g, o, none⟩ -> g ≠ b2 /\ g ≠ b3 /\ σ g = none) -> j (some ⟨b2, 0, none⟩) (some ⟨b3, 0, none⟩) τ) ?_ ?_
 ·intro z τ hg k2 k3 hr hzc hzb
  refine ptr_i (rd_Y (rdC_of k2 (by rfl)) ?_)
  refine st_i2 k2 sz_spanL (by rfl) (by rfl) ?_; intro τ1 p1
  refine st_i2 (p1.get d23.symm k3) sz_boolT (by rfl) (by rfl) ?_; intro τ2 p2
  have w2 : τ2 b2 = some (spnC z) := p2.get d23 p1.same
  refine ptr_i (rd_Y (rdC_of w2 (by rfl)) (ptr_i (rd_B (rdC_of p2.same (by rfl)) ?_)))
  refine hK z τ2 ((hg.putF p1 n1).putF p2 n3) ?_ hzc (fun g o hb => (hzb g o hb).2.2)
  refine rows_keep hr fun g o ob hb _ hob => ?_
  obtain ⟨q1, q2, _⟩ := hzb g o hb
  exact p2.get q2 (p1.get q1 hob)
 intro j hj
 refine call_i (x_SplitSeq _ _ ?_)
 intro q4 q5 q6 σ3 g3 m4 m5 m6 nq1 nq2 u4 u5 u6
 refine app_R (fun_i (rf_i go_split1 ?_))
 intro l obj σ4 nl pl hobj hY
 refine c128 _ _ _ _ ?_
 unfold g128
 have ql4 : q4 ≠ l := ne_fresh u4 nl
 have ql5 : q5 ≠ l := ne_fresh u5 nl
 have ql6 : q6 ≠ l := ne_fresh u6 nl
 have v4 := pl.get ql4 u4
 have v5 := pl.get ql5 u5
 have hidx : firstIdx ⟨⟨w⟩⟩ 44 < 0 := by
  have := fI_iff2 (l := w) (c := 44)
  rw [hc] at this
  exact of_decide_eq_true this
 refine ptr_i (rd_S (rdC_of v5 (by rfl)) (br_f (by rfl) (loop_i fun R hR => ?_)))
 refine hR _ _ _ _ _ (ptr_i (rd_S (rdC_of v4 (by rfl)) (ptr_i (rd_S (rdC_of v5 (by rfl)) (call_i (x_Index1 ⟨⟨w⟩⟩ 44 (app_I ?_)))))))
 refine br_t (by rw [decide_eq_true_eq]; exact hidx) (ptr_i (rd_S (rdC_of v4 (by rfl)) (cvalv_i (yv_call (hY _ _ _ ⟨pl.same, ?_⟩)))))
 show begW l obj _ σ4
 refine beg_i pl.same ?_; intro τ p
 have bl2 : b2 ≠ l := ne_fresh (g3.get (g2.get e1)) nl
 have bl3 : b3 ≠ l := ne_fresh (g3.get e2) nl
 have k2 : τ b2 = some (spnC ⟨none, 0, 0⟩) := p.get bl2 (pl.get bl2 (g3.get (g2.get e1)))
 have k3 : τ b3 = some (.cells ⟨[.bool false]⟩ 4 (0, 0)) := p.get bl3 (pl.get bl3 (g3.get e2))
 have nlσ : σ l = none := none_of ((g1.trans g2).trans g3) nl
 have Gτ : Gr σ τ := (((g1.trans g2).trans g3).putF pl nlσ).putF p nlσ
 refine call_i (s_Cut1 ⟨⟨w⟩⟩ 45 (by show w.length <= _; omega) (app_of rfl ?_))
 generalize hcut : cutB1 45 ⟨⟨w⟩⟩ = c3 at hx hy
 obtain ⟨low, high0, is⟩ := c3
 simp only at hx hy ⊢
 refine al_i ?_; intro b24 τ1 q1 w1 m1
 refine st_i2 w1 sz_span (by rfl) (by rfl) ?_; intro τ2 p2
 have gτ2 := q1.putF p2 m1
 have hlow : ∃ ll, low = ⟨⟨ll⟩⟩ := ⟨low.data.toList, rfl⟩
 obtain ⟨ll, rfl⟩ := hlow
 refine j_i (fun jj => ∀ hh : List UInt8, NumOr hh 9223372036854775807 y -> jj (some ⟨b2, 0, none⟩) (some ⟨b3, 0, none⟩) ⟨⟨w⟩⟩ ⟨⟨ll⟩⟩ ⟨⟨hh⟩⟩ is (some ⟨b24, 0, none⟩) true τ2) ?_ ?_
 case refine_2 =>
  intro jj hjj
  rw [hd]
  cases is with
  | true =>
   refine br_f rfl ?_
   obtain ⟨h0, rfl⟩ := wT high0
   exact hjj h0 hy
  | false => exact br_t rfl (hjj ll hy)
 intro hh hnum
 refine j_i (fun jj => ∀ τ3, Gr τ τ3 -> τ3 b24 = some (.cells ⟨[.int .i64 x, .int .i64 9223372036854775807]⟩ 135 (0, 0)) -> jj (some ⟨b2, 0, none⟩) (some ⟨b3, 0, none⟩) ⟨⟨w⟩⟩ ⟨⟨hh⟩⟩ is (some ⟨b24, 0, none⟩) true τ3) ?_ ?_
 case refine_2 =>
  intro jj hjj
  refine j_d (br_t rfl ?_)
  rw [strEq_nil]
  rcases hx with ⟨z1, z2⟩ | ⟨z1, n, z2, z3⟩
  ·have z1' : ll = [] := z1
   subst z1'; subst z2
   exact br_f rfl (hjj τ2 gτ2 p2.same)
  ·have z1' : ll.isEmpty = false := by cases ll with
    | nil => exact absurd rfl z1
    | cons => rfl
   rw [z1']
   have z2' : numberP ll = some n := z2
   refine br_t rfl (call_i (s_txNumber ll (app_of rfl ?_)))
   rw [z2']
   refine ptr_i (if_i ⟨Int.le_refl _, by decide⟩ (st_i2 p2.same sz_intT (by rfl) (by rfl) ?_)); intro τ3 p3
   refine hjj τ3 (gτ2.putF p3 m1) ?_
   rw [p3.same, z3]; rfl
 intro τ3 gτ3 w3
 refine j_i (fun jj => ∀ τ4, Gr τ τ4 -> τ4 b24 = some (.cells ⟨[.int .i64 x, .int .i64 y]⟩ 135 (0, 0)) -> jj (some ⟨b2, 0, none⟩) (some ⟨b3, 0, none⟩) ⟨⟨w⟩⟩ is (some ⟨b24, 0, none⟩) true τ4) ?_ ?_
 case refine_2 =>
  intro jj hjj
  refine j_d (br_t rfl ?_)
  rw [strEq_nil]
  rcases hnum with ⟨z1, z2⟩ | ⟨z1, n, z2, z3⟩
  ·subst z1; subst z2
   exact br_f rfl (hjj τ3 gτ3 w3)
  ·have z1' : hh.isEmpty = false := by cases hh with
    | nil => exact absurd rfl z1
    | cons => rfl
   rw [z1']
   refine br_t rfl (call_i (s_txNumber hh (app_of rfl ?_)))
   rw [z2]
   refine ptr_i (if_i ⟨by decide, by decide⟩ (st_i2 w3 sz_intT (by rfl) (by rfl) ?_)); intro τ4 p4
   refine hjj τ4 (gτ3.putF p4 m1) ?_
   rw [p4.same, z3]; rfl
 intro τ4 gτ4 w4
 refine j_i (fun jj => jj (some ⟨b2, 0, none⟩) (some ⟨b3, 0, none⟩) (some ⟨b24, 0, none⟩) false τ4) ?_ ?_
 case refine_2 =>
  intro jj hjj
  have chain : ptrW (some ⟨b24, 0, none⟩) (fun (b72 o73 : Nat) => ifW (0 <= (0 : Int) /\ (0 : Int) < ((2 : Nat) : Int)) (rdT (rdC b72 (o73 + (0 : Int).toNat * 1)) kI (fun (x74 : Int) => brW (decide ((x74 : Int) < 1)) (jj (some ⟨b2, 0, none⟩) (some ⟨b3, 0, none⟩) (some ⟨b24, 0, none⟩) true)
   (ptrW (some ⟨b24, 0, none⟩) (fun (b75 o76 : Nat) => ifW (0 <= (1 : Int) /\ (1 : Int) < ((2 : Nat) : Int)) (rdT (rdC b75 (o76 + (1 : Int).toNat * 1)) kI (fun (x77 : Int) => ptrW (some ⟨b24, 0, none⟩) (fun (b78 o79 : Nat) => ifW (0 <= (0 : Int) /\ (0 : Int) < ((2 : Nat) : Int)) (rdT (rdC b78 (o79 + (0 : Int).toNat * 1)) kI (fun (x80 : Int) => jj (some ⟨b2, 0, none⟩) (some ⟨b3, 0, none⟩) (some ⟨b24, 0, none⟩) (decide ((x77 : Int) < x80)))))))))))) τ4 := by
   refine ptr_i (if_i ⟨Int.le_refl _, by decide⟩ (rd_I (rdC_of w4 (by rfl)) (br_f (by rw [decide_eq_false_iff_not]; omega) (ptr_i (if_i ⟨by decide, by decide⟩ (rd_I (rdC_of w4 (by rfl)) (ptr_i (if_i ⟨Int.le_refl _, by decide⟩ (rd_I (rdC_of w4 (by rfl)) ?_)))))))))
   rw [show decide (y < x) = false by rw [decide_eq_false_iff_not]; omega]
   exact hjj
  refine br_f rfl ?_
  cases is with
  | true => exact br_f rfl chain
  | false =>
   refine br_t rfl (br_f ?_ chain)
   rw [strEq_nil]
   cases w with
   | nil => exact absurd rfl hw
   | cons => rfl
 refine br_f rfl (ptr_i (rd_L (rdC_of (gτ4.get k2) (by rfl)) (ptr_i (rd_G (rdA_of w4 (Nat.le_refl 2)) (app_of rfl ?_)))))
 refine RNew.app1 (σ0 := τ4) (rows := []) (y := ⟨none, 0, 0⟩) el_span (RNew.nil _ _ _) rfl rfl (by decide) fun y' τ5 h5 _ _ => ?_
 have k25 := h5.1.get (gτ4.get k2)
 have hb' : ∀ g o, y'.base = some ⟨g, o, none⟩ -> τ4 g = none := by
  intro g o hg
  obtain ⟨_, ⟨_, _, ⟨h, _, _⟩ | ⟨g', _, h, _, _⟩⟩, hf⟩ := id h5
  ·rw [h] at hg; cases hg
  ·rw [h] at hg; cases hg; exact hf _ h
 refine st_i2 k25 sz_spanL (by rfl) (by rfl) ?_; intro τ6 p6
 have G5 : Gr σ τ5 := (Gτ.trans gτ4).trans h5.1
 have hl6 : τ6 l = some (obj .busy none) := p6.get bl2.symm (h5.1.get (gτ4.get p.same))
 refine round_i hl6 ?_; intro τ7 p7
 refine app_B ?_
 refine end_n p7.same (by intro e; cases e) ?_; intro τ8 p8
 have hgl : ∀ g o, y'.base = some ⟨g, o, none⟩ -> g ≠ b2 /\ g ≠ b3 /\ g ≠ l := by
  intro g o hg
  have := hb' g o hg
  refine ⟨fun e => ?_, fun e => ?_, fun e => ?_⟩
  ·rw [e, gτ4.get k2] at this; cases this
  ·rw [e, gτ4.get k3] at this; cases this
  ·rw [e, gτ4.get p.same] at this; cases this
 refine hj y' τ8 (((G5.putF p6 n1).putF p7 nlσ).putF p8 nlσ) (p8.get bl2 (p7.get bl2 p6.same)) (p8.get bl3 (p7.get bl3 (p6.get d23.symm (h5.1.get (gτ4.get k3))))) ?_ (rnew_cap h5) (fun g o hg => ⟨(hgl g o hg).1, (hgl g o hg).2.1, none_of (Gτ.trans gτ4) (hb' g o hg)⟩)
 refine rows_keep h5.at fun g o ob hb _ hob => ?_
 obtain ⟨r1, r2, r3⟩ := hgl g o hb
 exact p8.get r3 (p7.get r3 (p6.get r1 hob))
theorem s_txIn {x y : Int} {z : Sl} {σ : H} (hz : RowsAt σ 2 [[.int .i64 x, .int .i64 y]] z) (n : Int) {K : KH} (hK : ∀ σ', Gr σ σ' -> K (.bool (decide (x <= n) && decide (n <= y))) σ') : callW Tryz.prog 50 [.slice z.base z.len z.cap, .int .i64 n] K σ := by
 refine c50 z _ ?_
 unfold g50
 refine al_i ?_; intro b3 σ1 g1 e1 n1
 refine call_i (c78 z _ ?_)
 unfold g78
 refine call_i (c102 z _ ?_)
 unfold g102
 have hzl : z.len = 1 := hz.1
 refine loop_i fun R hR => ?_
 obtain ⟨g, o, q1, q2, q3⟩ := (hz.gr g1).rdA (i := 0) (r := [.int .i64 x, .int .i64 y]) (by rfl) (by decide)
 rw [hzl]
 refine hR _ _ _ _ _ (br_t (by decide) ?_)
 rw [q1]
 refine ptr_i (if_i ⟨Int.le_refl _, by rw [hzl]; decide⟩ (rd_G q2 (app_of rfl ?_)))
 have hfin : ∀ (b : Bool) τ, Gr σ1 τ -> b = (decide (x <= n) && decide (n <= y)) -> app kB (fun (x12 : Bool) => brW x12 (app kI (fun (x3 : Int) => app kB (fun (x4 : Bool) => K (.bool x4)) (.bool (decide ((x3 : Int) >= 0)))) (.int .i64 0)) (R z (.func (.func 79) ⟨[]⟩ ⟨[.pointer (some ⟨b3, 0, none⟩)]⟩) ((1 : Nat) : Int) (IntKind.i64.wrap (0 + 1)))) (.bool b) τ := by
  intro b τ hg hb
  refine app_B ?_
  cases b with
  | true => exact br_t rfl (app_I (app_B (by rw [show decide ((0 : Int) >= 0) = true by decide, hb]; exact hK τ (g1.trans hg))))
  | false =>
   refine br_f rfl ?_
   refine hR _ _ _ _ _ (br_f (by decide) (app_I (app_B ?_)))
   rw [show decide ((-1 : Int) >= 0) = false by decide, hb]
   exact hK τ (g1.trans hg)
 refine cvalv_i (callVW_ofT go_txIn1 (c79 _ _ _ ?_))
 unfold g79
 refine al_i ?_; intro b4 σ2 g2 e2 n2
 refine ptr_i (rd_I (rdC_of (g2.get e1) (by rfl)) (if_i ⟨Int.le_refl _, by decide⟩ (rd_I (rdC_of e2 (by rfl)) ?_)))
 by_cases hxn : x <= n
 ·refine br_t (by rw [decide_eq_true_eq]; omega) (ptr_i (rd_I (rdC_of (g2.get e1) (by rfl)) (if_i ⟨by decide, by decide⟩ (rd_I (rdC_of e2 (by rfl)) ?_))))
  exact hfin _ σ2 g2 (by rw [decide_eq_true hxn, Bool.true_and])
 ·refine br_f (by rw [decide_eq_false_iff_not]; omega) ?_
  exact hfin _ σ2 g2 (by rw [decide_eq_false hxn, Bool.false_and])
theorem go_txCut1 : isGo Tryz.prog 47 = true := by kernel_rfl
def partsU (sep l : List UInt8) : List ByteArray := match sep with
 | [] => l.map fun c => ⟨⟨[c]⟩⟩
 | c :: _ => partsOf c ⟨⟨l⟩⟩
def keepP (x y : Int) : Nat -> List ByteArray -> List ByteArray
 | _, [] => []
 | i, a :: r => if decide (x <= (i : Int) + 1) && decide ((i : Int) + 1 <= y) then a :: keepP x y (i + 1) r else keepP x y (i + 1) r
def partP (isF : Bool) (c : UInt8) (x y : Int) (l : List UInt8) : List UInt8 :=
 if isF && !l.contains c then l else joinB (if isF then [c] else []) ((keepP x y 0 (partsU (if isF then [c] else []) l)).map fun s => s.data.toList)
theorem keepP_sum (x y : Int) : ∀ (L : List ByteArray) (i : Nat), sumS (keepP x y i L) <= sumS L /\ (keepP x y i L).length <= L.length := by
 intro L
 induction L with
 | nil => intro i; exact ⟨Nat.le_refl _, Nat.le_refl _⟩
 | cons a r ih =>
  intro i
  obtain ⟨h1, h2⟩ := ih (i + 1)
  unfold keepP
  split
  ·rw [sumS_cons, sumS_cons]; simp only [List.length_cons]; omega
  ·rw [sumS_cons]; simp only [List.length_cons]; omega
theorem splitL_sum (c : UInt8) : ∀ l : List UInt8, ((splitL c l).map List.length).sum + ((splitL c l).length - 1) = l.length /\ 1 <= (splitL c l).length := by
 intro l
 induction l with
 | nil => exact ⟨rfl, Nat.le_refl _⟩
 | cons x r ih =>
  unfold splitL
  cases hx : x == c with
  | true => simp only [if_true, List.map_cons, List.sum_cons, List.length_cons, List.length_nil]; omega
  | false =>
   simp only [Bool.false_eq_true, if_false]
   cases h : splitL c r with
   | nil => rw [h] at ih; simp at ih
   | cons a b => rw [h] at ih; simp only [List.map_cons, List.sum_cons, List.length_cons] at ih ⊢; omega
theorem parts_sum (sep l : List UInt8) : sumS (partsU sep l) <= l.length /\ (partsU sep l).length <= l.length + 1 := by
 unfold partsU
 cases sep with
 | nil =>
  simp only
  refine ⟨?_, by rw [List.length_map]; omega⟩
  unfold sumS
  rw [List.map_map]
  induction l with
  | nil => exact Nat.le_refl _
  | cons a r ih => rw [List.map_cons, List.sum_cons, List.length_cons]; show 1 + _ <= _; omega
 | cons c _ =>
  have h := splitL_sum c l
  unfold partsOf sumS
  rw [List.map_map, List.length_map]
  have e : (ByteArray.size ∘ fun l : List UInt8 => (⟨⟨l⟩⟩ : ByteArray)) = List.length := rfl
  rw [e]
  show ((splitL c l).map List.length).sum <= _ /\ (splitL c l).length <= _
  omega
theorem s_txSplit (l sep : List UInt8) (hs : sep.length <= 1) (hl : l.length <= 1000000) {σ : H} {K : KH} (hK : ∀ y σ', RNew σ σ' 9 1 (strRows (partsU sep l)) y -> K (.slice y.base y.len y.cap) σ') : callW Tryz.prog 49 [.string ⟨⟨l⟩⟩, .string ⟨⟨sep⟩⟩] K σ := by
 refine c49 _ _ ?_
 unfold g49
 rw [strEq_nil]
 cases sep with
 | cons c r =>
  have : r = [] := by simp only [List.length_cons] at hs; exact List.eq_nil_of_length_eq_zero (by omega)
  subst this
  exact br_t rfl (call_i (s_SplitC ⟨⟨l⟩⟩ c (by show l.length <= _; omega) fun y σ' h => app_L (hK y σ' h)))
 | nil =>
  refine br_f rfl (loop_i fun R hR => ?_)
  have key : ∀ r p y τ, l = p ++ r -> RNew σ τ 9 1 (strRows (p.map fun c => (⟨⟨[c]⟩⟩ : ByteArray))) y -> R ⟨⟨l⟩⟩ y (((⟨⟨l⟩⟩ : ByteArray).size : Nat) : Int) (p.length : Int) τ := by
   intro r
   induction r with
   | nil =>
    intro p y τ hp hy
    rw [List.append_nil] at hp
    subst hp
    exact hR _ _ _ _ _ (br_f (by rw [bsz, decide_eq_false_iff_not]; omega) (hK y τ hy))
   | cons c r ih =>
    intro p y τ hp hy
    have hlen : l.length = p.length + (r.length + 1) := by rw [hp]; simp
    refine hR _ _ _ _ _ ?_
    dsimp only
    rw [wS (a := p.length) (by omega)]
    refine br_t (by rw [bsz, decide_eq_true_eq]; omega) (if_i ⟨bnd_some (by omega) (by rw [bsz]; omega), bnd_some (by omega) (by omega)⟩ ?_)
    have hex : (⟨⟨l⟩⟩ : ByteArray).extract ((p.length : Nat) : Int).toNat ((p.length + 1 : Nat) : Int).toNat = ⟨⟨[c]⟩⟩ := by
     rw [Int.toNat_natCast, Int.toNat_natCast, bex, hp]
     have : (p ++ c :: r).take (p.length + 1) = p ++ [c] := by
      rw [show p ++ c :: r = (p ++ [c]) ++ r by simp, List.take_left' (by simp)]
     rw [this, List.drop_left]
    rw [hex]
    refine hy.app1 el_strsT rfl rfl (by rw [strRows_len, List.length_map]; omega) fun y' τ' h _ _ => ?_
    have := ih (p ++ [c]) y' τ' (by rw [hp]; simp) (by
     unfold strRows at h ⊢
     rw [List.map_append, List.map_append]; exact h)
    rw [List.length_append] at this
    exact this
  exact key l [] ⟨none, 0, 0⟩ σ rfl (RNew.nil _ _ _)
theorem s_txCut1 {ρ : H} {b21 b18 b51 : Nat} {isF : Bool} {c : UInt8} {sp : List UInt8} (hsp : isF = true -> sp = [c]) {x y : Int} {z : Sl} (h21 : ρ b21 = some (.cells ⟨[.bool isF]⟩ 4 (0, 0))) (h18 : ρ b18 = some (.cells ⟨[.string ⟨⟨sp⟩⟩]⟩ 9 (0, 0))) (h51 : ρ b51 = some (spnC z)) (hz : RowsAt ρ 2 [[.int .i64 x, .int .i64 y]] z)
 (l : List UInt8) (hl : l.length <= 1000000) {σ : H} (hg : Gr ρ σ) {K : KH} (hK : ∀ σ', Gr σ σ' -> K (.string ⟨⟨partP isF c x y l⟩⟩) σ') :
 callVW Tryz.prog (.func (.func 47) ⟨[]⟩ ⟨[.pointer (some ⟨b21, 0, none⟩), .pointer (some ⟨b18, 0, none⟩), .pointer (some ⟨b51, 0, none⟩)]⟩) [.string ⟨⟨l⟩⟩] K σ := by
 refine callVW_ofT go_txCut1 (c47 _ _ _ _ ?_)
 unfold g47
 refine j_i (fun j => j ⟨⟨l⟩⟩ (some ⟨b21, 0, none⟩) (some ⟨b18, 0, none⟩) (some ⟨b51, 0, none⟩) (isF && !l.contains c) σ) ?_ ?_
 case refine_2 =>
  intro j hj
  refine ptr_i (rd_B (rdC_of (hg.get h21) (by rfl)) ?_)
  cases isF with
  | true =>
   rw [hsp rfl] at h18
   refine br_t rfl (ptr_i (rd_S (rdC_of (hg.get h18) (by rfl)) (call_i (x_Contains1 l c (app_B ?_)))))
   exact hj
  | false => exact br_f rfl hj
 unfold partP at hK
 cases hcc : (isF && !l.contains c) with
 | true =>
  rw [hcc, if_pos rfl] at hK
  exact br_t rfl (hK σ (Gr.refl _))
 | false =>
 rw [hcc, if_neg (by simp)] at hK
 refine br_f rfl ?_
 obtain ⟨sep, hsep⟩ : ∃ sep, sep = (if isF then [c] else ([] : List UInt8)) := ⟨_, rfl⟩
 rw [<- hsep] at hK
 have hs1 : sep.length <= 1 := by rw [hsep]; split <;> simp
 refine j_i (fun j => j ⟨⟨l⟩⟩ (some ⟨b51, 0, none⟩) ⟨⟨sep⟩⟩ σ) ?_ ?_
 case refine_2 =>
  intro j hj
  refine ptr_i (rd_B (rdC_of (hg.get h21) (by rfl)) ?_)
  cases isF with
  | true =>
   rw [hsp rfl] at h18
   rw [hsep] at hj
   exact br_t rfl (ptr_i (rd_S (rdC_of (hg.get h18) (by rfl)) hj))
  | false =>
   rw [hsep] at hj
   exact br_f rfl hj
 refine call_i (s_txSplit l sep hs1 hl fun yy σ1 hy => app_L ?_)
 obtain ⟨ps1, ps2⟩ := parts_sum sep l
 generalize partsU sep l = L at hK hy ps1 ps2
 have hyl : yy.len = L.length := by rw [hy.len, strRows_len]
 have h51' := hy.1.get (hg.get h51)
 have hz' := (hz.gr hg).gr hy.1
 refine loop_i fun R hR => ?_
 have key : ∀ r p kept o τ, L = p ++ r -> RNew σ1 τ 9 1 (strRows kept) o -> kept ++ keepP x y p.length r = keepP x y 0 L -> R (some ⟨b51, 0, none⟩) ⟨⟨sep⟩⟩ o yy ((yy.len : Nat) : Int) (p.length : Int) τ := by
  intro r
  induction r with
  | nil =>
   intro p kept o τ hp ho hk
   rw [List.append_nil] at hp
   subst hp
   have e0 : keepP x y L.length [] = [] := rfl
   rw [e0, List.append_nil] at hk
   subst hk
   obtain ⟨kk1, kk2⟩ := keepP_sum x y L 0
   refine hR _ _ _ _ _ _ _ (br_f (by rw [decide_eq_false_iff_not]; omega) ?_)
   refine call_i (s_Join ho.at (rnew_cap ho) ⟨⟨sep⟩⟩ hs1 (by omega) (by omega) fun τ1 g1 => app_S ?_)
   exact hK τ1 ((hy.1.trans ho.1).trans g1)
  | cons a r ih =>
   intro p kept o τ hp ho hk
   have hlen : L.length = p.length + (r.length + 1) := by rw [hp]; simp
   have hkl : kept.length <= L.length := by
    have h1 := congrArg List.length hk
    rw [List.length_append] at h1
    have := (keepP_sum x y L 0).2
    omega
   obtain ⟨g, oo, q1, q2, q3⟩ := sRow (hy.at.gr ho.1) (i := p.length) (s := a) (by rw [hp]; simp)
   refine hR _ _ _ _ _ _ _ (br_t (by rw [decide_eq_true_eq]; omega) ?_)
   refine j_i (fun j => ∀ kept' o' τ', RNew σ1 τ' 9 1 (strRows kept') o' -> kept' ++ keepP x y (p.length + 1) r = keepP x y 0 L -> j (some ⟨b51, 0, none⟩) ⟨⟨sep⟩⟩ o' yy ((yy.len : Nat) : Int) (p.length : Int) τ') ?_ ?_
   ·intro kept' o' τ' ho' hk'
    rw [wS (a := p.length) (by omega)]
    have := ih (p ++ [a]) kept' o' τ' (by rw [hp]; simp) ho' (by rw [List.length_append]; exact hk')
    rw [List.length_append] at this
    exact this
   intro j hj
   rw [q1]
   refine ptr_i (if_i ⟨by omega, by omega⟩ (rd_S (by rw [Int.toNat_natCast]; exact q3) (ptr_i (rd_Y (rdC_of (ho.1.get h51') (by rfl)) ?_))))
   rw [wS (a := p.length) (by omega)]
   refine call_i (s_txIn (hz'.gr ho.1) _ fun τ1 g1 => app_B ?_)
   have hun : keepP x y p.length (a :: r) = if decide (x <= ((p.length : Nat) : Int) + 1) && decide (((p.length : Nat) : Int) + 1 <= y) then a :: keepP x y (p.length + 1) r else keepP x y (p.length + 1) r := rfl
   rw [hun] at hk
   rw [show (((p.length + 1 : Nat)) : Int) = ((p.length : Nat) : Int) + 1 by omega]
   cases hb : (decide (x <= ((p.length : Nat) : Int) + 1) && decide (((p.length : Nat) : Int) + 1 <= y)) with
   | true =>
    rw [hb, if_pos rfl] at hk
    refine br_t rfl ((ho.gr g1).app1 el_strsT rfl rfl (by rw [strRows_len]; omega) fun o2 τ2 h2 _ _ => hj (kept ++ [a]) o2 τ2 ?_ (by rw [List.append_assoc]; exact hk))
    unfold strRows at h2 ⊢
    rw [List.map_append]; exact h2
   | false =>
    rw [hb, if_neg (by simp)] at hk
    exact br_f rfl (hj kept o τ1 (ho.gr g1) hk)
 exact key L [] [] ⟨none, 0, 0⟩ σ1 rfl (RNew.nil _ _ _) rfl
end Go.Proofs.YtpfkfphjigcdeaaGreatDoor

