/- A part of a proof. -/
import Derived.Test.YtpfkfphjigcdeaaGreatDoorVax
import Derived.Laws.Runes
import Derived.Lay
import Derived.Test.YtpfkfphjigcdeaaGreatDoorCards
import Derived.Test.YtpfkfphjigcdeaaGreatDoorTie
import Derived.WalkKit
import Derived.ProofKit
import Derived.OpenShut
import Derived.Deep.DeepHandedRow
import Derived.Deep.DeepLaidRun
import Derived.Lib.Bytealg
set_option maxRecDepth 100000
namespace Go.Proofs.YtpfkfphjigcdeaaGreatDoor
open Go Go.HL Go.Wk Go.RowKit Go.Maps Go.Sort Go.Shelf
theorem ext_below {σ : H} {w w' : World} (hw : σ.le w) (hb : Below w.heap.size w w') : Ext σ w σ w' :=
 ⟨fun b o h => (hb.block b (hw.lt h)).trans (hw b o h), hb.size, fun b hlt _ => hb.block b hlt, fun b o h hn => by rw [h] at hn; (cases hn), hb.os, hb.tape, hb.output⟩
def StrSl (σ : H) (x : Sl) (l : List ByteArray) : Prop := x.len = l.length /\ (l = [] \/ ∃ g cur, x.base = some ⟨g, 0, none⟩ /\ σ g = some (.cells ⟨cur⟩ 9 (0, 0)) /\ cur.take l.length = l.map Value.string)
attribute [local irreducible] ptrW ifW brW andW rdT alW letJ stW muW biW vaW imW callT cvalT app callW invW callVW sizeT oW nilF oneK loopW rfW funW begW roundK exW idxW Gr Put
end Go.Proofs.YtpfkfphjigcdeaaGreatDoor

set_option maxRecDepth 100000
namespace Go.Proofs.YtpfkfphjigcdeaaGreatDoor
open Go Go.HL Go.Wk
attribute [local irreducible] ptrW ifW brW andW rdT alW letJ stW muW biW vaW imW callT cvalT app callW invW callVW sizeT oW nilF oneK loopW rfW funW begW roundK exW idxW Gr Put
end Go.Proofs.YtpfkfphjigcdeaaGreatDoor

namespace Go.Wk
open Go Go.HL
theorem splitL_none {c : UInt8} : ∀ {l : List UInt8}, c ∉ l -> splitL c l = [l] := by
 intro l
 induction l with
 | nil => intro _; rfl
 | cons x l ih =>
  intro h
  simp only [List.mem_cons, not_or] at h
  have hx : (x == c) = false := by simpa using fun e => h.1 e.symm
  simp only [splitL, hx, ih h.2]
theorem splitL_some {c : UInt8} {b : List UInt8} : ∀ {a : List UInt8}, c ∉ a -> splitL c (a ++ c :: b) = a :: splitL c b := by
 intro a
 induction a with
 | nil => intro _; simp [splitL]
 | cons x a ih =>
  intro h
  simp only [List.mem_cons, not_or] at h
  have hx : (x == c) = false := by simpa using fun e => h.1 e.symm
  simp only [List.cons_append, splitL, hx, ih h.2]
theorem splitL_ne {c : UInt8} : ∀ l : List UInt8, splitL c l ≠ [] := by
 intro l
 induction l with
 | nil => simp [splitL]
 | cons x l ih =>
  simp only [splitL]
  cases (x == c) with
  | true => simp
  | false =>
   cases h : splitL c l with
   | nil => simp
   | cons => simp
theorem toList_at (s : ByteArray) (i : Nat) (h : i < s.size) : s.data.toList[i]? = some s[i]! := by
 rw [getElem!_pos s i h]
 have : s[i] = s.data[i] := rfl
 rw [this]; simp
theorem firstIdx_split (s : ByteArray) (c : UInt8) : (firstIdx s c = -1 /\ c ∉ s.data.toList) \/ ∃ i : Nat, firstIdx s c = (i : Int) /\ i < s.size /\ c ∉ s.data.toList.take i /\ s.data.toList = s.data.toList.take i ++ c :: s.data.toList.drop (i + 1) := by
 have hlen : s.data.toList.length = s.size := rfl
 unfold firstIdx
 cases hf : (List.range s.size).find? fun i => s[i]! == c with
 | none =>
  refine .inl ⟨rfl, fun hm => ?_⟩
  obtain ⟨i, hi, he⟩ := List.getElem_of_mem hm
  have h1 := List.find?_eq_none.1 hf i (by simpa [hlen] using hi)
  have h2 := toList_at s i (by omega)
  rw [List.getElem?_eq_getElem hi, he] at h2
  simp at h2
  exact h1 (by simp [h2])
 | some i =>
  rw [List.find?_range_eq_some] at hf
  obtain ⟨h1, h2, h3⟩ := hf
  have hi : i < s.size := by simpa using h2
  refine .inr ⟨i, rfl, hi, fun hm => ?_, ?_⟩
  ·obtain ⟨j, hj, he⟩ := List.getElem_of_mem hm
   have hj' : j < i := by have := hj; simp at this; omega
   have h4 := h3 j hj'
   have h5 := toList_at s j (by omega)
   rw [List.getElem_take] at he
   rw [List.getElem?_eq_getElem (by omega), he] at h5
   simp at h5
   simp [h5] at h4
  ·have h5 := toList_at s i hi
   have hc : s[i]! = c := by simpa using h1
   rw [hc] at h5
   have h6 : s.data.toList.drop i = c :: s.data.toList.drop (i + 1) := by
    rw [List.drop_eq_getElem_cons (by omega)]
    rw [List.getElem?_eq_getElem (by omega)] at h5
    simp only [Option.some.injEq] at h5
    rw [h5]
   rw [<- h6, List.take_append_drop]
def partsOf (c : UInt8) (s : ByteArray) : List ByteArray := (splitL c s.data.toList).map fun l => (⟨⟨l⟩⟩ : ByteArray)
theorem partsOf_none {c : UInt8} {s : ByteArray} (h : firstIdx s c < 0) : partsOf c s = [s] := by
 rcases firstIdx_split s c with ⟨_, h1⟩ | ⟨i, h1, _⟩
 ·unfold partsOf; rw [splitL_none h1]; rfl
 ·omega
theorem extract_toList (s : ByteArray) (a b : Nat) : (s.extract a b).data.toList = (s.data.toList.take b).drop a := by
 rw [ByteArray.data_extract, Array.toList_extract, List.extract_eq_drop_take']
theorem partsOf_some {c : UInt8} {s : ByteArray} (h : 0 <= firstIdx s c) : (firstIdx s c).toNat < s.size /\ partsOf c s = s.extract 0 (firstIdx s c).toNat :: partsOf c (s.extract ((firstIdx s c).toNat + 1) s.size) := by
 rcases firstIdx_split s c with ⟨h0, _⟩ | ⟨i, h1, h2, h3, h4⟩
 ·omega
 ·have : (firstIdx s c).toNat = i := by omega
  rw [this]
  refine ⟨h2, ?_⟩
  have hl : s.data.toList.length = s.size := rfl
  unfold partsOf
  rw [extract_toList, show s.data.toList.take s.size = s.data.toList by rw [<- hl, List.take_length]]
  conv => lhs; rw [h4]
  rw [splitL_some h3]
  simp only [List.map_cons, List.cons.injEq, and_true]
  have : (s.extract 0 i) = ⟨⟨(s.extract 0 i).data.toList⟩⟩ := rfl
  rw [this, extract_toList]; rfl
def lasts : List ByteArray -> List (ByteArray × Bool)
 | [] => []
 | x :: r => (x, r.isEmpty) :: lasts r
theorem partsB_eq (s : ByteArray) : partsB s = (partsOf 47 s).filter okPart := rfl

section
variable {A : AT} {go : Int -> ByteArray -> Int -> Int × Pl × Int} {follow : Bool} {name : ByteArray} {rest : List ByteArray} {p : Pl} {h : Int}
theorem steps_none (h1 : p.there = false) : A.steps go follow (name :: rest) p h = (5, Pl.z, h) := by rw [AT.steps, if_pos h1]
theorem steps_notdir (h1 : p.there = true) (h2 : A.kind p.ino ≠ 2) : A.steps go follow (name :: rest) p h = (8, Pl.z, h) := by rw [AT.steps, if_neg (by simp [h1]), if_pos h2]
theorem steps_up (h1 : p.there = true) (h2 : A.kind p.ino = 2) (h3 : sEq name ⟨⟨[46, 46]⟩⟩ = true) : A.steps go follow (name :: rest) p h = A.steps go follow rest ⟨A.upOf p.ino, ⟨⟨[]⟩⟩, A.upOf p.ino, true⟩ h := by
 rw [AT.steps, if_neg (by simp [h1]), if_neg (by simp [h2]), if_pos h3]
theorem steps_long (h1 : p.there = true) (h2 : A.kind p.ino = 2) (h3 : sEq name ⟨⟨[46, 46]⟩⟩ = false) (h4 : name.size > 56) : A.steps go follow (name :: rest) p h = (3, Pl.z, h) := by
 rw [AT.steps, if_neg (by simp [h1]), if_neg (by simp [h2]), if_neg (by simp [h3]), if_pos h4]
theorem steps_name (h1 : p.there = true) (h2 : A.kind p.ino = 2) (h3 : sEq name ⟨⟨[46, 46]⟩⟩ = false) (h4 : ¬ name.size > 56) (h5 : (A.find p.ino name).isSome = false \/ (rest.isEmpty && !follow) = true \/ A.kind ((A.find p.ino name).getD 0) ≠ 3) :
 A.steps go follow (name :: rest) p h = A.steps go follow rest ⟨p.ino, name, (A.find p.ino name).getD 0, (A.find p.ino name).isSome⟩ h := by
 rw [AT.steps, if_neg (by simp [h1]), if_neg (by simp [h2]), if_neg (by simp [h3]), if_neg h4]
 simp only
 rw [if_pos h5]
theorem steps_loop (h1 : p.there = true) (h2 : A.kind p.ino = 2) (h3 : sEq name ⟨⟨[46, 46]⟩⟩ = false) (h4 : ¬ name.size > 56) (h5 : ¬ ((A.find p.ino name).isSome = false \/ (rest.isEmpty && !follow) = true \/ A.kind ((A.find p.ino name).getD 0) ≠ 3)) (h6 : h - 1 < 0) :
 A.steps go follow (name :: rest) p h = (9, Pl.z, h - 1) := by
 rw [AT.steps, if_neg (by simp [h1]), if_neg (by simp [h2]), if_neg (by simp [h3]), if_neg h4]
 simp only
 rw [if_neg h5, if_pos h6]
theorem steps_err (h1 : p.there = true) (h2 : A.kind p.ino = 2) (h3 : sEq name ⟨⟨[46, 46]⟩⟩ = false) (h4 : ¬ name.size > 56) (h5 : ¬ ((A.find p.ino name).isSome = false \/ (rest.isEmpty && !follow) = true \/ A.kind ((A.find p.ino name).getD 0) ≠ 3)) (h6 : ¬ h - 1 < 0)
 (h7 : (go p.ino (A.data ((A.find p.ino name).getD 0)) (h - 1)).1 ≠ 0) :
 A.steps go follow (name :: rest) p h = ((go p.ino (A.data ((A.find p.ino name).getD 0)) (h - 1)).1, Pl.z, (go p.ino (A.data ((A.find p.ino name).getD 0)) (h - 1)).2.2) := by
 rw [AT.steps, if_neg (by simp [h1]), if_neg (by simp [h2]), if_neg (by simp [h3]), if_neg h4]
 simp only
 rw [if_neg h5, if_neg h6, if_pos h7]
theorem steps_link (h1 : p.there = true) (h2 : A.kind p.ino = 2) (h3 : sEq name ⟨⟨[46, 46]⟩⟩ = false) (h4 : ¬ name.size > 56) (h5 : ¬ ((A.find p.ino name).isSome = false \/ (rest.isEmpty && !follow) = true \/ A.kind ((A.find p.ino name).getD 0) ≠ 3)) (h6 : ¬ h - 1 < 0)
 (h7 : (go p.ino (A.data ((A.find p.ino name).getD 0)) (h - 1)).1 = 0) :
 A.steps go follow (name :: rest) p h = A.steps go follow rest (go p.ino (A.data ((A.find p.ino name).getD 0)) (h - 1)).2.1 (go p.ino (A.data ((A.find p.ino name).getD 0)) (h - 1)).2.2 := by
 rw [AT.steps, if_neg (by simp [h1]), if_neg (by simp [h2]), if_neg (by simp [h3]), if_neg h4]
 simp only
 rw [if_neg h5, if_neg h6, if_neg (by simp [h7])]
end
theorem steps_hops {A : AT} {go : Int -> ByteArray -> Int -> Int × Pl × Int} {follow : Bool} (hgo : ∀ d s x, 0 <= x -> -1 <= (go d s x).2.2 /\ (go d s x).2.2 <= x /\ ((go d s x).1 = 0 -> 0 <= (go d s x).2.2)) : ∀ (l : List ByteArray) (p : Pl) (h : Int), 0 <= h -> -1 <= (A.steps go follow l p h).2.2 /\ (A.steps go follow l p h).2.2 <= h /\ ((A.steps go follow l p h).1 = 0 -> 0 <= (A.steps go follow l p h).2.2) := by
 intro l
 induction l with
 | nil => intro p h hh; simp [AT.steps]; omega
 | cons n r ih =>
  intro p h hh
  cases h1 : p.there with
  | false => rw [steps_none h1]; exact ⟨by show (-1 : Int) <= h; omega, Int.le_refl _, fun _ => hh⟩
  | true =>
   by_cases h2 : A.kind p.ino = 2
   case neg => rw [steps_notdir h1 h2]; exact ⟨by show (-1 : Int) <= h; omega, Int.le_refl _, fun _ => hh⟩
   cases h3 : sEq n ⟨⟨[46, 46]⟩⟩ with
   | true => rw [steps_up h1 h2 h3]; exact ih _ h hh
   | false =>
    by_cases h4 : n.size > 56
    ·rw [steps_long h1 h2 h3 h4]; exact ⟨by show (-1 : Int) <= h; omega, Int.le_refl _, fun _ => hh⟩
    by_cases h5 : (A.find p.ino n).isSome = false \/ (r.isEmpty && !follow) = true \/ A.kind ((A.find p.ino n).getD 0) ≠ 3
    ·rw [steps_name h1 h2 h3 h4 h5]; exact ih _ h hh
    by_cases h6 : h - 1 < 0
    ·rw [steps_loop h1 h2 h3 h4 h5 h6]; exact ⟨by show (-1 : Int) <= h - 1; omega, by show h - 1 <= h; omega, fun e => by cases e⟩
    have hg := hgo p.ino (A.data ((A.find p.ino n).getD 0)) (h - 1) (by omega)
    by_cases h7 : (go p.ino (A.data ((A.find p.ino n).getD 0)) (h - 1)).1 = 0
    ·rw [steps_link h1 h2 h3 h4 h5 h6 h7]
     have := ih (go p.ino (A.data ((A.find p.ino n).getD 0)) (h - 1)).2.1 _ (hg.2.2 h7)
     exact ⟨this.1, by omega, this.2.2⟩
    ·rw [steps_err h1 h2 h3 h4 h5 h6 h7]; exact ⟨hg.1, Int.le_trans hg.2.1 (by omega), fun e => absurd e h7⟩
theorem walk_hops (A : AT) : ∀ (f : Nat) (d : Int) (s : ByteArray) (fo : Bool) (h : Int), 0 <= h -> -1 <= (A.walk f d s fo h).2.2 /\ (A.walk f d s fo h).2.2 <= h /\ ((A.walk f d s fo h).1 = 0 -> 0 <= (A.walk f d s fo h).2.2) := by
 intro f
 induction f with
 | zero => intro d s fo h hh; exact ⟨by show (-1 : Int) <= h; omega, Int.le_refl _, fun e => by cases e⟩
 | succ f ih =>
  intro d s fo h hh
  rw [AT.walk]
  by_cases hm : mayE s ≠ 0
  ·rw [if_pos hm]; exact ⟨by show (-1 : Int) <= h; omega, Int.le_refl _, fun _ => hh⟩
  ·rw [if_neg hm]
   exact steps_hops (fun d s x hx => ih d s true x hx) _ _ _ hh
end Go.Wk

set_option maxRecDepth 100000
namespace Go.Proofs.YtpfkfphjigcdeaaGreatDoor
open Go Go.HL Go.Wk
attribute [local irreducible] ptrW ifW brW andW rdT alW letJ stW muW biW vaW imW callT cvalT app callW invW callVW sizeT oW nilF oneK loopW rfW funW begW roundK exW idxW Gr Put
theorem x_sliIndexByte (s : ByteArray) (c : UInt8) {σ : H} {K : KH} (hK : K (.int .i64 (firstIdx s c)) σ) : callW Tryz.prog 73 [.string s, .int .u8 (c.toNat : Int)] K σ := by
 refine c73 _ _ ?_
 unfold g73
 refine x_IBS s _ ?_
 have : ((c.toNat : Int)).toNat.toUInt8 = c := by simp
 rw [this]; exact hK
theorem firstIdx_self (c : UInt8) : firstIdx ⟨⟨[c]⟩⟩ c = 0 := by
 rcases firstIdx_split ⟨⟨[c]⟩⟩ c with ⟨_, h⟩ | ⟨i, h, h2, _⟩
 ·simp at h
 ·have : i < 1 := h2
  omega
theorem s_sliIndex1 (s : ByteArray) (c : UInt8) {σ : H} {K : KH} (hK : K (.int .i64 (firstIdx s c)) σ) : g67 s ⟨⟨[c]⟩⟩ K σ := by
 unfold g67
 refine j_i (fun j => ∀ b : Bool, (b = true -> s = ⟨⟨[c]⟩⟩) -> j s ⟨⟨[c]⟩⟩ (((⟨⟨[c]⟩⟩ : ByteArray).size : Nat) : Int) b σ) ?_ ?_
 ·intro b hb
  cases b with
  | true =>
   refine br_t rfl ?_
   have := hb rfl
   subst this
   rw [firstIdx_self] at hK; exact hK
  | false =>
   refine br_f rfl (br_t rfl (idx_l (c := c) (by decide) rfl ?_))
   exact call_i (x_sliIndexByte s c (app_I hK))
 ·intro j hj
  refine br_f rfl (hj _ ?_)
  intro h; exact (strEq_iff.1 h).symm
theorem x_Index1 (s : ByteArray) (c : UInt8) {σ : H} {K : KH} (hK : K (.int .i64 (firstIdx s c)) σ) : callW Tryz.prog 31 [.string s, .string ⟨⟨[c]⟩⟩] K σ := by
 refine c31 _ _ ?_
 unfold g31
 exact call_i (c67 _ _ (s_sliIndex1 s c (app_I hK)))
section
variable {ι : Type}
theorem x_split1 {c : UInt8} {y : Value} {b5 b4 b6 : Nat} {t5 t4 t6 : TypeId} {D : Nat -> Prop} {I : List ByteArray -> H -> Prop} {S : H -> Prop} (C : Cl Tryz.prog y D (fun (a : ByteArray) args _ => args = [.string a]) I S) (d4 : D b4) (d5 : D b5) (d6 : D b6) (n45 : b5 ≠ b4) (n46 : b6 ≠ b4) {K : KH} (hK1 : ∀ σ', I [] σ' -> K (.tuple ⟨[]⟩) σ') (hK2 : ∀ σ', S σ' -> K (.tuple ⟨[]⟩) σ')
 {σ : H} {s : ByteArray} (h5 : σ b5 = some (.cells ⟨[.string ⟨⟨[c]⟩⟩]⟩ t5 (0, 0))) (h4 : σ b4 = some (.cells ⟨[.string s]⟩ t4 (0, 0))) (h6 : σ b6 = some (.cells ⟨[.int .i64 0]⟩ t6 (0, 0))) (hs : s.size <= 1000000000) (hI : I (partsOf c s) σ) :
 callW Tryz.prog 128 [y, .pointer (some ⟨b5, 0, none⟩), .pointer (some ⟨b4, 0, none⟩), .pointer (some ⟨b6, 0, none⟩)] K σ := by
 refine c128 _ _ _ _ ?_
 unfold g128
 (repeat (first|refine ptr_i ?_|refine z2 ?_|(refine al_i ?_;intro _ _ _ _ _)|refine z4 ?_|refine z5 ?_|(refine z6 ?_;intro _ _)|refine app_P ?_|refine app_I ?_|refine app_S ?_|refine app_B ?_|refine app_M ?_|refine app_L ?_|refine app_U ?_|refine app_R ?_|(refine app_of rfl ?_;try dsimp only)))
 refine br_f rfl ?_
 refine loop_i ?_
 intro R hR
 have key : ∀ (n : Nat) (s : ByteArray) (σ : H), s.size <= n -> s.size <= 1000000000 -> σ b5 = some (.cells ⟨[.string ⟨⟨[c]⟩⟩]⟩ t5 (0, 0)) -> σ b4 = some (.cells ⟨[.string s]⟩ t4 (0, 0)) -> σ b6 = some (.cells ⟨[.int .i64 0]⟩ t6 (0, 0)) -> I (partsOf c s) σ ->
  R y (some ⟨b5, 0, none⟩) (some ⟨b4, 0, none⟩) (some ⟨b6, 0, none⟩) σ := by
  intro n
  induction n with
  | zero =>
   intro s σ hn hs h5 h4 h6 hI
   refine hR _ _ _ _ _ ?_
   (repeat (first|refine ptr_i ?_|refine z2 ?_|(refine al_i ?_;intro _ _ _ _ _)|refine z4 ?_|refine z5 ?_|(refine z6 ?_;intro _ _)|refine app_P ?_|refine app_I ?_|refine app_S ?_|refine app_B ?_|refine app_M ?_|refine app_L ?_|refine app_U ?_|refine app_R ?_|(refine app_of rfl ?_;try dsimp only)))
   refine call_i (x_Index1 s c (app_I ?_))
   by_cases hi : firstIdx s c < 0
   ·refine br_t (by simpa using hi) ?_
    (repeat (first|refine ptr_i ?_|refine z2 ?_|(refine al_i ?_;intro _ _ _ _ _)|refine z4 ?_|refine z5 ?_|(refine z6 ?_;intro _ _)|refine app_P ?_|refine app_I ?_|refine app_S ?_|refine app_B ?_|refine app_M ?_|refine app_L ?_|refine app_U ?_|refine app_R ?_|(refine app_of rfl ?_;try dsimp only)))
    rw [partsOf_none hi] at hI
    refine cvalv_i (C.call s [] _ σ _ hI rfl ?_ ?_)
    ·intro σ' h _; exact app_B (hK1 σ' h)
    ·intro σ' h _; exact app_B (hK2 σ' h)
   ·have := (partsOf_some (c := c) (s := s) (by omega)).1
    omega
  | succ n ih =>
   intro s σ hn hs h5 h4 h6 hI
   refine hR _ _ _ _ _ ?_
   (repeat (first|refine ptr_i ?_|refine z2 ?_|(refine al_i ?_;intro _ _ _ _ _)|refine z4 ?_|refine z5 ?_|(refine z6 ?_;intro _ _)|refine app_P ?_|refine app_I ?_|refine app_S ?_|refine app_B ?_|refine app_M ?_|refine app_L ?_|refine app_U ?_|refine app_R ?_|(refine app_of rfl ?_;try dsimp only)))
   refine call_i (x_Index1 s c (app_I ?_))
   by_cases hi : firstIdx s c < 0
   ·refine br_t (by simpa using hi) ?_
    (repeat (first|refine ptr_i ?_|refine z2 ?_|(refine al_i ?_;intro _ _ _ _ _)|refine z4 ?_|refine z5 ?_|(refine z6 ?_;intro _ _)|refine app_P ?_|refine app_I ?_|refine app_S ?_|refine app_B ?_|refine app_M ?_|refine app_L ?_|refine app_U ?_|refine app_R ?_|(refine app_of rfl ?_;try dsimp only)))
    rw [partsOf_none hi] at hI
    refine cvalv_i (C.call s [] _ σ _ hI rfl ?_ ?_)
    ·intro σ' h _; exact app_B (hK1 σ' h)
    ·intro σ' h _; exact app_B (hK2 σ' h)
   ·obtain ⟨hlt, hp⟩ := partsOf_some (c := c) (s := s) (by omega)
    rw [hp] at hI
    refine br_f (by simpa using hi) ?_
    (repeat (first|refine ptr_i ?_|refine z2 ?_|(refine al_i ?_;intro _ _ _ _ _)|refine z4 ?_|refine z5 ?_|(refine z6 ?_;intro _ _)|refine app_P ?_|refine app_I ?_|refine app_S ?_|refine app_B ?_|refine app_M ?_|refine app_L ?_|refine app_U ?_|refine app_R ?_|(refine app_of rfl ?_;try dsimp only)))
    have w0 : IntKind.i64.wrap (firstIdx s c + 0) = firstIdx s c := by rw [wrap_id (by omega) (by omega)]; omega
    have w1 : IntKind.i64.wrap (firstIdx s c + (((⟨⟨[c]⟩⟩ : ByteArray).size : Nat) : Int)) = firstIdx s c + 1 := by
     show IntKind.i64.wrap (firstIdx s c + 1) = _
     rw [wrap_id (by omega) (by omega)]
    rw [w0]
    refine if_i ⟨bnd_some (by omega) (by omega), bnd_none⟩ ?_
    refine cvalv_i (C.call _ _ _ σ _ hI rfl ?_ ?_)
    ·intro σ' h ho
     refine app_B (br_f rfl ?_)
     have h5' := ho _ _ d5 h5
     have h4' := ho _ _ d4 h4
     have h6' := ho _ _ d6 h6
     (repeat (first|refine ptr_i ?_|refine z2 ?_|(refine al_i ?_;intro _ _ _ _ _)|refine z4 ?_|refine z5 ?_|(refine z6 ?_;intro _ _)|refine app_P ?_|refine app_I ?_|refine app_S ?_|refine app_B ?_|refine app_M ?_|refine app_L ?_|refine app_U ?_|refine app_R ?_|(refine app_of rfl ?_;try dsimp only)))
     rw [w1]
     refine if_i ⟨bnd_none, bnd_some (by omega) (by omega)⟩ ?_
     (repeat (first|refine ptr_i ?_|refine z2 ?_|(refine al_i ?_;intro _ _ _ _ _)|refine z4 ?_|refine z5 ?_|(refine z6 ?_;intro _ _)|refine app_P ?_|refine app_I ?_|refine app_S ?_|refine app_B ?_|refine app_M ?_|refine app_L ?_|refine app_U ?_|refine app_R ?_|(refine app_of rfl ?_;try dsimp only)))
     rename_i σ2 p2
     have e1 : (firstIdx s c + 1).toNat = (firstIdx s c).toNat + 1 := by omega
     rw [e1] at p2
     have hsz : (s.extract ((firstIdx s c).toNat + 1) s.size).size = s.size - ((firstIdx s c).toNat + 1) := by rw [ByteArray.size_extract]; omega
     refine ih _ σ2 (by rw [hsz]; omega) (by rw [hsz]; omega) (p2.get n45 h5') p2.same (p2.get n46 h6') (C.put _ _ _ _ _ h d4 p2)
    ·intro σ' h _; exact app_B (br_t rfl (hK2 σ' h))
 exact key s.size s σ (Nat.le_refl _) hs h5 h4 h6 hI
end
theorem x_SplitSeq (s sep : ByteArray) {σ : H} {K : KH} (hK : ∀ b4 b5 b6 σ', Gr σ σ' -> σ b4 = none -> σ b5 = none -> σ b6 = none -> b5 ≠ b4 -> b6 ≠ b4 -> σ' b4 = some (.cells ⟨[.string s]⟩ 9 (0, 0)) -> σ' b5 = some (.cells ⟨[.string sep]⟩ 9 (0, 0)) -> σ' b6 = some (.cells ⟨[.int .i64 0]⟩ 3 (0, 0)) -> K (.func (.func 128) ⟨[]⟩ ⟨[.pointer (some ⟨b5, 0, none⟩), .pointer (some ⟨b4, 0, none⟩), .pointer (some ⟨b6, 0, none⟩)]⟩) σ') :
 callW Tryz.prog 76 [.string s, .string sep] K σ := by
 refine c76 _ _ ?_
 unfold g76
 refine call_i (c100 _ _ _ ?_)
 unfold g100
 refine al_i ?_; intro b4 σ1 g1 e1 n1
 refine al_i ?_; intro b5 σ2 g2 e2 n2
 refine al_i ?_; intro b6 σ3 g3 e3 n3
 refine app_R ?_
 exact hK b4 b5 b6 σ3 (by repeat (first | exact Gr.refl _ | assumption | refine Gr.trans ?_ ‹_› | refine Gr.putF ?_ ‹_› (none_of ?_ ‹_›))) n1 (none_of g1 n2) (none_of (g1.trans g2) n3) (ne_fr n2 (by repeat (first | exact io ‹_› | exact mS ‹_› | refine gS ‹_› ?_ | refine pS ‹_› ?_))).symm (ne_fr n3 (by repeat (first | exact io ‹_› | exact mS ‹_› | refine gS ‹_› ?_ | refine pS ‹_› ?_))).symm (by exact gA) (by exact gA) (by exact gA)
theorem go_split1 : isGo Tryz.prog 128 = true := by kernel_rfl
theorem go_names1 : isGo Tryz.prog 168 = true := by kernel_rfl
theorem x_names (path : ByteArray) {σ : H} {K : KH} (hK : ∀ b2 σ', Gr σ σ' -> σ b2 = none -> σ' b2 = some (.cells ⟨[.string path]⟩ 9 (0, 0)) -> K (.func (.func 168) ⟨[]⟩ ⟨[.pointer (some ⟨b2, 0, none⟩)]⟩) σ') : callW Tryz.prog 156 [.string path] K σ := by
 refine c156 _ ?_
 unfold g156
 refine al_i ?_; intro b2 σ1 g1 e1 n1
 exact hK b2 σ1 g1 n1 e1
def pendOk (σ : H) (b4 b5 : Nat) : Option ByteArray -> Prop
 | none => σ b5 = some (.cells ⟨[.bool false]⟩ 4 (0, 0)) /\ ∃ x, σ b4 = some (.cells ⟨[.string x]⟩ 9 (0, 0))
 | some a => σ b5 = some (.cells ⟨[.bool true]⟩ 4 (0, 0)) /\ σ b4 = some (.cells ⟨[.string a]⟩ 9 (0, 0))
def pendL : Option ByteArray -> List ByteArray
 | none => []
 | some a => [a]
theorem pendOk.keep {σ σ' : H} {b4 b5 : Nat} {p : Option ByteArray} (h : pendOk σ b4 b5 p) (h4 : ∀ o, σ b4 = some o -> σ' b4 = some o) (h5 : ∀ o, σ b5 = some o -> σ' b5 = some o) : pendOk σ' b4 b5 p := by
 cases p with
 | none => obtain ⟨h1, x, h2⟩ := h; exact ⟨h5 _ h1, x, h4 _ h2⟩
 | some a => exact ⟨h5 _ h.1, h4 _ h.2⟩
theorem okPart_eq (a : ByteArray) : okPart a = !(strEq a ⟨⟨[]⟩⟩ || strEq a ⟨⟨[46]⟩⟩) := by unfold okPart; rw [sEq_eq, sEq_eq]; simp
theorem x_names1 {σ : H} {fy : Fn} {ay cy : Array Value} {b2 : Nat} {path : ByteArray} {t : TypeId} (h2 : σ b2 = some (.cells ⟨[.string path]⟩ t (0, 0))) (hs : path.size <= 1000000000) {K : KH}
 (hC : ∀ D : Nat -> Prop, (∀ b, D b -> σ b = none) -> ∃ I S, Cl Tryz.prog (.func fy ay cy) D (fun (a : ByteArray × Bool) args _ => args = [.string a.1, .bool a.2]) I S /\ (∀ σ', Gr σ σ' -> (∀ b, D b -> (σ' b).isSome = true) -> I (lasts (partsB path)) σ') /\ (∀ σ', I [] σ' -> K (.tuple ⟨[]⟩) σ') /\ (∀ σ', S σ' -> K (.tuple ⟨[]⟩) σ')) :
 callW Tryz.prog 168 [.func fy ay cy, .pointer (some ⟨b2, 0, none⟩)] K σ := by
 refine c168 _ _ ?_
 unfold g168
 refine one_f ?_
 refine al_i ?_; intro b3 σ1 g1 e1 n1
 refine al_i ?_; intro b4 σ2 g2 e2 n2
 refine al_i ?_; intro b5 σ3 g3 e3 n3
 have n43 : b4 ≠ b3 := (ne_fr n2 (by repeat (first | exact io ‹_› | exact mS ‹_› | refine gS ‹_› ?_ | refine pS ‹_› ?_))).symm
 have n53 : b5 ≠ b3 := (ne_fr n3 (by repeat (first | exact io ‹_› | exact mS ‹_› | refine gS ‹_› ?_ | refine pS ‹_› ?_))).symm
 have n54 : b5 ≠ b4 := (ne_fr n3 (by repeat (first | exact io ‹_› | exact mS ‹_› | refine gS ‹_› ?_ | refine pS ‹_› ?_))).symm
 have f4 : σ b4 = none := none_of g1 n2
 have f5 : σ b5 = none := none_of (g1.trans g2) n3
 have hg3 : Lng σ σ3 := ⟨by repeat (first | exact Gr.refl _ | assumption | refine Gr.trans ?_ ‹_› | refine Gr.putF ?_ ‹_› (none_of ?_ ‹_›))⟩
 have k2 := hg3.gr.get h2
 (refine st_i2 (by exact gA) szA (by rfl) (by rfl) ?_; intro _ _)
 rename_i σ4 p4
 (refine st_i2 (by exact gA) szA (by rfl) (by rfl) ?_; intro _ _)
 rename_i σ5 p5
 have hg5 : Lng σ σ5 := ⟨(hg3.gr.putF p4 f4).putF p5 f5⟩
 have k5 : σ5 b5 = some (.cells ⟨[.bool false]⟩ 4 (0, 0)) := p5.same
 have k4 : σ5 b4 = some (.cells ⟨[.string ⟨⟨[]⟩⟩]⟩ 9 (0, 0)) := p5.get n54.symm p4.same
 have k3 : σ5 b3 = some (.cells ⟨[.func fy ay cy]⟩ 225 (0, 0)) := p5.get n53.symm (p4.get n43.symm (by exact gA))
 have k2q := hg5.gr.get h2
 clear p4 p5 e2 e3 k2 hg3
 refine j_i (fun j => ∀ (I : List (ByteArray × Bool) -> H -> Prop) (S : H -> Prop) (D : Nat -> Prop), Cl Tryz.prog (.func fy ay cy) D (fun (a : ByteArray × Bool) args _ => args = [.string a.1, .bool a.2]) I S -> (∀ σ', I [] σ' -> K (.tuple ⟨[]⟩) σ') -> (∀ σ', S σ' -> K (.tuple ⟨[]⟩) σ') -> ∀ σ' p, σ' b3 = some (.cells ⟨[.func fy ay cy]⟩ 225 (0, 0)) -> pendOk σ' b4 b5 p -> I (lasts (pendL p)) σ' -> j (some ⟨b3, 0, none⟩) (some ⟨b4, 0, none⟩) (some ⟨b5, 0, none⟩) σ') ?_ ?_
 ·intro I S D C hK1 hK2 σ' p h3 hp hI
  cases p with
  | none =>
   obtain ⟨h5, x, h4⟩ := hp
   (repeat (first|refine ptr_i ?_|refine z2 ?_|(refine al_i ?_;intro _ _ _ _ _)|refine z4 ?_|refine z5 ?_|(refine z6 ?_;intro _ _)|refine app_P ?_|refine app_I ?_|refine app_S ?_|refine app_B ?_|refine app_M ?_|refine app_L ?_|refine app_U ?_|refine app_R ?_|(refine app_of rfl ?_;try dsimp only)))
   exact br_f rfl (hK1 σ' hI)
  | some a =>
   obtain ⟨h5, h4⟩ := hp
   (repeat (first|refine ptr_i ?_|refine z2 ?_|(refine al_i ?_;intro _ _ _ _ _)|refine z4 ?_|refine z5 ?_|(refine z6 ?_;intro _ _)|refine app_P ?_|refine app_I ?_|refine app_S ?_|refine app_B ?_|refine app_M ?_|refine app_L ?_|refine app_U ?_|refine app_R ?_|(refine app_of rfl ?_;try dsimp only)))
   refine br_t rfl ?_
   (repeat (first|refine ptr_i ?_|refine z2 ?_|(refine al_i ?_;intro _ _ _ _ _)|refine z4 ?_|refine z5 ?_|(refine z6 ?_;intro _ _)|refine app_P ?_|refine app_I ?_|refine app_S ?_|refine app_B ?_|refine app_M ?_|refine app_L ?_|refine app_U ?_|refine app_R ?_|(refine app_of rfl ?_;try dsimp only)))
   refine cvalv_i (C.call (a, true) [] _ σ' _ hI rfl ?_ ?_)
   ·intro σ'' h _; exact app_B (hK1 σ'' h)
   ·intro σ'' h _; exact app_B (hK2 σ'' h)
 ·intro j hj
  (repeat (first|refine ptr_i ?_|refine z2 ?_|(refine al_i ?_;intro _ _ _ _ _)|refine z4 ?_|refine z5 ?_|(refine z6 ?_;intro _ _)|refine app_P ?_|refine app_I ?_|refine app_S ?_|refine app_B ?_|refine app_M ?_|refine app_L ?_|refine app_U ?_|refine app_R ?_|(refine app_of rfl ?_;try dsimp only)))
  refine call_i (x_SplitSeq _ _ ?_)
  intro q4 q5 q6 σ6 g6 m4 m5 m6 nq1 nq2 u4 u5 u6
  refine app_R (fun_i ?_)
  refine rf_i go_split1 ?_
  intro l obj σ7 nl pl hobj hY
  have hg6 : Gr σ σ6 := hg5.gr.trans g6
  have fl : σ l = none := none_of hg6 nl
  have hg7 : Gr σ σ7 := hg6.putF pl fl
  have ql4 : q4 ≠ l := ne_fr nl (isSome_of u4)
  have ql5 : q5 ≠ l := ne_fr nl (isSome_of u5)
  have ql6 : q6 ≠ l := ne_fr nl (isSome_of u6)
  have bl3 : b3 ≠ l := ne_fr nl (isSome_of (g6.get k3))
  have bl4 : b4 ≠ l := ne_fr nl (isSome_of (g6.get k4))
  have bl5 : b5 ≠ l := ne_fr nl (isSome_of (g6.get k5))
  have q43 : b3 ≠ q4 := ne_fr m4 (isSome_of k3)
  have q44 : b4 ≠ q4 := ne_fr m4 (isSome_of k4)
  have q45 : b5 ≠ q4 := ne_fr m4 (isSome_of k5)
  have q53 : b3 ≠ q5 := ne_fr m5 (isSome_of k3)
  have q54 : b4 ≠ q5 := ne_fr m5 (isSome_of k4)
  have q55 : b5 ≠ q5 := ne_fr m5 (isSome_of k5)
  have q63 : b3 ≠ q6 := ne_fr m6 (isSome_of k3)
  have q64 : b4 ≠ q6 := ne_fr m6 (isSome_of k4)
  have q65 : b5 ≠ q6 := ne_fr m6 (isSome_of k5)
  obtain ⟨I, S, C, hI0, hK1, hK2⟩ := hC (fun b => σ b = none /\ (σ7 b).isSome = true) (fun b h => h.1)
  have v4 := pl.get ql4 u4
  have v5 := pl.get ql5 u5
  have v6 := pl.get ql6 u6
  have w3 := pl.get bl3 (g6.get k3)
  have w4 := pl.get bl4 (g6.get k4)
  have w5 := pl.get bl5 (g6.get k5)
  have d3 : σ b3 = none /\ (σ7 b3).isSome = true := ⟨n1, isSome_of w3⟩
  have d4 : σ b4 = none /\ (σ7 b4).isSome = true := ⟨f4, isSome_of w4⟩
  have d5 : σ b5 = none /\ (σ7 b5).isSome = true := ⟨f5, isSome_of w5⟩
  have dl : σ l = none /\ (σ7 l).isSome = true := ⟨fl, isSome_of pl.same⟩
  have dq4 : σ q4 = none /\ (σ7 q4).isSome = true := ⟨none_of hg5.gr m4, isSome_of v4⟩
  have dq5 : σ q5 = none /\ (σ7 q5).isSome = true := ⟨none_of hg5.gr m5, isSome_of v5⟩
  have dq6 : σ q6 = none /\ (σ7 q6).isSome = true := ⟨none_of hg5.gr m6, isSome_of v6⟩
  let D' : Nat -> Prop := fun b => b = q4 \/ b = q5 \/ b = q6
  have hD' : ∀ b, D' b -> b ≠ b3 /\ b ≠ b4 /\ b ≠ b5 /\ b ≠ l /\ (σ b = none /\ (σ7 b).isSome = true) := by
   rintro b (rfl | rfl | rfl)
   ·exact ⟨q43.symm, q44.symm, q45.symm, ql4, dq4⟩
   ·exact ⟨q53.symm, q54.symm, q55.symm, ql5, dq5⟩
   ·exact ⟨q63.symm, q64.symm, q65.symm, ql6, dq6⟩
  let I' : List ByteArray -> H -> Prop := fun r σ' => ∃ p, I (lasts (pendL p ++ r.filter okPart)) σ' /\ σ' b3 = some (.cells ⟨[.func fy ay cy]⟩ 225 (0, 0)) /\ pendOk σ' b4 b5 p /\ σ' l = some (obj .ready none)
  let S' : H -> Prop := fun σ' => S σ' /\ σ' l = some (obj .done (some .ret))
  have C' : Cl Tryz.prog (yv l) D' (fun (a : ByteArray) args _ => args = [.string a]) I' S' := by
   refine ⟨?_, ?_, ?_, ?_, ?_⟩
   ·rintro r τ b o τ' ⟨p, h1, h3, hp, h5⟩ hb hput
    obtain ⟨a1, a2, a3, a4, a5⟩ := hD' b hb
    exact ⟨p, C.put _ _ _ _ _ h1 a5 hput, hput.get a1.symm h3, hp.keep (fun _ h => hput.get a2.symm h) (fun _ h => hput.get a3.symm h), hput.get a4.symm h5⟩
   ·rintro τ b o τ' ⟨h1, h5⟩ hb hput
    obtain ⟨a1, a2, a3, a4, a5⟩ := hD' b hb
    exact ⟨C.putS _ _ _ _ h1 a5 hput, hput.get a4.symm h5⟩
   ·rintro r τ τ' ⟨p, h1, h3, hp, h5⟩ hg
    exact ⟨p, C.gr _ _ _ h1 hg, hg.get h3, hp.keep (fun _ h => hg.get h) (fun _ h => hg.get h), hg.get h5⟩
   ·rintro τ τ' ⟨h1, h5⟩ hg
    exact ⟨C.grS _ _ h1 hg, hg.get h5⟩
   ·rintro a r args τ K' ⟨p, h1, h3, hp, h5⟩ rfl hT hF
    refine yv_call (hY _ _ _ ⟨h5, ?_⟩)
    show begW l obj _ τ
    refine beg_i h5 ?_
    intro τ1 pb
    have i1 := C.put _ _ _ _ _ h1 dl pb
    have x3 := pb.get bl3 h3
    have xp : pendOk τ1 b4 b5 p := hp.keep (fun _ h => pb.get bl4 h) (fun _ h => pb.get bl5 h)
    have xl : τ1 l = some (obj .busy none) := pb.same
    have own1 : OwnK D' τ τ1 := (OwnK.refl D' τ).put pb (fun h => (hD' l h).2.2.2.1 rfl)
    refine j_i (fun j => ∀ t : Bool, (t = !okPart a) -> j (some ⟨b3, 0, none⟩) (some ⟨b4, 0, none⟩) (some ⟨b5, 0, none⟩) a t τ1) ?_ ?_
    ·intro t ht
     cases hok : okPart a with
     | false =>
      rw [hok] at ht; subst ht
      refine br_t rfl (round_i xl ?_)
      intro τ2 pr
      refine hT τ2 ⟨p, ?_, pr.get bl3 x3, xp.keep (fun _ h => pr.get bl4 h) (fun _ h => pr.get bl5 h), pr.same⟩ (own1.put pr (fun h => (hD' l h).2.2.2.1 rfl))
      have := C.put _ _ _ _ _ i1 dl pr
      simpa [List.filter_cons, hok] using this
     | true =>
      rw [hok] at ht; subst ht
      refine br_f rfl ?_
      refine j_i (fun j => (∀ τ2 x, I (lasts (a :: r.filter okPart)) τ2 -> OwnK D' τ τ2 -> τ2 b3 = some (.cells ⟨[.func fy ay cy]⟩ 225 (0, 0)) -> τ2 b4 = some (.cells ⟨[.string x]⟩ 9 (0, 0)) -> (∃ u, τ2 b5 = some (.cells ⟨[.bool u]⟩ 4 (0, 0))) -> τ2 l = some (obj .busy none) -> j (some ⟨b4, 0, none⟩) (some ⟨b5, 0, none⟩) a false τ2) /\ (∀ τ2, S τ2 -> OwnK D' τ τ2 -> τ2 l = some (obj .busy none) -> j (some ⟨b4, 0, none⟩) (some ⟨b5, 0, none⟩) a true τ2)) ?_ ?_
      ·refine ⟨?_, ?_⟩
       ·intro τ2 x j1 j2 j3 j4 ⟨u, j5⟩ j6
        refine br_f rfl ?_
        (refine st_i2 (by exact gA) szA (by rfl) (by rfl) ?_; intro _ _)
        rename_i τ3 r3
        have j5' := r3.get n54 j5
        (refine st_i2 (by exact gA) szA (by rfl) (by rfl) ?_; intro _ _)
        rename_i τ4 r4
        have j6' : τ4 l = some (obj .busy none) := r4.get bl5.symm (r3.get bl4.symm j6)
        refine round_i j6' ?_
        intro τ5 r5
        refine hT τ5 ⟨some a, C.put _ _ _ _ _ (C.put _ _ _ _ _ (C.put _ _ _ _ _ j1 d4 r3) d5 r4) dl r5, r5.get bl3 (r4.get n53.symm (r3.get n43.symm j3)), ⟨r5.get bl5 r4.same, r5.get bl4 (r4.get n54.symm r3.same)⟩, r5.same⟩ (((j2.put r3 (fun h => (hD' b4 h).2.1 rfl)).put r4 (fun h => (hD' b5 h).2.2.1 rfl)).put r5 (fun h => (hD' l h).2.2.2.1 rfl))
       ·intro τ2 j1 j2 j6
        refine br_t rfl (round_i j6 ?_)
        intro τ3 r3
        exact hF τ3 ⟨C.putS _ _ _ _ j1 dl r3, r3.same⟩ (j2.put r3 (fun h => (hD' l h).2.2.2.1 rfl))
      ·rintro j ⟨hj1, hj2⟩
       simp only [List.filter_cons, hok, if_true] at i1
       cases p with
       | none =>
        obtain ⟨y5, x, y4⟩ := xp
        (repeat (first|refine ptr_i ?_|refine z2 ?_|(refine al_i ?_;intro _ _ _ _ _)|refine z4 ?_|refine z5 ?_|(refine z6 ?_;intro _ _)|refine app_P ?_|refine app_I ?_|refine app_S ?_|refine app_B ?_|refine app_M ?_|refine app_L ?_|refine app_U ?_|refine app_R ?_|(refine app_of rfl ?_;try dsimp only)))
        exact br_f rfl (hj1 τ1 x i1 own1 x3 y4 ⟨_, y5⟩ xl)
       | some a0 =>
        obtain ⟨y5, y4⟩ := xp
        (repeat (first|refine ptr_i ?_|refine z2 ?_|(refine al_i ?_;intro _ _ _ _ _)|refine z4 ?_|refine z5 ?_|(refine z6 ?_;intro _ _)|refine app_P ?_|refine app_I ?_|refine app_S ?_|refine app_B ?_|refine app_M ?_|refine app_L ?_|refine app_U ?_|refine app_R ?_|(refine app_of rfl ?_;try dsimp only)))
        refine br_t rfl ?_
        (repeat (first|refine ptr_i ?_|refine z2 ?_|(refine al_i ?_;intro _ _ _ _ _)|refine z4 ?_|refine z5 ?_|(refine z6 ?_;intro _ _)|refine app_P ?_|refine app_I ?_|refine app_S ?_|refine app_B ?_|refine app_M ?_|refine app_L ?_|refine app_U ?_|refine app_R ?_|(refine app_of rfl ?_;try dsimp only)))
        refine cvalv_i (C.call (a0, false) _ _ τ1 _ i1 rfl ?_ ?_)
        ·intro τ2 z1 z2
         exact app_B (hj1 τ2 a0 z1 (own1.trans fun b o hb h => z2 b o (hD' b hb).2.2.2.2 h) (z2 _ _ d3 x3) (z2 _ _ d4 y4) ⟨_, z2 _ _ d5 y5⟩ (z2 _ _ dl xl))
        ·intro τ2 z1 z2
         exact app_B (hj2 τ2 z1 (own1.trans fun b o hb h => z2 b o (hD' b hb).2.2.2.2 h) (z2 _ _ dl xl))
    ·intro j hj
     have e := okPart_eq a
     cases h1 : strEq a ⟨⟨[]⟩⟩ with
     | true => exact br_t rfl (hj true (by rw [e, h1]; rfl))
     | false => exact br_f rfl (hj _ (by rw [e, h1]; simp))
  refine x_split1 (c := 47) C' (.inl rfl) (.inr (.inl rfl)) (.inr (.inr rfl)) nq1 nq2 ?_ ?_ v5 v4 v6 hs ?_
  ·rintro τ ⟨p, h1, h3, hp, h5⟩
   refine end_n h5 (by intro h; cases h) ?_
   intro τ1 pr
   simp only [List.filter_nil, List.append_nil] at h1
   exact hj I S _ C hK1 hK2 τ1 p (pr.get bl3 h3) (hp.keep (fun _ h => pr.get bl4 h) (fun _ h => pr.get bl5 h)) (C.put _ _ _ _ _ h1 dl pr)
  ·rintro τ ⟨h1, h5⟩
   refine end_r h5 (by intro h; cases h) ?_
   intro τ1 pr
   exact hK2 τ1 (C.putS _ _ _ _ h1 dl pr)
  ·refine ⟨none, ?_, w3, ⟨w5, _, w4⟩, pl.same⟩
   have := hI0 σ7 hg7 (fun b h => h.2)
   rw [partsB_eq] at this
   exact this
def FsAt (σ : H) (bf : Nat) (A : AT) (B : Nat -> Prop) : Prop := ∃ bt B0, σ bf = some (.cells ⟨[.pointer (some ⟨bt, 0, none⟩)]⟩ 55 (0, 0)) /\ TabAt σ bt A B0 /\ ¬ B0 bf /\ ∀ b, B b ↔ (B0 b \/ b = bf)
section
variable {σ σ' : H} {bf : Nat} {A : AT} {B : Nat -> Prop} {b : Nat} {o : Obj}
theorem FsAt.gr (h : FsAt σ bf A B) (hg : Gr σ σ') : FsAt σ' bf A B := by
 obtain ⟨bt, B0, h1, h2, h3, h4⟩ := h; exact ⟨bt, B0, hg.get h1, h2.gr hg, h3, h4⟩
theorem FsAt.put (h : FsAt σ bf A B) (hp : Put σ b o σ') (hn : ¬ B b) : FsAt σ' bf A B := by
 obtain ⟨bt, B0, h1, h2, h3, h4⟩ := h
 exact ⟨bt, B0, hp.get (fun e => hn ((h4 b).2 (.inr e.symm))) h1, h2.put hp (fun e => hn ((h4 b).2 (.inl e))), h3, h4⟩
theorem FsAt.has (h : FsAt σ bf A B) (hb : B b) : ∃ o, σ b = some o := by
 obtain ⟨bt, B0, h1, h2, h3, h4⟩ := h
 rcases (h4 b).1 hb with e | e
 ·exact h2.some e
 ·subst e; exact ⟨_, h1⟩
theorem FsAt.fresh (h : FsAt σ bf A B) (hb : σ b = none) : ¬ B b := by
 intro hB; obtain ⟨o, ho⟩ := h.has hB; rw [hb] at ho; cases ho
end
def inV (n : IN) : List Value := [.int .i64 n.kind, .int .i64 n.mode, .string n.data, .int .i64 n.links]
section
variable {σ : H} {bt : Nat} {A : AT} {B : Nat -> Prop}
theorem t_Node (h : TabAt σ bt A B) (i : Int) {K : KH} (hK : K (.tuple ⟨[.agg ⟨inV (A.ino i)⟩, .bool (A.get i).isSome]⟩) σ) : callW Tryz.prog 116 [.pointer (some ⟨bt, 0, none⟩), .int .i64 i] K σ := by
 obtain ⟨T, h1, h2, rfl, h4⟩ := h
 refine s_Node h1 i ?_
 have e1 : T.node i = inV (T.abs.ino i) := by
  unfold Tb.node AT.ino; rw [abs_get]; cases T.get i <;> rfl
 have e2 : (T.abs.get i).isSome = (T.get i).isSome := by rw [abs_get]; cases T.get i <;> rfl
 rw [e1, <- e2]; exact hK
theorem t_Find (h : TabAt σ bt A B) (d : Int) (s : ByteArray) {K : KH} (hK : K (.tuple ⟨[.int .i64 ((A.find d s).getD 0), .bool (A.find d s).isSome]⟩) σ) : callW Tryz.prog 158 [.pointer (some ⟨bt, 0, none⟩), .int .i64 d, .string s] K σ := by
 obtain ⟨T, h1, h2, rfl, h4⟩ := h
 rw [abs_find] at hK
 exact s_Find h1 d s hK
theorem t_Up (h : TabAt σ bt A B) (d : Int) {K : KH} (hK : K (.int .i64 (A.upOf d)) σ) : callW Tryz.prog 157 [.pointer (some ⟨bt, 0, none⟩), .int .i64 d] K σ := by
 obtain ⟨T, h1, h2, rfl, h4⟩ := h
 rw [abs_up] at hK
 exact s_Up h1 d hK
end
theorem ino_kind (A : AT) (i : Int) : (A.ino i).kind = A.kind i := by unfold AT.ino AT.kind; cases A.get i <;> rfl
theorem ino_data (A : AT) (i : Int) : (A.ino i).data = A.data i := by unfold AT.ino AT.data; cases A.get i <;> rfl
section
variable {σ : H} {bf : Nat} {A : AT} {B : Nat -> Prop}
theorem s_none (h : FsAt σ bf A B) {K : KH} (hK : K (.bool false) σ) : callW Tryz.prog 135 [.pointer (some ⟨bf, 0, none⟩)] K σ := by
 obtain ⟨bt, B0, h1, h2, h3, h4⟩ := h
 refine c135 _ ?_
 unfold g135
 refine br_f rfl ?_
 (repeat (first|refine ptr_i ?_|refine z2 ?_|(refine al_i ?_;intro _ _ _ _ _)|refine z4 ?_|refine z5 ?_|(refine z6 ?_;intro _ _)|refine app_P ?_|refine app_I ?_|refine app_S ?_|refine app_B ?_|refine app_M ?_|refine app_L ?_|refine app_U ?_|refine app_R ?_|(refine app_of rfl ?_;try dsimp only)))
 exact hK
theorem s_kind (h : FsAt σ bf A B) (i : Int) {K : KH} (hK : K (.int .i64 (A.kind i)) σ) : callW Tryz.prog 139 [.pointer (some ⟨bf, 0, none⟩), .int .i64 i] K σ := by
 obtain ⟨bt, B0, h1, h2, h3, h4⟩ := h
 refine pure_i _ hK (c139 _ _ ?_)
 unfold g139
 (repeat (first|refine ptr_i ?_|refine z2 ?_|(refine al_i ?_;intro _ _ _ _ _)|refine z4 ?_|refine z5 ?_|(refine z6 ?_;intro _ _)|refine app_P ?_|refine app_I ?_|refine app_S ?_|refine app_B ?_|refine app_M ?_|refine app_L ?_|refine app_U ?_|refine app_R ?_|(refine app_of rfl ?_;try dsimp only)))
 refine call_i (t_Node h2 i ?_)
 unfold inV
 rw [ino_kind]
 (repeat (first|refine ptr_i ?_|refine z2 ?_|(refine al_i ?_;intro _ _ _ _ _)|refine z4 ?_|refine z5 ?_|(refine z6 ?_;intro _ _)|refine app_P ?_|refine app_I ?_|refine app_S ?_|refine app_B ?_|refine app_M ?_|refine app_L ?_|refine app_U ?_|refine app_R ?_|(refine app_of rfl ?_;try dsimp only)))
 exact ⟨rfl, by repeat (first | exact Gr.refl _ | assumption | refine Gr.trans ?_ ‹_› | refine Gr.putF ?_ ‹_› (none_of ?_ ‹_›))⟩
end
theorem s_may (path : ByteArray) {σ : H} {K : KH} (hK : K (.int .i64 (mayE path)) σ) : callW Tryz.prog 155 [.string path] K σ := by
 refine c155 _ ?_
 unfold g155
 unfold mayE at hK
 rw [sEq_eq] at hK
 cases h1 : strEq path ⟨⟨[]⟩⟩ with
 | true => rw [h1] at hK; exact br_t rfl hK
 | false =>
  rw [h1] at hK
  refine br_f rfl ?_
  by_cases h2 : path.size > 255
  ·refine br_t (by simp; omega) ?_
   simpa [h2] using hK
  ·refine br_f (by simp; omega) (call_i (iByte _ _ _ ?_))
   intro n hn
   refine app_I ?_
   simp only [h2, if_false, Bool.false_eq_true] at hK
   cases h3 : hasNul path with
   | true =>
    rw [h3] at hn hK
    exact br_t (by simp at hn ⊢; omega) hK
   | false =>
    rw [h3] at hn hK
    exact br_f (by simp at hn ⊢; omega) hK
def plC (p : Pl) : List Value := [.int .i64 p.dir, .string p.name, .int .i64 p.ino, .bool p.there]
theorem sz_place : sizeT Tryz.prog 174 = some 4 := by kernel_rfl
theorem sz_Errno : sizeT Tryz.prog 112 = some 1 := by kernel_rfl
theorem mayE_size {path : ByteArray} (h : mayE path = 0) : path.size <= 255 /\ ∃ c r, path.data.toList = c :: r := by
 unfold mayE at h
 cases h1 : sEq path ⟨⟨[]⟩⟩ with
 | true => rw [h1] at h; simp at h
 | false =>
  rw [h1] at h
  by_cases h2 : path.size > 255
  ·simp [h2] at h
  ·refine ⟨by omega, ?_⟩
   cases hl : path.data.toList with
   | nil =>
    exfalso
    have : sEq path ⟨⟨[]⟩⟩ = true := by unfold sEq; rw [hl]; rfl
    rw [h1] at this; cases this
   | cons c r => exact ⟨c, r, rfl⟩
theorem lasts_cons {names : List ByteArray} {a : ByteArray × Bool} {r : List (ByteArray × Bool)} (h : a :: r = lasts names) : ∃ n rest, names = n :: rest /\ a = (n, rest.isEmpty) /\ r = lasts rest := by
 cases names with
 | nil => cases h
 | cons n rest => simp only [lasts, List.cons.injEq] at h; exact ⟨n, rest, rfl, h.1, h.2⟩
theorem headIs_cons {s : ByteArray} {c d : UInt8} {r : List UInt8} (h : s.data.toList = d :: r) : headIs c s = (d == c) := by unfold headIs; rw [h]
theorem byte_eq (c d : UInt8) : (((c.toNat : Int) : Int) == (d.toNat : Int)) = (c == d) := by
 cases h : (c == d) with
 | true => have := eq_of_beq h; subst this; simp
 | false =>
  have : c ≠ d := by simpa using h
  simp only [beq_eq_false_iff_ne]
  intro e
  exact this (UInt8.toNat_inj.1 (by omega))
structure WkBase (σ : H) (bf bh b6 b7 b8 b9 b10 : Nat) (A : AT) (B : Nat -> Prop) (follow : Bool) (τ : H) : Prop where
 fs : FsAt τ bf A B
 k6 : τ b6 = some (.cells ⟨[.pointer (some ⟨bf, 0, none⟩)]⟩ 24 (0, 0))
 k7 : τ b7 = some (.cells ⟨[.bool follow]⟩ 4 (0, 0))
 k8 : τ b8 = some (.cells ⟨[.pointer (some ⟨bh, 0, none⟩)]⟩ 195 (0, 0))
 k9 : τ b9 = some (.cells ⟨[.int .i64 0, .string ⟨⟨[]⟩⟩, .int .i64 0, .bool false]⟩ 174 (0, 0))
 k10 : τ b10 = some (.cells ⟨[.int .i64 0]⟩ 112 (0, 0))
 keep : ∀ b o, b ≠ bh -> σ b = some o -> τ b = some o
section
variable {σ τ τ' : H} {bf bh b6 b7 b8 b9 b10 : Nat} {A : AT} {B : Nat -> Prop} {follow : Bool} {b : Nat} {o : Obj}
theorem WkBase.gr (h : WkBase σ bf bh b6 b7 b8 b9 b10 A B follow τ) (hg : Gr τ τ') : WkBase σ bf bh b6 b7 b8 b9 b10 A B follow τ' :=
 ⟨h.fs.gr hg, hg.get h.k6, hg.get h.k7, hg.get h.k8, hg.get h.k9, hg.get h.k10, fun b o h1 h2 => hg.get (h.keep b o h1 h2)⟩
theorem WkBase.put (h : WkBase σ bf bh b6 b7 b8 b9 b10 A B follow τ) (hp : Put τ b o τ') (n : b ≠ b6 /\ b ≠ b7 /\ b ≠ b8 /\ b ≠ b9 /\ b ≠ b10) (hB : ¬ B b) (hs : b ≠ bh -> σ b = none) : WkBase σ bf bh b6 b7 b8 b9 b10 A B follow τ' :=
 ⟨h.fs.put hp hB, hp.get n.1.symm h.k6, hp.get n.2.1.symm h.k7, hp.get n.2.2.1.symm h.k8, hp.get n.2.2.2.1.symm h.k9, hp.get n.2.2.2.2.symm h.k10, fun c oc h1 h2 => hp.get (fun e => by subst e; rw [hs h1] at h2; cases h2) (h.keep c oc h1 h2)⟩
end
theorem gr_of_keep {σ τ : H} {bh : Nat} {o : Obj} (h1 : τ bh = some o) (h2 : ∀ b o, b ≠ bh -> σ b = some o -> τ b = some o) : Gr (σ.put bh o) τ := by
 unfold Gr
 intro b ob hb
 by_cases e : b = bh
 ·subst e; rw [H.put_same] at hb; cases hb; exact h1
 ·rw [H.put_other _ _ e] at hb; exact h2 b ob e hb
set_option maxHeartbeats 1000000 in
theorem s_walk {A : AT} : ∀ (f : Nat) {σ : H} {bf : Nat} {B : Nat -> Prop} (_ : FsAt σ bf A B) (at_ : Int) (path : ByteArray) (follow : Bool) {bh : Nat} {h : Int} (_ : σ bh = some (.cells ⟨[.int .i64 h]⟩ 3 (0, 0))) (_ : ¬ B bh) (_ : 0 <= h) (_ : h < f) (_ : h <= 100) {K : KH}
 (_ : ∀ σ', Put σ bh (.cells ⟨[.int .i64 (A.walk f at_ path follow h).2.2]⟩ 3 (0, 0)) σ' -> K (.tuple ⟨[.agg ⟨plC (A.walk f at_ path follow h).2.1⟩, .int .i64 (A.walk f at_ path follow h).1]⟩) σ'),
 callW Tryz.prog 138 [.pointer (some ⟨bf, 0, none⟩), .int .i64 at_, .string path, .bool follow, .pointer (some ⟨bh, 0, none⟩)] K σ := by
 intro f
 induction f with
 | zero => intro σ bf B hF at_ path follow bh h hh hb h0 h1; omega
 | succ f ihf =>
  intro σ bf B hF at_ path follow bh h hh hb h0 h1 h100 K hK
  refine callW.pureP ?_ hK
  clear hK
  refine c138 _ _ _ _ _ ?_
  unfold g138
  refine al_i ?_; intro b6 σ1 g1 e1 n1
  refine al_i ?_; intro b7 σ2 g2 e2 n2
  refine al_i ?_; intro b8 σ3 g3 e3 n3
  refine al_i ?_; intro b9 σ4 g4 e4 n4
  refine al_i ?_; intro b10 σ5 g5 e5 n5
  have hg5 : Lng σ σ5 := ⟨by repeat (first | exact Gr.refl _ | assumption | refine Gr.trans ?_ ‹_› | refine Gr.putF ?_ ‹_› (none_of ?_ ‹_›))⟩
  refine call_i (s_may path (app_I ?_))
  have hsame : σ.put bh (.cells ⟨[.int .i64 h]⟩ 3 (0, 0)) = σ := by
   funext k
   by_cases e : k = bh
   ·subst e; rw [H.put_same, hh]
   ·rw [H.put_other _ _ e]
  rw [AT.walk]
  by_cases hm : mayE path = 0
  case neg =>
   rw [if_pos hm]
   refine br_t (by simpa using hm) ?_
   (refine st_i2 (by exact gA) szA (by rfl) (by rfl) ?_; intro _ _)
   rename_i σ6 p6
   have n910 : b10 ≠ b9 := (ne_fr n5 (by repeat (first | exact io ‹_› | exact mS ‹_› | refine gS ‹_› ?_ | refine pS ‹_› ?_))).symm
   have e5' := p6.get n910 e5
   (refine st_i2 (by exact gA) szA (by rfl) (by rfl) ?_; intro _ _)
   rename_i σ7 p7
   have e9 := p7.get n910.symm p6.same
   have e10 := p7.same
   refine rd_G (rdA_of' e9 (by rfl)) ?_
   show _ 
   (refine app_of rfl ?_; try dsimp only)
   refine rd_I (rdC_of e10 (by rfl)) ?_
   refine ⟨rfl, ?_⟩
   rw [hsame]
   exact (hg5.gr.putF p6 (none_of (by repeat (first | exact Gr.refl _ | assumption | refine Gr.trans ?_ ‹_› | refine Gr.putF ?_ ‹_› (none_of ?_ ‹_›))) n4)).putF p7 (none_of (by repeat (first | exact Gr.refl _ | assumption | refine Gr.trans ?_ ‹_› | refine Gr.putF ?_ ‹_› (none_of ?_ ‹_›))) n5)
  rw [if_neg (by simpa using hm)]
  refine br_f (by simpa using hm) ?_
  obtain ⟨hsz, c, cr, hl⟩ := mayE_size hm
  have hc47 : ((c.toNat : Int) == 47) = (c == 47) := byte_eq c 47
  have k6 : σ5 b6 = some (.cells ⟨[.pointer (some ⟨bf, 0, none⟩)]⟩ 24 (0, 0)) := by exact gA
  have k7 : σ5 b7 = some (.cells ⟨[.bool follow]⟩ 4 (0, 0)) := by exact gA
  have k8 : σ5 b8 = some (.cells ⟨[.pointer (some ⟨bh, 0, none⟩)]⟩ 195 (0, 0)) := by exact gA
  have k9 : σ5 b9 = some (.cells ⟨[.int .i64 0, .string ⟨⟨[]⟩⟩, .int .i64 0, .bool false]⟩ 174 (0, 0)) := by exact gA
  have k10 : σ5 b10 = some (.cells ⟨[.int .i64 0]⟩ 112 (0, 0)) := by exact gA
  have f6 : σ b6 = none := n1
  have f7 : σ b7 = none := none_of (by repeat (first | exact Gr.refl _ | assumption | refine Gr.trans ?_ ‹_› | refine Gr.putF ?_ ‹_› (none_of ?_ ‹_›))) n2
  have f8 : σ b8 = none := none_of (by repeat (first | exact Gr.refl _ | assumption | refine Gr.trans ?_ ‹_› | refine Gr.putF ?_ ‹_› (none_of ?_ ‹_›))) n3
  have f9 : σ b9 = none := none_of (by repeat (first | exact Gr.refl _ | assumption | refine Gr.trans ?_ ‹_› | refine Gr.putF ?_ ‹_› (none_of ?_ ‹_›))) n4
  have f10 : σ b10 = none := none_of (by repeat (first | exact Gr.refl _ | assumption | refine Gr.trans ?_ ‹_› | refine Gr.putF ?_ ‹_› (none_of ?_ ‹_›))) n5
  have hhs : (σ bh).isSome = true := isSome_of hh
  have h6 : bh ≠ b6 := ne_fr f6 hhs
  have h7 : bh ≠ b7 := ne_fr f7 hhs
  have h8 : bh ≠ b8 := ne_fr f8 hhs
  have h9 : bh ≠ b9 := ne_fr f9 hhs
  have h10 : bh ≠ b10 := ne_fr f10 hhs
  have n910 : b10 ≠ b9 := (ne_fr n5 (by repeat (first | exact io ‹_› | exact mS ‹_› | refine gS ‹_› ?_ | refine pS ‹_› ?_))).symm
  clear e1 e2 e3 e4 e5 g1 g2 g3 g4 g5 n1 n2 n3 n4 n5
  have hbase5 : WkBase σ bf bh b6 b7 b8 b9 b10 A B follow σ5 := ⟨hF.gr hg5.gr, k6, k7, k8, k9, k10, fun b o _ hb => hg5.gr.get hb⟩
  have hh5 := hg5.gr.get hh
  refine j_i (fun j => ∀ a : Int, a = (if headIs 47 path then 1 else at_) -> j a path (some ⟨b6, 0, none⟩) (some ⟨b7, 0, none⟩) (some ⟨b8, 0, none⟩) (some ⟨b9, 0, none⟩) (some ⟨b10, 0, none⟩) σ5) ?_ ?_
  case refine_2 =>
   intro j hj
   refine idx_l (c := c) (by decide) (by rw [hl]; rfl) ?_
   rw [hc47]
   rw [headIs_cons hl] at hj
   cases hc : (c == 47) with
   | true =>
    obtain ⟨bt, B0, q1, q2, q3, q4⟩ := hF
    have q1' := hg5.gr.get q1
    refine br_t rfl ?_
    (repeat (first|refine ptr_i ?_|refine z2 ?_|(refine al_i ?_;intro _ _ _ _ _)|refine z4 ?_|refine z5 ?_|(refine z6 ?_;intro _ _)|refine app_P ?_|refine app_I ?_|refine app_S ?_|refine app_B ?_|refine app_M ?_|refine app_L ?_|refine app_U ?_|refine app_R ?_|(refine app_of rfl ?_;try dsimp only)))
    exact call_i (s_Root _ (app_I (hj 1 (by rw [hc]; rfl))))
   | false => exact br_f rfl (hj at_ (by rw [hc]; rfl))
  intro a ha
  rw [<- ha]
  refine al_i ?_; intro b25 σ6 g6 e6 n6
  have f25 : σ b25 = none := none_of hg5.gr n6
  have m25 : b25 ≠ b6 /\ b25 ≠ b7 /\ b25 ≠ b8 /\ b25 ≠ b9 /\ b25 ≠ b10 := ⟨(ne_fr n6 (isSome_of k6)).symm, (ne_fr n6 (isSome_of k7)).symm, (ne_fr n6 (isSome_of k8)).symm, (ne_fr n6 (isSome_of k9)).symm, (ne_fr n6 (isSome_of k10)).symm⟩
  have h25 : bh ≠ b25 := ne_fr f25 hhs
  have B25 : ¬ B b25 := hF.fresh f25
  (refine st_i2 (by exact gA) szA (by rfl) (by rfl) ?_; intro _ _)
  rename_i σ7 p7
  have hbase7 : WkBase σ bf bh b6 b7 b8 b9 b10 A B follow σ7 := (hbase5.gr g6).put p7 m25 B25 (fun _ => f25)
  have hh7 := p7.get h25 (g6.get hh5)
  have e25 : σ7 b25 = some (.cells ⟨plC ⟨a, ⟨⟨[]⟩⟩, a, true⟩⟩ 174 (0, 0)) := p7.same
  clear p7 e6
  generalize hres : A.steps (fun d s h' => A.walk f d s true h') follow (partsB path) ⟨a, ⟨⟨[]⟩⟩, a, true⟩ h = res
  refine j_i (fun j => ∀ τ p h', res = (0, p, h') -> WkBase σ bf bh b6 b7 b8 b9 b10 A B follow τ -> τ b25 = some (.cells ⟨plC p⟩ 174 (0, 0)) -> τ bh = some (.cells ⟨[.int .i64 h']⟩ 3 (0, 0)) -> j (some ⟨b9, 0, none⟩) (some ⟨b10, 0, none⟩) (some ⟨b25, 0, none⟩) τ) ?_ ?_
  ·intro τ p h' hr hbs ep eh
   unfold plC at ep
   have y9 := hbs.k9
   have y10 := hbs.k10
   refine ptr_i ?_
   refine rd_G (rdA_of' ep (by rfl)) ?_
   (refine app_of rfl ?_; try dsimp only)
   (refine st_i2 (by exact gA) szA (by rfl) (by rfl) ?_; intro _ _)
   rename_i τ1 r1
   have y10' := r1.get n910 y10
   (refine st_i2 (by exact gA) szA (by rfl) (by rfl) ?_; intro _ _)
   rename_i τ2 r2
   have z9 := r2.get n910.symm r1.same
   have z10 := r2.same
   refine ptr_i (rd_G (rdA_of' z9 (by rfl)) ?_)
   (refine app_of rfl ?_; try dsimp only)
   refine ptr_i (rd_I (rdC_of z10 (by rfl)) ?_)
   rw [hr]
   refine ⟨rfl, gr_of_keep (r2.get h10 (r1.get h9 eh)) (fun b o hn hb => r2.get ?_ (r1.get ?_ (hbs.keep b o hn hb)))⟩
   ·intro e; subst e; rw [f10] at hb; cases hb
   ·intro e; subst e; rw [f9] at hb; cases hb
  intro j26 hj26
  refine call_i (x_names path ?_)
  intro b2 σ8 g8 n8 e8
  refine app_R (fun_i ?_)
  refine rf_i go_names1 ?_
  intro l obj σ9 nl pl hobj hY
  have hbase8 := hbase7.gr g8
  have fl : σ l = none := by
   cases hx : σ l with
   | none => rfl
   | some o =>
    exfalso
    by_cases e : l = bh
    ·subst e; have := g8.get hh7; rw [nl] at this; cases this
    ·have := hbase8.keep l o e hx; rw [nl] at this; cases this
  have ml : l ≠ b6 /\ l ≠ b7 /\ l ≠ b8 /\ l ≠ b9 /\ l ≠ b10 := ⟨(ne_fr nl (isSome_of hbase8.k6)).symm, (ne_fr nl (isSome_of hbase8.k7)).symm, (ne_fr nl (isSome_of hbase8.k8)).symm, (ne_fr nl (isSome_of hbase8.k9)).symm, (ne_fr nl (isSome_of hbase8.k10)).symm⟩
  have hl' : bh ≠ l := ne_fr fl hhs
  have Bl : ¬ B l := hF.fresh fl
  have l25 : b25 ≠ l := ne_fr nl (isSome_of (g8.get e25))
  have lb2 : b2 ≠ l := ne_fr nl (isSome_of e8)
  have hbase9 := hbase8.put pl ml Bl (fun _ => fl)
  have hh9 := pl.get hl' (g8.get hh7)
  have e25' := pl.get l25 (g8.get e25)
  refine x_names1 (pl.get lb2 e8) (by omega) ?_
  intro D hD
  have hD' : ∀ b, D b -> (b ≠ b6 /\ b ≠ b7 /\ b ≠ b8 /\ b ≠ b9 /\ b ≠ b10) /\ b ≠ b25 /\ b ≠ l /\ b ≠ bh /\ ¬ B b /\ σ b = none := by
   intro b hb
   have hn := hD b hb
   have fb : σ b = none := by
    cases hx : σ b with
    | none => rfl
    | some o =>
     exfalso
     by_cases e : b = bh
     ·subst e; rw [hn] at hh9; cases hh9
     ·have := hbase9.keep b o e hx; rw [hn] at this; cases this
   exact ⟨⟨(ne_fr hn (isSome_of hbase9.k6)).symm, (ne_fr hn (isSome_of hbase9.k7)).symm, (ne_fr hn (isSome_of hbase9.k8)).symm, (ne_fr hn (isSome_of hbase9.k9)).symm, (ne_fr hn (isSome_of hbase9.k10)).symm⟩, (ne_fr hn (isSome_of e25')).symm, (ne_fr hn (isSome_of pl.same)).symm, (ne_fr hn (isSome_of hh9)).symm, hF.fresh fb, fb⟩
  let I : List (ByteArray × Bool) -> H -> Prop := fun r τ => ∃ names p h', r = lasts names /\ A.steps (fun d s h' => A.walk f d s true h') follow names p h' = res /\ 0 <= h' /\ h' <= h /\ WkBase σ bf bh b6 b7 b8 b9 b10 A B follow τ /\ τ b25 = some (.cells ⟨plC p⟩ 174 (0, 0)) /\ τ bh = some (.cells ⟨[.int .i64 h']⟩ 3 (0, 0)) /\ τ l = some (obj .ready none) /\ ∀ b, D b -> (τ b).isSome = true
  let S : H -> Prop := fun τ => ∃ e h', res = (e, Pl.z, h') /\ τ b9 = some (.cells ⟨plC Pl.z⟩ 174 (0, 0)) /\ τ b10 = some (.cells ⟨[.int .i64 e]⟩ 112 (0, 0)) /\ τ bh = some (.cells ⟨[.int .i64 h']⟩ 3 (0, 0)) /\ τ l = some (obj .done (some .ret)) /\ ∀ b o, b ≠ bh -> σ b = some o -> τ b = some o
  refine ⟨I, S, ⟨?_, ?_, ?_, ?_, ?_⟩, ?_, ?_, ?_⟩
  ·rintro r τ b o τ' ⟨names, p, h', y1, y2, y3, y4, y5, y6, y7, y8, y9⟩ hb hp
   obtain ⟨a1, a2, a3, a4, a5, a6⟩ := hD' b hb
   exact ⟨names, p, h', y1, y2, y3, y4, y5.put hp a1 a5 (fun _ => a6), hp.get a2.symm y6, hp.get a4.symm y7, hp.get a3.symm y8, fun c hc => hp.isSome (y9 c hc)⟩
  ·rintro τ b o τ' ⟨e, h', y1, y2, y3, y4, y5, y6⟩ hb hp
   obtain ⟨a1, a2, a3, a4, a5, a6⟩ := hD' b hb
   exact ⟨e, h', y1, hp.get a1.2.2.2.1.symm y2, hp.get a1.2.2.2.2.symm y3, hp.get a4.symm y4, hp.get a3.symm y5, fun c oc h1 h2 => hp.get (fun e => by subst e; rw [a6] at h2; cases h2) (y6 c oc h1 h2)⟩
  ·rintro r τ τ' ⟨names, p, h', y1, y2, y3, y4, y5, y6, y7, y8, y9⟩ hg
   exact ⟨names, p, h', y1, y2, y3, y4, y5.gr hg, hg.get y6, hg.get y7, hg.get y8, fun c hc => hg.isSome (y9 c hc)⟩
  ·rintro τ τ' ⟨e, h', y1, y2, y3, y4, y5, y6⟩ hg
   exact ⟨e, h', y1, hg.get y2, hg.get y3, hg.get y4, hg.get y5, fun c oc h1 h2 => hg.get (y6 c oc h1 h2)⟩
  ·rintro it r args τ K' ⟨names, p, h', y1, y2, y3, y4, y5, y6, y7, y8, y9⟩ rfl hT hFa
   obtain ⟨nm, rest, rfl, rfl, rfl⟩ := lasts_cons y1
   refine yv_call (hY _ _ _ ⟨y8, ?_⟩)
   show begW l obj _ τ
   refine beg_i y8 ?_
   intro τ1 pb
   have z5 := y5.put pb ml Bl (fun _ => fl)
   have z6 := pb.get l25 y6
   have z7 := pb.get hl' y7
   have z8 : τ1 l = some (obj .busy none) := pb.same
   have nDl : ¬ D l := fun hd => (hD' l hd).2.2.1 rfl
   have nD25 : ¬ D b25 := fun hd => (hD' b25 hd).2.1 rfl
   have nDh : ¬ D bh := fun hd => (hD' bh hd).2.2.2.1 rfl
   have nD9 : ¬ D b9 := fun hd => (hD' b9 hd).1.2.2.2.1 rfl
   have nD10 : ¬ D b10 := fun hd => (hD' b10 hd).1.2.2.2.2 rfl
   have own1 : OwnK D τ τ1 := (OwnK.refl D τ).put pb nDl
   clear y5 y6 y7 y8 y1 pb hbase9 hbase8 hbase7 hbase5
   have herr : ∀ τ2 (e h2 : Int), WkBase σ bf bh b6 b7 b8 b9 b10 A B follow τ2 -> τ2 bh = some (.cells ⟨[.int .i64 h2]⟩ 3 (0, 0)) -> τ2 l = some (obj .busy none) -> res = (e, Pl.z, h2) -> OwnK D τ τ2 ->
    stW Tryz.prog 174 (.pointer (some ⟨b9, 0, none⟩)) (.agg ⟨[.int .i64 0, .string ⟨⟨[]⟩⟩, .int .i64 0, .bool false]⟩) (stW Tryz.prog 112 (.pointer (some ⟨b10, 0, none⟩)) (.int .i64 e) (roundK l obj K' (some .ret) false .done)) τ2 := by
    intro τ2 e h2 q1 q2 q3 q4 q5
    have v9 := q1.k9
    have v10 := q1.k10
    (refine st_i2 (by exact gA) szA (by rfl) (by rfl) ?_; intro _ _)
    rename_i τ3 r3
    have v10' := r3.get n910 v10
    (refine st_i2 (by exact gA) szA (by rfl) (by rfl) ?_; intro _ _)
    rename_i τ4 r4
    refine round_i (r4.get ml.2.2.2.2 (r3.get ml.2.2.2.1 q3)) ?_
    intro τ5 r5
    refine hFa τ5 ⟨e, h2, q4, r5.get ml.2.2.2.1.symm (r4.get n910.symm r3.same), r5.get ml.2.2.2.2.symm r4.same, r5.get hl' (r4.get h10 (r3.get h9 q2)), r5.same, fun b o hn hb => r5.get ?_ (r4.get ?_ (r3.get ?_ (q1.keep b o hn hb)))⟩ (((q5.put r3 nD9).put r4 nD10).put r5 nDl)
    ·intro e; subst e; rw [fl] at hb; cases hb
    ·intro e; subst e; rw [f10] at hb; cases hb
    ·intro e; subst e; rw [f9] at hb; cases hb
   have hnext : ∀ τ2 (q : Pl) (h2 : Int), WkBase σ bf bh b6 b7 b8 b9 b10 A B follow τ2 -> τ2 b25 = some (.cells ⟨plC q⟩ 174 (0, 0)) -> τ2 bh = some (.cells ⟨[.int .i64 h2]⟩ 3 (0, 0)) -> τ2 l = some (obj .busy none) -> A.steps (fun d s h' => A.walk f d s true h') follow rest q h2 = res -> 0 <= h2 -> h2 <= h -> OwnK D τ τ2 -> roundK l obj K' none true .ready τ2 := by
    intro τ2 q h2 q1 q2 q3 q4 q5 q6 q7 q8
    refine round_i q4 ?_
    intro τ3 r3
    exact hT τ3 ⟨rest, q, h2, rfl, q5, q6, q7, q1.put r3 ml Bl (fun _ => fl), r3.get l25 q2, r3.get hl' q3, r3.same, fun c hc => r3.isSome (by obtain ⟨o, ho⟩ := Option.isSome_iff_exists.1 (y9 c hc); exact isSome_of (q8 c o hc ho))⟩ (q8.put r3 nDl)
   clear hT hFa
   unfold plC at z6
   refine rd_B (rdC_of z6 (by rfl)) ?_
   cases ht : p.there with
   | false =>
    rw [steps_none ht] at y2
    exact br_t rfl (herr τ1 5 h' z5 z7 z8 y2.symm own1)
   | true =>
    rw [ht] at z6
    refine br_f rfl (ptr_i (rd_P (rdC_of z5.k6 (by rfl)) ?_))
    refine rd_I (rdC_of z6 (by rfl)) ?_
    refine call_i (s_kind z5.fs _ (app_I ?_))
    by_cases h2 : A.kind p.ino = 2
    case neg =>
     rw [steps_notdir ht h2] at y2
     exact br_t (by simpa using h2) (herr τ1 8 h' z5 z7 z8 y2.symm own1)
    refine br_f (by simpa using h2) ?_
    obtain ⟨bt, B0, t1, t2, t3, t4⟩ := z5.fs
    cases h3 : strEq nm ⟨⟨[46, 46]⟩⟩ with
    | true =>
     rw [steps_up ht h2 (by rw [sEq_eq]; exact h3)] at y2
     refine br_t rfl (ptr_i (rd_P (rdC_of z5.k6 (by rfl)) (ptr_i (rd_P (rdC_of t1 (by rfl)) (rd_I (rdC_of z6 (by rfl)) ?_)))))
     refine call_i (t_Up t2 _ (app_I ?_))
     (refine st_i2 (by exact gA) szA (by rfl) (by rfl) ?_; intro _ _)
     rename_i τ2 r2
     exact hnext τ2 ⟨A.upOf p.ino, ⟨⟨[]⟩⟩, A.upOf p.ino, true⟩ h' (z5.put r2 m25 B25 (fun _ => f25)) r2.same (r2.get h25 z7) (r2.get l25.symm z8) y2 y3 y4 (own1.put r2 nD25)
    | false =>
     have h3' : sEq nm ⟨⟨[46, 46]⟩⟩ = false := by rw [sEq_eq]; exact h3
     refine br_f rfl ?_
     by_cases h4 : nm.size > 56
     ·rw [steps_long ht h2 h3' h4] at y2
      exact br_t (by simp; omega) (herr τ1 3 h' z5 z7 z8 y2.symm own1)
     refine br_f (by simp; omega) (rd_I (rdC_of z6 (by rfl)) ?_)
     (refine st_i2 (by exact gA) szA (by rfl) (by rfl) ?_; intro _ _)
     rename_i τ2 r2
     have u5 := z5.put r2 m25 B25 (fun _ => f25)
     have u7 := r2.get h25 z7
     have u8 := r2.get l25.symm z8
     have own2 := own1.put r2 nD25
     obtain ⟨bt, B0, t1, t2, t3, t4⟩ := u5.fs
     refine ptr_i (rd_P (rdC_of u5.k6 (by rfl)) (ptr_i (rd_P (rdC_of t1 (by rfl)) (rd_I (rdC_of r2.same (by rfl)) ?_))))
     refine call_i (t_Find t2 _ _ (app_IB ?_))
     have u6 := r2.same
     (refine st_i2 (by exact gA) szA (by rfl) (by rfl) ?_; intro _ _)
     rename_i τ3 r3
     have u6' := r3.same
     (refine st_i2 (by exact gA) szA (by rfl) (by rfl) ?_; intro _ _)
     rename_i τ4 r4
     have v5 := (u5.put r3 m25 B25 (fun _ => f25)).put r4 m25 B25 (fun _ => f25)
     have v7 := r4.get h25 (r3.get h25 u7)
     have v8 := r4.get l25.symm (r3.get l25.symm u8)
     have own4 := (own2.put r3 nD25).put r4 nD25
     have v6 : τ4 b25 = some (.cells ⟨plC ⟨p.ino, nm, (A.find p.ino nm).getD 0, (A.find p.ino nm).isSome⟩⟩ 174 (0, 0)) := r4.same
     clear u5 u7 u8 u6 u6' own2 r2 r3 r4 z5 z7 z8 own1 t1 t2 t3 t4
     refine j_i (fun j => ((A.find p.ino nm).isSome = false \/ (rest.isEmpty && !follow) = true \/ A.kind ((A.find p.ino nm).getD 0) ≠ 3 -> j (some ⟨b6, 0, none⟩) (some ⟨b8, 0, none⟩) (some ⟨b9, 0, none⟩) (some ⟨b10, 0, none⟩) (some ⟨b25, 0, none⟩) true τ4) /\ (¬ ((A.find p.ino nm).isSome = false \/ (rest.isEmpty && !follow) = true \/ A.kind ((A.find p.ino nm).getD 0) ≠ 3) -> j (some ⟨b6, 0, none⟩) (some ⟨b8, 0, none⟩) (some ⟨b9, 0, none⟩) (some ⟨b10, 0, none⟩) (some ⟨b25, 0, none⟩) false τ4)) ?_ ?_
     ·refine ⟨fun h5 => ?_, fun h5 => ?_⟩
      ·rw [steps_name ht h2 h3' h4 h5] at y2
       exact br_t rfl (hnext τ4 _ h' v5 v6 v7 v8 y2 y3 y4 own4)
      ·refine br_f rfl (ptr_i (rd_P (rdC_of v5.k8 (by rfl)) (ptr_i (rd_I (rdC_of v7 (by rfl)) (ptr_i ?_)))))
       (refine st_i2 (by exact gA) szA (by rfl) (by rfl) ?_; intro _ _)
       rename_i τ5 r5
       have w1 : IntKind.i64.wrap (h' - 1) = h' - 1 := wrap_id (by omega) (by omega)
       rw [w1] at r5
       have w5 := v5.put r5 ⟨h6, h7, h8, h9, h10⟩ hb (fun e => absurd rfl e)
       have w7 : τ5 bh = some (.cells ⟨[.int .i64 (h' - 1)]⟩ 3 (0, 0)) := r5.same
       have w8 := r5.get hl'.symm v8
       have w6 := r5.get h25.symm v6
       have own5 := own4.put r5 nDh
       refine ptr_i (rd_P (rdC_of w5.k8 (by rfl)) (ptr_i (rd_I (rdC_of w7 (by rfl)) ?_)))
       by_cases hz : h' - 1 < 0
       ·rw [steps_loop ht h2 h3' h4 h5 hz] at y2
        exact br_t (by simpa using hz) (herr τ5 9 (h' - 1) w5 w7 w8 y2.symm own5)
       refine br_f (by simpa using hz) ?_
       obtain ⟨bt, B0, t1, t2, t3, t4⟩ := w5.fs
       refine ptr_i (rd_P (rdC_of w5.k6 (by rfl)) (ptr_i (rd_P (rdC_of t1 (by rfl)) (ptr_i (rd_I (rdC_of w6 (by rfl)) ?_)))))
       refine call_i (t_Node t2 _ ?_)
       unfold inV
       (refine app_of rfl ?_; try dsimp only)
       refine al_i ?_; intro b110 τ6 g6' e110 n110
       have n110' : σ b110 = none := by
        cases hx : σ b110 with
        | none => rfl
        | some o =>
         exfalso
         by_cases e : b110 = bh
         ·subst e; rw [n110] at w7; cases w7
         ·have := w5.keep b110 o e hx; rw [n110] at this; cases this
       (refine st_i2 (by exact gA) szA (by rfl) (by rfl) ?_; intro _ _)
       rename_i τ7 r7
       have mm : b110 ≠ b6 /\ b110 ≠ b7 /\ b110 ≠ b8 /\ b110 ≠ b9 /\ b110 ≠ b10 := ⟨(ne_fr n110 (isSome_of w5.k6)).symm, (ne_fr n110 (isSome_of w5.k7)).symm, (ne_fr n110 (isSome_of w5.k8)).symm, (ne_fr n110 (isSome_of w5.k9)).symm, (ne_fr n110 (isSome_of w5.k10)).symm⟩
       have q5 := (w5.gr g6').put r7 mm (hF.fresh n110') (fun _ => n110')
       have m25' : b25 ≠ b110 := ne_fr n110 (isSome_of w6)
       have mh : bh ≠ b110 := ne_fr n110 (isSome_of w7)
       have mL : l ≠ b110 := ne_fr n110 (isSome_of w8)
       have q6 := r7.get m25' (g6'.get w6)
       have q7 := r7.get mh (g6'.get w7)
       have q8 := r7.get mL (g6'.get w8)
       have nD110 : ¬ D b110 := by
        intro hd
        obtain ⟨o, ho⟩ := Option.isSome_iff_exists.1 (y9 _ hd)
        have := own5 _ _ hd ho
        rw [n110] at this; cases this
       have own7 := (own5.trans (OwnK.gr g6')).put r7 nD110
       have q110 : τ7 b110 = some (.cells ⟨[.int .i64 (A.ino ((A.find p.ino nm).getD 0)).kind, .int .i64 (A.ino ((A.find p.ino nm).getD 0)).mode, .string (A.ino ((A.find p.ino nm).getD 0)).data, .int .i64 (A.ino ((A.find p.ino nm).getD 0)).links]⟩ 65 (0, 0)) := r7.same
       unfold plC at q6
       refine ptr_i (rd_P (rdC_of q5.k6 (by rfl)) (ptr_i (rd_I (rdC_of q6 (by rfl)) (rd_S (rdC_of q110 (by rfl)) (ptr_i (rd_P (rdC_of q5.k8 (by rfl)) ?_))))))
       rw [ino_data]
       have hw := walk_hops A f p.ino (A.data ((A.find p.ino nm).getD 0)) true (h' - 1) (by omega)
       refine call_i (ihf q5.fs _ _ _ q7 hb (by omega) (by omega) (by omega) ?_)
       intro τ8 r8
       have x5 := q5.put r8 ⟨h6, h7, h8, h9, h10⟩ hb (fun e => absurd rfl e)
       have x6 := r8.get h25.symm q6
       have x7 := r8.same
       have x8 := r8.get hl'.symm q8
       have own8 := own7.put r8 nDh
       clear q5 q6 q7 q8 own7 r8 r7 w5 w6 w7 w8 v5 v6 v7 v8 q110
       unfold plC
       (refine app_of rfl ?_; try dsimp only)
       refine al_i ?_; intro b126 τ9 g9 e126 n126
       (refine st_i2 (by exact gA) szA (by rfl) (by rfl) ?_; intro _ _)
       rename_i τ10 r10
       have n126' : σ b126 = none := by
        cases hx : σ b126 with
        | none => rfl
        | some o =>
         exfalso
         by_cases e : b126 = bh
         ·subst e; rw [n126] at x7; cases x7
         ·have := x5.keep b126 o e hx; rw [n126] at this; cases this
       have mm' : b126 ≠ b6 /\ b126 ≠ b7 /\ b126 ≠ b8 /\ b126 ≠ b9 /\ b126 ≠ b10 := ⟨(ne_fr n126 (isSome_of x5.k6)).symm, (ne_fr n126 (isSome_of x5.k7)).symm, (ne_fr n126 (isSome_of x5.k8)).symm, (ne_fr n126 (isSome_of x5.k9)).symm, (ne_fr n126 (isSome_of x5.k10)).symm⟩
       have nD126 : ¬ D b126 := by
        intro hd
        obtain ⟨o, ho⟩ := Option.isSome_iff_exists.1 (y9 _ hd)
        have := own8 _ _ hd ho
        rw [n126] at this; cases this
       have a5 := (x5.gr g9).put r10 mm' (hF.fresh n126') (fun _ => n126')
       have a6 := r10.get (ne_fr n126 (isSome_of x6)) (g9.get x6)
       have a7 := r10.get (ne_fr n126 (isSome_of x7)) (g9.get x7)
       have a8 := r10.get (ne_fr n126 (isSome_of x8)) (g9.get x8)
       have own10 := (own8.trans (OwnK.gr g9)).put r10 nD126
       by_cases he : (A.walk f p.ino (A.data ((A.find p.ino nm).getD 0)) true (h' - 1)).1 = 0
       ·rw [steps_link ht h2 h3' h4 h5 hz he] at y2
        refine br_f (by simpa using he) ?_
        refine rd_G (rdA_of' r10.same (by rfl)) ?_
        (refine app_of rfl ?_; try dsimp only)
        (refine st_i2 (by exact gA) szA (by rfl) (by rfl) ?_; intro _ _)
        rename_i τ11 r11
        exact hnext τ11 _ _ (a5.put r11 m25 B25 (fun _ => f25)) r11.same (r11.get h25 a7) (r11.get l25.symm a8) y2 (hw.2.2 he) (Int.le_trans hw.2.1 (by omega)) (own10.put r11 nD25)
       ·rw [steps_err ht h2 h3' h4 h5 hz he] at y2
        exact br_t (by simpa using he) (herr τ10 _ _ a5 a7 a8 y2.symm own10)
     ·rintro j ⟨hj1, hj2⟩
      unfold plC at v6
      refine rd_B (rdC_of v6 (by rfl)) ?_
      cases hfd : (A.find p.ino nm).isSome with
      | false => exact br_t rfl (hj1 (.inl hfd))
      | true =>
       have hkd : ∀ t : Bool, t = (A.kind ((A.find p.ino nm).getD 0) != 3) -> (rest.isEmpty && !follow) = false -> j (some ⟨b6, 0, none⟩) (some ⟨b8, 0, none⟩) (some ⟨b9, 0, none⟩) (some ⟨b10, 0, none⟩) (some ⟨b25, 0, none⟩) t τ4 := by
        intro t ht' hr'
        by_cases hk : A.kind ((A.find p.ino nm).getD 0) = 3
        ·have : t = false := by rw [ht']; simpa using hk
         subst this
         refine hj2 ?_
         rintro (h | h | h)
         ·rw [hfd] at h; cases h
         ·rw [hr'] at h; cases h
         ·exact h hk
        ·have : t = true := by rw [ht']; simpa using hk
         subst this
         exact hj1 (.inr (.inr hk))
       refine br_f rfl ?_
       cases hre : rest.isEmpty with
       | true =>
        refine br_t rfl (ptr_i (rd_B (rdC_of v5.k7 (by rfl)) ?_))
        cases follow with
        | false => exact br_t rfl (hj1 (.inr (.inl (by rw [hre]; rfl))))
        | true =>
         refine br_f rfl (ptr_i (rd_P (rdC_of v5.k6 (by rfl)) (rd_I (rdC_of v6 (by rfl)) ?_)))
         exact call_i (s_kind v5.fs _ (app_I (hkd _ rfl (by rw [hre]; rfl))))
       | false =>
        refine br_f rfl (ptr_i (rd_P (rdC_of v5.k6 (by rfl)) (rd_I (rdC_of v6 (by rfl)) ?_)))
        exact call_i (s_kind v5.fs _ (app_I (hkd _ rfl (by rw [hre]; rfl))))
  ·intro τ hg hDs
   exact ⟨partsB path, _, h, rfl, hres, h0, Int.le_refl _, hbase9.gr hg, hg.get e25', hg.get hh9, hg.get pl.same, hDs⟩
  ·rintro τ ⟨names, p, h', y1, y2, y3, y4, y5, y6, y7, y8, y9⟩
   cases names with
   | cons x xs => cases y1
   | nil =>
    refine end_n y8 (by intro h; cases h) ?_
    intro τ1 r1
    simp only [AT.steps] at y2
    exact hj26 τ1 p h' y2.symm (y5.put r1 ml Bl (fun _ => fl)) (r1.get l25 y6) (r1.get hl' y7)
  ·rintro τ ⟨e, h', y1, y2, y3, y4, y5, y6⟩
   refine end_r y5 (by intro h; cases h) ?_
   intro τ1 r1
   have z9 := r1.get ml.2.2.2.1.symm y2
   have z10 := r1.get ml.2.2.2.2.symm y3
   unfold plC at z9
   refine ptr_i (rd_G (rdA_of' z9 (by rfl)) ?_)
   (refine app_of rfl ?_; try dsimp only)
   refine ptr_i (rd_I (rdC_of z10 (by rfl)) ?_)
   rw [y1]
   refine ⟨rfl, gr_of_keep (r1.get hl' y4) (fun b o hn hb => r1.get ?_ (y6 b o hn hb))⟩
   intro e; subst e; rw [fl] at hb; cases hb
end Go.Proofs.YtpfkfphjigcdeaaGreatDoor

namespace Go.Wk
open Go Go.HL
section
variable {κ α : Type}
def sumF (f : α -> Nat) : List (κ × α) -> Nat
 | [] => 0
 | (_, v) :: r => f v + sumF f r
theorem lk_of_mem [BEq κ] [LawfulBEq κ] {k : κ} {v : α} : ∀ {l : List (κ × α)}, (keysL l).Nodup -> (k, v) ∈ l -> lk k l = some v := by
 intro l
 induction l with
 | nil => intro _ h; simp at h
 | cons x l ih =>
  obtain ⟨i, u⟩ := x
  intro hn h
  simp only [keysL, List.map_cons, List.nodup_cons] at hn
  simp only [lk]
  rcases List.mem_cons.1 h with e | e
  ·cases e; simp
  ·have : (k == i) = false := by
    cases hb : (k == i) with
    | false => rfl
    | true =>
     have := eq_of_beq hb; subst this
     exact absurd (List.mem_map.2 ⟨_, e, rfl⟩) hn.1
   simp only [this]
   exact ih hn.2 e
theorem sumF_pos {f : α -> Nat} {l : List (κ × α)} (h : 0 < sumF f l) : ∃ k v, (k, v) ∈ l /\ 0 < f v := by
 induction l with
 | nil => simp [sumF] at h
 | cons x l ih =>
  obtain ⟨i, u⟩ := x
  simp only [sumF] at h
  by_cases hu : 0 < f u
  ·exact ⟨i, u, by simp, hu⟩
  ·obtain ⟨k, v, h1, h2⟩ := ih (by omega)
   exact ⟨k, v, List.mem_cons_of_mem _ h1, h2⟩
theorem sumF_pos_lk [BEq κ] [LawfulBEq κ] {f : α -> Nat} {l : List (κ × α)} (hn : (keysL l).Nodup) (h : 0 < sumF f l) : ∃ k v, lk k l = some v /\ 0 < f v := by
 obtain ⟨k, v, h1, h2⟩ := sumF_pos h
 exact ⟨k, v, lk_of_mem hn h1, h2⟩
end
def one (j : Int) (v : Int) : Nat := if v = j then 1 else 0
def cntE (j : Int) (n : AN) : Nat := sumF (one j) n.ents
def AT.refs (A : AT) (j : Int) : Nat := sumF (cntE j) A.nodes
def AT.bytes (A : AT) : Nat := sumF (fun n => n.data.size) A.nodes
def AT.isDir (A : AT) (k : Int) : Prop := ∃ n, A.get k = some n /\ n.kind = 2
structure Inv (A : AT) : Prop where
 nodup : (keysL A.nodes).Nodup
 enod : ∀ i n, A.get i = some n -> (keysL n.ents).Nodup
 root : ∃ n, A.get 1 = some n /\ n.kind = 2 /\ n.up = 1
 low : ∀ i n, A.get i = some n -> 1 <= i /\ i <= A.last
 like : ∀ i n, A.get i = some n -> likeE n.kind n.mode n.data = 0
 file : ∀ i n, A.get i = some n -> n.kind ≠ 2 -> n.ents = []
 ent : ∀ i n s j, A.get i = some n -> lk s n.ents = some j -> namedE s = 0 /\ j ≠ 1 /\ ∃ m, A.get j = some m /\ (m.kind = 2 -> m.up = i)
 links : ∀ i n, A.get i = some n -> i ≠ 1 -> n.links = A.refs i /\ 0 < A.refs i /\ (n.kind = 2 -> A.refs i = 1)
 deep : ∀ i, A.isDir i -> ∃ d, A.deep 12 i = some d
 ui : A.ui = A.nodes.length
 ub : A.ub = A.bytes
 uq : A.ui <= A.qi /\ A.qi <= 1048576
 bq : A.ub <= A.qb /\ A.qb <= 1073741824
theorem AT.get_set (A : AT) (i j : Int) (n : AN) : (A.set i n).get j = if j = i then some n else A.get j := by
 unfold AT.set AT.get; simp only [lk_up]
 by_cases h : j = i <;> simp [h]
section
variable {A : AT}
theorem Inv.find (h : Inv A) {d : Int} {s : ByteArray} {j : Int} (hf : A.find d s = some j) : ∃ n, A.get d = some n /\ n.kind = 2 /\ lk s n.ents = some j /\ j ≠ 1 /\ ∃ m, A.get j = some m /\ (m.kind = 2 -> m.up = d) := by
 unfold AT.find at hf
 cases hn : A.get d with
 | none => rw [hn] at hf; cases hf
 | some n =>
  rw [hn] at hf
  have hf : lk s n.ents = some j := hf
  have h2 : n.kind = 2 := by
   apply Classical.byContradiction
   intro hk
   rw [h.file d n hn hk] at hf; simp [lk] at hf
  obtain ⟨_, h3, h4⟩ := h.ent d n s j hn hf
  exact ⟨n, rfl, h2, hf, h3, h4⟩
theorem Inv.isDir_up (h : Inv A) {k : Int} (hk : A.isDir k) : A.isDir (A.upOf k) := by
 obtain ⟨n, hn, h2⟩ := hk
 have hu : A.upOf k = n.up := by unfold AT.upOf; rw [hn]; rfl
 rw [hu]
 by_cases h1 : k = 1
 ·subst h1
  obtain ⟨r, hr, hr2, hr3⟩ := h.root
  rw [hn] at hr; cases hr
  rw [hr3]; exact ⟨n, hn, h2⟩
 ·obtain ⟨_, hpos, _⟩ := h.links k n hn h1
  obtain ⟨p, m, hp, hc⟩ := sumF_pos_lk h.nodup hpos
  have hp : A.get p = some m := hp
  obtain ⟨s, v, hs, hv⟩ := sumF_pos_lk (h.enod p m hp) hc
  have hv : v = k := by
   unfold one at hv
   by_cases e : v = k
   ·exact e
   ·simp [e] at hv
  subst hv
  obtain ⟨_, _, m', hm', hup⟩ := h.ent p m s v hp hs
  rw [hn] at hm'; cases hm'
  rw [hup h2]
  refine ⟨m, hp, ?_⟩
  apply Classical.byContradiction
  intro hk
  rw [h.file p m hp hk] at hs; simp [lk] at hs
theorem Inv.named (h : Inv A) {k : Int} (hk : A.isDir k) (h1 : k ≠ 1) : ∃ s, A.find (A.upOf k) s = some k := by
 obtain ⟨n, hn, h2⟩ := hk
 have hu : A.upOf k = n.up := by unfold AT.upOf; rw [hn]; rfl
 rw [hu]
 obtain ⟨_, hpos, _⟩ := h.links k n hn h1
 obtain ⟨p, m, hp, hc⟩ := sumF_pos_lk h.nodup hpos
 have hp : A.get p = some m := hp
 obtain ⟨s, v, hs, hv⟩ := sumF_pos_lk (h.enod p m hp) hc
 have hv : v = k := by
  unfold one at hv
  by_cases e : v = k
  ·exact e
  ·simp [e] at hv
 subst hv
 obtain ⟨_, _, m', hm', hup⟩ := h.ent p m s v hp hs
 rw [hn] at hm'; cases hm'
 rw [hup h2]
 exact ⟨s, by unfold AT.find; rw [hp]; exact hs⟩
theorem deep_same {A' : AT} (h : Inv A) (hu : ∀ k, A.isDir k -> A'.upOf k = A.upOf k) : ∀ (f : Nat) (k : Int), A.isDir k -> A'.deep f k = A.deep f k := by
 intro f
 induction f with
 | zero => intro k _; rfl
 | succ f ih =>
  intro k hk
  unfold AT.deep
  rw [hu k hk, ih _ (h.isDir_up hk)]
end
end Go.Wk

namespace Go.Wk
open Go Go.HL
variable {A : AT}
structure Bd (N : Nat) (A : AT) : Prop where
 last : A.last <= N
 links : ∀ i n, A.get i = some n -> n.links <= N
 ents : ∀ i n, A.get i = some n -> n.ents.length <= N
theorem Bd.mono {N M : Nat} (h : Bd N A) (hl : N <= M) : Bd M A :=
 ⟨by have := h.last; omega, fun i n hn => by have := h.links i n hn; omega, fun i n hn => by have := h.ents i n hn; omega⟩
section
variable {dir : Int} {name : ByteArray} {kind mode : Int} {data : ByteArray}
end
end Go.Wk

set_option maxRecDepth 100000
namespace Go.Proofs.YtpfkfphjigcdeaaGreatDoor
open Go Go.HL Go.Wk
attribute [local irreducible] ptrW ifW brW andW rdT alW letJ stW muW biW vaW imW callT cvalT app callW invW callVW sizeT oW nilF oneK loopW rfW funW begW roundK exW idxW Gr Put
theorem x_HasPrefix (s p : ByteArray) {σ : H} {K : KH} (hK : K (.bool (p.data.toList.isPrefixOf s.data.toList)) σ) : callW Tryz.prog 137 [.string s, .string p] K σ := by
 have hls : s.data.toList.length = s.size := rfl
 have hlp : p.data.toList.length = p.size := rfl
 refine c137 _ _ ?_
 unfold g137
 refine call_i (c131 _ _ ?_)
 unfold g131
 by_cases h : p.size <= s.size
 ·refine br_t (by simp; omega) (if_i ⟨bnd_some (by omega) (by omega), bnd_none⟩ (app_B ?_))
  have e : strEq (s.extract 0 (((p.size : Nat) : Int).toNat)) p = p.data.toList.isPrefixOf s.data.toList := by
   unfold strEq
   rw [ByteArray.toList_eq, ByteArray.toList_eq, extract_toList]
   simp only [Int.toNat_natCast, List.drop_zero]
   rw [Bool.eq_iff_iff, beq_iff_eq, List.isPrefixOf_iff_prefix, List.prefix_iff_eq_take, hlp]
   exact eq_comm
  rw [e]; exact hK
 ·refine br_f (by simp; omega) (app_B ?_)
  have e : p.data.toList.isPrefixOf s.data.toList = false := by
   rw [<- Bool.not_eq_true, List.isPrefixOf_iff_prefix]
   intro hp
   have := hp.length_le
   omega
  rw [e] at hK; exact hK
theorem prefix_head (s : ByteArray) (c : UInt8) : ([c].isPrefixOf s.data.toList) = headIs c s := by
 unfold headIs
 cases s.data.toList with
 | nil => rfl
 | cons x r => 
  simp only [List.isPrefixOf]
  rw [Bool.and_true]
  exact BEq.comm
theorem sEq_nil {s : ByteArray} (h : sEq s ⟨⟨[]⟩⟩ = false) : ∃ c r, s.data.toList = c :: r := by
 cases hl : s.data.toList with
 | nil => exfalso; have : sEq s ⟨⟨[]⟩⟩ = true := by unfold sEq; rw [hl]; rfl
          rw [h] at this; cases this
 | cons c r => exact ⟨c, r, rfl⟩
theorem s_locate {A : AT} {σ : H} {bf : Nat} {B : Nat -> Prop} (hF : FsAt σ bf A B) (cwd path : ByteArray) (follow : Bool) {K : KH}
 (hK : K (.tuple ⟨[.agg ⟨plC (A.locate cwd path follow).2⟩, .int .i64 (A.locate cwd path follow).1]⟩) σ) :
 callW Tryz.prog 115 [.pointer (some ⟨bf, 0, none⟩), .string cwd, .string path, .bool follow] K σ := by
 generalize hres : A.locate cwd path follow = res at hK
 refine pure_i _ hK (c115 _ _ _ _ ?_)
 clear hK
 unfold g115
 refine al_i ?_; intro b5 σ1 g1 e1 n1
 have hF1 := hF.gr g1
 refine call_i (s_none hF1 (app_B (br_f rfl ?_)))
 obtain ⟨bt, B0, q1, q2, q3, q4⟩ := id hF
 have q1' := g1.get q1
 (repeat (first|refine ptr_i ?_|refine z2 ?_|(refine al_i ?_;intro _ _ _ _ _)|refine z4 ?_|refine z5 ?_|(refine z6 ?_;intro _ _)|refine app_P ?_|refine app_I ?_|refine app_S ?_|refine app_B ?_|refine app_M ?_|refine app_L ?_|refine app_U ?_|refine app_R ?_|(refine app_of rfl ?_;try dsimp only)))
 refine call_i (s_Root _ (app_I ?_))
 refine al_i ?_; intro b15 σ2 g2 e2 n2
 have f15 : σ b15 = none := none_of g1 n2
 have n515 : b5 ≠ b15 := ne_fr n2 (isSome_of e1)
 (refine st_i2 (by exact gA) szA (by rfl) (by rfl) ?_; intro _ _)
 rename_i σ3 p3
 have hF3 := (hF1.gr g2).put p3 (hF.fresh f15)
 have hg3 : Lng σ σ3 := ⟨(g1.trans g2).putF p3 f15⟩
 have k5 := p3.get n515 (g2.get e1)
 have k15 : σ3 b15 = some (.cells ⟨[.int .i64 8]⟩ 3 (0, 0)) := p3.same
 clear p3 e1 e2
 have herr : ∀ (e : Int) σ4, Gr σ σ4 -> σ4 b5 = some (.cells ⟨[.int .i64 0, .string ⟨⟨[]⟩⟩, .int .i64 0, .bool false]⟩ 174 (0, 0)) -> res = (e, Pl.z) ->
  stW Tryz.prog 174 (.pointer (some ⟨b5, 0, none⟩)) (.agg ⟨[.int .i64 0, .string ⟨⟨[]⟩⟩, .int .i64 0, .bool false]⟩) (rdT (rdA 4 b5 0) (.one (.agg [(.int .i64), .str, (.int .i64), .bool])) (fun (r16 : Int) (r17 : ByteArray) (r18 : Int) (r19 : Bool) =>
   (fun u σ' => u = (.tuple ⟨[.agg ⟨plC res.2⟩, .int .i64 res.1]⟩ : Value) /\ Gr σ σ') (.tuple ⟨[.agg ⟨[.int .i64 r16, .string r17, .int .i64 r18, .bool r19]⟩, .int .i64 e]⟩))) σ4 := by
  intro e σ4 hg h5 he
  (refine st_i2 (by exact gA) szA (by rfl) (by rfl) ?_; intro _ _)
  rename_i σ5 p5
  refine rd_G (rdA_of' p5.same (by rfl)) ?_
  (refine app_of rfl ?_; try dsimp only)
  rw [he]
  exact ⟨rfl, hg.putF p5 n1⟩
 unfold AT.locate at hres
 cases he : sEq path ⟨⟨[]⟩⟩ with
 | true =>
  rw [he] at hres
  refine br_t (by rw [<- sEq_eq]; exact he) ?_
  exact herr 5 σ3 hg3.gr k5 hres.symm
 | false =>
  rw [he] at hres
  refine br_f (by rw [<- sEq_eq]; exact he) ?_
  obtain ⟨c, cr, hl⟩ := sEq_nil he
  have hc47 : ((c.toNat : Int) == 47) = (c == 47) := byte_eq c 47
  have hhd := headIs_cons (c := 47) hl
  simp only [Bool.false_eq_true, if_false] at hres
  refine j_i (fun j => ∀ a σ4, Gr σ σ4 -> FsAt σ4 bf A B -> σ4 b5 = some (.cells ⟨[.int .i64 0, .string ⟨⟨[]⟩⟩, .int .i64 0, .bool false]⟩ 174 (0, 0)) -> σ4 b15 = some (.cells ⟨[.int .i64 8]⟩ 3 (0, 0)) -> res = ((A.walk 10 a path follow 8).1, (A.walk 10 a path follow 8).2.1) -> j (some ⟨bf, 0, none⟩) path follow (some ⟨b5, 0, none⟩) a (some ⟨b15, 0, none⟩) σ4) ?_ ?_
  ·intro a σ4 hg h1 h5 h15 heq
   refine call_i (s_walk 10 h1 a path follow h15 (hF.fresh f15) (by decide) (by decide) (by decide) ?_)
   intro σ5 p5
   have h5' := p5.get n515 h5
   unfold plC
   (refine app_of rfl ?_; try dsimp only)
   (refine st_i2 (by exact gA) szA (by rfl) (by rfl) ?_; intro _ _)
   rename_i σ6 p6
   refine ptr_i (rd_G (rdA_of' p6.same (by rfl)) ?_)
   (refine app_of rfl ?_; try dsimp only)
   rw [heq]
   exact ⟨rfl, (hg.putF p5 f15).putF p6 n1⟩
  ·intro j hj
   refine idx_l (c := c) (by decide) (by rw [hl]; rfl) ?_
   have hc47' : ((c.toNat : Int) != 47) = !(c == 47) := by rw [bne, hc47]
   rw [hc47']
   cases hc : (c == 47) with
   | true =>
    refine br_f rfl (hj 1 σ3 hg3.gr hF3 k5 k15 ?_)
    rw [hhd, hc] at hres; exact hres.symm
   | false =>
    rw [hhd, hc] at hres
    simp only [Bool.false_eq_true, if_false] at hres
    refine br_t rfl (call_i (x_HasPrefix _ _ (app_B ?_)))
    show brW (!([47].isPrefixOf cwd.data.toList)) _ _ _
    rw [prefix_head]
    cases hcw : headIs 47 cwd with
    | false =>
     rw [hcw] at hres
     exact br_t rfl (herr 5 σ3 hg3.gr k5 hres.symm)
    | true =>
     rw [hcw] at hres
     simp only [Bool.true_eq_false, if_false] at hres
     refine br_f rfl (call_i (s_walk 10 hF3 1 cwd true k15 (hF.fresh f15) (by decide) (by decide) (by decide) ?_))
     intro σ5 p5
     have h5' := p5.get n515 k5
     have hF5 := hF3.put p5 (hF.fresh f15)
     have hg5 : Lng σ σ5 := ⟨hg3.gr.putF p5 f15⟩
     have k15' := p5.same
     clear p5
     generalize hw : A.walk 10 1 cwd true 8 = w at *
     obtain ⟨we, wp, wh⟩ := w
     unfold plC
     simp only at *
     (refine app_of rfl ?_; try dsimp only)
     refine al_i ?_; intro b49 σ6 g6 e6 n6
     have f49 : σ b49 = none := none_of hg5.gr n6
     have n549 : b5 ≠ b49 := ne_fr n6 (isSome_of h5')
     have n1549 : b15 ≠ b49 := ne_fr n6 (isSome_of k15')
     (refine st_i2 (by exact gA) szA (by rfl) (by rfl) ?_; intro _ _)
     rename_i σ7 p7
     have h7 := p7.get n549 (g6.get h5')
     have hF7 := (hF5.gr g6).put p7 (hF.fresh f49)
     have hg7 : Lng σ σ7 := ⟨(hg5.gr.trans g6).putF p7 f49⟩
     have k7 := p7.get n1549 (g6.get k15')
     by_cases hwe : we = 0
     case neg =>
      rw [if_pos hwe] at hres
      exact br_t (by simpa using hwe) (herr we σ7 hg7.gr h7 hres.symm)
     subst hwe
     simp only [ne_eq, not_true_eq_false, if_false] at hres
     refine br_f rfl (rd_B (rdC_of p7.same (by rfl)) ?_)
     cases hth : wp.there with
     | false =>
      rw [hth] at hres
      exact br_t rfl (herr 5 σ7 hg7.gr h7 hres.symm)
     | true =>
      rw [hth] at hres
      simp only [Bool.true_eq_false, if_false] at hres
      refine br_f rfl (rd_I (rdC_of p7.same (by rfl)) (call_i (s_kind hF7 _ (app_I ?_))))
      by_cases hk : A.kind wp.ino = 2
      case neg =>
       rw [if_pos hk] at hres
       exact br_t (by simpa using hk) (herr 8 σ7 hg7.gr h7 hres.symm)
      refine br_f (by simpa using hk) (rd_I (rdC_of p7.same (by rfl)) ?_)
      (refine st_i2 (by exact gA) szA (by rfl) (by rfl) ?_; intro _ _)
      rename_i σ8 p8
      refine hj wp.ino σ8 (hg7.gr.putF p8 f15) (hF7.put p8 (hF.fresh f15)) (p8.get n515 h7) p8.same ?_
      rw [if_neg (by simpa using hk)] at hres; exact hres.symm
section
variable {σ : H} {bf : Nat} {A : AT} {B : Nat -> Prop}
theorem s_with (hF : FsAt σ bf A B) (cwd path : ByteArray) (follow : Bool) (f : Value) {K : KH}
 (h1 : (A.with_ cwd path follow).1 ≠ 0 -> ∀ σ', Gr σ σ' -> K (.int .i64 (A.with_ cwd path follow).1) σ')
 (h2 : (A.with_ cwd path follow).1 = 0 -> ∀ σ', Gr σ σ' -> cvalT Tryz.prog f [.int .i64 (A.with_ cwd path follow).2.1, .agg ⟨inV (A.with_ cwd path follow).2.2⟩] kI (fun x => K (.int .i64 x)) σ') :
 callW Tryz.prog 92 [.pointer (some ⟨bf, 0, none⟩), .string cwd, .string path, .bool follow, f] K σ := by
 generalize hres : A.with_ cwd path follow = res at h1 h2
 unfold AT.with_ at hres
 refine c92 _ _ _ _ _ ?_
 unfold g92
 refine call_i (s_locate hF cwd path follow ?_)
 generalize A.locate cwd path follow = r at hres
 obtain ⟨re, rp⟩ := r
 simp only at hres
 unfold plC
 (refine app_of rfl ?_; try dsimp only)
 refine al_i ?_; intro b11 σ1 g1 e1 n1
 (refine st_i2 (by exact gA) szA (by rfl) (by rfl) ?_; intro _ _)
 rename_i σ2 p2
 have hg2 : Lng σ σ2 := ⟨g1.putF p2 n1⟩
 have hF2 := (hF.gr g1).put p2 (hF.fresh n1)
 have k11 := p2.same
 clear p2
 by_cases he : re = 0
 case neg =>
  rw [if_pos he] at hres; subst hres
  exact br_t (by simpa using he) (h1 he σ2 hg2.gr)
 subst he
 simp only [ne_eq, not_true_eq_false, if_false] at hres
 refine br_f rfl ?_
 obtain ⟨bt, B0, q1, q2, q3, q4⟩ := id hF2
 (repeat (first|refine ptr_i ?_|refine z2 ?_|(refine al_i ?_;intro _ _ _ _ _)|refine z4 ?_|refine z5 ?_|(refine z6 ?_;intro _ _)|refine app_P ?_|refine app_I ?_|refine app_S ?_|refine app_B ?_|refine app_M ?_|refine app_L ?_|refine app_U ?_|refine app_R ?_|(refine app_of rfl ?_;try dsimp only)))
 refine call_i (t_Node q2 _ ?_)
 unfold inV
 (refine app_of rfl ?_; try dsimp only)
 refine al_i ?_; intro b21 σ3 g3 e3 n3
 have n1121 : b11 ≠ b21 := ne_fr n3 (isSome_of k11)
 (refine st_i2 (by exact gA) szA (by rfl) (by rfl) ?_; intro _ _)
 rename_i σ4 p4
 have hg4 : Lng σ σ4 := ⟨(hg2.gr.trans g3).putF p4 (none_of hg2.gr n3)⟩
 have k11' := p4.get n1121 (g3.get k11)
 have k21 := p4.same
 clear p4 g3 e3
 refine j_i (fun j => ∀ t : Bool, ((t = true /\ res = (5, 0, IN.z)) \/ (t = false /\ res = (0, rp.ino, A.ino rp.ino))) -> j f (some ⟨b11, 0, none⟩) (some ⟨b21, 0, none⟩) t σ4) ?_ ?_
 ·rintro t (⟨rfl, hr⟩ | ⟨rfl, hr⟩)
  ·subst hr
   exact br_t rfl (h1 (by decide) σ4 hg4.gr)
  ·subst hr
   refine br_f rfl (ptr_i (rd_I (rdC_of k11' (by rfl)) (ptr_i (rd_G (rdA_of' k21 (by rfl)) ?_))))
   have := h2 rfl σ4 hg4.gr
   unfold inV at this
   (refine app_of rfl ?_; try dsimp only)
   exact this
 ·intro j hj
  refine rd_B (rdC_of k11' (by rfl)) ?_
  cases hth : rp.there with
  | false =>
   rw [hth] at hres
   exact br_t rfl (hj true (.inl ⟨rfl, hres.symm⟩))
  | true =>
   rw [hth] at hres
   simp only [Bool.true_eq_false, if_false] at hres
   refine br_f rfl (hj _ ?_)
   cases hg : A.get rp.ino with
   | none => rw [hg] at hres; exact .inl ⟨rfl, hres.symm⟩
   | some n =>
    rw [hg] at hres
    refine .inr ⟨rfl, ?_⟩
    rw [<- hres]; unfold AT.ino; rw [hg]; rfl
theorem go_ReadF1 : isGo Tryz.prog 93 = true := by kernel_rfl
theorem s_Read (hF : FsAt σ bf A B) (cwd path : ByteArray) {K : KH}
 (hK : K (.tuple ⟨[.string (A.read cwd path).2, .int .i64 (A.read cwd path).1]⟩) σ) :
 callW Tryz.prog 69 [.pointer (some ⟨bf, 0, none⟩), .string cwd, .string path] K σ := by
 refine pure_i _ hK (c69 _ _ _ ?_)
 clear hK
 unfold g69
 unfold AT.read
 simp only
 refine al_i ?_; intro b4 σ1 g1 e1 n1
 have fin : ∀ σ2 (e : Int) (s : ByteArray), Lng σ σ2 -> σ2 b4 = some (.cells ⟨[.string s]⟩ 9 (0, 0)) -> (rdT (rdC b4 0) kS (fun (x6 : ByteArray) =>
  stW Tryz.prog 9 (.pointer (some ⟨b4, 0, none⟩)) (.string x6) (rdT (rdC b4 0) kS (fun (r7 : ByteArray) =>
   (fun u σ' => u = (.tuple ⟨[.string s, .int .i64 e]⟩ : Value) /\ Gr σ σ') (.tuple ⟨[.string r7, .int .i64 e]⟩))))) σ2 := by
  intro σ2 e s hg k
  refine rd_S (rdC_of k (by rfl)) ?_
  (refine st_i2 (by exact gA) szA (by rfl) (by rfl) ?_; intro _ _)
  rename_i σ3 p3
  refine rd_S (rdC_of p3.same (by rfl)) ?_
  exact ⟨rfl, hg.gr.putF p3 n1⟩
 refine call_i (s_with (hF.gr g1) cwd path true _ ?_ ?_)
 ·intro he σ2 g2
  refine app_I ?_
  rw [if_pos he]
  exact fin σ2 _ _ ⟨g1.trans g2⟩ (g2.get e1)
 ·intro he σ2 g2
  rw [he]
  simp only [ne_eq, not_true_eq_false, if_false]
  generalize (A.with_ cwd path true).2.2 = n
  have k4 := g2.get e1
  unfold inV
  refine cval_i go_ReadF1 (c93 _ _ _ _ _ _ ?_)
  unfold g93
  refine al_i ?_; intro b7 σ3 g3 e3 n3
  refine rd_I (rdC_of e3 (by rfl)) ?_
  by_cases hk : n.kind = 2
  ·rw [if_pos hk]
   refine br_t (by simpa using hk) (app_I (app_I ?_))
   exact fin σ3 _ _ ⟨(g1.trans g2).trans g3⟩ (g3.get k4)
  ·rw [if_neg hk]
   refine br_f (by simpa using hk) (rd_S (rdC_of e3 (by rfl)) ?_)
   have k4' := g3.get k4
   (refine st_i2 (by exact gA) szA (by rfl) (by rfl) ?_; intro _ _)
   rename_i σ4 p4
   refine app_I (app_I ?_)
   exact fin σ4 _ _ ⟨((g1.trans g2).trans g3).putF p4 n1⟩ p4.same
theorem StrSl.gr {σ σ' : H} {x : Sl} {l : List ByteArray} (h : StrSl σ x l) (hg : Gr σ σ') : StrSl σ' x l := by
 obtain ⟨h1, h2⟩ := h
 refine ⟨h1, ?_⟩
 rcases h2 with h2 | ⟨g, cur, e1, e2, e3⟩
 ·exact .inl h2
 ·exact .inr ⟨g, cur, e1, hg.get e2, e3⟩
theorem StrSl.put {σ σ' : H} {x : Sl} {l : List ByteArray} {b : Nat} {o : Obj} {cs : List Value} {t : TypeId} {fz : Nat × Nat} (h : StrSl σ x l) (hp : Put σ b o σ') (hb : σ b = some (.cells ⟨cs⟩ t fz)) (ht : t ≠ 9) : StrSl σ' x l := by
 obtain ⟨h1, h2⟩ := h
 refine ⟨h1, ?_⟩
 rcases h2 with h2 | ⟨g, cur, e1, e2, e3⟩
 ·exact .inl h2
 ·refine .inr ⟨g, cur, e1, hp.get ?_ e2, e3⟩
  intro e; subst e; rw [hb] at e2; cases e2; exact ht rfl
end
end Go.Proofs.YtpfkfphjigcdeaaGreatDoor

namespace Go.Wk
open Go Go.HL
def nameOk (s : ByteArray) : Prop := s ≠ ⟨⟨[]⟩⟩ /\ s ≠ ⟨⟨[46]⟩⟩ /\ badByte s = false
theorem sEq_false {a b : ByteArray} (h : a ≠ b) : sEq a b = false := by
 cases hs : sEq a b with
 | false => rfl
 | true => exact absurd (sEq_iff.1 hs) h
def PlOk (A : AT) (p : Pl) : Prop := A.isDir p.dir /\ ((p.name = ⟨⟨[]⟩⟩ /\ p.there = true /\ p.ino = p.dir) \/ (nameOk p.name /\ p.name ≠ ⟨⟨[46, 46]⟩⟩ /\ p.name.size <= 56 /\ A.find p.dir p.name = if p.there then some p.ino else none))
theorem PlOk.named {A : AT} {p : Pl} (h : PlOk A p) (hn : p.name ≠ ⟨⟨[]⟩⟩) : namedE p.name = 0 /\ A.find p.dir p.name = if p.there then some p.ino else none := by
 obtain ⟨_, h | ⟨⟨a1, a2, a3⟩, a4, a5, a6⟩⟩ := h
 ·exact absurd h.1 hn
 ·refine ⟨?_, a6⟩
  unfold namedE
  rw [if_neg (by omega), sEq_false a1, sEq_false a2, sEq_false a4, a3]; rfl
theorem PlOk.get {A : AT} (hI : Inv A) {p : Pl} (h : PlOk A p) (ht : p.there = true) : ∃ n, A.get p.ino = some n := by
 obtain ⟨hd, h | ⟨_, _, _, h⟩⟩ := h
 ·obtain ⟨n, hn, _⟩ := hd; rw [h.2.2]; exact ⟨n, hn⟩
 ·rw [ht] at h
  obtain ⟨_, _, _, _, _, m, hm, _⟩ := hI.find h
  exact ⟨m, hm⟩
end Go.Wk

set_option maxRecDepth 100000
namespace Go.Proofs.YtpfkfphjigcdeaaGreatDoor
open Go Go.HL Go.Wk
attribute [local irreducible] ptrW ifW brW andW rdT alW letJ stW muW biW vaW imW callT cvalT app callW invW callVW sizeT oW nilF oneK loopW rfW funW begW roundK exW idxW Gr Put
theorem s_New (qi qb : Int) {σ : H} {K : KH} (hN : newOk qi qb = false -> K (.pointer none) σ)
 (hK : newOk qi qb = true -> ∀ bf σ' B', FsAt σ' bf (newT qi qb) B' -> Gr σ σ' -> (∀ b, B' b -> σ b = none) -> K (.pointer (some ⟨bf, 0, none⟩)) σ') :
 callW Tryz.prog 15 [.agg ⟨[.int .i64 qi, .int .i64 qb]⟩] K σ := by
 refine callW.drop (K' := fun v σ' => (newOk qi qb = false /\ v = .pointer none /\ Gr σ σ') \/ (newOk qi qb = true /\ K v σ')) ?_ ?_
 case refine_2 =>
  rintro v σ' (⟨h1, h2, h3⟩ | ⟨h1, h2⟩)
  ·exact ⟨σ, h3, h2 ▸ hN h1⟩
  ·exact ⟨σ', Gr.refl _, h2⟩
 refine c15 _ _ ?_
 unfold g15
 refine al_i ?_; intro b3 σ1 g1 e1 n1
 refine rd_G (rdA_of' e1 (by rfl)) ?_
 (refine app_of rfl ?_; try dsimp only)
 refine call_i (s_NewT qi qb ?_ ?_)
 ·intro h
  exact app_P (br_t rfl (.inl ⟨h, rfl, g1⟩))
 ·intro h bt σ2 B' hbt hT g2 hfr
  refine app_P (br_f rfl ?_)
  refine al_i ?_; intro b7 σ3 g3 e3 n3
  refine .inr ⟨h, hK h b7 σ3 (fun b => B' b \/ b = b7) ⟨bt, B', e3, hT.gr g3, hT.fresh n3, fun _ => Iff.rfl⟩ ((g1.trans g2).trans g3) ?_⟩
  rintro b (hb | rfl)
  ·exact none_of g1 (hfr b hb)
  ·exact none_of (g1.trans g2) n3
section
variable {σ : H} {bf : Nat} {A : AT} {B : Nat -> Prop}
end
end Go.Proofs.YtpfkfphjigcdeaaGreatDoor

namespace Go.Wk
open Go Go.HL
inductive Tr where
 | mk (name : ByteArray) (kind : Int) (exec : Bool) (data : ByteArray) (kids : List Tr)
def Tr.name : Tr -> ByteArray | .mk n _ _ _ _ => n
def Tr.kind : Tr -> Int | .mk _ k _ _ _ => k
def Tr.exec : Tr -> Bool | .mk _ _ e _ _ => e
def Tr.data : Tr -> ByteArray | .mk _ _ _ d _ => d
def Tr.kids : Tr -> List Tr | .mk _ _ _ _ l => l
def gr (d x : Int) : Int := if x > d then x else d
def Tr.deep : Nat -> Tr -> Int
 | 0, _ => 1
 | m + 1, t => if t.kind ≠ 2 \/ m = 0 then 1 else t.kids.foldl (fun d x => gr d (1 + Tr.deep m x)) 1
def Tr.tooDeep (t : Tr) : Bool := decide (t.deep 14 > 12)
def mayName (s : ByteArray) : Bool := decide (1 <= s.size) && (decide (s.size <= 56) && (!badByte s && (!sEq s ⟨⟨[46]⟩⟩ && !sEq s ⟨⟨[46, 46]⟩⟩)))
mutual
def Tr.size : Tr -> Int × Int
 | .mk _ _ _ d kids => Tr.sizeRow kids (1, d.size)
def Tr.sizeRow : List Tr -> Int × Int -> Int × Int
 | [], a => a
 | t :: r, a => Tr.sizeRow r (if t.tooDeep = true then a else (a.1 + (Tr.size t).1, a.2 + (Tr.size t).2))
end
def Tr.sizeT (t : Tr) : Int × Int := if t.tooDeep = true then (0, 0) else t.size
mutual
def Tr.total : Tr -> Nat
 | .mk n _ _ d kids => 1 + n.size + d.size + Tr.totalRow kids
def Tr.totalRow : List Tr -> Nat
 | [] => 0
 | t :: r => Tr.total t + Tr.totalRow r
end
mutual
def Tr.levels : Tr -> Int
 | .mk _ k _ _ kids => if k ≠ 2 then 0 else Tr.levelsRow kids 0 + 1
def Tr.levelsRow : List Tr -> Int -> Int
 | [], a => a
 | t :: r, a => Tr.levelsRow r (gr a (Tr.levels t))
end
theorem Tr.total_kid {t : Tr} {x : Tr} (h : x ∈ t.kids) : x.total < t.total := by
 obtain ⟨nm, k, e, d, kids⟩ := t
 have key : ∀ l : List Tr, x ∈ l -> x.total <= Tr.totalRow l := by
  intro l
  induction l with
  | nil => intro h; simp at h
  | cons y r ih =>
   intro h
   simp only [Tr.totalRow]
   rcases List.mem_cons.1 h with e | e
   ·subst e; omega
   ·have := ih e; omega
 have := key kids h
 simp only [Tr.total]; omega
theorem Tr.ind {P : Tr -> Prop} (h : ∀ t, (∀ x ∈ t.kids, P x) -> P t) (t : Tr) : P t := by
 have key : ∀ (n : Nat) (t : Tr), t.total < n -> P t := by
  intro n
  induction n with
  | zero => intro t h; omega
  | succ n ih => intro t ht; exact h t fun x hx => ih x (by have := Tr.total_kid hx; omega)
 exact key _ t (Nat.lt_succ_self _)
end Go.Wk

set_option maxRecDepth 100000
namespace Go.Proofs.YtpfkfphjigcdeaaGreatDoor
open Go Go.HL Go.Wk
attribute [local irreducible] ptrW ifW brW andW rdT alW letJ stW muW biW vaW imW callT cvalT app callW invW callVW sizeT oW nilF oneK loopW rfW funW begW roundK exW idxW Gr Put
mutual
def TrAt (σ : H) : Tr -> List Value -> Prop
 | .mk n k e d kids, cs => ∃ x : Sl, cs = [.string n, .int .i64 k, .bool e, .string d, .slice x.base x.len x.cap] /\ x.len = kids.length /\ (kids = [] \/ ∃ g o cur t fz, x.base = some ⟨g, o, none⟩ /\ σ g = some (.cells ⟨cur⟩ t fz) /\ RowAt σ kids (cur.drop o))
def RowAt (σ : H) : List Tr -> List Value -> Prop
 | [], _ => True
 | t :: r, cs => TrAt σ t (cs.take 5) /\ RowAt σ r (cs.drop 5)
end
def SlAt (σ : H) (kids : List Tr) (x : Sl) : Prop := x.len = kids.length /\ (kids = [] \/ ∃ g o cur t fz, x.base = some ⟨g, o, none⟩ /\ σ g = some (.cells ⟨cur⟩ t fz) /\ RowAt σ kids (cur.drop o))
def trC (t : Tr) (x : Sl) : List Value := [.string t.name, .int .i64 t.kind, .bool t.exec, .string t.data, .slice x.base x.len x.cap]
theorem trAt_iff {σ : H} {t : Tr} {cs : List Value} : TrAt σ t cs ↔ ∃ x, cs = trC t x /\ SlAt σ t.kids x := by
 obtain ⟨n, k, e, d, kids⟩ := t
 simp only [TrAt, trC, SlAt, Tr.name, Tr.kind, Tr.exec, Tr.data, Tr.kids]
theorem gr_both {σ σ' : H} (hg : Gr σ σ') : ∀ t : Tr, ∀ cs, TrAt σ t cs -> TrAt σ' t cs := by
 refine Tr.ind ?_
 intro t ih cs h
 rw [trAt_iff] at h ⊢
 obtain ⟨x, h1, h2, h3⟩ := h
 refine ⟨x, h1, h2, ?_⟩
 rcases h3 with h3 | ⟨g, o, cur, ty, fz, h3, h4, h5⟩
 ·exact .inl h3
 ·refine .inr ⟨g, o, cur, ty, fz, h3, hg.get h4, ?_⟩
  generalize cur.drop o = cs at h5
  clear h4 h3 h2 h1
  generalize t.kids = l at *
  induction l generalizing cs with
  | nil => trivial
  | cons y r ihr =>
   simp only [RowAt] at h5 ⊢
   exact ⟨ih y (List.mem_cons_self ..) _ h5.1, ihr _ (fun z hz => ih z (List.mem_cons_of_mem _ hz)) h5.2⟩
theorem rowAt_gr {σ σ' : H} (hg : Gr σ σ') : ∀ {l : List Tr} {cs : List Value}, RowAt σ l cs -> RowAt σ' l cs := by
 intro l
 induction l with
 | nil => intro _ _; trivial
 | cons y r ih => intro cs h; simp only [RowAt] at h ⊢; exact ⟨gr_both hg y _ h.1, ih h.2⟩
theorem SlAt.gr {σ σ' : H} {kids : List Tr} {x : Sl} (h : SlAt σ kids x) (hg : Gr σ σ') : SlAt σ' kids x := by
 obtain ⟨h1, h2 | ⟨g, o, cur, ty, fz, h3, h4, h5⟩⟩ := h
 ·exact ⟨h1, .inl h2⟩
 ·exact ⟨h1, .inr ⟨g, o, cur, ty, fz, h3, hg.get h4, rowAt_gr hg h5⟩⟩
theorem SlAt.nil {σ : H} {b : Option Addr} {c : Nat} : SlAt σ [] ⟨b, 0, c⟩ := ⟨rfl, .inl rfl⟩
section
variable {σ : H} {b6 : Nat} {t : Tr} {y : Sl} {ty : TypeId}
end
end Go.Proofs.YtpfkfphjigcdeaaGreatDoor

namespace Go.Wk
open Go Go.HL
structure Grows (A A' : AT) : Prop where
 get : ∀ i n, A.get i = some n -> ∃ m, A'.get i = some m /\ m.kind = n.kind /\ m.up = n.up /\ m.mode = n.mode /\ m.data = n.data /\ m.links = n.links /\ ∀ s j, lk s n.ents = some j -> lk s m.ents = some j
 last : A.last <= A'.last
 qi : A'.qi = A.qi
 qb : A'.qb = A.qb
theorem Grows.trans {A B C : AT} (h : Grows A B) (k : Grows B C) : Grows A C := by
 refine ⟨fun i n hn => ?_, Int.le_trans h.last k.last, by rw [k.qi, h.qi], by rw [k.qb, h.qb]⟩
 obtain ⟨m, h1, h2, h3, h4, h5, h6, h7⟩ := h.get i n hn
 obtain ⟨m', k1, k2, k3, k4, k5, k6, k7⟩ := k.get i m h1
 exact ⟨m', k1, by rw [k2, h2], by rw [k3, h3], by rw [k4, h4], by rw [k5, h5], by rw [k6, h6], fun s j hs => k7 s j (h7 s j hs)⟩
section
variable {A A' : AT}
theorem Grows.isDir (h : Grows A A') {k : Int} (hk : A.isDir k) : A'.isDir k := by
 obtain ⟨n, h1, h2⟩ := hk
 obtain ⟨m, h3, h4, _⟩ := h.get k n h1
 exact ⟨m, h3, by rw [h4, h2]⟩
theorem Grows.deep (h : Grows A A') (hI : Inv A) (f : Nat) {k : Int} (hk : A.isDir k) : A'.deep f k = A.deep f k := by
 refine deep_same hI ?_ f k hk
 rintro k ⟨n, h1, _⟩
 obtain ⟨m, h3, _, h5, _⟩ := h.get k n h1
 unfold AT.upOf; rw [h1, h3]; simp [h5]
theorem Grows.find (h : Grows A A') {d : Int} {s : ByteArray} {j : Int} (hf : A.find d s = some j) : A'.find d s = some j := by
 unfold AT.find at hf ⊢
 cases hn : A.get d with
 | none => rw [hn] at hf; cases hf
 | some n =>
  rw [hn] at hf
  obtain ⟨m, h1, _, _, _, _, _, h7⟩ := h.get d n hn
  rw [h1]; exact h7 s j hf
variable {dir : Int} {name : ByteArray} {kind mode : Int} {data : ByteArray}
end
def RowD (A : AT) (ino : Int) (l : List Tr) : Prop := (∃ n, A.get ino = some n) /\ ∀ d, A.isDir ino -> A.deep 12 ino = some d -> ∀ x ∈ l, d + x.levels <= 12
theorem RowD.next {A A' : AT} {ino : Int} {x : Tr} {l : List Tr} (hI : Inv A) (hg : Grows A A') (h : RowD A ino (x :: l)) : RowD A' ino l := by
 obtain ⟨⟨n, hn⟩, h2⟩ := h
 obtain ⟨m, hm, hk, _⟩ := hg.get ino n hn
 refine ⟨⟨m, hm⟩, ?_⟩
 rintro d ⟨m', hm', hk'⟩ hd y hy
 rw [hm] at hm'; cases hm'
 have hD : A.isDir ino := ⟨n, hn, by rw [<- hk]; exact hk'⟩
 rw [hg.deep hI 12 hD] at hd
 exact h2 d hD hd y (List.mem_cons_of_mem _ hy)
theorem RowD.head {A : AT} {ino : Int} {x : Tr} {l : List Tr} (h : RowD A ino (x :: l)) : ∀ d, A.isDir ino -> A.deep 12 ino = some d -> d + x.levels <= 12 := fun d h1 h2 => h.2 d h1 h2 x (List.mem_cons_self ..)
end Go.Wk

namespace Go.Wk
open Go Go.HL
variable {A : AT}
end Go.Wk

namespace Go.Wk
open Go Go.HL
mutual
def Tr.bytes : Tr -> Nat
 | .mk _ _ _ d kids => d.size + Tr.bytesRow kids
def Tr.bytesRow : List Tr -> Nat
 | [] => 0
 | t :: r => Tr.bytes t + Tr.bytesRow r
end
end Go.Wk

namespace Go.Wk
open Go Go.HL
structure OpOk (N : Nat) (A : AT) (r : Int × AT) : Prop where
 inv : Inv r.2
 bd : Bd N r.2
 same : r.1 ≠ 0 -> r.2 = A
 qi : r.2.qi = A.qi
 qb : r.2.qb = A.qb
variable {A : AT} {N : Nat}
theorem OpOk.mono {M : Nat} {r : Int × AT} (h : OpOk N A r) (hl : N <= M) : OpOk M A r := ⟨h.inv, h.bd.mono hl, h.same, h.qi, h.qb⟩
end Go.Wk

namespace Go.Wk
open Go Go.HL
theorem splitL_app {c : UInt8} {b : List UInt8} : ∀ a : List UInt8, splitL c (a ++ c :: b) = splitL c a ++ splitL c b := by
 intro a
 induction a with
 | nil => simp [splitL]
 | cons x a ih =>
  simp only [List.cons_append, splitL]
  cases (x == c) with
  | true => simp [ih]
  | false =>
   simp only [ih]
   cases hs : splitL c a with
   | nil => exact absurd hs (splitL_ne a)
   | cons h t => simp
theorem app_data (a b : ByteArray) : (a ++ b).data.toList = a.data.toList ++ b.data.toList := by rw [ByteArray.data_append, Array.toList_append]
theorem badByte_mem {s : ByteArray} (h : badByte s = false) : (47 : UInt8) ∉ s.data.toList /\ (0 : UInt8) ∉ s.data.toList := by
 unfold badByte at h
 rw [List.any_eq_false] at h
 exact ⟨fun hm => h 47 hm (by decide), fun hm => h 0 hm (by decide)⟩
theorem okPart_of {n : ByteArray} (h : nameOk n) : okPart n = true := by
 unfold okPart; rw [sEq_false h.1, sEq_false h.2.1]; rfl
def sub (p n : ByteArray) : ByteArray := (p ++ ⟨⟨[47]⟩⟩) ++ n
theorem sub_data (p n : ByteArray) : (sub p n).data.toList = p.data.toList ++ 47 :: n.data.toList := by
 unfold sub; rw [app_data, app_data, List.append_assoc]; rfl
theorem parts_sub {p n : ByteArray} (h : nameOk n) : partsB (sub p n) = partsB p ++ [n] := by
 have h47 := (badByte_mem h.2.2).1
 unfold partsB
 rw [sub_data, splitL_app, splitL_none h47, List.map_append, List.filter_append]
 congr 1
 show List.filter okPart [n] = [n]
 simp [okPart_of h]
theorem nul_sub {p n : ByteArray} (h : nameOk n) (hp : hasNul p = false) : hasNul (sub p n) = false := by
 have h0 := (badByte_mem h.2.2).2
 unfold hasNul at hp ⊢
 rw [sub_data, List.any_append, hp, List.any_cons, Bool.false_or]
 rw [Bool.or_eq_false_iff]
 refine ⟨by decide, ?_⟩
 rw [List.any_eq_false]
 intro x hx hb
 have : x = 0 := by simpa using hb
 subst this; exact h0 hx
theorem head_sub {p n : ByteArray} {c : UInt8} (hp : headIs c p = true) : headIs c (sub p n) = true := by
 unfold headIs at hp ⊢
 rw [sub_data]
 cases hl : p.data.toList with
 | nil => rw [hl] at hp; cases hp
 | cons x r => rw [hl] at hp; exact hp
def Chain (A : AT) : Int -> List ByteArray -> Int -> Prop
 | d, [], i => d = i
 | d, n :: r, i => A.kind d = 2 /\ ∃ j, A.find d n = some j /\ Chain A j r i
theorem Chain.snoc {A : AT} {n : ByteArray} {i j : Int} : ∀ {l : List ByteArray} {d : Int}, Chain A d l i -> A.kind i = 2 -> A.find i n = some j -> Chain A d (l ++ [n]) j := by
 intro l
 induction l with
 | nil => intro d h h1 h2; have h : d = i := h; subst h; exact ⟨h1, j, h2, rfl⟩
 | cons x r ih =>
  intro d h h1 h2
  obtain ⟨a, k, b, c⟩ := h
  exact ⟨a, k, b, ih c h1 h2⟩
def stepOk (n : ByteArray) : Prop := n ≠ ⟨⟨[46, 46]⟩⟩ /\ n.size <= 56
structure PathTo (A : AT) (p : ByteArray) (i : Int) : Prop where
 head : headIs 47 p = true
 nul : hasNul p = false
 chain : Chain A 1 (partsB p) i
 names : ∀ n ∈ partsB p, stepOk n
theorem PathTo.sub {A : AT} {p n : ByteArray} {i j : Int} (h : PathTo A p i) (hk : A.kind i = 2) (hf : A.find i n = some j) (hn : mayName n = true) : PathTo A (Wk.sub p n) j := by
 unfold mayName at hn
 simp only [Bool.and_eq_true, decide_eq_true_eq, Bool.not_eq_true'] at hn
 obtain ⟨h1, h2, h3, h4, h5⟩ := hn
 have hne : n ≠ ⟨⟨[]⟩⟩ := by intro e; rw [e] at h1; exact absurd h1 (by decide)
 have hne2 : n ≠ ⟨⟨[46]⟩⟩ := by intro e; rw [e] at h4; exact absurd h4 (by decide)
 have hne3 : n ≠ ⟨⟨[46, 46]⟩⟩ := by intro e; rw [e] at h5; exact absurd h5 (by decide)
 have hok : nameOk n := ⟨hne, hne2, h3⟩
 refine ⟨head_sub h.head, nul_sub hok h.nul, ?_, ?_⟩
 ·rw [parts_sub hok]; exact h.chain.snoc hk hf
 ·rw [parts_sub hok]
  intro m hm
  rcases List.mem_append.1 hm with hm | hm
  ·exact h.names m hm
  ·simp at hm; subst hm; exact ⟨hne3, h2⟩
end Go.Wk

set_option maxRecDepth 100000
namespace Go.Proofs.YtpfkfphjigcdeaaGreatDoor
open Go Go.HL Go.Wk
attribute [local irreducible] ptrW ifW brW andW rdT alW letJ stW muW biW vaW imW callT cvalT app callW invW callVW sizeT oW nilF oneK loopW rfW funW begW roundK exW idxW Gr Put
def RowsTr (τ : H) : List Tr -> List (List Value) -> Prop
 | [], [] => True
 | t :: ts, r :: rows => TrAt τ t r /\ RowsTr τ ts rows
 | _, _ => False
theorem RowsTr.gr {τ τ' : H} (hg : Gr τ τ') : ∀ {ts : List Tr} {rows : List (List Value)}, RowsTr τ ts rows -> RowsTr τ' ts rows := by
 intro ts
 induction ts with
 | nil => intro rows h; cases rows <;> exact h
 | cons t ts ih =>
  intro rows h
  cases rows with
  | nil => exact h.elim
  | cons r rows => exact ⟨gr_both hg t r h.1, ih h.2⟩
theorem RowsTr.snoc {τ : H} {t : Tr} {r : List Value} (ht : TrAt τ t r) : ∀ {ts : List Tr} {rows : List (List Value)}, RowsTr τ ts rows -> RowsTr τ (ts ++ [t]) (rows ++ [r]) := by
 intro ts
 induction ts with
 | nil => intro rows h; cases rows with
  | nil => exact ⟨ht, trivial⟩
  | cons r rows => exact h.elim
 | cons t ts ih =>
  intro rows h
  cases rows with
  | nil => exact h.elim
  | cons r rows => exact ⟨h.1, ih h.2⟩
theorem RowsTr.len {τ : H} : ∀ {ts : List Tr} {rows : List (List Value)}, RowsTr τ ts rows -> rows.length = ts.length := by
 intro ts
 induction ts with
 | nil => intro rows h; cases rows with
  | nil => rfl
  | cons r rows => exact h.elim
 | cons t ts ih =>
  intro rows h
  cases rows with
  | nil => exact h.elim
  | cons r rows => simp [ih h.2]
end Go.Proofs.YtpfkfphjigcdeaaGreatDoor

set_option maxRecDepth 100000
namespace Go.Proofs.YtpfkfphjigcdeaaGreatDoor
open Go Go.HL Go.Wk Go.ChangeShapes Go.WideShapes Go.ChangeAt Go.RowKit
theorem own : ownKnob Tryz.prog.godebug = none := by kernel_rfl
theorem laidOut : laidOutB Tryz.prog = true := by kernel_rfl
theorem witness_zip {H : Type} {enc : TypeId × Value -> H} {C : Checked} {os : Os} {f : FuncId} {fn : Func} {s : OpenSpec} {conds : List PathCond} {apart : Bool} {laid : List (String × DataW Unit)} (modest : Bool) (w0 : World) (args : Array Value) (hos : w0.os = os)
 (hv : (w0.forCall (fun _ _ => 0) ⟨#[], args, []⟩).variablesZipB C.prog = true)
 (hr : ((w0.forCall (fun _ _ => 0) ⟨#[], args, []⟩).heap.toList.drop C.prog.globals.size).take ((begin C.prog (fun _ _ => 0) default).world.heap.size - C.prog.globals.size) =
  (begin C.prog (fun _ _ => 0) default).world.heap.toList.drop C.prog.globals.size)
 (hok : Input.okWideB C.prog (w0.forCall (fun _ _ => 0) ⟨#[], args, []⟩) f ⟨#[], args, []⟩ = true)
 (hrow : s.preRow enc C.prog fn conds apart laid (w0.forCall (fun _ _ => 0) ⟨#[], args, []⟩).memory args) :
 ∃ (w : World) (tape : Tape) (i : Input), w.os = os /\ (w.forCall tape i).Shaped C.prog /\ i.vars = [] /\ Input.okWide C.prog (w.forCall tape i) .any w.heap.size f i /\
  s.preRow enc C.prog fn conds apart laid (w.forCall tape i).memory i.args /\ ({ modest := modest } : Assume).holds C.prog (lone (Frame.enter C.prog f i.args .normal) [] (w.forCall tape i)) :=
 ⟨w0, fun _ _ => 0, ⟨#[], args, []⟩, hos, World.shaped_of_ZipB hv hr, (Input.okWide_of_okWideB (base := 0) hok).1, (Input.okWide_of_okWideB hok).2, hrow, by
  simp only [Assume.holds]
  exact ⟨by simp, by simp, fun _ => Modest.zero, by simp, by simp⟩⟩
end Go.Proofs.YtpfkfphjigcdeaaGreatDoor

set_option maxRecDepth 100000
namespace Go.Proofs.YtpfkfphjigcdeaaGreatDoor
open Go Go.HL Go.Wk
theorem go_NE : isGo Tryz.prog 117 = false := by kernel_rfl
theorem fn_NE : (Tryz.prog.funcs[117]?).map (fun fn => ((fn.name == "runtime.NumGoroutine"), fn.body.isNone)) = some (false, true) := by kernel_rfl
theorem ex_NE : (Tryz.prog.funcs[117]?).bind (fun fn => Extern.find fn) = some Extern.AbiNoEscape.same := by kernel_rfl
theorem en_NE : (Tryz.prog.funcs[117]?).map (fun fn => (Extern.findNext fn).isNone) = some true := by kernel_rfl
theorem x_ext {f : FuncId} {e : Array Value -> Sem Value} {args : List Value} {t : TK} {F : t.Fn (H -> Prop)} {σ : H} (hg : isGo Tryz.prog f = false) (h1 : (Tryz.prog.funcs[f]?).map (fun fn => ((fn.name == "runtime.NumGoroutine"), fn.body.isNone)) = some (false, true))
 (h2 : (Tryz.prog.funcs[f]?).bind (fun fn => Extern.find fn) = some e) (h3 : (Tryz.prog.funcs[f]?).map (fun fn => (Extern.findNext fn).isNone) = some true)
 (h : ∀ w, σ.le w -> ∃ v w' σ', (e ⟨args⟩).run Tryz.prog w = .ok v w' /\ Ext σ w σ' w' /\ app t F v σ') : cvalT Tryz.prog (.func (.func f) ⟨[]⟩ ⟨[]⟩) args t F σ := by
 unfold cvalT callVW
 simp only [hg]
 intro w hw
 obtain ⟨v, w', σ', hr, hx, ha⟩ := h w hw
 cases hf : Tryz.prog.funcs[f]? with
 | none => rw [hf] at h1; cases h1
 | some fn =>
  rw [hf] at h1 h2 h3
  simp only [Option.map_some, Option.some.injEq, Prod.mk.injEq, Option.bind_some] at h1 h2 h3
  have hc := run_callFunc_standIn hf h1.1 h1.2 (Option.isNone_iff_eq_none.1 h3) h2 ⟨args⟩ w
  have : (callS (.func (.func f) ⟨[]⟩ ⟨[]⟩) args).run Tryz.prog w = .ok (.value v) w' := by
   simp [callS, Deferred.ofValue, invoke, hc, hr]
  rw [this]
  exact ⟨σ', hx, ha⟩
theorem x_NoEsc {v : Value} {F : Value -> H -> Prop} {σ : H} (hF : F v σ) : cvalT Tryz.prog (.func (.func 117) ⟨[]⟩ ⟨[]⟩) [v] kR F σ :=
 x_ext go_NE fn_NE ex_NE en_NE fun w hw => ⟨v, w, σ, Lib.run_noEscape w v, Ext.refl hw, app_R hF⟩
theorem go_MZ : isGo Tryz.prog 127 = false := by kernel_rfl
theorem fn_MZ : (Tryz.prog.funcs[127]?).map (fun fn => ((fn.name == "runtime.NumGoroutine"), fn.body.isNone)) = some (false, true) := by kernel_rfl
theorem ex_MZ : (Tryz.prog.funcs[127]?).bind (fun fn => Extern.find fn) = some (Extern.BytealgMakeNoZero.makeNoZero #[3] #[22]) := by kernel_rfl
theorem en_MZ : (Tryz.prog.funcs[127]?).map (fun fn => (Extern.findNext fn).isNone) = some true := by kernel_rfl
theorem und_bytes : Tryz.prog.underlying 22 = some (.slice 5) := by kernel_rfl
theorem und_str : Tryz.prog.underlying 9 = some .string := by kernel_rfl
theorem und_Pu8 : Tryz.prog.underlying 150 = some (.pointer 5) := by kernel_rfl
theorem und_PBu : Tryz.prog.underlying 109 = some (.pointer 111) := by kernel_rfl
theorem und_up : Tryz.prog.underlying 179 = some .unsafePointer := by kernel_rfl
theorem cells_u8 : Tryz.prog.cellsOf 5 = 1 := by kernel_rfl
theorem info_u8 : ∃ i, Tryz.prog.info? 5 = some i /\ i.zero = some (.int .u8 0) /\ i.size = 1 /\ i.bytes = 1 := by
 have h1 : (Tryz.prog.info? 5).map (fun i => (i.zero, i.size, i.bytes)) = some (some (.int .u8 0), 1, 1) := by kernel_rfl
 cases hi : Tryz.prog.info? 5 with
 | none => rw [hi] at h1; cases h1
 | some i =>
  rw [hi] at h1
  simp only [Option.map_some, Option.some.injEq, Prod.mk.injEq] at h1
  exact ⟨i, rfl, h1.1, h1.2.1, h1.2.2⟩
theorem info_Bu : ∃ i, Tryz.prog.info? 111 = some i /\ i.size ≠ 0 := by
 have h1 : (Tryz.prog.info? 111).map (·.size) = some 2 := by kernel_rfl
 cases hi : Tryz.prog.info? 111 with
 | none => rw [hi] at h1; cases h1
 | some i =>
  rw [hi] at h1
  simp only [Option.map_some, Option.some.injEq] at h1
  exact ⟨i, rfl, by omega⟩
theorem lies_Bu : liesAt Tryz.prog Tryz.prog.depth 111 (2 / Tryz.prog.cellsOf 111) 0 111 1 = true := by kernel_rfl
theorem szb_bytes : sizeT Tryz.prog 22 = some 1 := by kernel_rfl
theorem szb_PBu : sizeT Tryz.prog 109 = some 1 := by kernel_rfl
theorem x_MZ {n : Nat} (hn : n <= 281474976710656) {F : Sl -> H -> Prop} {σ : H} (hF : ∀ g cur σ', σ g = none -> σ' g = some (.cells ⟨cur⟩ 5 (0, 0)) -> Gr σ σ' -> n <= cur.length -> F ⟨some ⟨g, 0, none⟩, n, cur.length⟩ σ') : cvalT Tryz.prog (.func (.func 127) ⟨[]⟩ ⟨[]⟩) [.int .i64 (n : Int)] kL F σ := by
 refine x_ext go_MZ fn_MZ ex_MZ en_MZ fun w hw => ?_
 obtain ⟨⟨cs⟩, hr, h1, _⟩ := Lib.run_makeNoZero (P := Tryz.prog) w #[3] 22 5 und_bytes n hn
 obtain ⟨hn', he⟩ := Ext.alloc (σ := σ) (w := w.drew.drew) hw (.cells ⟨cs⟩ 5 (0, 0))
 exact ⟨_, _, _, hr, ⟨he.le, he.size, he.keep, he.own, he.os, he.tape, he.output⟩, app_L (hF w.heap.size cs _ hn' (H.put_same _ _ _) (Gr.put hn' _) h1)⟩
def BuAt (σ : H) (b : Nat) (l : List UInt8) (D : Nat -> Prop) : Prop := ∃ (p : Option Addr) (x : Sl), σ b = some (.cells ⟨[.pointer p, .slice x.base x.len x.cap]⟩ 111 (0, 0)) /\ (p = none \/ p = some ⟨b, 0, none⟩) /\ RowsOwn σ 5 1 (brows l) x /\ (∀ g, x.base = some ⟨g, 0, none⟩ -> g ≠ b) /\ (x.base ≠ none -> x.cap ≠ 0) /\ ∀ c, D c ↔ (c = b \/ x.base = some ⟨c, 0, none⟩)
theorem BuAt.gr {σ σ' : H} {b : Nat} {l : List UInt8} {D : Nat -> Prop} (h : BuAt σ b l D) (hg : Gr σ σ') : BuAt σ' b l D := by
 obtain ⟨p, x, h1, h2, h3, h4⟩ := h
 exact ⟨p, x, hg.get h1, h2, h3.gr hg, h4⟩
theorem BuAt.has {σ : H} {b : Nat} {l : List UInt8} {D : Nat -> Prop} (h : BuAt σ b l D) {c : Nat} (hc : D c) : σ c ≠ none := by
 obtain ⟨p, x, h1, h2, h3, h4, h5, h6⟩ := h
 rcases (h6 c).1 hc with rfl | e
 ·rw [h1]; simp
 ·exact h3.has e
theorem BuAt.put {σ σ' : H} {b c : Nat} {o : Obj} {l : List UInt8} {D : Nat -> Prop} (h : BuAt σ b l D) (hp : Put σ c o σ') (hc : ¬ D c) : BuAt σ' b l D := by
 obtain ⟨p, x, h1, h2, h3, h4, h5, h6⟩ := h
 exact ⟨p, x, hp.get (fun e => hc ((h6 c).2 (.inl e.symm))) h1, h2, h3.put hp (fun e => hc ((h6 c).2 (.inr e))), h4, h5, h6⟩
theorem BuAt.new {σ : H} {b : Nat} (h : σ b = some (.cells ⟨[.pointer none, .slice none 0 0]⟩ 111 (0, 0))) : BuAt σ b [] (fun c => c = b) :=
 ⟨none, ⟨none, 0, 0⟩, h, .inl rfl, RowsOwn.nil _ _ _, (fun g h => by cases h), (fun h => absurd rfl h), fun c => ⟨fun h => .inl h, fun h => h.resolve_right (by intro e; cases e)⟩⟩
attribute [local irreducible] ptrW ifW brW andW rdT alW letJ stW muW biW vaW imW callT cvalT app callW invW callVW sizeT oW nilF oneK loopW rfW funW begW roundK exW idxW Gr Put
section
variable {σ : H} {b : Nat} {l : List UInt8} {D : Nat -> Prop}
theorem s_BuCheck (h : BuAt σ b l D) {K : KH} (hK : ∀ σ', BuAt σ' b l D -> Sep σ D σ' D -> K (.tuple ⟨[]⟩) σ') : callW Tryz.prog 94 [.pointer (some ⟨b, 0, none⟩)] K σ := by
 obtain ⟨p, x, h1, h2, h3, h4, h5, h6⟩ := id h
 obtain ⟨i, hi, hi0⟩ := info_Bu
 refine c94 _ ?_
 unfold g94
 refine ptr_i (rd_P (rdC_of h1 (by rfl)) ?_)
 rcases h2 with rfl | rfl
 ·refine br_t rfl ?_
  refine toUp_i und_PBu und_up hi hi0 h1 (by simp) ?_
  refine x_NoEsc (fromUp_i und_up und_PBu hi h1 lies_Bu (ptr_i ?_))
  refine st_i2 h1 szb_PBu (by rfl) (by rfl) ?_; intro σ' hp
  refine hK σ' ⟨some ⟨b, 0, none⟩, x, hp.same, .inr rfl, h3.put hp (fun e => h4 b e rfl), h4, h5, h6⟩ ?_
  intro c o hc hn
  exact ⟨hp.get (fun e => hn ((h6 c).2 (.inl e))) hc, hn⟩
 ·refine br_f rfl (ptr_i (rd_P (rdC_of h1 (by rfl)) ?_))
  exact neqp_i und_PBu hi (br_f rfl (hK σ h (Sep.refl _ _)))
theorem key_BuWr (hb : BuAt σ b l D) {p : Option Addr} {x x' : Sl} {l' : List UInt8} {τ : H} (h1 : σ b = some (.cells ⟨[.pointer p, .slice x.base x.len x.cap]⟩ 111 (0, 0))) (h2 : p = none \/ p = some ⟨b, 0, none⟩) (h4 : ∀ g, x.base = some ⟨g, 0, none⟩ -> g ≠ b) (h5 : x.base ≠ none -> x.cap ≠ 0) (h6 : ∀ c, D c ↔ (c = b \/ x.base = some ⟨c, 0, none⟩))
 (hx' : RowsOwn τ 5 1 (brows l') x') (hcap : (x.base ≠ none -> x.cap ≠ 0) -> (x'.base ≠ none -> x'.cap ≠ 0)) (hcase : (∃ g o, x.base = some ⟨g, 0, none⟩ /\ x'.base = x.base /\ Put σ g o τ) \/ (((∃ g, x'.base = some ⟨g, 0, none⟩ /\ σ g = none) \/ x'.base = none) /\ Gr σ τ))
 {F : H -> Prop} (hK : ∀ σ' D', BuAt σ' b l' D' -> Sep σ D σ' D' -> F σ') : stW Tryz.prog 22 (.pointer (some ⟨b, 0 + 1, none⟩)) (.slice x'.base x'.len x'.cap) F τ := by
 have hbb : D b := (h6 b).2 (.inl rfl)
 have h1' : τ b = some (.cells ⟨[.pointer p, .slice x.base x.len x.cap]⟩ 111 (0, 0)) := by
  rcases hcase with ⟨g, o, z1, _, hp⟩ | ⟨_, hg⟩
  ·exact hp.get (Ne.symm (h4 g z1)) h1
  ·exact hg.get h1
 have n4 : ∀ g, x'.base = some ⟨g, 0, none⟩ -> g ≠ b := by
  intro g' e
  rcases hcase with ⟨g, o, z1, z2, hp⟩ | ⟨⟨g, y1, y2⟩ | y, hg⟩
  ·exact h4 g' (by rw [<- z2]; exact e)
  ·rw [y1] at e
   have : g = g' := by injection e with e; injection e
   subst this
   intro e2
   rw [e2, h1] at y2; cases y2
  ·rw [y] at e; cases e
 have S2 : ∀ c o, σ c = some o -> ¬ D c -> τ c = some o /\ x'.base ≠ some ⟨c, 0, none⟩ := by
  intro c o hc hn
  rcases hcase with ⟨g, o', z1, z2, hp⟩ | ⟨z, hg⟩
  ·have hcg : c ≠ g := fun e => hn ((h6 c).2 (.inr (by rw [e]; exact z1)))
   exact ⟨hp.get hcg hc, fun e => hn ((h6 c).2 (.inr (by rw [<- z2]; exact e)))⟩
  ·refine ⟨hg.get hc, fun e => ?_⟩
   rcases z with ⟨g, y1, y2⟩ | y
   ·rw [y1] at e
    have : g = c := by injection e with e; injection e
    subst this
    rw [hc] at y2; cases y2
   ·rw [y] at e; cases e
 refine st_i2 h1' szb_bytes (by rfl) (by rfl) ?_; intro σ3 p3
 refine hK σ3 (fun c => c = b \/ x'.base = some ⟨c, 0, none⟩) ⟨p, x', p3.same, h2, hx'.put p3 (fun e => n4 b e rfl), n4, hcap h5, fun c => Iff.rfl⟩ ?_
 intro c o hc hn
 obtain ⟨q1, q2⟩ := S2 c o hc hn
 have hcb : c ≠ b := fun e => hn ((h6 c).2 (.inl e))
 exact ⟨p3.get hcb q1, fun hd => hd.elim hcb q2⟩
theorem s_BuWrS (h : BuAt σ b l D) (s : ByteArray) (hl : l.length + s.size <= 100000000000) {K : KH} (hK : ∀ σ' D', BuAt σ' b (l ++ s.data.toList) D' -> Sep σ D σ' D' -> K (.tuple ⟨[.int .i64 ((s.size : Nat) : Int), .nilIface]⟩) σ') : callW Tryz.prog 70 [.pointer (some ⟨b, 0, none⟩), .string s] K σ := by
 refine c70 _ _ ?_
 unfold g70
 refine call_i (s_BuCheck h ?_)
 intro σ1 hb1 S1
 refine app_U ?_
 obtain ⟨p, x, h1, h2, h3, h4, h5, h6⟩ := id hb1
 refine ptr_i (rd_L (rdC_of h1 (by rfl)) ?_)
 obtain ⟨i, i1, i2, i3, i4⟩ := info_u8
 refine app_str_i und_bytes und_str i1 i2 i3 i4 h3 hl ?_
 intro x' σ2 hx' hcap hcase
 refine ptr_i ?_
 exact key_BuWr hb1 h1 h2 h4 h5 h6 hx' hcap hcase fun σ' D' B S => hK σ' D' B (S1.trans S)
theorem s_BuStr (h : BuAt σ b l D) (hl : l.length <= 100000000000) {K : KH} (hK : ∀ σ', (∀ c o, σ c = some o -> ¬ D c -> σ' c = some o) -> K (.string ⟨⟨l⟩⟩) σ') : callW Tryz.prog 71 [.pointer (some ⟨b, 0, none⟩)] K σ := by
 refine c71 _ ?_
 unfold g71
 obtain ⟨p, x, h1, h2, h3, h4, h5, h6⟩ := id h
 refine ptr_i (rd_L (rdC_of h1 (by rfl)) (ptr_i (rd_L (rdC_of h1 (by rfl)) ?_)))
 refine sdata_i h5 (and_i (rdC_of h1 (by rfl)) ?_)
 refine ustr_i und_Pu8 cells_u8 h3 (by omega) ?_ ?_
 ·intro e; rw [e] at hK; exact hK σ (fun c o hc _ => hc)
 ·intro g cur o σ' e hg hp
  refine hK σ' fun c o' hc hn => hp.get (fun e2 => hn ((h6 c).2 (.inr (by rw [e2]; exact e)))) hc
theorem s_Bugrow (hb : σ b = some (.cells ⟨[.pointer none, .slice none 0 0]⟩ 111 (0, 0))) {p : Option Addr} {n : Nat} (hn : n <= 100000000000) (h0 : n ≠ 0) {τ : H} (h1 : τ b = some (.cells ⟨[.pointer p, .slice none 0 0]⟩ 111 (0, 0))) (h2 : p = none \/ p = some ⟨b, 0, none⟩) {K : KH} (hK : ∀ σ' D', BuAt σ' b [] D' -> Sep τ (fun c => c = b) σ' D' -> K (.tuple ⟨[]⟩) σ') : callW Tryz.prog 99 [.pointer (some ⟨b, 0, none⟩), .int .i64 (n : Int)] K τ := by
 refine c99 _ _ ?_
 unfold g99
 refine ptr_i (rd_L (rdC_of h1 (by rfl)) (ptr_i (rd_L (rdC_of h1 (by rfl)) ?_)))
 have e : IntKind.i64.wrap (IntKind.i64.wrap (2 * (((0 : Nat) : Nat) : Int)) + (n : Int)) = (n : Int) := by
  rw [show (2 * (((0 : Nat) : Nat) : Int)) = 0 from rfl, wrap_id (x := 0) (by omega) (by omega), wrap_id (by omega) (by omega)]; omega
 show cvalT _ _ [.int .i64 (IntKind.i64.wrap (IntKind.i64.wrap (2 * (((0 : Nat) : Nat) : Int)) + (n : Int)))] _ _ _
 rw [e]
 refine x_MZ (by omega) ?_
 intro g cur σ1 hn1 hg1 hgr hlen
 have h1' := hgr.get h1
 refine and_i (rdC_of h1' (by rfl)) (if_i ⟨bnd_some (by simp) (by simp), bnd_none⟩ ?_)
 refine ptr_i (rd_L (rdC_of h1' (by rfl)) ?_)
 refine copy0_i und_bytes (by kernel_rfl) ?_
 refine ptr_i ?_
 have hgb : g ≠ b := by intro e; rw [e, h1] at hn1; cases hn1
 refine st_i2 h1' szb_bytes (by rfl) (by rfl) ?_; intro σ3 p3
 have hbase : slBase (some ⟨g, 0, none⟩) 0 cur.length 1 = some ⟨g, 0, none⟩ := by unfold slBase; split <;> rfl
 refine hK σ3 (fun c => c = b \/ c = g) ⟨p, ⟨some ⟨g, 0, none⟩, 0, cur.length⟩, ?_, h2, ?_, ?_, ?_, ?_⟩ ?_
 ·have := p3.same
  simp only [hbase] at this
  exact this
 ·exact ⟨rfl, by simp [brows], .inr ⟨g, cur, rfl, p3.get hgb hg1, by simp, Nat.zero_le _, by simp [brows]⟩⟩
 ·intro g' e
  have : g = g' := by injection e with e; injection e
  rw [<- this]; exact hgb
 ·intro _ ; show cur.length ≠ 0; omega
 ·intro c
  constructor
  ·rintro (h | h)
   ·exact .inl h
   ·exact .inr (by rw [h])
  ·rintro (h | h)
   ·exact .inl h
   ·exact .inr (by injection h with e; injection e with e; exact e.symm)
 ·intro c o hc hn
  refine ⟨p3.get hn (hgr.get hc), fun hd => hd.elim hn ?_⟩
  intro e; rw [e, hn1] at hc; cases hc
theorem s_BuGrow (hb : σ b = some (.cells ⟨[.pointer none, .slice none 0 0]⟩ 111 (0, 0))) {n : Nat} (hn : n <= 100000000000) {K : KH} (hK : ∀ σ' D', BuAt σ' b [] D' -> Sep σ (fun c => c = b) σ' D' -> K (.tuple ⟨[]⟩) σ') : callW Tryz.prog 75 [.pointer (some ⟨b, 0, none⟩), .int .i64 (n : Int)] K σ := by
 refine c75 _ _ ?_
 unfold g75
 refine call_i (s_BuCheck (BuAt.new hb) ?_)
 intro σ1 hb1 S1
 refine app_U (br_f (by simp only [decide_eq_false_iff_not]; omega) ?_)
 obtain ⟨p, x, h1, h2, h3, h4, h5, h6⟩ := id hb1
 have hx : x = ⟨none, 0, 0⟩ := by
  obtain ⟨q1, _, ⟨q3, q4, _⟩ | ⟨g, cur, q3, _⟩⟩ := h3
  ·cases x; simp only at q1 q3 q4; simp [brows] at q1; subst q1; subst q3; subst q4; rfl
  ·exact absurd ((h6 g).2 (.inr q3)) (h4 g q3)
 subst hx
 refine ptr_i (rd_L (rdC_of h1 (by rfl)) (ptr_i (rd_L (rdC_of h1 (by rfl)) ?_)))
 show brW (decide (IntKind.i64.wrap ((((0 : Nat) : Nat) : Int) - (((0 : Nat) : Nat) : Int)) < (n : Int))) _ _ _
 rw [show IntKind.i64.wrap ((((0 : Nat) : Nat) : Int) - (((0 : Nat) : Nat) : Int)) = 0 from by decide]
 by_cases h0 : n = 0
 ·refine br_f (by simp only [decide_eq_false_iff_not]; omega) (hK σ1 _ hb1 S1)
 ·refine br_t (by simp only [decide_eq_true_eq]; omega) (call_i (s_Bugrow hb hn h0 h1 h2 ?_))
  intro σ' D' B S
  exact app_U (hK σ' D' B (S1.trans S))
end
end Go.Proofs.YtpfkfphjigcdeaaGreatDoor

set_option maxRecDepth 100000
namespace Go.Proofs.YtpfkfphjigcdeaaGreatDoor
open Go Go.HL Go.Wk
theorem go_Cnt : isGo Tryz.prog 66 = false := by kernel_rfl
theorem fn_Cnt : (Tryz.prog.funcs[66]?).map (fun fn => ((fn.name == "runtime.NumGoroutine"), fn.body.isNone)) = some (false, true) := by kernel_rfl
theorem ex_Cnt : (Tryz.prog.funcs[66]?).bind (fun fn => Extern.find fn) = some Extern.BytealgCount.count := by kernel_rfl
theorem en_Cnt : (Tryz.prog.funcs[66]?).map (fun fn => (Extern.findNext fn).isNone) = some true := by kernel_rfl
theorem x_Cnt (s : ByteArray) (c : UInt8) {F : Int -> H -> Prop} {σ : H} (hF : F ((s.data.toList.count c : Nat) : Int) σ) : cvalT Tryz.prog (.func (.func 66) ⟨[]⟩ ⟨[]⟩) [.string s, .int .u8 (c.toNat : Int)] kI F σ :=
 x_ext go_Cnt fn_Cnt ex_Cnt en_Cnt fun w hw => by
  refine ⟨_, w, σ, Lib.run_countString s _ w, Ext.refl hw, app_I ?_⟩
  have : ((c.toNat : Int)).toNat.toUInt8 = c := by simp
  rw [this]
  exact hF
attribute [local irreducible] ptrW ifW brW andW rdT alW letJ stW muW biW vaW imW callT cvalT app callW invW callVW sizeT oW nilF oneK loopW rfW funW begW roundK exW idxW Gr Put
theorem x_Count1 (s : ByteArray) (c : UInt8) {σ : H} {K : KH} (hK : K (.int .i64 ((s.data.toList.count c : Nat) : Int)) σ) : callW Tryz.prog 30 [.string s, .string ⟨⟨[c]⟩⟩] K σ := by
 refine c30 _ _ ?_
 unfold g30
 refine br_f rfl (br_t rfl (idx_l (c := c) (by decide) rfl ?_))
 exact x_Cnt s c hK
end Go.Proofs.YtpfkfphjigcdeaaGreatDoor

