/- A part of the proof: LookSame holds. -/
import Derived.Test.YtgfiobhpipollaaGreatDoorKax
import Derived.Laws.IdiomStrings
import Derived.Lib.SliceRun
namespace Go.HL
open Go
section
variable {P : Program} {σ : H} {src dst e : TypeId}
theorem bstr_i (hs : P.underlying src = some (.slice e)) (he : P.underlying e = some (.int .u8)) (hd : P.underlying dst = some .string) {l : List UInt8} {x : Sl} (hx : RowsAt σ 1 (brows l) x) {F : ByteArray -> H -> Prop} (hF : F ⟨⟨l⟩⟩ σ) :
 vaW P (convert src dst (.slice x.base x.len x.cap)) (.one (.sc .str)) F σ := by
 intro w hw
 have hxl : x.len = l.length := by rw [hx.1, brows_len]
 have hrun : (convert src dst (.slice x.base x.len x.cap)).run P w = .ok (.string ⟨l.toArray⟩) w := by
  obtain ⟨xb, xl, xc⟩ := x
  simp only at hxl hx ⊢
  subst hxl
  cases xb with
  | none =>
   obtain ⟨_, h2 | ⟨_, _, _, _, _, h3, _⟩⟩ := hx
   ·have : l = [] := by cases l with | nil => rfl | cons c r => simp [brows] at h2
    subst this
    show (convert src dst (.slice none 0 xc)).run P w = _
    rw [run_convert_bytes_string w src dst e none 0 xc hs he hd]
    simp [Conv.bytesToString]; rfl
   ·cases h3
  | some a =>
   refine run_convert_bytes_back w src dst e a xc l hs he hd fun j hj => ?_
   obtain ⟨_, h2 | ⟨g, o, cur, t, fz, h3, h4, h5⟩⟩ := hx
   ·have : l = [] := by cases l with | nil => rfl | cons c r => simp [brows] at h2
    subst this; simp at hj
   ·injection h3 with h3
    subst h3
    rw [cells_at (hw g _ h4)]
    obtain ⟨_, h6⟩ := h5 j [.int .u8 (l[j].toNat : Nat)] (by unfold brows; rw [List.getElem?_map, List.getElem?_eq_getElem hj]; rfl)
    have : ((cur.drop (o + j * 1)).take 1)[0]? = some (.int .u8 (l[j].toNat : Nat)) := by rw [h6]; rfl
    rw [List.getElem?_take, List.getElem?_drop] at this
    simpa using this
 have hrun2 : (valS (convert src dst (.slice x.base x.len x.cap))).run P w = .ok (.value (.string ⟨l.toArray⟩)) w := by
  simp only [valS, Sem.run_bind, hrun, Result.andThen_ok, Sem.run_pure]
 rw [hrun2]
 exact ⟨_, Ext.refl hw, app_S hF⟩
end
theorem flat_set {n : Nat} : ∀ {rows : List (List Value)} {i k : Nat} {q : List Value} {v : Value}, (∀ r ∈ rows, r.length = n) -> rows[i]? = some q -> k < n -> (rows.set i (q.set k v)).flatten = rows.flatten.set (i * n + k) v := by
 intro rows
 induction rows with
 | nil => intro i k q v _ h; simp at h
 | cons r rs ih =>
  intro i k q v hr hi hk
  have hrl := hr r (List.mem_cons_self ..)
  cases i with
  | zero =>
   simp at hi; subst hi
   simp only [List.set_cons_zero, List.flatten_cons, Nat.zero_mul, Nat.zero_add]
   rw [List.set_append_left _ _ (by omega)]
  | succ i =>
   simp at hi
   have := ih (v := v) (fun r h => hr r (List.mem_cons_of_mem _ h)) hi hk
   simp only [List.set_cons_succ, List.flatten_cons, this]
   rw [List.set_append_right _ _ (by rw [hrl, Nat.add_mul, Nat.one_mul]; omega), hrl]
   congr 2
   rw [Nat.add_mul, Nat.one_mul]; omega
theorem RowsOwn.setc {σ : H} {e : TypeId} {n : Nat} {rows : List (List Value)} {x : Sl} (h : RowsOwn σ e n rows x) {i k : Nat} {q : List Value} (hi : rows[i]? = some q) (hk : k < n) : ∃ g cur, x.base = some ⟨g, 0, none⟩ /\ σ g = some (.cells ⟨cur⟩ e (0, 0)) /\ i * n + k < cur.length /\ cur[i * n + k]? = q[k]? /\ i < x.len /\
 ∀ (v : Value) σ', Put σ g (.cells ⟨cur.set (i * n + k) v⟩ e (0, 0)) σ' -> RowsOwn σ' e n (rows.set i (q.set k v)) x := by
 obtain ⟨h1, h2, ⟨_, _, h3⟩ | ⟨g, cur, a1, a2, a3, a4, a5⟩⟩ := h
 ·rw [h3] at hi; simp at hi
 have hlt : i < rows.length := by
  rcases Nat.lt_or_ge i rows.length with h | h
  ·exact h
  ·rw [List.getElem?_eq_none h] at hi; cases hi
 have hfl : rows.flatten.length = rows.length * n := flat_len h2
 have hin : i * n + k < rows.length * n := by
  have : (i + 1) * n <= rows.length * n := Nat.mul_le_mul_right n hlt
  rw [Nat.add_mul, Nat.one_mul] at this; omega
 have hcap : x.len * n <= x.cap * n := Nat.mul_le_mul_right n a4
 have hcur : i * n + k < cur.length := by rw [a3]; rw [h1] at hcap; omega
 have hq : q.length = n := h2 q (List.mem_of_getElem? hi)
 have hg := flat_get h2 i q hi
 refine ⟨g, cur, a1, a2, hcur, ?_, by omega, fun v σ' hp => ⟨by rw [List.length_set]; exact h1, ?_, .inr ⟨g, _, a1, hp.same, by rw [List.length_set]; exact a3, a4, ?_⟩⟩⟩
 ·rw [<- hg, List.getElem?_take_of_lt hk, List.getElem?_drop, <- a5, List.getElem?_take_of_lt (by rw [h1]; exact hin)]
 ·intro r hr
  rcases List.mem_or_eq_of_mem_set hr with hr | hr
  ·exact h2 r hr
  ·rw [hr, List.length_set]; exact hq
 ·rw [flat_set h2 hi hk, <- a5, List.take_set]
end Go.HL

