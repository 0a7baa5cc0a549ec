/- A part of the proof: What is renamed, and renamed back, is as it was. -/
import Derived.Test.YtlpcehbfoogejaaGreatDoorFaw
import Derived.Laws.AppendOwn
import Derived.Laws.Append
import Derived.ArgAppend
/- A SLICE THAT WAS MADE HERE, and grows. -/
namespace Go.HL
open Go
/-- rows of n cells each, in a block of one's own -/
def RowsOwn (σ : H) (e : TypeId) (n : Nat) (rows : List (List Value)) (x : Sl) : Prop :=
  x.len = rows.length ∧ (∀ r ∈ rows, r.length = n) ∧ ((x.base = none ∧ x.cap = 0 ∧ rows = []) ∨ ∃ g cur, x.base = some ⟨g, 0, none⟩ ∧ σ g = some (.cells ⟨cur⟩ e (0, 0)) ∧ cur.length = x.cap * n ∧ x.len ≤ x.cap ∧ cur.take (x.len * n) = rows.flatten)
theorem RowsOwn.nil (σ : H) (e : TypeId) (n : Nat) : RowsOwn σ e n [] ⟨none, 0, 0⟩ := ⟨rfl, by simp, .inl ⟨rfl, rfl, rfl⟩⟩
theorem RowsOwn.gr {σ σ' : H} {e : TypeId} {n : Nat} {rows : List (List Value)} {x : Sl} (h : RowsOwn σ e n rows x) (hg : Gr σ σ') : RowsOwn σ' e n rows x := by
  obtain ⟨h1, h2, h3 | ⟨g, cur, a1, a2, a3⟩⟩ := h
  · exact ⟨h1, h2, .inl h3⟩
  · exact ⟨h1, h2, .inr ⟨g, cur, a1, hg.get a2, a3⟩⟩
theorem RowsOwn.put {σ σ' : H} {e : TypeId} {n : Nat} {rows : List (List Value)} {x : Sl} {b : Nat} {o : Obj} (h : RowsOwn σ e n rows x) (hp : Put σ b o σ') (hn : x.base ≠ some ⟨b, 0, none⟩) : RowsOwn σ' e n rows x := by
  obtain ⟨h1, h2, h3 | ⟨g, cur, a1, a2, a3⟩⟩ := h
  · exact ⟨h1, h2, .inl h3⟩
  · exact ⟨h1, h2, .inr ⟨g, cur, a1, hp.get (fun e => hn (by rw [a1, e])) a2, a3⟩⟩
theorem flat_len {n : Nat} : ∀ {rows : List (List Value)}, (∀ r ∈ rows, r.length = n) → rows.flatten.length = rows.length * n := by
  intro rows
  induction rows with
  | nil => intro _; simp
  | cons r rs ih => intro h; simp only [List.flatten_cons, List.length_append, List.length_cons]; rw [ih fun r hr => h r (List.mem_cons_of_mem _ hr), h r (List.mem_cons_self ..), Nat.add_mul]; omega
theorem flat_get {n : Nat} : ∀ {rows : List (List Value)}, (∀ r ∈ rows, r.length = n) → ∀ i r, rows[i]? = some r → (rows.flatten.drop (i * n)).take n = r := by
  intro rows
  induction rows with
  | nil => intro _ i r h; simp at h
  | cons q rs ih =>
    intro h i r hi
    have hq := h q (List.mem_cons_self ..)
    cases i with
    | zero => simp at hi; subst hi; simp [← hq]
    | succ i =>
      simp at hi
      have := ih (fun r hr => h r (List.mem_cons_of_mem _ hr)) i r hi
      rw [List.flatten_cons, Nat.add_mul, Nat.one_mul, ← hq, Nat.add_comm, List.drop_length_add_append, hq]; exact this
theorem RowsOwn.keep {σ σ' : H} {e : TypeId} {n : Nat} {rows : List (List Value)} {x : Sl} (h : RowsOwn σ e n rows x) (hk : ∀ g o, x.base = some ⟨g, 0, none⟩ → σ g = some o → σ' g = some o) : RowsOwn σ' e n rows x := by
  obtain ⟨h1, h2, h3 | ⟨g, cur, a1, a2, a3⟩⟩ := h
  · exact ⟨h1, h2, .inl h3⟩
  · exact ⟨h1, h2, .inr ⟨g, cur, a1, hk g _ a1 a2, a3⟩⟩
theorem RowsOwn.has {σ : H} {e : TypeId} {n : Nat} {rows : List (List Value)} {x : Sl} (h : RowsOwn σ e n rows x) {g : Nat} (hx : x.base = some ⟨g, 0, none⟩) : σ g ≠ none := by
  obtain ⟨h1, h2, ⟨h3, _⟩ | ⟨g', cur, a1, a2, a3⟩⟩ := h
  · rw [h3] at hx; cases hx
  · rw [a1] at hx; cases hx; rw [a2]; simp
/-- seen as rows -/
theorem RowsOwn.rows {σ : H} {e : TypeId} {n : Nat} {rows : List (List Value)} {x : Sl} (h : RowsOwn σ e n rows x) : RowsAt σ n rows x := by
  obtain ⟨h1, h2, ⟨_, _, h3⟩ | ⟨g, cur, a1, a2, a3, a4, a5⟩⟩ := h
  · exact ⟨h1, .inl h3⟩
  · refine ⟨h1, .inr ⟨g, 0, cur, e, (0, 0), a1, a2, fun i r hi => ⟨h2 r (List.mem_of_getElem? hi), ?_⟩⟩⟩
    have h6 := flat_get h2 i r hi
    have hlt : i < rows.length := by
      rcases Nat.lt_or_ge i rows.length with h | h
      · exact h
      · rw [List.getElem?_eq_none h] at hi; cases hi
    have hle : i * n + n ≤ x.len * n := by rw [h1]; have : (i + 1) * n ≤ rows.length * n := Nat.mul_le_mul_right n hlt; rw [Nat.add_mul, Nat.one_mul] at this; exact this
    rw [← a5] at h6
    rw [Nat.zero_add, ← h6, List.drop_take, List.take_take, Nat.min_eq_left (by omega)]
section
variable {P : Program} {σ : H}
theorem cells_at {w : World} {b o : Nat} {l : List Value} {t : TypeId} {fz : Nat × Nat} (h : w.heap[b]? = some (.cells ⟨l⟩ t fz)) (j : Nat) : w.cell? ((⟨b, o, none⟩ : Addr).add j) = l[o + j]? := by
  rw [add_none]; simp [World.cell?, h]
end
end Go.HL

