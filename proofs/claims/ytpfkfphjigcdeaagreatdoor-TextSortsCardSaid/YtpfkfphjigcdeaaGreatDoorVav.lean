/- A part of a proof. -/
import Derived.Test.YtpfkfphjigcdeaaGreatDoorVau
namespace Go.HL
open Go
theorem Put.intro (σ : H) (b : Nat) (o : Obj) : Put σ b o (σ.put b o) := rfl
theorem RowsOwn.last {σ : H} {e : TypeId} {n : Nat} {rows : List (List Value)} {q : List Value} {x : Sl} (h : RowsOwn σ e n (rows ++ [q]) x) (hn : 0 < n) : ∃ g cur, x.base = some ⟨g, 0, none⟩ /\ σ g = some (.cells ⟨cur⟩ e (0, 0)) /\ rows.length * n + n <= cur.length /\ x.len = rows.length + 1 /\
 ∀ (r : List Value) σ', r.length = n -> Put σ g (.cells ⟨cur.take (rows.length * n) ++ r ++ cur.drop (rows.length * n + n)⟩ e (0, 0)) σ' -> RowsOwn σ' e n (rows ++ [r]) x := by
 obtain ⟨h1, h2, ⟨_, _, h3⟩ | ⟨g, cur, a1, a2, a3, a4, a5⟩⟩ := h
 ·simp at h3
 have hl : x.len = rows.length + 1 := by rw [h1]; simp
 have hc : rows.length * n + n <= cur.length := by
  rw [a3]
  have : (rows.length + 1) * n <= x.cap * n := Nat.mul_le_mul_right n (by omega)
  rw [Nat.add_mul, Nat.one_mul] at this; exact this
 refine ⟨g, cur, a1, a2, hc, hl, fun r σ' hr hp => ?_⟩
 have hrows : ∀ s ∈ rows, s.length = n := fun s hs => h2 s (List.mem_append_left _ hs)
 have hfl : rows.flatten.length = rows.length * n := flat_len hrows
 have hmul : (rows.length + 1) * n = rows.length * n + n := by rw [Nat.add_mul, Nat.one_mul]
 refine ⟨by rw [hl]; simp, ?_, .inr ⟨g, _, a1, hp.same, ?_, a4, ?_⟩⟩
 ·intro s hs
  rcases List.mem_append.1 hs with hs | hs
  ·exact hrows s hs
  ·simp at hs; subst hs; exact hr
 ·simp only [List.length_append, List.length_take, List.length_drop, hr]
  rw [<- a3]; omega
 ·rw [hl, hmul]
  have e1 : cur.take (rows.length * n) = rows.flatten := by
   have := congrArg (List.take (rows.length * n)) a5
   rw [List.take_take, hl, hmul, Nat.min_eq_left (by omega)] at this
   rw [this]
   simp only [List.flatten_append, List.flatten_cons, List.flatten_nil, List.append_nil]
   rw [<- hfl, List.take_left]
  rw [e1, List.append_assoc, show rows.length * n + n = rows.flatten.length + n by omega, List.take_length_add_append]
  simp only [List.flatten_append, List.flatten_cons, List.flatten_nil, List.append_nil]
  rw [<- hr, List.take_left]
end Go.HL

