/- A part of a proof. -/
import Derived.Test.YtpfkfphjigcdeaaGreatDoorVat
import Derived.Laws.AppendOwn
import Derived.Laws.Append
import Derived.ArgAppend
namespace Go.HL
open Go
def RowsOwn (σ : H) (e : TypeId) (n : Nat) (rows : List (List Value)) (x : Sl) : Prop :=
 x.len = rows.length /\ (∀ r ∈ rows, r.length = n) /\ ((x.base = none /\ x.cap = 0 /\ rows = []) \/ ∃ g cur, x.base = some ⟨g, 0, none⟩ /\ σ g = some (.cells ⟨cur⟩ e (0, 0)) /\ cur.length = x.cap * n /\ x.len <= x.cap /\ cur.take (x.len * n) = rows.flatten)
theorem RowsOwn.nil (σ : H) (e : TypeId) (n : Nat) : RowsOwn σ e n [] ⟨none, 0, 0⟩ := ⟨rfl, by simp, .inl ⟨rfl, rfl, rfl⟩⟩
theorem RowsOwn.gr {σ σ' : H} {e : TypeId} {n : Nat} {rows : List (List Value)} {x : Sl} (h : RowsOwn σ e n rows x) (hg : Gr σ σ') : RowsOwn σ' e n rows x := by
 obtain ⟨h1, h2, h3 | ⟨g, cur, a1, a2, a3⟩⟩ := h
 ·exact ⟨h1, h2, .inl h3⟩
 ·exact ⟨h1, h2, .inr ⟨g, cur, a1, hg.get a2, a3⟩⟩
theorem RowsOwn.put {σ σ' : H} {e : TypeId} {n : Nat} {rows : List (List Value)} {x : Sl} {b : Nat} {o : Obj} (h : RowsOwn σ e n rows x) (hp : Put σ b o σ') (hn : x.base ≠ some ⟨b, 0, none⟩) : RowsOwn σ' e n rows x := by
 obtain ⟨h1, h2, h3 | ⟨g, cur, a1, a2, a3⟩⟩ := h
 ·exact ⟨h1, h2, .inl h3⟩
 ·exact ⟨h1, h2, .inr ⟨g, cur, a1, hp.get (fun e => hn (by rw [a1, e])) a2, a3⟩⟩
theorem flat_len {n : Nat} : ∀ {rows : List (List Value)}, (∀ r ∈ rows, r.length = n) -> rows.flatten.length = rows.length * n := by
 intro rows
 induction rows with
 | nil => intro _; simp
 | cons r rs ih => intro h; simp only [List.flatten_cons, List.length_append, List.length_cons]; rw [ih fun r hr => h r (List.mem_cons_of_mem _ hr), h r (List.mem_cons_self ..), Nat.add_mul]; omega
theorem flat_get {n : Nat} : ∀ {rows : List (List Value)}, (∀ r ∈ rows, r.length = n) -> ∀ i r, rows[i]? = some r -> (rows.flatten.drop (i * n)).take n = r := by
 intro rows
 induction rows with
 | nil => intro _ i r h; simp at h
 | cons q rs ih =>
  intro h i r hi
  have hq := h q (List.mem_cons_self ..)
  cases i with
  | zero => simp at hi; subst hi; simp [<- hq]
  | succ i =>
   simp at hi
   have := ih (fun r hr => h r (List.mem_cons_of_mem _ hr)) i r hi
   rw [List.flatten_cons, Nat.add_mul, Nat.one_mul, <- hq, Nat.add_comm, List.drop_length_add_append, hq]; exact this
theorem RowsOwn.keep {σ σ' : H} {e : TypeId} {n : Nat} {rows : List (List Value)} {x : Sl} (h : RowsOwn σ e n rows x) (hk : ∀ g o, x.base = some ⟨g, 0, none⟩ -> σ g = some o -> σ' g = some o) : RowsOwn σ' e n rows x := by
 obtain ⟨h1, h2, h3 | ⟨g, cur, a1, a2, a3⟩⟩ := h
 ·exact ⟨h1, h2, .inl h3⟩
 ·exact ⟨h1, h2, .inr ⟨g, cur, a1, hk g _ a1 a2, a3⟩⟩
theorem RowsOwn.has {σ : H} {e : TypeId} {n : Nat} {rows : List (List Value)} {x : Sl} (h : RowsOwn σ e n rows x) {g : Nat} (hx : x.base = some ⟨g, 0, none⟩) : σ g ≠ none := by
 obtain ⟨h1, h2, ⟨h3, _⟩ | ⟨g', cur, a1, a2, a3⟩⟩ := h
 ·rw [h3] at hx; cases hx
 ·rw [a1] at hx; cases hx; rw [a2]; simp
theorem RowsOwn.rows {σ : H} {e : TypeId} {n : Nat} {rows : List (List Value)} {x : Sl} (h : RowsOwn σ e n rows x) : RowsAt σ n rows x := by
 obtain ⟨h1, h2, ⟨_, _, h3⟩ | ⟨g, cur, a1, a2, a3, a4, a5⟩⟩ := h
 ·exact ⟨h1, .inl h3⟩
 ·refine ⟨h1, .inr ⟨g, 0, cur, e, (0, 0), a1, a2, fun i r hi => ⟨h2 r (List.mem_of_getElem? hi), ?_⟩⟩⟩
  have h6 := flat_get h2 i r hi
  have hlt : i < rows.length := by
   rcases Nat.lt_or_ge i rows.length with h | h
   ·exact h
   ·rw [List.getElem?_eq_none h] at hi; cases hi
  have hle : i * n + n <= x.len * n := by rw [h1]; have : (i + 1) * n <= rows.length * n := Nat.mul_le_mul_right n hlt; rw [Nat.add_mul, Nat.one_mul] at this; exact this
  rw [<- a5] at h6
  rw [Nat.zero_add, <- h6, List.drop_take, List.take_take, Nat.min_eq_left (by omega)]
section
variable {P : Program} {σ : H}
theorem cells_at {w : World} {b o : Nat} {l : List Value} {t : TypeId} {fz : Nat × Nat} (h : w.heap[b]? = some (.cells ⟨l⟩ t fz)) (j : Nat) : w.cell? ((⟨b, o, none⟩ : Addr).add j) = l[o + j]? := by
 rw [add_none]; simp [World.cell?, h]
theorem append_i {t ty e : TypeId} {i : TypeInfo} {z : Value} {n bytes : Nat} {cs : List Bool} {rows : List (List Value)} {x : Sl} {b : Nat} {r : List Value} {tb : TypeId} {fz : Nat × Nat} {F : Sl -> H -> Prop}
 (ht : P.underlying t = some (.slice e)) (hi : P.info? e = some i) (hz : i.zero = some z) (hsize : i.size = n) (hby : i.bytes = bytes) (hzs : z.cells.size = n) (hn : 0 < n)
 (h : RowsOwn σ e n rows x) (hb : σ b = some (.cells ⟨r⟩ tb fz)) (hr : r.length = n) (hone : ∀ u ∈ r, u.oneCell' = true) (hlen : rows.length < 1000000000) (hbytes : bytes <= 100000)
 (hK : ∀ x' σ', RowsOwn σ' e n (rows ++ [r]) x' -> ((∃ g o, x.base = some ⟨g, 0, none⟩ /\ x'.base = x.base /\ Put σ g o σ') \/ (∃ g, x'.base = some ⟨g, 0, none⟩ /\ σ g = none /\ Gr σ σ')) -> F x' σ') :
 biW P .append #[t, t] ty cs [.slice x.base x.len x.cap, .slice (some ⟨b, 0, none⟩) 1 1] (.one (.sc .slc)) F σ := by
 intro w hw
 obtain ⟨h1, h2, h3⟩ := h
 have hwb := hw b _ hb
 have hnews : ∀ j u, r[j]? = some u -> w.cell? ((⟨b, 0, none⟩ : Addr).add j) = some u := by
  intro j u hu; rw [cells_at hwb, Nat.zero_add]; exact hu
 have hl1 : r.length = 1 * i.size := by rw [hsize, hr, Nat.one_mul]
 have hall : ∀ q ∈ rows ++ [r], q.length = n := by
  intro q hq
  rcases List.mem_append.1 hq with hq | hq
  ·exact h2 q hq
  ·simp at hq; rw [hq, hr]
 have hbi : ∀ (a c : Value), (builtin .append #[t, t] ty ⟨cs⟩ ⟨[a, c]⟩).run P w = ((Builtin.append_ #[t, t] ty #[a, c]).run P w).andThen fun v w' => .ok (.value v) w' := by
  intro a c; simp [builtin]
 have hwn : σ w.heap.size = none := by
  cases hg : σ w.heap.size with
  | none => rfl
  | some o => have := hw.lt hg; omega
 have extd : ∀ o : Obj, Ext σ w (σ.put w.heap.size o) (w.drew.alloc o) := by
  intro o
  have h5 := (Ext.alloc (σ := σ) (w := w.drew) hw o).2
  exact ⟨h5.le, h5.size, h5.keep, h5.own, h5.os, h5.tape, h5.output⟩
 rcases h3 with ⟨h3, h4, h5⟩ | ⟨g, cur, h3, h4, h5, h6, h7⟩
 ·subst h5
  obtain ⟨xb, xl, xc⟩ := x
  simp only at h1 h3 h4
  simp at h1
  subst h1; subst h3; subst h4
  have hrun := run_append_nil (P := P) (w := w) t ty e i z ht hi hz ⟨b, 0, none⟩ 1 1 r hl1 hnews (by omega) (by omega) (by rw [hby]; omega)
  show reach P _ ((builtin .append #[t, t] ty ⟨cs⟩ ⟨[.slice none 0 0, .slice (some ⟨b, 0, none⟩) 1 1]⟩).run P w)
  rw [hbi, hrun]
  have hge := grownCap_ge w 1 0 e
  refine ⟨_, extd _, app_L (hK ⟨some ⟨w.heap.size, 0, none⟩, 1, grownCap w 1 0 e⟩ _ ⟨rfl, hall, .inr ⟨w.heap.size, (r.toArray ++ Builtin.zeroCells z.cells (grownCap w 1 0 e - 1)).toList, rfl, H.put_same _ _ _, ?_, hge, ?_⟩⟩ (.inr ⟨w.heap.size, rfl, hwn, Gr.put hwn _⟩))⟩
  ·simp [size_zeroCells, hzs, hr]
   have : grownCap w 1 0 e * n = (grownCap w 1 0 e - 1) * n + n := by
    conv => lhs; rw [show grownCap w 1 0 e = (grownCap w 1 0 e - 1) + 1 by omega, Nat.add_mul, Nat.one_mul]
   omega
  ·simp [hr]
 ·have hwg := hw g _ h4
  obtain ⟨xb, xl, xc⟩ := x
  simp only at h1 h3 h5 h6 h7
  subst h3
  by_cases hroom : xl + 1 <= xc
  ·have hfit : xl * i.size + r.length <= (⟨cur⟩ : Array Value).size := by
    show xl * i.size + r.length <= cur.length
    rw [hsize, hr, h5]
    have : (xl + 1) * n <= xc * n := Nat.mul_le_mul_right n hroom
    rw [Nat.add_mul, Nat.one_mul] at this; exact this
   have hrun := run_append_room (P := P) (w := w) t ty e i ht hi g xl xc ⟨cur⟩ hwg ⟨b, 0, none⟩ 1 1 r hl1 hnews hone hroom hfit
   show reach P _ ((builtin .append #[t, t] ty ⟨cs⟩ ⟨[.slice (some ⟨g, 0, none⟩) xl xc, .slice (some ⟨b, 0, none⟩) 1 1]⟩).run P w)
   rw [hbi, hrun]
   have hset : (w.setRow g (cur.take (xl * i.size) ++ r ++ cur.drop (xl * i.size + r.length)).toArray).heap = w.heap.setIfInBounds g (.cells ⟨cur.take (xl * i.size) ++ r ++ cur.drop (xl * i.size + r.length)⟩ e (0, 0)) := by
    unfold World.setRow
    apply Array.ext_getElem?
    intro k
    have hlt : g < w.heap.size := (Array.getElem?_eq_some_iff.1 hwg).1
    rw [Array.getElem?_setIfInBounds, Array.getElem?_modify]
    split
    ·rename_i e; subst e; rw [hwg]; simp
    ·rfl
   refine ⟨_, Ext.set hw h4 hset rfl rfl rfl, app_L (hK ⟨some ⟨g, 0, none⟩, xl + 1, xc⟩ _ ⟨?_, hall, .inr ⟨g, _, rfl, H.put_same _ _ _, ?_, hroom, ?_⟩⟩ (.inl ⟨g, _, rfl, rfl, rfl⟩))⟩
   ·simp [h1]
   ·rw [hsize, hr]
    have hle : xl * n + n <= cur.length := by have := hfit; rw [hsize, hr] at this; exact this
    simp only [List.length_append, List.length_take, List.length_drop, hr]
    omega
   ·rw [hsize, hr, h7, List.flatten_append]
    have hfl : rows.flatten.length = xl * n := by rw [flat_len h2, h1]
    have e2 : (xl + 1) * n = (rows.flatten ++ r).length := by rw [List.length_append, hfl, hr, Nat.add_mul, Nat.one_mul]
    show ((rows.flatten ++ r) ++ List.drop (xl * n + n) cur).take ((xl + 1) * n) = _
    rw [e2, List.take_left]; simp
  ·have holds : ∀ j u, rows.flatten[j]? = some u -> w.cell? ((⟨g, 0, none⟩ : Addr).add j) = some u := by
    intro j u hu
    rw [cells_at hwg, Nat.zero_add]
    rw [<- h7] at hu
    rw [List.getElem?_take] at hu
    split at hu
    ·exact hu
    ·cases hu
   have hlo : rows.flatten.length = xl * i.size := by rw [flat_len h2, h1, hsize]
   have hbound : (xl + 1) * i.bytes <= 140737488355328 := by
    rw [hby]
    have : (xl + 1) * bytes <= 1000000000 * 100000 := Nat.mul_le_mul (by omega) hbytes
    omega
   have hrun := run_append_grow (P := P) w t ty e i z ht hi hz ⟨g, 0, none⟩ xl xc rows.flatten hlo holds ⟨b, 0, none⟩ 1 1 r hl1 hnews (by omega) (by omega) (growslice_fits (by omega) hbound)
   show reach P _ ((builtin .append #[t, t] ty ⟨cs⟩ ⟨[.slice (some ⟨g, 0, none⟩) xl xc, .slice (some ⟨b, 0, none⟩) 1 1]⟩).run P w)
   rw [hbi, hrun]
   have hge := grownCap_ge w (xl + 1) xc e
   have hfl : rows.flatten.length = xl * n := by rw [flat_len h2, h1]
   refine ⟨_, extd _, app_L (hK ⟨some ⟨w.heap.size, 0, none⟩, xl + 1, grownCap w (xl + 1) xc e⟩ _ ⟨?_, hall, .inr ⟨w.heap.size, (rows.flatten.toArray ++ r.toArray ++ Builtin.zeroCells z.cells (grownCap w (xl + 1) xc e - (xl + 1))).toList, rfl, H.put_same _ _ _, ?_, hge, ?_⟩⟩ (.inr ⟨w.heap.size, rfl, hwn, Gr.put hwn _⟩))⟩
   ·simp [h1]
   ·simp only [Array.toList_append, List.length_append, Array.length_toList, size_zeroCells, hzs, hr, hfl]
    have : grownCap w (xl + 1) xc e * n = (grownCap w (xl + 1) xc e - (xl + 1)) * n + (xl + 1) * n := by
     rw [<- Nat.add_mul, show grownCap w (xl + 1) xc e - (xl + 1) + (xl + 1) = grownCap w (xl + 1) xc e by omega]
    rw [Nat.add_mul, Nat.one_mul] at this
    have l1 : rows.flatten.toArray.size = xl * n := by simp [hfl]
    have l2 : r.toArray.size = n := by simp [hr]
    omega
   ·rw [List.flatten_append]
    have e2 : (xl + 1) * n = (rows.flatten ++ r).length := by rw [List.length_append, hfl, hr, Nat.add_mul, Nat.one_mul]
    show List.take ((xl + 1) * n) _ = _
    rw [Array.toList_append, Array.toList_append]
    show List.take ((xl + 1) * n) ((rows.flatten ++ r) ++ _) = _
    rw [e2, List.take_left]; simp
end
end Go.HL

