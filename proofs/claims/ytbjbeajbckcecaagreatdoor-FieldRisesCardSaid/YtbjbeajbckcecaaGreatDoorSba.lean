/- A part of the proof: FieldRises holds. -/
import Derived.Test.YtbjbeajbckcecaaGreatDoorSaz
import Derived.Laws.IdiomStrings
import Derived.Lib.SliceRun
namespace Go.HL
open Go
section
variable {P : Program} {σ : H} {src dst e : TypeId}
theorem sbytes_i (hs : P.underlying src = some .string) (hd : P.underlying dst = some (.slice e)) (he : P.underlying e = some (.int .u8)) (s : ByteArray) {F : Sl -> H -> Prop} (hF : ∀ x σ', Gr σ σ' -> RowsAt σ' 1 (brows s.data.toList) x -> F x σ') :
 vaW P (convert src dst (.string s)) (.one (.sc .slc)) F σ := by
 intro w hw
 have hrun : (valS (convert src dst (.string s))).run P w = .ok (.value (.slice (some ⟨w.heap.size, 0, none⟩) s.size (grownCap w s.size 0 e))) (w.drew.alloc (.cells (bytesRow s (grownCap w s.size 0 e)) e ((bytesRow s (grownCap w s.size 0 e)).size, (bytesRow s (grownCap w s.size 0 e)).size + 1))) := by
  simp only [valS, Sem.run_bind, run_bytes_of_string w src dst e s hs hd he, Result.andThen_ok, Sem.run_pure]
 rw [hrun]
 have hn : σ w.heap.size = none := by
  cases hg : σ w.heap.size with
  | none => rfl
  | some o => have := hw.lt hg; omega
 have h5 := (Ext.alloc (σ := σ) (w := w.drew) hw (.cells (bytesRow s (grownCap w s.size 0 e)) e ((bytesRow s (grownCap w s.size 0 e)).size, (bytesRow s (grownCap w s.size 0 e)).size + 1))).2
 have hl : s.data.toList.length = s.size := by cases s with | mk d => simp [ByteArray.size]
 refine ⟨_, ⟨h5.le, h5.size, h5.keep, h5.own, h5.os, h5.tape, h5.output⟩, app_L (hF ⟨some ⟨w.heap.size, 0, none⟩, s.size, grownCap w s.size 0 e⟩ _ (Gr.put hn _) ⟨by rw [brows_len, hl], .inr ⟨w.heap.size, 0, (bytesRow s (grownCap w s.size 0 e)).toList, e, _, rfl, H.put_same _ _ _, fun i r hr => ?_⟩⟩)⟩
 unfold brows at hr
 rw [List.getElem?_map] at hr
 cases hc : s.data.toList[i]? with
 | none => rw [hc] at hr; cases hr
 | some c =>
  rw [hc] at hr
  have hr : [Value.int .u8 c.toNat] = r := by simpa using hr
  subst hr
  refine ⟨rfl, ?_⟩
  have hlt : i < s.data.toList.length := by
   rcases Nat.lt_or_ge i s.data.toList.length with h | h
   ·exact h
   ·rw [List.getElem?_eq_none h] at hc; cases hc
  have hg : (bytesRow s (grownCap w s.size 0 e)).toList[i]? = some (.int .u8 c.toNat) := by
   unfold bytesRow
   rw [Array.toList_append, List.getElem?_append_left (by simpa using hlt)]
   simp [hc]
  have hlt2 : i < (bytesRow s (grownCap w s.size 0 e)).toList.length := by
   rcases Nat.lt_or_ge i (bytesRow s (grownCap w s.size 0 e)).toList.length with h | h
   ·exact h
   ·rw [List.getElem?_eq_none h] at hg; cases hg
  rw [Nat.zero_add, Nat.mul_one, List.drop_eq_getElem_cons hlt2]
  rw [List.getElem?_eq_getElem hlt2] at hg
  rw [Option.some.inj hg]; rfl
theorem st_set {t : TypeId} {b o : Nat} {v : Value} {g : H -> Prop} {l : List Value} {ty : TypeId} (hb : σ b = some (.cells ⟨l⟩ ty (0, 0))) (hs : sizeT P t = some 1) (hv : arrL v.cells = [v]) (h1 : v.oneCell' = true) (ho : o < l.length) (h : ∀ σ', Put σ b (.cells ⟨l.set o v⟩ ty (0, 0)) σ' -> g σ') : stW P t (.pointer (some ⟨b, o, none⟩)) v g σ := by
 refine st_i hb (by rw [hv]; exact hs) (by rw [hv]; exact ho) (fun x hx => by rw [hv] at hx; simp at hx; rw [hx]; exact h1) (.inl (Nat.le_refl _)) fun σ' hp => h σ' ?_
 rw [hv] at hp
 have : l.take o ++ [v] ++ l.drop (o + [v].length) = l.set o v := by
  rw [List.set_eq_take_append_cons_drop, if_pos ho]; simp
 rw [this] at hp; exact hp
theorem clear_i {t ty e : TypeId} {cs : List Bool} {i : TypeInfo} {z : Value} (ht : P.underlying t = some (.slice e)) (hi : P.info? e = some i) (hz : i.zero = some z) (hzc : z.cells = #[z]) (h1 : z.oneCell' = true) {g o n c : Nat} {l : List Value} {ty' : TypeId} (hg : σ g = some (.cells ⟨l⟩ ty' (0, 0))) (hl : o + n <= l.length) (hn : 0 < n) {F : H -> Prop}
 (hF : ∀ σ' l', Put σ g (.cells ⟨l'⟩ ty' (0, 0)) σ' -> l'.length = l.length -> l'.take o = l.take o -> F σ') : biW P .clear #[t] ty cs [.slice (some ⟨g, o, none⟩) n c] (.tup []) F σ := by
 intro w hw
 have hgw := hw g _ hg
 have hcell : ∀ j, j < n -> w.cell? ⟨g, o + j, none⟩ = l[o + j]? := fun j _ => by simp [World.cell?, hgw]
 have hc : ∀ j, j < n -> (w.cell? ⟨g, o + j, none⟩).isSome = true := fun j hj => by rw [hcell j hj, List.getElem?_eq_getElem (by omega)]; rfl
 have hf : ∀ j, j < n -> w.frozen? ⟨g, o + j, none⟩ = false := fun j hj => by simp [World.frozen?, hgw]
 have hv : ∀ w, (zeroValue e).run P w = .ok z w := fun w => by simp [zeroValue, typeInfo, hi, hz]
 have hrun := Lib.run_clear_slice (P := P) w t e ty z ht hv hzc h1 g o n c hn hc hf
 have hst := run_storeCells_at (P := P) (o := o) (List.replicate n z) 0 l w hgw (by simpa using hl) (fun v hv' => by rw [List.eq_of_mem_replicate hv']; exact h1) (.inl (Nat.le_refl _))
 have hst2 := run_storeCells_cells (P := P) g o (List.replicate n z) 0 w (by simpa using hc) (by simpa using hf) (by intro v hv'; rw [List.eq_of_mem_replicate hv']; exact h1)
 rw [hst] at hst2
 simp only [Nat.add_zero] at hst2
 injection hst2 with _ hst2
 have hbi : (builtin .clear #[t] ty ⟨cs⟩ ⟨[.slice (some ⟨g, o, none⟩) n c]⟩).run P w = .ok (.value (.tuple #[])) (w.setCells g o (List.replicate n z)) := by
  simp [builtin, hrun]
 rw [hbi, <- hst2]
 refine ⟨_, Ext.set hw hg rfl rfl rfl rfl, app_U (hF _ _ rfl ?_ ?_)⟩
 ·simp; omega
 ·rw [List.append_assoc, List.take_append, List.take_take, Nat.min_self]
  have : o - (l.take o).length = 0 := by rw [List.length_take]; omega
  rw [this]; simp
end
theorem flat_set {n : Nat} : ∀ {rows : List (List Value)} {i k : Nat} {q : List Value} {v : Value}, (∀ r ∈ rows, r.length = n) -> rows[i]? = some q -> k < n -> (rows.set i (q.set k v)).flatten = rows.flatten.set (i * n + k) v := by
 intro rows
 induction rows with
 | nil => intro i k q v _ h; simp at h
 | cons r rs ih =>
  intro i k q v hr hi hk
  have hrl := hr r (List.mem_cons_self ..)
  cases i with
  | zero =>
   simp at hi; subst hi
   simp only [List.set_cons_zero, List.flatten_cons, Nat.zero_mul, Nat.zero_add]
   rw [List.set_append_left _ _ (by omega)]
  | succ i =>
   simp at hi
   have := ih (v := v) (fun r h => hr r (List.mem_cons_of_mem _ h)) hi hk
   simp only [List.set_cons_succ, List.flatten_cons, this]
   rw [List.set_append_right _ _ (by rw [hrl, Nat.add_mul, Nat.one_mul]; omega), hrl]
   congr 2
   rw [Nat.add_mul, Nat.one_mul]; omega
theorem RowsOwn.setc {σ : H} {e : TypeId} {n : Nat} {rows : List (List Value)} {x : Sl} (h : RowsOwn σ e n rows x) {i k : Nat} {q : List Value} (hi : rows[i]? = some q) (hk : k < n) : ∃ g cur, x.base = some ⟨g, 0, none⟩ /\ σ g = some (.cells ⟨cur⟩ e (0, 0)) /\ i * n + k < cur.length /\ cur[i * n + k]? = q[k]? /\ i < x.len /\
 ∀ (v : Value) σ', Put σ g (.cells ⟨cur.set (i * n + k) v⟩ e (0, 0)) σ' -> RowsOwn σ' e n (rows.set i (q.set k v)) x := by
 obtain ⟨h1, h2, ⟨_, _, h3⟩ | ⟨g, cur, a1, a2, a3, a4, a5⟩⟩ := h
 ·rw [h3] at hi; simp at hi
 have hlt : i < rows.length := by
  rcases Nat.lt_or_ge i rows.length with h | h
  ·exact h
  ·rw [List.getElem?_eq_none h] at hi; cases hi
 have hfl : rows.flatten.length = rows.length * n := flat_len h2
 have hin : i * n + k < rows.length * n := by
  have : (i + 1) * n <= rows.length * n := Nat.mul_le_mul_right n hlt
  rw [Nat.add_mul, Nat.one_mul] at this; omega
 have hcap : x.len * n <= x.cap * n := Nat.mul_le_mul_right n a4
 have hcur : i * n + k < cur.length := by rw [a3]; rw [h1] at hcap; omega
 have hq : q.length = n := h2 q (List.mem_of_getElem? hi)
 have hg := flat_get h2 i q hi
 refine ⟨g, cur, a1, a2, hcur, ?_, by omega, fun v σ' hp => ⟨by rw [List.length_set]; exact h1, ?_, .inr ⟨g, _, a1, hp.same, by rw [List.length_set]; exact a3, a4, ?_⟩⟩⟩
 ·rw [<- hg, List.getElem?_take_of_lt hk, List.getElem?_drop, <- a5, List.getElem?_take_of_lt (by rw [h1]; exact hin)]
 ·intro r hr
  rcases List.mem_or_eq_of_mem_set hr with hr | hr
  ·exact h2 r hr
  ·rw [hr, List.length_set]; exact hq
 ·rw [flat_set h2 hi hk, <- a5, List.take_set]
end Go.HL

