/- A part of a proof. -/
import Derived.Test.YtpfkfphjigcdeaaGreatDoorVay
import Derived.Laws.IdiomStrings
import Derived.Lib.SliceRun
namespace Go.HL
open Go
section
variable {P : Program} {σ : H} {src dst e : TypeId}
theorem sbytes_i (hs : P.underlying src = some .string) (hd : P.underlying dst = some (.slice e)) (he : P.underlying e = some (.int .u8)) (s : ByteArray) {F : Sl -> H -> Prop} (hF : ∀ x σ', Gr σ σ' -> RowsAt σ' 1 (brows s.data.toList) x -> F x σ') :
 vaW P (convert src dst (.string s)) (.one (.sc .slc)) F σ := by
 intro w hw
 have hrun : (valS (convert src dst (.string s))).run P w = .ok (.value (.slice (some ⟨w.heap.size, 0, none⟩) s.size (grownCap w s.size 0 e))) (w.drew.alloc (.cells (bytesRow s (grownCap w s.size 0 e)) e ((bytesRow s (grownCap w s.size 0 e)).size, (bytesRow s (grownCap w s.size 0 e)).size + 1))) := by
  simp only [valS, Sem.run_bind, run_bytes_of_string w src dst e s hs hd he, Result.andThen_ok, Sem.run_pure]
 rw [hrun]
 have hn : σ w.heap.size = none := by
  cases hg : σ w.heap.size with
  | none => rfl
  | some o => have := hw.lt hg; omega
 have h5 := (Ext.alloc (σ := σ) (w := w.drew) hw (.cells (bytesRow s (grownCap w s.size 0 e)) e ((bytesRow s (grownCap w s.size 0 e)).size, (bytesRow s (grownCap w s.size 0 e)).size + 1))).2
 have hl : s.data.toList.length = s.size := by cases s with | mk d => simp [ByteArray.size]
 refine ⟨_, ⟨h5.le, h5.size, h5.keep, h5.own, h5.os, h5.tape, h5.output⟩, app_L (hF ⟨some ⟨w.heap.size, 0, none⟩, s.size, grownCap w s.size 0 e⟩ _ (Gr.put hn _) ⟨by rw [brows_len, hl], .inr ⟨w.heap.size, 0, (bytesRow s (grownCap w s.size 0 e)).toList, e, _, rfl, H.put_same _ _ _, fun i r hr => ?_⟩⟩)⟩
 unfold brows at hr
 rw [List.getElem?_map] at hr
 cases hc : s.data.toList[i]? with
 | none => rw [hc] at hr; cases hr
 | some c =>
  rw [hc] at hr
  have hr : [Value.int .u8 c.toNat] = r := by simpa using hr
  subst hr
  refine ⟨rfl, ?_⟩
  have hlt : i < s.data.toList.length := by
   rcases Nat.lt_or_ge i s.data.toList.length with h | h
   ·exact h
   ·rw [List.getElem?_eq_none h] at hc; cases hc
  have hg : (bytesRow s (grownCap w s.size 0 e)).toList[i]? = some (.int .u8 c.toNat) := by
   unfold bytesRow
   rw [Array.toList_append, List.getElem?_append_left (by simpa using hlt)]
   simp [hc]
  have hlt2 : i < (bytesRow s (grownCap w s.size 0 e)).toList.length := by
   rcases Nat.lt_or_ge i (bytesRow s (grownCap w s.size 0 e)).toList.length with h | h
   ·exact h
   ·rw [List.getElem?_eq_none h] at hg; cases hg
  rw [Nat.zero_add, Nat.mul_one, List.drop_eq_getElem_cons hlt2]
  rw [List.getElem?_eq_getElem hlt2] at hg
  rw [Option.some.inj hg]; rfl
theorem bstr_i (hs : P.underlying src = some (.slice e)) (he : P.underlying e = some (.int .u8)) (hd : P.underlying dst = some .string) {l : List UInt8} {x : Sl} (hx : RowsAt σ 1 (brows l) x) {F : ByteArray -> H -> Prop} (hF : F ⟨⟨l⟩⟩ σ) :
 vaW P (convert src dst (.slice x.base x.len x.cap)) (.one (.sc .str)) F σ := by
 intro w hw
 have hxl : x.len = l.length := by rw [hx.1, brows_len]
 have hrun : (convert src dst (.slice x.base x.len x.cap)).run P w = .ok (.string ⟨l.toArray⟩) w := by
  obtain ⟨xb, xl, xc⟩ := x
  simp only at hxl hx ⊢
  subst hxl
  cases xb with
  | none =>
   obtain ⟨_, h2 | ⟨_, _, _, _, _, h3, _⟩⟩ := hx
   ·have : l = [] := by cases l with | nil => rfl | cons c r => simp [brows] at h2
    subst this
    show (convert src dst (.slice none 0 xc)).run P w = _
    rw [run_convert_bytes_string w src dst e none 0 xc hs he hd]
    simp [Conv.bytesToString]; rfl
   ·cases h3
  | some a =>
   refine run_convert_bytes_back w src dst e a xc l hs he hd fun j hj => ?_
   obtain ⟨_, h2 | ⟨g, o, cur, t, fz, h3, h4, h5⟩⟩ := hx
   ·have : l = [] := by cases l with | nil => rfl | cons c r => simp [brows] at h2
    subst this; simp at hj
   ·injection h3 with h3
    subst h3
    rw [cells_at (hw g _ h4)]
    obtain ⟨_, h6⟩ := h5 j [.int .u8 (l[j].toNat : Nat)] (by unfold brows; rw [List.getElem?_map, List.getElem?_eq_getElem hj]; rfl)
    have : ((cur.drop (o + j * 1)).take 1)[0]? = some (.int .u8 (l[j].toNat : Nat)) := by rw [h6]; rfl
    rw [List.getElem?_take, List.getElem?_drop] at this
    simpa using this
 have hrun2 : (valS (convert src dst (.slice x.base x.len x.cap))).run P w = .ok (.value (.string ⟨l.toArray⟩)) w := by
  simp only [valS, Sem.run_bind, hrun, Result.andThen_ok, Sem.run_pure]
 rw [hrun2]
 exact ⟨_, Ext.refl hw, app_S hF⟩
theorem clear_i {t ty e : TypeId} {cs : List Bool} {i : TypeInfo} {z : Value} (ht : P.underlying t = some (.slice e)) (hi : P.info? e = some i) (hz : i.zero = some z) (hzc : z.cells = #[z]) (h1 : z.oneCell' = true) {g o n c : Nat} {l : List Value} {ty' : TypeId} (hg : σ g = some (.cells ⟨l⟩ ty' (0, 0))) (hl : o + n <= l.length) (hn : 0 < n) {F : H -> Prop}
 (hF : ∀ σ' l', Put σ g (.cells ⟨l'⟩ ty' (0, 0)) σ' -> l'.length = l.length -> l'.take o = l.take o -> F σ') : biW P .clear #[t] ty cs [.slice (some ⟨g, o, none⟩) n c] (.tup []) F σ := by
 intro w hw
 have hgw := hw g _ hg
 have hcell : ∀ j, j < n -> w.cell? ⟨g, o + j, none⟩ = l[o + j]? := fun j _ => by simp [World.cell?, hgw]
 have hc : ∀ j, j < n -> (w.cell? ⟨g, o + j, none⟩).isSome = true := fun j hj => by rw [hcell j hj, List.getElem?_eq_getElem (by omega)]; rfl
 have hf : ∀ j, j < n -> w.frozen? ⟨g, o + j, none⟩ = false := fun j hj => by simp [World.frozen?, hgw]
 have hv : ∀ w, (zeroValue e).run P w = .ok z w := fun w => by simp [zeroValue, typeInfo, hi, hz]
 have hrun := Lib.run_clear_slice (P := P) w t e ty z ht hv hzc h1 g o n c hn hc hf
 have hst := run_storeCells_at (P := P) (o := o) (List.replicate n z) 0 l w hgw (by simpa using hl) (fun v hv' => by rw [List.eq_of_mem_replicate hv']; exact h1) (.inl (Nat.le_refl _))
 have hst2 := run_storeCells_cells (P := P) g o (List.replicate n z) 0 w (by simpa using hc) (by simpa using hf) (by intro v hv'; rw [List.eq_of_mem_replicate hv']; exact h1)
 rw [hst] at hst2
 simp only [Nat.add_zero] at hst2
 injection hst2 with _ hst2
 have hbi : (builtin .clear #[t] ty ⟨cs⟩ ⟨[.slice (some ⟨g, o, none⟩) n c]⟩).run P w = .ok (.value (.tuple #[])) (w.setCells g o (List.replicate n z)) := by
  simp [builtin, hrun]
 rw [hbi, <- hst2]
 refine ⟨_, Ext.set hw hg rfl rfl rfl rfl, app_U (hF _ _ rfl ?_ ?_)⟩
 ·simp; omega
 ·rw [List.append_assoc, List.take_append, List.take_take, Nat.min_self]
  have : o - (l.take o).length = 0 := by rw [List.length_take]; omega
  rw [this]; simp
end
end Go.HL

