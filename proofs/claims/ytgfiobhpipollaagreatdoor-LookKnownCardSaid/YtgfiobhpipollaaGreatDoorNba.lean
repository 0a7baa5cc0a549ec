/- A part of the proof: LookKnown holds. -/
import Derived.Test.YtgfiobhpipollaaGreatDoorNaz
namespace Go.HL
open Go Go.Wk
theorem bsz (l : List UInt8) : (⟨⟨l⟩⟩ : ByteArray).size = l.length := rfl
theorem bex (l : List UInt8) (a b : Nat) : (⟨⟨l⟩⟩ : ByteArray).extract a b = ⟨⟨(l.take b).drop a⟩⟩ := bytes_ext (extract_toList _ a b)
theorem ext_drop (l : List UInt8) (k : Nat) : (⟨⟨l⟩⟩ : ByteArray).extract k (⟨⟨l⟩⟩ : ByteArray).size = ⟨⟨l.drop k⟩⟩ := by
 rw [bex, bsz, List.take_length]
theorem strRows_len (l : List ByteArray) : (strRows l).length = l.length := by simp [strRows]
theorem sLen {σ : H} {l : List ByteArray} {x : Sl} (h : RowsAt σ 1 (strRows l) x) : x.len = l.length := by rw [h.1]; simp [strRows]
theorem sRow {σ : H} {l : List ByteArray} {x : Sl} (h : RowsAt σ 1 (strRows l) x) {i : Nat} {s : ByteArray} (hi : l[i]? = some s) : ∃ g o, x.base = some ⟨g, o, none⟩ /\ i < x.len /\ rdC g (o + i * 1) σ = some (.string s) := by
 obtain ⟨g, o, h1, h2, h3⟩ := h.rdA (i := i) (r := [.string s]) (by unfold strRows; rw [List.getElem?_map, hi]; rfl) (by decide)
 refine ⟨g, o, h1, ?_, by simpa using h3 0 _ rfl⟩
 rw [sLen h]
 rcases Nat.lt_or_ge i l.length with h | h
 ·exact h
 ·rw [List.getElem?_eq_none h] at hi; cases hi
end Go.HL

