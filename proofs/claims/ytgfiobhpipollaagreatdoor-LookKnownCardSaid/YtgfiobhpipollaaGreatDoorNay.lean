/- A part of the proof: LookKnown holds. -/
import Derived.Test.YtgfiobhpipollaaGreatDoorNax
import Derived.Laws.IdiomStrings
import Derived.Lib.SliceRun
namespace Go.HL
open Go
section
variable {P : Program} {σ : H} {src dst e : TypeId}
theorem bstr_i (hs : P.underlying src = some (.slice e)) (he : P.underlying e = some (.int .u8)) (hd : P.underlying dst = some .string) {l : List UInt8} {x : Sl} (hx : RowsAt σ 1 (brows l) x) {F : ByteArray -> H -> Prop} (hF : F ⟨⟨l⟩⟩ σ) :
 vaW P (convert src dst (.slice x.base x.len x.cap)) (.one (.sc .str)) F σ := by
 intro w hw
 have hxl : x.len = l.length := by rw [hx.1, brows_len]
 have hrun : (convert src dst (.slice x.base x.len x.cap)).run P w = .ok (.string ⟨l.toArray⟩) w := by
  obtain ⟨xb, xl, xc⟩ := x
  simp only at hxl hx ⊢
  subst hxl
  cases xb with
  | none =>
   obtain ⟨_, h2 | ⟨_, _, _, _, _, h3, _⟩⟩ := hx
   ·have : l = [] := by cases l with | nil => rfl | cons c r => simp [brows] at h2
    subst this
    show (convert src dst (.slice none 0 xc)).run P w = _
    rw [run_convert_bytes_string w src dst e none 0 xc hs he hd]
    simp [Conv.bytesToString]; rfl
   ·cases h3
  | some a =>
   refine run_convert_bytes_back w src dst e a xc l hs he hd fun j hj => ?_
   obtain ⟨_, h2 | ⟨g, o, cur, t, fz, h3, h4, h5⟩⟩ := hx
   ·have : l = [] := by cases l with | nil => rfl | cons c r => simp [brows] at h2
    subst this; simp at hj
   ·injection h3 with h3
    subst h3
    rw [cells_at (hw g _ h4)]
    obtain ⟨_, h6⟩ := h5 j [.int .u8 (l[j].toNat : Nat)] (by unfold brows; rw [List.getElem?_map, List.getElem?_eq_getElem hj]; rfl)
    have : ((cur.drop (o + j * 1)).take 1)[0]? = some (.int .u8 (l[j].toNat : Nat)) := by rw [h6]; rfl
    rw [List.getElem?_take, List.getElem?_drop] at this
    simpa using this
 have hrun2 : (valS (convert src dst (.slice x.base x.len x.cap))).run P w = .ok (.value (.string ⟨l.toArray⟩)) w := by
  simp only [valS, Sem.run_bind, hrun, Result.andThen_ok, Sem.run_pure]
 rw [hrun2]
 exact ⟨_, Ext.refl hw, app_S hF⟩
end
end Go.HL

