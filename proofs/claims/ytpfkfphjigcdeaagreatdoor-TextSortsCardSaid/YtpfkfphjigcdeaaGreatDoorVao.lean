/- A part of a proof. -/
import Derived.Test.YtpfkfphjigcdeaaGreatDoorVan
namespace Go.HL
open Go
variable {P : Program}
theorem range_str {t : TypeId} (ht : P.underlying t = some .string) (s : ByteArray) {F : Option Addr -> H -> Prop} {σ : H} (h : ∀ b σ', Gr σ σ' -> σ' b = some (.stringIter s 0) -> σ b = none -> F (some ⟨b, 0, none⟩) σ') : vaW P (Instr.range t (.string s)) (.one (.sc .ptr)) F σ := by
 intro w hw
 have hrun : (valS (Instr.range t (.string s))).run P w = .ok (.value (.pointer (some ⟨w.heap.size, 0, none⟩))) (w.alloc (.stringIter s 0)) := by
  simp [valS, Instr.range, run_underlying ht]
 rw [hrun]
 have hn : σ w.heap.size = none := by
  cases hg : σ w.heap.size with
  | none => rfl
  | some o => have := hw.lt hg; omega
 refine ⟨_, (Ext.alloc hw _).2, app_P (h w.heap.size _ (Gr.put hn _) (H.put_same _ _ _) hn)⟩
theorem next_str {ty : TypeId} {b : Nat} {s : ByteArray} {pos : Nat} {A : H -> Prop} {F : Int -> Int -> H -> Prop} {σ : H} (hb : σ b = some (.stringIter s pos))
 (h1 : ¬ pos < s.size -> A σ) (h2 : pos < s.size -> ∀ σ', Put σ b (.stringIter s (pos + (Utf8.decode s pos).2)) σ' -> F pos (Utf8.decode s pos).1 σ') :
 vaW P (Instr.next (.pointer (some ⟨b, 0, none⟩)) true ty) (.opt [.sc (.int .i64), .sc (.int .i32)]) (A, F) σ := by
 intro w hw
 have hg : (getObj b).run P w = .ok (.stringIter s pos) w := by simp [getObj, Sem.run, hw b _ hb]
 by_cases hp : pos < s.size
 ·have hs : (setObj b (.stringIter s (pos + (Utf8.decode s pos).2))).run P w = .ok () { w with heap := w.heap.setIfInBounds b (.stringIter s (pos + (Utf8.decode s pos).2)) } := by simp [setObj, Sem.run, hw b _ hb]
  have hrun : (valS (Instr.next (.pointer (some ⟨b, 0, none⟩)) true ty)).run P w = .ok (.value (.tuple ⟨[.bool true, .int .i64 pos, .int .i32 ((Utf8.decode s pos).1 : Nat)]⟩)) { w with heap := w.heap.setIfInBounds b (.stringIter s (pos + (Utf8.decode s pos).2)) } := by
   simp [valS, Instr.next, hg, hp, hs, goInt]
  rw [hrun]
  refine ⟨_, Ext.set hw hb rfl rfl rfl rfl, ?_⟩
  have := h2 hp _ rfl
  simp only [app, TK.prj, optOf, prjC, CK.prj, SK.prj, prjInt, sameK_self, runO]
  exact this
 ·have hrun : (valS (Instr.next (.pointer (some ⟨b, 0, none⟩)) true ty)).run P w = .ok (.value (.tuple ⟨[.bool false]⟩)) w := by
   simp [valS, Instr.next, hg, hp]
  rw [hrun]
  exact ⟨σ, Ext.refl hw, h1 hp⟩
end Go.HL

