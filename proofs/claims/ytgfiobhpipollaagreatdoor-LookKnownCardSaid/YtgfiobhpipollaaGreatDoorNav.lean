/- A part of the proof: LookKnown holds. -/
import Derived.Test.YtgfiobhpipollaaGreatDoorNau
import Derived.Lib.Builder
import Derived.Lib.AppendStr
import Derived.Lib.UnsafeStr
import Derived.Lib.MakeNoZero
import Derived.Laws.IdiomCopy
import Derived.Laws.StandIn
namespace Go.HL
open Go
def brows (l : List UInt8) : List (List Value) := l.map fun c => [Value.int .u8 c.toNat]
theorem brows_flat (l : List UInt8) : (brows l).flatten = l.map fun c => Value.int .u8 c.toNat := by
 induction l with
 | nil => rfl
 | cons c r ih =>
  have ih : (r.map fun c => [Value.int .u8 c.toNat]).flatten = r.map fun c => Value.int .u8 c.toNat := ih
  simp [brows, ih]
theorem brows_len (l : List UInt8) : (brows l).length = l.length := by simp [brows]
theorem brows_app (a b : List UInt8) : brows (a ++ b) = brows a ++ brows b := by simp [brows]
theorem brows_one (l : List UInt8) : ∀ r ∈ brows l, r.length = 1 := by
 intro r hr
 simp only [brows, List.mem_map] at hr
 obtain ⟨c, _, rfl⟩ := hr; rfl
theorem strCells_eq (s : ByteArray) : Lib.strCells s = (brows s.data.toList).flatten := by rw [brows_flat]; rfl
section
variable {P : Program} {σ : H}
theorem setRow_heap {w : World} {g : Nat} {cur : List Value} {e : TypeId} {new : Array Value} (hg : w.heap[g]? = some (.cells ⟨cur⟩ e (0, 0))) : (w.setRow g new).heap = w.heap.setIfInBounds g (.cells new e (0, 0)) := by
 unfold World.setRow
 apply Array.ext_getElem?
 intro k
 have hlt : g < w.heap.size := (Array.getElem?_eq_some_iff.1 hg).1
 rw [Array.getElem?_setIfInBounds, Array.getElem?_modify]
 split
 ·rename_i e; subst e; rw [hg]; simp
 ·rfl
theorem sdata_i {t ty : TypeId} {cs : List Bool} {x : Sl} {F : Option Addr -> H -> Prop} (hc : x.base ≠ none -> x.cap ≠ 0) (hF : F x.base σ) : biW P .unsafeSliceData #[t] ty cs [.slice x.base x.len x.cap] (.one (.sc .ptr)) F σ := by
 intro w hw
 have hrun : (builtin .unsafeSliceData #[t] ty ⟨cs⟩ ⟨[.slice x.base x.len x.cap]⟩).run P w = .ok (.value (.pointer x.base)) w := by
  have : (Builtin.unsafeSliceData_ #[t] ty #[.slice x.base x.len x.cap]).run P w = .ok (.pointer x.base) w := by
   cases hb : x.base with
   | none => exact Lib.run_unsafeSliceData_nil w _ _ _ _
   | some a => exact Lib.run_unsafeSliceData_row w _ _ _ _ _ (hc (by rw [hb]; simp))
  simp [builtin, this]
 rw [hrun]
 exact ⟨_, Ext.refl hw, app_P hF⟩
theorem ustr_i {pt it ty e : TypeId} {cs : List Bool} {l : List UInt8} {x : Sl} {F : ByteArray -> H -> Prop} (hp : P.underlying pt = some (.pointer e)) (hc : P.cellsOf e = 1) (h : RowsOwn σ e 1 (brows l) x) (hl : l.length <= 100000000000000)
 (h1 : l = [] -> F ⟨⟨[]⟩⟩ σ) (h2 : ∀ g cur o σ', x.base = some ⟨g, 0, none⟩ -> σ g = some (.cells ⟨cur⟩ e (0, 0)) -> Put σ g o σ' -> F ⟨⟨l⟩⟩ σ') : biW P .unsafeString #[pt, it] ty cs [.pointer x.base, .int .i64 ((x.len : Nat) : Int)] (.one (.sc .str)) F σ := by
 intro w hw
 obtain ⟨a1, a2, a3⟩ := h
 rw [brows_len] at a1
 have hbi : ∀ (a c : Value), (builtin .unsafeString #[pt, it] ty ⟨cs⟩ ⟨[a, c]⟩).run P w = ((Builtin.unsafeString_ #[pt, it] ty #[a, c]).run P w).andThen fun v w' => .ok (.value v) w' := by
  intro a c; simp [builtin]
 show reach P _ ((builtin .unsafeString #[pt, it] ty ⟨cs⟩ ⟨[.pointer x.base, .int .i64 ((x.len : Nat) : Int)]⟩).run P w)
 rw [hbi]
 by_cases h0 : l = []
 ·subst h0
  have : x.len = 0 := a1
  rw [this, show (((0 : Nat) : Nat) : Int) = 0 from rfl, Lib.run_unsafeString_none]
  exact ⟨_, Ext.refl hw, app_S (h1 rfl)⟩
 ·rcases a3 with ⟨_, _, h5⟩ | ⟨g, cur, h3, h4, h5, h6, h7⟩
  ·exfalso; apply h0; cases l with | nil => rfl | cons c r => simp [brows] at h5
  ·have hwg := hw g _ h4
   rw [Nat.mul_one] at h5 h7
   rw [h3, a1]
   have hrun := Lib.run_unsafeString_row (P := P) w pt it ty e hp hc g cur.length (by simp [World.shape?, hwg]) l h0 (by omega) (by omega) (by
    intro j c hj
    rw [cells_at hwg, Nat.zero_add]
    have : (cur.take x.len)[j]? = some (.int .u8 c.toNat) := by rw [h7, brows_flat]; simp [hj]
    rw [List.getElem?_take] at this
    split at this
    ·exact this
    ·cases this)
   rw [hrun]
   have hlt : g < w.heap.size := (Array.getElem?_eq_some_iff.1 hwg).1
   have hne : l.length ≠ 0 := by simpa using h0
   have hset : (w.freeze ⟨g, 0, none⟩ l.length).heap = w.heap.setIfInBounds g (.cells ⟨cur⟩ e (0, l.length)) := by
    unfold World.freeze
    rw [if_neg hne]
    apply Array.ext_getElem?
    intro k
    rw [Array.getElem?_setIfInBounds, Array.getElem?_modify]
    split
    ·rename_i e; subst e; rw [hwg]; simp
    ·rfl
   have hos : (w.freeze ⟨g, 0, none⟩ l.length).os = w.os /\ (w.freeze ⟨g, 0, none⟩ l.length).tape = w.tape /\ (w.freeze ⟨g, 0, none⟩ l.length).output = w.output := by unfold World.freeze; rw [if_neg hne]; exact ⟨rfl, rfl, rfl⟩
   exact ⟨_, Ext.set hw h4 hset hos.1 hos.2.1 hos.2.2, app_S (h2 g cur _ _ h3 h4 (Put.intro σ g _))⟩
theorem toUp_i {src dst t T : TypeId} {j : TypeInfo} {b o : Nat} {l : List Value} {fz : Nat × Nat} {F : Value -> H -> Prop} (hs : P.underlying src = some (.pointer t)) (hd : P.underlying dst = some .unsafePointer) (ht : P.info? t = some j) (hj : j.size ≠ 0) (hb : σ b = some (.cells ⟨l⟩ T fz)) (ho : o < l.length)
 (hF : F (.pointer (some ⟨b, o, none⟩)) σ) : vaW P (convert src dst (.pointer (some ⟨b, o, none⟩))) (.one (.sc .raw)) F σ := by
 intro w hw
 have hwb := hw b _ hb
 have hrun := Lib.run_to_unsafe (P := P) (w := w) (src := src) (dst := dst) (e := T) (cells := l.length) ⟨b, o, none⟩ hs hd ht hj (by simp [World.shape?, hwb]) ho
 simp only [valS, Sem.run_bind, hrun, Result.andThen_ok, Sem.run_pure]
 exact ⟨_, Ext.refl hw, app_R hF⟩
theorem fromUp_i {src dst u T : TypeId} {j : TypeInfo} {b o : Nat} {l : List Value} {fz : Nat × Nat} {F : Option Addr -> H -> Prop} (hs : P.underlying src = some .unsafePointer) (hd : P.underlying dst = some (.pointer u)) (hu : P.info? u = some j) (hb : σ b = some (.cells ⟨l⟩ T fz)) (hl : liesAt P P.depth T (l.length / P.cellsOf T) o u 1 = true)
 (hF : F (some ⟨b, o, none⟩) σ) : vaW P (convert src dst (.pointer (some ⟨b, o, none⟩))) (.one (.sc .ptr)) F σ := by
 intro w hw
 have hwb := hw b _ hb
 have hrun := Lib.run_from_unsafe (P := P) (w := w) (src := src) (dst := dst) (e := T) (cells := l.length) ⟨b, o, none⟩ hs hd hu (by simp [World.shape?, hwb]) hl
 simp only [valS, Sem.run_bind, hrun, Result.andThen_ok, Sem.run_pure]
 exact ⟨_, Ext.refl hw, app_P hF⟩
theorem neqp_i {tp te : TypeId} {j : TypeInfo} {x y : Operand} {a : Addr} {F : Bool -> H -> Prop} (hp : P.underlying tp = some (.pointer te)) (hte : P.info? te = some j) (hF : F false σ) :
 vaW P (do eqGuard .neq tp x y (.pointer (some a)) (.pointer (some a)); binOp .neq tp (.pointer (some a)) (.pointer (some a))) (.one (.sc .bool)) F σ := by
 intro w hw
 have hrun := Lib.run_neq_ptr_same (P := P) (w := w) a hp hte
 have hg : (eqGuard .neq tp x y (.pointer (some a)) (.pointer (some a))).run P w = .ok () w := by simp [eqGuard]
 simp only [valS, Sem.run_bind, hg, hrun, Result.andThen_ok, Sem.run_pure]
 exact ⟨_, Ext.refl hw, app_B hF⟩
end
end Go.HL

