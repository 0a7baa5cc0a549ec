/- A part of a proof. -/
import Derived.Test.YtpfkfphjigcdeaaGreatDoorVav
import Derived.Lib.Builder
import Derived.Lib.AppendStr
import Derived.Lib.UnsafeStr
import Derived.Lib.MakeNoZero
import Derived.Laws.IdiomCopy
import Derived.Laws.StandIn
namespace Go.HL
open Go
def brows (l : List UInt8) : List (List Value) := l.map fun c => [Value.int .u8 c.toNat]
theorem brows_flat (l : List UInt8) : (brows l).flatten = l.map fun c => Value.int .u8 c.toNat := by
 induction l with
 | nil => rfl
 | cons c r ih =>
  have ih : (r.map fun c => [Value.int .u8 c.toNat]).flatten = r.map fun c => Value.int .u8 c.toNat := ih
  simp [brows, ih]
theorem brows_len (l : List UInt8) : (brows l).length = l.length := by simp [brows]
theorem brows_app (a b : List UInt8) : brows (a ++ b) = brows a ++ brows b := by simp [brows]
theorem brows_one (l : List UInt8) : ∀ r ∈ brows l, r.length = 1 := by
 intro r hr
 simp only [brows, List.mem_map] at hr
 obtain ⟨c, _, rfl⟩ := hr; rfl
theorem strCells_eq (s : ByteArray) : Lib.strCells s = (brows s.data.toList).flatten := by rw [brows_flat]; rfl
section
variable {P : Program} {σ : H}
theorem setRow_heap {w : World} {g : Nat} {cur : List Value} {e : TypeId} {new : Array Value} (hg : w.heap[g]? = some (.cells ⟨cur⟩ e (0, 0))) : (w.setRow g new).heap = w.heap.setIfInBounds g (.cells new e (0, 0)) := by
 unfold World.setRow
 apply Array.ext_getElem?
 intro k
 have hlt : g < w.heap.size := (Array.getElem?_eq_some_iff.1 hg).1
 rw [Array.getElem?_setIfInBounds, Array.getElem?_modify]
 split
 ·rename_i e; subst e; rw [hg]; simp
 ·rfl
theorem app_str_i {t u ty e : TypeId} {i : TypeInfo} {cs : List Bool} {l : List UInt8} {x : Sl} {s : ByteArray} {F : Sl -> H -> Prop}
 (ht : P.underlying t = some (.slice e)) (hu : P.underlying u = some .string) (hi : P.info? e = some i) (hz : i.zero = some (.int .u8 0)) (hsz : i.size = 1) (hby : i.bytes = 1)
 (h : RowsOwn σ e 1 (brows l) x) (hlen : l.length + s.size <= 100000000000)
 (hK : ∀ x' σ', RowsOwn σ' e 1 (brows (l ++ s.data.toList)) x' -> ((x.base ≠ none -> x.cap ≠ 0) -> (x'.base ≠ none -> x'.cap ≠ 0)) -> ((∃ g o, x.base = some ⟨g, 0, none⟩ /\ x'.base = x.base /\ Put σ g o σ') \/ (((∃ g, x'.base = some ⟨g, 0, none⟩ /\ σ g = none) \/ x'.base = none) /\ Gr σ σ')) -> F x' σ') :
 biW P .append #[t, u] ty cs [.slice x.base x.len x.cap, .string s] (.one (.sc .slc)) F σ := by
 intro w hw
 obtain ⟨h1, h2, h3⟩ := h
 rw [brows_len] at h1
 have hbi : ∀ (a c : Value), (builtin .append #[t, u] ty ⟨cs⟩ ⟨[a, c]⟩).run P w = ((Builtin.append_ #[t, u] ty #[a, c]).run P w).andThen fun v w' => .ok (.value v) w' := by
  intro a c; simp [builtin]
 have hwn : σ w.heap.size = none := by
  cases hg : σ w.heap.size with
  | none => rfl
  | some o => have := hw.lt hg; omega
 have extd : ∀ o : Obj, Ext σ w (σ.put w.heap.size o) (w.drew.alloc o) := by
  intro o
  have h5 := (Ext.alloc (σ := σ) (w := w.drew) hw o).2
  exact ⟨h5.le, h5.size, h5.keep, h5.own, h5.os, h5.tape, h5.output⟩
 have hsl : s.data.toList.length = s.size := by cases s with | mk d => simp [ByteArray.size]
 have hfl : (brows (l ++ s.data.toList)).flatten = (brows l).flatten ++ Lib.strCells s := by rw [brows_app, List.flatten_append, strCells_eq]
 have hl0 : (brows l).flatten.length = l.length := by rw [brows_flat]; simp
 have hs0 := Lib.strCells_length s
 rcases h3 with ⟨h3, h4, h5⟩ | ⟨g, cur, h3, h4, h5, h6, h7⟩
 ·have hl : l = [] := by cases l with | nil => rfl | cons c r => simp [brows] at h5
  subst hl
  obtain ⟨xb, xl, xc⟩ := x
  simp only at h1 h3 h4
  simp at h1
  subst h1; subst h3; subst h4
  by_cases h0 : s.size = 0
  ·have hs : s = .empty := by
    cases s with | mk d => cases d with | mk q => cases q with | nil => rfl | cons c r => simp [ByteArray.size] at h0
   subst hs
   have hrun : (Builtin.append_ #[t, u] ty #[.slice none 0 0, .string .empty]).run P w = .ok (.slice none 0 0) w := by
    have hf : (Builtin.firstCells i.size 0 (.string .empty)).run P w = .ok #[] w := by
     have := Lib.run_firstCells_string (P := P) w i.size .empty
     simpa [Lib.strCells] using this
    simp [Builtin.append_, run_underlying ht, run_underlying hu, sizeOf, typeInfo, hi, Builtin.lenOf, hf]
   show reach P _ ((builtin .append #[t, u] ty ⟨cs⟩ ⟨[.slice none 0 0, .string .empty]⟩).run P w)
   rw [hbi, hrun]
   exact ⟨_, Ext.refl hw, app_L (hK ⟨none, 0, 0⟩ σ ⟨rfl, by simp [brows], .inl ⟨rfl, rfl, rfl⟩⟩ (fun _ h => absurd rfl h) (.inr ⟨.inr rfl, Gr.refl _⟩))⟩
  ·have hrun := run_append_nil_string (P := P) (w := w) t u ty e i _ ht hu hi hz s (by omega) (by omega) (by rw [hby]; omega)
   show reach P _ ((builtin .append #[t, u] ty ⟨cs⟩ ⟨[.slice none 0 0, .string s]⟩).run P w)
   rw [hbi, hrun]
   have hge := grownCap_ge w s.size 0 e
   have hsm : (s.data.map (fun b => Value.int .u8 b.toNat)).toList = Lib.strCells s := by simp [Lib.strCells]
   refine ⟨_, extd _, app_L (hK ⟨some ⟨w.heap.size, 0, none⟩, s.size, grownCap w s.size 0 e⟩ _ ⟨by rw [brows_len]; simp [hsl], brows_one _, .inr ⟨w.heap.size, (s.data.map (fun b => Value.int .u8 b.toNat) ++ Builtin.zeroCells (Value.cells (.int .u8 0)) (grownCap w s.size 0 e - s.size)).toList, rfl, H.put_same _ _ _, ?_, hge, ?_⟩⟩ (fun _ _ => by show grownCap _ _ _ _ ≠ 0; omega) (.inr ⟨.inl ⟨w.heap.size, rfl, hwn⟩, Gr.put hwn _⟩))⟩
   ·have : (Value.cells (.int .u8 0)).size = 1 := rfl
    rw [Array.toList_append, List.length_append, hsm, hs0, Array.length_toList, size_zeroCells, this]
    show s.size + (grownCap w s.size 0 e - s.size) * 1 = grownCap w s.size 0 e * 1
    omega
   ·rw [Array.toList_append, hsm, List.nil_append, <- strCells_eq]
    show ((Lib.strCells s) ++ _).take (s.size * 1) = _
    rw [Nat.mul_one, <- hs0, List.take_left]
 ·have hwg := hw g _ h4
  obtain ⟨xb, xl, xc⟩ := x
  simp only at h1 h3 h5 h6 h7
  rw [Nat.mul_one] at h5 h7
  subst h3
  by_cases hroom : xl + s.size <= xc
  ·have hrun := Lib.run_append_room_string (P := P) w t u ty e i ht hu hi hsz g xl xc ⟨cur⟩ hwg s hroom (by show _ <= cur.length; omega)
   show reach P _ ((builtin .append #[t, u] ty ⟨cs⟩ ⟨[.slice (some ⟨g, 0, none⟩) xl xc, .string s]⟩).run P w)
   rw [hbi, hrun]
   have hset := setRow_heap (new := (cur.take xl ++ Lib.strCells s ++ cur.drop (xl + s.size)).toArray) hwg
   refine ⟨_, Ext.set hw h4 hset rfl rfl rfl, app_L (hK ⟨some ⟨g, 0, none⟩, xl + s.size, xc⟩ _ ⟨by rw [brows_len]; simp [hsl, h1], brows_one _, .inr ⟨g, _, rfl, H.put_same _ _ _, ?_, hroom, ?_⟩⟩ (fun h => h) (.inl ⟨g, _, rfl, rfl, rfl⟩))⟩
   ·simp only [List.length_append, List.length_take, List.length_drop, hs0]
    show _ = xc * 1
    omega
   ·rw [hfl, h7]
    show (((brows l).flatten ++ Lib.strCells s) ++ _).take ((xl + s.size) * 1) = _
    have : (xl + s.size) * 1 = ((brows l).flatten ++ Lib.strCells s).length := by rw [List.length_append, hl0, hs0, h1]; omega
    rw [this, List.take_left]
  ·have holds : ∀ j v, ((brows l).flatten)[j]? = some v -> w.cell? ((⟨g, 0, none⟩ : Addr).add j) = some v := by
    intro j v hv
    rw [cells_at hwg, Nat.zero_add]
    rw [<- h7, List.getElem?_take] at hv
    split at hv
    ·exact hv
    ·cases hv
   have hrun := Lib.run_append_grow_string (P := P) w t u ty e i _ ht hu hi hz ⟨g, 0, none⟩ xl xc (brows l).flatten (by rw [hl0, hsz, h1]; omega) holds s (by omega) (by omega) (growslice_fits (by omega) (by rw [hby]; omega))
   show reach P _ ((builtin .append #[t, u] ty ⟨cs⟩ ⟨[.slice (some ⟨g, 0, none⟩) xl xc, .string s]⟩).run P w)
   rw [hbi, hrun]
   have hge := grownCap_ge w (xl + s.size) xc e
   refine ⟨_, extd _, app_L (hK ⟨some ⟨w.heap.size, 0, none⟩, xl + s.size, grownCap w (xl + s.size) xc e⟩ _ ⟨by rw [brows_len]; simp [hsl, h1], brows_one _, .inr ⟨w.heap.size, ((brows l).flatten.toArray ++ (Lib.strCells s).toArray ++ Builtin.zeroCells (Value.cells (.int .u8 0)) (grownCap w (xl + s.size) xc e - (xl + s.size))).toList, rfl, H.put_same _ _ _, ?_, hge, ?_⟩⟩ (fun _ _ => by show grownCap _ _ _ _ ≠ 0; omega) (.inr ⟨.inl ⟨w.heap.size, rfl, hwn⟩, Gr.put hwn _⟩))⟩
   ·have : (Value.cells (.int .u8 0)).size = 1 := rfl
    simp only [Array.toList_append, List.length_append, Array.length_toList, size_zeroCells, this, hl0, hs0]
    omega
   ·simp only [Array.toList_append]
    rw [hfl]
    show (((brows l).flatten ++ Lib.strCells s) ++ _).take ((xl + s.size) * 1) = _
    have : (xl + s.size) * 1 = ((brows l).flatten ++ Lib.strCells s).length := by rw [List.length_append, hl0, hs0, h1]; omega
    rw [this, List.take_left]
theorem sdata_i {t ty : TypeId} {cs : List Bool} {x : Sl} {F : Option Addr -> H -> Prop} (hc : x.base ≠ none -> x.cap ≠ 0) (hF : F x.base σ) : biW P .unsafeSliceData #[t] ty cs [.slice x.base x.len x.cap] (.one (.sc .ptr)) F σ := by
 intro w hw
 have hrun : (builtin .unsafeSliceData #[t] ty ⟨cs⟩ ⟨[.slice x.base x.len x.cap]⟩).run P w = .ok (.value (.pointer x.base)) w := by
  have : (Builtin.unsafeSliceData_ #[t] ty #[.slice x.base x.len x.cap]).run P w = .ok (.pointer x.base) w := by
   cases hb : x.base with
   | none => exact Lib.run_unsafeSliceData_nil w _ _ _ _
   | some a => exact Lib.run_unsafeSliceData_row w _ _ _ _ _ (hc (by rw [hb]; simp))
  simp [builtin, this]
 rw [hrun]
 exact ⟨_, Ext.refl hw, app_P hF⟩
theorem ustr_i {pt it ty e : TypeId} {cs : List Bool} {l : List UInt8} {x : Sl} {F : ByteArray -> H -> Prop} (hp : P.underlying pt = some (.pointer e)) (hc : P.cellsOf e = 1) (h : RowsOwn σ e 1 (brows l) x) (hl : l.length <= 100000000000000)
 (h1 : l = [] -> F ⟨⟨[]⟩⟩ σ) (h2 : ∀ g cur o σ', x.base = some ⟨g, 0, none⟩ -> σ g = some (.cells ⟨cur⟩ e (0, 0)) -> Put σ g o σ' -> F ⟨⟨l⟩⟩ σ') : biW P .unsafeString #[pt, it] ty cs [.pointer x.base, .int .i64 ((x.len : Nat) : Int)] (.one (.sc .str)) F σ := by
 intro w hw
 obtain ⟨a1, a2, a3⟩ := h
 rw [brows_len] at a1
 have hbi : ∀ (a c : Value), (builtin .unsafeString #[pt, it] ty ⟨cs⟩ ⟨[a, c]⟩).run P w = ((Builtin.unsafeString_ #[pt, it] ty #[a, c]).run P w).andThen fun v w' => .ok (.value v) w' := by
  intro a c; simp [builtin]
 show reach P _ ((builtin .unsafeString #[pt, it] ty ⟨cs⟩ ⟨[.pointer x.base, .int .i64 ((x.len : Nat) : Int)]⟩).run P w)
 rw [hbi]
 by_cases h0 : l = []
 ·subst h0
  have : x.len = 0 := a1
  rw [this, show (((0 : Nat) : Nat) : Int) = 0 from rfl, Lib.run_unsafeString_none]
  exact ⟨_, Ext.refl hw, app_S (h1 rfl)⟩
 ·rcases a3 with ⟨_, _, h5⟩ | ⟨g, cur, h3, h4, h5, h6, h7⟩
  ·exfalso; apply h0; cases l with | nil => rfl | cons c r => simp [brows] at h5
  ·have hwg := hw g _ h4
   rw [Nat.mul_one] at h5 h7
   rw [h3, a1]
   have hrun := Lib.run_unsafeString_row (P := P) w pt it ty e hp hc g cur.length (by simp [World.shape?, hwg]) l h0 (by omega) (by omega) (by
    intro j c hj
    rw [cells_at hwg, Nat.zero_add]
    have : (cur.take x.len)[j]? = some (.int .u8 c.toNat) := by rw [h7, brows_flat]; simp [hj]
    rw [List.getElem?_take] at this
    split at this
    ·exact this
    ·cases this)
   rw [hrun]
   have hlt : g < w.heap.size := (Array.getElem?_eq_some_iff.1 hwg).1
   have hne : l.length ≠ 0 := by simpa using h0
   have hset : (w.freeze ⟨g, 0, none⟩ l.length).heap = w.heap.setIfInBounds g (.cells ⟨cur⟩ e (0, l.length)) := by
    unfold World.freeze
    rw [if_neg hne]
    apply Array.ext_getElem?
    intro k
    rw [Array.getElem?_setIfInBounds, Array.getElem?_modify]
    split
    ·rename_i e; subst e; rw [hwg]; simp
    ·rfl
   have hos : (w.freeze ⟨g, 0, none⟩ l.length).os = w.os /\ (w.freeze ⟨g, 0, none⟩ l.length).tape = w.tape /\ (w.freeze ⟨g, 0, none⟩ l.length).output = w.output := by unfold World.freeze; rw [if_neg hne]; exact ⟨rfl, rfl, rfl⟩
   exact ⟨_, Ext.set hw h4 hset hos.1 hos.2.1 hos.2.2, app_S (h2 g cur _ _ h3 h4 (Put.intro σ g _))⟩
theorem copy0_i {t u ty e : TypeId} {cs : List Bool} {d : Option Addr} {dl dc : Nat} {a : Option Addr} {sc : Nat} {F : Int -> H -> Prop} (hu : P.underlying t = some (.slice e)) (hs : (P.info? e).map (·.size) = some 1) (hF : F 0 σ) : biW P .copy #[t, u] ty cs [.slice d dl dc, .slice a 0 sc] (.one (.sc (.int .i64))) F σ := by
 intro w hw
 have hrun : (builtin .copy #[t, u] ty ⟨cs⟩ ⟨[.slice d dl dc, .slice a 0 sc]⟩).run P w = .ok (.value (.int .i64 0)) w := by
  have := run_copy_none (P := P) w t u ty e d a dl dc 0 sc hu hs (by simp)
  simp [builtin, this, goInt]
 rw [hrun]
 exact ⟨_, Ext.refl hw, app_I hF⟩
theorem toUp_i {src dst t T : TypeId} {j : TypeInfo} {b o : Nat} {l : List Value} {fz : Nat × Nat} {F : Value -> H -> Prop} (hs : P.underlying src = some (.pointer t)) (hd : P.underlying dst = some .unsafePointer) (ht : P.info? t = some j) (hj : j.size ≠ 0) (hb : σ b = some (.cells ⟨l⟩ T fz)) (ho : o < l.length)
 (hF : F (.pointer (some ⟨b, o, none⟩)) σ) : vaW P (convert src dst (.pointer (some ⟨b, o, none⟩))) (.one (.sc .raw)) F σ := by
 intro w hw
 have hwb := hw b _ hb
 have hrun := Lib.run_to_unsafe (P := P) (w := w) (src := src) (dst := dst) (e := T) (cells := l.length) ⟨b, o, none⟩ hs hd ht hj (by simp [World.shape?, hwb]) ho
 simp only [valS, Sem.run_bind, hrun, Result.andThen_ok, Sem.run_pure]
 exact ⟨_, Ext.refl hw, app_R hF⟩
theorem fromUp_i {src dst u T : TypeId} {j : TypeInfo} {b o : Nat} {l : List Value} {fz : Nat × Nat} {F : Option Addr -> H -> Prop} (hs : P.underlying src = some .unsafePointer) (hd : P.underlying dst = some (.pointer u)) (hu : P.info? u = some j) (hb : σ b = some (.cells ⟨l⟩ T fz)) (hl : liesAt P P.depth T (l.length / P.cellsOf T) o u 1 = true)
 (hF : F (some ⟨b, o, none⟩) σ) : vaW P (convert src dst (.pointer (some ⟨b, o, none⟩))) (.one (.sc .ptr)) F σ := by
 intro w hw
 have hwb := hw b _ hb
 have hrun := Lib.run_from_unsafe (P := P) (w := w) (src := src) (dst := dst) (e := T) (cells := l.length) ⟨b, o, none⟩ hs hd hu (by simp [World.shape?, hwb]) hl
 simp only [valS, Sem.run_bind, hrun, Result.andThen_ok, Sem.run_pure]
 exact ⟨_, Ext.refl hw, app_P hF⟩
theorem neqp_i {tp te : TypeId} {j : TypeInfo} {x y : Operand} {a : Addr} {F : Bool -> H -> Prop} (hp : P.underlying tp = some (.pointer te)) (hte : P.info? te = some j) (hF : F false σ) :
 vaW P (do eqGuard .neq tp x y (.pointer (some a)) (.pointer (some a)); binOp .neq tp (.pointer (some a)) (.pointer (some a))) (.one (.sc .bool)) F σ := by
 intro w hw
 have hrun := Lib.run_neq_ptr_same (P := P) (w := w) a hp hte
 have hg : (eqGuard .neq tp x y (.pointer (some a)) (.pointer (some a))).run P w = .ok () w := by simp [eqGuard]
 simp only [valS, Sem.run_bind, hg, hrun, Result.andThen_ok, Sem.run_pure]
 exact ⟨_, Ext.refl hw, app_B hF⟩
end
end Go.HL

