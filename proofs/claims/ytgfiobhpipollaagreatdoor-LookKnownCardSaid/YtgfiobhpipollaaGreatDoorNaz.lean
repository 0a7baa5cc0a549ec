/- A part of the proof: LookKnown holds. -/
import Derived.Test.YtgfiobhpipollaaGreatDoorNay
import Derived.Laws.StandIn
namespace Go.HL
open Go
def RowsOz (σ : H) (e : TypeId) (n : Nat) (rows : List (List Value)) (x : Sl) : Prop :=
 x.len = rows.length /\ (∀ r ∈ rows, r.length = n) /\ ((x.base = none /\ x.cap = 0 /\ rows = []) \/ ∃ g cur fz, (fz.2 <= fz.1 \/ cur.length <= fz.1) /\ x.base = some ⟨g, 0, none⟩ /\ σ g = some (.cells ⟨cur⟩ e fz) /\ cur.length = x.cap * n /\ x.len <= x.cap /\ cur.take (x.len * n) = rows.flatten)
theorem RowsOz.gr {σ σ' : H} {e : TypeId} {n : Nat} {rows : List (List Value)} {x : Sl} (h : RowsOz σ e n rows x) (hg : Gr σ σ') : RowsOz σ' e n rows x := by
 obtain ⟨h1, h2, h3 | ⟨g, cur, fz, h0, h3, h4, h5⟩⟩ := h
 ·exact ⟨h1, h2, .inl h3⟩
 ·exact ⟨h1, h2, .inr ⟨g, cur, fz, h0, h3, hg.get h4, h5⟩⟩
theorem RowsOz.rows {σ : H} {e : TypeId} {n : Nat} {rows : List (List Value)} {x : Sl} (h : RowsOz σ e n rows x) : RowsAt σ n rows x := by
 obtain ⟨h1, h2, ⟨_, _, h5⟩ | ⟨g, cur, fz, h0, h3, h4, h5, h6, h7⟩⟩ := h
 ·exact ⟨h1, .inl h5⟩
 ·refine ⟨h1, .inr ⟨g, 0, cur, e, fz, h3, h4, fun i r hi => ?_⟩⟩
  have hr := h2 r (List.mem_of_getElem? hi)
  refine ⟨hr, ?_⟩
  have hlt : i < rows.length := by
   rcases Nat.lt_or_ge i rows.length with h | h
   ·exact h
   ·rw [List.getElem?_eq_none h] at hi; cases hi
  have := flat_get h2 i r hi
  rw [<- h7, List.drop_take, List.take_take] at this
  rw [Nat.zero_add]
  have hle : i * n + n <= x.len * n := by rw [h1, <- Nat.succ_mul]; exact Nat.mul_le_mul_right n hlt
  rw [Nat.min_eq_left (by omega)] at this
  exact this
section
variable {P : Program} {σ : H}
theorem append_z {t ty e : TypeId} {i : TypeInfo} {z : Value} {n bytes : Nat} {cs : List Bool} {rows : List (List Value)} {x : Sl} {b : Nat} {r : List Value} {tb : TypeId} {fz : Nat × Nat} {F : Sl -> H -> Prop}
 (ht : P.underlying t = some (.slice e)) (hi : P.info? e = some i) (hz : i.zero = some z) (hsize : i.size = n) (hby : i.bytes = bytes) (hzs : z.cells.size = n) (hn : 0 < n)
 (h : RowsOz σ e n rows x) (hb : σ b = some (.cells ⟨r⟩ tb fz)) (hr : r.length = n) (hone : ∀ u ∈ r, u.oneCell' = true) (hlen : rows.length < 1000000000) (hbytes : bytes <= 100000)
 (hK : ∀ x' σ', RowsOz σ' e n (rows ++ [r]) x' -> ((∃ g o, x.base = some ⟨g, 0, none⟩ /\ x'.base = x.base /\ Put σ g o σ') \/ (∃ g, x'.base = some ⟨g, 0, none⟩ /\ σ g = none /\ Gr σ σ')) -> F x' σ') :
 biW P .append #[t, t] ty cs [.slice x.base x.len x.cap, .slice (some ⟨b, 0, none⟩) 1 1] (.one (.sc .slc)) F σ := by
 intro w hw
 obtain ⟨h1, h2, h3⟩ := h
 have hwb := hw b _ hb
 have hnews : ∀ j u, r[j]? = some u -> w.cell? ((⟨b, 0, none⟩ : Addr).add j) = some u := by
  intro j u hu; rw [cells_at hwb, Nat.zero_add]; exact hu
 have hl1 : r.length = 1 * i.size := by rw [hsize, hr, Nat.one_mul]
 have hall : ∀ q ∈ rows ++ [r], q.length = n := by
  intro q hq
  rcases List.mem_append.1 hq with hq | hq
  ·exact h2 q hq
  ·simp at hq; rw [hq, hr]
 have hbi : ∀ (a c : Value), (builtin .append #[t, t] ty ⟨cs⟩ ⟨[a, c]⟩).run P w = ((Builtin.append_ #[t, t] ty #[a, c]).run P w).andThen fun v w' => .ok (.value v) w' := by
  intro a c; simp [builtin]
 have hwn : σ w.heap.size = none := by
  cases hg : σ w.heap.size with
  | none => rfl
  | some o => have := hw.lt hg; omega
 have extd : ∀ o : Obj, Ext σ w (σ.put w.heap.size o) (w.drew.alloc o) := by
  intro o
  have h5 := (Ext.alloc (σ := σ) (w := w.drew) hw o).2
  exact ⟨h5.le, h5.size, h5.keep, h5.own, h5.os, h5.tape, h5.output⟩
 rcases h3 with ⟨h3, h4, h5⟩ | ⟨g, cur, fzz, hfzz, h3, h4, h5, h6, h7⟩
 ·subst h5
  obtain ⟨xb, xl, xc⟩ := x
  simp only at h1 h3 h4
  simp at h1
  subst h1; subst h3; subst h4
  have hrun := run_append_nil (P := P) (w := w) t ty e i z ht hi hz ⟨b, 0, none⟩ 1 1 r hl1 hnews (by omega) (by omega) (by rw [hby]; omega)
  show reach P _ ((builtin .append #[t, t] ty ⟨cs⟩ ⟨[.slice none 0 0, .slice (some ⟨b, 0, none⟩) 1 1]⟩).run P w)
  rw [hbi, hrun]
  have hge := grownCap_ge w 1 0 e
  refine ⟨_, extd _, app_L (hK ⟨some ⟨w.heap.size, 0, none⟩, 1, grownCap w 1 0 e⟩ _ ⟨rfl, hall, .inr ⟨w.heap.size, (r.toArray ++ Builtin.zeroCells z.cells (grownCap w 1 0 e - 1)).toList, (0, 0), .inl (Nat.le_refl _), rfl, H.put_same _ _ _, ?_, hge, ?_⟩⟩ (.inr ⟨w.heap.size, rfl, hwn, Gr.put hwn _⟩))⟩
  ·simp [size_zeroCells, hzs, hr]
   have : grownCap w 1 0 e * n = (grownCap w 1 0 e - 1) * n + n := by
    conv => lhs; rw [show grownCap w 1 0 e = (grownCap w 1 0 e - 1) + 1 by omega, Nat.add_mul, Nat.one_mul]
   omega
  ·simp [hr]
 ·have hwg := hw g _ h4
  obtain ⟨xb, xl, xc⟩ := x
  simp only at h1 h3 h5 h6 h7
  subst h3
  by_cases hroom : xl + 1 <= xc
  ·have hfit : xl * i.size + r.length <= (⟨cur⟩ : Array Value).size := by
    show xl * i.size + r.length <= cur.length
    rw [hsize, hr, h5]
    have : (xl + 1) * n <= xc * n := Nat.mul_le_mul_right n hroom
    rw [Nat.add_mul, Nat.one_mul] at this; exact this
   have hfc := run_firstCells_some (P := P) w i.size 1 ⟨b, 0, none⟩ 1 1 r hl1 hnews
   have hst := run_storeCells_at (P := P) (b := g) (t := e) (fz := fzz) (o := xl * i.size) r 0 cur w hwg (by simpa using hfit) hone hfzz
   simp only [Nat.add_zero] at hst
   have hrun : (Builtin.append_ #[t, t] ty #[.slice (some ⟨g, 0, none⟩) xl xc, .slice (some ⟨b, 0, none⟩) 1 1]).run P w = .ok (.slice (some ⟨g, 0, none⟩) (xl + 1) xc) { w with heap := w.heap.setIfInBounds g (.cells ⟨cur.take (xl * i.size) ++ r ++ cur.drop (xl * i.size + r.length)⟩ e fzz) } := by
    simp [Builtin.append_, run_underlying ht, sizeOf, typeInfo, hi, Builtin.lenOf, hroom, hfc, Addr.add_lit, hst]
   show reach P _ ((builtin .append #[t, t] ty ⟨cs⟩ ⟨[.slice (some ⟨g, 0, none⟩) xl xc, .slice (some ⟨b, 0, none⟩) 1 1]⟩).run P w)
   rw [hbi, hrun]
   refine ⟨_, Ext.set hw h4 rfl rfl rfl rfl, app_L (hK ⟨some ⟨g, 0, none⟩, xl + 1, xc⟩ _ ⟨?_, hall, .inr ⟨g, _, fzz, ?_, rfl, H.put_same _ _ _, ?_, hroom, ?_⟩⟩ (.inl ⟨g, _, rfl, rfl, rfl⟩))⟩
   ·simp [h1]
   ·refine hfzz.imp id fun hz => ?_
    have hle : xl * i.size + r.length <= cur.length := hfit
    simp only [List.length_append, List.length_take, List.length_drop]
    omega
   ·rw [hsize, hr]
    have hle : xl * n + n <= cur.length := by have := hfit; rw [hsize, hr] at this; exact this
    simp only [List.length_append, List.length_take, List.length_drop, hr]
    omega
   ·rw [hsize, hr, h7, List.flatten_append]
    have hfl : rows.flatten.length = xl * n := by rw [flat_len h2, h1]
    have e2 : (xl + 1) * n = (rows.flatten ++ r).length := by rw [List.length_append, hfl, hr, Nat.add_mul, Nat.one_mul]
    show ((rows.flatten ++ r) ++ List.drop (xl * n + n) cur).take ((xl + 1) * n) = _
    rw [e2, List.take_left]; simp
  ·have holds : ∀ j u, rows.flatten[j]? = some u -> w.cell? ((⟨g, 0, none⟩ : Addr).add j) = some u := by
    intro j u hu
    rw [cells_at hwg, Nat.zero_add]
    rw [<- h7] at hu
    rw [List.getElem?_take] at hu
    split at hu
    ·exact hu
    ·cases hu
   have hlo : rows.flatten.length = xl * i.size := by rw [flat_len h2, h1, hsize]
   have hbound : (xl + 1) * i.bytes <= 140737488355328 := by
    rw [hby]
    have : (xl + 1) * bytes <= 1000000000 * 100000 := Nat.mul_le_mul (by omega) hbytes
    omega
   have hrun := run_append_grow (P := P) w t ty e i z ht hi hz ⟨g, 0, none⟩ xl xc rows.flatten hlo holds ⟨b, 0, none⟩ 1 1 r hl1 hnews (by omega) (by omega) (growslice_fits (by omega) hbound)
   show reach P _ ((builtin .append #[t, t] ty ⟨cs⟩ ⟨[.slice (some ⟨g, 0, none⟩) xl xc, .slice (some ⟨b, 0, none⟩) 1 1]⟩).run P w)
   rw [hbi, hrun]
   have hge := grownCap_ge w (xl + 1) xc e
   have hfl : rows.flatten.length = xl * n := by rw [flat_len h2, h1]
   refine ⟨_, extd _, app_L (hK ⟨some ⟨w.heap.size, 0, none⟩, xl + 1, grownCap w (xl + 1) xc e⟩ _ ⟨?_, hall, .inr ⟨w.heap.size, (rows.flatten.toArray ++ r.toArray ++ Builtin.zeroCells z.cells (grownCap w (xl + 1) xc e - (xl + 1))).toList, (0, 0), .inl (Nat.le_refl _), rfl, H.put_same _ _ _, ?_, hge, ?_⟩⟩ (.inr ⟨w.heap.size, rfl, hwn, Gr.put hwn _⟩))⟩
   ·simp [h1]
   ·simp only [Array.toList_append, List.length_append, Array.length_toList, size_zeroCells, hzs, hr, hfl]
    have : grownCap w (xl + 1) xc e * n = (grownCap w (xl + 1) xc e - (xl + 1)) * n + (xl + 1) * n := by
     rw [<- Nat.add_mul, show grownCap w (xl + 1) xc e - (xl + 1) + (xl + 1) = grownCap w (xl + 1) xc e by omega]
    rw [Nat.add_mul, Nat.one_mul] at this
    have l1 : rows.flatten.toArray.size = xl * n := by simp [hfl]
    have l2 : r.toArray.size = n := by simp [hr]
    omega
   ·rw [List.flatten_append]
    have e2 : (xl + 1) * n = (rows.flatten ++ r).length := by rw [List.length_append, hfl, hr, Nat.add_mul, Nat.one_mul]
    show List.take ((xl + 1) * n) _ = _
    rw [Array.toList_append, Array.toList_append]
    show List.take ((xl + 1) * n) ((rows.flatten ++ r) ++ _) = _
    rw [e2, List.take_left]; simp
theorem sbytes_z {src dst e : TypeId} (hs : P.underlying src = some .string) (hd : P.underlying dst = some (.slice e)) (he : P.underlying e = some (.int .u8)) (s : ByteArray) {F : Sl -> H -> Prop} (hF : ∀ x σ', Gr σ σ' -> RowsOz σ' e 1 (brows s.data.toList) x -> (∀ g, x.base = some ⟨g, 0, none⟩ -> σ g = none) -> F x σ') :
 vaW P (convert src dst (.string s)) (.one (.sc .slc)) F σ := by
 intro w hw
 have hrun : (valS (convert src dst (.string s))).run P w = .ok (.value (.slice (some ⟨w.heap.size, 0, none⟩) s.size (grownCap w s.size 0 e))) (w.drew.alloc (.cells (bytesRow s (grownCap w s.size 0 e)) e ((bytesRow s (grownCap w s.size 0 e)).size, (bytesRow s (grownCap w s.size 0 e)).size + 1))) := by
  simp only [valS, Sem.run_bind, run_bytes_of_string w src dst e s hs hd he, Result.andThen_ok, Sem.run_pure]
 rw [hrun]
 have hn : σ w.heap.size = none := by
  cases hg : σ w.heap.size with
  | none => rfl
  | some o => have := hw.lt hg; omega
 have h5 := (Ext.alloc (σ := σ) (w := w.drew) hw (.cells (bytesRow s (grownCap w s.size 0 e)) e ((bytesRow s (grownCap w s.size 0 e)).size, (bytesRow s (grownCap w s.size 0 e)).size + 1))).2
 have hl : s.data.toList.length = s.size := by cases s with | mk d => simp [ByteArray.size]
 have hge := grownCap_ge w s.size 0 e
 refine ⟨_, ⟨h5.le, h5.size, h5.keep, h5.own, h5.os, h5.tape, h5.output⟩, app_L (hF ⟨some ⟨w.heap.size, 0, none⟩, s.size, grownCap w s.size 0 e⟩ _ (Gr.put hn _) ⟨by rw [brows_len, hl], brows_one _, .inr ⟨w.heap.size, (bytesRow s (grownCap w s.size 0 e)).toList, _, .inr ?_, rfl, H.put_same _ _ _, ?_, hge, ?_⟩⟩ ?_)⟩
 ·simp
 ·simp [bytesRow, hl]
  have : s.data.size = s.size := rfl
  omega
 ·rw [brows_flat]
  unfold bytesRow
  rw [Array.toList_append, Nat.mul_one]
  have : s.size = (s.data.map (fun b => Value.int .u8 b.toNat)).toList.length := by show s.data.size = _; rw [Array.length_toList, Array.size_map]
  rw [this, List.take_left]; simp
 ·intro g hg; injection hg with hg; injection hg with hg; subst hg; exact hn
end
def RNz (σ0 σ : H) (e : TypeId) (n : Nat) (rows : List (List Value)) (y : Sl) : Prop := Gr σ0 σ /\ RowsOz σ e n rows y /\ ∀ g, y.base = some ⟨g, 0, none⟩ -> σ0 g = none
theorem RNz.gr {σ0 σ σ' : H} {e : TypeId} {n : Nat} {rows : List (List Value)} {y : Sl} (h : RNz σ0 σ e n rows y) (hg : Gr σ σ') : RNz σ0 σ' e n rows y := ⟨h.1.trans hg, h.2.1.gr hg, h.2.2⟩
theorem RNz.at {σ0 σ : H} {e : TypeId} {n : Nat} {rows : List (List Value)} {y : Sl} (h : RNz σ0 σ e n rows y) : RowsAt σ n rows y := h.2.1.rows
theorem RNz.len {σ0 σ : H} {e : TypeId} {n : Nat} {rows : List (List Value)} {y : Sl} (h : RNz σ0 σ e n rows y) : y.len = rows.length := h.2.1.1
theorem RNz.cap {σ0 σ : H} {e : TypeId} {n : Nat} {rows : List (List Value)} {y : Sl} (h : RNz σ0 σ e n rows y) : y.len <= y.cap := by
 obtain ⟨h1, _, ⟨_, h2, h3⟩ | ⟨g, cur, fz, _, _, _, _, h4, _⟩⟩ := h.2.1
 ·rw [h1, h3]; exact Nat.zero_le _
 ·exact h4
theorem RNz.app1 {P : Program} {σ0 σ : H} {t e ty : TypeId} {n : Nat} {rows : List (List Value)} {y : Sl} {cs : List Bool} (hT : ElT P t e n) (h : RNz σ0 σ e n rows y) {r : List Value} {tb : TypeId} (hr : r.length = n) (hone : r.all (·.oneCell') = true) (hl : rows.length < 1000000000) {F : Sl -> H -> Prop}
 (hF : ∀ y' σ', RNz σ0 σ' e n (rows ++ [r]) y' -> (∀ c o, σ c = some o -> y.base ≠ some ⟨c, 0, none⟩ -> σ' c = some o) -> (∀ g, y'.base = some ⟨g, 0, none⟩ -> y.base = some ⟨g, 0, none⟩ \/ σ g = none) -> F y' σ') :
 alW (.cells ⟨r⟩ tb (0, 0)) (fun b => biW P .append #[t, t] ty cs [.slice y.base y.len y.cap, .slice (some ⟨b, 0, none⟩) 1 1] (.one (.sc .slc)) F) σ := by
 refine al_i ?_
 intro b σ1 g1 e1 n1
 obtain ⟨h1, h0, i, z, i1, i2, i3, i4, i5⟩ := hT
 refine append_z h1 i1 i2 i3 rfl i5 h0 (h.2.1.gr g1) e1 hr (fun u hu => List.all_eq_true.1 hone u hu) hl (Nat.le_trans i4 (by decide)) ?_
 intro y' σ' hy' hc
 rcases hc with ⟨g, o, q1, q2, q3⟩ | ⟨g, q1, q3, q4⟩
 ·have hg0 := h.2.2 g q1
  refine hF y' σ' ⟨(h.1.trans g1).putF q3 hg0, hy', fun g' hg => h.2.2 g' (by rw [<- q2]; exact hg)⟩ (fun c o' hc hne => q3.get (fun e => hne (by rw [e]; exact q1)) (g1.get hc)) (fun g' hg => .inl (by rw [<- q2]; exact hg))
 ·have hn : ∀ g', y'.base = some ⟨g', 0, none⟩ -> σ1 g' = none := by
   intro g' hg
   rw [q1] at hg; injection hg with hg; injection hg with hg; subst hg; exact q3
  exact hF y' σ' ⟨(h.1.trans g1).trans q4, hy', fun g' hg => none_of (h.1.trans g1) (hn g' hg)⟩ (fun c o' hc _ => q4.get (g1.get hc)) (fun g' hg => .inr (none_of g1 (hn g' hg)))
end Go.HL

namespace Go.Wk
open Go Go.HL
def rotP (x k : Int) : Int := bitV .or .u32 (IntKind.u32.wrap (x * 2 ^ min (Int.toNat (bitV .and .u64 (IntKind.u64.wrap k) 31)) (IntKind.bits .u32))) (Int.fdiv x (2 ^ min (Int.toNat (IntKind.u64.wrap (32 - (bitV .and .u64 (IntKind.u64.wrap k) 31)))) (IntKind.bits .u32)))
def rightP (x : Int) : List Int -> Int -> Int
 | [], o => o
 | n :: r, o => rightP x r (bitV .xor .u32 o (rotP x (IntKind.i64.wrap (0 - n))))
def mulHi (x y : Int) : Int := (IntKind.u64.wrap ((IntKind.u64.wrap ((IntKind.u64.wrap ((Int.fdiv x (2 ^ min (Int.toNat 32) (IntKind.bits .u64))) * (Int.fdiv y (2 ^ min (Int.toNat 32) (IntKind.bits .u64))))) + (Int.fdiv (IntKind.u64.wrap ((IntKind.u64.wrap ((Int.fdiv x (2 ^ min (Int.toNat 32) (IntKind.bits .u64))) * (bitV .and .u64 y 4294967295))) + (Int.fdiv (IntKind.u64.wrap ((bitV .and .u64 x 4294967295) * (bitV .and .u64 y 4294967295))) (2 ^ min (Int.toNat 32) (IntKind.bits .u64))))) (2 ^ min (Int.toNat 32) (IntKind.bits .u64))))) + (Int.fdiv (IntKind.u64.wrap ((bitV .and .u64 (IntKind.u64.wrap ((IntKind.u64.wrap ((Int.fdiv x (2 ^ min (Int.toNat 32) (IntKind.bits .u64))) * (bitV .and .u64 y 4294967295))) + (Int.fdiv (IntKind.u64.wrap ((bitV .and .u64 x 4294967295) * (bitV .and .u64 y 4294967295))) (2 ^ min (Int.toNat 32) (IntKind.bits .u64))))) 4294967295) + (IntKind.u64.wrap ((bitV .and .u64 x 4294967295) * (Int.fdiv y (2 ^ min (Int.toNat 32) (IntKind.bits .u64))))))) (2 ^ min (Int.toNat 32) (IntKind.bits .u64)))))
def mulLo (x y : Int) : Int := IntKind.u64.wrap (x * y)
def addLo (x y : Int) : Int := ((x.toNat + y.toNat + 0) % 2 ^ 64 : Nat)
def addHi (x y : Int) : Int := ((x.toNat + y.toNat + 0) / 2 ^ 64 : Nat)
def wantP (p : Int) : Int := IntKind.u64.wrap (p * 2 ^ min (Int.toNat 32) (IntKind.bits .u64))
def cubeP (x p : Int) : Bool :=
 let hi := mulHi x x
 let lo := mulLo x x
 let h1 := mulHi lo x
 let l1 := mulLo lo x
 let h2 := mulHi hi x
 let l2 := mulLo hi x
 if decide (IntKind.u64.wrap (h2 + addHi h1 l2) > 0) then true else if decide (addLo h1 l2 > wantP p) then true else if addLo h1 l2 == wantP p then decide (l1 > 0) else false
def squareP (x p : Int) : Bool := if decide (mulHi x x > p) then true else if mulHi x x == p then decide (mulLo x x > 0) else false
def halfP (low high : Int) : Int := IntKind.u64.wrap (Int.tdiv (IntKind.u64.wrap (low + high)) 2)
def rootP (ab : Int -> Int -> Bool) (p : Int) : Nat -> Int -> Int -> Option Int
 | 0, _, _ => none
 | n + 1, low, high => if decide (IntKind.u64.wrap (high - low) > 1) then (if ab (halfP low high) p then rootP ab p n low (halfP low high) else rootP ab p n (halfP low high) high) else some (IntKind.u32.wrap low)
def isP (x : Int) : List Int -> Option Bool
 | [] => some true
 | p :: r => if p ≠ 0 then (if Int.tmod x p == 0 then some false else isP x r) else none
def primesP : Nat -> Int -> List Int -> Option (List Int)
 | 0, _, _ => none
 | n + 1, x, l => if decide ((l.length : Int) < 64) then (match isP x l with
  | some true => primesP n (IntKind.u64.wrap (x + 1)) (l ++ [x])
  | some false => primesP n (IntKind.u64.wrap (x + 1)) l
  | none => none) else some l
def rootsP (ab : Int -> Int -> Bool) : List Int -> Option (List Int)
 | [] => some []
 | p :: r => match rootP ab p 50 0 68719476736, rootsP ab r with
  | some x, some l => some (x :: l)
  | _, _ => none
structure W8 where (a b c d e f g h : Int)
def W8.ints (v : W8) : List Int := [v.a, v.b, v.c, v.d, v.e, v.f, v.g, v.h]
def u32L (l : List Int) : List Value := l.map fun x => .int .u32 x
def W8.cells (v : W8) : List Value := [.int .u32 v.a, .int .u32 v.b, .int .u32 v.c, .int .u32 v.d, .int .u32 v.e, .int .u32 v.f, .int .u32 v.g, .int .u32 v.h]
def wordP (l : List UInt8) (i : Nat) : Int :=
 let b := fun k => (((l.getD (4 * i + k) 0).toNat : Nat) : Int)
 bitV .or .u32 (bitV .or .u32 (bitV .or .u32 (IntKind.u32.wrap ((IntKind.u32.wrap (b 0)) * 2 ^ min (Int.toNat 24) (IntKind.bits .u32))) (IntKind.u32.wrap ((IntKind.u32.wrap (b 1)) * 2 ^ min (Int.toNat 16) (IntKind.bits .u32)))) (IntKind.u32.wrap ((IntKind.u32.wrap (b 2)) * 2 ^ min (Int.toNat 8) (IntKind.bits .u32)))) (IntKind.u32.wrap (b 3))
def nextW (w : List Int) : Int :=
 let at_ := fun k => w.getD (w.length - k) 0
 IntKind.u32.wrap ((IntKind.u32.wrap ((IntKind.u32.wrap (at_ 16 + (bitV .xor .u32 (rightP (at_ 15) [7, 18] 0) (Int.fdiv (at_ 15) (2 ^ min (Int.toNat 3) (IntKind.bits .u32)))))) + at_ 7)) + (bitV .xor .u32 (rightP (at_ 2) [17, 19] 0) (Int.fdiv (at_ 2) (2 ^ min (Int.toNat 10) (IntKind.bits .u32)))))
def stepW (l : List UInt8) (w : List Int) : Int := if w.length < 16 then wordP l w.length else nextW w
def growW (l : List UInt8) : Nat -> List Int -> List Int
 | 0, w => w
 | n + 1, w => growW l n (w ++ [stepW l w])
def roundX (k w : Int) (v : W8) : Int := IntKind.u32.wrap ((IntKind.u32.wrap ((IntKind.u32.wrap ((IntKind.u32.wrap (v.h + rightP v.e [6, 11, 25] 0)) + (bitV .xor .u32 (bitV .and .u32 v.e v.f) (bitV .and .u32 (bitV .xor .u32 4294967295 v.e) v.g)))) + k)) + w)
def roundY (v : W8) : Int := IntKind.u32.wrap (rightP v.a [2, 13, 22] 0 + (bitV .xor .u32 (bitV .xor .u32 (bitV .and .u32 v.a v.b) (bitV .and .u32 v.a v.c)) (bitV .and .u32 v.b v.c)))
def roundW (k w : Int) (v : W8) : W8 := ⟨IntKind.u32.wrap (roundX k w v + roundY v), v.a, v.b, v.c, IntKind.u32.wrap (v.d + roundX k w v), v.e, v.f, v.g⟩
def roundsW : List Int -> List Int -> W8 -> W8
 | k :: ks, w :: ws, v => roundsW ks ws (roundW k w v)
 | _, _, v => v
def W8.add (u v : W8) : W8 := ⟨IntKind.u32.wrap (u.a + v.a), IntKind.u32.wrap (u.b + v.b), IntKind.u32.wrap (u.c + v.c), IntKind.u32.wrap (u.d + v.d), IntKind.u32.wrap (u.e + v.e), IntKind.u32.wrap (u.f + v.f), IntKind.u32.wrap (u.g + v.g), IntKind.u32.wrap (u.h + v.h)⟩
def blockP (k : List Int) (h : W8) (l : List UInt8) : W8 := h.add (roundsW k (growW l 64 []) h)
def lenI (n : Nat) (i : Int) : Int := IntKind.u8.wrap (Int.fdiv (IntKind.u64.wrap ((IntKind.u64.wrap ((n : Nat) : Int)) * 8)) (2 ^ min (Int.toNat (IntKind.i64.wrap (8 * (IntKind.i64.wrap (7 - i))))) (IntKind.bits .u64)))
def lenB (n : Nat) (i : Nat) : UInt8 := UInt8.ofNat (lenI n i).toNat
def padP (l : List UInt8) : List UInt8 := l ++ 128 :: (List.replicate ((119 - l.length % 64) % 64) 0 ++ [lenB l.length 0, lenB l.length 1, lenB l.length 2, lenB l.length 3, lenB l.length 4, lenB l.length 5, lenB l.length 6, lenB l.length 7])
def blocksP (k : List Int) : Nat -> W8 -> List UInt8 -> W8
 | 0, h, _ => h
 | n + 1, h, l => blocksP k n (blockP k h (l.take 64)) (l.drop 64)
def outB (x : Int) : List Int := [IntKind.u8.wrap (Int.fdiv x (2 ^ min (Int.toNat 24) (IntKind.bits .u32))), IntKind.u8.wrap (Int.fdiv x (2 ^ min (Int.toNat 16) (IntKind.bits .u32))), IntKind.u8.wrap (Int.fdiv x (2 ^ min (Int.toNat 8) (IntKind.bits .u32))), IntKind.u8.wrap x]
def outP (h : W8) : List UInt8 := (h.ints.flatMap outB).map fun x => UInt8.ofNat x.toNat
end Go.Wk

set_option maxRecDepth 100000
namespace Go.Proofs.YtgfiobhpipollaaGreatDoor
open Go Go.HL Go.Wk
attribute [local irreducible] ptrW ifW brW andW rdT alW letJ stW muW biW vaW imW callT cvalT app callW invW callVW sizeT oW nilF oneK loopW rfW funW begW roundK exW idxW Gr Put
theorem s_RotL32 (x k : Int) {σ : H} {K : KH} (hK : K (.int .u32 (rotP x k)) σ) : callW Tryz.prog 219 [.int .u32 x, .int .i64 k] K σ := by
 refine c219 _ _ ?_
 unfold g219
 have h0 : ∀ a b : Int, 0 <= bitV .and .u64 a b := by
  intro a b
  show 0 <= IntKind.u64.wrap _
  unfold IntKind.wrap
  simp only [IntKind.signed, Bool.false_and, Bool.false_eq_true, if_false]
  exact Int.emod_nonneg _ (by decide)
 have h1 : ∀ a : Int, 0 <= IntKind.u64.wrap a := by
  intro a
  unfold IntKind.wrap
  simp only [IntKind.signed, Bool.false_and, Bool.false_eq_true, if_false]
  exact Int.emod_nonneg _ (by decide)
 exact if_i (h0 _ _) (if_i (h1 _) hK)
def IntsAt (σ : H) (l : List Int) (x : Sl) : Prop := x.len = l.length /\ ∃ b t fz, x.base = some ⟨b, 0, none⟩ /\ σ b = some (.cells ⟨l.map fun n => .int .i64 n⟩ t fz)
theorem s_right (x : Int) (l : List Int) (y : Sl) {σ : H} (h : IntsAt σ l y) (hl : l.length <= 1000) {K : KH} (hK : K (.int .u32 (rightP x l 0)) σ) : callW Tryz.prog 218 [.int .u32 x, .slice y.base y.len y.cap] K σ := by
 refine c218 _ _ ?_
 unfold g218
 refine loop_i ?_
 intro R hR
 obtain ⟨h1, b, t, fz, h2, h3⟩ := h
 have key : ∀ (r : List Int) (i : Nat) (o : Int), l.drop i = r -> rightP x l 0 = rightP x r o -> R x o y ((y.len : Nat) : Int) (i : Int) σ := by
  intro r
  induction r with
  | nil =>
   intro i o hd he
   have hge : l.length <= i := by simpa using hd
   refine hR _ _ _ _ _ _ ?_
   refine br_f (by rw [h1]; simp only [decide_eq_false_iff_not]; omega) ?_
   rw [he] at hK; exact hK
  | cons n r ih =>
   intro i o hd he
   have hx : l[i]? = some n := by
    have : (l.drop i)[0]? = some n := by rw [hd]; rfl
    simpa using this
   have hlt : i < l.length := by
    rcases Nat.lt_or_ge i l.length with h | h
    ·exact h
    ·rw [List.drop_eq_nil_of_le h] at hd; cases hd
   have hd' : l.drop (i + 1) = r := by rw [<- List.drop_drop, hd]; rfl
   refine hR _ _ _ _ _ _ ?_
   refine br_t (by rw [h1]; simp only [decide_eq_true_eq]; omega) ?_
   rw [h2]
   refine ptr_i (if_i ⟨by omega, by rw [h1]; omega⟩ ?_)
   refine rd_I (rdC_of (v := .int .i64 n) h3 (by simp [hx])) ?_
   refine call_i (s_RotL32 _ _ (app_I ?_))
   rw [wrap_id (x := (i : Int) + 1) (by omega) (by omega)]
   exact ih (i + 1) _ hd' he
 exact key l 0 0 rfl rfl
theorem s_Mul64 (x y : Int) {σ : H} {K : KH} (hK : K (.tuple ⟨[.int .u64 (mulHi x y), .int .u64 (mulLo x y)]⟩) σ) : callW Tryz.prog 248 [.int .u64 x, .int .u64 y] K σ := by
 refine c248 _ _ ?_
 unfold g248
 exact if_i (by decide) (if_i (by decide) (if_i (by decide) (if_i (by decide) (if_i (by decide) hK))))
theorem go_Add64 : isGo Tryz.prog 249 = false := by kernel_rfl
theorem fn_Add64 : (Tryz.prog.funcs[249]?).map (fun fn => ((fn.name == "runtime.NumGoroutine"), fn.body.isNone, (Extern.findNext fn).isNone)) = some (false, true, true) := by kernel_rfl
def addE : Array Value -> Sem Value := fun args => do
 let (x, y, c) <- Extern.MathBitsCarry.three "Add64" args
 pure (Extern.MathBitsCarry.pair ((x + y + c) % Extern.MathBitsCarry.m64) ((x + y + c) / Extern.MathBitsCarry.m64))
theorem ex_Add64 : (Tryz.prog.funcs[249]?).bind (fun fn => Extern.find fn) = some addE := by kernel_rfl
theorem x_Add64 (x y : Int) {σ : H} {F : Int -> Int -> H -> Prop} (hF : F (addLo x y) (addHi x y) σ) : cvalT Tryz.prog (.func (.func 249) ⟨[]⟩ ⟨[]⟩) [.int .u64 x, .int .u64 y, .int .u64 0] (.tup [.sc (.int .u64), .sc (.int .u64)]) F σ := by
 unfold cvalT callVW
 simp only [go_Add64]
 unfold invW
 intro w hw
 have h1 := fn_Add64
 have h2 := ex_Add64
 cases hf : Tryz.prog.funcs[249]? with
 | none => rw [hf] at h1; cases h1
 | some fn =>
  rw [hf] at h1 h2
  simp only [Option.map_some, Option.some.injEq, Prod.mk.injEq, Option.bind_some] at h1 h2
  have hr := run_callFunc_extern hf h1.1 h1.2.1 (Option.isNone_iff_eq_none.1 h1.2.2) h2 #[.int .u64 x, .int .u64 y, .int .u64 0] w
  have he : (addE #[.int .u64 x, .int .u64 y, .int .u64 0]).run Tryz.prog w = .ok (.tuple ⟨[.int .u64 (addLo x y), .int .u64 (addHi x y)]⟩) w := rfl
  rw [he] at hr
  have : (callS (.func (.func 249) ⟨[]⟩ ⟨[]⟩) [.int .u64 x, .int .u64 y, .int .u64 0]).run Tryz.prog w = .ok (.value (.tuple ⟨[.int .u64 (addLo x y), .int .u64 (addHi x y)]⟩)) w := by
   refine Eq.trans ?_ hr
   simp [callS, Deferred.ofValue, invoke]
  rw [this]
  exact ⟨σ, Ext.refl hw, app_II hF⟩
theorem s_shaSquare (x p : Int) {σ : H} {K : KH} (hK : K (.bool (squareP x p)) σ) : callW Tryz.prog 216 [.int .u64 x, .int .u64 p] K σ := by
 refine c216 _ _ ?_
 unfold g216
 unfold squareP at hK
 refine call_i (s_Mul64 _ _ (app_II ?_))
 refine br_i (fun h => ?_) (fun h => br_i (fun h' => ?_) (fun h' => ?_))
 ·rw [if_pos h] at hK; exact hK
 ·rw [if_neg (by rw [h]; simp), if_pos h'] at hK; exact hK
 ·rw [if_neg (by rw [h]; simp), if_neg (by rw [h']; simp)] at hK; exact hK
theorem s_shaCube (x p : Int) {σ : H} {K : KH} (hK : K (.bool (cubeP x p)) σ) : callW Tryz.prog 215 [.int .u64 x, .int .u64 p] K σ := by
 refine c215 _ _ ?_
 unfold g215
 unfold cubeP wantP at hK
 simp only at hK
 refine call_i (s_Mul64 _ _ (app_II ?_))
 refine call_i (s_Mul64 _ _ (app_II ?_))
 refine call_i (s_Mul64 _ _ (app_II ?_))
 refine x_Add64 _ _ ?_
 refine br_i (fun h => ?_) (fun h => if_i (by decide) (br_i (fun h' => ?_) (fun h' => if_i (by decide) (br_i (fun h'' => ?_) (fun h'' => ?_)))))
 ·rw [if_pos h] at hK; exact hK
 ·rw [if_neg (by rw [h]; simp), if_pos h'] at hK; exact hK
 ·rw [if_neg (by rw [h]; simp), if_neg (by rw [h']; simp), if_pos h''] at hK; exact hK
 ·rw [if_neg (by rw [h]; simp), if_neg (by rw [h']; simp), if_neg (by rw [h'']; simp)] at hK; exact hK
theorem s_shaRoot {ab : Int -> Int -> Bool} {f : FuncId} (hf : isGo Tryz.prog f = true) (hab : ∀ (x p : Int) {σ : H} {K : KH}, K (.bool (ab x p)) σ -> callW Tryz.prog f [.int .u64 x, .int .u64 p] K σ) (p r : Int) (h : rootP ab p 50 0 68719476736 = some r) {σ : H} {K : KH} (hK : K (.int .u32 r) σ) : callW Tryz.prog 214 [.int .u64 p, .func (.func f) ⟨[]⟩ ⟨[]⟩] K σ := by
 refine c214 _ _ ?_
 unfold g214
 refine loop_i ?_
 intro R hR
 have key : ∀ (n : Nat) (low high : Int), rootP ab p n low high = some r -> R p (.func (.func f) ⟨[]⟩ ⟨[]⟩) low high σ := by
  intro n
  induction n with
  | zero => intro low high h; cases h
  | succ n ih =>
   intro low high h
   refine hR _ _ _ _ _ ?_
   unfold rootP at h
   refine br_i (fun hb => ?_) (fun hb => ?_)
   ·rw [if_pos hb] at h
    refine if_i (by decide) (cval_i hf (hab _ _ (app_B ?_)))
    refine br_i (fun ha => ?_) (fun ha => ?_)
    ·rw [if_pos (by unfold halfP; exact ha)] at h
     exact ih _ _ h
    ·rw [if_neg (by unfold halfP; rw [ha]; simp)] at h
     exact ih _ _ h
   ·rw [if_neg (by rw [hb]; simp)] at h
    cases h; exact hK
 exact key 50 _ _ h
theorem el_u64 : ElT Tryz.prog 224 138 1 := elT_of (by kernel_rfl) (by decide) (by kernel_rfl)
theorem sz_u32 : sizeT Tryz.prog 188 = some 1 := by kernel_rfl
theorem sz_words : sizeT Tryz.prog 194 = some 8 := by kernel_rfl
theorem sz_arr64w : sizeT Tryz.prog 195 = some 64 := by kernel_rfl
def u64R (l : List Int) : List (List Value) := l.map fun x => [.int .u64 x]
theorem u64_at {σ : H} {l : List Int} {x : Sl} (h : RowsAt σ 1 (u64R l) x) {i : Nat} {c : Int} (hi : l[i]? = some c) : ∃ g o, x.base = some ⟨g, o, none⟩ /\ i < x.len /\ rdC g (o + i * 1) σ = some (.int .u64 c) := by
 obtain ⟨g, o, h1, h2, h3⟩ := h.rdA (i := i) (r := [.int .u64 c]) (by unfold u64R; rw [List.getElem?_map, hi]; rfl) (by decide)
 have h4 := h3 0 _ rfl
 rw [Nat.add_zero] at h4
 have hlt : i < l.length := by
  rcases Nat.lt_or_ge i l.length with h | h
  ·exact h
  ·rw [List.getElem?_eq_none h] at hi; cases hi
 exact ⟨g, o, h1, by rw [h.1]; simpa [u64R] using hlt, h4⟩
theorem u32_set (d r : List Int) (x y : Int) : (u32L (d ++ y :: r)).take d.length ++ arrL (Value.cells (.int .u32 x)) ++ (u32L (d ++ y :: r)).drop (d.length + (arrL (Value.cells (.int .u32 x))).length) = u32L (d ++ [x] ++ r) := by
 have hc : arrL (Value.cells (.int .u32 x)) = [.int .u32 x] := rfl
 have e : u32L (d ++ y :: r) = u32L d ++ .int .u32 y :: u32L r := by simp [u32L]
 have hl : d.length = (u32L d).length := by simp [u32L]
 rw [hc, e, hl, List.take_left, List.length_singleton, List.drop_length_add_append]
 simp [u32L]
theorem rdA_all {σ : H} {b n : Nat} {l : List Value} {t : TypeId} {fz : Nat × Nat} (h : σ b = some (.cells ⟨l⟩ t fz)) (hn : l.length = n) : rdA n b 0 σ = some (.agg ⟨l⟩) := by
 rw [rdA_of h (by omega), List.drop_zero, List.take_of_length_le (by omega)]
theorem u32_len (l : List Int) : (u32L l).length = l.length := by simp [u32L]
theorem u32_one (l : List Int) : ∀ v ∈ u32L l, v.oneCell' = true := by
 intro v hv
 simp only [u32L, List.mem_map] at hv
 obtain ⟨x, _, rfl⟩ := hv; rfl
theorem one_u32 (v : Int) : ∀ x ∈ arrL (Value.cells (.int .u32 v)), x.oneCell' = true := by
 intro x hx
 have : x = .int .u32 v := by simpa [Value.cells, arrL] using hx
 subst this; rfl
theorem at_drop {α : Type} {l r : List α} {x : α} {i : Nat} (h : l.drop i = x :: r) : l[i]? = some x /\ i < l.length /\ l.drop (i + 1) = r := by
 refine ⟨?_, ?_, ?_⟩
 ·have : (l.drop i)[0]? = some x := by rw [h]; rfl
  simpa using this
 ·rcases Nat.lt_or_ge i l.length with h' | h'
  ·exact h'
  ·rw [List.drop_eq_nil_of_le h'] at h; cases h
 ·rw [<- List.drop_drop, h]; rfl
theorem go_cube : isGo Tryz.prog 215 = true := by kernel_rfl
theorem go_square : isGo Tryz.prog 216 = true := by kernel_rfl
theorem s_shaConst {pl kl : List Int} {H0 : W8} (hp : primesP 400 2 [] = some pl) (hl : pl.length = 64) (hk : rootsP cubeP pl = some kl) (hh : rootsP squareP (pl.take 8) = some H0.ints) (hkl : kl.length = 64) {σ : H} {K : KH}
 (hK : K (.tuple ⟨[.agg ⟨H0.cells⟩, .agg ⟨u32L kl⟩]⟩) σ) : callW Tryz.prog 177 [] K σ := by
 refine pure_i _ hK (c177 ?_)
 clear hK
 unfold g177
 refine al_i ?_; intro b1 σ1 g1 e1 n1
 refine al_i ?_; intro b2 σ2 g2 e2 n2
 have hne : b1 ≠ b2 := ne_fresh e1 n2
 have e1' := g2.get e1
 have hz1 : σ2 b1 = some (.cells ⟨u32L (List.replicate 8 0)⟩ 194 (0, 0)) := e1'
 have hz2 : σ2 b2 = some (.cells ⟨u32L (List.replicate 64 0)⟩ 195 (0, 0)) := e2
 have n1' := none_of g1 n2
 clear e1 e1' e2
 have g12 := g1.trans g2
 refine loop_i ?_
 intro R hR
 have key1 : ∀ (n : Nat) (x : Int) (l : List Int) (pr : Sl) (τ : H), primesP n x l = some pl -> RNew σ2 τ 138 1 (u64R l) pr -> R (some ⟨b1, 0, none⟩) (some ⟨b2, 0, none⟩) pr x τ := by
  intro n
  induction n with
  | zero => intro x l pr τ h; cases h
  | succ n ih =>
   intro x l pr τ h hn
   have hlen : pr.len = l.length := by rw [hn.len]; simp [u64R]
   refine hR _ _ _ _ _ ?_
   unfold primesP at h
   by_cases hlt : (l.length : Int) < 64
   ·rw [if_pos (by simpa using hlt)] at h
    refine br_t (by rw [hlen]; simpa using hlt) ?_
    refine j_i (fun j => ∀ (pr' : Sl) (l' : List Int) (τ' : H), RNew σ2 τ' 138 1 (u64R l') pr' -> primesP n (IntKind.u64.wrap (x + 1)) l' = some pl -> j (some ⟨b1, 0, none⟩) (some ⟨b2, 0, none⟩) pr' x τ') ?_ ?_
    ·intro pr' l' τ' h1 h2
     exact ih _ _ _ _ h2 h1
    intro j hj
    refine loop_i ?_
    intro R2 hR2
    have key2 : ∀ (r : List Int) (i : Nat), l.drop i = r -> isP x l = isP x r -> R2 (some ⟨b1, 0, none⟩) (some ⟨b2, 0, none⟩) pr x pr ((pr.len : Nat) : Int) (i : Int) τ := by
     intro r
     induction r with
     | nil =>
      intro i hd he
      have hge : l.length <= i := by simpa using hd
      refine hR2 _ _ _ _ _ _ _ _ ?_
      refine br_f (by rw [hlen]; simp only [decide_eq_false_iff_not]; omega) ?_
      rw [he] at h
      refine RNew.app1 el_u64 hn rfl rfl (by simp [u64R]; omega) ?_
      intro y' τ' h1 _ _
      refine hj _ (l ++ [x]) _ ?_ h
      have : u64R (l ++ [x]) = u64R l ++ [[.int .u64 x]] := by simp [u64R]
      rw [this]; exact h1
     | cons p r ihr =>
      intro i hd he
      obtain ⟨hx, hlt2, hd'⟩ := at_drop hd
      obtain ⟨g, o, q1, q2, q3⟩ := u64_at hn.at hx
      refine hR2 _ _ _ _ _ _ _ _ ?_
      refine br_t (by rw [hlen]; simp only [decide_eq_true_eq]; omega) ?_
      rw [q1]
      refine ptr_i (if_i ⟨by omega, by omega⟩ (rd_I (by simpa using q3) ?_))
      have he' := he
      simp only [isP] at he'
      by_cases hp0 : p ≠ 0
      ·rw [if_pos hp0] at he'
       refine if_i hp0 (br_i (fun hm => ?_) (fun hm => ?_))
       ·rw [if_pos hm] at he'
        refine hj _ l _ hn ?_
        rw [he'] at h; exact h
       ·rw [if_neg (by rw [hm]; simp)] at he'
        rw [wrap_id (x := (i : Int) + 1) (by omega) (by omega)]
        exact ihr (i + 1) hd' he'
      ·rw [if_neg hp0] at he'
       rw [he'] at h; cases h
    exact key2 l 0 rfl rfl
   ·rw [if_neg (by simpa using hlt)] at h
    cases h
    refine br_f (by rw [hlen]; simpa using hlt) ?_
    have ht1 := hn.1.get hz1
    have ht2 := hn.1.get hz2
    have hgb : ∀ b o, σ2 b = some o -> ∀ g off, pr.base = some ⟨g, off, none⟩ -> g ≠ b := by
     intro b ob hb g off hbase
     obtain ⟨_, _, ⟨q1, _⟩ | ⟨g', cur, q1, _⟩⟩ := hn.2.1
     ·rw [q1] at hbase; cases hbase
     ·have hg := hn.2.2 g' q1
      rw [q1] at hbase; injection hbase with hbase; injection hbase with hb1; subst hb1
      exact fun e => by rw [e, hb] at hg; cases hg
    refine loop_i ?_
    intro R3 hR3
    have key3 : ∀ (r : List Int) (i : Nat) (done rest : List Int) (θ : H), pl.drop i = r -> done.length = i -> rootsP cubeP r = some rest -> kl = done ++ rest -> θ b2 = some (.cells ⟨u32L (done ++ List.replicate (64 - i) 0)⟩ 195 (0, 0)) -> (∀ c o, c ≠ b2 -> τ c = some o -> θ c = some o) -> R3 (some ⟨b1, 0, none⟩) (some ⟨b2, 0, none⟩) pr pr ((pr.len : Nat) : Int) (i : Int) θ := by
     intro r
     induction r with
     | nil =>
      intro i done rest θ hd hdl hr hkd hb2 hkeep
      have hge : pl.length <= i := by simpa using hd
      refine hR3 _ _ _ _ _ _ _ ?_
      refine br_f (by rw [hlen]; simp only [decide_eq_false_iff_not]; omega) ?_
      have hr0 : rest = [] := by unfold rootsP at hr; simpa using hr.symm
      subst hr0
      rw [List.append_nil] at hkd
      subst hkd
      have hi0 : 64 - i = 0 := by omega
      rw [hi0, List.replicate_zero, List.append_nil] at hb2
      refine loop_i ?_
      intro R4 hR4
      have key4 : ∀ (r : List Int) (i : Nat) (done rest : List Int) (θ' : H), (pl.take 8).drop i = r -> done.length = i -> rootsP squareP r = some rest -> H0.ints = done ++ rest -> θ' b1 = some (.cells ⟨u32L (done ++ List.replicate (8 - i) 0)⟩ 194 (0, 0)) -> (∀ c o, c ≠ b1 -> θ c = some o -> θ' c = some o) -> R4 (some ⟨b1, 0, none⟩) (some ⟨b2, 0, none⟩) pr (i : Int) θ' := by
       intro r
       induction r with
       | nil =>
        intro i done rest θ' hd hdl hr hkd hb1 hkeep2
        have hge : (pl.take 8).length <= i := by simpa using hd
        have hge8 : 8 <= i := by rw [List.length_take, hl] at hge; exact hge
        refine hR4 _ _ _ _ _ ?_
        refine br_f (by simp only [decide_eq_false_iff_not]; omega) ?_
        have hr0 : rest = [] := by unfold rootsP at hr; simpa using hr.symm
        subst hr0
        rw [List.append_nil] at hkd
        subst hkd
        have hi0 : 8 - i = 0 := by omega
        rw [hi0, List.replicate_zero, List.append_nil] at hb1
        have hb1' : θ' b1 = some (.cells ⟨H0.cells⟩ 194 (0, 0)) := hb1
        have hb2' := hkeep2 b2 _ (Ne.symm hne) hb2
        refine ptr_i (rd_G (rdA_of' hb1' (by rfl)) ?_)
        unfold W8.cells
        (refine app_of rfl ?_; try dsimp only)
        refine ptr_i (rd_R (rdA_all hb2' (by rw [u32_len, hkl])) ?_)
        refine st_i2 hb1' sz_words (by rfl) (by rfl) ?_
        intro θ1 p1
        have c1 : θ1 b1 = some (.cells ⟨H0.cells⟩ 194 (0, 0)) := p1.same
        have c2 := p1.get (Ne.symm hne) hb2'
        refine and_i (rdA_all c2 (by rw [u32_len, hkl])) ?_
        refine st_i c2 (by rw [sz_arr64w]; show some 64 = some (u32L kl).length; rw [u32_len, hkl]) (by show 0 + (u32L kl).length <= _; rw [Nat.zero_add]; exact Nat.le_refl _) (u32_one kl) (.inl (Nat.le_refl _)) ?_
        intro θ2 p2
        have hset : (u32L kl).take 0 ++ arrL (Value.cells (.agg ⟨u32L kl⟩)) ++ (u32L kl).drop (0 + (arrL (Value.cells (.agg ⟨u32L kl⟩))).length) = u32L kl := by
         show [] ++ u32L kl ++ (u32L kl).drop (0 + (u32L kl).length) = u32L kl
         rw [Nat.zero_add, List.drop_length]; simp
        rw [hset] at p2
        have d1 := p2.get hne c1
        have d2 := p2.same
        refine ptr_i (rd_G (rdA_of' d1 (by rfl)) ?_)
        unfold W8.cells
        (refine app_of rfl ?_; try dsimp only)
        refine ptr_i (rd_R (rdA_all d2 (by rw [u32_len, hkl])) ⟨rfl, ?_⟩)
        have q0 : Gr σ2 τ := hn.1
        refine gr_of fun c oc hc => ?_
        have w1 : c ≠ b1 := fun e => by rw [e] at hc; rw [none_of (Gr.refl _) n1] at hc; cases hc
        have w2 : c ≠ b2 := fun e => by rw [e, n1'] at hc; cases hc
        exact p2.get w2 (p1.get w1 (hkeep2 c _ w1 (hkeep c _ w2 (q0.get (g12.get hc)))))
       | cons p r ihr =>
        intro i done rest θ' hd hdl hr hkd hb1 hkeep2
        obtain ⟨hx, hlt2, hd'⟩ := at_drop hd
        rw [List.length_take, hl] at hlt2
        have hi8 : i < 8 := by omega
        have hx' : pl[i]? = some p := by rw [List.getElem?_take_of_lt hi8] at hx; exact hx
        have hrows : RowsAt θ' 1 (u64R pl) pr := hn.at.keep fun g o ob hb hg => hkeep2 g ob (hgb b1 _ hz1 g o hb) (hkeep g ob (hgb b2 _ hz2 g o hb) hg)
        obtain ⟨g, o, q1, q2, q3⟩ := u64_at hrows hx'
        refine hR4 _ _ _ _ _ ?_
        refine br_t (by simp only [decide_eq_true_eq]; omega) ?_
        rw [q1]
        refine ptr_i (if_i ⟨by omega, by omega⟩ (rd_I (by simpa using q3) ?_))
        unfold rootsP at hr
        cases hrt : rootP squareP p 50 0 68719476736 with
        | none => rw [hrt] at hr; cases hr
        | some v =>
         cases hrs : rootsP squareP r with
         | none => rw [hrt, hrs] at hr; cases hr
         | some rest' =>
          rw [hrt, hrs] at hr
          cases hr
          refine call_i (s_shaRoot go_square s_shaSquare p v hrt (app_I ?_))
          refine ptr_i (if_i ⟨by omega, by omega⟩ ?_)
          have hrep : List.replicate (8 - i) (0 : Int) = 0 :: List.replicate (8 - (i + 1)) 0 := by
           rw [show 8 - i = (8 - (i + 1)) + 1 by omega, List.replicate_succ]
          rw [hrep] at hb1
          have hoff : 0 + ((i : Nat) : Int).toNat * 1 = done.length := by rw [hdl]; simp
          rw [hoff]
          refine st_i hb1 sz_u32 (by rw [u32_len]; show done.length + 1 <= _; simp) (one_u32 v) (.inl (Nat.le_refl _)) ?_
          intro θ1 p1
          rw [u32_set] at p1
          rw [wrap_id (x := (i : Int) + 1) (by omega) (by omega)]
          refine ihr (i + 1) (done ++ [v]) rest' θ1 hd' (by simp [hdl]) hrs (by rw [hkd]; simp) p1.same fun c o hc ho => p1.get hc (hkeep2 c o hc ho)
      exact key4 (pl.take 8) 0 [] H0.ints θ rfl rfl hh rfl (hkeep b1 _ hne ht1) fun _ _ _ h => h
     | cons p r ihr =>
      intro i done rest θ hd hdl hr hkd hb2 hkeep
      obtain ⟨hx, hlt2, hd'⟩ := at_drop hd
      have hrows : RowsAt θ 1 (u64R pl) pr := hn.at.keep fun g o ob hb hg => hkeep g ob (hgb b2 _ hz2 g o hb) hg
      obtain ⟨g, o, q1, q2, q3⟩ := u64_at hrows hx
      refine hR3 _ _ _ _ _ _ _ ?_
      refine br_t (by rw [hlen]; simp only [decide_eq_true_eq]; omega) ?_
      rw [q1]
      refine ptr_i (if_i ⟨by omega, by omega⟩ (rd_I (by simpa using q3) ?_))
      unfold rootsP at hr
      cases hrt : rootP cubeP p 50 0 68719476736 with
      | none => rw [hrt] at hr; cases hr
      | some v =>
       cases hrs : rootsP cubeP r with
       | none => rw [hrt, hrs] at hr; cases hr
       | some rest' =>
        rw [hrt, hrs] at hr
        cases hr
        refine call_i (s_shaRoot go_cube s_shaCube p v hrt (app_I ?_))
        refine ptr_i (if_i ⟨by omega, by omega⟩ ?_)
        have hrep : List.replicate (64 - i) (0 : Int) = 0 :: List.replicate (64 - (i + 1)) 0 := by
         rw [show 64 - i = (64 - (i + 1)) + 1 by omega, List.replicate_succ]
        rw [hrep] at hb2
        have hoff : 0 + ((i : Nat) : Int).toNat * 1 = done.length := by rw [hdl]; simp
        rw [hoff]
        refine st_i hb2 sz_u32 (by rw [u32_len]; show done.length + 1 <= _; simp) (one_u32 v) (.inl (Nat.le_refl _)) ?_
        intro θ1 p1
        rw [u32_set] at p1
        rw [wrap_id (x := (i : Int) + 1) (by omega) (by omega)]
        refine ihr (i + 1) (done ++ [v]) rest' θ1 hd' (by simp [hdl]) hrs (by rw [hkd]; simp) p1.same fun c o hc ho => p1.get hc (hkeep c o hc ho)
    exact key3 pl 0 [] kl τ rfl rfl hk rfl ht2 fun _ _ _ h => h
 exact key1 400 2 [] ⟨none, 0, 0⟩ σ2 hp (RNew.nil _ _ _)
theorem by_at {σ : H} {l : List UInt8} {x : Sl} (h : RowsAt σ 1 (brows l) x) {i : Nat} (hi : i < l.length) : ∃ g o, x.base = some ⟨g, o, none⟩ /\ i < x.len /\ rdC g (o + i * 1) σ = some (.int .u8 (((l.getD i 0).toNat : Nat) : Int)) := by
 have hc : l[i]? = some (l.getD i 0) := by rw [List.getD_eq_getElem?_getD, List.getElem?_eq_getElem hi]; rfl
 obtain ⟨g, o, h1, h2, h3⟩ := h.rdA (i := i) (r := [.int .u8 (l.getD i 0).toNat]) (by unfold brows; rw [List.getElem?_map, hc]; rfl) (by decide)
 have h4 := h3 0 _ rfl
 rw [Nat.add_zero] at h4
 exact ⟨g, o, h1, by rw [h.1, brows_len]; exact hi, h4⟩
theorem w_at {σ : H} {b : Nat} {w z : List Int} {t : TypeId} {fz : Nat × Nat} (h : σ b = some (.cells ⟨u32L (w ++ z)⟩ t fz)) {k : Nat} (hk : k < w.length) : rdC b (0 + k * 1) σ = some (.int .u32 (w.getD k 0)) := by
 refine rdC_of h ?_
 unfold u32L
 rw [Nat.zero_add, Nat.mul_one, List.getElem?_map, List.getElem?_append_left hk, List.getD_eq_getElem?_getD, List.getElem?_eq_getElem hk]
 rfl
theorem growW_len (l : List UInt8) : ∀ (n : Nat) (w : List Int), (growW l n w).length = w.length + n := by
 intro n
 induction n with
 | zero => intro w; rfl
 | succ n ih => intro w; unfold growW; rw [ih]; simp; omega
theorem w64 (i d : Nat) (h : d <= i) (hi : i <= 64) : IntKind.i64.wrap ((i : Int) - (d : Int)) = ((i - d : Nat) : Int) := by
 rw [wrap_id (by omega) (by omega)]; omega
theorem go_right : isGo Tryz.prog 218 = true := by kernel_rfl
theorem s_shaBlock (h : W8) (l : List UInt8) (x : Sl) {kl : List Int} {bk : Nat} {σ : H} {tk : TypeId} {fk : Nat × Nat} (hx : RowsAt σ 1 (brows l) x) (hl : l.length = 64) (hk : σ bk = some (.cells ⟨u32L kl⟩ tk fk)) (hkl : kl.length = 64) {K : KH}
 (hK : K (.agg ⟨(blockP kl h l).cells⟩) σ) : callW Tryz.prog 179 [.agg ⟨h.cells⟩, .slice x.base x.len x.cap, .pointer (some ⟨bk, 0, none⟩)] K σ := by
 refine pure_i _ hK (c179 _ _ _ _ _ _ _ _ _ _ ?_)
 clear hK
 unfold g179
 refine al_i ?_; intro b11 σ1 g1 e1 n1
 refine al_i ?_; intro b12 σ2 g2 e2 n2
 refine al_i ?_; intro b13 σ3 g3 e3 n3
 have hxl : x.len = 64 := by rw [hx.1, brows_len, hl]
 have ne1 : b11 ≠ b12 := ne_fresh e1 n2
 have ne2 : b11 ≠ b13 := ne_fresh (g2.get e1) n3
 have ne3 : b12 ≠ b13 := ne_fresh e2 n3
 have e1' : σ3 b11 = some (.cells ⟨h.cells⟩ 194 (0, 0)) := g3.get (g2.get e1)
 have e2' := g3.get e2
 have e3' : σ3 b13 = some (.cells ⟨u32L (List.replicate 64 0)⟩ 195 (0, 0)) := e3
 have gA : Gr σ σ3 := (g1.trans g2).trans g3
 have n2' := none_of g1 n2
 have n3' := none_of (g1.trans g2) n3
 clear e1 e2 e3
 generalize hW : growW l 64 [] = W
 have hWl : W.length = 64 := by rw [<- hW, growW_len]; rfl
 have hkA := gA.get hk
 refine loop_i ?_
 intro R hR
 have key1 : ∀ (n i : Nat) (w : List Int) (θ : H), i + n = 64 -> w.length = i -> growW l n w = W -> θ b13 = some (.cells ⟨u32L (w ++ List.replicate n 0)⟩ 195 (0, 0)) -> (∀ c o, c ≠ b13 -> σ3 c = some o -> θ c = some o) ->
  R x (some ⟨bk, 0, none⟩) (some ⟨b11, 0, none⟩) (some ⟨b12, 0, none⟩) (.func (.func 218) ⟨[]⟩ ⟨[]⟩) (some ⟨b13, 0, none⟩) (i : Int) θ := by
  intro n
  induction n with
  | zero =>
   intro i w θ hin hwl hg hb hkeep
   refine hR _ _ _ _ _ _ _ _ ?_
   refine br_f (by simp only [decide_eq_false_iff_not]; omega) ?_
   have hwW : w = W := hg
   subst hwW
   rw [List.replicate_zero] at hb
   have f1 := hkeep _ _ ne2 e1'
   refine ptr_i (rd_G (rdA_of' f1 (by rfl)) ?_)
   unfold W8.cells
   (refine app_of rfl ?_; try dsimp only)
   refine al_i ?_; intro b78 θ1 g78 e78 n78
   refine st_i2 e78 sz_words (by rfl) (by rfl) ?_
   intro θ2 p2
   have ne4 : b13 ≠ b78 := ne_fresh hb n78
   have ne5 : b11 ≠ b78 := ne_fresh f1 n78
   have f2 := hkeep _ _ ne3 e2'
   have ne6 : b12 ≠ b78 := ne_fresh f2 n78
   have hkB : bk ≠ b13 := fun e => by rw [e, n3'] at hk; cases hk
   have f3 := hkeep _ _ hkB hkA
   have ne7 : bk ≠ b78 := ne_fresh f3 n78
   have v1 := p2.get ne4 (g78.get hb)
   have v2 := p2.get ne5 (g78.get f1)
   have v3 := p2.get ne6 (g78.get f2)
   have v4 := p2.get ne7 (g78.get f3)
   have v5 : θ2 b78 = some (.cells ⟨h.cells⟩ 194 (0, 0)) := p2.same
   have keepA : ∀ c o, σ c = some o -> θ2 c = some o := by
    intro c o hc
    have w1 : c ≠ b13 := fun e => by rw [e, n3'] at hc; cases hc
    have hc' := hkeep c _ w1 (gA.get hc)
    have w2 : c ≠ b78 := ne_fresh hc' n78
    exact p2.get w2 (g78.get hc')
   clear p2 e78
   refine loop_i ?_
   intro R2 hR2
   have key2 : ∀ (n i : Nat) (v : W8) (θ' : H), i + n = 64 -> roundsW (kl.drop i) (w.drop i) v = roundsW kl w h -> θ' b78 = some (.cells ⟨v.cells⟩ 194 (0, 0)) -> (∀ c o, c ≠ b78 -> θ2 c = some o -> θ' c = some o) ->
    R2 (some ⟨bk, 0, none⟩) (some ⟨b11, 0, none⟩) (some ⟨b12, 0, none⟩) (.func (.func 218) ⟨[]⟩ ⟨[]⟩) (some ⟨b13, 0, none⟩) (some ⟨b78, 0, none⟩) (i : Int) θ' := by
    intro n
    induction n with
    | zero =>
     intro i v θ' hin hro hv0 hkp
     refine hR2 _ _ _ _ _ _ _ _ ?_
     refine br_f (by simp only [decide_eq_false_iff_not]; omega) ?_
     have hvf : v = roundsW kl w h := by
      rw [<- hro, List.drop_eq_nil_of_le (by omega)]; rfl
     subst hvf
     have hb0 := hkp _ _ ne5 v2
     have hz0 := hkp _ _ ne6 v3
     have kp0 : ∀ c o, σ c = some o -> θ' c = some o := fun c o hc => hkp c o (fun e => by
      rw [e] at hc
      have w1 : b78 ≠ b13 := Ne.symm ne4
      have := hkeep b78 _ w1 (gA.get hc)
      rw [n78] at this; cases this) (keepA c o hc)
     have hb0 : θ' b11 = some (.cells ⟨[.int .u32 h.a, .int .u32 h.b, .int .u32 h.c, .int .u32 h.d, .int .u32 h.e, .int .u32 h.f, .int .u32 h.g, .int .u32 h.h]⟩ 194 (0, 0)) := hb0
     have hv0 : θ' b78 = some (.cells ⟨(roundsW kl w h).cells⟩ 194 (0, 0)) := hv0
     refine loop_i ?_
     intro R3 hR3
     show R3 _ _ _ _ _
     refine hR3 _ _ _ _ _ ?_
     refine br_t (by decide) ?_
     refine ptr_i (if_i (by decide) (rd_I (rdC_of hb0 (by rfl)) ?_))
     refine ptr_i (if_i (by decide) (rd_I (rdC_of hv0 (by rfl)) ?_))
     refine ptr_i (if_i (by decide) ?_)
     refine st_i2 hb0 sz_u32 (by rfl) (by rfl) ?_
     intro η0 p0
     have hb1 : η0 b11 = some (.cells ⟨[.int .u32 (IntKind.u32.wrap (h.a + (roundsW kl w h).a)), .int .u32 h.b, .int .u32 h.c, .int .u32 h.d, .int .u32 h.e, .int .u32 h.f, .int .u32 h.g, .int .u32 h.h]⟩ 194 (0, 0)) := p0.same
     have hv1 := p0.get (Ne.symm ne5) hv0
     have hz1 := p0.get (Ne.symm ne1) hz0
     have kp1 : ∀ c o, σ c = some o -> η0 c = some o := fun c o hc => p0.get (fun e => by rw [e, n1] at hc; cases hc) (kp0 c o hc)
     clear p0
     refine hR3 _ _ _ _ _ ?_
     refine br_t (by decide) ?_
     refine ptr_i (if_i (by decide) (rd_I (rdC_of hb1 (by rfl)) ?_))
     refine ptr_i (if_i (by decide) (rd_I (rdC_of hv1 (by rfl)) ?_))
     refine ptr_i (if_i (by decide) ?_)
     refine st_i2 hb1 sz_u32 (by rfl) (by rfl) ?_
     intro η1 p1
     have hb2 : η1 b11 = some (.cells ⟨[.int .u32 (IntKind.u32.wrap (h.a + (roundsW kl w h).a)), .int .u32 (IntKind.u32.wrap (h.b + (roundsW kl w h).b)), .int .u32 h.c, .int .u32 h.d, .int .u32 h.e, .int .u32 h.f, .int .u32 h.g, .int .u32 h.h]⟩ 194 (0, 0)) := p1.same
     have hv2 := p1.get (Ne.symm ne5) hv1
     have hz2 := p1.get (Ne.symm ne1) hz1
     have kp2 : ∀ c o, σ c = some o -> η1 c = some o := fun c o hc => p1.get (fun e => by rw [e, n1] at hc; cases hc) (kp1 c o hc)
     clear p1
     refine hR3 _ _ _ _ _ ?_
     refine br_t (by decide) ?_
     refine ptr_i (if_i (by decide) (rd_I (rdC_of hb2 (by rfl)) ?_))
     refine ptr_i (if_i (by decide) (rd_I (rdC_of hv2 (by rfl)) ?_))
     refine ptr_i (if_i (by decide) ?_)
     refine st_i2 hb2 sz_u32 (by rfl) (by rfl) ?_
     intro η2 p2
     have hb3 : η2 b11 = some (.cells ⟨[.int .u32 (IntKind.u32.wrap (h.a + (roundsW kl w h).a)), .int .u32 (IntKind.u32.wrap (h.b + (roundsW kl w h).b)), .int .u32 (IntKind.u32.wrap (h.c + (roundsW kl w h).c)), .int .u32 h.d, .int .u32 h.e, .int .u32 h.f, .int .u32 h.g, .int .u32 h.h]⟩ 194 (0, 0)) := p2.same
     have hv3 := p2.get (Ne.symm ne5) hv2
     have hz3 := p2.get (Ne.symm ne1) hz2
     have kp3 : ∀ c o, σ c = some o -> η2 c = some o := fun c o hc => p2.get (fun e => by rw [e, n1] at hc; cases hc) (kp2 c o hc)
     clear p2
     refine hR3 _ _ _ _ _ ?_
     refine br_t (by decide) ?_
     refine ptr_i (if_i (by decide) (rd_I (rdC_of hb3 (by rfl)) ?_))
     refine ptr_i (if_i (by decide) (rd_I (rdC_of hv3 (by rfl)) ?_))
     refine ptr_i (if_i (by decide) ?_)
     refine st_i2 hb3 sz_u32 (by rfl) (by rfl) ?_
     intro η3 p3
     have hb4 : η3 b11 = some (.cells ⟨[.int .u32 (IntKind.u32.wrap (h.a + (roundsW kl w h).a)), .int .u32 (IntKind.u32.wrap (h.b + (roundsW kl w h).b)), .int .u32 (IntKind.u32.wrap (h.c + (roundsW kl w h).c)), .int .u32 (IntKind.u32.wrap (h.d + (roundsW kl w h).d)), .int .u32 h.e, .int .u32 h.f, .int .u32 h.g, .int .u32 h.h]⟩ 194 (0, 0)) := p3.same
     have hv4 := p3.get (Ne.symm ne5) hv3
     have hz4 := p3.get (Ne.symm ne1) hz3
     have kp4 : ∀ c o, σ c = some o -> η3 c = some o := fun c o hc => p3.get (fun e => by rw [e, n1] at hc; cases hc) (kp3 c o hc)
     clear p3
     refine hR3 _ _ _ _ _ ?_
     refine br_t (by decide) ?_
     refine ptr_i (if_i (by decide) (rd_I (rdC_of hb4 (by rfl)) ?_))
     refine ptr_i (if_i (by decide) (rd_I (rdC_of hv4 (by rfl)) ?_))
     refine ptr_i (if_i (by decide) ?_)
     refine st_i2 hb4 sz_u32 (by rfl) (by rfl) ?_
     intro η4 p4
     have hb5 : η4 b11 = some (.cells ⟨[.int .u32 (IntKind.u32.wrap (h.a + (roundsW kl w h).a)), .int .u32 (IntKind.u32.wrap (h.b + (roundsW kl w h).b)), .int .u32 (IntKind.u32.wrap (h.c + (roundsW kl w h).c)), .int .u32 (IntKind.u32.wrap (h.d + (roundsW kl w h).d)), .int .u32 (IntKind.u32.wrap (h.e + (roundsW kl w h).e)), .int .u32 h.f, .int .u32 h.g, .int .u32 h.h]⟩ 194 (0, 0)) := p4.same
     have hv5 := p4.get (Ne.symm ne5) hv4
     have hz5 := p4.get (Ne.symm ne1) hz4
     have kp5 : ∀ c o, σ c = some o -> η4 c = some o := fun c o hc => p4.get (fun e => by rw [e, n1] at hc; cases hc) (kp4 c o hc)
     clear p4
     refine hR3 _ _ _ _ _ ?_
     refine br_t (by decide) ?_
     refine ptr_i (if_i (by decide) (rd_I (rdC_of hb5 (by rfl)) ?_))
     refine ptr_i (if_i (by decide) (rd_I (rdC_of hv5 (by rfl)) ?_))
     refine ptr_i (if_i (by decide) ?_)
     refine st_i2 hb5 sz_u32 (by rfl) (by rfl) ?_
     intro η5 p5
     have hb6 : η5 b11 = some (.cells ⟨[.int .u32 (IntKind.u32.wrap (h.a + (roundsW kl w h).a)), .int .u32 (IntKind.u32.wrap (h.b + (roundsW kl w h).b)), .int .u32 (IntKind.u32.wrap (h.c + (roundsW kl w h).c)), .int .u32 (IntKind.u32.wrap (h.d + (roundsW kl w h).d)), .int .u32 (IntKind.u32.wrap (h.e + (roundsW kl w h).e)), .int .u32 (IntKind.u32.wrap (h.f + (roundsW kl w h).f)), .int .u32 h.g, .int .u32 h.h]⟩ 194 (0, 0)) := p5.same
     have hv6 := p5.get (Ne.symm ne5) hv5
     have hz6 := p5.get (Ne.symm ne1) hz5
     have kp6 : ∀ c o, σ c = some o -> η5 c = some o := fun c o hc => p5.get (fun e => by rw [e, n1] at hc; cases hc) (kp5 c o hc)
     clear p5
     refine hR3 _ _ _ _ _ ?_
     refine br_t (by decide) ?_
     refine ptr_i (if_i (by decide) (rd_I (rdC_of hb6 (by rfl)) ?_))
     refine ptr_i (if_i (by decide) (rd_I (rdC_of hv6 (by rfl)) ?_))
     refine ptr_i (if_i (by decide) ?_)
     refine st_i2 hb6 sz_u32 (by rfl) (by rfl) ?_
     intro η6 p6
     have hb7 : η6 b11 = some (.cells ⟨[.int .u32 (IntKind.u32.wrap (h.a + (roundsW kl w h).a)), .int .u32 (IntKind.u32.wrap (h.b + (roundsW kl w h).b)), .int .u32 (IntKind.u32.wrap (h.c + (roundsW kl w h).c)), .int .u32 (IntKind.u32.wrap (h.d + (roundsW kl w h).d)), .int .u32 (IntKind.u32.wrap (h.e + (roundsW kl w h).e)), .int .u32 (IntKind.u32.wrap (h.f + (roundsW kl w h).f)), .int .u32 (IntKind.u32.wrap (h.g + (roundsW kl w h).g)), .int .u32 h.h]⟩ 194 (0, 0)) := p6.same
     have hv7 := p6.get (Ne.symm ne5) hv6
     have hz7 := p6.get (Ne.symm ne1) hz6
     have kp7 : ∀ c o, σ c = some o -> η6 c = some o := fun c o hc => p6.get (fun e => by rw [e, n1] at hc; cases hc) (kp6 c o hc)
     clear p6
     refine hR3 _ _ _ _ _ ?_
     refine br_t (by decide) ?_
     refine ptr_i (if_i (by decide) (rd_I (rdC_of hb7 (by rfl)) ?_))
     refine ptr_i (if_i (by decide) (rd_I (rdC_of hv7 (by rfl)) ?_))
     refine ptr_i (if_i (by decide) ?_)
     refine st_i2 hb7 sz_u32 (by rfl) (by rfl) ?_
     intro η7 p7
     have hb8 : η7 b11 = some (.cells ⟨[.int .u32 (IntKind.u32.wrap (h.a + (roundsW kl w h).a)), .int .u32 (IntKind.u32.wrap (h.b + (roundsW kl w h).b)), .int .u32 (IntKind.u32.wrap (h.c + (roundsW kl w h).c)), .int .u32 (IntKind.u32.wrap (h.d + (roundsW kl w h).d)), .int .u32 (IntKind.u32.wrap (h.e + (roundsW kl w h).e)), .int .u32 (IntKind.u32.wrap (h.f + (roundsW kl w h).f)), .int .u32 (IntKind.u32.wrap (h.g + (roundsW kl w h).g)), .int .u32 (IntKind.u32.wrap (h.h + (roundsW kl w h).h))]⟩ 194 (0, 0)) := p7.same
     have hv8 := p7.get (Ne.symm ne5) hv7
     have hz8 := p7.get (Ne.symm ne1) hz7
     have kp8 : ∀ c o, σ c = some o -> η7 c = some o := fun c o hc => p7.get (fun e => by rw [e, n1] at hc; cases hc) (kp7 c o hc)
     clear p7
     refine hR3 _ _ _ _ _ ?_
     refine br_f (by decide) ?_
     refine ptr_i (rd_G (rdA_of' hb8 (by rfl)) ?_)
     (refine app_of rfl ?_; try dsimp only)
     refine st_i2 hz8 sz_words (by rfl) (by rfl) ?_
     intro η9 p9
     refine ptr_i (rd_G (rdA_of' p9.same (by rfl)) ?_)
     (refine app_of rfl ?_; try dsimp only)
     refine ⟨?_, gr_of fun c o hc => p9.get (fun e => by rw [e, n2'] at hc; cases hc) (kp8 c o hc)⟩
     unfold blockP
     rw [hW]; rfl
    | succ n ih2 =>
     intro i v θ' hin hro hv hkp
     refine hR2 _ _ _ _ _ _ _ _ ?_
     refine br_t (by simp only [decide_eq_true_eq]; omega) ?_
     have hkk := hkp _ _ ne7 v4
     have hww := hkp _ _ ne4 v1
     have k_at : ∀ {θ0 : H}, θ0 bk = some (.cells ⟨u32L kl⟩ tk fk) -> rdC bk (0 + ((i : Nat) : Int).toNat * 1) θ0 = some (.int .u32 (kl.getD i 0)) := by
      intro θ0 h0
      have := w_at (w := kl) (z := []) (k := i) (by rw [List.append_nil]; exact h0) (by omega)
      simpa using this
     have wq_at : ∀ {θ0 : H}, θ0 b13 = some (.cells ⟨u32L (w ++ [])⟩ 195 (0, 0)) -> rdC b13 (0 + ((i : Nat) : Int).toNat * 1) θ0 = some (.int .u32 (w.getD i 0)) := by
      intro θ0 h0
      have := w_at (k := i) h0 (by omega)
      simpa using this
     refine ptr_i (if_i (by decide) (rd_I (rdC_of hv (by rfl)) ?_))
     refine ptr_i (if_i (by decide) (rd_I (rdC_of hv (by rfl)) ?_))
     refine ptr_i (if_i (by decide) (rd_I (rdC_of hv (by rfl)) ?_))
     refine ptr_i (if_i (by decide) (rd_I (rdC_of hv (by rfl)) ?_))
     refine ptr_i (if_i (by decide) (rd_I (rdC_of hv (by rfl)) ?_))
     refine ptr_i (if_i (by decide) (rd_I (rdC_of hv (by rfl)) ?_))
     refine ptr_i (if_i ⟨by omega, by omega⟩ (rd_I (k_at hkk) ?_))
     refine ptr_i (if_i ⟨by omega, by omega⟩ (rd_I (wq_at hww) ?_))
     refine al_i ?_; intro b111 ρ1 gr1 er1 nr1
     refine cval_i go_right (s_right _ [6, 11, 25] ⟨some ⟨b111, 0, none⟩, 3, 3⟩ ⟨rfl, b111, _, _, rfl, er1⟩ (by decide) (app_I ?_))
     have hv1 := gr1.get hv
     have hk1 := gr1.get hkk
     have hw1 := gr1.get hww
     refine and_i (wq_at hw1) (and_i (k_at hk1) (and_i (rdC_of hv1 (by rfl)) (and_i (rdC_of hv1 (by rfl)) (and_i (rdC_of hv1 (by rfl)) (and_i (rdC_of hv1 (by rfl)) (and_i (rdC_of hv1 (by rfl)) ?_))))))
     refine ptr_i (if_i (by decide) (rd_I (rdC_of hv1 (by rfl)) ?_))
     refine ptr_i (if_i (by decide) (rd_I (rdC_of hv1 (by rfl)) ?_))
     refine ptr_i (if_i (by decide) (rd_I (rdC_of hv1 (by rfl)) ?_))
     refine ptr_i (if_i (by decide) (rd_I (rdC_of hv1 (by rfl)) ?_))
     refine ptr_i (if_i (by decide) (rd_I (rdC_of hv1 (by rfl)) ?_))
     refine ptr_i (if_i (by decide) (rd_I (rdC_of hv1 (by rfl)) ?_))
     refine ptr_i (if_i (by decide) (rd_I (rdC_of hv1 (by rfl)) ?_))
     refine al_i ?_; intro b134 ρ2 gr2 er2 nr2
     refine cval_i go_right (s_right _ [2, 13, 22] ⟨some ⟨b134, 0, none⟩, 3, 3⟩ ⟨rfl, b134, _, _, rfl, er2⟩ (by decide) (app_I ?_))
     have hv2 := gr2.get hv1
     refine and_i (rdC_of hv2 (by rfl)) (and_i (rdC_of hv2 (by rfl)) (and_i (rdC_of hv2 (by rfl)) (and_i (rdC_of hv2 (by rfl)) (and_i (rdC_of hv2 (by rfl)) (and_i (rdC_of hv2 (by rfl)) ?_)))))
     refine ptr_i (if_i (by decide) (rd_I (rdC_of hv2 (by rfl)) ?_))
     refine ptr_i (if_i (by decide) (rd_I (rdC_of hv2 (by rfl)) ?_))
     refine ptr_i (if_i (by decide) (rd_I (rdC_of hv2 (by rfl)) ?_))
     refine ptr_i (if_i (by decide) (rd_I (rdC_of hv2 (by rfl)) ?_))
     refine ptr_i (if_i (by decide) (rd_I (rdC_of hv2 (by rfl)) ?_))
     refine ptr_i (if_i (by decide) (rd_I (rdC_of hv2 (by rfl)) ?_))
     refine ptr_i (if_i (by decide) (rd_I (rdC_of hv2 (by rfl)) ?_))
     refine st_i2 hv2 sz_words (by rfl) (by rfl) ?_
     intro ρ3 pr3
     have hv3 : ρ3 b78 = some (.cells ⟨(roundW (kl.getD i 0) (w.getD i 0) v).cells⟩ 194 (0, 0)) := pr3.same
     rw [wrap_id (x := (i : Int) + 1) (by omega) (by omega)]
     refine ih2 (i + 1) _ ρ3 (by omega) ?_ hv3 fun c o hc ho => pr3.get hc (gr2.get (gr1.get (hkp c o hc ho)))
     rw [<- hro]
     have d1 : kl.drop i = kl.getD i 0 :: kl.drop (i + 1) := by
      rw [List.drop_eq_getElem_cons (by omega : i < kl.length), List.getD_eq_getElem?_getD, List.getElem?_eq_getElem (by omega)]; rfl
     have d2 : w.drop i = w.getD i 0 :: w.drop (i + 1) := by
      rw [List.drop_eq_getElem_cons (by omega : i < w.length), List.getD_eq_getElem?_getD, List.getElem?_eq_getElem (by omega)]; rfl
     rw [d1, d2]; rfl
   exact key2 64 0 h θ2 rfl rfl v5 fun _ _ _ h => h
  | succ n ih =>
   intro i w θ hin hwl hg hb hkeep
   refine hR _ _ _ _ _ _ _ _ ?_
   refine br_t (by simp only [decide_eq_true_eq]; omega) ?_
   refine j_i (fun j => ∀ (θ' : H), θ' b13 = some (.cells ⟨u32L ((w ++ [stepW l w]) ++ List.replicate n 0)⟩ 195 (0, 0)) -> (∀ c o, c ≠ b13 -> σ3 c = some o -> θ' c = some o) ->
    j x (some ⟨bk, 0, none⟩) (some ⟨b11, 0, none⟩) (some ⟨b12, 0, none⟩) (.func (.func 218) ⟨[]⟩ ⟨[]⟩) (some ⟨b13, 0, none⟩) (i : Int) θ') ?_ ?_
   ·intro θ' h1 h2
    have := ih (i + 1) (w ++ [stepW l w]) θ' (by omega) (by simp [hwl]) hg h1 h2
    show R _ _ _ _ _ _ _ _
    rw [wrap_id (x := (i : Int) + 1) (by omega) (by omega)]
    exact this
   intro j hj
   have hb' : θ b13 = some (.cells ⟨u32L (w ++ 0 :: List.replicate n 0)⟩ 195 (0, 0)) := by rw [List.replicate_succ] at hb; exact hb
   have store : ∀ (v : Int) (θ0 : H), v = stepW l w -> θ0 b13 = some (.cells ⟨u32L (w ++ 0 :: List.replicate n 0)⟩ 195 (0, 0)) -> (∀ c o, c ≠ b13 -> σ3 c = some o -> θ0 c = some o) ->
    stW Tryz.prog 188 (.pointer (some ⟨b13, 0 + ((i : Nat) : Int).toNat * 1, none⟩)) (.int .u32 v) (j x (some ⟨bk, 0, none⟩) (some ⟨b11, 0, none⟩) (some ⟨b12, 0, none⟩) (.func (.func 218) ⟨[]⟩ ⟨[]⟩) (some ⟨b13, 0, none⟩) (i : Int)) θ0 := by
    intro v θ0 hv h0 hkp
    have hoff : 0 + ((i : Nat) : Int).toNat * 1 = w.length := by rw [hwl]; simp
    rw [hoff]
    refine st_i h0 sz_u32 (by rw [u32_len]; show w.length + 1 <= _; simp) (one_u32 v) (.inl (Nat.le_refl _)) ?_
    intro θ1 p1
    rw [u32_set, hv] at p1
    exact hj θ1 p1.same fun c o hc ho => p1.get hc (hkp c o hc ho)
   by_cases h16 : i < 16
   ·refine br_t (by simp only [decide_eq_true_eq]; omega) ?_
    have hxT : RowsAt θ 1 (brows l) x := by
     refine hx.keep fun g o ob _ hg => ?_
     have w1 : g ≠ b13 := fun e => by rw [e, n3'] at hg; cases hg
     exact hkeep g _ w1 (gA.get hg)
    obtain ⟨g, o, q1, _, q0⟩ := by_at hxT (i := 4 * i) (by omega)
    obtain ⟨g', o', q1', _, r1⟩ := by_at hxT (i := 4 * i + 1) (by omega)
    rw [q1] at q1'; injection q1' with q1'; injection q1' with ea eb; subst ea; subst eb
    obtain ⟨g', o', q1', _, r2⟩ := by_at hxT (i := 4 * i + 2) (by omega)
    rw [q1] at q1'; injection q1' with q1'; injection q1' with ea eb; subst ea; subst eb
    obtain ⟨g', o', q1', _, r3⟩ := by_at hxT (i := 4 * i + 3) (by omega)
    rw [q1] at q1'; injection q1' with q1'; injection q1' with ea eb; subst ea; subst eb
    have w0 : IntKind.i64.wrap (4 * (i : Int)) = ((4 * i : Nat) : Int) := by rw [wrap_id (by omega) (by omega)]; omega
    have w1 : IntKind.i64.wrap (((4 * i : Nat) : Int) + 1) = ((4 * i + 1 : Nat) : Int) := by rw [wrap_id (by omega) (by omega)]; omega
    have w2 : IntKind.i64.wrap (((4 * i : Nat) : Int) + 2) = ((4 * i + 2 : Nat) : Int) := by rw [wrap_id (by omega) (by omega)]; omega
    have w3 : IntKind.i64.wrap (((4 * i : Nat) : Int) + 3) = ((4 * i + 3 : Nat) : Int) := by rw [wrap_id (by omega) (by omega)]; omega
    rw [w0, w1, w2, w3, q1]
    refine ptr_i (if_i ⟨by omega, by omega⟩ (rd_I q0 (if_i (by decide) ?_)))
    refine ptr_i (if_i ⟨by omega, by omega⟩ (rd_I r1 (if_i (by decide) ?_)))
    refine ptr_i (if_i ⟨by omega, by omega⟩ (rd_I r2 (if_i (by decide) ?_)))
    refine ptr_i (if_i ⟨by omega, by omega⟩ (rd_I r3 ?_))
    refine ptr_i (if_i ⟨by omega, by omega⟩ ?_)
    refine store _ θ ?_ hb' hkeep
    unfold stepW; rw [if_pos (by omega), hwl]; rfl
   ·refine br_f (by simp only [decide_eq_false_iff_not]; omega) ?_
    have t16 := w64 i 16 (by omega) (by omega)
    have t15 := w64 i 15 (by omega) (by omega)
    have t7 := w64 i 7 (by omega) (by omega)
    have t2 := w64 i 2 (by omega) (by omega)
    simp only [Int.cast_ofNat_Int] at t16 t15 t7 t2
    rw [t16, t15, t7, t2]
    have at_ : ∀ {θ0 : H} (k : Nat), θ0 b13 = some (.cells ⟨u32L (w ++ 0 :: List.replicate n 0)⟩ 195 (0, 0)) -> k < i -> rdC b13 (0 + ((k : Nat) : Int).toNat * 1) θ0 = some (.int .u32 (w.getD k 0)) := by
     intro θ0 k h0 hk
     have := w_at h0 (k := k) (by omega)
     simpa using this
    refine ptr_i (if_i ⟨by omega, by omega⟩ (rd_I (at_ _ hb' (by omega)) ?_))
    refine ptr_i (if_i ⟨by omega, by omega⟩ (rd_I (at_ _ hb' (by omega)) ?_))
    refine ptr_i (if_i ⟨by omega, by omega⟩ (rd_I (at_ _ hb' (by omega)) (if_i (by decide) ?_)))
    refine ptr_i (if_i ⟨by omega, by omega⟩ (rd_I (at_ _ hb' (by omega)) ?_))
    refine ptr_i (if_i ⟨by omega, by omega⟩ (rd_I (at_ _ hb' (by omega)) ?_))
    refine ptr_i (if_i ⟨by omega, by omega⟩ (rd_I (at_ _ hb' (by omega)) ?_))
    refine al_i ?_; intro b62 θ1 g62 e62 n62
    refine cval_i go_right (s_right _ [7, 18] ⟨some ⟨b62, 0, none⟩, 2, 2⟩ ⟨rfl, b62, _, _, rfl, e62⟩ (by decide) (app_I ?_))
    have hb1 := g62.get hb'
    refine and_i (at_ _ hb1 (by omega)) (and_i (at_ _ hb1 (by omega)) (and_i (at_ _ hb1 (by omega)) (and_i (at_ _ hb1 (by omega)) (and_i (at_ _ hb1 (by omega)) ?_))))
    refine al_i ?_; intro b64 θ2 g64 e64 n64
    refine cval_i go_right (s_right _ [17, 19] ⟨some ⟨b64, 0, none⟩, 2, 2⟩ ⟨rfl, b64, _, _, rfl, e64⟩ (by decide) (app_I ?_))
    have hb2 := g64.get hb1
    refine and_i (at_ _ hb2 (by omega)) (and_i (at_ _ hb2 (by omega)) (and_i (at_ _ hb2 (by omega)) (and_i (at_ _ hb2 (by omega)) (if_i (by decide) ?_))))
    refine ptr_i (if_i ⟨by omega, by omega⟩ ?_)
    refine store _ θ2 ?_ hb2 fun c o hc ho => g64.get (g62.get (hkeep c o hc ho))
    unfold stepW; rw [if_neg (by omega)]; unfold nextW; rw [hwl]
 exact key1 64 0 [] σ3 rfl rfl hW e3' fun _ _ _ h => h
theorem el_u8' : ElT Tryz.prog 36 5 1 := elT_of (by kernel_rfl) (by decide) (by kernel_rfl)
theorem und_bytes' : Tryz.prog.underlying 36 = some (.slice 5) := by kernel_rfl
theorem und_str' : Tryz.prog.underlying 9 = some .string := by kernel_rfl
theorem und_u8' : Tryz.prog.underlying 5 = some (.int .u8) := by kernel_rfl
theorem tmod64 (n : Nat) : Int.tmod ((n : Nat) : Int) 64 = ((n % 64 : Nat) : Int) := rfl
theorem u8w (x : Int) : 0 <= IntKind.u8.wrap x /\ IntKind.u8.wrap x < 256 := by
 unfold IntKind.wrap
 simp only [IntKind.signed, Bool.false_and, Bool.false_eq_true, if_false]
 exact ⟨Int.emod_nonneg _ (by decide), Int.emod_lt_of_pos _ (by decide)⟩
theorem byteI {x : Int} (h : 0 <= x /\ x < 256) : (((UInt8.ofNat x.toNat).toNat : Nat) : Int) = x := by
 have : (UInt8.ofNat x.toNat).toNat = x.toNat := by
  rw [UInt8.toNat_ofNat']
  exact Nat.mod_eq_of_lt (by omega)
 rw [this]; omega
theorem lenB_I (n i : Nat) : (((lenB n i).toNat : Nat) : Int) = lenI n i := byteI (u8w _)
theorem s_shaBlocks1 (s : ByteArray) {b : Nat} {tb : TypeId} {yv : Value} {I : List UInt8 -> H -> Prop} {σ : H} (h2 : σ b = some (.cells ⟨[.string s]⟩ tb (0, 0)))
 (hg : ∀ r τ τ', I r τ -> Gr τ τ' -> I r τ')
 (hI : ∀ r τ (x : Sl) (K : KH), 64 <= r.length -> I r τ -> RowsAt τ 1 (brows (r.take 64)) x -> (∀ τ', I (r.drop 64) τ' -> (∀ c o, τ c = some o -> σ c = none -> τ' c = some o) -> K (.bool true) τ') -> callVW Tryz.prog yv [.slice x.base x.len x.cap] K τ)
 (h0 : I (padP s.data.toList) σ) (hs : s.size <= 100000000) {K : KH} (hK : ∀ τ', I [] τ' -> K (.tuple ⟨[]⟩) τ') : callW Tryz.prog 217 [yv, .pointer (some ⟨b, 0, none⟩)] K σ := by
 refine c217 _ _ ?_
 unfold g217
 have hsl : s.data.toList.length = s.size := by cases s with | mk d => simp [ByteArray.size]
 refine ptr_i (rd_S (rdC_of h2 (by rfl)) ?_)
 refine sbytes_z und_str' und_bytes' und_u8' s ?_
 intro x6 σ1 g1 hz1 hn1
 have hz : RNz σ σ1 5 1 (brows s.data.toList) x6 := ⟨g1, hz1, hn1⟩
 refine RNz.app1 el_u8' hz (r := [.int .u8 128]) rfl rfl (by rw [brows_len]; omega) ?_
 intro x8 σ2 hz2 _ _
 have e1 : brows s.data.toList ++ [[.int .u8 128]] = brows (s.data.toList ++ [128]) := by rw [brows_app]; rfl
 rw [e1] at hz2
 clear hz hz1 hn1 e1 g1
 generalize hlL : s.data.toList = L at *
 refine loop_i ?_
 intro R hR
 have key1 : ∀ (n k : Nat) (y : Sl) (τ : H), k + n = (119 - L.length % 64) % 64 -> RNz σ τ 5 1 (brows (L ++ 128 :: List.replicate k 0)) y -> R yv (some ⟨b, 0, none⟩) y τ := by
  intro n
  induction n with
  | zero =>
   intro k y τ hk hy
   have hlen : y.len = L.length + 1 + k := by rw [hy.len, brows_len]; simp; omega
   refine hR _ _ _ _ (if_i (by decide) ?_)
   refine br_f (by rw [tmod64, hlen]; simp only [bne_eq_false_iff_eq]; omega) ?_
   refine loop_i ?_
   intro R2 hR2
   have key2 : ∀ (m i : Nat) (y : Sl) (τ : H), i + m = 8 -> RNz σ τ 5 1 (brows (L ++ 128 :: List.replicate k 0 ++ (List.range i).map (lenB L.length))) y -> R2 yv (some ⟨b, 0, none⟩) y (i : Int) τ := by
    intro m
    induction m with
    | zero =>
     intro i y τ hi hy
     have hi8 : i = 8 := by omega
     subst hi8
     refine hR2 _ _ _ _ _ ?_
     refine br_f (by decide) ?_
     have hpad : L ++ 128 :: List.replicate k 0 ++ (List.range 8).map (lenB L.length) = padP L := by
      unfold padP
      rw [<- hk, Nat.add_zero]
      simp [List.range, List.range.loop]
     rw [hpad] at hy
     refine loop_i ?_
     intro R3 hR3
     have hplen : (padP L).length % 64 = 0 := by
      rw [<- hpad]; simp; omega
     have key3 : ∀ (q : Nat) (r : List UInt8) (z : Sl) (θ : H), r.length = 64 * q -> I r θ -> RowsAt θ 1 (brows r) z -> z.len <= z.cap -> (∀ g o, z.base = some ⟨g, o, none⟩ -> σ g = none) -> R3 yv z θ := by
      intro q
      induction q with
      | zero =>
       intro r z θ hr hi0 hz _ _
       have hr0 : r = [] := List.eq_nil_of_length_eq_zero (by omega)
       subst hr0
       refine hR3 _ _ _ ?_
       refine br_f (by rw [hz.1]; simp [brows]) (hK _ hi0)
      | succ q ih =>
       intro r z θ hr hi0 hz hcap hfr
       have hzl : z.len = r.length := by rw [hz.1, brows_len]
       refine hR3 _ _ _ ?_
       refine br_t (by rw [hzl]; simp only [gt_iff_lt, decide_eq_true_eq]; omega) ?_
       refine if_i ⟨bnd_some (by decide) (by show (64 : Int) <= _; omega), bnd_none⟩ ?_
       have h1 := hz.sub hcap (k := 0) (e := 64) (by omega) (by rw [brows_len]; omega) (z.cap - 0)
       have e1 : ((brows r).take 64).drop 0 = brows (r.take 64) := by simp [brows, List.map_take]
       rw [e1] at h1
       refine cvalv_i (hI r θ ⟨slBase z.base 0 z.cap 1, (64 : Int).toNat - 0, z.cap - 0⟩ _ (by omega) hi0 h1 ?_)
       intro θ' hi1 hkeep
       refine app_B (br_f rfl (if_i ⟨bnd_none, bnd_some (by decide) (by show (64 : Int) <= _; omega)⟩ ?_))
       have hz' : RowsAt θ' 1 (brows r) z := hz.keep fun g o ob hb hg => hkeep g _ hg (hfr g o hb)
       have h2 := hz'.sub hcap (k := 64) (e := z.len) (by omega) (by rw [brows_len]; omega) (z.cap - 64)
       have e2 : ((brows r).take z.len).drop 64 = brows (r.drop 64) := by
        rw [List.take_of_length_le (by rw [brows_len]; omega)]; simp [brows, List.map_drop]
       rw [e2] at h2
       refine ih (r.drop 64) ⟨slBase z.base ((64 : Int).toNat) z.cap 1, z.len - (64 : Int).toNat, z.cap - (64 : Int).toNat⟩ θ' (by rw [List.length_drop]; omega) hi1 h2 (by show z.len - 64 <= z.cap - 64; omega) ?_
       intro g o hb
       have hb : slBase z.base 64 z.cap 1 = some ⟨g, o, none⟩ := hb
       unfold slBase at hb
       split at hb
       ·exact hfr g o hb
       ·cases hzb : z.base with
        | none => rw [hzb] at hb; cases hb
        | some ad =>
         rw [hzb, Option.map_some] at hb
         injection hb with hb
         obtain ⟨ab, ao, as_⟩ := ad
         have hab : ab = g := by
          have := congrArg Addr.block hb
          unfold Addr.add at this
          split at this <;> exact this
         have has : as_ = none := by
          obtain ⟨_, q2 | ⟨g', o', _, _, _, q2, _⟩⟩ := hz
          ·have : (brows r).length = 0 := by rw [q2]; rfl
           rw [brows_len] at this
           omega
          ·rw [hzb] at q2; injection q2 with q2; injection q2
         subst hab; subst has
         exact hfr ab ao hzb
     refine key3 ((padP L).length / 64) (padP L) y τ (by omega) (hg _ _ _ h0 hy.1) hy.at hy.cap ?_
     intro g o hb
     obtain ⟨_, _, ⟨q1, _⟩ | ⟨g', cur, fz, _, q1, _⟩⟩ := hy.2.1
     ·rw [q1] at hb; cases hb
     ·have hgn := hy.2.2 g' q1
      rw [q1] at hb; injection hb with hb; injection hb with hb1; subst hb1; exact hgn
    | succ m ih =>
     intro i y τ hi hy
     refine hR2 _ _ _ _ _ ?_
     refine br_t (by simp only [decide_eq_true_eq]; omega) ?_
     refine ptr_i (rd_S (rdC_of (hy.1.get h2) (by rfl)) (if_i ?_ ?_))
     ·have w1 : IntKind.i64.wrap (7 - (i : Int)) = 7 - (i : Int) := wrap_id (by omega) (by omega)
      rw [w1, wrap_id (by omega) (by omega)]; omega
     refine RNz.app1 el_u8' hy rfl rfl (by rw [brows_len]; simp; omega) ?_
     intro y' τ' hy' _ _
     rw [wrap_id (x := (i : Int) + 1) (by omega) (by omega)]
     refine ih (i + 1) y' τ' (by omega) ?_
     have e3 : brows (L ++ 128 :: List.replicate k 0 ++ (List.range (i + 1)).map (lenB L.length)) = brows (L ++ 128 :: List.replicate k 0 ++ (List.range i).map (lenB L.length)) ++ [[.int .u8 (lenI s.size i)]] := by
      rw [List.range_succ, List.map_append, <- List.append_assoc, brows_app]
      congr 1
      show [[Value.int .u8 (((lenB L.length i).toNat : Nat) : Int)]] = _
      rw [lenB_I, hsl]
     rw [e3]; exact hy'
   refine key2 8 0 y τ rfl ?_
   rw [List.range_zero, List.map_nil, List.append_nil]; exact hy
  | succ n ih =>
   intro k y τ hk hy
   have hlen : y.len = L.length + 1 + k := by rw [hy.len, brows_len]; simp; omega
   refine hR _ _ _ _ (if_i (by decide) ?_)
   refine br_t (by rw [tmod64, hlen]; simp only [bne_iff_ne, ne_eq]; omega) ?_
   refine RNz.app1 el_u8' hy (r := [.int .u8 0]) rfl rfl (by rw [brows_len]; simp; omega) ?_
   intro y' τ' hy' _ _
   refine ih (k + 1) y' τ' (by omega) ?_
   have e3 : brows (L ++ 128 :: List.replicate (k + 1) 0) = brows (L ++ 128 :: List.replicate k 0) ++ [[.int .u8 0]] := by
    rw [List.replicate_succ', <- List.cons_append, <- List.append_assoc, brows_app]; rfl
   rw [e3]; exact hy'
 exact key1 _ 0 x8 σ2 (by rw [Nat.zero_add]) (by simpa using hz2)
theorem go_blocks1 : isGo Tryz.prog 217 = true := by kernel_rfl
def u8R (l : List Int) : List (List Value) := l.map fun x => [.int .u8 x]
def shaWP (kl : List Int) (h : W8) (l : List UInt8) : W8 := blocksP kl ((padP l).length / 64) h (padP l)
theorem outB_rng (x : Int) : ∀ c ∈ outB x, 0 <= c /\ c < 256 := by
 intro c hc
 simp only [outB, List.mem_cons, List.mem_nil_iff, or_false] at hc
 rcases hc with rfl | rfl | rfl | rfl <;> exact u8w _
theorem u8R_out (w : W8) : u8R (w.ints.flatMap outB) = brows (outP w) := by
 unfold u8R brows outP
 rw [List.map_map]
 apply List.map_congr_left
 intro c hc
 rw [List.mem_flatMap] at hc
 obtain ⟨x, _, hx⟩ := hc
 show [Value.int .u8 c] = [Value.int .u8 (((UInt8.ofNat c.toNat).toNat : Nat) : Int)]
 rw [byteI (outB_rng x c hx)]
theorem rdX8 (w : W8) {i : Nat} (hi : i < 8) (σ : H) : rdX 8 w.cells (i : Int) σ = some (.int .u32 (w.ints.getD i 0)) := by
 have : i = 0 \/ i = 1 \/ i = 2 \/ i = 3 \/ i = 4 \/ i = 5 \/ i = 6 \/ i = 7 := by omega
 rcases this with rfl | rfl | rfl | rfl | rfl | rfl | rfl | rfl <;> rfl
theorem pad_len (l : List UInt8) : (padP l).length % 64 = 0 := by
 unfold padP; simp; omega
theorem s_shaSum {pl kl : List Int} {H0 : W8} (hp : primesP 400 2 [] = some pl) (hl : pl.length = 64) (hk : rootsP cubeP pl = some kl) (hh : rootsP squareP (pl.take 8) = some H0.ints) (hkl : kl.length = 64) (s : ByteArray) (hs : s.size <= 100000000) {σ : H} {K : KH}
 (hK : K (.string ⟨⟨outP (shaWP kl H0 s.data.toList)⟩⟩) σ) : callW Tryz.prog 118 [.string s] K σ := by
 refine pure_i _ hK (c118 _ ?_)
 clear hK
 unfold g118
 refine call_i (s_shaConst hp hl hk hh hkl ?_)
 unfold W8.cells
 (refine app_of rfl ?_; try dsimp only)
 refine al_i ?_; intro b11 σ1 g1 e1 n1
 refine al_i ?_; intro b12 σ2 g2 e2 n2
 have ne : b11 ≠ b12 := ne_fresh e1 n2
 refine st_i2 (g2.get e1) sz_words (by rfl) (by rfl) ?_
 intro σ3 p3
 have c1 : σ3 b11 = some (.cells ⟨H0.cells⟩ 194 (0, 0)) := p3.same
 have c2 := p3.get (Ne.symm ne) e2
 have c2 : σ3 b12 = some (.cells ⟨u32L (List.replicate 64 0)⟩ 195 (0, 0)) := c2
 refine st_i c2 (by rw [sz_arr64w]; show some 64 = some (u32L kl).length; rw [u32_len, hkl]) (by show 0 + (u32L kl).length <= _; rw [u32_len, u32_len, hkl]; decide) (u32_one kl) (.inl (Nat.le_refl _)) ?_
 intro σ4 p4
 have hset : (u32L (List.replicate 64 0)).take 0 ++ arrL (Value.cells (.agg ⟨u32L kl⟩)) ++ (u32L (List.replicate 64 0)).drop (0 + (arrL (Value.cells (.agg ⟨u32L kl⟩))).length) = u32L kl := by
  show [] ++ u32L kl ++ (u32L (List.replicate 64 0)).drop (0 + (u32L kl).length) = u32L kl
  rw [Nat.zero_add, u32_len, hkl, List.drop_eq_nil_of_le (by rw [u32_len]; decide)]; simp
 rw [hset] at p4
 have d1 := p4.get ne c1
 have d2 := p4.same
 have hA : ∀ c o, σ c = some o -> σ4 c = some o := fun c o hc => p4.get (fun e => by rw [e, none_of g1 n2] at hc; cases hc) (p3.get (fun e => by rw [e, n1] at hc; cases hc) (g2.get (g1.get hc)))
 have nA : σ b11 = none := n1
 clear p4 p3 c1 c2 e1 e2 hset
 generalize hW : shaWP kl H0 s.data.toList = W
 refine j_i (fun j => ∀ τ : H, τ b11 = some (.cells ⟨W.cells⟩ 194 (0, 0)) -> (∀ c o, σ c = some o -> τ c = some o) -> j (some ⟨b11, 0, none⟩) τ) ?_ ?_
 ·intro τ hb hkeep
  refine ptr_i (rd_G (rdA_of' hb (by rfl)) ?_)
  unfold W8.cells
  (refine app_of rfl ?_; try dsimp only)
  refine loop_i ?_
  intro R hR
  have key : ∀ (n i : Nat) (out : Sl) (θ : H), i + n = 8 -> RNew τ θ 5 1 (u8R ((W.ints.take i).flatMap outB)) out -> R out W.a W.b W.c W.d W.e W.f W.g W.h (i : Int) θ := by
   intro n
   induction n with
   | zero =>
    intro i out θ hi hn
    have hi8 : i = 8 := by omega
    subst hi8
    refine hR _ _ _ _ _ _ _ _ _ _ _ ?_
    refine br_f (by decide) ?_
    have e1 : W.ints.take 8 = W.ints := rfl
    rw [e1, u8R_out] at hn
    refine bstr_i und_bytes' und_u8' und_str' hn.at ?_
    exact ⟨rfl, gr_of fun c o hc => hn.1.get (hkeep c o hc)⟩
   | succ n ih =>
    intro i out θ hi hn
    refine hR _ _ _ _ _ _ _ _ _ _ _ ?_
    refine br_t (by simp only [decide_eq_true_eq]; omega) ?_
    refine rd_I (rdX8 W (by omega) θ) (if_i (by decide) (if_i (by decide) (if_i (by decide) ?_)))
    refine al_i ?_; intro b37 θ1 g37 e37 n37
    have hbox : RowsAt θ1 1 (u8R (outB (W.ints.getD i 0))) ⟨some ⟨b37, 0, none⟩, 4, 4⟩ := by
     refine ⟨rfl, .inr ⟨b37, 0, _, _, _, rfl, e37, fun k r hr => ?_⟩⟩
     match k, hr with
     | 0, hr => cases hr; exact ⟨rfl, rfl⟩
     | 1, hr => cases hr; exact ⟨rfl, rfl⟩
     | 2, hr => cases hr; exact ⟨rfl, rfl⟩
     | 3, hr => cases hr; exact ⟨rfl, rfl⟩
     | k + 4, hr => simp [u8R, outB] at hr
    have hone : ∀ r ∈ u8R (outB (W.ints.getD i 0)), ∀ u ∈ r, u.oneCell' = true := by
     intro r hr u hu
     simp only [u8R, List.mem_map] at hr
     obtain ⟨q, _, rfl⟩ := hr
     simp at hu; subst hu; rfl
    have hlen : (u8R ((W.ints.take i).flatMap outB)).length <= 1000 := by
     have : ∀ l : List Int, (l.flatMap outB).length = 4 * l.length := by
      intro l
      induction l with
      | nil => rfl
      | cons x r ih => rw [List.flatMap_cons, List.length_append, ih]; simp [outB]; omega
     simp only [u8R, List.length_map]
     rw [this, List.length_take]; omega
    refine RNew.apps el_u8' (hn.gr g37) hbox hone (by have : (u8R (outB (W.ints.getD i 0))).length = 4 := rfl; omega) ?_
    intro y' θ2 h2 _ _
    rw [wrap_id (x := (i : Int) + 1) (by omega) (by omega)]
    refine ih (i + 1) y' θ2 (by omega) ?_
    have e2 : u8R ((W.ints.take (i + 1)).flatMap outB) = u8R ((W.ints.take i).flatMap outB) ++ u8R (outB (W.ints.getD i 0)) := by
     have hil : i < W.ints.length := by show i < 8; omega
     rw [List.take_succ_eq_append_getElem hil, List.flatMap_append]
     unfold u8R
     rw [List.map_append]
     congr 1
     rw [List.getD_eq_getElem?_getD, List.getElem?_eq_getElem hil]
     simp
    rw [e2]; exact h2
  exact key 8 0 ⟨none, 0, 0⟩ τ rfl (RNew.nil _ _ _)
 ·intro j hj
  refine call_i (c178 _ ?_)
  unfold g178
  refine al_i ?_; intro b2 σ5 g5 e5 n5
  refine app_R (fun_i (rf_i go_blocks1 ?_))
  intro l obj σ6 hl6 hput hlo hY
  have d15 := g5.get d1
  have d25 := g5.get d2
  have nl1 : b11 ≠ l := ne_fresh d15 hl6
  have nl2 : b12 ≠ l := ne_fresh d25 hl6
  have nlc : ∀ c o, σ c = some o -> c ≠ l := fun c o hc => ne_fresh (g5.get (hA c o hc)) hl6
  have nlb : ∀ c o, σ c = some o -> c ≠ b11 := fun c o hc e => by rw [e, nA] at hc; cases hc
  have e56 := hput.get (ne_fresh e5 hl6) e5
  refine s_shaBlocks1 s (I := fun r τ => τ l = some (obj .ready none) /\ τ b12 = some (.cells ⟨u32L kl⟩ 195 (0, 0)) /\ (∀ c o, σ c = some o -> τ c = some o) /\ ∃ (w : W8) (n : Nat), r.length = 64 * n /\ blocksP kl n w r = W /\ τ b11 = some (.cells ⟨w.cells⟩ 194 (0, 0))) e56 ?_ ?_ ?_ hs ?_
  ·rintro r τ τ' ⟨i1, i2, i3, w, n, h1, h2, h3⟩ hg
   exact ⟨hg.get i1, hg.get i2, fun c o hc => hg.get (i3 c o hc), w, n, h1, h2, hg.get h3⟩
  ·rintro r τ x K' hr ⟨i1, i2, i3, w, n, h1, h2, h3⟩ hx hK'
   refine yv_call (hY _ _ _ ⟨i1, ?_⟩)
   show begW l obj _ τ
   refine beg_i i1 ?_
   intro τ1 p1
   have k1 := p1.get nl1 h3
   have k2 := p1.get nl2 i2
   have hx1 : RowsAt τ1 1 (brows (r.take 64)) x := by
    obtain ⟨a1, a2 | ⟨g, o, cur, ty, fz, a2, a3, a4⟩⟩ := hx
    ·exact ⟨a1, .inl a2⟩
    ·refine ⟨a1, .inr ⟨g, o, cur, ty, fz, a2, p1.get (fun e => ?_) a3, a4⟩⟩
     rw [e, i1] at a3
     obtain ⟨r0, hr0⟩ := hlo
     rw [hr0] at a3; cases a3
   refine rd_G (rdA_of' k1 (by rfl)) ?_
   unfold W8.cells
   (refine app_of rfl ?_; try dsimp only)
   refine call_i (s_shaBlock w (r.take 64) x hx1 (by rw [List.length_take]; omega) k2 hkl ?_)
   unfold W8.cells
   (refine app_of rfl ?_; try dsimp only)
   refine st_i2 k1 sz_words (by rfl) (by rfl) ?_
   intro τ2 p2
   have m1 : τ2 b11 = some (.cells ⟨(blockP kl w (r.take 64)).cells⟩ 194 (0, 0)) := p2.same
   refine round_i (p2.get (Ne.symm nl1) p1.same) ?_
   intro τ3 p3
   refine hK' τ3 ⟨p3.same, p3.get nl2 (p2.get (Ne.symm ne) k2), fun c o hc => p3.get (nlc c o hc) (p2.get (nlb c o hc) (p1.get (nlc c o hc) (i3 c o hc))), blockP kl w (r.take 64), n - 1, ?_, ?_, p3.get nl1 m1⟩ ?_
   ·rw [List.length_drop]; omega
   ·cases n with
    | zero => omega
    | succ n => exact h2
   ·intro c o hc hn
    have w1 : c ≠ l := fun e => by rw [e, hput.same] at hn; cases hn
    have w2 : c ≠ b11 := fun e => by rw [e, hput.get nl1 d15] at hn; cases hn
    exact p3.get w1 (p2.get w2 (p1.get w1 hc))
  ·refine ⟨hput.same, hput.get nl2 d25, fun c o hc => hput.get (nlc c o hc) (g5.get (hA c o hc)), H0, (padP s.data.toList).length / 64, ?_, hW, hput.get nl1 d15⟩
   have := pad_len s.data.toList
   omega
  ·rintro τ' ⟨i1, i2, i3, w, n, h1, h2, h3⟩
   refine end_n i1 (by decide) ?_
   intro τ1 p1
   have hn0 : n = 0 := by simp at h1; omega
   subst hn0
   have hwW : w = W := h2
   subst hwW
   exact hj τ1 (p1.get nl1 h3) fun c o hc => p1.get (nlc c o hc) (i3 c o hc)
end Go.Proofs.YtgfiobhpipollaaGreatDoor

set_option maxRecDepth 100000
namespace Go.Proofs.YtgfiobhpipollaaGreatDoor
open Go Go.HL Go.Wk
theorem go_NE : isGo Tryz.prog 220 = false := by kernel_rfl
theorem fn_NE : (Tryz.prog.funcs[220]?).map (fun fn => ((fn.name == "runtime.NumGoroutine"), fn.body.isNone)) = some (false, true) := by kernel_rfl
theorem ex_NE : (Tryz.prog.funcs[220]?).bind (fun fn => Extern.find fn) = some Extern.AbiNoEscape.same := by kernel_rfl
theorem en_NE : (Tryz.prog.funcs[220]?).map (fun fn => (Extern.findNext fn).isNone) = some true := by kernel_rfl
theorem x_ext {f : FuncId} {e : Array Value -> Sem Value} {args : List Value} {t : TK} {F : t.Fn (H -> Prop)} {σ : H} (hg : isGo Tryz.prog f = false) (h1 : (Tryz.prog.funcs[f]?).map (fun fn => ((fn.name == "runtime.NumGoroutine"), fn.body.isNone)) = some (false, true))
 (h2 : (Tryz.prog.funcs[f]?).bind (fun fn => Extern.find fn) = some e) (h3 : (Tryz.prog.funcs[f]?).map (fun fn => (Extern.findNext fn).isNone) = some true)
 (h : ∀ w, σ.le w -> ∃ v w' σ', (e ⟨args⟩).run Tryz.prog w = .ok v w' /\ Ext σ w σ' w' /\ app t F v σ') : cvalT Tryz.prog (.func (.func f) ⟨[]⟩ ⟨[]⟩) args t F σ := by
 unfold cvalT callVW
 simp only [hg]
 intro w hw
 obtain ⟨v, w', σ', hr, hx, ha⟩ := h w hw
 cases hf : Tryz.prog.funcs[f]? with
 | none => rw [hf] at h1; cases h1
 | some fn =>
  rw [hf] at h1 h2 h3
  simp only [Option.map_some, Option.some.injEq, Prod.mk.injEq, Option.bind_some] at h1 h2 h3
  have hc := run_callFunc_standIn hf h1.1 h1.2 (Option.isNone_iff_eq_none.1 h3) h2 ⟨args⟩ w
  have : (callS (.func (.func f) ⟨[]⟩ ⟨[]⟩) args).run Tryz.prog w = .ok (.value v) w' := by
   simp [callS, Deferred.ofValue, invoke, hc, hr]
  rw [this]
  exact ⟨σ', hx, ha⟩
theorem x_NoEsc {v : Value} {F : Value -> H -> Prop} {σ : H} (hF : F v σ) : cvalT Tryz.prog (.func (.func 220) ⟨[]⟩ ⟨[]⟩) [v] kR F σ :=
 x_ext go_NE fn_NE ex_NE en_NE fun w hw => ⟨v, w, σ, Lib.run_noEscape w v, Ext.refl hw, app_R hF⟩
theorem und_bytes : Tryz.prog.underlying 36 = some (.slice 5) := by kernel_rfl
theorem und_Pu8 : Tryz.prog.underlying 203 = some (.pointer 5) := by kernel_rfl
theorem und_PBu : Tryz.prog.underlying 143 = some (.pointer 145) := by kernel_rfl
theorem und_up : Tryz.prog.underlying 231 = some .unsafePointer := by kernel_rfl
theorem cells_u8 : Tryz.prog.cellsOf 5 = 1 := by kernel_rfl
theorem info_u8 : ∃ i, Tryz.prog.info? 5 = some i /\ i.zero = some (.int .u8 0) /\ i.size = 1 /\ i.bytes = 1 := by
 have h1 : (Tryz.prog.info? 5).map (fun i => (i.zero, i.size, i.bytes)) = some (some (.int .u8 0), 1, 1) := by kernel_rfl
 cases hi : Tryz.prog.info? 5 with
 | none => rw [hi] at h1; cases h1
 | some i =>
  rw [hi] at h1
  simp only [Option.map_some, Option.some.injEq, Prod.mk.injEq] at h1
  exact ⟨i, rfl, h1.1, h1.2.1, h1.2.2⟩
theorem info_Bu : ∃ i, Tryz.prog.info? 145 = some i /\ i.size ≠ 0 := by
 have h1 : (Tryz.prog.info? 145).map (·.size) = some 2 := by kernel_rfl
 cases hi : Tryz.prog.info? 145 with
 | none => rw [hi] at h1; cases h1
 | some i =>
  rw [hi] at h1
  simp only [Option.map_some, Option.some.injEq] at h1
  exact ⟨i, rfl, by omega⟩
theorem lies_Bu : liesAt Tryz.prog Tryz.prog.depth 145 (2 / Tryz.prog.cellsOf 145) 0 145 1 = true := by kernel_rfl
theorem szb_bytes : sizeT Tryz.prog 36 = some 1 := by kernel_rfl
theorem szb_PBu : sizeT Tryz.prog 143 = some 1 := by kernel_rfl
def BuAt (σ : H) (b : Nat) (l : List UInt8) (D : Nat -> Prop) : Prop := ∃ (p : Option Addr) (x : Sl), σ b = some (.cells ⟨[.pointer p, .slice x.base x.len x.cap]⟩ 145 (0, 0)) /\ (p = none \/ p = some ⟨b, 0, none⟩) /\ RowsOwn σ 5 1 (brows l) x /\ (∀ g, x.base = some ⟨g, 0, none⟩ -> g ≠ b) /\ (x.base ≠ none -> x.cap ≠ 0) /\ ∀ c, D c ↔ (c = b \/ x.base = some ⟨c, 0, none⟩)
theorem BuAt.gr {σ σ' : H} {b : Nat} {l : List UInt8} {D : Nat -> Prop} (h : BuAt σ b l D) (hg : Gr σ σ') : BuAt σ' b l D := by
 obtain ⟨p, x, h1, h2, h3, h4⟩ := h
 exact ⟨p, x, hg.get h1, h2, h3.gr hg, h4⟩
theorem BuAt.new {σ : H} {b : Nat} (h : σ b = some (.cells ⟨[.pointer none, .slice none 0 0]⟩ 145 (0, 0))) : BuAt σ b [] (fun c => c = b) :=
 ⟨none, ⟨none, 0, 0⟩, h, .inl rfl, RowsOwn.nil _ _ _, (fun g h => by cases h), (fun h => absurd rfl h), fun c => ⟨fun h => .inl h, fun h => h.resolve_right (by intro e; cases e)⟩⟩
attribute [local irreducible] ptrW ifW brW andW rdT alW letJ stW muW biW vaW imW callT cvalT app callW invW callVW sizeT oW nilF oneK loopW rfW funW begW roundK exW idxW Gr Put
section
variable {σ : H} {b : Nat} {l : List UInt8} {D : Nat -> Prop}
theorem s_BuCheck (h : BuAt σ b l D) {K : KH} (hK : ∀ σ', BuAt σ' b l D -> Sep σ D σ' D -> K (.tuple ⟨[]⟩) σ') : callW Tryz.prog 180 [.pointer (some ⟨b, 0, none⟩)] K σ := by
 obtain ⟨p, x, h1, h2, h3, h4, h5, h6⟩ := id h
 obtain ⟨i, hi, hi0⟩ := info_Bu
 refine c180 _ ?_
 unfold g180
 refine ptr_i (rd_P (rdC_of h1 (by rfl)) ?_)
 rcases h2 with rfl | rfl
 ·refine br_t rfl ?_
  refine toUp_i und_PBu und_up hi hi0 h1 (by simp) ?_
  refine x_NoEsc (fromUp_i und_up und_PBu hi h1 lies_Bu (ptr_i ?_))
  refine st_i2 h1 szb_PBu (by rfl) (by rfl) ?_; intro σ' hp
  refine hK σ' ⟨some ⟨b, 0, none⟩, x, hp.same, .inr rfl, h3.put hp (fun e => h4 b e rfl), h4, h5, h6⟩ ?_
  intro c o hc hn
  exact ⟨hp.get (fun e => hn ((h6 c).2 (.inl e))) hc, hn⟩
 ·refine br_f rfl (ptr_i (rd_P (rdC_of h1 (by rfl)) ?_))
  exact neqp_i und_PBu hi (br_f rfl (hK σ h (Sep.refl _ _)))
theorem key_BuWr (hb : BuAt σ b l D) {p : Option Addr} {x x' : Sl} {l' : List UInt8} {τ : H} (h1 : σ b = some (.cells ⟨[.pointer p, .slice x.base x.len x.cap]⟩ 145 (0, 0))) (h2 : p = none \/ p = some ⟨b, 0, none⟩) (h4 : ∀ g, x.base = some ⟨g, 0, none⟩ -> g ≠ b) (h5 : x.base ≠ none -> x.cap ≠ 0) (h6 : ∀ c, D c ↔ (c = b \/ x.base = some ⟨c, 0, none⟩))
 (hx' : RowsOwn τ 5 1 (brows l') x') (hcap : (x.base ≠ none -> x.cap ≠ 0) -> (x'.base ≠ none -> x'.cap ≠ 0)) (hcase : (∃ g o, x.base = some ⟨g, 0, none⟩ /\ x'.base = x.base /\ Put σ g o τ) \/ (((∃ g, x'.base = some ⟨g, 0, none⟩ /\ σ g = none) \/ x'.base = none) /\ Gr σ τ))
 {F : H -> Prop} (hK : ∀ σ' D', BuAt σ' b l' D' -> Sep σ D σ' D' -> F σ') : stW Tryz.prog 36 (.pointer (some ⟨b, 0 + 1, none⟩)) (.slice x'.base x'.len x'.cap) F τ := by
 have hbb : D b := (h6 b).2 (.inl rfl)
 have h1' : τ b = some (.cells ⟨[.pointer p, .slice x.base x.len x.cap]⟩ 145 (0, 0)) := by
  rcases hcase with ⟨g, o, z1, _, hp⟩ | ⟨_, hg⟩
  ·exact hp.get (Ne.symm (h4 g z1)) h1
  ·exact hg.get h1
 have n4 : ∀ g, x'.base = some ⟨g, 0, none⟩ -> g ≠ b := by
  intro g' e
  rcases hcase with ⟨g, o, z1, z2, hp⟩ | ⟨⟨g, y1, y2⟩ | y, hg⟩
  ·exact h4 g' (by rw [<- z2]; exact e)
  ·rw [y1] at e
   have : g = g' := by injection e with e; injection e
   subst this
   intro e2
   rw [e2, h1] at y2; cases y2
  ·rw [y] at e; cases e
 have S2 : ∀ c o, σ c = some o -> ¬ D c -> τ c = some o /\ x'.base ≠ some ⟨c, 0, none⟩ := by
  intro c o hc hn
  rcases hcase with ⟨g, o', z1, z2, hp⟩ | ⟨z, hg⟩
  ·have hcg : c ≠ g := fun e => hn ((h6 c).2 (.inr (by rw [e]; exact z1)))
   exact ⟨hp.get hcg hc, fun e => hn ((h6 c).2 (.inr (by rw [<- z2]; exact e)))⟩
  ·refine ⟨hg.get hc, fun e => ?_⟩
   rcases z with ⟨g, y1, y2⟩ | y
   ·rw [y1] at e
    have : g = c := by injection e with e; injection e
    subst this
    rw [hc] at y2; cases y2
   ·rw [y] at e; cases e
 refine st_i2 h1' szb_bytes (by rfl) (by rfl) ?_; intro σ3 p3
 refine hK σ3 (fun c => c = b \/ x'.base = some ⟨c, 0, none⟩) ⟨p, x', p3.same, h2, hx'.put p3 (fun e => n4 b e rfl), n4, hcap h5, fun c => Iff.rfl⟩ ?_
 intro c o hc hn
 obtain ⟨q1, q2⟩ := S2 c o hc hn
 have hcb : c ≠ b := fun e => hn ((h6 c).2 (.inl e))
 exact ⟨p3.get hcb q1, fun hd => hd.elim hcb q2⟩
theorem s_BuStr (h : BuAt σ b l D) (hl : l.length <= 100000000000) {K : KH} (hK : ∀ σ', (∀ c o, σ c = some o -> ¬ D c -> σ' c = some o) -> K (.string ⟨⟨l⟩⟩) σ') : callW Tryz.prog 120 [.pointer (some ⟨b, 0, none⟩)] K σ := by
 refine c120 _ ?_
 unfold g120
 obtain ⟨p, x, h1, h2, h3, h4, h5, h6⟩ := id h
 refine ptr_i (rd_L (rdC_of h1 (by rfl)) (ptr_i (rd_L (rdC_of h1 (by rfl)) ?_)))
 refine sdata_i h5 (and_i (rdC_of h1 (by rfl)) ?_)
 refine ustr_i und_Pu8 cells_u8 h3 (by omega) ?_ ?_
 ·intro e; rw [e] at hK; exact hK σ (fun c o hc _ => hc)
 ·intro g cur o σ' e hg hp
  refine hK σ' fun c o' hc hn => hp.get (fun e2 => hn ((h6 c).2 (.inr (by rw [e2]; exact e)))) hc
end
end Go.Proofs.YtgfiobhpipollaaGreatDoor

set_option maxRecDepth 1000000
namespace Go.Wk
open Go Go.HL
def shaPl : List Int := [2, 3, 5, 7, 11, 13, 17, 19, 23, 29, 31, 37, 41, 43, 47, 53, 59, 61, 67, 71, 73, 79, 83, 89, 97, 101, 103, 107, 109, 113, 127, 131, 137, 139, 149, 151, 157, 163, 167, 173, 179, 181, 191, 193, 197, 199, 211, 223, 227, 229, 233, 239, 241, 251, 257, 263, 269, 271, 277, 281, 283, 293, 307, 311]
theorem shaPl_ok : primesP 400 2 [] = some shaPl := by decide +kernel
theorem shaPl_len : shaPl.length = 64 := rfl
def shaKl : List Int := [1116352408, 1899447441, 3049323471, 3921009573, 961987163, 1508970993, 2453635748, 2870763221, 3624381080, 310598401, 607225278, 1426881987, 1925078388, 2162078206, 2614888103, 3248222580, 3835390401, 4022224774, 264347078, 604807628, 770255983, 1249150122, 1555081692, 1996064986, 2554220882, 2821834349, 2952996808, 3210313671, 3336571891, 3584528711, 113926993, 338241895, 666307205, 773529912, 1294757372, 1396182291, 1695183700, 1986661051, 2177026350, 2456956037, 2730485921, 2820302411, 3259730800, 3345764771, 3516065817, 3600352804, 4094571909, 275423344, 430227734, 506948616, 659060556, 883997877, 958139571, 1322822218, 1537002063, 1747873779, 1955562222, 2024104815, 2227730452, 2361852424, 2428436474, 2756734187, 3204031479, 3329325298]
theorem shaKl_ok : rootsP cubeP shaPl = some shaKl := by decide +kernel
theorem shaKl_len : shaKl.length = 64 := rfl
def shaH0 : W8 := ⟨1779033703, 3144134277, 1013904242, 2773480762, 1359893119, 2600822924, 528734635, 1541459225⟩
theorem shaH0_ok : rootsP squareP (shaPl.take 8) = some shaH0.ints := by decide +kernel
def shaSumP (l : List UInt8) : List UInt8 :=
 let W := blocksP shaKl ((padP l).length / 64) shaH0 (padP l)
 outP W
end Go.Wk

namespace Go.Wk
open Go Go.HL
def letterL : List UInt8 := [48, 49, 50, 51, 52, 53, 54, 55, 56, 57, 97, 98, 99, 100, 102, 103, 104, 105, 106, 107, 108, 109, 110, 112, 113, 114, 115, 118, 119, 120, 121, 122]
def lttI (hv b : Int) : Int := bitV .and .u64 (Int.fdiv hv (2 ^ min (Int.toNat b) (IntKind.bits .u64))) 31
def lttB (hv b : Int) : UInt8 := letterL.getD (lttI hv b).toNat 0
def inP (hv b : Int) : Int × List UInt8 := if b >= 5 then (if b - 5 >= 5 then (b - 10, [lttB hv (b - 5), lttB hv (b - 10)]) else (b - 5, [lttB hv (b - 5)])) else (b, [])
def orH (hv : Int) (c : UInt8) : Int := bitV .or .u64 (IntKind.u64.wrap (hv * 2 ^ min (Int.toNat 8) (IntKind.bits .u64))) (IntKind.u64.wrap ((c.toNat : Nat) : Int))
def andH (hv b : Int) : Int := bitV .and .u64 hv (IntKind.u64.wrap ((IntKind.u64.wrap (1 * 2 ^ min (Int.toNat b) (IntKind.bits .u64))) - 1))
def lettersP : List UInt8 -> Int -> Int -> List UInt8
 | [], _, _ => []
 | c :: r, hv, b => (inP (orH hv c) (b + 8)).2 ++ lettersP r (andH (orH hv c) (inP (orH hv c) (b + 8)).1) (inP (orH hv c) (b + 8)).1
def hashP (l : List UInt8) : List UInt8 := lettersP ((shaSumP l).take 20) 0 0
def isHashP (l : List UInt8) : Bool := l.all letterL.contains && l.length == 32
def okChar (c : UInt8) : Bool := (decide (97 <= c.toNat) && decide (c.toNat <= 122)) || ((decide (65 <= c.toNat) && decide (c.toNat <= 90)) || ((decide (48 <= c.toNat) && decide (c.toNat <= 57)) || [43, 45, 46, 95].contains c))
def nameP (l : List UInt8) : Int := if l.length > 20 then 3 else if l.all okChar && !l.isEmpty && l.head? != some 46 then 0 else 2
def pathP (h n : List UInt8) : List UInt8 × Int := if isHashP h then (if nameP n == 0 then (h ++ 45 :: n, 0) else ([], nameP n)) else ([], 2)
def splitN (p : List UInt8) : List UInt8 × List UInt8 × Int := if decide (p.length > 32) && p.getD 32 0 == 45 && isHashP (p.take 32) && nameP (p.drop 33) == 0 then (p.take 32, p.drop 33, 0) else ([], [], 4)
theorem lt_rng (hv b : Int) : 0 <= lttI hv b /\ lttI hv b < 32 := by
 unfold lttI bitV
 show 0 <= IntKind.u64.wrap _ /\ IntKind.u64.wrap _ < 32
 have h1 : ∀ x y : BitVec 64, y = 31 -> ((x &&& y).toNat) < 32 := by
  intro x y hy; subst hy
  rw [BitVec.toNat_and]
  exact Nat.lt_of_le_of_lt Nat.and_le_right (by decide)
 have h2 := h1 (BitVec.ofInt 64 (Int.fdiv hv (2 ^ min (Int.toNat b) (IntKind.bits .u64)))) (BitVec.ofInt 64 31) (by decide)
 unfold IntKind.wrap
 simp only [IntKind.signed, Bool.false_and, Bool.false_eq_true, if_false]
 have h3 : ((BitVec.ofInt IntKind.u64.bits (Int.fdiv hv (2 ^ min (Int.toNat b) (IntKind.bits .u64))) &&& BitVec.ofInt IntKind.u64.bits 31).toNat : Int) < 32 := by
  exact_mod_cast h2
 rw [Int.emod_eq_of_lt (Int.natCast_nonneg _) (Int.lt_of_lt_of_le h3 (by decide))]
 exact ⟨Int.natCast_nonneg _, h3⟩
end Go.Wk

set_option maxRecDepth 100000
namespace Go.Proofs.YtgfiobhpipollaaGreatDoor
open Go Go.HL Go.Wk
attribute [local irreducible] ptrW ifW brW andW rdT alW letJ stW muW biW vaW imW callT cvalT app callW invW callVW sizeT oW nilF oneK loopW rfW funW begW roundK exW idxW Gr Put
theorem bu_newcap {σ : H} {l : List UInt8} {c : UInt8} {x : Sl} (h : RowsOwn σ 5 1 (brows (l ++ [c])) x) : x.base ≠ none -> x.cap ≠ 0 := by
 intro _ e
 obtain ⟨h1, _, ⟨h2, _⟩ | ⟨g, cur, _, _, _, h5, _⟩⟩ := h
 ·contradiction
 ·rw [h1, brows_len] at h5; simp at h5; omega
section
variable {σ : H} {b : Nat} {l : List UInt8} {D : Nat -> Prop}
theorem s_BuWrB (h : BuAt σ b l D) (c : UInt8) (hl : l.length < 1000000000) {K : KH} (hK : ∀ σ' D', BuAt σ' b (l ++ [c]) D' -> Sep σ D σ' D' -> K .nilIface σ') : callW Tryz.prog 119 [.pointer (some ⟨b, 0, none⟩), .int .u8 ((c.toNat : Nat) : Int)] K σ := by
 refine c119 _ _ ?_
 unfold g119
 refine call_i (s_BuCheck h ?_)
 intro σ1 hb1 S1
 refine app_U ?_
 obtain ⟨p, x, h1, h2, h3, h4, h5, h6⟩ := id hb1
 refine ptr_i (rd_L (rdC_of h1 (by rfl)) ?_)
 refine al_i ?_; intro b6 σ2 g2 e2 n2
 obtain ⟨i, i1, i2, i3, i4⟩ := info_u8
 refine append_i (i := i) (bytes := i.bytes) und_bytes i1 i2 i3 rfl rfl (by decide) (h3.gr g2) e2 rfl (by intro u hu; simp at hu; subst hu; rfl) (by rw [brows_len]; exact hl) (by rw [i4]; decide) ?_
 intro x' σ3 hx' hcase
 refine ptr_i ?_
 have e3 : brows l ++ [[Value.int .u8 ((c.toNat : Nat) : Int)]] = brows (l ++ [c]) := by rw [brows_app]; rfl
 rw [e3] at hx'
 refine key_BuWr (hb1.gr g2) (g2.get h1) h2 h4 h5 h6 hx' (fun _ => bu_newcap hx') (hcase.imp id fun ⟨g, q1, q2, q3⟩ => ⟨.inl ⟨g, q1, q2⟩, q3⟩) fun σ' D' B S => hK σ' D' B (S1.trans ((Sep.gr g2).trans S))
end
def kkU8 : KK Int := ⟨.int .u8, .int .u8, fun _ _ => by simp [Instr.sameNow], fun a b h => by
 have := eq_of_beq h; subst this; simp [Instr.sameBits], fun a => by simp, fun a b h => by rw [eq_of_beq h], rfl⟩
def valsL : Nat -> List (Int × Int)
 | 0 => []
 | n + 1 => up (((letterL.getD n 0).toNat : Nat) : Int) (n : Int) (valsL n)
theorem vals_all : ∀ n, n < 256 -> (lk ((n : Nat) : Int) (valsL 32)).isSome = letterL.contains (UInt8.ofNat n) := by decide +kernel
theorem vals_is (c : UInt8) : (lk (((c.toNat : Nat) : Int)) (valsL 32)).isSome = letterL.contains c := by
 have := vals_all c.toNat (by exact c.toNat_lt)
 rwa [UInt8.ofNat_toNat] at this
theorem und_MBI : Tryz.prog.underlying 157 = some (.map 5 3) := by kernel_rfl
theorem s_nmVals {σ : H} {K : KH} (hK : ∀ b σ', Gr σ σ' -> MapAt σ' b (encL kkU8 (fun n => .int .i64 n) (valsL 32)) -> K (.map (some b)) σ') : callW Tryz.prog 129 [] K σ := by
 refine c129 ?_
 unfold g129
 refine al_i ?_; intro b σ1 g1 e1 n1
 refine loop_i ?_
 intro R hR
 have key : ∀ (n i : Nat) (τ : H), i + n = 32 -> Gr σ τ -> MapAt τ b (encL kkU8 (fun n => .int .i64 n) (valsL i)) -> R (some b) (i : Int) τ := by
  intro n
  induction n with
  | zero =>
   intro i τ hi hg hm
   have : i = 32 := by omega
   subst this
   exact hR _ _ _ (br_f (by decide) (hK b τ hg hm))
  | succ n ih =>
   intro i τ hi hg hm
   have hil : i < letterL.length := by show i < 32; omega
   refine hR _ _ _ (br_t (by simp only [decide_eq_true_eq]; omega) ?_)
   refine idx_l (c := letterL.getD i 0) (by omega) ?_ ?_
   ·show letterL[((i : Nat) : Int).toNat]? = _
    rw [Int.toNat_natCast, List.getD_eq_getElem?_getD, List.getElem?_eq_getElem hil]; rfl
   refine mu_i (kk := kkU8) (f := fun n : Int => .int .i64 n) und_MBI und_u8' hm (((letterL.getD i 0).toNat : Nat) : Int) (i : Int) ?_
   intro o τ' p hm'
   rw [wrap_id (x := (i : Int) + 1) (by omega) (by omega)]
   exact ih (i + 1) τ' (by omega) (hg.putF p n1) hm'
 exact key 32 0 σ1 rfl g1 (MapAt.new e1)
theorem sl_len (s : ByteArray) : s.data.toList.length = s.size := by cases s with | mk d => simp [ByteArray.size]
theorem s_nmIs (s : ByteArray) (hs : s.size <= 100000000) {σ : H} {K : KH} (hK : K (.bool (isHashP s.data.toList)) σ) : callW Tryz.prog 85 [.string s] K σ := by
 refine pure_i _ hK (c85 _ ?_)
 clear hK
 unfold g85
 refine call_i (s_nmVals ?_)
 intro b σ1 g1 hm
 refine app_M ?_
 refine loop_i ?_
 intro R hR
 have key : ∀ (r : List UInt8) (i : Nat), s.data.toList.drop i = r -> s.data.toList.all letterL.contains = r.all letterL.contains -> R s (some b) ((s.size : Nat) : Int) (i : Int) σ1 := by
  intro r
  induction r with
  | nil =>
   intro i hd he
   have hge : s.data.toList.length <= i := by simpa using hd
   rw [sl_len] at hge
   refine hR _ _ _ _ _ (br_f (by simp only [decide_eq_false_iff_not]; omega) ⟨?_, g1⟩)
   unfold isHashP
   rw [he, sl_len]
   simp only [List.all_nil, Bool.true_and]
   congr 1
   rw [Bool.eq_iff_iff]
   simp only [beq_iff_eq]
   omega
  | cons c r ih =>
   intro i hd he
   obtain ⟨hx, hlt, hd'⟩ := at_drop hd
   rw [sl_len] at hlt
   refine hR _ _ _ _ _ (br_t (by simp only [decide_eq_true_eq]; omega) ?_)
   refine idx_l (c := c) (by omega) (by rw [Int.toNat_natCast]; exact hx) ?_
   refine rd_G (rdM_at (kk := kkU8) (f := fun n : Int => .int .i64 n) hm (.int .i64 0) true (((c.toNat : Nat)) : Int)) ?_
   rw [vals_is]
   have hv : ∃ n : Int, ((lk (((c.toNat : Nat)) : Int) (valsL 32)).map (fun n : Int => Value.int .i64 n)).getD (.int .i64 0) = .int .i64 n := by
    cases lk (((c.toNat : Nat)) : Int) (valsL 32) with
    | none => exact ⟨0, rfl⟩
    | some n => exact ⟨n, rfl⟩
   obtain ⟨n, hn⟩ := hv
   rw [hn]
   refine app_IB ?_
   cases hc : letterL.contains c with
   | false =>
    refine br_t rfl ⟨?_, g1⟩
    unfold isHashP
    rw [he]; simp only [List.all_cons, hc]; rfl
   | true =>
    refine br_f rfl ?_
    rw [wrap_id (x := (i : Int) + 1) (by omega) (by omega)]
    exact ih (i + 1) hd' (by rw [he]; simp only [List.all_cons, hc, Bool.true_and])
 exact key s.data.toList 0 rfl rfl
theorem s_nmC1 (c : UInt8) {σ : H} {K : KH} (hK : K (.bool (decide (97 <= c.toNat) && decide (c.toNat <= 122))) σ) : callW Tryz.prog 112 [.int .u8 ((c.toNat : Nat) : Int)] K σ := by
 refine c112 _ ?_
 unfold g112
 refine br_i (fun h => ?_) (fun h => ?_)
 ·have h' : 97 <= c.toNat := by have := of_decide_eq_true h; omega
  have e : decide (((c.toNat : Nat) : Int) <= 122) = decide (c.toNat <= 122) := by rw [decide_eq_decide]; omega
  rw [e]; simpa [h'] using hK
 ·have h' : ¬ 97 <= c.toNat := by have := of_decide_eq_false h; omega
  simpa [h'] using hK
theorem s_nmC2 (c : UInt8) {σ : H} {K : KH} (hK : K (.bool (decide (65 <= c.toNat) && decide (c.toNat <= 90))) σ) : callW Tryz.prog 113 [.int .u8 ((c.toNat : Nat) : Int)] K σ := by
 refine c113 _ ?_
 unfold g113
 refine br_i (fun h => ?_) (fun h => ?_)
 ·have h' : 65 <= c.toNat := by have := of_decide_eq_true h; omega
  have e : decide (((c.toNat : Nat) : Int) <= 90) = decide (c.toNat <= 90) := by rw [decide_eq_decide]; omega
  rw [e]; simpa [h'] using hK
 ·have h' : ¬ 65 <= c.toNat := by have := of_decide_eq_false h; omega
  simpa [h'] using hK
theorem s_nmC3 (c : UInt8) {σ : H} {K : KH} (hK : K (.bool (decide (48 <= c.toNat) && decide (c.toNat <= 57))) σ) : callW Tryz.prog 114 [.int .u8 ((c.toNat : Nat) : Int)] K σ := by
 refine c114 _ ?_
 unfold g114
 refine br_i (fun h => ?_) (fun h => ?_)
 ·have h' : 48 <= c.toNat := by have := of_decide_eq_true h; omega
  have e : decide (((c.toNat : Nat) : Int) <= 57) = decide (c.toNat <= 57) := by rw [decide_eq_decide]; omega
  rw [e]; simpa [h'] using hK
 ·have h' : ¬ 48 <= c.toNat := by have := of_decide_eq_false h; omega
  simpa [h'] using hK
theorem s_nmC4 (c : UInt8) {σ : H} {K : KH} (hK : K (.bool ([43, 45, 46, 95].contains c)) σ) : callW Tryz.prog 115 [.int .u8 ((c.toNat : Nat) : Int)] K σ := by
 refine c115 _ ?_
 unfold g115
 refine call_i (x_IndexByte _ _ (app_I ?_))
 have h1 : ((c.toNat : Nat) : Int).toNat.toUInt8 = c := by rw [Int.toNat_natCast]; exact UInt8.ofNat_toNat
 rw [h1]
 have h2 := firstIdx_lt ⟨⟨[43, 45, 46, 95]⟩⟩ c
 rw [ByteArray.toList_eq] at h2
 have h3 : decide (firstIdx ⟨⟨[43, 45, 46, 95]⟩⟩ c >= 0) = [43, 45, 46, 95].contains c := by
  have h4 : decide (firstIdx ⟨⟨[43, 45, 46, 95]⟩⟩ c >= 0) = !decide (firstIdx ⟨⟨[43, 45, 46, 95]⟩⟩ c < 0) := by
   rw [<- decide_not, decide_eq_decide]; omega
  rw [h4, h2, Bool.not_not]
  show ([43, 45, 46, 95] : List UInt8).any (fun x => x == c) = _
  rw [List.contains_eq_any_beq]
  congr 1
  funext x
  rw [Bool.eq_iff_iff, beq_iff_eq, beq_iff_eq]; exact eq_comm
 rw [h3]; exact hK
theorem go_nmC1 : isGo Tryz.prog 112 = true := by kernel_rfl
theorem go_nmC2 : isGo Tryz.prog 113 = true := by kernel_rfl
theorem go_nmC3 : isGo Tryz.prog 114 = true := by kernel_rfl
theorem go_nmC4 : isGo Tryz.prog 115 = true := by kernel_rfl
def fn0 (f : FuncId) : Value := .func (.func f) ⟨[]⟩ ⟨[]⟩
theorem s_nmAny (c : UInt8) {b : Nat} {t : TypeId} {σ : H} (h : σ b = some (.cells ⟨[fn0 112, fn0 113, fn0 114, fn0 115]⟩ t (0, 0))) {K : KH} (hK : K (.bool (okChar c)) σ) : callW Tryz.prog 117 [.int .u8 ((c.toNat : Nat) : Int), .slice (some ⟨b, 0, none⟩) 4 4] K σ := by
 refine c117 _ ⟨some ⟨b, 0, none⟩, 4, 4⟩ ?_
 unfold g117
 unfold okChar at hK
 refine loop_i ?_
 intro R hR
 refine hR _ _ _ _ _ (br_t (by rfl) (ptr_i (if_i ⟨of_decide_eq_true rfl, of_decide_eq_true rfl⟩ (rd_R (rdC_of (v := fn0 112) h (by rfl)) (cval_i go_nmC1 (s_nmC1 c (app_B ?_)))))))
 refine br_i (fun h1 => by rw [h1] at hK; exact hK) (fun h1 => ?_)
 rw [h1, Bool.false_or] at hK
 refine hR _ _ _ _ _ (br_t (by rfl) (ptr_i (if_i ⟨of_decide_eq_true rfl, of_decide_eq_true rfl⟩ (rd_R (rdC_of (v := fn0 113) h (by rfl)) (cval_i go_nmC2 (s_nmC2 c (app_B ?_)))))))
 refine br_i (fun h1 => by rw [h1] at hK; exact hK) (fun h1 => ?_)
 rw [h1, Bool.false_or] at hK
 refine hR _ _ _ _ _ (br_t (by rfl) (ptr_i (if_i ⟨of_decide_eq_true rfl, of_decide_eq_true rfl⟩ (rd_R (rdC_of (v := fn0 114) h (by rfl)) (cval_i go_nmC3 (s_nmC3 c (app_B ?_)))))))
 refine br_i (fun h1 => by rw [h1] at hK; exact hK) (fun h1 => ?_)
 rw [h1, Bool.false_or] at hK
 refine hR _ _ _ _ _ (br_t (by rfl) (ptr_i (if_i ⟨of_decide_eq_true rfl, of_decide_eq_true rfl⟩ (rd_R (rdC_of (v := fn0 115) h (by rfl)) (cval_i go_nmC4 (s_nmC4 c (app_B ?_)))))))
 refine br_i (fun h1 => by rw [h1] at hK; exact hK) (fun h1 => ?_)
 rw [h1] at hK
 exact hR _ _ _ _ _ (br_f (by rfl) hK)
theorem s_nmCheck (s : ByteArray) {σ : H} {K : KH} (hK : K (.int .i64 (nameP s.data.toList)) σ) : callW Tryz.prog 73 [.string s] K σ := by
 refine pure_i _ hK (c73 _ ?_)
 clear hK
 unfold g73
 have hsl := sl_len s
 by_cases h20 : s.size > 20
 ·refine br_t (by simp only [gt_iff_lt, decide_eq_true_eq]; omega) ⟨?_, Gr.refl _⟩
  unfold nameP; rw [if_pos (by rw [hsl]; exact h20)]
 refine br_f (by simp only [gt_iff_lt, decide_eq_false_iff_not]; omega) ?_
 have hN : nameP s.data.toList = if s.data.toList.all okChar && !s.data.toList.isEmpty && s.data.toList.head? != some 46 then 0 else 2 := by
  unfold nameP; rw [if_neg (by rw [hsl]; exact h20)]
 refine loop_i ?_
 intro R hR
 have key : ∀ (r : List UInt8) (i : Nat) (τ : H), s.data.toList.drop i = r -> s.data.toList.all okChar = r.all okChar -> Gr σ τ -> R s (fn0 112) (fn0 113) (fn0 114) (fn0 115) ((s.size : Nat) : Int) (i : Int) τ := by
  intro r
  induction r with
  | nil =>
   intro i τ hd he hg
   have hge : s.data.toList.length <= i := by simpa using hd
   rw [hsl] at hge
   refine hR _ _ _ _ _ _ _ _ (br_f (by simp only [decide_eq_false_iff_not]; omega) ?_)
   refine j_i (fun j => ∀ b : Bool, b = (s.data.toList.isEmpty || s.data.toList.head? == some 46) -> j b τ) ?_ ?_
   ·intro b hb
    have e : s.data.toList.all okChar = true := by rw [he]; rfl
    rw [hN, e]
    cases hb1 : s.data.toList.isEmpty with
    | true => rw [hb1] at hb; subst hb; exact br_t rfl ⟨rfl, hg⟩
    | false =>
     cases hb2 : s.data.toList.head? == some 46 with
     | true => rw [hb1, hb2] at hb; subst hb; exact br_t rfl ⟨by simp [bne, hb2], hg⟩
     | false => rw [hb1, hb2] at hb; subst hb; exact br_f rfl ⟨by simp [bne, hb2], hg⟩
   intro j hj
   refine br_i (fun h => ?_) (fun h => ?_)
   ·refine hj true ?_
    have : s = ⟨⟨[]⟩⟩ := strEq_iff.1 h
    rw [this]; rfl
   ·cases hl : s.data.toList with
    | nil =>
     exfalso
     have : s = ⟨⟨[]⟩⟩ := by
      show (⟨⟨s.data.toList⟩⟩ : ByteArray) = _
      rw [hl]
     rw [this] at h
     have h2 : strEq ⟨⟨[]⟩⟩ ⟨⟨[]⟩⟩ = true := strEq_iff.2 rfl
     rw [h2] at h; cases h
    | cons c t =>
     refine idx_l (c := c) (by decide) (by rw [hl]; rfl) ?_
     refine hj _ ?_
     rw [hl]
     show ((((c.toNat : Nat) : Int) : Int) == 46) = (false || (some c == some 46))
     rw [Bool.false_or, Bool.eq_iff_iff]
     simp only [beq_iff_eq, Option.some.injEq]
     constructor
     ·intro h; exact UInt8.toNat_inj.1 (by show c.toNat = 46; omega)
     ·intro h; rw [h]; rfl
  | cons c r ih =>
   intro i τ hd he hg
   obtain ⟨hx, hlt, hd'⟩ := at_drop hd
   rw [hsl] at hlt
   refine hR _ _ _ _ _ _ _ _ (br_t (by simp only [decide_eq_true_eq]; omega) ?_)
   refine idx_l (c := c) (by omega) (by rw [Int.toNat_natCast]; exact hx) ?_
   have one : ∀ (f : FuncId) (g : H -> Prop) (τ : H), g τ -> oneK (fn0 f) g τ := by intro f g τ h; unfold oneK fn0; exact h
   refine one _ _ _ (one _ _ _ (one _ _ _ (one _ _ _ ?_)))
   refine al_i ?_; intro b τ1 g1 e1 n1
   refine call_i (s_nmAny c e1 (app_B ?_))
   cases hc : okChar c with
   | false =>
    refine br_t rfl ⟨?_, hg.trans g1⟩
    rw [hN, he]; simp only [List.all_cons, hc]; rfl
   | true =>
    refine br_f rfl ?_
    rw [wrap_id (x := (i : Int) + 1) (by omega) (by omega)]
    exact ih (i + 1) τ1 hd' (by rw [he]; simp only [List.all_cons, hc, Bool.true_and]) (hg.trans g1)
 exact key s.data.toList 0 σ rfl rfl (Gr.refl _)
end Go.Proofs.YtgfiobhpipollaaGreatDoor

set_option maxRecDepth 100000
namespace Go.Wk
open Go Go.HL
abbrev bs (l : List UInt8) : ByteArray := ⟨⟨l⟩⟩
structure Dn where
 out : ByteArray
 err : ByteArray
 st : Int
def Dn.z : Dn := ⟨⟨⟨[]⟩⟩, ⟨⟨[]⟩⟩, 0⟩
structure Pc where
 text : ByteArray
 kind : UInt8
 width : Nat
 left : Bool
structure PS where
 args : List ByteArray
 took : Bool
 err : ByteArray
 st : Int
 out : ByteArray
def PS.a0 (s : PS) : ByteArray := match s.args with
 | [] => ⟨⟨[]⟩⟩
 | a :: _ => a
end Go.Wk

set_option maxRecDepth 100000
namespace Go.Wk
open Go Go.HL
def pS (w : Nat) (l : Bool) : Pc := ⟨⟨⟨[]⟩⟩, 115, w, l⟩
end Go.Wk

namespace Go.Wk
open Go Go.HL
def Tr.z : Tr := .mk ⟨⟨[]⟩⟩ 0 false ⟨⟨[]⟩⟩ []
def Tr.named (s : ByteArray) : Tr -> Tr
 | .mk _ k e d kids => .mk s k e d kids
def trimL : List UInt8 -> List UInt8
 | [] => []
 | x :: r => match r with
  | [] => (match x == 47 with | true => [] | false => [x])
  | _ :: _ => x :: trimL r
def trimS (p : ByteArray) : ByteArray := ⟨⟨trimL p.data.toList⟩⟩
def kidP (p n : ByteArray) : ByteArray := sub (trimS p) n
def takeRow (g : ByteArray -> Int × Tr) (path : ByteArray) : List ByteArray -> Int × List Tr
 | [] => (0, [])
 | n :: r => let x := g (kidP path n)
  if x.1 ≠ 0 then (x.1, []) else
   let y := takeRow g path r
   (y.1, x.2.named n :: y.2)
def xOf (k m : Int) : Bool := k == 1 && (bitV .and .i64 m 73 : Int) != 0
def AT.take (A : AT) : Nat -> ByteArray -> Int × Tr
 | 0, _ => (3, Tr.z)
 | f + 1, path =>
  let x := A.stat ⟨⟨[47]⟩⟩ path false
  if x.1 ≠ 0 then (x.1, Tr.z)
  else if x.2.kind = 2 then
   let l := A.listF ⟨⟨[47]⟩⟩ path
   if l.1 ≠ 0 then (l.1, Tr.z)
   else
    let r := takeRow (AT.take A f) path l.2
    (r.1, .mk ⟨⟨[]⟩⟩ 2 false x.2.data r.2)
  else (0, .mk ⟨⟨[]⟩⟩ x.2.kind (xOf x.2.kind x.2.mode) x.2.data [])
mutual
def Tr.same : Tr -> Tr -> Bool
 | .mk n k e d kids, u => !(Tr.mk n k e d kids).tooDeep && (!u.tooDeep && (sEq n u.name && ((k == u.kind) && ((e == u.exec) && (sEq d u.data && (Nat.beq kids.length u.kids.length && Tr.sameRow kids u.kids))))))
def Tr.sameRow : List Tr -> List Tr -> Bool
 | [], _ => true
 | t :: r, l => match l with
  | [] => false
  | u :: s => Tr.same t u && Tr.sameRow r s
end
theorem bytes_ext {a b : ByteArray} (h : a.data.toList = b.data.toList) : a = b := by
 obtain ⟨⟨a⟩⟩ := a; obtain ⟨⟨b⟩⟩ := b
 have h : a = b := h
 rw [h]
end Go.Wk

