/- A part of a proof. -/
import Derived.Test.YtpfkfphjigcdeaaGreatDoorVaw
namespace Go.HL
open Go
section
variable {P : Program} {σ : H}
end
def RNew (σ0 σ : H) (e : TypeId) (n : Nat) (rows : List (List Value)) (y : Sl) : Prop := Gr σ0 σ /\ RowsOwn σ e n rows y /\ ∀ g, y.base = some ⟨g, 0, none⟩ -> σ0 g = none
def ElT (P : Program) (t e : TypeId) (n : Nat) : Prop := P.underlying t = some (.slice e) /\ 0 < n /\ ∃ i z, P.info? e = some i /\ i.zero = some z /\ i.size = n /\ i.bytes <= 100 /\ z.cells.size = n
theorem elT_of {P : Program} {t e : TypeId} {n : Nat} (h1 : P.underlying t = some (.slice e)) (h0 : 0 < n) (h : (P.info? e).map (fun i => (i.size, Nat.ble i.bytes 100, i.zero.map fun z => z.cells.size)) = some (n, true, some n)) : ElT P t e n := by
 refine ⟨h1, h0, ?_⟩
 cases hi : P.info? e with
 | none => rw [hi] at h; cases h
 | some i =>
  rw [hi] at h
  simp only [Option.map_some, Option.some.injEq, Prod.mk.injEq] at h
  cases hz : i.zero with
  | none => rw [hz] at h; cases h.2.2
  | some z =>
   rw [hz] at h
   exact ⟨i, z, rfl, hz, h.1, Nat.le_of_ble_eq_true h.2.1, by simpa using h.2.2⟩
section
variable {P : Program} {σ0 σ σ' : H} {t e ty : TypeId} {n : Nat} {rows rows2 : List (List Value)} {x y : Sl} {cs : List Bool}
theorem RNew.nil (σ : H) (e : TypeId) (n : Nat) : RNew σ σ e n [] ⟨none, 0, 0⟩ := ⟨Gr.refl _, RowsOwn.nil _ _ _, fun g h => by cases h⟩
theorem RNew.gr (h : RNew σ0 σ e n rows y) (hg : Gr σ σ') : RNew σ0 σ' e n rows y := ⟨h.1.trans hg, h.2.1.gr hg, h.2.2⟩
theorem RNew.putF (h : RNew σ0 σ e n rows y) {b : Nat} {o : Obj} (hp : Put σ b o σ') (hn : σ0 b = none) (hb : y.base ≠ some ⟨b, 0, none⟩) : RNew σ0 σ' e n rows y := ⟨h.1.putF hp hn, h.2.1.put hp hb, h.2.2⟩
theorem RNew.since {σ1 : H} (h : RNew σ1 σ e n rows y) (hg : Gr σ0 σ1) : RNew σ0 σ e n rows y := ⟨hg.trans h.1, h.2.1, fun g hx => none_of hg (h.2.2 g hx)⟩
theorem RNew.at (h : RNew σ0 σ e n rows y) : RowsAt σ n rows y := h.2.1.rows
theorem RNew.len (h : RNew σ0 σ e n rows y) : y.len = rows.length := h.2.1.1
theorem RNew.case {g0 : Prop} (h : RNew σ0 σ e n rows y) (hx : RowsOwn σ' e n rows2 x) (hc : (∃ g o, y.base = some ⟨g, 0, none⟩ /\ x.base = y.base /\ Put σ g o σ') \/ (((∃ g, x.base = some ⟨g, 0, none⟩ /\ σ g = none) \/ x.base = none) /\ Gr σ σ'))
 (hF : RNew σ0 σ' e n rows2 x -> (∀ c o, σ c = some o -> y.base ≠ some ⟨c, 0, none⟩ -> σ' c = some o) -> (∀ g, x.base = some ⟨g, 0, none⟩ -> y.base = some ⟨g, 0, none⟩ \/ σ g = none) -> g0) : g0 := by
 obtain ⟨h1, h2, h3⟩ := h
 rcases hc with ⟨g, o, q1, q2, q3⟩ | ⟨q1, q2⟩
 ·refine hF ⟨h1.putF q3 (h3 g q1), hx, fun g' hg => h3 g' (by rw [<- q2]; exact hg)⟩ (fun c o' hc hne => q3.get (fun e => hne (by rw [e]; exact q1)) hc) (fun g' hg => .inl (by rw [<- q2]; exact hg))
 ·have hn : ∀ g, x.base = some ⟨g, 0, none⟩ -> σ g = none := by
   intro g hg
   rcases q1 with ⟨g', q1, q3⟩ | q1
   ·rw [q1] at hg; injection hg with hg; injection hg with hg; subst hg; exact q3
   ·rw [q1] at hg; cases hg
  exact hF ⟨h1.trans q2, hx, fun g hg => none_of h1 (hn g hg)⟩ (fun c o' hc _ => q2.get hc) (fun g hg => .inr (hn g hg))
theorem RNew.app (hT : ElT P t e n) (h : RNew σ0 σ e n rows y) {b : Nat} {r : List Value} {tb : TypeId} {fz : Nat × Nat} (hb : σ b = some (.cells ⟨r⟩ tb fz)) (hr : r.length = n) (hone : r.all (·.oneCell') = true) (hl : rows.length < 1000000000) {F : Sl -> H -> Prop}
 (hF : ∀ y' σ', RNew σ0 σ' e n (rows ++ [r]) y' -> (∀ c o, σ c = some o -> y.base ≠ some ⟨c, 0, none⟩ -> σ' c = some o) -> (∀ g, y'.base = some ⟨g, 0, none⟩ -> y.base = some ⟨g, 0, none⟩ \/ σ g = none) -> F y' σ') :
 biW P .append #[t, t] ty cs [.slice y.base y.len y.cap, .slice (some ⟨b, 0, none⟩) 1 1] (.one (.sc .slc)) F σ := by
 obtain ⟨h1, h0, i, z, i1, i2, i3, i4, i5⟩ := hT
 refine append_i h1 i1 i2 i3 rfl i5 h0 h.2.1 hb hr (fun u hu => List.all_eq_true.1 hone u hu) hl (Nat.le_trans i4 (by decide)) ?_
 intro y' σ' hy' hc
 exact h.case hy' (hc.imp id fun ⟨g, q1, q2, q3⟩ => ⟨.inl ⟨g, q1, q2⟩, q3⟩) fun a b c => hF y' σ' a b c
theorem RNew.app1 (hT : ElT P t e n) (h : RNew σ0 σ e n rows y) {r : List Value} {tb : TypeId} (hr : r.length = n) (hone : r.all (·.oneCell') = true) (hl : rows.length < 1000000000) {F : Sl -> H -> Prop}
 (hF : ∀ y' σ', RNew σ0 σ' e n (rows ++ [r]) y' -> (∀ c o, σ c = some o -> y.base ≠ some ⟨c, 0, none⟩ -> σ' c = some o) -> (∀ g, y'.base = some ⟨g, 0, none⟩ -> y.base = some ⟨g, 0, none⟩ \/ σ g = none) -> F y' σ') :
 alW (.cells ⟨r⟩ tb (0, 0)) (fun b => biW P .append #[t, t] ty cs [.slice y.base y.len y.cap, .slice (some ⟨b, 0, none⟩) 1 1] (.one (.sc .slc)) F) σ := by
 refine al_i ?_
 intro b σ1 g1 e1 n1
 refine (h.gr g1).app hT e1 hr hone hl ?_
 intro y' σ' a c d
 exact hF y' σ' a (fun c' o hc hne => c c' o (g1.get hc) hne) fun g hg => (d g hg).imp id fun hn => none_of g1 hn
theorem RowsAt.rdA (h : RowsAt σ n rows x) {i : Nat} {r : List Value} (hi : rows[i]? = some r) (hn : 0 < n) : ∃ g o, x.base = some ⟨g, o, none⟩ /\ rdA n g (o + i * n) σ = some (.agg ⟨r⟩) /\ ∀ k v, r[k]? = some v -> rdC g (o + i * n + k) σ = some v := by
 obtain ⟨g, o, h2, h3⟩ := h.rd hi hn
 refine ⟨g, o, h2, h3, fun k v hk => ?_⟩
 obtain ⟨h1, h4 | ⟨g', o', cur, t, fz, q2, q3, q4⟩⟩ := h
 ·rw [h4] at hi; simp at hi
 ·rw [h2] at q2
  injection q2 with q2
  injection q2 with e1 e2
  subst e1; subst e2
  refine rdC_of q3 ?_
  obtain ⟨hl, h5⟩ := q4 _ _ hi
  have hkn : k < n := by
   rw [<- hl]
   rcases Nat.lt_or_ge k r.length with h | h
   ·exact h
   ·rw [List.getElem?_eq_none h] at hk; cases hk
  rw [<- h5, List.getElem?_take_of_lt hkn, List.getElem?_drop] at hk
  exact hk
theorem RowsAt.keep {σ σ' : H} {n : Nat} {rows : List (List Value)} {x : Sl} (h : RowsAt σ n rows x) (hk : ∀ g o ob, x.base = some ⟨g, o, none⟩ -> σ g = some ob -> σ' g = some ob) : RowsAt σ' n rows x := by
 obtain ⟨h1, h2 | ⟨g, o, cur, t, fz, h3, h4, h5⟩⟩ := h
 ·exact ⟨h1, .inl h2⟩
 ·exact ⟨h1, .inr ⟨g, o, cur, t, fz, h3, hk g o _ h3 h4, h5⟩⟩
theorem RowsAt.sub (h : RowsAt σ n rows x) (hc : x.len <= x.cap) {k e : Nat} (hk : k <= e) (he : e <= rows.length) (m : Nat) : RowsAt σ n ((rows.take e).drop k) ⟨slBase x.base k x.cap n, e - k, m⟩ := by
 obtain ⟨q1, q2 | ⟨g, o, cur, t, fz, q3, q4, q5⟩⟩ := h
 ·subst q2
  exact ⟨by simp at he ⊢; omega, .inl (by simp)⟩
 ·refine ⟨by simp; omega, ?_⟩
  by_cases hke : x.cap = k
  ·exact .inl (List.drop_eq_nil_of_le (by rw [List.length_take]; omega))
  refine .inr ⟨g, o + k * n, cur, t, fz, ?_, q4, fun i r hr => ?_⟩
  ·show slBase x.base k x.cap n = _
   unfold slBase; rw [if_neg hke, q3, Option.map_some, add_none]
  ·rw [List.getElem?_drop, List.getElem?_take] at hr
   split at hr
   ·have := q5 (k + i) r hr
    rw [Nat.add_mul, <- Nat.add_assoc] at this
    exact this
   ·cases hr
end
theorem Gr.put_in {ρ τ : H} {b : Nat} {o : Obj} (h : Gr ρ τ) (hb : τ b = some o) : Gr (ρ.put b o) τ := fun c oc hc => by
 by_cases e : c = b
 ·subst e; rw [H.put_same] at hc; cases hc; exact hb
 ·rw [H.put_other _ _ e] at hc; exact h.get hc
theorem gr_of {σ σ' : H} (h : ∀ b o, σ b = some o -> σ' b = some o) : Gr σ σ' := h
def strRows (l : List ByteArray) : List (List Value) := l.map fun s => [.string s]
end Go.HL

