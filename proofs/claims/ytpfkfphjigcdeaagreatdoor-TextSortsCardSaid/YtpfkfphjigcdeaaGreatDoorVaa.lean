/- A part of a proof. -/
import Derived.RangeFuncLeaves
import Derived.Laws.World
namespace Go.HL
open Go

abbrev H := Nat -> Option Obj
abbrev KH := Value -> H -> Prop
def H.le (σ : H) (w : World) : Prop := ∀ b o, σ b = some o -> w.heap[b]? = some o
def H.put (σ : H) (b : Nat) (o : Obj) : H := fun k => if k = b then some o else σ k
theorem H.put_same (σ : H) (b : Nat) (o : Obj) : σ.put b o b = some o := by simp [H.put]
theorem H.put_other (σ : H) {b k : Nat} (o : Obj) (h : k ≠ b) : σ.put b o k = σ k := by simp [H.put, h]

structure Ext (σ : H) (w : World) (σ' : H) (w' : World) : Prop where
 le : σ'.le w'
 size : w.heap.size <= w'.heap.size
 keep : ∀ b, b < w.heap.size -> σ b = none -> w'.heap[b]? = w.heap[b]?
 own : ∀ b o, σ' b = some o -> σ b = none -> w.heap.size <= b
 os : w'.os = w.os
 tape : w'.tape = w.tape
 output : w'.output = w.output

theorem H.le.lt {σ : H} {w : World} (h : σ.le w) {b : Nat} {o : Obj} (hb : σ b = some o) : b < w.heap.size := by
 have := h b o hb
 rcases Nat.lt_or_ge b w.heap.size with h' | h'
 ·exact h'
 ·rw [Array.getElem?_eq_none h'] at this; cases this

theorem Ext.refl {σ : H} {w : World} (h : σ.le w) : Ext σ w σ w :=
 ⟨h, Nat.le_refl _, fun _ _ _ => rfl, (fun b o hb hn => by rw [hn] at hb; cases hb), rfl, rfl, rfl⟩

theorem Ext.trans {σ₁ σ₂ σ₃ : H} {w₁ w₂ w₃ : World} (h : Ext σ₁ w₁ σ₂ w₂) (k : Ext σ₂ w₂ σ₃ w₃) : Ext σ₁ w₁ σ₃ w₃ := by
 refine ⟨k.le, Nat.le_trans h.size k.size, fun b hb hn => ?_, fun b o hb hn => ?_, k.os.trans h.os, k.tape.trans h.tape, k.output.trans h.output⟩
 ·have h2 : σ₂ b = none := by
   cases h2 : σ₂ b with
   | none => rfl
   | some o => have := h.own b o h2 hn; omega
  rw [k.keep b (Nat.lt_of_lt_of_le hb h.size) h2, h.keep b hb hn]
 ·cases h2 : σ₂ b with
  | none => exact Nat.le_trans h.size (k.own b o hb h2)
  | some o' => exact h.own b o' h2 hn

theorem Ext.drew {σ : H} {w : World} (h : σ.le w) (d : Nat) : Ext σ w σ { w with drawn := d } :=
 ⟨h, Nat.le_refl _, fun _ _ _ => rfl, (fun b o hb hn => by rw [hn] at hb; cases hb), rfl, rfl, rfl⟩

theorem Ext.alloc {σ : H} {w : World} (h : σ.le w) (o : Obj) : σ w.heap.size = none /\ Ext σ w (σ.put w.heap.size o) (w.alloc o) := by
 have hn : σ w.heap.size = none := by
  cases hc : σ w.heap.size with
  | none => rfl
  | some o' => exact absurd (h.lt hc) (Nat.lt_irrefl _)
 refine ⟨hn, ?_, by show w.heap.size <= (w.heap.push o).size; simp, ?_, ?_, rfl, rfl, rfl⟩
 ·intro b o' hb
  by_cases e : b = w.heap.size
  ·subst e; rw [H.put_same] at hb; show (w.heap.push o)[w.heap.size]? = _; simpa using hb
  ·rw [H.put_other _ _ e] at hb
   have hlt := h.lt hb
   show (w.heap.push o)[b]? = _
   rw [Array.getElem?_push, if_neg (by omega)]; exact h b o' hb
 ·intro b hb _
  show (w.heap.push o)[b]? = _
  rw [Array.getElem?_push, if_neg (by omega)]
 ·intro b o' hb hn'
  by_cases e : b = w.heap.size
  ·omega
  ·rw [H.put_other _ _ e, hn'] at hb; cases hb

theorem Ext.set {σ : H} {w w' : World} (h : σ.le w) {b : Nat} {o o' : Obj} (hb : σ b = some o)
 (hh : w'.heap = w.heap.setIfInBounds b o') (h1 : w'.os = w.os) (h2 : w'.tape = w.tape) (h3 : w'.output = w.output) : Ext σ w (σ.put b o') w' := by
 have hlt := h.lt hb
 refine ⟨?_, by rw [hh]; simp, ?_, ?_, h1, h2, h3⟩
 ·intro c oc hc
  rw [hh]
  by_cases e : c = b
  ·subst e; rw [H.put_same] at hc; simp [hlt]; simpa using hc
  ·rw [H.put_other _ _ e] at hc
   rw [Array.getElem?_setIfInBounds, if_neg (fun x => e x.symm)]; exact h c oc hc
 ·intro c hc hn
  have : b ≠ c := by intro e; subst e; rw [hb] at hn; cases hn
  rw [hh, Array.getElem?_setIfInBounds, if_neg this]
 ·intro c oc hc hn
  by_cases e : c = b
  ·subst e; rw [hb] at hn; cases hn
  ·rw [H.put_other _ _ e, hn] at hc; cases hc

def reach (P : Program) (R : Value -> World -> Prop) : Result Next -> Prop
 | .ok (.value v) w => R v w
 | .ok .skip w => R undef w
 | .ok (.enter f args) w => CallsIn Fence.wide 0 P f args w fun e w' => ∃ v, e = .returned v /\ R v w'
 | .ok (.round l f tmps assign body) w => RoundIn Fence.wide 0 P l f tmps assign body w fun e w' => ∃ v, e = .returned v /\ R v w'
 | _ => False

theorem reach.mono {P : Program} {R R' : Value -> World -> Prop} (hr : ∀ v w, R v w -> R' v w) {x : Result Next} (h : reach P R x) : reach P R' x := by
 unfold reach at h ⊢
 split at h
 ·exact hr _ _ h
 ·exact hr _ _ h
 ·exact h.mono fun e w' ⟨v, he, hv⟩ => ⟨v, he, hr _ _ hv⟩
 ·exact h.mono fun e w' ⟨v, he, hv⟩ => ⟨v, he, hr _ _ hv⟩
 ·exact h.elim

def invW (P : Program) (s : Sem Next) (K : KH) (σ : H) : Prop :=
 ∀ w, σ.le w -> reach P (fun v w' => ∃ σ', Ext σ w σ' w' /\ K v σ') (s.run P w)

theorem invW.mono {P : Program} {s : Sem Next} {K K' : KH} {σ : H} (h : invW P s K σ) (hk : ∀ v σ', K v σ' -> K' v σ') : invW P s K' σ :=
 fun w hw => (h w hw).mono fun _ _ ⟨σ', he, hv⟩ => ⟨σ', he, hk _ _ hv⟩

def callW (P : Program) (f : FuncId) (args : List Value) (K : KH) (σ : H) : Prop :=
 ∀ w, σ.le w -> CallsIn Fence.wide 0 P f args.toArray w fun e w' => ∃ v, e = .returned v /\ ∃ σ', Ext σ w σ' w' /\ K v σ'

theorem callW.mono {P : Program} {f : FuncId} {args : List Value} {K K' : KH} {σ : H} (h : callW P f args K σ) (hk : ∀ v σ', K v σ' -> K' v σ') : callW P f args K' σ :=
 fun w hw => (h w hw).mono fun _ _ ⟨v, e, σ', he, hv⟩ => ⟨v, e, σ', he, hk _ _ hv⟩

theorem Ext.frame {σ σ' : H} {w w' : World} {b : Nat} {o : Obj} (hb : σ b = none) (hw : (σ.put b o).le w) (he : Ext σ w σ' w') :
 σ' b = none /\ Ext (σ.put b o) w (σ'.put b o) w' := by
 have hwb : w.heap[b]? = some o := hw b o (H.put_same _ _ _)
 have hlt : b < w.heap.size := hw.lt (H.put_same _ _ _)
 have hn : σ' b = none := by
  cases hc : σ' b with
  | none => rfl
  | some o' => have := he.own b o' hc hb; omega
 refine ⟨hn, ?_, he.size, ?_, ?_, he.os, he.tape, he.output⟩
 ·intro c oc hc
  by_cases e : c = b
  ·subst e; rw [H.put_same] at hc; cases hc; rw [he.keep c hlt hb, hwb]
  ·rw [H.put_other _ _ e] at hc; exact he.le c oc hc
 ·intro c hc hcn
  by_cases e : c = b
  ·subst e; rw [H.put_same] at hcn; cases hcn
  ·rw [H.put_other _ _ e] at hcn; exact he.keep c hc hcn
 ·intro c oc hc hcn
  by_cases e : c = b
  ·subst e; rw [H.put_same] at hcn; cases hcn
  ·rw [H.put_other _ _ e] at hc hcn; exact he.own c oc hc hcn

theorem H.le_of_put {σ : H} {w : World} {b : Nat} {o : Obj} (hb : σ b = none) (hw : (σ.put b o).le w) : σ.le w := by
 intro c oc hc
 refine hw c oc ?_
 rw [H.put_other]
 ·exact hc
 ·intro e; subst e; rw [hb] at hc; cases hc

theorem invW.frame {P : Program} {s : Sem Next} {K : KH} {σ : H} (h : invW P s K σ) {b : Nat} {o : Obj} (hb : σ b = none) :
 invW P s (fun v σ' => ∃ σ₁, σ₁ b = none /\ σ' = σ₁.put b o /\ K v σ₁) (σ.put b o) := by
 intro w hw
 refine (h w (H.le_of_put hb hw)).mono fun v w' ⟨σ', he, hk⟩ => ?_
 obtain ⟨hn, he'⟩ := Ext.frame hb hw he
 exact ⟨σ'.put b o, he', σ', hn, rfl, hk⟩

end Go.HL

