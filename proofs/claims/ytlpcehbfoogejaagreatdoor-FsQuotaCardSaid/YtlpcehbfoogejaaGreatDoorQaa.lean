/- A part of the proof: FsQuota returns true for every input and leaves its arguments as they were; no condition beside the row's own (the two tables of unicode/utf8 hold what the program's text lays). -/
import Derived.RangeFuncLeaves
import Derived.Laws.World
import Derived.OrdersIn
import Derived.Laws.Tables
import Derived.Laws.Cells
import Derived.Laws.StructEq
import Derived.MapKept
import Derived.Test.YtlpcehbfoogejaaGreatDoorProg
import Derived.KernelRfl
import Derived.Test.YtlpcehbfoogejaaGreatDoorChecked
import Derived.IntWalk
import Derived.Laws.StandIn
import Derived.Shelf.SlIter.Nil
import Derived.Shelf.SortM.Plain
import Derived.Shelf.SortM.SortNone
import Derived.Ground.GgzProg
import Derived.Ground.SlgmProg
import Derived.Laws.Runes
import Derived.Carry
import Derived.Deep.Slices
import Derived.ChangeSame
import Derived.WalkKit
import Derived.ProofKit
import Derived.OpenShut
import Derived.Deep.DeepHandedRow
import Derived.Lib.LaidTab
/- HEAPLETS: a partial view of the heap, what a step may change, calls over heaplets. -/
namespace Go.HL
open Go

abbrev H := Nat → Option Obj
def H.le (σ : H) (w : World) : Prop := ∀ b o, σ b = some o → w.heap[b]? = some o
def H.put (σ : H) (b : Nat) (o : Obj) : H := fun k => if k = b then some o else σ k
theorem H.put_same (σ : H) (b : Nat) (o : Obj) : σ.put b o b = some o := by simp [H.put]
theorem H.put_other (σ : H) {b k : Nat} (o : Obj) (h : k ≠ b) : σ.put b o k = σ k := by simp [H.put, h]

structure Ext (σ : H) (w : World) (σ' : H) (w' : World) : Prop where
  le : σ'.le w'
  size : w.heap.size ≤ w'.heap.size
  keep : ∀ b, b < w.heap.size → σ b = none → w'.heap[b]? = w.heap[b]?
  own : ∀ b o, σ' b = some o → σ b = none → w.heap.size ≤ b
  os : w'.os = w.os
  tape : w'.tape = w.tape
  output : w'.output = w.output

theorem H.le.lt {σ : H} {w : World} (h : σ.le w) {b : Nat} {o : Obj} (hb : σ b = some o) : b < w.heap.size := by
  have := h b o hb
  rcases Nat.lt_or_ge b w.heap.size with h' | h'
  · exact h'
  · rw [Array.getElem?_eq_none h'] at this; cases this

theorem Ext.refl {σ : H} {w : World} (h : σ.le w) : Ext σ w σ w :=
  ⟨h, Nat.le_refl _, fun _ _ _ => rfl, (fun b o hb hn => by rw [hn] at hb; cases hb), rfl, rfl, rfl⟩

theorem Ext.trans {σ₁ σ₂ σ₃ : H} {w₁ w₂ w₃ : World} (h : Ext σ₁ w₁ σ₂ w₂) (k : Ext σ₂ w₂ σ₃ w₃) : Ext σ₁ w₁ σ₃ w₃ := by
  refine ⟨k.le, Nat.le_trans h.size k.size, fun b hb hn => ?_, fun b o hb hn => ?_, k.os.trans h.os, k.tape.trans h.tape, k.output.trans h.output⟩
  · have h2 : σ₂ b = none := by
      cases h2 : σ₂ b with
      | none => rfl
      | some o => have := h.own b o h2 hn; omega
    rw [k.keep b (Nat.lt_of_lt_of_le hb h.size) h2, h.keep b hb hn]
  · cases h2 : σ₂ b with
    | none => exact Nat.le_trans h.size (k.own b o hb h2)
    | some o' => exact h.own b o' h2 hn

/-- a draw changes nothing that a heaplet sees -/
theorem Ext.drew {σ : H} {w : World} (h : σ.le w) (d : Nat) : Ext σ w σ { w with drawn := d } :=
  ⟨h, Nat.le_refl _, fun _ _ _ => rfl, (fun b o hb hn => by rw [hn] at hb; cases hb), rfl, rfl, rfl⟩

theorem Ext.alloc {σ : H} {w : World} (h : σ.le w) (o : Obj) : σ w.heap.size = none ∧ Ext σ w (σ.put w.heap.size o) (w.alloc o) := by
  have hn : σ w.heap.size = none := by
    cases hc : σ w.heap.size with
    | none => rfl
    | some o' => exact absurd (h.lt hc) (Nat.lt_irrefl _)
  refine ⟨hn, ?_, by show w.heap.size ≤ (w.heap.push o).size; simp, ?_, ?_, rfl, rfl, rfl⟩
  · intro b o' hb
    by_cases e : b = w.heap.size
    · subst e; rw [H.put_same] at hb; show (w.heap.push o)[w.heap.size]? = _; simpa using hb
    · rw [H.put_other _ _ e] at hb
      have hlt := h.lt hb
      show (w.heap.push o)[b]? = _
      rw [Array.getElem?_push, if_neg (by omega)]; exact h b o' hb
  · intro b hb _
    show (w.heap.push o)[b]? = _
    rw [Array.getElem?_push, if_neg (by omega)]
  · intro b o' hb hn'
    by_cases e : b = w.heap.size
    · omega
    · rw [H.put_other _ _ e, hn'] at hb; cases hb

/-- one block of the heaplet is replaced -/
theorem Ext.set {σ : H} {w w' : World} (h : σ.le w) {b : Nat} {o o' : Obj} (hb : σ b = some o)
    (hh : w'.heap = w.heap.setIfInBounds b o') (h1 : w'.os = w.os) (h2 : w'.tape = w.tape) (h3 : w'.output = w.output) : Ext σ w (σ.put b o') w' := by
  have hlt := h.lt hb
  refine ⟨?_, by rw [hh]; simp, ?_, ?_, h1, h2, h3⟩
  · intro c oc hc
    rw [hh]
    by_cases e : c = b
    · subst e; rw [H.put_same] at hc; simp [hlt]; simpa using hc
    · rw [H.put_other _ _ e] at hc
      rw [Array.getElem?_setIfInBounds, if_neg (fun x => e x.symm)]; exact h c oc hc
  · intro c hc hn
    have : b ≠ c := by intro e; subst e; rw [hb] at hn; cases hn
    rw [hh, Array.getElem?_setIfInBounds, if_neg this]
  · intro c oc hc hn
    by_cases e : c = b
    · subst e; rw [hb] at hn; cases hn
    · rw [H.put_other _ _ e, hn] at hc; cases hc

/-- what an operation's run leads to -/
def reach (P : Program) (R : Value → World → Prop) : Result Next → Prop
  | .ok (.value v) w => R v w
  | .ok .skip w => R undef w
  | .ok (.enter f args) w => CallsIn Fence.wide 0 P f args w fun e w' => ∃ v, e = .returned v ∧ R v w'
  | .ok (.round l f tmps assign body) w => RoundIn Fence.wide 0 P l f tmps assign body w fun e w' => ∃ v, e = .returned v ∧ R v w'
  | _ => False

theorem reach.mono {P : Program} {R R' : Value → World → Prop} (hr : ∀ v w, R v w → R' v w) {x : Result Next} (h : reach P R x) : reach P R' x := by
  unfold reach at h ⊢
  split at h
  · exact hr _ _ h
  · exact hr _ _ h
  · exact h.mono fun e w' ⟨v, he, hv⟩ => ⟨v, he, hr _ _ hv⟩
  · exact h.mono fun e w' ⟨v, he, hv⟩ => ⟨v, he, hr _ _ hv⟩
  · exact h.elim

/-- an operation over a heaplet -/
def invW (P : Program) (s : Sem Next) (K : Value → H → Prop) (σ : H) : Prop :=
  ∀ w, σ.le w → reach P (fun v w' => ∃ σ', Ext σ w σ' w' ∧ K v σ') (s.run P w)

theorem invW.mono {P : Program} {s : Sem Next} {K K' : Value → H → Prop} {σ : H} (h : invW P s K σ) (hk : ∀ v σ', K v σ' → K' v σ') : invW P s K' σ :=
  fun w hw => (h w hw).mono fun _ _ ⟨σ', he, hv⟩ => ⟨σ', he, hk _ _ hv⟩

/-- a call over a heaplet -/
def callW (P : Program) (f : FuncId) (args : List Value) (K : Value → H → Prop) (σ : H) : Prop :=
  ∀ w, σ.le w → CallsIn Fence.wide 0 P f args.toArray w fun e w' => ∃ v, e = .returned v ∧ ∃ σ', Ext σ w σ' w' ∧ K v σ'

theorem callW.mono {P : Program} {f : FuncId} {args : List Value} {K K' : Value → H → Prop} {σ : H} (h : callW P f args K σ) (hk : ∀ v σ', K v σ' → K' v σ') : callW P f args K' σ :=
  fun w hw => (h w hw).mono fun _ _ ⟨v, e, σ', he, hv⟩ => ⟨v, e, σ', he, hk _ _ hv⟩

/-- THE FRAME RULE, one block -/
theorem Ext.frame {σ σ' : H} {w w' : World} {b : Nat} {o : Obj} (hb : σ b = none) (hw : (σ.put b o).le w) (he : Ext σ w σ' w') :
    σ' b = none ∧ Ext (σ.put b o) w (σ'.put b o) w' := by
  have hwb : w.heap[b]? = some o := hw b o (H.put_same _ _ _)
  have hlt : b < w.heap.size := hw.lt (H.put_same _ _ _)
  have hn : σ' b = none := by
    cases hc : σ' b with
    | none => rfl
    | some o' => have := he.own b o' hc hb; omega
  refine ⟨hn, ?_, he.size, ?_, ?_, he.os, he.tape, he.output⟩
  · intro c oc hc
    by_cases e : c = b
    · subst e; rw [H.put_same] at hc; cases hc; rw [he.keep c hlt hb, hwb]
    · rw [H.put_other _ _ e] at hc; exact he.le c oc hc
  · intro c hc hcn
    by_cases e : c = b
    · subst e; rw [H.put_same] at hcn; cases hcn
    · rw [H.put_other _ _ e] at hcn; exact he.keep c hc hcn
  · intro c oc hc hcn
    by_cases e : c = b
    · subst e; rw [H.put_same] at hcn; cases hcn
    · rw [H.put_other _ _ e] at hc hcn; exact he.own c oc hc hcn

theorem H.le_of_put {σ : H} {w : World} {b : Nat} {o : Obj} (hb : σ b = none) (hw : (σ.put b o).le w) : σ.le w := by
  intro c oc hc
  refine hw c oc ?_
  rw [H.put_other]
  · exact hc
  · intro e; subst e; rw [hb] at hc; cases hc

theorem invW.frame {P : Program} {s : Sem Next} {K : Value → H → Prop} {σ : H} (h : invW P s K σ) {b : Nat} {o : Obj} (hb : σ b = none) :
    invW P s (fun v σ' => ∃ σ₁, σ₁ b = none ∧ σ' = σ₁.put b o ∧ K v σ₁) (σ.put b o) := by
  intro w hw
  refine (h w (H.le_of_put hb hw)).mono fun v w' ⟨σ', he, hk⟩ => ?_
  obtain ⟨hn, he'⟩ := Ext.frame hb hw he
  exact ⟨σ'.put b o, he', σ', hn, rfl, hk⟩

/-- THE FRAME RULE, whole: what is disjoint stays as it is -/
def H.union (σ τ : H) : H := fun b => (σ b).or (τ b)
def H.apart (σ τ : H) : Prop := ∀ b, σ b = none ∨ τ b = none

theorem Ext.frameAll {σ σ' τ : H} {w w' : World} (hd : σ.apart τ) (hw : (σ.union τ).le w) (he : Ext σ w σ' w') :
    σ'.apart τ ∧ Ext (σ.union τ) w (σ'.union τ) w' := by
  have htw : ∀ b o, τ b = some o → w.heap[b]? = some o := by
    intro b o hb
    refine hw b o ?_
    have := (hd b).resolve_right (by rw [hb]; simp)
    simp [H.union, this, hb]
  have htl : ∀ b o, τ b = some o → b < w.heap.size := by
    intro b o hb
    have := htw b o hb
    rcases Nat.lt_or_ge b w.heap.size with h' | h'
    · exact h'
    · rw [Array.getElem?_eq_none h'] at this; cases this
  have hap : σ'.apart τ := by
    intro b
    cases ht : τ b with
    | none => exact .inr rfl
    | some o =>
      have hs : σ b = none := (hd b).resolve_right (by rw [ht]; simp)
      cases hc : σ' b with
      | none => exact .inl rfl
      | some o' => have := he.own b o' hc hs; have := htl b o ht; omega
  refine ⟨hap, ?_, he.size, ?_, ?_, he.os, he.tape, he.output⟩
  · intro c oc hc
    simp only [H.union] at hc
    cases hs : σ' c with
    | some o' => rw [hs] at hc; simp at hc; subst hc; exact he.le c o' hs
    | none =>
      rw [hs] at hc; simp at hc
      have hs0 : σ c = none := (hd c).resolve_right (by rw [hc]; simp)
      rw [he.keep c (htl c oc hc) hs0]; exact htw c oc hc
  · intro c hc hcn
    simp only [H.union] at hcn
    refine he.keep c hc ?_
    cases hs : σ c with
    | none => rfl
    | some o => rw [hs] at hcn; simp at hcn
  · intro c oc hc hcn
    simp only [H.union] at hc hcn
    cases hs : σ c with
    | some o => rw [hs] at hcn; simp at hcn
    | none =>
      rw [hs] at hcn
      have ht : τ c = none := by simpa using hcn
      rw [ht] at hc
      cases hs' : σ' c with
      | none => rw [hs'] at hc; simp at hc
      | some o' => exact he.own c o' hs' hs

theorem H.le_of_union {σ τ : H} {w : World} (hw : (σ.union τ).le w) : σ.le w := by
  intro c oc hc
  exact hw c oc (by simp [H.union, hc])

theorem callW.frameAll {P : Program} {f : FuncId} {args : List Value} {K : Value → H → Prop} {σ τ : H} (h : callW P f args K σ) (hd : σ.apart τ) :
    callW P f args (fun v σ' => ∃ σ₁, σ₁.apart τ ∧ σ' = σ₁.union τ ∧ K v σ₁) (σ.union τ) := by
  intro w hw
  refine (h w (H.le_of_union hw)).mono fun e w' ⟨v, hv, σ', he, hk⟩ => ?_
  obtain ⟨ha, he'⟩ := Ext.frameAll hd hw he
  exact ⟨v, hv, _, he', σ', ha, rfl, hk⟩
end Go.HL

/- REGIONS OVER HEAPLETS: in the order of the text, and, where a region draws its order, in every order. -/
namespace Go.HL
open Go

@[reducible] def FW (ro : Option Nat) : Fence := { fn := fun _ => True, depth := none, alive := false, round := ro }
theorem FW_none : FW none = Fence.wide := rfl

def plainOp : Op → Bool
  | .select _ _ | .defer _ | .go _ => false
  | _ => true

def RdS (P : Program) (s : Sem Next) (σ : H) (v : Value) : Prop := ∀ w, σ.le w → s.run P w = .ok (.value v) w
def Sil (P : Program) (s : Sem Next) (v : Value) : Prop := ∀ w, s.run P w = .ok (.value v) w
def IsAl (P : Program) (s : Sem Next) (mk : Nat → Value) (obj : Obj) : Prop := ∀ w : World, s.run P w = .ok (.value (mk w.heap.size)) (w.alloc obj)
def Fin (σ : H) : Prop := ∃ n, ∀ b, n ≤ b → σ b = none

theorem Fin.of_le {σ : H} {w : World} (h : σ.le w) : Fin σ := ⟨w.heap.size, fun b hb => by
  cases hc : σ b with
  | none => rfl
  | some o => have := h.lt hc; omega⟩
theorem Fin.put {σ : H} (h : Fin σ) (b : Nat) (o : Obj) : Fin (σ.put b o) := by
  obtain ⟨n, hn⟩ := h
  refine ⟨max n (b + 1), fun c hc => ?_⟩
  rw [H.put_other _ _ (by omega)]; exact hn c (by omega)
theorem Fin.world {σ : H} (h : Fin σ) : ∃ w : World, σ.le w := by
  obtain ⟨n, hn⟩ := h
  refine ⟨{ heap := Array.ofFn (n := n) fun i => (σ i).getD default, tape := fun _ _ => 0, drawn := 0, os := default, output := #[] }, fun b o hb => ?_⟩
  have hlt : b < n := by
    rcases Nat.lt_or_ge b n with h | h
    · exact h
    · rw [hn b h] at hb; cases hb
  simp [hlt, hb]
theorem Fin.fresh {σ : H} (h : Fin σ) : ∃ b, σ b = none := by obtain ⟨n, hn⟩ := h; exact ⟨n, hn n (Nat.le_refl _)⟩

theorem RdS.put {P : Program} {s : Sem Next} {σ : H} {v : Value} (h : RdS P s σ v) {b : Nat} {o : Obj} (hb : σ b = none) : RdS P s (σ.put b o) v :=
  fun w hw => h w (H.le_of_put hb hw)

theorem reach.out {P : Program} {R : Value → World → Prop} {x : Result Next} (h : reach P R x) : ∃ v w, R v w := by
  unfold reach at h
  split at h
  · exact ⟨_, _, h⟩
  · exact ⟨_, _, h⟩
  · obtain ⟨_, hh⟩ := h
    obtain ⟨e, w', fr, ⟨v, _, hr⟩, _⟩ := hh [] (room_wide _)
    exact ⟨v, w', hr⟩
  · obtain ⟨_, hh⟩ := h
    obtain ⟨e, w', ⟨v, _, hr⟩, _⟩ := hh default [] (room_wide _)
    exact ⟨v, w', hr⟩
  · exact h.elim
theorem invW.out {P : Program} {s : Sem Next} {K : Value → H → Prop} {σ : H} (h : invW P s K σ) (hf : Fin σ) : ∃ v σ', K v σ' := by
  obtain ⟨w, hw⟩ := hf.world
  obtain ⟨v, w', σ', _, hk⟩ := (h w hw).out
  exact ⟨v, σ', hk⟩
theorem invW.fin {P : Program} {s : Sem Next} {K : Value → H → Prop} {σ : H} (h : invW P s K σ) : invW P s (fun v σ' => Fin σ' ∧ K v σ') σ :=
  fun w hw => (h w hw).mono fun _ _ ⟨σ', he, hk⟩ => ⟨σ', he, Fin.of_le he.le, hk⟩

section
variable (P : Program) (ops : Array Oper) (cl : Nat → Nat) (A : Nat → Nat → Bool)

/-- THE REGION, in the order of a list: silent (0), reading (1), making a block (2), any other (3). What was read must read alike behind each later operation that is not bound to come after the reading. -/
def SRunD : List (Nat × Sem Next × Value) → List Nat → Act → (Act → H → Prop) → H → Prop
  | _, [], a, K, σ => K a σ
  | pend, i :: l, a, K, σ => ∃ o, ops[i]? = some o ∧ plainOp o.op = true ∧
      if Region.wanted o (yielded ops a.tmps) then
        match cl i with
        | 0 => ∃ v, Sil P (execOp a.eval o) v ∧ SRunD pend l (a.put o.dst v) K σ
        | 1 => ∃ v, RdS P (execOp a.eval o) σ v ∧ SRunD ((i, execOp a.eval o, v) :: pend) l (a.put o.dst v) K σ
        | 2 => ∃ mk obj, IsAl P (execOp a.eval o) mk obj ∧ ∀ b, σ b = none → SRunD pend l (a.put o.dst (mk b)) K (σ.put b obj)
        | _ => invW P (execOp a.eval o) (fun v σ' => (∀ q ∈ pend, A q.1 i = true ∨ RdS P q.2.1 σ' q.2.2) ∧ SRunD pend l (a.put o.dst v) K σ') σ
      else SRunD pend l (a.put o.dst undef) K σ
end
section
variable {P : Program} {ops : Array Oper} {cl : Nat → Nat} {A : Nat → Nat → Bool}

theorem SRunD.pend {l : List Nat} : ∀ {p p' : List (Nat × Sem Next × Value)} {a : Act} {K : Act → H → Prop} {σ : H}, (∀ q ∈ p', q ∈ p) → SRunD P ops cl A p l a K σ → SRunD P ops cl A p' l a K σ := by
  induction l with
  | nil => intro p p' a K σ _ h; exact h
  | cons i l ih =>
    intro p p' a K σ hs h
    obtain ⟨o, ho, hp, h⟩ := h
    refine ⟨o, ho, hp, ?_⟩
    split at h
    · rename_i hw
      rw [if_pos hw]
      split at h
      · obtain ⟨v, hv, h⟩ := h; exact ⟨v, hv, ih hs h⟩
      · obtain ⟨v, hv, h⟩ := h
        refine ⟨v, hv, ih (fun q hq => ?_) h⟩
        cases hq with
        | head => exact List.mem_cons_self ..
        | tail _ hq => exact List.mem_cons_of_mem _ (hs q hq)
      · obtain ⟨mk, obj, hv, h⟩ := h; exact ⟨mk, obj, hv, fun b hb => ih hs (h b hb)⟩
      · exact h.mono fun v σ' ⟨h1, h2⟩ => ⟨fun q hq => h1 q (hs q hq), ih hs h2⟩
    · rename_i hw
      rw [if_neg hw]
      exact ih hs h

/-- under a first operation -/
theorem SRunD.head {l l' : List Nat} {K K' : Act → H → Prop} (hll : ∀ p a σ, Fin σ → SRunD P ops cl A p l a K σ → SRunD P ops cl A p l' a K' σ) {i : Nat} {p : List (Nat × Sem Next × Value)} {a : Act} {σ : H}
    (hf : Fin σ) (h : SRunD P ops cl A p (i :: l) a K σ) : SRunD P ops cl A p (i :: l') a K' σ := by
  obtain ⟨o, ho, hp, h⟩ := h
  refine ⟨o, ho, hp, ?_⟩
  split at h
  · rename_i hw
    rw [if_pos hw]
    split at h
    · obtain ⟨v, hv, h⟩ := h; exact ⟨v, hv, hll _ _ _ hf h⟩
    · obtain ⟨v, hv, h⟩ := h; exact ⟨v, hv, hll _ _ _ hf h⟩
    · obtain ⟨mk, obj, hv, h⟩ := h; exact ⟨mk, obj, hv, fun b hb => hll _ _ _ (hf.put _ _) (h b hb)⟩
    · exact h.fin.mono fun v σ' ⟨hf', h1, h2⟩ => ⟨h1, hll _ _ _ hf' h2⟩
  · rename_i hw
    rw [if_neg hw]
    exact hll _ _ _ hf h

/-- may x be taken ahead of y, that stands first? -/
def fits (cy cx : Nat) : Bool :=
  match cy, cx with
  | 0, _ => true
  | 1, _ => true
  | 2, 0 => true
  | 2, 2 => true
  | 2, _ => false
  | _, 0 => true
  | _, 2 => true
  | _, _ => false

theorem plain_select {o : Oper} (h : plainOp o.op = true) : ∀ cs b, o.op ≠ .select cs b := by
  intro cs b e; rw [e] at h; cases h
theorem plain_defer {o : Oper} (h : plainOp o.op = true) : ∀ c, o.op ≠ .defer c := by
  intro c e; rw [e] at h; cases h

theorem SRunD.swap {y x : Nat} {oy ox : Oper} (hy : ops[y]? = some oy) (hx : ops[x]? = some ox) (hap : oy.apart ops ox = true) (hA : A y x = false) (hfit : fits (cl y) (cl x) = true)
    {p : List (Nat × Sem Next × Value)} {l : List Nat} {a : Act} {K : Act → H → Prop} {σ : H} (hf : Fin σ)
    (h : SRunD P ops cl A p (y :: x :: l) a K σ) : SRunD P ops cl A p (x :: y :: l) a K σ := by
  obtain ⟨h1, h2, h3⟩ := Oper.apart_spec hap
  have hcomm : ∀ (a : Act) (u v : Value), (a.put oy.dst u).put ox.dst v = (a.put ox.dst v).put oy.dst u := fun a u v => Act.put_comm a u v h2
  obtain ⟨oy', hoy, hpy, h⟩ := h
  rw [hy] at hoy; cases hoy
  have hpx : plainOp ox.op = true := by
    by_cases hwy : Region.wanted oy (yielded ops a.tmps) = true
    · rw [if_pos hwy] at h
      split at h
      · obtain ⟨v, hv, ox', hox, hpx, _⟩ := h; rw [hx] at hox; cases hox; exact hpx
      · obtain ⟨v, hv, ox', hox, hpx, _⟩ := h; rw [hx] at hox; cases hox; exact hpx
      · obtain ⟨mk, obj, hv, h⟩ := h
        obtain ⟨b, hb⟩ := hf.fresh
        obtain ⟨ox', hox, hpx, _⟩ := h b hb; rw [hx] at hox; cases hox; exact hpx
      · obtain ⟨v, σ', _, ox', hox, hpx, _⟩ := h.out hf; rw [hx] at hox; cases hox; exact hpx
    · rw [if_neg hwy] at h
      obtain ⟨ox', hox, hpx, _⟩ := h; rw [hx] at hox; cases hox; exact hpx
  have ex : ∀ u, execOp (a.put oy.dst u).eval ox = execOp a.eval ox := fun u => execOp_put ox (plain_select hpx) a oy.dst u h1
  have ey : ∀ u, execOp (a.put ox.dst u).eval oy = execOp a.eval oy := fun u => execOp_put oy (plain_select hpy) a ox.dst u h3
  have wx : ∀ u, Region.wanted ox (yielded ops (a.put oy.dst u).tmps) = Region.wanted ox (yielded ops a.tmps) := fun u => wanted_put ox a oy.dst u h1
  have wy : ∀ u, Region.wanted oy (yielded ops (a.put ox.dst u).tmps) = Region.wanted oy (yielded ops a.tmps) := fun u => wanted_put oy a ox.dst u h3
  refine ⟨ox, hx, hpx, ?_⟩
  by_cases hwy : Region.wanted oy (yielded ops a.tmps) = true
  · rw [if_pos hwy] at h
    by_cases hwx : Region.wanted ox (yielded ops a.tmps) = true
    · rw [if_pos hwx]
      split at h
      · -- y silent
        obtain ⟨v, hv, ox', hox, _, h⟩ := h; rw [hx] at hox; cases hox
        rw [wx, if_pos hwx, ex] at h
        split at h
        · obtain ⟨u, hu, h⟩ := h
          refine ⟨u, hu, oy, hy, hpy, ?_⟩
          rw [wy, if_pos hwy, ey, ‹cl y = 0›]
          exact ⟨v, hv, by rw [← hcomm]; exact h⟩
        · obtain ⟨u, hu, h⟩ := h
          refine ⟨u, hu, oy, hy, hpy, ?_⟩
          rw [wy, if_pos hwy, ey, ‹cl y = 0›]
          exact ⟨v, hv, by rw [← hcomm]; exact h⟩
        · obtain ⟨mk, obj, hu, h⟩ := h
          refine ⟨mk, obj, hu, fun b hb => ⟨oy, hy, hpy, ?_⟩⟩
          rw [wy, if_pos hwy, ey, ‹cl y = 0›]
          exact ⟨v, hv, by rw [← hcomm]; exact h b hb⟩
        · refine h.mono fun u σ' ⟨hc, h⟩ => ⟨hc, oy, hy, hpy, ?_⟩
          rw [wy, if_pos hwy, ey, ‹cl y = 0›]
          exact ⟨v, hv, by rw [← hcomm]; exact h⟩
      · -- y reads
        obtain ⟨v, hv, ox', hox, _, h⟩ := h; rw [hx] at hox; cases hox
        rw [wx, if_pos hwx, ex] at h
        split at h
        · obtain ⟨u, hu, h⟩ := h
          refine ⟨u, hu, oy, hy, hpy, ?_⟩
          rw [wy, if_pos hwy, ey, ‹cl y = 1›]
          exact ⟨v, hv, by rw [← hcomm]; exact h⟩
        · obtain ⟨u, hu, h⟩ := h
          refine ⟨u, hu, oy, hy, hpy, ?_⟩
          rw [wy, if_pos hwy, ey, ‹cl y = 1›]
          refine ⟨v, hv, ?_⟩
          rw [← hcomm]
          exact h.pend fun q hq => by
            simp only [List.mem_cons] at hq ⊢
            rcases hq with rfl | rfl | hq
            · exact .inr (.inl rfl)
            · exact .inl rfl
            · exact .inr (.inr hq)
        · obtain ⟨mk, obj, hu, h⟩ := h
          refine ⟨mk, obj, hu, fun b hb => ⟨oy, hy, hpy, ?_⟩⟩
          rw [wy, if_pos hwy, ey, ‹cl y = 1›]
          exact ⟨v, hv.put hb, by rw [← hcomm]; exact h b hb⟩
        · refine h.mono fun u σ' ⟨hc, h⟩ => ⟨fun q hq => hc q (List.mem_cons_of_mem _ hq), oy, hy, hpy, ?_⟩
          rw [wy, if_pos hwy, ey, ‹cl y = 1›]
          have := hc _ (List.mem_cons_self ..)
          simp only [hA] at this
          exact ⟨v, this.resolve_left (by simp), by rw [← hcomm]; exact h⟩
      · -- y makes a block
        obtain ⟨mk, obj, hv, h⟩ := h
        have hcx : cl x = 0 ∨ cl x = 2 := by
          rw [‹cl y = 2›] at hfit
          unfold fits at hfit
          split at hfit <;> simp_all
        rcases hcx with hcx | hcx
        · obtain ⟨b0, hb0⟩ := hf.fresh
          obtain ⟨ox', hox, _, h0⟩ := h b0 hb0; rw [hx] at hox; cases hox
          rw [wx, if_pos hwx, ex, hcx] at h0
          obtain ⟨u, hu, _⟩ := h0
          rw [hcx]
          refine ⟨u, hu, oy, hy, hpy, ?_⟩
          rw [wy, if_pos hwy, ey, ‹cl y = 2›]
          refine ⟨mk, obj, hv, fun b hb => ?_⟩
          obtain ⟨ox', hox, _, h1'⟩ := h b hb; rw [hx] at hox; cases hox
          rw [wx, if_pos hwx, ex, hcx] at h1'
          obtain ⟨u', hu', h1'⟩ := h1'
          have : u' = u := by
            have e1 := hu default; have e2 := hu' default
            rw [e1] at e2; cases e2; rfl
          subst this
          rw [← hcomm]; exact h1'
        · obtain ⟨b0, hb0⟩ := hf.fresh
          obtain ⟨ox', hox, _, h0⟩ := h b0 hb0; rw [hx] at hox; cases hox
          rw [wx, if_pos hwx, ex, hcx] at h0
          obtain ⟨mx, objx, hu, _⟩ := h0
          rw [hcx]
          refine ⟨mx, objx, hu, fun b hb => ⟨oy, hy, hpy, ?_⟩⟩
          rw [wy, if_pos hwy, ey, ‹cl y = 2›]
          refine ⟨mk, obj, hv, fun c hc => ?_⟩
          have hne : c ≠ b := by intro e; subst e; rw [H.put_same] at hc; cases hc
          rw [H.put_other _ _ hne] at hc
          obtain ⟨ox', hox, _, h1'⟩ := h c hc; rw [hx] at hox; cases hox
          rw [wx, if_pos hwx, ex, hcx] at h1'
          obtain ⟨mx', objx', hu', h1'⟩ := h1'
          have hb' : σ.put c obj b = none := by rw [H.put_other _ _ (Ne.symm hne)]; exact hb
          have h2' := h1' b hb'
          have hobj : objx' = objx ∧ mx' b = mx b := by
            have e1 := hu { (default : World) with heap := Array.replicate b default }
            have e2 := hu' { (default : World) with heap := Array.replicate b default }
            rw [e1] at e2
            simp only [Result.ok.injEq, Next.value.injEq] at e2
            obtain ⟨e3, e4⟩ := e2
            simp only [Array.size_replicate] at e3
            refine ⟨?_, e3.symm⟩
            have e5 := congrArg World.heap e4
            have e6 : (Array.replicate b (default : Obj)).push objx = (Array.replicate b (default : Obj)).push objx' := e5
            have e7 := congrArg Array.back? e6
            simpa using e7.symm
          obtain ⟨e3, e4⟩ := hobj
          subst e3
          rw [e4] at h2'
          rw [← hcomm]
          have : (σ.put c obj).put b objx' = (σ.put b objx').put c obj := by
            funext k
            simp only [H.put]
            by_cases k1 : k = b
            · subst k1; simp [Ne.symm hne]
            · simp [k1]
          rw [← this]; exact h2'
      · -- y does something
        have hcx : cl x = 0 ∨ cl x = 2 := by
          unfold fits at hfit
          split at hfit <;> simp_all
        have hyc : ∀ (K' : Prop) (a0 a1 a2 a3 : Prop), (match cl y with | 0 => a0 | 1 => a1 | 2 => a2 | _ => a3) = a3 := by
          intro _ a0 a1 a2 a3; split <;> simp_all
        rcases hcx with hcx | hcx
        · obtain ⟨v0, σ0, _, ox', hox, _, h0⟩ := h.out hf; rw [hx] at hox; cases hox
          rw [wx, if_pos hwx, ex, hcx] at h0
          obtain ⟨u, hu, _⟩ := h0
          rw [hcx]
          refine ⟨u, hu, oy, hy, hpy, ?_⟩
          rw [wy, if_pos hwy, ey, hyc True]
          refine h.mono fun v σ' ⟨hc, ox', hox, _, h1'⟩ => ⟨hc, ?_⟩
          rw [hx] at hox; cases hox
          rw [wx, if_pos hwx, ex, hcx] at h1'
          obtain ⟨u', hu', h1'⟩ := h1'
          have : u' = u := by
            have e1 := hu default; have e2 := hu' default
            rw [e1] at e2; cases e2; rfl
          subst this
          rw [← hcomm]; exact h1'
        · obtain ⟨v0, σ0, _, ox', hox, _, h0⟩ := h.out hf; rw [hx] at hox; cases hox
          rw [wx, if_pos hwx, ex, hcx] at h0
          obtain ⟨mx, objx, hu, _⟩ := h0
          rw [hcx]
          refine ⟨mx, objx, hu, fun b hb => ⟨oy, hy, hpy, ?_⟩⟩
          rw [wy, if_pos hwy, ey, hyc True]
          refine (h.frame (o := objx) hb).mono fun v σ' ⟨σ₁, hn, hσ', hc, ox', hox, _, h1'⟩ => ⟨fun q hq => ?_, ?_⟩
          · rcases hc q hq with h | h
            · exact .inl h
            · exact .inr (hσ' ▸ h.put hn)
          · rw [hx] at hox; cases hox
            rw [wx, if_pos hwx, ex, hcx] at h1'
            obtain ⟨mx', objx', hu', h1'⟩ := h1'
            have h2' := h1' b hn
            have hobj : objx' = objx ∧ mx' b = mx b := by
              have e1 := hu { (default : World) with heap := Array.replicate b default }
              have e2 := hu' { (default : World) with heap := Array.replicate b default }
              rw [e1] at e2
              simp only [Result.ok.injEq, Next.value.injEq] at e2
              obtain ⟨e3, e4⟩ := e2
              simp only [Array.size_replicate] at e3
              refine ⟨?_, e3.symm⟩
              have e5 := congrArg World.heap e4
              have e6 : (Array.replicate b (default : Obj)).push objx = (Array.replicate b (default : Obj)).push objx' := e5
              have e7 := congrArg Array.back? e6
              simpa using e7.symm
            obtain ⟨e3, e4⟩ := hobj
            subst e3
            rw [e4] at h2'
            rw [← hcomm, hσ']; exact h2'
    · rw [if_neg hwx]
      refine ⟨oy, hy, hpy, ?_⟩
      rw [wy, if_pos hwy, ey]
      split at h
      · obtain ⟨v, hv, ox', hox, _, h⟩ := h; rw [hx] at hox; cases hox
        rw [wx, if_neg hwx] at h
        exact ⟨v, hv, by rw [← hcomm]; exact h⟩
      · obtain ⟨v, hv, ox', hox, _, h⟩ := h; rw [hx] at hox; cases hox
        rw [wx, if_neg hwx] at h
        exact ⟨v, hv, by rw [← hcomm]; exact h⟩
      · obtain ⟨mk, obj, hv, h⟩ := h
        refine ⟨mk, obj, hv, fun b hb => ?_⟩
        obtain ⟨ox', hox, _, h⟩ := h b hb; rw [hx] at hox; cases hox
        rw [wx, if_neg hwx] at h
        rw [← hcomm]; exact h
      · refine h.mono fun v σ' ⟨hc, ox', hox, _, h⟩ => ⟨hc, ?_⟩
        rw [hx] at hox; cases hox
        rw [wx, if_neg hwx] at h
        rw [← hcomm]; exact h
  · rw [if_neg hwy] at h
    obtain ⟨ox', hox, _, h⟩ := h; rw [hx] at hox; cases hox
    rw [wx, ex] at h
    by_cases hwx : Region.wanted ox (yielded ops a.tmps) = true
    · rw [if_pos hwx] at h ⊢
      split at h
      · obtain ⟨u, hu, h⟩ := h
        refine ⟨u, hu, oy, hy, hpy, ?_⟩
        rw [wy, if_neg hwy, ← hcomm]; exact h
      · obtain ⟨u, hu, h⟩ := h
        refine ⟨u, hu, oy, hy, hpy, ?_⟩
        rw [wy, if_neg hwy, ← hcomm]; exact h
      · obtain ⟨mk, obj, hu, h⟩ := h
        refine ⟨mk, obj, hu, fun b hb => ⟨oy, hy, hpy, ?_⟩⟩
        rw [wy, if_neg hwy, ← hcomm]; exact h b hb
      · refine h.mono fun u σ' ⟨hc, h⟩ => ⟨hc, oy, hy, hpy, ?_⟩
        rw [wy, if_neg hwy, ← hcomm]; exact h
    · rw [if_neg hwx] at h ⊢
      refine ⟨oy, hy, hpy, ?_⟩
      rw [wy, if_neg hwy, ← hcomm]; exact h
end
end Go.HL

/- A REGION THAT DRAWS ITS ORDER: one order that may be chosen serves for all. -/
namespace Go.HL
open Go
section
variable {P : Program} {ops : Array Oper} {cl : Nat → Nat} {A : Nat → Nat → Bool}

def swapOk (ops : Array Oper) (cl : Nat → Nat) (y x : Nat) : Bool :=
  match ops[y]?, ops[x]? with
  | some oy, some ox => oy.apart ops ox && fits (cl y) (cl x)
  | _, _ => false

theorem SRunD.front {K : Act → H → Prop} {x : Nat} {r : List Nat} : ∀ (p : List Nat), (∀ y ∈ p, A y x = false ∧ swapOk ops cl y x = true) → ∀ {pend : List (Nat × Sem Next × Value)} {a : Act} {σ : H}, Fin σ →
    SRunD P ops cl A pend (p ++ x :: r) a K σ → SRunD P ops cl A pend (x :: (p ++ r)) a K σ := by
  intro p
  induction p with
  | nil => intro _ pend a σ _ h; exact h
  | cons y p ih =>
    intro hp pend a σ hf h
    have hsw := hp y (List.mem_cons_self ..)
    have h' : SRunD P ops cl A pend (y :: x :: (p ++ r)) a K σ :=
      SRunD.head (fun pend' a' σ' hf' hh => ih (fun z hz => hp z (List.mem_cons_of_mem _ hz)) hf' hh) hf h
    obtain ⟨hA, hs⟩ := hsw
    unfold swapOk at hs
    split at hs
    · rename_i oy ox hy hx
      simp only [Bool.and_eq_true] at hs
      exact SRunD.swap hy hx hs.1 hA hs.2 hf h'
    · cases hs

def preds (ops : Array Oper) (x : Nat) : List Nat :=
  match ops[x]? with
  | some o => (o.after.toList.filter fun e => Region.binds .any e).map (·.on)
  | none => []

theorem ready_iff {listed : Array Bool} {i : Nat} : i ∈ Region.ready .any ops listed ↔ i < ops.size ∧ listed.getD i true = false ∧ ∀ z ∈ preds ops i, listed.getD z false = true := by
  unfold Region.ready preds
  simp only [List.mem_filter, List.mem_range, Bool.and_eq_true, Bool.not_eq_true']
  refine and_congr_right fun hi => and_congr_right fun _ => ?_
  have : ops[i]? = some ops[i] := by simp [hi]
  simp only [this, Option.map_some, Option.getD_some, List.mem_map, List.mem_filter]
  rw [Array.all_eq_true']
  constructor
  · rintro h z ⟨e, ⟨he, hb⟩, rfl⟩
    have := h e (by simpa using he)
    simpa [hb] using this
  · intro h e he
    by_cases hb : Region.binds .any e = true
    · simp [hb]; simpa using h e.on ⟨e, ⟨by simpa using he, hb⟩, rfl⟩
    · simp [hb]

/-- the ancestors that are told are ancestors -/
def ancOk (ops : Array Oper) (AL : List (List Nat)) : Bool :=
  (List.range ops.size).all fun x => (AL.getD x []).all fun y => (preds ops x).any fun z => z == y || (decide (z < x) && (AL.getD z []).contains y)

def ancOf (AL : List (List Nat)) (y x : Nat) : Bool := (AL.getD x []).contains y

structure Cls (ops : Array Oper) (listed : Array Bool) : Prop where
  size : listed.size = ops.size
  down : ∀ x, listed.getD x false = true → ∀ z ∈ preds ops x, listed.getD z false = true

theorem anc_listed {AL : List (List Nat)} (hok : ancOk ops AL = true) {listed : Array Bool} (hc : Cls ops listed) :
    ∀ x y, x < ops.size → ancOf AL y x = true → (∀ z ∈ preds ops x, listed.getD z false = true) → listed.getD y false = true := by
  intro x
  induction x using Nat.strongRecOn with
  | _ x ih =>
    intro y hx ha hp
    unfold ancOk at hok
    rw [List.all_eq_true] at hok
    have h1 := hok x (by simpa using hx)
    rw [List.all_eq_true] at h1
    have h2 := h1 y (by simpa [ancOf] using ha)
    rw [List.any_eq_true] at h2
    obtain ⟨z, hz, hzy⟩ := h2
    simp only [Bool.or_eq_true, beq_iff_eq, Bool.and_eq_true, decide_eq_true_eq] at hzy
    rcases hzy with rfl | ⟨hlt, hzz⟩
    · exact hp _ hz
    · exact ih z hlt y (by omega) hzz (hc.down z (hp z hz))

def linOk (ops : Array Oper) : List Nat → List Nat → Bool
  | _, [] => true
  | done, x :: r => ((preds ops x).all fun z => done.contains z) && linOk ops (x :: done) r

def pairOk (ops : Array Oper) (cl : Nat → Nat) (A : Nat → Nat → Bool) : List Nat → Bool
  | [] => true
  | y :: r => (r.all fun x => A y x || swapOk ops cl y x) && pairOk ops cl A r

theorem pairOk_pairwise : ∀ l, pairOk ops cl A l = true → l.Pairwise fun y x => A y x = true ∨ swapOk ops cl y x = true := by
  intro l
  induction l with
  | nil => intro _; exact .nil
  | cons y r ih =>
    intro h
    simp only [pairOk, Bool.and_eq_true, List.all_eq_true, Bool.or_eq_true] at h
    exact .cons (fun x hx => h.1 x hx) (ih h.2)

/-- the first operation of what is left may be taken -/
theorem linOk_front : ∀ (l done : List Nat), linOk ops done l = true → ∀ p x r, l = p ++ x :: r → ∀ z ∈ preds ops x, z ∈ done ∨ z ∈ p := by
  intro l
  induction l with
  | nil => intro done _ p x r h; simp at h
  | cons y l ih =>
    intro done h p x r hl z hz
    simp only [linOk, Bool.and_eq_true, List.all_eq_true] at h
    cases p with
    | nil =>
      simp at hl
      obtain ⟨rfl, rfl⟩ := hl
      exact .inl (by simpa using h.1 z hz)
    | cons w p =>
      simp at hl
      obtain ⟨rfl, hl⟩ := hl
      rcases ih (y :: done) h.2 p x r hl z hz with h' | h'
      · rcases List.mem_cons.1 h' with rfl | h'
        · exact .inr (List.mem_cons_self ..)
        · exact .inl h'
      · exact .inr (List.mem_cons_of_mem _ h')

theorem callsIn_any {ro : Option Nat} {n : Nat} {f : FuncId} {args : Array Value} {w : World} {R : Ending → World → Prop} (h : CallsIn Fence.wide 0 P f args w R) : CallsIn (FW ro) n P f args w R :=
  ⟨trivial, fun cs _ => h.2 cs (room_wide _)⟩
theorem roundIn_any {ro : Option Nat} {n l : Nat} {f : FuncId} {tmps : Array Value} {assign body : Code} {w : World} {R : Ending → World → Prop} (h : RoundIn Fence.wide 0 P l f tmps assign body w R) : RoundIn (FW ro) n P l f tmps assign body w R :=
  ⟨trivial, fun c cs _ => h.2 c cs (room_wide _)⟩

theorem uponIn_of_reach {ro : Option Nat} {n : Nat} {o : Oper} {a : Act} {next : Act → World → Prop} {Q : Exit → Act → World → Prop} {x : Result Next}
    (h : reach P (fun v w => next (a.put o.dst v) w) x) : o.uponIn (FW ro) n P a next Q x := by
  unfold reach at h
  split at h
  · exact h
  · exact h
  · refine ⟨(fun h => by cases h), ?_⟩
    have h' := callsIn_any (ro := ro) (n := n - 1) h
    refine h'.mono fun e w' ⟨v, he, hv⟩ => ?_
    subst he; exact hv
  · refine ⟨(fun h => by cases h), ?_⟩
    have h' := roundIn_any (ro := ro) (n := n - 1) h
    refine h'.mono fun e w' ⟨v, he, hv⟩ => ?_
    subst he; exact hv
  · exact h.elim

/-- ONE OPERATION, at the machine -/
theorem op_sound {ro : Option Nat} {n : Nat} {Q : Exit → Act → World → Prop} {i : Nat} {l : List Nat} {pend : List (Nat × Sem Next × Value)} {a : Act} {K : Act → H → Prop} {σ : H} {next : Act → World → Prop} {w : World}
    (hw : σ.le w) (h : SRunD P ops cl A pend (i :: l) a K σ)
    (hn : ∀ pend' v σ' w', Ext σ w σ' w' → SRunD P ops cl A pend' l (a.put ((ops[i]?).bind (·.dst)) v) K σ' → next (a.put ((ops[i]?).bind (·.dst)) v) w') : wpOpIn (FW ro) n P ops Q i next a w := by
  obtain ⟨o, ho, hp, h⟩ := h
  unfold wpOpIn
  simp only [ho, Option.bind_some] at hn ⊢
  split at h
  · rename_i hwd
    rw [if_pos hwd]
    refine ⟨fun _ _ => trivial, ?_⟩
    rw [Oper.semAt_eq _ _ _ (plain_defer hp)]
    split at h
    · obtain ⟨v, hv, h⟩ := h
      rw [hv w]; exact hn _ v σ w (Ext.refl hw) h
    · obtain ⟨v, hv, h⟩ := h
      rw [hv w hw]; exact hn _ v σ w (Ext.refl hw) h
    · obtain ⟨mk, obj, hv, h⟩ := h
      rw [hv w]
      obtain ⟨hn', he⟩ := Ext.alloc hw obj
      exact hn _ _ _ _ he (h _ hn')
    · exact uponIn_of_reach ((h w hw).mono fun v w' ⟨σ', he, _, hk⟩ => hn _ v σ' w' he hk)
  · rename_i hwd
    rw [if_neg hwd]
    exact ⟨fun _ _ => trivial, hn _ _ σ w (Ext.refl hw) h⟩

/-- IN THE ORDER OF THE LIST -/
theorem run_sound {ro : Option Nat} {n : Nat} {Q : Exit → Act → World → Prop} {K : Act → H → Prop} : ∀ (l : List Nat) {pend : List (Nat × Sem Next × Value)} {a : Act} {σ : H} {w : World}, σ.le w → SRunD P ops cl A pend l a K σ →
    (∀ a' σ' w', Ext σ w σ' w' → K a' σ' → Q .normal a' w') → wpOpsIn (FW ro) n P ops Q l a w := by
  intro l
  induction l with
  | nil => intro pend a σ w hw h hq; exact hq a σ w (Ext.refl hw) h
  | cons i l ih =>
    intro pend a σ w hw h hq
    rw [wpOpsIn_cons]
    refine op_sound hw h fun pend' v σ' w' he h' => ?_
    exact ih he.le h' fun a₂ σ₂ w₂ he₂ hk => hq _ _ _ (he.trans he₂) hk

/-- IN EVERY ORDER -/
theorem any_sound {ro : Option Nat} {n : Nat} {Q : Exit → Act → World → Prop} {K : Act → H → Prop} {AL : List (List Nat)} (hanc : ancOk ops AL = true) :
    ∀ (fuel : Nat) (rem : List Nat) (listed : Array Bool) {pend : List (Nat × Sem Next × Value)} {a : Act} {σ : H} {w : World}, rem.length ≤ fuel → σ.le w → SRunD P ops cl (ancOf AL) pend rem a K σ → Cls ops listed →
    (∀ i, i < ops.size → (listed.getD i false = true ∨ i ∈ rem)) → (∀ i ∈ rem, i < ops.size ∧ listed.getD i true = false) → rem.Nodup →
    (∀ p x r, rem = p ++ x :: r → ∀ z ∈ preds ops x, listed.getD z false = true ∨ z ∈ p) →
    rem.Pairwise (fun y x => ancOf AL y x = true ∨ swapOk ops cl y x = true) →
    (∀ a' σ' w', Ext σ w σ' w' → K a' σ' → Q .normal a' w') → wpAnyIn (FW ro) n P .any ops Q fuel listed a w := by
  intro fuel
  induction fuel with
  | zero =>
    intro rem listed pend a σ w hlen hw h hc hall hrem hnd hlin hpw hq
    have : rem = [] := List.length_eq_zero_iff.1 (by omega)
    subst this
    refine ⟨?_, hq a σ w (Ext.refl hw) h⟩
    rw [List.eq_nil_iff_forall_not_mem]
    intro i hi
    rw [ready_iff] at hi
    rcases hall i hi.1 with h1 | h1
    · have : i < listed.size := by rw [hc.size]; exact hi.1
      simp [this] at h1 hi
      rw [h1] at hi; simp at hi
    · simp at h1
  | succ fuel ih =>
    intro rem listed pend a σ w hlen hw h hc hall hrem hnd hlin hpw hq
    refine ⟨fun hnil => ?_, fun i hi => ?_⟩
    · cases rem with
      | nil => exact hq a σ w (Ext.refl hw) h
      | cons x r =>
        exfalso
        have hx := hrem x (List.mem_cons_self ..)
        have : x ∈ Region.ready .any ops listed := by
          rw [ready_iff]
          refine ⟨hx.1, hx.2, fun z hz => ?_⟩
          rcases hlin [] x r rfl z hz with h' | h'
          · exact h'
          · simp at h'
        rw [hnil] at this; simp at this
    · rw [ready_iff] at hi
      obtain ⟨hisz, hil, hip⟩ := hi
      have hisz' : i < listed.size := by rw [hc.size]; exact hisz
      have hmem : i ∈ rem := by
        rcases hall i hisz with h1 | h1
        · simp [hisz'] at h1 hil; rw [h1] at hil; simp at hil
        · exact h1
      obtain ⟨p, r, rfl⟩ := List.append_of_mem hmem
      have hfr : SRunD P ops cl (ancOf AL) pend (i :: (p ++ r)) a K σ := by
        refine SRunD.front p (fun y hy => ?_) (Fin.of_le hw) h
        have hpair : ancOf AL y i = true ∨ swapOk ops cl y i = true := by
          rw [List.pairwise_append] at hpw
          exact hpw.2.2 y hy i (List.mem_cons_self ..)
        have hna : ancOf AL y i = false := by
          cases ha : ancOf AL y i with
          | false => rfl
          | true =>
            have h1 := anc_listed hanc hc i y hisz ha hip
            have h2 := (hrem y (List.mem_append_left _ hy)).2
            have hys : y < listed.size := by rw [hc.size]; exact (hrem y (List.mem_append_left _ hy)).1
            simp [hys] at h1 h2; rw [h1] at h2; simp at h2
        exact ⟨hna, hpair.resolve_left (by rw [hna]; simp)⟩
      refine op_sound hw hfr fun pend' v σ' w' he h' => ?_
      have hset : ∀ j d, (listed.setIfInBounds i true).getD j d = if j = i then true else listed.getD j d := by
        intro j d
        by_cases hj : j = i
        · subst hj; simp [hisz']
        · simp [hj, Ne.symm hj]
      have hnd' : (i :: (p ++ r)).Nodup := by
        refine (List.Perm.nodup_iff ?_).1 hnd
        exact List.perm_middle
      have hni : i ∉ p ++ r := (List.nodup_cons.1 hnd').1
      refine ih (p ++ r) _ ?_ he.le h' ⟨by simpa using hc.size, ?_⟩ ?_ ?_ (List.nodup_cons.1 hnd').2 ?_ ?_ fun a₂ σ₂ w₂ he₂ hk => hq _ _ _ (he.trans he₂) hk
      · simp at hlen ⊢; omega
      · intro x hx z hz
        rw [hset] at hx ⊢
        by_cases hz' : z = i
        · simp [hz']
        · rw [if_neg hz']
          by_cases hx' : x = i
          · subst hx'; exact hip z hz
          · rw [if_neg hx'] at hx; exact hc.down x hx z hz
      · intro j hj
        rw [hset]
        by_cases hj' : j = i
        · simp [hj']
        · rw [if_neg hj']
          rcases hall j hj with h1 | h1
          · exact .inl h1
          · simp [hj'] at h1; exact .inr (by simpa using h1)
      · intro j hj
        have hji : j ≠ i := fun e => hni (e ▸ hj)
        rw [hset, if_neg hji]
        exact hrem j (by simp at hj ⊢; rcases hj with h | h; exact .inl h; exact .inr (.inr h))
      · intro p' x r' hpr z hz
        rw [hset]
        by_cases hzi : z = i
        · simp [hzi]
        · rw [if_neg hzi]
          -- where x stands
          rcases List.append_eq_append_iff.1 hpr with ⟨m, hm1, hm2⟩ | ⟨m, hm1, hm2⟩
          · -- p' = p ++ m
            rcases hlin (p ++ i :: m) x r' (by simp [hm2]) z hz with h1 | h1
            · exact .inl h1
            · right
              simp [hzi] at h1
              rw [hm1]; simpa using h1
          · -- p = p' ++ m
            cases m with
            | nil =>
              simp at hm1 hm2
              rcases hlin (p ++ [i]) x r' (by simp [← hm2]) z hz with h1 | h1
              · exact .inl h1
              · right; simp [hzi] at h1; rw [← hm1]; exact h1
            | cons c m =>
              simp at hm2
              obtain ⟨rfl, hm2⟩ := hm2
              exact hlin p' x (m ++ i :: r) (by simp [hm1]) z hz
      · refine hpw.sublist ?_
        exact List.Sublist.append (List.Sublist.refl _) (List.sublist_cons_self ..)

def nodupB : List Nat → Bool
  | [] => true
  | x :: r => !r.contains x && nodupB r
theorem nodupB_nodup : ∀ l, nodupB l = true → l.Nodup := by
  intro l
  induction l with
  | nil => intro _; exact .nil
  | cons x r ih =>
    intro h
    simp only [nodupB, Bool.and_eq_true, Bool.not_eq_true', List.contains_eq_mem, decide_eq_false_iff_not] at h
    exact List.nodup_cons.2 ⟨h.1, ih h.2⟩

/-- all that is asked of an order that is chosen -/
def drawOk (ops : Array Oper) (cl : Nat → Nat) (AL : List (List Nat)) (π : List Nat) : Bool :=
  Nat.beq π.length ops.size && (List.range ops.size).all (fun i => π.contains i) && π.all (fun i => Nat.blt i ops.size) && nodupB π && linOk ops [] π && pairOk ops cl (ancOf AL) π && ancOk ops AL

theorem draw_sound {ro : Option Nat} {n : Nat} {Q : Exit → Act → World → Prop} {K : Act → H → Prop} {AL : List (List Nat)} {π : List Nat} (hm : P.follows .mixedOrders = true) (hok : drawOk ops cl AL π = true) {id : Nat} {a : Act} {σ : H} {w : World} (hw : σ.le w)
    (h : SRunD P ops cl (ancOf AL) [] π a K σ) (hq : ∀ a' σ' w', Ext σ w σ' w' → K a' σ' → Q .normal a' w') : (Code.region id ops true).wpIn (FW ro) n P Q a w := by
  unfold drawOk at hok
  simp only [Bool.and_eq_true, List.all_eq_true] at hok
  obtain ⟨⟨⟨⟨⟨⟨hlen, hall⟩, hlt⟩, hnd⟩, hlin⟩, hpair⟩, hanc⟩ := hok
  have hlen : π.length = ops.size := Nat.eq_of_beq_eq_true hlen
  refine wpIn_region_any hm ?_
  refine any_sound hanc _ π _ (by omega) (w := { w with drawn := w.drawn + 1 }) hw h ⟨by simp, ?_⟩ ?_ ?_ ?_ ?_ ?_ ?_
  · intro x hx; exfalso
    rcases Nat.lt_or_ge x ops.size with h1 | h1
    · simp [h1] at hx
    · simp [Nat.not_lt.2 h1] at hx
  · intro i hi; exact .inr (by simpa using hall i (by simpa using hi))
  · intro i hi
    have hi' : i < ops.size := by simpa using hlt i hi
    exact ⟨hi', by simp [hi']⟩
  · exact nodupB_nodup _ hnd
  · intro p x r hp z hz
    rcases linOk_front π [] hlin p x r hp z hz with h1 | h1
    · simp at h1
    · exact .inr h1
  · exact pairOk_pairwise _ hpair
  · intro a' σ' w' he hk
    exact hq a' σ' w' ((Ext.drew hw _).trans he) hk
end
end Go.HL

/- KINDS of values, functions of typed parts, environments of slots. -/
namespace Go.HL
open Go

structure Sl where
  base : Option Addr
  len : Nat
  cap : Nat

inductive SK where
  | raw | int (k : IntKind) | bool | str | ptr | slc | map

@[reducible] def SK.T : SK → Type
  | .raw => Value
  | .int _ => Int
  | .bool => Bool
  | .str => ByteArray
  | .ptr => Option Addr
  | .slc => Sl
  | .map => Option Nat

def SK.inj : (s : SK) → s.T → Value
  | .raw, v => v
  | .int k, n => .int k n
  | .bool, b => .bool b
  | .str, s => .string s
  | .ptr, p => .pointer p
  | .slc, s => .slice s.base s.len s.cap
  | .map, r => .map r

def sameK : IntKind → IntKind → Bool
  | .i8, .i8 | .i16, .i16 | .i32, .i32 | .i64, .i64 | .u8, .u8 | .u16, .u16 | .u32, .u32 | .u64, .u64 => true
  | _, _ => false
theorem sameK_eq {a b : IntKind} (h : sameK a b = true) : a = b := by cases a <;> cases b <;> first | rfl | cases h
theorem sameK_self (a : IntKind) : sameK a a = true := by cases a <;> rfl

def prjInt (k : IntKind) : Value → Option Int
  | .int k' n => match sameK k' k with
    | true => some n
    | false => none
  | _ => none
def prjBool : Value → Option Bool
  | .bool b => some b
  | _ => none
def prjStr : Value → Option ByteArray
  | .string b => some b
  | _ => none
def prjPtr : Value → Option (Option Addr)
  | .pointer b => some b
  | _ => none
def prjSlc : Value → Option Sl
  | .slice b l c => some ⟨b, l, c⟩
  | _ => none
def prjMap : Value → Option (Option Nat)
  | .map b => some b
  | _ => none

def SK.prj : (s : SK) → Value → Option s.T
  | .raw, v => some v
  | .int k, v => prjInt k v
  | .bool, v => prjBool v
  | .str, v => prjStr v
  | .ptr, v => prjPtr v
  | .slc, v => prjSlc v
  | .map, v => prjMap v

theorem SK.inj_prj {s : SK} {v : Value} {x : s.T} (h : s.prj v = some x) : s.inj x = v := by
  cases s with
  | raw => simp [SK.prj] at h; simp [SK.inj, h]
  | int k =>
    simp only [SK.prj] at h
    unfold prjInt at h
    split at h
    · split at h
      · rename_i hk; cases h; rw [sameK_eq hk]; rfl
      · cases h
    · cases h
  | bool => simp only [SK.prj] at h; unfold prjBool at h; split at h <;> cases h; rfl
  | str => simp only [SK.prj] at h; unfold prjStr at h; split at h <;> cases h; rfl
  | ptr => simp only [SK.prj] at h; unfold prjPtr at h; split at h <;> cases h; rfl
  | slc => simp only [SK.prj] at h; unfold prjSlc at h; split at h <;> cases h; rfl
  | map => simp only [SK.prj] at h; unfold prjMap at h; split at h <;> cases h; rfl
theorem SK.prj_inj (s : SK) (x : s.T) : s.prj (s.inj x) = some x := by
  cases s <;> simp [SK.prj, SK.inj, prjInt, prjBool, prjStr, prjPtr, prjSlc, prjMap, sameK_self]

@[reducible] def FnL : List SK → Type → Type
  | [], R => R
  | s :: l, R => s.T → FnL l R

def lamL : (l : List SK) → {R : Type} → (List Value → R) → FnL l R
  | [], _, f => f []
  | s :: l, _, f => fun x => lamL l fun vs => f (s.inj x :: vs)

def prjL : (l : List SK) → {R : Type} → FnL l R → List Value → Option R
  | [], _, F, [] => some F
  | s :: l, _, F, v :: vs => match s.prj v with
    | some x => prjL l (F x) vs
    | none => none
  | _, _, _, _ => none

theorem prjL_lamL : ∀ (l : List SK) {R : Type} (f : List Value → R) (vs : List Value) (r : R), prjL l (lamL l f) vs = some r → r = f vs := by
  intro l
  induction l with
  | nil =>
    intro R f vs r h
    cases vs with
    | nil => simp [prjL, lamL] at h; exact h.symm
    | cons v vs => simp [prjL] at h
  | cons s l ih =>
    intro R f vs r h
    cases vs with
    | nil => simp [prjL] at h
    | cons v vs =>
      simp only [prjL, lamL] at h
      split at h
      · rename_i x hx
        have := ih _ vs r h
        rw [SK.inj_prj hx] at this; exact this
      · cases h

/-- a component's kind -/
inductive CK where
  | sc (s : SK) | agg (l : List SK)

@[reducible] def CK.Fn : CK → Type → Type
  | .sc s, R => s.T → R
  | .agg l, R => FnL l R
def CK.lam : (c : CK) → {R : Type} → (Value → R) → c.Fn R
  | .sc s, _, f => fun x => f (s.inj x)
  | .agg l, _, f => lamL l fun vs => f (.agg ⟨vs⟩)
def aggOf : Value → Option (List Value)
  | .agg ⟨l⟩ => some l
  | _ => none
def CK.prj : (c : CK) → {R : Type} → c.Fn R → Value → Option R
  | .sc s, _, F, v => match s.prj v with
    | some x => some (F x)
    | none => none
  | .agg l, _, F, v => match aggOf v with
    | some vs => prjL l F vs
    | none => none
theorem CK.prj_lam (c : CK) {R : Type} (f : Value → R) (v : Value) (r : R) (h : c.prj (c.lam f) v = some r) : r = f v := by
  cases c with
  | sc s =>
    simp only [CK.prj, CK.lam] at h
    split at h
    · rename_i x hx; cases h; rw [SK.inj_prj hx]
    · cases h
  | agg l =>
    simp only [CK.prj, CK.lam] at h
    split at h
    · rename_i vs hvs
      unfold aggOf at hvs
      split at hvs
      · cases hvs; exact prjL_lamL l _ _ _ h
      · cases hvs
    · cases h

@[reducible] def FnC : List CK → Type → Type
  | [], R => R
  | c :: l, R => c.Fn (FnC l R)
def lamC : (l : List CK) → {R : Type} → (List Value → R) → FnC l R
  | [], _, f => f []
  | c :: l, _, f => c.lam fun v => lamC l fun vs => f (v :: vs)
def prjC : (l : List CK) → {R : Type} → FnC l R → List Value → Option R
  | [], _, F, [] => some F
  | c :: l, _, F, v :: vs => match c.prj F v with
    | some G => prjC l G vs
    | none => none
  | _, _, _, _ => none
theorem prjC_lamC : ∀ (l : List CK) {R : Type} (f : List Value → R) (vs : List Value) (r : R), prjC l (lamC l f) vs = some r → r = f vs := by
  intro l
  induction l with
  | nil =>
    intro R f vs r h
    cases vs with
    | nil => simp [prjC, lamC] at h; exact h.symm
    | cons v vs => simp [prjC] at h
  | cons s l ih =>
    intro R f vs r h
    cases vs with
    | nil => simp [prjC] at h
    | cons v vs =>
      simp only [prjC, lamC] at h
      split at h
      · rename_i G hG
        rw [CK.prj_lam _ _ _ _ hG] at h
        exact ih _ vs r h
      · cases h

/-- a value's kind -/
inductive TK where
  | one (c : CK) | tup (l : List CK) | opt (l : List CK)
@[reducible] def TK.Fn : TK → Type → Type
  | .one c, R => c.Fn R
  | .tup l, R => FnC l R
  | .opt l, R => R × FnC l R
def TK.lam : (t : TK) → {R : Type} → (Value → R) → t.Fn R
  | .one c, _, f => c.lam f
  | .tup l, _, f => lamC l fun vs => f (.tuple ⟨vs⟩)
  | .opt l, _, f => (f (.tuple ⟨[.bool false]⟩), lamC l fun vs => f (.tuple ⟨.bool true :: vs⟩))
def tupOf : Value → Option (List Value)
  | .tuple ⟨l⟩ => some l
  | _ => none
/-- 'none': it is over -/
def optOf : Value → Option (Option (List Value))
  | .tuple ⟨[.bool false]⟩ => some none
  | .tuple ⟨.bool true :: l⟩ => some (some l)
  | _ => none
theorem optOf_none {v : Value} (h : optOf v = some none) : v = .tuple ⟨[.bool false]⟩ := by
  unfold optOf at h; split at h
  · rfl
  · cases h
  · cases h
theorem optOf_some {v : Value} {l : List Value} (h : optOf v = some (some l)) : v = .tuple ⟨.bool true :: l⟩ := by
  unfold optOf at h; split at h
  · cases h
  · cases h; rfl
  · cases h
def TK.prj : (t : TK) → {R : Type} → t.Fn R → Value → Option R
  | .one c, _, F, v => c.prj F v
  | .tup l, _, F, v => match tupOf v with
    | some vs => prjC l F vs
    | none => none
  | .opt l, _, F, v => match optOf v with
    | some none => some F.1
    | some (some vs) => prjC l F.2 vs
    | none => none
theorem TK.prj_lam (t : TK) {R : Type} (f : Value → R) (v : Value) (r : R) (h : t.prj (t.lam f) v = some r) : r = f v := by
  cases t with
  | one c => exact CK.prj_lam c f v r h
  | tup l =>
    simp only [TK.prj, TK.lam] at h
    split at h
    · rename_i vs hvs
      unfold tupOf at hvs
      split at hvs
      · cases hvs; exact prjC_lamC l _ _ _ h
      · cases hvs
    · cases h
  | opt l =>
    simp only [TK.prj, TK.lam] at h
    split at h
    · rename_i hv; cases h; rw [optOf_none hv]
    · rename_i vs hv; rw [optOf_some hv]; exact prjC_lamC l _ _ _ h
    · cases h

def runO (o : Option (H → Prop)) (σ : H) : Prop :=
  match o with
  | some g => g σ
  | none => False
/-- typed parts of a value are handed on -/
def app (t : TK) (F : t.Fn (H → Prop)) (v : Value) (σ : H) : Prop := runO (t.prj F v) σ
theorem app_lam {t : TK} {f : Value → H → Prop} {v : Value} {σ : H} (h : app t (t.lam f) v σ) : f v σ := by
  unfold app runO at h
  split at h
  · rename_i g hg; rw [TK.prj_lam _ _ _ _ hg] at h; exact h
  · exact h.elim

/-! ### Environments -/
abbrev Env := List (Nat × Value)
def Env.get? : Env → Nat → Option Value
  | [], _ => none
  | (j, v) :: r, i => match Nat.beq j i with
    | true => some v
    | false => Env.get? r i
def Env.put (e : Env) : Option Nat → Value → Env
  | some d, v => (d, v) :: e
  | none, _ => e
def evO (e : Env) : Operand → Option Value
  | .tmp t => e.get? t
  | .const v => some v
  | .global g => some (.pointer (some ⟨g, 0, none⟩))
  | .func f => some (.func (.func f) #[] #[])
def evL (e : Env) : List Operand → Option (List Value)
  | [] => some []
  | x :: r => match evO e x with
    | some v => match evL e r with
      | some vs => some (v :: vs)
      | none => none
    | none => none

structure FR (N : Nat) (e : Env) (a : Act) : Prop where
  size : N ≤ a.tmps.size
  get : ∀ i v, e.get? i = some v → a.tmps[i]? = some v

theorem FR.evO {N : Nat} {e : Env} {a : Act} (h : FR N e a) {x : Operand} {v : Value} (hx : evO e x = some v) : a.eval x = v := by
  cases x with
  | tmp t => simp only [HL.evO] at hx; simp [Act.eval, h.get t v hx]
  | const v => simp [HL.evO] at hx; simp [Act.eval, hx]
  | global g => simp [HL.evO] at hx; simp [Act.eval, hx]
  | func f => simp [HL.evO] at hx; simp [Act.eval, hx]
theorem FR.evL {N : Nat} {e : Env} {a : Act} (h : FR N e a) : ∀ {xs : List Operand} {vs : List Value}, evL e xs = some vs → xs.map a.eval = vs := by
  intro xs
  induction xs with
  | nil => intro vs hv; simp [HL.evL] at hv; simp [hv]
  | cons x xs ih =>
    intro vs hv
    simp only [HL.evL] at hv
    split at hv
    · rename_i v hx
      split at hv
      · rename_i us hus; cases hv; simp [h.evO hx, ih hus]
      · cases hv
    · cases hv

def dstOk (N : Nat) : Option Nat → Bool
  | some d => Nat.blt d N
  | none => true
theorem FR.put {N : Nat} {e : Env} {a : Act} (h : FR N e a) {d : Option Nat} (hd : dstOk N d = true) (v : Value) : FR N (e.put d v) (a.put d v) := by
  cases d with
  | none => exact h
  | some d =>
    have hd : d < N := by simpa [dstOk] using hd
    refine ⟨by simp [Act.put, h.size], fun i u hu => ?_⟩
    simp only [Env.put, Env.get?] at hu
    have hlt : d < a.tmps.size := Nat.lt_of_lt_of_le hd h.size
    split at hu
    · rename_i he
      have := Nat.eq_of_beq_eq_true he
      subst this; cases hu; simp [Act.put, hlt]
    · rename_i he
      have : d ≠ i := Nat.ne_of_beq_eq_false he
      simp only [Act.put]
      rw [Array.getElem?_setIfInBounds_ne this]; exact h.get i u hu

/-- slots that live on, with their kinds -/
abbrev Live := List (Nat × CK)
def Live.ks : Live → List CK
  | [] => []
  | (_, c) :: r => c :: Live.ks r
def Live.zip : Live → List Value → Env
  | (i, _) :: r, v :: vs => (i, v) :: Live.zip r vs
  | _, _ => []
def Live.sel (e : Env) : Live → Option (List Value)
  | [] => some []
  | (i, _) :: r => match e.get? i with
    | some v => match Live.sel e r with
      | some vs => some (v :: vs)
      | none => none
    | none => none
@[reducible] def Live.Fn (l : Live) : Type := FnC l.ks (H → Prop)
def Live.lam (l : Live) (f : Env → H → Prop) : l.Fn := lamC l.ks fun vs => f (l.zip vs)
def Live.app (l : Live) (F : l.Fn) (e : Env) : H → Prop :=
  match l.sel e with
  | some vs => match prjC l.ks F vs with
    | some g => g
    | none => fun _ => False
  | none => fun _ => False
theorem Live.zip_get {e : Env} : ∀ {l : Live} {vs : List Value}, l.sel e = some vs → ∀ i v, (l.zip vs).get? i = some v → e.get? i = some v := by
  intro l
  induction l with
  | nil => intro vs h i v hv; simp [Live.zip, Env.get?] at hv
  | cons x l ih =>
    intro vs h i v hv
    obtain ⟨j, c⟩ := x
    simp only [Live.sel] at h
    split at h
    · rename_i u hu
      split at h
      · rename_i us hus
        cases h
        simp only [Live.zip, Env.get?] at hv
        split at hv
        · rename_i hb; have := Nat.eq_of_beq_eq_true hb; subst this; cases hv; exact hu
        · exact ih hus i v hv
      · cases h
    · cases h
theorem Live.app_get {l : Live} {F : l.Fn} {e : Env} {σ : H} (h : l.app F e σ) : ∃ vs g, l.sel e = some vs ∧ prjC l.ks F vs = some g ∧ g σ := by
  unfold Live.app at h
  cases hs : Live.sel e l with
  | none => simp only [hs] at h
  | some vs =>
    simp only [hs] at h
    cases hp : prjC l.ks F vs with
    | none => simp only [hp] at h
    | some g => simp only [hp] at h; exact ⟨vs, g, rfl, hp, h⟩
theorem Live.app_lam {l : Live} {f : Env → H → Prop} {e : Env} {σ : H} (h : l.app (l.lam f) e σ) : ∃ vs, l.sel e = some vs ∧ f (l.zip vs) σ := by
  obtain ⟨vs, g, h1, h2, h3⟩ := Live.app_get h
  refine ⟨vs, h1, ?_⟩
  have := prjC_lamC _ _ _ _ h2
  rw [this] at h3; exact h3
theorem FR.sel {N : Nat} {e : Env} {a : Act} (h : FR N e a) {l : Live} {vs : List Value} (hs : l.sel e = some vs) : FR N (l.zip vs) a :=
  ⟨h.size, fun i v hv => h.get i v (Live.zip_get hs i v hv)⟩

/-- pointwise: one family of statements is stronger than another -/
def leL : (l : List SK) → {R : Type} → (R → R → Prop) → FnL l R → FnL l R → Prop
  | [], _, le, F, G => le F G
  | s :: l, _, le, F, G => ∀ x : s.T, leL l le (F x) (G x)
def CK.le : (c : CK) → {R : Type} → (R → R → Prop) → c.Fn R → c.Fn R → Prop
  | .sc s, _, le, F, G => ∀ x : s.T, le (F x) (G x)
  | .agg l, _, le, F, G => leL l le F G
def leC : (l : List CK) → FnC l (H → Prop) → FnC l (H → Prop) → Prop
  | [], F, G => ∀ σ, F σ → G σ
  | c :: l, F, G => c.le (leC l) F G

theorem leL_prj : ∀ (l : List SK) {R : Type} (le : R → R → Prop) (F G : FnL l R) (vs : List Value) (f : R), leL l le F G → prjL l F vs = some f → ∃ g, prjL l G vs = some g ∧ le f g := by
  intro l
  induction l with
  | nil =>
    intro R le F G vs f h hp
    cases vs with
    | nil => simp [prjL] at hp ⊢; subst hp; exact h
    | cons v vs => simp [prjL] at hp
  | cons s l ih =>
    intro R le F G vs f h hp
    cases vs with
    | nil => simp [prjL] at hp
    | cons v vs =>
      simp only [prjL] at hp ⊢
      split at hp
      · rename_i x hx; exact ih le _ _ vs f (h x) hp
      · cases hp
theorem CK.le_prj (c : CK) {R : Type} (le : R → R → Prop) (F G : c.Fn R) (v : Value) (f : R) (h : c.le le F G) (hp : c.prj F v = some f) : ∃ g, c.prj G v = some g ∧ le f g := by
  cases c with
  | sc s =>
    simp only [CK.prj] at hp ⊢
    split at hp
    · rename_i x hx; cases hp; exact ⟨_, rfl, h x⟩
    · cases hp
  | agg l =>
    simp only [CK.prj] at hp ⊢
    split at hp
    · exact leL_prj l le _ _ _ _ h hp
    · cases hp
theorem leC_prj : ∀ (l : List CK) (F G : FnC l (H → Prop)) (vs : List Value) (f : H → Prop), leC l F G → prjC l F vs = some f → ∃ g, prjC l G vs = some g ∧ ∀ σ, f σ → g σ := by
  intro l
  induction l with
  | nil =>
    intro F G vs f h hp
    cases vs with
    | nil => simp [prjC] at hp ⊢; subst hp; exact h
    | cons v vs => simp [prjC] at hp
  | cons c l ih =>
    intro F G vs f h hp
    cases vs with
    | nil => simp [prjC] at hp
    | cons v vs =>
      simp only [prjC] at hp ⊢
      split at hp
      · rename_i F' hF
        obtain ⟨G', hG, hle⟩ := CK.le_prj c _ _ _ _ _ h hF
        simp only [hG]
        exact ih _ _ vs f hle hp
      · cases hp
end Go.HL

/- OPERATIONS THAT NEITHER READ NOR WRITE MEMORY: what each comes to, as a formula over typed parts; and that the model does so. -/
namespace Go.HL
open Go

def nW : H → Prop := fun _ => False
def oW (v : Option Value) (K : Value → H → Prop) (σ : H) : Prop :=
  match v with
  | some v => K v σ
  | none => False
def brW (t : Bool) (A B : H → Prop) (σ : H) : Prop :=
  match t with
  | true => A σ
  | false => B σ
def ptrW (p : Option Addr) (g : Nat → Nat → H → Prop) (σ : H) : Prop :=
  match p with
  | some ⟨b, o, none⟩ => g b o σ
  | _ => False
/-- a condition, and on -/
def ifW (c : Prop) (g : H → Prop) : H → Prop := fun σ => c ∧ g σ

/-! ### What the program's tables say, as numbers -/
def fOff (P : Program) (s : TypeId) (f : Nat) : Option Nat :=
  match P.underlying s with
  | some (.struct fs) => match fs.toList[f]? with
    | some fd => match P.info? fd.type with
      | some i => match i.size with
        | 0 => none
        | _ + 1 => some fd.offset
      | none => none
    | none => none
  | _ => none
def isAggT (P : Program) (t : TypeId) : Option Bool :=
  match P.underlying t with
  | some (.struct _) => some true
  | some (.array _ _) => some true
  | some _ => some false
  | none => none
def sizeT (P : Program) (t : TypeId) : Option Nat :=
  match P.info? t with
  | some i => some i.size
  | none => none
def zeroT (P : Program) (t : TypeId) : Option Value :=
  match P.info? t with
  | some i => i.zero
  | none => none

section
variable {P : Program}
theorem run_typeInfo' {t : TypeId} {i : TypeInfo} (h : P.info? t = some i) (w : World) : (typeInfo t).run P w = .ok i w := by
  simp [typeInfo, h]
theorem run_sizeOf {t : TypeId} {n : Nat} (h : sizeT P t = some n) (w : World) : (sizeOf t).run P w = .ok n w := by
  unfold sizeT at h
  split at h
  · rename_i i hi; cases h; simp [sizeOf, run_typeInfo' hi]
  · cases h
theorem run_zeroValue {t : TypeId} {v : Value} (h : zeroT P t = some v) (w : World) : (zeroValue t).run P w = .ok v w := by
  unfold zeroT at h
  split at h
  · rename_i i hi; simp [zeroValue, run_typeInfo' hi, h]
  · cases h
theorem run_isAgg {t : TypeId} {b : Bool} (h : isAggT P t = some b) (w : World) : (isAgg t).run P w = .ok b w := by
  unfold isAggT at h
  cases hu : P.underlying t with
  | none => simp [hu] at h
  | some d =>
    simp only [hu] at h
    cases d <;> simp at h <;> subst h <;> simp [isAgg, run_underlying hu]
theorem add_none (b o n : Nat) : (⟨b, o, none⟩ : Addr).add n = ⟨b, o + n, none⟩ := by
  unfold Addr.add; split
  · rename_i h; subst h; rfl
  · rfl
end

/-- a part of an aggregate -/
def partV (P : Program) (t : TypeId) (l : List Value) (off : Nat) : Option Value :=
  match isAggT P t with
  | some true => match sizeT P t with
    | some n => some (.agg ⟨(l.drop off).take n⟩)
    | none => none
  | some false => l[off]?
  | none => none
theorem run_part {P : Program} {t : TypeId} {l : List Value} {off : Nat} {v : Value} (h : partV P t l off = some v) (w : World) : (part t ⟨l⟩ off).run P w = .ok v w := by
  unfold partV at h
  split at h
  · rename_i ha
    split at h
    · rename_i n hn
      cases h
      simp only [part, Sem.run_bind, run_isAgg ha, Result.andThen_ok, if_true, run_sizeOf hn, Sem.run_pure]
      have : (Array.mk l).extract off (off + n) = ⟨(l.drop off).take n⟩ := by
        apply Array.ext'; simp
      rw [this]
    · cases h
  · rename_i ha
    simp [part, run_isAgg ha, h]
  · cases h
def fieldV (P : Program) (s : TypeId) (l : List Value) (f : Nat) : Option Value :=
  match P.underlying s with
  | some (.struct fs) => match fs.toList[f]? with
    | some fd => partV P fd.type l fd.offset
    | none => none
  | _ => none

/-! ### Operators -/
def strEq (x y : ByteArray) : Bool := x.toList == y.toList
def strLt (x y : ByteArray) : Bool := Op.bytesLess x.toList y.toList
def bitV (op : BinOp) (k : IntKind) (x y : Int) : Int :=
  match op with
  | .and => k.wrap (BitVec.ofInt k.bits x &&& BitVec.ofInt k.bits y).toNat
  | .or => k.wrap (BitVec.ofInt k.bits x ||| BitVec.ofInt k.bits y).toNat
  | .xor => k.wrap (BitVec.ofInt k.bits x ^^^ BitVec.ofInt k.bits y).toNat
  | _ => k.wrap (BitVec.ofInt k.bits x &&& ~~~BitVec.ofInt k.bits y).toNat

def intF (op : BinOp) (k : IntKind) (a b : Int) (K : Value → H → Prop) : H → Prop :=
  match op with
  | .add => K (.int k (k.wrap (a + b)))
  | .sub => K (.int k (k.wrap (a - b)))
  | .mul => K (.int k (k.wrap (a * b)))
  | .quo => ifW (b ≠ 0) (K (.int k (k.wrap (a.tdiv b))))
  | .rem => ifW (b ≠ 0) (K (.int k (a.tmod b)))
  | .and => K (.int k (bitV .and k a b))
  | .or => K (.int k (bitV .or k a b))
  | .xor => K (.int k (bitV .xor k a b))
  | .andNot => K (.int k (bitV .andNot k a b))
  | .eql => K (.bool (a == b))
  | .neq => K (.bool (a != b))
  | .lss => K (.bool (decide (a < b)))
  | .leq => K (.bool (decide (a ≤ b)))
  | .gtr => K (.bool (decide (a > b)))
  | .geq => K (.bool (decide (a ≥ b)))
  | _ => nW
def shF (op : BinOp) (k : IntKind) (a b : Int) (K : Value → H → Prop) : H → Prop :=
  match op with
  | .shl => ifW (0 ≤ b) (K (.int k (k.wrap (a * 2 ^ min b.toNat k.bits))))
  | .shr => ifW (0 ≤ b) (K (.int k (a.fdiv (2 ^ min b.toNat k.bits))))
  | _ => nW
def strF (op : BinOp) (x y : ByteArray) (K : Value → H → Prop) : H → Prop :=
  match op with
  | .add => ifW (x.size + y.size ≤ 9223372036854775807) (K (.string (x ++ y)))
  | .eql => K (.bool (strEq x y))
  | .neq => K (.bool (!strEq x y))
  | .lss => K (.bool (strLt x y))
  | .leq => K (.bool (strLt x y || strEq x y))
  | .gtr => K (.bool !(strLt x y || strEq x y))
  | .geq => K (.bool !(strLt x y))
  | _ => nW
/-- equality of two lists of scalars -/
def eqS : Value → Value → Option Bool
  | .bool a, .bool b => some (a == b)
  | .int k a, .int k' b => match sameK k k' with
    | true => some (a == b)
    | false => none
  | .string a, .string b => some (strEq a b)
  | _, _ => none
/-- the scalar kinds of a type -/
def scalT (P : Program) (t : TypeId) (v : Value) : Bool :=
  match P.underlying t, v with
  | some .bool, .bool _ => true
  | some (.int _), .int _ _ => true
  | some .string, .string _ => true
  | _, _ => false
def eqFs (P : Program) (xs ys : List Value) : List Field → Option Bool
  | [] => some true
  | f :: fs => match xs[f.offset]?, ys[f.offset]? with
    | some x, some y => match scalT P f.type x && !(f.name == "_") with
      | true => match eqS x y, eqFs P xs ys fs with
        | some a, some b => some (a && b)
        | _, _ => none
      | false => none
    | _, _ => none
def eqAgg (P : Program) (t : TypeId) (xs ys : List Value) : Option Bool :=
  match P.underlying t with
  | some (.struct fs) => match P.stoodInHeld t, P.eqGuardType P.depth t with
    | false, false => eqFs P xs ys fs.toList
    | _, _ => none
  | _ => none
def negB (neg : Bool) (b : Bool) : Bool :=
  match neg with
  | true => !b
  | false => b
def eqF (P : Program) (neg : Bool) (t : TypeId) (x y : Value) (K : Value → H → Prop) (σ : H) : Prop :=
  match P.underlying t, x, y with
  | some .bool, .bool a, .bool b => K (.bool (negB neg (a == b))) σ
  | some (.pointer _), .pointer p, .pointer none => K (.bool (negB neg p.isNone)) σ
  | some (.slice _), .slice p _ _, .slice none _ _ => K (.bool (negB neg p.isNone)) σ
  | some (.map _ _), .map p, .map none => K (.bool (negB neg p.isNone)) σ
  | some (.struct _), .agg ⟨xs⟩, .agg ⟨ys⟩ => match eqAgg P t xs ys with
    | some b => K (.bool (negB neg b)) σ
    | none => False
  | _, _, _ => False
def bopF (P : Program) (op : BinOp) (t : TypeId) (x y : Value) (K : Value → H → Prop) (σ : H) : Prop :=
  match x, y with
  | .int k a, .int k' b => match op with
    | .shl => shF .shl k a b K σ
    | .shr => shF .shr k a b K σ
    | _ => match sameK k k' with
      | true => intF op k a b K σ
      | false => False
  | .string a, .string b => strF op a b K σ
  | _, _ => match op with
    | .eql => eqF P false t x y K σ
    | .neq => eqF P true t x y K σ
    | _ => False

theorem run_eqGuard_no {P : Program} {w : World} (op : BinOp) (t : TypeId) (x y : Operand) (a b : Value) (h1 : a ≠ .nilIface) (h2 : ∀ c, a ≠ .agg c) : (eqGuard op t x y a b).run P w = .ok () w := by
  cases a <;> first
    | exact absurd rfl h1
    | exact absurd rfl (h2 _)
    | (unfold eqGuard; simp only [Sem.run_ite, Sem.run_pure]; split <;> rfl)
    | (unfold eqGuard; cases op <;> rfl)

theorem maxInt : IntKind.i64.max = 9223372036854775807 := by decide

theorem intF_sound {P : Program} {op : BinOp} {k : IntKind} {a b : Int} {t : TypeId} {K : Value → H → Prop} {σ : H} (h : intF op k a b K σ) (hs : op ≠ .shl) (hs' : op ≠ .shr) :
    ∃ v, (∀ w, (binOp op t (.int k a) (.int k b)).run P w = .ok v w) ∧ K v σ := by
  cases op <;> simp only [intF] at h <;> first
    | exact absurd rfl hs
    | exact absurd rfl hs'
    | exact h.elim
    | exact ⟨_, fun w => by simp [binOp, Op.intArith, Op.intBits, Op.intCmp, bitV], h⟩
    | exact ⟨_, fun w => by simp [binOp, Op.intDiv, h.1], h.2⟩
theorem shF_sound {P : Program} {op : BinOp} {k k' : IntKind} {a b : Int} {t : TypeId} {K : Value → H → Prop} {σ : H} (h : shF op k a b K σ) :
    ∃ v, (∀ w, (binOp op t (.int k a) (.int k' b)).run P w = .ok v w) ∧ K v σ := by
  cases op <;> simp only [shF] at h <;> first
    | exact h.elim
    | (refine ⟨_, fun w => ?_, h.2⟩; have := h.1; simp [binOp, Op.shift, show ¬ b < 0 by omega])
theorem strF_sound {P : Program} {op : BinOp} {a b : ByteArray} {t : TypeId} {K : Value → H → Prop} {σ : H} (h : strF op a b K σ) :
    ∃ v, (∀ w, (binOp op t (.string a) (.string b)).run P w = .ok v w) ∧ K v σ := by
  cases op <;> simp only [strF] at h <;> first
    | exact h.elim
    | exact ⟨_, fun w => by simp [binOp, Op.stringOp, strEq, strLt], h⟩
    | (refine ⟨_, fun w => ?_, h.2⟩
       have h1 := h.1
       have : ¬ (((a.size + b.size : Nat) : Int) > IntKind.i64.max) := by rw [maxInt]; omega
       simp only [binOp, Op.stringOp, this, if_false, Sem.run_pure])

theorem eqFs_sound {P : Program} {d : Nat} {xs ys : List Value} (w : World) : ∀ (fs : List Field) (b : Bool), eqFs P xs ys fs = some b → (Op.eqFields (d + 1) ⟨xs⟩ ⟨ys⟩ fs).run P w = .ok b w := by
  intro fs
  induction fs with
  | nil => intro b h; simp [eqFs] at h; subst h; simp [Op.eqFields]
  | cons f fs ih =>
    intro b h
    simp only [eqFs] at h
    split at h
    · rename_i x y hx hy
      split at h
      · rename_i hs
        split at h
        · rename_i a c ha hc
          cases h
          simp only [Bool.and_eq_true, Bool.not_eq_true'] at hs
          obtain ⟨hs, hn⟩ := hs
          have hne : f.name ≠ "_" := by simpa using hn
          have hag : isAggT P f.type = some false := by
            unfold scalT at hs
            unfold isAggT
            split at hs <;> first | (cases hs; done) | (rename_i hu; simp [hu])
          have px : (part f.type ⟨xs⟩ f.offset).run P w = .ok x w := run_part (by simp [partV, hag, hx]) w
          have py : (part f.type ⟨ys⟩ f.offset).run P w = .ok y w := run_part (by simp [partV, hag, hy]) w
          have he : (Op.equalIn (d + 1) f.type x y).run P w = .ok a w := by
            unfold scalT at hs
            split at hs
            · rename_i hu
              unfold eqS at ha; split at ha <;> simp_all
              subst ha; simp [Op.equalIn, run_underlying hu]
            · rename_i hu
              unfold eqS at ha; split at ha <;> simp_all
              split at ha <;> simp_all
              rename_i hk
              have hk' := sameK_eq hk
              subst ha; simp [Op.equalIn, run_underlying hu, hk']
            · rename_i hu
              unfold eqS at ha; split at ha <;> simp_all
              subst ha; simp [Op.equalIn, run_underlying hu, strEq, beq_toListBytes]
            · cases hs
          simp only [Op.eqFields, hne, ne_eq, not_false_eq_true, if_true, Sem.run_bind, px, py, he, Result.andThen_ok]
          cases a with
          | false => simp
          | true => simp [ih c hc]
        · cases h
      · cases h
    · cases h
section
variable {P : Program} (w : World) (d : Nat) {t : TypeId}
theorem eq_bool (a b : Bool) (hu : P.underlying t = some .bool) : (Op.equalIn (d + 1) t (.bool a) (.bool b)).run P w = .ok (a == b) w := by
  simp [Op.equalIn, run_underlying hu]
theorem eq_ptr {e : TypeId} (p : Option Addr) (hu : P.underlying t = some (.pointer e)) : (Op.equalIn (d + 1) t (.pointer p) (.pointer none)).run P w = .ok p.isNone w := by
  cases p <;> simp [Op.equalIn, run_underlying hu]
theorem eq_slc {e : TypeId} (p : Option Addr) (l c l' c' : Nat) (hu : P.underlying t = some (.slice e)) : (Op.equalIn (d + 1) t (.slice p l c) (.slice none l' c')).run P w = .ok p.isNone w := by
  cases p <;> simp [Op.equalIn, run_underlying hu]
theorem eq_map {k e : TypeId} (p : Option Nat) (hu : P.underlying t = some (.map k e)) : (Op.equalIn (d + 1) t (.map p) (.map none)).run P w = .ok p.isNone w := by
  cases p <;> simp [Op.equalIn, run_underlying hu]
end
theorem eq_run {P : Program} {neg : Bool} {t : TypeId} {x y : Value} {ox oy : Operand} {w : World} {b : Bool} (h1 : x ≠ .nilIface) (h2 : ∀ c, x ≠ .agg c) (h3 : ∀ k n, x ≠ .int k n) (h4 : ∀ s, x ≠ .string s)
    (h5 : ∀ k n, x ≠ .float k n) (h6 : ∀ k n m, x ≠ .complex k n m) (h : (Op.equalIn 10000 t x y).run P w = .ok b w) :
    (do eqGuard (if neg then .neq else .eql) t ox oy x y; binOp (if neg then .neq else .eql) t x y : Sem Value).run P w = .ok (.bool (negB neg b)) w := by
  rw [Sem.run_bind, run_eqGuard_no _ _ _ _ _ _ h1 h2, Result.andThen_ok]
  cases neg
  · have e : binOp .eql t x y = (do pure (.bool (← Op.equal t x y))) := by
      cases x <;> first | rfl | exact absurd rfl (h3 _ _) | exact absurd rfl (h4 _) | exact absurd rfl (h5 _ _) | exact absurd rfl (h6 _ _ _)
    simp only [Bool.false_eq_true, if_false, e, Sem.run_bind, Op.equal, Op.maxDepth, h, Result.andThen_ok, Sem.run_pure, negB]
  · have e : binOp .neq t x y = (do pure (.bool (!(← Op.equal t x y)))) := by
      cases x <;> first | rfl | exact absurd rfl (h3 _ _) | exact absurd rfl (h4 _) | exact absurd rfl (h5 _ _) | exact absurd rfl (h6 _ _ _)
    simp only [if_true, e, Sem.run_bind, Op.equal, Op.maxDepth, h, Result.andThen_ok, Sem.run_pure, negB]
theorem eqF_sound {P : Program} {neg : Bool} {t : TypeId} {x y : Value} {ox oy : Operand} {K : Value → H → Prop} {σ : H} (h : eqF P neg t x y K σ) :
    ∃ v, (∀ w, (do eqGuard (if neg then .neq else .eql) t ox oy x y; binOp (if neg then .neq else .eql) t x y : Sem Value).run P w = .ok v w) ∧ K v σ := by
  unfold eqF at h
  split at h
  · rename_i a b hu
    exact ⟨_, fun w => eq_run (by simp) (by simp) (by simp) (by simp) (by simp) (by simp) (eq_bool w 9999 _ _ hu), h⟩
  · rename_i p hu
    exact ⟨_, fun w => eq_run (by simp) (by simp) (by simp) (by simp) (by simp) (by simp) (eq_ptr w 9999 _ hu), h⟩
  · rename_i p _ _ _ _ hu
    exact ⟨_, fun w => eq_run (by simp) (by simp) (by simp) (by simp) (by simp) (by simp) (eq_slc w 9999 _ _ _ _ _ hu), h⟩
  · rename_i p hu
    exact ⟨_, fun w => eq_run (by simp) (by simp) (by simp) (by simp) (by simp) (by simp) (eq_map w 9999 _ hu), h⟩
  · rename_i fs xs ys hu
    split at h
    · rename_i b hb
      refine ⟨_, fun w => ?_, h⟩
      unfold eqAgg at hb
      simp only [hu] at hb
      split at hb
      · rename_i h1 h2
        have hf : P.fieldsOf t = fs := by simp [Program.fieldsOf, hu]
        have hq : (Op.equalIn 10000 t (.agg ⟨xs⟩) (.agg ⟨ys⟩)).run P w = .ok b w := by
          rw [run_equalIn_struct w 9999 t ⟨xs⟩ ⟨ys⟩ (by rw [hf]; exact hu) h1, hf]
          exact eqFs_sound (d := 9998) w fs.toList b hb
        cases neg
        · simp only [Bool.false_eq_true, if_false, Sem.run_bind, run_eqGuard_agg w .eql t ox oy ⟨xs⟩ ⟨ys⟩ h2, Result.andThen_ok, run_eql_struct, hq, negB]
        · simp only [if_true, Sem.run_bind, run_eqGuard_agg w .neq t ox oy ⟨xs⟩ ⟨ys⟩ h2, Result.andThen_ok, run_neq_struct, hq, negB]
      · cases hb
    · exact h.elim
  · exact h.elim
theorem bopF_sound {P : Program} {op : BinOp} {t : TypeId} {x y : Value} {ox oy : Operand} {K : Value → H → Prop} {σ : H} (h : bopF P op t x y K σ) :
    ∃ v, (∀ w, (do eqGuard op t ox oy x y; binOp op t x y : Sem Value).run P w = .ok v w) ∧ K v σ := by
  unfold bopF at h
  split at h
  · rename_i k a k' b
    split at h
    · obtain ⟨v, hv, hk⟩ := shF_sound (P := P) (t := t) (k' := k') h
      exact ⟨v, fun w => by simp [run_eqGuard_no, hv w], hk⟩
    · obtain ⟨v, hv, hk⟩ := shF_sound (P := P) (t := t) (k' := k') h
      exact ⟨v, fun w => by simp [run_eqGuard_no, hv w], hk⟩
    · rename_i h1 h2
      split at h
      · rename_i hk
        have := sameK_eq hk; subst this
        obtain ⟨v, hv, hk⟩ := intF_sound (P := P) (t := t) h (fun e => h1 e) (fun e => h2 e)
        exact ⟨v, fun w => by simp [run_eqGuard_no, hv w], hk⟩
      · exact h.elim
  · obtain ⟨v, hv, hk⟩ := strF_sound (P := P) (t := t) h
    exact ⟨v, fun w => by simp [run_eqGuard_no, hv w], hk⟩
  · split at h
    · exact eqF_sound (neg := false) (ox := ox) (oy := oy) h
    · exact eqF_sound (neg := true) (ox := ox) (oy := oy) h
    · exact h.elim
end Go.HL

/- SILENT OPERATIONS, one by one. -/
namespace Go.HL
open Go

def idxW (s : ByteArray) (i : Int) (g : UInt8 → H → Prop) (σ : H) : Prop :=
  match (if 0 ≤ i then s[i.toNat]? else none) with
  | some b => g b σ
  | none => False
def bndOk (x : Option Int) (m : Nat) : Prop :=
  match x with
  | some x => 0 ≤ x ∧ x ≤ m
  | none => True
def bndAt (x : Option Int) (d : Nat) : Nat :=
  match x with
  | some x => x.toNat
  | none => d
def slBase (a : Option Addr) (l m n : Nat) : Option Addr := if m = l then a else a.map (·.add (l * n))

/-- an optional bound -/
def evB (e : Env) : Option Operand → Option (Option Int)
  | none => some none
  | some x => match evO e x with
    | some (.int _ n) => some (some n)
    | _ => none

def idxAddrF (P : Program) (t : TypeId) (x : Value) (i : Int) (K : Value → H → Prop) (σ : H) : Prop :=
  match P.underlying t, x with
  | some (.slice el), .slice base len _ => match sizeT P el with
    | some n => ptrW base (fun b o => ifW (0 ≤ i ∧ i < len) (K (.pointer (some ⟨b, o + i.toNat * n, none⟩)))) σ
    | none => False
  | some (.array len el), .pointer base => match sizeT P el with
    | some n => ptrW base (fun b o => ifW (0 ≤ i ∧ i < len) (K (.pointer (some ⟨b, o + i.toNat * n, none⟩)))) σ
    | none => False
  | _, _ => False
def slF (P : Program) (t : TypeId) (x : Value) (lo hi mx : Option Int) (K : Value → H → Prop) (σ : H) : Prop :=
  match P.underlying t, x, mx with
  | some .string, .string s, none => ifW (bndOk hi s.size ∧ bndOk lo (bndAt hi s.size)) (K (.string (s.extract (bndAt lo 0) (bndAt hi s.size)))) σ
  | some (.slice el), .slice a len cap, none => match sizeT P el with
    | some n => ifW (bndOk hi cap ∧ bndOk lo (bndAt hi len)) (K (.slice (slBase a (bndAt lo 0) cap n) (bndAt hi len - bndAt lo 0) (cap - bndAt lo 0))) σ
    | none => False
  | some (.slice el), .slice a _ cap, some m => match sizeT P el, hi with
    | some n, some h => ifW (bndOk (some m) cap ∧ bndOk (some h) m.toNat ∧ bndOk lo h.toNat) (K (.slice (slBase a (bndAt lo 0) m.toNat n) (h.toNat - bndAt lo 0) (m.toNat - bndAt lo 0))) σ
    | _, _ => False
  | some (.array N el), .pointer base, none => match sizeT P el with
    | some n => ptrW base (fun b o => ifW (bndOk hi N ∧ bndOk lo (bndAt hi N)) (K (.slice (slBase (some ⟨b, o, none⟩) (bndAt lo 0) N n) (bndAt hi N - bndAt lo 0) (N - bndAt lo 0)))) σ
    | none => False
  | _, _, _ => False
def lenF (P : Program) (t : TypeId) (x : Value) : Option Value :=
  match P.underlying t, x with
  | some .string, .string s => some (.int .i64 s.size)
  | some (.slice _), .slice _ n _ => some (.int .i64 n)
  | some (.array n _), _ => some (.int .i64 n)
  | some (.pointer arr), _ => match P.underlying arr with
    | some (.array n _) => some (.int .i64 n)
    | _ => none
  | _, _ => none
def builtF (P : Program) (b : Builtin) (ts : Array TypeId) (vs : List Value) : Option Value :=
  match b, vs with
  | .len, [x] => match ts.toList with
    | t :: _ => lenF P t x
    | [] => none
  | .cap, [.slice _ _ c] => match ts.toList with
    | t :: _ => match P.underlying t with
      | some (.slice _) => some (.int .i64 c)
      | _ => none
    | [] => none
  | .min, [.int k x, .int _ y] => some (.int k (if y < x then y else x))
  | .max, [.int k x, .int _ y] => some (.int k (if y > x then y else x))
  | _, _ => none
def convF (P : Program) (s d : TypeId) (x : Value) : Option Value :=
  match P.underlying s, P.underlying d, x with
  | some _, some (.int k), .int _ n => some (.int k (k.wrap n))
  | some _, some .string, .string b => some (.string b)
  | _, _, _ => none
def unF (op : UnOp) (x : Value) : Option Value :=
  match op, x with
  | .not, .bool b => some (.bool !b)
  | .neg, .int k n => some (.int k (k.wrap (0 - n)))
  | _, _ => none
def concT (P : Program) (t : TypeId) : Bool :=
  match P.underlying t with
  | some (.interface _) => false
  | some _ => true
  | none => false
def evP (e : Env) : List (Nat × Operand) → Option (List (Nat × Value))
  | [] => some []
  | (i, x) :: r => match evO e x with
    | some v => match evP e r with
      | some vs => some ((i, v) :: vs)
      | none => none
    | none => none
def arrL (a : Array Value) : List Value := match a with | ⟨l⟩ => l

/-- a value of one cell -/
def oneK (v : Value) (g : H → Prop) (σ : H) : Prop :=
  match v with
  | .agg _ => False
  | .tuple _ => False
  | _ => g σ
/-- parts of an aggregate, each as its cells -/
def wrapP (P : Program) (ty : Nat → Option TypeId) : List (Nat × Value) → (List (Nat × Value) → H → Prop) → H → Prop
  | [], k, σ => k [] σ
  | (i, v) :: r, k, σ => match ty i with
    | none => False
    | some t => match isAggT P t with
      | some true => wrapP P ty r (fun us => k ((i, v) :: us)) σ
      | some false => oneK v (wrapP P ty r (fun us => k ((i, .agg ⟨[v]⟩) :: us))) σ
      | none => False
def partTy (P : Program) (t : TypeId) (i : Nat) : Option TypeId :=
  match P.underlying t with
  | some (.struct fs) => match fs.toList[i]? with
    | some f => some f.type
    | none => none
  | some (.array _ e) => some e
  | some (.slice e) => some e
  | _ => none
/-- what is looked at must not be nil -/
def nilF (v : Value) (K : Value → H → Prop) (σ : H) : Prop :=
  match v with
  | .pointer p => ptrW p (fun b o => K (.pointer (some ⟨b, o, none⟩))) σ
  | .func (.func f) a c => K (.func (.func f) a c) σ
  | .func (.yield f) a c => K (.func (.yield f) a c) σ
  | _ => False

def silF (P : Program) (e : Env) (K : Value → H → Prop) (o : Op) (σ : H) : Prop :=
  match o with
  | .move x => oW (evO e x) K σ
  | .assign x => oW (evO e x) K σ
  | .pick c a b => match evO e c with
    | some (.bool t) => brW t (oW (evO e a) K) (oW (evO e b) K) σ
    | _ => False
  | .nilCheck x => match evO e x with
    | some v => nilF v K σ
    | none => False
  | .fieldAddr s x f => match evO e x, fOff P s f with
    | some (.pointer p), some n => ptrW p (fun b o => K (.pointer (some ⟨b, o + n, none⟩))) σ
    | _, _ => False
  | .field s x f => match evO e x with
    | some (.agg ⟨l⟩) => oW (fieldV P s l f) K σ
    | _ => False
  | .extract x i => match evO e x with
    | some (.tuple ⟨l⟩) => oW l[i]? K σ
    | _ => False
  | .binOp op t x y _ => match evO e x, evO e y with
    | some u, some v => bopF P op t u v K σ
    | _, _ => False
  | .unOp op _ x => match evO e x with
    | some u => oW (unF op u) K σ
    | _ => False
  | .convert s d x => match evO e x with
    | some u => oW (convF P s d u) K σ
    | _ => False
  | .makeInterface t x => match evO e x, concT P t with
    | some u, true => K (.iface t u) σ
    | _, _ => False
  | .makeFunc fn ⟨xs⟩ ⟨ys⟩ => match evL e xs, evL e ys with
    | some us, some vs => K (.func fn ⟨us⟩ ⟨vs⟩) σ
    | _, _ => False
  | .build t ⟨ps⟩ => match evP e ps with
    | some us => wrapP P (partTy P t) us (fun us σ => match P.built t us with
      | some cs => K (.agg ⟨arrL cs⟩) σ
      | none => False) σ
    | none => False
  | .index t x i => match evO e x, evO e i, P.underlying t with
    | some (.string s), some (.int _ i), some .string => idxW s i (fun b => K (.int .u8 b.toNat)) σ
    | _, _, _ => False
  | .indexAddr t x i => match evO e x, evO e i with
    | some u, some (.int _ i) => idxAddrF P t u i K σ
    | _, _ => False
  | .slice t x lo hi mx => match evO e x, evB e lo, evB e hi, evB e mx with
    | some u, some lo, some hi, some mx => slF P t u lo hi mx K σ
    | _, _, _, _ => False
  | .call { callee := .builtin b, args := ⟨xs⟩, argTypes := ts } => match evL e xs with
    | some vs => oW (builtF P b ts vs) K σ
    | none => False
  | _ => False

section
variable {P : Program}
theorem arrL_eq (a : Array Value) : (⟨arrL a⟩ : Array Value) = a := by cases a; rfl
theorem ptrW_get {p : Option Addr} {g : Nat → Nat → H → Prop} {σ : H} (h : ptrW p g σ) : ∃ b o, p = some ⟨b, o, none⟩ ∧ g b o σ := by
  unfold ptrW at h
  split at h
  · exact ⟨_, _, rfl, h⟩
  · exact h.elim
theorem oW_get {v : Option Value} {K : Value → H → Prop} {σ : H} (h : oW v K σ) : ∃ u, v = some u ∧ K u σ := by
  unfold oW at h
  split at h
  · exact ⟨_, rfl, h⟩
  · exact h.elim
theorem run_fieldAt {s : TypeId} {f n b o : Nat} (h : fOff P s f = some n) (w : World) : (Instr.fieldAt s (.pointer (some ⟨b, o, none⟩)) f).run P w = .ok (.pointer (some ⟨b, o + n, none⟩)) w := by
  unfold fOff at h
  split at h
  · rename_i fs hu
    split at h
    · rename_i fd hfd
      split at h
      · rename_i i hi
        split at h
        · cases h
        · rename_i m hm
          cases h
          have hs : sizeT P fd.type = some (m + 1) := by simp [sizeT, hi, hm]
          have hfd' : fs[f]? = some fd := by simpa using hfd
          simp [Instr.fieldAt, run_underlying hu, hfd', Instr.sureAddr, fieldPlace, run_sizeOf hs, add_none]
      · cases h
    · cases h
  · cases h
theorem run_field {s : TypeId} {l : List Value} {f : Nat} {v : Value} (h : fieldV P s l f = some v) (w : World) : (Instr.field s (.agg ⟨l⟩) f).run P w = .ok v w := by
  unfold fieldV at h
  split at h
  · rename_i fs hu
    split at h
    · rename_i fd hfd
      have hfd' : fs[f]? = some fd := by simpa using hfd
      simp [Instr.field, run_underlying hu, hfd', asAgg, run_part h]
    · cases h
  · cases h
theorem run_sliceBound {k : IntKind} {n : Int} {y : Nat} (c : BoundsCode) (h : 0 ≤ n ∧ n ≤ y) (w : World) : (Instr.sliceBound (.int k n) y c).run P w = .ok n.toNat w := by
  simp [Instr.sliceBound, asIntOf, h]
theorem evB_val {N : Nat} {e : Env} {a : Act} (fr : FR N e a) {x : Option Operand} {b : Option Int} (h : evB e x = some b) :
    (x.map a.eval = none ∧ b = none) ∨ ∃ k n, x.map a.eval = some (.int k n) ∧ b = some n := by
  cases x with
  | none => simp [evB] at h; exact .inl ⟨rfl, h.symm⟩
  | some x =>
    simp only [evB] at h
    split at h
    · rename_i k n hn; cases h; exact .inr ⟨k, n, by simp [fr.evO hn], rfl⟩
    · cases h
theorem evP_val {N : Nat} {e : Env} {a : Act} (fr : FR N e a) : ∀ {ps : List (Nat × Operand)} {us : List (Nat × Value)}, evP e ps = some us → ps.map (fun (i, x) => (i, a.eval x)) = us := by
  intro ps
  induction ps with
  | nil => intro us h; simp [evP] at h; simp [h]
  | cons p ps ih =>
    intro us h
    obtain ⟨i, x⟩ := p
    simp only [evP] at h
    split at h
    · rename_i v hv
      split at h
      · rename_i vs hvs; cases h; simp [fr.evO hv, ih hvs]
      · cases h
    · cases h

theorem idxAddrF_sound {t : TypeId} {x : Value} {k : IntKind} {i : Int} {K : Value → H → Prop} {σ : H} (h : idxAddrF P t x i K σ) :
    ∃ v, (∀ w, (Instr.indexAt t x (.int k i)).run P w = .ok v w) ∧ K v σ := by
  unfold idxAddrF at h
  split at h
  · rename_i el base len _ hu
    split at h
    · rename_i n hn
      obtain ⟨b, o, rfl, hc, h⟩ := ptrW_get h
      refine ⟨_, fun w => ?_, h⟩
      simp [Instr.indexAt, asIntOf, run_underlying hu, hc, run_sizeOf hn, add_none]
    · exact h.elim
  · rename_i len el base hu
    split at h
    · rename_i n hn
      obtain ⟨b, o, rfl, hc, h⟩ := ptrW_get h
      refine ⟨_, fun w => ?_, h⟩
      simp [Instr.indexAt, asIntOf, Instr.sureAddr, run_underlying hu, hc, run_sizeOf hn, add_none]
    · exact h.elim
  · exact h.elim

/-- the bounds of a slice expression, as the model reads them -/
theorem run_bounds2 {isSl : Bool} {len cap : Nat} {lo hi : Option Value} {l h : Option Int} (hl : (lo = none ∧ l = none) ∨ ∃ k n, lo = some (.int k n) ∧ l = some n) (hh : (hi = none ∧ h = none) ∨ ∃ k n, hi = some (.int k n) ∧ h = some n)
    (b1 : bndOk h cap) (b2 : bndOk l (bndAt h len)) (w : World) : (Instr.sliceBounds isSl len cap lo hi none).run P w = .ok (bndAt l 0, bndAt h len, cap) w := by
  rcases hh with ⟨rfl, rfl⟩ | ⟨k, n, rfl, rfl⟩ <;> rcases hl with ⟨rfl, rfl⟩ | ⟨k', n', rfl, rfl⟩ <;> simp only [bndOk, bndAt] at b1 b2 ⊢ <;>
    simp only [Instr.sliceBounds, Instr.sliceBound, asIntOf, Sem.run_bind, Sem.run_pure, Result.andThen_ok, Sem.run_ite, b1, b2, and_self, if_true]
theorem run_bounds3 {len cap : Nat} {lo hi mx : Option Value} {l : Option Int} {h m : Int} {k1 k2 : IntKind} (hl : (lo = none ∧ l = none) ∨ ∃ k n, lo = some (.int k n) ∧ l = some n) (hh : hi = some (.int k1 h)) (hm : mx = some (.int k2 m))
    (b0 : bndOk (some m) cap) (b1 : bndOk (some h) m.toNat) (b2 : bndOk l h.toNat) (w : World) : (Instr.sliceBounds true len cap lo hi mx).run P w = .ok (bndAt l 0, h.toNat, m.toNat) w := by
  subst hh hm
  have b1' : 0 ≤ h ∧ h ≤ (m.toNat : Int) := b1
  rcases hl with ⟨rfl, rfl⟩ | ⟨k', n', rfl, rfl⟩ <;> simp only [bndOk, bndAt] at b0 b2 ⊢
  · simp only [Instr.sliceBounds, Instr.sliceBound, asIntOf, Sem.run_bind, Sem.run_pure, Result.andThen_ok, Sem.run_ite, b0, b1', and_self, if_true]
  · simp only [Instr.sliceBounds, Instr.sliceBound, asIntOf, Sem.run_bind, Sem.run_pure, Result.andThen_ok, Sem.run_ite, b0, b1', b2, and_self, if_true]

theorem slF_sound {t : TypeId} {x : Value} {lo hi mx : Option Value} {l h m : Option Int} {K : Value → H → Prop} {σ : H} (hl : (lo = none ∧ l = none) ∨ ∃ k n, lo = some (.int k n) ∧ l = some n) (hh : (hi = none ∧ h = none) ∨ ∃ k n, hi = some (.int k n) ∧ h = some n)
    (hm : (mx = none ∧ m = none) ∨ ∃ k n, mx = some (.int k n) ∧ m = some n) (hf : slF P t x l h m K σ) : ∃ v, (∀ w, (Instr.sliceAt t x lo hi mx).run P w = .ok v w) ∧ K v σ := by
  unfold slF at hf
  split at hf
  · rename_i s hu
    obtain ⟨rfl, _⟩ : mx = none ∧ _ := by rcases hm with h | ⟨_, _, _, h⟩; exact h; cases h
    obtain ⟨⟨b1, b2⟩, hf⟩ := hf
    refine ⟨_, fun w => ?_, hf⟩
    simp [Instr.sliceAt, Instr.slice, run_underlying hu, run_bounds2 hl hh b1 b2]
  · rename_i el a len cap hu
    obtain ⟨rfl, _⟩ : mx = none ∧ _ := by rcases hm with h | ⟨_, _, _, h⟩; exact h; cases h
    split at hf
    · rename_i n hn
      obtain ⟨⟨b1, b2⟩, hf⟩ := hf
      refine ⟨_, fun w => ?_, hf⟩
      simp [Instr.sliceAt, Instr.slice, run_underlying hu, run_bounds2 hl hh b1 b2, run_sizeOf hn, slBase]
    · exact hf.elim
  · rename_i el a len cap m hu
    split at hf
    · rename_i n hh' hn
      obtain ⟨⟨b0, b1, b2⟩, hf⟩ := hf
      obtain ⟨k2, m', rfl, e⟩ : ∃ k n, mx = some (.int k n) ∧ some m = some n := by rcases hm with ⟨_, h⟩ | h; cases h; exact h
      cases e
      obtain ⟨k1, h1, rfl, e⟩ : ∃ k n, hi = some (.int k n) ∧ some hh' = some n := by rcases hh with ⟨_, h⟩ | h; cases h; exact h
      cases e
      refine ⟨_, fun w => ?_, hf⟩
      simp [Instr.sliceAt, Instr.slice, run_underlying hu, run_bounds3 hl rfl rfl b0 b1 b2, run_sizeOf hn, slBase]
    · exact hf.elim
  · rename_i N el base hu
    obtain ⟨rfl, _⟩ : mx = none ∧ _ := by rcases hm with h | ⟨_, _, _, h⟩; exact h; cases h
    split at hf
    · rename_i n hn
      obtain ⟨b, o, rfl, ⟨b1, b2⟩, hf⟩ := ptrW_get hf
      refine ⟨_, fun w => ?_, hf⟩
      simp [Instr.sliceAt, Instr.sureAddr, run_underlying hu, run_bounds2 hl hh b1 b2, run_sizeOf hn, slBase]
      split <;> rfl
    · exact hf.elim
  · exact hf.elim

theorem builtF_sound {b : Builtin} {ts : Array TypeId} {vs : List Value} {v : Value} {ty : TypeId} {cs : Array Bool} (h : builtF P b ts vs = some v) (w : World) : (builtin b ts ty cs ⟨vs⟩).run P w = .ok (.value v) w := by
  unfold builtF at h
  split at h
  · rename_i x
    split at h
    · rename_i t ts' hts
      have ht : ts[0]? = some t := by
        have : ts.toList[0]? = some t := by rw [hts]; rfl
        simpa using this
      unfold lenF at h
      split at h
      · rename_i hu; cases h; simp [builtin, Builtin.len_, ht, run_underlying hu, goInt]
      · rename_i hu; cases h; simp [builtin, Builtin.len_, ht, run_underlying hu, goInt]
      · rename_i hu; cases h; simp [builtin, Builtin.len_, ht, run_underlying hu, goInt]
      · rename_i arr hu
        split at h
        · rename_i hu'; cases h; simp [builtin, Builtin.len_, ht, run_underlying hu, run_underlying hu', goInt]
        · cases h
      · cases h
    · cases h
  · split at h
    · rename_i t ts' hts
      have ht : ts[0]? = some t := by
        have : ts.toList[0]? = some t := by rw [hts]; rfl
        simpa using this
      split at h
      · rename_i hu; cases h; simp [builtin, Builtin.cap_, ht, run_underlying hu, goInt]
      · cases h
    · cases h
  · cases h; simp [builtin, Builtin.min_, Builtin.min2]
  · cases h; simp [builtin, Builtin.max_, Builtin.max2]
  · cases h

theorem sil_of {o : Oper} {a : Act} {s : Sem Value} {v : Value} (he : execOp a.eval o = (do pure (.value (← s)))) (h : ∀ w, s.run P w = .ok v w) : Sil P (execOp a.eval o) v := by
  intro w; rw [he]; simp [h w]

theorem oneK_get {v : Value} {g : H → Prop} {σ : H} (h : oneK v g σ) : v.cells = #[v] ∧ v.oneCell' = true ∧ g σ := by
  unfold oneK at h
  split at h
  · exact h.elim
  · exact h.elim
  · rename_i h1 h2
    cases v <;> first | exact absurd rfl (h1 _) | exact absurd rfl (h2 _) | exact ⟨rfl, rfl, h⟩
theorem wrapP_get {ty : Nat → Option TypeId} : ∀ {us : List (Nat × Value)} {k : List (Nat × Value) → H → Prop} {σ : H}, wrapP P ty us k σ → ∃ us', us'.map (fun x => (x.1, x.2.cells)) = us.map (fun x => (x.1, x.2.cells)) ∧ k us' σ := by
  intro us
  induction us with
  | nil => intro k σ h; exact ⟨[], rfl, h⟩
  | cons x us ih =>
    obtain ⟨i, v⟩ := x
    intro k σ h
    simp only [wrapP] at h
    split at h
    · exact h.elim
    · split at h
      · obtain ⟨us', h1, h2⟩ := ih h
        exact ⟨_, by simp [h1], h2⟩
      · obtain ⟨hv, _, h⟩ := oneK_get h
        obtain ⟨us', h1, h2⟩ := ih h
        refine ⟨_, ?_, h2⟩
        rw [List.map_cons, List.map_cons, h1, hv]; rfl
      · exact h.elim
theorem fill_congr {place : Nat → Option (Nat × Nat)} : ∀ (us us' : List (Nat × Value)) (cells : Array Value), us'.map (fun x => (x.1, x.2.cells)) = us.map (fun x => (x.1, x.2.cells)) → Instr.fill place cells us' = Instr.fill place cells us := by
  intro us
  induction us with
  | nil => intro us' cells h; simp at h; subst h; rfl
  | cons x us ih =>
    obtain ⟨i, v⟩ := x
    intro us' cells h
    cases us' with
    | nil => simp at h
    | cons y us' =>
      obtain ⟨j, u⟩ := y
      simp only [List.map_cons, List.cons.injEq, Prod.mk.injEq] at h
      obtain ⟨⟨rfl, hc⟩, h⟩ := h
      simp only [Instr.fill, hc]
      split
      · rfl
      · split
        · rfl
        · exact ih us' _ h
theorem built_congr {t : TypeId} {us us' : List (Nat × Value)} (h : us'.map (fun x => (x.1, x.2.cells)) = us.map (fun x => (x.1, x.2.cells))) : P.built t us' = P.built t us := by
  unfold Program.built
  split
  · split
    · exact fill_congr _ _ _ h
    · rfl
  · split
    · exact fill_congr _ _ _ h
    · rfl
  · rfl

theorem silF_sound {N : Nat} {e : Env} {a : Act} (fr : FR N e a) {o : Oper} {K : Value → H → Prop} {σ : H} (h : silF P e K o.op σ) : ∃ v, Sil P (execOp a.eval o) v ∧ K v σ := by
  obtain ⟨dst, op, type, pos, after, guard⟩ := o
  simp only at h
  unfold silF at h
  split at h
  · obtain ⟨u, hu, h⟩ := oW_get h
    exact ⟨u, fun w => by simp [execOp, fr.evO hu], h⟩
  · obtain ⟨u, hu, h⟩ := oW_get h
    exact ⟨u, fun w => by simp [execOp, fr.evO hu], h⟩
  · split at h
    · rename_i c x y _ t ht
      cases t with
      | true =>
        obtain ⟨u, hu, h⟩ := oW_get h
        exact ⟨u, fun w => by simp [execOp, fr.evO ht, fr.evO hu, asBool], h⟩
      | false =>
        obtain ⟨u, hu, h⟩ := oW_get h
        exact ⟨u, fun w => by simp [execOp, fr.evO ht, fr.evO hu, asBool], h⟩
    · exact h.elim
  · split at h
    · rename_i v hv
      unfold nilF at h
      split at h
      · obtain ⟨b, o, rfl, h⟩ := ptrW_get h
        exact ⟨_, fun w => by simp [execOp, fr.evO hv], h⟩
      · exact ⟨_, fun w => by simp [execOp, fr.evO hv], h⟩
      · exact ⟨_, fun w => by simp [execOp, fr.evO hv], h⟩
      · exact h.elim
    · exact h.elim
  · split at h
    · rename_i p n hp hn
      obtain ⟨b, o, rfl, h⟩ := ptrW_get h
      exact ⟨_, fun w => by simp [execOp, fr.evO hp, run_fieldAt hn], h⟩
    · exact h.elim
  · split at h
    · rename_i l hl
      obtain ⟨u, hu, h⟩ := oW_get h
      exact ⟨u, fun w => by simp [execOp, fr.evO hl, run_field hu], h⟩
    · exact h.elim
  · split at h
    · rename_i l hl
      obtain ⟨u, hu, h⟩ := oW_get h
      exact ⟨u, fun w => by simp [execOp, fr.evO hl, Instr.extract, hu], h⟩
    · exact h.elim
  · split at h
    · rename_i op' t x y _ _ _ u v hx hy
      obtain ⟨r, hr, h⟩ := bopF_sound (ox := x) (oy := y) h
      exact ⟨r, sil_of (s := do eqGuard op' t x y u v; binOp op' t u v) (by simp [execOp, fr.evO hx, fr.evO hy]) hr, h⟩
    · exact h.elim
  · split at h
    · rename_i u hu
      obtain ⟨r, hr, h⟩ := oW_get h
      refine ⟨r, fun w => ?_, h⟩
      unfold unF at hr
      split at hr <;> cases hr <;> simp [execOp, fr.evO hu, Op.unary, Op.intArith]
    · exact h.elim
  · split at h
    · rename_i u hu
      obtain ⟨r, hr, h⟩ := oW_get h
      refine ⟨r, fun w => ?_, h⟩
      unfold convF at hr
      split at hr
      · rename_i h1 h2; cases hr; simp [execOp, fr.evO hu, convert, run_underlying h1, run_underlying h2, Conv.intToInt]
      · rename_i h1 h2; cases hr; simp [execOp, fr.evO hu, convert, run_underlying h1, run_underlying h2]
      · cases hr
    · exact h.elim
  · split at h
    · rename_i t x _ _ u hu hc
      refine ⟨_, fun w => ?_, h⟩
      unfold concT at hc
      split at hc
      · cases hc
      · rename_i d hne hd
        have : (Instr.makeInterface t u).run P w = .ok (.iface t u) w := by
          simp only [Instr.makeInterface, Sem.run_bind, run_underlying hd, Result.andThen_ok]
          cases d <;> first | rfl | exact absurd rfl (hne _)
        simp [execOp, fr.evO hu, this]
      · cases hc
    · exact h.elim
  · split at h
    · rename_i xs ys _ us vs h1 h2
      refine ⟨_, fun w => ?_, h⟩
      simp [execOp, Instr.makeFunc, fr.evL h1, fr.evL h2]
    · exact h.elim
  · split at h
    · rename_i us h1
      obtain ⟨us', hus, h⟩ := wrapP_get h
      split at h
      · rename_i cs h2
        refine ⟨_, fun w => ?_, h⟩
        rw [arrL_eq]
        have h3 := evP_val fr h1
        rw [built_congr hus] at h2
        have := run_build w _ ⟨us⟩ cs h2
        simp only [execOp, Sem.run_bind]
        rw [show (Array.map (fun (x : Nat × Operand) => (x.1, a.eval x.2)) ⟨_⟩ : Array (Nat × Value)) = ⟨us⟩ from by apply Array.ext'; simpa using h3, this]
        rfl
      · exact h.elim
    · exact h.elim
  · split at h
    · rename_i s k i hx hi hu
      unfold idxW at h
      split at h
      · rename_i b hb
        refine ⟨_, fun w => ?_, h⟩
        simp [execOp, fr.evO hx, fr.evO hi, Instr.index, asIntOf, run_underlying hu, hb]
      · exact h.elim
    · exact h.elim
  · split at h
    · rename_i u k i hx hi
      obtain ⟨v, hv, h⟩ := idxAddrF_sound (k := k) h
      exact ⟨v, fun w => by simp [execOp, fr.evO hx, fr.evO hi, hv w], h⟩
    · exact h.elim
  · split at h
    · rename_i u lo hi mx hx hlo hhi hmx
      obtain ⟨v, hv, h⟩ := slF_sound (evB_val fr hlo) (evB_val fr hhi) (evB_val fr hmx) h
      exact ⟨v, fun w => by simp [execOp, fr.evO hx, hv w], h⟩
    · exact h.elim
  · split at h
    · rename_i vs hvs
      obtain ⟨r, hr, h⟩ := oW_get h
      refine ⟨r, fun w => ?_, h⟩
      simp only [execOp, Sem.run_bind, resolve, Sem.run_pure, Result.andThen_ok, invoke]
      rw [show (Array.map a.eval ⟨_⟩ : Array Value) = ⟨vs⟩ from by apply Array.ext'; simpa using fr.evL hvs]
      exact builtF_sound hr w
    · exact h.elim
  · exact h.elim
end
end Go.HL

/- READING, MAKING A BLOCK, DOING; A REGION AS A FORMULA. -/
namespace Go.HL
open Go

/-! ### Readers -/
def rdC (b o : Nat) (σ : H) : Option Value :=
  match σ b with
  | some (.cells ⟨c⟩ _ _) => c[o]?
  | _ => none
def rdA (n b o : Nat) (σ : H) : Option Value :=
  match σ b with
  | some (.cells ⟨c⟩ _ _) => if o + n ≤ c.length then some (.agg ⟨(c.drop o).take n⟩) else none
  | _ => none
def okV (ok : Bool) (v : Value) (b : Bool) : Value :=
  match ok with
  | true => .tuple ⟨[v, .bool b]⟩
  | false => v
def rdM (d : TypeDesc) (z : Value) (ok : Bool) (m : Option Nat) (k : Value) (σ : H) : Option Value :=
  match m with
  | none => some (okV ok z false)
  | some r => match σ r with
    | some (.map es _) => match Instr.findNow d k es.toList 0 with
      | some (some (_, v)) => some (okV ok v true)
      | some none => some (okV ok z false)
      | none => none
    | _ => none
def rdLen (m : Option Nat) (σ : H) : Option Value :=
  match m with
  | none => some (.int .i64 0)
  | some r => match σ r with
    | some (.map es _) => some (.int .i64 es.size)
    | _ => none
def scalD : TypeDesc → Bool
  | .int _ => true
  | .string => true
  | .bool => true
  | _ => false

def rdOp (P : Program) (e : Env) (K : (H → Option Value) → H → Prop) (o : Op) (σ : H) : Prop :=
  match o with
  | .load t x => match evO e x, isAggT P t, sizeT P t with
    | some (.pointer p), some false, _ => ptrW p (fun b o => K (rdC b o)) σ
    | some (.pointer p), some true, some n => ptrW p (fun b o => K (rdA n b o)) σ
    | _, _, _ => False
  | .lookup t x i ok => match evO e x, evO e i, P.underlying t with
    | some (.map m), some k, some (.map kt et) => match P.underlying kt, zeroT P et with
      | some d, some z => match scalD d with
        | true => K (rdM d z ok m k) σ
        | false => False
      | _, _ => False
    | _, _, _ => False
  | .call { callee := .builtin .len, args := ⟨[x]⟩, argTypes := ⟨t :: _⟩ } => match evO e x, P.underlying t with
    | some (.map m), some (.map _ _) => K (rdLen m) σ
    | _, _ => False
  | _ => False

section
variable {P : Program}
theorem le_cells {σ : H} {w : World} (h : σ.le w) {b : Nat} {c : List Value} {t : TypeId} {fz : Nat × Nat} (hb : σ b = some (.cells ⟨c⟩ t fz)) (o : Nat) : w.cell? ⟨b, o, none⟩ = c[o]? := by
  simp [World.cell?, h b _ hb]
theorem run_sureAddr (a : Addr) (w : World) : (Instr.sureAddr (.pointer (some a))).run P w = .ok a w := rfl
theorem rdC_sound {t : TypeId} (ha : isAggT P t = some false) {b o : Nat} {σ : H} {v : Value} (hr : rdC b o σ = some v) {w : World} (hw : σ.le w) :
    (Instr.loadAt t (.pointer (some ⟨b, o, none⟩))).run P w = .ok v w := by
  unfold rdC at hr
  split at hr
  · rename_i c t' fz hb
    simp only [Instr.loadAt, Sem.run_bind, run_sureAddr, Result.andThen_ok, loadVar, run_isAgg ha, Bool.false_eq_true, if_false, run_load, le_cells hw hb, hr]
  · cases hr
theorem rdA_sound {t : TypeId} (ha : isAggT P t = some true) {n b o : Nat} (hn : sizeT P t = some n) {σ : H} {v : Value} (hr : rdA n b o σ = some v) {w : World} (hw : σ.le w) :
    (Instr.loadAt t (.pointer (some ⟨b, o, none⟩))).run P w = .ok v w := by
  unfold rdA at hr
  split at hr
  · rename_i c t' fz hb
    split at hr
    · rename_i hle
      cases hr
      have hl : (loadCells ⟨b, o, none⟩ n).run P w = .ok ⟨(c.drop o).take n⟩ w := by
        have := run_loadCells_list (P := P) (w := w) ⟨b, o, none⟩ ((c.drop o).take n) (fun j v hj => by
          rw [add_none, le_cells hw hb]
          rw [List.getElem?_take] at hj
          split at hj
          · rw [List.getElem?_drop] at hj; exact hj
          · cases hj)
        rw [show ((c.drop o).take n).length = n from by simp; omega] at this
        exact this
      simp only [Instr.loadAt, Sem.run_bind, run_sureAddr, Result.andThen_ok, loadVar, run_isAgg ha, if_true, run_sizeOf hn, hl, Sem.run_pure]
    · cases hr
  · cases hr
theorem run_checkKey {b : Bool} {n : Nat} {t : TypeId} {d : TypeDesc} {v : Value} (hu : P.underlying t = some d) (hd : scalD d = true) (w : World) : (Instr.checkKey b (n + 1) t v).run P w = .ok () w := by
  cases d <;> first | (cases hd; done) | simp [Instr.checkKey, run_underlying hu]
theorem run_findKey {t : TypeId} {d : TypeDesc} {k : Value} {es : List MapEntry} {r : Option (Nat × Value)} (hu : P.underlying t = some d) (hr : Instr.findNow d k es 0 = some r) (w : World) :
    (Instr.findKey t k es).run P w = .ok r w := by
  simp [Instr.findKey, run_underlying hu, hr]
theorem rdM_sound {t kt et : TypeId} {d : TypeDesc} {z k : Value} {ok : Bool} {m : Option Nat} (ht : P.underlying t = some (.map kt et)) (hd : P.underlying kt = some d) (hs : scalD d = true) (hz : zeroT P et = some z) {σ : H} {v : Value}
    (hr : rdM d z ok m k σ = some v) {w : World} (hw : σ.le w) : (Instr.lookup t (.map m) k ok).run P w = .ok v w := by
  unfold rdM at hr
  split at hr
  · cases hr
    have h1 : Instr.findNow d k [] 0 = some none := rfl
    cases ok <;> simp [Instr.lookup, run_underlying ht, run_checkKey hd hs, run_findKey hd h1, run_zeroValue hz, okV]
  · rename_i r
    split at hr
    · rename_i es c hb
      have hg : (getObj r).run P w = .ok (.map es c) w := by simp [getObj, Sem.run, hw r _ hb]
      split at hr
      · rename_i i u hf
        cases hr
        cases ok <;> simp [Instr.lookup, run_underlying ht, hg, run_checkKey hd hs, run_findKey hd hf, okV]
      · rename_i hf
        cases hr
        cases ok <;> simp [Instr.lookup, run_underlying ht, hg, run_checkKey hd hs, run_findKey hd hf, run_zeroValue hz, okV]
      · cases hr
    · cases hr

theorem rdOp_sound {N : Nat} {e : Env} {a : Act} (fr : FR N e a) {o : Oper} {K : (H → Option Value) → H → Prop} {σ : H} (h : rdOp P e K o.op σ) :
    ∃ r, (∀ σ' v, r σ' = some v → RdS P (execOp a.eval o) σ' v) ∧ K r σ := by
  obtain ⟨dst, op, type, pos, after, guard⟩ := o
  simp only at h
  unfold rdOp at h
  split at h
  · split at h
    · rename_i p hp ha
      obtain ⟨b, o, rfl, h⟩ := ptrW_get h
      exact ⟨_, fun σ' v hr w hw => by simp [execOp, fr.evO hp, rdC_sound ha hr hw], h⟩
    · rename_i p n hp ha hn
      obtain ⟨b, o, rfl, h⟩ := ptrW_get h
      exact ⟨_, fun σ' v hr w hw => by simp [execOp, fr.evO hp, rdA_sound ha hn hr hw], h⟩
    · exact h.elim
  · split at h
    · rename_i m k kt et hm hk ht
      split at h
      · rename_i d z hd hz
        split at h
        · rename_i hs
          exact ⟨_, fun σ' v hr w hw => by simp [execOp, fr.evO hm, fr.evO hk, rdM_sound ht hd hs hz hr hw], h⟩
        · exact h.elim
      · exact h.elim
    · exact h.elim
  · split at h
    · rename_i m _ _ hm ht
      refine ⟨_, fun σ' v hr w hw => ?_, h⟩
      unfold rdLen at hr
      split at hr
      · cases hr
        simp [execOp, resolve, invoke, builtin, Builtin.len_, fr.evO hm, run_underlying ht, goInt]
      · rename_i r
        split at hr
        · rename_i es c hb
          cases hr
          have hg : (getObj r).run P w = .ok (.map es c) w := by simp [getObj, Sem.run, hw r _ hb]
          simp [execOp, resolve, invoke, builtin, Builtin.len_, fr.evO hm, run_underlying ht, hg, goInt]
        · cases hr
    · exact h.elim
  · exact h.elim
end

/-! ### Making a block -/
def ptrTo (b : Nat) : Value := .pointer (some ⟨b, 0, none⟩)
def rowTo (n b : Nat) : Value := .slice (some ⟨b, 0, none⟩) n n
def mapTo (b : Nat) : Value := .map (some b)
def rowCells (z : List Value) (n : Nat) : List Value := (List.replicate n z).flatten
def alF (P : Program) (e : Env) (K : Obj → (Nat → Value) → H → Prop) (o : Op) (σ : H) : Prop :=
  match o with
  | .alloc t => match zeroT P t with
    | some z => K (.cells ⟨arrL z.cells⟩ t (0, 0)) ptrTo σ
    | none => False
  | .box t x => match evO e x, isAggT P t with
    | some v, some false => oneK v (K (.cells ⟨[v]⟩ t (0, 0)) ptrTo) σ
    | some v, some true => K (.cells ⟨arrL v.cells⟩ t (0, 0)) ptrTo σ
    | _, _ => False
  | .buildSlice t n ⟨ps⟩ => match evP e ps, P.underlying t with
    | some us, some (.slice el) => match sizeT P el, zeroT P el with
      | some s, some z => wrapP P (partTy P t) us (fun us σ => match Nat.ble (n * s) 16777216, Nat.beq (arrL z.cells).length s, Instr.fill (fun i => some (i * s, s)) ⟨rowCells (arrL z.cells) n⟩ us with
        | true, true, some cs => K (.cells ⟨arrL cs⟩ el (0, 0)) (rowTo n) σ
        | _, _, _ => False) σ
      | _, _ => False
    | _, _ => False
  | .makeMap _ none => K (.map #[] 0) mapTo σ
  | _ => False
def alW (obj : Obj) (g : Nat → H → Prop) (σ : H) : Prop := ∀ b, σ b = none → g b (σ.put b obj)

section
variable {P : Program}
theorem rowCells_eq (z : List Value) (n : Nat) : (Array.range (n * z.length)).map (fun i => z.toArray[i % z.toArray.size]!) = ⟨rowCells z n⟩ := by
  apply Array.ext'
  simp only [Array.toList_map, Array.toList_range, List.size_toArray]
  induction n with
  | zero => simp [rowCells]
  | succ n ih =>
    have h1 : (n + 1) * z.length = z.length + n * z.length := by rw [Nat.add_mul, Nat.one_mul, Nat.add_comm]
    rw [h1, List.range_add, List.map_append]
    have h2 : rowCells z (n + 1) = z ++ rowCells z n := by simp [rowCells, List.replicate_succ]
    rw [h2]
    congr 1
    · apply List.ext_getElem
      · simp
      · intro i h1 h2
        simp at h1
        simp [Nat.mod_eq_of_lt h1, h1]
    · rw [List.map_map, ← ih]
      apply List.map_congr_left
      intro i _
      simp
theorem alF_sound {N : Nat} {e : Env} {a : Act} (fr : FR N e a) {o : Oper} {K : Obj → (Nat → Value) → H → Prop} {σ : H} (h : alF P e K o.op σ) :
    ∃ obj mk, IsAl P (execOp a.eval o) mk obj ∧ K obj mk σ := by
  obtain ⟨dst, op, type, pos, after, guard⟩ := o
  simp only at h
  unfold alF at h
  split at h
  · split at h
    · rename_i t _ z hz
      refine ⟨_, _, fun w => ?_, h⟩
      simp [execOp, Instr.alloc, run_zeroValue hz, newVar, newRow, arrL_eq, ptrTo, World.alloc_eq]
    · exact h.elim
  · split at h
    · rename_i v hv _
      obtain ⟨hc, _, h⟩ := oneK_get h
      refine ⟨_, _, fun w => ?_, h⟩
      simp [execOp, Instr.box, fr.evO hv, newVar, newRow, hc, ptrTo, World.alloc_eq]
    · rename_i v hv _
      refine ⟨_, _, fun w => ?_, h⟩
      simp [execOp, Instr.box, fr.evO hv, newVar, newRow, arrL_eq, ptrTo, World.alloc_eq]
    · exact h.elim
  · split at h
    · rename_i t n ps _ _ us el hus hu
      split at h
      · rename_i s z hs hz
        obtain ⟨us', hus', h⟩ := wrapP_get h
        split at h
        · rename_i cs hle hlen hfill
          rw [fill_congr _ _ _ hus'] at hfill
          refine ⟨_, _, fun w => ?_, h⟩
          have hle' : ¬ (n * s > 2 ^ 24) := by have := Nat.le_of_ble_eq_true hle; omega
          have hlen' : (arrL z.cells).length = s := Nat.eq_of_beq_eq_true hlen
          have h3 := evP_val fr hus
          have hparts : (Array.map (fun (x : Nat × Operand) => (x.1, a.eval x.2)) ⟨ps⟩ : Array (Nat × Value)) = ⟨us⟩ := by apply Array.ext'; simpa using h3
          have hrow : (Array.range (n * s)).map (fun i => z.cells[i % z.cells.size]!) = ⟨rowCells (arrL z.cells) n⟩ := by
            have := rowCells_eq (arrL z.cells) n
            rw [hlen'] at this
            rw [← this]
            congr 1
          have hfill' : Instr.fill (fun i => some (i * s, s)) (if n * s = 0 then (Array.range (n * s)).map (fun i => (#[] : Array Value)[i % (#[] : Array Value).size]!) else (Array.range (n * s)).map (fun i => z.cells[i % z.cells.size]!)) us = some cs := by
            split
            · rename_i h0
              have : rowCells (arrL z.cells) n = [] := by
                have := congrArg Array.size hrow
                simp [h0] at this
                exact List.length_eq_zero_iff.1 this.symm
              rw [this] at hfill
              rw [h0, show (Array.range 0).map (fun i => (#[] : Array Value)[i % (#[] : Array Value).size]!) = ⟨[]⟩ from by apply Array.ext'; simp]
              exact hfill
            · rw [hrow]; exact hfill
          have key : (Instr.buildSlice t n (Array.map (fun (x : Nat × Operand) => (x.1, a.eval x.2)) ⟨ps⟩)).run P w = .ok (rowTo n w.heap.size) (w.alloc (.cells ⟨arrL cs⟩ el (0, 0))) := by
            rw [hparts]
            simp only [Instr.buildSlice, Sem.run_bind, run_underlying hu, Result.andThen_ok, run_sizeOf hs, hle', if_false]
            by_cases h0 : n * s = 0
            · rw [if_pos h0] at hfill'
              simp only [h0, if_true]
              rw [h0] at hfill'
              simp only [hfill', Sem.run_bind, newRow, run_newObj, Result.andThen_ok, Sem.run_pure, arrL_eq, rowTo]
              rfl
            · rw [if_neg h0] at hfill'
              simp only [h0, if_false, Sem.run_bind, run_zeroValue hz, Sem.run_pure, Result.andThen_ok]
              simp only [hfill', Sem.run_bind, newRow, run_newObj, Result.andThen_ok, Sem.run_pure, arrL_eq, rowTo]
              rfl
          simp only [execOp, Sem.run_bind]
          rw [key]; rfl
        · exact h.elim
      · exact h.elim
    · exact h.elim
  · refine ⟨_, _, fun w => ?_, h⟩
    simp [execOp, Instr.makeMap, mapTo, World.alloc_eq]
  · exact h.elim
end
end Go.HL

/- DOING; A REGION AS A FORMULA. -/
namespace Go.HL
open Go

def callS (fv : Value) (vs : List Value) : Sem Next := do let d ← Deferred.ofValue fv ⟨vs⟩; invoke d.target d.args
def valS (s : Sem Value) : Sem Next := do pure (.value (← s))
def doS (s : Sem Unit) : Sem Next := do s; pure .skip
def constL : List Operand → List Bool
  | [] => []
  | .const _ :: r => true :: constL r
  | _ :: r => false :: constL r
def isGo (P : Program) (g : FuncId) : Bool :=
  match P.funcs[g]? with
  | some fn => fn.body.isSome && !(fn.name == "runtime.NumGoroutine")
  | none => false

/-- a call of a function value -/
def callVW (P : Program) (fv : Value) (vs : List Value) (G : Value → H → Prop) (σ : H) : Prop :=
  match fv with
  | .func (.func g) ⟨as⟩ ⟨cs⟩ => match isGo P g with
    | true => callW P g (as ++ vs ++ cs) G σ
    | false => invW P (callS (.func (.func g) ⟨as⟩ ⟨cs⟩) vs) G σ
  | fv => invW P (callS fv vs) G σ

def efF (P : Program) (e : Env) (G : Value → H → Prop) (o : Oper) (σ : H) : Prop :=
  match o.op with
  | .call { callee := .value f, args := ⟨xs⟩, argTypes := _ } => match evO e f, evL e xs with
    | some fv, some vs => callVW P fv vs G σ
    | _, _ => False
  | .call { callee := .builtin b, args := ⟨xs⟩, argTypes := ts } => match evL e xs with
    | some vs => invW P (builtin b ts o.type ⟨constL xs⟩ ⟨vs⟩) G σ
    | none => False
  | .call { callee := .invoke r m, args := ⟨xs⟩, argTypes := _ } => match evO e r, evL e xs with
    | some v, some vs => invW P (callMethod v m ⟨vs⟩) G σ
    | _, _ => False
  | .store t x y => match evO e x, evO e y with
    | some u, some v => invW P (doS (Instr.storeAt t u v)) G σ
    | _, _ => False
  | .mapUpdate t m k x => match evO e m, evO e k, evO e x with
    | some m, some k, some v => invW P (doS (Instr.mapUpdate t m k v)) G σ
    | _, _, _ => False
  | .insert t m k x => match evO e m, evO e k, evO e x with
    | some m, some k, some v => invW P (doS (Instr.mapUpdate t m k v)) G σ
    | _, _, _ => False
  | .convert s d x => match evO e x with
    | some v => invW P (valS (convert s d v)) G σ
    | none => False
  | .makeSlice t l c => match evO e l, evO e c with
    | some u, some v => invW P (valS (Instr.makeSlice t u v)) G σ
    | _, _ => False
  | .range t x => match evO e x with
    | some v => invW P (valS (Instr.range t v)) G σ
    | none => False
  | .next x b => match evO e x with
    | some v => invW P (valS (Instr.next v b o.type)) G σ
    | none => False
  | .typeAssert x t u ok => match evO e x with
    | some v => invW P (valS (Instr.typeAssert v t u ok)) G σ
    | none => False
  | .binOp op t x y _ => match evO e x, evO e y with
    | some u, some v => invW P (valS (do eqGuard op t x y u v; binOp op t u v)) G σ
    | _, _ => False
  | _ => False

section
variable {P : Program}
theorem callFunc_go {g : FuncId} {args : Array Value} (h : isGo P g = true) (w : World) : (callFunc g args).run P w = .ok (.enter g args) w := by
  unfold isGo at h
  split at h
  · rename_i fn hfn
    simp only [Bool.and_eq_true, Bool.not_eq_true'] at h
    obtain ⟨h1, h2⟩ := h
    have h3 : (fn.name == "runtime.NumGoroutine") = false := h2
    have h4 : fn.body.isNone = false := by cases hb : fn.body with | none => simp [hb] at h1 | some c => rfl
    simp only [callFunc, Sem.run_bind, run_program, Result.andThen_ok, hfn, h3, Bool.false_eq_true, if_false, h4, Sem.run_pure]
  · cases h
theorem invW_callS {g : FuncId} {as cs vs : List Value} {G : Value → H → Prop} {σ : H} (hg : isGo P g = true) (h : callW P g (as ++ vs ++ cs) G σ) : invW P (callS (.func (.func g) ⟨as⟩ ⟨cs⟩) vs) G σ := by
  intro w hw
  have : (callS (.func (.func g) ⟨as⟩ ⟨cs⟩) vs).run P w = .ok (.enter g (as ++ vs ++ cs).toArray) w := by
    simp only [callS, Deferred.ofValue, Sem.run_bind, Sem.run_pure, Result.andThen_ok, invoke]
    rw [callFunc_go hg]
    simp
  rw [this]
  exact (h w hw).mono fun e w' ⟨v, he, r⟩ => ⟨v, he, r⟩
theorem callVW_inv {fv : Value} {vs : List Value} {G : Value → H → Prop} {σ : H} (h : callVW P fv vs G σ) : invW P (callS fv vs) G σ := by
  unfold callVW at h
  split at h
  · split at h
    · rename_i hg; exact invW_callS hg h
    · exact h
  · exact h
theorem map_mk {α β : Type} (f : α → β) (l : List α) : (Array.mk l).map f = ⟨l.map f⟩ := by apply Array.ext'; simp
theorem constL_eq : ∀ (l : List Operand), l.map (fun | .const _ => true | _ => false) = constL l := by
  intro l
  induction l with
  | nil => rfl
  | cons x l ih => cases x <;> simp [constL, ih]

theorem efF_sound {N : Nat} {e : Env} {a : Act} (fr : FR N e a) {o : Oper} {G : Value → H → Prop} {σ : H} (h : efF P e G o σ) : invW P (execOp a.eval o) G σ := by
  obtain ⟨dst, op, type, pos, after, guard⟩ := o
  unfold efF at h
  split at h
  · rename_i f xs _ hop
    simp only at hop; subst hop
    have hex : ∀ fv vs, evO e f = some fv → evL e xs = some vs → execOp a.eval ⟨dst, .call ⟨.value f, ⟨xs⟩, by assumption⟩, type, pos, after, guard⟩ = callS fv vs := by
      intro fv vs h1 h2
      simp only [execOp, resolve, callS, map_mk, fr.evO h1, fr.evL h2]
    split at h
    · rename_i fv vs hf hv
      rw [hex _ _ hf hv]
      exact callVW_inv h
    · exact h.elim
  · rename_i b xs ts hop
    simp only at hop; subst hop
    split at h
    · rename_i vs hv
      have hex : execOp a.eval ⟨dst, .call ⟨.builtin b, ⟨xs⟩, ts⟩, type, pos, after, guard⟩ = builtin b ts type ⟨constL xs⟩ ⟨vs⟩ := by
        simp only [execOp, resolve, invoke, map_mk, fr.evL hv, pure_bind]
        exact congrArg (fun l => builtin b ts type ⟨l⟩ ⟨vs⟩) (constL_eq xs)
      rw [hex]; exact h
    · exact h.elim
  · rename_i r m xs _ hop
    simp only at hop; subst hop
    split at h
    · rename_i v vs h1 h2
      have hex : execOp a.eval ⟨dst, .call ⟨.invoke r m, ⟨xs⟩, by assumption⟩, type, pos, after, guard⟩ = callMethod v m ⟨vs⟩ := by
        simp only [execOp, resolve, map_mk, fr.evO h1, fr.evL h2, pure_bind, invoke]
        simp
      rw [hex]; exact h
    · exact h.elim
  · rename_i hop; simp only at hop; subst hop
    split at h
    · rename_i u v h1 h2
      simp only [execOp, fr.evO h1, fr.evO h2]; exact h
    · exact h.elim
  · rename_i hop; simp only at hop; subst hop
    split at h
    · rename_i u v x h1 h2 h3
      simp only [execOp, fr.evO h1, fr.evO h2, fr.evO h3]; exact h
    · exact h.elim
  · rename_i hop; simp only at hop; subst hop
    split at h
    · rename_i u v x h1 h2 h3
      simp only [execOp, fr.evO h1, fr.evO h2, fr.evO h3]; exact h
    · exact h.elim
  · rename_i hop; simp only at hop; subst hop
    split at h
    · rename_i u h1
      simp only [execOp, fr.evO h1]; exact h
    · exact h.elim
  · rename_i hop; simp only at hop; subst hop
    split at h
    · rename_i u v h1 h2
      simp only [execOp, fr.evO h1, fr.evO h2]; exact h
    · exact h.elim
  · rename_i hop; simp only at hop; subst hop
    split at h
    · rename_i u h1
      simp only [execOp, fr.evO h1]; exact h
    · exact h.elim
  · rename_i hop; simp only at hop; subst hop
    split at h
    · rename_i u h1
      simp only [execOp, fr.evO h1]; exact h
    · exact h.elim
  · rename_i hop; simp only at hop; subst hop
    split at h
    · rename_i u h1
      simp only [execOp, fr.evO h1]; exact h
    · exact h.elim
  · rename_i hop; simp only at hop; subst hop
    split at h
    · rename_i u v h1 h2
      simp only [execOp, fr.evO h1, fr.evO h2]; exact h
    · exact h.elim
  · exact h.elim
end

/-! ### Which class an operation is of -/
def clsBuilt (P : Program) (b : Builtin) (ts : Array TypeId) : Nat :=
  match b, ts with
  | .len, ⟨t :: _⟩ => match P.underlying t with
    | some (.map _ _) => 1
    | _ => 0
  | .cap, _ => 0
  | .min, _ => 0
  | .max, _ => 0
  | _, _ => 3
def clsConv (P : Program) (s d : TypeId) : Nat :=
  match P.underlying s, P.underlying d with
  | some (.slice _), _ => 3
  | _, some (.slice _) => 3
  | some .string, some .string => 0
  | some (.int _), some .string => 3
  | _, _ => 0
def clsEq (P : Program) (t : TypeId) : Nat :=
  match P.underlying t with
  | some (.interface _) => 3
  | some (.func _ _ _) => 3
  | _ => 0
def clsOf (P : Program) (o : Op) : Nat :=
  match o with
  | .move _ | .assign _ | .pick .. | .nilCheck _ | .fieldAddr .. | .field .. | .extract .. | .unOp .. | .makeInterface .. | .makeFunc .. | .build .. | .index .. | .indexAddr .. | .slice .. => 0
  | .binOp op t _ _ _ => match op with
    | .eql => clsEq P t
    | .neq => clsEq P t
    | _ => 0
  | .convert s d _ => clsConv P s d
  | .load .. | .lookup .. => 1
  | .alloc _ | .box .. | .buildSlice .. | .makeMap .. => 2
  | .call { callee := .builtin b, args := _, argTypes := ts } => clsBuilt P b ts
  | _ => 3
def clI (P : Program) (ops : List Oper) (i : Nat) : Nat :=
  match ops[i]? with
  | some o => clsOf P o.op
  | none => 3

abbrev Pend := List (Nat × (H → Option Value) × Value)
def chkP (A : Nat → Nat → Bool) (i : Nat) : Pend → (H → Prop) → H → Prop
  | [], g, σ => g σ
  | (j, r, v) :: q, g, σ => match A j i with
    | true => chkP A i q g σ
    | false => r σ = some v ∧ chkP A i q g σ
/-- a reading, its parts typed -/
def rdT (r : H → Option Value) (t : TK) (F : t.Fn (H → Prop)) (σ : H) : Prop := ∃ v, r σ = some v ∧ app t F v σ

def slotOf (ops : List Oper) (j : Nat) : Option Nat :=
  match ops[j]? with
  | some o => o.dst
  | none => none
def sameB : Bool → Bool → Bool
  | true, true => true
  | false, false => true
  | _, _ => false
def andW (c g : H → Prop) (σ : H) : Prop := c σ ∧ g σ
def guardF (ops : List Oper) (e : Env) (g : Option (Nat × Bool)) (exec skip : Env → H → Prop) (σ : H) : Prop :=
  match g with
  | none => exec e σ
  | some (j, want) => match slotOf ops j with
    | none => skip e σ
    | some d => match e.get? d with
      | none => False
      | some (.bool t) => brW t
          (match want with | true => exec ((d, .bool true) :: e) | false => skip ((d, .bool true) :: e))
          (match want with | true => skip ((d, .bool false) :: e) | false => exec ((d, .bool false) :: e)) σ
      | some _ => skip e σ

/-- the kind of what an operation gives -/
def tyO (τ : TypeId → TK) (o : Oper) : TK := match o.op with
  | .next _ true => .opt [.sc (.int .i64), .sc (.int .i32)]
  | .range _ _ => .one (.sc .ptr)
  | _ => τ o.type
def rgF (P : Program) (τ : TypeId → TK) (N : Nat) (ops : List Oper) (A : Nat → Nat → Bool) : List Nat → Pend → Env → (Env → H → Prop) → H → Prop
  | [], _, e, K, σ => K e σ
  | i :: l, q, e, K, σ => match ops[i]? with
    | none => False
    | some o => match plainOp o.op && dstOk N o.dst with
      | false => False
      | true => guardF ops e o.guard
          (fun e σ => match clsOf P o.op with
            | 0 => silF P e (fun v => rgF P τ N ops A l q (e.put o.dst v) K) o.op σ
            | 1 => rdOp P e (fun r => rdT r (τ o.type) ((τ o.type).lam fun v => rgF P τ N ops A l ((i, r, v) :: q) (e.put o.dst v) K)) o.op σ
            | 2 => alF P e (fun obj mk => alW obj fun b => rgF P τ N ops A l q (e.put o.dst (mk b)) K) o.op σ
            | _ => efF P e (app (tyO τ o) ((tyO τ o).lam fun v => chkP A i q (rgF P τ N ops A l q (e.put o.dst v) K))) o σ)
          (fun e => rgF P τ N ops A l q (e.put o.dst undef) K) σ

section
variable {P : Program} {τ : TypeId → TK} {N : Nat} {ops : Array Oper} {A : Nat → Nat → Bool}

theorem clI_eq {i : Nat} {o : Oper} (h : ops[i]? = some o) : clI P ops.toList i = clsOf P o.op := by
  have : ops.toList[i]? = some o := by simpa using h
  simp [clI, this]

/-- the readings that are carried along -/
def PR (P : Program) (q : Pend) (p : List (Nat × Sem Next × Value)) : Prop :=
  ∀ y ∈ p, ∃ z ∈ q, z.1 = y.1 ∧ z.2.2 = y.2.2 ∧ ∀ σ, z.2.1 σ = some y.2.2 → RdS P y.2.1 σ y.2.2

theorem chkP_out {i : Nat} {g : H → Prop} {σ : H} : ∀ {q : Pend}, chkP A i q g σ → (∀ z ∈ q, A z.1 i = true ∨ z.2.1 σ = some z.2.2) ∧ g σ := by
  intro q
  induction q with
  | nil => intro h; exact ⟨fun z hz => by simp at hz, h⟩
  | cons x q ih =>
    intro h
    obtain ⟨j, r, v⟩ := x
    simp only [chkP] at h
    split at h
    · rename_i ha
      obtain ⟨h1, h2⟩ := ih h
      refine ⟨fun z hz => ?_, h2⟩
      rcases List.mem_cons.1 hz with rfl | hz
      · exact .inl ha
      · exact h1 z hz
    · obtain ⟨h1, h2⟩ := ih h.2
      refine ⟨fun z hz => ?_, h2⟩
      rcases List.mem_cons.1 hz with rfl | hz
      · exact .inr h.1
      · exact h1 z hz

theorem FR.same {e : Env} {a : Act} (h : FR N e a) {d : Nat} {v : Value} (hd : e.get? d = some v) : FR N ((d, v) :: e) a := by
  refine ⟨h.size, fun i u hu => ?_⟩
  simp only [Env.get?] at hu
  split at hu
  · rename_i hb; have := Nat.eq_of_beq_eq_true hb; subst this; cases hu; exact h.get _ _ hd
  · exact h.get i u hu

theorem guardF_sound {e : Env} {a : Act} (fr : FR N e a) {o : Oper} {exec skip : Env → H → Prop} {σ : H} (h : guardF ops.toList e o.guard exec skip σ) :
    ∃ e', FR N e' a ∧ ((Region.wanted o (yielded ops a.tmps) = true ∧ exec e' σ) ∨ (Region.wanted o (yielded ops a.tmps) = false ∧ skip e' σ)) := by
  unfold guardF at h
  split at h
  · rename_i hg
    exact ⟨e, fr, .inl ⟨by simp [Region.wanted, hg], h⟩⟩
  · rename_i j want hg
    split at h
    · rename_i hs
      refine ⟨e, fr, .inr ⟨?_, h⟩⟩
      have : (ops[j]?).bind (·.dst) = none := by
        unfold slotOf at hs
        cases ho : ops[j]? with
        | none => rfl
        | some o' => have : ops.toList[j]? = some o' := by simpa using ho
                     simp [this] at hs; simp [hs]
      simp [Region.wanted, hg, yielded, this]
    · rename_i d hs
      have hd : (ops[j]?).bind (·.dst) = some d := by
        unfold slotOf at hs
        cases ho : ops[j]? with
        | none => have : ops.toList[j]? = none := by simpa using ho
                  simp [this] at hs
        | some o' => have : ops.toList[j]? = some o' := by simpa using ho
                     simp [this] at hs; simp [hs]
      split at h
      · exact h.elim
      · rename_i t ht
        have hy : yielded ops a.tmps j = some t := by
          have := fr.get d _ ht
          simp [yielded, hd, this]
        cases t with
        | true =>
          refine ⟨_, fr.same ht, ?_⟩
          cases want with
          | true => exact .inl ⟨by simp [Region.wanted, hg, hy], h⟩
          | false => exact .inr ⟨by simp [Region.wanted, hg, hy], h⟩
        | false =>
          refine ⟨_, fr.same ht, ?_⟩
          cases want with
          | true => exact .inr ⟨by simp [Region.wanted, hg, hy], h⟩
          | false => exact .inl ⟨by simp [Region.wanted, hg, hy], h⟩
      · rename_i v hnb hv
        have hy : yielded ops a.tmps j = none := by
          have := fr.get d _ hv
          unfold yielded
          rw [hd]
          simp only [Option.bind_some, this]
          split
          · rename_i b hb; cases hb; exact absurd rfl (hnb _)
          · rfl
        exact ⟨e, fr, .inr ⟨by simp [Region.wanted, hg, hy], h⟩⟩

theorem put_defers (a : Act) (d : Option Nat) (v : Value) : (a.put d v).defers = a.defers := by cases d <;> rfl

theorem rgF_sound {K : Env → H → Prop} : ∀ (l : List Nat) {q : Pend} {p : List (Nat × Sem Next × Value)} {e : Env} {a : Act} {σ : H}, PR P q p → FR N e a → rgF P τ N ops.toList A l q e K σ →
    SRunD P ops (clI P ops.toList) A p l a (fun a' σ' => ∃ e', FR N e' a' ∧ a'.defers = a.defers ∧ K e' σ') σ := by
  intro l
  induction l with
  | nil => intro q p e a σ _ fr h; exact ⟨e, fr, rfl, h⟩
  | cons i l ih =>
    intro q p e a σ hpr fr h
    simp only [rgF] at h
    split at h
    · exact h.elim
    · rename_i o ho
      have ho' : ops[i]? = some o := by simpa using ho
      split at h
      · exact h.elim
      · rename_i hp
        simp only [Bool.and_eq_true] at hp
        obtain ⟨hp, hd⟩ := hp
        refine ⟨o, ho', hp, ?_⟩
        have lift : ∀ {v : Value} {p' : List (Nat × Sem Next × Value)} {σ' : H}, SRunD P ops (clI P ops.toList) A p' l (a.put o.dst v) (fun a' σ' => ∃ e', FR N e' a' ∧ a'.defers = (a.put o.dst v).defers ∧ K e' σ') σ' →
            SRunD P ops (clI P ops.toList) A p' l (a.put o.dst v) (fun a' σ' => ∃ e', FR N e' a' ∧ a'.defers = a.defers ∧ K e' σ') σ' := by
          intro v p' σ' h; rw [put_defers] at h; exact h
        obtain ⟨e', fr', h | h⟩ := guardF_sound fr h
        · obtain ⟨hw, h⟩ := h
          rw [if_pos hw, clI_eq ho']
          split at h
          · rename_i hc
            rw [hc]
            obtain ⟨v, hv, h⟩ := silF_sound fr' h
            exact ⟨v, hv, lift (ih hpr (fr'.put hd v) h)⟩
          · rename_i hc
            rw [hc]
            obtain ⟨r, hr, v, hrv, h⟩ := rdOp_sound fr' h
            have h := app_lam h
            refine ⟨v, hr _ _ hrv, lift (ih ?_ (fr'.put hd v) h)⟩
            intro y hy
            rcases List.mem_cons.1 hy with rfl | hy
            · exact ⟨(i, r, v), List.mem_cons_self .., rfl, rfl, fun σ hσ => hr σ v hσ⟩
            · obtain ⟨z, hz, h1, h2, h3⟩ := hpr y hy
              exact ⟨z, List.mem_cons_of_mem _ hz, h1, h2, h3⟩
          · rename_i hc
            rw [hc]
            obtain ⟨obj, mk, hal, h⟩ := alF_sound fr' h
            exact ⟨mk, obj, hal, fun b hb => lift (ih hpr (fr'.put hd _) (h b hb))⟩
          · rename_i hc0 hc1 hc2
            have hm : ∀ (a0 a1 a2 a3 : Prop), a3 → (match clsOf P o.op with | 0 => a0 | 1 => a1 | 2 => a2 | _ => a3) := by
              intro a0 a1 a2 a3 h3
              split
              · exact absurd ‹_› hc0
              · exact absurd ‹_› hc1
              · exact absurd ‹_› hc2
              · exact h3
            refine hm _ _ _ _ ((efF_sound fr' h).mono fun v σ' h => ?_)
            obtain ⟨h1, h2⟩ := chkP_out (app_lam h)
            refine ⟨fun y hy => ?_, lift (ih hpr (fr'.put hd v) h2)⟩
            obtain ⟨z, hz, e1, e2, e3⟩ := hpr y hy
            rcases h1 z hz with h1 | h1
            · exact .inl (e1 ▸ h1)
            · exact .inr (e3 σ' (e2 ▸ h1))
        · obtain ⟨hw, h⟩ := h
          rw [if_neg (by rw [hw]; simp)]
          exact lift (ih hpr (fr'.put hd undef) h)
end
end Go.HL

/- CODE AS A FORMULA. -/
namespace Go.HL
open Go

inductive Ann where
  | leaf
  | seq (j : Option Live) (a b : Ann)
  | cond (a b : Ann)
  | blk (a : Ann)
  | loop (l : Live) (a : Ann)
  | reg (π : List Nat) (AL : List (List Nat))
  | rf (ks : List CK) (a b : Ann)

def letJ {T : Type} (j : T) (f : T → H → Prop) (σ : H) : Prop := f j σ
/-- the least fixed point: a loop that ends -/
def loopW (ks : List CK) (F : FnC ks (H → Prop) → FnC ks (H → Prop)) (st : FnC ks (H → Prop) → H → Prop) (σ : H) : Prop :=
  ∀ R : FnC ks (H → Prop), leC ks (F R) R → st R σ
def Env.puts : Env → List Nat → List Value → Env
  | e, t :: ts, v :: vs => Env.puts ((t, v) :: e) ts vs
  | e, _, _ => e
def sameLen : List Nat → List CK → Bool
  | [], [] => true
  | _ :: a, _ :: b => sameLen a b
  | _, _ => false
def allLt (N : Nat) : List Nat → Bool
  | [] => true
  | t :: r => Nat.blt t N && allLt N r

/-- what a round's end does to the loop's record -/
def roundK (l : Nat) (obj : LoopState → Option Code → Obj) (K : Value → H → Prop) (j : Option Code) (b : Bool) (s : LoopState) (σ : H) : Prop :=
  σ l = some (obj .busy none) ∧ K (.bool b) (σ.put l (obj s j))

/-- behind the whole loop -/
def endK (l : Nat) (obj : LoopState → Option Code → Obj) (Kn : H → Prop) (Kx : Nat → H → Prop) (Kr : H → Prop) (σ : H) : Prop :=
  ∃ s j, σ l = some (obj s j) ∧ s ≠ .busy ∧ (match j with
    | none => Kn (σ.put l (obj .exhausted j))
    | some (.exit i) => Kx i (σ.put l (obj .exhausted j))
    | some .ret => Kr (σ.put l (obj .exhausted j))
    | _ => False)

/-- a call of yield comes to the loop's body -/
def YieldOk (P : Program) (l : Nat) (B : List Value → (Value → H → Prop) → H → Prop) : Prop :=
  ∀ args K σ, B args K σ → invW P (callS (.func (.yield l) #[] #[]) args) K σ

def yv (l : Nat) : Value := .func (.yield l) #[] #[]
def LoopObj (obj : LoopState → Option Code → Obj) : Prop := ∃ r : Loop, ∀ s j, obj s j = .loop { r with state := s, pending := j }

/-- a function that is ranged over must be one -/
def funW (fv : Value) (F : FuncId → List Value → List Value → H → Prop) (σ : H) : Prop :=
  match fv with
  | .func (.func g) ⟨as⟩ ⟨cs⟩ => F g as cs σ
  | _ => False
/-- a round begins -/
def begW (l : Nat) (obj : LoopState → Option Code → Obj) (g : H → Prop) (σ : H) : Prop := σ l = some (obj .ready none) ∧ g (σ.put l (obj .busy none))
/-- a range over a function -/
def rfW (P : Program) (ro : Option Nat) (g : FuncId) (as cs : List Value) (ks : List CK) (body : (l : Nat) → (LoopState → Option Code → Obj) → (Value → H → Prop) → FnC ks (H → Prop)) (Kn : H → Prop) (Kx : Nat → H → Prop) (Kr : H → Prop) (σ : H) : Prop :=
  isGo P g = true ∧ (∀ l0, ro = some l0 → ∃ r, σ l0 = some (.loop r)) ∧ ∀ l obj, σ l = none → LoopObj obj →
    YieldOk P l (fun args K σ' => σ' l = some (obj .ready none) ∧ runO (prjC ks (body l obj K) args) σ') →
    callW P g (as ++ [yv l] ++ cs) (fun _ => endK l obj Kn Kx Kr) (σ.put l (obj .ready none))

def D (P : Program) (τ : TypeId → TK) (N : Nat) : Code → Ann → Option Nat → Env → (Env → H → Prop) → (Nat → Env → H → Prop) → (Env → H → Prop) → H → Prop
  | .skip, _, _, e, Kn, _, _, σ => Kn e σ
  | .label _, _, _, e, Kn, _, _, σ => Kn e σ
  | .exit i, _, _, e, _, Kx, _, σ => Kx i e σ
  | .scope x, an, ro, e, Kn, Kx, Kr, σ => match an with
    | .blk a => D P τ N x a ro e Kn Kx Kr σ
    | _ => False
  | .ret, _, _, e, _, _, Kr, σ => Kr e σ
  | .seq x y, an, ro, e, Kn, Kx, Kr, σ => match an with
    | .seq none a b => D P τ N x a ro e (fun e' => D P τ N y b ro e' Kn Kx Kr) Kx Kr σ
    | .seq (some l) a b => letJ (l.lam fun e' => D P τ N y b ro e' Kn Kx Kr) (fun j => D P τ N x a ro e (fun e' => l.app j e') Kx Kr) σ
    | _ => False
  | .cond c x y, an, ro, e, Kn, Kx, Kr, σ => match an, evO e c with
    | .cond a b, some (.bool t) => brW t (D P τ N x a ro e Kn Kx Kr) (D P τ N y b ro e Kn Kx Kr) σ
    | _, _ => False
  | .block id x, an, ro, e, Kn, Kx, Kr, σ => match an with
    | .blk a => D P τ N x a ro e Kn (fun i e' σ => match Nat.beq i id with | true => Kn e' σ | false => Kx i e' σ) Kr σ
    | _ => False
  | .loop x, an, ro, e, _, Kx, Kr, σ => match an with
    | .loop l a => loopW l.ks (fun R => l.lam fun e' => D P τ N x a ro e' (fun e'' => l.app R e'') Kx Kr) (fun R => l.app R e) σ
    | _ => False
  | .region _ ops draw, an, _, e, Kn, _, _, σ => match an, draw with
    | .reg π AL, true => match drawOk ops (clI P ops.toList) AL π with
      | true => rgF P τ N ops.toList (ancOf AL) π [] e Kn σ
      | false => False
    | .reg _ _, false => rgF P τ N ops.toList (fun _ _ => true) (List.range ops.size) [] e Kn σ
    | _, _ => False
  | .rangeFunc f ps asg body, an, ro, e, Kn, Kx, Kr, σ => match an, evO e f with
    | .rf ks a b, some fv => match sameLen ps.toList ks && allLt N ps.toList with
      | true => funW fv (fun g as cs => rfW P ro g as cs ks (fun l obj K => lamC ks fun vs => D P τ N asg a (some l) (e.puts ps.toList vs)
              (fun e1 => begW l obj (D P τ N body b (some l) e1 (fun _ => roundK l obj K none true .ready) (fun i _ => roundK l obj K (some (.exit i)) false .done) (fun _ => roundK l obj K (some .ret) false .done)))
              (fun _ _ _ => False) (fun _ _ => False)) (Kn e) (fun i => Kx i e) (Kr e)) σ
      | false => False
    | _, _ => False
  | _, _, _, _, _, _, _, _ => False

/-! ### Words for the texts -/
def callT (P : Program) (f : FuncId) (args : List Value) (t : TK) (F : t.Fn (H → Prop)) : H → Prop := callW P f args (app t F)
def cvalT (P : Program) (fv : Value) (args : List Value) (t : TK) (F : t.Fn (H → Prop)) : H → Prop := callVW P fv args (app t F)
def stW (P : Program) (t : TypeId) (a v : Value) (g : H → Prop) : H → Prop := invW P (doS (Instr.storeAt t a v)) (app (.tup []) g)
def muW (P : Program) (t : TypeId) (m k v : Value) (g : H → Prop) : H → Prop := invW P (doS (Instr.mapUpdate t m k v)) (app (.tup []) g)
def biW (P : Program) (b : Builtin) (ts : Array TypeId) (ty : TypeId) (cs : List Bool) (args : List Value) (t : TK) (F : t.Fn (H → Prop)) : H → Prop := invW P (builtin b ts ty ⟨cs⟩ ⟨args⟩) (app t F)
def vaW (P : Program) (s : Sem Value) (t : TK) (F : t.Fn (H → Prop)) : H → Prop := invW P (valS s) (app t F)
def imW (P : Program) (v : Value) (m : String) (args : List Value) (t : TK) (F : t.Fn (H → Prop)) : H → Prop := invW P (callMethod v m ⟨args⟩) (app t F)
def exW (i id : Nat) (A B : H → Prop) (σ : H) : Prop :=
  match Nat.beq i id with
  | true => A σ
  | false => B σ

/-! ### Results -/
def resG (P : Program) (τ : TypeId → TK) (e : Env) : List ResultVar → (List Value → H → Prop) → H → Prop
  | [], k, σ => k [] σ
  | .tmp t :: rs, k, σ => match e.get? t with
    | some v => resG P τ e rs (fun vs => k (v :: vs)) σ
    | none => False
  | .cell a t :: rs, k, σ => match e.get? a, isAggT P t, sizeT P t with
    | some (.pointer p), some false, _ => ptrW p (fun b o => rdT (rdC b o) (τ t) ((τ t).lam fun v => resG P τ e rs fun vs => k (v :: vs))) σ
    | some (.pointer p), some true, some n => ptrW p (fun b o => rdT (rdA n b o) (τ t) ((τ t).lam fun v => resG P τ e rs fun vs => k (v :: vs))) σ
    | _, _, _ => False
def tupL : List Value → Value
  | [v] => v
  | vs => .tuple ⟨vs⟩
def resF (P : Program) (τ : TypeId → TK) (rs : List ResultVar) (K : Value → H → Prop) (e : Env) : H → Prop := resG P τ e rs fun vs => K (tupL vs)
def argE : Nat → List Value → Env
  | _, [] => []
  | i, v :: vs => (i, v) :: argE (i + 1) vs
/-- A FUNCTION's BODY -/
def bodyF (P : Program) (τ : TypeId → TK) (fn : Func) (an : Ann) (args : List Value) (K : Value → H → Prop) (σ : H) : Prop :=
  match fn.body with
  | some c => match Nat.ble args.length fn.ntmps with
    | true => D P τ fn.ntmps c an none (argE 0 args) (resF P τ fn.results.toList K) (fun _ _ _ => False) (resF P τ fn.results.toList K) σ
    | false => False
  | none => False
end Go.HL

/- CODE AS A FORMULA: that the model does so. -/
namespace Go.HL
open Go

def markOf (r : Nat) : Deferred := { target := .collected r, args := #[] }
/-- the marks among the deferred calls: blocks of the call's own that nobody sees -/
def DefOk (B : Nat) (σ : H) (w : World) (ds : List Deferred) : Prop :=
  ∃ ms : List Nat, ms.Nodup ∧ ds = ms.map markOf ∧ ∀ r ∈ ms, B ≤ r ∧ σ r = none ∧ w.heap[r]? = some (.deferred (some []))
theorem DefOk.nil (B : Nat) (σ : H) (w : World) : DefOk B σ w [] := ⟨[], .nil, rfl, fun _ h => by simp at h⟩
theorem DefOk.ext {B : Nat} {σ σ' : H} {w w' : World} {ds : List Deferred} (h : DefOk B σ w ds) (he : Ext σ w σ' w') : DefOk B σ' w' ds := by
  obtain ⟨ms, h1, h2, h3⟩ := h
  refine ⟨ms, h1, h2, fun r hr => ?_⟩
  obtain ⟨hb, hn, hw⟩ := h3 r hr
  have hlt : r < w.heap.size := by
    rcases Nat.lt_or_ge r w.heap.size with h | h
    · exact h
    · rw [Array.getElem?_eq_none h] at hw; cases hw
  refine ⟨hb, ?_, by rw [he.keep r hlt hn]; exact hw⟩
  cases hc : σ' r with
  | none => rfl
  | some o => have := he.own r o hc hn; omega

def Post (N B : Nat) (σ0 : H) (w0 : World) (Kn : Env → H → Prop) (Kx : Nat → Env → H → Prop) (Kr : Env → H → Prop) : Exit → Act → World → Prop
  | .normal, a, w => ∃ e σ, FR N e a ∧ Ext σ0 w0 σ w ∧ DefOk B σ w a.defers ∧ Kn e σ
  | .exit i, a, w => ∃ e σ, FR N e a ∧ Ext σ0 w0 σ w ∧ DefOk B σ w a.defers ∧ Kx i e σ
  | .ret, a, w => ∃ e σ, FR N e a ∧ Ext σ0 w0 σ w ∧ DefOk B σ w a.defers ∧ Kr e σ
  | _, _, _ => False
theorem Post.pre {N B : Nat} {σ0 σ1 : H} {w0 w1 : World} {Kn : Env → H → Prop} {Kx : Nat → Env → H → Prop} {Kr : Env → H → Prop} (he : Ext σ0 w0 σ1 w1) {x : Exit} {a : Act} {w : World} (h : Post N B σ1 w1 Kn Kx Kr x a w) : Post N B σ0 w0 Kn Kx Kr x a w := by
  cases x with
  | normal => obtain ⟨e, σ, h1, h2, h3⟩ := h; exact ⟨e, σ, h1, he.trans h2, h3⟩
  | exit i => obtain ⟨e, σ, h1, h2, h3⟩ := h; exact ⟨e, σ, h1, he.trans h2, h3⟩
  | ret => obtain ⟨e, σ, h1, h2, h3⟩ := h; exact ⟨e, σ, h1, he.trans h2, h3⟩
  | goto l => exact h.elim
  | panic c => exact h.elim
  | outgrown => exact h.elim

theorem leL_lam {R : Type} {le : R → R → Prop} : ∀ (l : List SK) {f g : List Value → R}, (∀ vs, le (f vs) (g vs)) → leL l le (lamL l f) (lamL l g) := by
  intro l
  induction l with
  | nil => intro f g h; exact h []
  | cons s l ih => intro f g h x; exact ih fun vs => h _
theorem CK.le_lam (c : CK) {R : Type} {le : R → R → Prop} {f g : Value → R} (h : ∀ v, le (f v) (g v)) : c.le le (c.lam f) (c.lam g) := by
  cases c with
  | sc s => intro x; exact h _
  | agg l => exact leL_lam l fun vs => h _
theorem leC_lam : ∀ (l : List CK) {f g : List Value → H → Prop}, (∀ vs σ, f vs σ → g vs σ) → leC l (lamC l f) (lamC l g) := by
  intro l
  induction l with
  | nil => intro f g h; exact h []
  | cons c l ih => intro f g h; exact CK.le_lam c fun v => ih fun vs => h _

section
variable {P : Program} {τ : TypeId → TK} {N : Nat}

/-- a loop's round is to be gone, and on -/
def LoopIn (F : Fence) (n : Nat) (P : Program) (c : Code) (Q : Exit → Act → World → Prop) (a : Act) (w : World) : Prop :=
  ∀ (b : Frame) (k : List Item) (cs : List Frame), b.roundOf = F.round → F.fn b.fn → F.room (cs.length + 1 + n) →
    ∃ e a' w', Q e a' w' ∧ ArrivesIn (Machine.fenced P F) P (lone (b.atR a (.code c :: .inLoop c :: k)) cs w) b k cs e a' w'
theorem loopIn_round {F : Fence} {n : Nat} {c : Code} {Q : Exit → Act → World → Prop} {a : Act} {w : World} (h : c.wpIn F n P (Exit.then (LoopIn F n P c Q) Q) a w) : LoopIn F n P c Q a w := by
  intro b k cs hro hb hr
  obtain ⟨e, a₁, w₁, hq, harr⟩ := h b (.inLoop c :: k) cs hro hb hr
  cases e with
  | normal =>
    obtain ⟨e₂, a₂, w₂, hq₂, harr₂⟩ := hq b k cs hro hb hr
    exact ⟨e₂, a₂, w₂, hq₂, .of_steps (StepsIn.trans harr (.one (fenced_calm hb hr rfl) stepR_inLoop)) harr₂⟩
  | exit id => exact ⟨_, a₁, w₁, hq, .pass (x := .inLoop c) rfl (fun _ _ => .inl (by simp)) harr⟩
  | goto l => exact ⟨_, a₁, w₁, hq, .pass (x := .inLoop c) rfl (fun _ _ => .inl (by simp)) harr⟩
  | ret => exact ⟨_, a₁, w₁, hq, .pass (x := .inLoop c) rfl (fun _ _ => .inl (by simp)) harr⟩
  | panic ch => exact ⟨_, a₁, w₁, hq, .pass (x := .inLoop c) rfl (fun _ _ => .inl (by simp)) harr⟩
  | outgrown => exact ⟨_, a₁, w₁, hq, .pass (x := .inLoop c) rfl (fun _ _ => .inl (by simp)) harr⟩
theorem wpIn_loopIn {F : Fence} {n : Nat} {c : Code} {Q : Exit → Act → World → Prop} {a : Act} {w : World} (h : LoopIn F n P c Q a w) : (Code.loop c).wpIn F n P Q a w := by
  intro b k cs hro hb hr
  obtain ⟨e, a', w', hq, harr⟩ := h b k cs hro hb hr
  exact ⟨e, a', w', hq, .of_steps (.one (fenced_calm hb hr rfl) stepR_loop) harr⟩

theorem Ext.allocOut {σ : H} {w : World} (h : σ.le w) (o : Obj) : Ext σ w σ (w.alloc o) := by
  obtain ⟨hn, he⟩ := Ext.alloc h o
  refine ⟨fun b o' hb => he.le b o' ?_, he.size, he.keep, (fun b o' hb hb' => by rw [hb'] at hb; cases hb), he.os, he.tape, he.output⟩
  rw [H.put_other]
  · exact hb
  · intro e; subst e; rw [hn] at hb; cases hb

theorem puts_fr : ∀ (ts : List Nat) (vs : List Value) {e : Env} {a : Act}, FR N e a → allLt N ts = true → ts.length = vs.length →
    FR N (e.puts ts vs) { a with tmps := (ts.zip vs).foldl (fun tmps (x : Nat × Value) => tmps.setIfInBounds x.1 x.2) a.tmps } := by
  intro ts
  induction ts with
  | nil =>
    intro vs e a fr _ h
    cases vs with
    | nil => exact fr
    | cons v vs => simp at h
  | cons t ts ih =>
    intro vs e a fr hl h
    cases vs with
    | nil => simp at h
    | cons v vs =>
      simp only [allLt, Bool.and_eq_true] at hl
      exact ih vs (fr.put (d := some t) hl.1 v) hl.2 (by simpa using h)
theorem prjC_len : ∀ (l : List CK) {R : Type} (F : FnC l R) (vs : List Value) (r : R), prjC l F vs = some r → l.length = vs.length := by
  intro l
  induction l with
  | nil =>
    intro R F vs r h
    cases vs with
    | nil => rfl
    | cons v vs => simp [prjC] at h
  | cons c l ih =>
    intro R F vs r h
    cases vs with
    | nil => simp [prjC] at h
    | cons v vs =>
      simp only [prjC] at h
      split at h
      · simp [ih _ _ _ h]
      · cases h
theorem sameLen_eq : ∀ (a : List Nat) (b : List CK), sameLen a b = true → a.length = b.length := by
  intro a
  induction a with
  | nil => intro b h; cases b with | nil => rfl | cons x b => simp [sameLen] at h
  | cons x a ih => intro b h; cases b with | nil => simp [sameLen] at h | cons y b => simp [ih b h]

theorem run_getLoop {l : Nat} {r : Loop} {w : World} (h : w.heap[l]? = some (.loop r)) : (Instr.getLoop l).run P w = .ok r w := by
  simp [Instr.getLoop, getObj, Sem.run, h]
theorem run_setLoop {l : Nat} {r : Loop} {o : Obj} {w : World} (h : w.heap[l]? = some (.loop r)) : (setObj l o).run P w = .ok () { w with heap := w.heap.setIfInBounds l o } := by
  simp [setObj, Sem.run, h]

theorem stepR_scope {b : Frame} {a : Act} {k : List Item} {cs : List Frame} {w : World} {c : Code} : step P (lone (b.atR a (.code (.scope c) :: k)) cs w) = .next (lone (b.atR a (.code c :: .inScope c :: k)) cs w) :=
  step_lone_go (by simp [stepG, stepG.exec, Frame.atR])
theorem stepR_inScope {b : Frame} {a : Act} {k : List Item} {cs : List Frame} {w : World} {c : Code} : step P (lone (b.atR a (.inScope c :: k)) cs w) = .next (lone (b.atR a k) cs w) :=
  step_lone_go (by simp [stepG, stepG.exec, Frame.atR])
/-- a scope through which the run goes without a jump -/
theorem wpIn_scope {F : Fence} {n : Nat} {a : Act} {w : World} {Q : Exit → Act → World → Prop} {c : Code} (hq : ∀ l a w, ¬ Q (.goto l) a w) (h : c.wpIn F n P Q a w) : (Code.scope c).wpIn F n P Q a w := by
  intro b k cs hro hb hr
  have h0 : (lone (b.atR a (.code (.scope c) :: k)) cs w).fenced P F := fenced_calm hb hr rfl
  obtain ⟨e, a₁, w₁, hq', harr⟩ := h b (.inScope c :: k) cs hro hb hr
  cases e with
  | normal => exact ⟨.normal, a₁, w₁, hq', .head h0 stepR_scope (StepsIn.trans harr (.one (fenced_calm hb hr rfl) stepR_inScope))⟩
  | exit id' =>
    have hx : exitTo id' (.inScope c :: k) = exitTo id' k := by simp [exitTo]
    exact ⟨.exit id', a₁, w₁, hq', fun k' hk => .head h0 stepR_scope (harr.1 k' (by rw [hx]; exact hk)),
      fun hr' hk => let ⟨k₁, h1, h2⟩ := harr.2 hr' (by rw [hx]; exact hk); ⟨k₁, h1, .head h0 stepR_scope h2⟩⟩
  | goto l => exact (hq l a₁ w₁ hq').elim
  | ret => exact ⟨_, a₁, w₁, hq', .of_steps (.one h0 stepR_scope) harr⟩
  | panic ch => exact ⟨_, a₁, w₁, hq', .of_steps (.one h0 stepR_scope) harr⟩
  | outgrown => exact ⟨_, a₁, w₁, hq', .of_steps (.one h0 stepR_scope) harr⟩
theorem D_sound (hm : P.follows .mixedOrders = true) : ∀ (c : Code) (an : Ann) (ro : Option Nat) {e : Env} {Kn : Env → H → Prop} {Kx : Nat → Env → H → Prop} {Kr : Env → H → Prop} {σ : H}, D P τ N c an ro e Kn Kx Kr σ →
    ∀ (n B : Nat) (a : Act) (w : World), FR N e a → σ.le w → DefOk B σ w a.defers → B ≤ w.heap.size → c.wpIn (FW ro) n P (Post N B σ w Kn Kx Kr) a w := by
  intro c
  induction c with
  | skip => intro an ro e Kn Kx Kr σ h n B a w fr hw hd hB; exact wpIn_skip ⟨e, σ, fr, Ext.refl hw, hd, h⟩
  | label l => intro an ro e Kn Kx Kr σ h n B a w fr hw hd hB; exact wpIn_label ⟨e, σ, fr, Ext.refl hw, hd, h⟩
  | exit i => intro an ro e Kn Kx Kr σ h n B a w fr hw hd hB; exact wpIn_exit ⟨e, σ, fr, Ext.refl hw, hd, h⟩
  | ret => intro an ro e Kn Kx Kr σ h n B a w fr hw hd hB; exact wpIn_ret ⟨e, σ, fr, Ext.refl hw, hd, h⟩
  | goto l => intro an ro e Kn Kx Kr σ h; exact h.elim
  | refuse s => intro an ro e Kn Kx Kr σ h; exact h.elim
  | scope b ih =>
    intro an ro e Kn Kx Kr σ h n B a w fr hw hd hB
    cases an with
    | blk an => exact wpIn_scope (fun l a w h => h) (ih an ro h n B a w fr hw hd hB)
    | _ => exact h.elim
  | seq x y ihx ihy =>
    intro an ro e Kn Kx Kr σ h n B a w fr hw hd hB
    simp only [D] at h
    split at h
    · rename_i ax ay
      refine wpIn_seq (wpIn_mono (ihx _ _ h n B a w fr hw hd hB) fun ex a' w' hp => ?_)
      cases ex with
      | normal =>
        obtain ⟨e', σ', fr', he, hd', h'⟩ := hp
        exact wpIn_mono (ihy _ _ h' n B a' w' fr' he.le hd' (Nat.le_trans hB he.size)) fun _ _ _ => Post.pre he
      | exit i => exact hp
      | ret => exact hp
      | goto l => exact hp.elim
      | panic c => exact hp.elim
      | outgrown => exact hp.elim
    · rename_i l ax ay
      refine wpIn_seq (wpIn_mono (ihx _ _ h n B a w fr hw hd hB) fun ex a' w' hp => ?_)
      cases ex with
      | normal =>
        obtain ⟨e', σ', fr', he, hd', h'⟩ := hp
        obtain ⟨vs, hs, h'⟩ := Live.app_lam h'
        exact wpIn_mono (ihy _ _ h' n B a' w' (fr'.sel hs) he.le hd' (Nat.le_trans hB he.size)) fun _ _ _ => Post.pre he
      | exit i => exact hp
      | ret => exact hp
      | goto l => exact hp.elim
      | panic c => exact hp.elim
      | outgrown => exact hp.elim
    · exact h.elim
  | cond c x y ihx ihy =>
    intro an ro e Kn Kx Kr σ h n B a w fr hw hd hB
    simp only [D] at h
    split at h
    · rename_i ax ay t ht
      cases t with
      | true => exact wpIn_cond_true (fr.evO ht) (ihx _ _ h n B a w fr hw hd hB)
      | false => exact wpIn_cond_false (fr.evO ht) (ihy _ _ h n B a w fr hw hd hB)
    · exact h.elim
  | block id x ih =>
    intro an ro e Kn Kx Kr σ h n B a w fr hw hd hB
    simp only [D] at h
    split at h
    · refine wpIn_block (wpIn_mono (ih _ _ h n B a w fr hw hd hB) fun ex a' w' hp => ?_)
      cases ex with
      | normal => exact hp
      | exit i =>
        obtain ⟨e', σ', fr', he, hd', h'⟩ := hp
        simp only [Exit.inBlock]
        split at h'
        · rename_i hb
          rw [if_pos (Nat.eq_of_beq_eq_true hb)]; exact ⟨e', σ', fr', he, hd', h'⟩
        · rename_i hb
          rw [if_neg (Nat.ne_of_beq_eq_false hb)]; exact ⟨e', σ', fr', he, hd', h'⟩
      | ret => exact hp
      | goto l => exact hp.elim
      | panic c => exact hp.elim
      | outgrown => exact hp.elim
    · exact h.elim
  | loop x ih =>
    intro an ro e Kn Kx Kr σ h n B a w fr hw hd hB
    simp only [D] at h
    split at h
    · rename_i l ax
      have h1 := h (lamC l.ks fun vs σ' => ∀ a w, FR N (l.zip vs) a → σ'.le w → DefOk B σ' w a.defers → B ≤ w.heap.size → LoopIn (FW ro) n P x (Post N B σ' w Kn Kx Kr) a w) (leC_lam _ fun vs σ' hD a w fr hw hd hB => ?_)
      · obtain ⟨vs, g, hs, hg, h1⟩ := Live.app_get h1
        rw [prjC_lamC _ _ _ _ hg] at h1
        exact wpIn_loopIn (h1 a w (fr.sel hs) hw hd hB)
      · refine loopIn_round (wpIn_mono (ih _ _ hD n B a w fr hw hd hB) fun ex a' w' hp => ?_)
        cases ex with
        | normal =>
          obtain ⟨e', σ'', fr', he, hd', h'⟩ := hp
          obtain ⟨vs', g, hs, hg, h'⟩ := Live.app_get h'
          rw [prjC_lamC _ _ _ _ hg] at h'
          intro b k cs hro hb hr
          obtain ⟨e2, a2, w2, hq, harr⟩ := h' a' w' (fr'.sel hs) he.le hd' (Nat.le_trans hB he.size) b k cs hro hb hr
          exact ⟨e2, a2, w2, Post.pre he hq, harr⟩
        | exit i => exact hp
        | ret => exact hp
        | goto l => exact hp.elim
        | panic c => exact hp.elim
        | outgrown => exact hp.elim
    · exact h.elim
  | region id ops draw =>
    intro an ro e Kn Kx Kr σ h n B a w fr hw hd hB
    simp only [D] at h
    split at h
    · rename_i π AL
      split at h
      · rename_i hok
        refine draw_sound hm hok hw (rgF_sound (p := []) _ (fun y hy => by simp at hy) fr h) fun a' σ' w' he ⟨e', fr', hde, hk⟩ => ?_
        exact ⟨e', σ', fr', he, by rw [hde]; exact hd.ext he, hk⟩
      · exact h.elim
    · refine wpIn_region (run_sound _ hw (rgF_sound (p := []) _ (fun y hy => by simp at hy) fr h) fun a' σ' w' he ⟨e', fr', hde, hk⟩ => ?_)
      exact ⟨e', σ', fr', he, by rw [hde]; exact hd.ext he, hk⟩
    · exact h.elim
  | rangeFunc f ps asg body iha ihb =>
    intro an ro e Kn Kx Kr σ h n B a w fr hw hd hB
    simp only [D] at h
    split at h
    · rename_i ks aa ab fv hf
      split at h
      · rename_i hgl
        simp only [Bool.and_eq_true] at hgl
        obtain ⟨hsl, hlt⟩ := hgl
        have hsl := sameLen_eq _ _ hsl
        unfold funW at h
        split at h
        case h_2 => exact h.elim
        rename_i g as cs
        obtain ⟨hg, hro, h⟩ := h
        refine wpIn_rangeFunc fun fn _ => ?_
        -- the record
        have enter : ∃ (l dblk : Nat) (mark : List Deferred) (w₁ : World),
            (Instr.enterLoop fn a.tmps ps asg body ro).run P w = .ok (l, mark) w₁ ∧ σ l = none ∧
            Ext σ w (σ.put l (.loop { state := .ready, pending := none, fn, tmps := a.tmps, params := ps, assign := asg, body, defers := dblk })) w₁ ∧ DefOk B (σ.put l (.loop { state := .ready, pending := none, fn, tmps := a.tmps, params := ps, assign := asg, body, defers := dblk })) w₁ (mark ++ a.defers) := by
          cases ro with
          | none =>
            refine ⟨w.heap.size + 1, w.heap.size, [markOf w.heap.size], (w.alloc (.deferred (some []))).alloc (.loop { state := .ready, pending := none, fn, tmps := a.tmps, params := ps, assign := asg, body, defers := w.heap.size }), ?_, ?_, ?_, ?_⟩
            · simp [Instr.enterLoop, markOf, World.alloc_eq]
            · cases hc : σ (w.heap.size + 1) with
              | none => rfl
              | some o => have := hw.lt hc; omega
            · have e1 := Ext.allocOut hw (.deferred (some []))
              have e2 := (Ext.alloc e1.le (.loop { state := .ready, pending := none, fn, tmps := a.tmps, params := ps, assign := asg, body, defers := w.heap.size })).2
              have : (w.alloc (.deferred (some []))).heap.size = w.heap.size + 1 := by show (w.heap.push _).size = _; simp
              rw [this] at e2
              exact e1.trans e2
            · obtain ⟨ms, h1, h2, h3⟩ := hd
              have hlt' : ∀ r ∈ ms, r < w.heap.size := fun r hr => by
                have := (h3 r hr).2.2
                rcases Nat.lt_or_ge r w.heap.size with h | h
                · exact h
                · rw [Array.getElem?_eq_none h] at this; cases this
              have hget : ∀ (o o' : Obj) (r : Nat), r < w.heap.size → ((w.alloc o).alloc o').heap[r]? = w.heap[r]? := by
                intro o o' r hr
                show ((w.heap.push o).push o')[r]? = _
                rw [Array.getElem?_push, if_neg (by simp only [Array.size_push]; omega), Array.getElem?_push, if_neg (by omega)]
              refine ⟨w.heap.size :: ms, List.nodup_cons.2 ⟨fun hr => Nat.lt_irrefl _ (hlt' _ hr), h1⟩, by simp [h2], fun r hr => ?_⟩
              rcases List.mem_cons.1 hr with rfl | hr
              · refine ⟨hB, ?_, ?_⟩
                · rw [H.put_other _ _ (by omega)]
                  cases hc : σ w.heap.size with
                  | none => rfl
                  | some o => have := hw.lt hc; omega
                · show ((w.heap.push _).push _)[w.heap.size]? = _
                  rw [Array.getElem?_push, if_neg (by simp)]
                  simp
              · obtain ⟨q1, q2, q3⟩ := h3 r hr
                have := hlt' r hr
                exact ⟨q1, by rw [H.put_other _ _ (by omega)]; exact q2, by rw [hget _ _ r this]; exact q3⟩
          | some l0 =>
            obtain ⟨r0, hr0⟩ := hro l0 rfl
            have e1 := Ext.alloc hw (.loop { state := .ready, pending := none, fn, tmps := a.tmps, params := ps, assign := asg, body, defers := r0.defers })
            refine ⟨w.heap.size, r0.defers, [], w.alloc (.loop { state := .ready, pending := none, fn, tmps := a.tmps, params := ps, assign := asg, body, defers := r0.defers }), ?_, e1.1, e1.2, ?_⟩
            · simp [Instr.enterLoop, run_getLoop (hw _ _ hr0), World.alloc_eq]
            · exact hd.ext e1.2
        obtain ⟨l, dblk, mark, w₁, hrun, hfresh, hext, hdef⟩ := enter
        let obj : LoopState → Option Code → Obj := fun s j => .loop { state := s, pending := j, fn, tmps := a.tmps, params := ps, assign := asg, body, defers := dblk }
        have hobj : LoopObj obj := ⟨{ state := .ready, pending := none, fn, tmps := a.tmps, params := ps, assign := asg, body, defers := dblk }, fun _ _ => rfl⟩
        refine ⟨l, mark, w₁, { target := .fn (.func g) ⟨cs⟩, args := ⟨as⟩ ++ #[yv l] }, w₁, g, (as ++ [yv l] ++ cs).toArray, w₁, hrun, ?_, fun _ _ => trivial, ?_, (fun h => by cases h), ?_⟩
        · have : a.eval f = .func (.func g) ⟨as⟩ ⟨cs⟩ := fr.evO hf
          show (Deferred.ofValue (a.eval f) (#[Operand.const (yv l)].map a.eval)).run P w₁ = _
          rw [this]
          simp [Deferred.ofValue, Act.eval]
        · show (callFunc g _).run P w₁ = _
          rw [callFunc_go hg]; simp
        · have hY := h l obj hfresh hobj (by
            intro args K σ' hb wy hwy
            obtain ⟨hl, hD⟩ := hb
            unfold runO at hD
            split at hD
            case h_2 => exact hD.elim
            rename_i gD hgD
            have hlen : ps.toList.length = args.length := by rw [hsl]; exact prjC_len _ _ _ _ hgD
            rw [prjC_lamC _ _ _ _ hgD] at hD
            have fr' := puts_fr _ _ fr hlt hlen
            have hgl := run_getLoop (P := P) (hwy l _ hl)
            have hy : (callS (.func (.yield l) #[] #[]) args).run P wy = .ok (.round l fn ((ps.toList.zip args).foldl (fun tmps (x : Nat × Value) => tmps.setIfInBounds x.1 x.2) a.tmps) asg body) wy := by
              have hsz : ¬ (args.length ≠ ps.size) := by
                have : ps.toList.length = args.length := hlen
                simp at this; omega
              simp only [callS, Deferred.ofValue, Sem.run_bind, Sem.run_pure, Result.andThen_ok, invoke, Instr.yield, hgl]
              have hz : (ps.zip (#[] ++ (⟨args⟩ : Array Value))) = ⟨ps.toList.zip args⟩ := by apply Array.ext'; simp
              rw [hz]
              simp [hsz]
            rw [hy]
            show RoundIn Fence.wide 0 P l fn _ asg body wy _
            refine roundIn_of_wpIn trivial ?_
            refine wpIn_mono (iha aa (some l) hD 0 0 { tmps := _, defers := [] } wy ⟨fr'.size, fr'.get⟩ hwy (DefOk.nil _ _ _) (Nat.zero_le _)) fun ex a₁ w₂ hp => ?_
            cases ex with
            | normal =>
              obtain ⟨e1, σ1, fr1, he1, _, hl1, hD1⟩ := hp
              have hgl1 := run_getLoop (P := P) (he1.le l _ hl1)
              refine ⟨{ w₂ with heap := w₂.heap.setIfInBounds l (obj .busy none) }, ?_, ?_⟩
              · simp only [Instr.beginRound, Sem.run_bind, hgl1, Result.andThen_ok]
                rw [run_setLoop (P := P) (he1.le l _ hl1)]
                rfl
              · have e2 : Ext σ1 w₂ (σ1.put l (obj .busy none)) { w₂ with heap := w₂.heap.setIfInBounds l (obj .busy none) } := Ext.set he1.le hl1 rfl rfl rfl rfl
                refine wpIn_mono (ihb ab (some l) hD1 0 0 a₁ _ fr1 e2.le (by rename_i hdd; exact hdd.ext e2) (Nat.zero_le _)) fun ex a₃ w₃ hp => ?_
                have fin : ∀ (σ2 : H) (j : Option Code) (b : Bool) (s : LoopState), Ext (σ1.put l (obj .busy none)) { w₂ with heap := w₂.heap.setIfInBounds l (obj .busy none) } σ2 w₃ → roundK l obj K j b s σ2 → b = j.isNone → s = (if j.isNone then .ready else .done) →
                    ∃ v w', (Instr.endRound l j).run P w₃ = .ok v w' ∧ ∃ v', Ending.returned v = .returned v' ∧ ∃ σ'', Ext σ' wy σ'' w' ∧ K v' σ'' := by
                  intro σ2 j b s he2 hrk hb hs
                  obtain ⟨hl2, hk⟩ := hrk
                  have hgl2 := run_getLoop (P := P) (he2.le l _ hl2)
                  refine ⟨.bool b, { w₃ with heap := w₃.heap.setIfInBounds l (obj s j) }, ?_, .bool b, rfl, σ2.put l (obj s j), ?_, hk⟩
                  · simp only [Instr.endRound, Sem.run_bind, hgl2, Result.andThen_ok]
                    rw [run_setLoop (P := P) (he2.le l _ hl2)]
                    subst hb hs; rfl
                  · exact ((he1.trans e2).trans he2).trans (Ext.set he2.le hl2 rfl rfl rfl rfl)
                cases ex with
                | normal => obtain ⟨_, σ2, _, he2, _, hk⟩ := hp; exact fin σ2 none true .ready he2 hk rfl rfl
                | exit i => obtain ⟨_, σ2, _, he2, _, hk⟩ := hp; exact fin σ2 (some (.exit i)) false .done he2 hk rfl rfl
                | ret => obtain ⟨_, σ2, _, he2, _, hk⟩ := hp; exact fin σ2 (some .ret) false .done he2 hk rfl rfl
                | goto l => exact hp.elim
                | panic c => exact hp.elim
                | outgrown => exact hp.elim
            | exit i => obtain ⟨_, _, _, _, _, hk⟩ := hp; exact hk.elim
            | ret => obtain ⟨_, _, _, _, _, hk⟩ := hp; exact hk.elim
            | goto l => exact hp.elim
            | panic c => exact hp.elim
            | outgrown => exact hp.elim)
          refine (callsIn_any (ro := ro) (n := n - 1) (hY w₁ hext.le)).mono fun en w₃ hr => ?_
          obtain ⟨v, rfl, σ', he', s, j, hl', hns, hj⟩ := hr
          have hgl := run_getLoop (P := P) (he'.le l _ hl')
          have e4 : Ext σ' w₃ (σ'.put l (obj .exhausted j)) { w₃ with heap := w₃.heap.setIfInBounds l (obj .exhausted j) } := Ext.set he'.le hl' rfl rfl rfl rfl
          refine ⟨j, { w₃ with heap := w₃.heap.setIfInBounds l (obj .exhausted j) }, ?_, ?_⟩
          · simp only [Instr.endLoop, Sem.run_bind, hgl, Result.andThen_ok]
            have : (s == LoopState.busy) = false := by simpa using hns
            simp only [this, Bool.false_eq_true, if_false, Sem.run_bind]
            rw [run_setLoop (P := P) (he'.le l _ hl')]
            rfl
          · have hde := (hdef.ext he').ext e4
            have het := (hext.trans he').trans e4
            split at hj
            · exact ⟨e, _, ⟨fr.size, fr.get⟩, het, hde, hj⟩
            · exact wpIn_exit ⟨e, _, ⟨fr.size, fr.get⟩, het, hde, hj⟩
            · exact wpIn_ret ⟨e, _, ⟨fr.size, fr.get⟩, het, hde, hj⟩
            · exact hj.elim
      · exact h.elim
    · exact h.elim
end
end Go.HL

/- A FUNCTION's BODY AS A FORMULA gives the call. -/
namespace Go.HL
open Go
section
variable {P : Program} {τ : TypeId → TK} {N : Nat}

def resOne (tmps : Array Value) : ResultVar → Sem Value
  | .tmp t => pure (tmps.getD t undef)
  | .cell a t => do loadVar t (← asAddr (tmps.getD a undef))

theorem resG_sound {e : Env} {a : Act} (fr : FR N e a) {w : World} : ∀ (rs : List ResultVar) {k : List Value → H → Prop} {σ : H}, σ.le w → resG P τ e rs k σ →
    ∃ vs, (rs.mapM (resOne a.tmps)).run P w = .ok vs w ∧ k vs σ := by
  intro rs
  induction rs with
  | nil => intro k σ _ h; exact ⟨[], by simp, h⟩
  | cons r rs ih =>
    intro k σ hw h
    cases r with
    | tmp t =>
      simp only [resG] at h
      split at h
      · rename_i v hv
        obtain ⟨vs, h1, h2⟩ := ih hw h
        refine ⟨v :: vs, ?_, h2⟩
        have : a.tmps.getD t undef = v := by simp [fr.get t v hv]
        simp [List.mapM_cons, resOne, this, h1]
      · exact h.elim
    | cell c t =>
      simp only [resG] at h
      split at h
      · rename_i p hp ha
        obtain ⟨b, o, rfl, v, hr, h⟩ := ptrW_get h
        obtain ⟨vs, h1, h2⟩ := ih hw (app_lam h)
        refine ⟨v :: vs, ?_, h2⟩
        have hc : a.tmps.getD c undef = .pointer (some ⟨b, o, none⟩) := by simp [fr.get c _ hp]
        have hl := rdC_sound ha hr hw
        simp only [Instr.loadAt, Sem.run_bind, run_sureAddr, Result.andThen_ok] at hl
        simp [List.mapM_cons, resOne, hc, asAddr, hl, h1]
      · rename_i p n hp ha hn
        obtain ⟨b, o, rfl, v, hr, h⟩ := ptrW_get h
        obtain ⟨vs, h1, h2⟩ := ih hw (app_lam h)
        refine ⟨v :: vs, ?_, h2⟩
        have hc : a.tmps.getD c undef = .pointer (some ⟨b, o, none⟩) := by simp [fr.get c _ hp]
        have hl := rdA_sound ha hn hr hw
        simp only [Instr.loadAt, Sem.run_bind, run_sureAddr, Result.andThen_ok] at hl
        simp [List.mapM_cons, resOne, hc, asAddr, hl, h1]
      · exact h.elim
theorem resF_sound {fn : Func} {e : Env} {a : Act} (fr : FR N e a) {w : World} {K : Value → H → Prop} {σ : H} (hw : σ.le w) (h : resF P τ fn.results.toList K e σ) :
    ∃ v, (results fn a.tmps).run P w = .ok v w ∧ K v σ := by
  obtain ⟨vs, h1, h2⟩ := resG_sound fr _ hw h
  refine ⟨tupL vs, ?_, h2⟩
  simp only [results, Sem.run_bind]
  have h3 : (fn.results.mapM (resOne a.tmps)).run P w = .ok vs.toArray w := by
    rw [Array.mapM_eq_mapM_toList]
    simp [h1]
  show ((fn.results.mapM (resOne a.tmps)).run P w).andThen _ = _
  rw [h3]
  simp only [Result.andThen_ok, Sem.run_pure]
  congr 1
  cases vs with
  | nil => rfl
  | cons v vs => cases vs with
    | nil => rfl
    | cons u us => simp [tupL]

theorem argE_get : ∀ (vs : List Value) (i j : Nat) (v : Value), (argE i vs).get? j = some v → i ≤ j ∧ vs[j - i]? = some v := by
  intro vs
  induction vs with
  | nil => intro i j v h; simp [argE, Env.get?] at h
  | cons u vs ih =>
    intro i j v h
    simp only [argE, Env.get?] at h
    split at h
    · rename_i hb
      have := Nat.eq_of_beq_eq_true hb
      subst this; cases h; simp
    · obtain ⟨h1, h2⟩ := ih (i + 1) j v h
      refine ⟨by omega, ?_⟩
      rw [show j - i = (j - (i + 1)) + 1 by omega]
      simpa using h2

theorem leaves_marks {fn : Func} {tmps : Array Value} {R : Ending → World → Prop} {n B : Nat} {σ : H} : ∀ (ms : List Nat) (w : World), ms.Nodup → (∀ r ∈ ms, B ≤ r ∧ σ r = none ∧ w.heap[r]? = some (.deferred (some []))) → σ.le w →
    (∀ w', σ.le w' → w'.heap.size = w.heap.size → (∀ b, b < B → w'.heap[b]? = w.heap[b]?) → w'.os = w.os → w'.tape = w.tape → w'.output = w.output → ∃ v, (results fn tmps).run P w' = .ok v w' ∧ R (.returned v) w') →
    LeavesInM Fence.wide n P fn tmps R (ms.map markOf) .returning w := by
  intro ms
  induction ms with
  | nil =>
    intro w _ _ hw h
    exact h w hw rfl (fun _ _ => rfl) rfl rfl rfl
  | cons r ms ih =>
    intro w hnd hms hw h
    obtain ⟨hrm, hnd⟩ := List.nodup_cons.1 hnd
    obtain ⟨hB, hn, hr⟩ := hms r (List.mem_cons_self ..)
    have hle : σ.le { w with heap := w.heap.setIfInBounds r (.deferred none) } := by
      intro b o hb
      have hne : r ≠ b := by intro e; subst e; rw [hn] at hb; cases hb
      show (w.heap.setIfInBounds r (.deferred none))[b]? = _
      rw [Array.getElem?_setIfInBounds, if_neg hne]; exact hw b o hb
    refine ⟨by simp, .inl ⟨r, { w with heap := w.heap.setIfInBounds r (.deferred none) }, rfl, ?_, ?_⟩⟩
    · have hg : (getObj r).run P w = .ok (.deferred (some [])) w := by simp [getObj, Sem.run, hr]
      have hs : (setObj r (.deferred none)).run P w = .ok () { w with heap := w.heap.setIfInBounds r (.deferred none) } := by simp [setObj, Sem.run, hr]
      simp [Instr.takeDeferred, hg, hs]
    · refine ih _ hnd (fun r' hr' => ?_) hle fun w' h1 h2 h3 h4 h5 h6 => ?_
      · obtain ⟨q1, q2, q3⟩ := hms r' (List.mem_cons_of_mem _ hr')
        refine ⟨q1, q2, ?_⟩
        have hne : r ≠ r' := by intro e; subst e; exact hrm hr'
        show (w.heap.setIfInBounds r (.deferred none))[r']? = _
        rw [Array.getElem?_setIfInBounds, if_neg hne]; exact q3
      · refine h w' h1 (by simpa using h2) (fun b hb => ?_) h4 h5 h6
        rw [h3 b hb]
        show (w.heap.setIfInBounds r (.deferred none))[b]? = _
        rw [Array.getElem?_setIfInBounds, if_neg (by omega)]

theorem call_of_body (hm : P.follows .mixedOrders = true) {f : FuncId} {fn : Func} (hf : P.funcs[f]? = some fn) {an : Ann} {args : List Value} {K : Value → H → Prop} {σ : H} (h : bodyF P τ fn an args K σ) : callW P f args K σ := by
  unfold bodyF at h
  split at h
  · rename_i c hc
    split at h
    · rename_i hle
      have hle := Nat.le_of_ble_eq_true hle
      intro w hw
      refine callsIn_of_wp_marks hf hc trivial ?_
      have fr : FR fn.ntmps (argE 0 args) { tmps := args.toArray ++ Array.replicate (fn.ntmps - args.toArray.size) undef, defers := [] } := by
        refine ⟨by simp; omega, fun i v hi => ?_⟩
        obtain ⟨_, h2⟩ := argE_get args 0 i v hi
        simp only [Nat.sub_zero] at h2
        have hlt : i < args.length := by
          rcases Nat.lt_or_ge i args.length with h | h
          · exact h
          · rw [List.getElem?_eq_none h] at h2; cases h2
        rw [Array.getElem?_append, if_pos (by simpa using hlt)]
        simpa using h2
      refine wpIn_mono (D_sound hm c an none h 0 w.heap.size _ w fr hw (DefOk.nil _ _ _) (Nat.le_refl _)) fun ex a w' hp => ?_
      have fin : ∀ e σ', FR fn.ntmps e a → Ext σ w σ' w' → DefOk w.heap.size σ' w' a.defers → resF P τ fn.results.toList K e σ' →
          LeavesInM Fence.wide 0 P fn a.tmps (fun e w' => ∃ v, e = .returned v ∧ ∃ σ', Ext σ w σ' w' ∧ K v σ') a.defers .returning w' := by
        intro e σ' fr' he hd hres
        obtain ⟨ms, h1, h2, h3⟩ := hd
        rw [h2]
        refine leaves_marks ms w' h1 h3 he.le fun w'' q1 q2 q3 q4 q5 q6 => ?_
        obtain ⟨v, hv, hk⟩ := resF_sound fr' q1 hres
        refine ⟨v, hv, v, rfl, σ', ⟨q1, by rw [q2]; exact he.size, fun b hb hn => by rw [q3 b hb]; exact he.keep b hb hn, he.own, q4.trans he.os, q5.trans he.tape, q6.trans he.output⟩, hk⟩
      cases ex with
      | normal => obtain ⟨e, σ', fr', he, hd, hres⟩ := hp; exact fin e σ' fr' he hd hres
      | ret => obtain ⟨e, σ', fr', he, hd, hres⟩ := hp; exact fin e σ' fr' he hd hres
      | exit i => obtain ⟨_, _, _, _, _, hres⟩ := hp; exact hres.elim
      | goto l => exact hp.elim
      | panic c => exact hp.elim
      | outgrown => exact hp.elim
    · exact h.elim
  · exact h.elim
end
end Go.HL

/- STEPS: how a text is gone. -/
namespace Go.HL
open Go

/-- what is there stays there -/
def Gr (σ σ' : H) : Prop := ∀ b o, σ b = some o → σ' b = some o
theorem Gr.refl (σ : H) : Gr σ σ := fun _ _ h => h
theorem Gr.trans {σ₁ σ₂ σ₃ : H} (h : Gr σ₁ σ₂) (k : Gr σ₂ σ₃) : Gr σ₁ σ₃ := fun b o hb => k b o (h b o hb)
theorem Gr.get {σ σ' : H} (h : Gr σ σ') {b : Nat} {o : Obj} (hb : σ b = some o) : σ' b = some o := h b o hb
theorem Gr.put {σ : H} {b : Nat} (hb : σ b = none) (o : Obj) : Gr σ (σ.put b o) := by
  intro c oc hc
  rw [H.put_other]
  · exact hc
  · intro e; subst e; rw [hb] at hc; cases hc
/-- one block is set -/
def Put (σ : H) (b : Nat) (o : Obj) (σ' : H) : Prop := σ' = σ.put b o
theorem Put.same {σ σ' : H} {b : Nat} {o : Obj} (h : Put σ b o σ') : σ' b = some o := by rw [h, H.put_same]
theorem Put.get {σ σ' : H} {b c : Nat} {o oc : Obj} (h : Put σ b o σ') (hne : c ≠ b) (hc : σ c = some oc) : σ' c = some oc := by rw [h, H.put_other _ _ hne]; exact hc
theorem ne_of {σ : H} {b c : Nat} {o o' : Obj} (hb : σ b = some o) (hc : σ c = some o') (h : o ≠ o') : b ≠ c := by
  intro e; subst e; rw [hb] at hc; cases hc; exact h rfl
theorem ne_fresh {σ : H} {b c : Nat} {o : Obj} (hb : σ b = some o) (hc : σ c = none) : b ≠ c := by
  intro e; subst e; rw [hb] at hc; cases hc

theorem Ext.drop {σ σ' σ'' : H} {w w' : World} (h : Ext σ w σ' w') (hg : Gr σ'' σ') : Ext σ w σ'' w' :=
  ⟨fun b o hb => h.le b o (hg b o hb), h.size, h.keep, fun b o hb hn => h.own b o (hg b o hb) hn, h.os, h.tape, h.output⟩
section
variable {P : Program}
/-- what is made besides may be forgotten -/
theorem callW.drop {f : FuncId} {args : List Value} {K K' : Value → H → Prop} {σ : H} (h : callW P f args K' σ) (hk : ∀ v σ', K' v σ' → ∃ σ'', Gr σ'' σ' ∧ K v σ'') : callW P f args K σ := by
  intro w hw
  refine (h w hw).mono fun e w' ⟨v, he, σ', hx, hk'⟩ => ?_
  obtain ⟨σ'', hg, hk''⟩ := hk v σ' hk'
  exact ⟨v, he, σ'', hx.drop hg, hk''⟩
theorem invW.drop {s : Sem Next} {K K' : Value → H → Prop} {σ : H} (h : invW P s K' σ) (hk : ∀ v σ', K' v σ' → ∃ σ'', Gr σ'' σ' ∧ K v σ'') : invW P s K σ := by
  intro w hw
  refine (h w hw).mono fun v w' ⟨σ', hx, hk'⟩ => ?_
  obtain ⟨σ'', hg, hk''⟩ := hk v σ' hk'
  exact ⟨σ'', hx.drop hg, hk''⟩
/-- a function that changes nothing -/
theorem callW.pure {f : FuncId} {args : List Value} {K : Value → H → Prop} {σ : H} {v : Value} (h : callW P f args (fun u σ' => u = v ∧ Gr σ σ') σ) (hk : K v σ) : callW P f args K σ :=
  h.drop fun _ _ ⟨hu, hg⟩ => ⟨σ, hg, hu ▸ hk⟩
/-- a smaller heaplet serves -/
theorem callW.from {f : FuncId} {args : List Value} {K : Value → H → Prop} {σ τ : H} (hg : Gr τ σ) (h : callW P f args K τ) : callW P f args (fun v σ' => ∃ τ', K v τ' ∧ Gr τ' σ' ∧ ∀ b o, τ b = none → σ b = some o → σ' b = some o) σ := by
  intro w hw
  have hτ : τ.le w := fun b o hb => hw b o (hg b o hb)
  refine (h w hτ).mono fun e w' ⟨v, he, τ', hx, hk⟩ => ?_
  have hS : ∃ S : H, (∀ b o, τ b = some o → S b = τ' b) ∧ ∀ b, τ b = none → S b = (σ b).or (τ' b) :=
    ⟨fun b => if (τ b).isSome then τ' b else (σ b).or (τ' b), fun b o hb => by simp [hb], fun b hb => by simp [hb]⟩
  obtain ⟨S, hS1, hS2⟩ := hS
  have hsz : ∀ b o, σ b = some o → b < w.heap.size := fun b o hb => hw.lt hb
  refine ⟨v, he, S, ⟨fun b o hb => ?_, hx.size, fun b hb hn => ?_, fun b o hb hn => ?_, hx.os, hx.tape, hx.output⟩, τ', hk, ?_, ?_⟩
  · cases ht : τ b with
    | some o' => rw [hS1 b o' ht] at hb; exact hx.le b o hb
    | none =>
      rw [hS2 b ht] at hb
      cases hs : σ b with
      | none => rw [hs] at hb; simp at hb; exact hx.le b o hb
      | some o' => rw [hs] at hb; simp at hb; subst hb; rw [hx.keep b (hsz b o' hs) ht]; exact hw b o' hs
  · refine hx.keep b hb ?_
    cases ht : τ b with
    | none => rfl
    | some o => rw [hg b o ht] at hn; cases hn
  · have hnt : τ b = none := by
      cases ht : τ b with
      | none => rfl
      | some o => rw [hg b o ht] at hn; cases hn
    rw [hS2 b hnt, hn] at hb
    simp at hb
    exact hx.own b o hb hnt
  · intro b o hb
    cases ht : τ b with
    | some o' => rw [hS1 b o' ht]; exact hb
    | none =>
      rw [hS2 b ht]
      cases hs : σ b with
      | none => simpa using hb
      | some o' => have := hx.own b o hb ht; have := hsz b o' hs; omega
  · intro b o hb hs
    rw [hS2 b hb, hs]; rfl

/-! ### Steps -/
theorem al_i {obj : Obj} {g : Nat → H → Prop} {σ : H} (h : ∀ b σ', Gr σ σ' → σ' b = some obj → σ b = none → g b σ') : alW obj g σ :=
  fun b hb => h b _ (Gr.put hb obj) (H.put_same _ _ _) hb
theorem ptr_i {b o : Nat} {g : Nat → Nat → H → Prop} {σ : H} (h : g b o σ) : ptrW (some ⟨b, o, none⟩) g σ := h
theorem if_i {c : Prop} {g : H → Prop} {σ : H} (hc : c) (h : g σ) : ifW c g σ := ⟨hc, h⟩
theorem br_t {t : Bool} {A B : H → Prop} {σ : H} (ht : t = true) (h : A σ) : brW t A B σ := by subst ht; exact h
theorem br_f {t : Bool} {A B : H → Prop} {σ : H} (ht : t = false) (h : B σ) : brW t A B σ := by subst ht; exact h
theorem br_i {t : Bool} {A B : H → Prop} {σ : H} (h1 : t = true → A σ) (h2 : t = false → B σ) : brW t A B σ := by cases t <;> simp_all [brW]
theorem and_i {c g : H → Prop} {σ : H} (h1 : c σ) (h2 : g σ) : andW c g σ := ⟨h1, h2⟩
theorem j_d {T : Type} {j : T} {f : T → H → Prop} {σ : H} (h : f j σ) : letJ j f σ := h
theorem j_i {T : Type} {j : T} {f : T → H → Prop} {σ : H} (Q : T → Prop) (h1 : Q j) (h2 : ∀ j, Q j → f j σ) : letJ j f σ := h2 j h1
theorem loop_i {ks : List CK} {F : FnC ks (H → Prop) → FnC ks (H → Prop)} {st : FnC ks (H → Prop) → H → Prop} {σ : H} (h : ∀ R : FnC ks (H → Prop), leC ks (F R) R → st R σ) : loopW ks F st σ := h
theorem rdC_of {σ : H} {b o : Nat} {l : List Value} {t : TypeId} {fz : Nat × Nat} {v : Value} (h : σ b = some (.cells ⟨l⟩ t fz)) (hv : l[o]? = some v) : rdC b o σ = some v := by
  simp [rdC, h, hv]
theorem rdA_of {σ : H} {n b o : Nat} {l : List Value} {t : TypeId} {fz : Nat × Nat} (h : σ b = some (.cells ⟨l⟩ t fz)) (hv : o + n ≤ l.length) : rdA n b o σ = some (.agg ⟨(l.drop o).take n⟩) := by
  simp [rdA, h, hv]
section
variable {σ : H} {r : H → Option Value}
theorem rd_I {n : Int} {k : IntKind} {F : Int → H → Prop} (h : r σ = some (.int k n)) (h2 : F n σ) : rdT r (.one (.sc (.int k))) F σ := ⟨_, h, by simp only [app, TK.prj, CK.prj, SK.prj, prjInt, sameK_self]; exact h2⟩
theorem rd_B {x : Bool} {F : Bool → H → Prop} (h : r σ = some (.bool x)) (h2 : F x σ) : rdT r (.one (.sc .bool)) F σ := ⟨_, h, h2⟩
theorem rd_S {x : ByteArray} {F : ByteArray → H → Prop} (h : r σ = some (.string x)) (h2 : F x σ) : rdT r (.one (.sc .str)) F σ := ⟨_, h, h2⟩
theorem rd_P {x : Option Addr} {F : Option Addr → H → Prop} (h : r σ = some (.pointer x)) (h2 : F x σ) : rdT r (.one (.sc .ptr)) F σ := ⟨_, h, h2⟩
theorem rd_L {x : Option Addr} {n c : Nat} {F : Sl → H → Prop} (h : r σ = some (.slice x n c)) (h2 : F ⟨x, n, c⟩ σ) : rdT r (.one (.sc .slc)) F σ := ⟨_, h, h2⟩
theorem rd_M {x : Option Nat} {F : Option Nat → H → Prop} (h : r σ = some (.map x)) (h2 : F x σ) : rdT r (.one (.sc .map)) F σ := ⟨_, h, h2⟩
theorem rd_R {x : Value} {F : Value → H → Prop} (h : r σ = some x) (h2 : F x σ) : rdT r (.one (.sc .raw)) F σ := ⟨_, h, h2⟩
theorem rd_G {t : TK} {F : t.Fn (H → Prop)} {v : Value} (h : r σ = some v) (h2 : app t F v σ) : rdT r t F σ := ⟨_, h, h2⟩
theorem app_I {n : Int} {k : IntKind} {F : Int → H → Prop} (h2 : F n σ) : app (.one (.sc (.int k))) F (.int k n) σ := by simp only [app, TK.prj, CK.prj, SK.prj, prjInt, sameK_self]; exact h2
theorem app_B {x : Bool} {F : Bool → H → Prop} (h2 : F x σ) : app (.one (.sc .bool)) F (.bool x) σ := h2
theorem app_S {x : ByteArray} {F : ByteArray → H → Prop} (h2 : F x σ) : app (.one (.sc .str)) F (.string x) σ := h2
theorem app_P {x : Option Addr} {F : Option Addr → H → Prop} (h2 : F x σ) : app (.one (.sc .ptr)) F (.pointer x) σ := h2
theorem app_L {x : Option Addr} {n c : Nat} {F : Sl → H → Prop} (h2 : F ⟨x, n, c⟩ σ) : app (.one (.sc .slc)) F (.slice x n c) σ := h2
theorem app_M {x : Option Nat} {F : Option Nat → H → Prop} (h2 : F x σ) : app (.one (.sc .map)) F (.map x) σ := h2
theorem app_R {x : Value} {F : Value → H → Prop} (h2 : F x σ) : app (.one (.sc .raw)) F x σ := h2
theorem app_U {F : H → Prop} (h2 : F σ) : app (.tup []) F (.tuple ⟨[]⟩) σ := h2
theorem app_II {a b : Int} {k k' : IntKind} {F : Int → Int → H → Prop} (h2 : F a b σ) : app (.tup [.sc (.int k), .sc (.int k')]) F (.tuple ⟨[.int k a, .int k' b]⟩) σ := by
  simp only [app, TK.prj, CK.prj, SK.prj, prjInt, sameK_self, tupOf, prjC]; exact h2
theorem app_IB {a : Int} {b : Bool} {k : IntKind} {F : Int → Bool → H → Prop} (h2 : F a b σ) : app (.tup [.sc (.int k), .sc .bool]) F (.tuple ⟨[.int k a, .bool b]⟩) σ := by
  simp only [app, TK.prj, CK.prj, SK.prj, prjInt, sameK_self, tupOf, prjC, prjBool]; exact h2
end
theorem call_i {f : FuncId} {args : List Value} {t : TK} {F : t.Fn (H → Prop)} {σ : H} (h : callW P f args (app t F) σ) : callT P f args t F σ := h
theorem cval_i {g : FuncId} {as cs vs : List Value} {t : TK} {F : t.Fn (H → Prop)} {σ : H} (hg : isGo P g = true) (h : callW P g (as ++ vs ++ cs) (app t F) σ) : cvalT P (.func (.func g) ⟨as⟩ ⟨cs⟩) vs t F σ := by
  unfold cvalT callVW; simp only [hg]; exact h

theorem cvalv_i {fv : Value} {vs : List Value} {t : TK} {F : t.Fn (H → Prop)} {σ : H} (h : callVW P fv vs (app t F) σ) : cvalT P fv vs t F σ := h

/-! ### Storing -/
theorem run_storeCells_at {b : Nat} {t : TypeId} {fz : Nat × Nat} {o : Nat} : ∀ (vs : List Value) (i : Nat) (l : List Value) (w : World), w.heap[b]? = some (.cells ⟨l⟩ t fz) → o + i + vs.length ≤ l.length → (∀ v ∈ vs, v.oneCell' = true) → (fz.2 ≤ fz.1 ∨ l.length ≤ fz.1) →
    (storeCells ⟨b, o, none⟩ vs i).run P w = .ok () { w with heap := w.heap.setIfInBounds b (.cells ⟨l.take (o + i) ++ vs ++ l.drop (o + i + vs.length)⟩ t fz) } := by
  intro vs
  induction vs with
  | nil =>
    intro i l w hb _ _ _
    have : (w.heap.setIfInBounds b (.cells ⟨l.take (o + i) ++ [] ++ l.drop (o + i + 0)⟩ t fz)) = w.heap := by
      simp only [List.append_nil, Nat.add_zero, List.take_append_drop]
      have hlt : b < w.heap.size := (Array.getElem?_eq_some_iff.1 hb).1
      apply Array.ext_getElem?
      intro k
      rw [Array.getElem?_setIfInBounds]
      split
      · rename_i e; subst e; rw [hb]
      · rfl
    simp only [List.length_nil, this, storeCells]
    rfl
  | cons v vs ih =>
    intro i l w hb hlen h1 hfz
    simp only [List.length_cons] at hlen
    have hi : o + i < l.length := by omega
    have hcell : w.cell? ⟨b, o + i, none⟩ = some l[o + i] := by simp [World.cell?, hb, hi]
    have hfro : w.frozen? ⟨b, o + i, none⟩ = false := by
      simp only [World.frozen?, hb, Bool.and_eq_false_iff, decide_eq_false_iff_not]
      obtain ⟨lo, hi'⟩ := fz
      simp only at hfz ⊢
      omega
    have hset : w.setCell ⟨b, o + i, none⟩ v = { w with heap := w.heap.setIfInBounds b (.cells ⟨l.set (o + i) v⟩ t fz) } := by
      have hlt : b < w.heap.size := (Array.getElem?_eq_some_iff.1 hb).1
      unfold World.setCell
      congr 1
      apply Array.ext_getElem?
      intro k
      rw [Array.getElem?_setIfInBounds, Array.getElem?_modify]
      split
      · rename_i e; subst e; rw [hb]; simp
      · rfl
    have hst : (store ((⟨b, o, none⟩ : Addr).add i) v).run P w = .ok () { w with heap := w.heap.setIfInBounds b (.cells ⟨l.set (o + i) v⟩ t fz) } := by
      rw [add_none, run_store P w _ v _ (h1 v (by simp)), hcell]
      simp [hfro, hset]
    have hlt : b < w.heap.size := (Array.getElem?_eq_some_iff.1 hb).1
    have := ih (i + 1) (l.set (o + i) v) { w with heap := w.heap.setIfInBounds b (.cells ⟨l.set (o + i) v⟩ t fz) } (by simp [hlt]) (by simp; omega) (fun x hx => h1 x (by simp [hx])) (by simpa using hfz)
    simp only [storeCells, Sem.run_bind, hst, Result.andThen_ok, this]
    congr 2
    have e1 : ∀ (x y : Obj), (w.heap.setIfInBounds b x).setIfInBounds b y = w.heap.setIfInBounds b y := by intro x y; simp
    rw [e1]
    congr 2
    congr 1
    have e2 : l.set (o + i) v = l.take (o + i) ++ v :: l.drop (o + i + 1) := by
      rw [List.set_eq_take_append_cons_drop, if_pos hi]
    have e3 : (l.take (o + i)).length = o + i := by simp; omega
    have e4 : (l.set (o + i) v).take (o + (i + 1)) = l.take (o + i) ++ [v] := by
      rw [e2, show o + (i + 1) = (l.take (o + i)).length + 1 by omega, List.take_length_add_append]; simp
    have e5 : (l.set (o + i) v).drop (o + (i + 1) + vs.length) = l.drop (o + i + (vs.length + 1)) := by
      rw [e2, show o + (i + 1) + vs.length = (l.take (o + i)).length + (vs.length + 1) by omega, List.drop_length_add_append]
      simp only [List.drop_succ_cons, List.drop_drop]
      congr 1; omega
    rw [e4, e5]; simp
theorem st_i {t : TypeId} {b o : Nat} {v : Value} {g : H → Prop} {σ : H} {l : List Value} {e : TypeId} {fz : Nat × Nat} (hb : σ b = some (.cells ⟨l⟩ e fz)) (hs : sizeT P t = some (arrL v.cells).length) (ho : o + (arrL v.cells).length ≤ l.length)
    (h1 : ∀ x ∈ arrL v.cells, x.oneCell' = true) (hfz : fz.2 ≤ fz.1 ∨ l.length ≤ fz.1) (h : ∀ σ', Put σ b (.cells ⟨l.take o ++ arrL v.cells ++ l.drop (o + (arrL v.cells).length)⟩ e fz) σ' → g σ') : stW P t (.pointer (some ⟨b, o, none⟩)) v g σ := by
  intro w hw
  have hrun : (doS (Instr.storeAt t (.pointer (some ⟨b, o, none⟩)) v)).run P w = .ok .skip { w with heap := w.heap.setIfInBounds b (.cells ⟨l.take o ++ arrL v.cells ++ l.drop (o + (arrL v.cells).length)⟩ e fz) } := by
    have hsz : v.cells.size = (arrL v.cells).length := by cases hc : v.cells; simp [arrL]
    have hl : v.cells.toList = arrL v.cells := by cases hc : v.cells; simp [arrL]
    have := run_storeCells_at (P := P) (o := o) (arrL v.cells) 0 l w (hw b _ hb) (by simpa using ho) h1 hfz
    simp only [Nat.add_zero] at this
    simp only [doS, Instr.storeAt, Sem.run_bind, run_sureAddr, Result.andThen_ok, storeVar, run_sizeOf hs, hsz, ne_eq, not_true_eq_false, if_false, hl, this]
    rfl
  rw [hrun]
  exact ⟨_, Ext.set hw hb rfl rfl rfl rfl, h _ rfl⟩
theorem st_i2 {t : TypeId} {b o : Nat} {v : Value} {g : H → Prop} {σ : H} {l : List Value} {e : TypeId} (hb : σ b = some (.cells ⟨l⟩ e (0, 0))) (hs : sizeT P t = some (arrL v.cells).length) (ho : Nat.ble (o + (arrL v.cells).length) l.length = true)
    (h1 : (arrL v.cells).all (·.oneCell') = true) (h : ∀ σ', Put σ b (.cells ⟨l.take o ++ arrL v.cells ++ l.drop (o + (arrL v.cells).length)⟩ e (0, 0)) σ' → g σ') : stW P t (.pointer (some ⟨b, o, none⟩)) v g σ :=
  st_i hb hs (Nat.le_of_ble_eq_true ho) (fun x hx => List.all_eq_true.1 h1 x hx) (.inl (Nat.le_refl _)) h
end
theorem rdA_of' {σ : H} {n b o : Nat} {l r : List Value} {t : TypeId} {fz : Nat × Nat} (h : σ b = some (.cells ⟨l⟩ t fz)) (hv : (bif Nat.ble (o + n) l.length then some ((l.drop o).take n) else none) = some r) : rdA n b o σ = some (.agg ⟨r⟩) := by
  cases hb : Nat.ble (o + n) l.length with
  | false => rw [hb] at hv; cases hv
  | true =>
    rw [hb] at hv; cases hv
    exact rdA_of h (Nat.le_of_ble_eq_true hb)
theorem ne_fresh' {σ : H} {b c : Nat} {o : Obj} (hc : σ c = none) (hb : σ b = some o) : b ≠ c := ne_fresh hb hc
theorem none_of {σ σ' : H} {b : Nat} (hg : Gr σ σ') (h : σ' b = none) : σ b = none := by
  cases hc : σ b with
  | none => rfl
  | some o => rw [hg b o hc] at h; cases h
theorem Gr.putF {σ σ1 σ2 : H} {b : Nat} {o : Obj} (hg : Gr σ σ1) (hp : Put σ1 b o σ2) (hn : σ b = none) : Gr σ σ2 := by
  intro c oc hc
  exact hp.get (ne_fresh hc hn) (hg c oc hc)
theorem pure_i {P : Program} {f : FuncId} {args : List Value} {K : Value → H → Prop} {σ : H} (v : Value) (hk : K v σ) (h : callW P f args (fun u σ' => u = v ∧ Gr σ σ') σ) : callW P f args K σ := callW.pure h hk
end Go.HL

/- MAPS in a heaplet. -/
namespace Go.HL
open Go

/-- a map's entries, whatever their stamps -/
def MapAt (σ : H) (b : Nat) (l : List (Value × Value)) : Prop := ∃ es c, σ b = some (.map es c) ∧ es.toList.map (fun e => (e.key, e.val)) = l ∧ MapKept.Stamped es c
theorem MapAt.gr {σ σ' : H} {b : Nat} {l : List (Value × Value)} (h : MapAt σ b l) (hg : Gr σ σ') : MapAt σ' b l := by
  obtain ⟨es, c, h1, h2⟩ := h; exact ⟨es, c, hg b _ h1, h2⟩
theorem MapAt.put {σ σ' : H} {b c : Nat} {o : Obj} {l : List (Value × Value)} (h : MapAt σ b l) (hp : Put σ c o σ') (hne : b ≠ c) : MapAt σ' b l := by
  obtain ⟨es, k, h1, h2⟩ := h; exact ⟨es, k, hp.get hne h1, h2⟩
theorem MapAt.new {σ : H} {b : Nat} (h : σ b = some (.map #[] 0)) : MapAt σ b [] := ⟨_, _, h, rfl, MapKept.stamped_empty _⟩

/-- looking up by a key -/
def lk {κ α : Type} [BEq κ] (k : κ) : List (κ × α) → Option α
  | [] => none
  | (j, v) :: r => match k == j with
    | true => some v
    | false => lk k r
/-- setting a key -/
def up {κ α : Type} [BEq κ] (k : κ) (v : α) : List (κ × α) → List (κ × α)
  | [] => [(k, v)]
  | (j, u) :: r => match k == j with
    | true => (k, v) :: r
    | false => (j, u) :: up k v r
/-- letting a key go -/
def rm {κ α : Type} [BEq κ] (k : κ) : List (κ × α) → List (κ × α)
  | [] => []
  | (j, u) :: r => match k == j with
    | true => r
    | false => (j, u) :: rm k r

/-- a key's kind -/
structure KK (κ : Type) [BEq κ] where
  d : TypeDesc
  inj : κ → Value
  same : ∀ a b, Instr.sameNow d (inj a) (inj b) = some (a == b)
  bits : ∀ a b, (a == b) = true → Instr.sameBits 10000 (inj b) (inj a) = true
  refl : ∀ a : κ, (a == a) = true
  eq : ∀ a b, (a == b) = true → inj a = inj b
  scal : scalD d = true
theorem ba_ext {a b : ByteArray} (h : a.toList = b.toList) : a = b := by
  rw [ByteArray.toList_eq, ByteArray.toList_eq] at h
  obtain ⟨⟨x⟩⟩ := a
  obtain ⟨⟨y⟩⟩ := b
  simp at h
  rw [h]
def kkS : KK ByteArray := ⟨.string, .string, fun _ _ => rfl, fun a b h => by
  have : (b == a) = true := by
    rw [beq_toListBytes] at h ⊢
    have := eq_of_beq h
    rw [this]; simp
  simpa [Instr.sameBits] using this, fun a => by rw [beq_toListBytes]; simp, fun a b h => by rw [beq_toListBytes] at h; rw [ba_ext (eq_of_beq h)], rfl⟩
def kkI : KK Int := ⟨.int .i64, .int .i64, fun _ _ => by simp [Instr.sameNow], fun a b h => by
  have := eq_of_beq h; subst this; simp [Instr.sameBits], fun a => by simp, fun a b h => by rw [eq_of_beq h], rfl⟩

def encL {κ α : Type} [BEq κ] (kk : KK κ) (f : α → Value) (l : List (κ × α)) : List (Value × Value) := l.map fun (k, v) => (kk.inj k, f v)

section
variable {κ α : Type} [BEq κ] {kk : KK κ} {f : α → Value}
theorem findNow_enc : ∀ (es : List MapEntry) (l : List (κ × α)) (k : κ) (i : Nat), es.map (fun e => (e.key, e.val)) = encL kk f l →
    Instr.findNow kk.d (kk.inj k) es i = some ((lk k l).map fun v => (i + (l.findIdx fun x => k == x.1), f v)) := by
  intro es
  induction es with
  | nil => intro l k i h; cases l with | nil => rfl | cons x l => simp [encL] at h
  | cons e es ih =>
    intro l k i h
    cases l with
    | nil => simp [encL] at h
    | cons x l =>
      obtain ⟨j, v⟩ := x
      simp only [encL, List.map_cons, List.cons.injEq, Prod.mk.injEq] at h
      obtain ⟨⟨h1, h2⟩, h3⟩ := h
      simp only [Instr.findNow, h1, kk.same, lk, List.findIdx_cons]
      cases hk : (k == j) with
      | true => simp [h2]
      | false =>
        simp only [ih l k (i + 1) h3, cond_false]
        cases lk k l with
        | none => rfl
        | some u => simp; omega
theorem rdM_at {σ : H} {b : Nat} {l : List (κ × α)} (h : MapAt σ b (encL kk f l)) (z : Value) (ok : Bool) (k : κ) :
    rdM kk.d z ok (some b) (kk.inj k) σ = some (okV ok (((lk k l).map f).getD z) (lk k l).isSome) := by
  obtain ⟨es, c, h1, h2, _⟩ := h
  simp only [rdM, h1, findNow_enc es.toList l k 0 h2]
  cases lk k l <;> simp
theorem rdLen_at {σ : H} {b : Nat} {l : List (Value × Value)} (h : MapAt σ b l) : rdLen (some b) σ = some (.int .i64 l.length) := by
  obtain ⟨es, c, h1, h2, _⟩ := h
  simp only [rdLen, h1]
  congr 2
  rw [← h2]; simp

theorem lk_isSome_idx : ∀ (l : List (κ × α)) (k : κ), (lk k l).isSome = true → l.findIdx (fun x => k == x.1) < l.length := by
  intro l k
  induction l with
  | nil => intro h; simp [lk] at h
  | cons x l ih =>
    obtain ⟨j, v⟩ := x
    intro h
    simp only [lk] at h
    simp only [List.findIdx_cons]
    cases hk : (k == j) with
    | true => simp
    | false =>
      simp only [hk] at h
      simp only [cond_false, List.length_cons]
      exact Nat.succ_lt_succ (ih h)
theorem enc_up_found : ∀ (l : List (κ × α)) (k : κ) (v : α) (es : List MapEntry), (lk k l).isSome = true → es.map (fun e => (e.key, e.val)) = encL kk f l →
    ((es.modify (l.findIdx fun x => k == x.1) fun e => { e with key := kk.inj k, val := f v }).map fun e => (e.key, e.val)) = encL kk f (up k v l) := by
  intro l
  induction l with
  | nil => intro k v es h; simp [lk] at h
  | cons x l ih =>
    obtain ⟨j, u⟩ := x
    intro k v es h he
    cases es with
    | nil => simp [encL] at he
    | cons e es =>
      simp only [encL, List.map_cons, List.cons.injEq, Prod.mk.injEq] at he
      obtain ⟨⟨h1, h2⟩, h3⟩ := he
      simp only [lk] at h
      simp only [List.findIdx_cons, up]
      cases hk : (k == j) with
      | true => simp [encL, h3]
      | false =>
        simp only [hk] at h
        have := ih k v es h h3
        simp only [cond_false, List.modify_succ_cons, List.map_cons, this, encL, h1, h2]
theorem enc_up_new : ∀ (l : List (κ × α)) (k : κ) (v : α), lk k l = none → up k v l = l ++ [(k, v)] := by
  intro l k v
  induction l with
  | nil => intro _; rfl
  | cons x l ih =>
    obtain ⟨j, u⟩ := x
    intro h
    simp only [lk] at h
    simp only [up]
    cases hk : (k == j) with
    | true => simp [hk] at h
    | false => simp only [hk] at h; simp [ih h]
theorem enc_rm : ∀ (l : List (κ × α)) (k : κ) (es : List MapEntry), (lk k l).isSome = true → es.map (fun e => (e.key, e.val)) = encL kk f l →
    ((es.eraseIdx (l.findIdx fun x => k == x.1)).map fun e => (e.key, e.val)) = encL kk f (rm k l) := by
  intro l
  induction l with
  | nil => intro k es h; simp [lk] at h
  | cons x l ih =>
    obtain ⟨j, u⟩ := x
    intro k es h he
    cases es with
    | nil => simp [encL] at he
    | cons e es =>
      simp only [encL, List.map_cons, List.cons.injEq, Prod.mk.injEq] at he
      obtain ⟨⟨h1, h2⟩, h3⟩ := he
      simp only [lk] at h
      simp only [List.findIdx_cons, rm]
      cases hk : (k == j) with
      | true => simp [encL, h3]
      | false =>
        simp only [hk] at h
        have := ih k es h h3
        simp only [cond_false, List.eraseIdx_cons_succ, List.map_cons, this, encL, h1, h2]
theorem rm_none : ∀ (l : List (κ × α)) (k : κ), lk k l = none → rm k l = l := by
  intro l k
  induction l with
  | nil => intro _; rfl
  | cons x l ih =>
    obtain ⟨j, u⟩ := x
    intro h
    simp only [lk] at h
    simp only [rm]
    cases hk : (k == j) with
    | true => simp [hk] at h
    | false => simp only [hk] at h; simp [ih h]

variable {P : Program}
theorem run_getMap {b : Nat} {es : Array MapEntry} {c : Nat} {w : World} (h : w.heap[b]? = some (.map es c)) : (getObj b).run P w = .ok (.map es c) w := by simp [getObj, Sem.run, h]
theorem run_setMap {b : Nat} {es : Array MapEntry} {c : Nat} {o : Obj} {w : World} (h : w.heap[b]? = some (.map es c)) : (setObj b o).run P w = .ok () { w with heap := w.heap.setIfInBounds b o } := by simp [setObj, Sem.run, h]

theorem enc_keys_ne {l : List (κ × α)} {k : κ} (hl : lk k l = none) : ∀ {es : List MapEntry}, es.map (fun e => (e.key, e.val)) = encL kk f l → ∀ x ∈ es, x.key ≠ kk.inj k := by
  induction l with
  | nil => intro es h; cases es with | nil => intro x hx; cases hx | cons e es => simp [encL] at h
  | cons y l ih =>
    obtain ⟨j, u⟩ := y
    intro es h
    cases es with
    | nil => intro x hx; cases hx
    | cons e es =>
      simp only [encL, List.map_cons, List.cons.injEq, Prod.mk.injEq] at h
      obtain ⟨⟨h1, h2⟩, h3⟩ := h
      simp only [lk] at hl
      cases hk : (k == j) with
      | true => rw [hk] at hl; cases hl
      | false =>
        rw [hk] at hl
        intro x hx
        rcases List.mem_cons.1 hx with e' | hx
        · subst e'
          intro e2
          rw [h1] at e2
          have q1 := kk.same k j
          have q2 := kk.same k k
          rw [e2, q2, kk.refl, hk] at q1
          cases q1
        · exact ih hl h3 x hx
/-- 'm[k] = v' -/
theorem mu_i {t kt et : TypeId} (ht : P.underlying t = some (.map kt et)) (hk : P.underlying kt = some kk.d) {σ : H} {b : Nat} {l : List (κ × α)} (h : MapAt σ b (encL kk f l)) (k : κ) (v : α) {g : H → Prop}
    (hg : ∀ o σ', Put σ b o σ' → MapAt σ' b (encL kk f (up k v l)) → g σ') : muW P t (.map (some b)) (kk.inj k) (f v) g σ := by
  obtain ⟨es, c, h1, h2, hst⟩ := h
  intro w hw
  have hb := hw b _ h1
  have hf := findNow_enc es.toList l k 0 h2
  have hun : (underlying t).run P w = .ok (.map kt et) w := by simp [underlying, ht]
  have hck := run_checkKey (P := P) (b := false) (n := 9999) (v := kk.inj k) hk kk.scal w
  cases hl : lk k l with
  | none =>
    rw [hl] at hf
    have hfk := run_findKey (P := P) hk hf w
    have hrun : (doS (Instr.mapUpdate t (.map (some b)) (kk.inj k) (f v))).run P w = .ok .skip { w with heap := w.heap.setIfInBounds b (.map (es.push { key := kk.inj k, val := f v, born := c }) (c + 1)) } := by
      simp only [doS, Instr.mapUpdate, Sem.run_bind, hun, Result.andThen_ok, run_getMap hb, hck, hfk, Option.map_none, run_setMap hb, Sem.run_pure]
    rw [hrun]
    refine ⟨_, Ext.set hw h1 rfl rfl rfl rfl, app_U (hg _ _ rfl ⟨_, _, H.put_same _ _ _, ?_, MapKept.stamped_push hst (enc_keys_ne hl h2)⟩)⟩
    rw [enc_up_new l k v hl]
    simp [encL] at h2 ⊢
    exact h2
  | some u =>
    rw [hl] at hf
    simp only [Option.map_some, Nat.zero_add] at hf
    have hfk := run_findKey (P := P) hk hf w
    have hkey : ∃ j, (es[l.findIdx fun x => k == x.1]?).map (·.key) = some (kk.inj j) ∧ (k == j) = true := by
      have : ∀ (l : List (κ × α)) (es : List MapEntry), (lk k l).isSome = true → es.map (fun e => (e.key, e.val)) = encL kk f l → ∃ j, (es[l.findIdx fun x => k == x.1]?).map (·.key) = some (kk.inj j) ∧ (k == j) = true := by
        intro l
        induction l with
        | nil => intro es h; simp [lk] at h
        | cons x l ih =>
          obtain ⟨j, u⟩ := x
          intro es h he
          cases es with
          | nil => simp [encL] at he
          | cons e es =>
            simp only [encL, List.map_cons, List.cons.injEq, Prod.mk.injEq] at he
            obtain ⟨⟨h1, h2⟩, h3⟩ := he
            simp only [lk] at h
            simp only [List.findIdx_cons]
            cases hk : (k == j) with
            | true => exact ⟨j, by simp [h1], hk⟩
            | false => simp only [hk] at h; simpa using ih es h h3
      have := this l es.toList (by rw [hl]; rfl) h2
      simpa using this
    obtain ⟨j, hj, hkj⟩ := hkey
    have hstay : (Instr.keyThatStays (((es[l.findIdx fun x => k == x.1]?).map (·.key)).getD (kk.inj k)) (kk.inj k)).run P w = .ok (kk.inj k) w := by
      simp only [hj, Option.getD_some, Instr.keyThatStays, kk.bits k j hkj, if_true, Sem.run_pure]
    have hrun : (doS (Instr.mapUpdate t (.map (some b)) (kk.inj k) (f v))).run P w = .ok .skip { w with heap := w.heap.setIfInBounds b (.map (es.modify (l.findIdx fun x => k == x.1) fun e => { e with key := kk.inj k, val := f v }) c) } := by
      simp only [doS, Instr.mapUpdate, Sem.run_bind, hun, Result.andThen_ok, run_getMap hb, hck, hfk, hstay, run_setMap hb, Sem.run_pure]
    rw [hrun]
    refine ⟨_, Ext.set hw h1 rfl rfl rfl rfl, app_U (hg _ _ rfl ⟨_, _, H.put_same _ _ _, ?_, MapKept.stamped_modify hst _ _ (fun _ _ => rfl) (fun e _ he => ?_)⟩)⟩
    case refine_2 =>
      rw [he] at hj
      simp only [Option.map_some, Option.some.injEq] at hj
      show kk.inj k = e.key
      rw [hj, kk.eq k j hkj]
    rw [Array.toList_modify]
    exact enc_up_found l k v es.toList (by rw [hl]; rfl) h2

/-- 'delete(m, k)' -/
theorem del_i {t kt et : TypeId} {ts : List TypeId} (ht : P.underlying t = some (.map kt et)) (hk : P.underlying kt = some kk.d) {ty : TypeId} {cs : List Bool} {σ : H} {b : Nat} {l : List (κ × α)} (h : MapAt σ b (encL kk f l)) (k : κ) {g : H → Prop}
    (hg : ∀ o σ', Put σ b o σ' → MapAt σ' b (encL kk f (rm k l)) → g σ') : biW P .delete ⟨t :: ts⟩ ty cs [.map (some b), kk.inj k] (.tup []) g σ := by
  obtain ⟨es, c, h1, h2, hst⟩ := h
  intro w hw
  have hb := hw b _ h1
  have hf := findNow_enc es.toList l k 0 h2
  have hun : (underlying t).run P w = .ok (.map kt et) w := by simp [underlying, ht]
  have hck := run_checkKey (P := P) (b := es.isEmpty) (n := 9999) (v := kk.inj k) hk kk.scal w
  cases hl : lk k l with
  | none =>
    rw [hl] at hf
    have hfk := run_findKey (P := P) hk hf w
    have hrun : (builtin .delete ⟨t :: ts⟩ ty ⟨cs⟩ ⟨[.map (some b), kk.inj k]⟩).run P w = .ok (.value (.tuple #[])) { w with heap := w.heap.setIfInBounds b (.map es c) } := by
      simp [builtin, Builtin.delete_, hun, run_getMap hb, hck, hfk, run_setMap hb]
    rw [hrun]
    refine ⟨_, Ext.set hw h1 rfl rfl rfl rfl, app_U (hg _ _ rfl ⟨_, _, H.put_same _ _ _, ?_, hst⟩)⟩
    rw [rm_none l k hl]; exact h2
  | some u =>
    rw [hl] at hf
    simp only [Option.map_some, Nat.zero_add] at hf
    have hfk := run_findKey (P := P) hk hf w
    have hrun : (builtin .delete ⟨t :: ts⟩ ty ⟨cs⟩ ⟨[.map (some b), kk.inj k]⟩).run P w = .ok (.value (.tuple #[])) { w with heap := w.heap.setIfInBounds b (.map (es.eraseIdxIfInBounds (l.findIdx fun x => k == x.1)) c) } := by
      simp [builtin, Builtin.delete_, hun, run_getMap hb, hck, hfk, run_setMap hb]
    rw [hrun]
    refine ⟨_, Ext.set hw h1 rfl rfl rfl rfl, app_U (hg _ _ rfl ⟨_, _, H.put_same _ _ _, ?_, MapKept.stamped_erase hst _⟩)⟩
    have hlt : (l.findIdx fun x => k == x.1) < es.size := by
      have := lk_isSome_idx l k (by rw [hl]; rfl)
      have e := congrArg List.length h2
      simp [encL] at e; omega
    have := enc_rm (kk := kk) (f := f) l k es.toList (by rw [hl]; rfl) h2
    rw [← this]
    congr 1
    simp [Array.eraseIdxIfInBounds, hlt]
end
end Go.HL

/- LISTS THAT ARE MAPS: laws of lk, up, rm. -/
namespace Go.HL
open Go
instance : LawfulBEq ByteArray where
  eq_of_beq h := by rw [beq_toListBytes] at h; exact ba_ext (eq_of_beq h)
  rfl := by intro a; rw [beq_toListBytes]; simp
theorem strEq_iff {a b : ByteArray} : strEq a b = true ↔ a = b := by
  constructor
  · intro h; exact ba_ext (eq_of_beq h)
  · intro h; subst h; simp [strEq]
theorem strEq_beq (a b : ByteArray) : strEq a b = (a == b) := by rw [beq_toListBytes]; rfl
section
variable {κ α β : Type} [BEq κ] [LawfulBEq κ]
def keysL (l : List (κ × α)) : List κ := l.map (·.1)
theorem lk_up (k j : κ) (v : α) : ∀ l : List (κ × α), lk j (up k v l) = if j == k then some v else lk j l := by
  intro l
  induction l with
  | nil => simp only [up, lk]; cases h : (j == k) <;> simp
  | cons x l ih =>
    obtain ⟨i, u⟩ := x
    simp only [up]
    cases h : (k == i) with
    | true =>
      have := eq_of_beq h; subst this
      simp only [lk]
      cases (j == k) <;> simp
    | false =>
      simp only [lk]
      cases h2 : (j == i) with
      | true =>
        have := eq_of_beq h2; subst this
        have : (j == k) = false := by
          cases h3 : (j == k) with
          | false => rfl
          | true => have := eq_of_beq h3; subst this; simp at h
        simp [this]
      | false => simp [ih]
theorem lk_none_iff {k : κ} : ∀ {l : List (κ × α)}, lk k l = none ↔ k ∉ keysL l := by
  intro l
  induction l with
  | nil => simp [lk, keysL]
  | cons x l ih =>
    obtain ⟨i, u⟩ := x
    simp only [lk, keysL, List.map_cons, List.mem_cons, not_or]
    cases h : (k == i) with
    | true => have := eq_of_beq h; subst this; simp
    | false =>
      simp only [ih, keysL]
      constructor
      · intro hh; exact ⟨by intro e; subst e; simp at h, hh⟩
      · intro hh; exact hh.2
theorem lk_rm {k j : κ} : ∀ {l : List (κ × α)}, (keysL l).Nodup → lk j (rm k l) = if j == k then none else lk j l := by
  intro l
  induction l with
  | nil => intro _; simp [rm, lk]
  | cons x l ih =>
    obtain ⟨i, u⟩ := x
    intro hn
    simp only [keysL, List.map_cons, List.nodup_cons] at hn
    simp only [rm]
    cases h : (k == i) with
    | true =>
      have := eq_of_beq h; subst this
      simp only [lk]
      cases h2 : (j == k) with
      | true => have := eq_of_beq h2; subst this; simp; exact lk_none_iff.2 hn.1
      | false => simp
    | false =>
      simp only [lk]
      cases h2 : (j == i) with
      | true =>
        have := eq_of_beq h2; subst this
        have : (j == k) = false := by
          cases h3 : (j == k) with
          | false => rfl
          | true => have := eq_of_beq h3; subst this; simp at h
        simp [this]
      | false => simp [ih hn.2]
theorem lk_map (f : α → β) (k : κ) : ∀ l : List (κ × α), lk k (l.map fun p => (p.1, f p.2)) = (lk k l).map f := by
  intro l
  induction l with
  | nil => rfl
  | cons x l ih => obtain ⟨i, u⟩ := x; simp only [List.map_cons, lk]; cases (k == i) <;> simp [ih]
theorem up_map (f : α → β) (k : κ) (v : α) : ∀ l : List (κ × α), (up k v l).map (fun p => (p.1, f p.2)) = up k (f v) (l.map fun p => (p.1, f p.2)) := by
  intro l
  induction l with
  | nil => rfl
  | cons x l ih => obtain ⟨i, u⟩ := x; simp only [List.map_cons, up]; cases (k == i) <;> simp [ih]
theorem rm_map (f : α → β) (k : κ) : ∀ l : List (κ × α), (rm k l).map (fun p => (p.1, f p.2)) = rm k (l.map fun p => (p.1, f p.2)) := by
  intro l
  induction l with
  | nil => rfl
  | cons x l ih => obtain ⟨i, u⟩ := x; simp only [List.map_cons, rm]; cases (k == i) <;> simp [ih]
theorem enc_up_same {kk : KK κ} {f : α → Value} {k : κ} {v u : α} : ∀ {l : List (κ × α)}, lk k l = some u → f v = f u → encL kk f (up k v l) = encL kk f l := by
  intro l
  induction l with
  | nil => intro h; simp [lk] at h
  | cons x l ih =>
    obtain ⟨i, w⟩ := x
    intro h hf
    simp only [lk] at h
    simp only [up]
    cases hk : (k == i) with
    | true => rw [hk] at h; have := eq_of_beq hk; subst this; cases h; simp [encL, hf]
    | false => rw [hk] at h; have := ih h hf; simp only [encL] at this ⊢; simp [this]
theorem up_self {k : κ} {v : α} : ∀ {l : List (κ × α)}, lk k l = some v → up k v l = l := by
  intro l
  induction l with
  | nil => intro h; simp [lk] at h
  | cons x l ih =>
    obtain ⟨i, w⟩ := x
    intro h
    simp only [lk] at h
    simp only [up]
    cases hk : (k == i) with
    | true => rw [hk] at h; have := eq_of_beq hk; subst this; cases h; rfl
    | false => rw [hk] at h; simp only [ih h]
theorem keys_map (f : α → β) (l : List (κ × α)) : keysL (l.map fun p => (p.1, f p.2)) = keysL l := by simp [keysL]
theorem keys_up_some {k : κ} {v : α} : ∀ {l : List (κ × α)}, (lk k l).isSome = true → keysL (up k v l) = keysL l := by
  intro l
  induction l with
  | nil => intro h; simp [lk] at h
  | cons x l ih =>
    obtain ⟨i, w⟩ := x
    intro h
    simp only [lk] at h
    simp only [up]
    cases hk : (k == i) with
    | true => have := eq_of_beq hk; subst this; simp [keysL]
    | false => rw [hk] at h; have := ih h; simp only [keysL] at this ⊢; simp [this]
theorem keys_up_none {k : κ} {v : α} {l : List (κ × α)} (h : lk k l = none) : keysL (up k v l) = keysL l ++ [k] := by
  rw [enc_up_new l k v h]; simp [keysL]
theorem nodup_up {k : κ} {v : α} {l : List (κ × α)} (h : (keysL l).Nodup) : (keysL (up k v l)).Nodup := by
  cases hk : lk k l with
  | none =>
    rw [keys_up_none hk]
    have := lk_none_iff.1 hk
    rw [List.nodup_append]
    refine ⟨h, by simp, ?_⟩
    intro a ha b hb
    simp at hb; subst hb
    intro e; subst e; exact this ha
  | some u => rw [keys_up_some (by rw [hk]; rfl)]; exact h
theorem rm_sub {k : κ} : ∀ {l : List (κ × α)}, (rm k l).Sublist l := by
  intro l
  induction l with
  | nil => exact List.Sublist.refl _
  | cons x l ih =>
    obtain ⟨i, w⟩ := x
    simp only [rm]
    cases (k == i) with
    | true => exact List.sublist_cons_self ..
    | false => exact ih.cons₂ _
theorem nodup_rm {k : κ} {l : List (κ × α)} (h : (keysL l).Nodup) : (keysL (rm k l)).Nodup := h.sublist (rm_sub.map _)
end
theorem ne_fr {σ : H} {b c : Nat} (hc : σ c = none) (hb : (σ b).isSome = true) : b ≠ c := by
  intro e; subst e; rw [hc] at hb; cases hb
theorem isSome_of {σ : H} {b : Nat} {o : Obj} (h : σ b = some o) : (σ b).isSome = true := by rw [h]; rfl
theorem Gr.isSome {σ σ' : H} {b : Nat} (hg : Gr σ σ') (h : (σ b).isSome = true) : (σ' b).isSome = true := by
  cases hb : σ b with
  | none => rw [hb] at h; cases h
  | some o => exact isSome_of (hg b o hb)
theorem Put.isSome {σ σ' : H} {b c : Nat} {o : Obj} (hp : Put σ c o σ') (h : (σ b).isSome = true) : (σ' b).isSome = true := by
  by_cases e : b = c
  · subst e; exact isSome_of hp.same
  · cases hb : σ b with
    | none => rw [hb] at h; cases h
    | some o => exact isSome_of (hp.get e hb)
theorem MapAt.isSome {σ : H} {b : Nat} {l : List (Value × Value)} (h : MapAt σ b l) : (σ b).isSome = true := by
  obtain ⟨_, _, h, _⟩ := h; exact isSome_of h
/-! ### Short names, for searches -/
theorem io {σ : H} {b : Nat} {o : Obj} (h : σ b = some o) : (σ b).isSome = true := isSome_of h
theorem mS {σ : H} {b : Nat} {l : List (Value × Value)} (h : MapAt σ b l) : (σ b).isSome = true := h.isSome
theorem gS {σ σ' : H} {b : Nat} (hg : Gr σ σ') (h : (σ b).isSome = true) : (σ' b).isSome = true := hg.isSome h
theorem pS {σ σ' : H} {b c : Nat} {o : Obj} (hp : Put σ c o σ') (h : (σ b).isSome = true) : (σ' b).isSome = true := hp.isSome h
theorem gG {σ σ' : H} {b : Nat} {o : Obj} (hg : Gr σ σ') (h : σ b = some o) : σ' b = some o := hg.get h
theorem pE {σ σ' : H} {b : Nat} {o : Obj} (h : Put σ b o σ') : σ' b = some o := h.same
theorem pG {σ σ' : H} {b c : Nat} {o oc : Obj} (h : Put σ b o σ') (hne : c ≠ b) (hc : σ c = some oc) : σ' c = some oc := h.get hne hc
theorem app_of {t : TK} {F : t.Fn (H → Prop)} {v : Value} {g : H → Prop} {σ : H} (h : t.prj F v = some g) (hg : g σ) : app t F v σ := by
  unfold app runO; rw [h]; exact hg
theorem rdT_of {σ : H} {b o : Nat} {t : TK} {F : t.Fn (H → Prop)} {l : List Value} {ty : TypeId} {fz : Nat × Nat} {v : Value} (h : σ b = some (.cells ⟨l⟩ ty fz)) (hv : l[o]? = some v) (h2 : app t F v σ) : rdT (rdC b o) t F σ := ⟨v, rdC_of h hv, h2⟩
theorem rdA_i {σ : H} {n b o : Nat} {t : TK} {F : t.Fn (H → Prop)} {l r : List Value} {ty : TypeId} {fz : Nat × Nat} (h : σ b = some (.cells ⟨l⟩ ty fz)) (hv : (bif Nat.ble (o + n) l.length then some ((l.drop o).take n) else none) = some r) (h2 : app t F (.agg ⟨r⟩) σ) : rdT (rdA n b o) t F σ := ⟨_, rdA_of' h hv, h2⟩
end Go.HL

/- A TABLE OF INODES, as plain data: no program in sight. -/
namespace Go.Wk
open Go Go.HL
/-- an inode -/
structure AN where
  kind : Int
  mode : Int
  data : ByteArray
  links : Int
  up : Int
  ents : List (ByteArray × Int)
/-- a table -/
structure AT where
  qi : Int
  qb : Int
  ui : Int
  ub : Int
  last : Int
  nodes : List (Int × AN)
def AT.get (A : AT) (i : Int) : Option AN := lk i A.nodes
def AT.find (A : AT) (dir : Int) (name : ByteArray) : Option Int := (A.get dir).bind fun n => lk name n.ents
def AT.kind (A : AT) (i : Int) : Int := ((A.get i).map (·.kind)).getD 0
def AT.upOf (A : AT) (i : Int) : Int := ((A.get i).map (·.up)).getD 0
def AT.dirE (A : AT) (ino : Int) : Int := match A.get ino with
  | none => 5
  | some n => if n.kind == 2 then 0 else 8
def AT.fileE (A : AT) (ino : Int) : Int := match A.get ino with
  | none => 5
  | some n => if n.kind == 2 then 7 else if n.kind == 1 then 0 else 2
/-- texts that are equal, in a form that the kernel can run -/
def sEq (x y : ByteArray) : Bool := x.data.toList == y.data.toList
theorem sEq_eq (x y : ByteArray) : sEq x y = strEq x y := by unfold sEq strEq; rw [ByteArray.toList_eq, ByteArray.toList_eq]
theorem sEq_iff {x y : ByteArray} : sEq x y = true ↔ x = y := by rw [sEq_eq]; exact strEq_iff
def badByte (s : ByteArray) : Bool := s.data.toList.any fun c => c == 47 || c == 0
def hasNul (s : ByteArray) : Bool := s.data.toList.any fun c => c == 0
def namedE (name : ByteArray) : Int := if name.size > 56 then 3 else if !sEq name ⟨⟨[]⟩⟩ && !sEq name ⟨⟨[46]⟩⟩ && !sEq name ⟨⟨[46, 46]⟩⟩ && !badByte name then 0 else 2
def linkOk (d : ByteArray) : Bool := !sEq d ⟨⟨[]⟩⟩ && (decide (d.size ≤ 255) && !hasNul d)
def kindOkE (kind : Int) (d : ByteArray) : Bool := (lk kind [((1 : Int), true), (2, sEq d ⟨⟨[]⟩⟩), (3, linkOk d)]).getD false
def likeE (kind mode : Int) (d : ByteArray) : Int := if kindOkE kind d && (decide (0 ≤ mode) && decide (mode ≤ 511)) then 0 else 2
def wr (x : Int) : Int := IntKind.i64.wrap x
def AT.roomE (A : AT) (i n : Int) : Int := if wr (A.ui + i) ≤ A.qi ∧ wr (A.ub + n) ≤ A.qb then 0 else 10
def firstE : List Int → Int
  | [] => 0
  | e :: es => if e = 0 then firstE es else e
def AT.set (A : AT) (i : Int) (n : AN) : AT := { A with nodes := up i n A.nodes }
/-- setting what a directory names -/
def AT.ent (A : AT) (dir : Int) (f : List (ByteArray × Int) → List (ByteArray × Int)) : AT := match A.get dir with
  | none => A
  | some n => A.set dir { n with ents := f n.ents }
def AT.makeE (A : AT) (dir : Int) (name : ByteArray) (kind mode : Int) (data : ByteArray) : Int :=
  firstE [0, A.dirE dir, namedE name, likeE kind mode data, if (A.find dir name).isSome then 6 else 0, A.roomE 1 (data.size : Int)]
def AT.made (A : AT) (dir : Int) (name : ByteArray) (kind mode : Int) (data : ByteArray) : AT :=
  let i := wr (A.last + 1)
  let A1 := { A with last := i, nodes := up i ⟨kind, mode, data, 1, if kind == 2 then dir else 0, []⟩ A.nodes }
  let A2 := A1.ent dir (up name i)
  { A2 with ui := wr (A.ui + 1), ub := wr (A.ub + data.size) }
def AT.linkE (A : AT) (dir : Int) (name : ByteArray) (ino : Int) : Int :=
  firstE [0, A.dirE dir, namedE name, A.fileE ino, if (A.find dir name).isSome then 6 else 0]
def AT.mod (A : AT) (i : Int) (f : AN → AN) : AT := match A.get i with
  | none => A
  | some n => A.set i (f n)
def AT.linked (A : AT) (dir : Int) (name : ByteArray) (ino : Int) : AT := (A.ent dir (up name ino)).mod ino fun n => { n with links := wr (n.links + 1) }
def AT.unlinkE (A : AT) (dir : Int) (name : ByteArray) : Int :=
  firstE [0, A.dirE dir, if (A.find dir name).isSome then 0 else 5, if ((A.get ((A.find dir name).getD 0)).map (·.ents.length)).getD 0 = 0 then 0 else 20]
def AT.unlinked (A : AT) (dir : Int) (name : ByteArray) : AT :=
  let ino := (A.find dir name).getD 0
  let A1 := (A.ent dir (rm name)).mod ino fun n => { n with links := wr (n.links - 1) }
  match A1.get ino with
  | none => A1
  | some n => if n.links == 0 then { A1 with nodes := rm ino A1.nodes, ui := wr (A.ui - 1), ub := wr (A.ub - n.data.size) } else A1
/-- going up, so many steps at most: is that passed? -/
def AT.apart (A : AT) (ino : Int) : Nat → Int → Option Bool
  | 0, _ => none
  | f + 1, at_ => if at_ = 1 then some true else if at_ = ino then some false else (A.get at_).bind fun n => AT.apart A ino f n.up
def AT.moveE1 (A : AT) (src : Int) (name : ByteArray) (to : Int) (as_ : ByteArray) : Int :=
  firstE [0, A.dirE src, A.dirE to, namedE as_, if (A.find src name).isSome then 0 else 5]
def AT.moved (A : AT) (src : Int) (name : ByteArray) (to : Int) (as_ : ByteArray) : AT :=
  let ino := (A.find src name).getD 0
  ((A.ent src (rm name)).ent to (up as_ ino)).mod ino fun n => if n.kind == 2 then { n with up := to } else n
def AT.writeE (A : AT) (ino : Int) (data : ByteArray) : Int :=
  firstE [0, A.fileE ino, A.roomE 0 (wr ((data.size : Int) - ((A.get ino).map (·.data.size)).getD 0))]
def AT.written (A : AT) (ino : Int) (data : ByteArray) : AT := match A.get ino with
  | none => A
  | some n => { A.set ino { n with data := data } with ub := wr (A.ub + wr ((data.size : Int) - n.data.size)) }
def AT.chmodE (A : AT) (ino mode : Int) : Int := firstE [0, if 0 ≤ mode ∧ mode ≤ 511 then 0 else 2, if (A.get ino).isSome then 0 else 5]
def AT.chmoded (A : AT) (ino mode : Int) : AT := A.mod ino fun n => { n with mode := mode }
def newOk (qi qb : Int) : Bool := !(decide (qi < 1) || (decide (qi > 1048576) || (decide (qb < 0) || decide (qb > 1073741824))))
def newT (qi qb : Int) : AT := ⟨qi, qb, 1, 0, 1, [(1, ⟨2, 493, ⟨⟨[]⟩⟩, 1, 1, []⟩)]⟩
def AT.makeR (A : AT) (dir : Int) (name : ByteArray) (kind mode : Int) (data : ByteArray) : Int × Int × AT :=
  if A.makeE dir name kind mode data = 0 then (wr (A.last + 1), 0, A.made dir name kind mode data) else (0, A.makeE dir name kind mode data, A)
def AT.linkR (A : AT) (dir : Int) (name : ByteArray) (ino : Int) : Int × AT :=
  if A.linkE dir name ino = 0 then (0, A.linked dir name ino) else (A.linkE dir name ino, A)
def AT.writeR (A : AT) (ino : Int) (data : ByteArray) : Int × AT := if A.writeE ino data = 0 then (0, A.written ino data) else (A.writeE ino data, A)
def AT.chmodR (A : AT) (ino mode : Int) : Int × AT := if A.chmodE ino mode = 0 then (0, A.chmoded ino mode) else (A.chmodE ino mode, A)
def AT.unlinkR (A : AT) (dir : Int) (name : ByteArray) : Int × AT := if A.unlinkE dir name = 0 then (0, A.unlinked dir name) else (A.unlinkE dir name, A)
def AT.moveR (A : AT) (src : Int) (name : ByteArray) (to : Int) (as_ : ByteArray) (f : Nat) : Int × AT :=
  if A.moveE1 src name to as_ ≠ 0 ∨ (src = to ∧ name = as_) then (A.moveE1 src name to as_, A)
  else
    let e := firstE [if (A.find to as_).isSome then 6 else 0, if (A.apart ((A.find src name).getD 0) f to).getD false then 0 else 2]
    if e ≠ 0 then (e, A) else (0, A.moved src name to as_)
end Go.Wk

/- The kinds of the types. -/
namespace Go.Proofs.YtlpcehbfoogejaaGreatDoor
open Go Go.HL
@[reducible] def kI : TK := .one (.sc (.int .i64))
@[reducible] def kC : TK := .one (.sc (.int .u8))
@[reducible] def kB : TK := .one (.sc .bool)
@[reducible] def kS : TK := .one (.sc .str)
@[reducible] def kP : TK := .one (.sc .ptr)
@[reducible] def kL : TK := .one (.sc .slc)
@[reducible] def kM : TK := .one (.sc .map)
@[reducible] def kR : TK := .one (.sc .raw)
@[reducible] def kU : TK := .tup []
def tau : Nat → TK
  | 0 => kU
  | 2 => kI
  | 3 => kI
  | 4 => kB
  | 5 => kC
  | 6 => kC
  | 7 => (.one (.agg [(.int .i64), (.int .i64), .bool, (.int .u8)]))
  | 8 => (.one (.agg [(.int .i64), (.int .i64), .bool, (.int .u8)]))
  | 9 => kS
  | 10 => kS
  | 11 => kS
  | 12 => (.one (.sc (.int .u64)))
  | 13 => (.one (.agg [.str, (.int .u64)]))
  | 14 => (.one (.agg [.str, (.int .u64)]))
  | 15 => kP
  | 16 => kP
  | 17 => kP
  | 18 => (.one (.agg [.ptr]))
  | 19 => (.one (.agg [.ptr]))
  | 21 => (.one (.sc (.int .i32)))
  | 22 => kL
  | 23 => (.one (.agg [.str, (.int .i64), .bool, .str, .slc]))
  | 24 => (.one (.agg [.str, (.int .i64), .bool, .str, .slc]))
  | 27 => kP
  | 28 => kP
  | 30 => (.one (.agg [(.int .i64), (.int .i64)]))
  | 31 => (.one (.agg [(.int .i64), (.int .i64)]))
  | 32 => kI
  | 38 => kL
  | 39 => (.one (.agg [(.int .u8), .str, .str, .str, (.int .i64), .bool]))
  | 40 => (.one (.agg [(.int .u8), .str, .str, .str, (.int .i64), .bool]))
  | 45 => (.one (.sc (.int .u16)))
  | 47 => (.tup [.agg [.str, (.int .i64), .bool, .str, .slc], .sc (.int .i64)])
  | 53 => (.one (.agg [(.int .i64), (.int .i64), .str, (.int .i64)]))
  | 54 => (.one (.agg [(.int .i64), (.int .i64), .str, (.int .i64)]))
  | 55 => (.tup [.agg [(.int .i64), (.int .i64), .str, (.int .i64)], .sc (.int .i64)])
  | 58 => kL
  | 59 => (.one (.agg [.str, .str, .str, .str, .str, .str]))
  | 61 => kL
  | 62 => kP
  | 65 => (.one (.agg [(.int .u8), .str, .str, (.int .i64)]))
  | 66 => (.one (.agg [(.int .u8), .str, .str, (.int .i64)]))
  | 74 => kL
  | 75 => (.tup [.sc .slc, .sc (.int .i64)])
  | 78 => (.tup [.sc .str, .sc (.int .i64)])
  | 80 => kP
  | 82 => (.one (.agg [.ptr]))
  | 83 => (.one (.agg [.ptr]))
  | 85 => (.one (.agg [(.int .i64), .str, (.int .i64), .bool]))
  | 86 => (.one (.agg [(.int .i64), .str, (.int .i64), .bool]))
  | 88 => (.tup [.sc (.int .i64), .sc (.int .i64)])
  | 92 => (.tup [.sc (.int .i64), .sc (.int .i64)])
  | 96 => (.tup [.agg [(.int .i64), .str, (.int .i64), .bool], .sc (.int .i64)])
  | 98 => (.tup [.agg [(.int .i64), (.int .i64), .str, (.int .i64)], .sc .bool])
  | 103 => (.tup [.agg [(.int .i64), .str, (.int .i64), .bool], .agg [(.int .i64), .str, (.int .i64), .bool], .sc (.int .i64)])
  | 109 => (.one (.agg [.ptr]))
  | 110 => (.one (.agg [.ptr]))
  | 116 => kP
  | 117 => kL
  | 118 => (.one (.agg [(.int .i64), (.int .i64), .str, .slc, (.int .i64)]))
  | 119 => (.one (.agg [(.int .i64), (.int .i64), .str, .slc, (.int .i64)]))
  | 120 => kL
  | 121 => (.one (.agg [(.int .i64), (.int .i64), .slc]))
  | 122 => (.one (.agg [(.int .i64), (.int .i64), .slc]))
  | 123 => (.one (.sc (.int .u64)))
  | 124 => (.tup [.sc (.int .u64), .sc (.int .u64)])
  | 127 => kP
  | 128 => (.one (.agg [.ptr, .slc]))
  | 129 => (.one (.agg [.ptr, .slc]))
  | 133 => (.tup [.sc (.int .i64), .sc .raw])
  | 137 => (.tup [.sc (.int .i64), .sc .bool])
  | 139 => kP
  | 140 => kM
  | 141 => (.one (.agg [(.int .i64), (.int .i64), .str, (.int .i64), (.int .i64), .map]))
  | 142 => (.one (.agg [(.int .i64), (.int .i64), .str, (.int .i64), (.int .i64), .map]))
  | 143 => kM
  | 144 => (.one (.agg [(.int .i64), (.int .i64), (.int .i64), (.int .i64), .map, (.int .i64)]))
  | 145 => (.one (.agg [(.int .i64), (.int .i64), (.int .i64), (.int .i64), .map, (.int .i64)]))
  | 146 => kM
  | 154 => kM
  | 161 => (.tup [.sc .raw, .sc .bool])
  | 165 => kM
  | 167 => (.tup [.sc (.int .i32), .sc (.int .i64)])
  | 170 => (.one (.agg [(.int .i64), .str, (.int .i64)]))
  | 171 => (.one (.agg [(.int .i64), .str, (.int .i64)]))
  | 172 => (.tup [.agg [(.int .i64), .str, (.int .i64)], .sc (.int .i64)])
  | 179 => (.one (.sc (.int .u32)))
  | 180 => (.tup [.sc (.int .u32), .sc (.int .u32)])
  | 182 => (.one (.sc (.int .u64)))
  | 183 => (.tup [.sc (.int .u64), .sc (.int .u64)])
  | 185 => kP
  | 186 => kL
  | 198 => (.one (.agg [.str, (.int .i64)]))
  | 199 => (.one (.agg [.str, (.int .i64)]))
  | 203 => kL
  | 212 => (.one (.agg [(.int .u8), (.int .u8)]))
  | 213 => (.one (.agg [(.int .u8), (.int .u8)]))
  | 221 => (.tup [.sc .raw, .sc .bool])
  | 227 => kI
  | 228 => (.tup [.sc (.int .i64), .sc (.int .i64)])
  | 238 => kP
  | 239 => (.one (.sc (.int .u64)))
  | 244 => kP
  | 246 => (.one (.agg [.ptr, .ptr, .ptr, .str]))
  | 247 => (.one (.agg [.ptr, .ptr, .ptr, .str]))
  | 248 => (.one (.agg []))
  | 249 => (.one (.agg []))
  | 250 => (.one (.agg []))
  | 251 => kC
  | 252 => kC
  | 254 => (.one (.sc (.int .i32)))
  | 255 => (.one (.sc (.int .i32)))
  | 256 => (.one (.agg [(.int .u64), (.int .u64), (.int .u32), (.int .u8), (.int .u8), (.int .u8), (.int .u8), .raw, .ptr, (.int .i32), (.int .i32)]))
  | 257 => (.one (.agg [(.int .u64), (.int .u64), (.int .u32), (.int .u8), (.int .u8), (.int .u8), (.int .u8), .raw, .ptr, (.int .i32), (.int .i32)]))
  | _ => kR
theorem mixed : Tryz.prog.follows .mixedOrders = true := by kernel_rfl
end Go.Proofs.YtlpcehbfoogejaaGreatDoor

