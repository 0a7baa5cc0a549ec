/- A PART OF WHAT FOLLOWS: ModelKnown, called in any world that the card allows, answers true, and what its variables hold stays. -/
import Derived.RangeFuncLeaves
import Derived.Laws.World
import Derived.OrdersIn
namespace Go.HL
open Go

abbrev H := Nat → Option Obj
def H.le (σ : H) (w : World) : Prop := ∀ b o, σ b = some o → w.heap[b]? = some o
def H.put (σ : H) (b : Nat) (o : Obj) : H := fun k => if k = b then some o else σ k
theorem H.put_same (σ : H) (b : Nat) (o : Obj) : σ.put b o b = some o := by simp [H.put]
theorem H.put_other (σ : H) {b k : Nat} (o : Obj) (h : k ≠ b) : σ.put b o k = σ k := by simp [H.put, h]

structure Ext (σ : H) (w : World) (σ' : H) (w' : World) : Prop where
  le : σ'.le w'
  size : w.heap.size ≤ w'.heap.size
  keep : ∀ b, b < w.heap.size → σ b = none → w'.heap[b]? = w.heap[b]?
  own : ∀ b o, σ' b = some o → σ b = none → w.heap.size ≤ b
  os : w'.os = w.os
  tape : w'.tape = w.tape
  output : w'.output = w.output

theorem H.le.lt {σ : H} {w : World} (h : σ.le w) {b : Nat} {o : Obj} (hb : σ b = some o) : b < w.heap.size := by
  have := h b o hb
  rcases Nat.lt_or_ge b w.heap.size with h' | h'
  · exact h'
  · rw [Array.getElem?_eq_none h'] at this; cases this

theorem Ext.refl {σ : H} {w : World} (h : σ.le w) : Ext σ w σ w :=
  ⟨h, Nat.le_refl _, fun _ _ _ => rfl, (fun b o hb hn => by rw [hn] at hb; cases hb), rfl, rfl, rfl⟩

theorem Ext.trans {σ₁ σ₂ σ₃ : H} {w₁ w₂ w₃ : World} (h : Ext σ₁ w₁ σ₂ w₂) (k : Ext σ₂ w₂ σ₃ w₃) : Ext σ₁ w₁ σ₃ w₃ := by
  refine ⟨k.le, Nat.le_trans h.size k.size, fun b hb hn => ?_, fun b o hb hn => ?_, k.os.trans h.os, k.tape.trans h.tape, k.output.trans h.output⟩
  · have h2 : σ₂ b = none := by
      cases h2 : σ₂ b with
      | none => rfl
      | some o => have := h.own b o h2 hn; omega
    rw [k.keep b (Nat.lt_of_lt_of_le hb h.size) h2, h.keep b hb hn]
  · cases h2 : σ₂ b with
    | none => exact Nat.le_trans h.size (k.own b o hb h2)
    | some o' => exact h.own b o' h2 hn

/-- a draw changes nothing that a heaplet sees -/
theorem Ext.drew {σ : H} {w : World} (h : σ.le w) (d : Nat) : Ext σ w σ { w with drawn := d } :=
  ⟨h, Nat.le_refl _, fun _ _ _ => rfl, (fun b o hb hn => by rw [hn] at hb; cases hb), rfl, rfl, rfl⟩

theorem Ext.alloc {σ : H} {w : World} (h : σ.le w) (o : Obj) : σ w.heap.size = none ∧ Ext σ w (σ.put w.heap.size o) (w.alloc o) := by
  have hn : σ w.heap.size = none := by
    cases hc : σ w.heap.size with
    | none => rfl
    | some o' => exact absurd (h.lt hc) (Nat.lt_irrefl _)
  refine ⟨hn, ?_, by show w.heap.size ≤ (w.heap.push o).size; simp, ?_, ?_, rfl, rfl, rfl⟩
  · intro b o' hb
    by_cases e : b = w.heap.size
    · subst e; rw [H.put_same] at hb; show (w.heap.push o)[w.heap.size]? = _; simpa using hb
    · rw [H.put_other _ _ e] at hb
      have hlt := h.lt hb
      show (w.heap.push o)[b]? = _
      rw [Array.getElem?_push, if_neg (by omega)]; exact h b o' hb
  · intro b hb _
    show (w.heap.push o)[b]? = _
    rw [Array.getElem?_push, if_neg (by omega)]
  · intro b o' hb hn'
    by_cases e : b = w.heap.size
    · omega
    · rw [H.put_other _ _ e, hn'] at hb; cases hb

/-- one block of the heaplet is replaced -/
theorem Ext.set {σ : H} {w w' : World} (h : σ.le w) {b : Nat} {o o' : Obj} (hb : σ b = some o)
    (hh : w'.heap = w.heap.setIfInBounds b o') (h1 : w'.os = w.os) (h2 : w'.tape = w.tape) (h3 : w'.output = w.output) : Ext σ w (σ.put b o') w' := by
  have hlt := h.lt hb
  refine ⟨?_, by rw [hh]; simp, ?_, ?_, h1, h2, h3⟩
  · intro c oc hc
    rw [hh]
    by_cases e : c = b
    · subst e; rw [H.put_same] at hc; simp [hlt]; simpa using hc
    · rw [H.put_other _ _ e] at hc
      rw [Array.getElem?_setIfInBounds, if_neg (fun x => e x.symm)]; exact h c oc hc
  · intro c hc hn
    have : b ≠ c := by intro e; subst e; rw [hb] at hn; cases hn
    rw [hh, Array.getElem?_setIfInBounds, if_neg this]
  · intro c oc hc hn
    by_cases e : c = b
    · subst e; rw [hb] at hn; cases hn
    · rw [H.put_other _ _ e, hn] at hc; cases hc

/-- what an operation's run leads to -/
def reach (P : Program) (R : Value → World → Prop) : Result Next → Prop
  | .ok (.value v) w => R v w
  | .ok .skip w => R undef w
  | .ok (.enter f args) w => CallsIn Fence.wide 0 P f args w fun e w' => ∃ v, e = .returned v ∧ R v w'
  | .ok (.round l f tmps assign body) w => RoundIn Fence.wide 0 P l f tmps assign body w fun e w' => ∃ v, e = .returned v ∧ R v w'
  | _ => False

theorem reach.mono {P : Program} {R R' : Value → World → Prop} (hr : ∀ v w, R v w → R' v w) {x : Result Next} (h : reach P R x) : reach P R' x := by
  unfold reach at h ⊢
  split at h
  · exact hr _ _ h
  · exact hr _ _ h
  · exact h.mono fun e w' ⟨v, he, hv⟩ => ⟨v, he, hr _ _ hv⟩
  · exact h.mono fun e w' ⟨v, he, hv⟩ => ⟨v, he, hr _ _ hv⟩
  · exact h.elim

/-- an operation over a heaplet -/
def invW (P : Program) (s : Sem Next) (K : Value → H → Prop) (σ : H) : Prop :=
  ∀ w, σ.le w → reach P (fun v w' => ∃ σ', Ext σ w σ' w' ∧ K v σ') (s.run P w)

theorem invW.mono {P : Program} {s : Sem Next} {K K' : Value → H → Prop} {σ : H} (h : invW P s K σ) (hk : ∀ v σ', K v σ' → K' v σ') : invW P s K' σ :=
  fun w hw => (h w hw).mono fun _ _ ⟨σ', he, hv⟩ => ⟨σ', he, hk _ _ hv⟩

/-- a call over a heaplet -/
def callW (P : Program) (f : FuncId) (args : List Value) (K : Value → H → Prop) (σ : H) : Prop :=
  ∀ w, σ.le w → CallsIn Fence.wide 0 P f args.toArray w fun e w' => ∃ v, e = .returned v ∧ ∃ σ', Ext σ w σ' w' ∧ K v σ'

theorem callW.mono {P : Program} {f : FuncId} {args : List Value} {K K' : Value → H → Prop} {σ : H} (h : callW P f args K σ) (hk : ∀ v σ', K v σ' → K' v σ') : callW P f args K' σ :=
  fun w hw => (h w hw).mono fun _ _ ⟨v, e, σ', he, hv⟩ => ⟨v, e, σ', he, hk _ _ hv⟩

/-- THE FRAME RULE, one block -/
theorem Ext.frame {σ σ' : H} {w w' : World} {b : Nat} {o : Obj} (hb : σ b = none) (hw : (σ.put b o).le w) (he : Ext σ w σ' w') :
    σ' b = none ∧ Ext (σ.put b o) w (σ'.put b o) w' := by
  have hwb : w.heap[b]? = some o := hw b o (H.put_same _ _ _)
  have hlt : b < w.heap.size := hw.lt (H.put_same _ _ _)
  have hn : σ' b = none := by
    cases hc : σ' b with
    | none => rfl
    | some o' => have := he.own b o' hc hb; omega
  refine ⟨hn, ?_, he.size, ?_, ?_, he.os, he.tape, he.output⟩
  · intro c oc hc
    by_cases e : c = b
    · subst e; rw [H.put_same] at hc; cases hc; rw [he.keep c hlt hb, hwb]
    · rw [H.put_other _ _ e] at hc; exact he.le c oc hc
  · intro c hc hcn
    by_cases e : c = b
    · subst e; rw [H.put_same] at hcn; cases hcn
    · rw [H.put_other _ _ e] at hcn; exact he.keep c hc hcn
  · intro c oc hc hcn
    by_cases e : c = b
    · subst e; rw [H.put_same] at hcn; cases hcn
    · rw [H.put_other _ _ e] at hc hcn; exact he.own c oc hc hcn

theorem H.le_of_put {σ : H} {w : World} {b : Nat} {o : Obj} (hb : σ b = none) (hw : (σ.put b o).le w) : σ.le w := by
  intro c oc hc
  refine hw c oc ?_
  rw [H.put_other]
  · exact hc
  · intro e; subst e; rw [hb] at hc; cases hc

theorem invW.frame {P : Program} {s : Sem Next} {K : Value → H → Prop} {σ : H} (h : invW P s K σ) {b : Nat} {o : Obj} (hb : σ b = none) :
    invW P s (fun v σ' => ∃ σ₁, σ₁ b = none ∧ σ' = σ₁.put b o ∧ K v σ₁) (σ.put b o) := by
  intro w hw
  refine (h w (H.le_of_put hb hw)).mono fun v w' ⟨σ', he, hk⟩ => ?_
  obtain ⟨hn, he'⟩ := Ext.frame hb hw he
  exact ⟨σ'.put b o, he', σ', hn, rfl, hk⟩

end Go.HL

namespace Go.HL
open Go

@[reducible] def FW (ro : Option Nat) : Fence := { fn := fun _ => True, depth := none, alive := false, round := ro }
def plainOp : Op → Bool
  | .select _ _ | .defer _ | .go _ => false
  | _ => true

def RdS (P : Program) (s : Sem Next) (σ : H) (v : Value) : Prop := ∀ w, σ.le w → s.run P w = .ok (.value v) w
def Sil (P : Program) (s : Sem Next) (v : Value) : Prop := ∀ w, s.run P w = .ok (.value v) w
def IsAl (P : Program) (s : Sem Next) (mk : Nat → Value) (obj : Obj) : Prop := ∀ w : World, s.run P w = .ok (.value (mk w.heap.size)) (w.alloc obj)
def Fin (σ : H) : Prop := ∃ n, ∀ b, n ≤ b → σ b = none

theorem Fin.of_le {σ : H} {w : World} (h : σ.le w) : Fin σ := ⟨w.heap.size, fun b hb => by
  cases hc : σ b with
  | none => rfl
  | some o => have := h.lt hc; omega⟩
theorem Fin.put {σ : H} (h : Fin σ) (b : Nat) (o : Obj) : Fin (σ.put b o) := by
  obtain ⟨n, hn⟩ := h
  refine ⟨max n (b + 1), fun c hc => ?_⟩
  rw [H.put_other _ _ (by omega)]; exact hn c (by omega)
theorem Fin.world {σ : H} (h : Fin σ) : ∃ w : World, σ.le w := by
  obtain ⟨n, hn⟩ := h
  refine ⟨{ heap := Array.ofFn (n := n) fun i => (σ i).getD default, tape := fun _ _ => 0, drawn := 0, os := default, output := #[] }, fun b o hb => ?_⟩
  have hlt : b < n := by
    rcases Nat.lt_or_ge b n with h | h
    · exact h
    · rw [hn b h] at hb; cases hb
  simp [hlt, hb]
theorem Fin.fresh {σ : H} (h : Fin σ) : ∃ b, σ b = none := by obtain ⟨n, hn⟩ := h; exact ⟨n, hn n (Nat.le_refl _)⟩

theorem RdS.put {P : Program} {s : Sem Next} {σ : H} {v : Value} (h : RdS P s σ v) {b : Nat} {o : Obj} (hb : σ b = none) : RdS P s (σ.put b o) v :=
  fun w hw => h w (H.le_of_put hb hw)

theorem reach.out {P : Program} {R : Value → World → Prop} {x : Result Next} (h : reach P R x) : ∃ v w, R v w := by
  unfold reach at h
  split at h
  · exact ⟨_, _, h⟩
  · exact ⟨_, _, h⟩
  · obtain ⟨_, hh⟩ := h
    obtain ⟨e, w', fr, ⟨v, _, hr⟩, _⟩ := hh [] (room_wide _)
    exact ⟨v, w', hr⟩
  · obtain ⟨_, hh⟩ := h
    obtain ⟨e, w', ⟨v, _, hr⟩, _⟩ := hh default [] (room_wide _)
    exact ⟨v, w', hr⟩
  · exact h.elim
theorem invW.out {P : Program} {s : Sem Next} {K : Value → H → Prop} {σ : H} (h : invW P s K σ) (hf : Fin σ) : ∃ v σ', K v σ' := by
  obtain ⟨w, hw⟩ := hf.world
  obtain ⟨v, w', σ', _, hk⟩ := (h w hw).out
  exact ⟨v, σ', hk⟩
theorem invW.fin {P : Program} {s : Sem Next} {K : Value → H → Prop} {σ : H} (h : invW P s K σ) : invW P s (fun v σ' => Fin σ' ∧ K v σ') σ :=
  fun w hw => (h w hw).mono fun _ _ ⟨σ', he, hk⟩ => ⟨σ', he, Fin.of_le he.le, hk⟩

section
variable (P : Program) (ops : Array Oper) (cl : Nat → Nat) (A : Nat → Nat → Bool)

abbrev Pq := List (Nat × Sem Next × Value)
/-- what is said behind a run may speak of the readings that are pending; fewer of them ask less -/
def PMono (K : Pq → Act → H → Prop) : Prop := ∀ (p p' : Pq) (a : Act) (σ : H), (∀ q ∈ p', q ∈ p) → K p a σ → K p' a σ
/-- THE REGION, in the order of a list: silent (0), reading (1), making a block (2), any other (3). What was read must read alike behind each later operation that is not bound to come after the reading. -/
def SRunD : List (Nat × Sem Next × Value) → List Nat → Act → (Pq → Act → H → Prop) → H → Prop
  | p, [], a, K, σ => K p a σ
  | pend, i :: l, a, K, σ => ∃ o, ops[i]? = some o ∧ plainOp o.op = true ∧
      if Region.wanted o (yielded ops a.tmps) then
        match cl i with
        | 0 => ∃ v, Sil P (execOp a.eval o) v ∧ SRunD pend l (a.put o.dst v) K σ
        | 1 => ∃ v, RdS P (execOp a.eval o) σ v ∧ SRunD ((i, execOp a.eval o, v) :: pend) l (a.put o.dst v) K σ
        | 2 => ∃ mk obj, IsAl P (execOp a.eval o) mk obj ∧ ∀ b, σ b = none → SRunD pend l (a.put o.dst (mk b)) K (σ.put b obj)
        | _ => invW P (execOp a.eval o) (fun v σ' => (∀ q ∈ pend, A q.1 i = true ∨ RdS P q.2.1 σ' q.2.2) ∧ SRunD pend l (a.put o.dst v) K σ') σ
      else SRunD pend l (a.put o.dst undef) K σ
end
section
variable {P : Program} {ops : Array Oper} {cl : Nat → Nat} {A : Nat → Nat → Bool}

theorem SRunD.pend {l : List Nat} : ∀ {p p' : List (Nat × Sem Next × Value)} {a : Act} {K : Pq → Act → H → Prop} {σ : H}, PMono K → (∀ q ∈ p', q ∈ p) → SRunD P ops cl A p l a K σ → SRunD P ops cl A p' l a K σ := by
  induction l with
  | nil => intro p p' a K σ hm hs h; exact hm _ _ _ _ hs h
  | cons i l ih =>
    intro p p' a K σ hm hs h
    obtain ⟨o, ho, hp, h⟩ := h
    refine ⟨o, ho, hp, ?_⟩
    split at h
    · rename_i hw
      rw [if_pos hw]
      split at h
      · obtain ⟨v, hv, h⟩ := h; exact ⟨v, hv, ih hm hs h⟩
      · obtain ⟨v, hv, h⟩ := h
        refine ⟨v, hv, ih hm (fun q hq => ?_) h⟩
        cases hq with
        | head => exact List.mem_cons_self ..
        | tail _ hq => exact List.mem_cons_of_mem _ (hs q hq)
      · obtain ⟨mk, obj, hv, h⟩ := h; exact ⟨mk, obj, hv, fun b hb => ih hm hs (h b hb)⟩
      · exact h.mono fun v σ' ⟨h1, h2⟩ => ⟨fun q hq => h1 q (hs q hq), ih hm hs h2⟩
    · rename_i hw
      rw [if_neg hw]
      exact ih hm hs h

/-- under a first operation -/
theorem SRunD.head {l l' : List Nat} {K K' : Pq → Act → H → Prop} (hll : ∀ p a σ, Fin σ → SRunD P ops cl A p l a K σ → SRunD P ops cl A p l' a K' σ) {i : Nat} {p : List (Nat × Sem Next × Value)} {a : Act} {σ : H}
    (hf : Fin σ) (h : SRunD P ops cl A p (i :: l) a K σ) : SRunD P ops cl A p (i :: l') a K' σ := by
  obtain ⟨o, ho, hp, h⟩ := h
  refine ⟨o, ho, hp, ?_⟩
  split at h
  · rename_i hw
    rw [if_pos hw]
    split at h
    · obtain ⟨v, hv, h⟩ := h; exact ⟨v, hv, hll _ _ _ hf h⟩
    · obtain ⟨v, hv, h⟩ := h; exact ⟨v, hv, hll _ _ _ hf h⟩
    · obtain ⟨mk, obj, hv, h⟩ := h; exact ⟨mk, obj, hv, fun b hb => hll _ _ _ (hf.put _ _) (h b hb)⟩
    · exact h.fin.mono fun v σ' ⟨hf', h1, h2⟩ => ⟨h1, hll _ _ _ hf' h2⟩
  · rename_i hw
    rw [if_neg hw]
    exact hll _ _ _ hf h

/-- may x be taken ahead of y, that stands first? -/
def fits (cy cx : Nat) : Bool :=
  match cy, cx with
  | 0, _ => true
  | 1, _ => true
  | 2, 0 => true
  | 2, 2 => true
  | 2, _ => false
  | _, 0 => true
  | _, 2 => true
  | _, _ => false

theorem plain_select {o : Oper} (h : plainOp o.op = true) : ∀ cs b, o.op ≠ .select cs b := by
  intro cs b e; rw [e] at h; cases h
theorem plain_defer {o : Oper} (h : plainOp o.op = true) : ∀ c, o.op ≠ .defer c := by
  intro c e; rw [e] at h; cases h

theorem SRunD.swap {y x : Nat} {oy ox : Oper} (hy : ops[y]? = some oy) (hx : ops[x]? = some ox) (hap : oy.apart ops ox = true) (hA : A y x = false) (hfit : fits (cl y) (cl x) = true)
    {p : List (Nat × Sem Next × Value)} {l : List Nat} {a : Act} {K : Pq → Act → H → Prop} {σ : H} (hK : PMono K) (hf : Fin σ)
    (h : SRunD P ops cl A p (y :: x :: l) a K σ) : SRunD P ops cl A p (x :: y :: l) a K σ := by
  obtain ⟨h1, h2, h3⟩ := Oper.apart_spec hap
  have hcomm : ∀ (a : Act) (u v : Value), (a.put oy.dst u).put ox.dst v = (a.put ox.dst v).put oy.dst u := fun a u v => Act.put_comm a u v h2
  obtain ⟨oy', hoy, hpy, h⟩ := h
  rw [hy] at hoy; cases hoy
  have hpx : plainOp ox.op = true := by
    by_cases hwy : Region.wanted oy (yielded ops a.tmps) = true
    · rw [if_pos hwy] at h
      split at h
      · obtain ⟨v, hv, ox', hox, hpx, _⟩ := h; rw [hx] at hox; cases hox; exact hpx
      · obtain ⟨v, hv, ox', hox, hpx, _⟩ := h; rw [hx] at hox; cases hox; exact hpx
      · obtain ⟨mk, obj, hv, h⟩ := h
        obtain ⟨b, hb⟩ := hf.fresh
        obtain ⟨ox', hox, hpx, _⟩ := h b hb; rw [hx] at hox; cases hox; exact hpx
      · obtain ⟨v, σ', _, ox', hox, hpx, _⟩ := h.out hf; rw [hx] at hox; cases hox; exact hpx
    · rw [if_neg hwy] at h
      obtain ⟨ox', hox, hpx, _⟩ := h; rw [hx] at hox; cases hox; exact hpx
  have ex : ∀ u, execOp (a.put oy.dst u).eval ox = execOp a.eval ox := fun u => execOp_put ox (plain_select hpx) a oy.dst u h1
  have ey : ∀ u, execOp (a.put ox.dst u).eval oy = execOp a.eval oy := fun u => execOp_put oy (plain_select hpy) a ox.dst u h3
  have wx : ∀ u, Region.wanted ox (yielded ops (a.put oy.dst u).tmps) = Region.wanted ox (yielded ops a.tmps) := fun u => wanted_put ox a oy.dst u h1
  have wy : ∀ u, Region.wanted oy (yielded ops (a.put ox.dst u).tmps) = Region.wanted oy (yielded ops a.tmps) := fun u => wanted_put oy a ox.dst u h3
  refine ⟨ox, hx, hpx, ?_⟩
  by_cases hwy : Region.wanted oy (yielded ops a.tmps) = true
  · rw [if_pos hwy] at h
    by_cases hwx : Region.wanted ox (yielded ops a.tmps) = true
    · rw [if_pos hwx]
      split at h
      · -- y silent
        obtain ⟨v, hv, ox', hox, _, h⟩ := h; rw [hx] at hox; cases hox
        rw [wx, if_pos hwx, ex] at h
        split at h
        · obtain ⟨u, hu, h⟩ := h
          refine ⟨u, hu, oy, hy, hpy, ?_⟩
          rw [wy, if_pos hwy, ey, ‹cl y = 0›]
          exact ⟨v, hv, by rw [← hcomm]; exact h⟩
        · obtain ⟨u, hu, h⟩ := h
          refine ⟨u, hu, oy, hy, hpy, ?_⟩
          rw [wy, if_pos hwy, ey, ‹cl y = 0›]
          exact ⟨v, hv, by rw [← hcomm]; exact h⟩
        · obtain ⟨mk, obj, hu, h⟩ := h
          refine ⟨mk, obj, hu, fun b hb => ⟨oy, hy, hpy, ?_⟩⟩
          rw [wy, if_pos hwy, ey, ‹cl y = 0›]
          exact ⟨v, hv, by rw [← hcomm]; exact h b hb⟩
        · refine h.mono fun u σ' ⟨hc, h⟩ => ⟨hc, oy, hy, hpy, ?_⟩
          rw [wy, if_pos hwy, ey, ‹cl y = 0›]
          exact ⟨v, hv, by rw [← hcomm]; exact h⟩
      · -- y reads
        obtain ⟨v, hv, ox', hox, _, h⟩ := h; rw [hx] at hox; cases hox
        rw [wx, if_pos hwx, ex] at h
        split at h
        · obtain ⟨u, hu, h⟩ := h
          refine ⟨u, hu, oy, hy, hpy, ?_⟩
          rw [wy, if_pos hwy, ey, ‹cl y = 1›]
          exact ⟨v, hv, by rw [← hcomm]; exact h⟩
        · obtain ⟨u, hu, h⟩ := h
          refine ⟨u, hu, oy, hy, hpy, ?_⟩
          rw [wy, if_pos hwy, ey, ‹cl y = 1›]
          refine ⟨v, hv, ?_⟩
          rw [← hcomm]
          exact h.pend hK fun q hq => by
            simp only [List.mem_cons] at hq ⊢
            rcases hq with rfl | rfl | hq
            · exact .inr (.inl rfl)
            · exact .inl rfl
            · exact .inr (.inr hq)
        · obtain ⟨mk, obj, hu, h⟩ := h
          refine ⟨mk, obj, hu, fun b hb => ⟨oy, hy, hpy, ?_⟩⟩
          rw [wy, if_pos hwy, ey, ‹cl y = 1›]
          exact ⟨v, hv.put hb, by rw [← hcomm]; exact h b hb⟩
        · refine h.mono fun u σ' ⟨hc, h⟩ => ⟨fun q hq => hc q (List.mem_cons_of_mem _ hq), oy, hy, hpy, ?_⟩
          rw [wy, if_pos hwy, ey, ‹cl y = 1›]
          have := hc _ (List.mem_cons_self ..)
          simp only [hA] at this
          exact ⟨v, this.resolve_left (by simp), by rw [← hcomm]; exact h⟩
      · -- y makes a block
        obtain ⟨mk, obj, hv, h⟩ := h
        have hcx : cl x = 0 ∨ cl x = 2 := by
          rw [‹cl y = 2›] at hfit
          unfold fits at hfit
          split at hfit <;> simp_all
        rcases hcx with hcx | hcx
        · obtain ⟨b0, hb0⟩ := hf.fresh
          obtain ⟨ox', hox, _, h0⟩ := h b0 hb0; rw [hx] at hox; cases hox
          rw [wx, if_pos hwx, ex, hcx] at h0
          obtain ⟨u, hu, _⟩ := h0
          rw [hcx]
          refine ⟨u, hu, oy, hy, hpy, ?_⟩
          rw [wy, if_pos hwy, ey, ‹cl y = 2›]
          refine ⟨mk, obj, hv, fun b hb => ?_⟩
          obtain ⟨ox', hox, _, h1'⟩ := h b hb; rw [hx] at hox; cases hox
          rw [wx, if_pos hwx, ex, hcx] at h1'
          obtain ⟨u', hu', h1'⟩ := h1'
          have : u' = u := by
            have e1 := hu default; have e2 := hu' default
            rw [e1] at e2; cases e2; rfl
          subst this
          rw [← hcomm]; exact h1'
        · obtain ⟨b0, hb0⟩ := hf.fresh
          obtain ⟨ox', hox, _, h0⟩ := h b0 hb0; rw [hx] at hox; cases hox
          rw [wx, if_pos hwx, ex, hcx] at h0
          obtain ⟨mx, objx, hu, _⟩ := h0
          rw [hcx]
          refine ⟨mx, objx, hu, fun b hb => ⟨oy, hy, hpy, ?_⟩⟩
          rw [wy, if_pos hwy, ey, ‹cl y = 2›]
          refine ⟨mk, obj, hv, fun c hc => ?_⟩
          have hne : c ≠ b := by intro e; subst e; rw [H.put_same] at hc; cases hc
          rw [H.put_other _ _ hne] at hc
          obtain ⟨ox', hox, _, h1'⟩ := h c hc; rw [hx] at hox; cases hox
          rw [wx, if_pos hwx, ex, hcx] at h1'
          obtain ⟨mx', objx', hu', h1'⟩ := h1'
          have hb' : σ.put c obj b = none := by rw [H.put_other _ _ (Ne.symm hne)]; exact hb
          have h2' := h1' b hb'
          have hobj : objx' = objx ∧ mx' b = mx b := by
            have e1 := hu { (default : World) with heap := Array.replicate b default }
            have e2 := hu' { (default : World) with heap := Array.replicate b default }
            rw [e1] at e2
            simp only [Result.ok.injEq, Next.value.injEq] at e2
            obtain ⟨e3, e4⟩ := e2
            simp only [Array.size_replicate] at e3
            refine ⟨?_, e3.symm⟩
            have e5 := congrArg World.heap e4
            have e6 : (Array.replicate b (default : Obj)).push objx = (Array.replicate b (default : Obj)).push objx' := e5
            have e7 := congrArg Array.back? e6
            simpa using e7.symm
          obtain ⟨e3, e4⟩ := hobj
          subst e3
          rw [e4] at h2'
          rw [← hcomm]
          have : (σ.put c obj).put b objx' = (σ.put b objx').put c obj := by
            funext k
            simp only [H.put]
            by_cases k1 : k = b
            · subst k1; simp [Ne.symm hne]
            · simp [k1]
          rw [← this]; exact h2'
      · -- y does something
        have hcx : cl x = 0 ∨ cl x = 2 := by
          unfold fits at hfit
          split at hfit <;> simp_all
        have hyc : ∀ (K' : Prop) (a0 a1 a2 a3 : Prop), (match cl y with | 0 => a0 | 1 => a1 | 2 => a2 | _ => a3) = a3 := by
          intro _ a0 a1 a2 a3; split <;> simp_all
        rcases hcx with hcx | hcx
        · obtain ⟨v0, σ0, _, ox', hox, _, h0⟩ := h.out hf; rw [hx] at hox; cases hox
          rw [wx, if_pos hwx, ex, hcx] at h0
          obtain ⟨u, hu, _⟩ := h0
          rw [hcx]
          refine ⟨u, hu, oy, hy, hpy, ?_⟩
          rw [wy, if_pos hwy, ey, hyc True]
          refine h.mono fun v σ' ⟨hc, ox', hox, _, h1'⟩ => ⟨hc, ?_⟩
          rw [hx] at hox; cases hox
          rw [wx, if_pos hwx, ex, hcx] at h1'
          obtain ⟨u', hu', h1'⟩ := h1'
          have : u' = u := by
            have e1 := hu default; have e2 := hu' default
            rw [e1] at e2; cases e2; rfl
          subst this
          rw [← hcomm]; exact h1'
        · obtain ⟨v0, σ0, _, ox', hox, _, h0⟩ := h.out hf; rw [hx] at hox; cases hox
          rw [wx, if_pos hwx, ex, hcx] at h0
          obtain ⟨mx, objx, hu, _⟩ := h0
          rw [hcx]
          refine ⟨mx, objx, hu, fun b hb => ⟨oy, hy, hpy, ?_⟩⟩
          rw [wy, if_pos hwy, ey, hyc True]
          refine (h.frame (o := objx) hb).mono fun v σ' ⟨σ₁, hn, hσ', hc, ox', hox, _, h1'⟩ => ⟨fun q hq => ?_, ?_⟩
          · rcases hc q hq with h | h
            · exact .inl h
            · exact .inr (hσ' ▸ h.put hn)
          · rw [hx] at hox; cases hox
            rw [wx, if_pos hwx, ex, hcx] at h1'
            obtain ⟨mx', objx', hu', h1'⟩ := h1'
            have h2' := h1' b hn
            have hobj : objx' = objx ∧ mx' b = mx b := by
              have e1 := hu { (default : World) with heap := Array.replicate b default }
              have e2 := hu' { (default : World) with heap := Array.replicate b default }
              rw [e1] at e2
              simp only [Result.ok.injEq, Next.value.injEq] at e2
              obtain ⟨e3, e4⟩ := e2
              simp only [Array.size_replicate] at e3
              refine ⟨?_, e3.symm⟩
              have e5 := congrArg World.heap e4
              have e6 : (Array.replicate b (default : Obj)).push objx = (Array.replicate b (default : Obj)).push objx' := e5
              have e7 := congrArg Array.back? e6
              simpa using e7.symm
            obtain ⟨e3, e4⟩ := hobj
            subst e3
            rw [e4] at h2'
            rw [← hcomm, hσ']; exact h2'
    · rw [if_neg hwx]
      refine ⟨oy, hy, hpy, ?_⟩
      rw [wy, if_pos hwy, ey]
      split at h
      · obtain ⟨v, hv, ox', hox, _, h⟩ := h; rw [hx] at hox; cases hox
        rw [wx, if_neg hwx] at h
        exact ⟨v, hv, by rw [← hcomm]; exact h⟩
      · obtain ⟨v, hv, ox', hox, _, h⟩ := h; rw [hx] at hox; cases hox
        rw [wx, if_neg hwx] at h
        exact ⟨v, hv, by rw [← hcomm]; exact h⟩
      · obtain ⟨mk, obj, hv, h⟩ := h
        refine ⟨mk, obj, hv, fun b hb => ?_⟩
        obtain ⟨ox', hox, _, h⟩ := h b hb; rw [hx] at hox; cases hox
        rw [wx, if_neg hwx] at h
        rw [← hcomm]; exact h
      · refine h.mono fun v σ' ⟨hc, ox', hox, _, h⟩ => ⟨hc, ?_⟩
        rw [hx] at hox; cases hox
        rw [wx, if_neg hwx] at h
        rw [← hcomm]; exact h
  · rw [if_neg hwy] at h
    obtain ⟨ox', hox, _, h⟩ := h; rw [hx] at hox; cases hox
    rw [wx, ex] at h
    by_cases hwx : Region.wanted ox (yielded ops a.tmps) = true
    · rw [if_pos hwx] at h ⊢
      split at h
      · obtain ⟨u, hu, h⟩ := h
        refine ⟨u, hu, oy, hy, hpy, ?_⟩
        rw [wy, if_neg hwy, ← hcomm]; exact h
      · obtain ⟨u, hu, h⟩ := h
        refine ⟨u, hu, oy, hy, hpy, ?_⟩
        rw [wy, if_neg hwy, ← hcomm]; exact h
      · obtain ⟨mk, obj, hu, h⟩ := h
        refine ⟨mk, obj, hu, fun b hb => ⟨oy, hy, hpy, ?_⟩⟩
        rw [wy, if_neg hwy, ← hcomm]; exact h b hb
      · refine h.mono fun u σ' ⟨hc, h⟩ => ⟨hc, oy, hy, hpy, ?_⟩
        rw [wy, if_neg hwy, ← hcomm]; exact h
    · rw [if_neg hwx] at h ⊢
      refine ⟨oy, hy, hpy, ?_⟩
      rw [wy, if_neg hwy, ← hcomm]; exact h
end
end Go.HL

namespace Go.HL
open Go
section
variable {P : Program} {ops : Array Oper} {cl : Nat → Nat} {A : Nat → Nat → Bool}

def swapOk (ops : Array Oper) (cl : Nat → Nat) (y x : Nat) : Bool :=
  match ops[y]?, ops[x]? with
  | some oy, some ox => oy.apart ops ox && fits (cl y) (cl x)
  | _, _ => false

theorem SRunD.front {K : Pq → Act → H → Prop} (hK : PMono K) {x : Nat} {r : List Nat} : ∀ (p : List Nat), (∀ y ∈ p, A y x = false ∧ swapOk ops cl y x = true) → ∀ {pend : List (Nat × Sem Next × Value)} {a : Act} {σ : H}, Fin σ →
    SRunD P ops cl A pend (p ++ x :: r) a K σ → SRunD P ops cl A pend (x :: (p ++ r)) a K σ := by
  intro p
  induction p with
  | nil => intro _ pend a σ _ h; exact h
  | cons y p ih =>
    intro hp pend a σ hf h
    have hsw := hp y (List.mem_cons_self ..)
    have h' : SRunD P ops cl A pend (y :: x :: (p ++ r)) a K σ :=
      SRunD.head (fun pend' a' σ' hf' hh => ih (fun z hz => hp z (List.mem_cons_of_mem _ hz)) hf' hh) hf h
    obtain ⟨hA, hs⟩ := hsw
    unfold swapOk at hs
    split at hs
    · rename_i oy ox hy hx
      simp only [Bool.and_eq_true] at hs
      exact SRunD.swap hy hx hs.1 hA hs.2 hK hf h'
    · cases hs

def preds (ops : Array Oper) (x : Nat) : List Nat :=
  match ops[x]? with
  | some o => (o.after.toList.filter fun e => Region.binds .any e).map (·.on)
  | none => []

theorem ready_iff {listed : Array Bool} {i : Nat} : i ∈ Region.ready .any ops listed ↔ i < ops.size ∧ listed.getD i true = false ∧ ∀ z ∈ preds ops i, listed.getD z false = true := by
  unfold Region.ready preds
  simp only [List.mem_filter, List.mem_range, Bool.and_eq_true, Bool.not_eq_true']
  refine and_congr_right fun hi => and_congr_right fun _ => ?_
  have : ops[i]? = some ops[i] := by simp [hi]
  simp only [this, Option.map_some, Option.getD_some, List.mem_map, List.mem_filter]
  rw [Array.all_eq_true']
  constructor
  · rintro h z ⟨e, ⟨he, hb⟩, rfl⟩
    have := h e (by simpa using he)
    simpa [hb] using this
  · intro h e he
    by_cases hb : Region.binds .any e = true
    · simp [hb]; simpa using h e.on ⟨e, ⟨by simpa using he, hb⟩, rfl⟩
    · simp [hb]

/-- the ancestors that are told are ancestors -/
def ancOk (ops : Array Oper) (AL : List (List Nat)) : Bool :=
  (List.range ops.size).all fun x => (AL.getD x []).all fun y => (preds ops x).any fun z => z == y || (decide (z < x) && (AL.getD z []).contains y)

def ancOf (AL : List (List Nat)) (y x : Nat) : Bool := (AL.getD x []).contains y

structure Cls (ops : Array Oper) (listed : Array Bool) : Prop where
  size : listed.size = ops.size
  down : ∀ x, listed.getD x false = true → ∀ z ∈ preds ops x, listed.getD z false = true

theorem anc_listed {AL : List (List Nat)} (hok : ancOk ops AL = true) {listed : Array Bool} (hc : Cls ops listed) :
    ∀ x y, x < ops.size → ancOf AL y x = true → (∀ z ∈ preds ops x, listed.getD z false = true) → listed.getD y false = true := by
  intro x
  induction x using Nat.strongRecOn with
  | _ x ih =>
    intro y hx ha hp
    unfold ancOk at hok
    rw [List.all_eq_true] at hok
    have h1 := hok x (by simpa using hx)
    rw [List.all_eq_true] at h1
    have h2 := h1 y (by simpa [ancOf] using ha)
    rw [List.any_eq_true] at h2
    obtain ⟨z, hz, hzy⟩ := h2
    simp only [Bool.or_eq_true, beq_iff_eq, Bool.and_eq_true, decide_eq_true_eq] at hzy
    rcases hzy with rfl | ⟨hlt, hzz⟩
    · exact hp _ hz
    · exact ih z hlt y (by omega) hzz (hc.down z (hp z hz))

def linOk (ops : Array Oper) : List Nat → List Nat → Bool
  | _, [] => true
  | done, x :: r => ((preds ops x).all fun z => done.contains z) && linOk ops (x :: done) r

def pairOk (ops : Array Oper) (cl : Nat → Nat) (A : Nat → Nat → Bool) : List Nat → Bool
  | [] => true
  | y :: r => (r.all fun x => A y x || swapOk ops cl y x) && pairOk ops cl A r

theorem pairOk_pairwise : ∀ l, pairOk ops cl A l = true → l.Pairwise fun y x => A y x = true ∨ swapOk ops cl y x = true := by
  intro l
  induction l with
  | nil => intro _; exact .nil
  | cons y r ih =>
    intro h
    simp only [pairOk, Bool.and_eq_true, List.all_eq_true, Bool.or_eq_true] at h
    exact .cons (fun x hx => h.1 x hx) (ih h.2)

/-- the first operation of what is left may be taken -/
theorem linOk_front : ∀ (l done : List Nat), linOk ops done l = true → ∀ p x r, l = p ++ x :: r → ∀ z ∈ preds ops x, z ∈ done ∨ z ∈ p := by
  intro l
  induction l with
  | nil => intro done _ p x r h; simp at h
  | cons y l ih =>
    intro done h p x r hl z hz
    simp only [linOk, Bool.and_eq_true, List.all_eq_true] at h
    cases p with
    | nil =>
      simp at hl
      obtain ⟨rfl, rfl⟩ := hl
      exact .inl (by simpa using h.1 z hz)
    | cons w p =>
      simp at hl
      obtain ⟨rfl, hl⟩ := hl
      rcases ih (y :: done) h.2 p x r hl z hz with h' | h'
      · rcases List.mem_cons.1 h' with rfl | h'
        · exact .inr (List.mem_cons_self ..)
        · exact .inl h'
      · exact .inr (List.mem_cons_of_mem _ h')

theorem callsIn_any {ro : Option Nat} {n : Nat} {f : FuncId} {args : Array Value} {w : World} {R : Ending → World → Prop} (h : CallsIn Fence.wide 0 P f args w R) : CallsIn (FW ro) n P f args w R :=
  ⟨trivial, fun cs _ => h.2 cs (room_wide _)⟩
theorem roundIn_any {ro : Option Nat} {n l : Nat} {f : FuncId} {tmps : Array Value} {assign body : Code} {w : World} {R : Ending → World → Prop} (h : RoundIn Fence.wide 0 P l f tmps assign body w R) : RoundIn (FW ro) n P l f tmps assign body w R :=
  ⟨trivial, fun c cs _ => h.2 c cs (room_wide _)⟩

theorem uponIn_of_reach {ro : Option Nat} {n : Nat} {o : Oper} {a : Act} {next : Act → World → Prop} {Q : Exit → Act → World → Prop} {x : Result Next}
    (h : reach P (fun v w => next (a.put o.dst v) w) x) : o.uponIn (FW ro) n P a next Q x := by
  unfold reach at h
  split at h
  · exact h
  · exact h
  · refine ⟨(fun h => by cases h), ?_⟩
    have h' := callsIn_any (ro := ro) (n := n - 1) h
    refine h'.mono fun e w' ⟨v, he, hv⟩ => ?_
    subst he; exact hv
  · refine ⟨(fun h => by cases h), ?_⟩
    have h' := roundIn_any (ro := ro) (n := n - 1) h
    refine h'.mono fun e w' ⟨v, he, hv⟩ => ?_
    subst he; exact hv
  · exact h.elim

/-- ONE OPERATION, at the machine -/
theorem op_sound {ro : Option Nat} {n : Nat} {Q : Exit → Act → World → Prop} {i : Nat} {l : List Nat} {pend : List (Nat × Sem Next × Value)} {a : Act} {K : Pq → Act → H → Prop} {σ : H} {next : Act → World → Prop} {w : World}
    (hw : σ.le w) (h : SRunD P ops cl A pend (i :: l) a K σ)
    (hn : ∀ pend' v σ' w', Ext σ w σ' w' → SRunD P ops cl A pend' l (a.put ((ops[i]?).bind (·.dst)) v) K σ' → next (a.put ((ops[i]?).bind (·.dst)) v) w') : wpOpIn (FW ro) n P ops Q i next a w := by
  obtain ⟨o, ho, hp, h⟩ := h
  unfold wpOpIn
  simp only [ho, Option.bind_some] at hn ⊢
  split at h
  · rename_i hwd
    rw [if_pos hwd]
    refine ⟨fun _ _ => trivial, ?_⟩
    rw [Oper.semAt_eq _ _ _ (plain_defer hp)]
    split at h
    · obtain ⟨v, hv, h⟩ := h
      rw [hv w]; exact hn _ v σ w (Ext.refl hw) h
    · obtain ⟨v, hv, h⟩ := h
      rw [hv w hw]; exact hn _ v σ w (Ext.refl hw) h
    · obtain ⟨mk, obj, hv, h⟩ := h
      rw [hv w]
      obtain ⟨hn', he⟩ := Ext.alloc hw obj
      exact hn _ _ _ _ he (h _ hn')
    · exact uponIn_of_reach ((h w hw).mono fun v w' ⟨σ', he, _, hk⟩ => hn _ v σ' w' he hk)
  · rename_i hwd
    rw [if_neg hwd]
    exact ⟨fun _ _ => trivial, hn _ _ σ w (Ext.refl hw) h⟩

/-- IN THE ORDER OF THE LIST -/
theorem run_sound {ro : Option Nat} {n : Nat} {Q : Exit → Act → World → Prop} {K : Pq → Act → H → Prop} : ∀ (l : List Nat) {pend : List (Nat × Sem Next × Value)} {a : Act} {σ : H} {w : World}, σ.le w → SRunD P ops cl A pend l a K σ →
    (∀ p' a' σ' w', Ext σ w σ' w' → K p' a' σ' → Q .normal a' w') → wpOpsIn (FW ro) n P ops Q l a w := by
  intro l
  induction l with
  | nil => intro pend a σ w hw h hq; exact hq _ a σ w (Ext.refl hw) h
  | cons i l ih =>
    intro pend a σ w hw h hq
    rw [wpOpsIn_cons]
    refine op_sound hw h fun pend' v σ' w' he h' => ?_
    exact ih he.le h' fun p₂ a₂ σ₂ w₂ he₂ hk => hq _ _ _ _ (he.trans he₂) hk

/-- IN EVERY ORDER -/
theorem any_sound {ro : Option Nat} {n : Nat} {Q : Exit → Act → World → Prop} {K : Pq → Act → H → Prop} (hK : PMono K) {AL : List (List Nat)} (hanc : ancOk ops AL = true) :
    ∀ (fuel : Nat) (rem : List Nat) (listed : Array Bool) {pend : List (Nat × Sem Next × Value)} {a : Act} {σ : H} {w : World}, rem.length ≤ fuel → σ.le w → SRunD P ops cl (ancOf AL) pend rem a K σ → Cls ops listed →
    (∀ i, i < ops.size → (listed.getD i false = true ∨ i ∈ rem)) → (∀ i ∈ rem, i < ops.size ∧ listed.getD i true = false) → rem.Nodup →
    (∀ p x r, rem = p ++ x :: r → ∀ z ∈ preds ops x, listed.getD z false = true ∨ z ∈ p) →
    rem.Pairwise (fun y x => ancOf AL y x = true ∨ swapOk ops cl y x = true) →
    (∀ p' a' σ' w', Ext σ w σ' w' → K p' a' σ' → Q .normal a' w') → wpAnyIn (FW ro) n P .any ops Q fuel listed a w := by
  intro fuel
  induction fuel with
  | zero =>
    intro rem listed pend a σ w hlen hw h hc hall hrem hnd hlin hpw hq
    have : rem = [] := List.length_eq_zero_iff.1 (by omega)
    subst this
    refine ⟨?_, hq _ a σ w (Ext.refl hw) h⟩
    rw [List.eq_nil_iff_forall_not_mem]
    intro i hi
    rw [ready_iff] at hi
    rcases hall i hi.1 with h1 | h1
    · have : i < listed.size := by rw [hc.size]; exact hi.1
      simp [this] at h1 hi
      rw [h1] at hi; simp at hi
    · simp at h1
  | succ fuel ih =>
    intro rem listed pend a σ w hlen hw h hc hall hrem hnd hlin hpw hq
    refine ⟨fun hnil => ?_, fun i hi => ?_⟩
    · cases rem with
      | nil => exact hq _ a σ w (Ext.refl hw) h
      | cons x r =>
        exfalso
        have hx := hrem x (List.mem_cons_self ..)
        have : x ∈ Region.ready .any ops listed := by
          rw [ready_iff]
          refine ⟨hx.1, hx.2, fun z hz => ?_⟩
          rcases hlin [] x r rfl z hz with h' | h'
          · exact h'
          · simp at h'
        rw [hnil] at this; simp at this
    · rw [ready_iff] at hi
      obtain ⟨hisz, hil, hip⟩ := hi
      have hisz' : i < listed.size := by rw [hc.size]; exact hisz
      have hmem : i ∈ rem := by
        rcases hall i hisz with h1 | h1
        · simp [hisz'] at h1 hil; rw [h1] at hil; simp at hil
        · exact h1
      obtain ⟨p, r, rfl⟩ := List.append_of_mem hmem
      have hfr : SRunD P ops cl (ancOf AL) pend (i :: (p ++ r)) a K σ := by
        refine SRunD.front hK p (fun y hy => ?_) (Fin.of_le hw) h
        have hpair : ancOf AL y i = true ∨ swapOk ops cl y i = true := by
          rw [List.pairwise_append] at hpw
          exact hpw.2.2 y hy i (List.mem_cons_self ..)
        have hna : ancOf AL y i = false := by
          cases ha : ancOf AL y i with
          | false => rfl
          | true =>
            have h1 := anc_listed hanc hc i y hisz ha hip
            have h2 := (hrem y (List.mem_append_left _ hy)).2
            have hys : y < listed.size := by rw [hc.size]; exact (hrem y (List.mem_append_left _ hy)).1
            simp [hys] at h1 h2; rw [h1] at h2; simp at h2
        exact ⟨hna, hpair.resolve_left (by rw [hna]; simp)⟩
      refine op_sound hw hfr fun pend' v σ' w' he h' => ?_
      have hset : ∀ j d, (listed.setIfInBounds i true).getD j d = if j = i then true else listed.getD j d := by
        intro j d
        by_cases hj : j = i
        · subst hj; simp [hisz']
        · simp [hj, Ne.symm hj]
      have hnd' : (i :: (p ++ r)).Nodup := by
        refine (List.Perm.nodup_iff ?_).1 hnd
        exact List.perm_middle
      have hni : i ∉ p ++ r := (List.nodup_cons.1 hnd').1
      refine ih (p ++ r) _ ?_ he.le h' ⟨by simpa using hc.size, ?_⟩ ?_ ?_ (List.nodup_cons.1 hnd').2 ?_ ?_ fun p₂ a₂ σ₂ w₂ he₂ hk => hq _ _ _ _ (he.trans he₂) hk
      · simp at hlen ⊢; omega
      · intro x hx z hz
        rw [hset] at hx ⊢
        by_cases hz' : z = i
        · simp [hz']
        · rw [if_neg hz']
          by_cases hx' : x = i
          · subst hx'; exact hip z hz
          · rw [if_neg hx'] at hx; exact hc.down x hx z hz
      · intro j hj
        rw [hset]
        by_cases hj' : j = i
        · simp [hj']
        · rw [if_neg hj']
          rcases hall j hj with h1 | h1
          · exact .inl h1
          · simp [hj'] at h1; exact .inr (by simpa using h1)
      · intro j hj
        have hji : j ≠ i := fun e => hni (e ▸ hj)
        rw [hset, if_neg hji]
        exact hrem j (by simp at hj ⊢; rcases hj with h | h; exact .inl h; exact .inr (.inr h))
      · intro p' x r' hpr z hz
        rw [hset]
        by_cases hzi : z = i
        · simp [hzi]
        · rw [if_neg hzi]
          -- where x stands
          rcases List.append_eq_append_iff.1 hpr with ⟨m, hm1, hm2⟩ | ⟨m, hm1, hm2⟩
          · -- p' = p ++ m
            rcases hlin (p ++ i :: m) x r' (by simp [hm2]) z hz with h1 | h1
            · exact .inl h1
            · right
              simp [hzi] at h1
              rw [hm1]; simpa using h1
          · -- p = p' ++ m
            cases m with
            | nil =>
              simp at hm1 hm2
              rcases hlin (p ++ [i]) x r' (by simp [← hm2]) z hz with h1 | h1
              · exact .inl h1
              · right; simp [hzi] at h1; rw [← hm1]; exact h1
            | cons c m =>
              simp at hm2
              obtain ⟨rfl, hm2⟩ := hm2
              exact hlin p' x (m ++ i :: r) (by simp [hm1]) z hz
      · refine hpw.sublist ?_
        exact List.Sublist.append (List.Sublist.refl _) (List.sublist_cons_self ..)

def nodupB : List Nat → Bool
  | [] => true
  | x :: r => !r.contains x && nodupB r
theorem nodupB_nodup : ∀ l, nodupB l = true → l.Nodup := by
  intro l
  induction l with
  | nil => intro _; exact .nil
  | cons x r ih =>
    intro h
    simp only [nodupB, Bool.and_eq_true, Bool.not_eq_true', List.contains_eq_mem, decide_eq_false_iff_not] at h
    exact List.nodup_cons.2 ⟨h.1, ih h.2⟩

/-- all that is asked of an order that is chosen -/
def drawOk (ops : Array Oper) (cl : Nat → Nat) (AL : List (List Nat)) (π : List Nat) : Bool :=
  Nat.beq π.length ops.size && (List.range ops.size).all (fun i => π.contains i) && π.all (fun i => Nat.blt i ops.size) && nodupB π && linOk ops [] π && pairOk ops cl (ancOf AL) π && ancOk ops AL

theorem draw_sound {ro : Option Nat} {n : Nat} {Q : Exit → Act → World → Prop} {K : Pq → Act → H → Prop} (hK : PMono K) {AL : List (List Nat)} {π : List Nat} (hm : P.follows .mixedOrders = true) (hok : drawOk ops cl AL π = true) {id : Nat} {a : Act} {σ : H} {w : World} (hw : σ.le w)
    (h : SRunD P ops cl (ancOf AL) [] π a K σ) (hq : ∀ p' a' σ' w', Ext σ w σ' w' → K p' a' σ' → Q .normal a' w') : (Code.region id ops true).wpIn (FW ro) n P Q a w := by
  unfold drawOk at hok
  simp only [Bool.and_eq_true, List.all_eq_true] at hok
  obtain ⟨⟨⟨⟨⟨⟨hlen, hall⟩, hlt⟩, hnd⟩, hlin⟩, hpair⟩, hanc⟩ := hok
  have hlen : π.length = ops.size := Nat.eq_of_beq_eq_true hlen
  refine wpIn_region_any hm ?_
  refine any_sound hK hanc _ π _ (by omega) (w := { w with drawn := w.drawn + 1 }) hw h ⟨by simp, ?_⟩ ?_ ?_ ?_ ?_ ?_ ?_
  · intro x hx; exfalso
    rcases Nat.lt_or_ge x ops.size with h1 | h1
    · simp [h1] at hx
    · simp [Nat.not_lt.2 h1] at hx
  · intro i hi; exact .inr (by simpa using hall i (by simpa using hi))
  · intro i hi
    have hi' : i < ops.size := by simpa using hlt i hi
    exact ⟨hi', by simp [hi']⟩
  · exact nodupB_nodup _ hnd
  · intro p x r hp z hz
    rcases linOk_front π [] hlin p x r hp z hz with h1 | h1
    · simp at h1
    · exact .inr h1
  · exact pairOk_pairwise _ hpair
  · intro p' a' σ' w' he hk
    exact hq p' a' σ' w' ((Ext.drew hw _).trans he) hk

/-! ### Two effects that no order binds: both orders are gone -/
theorem SRunD.app {K : Pq → Act → H → Prop} {r : List Nat} : ∀ (l : List Nat) {pend : Pq} {a : Act} {σ : H}, Fin σ → SRunD P ops cl A pend l a (fun q a' σ' => SRunD P ops cl A q r a' K σ') σ → SRunD P ops cl A pend (l ++ r) a K σ := by
  intro l
  induction l with
  | nil => intro pend a σ _ h; exact h
  | cons i l ih => intro pend a σ hf h; exact SRunD.head (l := l) (l' := l ++ r) (fun p a σ hf h => ih hf h) hf h
theorem SRunD.mono {K K' : Pq → Act → H → Prop} (hk : ∀ p a σ, K p a σ → K' p a σ) : ∀ (l : List Nat) {pend : Pq} {a : Act} {σ : H}, Fin σ → SRunD P ops cl A pend l a K σ → SRunD P ops cl A pend l a K' σ := by
  intro l
  induction l with
  | nil => intro pend a σ _ h; exact hk _ _ _ h
  | cons i l ih => intro pend a σ hf h; exact SRunD.head (l := l) (l' := l) (fun p a σ hf h => ih hf h) hf h
structure RemOk (ops : Array Oper) (listed : Array Bool) (rem : List Nat) : Prop where
  cls : Cls ops listed
  all : ∀ i, i < ops.size → (listed.getD i false = true ∨ i ∈ rem)
  ahead : ∀ i ∈ rem, i < ops.size ∧ listed.getD i true = false
  nd : rem.Nodup
  lin : ∀ p x r, rem = p ++ x :: r → ∀ z ∈ preds ops x, listed.getD z false = true ∨ z ∈ p
theorem RemOk.step {listed : Array Bool} {p r : List Nat} {i : Nat} (h : RemOk ops listed (p ++ i :: r)) (hi : i ∈ Region.ready .any ops listed) : RemOk ops (listed.setIfInBounds i true) (p ++ r) := by
  obtain ⟨hc, hall, hrem, hnd, hlin⟩ := h
  rw [ready_iff] at hi
  obtain ⟨hisz, hil, hip⟩ := hi
  have hisz' : i < listed.size := by rw [hc.size]; exact hisz
  have hset : ∀ j d, (listed.setIfInBounds i true).getD j d = if j = i then true else listed.getD j d := by
    intro j d
    by_cases hj : j = i
    · subst hj; simp [hisz']
    · simp [hj, Ne.symm hj]
  have hnd' : (i :: (p ++ r)).Nodup := by
    refine (List.Perm.nodup_iff ?_).1 hnd
    exact List.perm_middle
  have hni : i ∉ p ++ r := (List.nodup_cons.1 hnd').1
  refine ⟨⟨by simpa using hc.size, ?_⟩, ?_, ?_, (List.nodup_cons.1 hnd').2, ?_⟩
  · intro x hx z hz
    rw [hset] at hx ⊢
    by_cases hz' : z = i
    · simp [hz']
    · rw [if_neg hz']
      by_cases hx' : x = i
      · subst hx'; exact hip z hz
      · rw [if_neg hx'] at hx; exact hc.down x hx z hz
  · intro j hj
    rw [hset]
    by_cases hj' : j = i
    · simp [hj']
    · rw [if_neg hj']
      rcases hall j hj with h1 | h1
      · exact .inl h1
      · simp [hj'] at h1; exact .inr (by simpa using h1)
  · intro j hj
    have hji : j ≠ i := fun e => hni (e ▸ hj)
    rw [hset, if_neg hji]
    exact hrem j (by simp at hj ⊢; rcases hj with h | h; exact .inl h; exact .inr (.inr h))
  · intro p' x r' hpr z hz
    rw [hset]
    by_cases hzi : z = i
    · simp [hzi]
    · rw [if_neg hzi]
      rcases List.append_eq_append_iff.1 hpr with ⟨m, hm1, hm2⟩ | ⟨m, hm1, hm2⟩
      · rcases hlin (p ++ i :: m) x r' (by simp [hm2]) z hz with h1 | h1
        · exact .inl h1
        · right
          simp [hzi] at h1
          rw [hm1]; simpa using h1
      · cases m with
        | nil =>
          simp at hm1 hm2
          rcases hlin (p ++ [i]) x r' (by simp [← hm2]) z hz with h1 | h1
          · exact .inl h1
          · right; simp [hzi] at h1; rw [← hm1]; exact h1
        | cons c m =>
          simp at hm2
          obtain ⟨rfl, hm2⟩ := hm2
          exact hlin p' x (m ++ i :: r) (by simp [hm1]) z hz
def Rl (ops : Array Oper) (cl : Nat → Nat) (AL : List (List Nat)) (y x : Nat) : Prop := ancOf AL y x = true ∨ swapOk ops cl y x = true
theorem front_ok {AL : List (List Nat)} (hanc : ancOk ops AL = true) {listed : Array Bool} {p r : List Nat} {i : Nat} (h : RemOk ops listed (p ++ i :: r)) (hi : i ∈ Region.ready .any ops listed) (hR : ∀ y ∈ p, Rl ops cl AL y i) : ∀ y ∈ p, ancOf AL y i = false ∧ swapOk ops cl y i = true := by
  intro y hy
  rw [ready_iff] at hi
  obtain ⟨hisz, hil, hip⟩ := hi
  have hna : ancOf AL y i = false := by
    cases ha : ancOf AL y i with
    | false => rfl
    | true =>
      have h1 := anc_listed hanc h.cls i y hisz ha hip
      have h2 := (h.ahead y (List.mem_append_left _ hy)).2
      have hys : y < listed.size := by rw [h.cls.size]; exact (h.ahead y (List.mem_append_left _ hy)).1
      simp [hys] at h1 h2; rw [h1] at h2; simp at h2
  exact ⟨hna, (hR y hy).resolve_left (by rw [hna]; simp)⟩
theorem any1_sound {ro : Option Nat} {n : Nat} {Q : Exit → Act → World → Prop} {K : Pq → Act → H → Prop} (hK : PMono K) {AL : List (List Nat)} (hanc : ancOk ops AL = true) {fuel : Nat} {p m : List Nat} {i : Nat} {listed : Array Bool} {pend : Pq} {a : Act} {σ : H} {w : World}
    (hlen : (p ++ i :: m).length ≤ fuel + 1) (hw : σ.le w) (h : SRunD P ops cl (ancOf AL) pend p a (fun q a σ => SRunD P ops cl (ancOf AL) q (i :: m) a K σ) σ) (hr : RemOk ops listed (p ++ i :: m)) (hi : i ∈ Region.ready .any ops listed)
    (hR : ∀ y ∈ p, Rl ops cl AL y i) (hpw : (p ++ m).Pairwise (Rl ops cl AL))
    (hq : ∀ p' a' σ' w', Ext σ w σ' w' → K p' a' σ' → Q .normal a' w') : wpOpIn (FW ro) n P ops Q i (fun a w => wpAnyIn (FW ro) n P .any ops Q fuel (listed.setIfInBounds i true) a w) a w := by
  have hfr := SRunD.front hK p (front_ok (cl := cl) hanc hr hi hR) (Fin.of_le hw) (SRunD.app p (Fin.of_le hw) h)
  refine op_sound hw hfr fun pend' v σ' w' he h' => ?_
  obtain ⟨c1, c2, c3, c4, c5⟩ := hr.step hi
  exact any_sound hK hanc fuel (p ++ m) _ (by simp at hlen ⊢; omega) he.le h' c1 c2 c3 c4 c5 hpw fun p₂ a₂ σ₂ w₂ he₂ hk => hq _ _ _ _ (he.trans he₂) hk
theorem any2_sound {ro : Option Nat} {n : Nat} {Q : Exit → Act → World → Prop} {K : Pq → Act → H → Prop} (hK : PMono K) {AL : List (List Nat)} (hanc : ancOk ops AL = true) {i j : Nat} {m1 m2 : List Nat} (hij : i ∈ m2 ∧ j ∈ m1) (hm : ∀ x ∈ m1, x = j ∨ ancOf AL i x = true ∨ ancOf AL j x = true) :
    ∀ (fuel : Nat) (p : List Nat) (listed : Array Bool) {pend : Pq} {a : Act} {σ : H} {w : World}, (p ++ i :: m1).length ≤ fuel → (p ++ j :: m2).length ≤ fuel → σ.le w → SRunD P ops cl (ancOf AL) pend p a (fun q a σ => SRunD P ops cl (ancOf AL) q (i :: m1) a K σ ∧ SRunD P ops cl (ancOf AL) q (j :: m2) a K σ) σ →
    RemOk ops listed (p ++ i :: m1) → RemOk ops listed (p ++ j :: m2) → (p ++ m1).Pairwise (Rl ops cl AL) → (p ++ m2).Pairwise (Rl ops cl AL) → (∀ y ∈ p, Rl ops cl AL y i ∧ Rl ops cl AL y j) →
    (∀ p' a' σ' w', Ext σ w σ' w' → K p' a' σ' → Q .normal a' w') → wpAnyIn (FW ro) n P .any ops Q fuel listed a w := by
  have hK2 : PMono (fun q a σ => SRunD P ops cl (ancOf AL) q (i :: m1) a K σ ∧ SRunD P ops cl (ancOf AL) q (j :: m2) a K σ) := fun _ _ _ _ hs h => ⟨SRunD.pend hK hs h.1, SRunD.pend hK hs h.2⟩
  intro fuel
  induction fuel with
  | zero => intro p listed pend a σ w hlen; simp at hlen
  | succ fuel ih =>
    intro p listed pend a σ w hlen hlen2 hw h hr1 hr2 hp1 hp2 hpR hq
    refine ⟨fun hnil => ?_, fun x hx => ?_⟩
    · exfalso
      obtain ⟨y, r, hy⟩ : ∃ y r, p ++ i :: m1 = y :: r := by cases p <;> exact ⟨_, _, rfl⟩
      have hx := hr1.ahead y (by rw [hy]; exact List.mem_cons_self ..)
      have : y ∈ Region.ready .any ops listed := by
        rw [ready_iff]
        refine ⟨hx.1, hx.2, fun z hz => ?_⟩
        rcases hr1.lin [] y r hy z hz with h' | h'
        · exact h'
        · simp at h'
      rw [hnil] at this; simp at this
    · have hx' := hx
      rw [ready_iff] at hx'
      obtain ⟨hxs, hxl, hxp⟩ := hx'
      have hmem : x ∈ p ++ i :: m1 := by
        rcases hr1.all x hxs with h1 | h1
        · have : x < listed.size := by rw [hr1.cls.size]; exact hxs
          simp [this] at h1 hxl; rw [h1] at hxl; simp at hxl
        · exact h1
      rcases List.mem_append.1 hmem with hmem | hmem
      · obtain ⟨p1, p2, rfl⟩ := List.append_of_mem hmem
        simp only [List.append_assoc, List.cons_append] at hr1 hr2 hp1 hp2
        have hR : ∀ y ∈ p1, Rl ops cl AL y x := by
          intro y hy
          rw [List.pairwise_append] at hp1
          exact hp1.2.2 y hy x (List.mem_cons_self ..)
        have hfr := SRunD.front hK2 p1 (front_ok (cl := cl) hanc hr1 hx hR) (Fin.of_le hw) h
        refine op_sound hw hfr fun pend' v σ' w' he h' => ?_
        have s1 := hr1.step hx
        have s2 := hr2.step hx
        refine ih (p1 ++ p2) _ (by simp at hlen ⊢; omega) (by simp at hlen2 ⊢; omega) he.le h' (by simpa using s1) (by simpa using s2) ?_ ?_ ?_ fun p₂ a₂ σ₂ w₂ he₂ hk => hq _ _ _ _ (he.trans he₂) hk
        · rw [List.append_assoc]
          exact hp1.sublist (List.Sublist.append (List.Sublist.refl _) (List.sublist_cons_self ..))
        · rw [List.append_assoc]
          exact hp2.sublist (List.Sublist.append (List.Sublist.refl _) (List.sublist_cons_self ..))
        · intro y hy
          refine hpR y ?_
          simp at hy ⊢
          rcases hy with h | h
          · exact .inl h
          · exact .inr (.inr h)
      · rcases List.mem_cons.1 hmem with rfl | hmem
        · exact any1_sound hK hanc hlen hw (SRunD.mono (fun _ _ _ h => h.1) p (Fin.of_le hw) h) hr1 hx (fun y hy => (hpR y hy).1) hp1 hq
        · by_cases hxj : x = j
          · subst hxj
            exact any1_sound hK hanc hlen2 hw (SRunD.mono (fun _ _ _ h => h.2) p (Fin.of_le hw) h) hr2 hx (fun y hy => (hpR y hy).2) hp2 hq
          · exfalso
            have hno : ∀ y, y ∈ p ++ i :: m1 → ancOf AL y x = true → False := by
              intro y hy ha
              have h1 := anc_listed hanc hr1.cls x y hxs ha hxp
              have h2 := (hr1.ahead y hy).2
              have hys : y < listed.size := by rw [hr1.cls.size]; exact (hr1.ahead y hy).1
              simp [hys] at h1 h2; rw [h1] at h2; simp at h2
            rcases (hm x hmem).resolve_left hxj with h1 | h1
            · exact hno i (by simp) h1
            · exact hno j (by simp [hij.2]) h1
def listOk (ops : Array Oper) (π : List Nat) : Bool :=
  Nat.beq π.length ops.size && (List.range ops.size).all (fun i => π.contains i) && π.all (fun i => Nat.blt i ops.size) && nodupB π && linOk ops [] π
theorem listOk_rem {π : List Nat} (h : listOk ops π = true) : π.length = ops.size ∧ RemOk ops (Array.replicate ops.size false) π := by
  unfold listOk at h
  simp only [Bool.and_eq_true, List.all_eq_true] at h
  obtain ⟨⟨⟨⟨hlen, hall⟩, hlt⟩, hnd⟩, hlin⟩ := h
  refine ⟨Nat.eq_of_beq_eq_true hlen, ⟨by simp, ?_⟩, ?_, ?_, nodupB_nodup _ hnd, ?_⟩
  · intro x hx; exfalso
    rcases Nat.lt_or_ge x ops.size with h1 | h1
    · simp [h1] at hx
    · simp [Nat.not_lt.2 h1] at hx
  · intro i hi; exact .inr (by simpa using hall i (by simpa using hi))
  · intro i hi
    have hi' : i < ops.size := by simpa using hlt i hi
    exact ⟨hi', by simp [hi']⟩
  · intro p x r hp z hz
    rcases linOk_front π [] hlin p x r hp z hz with h1 | h1
    · simp at h1
    · exact .inr h1
def rlB (ops : Array Oper) (cl : Nat → Nat) (AL : List (List Nat)) (y x : Nat) : Bool := ancOf AL y x || swapOk ops cl y x
def draw2Ok (ops : Array Oper) (cl : Nat → Nat) (AL : List (List Nat)) (p : List Nat) (i : Nat) (m1 : List Nat) (j : Nat) (m2 : List Nat) : Bool :=
  listOk ops (p ++ i :: m1) && listOk ops (p ++ j :: m2) && pairOk ops cl (ancOf AL) (p ++ m1) && pairOk ops cl (ancOf AL) (p ++ m2) && p.all (fun y => rlB ops cl AL y i && rlB ops cl AL y j) && m1.all (fun x => Nat.beq x j || (ancOf AL i x || ancOf AL j x)) && (m2.contains i && m1.contains j) && ancOk ops AL
theorem draw2_sound {ro : Option Nat} {n : Nat} {Q : Exit → Act → World → Prop} {K : Pq → Act → H → Prop} (hK : PMono K) {AL : List (List Nat)} {p m1 m2 : List Nat} {i j : Nat} (hm : P.follows .mixedOrders = true) (hok : draw2Ok ops cl AL p i m1 j m2 = true) {id : Nat} {a : Act} {σ : H} {w : World} (hw : σ.le w)
    (h : SRunD P ops cl (ancOf AL) [] p a (fun q a σ => SRunD P ops cl (ancOf AL) q (i :: m1) a K σ ∧ SRunD P ops cl (ancOf AL) q (j :: m2) a K σ) σ) (hq : ∀ p' a' σ' w', Ext σ w σ' w' → K p' a' σ' → Q .normal a' w') : (Code.region id ops true).wpIn (FW ro) n P Q a w := by
  unfold draw2Ok at hok
  simp only [Bool.and_eq_true] at hok
  obtain ⟨⟨⟨⟨⟨⟨⟨h1, h2⟩, h3⟩, h4⟩, h5⟩, h6⟩, h7, h8⟩, hanc⟩ := hok
  obtain ⟨l1, r1⟩ := listOk_rem h1
  obtain ⟨l2, r2⟩ := listOk_rem h2
  refine wpIn_region_any hm ?_
  refine any2_sound hK hanc ⟨by simpa using h7, by simpa using h8⟩ ?_ _ p _ (by omega) (by omega) (w := { w with drawn := w.drawn + 1 }) hw h r1 r2 (pairOk_pairwise _ h3) (pairOk_pairwise _ h4) ?_ ?_
  · intro x hx
    have := List.all_eq_true.1 h6 x hx
    simp only [Bool.or_eq_true] at this
    rcases this with h | h
    · exact .inl (Nat.eq_of_beq_eq_true h)
    · exact .inr h
  · intro y hy
    have := List.all_eq_true.1 h5 y hy
    simp only [Bool.and_eq_true, rlB, Bool.or_eq_true] at this
    exact this
  · intro p' a' σ' w' he hk
    exact hq p' a' σ' w' ((Ext.drew hw _).trans he) hk
end
end Go.HL
