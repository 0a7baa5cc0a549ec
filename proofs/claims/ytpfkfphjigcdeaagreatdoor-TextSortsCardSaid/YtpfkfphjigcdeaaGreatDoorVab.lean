/- A part of a proof. -/
import Derived.Test.YtpfkfphjigcdeaaGreatDoorVaa
import Derived.OrdersIn
namespace Go.HL
open Go

@[reducible] def FW (ro : Option Nat) : Fence := { fn := fun _ => True, depth := none, alive := false, round := ro }
def plainOp : Op -> Bool
 | .select _ _ | .defer _ | .go _ => false
 | _ => true

def RdS (P : Program) (s : Sem Next) (σ : H) (v : Value) : Prop := ∀ w, σ.le w -> s.run P w = .ok (.value v) w
def Sil (P : Program) (s : Sem Next) (v : Value) : Prop := ∀ w, s.run P w = .ok (.value v) w
def IsAl (P : Program) (s : Sem Next) (mk : Nat -> Value) (obj : Obj) : Prop := ∀ w : World, s.run P w = .ok (.value (mk w.heap.size)) (w.alloc obj)
def Fin (σ : H) : Prop := ∃ n, ∀ b, n <= b -> σ b = none

theorem Fin.of_le {σ : H} {w : World} (h : σ.le w) : Fin σ := ⟨w.heap.size, fun b hb => by
 cases hc : σ b with
 | none => rfl
 | some o => have := h.lt hc; omega⟩
theorem Fin.put {σ : H} (h : Fin σ) (b : Nat) (o : Obj) : Fin (σ.put b o) := by
 obtain ⟨n, hn⟩ := h
 refine ⟨max n (b + 1), fun c hc => ?_⟩
 rw [H.put_other _ _ (by omega)]; exact hn c (by omega)
theorem Fin.world {σ : H} (h : Fin σ) : ∃ w : World, σ.le w := by
 obtain ⟨n, hn⟩ := h
 refine ⟨{ heap := Array.ofFn (n := n) fun i => (σ i).getD default, tape := fun _ _ => 0, drawn := 0, os := default, output := #[] }, fun b o hb => ?_⟩
 have hlt : b < n := by
  rcases Nat.lt_or_ge b n with h | h
  ·exact h
  ·rw [hn b h] at hb; cases hb
 simp [hlt, hb]
theorem Fin.fresh {σ : H} (h : Fin σ) : ∃ b, σ b = none := by obtain ⟨n, hn⟩ := h; exact ⟨n, hn n (Nat.le_refl _)⟩

theorem RdS.put {P : Program} {s : Sem Next} {σ : H} {v : Value} (h : RdS P s σ v) {b : Nat} {o : Obj} (hb : σ b = none) : RdS P s (σ.put b o) v :=
 fun w hw => h w (H.le_of_put hb hw)

theorem reach.out {P : Program} {R : Value -> World -> Prop} {x : Result Next} (h : reach P R x) : ∃ v w, R v w := by
 unfold reach at h
 split at h
 ·exact ⟨_, _, h⟩
 ·exact ⟨_, _, h⟩
 ·obtain ⟨_, hh⟩ := h
  obtain ⟨e, w', fr, ⟨v, _, hr⟩, _⟩ := hh [] (room_wide _)
  exact ⟨v, w', hr⟩
 ·obtain ⟨_, hh⟩ := h
  obtain ⟨e, w', ⟨v, _, hr⟩, _⟩ := hh default [] (room_wide _)
  exact ⟨v, w', hr⟩
 ·exact h.elim
theorem invW.out {P : Program} {s : Sem Next} {K : KH} {σ : H} (h : invW P s K σ) (hf : Fin σ) : ∃ v σ', K v σ' := by
 obtain ⟨w, hw⟩ := hf.world
 obtain ⟨v, w', σ', _, hk⟩ := (h w hw).out
 exact ⟨v, σ', hk⟩
theorem invW.fin {P : Program} {s : Sem Next} {K : KH} {σ : H} (h : invW P s K σ) : invW P s (fun v σ' => Fin σ' /\ K v σ') σ :=
 fun w hw => (h w hw).mono fun _ _ ⟨σ', he, hk⟩ => ⟨σ', he, Fin.of_le he.le, hk⟩

section
variable (P : Program) (ops : Array Oper) (cl : Nat -> Nat) (A : Nat -> Nat -> Bool)

abbrev Pq := List (Nat × Sem Next × Value)
def PMono (K : Pq -> Act -> H -> Prop) : Prop := ∀ (p p' : Pq) (a : Act) (σ : H), (∀ q ∈ p', q ∈ p) -> K p a σ -> K p' a σ
def SRunD : List (Nat × Sem Next × Value) -> List Nat -> Act -> (Pq -> Act -> H -> Prop) -> H -> Prop
 | p, [], a, K, σ => K p a σ
 | pend, i :: l, a, K, σ => ∃ o, ops[i]? = some o /\ plainOp o.op = true /\
  if Region.wanted o (yielded ops a.tmps) then
   match cl i with
   | 0 => ∃ v, Sil P (execOp a.eval o) v /\ SRunD pend l (a.put o.dst v) K σ
   | 1 => ∃ v, RdS P (execOp a.eval o) σ v /\ SRunD ((i, execOp a.eval o, v) :: pend) l (a.put o.dst v) K σ
   | 2 => ∃ mk obj, IsAl P (execOp a.eval o) mk obj /\ ∀ b, σ b = none -> SRunD pend l (a.put o.dst (mk b)) K (σ.put b obj)
   | _ => invW P (execOp a.eval o) (fun v σ' => (∀ q ∈ pend, A q.1 i = true \/ RdS P q.2.1 σ' q.2.2) /\ SRunD pend l (a.put o.dst v) K σ') σ
  else SRunD pend l (a.put o.dst undef) K σ
end
section
variable {P : Program} {ops : Array Oper} {cl : Nat -> Nat} {A : Nat -> Nat -> Bool}

theorem SRunD.pend {l : List Nat} : ∀ {p p' : List (Nat × Sem Next × Value)} {a : Act} {K : Pq -> Act -> H -> Prop} {σ : H}, PMono K -> (∀ q ∈ p', q ∈ p) -> SRunD P ops cl A p l a K σ -> SRunD P ops cl A p' l a K σ := by
 induction l with
 | nil => intro p p' a K σ hm hs h; exact hm _ _ _ _ hs h
 | cons i l ih =>
  intro p p' a K σ hm hs h
  obtain ⟨o, ho, hp, h⟩ := h
  refine ⟨o, ho, hp, ?_⟩
  split at h
  ·rename_i hw
   rw [if_pos hw]
   split at h
   ·obtain ⟨v, hv, h⟩ := h; exact ⟨v, hv, ih hm hs h⟩
   ·obtain ⟨v, hv, h⟩ := h
    refine ⟨v, hv, ih hm (fun q hq => ?_) h⟩
    cases hq with
    | head => exact List.mem_cons_self ..
    | tail _ hq => exact List.mem_cons_of_mem _ (hs q hq)
   ·obtain ⟨mk, obj, hv, h⟩ := h; exact ⟨mk, obj, hv, fun b hb => ih hm hs (h b hb)⟩
   ·exact h.mono fun v σ' ⟨h1, h2⟩ => ⟨fun q hq => h1 q (hs q hq), ih hm hs h2⟩
  ·rename_i hw
   rw [if_neg hw]
   exact ih hm hs h

theorem SRunD.head {l l' : List Nat} {K K' : Pq -> Act -> H -> Prop} (hll : ∀ p a σ, Fin σ -> SRunD P ops cl A p l a K σ -> SRunD P ops cl A p l' a K' σ) {i : Nat} {p : List (Nat × Sem Next × Value)} {a : Act} {σ : H}
 (hf : Fin σ) (h : SRunD P ops cl A p (i :: l) a K σ) : SRunD P ops cl A p (i :: l') a K' σ := by
 obtain ⟨o, ho, hp, h⟩ := h
 refine ⟨o, ho, hp, ?_⟩
 split at h
 ·rename_i hw
  rw [if_pos hw]
  split at h
  ·obtain ⟨v, hv, h⟩ := h; exact ⟨v, hv, hll _ _ _ hf h⟩
  ·obtain ⟨v, hv, h⟩ := h; exact ⟨v, hv, hll _ _ _ hf h⟩
  ·obtain ⟨mk, obj, hv, h⟩ := h; exact ⟨mk, obj, hv, fun b hb => hll _ _ _ (hf.put _ _) (h b hb)⟩
  ·exact h.fin.mono fun v σ' ⟨hf', h1, h2⟩ => ⟨h1, hll _ _ _ hf' h2⟩
 ·rename_i hw
  rw [if_neg hw]
  exact hll _ _ _ hf h

def fits (cy cx : Nat) : Bool :=
 match cy, cx with
 | 0, _ => true
 | 1, _ => true
 | 2, 0 => true
 | 2, 2 => true
 | 2, _ => false
 | _, 0 => true
 | _, 2 => true
 | _, _ => false

theorem plain_select {o : Oper} (h : plainOp o.op = true) : ∀ cs b, o.op ≠ .select cs b := by
 intro cs b e; rw [e] at h; cases h
theorem plain_defer {o : Oper} (h : plainOp o.op = true) : ∀ c, o.op ≠ .defer c := by
 intro c e; rw [e] at h; cases h

theorem SRunD.swap {y x : Nat} {oy ox : Oper} (hy : ops[y]? = some oy) (hx : ops[x]? = some ox) (hap : oy.apart ops ox = true) (hA : A y x = false) (hfit : fits (cl y) (cl x) = true)
 {p : List (Nat × Sem Next × Value)} {l : List Nat} {a : Act} {K : Pq -> Act -> H -> Prop} {σ : H} (hK : PMono K) (hf : Fin σ)
 (h : SRunD P ops cl A p (y :: x :: l) a K σ) : SRunD P ops cl A p (x :: y :: l) a K σ := by
 obtain ⟨h1, h2, h3⟩ := Oper.apart_spec hap
 have hcomm : ∀ (a : Act) (u v : Value), (a.put oy.dst u).put ox.dst v = (a.put ox.dst v).put oy.dst u := fun a u v => Act.put_comm a u v h2
 obtain ⟨oy', hoy, hpy, h⟩ := h
 rw [hy] at hoy; cases hoy
 have hpx : plainOp ox.op = true := by
  by_cases hwy : Region.wanted oy (yielded ops a.tmps) = true
  ·rw [if_pos hwy] at h
   split at h
   ·obtain ⟨v, hv, ox', hox, hpx, _⟩ := h; rw [hx] at hox; cases hox; exact hpx
   ·obtain ⟨v, hv, ox', hox, hpx, _⟩ := h; rw [hx] at hox; cases hox; exact hpx
   ·obtain ⟨mk, obj, hv, h⟩ := h
    obtain ⟨b, hb⟩ := hf.fresh
    obtain ⟨ox', hox, hpx, _⟩ := h b hb; rw [hx] at hox; cases hox; exact hpx
   ·obtain ⟨v, σ', _, ox', hox, hpx, _⟩ := h.out hf; rw [hx] at hox; cases hox; exact hpx
  ·rw [if_neg hwy] at h
   obtain ⟨ox', hox, hpx, _⟩ := h; rw [hx] at hox; cases hox; exact hpx
 have ex : ∀ u, execOp (a.put oy.dst u).eval ox = execOp a.eval ox := fun u => execOp_put ox (plain_select hpx) a oy.dst u h1
 have ey : ∀ u, execOp (a.put ox.dst u).eval oy = execOp a.eval oy := fun u => execOp_put oy (plain_select hpy) a ox.dst u h3
 have wx : ∀ u, Region.wanted ox (yielded ops (a.put oy.dst u).tmps) = Region.wanted ox (yielded ops a.tmps) := fun u => wanted_put ox a oy.dst u h1
 have wy : ∀ u, Region.wanted oy (yielded ops (a.put ox.dst u).tmps) = Region.wanted oy (yielded ops a.tmps) := fun u => wanted_put oy a ox.dst u h3
 refine ⟨ox, hx, hpx, ?_⟩
 by_cases hwy : Region.wanted oy (yielded ops a.tmps) = true
 ·rw [if_pos hwy] at h
  by_cases hwx : Region.wanted ox (yielded ops a.tmps) = true
  ·rw [if_pos hwx]
   split at h
   ·-- y silent
    obtain ⟨v, hv, ox', hox, _, h⟩ := h; rw [hx] at hox; cases hox
    rw [wx, if_pos hwx, ex] at h
    split at h
    ·obtain ⟨u, hu, h⟩ := h
     refine ⟨u, hu, oy, hy, hpy, ?_⟩
     rw [wy, if_pos hwy, ey, ‹cl y = 0›]
     exact ⟨v, hv, by rw [<- hcomm]; exact h⟩
    ·obtain ⟨u, hu, h⟩ := h
     refine ⟨u, hu, oy, hy, hpy, ?_⟩
     rw [wy, if_pos hwy, ey, ‹cl y = 0›]
     exact ⟨v, hv, by rw [<- hcomm]; exact h⟩
    ·obtain ⟨mk, obj, hu, h⟩ := h
     refine ⟨mk, obj, hu, fun b hb => ⟨oy, hy, hpy, ?_⟩⟩
     rw [wy, if_pos hwy, ey, ‹cl y = 0›]
     exact ⟨v, hv, by rw [<- hcomm]; exact h b hb⟩
    ·refine h.mono fun u σ' ⟨hc, h⟩ => ⟨hc, oy, hy, hpy, ?_⟩
     rw [wy, if_pos hwy, ey, ‹cl y = 0›]
     exact ⟨v, hv, by rw [<- hcomm]; exact h⟩
   ·-- y reads
    obtain ⟨v, hv, ox', hox, _, h⟩ := h; rw [hx] at hox; cases hox
    rw [wx, if_pos hwx, ex] at h
    split at h
    ·obtain ⟨u, hu, h⟩ := h
     refine ⟨u, hu, oy, hy, hpy, ?_⟩
     rw [wy, if_pos hwy, ey, ‹cl y = 1›]
     exact ⟨v, hv, by rw [<- hcomm]; exact h⟩
    ·obtain ⟨u, hu, h⟩ := h
     refine ⟨u, hu, oy, hy, hpy, ?_⟩
     rw [wy, if_pos hwy, ey, ‹cl y = 1›]
     refine ⟨v, hv, ?_⟩
     rw [<- hcomm]
     exact h.pend hK fun q hq => by
      simp only [List.mem_cons] at hq ⊢
      rcases hq with rfl | rfl | hq
      ·exact .inr (.inl rfl)
      ·exact .inl rfl
      ·exact .inr (.inr hq)
    ·obtain ⟨mk, obj, hu, h⟩ := h
     refine ⟨mk, obj, hu, fun b hb => ⟨oy, hy, hpy, ?_⟩⟩
     rw [wy, if_pos hwy, ey, ‹cl y = 1›]
     exact ⟨v, hv.put hb, by rw [<- hcomm]; exact h b hb⟩
    ·refine h.mono fun u σ' ⟨hc, h⟩ => ⟨fun q hq => hc q (List.mem_cons_of_mem _ hq), oy, hy, hpy, ?_⟩
     rw [wy, if_pos hwy, ey, ‹cl y = 1›]
     have := hc _ (List.mem_cons_self ..)
     simp only [hA] at this
     exact ⟨v, this.resolve_left (by simp), by rw [<- hcomm]; exact h⟩
   ·-- y makes a block
    obtain ⟨mk, obj, hv, h⟩ := h
    have hcx : cl x = 0 \/ cl x = 2 := by
     rw [‹cl y = 2›] at hfit
     unfold fits at hfit
     split at hfit <;> simp_all
    rcases hcx with hcx | hcx
    ·obtain ⟨b0, hb0⟩ := hf.fresh
     obtain ⟨ox', hox, _, h0⟩ := h b0 hb0; rw [hx] at hox; cases hox
     rw [wx, if_pos hwx, ex, hcx] at h0
     obtain ⟨u, hu, _⟩ := h0
     rw [hcx]
     refine ⟨u, hu, oy, hy, hpy, ?_⟩
     rw [wy, if_pos hwy, ey, ‹cl y = 2›]
     refine ⟨mk, obj, hv, fun b hb => ?_⟩
     obtain ⟨ox', hox, _, h1'⟩ := h b hb; rw [hx] at hox; cases hox
     rw [wx, if_pos hwx, ex, hcx] at h1'
     obtain ⟨u', hu', h1'⟩ := h1'
     have : u' = u := by
      have e1 := hu default; have e2 := hu' default
      rw [e1] at e2; cases e2; rfl
     subst this
     rw [<- hcomm]; exact h1'
    ·obtain ⟨b0, hb0⟩ := hf.fresh
     obtain ⟨ox', hox, _, h0⟩ := h b0 hb0; rw [hx] at hox; cases hox
     rw [wx, if_pos hwx, ex, hcx] at h0
     obtain ⟨mx, objx, hu, _⟩ := h0
     rw [hcx]
     refine ⟨mx, objx, hu, fun b hb => ⟨oy, hy, hpy, ?_⟩⟩
     rw [wy, if_pos hwy, ey, ‹cl y = 2›]
     refine ⟨mk, obj, hv, fun c hc => ?_⟩
     have hne : c ≠ b := by intro e; subst e; rw [H.put_same] at hc; cases hc
     rw [H.put_other _ _ hne] at hc
     obtain ⟨ox', hox, _, h1'⟩ := h c hc; rw [hx] at hox; cases hox
     rw [wx, if_pos hwx, ex, hcx] at h1'
     obtain ⟨mx', objx', hu', h1'⟩ := h1'
     have hb' : σ.put c obj b = none := by rw [H.put_other _ _ (Ne.symm hne)]; exact hb
     have h2' := h1' b hb'
     have hobj : objx' = objx /\ mx' b = mx b := by
      have e1 := hu { (default : World) with heap := Array.replicate b default }
      have e2 := hu' { (default : World) with heap := Array.replicate b default }
      rw [e1] at e2
      simp only [Result.ok.injEq, Next.value.injEq] at e2
      obtain ⟨e3, e4⟩ := e2
      simp only [Array.size_replicate] at e3
      refine ⟨?_, e3.symm⟩
      have e5 := congrArg World.heap e4
      have e6 : (Array.replicate b (default : Obj)).push objx = (Array.replicate b (default : Obj)).push objx' := e5
      have e7 := congrArg Array.back? e6
      simpa using e7.symm
     obtain ⟨e3, e4⟩ := hobj
     subst e3
     rw [e4] at h2'
     rw [<- hcomm]
     have : (σ.put c obj).put b objx' = (σ.put b objx').put c obj := by
      funext k
      simp only [H.put]
      by_cases k1 : k = b
      ·subst k1; simp [Ne.symm hne]
      ·simp [k1]
     rw [<- this]; exact h2'
   ·-- y does something
    have hcx : cl x = 0 \/ cl x = 2 := by
     unfold fits at hfit
     split at hfit <;> simp_all
    have hyc : ∀ (K' : Prop) (a0 a1 a2 a3 : Prop), (match cl y with | 0 => a0 | 1 => a1 | 2 => a2 | _ => a3) = a3 := by
     intro _ a0 a1 a2 a3; split <;> simp_all
    rcases hcx with hcx | hcx
    ·obtain ⟨v0, σ0, _, ox', hox, _, h0⟩ := h.out hf; rw [hx] at hox; cases hox
     rw [wx, if_pos hwx, ex, hcx] at h0
     obtain ⟨u, hu, _⟩ := h0
     rw [hcx]
     refine ⟨u, hu, oy, hy, hpy, ?_⟩
     rw [wy, if_pos hwy, ey, hyc True]
     refine h.mono fun v σ' ⟨hc, ox', hox, _, h1'⟩ => ⟨hc, ?_⟩
     rw [hx] at hox; cases hox
     rw [wx, if_pos hwx, ex, hcx] at h1'
     obtain ⟨u', hu', h1'⟩ := h1'
     have : u' = u := by
      have e1 := hu default; have e2 := hu' default
      rw [e1] at e2; cases e2; rfl
     subst this
     rw [<- hcomm]; exact h1'
    ·obtain ⟨v0, σ0, _, ox', hox, _, h0⟩ := h.out hf; rw [hx] at hox; cases hox
     rw [wx, if_pos hwx, ex, hcx] at h0
     obtain ⟨mx, objx, hu, _⟩ := h0
     rw [hcx]
     refine ⟨mx, objx, hu, fun b hb => ⟨oy, hy, hpy, ?_⟩⟩
     rw [wy, if_pos hwy, ey, hyc True]
     refine (h.frame (o := objx) hb).mono fun v σ' ⟨σ₁, hn, hσ', hc, ox', hox, _, h1'⟩ => ⟨fun q hq => ?_, ?_⟩
     ·rcases hc q hq with h | h
      ·exact .inl h
      ·exact .inr (hσ' ▸ h.put hn)
     ·rw [hx] at hox; cases hox
      rw [wx, if_pos hwx, ex, hcx] at h1'
      obtain ⟨mx', objx', hu', h1'⟩ := h1'
      have h2' := h1' b hn
      have hobj : objx' = objx /\ mx' b = mx b := by
       have e1 := hu { (default : World) with heap := Array.replicate b default }
       have e2 := hu' { (default : World) with heap := Array.replicate b default }
       rw [e1] at e2
       simp only [Result.ok.injEq, Next.value.injEq] at e2
       obtain ⟨e3, e4⟩ := e2
       simp only [Array.size_replicate] at e3
       refine ⟨?_, e3.symm⟩
       have e5 := congrArg World.heap e4
       have e6 : (Array.replicate b (default : Obj)).push objx = (Array.replicate b (default : Obj)).push objx' := e5
       have e7 := congrArg Array.back? e6
       simpa using e7.symm
      obtain ⟨e3, e4⟩ := hobj
      subst e3
      rw [e4] at h2'
      rw [<- hcomm, hσ']; exact h2'
  ·rw [if_neg hwx]
   refine ⟨oy, hy, hpy, ?_⟩
   rw [wy, if_pos hwy, ey]
   split at h
   ·obtain ⟨v, hv, ox', hox, _, h⟩ := h; rw [hx] at hox; cases hox
    rw [wx, if_neg hwx] at h
    exact ⟨v, hv, by rw [<- hcomm]; exact h⟩
   ·obtain ⟨v, hv, ox', hox, _, h⟩ := h; rw [hx] at hox; cases hox
    rw [wx, if_neg hwx] at h
    exact ⟨v, hv, by rw [<- hcomm]; exact h⟩
   ·obtain ⟨mk, obj, hv, h⟩ := h
    refine ⟨mk, obj, hv, fun b hb => ?_⟩
    obtain ⟨ox', hox, _, h⟩ := h b hb; rw [hx] at hox; cases hox
    rw [wx, if_neg hwx] at h
    rw [<- hcomm]; exact h
   ·refine h.mono fun v σ' ⟨hc, ox', hox, _, h⟩ => ⟨hc, ?_⟩
    rw [hx] at hox; cases hox
    rw [wx, if_neg hwx] at h
    rw [<- hcomm]; exact h
 ·rw [if_neg hwy] at h
  obtain ⟨ox', hox, _, h⟩ := h; rw [hx] at hox; cases hox
  rw [wx, ex] at h
  by_cases hwx : Region.wanted ox (yielded ops a.tmps) = true
  ·rw [if_pos hwx] at h ⊢
   split at h
   ·obtain ⟨u, hu, h⟩ := h
    refine ⟨u, hu, oy, hy, hpy, ?_⟩
    rw [wy, if_neg hwy, <- hcomm]; exact h
   ·obtain ⟨u, hu, h⟩ := h
    refine ⟨u, hu, oy, hy, hpy, ?_⟩
    rw [wy, if_neg hwy, <- hcomm]; exact h
   ·obtain ⟨mk, obj, hu, h⟩ := h
    refine ⟨mk, obj, hu, fun b hb => ⟨oy, hy, hpy, ?_⟩⟩
    rw [wy, if_neg hwy, <- hcomm]; exact h b hb
   ·refine h.mono fun u σ' ⟨hc, h⟩ => ⟨hc, oy, hy, hpy, ?_⟩
    rw [wy, if_neg hwy, <- hcomm]; exact h
  ·rw [if_neg hwx] at h ⊢
   refine ⟨oy, hy, hpy, ?_⟩
   rw [wy, if_neg hwy, <- hcomm]; exact h
end
end Go.HL

