/- A part of a proof. -/
import Derived.Test.YtpfkfphjigcdeaaGreatDoorVai
namespace Go.HL
open Go

def markOf (r : Nat) : Deferred := { target := .collected r, args := #[] }
def DefOk (B : Nat) (σ : H) (w : World) (ds : List Deferred) : Prop :=
 ∃ ms : List Nat, ms.Nodup /\ ds = ms.map markOf /\ ∀ r ∈ ms, B <= r /\ σ r = none /\ w.heap[r]? = some (.deferred (some []))
theorem DefOk.nil (B : Nat) (σ : H) (w : World) : DefOk B σ w [] := ⟨[], .nil, rfl, fun _ h => by simp at h⟩
theorem DefOk.ext {B : Nat} {σ σ' : H} {w w' : World} {ds : List Deferred} (h : DefOk B σ w ds) (he : Ext σ w σ' w') : DefOk B σ' w' ds := by
 obtain ⟨ms, h1, h2, h3⟩ := h
 refine ⟨ms, h1, h2, fun r hr => ?_⟩
 obtain ⟨hb, hn, hw⟩ := h3 r hr
 have hlt : r < w.heap.size := by
  rcases Nat.lt_or_ge r w.heap.size with h | h
  ·exact h
  ·rw [Array.getElem?_eq_none h] at hw; cases hw
 refine ⟨hb, ?_, by rw [he.keep r hlt hn]; exact hw⟩
 cases hc : σ' r with
 | none => rfl
 | some o => have := he.own r o hc hn; omega

def Post (N B : Nat) (σ0 : H) (w0 : World) (Kn : Env -> H -> Prop) (Kx : Nat -> Env -> H -> Prop) (Kr : Env -> H -> Prop) : Exit -> Act -> World -> Prop
 | .normal, a, w => ∃ e σ, FR N e a /\ Ext σ0 w0 σ w /\ DefOk B σ w a.defers /\ Kn e σ
 | .exit i, a, w => ∃ e σ, FR N e a /\ Ext σ0 w0 σ w /\ DefOk B σ w a.defers /\ Kx i e σ
 | .ret, a, w => ∃ e σ, FR N e a /\ Ext σ0 w0 σ w /\ DefOk B σ w a.defers /\ Kr e σ
 | _, _, _ => False
theorem Post.pre {N B : Nat} {σ0 σ1 : H} {w0 w1 : World} {Kn : Env -> H -> Prop} {Kx : Nat -> Env -> H -> Prop} {Kr : Env -> H -> Prop} (he : Ext σ0 w0 σ1 w1) {x : Exit} {a : Act} {w : World} (h : Post N B σ1 w1 Kn Kx Kr x a w) : Post N B σ0 w0 Kn Kx Kr x a w := by
 cases x with
 | normal => obtain ⟨e, σ, h1, h2, h3⟩ := h; exact ⟨e, σ, h1, he.trans h2, h3⟩
 | exit i => obtain ⟨e, σ, h1, h2, h3⟩ := h; exact ⟨e, σ, h1, he.trans h2, h3⟩
 | ret => obtain ⟨e, σ, h1, h2, h3⟩ := h; exact ⟨e, σ, h1, he.trans h2, h3⟩
 | goto l => exact h.elim
 | panic c => exact h.elim
 | outgrown => exact h.elim

theorem leL_lam {R : Type} {le : R -> R -> Prop} : ∀ (l : List SK) {f g : List Value -> R}, (∀ vs, le (f vs) (g vs)) -> leL l le (lamL l f) (lamL l g) := by
 intro l
 induction l with
 | nil => intro f g h; exact h []
 | cons s l ih => intro f g h x; exact ih fun vs => h _
theorem CK.le_lam (c : CK) {R : Type} {le : R -> R -> Prop} {f g : Value -> R} (h : ∀ v, le (f v) (g v)) : c.le le (c.lam f) (c.lam g) := by
 cases c with
 | sc s => intro x; exact h _
 | agg l => exact leL_lam l fun vs => h _
theorem leC_lam : ∀ (l : List CK) {f g : List Value -> H -> Prop}, (∀ vs σ, f vs σ -> g vs σ) -> leC l (lamC l f) (lamC l g) := by
 intro l
 induction l with
 | nil => intro f g h; exact h []
 | cons c l ih => intro f g h; exact CK.le_lam c fun v => ih fun vs => h _

section
variable {P : Program} {τ : TypeId -> TK} {N : Nat}

def LoopIn (F : Fence) (n : Nat) (P : Program) (c : Code) (Q : Exit -> Act -> World -> Prop) (a : Act) (w : World) : Prop :=
 ∀ (b : Frame) (k : List Item) (cs : List Frame), b.roundOf = F.round -> F.fn b.fn -> F.room (cs.length + 1 + n) ->
  ∃ e a' w', Q e a' w' /\ ArrivesIn (Machine.fenced P F) P (lone (b.atR a (.code c :: .inLoop c :: k)) cs w) b k cs e a' w'
theorem loopIn_round {F : Fence} {n : Nat} {c : Code} {Q : Exit -> Act -> World -> Prop} {a : Act} {w : World} (h : c.wpIn F n P (Exit.then (LoopIn F n P c Q) Q) a w) : LoopIn F n P c Q a w := by
 intro b k cs hro hb hr
 obtain ⟨e, a₁, w₁, hq, harr⟩ := h b (.inLoop c :: k) cs hro hb hr
 cases e with
 | normal =>
  obtain ⟨e₂, a₂, w₂, hq₂, harr₂⟩ := hq b k cs hro hb hr
  exact ⟨e₂, a₂, w₂, hq₂, .of_steps (StepsIn.trans harr (.one (fenced_calm hb hr rfl) stepR_inLoop)) harr₂⟩
 | exit id => exact ⟨_, a₁, w₁, hq, .pass (x := .inLoop c) rfl (fun _ _ => .inl (by simp)) harr⟩
 | goto l => exact ⟨_, a₁, w₁, hq, .pass (x := .inLoop c) rfl (fun _ _ => .inl (by simp)) harr⟩
 | ret => exact ⟨_, a₁, w₁, hq, .pass (x := .inLoop c) rfl (fun _ _ => .inl (by simp)) harr⟩
 | panic ch => exact ⟨_, a₁, w₁, hq, .pass (x := .inLoop c) rfl (fun _ _ => .inl (by simp)) harr⟩
 | outgrown => exact ⟨_, a₁, w₁, hq, .pass (x := .inLoop c) rfl (fun _ _ => .inl (by simp)) harr⟩
theorem wpIn_loopIn {F : Fence} {n : Nat} {c : Code} {Q : Exit -> Act -> World -> Prop} {a : Act} {w : World} (h : LoopIn F n P c Q a w) : (Code.loop c).wpIn F n P Q a w := by
 intro b k cs hro hb hr
 obtain ⟨e, a', w', hq, harr⟩ := h b k cs hro hb hr
 exact ⟨e, a', w', hq, .of_steps (.one (fenced_calm hb hr rfl) stepR_loop) harr⟩

theorem Ext.allocOut {σ : H} {w : World} (h : σ.le w) (o : Obj) : Ext σ w σ (w.alloc o) := by
 obtain ⟨hn, he⟩ := Ext.alloc h o
 refine ⟨fun b o' hb => he.le b o' ?_, he.size, he.keep, (fun b o' hb hb' => by rw [hb'] at hb; cases hb), he.os, he.tape, he.output⟩
 rw [H.put_other]
 ·exact hb
 ·intro e; subst e; rw [hn] at hb; cases hb

theorem puts_fr : ∀ (ts : List Nat) (vs : List Value) {e : Env} {a : Act}, FR N e a -> allLt N ts = true -> ts.length = vs.length ->
 FR N (e.puts ts vs) { a with tmps := (ts.zip vs).foldl (fun tmps (x : Nat × Value) => tmps.setIfInBounds x.1 x.2) a.tmps } := by
 intro ts
 induction ts with
 | nil =>
  intro vs e a fr _ h
  cases vs with
  | nil => exact fr
  | cons v vs => simp at h
 | cons t ts ih =>
  intro vs e a fr hl h
  cases vs with
  | nil => simp at h
  | cons v vs =>
   simp only [allLt, Bool.and_eq_true] at hl
   exact ih vs (fr.put (d := some t) hl.1 v) hl.2 (by simpa using h)
theorem prjC_len : ∀ (l : List CK) {R : Type} (F : FnC l R) (vs : List Value) (r : R), prjC l F vs = some r -> l.length = vs.length := by
 intro l
 induction l with
 | nil =>
  intro R F vs r h
  cases vs with
  | nil => rfl
  | cons v vs => simp [prjC] at h
 | cons c l ih =>
  intro R F vs r h
  cases vs with
  | nil => simp [prjC] at h
  | cons v vs =>
   simp only [prjC] at h
   split at h
   ·simp [ih _ _ _ h]
   ·cases h
theorem sameLen_eq : ∀ (a : List Nat) (b : List CK), sameLen a b = true -> a.length = b.length := by
 intro a
 induction a with
 | nil => intro b h; cases b with | nil => rfl | cons x b => simp [sameLen] at h
 | cons x a ih => intro b h; cases b with | nil => simp [sameLen] at h | cons y b => simp [ih b h]

theorem run_getLoop {l : Nat} {r : Loop} {w : World} (h : w.heap[l]? = some (.loop r)) : (Instr.getLoop l).run P w = .ok r w := by
 simp [Instr.getLoop, getObj, Sem.run, h]
theorem run_setLoop {l : Nat} {r : Loop} {o : Obj} {w : World} (h : w.heap[l]? = some (.loop r)) : (setObj l o).run P w = .ok () { w with heap := w.heap.setIfInBounds l o } := by
 simp [setObj, Sem.run, h]

theorem stepR_scope {b : Frame} {a : Act} {k : List Item} {cs : List Frame} {w : World} {c : Code} : step P (lone (b.atR a (.code (.scope c) :: k)) cs w) = .next (lone (b.atR a (.code c :: .inScope c :: k)) cs w) :=
 step_lone_go (by simp [stepG, stepG.exec, Frame.atR])
theorem stepR_inScope {b : Frame} {a : Act} {k : List Item} {cs : List Frame} {w : World} {c : Code} : step P (lone (b.atR a (.inScope c :: k)) cs w) = .next (lone (b.atR a k) cs w) :=
 step_lone_go (by simp [stepG, stepG.exec, Frame.atR])
theorem wpIn_scope {F : Fence} {n : Nat} {a : Act} {w : World} {Q : Exit -> Act -> World -> Prop} {c : Code} (hq : ∀ l a w, ¬ Q (.goto l) a w) (h : c.wpIn F n P Q a w) : (Code.scope c).wpIn F n P Q a w := by
 intro b k cs hro hb hr
 have h0 : (lone (b.atR a (.code (.scope c) :: k)) cs w).fenced P F := fenced_calm hb hr rfl
 obtain ⟨e, a₁, w₁, hq', harr⟩ := h b (.inScope c :: k) cs hro hb hr
 cases e with
 | normal => exact ⟨.normal, a₁, w₁, hq', .head h0 stepR_scope (StepsIn.trans harr (.one (fenced_calm hb hr rfl) stepR_inScope))⟩
 | exit id' =>
  have hx : exitTo id' (.inScope c :: k) = exitTo id' k := by simp [exitTo]
  exact ⟨.exit id', a₁, w₁, hq', fun k' hk => .head h0 stepR_scope (harr.1 k' (by rw [hx]; exact hk)),
   fun hr' hk => let ⟨k₁, h1, h2⟩ := harr.2 hr' (by rw [hx]; exact hk); ⟨k₁, h1, .head h0 stepR_scope h2⟩⟩
 | goto l => exact (hq l a₁ w₁ hq').elim
 | ret => exact ⟨_, a₁, w₁, hq', .of_steps (.one h0 stepR_scope) harr⟩
 | panic ch => exact ⟨_, a₁, w₁, hq', .of_steps (.one h0 stepR_scope) harr⟩
 | outgrown => exact ⟨_, a₁, w₁, hq', .of_steps (.one h0 stepR_scope) harr⟩
theorem D_sound (hm : P.follows .mixedOrders = true) : ∀ (c : Code) (an : Ann) (ro : Option Nat) {e : Env} {Kn : Env -> H -> Prop} {Kx : Nat -> Env -> H -> Prop} {Kr : Env -> H -> Prop} {σ : H}, D P τ N c an ro e Kn Kx Kr σ ->
 ∀ (n B : Nat) (a : Act) (w : World), FR N e a -> σ.le w -> DefOk B σ w a.defers -> B <= w.heap.size -> c.wpIn (FW ro) n P (Post N B σ w Kn Kx Kr) a w := by
 intro c
 induction c with
 | skip => intro an ro e Kn Kx Kr σ h n B a w fr hw hd hB; exact wpIn_skip ⟨e, σ, fr, Ext.refl hw, hd, h⟩
 | label l => intro an ro e Kn Kx Kr σ h n B a w fr hw hd hB; exact wpIn_label ⟨e, σ, fr, Ext.refl hw, hd, h⟩
 | exit i => intro an ro e Kn Kx Kr σ h n B a w fr hw hd hB; exact wpIn_exit ⟨e, σ, fr, Ext.refl hw, hd, h⟩
 | ret => intro an ro e Kn Kx Kr σ h n B a w fr hw hd hB; exact wpIn_ret ⟨e, σ, fr, Ext.refl hw, hd, h⟩
 | goto l => intro an ro e Kn Kx Kr σ h; exact h.elim
 | refuse s => intro an ro e Kn Kx Kr σ h; exact h.elim
 | scope b ih =>
  intro an ro e Kn Kx Kr σ h n B a w fr hw hd hB
  cases an with
  | blk an => exact wpIn_scope (fun l a w h => h) (ih an ro h n B a w fr hw hd hB)
  | _ => exact h.elim
 | seq x y ihx ihy =>
  intro an ro e Kn Kx Kr σ h n B a w fr hw hd hB
  simp only [D] at h
  split at h
  ·rename_i ax ay
   refine wpIn_seq (wpIn_mono (ihx _ _ h n B a w fr hw hd hB) fun ex a' w' hp => ?_)
   cases ex with
   | normal =>
    obtain ⟨e', σ', fr', he, hd', h'⟩ := hp
    exact wpIn_mono (ihy _ _ h' n B a' w' fr' he.le hd' (Nat.le_trans hB he.size)) fun _ _ _ => Post.pre he
   | exit i => exact hp
   | ret => exact hp
   | goto l => exact hp.elim
   | panic c => exact hp.elim
   | outgrown => exact hp.elim
  ·rename_i l ax ay
   refine wpIn_seq (wpIn_mono (ihx _ _ h n B a w fr hw hd hB) fun ex a' w' hp => ?_)
   cases ex with
   | normal =>
    obtain ⟨e', σ', fr', he, hd', h'⟩ := hp
    obtain ⟨vs, hs, h'⟩ := Live.app_lam h'
    exact wpIn_mono (ihy _ _ h' n B a' w' (fr'.sel hs) he.le hd' (Nat.le_trans hB he.size)) fun _ _ _ => Post.pre he
   | exit i => exact hp
   | ret => exact hp
   | goto l => exact hp.elim
   | panic c => exact hp.elim
   | outgrown => exact hp.elim
  ·exact h.elim
 | cond c x y ihx ihy =>
  intro an ro e Kn Kx Kr σ h n B a w fr hw hd hB
  simp only [D] at h
  split at h
  ·rename_i ax ay t ht
   cases t with
   | true => exact wpIn_cond_true (fr.evO ht) (ihx _ _ h n B a w fr hw hd hB)
   | false => exact wpIn_cond_false (fr.evO ht) (ihy _ _ h n B a w fr hw hd hB)
  ·exact h.elim
 | block id x ih =>
  intro an ro e Kn Kx Kr σ h n B a w fr hw hd hB
  simp only [D] at h
  split at h
  ·refine wpIn_block (wpIn_mono (ih _ _ h n B a w fr hw hd hB) fun ex a' w' hp => ?_)
   cases ex with
   | normal => exact hp
   | exit i =>
    obtain ⟨e', σ', fr', he, hd', h'⟩ := hp
    simp only [Exit.inBlock]
    split at h'
    ·rename_i hb
     rw [if_pos (Nat.eq_of_beq_eq_true hb)]; exact ⟨e', σ', fr', he, hd', h'⟩
    ·rename_i hb
     rw [if_neg (Nat.ne_of_beq_eq_false hb)]; exact ⟨e', σ', fr', he, hd', h'⟩
   | ret => exact hp
   | goto l => exact hp.elim
   | panic c => exact hp.elim
   | outgrown => exact hp.elim
  ·exact h.elim
 | loop x ih =>
  intro an ro e Kn Kx Kr σ h n B a w fr hw hd hB
  simp only [D] at h
  split at h
  ·rename_i l ax
   have h1 := h (lamC l.ks fun vs σ' => ∀ a w, FR N (l.zip vs) a -> σ'.le w -> DefOk B σ' w a.defers -> B <= w.heap.size -> LoopIn (FW ro) n P x (Post N B σ' w Kn Kx Kr) a w) (leC_lam _ fun vs σ' hD a w fr hw hd hB => ?_)
   ·obtain ⟨vs, g, hs, hg, h1⟩ := Live.app_get h1
    rw [prjC_lamC _ _ _ _ hg] at h1
    exact wpIn_loopIn (h1 a w (fr.sel hs) hw hd hB)
   ·refine loopIn_round (wpIn_mono (ih _ _ hD n B a w fr hw hd hB) fun ex a' w' hp => ?_)
    cases ex with
    | normal =>
     obtain ⟨e', σ'', fr', he, hd', h'⟩ := hp
     obtain ⟨vs', g, hs, hg, h'⟩ := Live.app_get h'
     rw [prjC_lamC _ _ _ _ hg] at h'
     intro b k cs hro hb hr
     obtain ⟨e2, a2, w2, hq, harr⟩ := h' a' w' (fr'.sel hs) he.le hd' (Nat.le_trans hB he.size) b k cs hro hb hr
     exact ⟨e2, a2, w2, Post.pre he hq, harr⟩
    | exit i => exact hp
    | ret => exact hp
    | goto l => exact hp.elim
    | panic c => exact hp.elim
    | outgrown => exact hp.elim
  ·exact h.elim
 | region id ops draw =>
  intro an ro e Kn Kx Kr σ h n B a w fr hw hd hB
  simp only [D] at h
  split at h
  ·rename_i π AL
   split at h
   ·rename_i hok
    refine draw_sound (fun _ _ _ _ hs ⟨q', e', hpr, h⟩ => ⟨q', e', hpr.mono hs, h⟩) hm hok hw (rgF_sound (p := []) _ (fun y hy => by simp at hy) fr h) fun p' a' σ' w' he ⟨q', e', _, fr', hde, hk⟩ => ?_
    exact ⟨e', σ', fr', he, by rw [hde]; exact hd.ext he, hk⟩
   ·exact h.elim
  ·refine wpIn_region (run_sound _ hw (rgF_sound (p := []) _ (fun y hy => by simp at hy) fr h) fun p' a' σ' w' he ⟨q', e', _, fr', hde, hk⟩ => ?_)
   exact ⟨e', σ', fr', he, by rw [hde]; exact hd.ext he, hk⟩
  ·rename_i p i m1 j m2 AL
   split at h
   ·rename_i hok
    have h0 := rgF_sound (p := []) _ (fun y hy => by simp at hy) fr h
    have h1 := SRunD.mono (K' := fun q a1 σ1 => SRunD P ops (clI P ops.toList) (ancOf AL) q (i :: m1) a1 (fun p' a' σ' => ∃ q' e', PR P q' p' /\ FR N e' a' /\ a'.defers = a.defers /\ Kn e' σ') σ1 /\ SRunD P ops (clI P ops.toList) (ancOf AL) q (j :: m2) a1 (fun p' a' σ' => ∃ q' e', PR P q' p' /\ FR N e' a' /\ a'.defers = a.defers /\ Kn e' σ') σ1)
     (fun q a1 σ1 ⟨q', e', hpr, fr', hde, hb⟩ => ⟨by rw [<- hde]; exact rgF_sound _ hpr fr' hb.1, by rw [<- hde]; exact rgF_sound _ hpr fr' hb.2⟩) p (Fin.of_le hw) h0
    refine draw2_sound (fun _ _ _ _ hs ⟨q', e', hpr, h⟩ => ⟨q', e', hpr.mono hs, h⟩) hm hok hw h1 fun p' a' σ' w' he ⟨q', e', _, fr', hde, hk⟩ => ?_
    exact ⟨e', σ', fr', he, by rw [hde]; exact hd.ext he, hk⟩
   ·exact h.elim
  ·exact h.elim
 | rangeFunc f ps asg body iha ihb =>
  intro an ro e Kn Kx Kr σ h n B a w fr hw hd hB
  simp only [D] at h
  split at h
  ·rename_i ks aa ab fv hf
   split at h
   ·rename_i hgl
    simp only [Bool.and_eq_true] at hgl
    obtain ⟨hsl, hlt⟩ := hgl
    have hsl := sameLen_eq _ _ hsl
    unfold funW at h
    split at h
    case h_2 => exact h.elim
    rename_i g as0 cs
    obtain ⟨hg, hro, h⟩ := h
    refine wpIn_rangeFunc fun fn _ => ?_
    -- the record
    have enter : ∃ (l dblk : Nat) (mark : List Deferred) (w₁ : World),
     (Instr.enterLoop fn a.tmps ps asg body ro).run P w = .ok (l, mark) w₁ /\ σ l = none /\
     Ext σ w (σ.put l (.loop { state := .ready, pending := none, fn, tmps := a.tmps, params := ps, assign := asg, body, defers := dblk })) w₁ /\ DefOk B (σ.put l (.loop { state := .ready, pending := none, fn, tmps := a.tmps, params := ps, assign := asg, body, defers := dblk })) w₁ (mark ++ a.defers) := by
     cases ro with
     | none =>
      refine ⟨w.heap.size + 1, w.heap.size, [markOf w.heap.size], (w.alloc (.deferred (some []))).alloc (.loop { state := .ready, pending := none, fn, tmps := a.tmps, params := ps, assign := asg, body, defers := w.heap.size }), ?_, ?_, ?_, ?_⟩
      ·simp [Instr.enterLoop, markOf, World.alloc_eq]
      ·cases hc : σ (w.heap.size + 1) with
       | none => rfl
       | some o => have := hw.lt hc; omega
      ·have e1 := Ext.allocOut hw (.deferred (some []))
       have e2 := (Ext.alloc e1.le (.loop { state := .ready, pending := none, fn, tmps := a.tmps, params := ps, assign := asg, body, defers := w.heap.size })).2
       have : (w.alloc (.deferred (some []))).heap.size = w.heap.size + 1 := by show (w.heap.push _).size = _; simp
       rw [this] at e2
       exact e1.trans e2
      ·obtain ⟨ms, h1, h2, h3⟩ := hd
       have hlt' : ∀ r ∈ ms, r < w.heap.size := fun r hr => by
        have := (h3 r hr).2.2
        rcases Nat.lt_or_ge r w.heap.size with h | h
        ·exact h
        ·rw [Array.getElem?_eq_none h] at this; cases this
       have hget : ∀ (o o' : Obj) (r : Nat), r < w.heap.size -> ((w.alloc o).alloc o').heap[r]? = w.heap[r]? := by
        intro o o' r hr
        show ((w.heap.push o).push o')[r]? = _
        rw [Array.getElem?_push, if_neg (by simp only [Array.size_push]; omega), Array.getElem?_push, if_neg (by omega)]
       refine ⟨w.heap.size :: ms, List.nodup_cons.2 ⟨fun hr => Nat.lt_irrefl _ (hlt' _ hr), h1⟩, by simp [h2], fun r hr => ?_⟩
       rcases List.mem_cons.1 hr with rfl | hr
       ·refine ⟨hB, ?_, ?_⟩
        ·rw [H.put_other _ _ (by omega)]
         cases hc : σ w.heap.size with
         | none => rfl
         | some o => have := hw.lt hc; omega
        ·show ((w.heap.push _).push _)[w.heap.size]? = _
         rw [Array.getElem?_push, if_neg (by simp)]
         simp
       ·obtain ⟨q1, q2, q3⟩ := h3 r hr
        have := hlt' r hr
        exact ⟨q1, by rw [H.put_other _ _ (by omega)]; exact q2, by rw [hget _ _ r this]; exact q3⟩
     | some l0 =>
      obtain ⟨r0, hr0⟩ := hro l0 rfl
      have e1 := Ext.alloc hw (.loop { state := .ready, pending := none, fn, tmps := a.tmps, params := ps, assign := asg, body, defers := r0.defers })
      refine ⟨w.heap.size, r0.defers, [], w.alloc (.loop { state := .ready, pending := none, fn, tmps := a.tmps, params := ps, assign := asg, body, defers := r0.defers }), ?_, e1.1, e1.2, ?_⟩
      ·simp [Instr.enterLoop, run_getLoop (hw _ _ hr0), World.alloc_eq]
      ·exact hd.ext e1.2
    obtain ⟨l, dblk, mark, w₁, hrun, hfresh, hext, hdef⟩ := enter
    let obj : LoopState -> Option Code -> Obj := fun s j => .loop { state := s, pending := j, fn, tmps := a.tmps, params := ps, assign := asg, body, defers := dblk }
    have hobj : LoopObj obj := ⟨{ state := .ready, pending := none, fn, tmps := a.tmps, params := ps, assign := asg, body, defers := dblk }, fun _ _ => rfl⟩
    refine ⟨l, mark, w₁, { target := .fn (.func g) ⟨cs⟩, args := ⟨as0⟩ ++ #[yv l] }, w₁, g, (as0 ++ [yv l] ++ cs).toArray, w₁, hrun, ?_, fun _ _ => trivial, ?_, (fun h => by cases h), ?_⟩
    ·have : a.eval f = .func (.func g) ⟨as0⟩ ⟨cs⟩ := fr.evO hf
     show (Deferred.ofValue (a.eval f) (#[Operand.const (yv l)].map a.eval)).run P w₁ = _
     rw [this]
     simp [Deferred.ofValue, Act.eval]
    ·show (callFunc g _).run P w₁ = _
     rw [callFunc_go hg]; simp
    ·have hY := h l obj hfresh hobj (by
      intro args K σ' hb wy hwy
      obtain ⟨hl, hD⟩ := hb
      unfold runO at hD
      split at hD
      case h_2 => exact hD.elim
      rename_i gD hgD
      have hlen : ps.toList.length = args.length := by rw [hsl]; exact prjC_len _ _ _ _ hgD
      rw [prjC_lamC _ _ _ _ hgD] at hD
      have fr' := puts_fr _ _ fr hlt hlen
      have hgl := run_getLoop (P := P) (hwy l _ hl)
      have hy : (callS (.func (.yield l) #[] #[]) args).run P wy = .ok (.round l fn ((ps.toList.zip args).foldl (fun tmps (x : Nat × Value) => tmps.setIfInBounds x.1 x.2) a.tmps) asg body) wy := by
       have hsz : ¬ (args.length ≠ ps.size) := by
        have : ps.toList.length = args.length := hlen
        simp at this; omega
       simp only [callS, Deferred.ofValue, Sem.run_bind, Sem.run_pure, Result.andThen_ok, invoke, Instr.yield, hgl]
       have hz : (ps.zip (#[] ++ (⟨args⟩ : Array Value))) = ⟨ps.toList.zip args⟩ := by apply Array.ext'; simp
       rw [hz]
       simp [hsz]
      rw [hy]
      show RoundIn Fence.wide 0 P l fn _ asg body wy _
      refine roundIn_of_wpIn trivial ?_
      refine wpIn_mono (iha aa (some l) hD 0 0 { tmps := _, defers := [] } wy ⟨fr'.size, fr'.get⟩ hwy (DefOk.nil _ _ _) (Nat.zero_le _)) fun ex a₁ w₂ hp => ?_
      cases ex with
      | normal =>
       obtain ⟨e1, σ1, fr1, he1, _, hl1, hD1⟩ := hp
       have hgl1 := run_getLoop (P := P) (he1.le l _ hl1)
       refine ⟨{ w₂ with heap := w₂.heap.setIfInBounds l (obj .busy none) }, ?_, ?_⟩
       ·simp only [Instr.beginRound, Sem.run_bind, hgl1, Result.andThen_ok]
        rw [run_setLoop (P := P) (he1.le l _ hl1)]
        rfl
       ·have e2 : Ext σ1 w₂ (σ1.put l (obj .busy none)) { w₂ with heap := w₂.heap.setIfInBounds l (obj .busy none) } := Ext.set he1.le hl1 rfl rfl rfl rfl
        refine wpIn_mono (ihb ab (some l) hD1 0 0 a₁ _ fr1 e2.le (by rename_i hdd; exact hdd.ext e2) (Nat.zero_le _)) fun ex a₃ w₃ hp => ?_
        have fin : ∀ (σ2 : H) (j : Option Code) (b : Bool) (s : LoopState), Ext (σ1.put l (obj .busy none)) { w₂ with heap := w₂.heap.setIfInBounds l (obj .busy none) } σ2 w₃ -> roundK l obj K j b s σ2 -> b = j.isNone -> s = (if j.isNone then .ready else .done) ->
         ∃ v w', (Instr.endRound l j).run P w₃ = .ok v w' /\ ∃ v', Ending.returned v = .returned v' /\ ∃ σ'', Ext σ' wy σ'' w' /\ K v' σ'' := by
         intro σ2 j b s he2 hrk hb hs
         obtain ⟨hl2, hk⟩ := hrk
         have hgl2 := run_getLoop (P := P) (he2.le l _ hl2)
         refine ⟨.bool b, { w₃ with heap := w₃.heap.setIfInBounds l (obj s j) }, ?_, .bool b, rfl, σ2.put l (obj s j), ?_, hk⟩
         ·simp only [Instr.endRound, Sem.run_bind, hgl2, Result.andThen_ok]
          rw [run_setLoop (P := P) (he2.le l _ hl2)]
          subst hb hs; rfl
         ·exact ((he1.trans e2).trans he2).trans (Ext.set he2.le hl2 rfl rfl rfl rfl)
        cases ex with
        | normal => obtain ⟨_, σ2, _, he2, _, hk⟩ := hp; exact fin σ2 none true .ready he2 hk rfl rfl
        | exit i => obtain ⟨_, σ2, _, he2, _, hk⟩ := hp; exact fin σ2 (some (.exit i)) false .done he2 hk rfl rfl
        | ret => obtain ⟨_, σ2, _, he2, _, hk⟩ := hp; exact fin σ2 (some .ret) false .done he2 hk rfl rfl
        | goto l => exact hp.elim
        | panic c => exact hp.elim
        | outgrown => exact hp.elim
      | exit i => obtain ⟨_, _, _, _, _, hk⟩ := hp; exact hk.elim
      | ret => obtain ⟨_, _, _, _, _, hk⟩ := hp; exact hk.elim
      | goto l => exact hp.elim
      | panic c => exact hp.elim
      | outgrown => exact hp.elim)
     refine (callsIn_any (ro := ro) (n := n - 1) (hY w₁ hext.le)).mono fun en w₃ hr => ?_
     obtain ⟨v, rfl, σ', he', s, j, hl', hns, hj⟩ := hr
     have hgl := run_getLoop (P := P) (he'.le l _ hl')
     have e4 : Ext σ' w₃ (σ'.put l (obj .exhausted j)) { w₃ with heap := w₃.heap.setIfInBounds l (obj .exhausted j) } := Ext.set he'.le hl' rfl rfl rfl rfl
     refine ⟨j, { w₃ with heap := w₃.heap.setIfInBounds l (obj .exhausted j) }, ?_, ?_⟩
     ·simp only [Instr.endLoop, Sem.run_bind, hgl, Result.andThen_ok]
      have : (s == LoopState.busy) = false := by simpa using hns
      simp only [this, Bool.false_eq_true, if_false, Sem.run_bind]
      rw [run_setLoop (P := P) (he'.le l _ hl')]
      rfl
     ·have hde := (hdef.ext he').ext e4
      have het := (hext.trans he').trans e4
      split at hj
      ·exact ⟨e, _, ⟨fr.size, fr.get⟩, het, hde, hj⟩
      ·exact wpIn_exit ⟨e, _, ⟨fr.size, fr.get⟩, het, hde, hj⟩
      ·exact wpIn_ret ⟨e, _, ⟨fr.size, fr.get⟩, het, hde, hj⟩
      ·exact hj.elim
   ·exact h.elim
  ·exact h.elim
end
end Go.HL

