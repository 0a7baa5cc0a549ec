/- A part of a proof. -/
import Derived.Test.YtpfkfphjigcdeaaGreatDoorVaj
namespace Go.HL
open Go
section
variable {P : Program} {τ : TypeId -> TK} {N : Nat}

def resOne (tmps : Array Value) : ResultVar -> Sem Value
 | .tmp t => pure (tmps.getD t undef)
 | .cell a t => do loadVar t (<- asAddr (tmps.getD a undef))

theorem resG_sound {e : Env} {a : Act} (fr : FR N e a) {w : World} : ∀ (rs : List ResultVar) {k : List Value -> H -> Prop} {σ : H}, σ.le w -> resG P τ e rs k σ ->
 ∃ vs, (rs.mapM (resOne a.tmps)).run P w = .ok vs w /\ k vs σ := by
 intro rs
 induction rs with
 | nil => intro k σ _ h; exact ⟨[], by simp, h⟩
 | cons r rs ih =>
  intro k σ hw h
  cases r with
  | tmp t =>
   simp only [resG] at h
   split at h
   ·rename_i v hv
    obtain ⟨vs, h1, h2⟩ := ih hw h
    refine ⟨v :: vs, ?_, h2⟩
    have : a.tmps.getD t undef = v := by simp [fr.get t v hv]
    simp [List.mapM_cons, resOne, this, h1]
   ·exact h.elim
  | cell c t =>
   simp only [resG] at h
   split at h
   ·rename_i p hp ha
    obtain ⟨b, o, rfl, v, hr, h⟩ := ptrW_get h
    obtain ⟨vs, h1, h2⟩ := ih hw (app_lam h)
    refine ⟨v :: vs, ?_, h2⟩
    have hc : a.tmps.getD c undef = .pointer (some ⟨b, o, none⟩) := by simp [fr.get c _ hp]
    have hl := rdC_sound ha hr hw
    simp only [Instr.loadAt, Sem.run_bind, run_sureAddr, Result.andThen_ok] at hl
    simp [List.mapM_cons, resOne, hc, asAddr, hl, h1]
   ·rename_i p n hp ha hn
    obtain ⟨b, o, rfl, v, hr, h⟩ := ptrW_get h
    obtain ⟨vs, h1, h2⟩ := ih hw (app_lam h)
    refine ⟨v :: vs, ?_, h2⟩
    have hc : a.tmps.getD c undef = .pointer (some ⟨b, o, none⟩) := by simp [fr.get c _ hp]
    have hl := rdA_sound ha hn hr hw
    simp only [Instr.loadAt, Sem.run_bind, run_sureAddr, Result.andThen_ok] at hl
    simp [List.mapM_cons, resOne, hc, asAddr, hl, h1]
   ·exact h.elim
theorem resF_sound {fn : Func} {e : Env} {a : Act} (fr : FR N e a) {w : World} {K : KH} {σ : H} (hw : σ.le w) (h : resF P τ fn.results.toList K e σ) :
 ∃ v, (results fn a.tmps).run P w = .ok v w /\ K v σ := by
 obtain ⟨vs, h1, h2⟩ := resG_sound fr _ hw h
 refine ⟨tupL vs, ?_, h2⟩
 simp only [results, Sem.run_bind]
 have h3 : (fn.results.mapM (resOne a.tmps)).run P w = .ok vs.toArray w := by
  rw [Array.mapM_eq_mapM_toList]
  simp [h1]
 show ((fn.results.mapM (resOne a.tmps)).run P w).andThen _ = _
 rw [h3]
 simp only [Result.andThen_ok, Sem.run_pure]
 congr 1
 cases vs with
 | nil => rfl
 | cons v vs => cases vs with
  | nil => rfl
  | cons u us => simp [tupL]

theorem argE_get : ∀ (vs : List Value) (i j : Nat) (v : Value), (argE i vs).get? j = some v -> i <= j /\ vs[j - i]? = some v := by
 intro vs
 induction vs with
 | nil => intro i j v h; simp [argE, Env.get?] at h
 | cons u vs ih =>
  intro i j v h
  simp only [argE, Env.get?] at h
  split at h
  ·rename_i hb
   have := Nat.eq_of_beq_eq_true hb
   subst this; cases h; simp
  ·obtain ⟨h1, h2⟩ := ih (i + 1) j v h
   refine ⟨by omega, ?_⟩
   rw [show j - i = (j - (i + 1)) + 1 by omega]
   simpa using h2

theorem leaves_marks {fn : Func} {tmps : Array Value} {R : Ending -> World -> Prop} {n B : Nat} {σ : H} : ∀ (ms : List Nat) (w : World), ms.Nodup -> (∀ r ∈ ms, B <= r /\ σ r = none /\ w.heap[r]? = some (.deferred (some []))) -> σ.le w ->
 (∀ w', σ.le w' -> w'.heap.size = w.heap.size -> (∀ b, b < B -> w'.heap[b]? = w.heap[b]?) -> w'.os = w.os -> w'.tape = w.tape -> w'.output = w.output -> ∃ v, (results fn tmps).run P w' = .ok v w' /\ R (.returned v) w') ->
 LeavesInM Fence.wide n P fn tmps R (ms.map markOf) .returning w := by
 intro ms
 induction ms with
 | nil =>
  intro w _ _ hw h
  exact h w hw rfl (fun _ _ => rfl) rfl rfl rfl
 | cons r ms ih =>
  intro w hnd hms hw h
  obtain ⟨hrm, hnd⟩ := List.nodup_cons.1 hnd
  obtain ⟨hB, hn, hr⟩ := hms r (List.mem_cons_self ..)
  have hle : σ.le { w with heap := w.heap.setIfInBounds r (.deferred none) } := by
   intro b o hb
   have hne : r ≠ b := by intro e; subst e; rw [hn] at hb; cases hb
   show (w.heap.setIfInBounds r (.deferred none))[b]? = _
   rw [Array.getElem?_setIfInBounds, if_neg hne]; exact hw b o hb
  refine ⟨by simp, .inl ⟨r, { w with heap := w.heap.setIfInBounds r (.deferred none) }, rfl, ?_, ?_⟩⟩
  ·have hg : (getObj r).run P w = .ok (.deferred (some [])) w := by simp [getObj, Sem.run, hr]
   have hs : (setObj r (.deferred none)).run P w = .ok () { w with heap := w.heap.setIfInBounds r (.deferred none) } := by simp [setObj, Sem.run, hr]
   simp [Instr.takeDeferred, hg, hs]
  ·refine ih _ hnd (fun r' hr' => ?_) hle fun w' h1 h2 h3 h4 h5 h6 => ?_
   ·obtain ⟨q1, q2, q3⟩ := hms r' (List.mem_cons_of_mem _ hr')
    refine ⟨q1, q2, ?_⟩
    have hne : r ≠ r' := by intro e; subst e; exact hrm hr'
    show (w.heap.setIfInBounds r (.deferred none))[r']? = _
    rw [Array.getElem?_setIfInBounds, if_neg hne]; exact q3
   ·refine h w' h1 (by simpa using h2) (fun b hb => ?_) h4 h5 h6
    rw [h3 b hb]
    show (w.heap.setIfInBounds r (.deferred none))[b]? = _
    rw [Array.getElem?_setIfInBounds, if_neg (by omega)]

theorem call_of_body (hm : P.follows .mixedOrders = true) {f : FuncId} {fn : Func} (hf : P.funcs[f]? = some fn) {an : Ann} {args : List Value} {K : KH} {σ : H} (h : bodyF P τ fn an args K σ) : callW P f args K σ := by
 unfold bodyF at h
 split at h
 ·rename_i c hc
  split at h
  ·rename_i hle
   have hle := Nat.le_of_ble_eq_true hle
   intro w hw
   refine callsIn_of_wp_marks hf hc trivial ?_
   have fr : FR fn.ntmps (argE 0 args) { tmps := args.toArray ++ Array.replicate (fn.ntmps - args.toArray.size) undef, defers := [] } := by
    refine ⟨by simp; omega, fun i v hi => ?_⟩
    obtain ⟨_, h2⟩ := argE_get args 0 i v hi
    simp only [Nat.sub_zero] at h2
    have hlt : i < args.length := by
     rcases Nat.lt_or_ge i args.length with h | h
     ·exact h
     ·rw [List.getElem?_eq_none h] at h2; cases h2
    rw [Array.getElem?_append, if_pos (by simpa using hlt)]
    simpa using h2
   refine wpIn_mono (D_sound hm c an none h 0 w.heap.size _ w fr hw (DefOk.nil _ _ _) (Nat.le_refl _)) fun ex a w' hp => ?_
   have fin : ∀ e σ', FR fn.ntmps e a -> Ext σ w σ' w' -> DefOk w.heap.size σ' w' a.defers -> resF P τ fn.results.toList K e σ' ->
    LeavesInM Fence.wide 0 P fn a.tmps (fun e w' => ∃ v, e = .returned v /\ ∃ σ', Ext σ w σ' w' /\ K v σ') a.defers .returning w' := by
    intro e σ' fr' he hd hres
    obtain ⟨ms, h1, h2, h3⟩ := hd
    rw [h2]
    refine leaves_marks ms w' h1 h3 he.le fun w'' q1 q2 q3 q4 q5 q6 => ?_
    obtain ⟨v, hv, hk⟩ := resF_sound fr' q1 hres
    refine ⟨v, hv, v, rfl, σ', ⟨q1, by rw [q2]; exact he.size, fun b hb hn => by rw [q3 b hb]; exact he.keep b hb hn, he.own, q4.trans he.os, q5.trans he.tape, q6.trans he.output⟩, hk⟩
   cases ex with
   | normal => obtain ⟨e, σ', fr', he, hd, hres⟩ := hp; exact fin e σ' fr' he hd hres
   | ret => obtain ⟨e, σ', fr', he, hd, hres⟩ := hp; exact fin e σ' fr' he hd hres
   | exit i => obtain ⟨_, _, _, _, _, hres⟩ := hp; exact hres.elim
   | goto l => exact hp.elim
   | panic c => exact hp.elim
   | outgrown => exact hp.elim
  ·exact h.elim
 ·exact h.elim
end
end Go.HL

