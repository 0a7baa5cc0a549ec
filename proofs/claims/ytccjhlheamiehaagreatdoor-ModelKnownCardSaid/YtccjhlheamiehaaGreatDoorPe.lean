/- A PART OF WHAT FOLLOWS: ModelKnown, called in any world that the card allows, answers true, and what its variables hold stays. -/
import Derived.Test.YtccjhlheamiehaaGreatDoorPd
import Derived.Laws.Externs
import Derived.Lib.Bytealg
import Derived.Lib.Index
import Derived.Shelf.SlMaps.Clone
namespace Go.Ev
open Go Go.HL
theorem Kn.put {gN : Cx} {ρ : Rm} {e : Env} {a : Act} (N : Kn gN ρ e a) {d : Option Nat} (hd : dstOk gN.N d = true) {x : SV} {v : Value} (hv : val ρ x = some v) : Kn gN ρ (putE d e x) (a.put d v) := by
  refine ⟨N.fr.put N.N N.M hd hv, ?_, N.M, N.G⟩
  have : (a.put d v).tmps.size = a.tmps.size := by cases d <;> simp [Act.put]
  rw [this]; exact N.N
theorem Kn.le {gN : Cx} {ρ ρ' : Rm} {e : Env} {a : Act} (N : Kn gN ρ e a) (h : ρ.le ρ') : Kn gN ρ' e a := ⟨N.fr.le h, N.N, N.M, fun g n hg => (h g n g (N.G g n hg)).1⟩
/-- regions that draw their order are fit for it -/
def rgOk (P : Program) (ord : Nat → Option (List Nat × List (List Nat))) : Code → Bool
  | .region id ops dr => match dr with
    | false => true
    | true => match ord id with
      | some (π, AL) => match litP π with
        | some (na, nb, r) => litB P ops AL na nb r
        | none => drawOkY ops (clY P ops.toList AL π) AL π && pendOk P ops AL π [] π
      | none => drawOkY ops (clY P ops.toList [] (List.range ops.size)) [] (List.range ops.size) && pendOk P ops [] (List.range ops.size) [] (List.range ops.size)
  | .seq x y => rgOk P ord x && rgOk P ord y
  | .cond _ x y => rgOk P ord x && rgOk P ord y
  | .block _ x => rgOk P ord x
  | .loop x => rgOk P ord x
  | .scope x => rgOk P ord x
  | .rangeFunc _ _ x y => rgOk P ord x && rgOk P ord y
  | _ => true
/-- how a loop over a function is laid -/
def LO (P : Program) (gl : Nat → Nat) (mt : String → Nat → Nat) (hk : Nat → Option (Nat × Nat)) (fx : Nat → Option Obj) : LoT :=
  ⟨fun gN ps asg params assign body => gN.g = gl ∧ ps = params.toList.map (fun t => dstOf (some t)) ∧ allLt gN.N params.toList = true ∧ noRf assign = true ∧ noRf body = true ∧ ∃ ord, rgOk P ord assign = true ∧ rgOk P ord body = true ∧
    asg = layC P gN mt hk ord assign (.yb (layC P gN mt hk ord body (.ye 0) (fun i => .ye (i + 2)) (.ye 1))) (fun _ => .no) .no, fx⟩
/-- what is known of globals -/
def GOk (gl : Nat → Nat) (ρ : Rm) : Prop := ∀ g n, gl g = n + 1 → ρ.B g n = some g
section
variable (P : Program) (T : Nat → PC) (F : Go) (gN : Cx)
/-- the run goes on with this code, no longer than n -/
def Run (n : Nat) (ρ0 : Rm) (k : PC) (S : Stk) (a : Act) (σ : H) : Prop := ∃ (m : Nat) (ρ : Rm) (e : Env) (h : Hp), m ≤ n ∧ ρ0.le ρ ∧ Kn gN ρ e a ∧ Rel ρ h σ ∧ go T F m k e S h = true
/-- the run goes on with a panic -/
def Pan (n : Nat) (ρ0 : Rm) (S : Stk) (a : Act) (v : Value) (σ : H) : Prop := ∃ (m : Nat) (ρ : Rm) (e : Env) (h : Hp) (x : SV), m ≤ n ∧ ρ0.le ρ ∧ Kn gN ρ e a ∧ Rel ρ h σ ∧ val ρ x = some v ∧ go T F m (.uw x) e S h = true
/-- what stands behind a call -/
def RetK (n : Nat) (ρ0 : Rm) (d : Dst) (k : PC) (e : Env) (S : Stk) (V : Value) (σ : H) : Prop := ∃ (m : Nat) (ρ : Rm) (h : Hp) (x : SV), m ≤ n ∧ ρ0.le ρ ∧ Rel ρ h σ ∧ val ρ x = some V ∧ put d e x (fun e => go T F m k e S h) = true
def PanK (n : Nat) (ρ0 : Rm) (dr : Bool) (e : Env) (S : Stk) (V : Value) (σ : H) : Prop := dr = false ∧ ∃ (m : Nat) (ρ : Rm) (h : Hp) (x : SV), m ≤ n ∧ ρ0.le ρ ∧ Rel ρ h σ ∧ val ρ x = some V ∧ go T F m (.uw x) e S h = true
/-- calls, in runs of a length -/
structure CallsOk (gl : Nat → Nat) (mt : String → Nat → Nat) (hk : Nat → Option (Nat × Nat)) (fx : Nat → Option Obj) (n : Nat) : Prop where
  cv : ∀ {fv : SV} {vs : List SV} {d : Dst} {dr : Bool} {k : PC} {e : Env} {S : Stk} {h : Hp} {ρ : Rm} {σ : H} {V : Value} {us : List Value}, callV T (go T F n) fv vs d dr k e S h = true → Rel ρ h σ → GOk gl ρ → ρ.lo = LO P gl mt hk fx → val ρ fv = some V → vals ρ vs = some us →
    invWX P (callS V us) (RetK T F n ρ d k e S) (PanK T F n ρ dr e S) σ
  iv : ∀ {t : Nat} {v : SV} {vs : List SV} {d : Dst} {dr : Bool} {k : PC} {e : Env} {S : Stk} {h : Hp} {ρ : Rm} {σ : H} {V : Value} {us : List Value} {nm : String}, enter T (go T F n) (mt nm t) (v :: vs) (.fr d dr k e :: S) h = true → Rel ρ h σ → GOk gl ρ → ρ.lo = LO P gl mt hk fx → val ρ v = some V → vals ρ vs = some us →
    invWX P (callMethod (.iface t V) nm ⟨us⟩) (RetK T F n ρ d k e S) (PanK T F n ρ dr e S) σ
/-- functions of the library, at once -/
structure HkOk (hk : Nat → Option (Nat × Nat)) (fx : Nat → Option Obj) : Prop where
  hx : ∀ g c t, hk g = some (c, t) → ∀ {vs : List SV} {us : List Value} {h : Hp} {K : Kv} {ρ : Rm} {σ : H}, Ev.hx c t vs h K = true → Rel ρ h σ → ρ.lo.fx = fx → vals ρ vs = some us → invW P (callS (.func (.func g) #[] #[]) us) (Pst ρ K) σ
  so : ∀ g t, hk g = some (8, t) → ∀ {g' : Nat} {as1 cs : List SV} {h : Hp} {K : Kv} {ρ : Rm} {σ : H} {V : Value}, Nat.beq (Nat.land (Nat.shiftRight (Nat.div t 65536) g') 1) 1 = true → x_so (Nat.mod t 65536) [.f g' as1 cs] h K = true → Rel ρ h σ → ρ.lo.fx = fx → val ρ (.f g' as1 cs) = some V → invW P (callS (.func (.func g) #[] #[]) [V]) (Pst ρ K) σ
end
section
variable {P : Program} {T : Nat → PC} {F : Go} {gN : Cx} {mt : String → Nat → Nat} {hk : Nat → Option (Nat × Nat)} {fx : Nat → Option Obj}
theorem Run.mono {n n' : Nat} {ρ0 : Rm} {k : PC} {S : Stk} {a : Act} {σ : H} (h : Run T F gN n ρ0 k S a σ) (hn : n ≤ n') : Run T F gN n' ρ0 k S a σ := by
  obtain ⟨m, ρ, e, h', q1, q2⟩ := h; exact ⟨m, ρ, e, h', Nat.le_trans q1 hn, q2⟩
theorem Run.pre {n : Nat} {ρ0 ρ1 : Rm} {k : PC} {S : Stk} {a : Act} {σ : H} (h : Run T F gN n ρ1 k S a σ) (hl : ρ0.le ρ1) : Run T F gN n ρ0 k S a σ := by
  obtain ⟨m, ρ, e, h', q1, q2, q3⟩ := h; exact ⟨m, ρ, e, h', q1, hl.trans q2, q3⟩
theorem Pan.mono {n n' : Nat} {ρ0 : Rm} {S : Stk} {a : Act} {v : Value} {σ : H} (h : Pan T F gN n ρ0 S a v σ) (hn : n ≤ n') : Pan T F gN n' ρ0 S a v σ := by
  obtain ⟨m, ρ, e, h', x, q1, q2⟩ := h; exact ⟨m, ρ, e, h', x, Nat.le_trans q1 hn, q2⟩
theorem Pan.pre {n : Nat} {ρ0 ρ1 : Rm} {S : Stk} {a : Act} {v : Value} {σ : H} (h : Pan T F gN n ρ1 S a v σ) (hl : ρ0.le ρ1) : Pan T F gN n ρ0 S a v σ := by
  obtain ⟨m, ρ, e, h', x, q1, q2, q3⟩ := h; exact ⟨m, ρ, e, h', x, q1, hl.trans q2, q3⟩
theorem run_put {n m : Nat} {ρ0 ρ : Rm} {e : Env} {a : Act} {d : Option Nat} {k : PC} {S : Stk} {h : Hp} {σ : H} {x : SV} {V : Value} (N : Kn gN ρ e a) (hd : dstOk gN.N d = true) (hm : m ≤ n) (hl : ρ0.le ρ) (R : Rel ρ h σ) (hx : val ρ x = some V) (hk : put (dstOf d) e x (fun e => go T F m k e S h) = true) : Run T F gN n ρ0 k S (a.put d V) σ := by
  rw [put_eq] at hk
  exact ⟨m, ρ, _, h, hm, hl, N.put hd hx, R, hk⟩
theorem invWX_of {s : Sem Next} {K X : Value → H → Prop} {σ : H} (h : invW P s K σ) : invWX P s K X σ := fun w hw => reachX.of (h w hw)
/-- one operation that runs -/
def StepOk (P : Program) (T : Nat → PC) (F : Go) (gN : Cx) (n : Nat) (ρ : Rm) (dr : Bool) (k : PC) (S : Stk) (a : Act) (o : Oper) (σ : H) : Prop := match clsOf P o.op with
  | 0 => ∃ V, Sil P (execOp a.eval o) V ∧ Run T F gN n ρ k S (a.put o.dst V) σ
  | 1 => ∃ V, RdS P (execOp a.eval o) σ V ∧ Run T F gN n ρ k S (a.put o.dst V) σ
  | 2 => ∃ mk obj, IsAl P (execOp a.eval o) mk obj ∧ ∀ b, σ b = none → Run T F gN n ρ k S (a.put o.dst (mk b)) (σ.put b obj)
  | _ => invWX P (execOp a.eval o) (fun V σ' => Run T F gN n ρ k S (a.put o.dst V) σ') (fun V σ' => dr = false ∧ Pan T F gN n ρ S a V σ') σ
theorem op_step {n : Nat} {ρ : Rm} {e : Env} {a : Act} {h : Hp} {σ : H} {o : Oper} {p : PO} {dr : Bool} {k : PC} {S : Stk} (N : Kn gN ρ e a) (R : Rel ρ h σ) (hd : dstOk gN.N o.dst = true) (hp : opOf P gN o.op = some p) (hg : go T F (n + 1) (.op p (dstOf o.dst) k) e S h = true) : StepOk P T F gN n ρ dr k S a o σ := by
  have hk : Ev.hop p e h (fun v h => put (dstOf o.dst) e v fun e => go T F n k e S h) = true := hg
  have := op_ok N R hp hk
  unfold OpOk at this
  unfold StepOk
  split at this
  · rename_i hc
    rw [hc]
    obtain ⟨V, x, h1, h2, h3⟩ := this
    exact ⟨V, h1, run_put N hd (Nat.le_refl _) (Rm.le.refl _) R h2 h3⟩
  · rename_i hc
    rw [hc]
    obtain ⟨r, V, x, h0, h1, h2, h3⟩ := this
    exact ⟨V, h0 _ _ h1, run_put N hd (Nat.le_refl _) (Rm.le.refl _) R h2 h3⟩
  · rename_i hc
    rw [hc]
    obtain ⟨obj, mk, h0, h1⟩ := this
    refine ⟨mk, obj, h0, fun b hb => ?_⟩
    obtain ⟨ρ', h', x, q1, q2, q3, q4⟩ := h1 b hb
    exact run_put (N.le q1) hd (Nat.le_refl _) q1 q2 q3 q4
  · rename_i c hc0 hc1 hc2
    have hm : ∀ (a0 a1 a2 a3 : Prop), a3 → (match clsOf P o.op with | 0 => a0 | 1 => a1 | 2 => a2 | _ => a3) := by
      intro a0 a1 a2 a3 h3
      split
      · exact absurd ‹_› hc0
      · exact absurd ‹_› hc1
      · exact absurd ‹_› hc2
      · exact h3
    refine hm _ _ _ _ (invWX_of (invW.mono this fun V σ' ⟨ρ', h', x, q1, q2, q3, q4⟩ => ?_))
    exact run_put (N.le q1) hd (Nat.le_refl _) q1 q2 q3 q4
theorem retK_run {n : Nat} {ρ : Rm} {e : Env} {a : Act} {d : Option Nat} {k : PC} {S : Stk} {σ' : H} {V : Value} (N : Kn gN ρ e a) (hd : dstOk gN.N d = true) (h : RetK T F n ρ (dstOf d) k e S V σ') : Run T F gN n ρ k S (a.put d V) σ' := by
  obtain ⟨m, ρ', h', x, q1, q2, q3, q4, q5⟩ := h
  exact run_put (N.le q2) hd q1 q2 q3 q4 q5
theorem panK_run {n : Nat} {ρ : Rm} {e : Env} {a : Act} {dr : Bool} {S : Stk} {σ' : H} {V : Value} (N : Kn gN ρ e a) (h : PanK T F n ρ dr e S V σ') : dr = false ∧ Pan T F gN n ρ S a V σ' := by
  obtain ⟨q0, m, ρ', h', x, q1, q2, q3, q4, q5⟩ := h
  exact ⟨q0, m, ρ', e, h', x, q1, q2, N.le q2, q3, q4, q5⟩
/-- no run is true when its fuel is spent -/
def FNo (F : Go) : Prop := ∀ p e S h, F p e S h = false
theorem layO_step {n : Nat} {ρ : Rm} {e : Env} {a : Act} {h : Hp} {σ : H} {o : Oper} {dr : Bool} {k : PC} {S : Stk} (hF : FNo F) (hH : HkOk P hk fx) (hC : ∀ m, m ≤ n → CallsOk P T F gN.g mt hk fx m) (N : Kn gN ρ e a) (R : Rel ρ h σ) (hL : ρ.lo = LO P gN.g mt hk fx) (hd : dstOk gN.N o.dst = true) (hg : go T F (n + 1) (layO P gN mt hk dr o k) e S h = true) : StepOk P T F gN n ρ dr k S a o σ := by
  have c3 : ∀ (hc : clsOf P o.op = 3), invWX P (execOp a.eval o) (fun V σ' => Run T F gN n ρ k S (a.put o.dst V) σ') (fun V σ' => dr = false ∧ Pan T F gN n ρ S a V σ') σ → StepOk P T F gN n ρ dr k S a o σ := by
    intro hc h; unfold StepOk; rw [hc]; exact h
  unfold layO at hg
  split at hg
  · rename_i f xs ats hop
    have hc : clsOf P o.op = 3 := by rw [hop]; rfl
    split at hg
    · rename_i s l hs hl
      have hex : ∀ fv vs, HL.evO (fullE a gN.N) f = some fv → HL.evL (fullE a gN.N) xs = some vs → execOp a.eval o = callS fv vs := by
        intro fv vs h1 h2
        obtain ⟨dst, op, type, pos, after, guard⟩ := o
        simp only at hop; subst hop
        simp only [execOp, resolve, callS, map_mk, (fullE_fr N.N).evO h1, (fullE_fr N.N).evL h2]
      have call : ∀ m, m ≤ n → go T F (m + 1) (.cl s l (dstOf o.dst) dr k) e S h = true → StepOk P T F gN n ρ dr k S a o σ := by
        intro m hm hg
        have hg1 : (src s e fun fv => srcs l e fun vs => callV T (go T F m) fv vs (dstOf o.dst) dr k e S h) = true := hg
        obtain ⟨fv, e1, e2, hg2⟩ := src_true N hs hg1
        obtain ⟨vs, e3, e4, hg3⟩ := srcL_true N hl hg2
        refine c3 hc ?_
        rw [hex _ _ e2 e4]
        have := (hC m hm).cv hg3 R N.G hL e1 e3
        exact fun w hw => (this w hw).mono (fun V w' ⟨σ', hx, hr⟩ => ⟨σ', hx, (retK_run N hd hr).mono hm⟩) (fun V w' ⟨σ', hx, hr⟩ => ⟨σ', hx, (panK_run N hr).1, (panK_run N hr).2.mono hm⟩)
      split at hg
      · rename_i g
        split at hg
        · rename_i c t hhk
          split at hg
          · rename_i h8
            have h8 := Nat.eq_of_beq_eq_true h8
            subst h8
            split at hg
            · rename_i x
              have hg1 : (src x e fun v => SV.rec (motive_1 := fun _ => Bool) (motive_2 := fun _ => Bool) (fun _ => false) (fun _ => false) (fun _ _ => false) (fun _ => false) (fun _ _ => false) false (fun _ _ _ => false) false (fun _ _ _ _ _ => false) (fun _ _ _ _ _ _ => false) false (fun _ => false) false (fun g as1 cs _ _ => iff' (Nat.beq (Nat.land (Nat.shiftRight (Nat.div t 65536) g) 1) 1) (x_so (Nat.mod t 65536) [v] h fun v h => put (dstOf o.dst) e v fun e => go T F n k e S h) (go T F n (.cl s [x] (dstOf o.dst) dr k) e S h)) (fun _ => false) false (fun _ _ _ => false) (fun _ _ => false) (fun _ _ => false) false (fun _ _ _ _ => false) v) = true := hg
              have hx1 : ∃ y, xs = [y] ∧ srcOf gN y = some x := by
                cases xs with
                | nil => simp [srcL] at hl
                | cons y r =>
                  simp only [srcL] at hl
                  split at hl
                  · rename_i s' l' h1 h2
                    cases hl
                    cases r with
                    | nil => exact ⟨y, rfl, h1⟩
                    | cons z r =>
                      simp only [srcL] at h2
                      split at h2
                      · cases h2
                      · cases h2
                  · cases hl
              obtain ⟨y, rfl, hy⟩ := hx1
              obtain ⟨v, e3, e4, hg2⟩ := src_true N hy hg1
              cases v with
              | f g' as1 cs =>
                rcases iff_true hg2 with ⟨hb, hg3⟩ | ⟨_, hg3⟩
                · refine c3 hc ?_
                  rw [hex _ [a.eval y] rfl (by simp [HL.evL, e4])]
                  have := hH.so g t hhk hb hg3 R (by rw [hL]; rfl) e3
                  refine invWX_of (invW.mono this fun V σ' ⟨ρ', h', x, q1, q2, q3, q4⟩ => ?_)
                  exact run_put (N.le q1) hd (Nat.le_refl _) q1 q2 q3 q4
                · obtain ⟨m, rfl⟩ : ∃ m, n = m + 1 := by
                    cases n with
                    | zero => exact absurd hg3 (by rw [show go T F 0 (.cl s [x] (dstOf o.dst) dr k) e S h = F (.cl s [x] (dstOf o.dst) dr k) e S h from rfl, hF]; simp)
                    | succ m => exact ⟨m, rfl⟩
                  exact call m (Nat.le_succ m) hg3
              | _ => cases hg2
            · cases n <;> cases hg
          · have hg1 : (srcs l e fun vs => Ev.hx c t vs h (fun v h => put (dstOf o.dst) e v fun e => go T F n k e S h)) = true := hg
            obtain ⟨vs, e3, e4, hg2⟩ := srcL_true N hl hg1
            refine c3 hc ?_
            rw [hex _ _ rfl e4]
            have := hH.hx g c t hhk hg2 R (by rw [hL]; rfl) e3
            refine invWX_of (invW.mono this fun V σ' ⟨ρ', h', x, q1, q2, q3, q4⟩ => ?_)
            exact run_put (N.le q1) hd (Nat.le_refl _) q1 q2 q3 q4
        · exact call n (Nat.le_refl n) hg
      · exact call n (Nat.le_refl n) hg
    · cases n <;> cases hg
  · rename_i r m xs ats hop
    have hc : clsOf P o.op = 3 := by rw [hop]; rfl
    split at hg
    · rename_i s l hs hl
      have hg1 : (src s e fun v => srcs l e fun vs => SV.rec (motive_1 := fun _ => List SV → Dst → Bool → PC → Env → Stk → Hp → Bool) (motive_2 := fun _ => Bool) (fun _ _ _ _ _ _ _ _ => false) (fun _ _ _ _ _ _ _ _ => false) (fun _ _ _ _ _ _ _ _ _ => false) (fun _ _ _ _ _ _ _ _ => false) (fun _ _ _ _ _ _ _ _ _ => false) (fun _ _ _ _ _ _ _ => false) (fun _ _ _ _ _ _ _ _ _ _ => false) (fun _ _ _ _ _ _ _ => false) (fun _ _ _ _ _ _ _ _ _ _ _ _ => false) (fun _ _ _ _ _ _ _ _ _ _ _ _ _ => false) (fun _ _ _ _ _ _ _ => false) (fun _ _ _ _ _ _ _ _ => false) (fun _ _ _ _ _ _ _ => false) (fun _ _ _ _ _ _ _ _ _ _ _ _ => false) (fun _ _ _ _ _ _ _ _ => false) (fun _ _ _ _ _ _ _ => false) (fun t v _ vs d dr k e S h => enter T (go T F n) (mt m t) (v :: vs) (.fr d dr k e :: S) h) (fun _ _ _ _ _ _ _ _ _ => false) (fun _ _ _ _ _ _ _ _ _ => false) false (fun _ _ _ _ => false) v vs (dstOf o.dst) dr k e S h) = true := hg
      obtain ⟨fv, e1, e2, hg2⟩ := src_true N hs hg1
      obtain ⟨vs, e3, e4, hg3⟩ := srcL_true N hl hg2
      refine c3 hc ?_
      cases fv with
      | e t v =>
        obtain ⟨X, x1, x2⟩ := e_some e1
        have hex : execOp a.eval o = callMethod (a.eval r) m ⟨xs.map a.eval⟩ := by
          obtain ⟨dst, op, type, pos, after, guard⟩ := o
          simp only at hop; subst hop
          simp only [execOp, resolve, map_mk, pure_bind, invoke]
          generalize a.eval r = v0
          generalize xs.map a.eval = us0
          simp
        rw [hex, x2]
        have := (hC n (Nat.le_refl n)).iv hg3 R N.G hL x1 e3
        exact fun w hw => (this w hw).mono (fun V w' ⟨σ', hx, hr⟩ => ⟨σ', hx, retK_run N hd hr⟩) (fun V w' ⟨σ', hx, hr⟩ => ⟨σ', hx, panK_run N hr⟩)
      | _ => cases hg3
    · cases n <;> cases hg
  · rename_i x hop
    have hc : clsOf P o.op = 3 := by rw [hop]; rfl
    split at hg
    · rename_i s hs
      have hg1 : (src s e fun v => SV.rec (motive_1 := fun _ => Bool → Bool) (motive_2 := fun _ => Bool) (fun _ _ => false) (fun _ _ => false) (fun _ _ _ => false) (fun _ _ => false) (fun _ _ _ => false) (fun _ => false) (fun _ _ _ _ => false) (fun _ => false) (fun _ _ _ _ _ _ => false) (fun _ _ _ _ _ _ _ => false) (fun _ => false) (fun _ _ => false) (fun _ => false) (fun _ _ _ _ _ _ => false) (fun _ _ => false) (fun _ => false) (fun _ _ _ k => k) (fun _ _ _ => false) (fun _ _ _ => false) false (fun _ _ _ _ => false) v (go T F n (.uw v) e S h)) = true := hg
      obtain ⟨y, e1, e2, hg2⟩ := src_true N hs hg1
      refine c3 hc ?_
      cases y with
      | e t v =>
        obtain ⟨X, x1, x2⟩ := e_some e1
        intro w hw
        have hex : (execOp a.eval o).run P w = .halt (.panic (.iface t X)) w := by
          obtain ⟨dst, op, type, pos, after, guard⟩ := o
          simp only at hop; subst hop
          simp [execOp, x2, Instr.panic, goPanic]
          try rfl
        rw [hex]
        refine ⟨σ, HL.Ext.refl hw, rfl, n, ρ, e, h, .e t v, Nat.le_refl _, Rm.le.refl _, N, R, ?_, hg2⟩
        rw [e1, x2]
      | _ => cases hg2
    · cases n <;> cases hg
  · split at hg
    · rename_i p hp; exact op_step N R hd hp hg
    · cases n <;> cases hg
theorem no_false (hF : FNo F) {n : Nat} {e : Env} {S : Stk} {h : Hp} (hg : go T F n .no e S h = true) : False := by
  cases n with
  | zero =>
    have : F .no e S h = true := hg
    rw [hF] at this; cases this
  | succ n => cases hg
theorem fuel_pos (hF : FNo F) {n : Nat} {p : PC} {e : Env} {S : Stk} {h : Hp} (hg : go T F n p e S h = true) : ∃ m, n = m + 1 := by
  cases n with
  | zero =>
    have : F p e S h = true := hg
    rw [hF] at this; cases this
  | succ n => exact ⟨n, rfl⟩
theorem StepOk.mono {n n' : Nat} {ρ0 ρ : Rm} {dr : Bool} {k : PC} {S : Stk} {a : Act} {o : Oper} {σ : H} (h : StepOk P T F gN n ρ dr k S a o σ) (hn : n ≤ n') (hl : ρ0.le ρ) : StepOk P T F gN n' ρ0 dr k S a o σ := by
  unfold StepOk at h ⊢
  split at h
  · obtain ⟨V, h1, h2⟩ := h; exact ⟨V, h1, (h2.mono hn).pre hl⟩
  · obtain ⟨V, h1, h2⟩ := h; exact ⟨V, h1, (h2.mono hn).pre hl⟩
  · obtain ⟨mk, obj, h1, h2⟩ := h; exact ⟨mk, obj, h1, fun b hb => ((h2 b hb).mono hn).pre hl⟩
  · exact fun w hw => (h w hw).mono (fun V w' ⟨σ', hx, hr⟩ => ⟨σ', hx, (hr.mono hn).pre hl⟩) (fun V w' ⟨σ', hx, q, hr⟩ => ⟨σ', hx, q, (hr.mono hn).pre hl⟩)
def bO : SV → Option Bool
  | .b t => some t
  | _ => none
def vB : Value → Option Bool
  | .bool b => some b
  | _ => none
theorem bool_of {ρ : Rm} {y : SV} {V : Value} (h : val ρ y = some V) : vB V = bO y := by
  cases y <;> simp only [val, vI] at h <;> (repeat' split at h) <;> first
    | (cases h; done)
    | (cases h; rfl)
theorem layG_step {n : Nat} {ρ : Rm} {e : Env} {a : Act} {h : Hp} {σ : H} {ops : Array Oper} {o : Oper} {dr : Bool} {k : PC} {S : Stk} (hF : FNo F) (hH : HkOk P hk fx) (hC : ∀ m, m < n → CallsOk P T F gN.g mt hk fx m) (N : Kn gN ρ e a) (R : Rel ρ h σ) (hL : ρ.lo = LO P gN.g mt hk fx) (hg : go T F n (layG P gN mt hk ops.toList dr o k) e S h = true) :
    plainOp o.op = true ∧ dstOk gN.N o.dst = true ∧ if Region.wanted o (yielded ops a.tmps) = true then StepOk P T F gN n ρ dr k S a o σ else Run T F gN n ρ k S (a.put o.dst undef) σ := by
  obtain ⟨m, rfl⟩ := fuel_pos hF hg
  unfold layG at hg
  split at hg
  · exact (no_false hF hg).elim
  · rename_i hd hgd
    obtain ⟨hpl, hd⟩ := bAnd_true hd
    refine ⟨hpl, hd, ?_⟩
    have : Region.wanted o (yielded ops a.tmps) = true := by simp [Region.wanted, hgd]
    rw [if_pos this]
    exact (layO_step hF hH (fun m' h' => hC m' (by omega)) N R hL hd hg).mono (Nat.le_succ m) (Rm.le.refl _)
  · rename_i j w hd hgd
    obtain ⟨hpl, hd⟩ := bAnd_true hd
    refine ⟨hpl, hd, ?_⟩
    split at hg
    · rename_i d hs
      split at hg
      · rename_i hdN
        have hdN := blt_lt hdN
        have hdd : (ops[j]?).bind (·.dst) = some d := by
          unfold slotOf at hs
          cases ho : ops[j]? with
          | none => have : ops.toList[j]? = none := by simpa using ho
                    simp [this] at hs
          | some o' => have : ops.toList[j]? = some o' := by simpa using ho
                       simp [this] at hs; simp [hs]
        have hg1 : (src (.t (dg20 (d / 16)) (dg16 (d % 16))) e fun v => iff' (gdB v w) (go T F m (layO P gN mt hk dr o k) e S h) (put (dstOf o.dst) e und fun e => go T F m k e S h)) = true := hg
        have hs1 : srcOf gN (.tmp d) = some (.t (dg20 (d / 16)) (dg16 (d % 16))) := by
          unfold srcOf
          have : Nat.blt d gN.N = true := Nat.ble_eq_true_of_le hdN
          simp only [this]
        obtain ⟨y, e1, e2, hg2⟩ := src_true N hs1 hg1
        have hy : yielded ops a.tmps j = bO y := by
          have h3 : a.tmps[d]? = some (a.eval (.tmp d)) := by
            have := N.N
            rw [Array.getElem?_eq_getElem (by omega)]
            simp [Act.eval, Array.getD, show d < a.tmps.size by omega]
          rw [← bool_of e1]
          unfold yielded
          rw [hdd]
          simp only [Option.bind_some, h3]
          generalize a.eval (.tmp d) = V
          cases V <;> rfl
        rcases iff_true hg2 with ⟨hb, hg3⟩ | ⟨hb, hg3⟩
        · -- it is wanted
          obtain ⟨m', rfl⟩ := fuel_pos hF hg3
          have hw : Region.wanted o (yielded ops a.tmps) = true := by
            cases y <;> first
              | (cases hb; done)
              | skip
            rename_i t
            simp only [Region.wanted, hgd, hy]
            cases t <;> cases w <;> first | rfl | cases hb
          rw [if_pos hw]
          exact (layO_step hF hH (fun m2 h2 => hC m2 (by omega)) N R hL hd hg3).mono (by omega) (Rm.le.refl _)
        · have hw : Region.wanted o (yielded ops a.tmps) = false := by
            simp only [Region.wanted, hgd, hy]
            cases y <;> first
              | rfl
              | skip
            rename_i t
            cases t <;> cases w <;> first | rfl | cases hb
          rw [if_neg (by rw [hw]; simp)]
          exact run_put N hd (Nat.le_succ m) (Rm.le.refl _) R (val_und ρ) hg3
      · exact (no_false hF hg).elim
    · exact (no_false hF hg).elim
end
end Go.Ev

namespace Go.Ev
open Go Go.HL
section
variable {P : Program} {T : Nat → PC} {F : Go} {gN : Cx} {mt : String → Nat → Nat} {hk : Nat → Option (Nat × Nat)} {fx : Nat → Option Obj}
theorem mayP_cls {o : Op} (h : mayP o = true) : clsOf P o = 3 := by
  unfold mayP at h
  split at h <;> first
    | rfl
    | cases h
/-- what stands behind a region -/
def RegK (T : Nat → PC) (F : Go) (gN : Cx) (n : Nat) (ρ0 : Rm) (k : PC) (S : Stk) (ds : List Deferred) : Pq → Act → H → Prop := fun _ a σ => a.defers = ds ∧ Run T F gN n ρ0 k S a σ
def RegX (T : Nat → PC) (F : Go) (gN : Cx) (n : Nat) (ρ0 : Rm) (S : Stk) (ds : List Deferred) : Act → Value → H → Prop := fun a v σ => a.defers = ds ∧ Pan T F gN n ρ0 S a v σ
theorem RegK.pm {n : Nat} {ρ0 : Rm} {k : PC} {S : Stk} {ds : List Deferred} : PMono (RegK T F gN n ρ0 k S ds) := fun _ _ _ _ _ h => h
/-- the class of an operation in a region in its order -/
def clU (P : Program) (ops : List Oper) (i : Nat) : Nat := match ops[i]? with
  | some o => match clsOf P o.op with
    | 0 => 0
    | 1 => 1
    | 2 => 2
    | _ => 4
  | none => 3
theorem reach_ofX {R RX : Value → World → Prop} {x : Result Next} (h : reachX P R RX x) (hx : ∀ v w, ¬ RX v w) : reach P R x := by
  unfold reachX at h
  unfold reach
  split at h
  · exact h
  · exact h
  · refine CallsIn.mono h fun e w' hh => ?_
    rcases hh with hh | ⟨v, he, hv⟩
    · exact hh
    · exact absurd hv (hx _ _)
  · exact h
  · exact absurd h (hx _ _)
  · exact h.elim
theorem invW_ofX {s : Sem Next} {K X : Value → H → Prop} {σ : H} (h : invWX P s K X σ) (hx : ∀ v σ', ¬ X v σ') : invW P s K σ :=
  fun w hw => reach_ofX (h w hw) fun v w' ⟨σ', _, hv⟩ => hx v σ' hv
theorem toList_get {ops : Array Oper} {i : Nat} {o : Oper} (h : ops.toList[i]? = some o) : ops[i]? = some o := by simpa using h
theorem layR_run (hF : FNo F) (hH : HkOk P hk fx) {ops : Array Oper} {k : PC} {S : Stk} {ds : List Deferred} {ρ0 : Rm} (hL : ρ0.lo = LO P gN.g mt hk fx) : ∀ (l : List Nat) {n : Nat} {a : Act} {σ : H} {p : Pq}, (∀ m, m < n → CallsOk P T F gN.g mt hk fx m) → a.defers = ds → Run T F gN n ρ0 (layR P gN mt hk ops.toList l k) S a σ →
    SRunY P ops (clU P ops.toList) (fun _ _ => true) (RegX T F gN n ρ0 S ds) p l a (RegK T F gN n ρ0 k S ds) σ := by
  intro l
  induction l with
  | nil => intro n a σ p hC hd h; exact ⟨hd, h⟩
  | cons i l ih =>
    intro n a σ p hC hds h
    obtain ⟨m, ρ, e, h', q1, q2, N, R, hg⟩ := h
    simp only [layR] at hg
    split at hg
    · rename_i o ho
      have ho' := toList_get ho
      obtain ⟨hpl, hd, hst⟩ := layG_step (ops := ops) hF hH (fun m' hm' => hC m' (by omega)) N R (q2.lo.trans hL) hg
      refine ⟨o, ho', hpl, ?_⟩
      have go' : ∀ {V : Value} {p' : Pq} {σ' : H}, Run T F gN m ρ (layR P gN mt hk ops.toList l k) S (a.put o.dst V) σ' → SRunY P ops (clU P ops.toList) (fun _ _ => true) (RegX T F gN n ρ0 S ds) p' l (a.put o.dst V) (RegK T F gN n ρ0 k S ds) σ' := by
        intro V p' σ' hr
        exact ih hC (by rw [put_defers]; exact hds) ((hr.mono q1).pre q2)
      split at hst
      · rename_i hw
        rw [if_pos hw]
        unfold StepOk at hst
        split at hst
        · rename_i hc
          have hcl : clU P ops.toList i = 0 := by simp only [clU, ho, hc]
          rw [hcl]
          obtain ⟨V, h1, h2⟩ := hst
          exact ⟨V, h1, go' h2⟩
        · rename_i hc
          have hcl : clU P ops.toList i = 1 := by simp only [clU, ho, hc]
          rw [hcl]
          obtain ⟨V, h1, h2⟩ := hst
          exact ⟨V, h1, go' h2⟩
        · rename_i hc
          have hcl : clU P ops.toList i = 2 := by simp only [clU, ho, hc]
          rw [hcl]
          obtain ⟨mk, obj, h1, h2⟩ := hst
          exact ⟨mk, obj, h1, fun b hb => go' (h2 b hb)⟩
        · rename_i hc0 hc1 hc2
          have hcl : clU P ops.toList i = 4 := by
            simp only [clU, ho]
          rw [hcl]
          exact fun w hw => (hst w hw).mono (fun V w' ⟨σ', hx, hr⟩ => ⟨σ', hx, fun q hq => .inl rfl, go' hr⟩) (fun V w' ⟨σ', hx, _, hr⟩ => ⟨σ', hx, hds, (hr.mono q1).pre q2⟩)
      · rename_i hw
        rw [if_neg hw]
        exact go' hst
    · exact (no_false hF hg).elim
/-! ### Readings again -/
theorem smV_true {v w : SV} {k : Bool} (hk : smV v w k = true) : v = w ∧ k = true := by
  cases v <;> first
    | (cases hk; done)
    | skip
  case i n => obtain ⟨m, rfl, h⟩ := asI_true hk; obtain ⟨h1, h2⟩ := yes_true h; rw [Nat.eq_of_beq_eq_true h1]; exact ⟨rfl, h2⟩
  case u n => obtain ⟨m, rfl, h⟩ := asU_true hk; obtain ⟨h1, h2⟩ := yes_true h; rw [Nat.eq_of_beq_eq_true h1]; exact ⟨rfl, h2⟩
  case w c n => obtain ⟨c', m, rfl, h⟩ := asW_true hk; obtain ⟨h0, h⟩ := yes_true h; obtain ⟨h1, h2⟩ := yes_true h; rw [Nat.eq_of_beq_eq_true h1, Nat.eq_of_beq_eq_true h0]; exact ⟨rfl, h2⟩
  case b x => obtain ⟨y, rfl, h⟩ := asB_true hk; cases x <;> cases y <;> first | exact ⟨rfl, h⟩ | cases h
  case s l n => obtain ⟨m, j, rfl, h⟩ := asS_true hk; obtain ⟨h0, h⟩ := yes_true h; obtain ⟨h1, h2⟩ := yes_true h; rw [Nat.eq_of_beq_eq_true h1, Nat.eq_of_beq_eq_true h0]; exact ⟨rfl, h2⟩
  case p0 => cases w <;> first | exact ⟨rfl, hk⟩ | cases hk
  case p a v o => obtain ⟨b, u, q, rfl, h⟩ := asP_true hk; obtain ⟨h0, h⟩ := yes_true h; obtain ⟨h1, h⟩ := yes_true h; obtain ⟨h2, h⟩ := yes_true h; rw [Nat.eq_of_beq_eq_true h1, Nat.eq_of_beq_eq_true h0, Nat.eq_of_beq_eq_true h2]; exact ⟨rfl, h⟩
  case l0 => cases w <;> first | exact ⟨rfl, hk⟩ | cases hk
  case l a v o n c =>
    cases w <;> first
      | (cases hk; done)
      | skip
    obtain ⟨h0, h⟩ := yes_true hk; obtain ⟨h1, h⟩ := yes_true h; obtain ⟨h2, h⟩ := yes_true h; obtain ⟨h3, h⟩ := yes_true h; obtain ⟨h4, h⟩ := yes_true h
    rw [Nat.eq_of_beq_eq_true h1, Nat.eq_of_beq_eq_true h0, Nat.eq_of_beq_eq_true h2, Nat.eq_of_beq_eq_true h3, Nat.eq_of_beq_eq_true h4]; exact ⟨rfl, h⟩
  case r a v o ob n c =>
    cases w <;> first
      | (cases hk; done)
      | skip
    obtain ⟨h0, h⟩ := yes_true hk; obtain ⟨h1, h⟩ := yes_true h; obtain ⟨h2, h⟩ := yes_true h; obtain ⟨h3, h⟩ := yes_true h; obtain ⟨h4, h⟩ := yes_true h; obtain ⟨h5, h⟩ := yes_true h
    rw [Nat.eq_of_beq_eq_true h1, Nat.eq_of_beq_eq_true h0, Nat.eq_of_beq_eq_true h2, Nat.eq_of_beq_eq_true h3, Nat.eq_of_beq_eq_true h4, Nat.eq_of_beq_eq_true h5]; exact ⟨rfl, h⟩
  case m0 => cases w <;> first | exact ⟨rfl, hk⟩ | cases hk
  case m a => obtain ⟨b, rfl, h⟩ := asM_true hk; obtain ⟨h1, h2⟩ := yes_true h; rw [Nat.eq_of_beq_eq_true h1]; exact ⟨rfl, h2⟩
  case e0 => cases w <;> first | exact ⟨rfl, hk⟩ | cases hk
theorem smL_true : ∀ {l m : List SV} {k : Bool}, smL l m k = true → l = m ∧ k = true := by
  intro l
  induction l with
  | nil => intro m k hk; cases m with
    | nil => exact ⟨rfl, hk⟩
    | cons x m => cases hk
  | cons v l ih => intro m k hk; cases m with
    | nil => cases hk
    | cons w m =>
      obtain ⟨h1, h2⟩ := smV_true (v := v) (w := w) (k := smL l m k) hk
      obtain ⟨h3, h4⟩ := ih h2
      rw [h1, h3]; exact ⟨rfl, h4⟩
theorem smG_true {v w : SV} {k : Bool} (hk : smG v w k = true) : v = w ∧ k = true := by
  cases v <;> first
    | exact smV_true hk
    | skip
  case g l =>
    obtain ⟨m, rfl, h⟩ := asG_true hk
    obtain ⟨h1, h2⟩ := smL_true h
    rw [h1]; exact ⟨rfl, h2⟩
end
end Go.Ev

namespace Go.Ev
open Go Go.HL
section
variable {P : Program} {T : Nat → PC} {F : Go} {gN : Cx} {mt : String → Nat → Nat} {hk : Nat → Option (Nat × Nat)} {fx : Nat → Option Obj}
theorem fre_slot {ρ : Rm} {e : Env} {a : Act} (N : Kn gN ρ e a) {d : Nat} (hd : d < gN.N) : val ρ (e.slot d) = some (a.tmps.getD d undef) := N.fr d (by have := N.M; omega)
theorem layQ_run (hF : FNo F) {ops : Array Oper} {k : PC} {S : Stk} {ρ0 : Rm} : ∀ (js : List Nat) {n : Nat} {a : Act} {σ : H}, (∀ j ∈ js, ∀ oj, ops[j]? = some oj → clsOf P oj.op = 1) → Run T F gN n ρ0 (layQ P gN ops.toList js k) S a σ →
    (∀ j ∈ js, ∃ oj, ops[j]? = some oj ∧ ∀ d, oj.dst = some d → RdS P (execOp a.eval oj) σ (a.tmps.getD d undef)) ∧ Run T F gN n ρ0 k S a σ := by
  intro js
  induction js with
  | nil => intro n a σ _ h; exact ⟨(fun j hj => by cases hj), h⟩
  | cons j js ih =>
    intro n a σ hcl h
    obtain ⟨m, ρ, e, h', q1, q2, N, R, hg⟩ := h
    simp only [layQ] at hg
    split at hg
    · rename_i oj hoj
      have hoj' := toList_get hoj
      split at hg
      · rename_i p hgd hp hd
        obtain ⟨m', rfl⟩ := fuel_pos hF hg
        have hg1 : Ev.hop p e h' (fun v _ => dsV (dstOf oj.dst) e fun w => smG v w (go T F m' (layQ P gN ops.toList js k) e S h')) = true := hg
        have hok := op_ok (K := fun v _ => dsV (dstOf oj.dst) e fun w => smG v w (go T F m' (layQ P gN ops.toList js k) e S h')) N R hp hg1
        unfold OpOk at hok
        rw [hcl j (List.mem_cons_self ..) oj hoj'] at hok
        obtain ⟨r, V, x, h0, h1, h2, h3⟩ := hok
        cases hdd : oj.dst with
        | none => rw [hdd] at h3; cases h3
        | some d =>
          rw [hdd] at h3 hd
          have hdN : d < gN.N := by simpa [dstOk] using hd
          change eg (dg20 (d / 16)) (dg16 (d % 16)) e (fun w => smG x w (go T F m' (layQ P gN ops.toList js k) e S h')) = true at h3
          rw [eg_eq] at h3
          obtain ⟨h4, h5⟩ := smG_true h3
          obtain ⟨i1, i2⟩ := ih (n := n) (a := a) (σ := σ) (fun j' hj' => hcl j' (List.mem_cons_of_mem _ hj')) ⟨m', ρ, e, h', by omega, q2, N, R, h5⟩
          refine ⟨fun j' hj' => ?_, i2⟩
          rcases List.mem_cons.1 hj' with rfl | hj'
          · refine ⟨oj, hoj', fun d' hd' => ?_⟩
            rw [hdd] at hd'; cases hd'
            have hs := fre_slot N hdN
            rw [← h4, h2] at hs
            injection hs with hs
            rw [← hs]
            exact h0 _ _ h1
          · exact i1 j' hj'
      · exact (no_false hF hg).elim
    · exact (no_false hF hg).elim
theorem elemB_mem {x : Nat} : ∀ {l : List Nat}, elemB x l = true ↔ x ∈ l := by
  intro l
  induction l with
  | nil => simp [elemB]
  | cons y r ih =>
    simp only [elemB]
    cases hb : Nat.beq y x with
    | true => have := Nat.eq_of_beq_eq_true hb; subst this; simp
    | false =>
      have hne := Nat.ne_of_beq_eq_false hb
      simp only [ih, List.mem_cons]
      constructor
      · exact .inr
      · rintro (h | h)
        · exact absurd h.symm hne
        · exact h
theorem ahd_anc {AL : List (List Nat)} {y x : Nat} : ahd AL y x = ancOf AL y x := by
  unfold ahd ancOf
  rw [Bool.eq_iff_iff, elemB_mem, List.contains_iff_mem]
theorem mem_rqL {AL : List (List Nat)} {i j : Nat} : ∀ {pd : List Nat}, j ∈ pd → ahd AL j i = false → j ∈ rqL AL i pd := by
  intro pd
  induction pd with
  | nil => intro h; cases h
  | cons x r ih =>
    intro h ha
    simp only [rqL]
    rcases List.mem_cons.1 h with rfl | h
    · rw [ha]; exact List.mem_cons_self ..
    · split
      · exact ih h ha
      · exact List.mem_cons_of_mem _ (ih h ha)
theorem rqL_sub {AL : List (List Nat)} {i : Nat} : ∀ {pd : List Nat} {j : Nat}, j ∈ rqL AL i pd → j ∈ pd := by
  intro pd
  induction pd with
  | nil => intro j h; exact h
  | cons x r ih =>
    intro j h
    simp only [rqL] at h
    split at h
    · exact List.mem_cons_of_mem _ (ih h)
    · rcases List.mem_cons.1 h with rfl | h
      · exact List.mem_cons_self ..
      · exact List.mem_cons_of_mem _ (ih h)
/-- a pending reading that is to be done again: it may be -/
def Live1 (P : Program) (ops : Array Oper) (a : Act) (q : Nat × Sem Next × Value) : Prop := ∃ oj d, ops[q.1]? = some oj ∧ execOp a.eval oj = q.2.1 ∧ oj.dst = some d ∧ a.tmps.getD d undef = q.2.2 ∧ (∀ cs b, oj.op ≠ .select cs b)
def LiveP (P : Program) (ops : Array Oper) (AL : List (List Nat)) (π : List Nat) (l pd : List Nat) (a : Act) (p : Pq) : Prop := ∀ q ∈ p, needsY P ops.toList AL π q.1 l = true → q.1 ∈ pd ∧ Live1 P ops a q
theorem stays_true {ops : Array Oper} {oj o : Oper} (h : staysB ops oj o = true) : (∀ d, o.dst = some d → d ∉ oj.looksAt ops) ∧ ∀ d, o.dst = some d → oj.dst ≠ some d := by
  unfold staysB at h
  cases hd : o.dst with
  | none => exact ⟨(fun d q => by cases q), fun d q => by cases q⟩
  | some d =>
    rw [hd] at h
    simp only [Bool.and_eq_true, Bool.not_eq_true'] at h
    refine ⟨fun d' q => ?_, fun d' q => ?_⟩
    · cases q
      intro hm
      have : (oj.looksAt ops).contains d = true := by simpa using hm
      rw [this] at h; cases h.1
    · cases q
      intro hm
      rw [hm] at h
      simp at h
theorem Live1.put {ops : Array Oper} {a : Act} {q : Nat × Sem Next × Value} (h : Live1 P ops a q) {o : Oper} (hs : ∀ oj, ops[q.1]? = some oj → staysB ops oj o = true) (V : Value) : Live1 P ops (a.put o.dst V) q := by
  obtain ⟨oj, d, h1, h2, h3, h4, h5⟩ := h
  obtain ⟨s1, s2⟩ := stays_true (hs oj h1)
  refine ⟨oj, d, h1, by rw [execOp_put oj h5 a o.dst V s1]; exact h2, h3, ?_, h5⟩
  rw [← h4]
  cases hd : o.dst with
  | none => rfl
  | some d' =>
    have : d' ≠ d := fun e => s2 d' hd (by rw [e]; exact h3)
    simp only [Act.put, Array.getD_eq_getD_getElem?]
    rw [Array.getElem?_setIfInBounds_ne this]
theorem pdOk1_true {ops : Array Oper} {AL : List (List Nat)} {π : List Nat} {o : Oper} {l : List Nat} : ∀ {pd : List Nat}, pdOk1 P ops AL π o l pd = true → ∀ j ∈ pd, needsY P ops.toList AL π j l = true → ∀ oj, ops[j]? = some oj → staysB ops oj o = true := by
  intro pd
  induction pd with
  | nil => intro _ j hj; cases hj
  | cons x r ih =>
    intro h j hj hn oj hoj
    simp only [pdOk1] at h
    rcases List.mem_cons.1 hj with rfl | hj
    · rw [hn] at h
      simp only [hoj] at h
      split at h
      · rename_i hs; exact hs
      · cases h
    · split at h
      · exact ih h j hj hn oj hoj
      · split at h
        · split at h
          · exact ih h j hj hn oj hoj
          · cases h
        · cases h
theorem needs_tail {ops : List Oper} {AL : List (List Nat)} {π : List Nat} {j i : Nat} {l : List Nat} (h : needsY P ops AL π j l = true) : needsY P ops AL π j (i :: l) = true := by
  simp only [needsY]
  split
  · rfl
  · exact h
theorem needs_head {ops : List Oper} {AL : List (List Nat)} {π : List Nat} {j i : Nat} {l : List Nat} (h1 : 3 ≤ clY P ops AL π i) (h2 : ahd AL j i = false) : needsY P ops AL π j (i :: l) = true := by
  have : Nat.ble 3 (clY P ops AL π i) = true := Nat.ble_eq_true_of_le h1
  simp only [needsY, this, h2]
theorem plain_sel {o : Oper} (h : plainOp o.op = true) : ∀ cs b, o.op ≠ .select cs b := by
  intro cs b e; rw [e] at h; cases h
theorem clY_cases (P : Program) (ops : List Oper) (AL : List (List Nat)) (π : List Nat) (i : Nat) : clY P ops AL π i = 0 ∨ clY P ops AL π i = 1 ∨ clY P ops AL π i = 2 ∨ clY P ops AL π i = 3 ∨ clY P ops AL π i = 4 := by
  unfold clY
  split
  · split
    · split
      · exact .inr (.inr (.inr (.inr rfl)))
      · exact .inr (.inr (.inr (.inl rfl)))
    · split
      · exact .inl rfl
      · exact .inr (.inl rfl)
      · exact .inr (.inr (.inl rfl))
      · exact .inr (.inr (.inr (.inl rfl)))
  · exact .inr (.inr (.inr (.inl rfl)))
theorem layY_run (hF : FNo F) (hH : HkOk P hk fx) {ops : Array Oper} {AL : List (List Nat)} {π : List Nat} {k : PC} {S : Stk} {ds : List Deferred} {ρ0 : Rm} (hL : ρ0.lo = LO P gN.g mt hk fx) : ∀ (l pd : List Nat) {n : Nat} {a : Act} {σ : H} {p : Pq}, (∀ m, m < n → CallsOk P T F gN.g mt hk fx m) → a.defers = ds → pendOk P ops AL π pd l = true → LiveP P ops AL π l pd a p → (∀ j ∈ pd, ∀ oj, ops[j]? = some oj → clsOf P oj.op = 1) → Run T F gN n ρ0 (layY P gN mt hk ops.toList AL π pd l k) S a σ →
    SRunY P ops (clY P ops.toList AL π) (ancOf AL) (RegX T F gN n ρ0 S ds) p l a (RegK T F gN n ρ0 k S ds) σ := by
  intro l
  induction l with
  | nil => intro pd n a σ p hC hds _ _ _ h; exact ⟨hds, h⟩
  | cons i l ih =>
    intro pd n a σ p hC hds hpo hlp hc1 h
    obtain ⟨m, ρ, e, h', q1, q2, N, R, hg⟩ := h
    simp only [layY] at hg
    simp only [pendOk] at hpo
    cases ho : ops.toList[i]? with
    | none => rw [ho] at hg; exact (no_false hF hg).elim
    | some o =>
      have ho' := toList_get ho
      simp only [ho] at hg
      simp only [ho'] at hpo
      split at hpo
      case h_2 => cases hpo
      rename_i hpd1
      have hstay : ∀ q ∈ p, needsY P ops.toList AL π q.1 l = true → ∀ V, q.1 ∈ pd ∧ Live1 P ops (a.put o.dst V) q := by
        intro q hq hn V
        obtain ⟨l1, l2⟩ := hlp q hq (needs_tail hn)
        exact ⟨l1, l2.put (fun oj hoj => pdOk1_true hpd1 q.1 l1 (needs_tail hn) oj hoj) V⟩
      have hdef : ∀ V, (a.put o.dst V).defers = ds := fun V => by rw [put_defers]; exact hds
      -- the tail, when nothing is to be read again
      have tail0 : ∀ {V : Value} {σ' : H}, pendOk P ops AL π pd l = true → Run T F gN m ρ (layY P gN mt hk ops.toList AL π pd l k) S (a.put o.dst V) σ' → SRunY P ops (clY P ops.toList AL π) (ancOf AL) (RegX T F gN n ρ0 S ds) p l (a.put o.dst V) (RegK T F gN n ρ0 k S ds) σ' := by
        intro V σ' hp hr
        exact ih pd hC (hdef V) hp (fun q hq hn => hstay q hq hn V) hc1 ((hr.mono q1).pre q2)
      have hclY : ∀ c, clY P ops.toList AL π i = c → c < 3 → clsOf P o.op = c := by
        intro c hc h3
        simp only [clY, ho] at hc
        split at hc
        · split at hc <;> omega
        · split at hc
          · rename_i q; rw [q]; exact hc
          · rename_i q; rw [q]; exact hc
          · rename_i q; rw [q]; exact hc
          · omega
      -- the tail behind an effect
      have tail3 : ∀ {V : Value} {σ' : H}, 3 ≤ clY P ops.toList AL π i → pendOk P ops AL π pd l = true → Run T F gN m ρ (layQ P gN ops.toList (rqL AL i pd) (layY P gN mt hk ops.toList AL π pd l k)) S (a.put o.dst V) σ' →
          (∀ q ∈ p, ancOf AL q.1 i = true ∨ RdS P q.2.1 σ' q.2.2) ∧ SRunY P ops (clY P ops.toList AL π) (ancOf AL) (RegX T F gN n ρ0 S ds) p l (a.put o.dst V) (RegK T F gN n ρ0 k S ds) σ' := by
        intro V σ' h3 hp hr
        obtain ⟨i1, i2⟩ := layQ_run hF (rqL AL i pd) (fun j hj => hc1 j (rqL_sub hj)) hr
        refine ⟨fun q hq => ?_, tail0 hp i2⟩
        cases ha : ahd AL q.1 i with
        | true => exact .inl (by rw [← ahd_anc]; exact ha)
        | false =>
          right
          have hn := needs_head (P := P) (ops := ops.toList) (π := π) (l := l) h3 ha
          obtain ⟨l1, l2⟩ := hlp q hq hn
          obtain ⟨oj, d, e1, e2, e3, e4, e5⟩ := l2.put (fun oj hoj => pdOk1_true hpd1 q.1 l1 hn oj hoj) V
          obtain ⟨oj', e1', e6⟩ := i1 q.1 (mem_rqL l1 ha)
          rw [e1] at e1'; cases e1'
          have := e6 d e3
          rw [e2, e4] at this
          exact this
      have unw : ∀ {dr : Bool} {k' : PC}, go T F m (layG P gN mt hk ops.toList dr o k') e S h' = true → plainOp o.op = true ∧ dstOk gN.N o.dst = true ∧ if Region.wanted o (yielded ops a.tmps) = true then StepOk P T F gN m ρ dr k' S a o σ else Run T F gN m ρ k' S (a.put o.dst undef) σ :=
        fun hg => layG_step (ops := ops) hF hH (fun m' hm' => hC m' (by omega)) N R (q2.lo.trans hL) hg
      split at hg
      · -- silent
        rename_i hcy
        rw [hcy] at hpo
        obtain ⟨hpl, hd, hst⟩ := unw hg
        refine ⟨o, ho', hpl, ?_⟩
        split at hst
        · rename_i hw
          rw [if_pos hw, hcy]
          have hc := hclY 0 hcy (by decide)
          unfold StepOk at hst
          rw [hc] at hst
          obtain ⟨V, h1, h2⟩ := hst
          exact ⟨V, h1, tail0 hpo h2⟩
        · rename_i hw
          rw [if_neg hw]
          exact tail0 hpo hst
      · -- a reading
        rename_i hcy
        rw [hcy] at hpo
        obtain ⟨hpl, hd, hst⟩ := unw hg
        refine ⟨o, ho', hpl, ?_⟩
        have hc := hclY 1 hcy (by decide)
        have hpo' : pendOk P ops AL π (i :: pd) l = true ∧ (needsY P ops.toList AL π i l = true → ∃ d, o.dst = some d ∧ d ∉ o.looksAt ops) := by
          simp only at hpo
          split at hpo
          · split at hpo
            · rename_i d hdd
              split at hpo
              · rename_i hno
                refine ⟨hpo, fun _ => ⟨d, hdd, fun hm => ?_⟩⟩
                have : (o.looksAt ops).contains d = true := by simpa using hm
                rw [this] at hno; cases hno
              · cases hpo
            · cases hpo
          · rename_i hnn
            exact ⟨hpo, fun q => by rw [hnn] at q; cases q⟩
        have hc1' : ∀ j ∈ i :: pd, ∀ oj, ops[j]? = some oj → clsOf P oj.op = 1 := by
          intro j hj oj hoj
          rcases List.mem_cons.1 hj with rfl | hj
          · rw [ho'] at hoj; cases hoj; exact hc
          · exact hc1 j hj oj hoj
        split at hst
        · rename_i hw
          rw [if_pos hw, hcy]
          unfold StepOk at hst
          rw [hc] at hst
          obtain ⟨V, h1, h2⟩ := hst
          refine ⟨V, h1, ih (i :: pd) hC (hdef V) hpo'.1 (fun q hq hn => ?_) hc1' ((h2.mono q1).pre q2)⟩
          rcases List.mem_cons.1 hq with rfl | hq
          · refine ⟨List.mem_cons_self .., ?_⟩
            obtain ⟨d, hdd, hnl⟩ := hpo'.2 hn
            have hdN : d < gN.N := by rw [hdd] at hd; simpa [dstOk] using hd
            have h9 : d < a.tmps.size := Nat.lt_of_lt_of_le hdN N.N
            refine ⟨o, d, ho', execOp_put o (plain_sel hpl) a o.dst V (fun d' q => by rw [hdd] at q; cases q; exact hnl), hdd, ?_, plain_sel hpl⟩
            rw [hdd]
            simp only [Act.put, Array.getD_eq_getD_getElem?]
            rw [Array.getElem?_setIfInBounds_self_of_lt h9]
            rfl
          · obtain ⟨l1, l2⟩ := hstay q hq hn V
            exact ⟨List.mem_cons_of_mem _ l1, l2⟩
        · rename_i hw
          rw [if_neg hw]
          refine ih (i :: pd) hC (hdef undef) hpo'.1 (fun q hq hn => ?_) hc1' ((hst.mono q1).pre q2)
          obtain ⟨l1, l2⟩ := hstay q hq hn undef
          exact ⟨List.mem_cons_of_mem _ l1, l2⟩
      · -- a new block
        rename_i hcy
        rw [hcy] at hpo
        obtain ⟨hpl, hd, hst⟩ := unw hg
        refine ⟨o, ho', hpl, ?_⟩
        split at hst
        · rename_i hw
          rw [if_pos hw, hcy]
          have hc := hclY 2 hcy (by decide)
          unfold StepOk at hst
          rw [hc] at hst
          obtain ⟨mk, obj, h1, h2⟩ := hst
          exact ⟨mk, obj, h1, fun b hb => tail0 hpo (h2 b hb)⟩
        · rename_i hw
          rw [if_neg hw]
          exact tail0 hpo hst
      · -- an effect that may panic
        rename_i hcy
        rw [hcy] at hpo
        obtain ⟨hpl, hd, hst⟩ := unw hg
        refine ⟨o, ho', hpl, ?_⟩
        have hc : clsOf P o.op = 3 := by
          simp only [clY, ho] at hcy
          cases hm : mayP o.op with
          | true => exact mayP_cls hm
          | false =>
            rw [hm] at hcy
            simp only at hcy
            split at hcy <;> omega
        split at hst
        · rename_i hw
          rw [if_pos hw, hcy]
          unfold StepOk at hst
          rw [hc] at hst
          exact fun w hw => (hst w hw).mono (fun V w' ⟨σ', hx, hr⟩ => ⟨σ', hx, tail3 (by rw [hcy]; decide) hpo hr⟩) (fun V w' ⟨σ', hx, _, hr⟩ => ⟨σ', hx, hds, (hr.mono q1).pre q2⟩)
        · rename_i hw
          rw [if_neg hw]
          exact (tail3 (by rw [hcy]; decide) hpo hst).2
      · -- an effect
        rename_i hn0 hn1 hn2 hn4
        have h3 : clY P ops.toList AL π i = 3 := by
          rcases clY_cases P ops.toList AL π i with q | q | q | q | q
          · exact absurd q hn0
          · exact absurd q hn1
          · exact absurd q hn2
          · exact q
          · exact absurd q hn4
        rw [h3] at hpo
        obtain ⟨hpl, hd, hst⟩ := unw hg
        refine ⟨o, ho', hpl, ?_⟩
        have hcs : ∀ (a0 a1 a2 a3 : Prop), (match clsOf P o.op with | 0 => a0 | 1 => a1 | 2 => a2 | _ => a3) → a3 := by
          have h4 := h3
          simp only [clY, ho] at h4
          intro a0 a1 a2 a3 q
          cases hm : mayP o.op with
          | true => rw [mayP_cls (P := P) hm] at q; exact q
          | false =>
            rw [hm] at h4
            simp only at h4
            split at q
            · rename_i e; rw [e] at h4; cases h4
            · rename_i e; rw [e] at h4; cases h4
            · rename_i e; rw [e] at h4; cases h4
            · exact q
        split at hst
        · rename_i hw
          rw [if_pos hw, h3]
          have hst := hcs _ _ _ _ hst
          refine invW_ofX (X := fun _ _ => False) (fun w hw => (hst w hw).mono (fun V w' ⟨σ', hx, hr⟩ => ⟨σ', hx, tail3 (by rw [h3]; decide) hpo hr⟩) (fun V w' ⟨σ', hx, q, _⟩ => by cases q)) (fun _ _ h => h)
        · rename_i hw
          rw [if_neg hw]
          exact (tail3 (by rw [h3]; decide) hpo hst).2
end
end Go.Ev

namespace Go.Ev
open Go Go.HL
section
variable {P : Program} {T : Nat → PC} {F : Go} {gN : Cx} {mt : String → Nat → Nat} {hk : Nat → Option (Nat × Nat)} {fx : Nat → Option Obj}
/-! ### Acts -/
/-- a' has done D, as A did; what D does not write is as in a -/
structure Agr (ops : Array Oper) (D : Nat → Prop) (a A a' : Act) : Prop where
  size : a'.tmps.size = a.tmps.size
  defers : a'.defers = a.defers
  done : ∀ t i, D i → dstAt ops i = some t → a'.tmps.getD t undef = A.tmps.getD t undef
  rest : ∀ t, (∀ i, D i → dstAt ops i ≠ some t) → a'.tmps.getD t undef = a.tmps.getD t undef
theorem put_get {a : Act} {d : Option Nat} {V : Value} {t : Nat} (h : d ≠ some t) : (a.put d V).tmps.getD t undef = a.tmps.getD t undef := by
  cases d with
  | none => rfl
  | some d =>
    have hne : d ≠ t := fun e => h (by rw [e])
    simp only [Act.put, Array.getD_eq_getD_getElem?]
    rw [Array.getElem?_setIfInBounds_ne hne]
theorem put_same {a : Act} {V : Value} {t : Nat} (h : t < a.tmps.size) : (a.put (some t) V).tmps.getD t undef = V := by
  simp only [Act.put, Array.getD_eq_getD_getElem?]
  rw [Array.getElem?_setIfInBounds_self_of_lt h]
  rfl
theorem put_size {a : Act} {d : Option Nat} {V : Value} : (a.put d V).tmps.size = a.tmps.size := by cases d <;> simp [Act.put]
theorem Agr.step {ops : Array Oper} {D D' : Nat → Prop} {a A a' : Act} (h : Agr ops D a A a') {i : Nat} {V : Value} (hD : ∀ j, D' j ↔ D j ∨ j = i) (hV : ∀ t, dstAt ops i = some t → V = A.tmps.getD t undef ∧ t < a.tmps.size) : Agr ops D' a A (a'.put (dstAt ops i) V) := by
  refine ⟨put_size.trans h.size, (put_defers _ _ _).trans h.defers, fun t j hj hd => ?_, fun t hn => ?_⟩
  · by_cases e : dstAt ops i = some t
    · obtain ⟨h1, h2⟩ := hV t e
      rw [e, put_same (by rw [h.size]; exact h2)]; exact h1
    · rw [put_get e]
      rcases (hD j).1 hj with h1 | h1
      · exact h.done t j h1 hd
      · subst h1; exact absurd hd e
  · have e : dstAt ops i ≠ some t := hn i ((hD i).2 (.inr rfl))
    rw [put_get e]
    exact h.rest t fun j hj => hn j ((hD j).2 (.inl hj))
theorem Agr.other {ops : Array Oper} {D : Nat → Prop} {a A A' a' : Act} (h : Agr ops D a A a') (hA : ∀ t i, D i → dstAt ops i = some t → A.tmps.getD t undef = A'.tmps.getD t undef) : Agr ops D a A' a' :=
  ⟨h.size, h.defers, fun t i hi hd => (h.done t i hi hd).trans (hA t i hi hd), h.rest⟩
theorem eval_tmp (a : Act) (t : Nat) : a.eval (.tmp t) = a.tmps.getD t undef := by
  simp [Act.eval]
theorem exec_same {a a' : Act} {o : Oper} (hp : plainOp o.op = true) (h : ∀ t, .tmp t ∈ o.op.operands → a.tmps.getD t undef = a'.tmps.getD t undef) : execOp a.eval o = execOp a'.eval o := by
  refine execOp_congr o (plain_sel hp) fun x hx => ?_
  cases x with
  | tmp t => rw [eval_tmp, eval_tmp]; exact h t hx
  | _ => rfl
/-! ### What the run along the order says -/
def PreOk (P : Program) (ops : Array Oper) (σ : H) : List Nat → Act → Act → Prop
  | [], a, A => A = a
  | i :: l, a, A => ∃ o V, ops[i]? = some o ∧ ((clsOf P o.op = 0 ∧ Sil P (execOp a.eval o) V) ∨ (clsOf P o.op = 1 ∧ RdS P (execOp a.eval o) σ V)) ∧ (∀ t, o.dst = some t → t < a.tmps.size) ∧ PreOk P ops σ l (a.put o.dst V) A
theorem PreOk.size {ops : Array Oper} {σ : H} : ∀ {l : List Nat} {a A : Act}, PreOk P ops σ l a A → A.tmps.size = a.tmps.size ∧ A.defers = a.defers := by
  intro l
  induction l with
  | nil => intro a A h; subst h; exact ⟨rfl, rfl⟩
  | cons i l ih =>
    intro a A ⟨o, V, _, _, _, h⟩
    obtain ⟨h1, h2⟩ := ih h
    exact ⟨h1.trans put_size, h2.trans (put_defers _ _ _)⟩
theorem PreOk.keep {ops : Array Oper} {σ : H} {t : Nat} : ∀ {l : List Nat} {a A : Act}, PreOk P ops σ l a A → (∀ j ∈ l, dstAt ops j ≠ some t) → A.tmps.getD t undef = a.tmps.getD t undef := by
  intro l
  induction l with
  | nil => intro a A h _; subst h; rfl
  | cons i l ih =>
    intro a A ⟨o, V, ho, _, _, h⟩ hn
    have hi := hn i (List.mem_cons_self ..)
    rw [ih h fun j hj => hn j (List.mem_cons_of_mem _ hj)]
    refine put_get ?_
    simpa only [dstAt, ho] using hi
theorem freshB_cons {ops : Array Oper} {i : Nat} {r : List Nat} (h : freshB ops (i :: r) = true) : (∀ o, ops[i]? = some o → ∀ t, .tmp t ∈ o.op.operands → ∀ j ∈ i :: r, dstAt ops j ≠ some t) ∧ (∀ t, dstAt ops i = some t → ∀ j ∈ r, dstAt ops j ≠ some t) ∧ freshB ops r = true := by
  simp only [freshB, Bool.and_eq_true] at h
  obtain ⟨⟨h1, h2⟩, h3⟩ := h
  refine ⟨fun o ho t ht j hj e => ?_, fun t ht j hj e => ?_, h3⟩
  · rw [ho] at h1
    have := List.all_eq_true.1 h1 (.tmp t) (by simpa using ht)
    have := List.all_eq_true.1 this j hj
    rw [e] at this; simp at this
  · have := List.all_eq_true.1 h2 j hj
    rw [ht, e] at this; simp at this
theorem pre_val {ops : Array Oper} {σ : H} : ∀ {l r : List Nat} {a A : Act}, PreOk P ops σ l a A → freshB ops (l ++ r) = true → ∀ i ∈ l, ∃ (o : Oper) (V : Value) (Ai : Act), ops[i]? = some o ∧ ((clsOf P o.op = 0 ∧ Sil P (execOp Ai.eval o) V) ∨ (clsOf P o.op = 1 ∧ RdS P (execOp Ai.eval o) σ V)) ∧ (∀ t, o.dst = some t → V = A.tmps.getD t undef ∧ t < a.tmps.size ∧ ∀ j ∈ r, dstAt ops j ≠ some t) ∧ ∀ t, .tmp t ∈ o.op.operands → Ai.tmps.getD t undef = A.tmps.getD t undef ∧ ∀ j ∈ r, dstAt ops j ≠ some t := by
  intro l
  induction l with
  | nil => intro r a A _ _ i hi; cases hi
  | cons x l ih =>
    intro r a A h hf i hi
    obtain ⟨o, V, ho, hc, hd, h⟩ := h
    obtain ⟨f1, f2, f3⟩ := freshB_cons (r := l ++ r) hf
    rcases List.mem_cons.1 hi with rfl | hi
    · refine ⟨o, V, a, ho, hc, fun t ht => ⟨?_, hd t ht, fun j hj => f2 t (by simpa only [dstAt, ho] using ht) j (List.mem_append_right _ hj)⟩, fun t ht => ⟨?_, fun j hj => f1 o ho t ht j (List.mem_cons_of_mem _ (List.mem_append_right _ hj))⟩⟩
      · rw [h.keep fun j hj => f2 t (by simpa only [dstAt, ho] using ht) j (List.mem_append_left _ hj)]
        rw [ht, put_same (hd t ht)]
      · rw [h.keep fun j hj => f1 o ho t ht j (List.mem_cons_of_mem _ (List.mem_append_left _ hj))]
        refine (put_get ?_).symm
        have := f1 o ho t ht i (List.mem_cons_self ..)
        simpa only [dstAt, ho] using this
    · obtain ⟨o', V', Ai, q1, q2, q3, q4⟩ := ih h f3 i hi
      exact ⟨o', V', Ai, q1, q2, fun t ht => ⟨(q3 t ht).1, by rw [← put_size (a := a) (d := o.dst) (V := V)]; exact (q3 t ht).2.1, (q3 t ht).2.2⟩, q4⟩
theorem cl01_some {ops : Array Oper} {i : Nat} (h : cl01 P ops i = true) : ∃ o, ops[i]? = some o ∧ (clsOf P o.op = 0 ∨ clsOf P o.op = 1) := by
  unfold cl01 at h
  split at h
  · rename_i o ho
    split at h
    · rename_i hc; exact ⟨o, ho, .inl hc⟩
    · rename_i hc; exact ⟨o, ho, .inr hc⟩
    · cases h
  · cases h
/-- an operation without a guard, run -/
theorem layR_one (hF : FNo F) (hH : HkOk P hk fx) {ops : Array Oper} {k : PC} {S : Stk} {ρ0 : Rm} (hL : ρ0.lo = LO P gN.g mt hk fx) {i : Nat} {l : List Nat} {n : Nat} {a : Act} {σ : H} (hC : ∀ m, m < n → CallsOk P T F gN.g mt hk fx m) (hgd : ∀ o, ops[i]? = some o → o.guard = none) (h : Run T F gN n ρ0 (layR P gN mt hk ops.toList (i :: l) k) S a σ) :
    ∃ o, ops[i]? = some o ∧ plainOp o.op = true ∧ dstOk gN.N o.dst = true ∧ gN.N ≤ a.tmps.size ∧ StepOk P T F gN n ρ0 false (layR P gN mt hk ops.toList l k) S a o σ := by
  obtain ⟨m, ρ, e, h', q1, q2, N, R, hg⟩ := h
  simp only [layR] at hg
  split at hg
  · rename_i o ho
    have ho' := toList_get ho
    obtain ⟨hpl, hd, hst⟩ := layG_step (ops := ops) hF hH (fun m' hm' => hC m' (by omega)) N R (q2.lo.trans hL) hg
    have hwd : Region.wanted o (yielded ops a.tmps) = true := by simp [Region.wanted, hgd o ho']
    rw [if_pos hwd] at hst
    exact ⟨o, ho', hpl, hd, N.N, hst.mono q1 q2⟩
  · exact (no_false hF hg).elim
theorem dst_lt {N : Nat} {a : Act} {d : Option Nat} (h : dstOk N d = true) (hN : N ≤ a.tmps.size) : ∀ t, d = some t → t < a.tmps.size := by
  intro t e
  subst e
  exact Nat.lt_of_lt_of_le (blt_lt h) hN
theorem pre_run (hF : FNo F) (hH : HkOk P hk fx) {ops : Array Oper} {k : PC} {S : Stk} {ρ0 : Rm} (hL : ρ0.lo = LO P gN.g mt hk fx) (hgd : ∀ (i : Nat) (o : Oper), ops[i]? = some o → o.guard = none) {r : List Nat} {n : Nat} (hC : ∀ m, m < n → CallsOk P T F gN.g mt hk fx m) {σ : H} : ∀ (l : List Nat) {a : Act}, (∀ i ∈ l, cl01 P ops i = true) → Run T F gN n ρ0 (layR P gN mt hk ops.toList (l ++ r) k) S a σ →
    ∃ A, PreOk P ops σ l a A ∧ Run T F gN n ρ0 (layR P gN mt hk ops.toList r k) S A σ := by
  intro l
  induction l with
  | nil => intro a _ h; exact ⟨a, rfl, h⟩
  | cons i l ih =>
    intro a hl h
    obtain ⟨o, ho, hpl, hd, hN, hst⟩ := layR_one hF hH hL hC (hgd i) h
    obtain ⟨o', ho', hc⟩ := cl01_some (hl i (List.mem_cons_self ..))
    rw [ho] at ho'; cases ho'
    unfold StepOk at hst
    rcases hc with hc | hc
    · rw [hc] at hst
      obtain ⟨V, h1, h2⟩ := hst
      obtain ⟨A, h3, h4⟩ := ih (fun j hj => hl j (List.mem_cons_of_mem _ hj)) h2
      exact ⟨A, ⟨o, V, ho, .inl ⟨hc, h1⟩, dst_lt hd hN, h3⟩, h4⟩
    · rw [hc] at hst
      obtain ⟨V, h1, h2⟩ := hst
      obtain ⟨A, h3, h4⟩ := ih (fun j hj => hl j (List.mem_cons_of_mem _ hj)) h2
      exact ⟨A, ⟨o, V, ho, .inr ⟨hc, h1⟩, dst_lt hd hN, h3⟩, h4⟩
/-- silent operations and readings, as any order wants them -/
theorem run01 (hF : FNo F) (hH : HkOk P hk fx) {ops : Array Oper} {k : PC} {S : Stk} {ds : List Deferred} {ρ0 : Rm} (hL : ρ0.lo = LO P gN.g mt hk fx) (hgd : ∀ (i : Nat) (o : Oper), ops[i]? = some o → o.guard = none) {n : Nat} (hC : ∀ m, m < n → CallsOk P T F gN.g mt hk fx m) {σ : H} {cl : Nat → Nat} {A : Nat → Nat → Bool} (hcl : ∀ (i : Nat) (o : Oper), ops[i]? = some o → cl i = clsOf P o.op) : ∀ (l : List Nat) {a : Act} {p : Pq}, (∀ i ∈ l, cl01 P ops i = true) → a.defers = ds → Run T F gN n ρ0 (layR P gN mt hk ops.toList l k) S a σ →
    SRunY P ops cl A (RegX T F gN n ρ0 S ds) p l a (RegK T F gN n ρ0 k S ds) σ := by
  intro l
  induction l with
  | nil => intro a p _ hd h; exact ⟨hd, h⟩
  | cons i l ih =>
    intro a p hl hds h
    obtain ⟨o, ho, hpl, hd, hN, hst⟩ := layR_one hF hH hL hC (hgd i) h
    obtain ⟨o', ho', hc⟩ := cl01_some (hl i (List.mem_cons_self ..))
    rw [ho] at ho'; cases ho'
    have hwd : Region.wanted o (yielded ops a.tmps) = true := by simp [Region.wanted, hgd i o ho]
    refine ⟨o, ho, hpl, ?_⟩
    rw [if_pos hwd, hcl i o ho]
    unfold StepOk at hst
    rcases hc with hc | hc
    · rw [hc] at hst ⊢
      obtain ⟨V, h1, h2⟩ := hst
      exact ⟨V, h1, ih (fun j hj => hl j (List.mem_cons_of_mem _ hj)) (by rw [put_defers]; exact hds) h2⟩
    · rw [hc] at hst ⊢
      obtain ⟨V, h1, h2⟩ := hst
      exact ⟨V, h1, ih (fun j hj => hl j (List.mem_cons_of_mem _ hj)) (by rw [put_defers]; exact hds) h2⟩
end
end Go.Ev

namespace Go.Ev
open Go Go.HL
section
variable {P : Program} {T : Nat → PC} {F : Go} {gN : Cx} {mt : String → Nat → Nat} {hk : Nat → Option (Nat × Nat)} {fx : Nat → Option Obj}
def kvE (e : MapEntry) : Value × Value := (e.key, e.val)
theorem exists_map : ∀ (l : List (Value × Value)), (l.map Prod.fst).Nodup → ∃ (E : Array MapEntry) (c : Nat), (E.toList.map kvE).Perm l ∧ MapKept.Stamped E c := by
  intro l
  induction l with
  | nil => intro _; exact ⟨#[], 0, List.Perm.refl _, MapKept.stamped_empty _⟩
  | cons x l ih =>
    obtain ⟨k, v⟩ := x
    intro h
    rw [List.map_cons] at h
    obtain ⟨h1, h2⟩ := List.nodup_cons.1 h
    obtain ⟨E, c, hp, hs⟩ := ih h2
    refine ⟨E.push { key := k, val := v, born := c }, c + 1, ?_, MapKept.stamped_push hs fun e he hk => ?_⟩
    · rw [Array.toList_push, List.map_append]
      exact (List.perm_append_comm).trans (List.Perm.cons _ hp)
    · refine h1 ?_
      have : kvE e ∈ l := hp.mem_iff.1 (List.mem_map.2 ⟨e, he, rfl⟩)
      exact List.mem_map.2 ⟨_, this, hk⟩
theorem put_put (σ : H) (b : Nat) (o o' : Obj) : (σ.put b o).put b o' = σ.put b o' := by
  funext c
  by_cases e : c = b
  · subst e; rw [H.put_same, H.put_same]
  · rw [H.put_other _ _ e, H.put_other _ _ e, H.put_other _ _ e]
theorem mu_eval {ρ : Rm} {e : Env} {a : Act} {h : Hp} {K : Kv} {po : PO} (N : Kn gN ρ e a) {t kt et : TypeId} {c : Nat} {m k v : Operand} (hu : P.underlying t = some (.map kt et)) (hc : ktOf P kt = some c) (ho : opOf P gN (.insert t m k v) = some po) (hk : Ev.hop po e h K = true)
    {b aa c' : Nat} (hm : a.eval m = .map (some b)) (hB : ∀ x, ρ.B x 0 = some b → x = aa) {es : List (SV × SV)} {l : List (Value × Value)} (hget : h.get aa = .map c' es) (hl : entsV ρ es = some l) (hK : ∀ p ∈ l, KOk c' p.1) (hd : (l.map Prod.fst).Nodup) :
    KOk c' (a.eval k) ∧ ∃ es' l', entsV ρ es' = some l' ∧ l'.Perm ((a.eval k, a.eval v) :: oth (a.eval k) l) ∧ aa < 160000 ∧ K und (h.set aa (.map c' es')) = true := by
  simp only [opOf, hu, hc] at ho
  obtain ⟨s1, s2, s3, h1, h2, h3, rfl⟩ := g3_some ho
  obtain ⟨y1, e1, e2, k1⟩ := src_true N h1 hk
  obtain ⟨a1, rfl, k2⟩ := asM_true k1
  obtain ⟨y2, e3, e4, k3⟩ := src_true N h2 k2
  obtain ⟨y3, e5, e6, k4⟩ := src_true N h3 k3
  obtain ⟨ha, k5⟩ := hg_true k4
  have hba : ρ.B a1 0 = some b := by
    simp only [val] at e1
    split at e1
    · rename_i b' hb'
      rw [hm] at e1
      cases e1; exact hb'
    · cases e1
  have := hB a1 hba
  subst this
  rw [hget] at k5
  obtain ⟨q1, k6⟩ := yes_true k5
  have q1 := Nat.eq_of_beq_eq_true q1
  subst q1
  have hX := keq_kok e3 k6
  obtain ⟨_, _, _, k7⟩ := keq_true e3 e3 k6
  refine ⟨hX, ?_⟩
  have key : ∃ es' l', entsV ρ es' = some l' ∧ l'.Perm ((a.eval k, a.eval v) :: oth (a.eval k) l) ∧ Ev.hs a1 h (.map c es') (fun h => K und h) = true := by
    rcases kup_true e3 e5 hX hl hK k7 with ⟨q1, L, q2⟩ | ⟨l1, u, l2, es', q1, q2, q3⟩
    · refine ⟨(y2, y3) :: es, (a.eval k, a.eval v) :: l, by simp only [entsV, e3, e5, hl], ?_, q2⟩
      rw [oth_none q1]
    · refine ⟨es', _, q2, ?_, q3⟩
      rw [q1, oth_split (by rw [← q1]; exact hd)]
      exact List.perm_middle
  obtain ⟨es', l', w1, w2, w3⟩ := key
  obtain ⟨_, w4⟩ := hs_true w3
  exact ⟨es', l', w1, w2, ha, w4⟩
theorem keyB_ok {c : Nat} {x : Operand} (h : keyB c x = true) (A : Act) : KOk c (A.eval x) := by
  unfold keyB at h
  split at h
  · have := Nat.eq_of_beq_eq_true h; subst this; exact ⟨_, rfl⟩
  · have := Nat.eq_of_beq_eq_true h; subst this; exact ⟨_, rfl⟩
  · have := Nat.le_of_ble_eq_true h
    obtain ⟨c, rfl⟩ : ∃ d, c = d + 2 := ⟨c - 2, by omega⟩
    exact ⟨_, rfl⟩
  · cases h
theorem keyB_const {c : Nat} {x : Operand} (h : keyB c x = true) : ∃ v, x = .const v := by
  unfold keyB at h
  split at h
  · exact ⟨_, rfl⟩
  · exact ⟨_, rfl⟩
  · exact ⟨_, rfl⟩
  · cases h
def kvOf (ops : Array Oper) (A : Act) (i : Nat) : Value × Value := match ops[i]? with
  | some o => match o.op with
    | .insert _ _ k v => (A.eval k, A.eval v)
    | _ => (undef, undef)
  | none => (undef, undef)
theorem insAt_some {ops : Array Oper} {dm t0 i : Nat} (h : insAt P ops dm t0 i = true) : ∃ o k v kt et c, ops[i]? = some o ∧ o.op = .insert t0 (.tmp dm) k v ∧ o.dst = none ∧ P.underlying t0 = some (.map kt et) ∧ ktOf P kt = some c ∧ keyB c k = true ∧ ∀ A, kvOf ops A i = (A.eval k, A.eval v) := by
  unfold insAt at h
  split at h
  · rename_i o ho
    split at h
    · rename_i t d k v hop hd
      simp only [Bool.and_eq_true] at h
      obtain ⟨⟨h1, h2⟩, h⟩ := h
      have := Nat.eq_of_beq_eq_true h1
      subst this
      have := Nat.eq_of_beq_eq_true h2
      subst this
      split at h
      · rename_i kt et hu
        split at h
        · rename_i c hc
          exact ⟨o, k, v, kt, et, c, ho, hop, hd, hu, hc, h, fun A => by simp only [kvOf, ho, hop]⟩
        · cases h
      · cases h
    · cases h
  · cases h
/-- wherever the map's entries stand -/
def RelAll (ρ : Rm) (h : Hp) (σ : H) (b : Nat) (l : List (Value × Value)) : Prop := ∀ (E : Array MapEntry) (c : Nat), (E.toList.map kvE).Perm l → MapKept.Stamped E c → Rel ρ h (σ.put b (.map E c))
theorem perm_nodup {E : Array MapEntry} {c : Nat} {l : List (Value × Value)} (hp : (E.toList.map kvE).Perm l) (hs : MapKept.Stamped E c) : (l.map Prod.fst).Nodup := by
  have h1 : ((E.toList.map kvE).map Prod.fst).Nodup := by
    rw [List.map_map]
    exact hs.2.2
  exact ((hp.map Prod.fst).nodup_iff).1 h1
theorem ins_eval (hF : FNo F) {ops : Array Oper} {k : PC} {S : Stk} {post : List Nat} {dm t0 : Nat} {ρ : Rm} {e : Env} {A : Act} (N : Kn gN ρ e A) {b aa : Nat} (hdm : A.eval (.tmp dm) = .map (some b)) (hB : ∀ x, ρ.B x 0 = some b → x = aa) (hb : ρ.B aa 0 = some b) {σ : H} {c' : Nat} (hgd : ∀ (i : Nat) (o : Oper), ops[i]? = some o → o.guard = none) :
    ∀ (l : List Nat) {n : Nat} {h : Hp} {es : List (SV × SV)} {L : List (Value × Value)}, (∀ i ∈ l, insAt P ops dm t0 i = true) → ((l.map (kvOf ops A) ++ L).map Prod.fst).Nodup → h.get aa = .map c' es → entsV ρ es = some L → (∀ p ∈ L, KOk c' p.1) → RelAll ρ h σ b L → go T F n (layR P gN mt hk ops.toList (l ++ post) k) e S h = true →
      ∃ n' h' L', n' ≤ n ∧ L'.Perm (l.map (kvOf ops A) ++ L) ∧ RelAll ρ h' σ b L' ∧ go T F n' (layR P gN mt hk ops.toList post k) e S h' = true := by
  intro l
  induction l with
  | nil => intro n h es L _ _ _ _ _ hR hg; exact ⟨n, h, L, Nat.le_refl _, List.Perm.refl _, hR, hg⟩
  | cons i l ih =>
    intro n h es L hl hnd hget hL hK hR hg
    obtain ⟨o, kk, v, kt, et, c, ho, hop, hd, hu, hc, _, hkv⟩ := insAt_some (hl i (List.mem_cons_self ..))
    have hol : ops.toList[i]? = some o := by simpa using ho
    simp only [List.cons_append, layR, hol] at hg
    unfold layG at hg
    rw [hgd i o ho] at hg
    split at hg
    · exact (no_false hF hg).elim
    · unfold layO at hg
      rw [hop] at hg
      simp only at hg
      split at hg
      · rename_i po hpo
        obtain ⟨m, rfl⟩ := fuel_pos hF hg
        rw [hd] at hg
        have hg1 : Ev.hop po e h (fun v h => go T F m (layR P gN mt hk ops.toList (l ++ post) k) e S h) = true := hg
        have hLn : (L.map Prod.fst).Nodup := by
          rw [List.map_append, List.nodup_append] at hnd
          exact hnd.2.1
        obtain ⟨hX, es', L', w1, w2, ha, w3⟩ := mu_eval N hu hc hpo hg1 hdm hB hget hL hK hLn
        have hfresh : ∀ p ∈ L, p.1 ≠ A.eval kk := by
          intro p hp hpe
          rw [List.map_cons, List.cons_append, List.map_cons] at hnd
          refine (List.nodup_cons.1 hnd).1 ?_
          rw [hkv A]
          exact List.mem_map.2 ⟨p, List.mem_append_right _ hp, hpe⟩
        rw [oth_none hfresh] at w2
        have hK' : ∀ p ∈ L', KOk c' p.1 := by
          intro p hp
          rcases List.mem_cons.1 (w2.mem_iff.1 hp) with rfl | hp
          · exact hX
          · exact hK p hp
        have hp1 : (l.map (kvOf ops A) ++ L').Perm ((i :: l).map (kvOf ops A) ++ L) := by
          rw [List.map_cons, List.cons_append, hkv A]
          exact (w2.append_left _).trans List.perm_middle
        have hnd' : ((l.map (kvOf ops A) ++ L').map Prod.fst).Nodup := ((hp1.map Prod.fst).nodup_iff).2 hnd
        have hR' : RelAll ρ (h.set aa (.map c' es')) σ b L' := by
          intro E cc hE hs
          obtain ⟨E0, c0, hE0, hs0⟩ := exists_map L hLn
          have R0 := hR E0 c0 hE0 hs0
          have := R0.set (s := .map c' es') ha hb (o := .map E cc) ⟨b, L', E.toList.map kvE, hb, w1, hK', perm_nodup hE hs, hE, E, cc, H.put_same _ _ _, rfl, hs⟩
          rw [put_put] at this
          exact this
        obtain ⟨n', h', L'', q1, q2, q3, q4⟩ := ih (fun j hj => hl j (List.mem_cons_of_mem _ hj)) hnd' (Hp.get_set_same _ _ _) w1 hK' hR' w3
        exact ⟨n', h', L'', by omega, q2.trans hp1, q3, q4⟩
      · exact (no_false hF hg).elim
    · rename_i j w hh hgu; cases hgu
theorem mmAt_some {ops : Array Oper} {dm i : Nat} (h : mmAt ops dm i = true) : ∃ o t, ops[i]? = some o ∧ o.op = .makeMap t none ∧ o.dst = some dm := by
  unfold mmAt at h
  split at h
  · rename_i o ho
    split at h
    · rename_i t d hop hd
      have := Nat.eq_of_beq_eq_true h
      subst this
      exact ⟨o, t, ho, hop, hd⟩
    · cases h
  · cases h
theorem mm_ins (hF : FNo F) {ops : Array Oper} {k : PC} {S : Stk} {mm : Nat} {ins post : List Nat} {dm t0 : Nat} {ρ0 : Rm} {n : Nat} {A1 : Act} {σ : H} (hgd : ∀ (i : Nat) (o : Oper), ops[i]? = some o → o.guard = none) (hmm : mmAt ops dm mm = true) (hins : ∀ i ∈ ins, insAt P ops dm t0 i = true)
    (h : Run T F gN n ρ0 (layR P gN mt hk ops.toList (mm :: (ins ++ post)) k) S A1 σ) {b : Nat} (hb : σ b = none) (hnd : ((ins.map (kvOf ops (A1.put (some dm) (mapTo b)))).map Prod.fst).Nodup) :
    dm < A1.tmps.size ∧ ∀ (E : Array MapEntry) (c : Nat), (E.toList.map kvE).Perm (ins.map (kvOf ops (A1.put (some dm) (mapTo b)))) → MapKept.Stamped E c → Run T F gN n ρ0 (layR P gN mt hk ops.toList post k) S (A1.put (some dm) (mapTo b)) (σ.put b (.map E c)) := by
  obtain ⟨m, ρ, e, h', q1, q2, N, R, hg⟩ := h
  obtain ⟨o, t, ho, hop, hd⟩ := mmAt_some hmm
  have hol : ops.toList[mm]? = some o := by simpa using ho
  simp only [layR, hol] at hg
  unfold layG at hg
  rw [hgd mm o ho] at hg
  split at hg
  · exact (no_false hF hg).elim
  · rename_i hdp hnn
    obtain ⟨_, hdok⟩ := bAnd_true hdp
    unfold layO at hg
    rw [hop] at hg
    simp only at hg
    split at hg
    · rename_i po hpo
      simp only [opOf] at hpo
      split at hpo
      · rename_i kt et hu
        split at hpo
        · rename_i c' hc
          cases hpo
          obtain ⟨m', rfl⟩ := fuel_pos hF hg
          rw [hd] at hg hdok
          have hg1 : hn h' (.map c' []) (fun a h => put (dstOf (some dm)) e (.m a) fun e => go T F m' (layR P gN mt hk ops.toList (ins ++ post) k) e S h) = true := hg
          obtain ⟨hnx, hg2⟩ := hn_true hg1
          rw [put_eq] at hg2
          have hle := R.add_le 0 b 0
          have hbB : (ρ.add h'.nx 0 b 0).B h'.nx 0 = some b := Rm.add_B _ _ _ _ _ (Nat.le_refl _)
          have hv : val (ρ.add h'.nx 0 b 0) (.m h'.nx) = some (mapTo b) := by
            simp only [val, hbB]; rfl
          have N1 : Kn gN (ρ.add h'.nx 0 b 0) (putE (some dm) e (.m h'.nx)) (A1.put (some dm) (mapTo b)) := (N.le hle).put hdok hv
          have hdlt : dm < A1.tmps.size := Nat.lt_of_lt_of_le (blt_lt hdok) N.N
          have hev : (A1.put (some dm) (mapTo b)).eval (.tmp dm) = .map (some b) := by
            rw [eval_tmp, put_same hdlt]; rfl
          have hBu : ∀ x, (ρ.add h'.nx 0 b 0).B x 0 = some b → x = h'.nx := by
            intro x hx
            simp only [Rm.add] at hx
            split at hx
            · rename_i q; exact q.1
            · obtain ⟨o', ho'⟩ := R.dom x 0 b hx
              rw [hb] at ho'; cases ho'
          have hRA : RelAll (ρ.add h'.nx 0 b 0) (h'.new (.map c' [])) σ b [] := by
            intro E c hE hs
            have : E.toList.map kvE = [] := hE.eq_nil
            exact R.new hnx hb 0 0 ⟨b, [], [], hbB, rfl, (fun p hp => by cases hp), List.nodup_nil, List.Perm.refl _, E, c, H.put_same _ _ _, this, hs⟩
          obtain ⟨n', h2, L', w1, w2, w3, w4⟩ := ins_eval (P := P) (c' := c') hF N1 hev hBu hbB hgd ins hins (by rw [List.append_nil]; exact hnd) (Hp.get_new_same _ _) rfl (fun p hp => by cases hp) hRA hg2
          rw [List.append_nil] at w2
          exact ⟨hdlt, fun E c hE hs => ⟨n', _, _, h2, by omega, q2.trans hle, N1, w3 E c (hE.trans w2.symm) hs, w4⟩⟩
        · cases hpo
      · cases hpo
    · exact (no_false hF hg).elim
  · rename_i hgu; cases hgu
end
end Go.Ev

namespace Go.Ev
open Go Go.HL
theorem nodup_of_map {α β : Type} (f : α → β) : ∀ {l : List α}, (l.map f).Nodup → l.Nodup := by
  intro l
  induction l with
  | nil => intro _; exact List.nodup_nil
  | cons x l ih =>
    intro h
    rw [List.map_cons] at h
    obtain ⟨h1, h2⟩ := List.nodup_cons.1 h
    exact List.nodup_cons.2 ⟨fun hm => h1 (List.mem_map.2 ⟨x, hm, rfl⟩), ih h2⟩
structure LitOk (P : Program) (ops : Array Oper) (AL : List (List Nat)) (pre : List Nat) (mm : Nat) (ins post : List Nat) (dm t0 : Nat) : Prop where
  all : ∀ i, i < ops.size → i ∈ pre ++ mm :: (ins ++ post)
  lt : ∀ i ∈ pre ++ mm :: (ins ++ post), i < ops.size
  nd : (pre ++ mm :: (ins ++ post)).Nodup
  lin : linOk ops [] (pre ++ mm :: (ins ++ post)) = true
  gd : ∀ i ∈ pre ++ mm :: (ins ++ post), plainB ops i = true
  fresh : freshB ops (pre ++ mm :: (ins ++ post)) = true
  look : ∀ i ∈ pre ++ mm :: ins, lookB ops (pre ++ mm :: (ins ++ post)) i = true
  pre1 : ∀ i ∈ pre, cl01 P ops i = true
  post1 : ∀ i ∈ post, cl01 P ops i = true
  mm1 : mmAt ops dm mm = true
  ins1 : ∀ i ∈ ins, insAt P ops dm t0 i = true
  insm : ∀ i ∈ ins, mm ∈ preds ops i
  ne : ins ≠ []
  keys : (ins.map (keyZ ops)).Nodup
  postp : ∀ x ∈ post, (∀ j ∈ ins, j ∈ preds ops x) ∨ ∃ z ∈ preds ops x, z ∈ post
  anc : ancOk ops AL = true
  pair : pairOkY ops (clL P ops) (ancOf AL) (pre ++ post) = true
section
variable {P : Program} {T : Nat → PC} {F : Go} {gN : Cx} {mt : String → Nat → Nat} {hk : Nat → Option (Nat × Nat)} {fx : Nat → Option Obj}
variable {ops : Array Oper} {AL : List (List Nat)} {pre ins post : List Nat} {mm dm t0 : Nat}
theorem LitOk.plain (L : LitOk P ops AL pre mm ins post dm t0) : ∀ (i : Nat) (o : Oper), ops[i]? = some o → o.guard = none ∧ plainOp o.op = true := by
  intro i o ho
  have hlt : i < ops.size := (Array.getElem?_eq_some_iff.1 ho).1
  have := L.gd i (L.all i hlt)
  simp only [plainB, ho, Bool.and_eq_true, Option.isNone_iff_eq_none] at this
  exact this
theorem LitOk.looks (L : LitOk P ops AL pre mm ins post dm t0) {i : Nat} (hi : i ∈ pre ++ mm :: ins) {o : Oper} (ho : ops[i]? = some o) {t : Nat} (ht : .tmp t ∈ o.op.operands) : (∃ j ∈ preds ops i, dstAt ops j = some t) ∨ ∀ j ∈ pre ++ mm :: (ins ++ post), dstAt ops j ≠ some t := by
  have := L.look i hi
  simp only [lookB, ho] at this
  have := List.all_eq_true.1 this (.tmp t) (by simpa using ht)
  simp only [Bool.or_eq_true] at this
  rcases this with h | h
  · obtain ⟨j, hj, he⟩ := List.any_eq_true.1 h
    exact .inl ⟨j, hj, by simpa using he⟩
  · right
    intro j hj e
    have := List.all_eq_true.1 h j hj
    rw [e] at this; simp at this
theorem LitOk.dm1 (L : LitOk P ops AL pre mm ins post dm t0) : dstAt ops mm = some dm := by
  obtain ⟨o, t, ho, _, hd⟩ := mmAt_some L.mm1
  simp only [dstAt, ho, hd]
theorem LitOk.ins0 (L : LitOk P ops AL pre mm ins post dm t0) {i : Nat} (hi : i ∈ ins) : dstAt ops i = none := by
  obtain ⟨o, k, v, kt, et, c, ho, _, hd, _⟩ := insAt_some (L.ins1 i hi)
  simp only [dstAt, ho, hd]
theorem LitOk.kvnd (L : LitOk P ops AL pre mm ins post dm t0) (A : Act) : ((ins.map (kvOf ops A)).map Prod.fst).Nodup := by
  refine nodup_of_map vZ ?_
  have : ((ins.map (kvOf ops A)).map Prod.fst).map vZ = ins.map (keyZ ops) := by
    rw [List.map_map, List.map_map]
    refine List.map_congr_left fun i hi => ?_
    obtain ⟨o, k, v, kt, et, c, ho, hop, hd, hu, hc, hkb, hkv⟩ := insAt_some (L.ins1 i hi)
    obtain ⟨x, rfl⟩ := keyB_const hkb
    simp only [Function.comp, hkv A, keyZ, ho, hop]
    rfl
  rw [this]; exact L.keys
theorem LitOk.front (L : LitOk P ops AL pre mm ins post dm t0) : ∀ p x r, pre ++ mm :: (ins ++ post) = p ++ x :: r → ∀ z ∈ preds ops x, z ∈ p := by
  intro p x r h z hz
  rcases linOk_front _ [] L.lin p x r h z hz with h1 | h1
  · cases h1
  · exact h1
/-- what is left, in its order, waits for what is done or stands ahead -/
theorem front_filter {π : List Nat} {q : Nat → Bool} {f : Nat → List Nat} (hf : ∀ p x r, π = p ++ x :: r → ∀ z ∈ f x, z ∈ p) {p r : List Nat} {x : Nat} (h : π.filter q = p ++ x :: r) : ∀ z ∈ f x, q z = false ∨ z ∈ p := by
  intro z hz
  obtain ⟨l1, l2, rfl, h1, h2⟩ := List.filter_eq_append_iff.1 h
  obtain ⟨l3, l4, rfl, h3, h4, h5⟩ := List.filter_eq_cons_iff.1 h2
  have := hf (l1 ++ l3) x l4 (by simp) z hz
  rcases List.mem_append.1 this with h6 | h6
  · cases hq : q z with
    | false => exact .inl rfl
    | true => exact .inr (by rw [← h1]; exact List.mem_filter.2 ⟨h6, hq⟩)
  · left
    have := h3 z h6
    simpa using this
/-- how far the region is -/
def StL (ops : Array Oper) (mm : Nat) (ins : List Nat) (dm : Nat) (a A1 : Act) (σ : H) (listed : Array Bool) (a' : Act) (σ' : H) : Prop :=
  (listed.getD mm false = false ∧ σ' = σ ∧ Agr ops (fun i => listed.getD i false = true) a A1 a') ∨
  (listed.getD mm false = true ∧ ∃ b E c, σ b = none ∧ σ' = σ.put b (.map E c) ∧ MapKept.Stamped E c ∧ (E.toList.map kvE).Perm ((ins.filter fun i => listed.getD i false).map (kvOf ops (A1.put (some dm) (mapTo b)))) ∧ Agr ops (fun i => listed.getD i false = true) a (A1.put (some dm) (mapTo b)) a')
theorem le_of_put {σ : H} {b : Nat} {o : Obj} {w : World} (hb : σ b = none) (h : (σ.put b o).le w) : σ.le w := by
  intro c oc hc
  refine h c oc ?_
  rw [H.put_other]
  · exact hc
  · intro e; subst e; rw [hb] at hc; cases hc
theorem act_ext {a b : Act} (h1 : a.tmps.size = b.tmps.size) (h2 : ∀ t, a.tmps.getD t undef = b.tmps.getD t undef) (h3 : a.defers = b.defers) : a = b := by
  obtain ⟨ta, da⟩ := a
  obtain ⟨tb, db⟩ := b
  simp only at h1 h2 h3
  subst h3
  congr 1
  apply Array.ext h1
  intro i hi hi'
  have := h2 i
  simp only [Array.getD_eq_getD_getElem?, Array.getElem?_eq_getElem hi, Array.getElem?_eq_getElem hi', Option.getD_some] at this
  exact this
/-- an operation of the first part, done in whatever order -/
theorem pre_step (L : LitOk P ops AL pre mm ins post dm t0) {σ : H} {a A1 A a'' : Act} (hpre : PreOk P ops σ pre a A1) {D : Nat → Prop} (hD : ∀ j, D j → j ∈ pre ++ mm :: (ins ++ post)) (hA : ∀ t, t ≠ dm → A.tmps.getD t undef = A1.tmps.getD t undef) (hag : Agr ops D a A a'') {i : Nat} (hi : i ∈ pre) (hp : ∀ z ∈ preds ops i, D z) :
    ∃ (o : Oper) (V : Value), ops[i]? = some o ∧ ((clsOf P o.op = 0 ∧ Sil P (execOp a''.eval o) V) ∨ (clsOf P o.op = 1 ∧ RdS P (execOp a''.eval o) σ V)) ∧ ∀ t, o.dst = some t → V = A.tmps.getD t undef ∧ t < a.tmps.size := by
  obtain ⟨o, V, Ai, ho, hc, hd, hl⟩ := pre_val hpre L.fresh i hi
  have hne : ∀ {t : Nat}, (∀ j ∈ mm :: (ins ++ post), dstAt ops j ≠ some t) → t ≠ dm := by
    intro t h e
    subst e
    exact h mm (List.mem_cons_self ..) L.dm1
  have hev : execOp Ai.eval o = execOp a''.eval o := by
    refine exec_same (L.plain i o ho).2 fun t ht => ?_
    obtain ⟨h1, h2⟩ := hl t ht
    rw [h1, ← hA t (hne h2)]
    rcases L.looks (List.mem_append_left _ hi) ho ht with ⟨j, hj, he⟩ | h3
    · exact (hag.done t j (hp j hj) he).symm
    · rw [hag.rest t fun j hj => h3 j (hD j hj), hA t (hne h2)]
      exact hpre.keep fun j hj => h3 j (List.mem_append_left _ hj)
  rw [hev] at hc
  exact ⟨o, V, ho, hc, fun t ht => ⟨(hd t ht).1.trans (hA t (hne (hd t ht).2.2)).symm, (hd t ht).2.1⟩⟩
theorem dstAt_of {i : Nat} {o : Oper} (ho : ops[i]? = some o) : dstAt ops i = o.dst := by simp only [dstAt, ho]
/-- the rest, when the map is full -/
theorem lit_rest (L : LitOk P ops AL pre mm ins post dm t0) (hF : FNo F) (hH : HkOk P hk fx) {k : PC} {S : Stk} {ds : List Deferred} {ρ0 : Rm} (hL : ρ0.lo = LO P gN.g mt hk fx) {n : Nat} (hC : ∀ m, m < n → CallsOk P T F gN.g mt hk fx m) {σ : H} {a A1 : Act} (hds : a.defers = ds) (hpre : PreOk P ops σ pre a A1) {b : Nat} (hb : σ b = none) {o' : Obj} (hdm : dm < A1.tmps.size)
    (hrun : Run T F gN n ρ0 (layR P gN mt hk ops.toList post k) S (A1.put (some dm) (mapTo b)) (σ.put b o')) :
    ∀ (l : List Nat) {D : Nat → Prop} {a'' : Act} {p : Pq}, (∀ j, D j → j ∈ pre ++ mm :: (ins ++ post)) → (∀ i ∈ l, i ∈ pre) → (∀ p' x r, l = p' ++ x :: r → ∀ z ∈ preds ops x, D z ∨ z ∈ p') → (∀ i ∈ pre ++ mm :: ins, D i ∨ i ∈ l) → (∀ i ∈ post, ¬ D i) → Agr ops D a (A1.put (some dm) (mapTo b)) a'' →
      SRunY P ops (clL P ops) (ancOf AL) (RegX T F gN n ρ0 S ds) p (l ++ post) a'' (RegK T F gN n ρ0 k S ds) (σ.put b o') := by
  have hA : ∀ t, t ≠ dm → (A1.put (some dm) (mapTo b)).tmps.getD t undef = A1.tmps.getD t undef := fun t ht => put_get (by intro e; cases e; exact ht rfl)
  intro l
  induction l with
  | nil =>
    intro D a'' p hD _ _ hall hpo hag
    obtain ⟨hsz, hdf⟩ := hpre.size
    have : a'' = A1.put (some dm) (mapTo b) := by
      refine act_ext (by rw [hag.size, put_size, hsz]) (fun t => ?_) (by rw [hag.defers, put_defers, hdf])
      by_cases hex : ∃ i, D i ∧ dstAt ops i = some t
      · obtain ⟨i, h1, h2⟩ := hex
        exact hag.done t i h1 h2
      · have hno : ∀ i, D i → dstAt ops i ≠ some t := fun i hi e => hex ⟨i, hi, e⟩
        have hallD : ∀ i ∈ pre ++ mm :: ins, D i := fun i hi => (hall i hi).resolve_right (by simp)
        rw [hag.rest t hno, hA t (fun e => hno mm (hallD mm (by simp)) (by rw [L.dm1, e]))]
        exact (hpre.keep fun j hj => hno j (hallD j (List.mem_append_left _ hj))).symm
    subst this
    exact run01 hF hH hL (fun i o ho => (L.plain i o ho).1) hC (fun i o ho => by simp only [clL, ho]) post L.post1 (by rw [put_defers, hdf]; exact hds) hrun
  | cons i l ih =>
    intro D a'' p hD hl hfr hall hpo hag
    obtain ⟨o, V, ho, hc, hd⟩ := pre_step L hpre hD hA hag (hl i (List.mem_cons_self ..)) (fun z hz => (hfr [] i l rfl z hz).resolve_right (by simp))
    have hwd : Region.wanted o (yielded ops a''.tmps) = true := by simp [Region.wanted, (L.plain i o ho).1]
    have tail : ∀ {p' : Pq}, SRunY P ops (clL P ops) (ancOf AL) (RegX T F gN n ρ0 S ds) p' (l ++ post) (a''.put o.dst V) (RegK T F gN n ρ0 k S ds) (σ.put b o') := by
      intro p'
      have hin := hl i (List.mem_cons_self ..)
      refine ih (D := fun j => D j ∨ j = i) (fun j hj => ?_) (fun j hj => hl j (List.mem_cons_of_mem _ hj)) (fun p'' x r hx z hz => ?_) (fun j hj => ?_) (fun j hj hDj => ?_) ?_
      · rcases hj with h1 | h1
        · exact hD j h1
        · subst h1; exact List.mem_append_left _ hin
      · rcases hfr (i :: p'') x r (by rw [hx]; rfl) z hz with h1 | h1
        · exact .inl (.inl h1)
        · rcases List.mem_cons.1 h1 with h2 | h2
          · exact .inl (.inr h2)
          · exact .inr h2
      · rcases hall j hj with h1 | h1
        · exact .inl (.inl h1)
        · rcases List.mem_cons.1 h1 with h2 | h2
          · exact .inl (.inr h2)
          · exact .inr h2
      · rcases hDj with h1 | h1
        · exact hpo j hj h1
        · subst h1
          have := L.nd
          rw [List.nodup_append] at this
          exact this.2.2 j hin j (List.mem_cons_of_mem _ (List.mem_append_right _ hj)) rfl
      · have := hag.step (D' := fun j => D j ∨ j = i) (i := i) (V := V) (fun j => Iff.rfl) (fun t ht => hd t (by rw [← dstAt_of ho]; exact ht))
        rw [dstAt_of ho] at this
        exact this
    refine ⟨o, ho, (L.plain i o ho).2, ?_⟩
    rw [if_pos hwd]
    have hcl : clL P ops i = clsOf P o.op := by simp only [clL, ho]
    rw [hcl]
    rcases hc with ⟨hc, h1⟩ | ⟨hc, h1⟩
    · rw [hc]; exact ⟨V, h1, tail⟩
    · rw [hc]
      exact ⟨V, fun w hw => h1 w (le_of_put hb hw), tail⟩
end
end Go.Ev

namespace Go.Ev
open Go Go.HL
theorem filter_dec {q q' : Nat → Bool} (h : ∀ j, q' j = true → q j = true) {i : Nat} (hi : q i = true) (hi' : q' i = false) : ∀ {l : List Nat}, i ∈ l → (l.filter q').length < (l.filter q).length := by
  have le : ∀ l : List Nat, (l.filter q').length ≤ (l.filter q).length := by
    intro l
    induction l with
    | nil => exact Nat.le_refl _
    | cons x l ih =>
      rw [List.filter_cons, List.filter_cons]
      cases hx : q' x with
      | true => rw [h x hx]; simpa using ih
      | false => cases q x <;> simp <;> omega
  intro l
  induction l with
  | nil => intro h; cases h
  | cons x l ih =>
    intro hm
    rw [List.filter_cons, List.filter_cons]
    by_cases hx : x = i
    · subst hx
      rw [hi, hi']
      have := le l
      simp; omega
    · have := ih ((List.mem_cons.1 hm).resolve_left (Ne.symm hx))
      cases hq : q' x with
      | true => rw [h x hq]; simpa using this
      | false => cases q x <;> simp <;> omega
theorem setB_get {listed : Array Bool} {i j : Nat} {d : Bool} (hi : i < listed.size) : (listed.setIfInBounds i true).getD j d = if j = i then true else listed.getD j d := by
  by_cases hj : j = i
  · subst hj; simp [hi]
  · simp [hj, Ne.symm hj]
section
variable {P : Program} {T : Nat → PC} {F : Go} {gN : Cx} {mt : String → Nat → Nat} {hk : Nat → Option (Nat × Nat)} {fx : Nat → Option Obj}
variable {ops : Array Oper} {AL : List (List Nat)} {pre ins post : List Nat} {mm dm t0 : Nat}
theorem nodup_len {n : Nat} : ∀ {l : List Nat}, l.Nodup → (∀ i ∈ l, i < n) → l.length ≤ n := by
  induction n with
  | zero => intro l _ hl; cases l with
    | nil => exact Nat.le_refl _
    | cons x l => exact absurd (hl x (List.mem_cons_self ..)) (Nat.not_lt_zero _)
  | succ n ih =>
    intro l hn hl
    have h2 := ih (l := l.erase n) (hn.erase n) fun i hi => by
      obtain ⟨h3, h4⟩ := hn.mem_erase_iff.1 hi
      have := hl i h4
      omega
    have := List.length_erase (a := n) (l := l)
    split at this <;> omega
theorem dst_one (L : LitOk P ops AL pre mm ins post dm t0) {j : Nat} (hj : dstAt ops j = some dm) (hm : j ∈ pre ++ mm :: (ins ++ post)) : j = mm := by
  have key : ∀ {l : List Nat} {i j : Nat}, freshB ops l = true → i ∈ l → j ∈ l → dstAt ops i = some dm → dstAt ops j = some dm → i = j := by
    intro l
    induction l with
    | nil => intro i j _ h; cases h
    | cons x l ih =>
      intro i j hf hi hj h1 h2
      obtain ⟨_, f2, f3⟩ := freshB_cons hf
      rcases List.mem_cons.1 hi with hi1 | hi1
      · subst hi1
        rcases List.mem_cons.1 hj with hj1 | hj1
        · exact hj1.symm
        · exact absurd h2 (f2 dm h1 j hj1)
      · rcases List.mem_cons.1 hj with hj1 | hj1
        · subst hj1; exact absurd h1 (f2 dm h2 i hi1)
        · exact ih f3 hi1 hj1 h1 h2
  exact key L.fresh hm (by simp) hj L.dm1
theorem map_inj_nodup {α β γ : Type} {f : α → β} {g : β → γ} : ∀ {l : List α}, ((l.map f).map g).Nodup → ∀ {i j : α}, i ∈ l → j ∈ l → g (f i) = g (f j) → i = j := by
  intro l
  induction l with
  | nil => intro _ i j h; cases h
  | cons x l ih =>
    intro h i j hi hj e
    rw [List.map_cons, List.map_cons] at h
    obtain ⟨h1, h2⟩ := List.nodup_cons.1 h
    rcases List.mem_cons.1 hi with hi1 | hi1
    · rcases List.mem_cons.1 hj with hj1 | hj1
      · rw [hi1, hj1]
      · subst hi1; exact absurd (List.mem_map.2 ⟨f j, List.mem_map.2 ⟨j, hj1, rfl⟩, e.symm⟩) h1
    · rcases List.mem_cons.1 hj with hj1 | hj1
      · subst hj1; exact absurd (List.mem_map.2 ⟨f i, List.mem_map.2 ⟨i, hi1, rfl⟩, e⟩) h1
      · exact ih h2 hi1 hj1 e
theorem al_makeMap {a : Act} {o : Oper} {t : TypeId} (hop : o.op = .makeMap t none) : IsAl P (execOp a.eval o) mapTo (.map #[] 0) := by
  have h : alF P [] (fun ob m _ => ob = Obj.map #[] 0 ∧ m = mapTo) o.op (fun _ => none) := by rw [hop]; exact ⟨rfl, rfl⟩
  obtain ⟨ob, m, hr, rfl, rfl⟩ := alF_sound (N := 0) (a := a) ⟨Nat.zero_le _, fun i v hv => by cases hv⟩ h
  exact hr
theorem lit_any (L : LitOk P ops AL pre mm ins post dm t0) (hF : FNo F) (hH : HkOk P hk fx) {k : PC} {S : Stk} {ds : List Deferred} {ρ0 : Rm} (hL : ρ0.lo = LO P gN.g mt hk fx) {n : Nat} (hC : ∀ m, m < n → CallsOk P T F gN.g mt hk fx m) {σ : H} {w0 : World} {a A1 : Act} (hds : a.defers = ds) (hpre : PreOk P ops σ pre a A1)
    (hB : ∀ b, σ b = none → dm < A1.tmps.size ∧ ∀ (E : Array MapEntry) (c : Nat), (E.toList.map kvE).Perm (ins.map (kvOf ops (A1.put (some dm) (mapTo b)))) → MapKept.Stamped E c → Run T F gN n ρ0 (layR P gN mt hk ops.toList post k) S (A1.put (some dm) (mapTo b)) (σ.put b (.map E c)))
    (hwz : σ.le w0) {ro : Option Nat} {dp : Nat} {Q : Exit → Act → World → Prop} (hX : ∀ v a' σ' w', HL.Ext σ w0 σ' w' → RegX T F gN n ρ0 S ds a' v σ' → Q (.panic (chain1 v)) a' w') (hq : ∀ p' a' σ' w', HL.Ext σ w0 σ' w' → RegK T F gN n ρ0 k S ds p' a' σ' → Q .normal a' w') :
    ∀ (fuel : Nat) (listed : Array Bool) {a' : Act} {σ' : H} {w' : World}, ((pre ++ mm :: (ins ++ post)).filter fun i => !(listed.getD i false)).length ≤ fuel → Cls ops listed → (∀ i ∈ post, listed.getD i false = false) → StL ops mm ins dm a A1 σ listed a' σ' → HL.Ext σ w0 σ' w' → wpAnyIn (FW ro) dp P .any ops Q fuel listed a' w' := by
  have hdm1 : dm < A1.tmps.size := by
    refine (hB w0.heap.size ?_).1
    cases hc : σ w0.heap.size with
    | none => rfl
    | some o => have := hwz.lt hc; omega
  have hA : ∀ b t, t ≠ dm → (A1.put (some dm) (mapTo b)).tmps.getD t undef = A1.tmps.getD t undef := fun b t ht => put_get (by intro e; cases e; exact ht rfl)
  have hAd : ∀ b, (A1.put (some dm) (mapTo b)).tmps.getD dm undef = mapTo b := fun b => put_same hdm1
  obtain ⟨hsz1, hdf1⟩ := hpre.size
  have hpref : ∀ p x r, pre = p ++ x :: r → ∀ z ∈ preds ops x, z ∈ p := by
    intro p x r h z hz
    exact L.front p x (r ++ mm :: (ins ++ post)) (by rw [h]; simp) z hz
  intro fuel
  induction fuel with
  | zero =>
    intro listed a' σ' w' hcount hc hpost hst hx
    -- nothing is left, so no operation of the last part: there is none
    have hnil := List.length_eq_zero_iff.1 (Nat.le_zero.1 hcount)
    have hdone : ∀ i ∈ pre ++ mm :: (ins ++ post), listed.getD i false = true := by
      intro i hi
      have := List.filter_eq_nil_iff.1 hnil i hi
      simpa using this
    have hp0 : post = [] := by
      cases hp : post with
      | nil => rfl
      | cons x r =>
        have h1 := hdone x (by rw [hp]; simp)
        have h2 := hpost x (by rw [hp]; simp)
        rw [h1] at h2; cases h2
    have hmm := hdone mm (by simp)
    rcases hst with ⟨h1, _⟩ | ⟨_, b, E, c, hb, rfl, hs, hE, hag⟩
    · rw [hmm] at h1; cases h1
    · have hfil : (ins.filter fun i => listed.getD i false) = ins := List.filter_eq_self.2 fun i hi => hdone i (by simp [hi])
      rw [hfil] at hE
      have hs1 := lit_rest (p := []) L hF hH hL hC hds hpre hb hdm1 ((hB b hb).2 E c hE hs) [] (D := fun i => listed.getD i false = true) (fun j hj => L.all j (by
        rcases Nat.lt_or_ge j listed.size with h | h
        · rw [hc.size] at h; exact h
        · simp [Nat.not_lt.2 h] at hj)) (fun i hi => by cases hi) (fun p' x r h => by simp at h) (fun i hi => .inl (hdone i (by simp at hi ⊢; rcases hi with h | h | h <;> simp [h]))) (fun i hi h => by rw [hp0] at hi; cases hi) hag
      rw [hp0] at hs1
      refine ⟨?_, hq _ _ _ _ hx hs1⟩
      rw [List.eq_nil_iff_forall_not_mem]
      intro i hi
      rw [ready_iff] at hi
      have h1 := hdone i (L.all i hi.1)
      have hsz : i < listed.size := by rw [hc.size]; exact hi.1
      have h2 := hi.2.1
      simp only [Array.getD, hsz, dite_true] at h1 h2
      rw [h1] at h2; cases h2
  | succ fuel ih =>
    intro listed a' σ' w' hcount hc hpost hst hx
    have hD : ∀ j, listed.getD j false = true → j ∈ pre ++ mm :: (ins ++ post) := by
      intro j hj
      refine L.all j ?_
      rcases Nat.lt_or_ge j listed.size with h | h
      · rw [hc.size] at h; exact h
      · simp [Nat.not_lt.2 h] at hj
    by_cases hall : ∀ i ∈ ins, listed.getD i false = true
    · -- the map is full
      obtain ⟨i0, hi0⟩ : ∃ i, i ∈ ins := by
        cases hi : ins with
        | nil => exact absurd hi L.ne
        | cons x r => exact ⟨x, List.mem_cons_self ..⟩
      have hmm : listed.getD mm false = true := hc.down i0 (hall i0 hi0) mm (L.insm i0 hi0)
      rcases hst with ⟨h1, _⟩ | ⟨_, b, E, c, hb, rfl, hs, hE, hag⟩
      · rw [hmm] at h1; cases h1
      · have hfil : (ins.filter fun i => listed.getD i false) = ins := List.filter_eq_self.2 hall
        rw [hfil] at hE
        have hrem : (pre ++ mm :: (ins ++ post)).filter (fun i => !(listed.getD i false)) = pre.filter (fun i => !(listed.getD i false)) ++ post := by
          rw [List.filter_append, List.filter_cons, List.filter_append, hmm]
          have h1 : ins.filter (fun i => !(listed.getD i false)) = [] := List.filter_eq_nil_iff.2 fun i hi => by rw [hall i hi]; simp
          have h2 : post.filter (fun i => !(listed.getD i false)) = post := List.filter_eq_self.2 fun i hi => by rw [hpost i hi]; rfl
          rw [h1, h2]; simp
        have hsY := lit_rest (p := []) L hF hH hL hC hds hpre hb hdm1 ((hB b hb).2 E c hE hs) (pre.filter fun i => !(listed.getD i false)) (D := fun i => listed.getD i false = true) hD (fun i hi => (List.mem_filter.1 hi).1) (fun p' x r h z hz => by
          rcases front_filter hpref h z hz with h1 | h1
          · exact .inl (by simpa using h1)
          · exact .inr h1) (fun i hi => by
          rcases List.mem_append.1 hi with h1 | h1
          · cases hl : listed.getD i false with
            | true => exact .inl rfl
            | false => exact .inr (List.mem_filter.2 ⟨h1, by simp [hl]⟩)
          · rcases List.mem_cons.1 h1 with rfl | h1
            · exact .inl hmm
            · exact .inl (hall i h1)) (fun i hi h => by rw [hpost i hi] at h; cases h) hag
        rw [hrem] at hcount
        have hmem : ∀ i ∈ pre.filter (fun i => !(listed.getD i false)) ++ post, i ∈ pre ++ mm :: (ins ++ post) ∧ listed.getD i false = false := by
          intro i hi
          rcases List.mem_append.1 hi with h | h
          · obtain ⟨h1, h2⟩ := List.mem_filter.1 h
            exact ⟨List.mem_append_left _ h1, by simpa using h2⟩
          · exact ⟨by simp [h], hpost i h⟩
        refine any_soundY (RegK.pm) L.anc (fuel + 1) _ listed hcount hx.le hsY hc (fun i hi => ?_) (fun i hi => ?_) ?_ (fun p x r h z hz => ?_) ?_ (fun v a₂ σ₂ w₂ he₂ hx₂ => hX v a₂ σ₂ w₂ (hx.trans he₂) hx₂) (fun p₂ a₂ σ₂ w₂ he₂ hk => hq p₂ a₂ σ₂ w₂ (hx.trans he₂) hk)
        · cases hl : listed.getD i false with
          | true => exact .inl rfl
          | false =>
            right
            rw [← hrem]
            exact List.mem_filter.2 ⟨L.all i hi, by simp [hl]⟩
        · obtain ⟨h1, h2⟩ := hmem i hi
          have hlt := L.lt i h1
          refine ⟨hlt, ?_⟩
          have : i < listed.size := by rw [hc.size]; exact hlt
          simpa [this] using h2
        · rw [← hrem]; exact L.nd.filter _
        · rw [← hrem] at h
          rcases front_filter L.front h z hz with h1 | h1
          · exact .inl (by simpa using h1)
          · exact .inr h1
        · exact (pairOkY_pairwise _ L.pair).sublist (List.Sublist.append List.filter_sublist (List.Sublist.refl _))
    · -- the map is being filled
      obtain ⟨i0, hi0, hl0⟩ : ∃ i, i ∈ ins ∧ listed.getD i false = false := by
        refine Classical.byContradiction fun hn => hall fun i hi => ?_
        cases hl : listed.getD i false with
        | true => rfl
        | false => exact absurd ⟨i, hi, hl⟩ hn
      refine ⟨fun hnil => ?_, fun i hi => ?_⟩
      · exfalso
        have h0 : i0 ∈ (pre ++ mm :: (ins ++ post)).filter (fun i => !(listed.getD i false)) := List.mem_filter.2 ⟨by simp [hi0], by simp [hl0]⟩
        cases hr : (pre ++ mm :: (ins ++ post)).filter (fun i => !(listed.getD i false)) with
        | nil => rw [hr] at h0; cases h0
        | cons x r =>
          have hx0 : x ∈ (pre ++ mm :: (ins ++ post)).filter (fun i => !(listed.getD i false)) := by rw [hr]; exact List.mem_cons_self ..
          obtain ⟨h1, h2⟩ := List.mem_filter.1 hx0
          have hlt := L.lt x h1
          have : x ∈ Region.ready .any ops listed := by
            rw [ready_iff]
            have hsz : x < listed.size := by rw [hc.size]; exact hlt
            refine ⟨hlt, by simpa [hsz] using h2, fun z hz => ?_⟩
            rcases front_filter (p := []) L.front hr z hz with h3 | h3
            · simpa using h3
            · cases h3
          rw [hnil] at this; cases this
      · rw [ready_iff] at hi
        obtain ⟨hisz, hil, hip⟩ := hi
        have hisz' : i < listed.size := by rw [hc.size]; exact hisz
        have hil : listed.getD i false = false := by simpa [hisz'] using hil
        have hiπ := L.all i hisz
        have hpostn : ∀ j ∈ post, j ≠ i := by
          intro j hj e
          subst e
          rcases L.postp j hj with h1 | ⟨z, h1, h2⟩
          · have := hip i0 (h1 i0 hi0); rw [hl0] at this; cases this
          · have := hip z h1; rw [hpost z h2] at this; cases this
        have hcls : Cls ops (listed.setIfInBounds i true) := by
          refine ⟨by simpa using hc.size, fun x hx' z hz => ?_⟩
          rw [setB_get hisz'] at hx' ⊢
          by_cases hz' : z = i
          · simp [hz']
          · rw [if_neg hz']
            by_cases hx2 : x = i
            · subst hx2; exact hip z hz
            · rw [if_neg hx2] at hx'; exact hc.down x hx' z hz
        have hpost' : ∀ j ∈ post, (listed.setIfInBounds i true).getD j false = false := by
          intro j hj
          rw [setB_get hisz', if_neg (hpostn j hj)]
          exact hpost j hj
        have hcount' : ((pre ++ mm :: (ins ++ post)).filter fun j => !((listed.setIfInBounds i true).getD j false)).length ≤ fuel := by
          have := filter_dec (q := fun j => !(listed.getD j false)) (q' := fun j => !((listed.setIfInBounds i true).getD j false)) (i := i) (fun j hj => by
            rw [setB_get hisz'] at hj
            by_cases e : j = i
            · rw [if_pos e] at hj; cases hj
            · rw [if_neg e] at hj; exact hj) (by simp [hil]) (by rw [setB_get hisz', if_pos rfl]; rfl) hiπ
          omega
        have hDi : ∀ j, (listed.setIfInBounds i true).getD j false = true ↔ listed.getD j false = true ∨ j = i := by
          intro j
          rw [setB_get hisz']
          by_cases e : j = i
          · simp [e]
          · simp [e]
        -- one operation
        have one : SRunY P ops (clL P ops) (ancOf AL) (RegX T F gN n ρ0 S ds) [] (i :: []) a' (fun _ a'' σ'' => StL ops mm ins dm a A1 σ (listed.setIfInBounds i true) a'' σ'') σ' := by
          have mmne : ∀ {j : Nat}, j ≠ mm → ∀ {bb : Bool}, listed.getD mm false = bb → i = j → (listed.setIfInBounds i true).getD mm false = bb := by
            intro j hj bb hl e
            subst e
            rw [setB_get hisz', if_neg (Ne.symm hj), hl]
          have hnd := L.nd
          rw [List.nodup_append] at hnd
          obtain ⟨_, hnd2, hdisj⟩ := hnd
          obtain ⟨hmmn, hnd3⟩ := List.nodup_cons.1 hnd2
          rcases List.mem_append.1 hiπ with h1 | h1
          · -- of the first part
            have hne : i ≠ mm := fun e => hdisj i h1 mm (List.mem_cons_self ..) e
            have hni : i ∉ ins := fun h => hdisj i h1 i (List.mem_cons_of_mem _ (List.mem_append_left _ h)) rfl
            have hfil : (ins.filter fun j => (listed.setIfInBounds i true).getD j false) = ins.filter fun j => listed.getD j false := by
              refine List.filter_congr fun j hj => ?_
              rw [setB_get hisz', if_neg (fun e => by subst e; exact hni hj)]
            have hcl : ∀ o, ops[i]? = some o → clL P ops i = clsOf P o.op := fun o ho => by simp only [clL, ho]
            rcases hst with ⟨hl, rfl, hag⟩ | ⟨hl, b, E, c, hb, rfl, hs, hE, hag⟩
            · obtain ⟨o, V, ho, hcc, hd⟩ := pre_step L hpre hD (A := A1) (fun t _ => rfl) hag h1 hip
              have hwd : Region.wanted o (yielded ops a'.tmps) = true := by simp [Region.wanted, (L.plain i o ho).1]
              have hst' : StL ops mm ins dm a A1 σ' (listed.setIfInBounds i true) (a'.put o.dst V) σ' := by
                refine .inl ⟨mmne hne hl rfl, rfl, ?_⟩
                have := hag.step (D' := fun j => (listed.setIfInBounds i true).getD j false = true) (i := i) (V := V) hDi (fun t ht => hd t (by rw [← dstAt_of ho]; exact ht))
                rw [dstAt_of ho] at this; exact this
              refine ⟨o, ho, (L.plain i o ho).2, ?_⟩
              rw [if_pos hwd, hcl o ho]
              rcases hcc with ⟨hcc, h2⟩ | ⟨hcc, h2⟩
              · rw [hcc]; exact ⟨V, h2, hst'⟩
              · rw [hcc]; exact ⟨V, h2, hst'⟩
            · obtain ⟨o, V, ho, hcc, hd⟩ := pre_step L hpre hD (A := A1.put (some dm) (mapTo b)) (hA b) hag h1 hip
              have hwd : Region.wanted o (yielded ops a'.tmps) = true := by simp [Region.wanted, (L.plain i o ho).1]
              have hst' : StL ops mm ins dm a A1 σ (listed.setIfInBounds i true) (a'.put o.dst V) (σ.put b (.map E c)) := by
                refine .inr ⟨mmne hne hl rfl, b, E, c, hb, rfl, hs, by rw [hfil]; exact hE, ?_⟩
                have := hag.step (D' := fun j => (listed.setIfInBounds i true).getD j false = true) (i := i) (V := V) hDi (fun t ht => hd t (by rw [← dstAt_of ho]; exact ht))
                rw [dstAt_of ho] at this; exact this
              refine ⟨o, ho, (L.plain i o ho).2, ?_⟩
              rw [if_pos hwd, hcl o ho]
              rcases hcc with ⟨hcc, h2⟩ | ⟨hcc, h2⟩
              · rw [hcc]; exact ⟨V, h2, hst'⟩
              · rw [hcc]; exact ⟨V, fun w hw => h2 w (le_of_put hb hw), hst'⟩
          · rcases List.mem_cons.1 h1 with rfl | h1
            · -- the map is made
              obtain ⟨o, t, ho, hop, hd⟩ := mmAt_some L.mm1
              have hwd : Region.wanted o (yielded ops a'.tmps) = true := by simp [Region.wanted, (L.plain i o ho).1]
              have hcl : clL P ops i = 2 := by simp only [clL, ho, hop]; rfl
              rcases hst with ⟨hl, rfl, hag⟩ | ⟨hl, _⟩
              · refine ⟨o, ho, (L.plain i o ho).2, ?_⟩
                rw [if_pos hwd, hcl]
                refine ⟨mapTo, _, al_makeMap hop, fun b hb => ?_⟩
                refine .inr ⟨by rw [setB_get hisz', if_pos rfl], b, #[], 0, hb, rfl, MapKept.stamped_empty _, ?_, ?_⟩
                · have : (ins.filter fun j => (listed.setIfInBounds i true).getD j false) = [] := by
                    refine List.filter_eq_nil_iff.2 fun j hj => ?_
                    rw [setB_get hisz']
                    have hji : j ≠ i := fun e => by subst e; exact hmmn (List.mem_append_left _ hj)
                    rw [if_neg hji]
                    intro hlj
                    have := hc.down j hlj i (L.insm j hj)
                    rw [hl] at this; cases this
                  rw [this]
                  exact List.Perm.refl _
                · have h2 := (hag.other (A' := A1.put (some dm) (mapTo b)) fun t j hj hdj => by
                    refine (hA b t fun e => ?_).symm
                    subst e
                    -- another operation would write what this one writes
                    have hjm : j ≠ i := fun e2 => by subst e2; rw [hl] at hj; cases hj
                    exact hjm (dst_one L hdj (hD j hj))).step (D' := fun j => (listed.setIfInBounds i true).getD j false = true) (i := i) (V := mapTo b) hDi (fun t ht => by
                      rw [L.dm1] at ht; cases ht
                      exact ⟨(hAd b).symm, by rw [← hsz1]; exact hdm1⟩)
                  rw [dstAt_of ho] at h2; exact h2
              · rw [hil] at hl; cases hl
            · rcases List.mem_append.1 h1 with h1 | h1
              · -- an entry more
                obtain ⟨o, kk, v, kt, et, c', ho, hop, hd, hu, hcc, hkb, hkv⟩ := insAt_some (L.ins1 i h1)
                have hwd : Region.wanted o (yielded ops a'.tmps) = true := by simp [Region.wanted, (L.plain i o ho).1]
                have hcl : clL P ops i = 3 := by simp only [clL, ho, hop]; rfl
                have hmm : listed.getD mm false = true := hip mm (L.insm i h1)
                have hne : i ≠ mm := fun e => by subst e; rw [hil] at hmm; cases hmm
                rcases hst with ⟨hl, _⟩ | ⟨hl, b, E, c, hb, rfl, hs, hE, hag⟩
                · rw [hmm] at hl; cases hl
                · refine ⟨o, ho, (L.plain i o ho).2, ?_⟩
                  rw [if_pos hwd, hcl]
                  have hsame : ∀ t, .tmp t ∈ o.op.operands → a'.tmps.getD t undef = (A1.put (some dm) (mapTo b)).tmps.getD t undef := by
                    intro t ht
                    rcases L.looks (i := i) (by simp [h1]) ho ht with ⟨j, hj, he⟩ | h3
                    · exact hag.done t j (hip j hj) he
                    · rw [hag.rest t fun j hj => h3 j (hD j hj), hA b t (fun e => h3 mm (by simp) (by rw [L.dm1, e]))]
                      exact (hpre.keep fun j hj => h3 j (List.mem_append_left _ hj)).symm
                  have hexec : execOp a'.eval o = doS (Instr.mapUpdate t0 (.map (some b)) (kvOf ops (A1.put (some dm) (mapTo b)) i).1 (kvOf ops (A1.put (some dm) (mapTo b)) i).2) := by
                    rw [exec_same (L.plain i o ho).2 hsame, hkv]
                    have hdmv : (A1.put (some dm) (mapTo b)).eval (.tmp dm) = .map (some b) := by rw [eval_tmp, hAd]; rfl
                    rw [← hdmv]
                    obtain ⟨dst, op, type, pos, after, guard⟩ := o
                    simp only at hop; subst hop
                    rfl
                  rw [hexec]
                  have hfresh : ∀ p ∈ E.toList.map kvE, p.1 ≠ (kvOf ops (A1.put (some dm) (mapTo b)) i).1 := by
                    intro p hp hpe
                    obtain ⟨j, hj, rfl⟩ := List.mem_map.1 (hE.mem_iff.1 hp)
                    obtain ⟨hj1, hj2⟩ := List.mem_filter.1 hj
                    have hji : j ≠ i := fun e => by subst e; rw [hil] at hj2; cases hj2
                    exact hji (map_inj_nodup (L.kvnd (A1.put (some dm) (mapTo b))) hj1 h1 hpe)
                  have hKs : ∀ p ∈ E.toList.map kvE, KOk c' p.1 := by
                    intro p hp
                    obtain ⟨j, hj, rfl⟩ := List.mem_map.1 (hE.mem_iff.1 hp)
                    obtain ⟨hj1, _⟩ := List.mem_filter.1 hj
                    obtain ⟨o2, k2, v2, kt2, et2, c2, ho2, hop2, hd2, hu2, hcc2, hkb2, hkv2⟩ := insAt_some (L.ins1 j hj1)
                    rw [hu] at hu2; cases hu2
                    rw [hcc] at hcc2; cases hcc2
                    rw [hkv2]
                    exact keyB_ok hkb2 _
                  have hXk : KOk c' (kvOf ops (A1.put (some dm) (mapTo b)) i).1 := by rw [hkv]; exact keyB_ok hkb _
                  have raw := mu_raw (P := P) (σ := σ.put b (.map E c)) hu (ktOf_some hcc) (b := b) (m := E.toList.map kvE) ⟨E, c, H.put_same _ _ _, rfl, hs⟩ hKs (perm_nodup (List.Perm.refl _) hs) hXk (V := (kvOf ops (A1.put (some dm) (mapTo b)) i).2)
                  refine raw.mono fun v' σ'' ⟨hv', ob, m', hσ, hM', hp'⟩ => ?_
                  subst hv' hσ
                  obtain ⟨E', c2, hE', hm', hs'⟩ := hM'
                  rw [H.put_same] at hE'
                  cases hE'
                  refine ⟨(fun q hq => by cases hq), ?_⟩
                  rw [put_put]
                  refine .inr ⟨mmne hne hl rfl, b, E', c2, hb, rfl, hs', ?_, ?_⟩
                  · have e1 : (E'.toList.map kvE) = m' := hm'
                    rw [e1]
                    rw [oth_none hfresh] at hp'
                    refine hp'.trans ?_
                    have hsplit : (ins.filter fun j => (listed.setIfInBounds i true).getD j false).Perm (i :: ins.filter fun j => listed.getD j false) := by
                      obtain ⟨p, r, hpr⟩ := List.append_of_mem h1
                      have hndi : ins.Nodup := (List.nodup_append.1 hnd3).1
                      rw [hpr] at hndi ⊢
                      have hnip : i ∉ p ∧ i ∉ r := by
                        rw [List.nodup_append] at hndi
                        refine ⟨fun h => hndi.2.2 i h i (List.mem_cons_self ..) rfl, ?_⟩
                        exact (List.nodup_cons.1 hndi.2.1).1
                      have hcong : ∀ l : List Nat, i ∉ l → (l.filter fun j => (listed.setIfInBounds i true).getD j false) = l.filter fun j => listed.getD j false := by
                        intro l hl2
                        refine List.filter_congr fun j hj => ?_
                        rw [setB_get hisz', if_neg (fun e => by subst e; exact hl2 hj)]
                      rw [List.filter_append, List.filter_append, List.filter_cons, List.filter_cons, hcong p hnip.1, hcong r hnip.2, setB_get hisz', if_pos rfl, hil]
                      simp
                    have e2 : (kvOf ops (A1.put (some dm) (mapTo b)) i) = ((kvOf ops (A1.put (some dm) (mapTo b)) i).1, (kvOf ops (A1.put (some dm) (mapTo b)) i).2) := rfl
                    rw [← e2]
                    exact (List.Perm.cons _ hE).trans ((hsplit.map _).symm)
                  · have := hag.step (D' := fun j => (listed.setIfInBounds i true).getD j false = true) (i := i) (V := undef) hDi (fun t ht => by rw [L.ins0 h1] at ht; cases ht)
                    rw [dstAt_of ho] at this; exact this
              · exact absurd rfl (hpostn i h1)
        refine op_soundY hx.le one (fun v σ₂ w₂ he₂ hx₂ => hX v a' σ₂ w₂ (hx.trans he₂) hx₂) fun pend' v σ₂ w₂ he₂ h' => ?_
        exact ih _ hcount' hcls hpost' h' (hx.trans he₂)
theorem litB_ok {na nb : Nat} {r : List Nat} (h : litB P ops AL na nb r = true) : ∃ dm t0, LitOk P ops AL (litPre na r) (litM na r) (litIns na nb r) (litPost na nb r) dm t0 := by
  unfold litB at h
  split at h
  · rename_i dm o hdm ho
    split at h
    · rename_i t0 x y z hop
      unfold litB2 at h
      simp only [Bool.and_eq_true] at h
      obtain ⟨⟨⟨⟨⟨⟨⟨⟨⟨⟨⟨⟨⟨⟨⟨⟨h1, h2⟩, h3⟩, h4⟩, h5⟩, h6⟩, h7⟩, h8⟩, h9⟩, h10⟩, h11⟩, h12⟩, h13⟩, h14⟩, h15⟩, h16⟩, h17⟩ := h
      refine ⟨dm, t0, ⟨fun i hi => ?_, fun i hi => ?_, nodupB_nodup _ h3, h4, List.all_eq_true.1 h5, h6, List.all_eq_true.1 h7, List.all_eq_true.1 h8, List.all_eq_true.1 h9, h10, List.all_eq_true.1 h11, fun i hi => ?_, ?_, of_decide_eq_true h14, fun x hx => ?_, h16, h17⟩⟩
      · have := List.all_eq_true.1 h1 i (List.mem_range.2 hi)
        simpa using this
      · have := List.all_eq_true.1 h2 i hi
        exact blt_lt this
      · have := List.all_eq_true.1 h12 i hi
        simpa using this
      · intro e; rw [e] at h13; cases h13
      · have := List.all_eq_true.1 h15 x hx
        simp only [Bool.or_eq_true] at this
        rcases this with h | h
        · left
          intro j hj
          have := List.all_eq_true.1 h j hj
          simpa using this
        · right
          obtain ⟨z, hz, hz2⟩ := List.any_eq_true.1 h
          exact ⟨z, hz, by simpa using hz2⟩
    · cases h
  · cases h
theorem lit_region (hm : P.follows .mixedOrders = true) (hF : FNo F) (hH : HkOk P hk fx) {na nb : Nat} {r : List Nat} (hok : litB P ops AL na nb r = true) {k : PC} {S : Stk} {ds : List Deferred} {ρ0 : Rm} (hL : ρ0.lo = LO P gN.g mt hk fx) {n : Nat} (hC : ∀ m, m < n → CallsOk P T F gN.g mt hk fx m) {σ : H} {w : World} {a : Act} (hds : a.defers = ds) (hw : σ.le w)
    (h : Run T F gN n ρ0 (layR P gN mt hk ops.toList (litPre na r ++ litM na r :: (litIns na nb r ++ litPost na nb r)) k) S a σ) {ro : Option Nat} {dp id : Nat} {Q : Exit → Act → World → Prop} (hX : ∀ v a' σ' w', HL.Ext σ w σ' w' → RegX T F gN n ρ0 S ds a' v σ' → Q (.panic (chain1 v)) a' w') (hq : ∀ p' a' σ' w', HL.Ext σ w σ' w' → RegK T F gN n ρ0 k S ds p' a' σ' → Q .normal a' w') :
    (Code.region id ops true).wpIn (FW ro) dp P Q a w := by
  obtain ⟨dm, t0, L⟩ := litB_ok hok
  obtain ⟨A1, hpre, h1⟩ := pre_run (P := P) hF hH hL (fun i o ho => (L.plain i o ho).1) hC (litPre na r) L.pre1 h
  refine wpIn_region_any hm ?_
  have hd := Ext.drew hw (w.drawn + 1)
  refine lit_any L hF hH hL hC hds hpre (fun b hb => mm_ins (P := P) hF (fun i o ho => (L.plain i o ho).1) L.mm1 L.ins1 h1 hb (L.kvnd _)) hw hX hq ops.size (Array.replicate ops.size false) ?_ ⟨by simp, ?_⟩ (fun i hi => ?_) (.inl ⟨?_, rfl, ⟨rfl, rfl, fun t i hi => ?_, fun t _ => rfl⟩⟩) hd
  · have h1 : ((litPre na r ++ litM na r :: (litIns na nb r ++ litPost na nb r)).filter fun i => !((Array.replicate ops.size false).getD i false)).length ≤ (litPre na r ++ litM na r :: (litIns na nb r ++ litPost na nb r)).length := List.length_filter_le _ _
    refine Nat.le_trans h1 ?_
    exact nodup_len L.nd L.lt
  · intro x hx; exfalso
    rcases Nat.lt_or_ge x ops.size with h1 | h1
    · simp [h1] at hx
    · simp [Nat.not_lt.2 h1] at hx
  · have := L.lt i (by simp [hi])
    simp [this]
  · have := L.lt (litM na r) (by simp)
    simp [this]
  · exfalso
    rcases Nat.lt_or_ge i ops.size with h1 | h1
    · simp [h1] at hi
    · simp [Nat.not_lt.2 h1] at hi
end
end Go.Ev

namespace Go.Ev
open Go Go.HL
/-- what is put off: marks of ranges over functions, and what was there ahead -/
def DefM (rf : Bool) (B : Nat) (σ : H) (w : World) (ds defs : List Deferred) : Prop :=
  ∃ ms : List Nat, (rf = false → ms = []) ∧ ms.Nodup ∧ defs = ms.map markOf ++ ds ∧ ∀ r ∈ ms, B ≤ r ∧ σ r = none ∧ w.heap[r]? = some (.deferred (some []))
theorem DefM.nil (rf : Bool) (B : Nat) (σ : H) (w : World) (ds : List Deferred) : DefM rf B σ w ds ds := ⟨[], fun _ => rfl, .nil, rfl, fun _ h => by simp at h⟩
theorem DefM.ext {rf : Bool} {B : Nat} {σ σ' : H} {w w' : World} {ds defs : List Deferred} (h : DefM rf B σ w ds defs) (he : HL.Ext σ w σ' w') : DefM rf B σ' w' ds defs := by
  obtain ⟨ms, h0, h1, h2, h3⟩ := h
  refine ⟨ms, h0, h1, h2, fun r hr => ?_⟩
  obtain ⟨hb, hn, hw⟩ := h3 r hr
  have hlt : r < w.heap.size := by
    rcases Nat.lt_or_ge r w.heap.size with h | h
    · exact h
    · rw [Array.getElem?_eq_none h] at hw; cases hw
  refine ⟨hb, ?_, by rw [he.keep r hlt hn]; exact hw⟩
  cases hc : σ' r with
  | none => rfl
  | some o => have := he.own r o hc hn; omega
section
variable (T : Nat → PC) (F : Go) (gN : Cx)
/-- what stands behind code -/
def PostE (rf : Bool) (n : Nat) (ρ0 : Rm) (k : PC) (kx : Nat → PC) (kr : PC) (S : Stk) (B : Nat) (ds : List Deferred) (σ0 : H) (w0 : World) : Exit → Act → World → Prop
  | .normal, a, w => ∃ σ, HL.Ext σ0 w0 σ w ∧ DefM rf B σ w ds a.defers ∧ Run T F gN n ρ0 k S a σ
  | .exit i, a, w => ∃ σ, HL.Ext σ0 w0 σ w ∧ DefM rf B σ w ds a.defers ∧ Run T F gN n ρ0 (kx i) S a σ
  | .ret, a, w => ∃ σ, HL.Ext σ0 w0 σ w ∧ DefM rf B σ w ds a.defers ∧ Run T F gN n ρ0 kr S a σ
  | .panic ch, a, w => ∃ v σ, ch = chain1 v ∧ HL.Ext σ0 w0 σ w ∧ DefM rf B σ w ds a.defers ∧ Pan T F gN n ρ0 S a v σ
  | _, _, _ => False
end
section
variable {P : Program} {T : Nat → PC} {F : Go} {gN : Cx} {mt : String → Nat → Nat} {hk : Nat → Option (Nat × Nat)} {fx : Nat → Option Obj} {ord : Nat → Option (List Nat × List (List Nat))}
theorem PostE.pre {rf : Bool} {n n' : Nat} {ρ0 ρ1 : Rm} {k : PC} {kx : Nat → PC} {kr : PC} {S : Stk} {B : Nat} {ds : List Deferred} {σ0 σ1 : H} {w0 w1 : World} {x : Exit} {a : Act} {w : World} (he : HL.Ext σ0 w0 σ1 w1) (hl : ρ0.le ρ1) (hn : n ≤ n') (h : PostE T F gN rf n ρ1 k kx kr S B ds σ1 w1 x a w) : PostE T F gN rf n' ρ0 k kx kr S B ds σ0 w0 x a w := by
  cases x with
  | normal => obtain ⟨σ, h1, h2, h3⟩ := h; exact ⟨σ, he.trans h1, h2, (h3.mono hn).pre hl⟩
  | exit i => obtain ⟨σ, h1, h2, h3⟩ := h; exact ⟨σ, he.trans h1, h2, (h3.mono hn).pre hl⟩
  | ret => obtain ⟨σ, h1, h2, h3⟩ := h; exact ⟨σ, he.trans h1, h2, (h3.mono hn).pre hl⟩
  | goto l => exact h.elim
  | panic c => obtain ⟨v, σ, h0, h1, h2, h3⟩ := h; exact ⟨v, σ, h0, he.trans h1, h2, (h3.mono hn).pre hl⟩
  | outgrown => exact h.elim
theorem Run.step {n : Nat} {ρ0 : Rm} {k k' : PC} {S S' : Stk} {a : Act} {σ : H} (hF : FNo F) (h : Run T F gN n ρ0 k S a σ) (hs : ∀ m e h, go T F (m + 1) k e S h = true → go T F m k' e S' h = true) : ∃ n', n = n' + 1 ∧ Run T F gN n' ρ0 k' S' a σ := by
  obtain ⟨m, ρ, e, h', q1, q2, q3, q4, q5⟩ := h
  obtain ⟨m', rfl⟩ := fuel_pos hF q5
  exact ⟨n - 1, by omega, m', ρ, e, h', by omega, q2, q3, q4, hs m' e h' q5⟩
theorem Pan.step {n : Nat} {ρ0 : Rm} {S S' : Stk} {a : Act} {v : Value} {σ : H} (hF : FNo F) (h : Pan T F gN n ρ0 S a v σ) (hs : ∀ m x e h, go T F (m + 1) (.uw x) e S h = true → go T F m (.uw x) e S' h = true) : Pan T F gN n ρ0 S' a v σ := by
  obtain ⟨m, ρ, e, h', x, q1, q2, q3, q4, q5, q6⟩ := h
  obtain ⟨m', rfl⟩ := fuel_pos hF q6
  exact ⟨m', ρ, e, h', x, by omega, q2, q3, q4, q5, hs m' x e h' q6⟩
theorem Run.out (hF : FNo F) {n : Nat} {ρ0 : Rm} {S : Stk} {a : Act} {σ : H} (h : Run T F gN n ρ0 .no S a σ) : False := by
  obtain ⟨m, ρ, e, h', q1, q2, q3, q4, q5⟩ := h
  exact no_false hF q5
/-- ranges over functions, wherever code is run no longer than n -/
def RfOk (P : Program) (T : Nat → PC) (F : Go) (gN : Cx) (mt : String → Nat → Nat) (hk : Nat → Option (Nat × Nat)) (fx : Nat → Option Obj) (ord : Nat → Option (List Nat × List (List Nat))) (n : Nat) : Prop :=
  ∀ (f : Operand) (ps : Array Nat) (asg body : Code) (k : PC) (kx : Nat → PC) (kr : PC) (S : Stk) (dp B : Nat) (ds : List Deferred) (ρ0 : Rm) (a : Act) (σ : H) (w : World), (rgOk P ord asg && rgOk P ord body) = true → ρ0.lo = LO P gN.g mt hk fx → Run T F gN n ρ0 (layC P gN mt hk ord (.rangeFunc f ps asg body) k kx kr) S a σ → σ.le w → DefM true B σ w ds a.defers → B ≤ w.heap.size →
    (Code.rangeFunc f ps asg body).wpIn (FW none) dp P (PostE T F gN true n ρ0 k kx kr S B ds σ w) a w
theorem code_run (hm : P.follows .mixedOrders = true) (hF : FNo F) (hH : HkOk P hk fx) : ∀ (c : Code) (rf : Bool) (n : Nat) (ro : Option Nat), ((rf = true ∧ ro = none) ∨ noRf c = true) → (∀ m, m < n → CallsOk P T F gN.g mt hk fx m) → (∀ m, m ≤ n → RfOk P T F gN mt hk fx ord m) → rgOk P ord c = true → ∀ {k : PC} {kx : Nat → PC} {kr : PC} {S : Stk} {dp B : Nat} {ds : List Deferred} {ρ0 : Rm} {a : Act} {σ : H} {w : World}, ρ0.lo = LO P gN.g mt hk fx → Run T F gN n ρ0 (layC P gN mt hk ord c k kx kr) S a σ → σ.le w → DefM rf B σ w ds a.defers → B ≤ w.heap.size →
    c.wpIn (FW ro) dp P (PostE T F gN rf n ρ0 k kx kr S B ds σ w) a w := by
  intro c
  induction c with
  | skip => intro rf n ro hro hC hR hg k kx kr S dp B ds ρ0 a σ w hL h hw hd hB; exact wpIn_skip ⟨σ, HL.Ext.refl hw, hd, h⟩
  | label l => intro rf n ro hro hC hR hg k kx kr S dp B ds ρ0 a σ w hL h hw hd hB; exact wpIn_label ⟨σ, HL.Ext.refl hw, hd, h⟩
  | exit i => intro rf n ro hro hC hR hg k kx kr S dp B ds ρ0 a σ w hL h hw hd hB; exact wpIn_exit ⟨σ, HL.Ext.refl hw, hd, h⟩
  | ret => intro rf n ro hro hC hR hg k kx kr S dp B ds ρ0 a σ w hL h hw hd hB; exact wpIn_ret ⟨σ, HL.Ext.refl hw, hd, h⟩
  | goto l => intro rf n ro hro hC hR hg k kx kr S dp B ds ρ0 a σ w hL h; exact (Run.out hF h).elim
  | refuse s => intro rf n ro hro hC hR hg k kx kr S dp B ds ρ0 a σ w hL h; exact (Run.out hF h).elim
  | scope x ih =>
    intro rf n ro hro hC hR hg k kx kr S dp B ds ρ0 a σ w hL h hw hd hB
    exact wpIn_scope (fun l a w h => h) (ih rf n ro hro hC hR hg hL h hw hd hB)
  | seq x y ihx ihy =>
    intro rf n ro hro hC hR hg k kx kr S dp B ds ρ0 a σ w hL h hw hd hB
    simp only [rgOk, Bool.and_eq_true] at hg
    have hrx : (rf = true ∧ ro = none) ∨ noRf x = true := hro.imp id fun q => by
      simp only [noRf] at q
      split at q
      · assumption
      · cases q
    have hry : (rf = true ∧ ro = none) ∨ noRf y = true := hro.imp id fun q => by
      simp only [noRf] at q
      split at q
      · exact q
      · cases q
    refine wpIn_seq (wpIn_mono (ihx rf n ro hrx hC hR hg.1 hL h hw hd hB) fun ex a' w' hp => ?_)
    cases ex with
    | normal =>
      obtain ⟨σ', he, hd', hr⟩ := hp
      exact wpIn_mono (ihy rf n ro hry hC hR hg.2 hL hr he.le hd' (Nat.le_trans hB he.size)) fun _ _ _ => PostE.pre he (Rm.le.refl _) (Nat.le_refl _)
    | exit i => exact hp
    | ret => exact hp
    | goto l => exact hp.elim
    | panic c => exact hp
    | outgrown => exact hp.elim
  | cond c x y ihx ihy =>
    intro rf n ro hro hC hR hg k kx kr S dp B ds ρ0 a σ w hL h hw hd hB
    simp only [rgOk, Bool.and_eq_true] at hg
    have hrx : (rf = true ∧ ro = none) ∨ noRf x = true := hro.imp id fun q => by
      simp only [noRf] at q
      split at q
      · assumption
      · cases q
    have hry : (rf = true ∧ ro = none) ∨ noRf y = true := hro.imp id fun q => by
      simp only [noRf] at q
      split at q
      · exact q
      · cases q
    simp only [layC] at h
    split at h
    · rename_i s hs
      obtain ⟨m, ρ, e, h', q1, q2, N, R, q5⟩ := h
      obtain ⟨m', rfl⟩ := fuel_pos hF q5
      have q6 : (src s e fun v => asB v fun t => Bool.rec (motive := fun _ => PC → PC → Env → Stk → Hp → Go → Bool) (fun _ b e S h ih => ih b e S h) (fun a _ e S h ih => ih a e S h) t (layC P gN mt hk ord x k kx kr) (layC P gN mt hk ord y k kx kr) e S h' (go T F m')) = true := q5
      obtain ⟨v, e1, e2, q7⟩ := src_true N hs q6
      obtain ⟨t, rfl, q8⟩ := asB_true q7
      simp only [val, Option.some.injEq] at e1
      cases t with
      | true => exact wpIn_cond_true e1.symm (ihx rf n ro hrx hC hR hg.1 hL ⟨m', ρ, e, h', by omega, q2, N, R, q8⟩ hw hd hB)
      | false => exact wpIn_cond_false e1.symm (ihy rf n ro hry hC hR hg.2 hL ⟨m', ρ, e, h', by omega, q2, N, R, q8⟩ hw hd hB)
    · exact (Run.out hF h).elim
  | block id x ih =>
    intro rf n ro hro hC hR hg k kx kr S dp B ds ρ0 a σ w hL h hw hd hB
    refine wpIn_block (wpIn_mono (ih rf n ro hro hC hR hg hL h hw hd hB) fun ex a' w' hp => ?_)
    cases ex with
    | normal => exact hp
    | exit i =>
      obtain ⟨σ', he, hd', hr⟩ := hp
      simp only [Exit.inBlock]
      cases hb : Nat.beq i id with
      | true =>
        rw [if_pos (Nat.eq_of_beq_eq_true hb)]
        simp only [hb] at hr
        exact ⟨σ', he, hd', hr⟩
      | false =>
        rw [if_neg (Nat.ne_of_beq_eq_false hb)]
        simp only [hb] at hr
        exact ⟨σ', he, hd', hr⟩
    | ret => exact hp
    | goto l => exact hp.elim
    | panic c => exact hp
    | outgrown => exact hp.elim
  | loop x ih =>
    intro rf n ro hro hC hR hg k kx kr S dp B ds ρ0 a σ w hL h hw hd hB
    obtain ⟨n1, rfl, h1⟩ := h.step hF (k' := layC P gN mt hk ord x .ag (fun i => .lv (kx i)) (.lv kr)) (S' := .lp (layC P gN mt hk ord x .ag (fun i => .lv (kx i)) (.lv kr)) :: S) fun m e h q => q
    generalize hb : layC P gN mt hk ord x .ag (fun i => .lv (kx i)) (.lv kr) = b at h1
    have loop : ∀ (n2 : Nat), n2 ≤ n1 → ∀ {ρ1 : Rm} {a : Act} {σ : H} {w : World}, ρ1.lo = LO P gN.g mt hk fx → Run T F gN n2 ρ1 b (.lp b :: S) a σ → σ.le w → DefM rf B σ w ds a.defers → B ≤ w.heap.size → LoopIn (FW ro) dp P x (PostE T F gN rf n2 ρ1 k kx kr S B ds σ w) a w := by
      intro n2
      induction n2 using Nat.strongRecOn with
      | _ n2 ihn =>
        intro hn2 ρ1 a σ w hL h hw hd hB
        rw [← hb] at h
        refine loopIn_round (wpIn_mono (ih rf n2 ro hro (fun m hm => hC m (by omega)) (fun m hm => hR m (by omega)) hg hL h hw hd hB) fun ex a' w' hp => ?_)
        rw [hb] at hp
        cases ex with
        | normal =>
          obtain ⟨σ', he, hd', hr⟩ := hp
          obtain ⟨n3, hn3, hr3⟩ := hr.step hF (k' := b) (S' := .lp b :: S) fun m e h q => q
          intro b' k' cs hro' hb' hr'
          obtain ⟨e2, a2, w2, hq, harr⟩ := ihn n3 (by omega) (by omega) hL hr3 he.le hd' (Nat.le_trans hB he.size) b' k' cs hro' hb' hr'
          exact ⟨e2, a2, w2, PostE.pre he (Rm.le.refl _) (by omega) hq, harr⟩
        | exit i =>
          obtain ⟨σ', he, hd', hr⟩ := hp
          obtain ⟨n3, hn3, hr3⟩ := hr.step hF (k' := kx i) (S' := S) fun m e h q => q
          exact ⟨σ', he, hd', hr3.mono (by omega)⟩
        | ret =>
          obtain ⟨σ', he, hd', hr⟩ := hp
          obtain ⟨n3, hn3, hr3⟩ := hr.step hF (k' := kr) (S' := S) fun m e h q => q
          exact ⟨σ', he, hd', hr3.mono (by omega)⟩
        | goto l => exact hp.elim
        | panic ch =>
          obtain ⟨v, σ', h0, he, hd', hr⟩ := hp
          exact ⟨v, σ', h0, he, hd', hr.step hF fun m x e h q => q⟩
        | outgrown => exact hp.elim
    refine wpIn_loopIn ?_
    intro b' k' cs hro' hb' hr'
    obtain ⟨e2, a2, w2, hq, harr⟩ := loop n1 (Nat.le_refl _) hL h1 hw hd hB b' k' cs hro' hb' hr'
    exact ⟨e2, a2, w2, PostE.pre (HL.Ext.refl hw) (Rm.le.refl _) (Nat.le_succ _) hq, harr⟩
  | region id ops draw =>
    intro rf n ro hro hC hR hg k kx kr S dp B ds ρ0 a σ w hL h hw hd hB
    have hX : ∀ v a' σ' w', HL.Ext σ w σ' w' → RegX T F gN n ρ0 S a.defers a' v σ' → PostE T F gN rf n ρ0 k kx kr S B ds σ w (.panic (chain1 v)) a' w' := by
      intro v a' σ' w' he ⟨hde, hp⟩
      exact ⟨v, σ', rfl, he, by rw [hde]; exact hd.ext he, hp⟩
    have hq : ∀ p' a' σ' w', HL.Ext σ w σ' w' → RegK T F gN n ρ0 k S a.defers p' a' σ' → PostE T F gN rf n ρ0 k kx kr S B ds σ w .normal a' w' := by
      intro p' a' σ' w' he ⟨hde, hr⟩
      exact ⟨σ', he, by rw [hde]; exact hd.ext he, hr⟩
    cases draw with
    | false => exact wpIn_region (run_soundY _ hw (layR_run hF hH hL (List.range ops.size) (p := []) hC rfl h) hX hq)
    | true =>
      simp only [rgOk] at hg
      simp only [layC] at h
      split at h
      · rename_i π AL ho
        simp only [ho] at hg
        split at h
        · rename_i na nb r hlit
          simp only [hlit] at hg
          exact lit_region hm hF hH hg hL hC rfl hw h hX hq
        · rename_i hlit
          simp only [hlit, Bool.and_eq_true] at hg
          exact draw_soundY (RegK.pm) hm hg.1 hw (layY_run hF hH hL π [] hC rfl hg.2 (fun q hq => by cases hq) (fun j hj => by cases hj) h) hX hq
      · rename_i ho
        simp only [ho, Bool.and_eq_true] at hg
        exact draw_soundY (RegK.pm) hm hg.1 hw (layY_run hF hH hL (List.range ops.size) [] hC rfl hg.2 (fun q hq => by cases hq) (fun j hj => by cases hj) h) hX hq
  | rangeFunc f ps asg body iha ihb =>
    intro rf n ro hro hC hR hg k kx kr S dp B ds ρ0 a σ w hL h hw hd hB
    rcases hro with ⟨rfl, rfl⟩ | hro
    · exact hR n (Nat.le_refl _) f ps asg body k kx kr S dp B ds ρ0 a σ w hg hL h hw hd hB
    · cases hro
end
end Go.Ev

namespace Go.Ev
open Go Go.HL
section
variable (T : Nat → PC) (F : Go)
def RetS (n : Nat) (ρ0 : Rm) (S : Stk) (V : Value) (σ : H) : Prop := ∃ (m : Nat) (ρ : Rm) (h : Hp) (x : SV), m ≤ n ∧ ρ0.le ρ ∧ Rel ρ h σ ∧ val ρ x = some V ∧ ret T (go T F m) x S h = true
def PanS (n : Nat) (ρ0 : Rm) (S : Stk) (V : Value) (σ : H) : Prop := ∃ (m : Nat) (ρ : Rm) (e : Env) (h : Hp) (x : SV), m ≤ n ∧ ρ0.le ρ ∧ Rel ρ h σ ∧ val ρ x = some V ∧ go T F m (.uw x) e S h = true
end
section
variable {P : Program} {T : Nat → PC} {F : Go} {gN : Cx} {mt : String → Nat → Nat} {hk : Nat → Option (Nat × Nat)} {fx : Nat → Option Obj} {ord : Nat → Option (List Nat × List (List Nat))}
/-! ### Arguments -/
def argN : List SV → Nat → N16 SV → N16 SV
  | [], _, n => n
  | v :: l, i, n => argN l (i + 1) (n.set (dg16 i) v)
theorem args_true : ∀ {l : List SV} {i : Nat} {n : N16 SV} {k : N16 SV → Bool}, args l i n k = true → i + l.length ≤ 16 ∨ l = [] := by
  intro l
  induction l with
  | nil => intro i n k h; exact .inr rfl
  | cons v l ih =>
    intro i n k h
    obtain ⟨h1, h2⟩ := yes_true h
    have h1 := blt_lt h1
    rw [stV_eq] at h2
    left
    rcases ih h2 with q | q
    · rw [List.length_cons]; omega
    · subst q; simp; omega
theorem args_eq : ∀ {l : List SV} {i : Nat} {n : N16 SV} {k : N16 SV → Bool}, args l i n k = true → k (argN l i n) = true := by
  intro l
  induction l with
  | nil => intro i n k h; exact h
  | cons v l ih =>
    intro i n k h
    obtain ⟨h1, h2⟩ := yes_true h
    rw [stV_eq] at h2
    exact ih h2
theorem argN_at : ∀ {l : List SV} {i : Nat} {n : N16 SV} {j : Nat}, i + l.length ≤ 16 → j < 16 → (argN l i n).at (dg16 j) = if i ≤ j ∧ j < i + l.length then l.getD (j - i) und else n.at (dg16 j) := by
  intro l
  induction l with
  | nil => intro i n j h hj; rw [if_neg (by simp only [List.length_nil]; omega)]; rfl
  | cons v l ih =>
    intro i n j h hj
    rw [List.length_cons] at h
    rw [argN, ih (by omega) hj, List.length_cons]
    by_cases h1 : i + 1 ≤ j ∧ j < i + 1 + l.length
    · rw [if_pos h1, if_pos (by omega), show j - i = (j - (i + 1)) + 1 by omega]
      simp
    · rw [if_neg h1]
      by_cases h2 : j = i
      · subst h2
        rw [if_pos (by omega), N16.at_same, Nat.sub_self]
        simp
      · rw [if_neg (by omega), N16.at_other]
        intro e
        exact h2 (dg16_inj (by omega) hj e).symm
theorem u1_at (j : D16) : u1.at j = und := by cases j <;> rfl
theorem env0_slot (n : N16 SV) {i : Nat} (hi : i < 320) : Env.slot (env0 n) i = if i < 16 then n.at (dg16 i) else und := by
  unfold Env.slot
  by_cases h : i < 16
  · rw [if_pos h, show i / 16 = 0 by omega, show i % 16 = i by omega]
    rfl
  · rw [if_neg h]
    have h1 : i / 16 ≠ 0 := by omega
    have h2 : i / 16 < 20 := by omega
    have : N20.at (env0 n) (dg20 (i / 16)) = u1 := by
      generalize i / 16 = q at h1 h2
      match q, h1, h2 with
      | 1, _, _ => rfl
      | 2, _, _ => rfl
      | 3, _, _ => rfl
      | 4, _, _ => rfl
      | 5, _, _ => rfl
      | 6, _, _ => rfl
      | 7, _, _ => rfl
      | 8, _, _ => rfl
      | 9, _, _ => rfl
      | 10, _, _ => rfl
      | 11, _, _ => rfl
      | 12, _, _ => rfl
      | 13, _, _ => rfl
      | 14, _, _ => rfl
      | 15, _, _ => rfl
      | 16, _, _ => rfl
      | 17, _, _ => rfl
      | 18, _, _ => rfl
      | 19, _, _ => rfl
      | n + 20, _, h => exact absurd h (by omega)
    rw [this, u1_at]
/-- a function's frame, new -/
def act0 (fn : Func) (vs : List Value) : Act := { tmps := vs.toArray ++ Array.replicate (fn.ntmps - vs.toArray.size) undef, defers := [] }
theorem enter_fr {ρ : Rm} {fn : Func} {l : List SV} {vs : List Value} (hv : vals ρ l = some vs) (hl : l.length ≤ 16) : FRe ρ (env0 (argN l 0 u1)) (act0 fn vs) := by
  intro i hi
  have hlen := vals_len hv
  rw [env0_slot _ hi]
  have hget : (act0 fn vs).tmps.getD i undef = vs.getD i undef := by
    unfold act0
    simp only [Array.getD_eq_getD_getElem?, List.getD_eq_getElem?_getD]
    rcases Nat.lt_or_ge i vs.length with h | h
    · rw [Array.getElem?_append_left (by simpa using h)]
      simp
    · rw [Array.getElem?_append_right (by simpa using h), List.getElem?_eq_none h]
      simp only [Array.getElem?_replicate]
      split <;> rfl
  rw [hget]
  have h1 : ∀ j, val ρ (l.getD j und) = some (vs.getD j undef) := by
    intro j
    simp only [List.getD_eq_getElem?_getD]
    rcases Nat.lt_or_ge j l.length with h | h
    · obtain ⟨v, q1, q2⟩ := vals_get hv (List.getElem?_eq_getElem h)
      rw [List.getElem?_eq_getElem h, q1]; exact q2
    · rw [List.getElem?_eq_none h, List.getElem?_eq_none (by omega)]; exact val_und ρ
  by_cases h : i < 16
  · rw [if_pos h, argN_at (by omega) h]
    by_cases h2 : i < l.length
    · rw [if_pos (by omega), Nat.sub_zero]; exact h1 i
    · rw [if_neg (by omega), u1_at, ← h1 i, List.getD_eq_getElem?_getD, List.getElem?_eq_none (by omega)]
      rfl
  · rw [if_neg h, ← h1 i, List.getD_eq_getElem?_getD, List.getElem?_eq_none (by omega)]
    rfl
/-! ### Results -/
theorem resL_true {ρ : Rm} {e : Env} {a : Act} {h : Hp} {σ : H} (N : Kn gN ρ e a) (R : Rel ρ h σ) {w : World} (hw : σ.le w) : ∀ {rs : List ResultVar} {l : List RS} {k : List SV → Bool}, rsOf P gN rs = some l → resL l e h k = true →
    ∃ xs vs, vals ρ xs = some vs ∧ (rs.mapM (resOne a.tmps)).run P w = .ok vs w ∧ k xs = true := by
  intro rs
  induction rs with
  | nil => intro l k h1 h2; simp only [rsOf] at h1; cases h1; exact ⟨[], [], rfl, by simp, h2⟩
  | cons r rs ih =>
    intro l k h1 h2
    have hsrc : ∀ {t : Nat}, t < gN.N → srcOf gN (.tmp t) = some (.t (dg20 (t / 16)) (dg16 (t % 16))) := by
      intro t ht
      unfold srcOf
      have : Nat.blt t gN.N = true := Nat.ble_eq_true_of_le ht
      simp only [this]
    cases r with
    | tmp t =>
      simp only [rsOf] at h1
      split at h1
      · rename_i l' hl'
        split at h1
        · rename_i ht
          cases h1
          have ht := blt_lt ht
          have h3 : (src (.t (dg20 (t / 16)) (dg16 (t % 16))) e fun v => resL l' e h fun vs => k (v :: vs)) = true := h2
          obtain ⟨y, e1, e2, h4⟩ := src_true N (hsrc ht) h3
          obtain ⟨xs, vs, q1, q2, q3⟩ := ih hl' h4
          refine ⟨y :: xs, _, vals_of e1 q1, ?_, q3⟩
          simp [List.mapM_cons, resOne, q2, Act.eval]
        · cases h1
      · cases h1
    | cell c t =>
      simp only [rsOf] at h1
      split at h1
      · rename_i n l' hc ht hl'
        cases h1
        have hc := blt_lt hc
        obtain ⟨a1, a2⟩ := agT_some ht
        have h3 : (src (.t (dg20 (c / 16)) (dg16 (c % 16))) e fun p => asP p fun aa v o => rdn aa v o n h fun l => (resL l' e h fun vs => k (.g l :: vs))) = true := h2
        obtain ⟨y, e1, e2, h4⟩ := src_true N (hsrc hc) h3
        obtain ⟨aa, v, o, rfl, h5⟩ := asP_true h4
        obtain ⟨b, hb, hV⟩ := p_some e1
        obtain ⟨b', lx, us, q1, q2, q3, q4, h6⟩ := rdn_true R h5
        rw [hb] at q1; cases q1
        obtain ⟨xs, vs, r1, r2, r3⟩ := ih hl' h6
        have hld := rdA_sound a1 a2 q3 hw
        simp only [Instr.loadAt, Sem.run_bind, run_sureAddr, Result.andThen_ok] at hld
        have hcv : a.tmps.getD c undef = .pointer (some ⟨b, o, none⟩) := hV
        refine ⟨.g lx :: xs, .agg ⟨us⟩ :: vs, vals_of (by simp only [val, q2]) r1, ?_, r3⟩
        simp [List.mapM_cons, resOne, hcv, asAddr, hld, r2]
      · rename_i l' hc ht hl'
        cases h1
        have hc := blt_lt hc
        have a1 := agT_none ht
        have h3 : (src (.t (dg20 (c / 16)) (dg16 (c % 16))) e fun p => asP p fun aa v o => rd1 aa v o h fun x => (resL l' e h fun vs => k (x :: vs))) = true := h2
        obtain ⟨y, e1, e2, h4⟩ := src_true N (hsrc hc) h3
        obtain ⟨aa, v, o, rfl, h5⟩ := asP_true h4
        obtain ⟨b, hb, hV⟩ := p_some e1
        obtain ⟨b', x, w', q1, q2, q3, h6⟩ := rd1_true R h5
        rw [hb] at q1; cases q1
        obtain ⟨xs, vs, r1, r2, r3⟩ := ih hl' h6
        have hld := rdC_sound a1 q3 hw
        simp only [Instr.loadAt, Sem.run_bind, run_sureAddr, Result.andThen_ok] at hld
        have hcv : a.tmps.getD c undef = .pointer (some ⟨b, o, none⟩) := hV
        refine ⟨x :: xs, w' :: vs, vals_of q2 r1, ?_, r3⟩
        simp [List.mapM_cons, resOne, hcv, asAddr, hld, r2]
      · cases h1
theorem resK_true {ρ : Rm} {e : Env} {a : Act} {h : Hp} {σ : H} {fn : Func} (N : Kn gN ρ e a) (R : Rel ρ h σ) {l : List RS} {k : SV → Bool} (hr : rsOf P gN fn.results.toList = some l) (hk : resK l e h k = true) :
    ∀ w, σ.le w → ∃ x V, val ρ x = some V ∧ (results fn a.tmps).run P w = .ok V w ∧ k x = true := by
  have hk1 : (resL l e h fun vs => tup vs k) = true := hk
  have main : ∀ w, σ.le w → ∃ x V, val ρ x = some V ∧ (results fn a.tmps).run P w = .ok V w ∧ k x = true := by
    intro w hw
    obtain ⟨xs, vs, q1, q2, q3⟩ := resL_true N R hw hr hk1
    have h3 : (fn.results.mapM (resOne a.tmps)).run P w = .ok vs.toArray w := by
      rw [Array.mapM_eq_mapM_toList]
      simp [q2]
    have h4 : (results fn a.tmps).run P w = .ok (tupL vs) w := by
      simp only [results, Sem.run_bind]
      show ((fn.results.mapM (resOne a.tmps)).run P w).andThen _ = _
      rw [h3]
      simp only [Result.andThen_ok, Sem.run_pure]
      congr 1
      cases vs with
      | nil => rfl
      | cons v vs => cases vs with
        | nil => rfl
        | cons u us => simp [tupL]
    cases xs with
    | nil =>
      simp only [vals] at q1; cases q1
      exact ⟨.t [], _, by simp [val, vals, tupL], h4, q3⟩
    | cons x xs =>
      obtain ⟨v, us, r1, r2, rfl⟩ := vals_cons q1
      cases xs with
      | nil =>
        simp only [vals] at r2; cases r2
        exact ⟨x, _, r1, h4, q3⟩
      | cons x2 xs =>
        obtain ⟨v2, us2, r3, r4, rfl⟩ := vals_cons r2
        exact ⟨.t (x :: x2 :: xs), _, by simp [val, q1, tupL], h4, q3⟩
  exact main
/-! ### Leaving -/
theorem leaves_marksG {fn : Func} {tmps : Array Value} {R : Ending → World → Prop} {n B : Nat} {σ : H} {u : FrameMode} (hu : u ≠ .run) {ds : List Deferred} : ∀ (ms : List Nat) (w : World), ms.Nodup → (∀ r ∈ ms, B ≤ r ∧ σ r = none ∧ w.heap[r]? = some (.deferred (some []))) → σ.le w →
    (∀ w', σ.le w' → w'.heap.size = w.heap.size → (∀ b, b < B → w'.heap[b]? = w.heap[b]?) → w'.os = w.os → w'.tape = w.tape → w'.output = w.output → LeavesInM Fence.wide n P fn tmps R ds u w') →
    LeavesInM Fence.wide n P fn tmps R (ms.map markOf ++ ds) u w := by
  intro ms
  induction ms with
  | nil =>
    intro w _ _ hw h
    exact h w hw rfl (fun _ _ => rfl) rfl rfl rfl
  | cons r ms ih =>
    intro w hnd hms hw h
    obtain ⟨hrm, hnd⟩ := List.nodup_cons.1 hnd
    obtain ⟨hB, hn, hr⟩ := hms r (List.mem_cons_self ..)
    have hle : σ.le { w with heap := w.heap.setIfInBounds r (.deferred none) } := by
      intro b o hb
      have hne : r ≠ b := by intro e; subst e; rw [hn] at hb; cases hb
      show (w.heap.setIfInBounds r (.deferred none))[b]? = _
      rw [Array.getElem?_setIfInBounds, if_neg hne]; exact hw b o hb
    refine ⟨hu, .inl ⟨r, { w with heap := w.heap.setIfInBounds r (.deferred none) }, rfl, ?_, ?_⟩⟩
    · have hg : (getObj r).run P w = .ok (.deferred (some [])) w := by simp [getObj, Sem.run, hr]
      have hs : (setObj r (.deferred none)).run P w = .ok () { w with heap := w.heap.setIfInBounds r (.deferred none) } := by simp [setObj, Sem.run, hr]
      simp [Instr.takeDeferred, hg, hs]
    · refine ih _ hnd (fun r' hr' => ?_) hle fun w' h1 h2 h3 h4 h5 h6 => ?_
      · obtain ⟨q1, q2, q3⟩ := hms r' (List.mem_cons_of_mem _ hr')
        refine ⟨q1, q2, ?_⟩
        have hne : r ≠ r' := by intro e; subst e; exact hrm hr'
        show (w.heap.setIfInBounds r (.deferred none))[r']? = _
        rw [Array.getElem?_setIfInBounds, if_neg hne]; exact q3
      · refine h w' h1 (by simpa using h2) (fun b hb => ?_) h4 h5 h6
        rw [h3 b hb]
        show (w.heap.setIfInBounds r (.deferred none))[b]? = _
        rw [Array.getElem?_setIfInBounds, if_neg (by omega)]
/-- a world that differs in marks alone -/
theorem ext_marks {σ0 σ : H} {w0 w w' : World} (he : HL.Ext σ0 w0 σ w) (h1 : σ.le w') (h2 : w'.heap.size = w.heap.size) (h3 : ∀ b, b < w0.heap.size → w'.heap[b]? = w.heap[b]?) (h4 : w'.os = w.os) (h5 : w'.tape = w.tape) (h6 : w'.output = w.output) : HL.Ext σ0 w0 σ w' :=
  ⟨h1, by rw [h2]; exact he.size, fun b hb hn => by rw [h3 b hb]; exact he.keep b hb hn, he.own, h4.trans he.os, h5.trans he.tape, h6.trans he.output⟩
theorem kn0 {gl : Nat → Nat} {ρ : Rm} {fn : Func} {l : List SV} {vs : List Value} (hv : vals ρ l = some vs) (hl : l.length ≤ 16) (hN : fn.ntmps ≤ 320) (hG : GOk gl ρ) : Kn ⟨fn.ntmps, gl⟩ ρ (env0 (argN l 0 u1)) (act0 fn vs) := by
  refine ⟨enter_fr hv hl, ?_, hN, hG⟩
  show fn.ntmps ≤ (act0 fn vs).tmps.size
  unfold act0
  simp
  omega
theorem len16 {l : List SV} {k : N16 SV → Bool} (h : args l 0 u1 k = true) : l.length ≤ 16 := by
  rcases args_true h with q | q
  · omega
  · subst q; simp
/-- a plain function -/
theorem fn_plain (hm : P.follows .mixedOrders = true) (hF : FNo F) (hH : HkOk P hk fx) {gl : Nat → Nat} {g : FuncId} {fn : Func} {c : Code} {rs : List RS} (hf : P.funcs[g]? = some fn) (hb : fn.body = some c) (hrs : rsOf P ⟨fn.ntmps, gl⟩ fn.results.toList = some rs) (hN : fn.ntmps ≤ 320) (hT : T g = layC P ⟨fn.ntmps, gl⟩ mt hk ord c (.rt rs) (fun _ => .no) (.rt rs)) (hrg : rgOk P ord c = true)
    {n : Nat} (hC : ∀ m, m < n → CallsOk P T F gl mt hk fx m) (hR : ∀ m, m ≤ n → RfOk P T F ⟨fn.ntmps, gl⟩ mt hk fx ord m) {l : List SV} {S : Stk} {h : Hp} {ρ : Rm} {σ : H} {vs : List Value} (hg : enter T (go T F n) g l S h = true) (R : Rel ρ h σ) (hv : vals ρ l = some vs) (hG : GOk gl ρ) (hL : ρ.lo = LO P gl mt hk fx) :
    callX P g vs (RetS T F n ρ S) (PanS T F n ρ S) σ := by
  have hl := len16 hg
  have hg1 : go T F n (T g) (env0 (argN l 0 u1)) S h = true := args_eq (k := fun N => go T F n (T g) (env0 N) S h) hg
  rw [hT] at hg1
  have N := kn0 (fn := fn) hv hl hN hG
  intro w hw
  refine callsIn_of_wp_marks hf hb trivial ?_
  refine wpIn_mono (code_run (dp := 0) (B := w.heap.size) (ds := []) hm hF hH c true n none (.inl ⟨rfl, rfl⟩) hC hR hrg hL ⟨n, ρ, _, h, Nat.le_refl _, Rm.le.refl _, N, R, hg1⟩ hw (DefM.nil _ _ _ _ _) (Nat.le_refl _)) fun ex a w' hp => ?_
  have fin : ∀ σ', HL.Ext σ w σ' w' → DefM true w.heap.size σ' w' [] a.defers → Run T F ⟨fn.ntmps, gl⟩ n ρ (.rt rs) S a σ' → LeavesInM Fence.wide 0 P fn a.tmps (fun e w' => (∃ v, e = .returned v ∧ ∃ σ', HL.Ext σ w σ' w' ∧ RetS T F n ρ S v σ') ∨ (∃ v, e = .panicked (chain1 v) ∧ ∃ σ', HL.Ext σ w σ' w' ∧ PanS T F n ρ S v σ')) a.defers .returning w' := by
    intro σ' he hd hr
    obtain ⟨m, ρ', e, h', q1, q2, N', R', q5⟩ := hr
    obtain ⟨m', rfl⟩ := fuel_pos hF q5
    have q6 : resK rs e h' (fun v => ret T (go T F m') v S h') = true := q5
    obtain ⟨ms, _, d1, d2, d3⟩ := hd
    rw [d2]
    refine leaves_marksG (by simp) ms w' d1 d3 he.le fun w'' p1 p2 p3 p4 p5 p6 => ?_
    obtain ⟨x, V, r1, r2, r3⟩ := resK_true N' R' hrs q6 w'' p1
    exact ⟨V, r2, .inl ⟨V, rfl, σ', ext_marks he p1 p2 p3 p4 p5 p6, m', ρ', h', x, by omega, q2, R', r1, r3⟩⟩
  cases ex with
  | normal => obtain ⟨σ', he, hd, hr⟩ := hp; exact fin σ' he hd hr
  | ret => obtain ⟨σ', he, hd, hr⟩ := hp; exact fin σ' he hd hr
  | exit i => obtain ⟨σ', he, hd, hr⟩ := hp; exact (Run.out hF hr).elim
  | goto l => exact hp.elim
  | panic ch =>
    obtain ⟨v, σ', rfl, he, hd, hr⟩ := hp
    obtain ⟨m, ρ', e, h', x, q1, q2, N', R', q5, q6⟩ := hr
    obtain ⟨ms, _, d1, d2, d3⟩ := hd
    show LeavesInM Fence.wide 0 P fn a.tmps _ a.defers (.panicking (chain1 v)) w'
    rw [d2]
    refine leaves_marksG (by simp) ms w' d1 d3 he.le fun w'' p1 p2 p3 p4 p5 p6 => ?_
    exact .inr ⟨v, rfl, σ', ext_marks he p1 p2 p3 p4 p5 p6, m, ρ', e, h', x, q1, q2, R', q5, q6⟩
  | outgrown => exact hp.elim
end
end Go.Ev

namespace Go.Ev
open Go Go.HL
/-- a bit of a number -/
def bitq (q g : Nat) : Bool := Nat.beq (Nat.land (Nat.shiftRight q g) 1) 1
/-- what is put off -/
def DfRel (q : Nat) (ρ : Rm) : List DF → List Deferred → Prop
  | [], [] => True
  | .mk g l :: ds, D :: Ds => bitq q g = true ∧ (∃ as1 cs, D = { target := .fn (.func g) ⟨cs⟩, args := ⟨as1⟩ } ∧ vals ρ l = some (as1 ++ cs)) ∧ DfRel q ρ ds Ds
  | _, _ => False
theorem DfRel.le {q : Nat} {ρ ρ' : Rm} (hl : ρ.le ρ') : ∀ {ds : List DF} {Ds : List Deferred}, DfRel q ρ ds Ds → DfRel q ρ' ds Ds := by
  intro ds
  induction ds with
  | nil => intro Ds h; cases Ds with
    | nil => trivial
    | cons D Ds => exact h.elim
  | cons d ds ih =>
    obtain ⟨g, l⟩ := d
    intro Ds h
    cases Ds with
    | nil => exact h.elim
    | cons D Ds =>
      obtain ⟨h1, ⟨as1, cs, h2, h3⟩, h4⟩ := h
      exact ⟨h1, ⟨as1, cs, h2, vals_le hl l h3⟩, ih h4⟩
def MoRel (ρ : Rm) : Mo → Md → Prop
  | .ret, .ret => True
  | .pan x, .pan v => val ρ x = some v
  | _, _ => False
theorem MoRel.le {ρ ρ' : Rm} (hl : ρ.le ρ') {mo : Mo} {md : Md} (h : MoRel ρ mo md) : MoRel ρ' mo md := by
  cases mo <;> cases md <;> first
    | trivial
    | exact h.elim
    | exact val_le hl _ h
section
variable (P : Program) (T : Nat → PC) (F : Go) (gl : Nat → Nat) (mt : String → Nat → Nat) (hk : Nat → Option (Nat × Nat)) (fx : Nat → Option Obj) (q : Nat)
/-- calls that are put off, in runs of a length -/
def DefsOk (n : Nat) : Prop := ∀ {g : Nat} {l : List SV} {mo : Mo} {ds : List DF} {rs : List RS} {e : Env} {S : Stk} {h : Hp} {ρ : Rm} {σ : H} {vs : List Value} {md : Md}, bitq q g = true → enter T (go T F n) g l (.dr mo ds rs e :: S) h = true → Rel ρ h σ → vals ρ l = some vs → GOk gl ρ → ρ.lo = LO P gl mt hk fx → MoRel ρ mo md →
  callD P g vs md (fun md' σ' => ∃ (m : Nat) (ρ' : Rm) (h' : Hp) (mo' : Mo), m ≤ n ∧ ρ.le ρ' ∧ Rel ρ' h' σ' ∧ MoRel ρ' mo' md' ∧ leave T (go T F m) (retC (go T F m)) mo' rs ds e S h' = true) σ
end
section
variable {P : Program} {T : Nat → PC} {F : Go} {gl : Nat → Nat} {q : Nat} {mt : String → Nat → Nat} {hk : Nat → Option (Nat × Nat)} {fx : Nat → Option Obj} {ord : Nat → Option (List Nat × List (List Nat))}
theorem retC_ret {ih : Go} {x : SV} {S : Stk} {h : Hp} (hr : retC ih x S h = true) : ret T ih x S h = true := by
  cases S with
  | nil => cases hr
  | cons s S => cases s <;> first
    | exact hr
    | cases hr
/-- how a function's run ends -/
def EndR (T : Nat → PC) (F : Go) (n : Nat) (ρ0 : Rm) (S : Stk) (σ0 : H) (w0 : World) : Ending → World → Prop := fun e w' => (∃ v, e = .returned v ∧ ∃ σ', HL.Ext σ0 w0 σ' w' ∧ RetS T F n ρ0 S v σ') ∨ (∃ v, e = .panicked (chain1 v) ∧ ∃ σ', HL.Ext σ0 w0 σ' w' ∧ PanS T F n ρ0 S v σ')
theorem leave_ok {fn : Func} (hqg : ∀ g, bitq q g = true → isGo P g = true) {n0 : Nat} (hD : ∀ m, m < n0 → DefsOk P T F gl mt hk fx q m) {σ0 : H} {w0 : World} {ρ0 : Rm} (hL : ρ0.lo = LO P gl mt hk fx) {S : Stk} {rs : List RS} (hrs : rsOf P ⟨fn.ntmps, gl⟩ fn.results.toList = some rs) :
    ∀ (ds : List DF) {Ds : List Deferred} {m : Nat} {mo : Mo} {md : Md} {rt : SV → Stk → Hp → Bool} {e : Env} {a : Act} {ρ : Rm} {h : Hp} {σ : H} {w : World}, m < n0 → (∀ x h, rt x S h = true → ret T (go T F m) x S h = true) → leave T (go T F m) rt mo rs ds e S h = true → Kn ⟨fn.ntmps, gl⟩ ρ e a → Rel ρ h σ → ρ0.le ρ → DfRel q ρ ds Ds → MoRel ρ mo md → HL.Ext σ0 w0 σ w →
    LeavesIn Fence.wide 0 P fn a.tmps (EndR T F n0 ρ0 S σ0 w0) Ds md.mode w := by
  intro ds
  induction ds with
  | nil =>
    intro Ds m mo md rt e a ρ h σ w hm hrt hl N R hρ hds hmo he
    cases Ds with
    | cons D Ds => exact hds.elim
    | nil =>
      cases mo with
      | ret =>
        cases md with
        | pan v => exact hmo.elim
        | ret =>
          have hl1 : resK rs e h (fun v => rt v S h) = true := hl
          obtain ⟨x, V, r1, r2, r3⟩ := resK_true N R hrs hl1 w he.le
          exact ⟨V, r2, .inl ⟨V, rfl, σ, he, m, ρ, h, x, Nat.le_of_lt hm, hρ, R, r1, hrt _ _ r3⟩⟩
      | pan x =>
        cases md with
        | ret => exact hmo.elim
        | pan v => exact .inr ⟨v, rfl, σ, he, m, ρ, e, h, x, Nat.le_of_lt hm, hρ, R, hmo, hl⟩
  | cons d ds ih =>
    obtain ⟨g, l⟩ := d
    intro Ds m mo md rt e a ρ h σ w hm hrt hl N R hρ hds hmo he
    cases Ds with
    | nil => exact hds.elim
    | cons D Ds =>
      obtain ⟨h1, ⟨as1, cs, h2, h3⟩, h4⟩ := hds
      subst h2
      have hgo := hqg g h1
      have hl1 : enter T (go T F m) g l (.dr mo ds rs e :: S) h = true := hl
      refine ⟨by cases md <;> simp [Md.mode], (fun h => by cases h), .func g, ⟨cs⟩, g, (as1 ++ cs).toArray, rfl, ?_, fun _ _ => trivial, ?_⟩
      · show (invoke (.fn (.func g) ⟨cs⟩) ⟨as1⟩).run P w = _
        simp only [invoke]
        rw [callFunc_go hgo]; simp
      · refine CallsDIn.mono (hD m hm h1 hl1 R h3 N.G (hρ.lo.trans hL) hmo w he.le) fun en u' w' ⟨md', σ', he', ⟨m', ρ', h', mo', k1, k2, k3, k4, k5⟩, v, hv, hs⟩ => ?_
        subst hv
        show LeavesIn Fence.wide 0 P fn a.tmps (EndR T F n0 ρ0 S σ0 w0) Ds (settle u') w'
        rw [hs]
        exact ih (Nat.lt_of_le_of_lt k1 hm) (fun x h hx => retC_ret hx) k5 (N.le k2) k3 (hρ.trans k2) (h4.le k2) k4 (he.trans he')
theorem dr_uw (hF : FNo F) {n : Nat} {x : SV} {e e' : Env} {mo : Mo} {ds : List DF} {rs : List RS} {S : Stk} {h : Hp} (hg : go T F n (.uw x) e (.dr mo ds rs e' :: S) h = true) : False := by
  obtain ⟨m, rfl⟩ := fuel_pos hF hg
  cases hg
theorem settle_mode (md : Md) : settle md.mode = md.mode := by cases md <;> rfl
/-- a plain function that is put off -/
theorem deferred_plain (hm : P.follows .mixedOrders = true) (hF : FNo F) (hH : HkOk P hk fx) {g : FuncId} {fn : Func} {c : Code} {rs' : List RS} (hf : P.funcs[g]? = some fn) (hb : fn.body = some c) (hrs : rsOf P ⟨fn.ntmps, gl⟩ fn.results.toList = some rs') (hN : fn.ntmps ≤ 320) (hT : T g = layC P ⟨fn.ntmps, gl⟩ mt hk ord c (.rt rs') (fun _ => .no) (.rt rs')) (hrg : rgOk P ord c = true) (hnr : noRf c = true)
    {n : Nat} (hC : ∀ m, m < n → CallsOk P T F gl mt hk fx m) (hR : ∀ m, m ≤ n → RfOk P T F ⟨fn.ntmps, gl⟩ mt hk fx ord m) {l : List SV} {mo : Mo} {ds : List DF} {rs : List RS} {e0 : Env} {S : Stk} {h : Hp} {ρ : Rm} {σ : H} {vs : List Value} {md : Md} (hg : enter T (go T F n) g l (.dr mo ds rs e0 :: S) h = true) (R : Rel ρ h σ) (hv : vals ρ l = some vs) (hG : GOk gl ρ) (hL : ρ.lo = LO P gl mt hk fx) (hmo : MoRel ρ mo md) :
    callD P g vs md (fun md' σ' => ∃ (m : Nat) (ρ' : Rm) (h' : Hp) (mo' : Mo), m ≤ n ∧ ρ.le ρ' ∧ Rel ρ' h' σ' ∧ MoRel ρ' mo' md' ∧ leave T (go T F m) (retC (go T F m)) mo' rs ds e0 S h' = true) σ := by
  have hl := len16 hg
  have hg1 : go T F n (T g) (env0 (argN l 0 u1)) (.dr mo ds rs e0 :: S) h = true := args_eq (k := fun N => go T F n (T g) (env0 N) (.dr mo ds rs e0 :: S) h) hg
  rw [hT] at hg1
  have N := kn0 (fn := fn) hv hl hN hG
  intro w hw
  refine CallsDIn.mono (callsDIn_of_wp (R := fun e w' => ∃ σ' v, HL.Ext σ w σ' w' ∧ (∃ (m : Nat) (ρ' : Rm) (h' : Hp) (mo' : Mo), m ≤ n ∧ ρ.le ρ' ∧ Rel ρ' h' σ' ∧ MoRel ρ' mo' md ∧ leave T (go T F m) (retC (go T F m)) mo' rs ds e0 S h' = true) ∧ e = .returned v) hf hb trivial ?_) fun e u' w' ⟨hu, σ', v, he, hk, hv⟩ => ⟨md, σ', he, hk, v, hv, by rw [hu]; exact settle_mode md⟩
  refine wpIn_mono (code_run (dp := 0) (B := w.heap.size) (ds := []) hm hF hH c false n none (.inr hnr) hC hR hrg hL ⟨n, ρ, _, h, Nat.le_refl _, Rm.le.refl _, N, R, hg1⟩ hw (DefM.nil _ _ _ _ _) (Nat.le_refl _)) fun ex a w' hp => ?_
  have nod : ∀ {σ' : H}, DefM false w.heap.size σ' w' [] a.defers → a.defers = [] := by
    intro σ' ⟨ms, h0, _, h2, _⟩
    rw [h2, h0 rfl]; rfl
  have fin : ∀ σ', HL.Ext σ w σ' w' → DefM false w.heap.size σ' w' [] a.defers → Run T F ⟨fn.ntmps, gl⟩ n ρ (.rt rs') (.dr mo ds rs e0 :: S) a σ' → a.defers = [] ∧ ∃ v, (results fn a.tmps).run P w' = .ok v w' ∧ ∃ σ' v', HL.Ext σ w σ' w' ∧ (∃ (m : Nat) (ρ' : Rm) (h' : Hp) (mo' : Mo), m ≤ n ∧ ρ.le ρ' ∧ Rel ρ' h' σ' ∧ MoRel ρ' mo' md ∧ leave T (go T F m) (retC (go T F m)) mo' rs ds e0 S h' = true) ∧ Ending.returned v = .returned v' := by
    intro σ' he hd hr
    obtain ⟨m, ρ', e, h', q1, q2, N', R', q5⟩ := hr
    obtain ⟨m', rfl⟩ := fuel_pos hF q5
    have q6 : resK rs' e h' (fun v => ret T (go T F m') v (.dr mo ds rs e0 :: S) h') = true := q5
    obtain ⟨x, V, r1, r2, r3⟩ := resK_true N' R' hrs q6 w' he.le
    exact ⟨nod hd, V, r2, σ', V, he, ⟨m', ρ', h', mo, by omega, q2, R', hmo.le q2, r3⟩, rfl⟩
  cases ex with
  | normal => obtain ⟨σ', he, hd, hr⟩ := hp; exact fin σ' he hd hr
  | ret => obtain ⟨σ', he, hd, hr⟩ := hp; exact fin σ' he hd hr
  | exit i => obtain ⟨σ', he, hd, hr⟩ := hp; exact (Run.out hF hr).elim
  | goto l => exact hp.elim
  | panic ch =>
    obtain ⟨v, σ', rfl, he, hd, hr⟩ := hp
    obtain ⟨m, ρ', e, h', x, q1, q2, N', R', q5, q6⟩ := hr
    exact (dr_uw hF q6).elim
  | outgrown => exact hp.elim
/-! ### Recover -/
theorem allS_get : ∀ {r : List Oper} {j : Nat} {o : Oper}, allS P r = true → r[j]? = some o → o.guard = none ∧ clsOf P o.op = 0 := by
  intro r
  induction r with
  | nil => intro j o _ h; simp at h
  | cons y r ih =>
    intro j o h hj
    simp only [allS] at h
    split at h
    · rename_i h1 h2
      cases j with
      | zero => simp at hj; subst hj; exact ⟨h1, h2⟩
      | succ j => exact ih h (by simpa using hj)
    · cases h
theorem layR_S {gN : Cx} (hF : FNo F) (hH : HkOk P hk fx) {ops : Array Oper} {k : PC} {S : Stk} {ρ0 : Rm} (hL : ρ0.lo = LO P gN.g mt hk fx) {n : Nat} {σ : H} {w : World} {Q : Exit → Act → List Frame → World → Prop} {cs : List Frame} (hC : ∀ m, m < n → CallsOk P T F gN.g mt hk fx m) : ∀ (l : List Nat) {a : Act}, (∀ i ∈ l, ∀ o, ops[i]? = some o → o.guard = none ∧ clsOf P o.op = 0) → Run T F gN n ρ0 (layR P gN mt hk ops.toList l k) S a σ →
    (∀ a', a'.defers = a.defers → Run T F gN n ρ0 k S a' σ → Q .normal a' cs w) → wpOpsSIn Fence.wide 0 P ops Q l a cs w := by
  intro l
  induction l with
  | nil => intro a _ h hq; exact hq a rfl h
  | cons i l ih =>
    intro a hl h hq
    obtain ⟨m, ρ, e, h', q1, q2, N, R, hg⟩ := h
    simp only [layR] at hg
    simp only [wpOpsSIn]
    split at hg
    · rename_i o ho
      have ho' := toList_get ho
      simp only [ho']
      obtain ⟨hgd, hcl⟩ := hl i (List.mem_cons_self ..) o ho'
      obtain ⟨hpl, hd, hst⟩ := layG_step (ops := ops) hF hH (fun m' hm' => hC m' (by omega)) N R (q2.lo.trans hL) hg
      have hwd : Region.wanted o (yielded ops a.tmps) = true := by simp [Region.wanted, hgd]
      rw [if_pos hwd] at hst
      unfold StepOk at hst
      rw [hcl] at hst
      obtain ⟨V, hV, hr⟩ := hst
      refine ⟨fun _ _ => trivial, ?_⟩
      rw [if_pos hwd, hV w]
      exact ih (fun j hj => hl j (List.mem_cons_of_mem _ hj)) ((hr.mono q1).pre q2) fun a' hd' hk => hq a' (hd'.trans (put_defers a o.dst V)) hk
    · exact (no_false hF hg).elim
theorem layV_some (hF : FNo F) {gN : Cx} {c : Code} {k : PC} {n : Nat} {e : Env} {S : Stk} {h : Hp} (hg : go T F n (layV P gN mt hk ord c k) e S h = true) : ∃ id ops y o d ty r, c = .seq (.region id ops false) y ∧ ops.toList = o :: r ∧ o.dst = d ∧ o.guard = none ∧ o.op = .call { callee := .builtin .recover, args := ⟨[]⟩, argTypes := ty } ∧ dstOk gN.N d = true ∧ allS P r = true ∧ noRf y = true ∧ layV P gN mt hk ord c k = .rc (dstOf d) (layR P gN mt hk ops.toList ((List.range ops.size).drop 1) (layC P gN mt hk ord y k (fun _ => .no) k)) := by
  generalize hl : layV P gN mt hk ord c k = p at hg
  unfold layV at hl
  split at hl
  · rename_i id ops y
    split at hl
    · rename_i d ty _ _ _ r ho
      split at hl
      · rename_i h1 h2 h3
        exact ⟨id, ops, y, _, d, ty, r, rfl, ho, rfl, rfl, rfl, h1, h2, h3, hl.symm⟩
      · subst hl; exact (no_false hF hg).elim
    · subst hl; exact (no_false hF hg).elim
  · subst hl; exact (no_false hF hg).elim
theorem deferred_rec (hm : P.follows .mixedOrders = true) (hF : FNo F) (hH : HkOk P hk fx) {g : FuncId} {fn : Func} {c : Code} {rs' : List RS} (hf : P.funcs[g]? = some fn) (hb : fn.body = some c) (hrs : rsOf P ⟨fn.ntmps, gl⟩ fn.results.toList = some rs') (hN : fn.ntmps ≤ 320) (hT : T g = layV P ⟨fn.ntmps, gl⟩ mt hk ord c (.rt rs')) (hrg : rgOk P ord c = true)
    {n : Nat} (hC : ∀ m, m < n → CallsOk P T F gl mt hk fx m) (hR : ∀ m, m ≤ n → RfOk P T F ⟨fn.ntmps, gl⟩ mt hk fx ord m) {l : List SV} {mo : Mo} {ds : List DF} {rs : List RS} {e0 : Env} {S : Stk} {h : Hp} {ρ : Rm} {σ : H} {vs : List Value} {md : Md} (hg : enter T (go T F n) g l (.dr mo ds rs e0 :: S) h = true) (R : Rel ρ h σ) (hv : vals ρ l = some vs) (hG : GOk gl ρ) (hL : ρ.lo = LO P gl mt hk fx) (hmo : MoRel ρ mo md) :
    callD P g vs md (fun md' σ' => ∃ (m : Nat) (ρ' : Rm) (h' : Hp) (mo' : Mo), m ≤ n ∧ ρ.le ρ' ∧ Rel ρ' h' σ' ∧ MoRel ρ' mo' md' ∧ leave T (go T F m) (retC (go T F m)) mo' rs ds e0 S h' = true) σ := by
  have hl := len16 hg
  have hg1 : go T F n (T g) (env0 (argN l 0 u1)) (.dr mo ds rs e0 :: S) h = true := args_eq (k := fun N => go T F n (T g) (env0 N) (.dr mo ds rs e0 :: S) h) hg
  rw [hT] at hg1
  have N := kn0 (fn := fn) hv hl hN hG
  obtain ⟨id, ops, y, o, d, ty, r, rfl, hops, o1, o2, o3, o4, hall, hnr, hlay⟩ := layV_some hF hg1
  rw [hlay] at hg1
  obtain ⟨n1, rfl⟩ := fuel_pos hF hg1
  have hmo' : MoRel ρ .ret .ret := trivial
  -- behind recover
  obtain ⟨xv, hxv, hg2⟩ : ∃ xv, val ρ xv = some md.rv ∧ go T F n1 (layR P ⟨fn.ntmps, gl⟩ mt hk ops.toList ((List.range ops.size).drop 1) (layC P ⟨fn.ntmps, gl⟩ mt hk ord y (.rt rs') (fun _ => .no) (.rt rs'))) (putE d (env0 (argN l 0 u1)) xv) (.dr .ret ds rs e0 :: S) h = true := by
    cases mo with
    | ret =>
      cases md with
      | pan v => exact hmo.elim
      | ret =>
        have h1 : put (dstOf d) (env0 (argN l 0 u1)) .e0 (fun e => go T F n1 (layR P ⟨fn.ntmps, gl⟩ mt hk ops.toList ((List.range ops.size).drop 1) (layC P ⟨fn.ntmps, gl⟩ mt hk ord y (.rt rs') (fun _ => .no) (.rt rs'))) e (.dr .ret ds rs e0 :: S) h) = true := hg1
        rw [put_eq] at h1
        exact ⟨.e0, rfl, h1⟩
    | pan x =>
      cases md with
      | ret => exact hmo.elim
      | pan v =>
        have h1 : put (dstOf d) (env0 (argN l 0 u1)) x (fun e => go T F n1 (layR P ⟨fn.ntmps, gl⟩ mt hk ops.toList ((List.range ops.size).drop 1) (layC P ⟨fn.ntmps, gl⟩ mt hk ord y (.rt rs') (fun _ => .no) (.rt rs'))) e (.dr .ret ds rs e0 :: S) h) = true := hg1
        rw [put_eq] at h1
        exact ⟨x, hmo, h1⟩
  have N2 := N.put o4 hxv
  have hrun : Run T F ⟨fn.ntmps, gl⟩ n1 ρ (layR P ⟨fn.ntmps, gl⟩ mt hk ops.toList ((List.range ops.size).drop 1) (layC P ⟨fn.ntmps, gl⟩ mt hk ord y (.rt rs') (fun _ => .no) (.rt rs'))) (.dr .ret ds rs e0 :: S) ((act0 fn vs).put d md.rv) σ := ⟨n1, ρ, _, h, Nat.le_refl _, Rm.le.refl _, N2, R, hg2⟩
  have ho : ops[0]? = some o := by
    have : ops.toList[0]? = some o := by rw [hops]; rfl
    simpa using this
  have hsz : ops.size = r.length + 1 := by
    have := congrArg List.length hops
    simpa using this
  have hrange : List.range ops.size = 0 :: (List.range ops.size).drop 1 := by
    rw [hsz, List.range_succ_eq_map]; rfl
  simp only [rgOk, Bool.and_eq_true] at hrg
  intro w hw
  refine callsDIn_of_wpSIn hf hb trivial fun c₀ cs hc0 => ?_
  refine wpSIn_seq (wpSIn_region ?_)
  rw [hrange]
  simp only [wpOpsSIn, ho]
  refine ⟨fun _ _ => trivial, ?_⟩
  have hwd : Region.wanted o (yielded ops (vs.toArray ++ Array.replicate (fn.ntmps - vs.toArray.size) undef)) = true := by simp [Region.wanted, o2]
  rw [if_pos hwd]
  have hrn : ∀ (ev : Operand → Value), (execOp ev o).run P w = .ok .recover w := by
    intro ev
    obtain ⟨dst, op, type, pos, after, guard⟩ := o
    simp only at o3; subst o3
    simp [execOp, resolve, invoke, builtin]
  rw [hrn]
  have hcs : (match recoverD (c₀ :: cs) with
      | some (v, cs') => v = md.rv ∧ cs' = { c₀ with mode := recMode md } :: cs
      | none => md.rv = .nilIface ∧ (c₀ :: cs : List Frame) = { c₀ with mode := recMode md } :: cs) := by
    cases md with
    | ret =>
      have : c₀.mode = .returning := hc0
      simp only [recoverD, this]
      refine ⟨rfl, ?_⟩
      show c₀ :: cs = { c₀ with mode := .returning } :: cs
      rw [← this]
    | pan v =>
      have : c₀.mode = .panicking [{ v, recovered := false }] := hc0
      simp only [recoverD, this]
      exact ⟨rfl, rfl⟩
  have hset : settle (recMode md) = Md.ret.mode := by cases md <;> rfl
  have go : wpOpsSIn Fence.wide 0 P ops (Exit.thenS (y.wpSIn Fence.wide 0 P (bodyPostS P fn c₀ cs fun e u' w' => ∃ m' σ', HL.Ext σ w σ' w' ∧ (∃ (m : Nat) (ρ' : Rm) (h' : Hp) (mo' : Mo), m ≤ n1 + 1 ∧ ρ.le ρ' ∧ Rel ρ' h' σ' ∧ MoRel ρ' mo' m' ∧ leave T (go T F m) (retC (go T F m)) mo' rs ds e0 S h' = true) ∧ ∃ v, e = .returned v ∧ settle u' = m'.mode)) (bodyPostS P fn c₀ cs fun e u' w' => ∃ m' σ', HL.Ext σ w σ' w' ∧ (∃ (m : Nat) (ρ' : Rm) (h' : Hp) (mo' : Mo), m ≤ n1 + 1 ∧ ρ.le ρ' ∧ Rel ρ' h' σ' ∧ MoRel ρ' mo' m' ∧ leave T (go T F m) (retC (go T F m)) mo' rs ds e0 S h' = true) ∧ ∃ v, e = .returned v ∧ settle u' = m'.mode)) ((List.range ops.size).drop 1)
      (Act.put { tmps := vs.toArray ++ Array.replicate (fn.ntmps - vs.toArray.size) undef, defers := [] } o.dst md.rv) ({ c₀ with mode := recMode md } :: cs) w := by
    rw [o1]
    refine layR_S (n := n1) (ρ0 := ρ) hF hH hL (fun m hm' => hC m (by omega)) _ (fun i hi o' ho' => ?_) hrun fun a' hd' hr => ?_
    · rw [hsz, List.range_succ_eq_map] at hi
      simp only [List.drop_succ_cons, List.drop_zero, List.mem_map, List.mem_range] at hi
      obtain ⟨j, _, rfl⟩ := hi
      have : ops.toList[j + 1]? = some o' := by simpa using ho'
      rw [hops] at this
      exact allS_get hall (by simpa using this)
    · have hd0 : a'.defers = [] := hd'.trans (put_defers _ d md.rv)
      refine wpSIn_of_wpIn rfl ?_
      refine wpIn_mono (code_run (dp := 0) (B := w.heap.size) (ds := []) hm hF hH y false n1 none (.inr hnr) (fun m hm' => hC m (by omega)) (fun m hm' => hR m (by omega)) hrg.2 hL hr hw (by rw [hd0]; exact DefM.nil _ _ _ _ _) (Nat.le_refl _)) fun ex a2 w2 hp => ?_
      have fin : ∀ σ', HL.Ext σ w σ' w2 → DefM false w.heap.size σ' w2 [] a2.defers → Run T F ⟨fn.ntmps, gl⟩ n1 ρ (.rt rs') (.dr .ret ds rs e0 :: S) a2 σ' → bodyPostS P fn c₀ cs (fun e u' w' => ∃ m' σ', HL.Ext σ w σ' w' ∧ (∃ (m : Nat) (ρ' : Rm) (h' : Hp) (mo' : Mo), m ≤ n1 + 1 ∧ ρ.le ρ' ∧ Rel ρ' h' σ' ∧ MoRel ρ' mo' m' ∧ leave T (go T F m) (retC (go T F m)) mo' rs ds e0 S h' = true) ∧ ∃ v, e = .returned v ∧ settle u' = m'.mode) .normal a2 ({ c₀ with mode := recMode md } :: cs) w2 := by
        intro σ' he hd2 hr2
        have hd2' : a2.defers = [] := by
          obtain ⟨ms, h0, _, h2, _⟩ := hd2
          rw [h2, h0 rfl]; rfl
        obtain ⟨m, ρ', e, h', q1, q2, N', R', q5⟩ := hr2
        obtain ⟨m', rfl⟩ := fuel_pos hF q5
        have q6 : resK rs' e h' (fun v => ret T (Ev.go T F m') v (.dr .ret ds rs e0 :: S) h') = true := q5
        obtain ⟨x, V, r1, r2, r3⟩ := resK_true N' R' hrs q6 w2 he.le
        exact ⟨hd2', recMode md, rfl, V, r2, .ret, σ', he, ⟨m', ρ', h', .ret, by omega, q2, R', trivial, r3⟩, V, rfl, hset⟩
      cases ex with
      | normal => obtain ⟨σ', he, hd, hr⟩ := hp; exact fin σ' he hd hr
      | ret => obtain ⟨σ', he, hd, hr⟩ := hp; exact fin σ' he hd hr
      | exit i => obtain ⟨σ', he, hd, hr⟩ := hp; exact (Run.out hF hr).elim
      | goto l => exact hp.elim
      | panic c =>
        obtain ⟨v, σ', _, he, hd, hr⟩ := hp
        obtain ⟨m, ρ', e, h', x, q1, q2, N', R', q5, q6⟩ := hr
        exact (dr_uw hF q6).elim
      | outgrown => exact hp.elim
  split at hcs
  · rename_i v cs' hrv
    obtain ⟨rfl, rfl⟩ := hcs
    simp only [hrv]
    exact go
  · rename_i hrv
    obtain ⟨h1, h2⟩ := hcs
    simp only [hrv]
    rw [h1] at go
    rw [h2]
    exact go
end
end Go.Ev

namespace Go.Ev
open Go Go.HL
section
variable {P : Program} {T : Nat → PC} {F : Go} {gl : Nat → Nat} {q : Nat} {mt : String → Nat → Nat} {hk : Nat → Option (Nat × Nat)} {fx : Nat → Option Obj} {ord : Nat → Option (List Nat × List (List Nat))}
theorem run_tailY {ops : Array Oper} {cl : Nat → Nat} {A : Nat → Nat → Bool} {X : Act → Value → H → Prop} {n : Nat} {Q : Exit → Act → World → Prop} {K : Pq → Act → H → Prop} (tail : List Nat) : ∀ (l : List Nat) {pend : Pq} {a : Act} {σ : H} {w : World}, σ.le w → SRunY P ops cl A X pend l a K σ →
    (∀ v a' σ' w', HL.Ext σ w σ' w' → X a' v σ' → Q (.panic (chain1 v)) a' w') → (∀ p' a' σ' w', HL.Ext σ w σ' w' → K p' a' σ' → wpOpsIn (FW none) n P ops Q tail a' w') → wpOpsIn (FW none) n P ops Q (l ++ tail) a w := by
  intro l
  induction l with
  | nil => intro pend a σ w hw h _ hq; exact hq _ a σ w (HL.Ext.refl hw) h
  | cons i l ih =>
    intro pend a σ w hw h hX hq
    rw [List.cons_append, wpOpsIn_cons]
    refine op_soundY hw h (fun v σ' w' he hx => hX v a σ' w' he hx) fun pend' v σ' w' he h' => ?_
    exact ih he.le h' (fun v a₂ σ₂ w₂ he₂ hx => hX v a₂ σ₂ w₂ (he.trans he₂) hx) fun p₂ a₂ σ₂ w₂ he₂ hk => hq _ _ _ _ (he.trans he₂) hk
theorem dfR_some : ∀ {l acc pre : List Oper} {f : Operand} {xs : List Operand}, dfR acc l = some (pre, f, xs) → ∃ o ty, acc.reverse ++ l = pre ++ [o] ∧ o.dst = none ∧ o.guard = none ∧ o.op = .defer { callee := .value f, args := ⟨xs⟩, argTypes := ty } := by
  intro l
  induction l with
  | nil => intro acc pre f xs h; simp [dfR] at h
  | cons o r ih =>
    intro acc pre f xs h
    unfold dfR at h
    split at h
    · rename_i heq
      cases heq
      cases h
      exact ⟨_, _, rfl, rfl, rfl, rfl⟩
    · rename_i heq
      cases heq
      obtain ⟨o', ty, h1, h2⟩ := ih h
      exact ⟨o', ty, by rw [← h1]; simp, h2⟩
    · rename_i heq; cases heq
theorem layS_seq {gN : Cx} {x y : Code} {k : PC} : (∃ id ops pre f xs s l, x = .region id ops false ∧ dfR [] ops.toList = some (pre, f, xs) ∧ srcOf gN f = some s ∧ srcL gN xs = some l ∧ layS P gN mt hk ord q (.seq x y) k = layR P gN mt hk ops.toList (List.range pre.length) (.df q s l (layS P gN mt hk ord q y k))) ∨ layS P gN mt hk ord q (.seq x y) k = .no ∨ layS P gN mt hk ord q (.seq x y) k = layC P gN mt hk ord x (layS P gN mt hk ord q y k) (fun _ => .no) k := by
  simp only [layS]
  split
  · rename_i id ops
    split
    · rename_i pre f xs hd
      split
      · rename_i s l hs hl; exact .inl ⟨id, ops, pre, f, xs, s, l, rfl, hd, hs, hl, rfl⟩
      · exact .inr (.inl rfl)
    · exact .inr (.inr rfl)
  · exact .inr (.inr rfl)
theorem fn_defer (hm : P.follows .mixedOrders = true) (hF : FNo F) (hH : HkOk P hk fx) (hqg : ∀ g, bitq q g = true → isGo P g = true) {g : FuncId} {fn : Func} {c : Code} {rs : List RS} (hf : P.funcs[g]? = some fn) (hb : fn.body = some c) (hrs : rsOf P ⟨fn.ntmps, gl⟩ fn.results.toList = some rs) (hN : fn.ntmps ≤ 320) (hT : T g = .dz rs (layS P ⟨fn.ntmps, gl⟩ mt hk ord q c .rl)) (hrg : rgOk P ord c = true) (hnr : noRf c = true)
    {n0 : Nat} (hC : ∀ m, m < n0 → CallsOk P T F gl mt hk fx m) (hR : ∀ m, m ≤ n0 → RfOk P T F ⟨fn.ntmps, gl⟩ mt hk fx ord m) (hD : ∀ m, m < n0 → DefsOk P T F gl mt hk fx q m) {l : List SV} {S : Stk} {h : Hp} {ρ : Rm} {σ : H} {vs : List Value} (hg : enter T (go T F n0) g l S h = true) (R : Rel ρ h σ) (hv : vals ρ l = some vs) (hG : GOk gl ρ) (hL : ρ.lo = LO P gl mt hk fx) :
    callX P g vs (RetS T F n0 ρ S) (PanS T F n0 ρ S) σ := by
  have hl := len16 hg
  have hg1 : go T F n0 (T g) (env0 (argN l 0 u1)) S h = true := args_eq (k := fun N => go T F n0 (T g) (env0 N) S h) hg
  rw [hT] at hg1
  have N := kn0 (fn := fn) hv hl hN hG
  intro w hw
  obtain ⟨n1, rfl⟩ := fuel_pos hF hg1
  have hg2 : go T F n1 (layS P ⟨fn.ntmps, gl⟩ mt hk ord q c .rl) (env0 (argN l 0 u1)) (.dl rs [] :: S) h = true := hg1
  refine callsIn_of_wp_defers hf hb trivial ?_
  -- how it ends
  have fin : ∀ {m : Nat} {ρ1 : Rm} {ds : List DF} {a : Act} {σ' : H} {w' : World}, m < n1 + 1 → ρ.le ρ1 → Run T F ⟨fn.ntmps, gl⟩ m ρ1 .rl (.dl rs ds :: S) a σ' → DfRel q ρ1 ds a.defers → HL.Ext σ w σ' w' → LeavesIn Fence.wide 0 P fn a.tmps (EndR T F (n1 + 1) ρ S σ w) a.defers .returning w' := by
    intro m ρ1 ds a σ' w' hm' hρ hr hds he
    obtain ⟨m1, ρ', e, h', q1, q2, N', R', q5⟩ := hr
    obtain ⟨m2, rfl⟩ := fuel_pos hF q5
    have q6 : leave T (go T F m2) (ret T (go T F m2)) .ret rs ds e S h' = true := q5
    exact leave_ok hqg hD hL hrs ds (md := .ret) (by omega) (fun _ _ h => h) q6 N' R' (hρ.trans q2) (hds.le q2) trivial he
  have pan : ∀ {m : Nat} {ρ1 : Rm} {ds : List DF} {a : Act} {v : Value} {σ' : H} {w' : World}, m < n1 + 1 → ρ.le ρ1 → Pan T F ⟨fn.ntmps, gl⟩ m ρ1 (.dl rs ds :: S) a v σ' → DfRel q ρ1 ds a.defers → HL.Ext σ w σ' w' → LeavesIn Fence.wide 0 P fn a.tmps (EndR T F (n1 + 1) ρ S σ w) a.defers (.panicking (chain1 v)) w' := by
    intro m ρ1 ds a v σ' w' hm' hρ hr hds he
    obtain ⟨m1, ρ', e, h', x, q1, q2, N', R', q5, q6⟩ := hr
    obtain ⟨m2, rfl⟩ := fuel_pos hF q6
    have q7 : leave T (go T F m2) (ret T (go T F m2)) (.pan x) rs ds e S h' = true := q6
    exact leave_ok hqg hD hL hrs ds (md := .pan v) (by omega) (fun _ _ h => h) q7 N' R' (hρ.trans q2) (hds.le q2) q5 he
  have plain : ∀ (x : Code) {m : Nat} {ρ1 : Rm} {ds : List DF} {k : PC} {a : Act} {σ' : H} {w' : World} {Q : Exit → Act → World → Prop}, noRf x = true → rgOk P ord x = true → m < n1 + 1 → ρ.le ρ1 → Run T F ⟨fn.ntmps, gl⟩ m ρ1 (layC P ⟨fn.ntmps, gl⟩ mt hk ord x k (fun _ => .no) .rl) (.dl rs ds :: S) a σ' → DfRel q ρ1 ds a.defers → HL.Ext σ w σ' w' →
      (∀ a' σ'' w'', a'.defers = a.defers → Run T F ⟨fn.ntmps, gl⟩ m ρ1 k (.dl rs ds :: S) a' σ'' → HL.Ext σ w σ'' w'' → Q .normal a' w'') → (∀ a' w', bodyPostDIn Fence.wide 0 P fn (EndR T F (n1 + 1) ρ S σ w) .ret a' w' → Q .ret a' w') → (∀ ch a' w', bodyPostDIn Fence.wide 0 P fn (EndR T F (n1 + 1) ρ S σ w) (.panic ch) a' w' → Q (.panic ch) a' w') → x.wpIn Fence.wide 0 P Q a w' := by
    intro x m ρ1 ds k a σ' w' Q hnx hgx hm' hρ hr hds he hn hret hpan
    refine wpIn_mono (code_run (dp := 0) (B := w'.heap.size) (ds := a.defers) hm hF hH x false m none (.inr hnx) (fun m2 h2 => hC m2 (by omega)) (fun m2 h2 => hR m2 (by omega)) hgx (hρ.lo.trans hL) hr he.le (DefM.nil _ _ _ _ _) (Nat.le_refl _)) fun ex a' w'' hp => ?_
    have nod : ∀ {σ'' : H}, DefM false w'.heap.size σ'' w'' a.defers a'.defers → a'.defers = a.defers := by
      intro σ'' ⟨ms, h0, _, h2, _⟩
      rw [h2, h0 rfl]; rfl
    cases ex with
    | normal => obtain ⟨σ'', he', hd, hr⟩ := hp; exact hn a' σ'' w'' (nod hd) hr (he.trans he')
    | exit i => obtain ⟨σ'', he', hd, hr⟩ := hp; exact (Run.out hF hr).elim
    | ret =>
      obtain ⟨σ'', he', hd, hr⟩ := hp
      refine hret a' w'' ?_
      exact fin hm' hρ hr (by rw [nod hd]; exact hds) (he.trans he')
    | goto l => exact hp.elim
    | panic ch =>
      obtain ⟨v, σ'', rfl, he', hd, hr⟩ := hp
      refine hpan _ a' w'' ?_
      exact pan hm' hρ hr (by rw [nod hd]; exact hds) (he.trans he')
    | outgrown => exact hp.elim
  have spine : ∀ (c : Code) {m : Nat} {ρ1 : Rm} {ds : List DF} {a : Act} {σ' : H} {w' : World}, noRf c = true → rgOk P ord c = true → m < n1 + 1 → ρ.le ρ1 → Run T F ⟨fn.ntmps, gl⟩ m ρ1 (layS P ⟨fn.ntmps, gl⟩ mt hk ord q c .rl) (.dl rs ds :: S) a σ' → DfRel q ρ1 ds a.defers → HL.Ext σ w σ' w' → c.wpIn Fence.wide 0 P (bodyPostDIn Fence.wide 0 P fn (EndR T F (n1 + 1) ρ S σ w)) a w' := by
    have last : ∀ (c : Code) {m : Nat} {ρ1 : Rm} {ds : List DF} {a : Act} {σ' : H} {w' : World}, noRf c = true → rgOk P ord c = true → m < n1 + 1 → ρ.le ρ1 → Run T F ⟨fn.ntmps, gl⟩ m ρ1 (layC P ⟨fn.ntmps, gl⟩ mt hk ord c .rl (fun _ => .no) .rl) (.dl rs ds :: S) a σ' → DfRel q ρ1 ds a.defers → HL.Ext σ w σ' w' → c.wpIn Fence.wide 0 P (bodyPostDIn Fence.wide 0 P fn (EndR T F (n1 + 1) ρ S σ w)) a w' := by
      intro c m ρ1 ds a σ' w' hnc hgc hm' hρ hr hds he
      refine plain c hnc hgc hm' hρ hr hds he (fun a' σ'' w'' hd hr' he' => ?_) (fun _ _ h => h) (fun _ _ _ h => h)
      exact fin hm' hρ hr' (by rw [hd]; exact hds) he'
    intro c
    induction c with
    | seq x y ihx ihy =>
      intro m ρ1 ds a σ' w' hnc hgc hm' hρ hr hds he
      have hnx : noRf x = true ∧ noRf y = true := by
        simp only [noRf] at hnc
        split at hnc
        · exact ⟨by assumption, hnc⟩
        · cases hnc
      simp only [rgOk, Bool.and_eq_true] at hgc
      rcases layS_seq (P := P) (gN := ⟨fn.ntmps, gl⟩) (mt := mt) (hk := hk) (ord := ord) (q := q) (x := x) (y := y) (k := .rl) with ⟨id, ops, pre, f, xs, s, ls, rfl, hdf, hs, hls, hlay⟩ | hlay | hlay
      · rw [hlay] at hr
        obtain ⟨o, ty, o0, o1, o2, o3⟩ := dfR_some hdf
        simp only [List.reverse_nil, List.nil_append] at o0
        have hsz : ops.size = pre.length + 1 := by
          have := congrArg List.length o0
          simpa using this
        have ho : ops[pre.length]? = some o := by
          have : ops.toList[pre.length]? = some o := by rw [o0]; simp
          simpa using this
        refine wpIn_seq (wpIn_region ?_)
        rw [hsz, List.range_succ]
        refine run_tailY [pre.length] _ he.le (layR_run hF hH (hρ.lo.trans hL) (List.range pre.length) (p := []) (fun m2 h2 => hC m2 (by omega)) rfl hr) (fun v a' σ'' w'' he' hx => ?_) (fun p' a' σ'' w'' he' hk => ?_)
        · obtain ⟨hd, hp⟩ := hx
          exact pan hm' hρ hp (by rw [hd]; exact hds) (he.trans he')
        · obtain ⟨hd, hr'⟩ := hk
          obtain ⟨m1, ρ', e, h', q1, q2, N', R', q5⟩ := hr'
          obtain ⟨m2, rfl⟩ := fuel_pos hF q5
          have q6 : (src s e fun fv => srcs ls e fun vs => SV.rec (motive_1 := fun _ => List SV → Stk → Bool) (motive_2 := fun _ => Bool) (fun _ _ _ => false) (fun _ _ _ => false) (fun _ _ _ _ => false) (fun _ _ _ => false) (fun _ _ _ _ => false) (fun _ _ => false) (fun _ _ _ _ _ => false) (fun _ _ => false) (fun _ _ _ _ _ _ _ => false) (fun _ _ _ _ _ _ _ _ => false) (fun _ _ => false) (fun _ _ _ => false) (fun _ _ => false) (fun g as1 cs _ _ vs S => yes (Nat.beq (Nat.land (Nat.shiftRight q g) 1) 1) (app vs cs fun l => app as1 l fun l => List.rec (α := SE) (motive := fun _ => Bool) false (fun x S _ => SE.rec (motive := fun _ => Bool) (fun _ => false) (fun _ _ _ _ => false) (fun rs ds => go T F m2 (layS P ⟨fn.ntmps, gl⟩ mt hk ord q y .rl) e (.dl rs (.mk g l :: ds) :: S) h') (fun _ _ _ _ => false) (fun _ _ _ _ _ => false) (fun _ _ _ _ => false) (fun _ => false) x) S)) (fun _ _ _ => false) (fun _ _ => false) (fun _ _ _ _ _ => false) (fun _ _ _ _ => false) (fun _ _ _ _ => false) false (fun _ _ _ _ => false) fv vs (.dl rs ds :: S)) = true := q5
          obtain ⟨fv, e1, e2, q7⟩ := src_true N' hs q6
          obtain ⟨us, e3, e4, q8⟩ := srcL_true N' hls q7
          cases fv with
          | f g' as1 cs =>
            obtain ⟨hbit, q9⟩ := yes_true q8
            rw [app_eq, app_eq] at q9
            obtain ⟨las, lcs, v1, v2, v3⟩ := f_some e1
            simp only [wpOpsIn, ho]
            have hwd : Region.wanted o (yielded ops a'.tmps) = true := by simp [Region.wanted, o2]
            rw [if_pos hwd]
            refine ⟨fun _ _ => trivial, ?_⟩
            have hs1 : (o.semAt (FW none).round a'.eval).run P w'' = .ok (.defer { target := .fn (.func g') ⟨lcs⟩, args := ⟨las ++ xs.map a'.eval⟩ }) w'' := by
              show (execOp a'.eval o).run P w'' = _
              obtain ⟨dst, op, type, pos, after, guard⟩ := o
              simp only at o3; subst o3
              simp only [execOp, resolve, map_mk, v3, Deferred.ofValue, Sem.run_bind, Sem.run_pure, Result.andThen_ok]
              simp
            rw [hs1, Oper.uponIn_defer, o1]
            refine ihy (m := m2) (ρ1 := ρ') (ds := .mk g' (as1 ++ (us ++ cs)) :: ds) hnx.2 hgc.2 (by omega) (hρ.trans q2) ⟨m2, ρ', e, h', Nat.le_refl _, Rm.le.refl _, ⟨N'.fr, N'.N, N'.M, N'.G⟩, R', q9⟩ ?_ (he.trans he')
            refine ⟨hbit, ⟨_, lcs, rfl, ?_⟩, ?_⟩
            · have := vals_app v1 (vals_app e3 v2)
              rw [this]; simp
            · show DfRel q ρ' ds a'.defers
              rw [hd]; exact hds.le q2
          | _ => cases q8
      · rw [hlay] at hr; exact (Run.out hF hr).elim
      · rw [hlay] at hr
        refine wpIn_seq (plain x hnx.1 hgc.1 hm' hρ hr hds he (fun a' σ'' w'' hd hr' he' => ?_) (fun _ _ h => h) (fun _ _ _ h => h))
        exact ihy hnx.2 hgc.2 hm' hρ hr' (by rw [hd]; exact hds) he'
    | _ => intro m ρ1 ds a σ' w' hnc hgc hm' hρ hr hds he; exact last _ hnc hgc hm' hρ hr hds he
  exact spine c (m := n1) (ds := []) hnr hrg (Nat.lt_succ_self _) (Rm.le.refl _) ⟨n1, ρ, _, h, Nat.le_refl _, Rm.le.refl _, N, R, hg2⟩ trivial (HL.Ext.refl hw)
end
end Go.Ev

namespace Go.Ev
open Go Go.HL
section
variable {P : Program} {T : Nat → PC} {F : Go} {gl : Nat → Nat} {q : Nat} {mt : String → Nat → Nat} {hk : Nat → Option (Nat × Nat)} {fx : Nat → Option Obj}
theorem rd_uw (hF : FNo F) {n : Nat} {x : SV} {e e' : Env} {a : Nat} {d : Dst} {k : PC} {S : Stk} {h : Hp} (hg : go T F n (.uw x) e (.rd a d k e' :: S) h = true) : False := by
  obtain ⟨m, rfl⟩ := fuel_pos hF hg
  cases hg
theorem it_uw (hF : FNo F) {n : Nat} {x : SV} {e e' : Env} {a : Nat} {k kr : PC} {kx : Nat → PC} {S : Stk} {h : Hp} (hg : go T F n (.uw x) e (.it a k kx kr e' :: S) h = true) : False := by
  obtain ⟨m, rfl⟩ := fuel_pos hF hg
  cases hg
/-- the parameters of a round -/
theorem pus_true {gN : Cx} {ρ : Rm} : ∀ {pl : List Nat} {vs : List SV} {us : List Value} {e : Env} {a : Act} {k : Env → Bool}, Kn gN ρ e a → allLt gN.N pl = true → vals ρ vs = some us → pus (pl.map fun t => dstOf (some t)) vs e k = true →
    us.length = pl.length ∧ ∃ e1, Kn gN ρ e1 { tmps := (pl.zip us).foldl (fun tm (x : Nat × Value) => tm.setIfInBounds x.1 x.2) a.tmps, defers := a.defers } ∧ k e1 = true := by
  intro pl
  induction pl with
  | nil =>
    intro vs us e a k N _ hv hk
    cases vs with
    | nil => simp only [vals] at hv; cases hv; exact ⟨rfl, e, N, hk⟩
    | cons v vs => cases hk
  | cons t pl ih =>
    intro vs us e a k N hlt hv hk
    simp only [allLt, Bool.and_eq_true] at hlt
    cases vs with
    | nil => cases hk
    | cons v vs =>
      obtain ⟨u, us', e1, e2, rfl⟩ := vals_cons hv
      have hk1 : put (dstOf (some t)) e v (fun e => pus (pl.map fun t => dstOf (some t)) vs e k) = true := hk
      rw [put_eq] at hk1
      have hd : dstOk gN.N (some t) = true := hlt.1
      obtain ⟨h1, e', h2, h3⟩ := ih (N.put hd e1) hlt.2 e2 hk1
      exact ⟨by simp [h1], e', h2, h3⟩
theorem yield_run {b : Nat} {r : Loop} {us : List Value} {w : World} (hw : w.heap[b]? = some (.loop r)) (hlen : us.length = r.params.toList.length) :
    (callS (.func (.yield b) #[] #[]) us).run P w = .ok (.round b r.fn ((r.params.toList.zip us).foldl (fun tmps (x : Nat × Value) => tmps.setIfInBounds x.1 x.2) r.tmps) r.assign r.body) w := by
  have hgl := run_getLoop (P := P) hw
  have hsz : ¬ (us.length ≠ r.params.size) := by
    simp only [Array.length_toList] at hlen
    omega
  simp only [callS, Deferred.ofValue, Sem.run_bind, Sem.run_pure, Result.andThen_ok, invoke, Instr.yield, hgl]
  have hz : (r.params.zip (#[] ++ (⟨us⟩ : Array Value))) = ⟨r.params.toList.zip us⟩ := by apply Array.ext'; simp
  rw [hz]
  simp [hsz]
/-- a round of a loop over a function -/
theorem round_ok (hm : P.follows .mixedOrders = true) (hF : FNo F) (hH : HkOk P hk fx) {n : Nat} (hC : ∀ m, m < n → CallsOk P T F gl mt hk fx m) (hR : ∀ m, m ≤ n → ∀ gN ord, gN.g = gl → RfOk P T F gN mt hk fx ord m)
    {a : Nat} {vs : List SV} {d : Dst} {dr : Bool} {k : PC} {e : Env} {S : Stk} {h : Hp} {ρ : Rm} {σ : H} {V : Value} {us : List Value} (hg : callV T (go T F n) (.fy a) vs d dr k e S h = true) (R : Rel ρ h σ) (hG : GOk gl ρ) (hL : ρ.lo = LO P gl mt hk fx) (hV : val ρ (.fy a) = some V) (hv : vals ρ vs = some us) :
    invWX P (callS V us) (RetK T F n ρ d k e S) (PanK T F n ρ dr e S) σ := by
  obtain ⟨b, hb, rfl⟩ : ∃ b, ρ.B a 0 = some b ∧ V = .func (.yield b) #[] #[] := by
    simp only [val] at hV
    split at hV
    · rename_i b hb; cases hV; exact ⟨b, hb, rfl⟩
    · cases hV
  have hg1 : (Ev.hg a h fun s => SO.rec (motive := fun _ => Bool) false (fun _ _ _ _ _ _ => false) (fun _ _ _ _ _ => false) (fun _ _ => false) (fun _ _ _ => false) (fun _ _ _ => false) (fun st _ ps asg e0 => yes (Nat.beq st 0) (pus ps vs e0 fun e1 => go T F n asg e1 (.rd a d k e :: S) h)) s) = true := hg
  obtain ⟨ha, hg2⟩ := hg_true hg1
  have O := R.obj a ha
  generalize h.get a = s at hg2 O
  cases s <;> first
    | (cases hg2; done)
    | skip
  rename_i st pd ps asg e0
  obtain ⟨hst, hg3⟩ := yes_true hg2
  have hst := Nat.eq_of_beq_eq_true hst
  subst hst
  obtain ⟨b', r, gN, o1, o2, o3, o4, o5, o6, o7, o8, o9⟩ := O
  rw [hb] at o1; cases o1
  rw [hL] at o5
  obtain ⟨g1, g2, g3, g4, g5, ord, g6, g7, g8⟩ := o5
  subst g2 g8
  have N0 : Kn gN ρ e0 ⟨r.tmps, []⟩ := ⟨o6, o7, o8, o9⟩
  obtain ⟨hlen, e1, N1, hg4⟩ := pus_true N0 g3 hv hg3
  have hLg : ρ.lo = LO P gN.g mt hk fx := by rw [g1]; exact hL
  have hCg : ∀ m, m < n → CallsOk P T F gN.g mt hk fx m := by rw [g1]; exact hC
  have hRg : ∀ m, m ≤ n → RfOk P T F gN mt hk fx ord m := fun m hm => hR m hm gN ord g1
  intro w hw
  rw [yield_run (hw b _ o2) hlen]
  refine roundIn_of_wpIn trivial ?_
  refine wpIn_mono (code_run (dp := 0) (B := 0) (ds := []) hm hF hH r.assign false n (some b) (.inr g4) hCg hRg g6 hLg ⟨n, ρ, e1, h, Nat.le_refl _, Rm.le.refl _, N1, R, hg4⟩ hw (DefM.nil _ _ _ _ _) (Nat.zero_le _)) fun ex a₁ w₂ hp => ?_
  cases ex with
  | normal =>
    obtain ⟨σ1, he1, hd1, m, ρ1, e2, h1, q1, q2, N2, R2, q5⟩ := hp
    obtain ⟨m1, rfl⟩ := fuel_pos hF q5
    have q6 : (Ev.hg a h1 fun s => SO.rec (motive := fun _ => Bool) false (fun _ _ _ _ _ _ => false) (fun _ _ _ _ _ => false) (fun _ _ => false) (fun _ _ _ => false) (fun _ _ _ => false) (fun st pd ps asg e1 => yes (Nat.beq st 0) (hs a h1 (.lop 1 pd ps asg e1) fun h => go T F m1 (layC P gN mt hk ord r.body (.ye 0) (fun i => .ye (i + 2)) (.ye 1)) e2 (.rd a d k e :: S) h)) s) = true := q5
    obtain ⟨_, q7⟩ := hg_true q6
    have O := R2.obj a ha
    generalize h1.get a = s at q7 O
    cases s <;> first
      | (cases q7; done)
      | skip
    rename_i st1 pd1 ps1 asg1 e3
    obtain ⟨hst, q8⟩ := yes_true q7
    have hst := Nat.eq_of_beq_eq_true hst
    subst hst
    obtain ⟨_, q9⟩ := hs_true q8
    obtain ⟨b', r1, gN1, p1, p2, p3, p4, p5, p6, p7, p8, p9⟩ := O
    have hb1 := (q2 a 0 b hb).1
    rw [hb1] at p1; cases p1
    have hgl1 := run_getLoop (P := P) (he1.le b _ p2)
    have hst1 : r1.state = .ready := p3
    refine ⟨{ w₂ with heap := w₂.heap.setIfInBounds b (.loop { r1 with state := .busy }) }, ?_, ?_⟩
    · simp only [Instr.beginRound, Sem.run_bind, hgl1, Result.andThen_ok]
      rw [run_setLoop (P := P) (he1.le b _ p2)]
      simp only [Result.andThen_ok, hst1]
      rfl
    · have e2' : HL.Ext σ1 w₂ (σ1.put b (.loop { r1 with state := .busy })) { w₂ with heap := w₂.heap.setIfInBounds b (.loop { r1 with state := .busy }) } := HL.Ext.set he1.le p2 rfl rfl rfl rfl
      have R3 : Rel ρ1 (h1.set a (.lop 1 pd1 ps1 asg1 e3)) (σ1.put b (.loop { r1 with state := .busy })) := R2.set ha hb1 ⟨b, _, gN1, hb1, H.put_same _ _ _, rfl, p4, p5, p6, p7, p8, p9⟩
      refine wpIn_mono (code_run (dp := 0) (B := 0) (ds := []) hm hF hH r.body false m1 (some b) (.inr g5) (fun m hm' => hCg m (by omega)) (fun m hm' => hRg m (by omega)) g7 (q2.lo.trans hLg) (a := a₁) ⟨m1, ρ1, e2, _, Nat.le_refl _, Rm.le.refl _, N2, R3, q9⟩ e2'.le (hd1.ext e2') (Nat.zero_le _)) fun ex a₃ w₃ hp => ?_
      have fin : ∀ (p : Nat) (σ2 : H), HL.Ext (σ1.put b (.loop { r1 with state := .busy })) { w₂ with heap := w₂.heap.setIfInBounds b (.loop { r1 with state := .busy }) } σ2 w₃ → Run T F gN m1 ρ1 (.ye p) (.rd a d k e :: S) a₃ σ2 →
          ∃ v w', (Instr.endRound b (pdOf p)).run P w₃ = .ok v w' ∧ ∃ v', Ending.returned v = .returned v' ∧ ∃ σ'', HL.Ext σ w σ'' w' ∧ RetK T F n ρ d k e S v' σ'' := by
        intro p σ2 he2 hr
        obtain ⟨m2, ρ2, e4, h2, r1', r2, N4, R4, r5⟩ := hr
        obtain ⟨m3, rfl⟩ := fuel_pos hF r5
        have r6 : (Ev.hg a h2 fun s => SO.rec (motive := fun _ => Bool) false (fun _ _ _ _ _ _ => false) (fun _ _ _ _ _ => false) (fun _ _ => false) (fun _ _ _ => false) (fun _ _ _ => false) (fun st _ ps asg e2 => yes (Nat.beq st 1) (iff' (Nat.beq p 0) (hs a h2 (.lop 0 0 ps asg e2) fun h => put d e (.b true) fun e => go T F m3 k e S h) (hs a h2 (.lop 2 p ps asg e2) fun h => put d e (.b false) fun e => go T F m3 k e S h))) s) = true := r5
        obtain ⟨_, r7⟩ := hg_true r6
        have O := R4.obj a ha
        generalize h2.get a = s at r7 O
        cases s <;> first
          | (cases r7; done)
          | skip
        rename_i st2 pd2 ps2 asg2 e5
        obtain ⟨hst, r8⟩ := yes_true r7
        have hst := Nat.eq_of_beq_eq_true hst
        subst hst
        obtain ⟨b', rr, gN2, s1, s2, s3, s4, s5, s6, s7, s8, s9⟩ := O
        have hb2 := (r2 a 0 b hb1).1
        rw [hb2] at s1; cases s1
        have hgl2 := run_getLoop (P := P) (he2.le b _ s2)
        have hend : (Instr.endRound b (pdOf p)).run P w₃ = .ok (.bool (pdOf p).isNone) { w₃ with heap := w₃.heap.setIfInBounds b (.loop { rr with state := if (pdOf p).isNone then .ready else .done, pending := pdOf p }) } := by
          simp only [Instr.endRound, Sem.run_bind, hgl2, Result.andThen_ok]
          rw [run_setLoop (P := P) (he2.le b _ s2)]
          rfl
        have hx : ∀ o, HL.Ext σ2 w₃ (σ2.put b o) { w₃ with heap := w₃.heap.setIfInBounds b o } := fun o => HL.Ext.set he2.le s2 rfl rfl rfl rfl
        refine ⟨_, _, hend, _, rfl, σ2.put b _, ((he1.trans e2').trans he2).trans (hx _), ?_⟩
        rcases iff_true r8 with ⟨hp0, r9⟩ | ⟨hp0, r9⟩
        · have hp0 := Nat.eq_of_beq_eq_true hp0
          subst hp0
          obtain ⟨_, r10⟩ := hs_true r9
          exact ⟨m3, ρ2, _, .b true, by omega, q2.trans r2, R4.set (s := .lop 0 0 ps2 asg2 e5) ha hb2 ⟨b, _, gN2, hb2, H.put_same _ _ _, rfl, rfl, s5, s6, s7, s8, s9⟩, rfl, r10⟩
        · have hp0 := Nat.ne_of_beq_eq_false hp0
          obtain ⟨_, r10⟩ := hs_true r9
          have hno : (pdOf p).isNone = false := by
            match p, hp0 with
            | 1, _ => rfl
            | p + 2, _ => rfl
          rw [hno]
          exact ⟨m3, ρ2, _, .b false, by omega, q2.trans r2, R4.set (s := .lop 2 p ps2 asg2 e5) ha hb2 ⟨b, _, gN2, hb2, H.put_same _ _ _, rfl, rfl, s5, s6, s7, s8, s9⟩, rfl, r10⟩
      cases ex with
      | normal => obtain ⟨σ2, he2, _, hr⟩ := hp; exact fin 0 σ2 he2 hr
      | exit i => obtain ⟨σ2, he2, _, hr⟩ := hp; exact fin (i + 2) σ2 he2 hr
      | ret => obtain ⟨σ2, he2, _, hr⟩ := hp; exact fin 1 σ2 he2 hr
      | goto l => exact hp.elim
      | panic c => obtain ⟨_, _, _, _, _, _, _, _, _, _, _, _, _, _, _, hr⟩ := hp; exact (rd_uw hF hr).elim
      | outgrown => exact hp.elim
  | exit i => obtain ⟨_, _, _, hr⟩ := hp; exact (Run.out hF hr).elim
  | ret => obtain ⟨_, _, _, hr⟩ := hp; exact (Run.out hF hr).elim
  | goto l => exact hp.elim
  | panic c => obtain ⟨_, _, _, _, _, _, _, _, _, _, _, _, _, _, _, hr⟩ := hp; exact (rd_uw hF hr).elim
  | outgrown => exact hp.elim
/-- no call that was put off waits for this one -/
def NoDr : Stk → Prop
  | .dr _ _ _ _ :: _ => False
  | _ => True
/-- functions, in runs of a length -/
def FnOk (P : Program) (T : Nat → PC) (F : Go) (gl : Nat → Nat) (mt : String → Nat → Nat) (hk : Nat → Option (Nat × Nat)) (fx : Nat → Option Obj) (n : Nat) : Prop := ∀ {g : Nat} {l : List SV} {S : Stk} {h : Hp} {ρ : Rm} {σ : H} {vs : List Value}, NoDr S → enter T (go T F n) g l S h = true → Rel ρ h σ → vals ρ l = some vs → GOk gl ρ → ρ.lo = LO P gl mt hk fx →
  isGo P g = true ∧ callX P g vs (RetS T F n ρ S) (PanS T F n ρ S) σ
theorem rf_ok (hF : FNo F) {n : Nat} (hFn : ∀ m, m < n → FnOk P T F gl mt hk fx m) {gN : Cx} {ord : Nat → Option (List Nat × List (List Nat))} (hgN : gN.g = gl) : RfOk P T F gN mt hk fx ord n := by
  intro f ps asg body k kx kr S dp B ds ρ0 a σ w hg hL h hw hd hB
  simp only [layC] at h
  split at h
  case h_2 => exact (Run.out hF h).elim
  rename_i s hs hlt
  split at h
  case h_2 => exact (Run.out hF h).elim
  rename_i hn1 hn2
  obtain ⟨m, ρ, e, h', q1, q2, N, R, q5⟩ := h
  obtain ⟨m1, rfl⟩ := fuel_pos hF q5
  generalize hasg : layC P gN mt hk ord asg (.yb (layC P gN mt hk ord body (.ye 0) (fun i => .ye (i + 2)) (.ye 1))) (fun _ => .no) .no = ASG at q5
  generalize hps : (ps.toList.map fun t => dstOf (some t)) = PS at q5
  have q6 : (src s e fun fv => SV.rec (motive_1 := fun _ => Bool) (motive_2 := fun _ => Bool) (fun _ => false) (fun _ => false) (fun _ _ => false) (fun _ => false) (fun _ _ => false) false (fun _ _ _ => false) false (fun _ _ _ _ _ => false) (fun _ _ _ _ _ _ => false) false (fun _ => false) false (fun g as1 cs _ _ => hn h' (.lop 0 0 PS ASG e) fun a h => app as1 (.fy a :: cs) fun l => enter T (go T F m1) g l (.it a k kx kr e :: S) h) (fun _ => false) false (fun _ _ _ => false) (fun _ _ => false) (fun _ _ => false) false (fun _ _ _ _ => false) fv) = true := q5
  obtain ⟨fv, e1, e2, q7⟩ := src_true N hs q6
  cases fv with
  | f g as1 cs =>
    obtain ⟨hnx, q8⟩ := hn_true q7
    rw [app_eq] at q8
    obtain ⟨las, lcs, v1, v2, v3⟩ := f_some e1
    refine wpIn_rangeFunc fun fn _ => ?_
    have hl : σ (w.heap.size + 1) = none := by
      cases hc : σ (w.heap.size + 1) with
      | none => rfl
      | some o => have := hw.lt hc; omega
    generalize hrec : ({ state := .ready, pending := none, fn, tmps := a.tmps, params := ps, assign := asg, body, defers := w.heap.size } : Loop) = rec0
    have henter : (Instr.enterLoop fn a.tmps ps asg body none).run P w = .ok (w.heap.size + 1, [markOf w.heap.size]) ((w.alloc (.deferred (some []))).alloc (.loop rec0)) := by
      simp [Instr.enterLoop, markOf, World.alloc_eq, ← hrec]
    have hext : HL.Ext σ w (σ.put (w.heap.size + 1) (.loop rec0)) ((w.alloc (.deferred (some []))).alloc (.loop rec0)) := by
      have e1 := HL.Ext.allocOut hw (.deferred (some []))
      have e2 := (HL.Ext.alloc e1.le (.loop rec0)).2
      have : (w.alloc (.deferred (some []))).heap.size = w.heap.size + 1 := by show (w.heap.push _).size = _; simp
      rw [this] at e2
      exact e1.trans e2
    have hdef : DefM true B (σ.put (w.heap.size + 1) (.loop rec0)) ((w.alloc (.deferred (some []))).alloc (.loop rec0)) ds ([markOf w.heap.size] ++ a.defers) := by
      obtain ⟨ms, h0, h1, h2, h3⟩ := hd
      have hlt' : ∀ r ∈ ms, r < w.heap.size := fun r hr => by
        have := (h3 r hr).2.2
        rcases Nat.lt_or_ge r w.heap.size with h | h
        · exact h
        · rw [Array.getElem?_eq_none h] at this; cases this
      have hget : ∀ (o o' : Obj) (r : Nat), r < w.heap.size → ((w.alloc o).alloc o').heap[r]? = w.heap[r]? := by
        intro o o' r hr
        show ((w.heap.push o).push o')[r]? = _
        rw [Array.getElem?_push, if_neg (by simp only [Array.size_push]; omega), Array.getElem?_push, if_neg (by omega)]
      refine ⟨w.heap.size :: ms, (fun h => by cases h), List.nodup_cons.2 ⟨fun hr => Nat.lt_irrefl _ (hlt' _ hr), h1⟩, by simp [h2], fun r hr => ?_⟩
      rcases List.mem_cons.1 hr with rfl | hr
      · refine ⟨hB, ?_, ?_⟩
        · rw [H.put_other _ _ (by omega)]
          cases hc : σ w.heap.size with
          | none => rfl
          | some o => have := hw.lt hc; omega
        · show ((w.heap.push _).push _)[w.heap.size]? = _
          rw [Array.getElem?_push, if_neg (by simp)]
          simp
      · obtain ⟨q1, q2, q3⟩ := h3 r hr
        have := hlt' r hr
        exact ⟨q1, by rw [H.put_other _ _ (by omega)]; exact q2, by rw [hget _ _ r this]; exact q3⟩
    have hle := R.add_le 0 (w.heap.size + 1) 0
    have hlo : (ρ.add h'.nx 0 (w.heap.size + 1) 0).lo = LO P gl mt hk fx := by
      rw [hle.lo, q2.lo, hL, hgN]
    have R1 : Rel (ρ.add h'.nx 0 (w.heap.size + 1) 0) (h'.new (.lop 0 0 PS ASG e)) (σ.put (w.heap.size + 1) (.loop rec0)) := by
      refine R.new hnx hl 0 0 ⟨w.heap.size + 1, rec0, gN, Rm.add_B _ _ _ _ _ (Nat.le_refl _), H.put_same _ _ _, by rw [← hrec]; rfl, by rw [← hrec]; rfl, ?_, ?_, ?_, N.M, fun g n hg => (hle g n g (N.G g n hg)).1⟩
      · rw [hlo, ← hrec]
        simp only [Bool.and_eq_true] at hg
        exact ⟨hgN, hps.symm, hlt, hn1, hn2, ord, hg.1, hg.2, hasg.symm⟩
      · rw [← hrec]; exact N.fr.le hle
      · rw [← hrec]; exact N.N
    have hvals : vals (ρ.add h'.nx 0 (w.heap.size + 1) 0) (as1 ++ .fy h'.nx :: cs) = some (las ++ yv (w.heap.size + 1) :: lcs) := by
      refine vals_app (vals_le hle _ v1) (vals_of ?_ (vals_le hle _ v2))
      simp only [val, Rm.add_B ρ h'.nx 0 (w.heap.size + 1) 0 (Nat.le_refl 0)]
      rfl
    have hG1 : GOk gl (ρ.add h'.nx 0 (w.heap.size + 1) 0) := fun g n hg => (hle g n g (N.G g n (by rw [hgN]; exact hg))).1
    obtain ⟨hgo, hcall⟩ := hFn m1 (by omega) (S := .it h'.nx k kx kr e :: S) trivial q8 R1 hvals hG1 hlo
    refine ⟨w.heap.size + 1, [markOf w.heap.size], (w.alloc (.deferred (some []))).alloc (.loop rec0), { target := .fn (.func g) ⟨lcs⟩, args := ⟨las⟩ ++ #[yv (w.heap.size + 1)] }, (w.alloc (.deferred (some []))).alloc (.loop rec0), g, (las ++ yv (w.heap.size + 1) :: lcs).toArray, (w.alloc (.deferred (some []))).alloc (.loop rec0), henter, ?_, fun _ _ => trivial, ?_, (fun h => by cases h), ?_⟩
    · show (Deferred.ofValue (a.eval f) (#[Operand.const (yv (w.heap.size + 1))].map a.eval)).run P _ = _
      rw [v3]
      simp [Deferred.ofValue, Act.eval]
    · show (callFunc g _).run P _ = _
      rw [callFunc_go hgo]; simp
    · refine (callsIn_any (ro := none) (n := dp - 1) (hcall _ hext.le)).mono fun en w₃ hr => ?_
      rcases hr with ⟨v, rfl, σ', he', m2, ρ2, h2, x, p1, p2, R2, p4, p5⟩ | ⟨v, rfl, σ', he', m2, ρ2, e2', h2, x, p1, p2, R2, p4, p5⟩
      · have p6 : (Ev.hg h'.nx h2 fun s => SO.rec (motive := fun _ => Bool) false (fun _ _ _ _ _ _ => false) (fun _ _ _ _ _ => false) (fun _ _ => false) (fun _ _ _ => false) (fun _ _ _ => false) (fun st pd ps asg e1 => iff' (Nat.beq st 1) false (Ev.hs h'.nx h2 (.lop 3 pd ps asg e1) fun h => iff' (Nat.beq pd 0) (go T F m2 k e S h) (iff' (Nat.beq pd 1) (go T F m2 kr e S h) (go T F m2 (kx (Nat.sub pd 2)) e S h)))) s) = true := p5
        obtain ⟨_, p7⟩ := hg_true p6
        have O := R2.obj h'.nx hnx
        generalize h2.get h'.nx = s at p7 O
        cases s <;> first
          | (cases p7; done)
          | skip
        rename_i st pd ps1 asg1 e3
        rcases iff_true p7 with ⟨_, hf⟩ | ⟨hst, p8⟩
        · cases hf
        have hst := Nat.ne_of_beq_eq_false hst
        obtain ⟨_, p9⟩ := hs_true p8
        obtain ⟨b', r1, gN1, o1, o2, o3, o4, o5, o6, o7, o8, o9⟩ := O
        have hb1 := (p2 h'.nx 0 _ (Rm.add_B ρ h'.nx 0 (w.heap.size + 1) 0 (Nat.le_refl 0))).1
        rw [hb1] at o1; cases o1
        have hgl := run_getLoop (P := P) (he'.le _ _ o2)
        have hns : (r1.state == LoopState.busy) = false := by
          rw [o3]
          match st, hst with
          | 0, _ => rfl
          | 2, _ => rfl
          | st + 3, _ => rfl
        have e4 : HL.Ext σ' w₃ (σ'.put (w.heap.size + 1) (.loop { r1 with state := .exhausted })) { w₃ with heap := w₃.heap.setIfInBounds (w.heap.size + 1) (.loop { r1 with state := .exhausted }) } := HL.Ext.set he'.le o2 rfl rfl rfl rfl
        refine ⟨r1.pending, { w₃ with heap := w₃.heap.setIfInBounds (w.heap.size + 1) (.loop { r1 with state := .exhausted }) }, ?_, ?_⟩
        · simp only [Instr.endLoop, Sem.run_bind, hgl, Result.andThen_ok]
          simp only [hns, Bool.false_eq_true, if_false, Sem.run_bind]
          rw [run_setLoop (P := P) (he'.le _ _ o2)]
          rfl
        · have hde := (hdef.ext he').ext e4
          have het := (hext.trans he').trans e4
          have R3 : Rel ρ2 (h2.set h'.nx (.lop 3 pd ps1 asg1 e3)) (σ'.put (w.heap.size + 1) (.loop { r1 with state := .exhausted })) := R2.set hnx hb1 ⟨_, _, gN1, hb1, H.put_same _ _ _, rfl, o4, o5, o6, o7, o8, o9⟩
          have hl2 : ρ.le ρ2 := hle.trans p2
          have N2 : Kn gN ρ2 e { a with defers := [markOf w.heap.size] ++ a.defers } := ⟨N.fr.le hl2, N.N, N.M, fun g n hg => (hl2 g n g (N.G g n hg)).1⟩
          rw [o4] at hde het R3 ⊢
          rcases iff_true p9 with ⟨hp0, p10⟩ | ⟨hp0, p10⟩
          · have hp0 := Nat.eq_of_beq_eq_true hp0
            subst hp0
            exact ⟨_, het, hde, m2, ρ2, e, _, by omega, q2.trans hl2, N2, R3, p10⟩
          · rcases iff_true p10 with ⟨hp1, p11⟩ | ⟨hp1, p11⟩
            · have hp1 := Nat.eq_of_beq_eq_true hp1
              subst hp1
              exact wpIn_ret ⟨_, het, hde, m2, ρ2, e, _, by omega, q2.trans hl2, N2, R3, p11⟩
            · have hp0 := Nat.ne_of_beq_eq_false hp0
              have hp1 := Nat.ne_of_beq_eq_false hp1
              obtain ⟨i, rfl⟩ : ∃ i, pd = i + 2 := ⟨pd - 2, by omega⟩
              exact wpIn_exit ⟨_, het, hde, m2, ρ2, e, _, by omega, q2.trans hl2, N2, R3, p11⟩
      · exact (it_uw hF p5).elim
  | _ => cases q7
end
end Go.Ev

namespace Go.Ev
open Go Go.HL
/-- is a function fit for it? -/
def chkF (P : Program) (ord : Nat → Nat → Option (List Nat × List (List Nat))) (g : Nat) : Bool :=
  match P.funcs[g]? with
  | some fn => match fn.body with
    | some c => rgOk P (ord g) c && isGo P g
    | none => false
  | none => false
/-- may a function be put off? -/
def chkD (P : Program) (df : Nat → Nat) (g : Nat) : Bool :=
  match P.funcs[g]? with
  | some fn => match fn.body, df g with
    | some c, 0 => noRf c && isGo P g
    | some _, 1 => false
    | some _, _ => isGo P g
    | none, _ => false
  | none => false
/-- all is as it must be -/
structure SetOk (P : Program) (T : Nat → PC) (F : Go) (gl : Nat → Nat) (mt : String → Nat → Nat) (hk : Nat → Option (Nat × Nat)) (fx : Nat → Option Obj) (ord : Nat → Nat → Option (List Nat × List (List Nat))) (q : Nat) (df : Nat → Nat) : Prop where
  hm : P.follows .mixedOrders = true
  hF : FNo F
  hH : HkOk P hk fx
  tab : ∀ g, T g = .no ∨ (T g = tab P gl mt hk ord q df g ∧ chkF P ord g = true)
  dq : ∀ g, bitq q g = true → chkD P df g = true
  mt : ∀ nm t, T (mt nm t) = .no ∨ ∀ V us w, (callMethod (.iface t V) nm ⟨us⟩).run P w = .ok (.enter (mt nm t) (V :: us).toArray) w
section
variable {P : Program} {T : Nat → PC} {F : Go} {gl : Nat → Nat} {q : Nat} {mt : String → Nat → Nat} {hk : Nat → Option (Nat × Nat)} {fx : Nat → Option Obj} {ord : Nat → Nat → Option (List Nat × List (List Nat))} {df : Nat → Nat}
theorem enter_no (hF : FNo F) {n g : Nat} {l : List SV} {S : Stk} {h : Hp} (hT : T g = .no) (hg : enter T (go T F n) g l S h = true) : False := by
  have hg1 : go T F n (T g) (env0 (argN l 0 u1)) S h = true := args_eq (k := fun N => go T F n (T g) (env0 N) S h) hg
  rw [hT] at hg1
  exact no_false hF hg1
/-- a function that is laid -/
theorem tab_some (O : SetOk P T F gl mt hk fx ord q df) {n g : Nat} {l : List SV} {S : Stk} {h : Hp} (hg : enter T (go T F n) g l S h = true) :
    ∃ fn c rs, P.funcs[g]? = some fn ∧ fn.body = some c ∧ rsOf P ⟨fn.ntmps, gl⟩ fn.results.toList = some rs ∧ fn.ntmps ≤ 320 ∧ rgOk P (ord g) c = true ∧ isGo P g = true ∧
      ((df g = 0 ∧ T g = layC P ⟨fn.ntmps, gl⟩ mt hk (ord g) c (.rt rs) (fun _ => .no) (.rt rs)) ∨ (df g = 1 ∧ noRf c = true ∧ T g = .dz rs (layS P ⟨fn.ntmps, gl⟩ mt hk (ord g) q c .rl)) ∨ (df g ≠ 0 ∧ df g ≠ 1 ∧ T g = layV P ⟨fn.ntmps, gl⟩ mt hk (ord g) c (.rt rs))) := by
  rcases O.tab g with h0 | ⟨hT, hchk⟩
  · exact (enter_no O.hF h0 hg).elim
  unfold chkF at hchk
  split at hchk
  · rename_i fn hf
    split at hchk
    · rename_i c hb
      simp only [Bool.and_eq_true] at hchk
      unfold Ev.tab at hT
      rw [hf] at hT
      simp only at hT
      unfold layF at hT
      rw [hb] at hT
      split at hT
      · rename_i c' rs hc hrs hN
        cases hc
        refine ⟨fn, c, rs, hf, hb, hrs, Nat.le_of_ble_eq_true hN, hchk.1, hchk.2, ?_⟩
        split at hT
        · rename_i hd; exact .inl ⟨hd, hT⟩
        · rename_i hd
          split at hT
          · rename_i hn; exact .inr (.inl ⟨hd, hn, hT⟩)
          · exact (enter_no O.hF hT hg).elim
        · rename_i hd0 hd1; exact .inr (.inr ⟨hd0, hd1, hT⟩)
      · exact (enter_no O.hF hT hg).elim
    · cases hchk
  · cases hchk
theorem isGo_q (O : SetOk P T F gl mt hk fx ord q df) : ∀ g, bitq q g = true → isGo P g = true := by
  intro g hb
  have := O.dq g hb
  unfold chkD at this
  split at this
  · split at this
    · simp only [Bool.and_eq_true] at this; exact this.2
    · cases this
    · exact this
    · cases this
  · cases this
theorem fn_ok (O : SetOk P T F gl mt hk fx ord q df) {n : Nat} (hC : ∀ m, m < n → CallsOk P T F gl mt hk fx m) (hR : ∀ m, m ≤ n → ∀ gN ord, gN.g = gl → RfOk P T F gN mt hk fx ord m) (hD : ∀ m, m < n → DefsOk P T F gl mt hk fx q m) : FnOk P T F gl mt hk fx n := by
  intro g l S h ρ σ vs hS hg R hv hG hL
  obtain ⟨fn, c, rs, hf, hb, hrs, hN, hrg, hgo, hT⟩ := tab_some O hg
  refine ⟨hgo, ?_⟩
  rcases hT with ⟨_, hT⟩ | ⟨_, hn, hT⟩ | ⟨_, _, hT⟩
  · exact fn_plain O.hm O.hF O.hH hf hb hrs hN hT hrg hC (fun m hm => hR m hm _ _ rfl) hg R hv hG hL
  · exact fn_defer O.hm O.hF O.hH (isGo_q O) hf hb hrs hN hT hrg hn hC (fun m hm => hR m hm _ _ rfl) hD hg R hv hG hL
  · have hg1 : go T F n (T g) (env0 (argN l 0 u1)) S h = true := args_eq (k := fun N => go T F n (T g) (env0 N) S h) hg
    rw [hT] at hg1
    obtain ⟨id, ops, y, o, d, ty, r, rfl, hops, o1, o2, o3, o4, hall, hnr, hlay⟩ := layV_some O.hF hg1
    rw [hlay] at hg1
    obtain ⟨n1, rfl⟩ := fuel_pos O.hF hg1
    cases S with
    | nil => cases hg1
    | cons s S =>
      cases s <;> first
        | (cases hg1; done)
        | exact hS.elim
theorem defs_ok (O : SetOk P T F gl mt hk fx ord q df) {n : Nat} (hC : ∀ m, m < n → CallsOk P T F gl mt hk fx m) (hR : ∀ m, m ≤ n → ∀ gN ord, gN.g = gl → RfOk P T F gN mt hk fx ord m) : DefsOk P T F gl mt hk fx q n := by
  intro g l mo ds rs0 e S h ρ σ vs md hbit hg R hv hG hL hmo
  obtain ⟨fn, c, rs, hf, hb, hrs, hN, hrg, hgo, hT⟩ := tab_some O hg
  have hd := O.dq g hbit
  unfold chkD at hd
  rw [hf] at hd
  simp only [hb] at hd
  rcases hT with ⟨h0, hT⟩ | ⟨h1, hn, hT⟩ | ⟨h0, h1, hT⟩
  · rw [h0] at hd
    simp only [Bool.and_eq_true] at hd
    exact deferred_plain O.hm O.hF O.hH hf hb hrs hN hT hrg hd.1 hC (fun m hm => hR m hm _ _ rfl) hg R hv hG hL hmo
  · rw [h1] at hd; cases hd
  · exact deferred_rec O.hm O.hF O.hH hf hb hrs hN hT hrg hC (fun m hm => hR m hm _ _ rfl) hg R hv hG hL hmo
theorem retS_fr {n : Nat} {ρ : Rm} {d : Dst} {dr : Bool} {k : PC} {e : Env} {S : Stk} {V : Value} {σ : H} (h : RetS T F n ρ (.fr d dr k e :: S) V σ) : RetK T F n ρ d k e S V σ := by
  obtain ⟨m, ρ', h', x, q1, q2, q3, q4, q5⟩ := h
  exact ⟨m, ρ', h', x, q1, q2, q3, q4, q5⟩
theorem panS_fr (hF : FNo F) {n : Nat} {ρ : Rm} {d : Dst} {dr : Bool} {k : PC} {e : Env} {S : Stk} {V : Value} {σ : H} (h : PanS T F n ρ (.fr d dr k e :: S) V σ) : PanK T F n ρ dr e S V σ := by
  obtain ⟨m, ρ', e', h', x, q1, q2, q3, q4, q5⟩ := h
  obtain ⟨m1, rfl⟩ := fuel_pos hF q5
  have q6 : iff' dr false (go T F m1 (.uw x) e S h') = true := q5
  rcases iff_true q6 with ⟨_, hf⟩ | ⟨h1, h2⟩
  · cases hf
  · exact ⟨h1, m1, ρ', h', x, by omega, q2, q3, q4, h2⟩
theorem calls_ok (O : SetOk P T F gl mt hk fx ord q df) {n : Nat} (hC : ∀ m, m < n → CallsOk P T F gl mt hk fx m) (hR : ∀ m, m ≤ n → ∀ gN ord, gN.g = gl → RfOk P T F gN mt hk fx ord m) (hFn : FnOk P T F gl mt hk fx n) : CallsOk P T F gl mt hk fx n := by
  have run : ∀ {s : Sem Next} {g : Nat} {l : List SV} {vs : List Value} {d : Dst} {dr : Bool} {k : PC} {e : Env} {S : Stk} {h : Hp} {ρ : Rm} {σ : H}, enter T (go T F n) g l (.fr d dr k e :: S) h = true → Rel ρ h σ → vals ρ l = some vs → GOk gl ρ → ρ.lo = LO P gl mt hk fx → (isGo P g = true → ∀ w, s.run P w = .ok (.enter g vs.toArray) w) → invWX P s (RetK T F n ρ d k e S) (PanK T F n ρ dr e S) σ := by
    intro s g l vs d dr k e S h ρ σ hg R hv hG hL hs w hw
    obtain ⟨hgo, hc⟩ := hFn (S := .fr d dr k e :: S) trivial hg R hv hG hL
    rw [hs hgo w]
    refine CallsIn.mono (hc w hw) fun en w' hr => ?_
    rcases hr with ⟨v, rfl, σ', he, hr⟩ | ⟨v, rfl, σ', he, hr⟩
    · exact .inl ⟨v, rfl, σ', he, retS_fr hr⟩
    · exact .inr ⟨v, rfl, σ', he, panS_fr O.hF hr⟩
  constructor
  · intro fv vs d dr k e S h ρ σ V us hg R hG hL hV hv
    cases fv with
    | f g as1 cs =>
      have hg1 : (app vs cs fun l => app as1 l fun l => enter T (go T F n) g l (.fr d dr k e :: S) h) = true := hg
      rw [app_eq, app_eq] at hg1
      obtain ⟨las, lcs, v1, v2, rfl⟩ := f_some hV
      refine run hg1 R (vals_app v1 (vals_app hv v2)) hG hL fun hgo w => ?_
      simp only [callS, Deferred.ofValue, Sem.run_bind, Sem.run_pure, Result.andThen_ok, invoke]
      rw [callFunc_go hgo]
      simp
    | fy a => exact round_ok O.hm O.hF O.hH hC hR hg R hG hL hV hv
    | _ => cases hg
  · intro t v vs d dr k e S h ρ σ V us nm hg R hG hL hV hv
    rcases O.mt nm t with h0 | h1
    · exact (enter_no O.hF h0 hg).elim
    · exact run hg R (vals_of hV hv) hG hL fun _ w => h1 V us w
theorem all_ok (O : SetOk P T F gl mt hk fx ord q df) : ∀ n, FnOk P T F gl mt hk fx n ∧ CallsOk P T F gl mt hk fx n ∧ DefsOk P T F gl mt hk fx q n ∧ ∀ gN ord, gN.g = gl → RfOk P T F gN mt hk fx ord n := by
  intro n
  induction n using Nat.strongRecOn with
  | _ n ih =>
    have hRn : ∀ gN ord, gN.g = gl → RfOk P T F gN mt hk fx ord n := fun gN ord hg => rf_ok O.hF (fun m hm => (ih m hm).1) hg
    have hR : ∀ m, m ≤ n → ∀ gN ord, gN.g = gl → RfOk P T F gN mt hk fx ord m := by
      intro m hm
      rcases Nat.lt_or_eq_of_le hm with h | h
      · exact (ih m h).2.2.2
      · subst h; exact hRn
    have hC : ∀ m, m < n → CallsOk P T F gl mt hk fx m := fun m hm => (ih m hm).2.1
    have hD : ∀ m, m < n → DefsOk P T F gl mt hk fx q m := fun m hm => (ih m hm).2.2.1
    have hFn : FnOk P T F gl mt hk fx n := by
      intro g l S h ρ σ vs a1 a2 a3 a4 a5 a6
      exact fn_ok O hC hR hD a1 a2 a3 a4 a5 a6
    exact ⟨hFn, calls_ok O hC hR hFn, defs_ok O hC hR, hRn⟩
/-- THE EVALUATOR IS SOUND -/
theorem run_sound (O : SetOk P T F gl mt hk fx ord q df) {n g : Nat} {l : List SV} {p : SV → Bool} {h : Hp} {ρ : Rm} {σ : H} {vs : List Value} (hg : enter T (go T F n) g l [.tp p] h = true) (R : Rel ρ h σ) (hv : vals ρ l = some vs) (hG : GOk gl ρ) (hL : ρ.lo = LO P gl mt hk fx) :
    callW P g vs (fun V σ' => (∃ (ρ' : Rm) (x : SV), val ρ' x = some V ∧ p x = true) ∧ ∀ b o, fx b = some o → σ' b = some o) σ := by
  have h1 := ((all_ok O n).1 (S := [.tp p]) trivial hg R hv hG hL).2
  intro w hw
  refine CallsIn.mono (h1 w hw) fun en w' hr => ?_
  rcases hr with ⟨v, rfl, σ', he, m, ρ', h', x, q1, q2, q3, q4, q5⟩ | ⟨v, rfl, σ', he, m, ρ', e', h', x, q1, q2, q3, q4, q5⟩
  · exact ⟨v, rfl, σ', he, ⟨ρ', x, q4, q5⟩, fun b o hb => q3.fix b o (by rw [q2.lo, hL]; exact hb)⟩
  · obtain ⟨m1, rfl⟩ := fuel_pos O.hF q5
    cases q5
end
end Go.Ev

namespace Go.Ev
open Go Go.HL
/-- a function for which the model stands in -/
structure ExtAt (P : Program) (g : FuncId) (e : Array Value → Sem Value) : Prop where
  h1 : (P.funcs[g]?).map (fun fn => ((fn.name == "runtime.NumGoroutine"), fn.body.isNone)) = some (false, true)
  h2 : (P.funcs[g]?).bind (fun fn => Extern.find fn) = some e
  h3 : (P.funcs[g]?).map (fun fn => (Extern.findNext fn).isNone) = some true
section
variable {P : Program} {ρ : Rm} {h : Hp} {σ : H} {K : Kv}
theorem ext_ok {g : FuncId} {e : Array Value → Sem Value} {us : List Value} {Q : Value → H → Prop} (E : ExtAt P g e) (hr : ∀ w, σ.le w → ∃ v w' σ', (e ⟨us⟩).run P w = .ok v w' ∧ HL.Ext σ w σ' w' ∧ Q v σ') : invW P (callS (.func (.func g) #[] #[]) us) Q σ := by
  intro w hw
  obtain ⟨v, w', σ', hrun, hx, hQ⟩ := hr w hw
  obtain ⟨h1, h2, h3⟩ := E
  cases hf : P.funcs[g]? with
  | none => rw [hf] at h1; cases h1
  | some fn =>
    rw [hf] at h1 h2 h3
    simp only [Option.map_some, Option.some.injEq, Prod.mk.injEq, Option.bind_some] at h1 h2 h3
    have hc := run_callFunc_standIn hf h1.1 h1.2 (Option.isNone_iff_eq_none.1 h3) h2 ⟨us⟩ w
    have : (callS (.func (.func g) #[] #[]) us).run P w = .ok (.value v) w' := by
      simp [callS, Deferred.ofValue, invoke, hc, hrun]
    rw [this]
    exact ⟨σ', hx, hQ⟩
/-! ### Arguments -/
theorem ar0_true {l : List SV} {k : Bool} (hk : ar0 l k = true) : l = [] ∧ k = true := by
  cases l with
  | nil => exact ⟨rfl, hk⟩
  | cons x l => cases hk
theorem ar1_true {l : List SV} {k : SV → Bool} (hk : ar1 l k = true) : ∃ x, l = [x] ∧ k x = true := by
  cases l with
  | nil => cases hk
  | cons x l =>
    have hk1 : ar0 l (k x) = true := hk
    obtain ⟨rfl, h⟩ := ar0_true hk1
    exact ⟨x, rfl, h⟩
theorem ar2_true {l : List SV} {k : SV → SV → Bool} (hk : ar2 l k = true) : ∃ x y, l = [x, y] ∧ k x y = true := by
  cases l with
  | nil => cases hk
  | cons x l =>
    have hk1 : ar1 l (k x) = true := hk
    obtain ⟨y, rfl, h⟩ := ar1_true hk1
    exact ⟨x, y, rfl, h⟩
theorem ar3_true {l : List SV} {k : SV → SV → SV → Bool} (hk : ar3 l k = true) : ∃ x y z, l = [x, y, z] ∧ k x y z = true := by
  cases l with
  | nil => cases hk
  | cons x l =>
    have hk1 : ar2 l (k x) = true := hk
    obtain ⟨y, z, rfl, h⟩ := ar2_true hk1
    exact ⟨x, y, z, rfl, h⟩
theorem vals1 {x : SV} {us : List Value} (hv : vals ρ [x] = some us) : ∃ v, val ρ x = some v ∧ us = [v] := by
  obtain ⟨v, l, h1, h2, rfl⟩ := vals_cons hv
  simp only [vals] at h2; cases h2
  exact ⟨v, h1, rfl⟩
theorem vals2 {x y : SV} {us : List Value} (hv : vals ρ [x, y] = some us) : ∃ v w, val ρ x = some v ∧ val ρ y = some w ∧ us = [v, w] := by
  obtain ⟨v, l, h1, h2, rfl⟩ := vals_cons hv
  obtain ⟨w, h3, rfl⟩ := vals1 h2
  exact ⟨v, w, h1, h3, rfl⟩
theorem vals3 {x y z : SV} {us : List Value} (hv : vals ρ [x, y, z] = some us) : ∃ u v w, val ρ x = some u ∧ val ρ y = some v ∧ val ρ z = some w ∧ us = [u, v, w] := by
  obtain ⟨v, l, h1, h2, rfl⟩ := vals_cons hv
  obtain ⟨w, t, h3, h4, rfl⟩ := vals2 h2
  exact ⟨v, w, t, h1, h3, h4, rfl⟩
theorem u_some {n : Nat} {V : Value} (hv : val ρ (.u n) = some V) : n < 256 ∧ V = .int .u8 (n : Int) := by
  obtain ⟨h1, h2⟩ := vI_some (k := .u8) hv
  refine ⟨h1, ?_⟩
  rw [h2, tI_lo fun q => by cases q]
theorem val_i {n : Nat} (hn : n < 9223372036854775808) : val ρ (.i n) = some (.int .i64 (n : Int)) := by
  refine vI_of (k := .i64) (Nat.lt_trans hn (by decide)) ?_
  exact tI_lo fun _ => hn
theorem val_neg1 : val ρ (.i neg1) = some (.int .i64 (-1)) := vI_of (k := .i64) (by decide) (by decide)
theorem pk_hd (b : UInt8) (L : List UInt8) : Nat.div (pk (b :: L) 0) (p8 L.length) = b.toNat ∧ Nat.mod (pk (b :: L) 0) (p8 L.length) = pk L 0 := by
  rw [pk_cons]
  show (b.toNat * 256 ^ L.length + pk L 0) / 256 ^ L.length = _ ∧ (b.toNat * 256 ^ L.length + pk L 0) % 256 ^ L.length = _
  have hlt := pk_lt L
  have hp : 0 < 256 ^ L.length := Nat.pos_of_ne_zero (by simp)
  constructor
  · rw [Nat.mul_comm, Nat.mul_add_div hp, Nat.div_eq_of_lt hlt, Nat.add_zero]
  · rw [Nat.mul_comm, Nat.mul_add_mod, Nat.mod_eq_of_lt hlt]
theorem nbeq (a b : Nat) : (a == b) = Nat.beq a b := by
  cases h : Nat.beq a b with
  | true => rw [Nat.eq_of_beq_eq_true h]; simp
  | false => exact beq_false_of_ne (Nat.ne_of_beq_eq_false h)
/-! ### Where a byte stands first; how often -/
theorem ib_pk : ∀ (L : List UInt8) {i c : Nat} {z : Bool} {k : Nat → Bool}, ibF L.length (pk L 0) i c z k = (match L.findIdx? (fun b => b.toNat == c) with | some j => k (i + j) | none => z) := by
  intro L
  induction L with
  | nil => intro i c z k; rfl
  | cons b L ih =>
    intro i c z k
    obtain ⟨h1, h2⟩ := pk_hd b L
    show iff' (Nat.beq (Nat.div (pk (b :: L) 0) (p8 L.length)) c) (k i) (ibF L.length (Nat.mod (pk (b :: L) 0) (p8 L.length)) (Nat.succ i) c z k) = _
    rw [h1, h2, ih, List.findIdx?_cons, iff_eq]
    have hb : (b.toNat == c) = Nat.beq b.toNat c := nbeq _ _
    rw [hb]
    cases Nat.beq b.toNat c with
    | true => simp
    | false =>
      simp only [Bool.false_eq_true, if_false]
      cases L.findIdx? (fun b => b.toNat == c) with
      | none => rfl
      | some j => simp only [Option.map_some]; congr 1; omega
theorem first_pk (L : List UInt8) (c : UInt8) : firstIdx ⟨⟨L⟩⟩ c = (match L.findIdx? (fun b => b.toNat == c.toNat) with | some j => (j : Int) | none => -1) := by
  have hget : ∀ i (hi : i < L.length), (ByteArray.mk ⟨L⟩)[i]! = L[i] := by
    intro i hi
    rw [getElem!_pos (ByteArray.mk ⟨L⟩) i hi]; rfl
  have heq : ∀ a : UInt8, (a == c) = (a.toNat == c.toNat) := by
    intro a
    by_cases h : a = c
    · subst h; simp
    · have : a.toNat ≠ c.toNat := fun q => h (UInt8.toNat_inj.1 q)
      rw [beq_false_of_ne h, beq_false_of_ne this]
  unfold firstIdx
  have hs : (ByteArray.mk ⟨L⟩).size = L.length := rfl
  rw [hs]
  cases hf : L.findIdx? (fun b => b.toNat == c.toNat) with
  | none =>
    rw [List.findIdx?_eq_none_iff] at hf
    have : (List.range L.length).find? (fun i => (ByteArray.mk ⟨L⟩)[i]! == c) = none := by
      rw [List.find?_eq_none]
      intro i hi
      have hi := List.mem_range.1 hi
      rw [hget i hi, heq, hf _ (List.getElem_mem hi)]
      simp
    rw [this]
  | some j =>
    obtain ⟨hj, h1, h2⟩ := List.findIdx?_eq_some_iff_getElem.1 hf
    have : (List.range L.length).find? (fun i => (ByteArray.mk ⟨L⟩)[i]! == c) = some j := by
      rw [List.find?_range_eq_some]
      refine ⟨by rw [hget j hj, heq]; exact h1, List.mem_range.2 hj, fun i hi => ?_⟩
      rw [hget i (by omega), heq]
      have := h2 i hi
      simpa using this
    rw [this]
theorem hk_ib {g : FuncId} (E : ExtAt P g Extern.BytealgIndexByte.indexByte) {vs : List SV} {us : List Value} (hk : x_ib vs h K = true) (R : Rel ρ h σ) (hv : vals ρ vs = some us) : invW P (callS (.func (.func g) #[] #[]) us) (Pst ρ K) σ := by
  obtain ⟨x, y, rfl, hk1⟩ := ar2_true hk
  obtain ⟨m, n, rfl, hk2⟩ := asS_true hk1
  obtain ⟨c, rfl, hk3⟩ := asU_true hk2
  obtain ⟨V, W, v1, v2, rfl⟩ := vals2 hv
  obtain ⟨hm, hn, rfl⟩ := s_some v1
  obtain ⟨hc, rfl⟩ := u_some v2
  obtain ⟨L, hL, rfl, hun⟩ := unp_ex hn
  subst hL
  rw [hun]
  refine ext_ok E fun w hw => ?_
  have hr := run_indexByte_string (P := P) ⟨⟨L⟩⟩ (c : Int) w
  have hcc : (((c : Int)).toNat.toUInt8).toNat = c := by
    show (UInt8.ofNat c).toNat = c
    rw [UInt8.toNat_ofNat']
    exact Nat.mod_eq_of_lt hc
  rw [first_pk, hcc] at hr
  rw [ib_pk] at hk3
  cases hf : L.findIdx? (fun b => b.toNat == c) with
  | none =>
    rw [hf] at hr hk3
    exact ⟨_, w, σ, hr, HL.Ext.refl hw, ρ, h, .i neg1, Rm.le.refl ρ, R, val_neg1, hk3⟩
  | some j =>
    rw [hf] at hr hk3
    simp only [Nat.zero_add, frc_eq] at hk3
    obtain ⟨hj, _, _⟩ := List.findIdx?_eq_some_iff_getElem.1 hf
    have hmx := mxL_eq
    exact ⟨_, w, σ, hr, HL.Ext.refl hw, ρ, h, .i j, Rm.le.refl ρ, R, val_i (by omega), hk3⟩
theorem cb_pk : ∀ (L : List UInt8) {a c : Nat} {k : Nat → Bool}, cbF L.length (pk L 0) a c k = k (a + (L.filter (fun b => b.toNat == c)).length) := by
  intro L
  induction L with
  | nil => intro a c k; exact frc_eq a k
  | cons b L ih =>
    intro a c k
    obtain ⟨h1, h2⟩ := pk_hd b L
    show iff' (Nat.beq (Nat.div (pk (b :: L) 0) (p8 L.length)) c) (cbF L.length (Nat.mod (pk (b :: L) 0) (p8 L.length)) (Nat.succ a) c k) (cbF L.length (Nat.mod (pk (b :: L) 0) (p8 L.length)) a c k) = _
    rw [h1, h2, ih, ih, List.filter_cons, iff_eq]
    have hb : (b.toNat == c) = Nat.beq b.toNat c := nbeq _ _
    rw [hb]
    cases Nat.beq b.toNat c with
    | true => simp only [if_true, List.length_cons]; congr 1; omega
    | false => simp
theorem hk_cs {g : FuncId} (E : ExtAt P g Extern.BytealgCount.count) {vs : List SV} {us : List Value} (hk : x_cs vs h K = true) (R : Rel ρ h σ) (hv : vals ρ vs = some us) : invW P (callS (.func (.func g) #[] #[]) us) (Pst ρ K) σ := by
  obtain ⟨x, y, rfl, hk1⟩ := ar2_true hk
  obtain ⟨m, n, rfl, hk2⟩ := asS_true hk1
  obtain ⟨c, rfl, hk3⟩ := asU_true hk2
  obtain ⟨V, W, v1, v2, rfl⟩ := vals2 hv
  obtain ⟨hm, hn, rfl⟩ := s_some v1
  obtain ⟨hc, rfl⟩ := u_some v2
  obtain ⟨L, hL, rfl, hun⟩ := unp_ex hn
  subst hL
  rw [hun]
  refine ext_ok E fun w hw => ?_
  have hr := Lib.run_countString (P := P) ⟨⟨L⟩⟩ (c : Int) w
  have hcc : (((c : Int)).toNat.toUInt8).toNat = c := by
    show (UInt8.ofNat c).toNat = c
    rw [UInt8.toNat_ofNat']
    exact Nat.mod_eq_of_lt hc
  have hcnt : Lib.countByte L (((c : Int)).toNat.toUInt8) = ((L.filter (fun b => b.toNat == c)).length : Int) := by
    generalize hd : (((c : Int)).toNat.toUInt8) = d at hcc
    subst hcc
    show ((L.countP fun x => x == d : Nat) : Int) = _
    rw [List.countP_eq_length_filter]
    congr 3
    funext a
    by_cases hq : a = d
    · subst hq; simp
    · have : a.toNat ≠ d.toNat := fun q => hq (UInt8.toNat_inj.1 q)
      rw [beq_false_of_ne hq, beq_false_of_ne this]
  have hr2 : (Extern.BytealgCount.count ⟨[.string ⟨⟨L⟩⟩, .int .u8 (c : Int)]⟩).run P w = .ok (.int .i64 (((L.filter (fun b => b.toNat == c)).length : Nat) : Int)) w := by
    rw [← hcnt]; exact hr
  rw [cb_pk] at hk3
  simp only [Nat.zero_add] at hk3
  have hmx := mxL_eq
  have hlen : (L.filter (fun b => b.toNat == c)).length ≤ L.length := List.length_filter_le _ _
  exact ⟨_, w, σ, hr2, HL.Ext.refl hw, ρ, h, .i _, Rm.le.refl ρ, R, val_i (by omega), hk3⟩
/-! ### Room that is made; maps that are copied -/
theorem hk_mz {g t e : Nat} {ps : Array TypeId} {bt : TypeId} (E : ExtAt P g (Extern.BytealgMakeNoZero.makeNoZero ps #[bt])) (hb : P.underlying bt = some (.slice t)) {vs : List SV} {us : List Value} (hk : x_mz t vs h K = true) (R : Rel ρ h σ) (hv : vals ρ vs = some us) : invW P (callS (.func (.func g) #[] #[]) us) (Pst ρ K) σ := by
  obtain ⟨x, rfl, hk1⟩ := ar1_true hk
  obtain ⟨n, rfl, hk2⟩ := asI_true hk1
  obtain ⟨hn, hk3⟩ := yes_true hk2
  have hn := Nat.le_of_ble_eq_true hn
  obtain ⟨hnx, hk4⟩ := hn_true (k := fun a h => K (.r a 0 0 0 n 0) h) hk3
  obtain ⟨V, v1, rfl⟩ := vals1 hv
  have hmx := mxL_eq
  have hV : V = .int .i64 (n : Int) := by
    have := val_i (ρ := ρ) (n := n) (by omega)
    rw [this] at v1; exact (Option.some.inj v1).symm
  subst hV
  refine ext_ok E fun w hw => ?_
  obtain ⟨⟨cs⟩, hr, h1, _⟩ := Lib.run_makeNoZero (P := P) w ps bt t hb n (by omega)
  obtain ⟨h0, he⟩ := HL.Ext.alloc (σ := σ) (w := w.drew.drew) hw (.cells ⟨cs⟩ t (0, 0))
  have hcs : (Array.size ⟨cs⟩ : Nat) = cs.length := rfl
  rw [hcs] at hr h1
  refine ⟨_, _, _, hr, ⟨he.le, he.size, he.keep, he.own, he.os, he.tape, he.output⟩, ρ.add h.nx 0 w.heap.size cs.length, _, .r h.nx 0 0 0 n 0, R.add_le 0 w.heap.size cs.length, ?_, ?_, hk4⟩
  · refine R.new (s := .byt t 0 0 0 0) hnx h0 0 cs.length ⟨Nat.zero_le _, Nat.pos_of_ne_zero (by simp), ?_⟩
    exact row_newF (κ := cs.length) (sz := 1) R ⟨Nat.le_refl _, fun q => by omega⟩ (by omega) (Nat.zero_le _) fun i hi => by omega
  · simp only [val, Rm.add_B ρ h.nx 0 w.heap.size cs.length (Nat.le_refl 0), Rm.add_κ ρ h.nx 0 w.heap.size cs.length (Nat.le_refl 0)]
    rw [if_pos (by omega)]
    simp
theorem hk_mc {g : FuncId} (E : ExtAt P g Extern.MapsClone.clone) {vs : List SV} {us : List Value} (hk : x_mc vs h K = true) (R : Rel ρ h σ) (hv : vals ρ vs = some us) : invW P (callS (.func (.func g) #[] #[]) us) (Pst ρ K) σ := by
  obtain ⟨x, rfl, hk1⟩ := ar1_true hk
  obtain ⟨V, v1, rfl⟩ := vals1 hv
  cases x with
  | e t v =>
    have hk2 : mapK v h false (fun _ kt es => hn h (.map kt es) fun a h => K (.e t (.m a)) h) = true := hk1
    simp only [val] at v1
    split at v1
    case h_2 => cases v1
    rename_i X hX
    cases v1
    rcases mapK_true R hX hk2 with ⟨rfl, hf⟩ | ⟨a, b, kt, es, l, m, rfl, hb, hg, hl, hK, hd, hp, ⟨E', c, hE, hEl, hst⟩, hk3⟩
    · cases hf
    · obtain ⟨hnx, hk4⟩ := hn_true (k := fun a h => K (.e t (.m a)) h) hk3
      refine ext_ok E fun w hw => ?_
      have hr := Proofs.run_maps_clone_sl (P := P) (w := w) t (hw b _ hE)
      obtain ⟨h0, he⟩ := HL.Ext.alloc (σ := σ) hw (.map E' c)
      have hle := R.add_le 0 w.heap.size 0
      refine ⟨_, _, _, hr, he, ρ.add h.nx 0 w.heap.size 0, _, .e t (.m h.nx), hle, ?_, ?_, hk4⟩
      · refine R.new (s := .map kt es) hnx h0 0 0 ⟨w.heap.size, l, m, Rm.add_B _ _ _ _ _ (Nat.le_refl _), entsV_le hle hl, hK, hd, hp, E', c, H.put_same _ _ _, hEl, hst⟩
      · simp only [val, Rm.add_B ρ h.nx 0 w.heap.size 0 (Nat.le_refl 0)]
  | _ => cases hk1
/-! ### Numbers -/
theorem asKW_true {c : Nat} {v : SV} {k : Nat → Bool} (hk : asKW c v k = true) : ∃ n, v = .w c n ∧ k n = true := by
  obtain ⟨c', n, rfl, h1⟩ := asW_true hk
  obtain ⟨h2, h3⟩ := yes_true h1
  have := Nat.eq_of_beq_eq_true h2
  subst this
  exact ⟨n, rfl, h3⟩
theorem w64_some {n : Nat} {V : Value} (hv : val ρ (.w 5 n) = some V) : n < 18446744073709551616 ∧ V = .int .u64 (n : Int) := by
  obtain ⟨h1, h2⟩ := vI_some (k := .u64) hv
  refine ⟨h1, ?_⟩
  rw [h2, tI_lo fun q => by cases q]
theorem val_w64 {n : Nat} (hn : n < 18446744073709551616) : val ρ (.w 5 n) = some (.int .u64 (n : Int)) := vI_of (k := .u64) hn (tI_lo fun q => by cases q)
def add64 : Array Value → Sem Value := fun args => do
  let (x, y, c) ← Extern.MathBitsCarry.three "Add64" args
  pure (Extern.MathBitsCarry.pair ((x + y + c) % Extern.MathBitsCarry.m64) ((x + y + c) / Extern.MathBitsCarry.m64))
theorem hk_ad {g : FuncId} (E : ExtAt P g add64) {vs : List SV} {us : List Value} (hk : x_ad vs h K = true) (R : Rel ρ h σ) (hv : vals ρ vs = some us) : invW P (callS (.func (.func g) #[] #[]) us) (Pst ρ K) σ := by
  obtain ⟨x, y, z, rfl, hk1⟩ := ar3_true hk
  obtain ⟨a, rfl, hk2⟩ := asKW_true hk1
  obtain ⟨b, rfl, hk3⟩ := asKW_true hk2
  obtain ⟨c, rfl, hk4⟩ := asKW_true hk3
  obtain ⟨hc1, hk5⟩ := yes_true hk4
  have hc1 := Nat.le_of_ble_eq_true hc1
  simp only [frc_eq] at hk5
  obtain ⟨U, V, W, v1, v2, v3, rfl⟩ := vals3 hv
  obtain ⟨ha, rfl⟩ := w64_some v1
  obtain ⟨hb, rfl⟩ := w64_some v2
  obtain ⟨hc, rfl⟩ := w64_some v3
  refine ext_ok E fun w hw => ?_
  refine ⟨.tuple #[.int .u64 (((a + b + c) % 18446744073709551616 : Nat) : Int), .int .u64 (((a + b + c) / 18446744073709551616 : Nat) : Int)], w, σ, ?_, HL.Ext.refl hw, ρ, h, _, Rm.le.refl ρ, R, ?_, hk5⟩
  · match c, hc1 with
    | 0, _ => rfl
    | 1, _ => rfl
  · have q1 : (a + b + c) % 18446744073709551616 < 18446744073709551616 := Nat.mod_lt _ (by decide)
    have q2 : (a + b + c) / 18446744073709551616 < 18446744073709551616 := by omega
    have e1 := val_w64 (ρ := ρ) q1
    have e2 := val_w64 (ρ := ρ) q2
    show val ρ (.t [.w 5 ((a + b + c) % 18446744073709551616), .w 5 ((a + b + c) / 18446744073709551616)]) = _
    simp only [val, vals] at e1 e2 ⊢
    rw [e1, e2]
end
end Go.Ev

namespace Go.Ev
open Go Go.HL
/-! ### Sets of functions, as bits -/
theorem bitq_lt {n q g : Nat} (hq : Nat.blt q (Nat.pow 2 n) = true) (h : bitq q g = true) : g < n := by
  rcases Nat.lt_or_ge g n with h1 | h1
  · exact h1
  · have hq := blt_lt hq
    have hz : Nat.shiftRight q g = 0 := by
      show q >>> g = 0
      rw [Nat.shiftRight_eq_div_pow]
      exact Nat.div_eq_of_lt (Nat.lt_of_lt_of_le hq (Nat.pow_le_pow_right (by decide) h1))
    unfold bitq at h
    rw [hz] at h
    cases h
theorem bits_in {n q : Nat} {L : List Nat} (hq : Nat.blt q (Nat.pow 2 n) = true) (hL : (List.range n).filter (fun g => bitq q g) = L) : ∀ g, bitq q g = true → g ∈ L := by
  intro g h
  rw [← hL]
  exact List.mem_filter.2 ⟨List.mem_range.2 (bitq_lt hq h), h⟩
theorem tab_of {P : Program} {gl : Nat → Nat} {mt : String → Nat → Nat} {hk : Nat → Option (Nat × Nat)} {ord : Nat → Nat → Option (List Nat × List (List Nat))} {q : Nat} {df : Nat → Nat} {g : Nat} {fn : Func} (hf : P.funcs[g]? = some fn) : tab P gl mt hk ord q df g = layF P gl mt hk (ord g) q (df g) fn := by
  unfold tab; rw [hf]
/-! ### Methods -/
theorem mtOf_run {P : Program} {nm : String} {t f : Nat} {i : TypeInfo} {m : Method} (hi : P.info? t = some i) (hm : i.methods.find? (fun m => m.name == nm) = some m) {pr : Bool} (hf : m.func = some (f, pr)) (hp : m.path.toList = []) {e : Nat} (hu : P.underlying t = some (.pointer e)) (hpr : pr = true) (hgo : isGo P f = true) :
    ∀ V us w, (callMethod (.iface t V) nm ⟨us⟩).run P w = .ok (.enter f (V :: us).toArray) w := by
  intro V us w
  subst hpr
  have hpt : m.path = #[] := by
    apply Array.ext'
    rw [hp]
  have hmeth : ∀ fuel, (method (fuel + 1) t V nm).run P w = .ok (f, V) w := by
    intro fuel
    simp [method, typeInfo, hi, hm, hpt, follow, hf, receiverAt, underlying, hu, Place.get]
  have hfuel : ∃ k, P.types.size + Made.depth = k + 1 := ⟨P.types.size + 99, rfl⟩
  obtain ⟨k, hk⟩ := hfuel
  simp only [callMethod, Sem.run_bind, run_program, Result.andThen_ok, hk, hmeth]
  rw [callFunc_go hgo]
  simp
theorem mt_ok {P : Program} {T : Nat → PC} (h0 : T 7999 = .no) (hgo : ∀ g, T g = .no ∨ isGo P g = true) : ∀ nm t, T (mtOf P nm t) = .no ∨ ∀ V us w, (callMethod (.iface t V) nm ⟨us⟩).run P w = .ok (.enter (mtOf P nm t) (V :: us).toArray) w := by
  intro nm t
  unfold mtOf
  split
  · rename_i i hi
    split
    · rename_i m hm
      split
      · rename_i f e hf hp hu
        rcases hgo f with h | h
        · exact .inl h
        · exact .inr (mtOf_run hi hm hf hp hu rfl h)
      · exact .inl h0
    · exact .inl h0
  · exact .inl h0
/-! ### All is as it must be -/
theorem set_mk {P : Program} {T : Nat → PC} {gl : Nat → Nat} {hk : Nat → Option (Nat × Nat)} {fx : Nat → Option Obj} {ord : Nat → Nat → Option (List Nat × List (List Nat))} {q : Nat} {df : Nat → Nat} (hm : P.follows .mixedOrders = true) (hH : HkOk P hk fx) {n mask : Nat} {L : List Nat}
    (hno : ∀ g, bitq mask g = false → T g = .no) (hq : Nat.blt mask (Nat.pow 2 n) = true) (hL : (List.range n).filter (fun g => bitq mask g) = L) (hT : ∀ g ∈ L, T g = tab P gl (mtOf P) hk ord q df g) (hc : L.all (fun g => chkF P ord g) = true)
    (h0 : T 7999 = .no) {nd : Nat} (hd : Nat.blt q (Nat.pow 2 nd) = true) (hdc : ((List.range nd).filter (fun g => bitq q g)).all (fun g => chkD P df g) = true) : SetOk P T (fun _ _ _ _ => false) gl (mtOf P) hk fx ord q df := by
  have tabq : ∀ g, T g = .no ∨ (T g = tab P gl (mtOf P) hk ord q df g ∧ chkF P ord g = true) := by
    intro g
    cases hb : bitq mask g with
    | false => exact .inl (hno g hb)
    | true =>
      have := bits_in hq hL g hb
      exact .inr ⟨hT g this, List.all_eq_true.1 hc g this⟩
  refine ⟨hm, fun _ _ _ _ => rfl, hH, tabq, fun g hb => ?_, mt_ok h0 fun g => ?_⟩
  · exact List.all_eq_true.1 hdc g (bits_in hd rfl g hb)
  · rcases tabq g with h | ⟨_, h⟩
    · exact .inl h
    · right
      unfold chkF at h
      split at h
      · split at h
        · simp only [Bool.and_eq_true] at h; exact h.2
        · cases h
      · cases h
/-! ### The empty heap -/
def k1 : N20 SO := .mk .no .no .no .no .no .no .no .no .no .no .no .no .no .no .no .no .no .no .no .no
def k2 : N20 (N20 SO) := .mk k1 k1 k1 k1 k1 k1 k1 k1 k1 k1 k1 k1 k1 k1 k1 k1 k1 k1 k1 k1
def k3 : N20 (N20 (N20 SO)) := .mk k2 k2 k2 k2 k2 k2 k2 k2 k2 k2 k2 k2 k2 k2 k2 k2 k2 k2 k2 k2
def k4 : N20 (N20 (N20 (N20 SO))) := .mk k3 k3 k3 k3 k3 k3 k3 k3 k3 k3 k3 k3 k3 k3 k3 k3 k3 k3 k3 k3
def hp0 : Hp := .mk 0 k4
theorem k1_at (d : D20) : k1.at d = .no := by cases d <;> rfl
theorem k2_at (d : D20) : k2.at d = k1 := by cases d <;> rfl
theorem k3_at (d : D20) : k3.at d = k2 := by cases d <;> rfl
theorem k4_at (d : D20) : k4.at d = k3 := by cases d <;> rfl
theorem hp0_get (a : Nat) : hp0.get a = .no := by
  show hat k4 a = .no
  unfold hat
  simp only [k4_at, k3_at, k2_at, k1_at]
def rm0 (L : LoT) : Rm := ⟨fun _ _ => none, fun _ _ => 0, L⟩
theorem rel0 {L : LoT} {σ : H} (hf : ∀ b o, L.fx b = some o → σ b = some o) : Rel (rm0 L) hp0 σ := by
  refine ⟨fun a v b h => (by cases h), fun a _ => ?_, fun a a' v v' b h => (by cases h), fun a v b h => (by cases h), hf, fun a v b h => (by cases h)⟩
  rw [hp0_get]; trivial
/-- a closed run -/
theorem run_closed {P : Program} {T : Nat → PC} {hk : Nat → Option (Nat × Nat)} {fx : Nat → Option Obj} {ord : Nat → Nat → Option (List Nat × List (List Nat))} {q : Nat} {df : Nat → Nat} {mt : String → Nat → Nat} (O : SetOk P T (fun _ _ _ _ => false) (fun _ => 0) mt hk fx ord q df) {n g : Nat} {l : List SV} {vs : List Value} {p : SV → Bool} {σ : H} (hf : ∀ b o, fx b = some o → σ b = some o) (hv : vals (rm0 (LO P (fun _ => 0) mt hk fx)) l = some vs)
    (hg : enter T (go T (fun _ _ _ _ => false) n) g l [.tp p] hp0 = true) : callW P g vs (fun V σ' => (∃ (ρ' : Rm) (x : SV), val ρ' x = some V ∧ p x = true) ∧ ∀ b o, fx b = some o → σ' b = some o) σ :=
  run_sound O hg (rel0 hf) hv (fun g n h => by cases h) rfl
/-- what nothing was asked of may be asked anywhere -/
theorem callW.any {P : Program} {g : FuncId} {args : List Value} {Q : Value → Prop} (h : callW P g args (fun V _ => Q V) (fun _ => none)) (σ : H) : callW P g args (fun V σ' => Q V ∧ σ' = σ) σ := by
  intro w hw
  refine (h w (fun b o hb => by cases hb)).mono fun e w' ⟨V, he, σ', hx, hQ⟩ => ?_
  refine ⟨V, he, σ, ⟨fun b o hb => ?_, hx.size, fun b hb _ => hx.keep b hb rfl, fun b o hb hn => ?_, hx.os, hx.tape, hx.output⟩, hQ, rfl⟩
  · rw [hx.keep b (hw.lt hb) rfl]; exact hw b o hb
  · rw [hn] at hb; cases hb
/-- a call that changes nothing, as a hook's -/
theorem hk_call {P : Program} {ρ : Rm} {h : Hp} {σ : H} {K : Kv} {g : FuncId} {us : List Value} {V : Value} {x : SV} (hgo : isGo P g = true) (hc : callW P g us (fun V' σ' => V' = V ∧ σ' = σ) σ) (R : Rel ρ h σ) (hx : val ρ x = some V) (hK : K x h = true) : invW P (callS (.func (.func g) #[] #[]) us) (Pst ρ K) σ := by
  intro w hw
  have hr : (callS (.func (.func g) #[] #[]) us).run P w = .ok (.enter g us.toArray) w := by
    simp only [callS, Deferred.ofValue, Sem.run_bind, Sem.run_pure, Result.andThen_ok, invoke]
    rw [callFunc_go hgo]
    simp
  rw [hr]
  refine (hc w hw).mono fun e w' ⟨V', he, σ', hx', hV, hs⟩ => ?_
  subst hV hs
  exact ⟨V', he, σ', hx', ρ, h, x, Rm.le.refl ρ, R, hx, hK⟩
end Go.Ev

namespace Go.Wk
open Go Go.HL
def leB : List UInt8 → List UInt8 → Bool
  | [], _ => true
  | _ :: _, [] => false
  | a :: r, b :: s => match Nat.blt a.toNat b.toNat with
    | true => true
    | false => match Nat.blt b.toNat a.toNat with
      | true => false
      | false => leB r s
def insB (x : List UInt8) : List (List UInt8) → List (List UInt8)
  | [] => [x]
  | y :: r => match leB x y with
    | true => x :: y :: r
    | false => y :: insB x r
def sortB : List (List UInt8) → List (List UInt8)
  | [] => []
  | x :: r => insB x (sortB r)
theorem leB_iff : ∀ x y : List UInt8, leB x y = true ↔ x ≤ y := by
  intro x
  induction x with
  | nil => intro y; simp [leB]
  | cons a r ih =>
    intro y
    cases y with
    | nil => simp [leB]
    | cons b s =>
      rw [List.cons_le_cons_iff]
      unfold leB
      cases h1 : Nat.blt a.toNat b.toNat with
      | true =>
        have : a < b := UInt8.lt_iff_toNat_lt.2 (by simpa [Nat.blt_eq] using h1)
        simp [this]
      | false =>
        have h1' : ¬ a < b := by
          intro h; have : Nat.blt a.toNat b.toNat = true := by rw [Nat.blt_eq]; exact h
          rw [h1] at this; cases this
        cases h2 : Nat.blt b.toNat a.toNat with
        | true =>
          have : b < a := UInt8.lt_iff_toNat_lt.2 (by simpa [Nat.blt_eq] using h2)
          simp only [Bool.false_eq_true, false_iff, not_or, not_and]
          refine ⟨h1', fun e => ?_⟩
          subst e; exact absurd this (UInt8.lt_irrefl _)
        | false =>
          have h2' : ¬ b < a := by
            intro h; have : Nat.blt b.toNat a.toNat = true := by rw [Nat.blt_eq]; exact h
            rw [h2] at this; cases this
          have : a = b := UInt8.le_antisymm (UInt8.not_lt.1 h2') (UInt8.not_lt.1 h1')
          simp [this, ih]
theorem insB_perm (x : List UInt8) : ∀ l, (insB x l).Perm (x :: l) := by
  intro l
  induction l with
  | nil => exact List.Perm.refl _
  | cons y r ih =>
    unfold insB
    cases leB x y with
    | true => exact List.Perm.refl _
    | false => exact (ih.cons y).trans (List.Perm.swap x y r)
theorem sortB_perm : ∀ l, (sortB l).Perm l := by
  intro l
  induction l with
  | nil => exact List.Perm.refl _
  | cons x r ih => exact (insB_perm x _).trans (ih.cons x)
theorem insB_sorted {x : List UInt8} : ∀ {l : List (List UInt8)}, l.Pairwise (· ≤ ·) → (insB x l).Pairwise (· ≤ ·) := by
  intro l
  induction l with
  | nil => intro _; simp [insB]
  | cons y r ih =>
    intro h
    obtain ⟨h1, h2⟩ := List.pairwise_cons.1 h
    unfold insB
    cases hb : leB x y with
    | true =>
      have hxy := (leB_iff x y).1 hb
      refine List.pairwise_cons.2 ⟨fun z hz => ?_, h⟩
      rcases List.mem_cons.1 hz with e | e
      · rw [e]; exact hxy
      · exact List.le_trans hxy (h1 z e)
    | false =>
      have hyx : y ≤ x := by
        have : ¬ x ≤ y := by rw [← leB_iff, hb]; simp
        exact (List.le_total x y).resolve_left this
      refine List.pairwise_cons.2 ⟨fun z hz => ?_, ih h2⟩
      rcases List.mem_cons.1 ((insB_perm x r).mem_iff.1 hz) with e | e
      · rw [e]; exact hyx
      · exact h1 z e
theorem sortB_sorted : ∀ l, (sortB l).Pairwise (· ≤ ·) := by
  intro l
  induction l with
  | nil => exact List.Pairwise.nil
  | cons x r ih => exact insB_sorted ih
theorem sortB_merge (l : List (List UInt8)) : l.mergeSort (fun x y => decide (x ≤ y)) = sortB l := by
  have h1 := List.pairwise_mergeSort (le := fun x y : List UInt8 => decide (x ≤ y)) (by intro a b c h1 h2; simp only [decide_eq_true_eq] at *; exact List.le_trans h1 h2) (by intro a b; simp only [Bool.or_eq_true, decide_eq_true_eq]; exact List.le_total a b) l
  have h1' : (l.mergeSort (fun x y => decide (x ≤ y))).Pairwise (· ≤ ·) := h1.imp (by intro a b h; simpa using h)
  refine List.Perm.eq_of_pairwise (le := (· ≤ ·)) ?_ h1' (sortB_sorted l) ((List.mergeSort_perm l _).trans (sortB_perm l).symm)
  intro a b _ _ h1 h2; exact List.le_antisymm h1 h2
def AT.data (A : AT) (i : Int) : ByteArray := ((A.get i).map (·.data)).getD ⟨⟨[]⟩⟩
end Go.Wk

namespace Go.Ev
open Go Go.HL Go.Wk
/-- a list, looked up -/
def hkL : List (Nat × Nat × Nat) → Nat → Option (Nat × Nat)
  | [], _ => none
  | (k, c, t) :: r, g => match Nat.beq g k with
    | true => some (c, t)
    | false => hkL r g
theorem hkL_mem : ∀ {l : List (Nat × Nat × Nat)} {g c t : Nat}, hkL l g = some (c, t) → (g, c, t) ∈ l := by
  intro l
  induction l with
  | nil => intro g c t h; cases h
  | cons x r ih =>
    obtain ⟨k, c', t'⟩ := x
    intro g c t h
    simp only [hkL] at h
    split at h
    · rename_i hb
      have := Nat.eq_of_beq_eq_true hb
      subst this
      cases h; exact List.mem_cons_self ..
    · exact List.mem_cons_of_mem _ (ih h)
/-! ### What is asked of each -/
def IsAt (P : Program) (fx : Nat → Option Obj) (g : Nat) : Prop := isGo P g = true ∧ ∀ (s t : ByteArray) (σ : H), (∀ b o, fx b = some o → σ b = some o) → s.size < 4294967281 → ∀ K : Value → H → Prop, K (.int .i64 (Lib.index s.data.toList t.data.toList)) σ → callW P g [.string s, .string t] K σ
def ShAt (P : Program) (g : Nat) : Prop := isGo P g = true ∧ ∀ a b y, HE.mk a b y ∈ shaTab → a ≤ mxL ∧ y < 256 ^ 32 ∧ ∀ σ, callW P g [.string (unp a b)] (fun V σ' => V = .string (unp 32 y) ∧ σ' = σ) σ
def CtAt (P : Program) (g : Nat) : Prop := isGo P g = true ∧ ∃ V, (∀ ρ, val ρ ctV = some V) ∧ ∀ σ, callW P g [] (fun V' σ' => V' = V ∧ σ' = σ) σ
def CcAt (P : Program) (g t : Nat) : Prop := isGo P g = true ∧ ∀ q, (q = t % 281474976710656 ∨ q = t / 281474976710656) → ∀ (σ : H) (b : Nat) (l : List Value) (lo hi : Nat), σ b = some (.cells ⟨l⟩ (q % 65536) (lo, hi)) → q / 4294967296 ≤ l.length → q / 65536 % 65536 < l.length →
  (l[q / 65536 % 65536]? = some (.pointer none) → (hi ≤ lo ∨ hi ≤ q / 65536 % 65536 ∨ l.length ≤ lo) → ∀ K : Value → H → Prop, K undef (σ.put b (.cells ⟨l.set (q / 65536 % 65536) (.pointer (some ⟨b, q / 65536 % 65536, none⟩))⟩ (q % 65536) (lo, hi))) → callW P g [.pointer (some ⟨b, q / 65536 % 65536, none⟩)] K σ) ∧
  (l[q / 65536 % 65536]? = some (.pointer (some ⟨b, q / 65536 % 65536, none⟩)) → ∀ K : Value → H → Prop, K undef σ → callW P g [.pointer (some ⟨b, q / 65536 % 65536, none⟩)] K σ)
def AsAt (P : Program) (fx : Nat → Option Obj) (g t : Nat) : Prop := isGo P g = true ∧ ∀ (σ : H), (∀ b o, fx b = some o → σ b = some o) → (∀ (V : Value) (K : Value → H → Prop), K (.bool false) σ → callW P g [.nilIface, V] K σ) ∧
  ∀ (b o : Nat) (l : List Value) (T lo hi : Nat) (A : Addr), σ b = some (.cells ⟨l⟩ T (lo, hi)) → o < l.length → (hi ≤ lo ∨ hi ≤ o ∨ l.length ≤ lo) → ∀ K : Value → H → Prop, K (.bool true) (σ.put b (.cells ⟨l.set o (.pointer (some A))⟩ T (lo, hi))) → callW P g [.iface (t % 65536) (.pointer (some A)), .iface (t / 65536) (.pointer (some ⟨b, o, none⟩))] K σ
/-- a key's bytes -/
def keyS (p : Value × Value) : List UInt8 := match p.1 with
  | .string s => s.data.toList
  | _ => []
/-- the keys, rising -/
def srtK (l : List (Value × Value)) : List Value := (sortB (l.map keyS)).map fun x => .string ⟨⟨x⟩⟩
def SoAt (P : Program) (g t : Nat) : Prop := isGo P g = true ∧ ∀ g', Nat.beq (Nat.land (Nat.shiftRight (t / 65536) g') 1) 1 = true → ∀ (σ : H) (b2 : Nat) (v : Option Nat) (l : List Value) (T : Nat) (fz : Nat × Nat), σ b2 = some (.cells ⟨.map v :: l⟩ T fz) →
  (v = none → ∀ K : Value → H → Prop, K (.slice none 0 0) σ → callW P g [.func (.func g') ⟨[]⟩ ⟨[.pointer (some ⟨b2, 0, none⟩)]⟩] K σ) ∧
  ∀ e m, v = some e → MapAt σ e m → (∀ p ∈ m, ∃ s, p.1 = .string s ∧ s.size ≤ mxL) → m.length ≤ 4096 → ∀ K : Value → H → Prop, (m = [] → K (.slice none 0 0) σ) → (∀ b cells κ, m ≠ [] → σ b = none → cells.length = κ → m.length ≤ κ → (∀ i, i < m.length → cells[i]? = (srtK m)[i]?) → K (.slice (some ⟨b, 0, none⟩) m.length κ) (σ.put b (.cells ⟨cells⟩ (t % 65536) (0, 0)))) →
    callW P g [.func (.func g') ⟨[]⟩ ⟨[.pointer (some ⟨b2, 0, none⟩)]⟩] K σ
def HkAt (P : Program) (fx : Nat → Option Obj) (g c t : Nat) : Prop := match c with
  | 0 => ExtAt P g Extern.BytealgIndexByte.indexByte
  | 1 => ExtAt P g Extern.BytealgCount.count
  | 2 => IsAt P fx g
  | 3 => ∃ ps bt, ExtAt P g (Extern.BytealgMakeNoZero.makeNoZero ps #[bt]) ∧ P.underlying bt = some (.slice t)
  | 4 => ShAt P g
  | 5 => CcAt P g t
  | 6 => ExtAt P g Extern.MapsClone.clone
  | 7 => AsAt P fx g t
  | 8 => SoAt P g t
  | 9 => ExtAt P g add64
  | 10 => CtAt P g
  | _ => False
section
variable {P : Program} {ρ : Rm} {h : Hp} {σ : H} {K : Kv}
theorem hk_go {g : FuncId} {us : List Value} {Q : Value → H → Prop} (hgo : isGo P g = true) (hc : callW P g us Q σ) : invW P (callS (.func (.func g) #[] #[]) us) Q σ := by
  intro w hw
  have hr : (callS (.func (.func g) #[] #[]) us).run P w = .ok (.enter g us.toArray) w := by
    simp only [callS, Deferred.ofValue, Sem.run_bind, Sem.run_pure, Result.andThen_ok, invoke]
    rw [callFunc_go hgo]
    simp
  rw [hr]
  exact hc w hw
/-! ### The place of a text in a text -/
theorem occ_cut {L M : List UInt8} {j : Nat} (hj : j + M.length ≤ L.length) : Lib.occAt L M j = Nat.beq (cutB L.length (pk L 0) j M.length) (pk M 0) := by
  have h1 := unp_cut (l := L.length) (n := pk L 0) (i := j) (j := j + M.length) (by omega) hj
  rw [unp_pk, show j + M.length - j = M.length by omega] at h1
  have h2 : (ByteArray.mk ⟨L⟩).extract j (j + M.length) = ⟨⟨(L.drop j).take M.length⟩⟩ := by
    apply ByteArray.ext
    apply Array.ext'
    simp [ByteArray.data_extract, List.extract_eq_take_drop]
  rw [h2] at h1
  have h3 : Lib.occAt L M j = decide ((L.drop j).take M.length = M) := by
    unfold Lib.occAt
    by_cases e : (L.drop j).take M.length = M
    · rw [decide_eq_true e]
      rw [List.isPrefixOf_iff_prefix]
      exact ⟨(L.drop j).drop M.length, by
        have := List.take_append_drop M.length (L.drop j)
        rw [e] at this; exact this⟩
    · rw [decide_eq_false e]
      cases hb : M.isPrefixOf (L.drop j) with
      | false => rfl
      | true =>
        exfalso
        obtain ⟨r, hr⟩ := List.isPrefixOf_iff_prefix.1 hb
        exact e (by rw [← hr]; simp)
  rw [h3]
  cases hb : Nat.beq (cutB L.length (pk L 0) j M.length) (pk M 0) with
  | true =>
    have := Nat.eq_of_beq_eq_true hb
    rw [this, unp_pk] at h1
    have := congrArg (fun b => b.data.toList) h1
    simpa using this
  | false =>
    have hne := Nat.ne_of_beq_eq_false hb
    refine decide_eq_false fun e => hne ?_
    rw [e, ← unp_pk M] at h1
    exact (unp_inj (pk_lt M) (cutB_lt ..) h1).2.symm
theorem isF_true {L M : List UInt8} : ∀ (q i : Nat) {z : Bool} {k : Nat → Bool}, i + q + M.length ≤ L.length + 1 → isF L.length (pk L 0) M.length (pk M 0) q i z k = true → (∃ j, i ≤ j ∧ j < i + q ∧ Lib.occAt L M j = true ∧ (∀ j', i ≤ j' → j' < j → Lib.occAt L M j' = false) ∧ k j = true) ∨ ((∀ j', i ≤ j' → j' < i + q → Lib.occAt L M j' = false) ∧ z = true) := by
  intro q
  induction q with
  | zero => intro i z k _ h; exact .inr ⟨fun j' h1 h2 => by omega, h⟩
  | succ q ih =>
    intro i z k hle h
    have ho := occ_cut (L := L) (M := M) (j := i) (by omega)
    have h : iff' (Nat.beq (cutB L.length (pk L 0) i M.length) (pk M 0)) (k i) (isF L.length (pk L 0) M.length (pk M 0) q (Nat.succ i) z k) = true := h
    rw [← ho] at h
    rcases iff_true h with ⟨h1, h2⟩ | ⟨h1, h2⟩
    · exact .inl ⟨i, Nat.le_refl _, by omega, h1, fun j' a b => by omega, h2⟩
    · rcases ih (i + 1) (by omega) h2 with ⟨j, q1, q2, q3, q4, q5⟩ | ⟨q1, q2⟩
      · refine .inl ⟨j, by omega, by omega, q3, fun j' a b => ?_, q5⟩
        rcases Nat.eq_or_lt_of_le a with e | e
        · rw [← e]; exact h1
        · exact q4 j' e b
      · refine .inr ⟨fun j' a b => ?_, q2⟩
        rcases Nat.eq_or_lt_of_le a with e | e
        · rw [← e]; exact h1
        · exact q1 j' e (by omega)
theorem occ_len {L M : List UInt8} {j : Nat} (h : Lib.occAt L M j = true) (hj : j ≤ L.length) : j + M.length ≤ L.length := by
  unfold Lib.occAt at h
  obtain ⟨r, hr⟩ := List.isPrefixOf_iff_prefix.1 h
  have := congrArg List.length hr
  simp at this
  omega
theorem hk_is {fx : Nat → Option Obj} {g : FuncId} (E : IsAt P fx g) (hf : ∀ b o, fx b = some o → σ b = some o) {vs : List SV} {us : List Value} (hk : x_is vs h K = true) (R : Rel ρ h σ) (hv : vals ρ vs = some us) : invW P (callS (.func (.func g) #[] #[]) us) (Pst ρ K) σ := by
  obtain ⟨x, y, rfl, hk1⟩ := ar2_true hk
  obtain ⟨m, n, rfl, hk2⟩ := asS_true hk1
  obtain ⟨q, z, rfl, hk3⟩ := asS_true hk2
  obtain ⟨hlt, hk4⟩ := yes_true hk3
  have hlt := blt_lt hlt
  obtain ⟨V, W, v1, v2, rfl⟩ := vals2 hv
  obtain ⟨hm, hn, rfl⟩ := s_some v1
  obtain ⟨hq, hz, rfl⟩ := s_some v2
  obtain ⟨L, hL, rfl, hun⟩ := unp_ex hn
  obtain ⟨M, hM, rfl, hun2⟩ := unp_ex hz
  subst hL hM
  rw [hun, hun2]
  obtain ⟨hgo, E⟩ := E
  refine hk_go hgo (E ⟨⟨L⟩⟩ ⟨⟨M⟩⟩ σ hf hlt _ ?_)
  show Pst ρ K (.int .i64 (Lib.index L M)) σ
  have none_ : (∀ j, j ≤ L.length → Lib.occAt L M j = false) → K (.i neg1) h = true → Pst ρ K (.int .i64 (Lib.index L M)) σ := by
    intro h1 h2
    rw [Lib.index_none h1]
    exact ⟨ρ, h, .i neg1, Rm.le.refl ρ, R, val_neg1, h2⟩
  have all_ : (∀ j, j + M.length ≤ L.length → Lib.occAt L M j = false) → ∀ j, j ≤ L.length → Lib.occAt L M j = false := by
    intro h1 j hj
    cases ho : Lib.occAt L M j with
    | false => rfl
    | true => have := h1 j (occ_len ho hj); rw [ho] at this; cases this
  rcases iff_true hk4 with ⟨h1, h2⟩ | ⟨h1, h2⟩
  · have h1 := Nat.le_of_ble_eq_true h1
    have hs : Nat.succ (Nat.sub L.length M.length) = L.length - M.length + 1 := rfl
    rw [hs] at h2
    rcases isF_true _ 0 (by omega) h2 with ⟨j, q1, q2, q3, q4, q5⟩ | ⟨q1, q2⟩
    · rw [frc_eq] at q5
      rw [Lib.index_first (i := j) (by omega) q3 (fun j' hj' => q4 j' (Nat.zero_le _) hj')]
      exact ⟨ρ, h, .i j, Rm.le.refl ρ, R, val_i (by omega), q5⟩
    · exact none_ (all_ fun j hj => q1 j (Nat.zero_le _) (by omega)) q2
  · have h1 : ¬ M.length ≤ L.length := fun e => by
      rw [Nat.ble_eq_true_of_le e] at h1; cases h1
    exact none_ (all_ fun j hj => by omega) h2
/-! ### Sums -/
theorem shaL_true {m n : Nat} {k : Nat → Bool} : ∀ {tb : List HE}, shaL tb m n k = true → ∃ y, HE.mk m n y ∈ tb ∧ k y = true := by
  intro tb
  induction tb with
  | nil => intro h; cases h
  | cons x tb ih =>
    obtain ⟨a, b, y⟩ := x
    intro h
    have h : iff' (Nat.beq a m) (iff' (Nat.beq b n) (k y) (shaL tb m n k)) (shaL tb m n k) = true := h
    rcases iff_true h with ⟨h1, h2⟩ | ⟨_, h2⟩
    · rcases iff_true h2 with ⟨h3, h4⟩ | ⟨_, h4⟩
      · have := Nat.eq_of_beq_eq_true h1
        have := Nat.eq_of_beq_eq_true h3
        subst_vars
        exact ⟨y, List.mem_cons_self .., h4⟩
      · obtain ⟨y, q1, q2⟩ := ih h4; exact ⟨y, List.mem_cons_of_mem _ q1, q2⟩
    · obtain ⟨y, q1, q2⟩ := ih h2; exact ⟨y, List.mem_cons_of_mem _ q1, q2⟩
theorem hk_sha {g : FuncId} (E : ShAt P g) {vs : List SV} {us : List Value} (hk : x_sha vs h K = true) (R : Rel ρ h σ) (hv : vals ρ vs = some us) : invW P (callS (.func (.func g) #[] #[]) us) (Pst ρ K) σ := by
  obtain ⟨x, rfl, hk1⟩ := ar1_true hk
  obtain ⟨m, n, rfl, hk2⟩ := asS_true hk1
  obtain ⟨y, hy, hk3⟩ := shaL_true hk2
  obtain ⟨V, v1, rfl⟩ := vals1 hv
  obtain ⟨hm, hn, rfl⟩ := s_some v1
  obtain ⟨hgo, E⟩ := E
  obtain ⟨_, hlt, hc⟩ := E m n y hy
  refine hk_call hgo (hc σ) R (x := .s 32 y) ?_ hk3
  have h32 : 32 ≤ mxL := by rw [mxL_eq]; omega
  simp only [val]
  rw [if_pos ⟨h32, hlt⟩]
theorem hk_ct {g : FuncId} (E : CtAt P g) {vs : List SV} {us : List Value} (hk : x_ct vs h K = true) (R : Rel ρ h σ) (hv : vals ρ vs = some us) : invW P (callS (.func (.func g) #[] #[]) us) (Pst ρ K) σ := by
  obtain ⟨rfl, hk1⟩ := ar0_true hk
  simp only [vals] at hv
  cases hv
  obtain ⟨hgo, V, hV, hc⟩ := E
  exact hk_call hgo (hc σ) R (hV ρ) hk1
theorem ovr_one {l : List Value} {o : Nat} {v : Value} (h : o < l.length) : ovr l o [v] = l.set o v := by
  rw [List.set_eq_take_append_cons_drop, if_pos h]
  simp [ovr]
theorem hk_cc {g t : Nat} (E : CcAt P g t) {vs : List SV} {us : List Value} (hk : x_cc t vs h K = true) (R : Rel ρ h σ) (hv : vals ρ vs = some us) : invW P (callS (.func (.func g) #[] #[]) us) (Pst ρ K) σ := by
  obtain ⟨x, rfl, hk1⟩ := ar1_true hk
  obtain ⟨a, v, o, rfl, hk2⟩ := asP_true hk1
  obtain ⟨V, v1, rfl⟩ := vals1 hv
  simp only [val] at v1
  obtain ⟨ha, hk3⟩ := hg_true hk2
  have hob := R.obj a ha
  cases hs : h.get a with
  | row t' fz mv N sz c =>
    rw [hs] at hk3 hob
    obtain ⟨q1, hk4⟩ := yes_true hk3
    obtain ⟨q2, hk5⟩ := yes_true hk4
    obtain ⟨q2b, hk5⟩ := yes_true hk5
    have q2b := Nat.eq_of_beq_eq_true q2b
    subst q2b
    rw [frc_eq] at hk5
    obtain ⟨q3, hk6⟩ := yes_true hk5
    have q1 := blt_lt q1
    have q2 := blt_lt q2
    obtain ⟨b, x, w, hB, hx, hrd, hk7⟩ := rd1_true R hk6
    rw [hB] at v1
    cases v1
    obtain ⟨b', cells, lo, hi, hV⟩ := hob.2.at_ v hob.2.mvN (Nat.le_refl _)
    have hb : b' = b := Option.some.inj (hV.B.symm.trans hB)
    subst hb
    obtain ⟨ho, hw⟩ : o < cells.length ∧ cells[o]? = some w := by
      have := hrd
      unfold rdC at this
      rw [hV.at_] at this
      have this : cells[o]? = some w := by simpa using this
      exact ⟨(List.getElem?_eq_some_iff.1 this).1, this⟩
    obtain ⟨hgo, E⟩ := E
    -- which of the two
    generalize hq : Nat.add (Nat.add t' (Nat.mul o 65536)) (Nat.mul v 4294967296) = q at q3
    have hq : t' + o * 65536 + v * 4294967296 = q := hq
    have hcap : v < 65536 := by have := cap_le c; have := hob.1; omega
    have e1 : q % 65536 = t' := by omega
    have e2 : q / 65536 % 65536 = o := by omega
    have e3 : q / 4294967296 = v := by omega
    have hor : q = t % 281474976710656 ∨ q = t / 281474976710656 := by
      rcases iff_true q3 with ⟨h1, _⟩ | ⟨_, h1⟩
      · exact .inl (Nat.eq_of_beq_eq_true h1)
      · exact .inr (Nat.eq_of_beq_eq_true h1)
    have E := E q hor σ b' cells lo hi (by rw [e1]; exact hV.at_) (by rw [e3]; exact hV.le) (by rw [e2]; exact ho)
    rw [e1, e2] at E
    obtain ⟨E1, E2⟩ := E
    refine hk_go hgo ?_
    cases x with
    | p0 =>
      simp only [val] at hx
      cases hx
      have hk8 : wr1 a v o (.p a v o) h (fun h => K und h) = true := hk7
      obtain ⟨b2, cells2, t2, lo2, hi2, h', w1, w2, w3, w4, w5, w6⟩ := wr1_true R (x := .p a v o) (V := .pointer (some ⟨b', o, none⟩)) (by simp only [val, hB]) hk8
      have : b2 = b' := Option.some.inj (w1.symm.trans hB)
      subst this
      rw [hV.at_] at w2
      cases w2
      refine E1 hw w4 _ ?_
      rw [← ovr_one ho]
      exact ⟨ρ, h', und, Rm.le.refl ρ, w5, val_und ρ, w6⟩
    | p a2 u2 j2 =>
      have hk8 : yes (Nat.beq a a2) (yes (Nat.beq v u2) (yes (Nat.beq o j2) (K und h))) = true := hk7
      obtain ⟨w1, hk9⟩ := yes_true hk8
      obtain ⟨w2, hka⟩ := yes_true hk9
      obtain ⟨w3, hkb⟩ := yes_true hka
      have w1 := Nat.eq_of_beq_eq_true w1
      have w2 := Nat.eq_of_beq_eq_true w2
      have w3 := Nat.eq_of_beq_eq_true w3
      subst w1 w2 w3
      simp only [val, hB] at hx
      cases hx
      exact E2 hw _ ⟨ρ, h, und, Rm.le.refl ρ, R, val_und ρ, hkb⟩
    | _ => cases hk7
  | _ => rw [hs] at hk3; cases hk3
theorem hk_as {fx : Nat → Option Obj} {g t : Nat} (E : AsAt P fx g t) (hf : ∀ b o, fx b = some o → σ b = some o) {vs : List SV} {us : List Value} (hk : x_as t vs h K = true) (R : Rel ρ h σ) (hv : vals ρ vs = some us) : invW P (callS (.func (.func g) #[] #[]) us) (Pst ρ K) σ := by
  obtain ⟨x, y, rfl, hk1⟩ := ar2_true hk
  obtain ⟨V, W, v1, v2, rfl⟩ := vals2 hv
  obtain ⟨hgo, E⟩ := E
  obtain ⟨E1, E2⟩ := E σ hf
  refine hk_go hgo ?_
  cases y with
  | e tt p =>
    obtain ⟨q1, hk2⟩ := yes_true (b := Nat.beq tt (Nat.div t 65536)) hk1
    have q1 : tt = t / 65536 := Nat.eq_of_beq_eq_true q1
    obtain ⟨a, v, o, rfl, hk3⟩ := asP_true hk2
    cases x with
    | e0 =>
      simp only [val] at v1
      cases v1
      exact E1 _ _ ⟨ρ, h, .b false, Rm.le.refl ρ, R, rfl, hk3⟩
    | e te w =>
      obtain ⟨q2, hk4⟩ := yes_true (b := Nat.beq te (Nat.mod t 65536)) hk3
      have q2 : te = t % 65536 := Nat.eq_of_beq_eq_true q2
      obtain ⟨a', v', o', rfl, hk5⟩ := asP_true hk4
      simp only [val] at v1 v2
      cases hB : ρ.B a' v' with
      | none => rw [hB] at v1; cases v1
      | some b' =>
        rw [hB] at v1
        cases v1
        obtain ⟨b2, cells2, t2, lo2, hi2, h', w1, w2, w3, w4, w5, w6⟩ := wr1_true R (x := .p a' v' o') (V := .pointer (some ⟨b', o', none⟩)) (by simp only [val, hB]) hk5
        rw [w1] at v2
        cases v2
        subst q1 q2
        have ho : o < cells2.length := w3
        refine E2 b2 o cells2 t2 lo2 hi2 ⟨b', o', none⟩ w2 ho w4 _ ?_
        rw [← ovr_one ho]
        exact ⟨ρ, h', .b true, Rm.le.refl ρ, w5, rfl, w6⟩
    | _ => cases hk3
  | _ => cases hk1
/-! ### Rising keys -/
theorem bl_leB : ∀ a b : List UInt8, Op.bytesLess a b = !leB b a := by
  intro a
  induction a with
  | nil =>
    intro b
    cases b <;> simp [Op.bytesLess, leB]
  | cons x r ih =>
    intro b
    cases b with
    | nil => simp [Op.bytesLess, leB]
    | cons y s =>
      simp only [Op.bytesLess, leB]
      have e1 : Nat.blt y.toNat x.toNat = decide (y.toNat < x.toNat) := by
        by_cases q : y.toNat < x.toNat
        · rw [decide_eq_true q]; exact Nat.ble_eq_true_of_le q
        · rw [decide_eq_false q]
          cases hb : Nat.blt y.toNat x.toNat with
          | false => rfl
          | true => exact absurd (blt_lt hb) q
      have e2 : Nat.blt x.toNat y.toNat = decide (x.toNat < y.toNat) := by
        by_cases q : x.toNat < y.toNat
        · rw [decide_eq_true q]; exact Nat.ble_eq_true_of_le q
        · rw [decide_eq_false q]
          cases hb : Nat.blt x.toNat y.toNat with
          | false => rfl
          | true => exact absurd (blt_lt hb) q
      rw [e1, e2]
      by_cases q1 : y.toNat < x.toNat
      · have h1 : ¬ x < y := fun q => by have := UInt8.lt_iff_toNat_lt.1 q; omega
        have h2 : x ≠ y := fun q => by subst q; omega
        simp [q1, h1, h2]
      · by_cases q2 : x.toNat < y.toNat
        · have h1 : x < y := UInt8.lt_iff_toNat_lt.2 q2
          simp [q1, q2, h1]
        · have h2 : x = y := UInt8.toNat_inj.1 (by omega)
          subst h2
          simp [ih]
theorem sls_eq (L M : List UInt8) : slsB L.length (pk L 0) M.length (pk M 0) = Op.bytesLess L M := by
  have h1 := less_pk L M
  have h2 : slsB L.length (pk L 0) M.length (pk M 0) = true ↔ (pk L 0 * 256 ^ M.length < pk M 0 * 256 ^ L.length ∨ (pk L 0 * 256 ^ M.length = pk M 0 * 256 ^ L.length ∧ L.length < M.length)) := by
    unfold slsB
    constructor
    · intro h
      rcases iff_true h with ⟨a, _⟩ | ⟨_, b⟩
      · exact .inl (blt_lt a)
      · rcases iff_true b with ⟨a, c⟩ | ⟨_, c⟩
        · exact .inr ⟨Nat.eq_of_beq_eq_true a, blt_lt c⟩
        · cases c
    · intro h
      rcases h with h | ⟨h, h'⟩
      · have : Nat.blt (Nat.mul (pk L 0) (p8 M.length)) (Nat.mul (pk M 0) (p8 L.length)) = true := Nat.ble_eq_true_of_le h
        rw [this]; rfl
      · have h : Nat.mul (pk L 0) (p8 M.length) = Nat.mul (pk M 0) (p8 L.length) := h
        have e1 : Nat.beq (Nat.mul (pk L 0) (p8 M.length)) (Nat.mul (pk M 0) (p8 L.length)) = true := by rw [h]; exact Nat.beq_refl _
        have e2 : Nat.blt L.length M.length = true := Nat.ble_eq_true_of_le h'
        rw [e1, e2, iff_eq]
        split <;> rfl
  cases hb : Op.bytesLess L M with
  | true => exact h2.2 (h1.1 hb)
  | false =>
    cases hs : slsB L.length (pk L 0) M.length (pk M 0) with
    | false => rfl
    | true => have := h1.2 (h2.1 hs); rw [hb] at this; cases this
/-- texts, as they are -/
def bx : List (List UInt8) → List SV := fun L => L.map fun l => .s l.length (pk l 0)
def insX (x : List UInt8) : List (List UInt8) → List (List UInt8)
  | [] => [x]
  | y :: r => match Op.bytesLess x y with
    | true => x :: y :: r
    | false => y :: insX x r
theorem insS_true (x : List UInt8) : ∀ (ys : List (List UInt8)) {k : List SV → Bool}, insS x.length (pk x 0) (bx ys) k = true → k (bx (insX x ys)) = true := by
  intro ys
  induction ys with
  | nil => intro k h; exact h
  | cons y ys ih =>
    intro k h
    have h : iff' (slsB x.length (pk x 0) y.length (pk y 0)) (k (bx (x :: y :: ys))) (insS x.length (pk x 0) (bx ys) fun zs => k (.s y.length (pk y 0) :: zs)) = true := h
    rw [sls_eq] at h
    unfold insX
    cases hb : Op.bytesLess x y with
    | true => rw [hb] at h; exact h
    | false => rw [hb] at h; exact ih h
theorem insX_perm (x : List UInt8) : ∀ l, (insX x l).Perm (x :: l) := by
  intro l
  induction l with
  | nil => exact List.Perm.refl _
  | cons y r ih =>
    unfold insX
    split
    · exact List.Perm.refl _
    · exact (ih.cons y).trans (List.Perm.swap x y r)
theorem insX_sorted {x : List UInt8} : ∀ {l : List (List UInt8)}, l.Pairwise (· ≤ ·) → (insX x l).Pairwise (· ≤ ·) := by
  intro l
  induction l with
  | nil => intro _; simp [insX]
  | cons y r ih =>
    intro h
    obtain ⟨h1, h2⟩ := List.pairwise_cons.1 h
    unfold insX
    split
    · rename_i hb
      rw [bl_leB] at hb
      have hxy : x ≤ y := by
        have : ¬ y ≤ x := by rw [← leB_iff]; simpa using hb
        exact (List.le_total x y).resolve_right this
      refine List.pairwise_cons.2 ⟨fun z hz => ?_, h⟩
      rcases List.mem_cons.1 hz with e | e
      · rw [e]; exact hxy
      · exact List.le_trans hxy (h1 z e)
    · rename_i hb
      rw [bl_leB] at hb
      have hyx : y ≤ x := by rw [← leB_iff]; simpa using hb
      refine List.pairwise_cons.2 ⟨fun z hz => ?_, ih h2⟩
      rcases List.mem_cons.1 ((insX_perm x r).mem_iff.1 hz) with e | e
      · rw [e]; exact hyx
      · exact h1 z e
theorem srtS_true : ∀ {es : List (SV × SV)} {l : List (Value × Value)} {a : List (List UInt8)} {k : List SV → Bool}, entsV ρ es = some l → a.Pairwise (· ≤ ·) → srtS es (bx a) k = true →
    (∀ p ∈ l, ∃ s, p.1 = .string s ∧ s.size ≤ mxL) ∧ ∃ a', a'.Pairwise (· ≤ ·) ∧ a'.Perm ((l.map keyS) ++ a) ∧ k (bx a') = true := by
  intro es
  induction es with
  | nil => intro l a k hl ha h; cases hl; exact ⟨fun p hp => (by cases hp), a, ha, List.Perm.refl _, h⟩
  | cons e es ih =>
    obtain ⟨x, y⟩ := e
    intro l a k hl ha h
    simp only [entsV] at hl
    split at hl
    case h_2 => cases hl
    rename_i kv vv l' hx hy hl'
    cases hl
    have h : asS x (fun l n => insS l n (bx a) fun a => srtS es a k) = true := h
    obtain ⟨m, n, rfl, h1⟩ := asS_true h
    obtain ⟨hm, hn, rfl⟩ := s_some hx
    obtain ⟨L, hL, rfl, hun⟩ := unp_ex hn
    subst hL
    have h2 := insS_true L a h1
    obtain ⟨q1, a', q2, q3, q4⟩ := ih hl' (insX_sorted ha) h2
    refine ⟨fun p hp => ?_, a', q2, ?_, q4⟩
    · rcases List.mem_cons.1 hp with e | e
      · rw [e]; exact ⟨_, rfl, by rw [unp_size]; exact hm⟩
      · exact q1 p e
    · refine q3.trans ?_
      show (l'.map keyS ++ insX L a).Perm (keyS (.string (unp L.length (pk L 0)), vv) :: l'.map keyS ++ a)
      have hk0 : keyS (.string (unp L.length (pk L 0)), vv) = L := by rw [hun]; rfl
      rw [hk0]
      have : ((l'.map keyS) ++ insX L a).Perm ((l'.map keyS) ++ (L :: a)) := List.Perm.append_left _ (insX_perm L a)
      exact this.trans List.perm_middle
theorem srt_uniq {a b : List (List UInt8)} (ha : a.Pairwise (· ≤ ·)) (h : a.Perm b) : a = sortB b := by
  refine List.Perm.eq_of_pairwise (le := (· ≤ ·)) ?_ ha (sortB_sorted b) (h.trans (sortB_perm b).symm)
  intro a b _ _ h1 h2; exact List.le_antisymm h1 h2
theorem bx_vals : ∀ {a : List (List UInt8)}, (∀ x ∈ a, x.length ≤ mxL) → vals ρ (bx a) = some (a.map fun x => .string ⟨⟨x⟩⟩) := by
  intro a
  induction a with
  | nil => intro _; rfl
  | cons x a ih =>
    intro h
    refine vals_of ?_ (ih fun y hy => h y (List.mem_cons_of_mem _ hy))
    simp only [val]
    rw [if_pos ⟨h x (List.mem_cons_self ..), pk_lt x⟩, unp_pk]
theorem hk_so {g t g' : Nat} (E : SoAt P g t) {as' cs : List SV} {V : Value} (hb : Nat.beq (Nat.land (Nat.shiftRight (Nat.div t 65536) g') 1) 1 = true) (hk : x_so (Nat.mod t 65536) [.f g' as' cs] h K = true) (R : Rel ρ h σ) (hv : val ρ (.f g' as' cs) = some V) : invW P (callS (.func (.func g) #[] #[]) [V]) (Pst ρ K) σ := by
  obtain ⟨hgo, E⟩ := E
  have E := E g' hb σ
  have hk : ar0 as' (ar1 cs fun m => asP m fun a v o => yes (Nat.beq o 0) (rd1 a v 0 h fun m => mapK m h (K .l0 h) fun _ kt es => yes (Nat.beq kt 0) (srtS es [] fun l => (List.rec (α := SV) (motive := fun _ => Hp → Bool) (fun h => K .l0 h) (fun _ _ _ => fun h => frc (cntL l) fun n => nrow (Nat.mod t 65536) 1 n l h K)) l h))) = true := hk
  obtain ⟨rfl, hk1⟩ := ar0_true hk
  obtain ⟨m, rfl, hk2⟩ := ar1_true hk1
  obtain ⟨a, v, o, rfl, hk3⟩ := asP_true hk2
  obtain ⟨q1, hk4⟩ := yes_true hk3
  have q1 := Nat.eq_of_beq_eq_true q1
  subst q1
  obtain ⟨b, x, w, hB, hx, hrd, hk5⟩ := rd1_true R hk4
  simp only [val, vals, hB] at hv
  cases hv
  refine hk_go hgo ?_
  obtain ⟨l, T, fz, hcell⟩ : ∃ (l : List Value) (T : Nat) (fz : Nat × Nat), σ b = some (.cells ⟨w :: l⟩ T fz) := by
    have := hrd
    unfold rdC at this
    cases hs : σ b with
    | none => rw [hs] at this; cases this
    | some ob =>
      rw [hs] at this
      cases ob with
      | cells cs T fz =>
        obtain ⟨cs⟩ := cs
        cases cs with
        | nil => simp at this
        | cons y l =>
          have : y = w := by simpa using this
          subst this
          exact ⟨l, T, fz, rfl⟩
      | _ => cases this
  rcases mapK_true R hx hk5 with ⟨rfl, hz⟩ | ⟨a', e, kt, es, l', m, rfl, hB', hg, hl', hK, hd, hp, hM, hk6⟩
  · exact (E b none l T fz hcell).1 rfl _ ⟨ρ, h, .l0, Rm.le.refl ρ, R, rfl, hz⟩
  · obtain ⟨q2, hk7⟩ := yes_true hk6
    obtain ⟨q3, a'', q4, q5, hk8⟩ := srtS_true (a := []) hl' List.Pairwise.nil hk7
    rw [List.append_nil] at q5
    have hpm : (m.map keyS).Perm (l'.map keyS) := hp.map _
    have ha : a'' = sortB (m.map keyS) := srt_uniq q4 (q5.trans hpm.symm)
    have hms : ∀ p ∈ m, ∃ s, p.1 = .string s ∧ s.size ≤ mxL := fun p hp' => q3 p (hp.mem_iff.1 hp')
    have hlen : a''.length = m.length := by
      rw [q5.length_eq, List.length_map]; exact hp.length_eq.symm
    have hax : ∀ x ∈ a'', x.length ≤ mxL := by
      intro x hx
      obtain ⟨p, hp', rfl⟩ := List.mem_map.1 (q5.mem_iff.1 hx)
      obtain ⟨s, hs1, hs2⟩ := q3 p hp'
      unfold keyS
      simp only [hs1]
      exact hs2
    have E2 := (E b (some e) l T fz hcell).2 e m rfl hM hms
    cases a'' with
    | nil =>
      have hm0 : m = [] := List.eq_nil_of_length_eq_zero hlen.symm
      have hk9 : K .l0 h = true := hk8
      subst hm0
      refine E2 (Nat.zero_le _) _ (fun _ => ⟨ρ, h, .l0, Rm.le.refl ρ, R, rfl, hk9⟩) ?_
      intro b0 cells κ hne
      exact absurd rfl hne
    | cons y ys =>
      have hk9 : frc (cntL (bx (y :: ys))) (fun n => nrow (Nat.mod t 65536) 1 n (bx (y :: ys)) h K) = true := hk8
      rw [frc_eq, cntL_eq] at hk9
      obtain ⟨w1, w2, w3⟩ := nrow_true R (bx_vals hax) (by omega) hk9
      have hbl : (bx (y :: ys)).length = m.length := by rw [← hlen]; simp [bx]
      rw [hbl] at w1 w2 w3
      refine E2 w2 _ (fun hm0 => by rw [hm0] at hlen; cases hlen) ?_
      intro b0 cells κ hne hb0 hc h1 hi
      refine w3 b0 cells κ hb0 (by omega) h1 fun i hi' => ?_
      rw [hi i (by omega)]
      unfold srtK
      rw [← ha]
end
/-- a hook's contract, at code c -/
theorem hk_at {P : Program} {fx : Nat → Option Obj} {g c t : Nat} (hA : HkAt P fx g c t) {vs : List SV} {us : List Value} {h : Hp} {K : Kv} {ρ : Rm} {σ : H} (hk : Ev.hx c t vs h K = true) (R : Rel ρ h σ) (hL : ρ.lo.fx = fx) (hv : vals ρ vs = some us) : invW P (callS (.func (.func g) #[] #[]) us) (Pst ρ K) σ := by
  have hf : ∀ b o, fx b = some o → σ b = some o := fun b o hb => R.fix b o (by rw [hL]; exact hb)
  match c, hA with
  | 0, hA => exact hk_ib hA hk R hv
  | 1, hA => exact hk_cs hA hk R hv
  | 2, hA => exact hk_is hA hf hk R hv
  | 3, hA => obtain ⟨ps, bt, h1, h2⟩ := hA; exact hk_mz (e := 0) h1 h2 hk R hv
  | 4, hA => exact hk_sha hA hk R hv
  | 5, hA => exact hk_cc hA hk R hv
  | 6, hA => exact hk_mc hA hk R hv
  | 7, hA => exact hk_as hA hf hk R hv
  | 8, _ => cases hk
  | 9, hA => exact hk_ad hA hk R hv
  | 10, hA => exact hk_ct hA hk R hv
  | n + 11, hA => exact hA.elim
theorem hkok_mk {P : Program} {fx : Nat → Option Obj} {hs : List (Nat × Nat × Nat)} (hA : ∀ x ∈ hs, HkAt P fx x.1 x.2.1 x.2.2) : HkOk P (hkL hs) fx := by
  refine ⟨fun g c t hg vs us h K ρ σ hk R hL hv => ?_, fun g t hg g' as' cs h K ρ σ V hb hk R hL hv => ?_⟩
  · exact hk_at (hA _ (hkL_mem hg)) hk R hL hv
  · exact hk_so (hA _ (hkL_mem hg)) hb hk R hv
end Go.Ev
