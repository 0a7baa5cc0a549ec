/- A part of a proof. -/
import Derived.Test.YtpfkfphjigcdeaaGreatDoorVab
namespace Go.HL
open Go
section
variable {P : Program} {ops : Array Oper} {cl : Nat -> Nat} {A : Nat -> Nat -> Bool}

def swapOk (ops : Array Oper) (cl : Nat -> Nat) (y x : Nat) : Bool :=
 match ops[y]?, ops[x]? with
 | some oy, some ox => oy.apart ops ox && fits (cl y) (cl x)
 | _, _ => false

theorem SRunD.front {K : Pq -> Act -> H -> Prop} (hK : PMono K) {x : Nat} {r : List Nat} : ∀ (p : List Nat), (∀ y ∈ p, A y x = false /\ swapOk ops cl y x = true) -> ∀ {pend : List (Nat × Sem Next × Value)} {a : Act} {σ : H}, Fin σ ->
 SRunD P ops cl A pend (p ++ x :: r) a K σ -> SRunD P ops cl A pend (x :: (p ++ r)) a K σ := by
 intro p
 induction p with
 | nil => intro _ pend a σ _ h; exact h
 | cons y p ih =>
  intro hp pend a σ hf h
  have hsw := hp y (List.mem_cons_self ..)
  have h' : SRunD P ops cl A pend (y :: x :: (p ++ r)) a K σ :=
   SRunD.head (fun pend' a' σ' hf' hh => ih (fun z hz => hp z (List.mem_cons_of_mem _ hz)) hf' hh) hf h
  obtain ⟨hA, hs⟩ := hsw
  unfold swapOk at hs
  split at hs
  ·rename_i oy ox hy hx
   simp only [Bool.and_eq_true] at hs
   exact SRunD.swap hy hx hs.1 hA hs.2 hK hf h'
  ·cases hs

def preds (ops : Array Oper) (x : Nat) : List Nat :=
 match ops[x]? with
 | some o => (o.after.toList.filter fun e => Region.binds .any e).map (·.on)
 | none => []

theorem ready_iff {listed : Array Bool} {i : Nat} : i ∈ Region.ready .any ops listed ↔ i < ops.size /\ listed.getD i true = false /\ ∀ z ∈ preds ops i, listed.getD z false = true := by
 unfold Region.ready preds
 simp only [List.mem_filter, List.mem_range, Bool.and_eq_true, Bool.not_eq_true']
 refine and_congr_right fun hi => and_congr_right fun _ => ?_
 have : ops[i]? = some ops[i] := by simp [hi]
 simp only [this, Option.map_some, Option.getD_some, List.mem_map, List.mem_filter]
 rw [Array.all_eq_true']
 constructor
 ·rintro h z ⟨e, ⟨he, hb⟩, rfl⟩
  have := h e (by simpa using he)
  simpa [hb] using this
 ·intro h e he
  by_cases hb : Region.binds .any e = true
  ·simp [hb]; simpa using h e.on ⟨e, ⟨by simpa using he, hb⟩, rfl⟩
  ·simp [hb]

def ancOk (ops : Array Oper) (AL : List (List Nat)) : Bool :=
 (List.range ops.size).all fun x => (AL.getD x []).all fun y => (preds ops x).any fun z => z == y || (decide (z < x) && (AL.getD z []).contains y)

def ancOf (AL : List (List Nat)) (y x : Nat) : Bool := (AL.getD x []).contains y

structure Cls (ops : Array Oper) (listed : Array Bool) : Prop where
 size : listed.size = ops.size
 down : ∀ x, listed.getD x false = true -> ∀ z ∈ preds ops x, listed.getD z false = true

theorem anc_listed {AL : List (List Nat)} (hok : ancOk ops AL = true) {listed : Array Bool} (hc : Cls ops listed) :
 ∀ x y, x < ops.size -> ancOf AL y x = true -> (∀ z ∈ preds ops x, listed.getD z false = true) -> listed.getD y false = true := by
 intro x
 induction x using Nat.strongRecOn with
 | _ x ih =>
  intro y hx ha hp
  unfold ancOk at hok
  rw [List.all_eq_true] at hok
  have h1 := hok x (by simpa using hx)
  rw [List.all_eq_true] at h1
  have h2 := h1 y (by simpa [ancOf] using ha)
  rw [List.any_eq_true] at h2
  obtain ⟨z, hz, hzy⟩ := h2
  simp only [Bool.or_eq_true, beq_iff_eq, Bool.and_eq_true, decide_eq_true_eq] at hzy
  rcases hzy with rfl | ⟨hlt, hzz⟩
  ·exact hp _ hz
  ·exact ih z hlt y (by omega) hzz (hc.down z (hp z hz))

def linOk (ops : Array Oper) : List Nat -> List Nat -> Bool
 | _, [] => true
 | done, x :: r => ((preds ops x).all fun z => done.contains z) && linOk ops (x :: done) r

def pairOk (ops : Array Oper) (cl : Nat -> Nat) (A : Nat -> Nat -> Bool) : List Nat -> Bool
 | [] => true
 | y :: r => (r.all fun x => A y x || swapOk ops cl y x) && pairOk ops cl A r

theorem pairOk_pairwise : ∀ l, pairOk ops cl A l = true -> l.Pairwise fun y x => A y x = true \/ swapOk ops cl y x = true := by
 intro l
 induction l with
 | nil => intro _; exact .nil
 | cons y r ih =>
  intro h
  simp only [pairOk, Bool.and_eq_true, List.all_eq_true, Bool.or_eq_true] at h
  exact .cons (fun x hx => h.1 x hx) (ih h.2)

theorem linOk_front : ∀ (l done : List Nat), linOk ops done l = true -> ∀ p x r, l = p ++ x :: r -> ∀ z ∈ preds ops x, z ∈ done \/ z ∈ p := by
 intro l
 induction l with
 | nil => intro done _ p x r h; simp at h
 | cons y l ih =>
  intro done h p x r hl z hz
  simp only [linOk, Bool.and_eq_true, List.all_eq_true] at h
  cases p with
  | nil =>
   simp at hl
   obtain ⟨rfl, rfl⟩ := hl
   exact .inl (by simpa using h.1 z hz)
  | cons w p =>
   simp at hl
   obtain ⟨rfl, hl⟩ := hl
   rcases ih (y :: done) h.2 p x r hl z hz with h' | h'
   ·rcases List.mem_cons.1 h' with rfl | h'
    ·exact .inr (List.mem_cons_self ..)
    ·exact .inl h'
   ·exact .inr (List.mem_cons_of_mem _ h')

theorem callsIn_any {ro : Option Nat} {n : Nat} {f : FuncId} {args : Array Value} {w : World} {R : Ending -> World -> Prop} (h : CallsIn Fence.wide 0 P f args w R) : CallsIn (FW ro) n P f args w R :=
 ⟨trivial, fun cs _ => h.2 cs (room_wide _)⟩
theorem roundIn_any {ro : Option Nat} {n l : Nat} {f : FuncId} {tmps : Array Value} {assign body : Code} {w : World} {R : Ending -> World -> Prop} (h : RoundIn Fence.wide 0 P l f tmps assign body w R) : RoundIn (FW ro) n P l f tmps assign body w R :=
 ⟨trivial, fun c cs _ => h.2 c cs (room_wide _)⟩

theorem uponIn_of_reach {ro : Option Nat} {n : Nat} {o : Oper} {a : Act} {next : Act -> World -> Prop} {Q : Exit -> Act -> World -> Prop} {x : Result Next}
 (h : reach P (fun v w => next (a.put o.dst v) w) x) : o.uponIn (FW ro) n P a next Q x := by
 unfold reach at h
 split at h
 ·exact h
 ·exact h
 ·refine ⟨(fun h => by cases h), ?_⟩
  have h' := callsIn_any (ro := ro) (n := n - 1) h
  refine h'.mono fun e w' ⟨v, he, hv⟩ => ?_
  subst he; exact hv
 ·refine ⟨(fun h => by cases h), ?_⟩
  have h' := roundIn_any (ro := ro) (n := n - 1) h
  refine h'.mono fun e w' ⟨v, he, hv⟩ => ?_
  subst he; exact hv
 ·exact h.elim

theorem op_sound {ro : Option Nat} {n : Nat} {Q : Exit -> Act -> World -> Prop} {i : Nat} {l : List Nat} {pend : List (Nat × Sem Next × Value)} {a : Act} {K : Pq -> Act -> H -> Prop} {σ : H} {next : Act -> World -> Prop} {w : World}
 (hw : σ.le w) (h : SRunD P ops cl A pend (i :: l) a K σ)
 (hn : ∀ pend' v σ' w', Ext σ w σ' w' -> SRunD P ops cl A pend' l (a.put ((ops[i]?).bind (·.dst)) v) K σ' -> next (a.put ((ops[i]?).bind (·.dst)) v) w') : wpOpIn (FW ro) n P ops Q i next a w := by
 obtain ⟨o, ho, hp, h⟩ := h
 unfold wpOpIn
 simp only [ho, Option.bind_some] at hn ⊢
 split at h
 ·rename_i hwd
  rw [if_pos hwd]
  refine ⟨fun _ _ => trivial, ?_⟩
  rw [Oper.semAt_eq _ _ _ (plain_defer hp)]
  split at h
  ·obtain ⟨v, hv, h⟩ := h
   rw [hv w]; exact hn _ v σ w (Ext.refl hw) h
  ·obtain ⟨v, hv, h⟩ := h
   rw [hv w hw]; exact hn _ v σ w (Ext.refl hw) h
  ·obtain ⟨mk, obj, hv, h⟩ := h
   rw [hv w]
   obtain ⟨hn', he⟩ := Ext.alloc hw obj
   exact hn _ _ _ _ he (h _ hn')
  ·exact uponIn_of_reach ((h w hw).mono fun v w' ⟨σ', he, _, hk⟩ => hn _ v σ' w' he hk)
 ·rename_i hwd
  rw [if_neg hwd]
  exact ⟨fun _ _ => trivial, hn _ _ σ w (Ext.refl hw) h⟩

theorem run_sound {ro : Option Nat} {n : Nat} {Q : Exit -> Act -> World -> Prop} {K : Pq -> Act -> H -> Prop} : ∀ (l : List Nat) {pend : List (Nat × Sem Next × Value)} {a : Act} {σ : H} {w : World}, σ.le w -> SRunD P ops cl A pend l a K σ ->
 (∀ p' a' σ' w', Ext σ w σ' w' -> K p' a' σ' -> Q .normal a' w') -> wpOpsIn (FW ro) n P ops Q l a w := by
 intro l
 induction l with
 | nil => intro pend a σ w hw h hq; exact hq _ a σ w (Ext.refl hw) h
 | cons i l ih =>
  intro pend a σ w hw h hq
  rw [wpOpsIn_cons]
  refine op_sound hw h fun pend' v σ' w' he h' => ?_
  exact ih he.le h' fun p₂ a₂ σ₂ w₂ he₂ hk => hq _ _ _ _ (he.trans he₂) hk

theorem any_sound {ro : Option Nat} {n : Nat} {Q : Exit -> Act -> World -> Prop} {K : Pq -> Act -> H -> Prop} (hK : PMono K) {AL : List (List Nat)} (hanc : ancOk ops AL = true) :
 ∀ (fuel : Nat) (rem : List Nat) (listed : Array Bool) {pend : List (Nat × Sem Next × Value)} {a : Act} {σ : H} {w : World}, rem.length <= fuel -> σ.le w -> SRunD P ops cl (ancOf AL) pend rem a K σ -> Cls ops listed ->
 (∀ i, i < ops.size -> (listed.getD i false = true \/ i ∈ rem)) -> (∀ i ∈ rem, i < ops.size /\ listed.getD i true = false) -> rem.Nodup ->
 (∀ p x r, rem = p ++ x :: r -> ∀ z ∈ preds ops x, listed.getD z false = true \/ z ∈ p) ->
 rem.Pairwise (fun y x => ancOf AL y x = true \/ swapOk ops cl y x = true) ->
 (∀ p' a' σ' w', Ext σ w σ' w' -> K p' a' σ' -> Q .normal a' w') -> wpAnyIn (FW ro) n P .any ops Q fuel listed a w := by
 intro fuel
 induction fuel with
 | zero =>
  intro rem listed pend a σ w hlen hw h hc hall hrem hnd hlin hpw hq
  have : rem = [] := List.length_eq_zero_iff.1 (by omega)
  subst this
  refine ⟨?_, hq _ a σ w (Ext.refl hw) h⟩
  rw [List.eq_nil_iff_forall_not_mem]
  intro i hi
  rw [ready_iff] at hi
  rcases hall i hi.1 with h1 | h1
  ·have : i < listed.size := by rw [hc.size]; exact hi.1
   simp [this] at h1 hi
   rw [h1] at hi; simp at hi
  ·simp at h1
 | succ fuel ih =>
  intro rem listed pend a σ w hlen hw h hc hall hrem hnd hlin hpw hq
  refine ⟨fun hnil => ?_, fun i hi => ?_⟩
  ·cases rem with
   | nil => exact hq _ a σ w (Ext.refl hw) h
   | cons x r =>
    exfalso
    have hx := hrem x (List.mem_cons_self ..)
    have : x ∈ Region.ready .any ops listed := by
     rw [ready_iff]
     refine ⟨hx.1, hx.2, fun z hz => ?_⟩
     rcases hlin [] x r rfl z hz with h' | h'
     ·exact h'
     ·simp at h'
    rw [hnil] at this; simp at this
  ·rw [ready_iff] at hi
   obtain ⟨hisz, hil, hip⟩ := hi
   have hisz' : i < listed.size := by rw [hc.size]; exact hisz
   have hmem : i ∈ rem := by
    rcases hall i hisz with h1 | h1
    ·simp [hisz'] at h1 hil; rw [h1] at hil; simp at hil
    ·exact h1
   obtain ⟨p, r, rfl⟩ := List.append_of_mem hmem
   have hfr : SRunD P ops cl (ancOf AL) pend (i :: (p ++ r)) a K σ := by
    refine SRunD.front hK p (fun y hy => ?_) (Fin.of_le hw) h
    have hpair : ancOf AL y i = true \/ swapOk ops cl y i = true := by
     rw [List.pairwise_append] at hpw
     exact hpw.2.2 y hy i (List.mem_cons_self ..)
    have hna : ancOf AL y i = false := by
     cases ha : ancOf AL y i with
     | false => rfl
     | true =>
      have h1 := anc_listed hanc hc i y hisz ha hip
      have h2 := (hrem y (List.mem_append_left _ hy)).2
      have hys : y < listed.size := by rw [hc.size]; exact (hrem y (List.mem_append_left _ hy)).1
      simp [hys] at h1 h2; rw [h1] at h2; simp at h2
    exact ⟨hna, hpair.resolve_left (by rw [hna]; simp)⟩
   refine op_sound hw hfr fun pend' v σ' w' he h' => ?_
   have hset : ∀ j d, (listed.setIfInBounds i true).getD j d = if j = i then true else listed.getD j d := by
    intro j d
    by_cases hj : j = i
    ·subst hj; simp [hisz']
    ·simp [hj, Ne.symm hj]
   have hnd' : (i :: (p ++ r)).Nodup := by
    refine (List.Perm.nodup_iff ?_).1 hnd
    exact List.perm_middle
   have hni : i ∉ p ++ r := (List.nodup_cons.1 hnd').1
   refine ih (p ++ r) _ ?_ he.le h' ⟨by simpa using hc.size, ?_⟩ ?_ ?_ (List.nodup_cons.1 hnd').2 ?_ ?_ fun p₂ a₂ σ₂ w₂ he₂ hk => hq _ _ _ _ (he.trans he₂) hk
   ·simp at hlen ⊢; omega
   ·intro x hx z hz
    rw [hset] at hx ⊢
    by_cases hz' : z = i
    ·simp [hz']
    ·rw [if_neg hz']
     by_cases hx' : x = i
     ·subst hx'; exact hip z hz
     ·rw [if_neg hx'] at hx; exact hc.down x hx z hz
   ·intro j hj
    rw [hset]
    by_cases hj' : j = i
    ·simp [hj']
    ·rw [if_neg hj']
     rcases hall j hj with h1 | h1
     ·exact .inl h1
     ·simp [hj'] at h1; exact .inr (by simpa using h1)
   ·intro j hj
    have hji : j ≠ i := fun e => hni (e ▸ hj)
    rw [hset, if_neg hji]
    exact hrem j (by simp at hj ⊢; rcases hj with h | h; exact .inl h; exact .inr (.inr h))
   ·intro p' x r' hpr z hz
    rw [hset]
    by_cases hzi : z = i
    ·simp [hzi]
    ·rw [if_neg hzi]
     -- where x stands
     rcases List.append_eq_append_iff.1 hpr with ⟨m, hm1, hm2⟩ | ⟨m, hm1, hm2⟩
     ·-- p' = p ++ m
      rcases hlin (p ++ i :: m) x r' (by simp [hm2]) z hz with h1 | h1
      ·exact .inl h1
      ·right
       simp [hzi] at h1
       rw [hm1]; simpa using h1
     ·-- p = p' ++ m
      cases m with
      | nil =>
       simp at hm1 hm2
       rcases hlin (p ++ [i]) x r' (by simp [<- hm2]) z hz with h1 | h1
       ·exact .inl h1
       ·right; simp [hzi] at h1; rw [<- hm1]; exact h1
      | cons c m =>
       simp at hm2
       obtain ⟨rfl, hm2⟩ := hm2
       exact hlin p' x (m ++ i :: r) (by simp [hm1]) z hz
   ·refine hpw.sublist ?_
    exact List.Sublist.append (List.Sublist.refl _) (List.sublist_cons_self ..)

def nodupB : List Nat -> Bool
 | [] => true
 | x :: r => !r.contains x && nodupB r
theorem nodupB_nodup : ∀ l, nodupB l = true -> l.Nodup := by
 intro l
 induction l with
 | nil => intro _; exact .nil
 | cons x r ih =>
  intro h
  simp only [nodupB, Bool.and_eq_true, Bool.not_eq_true', List.contains_eq_mem, decide_eq_false_iff_not] at h
  exact List.nodup_cons.2 ⟨h.1, ih h.2⟩

def drawOk (ops : Array Oper) (cl : Nat -> Nat) (AL : List (List Nat)) (π : List Nat) : Bool :=
 Nat.beq π.length ops.size && (List.range ops.size).all (fun i => π.contains i) && π.all (fun i => Nat.blt i ops.size) && nodupB π && linOk ops [] π && pairOk ops cl (ancOf AL) π && ancOk ops AL

theorem draw_sound {ro : Option Nat} {n : Nat} {Q : Exit -> Act -> World -> Prop} {K : Pq -> Act -> H -> Prop} (hK : PMono K) {AL : List (List Nat)} {π : List Nat} (hm : P.follows .mixedOrders = true) (hok : drawOk ops cl AL π = true) {id : Nat} {a : Act} {σ : H} {w : World} (hw : σ.le w)
 (h : SRunD P ops cl (ancOf AL) [] π a K σ) (hq : ∀ p' a' σ' w', Ext σ w σ' w' -> K p' a' σ' -> Q .normal a' w') : (Code.region id ops true).wpIn (FW ro) n P Q a w := by
 unfold drawOk at hok
 simp only [Bool.and_eq_true, List.all_eq_true] at hok
 obtain ⟨⟨⟨⟨⟨⟨hlen, hall⟩, hlt⟩, hnd⟩, hlin⟩, hpair⟩, hanc⟩ := hok
 have hlen : π.length = ops.size := Nat.eq_of_beq_eq_true hlen
 refine wpIn_region_any hm ?_
 refine any_sound hK hanc _ π _ (by omega) (w := { w with drawn := w.drawn + 1 }) hw h ⟨by simp, ?_⟩ ?_ ?_ ?_ ?_ ?_ ?_
 ·intro x hx; exfalso
  rcases Nat.lt_or_ge x ops.size with h1 | h1
  ·simp [h1] at hx
  ·simp [Nat.not_lt.2 h1] at hx
 ·intro i hi; exact .inr (by simpa using hall i (by simpa using hi))
 ·intro i hi
  have hi' : i < ops.size := by simpa using hlt i hi
  exact ⟨hi', by simp [hi']⟩
 ·exact nodupB_nodup _ hnd
 ·intro p x r hp z hz
  rcases linOk_front π [] hlin p x r hp z hz with h1 | h1
  ·simp at h1
  ·exact .inr h1
 ·exact pairOk_pairwise _ hpair
 ·intro p' a' σ' w' he hk
  exact hq p' a' σ' w' ((Ext.drew hw _).trans he) hk

theorem SRunD.app {K : Pq -> Act -> H -> Prop} {r : List Nat} : ∀ (l : List Nat) {pend : Pq} {a : Act} {σ : H}, Fin σ -> SRunD P ops cl A pend l a (fun q a' σ' => SRunD P ops cl A q r a' K σ') σ -> SRunD P ops cl A pend (l ++ r) a K σ := by
 intro l
 induction l with
 | nil => intro pend a σ _ h; exact h
 | cons i l ih => intro pend a σ hf h; exact SRunD.head (l := l) (l' := l ++ r) (fun p a σ hf h => ih hf h) hf h
theorem SRunD.mono {K K' : Pq -> Act -> H -> Prop} (hk : ∀ p a σ, K p a σ -> K' p a σ) : ∀ (l : List Nat) {pend : Pq} {a : Act} {σ : H}, Fin σ -> SRunD P ops cl A pend l a K σ -> SRunD P ops cl A pend l a K' σ := by
 intro l
 induction l with
 | nil => intro pend a σ _ h; exact hk _ _ _ h
 | cons i l ih => intro pend a σ hf h; exact SRunD.head (l := l) (l' := l) (fun p a σ hf h => ih hf h) hf h
structure RemOk (ops : Array Oper) (listed : Array Bool) (rem : List Nat) : Prop where
 cls : Cls ops listed
 all : ∀ i, i < ops.size -> (listed.getD i false = true \/ i ∈ rem)
 ahead : ∀ i ∈ rem, i < ops.size /\ listed.getD i true = false
 nd : rem.Nodup
 lin : ∀ p x r, rem = p ++ x :: r -> ∀ z ∈ preds ops x, listed.getD z false = true \/ z ∈ p
theorem RemOk.step {listed : Array Bool} {p r : List Nat} {i : Nat} (h : RemOk ops listed (p ++ i :: r)) (hi : i ∈ Region.ready .any ops listed) : RemOk ops (listed.setIfInBounds i true) (p ++ r) := by
 obtain ⟨hc, hall, hrem, hnd, hlin⟩ := h
 rw [ready_iff] at hi
 obtain ⟨hisz, hil, hip⟩ := hi
 have hisz' : i < listed.size := by rw [hc.size]; exact hisz
 have hset : ∀ j d, (listed.setIfInBounds i true).getD j d = if j = i then true else listed.getD j d := by
  intro j d
  by_cases hj : j = i
  ·subst hj; simp [hisz']
  ·simp [hj, Ne.symm hj]
 have hnd' : (i :: (p ++ r)).Nodup := by
  refine (List.Perm.nodup_iff ?_).1 hnd
  exact List.perm_middle
 have hni : i ∉ p ++ r := (List.nodup_cons.1 hnd').1
 refine ⟨⟨by simpa using hc.size, ?_⟩, ?_, ?_, (List.nodup_cons.1 hnd').2, ?_⟩
 ·intro x hx z hz
  rw [hset] at hx ⊢
  by_cases hz' : z = i
  ·simp [hz']
  ·rw [if_neg hz']
   by_cases hx' : x = i
   ·subst hx'; exact hip z hz
   ·rw [if_neg hx'] at hx; exact hc.down x hx z hz
 ·intro j hj
  rw [hset]
  by_cases hj' : j = i
  ·simp [hj']
  ·rw [if_neg hj']
   rcases hall j hj with h1 | h1
   ·exact .inl h1
   ·simp [hj'] at h1; exact .inr (by simpa using h1)
 ·intro j hj
  have hji : j ≠ i := fun e => hni (e ▸ hj)
  rw [hset, if_neg hji]
  exact hrem j (by simp at hj ⊢; rcases hj with h | h; exact .inl h; exact .inr (.inr h))
 ·intro p' x r' hpr z hz
  rw [hset]
  by_cases hzi : z = i
  ·simp [hzi]
  ·rw [if_neg hzi]
   rcases List.append_eq_append_iff.1 hpr with ⟨m, hm1, hm2⟩ | ⟨m, hm1, hm2⟩
   ·rcases hlin (p ++ i :: m) x r' (by simp [hm2]) z hz with h1 | h1
    ·exact .inl h1
    ·right
     simp [hzi] at h1
     rw [hm1]; simpa using h1
   ·cases m with
    | nil =>
     simp at hm1 hm2
     rcases hlin (p ++ [i]) x r' (by simp [<- hm2]) z hz with h1 | h1
     ·exact .inl h1
     ·right; simp [hzi] at h1; rw [<- hm1]; exact h1
    | cons c m =>
     simp at hm2
     obtain ⟨rfl, hm2⟩ := hm2
     exact hlin p' x (m ++ i :: r) (by simp [hm1]) z hz
def Rl (ops : Array Oper) (cl : Nat -> Nat) (AL : List (List Nat)) (y x : Nat) : Prop := ancOf AL y x = true \/ swapOk ops cl y x = true
theorem front_ok {AL : List (List Nat)} (hanc : ancOk ops AL = true) {listed : Array Bool} {p r : List Nat} {i : Nat} (h : RemOk ops listed (p ++ i :: r)) (hi : i ∈ Region.ready .any ops listed) (hR : ∀ y ∈ p, Rl ops cl AL y i) : ∀ y ∈ p, ancOf AL y i = false /\ swapOk ops cl y i = true := by
 intro y hy
 rw [ready_iff] at hi
 obtain ⟨hisz, hil, hip⟩ := hi
 have hna : ancOf AL y i = false := by
  cases ha : ancOf AL y i with
  | false => rfl
  | true =>
   have h1 := anc_listed hanc h.cls i y hisz ha hip
   have h2 := (h.ahead y (List.mem_append_left _ hy)).2
   have hys : y < listed.size := by rw [h.cls.size]; exact (h.ahead y (List.mem_append_left _ hy)).1
   simp [hys] at h1 h2; rw [h1] at h2; simp at h2
 exact ⟨hna, (hR y hy).resolve_left (by rw [hna]; simp)⟩
theorem any1_sound {ro : Option Nat} {n : Nat} {Q : Exit -> Act -> World -> Prop} {K : Pq -> Act -> H -> Prop} (hK : PMono K) {AL : List (List Nat)} (hanc : ancOk ops AL = true) {fuel : Nat} {p m : List Nat} {i : Nat} {listed : Array Bool} {pend : Pq} {a : Act} {σ : H} {w : World}
 (hlen : (p ++ i :: m).length <= fuel + 1) (hw : σ.le w) (h : SRunD P ops cl (ancOf AL) pend p a (fun q a σ => SRunD P ops cl (ancOf AL) q (i :: m) a K σ) σ) (hr : RemOk ops listed (p ++ i :: m)) (hi : i ∈ Region.ready .any ops listed)
 (hR : ∀ y ∈ p, Rl ops cl AL y i) (hpw : (p ++ m).Pairwise (Rl ops cl AL))
 (hq : ∀ p' a' σ' w', Ext σ w σ' w' -> K p' a' σ' -> Q .normal a' w') : wpOpIn (FW ro) n P ops Q i (fun a w => wpAnyIn (FW ro) n P .any ops Q fuel (listed.setIfInBounds i true) a w) a w := by
 have hfr := SRunD.front hK p (front_ok (cl := cl) hanc hr hi hR) (Fin.of_le hw) (SRunD.app p (Fin.of_le hw) h)
 refine op_sound hw hfr fun pend' v σ' w' he h' => ?_
 obtain ⟨c1, c2, c3, c4, c5⟩ := hr.step hi
 exact any_sound hK hanc fuel (p ++ m) _ (by simp at hlen ⊢; omega) he.le h' c1 c2 c3 c4 c5 hpw fun p₂ a₂ σ₂ w₂ he₂ hk => hq _ _ _ _ (he.trans he₂) hk
theorem any2_sound {ro : Option Nat} {n : Nat} {Q : Exit -> Act -> World -> Prop} {K : Pq -> Act -> H -> Prop} (hK : PMono K) {AL : List (List Nat)} (hanc : ancOk ops AL = true) {i j : Nat} {m1 m2 : List Nat} (hij : i ∈ m2 /\ j ∈ m1) (hm : ∀ x ∈ m1, x = j \/ ancOf AL i x = true \/ ancOf AL j x = true) :
 ∀ (fuel : Nat) (p : List Nat) (listed : Array Bool) {pend : Pq} {a : Act} {σ : H} {w : World}, (p ++ i :: m1).length <= fuel -> (p ++ j :: m2).length <= fuel -> σ.le w -> SRunD P ops cl (ancOf AL) pend p a (fun q a σ => SRunD P ops cl (ancOf AL) q (i :: m1) a K σ /\ SRunD P ops cl (ancOf AL) q (j :: m2) a K σ) σ ->
 RemOk ops listed (p ++ i :: m1) -> RemOk ops listed (p ++ j :: m2) -> (p ++ m1).Pairwise (Rl ops cl AL) -> (p ++ m2).Pairwise (Rl ops cl AL) -> (∀ y ∈ p, Rl ops cl AL y i /\ Rl ops cl AL y j) ->
 (∀ p' a' σ' w', Ext σ w σ' w' -> K p' a' σ' -> Q .normal a' w') -> wpAnyIn (FW ro) n P .any ops Q fuel listed a w := by
 have hK2 : PMono (fun q a σ => SRunD P ops cl (ancOf AL) q (i :: m1) a K σ /\ SRunD P ops cl (ancOf AL) q (j :: m2) a K σ) := fun _ _ _ _ hs h => ⟨SRunD.pend hK hs h.1, SRunD.pend hK hs h.2⟩
 intro fuel
 induction fuel with
 | zero => intro p listed pend a σ w hlen; simp at hlen
 | succ fuel ih =>
  intro p listed pend a σ w hlen hlen2 hw h hr1 hr2 hp1 hp2 hpR hq
  refine ⟨fun hnil => ?_, fun x hx => ?_⟩
  ·exfalso
   obtain ⟨y, r, hy⟩ : ∃ y r, p ++ i :: m1 = y :: r := by cases p <;> exact ⟨_, _, rfl⟩
   have hx := hr1.ahead y (by rw [hy]; exact List.mem_cons_self ..)
   have : y ∈ Region.ready .any ops listed := by
    rw [ready_iff]
    refine ⟨hx.1, hx.2, fun z hz => ?_⟩
    rcases hr1.lin [] y r hy z hz with h' | h'
    ·exact h'
    ·simp at h'
   rw [hnil] at this; simp at this
  ·have hx' := hx
   rw [ready_iff] at hx'
   obtain ⟨hxs, hxl, hxp⟩ := hx'
   have hmem : x ∈ p ++ i :: m1 := by
    rcases hr1.all x hxs with h1 | h1
    ·have : x < listed.size := by rw [hr1.cls.size]; exact hxs
     simp [this] at h1 hxl; rw [h1] at hxl; simp at hxl
    ·exact h1
   rcases List.mem_append.1 hmem with hmem | hmem
   ·obtain ⟨p1, p2, rfl⟩ := List.append_of_mem hmem
    simp only [List.append_assoc, List.cons_append] at hr1 hr2 hp1 hp2
    have hR : ∀ y ∈ p1, Rl ops cl AL y x := by
     intro y hy
     rw [List.pairwise_append] at hp1
     exact hp1.2.2 y hy x (List.mem_cons_self ..)
    have hfr := SRunD.front hK2 p1 (front_ok (cl := cl) hanc hr1 hx hR) (Fin.of_le hw) h
    refine op_sound hw hfr fun pend' v σ' w' he h' => ?_
    have s1 := hr1.step hx
    have s2 := hr2.step hx
    refine ih (p1 ++ p2) _ (by simp at hlen ⊢; omega) (by simp at hlen2 ⊢; omega) he.le h' (by simpa using s1) (by simpa using s2) ?_ ?_ ?_ fun p₂ a₂ σ₂ w₂ he₂ hk => hq _ _ _ _ (he.trans he₂) hk
    ·rw [List.append_assoc]
     exact hp1.sublist (List.Sublist.append (List.Sublist.refl _) (List.sublist_cons_self ..))
    ·rw [List.append_assoc]
     exact hp2.sublist (List.Sublist.append (List.Sublist.refl _) (List.sublist_cons_self ..))
    ·intro y hy
     refine hpR y ?_
     simp at hy ⊢
     rcases hy with h | h
     ·exact .inl h
     ·exact .inr (.inr h)
   ·rcases List.mem_cons.1 hmem with rfl | hmem
    ·exact any1_sound hK hanc hlen hw (SRunD.mono (fun _ _ _ h => h.1) p (Fin.of_le hw) h) hr1 hx (fun y hy => (hpR y hy).1) hp1 hq
    ·by_cases hxj : x = j
     ·subst hxj
      exact any1_sound hK hanc hlen2 hw (SRunD.mono (fun _ _ _ h => h.2) p (Fin.of_le hw) h) hr2 hx (fun y hy => (hpR y hy).2) hp2 hq
     ·exfalso
      have hno : ∀ y, y ∈ p ++ i :: m1 -> ancOf AL y x = true -> False := by
       intro y hy ha
       have h1 := anc_listed hanc hr1.cls x y hxs ha hxp
       have h2 := (hr1.ahead y hy).2
       have hys : y < listed.size := by rw [hr1.cls.size]; exact (hr1.ahead y hy).1
       simp [hys] at h1 h2; rw [h1] at h2; simp at h2
      rcases (hm x hmem).resolve_left hxj with h1 | h1
      ·exact hno i (by simp) h1
      ·exact hno j (by simp [hij.2]) h1
def listOk (ops : Array Oper) (π : List Nat) : Bool :=
 Nat.beq π.length ops.size && (List.range ops.size).all (fun i => π.contains i) && π.all (fun i => Nat.blt i ops.size) && nodupB π && linOk ops [] π
theorem listOk_rem {π : List Nat} (h : listOk ops π = true) : π.length = ops.size /\ RemOk ops (Array.replicate ops.size false) π := by
 unfold listOk at h
 simp only [Bool.and_eq_true, List.all_eq_true] at h
 obtain ⟨⟨⟨⟨hlen, hall⟩, hlt⟩, hnd⟩, hlin⟩ := h
 refine ⟨Nat.eq_of_beq_eq_true hlen, ⟨by simp, ?_⟩, ?_, ?_, nodupB_nodup _ hnd, ?_⟩
 ·intro x hx; exfalso
  rcases Nat.lt_or_ge x ops.size with h1 | h1
  ·simp [h1] at hx
  ·simp [Nat.not_lt.2 h1] at hx
 ·intro i hi; exact .inr (by simpa using hall i (by simpa using hi))
 ·intro i hi
  have hi' : i < ops.size := by simpa using hlt i hi
  exact ⟨hi', by simp [hi']⟩
 ·intro p x r hp z hz
  rcases linOk_front π [] hlin p x r hp z hz with h1 | h1
  ·simp at h1
  ·exact .inr h1
def rlB (ops : Array Oper) (cl : Nat -> Nat) (AL : List (List Nat)) (y x : Nat) : Bool := ancOf AL y x || swapOk ops cl y x
def draw2Ok (ops : Array Oper) (cl : Nat -> Nat) (AL : List (List Nat)) (p : List Nat) (i : Nat) (m1 : List Nat) (j : Nat) (m2 : List Nat) : Bool :=
 listOk ops (p ++ i :: m1) && listOk ops (p ++ j :: m2) && pairOk ops cl (ancOf AL) (p ++ m1) && pairOk ops cl (ancOf AL) (p ++ m2) && p.all (fun y => rlB ops cl AL y i && rlB ops cl AL y j) && m1.all (fun x => Nat.beq x j || (ancOf AL i x || ancOf AL j x)) && (m2.contains i && m1.contains j) && ancOk ops AL
theorem draw2_sound {ro : Option Nat} {n : Nat} {Q : Exit -> Act -> World -> Prop} {K : Pq -> Act -> H -> Prop} (hK : PMono K) {AL : List (List Nat)} {p m1 m2 : List Nat} {i j : Nat} (hm : P.follows .mixedOrders = true) (hok : draw2Ok ops cl AL p i m1 j m2 = true) {id : Nat} {a : Act} {σ : H} {w : World} (hw : σ.le w)
 (h : SRunD P ops cl (ancOf AL) [] p a (fun q a σ => SRunD P ops cl (ancOf AL) q (i :: m1) a K σ /\ SRunD P ops cl (ancOf AL) q (j :: m2) a K σ) σ) (hq : ∀ p' a' σ' w', Ext σ w σ' w' -> K p' a' σ' -> Q .normal a' w') : (Code.region id ops true).wpIn (FW ro) n P Q a w := by
 unfold draw2Ok at hok
 simp only [Bool.and_eq_true] at hok
 obtain ⟨⟨⟨⟨⟨⟨⟨h1, h2⟩, h3⟩, h4⟩, h5⟩, h6⟩, h7, h8⟩, hanc⟩ := hok
 obtain ⟨l1, r1⟩ := listOk_rem h1
 obtain ⟨l2, r2⟩ := listOk_rem h2
 refine wpIn_region_any hm ?_
 refine any2_sound hK hanc ⟨by simpa using h7, by simpa using h8⟩ ?_ _ p _ (by omega) (by omega) (w := { w with drawn := w.drawn + 1 }) hw h r1 r2 (pairOk_pairwise _ h3) (pairOk_pairwise _ h4) ?_ ?_
 ·intro x hx
  have := List.all_eq_true.1 h6 x hx
  simp only [Bool.or_eq_true] at this
  rcases this with h | h
  ·exact .inl (Nat.eq_of_beq_eq_true h)
  ·exact .inr h
 ·intro y hy
  have := List.all_eq_true.1 h5 y hy
  simp only [Bool.and_eq_true, rlB, Bool.or_eq_true] at this
  exact this
 ·intro p' a' σ' w' he hk
  exact hq p' a' σ' w' ((Ext.drew hw _).trans he) hk
end
end Go.HL

