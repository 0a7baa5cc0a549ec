/- A part of a proof. -/
import Derived.Test.YtpfkfphjigcdeaaGreatDoorVal
import Derived.MapKept
namespace Go.HL
open Go

def MapAt (σ : H) (b : Nat) (l : List (Value × Value)) : Prop := ∃ es c, σ b = some (.map es c) /\ es.toList.map (fun e => (e.key, e.val)) = l /\ MapKept.Stamped es c
theorem MapAt.gr {σ σ' : H} {b : Nat} {l : List (Value × Value)} (h : MapAt σ b l) (hg : Gr σ σ') : MapAt σ' b l := by
 obtain ⟨es, c, h1, h2⟩ := h; exact ⟨es, c, hg b _ h1, h2⟩
theorem MapAt.put {σ σ' : H} {b c : Nat} {o : Obj} {l : List (Value × Value)} (h : MapAt σ b l) (hp : Put σ c o σ') (hne : b ≠ c) : MapAt σ' b l := by
 obtain ⟨es, k, h1, h2⟩ := h; exact ⟨es, k, hp.get hne h1, h2⟩
theorem MapAt.new {σ : H} {b : Nat} (h : σ b = some (.map #[] 0)) : MapAt σ b [] := ⟨_, _, h, rfl, MapKept.stamped_empty _⟩

def lk {κ α : Type} [BEq κ] (k : κ) : List (κ × α) -> Option α
 | [] => none
 | (j, v) :: r => match k == j with
  | true => some v
  | false => lk k r
def up {κ α : Type} [BEq κ] (k : κ) (v : α) : List (κ × α) -> List (κ × α)
 | [] => [(k, v)]
 | (j, u) :: r => match k == j with
  | true => (k, v) :: r
  | false => (j, u) :: up k v r
structure KK (κ : Type) [BEq κ] where
 d : TypeDesc
 inj : κ -> Value
 same : ∀ a b, Instr.sameNow d (inj a) (inj b) = some (a == b)
 bits : ∀ a b, (a == b) = true -> Instr.sameBits 10000 (inj b) (inj a) = true
 refl : ∀ a : κ, (a == a) = true
 eq : ∀ a b, (a == b) = true -> inj a = inj b
 scal : scalD d = true
theorem ba_ext {a b : ByteArray} (h : a.toList = b.toList) : a = b := by
 rw [ByteArray.toList_eq, ByteArray.toList_eq] at h
 obtain ⟨⟨x⟩⟩ := a
 obtain ⟨⟨y⟩⟩ := b
 simp at h
 rw [h]
def kkS : KK ByteArray := ⟨.string, .string, fun _ _ => rfl, fun a b h => by
 have : (b == a) = true := by
  rw [beq_toListBytes] at h ⊢
  have := eq_of_beq h
  rw [this]; simp
 simpa [Instr.sameBits] using this, fun a => by rw [beq_toListBytes]; simp, fun a b h => by rw [beq_toListBytes] at h; rw [ba_ext (eq_of_beq h)], rfl⟩
def kkI : KK Int := ⟨.int .i64, .int .i64, fun _ _ => by simp [Instr.sameNow], fun a b h => by
 have := eq_of_beq h; subst this; simp [Instr.sameBits], fun a => by simp, fun a b h => by rw [eq_of_beq h], rfl⟩

def encL {κ α : Type} [BEq κ] (kk : KK κ) (f : α -> Value) (l : List (κ × α)) : List (Value × Value) := l.map fun (k, v) => (kk.inj k, f v)

section
variable {κ α : Type} [BEq κ] {kk : KK κ} {f : α -> Value}
theorem findNow_enc : ∀ (es : List MapEntry) (l : List (κ × α)) (k : κ) (i : Nat), es.map (fun e => (e.key, e.val)) = encL kk f l ->
 Instr.findNow kk.d (kk.inj k) es i = some ((lk k l).map fun v => (i + (l.findIdx fun x => k == x.1), f v)) := by
 intro es
 induction es with
 | nil => intro l k i h; cases l with | nil => rfl | cons x l => simp [encL] at h
 | cons e es ih =>
  intro l k i h
  cases l with
  | nil => simp [encL] at h
  | cons x l =>
   obtain ⟨j, v⟩ := x
   simp only [encL, List.map_cons, List.cons.injEq, Prod.mk.injEq] at h
   obtain ⟨⟨h1, h2⟩, h3⟩ := h
   simp only [Instr.findNow, h1, kk.same, lk, List.findIdx_cons]
   cases hk : (k == j) with
   | true => simp [h2]
   | false =>
    simp only [ih l k (i + 1) h3, cond_false]
    cases lk k l with
    | none => rfl
    | some u => simp; omega
theorem rdM_at {σ : H} {b : Nat} {l : List (κ × α)} (h : MapAt σ b (encL kk f l)) (z : Value) (ok : Bool) (k : κ) :
 rdM kk.d z ok (some b) (kk.inj k) σ = some (okV ok (((lk k l).map f).getD z) (lk k l).isSome) := by
 obtain ⟨es, c, h1, h2, _⟩ := h
 simp only [rdM, h1, findNow_enc es.toList l k 0 h2]
 cases lk k l <;> simp
theorem rdLen_at {σ : H} {b : Nat} {l : List (Value × Value)} (h : MapAt σ b l) : rdLen (some b) σ = some (.int .i64 l.length) := by
 obtain ⟨es, c, h1, h2, _⟩ := h
 simp only [rdLen, h1]
 congr 2
 rw [<- h2]; simp

theorem enc_up_found : ∀ (l : List (κ × α)) (k : κ) (v : α) (es : List MapEntry), (lk k l).isSome = true -> es.map (fun e => (e.key, e.val)) = encL kk f l ->
 ((es.modify (l.findIdx fun x => k == x.1) fun e => { e with key := kk.inj k, val := f v }).map fun e => (e.key, e.val)) = encL kk f (up k v l) := by
 intro l
 induction l with
 | nil => intro k v es h; simp [lk] at h
 | cons x l ih =>
  obtain ⟨j, u⟩ := x
  intro k v es h he
  cases es with
  | nil => simp [encL] at he
  | cons e es =>
   simp only [encL, List.map_cons, List.cons.injEq, Prod.mk.injEq] at he
   obtain ⟨⟨h1, h2⟩, h3⟩ := he
   simp only [lk] at h
   simp only [List.findIdx_cons, up]
   cases hk : (k == j) with
   | true => simp [encL, h3]
   | false =>
    simp only [hk] at h
    have := ih k v es h h3
    simp only [cond_false, List.modify_succ_cons, List.map_cons, this, encL, h1, h2]
theorem enc_up_new : ∀ (l : List (κ × α)) (k : κ) (v : α), lk k l = none -> up k v l = l ++ [(k, v)] := by
 intro l k v
 induction l with
 | nil => intro _; rfl
 | cons x l ih =>
  obtain ⟨j, u⟩ := x
  intro h
  simp only [lk] at h
  simp only [up]
  cases hk : (k == j) with
  | true => simp [hk] at h
  | false => simp only [hk] at h; simp [ih h]
variable {P : Program}
theorem run_getMap {b : Nat} {es : Array MapEntry} {c : Nat} {w : World} (h : w.heap[b]? = some (.map es c)) : (getObj b).run P w = .ok (.map es c) w := by simp [getObj, Sem.run, h]
theorem run_setMap {b : Nat} {es : Array MapEntry} {c : Nat} {o : Obj} {w : World} (h : w.heap[b]? = some (.map es c)) : (setObj b o).run P w = .ok () { w with heap := w.heap.setIfInBounds b o } := by simp [setObj, Sem.run, h]

theorem enc_keys_ne {l : List (κ × α)} {k : κ} (hl : lk k l = none) : ∀ {es : List MapEntry}, es.map (fun e => (e.key, e.val)) = encL kk f l -> ∀ x ∈ es, x.key ≠ kk.inj k := by
 induction l with
 | nil => intro es h; cases es with | nil => intro x hx; cases hx | cons e es => simp [encL] at h
 | cons y l ih =>
  obtain ⟨j, u⟩ := y
  intro es h
  cases es with
  | nil => intro x hx; cases hx
  | cons e es =>
   simp only [encL, List.map_cons, List.cons.injEq, Prod.mk.injEq] at h
   obtain ⟨⟨h1, h2⟩, h3⟩ := h
   simp only [lk] at hl
   cases hk : (k == j) with
   | true => rw [hk] at hl; cases hl
   | false =>
    rw [hk] at hl
    intro x hx
    rcases List.mem_cons.1 hx with e' | hx
    ·subst e'
     intro e2
     rw [h1] at e2
     have q1 := kk.same k j
     have q2 := kk.same k k
     rw [e2, q2, kk.refl, hk] at q1
     cases q1
    ·exact ih hl h3 x hx
theorem mu_i {t kt et : TypeId} (ht : P.underlying t = some (.map kt et)) (hk : P.underlying kt = some kk.d) {σ : H} {b : Nat} {l : List (κ × α)} (h : MapAt σ b (encL kk f l)) (k : κ) (v : α) {g : H -> Prop}
 (hg : ∀ o σ', Put σ b o σ' -> MapAt σ' b (encL kk f (up k v l)) -> g σ') : muW P t (.map (some b)) (kk.inj k) (f v) g σ := by
 obtain ⟨es, c, h1, h2, hst⟩ := h
 intro w hw
 have hb := hw b _ h1
 have hf := findNow_enc es.toList l k 0 h2
 have hun : (underlying t).run P w = .ok (.map kt et) w := by simp [underlying, ht]
 have hck := run_checkKey (P := P) (b := false) (n := 9999) (v := kk.inj k) hk kk.scal w
 cases hl : lk k l with
 | none =>
  rw [hl] at hf
  have hfk := run_findKey (P := P) hk hf w
  have hrun : (doS (Instr.mapUpdate t (.map (some b)) (kk.inj k) (f v))).run P w = .ok .skip { w with heap := w.heap.setIfInBounds b (.map (es.push { key := kk.inj k, val := f v, born := c }) (c + 1)) } := by
   simp only [doS, Instr.mapUpdate, Sem.run_bind, hun, Result.andThen_ok, run_getMap hb, hck, hfk, Option.map_none, run_setMap hb, Sem.run_pure]
  rw [hrun]
  refine ⟨_, Ext.set hw h1 rfl rfl rfl rfl, app_U (hg _ _ rfl ⟨_, _, H.put_same _ _ _, ?_, MapKept.stamped_push hst (enc_keys_ne hl h2)⟩)⟩
  rw [enc_up_new l k v hl]
  simp [encL] at h2 ⊢
  exact h2
 | some u =>
  rw [hl] at hf
  simp only [Option.map_some, Nat.zero_add] at hf
  have hfk := run_findKey (P := P) hk hf w
  have hkey : ∃ j, (es[l.findIdx fun x => k == x.1]?).map (·.key) = some (kk.inj j) /\ (k == j) = true := by
   have : ∀ (l : List (κ × α)) (es : List MapEntry), (lk k l).isSome = true -> es.map (fun e => (e.key, e.val)) = encL kk f l -> ∃ j, (es[l.findIdx fun x => k == x.1]?).map (·.key) = some (kk.inj j) /\ (k == j) = true := by
    intro l
    induction l with
    | nil => intro es h; simp [lk] at h
    | cons x l ih =>
     obtain ⟨j, u⟩ := x
     intro es h he
     cases es with
     | nil => simp [encL] at he
     | cons e es =>
      simp only [encL, List.map_cons, List.cons.injEq, Prod.mk.injEq] at he
      obtain ⟨⟨h1, h2⟩, h3⟩ := he
      simp only [lk] at h
      simp only [List.findIdx_cons]
      cases hk : (k == j) with
      | true => exact ⟨j, by simp [h1], hk⟩
      | false => simp only [hk] at h; simpa using ih es h h3
   have := this l es.toList (by rw [hl]; rfl) h2
   simpa using this
  obtain ⟨j, hj, hkj⟩ := hkey
  have hstay : (Instr.keyThatStays (((es[l.findIdx fun x => k == x.1]?).map (·.key)).getD (kk.inj k)) (kk.inj k)).run P w = .ok (kk.inj k) w := by
   simp only [hj, Option.getD_some, Instr.keyThatStays, kk.bits k j hkj, if_true, Sem.run_pure]
  have hrun : (doS (Instr.mapUpdate t (.map (some b)) (kk.inj k) (f v))).run P w = .ok .skip { w with heap := w.heap.setIfInBounds b (.map (es.modify (l.findIdx fun x => k == x.1) fun e => { e with key := kk.inj k, val := f v }) c) } := by
   simp only [doS, Instr.mapUpdate, Sem.run_bind, hun, Result.andThen_ok, run_getMap hb, hck, hfk, hstay, run_setMap hb, Sem.run_pure]
  rw [hrun]
  refine ⟨_, Ext.set hw h1 rfl rfl rfl rfl, app_U (hg _ _ rfl ⟨_, _, H.put_same _ _ _, ?_, MapKept.stamped_modify hst _ _ (fun _ _ => rfl) (fun e _ he => ?_)⟩)⟩
  case refine_2 =>
   rw [he] at hj
   simp only [Option.map_some, Option.some.injEq] at hj
   show kk.inj k = e.key
   rw [hj, kk.eq k j hkj]
  rw [Array.toList_modify]
  exact enc_up_found l k v es.toList (by rw [hl]; rfl) h2

end
end Go.HL

