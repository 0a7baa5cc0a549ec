/- A part of a proof. -/
import Derived.Test.YtpfkfphjigcdeaaGreatDoorVag
namespace Go.HL
open Go

def callS (fv : Value) (vs : List Value) : Sem Next := do let d <- Deferred.ofValue fv ⟨vs⟩; invoke d.target d.args
def valS (s : Sem Value) : Sem Next := do pure (.value (<- s))
def doS (s : Sem Unit) : Sem Next := do s; pure .skip
def constL : List Operand -> List Bool
 | [] => []
 | .const _ :: r => true :: constL r
 | _ :: r => false :: constL r
def isGo (P : Program) (g : FuncId) : Bool :=
 match P.funcs[g]? with
 | some fn => fn.body.isSome && !(fn.name == "runtime.NumGoroutine")
 | none => false

def callVW (P : Program) (fv : Value) (vs : List Value) (G : Value -> H -> Prop) (σ : H) : Prop :=
 match fv with
 | .func (.func g) ⟨as0⟩ ⟨cs⟩ => match isGo P g with
  | true => callW P g (as0 ++ vs ++ cs) G σ
  | false => invW P (callS (.func (.func g) ⟨as0⟩ ⟨cs⟩) vs) G σ
 | fv => invW P (callS fv vs) G σ

def efF (P : Program) (e : Env) (G : Value -> H -> Prop) (o : Oper) (σ : H) : Prop :=
 match o.op with
 | .call { callee := .value f, args := ⟨xs⟩, argTypes := _ } => match evO e f, evL e xs with
  | some fv, some vs => callVW P fv vs G σ
  | _, _ => False
 | .call { callee := .builtin b, args := ⟨xs⟩, argTypes := ts } => match evL e xs with
  | some vs => invW P (builtin b ts o.type ⟨constL xs⟩ ⟨vs⟩) G σ
  | none => False
 | .call { callee := .invoke r m, args := ⟨xs⟩, argTypes := _ } => match evO e r, evL e xs with
  | some v, some vs => invW P (callMethod v m ⟨vs⟩) G σ
  | _, _ => False
 | .store t x y => match evO e x, evO e y with
  | some u, some v => invW P (doS (Instr.storeAt t u v)) G σ
  | _, _ => False
 | .mapUpdate t m k x => match evO e m, evO e k, evO e x with
  | some m, some k, some v => invW P (doS (Instr.mapUpdate t m k v)) G σ
  | _, _, _ => False
 | .insert t m k x => match evO e m, evO e k, evO e x with
  | some m, some k, some v => invW P (doS (Instr.mapUpdate t m k v)) G σ
  | _, _, _ => False
 | .convert s d x => match evO e x with
  | some v => invW P (valS (convert s d v)) G σ
  | none => False
 | .makeSlice t l c => match evO e l, evO e c with
  | some u, some v => invW P (valS (Instr.makeSlice t u v)) G σ
  | _, _ => False
 | .range t x => match evO e x with
  | some v => invW P (valS (Instr.range t v)) G σ
  | none => False
 | .next x b => match evO e x with
  | some v => invW P (valS (Instr.next v b o.type)) G σ
  | none => False
 | .unOp op _ x => match evO e x with
  | some v => invW P (valS (Op.unary op v)) G σ
  | none => False
 | .entry x => match evO e x with
  | some v => invW P (valS (Instr.entry v)) G σ
  | none => False
 | .typeAssert x t u ok => match evO e x with
  | some v => invW P (valS (Instr.typeAssert v t u ok)) G σ
  | none => False
 | .binOp op t x y _ => match evO e x, evO e y with
  | some u, some v => invW P (valS (do eqGuard op t x y u v; binOp op t u v)) G σ
  | _, _ => False
 | _ => False

section
variable {P : Program}
theorem callFunc_go {g : FuncId} {args : Array Value} (h : isGo P g = true) (w : World) : (callFunc g args).run P w = .ok (.enter g args) w := by
 unfold isGo at h
 split at h
 ·rename_i fn hfn
  simp only [Bool.and_eq_true, Bool.not_eq_true'] at h
  obtain ⟨h1, h2⟩ := h
  have h3 : (fn.name == "runtime.NumGoroutine") = false := h2
  have h4 : fn.body.isNone = false := by cases hb : fn.body with | none => simp [hb] at h1 | some c => rfl
  simp only [callFunc, Sem.run_bind, run_program, Result.andThen_ok, hfn, h3, Bool.false_eq_true, if_false, h4, Sem.run_pure]
 ·cases h
theorem invW_callS {g : FuncId} {as0 cs vs : List Value} {G : Value -> H -> Prop} {σ : H} (hg : isGo P g = true) (h : callW P g (as0 ++ vs ++ cs) G σ) : invW P (callS (.func (.func g) ⟨as0⟩ ⟨cs⟩) vs) G σ := by
 intro w hw
 have : (callS (.func (.func g) ⟨as0⟩ ⟨cs⟩) vs).run P w = .ok (.enter g (as0 ++ vs ++ cs).toArray) w := by
  simp only [callS, Deferred.ofValue, Sem.run_bind, Sem.run_pure, Result.andThen_ok, invoke]
  rw [callFunc_go hg]
  simp
 rw [this]
 exact (h w hw).mono fun e w' ⟨v, he, r⟩ => ⟨v, he, r⟩
theorem callVW_inv {fv : Value} {vs : List Value} {G : Value -> H -> Prop} {σ : H} (h : callVW P fv vs G σ) : invW P (callS fv vs) G σ := by
 unfold callVW at h
 split at h
 ·split at h
  ·rename_i hg; exact invW_callS hg h
  ·exact h
 ·exact h
theorem map_mk {α β : Type} (f : α -> β) (l : List α) : (Array.mk l).map f = ⟨l.map f⟩ := by apply Array.ext'; simp
theorem constL_eq : ∀ (l : List Operand), l.map (fun | .const _ => true | _ => false) = constL l := by
 intro l
 induction l with
 | nil => rfl
 | cons x l ih => cases x <;> simp [constL, ih]

theorem efF_sound {N : Nat} {e : Env} {a : Act} (fr : FR N e a) {o : Oper} {G : Value -> H -> Prop} {σ : H} (h : efF P e G o σ) : invW P (execOp a.eval o) G σ := by
 obtain ⟨dst, op, type, pos, after, guard⟩ := o
 unfold efF at h
 split at h
 ·rename_i f xs _ hop
  simp only at hop; subst hop
  have hex : ∀ fv vs, evO e f = some fv -> evL e xs = some vs -> execOp a.eval ⟨dst, .call ⟨.value f, ⟨xs⟩, by assumption⟩, type, pos, after, guard⟩ = callS fv vs := by
   intro fv vs h1 h2
   simp only [execOp, resolve, callS, map_mk, fr.evO h1, fr.evL h2]
  split at h
  ·rename_i fv vs hf hv
   rw [hex _ _ hf hv]
   exact callVW_inv h
  ·exact h.elim
 ·rename_i b xs ts hop
  simp only at hop; subst hop
  split at h
  ·rename_i vs hv
   have hex : execOp a.eval ⟨dst, .call ⟨.builtin b, ⟨xs⟩, ts⟩, type, pos, after, guard⟩ = builtin b ts type ⟨constL xs⟩ ⟨vs⟩ := by
    simp only [execOp, resolve, invoke, map_mk, fr.evL hv, pure_bind]
    exact congrArg (fun l => builtin b ts type ⟨l⟩ ⟨vs⟩) (constL_eq xs)
   rw [hex]; exact h
  ·exact h.elim
 ·rename_i r m xs _ hop
  simp only at hop; subst hop
  split at h
  ·rename_i v vs h1 h2
   have hex : execOp a.eval ⟨dst, .call ⟨.invoke r m, ⟨xs⟩, by assumption⟩, type, pos, after, guard⟩ = callMethod v m ⟨vs⟩ := by
    simp only [execOp, resolve, map_mk, fr.evO h1, fr.evL h2, pure_bind, invoke]
    simp
   rw [hex]; exact h
  ·exact h.elim
 ·rename_i hop; simp only at hop; subst hop
  split at h
  ·rename_i u v h1 h2
   simp only [execOp, fr.evO h1, fr.evO h2]; exact h
  ·exact h.elim
 ·rename_i hop; simp only at hop; subst hop
  split at h
  ·rename_i u v x h1 h2 h3
   simp only [execOp, fr.evO h1, fr.evO h2, fr.evO h3]; exact h
  ·exact h.elim
 ·rename_i hop; simp only at hop; subst hop
  split at h
  ·rename_i u v x h1 h2 h3
   simp only [execOp, fr.evO h1, fr.evO h2, fr.evO h3]; exact h
  ·exact h.elim
 ·rename_i hop; simp only at hop; subst hop
  split at h
  ·rename_i u h1
   simp only [execOp, fr.evO h1]; exact h
  ·exact h.elim
 ·rename_i hop; simp only at hop; subst hop
  split at h
  ·rename_i u v h1 h2
   simp only [execOp, fr.evO h1, fr.evO h2]; exact h
  ·exact h.elim
 ·rename_i hop; simp only at hop; subst hop
  split at h
  ·rename_i u h1
   simp only [execOp, fr.evO h1]; exact h
  ·exact h.elim
 ·rename_i hop; simp only at hop; subst hop
  split at h
  ·rename_i u h1
   simp only [execOp, fr.evO h1]; exact h
  ·exact h.elim
 ·rename_i hop; simp only at hop; subst hop
  split at h
  ·rename_i u h1
   simp only [execOp, fr.evO h1]; exact h
  ·exact h.elim
 ·rename_i hop; simp only at hop; subst hop
  split at h
  ·rename_i u h1
   simp only [execOp, fr.evO h1]; exact h
  ·exact h.elim
 ·rename_i hop; simp only at hop; subst hop
  split at h
  ·rename_i u h1
   simp only [execOp, fr.evO h1]; exact h
  ·exact h.elim
 ·rename_i hop; simp only at hop; subst hop
  split at h
  ·rename_i u v h1 h2
   simp only [execOp, fr.evO h1, fr.evO h2]; exact h
  ·exact h.elim
 ·exact h.elim
end

def clsBuilt (P : Program) (b : Builtin) (ts : Array TypeId) : Nat :=
 match b, ts with
 | .len, ⟨t :: _⟩ => match P.underlying t with
  | some (.map _ _) => 1
  | _ => 0
 | .cap, _ => 0
 | .min, _ => 0
 | .max, _ => 0
 | _, _ => 3
def clsConv (P : Program) (s d : TypeId) : Nat :=
 match P.underlying s, P.underlying d with
 | some (.slice _), _ => 3
 | _, some (.slice _) => 3
 | some .unsafePointer, _ => 3
 | _, some .unsafePointer => 3
 | some (.float _), _ => 3
 | _, some (.float _) => 3
 | some .string, some .string => 0
 | some (.int _), some .string => 3
 | _, _ => 0
def isCo : Operand -> Bool
 | .const _ => true
 | _ => false
def clsEq (P : Program) (t : TypeId) (x y : Operand) : Nat :=
 match P.underlying t with
 | some (.interface _) => 3
 | some (.func _ _ _) => 3
 | some (.float _) => 3
 | some (.pointer _) => match isCo x || isCo y with
  | true => 0
  | false => 3
 | _ => 0
def clsAr (P : Program) (t : TypeId) : Nat :=
 match P.underlying t with
 | some (.float _) => 3
 | _ => 0
def clsOf (P : Program) (o : Op) : Nat :=
 match o with
 | .move _ | .assign _ | .pick .. | .nilCheck _ | .fieldAddr .. | .field .. | .extract .. | .makeInterface .. | .makeFunc .. | .build .. | .indexAddr .. | .slice .. => 0
 | .index t _ _ => match P.underlying t with
  | some (.array _ _) => 1
  | _ => 0
 | .binOp op t x y _ => match op with
  | .eql => clsEq P t x y
  | .neq => clsEq P t x y
  | _ => clsAr P t
 | .unOp _ t _ => clsAr P t
 | .convert s d _ => clsConv P s d
 | .load .. | .lookup .. => 1
 | .alloc _ | .box .. | .buildSlice .. | .makeMap .. => 2
 | .call { callee := .builtin b, args := _, argTypes := ts } => clsBuilt P b ts
 | _ => 3
def clI (P : Program) (ops : List Oper) (i : Nat) : Nat :=
 match ops[i]? with
 | some o => clsOf P o.op
 | none => 3

abbrev Pend := List (Nat × (H -> Option Value) × Value)
def chkP (A : Nat -> Nat -> Bool) (i : Nat) : Pend -> (H -> Prop) -> H -> Prop
 | [], g, σ => g σ
 | (j, r, v) :: q, g, σ => match A j i with
  | true => chkP A i q g σ
  | false => r σ = some v /\ chkP A i q g σ
def rdT (r : H -> Option Value) (t : TK) (F : t.Fn (H -> Prop)) (σ : H) : Prop := ∃ v, r σ = some v /\ app t F v σ

def slotOf (ops : List Oper) (j : Nat) : Option Nat :=
 match ops[j]? with
 | some o => o.dst
 | none => none
def andW (c g : H -> Prop) (σ : H) : Prop := c σ /\ g σ
def guardF (ops : List Oper) (e : Env) (g : Option (Nat × Bool)) (exec skip : Env -> H -> Prop) (σ : H) : Prop :=
 match g with
 | none => exec e σ
 | some (j, want) => match slotOf ops j with
  | none => skip e σ
  | some d => match e.get? d with
   | none => False
   | some (.bool t) => brW t
    (match want with | true => exec ((d, .bool true) :: e) | false => skip ((d, .bool true) :: e))
    (match want with | true => skip ((d, .bool false) :: e) | false => exec ((d, .bool false) :: e)) σ
   | some _ => skip e σ

def tyO (τ : TypeId -> TK) (o : Oper) : TK := match o.op with
 | .next _ true => .opt [.sc (.int .i64), .sc (.int .i32)]
 | .next _ false => .opt [.sc .raw, .sc .raw]
 | .entry _ => τ 1000000
 | .range _ _ => .one (.sc .ptr)
 | _ => τ o.type
def rgF (P : Program) (τ : TypeId -> TK) (N : Nat) (ops : List Oper) (A : Nat -> Nat -> Bool) : List Nat -> Pend -> Env -> (Pend -> Env -> H -> Prop) -> H -> Prop
 | [], q, e, K, σ => K q e σ
 | i :: l, q, e, K, σ => match ops[i]? with
  | none => False
  | some o => match plainOp o.op && dstOk N o.dst with
   | false => False
   | true => guardF ops e o.guard
    (fun e σ => match clsOf P o.op with
     | 0 => silF P e (fun v => rgF P τ N ops A l q (e.put o.dst v) K) o.op σ
     | 1 => rdOp P e (fun r => rdT r (τ o.type) ((τ o.type).lam fun v => rgF P τ N ops A l ((i, r, v) :: q) (e.put o.dst v) K)) o.op σ
     | 2 => alF P e (fun obj mk => alW obj fun b => rgF P τ N ops A l q (e.put o.dst (mk b)) K) o.op σ
     | _ => efF P e (app (tyO τ o) ((tyO τ o).lam fun v => chkP A i q (rgF P τ N ops A l q (e.put o.dst v) K))) o σ)
    (fun e => rgF P τ N ops A l q (e.put o.dst undef) K) σ

section
variable {P : Program} {τ : TypeId -> TK} {N : Nat} {ops : Array Oper} {A : Nat -> Nat -> Bool}

theorem clI_eq {i : Nat} {o : Oper} (h : ops[i]? = some o) : clI P ops.toList i = clsOf P o.op := by
 have : ops.toList[i]? = some o := by simpa using h
 simp [clI, this]

def PR (P : Program) (q : Pend) (p : List (Nat × Sem Next × Value)) : Prop :=
 ∀ y ∈ p, ∃ z ∈ q, z.1 = y.1 /\ z.2.2 = y.2.2 /\ ∀ σ, z.2.1 σ = some y.2.2 -> RdS P y.2.1 σ y.2.2

theorem PR.mono {q : Pend} {p p' : List (Nat × Sem Next × Value)} (h : PR P q p) (hs : ∀ y ∈ p', y ∈ p) : PR P q p' := fun y hy => h y (hs y hy)
theorem chkP_out {i : Nat} {g : H -> Prop} {σ : H} : ∀ {q : Pend}, chkP A i q g σ -> (∀ z ∈ q, A z.1 i = true \/ z.2.1 σ = some z.2.2) /\ g σ := by
 intro q
 induction q with
 | nil => intro h; exact ⟨fun z hz => by simp at hz, h⟩
 | cons x q ih =>
  intro h
  obtain ⟨j, r, v⟩ := x
  simp only [chkP] at h
  split at h
  ·rename_i ha
   obtain ⟨h1, h2⟩ := ih h
   refine ⟨fun z hz => ?_, h2⟩
   rcases List.mem_cons.1 hz with rfl | hz
   ·exact .inl ha
   ·exact h1 z hz
  ·obtain ⟨h1, h2⟩ := ih h.2
   refine ⟨fun z hz => ?_, h2⟩
   rcases List.mem_cons.1 hz with rfl | hz
   ·exact .inr h.1
   ·exact h1 z hz

theorem FR.same {e : Env} {a : Act} (h : FR N e a) {d : Nat} {v : Value} (hd : e.get? d = some v) : FR N ((d, v) :: e) a := by
 refine ⟨h.size, fun i u hu => ?_⟩
 simp only [Env.get?] at hu
 split at hu
 ·rename_i hb; have := Nat.eq_of_beq_eq_true hb; subst this; cases hu; exact h.get _ _ hd
 ·exact h.get i u hu

theorem guardF_sound {e : Env} {a : Act} (fr : FR N e a) {o : Oper} {exec skip : Env -> H -> Prop} {σ : H} (h : guardF ops.toList e o.guard exec skip σ) :
 ∃ e', FR N e' a /\ ((Region.wanted o (yielded ops a.tmps) = true /\ exec e' σ) \/ (Region.wanted o (yielded ops a.tmps) = false /\ skip e' σ)) := by
 unfold guardF at h
 split at h
 ·rename_i hg
  exact ⟨e, fr, .inl ⟨by simp [Region.wanted, hg], h⟩⟩
 ·rename_i j want hg
  split at h
  ·rename_i hs
   refine ⟨e, fr, .inr ⟨?_, h⟩⟩
   have : (ops[j]?).bind (·.dst) = none := by
    unfold slotOf at hs
    cases ho : ops[j]? with
    | none => rfl
    | some o' => have : ops.toList[j]? = some o' := by simpa using ho
                 simp [this] at hs; simp [hs]
   simp [Region.wanted, hg, yielded, this]
  ·rename_i d hs
   have hd : (ops[j]?).bind (·.dst) = some d := by
    unfold slotOf at hs
    cases ho : ops[j]? with
    | none => have : ops.toList[j]? = none := by simpa using ho
              simp [this] at hs
    | some o' => have : ops.toList[j]? = some o' := by simpa using ho
                 simp [this] at hs; simp [hs]
   split at h
   ·exact h.elim
   ·rename_i t ht
    have hy : yielded ops a.tmps j = some t := by
     have := fr.get d _ ht
     simp [yielded, hd, this]
    cases t with
    | true =>
     refine ⟨_, fr.same ht, ?_⟩
     cases want with
     | true => exact .inl ⟨by simp [Region.wanted, hg, hy], h⟩
     | false => exact .inr ⟨by simp [Region.wanted, hg, hy], h⟩
    | false =>
     refine ⟨_, fr.same ht, ?_⟩
     cases want with
     | true => exact .inr ⟨by simp [Region.wanted, hg, hy], h⟩
     | false => exact .inl ⟨by simp [Region.wanted, hg, hy], h⟩
   ·rename_i v hnb hv
    have hy : yielded ops a.tmps j = none := by
     have := fr.get d _ hv
     unfold yielded
     rw [hd]
     simp only [Option.bind_some, this]
     split
     ·rename_i b hb; cases hb; exact absurd rfl (hnb _)
     ·rfl
    exact ⟨e, fr, .inr ⟨by simp [Region.wanted, hg, hy], h⟩⟩

theorem put_defers (a : Act) (d : Option Nat) (v : Value) : (a.put d v).defers = a.defers := by cases d <;> rfl

theorem rgF_sound {K : Pend -> Env -> H -> Prop} : ∀ (l : List Nat) {q : Pend} {p : List (Nat × Sem Next × Value)} {e : Env} {a : Act} {σ : H}, PR P q p -> FR N e a -> rgF P τ N ops.toList A l q e K σ ->
 SRunD P ops (clI P ops.toList) A p l a (fun p' a' σ' => ∃ q' e', PR P q' p' /\ FR N e' a' /\ a'.defers = a.defers /\ K q' e' σ') σ := by
 intro l
 induction l with
 | nil => intro q p e a σ hpr fr h; exact ⟨q, e, hpr, fr, rfl, h⟩
 | cons i l ih =>
  intro q p e a σ hpr fr h
  simp only [rgF] at h
  split at h
  ·exact h.elim
  ·rename_i o ho
   have ho' : ops[i]? = some o := by simpa using ho
   split at h
   ·exact h.elim
   ·rename_i hp
    simp only [Bool.and_eq_true] at hp
    obtain ⟨hp, hd⟩ := hp
    refine ⟨o, ho', hp, ?_⟩
    have lift : ∀ {v : Value} {p' : List (Nat × Sem Next × Value)} {σ' : H}, SRunD P ops (clI P ops.toList) A p' l (a.put o.dst v) (fun p' a' σ' => ∃ q' e', PR P q' p' /\ FR N e' a' /\ a'.defers = (a.put o.dst v).defers /\ K q' e' σ') σ' ->
     SRunD P ops (clI P ops.toList) A p' l (a.put o.dst v) (fun p' a' σ' => ∃ q' e', PR P q' p' /\ FR N e' a' /\ a'.defers = a.defers /\ K q' e' σ') σ' := by
     intro v p' σ' h; rw [put_defers] at h; exact h
    obtain ⟨e', fr', h | h⟩ := guardF_sound fr h
    ·obtain ⟨hw, h⟩ := h
     rw [if_pos hw, clI_eq ho']
     split at h
     ·rename_i hc
      rw [hc]
      obtain ⟨v, hv, h⟩ := silF_sound fr' h
      exact ⟨v, hv, lift (ih hpr (fr'.put hd v) h)⟩
     ·rename_i hc
      rw [hc]
      obtain ⟨r, hr, v, hrv, h⟩ := rdOp_sound fr' h
      have h := app_lam h
      refine ⟨v, hr _ _ hrv, lift (ih ?_ (fr'.put hd v) h)⟩
      intro y hy
      rcases List.mem_cons.1 hy with rfl | hy
      ·exact ⟨(i, r, v), List.mem_cons_self .., rfl, rfl, fun σ hσ => hr σ v hσ⟩
      ·obtain ⟨z, hz, h1, h2, h3⟩ := hpr y hy
       exact ⟨z, List.mem_cons_of_mem _ hz, h1, h2, h3⟩
     ·rename_i hc
      rw [hc]
      obtain ⟨obj, mk, hal, h⟩ := alF_sound fr' h
      exact ⟨mk, obj, hal, fun b hb => lift (ih hpr (fr'.put hd _) (h b hb))⟩
     ·rename_i hc0 hc1 hc2
      have hm : ∀ (a0 a1 a2 a3 : Prop), a3 -> (match clsOf P o.op with | 0 => a0 | 1 => a1 | 2 => a2 | _ => a3) := by
       intro a0 a1 a2 a3 h3
       split
       ·exact absurd ‹_› hc0
       ·exact absurd ‹_› hc1
       ·exact absurd ‹_› hc2
       ·exact h3
      refine hm _ _ _ _ ((efF_sound fr' h).mono fun v σ' h => ?_)
      obtain ⟨h1, h2⟩ := chkP_out (app_lam h)
      refine ⟨fun y hy => ?_, lift (ih hpr (fr'.put hd v) h2)⟩
      obtain ⟨z, hz, e1, e2, e3⟩ := hpr y hy
      rcases h1 z hz with h1 | h1
      ·exact .inl (e1 ▸ h1)
      ·exact .inr (e3 σ' (e2 ▸ h1))
    ·obtain ⟨hw, h⟩ := h
     rw [if_neg (by rw [hw]; simp)]
     exact lift (ih hpr (fr'.put hd undef) h)
end
end Go.HL

