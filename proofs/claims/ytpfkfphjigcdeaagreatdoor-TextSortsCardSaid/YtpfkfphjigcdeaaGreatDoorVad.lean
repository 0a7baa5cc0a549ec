/- A part of a proof. -/
import Derived.Test.YtpfkfphjigcdeaaGreatDoorVac
namespace Go.HL
open Go

structure Sl where
 base : Option Addr
 len : Nat
 cap : Nat

inductive SK where
 | raw | int (k : IntKind) | bool | str | ptr | slc | map

@[reducible] def SK.T : SK -> Type
 | .raw => Value
 | .int _ => Int
 | .bool => Bool
 | .str => ByteArray
 | .ptr => Option Addr
 | .slc => Sl
 | .map => Option Nat

def SK.inj : (s : SK) -> s.T -> Value
 | .raw, v => v
 | .int k, n => .int k n
 | .bool, b => .bool b
 | .str, s => .string s
 | .ptr, p => .pointer p
 | .slc, s => .slice s.base s.len s.cap
 | .map, r => .map r

def sameK : IntKind -> IntKind -> Bool
 | .i8, .i8 | .i16, .i16 | .i32, .i32 | .i64, .i64 | .u8, .u8 | .u16, .u16 | .u32, .u32 | .u64, .u64 => true
 | _, _ => false
theorem sameK_eq {a b : IntKind} (h : sameK a b = true) : a = b := by cases a <;> cases b <;> first | rfl | cases h
theorem sameK_self (a : IntKind) : sameK a a = true := by cases a <;> rfl

def prjInt (k : IntKind) : Value -> Option Int
 | .int k' n => match sameK k' k with
  | true => some n
  | false => none
 | _ => none
def prjBool : Value -> Option Bool
 | .bool b => some b
 | _ => none
def prjStr : Value -> Option ByteArray
 | .string b => some b
 | _ => none
def prjPtr : Value -> Option (Option Addr)
 | .pointer b => some b
 | _ => none
def prjSlc : Value -> Option Sl
 | .slice b l c => some ⟨b, l, c⟩
 | _ => none
def prjMap : Value -> Option (Option Nat)
 | .map b => some b
 | _ => none

def SK.prj : (s : SK) -> Value -> Option s.T
 | .raw, v => some v
 | .int k, v => prjInt k v
 | .bool, v => prjBool v
 | .str, v => prjStr v
 | .ptr, v => prjPtr v
 | .slc, v => prjSlc v
 | .map, v => prjMap v

theorem SK.inj_prj {s : SK} {v : Value} {x : s.T} (h : s.prj v = some x) : s.inj x = v := by
 cases s with
 | raw => simp [SK.prj] at h; simp [SK.inj, h]
 | int k =>
  simp only [SK.prj] at h
  unfold prjInt at h
  split at h
  ·split at h
   ·rename_i hk; cases h; rw [sameK_eq hk]; rfl
   ·cases h
  ·cases h
 | bool => simp only [SK.prj] at h; unfold prjBool at h; split at h <;> cases h; rfl
 | str => simp only [SK.prj] at h; unfold prjStr at h; split at h <;> cases h; rfl
 | ptr => simp only [SK.prj] at h; unfold prjPtr at h; split at h <;> cases h; rfl
 | slc => simp only [SK.prj] at h; unfold prjSlc at h; split at h <;> cases h; rfl
 | map => simp only [SK.prj] at h; unfold prjMap at h; split at h <;> cases h; rfl
@[reducible] def FnL : List SK -> Type -> Type
 | [], R => R
 | s :: l, R => s.T -> FnL l R

def lamL : (l : List SK) -> {R : Type} -> (List Value -> R) -> FnL l R
 | [], _, f => f []
 | s :: l, _, f => fun x => lamL l fun vs => f (s.inj x :: vs)

def prjL : (l : List SK) -> {R : Type} -> FnL l R -> List Value -> Option R
 | [], _, F, [] => some F
 | s :: l, _, F, v :: vs => match s.prj v with
  | some x => prjL l (F x) vs
  | none => none
 | _, _, _, _ => none

theorem prjL_lamL : ∀ (l : List SK) {R : Type} (f : List Value -> R) (vs : List Value) (r : R), prjL l (lamL l f) vs = some r -> r = f vs := by
 intro l
 induction l with
 | nil =>
  intro R f vs r h
  cases vs with
  | nil => simp [prjL, lamL] at h; exact h.symm
  | cons v vs => simp [prjL] at h
 | cons s l ih =>
  intro R f vs r h
  cases vs with
  | nil => simp [prjL] at h
  | cons v vs =>
   simp only [prjL, lamL] at h
   split at h
   ·rename_i x hx
    have := ih _ vs r h
    rw [SK.inj_prj hx] at this; exact this
   ·cases h

inductive CK where
 | sc (s : SK) | agg (l : List SK)

@[reducible] def CK.Fn : CK -> Type -> Type
 | .sc s, R => s.T -> R
 | .agg l, R => FnL l R
def CK.lam : (c : CK) -> {R : Type} -> (Value -> R) -> c.Fn R
 | .sc s, _, f => fun x => f (s.inj x)
 | .agg l, _, f => lamL l fun vs => f (.agg ⟨vs⟩)
def aggOf : Value -> Option (List Value)
 | .agg ⟨l⟩ => some l
 | _ => none
def CK.prj : (c : CK) -> {R : Type} -> c.Fn R -> Value -> Option R
 | .sc s, _, F, v => match s.prj v with
  | some x => some (F x)
  | none => none
 | .agg l, _, F, v => match aggOf v with
  | some vs => prjL l F vs
  | none => none
theorem CK.prj_lam (c : CK) {R : Type} (f : Value -> R) (v : Value) (r : R) (h : c.prj (c.lam f) v = some r) : r = f v := by
 cases c with
 | sc s =>
  simp only [CK.prj, CK.lam] at h
  split at h
  ·rename_i x hx; cases h; rw [SK.inj_prj hx]
  ·cases h
 | agg l =>
  simp only [CK.prj, CK.lam] at h
  split at h
  ·rename_i vs hvs
   unfold aggOf at hvs
   split at hvs
   ·cases hvs; exact prjL_lamL l _ _ _ h
   ·cases hvs
  ·cases h

@[reducible] def FnC : List CK -> Type -> Type
 | [], R => R
 | c :: l, R => c.Fn (FnC l R)
def lamC : (l : List CK) -> {R : Type} -> (List Value -> R) -> FnC l R
 | [], _, f => f []
 | c :: l, _, f => c.lam fun v => lamC l fun vs => f (v :: vs)
def prjC : (l : List CK) -> {R : Type} -> FnC l R -> List Value -> Option R
 | [], _, F, [] => some F
 | c :: l, _, F, v :: vs => match c.prj F v with
  | some G => prjC l G vs
  | none => none
 | _, _, _, _ => none
theorem prjC_lamC : ∀ (l : List CK) {R : Type} (f : List Value -> R) (vs : List Value) (r : R), prjC l (lamC l f) vs = some r -> r = f vs := by
 intro l
 induction l with
 | nil =>
  intro R f vs r h
  cases vs with
  | nil => simp [prjC, lamC] at h; exact h.symm
  | cons v vs => simp [prjC] at h
 | cons s l ih =>
  intro R f vs r h
  cases vs with
  | nil => simp [prjC] at h
  | cons v vs =>
   simp only [prjC, lamC] at h
   split at h
   ·rename_i G hG
    rw [CK.prj_lam _ _ _ _ hG] at h
    exact ih _ vs r h
   ·cases h

inductive TK where
 | one (c : CK) | tup (l : List CK) | opt (l : List CK)
@[reducible] def TK.Fn : TK -> Type -> Type
 | .one c, R => c.Fn R
 | .tup l, R => FnC l R
 | .opt l, R => R × FnC l R
def TK.lam : (t : TK) -> {R : Type} -> (Value -> R) -> t.Fn R
 | .one c, _, f => c.lam f
 | .tup l, _, f => lamC l fun vs => f (.tuple ⟨vs⟩)
 | .opt l, _, f => (f (.tuple ⟨[.bool false]⟩), lamC l fun vs => f (.tuple ⟨.bool true :: vs⟩))
def tupOf : Value -> Option (List Value)
 | .tuple ⟨l⟩ => some l
 | _ => none
def optOf : Value -> Option (Option (List Value))
 | .tuple ⟨[.bool false]⟩ => some none
 | .tuple ⟨.bool true :: l⟩ => some (some l)
 | _ => none
theorem optOf_none {v : Value} (h : optOf v = some none) : v = .tuple ⟨[.bool false]⟩ := by
 unfold optOf at h; split at h
 ·rfl
 ·cases h
 ·cases h
theorem optOf_some {v : Value} {l : List Value} (h : optOf v = some (some l)) : v = .tuple ⟨.bool true :: l⟩ := by
 unfold optOf at h; split at h
 ·cases h
 ·cases h; rfl
 ·cases h
def TK.prj : (t : TK) -> {R : Type} -> t.Fn R -> Value -> Option R
 | .one c, _, F, v => c.prj F v
 | .tup l, _, F, v => match tupOf v with
  | some vs => prjC l F vs
  | none => none
 | .opt l, _, F, v => match optOf v with
  | some none => some F.1
  | some (some vs) => prjC l F.2 vs
  | none => none
theorem TK.prj_lam (t : TK) {R : Type} (f : Value -> R) (v : Value) (r : R) (h : t.prj (t.lam f) v = some r) : r = f v := by
 cases t with
 | one c => exact CK.prj_lam c f v r h
 | tup l =>
  simp only [TK.prj, TK.lam] at h
  split at h
  ·rename_i vs hvs
   unfold tupOf at hvs
   split at hvs
   ·cases hvs; exact prjC_lamC l _ _ _ h
   ·cases hvs
  ·cases h
 | opt l =>
  simp only [TK.prj, TK.lam] at h
  split at h
  ·rename_i hv; cases h; rw [optOf_none hv]
  ·rename_i vs hv; rw [optOf_some hv]; exact prjC_lamC l _ _ _ h
  ·cases h

def runO (o : Option (H -> Prop)) (σ : H) : Prop :=
 match o with
 | some g => g σ
 | none => False
def app (t : TK) (F : t.Fn (H -> Prop)) (v : Value) (σ : H) : Prop := runO (t.prj F v) σ
theorem app_lam {t : TK} {f : Value -> H -> Prop} {v : Value} {σ : H} (h : app t (t.lam f) v σ) : f v σ := by
 unfold app runO at h
 split at h
 ·rename_i g hg; rw [TK.prj_lam _ _ _ _ hg] at h; exact h
 ·exact h.elim

abbrev Env := List (Nat × Value)
def Env.get? : Env -> Nat -> Option Value
 | [], _ => none
 | (j, v) :: r, i => match Nat.beq j i with
  | true => some v
  | false => Env.get? r i
def Env.put (e : Env) : Option Nat -> Value -> Env
 | some d, v => (d, v) :: e
 | none, _ => e
def evO (e : Env) : Operand -> Option Value
 | .tmp t => e.get? t
 | .const v => some v
 | .global g => some (.pointer (some ⟨g, 0, none⟩))
 | .func f => some (.func (.func f) #[] #[])
def evL (e : Env) : List Operand -> Option (List Value)
 | [] => some []
 | x :: r => match evO e x with
  | some v => match evL e r with
   | some vs => some (v :: vs)
   | none => none
  | none => none

structure FR (N : Nat) (e : Env) (a : Act) : Prop where
 size : N <= a.tmps.size
 get : ∀ i v, e.get? i = some v -> a.tmps[i]? = some v

theorem FR.evO {N : Nat} {e : Env} {a : Act} (h : FR N e a) {x : Operand} {v : Value} (hx : evO e x = some v) : a.eval x = v := by
 cases x with
 | tmp t => simp only [HL.evO] at hx; simp [Act.eval, h.get t v hx]
 | const v => simp [HL.evO] at hx; simp [Act.eval, hx]
 | global g => simp [HL.evO] at hx; simp [Act.eval, hx]
 | func f => simp [HL.evO] at hx; simp [Act.eval, hx]
theorem FR.evL {N : Nat} {e : Env} {a : Act} (h : FR N e a) : ∀ {xs : List Operand} {vs : List Value}, evL e xs = some vs -> xs.map a.eval = vs := by
 intro xs
 induction xs with
 | nil => intro vs hv; simp [HL.evL] at hv; simp [hv]
 | cons x xs ih =>
  intro vs hv
  simp only [HL.evL] at hv
  split at hv
  ·rename_i v hx
   split at hv
   ·rename_i us hus; cases hv; simp [h.evO hx, ih hus]
   ·cases hv
  ·cases hv

def dstOk (N : Nat) : Option Nat -> Bool
 | some d => Nat.blt d N
 | none => true
theorem FR.put {N : Nat} {e : Env} {a : Act} (h : FR N e a) {d : Option Nat} (hd : dstOk N d = true) (v : Value) : FR N (e.put d v) (a.put d v) := by
 cases d with
 | none => exact h
 | some d =>
  have hd : d < N := by simpa [dstOk] using hd
  refine ⟨by simp [Act.put, h.size], fun i u hu => ?_⟩
  simp only [Env.put, Env.get?] at hu
  have hlt : d < a.tmps.size := Nat.lt_of_lt_of_le hd h.size
  split at hu
  ·rename_i he
   have := Nat.eq_of_beq_eq_true he
   subst this; cases hu; simp [Act.put, hlt]
  ·rename_i he
   have : d ≠ i := Nat.ne_of_beq_eq_false he
   simp only [Act.put]
   rw [Array.getElem?_setIfInBounds_ne this]; exact h.get i u hu

abbrev Live := List (Nat × CK)
def Live.ks : Live -> List CK
 | [] => []
 | (_, c) :: r => c :: Live.ks r
def Live.zip : Live -> List Value -> Env
 | (i, _) :: r, v :: vs => (i, v) :: Live.zip r vs
 | _, _ => []
def Live.sel (e : Env) : Live -> Option (List Value)
 | [] => some []
 | (i, _) :: r => match e.get? i with
  | some v => match Live.sel e r with
   | some vs => some (v :: vs)
   | none => none
  | none => none
@[reducible] def Live.Fn (l : Live) : Type := FnC l.ks (H -> Prop)
def Live.lam (l : Live) (f : Env -> H -> Prop) : l.Fn := lamC l.ks fun vs => f (l.zip vs)
def Live.app (l : Live) (F : l.Fn) (e : Env) : H -> Prop :=
 match l.sel e with
 | some vs => match prjC l.ks F vs with
  | some g => g
  | none => fun _ => False
 | none => fun _ => False
theorem Live.zip_get {e : Env} : ∀ {l : Live} {vs : List Value}, l.sel e = some vs -> ∀ i v, (l.zip vs).get? i = some v -> e.get? i = some v := by
 intro l
 induction l with
 | nil => intro vs h i v hv; simp [Live.zip, Env.get?] at hv
 | cons x l ih =>
  intro vs h i v hv
  obtain ⟨j, c⟩ := x
  simp only [Live.sel] at h
  split at h
  ·rename_i u hu
   split at h
   ·rename_i us hus
    cases h
    simp only [Live.zip, Env.get?] at hv
    split at hv
    ·rename_i hb; have := Nat.eq_of_beq_eq_true hb; subst this; cases hv; exact hu
    ·exact ih hus i v hv
   ·cases h
  ·cases h
theorem Live.app_get {l : Live} {F : l.Fn} {e : Env} {σ : H} (h : l.app F e σ) : ∃ vs g, l.sel e = some vs /\ prjC l.ks F vs = some g /\ g σ := by
 unfold Live.app at h
 cases hs : Live.sel e l with
 | none => simp only [hs] at h
 | some vs =>
  simp only [hs] at h
  cases hp : prjC l.ks F vs with
  | none => simp only [hp] at h
  | some g => simp only [hp] at h; exact ⟨vs, g, rfl, hp, h⟩
theorem Live.app_lam {l : Live} {f : Env -> H -> Prop} {e : Env} {σ : H} (h : l.app (l.lam f) e σ) : ∃ vs, l.sel e = some vs /\ f (l.zip vs) σ := by
 obtain ⟨vs, g, h1, h2, h3⟩ := Live.app_get h
 refine ⟨vs, h1, ?_⟩
 have := prjC_lamC _ _ _ _ h2
 rw [this] at h3; exact h3
theorem FR.sel {N : Nat} {e : Env} {a : Act} (h : FR N e a) {l : Live} {vs : List Value} (hs : l.sel e = some vs) : FR N (l.zip vs) a :=
 ⟨h.size, fun i v hv => h.get i v (Live.zip_get hs i v hv)⟩

def leL : (l : List SK) -> {R : Type} -> (R -> R -> Prop) -> FnL l R -> FnL l R -> Prop
 | [], _, le, F, G => le F G
 | s :: l, _, le, F, G => ∀ x : s.T, leL l le (F x) (G x)
def CK.le : (c : CK) -> {R : Type} -> (R -> R -> Prop) -> c.Fn R -> c.Fn R -> Prop
 | .sc s, _, le, F, G => ∀ x : s.T, le (F x) (G x)
 | .agg l, _, le, F, G => leL l le F G
def leC : (l : List CK) -> FnC l (H -> Prop) -> FnC l (H -> Prop) -> Prop
 | [], F, G => ∀ σ, F σ -> G σ
 | c :: l, F, G => c.le (leC l) F G

end Go.HL

