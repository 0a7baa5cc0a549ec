/- A PART OF WHAT FOLLOWS: ModelKnown, called in any world that the card allows, answers true, and what its variables hold stays. -/
import Derived.Test.YtccjhlheamiehaaGreatDoorPa
import Derived.Laws.Tables
import Derived.Laws.Cells
import Derived.Laws.StructEq
import Derived.RecoverIn
import Derived.MapKept
namespace Go.HL
open Go

structure Sl where
  base : Option Addr
  len : Nat
  cap : Nat

inductive SK where
  | raw | int (k : IntKind) | bool | str | ptr | slc | map

@[reducible] def SK.T : SK → Type
  | .raw => Value
  | .int _ => Int
  | .bool => Bool
  | .str => ByteArray
  | .ptr => Option Addr
  | .slc => Sl
  | .map => Option Nat

def SK.inj : (s : SK) → s.T → Value
  | .raw, v => v
  | .int k, n => .int k n
  | .bool, b => .bool b
  | .str, s => .string s
  | .ptr, p => .pointer p
  | .slc, s => .slice s.base s.len s.cap
  | .map, r => .map r

def sameK : IntKind → IntKind → Bool
  | .i8, .i8 | .i16, .i16 | .i32, .i32 | .i64, .i64 | .u8, .u8 | .u16, .u16 | .u32, .u32 | .u64, .u64 => true
  | _, _ => false
theorem sameK_eq {a b : IntKind} (h : sameK a b = true) : a = b := by cases a <;> cases b <;> first | rfl | cases h
theorem sameK_self (a : IntKind) : sameK a a = true := by cases a <;> rfl

def prjInt (k : IntKind) : Value → Option Int
  | .int k' n => match sameK k' k with
    | true => some n
    | false => none
  | _ => none
def prjBool : Value → Option Bool
  | .bool b => some b
  | _ => none
def prjStr : Value → Option ByteArray
  | .string b => some b
  | _ => none
def prjPtr : Value → Option (Option Addr)
  | .pointer b => some b
  | _ => none
def prjSlc : Value → Option Sl
  | .slice b l c => some ⟨b, l, c⟩
  | _ => none
def prjMap : Value → Option (Option Nat)
  | .map b => some b
  | _ => none

def SK.prj : (s : SK) → Value → Option s.T
  | .raw, v => some v
  | .int k, v => prjInt k v
  | .bool, v => prjBool v
  | .str, v => prjStr v
  | .ptr, v => prjPtr v
  | .slc, v => prjSlc v
  | .map, v => prjMap v

theorem SK.inj_prj {s : SK} {v : Value} {x : s.T} (h : s.prj v = some x) : s.inj x = v := by
  cases s with
  | raw => simp [SK.prj] at h; simp [SK.inj, h]
  | int k =>
    simp only [SK.prj] at h
    unfold prjInt at h
    split at h
    · split at h
      · rename_i hk; cases h; rw [sameK_eq hk]; rfl
      · cases h
    · cases h
  | bool => simp only [SK.prj] at h; unfold prjBool at h; split at h <;> cases h; rfl
  | str => simp only [SK.prj] at h; unfold prjStr at h; split at h <;> cases h; rfl
  | ptr => simp only [SK.prj] at h; unfold prjPtr at h; split at h <;> cases h; rfl
  | slc => simp only [SK.prj] at h; unfold prjSlc at h; split at h <;> cases h; rfl
  | map => simp only [SK.prj] at h; unfold prjMap at h; split at h <;> cases h; rfl
@[reducible] def FnL : List SK → Type → Type
  | [], R => R
  | s :: l, R => s.T → FnL l R

def lamL : (l : List SK) → {R : Type} → (List Value → R) → FnL l R
  | [], _, f => f []
  | s :: l, _, f => fun x => lamL l fun vs => f (s.inj x :: vs)

def prjL : (l : List SK) → {R : Type} → FnL l R → List Value → Option R
  | [], _, F, [] => some F
  | s :: l, _, F, v :: vs => match s.prj v with
    | some x => prjL l (F x) vs
    | none => none
  | _, _, _, _ => none

theorem prjL_lamL : ∀ (l : List SK) {R : Type} (f : List Value → R) (vs : List Value) (r : R), prjL l (lamL l f) vs = some r → r = f vs := by
  intro l
  induction l with
  | nil =>
    intro R f vs r h
    cases vs with
    | nil => simp [prjL, lamL] at h; exact h.symm
    | cons v vs => simp [prjL] at h
  | cons s l ih =>
    intro R f vs r h
    cases vs with
    | nil => simp [prjL] at h
    | cons v vs =>
      simp only [prjL, lamL] at h
      split at h
      · rename_i x hx
        have := ih _ vs r h
        rw [SK.inj_prj hx] at this; exact this
      · cases h

/-- a component's kind -/
inductive CK where
  | sc (s : SK) | agg (l : List SK)

@[reducible] def CK.Fn : CK → Type → Type
  | .sc s, R => s.T → R
  | .agg l, R => FnL l R
def CK.lam : (c : CK) → {R : Type} → (Value → R) → c.Fn R
  | .sc s, _, f => fun x => f (s.inj x)
  | .agg l, _, f => lamL l fun vs => f (.agg ⟨vs⟩)
def aggOf : Value → Option (List Value)
  | .agg ⟨l⟩ => some l
  | _ => none
def CK.prj : (c : CK) → {R : Type} → c.Fn R → Value → Option R
  | .sc s, _, F, v => match s.prj v with
    | some x => some (F x)
    | none => none
  | .agg l, _, F, v => match aggOf v with
    | some vs => prjL l F vs
    | none => none
theorem CK.prj_lam (c : CK) {R : Type} (f : Value → R) (v : Value) (r : R) (h : c.prj (c.lam f) v = some r) : r = f v := by
  cases c with
  | sc s =>
    simp only [CK.prj, CK.lam] at h
    split at h
    · rename_i x hx; cases h; rw [SK.inj_prj hx]
    · cases h
  | agg l =>
    simp only [CK.prj, CK.lam] at h
    split at h
    · rename_i vs hvs
      unfold aggOf at hvs
      split at hvs
      · cases hvs; exact prjL_lamL l _ _ _ h
      · cases hvs
    · cases h

@[reducible] def FnC : List CK → Type → Type
  | [], R => R
  | c :: l, R => c.Fn (FnC l R)
def lamC : (l : List CK) → {R : Type} → (List Value → R) → FnC l R
  | [], _, f => f []
  | c :: l, _, f => c.lam fun v => lamC l fun vs => f (v :: vs)
def prjC : (l : List CK) → {R : Type} → FnC l R → List Value → Option R
  | [], _, F, [] => some F
  | c :: l, _, F, v :: vs => match c.prj F v with
    | some G => prjC l G vs
    | none => none
  | _, _, _, _ => none
theorem prjC_lamC : ∀ (l : List CK) {R : Type} (f : List Value → R) (vs : List Value) (r : R), prjC l (lamC l f) vs = some r → r = f vs := by
  intro l
  induction l with
  | nil =>
    intro R f vs r h
    cases vs with
    | nil => simp [prjC, lamC] at h; exact h.symm
    | cons v vs => simp [prjC] at h
  | cons s l ih =>
    intro R f vs r h
    cases vs with
    | nil => simp [prjC] at h
    | cons v vs =>
      simp only [prjC, lamC] at h
      split at h
      · rename_i G hG
        rw [CK.prj_lam _ _ _ _ hG] at h
        exact ih _ vs r h
      · cases h

/-- a value's kind -/
inductive TK where
  | one (c : CK) | tup (l : List CK) | opt (l : List CK)
@[reducible] def TK.Fn : TK → Type → Type
  | .one c, R => c.Fn R
  | .tup l, R => FnC l R
  | .opt l, R => R × FnC l R
def TK.lam : (t : TK) → {R : Type} → (Value → R) → t.Fn R
  | .one c, _, f => c.lam f
  | .tup l, _, f => lamC l fun vs => f (.tuple ⟨vs⟩)
  | .opt l, _, f => (f (.tuple ⟨[.bool false]⟩), lamC l fun vs => f (.tuple ⟨.bool true :: vs⟩))
def tupOf : Value → Option (List Value)
  | .tuple ⟨l⟩ => some l
  | _ => none
/-- 'none': it is over -/
def optOf : Value → Option (Option (List Value))
  | .tuple ⟨[.bool false]⟩ => some none
  | .tuple ⟨.bool true :: l⟩ => some (some l)
  | _ => none
theorem optOf_none {v : Value} (h : optOf v = some none) : v = .tuple ⟨[.bool false]⟩ := by
  unfold optOf at h; split at h
  · rfl
  · cases h
  · cases h
theorem optOf_some {v : Value} {l : List Value} (h : optOf v = some (some l)) : v = .tuple ⟨.bool true :: l⟩ := by
  unfold optOf at h; split at h
  · cases h
  · cases h; rfl
  · cases h
def TK.prj : (t : TK) → {R : Type} → t.Fn R → Value → Option R
  | .one c, _, F, v => c.prj F v
  | .tup l, _, F, v => match tupOf v with
    | some vs => prjC l F vs
    | none => none
  | .opt l, _, F, v => match optOf v with
    | some none => some F.1
    | some (some vs) => prjC l F.2 vs
    | none => none
theorem TK.prj_lam (t : TK) {R : Type} (f : Value → R) (v : Value) (r : R) (h : t.prj (t.lam f) v = some r) : r = f v := by
  cases t with
  | one c => exact CK.prj_lam c f v r h
  | tup l =>
    simp only [TK.prj, TK.lam] at h
    split at h
    · rename_i vs hvs
      unfold tupOf at hvs
      split at hvs
      · cases hvs; exact prjC_lamC l _ _ _ h
      · cases hvs
    · cases h
  | opt l =>
    simp only [TK.prj, TK.lam] at h
    split at h
    · rename_i hv; cases h; rw [optOf_none hv]
    · rename_i vs hv; rw [optOf_some hv]; exact prjC_lamC l _ _ _ h
    · cases h

def runO (o : Option (H → Prop)) (σ : H) : Prop :=
  match o with
  | some g => g σ
  | none => False
/-- typed parts of a value are handed on -/
def app (t : TK) (F : t.Fn (H → Prop)) (v : Value) (σ : H) : Prop := runO (t.prj F v) σ
theorem app_lam {t : TK} {f : Value → H → Prop} {v : Value} {σ : H} (h : app t (t.lam f) v σ) : f v σ := by
  unfold app runO at h
  split at h
  · rename_i g hg; rw [TK.prj_lam _ _ _ _ hg] at h; exact h
  · exact h.elim

/-! ### Environments -/
abbrev Env := List (Nat × Value)
def Env.get? : Env → Nat → Option Value
  | [], _ => none
  | (j, v) :: r, i => match Nat.beq j i with
    | true => some v
    | false => Env.get? r i
def Env.put (e : Env) : Option Nat → Value → Env
  | some d, v => (d, v) :: e
  | none, _ => e
def evO (e : Env) : Operand → Option Value
  | .tmp t => e.get? t
  | .const v => some v
  | .global g => some (.pointer (some ⟨g, 0, none⟩))
  | .func f => some (.func (.func f) #[] #[])
def evL (e : Env) : List Operand → Option (List Value)
  | [] => some []
  | x :: r => match evO e x with
    | some v => match evL e r with
      | some vs => some (v :: vs)
      | none => none
    | none => none

structure FR (N : Nat) (e : Env) (a : Act) : Prop where
  size : N ≤ a.tmps.size
  get : ∀ i v, e.get? i = some v → a.tmps[i]? = some v

theorem FR.evO {N : Nat} {e : Env} {a : Act} (h : FR N e a) {x : Operand} {v : Value} (hx : evO e x = some v) : a.eval x = v := by
  cases x with
  | tmp t => simp only [HL.evO] at hx; simp [Act.eval, h.get t v hx]
  | const v => simp [HL.evO] at hx; simp [Act.eval, hx]
  | global g => simp [HL.evO] at hx; simp [Act.eval, hx]
  | func f => simp [HL.evO] at hx; simp [Act.eval, hx]
theorem FR.evL {N : Nat} {e : Env} {a : Act} (h : FR N e a) : ∀ {xs : List Operand} {vs : List Value}, evL e xs = some vs → xs.map a.eval = vs := by
  intro xs
  induction xs with
  | nil => intro vs hv; simp [HL.evL] at hv; simp [hv]
  | cons x xs ih =>
    intro vs hv
    simp only [HL.evL] at hv
    split at hv
    · rename_i v hx
      split at hv
      · rename_i us hus; cases hv; simp [h.evO hx, ih hus]
      · cases hv
    · cases hv

def dstOk (N : Nat) : Option Nat → Bool
  | some d => Nat.blt d N
  | none => true
theorem FR.put {N : Nat} {e : Env} {a : Act} (h : FR N e a) {d : Option Nat} (hd : dstOk N d = true) (v : Value) : FR N (e.put d v) (a.put d v) := by
  cases d with
  | none => exact h
  | some d =>
    have hd : d < N := by simpa [dstOk] using hd
    refine ⟨by simp [Act.put, h.size], fun i u hu => ?_⟩
    simp only [Env.put, Env.get?] at hu
    have hlt : d < a.tmps.size := Nat.lt_of_lt_of_le hd h.size
    split at hu
    · rename_i he
      have := Nat.eq_of_beq_eq_true he
      subst this; cases hu; simp [Act.put, hlt]
    · rename_i he
      have : d ≠ i := Nat.ne_of_beq_eq_false he
      simp only [Act.put]
      rw [Array.getElem?_setIfInBounds_ne this]; exact h.get i u hu

/-- slots that live on, with their kinds -/
abbrev Live := List (Nat × CK)
def Live.ks : Live → List CK
  | [] => []
  | (_, c) :: r => c :: Live.ks r
def Live.zip : Live → List Value → Env
  | (i, _) :: r, v :: vs => (i, v) :: Live.zip r vs
  | _, _ => []
def Live.sel (e : Env) : Live → Option (List Value)
  | [] => some []
  | (i, _) :: r => match e.get? i with
    | some v => match Live.sel e r with
      | some vs => some (v :: vs)
      | none => none
    | none => none
@[reducible] def Live.Fn (l : Live) : Type := FnC l.ks (H → Prop)
def Live.lam (l : Live) (f : Env → H → Prop) : l.Fn := lamC l.ks fun vs => f (l.zip vs)
def Live.app (l : Live) (F : l.Fn) (e : Env) : H → Prop :=
  match l.sel e with
  | some vs => match prjC l.ks F vs with
    | some g => g
    | none => fun _ => False
  | none => fun _ => False
theorem Live.zip_get {e : Env} : ∀ {l : Live} {vs : List Value}, l.sel e = some vs → ∀ i v, (l.zip vs).get? i = some v → e.get? i = some v := by
  intro l
  induction l with
  | nil => intro vs h i v hv; simp [Live.zip, Env.get?] at hv
  | cons x l ih =>
    intro vs h i v hv
    obtain ⟨j, c⟩ := x
    simp only [Live.sel] at h
    split at h
    · rename_i u hu
      split at h
      · rename_i us hus
        cases h
        simp only [Live.zip, Env.get?] at hv
        split at hv
        · rename_i hb; have := Nat.eq_of_beq_eq_true hb; subst this; cases hv; exact hu
        · exact ih hus i v hv
      · cases h
    · cases h
theorem Live.app_get {l : Live} {F : l.Fn} {e : Env} {σ : H} (h : l.app F e σ) : ∃ vs g, l.sel e = some vs ∧ prjC l.ks F vs = some g ∧ g σ := by
  unfold Live.app at h
  cases hs : Live.sel e l with
  | none => simp only [hs] at h
  | some vs =>
    simp only [hs] at h
    cases hp : prjC l.ks F vs with
    | none => simp only [hp] at h
    | some g => simp only [hp] at h; exact ⟨vs, g, rfl, hp, h⟩
theorem Live.app_lam {l : Live} {f : Env → H → Prop} {e : Env} {σ : H} (h : l.app (l.lam f) e σ) : ∃ vs, l.sel e = some vs ∧ f (l.zip vs) σ := by
  obtain ⟨vs, g, h1, h2, h3⟩ := Live.app_get h
  refine ⟨vs, h1, ?_⟩
  have := prjC_lamC _ _ _ _ h2
  rw [this] at h3; exact h3
theorem FR.sel {N : Nat} {e : Env} {a : Act} (h : FR N e a) {l : Live} {vs : List Value} (hs : l.sel e = some vs) : FR N (l.zip vs) a :=
  ⟨h.size, fun i v hv => h.get i v (Live.zip_get hs i v hv)⟩

/-- pointwise: one family of statements is stronger than another -/
def leL : (l : List SK) → {R : Type} → (R → R → Prop) → FnL l R → FnL l R → Prop
  | [], _, le, F, G => le F G
  | s :: l, _, le, F, G => ∀ x : s.T, leL l le (F x) (G x)
def CK.le : (c : CK) → {R : Type} → (R → R → Prop) → c.Fn R → c.Fn R → Prop
  | .sc s, _, le, F, G => ∀ x : s.T, le (F x) (G x)
  | .agg l, _, le, F, G => leL l le F G
def leC : (l : List CK) → FnC l (H → Prop) → FnC l (H → Prop) → Prop
  | [], F, G => ∀ σ, F σ → G σ
  | c :: l, F, G => c.le (leC l) F G

end Go.HL

namespace Go.HL
open Go

def nW : H → Prop := fun _ => False
def oW (v : Option Value) (K : Value → H → Prop) (σ : H) : Prop :=
  match v with
  | some v => K v σ
  | none => False
def brW (t : Bool) (A B : H → Prop) (σ : H) : Prop :=
  match t with
  | true => A σ
  | false => B σ
def ptrW (p : Option Addr) (g : Nat → Nat → H → Prop) (σ : H) : Prop :=
  match p with
  | some ⟨b, o, none⟩ => g b o σ
  | _ => False
/-- a condition, and on -/
def ifW (c : Prop) (g : H → Prop) : H → Prop := fun σ => c ∧ g σ

/-! ### What the program's tables say, as numbers -/
def fOff (P : Program) (s : TypeId) (f : Nat) : Option Nat :=
  match P.underlying s with
  | some (.struct fs) => match fs.toList[f]? with
    | some fd => match P.info? fd.type with
      | some i => match i.size with
        | 0 => none
        | _ + 1 => some fd.offset
      | none => none
    | none => none
  | _ => none
def isAggT (P : Program) (t : TypeId) : Option Bool :=
  match P.underlying t with
  | some (.struct _) => some true
  | some (.array _ _) => some true
  | some _ => some false
  | none => none
def sizeT (P : Program) (t : TypeId) : Option Nat :=
  match P.info? t with
  | some i => some i.size
  | none => none
def zeroT (P : Program) (t : TypeId) : Option Value :=
  match P.info? t with
  | some i => i.zero
  | none => none

section
variable {P : Program}
theorem run_typeInfo' {t : TypeId} {i : TypeInfo} (h : P.info? t = some i) (w : World) : (typeInfo t).run P w = .ok i w := by
  simp [typeInfo, h]
theorem run_sizeOf {t : TypeId} {n : Nat} (h : sizeT P t = some n) (w : World) : (sizeOf t).run P w = .ok n w := by
  unfold sizeT at h
  split at h
  · rename_i i hi; cases h; simp [sizeOf, run_typeInfo' hi]
  · cases h
theorem run_zeroValue {t : TypeId} {v : Value} (h : zeroT P t = some v) (w : World) : (zeroValue t).run P w = .ok v w := by
  unfold zeroT at h
  split at h
  · rename_i i hi; simp [zeroValue, run_typeInfo' hi, h]
  · cases h
theorem run_isAgg {t : TypeId} {b : Bool} (h : isAggT P t = some b) (w : World) : (isAgg t).run P w = .ok b w := by
  unfold isAggT at h
  cases hu : P.underlying t with
  | none => simp [hu] at h
  | some d =>
    simp only [hu] at h
    cases d <;> simp at h <;> subst h <;> simp [isAgg, run_underlying hu]
theorem add_none (b o n : Nat) : (⟨b, o, none⟩ : Addr).add n = ⟨b, o + n, none⟩ := by
  unfold Addr.add; split
  · rename_i h; subst h; rfl
  · rfl
end

/-- a part of an aggregate -/
def partV (P : Program) (t : TypeId) (l : List Value) (off : Nat) : Option Value :=
  match isAggT P t with
  | some true => match sizeT P t with
    | some n => some (.agg ⟨(l.drop off).take n⟩)
    | none => none
  | some false => l[off]?
  | none => none
theorem run_part {P : Program} {t : TypeId} {l : List Value} {off : Nat} {v : Value} (h : partV P t l off = some v) (w : World) : (part t ⟨l⟩ off).run P w = .ok v w := by
  unfold partV at h
  split at h
  · rename_i ha
    split at h
    · rename_i n hn
      cases h
      simp only [part, Sem.run_bind, run_isAgg ha, Result.andThen_ok, if_true, run_sizeOf hn, Sem.run_pure]
      have : (Array.mk l).extract off (off + n) = ⟨(l.drop off).take n⟩ := by
        apply Array.ext'; simp
      rw [this]
    · cases h
  · rename_i ha
    simp [part, run_isAgg ha, h]
  · cases h
def fieldV (P : Program) (s : TypeId) (l : List Value) (f : Nat) : Option Value :=
  match P.underlying s with
  | some (.struct fs) => match fs.toList[f]? with
    | some fd => partV P fd.type l fd.offset
    | none => none
  | _ => none

/-! ### Operators -/
def strEq (x y : ByteArray) : Bool := x.toList == y.toList
def strLt (x y : ByteArray) : Bool := Op.bytesLess x.toList y.toList
def bitV (op : BinOp) (k : IntKind) (x y : Int) : Int :=
  match op with
  | .and => k.wrap (BitVec.ofInt k.bits x &&& BitVec.ofInt k.bits y).toNat
  | .or => k.wrap (BitVec.ofInt k.bits x ||| BitVec.ofInt k.bits y).toNat
  | .xor => k.wrap (BitVec.ofInt k.bits x ^^^ BitVec.ofInt k.bits y).toNat
  | _ => k.wrap (BitVec.ofInt k.bits x &&& ~~~BitVec.ofInt k.bits y).toNat

def intF (op : BinOp) (k : IntKind) (a b : Int) (K : Value → H → Prop) : H → Prop :=
  match op with
  | .add => K (.int k (k.wrap (a + b)))
  | .sub => K (.int k (k.wrap (a - b)))
  | .mul => K (.int k (k.wrap (a * b)))
  | .quo => ifW (b ≠ 0) (K (.int k (k.wrap (a.tdiv b))))
  | .rem => ifW (b ≠ 0) (K (.int k (a.tmod b)))
  | .and => K (.int k (bitV .and k a b))
  | .or => K (.int k (bitV .or k a b))
  | .xor => K (.int k (bitV .xor k a b))
  | .andNot => K (.int k (bitV .andNot k a b))
  | .eql => K (.bool (a == b))
  | .neq => K (.bool (a != b))
  | .lss => K (.bool (decide (a < b)))
  | .leq => K (.bool (decide (a ≤ b)))
  | .gtr => K (.bool (decide (a > b)))
  | .geq => K (.bool (decide (a ≥ b)))
  | _ => nW
def shF (op : BinOp) (k : IntKind) (a b : Int) (K : Value → H → Prop) : H → Prop :=
  match op with
  | .shl => ifW (0 ≤ b) (K (.int k (k.wrap (a * 2 ^ min b.toNat k.bits))))
  | .shr => ifW (0 ≤ b) (K (.int k (a.fdiv (2 ^ min b.toNat k.bits))))
  | _ => nW
def strF (op : BinOp) (x y : ByteArray) (K : Value → H → Prop) : H → Prop :=
  match op with
  | .add => ifW (x.size + y.size ≤ 9223372036854775807) (K (.string (x ++ y)))
  | .eql => K (.bool (strEq x y))
  | .neq => K (.bool (!strEq x y))
  | .lss => K (.bool (strLt x y))
  | .leq => K (.bool (strLt x y || strEq x y))
  | .gtr => K (.bool !(strLt x y || strEq x y))
  | .geq => K (.bool !(strLt x y))
  | _ => nW
/-- equality of two lists of scalars -/
def eqS : Value → Value → Option Bool
  | .bool a, .bool b => some (a == b)
  | .int k a, .int k' b => match sameK k k' with
    | true => some (a == b)
    | false => none
  | .string a, .string b => some (strEq a b)
  | _, _ => none
/-- the scalar kinds of a type -/
def scalT (P : Program) (t : TypeId) (v : Value) : Bool :=
  match P.underlying t, v with
  | some .bool, .bool _ => true
  | some (.int _), .int _ _ => true
  | some .string, .string _ => true
  | _, _ => false
def eqFs (P : Program) (xs ys : List Value) : List Field → Option Bool
  | [] => some true
  | f :: fs => match xs[f.offset]?, ys[f.offset]? with
    | some x, some y => match scalT P f.type x && !(f.name == "_") with
      | true => match eqS x y, eqFs P xs ys fs with
        | some a, some b => some (a && b)
        | _, _ => none
      | false => none
    | _, _ => none
def eqAgg (P : Program) (t : TypeId) (xs ys : List Value) : Option Bool :=
  match P.underlying t with
  | some (.struct fs) => match P.stoodInHeld t, P.eqGuardType P.depth t with
    | false, false => eqFs P xs ys fs.toList
    | _, _ => none
  | _ => none
def negB (neg : Bool) (b : Bool) : Bool :=
  match neg with
  | true => !b
  | false => b
def eqF (P : Program) (neg : Bool) (t : TypeId) (x y : Value) (K : Value → H → Prop) (σ : H) : Prop :=
  match P.underlying t, x, y with
  | some .bool, .bool a, .bool b => K (.bool (negB neg (a == b))) σ
  | some (.pointer _), .pointer p, .pointer none => K (.bool (negB neg p.isNone)) σ
  | some (.slice _), .slice p _ _, .slice none _ _ => K (.bool (negB neg p.isNone)) σ
  | some (.map _ _), .map p, .map none => K (.bool (negB neg p.isNone)) σ
  | some (.struct _), .agg ⟨xs⟩, .agg ⟨ys⟩ => match eqAgg P t xs ys with
    | some b => K (.bool (negB neg b)) σ
    | none => False
  | _, _, _ => False
def bopF (P : Program) (op : BinOp) (t : TypeId) (x y : Value) (K : Value → H → Prop) (σ : H) : Prop :=
  match x, y with
  | .int k a, .int k' b => match op with
    | .shl => shF .shl k a b K σ
    | .shr => shF .shr k a b K σ
    | _ => match sameK k k' with
      | true => intF op k a b K σ
      | false => False
  | .string a, .string b => strF op a b K σ
  | _, _ => match op with
    | .eql => eqF P false t x y K σ
    | .neq => eqF P true t x y K σ
    | _ => False

theorem run_eqGuard_no {P : Program} {w : World} (op : BinOp) (t : TypeId) (x y : Operand) (a b : Value) (h1 : a ≠ .nilIface) (h2 : ∀ c, a ≠ .agg c) : (eqGuard op t x y a b).run P w = .ok () w := by
  cases a <;> first
    | exact absurd rfl h1
    | exact absurd rfl (h2 _)
    | (unfold eqGuard; simp only [Sem.run_ite, Sem.run_pure]; split <;> rfl)
    | (unfold eqGuard; cases op <;> rfl)

theorem maxInt : IntKind.i64.max = 9223372036854775807 := by decide

theorem intF_sound {P : Program} {op : BinOp} {k : IntKind} {a b : Int} {t : TypeId} {K : Value → H → Prop} {σ : H} (h : intF op k a b K σ) (hs : op ≠ .shl) (hs' : op ≠ .shr) :
    ∃ v, (∀ w, (binOp op t (.int k a) (.int k b)).run P w = .ok v w) ∧ K v σ := by
  cases op <;> simp only [intF] at h <;> first
    | exact absurd rfl hs
    | exact absurd rfl hs'
    | exact h.elim
    | exact ⟨_, fun w => by simp [binOp, Op.intArith, Op.intBits, Op.intCmp, bitV], h⟩
    | exact ⟨_, fun w => by simp [binOp, Op.intDiv, h.1], h.2⟩
theorem shF_sound {P : Program} {op : BinOp} {k k' : IntKind} {a b : Int} {t : TypeId} {K : Value → H → Prop} {σ : H} (h : shF op k a b K σ) :
    ∃ v, (∀ w, (binOp op t (.int k a) (.int k' b)).run P w = .ok v w) ∧ K v σ := by
  cases op <;> simp only [shF] at h <;> first
    | exact h.elim
    | (refine ⟨_, fun w => ?_, h.2⟩; have := h.1; simp [binOp, Op.shift, show ¬ b < 0 by omega])
theorem strF_sound {P : Program} {op : BinOp} {a b : ByteArray} {t : TypeId} {K : Value → H → Prop} {σ : H} (h : strF op a b K σ) :
    ∃ v, (∀ w, (binOp op t (.string a) (.string b)).run P w = .ok v w) ∧ K v σ := by
  cases op <;> simp only [strF] at h <;> first
    | exact h.elim
    | exact ⟨_, fun w => by simp [binOp, Op.stringOp, strEq, strLt], h⟩
    | (refine ⟨_, fun w => ?_, h.2⟩
       have h1 := h.1
       have : ¬ (((a.size + b.size : Nat) : Int) > IntKind.i64.max) := by rw [maxInt]; omega
       simp only [binOp, Op.stringOp, this, if_false, Sem.run_pure])

theorem eqFs_sound {P : Program} {d : Nat} {xs ys : List Value} (w : World) : ∀ (fs : List Field) (b : Bool), eqFs P xs ys fs = some b → (Op.eqFields (d + 1) ⟨xs⟩ ⟨ys⟩ fs).run P w = .ok b w := by
  intro fs
  induction fs with
  | nil => intro b h; simp [eqFs] at h; subst h; simp [Op.eqFields]
  | cons f fs ih =>
    intro b h
    simp only [eqFs] at h
    split at h
    · rename_i x y hx hy
      split at h
      · rename_i hs
        split at h
        · rename_i a c ha hc
          cases h
          simp only [Bool.and_eq_true, Bool.not_eq_true'] at hs
          obtain ⟨hs, hn⟩ := hs
          have hne : f.name ≠ "_" := by simpa using hn
          have hag : isAggT P f.type = some false := by
            unfold scalT at hs
            unfold isAggT
            split at hs <;> first | (cases hs; done) | (rename_i hu; simp [hu])
          have px : (part f.type ⟨xs⟩ f.offset).run P w = .ok x w := run_part (by simp [partV, hag, hx]) w
          have py : (part f.type ⟨ys⟩ f.offset).run P w = .ok y w := run_part (by simp [partV, hag, hy]) w
          have he : (Op.equalIn (d + 1) f.type x y).run P w = .ok a w := by
            unfold scalT at hs
            split at hs
            · rename_i hu
              unfold eqS at ha; split at ha <;> simp_all
              subst ha; simp [Op.equalIn, run_underlying hu]
            · rename_i hu
              unfold eqS at ha; split at ha <;> simp_all
              split at ha <;> simp_all
              rename_i hk
              have hk' := sameK_eq hk
              subst ha; simp [Op.equalIn, run_underlying hu, hk']
            · rename_i hu
              unfold eqS at ha; split at ha <;> simp_all
              subst ha; simp [Op.equalIn, run_underlying hu, strEq, beq_toListBytes]
            · cases hs
          simp only [Op.eqFields, hne, ne_eq, not_false_eq_true, if_true, Sem.run_bind, px, py, he, Result.andThen_ok]
          cases a with
          | false => simp
          | true => simp [ih c hc]
        · cases h
      · cases h
    · cases h
section
variable {P : Program} (w : World) (d : Nat) {t : TypeId}
theorem eq_bool (a b : Bool) (hu : P.underlying t = some .bool) : (Op.equalIn (d + 1) t (.bool a) (.bool b)).run P w = .ok (a == b) w := by
  simp [Op.equalIn, run_underlying hu]
theorem eq_ptr {e : TypeId} (p : Option Addr) (hu : P.underlying t = some (.pointer e)) : (Op.equalIn (d + 1) t (.pointer p) (.pointer none)).run P w = .ok p.isNone w := by
  cases p <;> simp [Op.equalIn, run_underlying hu]
theorem eq_slc {e : TypeId} (p : Option Addr) (l c l' c' : Nat) (hu : P.underlying t = some (.slice e)) : (Op.equalIn (d + 1) t (.slice p l c) (.slice none l' c')).run P w = .ok p.isNone w := by
  cases p <;> simp [Op.equalIn, run_underlying hu]
theorem eq_map {k e : TypeId} (p : Option Nat) (hu : P.underlying t = some (.map k e)) : (Op.equalIn (d + 1) t (.map p) (.map none)).run P w = .ok p.isNone w := by
  cases p <;> simp [Op.equalIn, run_underlying hu]
end
theorem eq_run {P : Program} {neg : Bool} {t : TypeId} {x y : Value} {ox oy : Operand} {w : World} {b : Bool} (h1 : x ≠ .nilIface) (h2 : ∀ c, x ≠ .agg c) (h3 : ∀ k n, x ≠ .int k n) (h4 : ∀ s, x ≠ .string s)
    (h5 : ∀ k n, x ≠ .float k n) (h6 : ∀ k n m, x ≠ .complex k n m) (h : (Op.equalIn 10000 t x y).run P w = .ok b w) :
    (do eqGuard (if neg then .neq else .eql) t ox oy x y; binOp (if neg then .neq else .eql) t x y : Sem Value).run P w = .ok (.bool (negB neg b)) w := by
  rw [Sem.run_bind, run_eqGuard_no _ _ _ _ _ _ h1 h2, Result.andThen_ok]
  cases neg
  · have e : binOp .eql t x y = (do pure (.bool (← Op.equal t x y))) := by
      cases x <;> first | rfl | exact absurd rfl (h3 _ _) | exact absurd rfl (h4 _) | exact absurd rfl (h5 _ _) | exact absurd rfl (h6 _ _ _)
    simp only [Bool.false_eq_true, if_false, e, Sem.run_bind, Op.equal, Op.maxDepth, h, Result.andThen_ok, Sem.run_pure, negB]
  · have e : binOp .neq t x y = (do pure (.bool (!(← Op.equal t x y)))) := by
      cases x <;> first | rfl | exact absurd rfl (h3 _ _) | exact absurd rfl (h4 _) | exact absurd rfl (h5 _ _) | exact absurd rfl (h6 _ _ _)
    simp only [if_true, e, Sem.run_bind, Op.equal, Op.maxDepth, h, Result.andThen_ok, Sem.run_pure, negB]
theorem eqF_sound {P : Program} {neg : Bool} {t : TypeId} {x y : Value} {ox oy : Operand} {K : Value → H → Prop} {σ : H} (h : eqF P neg t x y K σ) :
    ∃ v, (∀ w, (do eqGuard (if neg then .neq else .eql) t ox oy x y; binOp (if neg then .neq else .eql) t x y : Sem Value).run P w = .ok v w) ∧ K v σ := by
  unfold eqF at h
  split at h
  · rename_i a b hu
    exact ⟨_, fun w => eq_run (by simp) (by simp) (by simp) (by simp) (by simp) (by simp) (eq_bool w 9999 _ _ hu), h⟩
  · rename_i p hu
    exact ⟨_, fun w => eq_run (by simp) (by simp) (by simp) (by simp) (by simp) (by simp) (eq_ptr w 9999 _ hu), h⟩
  · rename_i p _ _ _ _ hu
    exact ⟨_, fun w => eq_run (by simp) (by simp) (by simp) (by simp) (by simp) (by simp) (eq_slc w 9999 _ _ _ _ _ hu), h⟩
  · rename_i p hu
    exact ⟨_, fun w => eq_run (by simp) (by simp) (by simp) (by simp) (by simp) (by simp) (eq_map w 9999 _ hu), h⟩
  · rename_i fs xs ys hu
    split at h
    · rename_i b hb
      refine ⟨_, fun w => ?_, h⟩
      unfold eqAgg at hb
      simp only [hu] at hb
      split at hb
      · rename_i h1 h2
        have hf : P.fieldsOf t = fs := by simp [Program.fieldsOf, hu]
        have hq : (Op.equalIn 10000 t (.agg ⟨xs⟩) (.agg ⟨ys⟩)).run P w = .ok b w := by
          rw [run_equalIn_struct w 9999 t ⟨xs⟩ ⟨ys⟩ (by rw [hf]; exact hu) h1, hf]
          exact eqFs_sound (d := 9998) w fs.toList b hb
        cases neg
        · simp only [Bool.false_eq_true, if_false, Sem.run_bind, run_eqGuard_agg w .eql t ox oy ⟨xs⟩ ⟨ys⟩ h2, Result.andThen_ok, run_eql_struct, hq, negB]
        · simp only [if_true, Sem.run_bind, run_eqGuard_agg w .neq t ox oy ⟨xs⟩ ⟨ys⟩ h2, Result.andThen_ok, run_neq_struct, hq, negB]
      · cases hb
    · exact h.elim
  · exact h.elim
theorem bopF_sound {P : Program} {op : BinOp} {t : TypeId} {x y : Value} {ox oy : Operand} {K : Value → H → Prop} {σ : H} (h : bopF P op t x y K σ) :
    ∃ v, (∀ w, (do eqGuard op t ox oy x y; binOp op t x y : Sem Value).run P w = .ok v w) ∧ K v σ := by
  unfold bopF at h
  split at h
  · rename_i k a k' b
    split at h
    · obtain ⟨v, hv, hk⟩ := shF_sound (P := P) (t := t) (k' := k') h
      exact ⟨v, fun w => by simp [run_eqGuard_no, hv w], hk⟩
    · obtain ⟨v, hv, hk⟩ := shF_sound (P := P) (t := t) (k' := k') h
      exact ⟨v, fun w => by simp [run_eqGuard_no, hv w], hk⟩
    · rename_i h1 h2
      split at h
      · rename_i hk
        have := sameK_eq hk; subst this
        obtain ⟨v, hv, hk⟩ := intF_sound (P := P) (t := t) h (fun e => h1 e) (fun e => h2 e)
        exact ⟨v, fun w => by simp [run_eqGuard_no, hv w], hk⟩
      · exact h.elim
  · obtain ⟨v, hv, hk⟩ := strF_sound (P := P) (t := t) h
    exact ⟨v, fun w => by simp [run_eqGuard_no, hv w], hk⟩
  · split at h
    · exact eqF_sound (neg := false) (ox := ox) (oy := oy) h
    · exact eqF_sound (neg := true) (ox := ox) (oy := oy) h
    · exact h.elim
end Go.HL

namespace Go.HL
open Go

def idxW (s : ByteArray) (i : Int) (g : UInt8 → H → Prop) (σ : H) : Prop :=
  match (if 0 ≤ i then s[i.toNat]? else none) with
  | some b => g b σ
  | none => False
def bndOk (x : Option Int) (m : Nat) : Prop :=
  match x with
  | some x => 0 ≤ x ∧ x ≤ m
  | none => True
def bndAt (x : Option Int) (d : Nat) : Nat :=
  match x with
  | some x => x.toNat
  | none => d
def slBase (a : Option Addr) (l m n : Nat) : Option Addr := if m = l then a else a.map (·.add (l * n))

/-- an optional bound -/
def evB (e : Env) : Option Operand → Option (Option Int)
  | none => some none
  | some x => match evO e x with
    | some (.int _ n) => some (some n)
    | _ => none

def idxAddrF (P : Program) (t : TypeId) (x : Value) (i : Int) (K : Value → H → Prop) (σ : H) : Prop :=
  match P.underlying t, x with
  | some (.slice el), .slice base len _ => match sizeT P el with
    | some n => ptrW base (fun b o => ifW (0 ≤ i ∧ i < len) (K (.pointer (some ⟨b, o + i.toNat * n, none⟩)))) σ
    | none => False
  | some (.array len el), .pointer base => match sizeT P el with
    | some n => ptrW base (fun b o => ifW (0 ≤ i ∧ i < len) (K (.pointer (some ⟨b, o + i.toNat * n, none⟩)))) σ
    | none => False
  | _, _ => False
def slF (P : Program) (t : TypeId) (x : Value) (lo hi mx : Option Int) (K : Value → H → Prop) (σ : H) : Prop :=
  match P.underlying t, x, mx with
  | some .string, .string s, none => ifW (bndOk hi s.size ∧ bndOk lo (bndAt hi s.size)) (K (.string (s.extract (bndAt lo 0) (bndAt hi s.size)))) σ
  | some (.slice el), .slice a len cap, none => match sizeT P el with
    | some n => ifW (bndOk hi cap ∧ bndOk lo (bndAt hi len)) (K (.slice (slBase a (bndAt lo 0) cap n) (bndAt hi len - bndAt lo 0) (cap - bndAt lo 0))) σ
    | none => False
  | some (.slice el), .slice a _ cap, some m => match sizeT P el, hi with
    | some n, some h => ifW (bndOk (some m) cap ∧ bndOk (some h) m.toNat ∧ bndOk lo h.toNat) (K (.slice (slBase a (bndAt lo 0) m.toNat n) (h.toNat - bndAt lo 0) (m.toNat - bndAt lo 0))) σ
    | _, _ => False
  | some (.array N el), .pointer base, none => match sizeT P el with
    | some n => ptrW base (fun b o => ifW (bndOk hi N ∧ bndOk lo (bndAt hi N)) (K (.slice (slBase (some ⟨b, o, none⟩) (bndAt lo 0) N n) (bndAt hi N - bndAt lo 0) (N - bndAt lo 0)))) σ
    | none => False
  | _, _, _ => False
def lenF (P : Program) (t : TypeId) (x : Value) : Option Value :=
  match P.underlying t, x with
  | some .string, .string s => some (.int .i64 s.size)
  | some (.slice _), .slice _ n _ => some (.int .i64 n)
  | some (.array n _), _ => some (.int .i64 n)
  | some (.pointer arr), _ => match P.underlying arr with
    | some (.array n _) => some (.int .i64 n)
    | _ => none
  | _, _ => none
def builtF (P : Program) (b : Builtin) (ts : Array TypeId) (vs : List Value) : Option Value :=
  match b, vs with
  | .len, [x] => match ts.toList with
    | t :: _ => lenF P t x
    | [] => none
  | .cap, [.slice _ _ c] => match ts.toList with
    | t :: _ => match P.underlying t with
      | some (.slice _) => some (.int .i64 c)
      | _ => none
    | [] => none
  | .min, [.int k x, .int _ y] => some (.int k (if y < x then y else x))
  | .max, [.int k x, .int _ y] => some (.int k (if y > x then y else x))
  | _, _ => none
def convF (P : Program) (s d : TypeId) (x : Value) : Option Value :=
  match P.underlying s, P.underlying d, x with
  | some _, some (.int k), .int _ n => some (.int k (k.wrap n))
  | some _, some .string, .string b => some (.string b)
  | _, _, _ => none
def unF (op : UnOp) (x : Value) : Option Value :=
  match op, x with
  | .not, .bool b => some (.bool !b)
  | .neg, .int k n => some (.int k (k.wrap (0 - n)))
  | .xor, .int k n => some (.int k (bitV .xor k (if k.signed then -1 else k.max) n))
  | _, _ => none
def concT (P : Program) (t : TypeId) : Bool :=
  match P.underlying t with
  | some (.interface _) => false
  | some _ => true
  | none => false
def evP (e : Env) : List (Nat × Operand) → Option (List (Nat × Value))
  | [] => some []
  | (i, x) :: r => match evO e x with
    | some v => match evP e r with
      | some vs => some ((i, v) :: vs)
      | none => none
    | none => none
def arrL (a : Array Value) : List Value := match a with | ⟨l⟩ => l

/-- a value of one cell -/
def oneK (v : Value) (g : H → Prop) (σ : H) : Prop :=
  match v with
  | .agg _ => False
  | .tuple _ => False
  | _ => g σ
/-- parts of an aggregate, each as its cells -/
def wrapP (P : Program) (ty : Nat → Option TypeId) : List (Nat × Value) → (List (Nat × Value) → H → Prop) → H → Prop
  | [], k, σ => k [] σ
  | (i, v) :: r, k, σ => match ty i with
    | none => False
    | some t => match isAggT P t with
      | some true => wrapP P ty r (fun us => k ((i, v) :: us)) σ
      | some false => oneK v (wrapP P ty r (fun us => k ((i, .agg ⟨[v]⟩) :: us))) σ
      | none => False
def partTy (P : Program) (t : TypeId) (i : Nat) : Option TypeId :=
  match P.underlying t with
  | some (.struct fs) => match fs.toList[i]? with
    | some f => some f.type
    | none => none
  | some (.array _ e) => some e
  | some (.slice e) => some e
  | _ => none
/-- what is looked at must not be nil -/
def nilF (v : Value) (K : Value → H → Prop) (σ : H) : Prop :=
  match v with
  | .pointer p => ptrW p (fun b o => K (.pointer (some ⟨b, o, none⟩))) σ
  | .func (.func f) a c => K (.func (.func f) a c) σ
  | .func (.yield f) a c => K (.func (.yield f) a c) σ
  | _ => False

def silF (P : Program) (e : Env) (K : Value → H → Prop) (o : Op) (σ : H) : Prop :=
  match o with
  | .move x => oW (evO e x) K σ
  | .assign x => oW (evO e x) K σ
  | .pick c a b => match evO e c with
    | some (.bool t) => brW t (oW (evO e a) K) (oW (evO e b) K) σ
    | _ => False
  | .nilCheck x => match evO e x with
    | some v => nilF v K σ
    | none => False
  | .fieldAddr s x f => match evO e x, fOff P s f with
    | some (.pointer p), some n => ptrW p (fun b o => K (.pointer (some ⟨b, o + n, none⟩))) σ
    | _, _ => False
  | .field s x f => match evO e x with
    | some (.agg ⟨l⟩) => oW (fieldV P s l f) K σ
    | _ => False
  | .extract x i => match evO e x with
    | some (.tuple ⟨l⟩) => oW l[i]? K σ
    | _ => False
  | .binOp op t x y _ => match evO e x, evO e y with
    | some u, some v => bopF P op t u v K σ
    | _, _ => False
  | .unOp op _ x => match evO e x with
    | some u => oW (unF op u) K σ
    | _ => False
  | .convert s d x => match evO e x with
    | some u => oW (convF P s d u) K σ
    | _ => False
  | .makeInterface t x => match evO e x, concT P t with
    | some u, true => K (.iface t u) σ
    | _, _ => False
  | .makeFunc fn ⟨xs⟩ ⟨ys⟩ => match evL e xs, evL e ys with
    | some us, some vs => K (.func fn ⟨us⟩ ⟨vs⟩) σ
    | _, _ => False
  | .build t ⟨ps⟩ => match evP e ps with
    | some us => wrapP P (partTy P t) us (fun us σ => match P.built t us with
      | some cs => K (.agg ⟨arrL cs⟩) σ
      | none => False) σ
    | none => False
  | .index t x i => match evO e x, evO e i, P.underlying t with
    | some (.string s), some (.int _ i), some .string => idxW s i (fun b => K (.int .u8 b.toNat)) σ
    | _, _, _ => False
  | .indexAddr t x i => match evO e x, evO e i with
    | some u, some (.int _ i) => idxAddrF P t u i K σ
    | _, _ => False
  | .slice t x lo hi mx => match evO e x, evB e lo, evB e hi, evB e mx with
    | some u, some lo, some hi, some mx => slF P t u lo hi mx K σ
    | _, _, _, _ => False
  | .call { callee := .builtin b, args := ⟨xs⟩, argTypes := ts } => match evL e xs with
    | some vs => oW (builtF P b ts vs) K σ
    | none => False
  | _ => False

section
variable {P : Program}
theorem arrL_eq (a : Array Value) : (⟨arrL a⟩ : Array Value) = a := by cases a; rfl
theorem ptrW_get {p : Option Addr} {g : Nat → Nat → H → Prop} {σ : H} (h : ptrW p g σ) : ∃ b o, p = some ⟨b, o, none⟩ ∧ g b o σ := by
  unfold ptrW at h
  split at h
  · exact ⟨_, _, rfl, h⟩
  · exact h.elim
theorem oW_get {v : Option Value} {K : Value → H → Prop} {σ : H} (h : oW v K σ) : ∃ u, v = some u ∧ K u σ := by
  unfold oW at h
  split at h
  · exact ⟨_, rfl, h⟩
  · exact h.elim
theorem run_fieldAt {s : TypeId} {f n b o : Nat} (h : fOff P s f = some n) (w : World) : (Instr.fieldAt s (.pointer (some ⟨b, o, none⟩)) f).run P w = .ok (.pointer (some ⟨b, o + n, none⟩)) w := by
  unfold fOff at h
  split at h
  · rename_i fs hu
    split at h
    · rename_i fd hfd
      split at h
      · rename_i i hi
        split at h
        · cases h
        · rename_i m hm
          cases h
          have hs : sizeT P fd.type = some (m + 1) := by simp [sizeT, hi, hm]
          have hfd' : fs[f]? = some fd := by simpa using hfd
          simp [Instr.fieldAt, run_underlying hu, hfd', Instr.sureAddr, fieldPlace, run_sizeOf hs, add_none]
      · cases h
    · cases h
  · cases h
theorem run_field {s : TypeId} {l : List Value} {f : Nat} {v : Value} (h : fieldV P s l f = some v) (w : World) : (Instr.field s (.agg ⟨l⟩) f).run P w = .ok v w := by
  unfold fieldV at h
  split at h
  · rename_i fs hu
    split at h
    · rename_i fd hfd
      have hfd' : fs[f]? = some fd := by simpa using hfd
      simp [Instr.field, run_underlying hu, hfd', asAgg, run_part h]
    · cases h
  · cases h
theorem evB_val {N : Nat} {e : Env} {a : Act} (fr : FR N e a) {x : Option Operand} {b : Option Int} (h : evB e x = some b) :
    (x.map a.eval = none ∧ b = none) ∨ ∃ k n, x.map a.eval = some (.int k n) ∧ b = some n := by
  cases x with
  | none => simp [evB] at h; exact .inl ⟨rfl, h.symm⟩
  | some x =>
    simp only [evB] at h
    split at h
    · rename_i k n hn; cases h; exact .inr ⟨k, n, by simp [fr.evO hn], rfl⟩
    · cases h
theorem evP_val {N : Nat} {e : Env} {a : Act} (fr : FR N e a) : ∀ {ps : List (Nat × Operand)} {us : List (Nat × Value)}, evP e ps = some us → ps.map (fun (i, x) => (i, a.eval x)) = us := by
  intro ps
  induction ps with
  | nil => intro us h; simp [evP] at h; simp [h]
  | cons p ps ih =>
    intro us h
    obtain ⟨i, x⟩ := p
    simp only [evP] at h
    split at h
    · rename_i v hv
      split at h
      · rename_i vs hvs; cases h; simp [fr.evO hv, ih hvs]
      · cases h
    · cases h

theorem idxAddrF_sound {t : TypeId} {x : Value} {k : IntKind} {i : Int} {K : Value → H → Prop} {σ : H} (h : idxAddrF P t x i K σ) :
    ∃ v, (∀ w, (Instr.indexAt t x (.int k i)).run P w = .ok v w) ∧ K v σ := by
  unfold idxAddrF at h
  split at h
  · rename_i el base len _ hu
    split at h
    · rename_i n hn
      obtain ⟨b, o, rfl, hc, h⟩ := ptrW_get h
      refine ⟨_, fun w => ?_, h⟩
      simp [Instr.indexAt, asIntOf, run_underlying hu, hc, run_sizeOf hn, add_none]
    · exact h.elim
  · rename_i len el base hu
    split at h
    · rename_i n hn
      obtain ⟨b, o, rfl, hc, h⟩ := ptrW_get h
      refine ⟨_, fun w => ?_, h⟩
      simp [Instr.indexAt, asIntOf, Instr.sureAddr, run_underlying hu, hc, run_sizeOf hn, add_none]
    · exact h.elim
  · exact h.elim

/-- the bounds of a slice expression, as the model reads them -/
theorem run_bounds2 {isSl : Bool} {len cap : Nat} {lo hi : Option Value} {l h : Option Int} (hl : (lo = none ∧ l = none) ∨ ∃ k n, lo = some (.int k n) ∧ l = some n) (hh : (hi = none ∧ h = none) ∨ ∃ k n, hi = some (.int k n) ∧ h = some n)
    (b1 : bndOk h cap) (b2 : bndOk l (bndAt h len)) (w : World) : (Instr.sliceBounds isSl len cap lo hi none).run P w = .ok (bndAt l 0, bndAt h len, cap) w := by
  rcases hh with ⟨rfl, rfl⟩ | ⟨k, n, rfl, rfl⟩ <;> rcases hl with ⟨rfl, rfl⟩ | ⟨k', n', rfl, rfl⟩ <;> simp only [bndOk, bndAt] at b1 b2 ⊢ <;>
    simp only [Instr.sliceBounds, Instr.sliceBound, asIntOf, Sem.run_bind, Sem.run_pure, Result.andThen_ok, Sem.run_ite, b1, b2, and_self, if_true]
theorem run_bounds3 {len cap : Nat} {lo hi mx : Option Value} {l : Option Int} {h m : Int} {k1 k2 : IntKind} (hl : (lo = none ∧ l = none) ∨ ∃ k n, lo = some (.int k n) ∧ l = some n) (hh : hi = some (.int k1 h)) (hm : mx = some (.int k2 m))
    (b0 : bndOk (some m) cap) (b1 : bndOk (some h) m.toNat) (b2 : bndOk l h.toNat) (w : World) : (Instr.sliceBounds true len cap lo hi mx).run P w = .ok (bndAt l 0, h.toNat, m.toNat) w := by
  subst hh hm
  have b1' : 0 ≤ h ∧ h ≤ (m.toNat : Int) := b1
  rcases hl with ⟨rfl, rfl⟩ | ⟨k', n', rfl, rfl⟩ <;> simp only [bndOk, bndAt] at b0 b2 ⊢
  · simp only [Instr.sliceBounds, Instr.sliceBound, asIntOf, Sem.run_bind, Sem.run_pure, Result.andThen_ok, Sem.run_ite, b0, b1', and_self, if_true]
  · simp only [Instr.sliceBounds, Instr.sliceBound, asIntOf, Sem.run_bind, Sem.run_pure, Result.andThen_ok, Sem.run_ite, b0, b1', b2, and_self, if_true]

theorem slF_sound {t : TypeId} {x : Value} {lo hi mx : Option Value} {l h m : Option Int} {K : Value → H → Prop} {σ : H} (hl : (lo = none ∧ l = none) ∨ ∃ k n, lo = some (.int k n) ∧ l = some n) (hh : (hi = none ∧ h = none) ∨ ∃ k n, hi = some (.int k n) ∧ h = some n)
    (hm : (mx = none ∧ m = none) ∨ ∃ k n, mx = some (.int k n) ∧ m = some n) (hf : slF P t x l h m K σ) : ∃ v, (∀ w, (Instr.sliceAt t x lo hi mx).run P w = .ok v w) ∧ K v σ := by
  unfold slF at hf
  split at hf
  · rename_i s hu
    obtain ⟨rfl, _⟩ : mx = none ∧ _ := by rcases hm with h | ⟨_, _, _, h⟩; exact h; cases h
    obtain ⟨⟨b1, b2⟩, hf⟩ := hf
    refine ⟨_, fun w => ?_, hf⟩
    simp [Instr.sliceAt, Instr.slice, run_underlying hu, run_bounds2 hl hh b1 b2]
  · rename_i el a len cap hu
    obtain ⟨rfl, _⟩ : mx = none ∧ _ := by rcases hm with h | ⟨_, _, _, h⟩; exact h; cases h
    split at hf
    · rename_i n hn
      obtain ⟨⟨b1, b2⟩, hf⟩ := hf
      refine ⟨_, fun w => ?_, hf⟩
      simp [Instr.sliceAt, Instr.slice, run_underlying hu, run_bounds2 hl hh b1 b2, run_sizeOf hn, slBase]
    · exact hf.elim
  · rename_i el a len cap m hu
    split at hf
    · rename_i n hh' hn
      obtain ⟨⟨b0, b1, b2⟩, hf⟩ := hf
      obtain ⟨k2, m', rfl, e⟩ : ∃ k n, mx = some (.int k n) ∧ some m = some n := by rcases hm with ⟨_, h⟩ | h; cases h; exact h
      cases e
      obtain ⟨k1, h1, rfl, e⟩ : ∃ k n, hi = some (.int k n) ∧ some hh' = some n := by rcases hh with ⟨_, h⟩ | h; cases h; exact h
      cases e
      refine ⟨_, fun w => ?_, hf⟩
      simp [Instr.sliceAt, Instr.slice, run_underlying hu, run_bounds3 hl rfl rfl b0 b1 b2, run_sizeOf hn, slBase]
    · exact hf.elim
  · rename_i N el base hu
    obtain ⟨rfl, _⟩ : mx = none ∧ _ := by rcases hm with h | ⟨_, _, _, h⟩; exact h; cases h
    split at hf
    · rename_i n hn
      obtain ⟨b, o, rfl, ⟨b1, b2⟩, hf⟩ := ptrW_get hf
      refine ⟨_, fun w => ?_, hf⟩
      simp [Instr.sliceAt, Instr.sureAddr, run_underlying hu, run_bounds2 hl hh b1 b2, run_sizeOf hn, slBase]
      split <;> rfl
    · exact hf.elim
  · exact hf.elim

theorem builtF_sound {b : Builtin} {ts : Array TypeId} {vs : List Value} {v : Value} {ty : TypeId} {cs : Array Bool} (h : builtF P b ts vs = some v) (w : World) : (builtin b ts ty cs ⟨vs⟩).run P w = .ok (.value v) w := by
  unfold builtF at h
  split at h
  · rename_i x
    split at h
    · rename_i t ts' hts
      have ht : ts[0]? = some t := by
        have : ts.toList[0]? = some t := by rw [hts]; rfl
        simpa using this
      unfold lenF at h
      split at h
      · rename_i hu; cases h; simp [builtin, Builtin.len_, ht, run_underlying hu, goInt]
      · rename_i hu; cases h; simp [builtin, Builtin.len_, ht, run_underlying hu, goInt]
      · rename_i hu; cases h; simp [builtin, Builtin.len_, ht, run_underlying hu, goInt]
      · rename_i arr hu
        split at h
        · rename_i hu'; cases h; simp [builtin, Builtin.len_, ht, run_underlying hu, run_underlying hu', goInt]
        · cases h
      · cases h
    · cases h
  · split at h
    · rename_i t ts' hts
      have ht : ts[0]? = some t := by
        have : ts.toList[0]? = some t := by rw [hts]; rfl
        simpa using this
      split at h
      · rename_i hu; cases h; simp [builtin, Builtin.cap_, ht, run_underlying hu, goInt]
      · cases h
    · cases h
  · cases h; simp [builtin, Builtin.min_, Builtin.min2]
  · cases h; simp [builtin, Builtin.max_, Builtin.max2]
  · cases h

theorem sil_of {o : Oper} {a : Act} {s : Sem Value} {v : Value} (he : execOp a.eval o = (do pure (.value (← s)))) (h : ∀ w, s.run P w = .ok v w) : Sil P (execOp a.eval o) v := by
  intro w; rw [he]; simp [h w]

theorem oneK_get {v : Value} {g : H → Prop} {σ : H} (h : oneK v g σ) : v.cells = #[v] ∧ v.oneCell' = true ∧ g σ := by
  unfold oneK at h
  split at h
  · exact h.elim
  · exact h.elim
  · rename_i h1 h2
    cases v <;> first | exact absurd rfl (h1 _) | exact absurd rfl (h2 _) | exact ⟨rfl, rfl, h⟩
theorem wrapP_get {ty : Nat → Option TypeId} : ∀ {us : List (Nat × Value)} {k : List (Nat × Value) → H → Prop} {σ : H}, wrapP P ty us k σ → ∃ us', us'.map (fun x => (x.1, x.2.cells)) = us.map (fun x => (x.1, x.2.cells)) ∧ k us' σ := by
  intro us
  induction us with
  | nil => intro k σ h; exact ⟨[], rfl, h⟩
  | cons x us ih =>
    obtain ⟨i, v⟩ := x
    intro k σ h
    simp only [wrapP] at h
    split at h
    · exact h.elim
    · split at h
      · obtain ⟨us', h1, h2⟩ := ih h
        exact ⟨_, by simp [h1], h2⟩
      · obtain ⟨hv, _, h⟩ := oneK_get h
        obtain ⟨us', h1, h2⟩ := ih h
        refine ⟨_, ?_, h2⟩
        rw [List.map_cons, List.map_cons, h1, hv]; rfl
      · exact h.elim
theorem fill_congr {place : Nat → Option (Nat × Nat)} : ∀ (us us' : List (Nat × Value)) (cells : Array Value), us'.map (fun x => (x.1, x.2.cells)) = us.map (fun x => (x.1, x.2.cells)) → Instr.fill place cells us' = Instr.fill place cells us := by
  intro us
  induction us with
  | nil => intro us' cells h; simp at h; subst h; rfl
  | cons x us ih =>
    obtain ⟨i, v⟩ := x
    intro us' cells h
    cases us' with
    | nil => simp at h
    | cons y us' =>
      obtain ⟨j, u⟩ := y
      simp only [List.map_cons, List.cons.injEq, Prod.mk.injEq] at h
      obtain ⟨⟨rfl, hc⟩, h⟩ := h
      simp only [Instr.fill, hc]
      split
      · rfl
      · split
        · rfl
        · exact ih us' _ h
theorem built_congr {t : TypeId} {us us' : List (Nat × Value)} (h : us'.map (fun x => (x.1, x.2.cells)) = us.map (fun x => (x.1, x.2.cells))) : P.built t us' = P.built t us := by
  unfold Program.built
  split
  · split
    · exact fill_congr _ _ _ h
    · rfl
  · split
    · exact fill_congr _ _ _ h
    · rfl
  · rfl

theorem silF_sound {N : Nat} {e : Env} {a : Act} (fr : FR N e a) {o : Oper} {K : Value → H → Prop} {σ : H} (h : silF P e K o.op σ) : ∃ v, Sil P (execOp a.eval o) v ∧ K v σ := by
  obtain ⟨dst, op, type, pos, after, guard⟩ := o
  simp only at h
  unfold silF at h
  split at h
  · obtain ⟨u, hu, h⟩ := oW_get h
    exact ⟨u, fun w => by simp [execOp, fr.evO hu], h⟩
  · obtain ⟨u, hu, h⟩ := oW_get h
    exact ⟨u, fun w => by simp [execOp, fr.evO hu], h⟩
  · split at h
    · rename_i c x y _ t ht
      cases t with
      | true =>
        obtain ⟨u, hu, h⟩ := oW_get h
        exact ⟨u, fun w => by simp [execOp, fr.evO ht, fr.evO hu, asBool], h⟩
      | false =>
        obtain ⟨u, hu, h⟩ := oW_get h
        exact ⟨u, fun w => by simp [execOp, fr.evO ht, fr.evO hu, asBool], h⟩
    · exact h.elim
  · split at h
    · rename_i v hv
      unfold nilF at h
      split at h
      · obtain ⟨b, o, rfl, h⟩ := ptrW_get h
        exact ⟨_, fun w => by simp [execOp, fr.evO hv], h⟩
      · exact ⟨_, fun w => by simp [execOp, fr.evO hv], h⟩
      · exact ⟨_, fun w => by simp [execOp, fr.evO hv], h⟩
      · exact h.elim
    · exact h.elim
  · split at h
    · rename_i p n hp hn
      obtain ⟨b, o, rfl, h⟩ := ptrW_get h
      exact ⟨_, fun w => by simp [execOp, fr.evO hp, run_fieldAt hn], h⟩
    · exact h.elim
  · split at h
    · rename_i l hl
      obtain ⟨u, hu, h⟩ := oW_get h
      exact ⟨u, fun w => by simp [execOp, fr.evO hl, run_field hu], h⟩
    · exact h.elim
  · split at h
    · rename_i l hl
      obtain ⟨u, hu, h⟩ := oW_get h
      exact ⟨u, fun w => by simp [execOp, fr.evO hl, Instr.extract, hu], h⟩
    · exact h.elim
  · split at h
    · rename_i op' t x y _ _ _ u v hx hy
      obtain ⟨r, hr, h⟩ := bopF_sound (ox := x) (oy := y) h
      exact ⟨r, sil_of (s := do eqGuard op' t x y u v; binOp op' t u v) (by simp [execOp, fr.evO hx, fr.evO hy]) hr, h⟩
    · exact h.elim
  · split at h
    · rename_i u hu
      obtain ⟨r, hr, h⟩ := oW_get h
      refine ⟨r, fun w => ?_, h⟩
      unfold unF at hr
      split at hr <;> cases hr <;> simp [execOp, fr.evO hu, Op.unary, Op.intArith, Op.intBits, bitV]
    · exact h.elim
  · split at h
    · rename_i u hu
      obtain ⟨r, hr, h⟩ := oW_get h
      refine ⟨r, fun w => ?_, h⟩
      unfold convF at hr
      split at hr
      · rename_i h1 h2; cases hr; simp [execOp, fr.evO hu, convert, run_underlying h1, run_underlying h2, Conv.intToInt]
      · rename_i h1 h2; cases hr; simp [execOp, fr.evO hu, convert, run_underlying h1, run_underlying h2]
      · cases hr
    · exact h.elim
  · split at h
    · rename_i t x _ _ u hu hc
      refine ⟨_, fun w => ?_, h⟩
      unfold concT at hc
      split at hc
      · cases hc
      · rename_i d hne hd
        have : (Instr.makeInterface t u).run P w = .ok (.iface t u) w := by
          simp only [Instr.makeInterface, Sem.run_bind, run_underlying hd, Result.andThen_ok]
          cases d <;> first | rfl | exact absurd rfl (hne _)
        simp [execOp, fr.evO hu, this]
      · cases hc
    · exact h.elim
  · split at h
    · rename_i xs ys _ us vs h1 h2
      refine ⟨_, fun w => ?_, h⟩
      simp [execOp, Instr.makeFunc, fr.evL h1, fr.evL h2]
    · exact h.elim
  · split at h
    · rename_i us h1
      obtain ⟨us', hus, h⟩ := wrapP_get h
      split at h
      · rename_i cs h2
        refine ⟨_, fun w => ?_, h⟩
        rw [arrL_eq]
        have h3 := evP_val fr h1
        rw [built_congr hus] at h2
        have := run_build w _ ⟨us⟩ cs h2
        simp only [execOp, Sem.run_bind]
        rw [show (Array.map (fun (x : Nat × Operand) => (x.1, a.eval x.2)) ⟨_⟩ : Array (Nat × Value)) = ⟨us⟩ from by apply Array.ext'; simpa using h3, this]
        rfl
      · exact h.elim
    · exact h.elim
  · split at h
    · rename_i s k i hx hi hu
      unfold idxW at h
      split at h
      · rename_i b hb
        refine ⟨_, fun w => ?_, h⟩
        simp [execOp, fr.evO hx, fr.evO hi, Instr.index, asIntOf, run_underlying hu, hb]
      · exact h.elim
    · exact h.elim
  · split at h
    · rename_i u k i hx hi
      obtain ⟨v, hv, h⟩ := idxAddrF_sound (k := k) h
      exact ⟨v, fun w => by simp [execOp, fr.evO hx, fr.evO hi, hv w], h⟩
    · exact h.elim
  · split at h
    · rename_i u lo hi mx hx hlo hhi hmx
      obtain ⟨v, hv, h⟩ := slF_sound (evB_val fr hlo) (evB_val fr hhi) (evB_val fr hmx) h
      exact ⟨v, fun w => by simp [execOp, fr.evO hx, hv w], h⟩
    · exact h.elim
  · split at h
    · rename_i vs hvs
      obtain ⟨r, hr, h⟩ := oW_get h
      refine ⟨r, fun w => ?_, h⟩
      simp only [execOp, Sem.run_bind, resolve, Sem.run_pure, Result.andThen_ok, invoke]
      rw [show (Array.map a.eval ⟨_⟩ : Array Value) = ⟨vs⟩ from by apply Array.ext'; simpa using fr.evL hvs]
      exact builtF_sound hr w
    · exact h.elim
  · exact h.elim
end
end Go.HL

namespace Go.HL
open Go

/-! ### Readers -/
def rdC (b o : Nat) (σ : H) : Option Value :=
  match σ b with
  | some (.cells ⟨c⟩ _ _) => c[o]?
  | _ => none
def rdA (n b o : Nat) (σ : H) : Option Value :=
  match σ b with
  | some (.cells ⟨c⟩ _ _) => if o + n ≤ c.length then some (.agg ⟨(c.drop o).take n⟩) else none
  | _ => none
def okV (ok : Bool) (v : Value) (b : Bool) : Value :=
  match ok with
  | true => .tuple ⟨[v, .bool b]⟩
  | false => v
def rdM (d : TypeDesc) (z : Value) (ok : Bool) (m : Option Nat) (k : Value) (σ : H) : Option Value :=
  match m with
  | none => some (okV ok z false)
  | some r => match σ r with
    | some (.map es _) => match Instr.findNow d k es.toList 0 with
      | some (some (_, v)) => some (okV ok v true)
      | some none => some (okV ok z false)
      | none => none
    | _ => none
def rdLen (m : Option Nat) (σ : H) : Option Value :=
  match m with
  | none => some (.int .i64 0)
  | some r => match σ r with
    | some (.map es _) => some (.int .i64 es.size)
    | _ => none
def scalD : TypeDesc → Bool
  | .int _ => true
  | .string => true
  | .bool => true
  | _ => false

/-- an element of an array that is at hand -/
def rdX (len : Nat) (l : List Value) (i : Int) (_ : H) : Option Value := if 0 ≤ i ∧ i < len then l[i.toNat]? else none
def rdOp (P : Program) (e : Env) (K : (H → Option Value) → H → Prop) (o : Op) (σ : H) : Prop :=
  match o with
  | .load t x => match evO e x, isAggT P t, sizeT P t with
    | some (.pointer p), some false, _ => ptrW p (fun b o => K (rdC b o)) σ
    | some (.pointer p), some true, some n => ptrW p (fun b o => K (rdA n b o)) σ
    | _, _, _ => False
  | .lookup t x i ok => match evO e x, evO e i, P.underlying t with
    | some (.map m), some k, some (.map kt et) => match P.underlying kt, zeroT P et with
      | some d, some z => match scalD d with
        | true => K (rdM d z ok m k) σ
        | false => False
      | _, _ => False
    | _, _, _ => False
  | .call { callee := .builtin .len, args := ⟨[x]⟩, argTypes := ⟨t :: _⟩ } => match evO e x, P.underlying t with
    | some (.map m), some (.map _ _) => K (rdLen m) σ
    | _, _ => False
  | .index t x i => match evO e x, evO e i, P.underlying t with
    | some (.agg ⟨l⟩), some (.int _ i), some (.array len el) => match isAggT P el, sizeT P el with
      | some false, some 1 => K (rdX len l i) σ
      | _, _ => False
    | _, _, _ => False
  | _ => False

section
variable {P : Program}
theorem le_cells {σ : H} {w : World} (h : σ.le w) {b : Nat} {c : List Value} {t : TypeId} {fz : Nat × Nat} (hb : σ b = some (.cells ⟨c⟩ t fz)) (o : Nat) : w.cell? ⟨b, o, none⟩ = c[o]? := by
  simp [World.cell?, h b _ hb]
theorem run_sureAddr (a : Addr) (w : World) : (Instr.sureAddr (.pointer (some a))).run P w = .ok a w := rfl
theorem rdC_sound {t : TypeId} (ha : isAggT P t = some false) {b o : Nat} {σ : H} {v : Value} (hr : rdC b o σ = some v) {w : World} (hw : σ.le w) :
    (Instr.loadAt t (.pointer (some ⟨b, o, none⟩))).run P w = .ok v w := by
  unfold rdC at hr
  split at hr
  · rename_i c t' fz hb
    simp only [Instr.loadAt, Sem.run_bind, run_sureAddr, Result.andThen_ok, loadVar, run_isAgg ha, Bool.false_eq_true, if_false, run_load, le_cells hw hb, hr]
  · cases hr
theorem rdA_sound {t : TypeId} (ha : isAggT P t = some true) {n b o : Nat} (hn : sizeT P t = some n) {σ : H} {v : Value} (hr : rdA n b o σ = some v) {w : World} (hw : σ.le w) :
    (Instr.loadAt t (.pointer (some ⟨b, o, none⟩))).run P w = .ok v w := by
  unfold rdA at hr
  split at hr
  · rename_i c t' fz hb
    split at hr
    · rename_i hle
      cases hr
      have hl : (loadCells ⟨b, o, none⟩ n).run P w = .ok ⟨(c.drop o).take n⟩ w := by
        have := run_loadCells_list (P := P) (w := w) ⟨b, o, none⟩ ((c.drop o).take n) (fun j v hj => by
          rw [add_none, le_cells hw hb]
          rw [List.getElem?_take] at hj
          split at hj
          · rw [List.getElem?_drop] at hj; exact hj
          · cases hj)
        rw [show ((c.drop o).take n).length = n from by simp; omega] at this
        exact this
      simp only [Instr.loadAt, Sem.run_bind, run_sureAddr, Result.andThen_ok, loadVar, run_isAgg ha, if_true, run_sizeOf hn, hl, Sem.run_pure]
    · cases hr
  · cases hr
theorem run_checkKey {b : Bool} {n : Nat} {t : TypeId} {d : TypeDesc} {v : Value} (hu : P.underlying t = some d) (hd : scalD d = true) (w : World) : (Instr.checkKey b (n + 1) t v).run P w = .ok () w := by
  cases d <;> first | (cases hd; done) | simp [Instr.checkKey, run_underlying hu]
theorem run_findKey {t : TypeId} {d : TypeDesc} {k : Value} {es : List MapEntry} {r : Option (Nat × Value)} (hu : P.underlying t = some d) (hr : Instr.findNow d k es 0 = some r) (w : World) :
    (Instr.findKey t k es).run P w = .ok r w := by
  simp [Instr.findKey, run_underlying hu, hr]
theorem rdM_sound {t kt et : TypeId} {d : TypeDesc} {z k : Value} {ok : Bool} {m : Option Nat} (ht : P.underlying t = some (.map kt et)) (hd : P.underlying kt = some d) (hs : scalD d = true) (hz : zeroT P et = some z) {σ : H} {v : Value}
    (hr : rdM d z ok m k σ = some v) {w : World} (hw : σ.le w) : (Instr.lookup t (.map m) k ok).run P w = .ok v w := by
  unfold rdM at hr
  split at hr
  · cases hr
    have h1 : Instr.findNow d k [] 0 = some none := rfl
    cases ok <;> simp [Instr.lookup, run_underlying ht, run_checkKey hd hs, run_findKey hd h1, run_zeroValue hz, okV]
  · rename_i r
    split at hr
    · rename_i es c hb
      have hg : (getObj r).run P w = .ok (.map es c) w := by simp [getObj, Sem.run, hw r _ hb]
      split at hr
      · rename_i i u hf
        cases hr
        cases ok <;> simp [Instr.lookup, run_underlying ht, hg, run_checkKey hd hs, run_findKey hd hf, okV]
      · rename_i hf
        cases hr
        cases ok <;> simp [Instr.lookup, run_underlying ht, hg, run_checkKey hd hs, run_findKey hd hf, run_zeroValue hz, okV]
      · cases hr
    · cases hr

theorem rdOp_sound {N : Nat} {e : Env} {a : Act} (fr : FR N e a) {o : Oper} {K : (H → Option Value) → H → Prop} {σ : H} (h : rdOp P e K o.op σ) :
    ∃ r, (∀ σ' v, r σ' = some v → RdS P (execOp a.eval o) σ' v) ∧ K r σ := by
  obtain ⟨dst, op, type, pos, after, guard⟩ := o
  simp only at h
  unfold rdOp at h
  split at h
  · split at h
    · rename_i p hp ha
      obtain ⟨b, o, rfl, h⟩ := ptrW_get h
      exact ⟨_, fun σ' v hr w hw => by simp [execOp, fr.evO hp, rdC_sound ha hr hw], h⟩
    · rename_i p n hp ha hn
      obtain ⟨b, o, rfl, h⟩ := ptrW_get h
      exact ⟨_, fun σ' v hr w hw => by simp [execOp, fr.evO hp, rdA_sound ha hn hr hw], h⟩
    · exact h.elim
  · split at h
    · rename_i m k kt et hm hk ht
      split at h
      · rename_i d z hd hz
        split at h
        · rename_i hs
          exact ⟨_, fun σ' v hr w hw => by simp [execOp, fr.evO hm, fr.evO hk, rdM_sound ht hd hs hz hr hw], h⟩
        · exact h.elim
      · exact h.elim
    · exact h.elim
  · split at h
    · rename_i m _ _ hm ht
      refine ⟨_, fun σ' v hr w hw => ?_, h⟩
      unfold rdLen at hr
      split at hr
      · cases hr
        simp [execOp, resolve, invoke, builtin, Builtin.len_, fr.evO hm, run_underlying ht, goInt]
      · rename_i r
        split at hr
        · rename_i es c hb
          cases hr
          have hg : (getObj r).run P w = .ok (.map es c) w := by simp [getObj, Sem.run, hw r _ hb]
          simp [execOp, resolve, invoke, builtin, Builtin.len_, fr.evO hm, run_underlying ht, hg, goInt]
        · cases hr
    · exact h.elim
  · split at h
    · rename_i l k i len el hl hi hu
      split at h
      · rename_i ha hs
        refine ⟨_, fun σ' v hr w hw => ?_, h⟩
        unfold rdX at hr
        split at hr
        · rename_i hb
          have hp : (part el ⟨l⟩ (i.toNat * 1)).run P w = .ok v w := run_part (by simp [partV, ha, hr]) w
          simp [execOp, fr.evO hl, fr.evO hi, Instr.index, asIntOf, run_underlying hu, hb, run_sizeOf hs]
          rw [Nat.mul_one] at hp
          simp [hp]
        · cases hr
      · exact h.elim
    · exact h.elim
  · exact h.elim
end

/-! ### Making a block -/
def ptrTo (b : Nat) : Value := .pointer (some ⟨b, 0, none⟩)
def rowTo (n b : Nat) : Value := .slice (some ⟨b, 0, none⟩) n n
def mapTo (b : Nat) : Value := .map (some b)
def rowCells (z : List Value) (n : Nat) : List Value := (List.replicate n z).flatten
def alF (P : Program) (e : Env) (K : Obj → (Nat → Value) → H → Prop) (o : Op) (σ : H) : Prop :=
  match o with
  | .alloc t => match zeroT P t with
    | some z => K (.cells ⟨arrL z.cells⟩ t (0, 0)) ptrTo σ
    | none => False
  | .box t x => match evO e x, isAggT P t with
    | some v, some false => oneK v (K (.cells ⟨[v]⟩ t (0, 0)) ptrTo) σ
    | some v, some true => K (.cells ⟨arrL v.cells⟩ t (0, 0)) ptrTo σ
    | _, _ => False
  | .buildSlice t n ⟨ps⟩ => match evP e ps, P.underlying t with
    | some us, some (.slice el) => match sizeT P el, zeroT P el with
      | some s, some z => wrapP P (partTy P t) us (fun us σ => match Nat.ble (n * s) 16777216, Nat.beq (arrL z.cells).length s, Instr.fill (fun i => some (i * s, s)) ⟨rowCells (arrL z.cells) n⟩ us with
        | true, true, some cs => K (.cells ⟨arrL cs⟩ el (0, 0)) (rowTo n) σ
        | _, _, _ => False) σ
      | _, _ => False
    | _, _ => False
  | .makeMap _ none => K (.map #[] 0) mapTo σ
  | _ => False
def alW (obj : Obj) (g : Nat → H → Prop) (σ : H) : Prop := ∀ b, σ b = none → g b (σ.put b obj)

section
variable {P : Program}
theorem rowCells_eq (z : List Value) (n : Nat) : (Array.range (n * z.length)).map (fun i => z.toArray[i % z.toArray.size]!) = ⟨rowCells z n⟩ := by
  apply Array.ext'
  simp only [Array.toList_map, Array.toList_range, List.size_toArray]
  induction n with
  | zero => simp [rowCells]
  | succ n ih =>
    have h1 : (n + 1) * z.length = z.length + n * z.length := by rw [Nat.add_mul, Nat.one_mul, Nat.add_comm]
    rw [h1, List.range_add, List.map_append]
    have h2 : rowCells z (n + 1) = z ++ rowCells z n := by simp [rowCells, List.replicate_succ]
    rw [h2]
    congr 1
    · apply List.ext_getElem
      · simp
      · intro i h1 h2
        simp at h1
        simp [Nat.mod_eq_of_lt h1, h1]
    · rw [List.map_map, ← ih]
      apply List.map_congr_left
      intro i _
      simp
theorem alF_sound {N : Nat} {e : Env} {a : Act} (fr : FR N e a) {o : Oper} {K : Obj → (Nat → Value) → H → Prop} {σ : H} (h : alF P e K o.op σ) :
    ∃ obj mk, IsAl P (execOp a.eval o) mk obj ∧ K obj mk σ := by
  obtain ⟨dst, op, type, pos, after, guard⟩ := o
  simp only at h
  unfold alF at h
  split at h
  · split at h
    · rename_i t _ z hz
      refine ⟨_, _, fun w => ?_, h⟩
      simp [execOp, Instr.alloc, run_zeroValue hz, newVar, newRow, arrL_eq, ptrTo, World.alloc_eq]
    · exact h.elim
  · split at h
    · rename_i v hv _
      obtain ⟨hc, _, h⟩ := oneK_get h
      refine ⟨_, _, fun w => ?_, h⟩
      simp [execOp, Instr.box, fr.evO hv, newVar, newRow, hc, ptrTo, World.alloc_eq]
    · rename_i v hv _
      refine ⟨_, _, fun w => ?_, h⟩
      simp [execOp, Instr.box, fr.evO hv, newVar, newRow, arrL_eq, ptrTo, World.alloc_eq]
    · exact h.elim
  · split at h
    · rename_i t n ps _ _ us el hus hu
      split at h
      · rename_i s z hs hz
        obtain ⟨us', hus', h⟩ := wrapP_get h
        split at h
        · rename_i cs hle hlen hfill
          rw [fill_congr _ _ _ hus'] at hfill
          refine ⟨_, _, fun w => ?_, h⟩
          have hle' : ¬ (n * s > 2 ^ 24) := by have := Nat.le_of_ble_eq_true hle; omega
          have hlen' : (arrL z.cells).length = s := Nat.eq_of_beq_eq_true hlen
          have h3 := evP_val fr hus
          have hparts : (Array.map (fun (x : Nat × Operand) => (x.1, a.eval x.2)) ⟨ps⟩ : Array (Nat × Value)) = ⟨us⟩ := by apply Array.ext'; simpa using h3
          have hrow : (Array.range (n * s)).map (fun i => z.cells[i % z.cells.size]!) = ⟨rowCells (arrL z.cells) n⟩ := by
            have := rowCells_eq (arrL z.cells) n
            rw [hlen'] at this
            rw [← this]
            congr 1
          have hfill' : Instr.fill (fun i => some (i * s, s)) (if n * s = 0 then (Array.range (n * s)).map (fun i => (#[] : Array Value)[i % (#[] : Array Value).size]!) else (Array.range (n * s)).map (fun i => z.cells[i % z.cells.size]!)) us = some cs := by
            split
            · rename_i h0
              have : rowCells (arrL z.cells) n = [] := by
                have := congrArg Array.size hrow
                simp [h0] at this
                exact List.length_eq_zero_iff.1 this.symm
              rw [this] at hfill
              rw [h0, show (Array.range 0).map (fun i => (#[] : Array Value)[i % (#[] : Array Value).size]!) = ⟨[]⟩ from by apply Array.ext'; simp]
              exact hfill
            · rw [hrow]; exact hfill
          have key : (Instr.buildSlice t n (Array.map (fun (x : Nat × Operand) => (x.1, a.eval x.2)) ⟨ps⟩)).run P w = .ok (rowTo n w.heap.size) (w.alloc (.cells ⟨arrL cs⟩ el (0, 0))) := by
            rw [hparts]
            simp only [Instr.buildSlice, Sem.run_bind, run_underlying hu, Result.andThen_ok, run_sizeOf hs, hle', if_false]
            by_cases h0 : n * s = 0
            · rw [if_pos h0] at hfill'
              simp only [h0, if_true]
              rw [h0] at hfill'
              simp only [hfill', Sem.run_bind, newRow, run_newObj, Result.andThen_ok, Sem.run_pure, arrL_eq, rowTo]
              rfl
            · rw [if_neg h0] at hfill'
              simp only [h0, if_false, Sem.run_bind, run_zeroValue hz, Sem.run_pure, Result.andThen_ok]
              simp only [hfill', Sem.run_bind, newRow, run_newObj, Result.andThen_ok, Sem.run_pure, arrL_eq, rowTo]
              rfl
          simp only [execOp, Sem.run_bind]
          rw [key]; rfl
        · exact h.elim
      · exact h.elim
    · exact h.elim
  · refine ⟨_, _, fun w => ?_, h⟩
    simp [execOp, Instr.makeMap, mapTo, World.alloc_eq]
  · exact h.elim
end
end Go.HL

namespace Go.HL
open Go

def callS (fv : Value) (vs : List Value) : Sem Next := do let d ← Deferred.ofValue fv ⟨vs⟩; invoke d.target d.args
def valS (s : Sem Value) : Sem Next := do pure (.value (← s))
def doS (s : Sem Unit) : Sem Next := do s; pure .skip
def constL : List Operand → List Bool
  | [] => []
  | .const _ :: r => true :: constL r
  | _ :: r => false :: constL r
def isGo (P : Program) (g : FuncId) : Bool :=
  match P.funcs[g]? with
  | some fn => fn.body.isSome && !(fn.name == "runtime.NumGoroutine")
  | none => false

/-- a call of a function value -/
def callVW (P : Program) (fv : Value) (vs : List Value) (G : Value → H → Prop) (σ : H) : Prop :=
  match fv with
  | .func (.func g) ⟨as0⟩ ⟨cs⟩ => match isGo P g with
    | true => callW P g (as0 ++ vs ++ cs) G σ
    | false => invW P (callS (.func (.func g) ⟨as0⟩ ⟨cs⟩) vs) G σ
  | fv => invW P (callS fv vs) G σ

def efF (P : Program) (e : Env) (G : Value → H → Prop) (o : Oper) (σ : H) : Prop :=
  match o.op with
  | .call { callee := .value f, args := ⟨xs⟩, argTypes := _ } => match evO e f, evL e xs with
    | some fv, some vs => callVW P fv vs G σ
    | _, _ => False
  | .call { callee := .builtin b, args := ⟨xs⟩, argTypes := ts } => match evL e xs with
    | some vs => invW P (builtin b ts o.type ⟨constL xs⟩ ⟨vs⟩) G σ
    | none => False
  | .call { callee := .invoke r m, args := ⟨xs⟩, argTypes := _ } => match evO e r, evL e xs with
    | some v, some vs => invW P (callMethod v m ⟨vs⟩) G σ
    | _, _ => False
  | .store t x y => match evO e x, evO e y with
    | some u, some v => invW P (doS (Instr.storeAt t u v)) G σ
    | _, _ => False
  | .mapUpdate t m k x => match evO e m, evO e k, evO e x with
    | some m, some k, some v => invW P (doS (Instr.mapUpdate t m k v)) G σ
    | _, _, _ => False
  | .insert t m k x => match evO e m, evO e k, evO e x with
    | some m, some k, some v => invW P (doS (Instr.mapUpdate t m k v)) G σ
    | _, _, _ => False
  | .convert s d x => match evO e x with
    | some v => invW P (valS (convert s d v)) G σ
    | none => False
  | .makeSlice t l c => match evO e l, evO e c with
    | some u, some v => invW P (valS (Instr.makeSlice t u v)) G σ
    | _, _ => False
  | .range t x => match evO e x with
    | some v => invW P (valS (Instr.range t v)) G σ
    | none => False
  | .next x b => match evO e x with
    | some v => invW P (valS (Instr.next v b o.type)) G σ
    | none => False
  | .unOp op _ x => match evO e x with
    | some v => invW P (valS (Op.unary op v)) G σ
    | none => False
  | .entry x => match evO e x with
    | some v => invW P (valS (Instr.entry v)) G σ
    | none => False
  | .typeAssert x t u ok => match evO e x with
    | some v => invW P (valS (Instr.typeAssert v t u ok)) G σ
    | none => False
  | .binOp op t x y _ => match evO e x, evO e y with
    | some u, some v => invW P (valS (do eqGuard op t x y u v; binOp op t u v)) G σ
    | _, _ => False
  | _ => False

section
variable {P : Program}
theorem callFunc_go {g : FuncId} {args : Array Value} (h : isGo P g = true) (w : World) : (callFunc g args).run P w = .ok (.enter g args) w := by
  unfold isGo at h
  split at h
  · rename_i fn hfn
    simp only [Bool.and_eq_true, Bool.not_eq_true'] at h
    obtain ⟨h1, h2⟩ := h
    have h3 : (fn.name == "runtime.NumGoroutine") = false := h2
    have h4 : fn.body.isNone = false := by cases hb : fn.body with | none => simp [hb] at h1 | some c => rfl
    simp only [callFunc, Sem.run_bind, run_program, Result.andThen_ok, hfn, h3, Bool.false_eq_true, if_false, h4, Sem.run_pure]
  · cases h
theorem invW_callS {g : FuncId} {as0 cs vs : List Value} {G : Value → H → Prop} {σ : H} (hg : isGo P g = true) (h : callW P g (as0 ++ vs ++ cs) G σ) : invW P (callS (.func (.func g) ⟨as0⟩ ⟨cs⟩) vs) G σ := by
  intro w hw
  have : (callS (.func (.func g) ⟨as0⟩ ⟨cs⟩) vs).run P w = .ok (.enter g (as0 ++ vs ++ cs).toArray) w := by
    simp only [callS, Deferred.ofValue, Sem.run_bind, Sem.run_pure, Result.andThen_ok, invoke]
    rw [callFunc_go hg]
    simp
  rw [this]
  exact (h w hw).mono fun e w' ⟨v, he, r⟩ => ⟨v, he, r⟩
theorem callVW_inv {fv : Value} {vs : List Value} {G : Value → H → Prop} {σ : H} (h : callVW P fv vs G σ) : invW P (callS fv vs) G σ := by
  unfold callVW at h
  split at h
  · split at h
    · rename_i hg; exact invW_callS hg h
    · exact h
  · exact h
theorem map_mk {α β : Type} (f : α → β) (l : List α) : (Array.mk l).map f = ⟨l.map f⟩ := by apply Array.ext'; simp
theorem constL_eq : ∀ (l : List Operand), l.map (fun | .const _ => true | _ => false) = constL l := by
  intro l
  induction l with
  | nil => rfl
  | cons x l ih => cases x <;> simp [constL, ih]

theorem efF_sound {N : Nat} {e : Env} {a : Act} (fr : FR N e a) {o : Oper} {G : Value → H → Prop} {σ : H} (h : efF P e G o σ) : invW P (execOp a.eval o) G σ := by
  obtain ⟨dst, op, type, pos, after, guard⟩ := o
  unfold efF at h
  split at h
  · rename_i f xs _ hop
    simp only at hop; subst hop
    have hex : ∀ fv vs, evO e f = some fv → evL e xs = some vs → execOp a.eval ⟨dst, .call ⟨.value f, ⟨xs⟩, by assumption⟩, type, pos, after, guard⟩ = callS fv vs := by
      intro fv vs h1 h2
      simp only [execOp, resolve, callS, map_mk, fr.evO h1, fr.evL h2]
    split at h
    · rename_i fv vs hf hv
      rw [hex _ _ hf hv]
      exact callVW_inv h
    · exact h.elim
  · rename_i b xs ts hop
    simp only at hop; subst hop
    split at h
    · rename_i vs hv
      have hex : execOp a.eval ⟨dst, .call ⟨.builtin b, ⟨xs⟩, ts⟩, type, pos, after, guard⟩ = builtin b ts type ⟨constL xs⟩ ⟨vs⟩ := by
        simp only [execOp, resolve, invoke, map_mk, fr.evL hv, pure_bind]
        exact congrArg (fun l => builtin b ts type ⟨l⟩ ⟨vs⟩) (constL_eq xs)
      rw [hex]; exact h
    · exact h.elim
  · rename_i r m xs _ hop
    simp only at hop; subst hop
    split at h
    · rename_i v vs h1 h2
      have hex : execOp a.eval ⟨dst, .call ⟨.invoke r m, ⟨xs⟩, by assumption⟩, type, pos, after, guard⟩ = callMethod v m ⟨vs⟩ := by
        simp only [execOp, resolve, map_mk, fr.evO h1, fr.evL h2, pure_bind, invoke]
        simp
      rw [hex]; exact h
    · exact h.elim
  · rename_i hop; simp only at hop; subst hop
    split at h
    · rename_i u v h1 h2
      simp only [execOp, fr.evO h1, fr.evO h2]; exact h
    · exact h.elim
  · rename_i hop; simp only at hop; subst hop
    split at h
    · rename_i u v x h1 h2 h3
      simp only [execOp, fr.evO h1, fr.evO h2, fr.evO h3]; exact h
    · exact h.elim
  · rename_i hop; simp only at hop; subst hop
    split at h
    · rename_i u v x h1 h2 h3
      simp only [execOp, fr.evO h1, fr.evO h2, fr.evO h3]; exact h
    · exact h.elim
  · rename_i hop; simp only at hop; subst hop
    split at h
    · rename_i u h1
      simp only [execOp, fr.evO h1]; exact h
    · exact h.elim
  · rename_i hop; simp only at hop; subst hop
    split at h
    · rename_i u v h1 h2
      simp only [execOp, fr.evO h1, fr.evO h2]; exact h
    · exact h.elim
  · rename_i hop; simp only at hop; subst hop
    split at h
    · rename_i u h1
      simp only [execOp, fr.evO h1]; exact h
    · exact h.elim
  · rename_i hop; simp only at hop; subst hop
    split at h
    · rename_i u h1
      simp only [execOp, fr.evO h1]; exact h
    · exact h.elim
  · rename_i hop; simp only at hop; subst hop
    split at h
    · rename_i u h1
      simp only [execOp, fr.evO h1]; exact h
    · exact h.elim
  · rename_i hop; simp only at hop; subst hop
    split at h
    · rename_i u h1
      simp only [execOp, fr.evO h1]; exact h
    · exact h.elim
  · rename_i hop; simp only at hop; subst hop
    split at h
    · rename_i u h1
      simp only [execOp, fr.evO h1]; exact h
    · exact h.elim
  · rename_i hop; simp only at hop; subst hop
    split at h
    · rename_i u v h1 h2
      simp only [execOp, fr.evO h1, fr.evO h2]; exact h
    · exact h.elim
  · exact h.elim
end

/-! ### Which class an operation is of -/
def clsBuilt (P : Program) (b : Builtin) (ts : Array TypeId) : Nat :=
  match b, ts with
  | .len, ⟨t :: _⟩ => match P.underlying t with
    | some (.map _ _) => 1
    | _ => 0
  | .cap, _ => 0
  | .min, _ => 0
  | .max, _ => 0
  | _, _ => 3
def clsConv (P : Program) (s d : TypeId) : Nat :=
  match P.underlying s, P.underlying d with
  | some (.slice _), _ => 3
  | _, some (.slice _) => 3
  | some .unsafePointer, _ => 3
  | _, some .unsafePointer => 3
  | some (.float _), _ => 3
  | _, some (.float _) => 3
  | some .string, some .string => 0
  | some (.int _), some .string => 3
  | _, _ => 0
def isCo : Operand → Bool
  | .const _ => true
  | _ => false
def clsEq (P : Program) (t : TypeId) (x y : Operand) : Nat :=
  match P.underlying t with
  | some (.interface _) => 3
  | some (.func _ _ _) => 3
  | some (.float _) => 3
  | some (.pointer _) => match isCo x || isCo y with
    | true => 0
    | false => 3
  | _ => 0
def clsAr (P : Program) (t : TypeId) : Nat :=
  match P.underlying t with
  | some (.float _) => 3
  | _ => 0
def clsOf (P : Program) (o : Op) : Nat :=
  match o with
  | .move _ | .assign _ | .pick .. | .nilCheck _ | .fieldAddr .. | .field .. | .extract .. | .makeInterface .. | .makeFunc .. | .build .. | .indexAddr .. | .slice .. => 0
  | .index t _ _ => match P.underlying t with
    | some (.array _ _) => 1
    | _ => 0
  | .binOp op t x y _ => match op with
    | .eql => clsEq P t x y
    | .neq => clsEq P t x y
    | _ => clsAr P t
  | .unOp _ t _ => clsAr P t
  | .convert s d _ => clsConv P s d
  | .load .. | .lookup .. => 1
  | .alloc _ | .box .. | .buildSlice .. | .makeMap .. => 2
  | .call { callee := .builtin b, args := _, argTypes := ts } => clsBuilt P b ts
  | _ => 3
def clI (P : Program) (ops : List Oper) (i : Nat) : Nat :=
  match ops[i]? with
  | some o => clsOf P o.op
  | none => 3

abbrev Pend := List (Nat × (H → Option Value) × Value)
def chkP (A : Nat → Nat → Bool) (i : Nat) : Pend → (H → Prop) → H → Prop
  | [], g, σ => g σ
  | (j, r, v) :: q, g, σ => match A j i with
    | true => chkP A i q g σ
    | false => r σ = some v ∧ chkP A i q g σ
/-- a reading, its parts typed -/
def rdT (r : H → Option Value) (t : TK) (F : t.Fn (H → Prop)) (σ : H) : Prop := ∃ v, r σ = some v ∧ app t F v σ

def slotOf (ops : List Oper) (j : Nat) : Option Nat :=
  match ops[j]? with
  | some o => o.dst
  | none => none
def guardF (ops : List Oper) (e : Env) (g : Option (Nat × Bool)) (exec skip : Env → H → Prop) (σ : H) : Prop :=
  match g with
  | none => exec e σ
  | some (j, want) => match slotOf ops j with
    | none => skip e σ
    | some d => match e.get? d with
      | none => False
      | some (.bool t) => brW t
          (match want with | true => exec ((d, .bool true) :: e) | false => skip ((d, .bool true) :: e))
          (match want with | true => skip ((d, .bool false) :: e) | false => exec ((d, .bool false) :: e)) σ
      | some _ => skip e σ

/-- the kind of what an operation gives -/
def tyO (τ : TypeId → TK) (o : Oper) : TK := match o.op with
  | .next _ true => .opt [.sc (.int .i64), .sc (.int .i32)]
  | .next _ false => .opt [.sc .raw, .sc .raw]
  | .entry _ => τ 1000000
  | .range _ _ => .one (.sc .ptr)
  | _ => τ o.type
def rgF (P : Program) (τ : TypeId → TK) (N : Nat) (ops : List Oper) (A : Nat → Nat → Bool) : List Nat → Pend → Env → (Pend → Env → H → Prop) → H → Prop
  | [], q, e, K, σ => K q e σ
  | i :: l, q, e, K, σ => match ops[i]? with
    | none => False
    | some o => match plainOp o.op && dstOk N o.dst with
      | false => False
      | true => guardF ops e o.guard
          (fun e σ => match clsOf P o.op with
            | 0 => silF P e (fun v => rgF P τ N ops A l q (e.put o.dst v) K) o.op σ
            | 1 => rdOp P e (fun r => rdT r (τ o.type) ((τ o.type).lam fun v => rgF P τ N ops A l ((i, r, v) :: q) (e.put o.dst v) K)) o.op σ
            | 2 => alF P e (fun obj mk => alW obj fun b => rgF P τ N ops A l q (e.put o.dst (mk b)) K) o.op σ
            | _ => efF P e (app (tyO τ o) ((tyO τ o).lam fun v => chkP A i q (rgF P τ N ops A l q (e.put o.dst v) K))) o σ)
          (fun e => rgF P τ N ops A l q (e.put o.dst undef) K) σ

section
variable {P : Program} {τ : TypeId → TK} {N : Nat} {ops : Array Oper} {A : Nat → Nat → Bool}

theorem clI_eq {i : Nat} {o : Oper} (h : ops[i]? = some o) : clI P ops.toList i = clsOf P o.op := by
  have : ops.toList[i]? = some o := by simpa using h
  simp [clI, this]

/-- the readings that are carried along -/
def PR (P : Program) (q : Pend) (p : List (Nat × Sem Next × Value)) : Prop :=
  ∀ y ∈ p, ∃ z ∈ q, z.1 = y.1 ∧ z.2.2 = y.2.2 ∧ ∀ σ, z.2.1 σ = some y.2.2 → RdS P y.2.1 σ y.2.2

theorem PR.mono {q : Pend} {p p' : List (Nat × Sem Next × Value)} (h : PR P q p) (hs : ∀ y ∈ p', y ∈ p) : PR P q p' := fun y hy => h y (hs y hy)
theorem chkP_out {i : Nat} {g : H → Prop} {σ : H} : ∀ {q : Pend}, chkP A i q g σ → (∀ z ∈ q, A z.1 i = true ∨ z.2.1 σ = some z.2.2) ∧ g σ := by
  intro q
  induction q with
  | nil => intro h; exact ⟨fun z hz => by simp at hz, h⟩
  | cons x q ih =>
    intro h
    obtain ⟨j, r, v⟩ := x
    simp only [chkP] at h
    split at h
    · rename_i ha
      obtain ⟨h1, h2⟩ := ih h
      refine ⟨fun z hz => ?_, h2⟩
      rcases List.mem_cons.1 hz with rfl | hz
      · exact .inl ha
      · exact h1 z hz
    · obtain ⟨h1, h2⟩ := ih h.2
      refine ⟨fun z hz => ?_, h2⟩
      rcases List.mem_cons.1 hz with rfl | hz
      · exact .inr h.1
      · exact h1 z hz

theorem FR.same {e : Env} {a : Act} (h : FR N e a) {d : Nat} {v : Value} (hd : e.get? d = some v) : FR N ((d, v) :: e) a := by
  refine ⟨h.size, fun i u hu => ?_⟩
  simp only [Env.get?] at hu
  split at hu
  · rename_i hb; have := Nat.eq_of_beq_eq_true hb; subst this; cases hu; exact h.get _ _ hd
  · exact h.get i u hu

theorem guardF_sound {e : Env} {a : Act} (fr : FR N e a) {o : Oper} {exec skip : Env → H → Prop} {σ : H} (h : guardF ops.toList e o.guard exec skip σ) :
    ∃ e', FR N e' a ∧ ((Region.wanted o (yielded ops a.tmps) = true ∧ exec e' σ) ∨ (Region.wanted o (yielded ops a.tmps) = false ∧ skip e' σ)) := by
  unfold guardF at h
  split at h
  · rename_i hg
    exact ⟨e, fr, .inl ⟨by simp [Region.wanted, hg], h⟩⟩
  · rename_i j want hg
    split at h
    · rename_i hs
      refine ⟨e, fr, .inr ⟨?_, h⟩⟩
      have : (ops[j]?).bind (·.dst) = none := by
        unfold slotOf at hs
        cases ho : ops[j]? with
        | none => rfl
        | some o' => have : ops.toList[j]? = some o' := by simpa using ho
                     simp [this] at hs; simp [hs]
      simp [Region.wanted, hg, yielded, this]
    · rename_i d hs
      have hd : (ops[j]?).bind (·.dst) = some d := by
        unfold slotOf at hs
        cases ho : ops[j]? with
        | none => have : ops.toList[j]? = none := by simpa using ho
                  simp [this] at hs
        | some o' => have : ops.toList[j]? = some o' := by simpa using ho
                     simp [this] at hs; simp [hs]
      split at h
      · exact h.elim
      · rename_i t ht
        have hy : yielded ops a.tmps j = some t := by
          have := fr.get d _ ht
          simp [yielded, hd, this]
        cases t with
        | true =>
          refine ⟨_, fr.same ht, ?_⟩
          cases want with
          | true => exact .inl ⟨by simp [Region.wanted, hg, hy], h⟩
          | false => exact .inr ⟨by simp [Region.wanted, hg, hy], h⟩
        | false =>
          refine ⟨_, fr.same ht, ?_⟩
          cases want with
          | true => exact .inr ⟨by simp [Region.wanted, hg, hy], h⟩
          | false => exact .inl ⟨by simp [Region.wanted, hg, hy], h⟩
      · rename_i v hnb hv
        have hy : yielded ops a.tmps j = none := by
          have := fr.get d _ hv
          unfold yielded
          rw [hd]
          simp only [Option.bind_some, this]
          split
          · rename_i b hb; cases hb; exact absurd rfl (hnb _)
          · rfl
        exact ⟨e, fr, .inr ⟨by simp [Region.wanted, hg, hy], h⟩⟩

theorem put_defers (a : Act) (d : Option Nat) (v : Value) : (a.put d v).defers = a.defers := by cases d <;> rfl

theorem rgF_sound {K : Pend → Env → H → Prop} : ∀ (l : List Nat) {q : Pend} {p : List (Nat × Sem Next × Value)} {e : Env} {a : Act} {σ : H}, PR P q p → FR N e a → rgF P τ N ops.toList A l q e K σ →
    SRunD P ops (clI P ops.toList) A p l a (fun p' a' σ' => ∃ q' e', PR P q' p' ∧ FR N e' a' ∧ a'.defers = a.defers ∧ K q' e' σ') σ := by
  intro l
  induction l with
  | nil => intro q p e a σ hpr fr h; exact ⟨q, e, hpr, fr, rfl, h⟩
  | cons i l ih =>
    intro q p e a σ hpr fr h
    simp only [rgF] at h
    split at h
    · exact h.elim
    · rename_i o ho
      have ho' : ops[i]? = some o := by simpa using ho
      split at h
      · exact h.elim
      · rename_i hp
        simp only [Bool.and_eq_true] at hp
        obtain ⟨hp, hd⟩ := hp
        refine ⟨o, ho', hp, ?_⟩
        have lift : ∀ {v : Value} {p' : List (Nat × Sem Next × Value)} {σ' : H}, SRunD P ops (clI P ops.toList) A p' l (a.put o.dst v) (fun p' a' σ' => ∃ q' e', PR P q' p' ∧ FR N e' a' ∧ a'.defers = (a.put o.dst v).defers ∧ K q' e' σ') σ' →
            SRunD P ops (clI P ops.toList) A p' l (a.put o.dst v) (fun p' a' σ' => ∃ q' e', PR P q' p' ∧ FR N e' a' ∧ a'.defers = a.defers ∧ K q' e' σ') σ' := by
          intro v p' σ' h; rw [put_defers] at h; exact h
        obtain ⟨e', fr', h | h⟩ := guardF_sound fr h
        · obtain ⟨hw, h⟩ := h
          rw [if_pos hw, clI_eq ho']
          split at h
          · rename_i hc
            rw [hc]
            obtain ⟨v, hv, h⟩ := silF_sound fr' h
            exact ⟨v, hv, lift (ih hpr (fr'.put hd v) h)⟩
          · rename_i hc
            rw [hc]
            obtain ⟨r, hr, v, hrv, h⟩ := rdOp_sound fr' h
            have h := app_lam h
            refine ⟨v, hr _ _ hrv, lift (ih ?_ (fr'.put hd v) h)⟩
            intro y hy
            rcases List.mem_cons.1 hy with rfl | hy
            · exact ⟨(i, r, v), List.mem_cons_self .., rfl, rfl, fun σ hσ => hr σ v hσ⟩
            · obtain ⟨z, hz, h1, h2, h3⟩ := hpr y hy
              exact ⟨z, List.mem_cons_of_mem _ hz, h1, h2, h3⟩
          · rename_i hc
            rw [hc]
            obtain ⟨obj, mk, hal, h⟩ := alF_sound fr' h
            exact ⟨mk, obj, hal, fun b hb => lift (ih hpr (fr'.put hd _) (h b hb))⟩
          · rename_i hc0 hc1 hc2
            have hm : ∀ (a0 a1 a2 a3 : Prop), a3 → (match clsOf P o.op with | 0 => a0 | 1 => a1 | 2 => a2 | _ => a3) := by
              intro a0 a1 a2 a3 h3
              split
              · exact absurd ‹_› hc0
              · exact absurd ‹_› hc1
              · exact absurd ‹_› hc2
              · exact h3
            refine hm _ _ _ _ ((efF_sound fr' h).mono fun v σ' h => ?_)
            obtain ⟨h1, h2⟩ := chkP_out (app_lam h)
            refine ⟨fun y hy => ?_, lift (ih hpr (fr'.put hd v) h2)⟩
            obtain ⟨z, hz, e1, e2, e3⟩ := hpr y hy
            rcases h1 z hz with h1 | h1
            · exact .inl (e1 ▸ h1)
            · exact .inr (e3 σ' (e2 ▸ h1))
        · obtain ⟨hw, h⟩ := h
          rw [if_neg (by rw [hw]; simp)]
          exact lift (ih hpr (fr'.put hd undef) h)
end
end Go.HL

namespace Go.HL
open Go

inductive Ann where
  | leaf
  | seq (j : Option Live) (a b : Ann)
  | cond (a b : Ann)
  | blk (a : Ann)
  | loop (l : Live) (a : Ann)
  | reg (π : List Nat) (AL : List (List Nat))
  | reg2 (p : List Nat) (i : Nat) (m1 : List Nat) (j : Nat) (m2 : List Nat) (AL : List (List Nat))
  | rf (ks : List CK) (a b : Ann)

/-- both -/
def bothW (f g : H → Prop) (σ : H) : Prop := f σ ∧ g σ
def letJ {T : Type} (j : T) (f : T → H → Prop) (σ : H) : Prop := f j σ
/-- the least fixed point: a loop that ends -/
def loopW (ks : List CK) (F : FnC ks (H → Prop) → FnC ks (H → Prop)) (st : FnC ks (H → Prop) → H → Prop) (σ : H) : Prop :=
  ∀ R : FnC ks (H → Prop), leC ks (F R) R → st R σ
def Env.puts : Env → List Nat → List Value → Env
  | e, t :: ts, v :: vs => Env.puts ((t, v) :: e) ts vs
  | e, _, _ => e
def sameLen : List Nat → List CK → Bool
  | [], [] => true
  | _ :: a, _ :: b => sameLen a b
  | _, _ => false
def allLt (N : Nat) : List Nat → Bool
  | [] => true
  | t :: r => Nat.blt t N && allLt N r

/-- what a round's end does to the loop's record -/
def roundK (l : Nat) (obj : LoopState → Option Code → Obj) (K : Value → H → Prop) (j : Option Code) (b : Bool) (s : LoopState) (σ : H) : Prop :=
  σ l = some (obj .busy none) ∧ K (.bool b) (σ.put l (obj s j))

/-- behind the whole loop -/
def endK (l : Nat) (obj : LoopState → Option Code → Obj) (Kn : H → Prop) (Kx : Nat → H → Prop) (Kr : H → Prop) (σ : H) : Prop :=
  ∃ s j, σ l = some (obj s j) ∧ s ≠ .busy ∧ (match j with
    | none => Kn (σ.put l (obj .exhausted j))
    | some (.exit i) => Kx i (σ.put l (obj .exhausted j))
    | some .ret => Kr (σ.put l (obj .exhausted j))
    | _ => False)

/-- a call of yield comes to the loop's body -/
def YieldOk (P : Program) (l : Nat) (B : List Value → (Value → H → Prop) → H → Prop) : Prop :=
  ∀ args K σ, B args K σ → invW P (callS (.func (.yield l) #[] #[]) args) K σ

def yv (l : Nat) : Value := .func (.yield l) #[] #[]
def LoopObj (obj : LoopState → Option Code → Obj) : Prop := ∃ r : Loop, ∀ s j, obj s j = .loop { r with state := s, pending := j }

/-- a function that is ranged over must be one -/
def funW (fv : Value) (F : FuncId → List Value → List Value → H → Prop) (σ : H) : Prop :=
  match fv with
  | .func (.func g) ⟨as0⟩ ⟨cs⟩ => F g as0 cs σ
  | _ => False
/-- a round begins -/
def begW (l : Nat) (obj : LoopState → Option Code → Obj) (g : H → Prop) (σ : H) : Prop := σ l = some (obj .ready none) ∧ g (σ.put l (obj .busy none))
/-- a range over a function -/
def rfW (P : Program) (ro : Option Nat) (g : FuncId) (as0 cs : List Value) (ks : List CK) (body : (l : Nat) → (LoopState → Option Code → Obj) → (Value → H → Prop) → FnC ks (H → Prop)) (Kn : H → Prop) (Kx : Nat → H → Prop) (Kr : H → Prop) (σ : H) : Prop :=
  isGo P g = true ∧ (∀ l0, ro = some l0 → ∃ r, σ l0 = some (.loop r)) ∧ ∀ l obj, σ l = none → LoopObj obj →
    YieldOk P l (fun args K σ' => σ' l = some (obj .ready none) ∧ runO (prjC ks (body l obj K) args) σ') →
    callW P g (as0 ++ [yv l] ++ cs) (fun _ => endK l obj Kn Kx Kr) (σ.put l (obj .ready none))

def D (P : Program) (τ : TypeId → TK) (N : Nat) : Code → Ann → Option Nat → Env → (Env → H → Prop) → (Nat → Env → H → Prop) → (Env → H → Prop) → H → Prop
  | .skip, _, _, e, Kn, _, _, σ => Kn e σ
  | .label _, _, _, e, Kn, _, _, σ => Kn e σ
  | .exit i, _, _, e, _, Kx, _, σ => Kx i e σ
  | .scope x, an, ro, e, Kn, Kx, Kr, σ => match an with
    | .blk a => D P τ N x a ro e Kn Kx Kr σ
    | _ => False
  | .ret, _, _, e, _, _, Kr, σ => Kr e σ
  | .seq x y, an, ro, e, Kn, Kx, Kr, σ => match an with
    | .seq none a b => D P τ N x a ro e (fun e' => D P τ N y b ro e' Kn Kx Kr) Kx Kr σ
    | .seq (some l) a b => letJ (l.lam fun e' => D P τ N y b ro e' Kn Kx Kr) (fun j => D P τ N x a ro e (fun e' => l.app j e') Kx Kr) σ
    | _ => False
  | .cond c x y, an, ro, e, Kn, Kx, Kr, σ => match an, evO e c with
    | .cond a b, some (.bool t) => brW t (D P τ N x a ro e Kn Kx Kr) (D P τ N y b ro e Kn Kx Kr) σ
    | _, _ => False
  | .block id x, an, ro, e, Kn, Kx, Kr, σ => match an with
    | .blk a => D P τ N x a ro e Kn (fun i e' σ => match Nat.beq i id with | true => Kn e' σ | false => Kx i e' σ) Kr σ
    | _ => False
  | .loop x, an, ro, e, _, Kx, Kr, σ => match an with
    | .loop l a => loopW l.ks (fun R => l.lam fun e' => D P τ N x a ro e' (fun e'' => l.app R e'') Kx Kr) (fun R => l.app R e) σ
    | _ => False
  | .region _ ops draw, an, _, e, Kn, _, _, σ => match an, draw with
    | .reg π AL, true => match drawOk ops (clI P ops.toList) AL π with
      | true => rgF P τ N ops.toList (ancOf AL) π [] e (fun _ => Kn) σ
      | false => False
    | .reg _ _, false => rgF P τ N ops.toList (fun _ _ => true) (List.range ops.size) [] e (fun _ => Kn) σ
    | .reg2 p i m1 j m2 AL, true => match draw2Ok ops (clI P ops.toList) AL p i m1 j m2 with
      | true => rgF P τ N ops.toList (ancOf AL) p [] e (fun q e' => bothW (rgF P τ N ops.toList (ancOf AL) (i :: m1) q e' (fun _ => Kn)) (rgF P τ N ops.toList (ancOf AL) (j :: m2) q e' (fun _ => Kn))) σ
      | false => False
    | _, _ => False
  | .rangeFunc f ps asg body, an, ro, e, Kn, Kx, Kr, σ => match an, evO e f with
    | .rf ks a b, some fv => match sameLen ps.toList ks && allLt N ps.toList with
      | true => funW fv (fun g as0 cs => rfW P ro g as0 cs ks (fun l obj K => lamC ks fun vs => D P τ N asg a (some l) (e.puts ps.toList vs)
              (fun e1 => begW l obj (D P τ N body b (some l) e1 (fun _ => roundK l obj K none true .ready) (fun i _ => roundK l obj K (some (.exit i)) false .done) (fun _ => roundK l obj K (some .ret) false .done)))
              (fun _ _ _ => False) (fun _ _ => False)) (Kn e) (fun i => Kx i e) (Kr e)) σ
      | false => False
    | _, _ => False
  | _, _, _, _, _, _, _, _ => False

/-! ### Words for the texts -/
def cvalT (P : Program) (fv : Value) (args : List Value) (t : TK) (F : t.Fn (H → Prop)) : H → Prop := callVW P fv args (app t F)
def stW (P : Program) (t : TypeId) (a v : Value) (g : H → Prop) : H → Prop := invW P (doS (Instr.storeAt t a v)) (app (.tup []) g)
def muW (P : Program) (t : TypeId) (m k v : Value) (g : H → Prop) : H → Prop := invW P (doS (Instr.mapUpdate t m k v)) (app (.tup []) g)
def vaW (P : Program) (s : Sem Value) (t : TK) (F : t.Fn (H → Prop)) : H → Prop := invW P (valS s) (app t F)
/-! ### Results -/
def resG (P : Program) (τ : TypeId → TK) (e : Env) : List ResultVar → (List Value → H → Prop) → H → Prop
  | [], k, σ => k [] σ
  | .tmp t :: rs, k, σ => match e.get? t with
    | some v => resG P τ e rs (fun vs => k (v :: vs)) σ
    | none => False
  | .cell a t :: rs, k, σ => match e.get? a, isAggT P t, sizeT P t with
    | some (.pointer p), some false, _ => ptrW p (fun b o => rdT (rdC b o) (τ t) ((τ t).lam fun v => resG P τ e rs fun vs => k (v :: vs))) σ
    | some (.pointer p), some true, some n => ptrW p (fun b o => rdT (rdA n b o) (τ t) ((τ t).lam fun v => resG P τ e rs fun vs => k (v :: vs))) σ
    | _, _, _ => False
def tupL : List Value → Value
  | [v] => v
  | vs => .tuple ⟨vs⟩
def resF (P : Program) (τ : TypeId → TK) (rs : List ResultVar) (K : Value → H → Prop) (e : Env) : H → Prop := resG P τ e rs fun vs => K (tupL vs)
def argE : Nat → List Value → Env
  | _, [] => []
  | i, v :: vs => (i, v) :: argE (i + 1) vs
/-- A FUNCTION's BODY -/
def bodyF (P : Program) (τ : TypeId → TK) (fn : Func) (an : Ann) (args : List Value) (K : Value → H → Prop) (σ : H) : Prop :=
  match fn.body with
  | some c => match Nat.ble args.length fn.ntmps with
    | true => D P τ fn.ntmps c an none (argE 0 args) (resF P τ fn.results.toList K) (fun _ _ _ => False) (resF P τ fn.results.toList K) σ
    | false => False
  | none => False
end Go.HL

namespace Go.HL
open Go

def markOf (r : Nat) : Deferred := { target := .collected r, args := #[] }
/-- the marks among the deferred calls: blocks of the call's own that nobody sees -/
def DefOk (B : Nat) (σ : H) (w : World) (ds : List Deferred) : Prop :=
  ∃ ms : List Nat, ms.Nodup ∧ ds = ms.map markOf ∧ ∀ r ∈ ms, B ≤ r ∧ σ r = none ∧ w.heap[r]? = some (.deferred (some []))
theorem DefOk.nil (B : Nat) (σ : H) (w : World) : DefOk B σ w [] := ⟨[], .nil, rfl, fun _ h => by simp at h⟩
theorem DefOk.ext {B : Nat} {σ σ' : H} {w w' : World} {ds : List Deferred} (h : DefOk B σ w ds) (he : Ext σ w σ' w') : DefOk B σ' w' ds := by
  obtain ⟨ms, h1, h2, h3⟩ := h
  refine ⟨ms, h1, h2, fun r hr => ?_⟩
  obtain ⟨hb, hn, hw⟩ := h3 r hr
  have hlt : r < w.heap.size := by
    rcases Nat.lt_or_ge r w.heap.size with h | h
    · exact h
    · rw [Array.getElem?_eq_none h] at hw; cases hw
  refine ⟨hb, ?_, by rw [he.keep r hlt hn]; exact hw⟩
  cases hc : σ' r with
  | none => rfl
  | some o => have := he.own r o hc hn; omega

def Post (N B : Nat) (σ0 : H) (w0 : World) (Kn : Env → H → Prop) (Kx : Nat → Env → H → Prop) (Kr : Env → H → Prop) : Exit → Act → World → Prop
  | .normal, a, w => ∃ e σ, FR N e a ∧ Ext σ0 w0 σ w ∧ DefOk B σ w a.defers ∧ Kn e σ
  | .exit i, a, w => ∃ e σ, FR N e a ∧ Ext σ0 w0 σ w ∧ DefOk B σ w a.defers ∧ Kx i e σ
  | .ret, a, w => ∃ e σ, FR N e a ∧ Ext σ0 w0 σ w ∧ DefOk B σ w a.defers ∧ Kr e σ
  | _, _, _ => False
theorem Post.pre {N B : Nat} {σ0 σ1 : H} {w0 w1 : World} {Kn : Env → H → Prop} {Kx : Nat → Env → H → Prop} {Kr : Env → H → Prop} (he : Ext σ0 w0 σ1 w1) {x : Exit} {a : Act} {w : World} (h : Post N B σ1 w1 Kn Kx Kr x a w) : Post N B σ0 w0 Kn Kx Kr x a w := by
  cases x with
  | normal => obtain ⟨e, σ, h1, h2, h3⟩ := h; exact ⟨e, σ, h1, he.trans h2, h3⟩
  | exit i => obtain ⟨e, σ, h1, h2, h3⟩ := h; exact ⟨e, σ, h1, he.trans h2, h3⟩
  | ret => obtain ⟨e, σ, h1, h2, h3⟩ := h; exact ⟨e, σ, h1, he.trans h2, h3⟩
  | goto l => exact h.elim
  | panic c => exact h.elim
  | outgrown => exact h.elim

theorem leL_lam {R : Type} {le : R → R → Prop} : ∀ (l : List SK) {f g : List Value → R}, (∀ vs, le (f vs) (g vs)) → leL l le (lamL l f) (lamL l g) := by
  intro l
  induction l with
  | nil => intro f g h; exact h []
  | cons s l ih => intro f g h x; exact ih fun vs => h _
theorem CK.le_lam (c : CK) {R : Type} {le : R → R → Prop} {f g : Value → R} (h : ∀ v, le (f v) (g v)) : c.le le (c.lam f) (c.lam g) := by
  cases c with
  | sc s => intro x; exact h _
  | agg l => exact leL_lam l fun vs => h _
theorem leC_lam : ∀ (l : List CK) {f g : List Value → H → Prop}, (∀ vs σ, f vs σ → g vs σ) → leC l (lamC l f) (lamC l g) := by
  intro l
  induction l with
  | nil => intro f g h; exact h []
  | cons c l ih => intro f g h; exact CK.le_lam c fun v => ih fun vs => h _

section
variable {P : Program} {τ : TypeId → TK} {N : Nat}

/-- a loop's round is to be gone, and on -/
def LoopIn (F : Fence) (n : Nat) (P : Program) (c : Code) (Q : Exit → Act → World → Prop) (a : Act) (w : World) : Prop :=
  ∀ (b : Frame) (k : List Item) (cs : List Frame), b.roundOf = F.round → F.fn b.fn → F.room (cs.length + 1 + n) →
    ∃ e a' w', Q e a' w' ∧ ArrivesIn (Machine.fenced P F) P (lone (b.atR a (.code c :: .inLoop c :: k)) cs w) b k cs e a' w'
theorem loopIn_round {F : Fence} {n : Nat} {c : Code} {Q : Exit → Act → World → Prop} {a : Act} {w : World} (h : c.wpIn F n P (Exit.then (LoopIn F n P c Q) Q) a w) : LoopIn F n P c Q a w := by
  intro b k cs hro hb hr
  obtain ⟨e, a₁, w₁, hq, harr⟩ := h b (.inLoop c :: k) cs hro hb hr
  cases e with
  | normal =>
    obtain ⟨e₂, a₂, w₂, hq₂, harr₂⟩ := hq b k cs hro hb hr
    exact ⟨e₂, a₂, w₂, hq₂, .of_steps (StepsIn.trans harr (.one (fenced_calm hb hr rfl) stepR_inLoop)) harr₂⟩
  | exit id => exact ⟨_, a₁, w₁, hq, .pass (x := .inLoop c) rfl (fun _ _ => .inl (by simp)) harr⟩
  | goto l => exact ⟨_, a₁, w₁, hq, .pass (x := .inLoop c) rfl (fun _ _ => .inl (by simp)) harr⟩
  | ret => exact ⟨_, a₁, w₁, hq, .pass (x := .inLoop c) rfl (fun _ _ => .inl (by simp)) harr⟩
  | panic ch => exact ⟨_, a₁, w₁, hq, .pass (x := .inLoop c) rfl (fun _ _ => .inl (by simp)) harr⟩
  | outgrown => exact ⟨_, a₁, w₁, hq, .pass (x := .inLoop c) rfl (fun _ _ => .inl (by simp)) harr⟩
theorem wpIn_loopIn {F : Fence} {n : Nat} {c : Code} {Q : Exit → Act → World → Prop} {a : Act} {w : World} (h : LoopIn F n P c Q a w) : (Code.loop c).wpIn F n P Q a w := by
  intro b k cs hro hb hr
  obtain ⟨e, a', w', hq, harr⟩ := h b k cs hro hb hr
  exact ⟨e, a', w', hq, .of_steps (.one (fenced_calm hb hr rfl) stepR_loop) harr⟩

theorem Ext.allocOut {σ : H} {w : World} (h : σ.le w) (o : Obj) : Ext σ w σ (w.alloc o) := by
  obtain ⟨hn, he⟩ := Ext.alloc h o
  refine ⟨fun b o' hb => he.le b o' ?_, he.size, he.keep, (fun b o' hb hb' => by rw [hb'] at hb; cases hb), he.os, he.tape, he.output⟩
  rw [H.put_other]
  · exact hb
  · intro e; subst e; rw [hn] at hb; cases hb

theorem puts_fr : ∀ (ts : List Nat) (vs : List Value) {e : Env} {a : Act}, FR N e a → allLt N ts = true → ts.length = vs.length →
    FR N (e.puts ts vs) { a with tmps := (ts.zip vs).foldl (fun tmps (x : Nat × Value) => tmps.setIfInBounds x.1 x.2) a.tmps } := by
  intro ts
  induction ts with
  | nil =>
    intro vs e a fr _ h
    cases vs with
    | nil => exact fr
    | cons v vs => simp at h
  | cons t ts ih =>
    intro vs e a fr hl h
    cases vs with
    | nil => simp at h
    | cons v vs =>
      simp only [allLt, Bool.and_eq_true] at hl
      exact ih vs (fr.put (d := some t) hl.1 v) hl.2 (by simpa using h)
theorem prjC_len : ∀ (l : List CK) {R : Type} (F : FnC l R) (vs : List Value) (r : R), prjC l F vs = some r → l.length = vs.length := by
  intro l
  induction l with
  | nil =>
    intro R F vs r h
    cases vs with
    | nil => rfl
    | cons v vs => simp [prjC] at h
  | cons c l ih =>
    intro R F vs r h
    cases vs with
    | nil => simp [prjC] at h
    | cons v vs =>
      simp only [prjC] at h
      split at h
      · simp [ih _ _ _ h]
      · cases h
theorem sameLen_eq : ∀ (a : List Nat) (b : List CK), sameLen a b = true → a.length = b.length := by
  intro a
  induction a with
  | nil => intro b h; cases b with | nil => rfl | cons x b => simp [sameLen] at h
  | cons x a ih => intro b h; cases b with | nil => simp [sameLen] at h | cons y b => simp [ih b h]

theorem run_getLoop {l : Nat} {r : Loop} {w : World} (h : w.heap[l]? = some (.loop r)) : (Instr.getLoop l).run P w = .ok r w := by
  simp [Instr.getLoop, getObj, Sem.run, h]
theorem run_setLoop {l : Nat} {r : Loop} {o : Obj} {w : World} (h : w.heap[l]? = some (.loop r)) : (setObj l o).run P w = .ok () { w with heap := w.heap.setIfInBounds l o } := by
  simp [setObj, Sem.run, h]

theorem stepR_scope {b : Frame} {a : Act} {k : List Item} {cs : List Frame} {w : World} {c : Code} : step P (lone (b.atR a (.code (.scope c) :: k)) cs w) = .next (lone (b.atR a (.code c :: .inScope c :: k)) cs w) :=
  step_lone_go (by simp [stepG, stepG.exec, Frame.atR])
theorem stepR_inScope {b : Frame} {a : Act} {k : List Item} {cs : List Frame} {w : World} {c : Code} : step P (lone (b.atR a (.inScope c :: k)) cs w) = .next (lone (b.atR a k) cs w) :=
  step_lone_go (by simp [stepG, stepG.exec, Frame.atR])
/-- a scope through which the run goes without a jump -/
theorem wpIn_scope {F : Fence} {n : Nat} {a : Act} {w : World} {Q : Exit → Act → World → Prop} {c : Code} (hq : ∀ l a w, ¬ Q (.goto l) a w) (h : c.wpIn F n P Q a w) : (Code.scope c).wpIn F n P Q a w := by
  intro b k cs hro hb hr
  have h0 : (lone (b.atR a (.code (.scope c) :: k)) cs w).fenced P F := fenced_calm hb hr rfl
  obtain ⟨e, a₁, w₁, hq', harr⟩ := h b (.inScope c :: k) cs hro hb hr
  cases e with
  | normal => exact ⟨.normal, a₁, w₁, hq', .head h0 stepR_scope (StepsIn.trans harr (.one (fenced_calm hb hr rfl) stepR_inScope))⟩
  | exit id' =>
    have hx : exitTo id' (.inScope c :: k) = exitTo id' k := by simp [exitTo]
    exact ⟨.exit id', a₁, w₁, hq', fun k' hk => .head h0 stepR_scope (harr.1 k' (by rw [hx]; exact hk)),
      fun hr' hk => let ⟨k₁, h1, h2⟩ := harr.2 hr' (by rw [hx]; exact hk); ⟨k₁, h1, .head h0 stepR_scope h2⟩⟩
  | goto l => exact (hq l a₁ w₁ hq').elim
  | ret => exact ⟨_, a₁, w₁, hq', .of_steps (.one h0 stepR_scope) harr⟩
  | panic ch => exact ⟨_, a₁, w₁, hq', .of_steps (.one h0 stepR_scope) harr⟩
  | outgrown => exact ⟨_, a₁, w₁, hq', .of_steps (.one h0 stepR_scope) harr⟩
theorem D_sound (hm : P.follows .mixedOrders = true) : ∀ (c : Code) (an : Ann) (ro : Option Nat) {e : Env} {Kn : Env → H → Prop} {Kx : Nat → Env → H → Prop} {Kr : Env → H → Prop} {σ : H}, D P τ N c an ro e Kn Kx Kr σ →
    ∀ (n B : Nat) (a : Act) (w : World), FR N e a → σ.le w → DefOk B σ w a.defers → B ≤ w.heap.size → c.wpIn (FW ro) n P (Post N B σ w Kn Kx Kr) a w := by
  intro c
  induction c with
  | skip => intro an ro e Kn Kx Kr σ h n B a w fr hw hd hB; exact wpIn_skip ⟨e, σ, fr, Ext.refl hw, hd, h⟩
  | label l => intro an ro e Kn Kx Kr σ h n B a w fr hw hd hB; exact wpIn_label ⟨e, σ, fr, Ext.refl hw, hd, h⟩
  | exit i => intro an ro e Kn Kx Kr σ h n B a w fr hw hd hB; exact wpIn_exit ⟨e, σ, fr, Ext.refl hw, hd, h⟩
  | ret => intro an ro e Kn Kx Kr σ h n B a w fr hw hd hB; exact wpIn_ret ⟨e, σ, fr, Ext.refl hw, hd, h⟩
  | goto l => intro an ro e Kn Kx Kr σ h; exact h.elim
  | refuse s => intro an ro e Kn Kx Kr σ h; exact h.elim
  | scope b ih =>
    intro an ro e Kn Kx Kr σ h n B a w fr hw hd hB
    cases an with
    | blk an => exact wpIn_scope (fun l a w h => h) (ih an ro h n B a w fr hw hd hB)
    | _ => exact h.elim
  | seq x y ihx ihy =>
    intro an ro e Kn Kx Kr σ h n B a w fr hw hd hB
    simp only [D] at h
    split at h
    · rename_i ax ay
      refine wpIn_seq (wpIn_mono (ihx _ _ h n B a w fr hw hd hB) fun ex a' w' hp => ?_)
      cases ex with
      | normal =>
        obtain ⟨e', σ', fr', he, hd', h'⟩ := hp
        exact wpIn_mono (ihy _ _ h' n B a' w' fr' he.le hd' (Nat.le_trans hB he.size)) fun _ _ _ => Post.pre he
      | exit i => exact hp
      | ret => exact hp
      | goto l => exact hp.elim
      | panic c => exact hp.elim
      | outgrown => exact hp.elim
    · rename_i l ax ay
      refine wpIn_seq (wpIn_mono (ihx _ _ h n B a w fr hw hd hB) fun ex a' w' hp => ?_)
      cases ex with
      | normal =>
        obtain ⟨e', σ', fr', he, hd', h'⟩ := hp
        obtain ⟨vs, hs, h'⟩ := Live.app_lam h'
        exact wpIn_mono (ihy _ _ h' n B a' w' (fr'.sel hs) he.le hd' (Nat.le_trans hB he.size)) fun _ _ _ => Post.pre he
      | exit i => exact hp
      | ret => exact hp
      | goto l => exact hp.elim
      | panic c => exact hp.elim
      | outgrown => exact hp.elim
    · exact h.elim
  | cond c x y ihx ihy =>
    intro an ro e Kn Kx Kr σ h n B a w fr hw hd hB
    simp only [D] at h
    split at h
    · rename_i ax ay t ht
      cases t with
      | true => exact wpIn_cond_true (fr.evO ht) (ihx _ _ h n B a w fr hw hd hB)
      | false => exact wpIn_cond_false (fr.evO ht) (ihy _ _ h n B a w fr hw hd hB)
    · exact h.elim
  | block id x ih =>
    intro an ro e Kn Kx Kr σ h n B a w fr hw hd hB
    simp only [D] at h
    split at h
    · refine wpIn_block (wpIn_mono (ih _ _ h n B a w fr hw hd hB) fun ex a' w' hp => ?_)
      cases ex with
      | normal => exact hp
      | exit i =>
        obtain ⟨e', σ', fr', he, hd', h'⟩ := hp
        simp only [Exit.inBlock]
        split at h'
        · rename_i hb
          rw [if_pos (Nat.eq_of_beq_eq_true hb)]; exact ⟨e', σ', fr', he, hd', h'⟩
        · rename_i hb
          rw [if_neg (Nat.ne_of_beq_eq_false hb)]; exact ⟨e', σ', fr', he, hd', h'⟩
      | ret => exact hp
      | goto l => exact hp.elim
      | panic c => exact hp.elim
      | outgrown => exact hp.elim
    · exact h.elim
  | loop x ih =>
    intro an ro e Kn Kx Kr σ h n B a w fr hw hd hB
    simp only [D] at h
    split at h
    · rename_i l ax
      have h1 := h (lamC l.ks fun vs σ' => ∀ a w, FR N (l.zip vs) a → σ'.le w → DefOk B σ' w a.defers → B ≤ w.heap.size → LoopIn (FW ro) n P x (Post N B σ' w Kn Kx Kr) a w) (leC_lam _ fun vs σ' hD a w fr hw hd hB => ?_)
      · obtain ⟨vs, g, hs, hg, h1⟩ := Live.app_get h1
        rw [prjC_lamC _ _ _ _ hg] at h1
        exact wpIn_loopIn (h1 a w (fr.sel hs) hw hd hB)
      · refine loopIn_round (wpIn_mono (ih _ _ hD n B a w fr hw hd hB) fun ex a' w' hp => ?_)
        cases ex with
        | normal =>
          obtain ⟨e', σ'', fr', he, hd', h'⟩ := hp
          obtain ⟨vs', g, hs, hg, h'⟩ := Live.app_get h'
          rw [prjC_lamC _ _ _ _ hg] at h'
          intro b k cs hro hb hr
          obtain ⟨e2, a2, w2, hq, harr⟩ := h' a' w' (fr'.sel hs) he.le hd' (Nat.le_trans hB he.size) b k cs hro hb hr
          exact ⟨e2, a2, w2, Post.pre he hq, harr⟩
        | exit i => exact hp
        | ret => exact hp
        | goto l => exact hp.elim
        | panic c => exact hp.elim
        | outgrown => exact hp.elim
    · exact h.elim
  | region id ops draw =>
    intro an ro e Kn Kx Kr σ h n B a w fr hw hd hB
    simp only [D] at h
    split at h
    · rename_i π AL
      split at h
      · rename_i hok
        refine draw_sound (fun _ _ _ _ hs ⟨q', e', hpr, h⟩ => ⟨q', e', hpr.mono hs, h⟩) hm hok hw (rgF_sound (p := []) _ (fun y hy => by simp at hy) fr h) fun p' a' σ' w' he ⟨q', e', _, fr', hde, hk⟩ => ?_
        exact ⟨e', σ', fr', he, by rw [hde]; exact hd.ext he, hk⟩
      · exact h.elim
    · refine wpIn_region (run_sound _ hw (rgF_sound (p := []) _ (fun y hy => by simp at hy) fr h) fun p' a' σ' w' he ⟨q', e', _, fr', hde, hk⟩ => ?_)
      exact ⟨e', σ', fr', he, by rw [hde]; exact hd.ext he, hk⟩
    · rename_i p i m1 j m2 AL
      split at h
      · rename_i hok
        have h0 := rgF_sound (p := []) _ (fun y hy => by simp at hy) fr h
        have h1 := SRunD.mono (K' := fun q a1 σ1 => SRunD P ops (clI P ops.toList) (ancOf AL) q (i :: m1) a1 (fun p' a' σ' => ∃ q' e', PR P q' p' ∧ FR N e' a' ∧ a'.defers = a.defers ∧ Kn e' σ') σ1 ∧ SRunD P ops (clI P ops.toList) (ancOf AL) q (j :: m2) a1 (fun p' a' σ' => ∃ q' e', PR P q' p' ∧ FR N e' a' ∧ a'.defers = a.defers ∧ Kn e' σ') σ1)
          (fun q a1 σ1 ⟨q', e', hpr, fr', hde, hb⟩ => ⟨by rw [← hde]; exact rgF_sound _ hpr fr' hb.1, by rw [← hde]; exact rgF_sound _ hpr fr' hb.2⟩) p (Fin.of_le hw) h0
        refine draw2_sound (fun _ _ _ _ hs ⟨q', e', hpr, h⟩ => ⟨q', e', hpr.mono hs, h⟩) hm hok hw h1 fun p' a' σ' w' he ⟨q', e', _, fr', hde, hk⟩ => ?_
        exact ⟨e', σ', fr', he, by rw [hde]; exact hd.ext he, hk⟩
      · exact h.elim
    · exact h.elim
  | rangeFunc f ps asg body iha ihb =>
    intro an ro e Kn Kx Kr σ h n B a w fr hw hd hB
    simp only [D] at h
    split at h
    · rename_i ks aa ab fv hf
      split at h
      · rename_i hgl
        simp only [Bool.and_eq_true] at hgl
        obtain ⟨hsl, hlt⟩ := hgl
        have hsl := sameLen_eq _ _ hsl
        unfold funW at h
        split at h
        case h_2 => exact h.elim
        rename_i g as0 cs
        obtain ⟨hg, hro, h⟩ := h
        refine wpIn_rangeFunc fun fn _ => ?_
        -- the record
        have enter : ∃ (l dblk : Nat) (mark : List Deferred) (w₁ : World),
            (Instr.enterLoop fn a.tmps ps asg body ro).run P w = .ok (l, mark) w₁ ∧ σ l = none ∧
            Ext σ w (σ.put l (.loop { state := .ready, pending := none, fn, tmps := a.tmps, params := ps, assign := asg, body, defers := dblk })) w₁ ∧ DefOk B (σ.put l (.loop { state := .ready, pending := none, fn, tmps := a.tmps, params := ps, assign := asg, body, defers := dblk })) w₁ (mark ++ a.defers) := by
          cases ro with
          | none =>
            refine ⟨w.heap.size + 1, w.heap.size, [markOf w.heap.size], (w.alloc (.deferred (some []))).alloc (.loop { state := .ready, pending := none, fn, tmps := a.tmps, params := ps, assign := asg, body, defers := w.heap.size }), ?_, ?_, ?_, ?_⟩
            · simp [Instr.enterLoop, markOf, World.alloc_eq]
            · cases hc : σ (w.heap.size + 1) with
              | none => rfl
              | some o => have := hw.lt hc; omega
            · have e1 := Ext.allocOut hw (.deferred (some []))
              have e2 := (Ext.alloc e1.le (.loop { state := .ready, pending := none, fn, tmps := a.tmps, params := ps, assign := asg, body, defers := w.heap.size })).2
              have : (w.alloc (.deferred (some []))).heap.size = w.heap.size + 1 := by show (w.heap.push _).size = _; simp
              rw [this] at e2
              exact e1.trans e2
            · obtain ⟨ms, h1, h2, h3⟩ := hd
              have hlt' : ∀ r ∈ ms, r < w.heap.size := fun r hr => by
                have := (h3 r hr).2.2
                rcases Nat.lt_or_ge r w.heap.size with h | h
                · exact h
                · rw [Array.getElem?_eq_none h] at this; cases this
              have hget : ∀ (o o' : Obj) (r : Nat), r < w.heap.size → ((w.alloc o).alloc o').heap[r]? = w.heap[r]? := by
                intro o o' r hr
                show ((w.heap.push o).push o')[r]? = _
                rw [Array.getElem?_push, if_neg (by simp only [Array.size_push]; omega), Array.getElem?_push, if_neg (by omega)]
              refine ⟨w.heap.size :: ms, List.nodup_cons.2 ⟨fun hr => Nat.lt_irrefl _ (hlt' _ hr), h1⟩, by simp [h2], fun r hr => ?_⟩
              rcases List.mem_cons.1 hr with rfl | hr
              · refine ⟨hB, ?_, ?_⟩
                · rw [H.put_other _ _ (by omega)]
                  cases hc : σ w.heap.size with
                  | none => rfl
                  | some o => have := hw.lt hc; omega
                · show ((w.heap.push _).push _)[w.heap.size]? = _
                  rw [Array.getElem?_push, if_neg (by simp)]
                  simp
              · obtain ⟨q1, q2, q3⟩ := h3 r hr
                have := hlt' r hr
                exact ⟨q1, by rw [H.put_other _ _ (by omega)]; exact q2, by rw [hget _ _ r this]; exact q3⟩
          | some l0 =>
            obtain ⟨r0, hr0⟩ := hro l0 rfl
            have e1 := Ext.alloc hw (.loop { state := .ready, pending := none, fn, tmps := a.tmps, params := ps, assign := asg, body, defers := r0.defers })
            refine ⟨w.heap.size, r0.defers, [], w.alloc (.loop { state := .ready, pending := none, fn, tmps := a.tmps, params := ps, assign := asg, body, defers := r0.defers }), ?_, e1.1, e1.2, ?_⟩
            · simp [Instr.enterLoop, run_getLoop (hw _ _ hr0), World.alloc_eq]
            · exact hd.ext e1.2
        obtain ⟨l, dblk, mark, w₁, hrun, hfresh, hext, hdef⟩ := enter
        let obj : LoopState → Option Code → Obj := fun s j => .loop { state := s, pending := j, fn, tmps := a.tmps, params := ps, assign := asg, body, defers := dblk }
        have hobj : LoopObj obj := ⟨{ state := .ready, pending := none, fn, tmps := a.tmps, params := ps, assign := asg, body, defers := dblk }, fun _ _ => rfl⟩
        refine ⟨l, mark, w₁, { target := .fn (.func g) ⟨cs⟩, args := ⟨as0⟩ ++ #[yv l] }, w₁, g, (as0 ++ [yv l] ++ cs).toArray, w₁, hrun, ?_, fun _ _ => trivial, ?_, (fun h => by cases h), ?_⟩
        · have : a.eval f = .func (.func g) ⟨as0⟩ ⟨cs⟩ := fr.evO hf
          show (Deferred.ofValue (a.eval f) (#[Operand.const (yv l)].map a.eval)).run P w₁ = _
          rw [this]
          simp [Deferred.ofValue, Act.eval]
        · show (callFunc g _).run P w₁ = _
          rw [callFunc_go hg]; simp
        · have hY := h l obj hfresh hobj (by
            intro args K σ' hb wy hwy
            obtain ⟨hl, hD⟩ := hb
            unfold runO at hD
            split at hD
            case h_2 => exact hD.elim
            rename_i gD hgD
            have hlen : ps.toList.length = args.length := by rw [hsl]; exact prjC_len _ _ _ _ hgD
            rw [prjC_lamC _ _ _ _ hgD] at hD
            have fr' := puts_fr _ _ fr hlt hlen
            have hgl := run_getLoop (P := P) (hwy l _ hl)
            have hy : (callS (.func (.yield l) #[] #[]) args).run P wy = .ok (.round l fn ((ps.toList.zip args).foldl (fun tmps (x : Nat × Value) => tmps.setIfInBounds x.1 x.2) a.tmps) asg body) wy := by
              have hsz : ¬ (args.length ≠ ps.size) := by
                have : ps.toList.length = args.length := hlen
                simp at this; omega
              simp only [callS, Deferred.ofValue, Sem.run_bind, Sem.run_pure, Result.andThen_ok, invoke, Instr.yield, hgl]
              have hz : (ps.zip (#[] ++ (⟨args⟩ : Array Value))) = ⟨ps.toList.zip args⟩ := by apply Array.ext'; simp
              rw [hz]
              simp [hsz]
            rw [hy]
            show RoundIn Fence.wide 0 P l fn _ asg body wy _
            refine roundIn_of_wpIn trivial ?_
            refine wpIn_mono (iha aa (some l) hD 0 0 { tmps := _, defers := [] } wy ⟨fr'.size, fr'.get⟩ hwy (DefOk.nil _ _ _) (Nat.zero_le _)) fun ex a₁ w₂ hp => ?_
            cases ex with
            | normal =>
              obtain ⟨e1, σ1, fr1, he1, _, hl1, hD1⟩ := hp
              have hgl1 := run_getLoop (P := P) (he1.le l _ hl1)
              refine ⟨{ w₂ with heap := w₂.heap.setIfInBounds l (obj .busy none) }, ?_, ?_⟩
              · simp only [Instr.beginRound, Sem.run_bind, hgl1, Result.andThen_ok]
                rw [run_setLoop (P := P) (he1.le l _ hl1)]
                rfl
              · have e2 : Ext σ1 w₂ (σ1.put l (obj .busy none)) { w₂ with heap := w₂.heap.setIfInBounds l (obj .busy none) } := Ext.set he1.le hl1 rfl rfl rfl rfl
                refine wpIn_mono (ihb ab (some l) hD1 0 0 a₁ _ fr1 e2.le (by rename_i hdd; exact hdd.ext e2) (Nat.zero_le _)) fun ex a₃ w₃ hp => ?_
                have fin : ∀ (σ2 : H) (j : Option Code) (b : Bool) (s : LoopState), Ext (σ1.put l (obj .busy none)) { w₂ with heap := w₂.heap.setIfInBounds l (obj .busy none) } σ2 w₃ → roundK l obj K j b s σ2 → b = j.isNone → s = (if j.isNone then .ready else .done) →
                    ∃ v w', (Instr.endRound l j).run P w₃ = .ok v w' ∧ ∃ v', Ending.returned v = .returned v' ∧ ∃ σ'', Ext σ' wy σ'' w' ∧ K v' σ'' := by
                  intro σ2 j b s he2 hrk hb hs
                  obtain ⟨hl2, hk⟩ := hrk
                  have hgl2 := run_getLoop (P := P) (he2.le l _ hl2)
                  refine ⟨.bool b, { w₃ with heap := w₃.heap.setIfInBounds l (obj s j) }, ?_, .bool b, rfl, σ2.put l (obj s j), ?_, hk⟩
                  · simp only [Instr.endRound, Sem.run_bind, hgl2, Result.andThen_ok]
                    rw [run_setLoop (P := P) (he2.le l _ hl2)]
                    subst hb hs; rfl
                  · exact ((he1.trans e2).trans he2).trans (Ext.set he2.le hl2 rfl rfl rfl rfl)
                cases ex with
                | normal => obtain ⟨_, σ2, _, he2, _, hk⟩ := hp; exact fin σ2 none true .ready he2 hk rfl rfl
                | exit i => obtain ⟨_, σ2, _, he2, _, hk⟩ := hp; exact fin σ2 (some (.exit i)) false .done he2 hk rfl rfl
                | ret => obtain ⟨_, σ2, _, he2, _, hk⟩ := hp; exact fin σ2 (some .ret) false .done he2 hk rfl rfl
                | goto l => exact hp.elim
                | panic c => exact hp.elim
                | outgrown => exact hp.elim
            | exit i => obtain ⟨_, _, _, _, _, hk⟩ := hp; exact hk.elim
            | ret => obtain ⟨_, _, _, _, _, hk⟩ := hp; exact hk.elim
            | goto l => exact hp.elim
            | panic c => exact hp.elim
            | outgrown => exact hp.elim)
          refine (callsIn_any (ro := ro) (n := n - 1) (hY w₁ hext.le)).mono fun en w₃ hr => ?_
          obtain ⟨v, rfl, σ', he', s, j, hl', hns, hj⟩ := hr
          have hgl := run_getLoop (P := P) (he'.le l _ hl')
          have e4 : Ext σ' w₃ (σ'.put l (obj .exhausted j)) { w₃ with heap := w₃.heap.setIfInBounds l (obj .exhausted j) } := Ext.set he'.le hl' rfl rfl rfl rfl
          refine ⟨j, { w₃ with heap := w₃.heap.setIfInBounds l (obj .exhausted j) }, ?_, ?_⟩
          · simp only [Instr.endLoop, Sem.run_bind, hgl, Result.andThen_ok]
            have : (s == LoopState.busy) = false := by simpa using hns
            simp only [this, Bool.false_eq_true, if_false, Sem.run_bind]
            rw [run_setLoop (P := P) (he'.le l _ hl')]
            rfl
          · have hde := (hdef.ext he').ext e4
            have het := (hext.trans he').trans e4
            split at hj
            · exact ⟨e, _, ⟨fr.size, fr.get⟩, het, hde, hj⟩
            · exact wpIn_exit ⟨e, _, ⟨fr.size, fr.get⟩, het, hde, hj⟩
            · exact wpIn_ret ⟨e, _, ⟨fr.size, fr.get⟩, het, hde, hj⟩
            · exact hj.elim
      · exact h.elim
    · exact h.elim
end
end Go.HL

namespace Go.HL
open Go
section
variable {P : Program} {τ : TypeId → TK} {N : Nat}

def resOne (tmps : Array Value) : ResultVar → Sem Value
  | .tmp t => pure (tmps.getD t undef)
  | .cell a t => do loadVar t (← asAddr (tmps.getD a undef))

theorem resG_sound {e : Env} {a : Act} (fr : FR N e a) {w : World} : ∀ (rs : List ResultVar) {k : List Value → H → Prop} {σ : H}, σ.le w → resG P τ e rs k σ →
    ∃ vs, (rs.mapM (resOne a.tmps)).run P w = .ok vs w ∧ k vs σ := by
  intro rs
  induction rs with
  | nil => intro k σ _ h; exact ⟨[], by simp, h⟩
  | cons r rs ih =>
    intro k σ hw h
    cases r with
    | tmp t =>
      simp only [resG] at h
      split at h
      · rename_i v hv
        obtain ⟨vs, h1, h2⟩ := ih hw h
        refine ⟨v :: vs, ?_, h2⟩
        have : a.tmps.getD t undef = v := by simp [fr.get t v hv]
        simp [List.mapM_cons, resOne, this, h1]
      · exact h.elim
    | cell c t =>
      simp only [resG] at h
      split at h
      · rename_i p hp ha
        obtain ⟨b, o, rfl, v, hr, h⟩ := ptrW_get h
        obtain ⟨vs, h1, h2⟩ := ih hw (app_lam h)
        refine ⟨v :: vs, ?_, h2⟩
        have hc : a.tmps.getD c undef = .pointer (some ⟨b, o, none⟩) := by simp [fr.get c _ hp]
        have hl := rdC_sound ha hr hw
        simp only [Instr.loadAt, Sem.run_bind, run_sureAddr, Result.andThen_ok] at hl
        simp [List.mapM_cons, resOne, hc, asAddr, hl, h1]
      · rename_i p n hp ha hn
        obtain ⟨b, o, rfl, v, hr, h⟩ := ptrW_get h
        obtain ⟨vs, h1, h2⟩ := ih hw (app_lam h)
        refine ⟨v :: vs, ?_, h2⟩
        have hc : a.tmps.getD c undef = .pointer (some ⟨b, o, none⟩) := by simp [fr.get c _ hp]
        have hl := rdA_sound ha hn hr hw
        simp only [Instr.loadAt, Sem.run_bind, run_sureAddr, Result.andThen_ok] at hl
        simp [List.mapM_cons, resOne, hc, asAddr, hl, h1]
      · exact h.elim
theorem resF_sound {fn : Func} {e : Env} {a : Act} (fr : FR N e a) {w : World} {K : Value → H → Prop} {σ : H} (hw : σ.le w) (h : resF P τ fn.results.toList K e σ) :
    ∃ v, (results fn a.tmps).run P w = .ok v w ∧ K v σ := by
  obtain ⟨vs, h1, h2⟩ := resG_sound fr _ hw h
  refine ⟨tupL vs, ?_, h2⟩
  simp only [results, Sem.run_bind]
  have h3 : (fn.results.mapM (resOne a.tmps)).run P w = .ok vs.toArray w := by
    rw [Array.mapM_eq_mapM_toList]
    simp [h1]
  show ((fn.results.mapM (resOne a.tmps)).run P w).andThen _ = _
  rw [h3]
  simp only [Result.andThen_ok, Sem.run_pure]
  congr 1
  cases vs with
  | nil => rfl
  | cons v vs => cases vs with
    | nil => rfl
    | cons u us => simp [tupL]

theorem argE_get : ∀ (vs : List Value) (i j : Nat) (v : Value), (argE i vs).get? j = some v → i ≤ j ∧ vs[j - i]? = some v := by
  intro vs
  induction vs with
  | nil => intro i j v h; simp [argE, Env.get?] at h
  | cons u vs ih =>
    intro i j v h
    simp only [argE, Env.get?] at h
    split at h
    · rename_i hb
      have := Nat.eq_of_beq_eq_true hb
      subst this; cases h; simp
    · obtain ⟨h1, h2⟩ := ih (i + 1) j v h
      refine ⟨by omega, ?_⟩
      rw [show j - i = (j - (i + 1)) + 1 by omega]
      simpa using h2

theorem leaves_marks {fn : Func} {tmps : Array Value} {R : Ending → World → Prop} {n B : Nat} {σ : H} : ∀ (ms : List Nat) (w : World), ms.Nodup → (∀ r ∈ ms, B ≤ r ∧ σ r = none ∧ w.heap[r]? = some (.deferred (some []))) → σ.le w →
    (∀ w', σ.le w' → w'.heap.size = w.heap.size → (∀ b, b < B → w'.heap[b]? = w.heap[b]?) → w'.os = w.os → w'.tape = w.tape → w'.output = w.output → ∃ v, (results fn tmps).run P w' = .ok v w' ∧ R (.returned v) w') →
    LeavesInM Fence.wide n P fn tmps R (ms.map markOf) .returning w := by
  intro ms
  induction ms with
  | nil =>
    intro w _ _ hw h
    exact h w hw rfl (fun _ _ => rfl) rfl rfl rfl
  | cons r ms ih =>
    intro w hnd hms hw h
    obtain ⟨hrm, hnd⟩ := List.nodup_cons.1 hnd
    obtain ⟨hB, hn, hr⟩ := hms r (List.mem_cons_self ..)
    have hle : σ.le { w with heap := w.heap.setIfInBounds r (.deferred none) } := by
      intro b o hb
      have hne : r ≠ b := by intro e; subst e; rw [hn] at hb; cases hb
      show (w.heap.setIfInBounds r (.deferred none))[b]? = _
      rw [Array.getElem?_setIfInBounds, if_neg hne]; exact hw b o hb
    refine ⟨by simp, .inl ⟨r, { w with heap := w.heap.setIfInBounds r (.deferred none) }, rfl, ?_, ?_⟩⟩
    · have hg : (getObj r).run P w = .ok (.deferred (some [])) w := by simp [getObj, Sem.run, hr]
      have hs : (setObj r (.deferred none)).run P w = .ok () { w with heap := w.heap.setIfInBounds r (.deferred none) } := by simp [setObj, Sem.run, hr]
      simp [Instr.takeDeferred, hg, hs]
    · refine ih _ hnd (fun r' hr' => ?_) hle fun w' h1 h2 h3 h4 h5 h6 => ?_
      · obtain ⟨q1, q2, q3⟩ := hms r' (List.mem_cons_of_mem _ hr')
        refine ⟨q1, q2, ?_⟩
        have hne : r ≠ r' := by intro e; subst e; exact hrm hr'
        show (w.heap.setIfInBounds r (.deferred none))[r']? = _
        rw [Array.getElem?_setIfInBounds, if_neg hne]; exact q3
      · refine h w' h1 (by simpa using h2) (fun b hb => ?_) h4 h5 h6
        rw [h3 b hb]
        show (w.heap.setIfInBounds r (.deferred none))[b]? = _
        rw [Array.getElem?_setIfInBounds, if_neg (by omega)]

theorem call_of_body (hm : P.follows .mixedOrders = true) {f : FuncId} {fn : Func} (hf : P.funcs[f]? = some fn) {an : Ann} {args : List Value} {K : Value → H → Prop} {σ : H} (h : bodyF P τ fn an args K σ) : callW P f args K σ := by
  unfold bodyF at h
  split at h
  · rename_i c hc
    split at h
    · rename_i hle
      have hle := Nat.le_of_ble_eq_true hle
      intro w hw
      refine callsIn_of_wp_marks hf hc trivial ?_
      have fr : FR fn.ntmps (argE 0 args) { tmps := args.toArray ++ Array.replicate (fn.ntmps - args.toArray.size) undef, defers := [] } := by
        refine ⟨by simp; omega, fun i v hi => ?_⟩
        obtain ⟨_, h2⟩ := argE_get args 0 i v hi
        simp only [Nat.sub_zero] at h2
        have hlt : i < args.length := by
          rcases Nat.lt_or_ge i args.length with h | h
          · exact h
          · rw [List.getElem?_eq_none h] at h2; cases h2
        rw [Array.getElem?_append, if_pos (by simpa using hlt)]
        simpa using h2
      refine wpIn_mono (D_sound hm c an none h 0 w.heap.size _ w fr hw (DefOk.nil _ _ _) (Nat.le_refl _)) fun ex a w' hp => ?_
      have fin : ∀ e σ', FR fn.ntmps e a → Ext σ w σ' w' → DefOk w.heap.size σ' w' a.defers → resF P τ fn.results.toList K e σ' →
          LeavesInM Fence.wide 0 P fn a.tmps (fun e w' => ∃ v, e = .returned v ∧ ∃ σ', Ext σ w σ' w' ∧ K v σ') a.defers .returning w' := by
        intro e σ' fr' he hd hres
        obtain ⟨ms, h1, h2, h3⟩ := hd
        rw [h2]
        refine leaves_marks ms w' h1 h3 he.le fun w'' q1 q2 q3 q4 q5 q6 => ?_
        obtain ⟨v, hv, hk⟩ := resF_sound fr' q1 hres
        refine ⟨v, hv, v, rfl, σ', ⟨q1, by rw [q2]; exact he.size, fun b hb hn => by rw [q3 b hb]; exact he.keep b hb hn, he.own, q4.trans he.os, q5.trans he.tape, q6.trans he.output⟩, hk⟩
      cases ex with
      | normal => obtain ⟨e, σ', fr', he, hd, hres⟩ := hp; exact fin e σ' fr' he hd hres
      | ret => obtain ⟨e, σ', fr', he, hd, hres⟩ := hp; exact fin e σ' fr' he hd hres
      | exit i => obtain ⟨_, _, _, _, _, hres⟩ := hp; exact hres.elim
      | goto l => exact hp.elim
      | panic c => exact hp.elim
      | outgrown => exact hp.elim
    · exact h.elim
  · exact h.elim
end
end Go.HL

namespace Go.HL
open Go

/-- what is there stays there -/
def Gr (σ σ' : H) : Prop := ∀ b o, σ b = some o → σ' b = some o
theorem Gr.refl (σ : H) : Gr σ σ := fun _ _ h => h
theorem Gr.trans {σ₁ σ₂ σ₃ : H} (h : Gr σ₁ σ₂) (k : Gr σ₂ σ₃) : Gr σ₁ σ₃ := fun b o hb => k b o (h b o hb)
theorem Gr.get {σ σ' : H} (h : Gr σ σ') {b : Nat} {o : Obj} (hb : σ b = some o) : σ' b = some o := h b o hb
theorem Gr.put {σ : H} {b : Nat} (hb : σ b = none) (o : Obj) : Gr σ (σ.put b o) := by
  intro c oc hc
  rw [H.put_other]
  · exact hc
  · intro e; subst e; rw [hb] at hc; cases hc
/-- one block is set -/
def Put (σ : H) (b : Nat) (o : Obj) (σ' : H) : Prop := σ' = σ.put b o
theorem Put.same {σ σ' : H} {b : Nat} {o : Obj} (h : Put σ b o σ') : σ' b = some o := by rw [h, H.put_same]
theorem Put.get {σ σ' : H} {b c : Nat} {o oc : Obj} (h : Put σ b o σ') (hne : c ≠ b) (hc : σ c = some oc) : σ' c = some oc := by rw [h, H.put_other _ _ hne]; exact hc
theorem Ext.drop {σ σ' σ'' : H} {w w' : World} (h : Ext σ w σ' w') (hg : Gr σ'' σ') : Ext σ w σ'' w' :=
  ⟨fun b o hb => h.le b o (hg b o hb), h.size, h.keep, fun b o hb hn => h.own b o (hg b o hb) hn, h.os, h.tape, h.output⟩
section
variable {P : Program}
/-- what is made besides may be forgotten -/
theorem callW.drop {f : FuncId} {args : List Value} {K K' : Value → H → Prop} {σ : H} (h : callW P f args K' σ) (hk : ∀ v σ', K' v σ' → ∃ σ'', Gr σ'' σ' ∧ K v σ'') : callW P f args K σ := by
  intro w hw
  refine (h w hw).mono fun e w' ⟨v, he, σ', hx, hk'⟩ => ?_
  obtain ⟨σ'', hg, hk''⟩ := hk v σ' hk'
  exact ⟨v, he, σ'', hx.drop hg, hk''⟩
theorem invW.drop {s : Sem Next} {K K' : Value → H → Prop} {σ : H} (h : invW P s K' σ) (hk : ∀ v σ', K' v σ' → ∃ σ'', Gr σ'' σ' ∧ K v σ'') : invW P s K σ := by
  intro w hw
  refine (h w hw).mono fun v w' ⟨σ', hx, hk'⟩ => ?_
  obtain ⟨σ'', hg, hk''⟩ := hk v σ' hk'
  exact ⟨σ'', hx.drop hg, hk''⟩
/-! ### Steps -/
theorem ptr_i {b o : Nat} {g : Nat → Nat → H → Prop} {σ : H} (h : g b o σ) : ptrW (some ⟨b, o, none⟩) g σ := h
theorem br_t {t : Bool} {A B : H → Prop} {σ : H} (ht : t = true) (h : A σ) : brW t A B σ := by subst ht; exact h
theorem br_f {t : Bool} {A B : H → Prop} {σ : H} (ht : t = false) (h : B σ) : brW t A B σ := by subst ht; exact h
theorem rdC_of {σ : H} {b o : Nat} {l : List Value} {t : TypeId} {fz : Nat × Nat} {v : Value} (h : σ b = some (.cells ⟨l⟩ t fz)) (hv : l[o]? = some v) : rdC b o σ = some v := by
  simp [rdC, h, hv]
theorem rdA_of {σ : H} {n b o : Nat} {l : List Value} {t : TypeId} {fz : Nat × Nat} (h : σ b = some (.cells ⟨l⟩ t fz)) (hv : o + n ≤ l.length) : rdA n b o σ = some (.agg ⟨(l.drop o).take n⟩) := by
  simp [rdA, h, hv]
section
variable {σ : H} {r : H → Option Value}
theorem rd_P {x : Option Addr} {F : Option Addr → H → Prop} (h : r σ = some (.pointer x)) (h2 : F x σ) : rdT r (.one (.sc .ptr)) F σ := ⟨_, h, h2⟩
theorem app_B {x : Bool} {F : Bool → H → Prop} (h2 : F x σ) : app (.one (.sc .bool)) F (.bool x) σ := h2
theorem app_P {x : Option Addr} {F : Option Addr → H → Prop} (h2 : F x σ) : app (.one (.sc .ptr)) F (.pointer x) σ := h2
theorem app_R {x : Value} {F : Value → H → Prop} (h2 : F x σ) : app (.one (.sc .raw)) F x σ := h2
theorem app_U {F : H → Prop} (h2 : F σ) : app (.tup []) F (.tuple ⟨[]⟩) σ := h2
end
/-! ### Storing -/
end
theorem none_of {σ σ' : H} {b : Nat} (hg : Gr σ σ') (h : σ' b = none) : σ b = none := by
  cases hc : σ b with
  | none => rfl
  | some o => rw [hg b o hc] at h; cases h
end Go.HL

namespace Go.HL
open Go
/-- a chain of one panic -/
def chain1 (v : Value) : List PanicEntry := [{ v, recovered := false }]
/-- a call that returns, or panics with one value -/
def callX (P : Program) (f : FuncId) (args : List Value) (K X : Value → H → Prop) (σ : H) : Prop :=
  ∀ w, σ.le w → CallsIn Fence.wide 0 P f args.toArray w fun e w' => (∃ v, e = .returned v ∧ ∃ σ', Ext σ w σ' w' ∧ K v σ') ∨ (∃ v, e = .panicked (chain1 v) ∧ ∃ σ', Ext σ w σ' w' ∧ X v σ')
theorem callX.mono {P : Program} {f : FuncId} {args : List Value} {K K' X X' : Value → H → Prop} {σ : H} (h : callX P f args K X σ) (hk : ∀ v σ', K v σ' → K' v σ') (hx : ∀ v σ', X v σ' → X' v σ') : callX P f args K' X' σ :=
  fun w hw => (h w hw).mono fun _ _ h => h.imp (fun ⟨v, e, σ', he, hv⟩ => ⟨v, e, σ', he, hk _ _ hv⟩) (fun ⟨v, e, σ', he, hv⟩ => ⟨v, e, σ', he, hx _ _ hv⟩)
theorem callX.drop {P : Program} {f : FuncId} {args : List Value} {K K' X X' : Value → H → Prop} {σ : H} (h : callX P f args K' X' σ) (hk : ∀ v σ', K' v σ' → ∃ σ'', Gr σ'' σ' ∧ K v σ'') (hx : ∀ v σ', X' v σ' → ∃ σ'', Gr σ'' σ' ∧ X v σ'') : callX P f args K X σ := by
  intro w hw
  refine (h w hw).mono fun e w' h => ?_
  rcases h with ⟨v, he, σ', hx', hk'⟩ | ⟨v, he, σ', hx', hk'⟩
  · obtain ⟨σ'', hg, hk''⟩ := hk v σ' hk'
    exact .inl ⟨v, he, σ'', ⟨fun b o hb => hx'.le b o (hg b o hb), hx'.size, hx'.keep, fun b o hb hn => hx'.own b o (hg b o hb) hn, hx'.os, hx'.tape, hx'.output⟩, hk''⟩
  · obtain ⟨σ'', hg, hk''⟩ := hx v σ' hk'
    exact .inr ⟨v, he, σ'', ⟨fun b o hb => hx'.le b o (hg b o hb), hx'.size, hx'.keep, fun b o hb hn => hx'.own b o (hg b o hb) hn, hx'.os, hx'.tape, hx'.output⟩, hk''⟩
def elemB (g : Nat) : List Nat → Bool
  | [] => false
  | x :: r => match Nat.beq x g with
    | true => true
    | false => elemB g r
/-- what an operation's run leads to, where it may panic -/
def reachX (P : Program) (R RX : Value → World → Prop) : Result Next → Prop
  | .ok (.value v) w => R v w
  | .ok .skip w => R undef w
  | .ok (.enter f args) w => CallsIn Fence.wide 0 P f args w fun e w' => (∃ v, e = .returned v ∧ R v w') ∨ (∃ v, e = .panicked (chain1 v) ∧ RX v w')
  | .ok (.round l f tmps assign body) w => RoundIn Fence.wide 0 P l f tmps assign body w fun e w' => ∃ v, e = .returned v ∧ R v w'
  | .halt (.panic v) w => RX v w
  | _ => False
theorem reachX.of {P : Program} {R RX : Value → World → Prop} {x : Result Next} (h : reach P R x) : reachX P R RX x := by
  unfold reach at h
  unfold reachX
  split at h
  · exact h
  · exact h
  · exact h.mono fun e w' h => .inl h
  · exact h
  · exact h.elim
section
variable {P : Program} {τ : TypeId → TK} {N : Nat} {pan : List Nat} {X : Env → Value → H → Prop}
end
end Go.HL

namespace Go.HL
open Go
theorem reachX.mono {P : Program} {x : Result Next} {R R' RX RX' : Value → World → Prop} (h1 : ∀ v w, R v w → R' v w) (h2 : ∀ v w, RX v w → RX' v w) (h : reachX P R RX x) : reachX P R' RX' x := by
  unfold reachX at h ⊢
  split at h
  · exact h1 _ _ h
  · exact h1 _ _ h
  · exact CallsIn.mono h fun e w h => h.imp (fun ⟨v, q, r⟩ => ⟨v, q, h1 _ _ r⟩) (fun ⟨v, q, r⟩ => ⟨v, q, h2 _ _ r⟩)
  · exact RoundIn.mono h fun e w ⟨v, q, r⟩ => ⟨v, q, h1 _ _ r⟩
  · exact h2 _ _ h
  · exact h.elim
/-- an operation over a heaplet, which may panic -/
def invWX (P : Program) (s : Sem Next) (K X : Value → H → Prop) (σ : H) : Prop :=
  ∀ w, σ.le w → reachX P (fun v w' => ∃ σ', Ext σ w σ' w' ∧ K v σ') (fun v w' => ∃ σ', Ext σ w σ' w' ∧ X v σ') (s.run P w)
theorem invWX.mono {P : Program} {s : Sem Next} {K K' X : Value → H → Prop} {σ : H} (h : invWX P s K X σ) (hk : ∀ v σ', K v σ' → K' v σ') : invWX P s K' X σ :=
  fun w hw => (h w hw).mono (fun _ _ ⟨σ', he, hv⟩ => ⟨σ', he, hk _ _ hv⟩) fun _ _ h => h
theorem invWX.fin {P : Program} {s : Sem Next} {K X : Value → H → Prop} {σ : H} (h : invWX P s K X σ) : invWX P s (fun v σ' => Fin σ' ∧ K v σ') X σ :=
  fun w hw => (h w hw).mono (fun _ _ ⟨σ', he, hk⟩ => ⟨σ', he, Fin.of_le he.le, hk⟩) fun _ _ h => h
section
variable (P : Program) (ops : Array Oper) (cl : Nat → Nat) (A : Nat → Nat → Bool) (X : Value → H → Prop)
end
section
variable {P : Program} {ops : Array Oper} {cl : Nat → Nat} {A : Nat → Nat → Bool} {X : Value → H → Prop}
/-- the first operation of what is left may be taken -/
theorem uponIn_of_reachX {ro : Option Nat} {n : Nat} {o : Oper} {a : Act} {next : Act → World → Prop} {Q : Exit → Act → World → Prop} {x : Result Next}
    (h : reachX P (fun v w => next (a.put o.dst v) w) (fun v w => Q (.panic (chain1 v)) a w) x) : o.uponIn (FW ro) n P a next Q x := by
  unfold reachX at h
  split at h
  · exact h
  · exact h
  · refine ⟨(fun h => by cases h), ?_⟩
    have h' := callsIn_any (ro := ro) (n := n - 1) h
    refine h'.mono fun e w' hh => ?_
    rcases hh with ⟨v, he, hv⟩ | ⟨v, he, hv⟩
    · subst he; exact hv
    · subst he; exact hv
  · refine ⟨(fun h => by cases h), ?_⟩
    have h' := roundIn_any (ro := ro) (n := n - 1) h
    refine h'.mono fun e w' ⟨v, he, hv⟩ => ?_
    subst he; exact hv
  · exact h
  · exact h.elim
/-! ### Two effects that no order binds: both orders are gone -/
end
section
variable {P : Program} {τ : TypeId → TK} {N : Nat} {ops : Array Oper} {A : Nat → Nat → Bool} {pan : List Nat} {X : Value → H → Prop}
end
end Go.HL

namespace Go.HL
open Go
section
variable {P : Program} {τ : TypeId → TK} {N : Nat} {pan : List Nat} {X : Env → Value → H → Prop}
end

section
variable {P : Program} {τ : TypeId → TK} {N : Nat} {pan : List Nat} {X : Env → Value → H → Prop}
end
end Go.HL

namespace Go.HL
open Go
section
variable {P : Program} {τ : TypeId → TK} {pan : List Nat}
end
/-! ### Calls that are put off -/
structure Df where
  g : FuncId
  as_ : List Value
  cs : List Value
def Df.d (x : Df) : Deferred := { target := .fn (.func x.g) ⟨x.cs⟩, args := ⟨x.as_⟩ }
/-- how a frame leaves -/
inductive Md where
  | ret | pan (v : Value)
def Md.mode : Md → FrameMode
  | .ret => .returning
  | .pan v => .panicking (chain1 v)
def callD (P : Program) (g : FuncId) (args : List Value) (m : Md) (K : Md → H → Prop) (σ : H) : Prop :=
  ∀ w, σ.le w → CallsDIn Fence.wide 0 P g args.toArray m.mode w fun e u' w' => ∃ m' σ', Ext σ w σ' w' ∧ K m' σ' ∧ ∃ v, e = .returned v ∧ settle u' = m'.mode
/-- how it goes on, by how the frame leaves -/
def mdK (A : H → Prop) (X : Value → H → Prop) (m : Md) : H → Prop :=
  match m with
  | .ret => A
  | .pan v => X v
section
variable {P : Program} {τ : TypeId → TK} {pan : List Nat} {N : Nat}
/-! ### What is put off -/
end
end Go.HL

namespace Go.HL
open Go
def Md.rv : Md → Value
  | .ret => .nilIface
  | .pan v => v
def recMode : Md → FrameMode
  | .ret => .returning
  | .pan v => .panicking [{ v, recovered := true }]
section
variable {P : Program} {τ : TypeId → TK} {N : Nat}
end
end Go.HL

namespace Go.HL
open Go

/-- a map's entries, whatever their stamps -/
def MapAt (σ : H) (b : Nat) (l : List (Value × Value)) : Prop := ∃ es c, σ b = some (.map es c) ∧ es.toList.map (fun e => (e.key, e.val)) = l ∧ MapKept.Stamped es c
theorem MapAt.put {σ σ' : H} {b c : Nat} {o : Obj} {l : List (Value × Value)} (h : MapAt σ b l) (hp : Put σ c o σ') (hne : b ≠ c) : MapAt σ' b l := by
  obtain ⟨es, k, h1, h2⟩ := h; exact ⟨es, k, hp.get hne h1, h2⟩
/-- looking up by a key -/
def lk {κ α : Type} [BEq κ] (k : κ) : List (κ × α) → Option α
  | [] => none
  | (j, v) :: r => match k == j with
    | true => some v
    | false => lk k r
/-- setting a key -/
def up {κ α : Type} [BEq κ] (k : κ) (v : α) : List (κ × α) → List (κ × α)
  | [] => [(k, v)]
  | (j, u) :: r => match k == j with
    | true => (k, v) :: r
    | false => (j, u) :: up k v r
/-- letting a key go -/
def rm {κ α : Type} [BEq κ] (k : κ) : List (κ × α) → List (κ × α)
  | [] => []
  | (j, u) :: r => match k == j with
    | true => r
    | false => (j, u) :: rm k r

/-- a key's kind -/
structure KK (κ : Type) [BEq κ] where
  d : TypeDesc
  inj : κ → Value
  same : ∀ a b, Instr.sameNow d (inj a) (inj b) = some (a == b)
  bits : ∀ a b, (a == b) = true → Instr.sameBits 10000 (inj b) (inj a) = true
  refl : ∀ a : κ, (a == a) = true
  eq : ∀ a b, (a == b) = true → inj a = inj b
  scal : scalD d = true
theorem ba_ext {a b : ByteArray} (h : a.toList = b.toList) : a = b := by
  rw [ByteArray.toList_eq, ByteArray.toList_eq] at h
  obtain ⟨⟨x⟩⟩ := a
  obtain ⟨⟨y⟩⟩ := b
  simp at h
  rw [h]
def kkS : KK ByteArray := ⟨.string, .string, fun _ _ => rfl, fun a b h => by
  have : (b == a) = true := by
    rw [beq_toListBytes] at h ⊢
    have := eq_of_beq h
    rw [this]; simp
  simpa [Instr.sameBits] using this, fun a => by rw [beq_toListBytes]; simp, fun a b h => by rw [beq_toListBytes] at h; rw [ba_ext (eq_of_beq h)], rfl⟩
def kkI : KK Int := ⟨.int .i64, .int .i64, fun _ _ => by simp [Instr.sameNow], fun a b h => by
  have := eq_of_beq h; subst this; simp [Instr.sameBits], fun a => by simp, fun a b h => by rw [eq_of_beq h], rfl⟩

def encL {κ α : Type} [BEq κ] (kk : KK κ) (f : α → Value) (l : List (κ × α)) : List (Value × Value) := l.map fun (k, v) => (kk.inj k, f v)

section
variable {κ α : Type} [BEq κ] {kk : KK κ} {f : α → Value}
theorem findNow_enc : ∀ (es : List MapEntry) (l : List (κ × α)) (k : κ) (i : Nat), es.map (fun e => (e.key, e.val)) = encL kk f l →
    Instr.findNow kk.d (kk.inj k) es i = some ((lk k l).map fun v => (i + (l.findIdx fun x => k == x.1), f v)) := by
  intro es
  induction es with
  | nil => intro l k i h; cases l with | nil => rfl | cons x l => simp [encL] at h
  | cons e es ih =>
    intro l k i h
    cases l with
    | nil => simp [encL] at h
    | cons x l =>
      obtain ⟨j, v⟩ := x
      simp only [encL, List.map_cons, List.cons.injEq, Prod.mk.injEq] at h
      obtain ⟨⟨h1, h2⟩, h3⟩ := h
      simp only [Instr.findNow, h1, kk.same, lk, List.findIdx_cons]
      cases hk : (k == j) with
      | true => simp [h2]
      | false =>
        simp only [ih l k (i + 1) h3, cond_false]
        cases lk k l with
        | none => rfl
        | some u => simp; omega
theorem enc_up_found : ∀ (l : List (κ × α)) (k : κ) (v : α) (es : List MapEntry), (lk k l).isSome = true → es.map (fun e => (e.key, e.val)) = encL kk f l →
    ((es.modify (l.findIdx fun x => k == x.1) fun e => { e with key := kk.inj k, val := f v }).map fun e => (e.key, e.val)) = encL kk f (up k v l) := by
  intro l
  induction l with
  | nil => intro k v es h; simp [lk] at h
  | cons x l ih =>
    obtain ⟨j, u⟩ := x
    intro k v es h he
    cases es with
    | nil => simp [encL] at he
    | cons e es =>
      simp only [encL, List.map_cons, List.cons.injEq, Prod.mk.injEq] at he
      obtain ⟨⟨h1, h2⟩, h3⟩ := he
      simp only [lk] at h
      simp only [List.findIdx_cons, up]
      cases hk : (k == j) with
      | true => simp [encL, h3]
      | false =>
        simp only [hk] at h
        have := ih k v es h h3
        simp only [cond_false, List.modify_succ_cons, List.map_cons, this, encL, h1, h2]
theorem enc_up_new : ∀ (l : List (κ × α)) (k : κ) (v : α), lk k l = none → up k v l = l ++ [(k, v)] := by
  intro l k v
  induction l with
  | nil => intro _; rfl
  | cons x l ih =>
    obtain ⟨j, u⟩ := x
    intro h
    simp only [lk] at h
    simp only [up]
    cases hk : (k == j) with
    | true => simp [hk] at h
    | false => simp only [hk] at h; simp [ih h]
variable {P : Program}
theorem run_getMap {b : Nat} {es : Array MapEntry} {c : Nat} {w : World} (h : w.heap[b]? = some (.map es c)) : (getObj b).run P w = .ok (.map es c) w := by simp [getObj, Sem.run, h]
theorem run_setMap {b : Nat} {es : Array MapEntry} {c : Nat} {o : Obj} {w : World} (h : w.heap[b]? = some (.map es c)) : (setObj b o).run P w = .ok () { w with heap := w.heap.setIfInBounds b o } := by simp [setObj, Sem.run, h]

theorem enc_keys_ne {l : List (κ × α)} {k : κ} (hl : lk k l = none) : ∀ {es : List MapEntry}, es.map (fun e => (e.key, e.val)) = encL kk f l → ∀ x ∈ es, x.key ≠ kk.inj k := by
  induction l with
  | nil => intro es h; cases es with | nil => intro x hx; cases hx | cons e es => simp [encL] at h
  | cons y l ih =>
    obtain ⟨j, u⟩ := y
    intro es h
    cases es with
    | nil => intro x hx; cases hx
    | cons e es =>
      simp only [encL, List.map_cons, List.cons.injEq, Prod.mk.injEq] at h
      obtain ⟨⟨h1, h2⟩, h3⟩ := h
      simp only [lk] at hl
      cases hk : (k == j) with
      | true => rw [hk] at hl; cases hl
      | false =>
        rw [hk] at hl
        intro x hx
        rcases List.mem_cons.1 hx with e' | hx
        · subst e'
          intro e2
          rw [h1] at e2
          have q1 := kk.same k j
          have q2 := kk.same k k
          rw [e2, q2, kk.refl, hk] at q1
          cases q1
        · exact ih hl h3 x hx
/-- 'm[k] = v' -/
theorem mu_i {t kt et : TypeId} (ht : P.underlying t = some (.map kt et)) (hk : P.underlying kt = some kk.d) {σ : H} {b : Nat} {l : List (κ × α)} (h : MapAt σ b (encL kk f l)) (k : κ) (v : α) {g : H → Prop}
    (hg : ∀ o σ', Put σ b o σ' → MapAt σ' b (encL kk f (up k v l)) → g σ') : muW P t (.map (some b)) (kk.inj k) (f v) g σ := by
  obtain ⟨es, c, h1, h2, hst⟩ := h
  intro w hw
  have hb := hw b _ h1
  have hf := findNow_enc es.toList l k 0 h2
  have hun : (underlying t).run P w = .ok (.map kt et) w := by simp [underlying, ht]
  have hck := run_checkKey (P := P) (b := false) (n := 9999) (v := kk.inj k) hk kk.scal w
  cases hl : lk k l with
  | none =>
    rw [hl] at hf
    have hfk := run_findKey (P := P) hk hf w
    have hrun : (doS (Instr.mapUpdate t (.map (some b)) (kk.inj k) (f v))).run P w = .ok .skip { w with heap := w.heap.setIfInBounds b (.map (es.push { key := kk.inj k, val := f v, born := c }) (c + 1)) } := by
      simp only [doS, Instr.mapUpdate, Sem.run_bind, hun, Result.andThen_ok, run_getMap hb, hck, hfk, Option.map_none, run_setMap hb, Sem.run_pure]
    rw [hrun]
    refine ⟨_, Ext.set hw h1 rfl rfl rfl rfl, app_U (hg _ _ rfl ⟨_, _, H.put_same _ _ _, ?_, MapKept.stamped_push hst (enc_keys_ne hl h2)⟩)⟩
    rw [enc_up_new l k v hl]
    simp [encL] at h2 ⊢
    exact h2
  | some u =>
    rw [hl] at hf
    simp only [Option.map_some, Nat.zero_add] at hf
    have hfk := run_findKey (P := P) hk hf w
    have hkey : ∃ j, (es[l.findIdx fun x => k == x.1]?).map (·.key) = some (kk.inj j) ∧ (k == j) = true := by
      have : ∀ (l : List (κ × α)) (es : List MapEntry), (lk k l).isSome = true → es.map (fun e => (e.key, e.val)) = encL kk f l → ∃ j, (es[l.findIdx fun x => k == x.1]?).map (·.key) = some (kk.inj j) ∧ (k == j) = true := by
        intro l
        induction l with
        | nil => intro es h; simp [lk] at h
        | cons x l ih =>
          obtain ⟨j, u⟩ := x
          intro es h he
          cases es with
          | nil => simp [encL] at he
          | cons e es =>
            simp only [encL, List.map_cons, List.cons.injEq, Prod.mk.injEq] at he
            obtain ⟨⟨h1, h2⟩, h3⟩ := he
            simp only [lk] at h
            simp only [List.findIdx_cons]
            cases hk : (k == j) with
            | true => exact ⟨j, by simp [h1], hk⟩
            | false => simp only [hk] at h; simpa using ih es h h3
      have := this l es.toList (by rw [hl]; rfl) h2
      simpa using this
    obtain ⟨j, hj, hkj⟩ := hkey
    have hstay : (Instr.keyThatStays (((es[l.findIdx fun x => k == x.1]?).map (·.key)).getD (kk.inj k)) (kk.inj k)).run P w = .ok (kk.inj k) w := by
      simp only [hj, Option.getD_some, Instr.keyThatStays, kk.bits k j hkj, if_true, Sem.run_pure]
    have hrun : (doS (Instr.mapUpdate t (.map (some b)) (kk.inj k) (f v))).run P w = .ok .skip { w with heap := w.heap.setIfInBounds b (.map (es.modify (l.findIdx fun x => k == x.1) fun e => { e with key := kk.inj k, val := f v }) c) } := by
      simp only [doS, Instr.mapUpdate, Sem.run_bind, hun, Result.andThen_ok, run_getMap hb, hck, hfk, hstay, run_setMap hb, Sem.run_pure]
    rw [hrun]
    refine ⟨_, Ext.set hw h1 rfl rfl rfl rfl, app_U (hg _ _ rfl ⟨_, _, H.put_same _ _ _, ?_, MapKept.stamped_modify hst _ _ (fun _ _ => rfl) (fun e _ he => ?_)⟩)⟩
    case refine_2 =>
      rw [he] at hj
      simp only [Option.map_some, Option.some.injEq] at hj
      show kk.inj k = e.key
      rw [hj, kk.eq k j hkj]
    rw [Array.toList_modify]
    exact enc_up_found l k v es.toList (by rw [hl]; rfl) h2

end
end Go.HL

namespace Go.Ev
open Go Go.HL
inductive D16 where
  | d0 | d1 | d2 | d3 | d4 | d5 | d6 | d7 | d8 | d9 | d10 | d11 | d12 | d13 | d14 | d15
structure N16 (α : Type) where
  mk ::
  (a0 a1 a2 a3 a4 a5 a6 a7 a8 a9 a10 a11 a12 a13 a14 a15 : α)
inductive D20 where
  | d0 | d1 | d2 | d3 | d4 | d5 | d6 | d7 | d8 | d9 | d10 | d11 | d12 | d13 | d14 | d15 | d16 | d17 | d18 | d19
structure N20 (α : Type) where
  mk ::
  (a0 a1 a2 a3 a4 a5 a6 a7 a8 a9 a10 a11 a12 a13 a14 a15 a16 a17 a18 a19 : α)
noncomputable section
def N16.at {α : Type} (n : N16 α) (d : D16) : α := match d with | .d0 => n.a0 | .d1 => n.a1 | .d2 => n.a2 | .d3 => n.a3 | .d4 => n.a4 | .d5 => n.a5 | .d6 => n.a6 | .d7 => n.a7 | .d8 => n.a8 | .d9 => n.a9 | .d10 => n.a10 | .d11 => n.a11 | .d12 => n.a12 | .d13 => n.a13 | .d14 => n.a14 | .d15 => n.a15
def N16.set {α : Type} (n : N16 α) (d : D16) (c : α) : N16 α := match d with | .d0 => { n with a0 := c } | .d1 => { n with a1 := c } | .d2 => { n with a2 := c } | .d3 => { n with a3 := c } | .d4 => { n with a4 := c } | .d5 => { n with a5 := c } | .d6 => { n with a6 := c } | .d7 => { n with a7 := c } | .d8 => { n with a8 := c } | .d9 => { n with a9 := c } | .d10 => { n with a10 := c } | .d11 => { n with a11 := c } | .d12 => { n with a12 := c } | .d13 => { n with a13 := c } | .d14 => { n with a14 := c } | .d15 => { n with a15 := c }
theorem N16.at_same {α : Type} (n : N16 α) (d : D16) (c : α) : (n.set d c).at d = c := by cases d <;> rfl
theorem N16.at_other {α : Type} (n : N16 α) (d e : D16) (c : α) (h : d ≠ e) : (n.set d c).at e = n.at e := by cases d <;> cases e <;> first | rfl | exact absurd rfl h
def dg16 (n : Nat) : D16 := Nat.rec (motive := fun _ => D16) .d0 (fun n _ => Nat.rec (motive := fun _ => D16) .d1 (fun n _ => Nat.rec (motive := fun _ => D16) .d2 (fun n _ => Nat.rec (motive := fun _ => D16) .d3 (fun n _ => Nat.rec (motive := fun _ => D16) .d4 (fun n _ => Nat.rec (motive := fun _ => D16) .d5 (fun n _ => Nat.rec (motive := fun _ => D16) .d6 (fun n _ => Nat.rec (motive := fun _ => D16) .d7 (fun n _ => Nat.rec (motive := fun _ => D16) .d8 (fun n _ => Nat.rec (motive := fun _ => D16) .d9 (fun n _ => Nat.rec (motive := fun _ => D16) .d10 (fun n _ => Nat.rec (motive := fun _ => D16) .d11 (fun n _ => Nat.rec (motive := fun _ => D16) .d12 (fun n _ => Nat.rec (motive := fun _ => D16) .d13 (fun n _ => Nat.rec (motive := fun _ => D16) .d14 (fun _ _ => .d15) n) n) n) n) n) n) n) n) n) n) n) n) n) n) n
def dn16 (d : D16) : Nat := match d with | .d0 => 0 | .d1 => 1 | .d2 => 2 | .d3 => 3 | .d4 => 4 | .d5 => 5 | .d6 => 6 | .d7 => 7 | .d8 => 8 | .d9 => 9 | .d10 => 10 | .d11 => 11 | .d12 => 12 | .d13 => 13 | .d14 => 14 | .d15 => 15
theorem dn16_dg (n : Nat) (h : n < 16) : dn16 (dg16 n) = n := by
  match n, h with
  | 0, _ => rfl
  | 1, _ => rfl
  | 2, _ => rfl
  | 3, _ => rfl
  | 4, _ => rfl
  | 5, _ => rfl
  | 6, _ => rfl
  | 7, _ => rfl
  | 8, _ => rfl
  | 9, _ => rfl
  | 10, _ => rfl
  | 11, _ => rfl
  | 12, _ => rfl
  | 13, _ => rfl
  | 14, _ => rfl
  | 15, _ => rfl
  | k + 16, h => exact absurd h (Nat.not_lt.2 (Nat.le_add_left _ _))
theorem dg16_inj {n m : Nat} (h : n < 16) (h2 : m < 16) (e : dg16 n = dg16 m) : n = m := by rw [← dn16_dg n h, ← dn16_dg m h2, e]
def N20.at {α : Type} (n : N20 α) (d : D20) : α := match d with | .d0 => n.a0 | .d1 => n.a1 | .d2 => n.a2 | .d3 => n.a3 | .d4 => n.a4 | .d5 => n.a5 | .d6 => n.a6 | .d7 => n.a7 | .d8 => n.a8 | .d9 => n.a9 | .d10 => n.a10 | .d11 => n.a11 | .d12 => n.a12 | .d13 => n.a13 | .d14 => n.a14 | .d15 => n.a15 | .d16 => n.a16 | .d17 => n.a17 | .d18 => n.a18 | .d19 => n.a19
def N20.set {α : Type} (n : N20 α) (d : D20) (c : α) : N20 α := match d with | .d0 => { n with a0 := c } | .d1 => { n with a1 := c } | .d2 => { n with a2 := c } | .d3 => { n with a3 := c } | .d4 => { n with a4 := c } | .d5 => { n with a5 := c } | .d6 => { n with a6 := c } | .d7 => { n with a7 := c } | .d8 => { n with a8 := c } | .d9 => { n with a9 := c } | .d10 => { n with a10 := c } | .d11 => { n with a11 := c } | .d12 => { n with a12 := c } | .d13 => { n with a13 := c } | .d14 => { n with a14 := c } | .d15 => { n with a15 := c } | .d16 => { n with a16 := c } | .d17 => { n with a17 := c } | .d18 => { n with a18 := c } | .d19 => { n with a19 := c }
theorem N20.at_same {α : Type} (n : N20 α) (d : D20) (c : α) : (n.set d c).at d = c := by cases d <;> rfl
theorem N20.at_other {α : Type} (n : N20 α) (d e : D20) (c : α) (h : d ≠ e) : (n.set d c).at e = n.at e := by cases d <;> cases e <;> first | rfl | exact absurd rfl h
def dg20 (n : Nat) : D20 := Nat.rec (motive := fun _ => D20) .d0 (fun n _ => Nat.rec (motive := fun _ => D20) .d1 (fun n _ => Nat.rec (motive := fun _ => D20) .d2 (fun n _ => Nat.rec (motive := fun _ => D20) .d3 (fun n _ => Nat.rec (motive := fun _ => D20) .d4 (fun n _ => Nat.rec (motive := fun _ => D20) .d5 (fun n _ => Nat.rec (motive := fun _ => D20) .d6 (fun n _ => Nat.rec (motive := fun _ => D20) .d7 (fun n _ => Nat.rec (motive := fun _ => D20) .d8 (fun n _ => Nat.rec (motive := fun _ => D20) .d9 (fun n _ => Nat.rec (motive := fun _ => D20) .d10 (fun n _ => Nat.rec (motive := fun _ => D20) .d11 (fun n _ => Nat.rec (motive := fun _ => D20) .d12 (fun n _ => Nat.rec (motive := fun _ => D20) .d13 (fun n _ => Nat.rec (motive := fun _ => D20) .d14 (fun n _ => Nat.rec (motive := fun _ => D20) .d15 (fun n _ => Nat.rec (motive := fun _ => D20) .d16 (fun n _ => Nat.rec (motive := fun _ => D20) .d17 (fun n _ => Nat.rec (motive := fun _ => D20) .d18 (fun _ _ => .d19) n) n) n) n) n) n) n) n) n) n) n) n) n) n) n) n) n) n) n
def dn20 (d : D20) : Nat := match d with | .d0 => 0 | .d1 => 1 | .d2 => 2 | .d3 => 3 | .d4 => 4 | .d5 => 5 | .d6 => 6 | .d7 => 7 | .d8 => 8 | .d9 => 9 | .d10 => 10 | .d11 => 11 | .d12 => 12 | .d13 => 13 | .d14 => 14 | .d15 => 15 | .d16 => 16 | .d17 => 17 | .d18 => 18 | .d19 => 19
theorem dn20_dg (n : Nat) (h : n < 20) : dn20 (dg20 n) = n := by
  match n, h with
  | 0, _ => rfl
  | 1, _ => rfl
  | 2, _ => rfl
  | 3, _ => rfl
  | 4, _ => rfl
  | 5, _ => rfl
  | 6, _ => rfl
  | 7, _ => rfl
  | 8, _ => rfl
  | 9, _ => rfl
  | 10, _ => rfl
  | 11, _ => rfl
  | 12, _ => rfl
  | 13, _ => rfl
  | 14, _ => rfl
  | 15, _ => rfl
  | 16, _ => rfl
  | 17, _ => rfl
  | 18, _ => rfl
  | 19, _ => rfl
  | k + 20, h => exact absurd h (Nat.not_lt.2 (Nat.le_add_left _ _))
theorem dg20_inj {n m : Nat} (h : n < 20) (h2 : m < 20) (e : dg20 n = dg20 m) : n = m := by rw [← dn20_dg n h, ← dn20_dg m h2, e]

/-! ### Values -/
/-- what stands for a value: integers and strings as natural numbers, blocks by names -/
inductive SV where
  | i (n : Nat)
  | u (n : Nat)
  | w (k n : Nat)
  | b (x : Bool)
  | s (l n : Nat)
  | p0
  | p (a v o : Nat)
  | l0
  | l (a v o n c : Nat)
  | r (a v o ob n c : Nat)
  | m0
  | m (a : Nat)
  | f0
  | f (g : Nat) (as cs : List SV)
  | fy (a : Nat)
  | e0
  | e (t : Nat) (v : SV)
  | g (l : List SV)
  | t (l : List SV)
def und : SV := .t []

/-- an int -/
def asI : SV → (Nat → Bool) → Bool :=
  fun v => SV.rec (motive_1 := fun _ => (Nat → Bool) → Bool) (motive_2 := fun _ => Bool) (fun x0 k => k x0) (fun _ _ => false) (fun _ _ _ => false) (fun _ _ => false) (fun _ _ _ => false) (fun _ => false) (fun _ _ _ _ => false) (fun _ => false) (fun _ _ _ _ _ _ => false) (fun _ _ _ _ _ _ _ => false) (fun _ => false) (fun _ _ => false) (fun _ => false) (fun _ _ _ _ _ _ => false) (fun _ _ => false) (fun _ => false) (fun _ _ _ _ => false) (fun _ _ _ => false) (fun _ _ _ => false) false (fun _ _ _ _ => false) v
/-- a byte -/
def asU : SV → (Nat → Bool) → Bool :=
  fun v => SV.rec (motive_1 := fun _ => (Nat → Bool) → Bool) (motive_2 := fun _ => Bool) (fun _ _ => false) (fun x0 k => k x0) (fun _ _ _ => false) (fun _ _ => false) (fun _ _ _ => false) (fun _ => false) (fun _ _ _ _ => false) (fun _ => false) (fun _ _ _ _ _ _ => false) (fun _ _ _ _ _ _ _ => false) (fun _ => false) (fun _ _ => false) (fun _ => false) (fun _ _ _ _ _ _ => false) (fun _ _ => false) (fun _ => false) (fun _ _ _ _ => false) (fun _ _ _ => false) (fun _ _ _ => false) false (fun _ _ _ _ => false) v
/-- another number: its kind and its bits -/
def asW : SV → (Nat → Nat → Bool) → Bool :=
  fun v => SV.rec (motive_1 := fun _ => (Nat → Nat → Bool) → Bool) (motive_2 := fun _ => Bool) (fun _ _ => false) (fun _ _ => false) (fun x0 x1 k => k x0 x1) (fun _ _ => false) (fun _ _ _ => false) (fun _ => false) (fun _ _ _ _ => false) (fun _ => false) (fun _ _ _ _ _ _ => false) (fun _ _ _ _ _ _ _ => false) (fun _ => false) (fun _ _ => false) (fun _ => false) (fun _ _ _ _ _ _ => false) (fun _ _ => false) (fun _ => false) (fun _ _ _ _ => false) (fun _ _ _ => false) (fun _ _ _ => false) false (fun _ _ _ _ => false) v
/-- an index -/
def asN : SV → (Nat → Bool) → Bool :=
  fun v => SV.rec (motive_1 := fun _ => (Nat → Bool) → Bool) (motive_2 := fun _ => Bool) (fun x0 k => k x0) (fun x0 k => k x0) (fun x0 x1 k => Bool.rec (motive := fun _ => Bool → Bool) (fun _ => false) (fun x => x) (Nat.ble 2 x0) (Bool.rec (motive := fun _ => Bool → Bool) (fun _ => false) (fun x => x) (Nat.blt x1 2147483648) (k x1))) (fun _ _ => false) (fun _ _ _ => false) (fun _ => false) (fun _ _ _ _ => false) (fun _ => false) (fun _ _ _ _ _ _ => false) (fun _ _ _ _ _ _ _ => false) (fun _ => false) (fun _ _ => false) (fun _ => false) (fun _ _ _ _ _ _ => false) (fun _ _ => false) (fun _ => false) (fun _ _ _ _ => false) (fun _ _ _ => false) (fun _ _ _ => false) false (fun _ _ _ _ => false) v
/-- a truth -/
def asB : SV → (Bool → Bool) → Bool :=
  fun v => SV.rec (motive_1 := fun _ => (Bool → Bool) → Bool) (motive_2 := fun _ => Bool) (fun _ _ => false) (fun _ _ => false) (fun _ _ _ => false) (fun x0 k => k x0) (fun _ _ _ => false) (fun _ => false) (fun _ _ _ _ => false) (fun _ => false) (fun _ _ _ _ _ _ => false) (fun _ _ _ _ _ _ _ => false) (fun _ => false) (fun _ _ => false) (fun _ => false) (fun _ _ _ _ _ _ => false) (fun _ _ => false) (fun _ => false) (fun _ _ _ _ => false) (fun _ _ _ => false) (fun _ _ _ => false) false (fun _ _ _ _ => false) v
/-- a string -/
def asS : SV → (Nat → Nat → Bool) → Bool :=
  fun v => SV.rec (motive_1 := fun _ => (Nat → Nat → Bool) → Bool) (motive_2 := fun _ => Bool) (fun _ _ => false) (fun _ _ => false) (fun _ _ _ => false) (fun _ _ => false) (fun x0 x1 k => k x0 x1) (fun _ => false) (fun _ _ _ _ => false) (fun _ => false) (fun _ _ _ _ _ _ => false) (fun _ _ _ _ _ _ _ => false) (fun _ => false) (fun _ _ => false) (fun _ => false) (fun _ _ _ _ _ _ => false) (fun _ _ => false) (fun _ => false) (fun _ _ _ _ => false) (fun _ _ _ => false) (fun _ _ _ => false) false (fun _ _ _ _ => false) v
/-- a pointer that is not nil -/
def asP : SV → (Nat → Nat → Nat → Bool) → Bool :=
  fun v => SV.rec (motive_1 := fun _ => (Nat → Nat → Nat → Bool) → Bool) (motive_2 := fun _ => Bool) (fun _ _ => false) (fun _ _ => false) (fun _ _ _ => false) (fun _ _ => false) (fun _ _ _ => false) (fun _ => false) (fun x0 x1 x2 k => k x0 x1 x2) (fun _ => false) (fun _ _ _ _ _ _ => false) (fun _ _ _ _ _ _ _ => false) (fun _ => false) (fun _ _ => false) (fun _ => false) (fun _ _ _ _ _ _ => false) (fun _ _ => false) (fun _ => false) (fun _ _ _ _ => false) (fun _ _ _ => false) (fun _ _ _ => false) false (fun _ _ _ _ => false) v
/-- a map -/
def asM : SV → (Nat → Bool) → Bool :=
  fun v => SV.rec (motive_1 := fun _ => (Nat → Bool) → Bool) (motive_2 := fun _ => Bool) (fun _ _ => false) (fun _ _ => false) (fun _ _ _ => false) (fun _ _ => false) (fun _ _ _ => false) (fun _ => false) (fun _ _ _ _ => false) (fun _ => false) (fun _ _ _ _ _ _ => false) (fun _ _ _ _ _ _ _ => false) (fun _ => false) (fun x0 k => k x0) (fun _ => false) (fun _ _ _ _ _ _ => false) (fun _ _ => false) (fun _ => false) (fun _ _ _ _ => false) (fun _ _ _ => false) (fun _ _ _ => false) false (fun _ _ _ _ => false) v
/-- an aggregate -/
def asG : SV → (List SV → Bool) → Bool :=
  fun v => SV.rec (motive_1 := fun _ => (List SV → Bool) → Bool) (motive_2 := fun _ => Bool) (fun _ _ => false) (fun _ _ => false) (fun _ _ _ => false) (fun _ _ => false) (fun _ _ _ => false) (fun _ => false) (fun _ _ _ _ => false) (fun _ => false) (fun _ _ _ _ _ _ => false) (fun _ _ _ _ _ _ _ => false) (fun _ => false) (fun _ _ => false) (fun _ => false) (fun _ _ _ _ _ _ => false) (fun _ _ => false) (fun _ => false) (fun _ _ _ _ => false) (fun x0 _ k => k x0) (fun _ _ _ => false) false (fun _ _ _ _ => false) v
/-- a tuple -/
def asT : SV → (List SV → Bool) → Bool :=
  fun v => SV.rec (motive_1 := fun _ => (List SV → Bool) → Bool) (motive_2 := fun _ => Bool) (fun _ _ => false) (fun _ _ => false) (fun _ _ _ => false) (fun _ _ => false) (fun _ _ _ => false) (fun _ => false) (fun _ _ _ _ => false) (fun _ => false) (fun _ _ _ _ _ _ => false) (fun _ _ _ _ _ _ _ => false) (fun _ => false) (fun _ _ => false) (fun _ => false) (fun _ _ _ _ _ _ => false) (fun _ _ => false) (fun _ => false) (fun _ _ _ _ => false) (fun _ _ _ => false) (fun x0 _ k => k x0) false (fun _ _ _ _ => false) v
def gtV (d : D16) : (N16 SV) → (SV → Bool) → Bool :=
  D16.rec (motive := fun _ => (N16 SV) → (SV → Bool) → Bool) (N16.rec fun a0 _ _ _ _ _ _ _ _ _ _ _ _ _ _ _ k => k a0) (N16.rec fun _ a1 _ _ _ _ _ _ _ _ _ _ _ _ _ _ k => k a1) (N16.rec fun _ _ a2 _ _ _ _ _ _ _ _ _ _ _ _ _ k => k a2) (N16.rec fun _ _ _ a3 _ _ _ _ _ _ _ _ _ _ _ _ k => k a3) (N16.rec fun _ _ _ _ a4 _ _ _ _ _ _ _ _ _ _ _ k => k a4) (N16.rec fun _ _ _ _ _ a5 _ _ _ _ _ _ _ _ _ _ k => k a5) (N16.rec fun _ _ _ _ _ _ a6 _ _ _ _ _ _ _ _ _ k => k a6) (N16.rec fun _ _ _ _ _ _ _ a7 _ _ _ _ _ _ _ _ k => k a7) (N16.rec fun _ _ _ _ _ _ _ _ a8 _ _ _ _ _ _ _ k => k a8) (N16.rec fun _ _ _ _ _ _ _ _ _ a9 _ _ _ _ _ _ k => k a9) (N16.rec fun _ _ _ _ _ _ _ _ _ _ a10 _ _ _ _ _ k => k a10) (N16.rec fun _ _ _ _ _ _ _ _ _ _ _ a11 _ _ _ _ k => k a11) (N16.rec fun _ _ _ _ _ _ _ _ _ _ _ _ a12 _ _ _ k => k a12) (N16.rec fun _ _ _ _ _ _ _ _ _ _ _ _ _ a13 _ _ k => k a13) (N16.rec fun _ _ _ _ _ _ _ _ _ _ _ _ _ _ a14 _ k => k a14) (N16.rec fun _ _ _ _ _ _ _ _ _ _ _ _ _ _ _ a15 k => k a15) d
theorem gtV_eq (d : D16) (n : (N16 SV)) (k : SV → Bool) : gtV d n k = k (n.at d) := by cases d <;> rfl
def stV (d : D16) : (N16 SV) → SV → ((N16 SV) → Bool) → Bool :=
  D16.rec (motive := fun _ => (N16 SV) → SV → ((N16 SV) → Bool) → Bool) (N16.rec fun _ a1 a2 a3 a4 a5 a6 a7 a8 a9 a10 a11 a12 a13 a14 a15 c k => k (.mk c a1 a2 a3 a4 a5 a6 a7 a8 a9 a10 a11 a12 a13 a14 a15)) (N16.rec fun a0 _ a2 a3 a4 a5 a6 a7 a8 a9 a10 a11 a12 a13 a14 a15 c k => k (.mk a0 c a2 a3 a4 a5 a6 a7 a8 a9 a10 a11 a12 a13 a14 a15)) (N16.rec fun a0 a1 _ a3 a4 a5 a6 a7 a8 a9 a10 a11 a12 a13 a14 a15 c k => k (.mk a0 a1 c a3 a4 a5 a6 a7 a8 a9 a10 a11 a12 a13 a14 a15)) (N16.rec fun a0 a1 a2 _ a4 a5 a6 a7 a8 a9 a10 a11 a12 a13 a14 a15 c k => k (.mk a0 a1 a2 c a4 a5 a6 a7 a8 a9 a10 a11 a12 a13 a14 a15)) (N16.rec fun a0 a1 a2 a3 _ a5 a6 a7 a8 a9 a10 a11 a12 a13 a14 a15 c k => k (.mk a0 a1 a2 a3 c a5 a6 a7 a8 a9 a10 a11 a12 a13 a14 a15)) (N16.rec fun a0 a1 a2 a3 a4 _ a6 a7 a8 a9 a10 a11 a12 a13 a14 a15 c k => k (.mk a0 a1 a2 a3 a4 c a6 a7 a8 a9 a10 a11 a12 a13 a14 a15)) (N16.rec fun a0 a1 a2 a3 a4 a5 _ a7 a8 a9 a10 a11 a12 a13 a14 a15 c k => k (.mk a0 a1 a2 a3 a4 a5 c a7 a8 a9 a10 a11 a12 a13 a14 a15)) (N16.rec fun a0 a1 a2 a3 a4 a5 a6 _ a8 a9 a10 a11 a12 a13 a14 a15 c k => k (.mk a0 a1 a2 a3 a4 a5 a6 c a8 a9 a10 a11 a12 a13 a14 a15)) (N16.rec fun a0 a1 a2 a3 a4 a5 a6 a7 _ a9 a10 a11 a12 a13 a14 a15 c k => k (.mk a0 a1 a2 a3 a4 a5 a6 a7 c a9 a10 a11 a12 a13 a14 a15)) (N16.rec fun a0 a1 a2 a3 a4 a5 a6 a7 a8 _ a10 a11 a12 a13 a14 a15 c k => k (.mk a0 a1 a2 a3 a4 a5 a6 a7 a8 c a10 a11 a12 a13 a14 a15)) (N16.rec fun a0 a1 a2 a3 a4 a5 a6 a7 a8 a9 _ a11 a12 a13 a14 a15 c k => k (.mk a0 a1 a2 a3 a4 a5 a6 a7 a8 a9 c a11 a12 a13 a14 a15)) (N16.rec fun a0 a1 a2 a3 a4 a5 a6 a7 a8 a9 a10 _ a12 a13 a14 a15 c k => k (.mk a0 a1 a2 a3 a4 a5 a6 a7 a8 a9 a10 c a12 a13 a14 a15)) (N16.rec fun a0 a1 a2 a3 a4 a5 a6 a7 a8 a9 a10 a11 _ a13 a14 a15 c k => k (.mk a0 a1 a2 a3 a4 a5 a6 a7 a8 a9 a10 a11 c a13 a14 a15)) (N16.rec fun a0 a1 a2 a3 a4 a5 a6 a7 a8 a9 a10 a11 a12 _ a14 a15 c k => k (.mk a0 a1 a2 a3 a4 a5 a6 a7 a8 a9 a10 a11 a12 c a14 a15)) (N16.rec fun a0 a1 a2 a3 a4 a5 a6 a7 a8 a9 a10 a11 a12 a13 _ a15 c k => k (.mk a0 a1 a2 a3 a4 a5 a6 a7 a8 a9 a10 a11 a12 a13 c a15)) (N16.rec fun a0 a1 a2 a3 a4 a5 a6 a7 a8 a9 a10 a11 a12 a13 a14 _ c k => k (.mk a0 a1 a2 a3 a4 a5 a6 a7 a8 a9 a10 a11 a12 a13 a14 c)) d
theorem stV_eq (d : D16) (n : (N16 SV)) (c : SV) (k : (N16 SV) → Bool) : stV d n c k = k (n.set d c) := by cases d <;> rfl
def gtV2 (d : D16) : (N16 (N16 SV)) → ((N16 SV) → Bool) → Bool :=
  D16.rec (motive := fun _ => (N16 (N16 SV)) → ((N16 SV) → Bool) → Bool) (N16.rec fun a0 _ _ _ _ _ _ _ _ _ _ _ _ _ _ _ k => k a0) (N16.rec fun _ a1 _ _ _ _ _ _ _ _ _ _ _ _ _ _ k => k a1) (N16.rec fun _ _ a2 _ _ _ _ _ _ _ _ _ _ _ _ _ k => k a2) (N16.rec fun _ _ _ a3 _ _ _ _ _ _ _ _ _ _ _ _ k => k a3) (N16.rec fun _ _ _ _ a4 _ _ _ _ _ _ _ _ _ _ _ k => k a4) (N16.rec fun _ _ _ _ _ a5 _ _ _ _ _ _ _ _ _ _ k => k a5) (N16.rec fun _ _ _ _ _ _ a6 _ _ _ _ _ _ _ _ _ k => k a6) (N16.rec fun _ _ _ _ _ _ _ a7 _ _ _ _ _ _ _ _ k => k a7) (N16.rec fun _ _ _ _ _ _ _ _ a8 _ _ _ _ _ _ _ k => k a8) (N16.rec fun _ _ _ _ _ _ _ _ _ a9 _ _ _ _ _ _ k => k a9) (N16.rec fun _ _ _ _ _ _ _ _ _ _ a10 _ _ _ _ _ k => k a10) (N16.rec fun _ _ _ _ _ _ _ _ _ _ _ a11 _ _ _ _ k => k a11) (N16.rec fun _ _ _ _ _ _ _ _ _ _ _ _ a12 _ _ _ k => k a12) (N16.rec fun _ _ _ _ _ _ _ _ _ _ _ _ _ a13 _ _ k => k a13) (N16.rec fun _ _ _ _ _ _ _ _ _ _ _ _ _ _ a14 _ k => k a14) (N16.rec fun _ _ _ _ _ _ _ _ _ _ _ _ _ _ _ a15 k => k a15) d
theorem gtV2_eq (d : D16) (n : (N16 (N16 SV))) (k : (N16 SV) → Bool) : gtV2 d n k = k (n.at d) := by cases d <;> rfl
def ptV2 (d : D16) : (N16 (N16 SV)) → ((N16 SV) → ((N16 SV) → Bool) → Bool) → ((N16 (N16 SV)) → Bool) → Bool :=
  D16.rec (motive := fun _ => (N16 (N16 SV)) → ((N16 SV) → ((N16 SV) → Bool) → Bool) → ((N16 (N16 SV)) → Bool) → Bool) (N16.rec fun a0 a1 a2 a3 a4 a5 a6 a7 a8 a9 a10 a11 a12 a13 a14 a15 f k => f a0 fun c => k (.mk c a1 a2 a3 a4 a5 a6 a7 a8 a9 a10 a11 a12 a13 a14 a15)) (N16.rec fun a0 a1 a2 a3 a4 a5 a6 a7 a8 a9 a10 a11 a12 a13 a14 a15 f k => f a1 fun c => k (.mk a0 c a2 a3 a4 a5 a6 a7 a8 a9 a10 a11 a12 a13 a14 a15)) (N16.rec fun a0 a1 a2 a3 a4 a5 a6 a7 a8 a9 a10 a11 a12 a13 a14 a15 f k => f a2 fun c => k (.mk a0 a1 c a3 a4 a5 a6 a7 a8 a9 a10 a11 a12 a13 a14 a15)) (N16.rec fun a0 a1 a2 a3 a4 a5 a6 a7 a8 a9 a10 a11 a12 a13 a14 a15 f k => f a3 fun c => k (.mk a0 a1 a2 c a4 a5 a6 a7 a8 a9 a10 a11 a12 a13 a14 a15)) (N16.rec fun a0 a1 a2 a3 a4 a5 a6 a7 a8 a9 a10 a11 a12 a13 a14 a15 f k => f a4 fun c => k (.mk a0 a1 a2 a3 c a5 a6 a7 a8 a9 a10 a11 a12 a13 a14 a15)) (N16.rec fun a0 a1 a2 a3 a4 a5 a6 a7 a8 a9 a10 a11 a12 a13 a14 a15 f k => f a5 fun c => k (.mk a0 a1 a2 a3 a4 c a6 a7 a8 a9 a10 a11 a12 a13 a14 a15)) (N16.rec fun a0 a1 a2 a3 a4 a5 a6 a7 a8 a9 a10 a11 a12 a13 a14 a15 f k => f a6 fun c => k (.mk a0 a1 a2 a3 a4 a5 c a7 a8 a9 a10 a11 a12 a13 a14 a15)) (N16.rec fun a0 a1 a2 a3 a4 a5 a6 a7 a8 a9 a10 a11 a12 a13 a14 a15 f k => f a7 fun c => k (.mk a0 a1 a2 a3 a4 a5 a6 c a8 a9 a10 a11 a12 a13 a14 a15)) (N16.rec fun a0 a1 a2 a3 a4 a5 a6 a7 a8 a9 a10 a11 a12 a13 a14 a15 f k => f a8 fun c => k (.mk a0 a1 a2 a3 a4 a5 a6 a7 c a9 a10 a11 a12 a13 a14 a15)) (N16.rec fun a0 a1 a2 a3 a4 a5 a6 a7 a8 a9 a10 a11 a12 a13 a14 a15 f k => f a9 fun c => k (.mk a0 a1 a2 a3 a4 a5 a6 a7 a8 c a10 a11 a12 a13 a14 a15)) (N16.rec fun a0 a1 a2 a3 a4 a5 a6 a7 a8 a9 a10 a11 a12 a13 a14 a15 f k => f a10 fun c => k (.mk a0 a1 a2 a3 a4 a5 a6 a7 a8 a9 c a11 a12 a13 a14 a15)) (N16.rec fun a0 a1 a2 a3 a4 a5 a6 a7 a8 a9 a10 a11 a12 a13 a14 a15 f k => f a11 fun c => k (.mk a0 a1 a2 a3 a4 a5 a6 a7 a8 a9 a10 c a12 a13 a14 a15)) (N16.rec fun a0 a1 a2 a3 a4 a5 a6 a7 a8 a9 a10 a11 a12 a13 a14 a15 f k => f a12 fun c => k (.mk a0 a1 a2 a3 a4 a5 a6 a7 a8 a9 a10 a11 c a13 a14 a15)) (N16.rec fun a0 a1 a2 a3 a4 a5 a6 a7 a8 a9 a10 a11 a12 a13 a14 a15 f k => f a13 fun c => k (.mk a0 a1 a2 a3 a4 a5 a6 a7 a8 a9 a10 a11 a12 c a14 a15)) (N16.rec fun a0 a1 a2 a3 a4 a5 a6 a7 a8 a9 a10 a11 a12 a13 a14 a15 f k => f a14 fun c => k (.mk a0 a1 a2 a3 a4 a5 a6 a7 a8 a9 a10 a11 a12 a13 c a15)) (N16.rec fun a0 a1 a2 a3 a4 a5 a6 a7 a8 a9 a10 a11 a12 a13 a14 a15 f k => f a15 fun c => k (.mk a0 a1 a2 a3 a4 a5 a6 a7 a8 a9 a10 a11 a12 a13 a14 c)) d
theorem ptV2_eq (d : D16) (n : (N16 (N16 SV))) (f : (N16 SV) → ((N16 SV) → Bool) → Bool) (k : (N16 (N16 SV)) → Bool) : ptV2 d n f k = f (n.at d) fun c => k (n.set d c) := by cases d <;> rfl
def stV2 (d : D16) : (N16 (N16 SV)) → (N16 SV) → ((N16 (N16 SV)) → Bool) → Bool :=
  D16.rec (motive := fun _ => (N16 (N16 SV)) → (N16 SV) → ((N16 (N16 SV)) → Bool) → Bool) (N16.rec fun _ a1 a2 a3 a4 a5 a6 a7 a8 a9 a10 a11 a12 a13 a14 a15 c k => k (.mk c a1 a2 a3 a4 a5 a6 a7 a8 a9 a10 a11 a12 a13 a14 a15)) (N16.rec fun a0 _ a2 a3 a4 a5 a6 a7 a8 a9 a10 a11 a12 a13 a14 a15 c k => k (.mk a0 c a2 a3 a4 a5 a6 a7 a8 a9 a10 a11 a12 a13 a14 a15)) (N16.rec fun a0 a1 _ a3 a4 a5 a6 a7 a8 a9 a10 a11 a12 a13 a14 a15 c k => k (.mk a0 a1 c a3 a4 a5 a6 a7 a8 a9 a10 a11 a12 a13 a14 a15)) (N16.rec fun a0 a1 a2 _ a4 a5 a6 a7 a8 a9 a10 a11 a12 a13 a14 a15 c k => k (.mk a0 a1 a2 c a4 a5 a6 a7 a8 a9 a10 a11 a12 a13 a14 a15)) (N16.rec fun a0 a1 a2 a3 _ a5 a6 a7 a8 a9 a10 a11 a12 a13 a14 a15 c k => k (.mk a0 a1 a2 a3 c a5 a6 a7 a8 a9 a10 a11 a12 a13 a14 a15)) (N16.rec fun a0 a1 a2 a3 a4 _ a6 a7 a8 a9 a10 a11 a12 a13 a14 a15 c k => k (.mk a0 a1 a2 a3 a4 c a6 a7 a8 a9 a10 a11 a12 a13 a14 a15)) (N16.rec fun a0 a1 a2 a3 a4 a5 _ a7 a8 a9 a10 a11 a12 a13 a14 a15 c k => k (.mk a0 a1 a2 a3 a4 a5 c a7 a8 a9 a10 a11 a12 a13 a14 a15)) (N16.rec fun a0 a1 a2 a3 a4 a5 a6 _ a8 a9 a10 a11 a12 a13 a14 a15 c k => k (.mk a0 a1 a2 a3 a4 a5 a6 c a8 a9 a10 a11 a12 a13 a14 a15)) (N16.rec fun a0 a1 a2 a3 a4 a5 a6 a7 _ a9 a10 a11 a12 a13 a14 a15 c k => k (.mk a0 a1 a2 a3 a4 a5 a6 a7 c a9 a10 a11 a12 a13 a14 a15)) (N16.rec fun a0 a1 a2 a3 a4 a5 a6 a7 a8 _ a10 a11 a12 a13 a14 a15 c k => k (.mk a0 a1 a2 a3 a4 a5 a6 a7 a8 c a10 a11 a12 a13 a14 a15)) (N16.rec fun a0 a1 a2 a3 a4 a5 a6 a7 a8 a9 _ a11 a12 a13 a14 a15 c k => k (.mk a0 a1 a2 a3 a4 a5 a6 a7 a8 a9 c a11 a12 a13 a14 a15)) (N16.rec fun a0 a1 a2 a3 a4 a5 a6 a7 a8 a9 a10 _ a12 a13 a14 a15 c k => k (.mk a0 a1 a2 a3 a4 a5 a6 a7 a8 a9 a10 c a12 a13 a14 a15)) (N16.rec fun a0 a1 a2 a3 a4 a5 a6 a7 a8 a9 a10 a11 _ a13 a14 a15 c k => k (.mk a0 a1 a2 a3 a4 a5 a6 a7 a8 a9 a10 a11 c a13 a14 a15)) (N16.rec fun a0 a1 a2 a3 a4 a5 a6 a7 a8 a9 a10 a11 a12 _ a14 a15 c k => k (.mk a0 a1 a2 a3 a4 a5 a6 a7 a8 a9 a10 a11 a12 c a14 a15)) (N16.rec fun a0 a1 a2 a3 a4 a5 a6 a7 a8 a9 a10 a11 a12 a13 _ a15 c k => k (.mk a0 a1 a2 a3 a4 a5 a6 a7 a8 a9 a10 a11 a12 a13 c a15)) (N16.rec fun a0 a1 a2 a3 a4 a5 a6 a7 a8 a9 a10 a11 a12 a13 a14 _ c k => k (.mk a0 a1 a2 a3 a4 a5 a6 a7 a8 a9 a10 a11 a12 a13 a14 c)) d
theorem stV2_eq (d : D16) (n : (N16 (N16 SV))) (c : (N16 SV)) (k : (N16 (N16 SV)) → Bool) : stV2 d n c k = k (n.set d c) := by cases d <;> rfl
def gtV3 (d : D16) : (N16 (N16 (N16 SV))) → ((N16 (N16 SV)) → Bool) → Bool :=
  D16.rec (motive := fun _ => (N16 (N16 (N16 SV))) → ((N16 (N16 SV)) → Bool) → Bool) (N16.rec fun a0 _ _ _ _ _ _ _ _ _ _ _ _ _ _ _ k => k a0) (N16.rec fun _ a1 _ _ _ _ _ _ _ _ _ _ _ _ _ _ k => k a1) (N16.rec fun _ _ a2 _ _ _ _ _ _ _ _ _ _ _ _ _ k => k a2) (N16.rec fun _ _ _ a3 _ _ _ _ _ _ _ _ _ _ _ _ k => k a3) (N16.rec fun _ _ _ _ a4 _ _ _ _ _ _ _ _ _ _ _ k => k a4) (N16.rec fun _ _ _ _ _ a5 _ _ _ _ _ _ _ _ _ _ k => k a5) (N16.rec fun _ _ _ _ _ _ a6 _ _ _ _ _ _ _ _ _ k => k a6) (N16.rec fun _ _ _ _ _ _ _ a7 _ _ _ _ _ _ _ _ k => k a7) (N16.rec fun _ _ _ _ _ _ _ _ a8 _ _ _ _ _ _ _ k => k a8) (N16.rec fun _ _ _ _ _ _ _ _ _ a9 _ _ _ _ _ _ k => k a9) (N16.rec fun _ _ _ _ _ _ _ _ _ _ a10 _ _ _ _ _ k => k a10) (N16.rec fun _ _ _ _ _ _ _ _ _ _ _ a11 _ _ _ _ k => k a11) (N16.rec fun _ _ _ _ _ _ _ _ _ _ _ _ a12 _ _ _ k => k a12) (N16.rec fun _ _ _ _ _ _ _ _ _ _ _ _ _ a13 _ _ k => k a13) (N16.rec fun _ _ _ _ _ _ _ _ _ _ _ _ _ _ a14 _ k => k a14) (N16.rec fun _ _ _ _ _ _ _ _ _ _ _ _ _ _ _ a15 k => k a15) d
theorem gtV3_eq (d : D16) (n : (N16 (N16 (N16 SV)))) (k : (N16 (N16 SV)) → Bool) : gtV3 d n k = k (n.at d) := by cases d <;> rfl
def ptV3 (d : D16) : (N16 (N16 (N16 SV))) → ((N16 (N16 SV)) → ((N16 (N16 SV)) → Bool) → Bool) → ((N16 (N16 (N16 SV))) → Bool) → Bool :=
  D16.rec (motive := fun _ => (N16 (N16 (N16 SV))) → ((N16 (N16 SV)) → ((N16 (N16 SV)) → Bool) → Bool) → ((N16 (N16 (N16 SV))) → Bool) → Bool) (N16.rec fun a0 a1 a2 a3 a4 a5 a6 a7 a8 a9 a10 a11 a12 a13 a14 a15 f k => f a0 fun c => k (.mk c a1 a2 a3 a4 a5 a6 a7 a8 a9 a10 a11 a12 a13 a14 a15)) (N16.rec fun a0 a1 a2 a3 a4 a5 a6 a7 a8 a9 a10 a11 a12 a13 a14 a15 f k => f a1 fun c => k (.mk a0 c a2 a3 a4 a5 a6 a7 a8 a9 a10 a11 a12 a13 a14 a15)) (N16.rec fun a0 a1 a2 a3 a4 a5 a6 a7 a8 a9 a10 a11 a12 a13 a14 a15 f k => f a2 fun c => k (.mk a0 a1 c a3 a4 a5 a6 a7 a8 a9 a10 a11 a12 a13 a14 a15)) (N16.rec fun a0 a1 a2 a3 a4 a5 a6 a7 a8 a9 a10 a11 a12 a13 a14 a15 f k => f a3 fun c => k (.mk a0 a1 a2 c a4 a5 a6 a7 a8 a9 a10 a11 a12 a13 a14 a15)) (N16.rec fun a0 a1 a2 a3 a4 a5 a6 a7 a8 a9 a10 a11 a12 a13 a14 a15 f k => f a4 fun c => k (.mk a0 a1 a2 a3 c a5 a6 a7 a8 a9 a10 a11 a12 a13 a14 a15)) (N16.rec fun a0 a1 a2 a3 a4 a5 a6 a7 a8 a9 a10 a11 a12 a13 a14 a15 f k => f a5 fun c => k (.mk a0 a1 a2 a3 a4 c a6 a7 a8 a9 a10 a11 a12 a13 a14 a15)) (N16.rec fun a0 a1 a2 a3 a4 a5 a6 a7 a8 a9 a10 a11 a12 a13 a14 a15 f k => f a6 fun c => k (.mk a0 a1 a2 a3 a4 a5 c a7 a8 a9 a10 a11 a12 a13 a14 a15)) (N16.rec fun a0 a1 a2 a3 a4 a5 a6 a7 a8 a9 a10 a11 a12 a13 a14 a15 f k => f a7 fun c => k (.mk a0 a1 a2 a3 a4 a5 a6 c a8 a9 a10 a11 a12 a13 a14 a15)) (N16.rec fun a0 a1 a2 a3 a4 a5 a6 a7 a8 a9 a10 a11 a12 a13 a14 a15 f k => f a8 fun c => k (.mk a0 a1 a2 a3 a4 a5 a6 a7 c a9 a10 a11 a12 a13 a14 a15)) (N16.rec fun a0 a1 a2 a3 a4 a5 a6 a7 a8 a9 a10 a11 a12 a13 a14 a15 f k => f a9 fun c => k (.mk a0 a1 a2 a3 a4 a5 a6 a7 a8 c a10 a11 a12 a13 a14 a15)) (N16.rec fun a0 a1 a2 a3 a4 a5 a6 a7 a8 a9 a10 a11 a12 a13 a14 a15 f k => f a10 fun c => k (.mk a0 a1 a2 a3 a4 a5 a6 a7 a8 a9 c a11 a12 a13 a14 a15)) (N16.rec fun a0 a1 a2 a3 a4 a5 a6 a7 a8 a9 a10 a11 a12 a13 a14 a15 f k => f a11 fun c => k (.mk a0 a1 a2 a3 a4 a5 a6 a7 a8 a9 a10 c a12 a13 a14 a15)) (N16.rec fun a0 a1 a2 a3 a4 a5 a6 a7 a8 a9 a10 a11 a12 a13 a14 a15 f k => f a12 fun c => k (.mk a0 a1 a2 a3 a4 a5 a6 a7 a8 a9 a10 a11 c a13 a14 a15)) (N16.rec fun a0 a1 a2 a3 a4 a5 a6 a7 a8 a9 a10 a11 a12 a13 a14 a15 f k => f a13 fun c => k (.mk a0 a1 a2 a3 a4 a5 a6 a7 a8 a9 a10 a11 a12 c a14 a15)) (N16.rec fun a0 a1 a2 a3 a4 a5 a6 a7 a8 a9 a10 a11 a12 a13 a14 a15 f k => f a14 fun c => k (.mk a0 a1 a2 a3 a4 a5 a6 a7 a8 a9 a10 a11 a12 a13 c a15)) (N16.rec fun a0 a1 a2 a3 a4 a5 a6 a7 a8 a9 a10 a11 a12 a13 a14 a15 f k => f a15 fun c => k (.mk a0 a1 a2 a3 a4 a5 a6 a7 a8 a9 a10 a11 a12 a13 a14 c)) d
theorem ptV3_eq (d : D16) (n : (N16 (N16 (N16 SV)))) (f : (N16 (N16 SV)) → ((N16 (N16 SV)) → Bool) → Bool) (k : (N16 (N16 (N16 SV))) → Bool) : ptV3 d n f k = f (n.at d) fun c => k (n.set d c) := by cases d <;> rfl
def stV3 (d : D16) : (N16 (N16 (N16 SV))) → (N16 (N16 SV)) → ((N16 (N16 (N16 SV))) → Bool) → Bool :=
  D16.rec (motive := fun _ => (N16 (N16 (N16 SV))) → (N16 (N16 SV)) → ((N16 (N16 (N16 SV))) → Bool) → Bool) (N16.rec fun _ a1 a2 a3 a4 a5 a6 a7 a8 a9 a10 a11 a12 a13 a14 a15 c k => k (.mk c a1 a2 a3 a4 a5 a6 a7 a8 a9 a10 a11 a12 a13 a14 a15)) (N16.rec fun a0 _ a2 a3 a4 a5 a6 a7 a8 a9 a10 a11 a12 a13 a14 a15 c k => k (.mk a0 c a2 a3 a4 a5 a6 a7 a8 a9 a10 a11 a12 a13 a14 a15)) (N16.rec fun a0 a1 _ a3 a4 a5 a6 a7 a8 a9 a10 a11 a12 a13 a14 a15 c k => k (.mk a0 a1 c a3 a4 a5 a6 a7 a8 a9 a10 a11 a12 a13 a14 a15)) (N16.rec fun a0 a1 a2 _ a4 a5 a6 a7 a8 a9 a10 a11 a12 a13 a14 a15 c k => k (.mk a0 a1 a2 c a4 a5 a6 a7 a8 a9 a10 a11 a12 a13 a14 a15)) (N16.rec fun a0 a1 a2 a3 _ a5 a6 a7 a8 a9 a10 a11 a12 a13 a14 a15 c k => k (.mk a0 a1 a2 a3 c a5 a6 a7 a8 a9 a10 a11 a12 a13 a14 a15)) (N16.rec fun a0 a1 a2 a3 a4 _ a6 a7 a8 a9 a10 a11 a12 a13 a14 a15 c k => k (.mk a0 a1 a2 a3 a4 c a6 a7 a8 a9 a10 a11 a12 a13 a14 a15)) (N16.rec fun a0 a1 a2 a3 a4 a5 _ a7 a8 a9 a10 a11 a12 a13 a14 a15 c k => k (.mk a0 a1 a2 a3 a4 a5 c a7 a8 a9 a10 a11 a12 a13 a14 a15)) (N16.rec fun a0 a1 a2 a3 a4 a5 a6 _ a8 a9 a10 a11 a12 a13 a14 a15 c k => k (.mk a0 a1 a2 a3 a4 a5 a6 c a8 a9 a10 a11 a12 a13 a14 a15)) (N16.rec fun a0 a1 a2 a3 a4 a5 a6 a7 _ a9 a10 a11 a12 a13 a14 a15 c k => k (.mk a0 a1 a2 a3 a4 a5 a6 a7 c a9 a10 a11 a12 a13 a14 a15)) (N16.rec fun a0 a1 a2 a3 a4 a5 a6 a7 a8 _ a10 a11 a12 a13 a14 a15 c k => k (.mk a0 a1 a2 a3 a4 a5 a6 a7 a8 c a10 a11 a12 a13 a14 a15)) (N16.rec fun a0 a1 a2 a3 a4 a5 a6 a7 a8 a9 _ a11 a12 a13 a14 a15 c k => k (.mk a0 a1 a2 a3 a4 a5 a6 a7 a8 a9 c a11 a12 a13 a14 a15)) (N16.rec fun a0 a1 a2 a3 a4 a5 a6 a7 a8 a9 a10 _ a12 a13 a14 a15 c k => k (.mk a0 a1 a2 a3 a4 a5 a6 a7 a8 a9 a10 c a12 a13 a14 a15)) (N16.rec fun a0 a1 a2 a3 a4 a5 a6 a7 a8 a9 a10 a11 _ a13 a14 a15 c k => k (.mk a0 a1 a2 a3 a4 a5 a6 a7 a8 a9 a10 a11 c a13 a14 a15)) (N16.rec fun a0 a1 a2 a3 a4 a5 a6 a7 a8 a9 a10 a11 a12 _ a14 a15 c k => k (.mk a0 a1 a2 a3 a4 a5 a6 a7 a8 a9 a10 a11 a12 c a14 a15)) (N16.rec fun a0 a1 a2 a3 a4 a5 a6 a7 a8 a9 a10 a11 a12 a13 _ a15 c k => k (.mk a0 a1 a2 a3 a4 a5 a6 a7 a8 a9 a10 a11 a12 a13 c a15)) (N16.rec fun a0 a1 a2 a3 a4 a5 a6 a7 a8 a9 a10 a11 a12 a13 a14 _ c k => k (.mk a0 a1 a2 a3 a4 a5 a6 a7 a8 a9 a10 a11 a12 a13 a14 c)) d
theorem stV3_eq (d : D16) (n : (N16 (N16 (N16 SV)))) (c : (N16 (N16 SV))) (k : (N16 (N16 (N16 SV))) → Bool) : stV3 d n c k = k (n.set d c) := by cases d <;> rfl
def gtE (d : D20) : (N20 (N16 SV)) → ((N16 SV) → Bool) → Bool :=
  D20.rec (motive := fun _ => (N20 (N16 SV)) → ((N16 SV) → Bool) → Bool) (N20.rec fun a0 _ _ _ _ _ _ _ _ _ _ _ _ _ _ _ _ _ _ _ k => k a0) (N20.rec fun _ a1 _ _ _ _ _ _ _ _ _ _ _ _ _ _ _ _ _ _ k => k a1) (N20.rec fun _ _ a2 _ _ _ _ _ _ _ _ _ _ _ _ _ _ _ _ _ k => k a2) (N20.rec fun _ _ _ a3 _ _ _ _ _ _ _ _ _ _ _ _ _ _ _ _ k => k a3) (N20.rec fun _ _ _ _ a4 _ _ _ _ _ _ _ _ _ _ _ _ _ _ _ k => k a4) (N20.rec fun _ _ _ _ _ a5 _ _ _ _ _ _ _ _ _ _ _ _ _ _ k => k a5) (N20.rec fun _ _ _ _ _ _ a6 _ _ _ _ _ _ _ _ _ _ _ _ _ k => k a6) (N20.rec fun _ _ _ _ _ _ _ a7 _ _ _ _ _ _ _ _ _ _ _ _ k => k a7) (N20.rec fun _ _ _ _ _ _ _ _ a8 _ _ _ _ _ _ _ _ _ _ _ k => k a8) (N20.rec fun _ _ _ _ _ _ _ _ _ a9 _ _ _ _ _ _ _ _ _ _ k => k a9) (N20.rec fun _ _ _ _ _ _ _ _ _ _ a10 _ _ _ _ _ _ _ _ _ k => k a10) (N20.rec fun _ _ _ _ _ _ _ _ _ _ _ a11 _ _ _ _ _ _ _ _ k => k a11) (N20.rec fun _ _ _ _ _ _ _ _ _ _ _ _ a12 _ _ _ _ _ _ _ k => k a12) (N20.rec fun _ _ _ _ _ _ _ _ _ _ _ _ _ a13 _ _ _ _ _ _ k => k a13) (N20.rec fun _ _ _ _ _ _ _ _ _ _ _ _ _ _ a14 _ _ _ _ _ k => k a14) (N20.rec fun _ _ _ _ _ _ _ _ _ _ _ _ _ _ _ a15 _ _ _ _ k => k a15) (N20.rec fun _ _ _ _ _ _ _ _ _ _ _ _ _ _ _ _ a16 _ _ _ k => k a16) (N20.rec fun _ _ _ _ _ _ _ _ _ _ _ _ _ _ _ _ _ a17 _ _ k => k a17) (N20.rec fun _ _ _ _ _ _ _ _ _ _ _ _ _ _ _ _ _ _ a18 _ k => k a18) (N20.rec fun _ _ _ _ _ _ _ _ _ _ _ _ _ _ _ _ _ _ _ a19 k => k a19) d
theorem gtE_eq (d : D20) (n : (N20 (N16 SV))) (k : (N16 SV) → Bool) : gtE d n k = k (n.at d) := by cases d <;> rfl
def ptE (d : D20) : (N20 (N16 SV)) → ((N16 SV) → ((N16 SV) → Bool) → Bool) → ((N20 (N16 SV)) → Bool) → Bool :=
  D20.rec (motive := fun _ => (N20 (N16 SV)) → ((N16 SV) → ((N16 SV) → Bool) → Bool) → ((N20 (N16 SV)) → Bool) → Bool) (N20.rec fun a0 a1 a2 a3 a4 a5 a6 a7 a8 a9 a10 a11 a12 a13 a14 a15 a16 a17 a18 a19 f k => f a0 fun c => k (.mk c a1 a2 a3 a4 a5 a6 a7 a8 a9 a10 a11 a12 a13 a14 a15 a16 a17 a18 a19)) (N20.rec fun a0 a1 a2 a3 a4 a5 a6 a7 a8 a9 a10 a11 a12 a13 a14 a15 a16 a17 a18 a19 f k => f a1 fun c => k (.mk a0 c a2 a3 a4 a5 a6 a7 a8 a9 a10 a11 a12 a13 a14 a15 a16 a17 a18 a19)) (N20.rec fun a0 a1 a2 a3 a4 a5 a6 a7 a8 a9 a10 a11 a12 a13 a14 a15 a16 a17 a18 a19 f k => f a2 fun c => k (.mk a0 a1 c a3 a4 a5 a6 a7 a8 a9 a10 a11 a12 a13 a14 a15 a16 a17 a18 a19)) (N20.rec fun a0 a1 a2 a3 a4 a5 a6 a7 a8 a9 a10 a11 a12 a13 a14 a15 a16 a17 a18 a19 f k => f a3 fun c => k (.mk a0 a1 a2 c a4 a5 a6 a7 a8 a9 a10 a11 a12 a13 a14 a15 a16 a17 a18 a19)) (N20.rec fun a0 a1 a2 a3 a4 a5 a6 a7 a8 a9 a10 a11 a12 a13 a14 a15 a16 a17 a18 a19 f k => f a4 fun c => k (.mk a0 a1 a2 a3 c a5 a6 a7 a8 a9 a10 a11 a12 a13 a14 a15 a16 a17 a18 a19)) (N20.rec fun a0 a1 a2 a3 a4 a5 a6 a7 a8 a9 a10 a11 a12 a13 a14 a15 a16 a17 a18 a19 f k => f a5 fun c => k (.mk a0 a1 a2 a3 a4 c a6 a7 a8 a9 a10 a11 a12 a13 a14 a15 a16 a17 a18 a19)) (N20.rec fun a0 a1 a2 a3 a4 a5 a6 a7 a8 a9 a10 a11 a12 a13 a14 a15 a16 a17 a18 a19 f k => f a6 fun c => k (.mk a0 a1 a2 a3 a4 a5 c a7 a8 a9 a10 a11 a12 a13 a14 a15 a16 a17 a18 a19)) (N20.rec fun a0 a1 a2 a3 a4 a5 a6 a7 a8 a9 a10 a11 a12 a13 a14 a15 a16 a17 a18 a19 f k => f a7 fun c => k (.mk a0 a1 a2 a3 a4 a5 a6 c a8 a9 a10 a11 a12 a13 a14 a15 a16 a17 a18 a19)) (N20.rec fun a0 a1 a2 a3 a4 a5 a6 a7 a8 a9 a10 a11 a12 a13 a14 a15 a16 a17 a18 a19 f k => f a8 fun c => k (.mk a0 a1 a2 a3 a4 a5 a6 a7 c a9 a10 a11 a12 a13 a14 a15 a16 a17 a18 a19)) (N20.rec fun a0 a1 a2 a3 a4 a5 a6 a7 a8 a9 a10 a11 a12 a13 a14 a15 a16 a17 a18 a19 f k => f a9 fun c => k (.mk a0 a1 a2 a3 a4 a5 a6 a7 a8 c a10 a11 a12 a13 a14 a15 a16 a17 a18 a19)) (N20.rec fun a0 a1 a2 a3 a4 a5 a6 a7 a8 a9 a10 a11 a12 a13 a14 a15 a16 a17 a18 a19 f k => f a10 fun c => k (.mk a0 a1 a2 a3 a4 a5 a6 a7 a8 a9 c a11 a12 a13 a14 a15 a16 a17 a18 a19)) (N20.rec fun a0 a1 a2 a3 a4 a5 a6 a7 a8 a9 a10 a11 a12 a13 a14 a15 a16 a17 a18 a19 f k => f a11 fun c => k (.mk a0 a1 a2 a3 a4 a5 a6 a7 a8 a9 a10 c a12 a13 a14 a15 a16 a17 a18 a19)) (N20.rec fun a0 a1 a2 a3 a4 a5 a6 a7 a8 a9 a10 a11 a12 a13 a14 a15 a16 a17 a18 a19 f k => f a12 fun c => k (.mk a0 a1 a2 a3 a4 a5 a6 a7 a8 a9 a10 a11 c a13 a14 a15 a16 a17 a18 a19)) (N20.rec fun a0 a1 a2 a3 a4 a5 a6 a7 a8 a9 a10 a11 a12 a13 a14 a15 a16 a17 a18 a19 f k => f a13 fun c => k (.mk a0 a1 a2 a3 a4 a5 a6 a7 a8 a9 a10 a11 a12 c a14 a15 a16 a17 a18 a19)) (N20.rec fun a0 a1 a2 a3 a4 a5 a6 a7 a8 a9 a10 a11 a12 a13 a14 a15 a16 a17 a18 a19 f k => f a14 fun c => k (.mk a0 a1 a2 a3 a4 a5 a6 a7 a8 a9 a10 a11 a12 a13 c a15 a16 a17 a18 a19)) (N20.rec fun a0 a1 a2 a3 a4 a5 a6 a7 a8 a9 a10 a11 a12 a13 a14 a15 a16 a17 a18 a19 f k => f a15 fun c => k (.mk a0 a1 a2 a3 a4 a5 a6 a7 a8 a9 a10 a11 a12 a13 a14 c a16 a17 a18 a19)) (N20.rec fun a0 a1 a2 a3 a4 a5 a6 a7 a8 a9 a10 a11 a12 a13 a14 a15 a16 a17 a18 a19 f k => f a16 fun c => k (.mk a0 a1 a2 a3 a4 a5 a6 a7 a8 a9 a10 a11 a12 a13 a14 a15 c a17 a18 a19)) (N20.rec fun a0 a1 a2 a3 a4 a5 a6 a7 a8 a9 a10 a11 a12 a13 a14 a15 a16 a17 a18 a19 f k => f a17 fun c => k (.mk a0 a1 a2 a3 a4 a5 a6 a7 a8 a9 a10 a11 a12 a13 a14 a15 a16 c a18 a19)) (N20.rec fun a0 a1 a2 a3 a4 a5 a6 a7 a8 a9 a10 a11 a12 a13 a14 a15 a16 a17 a18 a19 f k => f a18 fun c => k (.mk a0 a1 a2 a3 a4 a5 a6 a7 a8 a9 a10 a11 a12 a13 a14 a15 a16 a17 c a19)) (N20.rec fun a0 a1 a2 a3 a4 a5 a6 a7 a8 a9 a10 a11 a12 a13 a14 a15 a16 a17 a18 a19 f k => f a19 fun c => k (.mk a0 a1 a2 a3 a4 a5 a6 a7 a8 a9 a10 a11 a12 a13 a14 a15 a16 a17 a18 c)) d
theorem ptE_eq (d : D20) (n : (N20 (N16 SV))) (f : (N16 SV) → ((N16 SV) → Bool) → Bool) (k : (N20 (N16 SV)) → Bool) : ptE d n f k = f (n.at d) fun c => k (n.set d c) := by cases d <;> rfl
end
end Go.Ev
