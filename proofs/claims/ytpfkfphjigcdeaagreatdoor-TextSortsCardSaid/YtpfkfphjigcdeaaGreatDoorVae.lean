/- A part of a proof. -/
import Derived.Test.YtpfkfphjigcdeaaGreatDoorVad
import Derived.Laws.Tables
import Derived.Laws.Cells
import Derived.Laws.StructEq
namespace Go.HL
open Go

def nW : H -> Prop := fun _ => False
def oW (v : Option Value) (K : KH) (σ : H) : Prop :=
 match v with
 | some v => K v σ
 | none => False
def brW (t : Bool) (A B : H -> Prop) (σ : H) : Prop :=
 match t with
 | true => A σ
 | false => B σ
def ptrW (p : Option Addr) (g : Nat -> Nat -> H -> Prop) (σ : H) : Prop :=
 match p with
 | some ⟨b, o, none⟩ => g b o σ
 | _ => False
def ifW (c : Prop) (g : H -> Prop) : H -> Prop := fun σ => c /\ g σ

def fOff (P : Program) (s : TypeId) (f : Nat) : Option Nat :=
 match P.underlying s with
 | some (.struct fs) => match fs.toList[f]? with
  | some fd => match P.info? fd.type with
   | some i => match i.size with
    | 0 => none
    | _ + 1 => some fd.offset
   | none => none
  | none => none
 | _ => none
def isAggT (P : Program) (t : TypeId) : Option Bool :=
 match P.underlying t with
 | some (.struct _) => some true
 | some (.array _ _) => some true
 | some _ => some false
 | none => none
def sizeT (P : Program) (t : TypeId) : Option Nat :=
 match P.info? t with
 | some i => some i.size
 | none => none
def zeroT (P : Program) (t : TypeId) : Option Value :=
 match P.info? t with
 | some i => i.zero
 | none => none

section
variable {P : Program}
theorem run_typeInfo' {t : TypeId} {i : TypeInfo} (h : P.info? t = some i) (w : World) : (typeInfo t).run P w = .ok i w := by
 simp [typeInfo, h]
theorem run_sizeOf {t : TypeId} {n : Nat} (h : sizeT P t = some n) (w : World) : (sizeOf t).run P w = .ok n w := by
 unfold sizeT at h
 split at h
 ·rename_i i hi; cases h; simp [sizeOf, run_typeInfo' hi]
 ·cases h
theorem run_zeroValue {t : TypeId} {v : Value} (h : zeroT P t = some v) (w : World) : (zeroValue t).run P w = .ok v w := by
 unfold zeroT at h
 split at h
 ·rename_i i hi; simp [zeroValue, run_typeInfo' hi, h]
 ·cases h
theorem run_isAgg {t : TypeId} {b : Bool} (h : isAggT P t = some b) (w : World) : (isAgg t).run P w = .ok b w := by
 unfold isAggT at h
 cases hu : P.underlying t with
 | none => simp [hu] at h
 | some d =>
  simp only [hu] at h
  cases d <;> simp at h <;> subst h <;> simp [isAgg, run_underlying hu]
theorem add_none (b o n : Nat) : (⟨b, o, none⟩ : Addr).add n = ⟨b, o + n, none⟩ := by
 unfold Addr.add; split
 ·rename_i h; subst h; rfl
 ·rfl
end

def partV (P : Program) (t : TypeId) (l : List Value) (off : Nat) : Option Value :=
 match isAggT P t with
 | some true => match sizeT P t with
  | some n => some (.agg ⟨(l.drop off).take n⟩)
  | none => none
 | some false => l[off]?
 | none => none
theorem run_part {P : Program} {t : TypeId} {l : List Value} {off : Nat} {v : Value} (h : partV P t l off = some v) (w : World) : (part t ⟨l⟩ off).run P w = .ok v w := by
 unfold partV at h
 split at h
 ·rename_i ha
  split at h
  ·rename_i n hn
   cases h
   simp only [part, Sem.run_bind, run_isAgg ha, Result.andThen_ok, if_true, run_sizeOf hn, Sem.run_pure]
   have : (Array.mk l).extract off (off + n) = ⟨(l.drop off).take n⟩ := by
    apply Array.ext'; simp
   rw [this]
  ·cases h
 ·rename_i ha
  simp [part, run_isAgg ha, h]
 ·cases h
def fieldV (P : Program) (s : TypeId) (l : List Value) (f : Nat) : Option Value :=
 match P.underlying s with
 | some (.struct fs) => match fs.toList[f]? with
  | some fd => partV P fd.type l fd.offset
  | none => none
 | _ => none

def strEq (x y : ByteArray) : Bool := x.toList == y.toList
def strLt (x y : ByteArray) : Bool := Op.bytesLess x.toList y.toList
def bitV (op : BinOp) (k : IntKind) (x y : Int) : Int :=
 match op with
 | .and => k.wrap (BitVec.ofInt k.bits x &&& BitVec.ofInt k.bits y).toNat
 | .or => k.wrap (BitVec.ofInt k.bits x ||| BitVec.ofInt k.bits y).toNat
 | .xor => k.wrap (BitVec.ofInt k.bits x ^^^ BitVec.ofInt k.bits y).toNat
 | _ => k.wrap (BitVec.ofInt k.bits x &&& ~~~BitVec.ofInt k.bits y).toNat

def intF (op : BinOp) (k : IntKind) (a b : Int) (K : KH) : H -> Prop :=
 match op with
 | .add => K (.int k (k.wrap (a + b)))
 | .sub => K (.int k (k.wrap (a - b)))
 | .mul => K (.int k (k.wrap (a * b)))
 | .quo => ifW (b ≠ 0) (K (.int k (k.wrap (a.tdiv b))))
 | .rem => ifW (b ≠ 0) (K (.int k (a.tmod b)))
 | .and => K (.int k (bitV .and k a b))
 | .or => K (.int k (bitV .or k a b))
 | .xor => K (.int k (bitV .xor k a b))
 | .andNot => K (.int k (bitV .andNot k a b))
 | .eql => K (.bool (a == b))
 | .neq => K (.bool (a != b))
 | .lss => K (.bool (decide (a < b)))
 | .leq => K (.bool (decide (a <= b)))
 | .gtr => K (.bool (decide (a > b)))
 | .geq => K (.bool (decide (a >= b)))
 | _ => nW
def shF (op : BinOp) (k : IntKind) (a b : Int) (K : KH) : H -> Prop :=
 match op with
 | .shl => ifW (0 <= b) (K (.int k (k.wrap (a * 2 ^ min b.toNat k.bits))))
 | .shr => ifW (0 <= b) (K (.int k (a.fdiv (2 ^ min b.toNat k.bits))))
 | _ => nW
def strF (op : BinOp) (x y : ByteArray) (K : KH) : H -> Prop :=
 match op with
 | .add => ifW (x.size + y.size <= 9223372036854775807) (K (.string (x ++ y)))
 | .eql => K (.bool (strEq x y))
 | .neq => K (.bool (!strEq x y))
 | .lss => K (.bool (strLt x y))
 | .leq => K (.bool (strLt x y || strEq x y))
 | .gtr => K (.bool !(strLt x y || strEq x y))
 | .geq => K (.bool !(strLt x y))
 | _ => nW
def eqS : Value -> Value -> Option Bool
 | .bool a, .bool b => some (a == b)
 | .int k a, .int k' b => match sameK k k' with
  | true => some (a == b)
  | false => none
 | .string a, .string b => some (strEq a b)
 | _, _ => none
def scalT (P : Program) (t : TypeId) (v : Value) : Bool :=
 match P.underlying t, v with
 | some .bool, .bool _ => true
 | some (.int _), .int _ _ => true
 | some .string, .string _ => true
 | _, _ => false
def eqFs (P : Program) (xs ys : List Value) : List Field -> Option Bool
 | [] => some true
 | f :: fs => match xs[f.offset]?, ys[f.offset]? with
  | some x, some y => match scalT P f.type x && !(f.name == "_") with
   | true => match eqS x y, eqFs P xs ys fs with
    | some a, some b => some (a && b)
    | _, _ => none
   | false => none
  | _, _ => none
def eqAgg (P : Program) (t : TypeId) (xs ys : List Value) : Option Bool :=
 match P.underlying t with
 | some (.struct fs) => match P.stoodInHeld t, P.eqGuardType P.depth t with
  | false, false => eqFs P xs ys fs.toList
  | _, _ => none
 | _ => none
def negB (neg : Bool) (b : Bool) : Bool :=
 match neg with
 | true => !b
 | false => b
def eqF (P : Program) (neg : Bool) (t : TypeId) (x y : Value) (K : KH) (σ : H) : Prop :=
 match P.underlying t, x, y with
 | some .bool, .bool a, .bool b => K (.bool (negB neg (a == b))) σ
 | some (.pointer _), .pointer p, .pointer none => K (.bool (negB neg p.isNone)) σ
 | some (.slice _), .slice p _ _, .slice none _ _ => K (.bool (negB neg p.isNone)) σ
 | some (.map _ _), .map p, .map none => K (.bool (negB neg p.isNone)) σ
 | some (.struct _), .agg ⟨xs⟩, .agg ⟨ys⟩ => match eqAgg P t xs ys with
  | some b => K (.bool (negB neg b)) σ
  | none => False
 | _, _, _ => False
def bopF (P : Program) (op : BinOp) (t : TypeId) (x y : Value) (K : KH) (σ : H) : Prop :=
 match x, y with
 | .int k a, .int k' b => match op with
  | .shl => shF .shl k a b K σ
  | .shr => shF .shr k a b K σ
  | _ => match sameK k k' with
   | true => intF op k a b K σ
   | false => False
 | .string a, .string b => strF op a b K σ
 | _, _ => match op with
  | .eql => eqF P false t x y K σ
  | .neq => eqF P true t x y K σ
  | _ => False

theorem run_eqGuard_no {P : Program} {w : World} (op : BinOp) (t : TypeId) (x y : Operand) (a b : Value) (h1 : a ≠ .nilIface) (h2 : ∀ c, a ≠ .agg c) : (eqGuard op t x y a b).run P w = .ok () w := by
 cases a <;> first
  | exact absurd rfl h1
  | exact absurd rfl (h2 _)
  | (unfold eqGuard; simp only [Sem.run_ite, Sem.run_pure]; split <;> rfl)
  | (unfold eqGuard; cases op <;> rfl)

theorem maxInt : IntKind.i64.max = 9223372036854775807 := by decide

theorem intF_sound {P : Program} {op : BinOp} {k : IntKind} {a b : Int} {t : TypeId} {K : KH} {σ : H} (h : intF op k a b K σ) (hs : op ≠ .shl) (hs' : op ≠ .shr) :
 ∃ v, (∀ w, (binOp op t (.int k a) (.int k b)).run P w = .ok v w) /\ K v σ := by
 cases op <;> simp only [intF] at h <;> first
  | exact absurd rfl hs
  | exact absurd rfl hs'
  | exact h.elim
  | exact ⟨_, fun w => by simp [binOp, Op.intArith, Op.intBits, Op.intCmp, bitV], h⟩
  | exact ⟨_, fun w => by simp [binOp, Op.intDiv, h.1], h.2⟩
theorem shF_sound {P : Program} {op : BinOp} {k k' : IntKind} {a b : Int} {t : TypeId} {K : KH} {σ : H} (h : shF op k a b K σ) :
 ∃ v, (∀ w, (binOp op t (.int k a) (.int k' b)).run P w = .ok v w) /\ K v σ := by
 cases op <;> simp only [shF] at h <;> first
  | exact h.elim
  | (refine ⟨_, fun w => ?_, h.2⟩; have := h.1; simp [binOp, Op.shift, show ¬ b < 0 by omega])
theorem strF_sound {P : Program} {op : BinOp} {a b : ByteArray} {t : TypeId} {K : KH} {σ : H} (h : strF op a b K σ) :
 ∃ v, (∀ w, (binOp op t (.string a) (.string b)).run P w = .ok v w) /\ K v σ := by
 cases op <;> simp only [strF] at h <;> first
  | exact h.elim
  | exact ⟨_, fun w => by simp [binOp, Op.stringOp, strEq, strLt], h⟩
  | (refine ⟨_, fun w => ?_, h.2⟩
     have h1 := h.1
     have : ¬ (((a.size + b.size : Nat) : Int) > IntKind.i64.max) := by rw [maxInt]; omega
     simp only [binOp, Op.stringOp, this, if_false, Sem.run_pure])

theorem eqFs_sound {P : Program} {d : Nat} {xs ys : List Value} (w : World) : ∀ (fs : List Field) (b : Bool), eqFs P xs ys fs = some b -> (Op.eqFields (d + 1) ⟨xs⟩ ⟨ys⟩ fs).run P w = .ok b w := by
 intro fs
 induction fs with
 | nil => intro b h; simp [eqFs] at h; subst h; simp [Op.eqFields]
 | cons f fs ih =>
  intro b h
  simp only [eqFs] at h
  split at h
  ·rename_i x y hx hy
   split at h
   ·rename_i hs
    split at h
    ·rename_i a c ha hc
     cases h
     simp only [Bool.and_eq_true, Bool.not_eq_true'] at hs
     obtain ⟨hs, hn⟩ := hs
     have hne : f.name ≠ "_" := by simpa using hn
     have hag : isAggT P f.type = some false := by
      unfold scalT at hs
      unfold isAggT
      split at hs <;> first | (cases hs; done) | (rename_i hu; simp [hu])
     have px : (part f.type ⟨xs⟩ f.offset).run P w = .ok x w := run_part (by simp [partV, hag, hx]) w
     have py : (part f.type ⟨ys⟩ f.offset).run P w = .ok y w := run_part (by simp [partV, hag, hy]) w
     have he : (Op.equalIn (d + 1) f.type x y).run P w = .ok a w := by
      unfold scalT at hs
      split at hs
      ·rename_i hu
       unfold eqS at ha; split at ha <;> simp_all
       subst ha; simp [Op.equalIn, run_underlying hu]
      ·rename_i hu
       unfold eqS at ha; split at ha <;> simp_all
       split at ha <;> simp_all
       rename_i hk
       have hk' := sameK_eq hk
       subst ha; simp [Op.equalIn, run_underlying hu, hk']
      ·rename_i hu
       unfold eqS at ha; split at ha <;> simp_all
       subst ha; simp [Op.equalIn, run_underlying hu, strEq, beq_toListBytes]
      ·cases hs
     simp only [Op.eqFields, hne, ne_eq, not_false_eq_true, if_true, Sem.run_bind, px, py, he, Result.andThen_ok]
     cases a with
     | false => simp
     | true => simp [ih c hc]
    ·cases h
   ·cases h
  ·cases h
section
variable {P : Program} (w : World) (d : Nat) {t : TypeId}
theorem eq_bool (a b : Bool) (hu : P.underlying t = some .bool) : (Op.equalIn (d + 1) t (.bool a) (.bool b)).run P w = .ok (a == b) w := by
 simp [Op.equalIn, run_underlying hu]
theorem eq_ptr {e : TypeId} (p : Option Addr) (hu : P.underlying t = some (.pointer e)) : (Op.equalIn (d + 1) t (.pointer p) (.pointer none)).run P w = .ok p.isNone w := by
 cases p <;> simp [Op.equalIn, run_underlying hu]
theorem eq_slc {e : TypeId} (p : Option Addr) (l c l' c' : Nat) (hu : P.underlying t = some (.slice e)) : (Op.equalIn (d + 1) t (.slice p l c) (.slice none l' c')).run P w = .ok p.isNone w := by
 cases p <;> simp [Op.equalIn, run_underlying hu]
theorem eq_map {k e : TypeId} (p : Option Nat) (hu : P.underlying t = some (.map k e)) : (Op.equalIn (d + 1) t (.map p) (.map none)).run P w = .ok p.isNone w := by
 cases p <;> simp [Op.equalIn, run_underlying hu]
end
theorem eq_run {P : Program} {neg : Bool} {t : TypeId} {x y : Value} {ox oy : Operand} {w : World} {b : Bool} (h1 : x ≠ .nilIface) (h2 : ∀ c, x ≠ .agg c) (h3 : ∀ k n, x ≠ .int k n) (h4 : ∀ s, x ≠ .string s)
 (h5 : ∀ k n, x ≠ .float k n) (h6 : ∀ k n m, x ≠ .complex k n m) (h : (Op.equalIn 10000 t x y).run P w = .ok b w) :
 (do eqGuard (if neg then .neq else .eql) t ox oy x y; binOp (if neg then .neq else .eql) t x y : Sem Value).run P w = .ok (.bool (negB neg b)) w := by
 rw [Sem.run_bind, run_eqGuard_no _ _ _ _ _ _ h1 h2, Result.andThen_ok]
 cases neg
 ·have e : binOp .eql t x y = (do pure (.bool (<- Op.equal t x y))) := by
   cases x <;> first | rfl | exact absurd rfl (h3 _ _) | exact absurd rfl (h4 _) | exact absurd rfl (h5 _ _) | exact absurd rfl (h6 _ _ _)
  simp only [Bool.false_eq_true, if_false, e, Sem.run_bind, Op.equal, Op.maxDepth, h, Result.andThen_ok, Sem.run_pure, negB]
 ·have e : binOp .neq t x y = (do pure (.bool (!(<- Op.equal t x y)))) := by
   cases x <;> first | rfl | exact absurd rfl (h3 _ _) | exact absurd rfl (h4 _) | exact absurd rfl (h5 _ _) | exact absurd rfl (h6 _ _ _)
  simp only [if_true, e, Sem.run_bind, Op.equal, Op.maxDepth, h, Result.andThen_ok, Sem.run_pure, negB]
theorem eqF_sound {P : Program} {neg : Bool} {t : TypeId} {x y : Value} {ox oy : Operand} {K : KH} {σ : H} (h : eqF P neg t x y K σ) :
 ∃ v, (∀ w, (do eqGuard (if neg then .neq else .eql) t ox oy x y; binOp (if neg then .neq else .eql) t x y : Sem Value).run P w = .ok v w) /\ K v σ := by
 unfold eqF at h
 split at h
 ·rename_i a b hu
  exact ⟨_, fun w => eq_run (by simp) (by simp) (by simp) (by simp) (by simp) (by simp) (eq_bool w 9999 _ _ hu), h⟩
 ·rename_i p hu
  exact ⟨_, fun w => eq_run (by simp) (by simp) (by simp) (by simp) (by simp) (by simp) (eq_ptr w 9999 _ hu), h⟩
 ·rename_i p _ _ _ _ hu
  exact ⟨_, fun w => eq_run (by simp) (by simp) (by simp) (by simp) (by simp) (by simp) (eq_slc w 9999 _ _ _ _ _ hu), h⟩
 ·rename_i p hu
  exact ⟨_, fun w => eq_run (by simp) (by simp) (by simp) (by simp) (by simp) (by simp) (eq_map w 9999 _ hu), h⟩
 ·rename_i fs xs ys hu
  split at h
  ·rename_i b hb
   refine ⟨_, fun w => ?_, h⟩
   unfold eqAgg at hb
   simp only [hu] at hb
   split at hb
   ·rename_i h1 h2
    have hf : P.fieldsOf t = fs := by simp [Program.fieldsOf, hu]
    have hq : (Op.equalIn 10000 t (.agg ⟨xs⟩) (.agg ⟨ys⟩)).run P w = .ok b w := by
     rw [run_equalIn_struct w 9999 t ⟨xs⟩ ⟨ys⟩ (by rw [hf]; exact hu) h1, hf]
     exact eqFs_sound (d := 9998) w fs.toList b hb
    cases neg
    ·simp only [Bool.false_eq_true, if_false, Sem.run_bind, run_eqGuard_agg w .eql t ox oy ⟨xs⟩ ⟨ys⟩ h2, Result.andThen_ok, run_eql_struct, hq, negB]
    ·simp only [if_true, Sem.run_bind, run_eqGuard_agg w .neq t ox oy ⟨xs⟩ ⟨ys⟩ h2, Result.andThen_ok, run_neq_struct, hq, negB]
   ·cases hb
  ·exact h.elim
 ·exact h.elim
theorem bopF_sound {P : Program} {op : BinOp} {t : TypeId} {x y : Value} {ox oy : Operand} {K : KH} {σ : H} (h : bopF P op t x y K σ) :
 ∃ v, (∀ w, (do eqGuard op t ox oy x y; binOp op t x y : Sem Value).run P w = .ok v w) /\ K v σ := by
 unfold bopF at h
 split at h
 ·rename_i k a k' b
  split at h
  ·obtain ⟨v, hv, hk⟩ := shF_sound (P := P) (t := t) (k' := k') h
   exact ⟨v, fun w => by simp [run_eqGuard_no, hv w], hk⟩
  ·obtain ⟨v, hv, hk⟩ := shF_sound (P := P) (t := t) (k' := k') h
   exact ⟨v, fun w => by simp [run_eqGuard_no, hv w], hk⟩
  ·rename_i h1 h2
   split at h
   ·rename_i hk
    have := sameK_eq hk; subst this
    obtain ⟨v, hv, hk⟩ := intF_sound (P := P) (t := t) h (fun e => h1 e) (fun e => h2 e)
    exact ⟨v, fun w => by simp [run_eqGuard_no, hv w], hk⟩
   ·exact h.elim
 ·obtain ⟨v, hv, hk⟩ := strF_sound (P := P) (t := t) h
  exact ⟨v, fun w => by simp [run_eqGuard_no, hv w], hk⟩
 ·split at h
  ·exact eqF_sound (neg := false) (ox := ox) (oy := oy) h
  ·exact eqF_sound (neg := true) (ox := ox) (oy := oy) h
  ·exact h.elim
end Go.HL

