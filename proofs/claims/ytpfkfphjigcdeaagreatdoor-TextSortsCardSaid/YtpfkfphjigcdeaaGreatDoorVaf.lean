/- A part of a proof. -/
import Derived.Test.YtpfkfphjigcdeaaGreatDoorVae
namespace Go.HL
open Go

def idxW (s : ByteArray) (i : Int) (g : UInt8 -> H -> Prop) (σ : H) : Prop :=
 match (if 0 <= i then s[i.toNat]? else none) with
 | some b => g b σ
 | none => False
def bndOk (x : Option Int) (m : Nat) : Prop :=
 match x with
 | some x => 0 <= x /\ x <= m
 | none => True
def bndAt (x : Option Int) (d : Nat) : Nat :=
 match x with
 | some x => x.toNat
 | none => d
def slBase (a : Option Addr) (l m n : Nat) : Option Addr := if m = l then a else a.map (·.add (l * n))

def evB (e : Env) : Option Operand -> Option (Option Int)
 | none => some none
 | some x => match evO e x with
  | some (.int _ n) => some (some n)
  | _ => none

def idxAddrF (P : Program) (t : TypeId) (x : Value) (i : Int) (K : KH) (σ : H) : Prop :=
 match P.underlying t, x with
 | some (.slice el), .slice base len _ => match sizeT P el with
  | some n => ptrW base (fun b o => ifW (0 <= i /\ i < len) (K (.pointer (some ⟨b, o + i.toNat * n, none⟩)))) σ
  | none => False
 | some (.array len el), .pointer base => match sizeT P el with
  | some n => ptrW base (fun b o => ifW (0 <= i /\ i < len) (K (.pointer (some ⟨b, o + i.toNat * n, none⟩)))) σ
  | none => False
 | _, _ => False
def slF (P : Program) (t : TypeId) (x : Value) (lo hi mx : Option Int) (K : KH) (σ : H) : Prop :=
 match P.underlying t, x, mx with
 | some .string, .string s, none => ifW (bndOk hi s.size /\ bndOk lo (bndAt hi s.size)) (K (.string (s.extract (bndAt lo 0) (bndAt hi s.size)))) σ
 | some (.slice el), .slice a len cap, none => match sizeT P el with
  | some n => ifW (bndOk hi cap /\ bndOk lo (bndAt hi len)) (K (.slice (slBase a (bndAt lo 0) cap n) (bndAt hi len - bndAt lo 0) (cap - bndAt lo 0))) σ
  | none => False
 | some (.slice el), .slice a _ cap, some m => match sizeT P el, hi with
  | some n, some h => ifW (bndOk (some m) cap /\ bndOk (some h) m.toNat /\ bndOk lo h.toNat) (K (.slice (slBase a (bndAt lo 0) m.toNat n) (h.toNat - bndAt lo 0) (m.toNat - bndAt lo 0))) σ
  | _, _ => False
 | some (.array N el), .pointer base, none => match sizeT P el with
  | some n => ptrW base (fun b o => ifW (bndOk hi N /\ bndOk lo (bndAt hi N)) (K (.slice (slBase (some ⟨b, o, none⟩) (bndAt lo 0) N n) (bndAt hi N - bndAt lo 0) (N - bndAt lo 0)))) σ
  | none => False
 | _, _, _ => False
def lenF (P : Program) (t : TypeId) (x : Value) : Option Value :=
 match P.underlying t, x with
 | some .string, .string s => some (.int .i64 s.size)
 | some (.slice _), .slice _ n _ => some (.int .i64 n)
 | some (.array n _), _ => some (.int .i64 n)
 | some (.pointer arr), _ => match P.underlying arr with
  | some (.array n _) => some (.int .i64 n)
  | _ => none
 | _, _ => none
def builtF (P : Program) (b : Builtin) (ts : Array TypeId) (vs : List Value) : Option Value :=
 match b, vs with
 | .len, [x] => match ts.toList with
  | t :: _ => lenF P t x
  | [] => none
 | .cap, [.slice _ _ c] => match ts.toList with
  | t :: _ => match P.underlying t with
   | some (.slice _) => some (.int .i64 c)
   | _ => none
  | [] => none
 | .min, [.int k x, .int _ y] => some (.int k (if y < x then y else x))
 | .max, [.int k x, .int _ y] => some (.int k (if y > x then y else x))
 | _, _ => none
def convF (P : Program) (s d : TypeId) (x : Value) : Option Value :=
 match P.underlying s, P.underlying d, x with
 | some _, some (.int k), .int _ n => some (.int k (k.wrap n))
 | some _, some .string, .string b => some (.string b)
 | _, _, _ => none
def unF (op : UnOp) (x : Value) : Option Value :=
 match op, x with
 | .not, .bool b => some (.bool !b)
 | .neg, .int k n => some (.int k (k.wrap (0 - n)))
 | .xor, .int k n => some (.int k (bitV .xor k (if k.signed then -1 else k.max) n))
 | _, _ => none
def concT (P : Program) (t : TypeId) : Bool :=
 match P.underlying t with
 | some (.interface _) => false
 | some _ => true
 | none => false
def evP (e : Env) : List (Nat × Operand) -> Option (List (Nat × Value))
 | [] => some []
 | (i, x) :: r => match evO e x with
  | some v => match evP e r with
   | some vs => some ((i, v) :: vs)
   | none => none
  | none => none
def arrL (a : Array Value) : List Value := match a with | ⟨l⟩ => l

def oneK (v : Value) (g : H -> Prop) (σ : H) : Prop :=
 match v with
 | .agg _ => False
 | .tuple _ => False
 | _ => g σ
def wrapP (P : Program) (ty : Nat -> Option TypeId) : List (Nat × Value) -> (List (Nat × Value) -> H -> Prop) -> H -> Prop
 | [], k, σ => k [] σ
 | (i, v) :: r, k, σ => match ty i with
  | none => False
  | some t => match isAggT P t with
   | some true => wrapP P ty r (fun us => k ((i, v) :: us)) σ
   | some false => oneK v (wrapP P ty r (fun us => k ((i, .agg ⟨[v]⟩) :: us))) σ
   | none => False
def partTy (P : Program) (t : TypeId) (i : Nat) : Option TypeId :=
 match P.underlying t with
 | some (.struct fs) => match fs.toList[i]? with
  | some f => some f.type
  | none => none
 | some (.array _ e) => some e
 | some (.slice e) => some e
 | _ => none
def nilF (v : Value) (K : KH) (σ : H) : Prop :=
 match v with
 | .pointer p => ptrW p (fun b o => K (.pointer (some ⟨b, o, none⟩))) σ
 | .func (.func f) a c => K (.func (.func f) a c) σ
 | .func (.yield f) a c => K (.func (.yield f) a c) σ
 | _ => False

def silF (P : Program) (e : Env) (K : KH) (o : Op) (σ : H) : Prop :=
 match o with
 | .move x => oW (evO e x) K σ
 | .assign x => oW (evO e x) K σ
 | .pick c a b => match evO e c with
  | some (.bool t) => brW t (oW (evO e a) K) (oW (evO e b) K) σ
  | _ => False
 | .nilCheck x => match evO e x with
  | some v => nilF v K σ
  | none => False
 | .fieldAddr s x f => match evO e x, fOff P s f with
  | some (.pointer p), some n => ptrW p (fun b o => K (.pointer (some ⟨b, o + n, none⟩))) σ
  | _, _ => False
 | .field s x f => match evO e x with
  | some (.agg ⟨l⟩) => oW (fieldV P s l f) K σ
  | _ => False
 | .extract x i => match evO e x with
  | some (.tuple ⟨l⟩) => oW l[i]? K σ
  | _ => False
 | .binOp op t x y _ => match evO e x, evO e y with
  | some u, some v => bopF P op t u v K σ
  | _, _ => False
 | .unOp op _ x => match evO e x with
  | some u => oW (unF op u) K σ
  | _ => False
 | .convert s d x => match evO e x with
  | some u => oW (convF P s d u) K σ
  | _ => False
 | .makeInterface t x => match evO e x, concT P t with
  | some u, true => K (.iface t u) σ
  | _, _ => False
 | .makeFunc fn ⟨xs⟩ ⟨ys⟩ => match evL e xs, evL e ys with
  | some us, some vs => K (.func fn ⟨us⟩ ⟨vs⟩) σ
  | _, _ => False
 | .build t ⟨ps⟩ => match evP e ps with
  | some us => wrapP P (partTy P t) us (fun us σ => match P.built t us with
   | some cs => K (.agg ⟨arrL cs⟩) σ
   | none => False) σ
  | none => False
 | .index t x i => match evO e x, evO e i, P.underlying t with
  | some (.string s), some (.int _ i), some .string => idxW s i (fun b => K (.int .u8 b.toNat)) σ
  | _, _, _ => False
 | .indexAddr t x i => match evO e x, evO e i with
  | some u, some (.int _ i) => idxAddrF P t u i K σ
  | _, _ => False
 | .slice t x lo hi mx => match evO e x, evB e lo, evB e hi, evB e mx with
  | some u, some lo, some hi, some mx => slF P t u lo hi mx K σ
  | _, _, _, _ => False
 | .call { callee := .builtin b, args := ⟨xs⟩, argTypes := ts } => match evL e xs with
  | some vs => oW (builtF P b ts vs) K σ
  | none => False
 | _ => False

section
variable {P : Program}
theorem arrL_eq (a : Array Value) : (⟨arrL a⟩ : Array Value) = a := by cases a; rfl
theorem ptrW_get {p : Option Addr} {g : Nat -> Nat -> H -> Prop} {σ : H} (h : ptrW p g σ) : ∃ b o, p = some ⟨b, o, none⟩ /\ g b o σ := by
 unfold ptrW at h
 split at h
 ·exact ⟨_, _, rfl, h⟩
 ·exact h.elim
theorem oW_get {v : Option Value} {K : KH} {σ : H} (h : oW v K σ) : ∃ u, v = some u /\ K u σ := by
 unfold oW at h
 split at h
 ·exact ⟨_, rfl, h⟩
 ·exact h.elim
theorem run_fieldAt {s : TypeId} {f n b o : Nat} (h : fOff P s f = some n) (w : World) : (Instr.fieldAt s (.pointer (some ⟨b, o, none⟩)) f).run P w = .ok (.pointer (some ⟨b, o + n, none⟩)) w := by
 unfold fOff at h
 split at h
 ·rename_i fs hu
  split at h
  ·rename_i fd hfd
   split at h
   ·rename_i i hi
    split at h
    ·cases h
    ·rename_i m hm
     cases h
     have hs : sizeT P fd.type = some (m + 1) := by simp [sizeT, hi, hm]
     have hfd' : fs[f]? = some fd := by simpa using hfd
     simp [Instr.fieldAt, run_underlying hu, hfd', Instr.sureAddr, fieldPlace, run_sizeOf hs, add_none]
   ·cases h
  ·cases h
 ·cases h
theorem run_field {s : TypeId} {l : List Value} {f : Nat} {v : Value} (h : fieldV P s l f = some v) (w : World) : (Instr.field s (.agg ⟨l⟩) f).run P w = .ok v w := by
 unfold fieldV at h
 split at h
 ·rename_i fs hu
  split at h
  ·rename_i fd hfd
   have hfd' : fs[f]? = some fd := by simpa using hfd
   simp [Instr.field, run_underlying hu, hfd', asAgg, run_part h]
  ·cases h
 ·cases h
theorem evB_val {N : Nat} {e : Env} {a : Act} (fr : FR N e a) {x : Option Operand} {b : Option Int} (h : evB e x = some b) :
 (x.map a.eval = none /\ b = none) \/ ∃ k n, x.map a.eval = some (.int k n) /\ b = some n := by
 cases x with
 | none => simp [evB] at h; exact .inl ⟨rfl, h.symm⟩
 | some x =>
  simp only [evB] at h
  split at h
  ·rename_i k n hn; cases h; exact .inr ⟨k, n, by simp [fr.evO hn], rfl⟩
  ·cases h
theorem evP_val {N : Nat} {e : Env} {a : Act} (fr : FR N e a) : ∀ {ps : List (Nat × Operand)} {us : List (Nat × Value)}, evP e ps = some us -> ps.map (fun (i, x) => (i, a.eval x)) = us := by
 intro ps
 induction ps with
 | nil => intro us h; simp [evP] at h; simp [h]
 | cons p ps ih =>
  intro us h
  obtain ⟨i, x⟩ := p
  simp only [evP] at h
  split at h
  ·rename_i v hv
   split at h
   ·rename_i vs hvs; cases h; simp [fr.evO hv, ih hvs]
   ·cases h
  ·cases h

theorem idxAddrF_sound {t : TypeId} {x : Value} {k : IntKind} {i : Int} {K : KH} {σ : H} (h : idxAddrF P t x i K σ) :
 ∃ v, (∀ w, (Instr.indexAt t x (.int k i)).run P w = .ok v w) /\ K v σ := by
 unfold idxAddrF at h
 split at h
 ·rename_i el base len _ hu
  split at h
  ·rename_i n hn
   obtain ⟨b, o, rfl, hc, h⟩ := ptrW_get h
   refine ⟨_, fun w => ?_, h⟩
   simp [Instr.indexAt, asIntOf, run_underlying hu, hc, run_sizeOf hn, add_none]
  ·exact h.elim
 ·rename_i len el base hu
  split at h
  ·rename_i n hn
   obtain ⟨b, o, rfl, hc, h⟩ := ptrW_get h
   refine ⟨_, fun w => ?_, h⟩
   simp [Instr.indexAt, asIntOf, Instr.sureAddr, run_underlying hu, hc, run_sizeOf hn, add_none]
  ·exact h.elim
 ·exact h.elim

theorem run_bounds2 {isSl : Bool} {len cap : Nat} {lo hi : Option Value} {l h : Option Int} (hl : (lo = none /\ l = none) \/ ∃ k n, lo = some (.int k n) /\ l = some n) (hh : (hi = none /\ h = none) \/ ∃ k n, hi = some (.int k n) /\ h = some n)
 (b1 : bndOk h cap) (b2 : bndOk l (bndAt h len)) (w : World) : (Instr.sliceBounds isSl len cap lo hi none).run P w = .ok (bndAt l 0, bndAt h len, cap) w := by
 rcases hh with ⟨rfl, rfl⟩ | ⟨k, n, rfl, rfl⟩ <;> rcases hl with ⟨rfl, rfl⟩ | ⟨k', n', rfl, rfl⟩ <;> simp only [bndOk, bndAt] at b1 b2 ⊢ <;>
  simp only [Instr.sliceBounds, Instr.sliceBound, asIntOf, Sem.run_bind, Sem.run_pure, Result.andThen_ok, Sem.run_ite, b1, b2, and_self, if_true]
theorem run_bounds3 {len cap : Nat} {lo hi mx : Option Value} {l : Option Int} {h m : Int} {k1 k2 : IntKind} (hl : (lo = none /\ l = none) \/ ∃ k n, lo = some (.int k n) /\ l = some n) (hh : hi = some (.int k1 h)) (hm : mx = some (.int k2 m))
 (b0 : bndOk (some m) cap) (b1 : bndOk (some h) m.toNat) (b2 : bndOk l h.toNat) (w : World) : (Instr.sliceBounds true len cap lo hi mx).run P w = .ok (bndAt l 0, h.toNat, m.toNat) w := by
 subst hh hm
 have b1' : 0 <= h /\ h <= (m.toNat : Int) := b1
 rcases hl with ⟨rfl, rfl⟩ | ⟨k', n', rfl, rfl⟩ <;> simp only [bndOk, bndAt] at b0 b2 ⊢
 ·simp only [Instr.sliceBounds, Instr.sliceBound, asIntOf, Sem.run_bind, Sem.run_pure, Result.andThen_ok, Sem.run_ite, b0, b1', and_self, if_true]
 ·simp only [Instr.sliceBounds, Instr.sliceBound, asIntOf, Sem.run_bind, Sem.run_pure, Result.andThen_ok, Sem.run_ite, b0, b1', b2, and_self, if_true]

theorem slF_sound {t : TypeId} {x : Value} {lo hi mx : Option Value} {l h m : Option Int} {K : KH} {σ : H} (hl : (lo = none /\ l = none) \/ ∃ k n, lo = some (.int k n) /\ l = some n) (hh : (hi = none /\ h = none) \/ ∃ k n, hi = some (.int k n) /\ h = some n)
 (hm : (mx = none /\ m = none) \/ ∃ k n, mx = some (.int k n) /\ m = some n) (hf : slF P t x l h m K σ) : ∃ v, (∀ w, (Instr.sliceAt t x lo hi mx).run P w = .ok v w) /\ K v σ := by
 unfold slF at hf
 split at hf
 ·rename_i s hu
  obtain ⟨rfl, _⟩ : mx = none /\ _ := by rcases hm with h | ⟨_, _, _, h⟩; exact h; cases h
  obtain ⟨⟨b1, b2⟩, hf⟩ := hf
  refine ⟨_, fun w => ?_, hf⟩
  simp [Instr.sliceAt, Instr.slice, run_underlying hu, run_bounds2 hl hh b1 b2]
 ·rename_i el a len cap hu
  obtain ⟨rfl, _⟩ : mx = none /\ _ := by rcases hm with h | ⟨_, _, _, h⟩; exact h; cases h
  split at hf
  ·rename_i n hn
   obtain ⟨⟨b1, b2⟩, hf⟩ := hf
   refine ⟨_, fun w => ?_, hf⟩
   simp [Instr.sliceAt, Instr.slice, run_underlying hu, run_bounds2 hl hh b1 b2, run_sizeOf hn, slBase]
  ·exact hf.elim
 ·rename_i el a len cap m hu
  split at hf
  ·rename_i n hh' hn
   obtain ⟨⟨b0, b1, b2⟩, hf⟩ := hf
   obtain ⟨k2, m', rfl, e⟩ : ∃ k n, mx = some (.int k n) /\ some m = some n := by rcases hm with ⟨_, h⟩ | h; cases h; exact h
   cases e
   obtain ⟨k1, h1, rfl, e⟩ : ∃ k n, hi = some (.int k n) /\ some hh' = some n := by rcases hh with ⟨_, h⟩ | h; cases h; exact h
   cases e
   refine ⟨_, fun w => ?_, hf⟩
   simp [Instr.sliceAt, Instr.slice, run_underlying hu, run_bounds3 hl rfl rfl b0 b1 b2, run_sizeOf hn, slBase]
  ·exact hf.elim
 ·rename_i N el base hu
  obtain ⟨rfl, _⟩ : mx = none /\ _ := by rcases hm with h | ⟨_, _, _, h⟩; exact h; cases h
  split at hf
  ·rename_i n hn
   obtain ⟨b, o, rfl, ⟨b1, b2⟩, hf⟩ := ptrW_get hf
   refine ⟨_, fun w => ?_, hf⟩
   simp [Instr.sliceAt, Instr.sureAddr, run_underlying hu, run_bounds2 hl hh b1 b2, run_sizeOf hn, slBase]
   split <;> rfl
  ·exact hf.elim
 ·exact hf.elim

theorem builtF_sound {b : Builtin} {ts : Array TypeId} {vs : List Value} {v : Value} {ty : TypeId} {cs : Array Bool} (h : builtF P b ts vs = some v) (w : World) : (builtin b ts ty cs ⟨vs⟩).run P w = .ok (.value v) w := by
 unfold builtF at h
 split at h
 ·rename_i x
  split at h
  ·rename_i t ts' hts
   have ht : ts[0]? = some t := by
    have : ts.toList[0]? = some t := by rw [hts]; rfl
    simpa using this
   unfold lenF at h
   split at h
   ·rename_i hu; cases h; simp [builtin, Builtin.len_, ht, run_underlying hu, goInt]
   ·rename_i hu; cases h; simp [builtin, Builtin.len_, ht, run_underlying hu, goInt]
   ·rename_i hu; cases h; simp [builtin, Builtin.len_, ht, run_underlying hu, goInt]
   ·rename_i arr hu
    split at h
    ·rename_i hu'; cases h; simp [builtin, Builtin.len_, ht, run_underlying hu, run_underlying hu', goInt]
    ·cases h
   ·cases h
  ·cases h
 ·split at h
  ·rename_i t ts' hts
   have ht : ts[0]? = some t := by
    have : ts.toList[0]? = some t := by rw [hts]; rfl
    simpa using this
   split at h
   ·rename_i hu; cases h; simp [builtin, Builtin.cap_, ht, run_underlying hu, goInt]
   ·cases h
  ·cases h
 ·cases h; simp [builtin, Builtin.min_, Builtin.min2]
 ·cases h; simp [builtin, Builtin.max_, Builtin.max2]
 ·cases h

theorem sil_of {o : Oper} {a : Act} {s : Sem Value} {v : Value} (he : execOp a.eval o = (do pure (.value (<- s)))) (h : ∀ w, s.run P w = .ok v w) : Sil P (execOp a.eval o) v := by
 intro w; rw [he]; simp [h w]

theorem oneK_get {v : Value} {g : H -> Prop} {σ : H} (h : oneK v g σ) : v.cells = #[v] /\ v.oneCell' = true /\ g σ := by
 unfold oneK at h
 split at h
 ·exact h.elim
 ·exact h.elim
 ·rename_i h1 h2
  cases v <;> first | exact absurd rfl (h1 _) | exact absurd rfl (h2 _) | exact ⟨rfl, rfl, h⟩
theorem wrapP_get {ty : Nat -> Option TypeId} : ∀ {us : List (Nat × Value)} {k : List (Nat × Value) -> H -> Prop} {σ : H}, wrapP P ty us k σ -> ∃ us', us'.map (fun x => (x.1, x.2.cells)) = us.map (fun x => (x.1, x.2.cells)) /\ k us' σ := by
 intro us
 induction us with
 | nil => intro k σ h; exact ⟨[], rfl, h⟩
 | cons x us ih =>
  obtain ⟨i, v⟩ := x
  intro k σ h
  simp only [wrapP] at h
  split at h
  ·exact h.elim
  ·split at h
   ·obtain ⟨us', h1, h2⟩ := ih h
    exact ⟨_, by simp [h1], h2⟩
   ·obtain ⟨hv, _, h⟩ := oneK_get h
    obtain ⟨us', h1, h2⟩ := ih h
    refine ⟨_, ?_, h2⟩
    rw [List.map_cons, List.map_cons, h1, hv]; rfl
   ·exact h.elim
theorem fill_congr {place : Nat -> Option (Nat × Nat)} : ∀ (us us' : List (Nat × Value)) (cells : Array Value), us'.map (fun x => (x.1, x.2.cells)) = us.map (fun x => (x.1, x.2.cells)) -> Instr.fill place cells us' = Instr.fill place cells us := by
 intro us
 induction us with
 | nil => intro us' cells h; simp at h; subst h; rfl
 | cons x us ih =>
  obtain ⟨i, v⟩ := x
  intro us' cells h
  cases us' with
  | nil => simp at h
  | cons y us' =>
   obtain ⟨j, u⟩ := y
   simp only [List.map_cons, List.cons.injEq, Prod.mk.injEq] at h
   obtain ⟨⟨rfl, hc⟩, h⟩ := h
   simp only [Instr.fill, hc]
   split
   ·rfl
   ·split
    ·rfl
    ·exact ih us' _ h
theorem built_congr {t : TypeId} {us us' : List (Nat × Value)} (h : us'.map (fun x => (x.1, x.2.cells)) = us.map (fun x => (x.1, x.2.cells))) : P.built t us' = P.built t us := by
 unfold Program.built
 split
 ·split
  ·exact fill_congr _ _ _ h
  ·rfl
 ·split
  ·exact fill_congr _ _ _ h
  ·rfl
 ·rfl

theorem silF_sound {N : Nat} {e : Env} {a : Act} (fr : FR N e a) {o : Oper} {K : KH} {σ : H} (h : silF P e K o.op σ) : ∃ v, Sil P (execOp a.eval o) v /\ K v σ := by
 obtain ⟨dst, op, type, pos, after, guard⟩ := o
 simp only at h
 unfold silF at h
 split at h
 ·obtain ⟨u, hu, h⟩ := oW_get h
  exact ⟨u, fun w => by simp [execOp, fr.evO hu], h⟩
 ·obtain ⟨u, hu, h⟩ := oW_get h
  exact ⟨u, fun w => by simp [execOp, fr.evO hu], h⟩
 ·split at h
  ·rename_i c x y _ t ht
   cases t with
   | true =>
    obtain ⟨u, hu, h⟩ := oW_get h
    exact ⟨u, fun w => by simp [execOp, fr.evO ht, fr.evO hu, asBool], h⟩
   | false =>
    obtain ⟨u, hu, h⟩ := oW_get h
    exact ⟨u, fun w => by simp [execOp, fr.evO ht, fr.evO hu, asBool], h⟩
  ·exact h.elim
 ·split at h
  ·rename_i v hv
   unfold nilF at h
   split at h
   ·obtain ⟨b, o, rfl, h⟩ := ptrW_get h
    exact ⟨_, fun w => by simp [execOp, fr.evO hv], h⟩
   ·exact ⟨_, fun w => by simp [execOp, fr.evO hv], h⟩
   ·exact ⟨_, fun w => by simp [execOp, fr.evO hv], h⟩
   ·exact h.elim
  ·exact h.elim
 ·split at h
  ·rename_i p n hp hn
   obtain ⟨b, o, rfl, h⟩ := ptrW_get h
   exact ⟨_, fun w => by simp [execOp, fr.evO hp, run_fieldAt hn], h⟩
  ·exact h.elim
 ·split at h
  ·rename_i l hl
   obtain ⟨u, hu, h⟩ := oW_get h
   exact ⟨u, fun w => by simp [execOp, fr.evO hl, run_field hu], h⟩
  ·exact h.elim
 ·split at h
  ·rename_i l hl
   obtain ⟨u, hu, h⟩ := oW_get h
   exact ⟨u, fun w => by simp [execOp, fr.evO hl, Instr.extract, hu], h⟩
  ·exact h.elim
 ·split at h
  ·rename_i op' t x y _ _ _ u v hx hy
   obtain ⟨r, hr, h⟩ := bopF_sound (ox := x) (oy := y) h
   exact ⟨r, sil_of (s := do eqGuard op' t x y u v; binOp op' t u v) (by simp [execOp, fr.evO hx, fr.evO hy]) hr, h⟩
  ·exact h.elim
 ·split at h
  ·rename_i u hu
   obtain ⟨r, hr, h⟩ := oW_get h
   refine ⟨r, fun w => ?_, h⟩
   unfold unF at hr
   split at hr <;> cases hr <;> simp [execOp, fr.evO hu, Op.unary, Op.intArith, Op.intBits, bitV]
  ·exact h.elim
 ·split at h
  ·rename_i u hu
   obtain ⟨r, hr, h⟩ := oW_get h
   refine ⟨r, fun w => ?_, h⟩
   unfold convF at hr
   split at hr
   ·rename_i h1 h2; cases hr; simp [execOp, fr.evO hu, convert, run_underlying h1, run_underlying h2, Conv.intToInt]
   ·rename_i h1 h2; cases hr; simp [execOp, fr.evO hu, convert, run_underlying h1, run_underlying h2]
   ·cases hr
  ·exact h.elim
 ·split at h
  ·rename_i t x _ _ u hu hc
   refine ⟨_, fun w => ?_, h⟩
   unfold concT at hc
   split at hc
   ·cases hc
   ·rename_i d hne hd
    have : (Instr.makeInterface t u).run P w = .ok (.iface t u) w := by
     simp only [Instr.makeInterface, Sem.run_bind, run_underlying hd, Result.andThen_ok]
     cases d <;> first | rfl | exact absurd rfl (hne _)
    simp [execOp, fr.evO hu, this]
   ·cases hc
  ·exact h.elim
 ·split at h
  ·rename_i xs ys _ us vs h1 h2
   refine ⟨_, fun w => ?_, h⟩
   simp [execOp, Instr.makeFunc, fr.evL h1, fr.evL h2]
  ·exact h.elim
 ·split at h
  ·rename_i us h1
   obtain ⟨us', hus, h⟩ := wrapP_get h
   split at h
   ·rename_i cs h2
    refine ⟨_, fun w => ?_, h⟩
    rw [arrL_eq]
    have h3 := evP_val fr h1
    rw [built_congr hus] at h2
    have := run_build w _ ⟨us⟩ cs h2
    simp only [execOp, Sem.run_bind]
    rw [show (Array.map (fun (x : Nat × Operand) => (x.1, a.eval x.2)) ⟨_⟩ : Array (Nat × Value)) = ⟨us⟩ from by apply Array.ext'; simpa using h3, this]
    rfl
   ·exact h.elim
  ·exact h.elim
 ·split at h
  ·rename_i s k i hx hi hu
   unfold idxW at h
   split at h
   ·rename_i b hb
    refine ⟨_, fun w => ?_, h⟩
    simp [execOp, fr.evO hx, fr.evO hi, Instr.index, asIntOf, run_underlying hu, hb]
   ·exact h.elim
  ·exact h.elim
 ·split at h
  ·rename_i u k i hx hi
   obtain ⟨v, hv, h⟩ := idxAddrF_sound (k := k) h
   exact ⟨v, fun w => by simp [execOp, fr.evO hx, fr.evO hi, hv w], h⟩
  ·exact h.elim
 ·split at h
  ·rename_i u lo hi mx hx hlo hhi hmx
   obtain ⟨v, hv, h⟩ := slF_sound (evB_val fr hlo) (evB_val fr hhi) (evB_val fr hmx) h
   exact ⟨v, fun w => by simp [execOp, fr.evO hx, hv w], h⟩
  ·exact h.elim
 ·split at h
  ·rename_i vs hvs
   obtain ⟨r, hr, h⟩ := oW_get h
   refine ⟨r, fun w => ?_, h⟩
   simp only [execOp, Sem.run_bind, resolve, Sem.run_pure, Result.andThen_ok, invoke]
   rw [show (Array.map a.eval ⟨_⟩ : Array Value) = ⟨vs⟩ from by apply Array.ext'; simpa using fr.evL hvs]
   exact builtF_sound hr w
  ·exact h.elim
 ·exact h.elim
end
end Go.HL

