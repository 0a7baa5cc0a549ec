/- A part of a proof. -/
import Derived.Test.YtpfkfphjigcdeaaGreatDoorVah
namespace Go.HL
open Go

inductive Ann where
 | leaf
 | seq (j : Option Live) (a b : Ann)
 | cond (a b : Ann)
 | blk (a : Ann)
 | loop (l : Live) (a : Ann)
 | reg (π : List Nat) (AL : List (List Nat))
 | reg2 (p : List Nat) (i : Nat) (m1 : List Nat) (j : Nat) (m2 : List Nat) (AL : List (List Nat))
 | rf (ks : List CK) (a b : Ann)

abbrev rn := List.range
abbrev CK.i : CK := .sc (.int .i64)
abbrev CK.p : CK := .sc .ptr
abbrev CK.s : CK := .sc .str
abbrev CK.l : CK := .sc .slc
abbrev CK.b : CK := .sc .bool
abbrev CK.w : CK := .sc .raw
abbrev Ann.z : Ann := .leaf
abbrev Ann.r : Ann := .reg [] []
abbrev Ann.q (a : Ann) : Ann := .seq none .r a
abbrev Ann.n (a b : Ann) : Ann := .seq none a b
abbrev Ann.h : Ann := .cond (.q .leaf) .leaf
def bothW (f g : H -> Prop) (σ : H) : Prop := f σ /\ g σ
def letJ {T : Type} (j : T) (f : T -> H -> Prop) (σ : H) : Prop := f j σ
def loopW (ks : List CK) (F : FnC ks (H -> Prop) -> FnC ks (H -> Prop)) (st : FnC ks (H -> Prop) -> H -> Prop) (σ : H) : Prop :=
 ∀ R : FnC ks (H -> Prop), leC ks (F R) R -> st R σ
def Env.puts : Env -> List Nat -> List Value -> Env
 | e, t :: ts, v :: vs => Env.puts ((t, v) :: e) ts vs
 | e, _, _ => e
def sameLen : List Nat -> List CK -> Bool
 | [], [] => true
 | _ :: a, _ :: b => sameLen a b
 | _, _ => false
def allLt (N : Nat) : List Nat -> Bool
 | [] => true
 | t :: r => Nat.blt t N && allLt N r

def roundK (l : Nat) (obj : LoopState -> Option Code -> Obj) (K : KH) (j : Option Code) (b : Bool) (s : LoopState) (σ : H) : Prop :=
 σ l = some (obj .busy none) /\ K (.bool b) (σ.put l (obj s j))

def endK (l : Nat) (obj : LoopState -> Option Code -> Obj) (Kn : H -> Prop) (Kx : Nat -> H -> Prop) (Kr : H -> Prop) (σ : H) : Prop :=
 ∃ s j, σ l = some (obj s j) /\ s ≠ .busy /\ (match j with
  | none => Kn (σ.put l (obj .exhausted j))
  | some (.exit i) => Kx i (σ.put l (obj .exhausted j))
  | some .ret => Kr (σ.put l (obj .exhausted j))
  | _ => False)

def YieldOk (P : Program) (l : Nat) (B : List Value -> (Value -> H -> Prop) -> H -> Prop) : Prop :=
 ∀ args K σ, B args K σ -> invW P (callS (.func (.yield l) #[] #[]) args) K σ

def yv (l : Nat) : Value := .func (.yield l) #[] #[]
def LoopObj (obj : LoopState -> Option Code -> Obj) : Prop := ∃ r : Loop, ∀ s j, obj s j = .loop { r with state := s, pending := j }

def funW (fv : Value) (F : FuncId -> List Value -> List Value -> H -> Prop) (σ : H) : Prop :=
 match fv with
 | .func (.func g) ⟨as0⟩ ⟨cs⟩ => F g as0 cs σ
 | _ => False
def begW (l : Nat) (obj : LoopState -> Option Code -> Obj) (g : H -> Prop) (σ : H) : Prop := σ l = some (obj .ready none) /\ g (σ.put l (obj .busy none))
def rfW (P : Program) (ro : Option Nat) (g : FuncId) (as0 cs : List Value) (ks : List CK) (body : (l : Nat) -> (LoopState -> Option Code -> Obj) -> (Value -> H -> Prop) -> FnC ks (H -> Prop)) (Kn : H -> Prop) (Kx : Nat -> H -> Prop) (Kr : H -> Prop) (σ : H) : Prop :=
 isGo P g = true /\ (∀ l0, ro = some l0 -> ∃ r, σ l0 = some (.loop r)) /\ ∀ l obj, σ l = none -> LoopObj obj ->
  YieldOk P l (fun args K σ' => σ' l = some (obj .ready none) /\ runO (prjC ks (body l obj K) args) σ') ->
  callW P g (as0 ++ [yv l] ++ cs) (fun _ => endK l obj Kn Kx Kr) (σ.put l (obj .ready none))

def D (P : Program) (τ : TypeId -> TK) (N : Nat) : Code -> Ann -> Option Nat -> Env -> (Env -> H -> Prop) -> (Nat -> Env -> H -> Prop) -> (Env -> H -> Prop) -> H -> Prop
 | .skip, _, _, e, Kn, _, _, σ => Kn e σ
 | .label _, _, _, e, Kn, _, _, σ => Kn e σ
 | .exit i, _, _, e, _, Kx, _, σ => Kx i e σ
 | .scope x, an, ro, e, Kn, Kx, Kr, σ => match an with
  | .blk a => D P τ N x a ro e Kn Kx Kr σ
  | _ => False
 | .ret, _, _, e, _, _, Kr, σ => Kr e σ
 | .seq x y, an, ro, e, Kn, Kx, Kr, σ => match an with
  | .seq none a b => D P τ N x a ro e (fun e' => D P τ N y b ro e' Kn Kx Kr) Kx Kr σ
  | .seq (some l) a b => letJ (l.lam fun e' => D P τ N y b ro e' Kn Kx Kr) (fun j => D P τ N x a ro e (fun e' => l.app j e') Kx Kr) σ
  | _ => False
 | .cond c x y, an, ro, e, Kn, Kx, Kr, σ => match an, evO e c with
  | .cond a b, some (.bool t) => brW t (D P τ N x a ro e Kn Kx Kr) (D P τ N y b ro e Kn Kx Kr) σ
  | _, _ => False
 | .block id x, an, ro, e, Kn, Kx, Kr, σ => match an with
  | .blk a => D P τ N x a ro e Kn (fun i e' σ => match Nat.beq i id with | true => Kn e' σ | false => Kx i e' σ) Kr σ
  | _ => False
 | .loop x, an, ro, e, _, Kx, Kr, σ => match an with
  | .loop l a => loopW l.ks (fun R => l.lam fun e' => D P τ N x a ro e' (fun e'' => l.app R e'') Kx Kr) (fun R => l.app R e) σ
  | _ => False
 | .region _ ops draw, an, _, e, Kn, _, _, σ => match an, draw with
  | .reg π AL, true => match drawOk ops (clI P ops.toList) AL π with
   | true => rgF P τ N ops.toList (ancOf AL) π [] e (fun _ => Kn) σ
   | false => False
  | .reg _ _, false => rgF P τ N ops.toList (fun _ _ => true) (List.range ops.size) [] e (fun _ => Kn) σ
  | .reg2 p i m1 j m2 AL, true => match draw2Ok ops (clI P ops.toList) AL p i m1 j m2 with
   | true => rgF P τ N ops.toList (ancOf AL) p [] e (fun q e' => bothW (rgF P τ N ops.toList (ancOf AL) (i :: m1) q e' (fun _ => Kn)) (rgF P τ N ops.toList (ancOf AL) (j :: m2) q e' (fun _ => Kn))) σ
   | false => False
  | _, _ => False
 | .rangeFunc f ps asg body, an, ro, e, Kn, Kx, Kr, σ => match an, evO e f with
  | .rf ks a b, some fv => match sameLen ps.toList ks && allLt N ps.toList with
   | true => funW fv (fun g as0 cs => rfW P ro g as0 cs ks (fun l obj K => lamC ks fun vs => D P τ N asg a (some l) (e.puts ps.toList vs)
    (fun e1 => begW l obj (D P τ N body b (some l) e1 (fun _ => roundK l obj K none true .ready) (fun i _ => roundK l obj K (some (.exit i)) false .done) (fun _ => roundK l obj K (some .ret) false .done)))
    (fun _ _ _ => False) (fun _ _ => False)) (Kn e) (fun i => Kx i e) (Kr e)) σ
   | false => False
  | _, _ => False
 | _, _, _, _, _, _, _, _ => False

def callT (P : Program) (f : FuncId) (args : List Value) (t : TK) (F : t.Fn (H -> Prop)) : H -> Prop := callW P f args (app t F)
def cvalT (P : Program) (fv : Value) (args : List Value) (t : TK) (F : t.Fn (H -> Prop)) : H -> Prop := callVW P fv args (app t F)
def stW (P : Program) (t : TypeId) (a v : Value) (g : H -> Prop) : H -> Prop := invW P (doS (Instr.storeAt t a v)) (app (.tup []) g)
def muW (P : Program) (t : TypeId) (m k v : Value) (g : H -> Prop) : H -> Prop := invW P (doS (Instr.mapUpdate t m k v)) (app (.tup []) g)
def biW (P : Program) (b : Builtin) (ts : Array TypeId) (ty : TypeId) (cs : List Bool) (args : List Value) (t : TK) (F : t.Fn (H -> Prop)) : H -> Prop := invW P (builtin b ts ty ⟨cs⟩ ⟨args⟩) (app t F)
def vaW (P : Program) (s : Sem Value) (t : TK) (F : t.Fn (H -> Prop)) : H -> Prop := invW P (valS s) (app t F)
def imW (P : Program) (v : Value) (m : String) (args : List Value) (t : TK) (F : t.Fn (H -> Prop)) : H -> Prop := invW P (callMethod v m ⟨args⟩) (app t F)
def exW (i id : Nat) (A B : H -> Prop) (σ : H) : Prop :=
 match Nat.beq i id with
 | true => A σ
 | false => B σ

def resG (P : Program) (τ : TypeId -> TK) (e : Env) : List ResultVar -> (List Value -> H -> Prop) -> H -> Prop
 | [], k, σ => k [] σ
 | .tmp t :: rs, k, σ => match e.get? t with
  | some v => resG P τ e rs (fun vs => k (v :: vs)) σ
  | none => False
 | .cell a t :: rs, k, σ => match e.get? a, isAggT P t, sizeT P t with
  | some (.pointer p), some false, _ => ptrW p (fun b o => rdT (rdC b o) (τ t) ((τ t).lam fun v => resG P τ e rs fun vs => k (v :: vs))) σ
  | some (.pointer p), some true, some n => ptrW p (fun b o => rdT (rdA n b o) (τ t) ((τ t).lam fun v => resG P τ e rs fun vs => k (v :: vs))) σ
  | _, _, _ => False
def tupL : List Value -> Value
 | [v] => v
 | vs => .tuple ⟨vs⟩
def resF (P : Program) (τ : TypeId -> TK) (rs : List ResultVar) (K : KH) (e : Env) : H -> Prop := resG P τ e rs fun vs => K (tupL vs)
def argE : Nat -> List Value -> Env
 | _, [] => []
 | i, v :: vs => (i, v) :: argE (i + 1) vs
def bodyF (P : Program) (τ : TypeId -> TK) (fn : Func) (an : Ann) (args : List Value) (K : KH) (σ : H) : Prop :=
 match fn.body with
 | some c => match Nat.ble args.length fn.ntmps with
  | true => D P τ fn.ntmps c an none (argE 0 args) (resF P τ fn.results.toList K) (fun _ _ _ => False) (resF P τ fn.results.toList K) σ
  | false => False
 | none => False
end Go.HL

