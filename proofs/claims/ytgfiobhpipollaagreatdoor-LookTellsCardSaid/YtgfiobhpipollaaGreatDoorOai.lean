/- A part of a proof. -/
import Derived.Test.YtgfiobhpipollaaGreatDoorOah
namespace Go.HL
open Go

inductive Ann where
 | leaf
 | seq (j:Option V9) (a b:Ann)
 | cond (a b:Ann)
 | blk (a:Ann)
 | loop (l:V9) (a:Ann)
 | reg (π:List Nat) (AL:List (List Nat))
 | reg2 (p:List Nat) (i:Nat) (m1:List Nat) (j:Nat) (m2:List Nat) (AL:List (List Nat))
 | rf (ks:List CK) (a b:Ann)

abbrev rn:=List.range
abbrev CK.i:CK := .sc (.int .i64)
abbrev CK.p:CK := .sc .ptr
abbrev CK.s:CK := .sc .str
abbrev CK.l:CK := .sc .slc
abbrev CK.b:CK := .sc .bool
abbrev CK.w:CK := .sc .raw
abbrev Ann.z:Ann := .leaf
abbrev Ann.r:Ann := .reg [] []
abbrev Ann.q (a:Ann):Ann := .seq none .r a
abbrev Ann.n (a b:Ann):Ann := .seq none a b
abbrev Ann.h:Ann := .cond (.q .leaf) .leaf
def bu2 (f g:H->Prop) (σ:H):Prop:=f σ/\g σ
def w9 {T:Type} (j:T) (f:T->H->Prop) (σ:H):Prop:=f j σ
def l9 (ks:List CK) (F:FnC ks (H->Prop)->FnC ks (H->Prop)) (st:FnC ks (H->Prop)->H->Prop) (σ:H):Prop :=
 ∀R:FnC ks (H->Prop),leC ks (F R) R->st R σ
def M5.puts:M5->List Nat->List Value->M5
 | e,t::ts,v::vs=>M5.puts ((t,v)::e) ts vs
 | e,_,_=>e
def az2:List Nat->List CK->Bool
 | [],[]=>true
 | _::a,_::b=>az2 a b
 | _,_=>false
def bu3 (N:Nat):List Nat->Bool
 | []=>true
 | t::r=>Nat.blt t N&&bu3 N r

def y9 (l:Nat) (obj:LoopState->Option Code->Obj) (K:KH) (j:Option Code) (b:Bool) (s:LoopState) (σ:H):Prop :=
 σ l=some (obj .busy none)/\K (.bool b) (σ.put l (obj s j))

def co5 (l:Nat) (obj:LoopState->Option Code->Obj) (Kn:H->Prop) (Kx:Nat->H->Prop) (Kr:H->Prop) (σ:H):Prop :=
 ∃s j,σ l=some (obj s j)/\s ≠ .busy/\(match j with
  | none=>Kn (σ.put l (obj .exhausted j))
  | some (.exit i)=>Kx i (σ.put l (obj .exhausted j))
  | some .ret=>Kr (σ.put l (obj .exhausted j))
  | _=>False)

def bu4 (P:Program) (l:Nat) (B:List Value->(Value->H->Prop)->H->Prop):Prop :=
 ∀args K σ,B args K σ->C9 P (Y0 (.func (.yield l) #[] #[]) args) K σ

def yv (l:Nat):Value := .func (.yield l) #[] #[]
def aX4 (obj:LoopState->Option Code->Obj):Prop := ∃r:Loop,∀s j,obj s j = .loop { r with state:=s,pending:=j }

def H2 (fv:Value) (F:FuncId->List Value->List Value->H->Prop) (σ:H):Prop :=
 match fv with
 | .func (.func g) ⟨as0⟩ ⟨cs⟩=>F g as0 cs σ
 | _=>False
def G1 (l:Nat) (obj:LoopState->Option Code->Obj) (g:H->Prop) (σ:H):Prop:=σ l=some (obj .ready none)/\g (σ.put l (obj .busy none))
def U5 (P:Program) (ro:Option Nat) (g:FuncId) (as0 cs:List Value) (ks:List CK) (body:(l:Nat)->(LoopState->Option Code->Obj)->(Value->H->Prop)->FnC ks (H->Prop)) (Kn:H->Prop) (Kx:Nat->H->Prop) (Kr:H->Prop) (σ:H):Prop :=
 I3 P g=true/\(∀l0,ro=some l0 -> ∃r,σ l0=some (.loop r)) /\ ∀l obj,σ l=none->aX4 obj ->
  bu4 P l (fun args K σ'=>σ' l=some (obj .ready none)/\bl5 (ak4 ks (body l obj K) args) σ') ->
  A4 P g (as0++[yv l]++cs) (fun _=>co5 l obj Kn Kx Kr) (σ.put l (obj .ready none))

def D (P:Program) (τ:TypeId->TK) (N:Nat):Code->Ann->Option Nat->M5->(M5->H->Prop)->(Nat->M5->H->Prop)->(M5->H->Prop)->H->Prop
 | .skip,_,_,e,Kn,_,_,σ=>Kn e σ
 | .label _,_,_,e,Kn,_,_,σ=>Kn e σ
 | .exit i,_,_,e,_,Kx,_,σ=>Kx i e σ
 | .scope x,an,ro,e,Kn,Kx,Kr,σ=>match an with
  | .blk a=>D P τ N x a ro e Kn Kx Kr σ
  | _=>False
 | .ret,_,_,e,_,_,Kr,σ=>Kr e σ
 | .seq x y,an,ro,e,Kn,Kx,Kr,σ=>match an with
  | .seq none a b=>D P τ N x a ro e (fun e'=>D P τ N y b ro e' Kn Kx Kr) Kx Kr σ
  | .seq (some l) a b=>w9 (l.lam fun e'=>D P τ N y b ro e' Kn Kx Kr) (fun j=>D P τ N x a ro e (fun e'=>l.app j e') Kx Kr) σ
  | _=>False
 | .cond c x y,an,ro,e,Kn,Kx,Kr,σ=>match an,evO e c with
  | .cond a b,some (.bool t)=>l8 t (D P τ N x a ro e Kn Kx Kr) (D P τ N y b ro e Kn Kx Kr) σ
  | _,_=>False
 | .block id x,an,ro,e,Kn,Kx,Kr,σ=>match an with
  | .blk a=>D P τ N x a ro e Kn (fun i e' σ=>match Nat.beq i id with | true=>Kn e' σ | false=>Kx i e' σ) Kr σ
  | _=>False
 | .loop x,an,ro,e,_,Kx,Kr,σ=>match an with
  | .loop l a=>l9 l.ks (fun R=>l.lam fun e'=>D P τ N x a ro e' (fun e''=>l.app R e'') Kx Kr) (fun R=>l.app R e) σ
  | _=>False
 | .region _ ops draw,an,_,e,Kn,_,_,σ=>match an,draw with
  | .reg π AL,true=>match aW7 ops (clI P ops.toList) AL π with
   | true=>rgF P τ N ops.toList (I4 AL) π [] e (fun _=>Kn) σ
   | false=>False
  | .reg _ _,false=>rgF P τ N ops.toList (fun _ _=>true) (List.range ops.size) [] e (fun _=>Kn) σ
  | .reg2 p i m1 j m2 AL,true=>match aI1 ops (clI P ops.toList) AL p i m1 j m2 with
   | true=>rgF P τ N ops.toList (I4 AL) p [] e (fun q e'=>bu2 (rgF P τ N ops.toList (I4 AL) (i::m1) q e' (fun _=>Kn)) (rgF P τ N ops.toList (I4 AL) (j::m2) q e' (fun _=>Kn))) σ
   | false=>False
  | _,_=>False
 | .rangeFunc f ps asg body,an,ro,e,Kn,Kx,Kr,σ=>match an,evO e f with
  | .rf ks a b,some fv=>match az2 ps.toList ks&&bu3 N ps.toList with
   | true=>H2 fv (fun g as0 cs=>U5 P ro g as0 cs ks (fun l obj K=>aH6 ks fun vs=>D P τ N asg a (some l) (e.puts ps.toList vs)
    (fun e1=>G1 l obj (D P τ N body b (some l) e1 (fun _=>y9 l obj K none true .ready) (fun i _=>y9 l obj K (some (.exit i)) false .done) (fun _=>y9 l obj K (some .ret) false .done)))
    (fun _ _ _=>False) (fun _ _=>False)) (Kn e) (fun i=>Kx i e) (Kr e)) σ
   | false=>False
  | _,_=>False
 | _,_,_,_,_,_,_,_=>False

def C1 (P:Program) (f:FuncId) (args:List Value) (t:TK) (F:t.Fn (H->Prop)):H->Prop:=A4 P f args (app t F)
def y6 (P:Program) (fv:Value) (args:List Value) (t:TK) (F:t.Fn (H->Prop)):H->Prop:=u7 P fv args (app t F)
def U3 (P:Program) (t:TypeId) (a v:Value) (g:H->Prop):H->Prop:=C9 P (doS (Instr.storeAt t a v)) (app (.tup []) g)
def V0 (P:Program) (t:TypeId) (m k v:Value) (g:H->Prop):H->Prop:=C9 P (doS (Instr.mapUpdate t m k v)) (app (.tup []) g)
def R1 (P:Program) (b:Builtin) (ts:Array TypeId) (ty:TypeId) (cs:List Bool) (args:List Value) (t:TK) (F:t.Fn (H->Prop)):H->Prop:=C9 P (builtin b ts ty ⟨cs⟩ ⟨args⟩) (app t F)
def M7 (P:Program) (s:Sem Value) (t:TK) (F:t.Fn (H->Prop)):H->Prop:=C9 P (ae0 s) (app t F)
def V2 (P:Program) (v:Value) (m:String) (args:List Value) (t:TK) (F:t.Fn (H->Prop)):H->Prop:=C9 P (callMethod v m ⟨args⟩) (app t F)
def V1 (i id:Nat) (A B:H->Prop) (σ:H):Prop :=
 match Nat.beq i id with
 | true=>A σ
 | false=>B σ

def bm5 (P:Program) (τ:TypeId->TK) (e:M5):List ResultVar->(List Value->H->Prop)->H->Prop
 | [],k,σ=>k [] σ
 | .tmp t::rs,k,σ=>match e.get? t with
  | some v=>bm5 P τ e rs (fun vs=>k (v::vs)) σ
  | none=>False
 | .cell a t::rs,k,σ=>match e.get? a,af2 P t,sizeT P t with
  | some (.pointer p),some false,_=>j0 p (fun b o=>l4 (s5 b o) (τ t) ((τ t).lam fun v=>bm5 P τ e rs fun vs=>k (v::vs))) σ
  | some (.pointer p),some true,some n=>j0 p (fun b o=>l4 (rdA n b o) (τ t) ((τ t).lam fun v=>bm5 P τ e rs fun vs=>k (v::vs))) σ
  | _,_,_=>False
def co6:List Value->Value
 | [v]=>v
 | vs => .tuple ⟨vs⟩
def aK8 (P:Program) (τ:TypeId->TK) (rs:List ResultVar) (K:KH) (e:M5):H->Prop:=bm5 P τ e rs fun vs=>K (co6 vs)
def aQ4:Nat->List Value->M5
 | _,[]=>[]
 | i,v::vs=>(i,v)::aQ4 (i+1) vs
def bK5 (P:Program) (τ:TypeId->TK) (fn:Func) (an:Ann) (args:List Value) (K:KH) (σ:H):Prop :=
 match fn.body with
 | some c=>match Nat.ble args.length fn.ntmps with
  | true=>D P τ fn.ntmps c an none (aQ4 0 args) (aK8 P τ fn.results.toList K) (fun _ _ _=>False) (aK8 P τ fn.results.toList K) σ
  | false=>False
 | none=>False
end Go.HL

