/- A part of a proof. -/
import Derived.Test.YtikedigonnlbkaaGreatDoorSah
namespace Go.HL
open Go

inductive Ann where
 |leaf
 |seq (j:Option af1) (a b:Ann)
 |cond (a b:Ann)
 |blk (a:Ann)
 |loop (l:af1) (a:Ann)
 |reg (π:List Nat) (AL:List (List Nat))
 |reg2 (p:List Nat) (i:Nat) (m1:List Nat) (j:Nat) (m2:List Nat) (AL:List (List Nat))
 |rf (ks:List CK) (a b:Ann)

abbrev rn:=List.range
abbrev CK.i:CK:=.sc (.int .i64)
abbrev CK.p:CK:=.sc .ptr
abbrev CK.s:CK:=.sc .str
abbrev CK.l:CK:=.sc .slc
abbrev CK.b:CK:=.sc .bool
abbrev CK.w:CK:=.sc .raw
abbrev Ann.z:Ann:=.leaf
abbrev Ann.r:Ann:=.reg [] []
abbrev Ann.q(a:Ann):Ann:=.seq none .r a
abbrev Ann.n(a b:Ann):Ann:=.seq none a b
abbrev Ann.h:Ann:=.cond (.q .leaf) .leaf
@[match_pattern] abbrev _root_.Go.Value.i (n:Int):Go.Value:=.int .i64 n
@[match_pattern] abbrev _root_.Go.Value.q (b:Nat):Go.Value:=.pointer (some ⟨b,0,none⟩)
@[match_pattern] abbrev _root_.Go.Value.s (x:ByteArray):Go.Value:=.string x
@[match_pattern] abbrev _root_.Go.Value.p (x:Option Addr):Go.Value:=.pointer x
@[match_pattern] abbrev _root_.Go.Value.t (x:List Value):Go.Value:=.tuple ⟨x⟩
@[match_pattern] abbrev _root_.Go.Value.g (x:List Value):Go.Value:=.agg ⟨x⟩
@[match_pattern] abbrev _root_.Go.Obj.c (x:List Value) (t:TypeId):Go.Obj:=.cells ⟨x⟩ t (0,0)
abbrev bs(l:List UInt8):ByteArray:=⟨⟨l⟩⟩
abbrev gq:ByteArray:=⟨⟨[]⟩⟩
abbrev Sl.v(y:Sl):Value:=.slice y.base y.len y.cap
def ckN:Nat->CK
|1=>.i|2=>.p|3=>.s|4=>.l|5=>.b|_=>.w
def dlF:Nat->Nat->List (Nat×CK)
|0,_=>[]
|f+1,n=>bif n==0 then [] else (n/8%512,ckN (n%8))::dlF f (n/4096)
def mkB:Nat->Nat->Nat->List Nat
|0,_,_=>[]
|f+1,i,n=>bif n==0 then [] else bif n%2==1 then i::mkB f (i+1) (n/2) else mkB f (i+1) (n/2)
abbrev mkR(l:List Nat):List (List Nat):=l.map (mkB 100 0)
def Ann.k:Nat->Ann->Ann
|0,a=>a
|n+1,a=>.q (Ann.k n a)
abbrev Ann.o(l:List (Nat×CK))(a:Ann):Ann:=.seq (some l) .r a
abbrev dlN(n:Nat):List (Nat×CK):=dlF 200 n
@[match_pattern] abbrev gp (b:Nat):Option Addr:=some ⟨b,0,none⟩
def cF1(f g:H->Prop)(Y:H):Prop:=f Y/\g Y
def C0{T:Type}(j:T)(f:T->H->Prop)(Y:H):Prop:=f j Y
def C9(ks:List CK)(F:FnC ks (H->Prop)->FnC ks (H->Prop))(st:FnC ks (H->Prop)->H->Prop)(Y:H):Prop :=
 ∀R:FnC ks (H->Prop),leC ks (F R) R->st R Y
def Env.puts:Env->List Nat->List u9->Env
 |e,t::ts,v::vs=>Env.puts ((t,v)::e) ts vs
 |e,_,_=>e
def aE5:List Nat->List CK->Bool
 | [],[]=>true
 |_::a,_::b=>aE5 a b
 |_,_=>false
def bE8(N:Nat):List Nat->Bool
 | []=>true
 |t::r=>Nat.blt t N&&bE8 N r

def D5(l:Nat)(obj:LoopState->Option Code->Obj)(K:KH)(j:Option Code)(b:Bool)(s:LoopState)(Y:H):Prop :=
 Y l=some (obj .busy none)/\K (.bool b) (Y.put l (obj s j))

def ck3(l:Nat)(obj:LoopState->Option Code->Obj)(Kn:H->Prop)(Kx:Nat->H->Prop)(Kr:H->Prop)(Y:H):Prop :=
 ∃s j,Y l=some (obj s j)/\s ≠ .busy/\(match j with
  |none=>Kn (Y.put l (obj .exhausted j))
  |some (.exit i)=>Kx i (Y.put l (obj .exhausted j))
  |some .ret=>Kr (Y.put l (obj .exhausted j))
  |_=>False)

def bE9(P:Program)(l:Nat)(B:List u9->(u9->H->Prop)->H->Prop):Prop :=
 ∀args K Y,B args K Y->J1 P (aq6 (.func (.yield l) #[] #[]) args) K Y

def yv(l:Nat):u9:=.func (.yield l) #[] #[]
def aE6(obj:LoopState->Option Code->Obj):Prop:=∃r:Loop,∀s j,obj s j=.loop {r with state:=s,pending:=j}

def N5(fv:u9)(F:FuncId->List u9->List u9->H->Prop)(Y:H):Prop :=
 match fv with
 |.func (.func g) ⟨as0⟩ ⟨cs⟩=>F g as0 cs Y
 |_=>False
def M9(l:Nat)(obj:LoopState->Option Code->Obj)(g:H->Prop)(Y:H):Prop:=Y l=some (obj .ready none)/\g (Y.put l (obj .busy none))
def rfW(P:Program)(ro:Option Nat)(g:FuncId)(as0 cs:List u9)(ks:List CK)(body:(l:Nat)->(LoopState->Option Code->Obj)->(u9->H->Prop)->FnC ks (H->Prop))(Kn:H->Prop)(Kx:Nat->H->Prop)(Kr:H->Prop)(Y:H):Prop :=
 Z0 P g=true/\(∀l0,ro=some l0->∃r,Y l0=some (.loop r))/\∀l obj,Y l=none->aE6 obj ->
  bE9 P l (fun args K Y'=>Y' l=some (obj .ready none)/\bt4 (ar7 ks (body l obj K) args) Y') ->
  E2 P g (as0++[yv l]++cs) (fun _=>ck3 l obj Kn Kx Kr) (Y.put l (obj .ready none))

def D(P:Program)(V:TypeId->TK)(N:Nat):Code->Ann->Option Nat->Env->(Env->H->Prop)->(Nat->Env->H->Prop)->(Env->H->Prop)->H->Prop
 |.skip,_,_,e,Kn,_,_,Y=>Kn e Y
 |.label _,_,_,e,Kn,_,_,Y=>Kn e Y
 |.exit i,_,_,e,_,Kx,_,Y=>Kx i e Y
 |.scope x,an,ro,e,Kn,Kx,Kr,Y=>match an with
  |.blk a=>D P V N x a ro e Kn Kx Kr Y
  |_=>False
 |.ret,_,_,e,_,_,Kr,Y=>Kr e Y
 |.seq x y,an,ro,e,Kn,Kx,Kr,Y=>match an with
  |.seq none a b=>D P V N x a ro e (fun e'=>D P V N y b ro e' Kn Kx Kr) Kx Kr Y
  |.seq (some l) a b=>C0 (l.lam fun e'=>D P V N y b ro e' Kn Kx Kr) (fun j=>D P V N x a ro e (fun e'=>l.app j e') Kx Kr) Y
  |_=>False
 |.cond c x y,an,ro,e,Kn,Kx,Kr,Y=>match an,evO e c with
  |.cond a b,some (.bool t)=>A0 t (D P V N x a ro e Kn Kx Kr) (D P V N y b ro e Kn Kx Kr) Y
  |_,_=>False
 |.block id x,an,ro,e,Kn,Kx,Kr,Y=>match an with
  |.blk a=>D P V N x a ro e Kn (fun i e' Y=>match Nat.beq i id with|true=>Kn e' Y|false=>Kx i e' Y) Kr Y
  |_=>False
 |.loop x,an,ro,e,_,Kx,Kr,Y=>match an with
  |.loop l a=>C9 l.ks (fun R=>l.lam fun e'=>D P V N x a ro e' (fun e''=>l.app R e'') Kx Kr) (fun R=>l.app R e) Y
  |_=>False
 |.region _ ops draw,an,_,e,Kn,_,_,Y=>match an,draw with
  |.reg π AL,true=>match bs7 ops (clI P ops.toList) AL π with
   |true=>rgF P V N ops.toList (S2 AL) π [] e (fun _=>Kn) Y
   |false=>False
  |.reg _ _,false=>rgF P V N ops.toList (fun _ _=>true) (List.range ops.size) [] e (fun _=>Kn) Y
  |.reg2 p i m1 j m2 AL,true=>match bc0 ops (clI P ops.toList) AL p i m1 j m2 with
   |true=>rgF P V N ops.toList (S2 AL) p [] e (fun q e'=>cF1 (rgF P V N ops.toList (S2 AL) (i::m1) q e' (fun _=>Kn)) (rgF P V N ops.toList (S2 AL) (j::m2) q e' (fun _=>Kn))) Y
   |false=>False
  |_,_=>False
 |.rangeFunc f ps asg body,an,ro,e,Kn,Kx,Kr,Y=>match an,evO e f with
  |.rf ks a b,some fv=>match aE5 ps.toList ks&&bE8 N ps.toList with
   |true=>N5 fv (fun g as0 cs=>rfW P ro g as0 cs ks (fun l obj K=>aQ0 ks fun vs=>D P V N asg a (some l) (e.puts ps.toList vs)
    (fun e1=>M9 l obj (D P V N body b (some l) e1 (fun _=>D5 l obj K none true .ready) (fun i _=>D5 l obj K (some (.exit i)) false .done) (fun _=>D5 l obj K (some .ret) false .done)))
    (fun _ _ _=>False) (fun _ _=>False)) (Kn e) (fun i=>Kx i e) (Kr e)) Y
   |false=>False
  |_,_=>False
 |_,_,_,_,_,_,_,_=>False

def J0(P:Program)(f:FuncId)(args:List u9)(t:TK)(F:t.Fn (H->Prop)):H->Prop:=E2 P f args (app t F)
def G8(P:Program)(fv:u9)(args:List u9)(t:TK)(F:t.Fn (H->Prop)):H->Prop:=D3 P fv args (app t F)
def stW(P:Program)(t:TypeId)(a v:u9)(g:H->Prop):H->Prop:=J1 P (doS (Instr.storeAt t a v)) (app (.tup []) g)
def muW(P:Program)(t:TypeId)(m k v:u9)(g:H->Prop):H->Prop:=J1 P (doS (Instr.mapUpdate t m k v)) (app (.tup []) g)
def biW(P:Program)(b:Builtin)(ts:Array TypeId)(ty:TypeId)(cs:List Bool)(args:List u9)(t:TK)(F:t.Fn (H->Prop)):H->Prop:=J1 P (builtin b ts ty ⟨cs⟩ ⟨args⟩) (app t F)
def W7(P:Program)(s:Sem u9)(t:TK)(F:t.Fn (H->Prop)):H->Prop:=J1 P (ar8 s) (app t F)
def imW(P:Program)(v:u9)(m:String)(args:List u9)(t:TK)(F:t.Fn (H->Prop)):H->Prop:=J1 P (callMethod v m ⟨args⟩) (app t F)
def exW(i id:Nat)(A B:H->Prop)(Y:H):Prop :=
 match Nat.beq i id with
 |true=>A Y
 |false=>B Y

def bu9(P:Program)(V:TypeId->TK)(e:Env):List ResultVar->(List u9->H->Prop)->H->Prop
 | [],k,Y=>k [] Y
 |.tmp t::rs,k,Y=>match e.get? t with
  |some v=>bu9 P V e rs (fun vs=>k (v::vs)) Y
  |none=>False
 |.cell a t::rs,k,Y=>match e.get? a,am3 P t,E6 P t with
  |some (.pointer p),some false,_=>i9 p (fun b o=>l8 (m8 b o) (V t) ((V t).lam fun v=>bu9 P V e rs fun vs=>k (v::vs))) Y
  |some (.pointer p),some true,some n=>i9 p (fun b o=>l8 (rdA n b o) (V t) ((V t).lam fun v=>bu9 P V e rs fun vs=>k (v::vs))) Y
  |_,_,_=>False
def cv3:List u9->u9
 | [v]=>v
 |vs=>.tuple ⟨vs⟩
def ck4(P:Program)(V:TypeId->TK)(rs:List ResultVar)(K:KH)(e:Env):H->Prop:=bu9 P V e rs fun vs=>K (cv3 vs)
def bK2:Nat->List u9->Env
 |_,[]=>[]
 |i,v::vs=>(i,v)::bK2 (i+1) vs
def bV6(P:Program)(V:TypeId->TK)(fn:Func)(an:Ann)(args:List u9)(K:KH)(Y:H):Prop :=
 match fn.body with
 |some c=>match Nat.ble args.length fn.ntmps with
  |true=>D P V fn.ntmps c an none (bK2 0 args) (ck4 P V fn.results.toList K) (fun _ _ _=>False) (ck4 P V fn.results.toList K) Y
  |false=>False
 |none=>False
end Go.HL

