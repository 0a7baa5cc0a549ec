/- A part of a proof. -/
import Derived.Test.YtikedigonnlbkaaGreatDoorSap
namespace Go.HL
open Go
def ap0(D:Nat->Prop)(Y Y':H):Prop:=∀b o,D b->Y b=some o->Y' b=some o
theorem ap0.refl(D:Nat->Prop)(Y:H):ap0 D Y Y:=fun _ _ _ h=>h
theorem ap0.trans{D:Nat->Prop}{Y Y' Y'':H}(h:ap0 D Y Y')(k:ap0 D Y' Y''):ap0 D Y Y'':=fun b o hd hb=>k b o hd (h b o hd hb)
theorem ap0.gr{D:Nat->Prop}{Y Y':H}(h:Gr Y Y'):ap0 D Y Y':=fun _ _ _ hb=>h.get hb
theorem ap0.put{D:Nat->Prop}{Y Y' Y'':H}{b:Nat}{o:Obj}(h:ap0 D Y Y')(hp:P1 Y' b o Y'')(hd:¬D b):ap0 D Y Y'' :=
 fun c oc hc hb=>hp.get (fun e=>hd (e ▸ hc)) (h c oc hc hb)
structure Cl{ι:Type}(P:Program)(y:u9)(D:Nat->Prop)(R:ι->List u9->H->Prop)(I:List ι->H->Prop)(S:H->Prop):Prop where
 put:∀r Y b o Y',I r Y->D b->P1 Y b o Y'->I r Y'
 putS:∀Y b o Y',S Y->D b->P1 Y b o Y'->S Y'
 gr:∀r Y Y',I r Y->Gr Y Y'->I r Y'
 grS:∀Y Y',S Y->Gr Y Y'->S Y'
 call:∀a r args Y K,I (a::r) Y->R a args Y->(∀Y',I r Y'->ap0 D Y Y'->K (.bool true) Y')->(∀Y',S Y'->ap0 D Y Y'->K (.bool false) Y')->D3 P y args K Y
theorem bd6{P:Program}{l:Nat}{args:List u9}{K:KH}{Y:H}(h:J1 P (aq6 (yv l) args) K Y):D3 P (yv l) args K Y:=h
theorem E2.pureP{P:Program}{f:FuncId}{args:List u9}{K:KH}{Y:H}{b:Nat}{o:Obj}{v:u9}(h:E2 P f args (fun u Y'=>u=v/\Gr (Y.put b o) Y') Y)(hk:∀Y',P1 Y b o Y'->K v Y'):E2 P f args K Y :=
 h.drop fun _ _ ⟨hu,hg⟩=>⟨Y.put b o,hg,hu ▸ hk _ rfl⟩
theorem aE6.state{obj:LoopState->Option Code->Obj}(h:aE6 obj){s s':LoopState}{j j':Option Code}(he:obj s j=obj s' j'):s=s'/\j=j':=by
 obtain⟨r,hr⟩:=h;rw[hr,hr]at he;simp only[Obj.loop.injEq,Loop.mk.injEq]at he;exact⟨he.1,he.2.1⟩

theorem bK5{s:d9}{i:Nat}{c:J3}(h:s.data.toList[i]?=some c):s[i]?=some c:=by
 have hl:s.data.toList.length=s.size:=rfl;have hi:i<s.size:=by
  rcases U8 i s.data.toList.length with h'|h'
  ·omega
  ·rw[aa4 h']at h;cases h
 rw[getElem?_pos s i hi];rw[G0 (by omega)]at h;have:s[i]=s.data.toList[i]:=by simp[ByteArray.getElem_eq_getElem_data]
 rw[this];exact h
theorem X9{s:d9}{i:Int}{g:J3->H->Prop}{Y:H}{c:J3}(h0:0<=i)(h:s.data.toList[i.toNat]?=some c)(hg:g c Y):I2 s i g Y:=by
 unfold I2;rw[d8 h0,bK5 h];exact hg
theorem M8{m:Nat}:E1 none m:=trivial
theorem J2{x:Int}{m:Nat}(h0:0<=x)(h1:x<=m):E1 (some x) m:=⟨h0,h1⟩

section
variable {P:Program}
theorem bW3{g:FuncId}{as_ cs:List u9}{F:FuncId->List u9->List u9->H->Prop}{Y:H}(h:F g as_ cs Y):N5 (.func (.func g) ⟨as_⟩ ⟨cs⟩) F Y:=h
theorem cv8{g:FuncId}{as_ cs:List u9}{ks:List CK}{body:(l:Nat)->(LoopState->Option Code->Obj)->(u9->H->Prop)->FnC ks (H->Prop)}{Kn:H->Prop}{Kx:Nat->H->Prop}{Kr:H->Prop}{Y:H}(hg:Z0 P g=true)
 (h:∀l obj Y',Y l=none->P1 Y l (obj .ready none) Y'->aE6 obj->bE9 P l (fun args K Y'=>Y' l=some (obj .ready none)/\bt4 (ar7 ks (body l obj K) args) Y')->E2 P g (as_++[yv l]++cs) (fun _=>ck3 l obj Kn Kx Kr) Y'):rfW P none g as_ cs ks body Kn Kx Kr Y :=
 ⟨hg,(fun _ h=>by cases h),fun l obj h1 h2 h3=>h l obj _ h1 rfl h2 h3⟩
theorem bW4{l:Nat}{obj:LoopState->Option Code->Obj}{g:H->Prop}{Y:H}(h:Y l=some (obj .ready none))(hg:∀Y',P1 Y l (obj .busy none) Y'->g Y'):M9 l obj g Y:=⟨h,hg _ rfl⟩
theorem au9{l:Nat}{obj:LoopState->Option Code->Obj}{K:KH}{j:Option Code}{b:Bool}{s:LoopState}{Y:H}(h:Y l=some (obj .busy none))(hk:∀Y',P1 Y l (obj s j) Y'->K (.bool b) Y'):D5 l obj K j b s Y:=⟨h,hk _ rfl⟩
theorem bW5{l:Nat}{obj:LoopState->Option Code->Obj}{Kn:H->Prop}{Kx:Nat->H->Prop}{Kr:H->Prop}{Y:H}{s:LoopState}(h:Y l=some (obj s none))(hs:s ≠ .busy)(hk:∀Y',P1 Y l (obj .exhausted none) Y'->Kn Y'):ck3 l obj Kn Kx Kr Y:=⟨s,none,h,hs,hk _ rfl⟩
theorem bW6{l:Nat}{obj:LoopState->Option Code->Obj}{Kn:H->Prop}{Kx:Nat->H->Prop}{Kr:H->Prop}{Y:H}{s:LoopState}(h:Y l=some (obj s (some .ret)))(hs:s ≠ .busy)(hk:∀Y',P1 Y l (obj .exhausted (some .ret)) Y'->Kr Y'):ck3 l obj Kn Kx Kr Y:=⟨s,_,h,hs,hk _ rfl⟩
end
end Go.HL

