/- A part of a proof. -/
import Derived.Test.YtgfiobhpipollaaGreatDoorOap
namespace Go.HL
open Go
def bd5 (D:Nat->Prop) (σ σ':H):Prop := ∀b o,D b->σ b=some o->σ' b=some o
theorem bd5.trans {D:Nat->Prop} {σ σ' σ'':H} (h:bd5 D σ σ') (k:bd5 D σ' σ''):bd5 D σ σ'':=fun b o hd hb=>k b o hd (h b o hd hb)
theorem bd5.gr {D:Nat->Prop} {σ σ':H} (h:Gr σ σ'):bd5 D σ σ':=fun _ _ _ hb=>h.get hb
structure Cl {ι:Type} (P:Program) (y:Value) (D:Nat->Prop) (R:ι->List Value->H->Prop) (I:List ι->H->Prop) (S:H->Prop):Prop where
 put : ∀r σ b o σ',I r σ->D b->L6 σ b o σ'->I r σ'
 putS : ∀σ b o σ',S σ->D b->L6 σ b o σ'->S σ'
 gr : ∀r σ σ',I r σ->Gr σ σ'->I r σ'
 grS : ∀σ σ',S σ->Gr σ σ'->S σ'
 call : ∀a r args σ K,I (a::r) σ->R a args σ->(∀σ',I r σ'->bd5 D σ σ'->K (.bool true) σ')->(∀σ',S σ'->bd5 D σ σ'->K (.bool false) σ')->u7 P y args K σ
theorem bu7 {P:Program} {l:Nat} {args:List Value} {K:KH} {σ:H} (h:C9 P (Y0 (yv l) args) K σ):u7 P (yv l) args K σ:=h
theorem bA7 {s:ByteArray} {i:Nat} {c:UInt8} (h:s.data.toList[i]? = some c):s[i]? = some c:=by
 have hl:s.data.toList.length=s.size:=rfl
 have hi:i<s.size:=by
  rcases F6 i s.data.toList.length with h' | h'
  ·omega
  ·rw[L4 h']at h;cases h
 rw[getElem?_pos s i hi]
 rw[B9 (by omega)]at h
 have:s[i]=s.data.toList[i]:=by simp[ByteArray.getElem_eq_getElem_data]
 rw[this];exact h
theorem M3 {s:ByteArray} {i:Int} {g:UInt8->H->Prop} {σ:H} {c:UInt8} (h0:0<=i) (h:s.data.toList[i.toNat]? = some c) (hg:g c σ):B2 s i g σ:=by
 unfold B2;rw[d9 h0,bA7 h];exact hg
theorem H1 {m:Nat}:A1 none m:=trivial
theorem B3 {x:Int} {m:Nat} (h0:0<=x) (h1:x<=m):A1 (some x) m:=⟨h0,h1⟩

section
variable {P : Program}
theorem cl5 {g:FuncId} {as_ cs:List Value} {F:FuncId->List Value->List Value->H->Prop} {σ:H} (h:F g as_ cs σ):H2 (.func (.func g) ⟨as_⟩ ⟨cs⟩) F σ:=h
theorem cA6 {g:FuncId} {as_ cs:List Value} {ks:List CK} {body:(l:Nat)->(LoopState->Option Code->Obj)->(Value->H->Prop)->FnC ks (H->Prop)} {Kn:H->Prop} {Kx:Nat->H->Prop} {Kr:H->Prop} {σ:H} (hg:I3 P g=true)
 (h:∀l obj σ',σ l=none->L6 σ l (obj .ready none) σ'->aX4 obj->bu4 P l (fun args K σ'=>σ' l=some (obj .ready none)/\bl5 (ak4 ks (body l obj K) args) σ')->A4 P g (as_++[yv l]++cs) (fun _=>co5 l obj Kn Kx Kr) σ'):U5 P none g as_ cs ks body Kn Kx Kr σ :=
 ⟨hg,(fun _ h=>by cases h),fun l obj h1 h2 h3=>h l obj _ h1 rfl h2 h3⟩
theorem cl6 {l:Nat} {obj:LoopState->Option Code->Obj} {g:H->Prop} {σ:H} (h:σ l=some (obj .ready none)) (hg:∀σ',L6 σ l (obj .busy none) σ'->g σ'):G1 l obj g σ:=⟨h,hg _ rfl⟩
theorem aY2 {l:Nat} {obj:LoopState->Option Code->Obj} {K:KH} {j:Option Code} {b:Bool} {s:LoopState} {σ:H} (h:σ l=some (obj .busy none)) (hk:∀σ',L6 σ l (obj s j) σ'->K (.bool b) σ'):y9 l obj K j b s σ:=⟨h,hk _ rfl⟩
theorem cl7 {l:Nat} {obj:LoopState->Option Code->Obj} {Kn:H->Prop} {Kx:Nat->H->Prop} {Kr:H->Prop} {σ:H} {s:LoopState} (h:σ l=some (obj s none)) (hs:s ≠ .busy) (hk:∀σ',L6 σ l (obj .exhausted none) σ'->Kn σ'):co5 l obj Kn Kx Kr σ:=⟨s,none,h,hs,hk _ rfl⟩
end
theorem co9 {τ σ:H} (hg:Gr τ σ) {n b o:Nat} {v:Value} (h:rdA n b o τ=some v):rdA n b o σ=some v:=by
 unfold rdA at h ⊢
 cases hb:τ b with
 | none=>rw[hb]at h;cases h
 | some ob=>rw[hg.get hb];rw[hb]at h;exact h
end Go.HL

