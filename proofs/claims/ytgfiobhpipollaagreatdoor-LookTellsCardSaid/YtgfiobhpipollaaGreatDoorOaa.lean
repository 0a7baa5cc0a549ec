/- A part of a proof. -/
import Derived.RangeFuncLeaves
import Derived.Laws.World
namespace Go.HL
open Go
abbrev C2 := @decide_eq_false_iff_not
abbrev z8 := @decide_eq_true_eq
abbrev B0 := @Int.toNat_natCast
abbrev s8 := @List.length_append
abbrev B9 := @List.getElem?_eq_getElem
abbrev y5 := @List.length_cons
abbrev A8 := @Bool.and_eq_true
abbrev E2 := @List.mem_cons_self
abbrev F7 := @List.mem_of_getElem?
abbrev E6 := @of_decide_eq_true
abbrev E3 := @List.mem_cons_of_mem
abbrev E0 := @List.append_assoc
abbrev cz6 := @List.take_of_length_le
abbrev L0 := @List.getD_eq_getElem?_getD
abbrev E1 := @decide_eq_decide
abbrev F4 := @Bool.false_eq_true
abbrev A6 := @Nat.le_refl
abbrev C4 := @Bool.true_and
abbrev F0 := @List.length_take
abbrev L4 := @List.getElem?_eq_none
abbrev F1 := @decide_eq_true
abbrev J0 := @of_decide_eq_false
abbrev M8 := @List.drop_eq_nil_of_le
abbrev H3 := @List.length_nil
abbrev H4 := @Bool.false_and
abbrev M9 := @beq_eq_false_iff_ne
abbrev F5 := @Nat.le_trans
abbrev J1 := @List.append_nil
abbrev F6 := @Nat.lt_or_ge
abbrev J4 := @decide_eq_false
abbrev J5 := @Bool.eq_iff_iff
abbrev E8 := @Nat.add_mul
abbrev H5 := @List.map_cons
abbrev H6 := @Nat.zero_add
abbrev O4 := @List.getElem?_map
abbrev Y3 := @List.eq_nil_of_length_eq_zero
abbrev M1 := @List.length_drop
abbrev P3 := @Array.toList_append
abbrev Y4 := @List.length_map
abbrev aa3 := @List.flatMap_append
abbrev aa4 := @List.flatMap_cons
abbrev Q0 := @List.foldl_cons
abbrev N0 := @List.mem_append
abbrev ak2 := @List.mem_singleton
abbrev Y5 := @List.length_reverse
abbrev ad6 := @Bool.or_false
abbrev Q1 := @Bool.false_or
abbrev S6 := @Bool.not_not
abbrev A5 := @List.mem_cons
abbrev P4 := @Nat.mul_one
abbrev ay5 := @List.take_append
abbrev ay6 := @List.drop_append
abbrev ad7 := @List.drop_eq_getElem_cons
abbrev ay7 := @List.getElem?_append_right
abbrev ak3 := @Nat.sub_self
abbrev aa5 := @List.length_singleton
abbrev Q2 := @List.all_eq_true
abbrev bc0 := @List.length_replicate
abbrev c0 := @if_neg
abbrev d9 := @if_pos
abbrev D9 := @congrArg
abbrev u9 := @absurd
abbrev V7 := @List.take_length
abbrev ad8 := @List.drop_zero
abbrev P5 := @List.cons_append
abbrev T8 := @List.nil_append
abbrev O5 := @List.mem_map
abbrev Q3 := @List.take_add_one
abbrev V8 := @ByteArray.size_append
abbrev bc1 := @List.getElem?_append_left
abbrev ay8 := @Nat.add_comm
abbrev bJ3 := @Nat.lt_irrefl
abbrev H7 := @List.take_of_length_le

abbrev H:=Nat->Option Obj
abbrev KH:=Value->H->Prop
def H.le (σ:H) (w:World):Prop := ∀b o,σ b=some o->w.heap[b]? = some o
def H.put (σ:H) (b:Nat) (o:Obj):H:=fun k=>if k=b then some o else σ k
theorem H.put_same (σ:H) (b:Nat) (o:Obj):σ.put b o b=some o:=by simp[H.put]
theorem H.put_other (σ:H) {b k:Nat} (o:Obj) (h:k≠b):σ.put b o k=σ k:=by simp[H.put,h]

structure I0 (σ:H) (w:World) (σ':H) (w':World):Prop where
 le:σ'.le w'
 size:w.heap.size<=w'.heap.size
 keep : ∀b,b<w.heap.size->σ b=none->w'.heap[b]? = w.heap[b]?
 own : ∀b o,σ' b=some o->σ b=none->w.heap.size<=b
 os:w'.os=w.os
 tape:w'.tape=w.tape
 output:w'.output=w.output

theorem H.le.lt {σ:H} {w:World} (h:σ.le w) {b:Nat} {o:Obj} (hb:σ b=some o):b<w.heap.size:=by
 have:=h b o hb
 rcases Nat.lt_or_ge b w.heap.size with h' | h'
 ·exact h'
 ·rw[Array.getElem?_eq_none h']at this;cases this

theorem I0.refl {σ:H} {w:World} (h:σ.le w):I0 σ w σ w :=
 ⟨h,Nat.le_refl _,fun _ _ _=>rfl,(fun b o hb hn=>by rw[hn]at hb;cases hb),rfl,rfl,rfl⟩

theorem I0.trans {σ₁ σ₂ σ₃:H} {w₁ w₂ w₃:World} (h:I0 σ₁ w₁ σ₂ w₂) (k:I0 σ₂ w₂ σ₃ w₃):I0 σ₁ w₁ σ₃ w₃:=by
 refine⟨k.le,Nat.le_trans h.size k.size,fun b hb hn => ?_,fun b o hb hn => ?_,k.os.trans h.os,k.tape.trans h.tape,k.output.trans h.output⟩
 ·have h2 : σ₂ b = none := by
   cases h2:σ₂ b with
   | none=>rfl
   | some o=>have:=h.own b o h2 hn;omega
  rw[k.keep b (Nat.lt_of_lt_of_le hb h.size) h2,h.keep b hb hn]
 ·cases h2:σ₂ b with
  | none=>exact Nat.le_trans h.size (k.own b o hb h2)
  | some o'=>exact h.own b o' h2 hn

theorem I0.drew {σ:H} {w:World} (h:σ.le w) (d:Nat):I0 σ w σ { w with drawn:=d } :=
 ⟨h,Nat.le_refl _,fun _ _ _=>rfl,(fun b o hb hn=>by rw[hn]at hb;cases hb),rfl,rfl,rfl⟩

theorem I0.alloc {σ:H} {w:World} (h:σ.le w) (o:Obj):σ w.heap.size=none/\I0 σ w (σ.put w.heap.size o) (w.alloc o):=by
 have hn:σ w.heap.size=none:=by
  cases hc:σ w.heap.size with
  | none=>rfl
  | some o'=>exact absurd (h.lt hc) (Nat.lt_irrefl _)
 refine⟨hn,?_,by show w.heap.size<=(w.heap.push o).size;simp,?_,?_,rfl,rfl,rfl⟩
 ·intro b o' hb
  by_cases e:b=w.heap.size
  ·subst e;rw[H.put_same]at hb;show(w.heap.push o)[w.heap.size]? = _;simpa using hb
  ·rw[H.put_other _ _ e]at hb
   have hlt:=h.lt hb
   show(w.heap.push o)[b]? = _
   rw[Array.getElem?_push,if_neg (by omega)];exact h b o' hb
 ·intro b hb _
  show(w.heap.push o)[b]? = _
  rw[Array.getElem?_push,if_neg (by omega)]
 ·intro b o' hb hn'
  by_cases e:b=w.heap.size
  ·omega
  ·rw[H.put_other _ _ e,hn']at hb;cases hb

theorem I0.set {σ:H} {w w':World} (h:σ.le w) {b:Nat} {o o':Obj} (hb:σ b=some o)
 (hh:w'.heap=w.heap.setIfInBounds b o') (h1:w'.os=w.os) (h2:w'.tape=w.tape) (h3:w'.output=w.output):I0 σ w (σ.put b o') w':=by
 have hlt:=h.lt hb
 refine⟨?_,by rw[hh];simp,?_,?_,h1,h2,h3⟩
 ·intro c oc hc
  rw[hh]
  by_cases e:c=b
  ·subst e;rw[H.put_same]at hc;simp[hlt];simpa using hc
  ·rw[H.put_other _ _ e]at hc
   rw[Array.getElem?_setIfInBounds,if_neg (fun x=>e x.symm)];exact h c oc hc
 ·intro c hc hn
  have:b≠c:=by intro e;subst e;rw[hb]at hn;cases hn
  rw[hh,Array.getElem?_setIfInBounds,if_neg this]
 ·intro c oc hc hn
  by_cases e:c=b
  ·subst e;rw[hb]at hn;cases hn
  ·rw[H.put_other _ _ e,hn]at hc;cases hc

def reach (P:Program) (R:Value->World->Prop):Result Next->Prop
 | .ok (.value v) w=>R v w
 | .ok .skip w=>R undef w
 | .ok (.enter f args) w=>CallsIn Fence.wide 0 P f args w fun e w' => ∃v,e = .returned v/\R v w'
 | .ok (.round l f tmps assign body) w=>RoundIn Fence.wide 0 P l f tmps assign body w fun e w' => ∃v,e = .returned v/\R v w'
 | _=>False

theorem reach.mono {P:Program} {R R':Value->World->Prop} (hr:∀v w,R v w->R' v w) {x:Result Next} (h:reach P R x):reach P R' x:=by
 unfold reach at h ⊢
 split at h
 ·exact hr _ _ h
 ·exact hr _ _ h
 ·exact h.mono fun e w' ⟨v,he,hv⟩=>⟨v,he,hr _ _ hv⟩
 ·exact h.mono fun e w' ⟨v,he,hv⟩=>⟨v,he,hr _ _ hv⟩
 ·exact h.elim

def C9 (P:Program) (s:Sem Next) (K:KH) (σ:H):Prop :=
 ∀w,σ.le w->reach P (fun v w' => ∃σ',I0 σ w σ' w'/\K v σ') (s.run P w)

theorem C9.mono {P:Program} {s:Sem Next} {K K':KH} {σ:H} (h:C9 P s K σ) (hk:∀v σ',K v σ'->K' v σ'):C9 P s K' σ :=
 fun w hw=>(h w hw).mono fun _ _ ⟨σ',he,hv⟩=>⟨σ',he,hk _ _ hv⟩

def A4 (P:Program) (f:FuncId) (args:List Value) (K:KH) (σ:H):Prop :=
 ∀w,σ.le w->CallsIn Fence.wide 0 P f args.toArray w fun e w' => ∃v,e = .returned v /\ ∃σ',I0 σ w σ' w'/\K v σ'

theorem I0.frame {σ σ':H} {w w':World} {b:Nat} {o:Obj} (hb:σ b=none) (hw:(σ.put b o).le w) (he:I0 σ w σ' w') :
 σ' b=none/\I0 (σ.put b o) w (σ'.put b o) w':=by
 have hwb:w.heap[b]? = some o:=hw b o (H.put_same _ _ _)
 have hlt:b<w.heap.size:=hw.lt (H.put_same _ _ _)
 have hn:σ' b=none:=by
  cases hc:σ' b with
  | none=>rfl
  | some o'=>have:=he.own b o' hc hb;omega
 refine⟨hn,?_,he.size,?_,?_,he.os,he.tape,he.output⟩
 ·intro c oc hc
  by_cases e:c=b
  ·subst e;rw[H.put_same]at hc;cases hc;rw[he.keep c hlt hb,hwb]
  ·rw[H.put_other _ _ e]at hc;exact he.le c oc hc
 ·intro c hc hcn
  by_cases e:c=b
  ·subst e;rw[H.put_same]at hcn;cases hcn
  ·rw[H.put_other _ _ e]at hcn;exact he.keep c hc hcn
 ·intro c oc hc hcn
  by_cases e:c=b
  ·subst e;rw[H.put_same]at hcn;cases hcn
  ·rw[H.put_other _ _ e]at hc hcn;exact he.own c oc hc hcn

theorem H.le_of_put {σ:H} {w:World} {b:Nat} {o:Obj} (hb:σ b=none) (hw:(σ.put b o).le w):σ.le w:=by
 intro c oc hc
 refine hw c oc ?_
 rw[H.put_other]
 ·exact hc
 ·intro e;subst e;rw[hb]at hc;cases hc

theorem C9.frame {P:Program} {s:Sem Next} {K:KH} {σ:H} (h:C9 P s K σ) {b:Nat} {o:Obj} (hb:σ b=none) :
 C9 P s (fun v σ' => ∃σ₁,σ₁ b=none/\σ'=σ₁.put b o/\K v σ₁) (σ.put b o):=by
 intro w hw
 refine(h w (H.le_of_put hb hw)).mono fun v w' ⟨σ',he,hk⟩ => ?_
 obtain⟨hn,he'⟩:=I0.frame hb hw he
 exact⟨σ'.put b o,he',σ',hn,rfl,hk⟩

def H.union (σ τ:H):H:=fun b=>(σ b).or (τ b)
end Go.HL

