/- A part of a proof. -/
import Derived.RangeFuncLeaves
import Derived.Laws.World
namespace Go.HL
open Go
abbrev K6:=@decide_eq_false_iff_not
abbrev I6:=@decide_eq_true_eq
abbrev P5:=@Int.toNat_natCast
abbrev P3:=@List.length_append
abbrev G0:=@List.getElem?_eq_getElem
abbrev H4:=@List.length_cons
abbrev J4:=@Bool.and_eq_true
abbrev H7:=@List.mem_cons_self
abbrev K7:=@List.mem_of_getElem?
abbrev bE3:=@of_decide_eq_true
abbrev E4:=@List.mem_cons_of_mem
abbrev U7:=@List.append_assoc
abbrev cE1:=@List.take_of_length_le
abbrev cE2:=@List.getD_eq_getElem?_getD
abbrev cE3:=@decide_eq_decide
abbrev D2:=@Bool.false_eq_true
abbrev A7:=@Nat.le_refl
abbrev T8:=@Bool.true_and
abbrev P4:=@List.length_take
abbrev aa4:=@List.getElem?_eq_none
abbrev aD8:=@decide_eq_true
abbrev cE4:=@of_decide_eq_false
abbrev M3:=@List.drop_eq_nil_of_le
abbrev ao8:=@List.length_nil
abbrev Z5:=@Bool.false_and
abbrev X0:=@beq_eq_false_iff_ne
abbrev C7:=@Nat.le_trans
abbrev ac3:=@List.append_nil
abbrev U8:=@Nat.lt_or_ge
abbrev aP4:=@decide_eq_false
abbrev Q9:=@Bool.eq_iff_iff
abbrev K9:=@Nat.add_mul
abbrev H5:=@List.map_cons
abbrev al5:=@Nat.zero_add
abbrev Z6:=@List.getElem?_map
abbrev ai0:=@List.eq_nil_of_length_eq_zero
abbrev X1:=@List.length_drop
abbrev af9:=@Array.toList_append
abbrev Q0:=@List.length_map
abbrev cE5:=@List.flatMap_append
abbrev bi1:=@List.flatMap_cons
abbrev H3:=@List.foldl_cons
abbrev Q4:=@List.mem_append
abbrev T9:=@List.mem_singleton
abbrev aD9:=@List.length_reverse
abbrev U0:=@Bool.or_false
abbrev R0:=@Bool.false_or
abbrev bi2:=@Bool.not_not
abbrev G9:=@List.mem_cons
abbrev ao9:=@Nat.mul_one
abbrev cE6:=@List.take_append
abbrev cE7:=@List.drop_append
abbrev as4:=@List.drop_eq_getElem_cons
abbrev bU0:=@List.getElem?_append_right
abbrev bU1:=@Nat.sub_self
abbrev ai1:=@List.length_singleton
abbrev X2:=@List.all_eq_true
abbrev cE8:=@List.length_replicate
abbrev d7:=@if_neg
abbrev d8:=@if_pos
abbrev J7:=@congrArg
abbrev m7:=@absurd
abbrev as5:=@List.take_length
abbrev ac4:=@List.drop_zero
abbrev ag0:=@List.cons_append
abbrev aw4:=@List.nil_append
abbrev K0:=@List.mem_map
abbrev R1:=@List.take_add_one
abbrev D8:=@ByteArray.size_append
abbrev bU2:=@List.getElem?_append_left
abbrev aP5:=@Nat.add_comm
abbrev bU3:=@Nat.lt_irrefl
abbrev Q1:=@List.take_of_length_le
abbrev d9:=ByteArray
abbrev u9:=Go.Value
abbrev J3:=UInt8
abbrev m9:=Option Go.Addr

abbrev H:=Nat->Option Obj
abbrev KH:=Value->H->Prop
def H.le(Y:H)(w:World):Prop:=∀b o,Y b=some o->w.heap[b]?=some o
def H.put(Y:H)(b:Nat)(o:Obj):H:=fun k=>if k=b then some o else Y k
theorem H.put_same(Y:H)(b:Nat)(o:Obj):Y.put b o b=some o:=by simp[H.put]
theorem H.put_other(Y:H){b k:Nat}(o:Obj)(h:k≠b):Y.put b o k=Y k:=by simp[H.put,h]

structure X7(Y:H)(w:World)(Y':H)(w':World):Prop where
 le:Y'.le w'
 size:w.heap.size<=w'.heap.size
 keep:∀b,b<w.heap.size->Y b=none->w'.heap[b]?=w.heap[b]?
 own:∀b o,Y' b=some o->Y b=none->w.heap.size<=b
 os:w'.os=w.os
 tape:w'.tape=w.tape
 output:w'.output=w.output

theorem H.le.lt{Y:H}{w:World}(h:Y.le w){b:Nat}{o:Obj}(hb:Y b=some o):b<w.heap.size:=by
 have:=h b o hb;rcases Nat.lt_or_ge b w.heap.size with h'|h'
 ·exact h'
 ·rw[Array.getElem?_eq_none h']at this;cases this

theorem X7.refl{Y:H}{w:World}(h:Y.le w):X7 Y w Y w :=
 ⟨h,Nat.le_refl _,fun _ _ _=>rfl,(fun b o hb hn=>by rw[hn]at hb;cases hb),rfl,rfl,rfl⟩

theorem X7.trans{Y₁ Y₂ Y₃:H}{w₁ w₂ w₃:World}(h:X7 Y₁ w₁ Y₂ w₂)(k:X7 Y₂ w₂ Y₃ w₃):X7 Y₁ w₁ Y₃ w₃:=by
 refine⟨k.le,Nat.le_trans h.size k.size,fun b hb hn=>?_,fun b o hb hn=>?_,k.os.trans h.os,k.tape.trans h.tape,k.output.trans h.output⟩
 ·have h2 : Y₂ b = none := by
   cases h2:Y₂ b with
   |none=>rfl
   |some o=>have:=h.own b o h2 hn;omega
  rw[k.keep b (Nat.lt_of_lt_of_le hb h.size) h2,h.keep b hb hn]
 ·cases h2:Y₂ b with
  |none=>exact Nat.le_trans h.size (k.own b o hb h2)
  |some o'=>exact h.own b o' h2 hn

theorem X7.drew{Y:H}{w:World}(h:Y.le w)(d:Nat):X7 Y w Y {w with drawn:=d} :=
 ⟨h,Nat.le_refl _,fun _ _ _=>rfl,(fun b o hb hn=>by rw[hn]at hb;cases hb),rfl,rfl,rfl⟩

theorem X7.alloc{Y:H}{w:World}(h:Y.le w)(o:Obj):Y w.heap.size=none/\X7 Y w (Y.put w.heap.size o) (w.alloc o):=by
 have hn:Y w.heap.size=none:=by
  cases hc:Y w.heap.size with
  |none=>rfl
  |some o'=>exact absurd (h.lt hc) (Nat.lt_irrefl _)
 refine⟨hn,?_,by show w.heap.size<=(w.heap.push o).size;simp,?_,?_,rfl,rfl,rfl⟩
 ·intro b o' hb;by_cases e:b=w.heap.size
  ·subst e;rw[H.put_same]at hb;show(w.heap.push o)[w.heap.size]?=_;simpa using hb
  ·rw[H.put_other _ _ e]at hb;have iw:=h.lt hb;show(w.heap.push o)[b]?=_;rw[Array.getElem?_push,if_neg (by omega)];exact h b o' hb
 ·intro b hb _;show(w.heap.push o)[b]?=_;rw[Array.getElem?_push,if_neg (by omega)]
 ·intro b o' hb iy;by_cases e:b=w.heap.size
  ·omega
  ·rw[H.put_other _ _ e,iy]at hb;cases hb

theorem X7.set{Y:H}{w w':World}(h:Y.le w){b:Nat}{o o':Obj}(hb:Y b=some o)
 (hh:w'.heap=w.heap.setIfInBounds b o') (h1:w'.os=w.os) (h2:w'.tape=w.tape) (h3:w'.output=w.output):X7 Y w (Y.put b o') w':=by
 have iw:=h.lt hb;refine⟨?_,by rw[hh];simp,?_,?_,h1,h2,h3⟩
 ·intro c oc hc;rw[hh];by_cases e:c=b
  ·subst e;rw[H.put_same]at hc;simp[iw];simpa using hc
  ·rw[H.put_other _ _ e]at hc;rw[Array.getElem?_setIfInBounds,if_neg (fun x=>e x.symm)];exact h c oc hc
 ·intro c hc hn;have:b≠c:=by intro e;subst e;rw[hb]at hn;cases hn
  rw[hh,Array.getElem?_setIfInBounds,if_neg this]
 ·intro c oc hc hn;by_cases e:c=b
  ·subst e;rw[hb]at hn;cases hn
  ·rw[H.put_other _ _ e,hn]at hc;cases hc

def aq5(P:Program)(R:Value->World->Prop):Result Next->Prop
 |.ok (.value v) w=>R v w
 |.ok .skip w=>R undef w
 |.ok (.enter f args) w=>CallsIn Fence.wide 0 P f args w fun e w'=>∃v,e=.returned v/\R v w'
 |.ok (.round l f tmps assign body) w=>RoundIn Fence.wide 0 P l f tmps assign body w fun e w'=>∃v,e=.returned v/\R v w'
 |_=>False

theorem aq5.mono{P:Program}{R R':Value->World->Prop}(hr:∀v w,R v w->R' v w){x:Result Next}(h:aq5 P R x):aq5 P R' x:=by
 unfold aq5 at h⊢;split at h
 ·exact hr _ _ h
 ·exact hr _ _ h
 ·exact h.mono fun e w' ⟨v,he,hv⟩=>⟨v,he,hr _ _ hv⟩
 ·exact h.mono fun e w' ⟨v,he,hv⟩=>⟨v,he,hr _ _ hv⟩
 ·exact h.elim

def J1(P:Program)(s:Sem Next)(K:KH)(Y:H):Prop :=
 ∀w,Y.le w->aq5 P (fun v w'=>∃Y',X7 Y w Y' w'/\K v Y') (s.run P w)

theorem J1.mono{P:Program}{s:Sem Next}{K K':KH}{Y:H}(h:J1 P s K Y)(hk:∀v Y',K v Y'->K' v Y'):J1 P s K' Y :=
 fun w hw=>(h w hw).mono fun _ _ ⟨Y',he,hv⟩=>⟨Y',he,hk _ _ hv⟩

def E2(P:Program)(f:FuncId)(args:List Value)(K:KH)(Y:H):Prop :=
 ∀w,Y.le w->CallsIn Fence.wide 0 P f args.toArray w fun e w'=>∃v,e=.returned v/\∃Y',X7 Y w Y' w'/\K v Y'

theorem E2.mono{P:Program}{f:FuncId}{args:List Value}{K K':KH}{Y:H}(h:E2 P f args K Y)(hk:∀v Y',K v Y'->K' v Y'):E2 P f args K' Y :=
 fun w hw=>(h w hw).mono fun _ _ ⟨v,e,Y',he,hv⟩=>⟨v,e,Y',he,hk _ _ hv⟩

theorem X7.frame{Y Y':H}{w w':World}{b:Nat}{o:Obj}(hb:Y b=none)(hw:(Y.put b o).le w)(he:X7 Y w Y' w') :
 Y' b=none/\X7 (Y.put b o) w (Y'.put b o) w':=by
 have Ct:w.heap[b]?=some o:=hw b o (H.put_same _ _ _);have iw:b<w.heap.size:=hw.lt (H.put_same _ _ _);have hn:Y' b=none:=by
  cases hc:Y' b with
  |none=>rfl
  |some o'=>have:=he.own b o' hc hb;omega
 refine⟨hn,?_,he.size,?_,?_,he.os,he.tape,he.output⟩
 ·intro c oc hc;by_cases e:c=b
  ·subst e;rw[H.put_same]at hc;cases hc;rw[he.keep c iw hb,Ct]
  ·rw[H.put_other _ _ e]at hc;exact he.le c oc hc
 ·intro c hc vm;by_cases e:c=b
  ·subst e;rw[H.put_same]at vm;cases vm
  ·rw[H.put_other _ _ e]at vm;exact he.keep c hc vm
 ·intro c oc hc vm;by_cases e:c=b
  ·subst e;rw[H.put_same]at vm;cases vm
  ·rw[H.put_other _ _ e]at hc vm;exact he.own c oc hc vm

theorem H.le_of_put{Y:H}{w:World}{b:Nat}{o:Obj}(hb:Y b=none)(hw:(Y.put b o).le w):Y.le w:=by
 intro c oc hc;refine hw c oc ?_;rw[H.put_other]
 ·exact hc
 ·intro e;subst e;rw[hb]at hc;cases hc

theorem J1.frame{P:Program}{s:Sem Next}{K:KH}{Y:H}(h:J1 P s K Y){b:Nat}{o:Obj}(hb:Y b=none) :
 J1 P s (fun v Y'=>∃Y₁,Y₁ b=none/\Y'=Y₁.put b o/\K v Y₁) (Y.put b o):=by
 intro w hw;refine(h w (H.le_of_put hb hw)).mono fun v w' ⟨Y',he,hk⟩=>?_;obtain⟨hn,my⟩:=X7.frame hb hw he;exact⟨Y'.put b o,my,Y',hn,rfl,hk⟩

def H.apart(Y V:H):Prop:=∀b,Y b=none\/V b=none

end Go.HL

