/- A part of a proof. -/
import Derived.Test.YtgfiobhpipollaaGreatDoorOam
namespace Go.HL
open Go
instance:LawfulBEq ByteArray where
 eq_of_beq h:=by rw[beq_toListBytes]at h;exact bm8 (eq_of_beq h)
 rfl:=by intro a;rw[beq_toListBytes];simp
theorem P8 {a b:ByteArray}:B8 a b=true↔a=b:=by
 constructor
 ·intro h;exact bm8 (eq_of_beq h)
 ·intro h;subst h;simp[B8]
theorem Z6 (a b:ByteArray):B8 a b=(a==b):=by rw[beq_toListBytes];rfl
section
variable {κ α β : Type} [BEq κ] [LawfulBEq κ]
def ab1 (l:List (κ×α)):List κ:=l.map (·.1)
theorem aL2 (k j:κ) (v:α) : ∀l:List (κ×α),lk j (up k v l)=if j==k then some v else lk j l:=by
 intro l
 induction l with
 | nil=>simp only[up,lk];cases h:(j==k)<;>simp
 | cons x l ih =>
  obtain⟨i,u⟩:=x
  simp only[up]
  cases h:(k==i) with
  | true =>
   have:=eq_of_beq h;subst this
   simp only[lk]
   cases (j==k)<;>simp
  | false =>
   simp only[lk]
   cases h2:(j==i) with
   | true =>
    have:=eq_of_beq h2;subst this
    have:(j==k)=false:=by
     cases h3:(j==k) with
     | false=>rfl
     | true=>have:=eq_of_beq h3;subst this;simp at h
    simp[this]
   | false=>simp[ih]
end
theorem cl3 {σ:H} {b c:Nat} (hc:σ c=none) (hb:(σ b).isSome=true):b≠c:=by
 intro e;subst e;rw[hc]at hb;cases hb
theorem ak5 {σ:H} {b:Nat} {o:Obj} (h:σ b=some o):(σ b).isSome=true:=by rw[h];rfl
theorem Gr.isSome {σ σ':H} {b:Nat} (hg:Gr σ σ') (h:(σ b).isSome=true):(σ' b).isSome=true:=by
 cases hb:σ b with
 | none=>rw[hb]at h;cases h
 | some o=>exact ak5 (hg b o hb)
theorem L6.isSome {σ σ':H} {b c:Nat} {o:Obj} (hp:L6 σ c o σ') (h:(σ b).isSome=true):(σ' b).isSome=true:=by
 by_cases e:b=c
 ·subst e;exact ak5 hp.same
 ·cases hb:σ b with
  | none=>rw[hb]at h;cases h
  | some o=>exact ak5 (hp.get e hb)
theorem I6.isSome {σ:H} {b:Nat} {l:List (Value×Value)} (h:I6 σ b l):(σ b).isSome=true:=by
 obtain⟨_,_,h,_⟩:=h;exact ak5 h
theorem io {σ:H} {b:Nat} {o:Obj} (h:σ b=some o):(σ b).isSome=true:=ak5 h
theorem mS {σ:H} {b:Nat} {l:List (Value×Value)} (h:I6 σ b l):(σ b).isSome=true:=h.isSome
theorem gS {σ σ':H} {b:Nat} (hg:Gr σ σ') (h:(σ b).isSome=true):(σ' b).isSome=true:=hg.isSome h
theorem pS {σ σ':H} {b c:Nat} {o:Obj} (hp:L6 σ c o σ') (h:(σ b).isSome=true):(σ' b).isSome=true:=hp.isSome h
theorem gG {σ σ':H} {b:Nat} {o:Obj} (hg:Gr σ σ') (h:σ b=some o):σ' b=some o:=hg.get h
theorem pE {σ σ':H} {b:Nat} {o:Obj} (h:L6 σ b o σ'):σ' b=some o:=h.same
theorem pG {σ σ':H} {b c:Nat} {o oc:Obj} (h:L6 σ b o σ') (hne:c≠b) (hc:σ c=some oc):σ' c=some oc:=h.get hne hc
theorem nA {p:Prop} (h:p:=by first | assumption | exact Ne.symm ‹_› | exact cl3 ‹_› (by repeat (first | exact io ‹_› | exact mS ‹_› | refine gS ‹_› ?_ | refine pS ‹_› ?_)) | exact Ne.symm (cl3 ‹_› (by repeat (first | exact io ‹_› | exact mS ‹_› | refine gS ‹_› ?_ | refine pS ‹_› ?_)))):p:=h
theorem gA {p:Prop} (h:p:=by repeat (first | assumption | refine gG ‹_› ?_ | exact pE ‹_› | refine pG ‹_› (by exact nA) ?_)):p:=h
theorem k0 {t:TK} {F:t.Fn (H->Prop)} {v:Value} {g:H->Prop} {σ:H} (h:t.prj F v=some g) (hg:g σ):app t F v σ:=by
 unfold app bl5;rw[h];exact hg
theorem z2 {σ:H} {b o:Nat} {t:TK} {F:t.Fn (H->Prop)} {l:List Value} {ty:TypeId} {fz:Nat×Nat} {v:Value} (h2:app t F v σ) (h:σ b=some (.cells ⟨l⟩ ty fz):=by exact gA) (hv:l[o]? = some v:=by rfl):l4 (s5 b o) t F σ:=⟨v,f0 h hv,h2⟩
theorem z4 {σ:H} {g:H->Prop} {b o:Nat} {l:List Value} {ty:TypeId} {fz:Nat×Nat} {v:Value} (h2:g σ) (h:σ b=some (.cells ⟨l⟩ ty fz):=by exact gA) (hv:l[o]? = some v:=by rfl):A2 (fun σ=>s5 b o σ=some v) g σ:=F9 (f0 h hv) h2
theorem z5 {σ:H} {n b o:Nat} {t:TK} {F:t.Fn (H->Prop)} {l r:List Value} {ty:TypeId} {fz:Nat×Nat} (h2:app t F (.agg ⟨r⟩) σ) (h:σ b=some (.cells ⟨l⟩ ty fz):=by exact gA) (hv:(bif Nat.ble (o+n) l.length then some ((l.drop o).take n)else none)=some r:=by rfl):l4 (rdA n b o) t F σ:=⟨_,l7 h hv,h2⟩
theorem z6 {P:Program} {t:TypeId} {b o:Nat} {v:Value} {g:H->Prop} {σ:H} {l:List Value} {e:TypeId} (h:∀σ',L6 σ b (.cells ⟨l.take o++L5 v.cells++l.drop (o+(L5 v.cells).length)⟩ e (0,0)) σ'->g σ') (hb:σ b=some (.cells ⟨l⟩ e (0,0)):=by exact gA) (hs:sizeT P t=some (L5 v.cells).length:=by exact szA) (ho:Nat.ble (o+(L5 v.cells).length) l.length=true:=by rfl) (h1:(L5 v.cells).all (·.oneCell')=true:=by rfl):U3 P t (.pointer (some ⟨b,o,none⟩)) v g σ:=cl0 hb hs ho h1 h
theorem w4 {P:Program} {t:TypeId} {b o:Nat} {v:Value} {g:H->Prop} {σ:H} {l:List Value} {e:TypeId} (hb:σ b=some (.cells ⟨l⟩ e (0,0))) (hs:sizeT P t=some (L5 v.cells).length) (h:∀σ',L6 σ b (.cells ⟨l.take o++L5 v.cells++l.drop (o+(L5 v.cells).length)⟩ e (0,0)) σ'->g σ') (ho:Nat.ble (o+(L5 v.cells).length) l.length=true:=by rfl) (h1:(L5 v.cells).all (·.oneCell')=true:=by rfl):U3 P t (.pointer (some ⟨b,o,none⟩)) v g σ:=cl0 hb hs ho h1 h
theorem J6 {p:Prop} [Decidable p] (h:¬p:=by omega):decide p=false:=decide_eq_false h
theorem C8 {p:Prop} [Decidable p] (h:p:=by omega):decide p=true:=decide_eq_true h
theorem L1 {x:Int} (n:Nat) (h1:0<=x:=by omega) (h2:x<(n:Int):=by omega):0<=x/\x<(n:Int):=⟨h1,h2⟩
def Sep (σ:H) (B:Nat->Prop) (σ':H) (B':Nat->Prop):Prop := ∀b o,σ b=some o -> ¬B b->σ' b=some o /\ ¬B' b
theorem Sep.refl (σ:H) (B:Nat->Prop):Sep σ B σ B:=fun _ _ h k=>⟨h,k⟩
theorem Sep.trans {σ σ' σ'':H} {B B' B'':Nat->Prop} (h:Sep σ B σ' B') (k:Sep σ' B' σ'' B''):Sep σ B σ'' B'':=fun b o hb hn=>k b o (h b o hb hn).1 (h b o hb hn).2
theorem Sep.gr {σ σ':H} {B:Nat->Prop} (h:Gr σ σ'):Sep σ B σ' B:=fun b o hb hn=>⟨h.get hb,hn⟩
theorem Sep.of_gr {σ σ1 σ':H} {B B':Nat->Prop} (hg:Gr σ σ1) (h:Sep σ1 B σ' B'):Sep σ B σ' B':=fun b o hb hn=>h b o (hg.get hb) hn
end Go.HL

