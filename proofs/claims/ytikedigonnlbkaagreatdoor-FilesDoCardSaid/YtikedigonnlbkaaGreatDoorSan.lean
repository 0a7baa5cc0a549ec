/- A part of a proof. -/
import Derived.Test.YtikedigonnlbkaaGreatDoorSam
namespace Go.HL
open Go
instance:LawfulBEq d9 where
 eq_of_beq h:=by rw[beq_toListBytes]at h;exact bv5 (eq_of_beq h)
 rfl:=by intro a;rw[beq_toListBytes];simp
theorem Z3{a b:d9}:C3 a b=true↔a=b:=by
 constructor
 ·intro h;exact bv5 (eq_of_beq h)
 ·intro h;subst h;simp[C3]
theorem bK4(a b:d9):C3 a b=(a==b):=by rw[beq_toListBytes];rfl
section
variable {κ α β:Type} [BEq κ] [LawfulBEq κ]
def C5(l:List (κ×α)):List κ:=l.map (·.1)
theorem ax0(k j:κ)(v:α):∀l:List (κ×α),lk j (up k v l)=if j==k then some v else lk j l:=by
 intro l
 induction l with
 |nil=>simp only[up,lk];cases h:(j==k)<;>simp
 |cons x l ih =>
  obtain⟨i,u⟩:=x;simp only[up];cases h:(k==i) with
  |true =>
   have:=eq_of_beq h;subst this;simp only[lk];cases (j==k)<;>simp
  |false =>
   simp only[lk];cases h2:(j==i) with
   |true =>
    have:=eq_of_beq h2;subst this;have:(j==k)=false:=by
     cases h3:(j==k) with
     |false=>rfl
     |true=>have:=eq_of_beq h3;subst this;simp at h
    simp[this]
   |false=>simp[ih]
theorem M4{k:κ}:∀ {l:List (κ×α)},lk k l=none↔k∉C5 l:=by
 intro l
 induction l with
 |nil=>simp[lk,C5]
 |cons x l ih =>
  obtain⟨i,u⟩:=x;simp only[lk,C5,H5,G9,not_or];cases h:(k==i) with
  |true=>have:=eq_of_beq h;subst this;simp
  |false =>
   simp only[ih,C5];constructor
   ·intro hh;exact⟨by intro e;subst e;simp at h,hh⟩
   ·intro hh;exact hh.2
theorem ak1{k j:κ}:∀ {l:List (κ×α)},(C5 l).Nodup->lk j (rm k l)=if j==k then none else lk j l:=by
 intro l
 induction l with
 |nil=>intro _;simp[rm,lk]
 |cons x l ih =>
  obtain⟨i,u⟩:=x;intro hn;simp only[C5,H5,List.nodup_cons]at hn;simp only[rm];cases h:(k==i) with
  |true =>
   have:=eq_of_beq h;subst this;simp only[lk];cases h2:(j==k) with
   |true=>have:=eq_of_beq h2;subst this;simp;exact M4.2 hn.1
   |false=>simp
  |false =>
   simp only[lk];cases h2:(j==i) with
   |true =>
    have:=eq_of_beq h2;subst this;have:(j==k)=false:=by
     cases h3:(j==k) with
     |false=>rfl
     |true=>have:=eq_of_beq h3;subst this;simp at h
    simp[this]
   |false=>simp[ih hn.2]
omit [LawfulBEq κ] in
theorem cv5(f:α->β)(k:κ):∀l:List (κ×α),lk k (l.map fun p=>(p.1,f p.2))=(lk k l).map f:=by
 intro l
 induction l with
 |nil=>rfl
 |cons x l ih=>obtain⟨i,u⟩:=x;simp only[H5,lk];cases (k==i)<;>simp[ih]
omit [LawfulBEq κ] in
theorem cv6(f:α->β)(k:κ)(v:α):∀l:List (κ×α),(up k v l).map (fun p=>(p.1,f p.2))=up k (f v) (l.map fun p=>(p.1,f p.2)):=by
 intro l
 induction l with
 |nil=>rfl
 |cons x l ih=>obtain⟨i,u⟩:=x;simp only[H5,up];cases (k==i)<;>simp[ih]
omit [LawfulBEq κ] in
theorem cv7(f:α->β)(k:κ):∀l:List (κ×α),(rm k l).map (fun p=>(p.1,f p.2))=rm k (l.map fun p=>(p.1,f p.2)):=by
 intro l
 induction l with
 |nil=>rfl
 |cons x l ih=>obtain⟨i,u⟩:=x;simp only[H5,rm];cases (k==i)<;>simp[ih]
theorem aM2{kk:KK κ}{f:α->u9}{k:κ}{v u:α}:∀ {l:List (κ×α)},lk k l=some u->f v=f u->W0 kk f (up k v l)=W0 kk f l:=by
 intro l
 induction l with
 |nil=>intro h;simp[lk]at h
 |cons x l ih =>
  obtain⟨i,w⟩:=x;intro h hf;simp only[lk]at h;simp only[up];cases hk:(k==i) with
  |true=>rw[hk]at h;have:=eq_of_beq hk;subst this;cases h;simp[W0,hf]
  |false=>rw[hk]at h;have:=ih h hf;simp only[W0]at this⊢;simp[this]
theorem cl0{k:κ}{v:α}:∀ {l:List (κ×α)},lk k l=some v->up k v l=l:=by
 intro l
 induction l with
 |nil=>intro h;simp[lk]at h
 |cons x l ih =>
  obtain⟨i,w⟩:=x;intro h;simp only[lk]at h;simp only[up];cases hk:(k==i) with
  |true=>rw[hk]at h;have:=eq_of_beq hk;subst this;cases h;rfl
  |false=>rw[hk]at h;simp only[ih h]
omit [BEq κ] [LawfulBEq κ] in
theorem bW2(f:α->β)(l:List (κ×α)):C5 (l.map fun p=>(p.1,f p.2))=C5 l:=by simp[C5]
theorem bd5{k:κ}{v:α}:∀ {l:List (κ×α)},(lk k l).isSome=true->C5 (up k v l)=C5 l:=by
 intro l
 induction l with
 |nil=>intro h;simp[lk]at h
 |cons x l ih =>
  obtain⟨i,w⟩:=x;intro h;simp only[lk]at h;simp only[up];cases hk:(k==i) with
  |true=>have:=eq_of_beq hk;subst this;simp[C5]
  |false=>rw[hk]at h;have:=ih h;simp only[C5]at this⊢;simp[this]
omit [LawfulBEq κ] in
theorem aE8{k:κ}{v:α}{l:List (κ×α)}(h:lk k l=none):C5 (up k v l)=C5 l++[k]:=by
 rw[ak6 l k v h];simp[C5]
theorem M5{k:κ}{v:α}{l:List (κ×α)}(h:(C5 l).Nodup):(C5 (up k v l)).Nodup:=by
 cases hk:lk k l with
 |none =>
  rw[aE8 hk];have:=M4.1 hk;rw[List.nodup_append];refine⟨h,by simp,?_⟩;intro a ha b hb;simp at hb;subst hb;intro e;subst e;exact this ha
 |some u=>rw[bd5 (by rw[hk];rfl)];exact h
omit [LawfulBEq κ] in
theorem aQ4{k:κ}:∀ {l:List (κ×α)},(rm k l).Sublist l:=by
 intro l
 induction l with
 |nil=>exact List.Sublist.refl _
 |cons x l ih =>
  obtain⟨i,w⟩:=x;simp only[rm];cases (k==i) with
  |true=>exact List.sublist_cons_self ..
  |false=>exact ih.cons_cons _
omit [LawfulBEq κ] in
theorem ai6{k:κ}{l:List (κ×α)}(h:(C5 l).Nodup):(C5 (rm k l)).Nodup:=h.sublist (aQ4.map _)
end
theorem H6{Y:H}{b c:Nat}(hc:Y c=none)(hb:(Y b).isSome=true):b≠c:=by
 intro e;subst e;rw[hc]at hb;cases hb
theorem A8{Y:H}{b:Nat}{o:Obj}(h:Y b=some o):(Y b).isSome=true:=by rw[h];rfl
theorem Gr.isSome{Y Y':H}{b:Nat}(hg:Gr Y Y')(h:(Y b).isSome=true):(Y' b).isSome=true:=by
 cases hb:Y b with
 |none=>rw[hb]at h;cases h
 |some o=>exact A8 (hg b o hb)
theorem P1.isSome{Y Y':H}{b c:Nat}{o:Obj}(hp:P1 Y c o Y')(h:(Y b).isSome=true):(Y' b).isSome=true:=by
 by_cases e:b=c
 ·subst e;exact A8 hp.same
 ·cases hb:Y b with
  |none=>rw[hb]at h;cases h
  |some o=>exact A8 (hp.get e hb)
theorem Q7.isSome{Y:H}{b:Nat}{l:List (u9×u9)}(h:Q7 Y b l):(Y b).isSome=true:=by
 obtain⟨_,_,h,_⟩:=h;exact A8 h
theorem io{Y:H}{b:Nat}{o:Obj}(h:Y b=some o):(Y b).isSome=true:=A8 h
theorem mS{Y:H}{b:Nat}{l:List (u9×u9)}(h:Q7 Y b l):(Y b).isSome=true:=h.isSome
theorem gS{Y Y':H}{b:Nat}(hg:Gr Y Y')(h:(Y b).isSome=true):(Y' b).isSome=true:=hg.isSome h
theorem pS{Y Y':H}{b c:Nat}{o:Obj}(hp:P1 Y c o Y')(h:(Y b).isSome=true):(Y' b).isSome=true:=hp.isSome h
theorem gG{Y Y':H}{b:Nat}{o:Obj}(hg:Gr Y Y')(h:Y b=some o):Y' b=some o:=hg.get h
theorem pE{Y Y':H}{b:Nat}{o:Obj}(h:P1 Y b o Y'):Y' b=some o:=h.same
theorem pG{Y Y':H}{b c:Nat}{o oc:Obj}(h:P1 Y b o Y')(ia:c≠b)(hc:Y c=some oc):Y' c=some oc:=h.get ia hc
theorem nA{p:Prop}(h:p:=by first|assumption|exact Ne.symm ‹_›|exact H6 ‹_› (by repeat (first|exact io ‹_›|exact mS ‹_›|refine gS ‹_› ?_|refine pS ‹_› ?_))|exact Ne.symm (H6 ‹_› (by repeat (first|exact io ‹_›|exact mS ‹_›|refine gS ‹_› ?_|refine pS ‹_› ?_)))):p:=h
theorem gA{p:Prop}(h:p:=by repeat (first|assumption|refine gG ‹_› ?_|exact pE ‹_›|refine pG ‹_› (by exact nA) ?_)):p:=h
theorem szA{p:Prop}(h:p:=by first|exact aj3|exact U3|exact aA6|exact ay9|exact aG6|exact cy8|exact ag5|exact aH0):p:=h
theorem l6{t:TK}{F:t.Fn (H->Prop)}{v:u9}{g:H->Prop}{Y:H}(h:t.prj F v=some g)(hg:g Y):app t F v Y:=by
 unfold app bt4;rw[h];exact hg
theorem de2{Y:H}{b o:Nat}{t:TK}{F:t.Fn (H->Prop)}{l:List u9}{ty:TypeId}{fz:Nat×Nat}{v:u9}(h:Y b=some (.cells ⟨l⟩ ty fz))(hv:l[o]?=some v)(h2:app t F v Y):l8 (m8 b o) t F Y:=⟨v,f0 h hv,h2⟩
theorem dz9{Y:H}{n b o:Nat}{t:TK}{F:t.Fn (H->Prop)}{l r:List u9}{ty:TypeId}{fz:Nat×Nat}(h:Y b=some (.cells ⟨l⟩ ty fz))(hv:(bif Nat.ble (o+n) l.length then some ((l.drop o).take n)else none)=some r)(h2:app t F (.agg ⟨r⟩) Y):l8 (rdA n b o) t F Y:=⟨_,D4 h hv,h2⟩
theorem z2{Y:H}{b o:Nat}{t:TK}{F:t.Fn (H->Prop)}{l:List u9}{ty:TypeId}{fz:Nat×Nat}{v:u9}(h2:app t F v Y)(h:Y b=some (.cells ⟨l⟩ ty fz):=by exact gA)(hv:l[o]?=some v:=by rfl):l8 (m8 b o) t F Y:=⟨v,f0 h hv,h2⟩
theorem z4{Y:H}{g:H->Prop}{b o:Nat}{l:List u9}{ty:TypeId}{fz:Nat×Nat}{v:u9}(h2:g Y)(h:Y b=some (.cells ⟨l⟩ ty fz):=by exact gA)(hv:l[o]?=some v:=by rfl):I9 (fun Y=>m8 b o Y=some v) g Y:=aa6 (f0 h hv) h2
theorem z5{Y:H}{n b o:Nat}{t:TK}{F:t.Fn (H->Prop)}{l r:List u9}{ty:TypeId}{fz:Nat×Nat}(h2:app t F (.agg ⟨r⟩) Y)(h:Y b=some (.cells ⟨l⟩ ty fz):=by exact gA)(hv:(bif Nat.ble (o+n) l.length then some ((l.drop o).take n)else none)=some r:=by rfl):l8 (rdA n b o) t F Y:=⟨_,D4 h hv,h2⟩
theorem z6{P:Program}{t:TypeId}{b o:Nat}{v:u9}{g:H->Prop}{Y:H}{l:List u9}{e:TypeId}(h:∀Y',P1 Y b (.cells ⟨l.take o++aa5 v.cells++l.drop (o+(aa5 v.cells).length)⟩ e (0,0)) Y'->g Y')(hb:Y b=some (.cells ⟨l⟩ e (0,0)):=by exact gA)(hs:E6 P t=some (aa5 v.cells).length:=by exact szA)(ho:Nat.ble (o+(aa5 v.cells).length) l.length=true:=by rfl)(h1:(aa5 v.cells).all (·.oneCell')=true:=by rfl):stW P t (.pointer (some ⟨b,o,none⟩)) v g Y:=aX3 hb hs ho h1 h
theorem zz{p X:Prop}(h:X)(e:X->p:=by first|exact j0|exact fun h=>z2 h|exact fun h=>z4 h|exact fun h=>z5 h|exact am7|exact C4|exact ab2|exact H2|exact cF3|exact ak0|exact U9|exact ae4):p:=e h
theorem C1{P:Program}{t:TypeId}{b o:Nat}{v:u9}{g:H->Prop}{Y:H}{l:List u9}{e:TypeId}(hb:Y b=some (.cells ⟨l⟩ e (0,0)))(hs:E6 P t=some (aa5 v.cells).length)(h:∀Y',P1 Y b (.cells ⟨l.take o++aa5 v.cells++l.drop (o+(aa5 v.cells).length)⟩ e (0,0)) Y'->g Y')(ho:Nat.ble (o+(aa5 v.cells).length) l.length=true:=by rfl)(h1:(aa5 v.cells).all (·.oneCell')=true:=by rfl):stW P t (.pointer (some ⟨b,o,none⟩)) v g Y:=aX3 hb hs ho h1 h
theorem W4{p:Prop} [Decidable p] (h:¬p:=by omega):decide p=false:=decide_eq_false h
theorem M7{p:Prop} [Decidable p] (h:p:=by omega):decide p=true:=decide_eq_true h
theorem bv6{x:Int}(n:Nat)(h1:0<=x:=by omega)(h2:x<(n:Int):=by omega):0<=x/\x<(n:Int):=⟨h1,h2⟩
def H1(Y:H)(B:Nat->Prop)(Y':H)(B':Nat->Prop):Prop:=∀b o,Y b=some o->¬B b->Y' b=some o/\¬B' b
theorem H1.refl(Y:H)(B:Nat->Prop):H1 Y B Y B:=fun _ _ h k=>⟨h,k⟩
theorem H1.trans{Y Y' Y'':H}{B B' B'':Nat->Prop}(h:H1 Y B Y' B')(k:H1 Y' B' Y'' B''):H1 Y B Y'' B'':=fun b o hb hn=>k b o (h b o hb hn).1 (h b o hb hn).2
theorem H1.gr{Y Y':H}{B:Nat->Prop}(h:Gr Y Y'):H1 Y B Y' B:=fun b o hb hn=>⟨h.get hb,hn⟩
theorem H1.of_gr{Y Y1 Y':H}{B B':Nat->Prop}(hg:Gr Y Y1)(h:H1 Y1 B Y' B'):H1 Y B Y' B':=fun b o hb hn=>h b o (hg.get hb) hn
end Go.HL

