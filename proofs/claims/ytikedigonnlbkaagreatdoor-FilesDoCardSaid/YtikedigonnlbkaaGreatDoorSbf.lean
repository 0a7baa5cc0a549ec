/- A part of a proof. -/
import Derived.Test.YtikedigonnlbkaaGreatDoorSbe
set_option maxRecDepth 100000
namespace Go.Proofs.YtikedigonnlbkaaGreatDoor
open Go Go.HL Go.Wk
section
def Z1:d9:=(bs [99,104,109,111,100])
def cB4:d9:=(bs [116,111,117,99,104])
def lnN:d9:=(bs [108,110])
theorem ch1(A:AT)(gb ge:d9)(gd:List d9):doP A cB4 gb ge gd=TS.each cB4 (fun t n=>onA t (t.A.writeF gb n gq true)) gd (TS.new A):=by
 unfold doP;simp only;rw[d7 (by decide +kernel),d7 (by decide +kernel),d8 (by decide +kernel)]
theorem ch2(A:AT)(gb ge ii:d9)(r:List d9):doP A Z1 gb ge (ii::r)=TS.each Z1 (fun t n=>onA t (t.A.chmodP gb ii n)) r (TS.new A):=by
 unfold doP;simp only;rw[d7 (by decide +kernel),d7 (by decide +kernel),d7 (by decide +kernel),d8 (by decide +kernel)]
theorem ct6(A:AT)(gb ge gk:d9)(r:List d9):doP A lnN gb ge (gk::r)=TS.each lnN (fun t n=>onA t (t.A.lnP gb ge gk n)) r (TS.new A):=by
 unfold doP;simp only;rw[d7 (by decide +kernel),d7 (by decide +kernel),d7 (by decide +kernel),d7 (by decide +kernel),d8 (by decide +kernel)]
theorem bb3{N:Nat}{A:AT}(h:Inv A/\Bd N A)(gb ii n:d9):Inv (A.chmodP gb ii n).2/\Bd N (A.chmodP gb ii n).2:=by
 unfold AT.chmodP;split
 ·have:=ak7 h.1 h.2 gb n;exact⟨(this _).inv,(this _).bd⟩
 ·simp only;split
  ·have:=ak7 h.1 h.2 gb n;exact⟨(this _).inv,(this _).bd⟩
  ·exact h
def ch3(A:AT)(gb ii n:d9):Option Int->Int×AT
 |some m=>A.chmodF gb n m
 |none=>if(A.stat gb n true).1==0 then A.chmodF gb n (if E8 ii (bs [45,120]) then bl1 (A.stat gb n true).2.mode else orX (A.stat gb n true).2.mode)else((A.stat gb n true).1,A)
def db5(A:AT)(gb ii n:d9):Option Int->Int->Prop
 |some q,m=>m=q
 |none,m=>((A.stat gb n true).1==0)=true/\m=(if E8 ii (bs [45,120]) then bl1 (A.stat gb n true).2.mode else orX (A.stat gb n true).2.mode)
theorem co8{A:AT}{gb ii n:d9}{oc:Option Int}{m:Int}(h:db5 A gb ii n oc m):ch3 A gb ii n oc=A.chmodF gb n m:=by
 cases oc with
 |some q=>have h:m=q:=h;rw[h];rfl
 |none =>
  obtain⟨h1,h2⟩:=h;unfold ch3;simp only;rw[d8 h1,<- h2]
theorem co9{A:AT}{gb ii n:d9}(h:((A.stat gb n true).1==0)=false):ch3 A gb ii n none=((A.stat gb n true).1,A):=by
 unfold ch3;simp only;rw[h];rfl
theorem cB5{N:Nat}{A:AT}(h:Inv A/\Bd N A)(hN:N<1000000000000)(gb ge gk tq:d9):Inv (A.lnP gb ge gk tq).2/\Bd (N+1) (A.lnP gb ge gk tq).2:=by
 unfold AT.lnP;simp only;have hx:Inv (if I8 ge 102&&((A.stat gb tq false).1==0 && !((A.stat gb tq false).2.kind==2))then A.removeF gb tq else(0,A)).2/\Bd N (if I8 ge 102&&((A.stat gb tq false).1==0 && !((A.stat gb tq false).2.kind==2))then A.removeF gb tq else(0,A)).2:=by
  split
  ·have:=ag8 h.1 h.2 (by omega) gb tq;exact⟨this.inv,this.bd⟩
  ·exact h
 generalize (if I8 ge 102&&((A.stat gb tq false).1==0 && !((A.stat gb tq false).2.kind==2))then A.removeF gb tq else(0,A))=X at hx⊢;split
 ·split
  ·have:=ae6 hx.1 hx.2 (by omega) gb gk tq;exact⟨this.inv,this.bd⟩
  ·have:=bk9 hx.1 hx.2 (by omega) gb gk tq;exact⟨this.inv,this.bd⟩
 ·exact⟨hx.1,hx.2.mono (by omega)⟩
attribute [local irreducible] i9 E3 A0 I9 l8 H0 C0 stW muW biW W7 imW J0 G8 app E2 J1 D3 E6 oW P0 J5 C9 rfW N5 M9 D5 exW I2 Gr P1
theorem bq6:Z0 Tryz.prog 78=true:=by kernel_rfl
theorem bq7:Z0 Tryz.prog 79=true:=by kernel_rfl
theorem ch4:Z0 Tryz.prog 81=true:=by kernel_rfl
section
variable {Y V:H} {bt b2 b10:Nat} {C:TlC} {ge:d9} {y:Sl} {s:TS} {B:Nat->Prop} {gd:List d9}
def bh2(C:TlC)(t:TS)(n:d9):Int×TS:=onA t (t.A.writeF C.gb n gq true)
theorem bQ6{M:Nat}(h:I4 Y bt C ge y s B)(hO:Off V Y B)(hy:F0 V 1 (u0 gd) y)(hp:U4 M s.A)(hM:M<=900000000000)(il:C.nm.size<=1000000)(hl:gd.length<=1000000)(kc:∀n∈gd,n.size<=1000000)
 (hz:(TS.each C.nm (bh2 C) gd s).err.size<=1000000000000) {K:KH}
 (hK:∀Y' B',I4 Y' bt C ge y (TS.each C.nm (bh2 C) gd s) B'->H1 Y B Y' B'->U4 M (TS.each C.nm (bh2 C) gd s).A->K (.t []) Y'):i7 24 [.q bt] K Y:=by
 refine c24 _ ?_;unfold g24;refine A5 ?_;intro b2 Y1 g1 e1 n1;have nb:¬B b2:=h.fresh n1;have O1:Off (V.put b2 (ptT bt)) Y1 B:=(hO.gr g1).add e1 nb;have nt:V b2=none:=A9 hO.1 n1;have h0:(gq:d9).size=0:=rfl;refine E9 (f0 e1) (l5 (aq2 (P:=fun _ s=>U4 M s.A) (do_:=bh2 C) (hy.gr (Gr.put nt _)) hl _ il kc ?_ ?_ ?_ ?_ (h.gr g1) O1 hp hz ?_))
 ·intro s n;exact aF9 _ _ _ _
 ·intro s n;exact A7 _
 ·intro k s n hk _;rw[N7];exact hk.write (by omega) _ _ _ _ (by omega)
 ·intro n s Y2 B2 k hn _ ll t2 o2 _ K' jg;refine ah9 bq6 (c78 _ _ ?_);unfold g78;have k2:Y2 b2=some (ptT bt):=o2.get (H.put_same _ _ _);refine j0 (E9 (f0 k2) (j0 (E9 (f0 t2.cell) (j0 (E9 (f0 k2) (j0 (C6 (f0 t2.cell) ?_)))))));obtain⟨B0,hF,iu⟩:=t2.fs;refine l5 (bg4 ll.inv ll.bd' (by omega) hF _ _ _ _ (by omega) ?_);intro Y4 B4 F4 S4;obtain⟨B5,t5,s5⟩:=iu F4 S4;exact C4 (jg Y4 B5 t5 s5)
 ·intro Y' B' k t' s' _ rr;exact U9 (hK Y' B' t' (H1.of_gr g1 s') rr)
theorem bD0(h:I4 Y bt C ge y s B)(h2:Y b2=some (ptT bt))(n2:¬B b2)(ii:List J3)(ia:ii≠[])(Cf:ii.length<=1000000)(oj:Y b10=some (.c [.s ⟨⟨ii⟩⟩] 9))(n10:¬B b10)(n:d9){K:KH}
 (hK:∀Y' B',I4 Y' bt C ge y {s with A:=(s.A.chmodP C.gb ⟨⟨ii⟩⟩ n).2} B'->H1 Y B Y' B'->K (.i (s.A.chmodP C.gb ⟨⟨ii⟩⟩ n).1) Y') :
 D3 Tryz.prog (.func (.func 79) ⟨[]⟩ ⟨[.q b10,.q b2]⟩) [.s n] K Y:=by
 refine ah9 bq7 (c79 _ _ _ ?_);unfold g79;refine j0 (C6 (f0 oj) (l5 (bb2 ii ia Cf ?_)));have hcp:s.A.chmodP C.gb ⟨⟨ii⟩⟩ n=ch3 s.A C.gb ⟨⟨ii⟩⟩ n (av2 ⟨⟨ii⟩⟩):=rfl;rw[hcp]at hK;clear hcp;generalize av2 ⟨⟨ii⟩⟩=oc at hK⊢;refine am4 ?_;refine K5 (fun j=>∀m Y',db5 s.A C.gb ⟨⟨ii⟩⟩ n oc m->Gr Y Y'->j n (gp b2) m Y') ?_ ?_
 ·intro m Y' hm g;have k2:=g.get h2;have t2:=h.gr g;rw[co8 hm]at hK;refine j0 (E9 (f0 k2) (j0 (E9 (f0 t2.cell) (j0 (E9 (f0 k2) (j0 (C6 (f0 t2.cell) ?_)))))));obtain⟨B0,hF,iu⟩:=t2.fs;refine l5 (bg5 hF _ _ _ ?_);intro Y4 B4 F4 S4;obtain⟨B5,t5,s5⟩:=iu F4 S4;exact C4 (hK Y4 B5 t5 (H1.of_gr g s5))
 ·intro j hj;cases oc with
  |some q=>exact l7 rfl (hj q Y rfl (Gr.refl _))
  |none =>
   refine l9 rfl (j0 (E9 (f0 h2) (l5 (aj5 h n true ?_))));unfold inV
   (refine l6 rfl ?_;try dsimp only)
   refine A5 ?_;intro b34 Y1 g1 e1 n1;refine C1 e1 W5 ?_;intro Y2 p2;have g2:Gr Y Y2:=g1.putF p2 n1;cases h0:(s.A.stat C.gb n true).1==0 with
   |false =>
    refine l9 (by rw[bne,h0];rfl) ?_;rw[co9 h0]at hK;exact hK Y2 B (h.gr g2) (H1.gr g2)
   |true =>
    refine l7 (by rw[bne,h0];rfl) (D1 (f0 p2.same) (j0 (C6 (f0 (g2.get oj)) ?_)));rw[<-I5];cases hx:E8 ⟨⟨ii⟩⟩ (bs [45,120]) with
    |true=>exact l9 rfl (D1 (f0 p2.same) (hj _ Y2 ⟨h0,by rw[hx];rfl⟩ g2))
    |false=>exact l7 rfl (hj _ Y2 ⟨h0,by rw[hx];rfl⟩ g2)
def aU8(C:TlC)(ii:d9)(t:TS)(n:d9):Int×TS:=onA t (t.A.chmodP C.gb ii n)
theorem bQ7{N:Nat}{ii:d9}(h:I4 Y bt C ge y s B)(hO:Off V Y B)(hy:F0 V 1 (u0 (ii::gd)) y)(hc:y.len<=y.cap)(ia:ii≠gq)(Cf:ii.size<=1000000)(hI:Inv s.A/\Bd N s.A)(il:C.nm.size<=1000000)(hl:gd.length<=1000000)(kc:∀n∈gd,n.size<=1000000)
 (hz:(TS.each C.nm (aU8 C ii) gd s).err.size<=1000000000000) {K:KH}
 (hK:∀Y' B' y',I4 Y' bt C ge y' (TS.each C.nm (aU8 C ii) gd s) B'->H1 Y B Y' B'->Inv (TS.each C.nm (aU8 C ii) gd s).A/\Bd N (TS.each C.nm (aU8 C ii) gd s).A->K (.t []) Y'):i7 25 [.q bt] K Y:=by
 refine c25 _ ?_;unfold g25;have hB:B bt:=by obtain⟨_,_,_,_,q⟩:=h;exact(q bt).2 (.inr rfl)
 have lc:=ad9 hy;rw[H4]at lc;refine A5 ?_;intro b2 Y1 g1 e1 n1;have nb:¬B b2:=h.fresh n1;have t1:=h.gr g1;refine E9 (f0 e1) (j0 (ag1 (y:=y) (f0 t1.cell) ?_));obtain⟨g,o,a1,a2,a3⟩:=Z8 (hy.gr (hO.1.trans g1)) (i:=0) (s:=ii) rfl;rw[a1];refine j0 (D0 ⟨by decide,by omega⟩ (C6 a3 ?_));refine A5 ?_;intro b10 Y2 g2 e2 n2;refine C1 e2 U3 ?_;intro Y3 p3;have g3:Gr Y1 Y3:=g2.putF p3 n2;have t3:=t1.gr g3;have nb10:¬B b10:=t1.fresh n2;have k2:=g3.get e1;refine E9 (f0 k2) (E9 (f0 k2) (j0 (ag1 (y:=y) (f0 t3.cell) (D0 ⟨M8,J2 (by decide) (by omega)⟩ (j0 ?_)))));refine C1 t3.cell al4 ?_;intro Y4 p4;have t4:I4 Y4 bt C ge ⟨N6 y.base 1 y.cap 1,y.len-1,y.cap-1⟩ s B:=t3.say (got':=ge) (y':=⟨N6 y.base 1 y.cap 1,y.len-1,y.cap-1⟩) (s':=s) rfl p4;have k24:=p4.get (c:=b2) (fun e=>nb (by rw[e];exact hB)) k2;have k10:Y4 b10=some (.c [.s ii] 9):=p4.get (c:=b10) (fun e=>nb10 (by rw[e];exact hB)) p3.same;have s4:H1 Y B Y4 B:=by
  intro c oc hc hn;exact⟨p4.get (fun e=>hn (e ▸ hB)) ((g1.trans g3).get hc),hn⟩
 have O4:=hO.sep s4;have G1:=aD2 O4.1 k24;have O5:=O4.add k24 nb;have G2:=aD2 O5.1 k10;have O6:=O5.add k10 nb10;have q2:=G2.get (H.put_same V b2 (.c [.q bt] 50));have q10:=H.put_same (V.put b2 (.c [.q bt] 50)) b10 (.c [.s ii] 9);have y4:=((cr7 hy hc).gr G1).gr G2;refine E9 (f0 k24) (l5 (aq2 (P:=fun _ s=>Inv s.A/\Bd N s.A) (do_:=aU8 C ii) y4 hl _ il kc ?_ ?_ ?_ ?_ t4 O6 hI hz ?_))
 ·intro s n;exact aJ2 _ _ _
 ·intro s n;exact A7 _
 ·intro k s n hk _;rw[N7];exact bb3 hk _ _ _
 ·intro n s Y5 B5 k hn _ ll t5 o5 _ K' jg;obtain⟨⟨hw⟩⟩:=ii;exact bD0 t5 (o5.get q2) (o5.2 _ _ q2) hw (fun e=>ia (by rw[e])) Cf (o5.get q10) (o5.2 _ _ q10) n jg
 ·intro Y' B' k t' s' _ rr;exact U9 (hK Y' B' _ t' (s4.trans s') rr)
theorem cp0{N:Nat}(h:I4 Y bt C ge y s B)(hI:Inv s.A/\Bd N s.A)(hN:N<1000000000000)(h2:Y b2=some (ptT bt))(n2:¬B b2)(gk:d9)(oj:Y b10=some (.c [.s gk] 9))(n10:¬B b10)(tq:d9){K:KH}
 (hK:∀Y' B',I4 Y' bt C ge y {s with A:=(s.A.lnP C.gb ge gk tq).2} B'->H1 Y B Y' B'->K (.i (s.A.lnP C.gb ge gk tq).1) Y') :
 D3 Tryz.prog (.func (.func 81) ⟨[]⟩ ⟨[.q b2,.q b10]⟩) [.s tq] K Y:=by
 refine ah9 ch4 (c81 _ _ _ ?_);unfold g81
 have Dh:s.A.lnP C.gb ge gk tq=(let x:=if I8 ge 102&&((s.A.stat C.gb tq false).1==0 && !((s.A.stat C.gb tq false).2.kind==2))then s.A.removeF C.gb tq else(0,s.A)
  if x.1==0 then(if I8 ge 115 then x.2.symlinkF C.gb gk tq else x.2.hardF C.gb gk tq)else x):=rfl
 rw[Dh]at hK;clear Dh;generalize hX:(if I8 ge 102&&((s.A.stat C.gb tq false).1==0 && !((s.A.stat C.gb tq false).2.kind==2))then s.A.removeF C.gb tq else(0,s.A))=X at hK;simp only at hK;refine K5 (fun j=>(X.1==0)=true->∀Y' B',I4 Y' bt C ge y {s with A:=X.2} B'->H1 Y B Y' B'->(Inv X.2/\Bd N X.2)->j tq (gp b2) (gp b10) Y') ?_ ?_
 ·intro x0 Y' B' t' s' i';rw[x0,d8 rfl]at hK;obtain⟨k2,_⟩:=s' b2 _ h2 n2;obtain⟨k10,_⟩:=s' b10 _ oj n10;refine j0 (E9 (f0 k2) (l5 (ao1 t' 115 (H2 ?_))));obtain⟨B0,hF,iu⟩:=t'.fs;cases hg:I8 ge 115 with
  |true =>
   rw[hg,d8 rfl]at hK;refine l9 rfl (j0 (E9 (f0 k2) (j0 (E9 (f0 t'.cell) (j0 (E9 (f0 k2) (j0 (C6 (f0 t'.cell) (j0 (C6 (f0 k10) ?_))))))))));refine l5 (aK4 i'.1 i'.2 (by omega) hF _ _ _ ?_);intro Y4 B4 F4 S4;obtain⟨B5,t5,s5⟩:=iu F4 S4;exact C4 (hK Y4 B5 t5 (s'.trans s5))
  |false =>
   rw[hg,d7 (by simp)]at hK;refine l7 rfl (j0 (E9 (f0 k2) (j0 (E9 (f0 t'.cell) (j0 (E9 (f0 k2) (j0 (C6 (f0 t'.cell) (j0 (C6 (f0 k10) ?_))))))))));refine l5 (cA6 hF _ _ _ ?_);intro Y4 B4 F4 S4;obtain⟨B5,t5,s5⟩:=iu F4 S4;exact C4 (hK Y4 B5 t5 (s'.trans s5))
 ·intro j4 h4;refine j0 (E9 (f0 h2) (l5 (aj5 h tq false ?_)));generalize s.A.stat C.gb tq false=r at hX⊢;obtain⟨e,nd⟩:=r;simp only at hX⊢;unfold inV
  (refine l6 rfl ?_;try dsimp only)
  refine A5 ?_;intro b52 Y1 g1 e1 n1;refine C1 e1 W5 ?_;intro Y2 p3;have g2:Gr Y Y2:=g1.putF p3 n1;have k2:=g2.get h2;have t2:=h.gr g2;have k52:=p3.same;refine K5 (fun j=>∀b:Bool,b=(I8 ge 102&&(e==0 && !(nd.kind==2)))->j tq (gp b2) (gp b10) b Y2) ?_ ?_
  ·intro b hb;rw[<-hb]at hX;cases b with
   |false =>
    rw[d7 (by simp)]at hX;subst hX;exact l7 rfl (h4 rfl Y2 B t2 (H1.gr g2) hI)
   |true =>
    rw[d8 rfl]at hX;subst hX;refine l9 rfl (j0 (E9 (f0 k2) (j0 (E9 (f0 t2.cell) (j0 (E9 (f0 k2) (j0 (C6 (f0 t2.cell) ?_))))))));obtain⟨B0,hF,iu⟩:=t2.fs;refine l5 (aT5 hI.1 hI.2 (by omega) hF _ _ ?_);intro Y4 B4 F4 S4;obtain⟨B5,t5,s5⟩:=iu F4 S4;have jb:=ag8 hI.1 hI.2 (by omega) C.gb tq;refine C4 ?_;cases hz:(s.A.removeF C.gb tq).1==0 with
    |true=>exact l7 (by rw[bne,hz];rfl) (h4 hz Y4 B5 t5 (H1.of_gr g2 s5) ⟨jb.inv,jb.bd⟩)
    |false =>
     rw[hz,d7 (by simp)]at hK;exact l9 (by rw[bne,hz];rfl) (hK Y4 B5 t5 (H1.of_gr g2 s5))
  ·intro j hj;refine j0 (E9 (f0 k2) (l5 (ao1 t2 102 (H2 ?_))));cases hg:I8 ge 102 with
   |false=>exact l7 rfl (hj false (by rw[hg];rfl))
   |true =>
    refine l9 rfl ?_;cases h0:e==0 with
    |false=>exact l7 rfl (hj false (by rw[hg,h0];rfl))
    |true=>exact l9 rfl (D1 (f0 k52) (hj _ (by rw[hg,h0];rfl)))
def lnD(C:TlC)(ge gk:d9)(t:TS)(n:d9):Int×TS:=onA t (t.A.lnP C.gb ge gk n)
theorem cB6{N:Nat}{gk:d9}(h:I4 Y bt C ge y s B)(hO:Off V Y B)(hy:F0 V 1 (u0 (gk::gd)) y)(hc:y.len<=y.cap)(hI:Inv s.A/\Bd N s.A)(hN:N+1000<1000000000000)(il:C.nm.size<=1000000)(hl:gd.length<=1000)(kc:∀n∈gd,n.size<=1000000)
 (hz:(TS.each C.nm (lnD C ge gk) gd s).err.size<=1000000000000) {K:KH}
 (hK:∀Y' B' y',I4 Y' bt C ge y' (TS.each C.nm (lnD C ge gk) gd s) B'->H1 Y B Y' B'->Inv (TS.each C.nm (lnD C ge gk) gd s).A/\Bd (N+1000) (TS.each C.nm (lnD C ge gk) gd s).A->K (.t []) Y'):i7 26 [.q bt] K Y:=by
 refine c26 _ ?_;unfold g26;have hB:B bt:=by obtain⟨_,_,_,_,q⟩:=h;exact(q bt).2 (.inr rfl)
 have lc:=ad9 hy;rw[H4]at lc;refine A5 ?_;intro b2 Y1 g1 e1 n1;have nb:¬B b2:=h.fresh n1;have t1:=h.gr g1;refine E9 (f0 e1) (j0 (ag1 (y:=y) (f0 t1.cell) ?_));obtain⟨g,o,a1,a2,a3⟩:=Z8 (hy.gr (hO.1.trans g1)) (i:=0) (s:=gk) rfl;rw[a1];refine j0 (D0 ⟨by decide,by omega⟩ (C6 a3 ?_));refine A5 ?_;intro b10 Y2 g2 e2 n2;refine C1 e2 U3 ?_;intro Y3 p3;have g3:Gr Y1 Y3:=g2.putF p3 n2;have t3:=t1.gr g3;have nb10:¬B b10:=t1.fresh n2;have k2:=g3.get e1;refine E9 (f0 k2) (E9 (f0 k2) (j0 (ag1 (y:=y) (f0 t3.cell) (D0 ⟨M8,J2 (by decide) (by omega)⟩ (j0 ?_)))));refine C1 t3.cell al4 ?_;intro Y4 p4;have t4:I4 Y4 bt C ge ⟨N6 y.base 1 y.cap 1,y.len-1,y.cap-1⟩ s B:=t3.say (got':=ge) (y':=⟨N6 y.base 1 y.cap 1,y.len-1,y.cap-1⟩) (s':=s) rfl p4;have k24:=p4.get (c:=b2) (fun e=>nb (by rw[e];exact hB)) k2;have k10:Y4 b10=some (.c [.s gk] 9):=p4.get (c:=b10) (fun e=>nb10 (by rw[e];exact hB)) p3.same;have s4:H1 Y B Y4 B:=by
  intro c oc hc hn;exact⟨p4.get (fun e=>hn (e ▸ hB)) ((g1.trans g3).get hc),hn⟩
 have O4:=hO.sep s4;have G1:=aD2 O4.1 k24;have O5:=O4.add k24 nb;have G2:=aD2 O5.1 k10;have O6:=O5.add k10 nb10;have q2:=G2.get (H.put_same V b2 (.c [.q bt] 50));have q10:=H.put_same (V.put b2 (.c [.q bt] 50)) b10 (.c [.s gk] 9);have y4:=((cr7 hy hc).gr G1).gr G2;refine E9 (f0 k24) (l5 (aq2 (P:=fun k s=>Inv s.A/\Bd (N+k) s.A) (do_:=lnD C ge gk) y4 (by omega) _ il kc ?_ ?_ ?_ ?_ t4 O6 hI hz ?_))
 ·intro s n;exact bw9 _ _ _ _
 ·intro s n;exact A7 _
 ·intro k s n hk tg;rw[N7];exact cB5 hk (by omega) _ _ _ _
 ·intro n s Y5 B5 k hn tg ll t5 o5 _ K' jg;exact cp0 t5 ll (by omega) (o5.get q2) (o5.2 _ _ q2) gk (o5.get q10) (o5.2 _ _ q10) n jg
 ·intro Y' B' k t' s' tg rr;exact U9 (hK Y' B' _ t' (s4.trans s') ⟨rr.1,rr.2.mono (by omega)⟩)
end
end
section
def bY2(args:List d9):Bool:=match args with
 |a::_=>E8 a (bs [45,120])
 | []=>false
def ao3(args:List d9):Option (d9×List d9):=if bY2 args then some (gq,args)else ab3 gq args gq
theorem au2(A:AT)(gb:d9)(args:List d9):A.filesP gb Z1 args=match ao3 args with
 |none=>some (ad4 Z1,A)
 |some (ge,gd)=>if L0 Z1 ge gd then some (⟨(doP A Z1 gb ge gd).out,(doP A Z1 gb ge gd).err,(doP A Z1 gb ge gd).st⟩,(doP A Z1 gb ge gd).A)else some (ad4 Z1,A):=by
 unfold AT.filesP;rw[d8 (by decide +kernel)];have h1:E8 Z1 (bs [99,104,109,111,100])=true:=by decide +kernel
 have h2:S0 Z1=gq:=J9.1 (by decide +kernel);rw[h1,h2]
 rfl
theorem cp1{args:List d9}{ge:d9}{gd:List d9}(h:ao3 args=some (ge,gd)):(∀n∈gd,n∈args)/\gd.length<=args.length:=by
 unfold ao3 at h;split at h
 ·simp only[Option.some.injEq,Prod.mk.injEq]at h;rw[<-h.2];exact⟨fun n hn=>hn,A7 _⟩
 ·exact ag3 _ _ _ _ _ h
theorem aK9(ge:d9)(gd:List d9):L0 Z1 ge gd=match gd with
 |ii::_::_=>(av2 ii).isSome||(E8 ii (bs [43,120])||E8 ii (bs [45,120]))
 |_=>false:=by
 unfold L0;rw[d7 (by decide +kernel),d7 (by decide +kernel),d8 (by decide +kernel)]
 match gd with
 | []=>rfl
 | [_]=>rfl
 |_::_::_=>rfl
attribute [local irreducible] i9 E3 A0 I9 l8 H0 C0 stW muW biW W7 imW J0 G8 app E2 J1 D3 E6 oW P0 J5 C9 rfW N5 M9 D5 exW I2 Gr P1
section
variable {Y V:H} {bt:Nat} {C:TlC} {ge:d9} {y:Sl} {s:TS} {B:Nat->Prop} {gd:List d9}
end
theorem cB7(b:Nat):lk Z1 (doL b)=some (.func (.func 25) ⟨[.q b]⟩ ⟨[]⟩):=by
 unfold doL;simp only[lkS];rw[d7 (by decide +kernel),d7 (by decide +kernel),d7 (by decide +kernel),d8 (by decide +kernel)]
theorem cB8(b:Nat):lk cB4 (doL b)=some (.func (.func 24) ⟨[.q b]⟩ ⟨[]⟩):=by
 unfold doL;simp only[lkS];rw[d7 (by decide +kernel),d7 (by decide +kernel),d8 (by decide +kernel)]
theorem db7(b:Nat):lk lnN (doL b)=some (.func (.func 26) ⟨[.q b]⟩ ⟨[]⟩):=by
 unfold doL;simp only[lkS];rw[d7 (by decide +kernel),d7 (by decide +kernel),d7 (by decide +kernel),d7 (by decide +kernel),d8 (by decide +kernel)]
section
variable {Y V:H} {bf:Nat} {A:AT} {B:Nat->Prop} {x:Sl} {args:List d9}
theorem bq8{ge:d9}{gd:List d9}(h:L0 lnN ge gd=true):∃a b,gd=[a,b]:=by
 have h':(gd.length==2)=true:=by
  have e:L0 lnN ge gd=(gd.length==2):=by
   unfold L0;rw[d8 (by decide +kernel)]
  rw[<-e];exact h
 rw[beq_iff_eq]at h'
 match gd,h' with
 | [a,b],_=>exact⟨a,b,rfl⟩
end
end
section
theorem bI3(c:J3):(((c.toNat:Int):Int) != 47)=!(c==47):=by
 by_cases h:c=47
 ·subst h;rfl
 ·have : ¬ ((c.toNat : Int) = 47) := by
   intro e;apply h;have:c.toNat=47:=by omega
   exact UInt8.toNat_inj.1 this
  have h1:(((c.toNat:Int):Int) != 47)=true:=by simpa using this
  have h2:(c==47)=false:=by simpa using h
  rw[h1,h2];rfl
end
section
attribute [local irreducible] i9 E3 A0 I9 l8 H0 C0 stW muW biW W7 imW J0 G8 app E2 J1 D3 E6 oW P0 J5 C9 rfW N5 M9 D5 exW I2 Gr P1
def aj8(es:List (d9×Int)):List (List u9):=(E7 (C5 es)).map fun k=>[.s k,.i ((lk k es).getD 0-1)]
def P9(A:AT)(cb:Int->Nat):List (List u9):=(List.range A.last.toNat).map fun(i:Nat)=>[.p (if(A.get ((i:Int)+1)).isSome then some ⟨cb ((i:Int)+1),0,none⟩else none)]
def upR(n:AN):Int:=if n.kind=2 then n.up-1 else 0
def ak3(n:AN)(y:Sl):Obj:=.c [.i n.kind,.i n.mode,.s n.data,.slice y.base y.len y.cap,.i (upR n)] 78
structure RfM where
 x:Sl
 cb:Int->Nat
 ey:Int->Sl
 w:Nat->Option (Int×Bool)
structure N9(Y:H)(b:Nat)(A:AT)(M:RfM):Prop where
 top:Y b=some (.c [.i A.qi,.i A.qb,.slice M.x.base M.x.len M.x.cap] 74)
 tab:E0 Y 75 1 (P9 A M.cb) M.x
 nod:∀i n,A.get i=some n->Y (M.cb i)=some (ak3 n (M.ey i))
 ent:∀i n,A.get i=some n->E0 Y 140 2 (aj8 n.gj) (M.ey i)
 wb:M.w b=some (0,false)
 wt:∀g,M.x.base=some ⟨g,0,none⟩->M.w g=some (0,true)
 wn:∀i n,A.get i=some n->M.w (M.cb i)=some (i,false)
 we:∀i n g,A.get i=some n->(M.ey i).base=some ⟨g,0,none⟩->M.w g=some (i,true)
 has:∀c,M.w c≠none->Y c≠none
def Z2(Y:H)(b:Nat)(A:AT)(D:Nat->Prop):Prop:=∃M,N9 Y b A M/\∀c,D c↔M.w c≠none
theorem N9.gr{Y Y':H}{b:Nat}{A:AT}{M:RfM}(h:N9 Y b A M)(hg:Gr Y Y'):N9 Y' b A M :=
 ⟨hg.get h.top,h.tab.gr hg,fun i n hn=>hg.get (h.nod i n hn),fun i n hn=>(h.ent i n hn).gr hg,h.wb,h.wt,h.wn,h.we,fun c hc=>by
  have:=h.has c hc;cases ho:Y c with
  |none=>exact m7 ho this
  |some o=>rw[hg.get ho];simp⟩
theorem Z2.gr{Y Y':H}{b:Nat}{A:AT}{D:Nat->Prop}(h:Z2 Y b A D)(hg:Gr Y Y'):Z2 Y' b A D:=by
 obtain⟨M,h1,h2⟩:=h;exact⟨M,h1.gr hg,h2⟩
theorem Z2.fresh{Y:H}{b c:Nat}{A:AT}{D:Nat->Prop}(h:Z2 Y b A D)(hc:Y c=none):¬D c:=by
 obtain⟨M,h1,h2⟩:=h;intro hd;exact h1.has c ((h2 c).1 hd) hc
theorem Z2.has{Y:H}{b c:Nat}{A:AT}{D:Nat->Prop}(h:Z2 Y b A D)(hc:D c):Y c≠none:=by
 obtain⟨M,h1,h2⟩:=h;exact h1.has c ((h2 c).1 hc)
section
variable {Y:H} {b:Nat} {A:AT} {M:RfM}
theorem N9.len(h:N9 Y b A M):M.x.len=A.last.toNat:=by
 have:=h.tab.1;simpa[P9]using this
theorem N9.slot(h:N9 Y b A M)(hI:Inv A){d:Int}{n:AN}(hn:A.get (d+1)=some n):∃g o,M.x.base=some ⟨g,o,none⟩/\(0<=d/\d<((M.x.len:Nat):Int))/\m8 g (o+d.toNat*1) Y=some (.p (some ⟨M.cb (d+1),0,none⟩)):=by
 obtain⟨l1,l2⟩:=hI.low _ _ hn;have hl:=h.len;have hr:(P9 A M.cb)[d.toNat]?=some [.p (some ⟨M.cb (d+1),0,none⟩)]:=by
  unfold P9;rw[Z6,List.getElem?_range (by omega)];have:((d.toNat:Nat):Int)=d:=by omega
  simp[this,hn]
 obtain⟨g,o,h2,h3⟩:=F0.rd h.tab.rows hr (by decide);refine⟨g,o,h2,by omega,?_⟩;obtain⟨h1,h4|⟨g',o',cur,t,fz,q2,q3,q4⟩⟩:=h.tab.rows
 ·rw[h4]at hr;simp at hr
 ·rw[h2]at q2;injection q2 with q2
  injection q2 with e1 e2
  subst e1;subst e2;refine f0 q3 ?_;obtain⟨_,h5⟩:=q4 _ _ hr;have:((cur.drop (o+d.toNat*1)).take 1)[0]?=some (.p (some ⟨M.cb (d+1),0,none⟩)):=by rw[h5];rfl
  rw[List.getElem?_take]at this;simpa using this
theorem cB9(h:N9 Y b A M)(hI:Inv A){d:Int}{n:AN}(hn:A.get (d+1)=some n){F:m9->H->Prop}(hF:F (some ⟨M.cb (d+1),0,none⟩) Y) :
 i9 (gp b) (fun(b4 o5:Nat)=>l8 (m8 b4 (o5+2)) kL (fun(x6:Sl)=>i9 x6.base (fun(b7 o8:Nat)=>E3 (0<=d/\d<((x6.len:Nat):Int)) (l8 (m8 b7 (o8+d.toNat*1)) kP F)))) Y:=by
 obtain⟨g,o,h1,h2,h3⟩:=h.slot hI hn;refine j0 (U6 (f0 h.top) ?_);rw[h1];exact j0 (D0 h2 (E9 h3 hF))
theorem af0(h:N9 Y b A M)(hI:Inv A){d:Int}{n:AN}(hn:A.get (d+1)=some n){F:Nat->Nat->H->Prop}(hF:F (M.cb (d+1)) 0 Y) :
 i9 (gp b) (fun(b4 o5:Nat)=>l8 (m8 b4 (o5+2)) kL (fun(x6:Sl)=>i9 x6.base (fun(b7 o8:Nat)=>E3 (0<=d/\d<((x6.len:Nat):Int)) (l8 (m8 b7 (o8+d.toNat*1)) kP (fun x9=>i9 x9 F))))) Y :=
 cB9 h hI hn (j0 hF)
def ct7(o:Option Int):Int:=(o.map (· - 1)).getD (-1)
theorem av8{es:List (d9×Int)}{y:Sl}(h:E0 Y 140 2 (aj8 es) y){i:Nat}{k:d9}(hk:(E7 (C5 es))[i]?=some k):∃g o,y.base=some ⟨g,o,none⟩/\m8 g (o+i*2) Y=some (.s k)/\m8 g (o+i*2+1) Y=some (.i ((lk k es).getD 0-1))/\rdA 2 g (o+i*2) Y=some (.g [.s k,.i ((lk k es).getD 0-1)]):=by
 have hr:(aj8 es)[i]?=some [.s k,.i ((lk k es).getD 0-1)]:=by unfold aj8;rw[Z6,hk];rfl
 obtain⟨g,o,h2,h3⟩:=F0.rd h.rows hr (by decide);refine⟨g,o,h2,?_,?_,h3⟩
 all_goals
  obtain⟨h1,h4|⟨g',o',cur,t,fz,q2,q3,q4⟩⟩:=h.rows
  ·rw[h4]at hr;simp at hr
  ·rw[h2]at q2;injection q2 with q2
   injection q2 with e1 e2
   subst e1;subst e2;refine f0 q3 ?_;obtain⟨_,h5⟩:=q4 _ _ hr
   first
    | (have : ((cur.drop (o + i * 2)).take 2)[0]? = some (.s k) := by rw [h5]; rfl
       rw[List.getElem?_take]at this
       simpa using this)
    | (have : ((cur.drop (o + i * 2)).take 2)[1]? = some (.i ((lk k es).getD 0 - 1)) := by rw [h5]; rfl
       rw[List.getElem?_take]at this
       simpa[Nat.add_assoc]using this)
theorem ch5(h:N9 Y b A M)(hI:Inv A){N:Nat}(hB:Bd N A)(hN:N<=1000000000000){d:Int}{n:AN}(hn:A.get (d+1)=some n)(gu:d9){K:KH}(hK:K (.i (ct7 (A.find (d+1) gu))) Y) :
 i7 205 [.q b,.i d,.s gu] K Y:=by
 refine dx2 _ _ _ ?_;unfold cX3;have hf:A.find (d+1) gu=lk gu n.gj:=by unfold AT.find;rw[hn];rfl
 rw[hf]at hK;refine af0 h hI hn (U6 (f0 (h.nod _ _ hn)) (H9 ?_));intro R hR;have he:=h.ent _ _ hn;have ib:(M.ey (d+1)).len=(E7 (C5 n.gj)).length:=by have:=he.1;simpa[aj8]using this
 have qx:(E7 (C5 n.gj)).length<=N:=by
  rw[(I7 _).length_eq];have:=hB.gj _ _ hn;simpa[C5]using this
 have key:∀ (c i:Nat),c+i=(E7 (C5 n.gj)).length->gu∉(E7 (C5 n.gj)).take i->R gu (M.ey (d+1)) (i:Int) Y:=by
  intro c
  induction c with
  |zero =>
   intro i hc kg;refine hR _ _ _ _ ?_;refine l7 (W4 (by omega)) ?_;have:lk gu n.gj=none:=by
    rw[M4];intro hm;apply kg;rw[show i=(E7 (C5 n.gj)).length from by omega,as5];exact(I7 _).mem_iff.2 hm
   rw[this]at hK;exact hK
  |succ c ih =>
   intro i hc kg;refine hR _ _ _ _ ?_;refine l9 (M7 (by omega)) ?_;obtain⟨k,hk⟩:∃k,(E7 (C5 n.gj))[i]?=some k:=⟨_,G0 (by omega)⟩;obtain⟨g,o,q1,q2,q3,_⟩:=av8 he hk;rw[q1];have e0:(i:Int).toNat=i:=by omega
   refine j0 (D0 ⟨by omega,by omega⟩ (C6 (by rw[e0];exact q2) ?_));by_cases rb:k=gu
   ·subst rb;refine l9 (Z3.2 rfl) (j0 (D0 ⟨by omega,by omega⟩ (D1 (by rw[e0];exact q3) ?_)));have hm:k∈C5 n.gj:=(I7 _).mem_iff.1 (K7 hk);cases hl:lk k n.gj with
    |none=>exact m7 hm (M4.1 hl)
    |some v=>rw[hl]at hK;exact hK
   ·refine l7 (by rw[Bool.eq_false_iff];intro e;exact rb (Z3.1 e)) ?_;rw[D7 (x:=(i:Int)+1) (by omega) (by omega)];refine ih (i+1) (by omega) ?_;rw[R1,hk];simp only[Option.toList_some,Q4,T9,not_or];exact⟨kg,fun e=>rb e.symm⟩
 exact key _ 0 (by omega) (by simp)
theorem bq9(h:N9 Y b A M)(hI:Inv A){d:Int}(hd:A.isDir (d+1)){x:Int}(hx:A.deep 13 (d+1)=some x){K:KH}(hK:K (.i x) Y):i7 58 [.q b,.i d] K Y:=by
 refine c58 _ _ ?_;unfold g58;refine H9 ?_;intro R hR;have key:∀ (f:Nat) (d c y:Int),f<=13->A.isDir (d+1)->A.deep f (d+1)=some y->c+y-1=x->0<=c->c+f<=14->R (gp b) d c Y:=by
  intro f
  induction f with
  |zero=>intro d c y _ _ h;simp[AT.deep]at h
  |succ f ih =>
   intro d c y hf hd hy hc h0 h1;refine hR _ _ _ _ ?_;rw[AT.deep]at hy;by_cases e:d=0
   ·subst e;rw[d8 (show(0:Int)+1=1 from rfl)]at hy;have:y=1:=(Option.some.inj hy).symm;refine l7 rfl ?_;rw[show c=x from by omega];exact hK
   ·rw[d7 (by omega)]at hy;obtain⟨n,hn,hk⟩:=hd;have hu:A.upOf (d+1)=n.up:=by unfold AT.upOf;rw[hn];rfl
    have yx:=hI.isDir_up ⟨n,hn,hk⟩;rw[hu]at hy yx;cases pq:A.deep f n.up with
    |none=>rw[pq]at hy;cases hy
    |some y' =>
     rw[pq]at hy;have hy2:y=y'+1:=(Option.some.inj hy).symm;refine l9 (by simpa using e) (af0 h hI hn (D1 (f0 (h.nod _ _ hn)) ?_));rw[D7 (x:=c+1) (by omega) (by omega)];have iu:upR n=n.up-1:=by unfold upR;rw[d8 hk]
     rw[iu];exact ih (n.up-1) (c+1) y' (by omega) (by rw[show n.up-1+1=n.up from by omega];exact yx) (by rw[show n.up-1+1=n.up from by omega];exact pq) (by omega) (by omega) (by omega)
 exact key 13 d 1 x (by omega) hd hx (by omega) (by omega) (by omega)
theorem I1:E6 Tryz.prog 95=some 3:=by kernel_rfl
def plV(p:Pl):List u9:=[.i (p.gh-1),.s p.gu,.i (if p.there then p.gf-1 else -1)]
def plZ:List u9:=[.i 0,.s gq,.i 0]
theorem ch6(h:N9 Y b A M)(hI:Inv A){N:Nat}(hB:Bd N A)(hN:N<=1000000000000){d:Int}{n:AN}(hn:A.get (d+1)=some n)(gu:d9){K:KH}
 (hK:∀Y',Gr Y Y'->K (if A.kind (d+1)≠2 then .t [.agg ⟨plZ⟩,.i 8]else if E8 gu (bs [46,46])=true then .t [.agg ⟨plV ⟨A.upOf (d+1),gq,A.upOf (d+1),true⟩⟩,.i 0]else if gu.size>56 then .t [.agg ⟨plZ⟩,.i 3]else .t [.agg ⟨plV ⟨d+1,gu,(A.find (d+1) gu).getD 0,(A.find (d+1) gu).isSome⟩⟩,.i 0]) Y') :
 i7 168 [.q b,.i d,.s gu] K Y:=by
 refine dv6 _ _ _ ?_;unfold cT3;refine A5 ?_;intro b4 Y1 g1 e1 n1;have h1:=h.gr g1;have hk:A.kind (d+1)=n.kind:=by unfold AT.kind;rw[hn];rfl
 have hu:A.upOf (d+1)=n.up:=by unfold AT.upOf;rw[hn];rfl
 rw[hk,hu]at hK;refine af0 h1 hI hn (D1 (f0 (h1.nod _ _ hn)) ?_);by_cases c1:n.kind=2
 ·refine l7 (by simpa using c1) ?_;rw[d7 (by simpa using c1)]at hK;have iu:upR n=n.up-1:=by unfold upR;rw[d8 c1]
  by_cases c2:E8 gu (bs [46,46])=true
  ·rw[d8 c2]at hK;refine l9 (by rw[<-I5];exact c2) ?_;refine af0 h1 hI hn (D1 (f0 (h1.nod _ _ hn)) ?_);refine af0 h1 hI hn (D1 (f0 (h1.nod _ _ hn)) ?_);refine C1 e1 I1 ?_;intro Y2 p2;refine N8 (D4 p2.same) ?_
   (refine l6 rfl ?_;try dsimp only)
   rw[iu];exact hK Y2 (g1.putF p2 n1)
  ·rw[d7 c2]at hK;refine l7 (by rw[<-I5];simpa using c2) ?_;by_cases c3:gu.size>56
   ·rw[d8 c3]at hK;refine l9 (M7 (by omega)) ?_;refine C1 e1 I1 ?_;intro Y2 p2;refine N8 (D4 p2.same) ?_
    (refine l6 rfl ?_;try dsimp only)
    exact hK Y2 (g1.putF p2 n1)
   ·rw[d7 c3]at hK;refine l7 (W4 (by omega)) (l5 (ch5 h1 hI hB hN hn gu (C4 ?_)));refine C1 e1 I1 ?_;intro Y2 p2;refine N8 (D4 p2.same) ?_
    (refine l6 rfl ?_;try dsimp only)
    have:=hK Y2 (g1.putF p2 n1);have e2:d+1-1=d:=by omega
    have e3:(if(A.find (d+1) gu).isSome then(A.find (d+1) gu).getD 0-1 else -1)=ct7 (A.find (d+1) gu):=by
     cases A.find (d+1) gu<;>rfl
    unfold plV at this;simp only[e2,e3]at this;exact this
 ·refine l9 (by simpa using c1) ?_;rw[d8 (by simpa using c1)]at hK;refine C1 e1 I1 ?_;intro Y2 p2;refine N8 (D4 p2.same) ?_
  (refine l6 rfl ?_;try dsimp only)
  exact hK Y2 (g1.putF p2 n1)
end
theorem ch7:Tryz.prog.underlying 30=some (.slice 9):=by kernel_rfl
theorem bQ8:∃i,Tryz.prog.info? 9=some i/\i.zero=some (.s gq)/\i.size=1/\i.bytes=16:=by
 have h1:(Tryz.prog.info? 9).map (fun i=>(i.zero,i.size,i.bytes))=some (some (.s gq),1,16):=by kernel_rfl
 cases hi:Tryz.prog.info? 9 with
 |none=>rw[hi]at h1;cases h1
 |some i =>
  rw[hi]at h1;simp only[Option.map_some,Option.some.injEq,Prod.mk.injEq]at h1;exact⟨i,rfl,h1.1,h1.2.1,h1.2.2⟩
def aH5(l:List d9):List (List u9):=l.map fun s=>[.s s]
def af6(Y0 Y:H)(l:List d9)(y:Sl):Prop:=Gr Y0 Y/\E0 Y 9 1 (aH5 l) y/\∀g,y.base=some ⟨g,0,none⟩->Y0 g=none
theorem bh3{Y0 Y:H}{l:List d9}{y:Sl}{s:d9}{ty:TypeId}{cs:List Bool}(h:af6 Y0 Y l y)(hl:l.length<1000000000){F:Sl->H->Prop}(hF:∀y' Y',af6 Y0 Y' (l++[s]) y'->F y' Y') :
 H0 (.c [.s s] 9) (fun(b48:Nat)=>ac9 .append #[30,30] ty cs [.slice y.base y.len y.cap,.slice (gp b48) 1 1] kL F) Y:=by
 obtain⟨h1,h2,h3⟩:=h;refine A5 ?_;intro b48 Y1 g1 e1 n1;obtain⟨i,i1,i2,i3,i4⟩:=bQ8;refine ax4 ch7 i1 i2 i3 i4 rfl (by decide) (h2.gr g1) e1 rfl (by intro u hu;simp at hu;subst hu;rfl) (by simpa[aH5]using hl) (by decide) ?_;intro y' Y' pq gw;refine hF y' Y' ⟨?_,by simpa[aH5]using pq,?_⟩
 ·rcases gw with⟨g,o,q1,q2,q3⟩|⟨g,q1,q2,q3⟩
  ·exact(h1.trans g1).putF q3 (h3 g q1)
  ·exact(h1.trans g1).trans q3
 ·intro g hg;rcases gw with⟨g',o,q1,q2,q3⟩|⟨g',q1,q2,q3⟩
  ·rw[q2]at hg;exact h3 g hg
  ·rw[q1]at hg;injection hg with hg
   injection hg with hg
   subst hg;exact A9 (h1.trans g1) q2
theorem ch8{l:List J3}{i:Nat}{c:J3}(h:l[i]?=some c)(f:Nat)(hf:f<=i):(l.drop f).take (i+1-f)=(l.drop f).take (i-f)++[c]:=by
 rw[show i+1-f=(i-f)+1 from by omega,R1]
 congr 1
 rw[List.getElem?_drop,show f+(i-f)=i from by omega,h];rfl
def okP(s:d9):List d9:=if S8 s then [s]else []
theorem bD2{l a b:List J3}(hl:l=a++47::b)(ha:(47:J3)∉a):((P6 47 l).map fun l=>(⟨⟨l⟩⟩:d9)).filter S8=okP ⟨⟨a⟩⟩++((P6 47 b).map fun l=>(⟨⟨l⟩⟩:d9)).filter S8:=by
 rw[hl,aM3 ha];simp only[H5,List.filter_cons,okP];split<;>simp
theorem bQ9{l:List J3}(ha:(47:J3)∉l):((P6 47 l).map fun l=>(⟨⟨l⟩⟩:d9)).filter S8=okP ⟨⟨l⟩⟩:=by
 rw[ax7 ha];simp only[H5,List.map_nil,List.filter_cons,okP,List.filter_nil]
theorem bR0(gc:d9)(hz:gc.size<=1000000){Y:H}{K:KH}(hK:∀y Y',af6 Y Y' (N1 gc) y->K (.slice y.base y.len y.cap) Y'):i7 167 [.s gc] K Y:=by
 refine dv5 _ ?_;unfold cT1;have ib:gc.data.toList.length=gc.size:=(ah5 gc).symm;refine H9 ?_;intro R hR;have fin:∀ (y:Sl) (f:Int) (V:H),af6 Y V (N1 gc) y->R gc y f ((gc.size+1:Nat):Int) V:=by
  intro y f V h;refine hR _ _ _ _ _ ?_;exact l7 (W4 (by omega)) (hK y V h)
 have key:∀ (c i f:Nat) (out:List d9) (y:Sl) (V:H),c+i=gc.size->f<=i->out.length<=i->af6 Y V out y->(47:J3)∉(gc.data.toList.drop f).take (i-f)->out++((P6 47 (gc.data.toList.drop f)).map fun l=>(⟨⟨l⟩⟩:d9)).filter S8=N1 gc->R gc y (f:Int) (i:Int) V:=by
  intro c
  induction c with
  |zero =>
   intro i f out y V hc hf hol hS kg hp;have hi:i=gc.size:=by omega
   refine hR _ _ _ _ _ ?_;refine l9 (M7 (by omega)) ?_;refine K5 (fun j=>∀y' V' v1 v2 v3 v4,af6 Y V' (N1 gc) y'->j gc y' (((gc.size+1:Nat)):Int) (i:Int) v1 v2 v3 v4 V') ?_ ?_
   ·intro y' V' v1 v2 v3 v4 h;rw[D7 (x:=(i:Int)+1) (by omega) (by omega)];rw[show(i:Int)+1=((gc.size+1:Nat):Int)from by omega];exact fin y' _ V' h
   intro j7 hj7;refine K5 (fun j=>∀v1 v2 v3 v4,j gc y (f:Int) (i:Int) v1 v2 v3 v4 false V) ?_ ?_
   case refine_2 =>
    intro j hj;exact l7 (W4 (by omega)) (hj _ _ _ _)
   intro v1 v2 v3 v4;have e0:(i:Int).toNat=i:=by omega
   have e1:(f:Int).toNat=f:=by omega
   refine l7 rfl (D0 ⟨J2 (by omega) (by omega),J2 (by omega) (by omega)⟩ ?_);rw[e0,e1];have sb:gc.extract f i=⟨⟨gc.data.toList.drop f⟩⟩:=by
    apply W9;rw[aa8,hi,<- ib,as5]
   rw[sb];have Ft:(gc.data.toList.drop f).take (i-f)=gc.data.toList.drop f:=by
    rw[Q1];rw[X1];omega
   rw[Ft]at kg;rw[bQ9 kg]at hp;generalize (⟨⟨gc.data.toList.drop f⟩⟩:d9)=s at hp;refine K5 (fun j=>∀y' V' v1 v2 v3 v4 v5 v6,af6 Y V' (N1 gc) y'->j gc y' (i:Int) v1 v2 v3 v4 v5 v6 V') ?_ ?_
   ·intro y' V' v1 v2 v3 v4 v5 v6 h;rw[D7 (x:=(i:Int)+1) (by omega) (by omega)];rw[show(i:Int)+1=((gc.size+1:Nat):Int)from by omega];exact hj7 _ _ _ _ _ _ h
   intro j26 tj;refine K5 (fun j=>∀v1 v2 v3 v4 v5 v6,j gc y (i:Int) s v1 v2 v3 v4 v5 v6 (S8 s) V) ?_ ?_
   ·intro v1 v2 v3 v4 v5 v6;unfold okP at hp;cases ho:S8 s with
    |true =>
     rw[ho]at hp;refine l9 rfl (bh3 hS (by omega) ?_);intro y' Y' h';rw[show out++[s]=N1 gc from hp]at h';exact tj _ _ _ _ _ _ _ _ h'
    |false =>
     rw[ho]at hp;have hp:out=N1 gc:=by simpa using hp
     rw[hp]at hS;exact l7 rfl (tj _ _ _ _ _ _ _ _ hS)
   ·intro j36 wg;have ho:S8 s=(!C3 s gq && !C3 s (bs [46])):=by unfold S8;rw[I5,I5]
    cases ud:C3 s gq with
    |true =>
     have:=wg v1 v2 v3 v4 (.t []) (.t []);rw[ho,ud]at this;exact l7 rfl this
    |false =>
     have:=fun a b=>wg v1 v2 v3 v4 a b;rw[ho,ud]at this;exact l9 rfl (this _ _)
  |succ c ih =>
   intro i f out y V hc hf hol hS kg hp;refine hR _ _ _ _ _ ?_;refine l9 (M7 (by omega)) ?_;obtain⟨ch,pc⟩:∃ch,gc.data.toList[i]?=some ch:=⟨_,G0 (by omega)⟩;refine K5 (fun j=>∀ (f':Nat) out' y' V' v1 v2 v3 v4,f'<=i+1->out'.length<=i+1->af6 Y V' out' y'->(47:J3)∉(gc.data.toList.drop f').take (i+1-f')->out'++((P6 47 (gc.data.toList.drop f')).map fun l=>(⟨⟨l⟩⟩:d9)).filter S8=N1 gc->j gc y' (f':Int) (i:Int) v1 v2 v3 v4 V') ?_ ?_
   ·intro f' out' y' V' v1 v2 v3 v4 a1 a2 a3 a4 a5;rw[D7 (x:=(i:Int)+1) (by omega) (by omega)];rw[show(i:Int)+1=((i+1:Nat):Int)from by omega];exact ih (i+1) f' out' y' V' (by omega) a1 a2 a3 a4 a5
   intro j7 hj7;refine K5 (fun j=>∀v1 v2 v3 v4,j gc y (f:Int) (i:Int) v1 v2 v3 v4 (((ch.toNat:Int):Int) != 47) V) ?_ ?_
   case refine_2 =>
    intro j hj;refine l9 (M7 (by omega)) (X9 (c:=ch) (by omega) (by simpa using pc) ?_);exact hj _ _ _ _
   intro v1 v2 v3 v4;by_cases qk:ch=47
   ·subst qk;have e0:(i:Int).toNat=i:=by omega
    have e1:(f:Int).toNat=f:=by omega
    refine l7 (by decide) (D0 ⟨J2 (by omega) (by omega),J2 (by omega) (by omega)⟩ ?_);rw[e0,e1];have xk:gc.data.toList.drop f=(gc.data.toList.drop f).take (i-f)++47::gc.data.toList.drop (i+1):=by
     have h1:(gc.data.toList.drop f).drop (i-f)=47::gc.data.toList.drop (i+1):=by
      rw[List.drop_drop,show f+(i-f)=i from by omega,as4 (by omega)];rw[G0 (by omega)]at pc;rw[Option.some.inj pc]
     conv=>lhs;rw[<-List.take_append_drop (i-f) (gc.data.toList.drop f),h1]
    have sb:gc.extract f i=⟨⟨(gc.data.toList.drop f).take (i-f)⟩⟩:=by
     apply W9;rw[aa8];simp[List.drop_take]
    rw[sb];rw[bD2 xk kg]at hp;generalize (⟨⟨(gc.data.toList.drop f).take (i-f)⟩⟩:d9)=s at hp;have hol2:(okP s).length<=1:=by unfold okP;split<;>simp
    refine K5 (fun j=>∀y' V' v1 v2 v3 v4 v5 v6,af6 Y V' (out++okP s) y'->j gc y' (i:Int) v1 v2 v3 v4 v5 v6 V') ?_ ?_
    ·intro y' V' v1 v2 v3 v4 v5 v6 h;rw[D7 (x:=(i:Int)+1) (by omega) (by omega)];have:=hj7 (i+1) (out++okP s) y' V' v1 v2 v3 v4 (by omega) (by rw[P3];omega) h (by simp) (by rw[U7];exact hp);rw[show(i:Int)+1=((i+1:Nat):Int)from by omega];exact this
    intro j26 tj;refine K5 (fun j=>∀v1 v2 v3 v4 v5 v6,j gc y (i:Int) s v1 v2 v3 v4 v5 v6 (S8 s) V) ?_ ?_
    ·intro v1 v2 v3 v4 v5 v6;cases ho:S8 s with
     |true =>
      refine l9 rfl (bh3 hS (by omega) ?_);intro y' Y' h';exact tj _ _ _ _ _ _ _ _ (by unfold okP;rw[ho];exact h')
     |false =>
      refine l7 rfl (tj _ _ _ _ _ _ _ _ (by unfold okP;rw[ho];simpa using hS))
    ·intro j36 wg;have ho:S8 s=(!C3 s gq && !C3 s (bs [46])):=by unfold S8;rw[I5,I5]
     cases ud:C3 s gq with
     |true =>
      have:=wg v1 v2 v3 v4 (.t []) (.t []);rw[ho,ud]at this;exact l7 rfl this
     |false =>
      have:=fun a b=>wg v1 v2 v3 v4 a b;rw[ho,ud]at this;exact l9 rfl (this _ _)
   ·have ia : ¬ ((ch.toNat : Int) = 47) := by
     intro e;apply qk;have:ch.toNat=47:=by omega
     exact UInt8.toNat_inj.1 this
    refine l9 (by simpa using ia) ?_;refine hj7 f out y V _ _ _ _ (by omega) (by omega) hS ?_ hp;rw[ch8 pc f hf];simp only[Q4,T9,not_or];exact⟨kg,fun e=>qk e.symm⟩
 exact key gc.size 0 0 [] ⟨none,0,0⟩ Y (by omega) (by omega) (by simp) ⟨Gr.refl _,E0.nil _ _ _,by intro g h;cases h⟩ (by simp) (by simp[N1])
theorem N9.keep{Y Y':H}{b:Nat}{A:AT}{M:RfM}(h:N9 Y b A M)(hk:∀c o,Y c=some o->M.w c≠none->Y' c=some o):N9 Y' b A M:=by
 have hw:∀c r,M.w c=some r->M.w c≠none:=fun c r e=>by rw[e];simp
 refine⟨hk _ _ h.top (hw _ _ h.wb),h.tab.keep fun g o hx hg=>hk g o hg (hw _ _ (h.wt g hx)),fun i n hn=>hk _ _ (h.nod i n hn) (hw _ _ (h.wn i n hn)),fun i n hn=>(h.ent i n hn).keep fun g o hx hg=>hk g o hg (hw _ _ (h.we i n g hn hx)),h.wb,h.wt,h.wn,h.we,fun c hc=>?_⟩;have:=h.has c hc;cases ho:Y c with
 |none=>exact m7 ho this
 |some o=>rw[hk c o ho hc];simp
def But(bh:Nat)(Y Y':H):Prop:=∀c o,Y c=some o->c≠bh->Y' c=some o
theorem But.of_gr{bh:Nat}{Y Y':H}(h:Gr Y Y'):But bh Y Y':=fun _ _ hc _=>h.get hc
theorem But.trans{bh:Nat}{Y Y' Y'':H}(h:But bh Y Y')(k:But bh Y' Y''):But bh Y Y'':=fun c o hc hn=>k c o (h c o hc hn) hn
theorem But.put{bh b:Nat}{o:Obj}{Y Y' Y'':H}(h:But bh Y Y')(hp:P1 Y' b o Y'')(hn:Y b=none):But bh Y Y'':=fun c o hc ia=>hp.get (fun e=>by rw[e,hn]at hc;cases hc) (h c o hc ia)
theorem But.puth{bh:Nat}{o:Obj}{Y Y' Y'':H}(h:But bh Y Y')(hp:P1 Y' bh o Y''):But bh Y Y'':=fun c o hc ia=>hp.get ia (h c o hc ia)
theorem N9.but{bh:Nat}{Y Y':H}{b:Nat}{A:AT}{M:RfM}(h:N9 Y b A M)(hw:M.w bh=none)(hb:But bh Y Y'):N9 Y' b A M:=h.keep fun c o hc hwc=>hb c o hc (fun e=>hwc (by rw[e];exact hw))
theorem ak9{V:H}{b6:Nat}{l:List u9}{x z e:Int}{s:d9}(h6:V b6=some (.cells ⟨l⟩ 95 (0,0)))(hl:l.length=3){K:KH}(hK:∀V' o,P1 V b6 o V'->K (.t [.g [.i x,.s s,.i z],.i e]) V') :
 A3 95 (.q b6) (.g [.i x,.s s,.i z]) (i9 (gp b6) (fun(b22 o23:Nat)=>l8 (rdA 3 b22 o23) (.one (.agg [(.int .i64),.str,(.int .i64)])) (fun(r24:Int) (r25:d9) (r26:Int)=>K (.t [.g [.i r24,.s r25,.i r26],.i e])))) V:=by
 match l,hl with
 | [l0,l1,l2],_ =>
  refine C1 h6 I1 ?_;intro V' p;refine j0 (N8 (D4 p.same) ?_)
  (refine l6 rfl ?_;try dsimp only)
  exact hK V' _ p
theorem cp2{V:H}{L:List d9}{y:Sl}(h:E0 V 9 1 (aH5 L) y){i:Nat}{s:d9}(hi:L[i]?=some s):∃g o,y.base=some ⟨g,o,none⟩/\m8 g (o+i*1) V=some (.s s):=by
 have hr:(aH5 L)[i]?=some [.s s]:=by unfold aH5;rw[Z6,hi];rfl
 obtain⟨h1,h2|⟨g,o,cur,t,fz,h2,h3,h4⟩⟩:=h.rows
 ·rw[h2]at hr;simp at hr
 ·refine⟨g,o,h2,f0 h3 ?_⟩;obtain⟨_,h5⟩:=h4 i _ hr;have:((cur.drop (o+i*1)).take 1)[0]?=some (.s s):=by rw[h5];rfl
  rw[List.getElem?_take]at this;simpa using this
theorem bR1(l:List J3):(P6 47 l).length<=l.length+1:=by
 induction l with
 |nil=>simp[P6]
 |cons x r ih =>
  unfold P6;cases (x==47) with
  |true=>simp;exact ih
  |false =>
   cases h:P6 47 r with
   |nil=>simp
   |cons a t=>rw[h]at ih;simp at ih⊢;omega
theorem bR2(gc:d9):(N1 gc).length<=gc.size+1:=by
 unfold N1;refine C7 (List.length_filter_le ..) ?_;rw[Q0,ah5];exact bR1 _
def cp3(A:AT)(p:Pl):Prop:=p.there=true->∃n,A.get p.gf=some n
def plR(r:Int×Pl×Int):List u9:=if r.1=0 then plV r.2.1 else plZ
section
variable {A:AT} {N:Nat}
theorem bR3(hI:Wk.Inv A){f:Nat}{fo:Bool}{gu:d9}{rest:List d9}{p:Pl}{h':Int}{r:Int×Pl×Int}{n:AN}(ht:p.there=true)(hn:A.get p.gf=some n)
 (hr:A.steps (fun d s x=>A.walk f d s true x) fo (gu::rest) p h'=r) :
 (∃e:Int,e≠0/\(if A.kind p.gf≠2 then Value.tuple ⟨[.agg ⟨plZ⟩,.i 8]⟩else if E8 gu (bs [46,46])=true then .t [.agg ⟨plV ⟨A.upOf p.gf,gq,A.upOf p.gf,true⟩⟩,.i 0]else if gu.size>56 then .t [.agg ⟨plZ⟩,.i 3]else .t [.agg ⟨plV ⟨p.gf,gu,(A.find p.gf gu).getD 0,(A.find p.gf gu).isSome⟩⟩,.i 0])=.t [.agg ⟨plZ⟩,.i e]/\r=(e,Pl.z,h')) \/
 ∃q:Pl,(if A.kind p.gf≠2 then Value.tuple ⟨[.agg ⟨plZ⟩,.i 8]⟩else if E8 gu (bs [46,46])=true then .t [.agg ⟨plV ⟨A.upOf p.gf,gq,A.upOf p.gf,true⟩⟩,.i 0]else if gu.size>56 then .t [.agg ⟨plZ⟩,.i 3]else .t [.agg ⟨plV ⟨p.gf,gu,(A.find p.gf gu).getD 0,(A.find p.gf gu).isSome⟩⟩,.i 0])=.t [.agg ⟨plV q⟩,.i 0]/\cp3 A q /\
  ((((!rest.isEmpty)||fo)&&(q.there&&(A.kind q.gf==3)))=false->A.steps (fun d s x=>A.walk f d s true x) fo rest q h'=r) /\
  ((((!rest.isEmpty)||fo)&&(q.there&&(A.kind q.gf==3)))=true->A.isDir q.gh/\((h'-1<0->r=(9,Pl.z,h'-1))/\(¬h'-1<0->((A.walk f q.gh (A.data q.gf) true (h'-1)).1≠0->r=((A.walk f q.gh (A.data q.gf) true (h'-1)).1,Pl.z,(A.walk f q.gh (A.data q.gf) true (h'-1)).2.2))/\((A.walk f q.gh (A.data q.gf) true (h'-1)).1=0->A.steps (fun d s x=>A.walk f d s true x) fo rest (A.walk f q.gh (A.data q.gf) true (h'-1)).2.1 (A.walk f q.gh (A.data q.gf) true (h'-1)).2.2=r)))):=by
 by_cases h2:A.kind p.gf=2
 case neg=>exact .inl ⟨8,by decide,by rw[d8 h2],by rw[<-hr,ai8 ht h2]⟩
 have hd:=ai9 h2;rw[d7 (by simpa using h2)];cases h3:E8 gu (bs [46,46]) with
 |true =>
  refine .inr ⟨⟨A.upOf p.gf,gq,A.upOf p.gf,true⟩,by rw[d8 rfl],?_,?_,?_⟩
  ·intro _;obtain⟨m,hm,_⟩:=hI.isDir_up hd;exact⟨m,hm⟩
  ·intro _;rw[<-hr,ax8 ht h2 h3]
  ·intro hc;have:A.kind (A.upOf p.gf)=2:=al8 (hI.isDir_up hd);simp[this]at hc
 |false =>
  rw[d7 (by decide)];by_cases h4:gu.size>56
  ·exact .inl ⟨3,by decide,by rw[d8 h4],by rw[<-hr,ap2 ht h2 h3 h4]⟩
  rw[d7 h4];refine .inr ⟨⟨p.gf,gu,(A.find p.gf gu).getD 0,(A.find p.gf gu).isSome⟩,rfl,?_,?_,?_⟩
  ·intro hs;obtain⟨j,hj⟩:=Option.isSome_iff_exists.1 hs;obtain⟨_,_,_,_,_,m,hm,_⟩:=hI.find hj;exact⟨m,by rw[hj];exact hm⟩
  ·intro hc;have h5:(A.find p.gf gu).isSome=false\/(rest.isEmpty && !fo)=true\/A.kind ((A.find p.gf gu).getD 0)≠3:=by
    cases c1:(A.find p.gf gu).isSome with
    |false=>exact .inl rfl
    |true =>
     by_cases c3:A.kind ((A.find p.gf gu).getD 0)=3
     ·refine .inr (.inl ?_);simp only[c1,c3,beq_self_eq_true,Bool.and_true]at hc;cases c4:rest.isEmpty<;>cases c5:fo<;>simp[c4,c5]at hc⊢
     ·exact .inr (.inr c3)
   rw[<-hr,ab5 ht h2 h3 h4 h5]
  ·intro hc;have h5 : ¬ ((A.find p.gf gu).isSome=false\/(rest.isEmpty && !fo)=true\/A.kind ((A.find p.gf gu).getD 0)≠3):=by
    simp only[J4,Bool.or_eq_true,Bool.not_eq_true',beq_iff_eq]at hc;obtain⟨q1,q2,q3⟩:=hc
    rintro (e|e|e)
    ·rw[e]at q2;cases q2
    ·simp only[J4,Bool.not_eq_true']at e;rcases q1 with q1|q1
     ·rw[q1]at e;cases e.1
     ·rw[q1]at e;cases e.2
    ·exact e q3
   refine⟨hd,fun h6=>?_,fun h6=>⟨fun h7=>?_,fun h7=>?_⟩⟩
   ·rw[<-hr,ap3 ht h2 h3 h4 h5 h6]
   ·rw[<-hr,as8 ht h2 h3 h4 h5 h6 h7]
   ·rw[<-hr,ap4 ht h2 h3 h4 h5 h6 h7]
theorem bI4(hI:Wk.Inv A)(hB:Bd N A)(hN:N<=1000000000000):∀ (f:Nat) (d:Int) (gc:d9) (fo:Bool) (h:Int) {Y:H} {b bh:Nat} {M:RfM},N9 Y b A M->A.isDir (d+1)->0<=h->h+2<=f->f<=100->Y bh=some (.c [.i h] 3)->M.w bh=none->∀ {K:KH},(∀Y',But bh Y Y'->Y' bh=some (.c [.i (A.walk f (d+1) gc fo h).2.2] 3)->K (.t [.agg ⟨plR (A.walk f (d+1) gc fo h)⟩,.i (A.walk f (d+1) gc fo h).1]) Y') ->
 i7 124 [.q b,.i d,.s gc,.bool fo,.q bh] K Y:=by
 intro f
 induction f with
 |zero=>intro d gc fo h Y b bh M _ _ h0 hh;omega
 |succ f ih =>
  intro d gc fo h Y b bh M hM hd h0 hh hf yt hw K hK;have hE:∀e,ab1 gc=e->e≠0->∀Y2,But bh Y Y2->Y2 bh=some (.c [.i h] 3)->K (.t [.agg ⟨plZ⟩,.i e]) Y2:=by
   intro e he ia Y2 hb hc;have Dl:A.walk (f+1) (d+1) gc fo h=(e,Pl.z,h):=by rw[AT.walk,d8 (by rw[he];exact ia),he]
   rw[Dl]at hK;have:=hK Y2 hb hc;unfold plR at this;rw[d7 ia]at this;exact this
  refine ds3 _ _ _ _ _ ?_;unfold cM1;refine A5 ?_;intro b6 Y1 g1 e1 n1;have wj:=g1.get yt;have nb6:b6≠bh:=by intro e;rw[e,yt]at n1;cases n1
  cases c1:E8 gc gq with
  |true =>
   refine l9 (by rw[<-I5];exact c1) ?_;refine C1 e1 I1 ?_;intro Y2 p2;refine N8 (D4 p2.same) ?_
   (refine l6 rfl ?_;try dsimp only)
   exact hE 5 (by unfold ab1;rw[c1];rfl) (by decide) Y2 ((But.of_gr g1).put p2 n1) (p2.get (Ne.symm nb6) wj)
  |false =>
  refine l7 (by rw[<-I5];exact c1) ?_;by_cases c2:gc.size>255
  ·refine l9 (M7 (by omega)) ?_;refine C1 e1 I1 ?_;intro Y2 p2;refine N8 (D4 p2.same) ?_
   (refine l6 rfl ?_;try dsimp only)
   exact hE 3 (by unfold ab1;rw[c1,d7 (by decide),d8 c2]) (by decide) Y2 ((But.of_gr g1).put p2 n1) (p2.get (Ne.symm nb6) wj)
  refine l7 (W4 (by omega)) (H9 ?_);intro R hR;have ib:gc.data.toList.length=gc.size:=(ah5 gc).symm;have key:∀ (c i:Nat),c+i=gc.size->(0:J3)∉gc.data.toList.take i->R (gp b) d gc fo (gp bh) (gp b6) (i:Int) Y1:=by
   intro c
   induction c with
   |succ c ihc =>
    intro i hc kg;refine hR _ _ _ _ _ _ _ _ ?_;obtain⟨ch,pc⟩:∃ch,gc.data.toList[i]?=some ch:=⟨_,G0 (by omega)⟩;refine l9 (M7 (by omega)) (X9 (c:=ch) (by omega) (by simpa using pc) ?_);by_cases oz:ch=0
    ·subst oz;have tr:W6 gc=true:=by
      unfold W6;rw[List.any_eq_true];exact⟨0,K7 pc,by decide⟩
     refine l9 rfl (ak9 e1 rfl ?_);intro Y2 o p2;exact hE 2 (by unfold ab1;rw[c1,d7 (by decide),d7 c2,tr];rfl) (by decide) Y2 ((But.of_gr g1).put p2 n1) (p2.get (Ne.symm nb6) wj)
    ·refine l7 ?_ ?_
     ·have : ¬ ((ch.toNat : Int) = 0) := by
       intro e;apply oz;have:ch.toNat=0:=by omega
       exact UInt8.toNat_inj.1 this
      simpa using this
     ·rw[D7 (x:=(i:Int)+1) (by omega) (by omega)];refine ihc (i+1) (by omega) ?_;rw[R1,pc];simp only[Option.toList_some,Q4,T9,not_or];exact⟨kg,fun e=>oz e.symm⟩
   |zero =>
    intro i hc kg;have hi:i=gc.size:=by omega
    have tr:W6 gc=false:=by
     rw[hi,<- ib,as5]at kg;unfold W6;rw[List.any_eq_false];intro x hx;simp only[beq_iff_eq]
     rintro rfl;exact kg hx
    have hm:ab1 gc=0:=by unfold ab1;rw[c1,d7 (by decide),d7 c2,tr];rfl
    refine hR _ _ _ _ _ _ _ _ ?_;refine l7 (W4 (by omega)) ?_;have Dl:A.walk (f+1) (d+1) gc fo h=A.steps (fun d s h'=>A.walk f d s true h') fo (N1 gc) ⟨if C8 47 gc then 1 else d+1,gq,if C8 47 gc then 1 else d+1,true⟩ h:=by
     rw[AT.walk,d7 (by simpa using hm)]
    generalize hr:A.walk (f+1) (d+1) gc fo h=r at hK Dl;refine K5 (fun j=>∀ad:Int,ad+1=(if C8 47 gc then 1 else d+1)->j (gp b) ad gc fo (gp bh) (gp b6) Y1) ?_ ?_
    case refine_2 =>
     intro j hj;cases hl:gc.data.toList with
     |nil =>
      exfalso
      have:gc=gq:=W9 hl;rw[this]at c1;exact m7 c1 (by decide)
     |cons c0 cr =>
      have hh0:C8 47 gc=(c0==47):=by unfold C8;rw[hl]
      refine X9 (c:=c0) (by decide) (by rw[hl];rfl) ?_;rw[hh0]at hj;by_cases e47:c0=47
      ·subst e47;exact l9 rfl (hj 0 (by simp))
      ·refine l7 ?_ (hj d (by simp[e47]));have : ¬ ((c0.toNat:Int)=47):=by
        intro e;apply e47;have:c0.toNat=47:=by omega
        exact UInt8.toNat_inj.1 this
       simpa using this
    intro ad had;rw[<-had]at Dl;have hda:A.isDir (ad+1):=by
     rw[had];cases C8 47 gc with
     |true=>exact hI.root_dir
     |false=>exact hd
    refine A5 ?_;intro b34 Y2 g2 e2 n2;refine C1 e2 I1 ?_;intro Y3 p3;have k34:Y3 b34=some (.cells ⟨plV ⟨ad+1,gq,ad+1,true⟩⟩ 95 (0,0)):=by
     have e:plV ⟨ad+1,gq,ad+1,true⟩=[.i ad,.s gq,.i ad]:=by
      unfold plV;simp
     rw[e];exact p3.same
    have g3:Gr Y1 Y3:=g2.putF p3 n2;refine l5 (bR0 gc (by omega) ?_);intro y Y4 hS;obtain⟨g4,own,fr⟩:=hS;refine ak0 (H9 ?_);intro R2 mo;have n6:Y b6=none:=n1;have n34:Y b34=none:=A9 g1 n2;have nb34:b34≠bh:=by intro e;rw[e,yt]at n34;cases n34
    have nb34b:b34≠b6:=by intro e;rw[e,e1]at n2;cases n2
    have hyb:∀g,y.base=some ⟨g,0,none⟩->g≠bh/\g≠b34/\g≠b6:=by
     intro g hg;have hn:=fr g hg;refine⟨?_,?_,?_⟩
     ·intro e;rw[e,g3.get wj]at hn;cases hn
     ·intro e;rw[e,k34]at hn;cases hn
     ·intro e;rw[e,g3.get e1]at hn;cases hn
    have hLz:(N1 gc).length<=300:=by
     have:=bR2 gc;omega
    generalize N1 gc=L at Dl own hLz;have lc:y.len=L.length:=by have:=own.1;simpa[aH5]using this
    have key2:∀ (c i:Nat) (p:Pl) (h':Int) (V:H),c+i=L.length->But bh Y V->V b6=some (.cells ⟨plZ⟩ 95 (0,0))->V b34=some (.cells ⟨plV p⟩ 95 (0,0))->V bh=some (.c [.i h'] 3)->E0 V 9 1 (aH5 L) y->cp3 A p->0<=h'->h'<=h->A.steps (fun d s h'=>A.walk f d s true h') fo (L.drop i) p h'=r->R2 (gp b) fo (gp bh) (gp b6) (gp b34) y (i:Int) V:=by
     intro c
     induction c with
     |zero =>
      intro i p h' V hc sk k6 k34 kh own hG z0 z1 hs;rw[show L.drop i=[]from M3 (by omega)]at hs;have hs:(0,p,h')=r:=hs;subst hs;refine mo _ _ _ _ _ _ _ _ ?_;unfold plV at k34;refine l7 (W4 (by omega)) (j0 (N8 (D4 k34) ?_))
      (refine l6 rfl ?_;try dsimp only)
      refine ak9 k6 rfl ?_;intro V' o hp;exact hK V' (sk.put hp n6) (hp.get (Ne.symm nb6) kh)
     |succ c ihc =>
      intro i p h' V hc sk k6 k34 kh own hG z0 z1 hs;refine mo _ _ _ _ _ _ _ _ ?_;refine l9 (M7 (by omega)) ?_;have ferr:∀ (e:Int) (h'':Int) (V':H),e≠0->r=(e,Pl.z,h'')->But bh Y V'->V' bh=some (.c [.i h''] 3)->K (.t [.g [.i 0,.s gq,.i 0],.i e]) V':=by
       intro e h'' V' he Bu hb hk;subst Bu;have:=hK V' hb hk;unfold plR at this;rw[d7 he]at this;exact this
      refine K5 (fun j=>∀ (p':Pl) (h'':Int) (V':H) v1 v2 v3 v4 v5 v6 v7 v8 v9 v10 v11 v12 v13 v14 v15 v16,But bh Y V'->V' b6=some (.cells ⟨plZ⟩ 95 (0,0))->V' b34=some (.cells ⟨plV p'⟩ 95 (0,0))->V' bh=some (.c [.i h''] 3)->E0 V' 9 1 (aH5 L) y->cp3 A p'->0<=h''->h''<=h->A.steps (fun d s h'=>A.walk f d s true h') fo (L.drop (i+1)) p' h''=r->j (gp b) fo (gp bh) (gp b6) (gp b34) y (i:Int) v1 v2 v3 v4 v5 v6 v7 v8 v9 v10 v11 v12 v13 v14 v15 v16 V') ?_ ?_
      ·intro p' h'' V' v1 v2 v3 v4 v5 v6 v7 v8 v9 v10 v11 v12 v13 v14 v15 v16 a1 a2 a3 a4 a5 a6 a7 a8 a9;rw[D7 (x:=(i:Int)+1) (by omega) (by omega)];rw[show(i:Int)+1=((i+1:Nat):Int)from by omega];exact ihc (i+1) p' h'' V' (by omega) a1 a2 a3 a4 a5 a6 a7 a8 a9
      intro j44 h44;obtain⟨gu,wk⟩:∃gu,L[i]?=some gu:=⟨_,G0 (by omega)⟩;have wm:L.drop i=gu::L.drop (i+1):=by
       rw[as4 (by omega)];rw[G0 (by omega)]at wk;rw[Option.some.inj wk]
      rw[wm]at hs;cases ht:p.there with
      |false =>
       rw[ap1 ht]at hs;unfold plV at k34;rw[ht]at k34;refine j0 (D1 (f0 k34) (l9 rfl (ak9 k6 rfl ?_)));intro V' o hp;exact ferr 5 h' V' (by decide) hs.symm (sk.put hp n6) (hp.get (Ne.symm nb6) kh)
      |true =>
       obtain⟨n,hn⟩:=hG ht;have ji:=(hI.low _ _ hn).1;have gw:=bR3 hI ht hn hs;have tu:p.gf-1+1=p.gf:=by omega
       unfold plV at k34;rw[d8 ht]at k34;obtain⟨gy,oy,q1,q2⟩:=cp2 own wk;refine j0 (D1 (f0 k34) (l7 (W4 (by omega)) (j0 (D1 (f0 k34) ?_))));rw[q1];have e0:(i:Int).toNat=i:=by omega
       refine j0 (D0 ⟨by omega,by omega⟩ (C6 (by rw[e0];exact q2) ?_));refine l5 (ch6 (hM.but hw sk) hI hB hN (d:=p.gf-1) (n:=n) (by rw[tu];exact hn) gu ?_);intro V1 gt;rw[tu];have k6:=gt.get k6;have k34:=gt.get k34;have kh:=gt.get kh;have own:=own.gr gt;have sk:=sk.trans (But.of_gr gt);rcases gw with⟨e,he,hv,Bu⟩|⟨q,hv,hGq,hq1,zt⟩
       ·rw[hv];unfold plZ
        (refine l6 rfl ?_;try dsimp only)
        refine A5 ?_;intro b86 V2 g5 e5 n5;refine C1 e5 I1 ?_;intro V3 p5;have g6:Gr V1 V3:=g5.putF p5 n5;refine l9 (by simpa using he) (ak9 (g6.get k6) rfl ?_);intro V' o hp;exact ferr e h' V' he Bu ((sk.trans (But.of_gr g6)).put hp n6) (hp.get (Ne.symm nb6) (g6.get kh))
       ·rw[hv];unfold plV
        (refine l6 rfl ?_;try dsimp only)
        refine A5 ?_;intro b86 V2 g5 e5 n5;refine C1 e5 I1 ?_;intro V3 p5;have g6:Gr V1 V3:=g5.putF p5 n5;refine l7 rfl (N8 (D4 p5.same) ?_)
        (refine l6 rfl ?_;try dsimp only)
        refine C1 (g6.get k34) I1 ?_;intro V4 p6;have k34q:V4 b34=some (.c [.i (q.gh-1),.s q.gu,.i (if q.there then q.gf-1 else -1)] 95):=p6.same;have k6q:=p6.get (Ne.symm nb34b) (g6.get k6);have khq:=p6.get (Ne.symm nb34) (g6.get kh);have ownq:=(own.gr g6).put p6 (fun e=>(hyb b34 e).2.1 rfl);have hBq:But bh Y V4:=(sk.trans (But.of_gr g6)).put p6 n34;have zb:=hM.but hw hBq;clear p5 p6 e5 k34 k6 kh own sk;have Fu:decide ((i:Int)+1<((y.len:Nat):Int))=!(L.drop (i+1)).isEmpty:=by
         have rc:(L.drop (i+1)).length=L.length-(i+1):=X1;cases hD:L.drop (i+1) with
         |nil=>rw[hD]at rc;simp at rc;simp;omega
         |cons a r=>rw[hD]at rc;simp at rc;simp;omega
        generalize hT:(((!(L.drop (i+1)).isEmpty)||fo)&&(q.there&&(A.kind q.gf==3)))=t at hq1 zt;refine K5 (fun j=>∀v1 v2 v3 v4 v5 v6 v7 v8 v9 v10 v11 v12 v13 v14 v15 v16,j (gp b) fo (gp bh) (gp b6) (gp b34) y (i:Int) v1 v2 v3 v4 v5 v6 v7 v8 v9 v10 v11 v12 v13 v14 v15 v16 t V4) ?_ ?_
        case refine_2 =>
         intro j95 xw;rw[D7 (x:=(i:Int)+1) (by omega) (by omega),Fu];cases md:q.there with
         |false =>
          have ht0:t=false:=by rw[<-hT,md];simp
          rw[ht0]at xw;rw[d7 (by rw[md];decide)]at k34q;cases (L.drop (i+1)).isEmpty with
          |false=>exact l9 rfl (j0 (D1 (f0 k34q) (l7 rfl (xw _ _ _ _ _ _ _ _ _ _ _ _ _ _ _ _))))
          |true =>
           refine l7 rfl ?_;cases fo with
           |true=>exact l9 rfl (j0 (D1 (f0 k34q) (l7 rfl (xw _ _ _ _ _ _ _ _ _ _ _ _ _ _ _ _))))
           |false=>exact l7 rfl (xw _ _ _ _ _ _ _ _ _ _ _ _ _ _ _ _)
         |true =>
          obtain⟨nq,vl⟩:=hGq md;have wq:=(hI.low _ _ vl).1;have wu:q.gf-1+1=q.gf:=by omega
          have zx:A.kind q.gf=nq.kind:=by unfold AT.kind;rw[vl];rfl
          rw[d8 md]at k34q;obtain⟨gs,os,s1,s2,s3⟩:=zb.slot hI (d:=q.gf-1) (n:=nq) (by rw[wu];exact vl);rw[wu]at s3;rw[zx,md]at hT;cases Ax:(L.drop (i+1)).isEmpty with
          |false =>
           have wc:t=(nq.kind==3):=by rw[<-hT,Ax];simp
           rw[wc]at xw;refine l9 rfl (j0 (D1 (f0 k34q) (l9 (M7 (by omega)) ?_)));refine j0 (U6 (f0 zb.top) (j0 (D1 (f0 k34q) ?_)));rw[s1];exact j0 (D0 s2 (E9 s3 (j0 (D1 (f0 (zb.nod _ _ vl)) (xw _ _ _ _ _ _ _ _ _ _ _ _ _ _ _ _)))))
          |true =>
           refine l7 rfl ?_;cases fo with
           |true =>
            have wc:t=(nq.kind==3):=by rw[<-hT,Ax];simp
            rw[wc]at xw;refine l9 rfl (j0 (D1 (f0 k34q) (l9 (M7 (by omega)) ?_)));refine j0 (U6 (f0 zb.top) (j0 (D1 (f0 k34q) ?_)));rw[s1];exact j0 (D0 s2 (E9 s3 (j0 (D1 (f0 (zb.nod _ _ vl)) (xw _ _ _ _ _ _ _ _ _ _ _ _ _ _ _ _)))))
           |false =>
            have wc:t=false:=by rw[<-hT,Ax];simp
            rw[wc]at xw;exact l7 rfl (xw _ _ _ _ _ _ _ _ _ _ _ _ _ _ _ _)
        intro v1 v2 v3 v4 v5 v6 v7 v8 v9 v10 v11 v12 v13 v14 v15 v16;cases t with
        |false =>
         exact l7 rfl (h44 q h' V4 _ _ _ _ _ _ _ _ _ _ _ _ _ _ _ _ hBq k6q k34q khq ownq hGq z0 z1 (hq1 rfl))
        |true =>
         obtain⟨zv,hq9,hqw⟩:=zt rfl;have md:q.there=true:=by
          simp only[J4]at hT;exact hT.2.1
         obtain⟨nq,vl⟩:=hGq md;have wq:=(hI.low _ _ vl).1;have wu:q.gf-1+1=q.gf:=by omega
         have ja:q.gh-1+1=q.gh:=by omega
         have Cg:A.data q.gf=nq.data:=by unfold AT.data;rw[vl];rfl
         rw[Cg]at hqw;rw[d8 md]at k34q;refine l9 rfl (j0 (D1 (f0 khq) (j0 ?_)));rw[D7 (x:=h'-1) (by omega) (by omega)];refine C1 khq aj3 ?_;intro V5 p7;have kh5:V5 bh=some (.c [.i (h'-1)] 3):=p7.same;have k65:=p7.get nb6 k6q;have k345:=p7.get nb34 k34q;have own5:=ownq.put p7 (fun e=>(hyb bh e).1 rfl);have Ac:But bh Y V5:=hBq.puth p7;have Ad:=hM.but hw Ac;clear p7;refine j0 (D1 (f0 kh5) ?_);by_cases h6:h'-1<0
         ·refine l9 (by simpa using h6) (ak9 k65 rfl ?_);intro V' o hp;exact ferr 9 (h'-1) V' (by decide) (hq9 h6) (Ac.put hp n6) (hp.get (Ne.symm nb6) kh5)
         ·obtain⟨mu,Ae⟩:=hqw h6;obtain⟨gs,os,s1,s2,s3⟩:=Ad.slot hI (d:=q.gf-1) (n:=nq) (by rw[wu];exact vl);rw[wu]at s3;refine l7 (by simpa using h6) (j0 (D1 (f0 k345) ?_));refine j0 (U6 (f0 Ad.top) (j0 (D1 (f0 k345) ?_)));rw[s1];refine j0 (D0 s2 (E9 s3 (j0 (C6 (f0 (Ad.nod _ _ vl)) ?_))));refine l5 (ih (q.gh-1) nq.data true (h'-1) Ad (by rw[ja];exact zv) (by omega) (by omega) (by omega) kh5 hw ?_);intro V6 Dm kh6;rw[ja]at kh6⊢;have Ch:=aX6 A f q.gh nq.data true (h'-1) (by omega);have jf:=fun e=>av1 hI f q.gh nq.data true (h'-1) zv e;generalize A.walk f q.gh nq.data true (h'-1)=W at mu Ae kh6 Ch jf⊢;obtain⟨w1,w2,w3⟩:=W;have k66:=Dm _ _ k65 nb6;have k346:=Dm _ _ k345 nb34;have own6:=own5.keep fun g o hx hg=>Dm g o hg (hyb g hx).1;have Fv:=Ac.trans Dm;by_cases Au:w1=0
          ·subst Au;have hgw:cp3 A w2:=fun e=>ab6.get hI (jf rfl) e;unfold plR;rw[d8 rfl];unfold plV
           (refine l6 rfl ?_;try dsimp only)
           refine C1 k346 I1 ?_;intro V7 p8;refine l7 rfl (h44 w2 w3 V7 _ _ _ _ _ _ _ _ _ _ _ _ _ _ _ _ (Fv.put p8 n34) (p8.get (Ne.symm nb34b) k66) p8.same (p8.get (Ne.symm nb34) kh6) (own6.put p8 (fun e=>(hyb b34 e).2.1 rfl)) hgw (Ch.2.2 rfl) (by have:=Ch.2.1;simp only at this;omega) (Ae rfl))
          ·unfold plR;rw[d7 Au];unfold plZ
           (refine l6 rfl ?_;try dsimp only)
           refine C1 k346 I1 ?_;intro V7 p8;refine l9 (by simpa using Au) (ak9 (p8.get (Ne.symm nb34b) k66) rfl ?_);intro V' o hp;exact ferr w1 w3 V' Au (mu Au) ((Fv.put p8 n34).put hp n6) (hp.get (Ne.symm nb6) (p8.get (Ne.symm nb34) kh6))
    refine key2 L.length 0 ⟨ad+1,gq,ad+1,true⟩ h Y4 (by omega) (But.of_gr (g1.trans (g3.trans g4))) (g4.get (g3.get e1)) (g4.get k34) (g4.get (g3.get wj)) own ?_ h0 (Int.le_refl _) (by simpa using Dl.symm);intro _;obtain⟨n,hn,_⟩:=hda;exact⟨n,hn⟩
  exact key gc.size 0 (by omega) (by simp)
end
end
section
theorem But.gr{bh:Nat}{Y Y':H}(h:But bh Y Y')(hn:Y bh=none):Gr Y Y':=fun c o hc=>h c o hc (fun e=>by rw[e,hn]at hc;cases hc)
attribute [local irreducible] i9 E3 A0 I9 l8 H0 C0 stW muW biW W7 imW J0 G8 app E2 J1 D3 E6 oW P0 J5 C9 rfW N5 M9 D5 exW I2 Gr P1
theorem bI5{s:d9}(h:E8 s gq=false):∃c,s.data.toList[(0:Int).toNat]?=some c/\C8 47 s=(c==47):=by
 cases hl:s.data.toList with
 |nil =>
  exfalso
  have:s=gq:=W9 hl;rw[this]at h;exact m7 h (by decide)
 |cons c r=>exact⟨c,rfl,by unfold C8;rw[hl]⟩
def plL(r:Int×Pl):List u9:=if r.1=0 then plV r.2 else plZ
section
variable {Y:H} {b:Nat} {A:AT} {M:RfM} {N:Nat}
theorem N9.new(h:N9 Y b A M){c:Nat}(hc:Y c=none):M.w c=none:=by
 cases hw:M.w c with
 |none=>rfl
 |some r=>exact m7 hc (h.has c (by rw[hw];simp))
theorem as3(hI:Wk.Inv A)(hB:Bd N A)(hN:N<=1000000000000)(hM:N9 Y b A M)(gb gc:d9)(fo:Bool){K:KH}(hK:∀Y',Gr Y Y'->K (.t [.agg ⟨plL (A.locate gb gc fo)⟩,.i (A.locate gb gc fo).1]) Y') :
 i7 57 [.q b,.s gb,.s gc,.bool fo] K Y:=by
 refine c57 _ _ _ _ ?_;unfold g57;refine A5 ?_;intro b5 Y1 g1 e1 n1;refine A5 ?_;intro b6 Y2 g2 e2 n2;refine C1 e2 aj3 ?_;intro Y3 p3;have k6:Y3 b6=some (.c [.i 8] 3):=p3.same;have n6:Y b6=none:=A9 g1 n2;have n56:b5≠b6:=by intro e;rw[<-e,e1]at n2;cases n2
 have g3:Gr Y Y3:=(g1.trans g2).putF p3 n6;have k5:Y3 b5=some (.cells ⟨plZ⟩ 95 (0,0)):=p3.get n56 (g2.get e1);have Fw:=hM.new n6;clear p3 e1 e2;generalize td:A.locate gb gc fo=r at hK;have hR:∀e V,e≠0->r.1=e->Gr Y V->K (.t [.g [.i 0,.s gq,.i 0],.i e]) V:=by
  intro e V he hr hg;have:=hK V hg;unfold plL at this;rw[hr,d7 he]at this;exact this
 refine K5 (fun j=>∀ (ad:Int) V,A.isDir (ad+1)->(A.walk 10 (ad+1) gc fo 8).1=r.1->((A.walk 10 (ad+1) gc fo 8).1=0->(A.walk 10 (ad+1) gc fo 8).2.1=r.2)->But b6 Y V->V b5=some (.cells ⟨plZ⟩ 95 (0,0))->V b6=some (.c [.i 8] 3)->j (gp b) gc fo (gp b5) ad (gp b6) V) ?_ ?_
 ·intro ad V hd w1 w2 sk k5 k6;refine l5 (bI4 hI hB hN 10 ad gc fo 8 (hM.but Fw sk) hd (by decide) (by decide) (by decide) k6 Fw ?_);intro V' hb kh;generalize A.walk 10 (ad+1) gc fo 8=W at w1 w2 kh⊢;obtain⟨x1,x2,x3⟩:=W;have k5':=hb _ _ k5 n56;have Fx:=sk.trans hb;unfold plR;by_cases h0:x1=0
  ·subst h0;rw[d8 rfl];unfold plV
   (refine l6 rfl ?_;try dsimp only)
   refine ak9 k5' rfl ?_;intro V2 o hp;have:=hK V2 ((Fx.gr n6).putF hp n1);unfold plL at this;have qw:r.1=0:=w1.symm;rw[qw,d8 rfl,<- w2 rfl]at this;exact this
  ·rw[d7 h0];unfold plZ
   (refine l6 rfl ?_;try dsimp only)
   refine ak9 k5' rfl ?_;intro V2 o hp;exact hR x1 V2 h0 w1.symm ((Fx.gr n6).putF hp n1)
 intro j7 h7;have hB3:But b6 Y Y3:=But.of_gr g3;refine K5 (fun j=>∀t:Bool,(t=false->C8 47 gc=true)->(t=true->C8 47 gc=false)->j (gp b) gb gc fo (gp b5) 0 (gp b6) t Y3) ?_ ?_
 case refine_2 =>
  intro j hj;cases h0:E8 gc gq with
  |true=>exact l9 (by rw[<-I5];exact h0) (hj true (fun e=>by cases e) (fun _=>by rw[J9.1 h0];rfl))
  |false =>
   obtain⟨c,hc,hh⟩:=bI5 h0;refine l7 (by rw[<-I5];exact h0) (X9 (by decide) hc ?_);rw[bI3];refine hj _ (fun e=>?_) (fun e=>?_)
   ·rw[hh];simpa using e
   ·rw[hh];simpa using e
 intro t wc Do;cases t with
 |false =>
  have hh:=wc rfl;have h0:E8 gc gq=false:=bL2 hh;refine l7 rfl (h7 0 Y3 hI.root_dir ?_ ?_ hB3 k5 k6)
  ·rw[<-td];unfold AT.locate;rw[h0,hh];rfl
  ·intro _;rw[<-td];unfold AT.locate;rw[h0,hh];rfl
 |true =>
  have hh:=Do rfl;refine l9 rfl ?_;cases h0:E8 gc gq with
  |true =>
   refine l9 (by rw[<-I5];exact h0) (ak9 k5 rfl ?_);intro V o hp;exact hR 5 V (by decide) (by rw[<-td];unfold AT.locate;rw[h0];rfl) (g3.putF hp n1)
  |false =>
   refine l7 (by rw[<-I5];exact h0) ?_;refine K5 (fun j=>∀t:Bool,(t=false->C8 47 gb=true)->(t=true->C8 47 gb=false)->j (gp b) gb gc fo (gp b5) (gp b6) t Y3) ?_ ?_
   case refine_2 =>
    intro j hj;cases oz:E8 gb gq with
    |true=>exact l9 (by rw[<-I5];exact oz) (hj true (fun e=>by cases e) (fun _=>by rw[J9.1 oz];rfl))
    |false =>
     obtain⟨c,hc,hhc⟩:=bI5 oz;refine l7 (by rw[<-I5];exact oz) (X9 (by decide) hc ?_);rw[bI3];refine hj _ (fun e=>?_) (fun e=>?_)
     ·rw[hhc];simpa using e
     ·rw[hhc];simpa using e
   intro t wc Do;cases t with
   |true =>
    have hc:=Do rfl;refine l9 rfl (ak9 k5 rfl ?_);intro V o hp;exact hR 5 V (by decide) (by rw[<-td];unfold AT.locate;rw[h0,hh,hc];rfl) (g3.putF hp n1)
   |false =>
    have hc:=wc rfl;refine l7 rfl (l5 (bI4 hI hB hN 10 0 gb true 8 (hM.but Fw hB3) hI.root_dir (by decide) (by decide) (by decide) k6 Fw ?_));intro V hb kh
    have hl:r=(let w:=A.walk 10 1 gb true 8
     if w.1≠0 then(w.1,Pl.z)else if w.2.1.there=false then(5,Pl.z)else if A.kind w.2.1.gf≠2 then(8,Pl.z)else let r':=A.walk 10 w.2.1.gf gc fo 8;(r'.1,r'.2.1)):=by
     rw[<-td];unfold AT.locate;rw[h0,hh,hc];rfl
    have jf:=fun e=>av1 hI 10 1 gb true 8 hI.root_dir e;rw[show(0:Int)+1=1 from rfl]at kh⊢;generalize A.walk 10 1 gb true 8=W at hl kh jf⊢;obtain⟨x1,x2,x3⟩:=W;have k5':=hb _ _ k5 n56;have Fx:=hB3.trans hb;unfold plR;by_cases hx:x1=0
    case neg =>
     rw[d7 hx];have ln:r=(x1,Pl.z):=by rw[hl];simp[hx]
     unfold plZ
     (refine l6 rfl ?_;try dsimp only)
     refine A5 ?_;intro b54 V2 g4 e4 n4;refine C1 e4 I1 ?_;intro V3 p4;have g5:Gr V V3:=g4.putF p4 n4;refine l9 (by simpa using hx) (ak9 (g5.get k5') rfl ?_);intro V4 o hp;exact hR x1 V4 hx (by rw[ln]) (((Fx.gr n6).trans g5).putF hp n1)
    subst hx;rw[d8 rfl];simp only[ne_eq,not_true_eq_false,if_false]at hl;unfold plV
    (refine l6 rfl ?_;try dsimp only)
    refine A5 ?_;intro b54 V2 g4 e4 n4;refine C1 e4 I1 ?_;intro V3 p4;have g5:Gr V V3:=g4.putF p4 n4;have k54:V3 b54=some (.c [.i (x2.gh-1),.s x2.gu,.i (if x2.there then x2.gf-1 else -1)] 95):=p4.same;have Ac:But b6 Y V3:=Fx.trans (But.of_gr g5);have Ad:=hM.but Fw Ac;have k55:=g5.get k5';have kh5:=g5.get kh;have n546:b54≠b6:=by intro e;rw[e,kh]at n4;cases n4
    clear p4 e4;cases Bg:x2.there with
    |false =>
     rw[d7 (by rw[Bg];decide)]at k54;rw[d8 Bg]at hl;refine l7 rfl (D1 (f0 k54) (l9 rfl (ak9 k55 rfl ?_)));intro V4 o hp;exact hR 5 V4 (by decide) (by rw[hl]) ((Ac.gr n6).putF hp n1)
    |true =>
     obtain⟨nx,yz⟩:=ab6.get hI (jf rfl) Bg;have ji:=(hI.low _ _ yz).1;have jx:x2.gf-1+1=x2.gf:=by omega
     have hkx:A.kind x2.gf=nx.kind:=by unfold AT.kind;rw[yz];rfl
     rw[d8 Bg]at k54;rw[d7 (by rw[Bg];decide)]at hl;obtain⟨gs,os,s1,s2,s3⟩:=Ad.slot hI (d:=x2.gf-1) (n:=nx) (by rw[jx];exact yz);rw[jx]at s3;refine l7 rfl (D1 (f0 k54) (l7 (W4 (by omega)) ?_));refine j0 (U6 (f0 Ad.top) (D1 (f0 k54) ?_));rw[s1];refine j0 (D0 s2 (E9 s3 (j0 (D1 (f0 (Ad.nod _ _ yz)) ?_))));rw[hkx]at hl;by_cases jc:nx.kind=2
     ·rw[d7 (by simpa using jc)]at hl;refine l7 (by simpa using jc) (D1 (f0 k54) ?_);refine C1 kh5 aj3 ?_;intro V6 p6;refine h7 (x2.gf-1) V6 (by rw[jx];exact⟨nx,yz,jc⟩) ?_ ?_ (Ac.puth p6) (p6.get n56 k55) p6.same
      ·rw[jx,hl]
      ·intro _;rw[jx,hl]
     ·rw[d8 (by simpa using jc)]at hl;refine l9 (by simpa using jc) (ak9 k55 rfl ?_);intro V4 o hp;exact hR 8 V4 (by decide) (by rw[hl]) ((Ac.gr n6).putF hp n1)
end
end
section
attribute [local irreducible] i9 E3 A0 I9 l8 H0 C0 stW muW biW W7 imW J0 G8 app E2 J1 D3 E6 oW P0 J5 C9 rfW N5 M9 D5 exW I2 Gr P1
section
variable {Y:H} {b:Nat} {A:AT} {M:RfM} {N:Nat}
theorem N9.ptr(h:N9 Y b A M){i:Nat}(hi:i<A.last.toNat):∃g o,M.x.base=some ⟨g,o,none⟩/\(0<=(i:Int)/\(i:Int)<((M.x.len:Nat):Int))/\m8 g (o+(i:Int).toNat*1) Y=some (.p (if(A.get ((i:Int)+1)).isSome then some ⟨M.cb ((i:Int)+1),0,none⟩else none)):=by
 have hl:=h.len;have hr:(P9 A M.cb)[i]?=some [.p (if(A.get ((i:Int)+1)).isSome then some ⟨M.cb ((i:Int)+1),0,none⟩else none)]:=by
  unfold P9;rw[Z6,List.getElem?_range (by omega)];rfl
 obtain⟨h1,h4|⟨g,o,cur,t,fz,q2,q3,q4⟩⟩:=h.tab.rows
 ·rw[h4]at hr;simp at hr
 ·refine⟨g,o,q2,by omega,f0 q3 ?_⟩;obtain⟨_,h5⟩:=q4 _ _ hr;have:((cur.drop (o+i*1)).take 1)[0]?=some (.p (if(A.get ((i:Int)+1)).isSome then some ⟨M.cb ((i:Int)+1),0,none⟩else none)):=by rw[h5];rfl
  rw[List.getElem?_take]at this;simpa using this
theorem br0(hI:Wk.Inv A)(hB:Bd N A)(hN:N<=1000000000000)(hM:N9 Y b A M){K:KH}(hK:K (.g [.i A.ui,.i A.ub]) Y):i7 9 [.q b] K Y:=by
 refine aa7 _ hK (c9 _ ?_);clear hK;unfold g9;refine A5 ?_;intro b2 Y1 g1 e1 n1;refine A5 ?_;intro b3 Y2 g2 e2 n2;refine C1 e2 aG6 ?_;intro Y3 p3;have n3:Y b3=none:=A9 g1 n2;have n23:b2≠b3:=by intro e;rw[<-e,e1]at n2;cases n2
 have k3:Y3 b3=some (.c [.i 0,.i 0] 29):=p3.same;have k2:Y3 b2=some (.c [.i 0,.i 0] 29):=p3.get n23 (g2.get e1);have g3:Gr Y Y3:=(g1.trans g2).putF p3 n3;clear p3 e1 e2;refine H9 ?_;intro R hR;obtain⟨u1,u2⟩:=hI.sums;have hl:=hM.len;have og:=hB.last;have zr:=hI.bq;have huq:=hI.uq;have key:∀ (c i:Nat) (V:H),c+i=A.last.toNat->Gr Y V->V b2=some (.c [.i 0,.i 0] 29)->V b3=some (.c [.i (Q2 (fun _=>1) A.nodes i:Int),.i (Q2 (fun n=>n.data.size) A.nodes i:Int)] 29) ->
  R (gp b) (gp b2) (gp b3) (i:Int) V:=by
  intro c
  induction c with
  |zero =>
   intro i V hc hg k2 k3;have jt:=hM.gr hg;refine hR _ _ _ _ _ ?_;refine j0 (U6 (f0 jt.top (by rfl)) (l7 (by simp only[K6];omega) ?_));refine j0 (N8 (D4 k3 (by rfl)) ?_)
   (refine l6 rfl ?_;try dsimp only)
   refine C1 k2 aG6 ?_;intro V' p;refine j0 (N8 (D4 p.same (by rfl)) ?_)
   (refine l6 rfl ?_;try dsimp only)
   have hi:i=A.last.toNat:=by omega
   rw[hi,u1,u2];exact⟨rfl,hg.putF p n1⟩
  |succ c ih =>
   intro i V hc hg k2 k3;have jt:=hM.gr hg;obtain⟨gs,os,s1,s2,s3⟩:=jt.ptr (i:=i) (by omega);refine hR _ _ _ _ _ ?_;refine j0 (U6 (f0 jt.top (by rfl)) (l9 (by simp only[I6];omega) ?_));refine K5 (fun j=>∀V',Gr Y V'->V' b2=some (.c [.i 0,.i 0] 29)->V' b3=some (.c [.i (Q2 (fun _=>1) A.nodes (i+1):Int),.i (Q2 (fun n=>n.data.size) A.nodes (i+1):Int)] 29)->j (gp b) (gp b2) (gp b3) (i:Int) V') ?_ ?_
   ·intro V' a1 a2 a3;rw[D7 (x:=(i:Int)+1) (by omega) (by omega)];rw[show(i:Int)+1=((i+1:Nat):Int)from by omega];exact ih (i+1) V' (by omega) a1 a2 a3
   intro j hj;refine j0 (U6 (f0 jt.top (by rfl)) ?_);rw[s1];refine j0 (D0 s2 (E9 s3 ?_));have qp:=aY9 (fun _=>1) A.nodes (n:=i+1) (m:=A.last.toNat) (by omega);have lh:=aY9 (fun n=>n.data.size) A.nodes (n:=i+1) (m:=A.last.toNat) (by omega);cases gx:A.get ((i:Int)+1) with
   |none =>
    have z1:Q2 (fun _=>1) A.nodes (i+1)=Q2 (fun _=>1) A.nodes i:=by
     simp only[Q2];rw[show lk ((i:Int)+1) A.nodes=none from gx];rfl
    have z2:Q2 (fun n=>n.data.size) A.nodes (i+1)=Q2 (fun n=>n.data.size) A.nodes i:=by
     simp only[Q2];rw[show lk ((i:Int)+1) A.nodes=none from gx];rfl
    refine l7 rfl (hj V hg k2 ?_);rw[z1,z2];exact k3
   |some n =>
    have z1:Q2 (fun _=>1) A.nodes (i+1)=Q2 (fun _=>1) A.nodes i+1:=by
     simp only[Q2];rw[show lk ((i:Int)+1) A.nodes=some n from gx];rfl
    have z2:Q2 (fun n=>n.data.size) A.nodes (i+1)=Q2 (fun n=>n.data.size) A.nodes i+n.data.size:=by
     simp only[Q2];rw[show lk ((i:Int)+1) A.nodes=some n from gx];rfl
    rw[z1]at qp;rw[z2]at lh;refine l9 rfl (j0 (D1 (f0 k3 (by rfl)) (j0 ?_)));rw[D7 (by omega) (by omega)];refine C1 k3 aj3 ?_;intro V1 p1;have k31:V1 b3=some (.c [.i ((Q2 (fun _=>1) A.nodes i:Int)+1),.i (Q2 (fun n=>n.data.size) A.nodes i:Int)] 29):=p1.same;have tf:=hg.putF p1 n3;have li:=hM.gr tf;obtain⟨gs,os,s1,s2,s3⟩:=li.ptr (i:=i) (by omega);rw[gx]at s3;refine j0 (D1 (f0 k31 (by rfl)) (j0 (U6 (f0 li.top (by rfl)) ?_)));rw[s1];refine j0 (D0 s2 (E9 s3 (j0 (C6 (f0 (li.nod _ _ gx) (by rfl)) (j0 ?_)))));rw[D7 (by omega) (by omega)];refine C1 k31 aj3 ?_;intro V2 p2;refine hj V2 (tf.putF p2 n3) (p2.get n23 (p1.get n23 k2)) ?_;have:=p2.same;rw[z1,z2];have e1:((Q2 (fun _=>1) A.nodes i+1:Nat):Int)=(Q2 (fun _=>1) A.nodes i:Int)+1:=by omega
    have e2:((Q2 (fun n=>n.data.size) A.nodes i+n.data.size:Nat):Int)=(Q2 (fun n=>n.data.size) A.nodes i:Int)+((n.data.size:Nat):Int):=by omega
    rw[e1,e2];exact this
 exact key A.last.toNat 0 Y3 (by omega) g3 k2 k3
theorem br1(hI:Wk.Inv A)(hB:Bd N A)(hN:N<=1000000000000)(hM:N9 Y b A M)(i n:Int){K:KH}(hK:K (.bool (A.roomE i n==0)) Y):i7 63 [.q b,.i i,.i n] K Y:=by
 refine aa7 _ hK (c63 _ _ _ ?_);clear hK;unfold g63;refine l5 (br0 hI hB hN hM ?_)
 (refine l6 rfl ?_;try dsimp only)
 refine A5 ?_;intro b6 Y1 g1 e1 n1;refine C1 e1 aG6 ?_;intro Y2 p2;have hg:Gr Y Y2:=g1.putF p2 n1;have ug:=hM.gr hg;have k6:Y2 b6=some (.c [.i A.ui,.i A.ub] 29):=p2.same;refine D1 (f0 k6 (by rfl)) (j0 (D1 (f0 ug.top (by rfl)) ?_));have hr:(A.roomE i n==0)=(decide (wr (A.ui+i)<=A.qi)&&decide (wr (A.ub+n)<=A.qb)):=by
  unfold AT.roomE;by_cases h1:wr (A.ui+i)<=A.qi<;>by_cases h2:wr (A.ub+n)<=A.qb<;>simp[h1,h2]
 rw[hr];cases h1:decide (wr (A.ui+i)<=A.qi) with
 |true =>
  refine l9 h1 (D1 (f0 k6 (by rfl)) (j0 (D1 (f0 ug.top (by rfl)) ?_)));exact⟨rfl,hg⟩
 |false=>exact l7 h1 ⟨rfl,hg⟩
end
theorem bI6(qi qb:Int){Y:H}{K:KH}(hN:X8 qi qb=false->∀Y',Gr Y Y'->K (.p none) Y')
 (hK:X8 qi qb=true->∀bf Y' D,Z2 Y' bf (ax1 qi qb) D->Gr Y Y'->(∀c,D c->Y c=none)->K (.q bf) Y') :
 i7 13 [.g [.i qi,.i qb]] K Y:=by
 refine c13 _ _ ?_;unfold g13;refine A5 ?_;intro b3 Y1 g1 e1 n1;refine K5 (fun j=>∀t:Bool,t=!X8 qi qb->j (gp b3) t Y1) ?_ ?_
 ·intro t ht;cases t with
  |true=>exact l9 rfl (hN (by cases h:X8 qi qb<;>simp[h]at ht⊢) Y1 g1)
  |false =>
   refine l7 rfl (j0 (N8 (D4 e1 (by rfl)) ?_))
   (refine l6 rfl ?_;try dsimp only)
   refine A5 ?_;intro b11 Y2 g2 e2 n2;refine A5 ?_;intro b12 Y3 g3 e3 n3;refine A5 ?_;intro b13 Y4 g4 e4 n4;have z11:Y b11=none:=A9 g1 n2;have z12:Y b12=none:=A9 (g1.trans g2) n3;have z13:Y b13=none:=A9 ((g1.trans g2).trans g3) n4;have d1:b11≠b12:=by intro e;rw[<-e,e2]at n3;cases n3
   have d2:b11≠b13:=by intro e;rw[<-e,g3.get e2]at n4;cases n4
   have d3:b12≠b13:=by intro e;rw[<-e,e3]at n4;cases n4
   have gx:∀i n,(ax1 qi qb).get i=some n->i=1/\n=⟨2,493,gq,1,1,[]⟩:=by
    intro i n h;unfold AT.get ax1 at h;simp only[lk]at h;by_cases e:i=1
    ·subst e;simp at h;exact⟨rfl,h.symm⟩
    ·have:(i==1)=false:=by simpa using e
     rw[this]at h;simp at h
   refine hK (by cases h:X8 qi qb<;>simp[h]at ht⊢) b13 Y4 (fun c=>c=b11\/c=b12\/c=b13) ⟨⟨⟨some ⟨b12,0,none⟩,1,1⟩,fun _=>b11,fun _=>⟨none,0,0⟩,fun c=>if c=b13 then some (0,false)else if c=b12 then some (0,true)else if c=b11 then some (1,false)else none⟩,⟨?_,?_,?_,?_,?_,?_,?_,?_,?_⟩,?_⟩ (((g1.trans g2).trans g3).trans g4) ?_
   ·exact e4
   ·refine⟨rfl,by intro r hr;unfold P9 at hr;rw[K0]at hr;obtain⟨_,_,rfl⟩:=hr;rfl,.inr ⟨b12,[.q b11],rfl,g4.get e3,rfl,A7 _,rfl⟩⟩
   ·intro i n hn;obtain⟨rfl,rfl⟩:=gx i n hn;exact(g3.trans g4).get e2
   ·intro i n hn;obtain⟨rfl,rfl⟩:=gx i n hn;exact E0.nil _ _ _
   ·simp
   ·intro g hg;have hg:some (⟨b12,0,none⟩:Addr)=some ⟨g,0,none⟩:=hg;injection hg with hg
    injection hg with hg
    subst hg;simp[d3]
   ·intro i n hn;obtain⟨rfl,rfl⟩:=gx i n hn;simp[d1,d2]
   ·intro i n g _ h;cases h
   ·intro c hc;by_cases h1:c=b13
    ·subst h1;rw[e4];simp
    by_cases h2:c=b12
    ·subst h2;rw[g4.get e3];simp
    by_cases h3:c=b11
    ·subst h3;rw[(g3.trans g4).get e2];simp
    ·simp[h1,h2,h3]at hc
   ·intro c;by_cases h1:c=b13
    ·simp[h1]
    by_cases h2:c=b12
    ·simp[h2,d3]
    by_cases h3:c=b11
    ·simp[h3,d1,d2]
    ·simp[h1,h2,h3]
   ·rintro c (h|h|h)<;>subst h
    ·exact z11
    ·exact z12
    ·exact z13
 ·intro j hj;have oi:(!X8 qi qb)=(decide (qi<1)||(decide (qi>1048576)||(decide (qb<0)||decide (qb>1073741824)))):=by unfold X8;simp
  rw[oi]at hj;refine D1 (f0 e1 (by rfl)) ?_;by_cases c1:qi<1
  ·exact l9 (by simpa using c1) (hj true (by simp[c1]))
  refine l7 (by simpa using c1) (D1 (f0 e1 (by rfl)) ?_);by_cases c2:qi>1048576
  ·exact l9 (by simpa using c2) (hj true (by simp[c2]))
  refine l7 (by simpa using c2) (D1 (f0 e1 (by rfl)) ?_);by_cases c3:qb<0
  ·exact l9 (by simpa using c3) (hj true (by simp[c3]))
  refine l7 (by simpa using c3) (D1 (f0 e1 (by rfl)) ?_);exact hj _ (by simp[c1,c2,c3])
section
variable {Y Y':H} {b:Nat} {A:AT} {M:RfM} {N:Nat}
def RfM.setE(M:RfM)(i:Int)(y':Sl):RfM:=⟨M.x,M.cb,fun j=>if j=i then y' else M.ey j,fun c=>if y'.base=some ⟨c,0,none⟩then some (i,true)else M.w c⟩
theorem N9.low(h:N9 Y b A M)(hL:∀i n,A.get i=some n->1<=i){i:Int}{n:AN}(hn:A.get i=some n):M.cb i≠b/\M.x.base≠some ⟨M.cb i,0,none⟩:=by
 have h1:=h.wn i n hn;have:=hL i n hn;refine⟨?_,?_⟩
 ·intro e;rw[e,h.wb]at h1;injection h1 with h1;injection h1 with h1 _;omega
 ·intro e;rw[h.wt _ e]at h1;injection h1 with h1;injection h1 with h1 _;omega
theorem N9.setN(h:N9 Y b A M)(hL:∀i n,A.get i=some n->1<=i){i:Int}{n n':AN}(hn:A.get i=some n){y':Sl}(hp:P1 Y (M.cb i) (ak3 n' y') Y')(ho:E0 Y 140 2 (aj8 n'.gj) y')(hy:∀g,y'.base=some ⟨g,0,none⟩->M.w g=none\/M.w g=some (i,true)):N9 Y' b (A.set i n') (M.setE i y'):=by
 obtain⟨q1,q2⟩:=h.low hL hn;have hw:=h.wn i n hn;have nh:=hL i n hn;have hycb:y'.base≠some ⟨M.cb i,0,none⟩:=by
  intro e;rcases hy _ e with e2|e2<;>rw[hw]at e2
  ·cases e2
  ·injection e2 with e2;injection e2 with _ e2;cases e2
 have hyw:∀c r,M.w c=some r->r≠(i,true)->y'.base≠some ⟨c,0,none⟩:=by
  intro c r hc hr e;rcases hy _ e with e2|e2<;>rw[hc]at e2
  ·cases e2
  ·injection e2 with e2;exact hr e2
 have uh:∀j m,A.get j=some m->j≠i->M.cb j≠M.cb i:=by
  intro j m hm hj e;have:=h.wn j m hm;rw[e,hw]at this;injection this with this;injection this with this _;exact hj this.symm
 have gx:∀j m,(A.set i n').get j=some m->(j=i/\m=n')\/(j≠i/\A.get j=some m):=by
  intro j m hm;rw[AT.get_set]at hm;by_cases e:j=i
  ·rw[d8 e]at hm;exact .inl ⟨e,(Option.some.inj hm).symm⟩
  ·rw[d7 e]at hm;exact .inr ⟨e,hm⟩
 refine⟨?_,?_,?_,?_,?_,?_,?_,?_,?_⟩
 ·exact hp.get (Ne.symm q1) h.top
 ·have : P9 (A.set i n') M.cb = P9 A M.cb := by
   unfold P9;apply List.map_congr_left;intro k _;rw[AT.get_set];by_cases e:(k:Int)+1=i
   ·rw[d8 e,e,hn];rfl
   ·rw[d7 e]
  show E0 Y' 75 1 (P9 (A.set i n') M.cb) M.x;rw[this];exact h.tab.put hp q2
 ·intro j m hm;rcases gx j m hm with⟨e1,e2⟩|⟨e1,e2⟩
  ·subst e1;subst e2;show Y' (M.cb j)=some (ak3 m (if j=j then y' else M.ey j));rw[d8 rfl];exact hp.same
  ·show Y' (M.cb j)=some (ak3 m (if j=i then y' else M.ey j));rw[d7 e1];exact hp.get (uh j m e2 e1) (h.nod j m e2)
 ·intro j m hm;rcases gx j m hm with⟨e1,e2⟩|⟨e1,e2⟩
  ·subst e1;subst e2;show E0 Y' 140 2 (aj8 m.gj) (if j=j then y' else M.ey j);rw[d8 rfl];exact ho.put hp hycb
  ·show E0 Y' 140 2 (aj8 m.gj) (if j=i then y' else M.ey j);rw[d7 e1];refine(h.ent j m e2).put hp fun e=>?_;have:=h.we j m _ e2 e;rw[hw]at this;injection this with this;injection this with _ this;cases this
 ·show(if y'.base=some ⟨b,0,none⟩then some (i,true)else M.w b)=_;rw[d7 (hyw b _ h.wb (by intro e;injection e with e _;omega))];exact h.wb
 ·intro g hg;show(if y'.base=some ⟨g,0,none⟩then some (i,true)else M.w g)=_;have:=h.wt g hg;rw[d7 (hyw g _ this (by intro e;injection e with e _;omega))];exact this
 ·intro j m hm;show(if y'.base=some ⟨M.cb j,0,none⟩then some (i,true)else M.w (M.cb j))=_;have:M.w (M.cb j)=some (j,false):=by
   rcases gx j m hm with⟨e1,e2⟩|⟨e1,e2⟩
   ·rw[e1];exact hw
   ·exact h.wn j m e2
  rw[d7 (hyw _ _ this (by intro e;injection e with _ e;cases e))];exact this
 ·intro j m g hm hg;show(if y'.base=some ⟨g,0,none⟩then some (i,true)else M.w g)=_;rcases gx j m hm with⟨e1,e2⟩|⟨e1,e2⟩
  ·subst e1;have hg:(if j=j then y' else M.ey j).base=some ⟨g,0,none⟩:=hg;rw[d8 rfl]at hg;rw[d8 hg]
  ·have hg:(if j=i then y' else M.ey j).base=some ⟨g,0,none⟩:=hg;rw[d7 e1]at hg;have:=h.we j m g e2 hg;rw[d7 (hyw g _ this (by intro e;injection e with e _;exact e1 e))];exact this
 ·intro c hc;have hc:(if y'.base=some ⟨c,0,none⟩then some (i,true)else M.w c)≠none:=hc;have hs:Y c≠none:=by
   by_cases e:y'.base=some ⟨c,0,none⟩
   ·exact ho.has e
   ·rw[d7 e]at hc;exact h.has c hc
  cases ho2:Y c with
  |none=>exact m7 ho2 hs
  |some o =>
   by_cases e:c=M.cb i
   ·rw[e,hp.same];simp
   ·rw[hp.get e ho2];simp
theorem bR5:Tryz.prog.underlying 76=some (.slice 140):=by kernel_rfl
theorem br2:∃i z,Tryz.prog.info? 140=some i/\i.zero=some z/\i.size=2/\i.bytes=24/\z.cells.size=2:=by
 have h1:(Tryz.prog.info? 140).map (fun i=>(i.zero.map (fun z=>z.cells.size),i.size,i.bytes))=some (some 2,2,24):=by kernel_rfl
 cases hi:Tryz.prog.info? 140 with
 |none=>rw[hi]at h1;cases h1
 |some i =>
  rw[hi]at h1;simp only[Option.map_some,Option.some.injEq,Prod.mk.injEq]at h1;cases hz:i.zero with
  |none=>rw[hz]at h1;cases h1.1
  |some z =>
   rw[hz]at h1;exact⟨i,z,rfl,hz,h1.2.1,h1.2.2,by simpa using h1.1⟩
def az8(Y0 Y:H)(l:List (List u9))(y:Sl):Prop:=Gr Y0 Y/\E0 Y 140 2 l y/\∀g,y.base=some ⟨g,0,none⟩->Y0 g=none
theorem aP0{Y0 Y:H}{l:List (List u9)}{y:Sl}{s:d9}{v:Int}{ty:TypeId}{cs:List Bool}(h:az8 Y0 Y l y)(hl:l.length<1000000000){F:Sl->H->Prop}(hF:∀y' Y',az8 Y0 Y' (l++[[.s s,.i v]]) y'->(∀c o,Y c=some o->y.base≠some ⟨c,0,none⟩->Y' c=some o)->F y' Y') :
 H0 (.c [.s s,.i v] 140) (fun(b48:Nat)=>ac9 .append #[76,76] ty cs [.slice y.base y.len y.cap,.slice (gp b48) 1 1] kL F) Y:=by
 obtain⟨h1,h2,h3⟩:=h;refine A5 ?_;intro b48 Y1 g1 e1 n1;obtain⟨i,z,i1,i2,i3,i4,i5⟩:=br2;refine ax4 bR5 i1 i2 i3 i4 i5 (by decide) (h2.gr g1) e1 rfl (by intro u hu;simp at hu;rcases hu with rfl|rfl<;>rfl) hl (by decide) ?_;intro y' Y' pq gw;refine hF y' Y' ⟨?_,pq,?_⟩ ?_
 ·rcases gw with⟨g,o,q1,q2,q3⟩|⟨g,q1,q2,q3⟩
  ·exact(h1.trans g1).putF q3 (h3 g q1)
  ·exact(h1.trans g1).trans q3
 ·intro g hg;rcases gw with⟨g',o,q1,q2,q3⟩|⟨g',q1,q2,q3⟩
  ·rw[q2]at hg;exact h3 g hg
  ·rw[q1]at hg;injection hg with hg
   injection hg with hg
   subst hg;exact A9 (h1.trans g1) q2
 ·intro c o hc ia;rcases gw with⟨g,o',q1,q2,q3⟩|⟨g,q1,q2,q3⟩
  ·exact q3.get (fun e=>ia (by rw[e];exact q1)) (g1.get hc)
  ·exact q3.get (g1.get hc)
theorem bR6:E6 Tryz.prog 140=some 2:=by kernel_rfl
theorem br3:E6 Tryz.prog 76=some 1:=by kernel_rfl
theorem N9.slot2(h:N9 Y b A M)(hL:∀i n,A.get i=some n->1<=i/\i<=A.last){d:Int}{n:AN}(hn:A.get (d+1)=some n):∃g o,M.x.base=some ⟨g,o,none⟩/\(0<=d/\d<((M.x.len:Nat):Int))/\m8 g (o+d.toNat*1) Y=some (.p (some ⟨M.cb (d+1),0,none⟩)):=by
 obtain⟨l1,l2⟩:=hL _ _ hn;obtain⟨g,o,h1,h2,h3⟩:=h.ptr (i:=d.toNat) (by omega);have e:((d.toNat:Nat):Int)=d:=by omega
 rw[e,hn]at h3;rw[e]at h2;exact⟨g,o,h1,h2,h3⟩
theorem am6(h:N9 Y b A M)(hL:∀i n,A.get i=some n->1<=i/\i<=A.last){d:Int}{n:AN}(hn:A.get (d+1)=some n){F:Nat->Nat->H->Prop}(hF:F (M.cb (d+1)) 0 Y) :
 i9 (gp b) (fun(b4 o5:Nat)=>l8 (m8 b4 (o5+2)) kL (fun(x6:Sl)=>i9 x6.base (fun(b7 o8:Nat)=>E3 (0<=d/\d<((x6.len:Nat):Int)) (l8 (m8 b7 (o8+d.toNat*1)) kP (fun x9=>i9 x9 F))))) Y:=by
 obtain⟨g,o,h1,h2,h3⟩:=h.slot2 hL hn;refine j0 (U6 (f0 h.top (by rfl)) ?_);rw[h1];exact j0 (D0 h2 (E9 h3 (j0 hF)))
theorem N9.congr(h:N9 Y b A M){A':AT}(q1:A'.qi=A.qi)(q2:A'.qb=A.qb)(q3:A'.last=A.last)(hg:∀j,A'.get j=A.get j):N9 Y b A' M:=by
 refine⟨?_,?_,fun i n hn=>h.nod i n (by rw[<-hg];exact hn),fun i n hn=>h.ent i n (by rw[<-hg];exact hn),h.wb,h.wt,fun i n hn=>h.wn i n (by rw[<-hg];exact hn),fun i n g hn=>h.we i n g (by rw[<-hg];exact hn),h.has⟩
 ·rw[q1,q2];exact h.top
 ·have:P9 A' M.cb=P9 A M.cb:=by unfold P9;rw[q3];apply List.map_congr_left;intro k _;rw[hg]
  rw[this];exact h.tab
theorem aL0{gh gf:Int}{nd ni:AN}{gu:d9}(hM:N9 Y b A M)(hL:∀i n,A.get i=some n->1<=i/\i<=A.last)(hz:A.last<=1000000000000)(hd:A.get (gh+1)=some nd)(hi:A.get (gf+1)=some ni)(ia:gh≠gf)(qq:lk gu nd.gj=none)(jo:(C5 nd.gj).Nodup)(ib:nd.gj.length<=100000000){K:KH}
 (hK:∀Y' M',(∀A':AT,A'.qi=A.qi->A'.qb=A.qb->A'.last=A.last->(∀j,A'.get j=if j=gf+1 then some (if ni.kind=2 then {ni with up:=gh+1}else ni)else if j=gh+1 then some {nd with gj:=up gu (gf+1) nd.gj}else A.get j)->N9 Y' b A' M')->(∀c o,Y c=some o->M.w c=none->Y' c=some o/\M'.w c=none)->K (.t []) Y') :
 i7 102 [.q b,.i gh,.s gu,.i gf] K Y:=by
 refine dp8 _ _ _ _ ?_;unfold cH7;refine H9 ?_;intro R hR;generalize sh:E7 (C5 nd.gj)=ks;have tg:ks.length=nd.gj.length:=by rw[<-sh,(I7 _).length_eq];simp[C5]
 have Aw:∀ {V:H},N9 V b A M->(M.ey (gh+1)).len=ks.length:=by
  intro V h;have:=(h.ent _ _ hd).1;rw[<-sh];simpa[aj8]using this
 have il:gu∉ks:=by rw[<-sh];intro h;exact(M4.1 qq) ((I7 _).mem_iff.1 h)
 have hT:aC1 gu [.s gu,.i gf] (fun k=>[Value.string k,.i ((lk k nd.gj).getD 0-1)]) false ks=aj8 (up gu (gf+1) nd.gj):=by
  unfold aj8;rw[aE8 qq,bx9,sh,<- cm2];have e1:[Value.string gu,.i ((lk gu (up gu (gf+1) nd.gj)).getD 0-1)]=[Value.string gu,.i gf]:=by
   rw[ax0];simp
  rw[e1];refine by0 _ _ ks false fun k hk=>?_;have:k≠gu:=fun e=>il (by rw[<-e];exact hk);rw[ax0];have:(k==gu)=false:=by simpa using this
  rw[this];rfl
 generalize sj:aj8 (up gu (gf+1) nd.gj)=T at hT;have wnew:∀c,Y c=none->M.w c=none:=fun c hc=>hM.new hc;have key:∀ (c i:Nat) (l:Sl) (done:Bool) (acc:List (List u9)) (V:H),c+i=ks.length->az8 Y V acc l->acc.length<=2*i->acc++aC1 gu [.s gu,.i gf] (fun k=>[Value.string k,.i ((lk k nd.gj).getD 0-1)]) done (ks.drop i)=T->R (gp b) gh gu gf l done (i:Int) V:=by
  intro c
  induction c with
  |zero =>
   intro i l done acc V hc hE uk ou;have jt:=hM.gr hE.1;have pn:=Aw jt;rw[show ks.drop i=[]from M3 (by omega)]at ou;refine hR _ _ _ _ _ _ _ _ ?_;refine am6 jt hL hd (U6 (f0 (jt.nod _ _ hd) (by rfl)) (l7 (by simp only[K6];omega) ?_));refine K5 (fun j=>∀l' V',az8 Y V' T l'->j (gp b) gh gf l' V') ?_ ?_
   case refine_2 =>
    intro j hj;cases done with
    |true =>
     have:acc=T:=by simpa[aC1]using ou
     rw[this]at hE;exact l7 rfl (hj l V hE)
    |false =>
     refine l9 rfl (aP0 hE (by omega) ?_);intro l' V' qr _;have:acc++[[Value.string gu,.i gf]]=T:=by simpa[aC1]using ou
     rw[this]at qr;exact hj l' V' qr
   intro l' V' qr;have Ci:=hM.gr qr.1;have ji:∀i n,A.get i=some n->1<=i:=fun i n hn=>(hL i n hn).1;refine am6 Ci hL hd ?_;refine C1 (Ci.nod _ _ hd) br3 ?_;intro V1 p1;have p1':P1 V' (M.cb (gh+1)) (ak3 {nd with gj:=up gu (gf+1) nd.gj} l') V1:=p1;clear p1;have li:=Ci.setN ji hd (n':={nd with gj:=up gu (gf+1) nd.gj}) (y':=l') p1' (by rw[show aj8 ({nd with gj:=up gu (gf+1) nd.gj}:AN).gj=T from sj];exact qr.2.1) (fun g hg=>.inl (wnew g (qr.2.2 g hg)));have xm:(A.set (gh+1) {nd with gj:=up gu (gf+1) nd.gj}).get (gf+1)=some ni:=by rw[AT.get_set_ne _ _ (by omega)];exact hi
   have hL1:∀i n,(A.set (gh+1) {nd with gj:=up gu (gf+1) nd.gj}).get i=some n->1<=i/\i<=(A.set (gh+1) {nd with gj:=up gu (gf+1) nd.gj}).last:=by
    intro i n hn;rw[AT.get_set]at hn;by_cases e:i=gh+1
    ·rw[e];exact hL _ _ hd
    ·rw[d7 e]at hn;exact hL _ _ hn
   have fr1:∀c o,Y c=some o->M.w c=none->V1 c=some o/\(M.setE (gh+1) l').w c=none:=by
    intro c o hc hw;have h1:=qr.1.get hc;have uh:c≠M.cb (gh+1):=fun e=>by rw[e,hM.wn _ _ hd]at hw;cases hw
    refine⟨p1'.get uh h1,?_⟩;show(if l'.base=some ⟨c,0,none⟩then some (gh+1,true)else M.w c)=none;rw[d7 (fun e=>by rw[qr.2.2 c e]at hc;cases hc)];exact hw
   refine am6 li hL1 xm (D1 (f0 (li.nod _ _ xm) (by rfl)) ?_);by_cases jc:ni.kind=2
   ·refine l9 (by simpa using jc) (am6 li hL1 xm ?_);refine C1 (li.nod _ _ xm) aj3 ?_;intro V2 p2;have p2':P1 V1 ((M.setE (gh+1) l').cb (gf+1)) (ak3 { ni with up:=gh+1 } ((M.setE (gh+1) l').ey (gf+1))) V2:=by
     have e:upR ({ni with up:=gh+1}:AN)=gh:=by
      unfold upR;rw[d8 (show({ni with up:=gh+1}:AN).kind=2 from jc)];show gh+1-1=gh;omega
     unfold ak3;rw[e];exact p2
    clear p2;have ug:=li.setN (fun i n hn=>(hL1 i n hn).1) xm (n':={ni with up:=gh+1}) p2' (show E0 V1 140 2 (aj8 ni.gj) _ from li.ent _ _ xm) (fun g hg=>.inr (li.we _ _ g xm hg));refine hK V2 _ (fun A' q1 q2 q3 hg=>ug.congr q1 q2 q3 fun j=>?_) ?_
    ·rw[hg j,AT.get_set,AT.get_set,d8 jc]
    ·intro c o hc hw;obtain⟨f1,f2⟩:=fr1 c o hc hw;have uh:c≠M.cb (gf+1):=fun e=>by rw[e,hM.wn _ _ hi]at hw;cases hw
     refine⟨p2'.get uh f1,?_⟩;show(if((M.setE (gh+1) l').ey (gf+1)).base=some ⟨c,0,none⟩then some (gf+1,true)else(M.setE (gh+1) l').w c)=none;rw[d7 (fun e=>by rw[li.we _ _ c xm e]at f2;cases f2)];exact f2
   ·refine l7 (by simpa using jc) (hK V1 _ (fun A' q1 q2 q3 hg=>li.congr q1 q2 q3 fun j=>?_) fr1);rw[hg j,AT.get_set,d7 jc];by_cases e:j=gf+1
    ·rw[d8 e,e,d7 (by omega)];exact hi.symm
    ·rw[d7 e]
  |succ c ih =>
   intro i l done acc V hc hE uk ou;have jt:=hM.gr hE.1;have pn:=Aw jt;obtain⟨k,hk⟩:∃k,ks[i]?=some k:=⟨_,G0 (by omega)⟩;have wm:ks.drop i=k::ks.drop (i+1):=by
    rw[as4 (by omega)];rw[G0 (by omega)]at hk;rw[Option.some.inj hk]
   rw[wm]at ou;obtain⟨gy,oy,q1,_,_,q4⟩:=av8 (jt.ent _ _ hd) (by rw[sh];exact hk);refine hR _ _ _ _ _ _ _ _ ?_;refine am6 jt hL hd (U6 (f0 (jt.nod _ _ hd) (by rfl)) (l9 (by simp only[I6];omega) ?_));refine am6 jt hL hd (U6 (f0 (jt.nod _ _ hd) (by rfl)) ?_);rw[q1];have e0:(i:Int).toNat=i:=by omega
   refine j0 (D0 ⟨by omega,by show(i:Int)<(((M.ey (gh+1)).len:Nat):Int);omega⟩ (N8 (by rw[e0];exact q4) ?_))
   (refine l6 rfl ?_;try dsimp only)
   refine A5 ?_;intro b35 V1 g1 e1 n1;refine C1 e1 bR6 ?_;intro V2 p2;have g2:Gr V V2:=g1.putF p2 n1;have k35:V2 b35=some (.c [.s k,.i ((lk k nd.gj).getD 0-1)] 140):=p2.same;clear p2 e1;have hE2:az8 Y V2 acc l:=⟨hE.1.trans g2,hE.2.1.gr g2,hE.2.2⟩;have hlb:l.base≠some ⟨b35,0,none⟩:=fun e=>hE.2.1.has e n1;refine K5 (fun j=>∀ (l':Sl) (done':Bool) (acc':List (List u9)) (V':H) v1 v2 v3 v4,az8 Y V' acc' l'->acc'.length<=2*i+1->V' b35=some (.c [.s k,.i ((lk k nd.gj).getD 0-1)] 140)->acc'++[.s k,.i ((lk k nd.gj).getD 0-1)]::aC1 gu [.s gu,.i gf] (fun k=>[Value.string k,.i ((lk k nd.gj).getD 0-1)]) done' (ks.drop (i+1))=T->j (gp b) gh gu gf l' done' (i:Int) (gp b35) v1 v2 v3 v4 V') ?_ ?_
   ·intro l' done' acc' V' v1 v2 v3 v4 a1 a2 a3 a4;refine j0 (N8 (D4 a3 (by rfl)) ?_)
    (refine l6 rfl ?_;try dsimp only)
    refine aP0 a1 (by omega) ?_;intro l'' V'' hE'' _;rw[D7 (x:=(i:Int)+1) (by omega) (by omega)];rw[show(i:Int)+1=((i+1:Nat):Int)from by omega];refine ih (i+1) l'' done' _ V'' (by omega) hE'' (by rw[P3];simp;omega) ?_;rw[U7];exact a4
   intro j36 h36;refine K5 (fun j=>∀v1 v2 v3 v4,j (gp b) gh gu gf l done (i:Int) (gp b35) v1 v2 v3 v4 (!done&&ltB gu k) V2) ?_ ?_
   ·intro v1 v2 v3 v4;cases ht:(!done&&ltB gu k) with
    |false =>
     refine l7 rfl (h36 l done acc V2 _ _ _ _ hE2 (by omega) k35 ?_);unfold aC1 at ou;rw[d7 (by rw[ht];decide)]at ou;exact ou
    |true =>
     refine l9 rfl (aP0 hE2 (by omega) ?_);intro l' V' qr oq;refine h36 l' true _ V' _ _ _ _ qr (by rw[P3];simp;omega) (oq _ _ k35 hlb) ?_;unfold aC1 at ou;rw[d8 ht]at ou;rw[U7];exact ou
   ·intro j55 h55;cases done with
    |true=>exact l7 rfl (h55 _ _ _ _)
    |false =>
     refine l9 rfl (C6 (f0 k35 (by rfl)) ?_);rw[aT7];exact h55 _ _ _ _
 exact key ks.length 0 ⟨none,0,0⟩ false [] Y (by omega) ⟨Gr.refl _,E0.nil _ _ _,fun g h=>by cases h⟩ (by simp) (by simpa using hT)
end
section
variable {Y Y':H} {b:Nat} {A:AT} {M:RfM} {N:Nat}
theorem bD3:Tryz.prog.underlying 72=some (.slice 75):=by kernel_rfl
theorem bR7:E6 Tryz.prog 72=some 1:=by kernel_rfl
theorem br4:∃i z,Tryz.prog.info? 75=some i/\i.zero=some z/\i.size=1/\i.bytes=8/\z.cells.size=1:=by
 have h1:(Tryz.prog.info? 75).map (fun i=>(i.zero.map (fun z=>z.cells.size),i.size,i.bytes))=some (some 1,1,8):=by kernel_rfl
 cases hi:Tryz.prog.info? 75 with
 |none=>rw[hi]at h1;cases h1
 |some i =>
  rw[hi]at h1;simp only[Option.map_some,Option.some.injEq,Prod.mk.injEq]at h1;cases hz:i.zero with
  |none=>rw[hz]at h1;cases h1.1
  |some z =>
   rw[hz]at h1;exact⟨i,z,rfl,hz,h1.2.1,h1.2.2,by simpa using h1.1⟩
def AT.plus(A:AT)(n:AN):AT:={A with last:=A.last+1,nodes:=up (A.last+1) n A.nodes}
theorem aq3(A:AT)(n:AN)(j:Int):(AT.plus A n).get j=if j=A.last+1 then some n else A.get j:=by
 unfold AT.plus AT.get;simp only[ax0];by_cases h:j=A.last+1<;>simp[h]
def RfM.plus(M:RfM)(l:Int)(x':Sl)(c13:Nat):RfM:=⟨x',fun j=>if j=l then c13 else M.cb j,fun j=>if j=l then⟨none,0,0⟩else M.ey j,fun c=>if c=c13 then some (l,false)else if x'.base=some ⟨c,0,none⟩then some (0,true)else M.w c⟩
theorem N9.plus(h:N9 Y b A M)(hI:Wk.Inv A){n:AN}(ia:n.gj=[]){c13:Nat}{x':Sl}{V1 V2:H}(hg:Gr Y Y')(Fy:Y c13=none)(De:Y' c13=some (ak3 n ⟨none,0,0⟩))
 (hx:E0 V1 75 1 (P9 A M.cb++[[.q c13]]) x') (gw:(∃g o,M.x.base=some ⟨g,0,none⟩/\x'.base=M.x.base/\P1 Y' g o V1)\/(∃g,x'.base=some ⟨g,0,none⟩/\Y' g=none/\Gr Y' V1))
 (hp:P1 V1 b (.c [.i A.qi,.i A.qb,.slice x'.base x'.len x'.cap] 74) V2) :
 N9 V2 b (AT.plus A n) (M.plus (A.last+1) x' c13)/\(∀c o,Y c=some o->M.w c=none->V2 c=some o/\(M.plus (A.last+1) x' c13).w c=none):=by
 have ji:∀i n,A.get i=some n->1<=i/\i<=A.last:=hI.low;have Eh:=hI.last_pos;have w13:M.w c13=none:=h.new Fy;have Af:c13≠b:=fun e=>by rw[e,h.wb]at w13;cases w13
 -- the new row's block
 have Fz:∀g,x'.base=some ⟨g,0,none⟩->M.w g=some (0,true)\/(Y' g=none/\M.w g=none):=by
  intro g ir;rcases gw with⟨g',o,q1,q2,q3⟩|⟨g',q1,q2,q3⟩
  ·rw[q2]at ir;exact .inl (h.wt g ir)
  ·rw[q1]at ir;injection ir with ir
   injection ir with ir
   subst ir;exact .inr ⟨q2,h.new (A9 hg q2)⟩
 have hxb:x'.base≠some ⟨b,0,none⟩:=by
  intro e;rcases Fz b e with e2|⟨_,e2⟩<;>rw[h.wb]at e2<;>cases e2
 have tc:x'.base≠some ⟨c13,0,none⟩:=by
  intro e;rcases Fz c13 e with e2|⟨e2,_⟩
  ·rw[w13]at e2;cases e2
  ·rw[De]at e2;cases e2
 have keep:∀c o,Y' c=some o->M.w c≠some (0,true)->c≠b->V2 c=some o:=by
  intro c o hc hw hb;refine hp.get hb ?_;rcases gw with⟨g',o',q1,q2,q3⟩|⟨g',q1,q2,q3⟩
  ·exact q3.get (fun e=>hw (by rw[e];exact h.wt g' q1)) hc
  ·exact q3.get hc
 have keepR:∀i n,A.get i=some n->E0 V2 140 2 (aj8 n.gj) (M.ey i):=by
  intro i m hm;refine(h.ent i m hm).keep fun g o ir ho=>keep g o (hg.get ho) ?_ ?_
  ·rw[h.we i m g hm ir];intro e;injection e with e;injection e with e _;have:=(ji i m hm).1;omega
  ·intro e;have:=h.we i m g hm ir;rw[e,h.wb]at this;injection this with this;injection this with _ this;cases this
 have gx:∀j m,(AT.plus A n).get j=some m->(j=A.last+1/\m=n)\/(j≠A.last+1/\A.get j=some m):=by
  intro j m hm;rw[aq3]at hm;by_cases e:j=A.last+1
  ·rw[d8 e]at hm;exact .inl ⟨e,(Option.some.inj hm).symm⟩
  ·rw[d7 e]at hm;exact .inr ⟨e,hm⟩
 have Ga:V2 c13=some (ak3 n ⟨none,0,0⟩):=keep c13 _ De (by rw[w13];simp) Af;refine⟨⟨?_,?_,?_,?_,?_,?_,?_,?_,?_⟩,?_⟩
 ·exact hp.same
 ·have : P9 (AT.plus A n) (M.plus (A.last + 1) x' c13).cb = P9 A M.cb ++ [[.q c13]] := by
   unfold P9;have e1:(AT.plus A n).last.toNat=A.last.toNat+1:=by show(A.last+1).toNat=_;omega
   rw[e1,List.range_succ,List.map_append]
   congr 1
   ·apply List.map_congr_left;intro k hk;have hk:k<A.last.toNat:=List.mem_range.1 hk;rw[aq3,d7 (show ¬ ((k:Int)+1=A.last+1)by omega)];show [Value.pointer (if(A.get ((k:Int)+1)).isSome then some ⟨(if(k:Int)+1=A.last+1 then c13 else M.cb ((k:Int)+1)),0,none⟩else none)]=_;rw[d7 (show ¬ ((k:Int)+1=A.last+1)by omega)]
   ·have e2:((A.last.toNat:Nat):Int)+1=A.last+1:=by omega
    simp only[H5,List.map_nil,e2,aq3,if_true];show [[Value.pointer (some ⟨(if A.last+1=A.last+1 then c13 else M.cb (A.last+1)),0,none⟩)]]=_;rw[d8 rfl]
  show E0 V2 75 1 (P9 (AT.plus A n) (M.plus (A.last+1) x' c13).cb) x';rw[this];exact hx.put hp hxb
 ·intro j m hm;rcases gx j m hm with⟨e1,e2⟩|⟨e1,e2⟩
  ·subst e1;subst e2;show V2 (if A.last+1=A.last+1 then c13 else M.cb (A.last+1))=some (ak3 m (if A.last+1=A.last+1 then⟨none,0,0⟩else M.ey (A.last+1)));rw[d8 rfl,d8 rfl];exact Ga
  ·show V2 (if j=A.last+1 then c13 else M.cb j)=some (ak3 m (if j=A.last+1 then⟨none,0,0⟩else M.ey j));rw[d7 e1,d7 e1];obtain⟨l1,_⟩:=h.low (fun i n hn=>(ji i n hn).1) e2;refine keep _ _ (hg.get (h.nod j m e2)) ?_ l1;rw[h.wn j m e2];intro e;injection e with e;injection e with _ e;cases e
 ·intro j m hm;rcases gx j m hm with⟨e1,e2⟩|⟨e1,e2⟩
  ·subst e1;subst e2;show E0 V2 140 2 (aj8 m.gj) (if A.last+1=A.last+1 then⟨none,0,0⟩else M.ey (A.last+1));rw[d8 rfl,ia];exact E0.nil _ _ _
  ·show E0 V2 140 2 (aj8 m.gj) (if j=A.last+1 then⟨none,0,0⟩else M.ey j);rw[d7 e1];exact keepR j m e2
 ·show(if b=c13 then _ else if x'.base=some ⟨b,0,none⟩then _ else M.w b)=_;rw[d7 (Ne.symm Af),d7 hxb];exact h.wb
 ·intro g ir;have ir:x'.base=some ⟨g,0,none⟩:=ir;show(if g=c13 then _ else if x'.base=some ⟨g,0,none⟩then _ else M.w g)=_;rw[d7 (fun e=>tc (by rw[<-e];exact ir)),d8 ir]
 ·intro j m hm;rcases gx j m hm with⟨e1,e2⟩|⟨e1,e2⟩
  ·subst e1;show(if(if A.last+1=A.last+1 then c13 else M.cb (A.last+1))=c13 then _ else _)=_;rw[d8 rfl,d8 rfl]
  ·have zc:=h.wn j m e2;show(if(if j=A.last+1 then c13 else M.cb j)=c13 then _ else if x'.base=some ⟨(if j=A.last+1 then c13 else M.cb j),0,none⟩then _ else M.w (if j=A.last+1 then c13 else M.cb j))=_
   rw[d7 e1,d7 (fun e=>by rw[e,w13]at zc;cases zc),d7 (fun e=>by
    rcases Fz _ e with e3|⟨_,e3⟩<;>rw[zc]at e3
    ·injection e3 with e3;injection e3 with _ e3;cases e3
    ·cases e3)]
   exact zc
 ·intro j m g hm ir;rcases gx j m hm with⟨e1,e2⟩|⟨e1,e2⟩
  ·subst e1;have ir:(if A.last+1=A.last+1 then(⟨none,0,0⟩:Sl)else M.ey (A.last+1)).base=some ⟨g,0,none⟩:=ir;rw[d8 rfl]at ir;cases ir
  ·have ir:(if j=A.last+1 then(⟨none,0,0⟩:Sl)else M.ey j).base=some ⟨g,0,none⟩:=ir;rw[d7 e1]at ir;have zc:=h.we j m g e2 ir;have uu:=(ji j m e2).1;show(if g=c13 then _ else if x'.base=some ⟨g,0,none⟩then _ else M.w g)=_
   rw[d7 (fun e=>by rw[e,w13]at zc;cases zc),d7 (fun e=>by
    rcases Fz _ e with e3|⟨_,e3⟩<;>rw[zc]at e3
    ·injection e3 with e3;injection e3 with e3 _;omega
    ·cases e3)]
   exact zc
 ·intro c hc;have hc:(if c=c13 then some (A.last+1,false)else if x'.base=some ⟨c,0,none⟩then some (0,true)else M.w c)≠none:=hc;by_cases e1:c=c13
  ·rw[e1,Ga];simp
  by_cases e2:c=b
  ·rw[e2,hp.same];simp
  by_cases e3:x'.base=some ⟨c,0,none⟩
  ·exact(hx.put hp hxb).has e3
  ·rw[d7 e1,d7 e3]at hc;have:=h.has c hc;cases ho:Y c with
   |none=>exact m7 ho this
   |some o =>
    by_cases e4:M.w c=some (0,true)
    ·-- the old row: it stays,or it was the same block
     rcases gw with⟨g',o',q1,q2,q3⟩|⟨g',q1,q2,q3⟩
     ·by_cases e5:c=g'
      ·exfalso;apply e3;rw[q2,q1,e5]
      ·rw[hp.get e2 (q3.get e5 (hg.get ho))];simp
     ·rw[hp.get e2 (q3.get (hg.get ho))];simp
    ·rw[keep c o (hg.get ho) e4 e2];simp
 ·intro c o hc hw;refine⟨keep c o (hg.get hc) (by rw[hw];simp) (fun e=>by rw[e,h.wb]at hw;cases hw),?_⟩;show(if c=c13 then some (A.last+1,false)else if x'.base=some ⟨c,0,none⟩then some (0,true)else M.w c)=none
  rw[d7 (fun e=>by rw[e,Fy]at hc;cases hc),d7 (fun e=>by
   rcases Fz _ e with e3|⟨e3,_⟩
   ·rw[hw]at e3;cases e3
   ·rw[hg.get hc]at e3;cases e3)]
  exact hw
end
section
variable {Y Y':H} {b:Nat} {A:AT} {M:RfM} {N:Nat}
theorem aU9(hI:Wk.Inv A)(hB:Bd N A)(hN:N<=100000000)(hM:N9 Y b A M){d:Int}{gu data:d9}{kind mode px:Int}(im:A.isDir (d+1))(il:S3 gu=0)(lq:ac5 kind mode data=0)(hf:A.find (d+1) gu=none){K:KH}
 (hK:∀Y' M',N9 Y' b (A.makeR (d+1) gu kind mode data).2.2 M'->(∀c o,Y c=some o->M.w c=none->Y' c=some o/\M'.w c=none)->K (.i (A.makeR (d+1) gu kind mode data).2.1) Y') :
 i7 59 [.q b,.g [.i d,.s gu,.i px],.i kind,.i mode,.s data] K Y:=by
 have ie:A.makeE (d+1) gu kind mode data=A.roomE 1 (data.size:Int):=by
  unfold AT.makeE;simp only[N0,AT.dirE_of im,il,lq,hf,Option.isSome_none,D2,if_false,if_true];by_cases h:A.roomE 1 (data.size:Int)=0
  ·rw[d8 h,h]
  ·rw[d7 h]
 refine c59 _ _ _ _ _ _ _ ?_;unfold g59;refine A5 ?_;intro b8 Y1 g1 e1 n1;refine l5 (br1 hI hB (by omega) (hM.gr g1) 1 (data.size:Int) (H2 ?_));by_cases hr:A.roomE 1 (data.size:Int)=0
 case neg =>
  have oj:A.roomE 1 (data.size:Int)=10:=by
   unfold AT.roomE at hr⊢;split at hr
   ·exact m7 rfl hr
   ·rename_i h;rw[d7 h]
  refine l9 (by simp[oj]) ?_;have zq:A.makeR (d+1) gu kind mode data=(0,10,A):=by
   rw[aO4 (by rw[ie,oj];decide),ie,oj]
  have:=hK Y1 M (by rw[zq];exact hM.gr g1) (fun c o hc hw=>⟨g1.get hc,hw⟩);rw[zq]at this;exact this
 refine l7 (by simp[hr]) ?_;have hmz:A.makeE (d+1) gu kind mode data=0:=by rw[ie,hr]
 have og:=hB.last;have Eh:=hI.last_pos;obtain⟨nd,ij,va⟩:=im;have li:=hM.gr g1;refine j0 (U6 (f0 li.top) ?_);refine A5 ?_;intro b13 Y2 g2 e2 n2;refine A5 ?_;intro b14 Y3 g3 e3 n3;obtain⟨i,z,i1,i2,i3,i4,i5⟩:=br4;have jl:=li.gr (g2.trans g3);have Gb:(P9 A M.cb).length=A.last.toNat:=by simp[P9]
 refine ax4 bD3 i1 i2 i3 i4 i5 (by decide) jl.tab e3 rfl (by intro u hu;simp at hu;subst hu;rfl) (by omega) (by decide) ?_;intro x' V1 hx gw;refine j0 ?_;have Gc:V1 b=some (.c [.i A.qi,.i A.qb,.slice M.x.base M.x.len M.x.cap] 74):=by
  rcases gw with⟨g,o,q1,q2,q3⟩|⟨g,q1,q2,q3⟩
  ·refine q3.get (fun e=>?_) jl.top;have:=jl.wt g q1;rw[<-e,jl.wb]at this;injection this with this;injection this with _ this;cases this
  ·exact q3.get jl.top
 refine C1 Gc bR7 ?_;intro V2 p2;have p2':P1 V1 b (.c [.i A.qi,.i A.qb,.slice x'.base x'.len x'.cap] 74) V2:=p2;clear p2;have iu:upR (⟨kind,mode,data,1,if kind=2 then 1 else 0,[]⟩:AN)=0:=by
  unfold upR;by_cases h:kind=2
  ·rw[d8 h];show(if kind=2 then(1:Int)else 0)-1=0;rw[d8 h];rfl
  ·rw[d7 h]
 have De:Y3 b13=some (ak3 ⟨kind,mode,data,1,if kind=2 then 1 else 0,[]⟩ ⟨none,0,0⟩):=by
  unfold ak3;rw[iu];exact g3.get e2
 obtain⟨hP,hPf⟩:=N9.plus (n:=⟨kind,mode,data,1,if kind=2 then 1 else 0,[]⟩) hM hI rfl ((g1.trans g2).trans g3) (A9 g1 n2) De hx gw p2'
 -- the place is still there
 have k8:V2 b8=some (.c [.i d,.s gu,.i px] 95):=by
  have h3:=(g2.trans g3).get e1;have hb8:b8≠b:=by intro e;rw[e,hM.top]at n1;cases n1
  refine p2'.get hb8 ?_;rcases gw with⟨g,o,q1,q2,q3⟩|⟨g,q1,q2,q3⟩
  ·exact q3.get (fun e=>by rw[e]at n1;exact hM.tab.has q1 n1) h3
  ·exact q3.get h3
 refine D1 (f0 k8) (C6 (f0 k8) (j0 (U6 (f0 p2'.same) ?_)));have kb:x'.len=A.last.toNat+1:=by
  have:=hx.1;rw[P3,Gb]at this;simpa using this
 have ew:IntKind.i64.wrap (((x'.len:Nat):Int)-1)=A.last:=by
  rw[D7 (by omega) (by omega)];omega
 show J0 _ _ [_,_,_,.i (IntKind.i64.wrap (((x'.len:Nat):Int)-1))] _ _ _;rw[ew];have rc:=hI.low _ _ ij;have tk:(AT.plus A ⟨kind,mode,data,1,if kind=2 then 1 else 0,[]⟩).get (d+1)=some nd:=by rw[aq3,d7 (by omega)];exact ij
 have sw:(AT.plus A ⟨kind,mode,data,1,if kind=2 then 1 else 0,[]⟩).get (A.last+1)=some ⟨kind,mode,data,1,if kind=2 then 1 else 0,[]⟩:=by rw[aq3,d8 rfl]
 have hL2:∀i n,(AT.plus A ⟨kind,mode,data,1,if kind=2 then 1 else 0,[]⟩).get i=some n->1<=i/\i<=(AT.plus A ⟨kind,mode,data,1,if kind=2 then 1 else 0,[]⟩).last:=by
  intro i n hn;rw[aq3]at hn;show 1<=i/\i<=A.last+1;by_cases e:i=A.last+1
  ·omega
  ·rw[d7 e]at hn;have:=hI.low _ _ hn;omega
 have vh:lk gu nd.gj=none:=by unfold AT.find at hf;rw[ij]at hf;exact hf
 refine l5 (aL0 hP hL2 (by show A.last+1<=_;omega) tk sw (by omega) vh (hI.enod _ _ ij) (by have:=hB.gj _ _ ij;omega) ?_);intro Y' M' hR ke;refine U9 ?_;have zq:A.makeR (d+1) gu kind mode data=(wr (A.last+1),0,A.made (d+1) gu kind mode data):=aO3 hmz;have zd:A.last<4611686018427387904:=by omega
 have:=hK Y' M' (by
  rw[zq];refine hR _ ?_ ?_ ?_ fun j=>?_
  ·show(A.made (d+1) gu kind mode data).qi=A.qi;rw[av0 hI zd ij];rfl
  ·show(A.made (d+1) gu kind mode data).qb=A.qb;rw[av0 hI zd ij];rfl
  ·show(A.made (d+1) gu kind mode data).last=A.last+1;rw[av0 hI zd ij];rfl
  ·show(A.made (d+1) gu kind mode data).get j=_;rw[ax9 hI zd ij];by_cases e1:j=d+1
   ·rw[d8 e1,d7 (by omega),d8 e1]
   ·rw[d7 e1];by_cases e2:j=A.last+1
    ·rw[d8 e2,d8 e2];unfold at2;by_cases h:kind=2
     ·rw[d8 h];simp[h]
     ·rw[d7 h];have:(kind==2)=false:=by simpa using h
      simp[this,h]
    ·rw[d7 e2,d7 e2,d7 e1,aq3,d7 e2]) (fun c o hc hw=>by
  obtain⟨q1,q2⟩:=hPf c o hc hw
  exact ke c o q1 q2)
 rw[zq]at this;exact this
theorem aL1(hI:Wk.Inv A)(hB:Bd N A)(hN:N<=100000000){D:Nat->Prop}(hA:Z2 Y b A D)(gb gc:d9){K:KH}
 (hK:∀Y' D',Z2 Y' b (A.mkdirF gb gc).2 D'->H1 Y D Y' D'->K (.i (A.mkdirF gb gc).1) Y') :
 i7 15 [.q b,.s gb,.s gc] K Y:=by
 obtain⟨M,hM,hD⟩:=hA;refine c15 _ _ _ ?_;unfold g15;refine l5 (as3 hI hB (by omega) hM gb gc false ?_);intro Y1 g1;have jf:=fun e=>K4 hI gb gc false e
 have ie:A.mkdirF gb gc=(let r:=A.locate gb gc false
  if r.1≠0 then(r.1,A)else if r.2.there=true then(6,A)else if(A.deep 13 r.2.gh).getD 0>=12 then(3,A)else let m:=A.makeR r.2.gh r.2.gu 2 493 gq;(m.2.1,m.2.2)):=by
  unfold AT.mkdirF AT.freshP;simp only;by_cases h:(A.locate gb gc false).1=0
  ·simp only[h,ne_eq,not_true_eq_false,if_false];cases h2:(A.locate gb gc false).2.there<;>simp
  ·simp[h]
 generalize A.locate gb gc false=r at jf ie⊢;obtain⟨e,p⟩:=r;simp only at ie;have same:∀ (V:H) (x:Int),A.mkdirF gb gc=(x,A)->Gr Y V->K (.i x) V:=by
  intro V x hx hg;rw[hx]at hK;exact hK V D ⟨M,hM.gr hg,hD⟩ (H1.gr hg)
 unfold plL;by_cases he:e=0
 case neg =>
  rw[d7 he];unfold plZ
  (refine l6 rfl ?_;try dsimp only)
  refine A5 ?_;intro b8 Y2 g2 e2 n2;refine C1 e2 I1 ?_;intro Y3 p3;refine l9 (by simpa using he) (same Y3 e (by rw[ie,d8 he]) (g1.trans (g2.putF p3 n2)))
 subst he;rw[d8 rfl];rw[d7 (by decide)]at ie;unfold plV
 (refine l6 rfl ?_;try dsimp only)
 refine A5 ?_;intro b8 Y2 g2 e2 n2;refine C1 e2 I1 ?_;intro Y3 p3;have iz:Gr Y Y3:=g1.trans (g2.putF p3 n2);have k8:Y3 b8=some (.c [.i (p.gh-1),.s p.gu,.i (if p.there then p.gf-1 else -1)] 95):=p3.same;have jl:=hM.gr iz;have hP:ab6 A p:=jf rfl;refine l7 rfl (D1 (f0 k8) ?_);cases ht:p.there with
 |true =>
  obtain⟨n,hn⟩:=ab6.get hI hP ht;have ji:=(hI.low _ _ hn).1;rw[d8 ht]at ie;refine l9 (by simp;omega) (same Y3 6 ie iz)
 |false =>
  rw[d7 (by rw[ht];decide)]at ie;have im:A.isDir p.gh:=hP.1;obtain⟨x,x1,_,x3,x4⟩:=hI.deep13 im;have ja:p.gh-1+1=p.gh:=by omega
  refine l7 rfl (D1 (f0 k8) (l5 (bq9 jl hI (d:=p.gh-1) (by rw[ja];exact im) (by rw[ja];exact x1) (C4 ?_))));rw[x1]at ie;simp only[Option.getD_some]at ie;by_cases hx:x>=12
  ·rw[d8 hx]at ie;exact l9 (by simpa using hx) (same Y3 3 ie iz)
  ·rw[d7 hx]at ie;refine l7 (by simpa using hx) (N8 (D4 k8) ?_)
   (refine l6 rfl ?_;try dsimp only)
   obtain⟨nm,fd⟩:=hP.named (hP.notThere ht);rw[d7 (by rw[ht];decide)]at fd;refine l5 (aU9 hI hB hN jl (d:=p.gh-1) (by rw[ja];exact im) nm (by unfold ac5 af2;simp[lk,bY4]) (by rw[ja];exact fd) ?_);intro Y' M' hR ke;rw[ja]at hR⊢;rw[ie]at hK;refine C4 (hK Y' (fun c=>M'.w c≠none) ⟨M',hR,fun c=>Iff.rfl⟩ ?_);intro c o hc hn;have hw:M.w c=none:=by
    cases h:M.w c with
    |none=>rfl
    |some r=>exact m7 ((hD c).2 (by rw[h];simp)) hn
   obtain⟨q1,q2⟩:=ke c o (iz.get hc) hw;exact⟨q1,fun h=>h q2⟩
end
section
variable {Y Y':H} {b:Nat} {A:AT} {M:RfM} {N:Nat}
theorem H1.of_frame{D:Nat->Prop}{M M':RfM}(hD:∀c,D c↔M.w c≠none)(h:∀c o,Y c=some o->M.w c=none->Y' c=some o/\M'.w c=none):H1 Y D Y' (fun c=>M'.w c≠none):=by
 intro c o hc hn;have hw:M.w c=none:=by
  cases h:M.w c with
  |none=>rfl
  |some r=>exact m7 ((hD c).2 (by rw[h];simp)) hn
 obtain⟨q1,q2⟩:=h c o hc hw;exact⟨q1,fun h=>h q2⟩
theorem aL2(hI:Wk.Inv A)(hB:Bd N A)(hN:N<=100000000){D:Nat->Prop}(hA:Z2 Y b A D)(gb gc data:d9)(more:Bool)(hz:data.size<=1000000000000000){K:KH}
 (hK:∀Y' D',Z2 Y' b (A.writeF gb gc data more).2 D'->H1 Y D Y' D'->K (.i (A.writeF gb gc data more).1) Y') :
 i7 17 [.q b,.s gb,.s gc,.s data,.bool more] K Y:=by
 obtain⟨M,hM,hD⟩:=hA;refine c17 _ _ _ _ _ ?_;unfold g17;refine l5 (as3 hI hB (by omega) hM gb gc true ?_);intro Y1 g1;have jf:=fun e=>K4 hI gb gc true e;have qm:=fun e t=>aV9 hI gb gc e t
 have ie:A.writeF gb gc data more=(let r:=A.locate gb gc true
  if r.1≠0 then(r.1,A)else if r.2.there=false then(let m:=A.makeR r.2.gh r.2.gu 1 420 data;(m.2.1,m.2.2))else if A.kind r.2.gf=2 then(7,A)else A.writeR r.2.gf (if more then A.data r.2.gf++data else data)):=rfl
 generalize A.locate gb gc true=r at jf ie qm⊢;obtain⟨e,p⟩:=r;simp only at ie;have same:∀ (V:H) (x:Int),A.writeF gb gc data more=(x,A)->Gr Y V->K (.i x) V:=by
  intro V x hx hg;rw[hx]at hK;exact hK V D ⟨M,hM.gr hg,hD⟩ (H1.gr hg)
 unfold plL;by_cases he:e=0
 case neg =>
  rw[d7 he];unfold plZ
  (refine l6 rfl ?_;try dsimp only)
  refine A5 ?_;intro b8 Y2 g2 e2 n2;refine C1 e2 I1 ?_;intro Y3 p3;refine l9 (by simpa using he) (same Y3 e (by rw[ie,d8 he]) (g1.trans (g2.putF p3 n2)))
 subst he;rw[d8 rfl];rw[d7 (by decide)]at ie;unfold plV
 (refine l6 rfl ?_;try dsimp only)
 refine A5 ?_;intro b8 Y2 g2 e2 n2;refine C1 e2 I1 ?_;intro Y3 p3;have iz:Gr Y Y3:=g1.trans (g2.putF p3 n2);have k8:Y3 b8=some (.c [.i (p.gh-1),.s p.gu,.i (if p.there then p.gf-1 else -1)] 95):=p3.same;have jl:=hM.gr iz;have hP:ab6 A p:=jf rfl;refine l7 rfl (D1 (f0 k8) ?_);cases ht:p.there with
 |false =>
  rw[d8 ht]at ie;have im:A.isDir p.gh:=hP.1;have ja:p.gh-1+1=p.gh:=by omega
  refine l9 rfl (N8 (D4 k8) ?_)
  (refine l6 rfl ?_;try dsimp only)
  obtain⟨nm,fd⟩:=hP.named (hP.notThere ht);rw[d7 (by rw[ht];decide)]at fd;refine l5 (aU9 hI hB hN jl (d:=p.gh-1) (by rw[ja];exact im) nm (by unfold ac5 af2;simp[lk]) (by rw[ja];exact fd) ?_);intro Y' M' hR ke;rw[ja]at hR⊢;rw[ie]at hK;refine C4 (hK Y' (fun c=>M'.w c≠none) ⟨M',hR,fun c=>Iff.rfl⟩ (H1.of_frame hD fun c o hc hw=>ke c o (iz.get hc) hw))
 |true =>
  obtain⟨n,hn⟩:=ab6.get hI hP ht;have ji:=(hI.low _ _ hn).1;have rb:A.kind p.gf=n.kind:=by unfold AT.kind;rw[hn];rfl
  have Cg:A.data p.gf=n.data:=by unfold AT.data;rw[hn];rfl
  have qm:=qm rfl ht;rw[d7 (by rw[ht];decide),rb,Cg]at ie;rw[rb]at qm;rw[d8 ht]at k8;have jx:p.gf-1+1=p.gf:=by omega
  obtain⟨gs,os,s1,s2,s3⟩:=jl.slot hI (d:=p.gf-1) (n:=n) (by rw[jx];exact hn);rw[jx]at s3;rw[d8 rfl];refine l7 (W4 (by omega)) (j0 (U6 (f0 jl.top) (D1 (f0 k8) ?_)));rw[s1];refine j0 (D0 s2 (E9 s3 (j0 (D1 (f0 (jl.nod _ _ hn)) ?_))));by_cases jc:n.kind=2
  ·rw[d8 jc]at ie;exact l9 (by simpa using jc) (same Y3 7 ie iz)
  rw[d7 jc]at ie;have sy:n.kind=1:=by
   rcases av4 (hI.like _ _ hn)with h|h|h
   ·exact h
   ·exact m7 h jc
   ·exact m7 h qm
  have hsz:=hI.size_le hn;have hbq:=hI.bq;refine l7 (by simpa using jc) ?_;refine K5 (fun j=>∀s:d9,s=(if more then n.data++data else data)->j (gp b) s (some ⟨M.cb p.gf,0,none⟩) Y3) ?_ ?_
  case refine_2 =>
   intro j hj;cases more with
   |true =>
    refine l9 rfl (j0 (C6 (f0 (jl.nod _ _ hn)) (D0 (by omega) (hj _ rfl))))
   |false=>exact l7 rfl (hj _ rfl)
  intro s hs;rw[<-hs]at ie;have hss:s.size<=2000000000000000:=by
   rw[hs];cases more with
   |true=>rw[d8 rfl,D8];omega
   |false=>rw[d7 (by decide)];omega
  refine j0 (C6 (f0 (jl.nod _ _ hn)) ?_);refine l5 (br1 hI hB (by omega) jl 0 _ (H2 ?_));have Bv:A.writeE p.gf s=A.roomE 0 (IntKind.i64.wrap (((s.size:Nat):Int)-((n.data.size:Nat):Int))):=by
   have pj:A.fileE p.gf=0:=by unfold AT.fileE;rw[hn];simp[sy]
   unfold AT.writeE;rw[hn];simp only[N0,pj,if_true,Option.map_some,Option.getD_some];show(if A.roomE 0 (wr (((s.size:Nat):Int)-((n.data.size:Nat):Int)))=0 then 0 else A.roomE 0 (wr (((s.size:Nat):Int)-((n.data.size:Nat):Int))))=_;by_cases h:A.roomE 0 (wr (((s.size:Nat):Int)-((n.data.size:Nat):Int)))=0
   ·rw[d8 h];exact h.symm
   ·rw[d7 h];rfl
  by_cases hr:A.roomE 0 (IntKind.i64.wrap (((s.size:Nat):Int)-((n.data.size:Nat):Int)))=0
  case neg =>
   have oj:A.roomE 0 (IntKind.i64.wrap (((s.size:Nat):Int)-((n.data.size:Nat):Int)))=10:=by
    unfold AT.roomE at hr⊢;split at hr
    ·exact m7 rfl hr
    ·rename_i h;rw[d7 h]
   refine l9 (by simp[oj]) (same Y3 10 ?_ iz);rw[ie];unfold AT.writeR;rw[d7 (by rw[Bv];exact hr),Bv,oj]
  ·refine l7 (by simp[hr]) (j0 ?_);refine C1 (jl.nod _ _ hn) U3 ?_;intro Y4 p4;have p4':P1 Y3 (M.cb p.gf) (ak3 { n with data:=s } (M.ey p.gf)) Y4:=p4;have Gd : ∀i n,A.get i=some n->1<=i:=fun i n hn=>(hI.low i n hn).1;have zb:=jl.setN Gd hn (n':={ n with data:=s }) (y':=M.ey p.gf) p4' (show E0 Y3 140 2 (aj8 n.gj) _ from jl.ent _ _ hn) (fun g hg => .inr (jl.we _ _ g hn hg));have hw0:A.writeF gb gc data more=(0,A.written p.gf s):=by
    rw[ie];unfold AT.writeR;rw[d8 (by rw[Bv];exact hr)]
   rw[hw0]at hK;refine hK Y4 (fun c=>(M.setE p.gf (M.ey p.gf)).w c≠none) ⟨_,zb.congr ?_ ?_ ?_ ?_,fun c=>Iff.rfl⟩ (H1.of_frame hD fun c o hc hw=>?_)
   ·unfold AT.written;rw[hn]
   ·unfold AT.written;rw[hn]
   ·unfold AT.written;rw[hn]
   ·intro j;unfold AT.written;rw[hn];rfl
   ·have uh:c≠M.cb p.gf:=fun e=>by rw[e,hM.wn _ _ hn]at hw;cases hw
    refine⟨p4'.get uh (iz.get hc),?_⟩;show(if(M.ey p.gf).base=some ⟨c,0,none⟩then some (p.gf,true)else M.w c)=none;rw[d7 (fun e=>by rw[hM.we _ _ c hn e]at hw;cases hw)];exact hw
end
section
variable {Y Y':H} {b:Nat} {A:AT} {M:RfM} {N:Nat}
theorem au3(hI:Wk.Inv A)(hB:Bd N A)(hN:N<=1000000000000)(hM:N9 Y b A M)(gb gc:d9)(fo:Bool){K:KH}
 (hK:∀Y',Gr Y Y'->K (.t [.i (if(A.with_ gb gc fo).1=0 then(A.with_ gb gc fo).2.1-1 else 0),.i (A.with_ gb gc fo).1]) Y') :
 i7 67 [.q b,.s gb,.s gc,.bool fo] K Y:=by
 refine c67 _ _ _ _ ?_;unfold g67;refine l5 (as3 hI hB hN hM gb gc fo ?_);intro Y1 g1;have jf:=fun e=>K4 hI gb gc fo e
 have ie:A.with_ gb gc fo=(let r:=A.locate gb gc fo
  if r.1≠0 then(r.1,0,IN.z)else if r.2.there=false then(5,0,IN.z)else match A.get r.2.gf with
   |none=>(5,0,IN.z)
   |some n=>(0,r.2.gf,n.inode)):=rfl
 generalize A.locate gb gc fo=r at jf ie⊢;obtain⟨e,p⟩:=r;simp only at ie;unfold plL;by_cases he:e=0
 case neg =>
  rw[d7 he];rw[d8 he]at ie;unfold plZ
  (refine l6 rfl ?_;try dsimp only)
  refine A5 ?_;intro b8 Y2 g2 e2 n2;refine C1 e2 I1 ?_;intro Y3 p3;have iz:Gr Y Y3:=g1.trans (g2.putF p3 n2);refine K5 (fun j=>j (gp b8) e false Y3) ?_ (fun j hj=>l7 (by simpa using he) hj);refine l7 rfl (j0 (D1 (f0 p3.same) ?_));have:=hK Y3 iz;rw[ie]at this;simp only[he,if_false]at this;exact this
 subst he;rw[d8 rfl];rw[d7 (by decide)]at ie;unfold plV
 (refine l6 rfl ?_;try dsimp only)
 refine A5 ?_;intro b8 Y2 g2 e2 n2;refine C1 e2 I1 ?_;intro Y3 p3;have iz:Gr Y Y3:=g1.trans (g2.putF p3 n2);have k8:Y3 b8=some (.c [.i (p.gh-1),.s p.gu,.i (if p.there then p.gf-1 else -1)] 95):=p3.same;have hP:ab6 A p:=jf rfl;have:=hK Y3 iz;cases ht:p.there with
 |false =>
  rw[d8 ht]at ie;rw[ie]at this;rw[d7 (by rw[ht];decide)]at k8;refine K5 (fun j=>j (gp b8) 0 true Y3) (l9 rfl this) ?_;intro j hj;refine l9 rfl (D1 (f0 k8) ?_);exact hj
 |true =>
  obtain⟨n,hn⟩:=ab6.get hI hP ht;have ji:=(hI.low _ _ hn).1;rw[d7 (by rw[ht];decide),hn]at ie;rw[ie]at this;rw[d8 ht]at k8;refine K5 (fun j=>j (gp b8) 0 false Y3) ?_ (fun j hj=>l9 rfl (D1 (f0 k8) ?_))
  ·exact l7 rfl (j0 (D1 (f0 k8) this))
  ·have:decide (p.gf-1<0)=false:=by exact W4
   rw[this];exact hj
theorem aL3(hI:Wk.Inv A)(hB:Bd N A)(hN:N<=100000000){D:Nat->Prop}(hA:Z2 Y b A D)(gb gc:d9)(mode:Int){K:KH}
 (hK:∀Y' D',Z2 Y' b (A.chmodF gb gc mode).2 D'->H1 Y D Y' D'->K (.i (A.chmodF gb gc mode).1) Y') :
 i7 19 [.q b,.s gb,.s gc,.i mode] K Y:=by
 obtain⟨M,hM,hD⟩:=hA;refine c19 _ _ _ _ ?_;unfold g19;have same:∀ (V:H) (x:Int),A.chmodF gb gc mode=(x,A)->Gr Y V->K (.i x) V:=by
  intro V x hx hg;rw[hx]at hK;exact hK V D ⟨M,hM.gr hg,hD⟩ (H1.gr hg)
 refine K5 (fun j=>j (gp b) gb gc mode (decide (mode<0\/mode>511)) Y) ?_ ?_
 case refine_2 =>
  intro j hj;by_cases c1:mode<0
  ·refine l9 (by simpa using c1) ?_;have:decide (mode<0\/mode>511)=true:=by simp[c1]
   rw[this]at hj;exact hj
  ·refine l7 (by simpa using c1) ?_;have:decide (mode<0\/mode>511)=decide (mode>511):=by simp[c1]
   rw[this]at hj;exact hj
 by_cases hm:mode<0\/mode>511
 ·refine l9 (by simpa using hm) (same Y 2 (by unfold AT.chmodF;rw[d8 hm]) (Gr.refl _))
 refine l7 (by simpa using hm) (l5 (au3 hI hB (by omega) hM gb gc true ?_));intro Y1 g1;have ie:A.chmodF gb gc mode=(if(A.with_ gb gc true).1≠0 then((A.with_ gb gc true).1,A)else A.chmodR (A.with_ gb gc true).2.1 mode):=by
  unfold AT.chmodF;rw[d7 hm]
 have hw:(A.with_ gb gc true).1=0->∃n,A.get (A.with_ gb gc true).2.1=some n:=by
  unfold AT.with_;simp only;intro h;split at h
  ·rename_i h2;exact m7 h h2
  ·rename_i h2;rw[d7 h2];split at h
   ·cases h
   ·rename_i h3;rw[d7 h3];cases hg:A.get (A.locate gb gc true).2.gf with
    |none=>rw[hg]at h;cases h
    |some n=>exact⟨n,hg⟩
 generalize A.with_ gb gc true=w at ie hw⊢;obtain⟨e,gf,x⟩:=w;simp only at ie hw;by_cases he:e=0
 case neg =>
  (refine l6 rfl ?_;try dsimp only)
  refine K5 (fun j=>j e Y1) ?_ (fun j hj=>l7 (by simpa using he) hj);exact same Y1 e (by rw[ie,d8 he]) g1
 subst he;obtain⟨n,hn⟩:=hw rfl;rw[d7 (by decide)]at ie;rw[d8 rfl]
 (refine l6 rfl ?_;try dsimp only)
 have ji:=(hI.low _ _ hn).1;have jx:gf-1+1=gf:=by omega
 have li:=hM.gr g1;have hc:A.chmodF gb gc mode=(0,A.chmoded gf mode):=by
  rw[ie];unfold AT.chmodR AT.chmodE;rw[d8 (show 0<=mode/\mode<=511 by omega),hn];rfl
 refine K5 (fun j=>∀V M',N9 V b (A.chmoded gf mode) M'->(∀c o,Y c=some o->M.w c=none->V c=some o/\M'.w c=none)->j 0 V) ?_ ?_
 ·intro V M' h1 h2;rw[hc]at hK;exact hK V (fun c=>M'.w c≠none) ⟨M',h1,fun c=>Iff.rfl⟩ (H1.of_frame hD h2)
 intro j hj;refine l9 rfl (af0 li hI (d:=gf-1) (n:=n) (by rw[jx];exact hn) ?_);rw[jx];refine C1 (li.nod _ _ hn) aj3 ?_;intro Y4 p4;have p4':P1 Y1 (M.cb gf) (ak3 {n with mode:=mode} (M.ey gf)) Y4:=p4;have zb:=li.setN (fun i n hn=>(hI.low i n hn).1) hn (n':={n with mode:=mode}) (y':=M.ey gf) p4' (show E0 Y1 140 2 (aj8 n.gj) _ from li.ent _ _ hn) (fun g hg=>.inr (li.we _ _ g hn hg));have pc:A.chmoded gf mode=A.set gf {n with mode:=mode}:=by unfold AT.chmoded AT.mod;rw[hn]
 rw[pc]at hj;refine hj Y4 _ zb fun c o hc hw=>?_;have uh:c≠M.cb gf:=fun e=>by rw[e,hM.wn _ _ hn]at hw;cases hw
 refine⟨p4'.get uh (g1.get hc),?_⟩;show(if(M.ey gf).base=some ⟨c,0,none⟩then some (gf,true)else M.w c)=none;rw[d7 (fun e=>by rw[hM.we _ _ c hn e]at hw;cases hw)];exact hw
theorem az9(hI:Wk.Inv A)(hB:Bd N A)(hN:N<=100000000){D:Nat->Prop}(hA:Z2 Y b A D)(gb target gc:d9)(hz:target.size<=1000000000000){K:KH}
 (hK:∀Y' D',Z2 Y' b (A.symlinkF gb target gc).2 D'->H1 Y D Y' D'->K (.i (A.symlinkF gb target gc).1) Y') :
 i7 21 [.q b,.s gb,.s target,.s gc] K Y:=by
 obtain⟨M,hM,hD⟩:=hA;refine c21 _ _ _ _ ?_;unfold g21;have same:∀ (V:H) (x:Int),A.symlinkF gb target gc=(x,A)->Gr Y V->K (.i x) V:=by
  intro V x hx hg;rw[hx]at hK;exact hK V D ⟨M,hM.gr hg,hD⟩ (H1.gr hg)
 have ib:target.data.toList.length=target.size:=(ah5 target).symm;refine H9 ?_;intro R hR;have key:∀ (c i:Nat),c+i=target.size->(0:J3)∉target.data.toList.take i->R (gp b) gb target gc (i:Int) Y:=by
  intro c
  induction c with
  |succ c ihc =>
   intro i hc kg;refine hR _ _ _ _ _ _ ?_;obtain⟨ch,pc⟩:∃ch,target.data.toList[i]?=some ch:=⟨_,G0 (by omega)⟩;refine l9 (M7 (by omega)) (X9 (c:=ch) (by omega) (by simpa using pc) ?_);by_cases oz:ch=0
   ·subst oz;have tr:W6 target=true:=by
     unfold W6;rw[List.any_eq_true];exact⟨0,K7 pc,by decide⟩
    refine l9 rfl (same Y 2 ?_ (Gr.refl _));unfold AT.symlinkF;rw[d8 (by unfold Z9;rw[tr];simp)]
   ·refine l7 ?_ ?_
    ·have : ¬ ((ch.toNat : Int) = 0) := by
      intro e;apply oz;have:ch.toNat=0:=by omega
      exact UInt8.toNat_inj.1 this
     simpa using this
    ·rw[D7 (x:=(i:Int)+1) (by omega) (by omega)];refine ihc (i+1) (by omega) ?_;rw[R1,pc];simp only[Option.toList_some,Q4,T9,not_or];exact⟨kg,fun e=>oz e.symm⟩
  |zero =>
   intro i hc kg;have hi:i=target.size:=by omega
   have tr:W6 target=false:=by
    rw[hi,<- ib,as5]at kg;unfold W6;rw[List.any_eq_false];intro x hx;simp only[beq_iff_eq]
    rintro rfl;exact kg hx
   refine hR _ _ _ _ _ _ ?_;refine l7 (W4 (by omega)) ?_;have lq:Z9 target=!(decide (target.size<1\/target.size>255)):=by
    unfold Z9;rw[tr];cases h0:E8 target gq with
    |true =>
     have:target.size=0:=by rw[J9.1 h0];rfl
     simp[this]
    |false =>
     have:target.size≠0:=by
      intro e;have:target=gq:=W9 (List.length_eq_zero_iff.1 (by rw[ib,e]));rw[this]at h0;exact m7 h0 (by decide)
     by_cases h2:target.size>255
     ·simp[h2]
     ·have h3:target.size<=255:=by omega
      have h4:¬ (target.size<1\/target.size>255):=by omega
      have e1:decide (target.size<=255)=true:=by simpa using h3
      have e2:decide (target.size<1\/target.size>255)=false:=by simp only[K6];exact h4
      rw[e1,e2];rfl
   refine K5 (fun j=>j (gp b) gb target gc (!Z9 target) Y) ?_ ?_
   case refine_2 =>
    intro j hj;rw[lq,bi2]at hj;by_cases c1:target.size<1
    ·refine l9 (M7 (by omega)) ?_;have:decide (target.size<1\/target.size>255)=true:=by simp[c1]
     rw[this]at hj;exact hj
    ·refine l7 (W4 (by omega)) ?_;have:decide (target.size<1\/target.size>255)=decide ((((target.size:Nat):Int))>255):=by
      by_cases h2:target.size>255
      ·have:((target.size:Nat):Int)>255:=by omega
       simp[h2,this]
      ·have h3:¬ ((target.size:Nat):Int)>255:=by omega
       have h4:¬ (target.size<1\/target.size>255):=by omega
       simp only[h3,h4]
     rw[this]at hj;exact hj
   cases hl:Z9 target with
   |false=>exact l9 rfl (same Y 2 (by unfold AT.symlinkF;rw[d8 hl]) (Gr.refl _))
   |true =>
    refine l7 rfl (l5 (as3 hI hB (by omega) hM gb gc false ?_));intro Y1 g1;have jf:=fun e=>K4 hI gb gc false e
    have ie:A.symlinkF gb target gc=(let r:=A.locate gb gc false
     if r.1≠0 then(r.1,A)else if r.2.there=true then(6,A)else let m:=A.makeR r.2.gh r.2.gu 3 511 target;(m.2.1,m.2.2)):=by
     unfold AT.symlinkF AT.freshP;rw[d7 (by rw[hl];decide)];simp only;by_cases h:(A.locate gb gc false).1=0
     ·simp only[h,ne_eq,not_true_eq_false,if_false];cases h2:(A.locate gb gc false).2.there<;>simp
     ·simp[h]
    generalize A.locate gb gc false=r at jf ie⊢;obtain⟨e,p⟩:=r;simp only at ie;unfold plL;by_cases he:e=0
    case neg =>
     rw[d7 he];unfold plZ
     (refine l6 rfl ?_;try dsimp only)
     refine A5 ?_;intro b8 Y2 g2 e2 n2;refine C1 e2 I1 ?_;intro Y3 p3;refine l9 (by simpa using he) (same Y3 e (by rw[ie,d8 he]) (g1.trans (g2.putF p3 n2)))
    subst he;rw[d8 rfl];rw[d7 (by decide)]at ie;unfold plV
    (refine l6 rfl ?_;try dsimp only)
    refine A5 ?_;intro b8 Y2 g2 e2 n2;refine C1 e2 I1 ?_;intro Y3 p3;have iz:Gr Y Y3:=g1.trans (g2.putF p3 n2);have k8:Y3 b8=some (.c [.i (p.gh-1),.s p.gu,.i (if p.there then p.gf-1 else -1)] 95):=p3.same;have jl:=hM.gr iz;have hP:ab6 A p:=jf rfl;refine l7 rfl (D1 (f0 k8) ?_);cases ht:p.there with
    |true =>
     obtain⟨n,hn⟩:=ab6.get hI hP ht;have ji:=(hI.low _ _ hn).1;rw[d8 ht]at ie;exact l9 (by simp;omega) (same Y3 6 ie iz)
    |false =>
     rw[d7 (by rw[ht];decide)]at ie;have im:A.isDir p.gh:=hP.1;have ja:p.gh-1+1=p.gh:=by omega
     refine l7 rfl (N8 (D4 k8) ?_)
     (refine l6 rfl ?_;try dsimp only)
     obtain⟨nm,fd⟩:=hP.named (hP.notThere ht);rw[d7 (by rw[ht];decide)]at fd;refine l5 (aU9 hI hB hN jl (d:=p.gh-1) (by rw[ja];exact im) nm (by unfold ac5 af2;simp[lk,hl]) (by rw[ja];exact fd) ?_);intro Y' M' hR ke;rw[ja]at hR⊢;rw[ie]at hK;exact C4 (hK Y' (fun c=>M'.w c≠none) ⟨M',hR,fun c=>Iff.rfl⟩ (H1.of_frame hD fun c o hc hw=>ke c o (iz.get hc) hw))
 exact key target.size 0 (by omega) (by simp)
end
section
variable {Y Y':H} {b:Nat} {A:AT} {M:RfM} {N:Nat}
theorem aL4{gh:Int}{nd:AN}{gu:d9}(hM:N9 Y b A M)(hL:∀i n,A.get i=some n->1<=i/\i<=A.last)(hd:A.get (gh+1)=some nd)(jo:(C5 nd.gj).Nodup)(ib:nd.gj.length<=100000000){K:KH}
 (hK:∀Y' M',N9 Y' b (A.set (gh+1) {nd with gj:=rm gu nd.gj}) M'->(∀c o,Y c=some o->M.w c=none->Y' c=some o/\M'.w c=none)->K (.t []) Y') :
 i7 100 [.q b,.i gh,.s gu] K Y:=by
 refine dp6 _ _ _ ?_;unfold cH3;refine H9 ?_;intro R hR;have hT:aj8 (rm gu nd.gj)=((E7 (C5 nd.gj)).filter fun k=>!C3 k gu).map fun k=>[Value.string k,.i ((lk k nd.gj).getD 0-1)]:=by
  unfold aj8;rw[ca6 jo];apply List.map_congr_left;intro k hk;have xj:(!C3 k gu)=true:=(List.mem_filter.1 hk).2;have ia:(k==gu)=false:=by
   cases e:(k==gu) with
   |false=>rfl
   |true =>
    have:k=gu:=by simpa using e
    rw[Z3.2 this]at xj;cases xj
  rw[ak1 jo,ia];rfl
 generalize sh:E7 (C5 nd.gj)=ks at hT;have tg:ks.length=nd.gj.length:=by rw[<-sh,(I7 _).length_eq];simp[C5]
 have Aw:∀ {V:H},N9 V b A M->(M.ey (gh+1)).len=ks.length:=by
  intro V h;have:=(h.ent _ _ hd).1;rw[<-sh];simpa[aj8]using this
 have wnew:∀c,Y c=none->M.w c=none:=fun c hc=>hM.new hc;have key:∀ (c i:Nat) (l:Sl) (V:H),c+i=ks.length->az8 Y V (((ks.take i).filter fun k=>!C3 k gu).map fun k=>[Value.string k,.i ((lk k nd.gj).getD 0-1)]) l->R (gp b) gh gu l (i:Int) V:=by
  intro c
  induction c with
  |zero =>
   intro i l V hc hE;have jt:=hM.gr hE.1;have pn:=Aw jt;rw[show ks.take i=ks from Q1 (by omega),<- hT]at hE;refine hR _ _ _ _ _ _ ?_;refine am6 jt hL hd (U6 (f0 (jt.nod _ _ hd) (by rfl)) (l7 (by simp only[K6];omega) ?_));have ji:∀i n,A.get i=some n->1<=i:=fun i n hn=>(hL i n hn).1;refine am6 jt hL hd ?_;refine C1 (jt.nod _ _ hd) br3 ?_;intro V1 p1;have p1':P1 V (M.cb (gh+1)) (ak3 {nd with gj:=rm gu nd.gj} l) V1:=p1;have li:=jt.setN ji hd (n':={nd with gj:=rm gu nd.gj}) (y':=l) p1' hE.2.1 (fun g hg=>.inl (wnew g (hE.2.2 g hg)));refine hK V1 _ li fun c o hc hw=>?_;have uh:c≠M.cb (gh+1):=fun e=>by rw[e,hM.wn _ _ hd]at hw;cases hw
   refine⟨p1'.get uh (hE.1.get hc),?_⟩;show(if l.base=some ⟨c,0,none⟩then some (gh+1,true)else M.w c)=none;rw[d7 (fun e=>by rw[hE.2.2 c e]at hc;cases hc)];exact hw
  |succ c ih =>
   intro i l V hc hE;have jt:=hM.gr hE.1;have pn:=Aw jt;obtain⟨k,hk⟩:∃k,ks[i]?=some k:=⟨_,G0 (by omega)⟩;obtain⟨gy,oy,q1,q2,_,q4⟩:=av8 (jt.ent _ _ hd) (by rw[sh];exact hk);have e0:(i:Int).toNat=i:=by omega
   have tp:(i:Int)<(((M.ey (gh+1)).len:Nat):Int):=by omega
   have qt:ks.take (i+1)=ks.take i++[k]:=by rw[R1,hk];rfl
   refine hR _ _ _ _ _ _ ?_;refine am6 jt hL hd (U6 (f0 (jt.nod _ _ hd) (by rfl)) (l9 (by simp only[I6];omega) ?_));refine K5 (fun j=>∀ (l':Sl) (V':H),az8 Y V' (((ks.take (i+1)).filter fun k=>!C3 k gu).map fun k=>[Value.string k,.i ((lk k nd.gj).getD 0-1)]) l'->j (gp b) gh gu l' (i:Int) V') ?_ ?_
   ·intro l' V' qr;rw[D7 (x:=(i:Int)+1) (by omega) (by omega)];rw[show(i:Int)+1=((i+1:Nat):Int)from by omega];exact ih (i+1) l' V' (by omega) qr
   intro j hj;rw[qt,List.filter_append,List.map_append]at hj;refine am6 jt hL hd (U6 (f0 (jt.nod _ _ hd) (by rfl)) ?_);rw[q1];refine j0 (D0 ⟨by omega,tp⟩ (C6 (by rw[e0];exact q2) ?_));cases hs:C3 k gu with
   |true =>
    refine l7 rfl (hj l V ?_);have:List.filter (fun k=>!C3 k gu) [k]=[]:=by simp[hs]
    rw[this];simpa using hE
   |false =>
    have Ew:List.filter (fun k=>!C3 k gu) [k]=[k]:=by simp[hs]
    rw[Ew]at hj;refine l9 rfl (am6 jt hL hd (U6 (f0 (jt.nod _ _ hd) (by rfl)) ?_));rw[q1];refine j0 (D0 ⟨by omega,tp⟩ (N8 (by rw[e0];exact q4) ?_))
    (refine l6 rfl ?_;try dsimp only)
    refine aP0 hE ?_ ?_
    ·rw[Q0];refine Nat.lt_of_le_of_lt (List.length_filter_le ..) ?_;rw[P4];omega
    ·intro l' V' qr _;exact hj l' V' qr
 exact key ks.length 0 ⟨none,0,0⟩ Y (by omega) ⟨Gr.refl _,E0.nil _ _ _,fun g h=>by cases h⟩
theorem N9.links{X:AT}{i:Int}{n:AN}{k:Int}(h:N9 Y b (X.set i n) M)(_:(X.set i n).get i=some n):N9 Y b (X.set i {n with links:=k}) M:=by
 have gx:∀j m,(X.set i {n with links:=k}).get j=some m->∃m0,(X.set i n).get j=some m0/\m0.kind=m.kind/\m0.mode=m.mode/\m0.data=m.data/\m0.up=m.up/\m0.gj=m.gj:=by
  intro j m hm;rw[AT.get_set]at hm⊢;by_cases e:j=i
  ·rw[d8 e]at hm⊢;cases hm;exact⟨n,rfl,rfl,rfl,rfl,rfl,rfl⟩
  ·rw[d7 e]at hm⊢;exact⟨m,hm,rfl,rfl,rfl,rfl,rfl⟩
 refine⟨h.top,?_,?_,?_,h.wb,h.wt,?_,?_,h.has⟩
 ·have : P9 (X.set i { n with links := k }) M.cb = P9 (X.set i n) M.cb := by
   unfold P9;apply List.map_congr_left;intro t _;rw[AT.get_set,AT.get_set];by_cases e:(t:Int)+1=i
   ·rw[d8 e,d8 e];rfl
   ·rw[d7 e,d7 e]
  rw[this];exact h.tab
 ·intro j m hm;obtain⟨m0,q1,q2,q3,q4,q5,q6⟩:=gx j m hm;have:=h.nod j m0 q1;unfold ak3 upR at this⊢;rw[q2,q3,q4,q5]at this;exact this
 ·intro j m hm;obtain⟨m0,q1,q2,q3,q4,q5,q6⟩:=gx j m hm;have:=h.ent j m0 q1;rw[q6]at this;exact this
 ·intro j m hm;obtain⟨m0,q1,_⟩:=gx j m hm;exact h.wn j m0 q1
 ·intro j m g hm hg;obtain⟨m0,q1,_⟩:=gx j m hm;exact h.we j m0 g q1 hg
theorem ci0(hI:Wk.Inv A)(hB:Bd N A)(hN:N<=100000000){D:Nat->Prop}(hA:Z2 Y b A D)(gb gk tq:d9){K:KH}
 (hK:∀Y' D',Z2 Y' b (A.hardF gb gk tq).2 D'->H1 Y D Y' D'->K (.i (A.hardF gb gk tq).1) Y') :
 i7 95 [.q b,.s gb,.s gk,.s tq] K Y:=by
 obtain⟨M,hM,hD⟩:=hA;refine c95 _ _ _ _ ?_;unfold g95;have same:∀ (V:H) (x:Int),A.hardF gb gk tq=(x,A)->Gr Y V->K (.i x) V:=by
  intro V x hx hg;rw[hx]at hK;exact hK V D ⟨M,hM.gr hg,hD⟩ (H1.gr hg)
 refine l5 (as3 hI hB (by omega) hM gb gk false ?_);intro Y1 g1;have jf:=fun e=>K4 hI gb gk false e;have Ge:=fun e=>K4 hI gb tq false e
 have ie:A.hardF gb gk tq=(let r:=A.locate gb gk false
  if r.1≠0 then(r.1,A) else
   let q:=A.locate gb tq false
   if q.1≠0 then(q.1,A)else if r.2.there=false then(5,A)else if A.kind r.2.gf=2 then(7,A)else if A.kind r.2.gf=3 then(2,A)else if q.2.there=true then(6,A)else A.linkR q.2.gh q.2.gu r.2.gf):=by
  unfold AT.hardF AT.both;simp only;by_cases h:(A.locate gb gk false).1=0
  ·simp only[h,ne_eq,not_true_eq_false,if_false]
  ·simp[h]
 generalize A.locate gb gk false=r at jf ie⊢;obtain⟨e,p⟩:=r;simp only at ie;unfold plL;by_cases he:e=0
 case neg =>
  rw[d7 he];unfold plZ
  (refine l6 rfl ?_;try dsimp only)
  refine A5 ?_;intro b8 Y2 g2 e2 n2;refine C1 e2 I1 ?_;intro Y3 p3;refine l9 (by simpa using he) (same Y3 e (by rw[ie,d8 he]) (g1.trans (g2.putF p3 n2)))
 subst he;rw[d8 rfl];rw[d7 (by decide)]at ie;unfold plV
 (refine l6 rfl ?_;try dsimp only)
 refine A5 ?_;intro b8 Y2 g2 e2 n2;refine C1 e2 I1 ?_;intro Y3 p3;have iz:Gr Y Y3:=g1.trans (g2.putF p3 n2);have k8:Y3 b8=some (.c [.i (p.gh-1),.s p.gu,.i (if p.there then p.gf-1 else -1)] 95):=p3.same;have jl:=hM.gr iz;have hP:ab6 A p:=jf rfl;clear p3 e2;refine l7 rfl (l5 (as3 hI hB (by omega) jl gb tq false ?_));intro Y4 g4;generalize A.locate gb tq false=r at Ge ie⊢;obtain⟨e,q⟩:=r;simp only at ie;unfold plL;by_cases he:e=0
 case neg =>
  rw[d7 he];unfold plZ
  (refine l6 rfl ?_;try dsimp only)
  refine A5 ?_;intro b9 Y5 g5 e5 n5;refine C1 e5 I1 ?_;intro Y6 p6;refine l9 (by simpa using he) (same Y6 e (by rw[ie,d8 he]) ((iz.trans g4).trans (g5.putF p6 n5)))
 subst he;rw[d8 rfl];rw[d7 (by decide)]at ie;unfold plV
 (refine l6 rfl ?_;try dsimp only)
 refine A5 ?_;intro b9 Y5 g5 e5 n5;refine C1 e5 I1 ?_;intro Y6 p6;have pw:Gr Y Y6:=(iz.trans g4).trans (g5.putF p6 n5);have k9:Y6 b9=some (.c [.i (q.gh-1),.s q.gu,.i (if q.there then q.gf-1 else -1)] 95):=p6.same;have k8:=(g4.trans (g5.putF p6 n5)).get k8;have ov:=hM.gr pw;have hQ:ab6 A q:=Ge rfl;clear p6 e5;refine l7 rfl (D1 (f0 k8 (by rfl)) ?_);cases ht:p.there with
 |false =>
  rw[d8 ht]at ie;exact l9 rfl (same Y6 5 ie pw)
 |true =>
  obtain⟨n,hn⟩:=ab6.get hI hP ht;have ji:=hI.low _ _ hn;have rb:A.kind p.gf=n.kind:=by unfold AT.kind;rw[hn];rfl
  rw[d7 (by rw[ht];decide),rb]at ie;rw[d8 ht]at k8;have jx:p.gf-1+1=p.gf:=by omega
  obtain⟨gs,os,s1,s2,s3⟩:=ov.slot hI (d:=p.gf-1) (n:=n) (by rw[jx];exact hn);rw[jx]at s3;rw[d8 rfl];refine l7 (by simp only[K6];omega) (j0 (U6 (f0 ov.top (by rfl)) (D1 (f0 k8 (by rfl)) ?_)));rw[s1];refine j0 (D0 s2 (E9 s3 (j0 (D1 (f0 (ov.nod _ _ hn) (by rfl)) ?_))));by_cases jc:n.kind=2
  ·rw[d8 jc]at ie;exact l9 (by simpa using jc) (same Y6 7 ie pw)
  rw[d7 jc]at ie;refine l7 (by simpa using jc) (j0 (U6 (f0 ov.top (by rfl)) (D1 (f0 k8 (by rfl)) ?_)));rw[s1];refine j0 (D0 s2 (E9 s3 (j0 (D1 (f0 (ov.nod _ _ hn) (by rfl)) ?_))));by_cases vu:n.kind=3
  ·rw[d8 vu]at ie;exact l9 (by simpa using vu) (same Y6 2 ie pw)
  rw[d7 vu]at ie;have sy:n.kind=1:=by
   rcases av4 (hI.like _ _ hn)with h|h|h
   ·exact h
   ·exact m7 h jc
   ·exact m7 h vu
  refine l7 (by simpa using vu) (D1 (f0 k9 (by rfl)) ?_);cases md:q.there with
  |true =>
   obtain⟨nq,vl⟩:=ab6.get hI hQ md;have hlq:=hI.low _ _ vl;rw[d8 md]at ie;exact l9 (by simp;omega) (same Y6 6 ie pw)
  |false =>
   rw[d7 (by rw[md];decide)]at ie;obtain⟨nm,fd⟩:=hQ.named (hQ.notThere md);rw[d7 (by rw[md];decide)]at fd;obtain⟨nd,ij,va⟩:=hQ.1;have ja:q.gh-1+1=q.gh:=by omega
   have ia:q.gh≠p.gf:=by intro e;rw[e,hn]at ij;cases ij;omega
   have hlkE:A.linkE q.gh q.gu p.gf=0:=by
    have pj:A.fileE p.gf=0:=by unfold AT.fileE;rw[hn];simp[sy]
    unfold AT.linkE;simp[N0,AT.dirE_of ⟨nd,ij,va⟩,nm,pj,fd]
   have hlR:A.hardF gb gk tq=(0,A.linked q.gh q.gu p.gf):=by rw[ie];unfold AT.linkR;rw[d8 hlkE]
   have vh:lk q.gu nd.gj=none:=by unfold AT.find at fd;rw[ij]at fd;exact fd
   have og:=hB.last;refine l7 rfl (D1 (f0 k9 (by rfl)) (C6 (f0 k9 (by rfl)) (D1 (f0 k8 (by rfl)) ?_)));refine l5 (aL0 ov hI.low (by omega) (by rw[ja];exact ij) (by rw[jx];exact hn) (by omega) vh (hI.enod _ _ ij) (by have:=hB.gj _ _ ij;omega) ?_);intro Y' M' hR ke;refine U9 ?_;rw[hlR]at hK;rw[jx,ja,d7 jc]at hR;have zf:A.ent q.gh (up q.gu p.gf)=A.set q.gh {nd with gj:=up q.gu p.gf nd.gj}:=by unfold AT.ent;rw[ij]
   have hlk2:A.linked q.gh q.gu p.gf=(A.set q.gh {nd with gj:=up q.gu p.gf nd.gj}).set p.gf {n with links:=wr (n.links+1)}:=by
    unfold AT.linked;rw[zf];unfold AT.mod;rw[AT.get_set_ne _ _ (Ne.symm ia),hn]
   have hR1:=hR ((A.set q.gh {nd with gj:=up q.gu p.gf nd.gj}).set p.gf n) rfl rfl rfl (fun j=>by rw[AT.get_set,AT.get_set]);refine hK Y' (fun c=>M'.w c≠none) ⟨M',?_,fun c=>Iff.rfl⟩ (H1.of_frame hD fun c o hc hw=>ke c o (pw.get hc) hw);show N9 Y' b (A.linked q.gh q.gu p.gf) M';rw[hlk2];exact hR1.links (by rw[AT.get_set_self]) 
end
section
variable {Y Y':H} {b:Nat} {A:AT} {M:RfM} {N:Nat}
theorem bI7(es:List (d9×Int))(j:Int):∀l:List d9,am1 es j l<=l.length:=by
 intro l
 induction l with
 |nil=>exact A7 _
 |cons k r ih=>simp only[am1,H4,Wk.one];split<;>omega
theorem cp4{f:AN->Nat}{l:List (Int×AN)}{L:Nat}(h:∀i n,lk i l=some n->f n<=L):∀i:Nat,Q2 f l i<=i*L:=by
 intro i
 induction i with
 |zero=>simp[Q2]
 |succ i ih =>
  simp only[Q2];rw[Nat.succ_mul];cases hl:lk ((i:Int)+1) l with
  |none=>simp;omega
  |some n=>have:=h _ n hl;simp;omega
theorem aL5(hM:N9 Y b A M)(hL:∀i n,A.get i=some n->1<=i/\i<=A.last)(hz:A.last<=100000000)(jo:∀i n,A.get i=some n->(C5 n.gj).Nodup)(ib:∀i n,A.get i=some n->n.gj.length<=100000000)(gf:Int){K:KH}
 (hK:K (.i ((if gf=0 then 1 else 0)+(Q2 (P2 (gf+1)) A.nodes A.last.toNat:Int))) Y):i7 110 [.q b,.i gf] K Y:=by
 refine dq9 _ _ ?_;unfold cJ3;have jr:∀i:Nat,Q2 (P2 (gf+1)) A.nodes i<=i*100000000:=cp4 fun i n hn=>by
  have h1:P2 (gf+1) n=am1 n.gj (gf+1) (C5 n.gj):=(aZ3 _ (jo i n hn)).symm;have h2:=bI7 n.gj (gf+1) (C5 n.gj);have h3:(C5 n.gj).length=n.gj.length:=by simp[C5]
  have:=ib i n hn;omega
 have kb:=hM.len;refine K5 (fun j=>∀s:Int,s=(if gf=0 then 1 else 0)->j (gp b) gf s Y) ?_ ?_
 case refine_2 =>
  intro j hj;by_cases h:gf=0
  ·exact l9 (by simpa using h) (hj 1 (by rw[d8 h]))
  ·exact l7 (by simpa using h) (hj 0 (by rw[d7 h]))
 intro s hs;rw[<-hs]at hK;have hs01:0<=s/\s<=1:=by rw[hs];split<;>omega
 refine H9 ?_;intro R hR;have key:∀ (c i:Nat),c+i=A.last.toNat->R (gp b) gf (s+(Q2 (P2 (gf+1)) A.nodes i:Int)) (i:Int) Y:=by
  intro c
  induction c with
  |zero =>
   intro i hc;have hi:i=A.last.toNat:=by omega
   refine hR _ _ _ _ _ ?_;refine j0 (U6 (f0 hM.top (by rfl)) (l7 (by simp only[K6];omega) ?_));rw[hi];exact hK
  |succ c ih =>
   intro i hc;have hi8:i<100000000:=by omega
   have hsi:=jr i;have pz:∀t:Int,t=s+(Q2 (P2 (gf+1)) A.nodes (i+1):Int)->R (gp b) gf t (IntKind.i64.wrap ((i:Int)+1)) Y:=by
    intro t ht;rw[ht,D7 (x:=(i:Int)+1) (by omega) (by omega),show(i:Int)+1=((i+1:Nat):Int)from by omega];exact ih (i+1) (by omega)
   refine hR _ _ _ _ _ ?_;refine j0 (U6 (f0 hM.top (by rfl)) (l9 (by simp only[I6];omega) (H9 ?_)));intro R2 mo;obtain⟨gs,os,s1,s2,s3⟩:=hM.ptr (i:=i) (by omega);cases gx:A.get ((i:Int)+1) with
   |none =>
    rw[gx]at s3;have z1:Q2 (P2 (gf+1)) A.nodes (i+1)=Q2 (P2 (gf+1)) A.nodes i:=by
     simp only[Q2];rw[show lk ((i:Int)+1) A.nodes=none from gx];rfl
    refine mo _ _ _ _ _ _ ?_;refine K5 (fun j=>∀v1 v2 v3 v4 v5 v6 v7 v8 v9 v10 v11 v12 v13,j (gp b) gf (s+(Q2 (P2 (gf+1)) A.nodes i:Int)) (i:Int) 0 v1 v2 v3 v4 v5 v6 v7 v8 v9 v10 v11 v12 v13 false Y) ?_ ?_
    ·intro v1 v2 v3 v4 v5 v6 v7 v8 v9 v10 v11 v12 v13;exact l7 rfl (pz _ (by rw[z1]))
    ·intro j hj;refine j0 (U6 (f0 hM.top (by rfl)) ?_);rw[s1];refine j0 (D0 s2 (E9 s3 (l7 rfl ?_)));exact hj _ _ _ _ _ _ _ _ _ _ _ _ _
   |some n =>
    rw[gx]at s3;have he:=hM.ent _ _ gx;have tg:(E7 (C5 n.gj)).length=n.gj.length:=by rw[(I7 _).length_eq];simp[C5]
    have lc:(M.ey ((i:Int)+1)).len=(E7 (C5 n.gj)).length:=by have:=he.1;simpa[aj8]using this
    have hl8:=ib _ _ gx;have z1:Q2 (P2 (gf+1)) A.nodes (i+1)=Q2 (P2 (gf+1)) A.nodes i+am1 n.gj (gf+1) (E7 (C5 n.gj)):=by
     simp only[Q2];rw[show lk ((i:Int)+1) A.nodes=some n from gx,bm8 _ (jo _ _ gx)];rfl
    have key2:∀ (c2 k:Nat),c2+k=(E7 (C5 n.gj)).length->R2 (gp b) gf (s+(Q2 (P2 (gf+1)) A.nodes i:Int)+(am1 n.gj (gf+1) ((E7 (C5 n.gj)).take k):Int)) (i:Int) (k:Int) Y:=by
     intro c2
     induction c2 with
     |zero =>
      intro k hk;refine mo _ _ _ _ _ _ ?_;refine K5 (fun j=>∀v1 v2 v3 v4 v5 v6 v7 v8 v9 v10 v11 v12 v13,j (gp b) gf (s+(Q2 (P2 (gf+1)) A.nodes i:Int)+(am1 n.gj (gf+1) ((E7 (C5 n.gj)).take k):Int)) (i:Int) (k:Int) v1 v2 v3 v4 v5 v6 v7 v8 v9 v10 v11 v12 v13 false Y) ?_ ?_
      ·intro v1 v2 v3 v4 v5 v6 v7 v8 v9 v10 v11 v12 v13;refine l7 rfl (pz _ ?_);rw[z1,Q1 (by omega)];omega
      ·intro j hj;refine j0 (U6 (f0 hM.top (by rfl)) ?_);rw[s1];refine j0 (D0 s2 (E9 s3 (l9 rfl ?_)));refine j0 (U6 (f0 hM.top (by rfl)) ?_);rw[s1];refine j0 (D0 s2 (E9 s3 (j0 (U6 (f0 (hM.nod _ _ gx) (by rfl)) ?_))));have hf:decide ((k:Int)<(((M.ey ((i:Int)+1)).len:Nat):Int))=false:=by simp only[K6];omega
       have:=hj (.i (k:Int));simp only[hf];exact this _ _ _ _ _ _ _ _ _ _ _ _
     |succ c2 ih2 =>
      intro k hk;obtain⟨nm,il⟩:∃nm,(E7 (C5 n.gj))[k]?=some nm:=⟨_,G0 (by omega)⟩;obtain⟨gy,oy,q1,_,q3,_⟩:=av8 he il;have hcl:=bI7 n.gj (gf+1) ((E7 (C5 n.gj)).take k);rw[P4]at hcl;have qt:am1 n.gj (gf+1) ((E7 (C5 n.gj)).take (k+1))=am1 n.gj (gf+1) ((E7 (C5 n.gj)).take k)+Wk.one (gf+1) ((lk nm n.gj).getD 0):=by
       rw[R1,il,ca7];simp[am1]
      refine mo _ _ _ _ _ _ ?_;refine K5 (fun j=>∀v1 v2 v3 v4 v5 v6 v7 v8 v9 v10 v11 v12 v13,j (gp b) gf (s+(Q2 (P2 (gf+1)) A.nodes i:Int)+(am1 n.gj (gf+1) ((E7 (C5 n.gj)).take k):Int)) (i:Int) (k:Int) v1 v2 v3 v4 v5 v6 v7 v8 v9 v10 v11 v12 v13 true Y) ?_ ?_
      ·intro v1 v2 v3 v4 v5 v6 v7 v8 v9 v10 v11 v12 v13;refine l9 rfl ?_;refine K5 (fun j=>∀t:Int,t=s+(Q2 (P2 (gf+1)) A.nodes i:Int)+(am1 n.gj (gf+1) ((E7 (C5 n.gj)).take (k+1)):Int)->j (gp b) gf t (i:Int) (k:Int) v1 v2 v3 v4 v5 v6 v7 v8 v9 v10 v11 v12 v13 Y) ?_ ?_
       ·intro t ht;rw[ht,D7 (x:=(k:Int)+1) (by omega) (by omega),show(k:Int)+1=((k+1:Nat):Int)from by omega];exact ih2 (k+1) (by omega)
       intro j hj;refine am6 hM hL gx (U6 (f0 (hM.nod _ _ gx) (by rfl)) ?_);rw[q1];have e0:(k:Int).toNat=k:=by omega
       refine j0 (D0 ⟨by omega,by show(k:Int)<(((M.ey ((i:Int)+1)).len:Nat):Int);omega⟩ (D1 (by rw[e0];exact q3) ?_));by_cases hv:(lk nm n.gj).getD 0=gf+1
       ·refine l9 (by simp[hv]) (hj _ ?_);rw[qt,D7 (by omega) (by omega)];unfold Wk.one;rw[d8 hv];omega
       ·refine l7 (by simp;omega) (hj _ ?_);rw[qt];unfold Wk.one;rw[d7 hv];omega
      ·intro j hj;refine j0 (U6 (f0 hM.top (by rfl)) ?_);rw[s1];refine j0 (D0 s2 (E9 s3 (l9 rfl ?_)));refine j0 (U6 (f0 hM.top (by rfl)) ?_);rw[s1];refine j0 (D0 s2 (E9 s3 (j0 (U6 (f0 (hM.nod _ _ gx) (by rfl)) ?_))));have hf:decide ((k:Int)<(((M.ey ((i:Int)+1)).len:Nat):Int))=true:=by simp only[I6];omega
       have:=hj (.i (k:Int));simp only[hf];exact this _ _ _ _ _ _ _ _ _ _ _ _
    have:=key2 (E7 (C5 n.gj)).length 0 (by omega);simpa[am1]using this
 have:=key A.last.toNat 0 (by omega);simpa[Q2]using this
end
section
variable {Y Y':H} {b:Nat} {A:AT} {M:RfM} {N:Nat}
def cC1(A:AT)(cb:Int->Nat):List u9:=(List.range A.last.toNat).map fun(i:Nat)=>.p (if(A.get ((i:Int)+1)).isSome then some ⟨cb ((i:Int)+1),0,none⟩else none)
theorem br5(A:AT)(cb:Int->Nat):(P9 A cb).flatten=cC1 A cb:=by
 unfold P9 cC1
 induction List.range A.last.toNat with
 |nil=>rfl
 |cons i r ih=>rw[H5,H5,List.flatten_cons,ih];rfl
theorem bR8:E6 Tryz.prog 75=some 1:=by kernel_rfl
def AT.minus(A:AT)(i:Int):AT:={A with nodes:=rm i A.nodes}
theorem aB5(A:AT)(h:(C5 A.nodes).Nodup)(i j:Int):(AT.minus A i).get j=if j=i then none else A.get j:=by
 unfold AT.minus AT.get;simp only[ak1 h];by_cases e:j=i<;>simp[e]
theorem cC2(h:N9 Y b A M)(hL:∀i n,A.get i=some n->1<=i/\i<=A.last)(ij:(C5 A.nodes).Nodup){d:Int}{n:AN}(hn:A.get (d+1)=some n){F:H->Prop}
 (hF:∀Y',N9 Y' b (AT.minus A (d+1)) M->(∀c o,Y c=some o->M.w c=none->Y' c=some o/\M.w c=none)->F Y') :
 i9 (gp b) (fun(b4 o5:Nat)=>l8 (m8 b4 (o5+2)) kL (fun(x6:Sl)=>i9 x6.base (fun(b7 o8:Nat)=>E3 (0<=d/\d<((x6.len:Nat):Int)) (A3 75 (.p (some ⟨b7,o8+d.toNat*1,none⟩)) (.p none) F)))) Y:=by
 obtain⟨l1,l2⟩:=hL _ _ hn;have hl:=h.len;obtain⟨t1,t2,⟨q0,q00,q000⟩|⟨g,cur,q1,q2,q3,q4,q5⟩⟩:=id h.tab
 ·have:(P9 A M.cb).length=A.last.toNat:=by simp[P9]
  rw[q000]at this;simp at this;omega
 refine j0 (U6 (f0 h.top) ?_);rw[q1];have rc:d.toNat<cur.length:=by rw[ao9]at q3;omega
 refine j0 (D0 ⟨by omega,by show d<((M.x.len:Nat):Int);omega⟩ ?_);have eo:0+d.toNat*1=d.toNat:=by omega
 rw[eo];refine aX3 q2 bR8 (by show Nat.ble (d.toNat+1) cur.length=true;exact Nat.ble_eq_true_of_le rc) (by rfl) ?_;intro Y' hp;have hgw:=h.wt g q1;have Br:cur.take d.toNat++aa5 (Value.pointer none).cells++cur.drop (d.toNat+(aa5 (Value.pointer none).cells).length)=cur.set d.toNat (.p none):=by
  show cur.take d.toNat++[Value.pointer none]++cur.drop (d.toNat+1)=_;rw[List.set_eq_take_append_cons_drop,d8 rc];simp
 rw[Br]at hp;have keep:∀c o,Y c=some o->M.w c≠some (0,true)->Y' c=some o:=fun c o hc hw=>hp.get (fun e=>hw (by rw[e];exact hgw)) hc;have gx:∀j m,(AT.minus A (d+1)).get j=some m->A.get j=some m:=by
  intro j m hm;rw[aB5 A ij]at hm;by_cases e:j=d+1
  ·rw[d8 e]at hm;cases hm
  ·rw[d7 e]at hm;exact hm
 refine hF Y' ⟨?_,?_,?_,?_,h.wb,h.wt,fun i n hn=>h.wn i n (gx i n hn),fun i n g hn=>h.we i n g (gx i n hn),?_⟩ ?_
 ·exact keep _ _ h.top (by rw[h.wb];intro e;injection e with e;injection e with _ e;cases e)
 ·refine⟨?_,?_,.inr ⟨g,cur.set d.toNat (.p none),q1,hp.same,by rw[List.length_set];exact q3,q4,?_⟩⟩
  ·rw[hl];simp[P9,AT.minus]
  ·intro r hr;unfold P9 at hr;rw[K0]at hr;obtain⟨_,_,rfl⟩:=hr;rfl
  ·rw[List.take_set,q5,br5,br5];apply List.ext_getElem?;intro k;rw[List.getElem?_set];unfold cC1;have el:(AT.minus A (d+1)).last=A.last:=rfl;rw[el,Z6,Z6,Q0,List.length_range];by_cases hk:k<A.last.toNat
   ·rw[List.getElem?_range hk];simp only[Option.map_some,aB5 A ij];by_cases e:d.toNat=k
    ·have e2:(k:Int)+1=d+1:=by omega
     rw[d8 e,d8 (by omega),d8 e2];rfl
    ·have e2:¬ ((k:Int)+1=d+1):=by omega
     rw[d7 e,d7 e2]
   ·have:(List.range A.last.toNat)[k]?=none:=by rw[List.getElem?_eq_none_iff];simp;omega
    rw[this];by_cases e:d.toNat=k
    ·exfalso;omega
    ·rw[d7 e];rfl
 ·intro i n hn;refine keep _ _ (h.nod i n (gx i n hn)) ?_;rw[h.wn i n (gx i n hn)];intro e;injection e with e;injection e with _ e;cases e
 ·intro i n hn;refine(h.ent i n (gx i n hn)).keep fun g2 o hx hg=>keep g2 o hg ?_;rw[h.we i n g2 (gx i n hn) hx];intro e;injection e with e;injection e with e _
  have:=(hL i n (gx i n hn)).1;omega
 ·intro c hc;by_cases e:c=g
  ·rw[e,hp.same];simp
  ·have:=h.has c hc;cases ho:Y c with
   |none=>exact m7 ho this
   |some o=>rw[hp.get e ho];simp
 ·intro c o hc hw;exact⟨keep c o hc (by rw[hw];simp),hw⟩
theorem br6(hM:N9 Y b A M)(hL:∀i n,A.get i=some n->1<=i/\i<=A.last)(hz:A.last<=100000000)(ij:(C5 A.nodes).Nodup)(jo:∀i n,A.get i=some n->(C5 n.gj).Nodup)(ib:∀i n,A.get i=some n->n.gj.length<=100000000){gf:Int}{n:AN}(hn:A.get (gf+1)=some n)(h0:gf≠0){K:KH}
 (hK:∀Y',N9 Y' b (if Q2 (P2 (gf+1)) A.nodes A.last.toNat=0 then AT.minus A (gf+1)else A) M->(∀c o,Y c=some o->M.w c=none->Y' c=some o/\M.w c=none)->K (.t []) Y') :
 i7 101 [.q b,.i gf] K Y:=by
 refine dp7 _ _ ?_;unfold cH5;refine l5 (aL5 hM hL hz jo ib gf (C4 ?_));rw[d7 h0];by_cases hs:Q2 (P2 (gf+1)) A.nodes A.last.toNat=0
 ·rw[d8 hs]at hK;refine l9 (by simp[hs]) (cC2 hM hL ij hn ?_);exact hK
 ·rw[d7 hs]at hK;exact l7 (by simp;omega) (hK Y hM fun c o hc hw=>⟨hc,hw⟩)
end
section
variable {Y Y':H} {b:Nat} {A:AT} {M:RfM} {N:Nat}
theorem bD4(hM:N9 Y b A M)(hI:Wk.Inv A){d gf:Int}(hd:A.isDir (d+1)){x:Bool}(hx:A.within (gf+1) 13 (d+1)=some x){K:KH}(hK:K (.bool x) Y):i7 98 [.q b,.i d,.i gf] K Y:=by
 refine c98 _ _ _ ?_;unfold g98;refine H9 ?_;intro R hR;have key:∀ (f:Nat) (d:Int),A.isDir (d+1)->A.within (gf+1) f (d+1)=some x->R (gp b) d gf Y:=by
  intro f
  induction f with
  |zero=>intro d _ h;cases h
  |succ f ih =>
   intro d hd hw;rw[AT.within]at hw;refine hR _ _ _ _ ?_;refine K5 (fun j=>∀v1 v2 (t:Bool),t=(d != gf&&d != 0)->j (gp b) d gf v1 v2 t Y) ?_ ?_
   case refine_2 =>
    intro j hj;cases h:(d != gf) with
    |true=>exact l9 rfl (hj _ _ _ (by rw[h];rfl))
    |false=>exact l7 rfl (hj _ _ _ (by rw[h];rfl))
   intro v1 v2 t ht;by_cases e1:d=gf
   ·subst e1;rw[d8 rfl]at hw;have:t=false:=by rw[ht];simp
    subst this;refine l7 rfl ?_;have hx1:x=true:=(Option.some.inj hw).symm;have:(d==d)=x:=by rw[hx1];simp
    rw[this];exact hK
   ·rw[d7 (by omega)]at hw;by_cases e2:d=0
    ·subst e2;rw[d8 (show(0:Int)+1=1 from rfl)]at hw;have:t=false:=by rw[ht];simp
     subst this;refine l7 rfl ?_;have hx1:x=false:=(Option.some.inj hw).symm;have:((0:Int)==gf)=x:=by rw[hx1];simpa using e1
     rw[this];exact hK
    ·rw[d7 (by omega)]at hw;have:t=true:=by rw[ht];simp[e1,e2]
     subst this;obtain⟨n,hn,hk⟩:=hd;have hu:A.upOf (d+1)=n.up:=by unfold AT.upOf;rw[hn];rfl
     have yx:=hI.isDir_up ⟨n,hn,hk⟩;rw[hu]at hw yx;have iu:upR n=n.up-1:=by unfold upR;rw[d8 hk]
     refine l9 rfl (af0 hM hI hn (D1 (f0 (hM.nod _ _ hn) (by rfl)) ?_));rw[iu];have e3:n.up-1+1=n.up:=by omega
     exact ih (n.up-1) (by rw[e3];exact yx) (by rw[e3];exact hw)
 exact key 13 d hd hx
theorem bD5(hM:N9 Y b A M)(hI:Wk.Inv A)(hB:Bd N A)(hN:N<=1000000000):∀ (f:Nat) (gf:Int) (n:AN),A.get (gf+1)=some n->f<=100->(∀d,A.isDir (gf+1)->A.deep 12 (gf+1)=some d->13<=f+d)->∀ {K:KH},K (.i (A.levels f (gf+1))) Y->i7 99 [.q b,.i gf] K Y:=by
 intro f
 induction f with
 |zero =>
  intro gf n hn _ hd K hK;refine c99 _ _ ?_;unfold g99;have hk:n.kind≠2:=by
   intro hk;obtain⟨d,se⟩:=hI.deep _ ⟨n,hn,hk⟩;have:=hd d ⟨n,hn,hk⟩ se;have:=aa0 se;omega
  exact af0 hM hI hn (D1 (f0 (hM.nod _ _ hn) (by rfl)) (l9 (by simpa using hk) hK))
 |succ f ih =>
  intro gf n hn hf hd K hK;have ju:=aB0 A f;have hkk:A.kind (gf+1)=n.kind:=by unfold AT.kind;rw[hn];rfl
  refine c99 _ _ ?_;unfold g99;unfold AT.levels at hK;rw[hkk]at hK;refine af0 hM hI hn (D1 (f0 (hM.nod _ _ hn) (by rfl)) ?_);by_cases hk:n.kind≠2
  ·rw[d8 hk]at hK;exact l9 (by simpa using hk) hK
  rw[d7 hk]at hK;have jc:n.kind=2:=by simpa using hk
  have im:A.isDir (gf+1):=⟨n,hn,jc⟩;obtain⟨di,Fr⟩:=hI.deep _ im;refine l7 (by simpa using jc) (H9 ?_);intro R hR;have il:A.gd (gf+1)=E7 (C5 n.gj):=by unfold AT.gd;rw[hn]
  have he:=hM.ent _ _ hn;have ib:(M.ey (gf+1)).len=(A.gd (gf+1)).length:=by rw[il];have:=he.1;simpa[aj8]using this
  have qm:(A.gd (gf+1)).length<=N:=by
   rw[il,(I7 _).length_eq];have:=hB.gj _ _ hn;simpa[C5]using this
  have key:∀ (l:List d9) (k:Nat) (x:Int),(A.gd (gf+1)).drop k=l->0<=x->x<=f->(A.gd (gf+1)).foldl (fun n s=>let x:=AT.levels A f ((A.find (gf+1) s).getD 0);if x>n then x else n) 0=l.foldl (fun n s=>let x:=AT.levels A f ((A.find (gf+1) s).getD 0);if x>n then x else n) x->R (gp b) gf x (k:Int) Y:=by
   intro l
   induction l with
   |nil =>
    intro k x Bz h1 h2 jk;have um:(A.gd (gf+1)).length<=k:=by simpa using Bz
    refine hR _ _ _ _ _ ?_;refine af0 hM hI hn (U6 (f0 (hM.nod _ _ hn) (by rfl)) (l7 (by simp only[K6];omega) ?_));rw[D7 (x:=1+x) (by omega) (by omega),Int.add_comm];rw[jk]at hK;exact hK
   |cons s r ihl =>
    intro k x Bz h1 h2 jk;obtain⟨hs,iw,ku⟩:=aH1 Bz;obtain⟨gy,oy,q1,_,q3,_⟩:=av8 he (by rw[<-il];exact hs);have hfi:A.find (gf+1) s=lk s n.gj:=by unfold AT.find;rw[hn];rfl
    obtain⟨j,hj⟩:=aK5 hI (K7 hs);obtain⟨nd,ij,_,hl,uu,m,hm,iu⟩:=hI.find hj;rw[hn]at ij;cases ij;rw[hl]at q3;refine hR _ _ _ _ _ ?_;refine af0 hM hI hn (U6 (f0 (hM.nod _ _ hn) (by rfl)) (l9 (by simp only[I6];omega) ?_));refine af0 hM hI hn (U6 (f0 (hM.nod _ _ hn) (by rfl)) ?_);rw[q1];have e0:(k:Int).toNat=k:=by omega
    refine j0 (D0 ⟨by omega,by show(k:Int)<(((M.ey (gf+1)).len:Nat):Int);omega⟩ (D1 (by rw[e0];exact q3) ?_));have ej:(some j).getD 0-1+1=j:=by simp
    refine l5 (ih ((some j).getD 0-1) m (by rw[ej];exact hm) (by omega) ?_ (C4 ?_))
    ·intro d' Di kl;rw[ej]at Di kl;obtain⟨m',oe,nv⟩:=Di;rw[hm]at oe;cases oe;have hu:A.upOf j=gf+1:=by unfold AT.upOf;rw[hm];exact iu nv
     rw[AT.deep,d7 uu,hu]at kl;cases tn:A.deep 11 (gf+1) with
     |none=>rw[tn]at kl;cases kl
     |some y =>
      rw[tn]at kl;simp only[Option.map_some,Option.some.injEq]at kl;have:=at0 tn;rw[Fr]at this;cases this;have:=hd di im Fr;omega
    ·rw[ej];have hb:=ju j;rw[ab9 (i:=k)];refine ihl (k+1) _ ku (by split<;>omega) (by split<;>omega) ?_;rw[jk,H3,hj]
     rfl
  exact key _ 0 0 rfl (by omega) (by omega) rfl
end
section
variable {Y Y':H} {b:Nat} {A:AT} {M:RfM} {N:Nat}
theorem aB6{gb gc:d9}{fo:Bool}(h:(A.with_ gb gc fo).1=0):∃n,A.get (A.with_ gb gc fo).2.1=some n/\(A.with_ gb gc fo).2.2=n.inode:=by
 unfold AT.with_ at h⊢;simp only at h⊢;split at h
 ·rename_i h2;exact m7 h h2
 ·rename_i h2;rw[d7 h2];split at h
  ·cases h
  ·rename_i h3;rw[d7 h3];cases hg:A.get (A.locate gb gc fo).2.gf with
   |none=>rw[hg]at h;cases h
   |some n=>exact⟨n,hg,rfl⟩
theorem bb4{gb gc:d9}{fo:Bool}(h:(A.with_ gb gc fo).1≠0):(A.with_ gb gc fo).2.2=IN.z:=by
 unfold AT.with_ at h⊢;simp only at h⊢;split at h
 ·rename_i h2;rw[d8 h2]
 ·rename_i h2;rw[d7 h2];split at h
  ·rename_i h3;rw[d8 h3]
  ·rename_i h3;rw[d7 h3];cases hg:A.get (A.locate gb gc fo).2.gf with
   |none=>rfl
   |some n=>rw[hg]at h;exact m7 rfl h
theorem aj9(hI:Wk.Inv A)(hB:Bd N A)(hN:N<=100000000)(hM:N9 Y b A M)(gb gc:d9)(fo:Bool){K:KH}
 (hK:∀Y' L,Gr Y Y'->K (.t [.g [.i (A.stat gb gc fo).2.kind,.i (A.stat gb gc fo).2.mode,.s (A.stat gb gc fo).2.data,.i L],.i (A.stat gb gc fo).1]) Y') :
 i7 48 [.q b,.s gb,.s gc,.bool fo] K Y:=by
 refine c48 _ _ _ _ ?_;unfold g48;unfold AT.stat at hK;refine A5 ?_;intro b5 Y1 g1 e1 n1;refine l5 (au3 hI hB (by omega) (hM.gr g1) gb gc fo ?_);intro Y2 g2;have hw:=fun h=>aB6 (A:=A) (gb:=gb) (gc:=gc) (fo:=fo) h;have ra:=fun h=>bb4 (A:=A) (gb:=gb) (gc:=gc) (fo:=fo) h;generalize A.with_ gb gc fo=w at hK hw ra⊢;obtain⟨e,gf,x⟩:=w;simp only at hK hw ra;have k5:=g2.get e1;by_cases he:e=0
 case neg =>
  have hx:=ra he;subst hx
  (refine l6 rfl ?_;try dsimp only)
  refine l9 (by simpa using he) ?_;refine C1 k5 ay9 ?_;intro Y3 p3;refine N8 (D4 p3.same (by rfl)) ?_
  (refine l6 rfl ?_;try dsimp only)
  exact hK Y3 0 ((g1.trans g2).putF p3 n1)
 subst he;obtain⟨n,hn,hx⟩:=hw rfl;subst hx;have ji:=(hI.low _ _ hn).1;have jx:gf-1+1=gf:=by omega
 have ug:=hM.gr (g1.trans g2);rw[d8 rfl]
 (refine l6 rfl ?_;try dsimp only)
 refine l7 rfl (cB9 ug hI (d:=gf-1) (n:=n) (by rw[jx];exact hn) ?_);rw[jx];have jo:=ug.nod _ _ hn;have og:=hB.last;refine j0 (D1 (f0 jo (by rfl)) (j0 (D1 (f0 jo (by rfl)) (j0 (C6 (f0 jo (by rfl)) ?_)))));refine l5 (aL5 ug hI.low (by omega) hI.enod (fun i n hn=>by have:=hB.gj i n hn;omega) (gf-1) (C4 ?_));refine aa6 (f0 jo (by rfl)) (aa6 (f0 jo (by rfl)) (aa6 (f0 jo (by rfl)) ?_));refine C1 k5 ay9 ?_;intro Y3 p3;refine N8 (D4 p3.same (by rfl)) ?_
 (refine l6 rfl ?_;try dsimp only)
 exact hK Y3 _ ((g1.trans g2).putF p3 n1)
theorem aH6(hI:Wk.Inv A)(hB:Bd N A)(hN:N<=100000000)(hM:N9 Y b A M)(gb gc:d9){K:KH}
 (hK:∀y Y',af6 Y Y' (A.listF gb gc).2 y->K (.t [.slice y.base y.len y.cap,.i (A.listF gb gc).1]) Y') :
 i7 50 [.q b,.s gb,.s gc] K Y:=by
 refine c50 _ _ _ ?_;unfold g50;unfold AT.listF at hK;refine l5 (au3 hI hB (by omega) hM gb gc true ?_);intro Y1 g1;have hw:=fun h=>aB6 (A:=A) (gb:=gb) (gc:=gc) (fo:=true) h;generalize A.with_ gb gc true=w at hK hw⊢;obtain⟨e,gf,x⟩:=w;simp only at hK hw;have nil:∀V:H,Gr Y V->af6 Y V [] ⟨none,0,0⟩:=fun V hg=>⟨hg,E0.nil _ _ _,fun g h=>by cases h⟩;by_cases he:e=0
 case neg =>
  rw[d8 he]at hK
  (refine l6 rfl ?_;try dsimp only)
  exact l9 (by simpa using he) (hK ⟨none,0,0⟩ Y1 (nil Y1 g1))
 subst he;obtain⟨n,hn,hx⟩:=hw rfl;subst hx;rw[d7 (by decide)]at hK;have ji:=(hI.low _ _ hn).1;have jx:gf-1+1=gf:=by omega
 have li:=hM.gr g1;have iy:A.get (gf-1+1)=some n:=by rw[jx];exact hn
 rw[d8 rfl]
 (refine l6 rfl ?_;try dsimp only)
 refine l7 rfl (af0 li hI iy (D1 (f0 (li.nod _ _ iy) (by rfl)) ?_));have Ba:n.inode.kind=n.kind:=rfl;rw[Ba]at hK;by_cases hk:n.kind=2
 case neg =>
  rw[d8 hk]at hK;exact l9 (by simpa using hk) (hK ⟨none,0,0⟩ Y1 (nil Y1 g1))
 rw[d7 (by simpa using hk)]at hK;refine l7 (by simpa using hk) (H9 ?_);intro R hR;have il:A.gd gf=E7 (C5 n.gj):=by unfold AT.gd;rw[hn]
 rw[il]at hK;have qm:(E7 (C5 n.gj)).length<=N:=by
  rw[(I7 _).length_eq];have:=hB.gj _ _ hn;simpa[C5]using this
 have key:∀ (c i:Nat) (y:Sl) (V:H),c+i=(E7 (C5 n.gj)).length->af6 Y V ((E7 (C5 n.gj)).take i) y->R (gp b) (gf-1) y (i:Int) V:=by
  intro c
  induction c with
  |zero =>
   intro i y V hc hS;have jt:=hM.gr hS.1;have lc:(M.ey (gf-1+1)).len=(E7 (C5 n.gj)).length:=by have:=(jt.ent _ _ iy).1;simpa[aj8]using this
   refine hR _ _ _ _ _ ?_;refine af0 jt hI iy (U6 (f0 (jt.nod _ _ iy) (by rfl)) (l7 (by simp only[K6];omega) ?_));rw[Q1 (by omega)]at hS;exact hK y V hS
  |succ c ih =>
   intro i y V hc hS;have jt:=hM.gr hS.1;have he:=jt.ent _ _ iy;have lc:(M.ey (gf-1+1)).len=(E7 (C5 n.gj)).length:=by have:=he.1;simpa[aj8]using this
   obtain⟨k,hk⟩:∃k,(E7 (C5 n.gj))[i]?=some k:=⟨_,G0 (by omega)⟩;obtain⟨gy,oy,q1,q2,_,_⟩:=av8 he hk;refine hR _ _ _ _ _ ?_;refine af0 jt hI iy (U6 (f0 (jt.nod _ _ iy) (by rfl)) (l9 (by simp only[I6];omega) ?_));refine af0 jt hI iy (U6 (f0 (jt.nod _ _ iy) (by rfl)) ?_);rw[q1];have e0:(i:Int).toNat=i:=by omega
   refine j0 (D0 ⟨by omega,by show(i:Int)<(((M.ey (gf-1+1)).len:Nat):Int);omega⟩ (C6 (by rw[e0];exact q2) ?_));refine bh3 hS (by rw[P4];omega) ?_;intro y' V' hS';rw[ab9 (i:=i)];refine ih (i+1) y' V' (by omega) ?_;rw[R1,hk];exact hS'
 exact key _ 0 ⟨none,0,0⟩ Y1 rfl (by simpa using nil Y1 g1)
end
section
variable {Y Y':H} {b:Nat} {A:AT} {M:RfM} {N:Nat}
theorem N9.like(h:N9 Y b A M){A':AT}(q1:A'.qi=A.qi)(q2:A'.qb=A.qb)(q3:A'.last=A.last)(hg:∀j,(A'.get j).map AN.unl=(A.get j).map AN.unl):N9 Y b A' M:=by
 have gx:∀j m,A'.get j=some m->∃m0,A.get j=some m0/\m0.kind=m.kind/\m0.mode=m.mode/\m0.data=m.data/\m0.up=m.up/\m0.gj=m.gj:=by
  intro j m hm;have:=hg j;rw[hm]at this;obtain⟨m0,h0,he⟩:=aR8 this.symm;exact⟨m0,h0,by1 he⟩
 refine⟨?_,?_,?_,?_,h.wb,h.wt,?_,?_,h.has⟩
 ·rw[q1,q2];exact h.top
 ·have : P9 A' M.cb = P9 A M.cb := by
   unfold P9;rw[q3];apply List.map_congr_left;intro t _;have:=J7 Option.isSome (hg ((t:Int)+1));rw[Option.isSome_map,Option.isSome_map]at this;rw[this]
  rw[this];exact h.tab
 ·intro j m hm;obtain⟨m0,q1,q2,q3,q4,q5,q6⟩:=gx j m hm;have:=h.nod j m0 q1;unfold ak3 upR at this⊢;rw[q2,q3,q4,q5]at this;exact this
 ·intro j m hm;obtain⟨m0,q1,q2,q3,q4,q5,q6⟩:=gx j m hm;have:=h.ent j m0 q1;rw[q6]at this;exact this
 ·intro j m hm;obtain⟨m0,q1,_⟩:=gx j m hm;exact h.wn j m0 q1
 ·intro j m g hm hg;obtain⟨m0,q1,_⟩:=gx j m hm;exact h.we j m0 g q1 hg
theorem bh4(hL:∀i n,A.get i=some n->1<=i/\i<=A.last){d:Int}{n n':AN}(hn:A.get d=some n):∀i m,(A.set d n').get i=some m->1<=i/\i<=(A.set d n').last:=by
 intro i m hm;rw[AT.get_set]at hm;by_cases e:i=d
 ·rw[e];exact hL _ _ hn
 ·rw[d7 e]at hm;exact hL _ _ hm
theorem bD6(hI:Wk.Inv A)(hB:Bd N A)(hN:N<=100000000){D:Nat->Prop}(hA:Z2 Y b A D)(gb gk tq:d9){K:KH}
 (hK:∀Y' D',Z2 Y' b (A.renameF gb gk tq).2 D'->H1 Y D Y' D'->K (.i (A.renameF gb gk tq).1) Y') :
 i7 41 [.q b,.s gb,.s gk,.s tq] K Y:=by
 obtain⟨M,hM,hD⟩:=hA;refine c41 _ _ _ _ ?_;unfold g41;have same:∀ (V:H) (x:Int),A.renameF gb gk tq=(x,A)->Gr Y V->K (.i x) V:=by
  intro V x hx hg;rw[hx]at hK;exact hK V D ⟨M,hM.gr hg,hD⟩ (H1.gr hg)
 refine l5 (as3 hI hB (by omega) hM gb gk false ?_);intro Y1 g1;have jf:=fun e=>K4 hI gb gk false e;have Ge:=fun e=>K4 hI gb tq false e
 have ie:A.renameF gb gk tq=(let r:=A.locate gb gk false
  if r.1≠0 then(r.1,A) else
   let s:=A.locate gb tq false
   if s.1≠0 then(s.1,A)else if E8 r.2.gu gq=true\/E8 s.2.gu gq=true then(2,A)else if r.2.there=false then(5,A)else if s.2.there=true/\r.2.gf=s.2.gf then(0,A)else if A.overE r.2 s.2≠0 then(A.overE r.2 s.2,A)else if s.2.there=true then(let u:=A.unlinkR s.2.gh s.2.gu;if u.1≠0 then u else u.2.moveR r.2.gh r.2.gu s.2.gh s.2.gu 14)else A.moveR r.2.gh r.2.gu s.2.gh s.2.gu 14):=by
  unfold AT.renameF AT.both;simp only;by_cases h:(A.locate gb gk false).1=0
  ·simp only[h,ne_eq,not_true_eq_false,if_false]
  ·simp[h]
 generalize A.locate gb gk false=r at jf ie⊢;obtain⟨e,p⟩:=r;simp only at ie;unfold plL;by_cases he:e=0
 case neg =>
  rw[d7 he];unfold plZ
  (refine l6 rfl ?_;try dsimp only)
  refine A5 ?_;intro b8 Y2 g2 e2 n2;refine C1 e2 I1 ?_;intro Y3 p3;refine l9 (by simpa using he) (same Y3 e (by rw[ie,d8 he]) (g1.trans (g2.putF p3 n2)))
 subst he;rw[d8 rfl];rw[d7 (by decide)]at ie;unfold plV
 (refine l6 rfl ?_;try dsimp only)
 refine A5 ?_;intro b8 Y2 g2 e2 n2;refine C1 e2 I1 ?_;intro Y3 p3;have iz:Gr Y Y3:=g1.trans (g2.putF p3 n2);have k8:Y3 b8=some (.c [.i (p.gh-1),.s p.gu,.i (if p.there then p.gf-1 else -1)] 95):=p3.same;have f8:Y b8=none:=A9 g1 n2;have jl:=hM.gr iz;have P:ab6 A p:=jf rfl;clear p3 e2;refine l7 rfl (l5 (as3 hI hB (by omega) jl gb tq false ?_));intro Y4 g4;generalize A.locate gb tq false=r at Ge ie⊢;obtain⟨e,q⟩:=r;simp only at ie;unfold plL;by_cases he:e=0
 case neg =>
  rw[d7 he];unfold plZ
  (refine l6 rfl ?_;try dsimp only)
  refine A5 ?_;intro b9 Y5 g5 e5 n5;refine C1 e5 I1 ?_;intro Y6 p6;refine l9 (by simpa using he) (same Y6 e (by rw[ie,d8 he]) ((iz.trans g4).trans (g5.putF p6 n5)))
 subst he;rw[d8 rfl];rw[d7 (by decide)]at ie;unfold plV
 (refine l6 rfl ?_;try dsimp only)
 refine A5 ?_;intro b9 Y5 g5 e5 n5;refine C1 e5 I1 ?_;intro Y6 p6;have pw:Gr Y Y6:=(iz.trans g4).trans (g5.putF p6 n5);have k9:Y6 b9=some (.c [.i (q.gh-1),.s q.gu,.i (if q.there then q.gf-1 else -1)] 95):=p6.same;have f9:Y b9=none:=A9 (iz.trans g4) n5;have k8:=(g4.trans (g5.putF p6 n5)).get k8;have ov:=hM.gr pw;have Q:ab6 A q:=Ge rfl;clear p6 e5;have hw8:=hM.new f8;have hw9:=hM.new f9;refine l7 rfl ?_;refine K5 (fun j=>∀t:Bool,t=(E8 p.gu gq||E8 q.gu gq)->j (gp b) (gp b8) (gp b9) t Y6) ?_ ?_
 case refine_2 =>
  intro j hj;refine C6 (f0 k8 (by rfl)) ?_;rw[<-I5];cases h1:E8 p.gu gq with
  |true=>exact l9 rfl (hj true (by rw[h1];rfl))
  |false =>
   refine l7 rfl (C6 (f0 k9 (by rfl)) ?_);rw[<-I5];exact hj _ (by rw[h1];rfl)
 intro t ht;by_cases c2:E8 p.gu gq=true\/E8 q.gu gq=true
 ·rw[d8 c2]at ie;exact l9 (by rw[ht];simpa using c2) (same Y6 2 ie pw)
 rw[d7 c2]at ie;have c2':(E8 p.gu gq||E8 q.gu gq)=false:=by
  cases h1:E8 p.gu gq with
  |true=>exact m7 (.inl h1) c2
  |false =>
   cases h2:E8 q.gu gq with
   |true=>exact m7 (.inr h2) c2
   |false=>rfl
 have Fa:p.gu≠gq:=fun e=>c2 (.inl (by rw[e];rfl));have hqn:q.gu≠gq:=fun e=>c2 (.inr (by rw[e];rfl));refine l7 (by rw[ht];exact c2') (j0 (D1 (f0 k8 (by rfl)) ?_));cases xr:p.there with
 |false =>
  rw[d8 xr]at ie;exact l9 rfl (same Y6 5 ie pw)
 |true =>
 rw[d7 (by rw[xr];decide)]at ie;obtain⟨n,hn⟩:=ab6.get hI P xr;have ji:=hI.low _ _ hn;have rb:A.kind p.gf=n.kind:=by unfold AT.kind;rw[hn];rfl
 rw[d8 xr]at k8;have jx:p.gf-1+1=p.gf:=by omega
 have d11:q.gh-1+1=q.gh:=by omega
 rw[d8 rfl];refine l7 (by simp only[K6];omega) (j0 (D1 (f0 k8 (by rfl)) (j0 (D1 (f0 k9 (by rfl)) ?_))));have wq:q.there=true->1<=q.gf:=fun h=>by
  obtain⟨m,hm⟩:=ab6.get hI Q h;exact(hI.low _ _ hm).1
 by_cases c4:q.there=true/\p.gf=q.gf
 ·rw[d8 c4]at ie;refine l9 ?_ (same Y6 0 ie pw);rw[d8 c4.1,c4.2];simp
 rw[d7 c4]at ie;refine l7 ?_ ?_
 ·cases md:q.there with
  |true=>rw[d8 rfl];have:p.gf≠q.gf:=fun e=>c4 ⟨md,e⟩;simp;omega
  |false=>rw[d7 (by decide)];simp;omega
 obtain⟨gs,os,s1,s2,s3⟩:=ov.slot hI (d:=p.gf-1) (n:=n) (by rw[jx];exact hn);rw[jx]at s3;refine j0 (U6 (f0 ov.top (by rfl)) (j0 (D1 (f0 k8 (by rfl)) ?_)));rw[s1];refine j0 (D0 s2 (E9 s3 (j0 (D1 (f0 (ov.nod _ _ hn) (by rfl)) ?_))));have jy:A.overE p q=(let e:=if q.there=false then 0 else if A.kind q.gf=2/\A.kind p.gf≠2 then 7 else if A.kind p.gf=2/\A.kind q.gf≠2 then 8 else if(A.gd q.gf).length>0 then 20 else 0;if e≠0 then e else if A.kind p.gf=2/\(A.within p.gf 13 q.gh).getD false=true then 2 else if(A.deep 13 q.gh).getD 0+A.levels 14 p.gf>12 then 3 else 0):= rfl;simp only[rb]at jy
 generalize ny:(if q.there=false then(0:Int)
  else if A.kind q.gf=2/\n.kind≠2 then 7
  else if n.kind=2/\A.kind q.gf≠2 then 8
  else if(A.gd q.gf).length>0 then 20 else 0)=e1 at jy
 obtain⟨dq,hdq,hdq12,hdq1,hdq2⟩:=hI.deep13 Q.1;have Ag:A.isDir (q.gh-1+1):=by rw[d11];exact Q.1
 obtain⟨wi,Gf⟩:=aM5 p.gf hdq;have ju:=aB0 A 14 p.gf;refine K5 (fun j=>e1=0->j (gp b) (gp b8) (gp b9) (n.kind==2) Y6) ?_ ?_
 case refine_2 =>
  intro j hj;refine j0 (D1 (f0 k9 (by rfl)) ?_);cases md:q.there with
  |false =>
   rw[d7 (by decide)];rw[d8 md]at ny;exact l7 rfl (hj ny.symm)
  |true =>
   obtain⟨m,hm⟩:=ab6.get hI Q md;have hmlow:=hI.low _ _ hm;have hkm:A.kind q.gf=m.kind:=by unfold AT.kind;rw[hm];rfl
   have il:A.gd q.gf=E7 (C5 m.gj):=by unfold AT.gd;rw[hm]
   have i11:q.gf-1+1=q.gf:=by omega
   rw[d7 (by rw[md];decide),hkm,il]at ny;have k9':=k9;rw[d8 md]at k9';rw[d8 rfl];have key:e1≠0->A.renameF gb gk tq=(e1,A):=by
    intro h;rw[ie,jy];simp[h]
   obtain⟨gt,ot,t1,t2,t3⟩:=ov.slot hI (d:=q.gf-1) (n:=m) (by rw[i11];exact hm);rw[i11]at t3;refine l9 (by simp only[I6];omega) (j0 (U6 (f0 ov.top (by rfl)) (j0 (D1 (f0 k9' (by rfl)) ?_))));rw[t1];refine j0 (D0 t2 (E9 t3 (j0 (D1 (f0 (ov.nod _ _ hm) (by rfl)) ?_))));refine K5 (fun j=>j (gp b) (gp b8) (gp b9) (n.kind==2) (m.kind==2) ((m.kind==2) && !(n.kind==2)) Y6) ?_ ?_
   case refine_2 =>
    intro j' ip;cases Gg:(m.kind==2) with
    |true=>rw[Gg]at ip;exact l9 rfl ip
    |false=>rw[Gg]at ip;exact l7 rfl ip
   by_cases c7:m.kind=2/\n.kind≠2
   ·rw[d8 c7]at ny;refine l9 (by simp[c7]) ?_;have:=same Y6 e1 (key (by rw[<-ny];decide)) pw;rw[<-ny]at this;exact this
   rw[d7 c7]at ny;refine l7 ?_ ?_
   ·by_cases h:m.kind=2
    ·have : n.kind = 2 := by
      apply Classical.byContradiction;intro hc;exact c7 ⟨h,hc⟩
     simp[h,this]
    ·simp[h]
   refine K5 (fun j=>j (gp b) (gp b8) (gp b9) (n.kind==2) ((n.kind==2) && !(m.kind==2)) Y6) ?_ ?_
   case refine_2 =>
    intro j' ip;cases ph:(n.kind==2) with
    |true=>rw[ph]at ip;exact l9 rfl ip
    |false=>rw[ph]at ip;exact l7 rfl ip
   by_cases c8:n.kind=2/\m.kind≠2
   ·rw[d8 c8]at ny;refine l9 (by simp[c8]) ?_;have:=same Y6 e1 (key (by rw[<-ny];decide)) pw;rw[<-ny]at this;exact this
   rw[d7 c8]at ny;refine l7 ?_ ?_
   ·by_cases h:n.kind=2
    ·have : m.kind = 2 := by
      apply Classical.byContradiction;intro hc;exact c8 ⟨h,hc⟩
     simp[h,this]
    ·simp[h]
   refine j0 (U6 (f0 ov.top (by rfl)) (j0 (D1 (f0 k9' (by rfl)) ?_)));rw[t1];refine j0 (D0 t2 (E9 t3 (j0 (U6 (f0 (ov.nod _ _ hm) (by rfl)) ?_))));have lc:(M.ey q.gf).len=(E7 (C5 m.gj)).length:=by have:=(ov.ent _ _ hm).1;simpa[aj8]using this
   by_cases c20:(E7 (C5 m.gj)).length>0
   ·rw[d8 c20]at ny;refine l9 (by simp only[I6];omega) ?_;have:=same Y6 e1 (key (by rw[<-ny];decide)) pw;rw[<-ny]at this;exact this
   rw[d7 c20]at ny;exact l7 (by simp only[K6];omega) (hj ny.symm)
 intro wv;subst wv;simp only[ne_eq,not_true_eq_false,if_false]at jy;refine K5 (fun j=>∀t:Bool,t=((n.kind==2)&&wi)->j (gp b) (gp b8) (gp b9) t Y6) ?_ ?_
 case refine_2 =>
  intro j hj;cases ph:(n.kind==2) with
  |false=>exact l7 rfl (hj false (by rw[ph];rfl))
  |true =>
   refine l9 rfl (j0 (D1 (f0 k9 (by rfl)) (j0 (D1 (f0 k8 (by rfl)) (l5 (bD4 ov hI Ag (x:=wi) (by rw[jx,d11];exact Gf) (H2 ?_)))))));exact hj wi (by rw[ph];rfl)
 intro t ht;rw[Gf,hdq]at jy;simp only[Option.getD_some]at jy;by_cases c9:n.kind=2/\wi=true
 ·rw[d8 c9]at jy;refine l9 (by rw[ht];simp[c9]) (same Y6 2 ?_ pw);rw[ie,jy];rfl
 rw[d7 c9]at jy;refine l7 ?_ ?_
 ·rw[ht];by_cases h:n.kind=2
  ·have : wi = false := by
    cases hw:wi with
    |false=>rfl
    |true=>exact m7 ⟨h,hw⟩ c9
   rw[this];simp
  ·simp[h]
 refine j0 (D1 (f0 k9 (by rfl)) (j0 (D1 (f0 k8 (by rfl)) ?_)));refine l5 (bq9 ov hI Ag (x:=dq) (by rw[d11];exact hdq) (C4 ?_));refine aa6 (f0 k8 (by rfl)) ?_;refine l5 (bD5 ov hI hB (by omega) 14 (p.gf-1) n (by rw[jx];exact hn) (by decide) (fun d _ hd=>by have:=aa0 hd;omega) (C4 ?_));rw[jx,D7 (x:=dq+A.levels 14 p.gf) (by omega) (by omega)];by_cases c12:dq+A.levels 14 p.gf>12
 ·rw[d8 c12]at jy;refine l9 (by simpa using c12) (same Y6 3 ?_ pw);rw[ie,jy];rfl
 rw[d7 c12]at jy;refine l7 (by simpa using c12) ?_;rw[d7 (by rw[jy];decide)]at ie;have hwf:A.within p.gf 13 q.gh=some false:=by
  rw[Gf];cases hw:wi with
  |false=>rfl
  |true =>
   exfalso
   rw[hw]at Gf;obtain⟨m,hm,lh⟩:=by2 hI 13 q.gh Q.1 Gf;rw[hn]at hm;cases hm;exact c9 ⟨lh,hw⟩
 obtain⟨hpnm,ut⟩:=P.named Fa;rw[d8 xr]at ut;obtain⟨Gh,ru⟩:=Q.named hqn;refine K5 (fun j=>∀ (U:AT) (V:H) (M':RfM),Wk.Inv U->Bd N U->N9 V b U M'->(∀c o,Y6 c=some o->M.w c=none->V c=some o/\M'.w c=none)->U.isDir p.gh->U.find p.gh p.gu=some p.gf->U.isDir q.gh->U.find q.gh q.gu=none->U.within p.gf 13 q.gh=some false->A.renameF gb gk tq=U.moveR p.gh p.gu q.gh q.gu 14->j (gp b) (gp b8) (gp b9) V) ?_ ?_
 ·intro U V M' hIU hBU hMU fr u1 u2 u3 u4 u5 u6;obtain⟨ns,nt,nn,G,ib⟩:=cb0 hIU hBU u1 u3 Gh u2 u4 u5;have hlastU:=hBU.last;obtain⟨z8,w8⟩:=fr _ _ k8 hw8;obtain⟨z9,w9⟩:=fr _ _ k9 hw9;have pd:p.gh-1+1=p.gh:=by omega
  refine j0 (D1 (f0 z8 (by rfl)) (j0 (C6 (f0 z8 (by rfl)) ?_)));refine l5 (aL4 hMU hIU.low (by rw[pd];exact G.hsrc) (hIU.enod _ _ G.hsrc) (by have:=hBU.gj _ _ G.hsrc;omega) ?_);intro V1 M1 h1 fr1;rw[pd]at h1;refine U9 ?_;obtain⟨z8,w8⟩:=fr1 _ _ z8 w8;obtain⟨z9,w9⟩:=fr1 _ _ z9 w9;refine j0 (D1 (f0 z9 (by rfl)) (j0 (C6 (f0 z9 (by rfl)) (j0 (D1 (f0 z8 (by rfl)) ?_)))));refine l5 (aL0 h1 (bh4 hIU.low G.hsrc) (by show U.last<=_;omega) (by rw[d11];exact G.hto) (by rw[jx,AT.get_set_ne _ _ G.is];exact G.nod) (by have:=G.it;omega) G.free G.enod (by omega) ?_);intro V2 M2 hR fr2;refine U9 ?_;rw[jx,d11]at hR;have h2:=hR (U.moved p.gh p.gu q.gh q.gu) G.qi G.qb G.last fun j=>by rw[G.get j]
  rw[u6,G.go]at hK;refine hK V2 (fun c=>M2.w c≠none) ⟨M2,h2,fun c=>Iff.rfl⟩ (H1.of_frame hD fun c o hc hw=>?_);obtain⟨y1,y2⟩:=fr c o (pw.get hc) hw;obtain⟨y3,y4⟩:=fr1 c o y1 y2;exact fr2 c o y3 y4
 intro j hj;refine j0 (D1 (f0 k9 (by rfl)) ?_);cases md:q.there with
 |false =>
  rw[d7 (by decide)];rw[d7 (by rw[md];decide)]at ie;rw[d7 (by rw[md];decide)]at ru;exact l7 rfl (hj A Y6 M hI hB ov (fun c o hc hw=>⟨hc,hw⟩) P.1 ut Q.1 ru hwf ie)
 |true =>
  rw[d8 md]at ie ru k9;rw[d8 rfl];have:=wq md;have i11:q.gf-1+1=q.gf:=by omega
  obtain⟨m,hm⟩:=ab6.get hI Q md;obtain⟨nd,ij,va⟩:=id Q.1;have jh:m.gj=[]:=by
   rw[d7 (by rw[md];decide)]at ny;have il:A.gd q.gf=E7 (C5 m.gj):=by unfold AT.gd;rw[hm]
   have hz:¬ (A.gd q.gf).length>0:=by
    intro h;have:∀ (c c':Prop) [Decidable c] [Decidable c'],(if c then(7:Int)else if c' then 8 else if(A.gd q.gf).length>0 then 20 else 0)≠0:=by
     intro c c' _ _;rw[d8 h];split
     ·decide
     ·split<;>decide
    exact this _ _ ny
   rw[il,(I7 _).length_eq]at hz;have:m.gj.length=0:=by simp[C5]at hz;simp[hz]
   exact ai0 this
  have qv:A.unlinkE q.gh q.gu=0:=by
   unfold AT.unlinkE;rw[AT.dirE_of Q.1,ru];simp[N0,hm,jh]
  have Dp:A.unlinkR q.gh q.gu=(0,A.unlinked q.gh q.gu):=by unfold AT.unlinkR;rw[d8 qv]
  obtain⟨U1,U2,_,_,_⟩:=ap5 hI hB (by omega) q.gh q.gu;rw[Dp]at U1 U2 ie;simp only[ne_eq,not_true_eq_false,if_false]at ie U1 U2;obtain⟨L1,L2,L3,L4,L5,L6⟩:=as1 hI hB (by omega) qv ij ru hm;have qm:nd.gj.length<=N:=hB.gj _ _ ij;have Cj:=hB.last;refine l9 (by simp only[I6];omega) (j0 (D1 (f0 k9 (by rfl)) (j0 (C6 (f0 k9 (by rfl)) ?_))));refine l5 (aL4 ov hI.low (by rw[d11];exact ij) (hI.enod _ _ ij) (by omega) ?_);intro V1 M1 h1 fr1;rw[d11]at h1;refine U9 ?_;obtain⟨z8,w8⟩:=fr1 _ _ k8 hw8;obtain⟨z9,w9⟩:=fr1 _ _ k9 hw9;refine j0 (D1 (f0 z9 (by rfl)) ?_);have Ay:(A.set q.gh {nd with gj:=rm q.gu nd.gj}).get q.gf=some m:=by rw[AT.get_set_ne _ _ L1];exact hm
  refine l5 (br6 h1 (bh4 hI.low ij) (by show A.last<=_;omega) (M5 hI.nodup) ?_ ?_ (by rw[i11];exact Ay) (by omega) ?_)
  ·intro i k hk;rw[AT.get_set]at hk;by_cases e:i=q.gh
   ·rw[d8 e]at hk;cases hk;exact ai6 (hI.enod _ _ ij)
   ·rw[d7 e]at hk;exact hI.enod _ _ hk
  ·intro i k hk;rw[AT.get_set]at hk;by_cases e:i=q.gh
   ·rw[d8 e]at hk;cases hk;have:=by4 q.gu nd.gj;show(rm q.gu nd.gj).length<=_;omega
   ·rw[d7 e]at hk;have:=hB.gj _ _ hk;omega
  intro V2 h2 fr2;refine U9 ?_;rw[i11]at h2;have el:(A.set q.gh {nd with gj:=rm q.gu nd.gj}).last=A.last:=rfl;rw[el]at h2;have xk:N9 V2 b (A.unlinked q.gh q.gu) M1:=by
   by_cases hs:Q2 (P2 q.gf) (A.set q.gh {nd with gj:=rm q.gu nd.gj}).nodes A.last.toNat=0
   ·rw[d8 hs]at h2;refine h2.like (by rw[L3];rfl) (by rw[L4];rfl) (by rw[L5];rfl) fun j=>?_;rw[L6 j,aB5 _ (M5 hI.nodup)];by_cases e:j=q.gf
    ·rw[d8 ⟨e,hs⟩,d8 e]
    ·rw[d7 (fun h=>e h.1),d7 e]
   ·rw[d7 hs]at h2;refine h2.like (by rw[L3];rfl) (by rw[L4];rfl) (by rw[L5];rfl) fun j=>?_;rw[L6 j,d7 (fun h=>hs h.2)]
  have hpq:p.gf≠q.gf:=fun e=>c4 ⟨md,e⟩
  -- what is left ag9 it
  have back:∀j k,j≠q.gf->(A.set q.gh {nd with gj:=rm q.gu nd.gj}).get j=some k->∃k',(A.unlinked q.gh q.gu).get j=some k'/\k'.kind=k.kind/\k'.gj=k.gj/\k'.up=k.up:=by
   intro j k hj hk;have:=L6 j;rw[d7 (fun h=>hj h.1),hk]at this;obtain⟨k',nv,he⟩:=aR8 this;obtain⟨a1,_,_,a4,a5⟩:=by1 he;exact⟨k',nv,a1,a5,a4⟩
  have zv:(A.unlinked q.gh q.gu).isDir q.gh/\(A.unlinked q.gh q.gu).find q.gh q.gu=none:=by
   obtain⟨k',a1,a2,a3,_⟩:=back q.gh _ (Ne.symm L1) (AT.get_set_self _ _ _);refine⟨⟨k',a1,by rw[a2];exact va⟩,?_⟩;unfold AT.find;rw[a1];show lk q.gu k'.gj=none;rw[a3];show lk q.gu (rm q.gu nd.gj)=none;rw[ak1 (hI.enod _ _ ij)];simp
  obtain⟨np,Ah,hnp2,ww,_,_,_,_⟩:=hI.find ut;have hpd:(A.unlinked q.gh q.gu).isDir p.gh/\(A.unlinked q.gh q.gu).find p.gh p.gu=some p.gf:=by
   have ia:p.gh≠q.gf:=by
    intro e;rw[e,hm]at Ah;cases Ah;rw[jh]at ww;simp[lk]at ww
   by_cases e:p.gh=q.gh
   ·rw[e]at Ah ⊢;rw[ij]at Ah;cases Ah;obtain⟨k',a1,a2,a3,_⟩:=back q.gh _ (Ne.symm L1) (AT.get_set_self _ _ _);refine⟨⟨k',a1,by rw[a2];exact va⟩,?_⟩;unfold AT.find;rw[a1];show lk p.gu k'.gj=some p.gf;rw[a3];show lk p.gu (rm q.gu nd.gj)=some p.gf;rw[ak1 (hI.enod _ _ ij)];have:(p.gu==q.gu)=false:=by
     cases hb:(p.gu==q.gu) with
     |false=>rfl
     |true =>
      have:=eq_of_beq hb;unfold AT.find at ru;rw[ij]at ru;have ru:lk q.gu nd.gj=some q.gf:=ru;rw[<-this,ww]at ru;injection ru with ru;exact m7 ru hpq
    rw[this];exact ww
   ·obtain⟨k',a1,a2,a3,_⟩:=back p.gh np ia (by rw[AT.get_set_ne _ _ e];exact Ah);refine⟨⟨k',a1,by rw[a2];exact hnp2⟩,?_⟩;unfold AT.find;rw[a1];show lk p.gu k'.gj=some p.gf;rw[a3];exact ww
  have iu:∀k,(A.unlinked q.gh q.gu).isDir k->A.upOf k=(A.unlinked q.gh q.gu).upOf k:=by
   have bk:=aF6 hI (gh:=q.gh) (gu:=q.gu);rw[Dp]at bk
   rintro k ⟨m',oe,_⟩
   obtain⟨m0,b1,_,b3,_⟩:=bk k m' oe;unfold AT.upOf;rw[oe,b1];simp[b3]
  refine hj (A.unlinked q.gh q.gu) V2 M1 U1 U2 xk (fun c o hc hw=>?_) hpd.1 hpd.2 zv.1 zv.2 (by rw[bm9 U1 iu 13 q.gh zv.1];exact hwf) ie;obtain⟨y1,y2⟩:=fr1 c o hc hw;exact fr2 c o y1 y2
end
section
variable {Y Y':H} {b:Nat} {A:AT} {M:RfM} {N:Nat}
theorem bR9(hI:Wk.Inv A)(hr:A.rl=1)(hB:Bd N A)(hN:N<=100000000)(hM:N9 Y b A M)(gb gc:d9)(fo:Bool){K:KH}
 (hK:∀Y',Gr Y Y'->K (.t [.agg ⟨inV (A.stat gb gc fo).2⟩,.i (A.stat gb gc fo).1]) Y') :
 i7 48 [.q b,.s gb,.s gc,.bool fo] K Y:=by
 refine c48 _ _ _ _ ?_;unfold g48;unfold AT.stat inV at hK;refine A5 ?_;intro b5 Y1 g1 e1 n1;refine l5 (au3 hI hB (by omega) (hM.gr g1) gb gc fo ?_);intro Y2 g2;have hw:=fun h=>aB6 (A:=A) (gb:=gb) (gc:=gc) (fo:=fo) h;have ra:=fun h=>bb4 (A:=A) (gb:=gb) (gc:=gc) (fo:=fo) h;generalize A.with_ gb gc fo=w at hK hw ra⊢;obtain⟨e,gf,x⟩:=w;simp only at hK hw ra;have k5:=g2.get e1;by_cases he:e=0
 case neg =>
  have hx:=ra he;subst hx
  (refine l6 rfl ?_;try dsimp only)
  refine l9 (by simpa using he) ?_;refine C1 k5 ay9 ?_;intro Y3 p3;refine N8 (D4 p3.same (by rfl)) ?_
  (refine l6 rfl ?_;try dsimp only)
  exact hK Y3 ((g1.trans g2).putF p3 n1)
 subst he;obtain⟨n,hn,hx⟩:=hw rfl;subst hx;have ji:=(hI.low _ _ hn).1;have jx:gf-1+1=gf:=by omega
 have ug:=hM.gr (g1.trans g2);rw[d8 rfl]
 (refine l6 rfl ?_;try dsimp only)
 refine l7 rfl (cB9 ug hI (d:=gf-1) (n:=n) (by rw[jx];exact hn) ?_);rw[jx];have jo:=ug.nod _ _ hn;have og:=hB.last;have vk:=bN7 hI hr hn;refine j0 (D1 (f0 jo (by rfl)) (j0 (D1 (f0 jo (by rfl)) (j0 (C6 (f0 jo (by rfl)) ?_)))));refine l5 (aL5 ug hI.low (by omega) hI.enod (fun i n hn=>by have:=hB.gj i n hn;omega) (gf-1) (C4 ?_));rw[vk];refine aa6 (f0 jo (by rfl)) (aa6 (f0 jo (by rfl)) (aa6 (f0 jo (by rfl)) ?_));refine C1 k5 ay9 ?_;intro Y3 p3;refine N8 (D4 p3.same (by rfl)) ?_
 (refine l6 rfl ?_;try dsimp only)
 exact hK Y3 ((g1.trans g2).putF p3 n1)
theorem ci1(hI:Wk.Inv A)(hB:Bd N A)(hN:N<=100000000)(hM:N9 Y b A M)(gb gc:d9){K:KH}
 (hK:∀Y',Gr Y Y'->K (.t [.s (A.read gb gc).2,.i (A.read gb gc).1]) Y') :
 i7 103 [.q b,.s gb,.s gc] K Y:=by
 refine dp9 _ _ _ ?_;unfold cH9;unfold AT.read at hK;refine l5 (au3 hI hB (by omega) hM gb gc true ?_);intro Y1 g1;have hw:=fun h=>aB6 (A:=A) (gb:=gb) (gc:=gc) (fo:=true) h;generalize A.with_ gb gc true=w at hK hw⊢;obtain⟨e,gf,x⟩:=w;simp only at hK hw;by_cases he:e=0
 case neg =>
  rw[d8 he]at hK
  (refine l6 rfl ?_;try dsimp only)
  exact l9 (by simpa using he) (hK Y1 g1)
 subst he;obtain⟨n,hn,hx⟩:=hw rfl;subst hx;rw[d7 (by decide)]at hK;have ji:=(hI.low _ _ hn).1;have jx:gf-1+1=gf:=by omega
 have li:=hM.gr g1;have iy:A.get (gf-1+1)=some n:=by rw[jx];exact hn
 rw[d8 rfl]
 (refine l6 rfl ?_;try dsimp only)
 refine l7 rfl (af0 li hI iy (D1 (f0 (li.nod _ _ iy) (by rfl)) ?_));have Ba:n.inode.kind=n.kind:=rfl;rw[Ba]at hK;by_cases hk:n.kind=2
 ·rw[d8 hk]at hK;exact l9 (by simpa using hk) (hK Y1 g1)
 rw[d7 hk]at hK;exact l7 (by simpa using hk) (af0 li hI iy (C6 (f0 (li.nod _ _ iy) (by rfl)) (hK Y1 g1)))
theorem aV0(hI:Wk.Inv A)(hB:Bd N A)(hN:N<=100000000)(hM:N9 Y b A M)(gb gc:d9){K:KH}
 (hK:∀Y',Gr Y Y'->K (.t [.s (A.realF gb gc).2,.i (A.realF gb gc).1]) Y') :
 i7 157 [.q b,.s gb,.s gc] K Y:=by
 generalize gv:A.realF gb gc=res at hK;unfold AT.realF at gv;refine du7 _ _ _ ?_;unfold cR3;refine l5 (as3 hI hB (by omega) hM gb gc true ?_);intro Y1 g1;have jf:=K4 hI gb gc true;generalize A.locate gb gc true=r at gv jf⊢;obtain⟨re,p⟩:=r;simp only at gv jf;unfold plL;by_cases he:re=0
 case neg =>
  rw[d7 he];rw[d8 he]at gv;unfold plZ
  (refine l6 rfl ?_;try dsimp only)
  refine A5 ?_;intro b8 Y2 g2 e2 n2;refine C1 e2 I1 ?_;intro Y3 p3;refine l9 (by simpa using he) ?_;rw[<-gv]at hK;exact hK Y3 (g1.trans (g2.putF p3 n2))
 subst he;rw[d8 rfl];simp only[ne_eq,not_true_eq_false,if_false]at gv;unfold plV
 (refine l6 rfl ?_;try dsimp only)
 refine A5 ?_;intro b8 Y2 g2 e2 n2;refine C1 e2 I1 ?_;intro Y3 p3;have iz:Gr Y Y3:=g1.trans (g2.putF p3 n2);have k8:Y3 b8=some (.c [.i (p.gh-1),.s p.gu,.i (if p.there then p.gf-1 else -1)] 95):=p3.same;have jl:=hM.gr iz;have jf:=jf rfl;clear p3 e2;refine l7 rfl (D1 (f0 k8 (by rfl)) ?_);cases mg:p.there with
 |false =>
  rw[mg]at gv;simp only[if_true]at gv;rw[<-gv]at hK;exact l9 rfl (hK Y3 iz)
 |true =>
  rw[mg]at gv;simp only[Bool.true_eq_false,if_false]at gv;obtain⟨n,hn⟩:=ab6.get hI jf mg;have ji:=(hI.low _ _ hn).1;have jx:p.gf-1+1=p.gf:=by omega
  have rb:A.kind p.gf=n.kind:=by unfold AT.kind;rw[hn];rfl
  rw[mg]at k8;rw[d8 rfl]at k8⊢;refine l7 (by simp only[K6];omega) (D1 (f0 k8 (by rfl)) ?_);refine K5 (fun j=>∀ (out:d9) (gh:Int),A.isDir gh->out.size<=100->res=(0,if E8 (A.realUp 13 gh out) gq then (bs [47]) else A.realUp 13 gh out)->j (gp b) out (gh-1) Y3) ?_ ?_
  ·intro out gh im hos hr;refine H9 ?_;intro R hR;have key : ∀ (f:Nat) (gh:Int) (out:d9),A.isDir gh->(A.deep f gh).isSome=true->out.size+f * (60 * N)<=1000000000000000->res=(0,if E8 (A.realUp f gh out) gq then (bs [47]) else A.realUp f gh out)->R (gp b) out (gh - 1) Y3:=by
    intro f
    induction f with
    |zero=>intro gh out _ hd;simp[AT.deep]at hd
    |succ f ihf =>
     intro gh out im hd hsz hr;refine hR _ _ _ _ ?_;unfold AT.realUp at hr;by_cases tk:gh=1
     ·rw[d8 tk]at hr;refine l7 (by simp[tk]) ?_;refine K5 (fun j=>j (if E8 out gq then (bs [47]) else out) Y3) (by rw[hr]at hK;exact hK Y3 iz) ?_;intro j hj;rw[I5]at hj;cases xv:C3 out gq with
      |true=>rw[xv]at hj;exact l9 rfl hj
      |false=>rw[xv]at hj;exact l7 rfl hj
     rw[d7 tk]at hr;obtain⟨m,hm,lh⟩:=id im;have hml:=(hI.low _ _ hm).1;have oe:A.get (gh-1+1)=some m:=by rw[show gh-1+1=gh from by omega];exact hm
     refine l9 (by simp only[bne_iff_ne];omega) (af0 jl hI oe (D1 (f0 (jl.nod _ _ oe) (by rfl)) ?_));have yx:(A.deep f (A.upOf gh)).isSome=true:=by
      unfold AT.deep at hd;rw[d7 tk]at hd;cases hq:A.deep f (A.upOf gh) with
      |none=>rw[hq]at hd;cases hd
      |some _=>rfl
     have iu:upR m=A.upOf gh-1:=by
      unfold upR AT.upOf;rw[hm];simp[lh]
     rw[iu];have Ai:=hI.isDir_up im;obtain⟨u,hu,hu2⟩:=id Ai;have hul:=(hI.low _ _ hu).1;have mi:A.get (A.upOf gh-1+1)=some u:=by rw[show A.upOf gh-1+1=A.upOf gh from by omega];exact hu
     have ig:A.gd (A.upOf gh)=E7 (C5 u.gj):=by unfold AT.gd;rw[hu]
     have qm:=aA9 (d:=A.upOf gh) hB;have zf:=jl.ent _ _ mi;have lc:(M.ey (A.upOf gh-1+1)).len=(A.gd (A.upOf gh)).length:=by rw[ig];have:=zf.1;simpa[aj8]using this
     refine H9 ?_;intro R2 mo;have key2:∀ (l:List d9) (i:Nat) (out:d9),(A.gd (A.upOf gh)).drop i=l->out.size+l.length*60+f*(60*N)<=1000000000000000->res=(0,if E8 (A.realUp f (A.upOf gh) (l.foldl (fun o n=>if(A.find (A.upOf gh) n).getD 0=gh then((bs [47])++n)++o else o) out)) gq then (bs [47]) else A.realUp f (A.upOf gh) (l.foldl (fun o n=>if(A.find (A.upOf gh) n).getD 0=gh then((bs [47])++n)++o else o) out))->R2 (gp b) out (gh-1) (A.upOf gh-1) (i:Int) Y3:=by
      intro l
      induction l with
      |nil =>
       intro i out ku tm sd;have um:(A.gd (A.upOf gh)).length<=i:=by simpa using ku
       refine mo _ _ _ _ _ _ ?_;refine af0 jl hI mi (U6 (f0 (jl.nod _ _ mi) (by rfl)) (l7 (by simp only[K6];omega) ?_));exact ihf _ _ Ai yx (by simp only[ao8]at tm;omega) sd
      |cons s r ihl =>
       intro i out ku tm sd;obtain⟨hs,iw,Bx⟩:=aH1 ku;have hss:=aD6 hI (K7 hs);simp only[H4]at tm;obtain⟨gy,oy,q1,q2,q3,q4⟩:=av8 zf (by rw[<-ig];exact hs);have hfs:A.find (A.upOf gh) s=lk s u.gj:=by unfold AT.find;rw[hu];rfl
       refine mo _ _ _ _ _ _ ?_;refine af0 jl hI mi (U6 (f0 (jl.nod _ _ mi) (by rfl)) (l9 (by simp only[I6];omega) ?_));refine K5 (fun j=>j (gp b) (if(A.find (A.upOf gh) s).getD 0=gh then((bs [47])++s)++out else out) (gh-1) (A.upOf gh-1) (i:Int) Y3) ?_ ?_
       ·rw[D7 (x:=(i:Int)+1) (by omega) (by omega)];refine ihl (i+1) _ Bx ?_ sd;split
        ·simp only[D8];have:((bs [47]):d9).size=1:=rfl;omega
        ·omega
       ·intro j hj;have e0:(i:Int).toNat=i:=by omega
        have tp:(i:Int)<(((M.ey (A.upOf gh-1+1)).len:Nat):Int):=by omega
        refine af0 jl hI mi (U6 (f0 (jl.nod _ _ mi) (by rfl)) ?_);rw[q1];refine j0 (D0 ⟨by omega,tp⟩ (D1 (by rw[e0];exact q3) ?_));have h1:((bs [47]):d9).size=1:=rfl;rw[hfs]at hj;by_cases hf:(lk s u.gj).getD 0=gh
        ·rw[d8 hf]at hj;refine l9 (by simp only[beq_iff_eq];omega) (af0 jl hI mi (U6 (f0 (jl.nod _ _ mi) (by rfl)) ?_));rw[q1];refine j0 (D0 ⟨by omega,tp⟩ (C6 (by rw[e0];exact q2) ?_));exact D0 (by omega) (D0 (by rw[D8];omega) hj)
        ·rw[d7 hf]at hj;exact l7 (by simp only[X0];omega) hj
     refine key2 (A.gd (A.upOf gh)) 0 out rfl ?_ hr;have hm:(f+1)*(60*N)=f*(60*N)+60*N:=by rw[K9,Nat.one_mul]
     omega
   obtain⟨d,pg,_⟩:=hI.deep13 im;exact key 13 gh out im (by rw[pg];rfl) (by omega) hr
  ·intro j hj;have iy:A.get (p.gf-1+1)=some n:=by rw[jx];exact hn
   refine K5 (fun j'=>∀t:Bool,t=(!E8 p.gu gq && !(n.kind==2))->j' (gp b) (gp b8) gq (p.gf-1) t Y3) ?_ ?_
   ·intro t ht;by_cases hk:A.kind p.gf=2
    ·have By:(if A.kind p.gf≠2 then A.realUp 13 p.gh ((bs [47])++p.gu)else A.realUp 13 p.gf gq)=A.realUp 13 p.gf gq:=d7 (by simpa using hk);rw[By]at gv;exact l7 (by rw[ht,<- rb,hk];simp) (hj gq p.gf (ai9 hk) (by decide) gv.symm)
    ·have By:(if A.kind p.gf≠2 then A.realUp 13 p.gh ((bs [47])++p.gu)else A.realUp 13 p.gf gq)=A.realUp 13 p.gh ((bs [47])++p.gu):=d8 hk;rw[By]at gv;obtain⟨hd,gw⟩:=id jf;have il:p.gu.size<=56:=by
      rcases gw with⟨h1,_⟩|⟨_,_,h,_⟩
      ·rw[h1];decide
      ·exact h
     have ia:E8 p.gu gq=false:=by
      rcases gw with⟨_,_,h3⟩|⟨h1,_⟩
      ·exact m7 (by rw[h3];exact al8 hd) hk
      ·exact aa9 h1.1
     have h1:((bs [47]):d9).size=1:=rfl;refine l9 (by rw[ht,ia,<- rb];simpa using hk) (j0 (C6 (f0 k8 (by rfl)) (D0 (by show _+p.gu.size<=_;omega) (j0 (D1 (f0 k8 (by rfl)) ?_)))));exact hj _ p.gh hd (by rw[D8];show _+p.gu.size<=_;omega) gv.symm
   ·intro j' ip;refine C6 (f0 k8 (by rfl)) ?_;rw[<-I5];cases ia:E8 p.gu gq with
    |true=>exact l7 rfl (ip false (by rw[ia];rfl))
    |false =>
     obtain⟨gs,os,s1,s2,s3⟩:=jl.slot hI (d:=p.gf-1) (n:=n) iy;refine l9 rfl (j0 (U6 (f0 jl.top (by rfl)) (D1 (f0 k8 (by rfl)) ?_)));rw[s1];exact j0 (D0 s2 (E9 s3 (j0 (D1 (f0 (jl.nod _ _ iy) (by rfl)) (ip _ (by rw[ia];rfl))))))
theorem aD7(hI:Wk.Inv A)(hB:Bd N A)(hN:N<=100000000){D:Nat->Prop}(hA:Z2 Y b A D)(gb gc:d9){K:KH}
 (hK:∀Y' D',Z2 Y' b (A.removeF gb gc).2 D'->H1 Y D Y' D'->K (.i (A.removeF gb gc).1) Y') :
 i7 94 [.q b,.s gb,.s gc] K Y:=by
 obtain⟨M,hM,hD⟩:=hA;refine c94 _ _ _ ?_;unfold g94;have same:∀ (V:H) (x:Int),A.removeF gb gc=(x,A)->Gr Y V->K (.i x) V:=by
  intro V x hx hg;rw[hx]at hK;exact hK V D ⟨M,hM.gr hg,hD⟩ (H1.gr hg)
 refine l5 (as3 hI hB (by omega) hM gb gc false ?_);intro Y1 g1;have jf:=fun e=>K4 hI gb gc false e
 have ie:A.removeF gb gc=(let r:=A.locate gb gc false
  if r.1≠0 then(r.1,A)else if r.2.there=false then(5,A)else if E8 r.2.gu gq=true then(2,A)else if(A.gd r.2.gf).length>0 then(20,A)else A.unlinkR r.2.gh r.2.gu):=rfl
 generalize A.locate gb gc false=r at jf ie⊢;obtain⟨e,p⟩:=r;simp only at ie;unfold plL;by_cases he:e=0
 case neg =>
  rw[d7 he];unfold plZ
  (refine l6 rfl ?_;try dsimp only)
  refine A5 ?_;intro b8 Y2 g2 e2 n2;refine C1 e2 I1 ?_;intro Y3 p3;refine l9 (by simpa using he) (same Y3 e (by rw[ie,d8 he]) (g1.trans (g2.putF p3 n2)))
 subst he;rw[d8 rfl];rw[d7 (by decide)]at ie;unfold plV
 (refine l6 rfl ?_;try dsimp only)
 refine A5 ?_;intro b8 Y2 g2 e2 n2;refine C1 e2 I1 ?_;intro Y3 p3;have iz:Gr Y Y3:=g1.trans (g2.putF p3 n2);have k8:Y3 b8=some (.c [.i (p.gh-1),.s p.gu,.i (if p.there then p.gf-1 else -1)] 95):=p3.same;have f8:Y b8=none:=A9 g1 n2;have jl:=hM.gr iz;have hP:ab6 A p:=jf rfl;have hw8:=hM.new f8;clear p3 e2;refine l7 rfl (D1 (f0 k8 (by rfl)) ?_);cases ht:p.there with
 |false =>
  rw[d8 ht]at ie;exact l9 rfl (same Y3 5 ie iz)
 |true =>
 rw[d7 (by rw[ht];decide)]at ie;obtain⟨n,hn⟩:=ab6.get hI hP ht;have ji:=hI.low _ _ hn;rw[d8 ht]at k8;rw[d8 rfl];refine l7 (by simp only[K6];omega) (C6 (f0 k8 (by rfl)) ?_);rw[<-I5];cases ia:E8 p.gu gq with
 |true =>
  rw[d8 ia]at ie;exact l9 rfl (same Y3 2 ie iz)
 |false =>
 rw[d7 (by rw[ia];decide)]at ie;have Fa:p.gu≠gq:=fun e=>by rw[e]at ia;exact m7 ia (by decide)
 obtain⟨Gh,ru⟩:=hP.named Fa;rw[d8 ht]at ru;have il:A.gd p.gf=E7 (C5 n.gj):=by unfold AT.gd;rw[hn]
 have i11:p.gf-1+1=p.gf:=by omega
 have d11:p.gh-1+1=p.gh:=by omega
 obtain⟨gs,os,s1,s2,s3⟩:=jl.slot hI (d:=p.gf-1) (n:=n) (by rw[i11];exact hn);rw[i11]at s3;refine l7 rfl (j0 (U6 (f0 jl.top (by rfl)) (D1 (f0 k8 (by rfl)) ?_)));rw[s1];refine j0 (D0 s2 (E9 s3 (j0 (U6 (f0 (jl.nod _ _ hn) (by rfl)) ?_))));have lc:(M.ey p.gf).len=(E7 (C5 n.gj)).length:=by have:=(jl.ent _ _ hn).1;simpa[aj8]using this
 rw[il]at ie;by_cases c20:(E7 (C5 n.gj)).length>0
 ·rw[d8 c20]at ie;exact l9 (by simp only[I6];omega) (same Y3 20 ie iz)
 rw[d7 c20]at ie;have jh:n.gj=[]:=by
  rw[(I7 _).length_eq]at c20;have:n.gj.length=0:=by simp[C5]at c20;simp[c20]
  exact ai0 this
 obtain⟨nd,ij,va⟩:=id hP.1;have qv:A.unlinkE p.gh p.gu=0:=by
  unfold AT.unlinkE;rw[AT.dirE_of hP.1,ru];simp[N0,hn,jh]
 have Dp:A.unlinkR p.gh p.gu=(0,A.unlinked p.gh p.gu):=by unfold AT.unlinkR;rw[d8 qv]
 obtain⟨L1,L2,L3,L4,L5,L6⟩:=as1 hI hB (by omega) qv ij ru hn;have qm:nd.gj.length<=N:=hB.gj _ _ ij;have Cj:=hB.last;refine l7 (by simp only[K6];omega) (D1 (f0 k8 (by rfl)) (C6 (f0 k8 (by rfl)) ?_));refine l5 (aL4 jl hI.low (by rw[d11];exact ij) (hI.enod _ _ ij) (by omega) ?_);intro V1 M1 h1 fr1;rw[d11]at h1;refine U9 ?_;obtain⟨z8,w8⟩:=fr1 _ _ k8 hw8;refine D1 (f0 z8 (by rfl)) ?_;have Ay:(A.set p.gh {nd with gj:=rm p.gu nd.gj}).get p.gf=some n:=by rw[AT.get_set_ne _ _ L1];exact hn
 refine l5 (br6 h1 (bh4 hI.low ij) (by show A.last<=_;omega) (M5 hI.nodup) ?_ ?_ (by rw[i11];exact Ay) (by omega) ?_)
 ·intro i k hk;rw[AT.get_set]at hk;by_cases e:i=p.gh
  ·rw[d8 e]at hk;cases hk;exact ai6 (hI.enod _ _ ij)
  ·rw[d7 e]at hk;exact hI.enod _ _ hk
 ·intro i k hk;rw[AT.get_set]at hk;by_cases e:i=p.gh
  ·rw[d8 e]at hk;cases hk;have:=by4 p.gu nd.gj;show(rm p.gu nd.gj).length<=_;omega
  ·rw[d7 e]at hk;have:=hB.gj _ _ hk;omega
 intro V2 h2 fr2;refine U9 ?_;rw[i11]at h2;have el:(A.set p.gh {nd with gj:=rm p.gu nd.gj}).last=A.last:=rfl;rw[el]at h2;have xk:N9 V2 b (A.unlinked p.gh p.gu) M1:=by
  by_cases hs:Q2 (P2 p.gf) (A.set p.gh {nd with gj:=rm p.gu nd.gj}).nodes A.last.toNat=0
  ·rw[d8 hs]at h2;refine h2.like (by rw[L3];rfl) (by rw[L4];rfl) (by rw[L5];rfl) fun j=>?_;rw[L6 j,aB5 _ (M5 hI.nodup)];by_cases e:j=p.gf
   ·rw[d8 ⟨e,hs⟩,d8 e]
   ·rw[d7 (fun h=>e h.1),d7 e]
  ·rw[d7 hs]at h2;refine h2.like (by rw[L3];rfl) (by rw[L4];rfl) (by rw[L5];rfl) fun j=>?_;rw[L6 j,d7 (fun h=>hs h.2)]
 rw[ie,Dp]at hK;refine hK V2 (fun c=>M1.w c≠none) ⟨M1,xk,fun c=>Iff.rfl⟩ (H1.of_frame hD fun c o hc hw=>?_);obtain⟨y1,y2⟩:=fr1 c o (iz.get hc) hw;exact fr2 c o y1 y2
end
end
section
theorem u8b(a b:J3):((((a.toNat:Nat):Int):Int)==((b.toNat:Nat):Int))=(a==b):=by
 rw[Q9];simp only[beq_iff_eq];constructor
 ·intro h;exact UInt8.toNat_inj.1 (by omega)
 ·intro h;rw[h]
attribute [local irreducible] i9 E3 A0 I9 l8 H0 C0 stW muW biW W7 imW J0 G8 app E2 J1 D3 E6 oW P0 J5 C9 rfW N5 M9 D5 exW I2 Gr P1
def rtV(C:TlC)(s:TS):List u9:=[.q C.bf,.s C.nm,.slice C.x.base C.x.len C.x.cap,.s C.inn,.s C.gb,.s s.out,.s s.err,.i s.st,.bool s.full]
def K8(Y:H)(bt:Nat)(C:TlC)(s:TS)(B:Nat->Prop):Prop:=∃B0,Y bt=some (.cells ⟨rtV C s⟩ 59 (0,0))/\Z2 Y C.bf s.A B0/\¬B0 bt/\∀b,B b↔(B0 b\/b=bt)
section
variable {Y Y':H} {bt b:Nat} {C:TlC} {s:TS} {B:Nat->Prop} {o:Obj}
theorem Z2.put{A:AT}{D:Nat->Prop}{c:Nat}(h:Z2 Y b A D)(hp:P1 Y c o Y')(hn:¬D c):Z2 Y' b A D:=by
 obtain⟨M,h1,h2⟩:=h;exact⟨M,h1.keep fun c' o' hc hw=>hp.get (fun e=>hn ((h2 c).2 (by rw[<-e];exact hw))) hc,h2⟩
theorem K8.gr(h:K8 Y bt C s B)(hg:Gr Y Y'):K8 Y' bt C s B:=by
 obtain⟨B0,h1,h2,h3,h4⟩:=h;exact⟨B0,hg.get h1,h2.gr hg,h3,h4⟩
theorem K8.put(h:K8 Y bt C s B)(hp:P1 Y b o Y')(hn:¬B b):K8 Y' bt C s B:=by
 obtain⟨B0,h1,h2,h3,h4⟩:=h;exact⟨B0,hp.get (fun e=>hn ((h4 b).2 (.inr e.symm))) h1,h2.put hp (fun e=>hn ((h4 b).2 (.inl e))),h3,h4⟩
theorem K8.cell(h:K8 Y bt C s B):Y bt=some (.cells ⟨rtV C s⟩ 59 (0,0)):=by obtain⟨_,h1,_⟩:=h;exact h1
theorem K8.say(h:K8 Y bt C s B){s':TS}(hA:s'.A=s.A)(hp:P1 Y bt (.cells ⟨rtV C s'⟩ 59 (0,0)) Y'):K8 Y' bt C s' B:=by
 obtain⟨B0,h1,h2,h3,h4⟩:=h;exact⟨B0,hp.same,by rw[hA];exact h2.put hp h3,h3,h4⟩
theorem K8.fs(h:K8 Y bt C s B):∃B0,Z2 Y C.bf s.A B0/\∀ {A':AT} {B0':Nat->Prop} {Y':H},Z2 Y' C.bf A' B0'->H1 Y B0 Y' B0'->∃B',K8 Y' bt C {s with A:=A' } B'/\H1 Y B Y' B':=by
 obtain⟨B0,h1,h2,h3,h4⟩:=h;refine⟨B0,h2,fun {A' B0' Y'} hf hs=>⟨fun b=>B0' b\/b=bt,⟨B0',(hs bt _ h1 h3).1,hf,(hs bt _ h1 h3).2,fun b=>Iff.rfl⟩,?_⟩⟩;intro c oc hc hn;have iy:¬B0 c/\c≠bt:=⟨fun e=>hn ((h4 c).2 (.inl e)),fun e=>hn ((h4 c).2 (.inr e))⟩;exact⟨(hs c oc hc iy.1).1,fun e=>e.elim (hs c oc hc iy.1).2 iy.2⟩
theorem K8.has(h:K8 Y bt C s B)(hb:B b):Y b≠none:=by
 obtain⟨B0,h1,h2,h3,h4⟩:=h;rcases(h4 b).1 hb with e|e
 ·exact h2.has e
 ·rw[e,h1];simp
theorem K8.fresh(h:K8 Y bt C s B)(hb:Y b=none):¬B b:=fun e=>h.has e hb
theorem K8.own(h:K8 Y bt C s B):B bt:=by obtain⟨_,_,_,_,q⟩:=h;exact(q bt).2 (.inr rfl)
theorem K8.sep(h:K8 Y bt C s B){V V':H}(hp:P1 V bt o V'):H1 V B V' B:=fun c oc rq hn=>⟨hp.get (fun e=>hn (e ▸ h.own)) rq,hn⟩
theorem X5(h:K8 Y bt C s B)(gu:d9){e:Int}(he:Er e)(mz:C.nm.size<=1000000)(kx:gu.size<=1000000)(hz3:s.err.size<=1000000000000){K:KH}(hK:∀Y',K8 Y' bt C (s.fail C.nm gu e) B->H1 Y B Y' B->K (.bool (!(e==0))) Y'):i7 37 [.q bt,.s gu,.i e] K Y:=by
 have hz4:=aR4 he;refine c37 _ _ _ ?_;unfold g37;by_cases wv:e=0
 ·subst wv;exact l9 rfl (hK Y h (H1.refl _ _))
 have my:(e==0)=false:=by rw[X0];exact wv
 have hc:=h.cell;have hf:s.fail C.nm gu e={s with err:=s.err++ak2 C.nm gu e,st:=if e==10 then 3 else(if s.st<1 then 1 else s.st),full:=s.full||e==10}:=by
  unfold TS.fail;rw[d7 (by rw[beq_iff_eq];exact wv)]
 have pj:s.err++ak2 C.nm gu e=(((((s.err++C.nm)++(bs [58,32]))++gu)++(bs [58,32]))++aV8 10 e)++(bs [10]):=by
  unfold ak2;simp only[ByteArray.append_assoc]
 have h2:((bs [58,32]):d9).size=2:=rfl;have h1:((bs [10]):d9).size=1:=rfl;refine l7 my (j0 (C6 (f0 hc) (j0 (C6 (f0 hc) ?_))));refine D0 (by omega) (D0 (by simp only[D8];omega) (D0 (by simp only[D8];omega) (D0 (by simp only[D8];omega) ?_)));refine l5 (bH7 he.1 he.2 (ab2 ?_));refine aa6 (f0 hc) (aa6 (f0 hc) ?_);refine D0 (by simp only[D8];omega) (D0 (by simp only[D8];omega) (j0 ?_));rw[<-pj];refine C1 hc U3 ?_;intro Y1 p1;refine j0 (D1 (f0 p1.same) (j0 ?_));refine C1 p1.same aj3 ?_;intro Y2 p2;have t1:K8 Y1 bt C {s with err:=s.err++ak2 C.nm gu e} B:=h.say rfl p1;have est:(if 1>s.st then(1:Int)else s.st)=if s.st<1 then 1 else s.st:=rfl
 have t2:K8 Y2 bt C {s with err:=s.err++ak2 C.nm gu e,st:=if s.st<1 then 1 else s.st} B:=t1.say rfl p2;rw[hf]at hK;have ia:(!(e==0))=true:=by rw[my];rfl
 rw[ia]at hK;refine K5 (fun j=>∀V,K8 V bt C {s with err:=s.err++ak2 C.nm gu e,st:=if e==10 then 3 else(if s.st<1 then 1 else s.st),full:=s.full||e==10} B->H1 Y B V B->j V) (fun V ht hs=>hK V ht hs) ?_;intro j hj;cases hE:(e==10) with
 |false =>
  refine l7 rfl (hj Y2 ?_ ((h.sep p1).trans (h.sep p2)));rw[hE,U0];exact t2
 |true =>
  refine l9 rfl (j0 ?_);refine C1 p2.same aA6 ?_;intro Y3 p3;refine j0 ?_;refine C1 p3.same aj3 ?_;intro Y4 p4;have t3:K8 Y3 bt C {s with err:=s.err++ak2 C.nm gu e,st:=if s.st<1 then 1 else s.st,full:=true} B:=t2.say rfl p3;have t4:K8 Y4 bt C {s with err:=s.err++ak2 C.nm gu e,st:=3,full:=true} B:=t3.say rfl p4;refine hj Y4 ?_ ((((h.sep p1).trans (h.sep p2)).trans (h.sep p3)).trans (h.sep p4));rw[hE,Bool.or_true];exact t4
end
section
variable {Y:H}
theorem ao4(l:List J3)(c:J3)(hz:l.length<=1000000){K:KH}(hK:K (.bool (I8 ⟨⟨l⟩⟩ c)) Y):i7 34 [.s ⟨⟨l⟩⟩,.int .u8 ((c.toNat:Nat):Int)] K Y:=by
 refine c34 _ _ ?_;unfold g34;refine H9 ?_;intro R hR;have key:∀ (n i:Nat),n+i=l.length->I8 ⟨⟨l⟩⟩ c=(l.drop i).contains c->R ⟨⟨l⟩⟩ ((c.toNat:Nat):Int) (i:Int) Y:=by
  intro n
  induction n with
  |zero =>
   intro i hn he;rw[M3 (by omega)]at he;rw[he]at hK;refine hR _ _ _ _ (l7 (by rw[bsz];exact W4) hK)
  |succ n ih =>
   intro i hn he;obtain⟨ch,pc⟩:∃ch,l[i]?=some ch:=⟨_,G0 (by omega)⟩;rw[S9 pc,List.contains_cons]at he;refine hR _ _ _ _ (l9 (by rw[bsz];exact M7) (X9 (c:=ch) (by omega) (by simpa using pc) ?_));rw[u8b];cases hc:(ch==c) with
   |true =>
    have:(c==ch)=true:=by rw[eq_of_beq hc];simp
    rw[this,Bool.true_or]at he;rw[he]at hK;exact l9 rfl hK
   |false =>
    have:(c==ch)=false:=by rw[X0]at hc⊢;exact fun e=>hc e.symm
    rw[this,R0]at he;refine l7 rfl ?_;rw[ab9 (i:=i)];exact ih (i+1) (by omega) he
 exact key l.length 0 (by omega) rfl
theorem bb5(l:List J3)(c:J3):N4 (l++[c])=if c==47 then N4 l else l++[c]:=by
 unfold N4;rw[List.reverse_append,List.reverse_singleton,List.singleton_append,List.dropWhile_cons];split
 ·rfl
 ·rw[List.reverse_cons,List.reverse_reverse]
theorem aF4{l:List J3}{n:Nat}{c:J3}(hl:l.length=n+1)(h:l[n]?=some c):l=l.take n++[c]:=by
 have:=R1 (l:=l) (i:=n);rw[Q1 (by omega),h]at this;exact this
theorem br7(l:List J3)(hz:l.length<=1000000000){K:KH}(hK:K (.s ⟨⟨N4 l⟩⟩) Y):i7 156 [.s ⟨⟨l⟩⟩] K Y:=by
 refine du6 _ ?_;unfold cR1;refine H9 ?_;intro R hR;have key:∀ (n:Nat) (p:List J3),p.length=n->n<=1000000000->N4 p=N4 l->R ⟨⟨p⟩⟩ Y:=by
  intro n
  induction n with
  |zero =>
   intro p hp _ hb;refine hR _ _ (K5 (fun j=>j ⟨⟨p⟩⟩ false Y) ?_ fun j hj=>l7 (by rw[bsz];exact W4) hj);refine l7 rfl ?_;have:p=[]:=ai0 hp;subst this;rw[<-hb]at hK;exact hK
  |succ n ih =>
   intro p hp hn hb;obtain⟨c,hc⟩:∃c,p[n]?=some c:=⟨_,G0 (by omega)⟩;have hw:IntKind.i64.wrap (((((⟨⟨p⟩⟩:d9).size:Nat):Int))-1)=(n:Int):=by rw[bsz,D7 (by omega) (by omega)];omega
   have hsn:=aF4 hp hc
   refine hR _ _ (K5 (fun j=>j ⟨⟨p⟩⟩ (c==47) Y) ?_ fun j hj=>l9 (by rw[bsz];exact M7) (by
    rw[hw]
    exact X9 (c:=c) (by omega) (by simpa using hc) (by have:=u8b c 47;rw[show((((c.toNat:Nat):Int):Int)==47)=(c==47)from this];exact hj)))
   cases h:(c==47) with
   |true =>
    rw[hw,P5,bex,ac4];refine l9 rfl (D0 ⟨J2 (by omega) (by rw[bsz];omega),M8⟩ (ih (p.take n) (by rw[P4];omega) (by omega) ?_));rw[<-hb,hsn,bb5,h,d8 rfl]
    congr 1
    rw[List.take_append_of_le_length (by rw[P4];omega),List.take_take,Nat.min_self]
   |false =>
    refine l7 rfl ?_;have:N4 p=p:=by rw[hsn,bb5,h];rfl
    rw[<-hb,this]at hK;exact hK
 exact key l.length l rfl hz rfl
theorem bS0(l:List J3):N4 (N4 l)=N4 l:=by
 unfold N4;rw[List.reverse_reverse]
 congr 1
 induction l.reverse with
 |nil=>rfl
 |cons c r ih =>
  rw[List.dropWhile_cons];split
  ·exact ih
  ·rename_i h;rw[List.dropWhile_cons,d7 h]
theorem br8(l:List J3)(hz:l.length<=1000000000){K:KH}(hK:K (.s (ah6 ⟨⟨l⟩⟩)) Y):i7 97 [.s ⟨⟨l⟩⟩] K Y:=by
 refine c97 _ ?_;unfold g97;refine l5 (br7 l hz (ab2 ?_));have jf:=at8 l;have hl:ah6 ⟨⟨l⟩⟩=⟨⟨ag9 (N4 l)⟩⟩:=rfl;rw[hl]at hK;clear hl;generalize N4 l=p at hK jf⊢;rw[<- (at3 p).2]at hK;refine H9 ?_;intro R hR;have key:∀ (n:Nat),n<=p.length->ac8 47 (p.take n)=ac8 47 p->R ⟨⟨p⟩⟩ ((n:Int)-1) Y:=by
  intro n
  induction n with
  |zero =>
   intro hn he;refine hR _ _ _ (l7 (W4 (by omega)) ?_);have:ac8 47 p=0:=by rw[<-he];rfl
   rw[this,ac4]at hK;exact hK
  |succ n ih =>
   intro hn he;obtain⟨c,hc⟩:∃c,p[n]?=some c:=⟨_,G0 (by omega)⟩;have e1:((n+1:Nat):Int)-1=(n:Int):=by omega
   rw[e1];rw[R1,hc]at he;have he:ac8 47 (p.take n++[c])=ac8 47 p:=he;rw[aQ8]at he;refine hR _ _ _ (l9 (M7 (by omega)) (X9 (c:=c) (by omega) (by simpa using hc) ?_));rw[show((((c.toNat:Nat):Int):Int)==47)=(c==47)from u8b c 47];cases h:(c==47) with
   |true =>
    rw[h,d8 rfl,P4]at he;refine l9 rfl ?_;rw[D7 (x:=(n:Int)+1) (by omega) (by omega),show((n:Int)+1).toNat=n+1 from by omega,aQ7];rw[show ac8 47 p=n+1 from by omega]at hK;exact D0 ⟨M8,J2 (by omega) (by rw[bsz];omega)⟩ hK
   |false =>
    rw[h,d7 (by simp)]at he;refine l7 rfl ?_;rw[D7 (x:=(n:Int)-1) (by omega) (by omega)];exact ih (by omega) he
 rw[bsz,D7 (by omega) (by omega)];exact key p.length (A7 _) (by rw[Q1 (A7 _)])
theorem bS1(l:List J3):ah6 ⟨⟨N4 l⟩⟩=ah6 ⟨⟨l⟩⟩:=by
 show(⟨⟨ag9 (N4 (N4 l))⟩⟩:d9)=_;rw[bS0];rfl
theorem bS2(l:List J3)(hz:l.length<=1000000000){K:KH}(hK:K (.s (ae7 ⟨⟨l⟩⟩)) Y):i7 158 [.s ⟨⟨l⟩⟩] K Y:=by
 refine cy2 _ ?_;unfold cR5;have jf:=at8 l;refine l5 (br7 l hz (ab2 (l5 (br8 (N4 l) (by omega) (ab2 ?_)))));rw[bS1];have hl:ah6 ⟨⟨l⟩⟩=⟨⟨ag9 (N4 l)⟩⟩:=rfl;rw[hl];have e:ae7 ⟨⟨l⟩⟩=if !(aJ0 (N4 l)).isEmpty then⟨⟨aJ0 (N4 l)⟩⟩else if C8 47 ⟨⟨l⟩⟩then (bs [47]) else (bs [46]):=rfl
 rw[e]at hK;clear e hl;generalize N4 l=p at hK jf⊢;obtain⟨u1,u2⟩:=at3 p;have qx:=aF5 47 p;rw[<-u2];rw[<-u1]at hK;have hw:IntKind.i64.wrap ((((⟨⟨p⟩⟩:d9).size:Nat):Int)-(((⟨⟨p.drop (ac8 47 p)⟩⟩:d9).size:Nat):Int))=((ac8 47 p:Nat):Int):=by
  rw[bsz,bsz,X1,D7 (by omega) (by omega)];omega
 rw[hw,P5,bex,ac4];refine D0 ⟨J2 (by omega) (by rw[bsz];omega),M8⟩ ?_;generalize p.take (ac8 47 p)=u at hK;refine K5 (fun j=>∀t:Bool,t=(u.isEmpty&&C8 47 ⟨⟨l⟩⟩)->j ⟨⟨u⟩⟩ t Y) ?_ ?_
 ·intro t ht;cases hu:u.isEmpty with
  |false =>
   rw[hu,Z5]at ht;rw[hu]at hK;subst ht;refine l7 rfl (l7 ?_ hK);rw[Z4];exact hu
  |true =>
   rw[hu,T8]at ht;rw[hu]at hK;cases hh:C8 47 ⟨⟨l⟩⟩ with
   |true=>rw[hh]at ht hK;subst ht;exact l9 rfl hK
   |false =>
    rw[hh]at ht hK;subst ht;exact l7 rfl (l9 (by rw[Z4];exact hu) hK)
 ·intro j hj;rw[Z4];show A0 u.isEmpty _ _ Y;cases hu:u.isEmpty with
  |false=>exact l7 rfl (hj false (by rw[hu];rfl))
  |true =>
   refine l9 rfl ?_;cases l with
   |nil=>exact l7 rfl (hj false (by simp[C8]))
   |cons c r =>
    refine l9 (by rw[bsz,H4];exact M7) (X9 (c:=c) (by decide) rfl ?_);rw[show((((c.toNat:Nat):Int):Int)==47)=(c==47)from u8b c 47];exact hj _ (by rw[hu];rfl)
def cp5(s:d9):Int:=(av2 s).getD (-1)
def bD7(l:List J3):Nat:=l.foldl (fun n c=>8*n+(c.toNat-48)) 0
theorem cp6:∀ (l:List J3),l.length<=3->(l.all fun c=>Nat.ble 48 c.toNat&&Nat.ble c.toNat 55)=true->bD7 l<512:=by
 intro l h ha
 match l,h with
 | [],_=>decide
 | [a],_ =>
  simp only[List.all_cons,List.all_nil,Bool.and_true,J4,Nat.ble_eq]at ha;show 8*0+(a.toNat-48)<512;omega
 | [a,b],_ =>
  simp only[List.all_cons,List.all_nil,Bool.and_true,J4,Nat.ble_eq]at ha;show 8*(8*0+(a.toNat-48))+(b.toNat-48)<512;omega
 | [a,b,c],_ =>
  simp only[List.all_cons,List.all_nil,Bool.and_true,J4,Nat.ble_eq]at ha;show 8*(8*(8*0+(a.toNat-48))+(b.toNat-48))+(c.toNat-48)<512;omega
theorem bb6(l:List J3)(hz:l.length<=1000000){K:KH}(hK:K (.i (cp5 ⟨⟨l⟩⟩)) Y):i7 35 [.s ⟨⟨l⟩⟩] K Y:=by
 refine c35 _ ?_;unfold g35;have rq:cp5 ⟨⟨l⟩⟩=(if l.isEmpty||(decide (l.length>3) || !l.all fun c=>Nat.ble 48 c.toNat&&Nat.ble c.toNat 55)then none else some ((bD7 l:Nat):Int):Option Int).getD (-1):=rfl;rw[rq]at hK;clear rq;refine H9 ?_;intro R hR;have key:∀ (n i:Nat) (x:Int),n+i=l.length->(l.take i).all (fun c=>Nat.ble 48 c.toNat&&Nat.ble c.toNat 55)=true->(i<=3->x=((bD7 (l.take i):Nat):Int))->R ⟨⟨l⟩⟩ x (i:Int) Y:=by
  intro n
  induction n with
  |zero =>
   intro i x hn ha hx;rw[Q1 (by omega)]at ha hx;rw[ha]at hK;refine hR _ _ _ _ (l7 (by rw[bsz];exact W4) ?_);refine K5 (fun j=>∀t:Bool,t=(l.isEmpty||decide (l.length>3))->j x t Y) ?_ ?_
   ·intro t ht;rw[Bool.not_true,U0,<- ht]at hK;cases t with
    |true=>exact l9 rfl hK
    |false =>
     have:l.length<=3:=by
      have:=(Bool.or_eq_false_iff.1 ht.symm).2;simp at this;omega
     refine l7 rfl ?_;rw[hx (by omega)];exact hK
   ·intro j hj;cases l with
    |nil=>exact l9 rfl (hj true rfl)
    |cons c r =>
     refine l7 (by rw[bsz,H4];exact W4) (hj _ ?_);rw[bsz];show decide ((((c::r).length:Nat):Int)>3)=(false||decide ((c::r).length>3));rw[R0,Q9,I6,I6];omega
  |succ n ih =>
   intro i x hn ha hx;obtain⟨c,hc⟩:∃c,l[i]?=some c:=⟨_,G0 (by omega)⟩;have qt:l.take (i+1)=l.take i++[c]:=by rw[R1,hc];rfl
   refine hR _ _ _ _ (l9 (by rw[bsz];exact M7) ?_);refine K5 (fun j=>∀t:Bool,t=!(Nat.ble 48 c.toNat&&Nat.ble c.toNat 55)->j ⟨⟨l⟩⟩ x (i:Int) t Y) ?_ ?_
   ·intro t ht;cases hd:(Nat.ble 48 c.toNat&&Nat.ble c.toNat 55) with
    |false =>
     rw[hd]at ht;subst ht;have iq:(l.all fun c=>Nat.ble 48 c.toNat&&Nat.ble c.toNat 55)=false:=by
      rw[<-Bool.not_eq_true,X2];intro h;have:=h c (K7 hc);rw[hd]at this;cases this
     rw[iq]at hK;simp only[Bool.not_false,Bool.or_true,if_true]at hK;exact l9 rfl hK
    |true =>
     rw[hd]at ht;subst ht;refine l7 rfl (X9 (c:=c) (by omega) (by simpa using hc) ?_);rw[ab9 (i:=i)];have ha':(l.take (i+1)).all (fun c=>Nat.ble 48 c.toNat&&Nat.ble c.toNat 55)=true:=by
      rw[qt,List.all_append,ha];simp only[List.all_cons,List.all_nil,Bool.and_true,T8];exact hd
     refine ih (i+1) _ (by omega) ha' fun hi=>?_;have iw:=cp6 (l.take i) (by rw[P4];omega) ha;rw[hx (by omega),qt];have:bD7 (l.take i++[c])=8*bD7 (l.take i)+(c.toNat-48):=by unfold bD7;rw[List.foldl_append];rfl
     rw[this];simp only[J4,Nat.ble_eq]at hd;rw[D7 (x:=8*((bD7 (l.take i):Nat):Int)) (by omega) (by omega),IntKind.wrap_u8];have:((c.toNat:Int)-48)%256=((c.toNat-48:Nat):Int):=by omega
     rw[this,D7 (x:=((c.toNat-48:Nat):Int)) (by omega) (by omega),D7 (by omega) (by omega)];omega
   ·intro j hj;refine X9 (c:=c) (by omega) (by simpa using hc) ?_;by_cases h1:c.toNat<48
    ·refine l9 (M7 (by omega)) (hj true ?_);have:Nat.ble 48 c.toNat=false:=by rw[<-Bool.not_eq_true,Nat.ble_eq];omega
     rw[this];rfl
    ·refine l7 (W4 (by omega)) (X9 (c:=c) (by omega) (by simpa using hc) (hj _ ?_));have:Nat.ble 48 c.toNat=true:=by rw[Nat.ble_eq];omega
     rw[this,T8,Q9];simp only[I6,Bool.not_eq_true',<- Bool.not_eq_true,Nat.ble_eq];omega
 exact key l.length 0 0 rfl rfl fun _=>rfl
end
end
section
def bS3:u9:=.iface 206 (.i 2)
theorem cp7(x:Nat)(w:World):(do eqGuard .neq 160 (.tmp x) (.const .nilIface) bS3 .nilIface;binOp .neq 160 bS3 .nilIface:Sem u9).run Tryz.prog w=.ok (.bool true) w:=by kernel_rfl
theorem cp8(x y:Nat)(w:World):(do eqGuard .eql 160 (.tmp x) (.tmp y) bS3 bS3;binOp .eql 160 bS3 bS3:Sem u9).run Tryz.prog w=.ok (.bool true) w:=by kernel_rfl
theorem cp9(x:Nat)(b:Nat)(w:World):(do eqGuard .eql 160 (.tmp x) (.const .nilIface) (.iface 209 (.q b)) .nilIface;binOp .eql 160 (.iface 209 (.q b)) .nilIface:Sem u9).run Tryz.prog w=.ok (.bool false) w:=by kernel_rfl
def ErS(Y:H):Prop:=∃t u cs ty fz,Y 1=some (.cells ⟨.iface t u::cs⟩ ty fz)
theorem ErS.gr{Y Y':H}(h:ErS Y)(hg:Gr Y Y'):ErS Y':=by
 obtain⟨t,u,cs,ty,fz,e⟩:=h;exact⟨t,u,cs,ty,fz,hg.get e⟩
attribute [local irreducible] i9 E3 A0 I9 l8 H0 C0 stW muW biW W7 imW J0 G8 app E2 J1 D3 E6 oW P0 J5 C9 rfW N5 M9 D5 exW I2 Gr P1
section
variable {Y V:H}
theorem cq0(hE:ErS Y){K:KH}(hK:∀Y' b,Gr Y Y'->K (.t [.i 0,.iface 209 (.q b)]) Y'):i7 137 [.s gq,.i 8,.i 32] K Y:=by
 refine cO7 _ _ _ ?_;unfold cy1;refine l5 (cU7 _ _ _ ?_);unfold cy4;refine l9 (by rw[Z4];rfl) (aH4 (bz4 (v:=.bool true) (fun w=>cp7 _ w) (H2 (l9 rfl ?_))));refine l5 (cy5 _ _ _ _ _ ?_);unfold cU9;refine bz4 (v:=.bool true) (fun w=>cp8 _ _ w) (H2 (l9 rfl (l5 (dx7 _ _ ?_))));unfold cY3;obtain⟨t,u,cs,ty,fz,e⟩:=hE;refine bK3 (x:=.iface t u) (f0 e) (l5 (dy4 _ ?_));unfold cZ7;refine l9 rfl (ab2 (aa6 (f0 e) ?_));unfold J5;refine A5 ?_;intro b Y1 g1 e1 n1;exact am7 (l6 rfl (hK Y1 b g1))
theorem bD8(hE:ErS Y)(l:List J3)(hl:l.length<=1000000){K:KH}(hK:∀Y',Gr Y Y'->K (.t [.i ((av2 ⟨⟨l⟩⟩).getD 0),.bool (av2 ⟨⟨l⟩⟩).isSome]) Y'):i7 80 [.s ⟨⟨l⟩⟩] K Y:=by
 by_cases h1:l=[]
 ·subst h1;refine c80 _ ?_;unfold g80;refine K5 (fun j=>j gq false Y) ?_ ?_
  ·refine l7 rfl (l5 (cq0 hE ?_));intro Y1 b g1;exact aH4 (bz4 (v:=.bool false) (fun w=>cp9 _ b w) (H2 (hK Y1 g1)))
  ·intro j hj;refine l7 (by decide) (l5 (aK6 [] cg7 (by decide) (by decide) (by decide) (ab2 ?_)));rw[Z4];exact hj
 ·exact bb2 l h1 hl (hK Y (Gr.refl _))
end
section
variable {Y V:H} {bt:Nat} {C:TlC} {ge:d9} {y:Sl} {s:TS} {B:Nat->Prop} {gd:List d9}
theorem aV1(hE:ErS Y)(h:I4 Y bt C ge y s B)(hO:Off V Y B)(hy:F0 V 1 (u0 gd) y)(kc:∀n∈gd,n.size<=1000000)(hc:C.nm=Z1){K:KH}(hK:∀Y',Gr Y Y'->K (.bool (L0 Z1 ge gd)) Y'):i7 32 [.q bt] K Y:=by
 refine c32 _ ?_;unfold g32;simp only[aK9]at hK;have lc:=ad9 hy;refine j0 (ag1 (y:=y) (f0 h.cell) (j0 (C6 (f0 h.cell) ?_)));rw[lc,hc];simp only[<-I5];refine l7 (by decide +kernel) (K5 (fun j=>j (gp bt) ((gd.length:Nat):Int) Z1 false Y) ?_ ?_)
 ·refine l7 rfl (l9 (by decide +kernel) ?_)
  match gd,hy,kc,hK,lc with
  | [],_,_,hK,_=>exact l9 (by decide) (hK Y (Gr.refl _))
  | [_],_,_,hK,_=>exact l9 rfl (hK Y (Gr.refl _))
  |ii::b::r,hy,kc,hK,lc =>
   rw[H4,H4]at lc;refine l7 (by rw[K6,H4,H4];omega) (j0 (ag1 (y:=y) (f0 h.cell) ?_));obtain⟨g,o,a1,a2,a3⟩:=Z8 (hy.gr hO.1) (i:=0) (s:=ii) rfl;have q2:=kc ii (H7 ..);rw[a1];obtain⟨⟨hw⟩⟩:=ii;refine j0 (D0 ⟨by decide,by omega⟩ (C6 a3 (l5 (bD8 hE hw q2 ?_))));intro Y2 g2;refine am4 ?_;obtain⟨g',o',b1,b2,b3⟩:=Z8 (hy.gr (hO.gr g2).1) (i:=0) (s:=⟨⟨hw⟩⟩) rfl;rw[a1]at b1;injection b1 with b1;injection b1 with z1 z2;subst z1;subst z2
   have h':=h.gr g2;have hK:K (.bool ((av2 ⟨⟨hw⟩⟩).isSome||(E8 ⟨⟨hw⟩⟩ (bs [43,120])||E8 ⟨⟨hw⟩⟩ (bs [45,120])))) Y2:=hK Y2 g2;cases ho:(av2 ⟨⟨hw⟩⟩).isSome with
   |true=>rw[ho,Bool.true_or]at hK;exact l9 rfl hK
   |false =>
    rw[ho,R0]at hK;refine l7 rfl (j0 (ag1 (y:=y) (f0 h'.cell) ?_));rw[a1];refine j0 (D0 ⟨by decide,by omega⟩ (C6 b3 ?_));cases hx:E8 ⟨⟨hw⟩⟩ (bs [43,120]) with
    |true=>rw[hx,Bool.true_or]at hK;exact l9 rfl hK
    |false =>
     rw[hx,R0]at hK;refine l7 rfl (j0 (ag1 (y:=y) (f0 h'.cell) ?_));rw[a1];exact j0 (D0 ⟨by decide,by omega⟩ (C6 b3 hK))
 ·intro j hj;refine l7 (by decide +kernel) ?_;rw[show E8 Z1 (bs [99,112])=false from by decide +kernel];exact hj
end
section
variable {Y V:H} {bf:Nat} {A:AT} {B:Nat->Prop} {x:Sl} {args:List d9}
theorem ci2{Q:AT->Prop}(hF:J8 Y bf A B)(hO:Off V Y B)(inn gb:d9)(ha:af8 V args x)(hE:ErS V)(hQ:Q A)
 (Ce:∀ge gd y bt Y1 B1 V1,ao3 args=some (ge,gd)->L0 Z1 ge gd=true->I4 Y1 bt ⟨Z1,inn,gb,x,bf⟩ ge y (TS.new A) B1->Off V1 Y1 B1->F0 V1 1 (u0 gd) y->y.len<=y.cap->∀K:u9->H->Prop,
  (∀Y' B' y',I4 Y' bt ⟨Z1,inn,gb,x,bf⟩ ge y' (doP A Z1 gb ge gd) B'->H1 Y1 B1 Y' B'->Q (doP A Z1 gb ge gd).A->K (.t []) Y')->i7 25 [.q bt] K Y1)
 {K:KH} (hK:∀d A',A.filesP gb Z1 args=some (d,A')->∀Y' B',J8 Y' bf A' B'->H1 Y B Y' B'->Q A'->K (.t [.agg ⟨dnF d⟩,.bool true]) Y') :
 i7 6 [.q bf,.g [.s Z1,.slice x.base x.len x.cap,.s inn,.s gb]] K Y:=by
 refine c6 _ _ _ _ _ ?_;unfold g6;rw[au2]at hK;have wz:bY2 args=E8 (args.head?.getD gq) (bs [45,120]):=by cases args<;>rfl
 generalize zp:args.head?.getD gq=a0 at wz;refine A5 ?_;intro b6 Y1 g1 e1 n1;refine A5 ?_;intro b7 Y2 g2 e2 n2;have k6:=g2.get e1;have f7:Y b7=none:=A9 g1 n2;refine N8 (D4 k6) ?_
 (refine l6 rfl ?_;try dsimp only)
 refine A5 ?_;intro b12 Y3 g3 e3 n3;have f12:Y b12=none:=A9 (g1.trans g2) n3;have nB12:¬B b12:=hF.fresh f12;refine bm0 aU4 P8 (doL b12) (bC9 b12) ?_;intro bm Y4 g4 n4 hm;refine C6 (f0 (g4.get (g3.get k6))) (N8 (bx2 hm .nilFunc Z1) ?_);rw[cB7 b12];refine bh1 (l7 rfl ?_);refine bm0 bH9 P8 co6 (by decide +kernel) ?_;intro bm2 Y5 g5 n5 lh;have G3:Gr Y3 Y5:=g4.trans g5;have G5:Gr Y Y5:=((g1.trans g2).trans g3).trans G3;have q6:=G3.get (g3.get k6);have q7:=G3.get (g3.get e2);have q12:Y5 b12=some (.cells ⟨bp6 ⟨Z1,inn,gb,x,bf⟩ gq ⟨none,0,0⟩ (TS.new A)⟩ 52 (0,0)):=G3.get e3;have h2:S0 Z1=gq:=J9.1 (by decide +kernel);refine C6 (f0 q6) (C6 (x:=gq) (by rw[bI0 lh,bq4,h2]) ?_);have t5:I4 Y5 b12 ⟨Z1,inn,gb,x,bf⟩ gq ⟨none,0,0⟩ (TS.new A) (fun b=>B b\/b=b12):=⟨B,q12,hF.gr G5,nB12,fun b=>Iff.rfl⟩;have n6:¬ (B b6\/b6=b12):=by
  rintro (e|e)
  ·exact hF.fresh n1 e
  ·rw[<-e,g2.get e1]at n3;cases n3
 have n7:¬ (B b7\/b7=b12):=by
  rintro (e|e)
  ·exact hF.fresh f7 e
  ·rw[<-e,e2]at n3;cases n3
 obtain⟨V5,O5,uz⟩:=aB3 Y5 (fun b=>B b\/b=b12)
 have Gτ:Gr V V5:=ac6 fun c o pf=>uz c o (G5.get (hO.get pf)) (by
  rintro (e|e)
  ·exact hO.2 c o pf e
  ·have:=hO.get pf
   rw[e,f12]at this;cases this)
 have x5:F0 V5 1 (u0 args) x:=ha.rows.gr Gτ;have E5:=hE.gr Gτ;have w6:=uz b6 _ q6 n6;have w7:=uz b7 _ q7 n7;have kb:=ad9 x5;have back:∀ {Y' B' B0},H1 Y5 (fun b=>B b\/b=b12) Y' B'->(∀b,B' b↔(B0 b\/b=b12))->H1 Y B Y' B0:=by
  intro Y' B' B0 hs hb c o pf iy
  obtain⟨r1,r2⟩:=hs c o (G5.get pf) (by
   rintro (e|e)
   ·exact iy e
   ·rw[e,f12]at pf;cases pf)
  exact⟨r1,fun e=>r2 ((hb c).2 (.inl e))⟩
 generalize hdv:Value.func (Fn.func 25) ⟨[Value.q b12]⟩ ⟨[]⟩=dv;have hB12:(fun b=>B b\/b=b12) b12:=.inr rfl;refine K5 (fun j=>j (gp b6) (gp b7) (gp b12) dv gq (E8 a0 (bs [45,120])) Y5) ?_ ?_
 ·refine K5 (fun j=>∀y Y',I4 Y' b12 ⟨Z1,inn,gb,x,bf⟩ gq y (TS.new A) (fun b=>B b\/b=b12)->H1 Y5 (fun b=>B b\/b=b12) Y' (fun b=>B b\/b=b12)->(E8 a0 (bs [45,120])=true->y=x)->(E8 a0 (bs [45,120])=false->y=⟨none,0,0⟩)->j (gp b6) (gp b7) (gp b12) dv gq (E8 a0 (bs [45,120])) Y') ?_ ?_
  ·intro y Y6 t6 s6 si tp;have O6:=O5.sep s6
   refine K5 (fun j=>∀ (b:Bool) ge y Y' ,I4 Y' b12 ⟨Z1,inn,gb,x,bf⟩ ge y (TS.new A) (fun b=>B b\/b=b12)->H1 Y5 (fun b=>B b\/b=b12) Y' (fun b=>B b\/b=b12) ->
    (b=true->A.filesP gb Z1 args=some (ad4 Z1,A))->(b=false->∃gd,ao3 args=some (ge,gd)/\L0 Z1 ge gd=true/\F0 V5 1 (u0 gd) y/\y.len<=y.cap)->j (gp b6) (gp b7) (gp b12) dv b Y') ?_ ?_
   ·intro b ge y Y6 t6 s6 h1 h2;have O6:=O5.sep s6;cases b with
    |true =>
     refine l9 rfl (j0 (C6 (f0 (O6.get w6)) (D0 (by decide) ?_)));refine C1 (O6.get w7) ad0 ?_;intro Y7 p7;refine j0 (N8 (D4 p7.same) ?_)
     (refine l6 rfl ?_;try dsimp only)
     obtain⟨B0,a1,a2,a3,a4⟩:=t6;have hu:=h1 rfl;rw[au2]at hu;exact hK (ad4 Z1) A hu Y7 B0 (a2.put p7 (fun e=>n7 ((a4 b7).2 (.inl e)))) ((back s6 a4).putF p7 f7) hQ
    |false =>
     obtain⟨gd,o1,o2,o3,o4⟩:=h2 rfl;subst hdv;refine l7 rfl (ar9 (by kernel_rfl) (Ce ge gd y b12 Y6 _ V5 o1 o2 t6 O6 o3 o4 _ ?_));intro Y7 B7 y7 t7 s7 hq7;have O7:=O6.sep s7;refine U9 (j0 (N8 (D4 t7.cell) ?_))
     (refine l6 rfl ?_;try dsimp only)
     refine C1 (O7.get w7) ad0 ?_;intro Y8 p8;refine j0 (N8 (D4 p8.same) ?_)
     (refine l6 rfl ?_;try dsimp only)
     obtain⟨B0,a1,a2,a3,a4⟩:=t7;refine hK ⟨(doP A Z1 gb ge gd).out,(doP A Z1 gb ge gd).err,(doP A Z1 gb ge gd).st⟩ (doP A Z1 gb ge gd).A (by rw[o1];show(if L0 Z1 ge gd=true then _ else _)=_;rw[d8 o2]) Y8 B0 (a2.put p8 (fun e=>O7.2 b7 _ w7 ((a4 b7).2 (.inl e)))) ((back (s6.trans s7) a4).putF p8 f7) hq7
   ·intro j hj;cases Ck:E8 a0 (bs [45,120]) with
    |true =>
     have hy:=si Ck;subst hy;have Dq:ao3 args=some (gq,args):=by unfold ao3;rw[wz,Ck];rfl
     refine l7 rfl (l5 (aV1 (E5.gr O6.1) t6 O6 x5 (fun n hn=>C7 (ha.sz n hn) (by decide)) rfl ?_));intro Y7 g7;refine H2 ?_;replace t6:=t6.gr g7;replace s6:=s6.grR g7;cases hr:L0 Z1 gq args with
     |true=>exact hj false _ y Y7 t6 s6 (fun e=>by cases e) (fun _=>⟨args,Dq,hr,x5,ha.cap⟩)
     |false =>
      refine hj true _ y Y7 t6 s6 (fun _=>?_) (fun e=>by cases e);rw[au2,Dq];show(if L0 Z1 gq args=true then _ else _)=_;rw[hr];rfl
    |false =>
     have hy:=tp Ck;subst hy;have Dq:ao3 args=ab3 gq args gq:=by unfold ao3;rw[wz,Ck];rfl
     refine l9 rfl (l5 (aN5 t6 O6 x5 ha.cap [] (by decide) (fun c hc=>by cases hc) ha.sz ha.len ?_ ?_))
     ·intro ho Y7 ge t7 s7;refine H2 (l9 rfl (hj true ge _ Y7 t7 (s6.trans s7) (fun _=>?_) (fun e=>by cases e)));rw[au2,Dq,ho]
     ·intro ge gd ho Y7 y t7 s7 ry cy;obtain⟨m1,m2⟩:=ag3 _ _ _ _ _ ho;refine H2 (l7 rfl (l5 (aV1 (E5.gr (O6.sep s7).1) t7 (O6.sep s7) ry (fun n hn=>C7 (ha.sz n (m1 n hn)) (by decide)) rfl ?_)));intro Y8 g8;refine H2 ?_;replace t7:=t7.gr g8;replace s7:=s7.grR g8;cases hr:L0 Z1 ge gd with
      |true=>exact hj false ge y Y8 t7 (s6.trans s7) (fun e=>by cases e) (fun _=>⟨gd,by rw[Dq,ho],hr,ry,cy⟩)
      |false =>
       refine hj true ge y Y8 t7 (s6.trans s7) (fun _=>?_) (fun e=>by cases e);rw[au2,Dq,ho];show(if L0 Z1 ge gd=true then _ else _)=_;rw[hr];rfl
  ·intro j hj;cases Ck:E8 a0 (bs [45,120]) with
   |true =>
    rw[Ck]at hj;refine l9 rfl (j0 (ag1 (y:=x) (f0 q6) (j0 ?_)));refine C1 q12 al4 ?_;intro Y6 p6;refine hj x Y6 (t5.say (got':=gq) (y':=x) (s':=TS.new A) rfl p6) (fun c oc rq hn=>⟨p6.get (fun e=>hn (by rw[e];exact .inr rfl)) rq,hn⟩) (fun _=>rfl) (fun e=>by cases e)
   |false =>
    rw[Ck]at hj;exact l7 rfl (hj ⟨none,0,0⟩ Y5 t5 (H1.refl _ _) (fun e=>by cases e) (fun _=>rfl))
 ·intro j hj;refine C6 (f0 q6) (l9 (by rw[<-I5];decide +kernel) (ag1 (y:=x) (f0 q6) ?_));cases args with
  |nil =>
   have kb:x.len=0:=kb;rw[kb];have zp:(gq:d9)=a0:=zp;rw[<-zp,show E8 gq (bs [45,120])=false from by decide]at hj;exact l7 rfl hj
  |cons c0 rest =>
   have zp:c0=a0:=zp;subst zp;rw[H4]at kb;obtain⟨g,o,a1,a2,a3⟩:=Z8 (x5.gr O5.1) (i:=0) (s:=c0) rfl;refine l9 (by rw[I6];omega) (ag1 (y:=x) (f0 q6) ?_);rw[a1];refine j0 (D0 ⟨by decide,by omega⟩ (C6 a3 ?_));rw[<-I5];exact hj
end
end
section
attribute [local irreducible] i9 E3 A0 I9 l8 H0 C0 stW muW biW W7 imW J0 G8 app E2 J1 D3 E6 oW P0 J5 C9 rfW N5 M9 D5 exW I2 Gr P1
section
variable {Y V:H} {bf:Nat} {A:AT} {B:Nat->Prop} {x:Sl} {args:List d9}
theorem cq1{N:Nat}(hF:J8 Y bf A B)(hO:Off V Y B)(hE:ErS V)(nm inn gb:d9)(ha:af8 V args x)(hI:Inv A)(jm:Bd N A)(hN:N<=500)(hq:A.qi<=40)(Cm:args.length<=6)(qn:∀a∈args,a.size<=40){K:KH}
 (kg:A.filesP gb nm args=none->∀Y',Gr Y Y'->K (.t [.agg ⟨dnF ⟨gq,gq,0⟩⟩,.bool false]) Y')
 (lf:∀d A',A.filesP gb nm args=some (d,A')->∀Y' B',J8 Y' bf A' B'->H1 Y B Y' B'->K (.t [.agg ⟨dnF d⟩,.bool true]) Y') :
 i7 6 [.q bf,.g [.s nm,.slice x.base x.len x.cap,.s inn,.s gb]] K Y:=by
 cases ly:ab7.any (fun t=>E8 nm t) with
 |false =>
  refine bq5 hF nm inn gb ly (kg ?_ Y (Gr.refl _));unfold AT.filesP;rw[ly];rfl
 |true =>
 have jg:∀d A',A.filesP gb nm args=some (d,A')->∀Y' B',J8 Y' bf A' B'->H1 Y B Y' B'->True->K (.t [.agg ⟨dnF d⟩,.bool true]) Y':=fun d A' h Y' B' f s _=>lf d A' h Y' B' f s;have zg:=aS1 ly;have Cn:=ly;unfold ab7 at Cn;simp only[List.any_cons,List.any_nil,U0,Bool.or_eq_true]at Cn;have hp:U4 N A:=U4.of hI jm;have Gi:Inv A/\Bd N A:=⟨hI,jm⟩;have uk:=ha.len;have mem:∀ {lt ge:d9} {gd:List d9},ab3 lt args gq=some (ge,gd)->(∀n∈gd,n.size<=40)/\gd.length<=6:=fun h=>by
  obtain⟨m1,m2⟩:=ag3 _ _ _ _ _ h;exact⟨fun n hn=>qn n (m1 n hn),by omega⟩
 rcases Cn with h|h|h|h|h|h|h|h|h
 ·have e:=J9.1 h;subst e;refine af5 (Q:=fun _=>True) hF hO _ _ _ ha.rows ha.cap (by decide) ha.sz ha.len ly (by decide +kernel) (by kernel_rfl) ct2 trivial ?_ jg;intro ge gd y bt Y1 B1 V1 h1 h2 t1 o1 r1 c1 K2 je;obtain⟨m1,m2⟩:=mem h1;have z1:=(aj2 (ge:=ge) (gb:=gb) hI jm hN hq m2 m1 ly).err;rw[show doP A (bs [109,107,100,105,114]) gb ge gd=_ from ca1 A gb ge gd]at z1 je;exact ba8 t1 o1 r1 hp (by omega) (C7 zg (by decide)) (by omega) (fun n hn=>by have:=m1 n hn;omega) z1 fun Y' B' t' s' _=>je Y' B' y t' s' trivial
 ·have e:=J9.1 h;subst e;refine af5 (Q:=fun _=>True) hF hO _ _ _ ha.rows ha.cap (by decide) ha.sz ha.len ly (by decide +kernel) (by kernel_rfl) cg5 trivial ?_ jg;intro ge gd y bt Y1 B1 V1 h1 h2 t1 o1 r1 c1 K2 je;obtain⟨m1,m2⟩:=mem h1;have z1:=(aj2 (ge:=ge) (gb:=gb) hI jm hN hq m2 m1 ly).err;rw[show doP A (bs [114,109,100,105,114]) gb ge gd=_ from bm4 A gb ge gd]at z1 je;exact bQ2 t1 o1 r1 Gi (by omega) (C7 zg (by decide)) (by omega) (fun n hn=>by have:=m1 n hn;omega) z1 fun Y' B' t' s' _=>je Y' B' y t' s' trivial
 ·have e:=J9.1 h;subst e;refine af5 (Q:=fun _=>True) hF hO _ _ _ ha.rows ha.cap (by decide) ha.sz ha.len ly (by decide +kernel) (by kernel_rfl) cB8 trivial ?_ jg;intro ge gd y bt Y1 B1 V1 h1 h2 t1 o1 r1 c1 K2 je;obtain⟨m1,m2⟩:=mem h1;have z1:=(aj2 (ge:=ge) (gb:=gb) hI jm hN hq m2 m1 ly).err;rw[show doP A (bs [116,111,117,99,104]) gb ge gd=_ from ch1 A gb ge gd]at z1 je;exact bQ6 t1 o1 r1 hp (by omega) (C7 zg (by decide)) (by omega) (fun n hn=>by have:=m1 n hn;omega) z1 fun Y' B' t' s' _=>je Y' B' y t' s' trivial
 ·have e:=J9.1 h;subst e;refine ci2 (Q:=fun _=>True) hF hO _ _ ha hE trivial ?_ jg;intro ge gd y bt Y1 B1 V1 h1 h2 t1 o1 r1 c1 K2 je;have hm:(∀n∈gd,n.size<=40)/\gd.length<=6:=by
   obtain⟨m1,m2⟩:=cp1 h1;exact⟨fun n hn=>qn n (m1 n hn),by omega⟩
  obtain⟨m1,m2⟩:=hm;have z1:=(aj2 (ge:=ge) (gb:=gb) hI jm hN hq m2 m1 ly).err;obtain⟨ii,b,r,rfl⟩:∃ii b r,gd=ii::b::r:=by
   rw[aK9]at h2
   match gd,h2 with
   |ii::b::r,_=>exact⟨ii,b,r,rfl⟩
  have ia:ii≠gq:=by
   rintro rfl
   have h2:((av2 gq).isSome||(E8 gq (bs [43,120])||E8 gq (bs [45,120])))=true:=h2;exact m7 h2 (by decide)
  rw[H4]at m2;have z1:(doP A Z1 gb ge (ii::b::r)).err.size<=1000000000000:=z1;rw[ch2]at z1 je;exact bQ7 t1 o1 r1 c1 ia (by have:=m1 ii (H7 ..);omega) Gi (C7 zg (by decide)) (by omega) (fun n hn=>by have:=m1 n (E4 _ hn);omega) z1 fun Y' B' y' t' s' _=>je Y' B' y' t' s' trivial
 ·have e:=J9.1 h;subst e;refine af5 (Q:=fun _=>True) hF hO _ _ _ ha.rows ha.cap (by decide) ha.sz ha.len ly (by decide +kernel) (by kernel_rfl) db7 trivial ?_ jg;intro ge gd y bt Y1 B1 V1 h1 h2 t1 o1 r1 c1 K2 je;obtain⟨m1,m2⟩:=mem h1;have z1:=(aj2 (ge:=ge) (gb:=gb) hI jm hN hq m2 m1 ly).err;obtain⟨a,b,rfl⟩:=bq8 h2;rw[show doP A (bs [108,110]) gb ge [a,b]=_ from ct6 A gb ge a [b]]at z1 je;exact cB6 t1 o1 r1 c1 Gi (by omega) (C7 zg (by decide)) (by show(1:Nat)<=1000;decide) (fun n hn=>by have:=m1 n (E4 _ hn);omega) z1 fun Y' B' y' t' s' _=>je Y' B' y' t' s' trivial
 ·have e:=J9.1 h;subst e;refine af5 (Q:=fun _=>True) hF hO _ _ _ ha.rows ha.cap (by decide) ha.sz ha.len ly (by decide +kernel) (by kernel_rfl) cg6 trivial ?_ jg;intro ge gd y bt Y1 B1 V1 h1 h2 t1 o1 r1 c1 K2 je;obtain⟨m1,m2⟩:=mem h1;have z1:=(aj2 (ge:=ge) (gb:=gb) hI jm hN hq m2 m1 ly).err;rw[show doP A (bs [114,109]) gb ge gd=_ from ca2 A gb ge gd]at z1 je;exact cf4 t1 o1 r1 Gi (by omega) (C7 zg (by decide)) (by omega) (fun n hn=>by have:=m1 n hn;omega) z1 fun Y' B' t' s' _=>je Y' B' y t' s' trivial
 ·have e:=J9.1 h;subst e;refine af5 (Q:=fun _=>True) hF hO _ _ _ ha.rows ha.cap (by decide) ha.sz ha.len ly (by decide +kernel) (by kernel_rfl) ct3 trivial ?_ jg;intro ge gd y bt Y1 B1 V1 h1 h2 t1 o1 r1 c1 K2 je;obtain⟨m1,m2⟩:=mem h1;have z1:=(aj2 (ge:=ge) (gb:=gb) hI jm hN hq m2 m1 ly).err;rw[show doP A (bs [109,118]) gb ge gd=_ from ca3 A gb ge gd]at z1 je;exact cf7 t1 o1 r1 c1 (bm6 h2) (by omega) Gi (by omega) (C7 zg (by decide)) (fun n hn=>by have:=m1 n hn;omega) z1 fun Y' B' y' t' s' _=>je Y' B' y' t' s' trivial
 ·have e:=J9.1 h;subst e;refine af5 (Q:=fun _=>True) hF hO _ _ _ ha.rows ha.cap (by decide) ha.sz ha.len ly (by decide +kernel) (by kernel_rfl) ct4 trivial ?_ jg;intro ge gd y bt Y1 B1 V1 h1 h2 t1 o1 r1 c1 K2 je;obtain⟨m1,m2⟩:=mem h1;have z1:=(aj2 (ge:=ge) (gb:=gb) hI jm hN hq m2 m1 ly).err;rw[show doP A (bs [99,112]) gb ge gd=_ from ca4 A gb ge gd]at z1 je;exact cf8 t1 o1 r1 c1 (bm5 h2) (by omega) hp (by omega) (C7 zg (by decide)) (fun n hn=>by have:=m1 n hn;omega) z1 fun Y' B' y' t' s' _=>je Y' B' y' t' s' trivial
 ·have e:=J9.1 h;subst e;refine af5 (Q:=fun _=>True) hF hO _ _ _ ha.rows ha.cap (by decide) ha.sz ha.len ly (by decide +kernel) (by kernel_rfl) ct5 trivial ?_ jg;intro ge gd y bt Y1 B1 V1 h1 h2 t1 o1 r1 c1 K2 je;obtain⟨m1,m2⟩:=mem h1;have z:=aj2 (ge:=ge) (gb:=gb) hI jm hN hq m2 m1 ly;have z1:=z.err;have z2:=z.out;rw[show doP A (bs [108,115]) gb ge gd=_ from ca5 A gb ge gd]at z1 z2 je;exact cg3 t1 o1 r1 hI jm (by omega) (C7 zg (by decide)) (by omega) (fun n hn=>by have:=m1 n hn;omega) z1 z2 fun Y' y' t' s'=>je Y' B1 y' t' s' trivial
end
end
section
theorem cC3{x:Int}(h0:0<=x)(h1:x<=511):IntKind.i64.wrap ((aC0 .or .i64 x 73)-73)=bl1 x:=by
 have:∀n:Fin 512,IntKind.i64.wrap ((aC0 .or .i64 (n.val:Int) 73)-73)=bl1 (n.val:Int):=by decide +kernel
 have h:=this ⟨x.toNat,by omega⟩;rw[show((x.toNat:Nat):Int)=x from by omega]at h;exact h
theorem bS4{A:AT}(hI:Inv A){gb p:d9}{fo:Bool}:0<=(A.stat gb p fo).2.mode/\(A.stat gb p fo).2.mode<=511:=by
 by_cases h:(A.stat gb p fo).1=0
 ·obtain⟨q,n,_,_,h3,h4⟩:=ay7 h;rw[h4];have hl:=hI.like _ _ h3;unfold ac5 at hl;show 0<=n.mode/\n.mode<=511;split at hl
  ·rename_i hc;simp only[J4,I6]at hc;exact hc.2
  ·cases hl
 ·have : (A.stat gb p fo).2 = IN.z := by
   unfold AT.stat at h⊢;unfold AT.with_ at h⊢;simp only at h⊢;split at h
   ·rename_i h2;rw[d8 h2]
   ·rename_i h2;rw[d7 h2];split at h
    ·rename_i h3;rw[d8 h3]
    ·rename_i h3;rw[d7 h3];cases hg:A.get (A.locate gb p fo).2.gf with
     |none=>rfl
     |some n=>rw[hg]at h;exact m7 rfl h
  rw[this];exact⟨by decide,by decide⟩
def cq2(A:AT)(gb gc:d9)(fo:Bool):Bool:=(A.stat gb gc fo).1==0&&(A.stat gb gc fo).2.kind==2
theorem aP1:∀ (a b:List J3) (s:Bool),ag2 a b s=match b with
 | []=>[]
 |c::r=>if c==47 && !s then a::ag2 (a++[c]) r true else ag2 (a++[c]) r (c==47):=by
 intro a b s;cases b<;>rfl
theorem bI8(gb:d9)(p:d9)(r:List d9)(A:AT):A.allF gb (p::r)=if(A.madeF gb p).1==0 then(A.madeF gb p).2.allF gb r else A.madeF gb p:=rfl
theorem bI9(gb:d9)(p:d9)(A:AT):A.allF gb [p]=A.madeF gb p:=by
 rw[bI8];split
 ·rename_i h;show(0,(A.madeF gb p).2)=_;have:(A.madeF gb p).1=0:=by simpa using h
  rw[<-this]
 ·rfl
attribute [local irreducible] i9 E3 A0 I9 l8 H0 C0 stW muW biW W7 imW J0 G8 app E2 J1 D3 E6 oW P0 J5 C9 rfW N5 M9 D5 exW I2 Gr P1
section
variable {Y:H} {bt:Nat} {C:TlC} {s:TS} {B:Nat->Prop}
theorem bh5{N:Nat}(h:K8 Y bt C s B)(hI:Inv s.A)(hB:Bd N s.A)(hN:N<=100000000)(gc:d9)(fo:Bool){K:KH}(hK:∀Y',Gr Y Y'->K (.bool (cq2 s.A C.gb gc fo)) Y'):i7 96 [.q bt,.s gc,.bool fo] K Y:=by
 refine c96 _ _ _ ?_;unfold g96;obtain⟨B0,⟨M,hM,_⟩,_⟩:=h.fs;refine j0 (E9 (f0 h.cell) (j0 (C6 (f0 h.cell) ?_)));refine l5 (aj9 hI hB hN hM _ _ _ ?_);intro Y1 L g1
 (refine l6 rfl ?_;try dsimp only)
 refine A5 ?_;intro b8 Y2 g2 e2 n2;refine C1 e2 W5 ?_;intro Y3 p3;have g3:=g1.trans (g2.putF p3 n2);unfold cq2 at hK;cases he:((s.A.stat C.gb gc fo).1==0) with
 |true =>
  rw[he,T8]at hK;exact l9 rfl (D1 (f0 p3.same) (hK Y3 g3))
 |false =>
  rw[he,Z5]at hK;exact l7 rfl (hK Y3 g3)
theorem aH7{M:Nat}(h:K8 Y bt C s B)(hp:U4 M s.A)(hM:M<=90000000)(gc:d9){K:KH}(hK:∀Y' B',K8 Y' bt C {s with A:=(s.A.madeF C.gb gc).2} B'->H1 Y B Y' B'->K (.i (s.A.madeF C.gb gc).1) Y'):i7 105 [.q bt,.s gc] K Y:=by
 refine dq1 _ _ ?_;unfold cI3;refine j0 (E9 (f0 h.cell) (j0 (C6 (f0 h.cell) ?_)));obtain⟨B0,hF,iu⟩:=h.fs;refine l5 (aL1 hp.inv hp.bd' (by omega) hF _ _ ?_);intro Y1 B1 F1 S1;obtain⟨B2,t1,s1⟩:=iu F1 S1;refine C4 ?_;have lz:=hp.mkdir (by omega) C.gb gc;have hm:s.A.madeF C.gb gc=if(s.A.mkdirF C.gb gc).1==6&&(s.A.mkdirF C.gb gc).2.dirB C.gb gc then(0,(s.A.mkdirF C.gb gc).2)else s.A.mkdirF C.gb gc:=rfl
 generalize hX:s.A.mkdirF C.gb gc=X at hm t1 lz⊢;obtain⟨e,A1⟩:=X;simp only at hm t1 lz⊢;refine K5 (fun j=>∀ (b:Bool) V,b=(e==6&&A1.dirB C.gb gc)->Gr Y1 V->j e b V) ?_ ?_
 ·intro b V hb hg;rw[<-hb]at hm;cases b with
  |true =>
   rw[d8 rfl]at hm;rw[hm]at hK;exact l9 rfl (hK V B2 (t1.gr hg) (s1.grR hg))
  |false =>
   rw[d7 (by simp)]at hm;rw[hm]at hK;exact l7 rfl (hK V B2 (t1.gr hg) (s1.grR hg))
 ·intro j hj;cases h1:e==6 with
  |false=>exact l7 rfl (hj false Y1 (by rw[h1];rfl) (Gr.refl _))
  |true =>
   refine l9 rfl (l5 (bh5 t1 lz.inv lz.bd' (by omega) gc true ?_));intro V hg;exact H2 (hj _ V (by rw[h1];rfl) hg)
theorem bS5{M:Nat}(h:K8 Y bt C s B)(hp:U4 M s.A)(hM:M<=90000000)(l:List J3)(hl:l.length<=1000000)(all:Bool){K:KH}
 (hK:∀Y' B',K8 Y' bt C {s with A:=(if all then s.A.allF C.gb (am0 ⟨⟨l⟩⟩++[⟨⟨l⟩⟩])else s.A.mkdirF C.gb ⟨⟨l⟩⟩).2} B'->H1 Y B Y' B'->K (.i (if all then s.A.allF C.gb (am0 ⟨⟨l⟩⟩++[⟨⟨l⟩⟩])else s.A.mkdirF C.gb ⟨⟨l⟩⟩).1) Y') :
 i7 107 [.q bt,.s ⟨⟨l⟩⟩,.bool all] K Y:=by
 refine dq3 _ _ _ ?_;unfold cI7;cases all with
 |false =>
  simp only[D2,if_false]at hK;refine l9 rfl (j0 (E9 (f0 h.cell) (j0 (C6 (f0 h.cell) ?_))));obtain⟨B0,hF,iu⟩:=h.fs;refine l5 (aL1 hp.inv hp.bd' (by omega) hF _ _ ?_);intro Y1 B1 F1 S1;obtain⟨B2,t1,s1⟩:=iu F1 S1;exact C4 (hK Y1 B2 t1 s1)
 |true =>
  simp only[if_true]at hK;have hwp:am0 ⟨⟨l⟩⟩=(ag2 [] l true).map fun l=>(⟨⟨l⟩⟩:d9):=rfl;rw[hwp]at hK;clear hwp;generalize hT:s.A.allF C.gb (((ag2 [] l true).map fun l=>(⟨⟨l⟩⟩:d9))++[⟨⟨l⟩⟩])=T at hK;refine l7 rfl (H9 ?_);intro R hR;have key:∀ (n i:Nat) (A1:AT) (p:J3) (V:H) (B1:Nat->Prop),n+i=l.length->1<=i->l[i-1]?=some p->K8 V bt C {s with A:=A1} B1->H1 Y B V B1->U4 M A1->A1.allF C.gb (((ag2 (l.take i) (l.drop i) (p==47)).map fun l=>(⟨⟨l⟩⟩:d9))++[⟨⟨l⟩⟩])=T->R (gp bt) ⟨⟨l⟩⟩ (i:Int) V:=by
   intro n
   induction n with
   |zero =>
    intro i A1 p V B1 hn hi tu t1 s1 Gj he;rw[M3 (by omega),aP1]at he;simp only[List.map_nil,aw4]at he;rw[bI9]at he;refine hR _ _ _ _ (l7 (by rw[bsz];exact W4) ?_);refine l5 (aH7 t1 Gj hM _ ?_);intro V2 B2 t2 s2;rw[he]at t2⊢;exact C4 (hK V2 B2 t2 (s1.trans s2))
   |succ n ih =>
    intro i A1 p V B1 hn hi tu t1 s1 Gj he;obtain⟨c,hc⟩:∃c,l[i]?=some c:=⟨_,G0 (by omega)⟩;have qt:l.take (i+1)=l.take i++[c]:=by rw[R1,hc];rfl
    rw[S9 hc,aP1]at he;simp only[<-qt]at he;refine hR _ _ _ _ (l9 (by rw[bsz];exact M7) ?_);have mu:IntKind.i64.wrap ((i:Int)+1)=((i+1:Nat):Int):=by rw[D7 (by omega) (by omega)];omega
    have Ae:IntKind.i64.wrap ((i:Int)-1)=((i-1:Nat):Int):=by rw[D7 (by omega) (by omega)];omega
    refine K5 (fun j=>∀ (A2:AT) (V2:H) (B2:Nat->Prop),K8 V2 bt C {s with A:=A2} B2->H1 Y B V2 B2->U4 M A2->A2.allF C.gb (((ag2 (l.take (i+1)) (l.drop (i+1)) (c==47)).map fun l=>(⟨⟨l⟩⟩:d9))++[⟨⟨l⟩⟩])=T->j (gp bt) ⟨⟨l⟩⟩ (i:Int) V2) ?_ ?_
    ·intro A2 V2 B2 t2 s2 ll tz;rw[mu];exact ih (i+1) A2 c V2 B2 (by omega) (by omega) (by simpa using hc) t2 s2 ll tz
    intro j hj;refine K5 (fun j'=>∀t:Bool,t=(c==47 && !(p==47))->j' (gp bt) ⟨⟨l⟩⟩ (i:Int) t V) ?_ ?_
    ·intro t ht;rw[<-ht]at he;cases t with
     |false =>
      rw[d7 (by simp)]at he;exact l7 rfl (hj A1 V B1 t1 s1 Gj he)
     |true =>
      rw[d8 rfl,H5,ag0,bI8]at he;have qk:(c==47)=true:=by
       cases hh:(c==47) with
       |true=>rfl
       |false=>rw[hh]at ht;cases ht
      refine l9 rfl ?_;rw[P5,bex,ac4];refine D0 ⟨J2 (by omega) (by rw[bsz];omega),M8⟩ (l5 (aH7 t1 Gj hM _ ?_));intro V2 B2 t2 s2;have ll:=Gj.made (by omega) C.gb ⟨⟨l.take i⟩⟩;cases hm:(A1.madeF C.gb ⟨⟨l.take i⟩⟩).1==0 with
      |true =>
       rw[hm,d8 rfl]at he;refine C4 (l7 (by simpa using hm) (hj _ V2 B2 t2 (s1.trans s2) ll ?_));rw[qk];exact he
      |false =>
       rw[hm,d7 (by simp)]at he;refine C4 (l9 (by simpa using hm) ?_);have t2:K8 V2 bt C {s with A:=(A1.madeF C.gb ⟨⟨l.take i⟩⟩).2} B2:=t2;rw[he]at t2;rw[show({s with A:=A1}:TS).A=A1 from rfl,he];exact hK V2 B2 t2 (s1.trans s2)
    ·intro j' ip;refine X9 (c:=c) (by omega) (by simpa using hc) ?_;rw[show((((c.toNat:Nat):Int):Int)==47)=(c==47)from u8b c 47];cases hh:(c==47) with
     |false=>exact l7 rfl (ip false (by rw[hh];rfl))
     |true =>
      refine l9 rfl ?_;rw[Ae];refine X9 (c:=p) (by omega) (by simpa using tu) ?_;have:((((p.toNat:Nat):Int):Int) != 47)=!(p==47):=by rw[bne,show((((p.toNat:Nat):Int):Int)==47)=(p==47)from u8b p 47]
      rw[this];exact ip _ (by rw[hh];rfl)
  cases l with
  |nil =>
   rw[aP1]at hT;simp only[List.map_nil,aw4]at hT;rw[bI9]at hT;refine hR _ _ _ _ (l7 (by decide) ?_);refine l5 (aH7 h hp hM _ ?_);intro V2 B2 t2 s2;rw[hT]at t2⊢;exact C4 (hK V2 B2 t2 s2)
  |cons c r =>
   refine key r.length 1 s.A c Y B (by rw[H4]) (by decide) rfl h (H1.refl _ _) hp ?_;rw[<-hT,aP1 [] (c::r) true];simp only[Bool.not_true,Bool.and_false,D2,if_false]
   rfl
theorem bS6{N:Nat}(h:K8 Y bt C s B)(hI:Inv s.A)(hB:Bd N s.A)(hN:N<=100000000)(ii:List J3)(hl:ii.length<=1000000)(gc:d9){K:KH}
 (hK:∀Y' B',K8 Y' bt C {s with A:=(s.A.chmodP C.gb ⟨⟨ii⟩⟩ gc).2} B'->H1 Y B Y' B'->K (.i (s.A.chmodP C.gb ⟨⟨ii⟩⟩ gc).1) Y') :
 i7 38 [.q bt,.s ⟨⟨ii⟩⟩,.s gc] K Y:=by
 refine c38 _ _ _ ?_;unfold g38;refine l5 (bb6 ii hl (C4 ?_));have hsm:=bS4 hI (gb:=C.gb) (p:=gc) (fo:=true);refine K5 (fun j=>∀ (m:Int) V,s.A.chmodP C.gb ⟨⟨ii⟩⟩ gc=s.A.chmodF C.gb gc m->Gr Y V->j (gp bt) gc m V) ?_ ?_
 ·intro m V he hg;rw[he]at hK;have t1:=h.gr hg;refine j0 (E9 (f0 t1.cell) (j0 (C6 (f0 t1.cell) ?_)));obtain⟨B0,hF,iu⟩:=t1.fs;refine l5 (aL3 hI hB hN hF _ _ _ ?_);intro Y1 B1 F1 S1;obtain⟨B2,t2,s2⟩:=iu F1 S1;exact C4 (hK Y1 B2 t2 (H1.of_gr hg s2))
 intro j hj;unfold AT.chmodP at hK hj;unfold cp5;cases ho:av2 ⟨⟨ii⟩⟩ with
 |some m =>
  have hm:0<=m:=by
   unfold av2 at ho;simp only at ho;split at ho
   ·cases ho
   ·cases ho;omega
  rw[ho]at hj;refine l7 (by simp only[K6];exact fun h=>m7 (show m<0 from h) (by omega)) (hj m Y rfl (Gr.refl _))
 |none =>
  rw[ho]at hj hK;simp only at hj hK;refine l9 rfl (j0 (E9 (f0 h.cell) (j0 (C6 (f0 h.cell) ?_))));obtain⟨B0,⟨M,hM,_⟩,_⟩:=h.fs;refine l5 (aj9 hI hB hN hM _ _ _ ?_);intro Y1 L g1
  (refine l6 rfl ?_;try dsimp only)
  refine A5 ?_;intro b8 Y2 g2 e2 n2;refine C1 e2 W5 ?_;intro Y3 p3;have g3:=g1.trans (g2.putF p3 n2);cases he:((s.A.stat C.gb gc true).1==0) with
  |false =>
   rw[he]at hK;exact l9 (by rw[bne,he];rfl) (hK Y3 B (h.gr g3) (H1.gr g3))
  |true =>
   rw[he]at hj;refine l7 (by rw[bne,he];rfl) (D1 (f0 p3.same) ?_);rw[<-I5];cases hx:E8 ⟨⟨ii⟩⟩ (bs [45,120]) with
   |true =>
    rw[hx]at hj;refine l9 rfl ?_;rw[cC3 hsm.1 hsm.2];exact hj _ Y3 rfl g3
   |false =>
    rw[hx]at hj;exact l7 rfl (hj _ Y3 rfl g3)
theorem cC4{N:Nat}(h:K8 Y bt C s B)(hI:Inv s.A)(hB:Bd N s.A)(hN:N<=100000000)(ge:List J3)(hg:ge.length<=1000000)(gk tq:d9)(hz:gk.size<=1000000){K:KH}
 (hK:∀Y' B',K8 Y' bt C {s with A:=(s.A.lnP C.gb ⟨⟨ge⟩⟩ gk tq).2} B'->H1 Y B Y' B'->K (.i (s.A.lnP C.gb ⟨⟨ge⟩⟩ gk tq).1) Y') :
 i7 39 [.q bt,.s ⟨⟨ge⟩⟩,.s gk,.s tq] K Y:=by
 refine c39 _ _ _ _ ?_;unfold g39;refine j0 (E9 (f0 h.cell) (j0 (C6 (f0 h.cell) ?_)));obtain⟨B0,⟨M,hM,hD⟩,Gk⟩:=h.fs;refine l5 (aj9 hI hB hN hM _ _ _ ?_);intro Y1 L g1
 (refine l6 rfl ?_;try dsimp only)
 refine A5 ?_;intro b8 Y2 g2 e2 n2;refine C1 e2 W5 ?_;intro Y3 p3;have g3:=g1.trans (g2.putF p3 n2);have t3:=h.gr g3;have k3:=p3.same
 have hln:s.A.lnP C.gb ⟨⟨ge⟩⟩ gk tq=(let x:=if I8 ⟨⟨ge⟩⟩ 102&&((s.A.stat C.gb tq false).1==0 && !((s.A.stat C.gb tq false).2.kind==2))then s.A.removeF C.gb tq else(0,s.A)
  if x.1==0 then(if I8 ⟨⟨ge⟩⟩ 115 then x.2.symlinkF C.gb gk tq else x.2.hardF C.gb gk tq)else x):=rfl
 rw[hln]at hK;clear hln p3 e2;generalize hX:(if I8 ⟨⟨ge⟩⟩ 102&&((s.A.stat C.gb tq false).1==0 && !((s.A.stat C.gb tq false).2.kind==2))then s.A.removeF C.gb tq else(0,s.A))=X at hK;refine K5 (fun j=>∀V B1,X.1=0->K8 V bt C {s with A:=X.2} B1->H1 Y B V B1->Inv X.2->Bd N X.2->j (gp bt) ⟨⟨ge⟩⟩ gk tq V) ?_ ?_
 ·intro V B1 hx0 t1 s1 hI1 hB1;simp only[hx0,beq_self_eq_true,if_true]at hK;refine l5 (ao4 ge 115 hg (H2 ?_));obtain⟨B0,hF,iu⟩:=t1.fs;cases hs:I8 ⟨⟨ge⟩⟩ 115 with
  |true =>
   rw[hs]at hK;refine l9 rfl (j0 (E9 (f0 t1.cell) (j0 (C6 (f0 t1.cell) ?_))));refine l5 (az9 hI1 hB1 hN hF _ _ _ (by omega) ?_);intro Y4 B4 F4 S4;obtain⟨B5,t5,s5⟩:=iu F4 S4;exact C4 (hK Y4 B5 t5 (s1.trans s5))
  |false =>
   rw[hs]at hK;refine l7 rfl (j0 (E9 (f0 t1.cell) (j0 (C6 (f0 t1.cell) ?_))));refine l5 (ci0 hI1 hB1 hN hF _ _ _ ?_);intro Y4 B4 F4 S4;obtain⟨B5,t5,s5⟩:=iu F4 S4;exact C4 (hK Y4 B5 t5 (s1.trans s5))
 intro j hj;refine K5 (fun j'=>∀t:Bool,t=(I8 ⟨⟨ge⟩⟩ 102&&((s.A.stat C.gb tq false).1==0 && !((s.A.stat C.gb tq false).2.kind==2)))->j' (gp bt) ⟨⟨ge⟩⟩ gk tq t Y3) ?_ ?_
 ·intro t ht;rw[<-ht]at hX;cases t with
  |false =>
   rw[d7 (by simp)]at hX;subst hX;exact l7 rfl (hj Y3 B rfl t3 (H1.gr g3) hI hB)
  |true =>
   rw[d8 rfl]at hX;subst hX;have ul:=ag8 hI hB (by omega) C.gb tq;refine l9 rfl (j0 (E9 (f0 t3.cell) (j0 (C6 (f0 t3.cell) ?_))));obtain⟨B0,hF,iu⟩:=t3.fs;refine l5 (aD7 hI hB hN hF _ _ ?_);intro Y4 B4 F4 S4;obtain⟨B5,t5,s5⟩:=iu F4 S4;refine C4 ?_;cases h0:(s.A.removeF C.gb tq).1==0 with
   |true=>exact l7 (by rw[bne,h0];rfl) (hj Y4 B5 (by simpa using h0) t5 (H1.of_gr g3 s5) ul.inv ul.bd)
   |false =>
    simp only[h0,D2,if_false]at hK;exact l9 (by rw[bne,h0];rfl) (hK Y4 B5 t5 (H1.of_gr g3 s5))
 ·intro j' ip;refine l5 (ao4 ge 102 hg (H2 ?_));cases h1:I8 ⟨⟨ge⟩⟩ 102 with
  |false=>exact l7 rfl (ip false (by rw[h1];rfl))
  |true =>
   refine l9 rfl ?_;cases h2:(s.A.stat C.gb tq false).1==0 with
   |false=>exact l7 rfl (ip false (by rw[h1,h2];rfl))
   |true=>exact l9 rfl (D1 (f0 k3) (ip _ (by rw[h1,h2];rfl)))
end
section
variable {bt:Nat} {C:TlC}
theorem cC5{N:Nat}(hN:N<=100000000)(il:C.nm.size<=1000000)(ge:List J3)(hg:ge.length<=1000000):∀ (f:Nat) (gc:d9) (s:TS) (Y:H) (B:Nat->Prop) (K:KH),
 256<gc.size+f->1<=f->gc.size<=1000000->K8 Y bt C s B->(Inv s.A/\Bd N s.A)->((TS.rm C.nm C.gb ⟨⟨ge⟩⟩ f s gc).2.fail C.nm gc (TS.rm C.nm C.gb ⟨⟨ge⟩⟩ f s gc).1).err.size<=1000000000000 ->
 (∀Y' B',K8 Y' bt C ((TS.rm C.nm C.gb ⟨⟨ge⟩⟩ f s gc).2.fail C.nm gc (TS.rm C.nm C.gb ⟨⟨ge⟩⟩ f s gc).1) B'->H1 Y B Y' B'->K (.t []) Y') ->
 i7 108 [.q bt,.s ⟨⟨ge⟩⟩,.s gc] K Y:=by
 intro f
 induction f with
 |zero=>intro gc s Y B K _ h1;cases h1
 |succ f ih =>
  intro gc s Y B K hf _ qu h hI hz hK;refine dq7 _ _ _ ?_;unfold cI9;rw[bf0]at hz hK;refine j0 (E9 (f0 h.cell) (j0 (C6 (f0 h.cell) ?_)));obtain⟨B0,⟨M,hM,hD⟩,Gk⟩:=h.fs;refine l5 (aj9 hI.1 hI.2 hN hM _ _ _ ?_);intro Y1 L g1;have kn:=at5 (A:=s.A) (gb:=C.gb) (p:=gc) (fo:=false);have xe:Er (s.A.stat C.gb gc false).1:=ad7 _ _ _
  (refine l6 rfl ?_;try dsimp only)
  refine A5 ?_;intro b15 Y2 g2 e2 n2;refine C1 e2 W5 ?_;intro Y3 p3;have g3:=g1.trans (g2.putF p3 n2);have t3:=h.gr g3;have k3:=p3.same;have nb:¬B b15:=fun hb=>by
   have:=(h.gr g1).has hb;rw[n2]at this;exact this rfl
  clear p3 e2;refine K5 (fun j=>∀b:Bool,b=((s.A.stat C.gb gc false).1==5&&I8 ⟨⟨ge⟩⟩ 102)->j (gp bt) ⟨⟨ge⟩⟩ gc (gp b15) (s.A.stat C.gb gc false).1 b Y3) ?_ ?_
  case refine_2 =>
   intro j hj;cases h1:(s.A.stat C.gb gc false).1==5 with
   |false=>exact l7 rfl (hj false (by rw[h1];rfl))
   |true=>exact l9 rfl (l5 (ao4 ge 102 hg (H2 (hj _ (by rw[h1];rfl)))))
  intro b hb;rw[<-hb]at hz hK;cases b with
  |true =>
   simp only[if_true]at hz hK;rw[af4]at hK;exact l9 rfl (hK Y3 B t3 (H1.gr g3))
  |false =>
  simp only[D2,if_false]at hz hK;have zh:s.err.size<=1000000000000:=by
   refine C7 ?_ hz;split
   ·exact Q6 _ _ _ _
   ·split
    ·exact Q6 _ _ _ _
    ·refine C7 ?_ (Q6 _ _ _ _);show s.err.size<=(if(s.A.stat C.gb gc false).2.kind==2 then(s.A.listF C.gb gc).2.foldl (J6 C.nm C.gb ⟨⟨ge⟩⟩ gc f) s else s).err.size;split
     ·exact aJ4 _ _ _ _ _ _ _
     ·exact A7 _
  refine l7 rfl (l5 (X5 t3 gc xe il qu zh ?_));intro Y4 t4 s4;refine H2 ?_;cases h0:(s.A.stat C.gb gc false).1==0 with
  |false =>
   rw[h0]at hK;simp only[Bool.not_false,if_true]at hK;exact l9 rfl (hK Y4 B t4 (H1.of_gr g3 s4))
  |true =>
  rw[h0]at hK hz;simp only[Bool.not_true,D2,if_false]at hK hz;have mn:(s.A.stat C.gb gc false).1=0:=by simpa using h0
  rw[mn,af4]at t4;have yj:=ah7 (kn mn);have k4:=(s4 b15 _ k3 nb).1;have nb4:=(s4 b15 _ k3 nb).2;have s04:H1 Y B Y4 B:=H1.of_gr g3 s4;refine l7 rfl ?_;have lv:∀t:TS,t=(if(s.A.stat C.gb gc false).2.kind==2 then(s.A.listF C.gb gc).2.foldl (J6 C.nm C.gb ⟨⟨ge⟩⟩ gc f) s else s)->Inv t.A/\Bd N t.A:=by
   intro t ht;split at ht
   ·subst ht;have key : ∀ (l:List d9) (t:TS),Inv t.A/\Bd N t.A->Inv (l.foldl (J6 C.nm C.gb ⟨⟨ge⟩⟩ gc f) t).A/\Bd N (l.foldl (J6 C.nm C.gb ⟨⟨ge⟩⟩ gc f) t).A:=by
     intro l
     induction l with
     |nil=>intro t h;exact h
     |cons n r ihl =>
      intro t h;rw[H3];refine ihl _ ?_;unfold J6;simp only[N7];exact ay4 (by omega) _ _ _ _ _ _ h
    exact key _ _ hI
   ·subst ht;exact hI
  refine K5 (fun j=>∀ (t:TS) V B1,t=(if(s.A.stat C.gb gc false).2.kind==2 then(s.A.listF C.gb gc).2.foldl (J6 C.nm C.gb ⟨⟨ge⟩⟩ gc f) s else s)->((s.A.stat C.gb gc false).2.kind==2 && !I8 ⟨⟨ge⟩⟩ 114)=false->K8 V bt C t B1->H1 Y B V B1->j (gp bt) gc V) ?_ ?_
  ·intro t V B1 ht ij t1 s1;obtain⟨i1,i2⟩:=lv t ht;rw[<-ht,ij]at hK hz;simp only[D2,if_false]at hK hz;refine j0 (E9 (f0 t1.cell) (j0 (C6 (f0 t1.cell) ?_)));obtain⟨B0,hF,iu⟩:=t1.fs;refine l5 (aD7 i1 i2 hN hF _ _ ?_);intro Y5 B5 F5 S5;obtain⟨B6,t6,s6⟩:=iu F5 S5;have hte:t.err.size<=1000000000000:=C7 (Q6 C.nm {t with A:=(t.A.removeF C.gb gc).2} gc _) hz;refine C4 (l5 (X5 t6 gc (at4 _ _) il qu hte ?_));intro Y7 t7 s7;exact H2 (hK Y7 B6 t7 ((s1.trans s6).trans s7))
  intro j hj;refine j0 (D1 (f0 k4) ?_);cases jc:(s.A.stat C.gb gc false).2.kind==2 with
  |false =>
   rw[jc]at hj;exact l7 rfl (hj s Y4 B rfl rfl t4 s04)
  |true =>
  rw[jc]at hj hK hz;refine l9 rfl (l5 (ao4 ge 114 hg (H2 ?_)));cases hr:I8 ⟨⟨ge⟩⟩ 114 with
  |false =>
   rw[hr]at hK hz;simp only[Bool.not_false,Bool.and_self,if_true]at hK hz;refine l9 rfl (l5 (X5 t4 gc (e:=7) (K3 (by omega)) il qu zh ?_));intro Y7 t7 s7;exact H2 (hK Y7 B t7 (s04.trans s7))
  |true =>
  rw[hr]at hj hK hz;simp only[Bool.not_true,Bool.and_false,D2,if_false,if_true]at hj hK hz;refine l7 rfl (j0 (E9 (f0 t4.cell) (j0 (C6 (f0 t4.cell) ?_))));obtain⟨B0',⟨M',Ci,_⟩,_⟩:=t4.fs;refine l5 (aH6 hI.1 hI.2 hN Ci _ _ ?_);intro x Y5 hx;have ig:∀n∈(s.A.listF C.gb gc).2,W1 n/\W2 n:=fun n hn=>ae8 hI.1 hn;have ju:=ah8 (gb:=C.gb) (gc:=gc) hI.2;generalize sj:(s.A.listF C.gb gc).2.foldl (J6 C.nm C.gb ⟨⟨ge⟩⟩ gc f) s=T at hz hK hj;have hTz:T.err.size<=1000000000000:=C7 (Q6 C.nm {T with A:=(T.A.removeF C.gb gc).2} gc _) hz;generalize s.A.listF C.gb gc=L' at hx sj ig ju⊢;obtain⟨le,gd⟩:=L';simp only at hx sj ig ju
  (refine l6 rfl ?_;try dsimp only)
  obtain⟨V,O5,hr5,_⟩:=ar4 (B:=B) (l:=gd) (fun b hb=>t4.has hb) hx;have kb:=ad9 hr5;have t5:=t4.gr hx.1;have s5:H1 Y B Y5 B:=s04.grR hx.1;refine H9 ?_;intro R hR;have key:∀ (k i:Nat) (u:TS) (V1:H) (B1:Nat->Prop),k+i=gd.length->K8 V1 bt C u B1->(Inv u.A/\Bd N u.A)->H1 Y B V1 B1->Off V V1 B1->(gd.drop i).foldl (J6 C.nm C.gb ⟨⟨ge⟩⟩ gc f) u=T->R (gp bt) ⟨⟨ge⟩⟩ gc x (i:Int) V1:=by
   intro k
   induction k with
   |zero =>
    intro i u V1 B1 hk u1 ui us uo ue;refine hR _ _ _ _ _ _ (l7 (W4 (by omega)) ?_);rw[M3 (by omega)]at ue;have ue:u=T:=ue;subst ue;exact hj u V1 B1 rfl trivial u1 us
   |succ k ihk =>
    intro i u V1 B1 hk u1 ui us uo ue;obtain⟨n,hn⟩:∃n,gd[i]?=some n:=⟨_,G0 (by omega)⟩;obtain⟨g,o,a1,a2,a3⟩:=Z8 (hr5.gr uo.1) hn;obtain⟨o1,o2⟩:=ig n (K7 hn);have jp:=o2.2;have Ah:1<=n.size:=by
     have:=aG1 o1;rw[ah5];cases hd:n.data.toList with
     |nil=>exact m7 hd this
     |cons c r=>rw[H4];omega
    have vt:=ab0 gc n;have ym:((bs [47]):d9).size=1:=rfl;rw[S9 hn,H3]at ue;have ki:=aJ4 C.nm C.gb ⟨⟨ge⟩⟩ gc f (gd.drop (i+1)) (J6 C.nm C.gb ⟨⟨ge⟩⟩ gc f u n);rw[ue]at ki;refine hR _ _ _ _ _ _ (l9 (M7 (by omega)) (D0 (by omega) ?_));rw[a1];refine j0 (D0 (bv6 x.len) (C6 a3 (D0 (by rw[D8];omega) ?_)));refine l5 (ih (H8 gc n) u V1 B1 _ (by omega) (by omega) (by omega) u1 ui (C7 ki hTz) ?_);intro V2 B2 u2 s2;refine U9 ?_;rw[ab9 (i:=i)];refine ihk (i+1) (J6 C.nm C.gb ⟨⟨ge⟩⟩ gc f u n) V2 B2 (by omega) u2 ?_ (us.trans s2) (uo.sep s2) ue;unfold J6;simp only[N7];exact ay4 (by omega) _ _ _ _ _ _ ui
  exact key gd.length 0 s Y5 B (by omega) t5 hI s5 O5 sj
end
end
section
attribute [local irreducible] i9 E3 A0 I9 l8 H0 C0 stW muW biW W7 imW J0 G8 app E2 J1 D3 E6 oW P0 J5 C9 rfW N5 M9 D5 exW I2 Gr P1
section
variable {Y:H} {bt:Nat} {C:TlC} {s:TS} {B:Nat->Prop}
theorem bD9{N:Nat}(h:K8 Y bt C s B)(hI:Inv s.A)(hB:Bd N s.A)(hN:N<=100000000)(gk:d9)(tq:List J3)(hl:tq.length<=1000000000){K:KH}
 (hK:∀Y',Gr Y Y'->K (.bool (s.A.insideP C.gb gk ⟨⟨tq⟩⟩)) Y'):i7 104 [.q bt,.s gk,.s ⟨⟨tq⟩⟩] K Y:=by
 refine dq0 _ _ _ ?_;unfold cI1;obtain⟨B0,⟨M,hM,_⟩,_⟩:=h.fs;refine j0 (E9 (f0 h.cell) (j0 (C6 (f0 h.cell) ?_)));refine l5 (aV0 hI hB hN hM _ _ ?_);intro Y1 g1
 (refine l6 rfl ?_;try dsimp only)
 have t1:=h.gr g1;refine j0 (E9 (f0 t1.cell) (j0 (C6 (f0 t1.cell) ?_)));refine l5 (aV0 hI hB hN (hM.gr g1) _ _ ?_);intro Y2 g2
 (refine l6 rfl ?_;try dsimp only)
 have t2:=t1.gr g2;have G2:=g1.trans g2;have te:s.A.insideP C.gb gk ⟨⟨tq⟩⟩=((s.A.realF C.gb gk).1==0&&((if(s.A.realF C.gb ⟨⟨tq⟩⟩).1==0 then s.A.realF C.gb ⟨⟨tq⟩⟩else s.A.realF C.gb (ae7 ⟨⟨tq⟩⟩)).1==0&&(E8 (s.A.realF C.gb gk).2 (if(s.A.realF C.gb ⟨⟨tq⟩⟩).1==0 then s.A.realF C.gb ⟨⟨tq⟩⟩else s.A.realF C.gb (ae7 ⟨⟨tq⟩⟩)).2||(N4 (s.A.realF C.gb gk).2.data.toList++[47]).isPrefixOf (if(s.A.realF C.gb ⟨⟨tq⟩⟩).1==0 then s.A.realF C.gb ⟨⟨tq⟩⟩else s.A.realF C.gb (ae7 ⟨⟨tq⟩⟩)).2.data.toList))):=rfl;rw[te]at hK;clear te;have hsz:=aU2 hI hB (by omega) C.gb gk;have Fb:(s.A.realF C.gb gk).1=0->_:=fun h=>aZ9 hI h;have hfb:∀p,(s.A.realF C.gb p).1=0->_:=fun p h=>aZ9 hI h;have hfi:((if(s.A.realF C.gb ⟨⟨tq⟩⟩).1==0 then s.A.realF C.gb ⟨⟨tq⟩⟩else s.A.realF C.gb (ae7 ⟨⟨tq⟩⟩)).1=0->(if(s.A.realF C.gb ⟨⟨tq⟩⟩).1==0 then s.A.realF C.gb ⟨⟨tq⟩⟩else s.A.realF C.gb (ae7 ⟨⟨tq⟩⟩)).2=(bs [47])\/(C8 47 (if(s.A.realF C.gb ⟨⟨tq⟩⟩).1==0 then s.A.realF C.gb ⟨⟨tq⟩⟩else s.A.realF C.gb (ae7 ⟨⟨tq⟩⟩)).2=true/\∃c r,(if(s.A.realF C.gb ⟨⟨tq⟩⟩).1==0 then s.A.realF C.gb ⟨⟨tq⟩⟩else s.A.realF C.gb (ae7 ⟨⟨tq⟩⟩)).2.data.toList=r++[c]/\c≠47)):=by
  split
  ·exact hfb _
  ·exact hfb _
 generalize hb:(if(s.A.realF C.gb ⟨⟨tq⟩⟩).1==0 then s.A.realF C.gb ⟨⟨tq⟩⟩else s.A.realF C.gb (ae7 ⟨⟨tq⟩⟩))=b at hK hfi;clear hfb;refine K5 (fun j=>∀V,Gr Y V->j (s.A.realF C.gb gk).2 (s.A.realF C.gb gk).1 b.2 b.1 V) ?_ ?_
 ·intro V hg;generalize s.A.realF C.gb gk=a at hK hsz Fb⊢;obtain⟨ae,al⟩:=a;obtain⟨be,bl⟩:=b;simp only at hK hsz Fb hfi⊢;refine K5 (fun j=>∀t:Bool,t=!(ae==0&&be==0)->j al bl t V) ?_ ?_
  ·intro t ht;cases h1:ae==0 with
   |false =>
    rw[h1]at ht hK;subst ht;exact l9 rfl (hK V hg)
   |true =>
   cases h2:be==0 with
   |false =>
    rw[h1,h2]at ht hK;subst ht;exact l9 rfl (hK V hg)
   |true =>
   rw[h1,h2]at ht hK;subst ht;rw[T8,T8,bO0 (Fb (by simpa using h1)) (hfi (by simpa using h2))]at hK;unfold bf2 at hK;refine l7 rfl ?_;rw[I5]at hK;cases h3:C3 al bl with
   |true=>rw[h3,Bool.true_or]at hK;exact l9 rfl (hK V hg)
   |false =>
   rw[h3,R0,I5]at hK;refine l7 rfl ?_;cases h4:C3 al (bs [47]) with
   |true=>rw[h4,Bool.true_or]at hK;exact l9 rfl (hK V hg)
   |false =>
   rw[h4,R0]at hK;refine l7 rfl ?_;by_cases h5:bl.size>al.size
   ·rw[show decide (bl.size>al.size)=true from by simpa using h5,T8,I5]at hK;have jq:((bs [47]):d9).size=1:=rfl;have hw:IntKind.i64.wrap (((al.size:Nat):Int)+1)=((al.size+1:Nat):Int):=by rw[D7 (by omega) (by omega)];omega
    refine l9 (M7 (by omega)) ?_;rw[hw,P5];refine D0 ⟨J2 (by omega) (by omega),M8⟩ (D0 (by omega) ?_);have e:bl.extract 0 (al.size+1)=⟨⟨bl.data.toList.take (al.size+1)⟩⟩:=by
     obtain⟨⟨l⟩⟩:=bl;rw[bex,ac4]
    rw[e];exact hK V hg
   ·rw[show decide (bl.size>al.size)=false from by simpa using h5,Z5]at hK;exact l7 (W4 (by omega)) (hK V hg)
  ·intro j hj;cases h1:ae==0 with
   |false=>exact l9 (by rw[bne,h1];rfl) (hj true (by rw[h1];rfl))
   |true =>
    refine l7 (by rw[bne,h1];rfl) ?_;rw[show((be:Int) != 0)=!(be==0)from rfl];exact hj _ (by rw[h1];rfl)
 ·intro j hj;cases h1:(s.A.realF C.gb ⟨⟨tq⟩⟩).1==0 with
  |true =>
   rw[h1,d8 rfl]at hb;subst hb;exact l7 (by rw[bne,h1];rfl) (hj Y2 G2)
  |false =>
   rw[h1,d7 (by simp)]at hb;subst hb;refine l9 (by rw[bne,h1];rfl) (j0 (E9 (f0 t2.cell) (j0 (C6 (f0 t2.cell) ?_))));refine l5 (bS2 tq hl (ab2 ?_));refine aa6 (f0 t2.cell) (aa6 (f0 t2.cell) ?_);refine l5 (aV0 hI hB hN (hM.gr G2) _ _ ?_);intro Y3 g3
   (refine l6 rfl ?_;try dsimp only)
   exact hj Y3 (G2.trans g3)
end
section
variable {bt:Nat} {C:TlC}
def cpT(C:TlC)(ge:d9)(f:Nat)(s:TS)(a b:d9):TS:=if s.full then s else(TS.cp C.nm C.gb ge f s a b).2.fail C.nm a (TS.cp C.nm C.gb ge f s a b).1
theorem cq3(C:TlC)(ge:d9)(f:Nat)(s:TS)(a b:d9):s.err.size<=(cpT C ge f s a b).err.size:=by
 unfold cpT;split
 ·exact A7 _
 ·exact C7 (be4 _ _ _ _ _ _ _) (Q6 _ _ _ _)
theorem cC6{M:Nat}(hM:M<=90000000)(il:C.nm.size<=1000000)(ge:List J3)(po:ge.length<=1000000):∀ (f:Nat) (gk tq:d9) (s:TS) (Y:H) (B:Nat->Prop) (K:KH),
 256<gk.size+f->1<=f->gk.size<=1000000->tq.size+f*100<=100000000->K8 Y bt C s B->U4 M s.A->(cpT C ⟨⟨ge⟩⟩ f s gk tq).err.size<=1000000000000 ->
 (∀Y' B',K8 Y' bt C (cpT C ⟨⟨ge⟩⟩ f s gk tq) B'->H1 Y B Y' B'->K (.t []) Y') ->
 i7 42 [.q bt,.s ⟨⟨ge⟩⟩,.s gk,.s tq] K Y:=by
 intro f
 induction f with
 |zero=>intro gk tq s Y B K _ h1;cases h1
 |succ f ih =>
  intro gk tq s Y B K hf _ qu Dj h hp hz hK;have zh:s.err.size<=1000000000000:=C7 (cq3 _ _ _ _ _ _) hz;refine c42 _ _ _ _ ?_;unfold g42;refine j0 (an2 (f0 h.cell) ?_);unfold cpT at hz hK;cases sg:s.full with
  |true =>
   rw[sg,d8 rfl]at hK;exact l9 rfl (hK Y B h (H1.refl _ _))
  |false =>
  rw[sg]at hz hK;simp only[D2,if_false]at hz hK;rw[aS0]at hz hK;refine l7 rfl (l5 (ao4 ge 114 po (H2 ?_)));refine j0 (E9 (f0 h.cell) (j0 (C6 (f0 h.cell) ?_)));obtain⟨B0,⟨M0,hM0,hD0⟩,Gk⟩:=h.fs;refine l5 (aj9 hp.inv hp.bd' (by omega) hM0 _ _ _ ?_);intro Y1 L g1;have kn:=at5 (A:=s.A) (gb:=C.gb) (p:=gk) (fo:=!I8 ⟨⟨ge⟩⟩ 114);have xe:Er (s.A.stat C.gb gk (!I8 ⟨⟨ge⟩⟩ 114)).1:=ad7 _ _ _;have xf:(s.A.stat C.gb gk (!I8 ⟨⟨ge⟩⟩ 114)).2.data.size<=1073741824:=aY2 hp.inv _ _ _;generalize s.A.stat C.gb gk (!I8 ⟨⟨ge⟩⟩ 114)=r at kn xe xf hz hK⊢;obtain⟨e,nd⟩:=r;simp only at kn xe xf hz hK⊢
  (refine l6 rfl ?_;try dsimp only)
  refine A5 ?_;intro b20 Y2 g2 e2 n2;refine C1 e2 W5 ?_;intro Y3 p3;have g3:=g1.trans (g2.putF p3 n2);have t3:=h.gr g3;have k3:=p3.same;have nb:¬B b20:=fun hb=>by
   have:=(h.gr g1).has hb;rw[n2]at this;exact this rfl
  clear p3 e2;refine l5 (X5 t3 gk xe il qu zh ?_);intro Y4 t4 s4;refine H2 ?_;have s04:H1 Y B Y4 B:=H1.of_gr g3 s4;cases h0:e==0 with
  |false =>
   rw[h0]at hK;simp only[Bool.not_false,if_true]at hK;exact l9 rfl (hK Y4 B t4 s04)
  |true =>
  rw[h0]at hK hz;simp only[Bool.not_true,D2,if_false]at hK hz;have mn:e=0:=by simpa using h0
  rw[mn,af4]at t4;have yj:=ah7 (kn mn);have k4:=(s4 b20 _ k3 nb).1;have nb4:=(s4 b20 _ k3 nb).2;refine l7 rfl (D1 (f0 k4) ?_);cases h3:nd.kind==3 with
  |true =>
   rw[h3]at hK hz;simp only[if_true]at hK hz;refine l9 rfl (j0 (E9 (f0 t4.cell) (j0 (C6 (f0 t4.cell) (C6 (f0 k4) ?_)))));obtain⟨B0,hF,iu⟩:=t4.fs;refine l5 (az9 hp.inv hp.bd' (by omega) hF _ _ _ (by omega) ?_);intro Y5 B5 F5 S5;obtain⟨B6,t6,s6⟩:=iu F5 S5;refine C4 (l5 (X5 t6 gk (ap6 _ _ _) il qu zh ?_));intro Y7 t7 s7;exact H2 (hK Y7 B6 t7 ((s04.trans s6).trans s7))
  |false =>
  rw[h3]at hK hz;simp only[D2,if_false]at hK hz;refine l7 rfl (D1 (f0 k4) ?_);cases h1:nd.kind==1 with
  |true =>
   rw[h1]at hK hz;simp only[if_true]at hK hz;refine l9 rfl (j0 (E9 (f0 t4.cell) (j0 (C6 (f0 t4.cell) ?_))));obtain⟨B0,⟨M1,li,_⟩,_⟩:=t4.fs;refine l5 (aj9 hp.inv hp.bd' (by omega) li _ _ _ ?_);intro Y5 L5 g5
   (refine l6 rfl ?_;try dsimp only)
   refine A5 ?_;intro b44 Y6 g6 e6 n6;refine C1 e6 W5 ?_;intro Y7 p7;have g7:=g5.trans (g6.putF p7 n6);have t7:=t4.gr g7;have k7:=g7.get k4;clear p7 e6;refine j0 (E9 (f0 t7.cell) (j0 (C6 (f0 t7.cell) ?_)));obtain⟨B0,⟨M2,ug,_⟩,_⟩:=t7.fs;refine l5 (ci1 hp.inv hp.bd' (by omega) ug _ _ ?_);intro Y8 g8
   (refine l6 rfl ?_;try dsimp only)
   have t8:=t7.gr g8;have k8:=g8.get k7;have s08:H1 Y B Y8 B:=s04.grR (g7.trans g8);have hrs:=aJ3 hp.inv C.gb gk
   have pm:s.A.fileP C.gb gk tq nd.mode=(let x:=if(s.A.read C.gb gk).1==0 then s.A.writeF C.gb tq (s.A.read C.gb gk).2 false else((s.A.read C.gb gk).1,s.A)
    if x.1==0 && !((s.A.stat C.gb tq true).1==0)then x.2.chmodF C.gb tq nd.mode else x):=rfl
   have Gl:=be3 (A:=s.A) C.gb gk tq nd.mode;generalize hQ:s.A.fileP C.gb gk tq nd.mode=Q at hK hz pm Gl;have hQz:Q.1=Q.1:=rfl;have qc:U4 M (if(s.A.read C.gb gk).1==0 then s.A.writeF C.gb tq (s.A.read C.gb gk).2 false else((s.A.read C.gb gk).1,s.A)).2:=by
    split
    ·exact hp.write (by omega) _ _ _ _ (by omega)
    ·exact hp
   generalize hX:(if(s.A.read C.gb gk).1==0 then s.A.writeF C.gb tq (s.A.read C.gb gk).2 false else((s.A.read C.gb gk).1,s.A))=X at pm qc;simp only at pm;generalize (s.A.stat C.gb tq true).1=th at pm⊢;refine K5 (fun j=>∀Y' B',K8 Y' bt C {s with A:=X.2} B'->H1 Y B Y' B'->Y' b20=some (.c [.i nd.kind,.i nd.mode,.s nd.data,.i L] 80)->j (gp bt) gk tq (gp b20) th X.1 Y') ?_ ?_
   ·intro Y9 B9 t9 s9 k9;refine K5 (fun j=>∀ (x:Int) Y' B',x=Q.1->K8 Y' bt C {s with A:=Q.2} B'->H1 Y B Y' B'->j (gp bt) gk x Y') ?_ ?_
    ·intro x Y' B' hx t' s';subst hx;refine l5 (X5 t' gk Gl il qu zh ?_);intro Y10 t10 s10;exact H2 (hK Y10 B' t10 (s'.trans s10))
    intro j hj;refine K5 (fun j'=>∀b:Bool,b=(X.1==0 && !(th==0))->j' (gp bt) gk tq (gp b20) X.1 b Y9) ?_ ?_
    ·intro b hb;rw[<-hb]at pm;cases b with
     |false =>
      simp only[D2,if_false]at pm;subst pm;exact l7 rfl (hj _ Y9 B9 rfl t9 s9)
     |true =>
      simp only[if_true]at pm;subst pm;refine l9 rfl (j0 (E9 (f0 t9.cell) (j0 (C6 (f0 t9.cell) (j0 (D1 (f0 k9) ?_))))));obtain⟨B1,xt,wd⟩:=t9.fs;refine l5 (aL3 qc.inv qc.bd' (by omega) xt _ _ _ ?_);intro Y10 B10 F10 S10;obtain⟨B11,t11,s11⟩:=wd F10 S10;exact C4 (hj _ Y10 B11 rfl t11 (s9.trans s11))
    ·intro j' ip;cases hx:X.1==0 with
     |false=>exact l7 rfl (ip false (by rw[hx];rfl))
     |true=>exact l9 rfl (ip _ (by rw[hx];rfl))
   ·intro j hj;cases hr:(s.A.read C.gb gk).1==0 with
    |false =>
     rw[hr,d7 (by simp)]at hX;subst hX;exact l7 rfl (hj Y8 B t8 s08 k8)
    |true =>
     rw[hr,d8 rfl]at hX;subst hX;refine l9 rfl (j0 (E9 (f0 t8.cell) (j0 (C6 (f0 t8.cell) ?_))));obtain⟨B1,xt,wd⟩:=t8.fs;refine l5 (aL2 hp.inv hp.bd' (by omega) xt _ _ _ _ (by omega) ?_);intro Y10 B10 F10 S10;obtain⟨B11,t11,s11⟩:=wd F10 S10;exact C4 (hj Y10 B11 t11 (s08.trans s11) (s11 b20 _ k8 nb4).1)
  |false =>
  rw[h1]at hK hz;simp only[D2,if_false]at hK hz;refine l7 rfl ?_;cases hr:I8 ⟨⟨ge⟩⟩ 114 with
  |false =>
   rw[hr]at hK hz;simp only[Bool.not_false,if_true]at hK hz;refine l9 rfl (l5 (X5 t4 gk (e:=7) (K3 (by omega)) il qu zh ?_));intro Y7 t7 s7;exact H2 (hK Y7 B t7 (s04.trans s7))
  |true =>
  rw[hr]at hK hz;simp only[Bool.not_true,D2,if_false]at hK hz;obtain⟨⟨tl⟩⟩:=tq;have Cb:tl.length+(f+1)*100<=100000000:=Dj;refine l7 rfl (l5 (bD9 t4 hp.inv hp.bd' (by omega) gk tl (by omega) ?_));intro Y5 g5;have t5:=t4.gr g5;have s05:=s04.grR g5;refine H2 ?_;cases te:s.A.insideP C.gb gk ⟨⟨tl⟩⟩ with
  |true =>
   rw[te]at hK hz;simp only[if_true]at hK hz;refine l9 rfl (l5 (X5 t5 gk (e:=2) (K3 (by omega)) il qu zh ?_));intro Y7 t7 s7;exact H2 (hK Y7 B t7 (s05.trans s7))
  |false =>
  rw[te]at hK hz;simp only[D2,if_false]at hK hz;refine l7 rfl (l5 (aH7 t5 hp hM ⟨⟨tl⟩⟩ ?_));have lz:=hp.made (by omega) C.gb ⟨⟨tl⟩⟩;have Co:=aO6 (A:=s.A) C.gb ⟨⟨tl⟩⟩;generalize s.A.madeF C.gb ⟨⟨tl⟩⟩=m at lz Co hK hz⊢;obtain⟨me,A1⟩:=m;simp only at lz Co hK hz⊢;intro Y6 B6 t6 s6;have s06:H1 Y B Y6 B6:=s05.trans s6;refine C4 (l5 (X5 t6 gk Co il qu zh ?_));intro Y7 t7 s7;have s07:=s06.trans s7;refine H2 ?_;cases ua:me==0 with
  |false =>
   rw[ua]at hK hz;simp only[Bool.not_false,if_true]at hK hz;exact l9 rfl (hK Y7 B6 t7 s07)
  |true =>
  rw[ua]at hK hz;simp only[Bool.not_true,D2,if_false,af4]at hK hz;have hm00:me=0:=by simpa using ua
  rw[hm00,af4]at t7;refine l7 rfl (j0 (E9 (f0 t7.cell) (j0 (C6 (f0 t7.cell) ?_))));obtain⟨B0',⟨M',Ci,_⟩,_⟩:=t7.fs;refine l5 (aH6 lz.inv lz.bd' (by omega) Ci _ _ ?_);intro x Y8 hx;have ig:∀n∈(A1.listF C.gb gk).2,W1 n/\W2 n:=fun n hn=>ae8 lz.inv hn;have ju:=ah8 (gb:=C.gb) (gc:=gk) lz.bd';generalize sj:(A1.listF C.gb gk).2.foldl (N2 C.nm C.gb ⟨⟨ge⟩⟩ gk ⟨⟨tl⟩⟩ f) {s with A:=A1}=T at hz hK;show HL.app (.tup [.sc .slc,.sc (.int .i64)]) _ (.t [.slice x.base x.len x.cap,.i (A1.listF C.gb gk).1]) Y8;replace hx:af6 Y7 Y8 (A1.listF C.gb gk).2 x:=hx;generalize A1.listF C.gb gk=L' at hx sj ig ju⊢;obtain⟨le,gd⟩:=L';simp only at hx sj ig ju
  (refine l6 rfl ?_;try dsimp only)
  obtain⟨V,O8,hr8,_⟩:=ar4 (B:=B6) (l:=gd) (fun b hb=>t7.has hb) hx;have kb:=ad9 hr8;have t8:=t7.gr hx.1;have s08:H1 Y B Y8 B6:=s07.grR hx.1;refine H9 ?_;intro R hR;have key:∀ (k i:Nat) (u:TS) (V1:H) (B1:Nat->Prop),k+i=gd.length->K8 V1 bt C u B1->U4 M u.A->H1 Y B V1 B1->Off V V1 B1->(gd.drop i).foldl (N2 C.nm C.gb ⟨⟨ge⟩⟩ gk ⟨⟨tl⟩⟩ f) u=T->R (gp bt) ⟨⟨ge⟩⟩ gk ⟨⟨tl⟩⟩ x (i:Int) V1:=by
   intro k
   induction k with
   |zero =>
    intro i u V1 B1 hk u1 up us uo ue;refine hR _ _ _ _ _ _ _ (l7 (W4 (by omega)) ?_);rw[M3 (by omega)]at ue;have ue:u=T:=ue;subst ue;exact hK V1 B1 u1 us
   |succ k ihk =>
    intro i u V1 B1 hk u1 up us uo ue;obtain⟨n,hn⟩:∃n,gd[i]?=some n:=⟨_,G0 (by omega)⟩;obtain⟨g,o,a1,a2,a3⟩:=Z8 (hr8.gr uo.1) hn;obtain⟨o1,o2⟩:=ig n (K7 hn);have jp:=o2.2;have Ah:1<=n.size:=by
     have:=aG1 o1;rw[ah5];cases hd:n.data.toList with
     |nil=>exact m7 hd this
     |cons c r=>rw[H4];omega
    have vt:=ab0 gk n;have hjt:=ab0 ⟨⟨tl⟩⟩ n;have ly:(⟨⟨tl⟩⟩:d9).size=tl.length:=rfl;have ym:((bs [47]):d9).size=1:=rfl;rw[S9 hn,H3]at ue;have pe:N2 C.nm C.gb ⟨⟨ge⟩⟩ gk ⟨⟨tl⟩⟩ f u n=cpT C ⟨⟨ge⟩⟩ f u (H8 gk n) (H8 ⟨⟨tl⟩⟩ n):=rfl;have ki:=aY3 C.nm C.gb ⟨⟨ge⟩⟩ gk ⟨⟨tl⟩⟩ f (gd.drop (i+1)) (N2 C.nm C.gb ⟨⟨ge⟩⟩ gk ⟨⟨tl⟩⟩ f u n);rw[ue]at ki;refine hR _ _ _ _ _ _ _ (l9 (M7 (by omega)) (D0 (by omega) ?_));rw[a1];refine j0 (D0 (bv6 x.len) (C6 a3 (D0 (by rw[D8];omega) (D0 (by omega) ?_))));refine j0 (D0 (bv6 x.len) (C6 a3 (D0 (by rw[D8];omega) ?_)));refine l5 (ih (H8 gk n) (H8 ⟨⟨tl⟩⟩ n) u V1 B1 _ (by omega) (by omega) (by omega) (by omega) u1 up (by rw[<-pe];exact C7 ki hz) ?_);intro V2 B2 u2 s2;refine U9 ?_;rw[ab9 (i:=i)];refine ihk (i+1) (N2 C.nm C.gb ⟨⟨ge⟩⟩ gk ⟨⟨tl⟩⟩ f u n) V2 B2 (by omega) u2 ?_ (us.trans s2) (uo.sep s2) ue;exact(ar2 (by omega) C.nm C.gb ⟨⟨ge⟩⟩ gk ⟨⟨tl⟩⟩ f [n] u up).2
  exact key gd.length 0 {s with A:=A1} Y8 B6 (by omega) t8 lz s08 O8 sj
end
end
section
theorem aB7:ElT Tryz.prog 30 9 1:=bX2 (by kernel_rfl) (by decide) (by kernel_rfl)
theorem ar5(a b:List d9):u0 (a++b)=u0 a++u0 b:=by unfold u0;rw[List.map_append]
theorem aN9(l:List d9):∀r∈u0 l,∀u∈r,u.oneCell'=true:=by
 intro r hr u hu;unfold u0 at hr;obtain⟨s,_,rfl⟩:=K0.1 hr;rw[T9]at hu;subst hu;rfl
theorem bJ0{Y:H}{e:TypeId}{n:Nat}{rows:List (List u9)}{x:Sl}(h:E0 Y e n rows x):x.len<=x.cap:=by
 obtain⟨h1,_,⟨_,h3,h4⟩|⟨g,cur,_,_,_,h5,_⟩⟩:=h
 ·rw[h1,h4];exact Nat.zero_le _
 ·exact h5
attribute [local irreducible] i9 E3 A0 I9 l8 H0 C0 stW muW biW W7 imW J0 G8 app E2 J1 D3 E6 oW P0 J5 C9 rfW N5 M9 D5 exW I2 Gr P1
section
variable {Y:H}
theorem bE0{l:List d9}{y:Sl}(hy:F0 Y 1 (u0 l) y)(hl:l.length<=1000000){K:KH}(hK:∀y' Y',Q8 Y Y' 9 1 (u0 (E7 l)) y'->K (.slice y'.base y'.len y'.cap) Y'):i7 106 [.slice y.base y.len y.cap] K Y:=by
 refine dq2 _ ?_;unfold cI5;have lc:=ad9 hy;rw[<-bo0]at hK;refine H9 ?_;intro R hR;have key:∀ (n i:Nat) (out:Sl) (V:H),n+i=l.length->Q8 Y V 9 1 (u0 (aS4 (l.take i))) out->R y out (i:Int) V:=by
  intro n
  induction n with
  |zero =>
   intro i out V hn ho;rw[Q1 (by omega)]at ho;exact hR _ _ _ _ (l7 (W4 (by omega)) (hK out V ho))
  |succ n ih =>
   intro i out V hn ho;obtain⟨x,hx⟩:∃x,l[i]?=some x:=⟨_,G0 (by omega)⟩;have qt:l.take (i+1)=l.take i++[x]:=by rw[R1,hx];rfl
   have Dr:=ih (i+1);rw[qt,bz6]at Dr;have hol:(aS4 (l.take i)).length=i:=by rw[bo0,(I7 _).length_eq,P4];omega
   generalize aS4 (l.take i)=o at ho Dr hol;have hoz:=ho.len;have rq:=bJ0 ho.2.1;have hsr:(u0 o).length=o.length:=by unfold u0;rw[Q0]
   rw[hsr]at hoz;have mu:IntKind.i64.wrap ((i:Int)+1)=((i+1:Nat):Int):=by rw[D7 (by omega) (by omega)];omega
   refine hR _ _ _ _ (l9 (M7 (by omega)) (H9 ?_));intro R2 mo;obtain⟨at_,ha1,ha2,Cp⟩:=bz7 x o;have hins:=cm6 x o at_ ha2 Cp;have key2:∀ (m k:Nat),m+k=at_->R2 y out (i:Int) (k:Int) V:=by
    intro m
    induction m with
    |zero =>
     intro k hm;have hm:k=at_:=by omega
     subst hm;refine mo _ _ _ _ _ (K5 (fun j=>j y out (i:Int) (k:Int) false V) ?_ ?_)
     ·refine l7 rfl ?_;rw[P5];refine D0 ⟨J2 (by omega) (by omega),M8⟩ ?_;have Aj:=ho.at.sub rq (k:=0) (e:=k) (by omega) (by rw[hsr];omega) (out.cap - 0);rw[ac4]at Aj;refine(Q8.nil' ho.1 9 1).apps aB7 Aj (fun r hr=>aN9 o r (List.mem_of_mem_take hr)) (by simp only[ao8,P4];omega) ?_;intro y1 V1 n1 f1 si;rw[aw4]at n1;have g1:Gr V V1:=ac6 fun c oc hc=>f1 c oc hc (by intro e;cases e);obtain⟨g',ob',b1,b2,b3⟩:=Z8 (hy.gr n1.1) hx;rw[b1];refine j0 (D0 ⟨by omega,by omega⟩ (C6 b3 ?_));refine n1.app1 aB7 (r:=[.s x]) rfl rfl (by rw[P4];omega) ?_;intro y2 V2 n2 f2 _;have hout:F0 V2 1 (u0 o) out:=(ho.at.gr g1).keep fun g oo ob hg Gm=>f2 g ob Gm fun e=>by
       obtain⟨_,_,⟨q,_⟩|⟨g',cur,q1,q2,_⟩⟩:=ho.2.1
       ·rw[q]at hg;cases hg
       ·rw[q1]at hg;injection hg with hg;injection hg with hg
        subst hg;rcases si _ e with h|h
        ·cases h
        ·rw[q2]at h;cases h
      have Ak:=hout.sub rq (k:=k) (e:=out.len) (by omega) (by rw[hsr];omega) (out.cap-k);rw[Q1 (by rw[hsr];omega)]at Ak;refine D0 ⟨M8,J2 (by omega) (by omega)⟩ ?_;refine n2.apps aB7 Ak (fun r hr=>aN9 o r (List.mem_of_mem_drop hr)) (by simp only[P3,P4,X1,ai1];omega) ?_;intro y3 V3 n3 _ _;rw[mu];refine Dr y3 V3 (by omega) ?_;rw[hins,ar5,ar5];have e1:u0 (o.take k)=(u0 o).take k:=by unfold u0;rw[List.map_take]
      have e2:u0 (o.drop k)=(u0 o).drop k:=by unfold u0;rw[List.map_drop]
      rw[e1,e2,<- U7];exact n3
     ·intro j hj;by_cases tg:k<o.length
      ·obtain⟨z,hz⟩:∃z,o[k]?=some z:=⟨_,G0 tg⟩;obtain⟨g,ob,a1,a2,a3⟩:=Z8 ho.at hz;obtain⟨g',ob',b1,b2,b3⟩:=Z8 (hy.gr ho.1) hx;refine l9 (M7 (by omega)) ?_;rw[a1];refine j0 (D0 ⟨by omega,by omega⟩ (C6 a3 ?_));rw[b1];refine j0 (D0 ⟨by omega,by omega⟩ (C6 b3 ?_));rw[aT7,<- I5,cc3,Cp z hz];exact hj
      ·exact l7 (W4 (by omega)) hj
    |succ m ihm =>
     intro k hm;obtain⟨z,hz,hzx⟩:=ha2 k (by omega);refine mo _ _ _ _ _ (K5 (fun j=>j y out (i:Int) (k:Int) true V) ?_ ?_)
     ·refine l9 rfl ?_;rw[ab9 (i:=k)];exact ihm (k+1) (by omega)
     ·intro j hj;obtain⟨g,ob,a1,a2,a3⟩:=Z8 ho.at hz;obtain⟨g',ob',b1,b2,b3⟩:=Z8 (hy.gr ho.1) hx;refine l9 (M7 (by omega)) ?_;rw[a1];refine j0 (D0 ⟨by omega,by omega⟩ (C6 a3 ?_));rw[b1];refine j0 (D0 ⟨by omega,by omega⟩ (C6 b3 ?_));rw[aT7,<- I5,cc3,hzx];exact hj
   exact key2 at_ 0 rfl
 exact key l.length 0 ⟨none,0,0⟩ Y rfl (Q8.nil Y _ _)
end
section
variable {Y V:H} {bt:Nat} {C:TlC} {s:TS} {B:Nat->Prop} {gd:List d9} {y:Sl}
theorem br9{N:Nat}(h:K8 Y bt C s B)(hy:F0 Y 1 (u0 gd) y)(hI:Inv s.A)(hB:Bd N s.A)(hN:N<=100000000){tq:d9}(hto:gd.getLast?=some tq)(hl:gd.length<=1000000)(kc:∀n∈gd,n.size<=1000000){K:KH}
 (kg:s.A.dirB C.gb tq=false->∀y' Y',Q8 Y Y' 9 1 (u0 [tq]) y'->K (.t [.slice y'.base y'.len y'.cap,.bool (gd.length==2)]) Y')
 (lf:s.A.dirB C.gb tq=true->∀y' Y',Q8 Y Y' 9 1 (u0 (gd.dropLast.map fun n=>H8 tq (ah6 n))) y'->K (.t [.slice y'.base y'.len y'.cap,.bool true]) Y') :
 i7 40 [.q bt,.slice y.base y.len y.cap] K Y:=by
 refine c40 _ _ ?_;unfold g40;have lc:=ad9 hy;have ia:gd≠[]:=by intro e;rw[e]at hto;cases hto
 have Dh:0<gd.length:=List.length_pos_iff.2 ia;have gx:gd[gd.length-1]?=some tq:=by rw[<-List.getLast?_eq_getElem?];exact hto
 have hw:IntKind.i64.wrap (((y.len:Nat):Int)-1)=((gd.length-1:Nat):Int):=by rw[D7 (by omega) (by omega)];omega
 obtain⟨g,o,a1,a2,a3⟩:=Z8 hy gx;have Dj:=kc tq (List.mem_of_getLast? hto);rw[hw,a1];refine j0 (D0 ⟨by omega,by omega⟩ (C6 a3 (l5 (bh5 h hI hB hN tq true ?_))));intro Y1 g1;have hd:cq2 s.A C.gb tq true=s.A.dirB C.gb tq:=rfl;rw[hd];refine H2 ?_;cases im:s.A.dirB C.gb tq with
 |false =>
  refine l9 rfl ?_;refine A5 ?_;intro b7 Y2 g2 e2 n2;have e3:((((y.len:Nat):Int):Int)==2)=(gd.length==2):=by rw[Q9];simp only[beq_iff_eq];omega
  rw[e3]
  exact kg im ⟨some ⟨b7,0,none⟩,1,1⟩ Y2 ⟨g1.trans g2,cg2 e2,fun g hg=>by
   injection hg with hg;injection hg with hg
   subst hg
   exact A9 g1 n2⟩
 |true =>
  have lf:=lf im;refine l7 rfl (H9 ?_);intro R hR;have key:∀ (n i:Nat) (out:Sl) (V:H),n+i=gd.length-1->Q8 Y V 9 1 (u0 ((gd.take i).map fun n=>H8 tq (ah6 n))) out->R y tq out (i:Int) V:=by
   intro n
   induction n with
   |zero =>
    intro i out V hn ho;refine hR _ _ _ _ _ (l7 ?_ ?_)
    ·rw[D7 (by omega) (by omega)];exact W4
    ·have:gd.dropLast=gd.take i:=by rw[List.dropLast_eq_take];congr 1;omega
     rw[this]at lf;exact lf out V ho
   |succ n ih =>
    intro i out V hn ho;obtain⟨x,hx⟩:∃x,gd[i]?=some x:=⟨_,G0 (by omega)⟩;have hxz:=kc x (K7 hx);have vk:=aK7 x;have qt:gd.take (i+1)=gd.take i++[x]:=by rw[R1,hx];rfl
    have mu:IntKind.i64.wrap ((i:Int)+1)=((i+1:Nat):Int):=by rw[D7 (by omega) (by omega)];omega
    have Dr:=ih (i+1);rw[qt,List.map_append,ar5]at Dr;have ym:((bs [47]):d9).size=1:=rfl;obtain⟨g',ob',b1,b2,b3⟩:=Z8 (hy.gr ho.1) hx;refine hR _ _ _ _ _ (l9 (by rw[mu];exact M7) (D0 (by omega) ?_));rw[b1];refine j0 (D0 ⟨by omega,by omega⟩ (C6 b3 ?_));obtain⟨⟨xl⟩⟩:=x;have kb:xl.length<=1000000:=hxz;refine l5 (br8 xl (by omega) (ab2 (D0 (by rw[D8];omega) ?_)));refine ho.app1 aB7 (r:=[.s (H8 tq (ah6 ⟨⟨xl⟩⟩))]) rfl rfl (by unfold u0;rw[Q0,Q0,P4];omega) ?_;intro y1 V1 n1 _ _;rw[mu];exact Dr y1 V1 (by omega) n1
  exact key (gd.length-1) 0 ⟨none,0,0⟩ Y1 (by omega) (Q8.nil' g1 _ _)
def ab4(C:TlC)(ge:d9)(t:TS)(n:d9):Int×TS :=
 if E8 C.nm (bs [109,107,100,105,114]) then onA t (if I8 ge 112 then t.A.allF C.gb (am0 n++[n])else t.A.mkdirF C.gb n)
 else if E8 C.nm (bs [114,109,100,105,114]) then onA t (t.A.rmdirP C.gb n)
 else if E8 C.nm (bs [116,111,117,99,104]) then onA t (t.A.writeF C.gb n gq true)
 else TS.rm C.nm C.gb ge FU t n
theorem bb7(nm:d9)(do_:TS->d9->Int×TS)(n:d9)(r:List d9)(s:TS):TS.each nm do_ (n::r) s=if s.full then s else TS.each nm do_ r ((do_ s n).2.fail nm n (do_ s n).1):=rfl
theorem bs0{P:Nat->TS->Prop}{N:Nat}(hN:N<=90000000)(h:K8 Y bt C s B)(hO:Off V Y B)(hy:F0 V 1 (u0 gd) y)(ge:List J3)(po:ge.length<=1000000)(il:C.nm.size<=1000000)(hl:gd.length<=1000000)(kc:∀n∈gd,n.size<=100000)
 (mw:E8 C.nm (bs [109,107,100,105,114])=true\/E8 C.nm (bs [114,109,100,105,114])=true\/E8 C.nm (bs [116,111,117,99,104])=true\/E8 C.nm (bs [114,109])=true)
 (hP1:E8 C.nm (bs [109,107,100,105,114])=true\/E8 C.nm (bs [116,111,117,99,104])=true->∀k s,P k s->U4 N s.A)
 (hP2:∀k s,P k s->Inv s.A/\Bd (N+1048576) s.A)
 (hPs:∀k s n,n∈gd->P k s->P (k+1) ((ab4 C ⟨⟨ge⟩⟩ s n).2.fail C.nm n (ab4 C ⟨⟨ge⟩⟩ s n).1)) (hp:P 0 s)
 (hz:(TS.each C.nm (ab4 C ⟨⟨ge⟩⟩) gd s).err.size<=1000000000000)
 {K:KH} (hK:∀Y' B',K8 Y' bt C (TS.each C.nm (ab4 C ⟨⟨ge⟩⟩) gd s) B'->H1 Y B Y' B'->K (.t []) Y') :
 i7 44 [.q bt,.s ⟨⟨ge⟩⟩,.slice y.base y.len y.cap] K Y:=by
 refine c44 _ _ _ ?_;unfold g44;have lc:=ad9 hy;have pt:∀t n,Er (ab4 C ⟨⟨ge⟩⟩ t n).1:=by
  intro t n;unfold ab4;split
  ·show Er (if I8 ⟨⟨ge⟩⟩ 112 then t.A.allF C.gb (am0 n++[n])else t.A.mkdirF C.gb n).1;split
   ·exact bw8 _ _ _
   ·exact aF8 _ _
  split
  ·exact aR3 _ _
  split
  ·exact aF9 _ _ _ _
  ·exact bZ4 _ _ _ _ _ _
 have mc:∀t n,t.err.size<=(ab4 C ⟨⟨ge⟩⟩ t n).2.err.size:=by
  intro t n;unfold ab4;split
  ·exact A7 _
  split
  ·exact A7 _
  split
  ·exact A7 _
  ·exact bx0 _ _ _ _ _ _
 generalize hT:TS.each C.nm (ab4 C ⟨⟨ge⟩⟩) gd s=T at hz hK;refine H9 ?_;intro R hR;have key:∀ (k i:Nat) (u:TS) (Y1:H) (B1:Nat->Prop),k+i=gd.length->K8 Y1 bt C u B1->Off V Y1 B1->H1 Y B Y1 B1->P i u->TS.each C.nm (ab4 C ⟨⟨ge⟩⟩) (gd.drop i) u=T->R (gp bt) ⟨⟨ge⟩⟩ y (i:Int) Y1:=by
  intro k
  induction k with
  |zero =>
   intro i u Y1 B1 hk t1 o1 s1 p1 e1;refine hR _ _ _ _ _ (K5 (fun j=>j (gp bt) ⟨⟨ge⟩⟩ y (i:Int) false Y1) ?_ fun j hj=>l7 (W4 (by omega)) hj);rw[M3 (by omega)]at e1;have e1:u=T:=e1;subst e1;exact l7 rfl (hK Y1 B1 t1 s1)
  |succ k ih =>
   intro i u Y1 B1 hk t1 o1 s1 p1 e1;obtain⟨n,hn⟩:∃n,gd[i]?=some n:=⟨_,G0 (by omega)⟩;have jh:=K7 hn;have ix:=kc n jh;rw[S9 hn,bb7]at e1;refine hR _ _ _ _ _ (K5 (fun j=>j (gp bt) ⟨⟨ge⟩⟩ y (i:Int) (!u.full) Y1) ?_ fun j hj=>l9 (M7 (by omega)) (j0 (an2 (f0 t1.cell) hj)));cases hf:u.full with
   |true =>
    rw[hf,d8 rfl]at e1;subst e1;exact l7 rfl (hK Y1 B1 t1 s1)
   |false =>
   rw[hf,d7 (by simp)]at e1;have mu:IntKind.i64.wrap ((i:Int)+1)=((i+1:Nat):Int):=by rw[D7 (by omega) (by omega)];omega
   have sj:=aG0 (nm:=C.nm) (mc) (gd.drop (i+1)) ((ab4 C ⟨⟨ge⟩⟩ u n).2.fail C.nm n (ab4 C ⟨⟨ge⟩⟩ u n).1);rw[e1]at sj;have pj:=Q6 C.nm (ab4 C ⟨⟨ge⟩⟩ u n).2 n (ab4 C ⟨⟨ge⟩⟩ u n).1;have tu:=hPs i u n jh p1;obtain⟨g,o,a1,a2,a3⟩:=Z8 (hy.gr o1.1) hn;refine l9 rfl (K5 (fun j=>∀V2 B2,K8 V2 bt C ((ab4 C ⟨⟨ge⟩⟩ u n).2.fail C.nm n (ab4 C ⟨⟨ge⟩⟩ u n).1) B2->H1 Y1 B1 V2 B2->j (gp bt) ⟨⟨ge⟩⟩ y (i:Int) V2) ?_ ?_)
   ·intro V2 B2 t2 s2;rw[mu];exact ih (i+1) _ V2 B2 (by omega) t2 (o1.sep s2) (s1.trans s2) tu e1
   intro j hj;rw[a1];refine j0 (D0 ⟨by omega,by omega⟩ (C6 a3 (j0 (C6 (f0 t1.cell) ?_))));have kx:(ab4 C ⟨⟨ge⟩⟩ u n).2.err.size<=1000000000000:=by omega
   obtain⟨i2,b2⟩:=hP2 i u p1;have rv:∀V2 B2,K8 V2 bt C (ab4 C ⟨⟨ge⟩⟩ u n).2 B2->H1 Y1 B1 V2 B2->i6 37 [.q bt,.s n,.i (ab4 C ⟨⟨ge⟩⟩ u n).1] kB (fun _=>j (gp bt) ⟨⟨ge⟩⟩ y (i:Int)) V2:=by
    intro V2 B2 t2 s2;refine l5 (X5 t2 n (pt u n) il (by omega) kx ?_);intro V3 t3 s3;exact H2 (hj V3 B2 t3 (s2.trans s3))
   simp only[<-I5];unfold ab4 at rv;cases h1:E8 C.nm (bs [109,107,100,105,114]) with
   |true =>
    rw[h1]at rv;simp only[if_true]at rv;obtain⟨⟨nl⟩⟩:=n;have qm:nl.length<=100000:=ix;refine l9 rfl (l5 (ao4 ge 112 po (H2 (l5 (bS5 t1 (hP1 (.inl h1) i u p1) hN nl (by omega) _ ?_)))));intro V2 B2 t2 s2;exact C4 (rv V2 B2 t2 s2)
   |false =>
   rw[h1]at rv;simp only[D2,if_false]at rv;refine l7 rfl ?_;cases h2:E8 C.nm (bs [114,109,100,105,114]) with
   |true =>
    rw[h2]at rv;simp only[if_true]at rv;refine l9 rfl (j0 (E9 (f0 t1.cell) (j0 (C6 (f0 t1.cell) ?_))));obtain⟨B0,⟨M,hM,_⟩,_⟩:=t1.fs;refine l5 (aj9 i2 b2 (by omega) hM _ _ _ ?_);intro Y2 L g2
    (refine l6 rfl ?_;try dsimp only)
    refine A5 ?_;intro b8 Y3 g3 e3 n3;refine C1 e3 W5 ?_;intro Y4 p4;have g4:=g2.trans (g3.putF p4 n3);have t4:=t1.gr g4;have k4:=p4.same;have Bp:u.A.rmdirP C.gb n=if(u.A.stat C.gb n false).1==0 then(if(u.A.stat C.gb n false).2.kind==2 then u.A.removeF C.gb n else(8,u.A))else((u.A.stat C.gb n false).1,u.A):=rfl
    rw[Bp]at rv;clear Bp p4 e3;have fin:∀ (e:Int) (V2:H) (B2:Nat->Prop) (A2:AT),(e,A2)=(if(u.A.stat C.gb n false).1==0 then(if(u.A.stat C.gb n false).2.kind==2 then u.A.removeF C.gb n else(8,u.A))else((u.A.stat C.gb n false).1,u.A))->K8 V2 bt C {u with A:=A2} B2->H1 Y1 B1 V2 B2->i6 37 [.q bt,.s n,.i e] kB (fun _=>j (gp bt) ⟨⟨ge⟩⟩ y (i:Int)) V2:=by
     intro e V2 B2 A2 he t2 s2;rw[<-he]at rv;exact rv V2 B2 t2 s2
    clear rv;refine K5 (fun j'=>∀e:Int,((u.A.stat C.gb n false).1==0->(u.A.stat C.gb n false).2.kind==2->e=0)->((u.A.stat C.gb n false).1==0->(u.A.stat C.gb n false).2.kind≠2->e=8)->((u.A.stat C.gb n false).1≠0->e=(u.A.stat C.gb n false).1)->j' (gp bt) ⟨⟨ge⟩⟩ y (i:Int) n e Y4) ?_ ?_
    ·intro e c1 c2 c3;refine K5 (fun j'=>∀ (x:Int) V2 B2 A2,(x,A2)=(if(u.A.stat C.gb n false).1==0 then(if(u.A.stat C.gb n false).2.kind==2 then u.A.removeF C.gb n else(8,u.A))else((u.A.stat C.gb n false).1,u.A))->K8 V2 bt C {u with A:=A2} B2->H1 Y1 B1 V2 B2->j' (gp bt) ⟨⟨ge⟩⟩ y (i:Int) n x V2) (fun x V2 B2 A2 hx t2 s2=>fin x V2 B2 A2 hx t2 s2) ?_;intro j' ip;cases wv:e==0 with
     |true =>
      have wv:e=0:=by simpa using wv
      have mn:(u.A.stat C.gb n false).1=0:=by
       apply Classical.byContradiction;intro hc;exact hc (by rw[<-c3 hc];exact wv)
      have hk:(u.A.stat C.gb n false).2.kind=2:=by
       apply Classical.byContradiction;intro hc;have:=c2 (by rw[mn];rfl) hc;omega
      refine l9 rfl (j0 (E9 (f0 t4.cell) (j0 (C6 (f0 t4.cell) ?_))));obtain⟨B0,hF,iu⟩:=t4.fs;refine l5 (aD7 i2 b2 (by omega) hF _ _ ?_);intro Y5 B5 F5 S5;obtain⟨B6,t6,s6⟩:=iu F5 S5;refine C4 (ip _ Y5 B6 _ ?_ t6 (H1.of_gr g4 s6));rw[mn,hk];rfl
     |false =>
      refine l7 rfl (ip e Y4 B1 u.A ?_ t4 (H1.gr g4));by_cases mn:(u.A.stat C.gb n false).1=0
      ·by_cases hk:(u.A.stat C.gb n false).2.kind=2
       ·have:=c1 (by rw[mn];rfl) (by rw[hk];rfl);rw[this]at wv;cases wv
       ·rw[d8 (by simpa using mn),d7 (by simpa using hk),c2 (by rw[mn];rfl) hk]
      ·rw[d7 (by simpa using mn),c3 mn]
    ·intro j' ip;refine K5 (fun j''=>∀t:Bool,t=((u.A.stat C.gb n false).1==0 && !((u.A.stat C.gb n false).2.kind==2))->j'' (gp bt) ⟨⟨ge⟩⟩ y (i:Int) n (u.A.stat C.gb n false).1 t Y4) ?_ ?_
     ·intro t ht;cases t with
      |true =>
       have ht:=ht.symm;simp only[J4,Bool.not_eq_true',beq_iff_eq,X0]at ht;exact l9 rfl (ip 8 (fun _ h=>m7 (by simpa using h) ht.2) (fun _ _=>rfl) (fun h=>m7 ht.1 h))
      |false =>
       refine l7 rfl (ip _ (fun h _=>by simpa using h) (fun h h2=>?_) (fun _=>rfl));have ht:=ht.symm;rw[h,T8,Bool.not_eq_false']at ht;exact m7 (by simpa using ht) h2
     ·intro j'' za;cases h0:(u.A.stat C.gb n false).1==0 with
      |true=>exact l9 rfl (D1 (f0 k4) (za _ (by rw[h0];rfl)))
      |false=>exact l7 rfl (za false (by rw[h0];rfl))
   |false =>
   rw[h2]at rv;simp only[D2,if_false]at rv;refine l7 rfl ?_;cases h3:E8 C.nm (bs [116,111,117,99,104]) with
   |true =>
    rw[h3]at rv;simp only[if_true]at rv;have xr:=hP1 (.inr h3) i u p1;refine l9 rfl (j0 (E9 (f0 t1.cell) (j0 (C6 (f0 t1.cell) ?_))));obtain⟨B0,hF,iu⟩:=t1.fs;refine l5 (aL2 xr.inv xr.bd' (by omega) hF _ _ _ _ (by decide) ?_);intro Y5 B5 F5 S5;obtain⟨B6,t6,s6⟩:=iu F5 S5;exact C4 (rv Y5 B6 t6 s6)
   |false =>
   have h4:E8 C.nm (bs [114,109])=true:=by
    rcases mw with h|h|h|h
    ·rw[h1]at h;cases h
    ·rw[h2]at h;cases h
    ·rw[h3]at h;cases h
    ·exact h
   rw[h4];have hFU:FU=300:=rfl;have e4:ab4 C ⟨⟨ge⟩⟩ u n=TS.rm C.nm C.gb ⟨⟨ge⟩⟩ FU u n:=by
    unfold ab4;rw[h1,h2,h3];rfl
   rw[e4]at hj sj;refine l7 rfl (l9 rfl (l5 (cC5 (N:=N+1048576) (by omega) il ge po FU n u Y1 B1 _ (by omega) (by omega) (by omega) t1 ⟨i2,b2⟩ (by omega) ?_)));intro V2 B2 t2 s2;exact U9 (hj V2 B2 t2 s2)
 exact key gd.length 0 s Y B (by omega) h hO (H1.refl _ _) hp hT
end
end
end Go.Proofs.YtikedigonnlbkaaGreatDoor

