/- A part of a proof. -/
import Derived.Test.YtikedigonnlbkaaGreatDoorSbf
import Derived.WalkKit
import Derived.ProofKit
import Derived.OpenShut
import Derived.Deep.DeepHandedRow
import Derived.Shelf.Vars
import GoSem.ClaimJoined
set_option maxRecDepth 100000
namespace Go.Proofs.YtikedigonnlbkaaGreatDoor
open Go Go.HL Go.Wk
section
attribute [local irreducible] i9 E3 A0 I9 l8 H0 C0 stW muW biW W7 imW J0 G8 app E2 J1 D3 E6 oW P0 J5 C9 rfW N5 M9 D5 exW I2 Gr P1
section
variable {Y Y' V:H} {bt:Nat} {C:TlC} {s:TS} {B:Nat->Prop}
theorem K8.keep(h:K8 Y bt C s B)(hk:∀c o,Y c=some o->B c->Y' c=some o):K8 Y' bt C s B:=by
 obtain⟨B0,h1,⟨M,hM,hD⟩,h3,h4⟩:=h;exact⟨B0,hk _ _ h1 ((h4 bt).2 (.inr rfl)),⟨M,hM.keep fun c o hc hw=>hk c o hc ((h4 c).2 (.inl ((hD c).2 hw))),hD⟩,h3,h4⟩
structure Ls2(V Y:H)(bt:Nat)(C:TlC)(s:TS)(B:Nat->Prop)(lp:List d9)(yp:Sl)(ld:List d9)(yd:Sl):Prop where
 tool:K8 Y bt C s B
 off:Off V Y B
 p:E0 Y 9 1 (u0 lp) yp
 d:E0 Y 9 1 (u0 ld) yd
 pB:∀g,yp.base=some ⟨g,0,none⟩->¬B g/\V g=none
 dB:∀g,yd.base=some ⟨g,0,none⟩->¬B g/\V g=none
 pd:∀g,yp.base=some ⟨g,0,none⟩->yd.base≠some ⟨g,0,none⟩
variable {lp ld:List d9} {yp yd:Sl}
theorem Ls2.swap(h:Ls2 V Y bt C s B lp yp ld yd):Ls2 V Y bt C s B ld yd lp yp:=⟨h.tool,h.off,h.d,h.p,h.dB,h.pB,fun g hg e=>h.pd g e hg⟩
theorem Ls2.gr(h:Ls2 V Y bt C s B lp yp ld yd)(hg:Gr Y Y'):Ls2 V Y' bt C s B lp yp ld yd:=⟨h.tool.gr hg,h.off.gr hg,h.p.gr hg,h.d.gr hg,h.pB,h.dB,h.pd⟩
theorem Ls2.say{s':TS}(h:Ls2 V Y bt C s B lp yp ld yd)(ht:K8 Y' bt C s' B)(hs:H1 Y B Y' B):Ls2 V Y' bt C s' B lp yp ld yd :=
 ⟨ht,h.off.sep hs,h.p.keep fun g o hg ho=>(hs g o ho (h.pB g hg).1).1,h.d.keep fun g o hg ho=>(hs g o ho (h.dB g hg).1).1,h.pB,h.dB,h.pd⟩
theorem Ls2.push{ty:TypeId}{cs:List Bool}(h:Ls2 V Y bt C s B lp yp ld yd)(hl:lp.length<1000000)(x:d9){F:Sl->H->Prop}(hF:∀y' Y',Ls2 V Y' bt C s B (lp++[x]) y' ld yd->F y' Y') :
 H0 (.c [.s x] 9) (fun b=>ac9 .append #[30,30] ty cs [.slice yp.base yp.len yp.cap,.slice (gp b) 1 1] kL F) Y:=by
 have hn:Q8 (fun _=>none) Y 9 1 (u0 lp) yp:=⟨ax5 Y,h.p,fun _ _=>rfl⟩;refine hn.app1 aB7 (r:=[.s x]) rfl rfl (by unfold u0;rw[Q0];omega) ?_;intro y' Y' n1 f1 b1;refine hF y' Y' ⟨h.tool.keep fun c o hc hB=>f1 c o hc fun e=>(h.pB c e).1 hB,⟨ac6 fun c o hc=>f1 c o (h.off.get hc) fun e=>?_,h.off.2⟩,by rw[ar5];exact n1.2.1,h.d.keep fun g o hg ho=>f1 g o ho fun e=>h.pd g e hg,fun g hg=>?_,h.dB,fun g hg e=>?_⟩
 ·rw[(h.pB c e).2]at hc;cases hc
 ·rcases b1 g hg with e|e
  ·exact h.pB g e
  ·exact⟨h.tool.fresh e,A9 h.off.1 e⟩
 ·rcases b1 g hg with e2|e2
  ·exact h.pd g e2 e
  ·exact h.d.has e e2
theorem bE1(nm gb n:d9)(r:List d9)(s:TS)(p d:List d9)(hf:s.full=false):TS.sift nm gb (n::r) s p d=if s.A.dirB gb n then TS.sift nm gb r s p (d++[n])else TS.sift nm gb r (s.fail nm n (if(s.A.stat gb n true).1==0 then(s.A.stat gb n true).1 else(s.A.stat gb n false).1)) (if(if(s.A.stat gb n true).1==0 then(s.A.stat gb n true).1 else(s.A.stat gb n false).1)==0 then p++[n]else p) d:=by
 rw[aB2,hf];rfl
theorem bJ1{Y1:H}(h:K8 Y bt C s B)(l:d9)(hl:l.size<=1000000)(hz:s.out.size<=1000000000000){F:H->Prop}(hF:∀Y',K8 Y' bt C (s.say l) B->H1 Y B Y' B->F Y') :
 E3 (s.out.size+l.size<=9223372036854775807) (E3 ((s.out++l).size+((bs [10]):d9).size<=9223372036854775807) (i9 (gp bt) (fun(b91 o92:Nat)=>A3 9 (.p (some ⟨b91,o92+5,none⟩)) (.s ((s.out++l)++((bs [10]):d9))) F))) Y:=by
 have h1:((bs [10]):d9).size=1:=rfl;refine D0 (by omega) (D0 (by rw[D8];omega) (j0 ?_));refine C1 h.cell U3 ?_;intro Y2 p2;exact hF Y2 (h.say (s':=s.say l) rfl p2) (h.sep p2)
theorem bs1(l:List d9)(s:TS):(l.foldl TS.say s).err=s.err/\(l.foldl TS.say s).A=s.A/\s.out.size<=(l.foldl TS.say s).out.size:=by
 induction l generalizing s with
 |nil=>exact⟨rfl,rfl,A7 _⟩
 |cons n r ih =>
  rw[H3];obtain⟨a,b,c⟩:=ih (s.say n);rw[X4]at c;exact⟨a,b,by omega⟩
theorem aA0(gb ge:d9)(head:Bool)(s:TS)(gc:d9):s.out.size<=(TS.gm gb ge head s gc).out.size/\(TS.gm gb ge head s gc).A=s.A/\(TS.gm gb ge head s gc).err=s.err:=by
 have go:∀ (l:List d9) (t:TS),t.out.size<=(l.foldl (fun t n=>if !C8 46 n||I8 ge 97 then t.say n else t) t).out.size/\(l.foldl (fun t n=>if !C8 46 n||I8 ge 97 then t.say n else t) t).A=t.A/\(l.foldl (fun t n=>if !C8 46 n||I8 ge 97 then t.say n else t) t).err=t.err:=by
  intro l
  induction l with
  |nil=>intro t;exact⟨A7 _,rfl,rfl⟩
  |cons n r ih =>
   intro t;rw[H3];obtain⟨a,b,c⟩:=ih (if !C8 46 n||I8 ge 97 then t.say n else t);split at a
   ·rename_i hc;rw[d8 hc]at b c;rw[d8 hc];rw[X4]at a;exact⟨by omega,b,c⟩
   ·rename_i hc;rw[d7 hc]at b c;rw[d7 hc];exact⟨a,b,c⟩
 unfold TS.gm;simp only;split
 ·obtain⟨a,b,c⟩:=go ((s.say (gc++(bs [58]))).A.listF gb gc).2 (s.say (gc++(bs [58])));rw[X4]at a;exact⟨C7 (by omega) a,b,c⟩
 ·exact go _ _
theorem aH8(gb ge:d9)(head:Bool):∀ (l:List d9) (s:TS),s.out.size<=(l.foldl (TS.gm gb ge head) s).out.size:=by
 intro l
 induction l with
 |nil=>intro s;exact A7 _
 |cons n r ih =>
  intro s;rw[H3];exact C7 (aA0 gb ge head s n).1 (ih _)
theorem cC7{N:Nat}{gd:List d9}{y:Sl}(h:K8 Y bt C s B)(hO:Off V Y B)(hy:F0 V 1 (u0 gd) y)(hI:Inv s.A)(jm:Bd N s.A)(hN:N<=100000000)(ge:List J3)(po:ge.length<=1000000)(hf:s.full=false)(il:C.nm.size<=1000000)(hl:gd.length<=100000)(kc:∀n∈gd,n.size<=100000)
 (mz:(TS.ls C.nm C.gb ⟨⟨ge⟩⟩ gd s).err.size<=1000000000000) (kx:(TS.ls C.nm C.gb ⟨⟨ge⟩⟩ gd s).out.size<=1000000000000) {K:KH}
 (hK:∀Y',K8 Y' bt C (TS.ls C.nm C.gb ⟨⟨ge⟩⟩ gd s) B->H1 Y B Y' B->K (.t []) Y'):i7 43 [.q bt,.s ⟨⟨ge⟩⟩,.slice y.base y.len y.cap] K Y:=by
 refine c43 _ _ _ ?_;unfold g43;have lc:=ad9 hy;generalize lg:(if gd.isEmpty then [bs [46]]else gd)=nm';rw[bC7 _ _ _ gd nm' lg.symm]at mz kx hK;have mr:nm'.length<=100000:=by
  rw[<-lg];split
  ·decide
  ·exact hl
 have Cd:∀n∈nm',n.size<=100000:=by
  rw[<-lg];split
  ·intro n hn;rw[T9.1 hn];decide
  ·exact kc
 obtain⟨V0,O0,hO0⟩:=aB3 Y B;have hy0:F0 V0 1 (u0 gd) y:=hy.gr (ac6 fun c o hc=>hO0 c o (hO.get hc) (hO.2 c o hc));clear hO hy;have back:∀ {Y':H},Off V0 Y' B->H1 Y B Y' B:=fun ho c o hc hn=>⟨ho.get (hO0 c o hc hn),hn⟩;refine K5 (fun j=>∀y' V' Y',K8 Y' bt C s B->Off V' Y' B->Gr V0 V'->F0 V' 1 (u0 nm') y'->j (gp bt) ⟨⟨ge⟩⟩ y' Y') ?_ ?_
 case refine_2 =>
  intro j hj;cases gd with
  |nil =>
   have e1:nm'=[bs [46]]:=lg.symm;refine l9 (by rw[lc];rfl) ?_;refine A5 ?_;intro b Y1 g1 e n1;have nb:¬B b:=h.fresh n1;have Dd:V0 b=none:=A9 O0.1 n1;rw[e1]at hj;refine hj ⟨some ⟨b,0,none⟩,1,1⟩ (V0.put b (.c [.s (bs [46])] 9)) Y1 (h.gr g1) ((O0.gr g1).add e nb) (Gr.put Dd _) ((cg2 (Y:=V0.put b (.c [.s (bs [46])] 9)) (H.put_same _ _ _)).rows)
  |cons n r =>
   have e1:nm'=n::r:=lg.symm;rw[e1]at hj;refine l7 ?_ (hj y V0 Y h O0 (Gr.refl _) hy0);rw[lc,H4];simp only[X0];omega
 intro y' V' Y1 t1 O1 G1 hy1;have hyl1:=ad9 hy1;clear lc hy0 hl kc;generalize hS:TS.sift C.nm C.gb nm' s [] []=S at mz kx hK;have hsk:=at9 C.nm C.gb nm' s [] [];rw[hS]at hsk;have hzS:S.1.err.size<=1000000000000:=by
  rw[<- (bs1 (E7 S.2.1) S.1).1];have:∀ (l:List d9) (t:TS),(l.foldl (TS.gm C.gb ⟨⟨ge⟩⟩ (Nat.blt 1 nm'.length)) t).err=t.err:=by
   intro l
   induction l with
   |nil=>intro t;rfl
   |cons n r ih=>intro t;rw[H3,ih];exact(aA0 _ _ _ _ _).2.2
  rw[this]at mz;exact mz
 have hzP:((E7 S.2.1).foldl TS.say S.1).out.size<=1000000000000:=C7 (aH8 _ _ _ _ _) kx;refine H9 ?_;intro R hR;have hAk:S.1.A=s.A:=hsk.1;have key:∀ (k i:Nat) (u:TS) (lp ld:List d9) (yp yd:Sl) (Y2:H),k+i=nm'.length->Ls2 V' Y2 bt C u B lp yp ld yd->u.A=s.A->u.full=false->lp.length<=i->ld.length<=i->(∀n∈lp,n.size<=100000)->(∀n∈ld,n.size<=100000)->TS.sift C.nm C.gb (nm'.drop i) u lp ld=S->R (gp bt) ⟨⟨ge⟩⟩ y' yp yd (i:Int) Y2:=by
  intro k
  induction k with
  |zero =>
   intro i u lp ld yp yd Y2 hk hL hA sg hll1 hll2 qu xf he;rw[M3 (by omega)]at he;have he:(u,lp,ld)=S:=he;subst he;simp only at mz kx hK hzS hzP;refine hR _ _ _ _ _ _ _ (l7 (W4 (by omega)) ?_);refine l5 (bE0 hL.p.rows (by omega) ?_);intro ys Y3 ns;have L3:=hL.gr ns.1;refine ak0 (H9 ?_);intro R2 mo;have Dz:(E7 lp).length=lp.length:=(I7 lp).length_eq;have hyl3:=ns.len;have Al:(u0 (E7 lp)).length=(E7 lp).length:=by unfold u0;rw[Q0]
   rw[Al]at hyl3;have hspz:∀n∈E7 lp,n.size<=100000:=fun n hn=>qu n ((I7 lp).mem_iff.1 hn);obtain⟨ρ,Oρ,hρ,hρ2⟩:=ar4 (B:=B) (l:=E7 lp) (fun b hb=>hL.tool.has hb) ns;have hdρ:F0 ρ 1 (u0 ld) yd:=hL.d.rows.keep fun g o ob hg Gm=>by
    obtain⟨_,_,⟨q,_⟩|⟨g',cur,q1,q2,_⟩⟩:=hL.d
    ·rw[q]at hg;cases hg
    ·rw[q1]at hg;injection hg with hg;injection hg with hg
     subst hg;exact hρ2 g' ob Gm (hL.dB g' q1).1
   have hyρ:F0 ρ 1 (u0 nm') y':=hy1.gr (ac6 fun c o hc=>hρ2 c o (hL.off.get hc) (hL.off.2 c o hc));have hG0:Gr V0 ρ:=ac6 fun c o hc=>hρ2 c o (hL.off.get (G1.get hc)) (hL.off.2 c o (G1.get hc));have hydl:=ad9 hdρ;have key2:∀ (k i:Nat) (v:TS) (Y4:H),k+i=lp.length->K8 Y4 bt C v B->Off ρ Y4 B->v.A=s.A->((E7 lp).drop i).foldl TS.say v=(E7 lp).foldl TS.say u->R2 (gp bt) ⟨⟨ge⟩⟩ y' ys yd (i:Int) Y4:=by
    intro k
    induction k with
    |zero =>
     intro i v Y4 hk v1 vo vA ve;rw[M3 (by omega)]at ve;have ve:v=(E7 lp).foldl TS.say u:=ve;rw[<-ve]at mz kx hK hzP;refine mo _ _ _ _ _ _ _ (l7 (W4 (by omega)) (H9 ?_));intro R3 hR3;have key3:∀ (k i:Nat) (w:TS) (Y5:H),k+i=ld.length->K8 Y5 bt C w B->Off ρ Y5 B->w.A=s.A->(ld.drop i).foldl (TS.gm C.gb ⟨⟨ge⟩⟩ (Nat.blt 1 nm'.length)) w=ld.foldl (TS.gm C.gb ⟨⟨ge⟩⟩ (Nat.blt 1 nm'.length)) v->R3 (gp bt) ⟨⟨ge⟩⟩ y' yd (i:Int) Y5:=by
      intro k
      induction k with
      |zero =>
       intro i w Y5 hk w1 wo wA we;rw[M3 (by omega)]at we;have we:w=ld.foldl (TS.gm C.gb ⟨⟨ge⟩⟩ (Nat.blt 1 nm'.length)) v:=we;rw[<-we]at hK;exact hR3 _ _ _ _ _ _ (l7 (W4 (by omega)) (hK Y5 w1 (back (wo.sub hG0))))
      |succ k ih3 =>
       intro i w Y5 hk w1 wo wA we;obtain⟨n,hn⟩:∃n,ld[i]?=some n:=⟨_,G0 (by omega)⟩;have ix:=xf n (K7 hn);rw[S9 hn,H3]at we;have mu:IntKind.i64.wrap ((i:Int)+1)=((i+1:Nat):Int):=by rw[D7 (by omega) (by omega)];omega
       have Am:=aH8 C.gb ⟨⟨ge⟩⟩ (Nat.blt 1 nm'.length) (ld.drop (i+1)) (TS.gm C.gb ⟨⟨ge⟩⟩ (Nat.blt 1 nm'.length) w n);rw[we]at Am;have hwz:=(aA0 C.gb ⟨⟨ge⟩⟩ (Nat.blt 1 nm'.length) w n).1;obtain⟨g,o,a1,a2,a3⟩:=Z8 (hdρ.gr wo.1) hn;have Ds:TS.gm C.gb ⟨⟨ge⟩⟩ (Nat.blt 1 nm'.length) w n=(let w':=if Nat.blt 1 nm'.length then w.say (n++(bs [58]))else w;(w'.A.listF C.gb n).2.foldl (fun t n=>if !C8 46 n||I8 ⟨⟨ge⟩⟩ 97 then t.say n else t) w'):=rfl;refine hR3 _ _ _ _ _ _ (l9 (M7 (by omega)) ?_);refine K5 (fun j=>∀w' Y6,w'=(if Nat.blt 1 nm'.length then w.say (n++(bs [58]))else w)->K8 Y6 bt C w' B->Off ρ Y6 B->j (gp bt) ⟨⟨ge⟩⟩ y' yd (i:Int) Y6) ?_ ?_
       ·intro w' Y6 hw' w6 o6;simp only at Ds;rw[<-hw']at Ds;have hwA:w'.A=s.A:=by rw[hw'];split<;>exact wA
        refine j0 (E9 (f0 w6.cell) (j0 (C6 (f0 w6.cell) ?_)));obtain⟨g,o,a1,a2,a3⟩:=Z8 (hdρ.gr o6.1) hn;rw[a1];refine j0 (D0 ⟨by omega,by omega⟩ (C6 a3 ?_));obtain⟨B0,⟨M,hM,_⟩,_⟩:=w6.fs;have hI6:Inv w'.A:=by rw[hwA];exact hI
        have Fv:Bd N w'.A:=by rw[hwA];exact jm
        refine l5 (aH6 hI6 Fv hN hM _ _ ?_);intro x Y7 hx;have ig:∀m∈(w'.A.listF C.gb n).2,W1 m/\W2 m:=fun m hm=>ae8 hI6 hm;have ju:=ah8 (gb:=C.gb) (gc:=n) Fv;generalize w'.A.listF C.gb n=Q at hx ig ju Ds⊢;obtain⟨qe,ql⟩:=Q;simp only at hx ig ju Ds
        (refine l6 rfl ?_;try dsimp only)
        obtain⟨ρ7,O7,hr7,hρ7⟩:=ar4 (B:=B) (l:=ql) (fun b hb=>w6.has hb) hx;have kb:=ad9 hr7;have G7:Gr ρ ρ7:=ac6 fun c o hc=>hρ7 c o (o6.get hc) (o6.2 c o hc);refine H9 ?_;intro R4 hR4;have key4:∀ (k m:Nat) (z:TS) (Y8:H),k+m=ql.length->K8 Y8 bt C z B->Off ρ7 Y8 B->z.A=s.A->(ql.drop m).foldl (fun t n=>if !C8 46 n||I8 ⟨⟨ge⟩⟩ 97 then t.say n else t) z=TS.gm C.gb ⟨⟨ge⟩⟩ (Nat.blt 1 nm'.length) w n->z.out.size<=(TS.gm C.gb ⟨⟨ge⟩⟩ (Nat.blt 1 nm'.length) w n).out.size->R4 (gp bt) ⟨⟨ge⟩⟩ y' yd (i:Int) x (m:Int) Y8:=by
         intro k
         induction k with
         |zero =>
          intro m z Y8 hk z1 zo zA ze _;rw[M3 (by omega)]at ze;have ze:z=TS.gm C.gb ⟨⟨ge⟩⟩ (Nat.blt 1 nm'.length) w n:=ze;refine hR4 _ _ _ _ _ _ _ _ (l7 (W4 (by omega)) ?_);rw[mu];exact ih3 (i+1) z Y8 (by omega) z1 (zo.sub G7) zA (by rw[ze];exact we)
         |succ k ih4 =>
          intro m z Y8 hk z1 zo zA ze zz;obtain⟨c,hc⟩:∃c,ql[m]?=some c:=⟨_,G0 (by omega)⟩;obtain⟨o1,o2⟩:=ig c (K7 hc);have pe:=o2.2;rw[S9 hc,H3]at ze;have Ae:IntKind.i64.wrap ((m:Int)+1)=((m+1:Nat):Int):=by rw[D7 (by omega) (by omega)];omega
          obtain⟨g,o,a1,a2,a3⟩:=Z8 (hr7.gr zo.1) hc;obtain⟨ch,pc,hhd⟩:=bl9 (aG1 o1);refine hR4 _ _ _ _ _ _ _ _ (l9 (M7 (by omega)) ?_);refine K5 (fun j=>∀z' Y9,z'=(if !C8 46 c||I8 ⟨⟨ge⟩⟩ 97 then z.say c else z)->K8 Y9 bt C z' B->Off ρ7 Y9 B->j (gp bt) ⟨⟨ge⟩⟩ y' yd (i:Int) x (m:Int) Y9) ?_ ?_
          ·intro z' Y9 zl z9 o9;rw[<-zl]at ze;rw[Ae];refine ih4 (m+1) z' Y9 (by omega) z9 o9 (by rw[zl];split<;>exact zA) ze ?_;rw[<-ze];have : ∀ (l:List d9) (t:TS),t.out.size<=(l.foldl (fun t n=>if !C8 46 n||I8 ⟨⟨ge⟩⟩ 97 then t.say n else t) t).out.size:=by
            intro l
            induction l with
            |nil=>intro t;exact A7 _
            |cons a r ih =>
             intro t;rw[H3];refine C7 ?_ (ih _);split
             ·rw[X4];omega
             ·exact A7 _
           exact this _ _
          intro j hj;refine K5 (fun j'=>∀t:Bool,t=(!C8 46 c||I8 ⟨⟨ge⟩⟩ 97)->j' (gp bt) ⟨⟨ge⟩⟩ y' yd (i:Int) x (m:Int) t Y8) ?_ ?_
          ·intro t ht;rw[<-ht]at hj;cases t with
           |false =>
            exact l7 rfl (hj z Y8 rfl z1 zo)
           |true =>
            refine l9 rfl (j0 (C6 (f0 z1.cell) ?_));rw[a1];refine j0 (D0 ⟨by omega,by omega⟩ (C6 a3 ?_));refine bJ1 (Y1:=Y8) z1 c (by omega) (by omega) ?_;intro Y9 t9 s9;exact hj (z.say c) Y9 rfl t9 (zo.sep s9)
          ·intro j' ip;rw[a1];refine j0 (D0 ⟨by omega,by omega⟩ (C6 a3 (X9 (c:=ch) (by decide) (by simpa using pc) ?_)));have e46:((((ch.toNat:Nat):Int):Int) != 46)=!(ch==46):=by rw[bne,show((((ch.toNat:Nat):Int):Int)==46)=(ch==46)from u8b ch 46]
           rw[e46,<- hhd];cases hh:C8 46 c with
           |false=>exact l9 rfl (ip true (by rw[hh];rfl))
           |true=>exact l7 rfl (l5 (ao4 ge 97 po (H2 (ip _ (by rw[hh];rfl)))))
        refine key4 ql.length 0 w' Y7 (by omega) (w6.gr hx.1) O7 hwA Ds.symm ?_;rw[Ds];have:∀ (l:List d9) (t:TS),t.out.size<=(l.foldl (fun t n=>if !C8 46 n||I8 ⟨⟨ge⟩⟩ 97 then t.say n else t) t).out.size:=by
         intro l
         induction l with
         |nil=>intro t;exact A7 _
         |cons a r ih =>
          intro t;rw[H3];refine C7 ?_ (ih _);split
          ·rw[X4];omega
          ·exact A7 _
        exact this _ _
       ·intro j hj;have si:decide ((((y'.len:Nat):Int):Int)>1)=Nat.blt 1 nm'.length:=by
         rw[Q9,I6,Nat.blt_eq];omega
        rw[si];cases hb:Nat.blt 1 nm'.length with
        |false=>rw[hb]at hj;exact l7 rfl (hj w Y5 rfl w1 wo)
        |true =>
         rw[hb]at hj;refine l9 rfl (j0 (C6 (f0 w1.cell) ?_));rw[a1];refine j0 (D0 ⟨by omega,by omega⟩ (C6 a3 ?_));have e58:((bs [58,10]):d9)=(bs [58])++(bs [10]):=by decide +kernel
         have z58:((bs [58,10]):d9).size=2:=rfl;refine D0 (by omega) (D0 (by rw[D8];omega) (j0 ?_));refine C1 w1.cell U3 ?_;intro Y6 p6;have hsay:(w.out++n)++((bs [58,10]):d9)=(w.say (n++(bs [58]))).out:=by
          show _=w.out++(n++(bs [58]))++(bs [10]);rw[e58];simp only[ByteArray.append_assoc]
         rw[hsay]at p6;have p7:P1 Y5 bt (.cells ⟨rtV C (w.say (n++(bs [58])))⟩ 59 (0,0)) Y6:=p6;exact hj _ Y6 rfl (w1.say rfl p7) (wo.sep (w1.sep p6))
     exact key3 ld.length 0 v Y4 (by omega) v1 vo vA rfl
    |succ k ih2 =>
     intro i v Y4 hk v1 vo vA ve;obtain⟨n,hn⟩:∃n,(E7 lp)[i]?=some n:=⟨_,G0 (by omega)⟩;have ix:=hspz n (K7 hn);rw[S9 hn,H3]at ve;have hvz:=(bs1 ((E7 lp).drop (i+1)) (v.say n)).2.2;rw[ve,X4]at hvz;have mu:IntKind.i64.wrap ((i:Int)+1)=((i+1:Nat):Int):=by rw[D7 (by omega) (by omega)];omega
     obtain⟨g,o,a1,a2,a3⟩:=Z8 (hρ.gr vo.1) hn;refine mo _ _ _ _ _ _ _ (l9 (M7 (by omega)) (j0 (C6 (f0 v1.cell) ?_)));rw[a1];refine j0 (D0 ⟨by omega,by omega⟩ (C6 a3 ?_));refine bJ1 (Y1:=Y4) v1 n (by omega) (by omega) ?_;intro Y5 t5 s5;rw[mu];exact ih2 (i+1) (v.say n) Y5 (by omega) t5 (vo.sep s5) vA ve
   exact key2 lp.length 0 u Y3 (by omega) L3.tool Oρ hA rfl
  |succ k ih =>
   intro i u lp ld yp yd Y2 hk hL hA sg hll1 hll2 qu xf he;obtain⟨n,hn⟩:∃n,nm'[i]?=some n:=⟨_,G0 (by omega)⟩;have ix:=Cd n (K7 hn);rw[S9 hn,bE1 _ _ _ _ _ _ _ sg]at he;have hIu:Inv u.A:=by rw[hA];exact hI
   have sk:Bd N u.A:=by rw[hA];exact jm
   have mu:IntKind.i64.wrap ((i:Int)+1)=((i+1:Nat):Int):=by rw[D7 (by omega) (by omega)];omega
   have rd:∀ {Y3:H},Ls2 V' Y3 bt C u B lp yp ld yd->∃g o,y'.base=some ⟨g,o,none⟩/\m8 g (o+i*1) Y3=some (.s n):=fun hL=>by
    obtain⟨g,o,a1,a2,a3⟩:=Z8 (hy1.gr hL.off.1) hn;exact⟨g,o,a1,a3⟩
   obtain⟨g,o,a1,a3⟩:=rd hL;refine hR _ _ _ _ _ _ _ (l9 (M7 (by omega)) ?_);refine K5 (fun j=>∀u' lp' ld' yp' yd' Y3,Ls2 V' Y3 bt C u' B lp' yp' ld' yd'->u'.A=s.A->u'.full=false->lp'.length<=i+1->ld'.length<=i+1->(∀n∈lp',n.size<=100000)->(∀n∈ld',n.size<=100000)->TS.sift C.nm C.gb (nm'.drop (i+1)) u' lp' ld'=S->j (gp bt) ⟨⟨ge⟩⟩ y' yp' yd' (i:Int) Y3) ?_ ?_
   ·intro u' lp' ld' yp' yd' Y3 c1 c2 c3 c4 c5 c6 c7 c8;rw[mu];exact ih (i+1) u' lp' ld' yp' yd' Y3 (by omega) c1 c2 c3 c4 c5 c6 c7 c8
   intro j hj;rw[a1];refine j0 (D0 ⟨by omega,by omega⟩ (C6 a3 ?_));refine l5 (bh5 hL.tool hIu sk hN n true ?_);intro Y3 g3;have L3:=hL.gr g3;have hd:cq2 u.A C.gb n true=u.A.dirB C.gb n:=rfl;rw[hd];refine H2 ?_;cases im:u.A.dirB C.gb n with
   |true =>
    rw[im,d8 rfl]at he;obtain⟨g',o',b1,b3⟩:=rd L3;rw[a1]at b1;injection b1 with b1;injection b1 with q1 q2
    subst q1;subst q2;refine l9 rfl (j0 (D0 ⟨by omega,by omega⟩ (C6 b3 ?_)));refine L3.swap.push (by omega) n ?_;intro y1 Y4 L4;refine hj u lp (ld++[n]) yp y1 Y4 L4.swap hA sg (by omega) (by rw[P3,ai1];omega) qu ?_ he;intro m hm;rcases Q4.1 hm with h|h
    ·exact xf m h
    ·rw[T9]at h;subst h;exact ix
   |false =>
    rw[im,d7 (by simp)]at he;refine l7 rfl (j0 (E9 (f0 L3.tool.cell) (j0 (C6 (f0 L3.tool.cell) ?_))));obtain⟨g',o',b1,b3⟩:=rd L3;rw[a1]at b1;injection b1 with b1;injection b1 with q1 q2
    subst q1;subst q2;refine j0 (D0 ⟨by omega,by omega⟩ (C6 b3 ?_));obtain⟨B0,⟨M,hM,_⟩,_⟩:=L3.tool.fs;refine l5 (aj9 hIu sk hN hM _ _ _ ?_);intro Y4 Lk g4
    (refine l6 rfl ?_;try dsimp only)
    refine A5 ?_;intro b8 Y5 g5 e5 n5;refine C1 e5 W5 ?_;intro Y6 p6;have g6:=g4.trans (g5.putF p6 n5);have L6:=L3.gr g6;clear p6 e5;have yy:Er (if(u.A.stat C.gb n true).1==0 then(u.A.stat C.gb n true).1 else(u.A.stat C.gb n false).1):=W3 (ad7 _ _ _) (ad7 _ _ _);have Gn:(if(u.A.stat C.gb n true).1==0 then(u.A.stat C.gb n true).1 else(u.A.stat C.gb n false).1)≠10:=by
     split
     ·exact aG5 _ _ _
     ·exact aG5 _ _ _
    generalize hE:(if(u.A.stat C.gb n true).1==0 then(u.A.stat C.gb n true).1 else(u.A.stat C.gb n false).1)=E at he yy Gn;refine K5 (fun j'=>∀Y7,Ls2 V' Y7 bt C u B lp yp ld yd->j' (gp bt) ⟨⟨ge⟩⟩ y' yp yd (i:Int) E Y7) ?_ ?_
    ·intro Y7 L7;obtain⟨g',o',b1,b3⟩:=rd L7;rw[a1]at b1;injection b1 with b1;injection b1 with q1 q2
     subst q1;subst q2;rw[a1];refine j0 (D0 ⟨by omega,by omega⟩ (C6 b3 ?_));have qv:u.err.size<=1000000000000:=by
      have h1:=(at9 C.nm C.gb (nm'.drop (i+1)) (u.fail C.nm n E) (if E==0 then lp++[n]else lp) ld).2.1;rw[he]at h1;exact C7 (Q6 C.nm u n E) (C7 h1 hzS)
     refine l5 (X5 L7.tool n yy il (by omega) qv ?_);intro Y8 t8 s8;have L8:=L7.say t8 s8;have hA8:(u.fail C.nm n E).A=s.A:=by rw[N7];exact hA
     have hf8:(u.fail C.nm n E).full=false:=by rw[aZ7 Gn];exact sg
     refine H2 ?_;rw[bi2];cases hE0:E==0 with
     |true =>
      rw[hE0,d8 rfl]at he;have rd8:m8 g (o+i*1) Y8=some (.s n):=by
       obtain⟨g',o',b1,_,b3⟩:=Z8 (hy1.gr L8.off.1) hn;rw[a1]at b1;injection b1 with b1;injection b1 with q1 q2
       subst q1;subst q2;exact b3
      refine l9 rfl ?_;refine j0 (D0 ⟨by omega,by omega⟩ (C6 rd8 ?_));refine L8.push (by omega) n ?_;intro y1 Y9 L9;refine hj _ (lp++[n]) ld y1 yd Y9 L9 hA8 hf8 (by rw[P3,ai1];omega) (by omega) ?_ xf he;intro m hm;rcases Q4.1 hm with h|h
      ·exact qu m h
      ·rw[T9]at h;subst h;exact ix
     |false =>
      rw[hE0,d7 (by simp)]at he;exact l7 rfl (hj _ lp ld yp yd Y8 L8 hA8 hf8 (by omega) (by omega) qu xf he)
    ·intro j' ip;cases h0:(u.A.stat C.gb n true).1==0 with
     |true =>
      rw[h0,d8 rfl]at hE;rw[<-hE]at ip;exact l7 (by rw[bne,h0];rfl) (ip Y6 L6)
     |false =>
      rw[h0,d7 (by simp)]at hE;refine l9 (by rw[bne,h0];rfl) (j0 (E9 (f0 L6.tool.cell) (j0 (C6 (f0 L6.tool.cell) ?_))));obtain⟨g',o',b1,b3⟩:=rd L6;rw[a1]at b1;injection b1 with b1;injection b1 with q1 q2
      subst q1;subst q2;refine j0 (D0 ⟨by omega,by omega⟩ (C6 b3 ?_));obtain⟨B0,⟨M6,ov,_⟩,_⟩:=L6.tool.fs;refine l5 (aj9 hIu sk hN ov _ _ _ ?_);intro Y7 Lk7 g7
      (refine l6 rfl ?_;try dsimp only)
      rw[hE];exact ip Y7 (L6.gr g7)
 exact key nm'.length 0 s [] [] ⟨none,0,0⟩ ⟨none,0,0⟩ Y1 (by omega) ⟨t1,O1,E0.nil _ _ _,E0.nil _ _ _,(fun g hg=>by cases hg),(fun g hg=>by cases hg),(fun g hg=>by cases hg)⟩ rfl hf (A7 _) (A7 _) (fun n hn=>by cases hn) (fun n hn=>by cases hn) hS
end
end
section
theorem bS7(lt l:List J3)(r:List d9)(ge:d9):ab3 ⟨⟨lt⟩⟩ (⟨⟨l⟩⟩::r) ge=if E8 ⟨⟨l⟩⟩ (bs [45,45]) then some (ge,r)else if Nat.ble l.length 1 || !C8 45 ⟨⟨l⟩⟩then some (ge,⟨⟨l⟩⟩::r)else if(l.drop 1).all (I8 ⟨⟨lt⟩⟩)then ab3 ⟨⟨lt⟩⟩ r (ge++⟨⟨l.drop 1⟩⟩)else none:=rfl
attribute [local irreducible] i9 E3 A0 I9 l8 H0 C0 stW muW biW W7 imW J0 G8 app E2 J1 D3 E6 oW P0 J5 C9 rfW N5 M9 D5 exW I2 Gr P1
section
variable {Y V:H} {args:List d9} {x:Sl}
theorem bs2(ha:af8 V args x)(hg:Gr V Y)(lt:List J3)(iw:lt.length<=100){K:KH}
 (kg:ab3 ⟨⟨lt⟩⟩ args gq=none->∀ge,ge.size<=1000000->K (.t [.s ge,.slice none 0 0,.bool false]) Y)
 (Cm:args.length<=900) (lf:∀ge gd y,ab3 ⟨⟨lt⟩⟩ args gq=some (ge,gd)->af8 V gd y->ge.size<=1000000->K (.t [.s ge,.slice y.base y.len y.cap,.bool true]) Y) :
 i7 33 [.slice x.base x.len x.cap,.s ⟨⟨lt⟩⟩] K Y:=by
 refine c33 _ _ ?_;unfold g33;have kb:=ad9 ha.rows;have ib:=ha.len;have sub:∀i,i<=args.length->af8 V (args.drop i) ⟨N6 x.base i x.cap 1,x.len-i,x.cap-i⟩:=by
  intro i hi;have:=ha.rows.sub ha.cap (k:=i) (e:=args.length) (by omega) (by rw[Z7];exact A7 _) (x.cap-i);rw[Q1 (by rw[Z7];exact A7 _)]at this;have uv:=ha.cap;refine⟨?_,by show x.len-i<=x.cap-i;omega,fun a h=>ha.sz a (List.mem_of_mem_drop h),by rw[X1];omega⟩;rw[kb];have e:(u0 args).drop i=u0 (args.drop i):=by unfold u0;rw[List.map_drop]
  rw[<-e];exact this
 refine H9 ?_;intro R hR;have key:∀ (k i:Nat) (ge:d9),k+i=args.length->ab3 ⟨⟨lt⟩⟩ (args.drop i) ge=ab3 ⟨⟨lt⟩⟩ args gq->ge.size<=i*1000->R x ⟨⟨lt⟩⟩ ge (i:Int) Y:=by
  intro k
  induction k with
  |zero =>
   intro i ge hk ho hz;refine hR _ _ _ _ _ (l7 (W4 (by omega)) ?_);rw[M3 (by omega)]at ho;exact lf ge [] ⟨none,0,0⟩ ho.symm ⟨⟨rfl,.inl rfl⟩,A7 _,(fun a h=>by cases h),Nat.zero_le _⟩ (by omega)
  |succ k ih =>
   intro i ge hk ho hz;obtain⟨a,hn⟩:∃a,args[i]?=some a:=⟨_,G0 (by omega)⟩;obtain⟨g,o,a1,a2,a3⟩:=Z8 (ha.rows.gr hg) hn;have haz:=ha.sz a (K7 hn);rw[S9 hn]at ho;obtain⟨⟨l⟩⟩:=a;have hlz:l.length<=1000:=haz;rw[bS7]at ho;have mu:IntKind.i64.wrap ((i:Int)+1)=((i+1:Nat):Int):=by rw[D7 (by omega) (by omega)];omega
   refine hR _ _ _ _ _ (l9 (M7 (by omega)) ?_);rw[a1];refine j0 (D0 ⟨by omega,by omega⟩ (C6 a3 ?_));rw[<-I5];cases h2:E8 ⟨⟨l⟩⟩ (bs [45,45]) with
   |true =>
    rw[h2,d8 rfl]at ho;have hs:=sub (i+1) (by omega);have uv:=ha.cap;refine l9 rfl ?_;rw[mu,P5];have a1':=a1;rw[<-a1];exact D0 ⟨M8,J2 (by omega) (by omega)⟩ (lf ge _ _ ho.symm hs (by omega))
   |false =>
   rw[h2,d7 (by simp)]at ho;refine l7 rfl ?_;refine K5 (fun j=>∀t:Bool,t=(Nat.ble l.length 1 || !C8 45 ⟨⟨l⟩⟩)->j x ⟨⟨lt⟩⟩ ge (i:Int) ⟨⟨l⟩⟩ t Y) ?_ ?_
   ·intro t ht;rw[<-ht]at ho;cases t with
    |true =>
     rw[d8 rfl]at ho;have hs:=sub i (by omega);rw[S9 hn]at hs;have uv:=ha.cap;refine l9 rfl ?_;rw[P5];exact D0 ⟨M8,J2 (by omega) (by omega)⟩ (lf ge _ _ ho.symm hs (by omega))
    |false =>
     rw[d7 (by simp)]at ho;have Do:=(Bool.or_eq_false_iff.1 ht.symm).1;have vf:2<=l.length:=by
      apply Classical.byContradiction;intro hc;rw[show Nat.ble l.length 1=true from by rw[Nat.ble_eq];omega]at Do;cases Do
     refine l7 rfl (H9 ?_);intro R2 mo;have key2:∀ (m k2:Nat),m+k2=l.length->1<=k2->((l.drop 1).take (k2-1)).all (I8 ⟨⟨lt⟩⟩)=true->R2 x ⟨⟨lt⟩⟩ (ge++⟨⟨(l.drop 1).take (k2-1)⟩⟩) (i:Int) ⟨⟨l⟩⟩ (k2:Int) Y:=by
      intro m
      induction m with
      |zero =>
       intro k2 hm h1 iq;have he:(l.drop 1).take (k2-1)=l.drop 1:=Q1 (by rw[X1];omega);rw[he]at iq⊢;rw[iq,d8 rfl]at ho;refine mo _ _ _ _ _ _ _ (l7 (by rw[bsz];exact W4) ?_);rw[mu];refine ih (i+1) _ (by omega) ho ?_;have xf:(⟨⟨l.drop 1⟩⟩:d9).size=l.length-1:=by rw[bsz,X1]
       rw[D8];omega
      |succ m ihm =>
       intro k2 hm h1 iq;obtain⟨c,hc⟩:∃c,l[k2]?=some c:=⟨_,G0 (by omega)⟩;have Ae:IntKind.i64.wrap ((k2:Int)+1)=((k2+1:Nat):Int):=by rw[D7 (by omega) (by omega)];omega
       have pf:(l.drop 1)[k2-1]?=some c:=by rw[List.getElem?_drop];rw[show 1+(k2-1)=k2 from by omega];exact hc
       have qt:(l.drop 1).take (k2+1-1)=(l.drop 1).take (k2-1)++[c]:=by
        rw[show k2+1-1=(k2-1)+1 from by omega,R1,pf];rfl
       refine mo _ _ _ _ _ _ _ (l9 (by rw[bsz];exact M7) (X9 (c:=c) (by omega) (by simpa using hc) ?_));refine l5 (ao4 lt c (by omega) (H2 ?_));cases hh:I8 ⟨⟨lt⟩⟩ c with
       |false =>
        have hf:(l.drop 1).all (I8 ⟨⟨lt⟩⟩)=false:=by
         rw[<-Bool.not_eq_true,X2];intro h;have:=h c (K7 pf);rw[hh]at this;cases this
        rw[hf,d7 (by simp)]at ho;refine l9 rfl (kg ho.symm _ ?_);have xf:(⟨⟨(l.drop 1).take (k2-1)⟩⟩:d9).size<=l.length:=by rw[bsz,P4,X1];omega
        rw[D8];omega
       |true =>
        refine l7 rfl ?_;rw[Ae,P5,P5,bex];have sb:(l.take (k2+1)).drop k2=[c]:=by
         rw[R1,hc];rw[List.drop_append_of_le_length (by rw[P4];omega),M3 (by rw[P4];omega)];rfl
        rw[sb]
        refine D0 ⟨J2 (by omega) (by rw[bsz];omega),J2 (by omega) (by omega)⟩ (D0 (by
         have xf:(⟨⟨(l.drop 1).take (k2-1)⟩⟩:d9).size<=l.length:=by rw[bsz,P4,X1];omega
         have hcz:(⟨⟨[c]⟩⟩:d9).size=1:=rfl;rw[D8]
         omega) ?_)
        have e:(ge++⟨⟨(l.drop 1).take (k2-1)⟩⟩)++(⟨⟨[c]⟩⟩:d9)=ge++⟨⟨(l.drop 1).take (k2+1-1)⟩⟩:=by
         rw[qt];exact W9 (by simp only[al9];simp)
        rw[e];refine ihm (k2+1) (by omega) (by omega) ?_;rw[qt,List.all_append,iq];simp[hh]
     have h0:=key2 (l.length-1) 1 (by omega) (by decide) rfl;have e0:ge++(⟨⟨(l.drop 1).take (1-1)⟩⟩:d9)=ge:=W9 (by rw[al9];simp);rw[e0]at h0;exact h0
   ·intro j hj;rw[bsz];by_cases ln:l.length<2
    ·refine l9 (M7 (by omega)) (hj true ?_);rw[show Nat.ble l.length 1=true from by rw[Nat.ble_eq];omega];rfl
    ·refine l7 (W4 (by omega)) ?_;cases l with
     |nil=>simp at ln
     |cons c r =>
      refine X9 (c:=c) (by decide) rfl (hj _ ?_);rw[show Nat.ble (c::r).length 1=false from by rw[<-Bool.not_eq_true,Nat.ble_eq];omega,R0];show(!((((c.toNat:Nat):Int):Int)==45))=!(c==45);rw[show((((c.toNat:Nat):Int):Int)==45)=(c==45)from u8b c 45]
 exact key args.length 0 gq (by omega) (by rw[ac4]) (by decide)
end
section
variable {Y:H} {bt:Nat} {C:TlC} {s:TS} {B:Nat->Prop}
theorem bS8(h:K8 Y bt C s B)(hz:C.nm.size<=1000000){K:KH}(hK:∀Y',K8 Y' bt C {s with out:=(ad4 C.nm).out,err:=(ad4 C.nm).err,st:=(ad4 C.nm).st} B->H1 Y B Y' B->K (.t []) Y') :
 i7 36 [.q bt] K Y:=by
 refine c36 _ ?_;unfold g36;refine j0 (C6 (f0 h.cell) (D0 (by show C.nm.size+8<=_;omega) (j0 ?_)));refine C1 h.cell ad0 ?_;intro Y1 p1;exact hK Y1 (h.say rfl p1) (h.sep p1)
end
end
section
theorem cq4{A:AT}{nm gb ge ii:d9}{r:List d9}(h:E8 nm (bs [99,104,109,111,100])=true):doP A nm gb ge (ii::r)=TS.each nm (fun t n=>onA t (t.A.chmodP gb ii n)) r (TS.new A):=by
 rw[J9.1 h];exact ch2 A gb ge ii r
theorem cC8{A:AT}{nm gb ge gk:d9}{r:List d9}(h:E8 nm (bs [108,110])=true):doP A nm gb ge (gk::r)=TS.each nm (fun t n=>onA t (t.A.lnP gb ge gk n)) r (TS.new A):=by
 rw[J9.1 h];exact ct6 A gb ge gk r
theorem cC9{A:AT}{nm gb ge:d9}{gd:List d9}(h:E8 nm (bs [108,115])=true):doP A nm gb ge gd=TS.ls nm gb ge gd (TS.new A):=by
 rw[J9.1 h];exact ca5 A gb ge gd
def do2(nm gb ge:d9)(t:TS)(a b:d9):Int×TS:=if E8 nm (bs [109,118]) then onA t (t.A.renameF gb a b)else TS.cp nm gb ge FU t a b
theorem ci3{A:AT}{nm gb ge:d9}{gd:List d9}(h:E8 nm (bs [109,118])=true\/E8 nm (bs [99,112])=true):doP A nm gb ge gd=TS.into nm gb (do2 nm gb ge) gd (TS.new A):=by
 rcases h with h|h
 ·rw[J9.1 h];exact ca3 A gb ge gd
 ·rw[J9.1 h];exact ca4 A gb ge gd
theorem ci4{A:AT}{C:TlC}{ge:d9}{gd:List d9}(h:E8 C.nm (bs [109,107,100,105,114])=true\/E8 C.nm (bs [114,109,100,105,114])=true\/E8 C.nm (bs [116,111,117,99,104])=true\/E8 C.nm (bs [114,109])=true):doP A C.nm C.gb ge gd=TS.each C.nm (ab4 C ge) gd (TS.new A):=by
 obtain⟨nm,inn,gb,x,bf⟩:=C;simp only at h⊢;rcases h with h|h|h|h
 ·have:=J9.1 h;subst this;exact ca1 A gb ge gd
 ·have:=J9.1 h;subst this;exact bm4 A gb ge gd
 ·have:=J9.1 h;subst this;exact ch1 A gb ge gd
 ·have:=J9.1 h;subst this;exact ca2 A gb ge gd
attribute [local irreducible] i9 E3 A0 I9 l8 H0 C0 stW muW biW W7 imW J0 G8 app E2 J1 D3 E6 oW P0 J5 C9 rfW N5 M9 D5 exW I2 Gr P1
section
variable {Y V:H} {bf:Nat} {A:AT} {B:Nat->Prop}
theorem bh7{bt:Nat}{C:TlC}{s:TS}{gd:List d9}{y:Sl}{N:Nat}(h:K8 Y bt C s B)(hy:F0 Y 1 (u0 gd) y)(hI:Inv s.A)(hB:Bd N s.A)(hN:N<=100000000){tq:d9}(hto:gd.getLast?=some tq)(hl:gd.length<=1000000)(kc:∀n∈gd,n.size<=1000000){K:KH}
 (hK:∀ (b:Bool) (tl:List d9) y' Y',Q8 Y Y' 9 1 (u0 tl) y'->b=(s.A.dirB C.gb tq||gd.length==2)->(b=true->tl.length=gd.dropLast.length/\∀ (i:Nat) (n:d9),gd.dropLast[i]?=some n->tl[i]?=some (if s.A.dirB C.gb tq then H8 tq (ah6 n)else tq))->K (.t [.slice y'.base y'.len y'.cap,.bool b]) Y') :
 i7 40 [.q bt,.slice y.base y.len y.cap] K Y:=by
 refine br9 h hy hI hB hN hto hl kc (fun hd y' Y' n1=>?_) (fun hd y' Y' n1=>?_)
 ·refine hK _ [tq] y' Y' n1 (by rw[hd,R0]) fun hb=>?_;have vf:gd.length=2:=by simpa using hb
  have rc:gd.dropLast.length=1:=by rw[List.length_dropLast];omega
  refine⟨by rw[rc];rfl,fun i n hn=>?_⟩;obtain⟨hi,_⟩:=List.getElem?_eq_some_iff.1 hn;rw[hd,d7 (by simp)];have:i=0:=by omega
  subst this;rfl
 ·refine hK true _ y' Y' n1 (by rw[hd,Bool.true_or]) fun _=>⟨by rw[Q0],fun i n hn=>?_⟩;rw[hd,d8 rfl,Z6,hn];rfl
theorem cq5{N:Nat}(hF:Z2 Y bf A B)(hO:Off V Y B)(nm inn0 gb:d9){x:Sl}{args:List d9}(ha:af8 V args x)(hI:Inv A)(jm:Bd N A)(hN:N<=500)(hq:A.qi<=40)(Cm:args.length<=6)(qn:∀a∈args,a.size<=40){K:KH}
 (kg:A.filesP gb nm args=none->∀Y',Gr Y Y'->K (.t [.agg ⟨dnF ⟨gq,gq,0⟩⟩,.bool false]) Y')
 (lf:∀d A',A.filesP gb nm args=some (d,A')->∀Y' B',Z2 Y' bf A' B'->H1 Y B Y' B'->K (.t [.agg ⟨dnF d⟩,.bool true]) Y') :
 i7 7 [.q bf,.g [.s nm,.slice x.base x.len x.cap,.s inn0,.s gb]] K Y:=by
 refine c7 _ _ _ _ _ ?_;unfold g7;refine A5 ?_;intro b6 Y1 g1 e1 n1;refine A5 ?_;intro b7 Y2 g2 e2 n2;have f7:Y b7=none:=A9 g1 n2;refine N8 (D4 (g2.get e1)) ?_
 (refine l6 rfl ?_;try dsimp only)
 refine A5 ?_;intro b12 Y3 g3 e3 n3;have f12:Y b12=none:=A9 (g1.trans g2) n3;have nB12:¬B b12:=hF.fresh f12;have G3:Gr Y Y3:=(g1.trans g2).trans g3;have q6:=g3.get (g2.get e1);have q7:=g3.get e2;have t3:K8 Y3 b12 ⟨nm,inn0,gb,x,bf⟩ (TS.new A) (fun b=>B b\/b=b12):=⟨B,e3,hF.gr G3,nB12,fun b=>Iff.rfl⟩;have n6:¬ (B b6\/b6=b12):=by
  rintro (e|e)
  ·exact hF.fresh n1 e
  ·rw[<-e,g2.get e1]at n3;cases n3
 have n7:¬ (B b7\/b7=b12):=by
  rintro (e|e)
  ·exact hF.fresh f7 e
  ·rw[<-e,e2]at n3;cases n3
 obtain⟨V3,O3,hO3⟩:=aB3 Y3 (fun b=>B b\/b=b12)
 have Gτ:Gr V V3:=ac6 fun c o hc=>hO3 c o (G3.get (hO.get hc)) (by
  rintro (e|e)
  ·exact hO.2 c o hc e
  ·have:=hO.get hc
   rw[e,f12]at this;cases this)
 have Cp:af8 V3 args x:=⟨ha.rows.gr Gτ,ha.cap,ha.sz,ha.len⟩;have hax:af8 Y3 args x:=⟨Cp.rows.gr O3.1,ha.cap,ha.sz,ha.len⟩;have w6:=hO3 b6 _ q6 n6;have w7:=hO3 b7 _ q7 n7;have back:∀ {Y' B' B0},H1 Y3 (fun b=>B b\/b=b12) Y' B'->(∀b,B' b↔(B0 b\/b=b12))->H1 Y B Y' B0:=by
  intro Y' B' B0 hs hb c o pf iy
  obtain⟨r1,r2⟩:=hs c o (G3.get pf) (by
   rintro (e|e)
   ·exact iy e
   ·rw[e,f12]at pf;cases pf)
  exact⟨r1,fun e=>r2 ((hb c).2 (.inl e))⟩
 have kb:=ad9 Cp.rows;clear e1 e2 e3
 -- the end
 have tail:∀ (T:TS) Y' B',K8 Y' b12 ⟨nm,inn0,gb,x,bf⟩ T B'->H1 Y3 (fun b=>B b\/b=b12) Y' B'->A.filesP gb nm args=some (⟨T.out,T.err,T.st⟩,T.A) ->
  i9 (gp b12) (fun(b62 o63:Nat)=>l8 (rdA 3 b62 (o63+5)) (.one (.agg [.str,.str,(.int .i64)])) (fun(x64:d9) (x65:d9) (x66:Int)=>A3 35 (.q b7) (.g [.s x64,.s x65,.i x66]) (i9 (gp b7) (fun(b67 o68:Nat)=>l8 (rdA 3 b67 o68) (.one (.agg [.str,.str,(.int .i64)])) (fun(r69:d9) (r70:d9) (r71:Int)=>K (.t [.g [.s r69,.s r70,.i r71],.bool true])))))) Y':=by
  intro T Y' B' t' s' he;have O':=O3.sep s';refine j0 (N8 (D4 t'.cell) ?_)
  (refine l6 rfl ?_;try dsimp only)
  refine C1 (O'.get w7) ad0 ?_;intro Y8 p8;refine j0 (N8 (D4 p8.same) ?_)
  (refine l6 rfl ?_;try dsimp only)
  obtain⟨B0,a1,a2,a3,a4⟩:=t';exact lf _ _ he Y8 B0 (a2.put p8 (fun e=>O'.2 b7 _ w7 ((a4 b7).2 (.inl e)))) ((back s' a4).putF p8 f7)
 refine K5 (fun j=>∀lt least,lt=S0 nm->least=aJ7 nm->ab7.any (fun t=>E8 nm t)=true->j (gp bf) (gp b6) (gp b7) (gp b12) lt least Y3) ?_ ?_
 case refine_2 =>
  intro j hj;refine C6 (f0 q6) ?_;simp only[<-I5];unfold S0 aJ7 ab7 at hj;simp only[List.any_cons,List.any_nil,U0]at hj;cases h1:E8 nm (bs [109,107,100,105,114]) with
  |true =>
   refine l9 rfl (hj _ _ ?_ ?_ ?_)
   ·rw[h1,d8 rfl]
   ·rw[N3 h1 (b:=(bs [99,104,109,111,100])) (by decide),N3 h1 (b:=(bs [108,110])) (by decide),N3 h1 (b:=(bs [109,118])) (by decide),N3 h1 (b:=(bs [99,112])) (by decide),N3 h1 (b:=(bs [108,115])) (by decide)];rfl
   ·rw[h1];rfl
  |false =>
  rw[h1]at hj;refine l7 rfl ?_;refine K5 (fun j'=>∀t:Bool,t=(E8 nm (bs [114,109,100,105,114])||E8 nm (bs [116,111,117,99,104]))->j' (gp bf) (gp b6) (gp b7) (gp b12) gq 1 nm t Y3) ?_ ?_
  case refine_2 =>
   intro j' ip;cases h2:E8 nm (bs [114,109,100,105,114]) with
   |true=>exact l9 rfl (ip _ (by rw[h2];rfl))
   |false=>exact l7 rfl (ip _ (by rw[h2];rfl))
  intro t ht;have js:∀b:d9,(E8 nm (bs [114,109,100,105,114])||E8 nm (bs [116,111,117,99,104]))=true->E8 (bs [114,109,100,105,114]) b=false->E8 (bs [116,111,117,99,104]) b=false->E8 nm b=false:=by
   intro b h si tp;rcases Bool.or_eq_true_iff.1 h with h|h
   ·exact N3 h si
   ·exact N3 h tp
  cases t with
  |true =>
   have ht:=ht.symm;refine l9 rfl (hj _ _ ?_ ?_ ?_)
   ·rw[js (bs [108,110]) ht (by decide) (by decide),js (bs [114,109]) ht (by decide) (by decide),js (bs [109,118]) ht (by decide) (by decide),js (bs [99,112]) ht (by decide) (by decide),js (bs [108,115]) ht (by decide) (by decide)];rfl
   ·rw[js (bs [99,104,109,111,100]) ht (by decide) (by decide),js (bs [108,110]) ht (by decide) (by decide),js (bs [109,118]) ht (by decide) (by decide),js (bs [99,112]) ht (by decide) (by decide),js (bs [108,115]) ht (by decide) (by decide)];rfl
   ·rcases Bool.or_eq_true_iff.1 ht with h|h<;>rw[h]<;>simp
  |false =>
  obtain⟨h2,h3⟩:=Bool.or_eq_false_iff.1 ht.symm;rw[h2,h3]at hj;refine l7 rfl ?_;cases h4:E8 nm (bs [99,104,109,111,100]) with
  |true =>
   refine l9 rfl (hj _ _ ?_ ?_ ?_)
   ·rw[N3 h4 (b:=(bs [108,110])) (by decide),N3 h4 (b:=(bs [114,109])) (by decide),N3 h4 (b:=(bs [109,118])) (by decide),N3 h4 (b:=(bs [99,112])) (by decide),N3 h4 (b:=(bs [108,115])) (by decide)];rfl
   ·rw[h4];rfl
   ·rw[h4];rfl
  |false =>
  rw[h4]at hj;refine l7 rfl ?_;cases h5:E8 nm (bs [108,110]) with
  |true=>rw[h5]at hj;exact l9 rfl (hj _ _ rfl rfl rfl)
  |false =>
  rw[h5]at hj;refine l7 rfl ?_;cases h6:E8 nm (bs [114,109]) with
  |true =>
   rw[N3 h6 (b:=(bs [109,118])) (by decide),N3 h6 (b:=(bs [99,112])) (by decide),N3 h6 (b:=(bs [108,115])) (by decide),h6]at hj;exact l9 rfl (hj _ _ rfl rfl rfl)
  |false =>
  rw[h6]at hj;refine l7 rfl ?_;cases h7:E8 nm (bs [109,118]) with
  |true=>rw[h7]at hj;exact l9 rfl (hj _ _ rfl rfl rfl)
  |false =>
  rw[h7]at hj;refine l7 rfl ?_;cases h8:E8 nm (bs [99,112]) with
  |true=>rw[h8]at hj;exact l9 rfl (hj _ _ rfl rfl rfl)
  |false =>
  rw[h8]at hj;refine l7 rfl ?_;cases h9:E8 nm (bs [108,115]) with
  |true=>rw[h9]at hj;exact l9 rfl (hj _ _ rfl rfl rfl)
  |false =>
   have Gp:A.filesP gb nm args=none:=by
    unfold AT.filesP;rw[d7];unfold ab7;simp only[List.any_cons,List.any_nil,U0,h1,h2,h3,h4,h5,h6,h7,h8,h9]
    decide
   refine l7 rfl ?_;refine C1 q7 ad0 ?_;intro Y8 p8;refine j0 (N8 (D4 p8.same) ?_)
   (refine l6 rfl ?_;try dsimp only)
   exact kg Gp Y8 (G3.putF p8 f7)
 intro lt least iw Cq ly;have hn:nm.size<=1000000:=by have:=aS1 ly;omega
 have An:=aJ8 (A:=A) (gb:=gb) (args:=args) ly;refine j0 (ag1 (y:=x) (f0 q6) ?_);refine K5 (fun j=>∀ge y (ok:Bool),ge.size<=1000000->(ok=false->A.filesP gb nm args=some (ad4 nm,A))->(ok=true->∃gd,(if(E8 nm (bs [99,104,109,111,100])&&E8 (args.head?.getD gq) (bs [45,120]))then some (gq,args)else ab3 (S0 nm) args gq)=some (ge,gd)/\af8 V3 gd y/\ge.size<=1000000/\gd.length<=6/\∀n∈gd,n.size<=40)->j (gp bf) (gp b6) (gp b7) (gp b12) least ge y ok Y3) ?_ ?_
 case refine_2 =>
  intro j hj;refine K5 (fun j'=>∀t:Bool,t=!(E8 nm (bs [99,104,109,111,100])&&E8 (args.head?.getD gq) (bs [45,120]))->j' (gp bf) (gp b6) (gp b7) (gp b12) lt least x gq x true t Y3) ?_ ?_
  ·intro t ht;cases t with
   |false =>
    have ht:(E8 nm (bs [99,104,109,111,100])&&E8 (args.head?.getD gq) (bs [45,120]))=true:=by
     cases hh:(E8 nm (bs [99,104,109,111,100])&&E8 (args.head?.getD gq) (bs [45,120])) with
     |true=>rfl
     |false=>rw[hh]at ht;cases ht
    rw[ht,d8 rfl]at hj;exact l7 rfl (hj gq x true (by decide) (fun e=>by cases e) (fun _=>⟨args,rfl,Cp,by decide,Cm,qn⟩))
   |true =>
    have ht:(E8 nm (bs [99,104,109,111,100])&&E8 (args.head?.getD gq) (bs [45,120]))=false:=by
     cases hh:(E8 nm (bs [99,104,109,111,100])&&E8 (args.head?.getD gq) (bs [45,120])) with
     |false=>rfl
     |true=>rw[hh]at ht;cases ht
    rw[ht,d7 (by simp)]at hj An;refine l9 rfl ?_;rw[iw];obtain⟨ln,vf⟩:=aU5 nm;generalize hltp:S0 nm=ltp at hj An ln⊢;obtain⟨⟨lt'⟩⟩:=ltp
    -- the rows lie off what changes
    refine l5 (bs2 Cp O3.1 lt' ln ?_ (by omega) ?_)
    ·intro ho ge Am
     (refine l6 rfl ?_;try dsimp only)
     refine hj ge ⟨none,0,0⟩ false Am (fun _=>by rw[An,ho]) (fun e=>by cases e)
    ·intro ge gd y ho qa Am
     (refine l6 rfl ?_;try dsimp only)
     obtain⟨m1,m2⟩:=ag3 _ _ _ _ _ ho;exact hj ge y true Am (fun e=>by cases e) (fun _=>⟨gd,ho,qa,Am,by omega,fun n hn=>qn n (m1 n hn)⟩)
  ·intro j' ip;refine j0 (C6 (f0 q6) ?_);rw[<-I5];cases h4:E8 nm (bs [99,104,109,111,100]) with
   |false=>exact l9 rfl (ip true (by rw[h4];rfl))
   |true =>
    refine l7 rfl ?_;cases args with
    |nil =>
     have hx0:x.len=0:=kb;rw[hx0];refine l9 rfl (ip true ?_);show true=!(E8 nm (bs [99,104,109,111,100])&&E8 gq (bs [45,120]));rw[show E8 gq (bs [45,120])=false from by decide,Bool.and_false];rfl
    |cons a0 r =>
     rw[H4]at kb;obtain⟨g,o,a1,a2,a3⟩:=Z8 hax.rows (i:=0) (s:=a0) rfl;refine l7 (by simp only[X0];omega) ?_;rw[a1];refine j0 (D0 ⟨by decide,by omega⟩ (C6 (by simpa using a3) ?_));rw[<-I5];exact ip _ (by rw[h4];rfl)
 intro ge y ok Am Gq Gs;obtain⟨⟨gl⟩⟩:=ge;have po:gl.length<=1000000:=Am;refine K5 (fun j=>∀least',(ok=true->least'=as2 nm ⟨⟨gl⟩⟩)->j (gp bf) (gp b6) (gp b7) (gp b12) least' ⟨⟨gl⟩⟩ y ok Y3) ?_ ?_
 case refine_2 =>
  intro j hj;refine K5 (fun j'=>∀t:Bool,t=(E8 nm (bs [114,109])&&I8 ⟨⟨gl⟩⟩ 102)->j' (gp bf) (gp b6) (gp b7) (gp b12) least ⟨⟨gl⟩⟩ y ok t Y3) ?_ ?_
  ·intro t ht;unfold as2 at hj;rw[<-ht]at hj;cases t with
   |true=>exact l9 rfl (hj 0 fun _=>rfl)
   |false=>exact l7 rfl (hj least fun _=>Cq)
  ·intro j' ip;refine j0 (C6 (f0 q6) ?_);rw[<-I5];cases h:E8 nm (bs [114,109]) with
   |true=>exact l9 rfl (l5 (ao4 gl 102 po (H2 (ip _ (by rw[h];rfl)))))
   |false=>exact l7 rfl (ip false (by rw[h];rfl))
 intro least' vk;refine K5 (fun j=>∀b:Bool,(b=true->A.filesP gb nm args=some (ad4 nm,A))->(b=false->∃gd,L0 nm ⟨⟨gl⟩⟩ gd=true/\A.filesP gb nm args=some (⟨(doP A nm gb ⟨⟨gl⟩⟩ gd).out,(doP A nm gb ⟨⟨gl⟩⟩ gd).err,(doP A nm gb ⟨⟨gl⟩⟩ gd).st⟩,(doP A nm gb ⟨⟨gl⟩⟩ gd).A)/\af8 V3 gd y/\gd.length<=6/\∀n∈gd,n.size<=40)->j (gp bf) (gp b6) (gp b7) (gp b12) ⟨⟨gl⟩⟩ y b Y3) ?_ ?_
 case refine_2 =>
  intro j hj;cases ok with
  |false=>exact l9 rfl (hj true (fun _=>Gq rfl) (fun e=>by cases e))
  |true =>
   obtain⟨gd,he,qa,_,hn6,lw⟩:=Gs rfl;have vk:=vk rfl;subst vk;have An:=aJ8 (A:=A) (gb:=gb) (args:=args) ly;rw[he]at An;simp only at An;have Dt:=bo1 nm ⟨⟨gl⟩⟩ gd;have lc:=ad9 qa.rows;have lx:∀b:Bool,b=aS5 nm ⟨⟨gl⟩⟩ gd->j (gp bf) (gp b6) (gp b7) (gp b12) ⟨⟨gl⟩⟩ y b Y3:=by
    intro b hb;refine hj b (fun e=>?_) (fun e=>?_)
    ·have hr : L0 nm ⟨⟨gl⟩⟩ gd = false := by
      rw[<-hb,e]at Dt;cases h:L0 nm ⟨⟨gl⟩⟩ gd with
      |false=>rfl
      |true=>rw[h]at Dt;cases Dt
     rw[An,hr];rfl
    ·have hr : L0 nm ⟨⟨gl⟩⟩ gd = true := by
      rw[<-hb,e]at Dt;cases h:L0 nm ⟨⟨gl⟩⟩ gd with
      |true=>rfl
      |false=>rw[h]at Dt;cases Dt
     exact⟨gd,hr,by rw[An,hr];rfl,qa,hn6,lw⟩
   clear hj;unfold aS5 at lx;refine l7 rfl ?_;rw[lc];by_cases vb:((gd.length:Nat):Int)<as2 nm ⟨⟨gl⟩⟩
   ·exact l9 (by simpa using vb) (lx true (by rw[aD8 vb,Bool.true_or]))
   rw[show decide (((gd.length:Nat):Int)<as2 nm ⟨⟨gl⟩⟩)=false from by simpa using vb,R0]at lx;refine l7 (by simpa using vb) (j0 (C6 (f0 q6) ?_))
   -- chmod's first gu
   have chm:E8 nm (bs [99,104,109,111,100])=true->∃ii r,gd=ii::r/\ii.size<=40/\∃g o,y.base=some ⟨g,o,none⟩/\m8 g (o+(0:Int).toNat*1) Y3=some (.s ii)/\(0:Int)<((gd.length:Nat):Int):=by
    intro h4;have ln:as2 nm ⟨⟨gl⟩⟩=2:=by
     unfold as2 aJ7;rw[N3 h4 (b:=(bs [114,109])) (by decide),h4];rfl
    rw[ln]at vb
    match gd,vb,qa,lw with
    |ii::r,h,qa,lw =>
     obtain⟨g,o,a1,a2,a3⟩:=Z8 (qa.rows.gr O3.1) (i:=0) (s:=ii) rfl;exact⟨ii,r,rfl,lw ii (H7 ..),g,o,a1,by simpa using a3,by rw[H4];omega⟩
   simp only[<-I5];cases h1:E8 nm (bs [108,110]) with
   |true =>
    rw[h1,N3 h1 (b:=(bs [99,104,109,111,100])) (by decide)]at lx;simp only[T8,Z5,U0]at lx;refine l9 rfl ?_;by_cases h2:gd.length=2
    ·rw[show(gd.length==2)=true from by simpa using h2]at lx;exact l7 (by simp only[bne_eq_false_iff_eq];omega) (j0 (C6 (f0 q6) (l7 (N3 h1 (by decide)) (lx false rfl))))
    ·rw[show(gd.length==2)=false from by simpa using h2]at lx;exact l9 (by simp only[bne_iff_ne];omega) (lx true rfl)
   |false =>
   rw[h1]at lx;simp only[Z5,R0]at lx;refine l7 rfl (j0 (C6 (f0 q6) ?_));cases h4:E8 nm (bs [99,104,109,111,100]) with
   |false =>
    rw[h4]at lx;exact l7 rfl (lx false rfl)
   |true =>
    obtain⟨ii,r,xg,Cf,g,o,a1,a3,h0⟩:=chm h4;subst xg;rw[h4]at lx;have hh:(ii::r).head?.getD gq=ii:=rfl;rw[hh,T8]at lx;unfold bG9 at lx;refine l9 rfl ?_;rw[a1];obtain⟨⟨hw⟩⟩:=ii;have hwl:hw.length<=40:=Cf;refine j0 (D0 ⟨by decide,h0⟩ (C6 a3 (l5 (bb6 hw (by omega) (C4 ?_)))));unfold cp5;cases ho:av2 ⟨⟨hw⟩⟩ with
    |some m =>
     have hm:0<=m:=by
      unfold av2 at ho;simp only at ho;split at ho
      ·cases ho
      ·cases ho;omega
     rw[ho]at lx;exact l7 (by simp only[K6];exact fun h=>m7 (show m<0 from h) (by omega)) (lx false rfl)
    |none =>
     rw[ho]at lx;simp only[Option.isSome_none,R0]at lx;refine l9 rfl (j0 (D0 ⟨by decide,h0⟩ (C6 a3 ?_)));cases h5:E8 ⟨⟨hw⟩⟩ (bs [43,120]) with
     |true =>
      rw[h5]at lx;exact l7 rfl (lx false rfl)
     |false =>
      rw[h5,R0]at lx;exact l9 rfl (j0 (D0 ⟨by decide,h0⟩ (C6 a3 (lx _ rfl))))
 intro b vc si;cases b with
 |true =>
  refine l9 rfl (l5 (bS8 t3 hn ?_));intro Y4 t4 s4;exact U9 (tail _ Y4 _ t4 s4 (vc rfl))
 |false =>
 obtain⟨gd,ow,pm,qa,hn6,lw⟩:=si rfl;have pi:=aj2 (ge:=⟨⟨gl⟩⟩) (gb:=gb) hI jm hN hq hn6 lw ly;clear vc si Gq Gs vk;refine l7 rfl (K5 (fun j=>∀Y' B',K8 Y' b12 ⟨nm,inn0,gb,x,bf⟩ (doP A nm gb ⟨⟨gl⟩⟩ gd) B'->H1 Y3 (fun b=>B b\/b=b12) Y' B'->j (gp b7) (gp b12) Y') (fun Y' B' t' s'=>tail _ Y' B' t' s' pm) ?_);intro j hj;clear kg lf;have lc:=ad9 qa.rows;have kv:=pi.err;have Ce:=pi.out;clear pi;refine j0 (C6 (f0 q6) ?_);simp only[<-I5];have oi:(TS.new A).full=false:=rfl;cases h4:E8 nm (bs [99,104,109,111,100]) with
 |true =>
  have ia:∃ii b r,gd=ii::b::r:=by
   rw[J9.1 h4]at ow;have hr:=ow;rw[show L0 (bs [99,104,109,111,100]) ⟨⟨gl⟩⟩ gd=_ from aK9 ⟨⟨gl⟩⟩ gd]at hr
   match gd,hr with
   |ii::b::r,_=>exact⟨ii,b,r,rfl⟩
  obtain⟨ii,b,r,xg⟩:=ia;rw[xg,cq4 h4]at kv hj;have hnr1:gd.drop 1=b::r:=by rw[xg];rfl
  rw[<-hnr1]at kv hj;have At:gd[0]?=some ii:=by rw[xg];rfl
  have Cf:=lw ii (K7 At);obtain⟨⟨hw⟩⟩:=ii;have hwl:hw.length<=40:=Cf;have mc:∀t n,t.err.size<=(onA t (t.A.chmodP gb ⟨⟨hw⟩⟩ n)).2.err.size:=fun t n=>A7 _;generalize hD:TS.each nm (fun t n=>onA t (t.A.chmodP gb ⟨⟨hw⟩⟩ n)) (gd.drop 1) (TS.new A)=D at kv hj;have qm:2<=gd.length:=by rw[xg];simp
  refine l9 rfl (H9 ?_);intro R hR;have key:∀ (k i:Nat) (u:TS) (V1:H) (B1:Nat->Prop),k+i=gd.length->K8 V1 b12 ⟨nm,inn0,gb,x,bf⟩ u B1->Off V3 V1 B1->H1 Y3 (fun b=>B b\/b=b12) V1 B1->u.full=false->Inv u.A->Bd N u.A->TS.each nm (fun t n=>onA t (t.A.chmodP gb ⟨⟨hw⟩⟩ n)) (gd.drop i) u=D->R (gp b7) (gp b12) y (i:Int) V1:=by
   intro k
   induction k with
   |zero =>
    intro i u V1 B1 hk u1 uo us uf ui ub ue;rw[M3 (by omega)]at ue;have ue:u=D:=ue;subst ue;exact hR _ _ _ _ _ (l7 (W4 (by omega)) (hj V1 B1 u1 us))
   |succ k ih =>
    intro i u V1 B1 hk u1 uo us uf ui ub ue;obtain⟨n,hn⟩:∃n,gd[i]?=some n:=⟨_,G0 (by omega)⟩;have ix:=lw n (K7 hn);rw[S9 hn,aN1 _ _ _ uf]at ue;have qv:=aG0 (nm:=nm) mc (gd.drop (i+1)) ((onA u (u.A.chmodP gb ⟨⟨hw⟩⟩ n)).2.fail nm n (onA u (u.A.chmodP gb ⟨⟨hw⟩⟩ n)).1);rw[ue]at qv;have pj:=Q6 nm (onA u (u.A.chmodP gb ⟨⟨hw⟩⟩ n)).2 n (onA u (u.A.chmodP gb ⟨⟨hw⟩⟩ n)).1;have mu:IntKind.i64.wrap ((i:Int)+1)=((i+1:Nat):Int):=by rw[D7 (by omega) (by omega)];omega
    obtain⟨g,o,a1,a2,a3⟩:=Z8 (qa.rows.gr uo.1) hn;obtain⟨g',o',b1,b2,b3⟩:=Z8 (qa.rows.gr uo.1) At;have c3:m8 g (o+(i:Int).toNat*1) V1=some (.s n):=by rw[P5];exact a3
    have d3:m8 g (o+(0:Int).toNat*1) V1=some (.s ⟨⟨hw⟩⟩):=by
     rw[a1]at b1;injection b1 with b1;injection b1 with q1 q2;subst q1;subst q2
     simpa using b3
    refine hR _ _ _ _ _ (l9 (M7 (by omega)) ?_);rw[a1];refine j0 (D0 ⟨by omega,by omega⟩ (C6 c3 (j0 (D0 ⟨by decide,by omega⟩ (C6 d3 (j0 (D0 ⟨by omega,by omega⟩ (C6 c3 ?_))))))));refine l5 (bS6 u1 ui ub (by omega) hw (by omega) n ?_);intro V2 B2 t2 s2;have o2:=uo.sep s2;refine C4 (aa6 ?_ ?_)
    ·obtain⟨g'',o'',e1,e2,e3⟩:=Z8 (qa.rows.gr o2.1) hn;rw[a1]at e1;injection e1 with e1;injection e1 with q1 q2;subst q1;subst q2
     rw[P5];exact e3
    refine l5 (X5 t2 n (aJ2 _ _ _) (by omega) (by omega) (by show u.err.size<=_;exact C7 pj (C7 qv kv)) ?_);intro V4 t4 s4;refine H2 ?_;rw[mu];obtain⟨v1,v2⟩:=bb3 (N:=N) ⟨ui,ub⟩ gb ⟨⟨hw⟩⟩ n;refine ih (i+1) _ V4 B2 (by omega) t4 (o2.sep s4) ((us.trans s2).trans s4) ?_ (by rw[N7];exact v1) (by rw[N7];exact v2) ue;rw[aZ7 (bz9 _ _ _)];exact uf
  exact key (gd.length-1) 1 (TS.new A) Y3 _ (by omega) t3 O3 (H1.refl _ _) rfl hI jm hD
 |false =>
 refine l7 rfl ?_;cases h5:E8 nm (bs [108,110]) with
 |true =>
  have ia:∃a b,gd=[a,b]:=by
   rw[J9.1 h5]at ow;exact bq8 ow
  obtain⟨a,b,xg⟩:=ia;rw[xg,cC8 h5]at kv hj;rw[aN1 b [] _ oi]at kv hj;have hDe:∀ (T:TS),TS.each nm (fun t n=>onA t (t.A.lnP gb ⟨⟨gl⟩⟩ a n)) [] T=T:=fun T=>rfl;rw[hDe]at kv hj;have At:gd[0]?=some a:=by rw[xg];rfl
  have tf:gd[1]?=some b:=by rw[xg];rfl
  have hza:=lw a (K7 At);have hzb:=lw b (K7 tf);have qm:gd.length=2:=by rw[xg];rfl
  obtain⟨g,o,a1,a2,a3⟩:=Z8 (qa.rows.gr O3.1) tf;obtain⟨g',o',b1,b2,b3⟩:=Z8 (qa.rows.gr O3.1) At;have c3:m8 g (o+(1:Int).toNat*1) Y3=some (.s b):=by simpa using a3
  have d3:m8 g (o+(0:Int).toNat*1) Y3=some (.s a):=by
   rw[a1]at b1;injection b1 with b1;injection b1 with q1 q2;subst q1;subst q2
   simpa using b3
  refine l9 rfl ?_;rw[a1];refine j0 (D0 ⟨by decide,by omega⟩ (C6 c3 (j0 (D0 ⟨by decide,by omega⟩ (C6 d3 (j0 (D0 ⟨by decide,by omega⟩ (C6 c3 ?_))))))));refine l5 (cC4 t3 hI jm (by omega) gl po a b (by omega) ?_);intro V2 B2 t2 s2;have o2:=O3.sep s2;refine C4 (aa6 ?_ ?_)
  ·obtain⟨g'',o'',e1,e2,e3⟩:=Z8 (qa.rows.gr o2.1) tf;rw[a1]at e1;injection e1 with e1;injection e1 with q1 q2;subst q1;subst q2
   simpa using e3
  refine l5 (X5 t2 b (bw9 _ _ _ _) (by omega) (by omega) (Nat.zero_le _) ?_);intro V4 t4 s4;exact H2 (hj V4 B2 t4 (s2.trans s4))
 |false =>
 refine l7 rfl ?_;refine K5 (fun j'=>∀t:Bool,t=(E8 nm (bs [109,118])||E8 nm (bs [99,112]))->j' (gp bf) (gp b6) (gp b7) (gp b12) ⟨⟨gl⟩⟩ y nm t Y3) ?_ ?_
 case refine_2 =>
  intro j' ip;cases h7:E8 nm (bs [109,118]) with
  |true=>exact l9 rfl (ip _ (by rw[h7];rfl))
  |false=>exact l7 rfl (ip _ (by rw[h7];rfl))
 intro t ht;cases t with
 |true =>
  have mw:E8 nm (bs [109,118])=true\/E8 nm (bs [99,112])=true:=Bool.or_eq_true_iff.1 ht.symm;have qm:2<=gd.length:=by
   have hr:=bo1 nm ⟨⟨gl⟩⟩ gd;rw[ow]at hr;unfold aS5 at hr;have:=(Bool.or_eq_false_iff.1 hr).1;have ln:as2 nm ⟨⟨gl⟩⟩=2:=by
    unfold as2 aJ7;rcases mw with h|h
    ·rw[N3 h (b:=(bs [114,109])) (by decide),h4,h5,h];rfl
    ·rw[N3 h (b:=(bs [114,109])) (by decide),h4,h5,N3 h (b:=(bs [109,118])) (by decide),h];rfl
   rw[ln]at this;simp at this;omega
  have ia:gd≠[]:=by intro e;rw[e]at qm;exact m7 qm (by decide)
  have hto:gd.getLast?=some (gd.getLast ia):=List.getLast?_eq_some_getLast ia;rw[ci3 mw,bq2 _ _ _ hto]at kv hj pm;have htm:=List.getLast_mem ia;have gx:gd[gd.length-1]?=some (gd.getLast ia):=by rw[<-List.getLast?_eq_getElem?];exact hto
  generalize gd.getLast ia=tq at hto htm kv hj gx pm;have Dj:=lw tq htm;have rc:gd.dropLast.length=gd.length-1:=List.length_dropLast ..;have Dk:(TS.new A).A=A:=rfl;rw[Dk]at kv hj pm;have Gt:F0 Y3 1 (u0 gd) y:=qa.rows.gr O3.1;have hz6:∀n∈gd,n.size<=1000000:=fun n hn=>by have:=lw n hn;omega
  refine l9 rfl (l5 (bh7 t3 Gt hI jm (by omega) hto (by omega) hz6 ?_));intro b tl yl Y4 n4 hb Gu;rw[Dk]at hb Gu
  (refine l6 rfl ?_;try dsimp only)
  have xo:(!A.dirB gb tq&&Nat.blt 1 gd.dropLast.length)=!b:=by
   rw[hb,Bool.not_or]
   congr 1
   rw[rc,Q9,Nat.blt_eq];simp only[Bool.not_eq_true',X0];omega
  rw[xo]at kv hj pm;obtain⟨ρ,O4,r4,hρ⟩:=ar4 (B:=fun b=>B b\/b=b12) (l:=tl) (fun b hb=>t3.has hb) n4;have t4:=t3.gr n4.1;have Gρ:Gr V3 ρ:=ac6 fun c o hc=>hρ c o (O3.get hc) (O3.2 c o hc);cases b with
  |false =>
   simp only[Bool.not_false,if_true]at kv hj pm;have hw:IntKind.i64.wrap (((y.len:Nat):Int)-1)=((gd.length-1:Nat):Int):=by rw[D7 (by omega) (by omega)];omega
   obtain⟨g,o,a1,a2,a3⟩:=Z8 (Gt.gr n4.1) gx;refine l9 rfl ?_;rw[hw,a1];refine j0 (D0 ⟨by omega,by omega⟩ (C6 a3 (l5 (X5 t4 tq (e:=8) (K3 (by omega)) (by omega) (by omega) (Nat.zero_le _) ?_))));intro Y5 t5 s5;exact H2 (tail _ Y5 _ t5 ((H1.gr n4.1).trans s5) pm)
  |true =>
  clear pm tail;simp only[Bool.not_true,D2,if_false]at kv hj;obtain⟨htll,Gv⟩:=Gu rfl;generalize A.dirB gb tq=inn at kv hj Gv;have htoz:∀n:d9,n.size<=40->(if inn then H8 tq (ah6 n)else tq).size<=100:=by
   intro n hn;split
   ·rw[ab0];have:=aK7 n;omega
   ·omega
  have mc:∀t n,t.err.size<=(az5 (do2 nm gb ⟨⟨gl⟩⟩) inn tq t n).2.err.size:=by
   intro t n;unfold az5 do2;split
   ·exact A7 _
   ·exact be4 _ _ _ _ _ _ _
  generalize hD:TS.each nm (az5 (do2 nm gb ⟨⟨gl⟩⟩) inn tq) gd.dropLast (TS.new A)=D at kv hj;have hyll:=ad9 r4;refine l7 rfl (H9 ?_);intro R hR;have key:∀ (k i:Nat) (u:TS) (V1:H) (B1:Nat->Prop),k+i=gd.dropLast.length->K8 V1 b12 ⟨nm,inn0,gb,x,bf⟩ u B1->Off ρ V1 B1->H1 Y3 (fun b=>B b\/b=b12) V1 B1->(E8 nm (bs [109,118])=true->Inv u.A/\Bd (N+i) u.A)->(E8 nm (bs [109,118])=false->U4 N u.A)->TS.each nm (az5 (do2 nm gb ⟨⟨gl⟩⟩) inn tq) (gd.dropLast.drop i) u=D->R (gp bf) (gp b6) (gp b7) (gp b12) ⟨⟨gl⟩⟩ y yl (i:Int) V1:=by
   intro k
   induction k with
   |zero =>
    intro i u V1 B1 hk u1 uo us up1 up2 ue;rw[M3 (by omega)]at ue;have ue:u=D:=ue;subst ue;refine hR _ _ _ _ _ _ _ _ _ (K5 (fun j'=>j' (gp bf) (gp b6) (gp b7) (gp b12) ⟨⟨gl⟩⟩ y yl (i:Int) false V1) (l7 rfl (hj V1 B1 u1 us)) fun j' ip=>l7 (W4 (by omega)) ip)
   |succ k ih =>
    intro i u V1 B1 hk u1 uo us up1 up2 ue;obtain⟨n,hn⟩:∃n,gd.dropLast[i]?=some n:=⟨_,G0 (by omega)⟩;have ix:=lw n ((List.dropLast_sublist _).subset (K7 hn));have Dy:gd[i]?=some n:=by
     rw[List.getElem?_dropLast]at hn;split at hn
     ·exact hn
     ·cases hn
    have Da:=Gv i n hn;have Cb:=htoz n ix;rw[S9 hn,bb7]at ue;have mu:IntKind.i64.wrap ((i:Int)+1)=((i+1:Nat):Int):=by rw[D7 (by omega) (by omega)];omega
    refine hR _ _ _ _ _ _ _ _ _ (K5 (fun j'=>j' (gp bf) (gp b6) (gp b7) (gp b12) ⟨⟨gl⟩⟩ y yl (i:Int) (!u.full) V1) ?_ fun j' ip=>l9 (M7 (by omega)) (j0 (an2 (f0 u1.cell) ip)));cases hf:u.full with
    |true =>
     rw[hf,d8 rfl]at ue;subst ue;exact l7 rfl (hj V1 B1 u1 us)
    |false =>
    rw[hf,d7 (by simp)]at ue;have qv:=aG0 (nm:=nm) mc (gd.dropLast.drop (i+1)) ((az5 (do2 nm gb ⟨⟨gl⟩⟩) inn tq u n).2.fail nm n (az5 (do2 nm gb ⟨⟨gl⟩⟩) inn tq u n).1);rw[ue]at qv;have pj:=Q6 nm (az5 (do2 nm gb ⟨⟨gl⟩⟩) inn tq u n).2 n (az5 (do2 nm gb ⟨⟨gl⟩⟩) inn tq u n).1;have hid:az5 (do2 nm gb ⟨⟨gl⟩⟩) inn tq u n=do2 nm gb ⟨⟨gl⟩⟩ u n (if inn then H8 tq (ah6 n)else tq):=rfl;rw[hid]at ue qv pj;generalize (if inn then H8 tq (ah6 n)else tq)=dst at ue qv pj Da Cb;have rdn:∀ {V':H},Gr ρ V'->∃g o,y.base=some ⟨g,o,none⟩/\m8 g (o+(i:Int).toNat*1) V'=some (.s n):=fun hg=>by
     obtain⟨g,o,a1,a2,a3⟩:=Z8 ((qa.rows.gr Gρ).gr hg) Dy;exact⟨g,o,a1,by rw[P5];exact a3⟩
    obtain⟨g,o,a1,a3⟩:=rdn uo.1;obtain⟨g',o',c1,c2,c3⟩:=Z8 (r4.gr uo.1) Da;have w6':=Gρ.get w6;refine l9 rfl (K5 (fun j'=>∀V2 B2,K8 V2 b12 ⟨nm,inn0,gb,x,bf⟩ ((do2 nm gb ⟨⟨gl⟩⟩ u n dst).2.fail nm n (do2 nm gb ⟨⟨gl⟩⟩ u n dst).1) B2->H1 V1 B1 V2 B2->j' (gp bf) (gp b6) (gp b7) (gp b12) ⟨⟨gl⟩⟩ y yl (i:Int) V2) ?_ ?_)
    ·intro V2 B2 t2 s2;rw[mu];refine ih (i+1) _ V2 B2 (by omega) t2 (uo.sep s2) (us.trans s2) (fun h=>?_) (fun h=>?_) ue
     ·rw[N7];unfold do2;rw[h,d8 rfl];have hh:=up1 h;have:=ay3 hh.1 hh.2 (by omega) gb n dst;exact⟨this.inv,this.bd⟩
     ·rw[N7];unfold do2;rw[h,d7 (by simp)];exact U4.cp (by omega) _ _ _ _ _ _ _ (up2 h)
    intro j' ip;refine j0 (C6 (f0 (uo.get w6')) ?_);cases h7:E8 nm (bs [109,118]) with
    |true =>
     obtain⟨v1,v2⟩:=up1 h7;have e7:do2 nm gb ⟨⟨gl⟩⟩ u n dst=onA u (u.A.renameF gb n dst):=by unfold do2;rw[h7,d8 rfl]
     rw[e7]at ip qv pj;refine l9 rfl ?_;rw[a1,c1];refine j0 (D0 ⟨by omega,by omega⟩ (C6 a3 (j0 (C6 (f0 (uo.get w6')) (j0 (D0 ⟨by omega,by omega⟩ (C6 a3 (j0 (D0 ⟨by omega,by omega⟩ (C6 c3 ?_))))))))));obtain⟨B0,xt,iu⟩:=u1.fs;refine l5 (bD6 v1 v2 (by omega) xt _ _ _ ?_);intro Y5 B5 F5 S5;obtain⟨B6,t6,s6⟩:=iu F5 S5;refine C4 (aa6 ?_ ?_)
     ·obtain⟨g2,o2,q1,q3⟩:=rdn (uo.sep s6).1;rw[a1]at q1;injection q1 with q1;injection q1 with z1 z2;subst z1;subst z2
      exact q3
     refine l5 (X5 t6 n (aJ1 _ _ _) (by omega) (by omega) (by show u.err.size<=_;exact C7 pj (C7 qv kv)) ?_);intro Y7 t7 s7;exact H2 (ip Y7 B6 t7 (s6.trans s7))
    |false =>
     have e7:do2 nm gb ⟨⟨gl⟩⟩ u n dst=TS.cp nm gb ⟨⟨gl⟩⟩ FU u n dst:=by unfold do2;rw[h7,d7 (by simp)]
     rw[e7]at ip qv;have hFU:FU=300:=rfl;have ecp:cpT ⟨nm,inn0,gb,x,bf⟩ ⟨⟨gl⟩⟩ FU u n dst=(TS.cp nm gb ⟨⟨gl⟩⟩ FU u n dst).2.fail nm n (TS.cp nm gb ⟨⟨gl⟩⟩ FU u n dst).1:=by unfold cpT;rw[hf,d7 (by simp)]
     refine l7 rfl ?_;rw[a1,c1];refine j0 (D0 ⟨by omega,by omega⟩ (C6 a3 (j0 (D0 ⟨by omega,by omega⟩ (C6 c3 ?_)))));refine l5 (cC6 (M:=N) (by omega) (by omega) gl po FU n dst u V1 B1 _ (by omega) (by omega) (by omega) (by omega) u1 (up2 h7) (by rw[ecp];exact C7 qv kv) ?_);intro V2 B2 t2 s2;rw[ecp]at t2;exact U9 (ip V2 B2 t2 s2)
  exact key gd.dropLast.length 0 (TS.new A) Y4 _ (by omega) t4 O4 (H1.gr n4.1) (fun _=>⟨hI,jm⟩) (fun _=>U4.of hI jm) hD
 |false =>
  obtain⟨h7,h8⟩:=Bool.or_eq_false_iff.1 ht.symm;refine l7 rfl ?_;cases h9:E8 nm (bs [108,115]) with
  |true =>
   rw[cC9 h9]at kv Ce hj;refine l9 rfl (l5 (cC7 t3 O3 qa.rows hI jm (by omega) gl po rfl (by omega) (by omega) (fun n hn=>by have:=lw n hn;omega) kv Ce ?_));intro Y4 t4 s4;exact U9 (hj Y4 _ t4 s4)
  |false =>
   have mw:E8 nm (bs [109,107,100,105,114])=true\/E8 nm (bs [114,109,100,105,114])=true\/E8 nm (bs [116,111,117,99,104])=true\/E8 nm (bs [114,109])=true:=by
    unfold ab7 at ly;simp only[List.any_cons,List.any_nil,U0,h4,h5,h7,h8,h9,R0,Bool.or_eq_true]at ly;rcases ly with h|h|h|h
    ·exact .inl h
    ·exact .inr (.inl h)
    ·exact .inr (.inr (.inl h))
    ·exact .inr (.inr (.inr h))
   rw[show doP A nm gb ⟨⟨gl⟩⟩ gd=TS.each nm (ab4 ⟨nm,inn0,gb,x,bf⟩ ⟨⟨gl⟩⟩) gd (TS.new A)from ci4 (C:=⟨nm,inn0,gb,x,bf⟩) mw]at kv hj;have kx:∀n∈gd,n.size<=100000:=fun n hn=>by have:=lw n hn;omega
   by_cases ie:E8 nm (bs [109,107,100,105,114])=true\/E8 nm (bs [116,111,117,99,104])=true
   ·refine l7 rfl (l5 (bs0 (P:=fun _ s=>U4 N s.A) (N:=N) (by omega) t3 O3 qa.rows gl po (by omega) (by omega) kx mw (fun _ k s h=>h) (fun k s h=>⟨h.inv,h.bd'⟩) ?_ (U4.of hI jm) kv ?_))
    ·intro k s n hn h;rw[N7];unfold ab4;simp only;rcases ie with h1|h3
     ·rw[h1,d8 rfl];show U4 N (if I8 ⟨⟨gl⟩⟩ 112 then s.A.allF gb (am0 n++[n])else s.A.mkdirF gb n).2;split
      ·exact U4.all (by omega) _ _ _ h
      ·exact h.mkdir (by omega) _ _
     ·rw[N3 h3 (b:=(bs [109,107,100,105,114])) (by decide),N3 h3 (b:=(bs [114,109,100,105,114])) (by decide),h3];exact h.write (by omega) _ _ _ _ (by decide)
    ·intro Y4 B4 t4 s4;exact U9 (hj Y4 B4 t4 s4)
   ·refine l7 rfl (l5 (bs0 (P:=fun _ s=>Inv s.A/\Bd N s.A) (N:=N) (by omega) t3 O3 qa.rows gl po (by omega) (by omega) kx mw (fun h=>m7 h ie) (fun k s h=>⟨h.1,h.2.mono (by omega)⟩) ?_ ⟨hI,jm⟩ kv ?_))
    ·intro k s n hn h;rw[N7];have h1:E8 nm (bs [109,107,100,105,114])=false:=by
      cases hh:E8 nm (bs [109,107,100,105,114]) with
      |false=>rfl
      |true=>exact m7 (.inl hh) ie
     have h3:E8 nm (bs [116,111,117,99,104])=false:=by
      cases hh:E8 nm (bs [116,111,117,99,104]) with
      |false=>rfl
      |true=>exact m7 (.inr hh) ie
     unfold ab4;simp only;rw[h1,h3];simp only[D2,if_false];split
     ·exact ba9 h (by omega) gb n
     ·exact ay4 (by omega) _ _ _ _ _ _ h
    ·intro Y4 B4 t4 s4;exact U9 (hj Y4 B4 t4 s4)
end
end
section
attribute [local irreducible] i9 E3 A0 I9 l8 H0 C0 stW muW biW W7 imW J0 G8 app E2 J1 D3 E6 oW P0 J5 C9 rfW N5 M9 D5 exW I2 Gr P1
theorem aP2{ρ Y Y' V':H}(h1:Gr V' Y')(h3:∀b o,ρ b=none->Y b=some o->Y' b=some o){θ:H}(hg:Gr θ Y)(hd:∀b,θ b≠none->ρ b=none):Gr θ Y':=ac6 fun b o hb=>h3 b o (hd b (by rw[hb];simp)) (hg.get hb)
def Two(A:AT)(bf br:Nat)(Y V:H):Prop:=∃ρF ρR B D,J8 ρF bf A B/\Z2 ρR br A D/\Gr ρF V/\Gr ρR V/\Gr Y V/\(∀b,Y b≠none->ρF b=none)/\(∀b,Y b≠none->ρR b=none)/\(∀b,ρF b≠none->ρR b=none)
theorem aH9{Y V:H}(h:Gr Y V){b:Nat}(hb:Y b≠none):V b≠none:=by
 cases hs:Y b with
 |none=>exact m7 hs hb
 |some o=>rw[h.get hs];simp
section
variable {Y V:H} {bf br:Nat} {A A':AT}
theorem bh8{f g:FuncId}{as_ cs:List u9}{e:Int}(h:Two A bf br Y V)
 (hf:∀ (K':KH) ρ B,J8 ρ bf A B->(∀Y' B',J8 Y' bf A' B'->K' (.i e) Y')->i7 f as_ K' ρ)
 (hg:∀ (K':KH) ρ D,Z2 ρ br A D->(∀Y' D',Z2 Y' br A' D'->K' (.i e) Y')->i7 g cs K' ρ)
 {G:H->Prop} (hG:∀V',Two A' bf br Y V'->G V'):i6 f as_ (.one (.sc (.int .i64))) (fun(_:Int)=>i6 g cs (.one (.sc (.int .i64))) (fun(_:Int)=>G)) V:=by
 obtain⟨ρF,ρR,B,D,hF,hR,gF,gR,gσ,dF,dR,dFR⟩:=h;refine ao6 gF (hf (fun v V'=>∃B',v=.i e/\J8 V' bf A' B') ρF B hF fun Y' B' h1=>⟨B',rfl,h1⟩) ?_
 rintro v Y5 ρF5 ⟨B5,rfl,F5⟩ f1 f2 f3
 have gR5:Gr ρR Y5:=aP2 f1 f2 gR (fun b hb=>by
  cases h:ρF b with
  |none=>rfl
  |some o=>exact m7 (dFR b (by rw[h];simp)) hb)
 have gσ5:Gr Y Y5:=aP2 f1 f2 gσ dF;have dF5:∀b,Y b≠none->ρF5 b=none:=fun b hb=>f3 b (aH9 gσ hb) (dF b hb);have dFR5:∀b,ρF5 b≠none->ρR b=none:=fun b hb=>by
  cases h:ρR b with
  |none=>rfl
  |some o =>
   refine m7 (f3 b (by rw[gR.get h];simp) ?_) hb;cases h2:ρF b with
   |none=>rfl
   |some o2=>have:=dFR b (by rw[h2];simp);rw[h]at this;cases this
 refine C4 (ao6 gR5 (hg (fun v V'=>∃B',v=.i e/\Z2 V' br A' B') ρR D hR fun Y' B' h1=>⟨B',rfl,h1⟩) ?_)
 rintro v Y6 ρR6 ⟨D6,rfl,R6⟩ h1 h2 h3
 refine C4 (hG Y6 ⟨ρF5,ρR6,B5,D6,F5,R6,aP2 h1 h2 f1 dFR5,h1,aP2 h1 h2 gσ5 dR,dF5,?_,?_⟩)
 ·intro b hb;exact h3 b (aH9 gσ5 hb) (dR b hb)
 ·intro b hb;exact h3 b (aH9 f1 hb) (dFR5 b hb)
theorem aB8{N:Nat}(h:Two A bf br Y V)(hI:Inv A)(hB:Bd N A)(hN:N<=100000000)(gb gc:d9){G:H->Prop}(hG:∀V',Two (A.mkdirF gb gc).2 bf br Y V'->G V') :
 i6 14 [.q bf,.s gb,.s gc] (.one (.sc (.int .i64))) (fun(_:Int)=>i6 15 [.q br,.s gb,.s gc] (.one (.sc (.int .i64))) (fun(_:Int)=>G)) V :=
 bh8 h (fun K' ρ B hF hk=>bg3 hI hB (by omega) hF gb gc fun Y' B' h1 _=>hk Y' B' h1) (fun K' ρ D hR hk=>aL1 hI hB hN hR gb gc fun Y' B' h1 _=>hk Y' B' h1) hG
theorem aB9{N:Nat}(h:Two A bf br Y V)(hI:Inv A)(hB:Bd N A)(hN:N<=100000000)(gb gc data:d9)(more:Bool)(hd:data.size<=1000){G:H->Prop}(hG:∀V',Two (A.writeF gb gc data more).2 bf br Y V'->G V') :
 i6 16 [.q bf,.s gb,.s gc,.s data,.bool more] (.one (.sc (.int .i64))) (fun(_:Int)=>i6 17 [.q br,.s gb,.s gc,.s data,.bool more] (.one (.sc (.int .i64))) (fun(_:Int)=>G)) V :=
 bh8 h (fun K' ρ B hF hk=>bg4 hI hB (by omega) hF gb gc data more (by omega) fun Y' B' h1 _=>hk Y' B' h1) (fun K' ρ D hR hk=>aL2 hI hB hN hR gb gc data more (by omega) fun Y' B' h1 _=>hk Y' B' h1) hG
theorem bb8{N:Nat}(h:Two A bf br Y V)(hI:Inv A)(hB:Bd N A)(hN:N<=100000000)(gb gc:d9)(mode:Int){G:H->Prop}(hG:∀V',Two (A.chmodF gb gc mode).2 bf br Y V'->G V') :
 i6 18 [.q bf,.s gb,.s gc,.i mode] (.one (.sc (.int .i64))) (fun(_:Int)=>i6 19 [.q br,.s gb,.s gc,.i mode] (.one (.sc (.int .i64))) (fun(_:Int)=>G)) V :=
 bh8 h (fun K' ρ B hF hk=>bg5 hF gb gc mode fun Y' B' h1 _=>hk Y' B' h1) (fun K' ρ D hR hk=>aL3 hI hB hN hR gb gc mode fun Y' B' h1 _=>hk Y' B' h1) hG
theorem ar6{N:Nat}(h:Two A bf br Y V)(hI:Inv A)(hB:Bd N A)(hN:N<=100000000)(gb target gc:d9)(hd:target.size<=1000){G:H->Prop}(hG:∀V',Two (A.symlinkF gb target gc).2 bf br Y V'->G V') :
 i6 20 [.q bf,.s gb,.s target,.s gc] (.one (.sc (.int .i64))) (fun(_:Int)=>i6 21 [.q br,.s gb,.s target,.s gc] (.one (.sc (.int .i64))) (fun(_:Int)=>G)) V :=
 bh8 h (fun K' ρ B hF hk=>aK4 hI hB (by omega) hF gb target gc fun Y' B' h1 _=>hk Y' B' h1) (fun K' ρ D hR hk=>az9 hI hB hN hR gb target gc (by omega) fun Y' B' h1 _=>hk Y' B' h1) hG
end
theorem bs3{qi qb:Int}(hq:X8 qi qb=true):Inv (bgT qi qb)/\Bd 8 (bgT qi qb):=by
 obtain⟨i0,d0⟩:=aO5 hq;have o1:=ah3 i0 d0 (by decide) (bs [47]) (bs [100]);have o2:=ah3 o1.inv o1.bd (by decide) (bs [47]) (bs [100,47,115]);have o3:=ah4 o2.inv o2.bd (by decide) (bs [47]) (bs [100,47,102]) (bs [104,105]) false (by decide);have o4:=ah4 o3.inv o3.bd (by decide) (bs [47]) (bs [100,47,115,47,103]) (bs [114,117,110]) false (by decide);have o5:=ak7 o4.inv o4.bd (bs [47]) (bs [100,47,115,47,103]) 493;have o6:=ae6 o5.inv o5.bd (by decide) (bs [47]) (bs [100]) (bs [108]);have o7:=ae6 o6.inv o6.bd (by decide) (bs [47]) (bs [110,111,110,101]) (bs [109]);exact⟨o7.inv,o7.bd.mono (by decide)⟩
section
variable {Y:H}
theorem bS9{qi qb:Int}(hq:X8 qi qb=true){K:KH}(hK:∀bf br Y' B',J8 Y' bf (bgT qi qb) B'->Off Y Y' B'->K (.t [.q bf,.q br]) Y') :
 i7 4 [.g [.i qi,.i qb]] K Y:=by
 refine c4 _ _ ?_;unfold g4;refine A5 ?_;intro b2 Y2 g2 k2 n1;refine N8 (D4 k2) ?_
 (refine l6 rfl ?_;try dsimp only)
 refine N8 (D4 k2) ?_
 (refine l6 rfl ?_;try dsimp only)
 refine ao6 (ax5 Y2) (ct1 qi qb (K:=fun v V=>∃bf B,v=.q bf/\J8 V bf (ax1 qi qb) B) (fun h=>by rw[hq]at h;cases h) fun _ bf Y' B' h1 _ _=>⟨bf,B',rfl,h1⟩) ?_
 rintro v Y3 ρF ⟨bf,B,rfl,hF⟩ w1 w2 w3
 have g3:Gr Y2 Y3:=ac6 fun b o hb=>w2 b o rfl hb;have dF:∀b,Y2 b≠none->ρF b=none:=fun b hb=>w3 b hb rfl;refine am7 (aa6 (D4 (g3.get k2)) ?_);refine ao6 (ax5 Y3) (bI6 qi qb (K:=fun v V=>∃br D,v=.q br/\Z2 V br (ax1 qi qb) D) (fun h=>by rw[hq]at h;cases h) fun _ bf Y' B' h1 _ _=>⟨bf,B',rfl,h1⟩) ?_
 rintro v Y4 ρR ⟨br,D,rfl,hR⟩ y1 y2 y3
 have g4:Gr Y3 Y4:=ac6 fun b o hb=>y2 b o rfl hb;have dR:∀b,Y3 b≠none->ρR b=none:=fun b hb=>y3 b hb rfl;have T0:Two (ax1 qi qb) bf br Y Y4:=⟨ρF,ρR,B,D,hF,hR,w1.trans g4,y1,(g2.trans g3).trans g4,fun b hb=>dF b (aH9 g2 hb),fun b hb=>dR b (aH9 (g2.trans g3) hb),fun b hb=>dR b (aH9 w1 hb)⟩;refine am7 ?_;obtain⟨i0,d0⟩:=aO5 hq;refine K5 (fun j=>j (gp bf) (gp br) false Y4) ?_ (fun j hj=>l7 rfl hj);refine l7 rfl ?_;have o1:=ah3 i0 d0 (by decide) (bs [47]) (bs [100]);have o2:=ah3 o1.inv o1.bd (by decide) (bs [47]) (bs [100,47,115]);have o3:=ah4 o2.inv o2.bd (by decide) (bs [47]) (bs [100,47,102]) (bs [104,105]) false (by decide);have o4:=ah4 o3.inv o3.bd (by decide) (bs [47]) (bs [100,47,115,47,103]) (bs [114,117,110]) false (by decide);have o5:=ak7 o4.inv o4.bd (bs [47]) (bs [100,47,115,47,103]) 493;have o6:=ae6 o5.inv o5.bd (by decide) (bs [47]) (bs [100]) (bs [108]);refine aB8 T0 i0 d0 (by decide) _ _ ?_;intro V1 T1;refine aB8 T1 o1.inv o1.bd (by decide) _ _ ?_;intro V2 T2;refine aB9 T2 o2.inv o2.bd (by decide) _ _ _ _ (by decide) ?_;intro V3 T3;refine aB9 T3 o3.inv o3.bd (by decide) _ _ _ _ (by decide) ?_;intro V4 T4;refine bb8 T4 o4.inv o4.bd (by decide) _ _ _ ?_;intro V5 T5
 refine ar6 T5 o5.inv o5.bd (by decide) _ _ _ (by decide) ?_;intro V6 T6;refine ar6 T6 o6.inv o6.bd (by decide) _ _ _ (by decide) ?_;intro V7 T7;obtain⟨ρF,ρR,B,D,hF,hR,gF,gR,gσ,dF,dR,dFR⟩:=T7;exact hK bf br V7 B (hF.gr gF) ⟨gσ,fun b o hb=>hF.fresh (dF b (by rw[hb];simp))⟩
theorem db8{Y:H}{b:Nat}{s:d9}{ty:TypeId}{fz:Nat×Nat}(h:Y b=some (.cells ⟨[.s s]⟩ ty fz)):F0 Y 1 (u0 [s]) ⟨some ⟨b,0,none⟩,1,1⟩ :=
 ⟨rfl,.inr ⟨b,0,_,_,_,rfl,h,fun i p hi=>by
  match i,hi with
  |0,hi=>cases hi;exact⟨rfl,rfl⟩
  |n+1,hi=>simp[u0]at hi⟩⟩
theorem db9{Y:H}{b:Nat}{s t:d9}{ty:TypeId}{fz:Nat×Nat}(h:Y b=some (.cells ⟨[.s s,.s t]⟩ ty fz)):F0 Y 1 (u0 [s,t]) ⟨some ⟨b,0,none⟩,2,2⟩ :=
 ⟨rfl,.inr ⟨b,0,_,_,_,rfl,h,fun i p hi=>by
  match i,hi with
  |0,hi=>cases hi;exact⟨rfl,rfl⟩
  |1,hi=>cases hi;exact⟨rfl,rfl⟩
  |n+2,hi=>simp[u0]at hi⟩⟩
theorem dc0{Y:H}{b:Nat}{s t u:d9}{ty:TypeId}{fz:Nat×Nat}(h:Y b=some (.cells ⟨[.s s,.s t,.s u]⟩ ty fz)):F0 Y 1 (u0 [s,t,u]) ⟨some ⟨b,0,none⟩,3,3⟩ :=
 ⟨rfl,.inr ⟨b,0,_,_,_,rfl,h,fun i p hi=>by
  match i,hi with
  |0,hi=>cases hi;exact⟨rfl,rfl⟩
  |1,hi=>cases hi;exact⟨rfl,rfl⟩
  |2,hi=>cases hi;exact⟨rfl,rfl⟩
  |n+3,hi=>simp[u0]at hi⟩⟩
theorem bT0{K:KH}(hK:K (.bool true) Y):i7 11 [] K Y:=by
 refine aa7 _ hK (c11 ?_);clear hK;unfold g11;refine l5 (bS9 (qi:=30) (qb:=100) (by decide) ?_);intro bf br Y1 B1 F1 O1;obtain⟨i0,d0⟩:=bs3 (qi:=30) (qb:=100) (by decide);have p0:U4 8 wq0:=U4.of i0 d0;replace F1:J8 Y1 bf wq0 B1:=F1
 (refine l6 rfl ?_;try dsimp only)
 refine K5 (fun j=>∀Y' B',J8 Y' bf wq3 B'->Gr Y Y'->j (gp bf) false Y') ?_ ?_
 ·intro Y2 B2 F2 g2;refine l7 rfl (l5 (bB3 F2 _ _ _ ?_));unfold inV
  (refine l6 rfl ?_;try dsimp only)
  refine A5 ?_;intro b3 Y3 g3 e3 n3;refine C1 e3 W5 ?_;intro Y4 p4;have g4:Gr Y2 Y4:=g3.putF p4 n3;refine l5 (bq5 (F2.gr g4) _ _ _ (x:=⟨none,0,0⟩) (by decide +kernel) ?_);unfold dnF
  (refine l6 rfl ?_;try dsimp only)
  refine A5 ?_;intro b5 Y5 g5 e5 n5;refine C1 e5 ad0 ?_;intro Y6 p6;have g6:Gr Y4 Y6:=g5.putF p6 n5;rw[cG7];exact l9 rfl ⟨rfl,(g2.trans g4).trans g6⟩
 ·intro j hj;refine l7 rfl ?_;refine A5 ?_;intro b17 Y2 g2 e2 n2;have A2:af8 (Y.put b17 (.c [.s (bs [45,114]),.s (bs [100]),.s (bs [101])] 9)) wCp ⟨some ⟨b17,0,none⟩,3,3⟩:=⟨dc0 (H.put_same _ _ _),A7 _,by decide,by decide⟩;refine l5 (dz2 (A:=wq0) (F1.gr g2) ((O1.gr g2).add e2 (F1.fresh n2)) A2 p0 (by decide) (by rw[show cpN=(bs [99,112]) from rfl,cs4];decide) ?_);rw[show Q5 wq0 cpN wCp=Q5 wq0 (bs [99,112]) wCp from rfl,cs4];intro Y3 B3 F3 s3 p3;replace F3:J8 Y3 bf wq1 B3:=F3;replace p3:U4 8 wq1:=p3;have O3:=(O1.gr g2).sep s3;refine ab2 (l7 (by rw[Z3.2 rfl];rfl) ?_);refine A5 ?_;intro b19 Y4 g4 e4 n4;have A4:af8 (Y.put b19 (.c [.s (bs [101])] 9)) wLs ⟨some ⟨b19,0,none⟩,1,1⟩:=⟨db8 (H.put_same _ _ _),A7 _,by decide,by decide⟩;refine l5 (dz4 (A:=wq1) (F3.gr g4) ((O3.gr g4).add e4 (F3.fresh n4)) A4 ⟨p3.inv,p3.bd'⟩ (by decide) (by rw[show lsN=(bs [108,115]) from rfl,cs5];decide) ?_);rw[show Q5 wq1 lsN wLs=Q5 wq1 (bs [108,115]) wLs from rfl,cs5];intro Y5 B5 F5 s5 q5;have q5:wq2=wq1:=q5;replace F5:J8 Y5 bf wq2 B5:=F5;have O5:=(O3.gr g4).sep s5;refine ab2 (l7 (by rw[Z3.2 rfl];rfl) ?_);refine A5 ?_;intro b21 Y6 g6 e6 n6
  have A6:af8 (Y.put b21 (.c [.s (bs [45,114]),.s (bs [101])] 9)) wRm ⟨some ⟨b21,0,none⟩,2,2⟩:=⟨db9 (H.put_same _ _ _),A7 _,by decide,by decide⟩;refine l5 (dz1 (A:=wq2) (N:=8+1048576) (F5.gr g6) ((O5.gr g6).add e6 (F5.fresh n6)) A6 (by rw[q5];exact⟨p3.inv,p3.bd'⟩) (by decide) (by rw[show rmT=(bs [114,109]) from rfl,cs6];decide) ?_);rw[show Q5 wq2 rmT wRm=Q5 wq2 (bs [114,109]) wRm from rfl,cs6];intro Y7 B7 F7 s7 _;have O7:=(O5.gr g6).sep s7;refine ab2 ?_;rw[show C3 ((bs [48]):d9) (bs [48])=true from Z3.2 rfl];exact hj Y7 B7 F7 O7.1
end
end
section
def bh9(n:Nat)(s:d9):d9:=s.extract 0 (min s.size n)
theorem bT1(n:Nat)(s:d9):(bh9 n s).size<=n:=by unfold bh9;rw[ByteArray.size_extract];omega
theorem aV2(n:Nat)(s:d9):(if((n:Nat):Int)<((s.size:Nat):Int)then((n:Nat):Int)else((s.size:Nat):Int))=((min s.size n:Nat):Int):=by split<;>omega
theorem bE2(l:List d9)(s:d9):u0 l++[[.s s]]=u0 (l++[s]):=by simp[u0]
theorem aP3(s:d9):C3 s s=true:=Z3.2 rfl
theorem ci5:E6 Tryz.prog 32=some 4:=by kernel_rfl
attribute [local irreducible] i9 E3 A0 I9 l8 H0 C0 stW muW biW W7 imW J0 G8 app E2 J1 D3 E6 oW P0 J5 C9 rfW N5 M9 D5 exW I2 Gr P1
section
variable {Y Y' V:H} {bt bf br:Nat} {T:Tb} {A:AT} {B:Nat->Prop}
theorem TAt.keep(h:TAt Y bt T)(hk:∀b o,Y b=some o->T.own bt b->Y' b=some o):TAt Y' bt T:=by
 have mk:∀ (b:Nat) l,Q7 Y b l->T.own bt b->Q7 Y' b l:=fun b l ⟨es,c,h1,h2⟩ ho=>⟨es,c,hk _ _ h1 ho,h2⟩;refine⟨hk _ _ h.cells (.inl rfl),mk _ _ h.nodes (.inr (.inl rfl)),fun i n hn=>?_⟩;have hd:=h.each i n hn;exact⟨hk _ _ hd.cells (.inr (.inr ⟨i,n,hn,.inl rfl⟩)),fun e he=>mk _ _ (hd.gj e he) (.inr (.inr ⟨i,n,hn,.inr he⟩)),hd.none,hd.gh⟩
theorem J8.keep(h:J8 Y bf A B)(hk:∀b o,Y b=some o->B b->Y' b=some o):J8 Y' bf A B:=by
 obtain⟨bt,B0,h1,⟨T,t1,t2,t3,t4⟩,h3,h4⟩:=h;exact⟨bt,B0,hk _ _ h1 ((h4 _).2 (.inr rfl)),⟨T,t1.keep fun b o ho hb=>hk b o ho ((h4 b).2 (.inl ((t4 b).1 hb))),t2,t3,t4⟩,h3,h4⟩
theorem Z2.keep{D:Nat->Prop}(h:Z2 Y br A D)(hk:∀b o,Y b=some o->D b->Y' b=some o):Z2 Y' br A D:=by
 obtain⟨M,hM,hD⟩:=h;exact⟨M,hM.keep fun c o hc hw=>hk c o hc ((hD c).2 hw),hD⟩
def Bth(V Y:H)(bf br:Nat)(A:AT):Prop:=∃B D,J8 Y bf A B/\Z2 Y br A D/\(∀b,B b->¬D b)/\Off V Y B/\Off V Y D
theorem Bth.gr(h:Bth V Y bf br A)(hg:Gr Y Y'):Bth V Y' bf br A:=by
 obtain⟨B,D,h1,h2,h3,h4,h5⟩:=h;exact⟨B,D,h1.gr hg,h2.gr hg,h3,h4.gr hg,h5.gr hg⟩
theorem Bth.off(h:Bth V Y bf br A):Gr V Y:=by obtain⟨_,_,_,_,_,h4,_⟩:=h;exact h4.1
theorem Bth.sub{V':H}(h:Bth V Y bf br A)(hg:Gr V' V):Bth V' Y bf br A:=by
 obtain⟨B,D,h1,h2,h3,h4,h5⟩:=h;exact⟨B,D,h1,h2,h3,h4.sub hg,h5.sub hg⟩
theorem Bth.add(h:Bth V Y bf br A){b:Nat}{o:Obj}(hb:Y b=some o)(hn:∀Y0,Gr Y0 Y->True)(h1:∀B,J8 Y bf A B->¬B b)(h2:∀D,Z2 Y br A D->¬D b):Bth (V.put b o) Y bf br A:=by
 obtain⟨B,D,q1,q2,q3,q4,q5⟩:=h;exact⟨B,D,q1,q2,q3,q4.add hb (h1 B q1),q5.add hb (h2 D q2)⟩
end
section
variable {Y:H}
theorem ci6{qi qb:Int}(hq:X8 qi qb=true){K:KH}(hK:∀bf br Y',Bth Y Y' bf br (bgT qi qb)->K (.t [.q bf,.q br]) Y') :
 i7 4 [.g [.i qi,.i qb]] K Y:=by
 refine c4 _ _ ?_;unfold g4;refine A5 ?_;intro b2 Y2 g2 k2 n1;refine N8 (D4 k2) ?_
 (refine l6 rfl ?_;try dsimp only)
 refine N8 (D4 k2) ?_
 (refine l6 rfl ?_;try dsimp only)
 refine ao6 (ax5 Y2) (ct1 qi qb (K:=fun v V=>∃bf B,v=.q bf/\J8 V bf (ax1 qi qb) B) (fun h=>by rw[hq]at h;cases h) fun _ bf Y' B' h1 _ _=>⟨bf,B',rfl,h1⟩) ?_
 rintro v Y3 ρF ⟨bf,B,rfl,hF⟩ w1 w2 w3
 have g3:Gr Y2 Y3:=ac6 fun b o hb=>w2 b o rfl hb;have dF:∀b,Y2 b≠none->ρF b=none:=fun b hb=>w3 b hb rfl;refine am7 (aa6 (D4 (g3.get k2)) ?_);refine ao6 (ax5 Y3) (bI6 qi qb (K:=fun v V=>∃br D,v=.q br/\Z2 V br (ax1 qi qb) D) (fun h=>by rw[hq]at h;cases h) fun _ bf Y' B' h1 _ _=>⟨bf,B',rfl,h1⟩) ?_
 rintro v Y4 ρR ⟨br,D,rfl,hR⟩ y1 y2 y3
 have g4:Gr Y3 Y4:=ac6 fun b o hb=>y2 b o rfl hb;have dR:∀b,Y3 b≠none->ρR b=none:=fun b hb=>y3 b hb rfl;have T0:Two (ax1 qi qb) bf br Y Y4:=⟨ρF,ρR,B,D,hF,hR,w1.trans g4,y1,(g2.trans g3).trans g4,fun b hb=>dF b (aH9 g2 hb),fun b hb=>dR b (aH9 (g2.trans g3) hb),fun b hb=>dR b (aH9 w1 hb)⟩;refine am7 ?_;obtain⟨i0,d0⟩:=aO5 hq;refine K5 (fun j=>j (gp bf) (gp br) false Y4) ?_ (fun j hj=>l7 rfl hj);refine l7 rfl ?_;have o1:=ah3 i0 d0 (by decide) (bs [47]) (bs [100]);have o2:=ah3 o1.inv o1.bd (by decide) (bs [47]) (bs [100,47,115]);have o3:=ah4 o2.inv o2.bd (by decide) (bs [47]) (bs [100,47,102]) (bs [104,105]) false (by decide);have o4:=ah4 o3.inv o3.bd (by decide) (bs [47]) (bs [100,47,115,47,103]) (bs [114,117,110]) false (by decide);have o5:=ak7 o4.inv o4.bd (bs [47]) (bs [100,47,115,47,103]) 493;have o6:=ae6 o5.inv o5.bd (by decide) (bs [47]) (bs [100]) (bs [108]);refine aB8 T0 i0 d0 (by decide) _ _ ?_;intro V1 T1;refine aB8 T1 o1.inv o1.bd (by decide) _ _ ?_;intro V2 T2;refine aB9 T2 o2.inv o2.bd (by decide) _ _ _ _ (by decide) ?_;intro V3 T3;refine aB9 T3 o3.inv o3.bd (by decide) _ _ _ _ (by decide) ?_;intro V4 T4;refine bb8 T4 o4.inv o4.bd (by decide) _ _ _ ?_;intro V5 T5
 refine ar6 T5 o5.inv o5.bd (by decide) _ _ _ (by decide) ?_;intro V6 T6;refine ar6 T6 o6.inv o6.bd (by decide) _ _ _ (by decide) ?_;intro V7 T7;obtain⟨ρF,ρR,B,D,hF,hR,gF,gR,gσ,dF,dR,dFR⟩:=T7;exact hK bf br V7 ⟨B,D,hF.gr gF,hR.gr gR,fun b hb hd=>hR.has hd (dFR b (by obtain⟨o,ho⟩:=hF.has hb;rw[ho];simp)),⟨gσ,fun b o hb=>hF.fresh (dF b (by rw[hb];simp))⟩,⟨gσ,fun b o hb=>hR.fresh (dR b (by rw[hb];simp))⟩⟩
theorem cq6(nm inn gb:d9){x:Sl}{l:List d9}(hx:F0 Y 1 (u0 l) x){K:KH}(hK:∀y Y',Q8 Y Y' 9 1 (u0 ((l.take 6).map (bh9 40))) y->K (.g [.s nm,.slice y.base y.len y.cap,.s (bh9 40 inn),.s (bh9 40 gb)]) Y') :
 i7 5 [.g [.s nm,.slice x.base x.len x.cap,.s inn,.s gb]] K Y:=by
 refine c5 _ _ _ _ ?_;unfold g5;have kb:=ad9 hx;refine A5 ?_;intro b5 Y1 g1 e1 n1;refine A5 ?_;intro b6 Y2 g2 e2 n2;have k5:=g2.get e1;have G2:=g1.trans g2;have Aa:=hx.gr G2;have f6:Y b6=none:=A9 g1 n2;have h56:b5≠b6:=fun e=>by rw[<-e,e1]at n2;cases n2
 refine H9 ?_;intro R hR;have key:∀ (c i:Nat) (w:Sl) (V:H),c+i=6->i<=l.length->Q8 Y2 V 9 1 (u0 ((l.take i).map (bh9 40))) w->R (gp b5) (gp b6) w (i:Int) V:=by
  intro c
  induction c using Nat.strongRecOn with
  |ind c ih =>
   intro i w V hc hi hw;have q5:=hw.1.get k5;refine hR _ _ _ _ _ ?_;refine K5 (fun j=>∀cb:Bool,cb=(decide (i<l.length)&&decide (i<6))->j (gp b5) (gp b6) w (i:Int) cb V) ?_ ?_
   case refine_2 =>
    intro j hj;refine j0 (ag1 (y:=x) (f0 q5) ?_);by_cases h1:i<l.length
    ·refine l9 (M7 (by omega)) (hj _ ?_);rw[aD8 h1,T8];by_cases h2:i<6
     ·rw[aD8 h2,I6];omega
     ·rw[aP4 h2,K6];omega
    ·exact l7 (W4 (by omega)) (hj _ (by rw[aP4 h1];rfl))
   intro cb uh;cases cb with
   |true =>
    have zi:=uh.symm;rw[J4,I6,I6]at zi;obtain⟨h1,h2⟩:=zi;obtain⟨s,hs⟩:∃s,l[i]?=some s:=⟨_,G0 h1⟩;obtain⟨g,o,a1,a2,a3⟩:=Z8 (Aa.gr hw.1) hs;refine l9 rfl (j0 (ag1 (y:=x) (f0 q5) ?_));rw[a1];refine j0 (D0 (bv6 x.len) (C6 a3 ?_));refine j0 (ag1 (y:=x) (f0 q5) ?_);rw[a1];refine j0 (D0 (bv6 x.len) (C6 a3 ?_));have e60':(if(40:Int)<((s.size:Nat):Int)then(40:Int)else((s.size:Nat):Int))=((min s.size 40:Nat):Int):=aV2 40 s;rw[e60'];refine D0 ⟨J2 (by omega) (by omega),M8⟩ ?_;rw[P5];refine Q8.app1 aB7 hw (r:=[.s (bh9 40 s)]) rfl rfl (by rw[Z7,Q0,P4];omega) ?_;intro w' V' h3 _ _;rw[ab9 (i:=i)];refine ih (c-1) (by omega) (i+1) w' V' (by omega) (by omega) ?_;rw[bE2]at h3;rw[R1,hs,List.map_append];exact h3
   |false =>
    clear ih;have Da:l.take i=l.take 6:=by
     have zi:=uh.symm;rw[Bool.and_eq_false_iff,K6,K6]at zi;rcases(by omega:i=6\/l.length<=i)with e|e
     ·rw[e]
     ·rw[Q1 e,Q1 (by omega)]
    rw[Da]at hw;have hb5:w.base≠some ⟨b5,0,none⟩:=fun e=>by have:=hw.2.2 b5 e;rw[k5]at this;cases this
    have Dm:w.base≠some ⟨b6,0,none⟩:=fun e=>by have:=hw.2.2 b6 e;rw[e2]at this;cases this
    have q6:=hw.1.get e2;have hs:=hw.since G2;refine l7 rfl (j0 ?_);refine C1 q5 (by kernel_rfl:E6 Tryz.prog 30=some 1) ?_;intro V1 p1;have s1:=hs.putF p1 n1 hb5;have m1:=p1.same;refine j0 (C6 (f0 m1) (j0 (C6 (f0 m1) ?_)));have e40:(if(40:Int)<((inn.size:Nat):Int)then(40:Int)else((inn.size:Nat):Int))=((min inn.size 40:Nat):Int):=aV2 40 inn;rw[e40];refine D0 ⟨J2 (by omega) (by omega),M8⟩ (j0 ?_);rw[P5];refine C1 m1 U3 ?_;intro V4 p4;have s4:=s1.putF p4 n1 hb5;have m4:=p4.same;refine j0 (C6 (f0 m4) (j0 (C6 (f0 m4) ?_)));have e60:(if(40:Int)<((gb.size:Nat):Int)then(40:Int)else((gb.size:Nat):Int))=((min gb.size 40:Nat):Int):=aV2 40 gb;rw[e60];refine D0 ⟨J2 (by omega) (by omega),M8⟩ (j0 ?_);rw[P5];refine C1 m4 U3 ?_;intro V2 p2;have s2:=s4.putF p2 n1 hb5;refine j0 (N8 (D4 p2.same) ?_)
    (refine l6 rfl ?_;try dsimp only)
    refine aX3 (p2.get (Ne.symm h56) (p4.get (Ne.symm h56) (p1.get (Ne.symm h56) q6))) ci5 (by rfl) (by rfl) ?_;intro V3 p3;have s3:=s2.putF p3 f6 Dm;refine j0 (N8 (D4 p3.same) ?_)
    (refine l6 rfl ?_;try dsimp only)
    exact hK w V3 s3
 exact key 6 0 ⟨none,0,0⟩ Y2 rfl (Nat.zero_le _) (Q8.nil Y2 _ _)
end
section
variable {bf br:Nat} {A:AT} {N:Nat}
theorem ci7(hI:Inv A)(hr:A.rl=1)(jm:Bd N A)(hN:N<=100000000):∀ (dp:Nat) (gc:d9) (Y:H) (B D:Nat->Prop) (K:KH),dp<=100->gc.size+dp*60<=1000000->J8 Y bf A B->Z2 Y br A D->(∀Y',Gr Y Y'->K (.bool true) Y') ->
 i7 10 [.q bf,.q br,.s gc,.i (dp:Int)] K Y:=by
 intro dp
 induction dp using Nat.strongRecOn with
 |ind dp ih =>
  intro gc Y B D K hd hz hF hR hK;refine c10 _ _ _ _ ?_;unfold g10;refine l5 (bB3 hF _ _ _ ?_);unfold inV
  (refine l6 rfl ?_;try dsimp only)
  refine A5 ?_;intro b10 Y1 g1 e1 n1;refine C1 e1 W5 ?_;intro Y2 p2;have g2:Gr Y Y2:=g1.putF p2 n1;have k10:=p2.same;obtain⟨M,hM,_⟩:=id hR;refine l5 (bR9 hI hr jm hN (hM.gr g2) _ _ _ ?_);intro Y3 g3;unfold inV
  (refine l6 rfl ?_;try dsimp only)
  refine A5 ?_;intro b16 Y4 g4 e4 n4;refine C1 e4 W5 ?_;intro Y5 p5;have g5:Gr Y3 Y5:=g4.putF p5 n4;have k16:=p5.same;have k10:=g5.get (g3.get k10);have G5:Gr Y Y5:=(g2.trans g3).trans g5;refine K5 (fun j=>j (gp bf) (gp br) gc (dp:Int) (gp b10) false Y5) ?_ ?_
  case refine_2 =>
   intro j hj;refine l7 (by simp) (D1 (f0 k10) (D1 (f0 k16) (l7 (by simp) (D1 (f0 k10) (D1 (f0 k16) (l7 (by simp) (C6 (f0 k10) (C6 (f0 k16) (l7 (by rw[aP3];rfl) (D1 (f0 k10) (D1 (f0 k16) ?_)))))))))));have:((A.stat (bs [47]) gc false).2.links != (A.stat (bs [47]) gc false).2.links)=false:=by simp
   rw[this];exact hj
  refine l7 rfl ?_

  refine K5 (fun j=>∀t:Bool,(t=false->(A.stat (bs [47]) gc false).2.kind=2/\0<dp)->j (gp bf) (gp br) gc (dp:Int) t Y5) ?_ ?_
  case refine_2 =>
   intro j hj;refine j0 (D1 (f0 k10) ?_);by_cases hk:(A.stat (bs [47]) gc false).2.kind=2
   ·refine l7 (by simpa using hk) (hj _ fun h=>⟨hk,?_⟩);have:¬ ((dp:Int)=0):=by simpa using h
    omega
   ·exact l9 (by simpa using hk) (hj true fun h=>by cases h)
  intro t ht;cases t with
  |true=>exact l9 rfl (hK Y5 G5)
  |false =>
  obtain⟨_,vj⟩:=ht rfl;refine l7 rfl (l5 (aO8 hI jm (by omega) (hF.gr G5) _ _ ?_));intro x Y6 hx
  (refine l6 rfl ?_;try dsimp only)
  have G6:Gr Y Y6:=G5.trans hx.1;refine l5 (aH6 hI jm hN (hM.gr G6) _ _ ?_);intro y Y7 hy;replace hy:Q8 Y6 Y7 9 1 (u0 (A.listF (bs [47]) gc).2) y:=hy
  (refine l6 rfl ?_;try dsimp only)
  have G7:=G6.trans hy.1;have ig:∀n∈(A.listF (bs [47]) gc).2,W1 n/\W2 n:=fun n hn=>ae8 hI hn;have ju:=ah8 (gb:=(bs [47])) (gc:=gc) jm;generalize A.listF (bs [47]) gc=L at hx hy ig ju⊢;obtain⟨le,gd⟩:=L;simp only at hx hy ig ju⊢;have hx7:=hx.at.gr hy.1;have hy7:=hy.at
  have kb:=ad9 hx7;have lc:=ad9 hy7;refine K5 (fun j=>j (gp bf) (gp br) gc (dp:Int) x y false Y7) ?_ ?_
  case refine_2 =>
   intro j hj;refine l7 (by simp) ?_;have:((((x.len:Nat):Int):Int) != ((y.len:Nat):Int))=false:=by rw[kb,lc];simp
   rw[this];exact hj
  refine l7 rfl (H9 ?_);intro R mo;have key:∀ (k i:Nat) (Y8:H),k+i=gd.length->Gr Y7 Y8->R (gp bf) (gp br) gc (dp:Int) x y (i:Int) Y8:=by
   intro k
   induction k with
   |zero =>
    intro i Y8 hk hg;exact mo _ _ _ _ _ _ _ _ (l7 (W4 (by omega)) (hK Y8 (G7.trans hg)))
   |succ k ihk =>
    intro i Y8 hk hg;obtain⟨n,hn⟩:∃n,gd[i]?=some n:=⟨_,G0 (by omega)⟩;obtain⟨o1,o2⟩:=ig n (K7 hn);have jp:=o2.2;obtain⟨g,o,a1,a2,a3⟩:=Z8 (hx7.gr hg) hn;obtain⟨g',o',c1,c2,c3⟩:=Z8 (hy7.gr hg) hn;have ym:((bs [47]):d9).size=1:=rfl;have vt:=ab0 gc n;refine mo _ _ _ _ _ _ _ _ (l9 (M7 (by omega)) ?_);refine K5 (fun j=>∀Y9,Gr Y8 Y9->j (gp bf) (gp br) gc (dp:Int) x y (i:Int) false Y9) ?_ ?_
    ·intro Y9 g9;refine l7 rfl ?_;rw[ab9 (i:=i)];exact ihk (i+1) Y9 (by omega) (hg.trans g9)
    ·intro j hj;rw[a1,c1];refine j0 (D0 ⟨by omega,by omega⟩ (C6 a3 (j0 (D0 ⟨by omega,by omega⟩ (C6 c3 ?_)))));refine l7 (by rw[aP3];rfl) (D0 (by omega) (j0 (D0 ⟨by omega,by omega⟩ (C6 a3 (D0 (by rw[D8];omega) ?_)))));rw[D7 (x:=(dp:Int)-1) (by omega) (by omega),show(dp:Int)-1=((dp-1:Nat):Int)from by omega];refine l5 (ih (dp-1) (by omega) (H8 gc n) Y8 B D _ (by omega) (by omega) (hF.gr (G7.trans hg)) (hR.gr (G7.trans hg)) ?_);intro Y9 g9;exact H2 (hj Y9 g9)
  exact key gd.length 0 Y7 (by omega) (Gr.refl _)
end
end
section
structure U5 where
 nm:d9
 inn:d9
 gb:d9
 args:List d9
 x:Sl
theorem ci8{a a':Addr}(h:some a=some a'):a.block=a'.block:=by
 cases h;rfl
theorem cD0{Y Y3 Y5 V5:H}{ar:List d9}{ya:Sl}{Z:Nat->Prop}(h3:Q8 Y Y3 9 1 (u0 ar) ya)(g5:Gr Y3 Y5)(nB:∀b,Y b=none->¬Z b)(uz:∀c oc,Y5 c=some oc->¬Z c->V5 c=some oc)(rx:∀a∈ar,a.size<=40)(uk:ar.length<=6):af8 V5 ar ya:=by
 refine⟨(h3.at.gr g5).keep fun g o ob hg Gm=>?_,bJ0 h3.2.1,fun a ha=>by have:=rx a ha;omega,by omega⟩;refine uz g ob Gm (nB g ?_);obtain⟨_,_,⟨q,_⟩|⟨g',cur,q1,_⟩⟩:=h3.2.1
 ·rw[q]at hg;cases hg
 ·have e2:g'=g:=ci8 (q1.symm.trans hg);subst e2;exact h3.2.2 g' q1
def u5V(u:U5):List u9:=[.s u.nm,.slice u.x.base u.x.len u.x.cap,.s u.inn,.s u.gb]
theorem cD1(qi qb:Int)(hq:X8 qi qb=true):(bgT qi qb).rl=1/\(bgT qi qb).qi=qi:=by
 obtain⟨i0,d0⟩:=aO5 hq;have o1:=ah3 i0 d0 (by decide) (bs [47]) (bs [100]);have o2:=ah3 o1.inv o1.bd (by decide) (bs [47]) (bs [100,47,115]);have o3:=ah4 o2.inv o2.bd (by decide) (bs [47]) (bs [100,47,102]) (bs [104,105]) false (by decide);have o4:=ah4 o3.inv o3.bd (by decide) (bs [47]) (bs [100,47,115,47,103]) (bs [114,117,110]) false (by decide);have o5:=ak7 o4.inv o4.bd (bs [47]) (bs [100,47,115,47,103]) 493;have o6:=ae6 o5.inv o5.bd (by decide) (bs [47]) (bs [100]) (bs [108]);have k1:=Kp.mkdirF i0 d0 (by decide) (bs [47]) (bs [100]);have k2:=Kp.mkdirF o1.inv o1.bd (by decide) (bs [47]) (bs [100,47,115]);have k3:=Kp.writeF o2.inv o2.bd (by decide) (bs [47]) (bs [100,47,102]) (bs [104,105]) false;have k4:=Kp.writeF o3.inv o3.bd (by decide) (bs [47]) (bs [100,47,115,47,103]) (bs [114,117,110]) false;have k6:=Kp.symlinkF o5.inv o5.bd (by decide) (bs [47]) (bs [100]) (bs [108]);have k7:=Kp.symlinkF o6.inv o6.bd (by decide) (bs [47]) (bs [110,111,110,101]) (bs [109]);have k:Kp (ax1 qi qb) (bgT qi qb):=(((((k1.trans k2).trans k3).trans k4).trans (Kp.chmodF _ _ _)).trans k6).trans k7;exact⟨k.rl,k.qi⟩
theorem cD2{qi qb:Int}(hq:X8 qi qb=true):Inv (bgT qi qb)/\Bd 8 (bgT qi qb):=bs3 hq
theorem aV3{n m:Int}(h0:0<=n)(h1:n<=255)(hm:0<m)(lh:m<=1000)(c:Int)(hc:0<=c)(hc2:c<=1000):IntKind.i64.wrap (c+IntKind.i64.wrap (Int.tmod n m))=c+n%m:=by
 rw[Int.tmod_eq_emod_of_nonneg h0];have e1:=Int.emod_nonneg n (by omega:m≠0);have e2:=Int.emod_lt_of_pos n hm;rw[D7 (x:=n%m) (by omega) (by omega),D7 (by omega) (by omega)]
def ci9(A:AT)(gb nm:d9)(args:List d9)(d:Dn)(is:Bool)(A2:AT):Prop:=(A.filesP gb nm args=none->d=⟨gq,gq,0⟩/\is=false/\A2=A)/\(∀d' A',A.filesP gb nm args=some (d',A')->d'=d/\is=true/\A'=A2)
theorem cD3{A:AT}{i:Nat}{nm gb:d9}{ar:List d9}(hI:Inv A)(jm:Bd (8+40*i) A)(hN:8+40*i<=500)(zj:A.qi<=40)(uk:ar.length<=6)(rx:∀a∈ar,a.size<=40)(Al:A.rl=1) :
 ∃d is A2,ci9 A gb nm ar d is A2/\Inv A2/\Bd (8+40*(i+1)) A2/\A2.rl=1/\A2.qi<=40:=by
 cases he:A.filesP gb nm ar with
 |none=>exact⟨_,false,A,⟨fun _=>⟨rfl,rfl,rfl⟩,fun _ _ h=>by rw[he]at h;cases h⟩,hI,jm.mono (by omega),Al,zj⟩
 |some r =>
  obtain⟨d,A2⟩:=r;obtain⟨k1,k2,k3⟩:=bA0 hI jm hN zj uk rx he;refine⟨d,true,A2,⟨fun h=>(by rw[he]at h;cases h),fun _ _ h=>?_⟩,k1,k2.mono (by omega),by rw[k3.rl];exact Al,by rw[k3.qi];exact zj⟩;rw[he]at h;cases h;exact⟨rfl,rfl,rfl⟩
section
variable {Y V:H} {b:Nat} {A A2:AT} {B:Nat->Prop} {x:Sl} {args:List d9} {d:Dn} {is:Bool}
theorem cq7{N:Nat}(hF:J8 Y b A B)(hO:Off V Y B)(hE:ErS V)(nm inn gb:d9)(ha:af8 V args x)(hI:Inv A)(jm:Bd N A)(hN:N<=500)(hq:A.qi<=40)(Cm:args.length<=6)(qn:∀a∈args,a.size<=40)(hr:ci9 A gb nm args d is A2){K:KH}
 (hK:∀Y' B',J8 Y' b A2 B'->H1 Y B Y' B'->K (.t [.agg ⟨dnF d⟩,.bool is]) Y') :
 i7 6 [.q b,.g [.s nm,.slice x.base x.len x.cap,.s inn,.s gb]] K Y:=by
 refine cq1 hF hO hE nm _ _ ha hI jm hN hq Cm qn (fun h Y' hg=>?_) (fun d' A' h Y' B' f s=>?_)
 ·obtain⟨q1,q2,q3⟩:=hr.1 h;subst q1;subst q2;subst q3;exact hK Y' B (hF.gr hg) (H1.gr hg)
 ·obtain⟨q1,q2,q3⟩:=hr.2 d' A' h;subst q1;subst q2;subst q3;exact hK Y' B' f s
theorem cq8{N:Nat}(hF:Z2 Y b A B)(hO:Off V Y B)(nm inn gb:d9)(ha:af8 V args x)(hI:Inv A)(jm:Bd N A)(hN:N<=500)(hq:A.qi<=40)(Cm:args.length<=6)(qn:∀a∈args,a.size<=40)(hr:ci9 A gb nm args d is A2){K:KH}
 (hK:∀Y' B',Z2 Y' b A2 B'->H1 Y B Y' B'->K (.t [.agg ⟨dnF d⟩,.bool is]) Y') :
 i7 7 [.q b,.g [.s nm,.slice x.base x.len x.cap,.s inn,.s gb]] K Y:=by
 refine cq5 hF hO nm _ _ ha hI jm hN hq Cm qn (fun h Y' hg=>?_) (fun d' A' h Y' B' f s=>?_)
 ·obtain⟨q1,q2,q3⟩:=hr.1 h;subst q1;subst q2;subst q3;exact hK Y' B (hF.gr hg) (H1.gr hg)
 ·obtain⟨q1,q2,q3⟩:=hr.2 d' A' h;subst q1;subst q2;subst q3;exact hK Y' B' f s
end
end
section
attribute [local irreducible] i9 E3 A0 I9 l8 H0 C0 stW muW biW W7 imW J0 G8 app E2 J1 D3 E6 oW P0 J5 C9 rfW N5 M9 D5 exW I2 Gr P1
section
variable {Y:H}
set_option maxHeartbeats 800000 in
theorem bT2{y:Sl}{us:List U5}(hy:F0 Y 4 (us.map u5V) y)(ye:∀u∈us,F0 Y 1 (u0 u.args) u.x){n2 n3:Int}(w2:0<=n2/\n2<=255)(w3:0<=n3/\n3<=255)(hE:ErS Y){K:KH}(hK:∀Y',Gr Y Y'->K (.bool true) Y') :
 i7 3 [.slice y.base y.len y.cap,.g [.int .u8 n2,.int .u8 n3]] K Y:=by
 refine c3 _ _ _ ?_;unfold g3;have lc:y.len=us.length:=by have:=hy.1;rw[Q0]at this;exact this
 refine A5 ?_;intro b4 Y1 g1 e1 n1;refine D0 ⟨by decide,by decide⟩ (D1 (f0 e1) (D0 (by decide) (D0 ⟨by decide,by decide⟩ (D1 (f0 e1) (D0 (by decide) ?_)))));rw[aV3 w2.1 w2.2 (by decide) (by decide) 8 (by decide) (by decide),aV3 w3.1 w3.2 (by decide) (by decide) 12 (by decide) (by decide)];have m2:=Int.emod_nonneg n2 (by decide:(30:Int)≠0);have m3:=Int.emod_nonneg n3 (by decide:(100:Int)≠0);have l2:=Int.emod_lt_of_pos n2 (by decide:(0:Int)<30);have l3:=Int.emod_lt_of_pos n3 (by decide:(0:Int)<100);generalize n2%30=r2 at m2 l2;generalize n3%100=r3 at m3 l3;have hq:X8 (8+r2) (12+r3)=true:=by
  unfold X8;simp only[Bool.not_eq_true',Bool.or_eq_false_iff,K6];omega
 refine l5 (ci6 hq ?_);intro bf br Y2 hb;refine l6 rfl ?_
 try dsimp only
 refine K5 (fun j=>j y (gp bf) (gp br) false Y2) ?_ (fun j hj=>l7 rfl hj);refine l7 rfl (H9 ?_);intro R hR;obtain⟨Al,zj⟩:=cD1 _ _ hq;obtain⟨hI0,hB0⟩:=cD2 hq;replace hb:=hb.sub g1;have hE1:=hE;have key:∀ (k i:Nat) (A:AT) (V:H),k+i=10->Bth Y V bf br A->Inv A->Bd (8+40*i) A->A.rl=1->A.qi<=40->R y (gp bf) (gp br) (i:Int) V:=by
  intro k
  induction k using Nat.strongRecOn with
  |ind k ih =>
  intro i A V hk hB hI jm Al zj;refine hR _ _ _ _ _ ?_;refine K5 (fun j=>∀t:Bool,(t=true->i<us.length/\i<10)->j y (gp bf) (gp br) (i:Int) t V) ?_ ?_
  case refine_2 =>
   intro j hj;by_cases h1:i<us.length
   ·refine l9 (M7 (by omega)) (hj _ fun h=>⟨h1,?_⟩);simp only[I6]at h;omega
   ·exact l7 (W4 (by omega)) (hj false fun h=>by cases h)
  intro t ht;cases t with
  |false=>exact l7 rfl (l5 (bT0 (H2 (hK V hB.off))))
  |true =>
  obtain⟨h1,h2⟩:=ht rfl;obtain⟨u,hu⟩:∃u,us[i]?=some u:=⟨_,G0 h1⟩;have hum:=K7 hu;have Dp:(us.map u5V)[i]?=some (u5V u):=by rw[Z6,hu];rfl
  obtain⟨g,o,a1,a2,_⟩:=(hy.gr hB.off).rdA Dp (by decide);refine l9 rfl ?_;rw[a1];refine j0 (D0 ⟨by omega,by omega⟩ (N8 a2 ?_));unfold u5V
  (refine l6 rfl ?_;try dsimp only)
  have hux:=(ye u hum).gr hB.off;obtain⟨nm,inn,gb,args,x⟩:=u;simp only at hux⊢;obtain⟨B,D,hF,hRf,Gx,oB,oD⟩:=id hB;refine l5 (cq6 nm inn gb hux ?_);intro ya Y3 h3
  (refine l6 rfl ?_;try dsimp only)
  refine A5 ?_;intro b35 Y4 g4 e4 n4;refine C1 e4 ci5 ?_;intro Y5 p5;have g5:Gr Y3 Y5:=g4.putF p5 n4;have G5:Gr V Y5:=h3.1.trans g5;have k35:=p5.same;clear p5 e4;refine N8 (D4 k35) ?_
  (refine l6 rfl ?_;try dsimp only)
  have f35:V b35=none:=A9 h3.1 n4;have F5:=hF.gr G5;have R5:=hRf.gr G5;obtain⟨V5,O5,uz⟩:=aB3 Y5 (fun b=>B b\/D b);have O5B:Off V5 Y5 B:=⟨O5.1,fun b o hb hB=>O5.2 b o hb (.inl hB)⟩;have O5D:Off V5 Y5 D:=⟨O5.1,fun b o hb hB=>O5.2 b o hb (.inr hB)⟩;have nB:∀b,V b=none->¬ (B b\/D b):=by
   rintro b hb (h|h)
   ·exact hF.fresh hb h
   ·exact hRf.fresh hb h
  have Gσ:Gr Y V5:=ac6 fun c oc hc=>uz c oc (G5.get (oB.get hc)) (by
   rintro (h|h)
   ·exact oB.2 c oc hc h
   ·exact oD.2 c oc hc h)
  have w35:=uz b35 _ k35 (nB b35 f35);generalize qz:(args.take 6).map (bh9 40)=ar at h3;have rx:∀a∈ar,a.size<=40:=by
   intro a ha;rw[<-qz]at ha;obtain⟨a',_,rfl⟩:=K0.1 ha;exact bT1 _ _
  have uk:ar.length<=6:=by rw[<-qz,Q0,P4];omega
  have hra:af8 V5 ar ya:=cD0 h3 g5 nB uz rx uk;have hN:8+40*i<=500:=by omega
  -- what comes of the call
  obtain⟨d,is,A2,⟨hn,hs⟩,hI2,Cr,Gy,hqi2⟩:=cD3 (i:=i) (nm:=nm) (gb:=bh9 40 gb) hI jm hN zj uk rx Al;refine l5 (cq7 F5 O5B (hE.gr Gσ) nm _ _ hra hI jm hN zj uk rx ⟨hn,hs⟩ ?_);intro Y6 B6 F6 s6;have R6:Z2 Y6 br A D:=R5.keep fun b o ho hd=>(s6 b o ho (fun h=>Gx b h hd)).1;have dis6:∀b,B6 b->¬D b:=fun b hb hd=>by
   cases ho:Y5 b with
   |none=>exact R5.has hd ho
   |some o=>exact(s6 b o ho (fun h=>Gx b h hd)).2 hb
  have O6B:=O5B.sep s6;have O6D:Off V5 Y6 D:=⟨O6B.1,O5D.2⟩;unfold dnF
  (refine l6 rfl ?_;try dsimp only)
  refine A5 ?_;intro b44 Y7 g7 e7 n7;refine C1 e7 ad0 ?_;intro Y8 p8;have g8:Gr Y6 Y8:=g7.putF p8 n7;have k44:=p8.same;clear p8 e7;refine N8 (D4 (g8.get (O6B.get w35))) ?_
  (refine l6 rfl ?_;try dsimp only)
  have R8:=R6.gr g8;have F8:=F6.gr g8;have O8B:=O6B.gr g8;have O8D:=O6D.gr g8;have n44:¬D b44:=R6.fresh n7;have m44:¬B6 b44:=F6.fresh n7;refine l5 (cq8 R8 O8D nm _ _ hra hI jm hN zj uk rx ⟨hn,hs⟩ ?_);intro Y9 D9 R9 s9;have F9:J8 Y9 bf A2 B6:=F8.keep fun b o ho hb=>(s9 b o ho (dis6 b hb)).1;have dis9:∀b,B6 b->¬D9 b:=fun b hb=>by
   obtain⟨o,ho⟩:=F8.has hb;exact(s9 b o ho (dis6 b hb)).2
  have O9D:=O8D.sep s9;have O9B:Off V5 Y9 B6:=⟨O9D.1,O8B.2⟩;have k44:=(s9 b44 _ k44 n44).1;unfold dnF
  (refine l6 rfl ?_;try dsimp only)
  refine A5 ?_;intro b53 Y10 g10 e10 n10;refine C1 e10 ad0 ?_;intro Y11 p11;have g11:Gr Y9 Y11:=g10.putF p11 n10;have k53:=p11.same;clear p11 e10;have k44:=g11.get k44;have F11:=F9.gr g11;have R11:=R9.gr g11;have B11:Bth Y Y11 bf br A2:=⟨B6,D9,F11,R11,dis9,(O9B.gr g11).sub Gσ,(O9D.gr g11).sub Gσ⟩;refine K5 (fun j=>∀Y',Gr Y11 Y'->j y (gp bf) (gp br) (i:Int) false Y') ?_ ?_
  ·intro Y' hg;refine l7 rfl ?_;rw[ab9 (i:=i)];exact ih (k-1) (by omega) (i+1) A2 Y' (by omega) (B11.gr hg) hI2 Cr Gy hqi2
  intro j hj;refine N8 (D4 k44) ?_
  (refine l6 rfl ?_;try dsimp only)
  refine N8 (D4 k53) ?_
  (refine l6 rfl ?_;try dsimp only)
  have e1:(!(C3 d.out d.out&&(C3 d.err d.err&&((d.st==d.st)&&true))))=false:=by
   rw[aP3,aP3];simp
  have e2:(!(is==is))=false:=by simp
  refine l7 e1 (l7 e2 (l5 (cA4 F11 ?_)))
  (refine l6 rfl ?_;try dsimp only)
  obtain⟨M,hM,_⟩:=id R11;refine l5 (br0 hI2 Cr (by omega) hM ?_)
  (refine l6 rfl ?_;try dsimp only)
  have e3:(!((A2.ui==A2.ui)&&((A2.ub==A2.ub)&&true)))=false:=by simp
  refine l7 e3 (l5 (ci7 hI2 Gy Cr (by omega) 13 (bs [47]) Y11 B6 D9 _ (by decide) (by decide) F11 R11 ?_));intro Y12 g12;exact H2 (hj Y12 g12)
 exact key 10 0 _ Y2 rfl hb hI0 hB0 Al (by rw[zj];omega)
end
end
section
def cj0(Y:H)(m:Int):Prop:=∃t fz,Y 0=some (.cells ⟨[.i m]⟩ t fz)
theorem cj0.gr{Y Y':H}{m:Int}(h:cj0 Y m)(hg:Gr Y Y'):cj0 Y' m:=by
 obtain⟨t,fz,h⟩:=h;exact⟨t,fz,hg.get h⟩
end
section
open Go.ChangeShapes Go.WideShapes Go.ChangeAt Go.RowKit
namespace strs1
theorem strs_of{D:Type}{enc:TypeId×u9->D}{W:World}{m n:Nat}:∀ {rows:List (List u9)},(∀r∈rows,m<n/\∃d ps,DataW.trod enc Tryz.prog W 0 (fun _=>true) true m 9 r=some (d,ps))->∃l:List d9,rows=u0 l:=by
 intro rows
 induction rows with
 |nil=>exact fun _=>⟨[],rfl⟩
 |cons r rs ih =>
  intro iq;obtain⟨l,ha⟩:=ih fun r hr=>iq r (E4 _ hr);obtain⟨_,d,ps,hd⟩:=iq r (H7 ..);obtain⟨s,q,_⟩:=DataW.trod_string Tryz.underlying9 hd;exact⟨s::l,by rw[ha,q];rfl⟩
end strs1
end
end Go.Proofs.YtikedigonnlbkaaGreatDoor

namespace Go.Proofs.YtikedigonnlbkaaGreatDoor
open Go Go.HL Go.Wk Go.ChangeShapes Go.WideShapes Go.ChangeAt Go.RowKit
namespace use1
theorem bT3:Tryz.prog.cellsOf 9=1:=by kernel_rfl
theorem cq9:Tryz.prog.cellsOf 30=1:=by kernel_rfl
theorem use_of{D:Type}{enc:TypeId×u9->D}{W:World}{m:Nat}{r:List u9}{x:DataW D×List MemPlace}(h:DataW.trod enc Tryz.prog W 0 (fun _=>true) true m 32 r=some x):∃ (nm:d9) (l:List d9) (y:Sl) (inn gb:d9),r=[.string nm,.slice y.base y.len y.cap,.string inn,.string gb]/\F0 (whole W) 1 (u0 l) y:=by
 obtain⟨xs,n,sg,_,hl,ib,hf⟩:=DataW.trod_struct Tryz.underlying32 h;have hl:r.length=4:=hl.trans (by kernel_rfl);have ib:xs.length=4:=ib;obtain⟨a0,a1,a2,a3,rfl⟩:∃a0 a1 a2 a3,r=[a0,a1,a2,a3]:=by
  match r,hl with
  | [a0,a1,a2,a3],_=>exact⟨_,_,_,_,rfl⟩
 have g:∀i,i<4->∃y,xs[i]?=some y:=fun i hi=>⟨_,G0 (by omega)⟩;have h0:=hf 0 _ rfl;obtain⟨y0,e0⟩:=g 0 (by decide);rw[e0]at h0;obtain⟨s0,q0,_⟩:=DataW.trod_string Tryz.underlying9 h0;have h1:=hf 1 _ rfl;obtain⟨y1,e1⟩:=g 1 (by decide);rw[e1]at h1;have h2:=hf 2 _ rfl;obtain⟨y2,e2⟩:=g 2 (by decide);rw[e2]at h2;obtain⟨s2,q2,_⟩:=DataW.trod_string Tryz.underlying9 h2;have h3:=hf 3 _ rfl;obtain⟨y3,e3⟩:=g 3 (by decide);rw[e3]at h3;obtain⟨s3,q3,_⟩:=DataW.trod_string Tryz.underlying9 h3;have q0:List.take (Tryz.prog.cellsOf 9) (List.drop 0 [a0,a1,a2,a3])=[.string s0]:=q0;have q2:List.take (Tryz.prog.cellsOf 9) (List.drop 2 [a0,a1,a2,a3])=[.string s2]:=q2;have q3:List.take (Tryz.prog.cellsOf 9) (List.drop 3 [a0,a1,a2,a3])=[.string s3]:=q3;have h1:DataW.trod enc Tryz.prog W 0 (fun _=>true) true n 30 (List.take (Tryz.prog.cellsOf 30) (List.drop 1 [a0,a1,a2,a3]))=some y1:=h1;rw[bT3]at q0 q2 q3;rw[cq9]at h1;simp only[List.drop_succ_cons,ac4,List.take_succ_cons,List.take_zero,List.cons.injEq,and_true]at q0 q2 q3 h1;obtain⟨y,rows,hy,pp,_,k,iq⟩:=bF0 Tryz.underlying30 (show Tryz.prog.cellsOf 9=1 by kernel_rfl) (by decide) h1;obtain⟨l,rfl⟩:=strs1.strs_of iq
 exact⟨s0,l,y,s2,s3,by rw[q0,q2,q3,hy],pp⟩
end use1
end Go.Proofs.YtikedigonnlbkaaGreatDoor

namespace Go.Proofs.YtikedigonnlbkaaGreatDoor
open Go Go.HL Go.Wk
section
attribute [local irreducible] i9 E3 A0 I9 l8 H0 C0 stW muW biW W7 imW J0 G8 app E2 J1 D3 E6 oW P0 J5 C9 rfW N5 M9 D5 exW I2 Gr P1
end
section
abbrev T3:Type:=Int×Int×Int
attribute [local irreducible] i9 E3 A0 I9 l8 H0 C0 stW muW biW W7 imW J0 G8 app E2 J1 D3 E6 oW P0 J5 C9 rfW N5 M9 D5 exW I2 Gr P1
end
section
open Go.ChangeShapes Go.WideShapes Go.ChangeAt Go.RowKit
namespace arr3r
theorem u8r{n:Int}(h:(Lit.int .u8 n).wf=true):(0:Int)<=n/\n<=255:=by
 have h1:(decide (IntKind.u8.min<=n)&&decide (n<=IntKind.u8.max))=true:=h;have e1:IntKind.u8.min=0:=by decide
 have e2:IntKind.u8.max=255:=by decide
 rw[e1,e2]at h1;simp only[J4,I6]at h1;exact h1
theorem cs_u8:Tryz.prog.cellsOf 5=1:=by kernel_rfl
end arr3r
end
end Go.Proofs.YtikedigonnlbkaaGreatDoor

namespace Go.Proofs.YtikedigonnlbkaaGreatDoor
open Go Go.HL Go.Wk Go.ChangeShapes Go.WideShapes Go.ChangeAt Go.RowKit
namespace us5
theorem uses_of{D:Type}{enc:TypeId×u9->D}{W:World}{m n:Nat}:∀ {rows:List (List u9)},(∀r∈rows,m<n/\∃d ps,DataW.trod enc Tryz.prog W 0 (fun _=>true) true m 32 r=some (d,ps))->∃us:List U5,rows=us.map u5V/\∀u∈us,F0 (whole W) 1 (u0 u.args) u.x:=by
 intro rows
 induction rows with
 |nil=>exact fun _=>⟨[],rfl,fun _ h=>by cases h⟩
 |cons r rs ih =>
  intro iq;obtain⟨us,ha,hb⟩:=ih fun r hr=>iq r (E4 _ hr);obtain⟨_,d,ps,hd⟩:=iq r (H7 ..);obtain⟨nm,l,y,inn,gb,q,hw⟩:=use1.use_of hd;refine⟨⟨nm,inn,gb,l,y⟩::us,by rw[ha,q];rfl,fun u hu=>?_⟩;rcases G9.1 hu with e|e
  ·rw[e];exact hw
  ·exact hb u e
theorem two_of{D:Type}{enc:TypeId×u9->D}{W:World}{m:Nat}{r:List u9}{x:DataW D×List MemPlace}(h:DataW.trod enc Tryz.prog W 0 (fun _=>true) true m 23 r=some x):∃n2 n3:Int,r=[.int .u8 n2,.int .u8 n3]/\((0:Int)<=n2/\n2<=255)/\((0:Int)<=n3/\n3<=255):=by
 obtain⟨xs,n,_,_,hl,ib,hf⟩:=DataW.trod_array Tryz.underlying23 h;have hl:r.length=2:=hl.trans (by kernel_rfl);obtain⟨a0,a1,rfl⟩:∃a0 a1,r=[a0,a1]:=by
  match r,hl with
  | [a0,a1],_=>exact⟨_,_,rfl⟩
 rw[arr3r.cs_u8]at hf;have g:∀i,i<2->∃y,xs[i]?=some y:=fun i hi=>⟨_,G0 (by omega)⟩;have h0:=hf 0 (by decide);obtain⟨y0,e0⟩:=g 0 (by decide);rw[e0]at h0;obtain⟨n0,q0,_,w0⟩:=DataW.trod_int (k:=.u8) Tryz.underlying5 h0;have h1:=hf 1 (by decide);obtain⟨y1,e1⟩:=g 1 (by decide);rw[e1]at h1;obtain⟨n1,q1,_,w1⟩:=DataW.trod_int (k:=.u8) Tryz.underlying5 h1;have q0:[a0]=[.int .u8 n0]:=q0;have q1:[a1]=[.int .u8 n1]:=q1;simp only[List.cons.injEq,and_true]at q0 q1;exact⟨n0,n1,by rw[q0,q1],arr3r.u8r w0,arr3r.u8r w1⟩
theorem okWide_array{P:Program}{W:World}{r:Reach}{base n:Nat}{t e:TypeId}{v:u9}(ht:P.underlying t=some (.array n e))(h:Value.okWide P W r base t v):∃cs,v=.agg cs/\cs.size=P.cellsOf t:=by
 simp only[Value.okWide,ht]at h;obtain⟨cs,h1,h2,_⟩:=h;exact⟨cs,h1,h2⟩
theorem aI0{P:Program}{W:World}{x:String×DataW Unit}{rest:List (String×DataW Unit)}{ps:List MemPlace}(h:DataW.LaidVars P W (x::rest) ps):∃q,DataW.LaidVars P W rest q:=by
 obtain⟨_,_,_,_,_,q,_,_,_,_,hr,_⟩:=h;exact⟨q,hr⟩
theorem cj1{P:Program}{W:World}{sp:Nat->Bool}{fuel:Nat}{t:TypeId}{cs:List u9}{s:String}{d:DataW Unit}{p:List MemPlace}(hu:(match P.underlying t with|some (.interface _)=>true|_=>false)=true)(h:DataW.trod (fun _=>()) P W 0 sp false fuel t cs=some (.iface s d,p)):∃u v,cs=[.iface u v]:=by
 cases fuel with
 |zero=>simp[DataW.trod]at h
 |succ fuel =>
  cases hq:P.underlying t with
  |none=>rw[hq]at hu;cases hu
  |some k =>
   cases k with
   |interface x =>
    rcases cs with _|⟨c,r⟩
    ·simp[DataW.trod,hq]at h
    ·cases r with
     |cons _ _=>cases c<;>simp[DataW.trod,hq]at h
     |nil=>cases c<;>first|exact⟨_,_,rfl⟩|simp[DataW.trod,hq]at h
   |_=>rw[hq]at hu;cases hu
theorem err_of{W:World}(h:laidMet Tryz.prog Rows.filesDoRow.laid W):ErS (whole W):=by
 obtain⟨ps,h,_⟩:=h;obtain⟨_,h⟩:=aI0 h;obtain⟨_,h⟩:=aI0 h;obtain⟨_,h⟩:=aI0 h;obtain⟨_,h⟩:=aI0 h;obtain⟨_,h⟩:=aI0 h;obtain⟨g,t,cs,fuel,p,q,hg,hty,qo,hd,_,_⟩:=h;obtain rfl:g=1:=Option.some.inj (hg.symm.trans (by kernel_rfl));obtain rfl:t=160:=Option.some.inj (hty.symm.trans (by kernel_rfl));obtain⟨u,v,pe⟩:=cj1 (by kernel_rfl) hd;unfold World.var? at qo;rw[hg]at qo;simp only[Option.bind_some]at qo;unfold ErS whole;cases hb:W.heap[1]? with
 |none=>rw[hb]at qo;cases qo
 |some o =>
  rw[hb]at qo;cases o with
  |cells cs' t' fz =>
   simp only[Option.some.injEq]at qo;refine⟨u,v,[],t',fz,?_⟩;rw[qo,<- pe]
  |_=>cases qo
end us5
end Go.Proofs.YtikedigonnlbkaaGreatDoor

