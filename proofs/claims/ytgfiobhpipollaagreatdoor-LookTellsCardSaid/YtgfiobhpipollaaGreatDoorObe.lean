/- A part of a proof. -/
import Derived.Test.YtgfiobhpipollaaGreatDoorObd
import Derived.Sort.Walk0
import Derived.WalkKit
import Derived.ProofKit
import Derived.OpenShut
import Derived.Deep.DeepHandedRow
set_option maxRecDepth 100000
namespace Go.Proofs.YtgfiobhpipollaaGreatDoor
open Go Go.HL Go.Wk
attribute [local irreducible] j0 w6 l8 A2 l4 A9 w9 U3 V0 R1 M7 V2 C1 y6 app A4 C9 u7 sizeT oW H8 F2 l9 U5 H2 G1 y9 V1 B2 Gr L6
theorem bz1:sizeT Tryz.prog 127=some 2:=by kernel_rfl
theorem cx5 {l:List UInt8} {i:Nat} (hi:i<=l.length) (hn:(10:UInt8)∉l.take i) (he:i=l.length\/l[i]? = some 10):(ac9 10 l).1=l.take i/\(ac9 10 l).2=if i=l.length then none else some (l.drop (i+1)):=by
 by_cases h:i=l.length
 ·subst h
  rw[V7]at hn ⊢
  rw[aD4 10 l hn,d9 rfl];exact⟨rfl,rfl⟩
 ·have he:=he.resolve_left h
  have hl:l=l.take i++10::l.drop (i+1):=by
   rw[<-ac6 he,List.take_append_drop]
  have hc:ac9 10 l=(l.take i,some (l.drop (i+1))):=by
   have:=aD5 10 (l.drop (i+1)) (l.take i) hn
   rw[<-hl]at this;exact this
  rw[hc,c0 h];exact⟨rfl,rfl⟩
theorem bt1 {σ:H} {K:KH} (s:List UInt8) (hs:s.length<=900000)
 (hS:∀d x y σ',ad0 s=some d->Gr σ σ'->aI0 σ' d x y->aR7 d->K (.tuple ⟨[.agg ⟨drC d.name x y d.script⟩,.agg ⟨[.int .i64 0,.int .i64 0]⟩]⟩) σ')
 (hF:ad0 s=none -> ∀e n σ',e≠0->Gr σ σ'->K (.tuple ⟨[.agg ⟨drC ⟨⟨[]⟩⟩ slN slN ⟨⟨[]⟩⟩⟩,.agg ⟨[.int .i64 e,.int .i64 n]⟩]⟩) σ'):a8 100 [.string ⟨⟨s⟩⟩] K σ:=by
 refine dt0 _ ?_
 unfold cE1
 refine x0 ?_;intro b2 σ1 g1 e1 m1
 refine x0 ?_;intro b3 σ2 g2 e2 m2
 refine x0 ?_;intro b4 σ3 g3 e3 m3
 refine w4 e3 ap5 ?_
 intro σ4 p4
 refine x0 ?_;intro b5 σ5 g5 e5 m5
 refine w4 e5 aB8 ?_
 intro σ6 p6
 have n32:b3≠b2:=(o0 e1 m2).symm
 have n45:b4≠b5:=o0 p4.same m5
 have m5':σ2 b5=none:=C3 (g3.putF p4 m3) m5
 have G26:Gr σ2 σ6:=(g3.putF p4 m3).trans (g5.putF p6 m5)
 have G2:Gr σ σ2:=g1.trans g2
 have q2:=g2.get e1
 have q3:=e2
 have bx : ∀ {τ1 τ3:H} {e:TypeId} {k:Nat} {rows:List (List Value)} {z:Sl},E7 σ2 τ1 e k rows z->(∀c o,c≠b2->c≠b3->τ1 c=some o->τ3 c=some o)->w7 τ3 k rows z:=fun h kp=>(h.2.1.keep fun g o hg ho=>kp g o (fun e=>by have:=h.2.2 g hg;rw[e,q2]at this;cases this) (fun e=>by have:=h.2.2 g hg;rw[e,q3]at this;cases this) ho).rows
 have bad : ∀ (e n : Int) (τ : H), e ≠ 0 -> Gr σ2 τ -> ad0 s = none -> t8 113 (.pointer (some ⟨b2, 0, none⟩)) (.agg ⟨[.string (⟨⟨[]⟩⟩ : ByteArray), .slice none 0 0, .slice none 0 0, .string (⟨⟨[]⟩⟩ : ByteArray)]⟩) (t8 127 (.pointer (some ⟨b3, 0, none⟩)) (.agg ⟨[.int .i64 e, .int .i64 n]⟩) (j0 (some ⟨b2, 0, none⟩) (fun (b41 o42 : Nat) =>
                     l4 (rdA 4 b41 o42) (.one (.agg [.str,.slc,.slc,.str])) (fun(r43:ByteArray) (r44:Sl) (r45:Sl) (r46:ByteArray) =>
                     j0 (some ⟨b3,0,none⟩) (fun(b47 o48:Nat) =>
                     l4 (rdA 2 b47 o48) (.one (.agg [(.int .i64),(.int .i64)])) (fun(r49:Int) (r50:Int) =>
                     K (.tuple ⟨[.agg ⟨[.string r43,.slice r44.base r44.len r44.cap,.slice r45.base r45.len r45.cap,.string r46]⟩,.agg ⟨[.int .i64 r49,.int .i64 r50]⟩]⟩))))))) τ:=by
  intro e n τ he hg hp
  refine w4 (hg.get q2) ap5 ?_
  intro τ1 p1
  refine w4 (p1.get n32 (hg.get q3)) bz1 ?_
  intro τ2 p2
  have c2:=p2.get n32.symm p1.same
  refine i6 (A3 (l7 c2 (by rfl)) (k0 rfl ?_))
  try dsimp only
  refine i6 (A3 (l7 p2.same (by rfl)) (k0 rfl ?_))
  try dsimp only
  exact hF hp e n τ2 he (P0 fun c o ho=>p2.get (fun e=>by subst e;rw[C3 g1 m2]at ho;cases ho) (p1.get (fun e=>by subst e;rw[m1]at ho;cases ho) (hg.get (G2.get ho))))
 refine u5 ?_
 intro R hR
 have key : ∀ (f c:Nat) (d:DvP) (n:Int) (x y:Sl) (r:List UInt8) (τ:H),RlK σ2 τ b4 b5 d (stI c) x y->DvJ d->c<=3->r.length<=900000->r.length<f->ad0 s=aM4 f c d r->R ⟨⟨r⟩⟩ (some ⟨b2,0,none⟩) (some ⟨b3,0,none⟩) (some ⟨b4,0,none⟩) (some ⟨b5,0,none⟩) n τ:=by
  intro f
  induction f with
  | zero=>intro c d n x y r τ _ _ _ _ hf;omega
  | succ f ih =>
   intro c d n x y r τ hk hJ hc hr hf hp
   rw[aG8]at hp
   have hsz:(⟨⟨r⟩⟩:ByteArray).size=r.length:=rfl
   refine hR _ _ _ _ _ _ _ ?_
   refine u5 ?_
   intro R2 hR2
   have find : ∀ (m i:Nat),i+m=r.length->(10:UInt8)∉r.take i->R2 ⟨⟨r⟩⟩ (some ⟨b2,0,none⟩) (some ⟨b3,0,none⟩) (some ⟨b4,0,none⟩) (some ⟨b5,0,none⟩) n (i:Int) τ:=by
    intro m
    induction m using Nat.strongRecOn with
    | ind m ihm =>
    intro i him hni
    refine hR2 _ _ _ _ _ _ _ _ (S9 (fun j => ∀q:Bool,(q=false->i=r.length\/r[i]? = some 10)->(q=true -> ∃c,r[i]? = some c/\c≠10)->j ⟨⟨r⟩⟩ (some ⟨b2,0,none⟩) (some ⟨b3,0,none⟩) (some ⟨b4,0,none⟩) (some ⟨b5,0,none⟩) n (i:Int) q τ) ?_ ?_)
    ·intro q hq1 hq2
     cases q with
     | true =>
      obtain⟨ch,hch,hne⟩:=hq2 rfl
      have hlt:i<r.length:=by
       rcases F6 i r.length with h | h
       ·exact h
       ·rw[L4 h]at hch;cases hch
      refine l3 rfl ?_
      rw[C7 (i:=i)]
      refine ihm (m - 1) (by omega) (i+1) (by omega) ?_
      rw[Q3,hch]
      intro hm
      rcases N0.1 hm with hm | hm
      ·exact hni hm
      ·have hm:(10:UInt8)∈[ch]:=hm
       rw[ak2]at hm;exact hne hm.symm
     | false =>
      obtain⟨ct1,ct2⟩:=cx5 (by omega) hni (hq1 rfl)
      rw[ct1,ct2]at hp
      refine k9 rfl (l5 ⟨B3 (by omega) (by rw[hsz];omega),H1⟩ ?_)
      rw[B0,bex,ad8]
      have htl:(r.take i).length<=900000:=by rw[F0];omega
      obtain⟨pz1,pz2⟩:=bj6 (c:=32) htl
      have hpl:0<(J3 32 ⟨⟨r.take i⟩⟩).length:=by rw[am3];omega
      refine i7 (bt0 (r.take i) (by omega) fun wx τ1 hn=>Q7 ?_)
      generalize J3 32 ⟨⟨r.take i⟩⟩=w at *
      have hk1:=hk.gr hn.1
      refine i7 (bI5 hk1 hJ hc hn.at hpl pz1 pz2 (fun hl e τ2 he hg=>B6 ?_) (fun d' c' hl τ2 x' y' hk2=>B6 ?_))
      ·rw[hl]at hp
       refine S9 (fun j => ∀ (e:Int),e≠0->j ⟨⟨r⟩⟩ (some ⟨b2,0,none⟩) (some ⟨b3,0,none⟩) (some ⟨b4,0,none⟩) (some ⟨b5,0,none⟩) n (i:Int) e τ2) ?_ ?_
       ·intro e he
        exact l3 (by simpa using he) (bad e n τ2 he hg hp)
       ·intro j hj
        refine j_d ?_
        refine k9 (by simpa using he) (k9 rfl (hj e he))
      ·rw[hl]at hp
       obtain⟨ok1,ok2,ok3⟩:=bf6 hl pz2 hJ
       by_cases hi:i=r.length
       ·rw[d9 hi]at hp
        refine S9 (fun j => ∀ (e:Int),e≠0->j ⟨⟨r⟩⟩ (some ⟨b2,0,none⟩) (some ⟨b3,0,none⟩) (some ⟨b4,0,none⟩) (some ⟨b5,0,none⟩) n (i:Int) e τ2) ?_ ?_
        ·intro e he
         exact l3 (by simpa using he) (bad e n τ2 he hk2.hx.1 hp)
        ·intro j hj
         refine j_d ?_
         refine l3 rfl (l3 (by rw[hsz,hi];simp) (hj 4 (by decide)))
       ·rw[c0 hi]at hp
        refine S9 (fun j=>j ⟨⟨r⟩⟩ (some ⟨b2,0,none⟩) (some ⟨b3,0,none⟩) (some ⟨b4,0,none⟩) (some ⟨b5,0,none⟩) n (i:Int) 0 τ2) ?_ ?_
        ·have w1:IntKind.i64.wrap ((i:Int)+1)=((i+1:Nat):Int):=by rw[n0 (by omega) (by omega)];omega
         refine k9 rfl ?_
         rw[w1,hsz,B0,bex,V7]
         refine l5 ⟨H1,B3 (by omega) (by omega)⟩ (i6 (E9 (f0 hk2.stc (by rfl)) ?_))
         have hdl:(r.drop (i+1)).length<=900000:=by rw[M1];omega
         have hdf:(r.drop (i+1)).length<f:=by rw[M1];omega
         generalize r.drop (i+1)=r' at *
         have hp:ad0 s=aD6 f c' d' r':=hp
         by_cases h4:c'=4
         ·subst h4
          rw[aD6,d9 rfl]at hp
          refine l3 (by decide) ?_
          by_cases hl4:r'.length<=4000
          ·rw[d9 hl4]at hp
           refine k9 (by simp only[C2];show ¬ ((r'.length:Nat):Int)>4000;omega) (i6 (w4 hk2.cell av8 ?_))
           intro τ3 p3
           have hx1:=hk2.hx.putF p3 hk2.hb hk2.nx
           have hy1:=hk2.hy.putF p3 hk2.hb hk2.ny
           refine i6 (A3 (l7 p3.same (by rfl)) (k0 rfl ?_))
           try dsimp only
           refine w4 (hx1.1.get q2) ap5 ?_
           intro τ4 p4
           refine w4 (p4.get n32 (hx1.1.get q3)) bz1 ?_
           intro τ5 p5
           have c2:=p5.get n32.symm p4.same
           refine i6 (A3 (l7 c2 (by rfl)) (k0 rfl ?_))
           try dsimp only
           refine i6 (A3 (l7 p5.same (by rfl)) (k0 rfl ?_))
           try dsimp only
           have kp : ∀c o,c≠b2->c≠b3->τ3 c=some o->τ5 c=some o:=fun c o k2 k3 ho=>p5.get k3 (p4.get k2 ho)
           have hfn:=hS _ x' y' τ5 hp (P0 fun c o ho=>kp c o (fun e=>by rw[e,m1]at ho;cases ho) (fun e=>by rw[e,C3 g1 m2]at ho;cases ho) (hx1.1.get (G2.get ho))) ⟨bx hx1 kp,bx hy1 kp⟩ (bV7 ok3 r')
           exact hfn
          ·rw[c0 hl4]at hp
           refine l3 (by simp only[z8];show((r'.length:Nat):Int)>4000;omega) ?_
           exact bad 3 _ τ2 (by decide) hk2.hx.1 hp
         ·rw[aD6,c0 h4]at hp
          have hs3:(stI c'==3)=false:=by
           have:c'<=3:=by omega
           match c',this with
           | 0,_=>rfl
           | 1,_=>rfl
           | 2,_=>rfl
           | 3,_=>rfl
          refine k9 hs3 ?_
          exact ih c' d' _ x' y' r' τ2 hk2 ok3 (by omega) hdl hdf hp
        ·intro j hj
         refine j_d ?_
         refine l3 rfl (k9 (by rw[hsz];simp only[M9,ne_eq];omega) hj)
    ·intro j hj
     by_cases hi:i<r.length
     ·obtain⟨ch,hch⟩ : ∃ch,r[i]? = some ch:=⟨_,B9 hi⟩
      refine l3 (by rw[hsz];simp only[z8];omega) (M3 (c:=ch) (by omega) hch ?_)
      have hb:(((ch.toNat:Nat):Int) != 10)=(ch != 10):=by rw[bne,show(((ch.toNat:Nat):Int)==10)=(ch==10)from aO4 ch 10];rfl
      rw[hb]
      refine hj _ (fun hq => .inr ?_) fun hq=>⟨ch,hch,by simpa using hq⟩
      have:ch=10:=by simpa using hq
      rw[hch,this]
     ·exact k9 (by rw[hsz];simp only[C2];omega) (hj false (fun _ => .inl (by omega)) fun h=>by cases h)
   exact find r.length 0 (by omega) (by simp)
 exact key (s.length+1) 0 DvP.z 0 ⟨none,0,0⟩ ⟨none,0,0⟩ s σ6 ⟨p6.get n45 (g5.get p4.same),p6.same,E7.nil' G26 _ _,E7.nil' G26 _ _,(fun g h=>by cases h),(fun h=>by cases h),(fun h=>by cases h),(fun h=>by cases h),(fun h=>by cases h),m3,m5',n45⟩ DvJ.z (by decide) hs (Nat.lt_succ_self _) rfl
theorem aP5:sizeT Tryz.prog 28=some 2:=by kernel_rfl
section
variable {σ : H} {K : KH}
theorem dj1 {a b:List ByteArray} {x y:Sl} (hx:w7 σ 1 (n9 a) x) (hy:w7 σ 1 (n9 b) y) (hn:a.length<=1000000000) (hK:K (.bool (ae6 a b)) σ):a8 39 [.slice x.base x.len x.cap,.slice y.base y.len y.cap] K σ:=by
 refine c39 _ _ ?_
 unfold g39
 have ha:=ac4 hx
 have hb:=ac4 hy
 refine G8 (fun h => ?_) (fun h => ?_)
 ·rw[aT9 (by simp at h;omega)]at hK;exact hK
 have hab:a.length=b.length:=by simp at h;omega
 refine u5 ?_
 intro R hR
 have key : ∀ (r q:List ByteArray) (i:Nat),a.drop i=r->b.drop i=q->ae6 a b=ae6 r q->R x y ((x.len:Nat):Int) (i:Int) σ:=by
  intro r
  induction r with
  | nil =>
   intro q i hd hq he
   have h4:a.length<=i:=by simpa using hd
   have h5:q=[]:=by rw[<-hq];exact M8 (by omega)
   subst h5
   refine hR _ _ _ _ _ (k9 (by rw[ha];exact J6) ?_)
   rw[he]at hK;exact hK
  | cons s r ih =>
   intro q i hd hq he
   obtain⟨h1,h2,h3⟩:=P7 hd
   obtain⟨u,hu⟩ : ∃u,b[i]? = some u:=⟨_,B9 (by omega)⟩
   have hq':q=u::b.drop (i+1):=by rw[<-hq];exact ac6 hu
   subst hq'
   obtain⟨g,o,q1,q2,q3⟩:=U7 hx h1
   obtain⟨g',o',p1,p2,p3⟩:=U7 hy hu
   refine hR _ _ _ _ _ (l3 (by rw[ha];exact C8) ?_)
   rw[q1]
   refine i6 (l5 (L1 x.len) (y8 q3 ?_))
   rw[p1]
   refine i6 (l5 (L1 y.len) (y8 p3 ?_))
   rw[Z6]
   simp only[ae6]at he
   refine G8 (fun hb => ?_) (fun hb => ?_)
   ·have:(s==u)=false:=by simpa using hb
    rw[he,this]at hK;exact hK
   ·have:(s==u)=true:=by simpa using hb
    rw[this,C4]at he
    rw[C7 (i:=i)]
    exact ih _ (i+1) h3 rfl he
 exact key a b 0 rfl rfl rfl
theorem aW3 {a b:List ByteArray} {x y:Sl} (hx:w7 σ 1 (n9 a) x) (hy:w7 σ 1 (n9 b) y) (hn:a.length<=1000000000) (hK:K (.bool (ae6 a b)) σ):a8 12 [.slice x.base x.len x.cap,.slice y.base y.len y.cap] K σ:=by
 refine c12 _ _ ?_
 unfold g12
 have ha:=ac4 hx
 have hb:=ac4 hy
 refine G8 (fun h => ?_) (fun h => ?_)
 ·rw[aT9 (by simp at h;omega)]at hK;exact hK
 have hab:a.length=b.length:=by simp at h;omega
 refine u5 ?_
 intro R hR
 have key : ∀ (r q:List ByteArray) (i:Nat),a.drop i=r->b.drop i=q->ae6 a b=ae6 r q->R x y (i:Int) σ:=by
  intro r
  induction r with
  | nil =>
   intro q i hd hq he
   have h4:a.length<=i:=by simpa using hd
   have h5:q=[]:=by rw[<-hq];exact M8 (by omega)
   subst h5
   refine hR _ _ _ _ (k9 (by rw[ha];exact J6) ?_)
   rw[he]at hK;exact hK
  | cons s r ih =>
   intro q i hd hq he
   obtain⟨h1,h2,h3⟩:=P7 hd
   obtain⟨u,hu⟩ : ∃u,b[i]? = some u:=⟨_,B9 (by omega)⟩
   have hq':q=u::b.drop (i+1):=by rw[<-hq];exact ac6 hu
   subst hq'
   obtain⟨g,o,q1,q2,q3⟩:=U7 hx h1
   obtain⟨g',o',p1,p2,p3⟩:=U7 hy hu
   refine hR _ _ _ _ (l3 (by rw[ha];exact C8) ?_)
   rw[q1]
   refine i6 (l5 (L1 x.len) (y8 q3 ?_))
   rw[p1]
   refine i6 (l5 (L1 y.len) (y8 p3 ?_))
   rw[Z6]
   simp only[ae6]at he
   refine G8 (fun hb => ?_) (fun hb => ?_)
   ·have:(s==u)=false:=by simpa using hb
    rw[he,this]at hK;exact hK
   ·have:(s==u)=true:=by simpa using hb
    rw[this,C4]at he
    rw[C7 (i:=i)]
    exact ih _ (i+1) h3 rfl he
 exact key a b 0 rfl rfl rfl
def bb3 (σ:H) (S:H9) (x1 x2:Sl):Prop:=am2 σ S.paths x1/\w7 σ 1 (n9 S.roots) x2
theorem bb3.gr {σ σ':H} {S:H9} {x1 x2:Sl} (h:bb3 σ S x1 x2) (hg:Gr σ σ'):bb3 σ' S x1 x2:=⟨h.1.gr hg,h.2.gr hg⟩
def stV (x1 x2:Sl):Value := .agg ⟨[.slice x1.base x1.len x1.cap,.slice x2.base x2.len x2.cap]⟩
variable {S T U : H9} {x1 x2 y1 y2 z1 z2 : Sl}
theorem aP6 (hK:K (stV x1 x2) σ):a8 10 [stV x1 x2] K σ:=by
 refine B7 _ hK (c10 _ _ ?_)
 clear hK
 unfold g10
 refine x0 ?_;intro b3 σ1 g1 e1 n1
 refine x0 ?_;intro b4 σ2 g2 e2 n2
 refine A7 (f0 (g2.get e1)) (A7 (f0 (g2.get e1)) ?_)
 refine w4 e2 aP5 ?_
 intro σ3 p3
 refine A3 (l7 p3.same) ?_
 (refine k0 rfl ?_;try dsimp only)
 exact⟨rfl,g1.trans (g2.putF p3 n2)⟩
theorem aW4 (n d:List UInt8) (hn:n.length<=1000000) (hd:d.length<=100000) (hK:K (.agg ⟨U4 (bC4 n d) ⟨none,0,0⟩⟩) σ):a8 20 [.string ⟨⟨n⟩⟩,.string ⟨⟨d⟩⟩] K σ:=by
 refine B7 _ hK (c20 _ _ ?_)
 clear hK
 unfold g20 bC4
 refine x0 ?_;intro b3 σ1 g1 e1 n1
 have hsz:(⟨⟨d⟩⟩:ByteArray).size=d.length:=rfl
 have hnz:(⟨⟨[]⟩⟩:ByteArray).size=0:=rfl
 refine i7 (aZ8 (.mk ⟨⟨[]⟩⟩ 1 false ⟨⟨d⟩⟩ []) ⟨none,0,0⟩ ⟨rfl,.inl rfl⟩ (by simp only[Tr.total,Tr.totalRow];omega) ?_)
 refine k0 rfl ?_
 dsimp only
 have hle:(D1 (.mk ⟨⟨[]⟩⟩ 1 false ⟨⟨d⟩⟩ [])).1.length<=1000000:=by
  unfold D1
  split
  ·simp
  ·split
   ·simp
   ·rename_i h;simp only at h ⊢;omega
 generalize D1 (.mk ⟨⟨[]⟩⟩ 1 false ⟨⟨d⟩⟩ [])=N at *
 refine i7 (aV7 N.1 n hle hn (k0 rfl ?_))
 dsimp only
 generalize U9 N.1 n=Q at *
 refine S9 (fun j => ∀bb:Bool,bb=(N.2 != 0||Q.2 != 0)->j (some ⟨b3,0,none⟩) ⟨⟨N.1⟩⟩ ⟨⟨Q.1⟩⟩ bb σ1) ?_ ?_
 ·intro bb hb
  refine G8 (fun h => ?_) (fun h => ?_)
  ·rw[d9 (by rw[<-hb];exact h)]
   refine w4 e1 W5 ?_
   intro σ2 p2
   refine i6 (A3 (l7 p2.same) ?_)
   (refine k0 rfl ?_;try dsimp only)
   exact⟨rfl,g1.putF p2 n1⟩
  ·rw[c0 (by rw[<-hb,h];simp)]
   refine w4 e1 W5 ?_
   intro σ2 p2
   refine i6 (A3 (l7 p2.same) ?_)
   (refine k0 rfl ?_;try dsimp only)
   exact⟨rfl,g1.putF p2 n1⟩
 intro j hj
 refine G8 (fun h => ?_) (fun h => ?_)
 ·exact hj _ (by rw[h];rfl)
 ·exact hj _ (by rw[h];rfl)
end
theorem aP7:I3 Tryz.prog 32=true:=by kernel_rfl
theorem bz2:sizeT Tryz.prog 39=some 1:=by kernel_rfl
theorem aH4:sizeT Tryz.prog 60=some 1:=by kernel_rfl
theorem aP8:Tryz.prog.underlying 39=some (.map 9 3):=by kernel_rfl
def bX0 (b9 b11 b3 b12:Nat):Value := .func (.func 32) ⟨[]⟩ ⟨[.pointer (some ⟨b9,0,none⟩),.pointer (some ⟨b11,0,none⟩),.pointer (some ⟨b3,0,none⟩),.pointer (some ⟨b12,0,none⟩)]⟩
section
variable {ρ : H} {S : H9} {x1 x2 : Sl} {m b3 b9 b10 b11 b12 : Nat}
theorem cj3 (hz:Sm S) (hρ:as7 ρ S x1 x2 m) (c9:ρ b9=some (.cells ⟨[.slice x1.base x1.len x1.cap,.slice x2.base x2.len x2.cap,.map (some m)]⟩ 55 (0,0))) (c11:ρ b11=some (.cells ⟨[.map (some b10)]⟩ 39 (0,0)))
 (c3:ρ b3=some (.cells ⟨[.slice x1.base x1.len x1.cap,.slice x2.base x2.len x2.cap]⟩ 28 (0,0))) (c12:ρ b12=some (.cells ⟨[bX0 b9 b11 b3 b12]⟩ 60 (0,0))) (hn:ρ b10=none) :
 ∀ (f:Nat) (L:List ByteArray) (s:ByteArray) {σ:H},Gr ρ σ->I6 σ b10 (M6 kkS aj9 (ent L))->cnt S L<=f -> ∀ {K:KH},(∀σ',Gr ρ σ'->I6 σ' b10 (M6 kkS aj9 (ent (dfs S f s L)))->K (.tuple ⟨[]⟩) σ') ->
  a8 32 [.string s,.pointer (some ⟨b9,0,none⟩),.pointer (some ⟨b11,0,none⟩),.pointer (some ⟨b3,0,none⟩),.pointer (some ⟨b12,0,none⟩)] K σ:=by
 intro f
 induction f with
 | zero =>
  intro L s σ hg hm hc K hK
  refine c32 _ _ _ _ _ ?_
  unfold g32
  refine S9 (fun j => ∀bb:Bool,bb=true->j s (some ⟨b11,0,none⟩) (some ⟨b3,0,none⟩) (some ⟨b12,0,none⟩) bb σ) ?_ ?_
  ·intro bb hb
   exact l3 hb (hK σ hg hm)
  intro j hj
  refine i6 (A3 (l7 (hg.get c9)) ?_)
  (refine k0 rfl ?_;try dsimp only)
  refine i7 (ba5 s (hρ.gr hg) (y7 ?_))
  cases hs:S.is s with
  | false=>exact l3 rfl (hj _ rfl)
  | true =>
   have hL:L.contains s=true:=by
    cases h:L.contains s with
    | true=>rfl
    | false=>have:=aD1 hs h;omega
   refine k9 rfl (i6 (aL1 (f0 (hg.get c11)) ?_))
   refine A3 (ao0 (kk:=kkS) (f:=aj9) hm _ false s) ?_
   rw[bN3,hL]
   refine B6 ?_
   exact hj _ rfl
 | succ f ih =>
  intro L s σ hg hm hc K hK
  refine c32 _ _ _ _ _ ?_
  unfold g32
  refine S9 (fun j => ∀bb:Bool,bb=(!S.is s||L.contains s)->j s (some ⟨b11,0,none⟩) (some ⟨b3,0,none⟩) (some ⟨b12,0,none⟩) bb σ) ?_ ?_
  ·intro bb hb
   refine G8 (fun h => ?_) (fun h => ?_)
   ·refine hK σ hg ?_
    unfold dfs
    rw[d9 (by rw[<-hb];exact h)];exact hm
   rw[h]at hb
   have hb':=hb.symm
   simp only[Bool.or_eq_false_iff,Bool.not_eq_false']at hb'
   obtain⟨hs,hL⟩:=hb'
   refine i6 (aL1 (f0 (hg.get c11)) ?_)
   refine az4 (kk:=kkS) (f:=aj9) aP8 af0 hm s 1 ?_
   intro o1 σ1 p1 m1
   rw[cp8 hL]at m1
   have hg1:Gr ρ σ1:=hg.putF p1 hn
   have hcl:=aD1 hs hL
   refine i6 (A7 (f0 (hg1.get c3)) ?_)
   have hl:=hρ.1.len
   have hnp:=hz.np
   refine u5 ?_
   intro R hR
   have hK' : ∀σ',Gr ρ σ'->I6 σ' b10 (M6 kkS aj9 (ent (S.paths.foldl (fun L p=>if p.path==s then p.refs.foldl (fun L r=>dfs S f r L) L else L) (L++[s]))))->K (.tuple ⟨[]⟩) σ':=by
    intro σ' h1 h2
    refine hK σ' h1 ?_
    unfold dfs
    rw[c0 (by rw[<-hb];simp)];exact h2
   have key : ∀ (r:List B4) (i:Nat) (M:List ByteArray) (τ:H),S.paths.drop i=r->Gr ρ τ->I6 τ b10 (M6 kkS aj9 (ent M))->(∀u∈L++[s],u∈M) ->
    S.paths.foldl (fun L p=>if p.path==s then p.refs.foldl (fun L r=>dfs S f r L) L else L) (L++[s])=r.foldl (fun L p=>if p.path==s then p.refs.foldl (fun L r=>dfs S f r L) L else L) M->R s (some ⟨b12,0,none⟩) x1 ((x1.len:Nat):Int) (i:Int) τ:=by
    intro r
    induction r with
    | nil =>
     intro i M τ hd hgτ hmτ hsub he
     have h5:S.paths.length<=i:=by simpa using hd
     refine hR _ _ _ _ _ _ (k9 (by rw[hl];exact J6) ?_)
     exact hK' τ hgτ (by rw[he];exact hmτ)
    | cons p r ihr =>
     intro i M τ hd hgτ hmτ hsub he
     obtain⟨d1,d2,d3⟩:=P7 hd
     obtain⟨g,o,y,q1,q2,q3,q4⟩:=(hρ.1.gr hgτ).get d1
     have hps:=hz.pa p (F7 d1)
     refine hR _ _ _ _ _ _ (l3 (by rw[hl];exact C8) ?_)
     refine j_d ?_
     have next : ∀ (τ':H) (M':List ByteArray),Gr ρ τ'->I6 τ' b10 (M6 kkS aj9 (ent M'))->(∀u∈M,u∈M')->M'=(if p.path==s then p.refs.foldl (fun L r=>dfs S f r L) M else M)->R s (some ⟨b12,0,none⟩) x1 ((x1.len:Nat):Int) (IntKind.i64.wrap ((i:Int)+1)) τ':=by
      intro τ' M' a1 a2 a3 a4
      rw[C7 (i:=i)]
      refine ihr (i+1) M' τ' d3 a1 a2 (fun u hu=>a3 u (hsub u hu)) ?_
      rw[he,Q0,a4]
     rw[q1]
     refine i6 (l5 (L1 x1.len) (A3 q3 ?_))
     unfold U4
     (refine k0 rfl ?_;try dsimp only)
     refine x0 ?_;intro b36 τ1 k1 f1 w1
     refine w4 f1 W5 ?_
     intro τ2 p2
     have K2:Gr τ τ2:=k1.putF p2 w1
     have hg2:=hgτ.trans K2
     have hm2:=hmτ.gr K2
     refine y8 (f0 p2.same) ?_
     rw[Z6]
     refine G8 (fun hb => ?_) (fun hb => ?_)
     ·refine A7 (f0 p2.same) ?_
      have q5:w7 ρ 1 (n9 p.refs) y\/True := .inr trivial
      have hrl:y.len=p.refs.length:=ac4 q4
      refine u5 ?_
      intro R2 hR2
      obtain⟨rowsρ,hrρ,hpρ⟩:=hρ.1
      obtain⟨yρ,hy1,hy2⟩:=hpρ.get d1
      have hyy:yρ=y:=by
       obtain⟨g1,o1,z1,z2,_⟩:=hrρ.rdA hy1 (by decide)
       have z3:=co9 hgτ z2
       rw[q1]at z1;injection z1 with z1;injection z1 with ea eb;subst ea;subst eb
       rw[q3]at z3
       injection z3 with z3;injection z3 with z3;injection z3 with z3
       unfold U4 at z3
       simp only[List.cons.injEq,Value.slice.injEq,true_and,and_true]at z3
       obtain⟨w1,w2,w3⟩:=z3
       obtain⟨ya,yb,yc⟩:=y
       obtain⟨za,zb,zc⟩:=yρ
       simp only at w1 w2 w3
       rw[w1,w2,w3]
      rw[hyy]at hy2
      have key2 : ∀ (t:List ByteArray) (k:Nat) (M2:List ByteArray) (τ':H),p.refs.drop k=t->Gr ρ τ'->I6 τ' b10 (M6 kkS aj9 (ent M2))->(∀u∈M,u∈M2)->p.refs.foldl (fun L r=>dfs S f r L) M=t.foldl (fun L r=>dfs S f r L) M2 ->
       R2 s (some ⟨b12,0,none⟩) x1 ((x1.len:Nat):Int) (i:Int) y ((y.len:Nat):Int) (k:Int) τ':=by
       intro t
       induction t with
       | nil =>
        intro k M2 τ' hd2 hg3 hm3 hsub2 he2
        have h5:p.refs.length<=k:=by simpa using hd2
        refine hR2 _ _ _ _ _ _ _ _ _ (k9 (by rw[hrl];exact J6) ?_)
        exact next τ' M2 hg3 hm3 hsub2 (by rw[d9 hb,he2];rfl)
       | cons u t iht =>
        intro k M2 τ' hd2 hg3 hm3 hsub2 he2
        obtain⟨t1,t2,t3⟩:=P7 hd2
        obtain⟨g',o',v1,v2,v3⟩:=U7 (hy2.gr hg3) t1
        refine hR2 _ _ _ _ _ _ _ _ _ (l3 (by rw[hrl];exact C8) ?_)
        rw[v1]
        refine i6 (l5 (L1 y.len) (y8 v3 ?_))
        refine i6 (ag2 (f0 (hg3.get c12)) ?_)
        have hcm:cnt S M2<=f:=F5 (bf2 fun u hu=>hsub2 u (hsub u hu)) (by omega)
        refine O6 aP7 (ih M2 u hg3 hm3 hcm fun τ4 hg4 hm4=>O9 ?_)
        rw[C7 (i:=k)]
        exact iht (k+1) (dfs S f u M2) τ4 t3 hg4 hm4 (fun w hw=>aY8 S f u M2 w (hsub2 w hw)) (by rw[he2];rfl)
      exact key2 p.refs 0 M τ2 rfl hg2 hm2 (fun _ h=>h) rfl
     ·exact next τ2 M hg2 hm2 (fun _ h=>h) (by rw[c0 (by rw[hb];simp)])
   exact key S.paths 0 (L++[s]) σ1 rfl hg1 m1 (fun _ h=>h) rfl
  intro j hj
  refine i6 (A3 (l7 (hg.get c9)) ?_)
  (refine k0 rfl ?_;try dsimp only)
  refine i7 (ba5 s (hρ.gr hg) (y7 ?_))
  cases hs:S.is s with
  | false=>exact l3 rfl (hj _ (by rw[hs];rfl))
  | true =>
   refine k9 rfl (i6 (aL1 (f0 (hg.get c11)) ?_))
   refine A3 (ao0 (kk:=kkS) (f:=aj9) hm _ false s) ?_
   rw[bN3]
   cases hL:L.contains s with
   | true=>exact B6 (hj _ (by rw[hs,hL];rfl))
   | false=>exact B6 (hj _ (by rw[hs,hL];rfl))
theorem bk1 {σ:H} (h1:am2 σ S.paths x1) (h2:w7 σ 1 (n9 S.roots) x2) (hz:Sm S) {K:KH} (hK:∀x σ',E7 σ σ' 9 1 (n9 (ah8 S.reach)) x->K (.slice x.base x.len x.cap) σ') :
 a8 13 [.agg ⟨[.slice x1.base x1.len x1.cap,.slice x2.base x2.len x2.cap]⟩] K σ:=by
 refine c13 _ _ ?_
 unfold g13
 refine x0 ?_;intro b3 σ1 g1 e1 n1
 refine A3 (l7 e1) ?_
 (refine k0 rfl ?_;try dsimp only)
 refine i7 (aO2 (h1.gr g1) (h2.gr g1) hz ?_)
 intro m σ2 g2 hl
 unfold lkV
 (refine k0 rfl ?_;try dsimp only)
 refine x0 ?_;intro b9 σ3 g3 e3 n3
 refine w4 e3 av5 ?_
 intro σ4 p4
 have G24:Gr σ2 σ4:=g3.putF p4 n3
 refine x0 ?_;intro b10 σ5 g5 e5 n5
 refine x0 ?_;intro b11 σ6 g6 e6 n6
 refine w4 e6 bz2 ?_
 intro σ7 p7
 have G57:Gr σ5 σ7:=g6.putF p7 n6
 refine x0 ?_;intro b12 σ8 g8 e8 n8
 refine w4 e8 aH4 ?_
 intro σ9 p9
 have G79:Gr σ7 σ9:=g8.putF p9 n8
 have G49:Gr σ4 σ9:=(g5.trans G57).trans G79
 have c3:σ9 b3=some (.cells ⟨[.slice x1.base x1.len x1.cap,.slice x2.base x2.len x2.cap]⟩ 28 (0,0)):=G49.get (G24.get (g2.get e1))
 refine A7 (f0 c3) ?_
 -- what is not the map
 have hG:Gr (fun c=>if c=b10 then none else σ9 c) σ9:=P0 fun c o hc=>by
  by_cases e:c=b10
  ·simp[e]at hc
  ·simpa[e]using hc
 have toρ : ∀ {τ:H},Gr τ σ9->τ b10=none->Gr τ (fun c=>if c=b10 then none else σ9 c):=fun {τ} hg hn=>P0 fun c o hc=>by
  have e:c≠b10:=o0 hc hn
  simp only[e,if_false];exact hg.get hc
 have G2:=(g1.trans g2)
 have hσ10:σ b10=none:=C3 (G2.trans G24) n5
 have gσρ:=toρ ((G2.trans G24).trans G49) hσ10
 have q9:(fun c=>if c=b10 then none else σ9 c) b9=some (.cells ⟨[.slice x1.base x1.len x1.cap,.slice x2.base x2.len x2.cap,.map (some m)]⟩ 55 (0,0)):=by
  have e:b9≠b10:=o0 p4.same n5
  simp only[e,if_false];exact G49.get p4.same
 have q11:(fun c=>if c=b10 then none else σ9 c) b11=some (.cells ⟨[.map (some b10)]⟩ 39 (0,0)):=by
  have e:b11≠b10:=(o0 e5 n6).symm
  simp only[e,if_false];exact G79.get p7.same
 have q12:(fun c=>if c=b10 then none else σ9 c) b12=some (.cells ⟨[bX0 b9 b11 b3 b12]⟩ 60 (0,0)):=by
  have e:b12≠b10:=(o0 (G57.get e5) n8).symm
  simp only[e,if_false];exact p9.same
 have q3:(fun c=>if c=b10 then none else σ9 c) b3=some (.cells ⟨[.slice x1.base x1.len x1.cap,.slice x2.base x2.len x2.cap]⟩ 28 (0,0)):=by
  have e:b3≠b10:=o0 (G24.get (g2.get e1)) n5
  simp only[e,if_false];exact c3
 have n10:(fun c=>if c=b10 then none else σ9 c) b10=none:=by simp
 have hLρ:as7 (fun c=>if c=b10 then none else σ9 c) S x1 x2 m:=hl.gr (toρ (G24.trans G49) (C3 G24 n5))
 have m9:I6 σ9 b10 (M6 kkS aj9 (ent [])):=(I6.new e5).gr (G57.trans G79)
 generalize (fun c=>if c=b10 then none else σ9 c)=ρ at *
 have hlen:=ac4 h2
 have hnr:=hz.nr
 have hroot : ∀ {τ:H},Gr ρ τ->w7 τ 1 (n9 S.roots) x2:=fun hg=>(h2.gr gσρ).gr hg
 refine u5 ?_
 intro R hR
 have key : ∀ (r:List ByteArray) (i:Nat) (L:List ByteArray) (τ:H),S.roots.drop i=r->Gr ρ τ->I6 τ b10 (M6 kkS aj9 (ent L))->S.reach=r.foldl (fun L r=>dfs S S.paths.length r L) L->R (some ⟨b11,0,none⟩) (some ⟨b12,0,none⟩) x2 ((x2.len:Nat):Int) (i:Int) τ:=by
  intro r
  induction r with
  | nil =>
   intro i L τ hd hg hm he
   have h5:S.roots.length<=i:=by simpa using hd
   refine hR _ _ _ _ _ _ (k9 (by rw[hlen];exact J6) ?_)
   refine i6 (aL1 (f0 (hg.get q11)) ?_)
   refine i7 (c35 _ ?_)
   unfold g35
   refine x0 ?_;intro b2 τ1 k1 f1 w1
   refine ar0 ?_
   have hL:S.reach=L:=he
   obtain⟨o1,o2,o3⟩:=aA2 S
   rw[hL]at o1 o3
   have hnp:=hz.np
   refine i7 (bP8 f1 (hm.gr k1) (fun s hs => ?_) ?_ ?_)
   ·rw[aU0]at hs
    have:=o1 s hs
    unfold H9.is at this
    obtain⟨p,hp,hps⟩:=List.any_eq_true.1 this
    have hps:=eq_of_beq hps
    have:=(hz.pa p hp).1
    rw[hps]at this
    unfold maxLen;omega
   ·have:(ent L).length=L.length:=by simp[ent]
    omega
   ·intro x τ2 hx
    rw[aU0,<- hL]at hx
    exact Q7 (hK x τ2 (hx.since (gσρ.trans (hg.trans k1))))
  | cons u r ih =>
   intro i L τ hd hg hm he
   obtain⟨t1,t2,t3⟩:=P7 hd
   obtain⟨g',o',v1,v2,v3⟩:=U7 (hroot hg) t1
   refine hR _ _ _ _ _ _ (l3 (by rw[hlen];exact C8) ?_)
   rw[v1]
   refine i6 (l5 (L1 x2.len) (y8 v3 ?_))
   refine i6 (ag2 (f0 (hg.get q12)) ?_)
   have hc:cnt S L<=S.paths.length:=List.length_filter_le _ _
   refine O6 aP7 (cj3 hz hLρ q9 q11 q3 q12 n10 S.paths.length L u hg hm hc fun τ4 hg4 hm4=>O9 ?_)
   rw[C7 (i:=i)]
   exact ih (i+1) _ τ4 t3 hg4 hm4 (by rw[he];rfl)
 exact key S.roots 0 [] σ9 rfl hG m9 rfl
end
theorem am7 {S:H9} (h:∀p∈S.paths,p.refs=[]):bx8 S aG7:=by
 intro p hp r hr
 rw[h p hp]at hr;cases hr
theorem am8 {S:H9} (hz:Sm S) (h:∀p∈S.paths,p.drv=⟨⟨[]⟩⟩):bx9 S aw0:=by
 intro p hp σ y K _ hK
 obtain⟨z1,z2,_⟩:=hz.pa p hp
 exact by0 p (h p hp) z1 z2 hK
theorem aJ7 {σ:H} {b n:Nat} {r:List Value} {t:TypeId} {fz:Nat×Nat} (e:σ b=some (.cells ⟨r⟩ t fz)) (hr:r.length=n):w7 σ n [r] ⟨some ⟨b,0,none⟩,1,1⟩:=by
 refine⟨rfl,.inr ⟨b,0,r,t,fz,rfl,e,fun i q hi => ?_⟩⟩
 cases i with
 | zero=>simp at hi;subst hi;exact⟨hr,by simp[<-hr]⟩
 | succ i=>simp at hi
theorem cj4 {σ:H} {b n:Nat} {r q:List Value} {t:TypeId} {fz:Nat×Nat} (e:σ b=some (.cells ⟨r++q⟩ t fz)) (hr:r.length=n) (hq:q.length=n):w7 σ n [r,q] ⟨some ⟨b,0,none⟩,2,2⟩:=by
 refine⟨rfl,.inr ⟨b,0,r++q,t,fz,rfl,e,fun i p hi => ?_⟩⟩
 match i,hi with
 | 0,hi=>simp at hi;subst hi;exact⟨hr,by simp[<-hr]⟩
 | 1,hi=>simp at hi;subst hi;exact⟨hq,by simp[<-hr];rw[hr,<- hq,V7]⟩
 | i+2,hi=>simp at hi
theorem cx6 (σ:H):am2 σ [] ⟨none,0,0⟩:=⟨[],⟨rfl,.inl rfl⟩,trivial⟩
theorem bX1 {σ:H} {b:Nat} {p:B4} {y:Sl} {t:TypeId} {fz:Nat×Nat} (e:σ b=some (.cells ⟨U4 p y⟩ t fz)) (h:w7 σ 1 (n9 p.refs) y):am2 σ [p] ⟨some ⟨b,0,none⟩,1,1⟩:=⟨[U4 p y],aJ7 e rfl,⟨y,rfl,h⟩,trivial⟩
theorem cx7 {σ:H} {b:Nat} {p q:B4} {y z:Sl} {t:TypeId} {fz:Nat×Nat} (e:σ b=some (.cells ⟨U4 p y++U4 q z⟩ t fz)) (h:w7 σ 1 (n9 p.refs) y) (h2:w7 σ 1 (n9 q.refs) z):am2 σ [p,q] ⟨some ⟨b,0,none⟩,2,2⟩:=⟨[U4 p y,U4 q z],cj4 e rfl rfl,⟨y,rfl,h⟩,⟨z,rfl,h2⟩,trivial⟩
theorem ay2 (σ:H):w7 σ 1 (n9 []) ⟨none,0,0⟩:=⟨rfl,.inl rfl⟩
theorem at4 {S:H9} (h1:S.paths.length<=2) (h2:∀p∈S.paths,p=P6\/p=T4) (h3:S.roots.length<=1) (h4:∀s∈S.roots,s.size<=1000):Sm S:=by
 refine⟨by omega,by omega,fun s hs=>by have:=h4 s hs;omega,fun p hp => ?_⟩
 rcases h2 p hp with rfl | rfl
 ·exact⟨by decide,by decide,by decide,by decide,fun s hs=>by cases hs⟩
 ·exact⟨by decide,by decide,by decide,by decide,fun s hs=>by cases hs⟩
theorem bX2 (s:ByteArray):ah8 [s]=[s]:=by
 unfold ah8
 simp only[H5,List.map_nil,List.mergeSort_singleton,K0]
theorem bX3 (s:ByteArray):ae6 [s] [s]=true:=by simp[ae6]
section
variable {σ : H} {K : KH}
theorem bI6 (hK:K (.bool true) σ):a8 15 [] K σ:=by
 refine B7 _ hK (c15 ?_)
 clear hK
 unfold g15
 refine i7 (aW4 [120] [49] (by decide) (by decide) ?_)
 rw[dj9]
 unfold U4 P6
 (refine k0 rfl ?_;try dsimp only)
 refine x0 ?_;intro b5 σ1 g1 e1 n1
 refine w4 e1 W5 ?_
 intro σ2 p2
 have c5:σ2 b5=some (.cells ⟨U4 P6 ⟨none,0,0⟩⟩ 38 (0,0)):=p2.same
 have G2:Gr σ σ2:=g1.putF p2 n1
 refine A3 (l7 c5) ?_
 unfold U4 P6
 (refine k0 rfl ?_;try dsimp only)
 refine x0 ?_;intro b10 σ3 g3 e3 n3
 refine w4 e3 W5 ?_
 intro σ4 p4
 have G4:Gr σ2 σ4:=g3.putF p4 n3
 refine i7 (aW4 [120] [50] (by decide) (by decide) ?_)
 unfold U4
 (refine k0 rfl ?_;try dsimp only)
 rw[dk0]
 refine w4 p4.same M0 ?_
 intro σ5 p5
 have G5:Gr σ2 σ5:=G4.putF p5 n3
 have c10:σ5 b10=some (.cells ⟨U4 T4 ⟨none,0,0⟩⟩ 38 (0,0)):=p5.same
 refine A3 (l7 (G5.get c5)) ?_
 unfold U4 P6
 (refine k0 rfl ?_;try dsimp only)
 refine x0 ?_;intro b19 σ6 g6 e6 n6
 refine y8 (f0 (g6.get (G5.get c5))) ?_
 refine x0 ?_;intro b21 σ7 g7 e7 n7
 refine x0 ?_;intro b22 σ8 g8 e8 n8
 refine w4 e8 aP5 ?_
 intro σ9 p9
 have G69:Gr σ6 σ9:=g7.trans (g8.putF p9 n8)
 have G59:Gr σ5 σ9:=g6.trans G69
 have f5:=G59.get (G5.get c5)
 have f10:=G59.get c10
 have f19:σ9 b19=some (.cells ⟨U4 P6 ⟨none,0,0⟩⟩ 38 (0,0)):=G69.get e6
 have f21:σ9 b21=some (.cells ⟨[.string ⟨⟨T1⟩⟩]⟩ 9 (0,0)):=(g8.putF p9 n8).get e7
 have f22:=p9.same
 have G9:Gr σ σ9:=(G2.trans G5).trans G59
 clear p9 p5 p4 p2 e1 e3 e6 e7 e8 c5 c10 n1 n3 n6 n7 n8
 refine y8 (f0 f5) ?_
 refine l3 (by rw[K1];decide) ?_
 have z0:Sm ⟨[],[]⟩:=at4 (by simp) (fun p hp=>by cases hp) (by simp) (fun s hs=>by cases hs)
 refine i7 (ah2 (S:=⟨[],[]⟩) (x1:=⟨none,0,0⟩) (x2:=⟨none,0,0⟩) (am7 fun p hp=>by cases hp) (am8 z0 fun p hp=>by cases hp) (cx6 _) (ay2 _) z0 (B6 ?_))
 rw[cq1]
 refine l3 rfl (A3 (l7 f22) ?_)
 (refine k0 rfl ?_;try dsimp only)
 have z1:Sm ⟨[P6],[⟨⟨T1⟩⟩]⟩:=at4 (by simp) (fun p hp=>by simp at hp;exact .inl hp) (by simp) (fun s hs=>by simp at hs;subst hs;decide)
 have one_refs : ∀p∈[P6],p.refs=[]:=fun p hp=>by simp at hp;subst hp;rfl
 have one_drv : ∀p∈[P6],p.drv=⟨⟨[]⟩⟩:=fun p hp=>by simp at hp;subst hp;rfl
 have pp1:am2 σ9 [P6] ⟨some ⟨b19,0,none⟩,1,1⟩:=bX1 f19 (ay2 _)
 have rr1:w7 σ9 1 (n9 [⟨⟨T1⟩⟩]) ⟨some ⟨b21,0,none⟩,1,1⟩:=aJ7 f21 rfl
 refine i7 (ah2 (S:=⟨[P6],[⟨⟨T1⟩⟩]⟩) (x1:=⟨some ⟨b19,0,none⟩,1,1⟩) (x2:=⟨some ⟨b21,0,none⟩,1,1⟩) (am7 one_refs) (am8 z1 one_drv) pp1 rr1 z1 (B6 ?_))
 rw[cq2]
 refine l3 rfl (A3 (l7 f22) ?_)
 (refine k0 rfl ?_;try dsimp only)
 refine y8 (f0 f5) ?_
 refine i7 (bk1 (S:=⟨[P6],[⟨⟨T1⟩⟩]⟩) (x1:=⟨some ⟨b19,0,none⟩,1,1⟩) (x2:=⟨some ⟨b21,0,none⟩,1,1⟩) pp1 rr1 z1 ?_)
 intro xl σA hx
 rw[cq5,bX2]at hx
 refine Q7 (F9 (f0 (hx.1.get f5)) ?_)
 refine x0 ?_;intro b32 σB gB eB nB
 have GB:Gr σ9 σB:=hx.1.trans gB
 refine i7 (aW3 (hx.at.gr gB) (b:=[⟨⟨T1⟩⟩]) (y:=⟨some ⟨b32,0,none⟩,1,1⟩) (aJ7 eB rfl) (by simp) (y7 ?_))
 rw[bX3]
 refine l3 rfl (A3 (l7 (GB.get f10)) ?_)
 unfold U4 T4
 (refine k0 rfl ?_;try dsimp only)
 refine x0 ?_;intro b38 σC gC eC nC
 have GC:Gr σ9 σC:=GB.trans gC
 have z6:Sm ⟨[T4],[]⟩:=at4 (by simp) (fun p hp=>by simp at hp;exact .inr hp) (by simp) (fun s hs=>by cases hs)
 refine i7 (ah2 (S:=⟨[T4],[]⟩) (x1:=⟨some ⟨b38,0,none⟩,1,1⟩) (x2:=⟨none,0,0⟩) (am7 fun p hp=>by simp at hp;subst hp;rfl) (am8 z6 fun p hp=>by simp at hp;subst hp;rfl) (bX1 (p:=T4) (y:=⟨none,0,0⟩) eC (ay2 _)) (ay2 _) z6 (B6 ?_))
 rw[cq3]
 refine l3 rfl (A7 (f0 (GC.get f22)) ?_)
 refine x0 ?_;intro b41 σD gD eD nD
 have GD:Gr σ9 σD:=GC.trans gD
 have z3:Sm ⟨[P6],[⟨⟨[120]⟩⟩]⟩:=at4 (by simp) (fun p hp=>by simp at hp;exact .inl hp) (by simp) (fun s hs=>by simp at hs;subst hs;decide)
 refine i7 (ah2 (S:=⟨[P6],[⟨⟨[120]⟩⟩]⟩) (x1:=⟨some ⟨b19,0,none⟩,1,1⟩) (x2:=⟨some ⟨b41,0,none⟩,1,1⟩) (am7 one_refs) (am8 z3 one_drv) (pp1.gr GD) (aJ7 eD rfl) z3 (B6 ?_))
 rw[cq4]
 refine l3 rfl (A3 (l7 (GD.get f5)) ?_)
 unfold U4 P6
 (refine k0 rfl ?_;try dsimp only)
 refine A3 (l7 (GD.get f5)) ?_
 unfold U4 P6
 (refine k0 rfl ?_;try dsimp only)
 refine x0 ?_;intro b51 σE gE eE nE
 have z11:Sm ⟨[P6,P6],[]⟩:=at4 (by simp) (fun p hp=>by simp at hp;exact .inl hp) (by simp) (fun s hs=>by cases hs)
 refine i7 (ah2 (S:=⟨[P6,P6],[]⟩) (x1:=⟨some ⟨b51,0,none⟩,2,2⟩) (x2:=⟨none,0,0⟩) (am7 fun p hp=>by simp at hp;subst hp;rfl) (am8 z11 fun p hp=>by simp at hp;subst hp;rfl) (cx7 (p:=P6) (q:=P6) (y:=⟨none,0,0⟩) (z:=⟨none,0,0⟩) eE (ay2 _) (ay2 _)) (ay2 _) z11 (B6 ?_))
 rw[cc5]
 exact⟨rfl,(G9.trans GD).trans gE⟩
end
theorem cx8 (S:H9):Sm S.cut:=by
 refine⟨by simp[H9.cut];omega,by have:=aM3 S.roots;show(ab8 S.roots).length<=_;omega,fun s hs=>by have:=aG6 hs;omega,fun p hp => ?_⟩
 obtain⟨q,_,rfl⟩:=O5.1 hp
 have h1:=al3 (n:=60) (by decide) q.path
 have h2:=al3 (n:=2000) (by decide) q.nar
 have h3:=al3 (n:=2000) (by decide) q.drv
 have h4:=aM3 q.refs
 refine⟨?_,?_,?_,?_,fun s hs=>by have:=aG6 hs;omega⟩
 ·show(ax8 60 q.path).size<=_;omega
 ·show(ax8 2000 q.nar).size<=_;omega
 ·show(ax8 2000 q.drv).size<=_;omega
 ·show(ab8 q.refs).length<=_;omega
theorem aJ8 {n:Int} (h:0<=n) (s:ByteArray):A1 (some (if n<((s.size:Nat):Int)then n else((s.size:Nat):Int))) s.size/\A1 none ((if n<((s.size:Nat):Int)then n else((s.size:Nat):Int)).toNat) :=
 ⟨B3 (by split<;>omega) (by split<;>omega),H1⟩
theorem bX4:ElT Tryz.prog 22 38 4:=ax7 (by kernel_rfl) (by decide) (by kernel_rfl)
theorem bz3:sizeT Tryz.prog 25=some 2:=by kernel_rfl
theorem aP9:sizeT Tryz.prog 23=some 1:=by kernel_rfl
theorem bI7:sizeT Tryz.prog 22=some 1:=by kernel_rfl
theorem T7.snoc {σ:H} {p:B4} {y:Sl} (hy:w7 σ 1 (n9 p.refs) y) : ∀ {ps:List B4} {rows:List (List Value)},T7 σ ps rows->T7 σ (ps++[p]) (rows++[U4 p y]):=by
 intro ps
 induction ps with
 | nil=>intro rows h;cases rows with
  | nil=>exact⟨⟨y,rfl,hy⟩,trivial⟩
  | cons r rows=>exact h.elim
 | cons q ps ih =>
  intro rows h
  cases rows with
  | nil=>exact h.elim
  | cons r rows=>exact⟨h.1,ih h.2⟩
section
variable {σ : H} {K : KH}
theorem aW5 {l:List ByteArray} {x:Sl} (hx:w7 σ 1 (n9 l) x) (hK:∀y σ',E7 σ σ' 9 1 (n9 (ab8 l)) y->K (.slice y.base y.len y.cap) σ'):a8 22 [.slice x.base x.len x.cap] K σ:=by
 refine c22 _ ?_
 unfold g22
 have hl:=ac4 hx
 refine u5 ?_
 intro R hR
 have key : ∀ (r:List ByteArray) (i:Nat) (acc:List ByteArray) (y:Sl) (τ:H),l.drop i=r->acc.length=i->i<=8->E7 σ τ 9 1 (n9 acc) y->ab8 l=acc++(r.take (8 - i)).map (ax8 60)->R x y (i:Int) τ:=by
  intro r
  induction r with
  | nil =>
   intro i acc y τ hd ha h8 hy he
   have h5:l.length<=i:=by simpa using hd
   refine hR _ _ _ _ (S9 (fun j => ∀b:Bool,b=false->j x y (i:Int) b τ) ?_ ?_)
   ·intro b hb
    have:ab8 l=acc:=by rw[he];simp
    rw[this]at hK
    exact k9 hb (hK y τ hy)
   intro j hj
   exact k9 (by rw[hl];exact J6) (hj _ rfl)
  | cons s r ih =>
   intro i acc y τ hd ha h8 hy he
   obtain⟨t1,t2,t3⟩:=P7 hd
   refine hR _ _ _ _ (S9 (fun j=>j x y (i:Int) (decide ((i:Int)<8)) τ) ?_ ?_)
   ·refine G8 (fun hb => ?_) (fun hb => ?_)
    ·have hb:i<8:=by have:=E6 hb;omega
     obtain⟨g',o',v1,v2,v3⟩:=U7 (hx.gr hy.1) t1
     rw[v1]
     refine i6 (l5 (L1 x.len) (y8 v3 ?_))
     refine i6 (l5 (L1 x.len) (y8 v3 ?_))
     refine l5 (aJ8 (by decide) s) ?_
     refine E7.app1 aO1 hy (r:=[.string (ax8 60 s)]) rfl rfl (by rw[J7];omega) ?_
     intro y2 τ3 hy2 _ _
     rw[C7 (i:=i)]
     refine ih (i+1) (acc++[ax8 60 s]) y2 τ3 t3 (by simp[ha]) (by omega) ?_ ?_
     ·have:n9 (acc++[ax8 60 s])=n9 acc++[[.string (ax8 60 s)]]:=by simp[n9]
      rw[this];exact hy2
     ·rw[he,show 8 - i=(8 - (i+1))+1 by omega,List.take_succ_cons]
      simp
    ·have hb:i=8:=by have:=J0 hb;omega
     have:ab8 l=acc:=by rw[he,hb];simp
     rw[this]at hK
     exact hK y τ hy
   intro j hj
   exact l3 (by rw[hl];exact C8) hj
 exact key l 0 [] ⟨none,0,0⟩ σ rfl rfl (by decide) (E7.nil _ _ _) (by simp[ab8])
theorem bX5 {S:H9} {x1 x2:Sl} (h1:am2 σ S.paths x1) (h2:w7 σ 1 (n9 S.roots) x2) (hK:∀y1 y2 σ' ρ,Gr σ σ'->Gr ρ σ'->bb3 ρ S.cut y1 y2->(∀c,σ c≠none->ρ c=none)->K (stV y1 y2) σ'):a8 8 [stV x1 x2] K σ:=by
 refine c8 _ _ ?_
 unfold g8
 refine x0 ?_;intro b3 σ1 g1 e1 n1
 refine x0 ?_;intro b4 σ2 g2 e2 n2
 have G2:=g1.trans g2
 have f3:=g2.get e1
 have n34:b3≠b4:=o0 e1 n2
 have hl:=h1.len
 refine u5 ?_
 intro R hR
 have fin : ∀ (ps:List B4) (rows:List (List Value)) (y:Sl) (τ ρ:H),ps=(S.paths.take 8).map aH9->E7 σ2 τ 38 4 rows y->T7 ρ ps rows->Gr ρ τ ->
  ∀ (A:H->Prop),(∀τ',L6 τ b3 (.cells ⟨[.slice y.base y.len y.cap,.slice x2.base x2.len x2.cap]⟩ 25 (0,0)) τ'->A τ')->A (τ.put b3 (.cells ⟨[.slice y.base y.len y.cap,.slice x2.base x2.len x2.cap]⟩ 25 (0,0))):=fun _ _ _ _ _ _ _ _ _ A h=>h _ (L6.intro _ _ _)
 clear fin
 have key : ∀ (r:List B4) (i:Nat) (ps:List B4) (rows:List (List Value)) (y:Sl) (τ ρ:H),S.paths.drop i=r->ps.length=i->rows.length=i->i<=8->E7 σ2 τ 38 4 rows y->T7 ρ ps rows->Gr ρ τ->(∀g,y.base=some ⟨g,0,none⟩->ρ g=none)->ρ b3=none->ρ b4=none->(∀c,σ c≠none->ρ c=none) ->
  (S.paths.take 8).map aH9=ps++(r.take (8 - i)).map aH9->R (some ⟨b3,0,none⟩) (some ⟨b4,0,none⟩) y (i:Int) τ:=by
  intro r
  have stop : ∀ (i:Nat) (ps:List B4) (rows:List (List Value)) (y:Sl) (τ ρ:H),E7 σ2 τ 38 4 rows y->T7 ρ ps rows->Gr ρ τ->ρ b3=none->ρ b4=none->(∀c,σ c≠none->ρ c=none)->(S.paths.take 8).map aH9=ps ->
   j0 (some ⟨b3,0,none⟩) (fun(b40 o41:Nat)=>t8 22 (.pointer (some ⟨b40,o41,none⟩)) (.slice y.base y.len y.cap) (j0 (some ⟨b3,0,none⟩) (fun(b42 o43:Nat) =>
    l4 (s5 b42 (o43+1)) kL (fun(x44:Sl)=>d8 22 [.slice x44.base x44.len x44.cap] kL (fun(x45:Sl) =>
     j0 (some ⟨b3,0,none⟩) (fun(b46 o47:Nat)=>t8 23 (.pointer (some ⟨b46,o47+1,none⟩)) (.slice x45.base x45.len x45.cap) (j0 (some ⟨b3,0,none⟩) (fun(b48 o49:Nat) =>
      l4 (rdA 2 b48 o49) (.one (.agg [.slc,.slc])) (fun(x50:Sl) (x51:Sl)=>t8 25 (.pointer (some ⟨b4,0,none⟩)) (.agg ⟨[.slice x50.base x50.len x50.cap,.slice x51.base x51.len x51.cap]⟩) (j0 (some ⟨b4,0,none⟩) (fun(b52 o53:Nat) =>
       l4 (rdA 2 b52 o53) (.one (.agg [.slc,.slc])) (fun(r54:Sl) (r55:Sl)=>K (.agg ⟨[.slice r54.base r54.len r54.cap,.slice r55.base r55.len r55.cap]⟩))))))))))))) τ:=by
   intro i ps rows y τ ρ hy hp hg hb3 hb4 hσρ he
   have hyb : ∀ {b:Nat} {o:Obj},σ2 b=some o->y.base≠some ⟨b,0,none⟩:=fun ho e=>by have:=hy.2.2 _ e;rw[ho]at this;cases this
   refine i6 (w4 (hy.1.get f3) bI7 ?_)
   intro τ1 p1
   have cq0:=hy.2.1.put p1 (hyb f3)
   have gρ1:=hg.putF p1 hb3
   have gσ1:Gr σ τ1:=(G2.trans hy.1).putF p1 n1
   refine i6 (A7 (f0 p1.same) (i7 (aW5 (h2.gr gσ1) ?_)))
   intro z τ2 hz
   refine Q7 (i6 (w4 (hz.1.get p1.same) aP9 ?_))
   intro τ3 p3
   have hz3:=hz.2.1.put p3 (fun e=>by have:=hz.2.2 _ e;rw[p1.same]at this;cases this)
   have own3:=(cq0.gr hz.1).put p3 (hyb f3)
   have gρ3:=(gρ1.trans hz.1).putF p3 hb3
   refine i6 (A3 (l7 p3.same) ?_)
   (refine k0 rfl ?_;try dsimp only)
   have f4:τ3 b4=some _:=p3.get n34.symm (hz.1.get (p1.get n34.symm (hy.1.get e2)))
   refine w4 f4 bz3 ?_
   intro τ4 p4
   refine i6 (A3 (l7 p4.same) ?_)
   (refine k0 rfl ?_;try dsimp only)
   have own4:=own3.put p4 (hyb e2)
   have hz4:=hz3.put p4 (fun e=>by have:=hz.2.2 _ e;rw[p1.get n34.symm (hy.1.get e2)]at this;cases this)
   have gσ4:Gr σ τ4:=((gσ1.trans hz.1).putF p3 n1).putF p4 (C3 g1 n2)
   obtain⟨ρF,hF⟩ : ∃ρF:H,∀c,ρF c=if σ c=none then τ4 c else none:=⟨_,fun _=>rfl⟩
   have toF : ∀ {c:Nat} {o:Obj},τ4 c=some o->σ c=none->ρF c=some o:=fun hc hn=>by rw[hF,d9 hn];exact hc
   have gF:Gr ρ ρF:=P0 fun c o hc=>toF ((gρ3.putF p4 hb4).get hc) (by cases hs:σ c with | none=>rfl | some o'=>rw[hσρ c (by rw[hs];simp)]at hc;cases hc)
   refine hK y z τ4 ρF gσ4 (P0 fun c o hc => ?_) ⟨⟨rows,(own4.keep fun g o hgz ho=>toF ho (C3 G2 (hy.2.2 g hgz))).rows,?_⟩,(hz4.keep fun g o hgz ho=>toF ho (C3 gσ1 (hz.2.2 g hgz))).rows⟩ (fun c hc=>by rw[hF,c0 hc])
   ·rw[hF]at hc
    split at hc
    ·exact hc
    ·cases hc
   ·show T7 ρF ((S.paths.take 8).map aH9) rows
    rw[he]
    exact hp.gr gF
  induction r with
  | nil =>
   intro i ps rows y τ ρ hd hpl hrl h8 hy hp hg hyg hb3 hb4 hσρ he
   have h5:S.paths.length<=i:=by simpa using hd
   refine hR _ _ _ _ _ (S9 (fun j => ∀b:Bool,b=false->j (some ⟨b3,0,none⟩) (some ⟨b4,0,none⟩) y (i:Int) b τ) ?_ ?_)
   ·intro b hb
    exact k9 hb (stop i ps rows y τ ρ hy hp hg hb3 hb4 hσρ (by rw[he];simp))
   intro j hj
   refine i6 (A7 (f0 (hy.1.get f3)) ?_)
   exact k9 (by rw[hl];exact J6) (hj _ rfl)
  | cons p r ih =>
   intro i ps rows y τ ρ hd hpl hrl h8 hy hp hg hyg hb3 hb4 hσρ he
   obtain⟨d1,d2,d3⟩:=P7 hd
   refine hR _ _ _ _ _ (S9 (fun j=>j (some ⟨b3,0,none⟩) (some ⟨b4,0,none⟩) y (i:Int) (decide ((i:Int)<8)) τ) ?_ ?_)
   ·refine G8 (fun hb => ?_) (fun hb => ?_)
    ·have hb:i<8:=by have:=E6 hb;omega
     have gσ:Gr σ τ:=G2.trans hy.1
     obtain⟨g,o,yr,q1,q2,q3,q4⟩:=(h1.gr gσ).get d1
     refine i6 (A7 (f0 (hy.1.get f3)) ?_)
     rw[q1]
     refine i6 (l5 (L1 x1.len) (A3 q3 ?_))
     unfold U4
     (refine k0 rfl ?_;try dsimp only)
     refine x0 ?_;intro b25 τ1 k1 w1 v1
     refine w4 w1 W5 ?_
     intro τ2 p2
     refine y8 (f0 p2.same) (y8 (f0 p2.same) ?_)
     refine l5 (aJ8 (by decide) p.path) ?_
     refine w4 p2.same M0 ?_
     intro τ3 p3
     refine y8 (f0 p3.same) (y8 (f0 p3.same) ?_)
     refine l5 (aJ8 (by decide) p.nar) ?_
     refine w4 p3.same M0 ?_
     intro τ4 p4
     refine y8 (f0 p4.same) (y8 (f0 p4.same) ?_)
     refine l5 (aJ8 (by decide) p.drv) ?_
     refine w4 p4.same M0 ?_
     intro τ5 p5
     have G5:Gr τ τ5:=(((k1.putF p2 v1).putF p3 v1).putF p4 v1).putF p5 v1
     refine A7 (f0 p5.same) (i7 (aW5 (q4.gr G5) ?_))
     intro z τ6 hz
     refine Q7 (w4 (hz.1.get p5.same) aP9 ?_)
     intro τ7 p7
     have G7:Gr τ τ7:=(G5.trans hz.1).putF p7 v1
     have z7:D8 τ7 9 1 (n9 (ab8 p.refs)) z:=hz.2.1.put p7 (fun e=>by have:=hz.2.2 _ e;rw[p5.same]at this;cases this)
     have hzn : ∀g,z.base=some ⟨g,0,none⟩->τ g=none:=fun g hgz=>C3 G5 (hz.2.2 g hgz)
     have c7:τ7 b25=some (.cells ⟨U4 (aH9 p) z⟩ 38 (0,0)):=p7.same
     refine A3 (l7 c7) ?_
     unfold U4 aH9
     (refine k0 rfl ?_;try dsimp only)
     refine E7.app1 bX4 (hy.gr G7) (r:=U4 (aH9 p) z) rfl rfl (by omega) ?_
     intro y2 τ8 hy2 hkeep hfr
     rw[C7 (i:=i)]
     -- all but the rows
     have hne : ∀ {c:Nat} {o:Obj},τ7 c=some o->y.base≠some ⟨c,0,none⟩->y2.base≠some ⟨c,0,none⟩:=fun {c o} hc hy0 e=>by
      rcases hfr c e with h | h
      ·exact hy0 h
      ·rw[h]at hc;cases hc
     have hyb : ∀ {b:Nat} {o:Obj},σ2 b=some o->y.base≠some ⟨b,0,none⟩:=fun ho e=>by have:=hy.2.2 _ e;rw[ho]at this;cases this
     obtain⟨cells,hcells⟩ : ∃ρ':H,(∀c,ρ' c=if(y2.base=some ⟨c,0,none⟩\/c=b3\/c=b4\/σ c≠none)then none else τ8 c):=by
      classical
      exact⟨fun c=>if(y2.base=some ⟨c,0,none⟩\/c=b3\/c=b4\/σ c≠none)then none else τ8 c,fun c=>by congr⟩
     have toρ : ∀ {c:Nat} {o:Obj},τ7 c=some o->y.base≠some ⟨c,0,none⟩->c≠b3->c≠b4->σ c=none->cells c=some o:=fun {c o} hc hy0 h3 h4 h5=>by
      rw[hcells,c0 (by rintro (h | h | h | h);exact hne hc hy0 h;exact h3 h;exact h4 h;exact h h5)]
      exact hkeep c o hc hy0
     have gρ:Gr ρ cells:=P0 fun c o hc=>toρ (G7.get (hg.get hc)) (fun e=>by rw[hyg c e]at hc;cases hc) (fun e=>by subst e;rw[hb3]at hc;cases hc) (fun e=>by subst e;rw[hb4]at hc;cases hc) (by cases hs:σ c with | none=>rfl | some o'=>rw[hσρ c (by rw[hs];simp)]at hc;cases hc)
     refine ih (i+1) (ps++[aH9 p]) (rows++[U4 (aH9 p) z]) y2 τ8 cells d3 (by simp[hpl]) (by simp[hrl]) (by omega) hy2 ?_ ?_ ?_ ?_ ?_ ?_ ?_
     ·refine(hp.gr gρ).snoc (p:=aH9 p) ?_
      refine D8.rows (z7.keep fun g o hgz ho=>toρ ho (fun e => ?_) (fun e => ?_) (fun e => ?_) (C3 gσ (hzn g hgz)))
      ·exact hy.2.1.has e (hzn g hgz)
      ·subst e;have:=hzn _ hgz;rw[hy.1.get f3]at this;cases this
      ·subst e;have:=hzn _ hgz;rw[hy.1.get e2]at this;cases this
     ·refine P0 fun c o hc => ?_
      rw[hcells]at hc
      split at hc
      ·cases hc
      ·exact hc
     ·intro g hgz;rw[hcells,d9 (.inl hgz)]
     ·rw[hcells,d9 (.inr (.inl rfl))]
     ·rw[hcells,d9 (.inr (.inr (.inl rfl)))]
     ·intro c hc;rw[hcells,d9 (.inr (.inr (.inr hc)))]
     ·rw[he,show 8 - i=(8 - (i+1))+1 by omega,List.take_succ_cons]
      simp
    ·have hb:i=8:=by have:=J0 hb;omega
     exact stop i ps rows y τ ρ hy hp hg hb3 hb4 hσρ (by rw[he,hb];simp)
   intro j hj
   refine i6 (A7 (f0 (hy.1.get f3)) ?_)
   exact l3 (by rw[hl];exact C8) hj
 exact key S.paths 0 [] [] ⟨none,0,0⟩ σ2 (fun _=>none) rfl rfl rfl (by decide) (E7.nil _ _ _) trivial (ah5 _) (fun g h=>by cases h) rfl rfl (fun _ _=>rfl) (by simp)
end
theorem cx9 {σ:H} {K:KH} (hK:K (.tuple ⟨[]⟩) σ):a8 156 [.slice none 0 0,.int .i64 0,.int .i64 0] K σ:=by
 refine cN5 ⟨none,0,0⟩ _ _ ?_
 unfold cr9
 refine u5 ?_
 intro R hR
 exact hR _ _ _ _ _ (k9 rfl hK)
theorem cy0 (lim:Int) {σ:H} {K:KH} (hK:K (.tuple ⟨[]⟩) σ):a8 103 [.slice none 0 0,.int .i64 0,.int .i64 0,.int .i64 lim] K σ:=by
 refine cE5 ⟨none,0,0⟩ _ _ _ ?_
 unfold cr4
 refine u5 ?_
 intro R hR
 exact hR _ _ _ _ _ _ _ (l3 rfl (i7 (cx9 (O9 hK))))
theorem cy1 {σ:H} {K:KH} (hK:K (.int .i64 0) σ):a8 104 [.int .u64 0] K σ:=by
 refine cE7 _ ?_
 unfold cr5
 refine i7 (cN7 _ ?_)
 unfold cs1
 refine j_d ?_
 refine k9 rfl (j_d ?_)
 refine k9 rfl (j_d ?_)
 refine k9 rfl (M3 (c:=0) (by decide) (by rfl) (B6 ?_))
 rw[show IntKind.i64.wrap (0+IntKind.i64.wrap ((UInt8.toNat 0:Nat):Int))=0 from by decide]
 exact hK
theorem cj5 {σ:H} {K:KH} (hK:K (.tuple ⟨[]⟩) σ):a8 67 [.slice none 0 0] K σ:=by
 refine c67 ⟨none,0,0⟩ ?_
 unfold g67
 exact i7 (cy1 (B6 (i7 (cy0 0 (O9 hK)))))
theorem bt3:I3 Tryz.prog 130=true:=by kernel_rfl
theorem cy2 {σ:H} (x:Sl) {K:KH} (hK:K (.tuple ⟨[]⟩) σ):a8 156 [.slice x.base x.len x.cap,.int .i64 0,.int .i64 1] K σ:=by
 refine cN5 x _ _ ?_
 unfold cr9
 refine u5 ?_
 intro R hR
 exact hR _ _ _ _ _ (k9 rfl hK)
theorem cy3 (x:Sl) (lim:Int) {σ:H} {K:KH} (hK:K (.tuple ⟨[]⟩) σ):a8 103 [.slice x.base x.len x.cap,.int .i64 0,.int .i64 1,.int .i64 lim] K σ:=by
 refine cE5 x _ _ _ ?_
 unfold cr4
 refine u5 ?_
 intro R hR
 exact hR _ _ _ _ _ _ _ (l3 rfl (i7 (cy2 x (O9 hK))))
theorem cy4 {σ:H} {K:KH} (hK:∀n,K (.int .i64 n) σ):a8 104 [.int .u64 1] K σ:=by
 refine cE7 _ ?_
 unfold cr5
 refine i7 (cN7 _ ?_)
 unfold cs1
 refine j_d ?_
 refine k9 rfl (j_d ?_)
 refine k9 rfl (j_d ?_)
 refine k9 rfl (M3 (c:=1) (by decide) (by rfl) (B6 ?_))
 exact hK _
theorem cj6 {σ:H} (x:Sl) (hx:x.len=1) {K:KH} (hK:K (.tuple ⟨[]⟩) σ):a8 67 [.slice x.base x.len x.cap] K σ:=by
 refine c67 x ?_
 unfold g67
 rw[hx]
 refine i7 (cy4 (fun n=>B6 (i7 ?_)))
 have:=cy3 (σ:=σ) x n (K:=app kU (K (.tuple ⟨[]⟩))) (O9 hK)
 rw[hx]at this
 exact this
theorem bt4:I3 Tryz.prog 86=true:=by kernel_rfl
structure ScJ (obj:LoopState->Option Code->Obj) (l b14 b15 b38 b39:Nat) (h:List UInt8) (A:Bool) (σ:H) (st:LoopState) (F:Bool) (τ:H):Prop where
 lo:τ l=some (obj st none)
 c15:τ b15=some (.cells ⟨[.map (some b14)]⟩ 39 (0,0))
 c39:τ b39=some (.cells ⟨[.func (.func 86) ⟨[]⟩ ⟨[.pointer (some ⟨b15,0,none⟩),.pointer (some ⟨b38,0,none⟩)]⟩]⟩ 60 (0,0))
 asked:I6 τ b14 (M6 kkS aj9 (if(A && !F)=true then [(⟨⟨h⟩⟩,1)]else []))
 out : ∃z:Sl,τ b38=some (.cells ⟨[.slice z.base z.len z.cap]⟩ 23 (0,0))/\E7 σ τ 9 1 (n9 (if(A&&F)=true then [⟨⟨h⟩⟩]else [])) z/\z.base≠some ⟨l,0,none⟩/\z.base≠some ⟨b14,0,none⟩/\z.base≠some ⟨b38,0,none⟩/\((A&&F)=false->z=⟨none,0,0⟩)
structure ScD (l b14 b15 b38 b39:Nat) (σ:H):Prop where
 nl:σ l=none
 n14:σ b14=none
 n38:σ b38=none
 l14:l≠b14
 l15:l≠b15
 l38:l≠b38
 l39:l≠b39
 a15:b14≠b15
 a38:b14≠b38
 a39:b14≠b39
 e38:b15≠b38
 e39:b38≠b39
def ScK (l b14 b38:Nat) (σ σ':H):Prop := ∀c o,c≠l->c≠b14->c≠b38->σ c=some o->σ' c=some o
section
variable {obj : LoopState -> Option Code -> Obj} {l b14 b15 b38 b39 : Nat} {h : List UInt8} {A : Bool} {σ : H} {st : LoopState} {F : Bool} {τ τ' : H}
theorem ScJ.gr (hj:ScJ obj l b14 b15 b38 b39 h A σ st F τ) (hg:Gr τ τ'):ScJ obj l b14 b15 b38 b39 h A σ st F τ':=by
 obtain⟨h1,h2,h3,h4,z,h5,h6,h7⟩:=hj
 exact⟨hg.get h1,hg.get h2,hg.get h3,h4.gr hg,z,hg.get h5,h6.gr hg,h7⟩
theorem ScJ.state (hd:ScD l b14 b15 b38 b39 σ) (hj:ScJ obj l b14 b15 b38 b39 h A σ st F τ) {s2:LoopState} (hp:L6 τ l (obj s2 none) τ'):ScJ obj l b14 b15 b38 b39 h A σ s2 F τ':=by
 obtain⟨h1,h2,h3,h4,z,h5,h6,h7,h8⟩:=hj
 exact⟨hp.same,hp.get hd.l15.symm h2,hp.get hd.l39.symm h3,h4.put hp hd.l14.symm,z,hp.get hd.l38.symm h5,h6.putF hp hd.nl h7,h7,h8⟩
theorem ScJ.same (hj:ScJ obj l b14 b15 b38 b39 h A σ st F τ) {F':Bool} (hA:A=false\/F=F'):ScJ obj l b14 b15 b38 b39 h A σ st F' τ:=by
 rcases hA with hA | hA
 ·subst hA
  obtain⟨h1,h2,h3,h4,z,h5,h6,h7,h8,h9,h10⟩:=hj
  exact⟨h1,h2,h3,h4,z,h5,h6,h7,h8,h9,h10⟩
 ·rw[<-hA];exact hj
theorem bI8 (hd:ScD l b14 b15 b38 b39 σ) (s:List UInt8) (hj:ScJ obj l b14 b15 b38 b39 h true σ st false τ) {K:KH}
 (hK:∀τ',ScJ obj l b14 b15 b38 b39 h true σ st (decide (s=h)) τ'->ScK l b14 b38 τ τ'->K (.tuple ⟨[]⟩) τ'):a8 86 [.string ⟨⟨s⟩⟩,.pointer (some ⟨b15,0,none⟩),.pointer (some ⟨b38,0,none⟩)] K τ:=by
 refine c86 _ _ _ ?_
 unfold g86
 obtain⟨h1,h2,h3,h4,z,h5,h6,h7,h8,h9,h10⟩:=id hj
 have hz0:z=⟨none,0,0⟩:=h10 rfl
 subst hz0
 have h4:I6 τ b14 (M6 kkS aj9 [(⟨⟨h⟩⟩,(1:Int))]):=h4
 refine i6 (aL1 (f0 h2) ?_)
 refine A3 (ao0 (kk:=kkS) (f:=aj9) h4 (.int .i64 0) false ⟨⟨s⟩⟩) ?_
 have hlk:lk (⟨⟨s⟩⟩:ByteArray) [((⟨⟨h⟩⟩:ByteArray),(1:Int))]=if s=h then some 1 else none:=by
  unfold lk lk
  by_cases e:s=h
  ·subst e;simp
  ·rw[c0 e]
   have:((⟨⟨s⟩⟩:ByteArray)==⟨⟨h⟩⟩)=false:=by
    rw[M9];intro e2;cases e2;exact e rfl
   rw[this]
 rw[hlk]
 by_cases e:s=h
 ·subst e
  rw[d9 rfl]
  refine k0 rfl (l3 (by decide) ?_)
  refine i6 (A7 (f0 h5) ?_)
  have h6:E7 σ τ 9 1 [] ⟨none,0,0⟩:=h6
  refine h6.app1 aO1 (r:=[.string ⟨⟨s⟩⟩]) rfl rfl (by decide) ?_
  intro z' τ1 r1 k1 k2
  have kk : ∀c o,τ c=some o->τ1 c=some o:=fun c o hc=>k1 c o hc (fun e=>by cases e)
  have kz : ∀c o,τ c=some o->z'.base≠some ⟨c,0,none⟩:=fun c o hc e=>by
   rcases k2 c e with h | h
   ·cases h
   ·rw[hc]at h;cases h
  refine w4 (kk _ _ h5) aP9 ?_
  intro τ2 p2
  refine i6 (aL1 (f0 (p2.get hd.e38 (kk _ _ h2))) ?_)
  have m2:I6 τ2 b14 (M6 kkS aj9 [(⟨⟨s⟩⟩,(1:Int))]):=(h4.gr (P0 kk)).put p2 hd.a38
  have hm14 : ∃o,τ b14=some o:=by
   have:=h4.isSome
   cases hh:τ b14 with
   | none=>rw[hh]at this;cases this
   | some o=>exact⟨o,rfl⟩
  obtain⟨o14,ho14⟩:=hm14
  refine cA1 (kk:=kkS) (f:=aj9) aP8 af0 m2 ⟨⟨s⟩⟩ ?_
  intro o3 τ3 p3 m3
  have hrm:rm (⟨⟨s⟩⟩:ByteArray) [((⟨⟨s⟩⟩:ByteArray),(1:Int))]=[]:=by unfold rm;simp
  rw[hrm]at m3
  refine hK τ3 ?_ fun c o c1 c2 c3 hc=>p3.get c2 (p2.get c3 (kk c o hc))
  rw[F1 rfl]
  exact⟨p3.get hd.l14 (p2.get hd.l38 (kk _ _ h1)),p3.get hd.a15.symm (p2.get hd.e38 (kk _ _ h2)),p3.get hd.a39.symm (p2.get hd.e39.symm (kk _ _ h3)),m3,z',p3.get hd.a38.symm p2.same,(r1.putF p2 hd.n38 (kz _ _ h5)).putF p3 hd.n14 (kz _ _ ho14),kz _ _ h1,kz _ _ ho14,kz _ _ h5,fun h=>by cases h⟩
 ·rw[c0 e]
  refine k0 rfl (k9 (by decide) ?_)
  refine hK τ ?_ fun c o _ _ _ hc=>hc
  rw[J4 e];exact hj
end
section
variable {obj : LoopState -> Option Code -> Obj} {l b14 b15 b38 b39 : Nat} {h : List UInt8} {A : Bool} {σ : H}
theorem ScJ.G {st:LoopState} {F:Bool} {τ:H} (hj:ScJ obj l b14 b15 b38 b39 h A σ st F τ):Gr σ τ:=by
 obtain⟨h1,h2,h3,h4,z,h5,h6,h7⟩:=hj
 exact h6.1
theorem bX6 (hd:ScD l b14 b15 b38 b39 σ) (client:∀ (s:ByteArray) (F:Bool) (τ:H) (K:KH),s.size<=9000000->ScJ obj l b14 b15 b38 b39 h A σ .ready F τ->(∀τ',ScJ obj l b14 b15 b38 b39 h A σ .ready (F||occ h s.data.toList) τ'->ScK l b14 b38 τ τ'->K (.bool true) τ')->u7 Tryz.prog (yv l) [.string s] K τ) :
 ∀ (t:Tr) (y:Sl) (F:Bool) (τ:H) (K:KH),O1 σ t.kids y->t.total<=9000000->ScJ obj l b14 b15 b38 b39 h A σ .ready F τ->(∀τ',ScJ obj l b14 b15 b38 b39 h A σ .ready (F||aw2 h t) τ'->ScK l b14 b38 τ τ'->K (.bool true) τ')->a8 131 [.agg ⟨O2 t y⟩,yv l] K τ:=by
 refine Tr.ind (P:=fun t => ∀ (y:Sl) (F:Bool) (τ:H) (K:KH),O1 σ t.kids y->t.total<=9000000->ScJ obj l b14 b15 b38 b39 h A σ .ready F τ->(∀τ',ScJ obj l b14 b15 b38 b39 h A σ .ready (F||aw2 h t) τ'->ScK l b14 b38 τ τ'->K (.bool true) τ')->a8 131 [.agg ⟨O2 t y⟩,yv l] K τ) ?_
 intro t ih y F τ K hs hT hj hK
 have htot:1+t.name.size+t.data.size+Tr.totalRow t.kids=t.total:=by obtain⟨n,k,e,d,kids⟩:=t;simp only[Tr.total,Tr.name,Tr.kids,Tr.data]
 have hkt:=U1 t
 rw[bw3]at hK
 refine dv3 _ _ _ _ _ _ ?_
 unfold cJ7
 refine x0 ?_;intro b7 τ1 g1 e1 n1
 have n7l:b7≠l:=(o0 hj.lo n1).symm
 have n714:b7≠b14:=fun e=>by
  have:=hj.asked.isSome
  rw[<-e,n1]at this;cases this
 have n738:b7≠b38:=fun e=>by
  obtain⟨_,_,_,_,z,h5,_⟩:=hj
  rw[<-e,n1]at h5;cases h5
 have k1:ScK l b14 b38 τ τ1:=fun c o _ _ _ hc=>g1.get hc
 refine y8 (f0 e1) (ag3 (client t.data F τ1 _ (by omega) (hj.gr g1) fun τ2 hj2 kp2=>y7 (k9 rfl ?_)))
 have e2:=kp2 b7 _ n7l n714 n738 e1
 refine A7 (f0 e2) ?_
 refine u5 ?_
 intro R hR
 have key : ∀ (r:List Tr) (i:Nat) (F':Bool) (τ':H),t.kids.drop i=r->ScJ obj l b14 b15 b38 b39 h A σ .ready F' τ'->ScK l b14 b38 τ τ'->(F||(occ h t.data.data.toList||af7 h t.kids))=(F'||af7 h r)->R (yv l) y ((y.len:Nat):Int) (i:Int) τ':=by
  intro r
  induction r with
  | nil =>
   intro i F' τ' hdr hj' hk he
   have hge:t.kids.length<=i:=by simpa using hdr
   refine hR _ _ _ _ _ (k9 (by rw[hs.1];exact J6) ?_)
   refine hK τ' ?_ hk
   rw[he]
   have:af7 h []=false:=by rw[af7]
   rw[this,ad6];exact hj'
  | cons x r ihl =>
   intro i F' τ' hdr hj' hk he
   obtain⟨hx,hlt,hd'⟩:=C5 hdr
   obtain⟨g,o,z,hb,hrd,hz⟩:=ah9 (hs.gr hj'.G) hx
   obtain⟨g',o',z',hb',hrd',hz'⟩:=ah9 hs hx
   have hzz:z'=z:=by
    rw[hb]at hb';cases hb'
    have:rdA 5 g (o+i * 5) τ'=some (.agg ⟨O2 x z'⟩):=by
     unfold rdA at hrd' ⊢
     cases hg:σ g with
     | none=>rw[hg]at hrd';cases hrd'
     | some ob=>rw[hg]at hrd';rw[hj'.G.get hg];exact hrd'
    rw[hrd]at this
    unfold O2 at this
    simp only[Option.some.injEq,Value.agg.injEq,Array.mk.injEq,List.cons.injEq,Value.slice.injEq,and_true,true_and]at this
    obtain⟨q1,q2,q3⟩:=this
    cases z;cases z';simp_all
   subst hzz
   refine hR _ _ _ _ _ (l3 (by rw[hs.1];exact C8) ?_)
   rw[hb]
   refine i6 (l5 ⟨by omega,by rw[hs.1];omega⟩ ?_)
   have hrd2:rdA 5 g (o+(i:Int).toNat * 5) τ'=some (.agg ⟨O2 x z'⟩):=by simpa using hrd
   refine A3 hrd2 ?_
   unfold O2
   (refine k0 rfl ?_;try dsimp only)
   refine x0 ?_;intro b23 τ3 g3 e3 n3
   refine w4 e3 I2 ?_;intro τ4 p4
   have g4:Gr τ' τ4:=g3.putF p4 n3
   refine A3 (l7 p4.same) ?_
   (refine k0 rfl ?_;try dsimp only)
   have hxt:x.total<=9000000:=by have:=W4 hx;omega
   refine i7 (ih x (F7 hx) z' F' τ4 _ hz' hxt (hj'.gr g4) fun τ5 hj5 k5=>y7 (k9 rfl ?_))
   rw[C7 (i:=i)]
   refine ihl (i+1) _ τ5 hd' hj5 (fun c o c1 c2 c3 hc=>k5 c o c1 c2 c3 (g4.get (hk c o c1 c2 c3 hc))) ?_
   rw[he,af7,Bool.or_assoc]
 refine key t.kids 0 _ τ2 rfl hj2 (fun c o c1 c2 c3 hc=>kp2 c o c1 c2 c3 (g1.get hc)) ?_
 rw[Bool.or_assoc]
end
theorem dH8:L3 [120]=0:=by decide
theorem cj7 {t:Tr} (hT:t.total<=9000000) {σ:H} {y:Sl} {b:Nat} {h:List UInt8} (hs:O1 σ t.kids y) (hb:σ b=some (.cells ⟨[.string ⟨⟨h⟩⟩]⟩ 9 (0,0))) (hh:h.length<=1000000) {K:KH}
 (hK:∀ (z:Sl) σ',Gr σ σ'->decide (z.len=0) = !bP1 t h->K (.slice z.base z.len z.cap) σ'):a8 57 [.agg ⟨O2 t y⟩,.slice (some ⟨b,0,none⟩) 1 1] K σ:=by
 refine c57 _ _ _ _ _ ⟨some ⟨b,0,none⟩,1,1⟩ ?_
 unfold g57
 refine x0 ?_;intro b7 σ1 g1 e1 n1
 refine A3 (l7 e1) ?_
 (refine k0 rfl ?_;try dsimp only)
 refine i7 (bx2 t y (hs.gr g1) (by omega) (B6 ?_))
 unfold bP1 at hK
 refine G8 (fun hc=>hK ⟨none,0,0⟩ σ1 g1 ?_) (fun hc => ?_)
 ·have:(t.check==0)=false:=by rwa [bne,Bool.not_eq_true']at hc
  rw[this];rfl
 have hc0:(t.check==0)=true:=by rwa [bne,Bool.not_eq_false']at hc
 rw[hc0]at hK
 simp only[C4]at hK
 refine x0 ?_;intro b14 σ2 g2 e2 n2
 refine x0 ?_;intro b15 σ3 g3 e3 n3
 refine w4 e3 bz2 ?_
 intro σ4 p4
 have G3:Gr σ σ3:=(g1.trans g2).trans g3
 have G4:Gr σ σ4:=G3.putF p4 (C3 (g1.trans g2) n3)
 have c7:σ4 b7=some (.cells ⟨O2 t y⟩ 75 (0,0)):=p4.get (o0 (g2.get e1) n3) (g3.get (g2.get e1))
 have c15:σ4 b15=some (.cells ⟨[.map (some b14)]⟩ 39 (0,0)):=p4.same
 have n14:b14≠b15:=o0 e2 n3
 have m4:I6 σ4 b14 (M6 kkS aj9 []):=((I6.new e2).gr g3).put p4 n14
 have f14:σ b14=none:=C3 g1 n2
 refine u5 ?_
 intro R hR
 have rest : ∀τ,Gr σ τ->τ b7=some (.cells ⟨O2 t y⟩ 75 (0,0))->τ b15=some (.cells ⟨[.map (some b14)]⟩ 39 (0,0))->I6 τ b14 (M6 kkS aj9 (if C0 h=true then [(⟨⟨h⟩⟩,1)]else []))->R (some ⟨b7,0,none⟩) ⟨none,0,0⟩ (some ⟨b15,0,none⟩) ⟨some ⟨b,0,none⟩,1,1⟩ 1 1 τ:=by
  intro τ hg h7 h15 hm
  refine hR _ _ _ _ _ _ _ (k9 rfl ?_)
  refine x0 ?_;intro b38 τ1 k1 f1 v1
  refine x0 ?_;intro b39 τ2 k2 f2 v2
  refine w4 f2 aH4 ?_
  intro τ3 q3
  have K3:Gr τ1 τ3:=k2.putF q3 v2
  refine S9 (fun j => ∀τ' (z:Sl),Gr σ τ'->τ' b38=some (.cells ⟨[.slice z.base z.len z.cap]⟩ 23 (0,0))->z.len=(if(C0 h&&aw2 h t)=true then 1 else 0)->(z.len=0->z=⟨none,0,0⟩)->j (some ⟨b38,0,none⟩) τ') ?_ ?_
  ·intro τ' z hg' h38 hzl hz0
   cases hf:C0 h&&aw2 h t with
   | false =>
    rw[hf]at hzl hK
    have hz1:=hz0 hzl
    subst hz1
    refine i6 (A7 (f0 h38) (i7 (cj5 (O9 ?_))))
    exact i6 (A7 (f0 h38) (hK ⟨none,0,0⟩ τ' hg' rfl))
   | true =>
    rw[hf]at hzl hK
    have hzl:z.len=1:=hzl
    refine i6 (A7 (f0 h38) (i7 (cj6 z hzl (O9 ?_))))
    exact i6 (A7 (f0 h38) (hK z τ' hg' (by rw[hzl];rfl)))
  intro j hj
  refine i6 (A3 (l7 (K3.get (k1.get h7))) ?_)
  unfold O2
  (refine k0 rfl ?_;try dsimp only)
  refine i7 (c87 _ _ _ _ _ ?_)
  unfold g87
  refine x0 ?_;intro b6 τ4 k4 f4 v4
  refine ar0 (cl5 (cA6 bt3 ?_))
  intro l obj τ5 nl pl hobj hY
  have x38:τ4 b38=some (.cells ⟨[.slice none 0 0]⟩ 23 (0,0)):=k4.get (K3.get f1)
  have x39:=k4.get q3.same
  have x15:=k4.get (K3.get (k1.get h15))
  have xm:=((hm.gr k1).gr K3).gr k4
  have x14 : ∃o,τ4 b14=some o:=by
   have:=xm.isSome
   cases hh:τ4 b14 with
   | none=>rw[hh]at this;cases this
   | some o=>exact⟨o,rfl⟩
  obtain⟨o14,x14⟩:=x14
  have y14 : ∃o,τ b14=some o:=by
   have:=hm.isSome
   cases hh:τ b14 with
   | none=>rw[hh]at this;cases this
   | some o=>exact⟨o,rfl⟩
  obtain⟨u14,y14⟩:=y14
  have GA:Gr σ τ4:=((hg.trans k1).trans K3).trans k4
  have hD:ScD l b14 b15 b38 b39 σ:=⟨C3 GA nl,f14,C3 hg v1,(o0 x14 nl).symm,(o0 x15 nl).symm,(o0 x38 nl).symm,(o0 x39 nl).symm,n14,o0 y14 v1,o0 (k1.get y14) v2,o0 h15 v1,o0 f1 v2⟩
  have hJ0:ScJ obj l b14 b15 b38 b39 h (C0 h) σ .ready false τ5:=by
   refine⟨pl.same,pl.get hD.l15.symm x15,pl.get hD.l39.symm x39,?_,⟨none,0,0⟩,pl.get hD.l38.symm x38,?_,(fun e=>by cases e),(fun e=>by cases e),(fun e=>by cases e),fun _=>rfl⟩
   ·have:=xm.put pl hD.l14.symm
    simpa using this
   ·have:n9 (if(C0 h&&false)=true then [(⟨⟨h⟩⟩:ByteArray)]else [])=[]:=by simp[n9]
    rw[this]
    exact E7.nil' (GA.putF pl hD.nl) _ _
  refine dv2 _ _ ?_
  unfold cJ5
  have l6:b6≠l:=o0 f4 nl
  refine i6 (A3 (l7 (pl.get l6 f4)) ?_)
  (refine k0 rfl ?_;try dsimp only)
  have hl32:C0 h=true->h.length=32:=bq4
  refine i7 (bX6 hD ?_ t y false τ5 _ hs hT hJ0 fun τ6 hJ6 k6=>y7 ?_)
  ·intro s F ρ K' hsz hJ hK'
   refine bu7 (hY _ _ _ ⟨hJ.lo,?_⟩)
   show G1 l obj _ ρ
   refine cl6 hJ.lo ?_
   intro ρ1 p1
   have hJ1:=hJ.state hD p1
   have kp1:ScK l b14 b38 ρ ρ1:=fun c o c1 _ _ hc=>p1.get c1 hc
   refine u5 ?_
   intro R6 hR6
   have hsl:s.data.toList.length=s.size:=dl _
   have key : ∀ (m i:Nat) (F':Bool) (ρ':H),i+m=s.size+1->ScJ obj l b14 b15 b38 b39 h (C0 h) σ .busy F' ρ'->ScK l b14 b38 ρ ρ'->(C0 h=false\/(F||occ h s.data.toList)=(F'||occ h (s.data.toList.drop i)))->R6 (some ⟨b15,0,none⟩) (some ⟨b39,0,none⟩) s (i:Int) ρ':=by
    intro m
    induction m with
    | zero =>
     intro i F' ρ' him hJ' hk he
     refine hR6 _ _ _ _ _ (S9 (fun j=>j (some ⟨b15,0,none⟩) (some ⟨b39,0,none⟩) s (i:Int) false ρ') ?_ ?_)
     ·refine k9 rfl (aY2 hJ'.lo ?_)
      intro ρ2 p2
      refine hK' ρ2 ((hJ'.state hD p2).same ?_) fun c o c1 c2 c3 hc=>p2.get c1 (hk c o c1 c2 c3 hc)
      rcases he with he | he
      ·exact .inl he
      ·by_cases hA:C0 h=true
       ·right
        rw[he,al7 h _ (by rw[hl32 hA,M1];omega),ad6]
       ·exact .inl (by simpa using hA)
     ·intro j hj'
      have w32:IntKind.i64.wrap ((i:Int)+32)=((i+32:Nat):Int):=by rw[n0 (by omega) (by omega)];omega
      rw[w32]
      exact k9 (J6 (by omega)) hj'
    | succ m ih =>
     intro i F' ρ' him hJ' hk he
     have w32:IntKind.i64.wrap ((i:Int)+32)=((i+32:Nat):Int):=by rw[n0 (by omega) (by omega)];omega
     have stop:(C0 h=false\/F'=true\/s.size<i+32) -> ∀ (G:H->Prop),G ρ'->y9 l obj K' none true .ready ρ':=by
      intro hst G _
      refine aY2 hJ'.lo ?_
      intro ρ2 p2
      refine hK' ρ2 ((hJ'.state hD p2).same ?_) fun c o c1 c2 c3 hc=>p2.get c1 (hk c o c1 c2 c3 hc)
      by_cases hA:C0 h=true
      ·right
       rcases he with he | he
       ·rw[he]at hA;cases hA
       ·rcases hst with h1 | h1 | h1
        ·rw[h1]at hA;cases hA
        ·rw[he,h1];rfl
        ·rw[he,al7 h _ (by rw[hl32 hA,M1];omega),ad6]
      ·exact .inl (by simpa using hA)
     refine hR6 _ _ _ _ _ (S9 (fun j => ∀x:Bool,(x=true->C0 h=true/\F'=false/\i+32<=s.size)->(x=false->C0 h=false\/F'=true\/s.size<i+32)->j (some ⟨b15,0,none⟩) (some ⟨b39,0,none⟩) s (i:Int) x ρ') ?_ ?_)
     ·intro x hx1 hx2
      cases x with
      | false=>exact k9 rfl (stop (hx2 rfl) (fun _=>True) trivial)
      | true =>
       obtain⟨hA,hF,hi⟩:=hx1 rfl
       subst hF
       have hl:=hl32 hA
       rw[w32]
       refine l3 rfl (i6 (ag2 (f0 hJ'.c39) (l5 ⟨B3 (by omega) (by omega),B3 (by omega) (by rw[B0];omega)⟩ ?_)))
       have hex:s.extract (i:Int).toNat ((i+32:Nat):Int).toNat=⟨⟨(s.data.toList.drop i).take 32⟩⟩:=by
        rw[B0,B0]
        refine O3 ?_
        rw[I8]
        show _=(s.data.toList.drop i).take 32
        rw[List.drop_take];congr 1;omega
       rw[hex]
       refine O6 bt4 ?_
       rw[hA]at hJ'
       refine bI8 hD ((s.data.toList.drop i).take 32) hJ' fun ρ2 hJ2 k2=>O9 ?_
       rw[C7 (i:=i)]
       refine ih (i+1) _ ρ2 (by omega) (by rw[hA];exact hJ2) (fun c o c1 c2 c3 hc=>k2 c o c1 c2 c3 (hk c o c1 c2 c3 hc)) (.inr ?_)
       rcases he with he | he
       ·rw[he]at hA;cases hA
       ·rw[he,bP0 (by omega),bh0,hl,Q1]
     ·intro j hj'
      rw[w32]
      by_cases hi:i+32<=s.size
      ·refine l3 (C8 (by omega)) (i6 (aL1 (f0 hJ'.c15) (A3 (bK7 hJ'.asked) (B6 ?_))))
       refine hj' _ ?_ ?_
       ·intro hx
        have hx:=E6 hx
        by_cases hA:(C0 h && !F')=true
        ·simp only[A8,Bool.not_eq_true']at hA
         exact⟨hA.1,hA.2,hi⟩
        ·rw[c0 hA]at hx
         simp[M6]at hx
       ·intro hx
        have hx:=J0 hx
        by_cases hA:(C0 h && !F')=true
        ·rw[d9 hA]at hx
         simp[M6]at hx
        ·cases hq:C0 h with
         | false=>exact .inl rfl
         | true =>
          rw[hq]at hA
          exact .inr (.inl (by simpa using hA))
      ·refine k9 (J6 (by omega)) (hj' false (fun h=>by cases h) fun _ => .inr (.inr (by omega)))
   exact key (s.size+1) 0 F ρ1 (by omega) hJ1 kp1 (.inr (by rw[ad8]))
  ·refine cl7 hJ6.lo (by intro e;cases e) ?_
   intro τ7 p7
   have hJ7:=hJ6.state hD p7
   obtain⟨_,_,_,_,z,h5,h6,_,_,_,hz0⟩:=hJ7
   rw[Q1]at h6 hz0
   have hzl:z.len=(if(C0 h&&aw2 h t)=true then 1 else 0):=by
    rw[h6.len,J7]
    split<;>rfl
   refine hj τ7 z h6.1 h5 hzl fun e=>hz0 ?_
   cases hf:C0 h&&aw2 h t with
   | false=>rfl
   | true=>rw[hf,d9 rfl]at hzl;omega
 refine hR _ _ _ _ _ _ _ (l3 rfl (j_d ?_))
 have hbb:=G4.get hb
 refine i6 (l5 ⟨Int.le_refl _,by show(0:Int)<((1:Nat):Int);decide⟩ (y8 (f0 hbb) ?_))
 refine i7 (aN6 h [120] (by omega) (by decide) (k0 rfl ?_))
 dsimp only
 have hpe:((ak7 h [120]).2==0)=C0 h:=by
  unfold ak7
  rw[dH8]
  cases C0 h<;>rfl
 rw[hpe]
 cases hA:C0 h with
 | false =>
  refine k9 rfl (rest σ4 G4 c7 c15 ?_)
  rw[hA];exact m4
 | true =>
  refine l3 rfl ?_
  refine i6 (aL1 (f0 c15) ?_)
  refine az4 (kk:=kkS) (f:=aj9) aP8 af0 m4 _ 1 ?_
  intro o5 σ5 p5 m5
  refine rest σ5 (G4.putF p5 f14) (p5.get (o0 e1 n2) c7) (p5.get n14.symm c15) ?_
  rw[hA];exact m5
theorem cj8 {h l:List UInt8} (hp:h.isPrefixOf l=true):occ h l=true:=by
 cases l with
 | nil =>
  have:=List.isPrefixOf_iff_prefix.1 hp
  rw[List.prefix_nil]at this;subst this;rfl
 | cons c r=>rw[occ,hp];rfl
section
variable {σ : H} {K : KH}
theorem bk2 (h l:List UInt8) (hh:h.length<=1000000) (hl:l.length<=100000000) (hK:K (.bool (occ h l)) σ):a8 150 [.string ⟨⟨h⟩⟩,.string ⟨⟨l⟩⟩] K σ:=by
 refine dw6 _ _ ?_
 unfold cM3
 have hsz : ∀l:List UInt8,(⟨⟨l⟩⟩:ByteArray).size=l.length:=fun _=>rfl
 refine u5 ?_
 intro R hR
 have key : ∀ (m i:Nat),i+m=l.length->occ h l=occ h (l.drop i)->R ⟨⟨h⟩⟩ ⟨⟨l⟩⟩ (i:Int) σ:=by
  intro m
  induction m with
  | zero =>
   intro i him he
   refine hR _ _ _ _ ?_
   dsimp only
   have w1:IntKind.i64.wrap ((i:Int)+(((⟨⟨h⟩⟩:ByteArray).size:Nat):Int))=((i+h.length:Nat):Int):=by rw[hsz,n0 (by omega) (by omega)];omega
   rw[w1,hsz l]
   cases h with
   | nil =>
    refine l3 (by simp only[H3,z8];omega) (l5 ⟨B3 (by omega) (by simp only[H3];omega),B3 (by omega) (by rw[B0];simp)⟩ ?_)
    rw[B0,B0,bex,K1]
    refine l3 ?_ ?_
    ·simp
    ·have:occ [] l=true:=by cases l<;>rfl
     rw[this]at hK;exact hK
   | cons a q =>
    refine k9 (by simp only[y5,C2];omega) ?_
    have:occ (a::q) (l.drop i)=false:=al7 _ _ (by rw[M1];simp only[y5];omega)
    rw[he,this]at hK;exact hK
  | succ m ih =>
   intro i him he
   refine hR _ _ _ _ ?_
   dsimp only
   have w1:IntKind.i64.wrap ((i:Int)+(((⟨⟨h⟩⟩:ByteArray).size:Nat):Int))=((i+h.length:Nat):Int):=by rw[hsz,n0 (by omega) (by omega)];omega
   rw[w1,hsz l]
   by_cases hi:i+h.length<=l.length
   ·refine l3 (by simp only[z8];omega) (l5 ⟨B3 (by omega) (by omega),B3 (by omega) (by rw[B0];omega)⟩ ?_)
    rw[B0,B0,bex,K1]
    have e:(l.take (i+h.length)).drop i=(l.drop i).take h.length:=by rw[List.drop_take];congr 1;omega
    rw[e]
    have hp:=bh0 (h:=h) (l:=l.drop i)
    by_cases hq:(l.drop i).take h.length=h
    ·rw[F1 hq]at hp
     refine l3 (by simpa using hq) ?_
     rw[he,cj8 hp]at hK;exact hK
    ·rw[J4 hq]at hp
     refine k9 (by simpa using hq) ?_
     rw[C7 (i:=i)]
     exact ih (i+1) (by omega) (by rw[he,bP0 (by omega),hp,Q1])
   ·refine k9 (by simp only[C2];omega) ?_
    have:occ h (l.drop i)=false:=al7 _ _ (by rw[M1];omega)
    rw[he,this]at hK;exact hK
 exact key l.length 0 (by omega) (by rw[ad8])
theorem bX7 (h:List UInt8) (hh:h.length<=1000000) : ∀ (t:Tr) (y:Sl) {σ:H},O1 σ t.kids y->t.total<=9000000 -> ∀ {K:KH},K (.bool (aw2 h t)) σ->a8 98 [.agg ⟨O2 t y⟩,.string ⟨⟨h⟩⟩] K σ:=by
 refine Tr.ind (P:=fun t => ∀ (y:Sl) {σ:H},O1 σ t.kids y->t.total<=9000000 -> ∀ {K:KH},K (.bool (aw2 h t)) σ->a8 98 [.agg ⟨O2 t y⟩,.string ⟨⟨h⟩⟩] K σ) ?_
 intro t ih y σ hs hT K hK
 refine B7 _ hK (c98 _ _ _ _ _ _ ?_)
 clear hK
 unfold g98
 have htot:1+t.name.size+t.data.size+Tr.totalRow t.kids=t.total:=by obtain⟨n,k,e,d,kids⟩:=t;simp only[Tr.total,Tr.name,Tr.kids,Tr.data]
 have hkt:=U1 t
 rw[bw3]
 refine x0 ?_;intro b7 σ1 g1 e1 n1
 refine y8 (f0 e1 (by rfl)) ?_
 have hE:t.data=⟨⟨t.data.data.toList⟩⟩:=(K0 _).symm
 have hll:t.data.data.toList.length=t.data.size:=dl _
 have hcall : ∀ {F:Bool->H->Prop},F (occ h t.data.data.toList) σ1->d8 150 [.string ⟨⟨h⟩⟩,.string t.data] kB F σ1:=by
  intro F hF
  have:=i7 (t:=kB) (F:=F) (bk2 (σ:=σ1) h t.data.data.toList hh (by omega) (y7 hF))
  rw[<-hE]at this
  exact this
 refine hcall ?_
 cases ho:occ h t.data.data.toList with
 | true=>exact l3 rfl ⟨rfl,g1⟩
 | false =>
  refine k9 rfl ?_
  rw[Q1]
  have hs1:=hs.gr g1
  refine u5 ?_
  intro R hR
  have key : ∀ (r:List Tr) (i:Nat) (τ:H),t.kids.drop i=r->Gr σ1 τ->af7 h t.kids=af7 h r->R ⟨⟨h⟩⟩ (some ⟨b7,0,none⟩) (i:Int) τ:=by
   intro r
   induction r with
   | nil =>
    intro i τ hdr hg he
    have hge:t.kids.length<=i:=by simpa using hdr
    refine hR _ _ _ _ (i6 (A7 (f0 (hg.get e1) (by rfl)) (k9 (by rw[hs.1];simp only[C2];omega) ⟨?_,g1.trans hg⟩)))
    rw[he];rw[af7]
   | cons x r ihl =>
    intro i τ hdr hg he
    obtain⟨hx,hlt,hd'⟩:=C5 hdr
    obtain⟨g,o,z,hb,hrd,hz⟩:=ah9 (hs1.gr hg) hx
    refine hR _ _ _ _ (i6 (A7 (f0 (hg.get e1) (by rfl)) (l3 (by rw[hs.1];simp only[z8];omega) (i6 (A7 (f0 (hg.get e1) (by rfl)) ?_)))))
    rw[hb]
    refine i6 (l5 ⟨by omega,by rw[hs.1];omega⟩ ?_)
    have hrd2:rdA 5 g (o+(i:Int).toNat * 5) τ=some (.agg ⟨O2 x z⟩):=by simpa using hrd
    refine A3 hrd2 ?_
    unfold O2
    (refine k0 rfl ?_;try dsimp only)
    have hxt:x.total<=9000000:=by have:=W4 hx;omega
    rw[af7]at he
    refine i7 (ih x (F7 hx) z hz hxt (y7 ?_))
    cases hq:aw2 h x with
    | true=>rw[he,hq];exact l3 rfl ⟨rfl,g1.trans hg⟩
    | false =>
     refine k9 rfl ?_
     rw[C7 (i:=i)]
     exact ihl (i+1) τ hd' hg (by rw[he,hq,Q1])
  exact key t.kids 0 σ1 rfl (Gr.refl _) rfl
theorem bX8 {t:Tr} (hT:t.total<=9000000) {y:Sl} {b:Nat} {h:List UInt8} (hs:O1 σ t.kids y) (hb:σ b=some (.cells ⟨[.string ⟨⟨h⟩⟩]⟩ 9 (0,0))) (hh:h.length<=1000000)
 (hK:∀ (z:Sl) σ',Gr σ σ'->decide (z.len=0) = !bP1 t h->K (.slice z.base z.len z.cap) σ'):a8 64 [.agg ⟨O2 t y⟩,.slice (some ⟨b,0,none⟩) 1 1] K σ:=by
 refine c64 _ _ _ _ _ ⟨some ⟨b,0,none⟩,1,1⟩ ?_
 unfold g64
 refine x0 ?_;intro b7 σ1 g1 e1 n1
 refine A3 (l7 e1 (by rfl)) ?_
 (refine k0 rfl ?_;try dsimp only)
 refine i7 (aW1 t y (hs.gr g1) (by omega) (B6 ?_))
 unfold bP1 at hK
 refine G8 (fun hc=>hK ⟨none,0,0⟩ σ1 g1 ?_) (fun hc => ?_)
 ·have:(t.check==0)=false:=by rwa [bne,Bool.not_eq_true']at hc
  rw[this];rfl
 have hc0:(t.check==0)=true:=by rwa [bne,Bool.not_eq_false']at hc
 rw[hc0]at hK
 simp only[C4]at hK
 refine u5 ?_
 intro R hR
 have hb1:=g1.get hb
 have fin : ∀ (z:Sl) (τ:H),Gr σ τ->decide (z.len=0) = !(C0 h&&aw2 h t)->R ⟨some ⟨b,0,none⟩,1,1⟩ (some ⟨b7,0,none⟩) z 1 τ:=by
  intro z τ hg hz
  exact hR _ _ _ _ _ (k9 rfl (hK z τ hg hz))
 refine hR _ _ _ _ _ (l3 rfl (j_d ?_))
 refine S9 (fun j => ∀q:Bool,q = !(C0 h&&aw2 h t)->j ⟨some ⟨b,0,none⟩,1,1⟩ (some ⟨b7,0,none⟩) ⟨none,0,0⟩ 0 q σ1) ?_ ?_
 ·intro q hq
  cases hf:C0 h&&aw2 h t with
  | false =>
   rw[hf]at hq
   refine l3 hq ?_
   exact fin ⟨none,0,0⟩ σ1 g1 (by rw[hf];rfl)
  | true =>
   rw[hf]at hq
   refine k9 hq ?_
   refine u5 ?_
   intro R2 hR2
   refine hR2 _ _ _ _ _ _ (j_d ?_)
   refine k9 rfl (k9 rfl (j_d ?_))
   refine k9 rfl (k9 rfl (l5 ⟨B3 (Int.le_refl _) (by decide),H1⟩ ?_))
   have nilAt : ∀ (τ:H) (bs:Option Addr) (c:Nat),w7 τ 1 [] ⟨bs,0,c⟩:=fun τ bs c=>⟨rfl,.inl rfl⟩
   refine E7.apps (y:=⟨none,0,0⟩) (rows:=[]) (rows2:=[]) Y8 (E7.nil σ1 _ _) (x:=⟨F8 none 0 0 1,0,0⟩) ⟨rfl,.inl rfl⟩ (fun r hr=>by cases hr) (by simp) ?_
   intro z1 σ2 r1 _ _
   refine i6 (l5 ⟨Int.le_refl _,by show(0:Int)<((1:Nat):Int);decide⟩ (y8 (f0 (r1.1.get hb1) (by rfl)) ?_))
   refine r1.app1 Y8 (r:=[.string ⟨⟨h⟩⟩]) rfl rfl (by simp) ?_
   intro z2 σ3 r2 _ _
   refine l5 ⟨H1,B3 (Int.le_refl _) (by decide)⟩ ?_
   refine E7.apps (rows2:=[]) Y8 r2 (x:=⟨F8 none 0 0 1,0,0⟩) ⟨rfl,.inl rfl⟩ (fun r hr=>by cases hr) (by simp) ?_
   intro z3 σ4 r3 _ _
   refine fin z3 σ4 (g1.trans r3.1) ?_
   rw[hf,r3.len];rfl
 ·intro j hj
  refine i6 (l5 ⟨Int.le_refl _,by show(0:Int)<((1:Nat):Int);decide⟩ (y8 (f0 hb1 (by rfl)) (i7 (br8 h (by omega) (y7 ?_)))))
  cases hi:C0 h with
  | false=>exact l3 rfl (hj true (by rw[hi];rfl))
  | true =>
   refine k9 rfl (i6 (A3 (l7 e1 (by rfl)) ?_))
   (refine k0 rfl ?_;try dsimp only)
   refine i6 (l5 ⟨Int.le_refl _,by show(0:Int)<((1:Nat):Int);decide⟩ (y8 (f0 hb1 (by rfl)) (i7 (bX7 h hh t y (hs.gr g1) hT (y7 ?_)))))
   exact hj _ (by rw[hi,C4])
end
theorem bX9:sizeT Tryz.prog 38=some 4:=by kernel_rfl
theorem at5 {σ:H} {ps:List B4} {x:Sl} (h:am2 σ ps x) {i:Nat} {p:B4} (hi:ps[i]? = some p) : ∃g o y,x.base=some ⟨g,o,none⟩/\i<x.len/\rdA 4 g (o+i * 4) σ=some (.agg ⟨U4 p y⟩)/\w7 σ 1 (n9 p.refs) y/\s5 g (o+i * 4) σ=some (.string p.path)/\s5 g (o+i * 4+1) σ=some (.slice y.base y.len y.cap):=by
 have hl:=h.len
 obtain⟨rows,h1,h2⟩:=h
 obtain⟨y,h3,h4⟩:=h2.get hi
 obtain⟨g,o,q1,q2,q3⟩:=h1.rdA h3 (by decide)
 have hlt:i<ps.length:=by
  rcases F6 i ps.length with h | h
  ·exact h
  ·rw[L4 h]at hi;cases hi
 exact⟨g,o,y,q1,by omega,q2,h4,by simpa using q3 0 _ rfl,q3 1 _ rfl⟩
section
variable {σ : H} {K : KH} {S : H9} {x1 x2 : Sl}
theorem ap6 (h:am2 σ S.paths x1) (hn:S.paths.length<=1000000) (s:ByteArray) (hK:K (.bool (S.is s)) σ):a8 31 [stV x1 x2,.string s] K σ:=by
 refine B7 _ hK (c31 _ _ _ ?_)
 clear hK
 unfold g31
 refine x0 ?_;intro b4 σ1 g1 e1 n1
 have h1:=h.gr g1
 have hl:=h.len
 refine u5 ?_
 intro R hR
 have key : ∀ (r:List B4) (i:Nat),S.paths.drop i=r->S.is s=(r.any fun p=>p.path==s)->R s (some ⟨b4,0,none⟩) (i:Int) σ1:=by
  intro r
  induction r with
  | nil =>
   intro i hd he
   have hge:S.paths.length<=i:=by simpa using hd
   exact hR _ _ _ _ (i6 (A7 (f0 e1 (by rfl)) (k9 (by rw[hl];simp only[C2];omega) ⟨by rw[he];rfl,g1⟩)))
  | cons p r ih =>
   intro i hd he
   obtain⟨t1,t2,t3⟩:=P7 hd
   obtain⟨g,o,y,q1,q2,q3,q4,q5,q6⟩:=at5 h1 t1
   refine hR _ _ _ _ (i6 (A7 (f0 e1 (by rfl)) (l3 (by rw[hl];simp only[z8];omega) (i6 (A7 (f0 e1 (by rfl)) ?_)))))
   rw[q1]
   refine i6 (l5 (L1 x1.len) (y8 q5 ?_))
   rw[Z6]
   rw[List.any_cons]at he
   cases hb:p.path==s with
   | true=>exact l3 rfl ⟨by rw[he,hb];rfl,g1⟩
   | false =>
    refine k9 rfl ?_
    rw[C7 (i:=i)]
    exact ih (i+1) t3 (by rw[he,hb,Q1])
 exact key S.paths 0 rfl rfl
theorem bb4 (s:ByteArray) (hs:s.size<=1000000) (hK:K (.bool (C6 s)) σ):a8 61 [.string s] K σ:=by
 have:s.data.toList.length=s.size:=dl s
 have e:s=⟨⟨s.data.toList⟩⟩:=(K0 s).symm
 rw[e]
 refine c61 _ ?_
 unfold g61
 refine i7 (av9 s.data.toList (by omega) (k0 rfl ?_))
 exact hK
theorem bb5 (a:List UInt8) (s:ByteArray):B8 ⟨⟨a⟩⟩ s=(a==s.data.toList):=by
 have e:s=⟨⟨s.data.toList⟩⟩:=(K0 s).symm
 conv=>lhs;rw[e]
 rw[K1]
theorem ay3 (l:List UInt8):(I9 l).1.length<=l.length/\(I9 l).2.1.length<=l.length:=by
 unfold I9
 split
 ·constructor<;>simp<;>omega
 ·constructor<;>simp
theorem bt5 (p:B4) (z0:p.path.size<=1000000) (z1:p.nar.size<=1000000) (z2:p.drv.size<=900000) {y:Sl} (hK:K (.bool (aQ8 ax9 p)) σ):a8 65 [.agg ⟨U4 p y⟩] K σ:=by
 refine B7 _ hK (c65 _ _ _ _ ?_)
 clear hK
 unfold g65
 rw[cd4]
 refine x0 ?_;intro b5 σ1 g1 e1 n1
 have l0:p.path.data.toList.length=p.path.size:=dl _
 have l1:p.nar.data.toList.length=p.nar.size:=dl _
 have l2:p.drv.data.toList.length=p.drv.size:=dl _
 have hE0:p.path=⟨⟨p.path.data.toList⟩⟩:=(K0 _).symm
 have hE1:p.nar=⟨⟨p.nar.data.toList⟩⟩:=(K0 _).symm
 have hE2:p.drv=⟨⟨p.drv.data.toList⟩⟩:=(K0 _).symm
 refine y8 (f0 e1 (by rfl)) ?_
 by_cases hd:p.drv.data.toList=[]
 ·rw[d9 hd]
  refine l3 (P8.2 (by rw[hE2,hd])) (y8 (f0 e1 (by rfl)) ?_)
  have hcall : ∀ {F:ByteArray->ByteArray->Int->H->Prop},F ⟨⟨(I9 p.path.data.toList).1⟩⟩ ⟨⟨(I9 p.path.data.toList).2.1⟩⟩ (I9 p.path.data.toList).2.2 σ1->d8 63 [.string p.path] (.tup [.sc .str,.sc .str,.sc (.int .i64)]) F σ1:=by
   intro F hF
   have:=i7 (t := .tup [.sc .str,.sc .str,.sc (.int .i64)]) (F:=F) (av9 (σ:=σ1) p.path.data.toList (by omega) (k0 rfl hF))
   rw[<-hE0]at this
   exact this
  refine hcall (y8 (f0 e1 (by rfl)) ?_)
  have hsl:=(ay3 p.path.data.toList).2
  have hcall2 : ∀ {F:ByteArray->Int->H->Prop},(∀σ',Gr σ1 σ'->F ⟨⟨(U9 p.nar.data.toList (I9 p.path.data.toList).2.1).1⟩⟩ (U9 p.nar.data.toList (I9 p.path.data.toList).2.1).2 σ')->d8 99 [.string p.nar,.string ⟨⟨(I9 p.path.data.toList).2.1⟩⟩] (.tup [.sc .str,.sc (.int .i64)]) F σ1:=by
   intro F hF
   have:=i7 (t := .tup [.sc .str,.sc (.int .i64)]) (F:=F) (bs8 (σ:=σ1) p.nar.data.toList (I9 p.path.data.toList).2.1 (by omega) (by omega) fun σ' hg=>k0 rfl (hF σ' hg))
   rw[<-hE1]at this
   exact this
  refine hcall2 fun σ2 g2 => ?_
  cases hq:(U9 p.nar.data.toList (I9 p.path.data.toList).2.1).2==0 with
  | false=>exact k9 rfl ⟨rfl,g1.trans g2⟩
  | true =>
   refine l3 rfl (y8 (f0 (g2.get e1) (by rfl)) ⟨?_,g1.trans g2⟩)
   rw[bb5,C4]
 ·rw[c0 hd]
  refine k9 (by rw[Bool.eq_false_iff];intro e;have:=P8.1 e;exact hd (by rw[this])) (y8 (f0 e1 (by rfl)) ?_)
  rw[hE2]
  refine i7 (bt1 p.drv.data.toList (by omega) (fun d x' y' σ2 hp g2 hd2 hz => ?_) (fun hp e n σ2 he g2 => ?_))
  ·rw[hp]
   unfold drC
   refine k0 rfl ?_
   try dsimp only
   refine x0 ?_;intro b22 σ3 g3 e3 n3
   refine x0 ?_;intro b23 σ4 g4 e4 n4
   have n223:b22≠b23:=o0 e3 n4
   refine w4 (g4.get e3) ap5 ?_
   intro σ5 p5
   refine w4 (p5.get n223.symm e4) bz1 ?_
   intro σ6 p6
   have g6:Gr σ2 σ6:=((g3.trans g4).putF p5 n3).putF p6 (C3 g3 n4)
   have c22:σ6 b22=some (.cells ⟨drC d.name x' y' d.script⟩ 113 (0,0)):=p6.get n223 p5.same
   refine E9 (f0 p6.same (by rfl)) (k9 rfl (A3 (l7 c22 (by rfl)) (k0 rfl ?_)))
   try dsimp only
   refine i7 (bI3 (hd2.gr g6) hz (k0 rfl ?_))
   have G:=(g1.trans g2).trans g6
   cases hq:d.path.2==0 with
   | false=>exact k9 hq ⟨rfl,G⟩
   | true =>
    refine l3 hq (y8 (f0 (g6.get (g2.get e1)) (by rfl)) ⟨?_,G⟩)
    rw[bb5];rfl
  ·rw[hp]
   unfold drC
   refine k0 rfl ?_
   try dsimp only
   refine x0 ?_;intro b22 σ3 g3 e3 n3
   refine x0 ?_;intro b23 σ4 g4 e4 n4
   have n223:b22≠b23:=o0 e3 n4
   refine w4 (g4.get e3) ap5 ?_
   intro σ5 p5
   refine w4 (p5.get n223.symm e4) bz1 ?_
   intro σ6 p6
   have g6:Gr σ2 σ6:=((g3.trans g4).putF p5 n3).putF p6 (C3 g3 n4)
   exact E9 (f0 p6.same (by rfl)) (l3 (by simpa using he) ⟨rfl,(g1.trans g2).trans g6⟩)
theorem bt6 (h:bb3 σ S x1 x2) (hz:Sm S) (hdv:∀p∈S.paths,p.drv.size<=900000) {i:Nat} {p:B4} {q:Option ByteArray} (hi:S.paths[i]? = some p) (hq:AtQ (·.path) S.paths i q) (k:Nat) (hk:k<=6) (hK:K (.bool (kpS S k q p)) σ):a8 30 [stV x1 x2,.int .i64 (i:Int),.int .i64 (k:Int)] K σ:=by
 refine B7 _ hK (c30 _ _ _ _ ?_)
 clear hK
 unfold g30
 refine x0 ?_;intro b5 σ1 g1 e1 n1
 obtain⟨g,o,y,q1,q2,q3,q4,q5,q6⟩:=at5 (h.1.gr g1) hi
 have hp:=F7 hi
 obtain⟨z1,z2,z3,z4,z5⟩:=hz.pa p hp
 have hzd:=hdv p hp
 have hnp:=hz.np
 have hx1:=h.1.len
 refine A7 (f0 e1 (by rfl)) ?_
 rw[q1]
 refine i6 (l5 (L1 x1.len) (A3 q3 ?_))
 unfold U4
 (refine k0 rfl ?_;try dsimp only)
 refine x0 ?_;intro b13 σ2 g2 e2 n2
 refine w4 e2 bX9 ?_
 intro σ3 p3
 have c13:σ3 b13=some (.cells ⟨U4 p y⟩ 38 (0,0)):=p3.same
 have g3:Gr σ1 σ3:=g2.putF p3 n2
 refine y8 (f0 c13 (by rfl)) ?_
 have hE:p.nar=⟨⟨p.nar.data.toList⟩⟩:=(K0 _).symm
 have hll:p.nar.data.toList.length=p.nar.size:=dl _
 have hcall : ∀ {F:ByteArray->Int->Bool->ByteArray->Sl->Int->H->Prop},(∀y4 σ',Gr σ3 σ'->O1 σ' (T9 p.nar.data.toList).1.kids y4->F (T9 p.nar.data.toList).1.name (T9 p.nar.data.toList).1.kind (T9 p.nar.data.toList).1.exec (T9 p.nar.data.toList).1.data y4 (T9 p.nar.data.toList).2 σ')->d8 60 [.string p.nar] (.tup [.agg [.str,(.int .i64),.bool,.str,.slc],.sc (.int .i64)]) F σ3:=by
  intro F hF
  have:=i7 (t := .tup [.agg [.str,(.int .i64),.bool,.str,.slc],.sc (.int .i64)]) (F:=F) (bz0 (σ:=σ3) p.nar.data.toList (by omega) fun y4 σ' hg hs=>k0 rfl (hF y4 σ' hg hs))
  rw[<-hE]at this
  exact this
 refine hcall fun y4 σ4 g4 hs4 => ?_
 have hTt:=ay0 (s:=p.nar.data.toList) (by omega)
 refine x0 ?_;intro b21 σ5 g5 e5 n5
 refine w4 e5 I2 ?_
 intro σ6 p6
 have g6:Gr σ4 σ6:=g5.putF p6 n5
 have hs6:=hs4.gr g6
 have G16:Gr σ1 σ6:=(g3.trans g4).trans g6
 have G06:Gr σ σ6:=g1.trans G16
 have c21:σ6 b21=some (.cells ⟨O2 (T9 p.nar.data.toList).1 y4⟩ 75 (0,0)):=p6.same
 have k13:=(g4.trans g6).get c13
 have k5:=G16.get e1
 have hy:=q4.gr G16
 have hyl:y.len=p.refs.length:=ac4 hy
 refine j_d ?_
 have nk : ∀ (a:Nat),k≠a->(((k:Nat):Int)==((a:Nat):Int))=false:=fun a ha=>by simp only[M9,ne_eq];omega
 by_cases k1:k=1
 ·subst k1
  refine l3 rfl ?_
  have hv:kpS S 1 q p=((V5 q p.path&&C6 p.path)&&T6 C6 id none p.refs):=rfl
  rw[hv]
  generalize hA:(V5 q p.path&&C6 p.path)=A
  refine S9 (fun j => ∀b:Bool,b = !A->j (some ⟨b13,0,none⟩) b σ6) ?_ ?_
  ·intro b hb
   cases A with
   | false=>exact l3 hb ⟨rfl,G06⟩
   | true =>
    refine k9 hb ?_
    rw[C4]
    generalize hV:T6 C6 id none p.refs=V
    refine u5 ?_
    intro R hR
    have key : ∀ (r:List ByteArray) (i:Nat) (q:Option ByteArray),p.refs.drop i=r->AtQ id p.refs i q->V=T6 C6 id q r->R (some ⟨b13,0,none⟩) (i:Int) σ6:=by
     intro r
     induction r with
     | nil =>
      intro i q hdr _ he
      have hge:p.refs.length<=i:=by simpa using hdr
      exact hR _ _ _ (i6 (A7 (f0 k13 (by rfl)) (k9 (by simp only[C2];omega) ⟨by rw[he];rfl,G06⟩)))
     | cons s r ih =>
      intro i q hdr hq he
      obtain⟨t1,t2,t3⟩:=C5 hdr
      obtain⟨g',o',a1,a2,a3⟩:=U7 hy t1
      refine hR _ _ _ (i6 (A7 (f0 k13 (by rfl)) (l3 (by simp only[z8];omega) ?_)))
      unfold T6 at he
      refine S9 (fun j => ∀b:Bool,b=(!(C6 s&&V5 q s))->j (some ⟨b13,0,none⟩) (i:Int) b σ6) ?_ ?_
      ·intro b hb2
       cases b with
       | true =>
        refine l3 rfl ⟨?_,G06⟩
        have:(C6 s&&V5 q s)=false:=by have:=hb2.symm;rwa [Bool.not_eq_true']at this
        rw[he];simp only[id,this];rfl
       | false =>
        have:(C6 s&&V5 q s)=true:=by simpa using hb2.symm
        refine k9 rfl ?_
        rw[C7 (i:=i)]
        exact ih (i+1) _ t3 (AtQ.next (g:=id) t1) (by rw[he];simp only[id,this];rfl)
      ·intro j hj
       refine i6 (A7 (f0 k13 (by rfl)) ?_)
       rw[a1]
       refine i6 (l5 (L1 y.len) (y8 a3 ?_))
       refine i7 (bb4 s (z5 s (F7 t1)) (y7 ?_))
       cases hv:C6 s with
       | false=>exact l3 rfl (hj true (by rw[hv];rfl))
       | true =>
        refine k9 rfl ?_
        rcases hq with⟨u0,u1⟩ | ⟨u0,a,u1,u2⟩
        ·exact k9 (by simp only[C2];omega) (hj false (by rw[hv,u1];rfl))
        ·refine l3 (by simp only[z8];omega) (i6 (A7 (f0 k13 (by rfl)) ?_))
         have w1:IntKind.i64.wrap ((i:Int) - 1)=((i - 1:Nat):Int):=by rw[n0 (by omega) (by omega)];omega
         obtain⟨g'',o'',c1,c2,c3⟩:=U7 hy u1
         rw[w1,c1]
         refine i6 (l5 (L1 y.len) (y8 c3 (i6 (A7 (f0 k13 (by rfl)) ?_))))
         rw[a1]
         refine i6 (l5 (L1 y.len) (y8 a3 ?_))
         exact hj _ (by rw[hv,u2];rfl)
    exact key p.refs 0 none rfl (.inl ⟨rfl,rfl⟩) hV.symm
  ·intro j hj
   rcases hq with⟨u0,u1⟩ | ⟨u0,a,u1,u2⟩
   ·refine k9 (by simp only[C2];omega) (y8 (f0 k13 (by rfl)) (i7 (bb4 p.path z1 (y7 (hj _ ?_)))))
    rw[<-hA,u1];rfl
   ·refine l3 (by simp only[z8];omega) (A7 (f0 k5 (by rfl)) ?_)
    obtain⟨g',o',y',r1,r2,r3,r4,r5,r6⟩:=at5 (h.1.gr G06) u1
    have w1:IntKind.i64.wrap ((i:Int) - 1)=((i - 1:Nat):Int):=by rw[n0 (by omega) (by omega)];omega
    rw[w1,r1]
    refine i6 (l5 (L1 x1.len) (y8 r5 (y8 (f0 k13 (by rfl)) ?_)))
    rw[u2]at hA
    cases hlt:E4 a.path p.path with
    | false=>exact l3 rfl (hj true (by rw[<-hA];show true = !(E4 a.path p.path&&_);rw[hlt];rfl))
    | true =>
     refine k9 rfl (y8 (f0 k13 (by rfl)) (i7 (bb4 p.path z1 (y7 (hj _ ?_)))))
     rw[<-hA];show _ = !(E4 a.path p.path&&_);rw[hlt,C4]
 refine k9 (nk 1 k1) ?_
 by_cases k2:k=2
 ·subst k2
  refine l3 rfl ?_
  have hv:kpS S 2 q p=p.refs.all S.is:=rfl
  rw[hv]
  refine u5 ?_
  intro R hR
  have key : ∀ (r:List ByteArray) (i:Nat),p.refs.drop i=r->p.refs.all S.is=r.all S.is->R (some ⟨b5,0,none⟩) (some ⟨b13,0,none⟩) (i:Int) σ6:=by
   intro r
   induction r with
   | nil =>
    intro i hdr he
    have hge:p.refs.length<=i:=by simpa using hdr
    exact hR _ _ _ _ (i6 (A7 (f0 k13 (by rfl)) (k9 (by simp only[C2];omega) ⟨by rw[he];rfl,G06⟩)))
   | cons s r ih =>
    intro i hdr he
    obtain⟨t1,t2,t3⟩:=C5 hdr
    obtain⟨g',o',a1,a2,a3⟩:=U7 hy t1
    refine hR _ _ _ _ (i6 (A7 (f0 k13 (by rfl)) (l3 (by simp only[z8];omega) (i6 (A3 (l7 k5 (by rfl)) ?_)))))
    (refine k0 rfl ?_;try dsimp only)
    refine i6 (A7 (f0 k13 (by rfl)) ?_)
    rw[a1]
    refine i6 (l5 (L1 y.len) (y8 a3 ?_))
    rw[List.all_cons]at he
    refine i7 (ap6 (x2:=x2) (h.1.gr G06) hnp s (y7 ?_))
    cases hb:S.is s with
    | false=>exact l3 rfl ⟨by rw[he,hb];rfl,G06⟩
    | true =>
     refine k9 rfl ?_
     rw[C7 (i:=i)]
     exact ih (i+1) t3 (by rw[he,hb,C4])
  exact key p.refs 0 rfl rfl
 refine k9 (nk 2 k2) ?_
 by_cases k4:k=4
 ·subst k4
  refine l3 rfl (A3 (l7 c21 (by rfl)) ?_)
  (refine k0 rfl ?_;try dsimp only)
  refine i7 (by9 (T9 p.nar.data.toList).1 y4 hs6 (by omega) (k0 rfl ?_))
  have hv:kpS S 4 q p=as3 p:=rfl
  rw[hv]
  unfold as3
  cases hd:(T9 p.nar.data.toList).2==0 with
  | false=>rw[d9 (by rw[bne,hd];rfl)];exact k9 rfl ⟨rfl,G06⟩
  | true =>
   rw[c0 (by rw[bne,hd];decide)]
   refine l3 rfl ?_
   cases he:(D1 (T9 p.nar.data.toList).1).2==0 with
   | false=>exact k9 rfl ⟨rfl,G06⟩
   | true =>
    refine l3 rfl (y8 (f0 k13 (by rfl)) ⟨?_,G06⟩)
    rw[bb5,C4]
 refine k9 (nk 4 k4) ?_
 by_cases k5':k=5
 ·subst k5'
  refine l3 rfl ?_
  have hv:kpS S 5 q p=p.refs.all (aD9 p):=rfl
  rw[hv]
  refine u5 ?_
  intro R hR
  have key : ∀ (r:List ByteArray) (i:Nat) (τ:H),p.refs.drop i=r->Gr σ6 τ->p.refs.all (aD9 p)=r.all (aD9 p)->R (some ⟨b13,0,none⟩) (some ⟨b21,0,none⟩) (i:Int) τ:=by
   intro r
   induction r with
   | nil =>
    intro i τ hdr hg he
    have hge:p.refs.length<=i:=by simpa using hdr
    exact hR _ _ _ _ (i6 (A7 (f0 (hg.get k13) (by rfl)) (k9 (by simp only[C2];omega) ⟨by rw[he];rfl,G06.trans hg⟩)))
   | cons s r ih =>
    intro i τ hdr hg he
    obtain⟨t1,t2,t3⟩:=C5 hdr
    obtain⟨g',o',a1,a2,a3⟩:=U7 (hy.gr hg) t1
    have zs:=z5 s (F7 t1)
    have hEs:s=⟨⟨s.data.toList⟩⟩:=(K0 _).symm
    have hls:s.data.toList.length=s.size:=dl _
    refine hR _ _ _ _ (i6 (A7 (f0 (hg.get k13) (by rfl)) (l3 (by simp only[z8];omega) (i6 (A7 (f0 (hg.get k13) (by rfl)) ?_)))))
    rw[a1]
    refine i6 (l5 (L1 y.len) (y8 a3 ?_))
    rw[List.all_cons]at he
    have hcall : ∀ {F:ByteArray->ByteArray->Int->H->Prop},F ⟨⟨(I9 s.data.toList).1⟩⟩ ⟨⟨(I9 s.data.toList).2.1⟩⟩ (I9 s.data.toList).2.2 τ->d8 63 [.string s] (.tup [.sc .str,.sc .str,.sc (.int .i64)]) F τ:=by
     intro F hF
     have:=i7 (t := .tup [.sc .str,.sc .str,.sc (.int .i64)]) (F:=F) (av9 (σ:=τ) s.data.toList (by omega) (k0 rfl hF))
     rw[<-hEs]at this
     exact this
    refine hcall (i6 (A3 (l7 (hg.get c21) (by rfl)) ?_))
    (refine k0 rfl ?_;try dsimp only)
    refine x0 ?_;intro b115 τ1 h1 f1 m1
    have hsl:=(ay3 s.data.toList).1
    refine i7 (bX8 (t:=(T9 p.nar.data.toList).1) (h:=(I9 s.data.toList).1) (by omega) ((hs6.gr hg).gr h1) f1 (by omega) fun z τ2 h2 hz2=>Q7 ?_)
    have hz2:decide (z.len=0) = !aD9 p s:=hz2
    cases hb:aD9 p s with
    | false =>
     rw[hb]at hz2
     exact l3 (by have:=E6 hz2;rw[this];rfl) ⟨by rw[he,hb];rfl,((G06.trans hg).trans h1).trans h2⟩
    | true =>
     rw[hb]at hz2
     refine k9 (by have:=J0 hz2;simp only[M9,ne_eq];omega) ?_
     rw[C7 (i:=i)]
     exact ih (i+1) τ2 t3 ((hg.trans h1).trans h2) (by rw[he,hb,C4])
  exact key p.refs 0 σ6 rfl (Gr.refl _) rfl
 refine k9 (nk 5 k5') ?_
 by_cases k6:k=6
 ·subst k6
  refine l3 rfl (A3 (l7 k13 (by rfl)) ?_)
  (refine k0 rfl ?_;try dsimp only)
  exact i7 (bt5 p z1 z2 hzd (y7 ⟨rfl,G06⟩))
 refine k9 (nk 6 k6) ⟨?_,G06⟩
 unfold kpS
 rw[c0 k1,c0 k2,c0 k4,c0 k5',c0 k6]
end
section
variable {σ : H} {K : KH} {S : H9} {x1 x2 : Sl}
theorem bt7 (h:bb3 σ S x1 x2) (hz:Sm S) (hdv:∀p∈S.paths,p.drv.size<=900000) (hK:K (.int .i64 (S.sound aD9 ax9)) σ):a8 11 [stV x1 x2] K σ:=by
 refine B7 _ hK (c11 _ _ ?_)
 clear hK
 unfold g11
 rw[bP5]
 refine x0 ?_;intro b3 σ1 g1 e1 n1
 have h1:=h.gr g1
 have hx1:=h.1.len
 have hx2:x2.len=S.roots.length:=ac4 h.2
 have hnp:=hz.np
 have hnr:=hz.nr
 refine u5 ?_
 intro R hR
 have key : ∀ (n k:Nat),k+n=7->1<=k->sdR S 6 1=sdR S n k->R (some ⟨b3,0,none⟩) (k:Int) σ1:=by
  intro n
  induction n with
  | zero =>
   intro k hkn h1 he
   exact hR _ _ _ (k9 (by simp only[C2];omega) ⟨by rw[he];rfl,g1⟩)
  | succ n ih =>
   intro k hkn hk1 he
   generalize hV:sdR S 6 1=V at he ih ⊢
   rw[sdR]at he
   refine hR _ _ _ (l3 (by simp only[z8];omega) ?_)
   refine u5 ?_
   intro R2 hR2
   have key2 : ∀ (r:List B4) (i:Nat) (q:Option ByteArray),S.paths.drop i=r->AtQ (·.path) S.paths i q->Y2 S k none S.paths=Y2 S k q r->R2 (some ⟨b3,0,none⟩) (k:Int) (i:Int) σ1:=by
    intro r
    induction r with
    | cons p r ihr =>
     intro i q hdr hq hk
     obtain⟨t1,t2,t3⟩:=P7 hdr
     generalize hW:Y2 S k none S.paths=W at hk
     rw[Y2]at hk
     refine hR2 _ _ _ _ (i6 (A7 (f0 e1 (by rfl)) (l3 (by rw[hx1];simp only[z8];omega) (i6 (A3 (l7 e1 (by rfl)) ?_)))))
     (refine k0 rfl ?_;try dsimp only)
     refine i7 (bt6 h1 hz hdv t1 hq k (by omega) (y7 ?_))
     cases hb:kpS S k q p with
     | false =>
      refine l3 rfl ⟨?_,g1⟩
      rw[hV,he,hW,hk,hb];rfl
     | true =>
      refine k9 rfl ?_
      rw[C7 (i:=i)]
      exact ihr (i+1) _ t3 (AtQ.next (g:=(·.path)) t1) (by rw[hW,hk,hb,C4])
    | nil =>
     intro i q hdr _ hk
     have hge:S.paths.length<=i:=by simpa using hdr
     have hk:Y2 S k none S.paths=true:=hk
     rw[hk,c0 (by decide)]at he
     refine hR2 _ _ _ _ (i6 (A7 (f0 e1 (by rfl)) (k9 (by rw[hx1];simp only[C2];omega) ?_)))
     have next:V=sdR S n (k+1)->R (some ⟨b3,0,none⟩) (IntKind.i64.wrap ((k:Int)+1)) σ1:=by
      intro hv
      rw[C7 (i:=k)]
      exact ih (k+1) (by omega) (by omega) hv
     refine u5 ?_
     intro R3 hR3
     by_cases hk3:k=3
     ·subst hk3
      have key3 : ∀ (r:List ByteArray) (i:Nat) (q:Option ByteArray),S.roots.drop i=r->AtQ id S.roots i q->av0 S=T6 S.is id q r->R3 (some ⟨b3,0,none⟩) ((3:Nat):Int) (i:Int) σ1:=by
       intro r
       induction r with
       | nil =>
        intro i q hdr _ hk
        have hge:S.roots.length<=i:=by simpa using hdr
        have hk:av0 S=true:=hk
        rw[hk,c0 (by simp)]at he
        refine hR3 _ _ _ _ (j_d ?_)
        exact i6 (A7 (f0 e1 (by rfl)) (k9 (by rw[hx2];simp only[C2];omega) (k9 rfl (next he))))
       | cons s r ihs =>
        intro i q hdr hq hk
        obtain⟨t1,t2,t3⟩:=C5 hdr
        obtain⟨g,o,a1,a2,a3⟩:=U7 h1.2 t1
        generalize hW:av0 S=W at hk
        unfold T6 at hk
        refine hR3 _ _ _ _ (j_d ?_)
        refine i6 (A7 (f0 e1 (by rfl)) (l3 (by rw[hx2];simp only[z8];omega) (l3 rfl ?_)))
        refine S9 (fun j => ∀b:Bool,b=(!(S.is s&&V5 q s))->j (some ⟨b3,0,none⟩) ((3:Nat):Int) (i:Int) b σ1) ?_ ?_
        ·intro b hb2
         cases b with
         | true =>
          have:(S.is s&&V5 q s)=false:=by have:=hb2.symm;rwa [Bool.not_eq_true']at this
          refine l3 rfl ⟨?_,g1⟩
          have hw:W=false:=by rw[hk];simp only[id,this];rfl
          rw[hV,he,hW,hw,d9 ⟨rfl,rfl⟩]
         | false =>
          have:(S.is s&&V5 q s)=true:=by simpa using hb2.symm
          refine k9 rfl ?_
          rw[C7 (i:=i)]
          exact ihs (i+1) _ t3 (AtQ.next (g:=id) t1) (by rw[hW,hk];simp only[id,this];rfl)
        ·intro j hj
         refine i6 (A3 (l7 e1 (by rfl)) ?_)
         (refine k0 rfl ?_;try dsimp only)
         refine i6 (A7 (f0 e1 (by rfl)) ?_)
         rw[a1]
         refine i6 (l5 (L1 x2.len) (y8 a3 ?_))
         rw[<-a1]
         refine i7 (ap6 (x2:=x2) h1.1 hnp s (y7 ?_))
         cases hv:S.is s with
         | false=>exact l3 rfl (hj true (by rw[hv];rfl))
         | true =>
          refine k9 rfl ?_
          rcases hq with⟨u0,u1⟩ | ⟨u0,a,u1,u2⟩
          ·exact k9 (by simp only[C2];omega) (hj false (by rw[hv,u1];rfl))
          ·refine l3 (by simp only[z8];omega) (i6 (A7 (f0 e1 (by rfl)) ?_))
           have w1:IntKind.i64.wrap ((i:Int) - 1)=((i - 1:Nat):Int):=by rw[n0 (by omega) (by omega)];omega
           obtain⟨g'',o'',c1,c2,c3⟩:=U7 h1.2 u1
           rw[w1,c1]
           refine i6 (l5 (L1 x2.len) (y8 c3 (i6 (A7 (f0 e1 (by rfl)) ?_))))
           rw[a1]
           refine i6 (l5 (L1 x2.len) (y8 a3 ?_))
           exact hj _ (by rw[hv,u2];rfl)
      exact key3 S.roots 0 none rfl (.inl ⟨rfl,rfl⟩) rfl
     ·rw[c0 fun h=>hk3 h.1]at he
      have hk3':(((k:Nat):Int)==3)=false:=by simp only[M9,ne_eq];omega
      refine hR3 _ _ _ _ (j_d ?_)
      refine i6 (A7 (f0 e1 (by rfl)) (G8 (fun _=>k9 hk3' (next he)) fun _=>k9 rfl (next he)))
   exact key2 S.paths 0 none rfl (.inl ⟨rfl,rfl⟩) rfl
 exact key 6 1 (by omega) (A6 _) rfl
end
theorem T7.one {σ:H} : ∀ {ps:List B4} {rows:List (List Value)},T7 σ ps rows -> ∀r∈rows,∀u∈r,u.oneCell'=true:=by
 intro ps
 induction ps with
 | nil=>intro rows h;cases rows with | nil=>intro r hr;cases hr | cons r rows=>exact h.elim
 | cons p ps ih =>
  intro rows h
  cases rows with
  | nil=>exact h.elim
  | cons q rows =>
   intro r hr
   rcases A5.1 hr with rfl | hr
   ·obtain⟨y,rfl,_⟩:=h.1
    intro u hu
    unfold U4 at hu
    simp only[A5,List.mem_nil_iff,or_false]at hu
    rcases hu with rfl | rfl | rfl | rfl<;>rfl
   ·exact ih h.2 r hr
theorem T7.set {σ:H} {q:B4} {z:Sl} (hz:w7 σ 1 (n9 q.refs) z) : ∀ {ps:List B4} {rows:List (List Value)} {i:Nat},T7 σ ps rows->T7 σ (ps.set i q) (rows.set i (U4 q z)):=by
 intro ps
 induction ps with
 | nil=>intro rows i h;cases rows with | nil=>exact trivial | cons r rows=>exact h.elim
 | cons p ps ih =>
  intro rows i h
  cases rows with
  | nil=>exact h.elim
  | cons r rows =>
   cases i with
   | zero=>exact⟨⟨z,rfl,hz⟩,h.2⟩
   | succ i=>exact⟨h.1,ih h.2⟩
theorem take_set {cur:List Value} {o:Nat} {v:Value} (h:o<cur.length):cur.take o++[v]++cur.drop (o+1)=cur.set o v:=by
 rw[List.set_eq_take_append_cons_drop,d9 h];simp
theorem ay4 (l:List ByteArray):(ah8 l).Perm l:=by
 have h:=(List.mergeSort_perm (l.map fun s=>s.data.toList) (fun x y=>decide (x<=y))).map (fun x=>(⟨⟨x⟩⟩:ByteArray))
 have e:(l.map fun s=>s.data.toList).map (fun x=>(⟨⟨x⟩⟩:ByteArray))=l:=by
  rw[List.map_map]
  conv=>rhs;rw[<-List.map_id l]
  exact List.map_congr_left fun s _=>K0 s
 rw[e]at h;exact h
theorem bY0 {a b:ByteArray} (h:a.data.toList<=b.data.toList) (hne:a≠b):E4 a b=true:=by
 unfold E4
 rw[bytesLess_eq,Lib.toList_data,Lib.toList_data,decide_eq_true_iff]
 have hne':a.data.toList≠b.data.toList:=fun e=>hne (by rw[<-K0 a,<- K0 b,e])
 exact Decidable.byContradiction fun h1=>hne' (List.le_antisymm h (List.not_lt.1 h1))
theorem bY1 {l:List ByteArray} (hnd:l.Nodup):(ah8 l).Pairwise (fun a b=>E4 a b=true):=by
 have h1:=List.pairwise_mergeSort (le:=fun x y:List UInt8=>decide (x<=y)) (by intro a b c h1 h2;simp only[z8]at *;exact List.le_trans h1 h2) (by intro a b;simp only[Bool.or_eq_true,z8];exact List.le_total a b) (l.map fun s=>s.data.toList)
 have h2:(ah8 l).Pairwise (fun a b=>a.data.toList<=b.data.toList):=by
  unfold ah8
  rw[List.pairwise_map]
  exact h1.imp (by intro a b h;simpa using h)
 have h3:(ah8 l).Nodup:=(ay4 l).nodup_iff.2 hnd
 exact(List.Pairwise.and h2 h3).imp fun h=>bY0 h.1 h.2
end Go.Proofs.YtgfiobhpipollaaGreatDoor

set_option maxRecDepth 100000
namespace Go.Proofs.YtgfiobhpipollaaGreatDoor
open Go Go.HL Go.Wk
theorem bY2 (a b:ByteArray):E4 a b=decide (a.data.toList<b.data.toList):=by
 unfold E4
 rw[bytesLess_eq,Lib.toList_data,Lib.toList_data]
theorem dh4 {a b c:ByteArray} (h:E4 a b=true) (k:E4 b c=true):E4 a c=true:=by
 rw[bY2,z8]at *
 exact List.lt_trans h k
theorem bY3 {a b:ByteArray} (h:E4 a b=true) (k:E4 b a=true):False:=by
 rw[bY2,z8]at *
 exact List.lt_irrefl _ (List.lt_trans h k)
theorem bY4 (a:ByteArray):E4 a a=false:=by
 rw[Bool.eq_false_iff];intro h;exact bY3 h h
theorem bY5 {a b:ByteArray} (h:¬E4 a b=true) (hne:a≠b):E4 b a=true:=by
 rw[bY2,z8]at *
 have hne':a.data.toList≠b.data.toList:=fun e=>hne (by rw[<-K0 a,<- K0 b,e])
 exact Decidable.byContradiction fun h1=>hne' (List.le_antisymm (List.not_lt.1 h1) (List.not_lt.1 h))
theorem bk3 : ∀ {l m:List ByteArray},l.Pairwise (fun a b=>E4 a b=true)->m.Pairwise (fun a b=>E4 a b=true)->(∀x,x∈l↔x∈m)->l=m
 | [],m,_,_,h=>by
  cases m with
  | nil=>rfl
  | cons b r=>have:=(h b).2 (E2 ..);cases this
 | a::l,m,hl,hm,h=>by
  cases m with
  | nil=>have:=(h a).1 (E2 ..);cases this
  | cons b m =>
   rw[List.pairwise_cons]at hl hm
   have hab:a=b:=by
    rcases A5.1 ((h a).1 (E2 ..))with e | e
    ·exact e
    ·rcases A5.1 ((h b).2 (E2 ..))with e' | e'
     ·exact e'.symm
     ·exact(bY3 (hm.1 a e) (hl.1 b e')).elim
   subst hab
   congr 1
   refine bk3 hl.2 hm.2 fun x=>⟨fun hx => ?_,fun hx => ?_⟩
   ·rcases A5.1 ((h x).1 (E3 _ hx))with e | e
    ·subst e;have:=hl.1 x hx;rw[bY4]at this;cases this
    ·exact e
   ·rcases A5.1 ((h x).2 (E3 _ hx))with e | e
    ·subst e;have:=hm.1 x hx;rw[bY4]at this;cases this
    ·exact e
theorem bz4 {x:ByteArray} : ∀ {A:List ByteArray},A.Pairwise (fun a b=>E4 b a=true)->x∉A->(aj8 x A).Pairwise (fun a b=>E4 b a=true)
 | [],_,_=>List.pairwise_singleton _ _
 | a::r,h,hx=>by
  rw[List.pairwise_cons]at h
  rw[A5,not_or]at hx
  unfold aj8
  by_cases hlt:E4 x a=true
  ·rw[d9 hlt,List.pairwise_cons]
   refine⟨fun u hu => ?_,bz4 h.2 hx.2⟩
   rcases A5.1 ((al6 x r).mem_iff.1 hu)with e | e
   ·subst e;exact hlt
   ·exact h.1 u e
  ·rw[c0 hlt,List.pairwise_cons]
   have hax:=bY5 hlt hx.1
   refine⟨fun u hu => ?_,by rw[List.pairwise_cons];exact h⟩
   rcases A5.1 hu with e | e
   ·subst e;exact hax
   ·exact dh4 (h.1 u e) hax
theorem bY6 {l:List ByteArray} (h:l.Nodup):(aM8 l).Pairwise (fun a b=>E4 a b=true):=by
 unfold aM8
 rw[List.pairwise_reverse]
 have : ∀ (l A:List ByteArray),l.Nodup->(∀u∈l,u∉A)->A.Pairwise (fun a b=>E4 b a=true)->(l.foldl (fun A x=>aj8 x A) A).Pairwise (fun a b=>E4 b a=true):=by
  intro l
  induction l with
  | nil=>intro A _ _ h;exact h
  | cons x r ih =>
   intro A hn hd hA
   rw[List.nodup_cons]at hn
   refine ih _ hn.2 (fun u hu hm => ?_) (bz4 hA (hd x (E2 ..)))
   rcases A5.1 ((al6 x A).mem_iff.1 hm)with e | e
   ·subst e;exact hn.1 hu
   ·exact hd u (E3 _ hu) e
 exact this l [] h (fun _ _ h=>by cases h) List.Pairwise.nil
theorem cj9 {x a:ByteArray} (P:List ByteArray) (h:E4 x a=true):aj8 x (a::P)=a::aj8 x P:=by rw[aj8,d9 h]
theorem bI9 {x:ByteArray} : ∀ {P:List ByteArray},(∀a,P.head? = some a -> ¬E4 x a=true)->aj8 x P=x::P
 | [],_=>rfl
 | a::r,h=>by rw[aj8,c0 (h a rfl)]
end Go.Proofs.YtgfiobhpipollaaGreatDoor

set_option maxRecDepth 100000
namespace Go.Proofs.YtgfiobhpipollaaGreatDoor
open Go Go.HL Go.Wk
attribute [local irreducible] j0 w6 l8 A2 l4 A9 w9 U3 V0 R1 M7 V2 C1 y6 app A4 C9 u7 sizeT oW H8 F2 l9 U5 H2 G1 y9 V1 B2 Gr L6
theorem bb6 (S:H9):aM8 (aj7 S)=ah8 S.reach:=by
 refine bk3 (bY6 (bg6 S).2.1) (bY1 (aA2 S).2.1) fun x => ?_
 rw[(bp4 _).mem_iff,(ay4 _).mem_iff,(bp3 S).mem_iff]
theorem bb7 (l:List ByteArray) (s:ByteArray):l.contains s=l.any fun a=>a==s:=by
 rw[J5];simp
section
variable {σ : H} {K : KH} {S : H9} {x1 x2 : Sl}
theorem E7.setS {σ0 σ:H} {L:List ByteArray} {z:Sl} (h:E7 σ0 σ 9 1 (n9 L) z) {i:Nat} (hi:i<L.length) (s:ByteArray) {g o:Nat} (hz:z.base=some ⟨g,o,none⟩) {F:H->Prop} (hF:∀σ',E7 σ0 σ' 9 1 (n9 (L.set i s)) z->F σ') :
 t8 9 (.pointer (some ⟨g,o+i * 1,none⟩)) (.string s) F σ:=by
 obtain⟨h1,⟨q1,q2,q3⟩,h3⟩:=h
 have hzl:z.len=L.length:=by rw[q1,J7]
 rcases q3 with⟨q3,_⟩ | ⟨g',cur,q3,q4,q5,q6,q7⟩
 ·rw[q3]at hz;cases hz
 ·rw[q3]at hz;cases hz
  have hlt:i<cur.length:=by omega
  refine ar1 q4 av8 (by show 0+i * 1+1<=_;omega) (by intro x hx;simp[L5,Value.cells]at hx;subst hx;rfl) (.inl (A6 _)) ?_
  intro σ' p
  have e0:0+i * 1=i:=by omega
  have e1:L5 (Value.string s).cells=[.string s]:=rfl
  rw[e0,e1]at p
  have p:L6 σ g (.cells ⟨cur.take i++[Value.string s]++cur.drop (i+1)⟩ 9 (0,0)) σ':=p
  rw[take_set hlt]at p
  refine hF σ' ⟨h1.putF p (h3 g q3),⟨by rw[hzl,J7,List.length_set],?_,.inr ⟨g,_,q3,p.same,by rw[List.length_set];exact q5,q6,?_⟩⟩,h3⟩
  ·intro r hr;obtain⟨u,_,rfl⟩:=O5.1 hr;rfl
  ·rw[aV8]at q7 ⊢
   rw[List.take_set,q7]
   unfold as8
   rw[List.map_set]
theorem bk4 {l:List ByteArray} {x:Sl} (hx:w7 σ 1 (n9 l) x) (hn:l.length<=1000000000) (s:ByteArray) (hK:K (.bool (l.contains s)) σ):a8 36 [.slice x.base x.len x.cap,.string s] K σ:=by
 refine c36 _ _ ?_
 unfold g36
 have hxl:=ac4 hx
 rw[bb7]at hK
 refine u5 ?_
 intro R hR
 have key : ∀ (r:List ByteArray) (i:Nat),l.drop i=r->(l.any fun a=>a==s)=(r.any fun a=>a==s)->R x s (i:Int) σ:=by
  intro r
  induction r with
  | nil =>
   intro i hd he
   have:l.length<=i:=by simpa using hd
   rw[he]at hK
   exact hR _ _ _ _ (k9 (by simp only[C2];omega) hK)
  | cons a r ih =>
   intro i hd he
   obtain⟨t1,t2,t3⟩:=C5 hd
   obtain⟨g,o,a1,a2,a3⟩:=U7 hx t1
   refine hR _ _ _ _ (l3 (by simp only[z8];omega) ?_)
   rw[a1]
   refine i6 (l5 (L1 x.len) (y8 a3 ?_))
   rw[Z6]
   rw[List.any_cons]at he
   cases hb:a==s with
   | true=>rw[he,hb]at hK;exact l3 rfl hK
   | false =>
    refine k9 rfl ?_
    rw[C7 (i:=i)]
    exact ih (i+1) t3 (by rw[he,hb,Q1])
 exact key l 0 rfl rfl
end
theorem bY7 (S:H9) (l:List ByteArray) (r:ByteArray):l <+: ag5 S l r:=by
 unfold ag5
 split
 ·exact List.prefix_append ..
 ·exact List.prefix_refl _
theorem ck0 {l m:List ByteArray} (h:l <+: m) {i:Nat} {s:ByteArray} (hi:l[i]? = some s):m[i]? = some s:=by
 obtain⟨t,rfl⟩:=h
 rw[bc1 (by
  rcases F6 i l.length with h | h
  ·exact h
  ·rw[L4 h]at hi;cases hi)]
 exact hi
section
variable {σ : H} {K : KH} {S : H9} {x1 x2 : Sl}
theorem bJ0 (h:bb3 σ S x1 x2) (hz:Sm S) (hK:∀z σ',E7 σ σ' 9 1 (n9 (aM8 (aj7 S))) z->K (.slice z.base z.len z.cap) σ'):a8 14 [stV x1 x2] K σ:=by
 refine c14 _ _ ?_
 unfold g14
 refine x0 ?_;intro b3 σ1 g1 e1 n1
 have h1:=h.gr g1
 have hx1:=h1.1.len
 have hx2:x2.len=S.roots.length:=ac4 h.2
 have hnp:=hz.np
 have hnr:=hz.nr
 have hK : ∀z σ',E7 σ1 σ' 9 1 (n9 (aM8 (aj7 S))) z->K (.slice z.base z.len z.cap) σ':=fun z σ' hr=>hK z σ' (hr.since g1)
 have snoc : ∀ (l:List ByteArray) (s:ByteArray),n9 l++[[Value.string s]]=n9 (l++[s]):=fun l s=>by simp[n9]
 refine u5 ?_
 intro R hR
 have key : ∀ (r:List ByteArray) (i:Nat) (l:List ByteArray) (z:Sl) (τ:H),S.roots.drop i=r->E7 σ1 τ 9 1 (n9 l) z->ag4 S l->aD7 S=r.foldl (ag5 S) l->R (some ⟨b3,0,none⟩) z (i:Int) τ:=by
  intro r
  induction r with
  | cons s r ih =>
   intro i l z τ hdr hr hok he
   obtain⟨t1,t2,t3⟩:=C5 hdr
   have hτ:=hr.1
   have ll:=hok.2.2
   obtain⟨g,o,a1,a2,a3⟩:=U7 (h1.2.gr hτ) t1
   rw[Q0]at he
   refine hR _ _ _ _ (i6 (A7 (f0 (hτ.get e1) (by rfl)) (l3 (by rw[hx2];simp only[z8];omega) ?_)))
   refine S9 (fun j => ∀z' τ',E7 σ1 τ' 9 1 (n9 (ag5 S l s)) z'->j (some ⟨b3,0,none⟩) z' (i:Int) τ') ?_ ?_
   ·intro z' τ' hr'
    rw[C7 (i:=i)]
    exact ih (i+1) _ z' τ' t3 hr' (aI6 s hok) he
   ·intro j hj
    refine S9 (fun j => ∀b:Bool,b=(S.is s && !l.contains s)->j (some ⟨b3,0,none⟩) z (i:Int) b τ) ?_ ?_
    ·intro b hb
     unfold ag5 at hj
     cases b with
     | false=>rw[<-hb]at hj;exact k9 rfl (hj z τ hr)
     | true =>
      rw[<-hb,d9 rfl]at hj
      refine l3 rfl (i6 (A7 (f0 (hτ.get e1) (by rfl)) ?_))
      rw[a1]
      refine i6 (l5 (L1 x2.len) (y8 a3 ?_))
      refine hr.app1 Y8 (r:=[.string s]) rfl rfl (by rw[J7];omega) ?_
      intro z' τ' hr' _ _
      rw[snoc]at hr'
      exact hj z' τ' hr'
    ·intro j2 hj2
     refine i6 (A3 (l7 (hτ.get e1) (by rfl)) ?_)
     (refine k0 rfl ?_;try dsimp only)
     refine i6 (A7 (f0 (hτ.get e1) (by rfl)) ?_)
     rw[a1]
     refine i6 (l5 (L1 x2.len) (y8 a3 ?_))
     rw[<-a1]
     refine i7 (ap6 (x2:=x2) (h1.1.gr hτ) hnp s (y7 ?_))
     cases hv:S.is s with
     | false=>exact k9 rfl (hj2 false (by rw[hv];rfl))
     | true =>
      refine l3 rfl (i6 (A7 (f0 (hτ.get e1) (by rfl)) ?_))
      rw[a1]
      refine i6 (l5 (L1 x2.len) (y8 a3 ?_))
      exact i7 (bk4 hr.at (by omega) s (y7 (hj2 _ (by rw[hv,C4]))))
  | nil =>
   intro i l z τ hdr hr hok he
   have hge:S.roots.length<=i:=by simpa using hdr
   have he:aD7 S=l:=he
   refine hR _ _ _ _ (i6 (A7 (f0 (hr.1.get e1) (by rfl)) (k9 (by rw[hx2];simp only[C2];omega) ?_)))
   refine u5 ?_
   intro R4 hR4
   have keyB : ∀ (f i:Nat) (l:List ByteArray) (z:Sl) (τ:H),E7 σ1 τ 9 1 (n9 l) z->ag4 S l->S.paths.length+1<=f+i->i<=l.length->aj7 S=bfs S f i l->R4 (some ⟨b3,0,none⟩) z (i:Int) τ:=by
    intro f
    induction f with
    | zero=>intro i l z τ hr hok hf hi;have:=hok.2.2;omega
    | succ f ihf =>
     intro i l z τ hr hok hf hi he
     have hτ:=hr.1
     have ll:=hok.2.2
     have hzl:z.len=l.length:=ac4 hr.at
     rw[bfs]at he
     cases hs:l[i]? with
     | none =>
      have hge:l.length<=i:=List.getElem?_eq_none_iff.1 hs
      rw[hs]at he
      have he:aj7 S=l:=he
      refine hR4 _ _ _ _ (k9 (by simp only[C2];omega) ?_)
      rw[he]at hK
      refine u5 ?_
      intro R5 hR5
      have hsort : ∀ (m i:Nat) (A:List ByteArray) (z:Sl) (τ:H),i+m=l.length->A.length=i->E7 σ1 τ 9 1 (n9 (A.reverse++l.drop i)) z->l.foldl (fun A x=>aj8 x A) []=(l.drop i).foldl (fun A x=>aj8 x A) A->R5 z (i:Int) τ:=by
       intro m
       induction m with
       | zero =>
        intro i A z τ him hA hr he
        have hzl:z.len=A.length+(l.length - i):=by rw[ac4 hr.at,s8,Y5,M1]
        have hd:l.drop i=[]:=M8 (by omega)
        rw[hd]at hr he
        refine hR5 _ _ _ (k9 (by simp only[C2];omega) ?_)
        refine hK z τ ?_
        unfold aM8
        rw[he]
        rw[J1]at hr;exact hr
       | succ m ihm =>
        intro i A z τ him hA hr he
        have hzl:z.len=A.length+(l.length - i):=by rw[ac4 hr.at,s8,Y5,M1]
        obtain⟨x,hx⟩ : ∃x,l[i]? = some x:=⟨_,B9 (by omega)⟩
        have hd:l.drop i=x::l.drop (i+1):=ac6 hx
        rw[hd]at hr he
        rw[Q0]at he
        refine hR5 _ _ _ (l3 (by simp only[z8];omega) ?_)
        refine u5 ?_
        intro R6 hR6
        have on : ∀ (P Q:List ByteArray) (τ:H),P.length+Q.length=i->aj8 x A=Q++aj8 x P->E7 σ1 τ 9 1 (n9 (P.reverse++x::(Q.reverse++l.drop (i+1)))) z->R6 z (i:Int) ((P.length:Nat):Int) τ:=by
         intro P
         induction P with
         | nil =>
          intro Q τ hl hi hr
          refine hR6 _ _ _ _ (j_d ?_)
          refine k9 (by simp) (k9 rfl ?_)
          rw[C7 (i:=i)]
          have hi:aj8 x A=Q++[x]:=hi
          refine ihm (i+1) (aj8 x A) z τ (by omega) (by rw[(al6 x A).length_eq,y5,hA]) ?_ he
          rw[hi]
          have e:(Q++[x]).reverse++l.drop (i+1)=([]:List ByteArray).reverse++x::(Q.reverse++l.drop (i+1)):=by simp
          rw[e];exact hr
         | cons a P ihP =>
          intro Q τ hl hi hr
          simp only[y5]at hl
          have hrev:(a::P).reverse++x::(Q.reverse++l.drop (i+1))=P.reverse++a::x::(Q.reverse++l.drop (i+1)):=by simp
          rw[hrev]at hr
          have ga:(P.reverse++a::x::(Q.reverse++l.drop (i+1)))[P.length]? = some a:=by
           rw[ay7 (by rw[Y5];exact A6 _),Y5,ak3];rfl
          have gx:(P.reverse++a::x::(Q.reverse++l.drop (i+1)))[P.length+1]? = some x:=by
           rw[ay7 (by rw[Y5];omega),Y5,show P.length+1 - P.length=1 by omega];rfl
          obtain⟨g,o,a1,a2,a3⟩:=U7 hr.at ga
          obtain⟨g',o',c1,c2,c3⟩:=U7 hr.at gx
          rw[a1]at c1;cases c1
          have w1:IntKind.i64.wrap ((((a::P).length:Nat):Int) - 1)=((P.length:Nat):Int):=by rw[y5,n0 (by omega) (by omega)];omega
          have w0:(((a::P).length:Nat):Int)=((P.length+1:Nat):Int):=by rw[y5]
          have hq:(!(E4 a x||B8 a x))=(E4 x a):=by
           rw[Z6]
           by_cases h0:a=x
           ·subst h0;rw[bY4];simp
           ·have:(a==x)=false:=by simpa using h0
            rw[this,ad6]
            cases h2:E4 a x with
            | true =>
             have:E4 x a=false:=by rw[Bool.eq_false_iff];intro h3;exact bY3 h2 h3
             rw[this];rfl
            | false=>rw[bY5 (by rw[h2];decide) h0];rfl
          refine hR6 _ _ _ _ (S9 (fun j=>j z (i:Int) (((a::P).length:Nat):Int) (E4 x a) τ) ?_ ?_)
          ·cases hlt:E4 x a with
           | false =>
            refine k9 rfl ?_
            rw[C7 (i:=i)]
            have hi:aj8 x A=Q++x::a::P:=by
             rw[hi,bI9 (P:=a::P) (fun b hb=>by cases hb;rw[hlt];decide)]
            refine ihm (i+1) (aj8 x A) z τ (by omega) (by rw[(al6 x A).length_eq,y5,hA]) ?_ he
            rw[hi]
            have e:(Q++x::a::P).reverse++l.drop (i+1)=P.reverse++a::x::(Q.reverse++l.drop (i+1)):=by simp
            rw[e];exact hr
           | true =>
            refine l3 rfl ?_
            rw[w1,w0,a1]
            refine i6 (l5 (L1 z.len) (y8 c3 (i6 (l5 (L1 z.len) (y8 a3 (i6 (l5 (L1 z.len) ?_)))))))
            rw[B0,B0]
            refine E7.setS hr (i:=P.length) (by simp) x a1 ?_
            intro τ1 hr1
            refine i6 (l5 (L1 z.len) ?_)
            refine E7.setS hr1 (i:=P.length+1) (by simp) a a1 ?_
            intro τ2 hr2
            refine ihP (Q++[a]) τ2 (by simp;omega) ?_ ?_
            ·rw[hi,cj9 P hlt];simp
            ·have e : ((P.reverse ++ a :: x :: (Q.reverse ++ l.drop (i + 1))).set P.length x).set (P.length + 1) a = P.reverse ++ x :: ((Q ++ [a]).reverse ++ l.drop (i + 1)) := by
              rw[List.set_append_right _ _ (by rw[Y5];exact A6 _),Y5,ak3]
              rw[List.set_append_right _ _ (by rw[Y5];omega),Y5,show P.length+1 - P.length=1 by omega]
              simp
             rw[e]at hr2;exact hr2
          ·intro j hj
           rw[w0]at hj ⊢
           refine l3 (by simp only[z8];omega) ?_
           rw[show IntKind.i64.wrap (((P.length+1:Nat):Int) - 1)=((P.length:Nat):Int)from by rw[n0 (by omega) (by omega)];omega,a1]
           refine i6 (l5 (L1 z.len) (y8 a3 (i6 (l5 (L1 z.len) (y8 c3 ?_)))))
           rw[hq];exact hj
        have:=on A [] τ (by simp;exact hA) rfl (by simpa using hr)
        rw[hA]at this;exact this
      exact hsort l.length 0 [] z τ (by omega) rfl (by simpa using hr) rfl
     | some s =>
      rw[hs]at he
      have he:aj7 S=bfs S f (i+1) (S.paths.foldl (ae9 S s) l):=he
      have hlt:i<l.length:=by
       rcases F6 i l.length with h | h
       ·exact h
       ·rw[L4 h]at hs;cases hs
      refine hR4 _ _ _ _ (l3 (by simp only[z8];omega) ?_)
      refine u5 ?_
      intro R5 hR5
      have keyP : ∀ (r:List B4) (k:Nat) (m:List ByteArray) (z:Sl) (τ:H),S.paths.drop k=r->E7 σ1 τ 9 1 (n9 m) z->ag4 S m->l <+: m->S.paths.foldl (ae9 S s) l=r.foldl (ae9 S s) m->R5 (some ⟨b3,0,none⟩) z (i:Int) (k:Int) τ:=by
       intro r
       induction r with
       | nil =>
        intro k m z τ hdr hr hok hpre hm
        have hge:S.paths.length<=k:=by simpa using hdr
        have hm:S.paths.foldl (ae9 S s) l=m:=hm
        refine hR5 _ _ _ _ _ (i6 (A7 (f0 (hr.1.get e1) (by rfl)) (k9 (by rw[hx1];simp only[C2];omega) ?_)))
        rw[C7 (i:=i)]
        refine ihf (i+1) m z τ hr hok (by omega) ?_ (by rw[he,hm])
        have:=hpre.length_le;omega
       | cons p r ihp =>
        intro k m z τ hdr hr hok hpre hm
        obtain⟨t1,t2,t3⟩:=P7 hdr
        have hp:=F7 t1
        obtain⟨z1,z2,z3,z4,z5⟩:=hz.pa p hp
        rw[Q0]at hm
        refine hR5 _ _ _ _ _ (i6 (A7 (f0 (hr.1.get e1) (by rfl)) (l3 (by rw[hx1];simp only[z8];omega) ?_)))
        refine u5 ?_
        intro R6 hR6
        have next : ∀z' τ',E7 σ1 τ' 9 1 (n9 (ae9 S s m p)) z'->R5 (some ⟨b3,0,none⟩) z' (i:Int) (IntKind.i64.wrap ((k:Int)+1)) τ':=by
         intro z' τ' hr'
         rw[C7 (i:=k)]
         refine ihp (k+1) _ z' τ' t3 hr' (bw2 s p hok) (hpre.trans ?_) hm
         have:=ao8 (S:=S) s [p] m
         exact this
        have keyR : ∀ (r:List ByteArray) (j:Nat) (m':List ByteArray) (z:Sl) (τ:H),p.refs.drop j=r->(j=0\/p.path=s)->E7 σ1 τ 9 1 (n9 m') z->ag4 S m'->l <+: m'->ae9 S s m p=(if p.path==s then r.foldl (ag5 S) m' else m')->R6 (some ⟨b3,0,none⟩) z (i:Int) (k:Int) (j:Int) τ:=by
         intro r
         induction r with
         | nil =>
          intro j m' z τ hdr hj0 hr hok hpre hm'
          have hge:p.refs.length<=j:=by simpa using hdr
          have hm':ae9 S s m p=m':=by rw[hm'];split<;>rfl
          rw[hm']at next
          obtain⟨g,o,y,q1,q2,q3,q4,q5,q6⟩:=at5 (h1.1.gr hr.1) t1
          have hyl:y.len=p.refs.length:=ac4 q4
          refine hR6 _ _ _ _ _ _ (j_d ?_)
          refine i6 (A7 (f0 (hr.1.get e1) (by rfl)) ?_)
          rw[q1]
          refine i6 (l5 (L1 x1.len) (A7 q6 (k9 (by simp only[C2];omega) (k9 rfl ?_))))
          exact next z τ hr
         | cons u r ihr =>
          intro j m' z τ hdr hj0 hr hok hpre hm'
          obtain⟨u1,u2,u3⟩:=C5 hdr
          have hτ:=hr.1
          have ll:=hok.2.2
          obtain⟨g,o,y,q1,q2,q3,q4,q5,q6⟩:=at5 (h1.1.gr hτ) t1
          have hyl:y.len=p.refs.length:=ac4 q4
          obtain⟨gu,ou,b1,b2,b3'⟩:=U7 q4 u1
          obtain⟨gz,oz,d1,d2,d3⟩:=U7 hr.at (ck0 hpre hs)
          refine hR6 _ _ _ _ _ _ (S9 (fun j'=>j' (some ⟨b3,0,none⟩) z (i:Int) (k:Int) (j:Int) (p.path==s) τ) ?_ ?_)
          ·cases hps:p.path==s with
           | false =>
            rw[hps]at hm'
            have hm':ae9 S s m p=m':=hm'
            rw[hm']at next
            exact k9 rfl (next z τ hr)
           | true =>
            rw[hps,d9 rfl,Q0]at hm'
            refine l3 rfl ?_
            refine S9 (fun jn => ∀z' τ',E7 σ1 τ' 9 1 (n9 (ag5 S m' u)) z'->jn (some ⟨b3,0,none⟩) z' (i:Int) (k:Int) (j:Int) τ') ?_ ?_
            ·intro z' τ' hr'
             rw[C7 (i:=j)]
             exact ihr (j+1) _ z' τ' u3 (.inr (eq_of_beq hps)) hr' (aI6 u hok) (hpre.trans (bY7 S m' u)) (by rw[hm',hps,d9 rfl])
            ·intro jn hjn
             refine i6 (A7 (f0 (hτ.get e1) (by rfl)) ?_)
             rw[q1]
             refine i6 (l5 (L1 x1.len) (A7 q6 ?_))
             rw[b1]
             refine i6 (l5 (L1 y.len) (y8 b3' ?_))
             refine S9 (fun ja => ∀b:Bool,b=(S.is u && !m'.contains u)->ja (some ⟨b3,0,none⟩) z (i:Int) (k:Int) (j:Int) u b τ) ?_ ?_
             ·intro b hb
              unfold ag5 at hjn
              cases b with
              | false=>rw[<-hb]at hjn;exact k9 rfl (hjn z τ hr)
              | true =>
               rw[<-hb,d9 rfl]at hjn
               refine l3 rfl ?_
               refine hr.app1 Y8 (r:=[.string u]) rfl rfl (by rw[J7];omega) ?_
               intro z' τ' hr' _ _
               rw[snoc]at hr'
               exact hjn z' τ' hr'
             ·intro ja hja
              refine i6 (A3 (l7 (hτ.get e1) (by rfl)) ?_)
              (refine k0 rfl ?_;try dsimp only)
              try rw[<-q1]
              refine i7 (ap6 (x2:=x2) (h1.1.gr hτ) hnp u (y7 ?_))
              cases hv:S.is u with
              | false=>exact k9 rfl (hja false (by rw[hv];rfl))
              | true=>exact l3 rfl (i7 (bk4 hr.at (by omega) u (y7 (hja _ (by rw[hv,C4])))))
          ·intro j' hj'
           refine i6 (A7 (f0 (hτ.get e1) (by rfl)) ?_)
           rw[q1]
           refine i6 (l5 (L1 x1.len) (A7 q6 (l3 (by simp only[z8];omega) (i6 (A7 (f0 (hτ.get e1) (by rfl)) ?_)))))
           rw[q1]
           refine i6 (l5 (L1 x1.len) (y8 q5 ?_))
           rw[d1]
           refine i6 (l5 (L1 z.len) (y8 d3 ?_))
           rw[Z6];exact hj'
        exact keyR p.refs 0 m z τ rfl (.inl rfl) hr hok hpre rfl
      exact keyP S.paths 0 l z τ rfl hr hok (List.prefix_refl _) rfl
   exact keyB (S.paths.length+1) 0 l z τ hr hok (by omega) (Nat.zero_le _) (by unfold aj7;rw[he])
 have hok0:ag4 S []:=by
  refine⟨fun u hu=>(by cases hu),List.nodup_nil,?_⟩
  unfold cnt
  have:=List.length_filter_le (fun p:B4 => !([]:List ByteArray).contains p.path) S.paths
  simpa using this
 exact key S.roots 0 [] ⟨none,0,0⟩ σ1 rfl (E7.nil _ _ _) hok0 rfl
end
section
variable {σ : H} {K : KH}
variable {S T U : H9} {x1 x2 y1 y2 z1 z2 : Sl}
end
theorem ck1 {S:H9} (hz:Sm S):bx8 S aD9:=by
 intro p hp r hr σ y b K hs hb hK
 obtain⟨z1,z2,z3,z4,z5⟩:=hz.pa p hp
 have hrz:=z5 r hr
 have hl:r.data.toList.length=r.size:=dl r
 have hn:p.nar.data.toList.length=p.nar.size:=dl p.nar
 have hT:=ay0 (s:=p.nar.data.toList) (by omega)
 have h1:=(ay3 r.data.toList).1
 exact cj7 (by omega) hs hb (by omega) hK
theorem aW6 : ∀l:List ByteArray,ae6 l l=true
 | []=>rfl
 | a::r=>by rw[ae6,aW6 r];simp
theorem ck2 (S:H9) : ∀p∈S.cut.paths,p.drv.size<=900000:=by
 intro p hp
 obtain⟨q,_,rfl⟩:=O5.1 hp
 have:=al3 (n:=2000) (by decide) q.drv
 show(ax8 2000 q.drv).size<=_
 have h2:(2000:Int).toNat=2000:=rfl
 omega
theorem bk5 {σ:H} (S:H9) (x1 x2:Sl) (hS:bb3 σ S x1 x2) {K:KH} (hK:∀σ',Gr σ σ'->K (.bool true) σ'):a8 3 [stV x1 x2] K σ:=by
 refine c3 _ _ ?_
 unfold g3
 refine x0 ?_;intro b3 σ1 g1 e1 n1
 refine A3 (l7 e1 (by rfl)) ?_
 (refine k0 rfl ?_;try dsimp only)
 refine i7 (bX5 (hS.1.gr g1) (hS.2.gr g1) ?_)
 intro a1 a2 σ4 ρA g4 gA hA nA
 unfold stV
 (refine k0 rfl ?_;try dsimp only)
 refine w4 (g4.get e1) bz3 ?_
 intro σ5 p5
 have gA5:Gr ρA σ5:=gA.putF p5 (nA _ (by rw[e1];simp))
 have gσ5:Gr σ σ5:=(g1.trans g4).putF p5 n1
 have q7:σ5 b3=some (.cells ⟨[.slice a1.base a1.len a1.cap,.slice a2.base a2.len a2.cap]⟩ 25 (0,0)):=p5.same
 have hA9:=hA.gr gA5
 have zA:=cx8 S
 have zD:=ck2 S
 clear e1 p5 gA gA5 hA hS nA
 generalize S.cut=A at *
 (repeat (first | (refine A3 (l7 q7 (by rfl)) ?_;(refine k0 rfl ?_;try dsimp only)) | refine F9 (l7 q7 (by rfl)) ?_ | (refine i7 (aP6 (x1:=a1) (x2:=a2) ?_);unfold stV;(refine k0 rfl ?_;try dsimp only))))
 refine i7 (ah2 (has:=aD9) (own:=ax9) (ck1 zA) (ci4 zA zD) hA9.1 hA9.2 zA (B6 ?_))
 (repeat (first | (refine A3 (l7 q7 (by rfl)) ?_;(refine k0 rfl ?_;try dsimp only)) | refine F9 (l7 q7 (by rfl)) ?_ | (refine i7 (aP6 (x1:=a1) (x2:=a2) ?_);unfold stV;(refine k0 rfl ?_;try dsimp only))))
 refine i7 (bt7 hA9 zA zD (B6 ?_))
 refine l3 (beq_self_eq_true _) ?_
 (repeat (first | (refine A3 (l7 q7 (by rfl)) ?_;(refine k0 rfl ?_;try dsimp only)) | refine F9 (l7 q7 (by rfl)) ?_ | (refine i7 (aP6 (x1:=a1) (x2:=a2) ?_);unfold stV;(refine k0 rfl ?_;try dsimp only))))
 refine i7 (bk1 hA9.1 hA9.2 zA ?_)
 intro z1 σ6 r6
 refine Q7 ?_
 have q8:=r6.1.get q7
 refine F9 (l7 q8 (by rfl)) ?_
 refine i7 (bJ0 (hA9.gr r6.1) zA ?_)
 intro z2 σ7 r7
 refine Q7 ?_
 have hlen:(ah8 A.reach).length<=1000000000:=by
  rw[(ay4 _).length_eq]
  have:=(aA2 A).2.2
  have:=zA.np
  omega
 refine i7 (aW3 (r6.at.gr r7.1) r7.at hlen (y7 ?_))
 rw[bb6,aW6]
 refine l3 rfl (i7 (bI6 (y7 ?_)))
 exact hK σ7 ((gσ5.trans r6.1).trans r7.1)
end Go.Proofs.YtgfiobhpipollaaGreatDoor

set_option maxRecDepth 100000
namespace Go.Proofs.YtgfiobhpipollaaGreatDoor
open Go Go.HL Go.Wk Go.ChangeShapes Go.WideShapes Go.ChangeAt Go.RowKit
namespace st30
theorem bJ1:Tryz.prog.cellsOf 9=1:=by kernel_rfl
theorem bz5:Tryz.prog.cellsOf 23=1:=by kernel_rfl
theorem bY8:Tryz.prog.cellsOf 22=1:=by kernel_rfl
theorem bz6 {D:Type} {enc:TypeId×Value->D} {W:World} {m n:Nat} : ∀ {rows:List (List Value)},(∀r∈rows,m<n /\ ∃d ps,DataW.trod enc Tryz.prog W 0 (fun _=>true) true m 9 r=some (d,ps)) -> ∃l:List ByteArray,rows=n9 l:=by
 intro rows
 induction rows with
 | nil=>exact fun _=>⟨[],rfl⟩
 | cons r rs ih =>
  intro hall
  obtain⟨l,ha⟩:=ih fun r hr=>hall r (E3 _ hr)
  obtain⟨_,d,ps,hd⟩:=hall r (E2 ..)
  obtain⟨s,q,_⟩:=DataW.trod_string Tryz.underlying9 hd
  exact⟨s::l,by rw[ha,q];rfl⟩
theorem ck3 {D:Type} {enc:TypeId×Value->D} {W:World} {m:Nat} {r:List Value} {x:DataW D×List MemPlace} (h:DataW.trod enc Tryz.prog W 0 (fun _=>true) true m 38 r=some x) : ∃ (p:B4) (y:Sl),r=U4 p y/\w7 (whole W) 1 (n9 p.refs) y:=by
 obtain⟨xs,n,hfu,_,hl,hlen,hf⟩:=DataW.trod_struct Tryz.underlying38 h
 have hl:r.length=4:=hl.trans (by kernel_rfl)
 have hlen:xs.length=4:=hlen
 obtain⟨a0,a1,a2,a3,rfl⟩ : ∃a0 a1 a2 a3,r=[a0,a1,a2,a3]:=by
  match r,hl with
  | [a0,a1,a2,a3],_=>exact⟨_,_,_,_,rfl⟩
 have g : ∀i,i<4 -> ∃y,xs[i]? = some y:=fun i hi=>⟨_,B9 (by omega)⟩
 have h0:=hf 0 _ rfl
 obtain⟨y0,e0⟩:=g 0 (by decide)
 rw[e0]at h0
 obtain⟨s0,q0,_⟩:=DataW.trod_string Tryz.underlying9 h0
 have h1:=hf 1 _ rfl
 obtain⟨y1,e1⟩:=g 1 (by decide)
 rw[e1]at h1
 have h2:=hf 2 _ rfl
 obtain⟨y2,e2⟩:=g 2 (by decide)
 rw[e2]at h2
 obtain⟨s2,q2,_⟩:=DataW.trod_string Tryz.underlying9 h2
 have h3:=hf 3 _ rfl
 obtain⟨y3,e3⟩:=g 3 (by decide)
 rw[e3]at h3
 obtain⟨s3,q3,_⟩:=DataW.trod_string Tryz.underlying9 h3
 have q0:List.take (Tryz.prog.cellsOf 9) (List.drop 0 [a0,a1,a2,a3])=[.string s0]:=q0
 have q2:List.take (Tryz.prog.cellsOf 9) (List.drop 2 [a0,a1,a2,a3])=[.string s2]:=q2
 have q3:List.take (Tryz.prog.cellsOf 9) (List.drop 3 [a0,a1,a2,a3])=[.string s3]:=q3
 have h1:DataW.trod enc Tryz.prog W 0 (fun _=>true) true n 23 (List.take (Tryz.prog.cellsOf 23) (List.drop 1 [a0,a1,a2,a3]))=some y1:=h1
 rw[bJ1]at q0 q2 q3
 rw[bz5]at h1
 simp only[List.drop_succ_cons,ad8,List.take_succ_cons,List.take_zero,List.cons.injEq,and_true]at q0 q2 q3 h1
 obtain⟨y,rows,hy,hrows,_,k,hall⟩:=aY3 Tryz.underlying23 (show Tryz.prog.cellsOf 9=1 by kernel_rfl) (by decide) h1
 obtain⟨l,rfl⟩:=bz6 hall
 exact⟨⟨s0,l,s2,s3⟩,y,by rw[q0,q2,q3,hy];rfl,hrows⟩
theorem bY9 {D:Type} {enc:TypeId×Value->D} {W:World} {m n:Nat} : ∀ {rows:List (List Value)},(∀r∈rows,m<n /\ ∃d ps,DataW.trod enc Tryz.prog W 0 (fun _=>true) true m 38 r=some (d,ps)) -> ∃l:List B4,T7 (whole W) l rows:=by
 intro rows
 induction rows with
 | nil=>exact fun _=>⟨[],trivial⟩
 | cons r rs ih =>
  intro hall
  obtain⟨l,ha⟩:=ih fun r hr=>hall r (E3 _ hr)
  obtain⟨_,d,ps,hd⟩:=hall r (E2 ..)
  obtain⟨p,y,hp,hy⟩:=ck3 hd
  exact⟨p::l,⟨y,hp,hy⟩,ha⟩
theorem state_of {D:Type} {enc:TypeId×Value->D} {W:World} {m:Nat} {r:List Value} {x:DataW D×List MemPlace} (h:DataW.trod enc Tryz.prog W 0 (fun _=>true) true m 25 r=some x) : ∃ (S:H9) (y1 y2:Sl),r=[.slice y1.base y1.len y1.cap,.slice y2.base y2.len y2.cap]/\bb3 (whole W) S y1 y2:=by
 obtain⟨xs,n,hfu,_,hl,hlen,hf⟩:=DataW.trod_struct Tryz.underlying25 h
 have hl:r.length=2:=hl.trans (by kernel_rfl)
 have hlen:xs.length=2:=hlen
 obtain⟨a0,a1,rfl⟩ : ∃a0 a1,r=[a0,a1]:=by
  match r,hl with
  | [a0,a1],_=>exact⟨_,_,rfl⟩
 have g : ∀i,i<2 -> ∃y,xs[i]? = some y:=fun i hi=>⟨_,B9 (by omega)⟩
 have h0:=hf 0 _ rfl
 obtain⟨y0,e0⟩:=g 0 (by decide)
 rw[e0]at h0
 have h1:=hf 1 _ rfl
 obtain⟨y1,e1⟩:=g 1 (by decide)
 rw[e1]at h1
 have h0:DataW.trod enc Tryz.prog W 0 (fun _=>true) true n 22 (List.take (Tryz.prog.cellsOf 22) (List.drop 0 [a0,a1]))=some y0:=h0
 have h1:DataW.trod enc Tryz.prog W 0 (fun _=>true) true n 23 (List.take (Tryz.prog.cellsOf 23) (List.drop 1 [a0,a1]))=some y1:=h1
 rw[bY8]at h0
 rw[bz5]at h1
 simp only[List.drop_succ_cons,ad8,List.take_succ_cons,List.take_zero]at h0 h1
 obtain⟨u,rows,hu,hrows,_,k,hall⟩:=aY3 Tryz.underlying22 (show Tryz.prog.cellsOf 38=4 by kernel_rfl) (by decide) h0
 obtain⟨ps,hps⟩:=bY9 hall
 obtain⟨v,rows2,hv,hrows2,_,k2,hall2⟩:=aY3 Tryz.underlying23 (show Tryz.prog.cellsOf 9=1 by kernel_rfl) (by decide) h1
 obtain⟨l,rfl⟩:=bz6 hall2
 exact⟨⟨ps,l⟩,u,v,by rw[hu,hv],⟨rows,hrows,hps⟩,hrows2⟩
end st30
end Go.Proofs.YtgfiobhpipollaaGreatDoor

