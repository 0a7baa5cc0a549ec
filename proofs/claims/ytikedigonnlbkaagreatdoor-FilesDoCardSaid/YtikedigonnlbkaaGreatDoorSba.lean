/- A part of a proof. -/
import Derived.Test.YtikedigonnlbkaaGreatDoorSaz
import Derived.Lib.ItoaNum
import Derived.Lib.LaidTab
set_option maxRecDepth 100000
namespace Go.Wk
open Go Go.HL
section
def cw6(Y:H)(g:Nat)(k:IntKind)(zs:List Int):Prop:=∃t fz,Y g=some (.cells ⟨zs.map fun z=>Value.int k z⟩ t fz)
theorem cw6.gr{Y Y':H}{g:Nat}{k:IntKind}{zs:List Int}(h:cw6 Y g k zs)(hg:Gr Y Y'):cw6 Y' g k zs:=by
 obtain⟨t,fz,h⟩:=h;exact⟨t,fz,hg.get h⟩
def cF5:List Int:=[0,1,56,2,57,49,28,3,61,58,42,50,38,29,17,4,62,47,59,36,45,43,51,22,53,39,33,30,24,18,12,5,63,55,48,27,60,41,37,16,46,35,44,21,52,32,23,11,54,26,40,15,34,20,31,10,25,14,19,9,13,8,7,6]
end
section
variable {A:AT}
theorem bF6{gh:Int}{gu:d9}{gf:Int}(he:A.linkE gh gu gf=0):A.isDir gh/\S3 gu=0/\(∃n,A.get gf=some n/\n.kind=1)/\A.find gh gu=none:=by
 unfold AT.linkE at he;obtain⟨_,he⟩:=AT.firstE_z he;obtain⟨h1,he⟩:=AT.firstE_z he;obtain⟨h2,he⟩:=AT.firstE_z he;obtain⟨h3,he⟩:=AT.firstE_z he;obtain⟨h4,_⟩:=AT.firstE_z he;refine⟨AT.dirE_z h1,h2,AT.fileE_z h3,?_⟩;cases hf:A.find gh gu with
 |none=>rfl
 |some j=>rw[hf]at h4;simp at h4
theorem bZ0{N:Nat}(h:Inv A)(hb:Bd N A)(hN:N<4611686018427387904)(gh:Int)(gu:d9)(gf:Int):Inv (A.linkR gh gu gf).2/\Bd (N+1) (A.linkR gh gu gf).2/\((A.linkR gh gu gf).1≠0->(A.linkR gh gu gf).2=A)/\(A.linkR gh gu gf).2.qi=A.qi/\(A.linkR gh gu gf).2.qb=A.qb:=by
 unfold AT.linkR;by_cases he:A.linkE gh gu gf=0
 case neg=>rw[d7 he];exact⟨h,hb.mono (by omega),fun _=>rfl,rfl,rfl⟩
 rw[d8 he];obtain⟨⟨nd,hd,sw⟩,il,⟨nn,ix,sy⟩,mq⟩:=bF6 he;have ia:gf≠gh:=by intro e;subst e;rw[hd]at ix;cases ix;omega
 have sx:lk gu nd.gj=none:=by unfold AT.find at mq;rw[hd]at mq;exact mq
 have hlb:nn.links<=N:=hb.links gf nn ix;have nh:gf≠1:=by
  intro e;subst e;obtain⟨r,r1,r2,_⟩:=h.root;rw[ix]at r1;cases r1;omega
 have Eh:=h.links gf nn ix nh;have wl:wr (nn.links+1)=nn.links+1:=av9 (by omega) (by omega);have e1:A.ent gh (up gu gf)=A.set gh {nd with gj:=up gu gf nd.gj}:=by unfold AT.ent;rw[hd]
 have g1:(A.set gh {nd with gj:=up gu gf nd.gj}).get gf=some nn:=by rw[AT.get_set_ne _ _ ia];exact ix
 have e2:A.linked gh gu gf=(A.set gh {nd with gj:=up gu gf nd.gj}).set gf {nn with links:=nn.links+1}:=by
  unfold AT.linked AT.mod;rw[e1,g1];simp only;rw[wl]
 have hG:∀j,(A.linked gh gu gf).get j=if j=gf then some {nn with links:=nn.links+1}else if j=gh then some {nd with gj:=up gu gf nd.gj}else A.get j:=by
  intro j;rw[e2,AT.get_set,AT.get_set]
 have jr:∀f:AN->Nat,P7 f (A.linked gh gu gf).nodes+f nd+f nn=P7 f A.nodes+f {nd with gj:=up gu gf nd.gj}+f {nn with links:=nn.links+1}:=by
  intro f;have q1:=AT.sum_set (A.set gh {nd with gj:=up gu gf nd.gj}) f gf {nn with links:=nn.links+1};have q2:=AT.sum_set A f gh {nd with gj:=up gu gf nd.gj};rw[g1]at q1;rw[hd]at q2;simp only[Option.map_some,Option.getD_some]at q1 q2;rw[e2];omega
 have Es:∀j,P2 j {nd with gj:=up gu gf nd.gj}=P2 j nd+one j gf:=by
  intro j;have:=aO2 (one j) gu gf nd.gj;rw[sx]at this;simpa[P2]using this
 have lr:∀j,(A.linked gh gu gf).refs j=A.refs j+one j gf:=by
  intro j;have:=jr (P2 j);rw[Es j]at this;have e:P2 j {nn with links:=nn.links+1}=P2 j nn:=rfl;unfold AT.refs;omega
 have gw:∀j m,(A.linked gh gu gf).get j=some m->(j=gf/\m={nn with links:=nn.links+1})\/(j=gh/\m={nd with gj:=up gu gf nd.gj})\/(j≠gf/\j≠gh/\A.get j=some m):=by
  intro j m hm;rw[hG]at hm;by_cases e:j=gf
  ·rw[d8 e]at hm;cases hm;exact .inl ⟨e,rfl⟩
  ·rw[d7 e]at hm;by_cases e':j=gh
   ·rw[d8 e']at hm;cases hm;exact .inr (.inl ⟨e',rfl⟩)
   ·rw[d7 e']at hm;exact .inr (.inr ⟨e,e',hm⟩)
 have hx:∀j m,A.get j=some m->∃m',(A.linked gh gu gf).get j=some m'/\m'.kind=m.kind/\m'.up=m.up:=by
  intro j m hm;rw[hG];by_cases e:j=gf
  ·subst e;rw[d8 rfl];rw[ix]at hm;cases hm;exact⟨_,rfl,rfl,rfl⟩
  ·rw[d7 e];by_cases e':j=gh
   ·subst e';rw[d8 rfl];rw[hd]at hm;cases hm;exact⟨_,rfl,rfl,rfl⟩
   ·rw[d7 e'];exact⟨m,hm,rfl,rfl⟩
 have oh:∀k,A.isDir k->(A.linked gh gu gf).upOf k=A.upOf k:=by
  rintro k ⟨m,hm,_⟩
  obtain⟨m',q1,_,q3⟩:=hx k m hm;unfold AT.upOf;rw[hm,q1];simp[q3]
 have hu:(A.linked gh gu gf).ui=A.ui/\(A.linked gh gu gf).ub=A.ub/\(A.linked gh gu gf).qi=A.qi/\(A.linked gh gu gf).qb=A.qb/\(A.linked gh gu gf).last=A.last:=by rw[e2];exact⟨rfl,rfl,rfl,rfl,rfl⟩
 have kj:one gf gf=1:=by unfold one;simp
 show Inv (A.linked gh gu gf)/\Bd (N+1) (A.linked gh gu gf)/\((0:Int)≠0->_)/\_/\_;refine⟨⟨?_,?_,?_,?_,?_,?_,?_,?_,?_,?_,?_,?_,?_⟩,⟨?_,?_,?_⟩,fun h=>m7 rfl h,hu.2.2.1,hu.2.2.2.1⟩
 ·rw[e2];exact M5 (M5 h.nodup)
 ·intro j m hm;rcases gw j m hm with⟨_,rfl⟩|⟨_,rfl⟩|⟨_,_,hm⟩
  ·exact h.enod gf nn ix
  ·exact M5 (h.enod gh nd hd)
  ·exact h.enod j m hm
 ·obtain⟨r,r1,r2,r3⟩:=h.root;obtain⟨m',q1,q2,q3⟩:=hx 1 r r1;exact⟨m',q1,by rw[q2,r2],by rw[q3,r3]⟩
 ·intro j m hm;rw[hu.2.2.2.2];rcases gw j m hm with⟨rfl,_⟩|⟨rfl,_⟩|⟨_,_,hm⟩
  ·exact h.low _ nn ix
  ·exact h.low _ nd hd
  ·exact h.low j m hm
 ·intro j m hm;rcases gw j m hm with⟨_,rfl⟩|⟨_,rfl⟩|⟨_,_,hm⟩
  ·exact h.like gf nn ix
  ·exact h.like gh nd hd
  ·exact h.like j m hm
 ·intro j m hm hk;rcases gw j m hm with⟨_,rfl⟩|⟨_,rfl⟩|⟨_,_,hm⟩
  ·exact h.file gf nn ix hk
  ·exact m7 sw hk
  ·exact h.file j m hm hk
 ·intro j m s t hm hs;have fin : ∀t m1,A.get t=some m1->(m1.kind=2->m1.up=j) -> ∃m',(A.linked gh gu gf).get t=some m'/\(m'.kind=2->m'.up=j):=by
   intro t m1 a3 a4;obtain⟨m',b1,b2,b3⟩:=hx t m1 a3;exact⟨m',b1,fun hk=>by rw[b3];exact a4 (by rw[<-b2];exact hk)⟩
  rcases gw j m hm with⟨rfl,rfl⟩|⟨rfl,rfl⟩|⟨_,_,hm⟩
  ·obtain⟨a1,a2,m1,a3,a4⟩:=h.ent j nn s t ix hs;exact⟨a1,a2,fin t m1 a3 a4⟩
  ·simp only[ax0]at hs;by_cases e:s=gu
   ·subst e;simp at hs;subst hs;exact⟨il,nh,fin gf nn ix (fun hk=>by omega)⟩
   ·have e':(s==gu)=false:=by simpa using e
    rw[e']at hs;obtain⟨a1,a2,m1,a3,a4⟩:=h.ent j nd s t hd hs;exact⟨a1,a2,fin t m1 a3 a4⟩
  ·obtain⟨a1,a2,m1,a3,a4⟩:=h.ent j m s t hm hs;exact⟨a1,a2,fin t m1 a3 a4⟩
 ·intro j m hm hj;rw[lr];rcases gw j m hm with⟨rfl,rfl⟩|⟨rfl,rfl⟩|⟨xi,_,hm⟩
  ·rw[kj];refine⟨by show nn.links+1=_;omega,by omega,fun hk=>?_⟩;have hk:nn.kind=2:=hk;omega
  ·have:one j gf=0:=by unfold one;rw[d7 ia]
   rw[this];exact h.links j nd hd hj
  ·have:one j gf=0:=by unfold one;rw[d7 (fun e=>xi e.symm)]
   rw[this];exact h.links j m hm hj
 ·rintro k ⟨m,hm,hk⟩
  have lv:A.isDir k:=by
   rcases gw k m hm with⟨rfl,rfl⟩|⟨rfl,rfl⟩|⟨_,_,hm⟩
   ·have hk:nn.kind=2:=hk;omega
   ·exact⟨nd,hd,hk⟩
   ·exact⟨m,hm,hk⟩
  rw[ah2 h oh 12 k lv];exact h.deep k lv
 ·have:=jr (fun _=>1);rw[ac7,ac7]at this;rw[hu.1,h.ui];omega
 ·have:=jr (fun n=>n.data.size);rw[hu.2.1,h.ub];unfold AT.bytes;simp only at this;omega
 ·rw[hu.1,hu.2.2.1];exact h.uq
 ·rw[hu.2.1,hu.2.2.2.1];exact h.bq
 ·rw[hu.2.2.2.2];have:=hb.last;omega
 ·intro j m hm;rcases gw j m hm with⟨_,rfl⟩|⟨rfl,rfl⟩|⟨_,_,hm⟩
  ·show nn.links+1<=_;omega
  ·have:=hb.links _ nd hd;simp only;omega
  ·have:=hb.links j m hm;omega
 ·intro j m hm;rcases gw j m hm with⟨_,rfl⟩|⟨rfl,rfl⟩|⟨_,_,hm⟩
  ·have:=hb.gj _ nn ix;simp only;omega
  ·have:=hb.gj _ nd hd;simp only;rw[ak6 nd.gj gu _ sx];simp;omega
  ·have:=hb.gj j m hm;omega
theorem bk9{N:Nat}(h:Inv A)(hb:Bd N A)(hN:N<4611686018427387904)(gb gk tq:d9):aj0 (N+1) A (A.hardF gb gk tq):=by
 unfold AT.hardF;simp only;split
 ·exact aj0.self h (hb.mono (by omega)) _
 split
 ·exact aj0.self h (hb.mono (by omega)) _
 split
 ·exact aj0.self h (hb.mono (by omega)) _
 split
 ·exact aj0.self h (hb.mono (by omega)) _
 split
 ·exact aj0.self h (hb.mono (by omega)) _
 obtain⟨a,b,c,d,e⟩:=bZ0 h hb hN (A.both gb gk tq).2.2.gh (A.both gb gk tq).2.2.gu (A.both gb gk tq).2.1.gf;exact⟨a,b,c,d,e⟩
def Below(A:AT)(gf:Int):Nat->Int->Prop
 |0,k=>k=gf
 |r+1,k=>k≠gf/\k≠1/\Below A gf r (A.upOf k)
theorem bd8(h:Inv A){k:Int}(hk:A.isDir k)(h1:k≠1):A.upOf k≠k:=by
 intro e;obtain⟨d,hd⟩:=h.deep k hk;have:∀f,A.deep f k=none:=by
  intro f
  induction f with
  |zero=>rfl
  |succ f ih=>unfold AT.deep;rw[d7 h1,e,ih];rfl
 rw[this]at hd;cases hd
theorem aM5(gf:Int):∀ {f:Nat} {d x:Int},A.deep f d=some x->∃b,A.within gf f d=some b:=by
 intro f
 induction f with
 |zero=>intro d x h;cases h
 |succ f ih =>
  intro d x h;unfold AT.deep at h;unfold AT.within;by_cases e:d=gf
  ·rw[d8 e];exact⟨_,rfl⟩
  ·rw[d7 e];by_cases e1:d=1
   ·rw[d8 e1];exact⟨_,rfl⟩
   ·rw[d7 e1]at h⊢;cases hd:A.deep f (A.upOf d) with
    |none=>rw[hd]at h;cases h
    |some y=>exact ih hd
theorem bw5(h:Inv A)(gf:Int):∀ {f:Nat} {d x:Int},A.isDir d->A.deep f d=some x->∃b,A.apart gf f d=some b:=by
 intro f
 induction f with
 |zero=>intro d x _ h;cases h
 |succ f ih =>
  intro d x im hd;unfold AT.deep at hd;unfold AT.apart;by_cases e1:d=1
  ·rw[d8 e1];exact⟨_,rfl⟩
  ·rw[d7 e1]at hd⊢;by_cases e:d=gf
   ·rw[d8 e];exact⟨_,rfl⟩
   ·rw[d7 e];have hu:=h.isDir_up im;obtain⟨n,hn,_⟩:=im;have iu:A.upOf d=n.up:=by unfold AT.upOf;rw[hn];rfl
    rw[iu]at hd hu;rw[hn];cases sw:A.deep f n.up with
    |none=>rw[sw]at hd;cases hd
    |some y=>exact ih hu sw
theorem bL4(h:Inv A){gf:Int}(hi:gf≠1):∀ {f:Nat} {d:Int},A.isDir d->A.apart gf f d=some true->∀r,¬Below A gf r d:=by
 intro f
 induction f with
 |zero=>intro d _ h;cases h
 |succ f ih =>
  intro d im hd r hr;unfold AT.apart at hd;by_cases e1:d=1
  ·cases r with
   |zero=>have hr:d=gf:=hr;exact hi (by omega)
   |succ r=>exact hr.2.1 e1
  ·rw[d7 e1]at hd;by_cases e:d=gf
   ·rw[d8 e]at hd;cases hd
   ·rw[d7 e]at hd;cases r with
    |zero=>exact e hr
    |succ r =>
     have hu:=h.isDir_up im;obtain⟨n,hn,_⟩:=im;have iu:A.upOf d=n.up:=by unfold AT.upOf;rw[hn];rfl
     rw[hn]at hd;have hd:A.apart gf f n.up=some true:=hd;rw[iu]at hu;have:=hr.2.2;rw[iu]at this;exact ih hu hd r this
theorem bL5(h:Inv A){gf:Int}:∀ {r:Nat} {k:Int},A.isDir k->Below A gf (r+1) k->∃c,A.isDir c/\c≠1/\c≠gf/\A.upOf c=gf/\Below A c r k:=by
 intro r
 induction r with
 |zero=>intro k hk hb;obtain⟨h1,h2,h3⟩:=hb;exact⟨k,hk,h2,h1,h3,rfl⟩
 |succ r ih =>
  intro k hk hb;obtain⟨h1,h2,h3⟩:=hb;obtain⟨c,c1,c2,c3,c4,c5⟩:=ih (h.isDir_up hk) h3;refine⟨c,c1,c2,c3,c4,?_,h2,c5⟩;intro e;subst e;exact h3.1 c4
theorem aQ9{d:Int}{s:d9}{j:Int}(hf:A.find d s=some j):s∈A.gd d:=by
 unfold AT.find at hf;unfold AT.gd;cases hn:A.get d with
 |none=>rw[hn]at hf;cases hf
 |some n =>
  rw[hn]at hf;have hf:lk s n.gj=some j:=hf;have hm:s∈C5 n.gj:=by
   apply Classical.byContradiction;intro hc;rw[M4.2 hc]at hf;cases hf
  simp only[E7,K0];refine⟨s.data.toList,(ae5 _).mem_iff.2 (K0.2 ⟨s,hm,rfl⟩),?_⟩;cases s with|mk d=>cases d;rfl
theorem bF7(f:d9->Int):∀ (l:List d9) (n:Int),n<=l.foldl (fun n s=>let x:=f s;if x>n then x else n) n/\∀s∈l,f s<=l.foldl (fun n s=>let x:=f s;if x>n then x else n) n:=by
 intro l
 induction l with
 |nil=>intro n;exact⟨Int.le_refl _,by simp⟩
 |cons y r ih =>
  intro n;simp only[H3];obtain⟨h1,h2⟩:=ih (if f y>n then f y else n);have hg:n<=(if f y>n then f y else n)/\f y<=(if f y>n then f y else n):=by split<;>omega
  simp only at h1 h2⊢;refine⟨by omega,fun x hx=>?_⟩;rcases G9.1 hx with e|e
  ·subst e;omega
  ·exact h2 x e
theorem bd9(h:Inv A):∀ (r:Nat) (f:Nat) (gf k:Int),A.isDir k->A.isDir gf->Below A gf r k->r+1<=f->(r:Int)+1<=A.levels f gf:=by
 intro r
 induction r with
 |zero =>
  intro f gf k _ hi _ hf;obtain⟨f,rfl⟩:∃g,f=g+1:=⟨f-1,by omega⟩;unfold AT.levels;have hk:A.kind gf=2:=al8 hi;rw[d7 (by omega)];have:=(bF7 (fun s=>A.levels f ((A.find gf s).getD 0)) (A.gd gf) 0).1;simp only at this⊢;omega
 |succ r ih =>
  intro f gf k hk hi hb hf;obtain⟨f,rfl⟩:∃g,f=g+1:=⟨f-1,by omega⟩;obtain⟨c,c1,c2,c3,c4,c5⟩:=bL5 h hk hb;obtain⟨s,hs⟩:=h.named c1 c2;rw[c4]at hs;unfold AT.levels;have jc:A.kind gf=2:=al8 hi;rw[d7 (by omega)];have h1:=(bF7 (fun s=>A.levels f ((A.find gf s).getD 0)) (A.gd gf) 0).2 s (aQ9 hs);have h2:=ih f c k hk c1 c5 (by omega);simp only[hs,Option.getD_some]at h1⊢;omega
theorem aR0(h:Inv A){i k:Int}{n m:AN}{s s':d9}(hn:A.get i=some n)(hm:A.get k=some m)(jc:m.kind=2)(sy:k≠1)(h1:lk s n.gj=some k)(h2:lk s' n.gj=some k):s=s':=by
 apply Classical.byContradiction;intro ia;have hr:=(h.links k m hm sy).2.2 jc;have a:=bk4 (f:=one k) (h.enod i n hn) h1 h2 ia;have b:=aq9 (f:=P2 k) (show lk i A.nodes=some n from hn);have e:one k k=1:=by unfold one;simp
 rw[e]at a;unfold AT.refs at hr;have:P7 (one k) n.gj<=P7 (P2 k) A.nodes:=b;omega
structure cF6(A:AT)(gk:Int)(gu:d9)(tq:Int)(as_:d9)(gf:Int)(nn ns nt':AN)(M:AT):Prop where
 get:∀j,M.get j=if j=gf then some (if nn.kind==2 then {nn with up:=tq}else nn)else if j=tq then some {nt' with gj:=up as_ gf nt'.gj}else if j=gk then some {ns with gj:=rm gu ns.gj}else A.get j
 ui:M.ui=A.ui
 ub:M.ub=A.ub
 qi:M.qi=A.qi
 qb:M.qb=A.qb
 last:M.last=A.last
theorem bZ1{N:Nat}(h:Inv A)(hb:Bd N A){gk tq gf:Int}{gu as_:d9}{nn:AN}(hs:A.isDir gk)(ht:A.isDir tq)(il:S3 as_=0)(hf:A.find gk gu=some gf)(ke:A.find tq as_=none)(hn:A.get gf=some nn)
 (hnb:nn.kind=2->∀r,¬Below A gf r tq) (vj:nn.kind=2->∀dt r k,A.deep 12 tq=some dt->A.isDir k->Below A gf r k->dt+1+(r:Int)<=12) :
 Inv (A.moved gk gu tq as_)/\Bd (N+1) (A.moved gk gu tq as_)/\∃ns nt':AN,A.get gk=some ns/\lk as_ nt'.gj=none/\(nt'=if tq=gk then {ns with gj:=rm gu ns.gj}else(A.get tq).getD nt')/\cF6 A gk gu tq as_ gf nn ns nt' (A.moved gk gu tq as_):=by
 obtain⟨ns,jp,Bb⟩:=hs;obtain⟨nt,kw,yq⟩:=ht;have lq:lk gu ns.gj=some gf:=by unfold AT.find at hf;rw[jp]at hf;exact hf
 have iw:lk as_ nt.gj=none:=by unfold AT.find at ke;rw[kw]at ke;exact ke
 obtain⟨_,nh,nn',vr,iu⟩:=h.ent gk ns gu gf jp lq;rw[hn]at vr;cases vr;have hit:gf≠tq:=by
  intro e;subst e;rw[hn]at kw;cases kw;exact hnb yq 0 rfl
 have his:gf≠gk:=by
  intro e;subst e;rw[hn]at jp;cases jp;have:=bd8 h ⟨nn,hn,Bb⟩ nh;unfold AT.upOf at this;rw[hn]at this;exact this (iu Bb)
 -- the three changes
 have e1:A.ent gk (rm gu)=A.set gk {ns with gj:=rm gu ns.gj}:=by unfold AT.ent;rw[jp]
 have ij:=h.enod gk ns jp;obtain⟨nt',g1,t1,t2,t3,t4,t5,t6,t7,t8,t9,t10⟩:∃nt',(A.set gk {ns with gj:=rm gu ns.gj}).get tq=some nt'/\nt'.kind=nt.kind/\nt'.up=nt.up/\nt'.mode=nt.mode/\nt'.data=nt.data/\nt'.links=nt.links/\(C5 nt'.gj).Nodup/\lk as_ nt'.gj=none/\(∀s j,lk s nt'.gj=some j->lk s nt.gj=some j/\(tq=gk->s≠gu))/\nt'.gj.length<=nt.gj.length/\(nt'=if tq=gk then {ns with gj:=rm gu ns.gj}else(A.get tq).getD nt'):=by
  by_cases e:tq=gk
  ·subst e;rw[jp]at kw;cases kw;refine⟨{ns with gj:=rm gu ns.gj},AT.get_set_self _ _ _,rfl,rfl,rfl,rfl,rfl,ai6 ij,?_,?_,aQ4.length_le,by rw[d8 rfl]⟩
   ·simp only[ak1 ij];split
    ·rfl
    ·exact iw
   ·intro s j hs;simp only[ak1 ij]at hs;by_cases e:(s==gu)=true
    ·rw[d8 e]at hs;cases hs
    ·rw[d7 e]at hs;exact⟨hs,fun _ he=>e (by simpa using he)⟩
  ·refine⟨nt,by rw[AT.get_set_ne _ _ e];exact kw,rfl,rfl,rfl,rfl,rfl,h.enod tq nt kw,iw,fun s j hs=>⟨hs,fun he=>m7 he e⟩,A7 _,by rw[d7 e,kw];rfl⟩
 have g2:((A.set gk {ns with gj:=rm gu ns.gj}).set tq {nt' with gj:=up as_ gf nt'.gj}).get gf=some nn:=by
  rw[AT.get_set_ne _ _ hit,AT.get_set_ne _ _ his];exact hn
 have e2:A.moved gk gu tq as_=((A.set gk {ns with gj:=rm gu ns.gj}).set tq {nt' with gj:=up as_ gf nt'.gj}).set gf (if nn.kind==2 then {nn with up:=tq}else nn):=by
  unfold AT.moved;rw[hf];simp only[Option.getD_some];rw[e1];have:(A.set gk {ns with gj:=rm gu ns.gj}).ent tq (up as_ gf)=(A.set gk {ns with gj:=rm gu ns.gj}).set tq {nt' with gj:=up as_ gf nt'.gj}:=by unfold AT.ent;rw[g1]
  rw[this];unfold AT.mod;rw[g2]
 generalize hM:A.moved gk gu tq as_=M at *;have hG:∀j,M.get j=if j=gf then some (if nn.kind==2 then {nn with up:=tq}else nn)else if j=tq then some {nt' with gj:=up as_ gf nt'.gj}else if j=gk then some {ns with gj:=rm gu ns.gj}else A.get j:=by
  intro j;rw[e2,AT.get_set,AT.get_set,AT.get_set]
 have qq:∀ (P:AN->Prop),P nn->P {nn with up:=tq}->P (if nn.kind==2 then {nn with up:=tq}else nn):=by
  intro P h1 h2;split
  ·exact h2
  ·exact h1
 have jr:∀f:AN->Nat,P7 f M.nodes+f nn+f nt'+f ns=P7 f A.nodes+f {ns with gj:=rm gu ns.gj}+f {nt' with gj:=up as_ gf nt'.gj}+f (if nn.kind==2 then {nn with up:=tq}else nn):=by
  intro f;have q1:=AT.sum_set A f gk {ns with gj:=rm gu ns.gj};have q2:=AT.sum_set (A.set gk {ns with gj:=rm gu ns.gj}) f tq {nt' with gj:=up as_ gf nt'.gj};have q3:=AT.sum_set ((A.set gk {ns with gj:=rm gu ns.gj}).set tq {nt' with gj:=up as_ gf nt'.gj}) f gf (if nn.kind==2 then {nn with up:=tq}else nn);rw[jp]at q1;rw[g1]at q2;rw[g2]at q3;simp only[Option.map_some,Option.getD_some]at q1 q2 q3;rw[e2];omega
 have hc1:∀j,P2 j {ns with gj:=rm gu ns.gj}+one j gf=P2 j ns:=by
  intro j;have:=aF2 (one j) gu ns.gj;rw[lq]at this;simpa[P2]using this
 have hc2:∀j,P2 j {nt' with gj:=up as_ gf nt'.gj}=P2 j nt'+one j gf:=by
  intro j;have:=aO2 (one j) as_ gf nt'.gj;rw[t7]at this;simpa[P2]using this
 have lr:∀j,M.refs j=A.refs j:=by
  intro j;have q:=jr (P2 j);have e:P2 j (if nn.kind==2 then {nn with up:=tq}else nn)=P2 j nn:=qq (fun m=>P2 j m=P2 j nn) rfl rfl;have:=hc1 j;have:=hc2 j;unfold AT.refs;omega
 have hx:∀j m,A.get j=some m->∃m',M.get j=some m'/\m'.kind=m.kind/\(j≠gf->m'.up=m.up)/\m'.mode=m.mode/\m'.data=m.data/\m'.links=m.links:=by
  intro j m hm;rw[hG];by_cases a:j=gf
  ·subst a;rw[d8 rfl];rw[hn]at hm;cases hm;exact⟨_,rfl,qq (fun m=>m.kind=nn.kind) rfl rfl,fun h=>m7 rfl h,qq (fun m=>m.mode=nn.mode) rfl rfl,qq (fun m=>m.data=nn.data) rfl rfl,qq (fun m=>m.links=nn.links) rfl rfl⟩
  ·rw[d7 a];by_cases b:j=tq
   ·subst b;rw[d8 rfl];rw[kw]at hm;cases hm;exact⟨_,rfl,t1,fun _=>t2,t3,t4,t5⟩
   ·rw[d7 b];by_cases c:j=gk
    ·subst c;rw[d8 rfl];rw[jp]at hm;cases hm;exact⟨_,rfl,rfl,fun _=>rfl,rfl,rfl,rfl⟩
    ·rw[d7 c];exact⟨m,hm,rfl,fun _=>rfl,rfl,rfl,rfl⟩
 have gw:∀j m,M.get j=some m->(j=gf/\m=(if nn.kind==2 then {nn with up:=tq}else nn))\/(j=tq/\m={nt' with gj:=up as_ gf nt'.gj})\/(j=gk/\j≠tq/\m={ns with gj:=rm gu ns.gj})\/(j≠gf/\j≠tq/\j≠gk/\A.get j=some m):=by
  intro j m hm;rw[hG]at hm;by_cases a:j=gf
  ·rw[d8 a]at hm;cases hm;exact .inl ⟨a,rfl⟩
  ·rw[d7 a]at hm;by_cases b:j=tq
   ·rw[d8 b]at hm;cases hm;exact .inr (.inl ⟨b,rfl⟩)
   ·rw[d7 b]at hm;by_cases c:j=gk
    ·rw[d8 c]at hm;cases hm;exact .inr (.inr (.inl ⟨c,b,rfl⟩))
    ·rw[d7 c]at hm;exact .inr (.inr (.inr ⟨a,b,c,hm⟩))
 have ri:∀j m,M.get j=some m->∃m0,A.get j=some m0/\m.kind=m0.kind/\m.mode=m0.mode/\m.data=m0.data/\m.links=m0.links:=by
  intro j m hm;have:∃m0,A.get j=some m0:=by
   rcases gw j m hm with⟨rfl,_⟩|⟨rfl,_⟩|⟨rfl,_,_⟩|⟨_,_,_,hm⟩
   ·exact⟨_,hn⟩
   ·exact⟨_,kw⟩
   ·exact⟨_,jp⟩
   ·exact⟨_,hm⟩
  obtain⟨m0,ua⟩:=this;obtain⟨m',q1,q2,_,q4,q5,q6⟩:=hx j m0 ua;rw[hm]at q1;cases q1;exact⟨m0,ua,q2,q4,q5,q6⟩
 have oh:∀k,k≠gf->A.isDir k->M.upOf k=A.upOf k:=by
  rintro k Ba ⟨m,hm,_⟩
  obtain⟨m',q1,_,q3,_⟩:=hx k m hm;unfold AT.upOf;rw[hm,q1];simp[q3 Ba]
 have hu:M.ui=A.ui/\M.ub=A.ub/\M.qi=A.qi/\M.qb=A.qb/\M.last=A.last:=by rw[e2];exact⟨rfl,rfl,rfl,rfl,rfl⟩
 refine⟨⟨?_,?_,?_,?_,?_,?_,?_,?_,?_,?_,?_,?_,?_⟩,⟨?_,?_,?_⟩,ns,nt',jp,t7,t10,⟨hG,hu.1,hu.2.1,hu.2.2.1,hu.2.2.2.1,hu.2.2.2.2⟩⟩
 ·rw[e2];exact M5 (M5 (M5 h.nodup))
 ·intro j m hm;rcases gw j m hm with⟨_,rfl⟩|⟨_,rfl⟩|⟨_,_,rfl⟩|⟨_,_,_,hm⟩
  ·exact qq (fun m=>(C5 m.gj).Nodup) (h.enod gf nn hn) (h.enod gf nn hn)
  ·exact M5 t6
  ·exact ai6 ij
  ·exact h.enod j m hm
 ·obtain⟨r,r1,r2,r3⟩:=h.root;obtain⟨m',q1,q2,q3,_⟩:=hx 1 r r1;exact⟨m',q1,by rw[q2,r2],by rw[q3 (fun e=>nh e.symm),r3]⟩
 ·intro j m hm;rw[hu.2.2.2.2];obtain⟨m0,q,_⟩:=ri j m hm;exact h.low j m0 q
 ·intro j m hm;obtain⟨m0,q,q2,q3,q4,_⟩:=ri j m hm;rw[q2,q3,q4];exact h.like j m0 q
 ·intro j m hm hk;rcases gw j m hm with⟨_,rfl⟩|⟨_,rfl⟩|⟨_,_,rfl⟩|⟨_,_,_,hm⟩
  ·have e:(if nn.kind==2 then {nn with up:=tq}else nn).kind=nn.kind:=qq (fun m=>m.kind=nn.kind) rfl rfl;have e':(if nn.kind==2 then {nn with up:=tq}else nn).gj=nn.gj:=qq (fun m=>m.gj=nn.gj) rfl rfl;rw[e'] ;rw[e]at hk;exact h.file gf nn hn hk
  ·exact m7 (by show nt'.kind=2;rw[t1];exact yq) hk
  ·exact m7 Bb hk
  ·exact h.file j m hm hk
 ·intro j m s t hm hs
  -- an entry of old
  have old:∀m1,A.get t=some m1->(m1.kind=2->m1.up=j)->(t=gf->nn.kind=2->False)->∃m',M.get t=some m'/\(m'.kind=2->m'.up=j):=by
   intro m1 a3 a4 a5;obtain⟨m',b1,b2,b3,_⟩:=hx t m1 a3;refine⟨m',b1,fun hk=>?_⟩;have Da:t≠gf:=by
    intro e;subst e;rw[hn]at a3;cases a3;exact a5 rfl (by rw[<-b2];exact hk)
   rw[b3 Da];exact a4 (by rw[<-b2];exact hk)
  rcases gw j m hm with⟨rfl,rfl⟩|⟨rfl,rfl⟩|⟨rfl,hjt,rfl⟩|⟨xi,hjt,vt,hm⟩
  ·have e':(if nn.kind==2 then {nn with up:=tq}else nn).gj=nn.gj:=qq (fun m=>m.gj=nn.gj) rfl rfl;rw[e']at hs;obtain⟨a1,a2,m1,a3,a4⟩:=h.ent j nn s t hn hs;refine⟨a1,a2,old m1 a3 a4 fun e hk=>?_⟩;subst e;rw[hn]at a3;cases a3;have:=bd8 h ⟨nn,hn,hk⟩ a2;unfold AT.upOf at this;rw[hn]at this;exact this (a4 hk)
  ·simp only[ax0]at hs;by_cases e:s=as_
   ·subst e;simp at hs;subst hs;refine⟨il,nh,_,by rw[hG,d8 rfl],fun hk=>?_⟩;have e:(if nn.kind==2 then {nn with up:=j}else nn).kind=nn.kind:=qq (fun m=>m.kind=nn.kind) rfl rfl;rw[e]at hk;have:(nn.kind==2)=true:=by simpa using hk
    rw[this];rfl
   ·have e':(s==as_)=false:=by simpa using e
    rw[e']at hs;obtain⟨rz,ia⟩:=t8 s t hs;obtain⟨a1,a2,m1,a3,a4⟩:=h.ent j nt s t kw rz;refine⟨a1,a2,old m1 a3 a4 fun e hk=>?_⟩;subst e;rw[hn]at a3;cases a3;have vt:j=gk:=by rw[<-a4 hk,iu hk]
    have Ez:nt=ns:=by subst vt;rw[jp]at kw;cases kw;rfl
    subst Ez;exact ia vt (aR0 h jp hn hk nh rz lq)
  ·simp only[ak1 ij]at hs;by_cases e:(s==gu)=true
   ·rw[d8 e]at hs;cases hs
   ·rw[d7 e]at hs;obtain⟨a1,a2,m1,a3,a4⟩:=h.ent j ns s t jp hs;refine⟨a1,a2,old m1 a3 a4 fun e' hk=>?_⟩;subst e';exact e (by simpa using aR0 h jp hn hk nh hs lq)
  ·obtain⟨a1,a2,m1,a3,a4⟩:=h.ent j m s t hm hs;refine⟨a1,a2,old m1 a3 a4 fun e hk=>?_⟩;subst e;rw[hn]at a3;cases a3;exact vt (by rw[<-a4 hk,iu hk])
 ·intro j m hm hj;rw[lr];obtain⟨m0,q,q2,_,_,q5⟩:=ri j m hm;rw[q2,q5];exact h.links j m0 q hj
 ·rintro k ⟨m,hm,hk⟩
  obtain⟨m0,q,q2,_⟩:=ri k m hm;have lv:A.isDir k:=⟨m0,q,by rw[<-q2];exact hk⟩;by_cases ph:nn.kind=2
  case neg =>
   have ia:∀k,A.isDir k->k≠gf:=by
    rintro k ⟨m,hm,hk⟩ e;subst e;rw[hn]at hm;cases hm;exact ph hk
   rw[ah2 h (fun k hk=>oh k (ia k hk) hk) 12 k lv];exact h.deep k lv
  have hS:∀ (f:Nat) (k:Int),(A.isDir k/\∀r,¬Below A gf r k)->M.deep f k=A.deep f k :=
   bF1 (S:=fun k=>A.isDir k/\∀r,¬Below A gf r k) (fun k hk h1=>⟨h.isDir_up hk.1,fun r hr=>hk.2 (r+1) ⟨fun e=>hk.2 0 e,h1,hr⟩⟩) (fun k hk _=>oh k (fun e=>hk.2 0 e) hk.1)
  by_cases xo:∃r,Below A gf r k
  case neg =>
   rw[hS 12 k ⟨lv,fun r hr=>xo ⟨r,hr⟩⟩];exact h.deep k lv
  obtain⟨r,hr⟩:=xo;obtain⟨dt,Bc⟩:=h.deep tq ⟨nt,kw,yq⟩;have qx:=vj ph dt r k Bc lv hr;have hdb:=aa0 Bc;have hD:A.deep dt.toNat tq=some dt:=at1 Bc _ (by omega);have key:∀ (r:Nat) (k:Int),A.isDir k->Below A gf r k->M.deep (dt.toNat+1+r) k=some (dt+1+r):=by
   intro r
   induction r with
   |zero =>
    intro k lv hb;have hb:k=gf:=hb;subst hb;have mi:M.upOf k=tq:=by
     unfold AT.upOf;rw[hG,d8 rfl];have:(nn.kind==2)=true:=by simpa using ph
     rw[this];rfl
    rw[Nat.add_zero,AT.deep,d7 nh,mi,hS _ tq ⟨⟨nt,kw,yq⟩,hnb ph⟩,hD];simp
   |succ r ih =>
    intro k lv hb;obtain⟨b1,b2,b3⟩:=hb;rw[show dt.toNat+1+(r+1)=(dt.toNat+1+r)+1 by omega,AT.deep,d7 b2,oh k b1 lv,ih _ (h.isDir_up lv) b3];simp;omega
  have:=key r k lv hr;exact⟨_,at1 this 12 (by omega)⟩
 ·have q:=jr (fun _=>1);rw[ac7,ac7]at q;rw[hu.1,h.ui];omega
 ·have q:=jr (fun n=>n.data.size);have e:(if nn.kind==2 then {nn with up:=tq}else nn).data=nn.data:=qq (fun m=>m.data=nn.data) rfl rfl;rw[hu.2.1,h.ub];unfold AT.bytes;simp only[e]at q;omega
 ·rw[hu.1,hu.2.2.1];exact h.uq
 ·rw[hu.2.1,hu.2.2.2.1];exact h.bq
 ·rw[hu.2.2.2.2];have:=hb.last;omega
 ·intro j m hm;obtain⟨m0,q,_,_,_,q5⟩:=ri j m hm;have:=hb.links j m0 q;omega
 ·intro j m hm;rcases gw j m hm with⟨_,rfl⟩|⟨_,rfl⟩|⟨_,_,rfl⟩|⟨_,_,_,hm⟩
  ·have e':(if nn.kind==2 then {nn with up:=tq}else nn).gj=nn.gj:=qq (fun m=>m.gj=nn.gj) rfl rfl;rw[e'];have:=hb.gj _ nn hn;omega
  ·have:=hb.gj _ nt kw;simp only;rw[ak6 nt'.gj as_ _ t7];simp;omega
  ·have:=hb.gj _ ns jp;have:=(aQ4 (k:=gu) (l:=ns.gj)).length_le;simp only;omega
  ·have:=hb.gj j m hm;omega
end
section

end
section

end
section
variable {A:AT}
theorem bw6{gf:Int}:∀ {r f:Nat} {k d:Int},Below A gf r k->A.deep f k=some d->(r:Int)<d:=by
 intro r
 induction r with
 |zero=>intro f k d _ hd;have:=aa0 hd;omega
 |succ r ih =>
  intro f k d hb hd;obtain⟨h1,h2,h3⟩:=hb;cases f with
  |zero=>cases hd
  |succ f =>
   unfold AT.deep at hd;rw[d7 h2]at hd;cases he:A.deep f (A.upOf k) with
   |none=>rw[he]at hd;cases hd
   |some x =>
    rw[he]at hd;simp only[Option.map_some,Option.some.injEq]at hd;have:=ih h3 he;omega
theorem bl0{gk tq:Int}{gu as_:d9}(he:A.moveE1 gk gu tq as_=0):A.isDir gk/\A.isDir tq/\S3 as_=0/\∃j,A.find gk gu=some j:=by
 unfold AT.moveE1 at he;obtain⟨_,he⟩:=AT.firstE_z he;obtain⟨h1,he⟩:=AT.firstE_z he;obtain⟨h2,he⟩:=AT.firstE_z he;obtain⟨h3,he⟩:=AT.firstE_z he;obtain⟨h4,_⟩:=AT.firstE_z he;refine⟨AT.dirE_z h1,AT.dirE_z h2,h3,?_⟩;cases hf:A.find gk gu with
 |none=>rw[hf]at h4;simp at h4
 |some j=>exact⟨j,rfl⟩
theorem aM6(h:Inv A){gk tq:Int}{gu as_:d9}{f:Nat}:(A.moveR gk gu tq as_ f).2=A\/((A.moveR gk gu tq as_ f)=(0,A.moved gk gu tq as_)/\A.isDir gk/\A.isDir tq/\S3 as_=0/\A.find tq as_=none/\∃gf,A.find gk gu=some gf/\∀r,¬Below A gf r tq):=by
 unfold AT.moveR;by_cases c1:A.moveE1 gk gu tq as_≠0\/(gk=tq/\gu=as_)
 ·rw[d8 c1];exact .inl rfl
 rw[d7 c1];simp only;by_cases c2:N0 [if(A.find tq as_).isSome then 6 else 0,if(A.apart ((A.find gk gu).getD 0) f tq).getD false then 0 else 2]≠0
 ·rw[d8 c2];exact .inl rfl
 rw[d7 c2];refine .inr ⟨rfl,?_⟩
 obtain⟨h1,h2,h3,gf,h4⟩:=bl0 (A:=A) (gk:=gk) (tq:=tq) (gu:=gu) (as_:=as_) (by
  apply Classical.byContradiction
  intro hc;exact c1 (.inl hc))
 obtain⟨q1,q2⟩:=AT.firstE_z (show N0 _=0 by simpa using c2);obtain⟨q2,_⟩:=AT.firstE_z q2;obtain⟨_,_,_,_,nh,_⟩:=h.find h4;refine⟨h1,h2,h3,?_,gf,h4,?_⟩
 ·cases hf:A.find tq as_ with
  |none=>rfl
  |some j=>rw[hf]at q1;simp at q1
 ·have hino:(A.find gk gu).getD 0=gf:=by rw[h4];rfl
  simp only[hino]at q2;by_cases hb:(A.apart gf f tq).getD false=true
  ·cases ha:A.apart gf f tq with
   |none=>rw[ha]at hb;cases hb
   |some b =>
    rw[ha]at hb;have hb:b=true:=hb;subst hb;exact bL4 h nh h2 ha
  ·rw[d7 hb]at q2;cases q2
theorem aY0{N:Nat}(h:Inv A)(hb:Bd N A){gk tq:Int}{gu as_:d9}{f:Nat}(vj:∀gf nn,A.find gk gu=some gf->A.get gf=some nn->nn.kind=2->∀dt r k,A.deep 12 tq=some dt->A.isDir k->Below A gf r k->dt+1+(r:Int)<=12) :
 Inv (A.moveR gk gu tq as_ f).2/\Bd (N+1) (A.moveR gk gu tq as_ f).2/\(A.moveR gk gu tq as_ f).2.qi=A.qi/\(A.moveR gk gu tq as_ f).2.qb=A.qb:=by
 rcases aM6 h (gk:=gk) (tq:=tq) (gu:=gu) (as_:=as_) (f:=f)with e|⟨e,h1,h2,h3,h4,gf,h5,h6⟩
 ·rw[e];exact⟨h,hb.mono (by omega),rfl,rfl⟩
 ·rw[e];obtain⟨_,_,_,_,_,nn,ix,_⟩:=h.find h5;obtain⟨a,b,_,_,_,_,_,c⟩:=bZ1 h hb h1 h2 h3 h5 h4 ix (fun _=>h6) (fun hk=>vj gf nn h5 ix hk);exact⟨a,b,c.qi,c.qb⟩
theorem aF6(h:Inv A){gh:Int}{gu:d9}:∀j m,(A.unlinkR gh gu).2.get j=some m->∃m0,A.get j=some m0/\m.kind=m0.kind/\m.up=m0.up/\∀s t,lk s m.gj=some t->lk s m0.gj=some t:=by
 intro j m hm;unfold AT.unlinkR at hm;by_cases he:A.unlinkE gh gu=0
 case neg=>rw[d7 he]at hm;exact⟨m,hm,rfl,rfl,fun _ _ h=>h⟩
 rw[d8 he]at hm;have ent_b:∀j m,(A.ent gh (rm gu)).get j=some m->∃m0,A.get j=some m0/\m.kind=m0.kind/\m.up=m0.up/\∀s t,lk s m.gj=some t->lk s m0.gj=some t:=by
  intro j m hm;unfold AT.ent at hm;cases hd:A.get gh with
  |none=>rw[hd]at hm;exact⟨m,hm,rfl,rfl,fun _ _ h=>h⟩
  |some nd =>
   rw[hd]at hm;simp only at hm;rw[AT.get_set]at hm;by_cases e:j=gh
   ·rw[d8 e]at hm;cases hm;subst e;refine⟨nd,hd,rfl,rfl,fun s t hs=>?_⟩;simp only[ak1 (h.enod j nd hd)]at hs;by_cases e:(s==gu)=true
    ·rw[d8 e]at hs;cases hs
    ·rw[d7 e]at hs;exact hs
   ·rw[d7 e]at hm;exact⟨m,hm,rfl,rfl,fun _ _ h=>h⟩
 have nd1:(C5 (A.ent gh (rm gu)).nodes).Nodup:=by
  unfold AT.ent;cases A.get gh with
  |none=>exact h.nodup
  |some nd=>exact M5 h.nodup
 generalize hX:A.ent gh (rm gu)=X at *;have mod_b:∀i j m,(X.mod i fun n=>{n with links:=wr (n.links-1)}).get j=some m->∃m0,X.get j=some m0/\m.kind=m0.kind/\m.up=m0.up/\m.gj=m0.gj:=by
  intro i j m hm;unfold AT.mod at hm;cases hd:X.get i with
  |none=>rw[hd]at hm;exact⟨m,hm,rfl,rfl,rfl⟩
  |some nd =>
   rw[hd]at hm;simp only at hm;rw[AT.get_set]at hm;by_cases e:j=i
   ·rw[d8 e]at hm;cases hm;subst e;exact⟨nd,hd,rfl,rfl,rfl⟩
   ·rw[d7 e]at hm;exact⟨m,hm,rfl,rfl,rfl⟩
 have nd2:∀i,(C5 (X.mod i fun n=>{n with links:=wr (n.links-1)}).nodes).Nodup:=by
  intro i;unfold AT.mod;cases X.get i with
  |none=>exact nd1
  |some nd=>exact M5 nd1
 have fin:∀i,(X.mod i fun n=>{n with links:=wr (n.links-1)}).get j=some m->∃m0,A.get j=some m0/\m.kind=m0.kind/\m.up=m0.up/\∀s t,lk s m.gj=some t->lk s m0.gj=some t:=by
  intro i hm;obtain⟨m1,a1,a2,a3,a4⟩:=mod_b i j m hm;obtain⟨m0,b1,b2,b3,b4⟩:=ent_b j m1 a1;exact⟨m0,b1,by rw[a2,b2],by rw[a3,b3],fun s t hs=>b4 s t (by rw[<-a4];exact hs)⟩
 unfold AT.unlinked at hm;simp only[hX]at hm;generalize (A.find gh gu).getD 0=i at hm;cases hg:(X.mod i fun n=>{n with links:=wr (n.links-1)}).get i with
 |none=>rw[hg]at hm;exact fin i hm
 |some n =>
  rw[hg]at hm;simp only at hm;cases hz:(n.links==0) with
  |false=>rw[hz]at hm;exact fin i hm
  |true =>
   rw[hz]at hm;have hm:lk j (rm i (X.mod i fun n=>{n with links:=wr (n.links-1)}).nodes)=some m:=hm;rw[ak1 (nd2 i)]at hm;by_cases e:(j==i)=true
   ·rw[d8 e]at hm;cases hm
   ·rw[d7 e]at hm;exact fin i hm
theorem bw7{A':AT}(h:Inv A')(hu:∀k,A'.isDir k->A.upOf k=A'.upOf k){gf:Int}:∀ {r:Nat} {k:Int},A'.isDir k->Below A' gf r k->Below A gf r k:=by
 intro r
 induction r with
 |zero=>intro k _ hb;exact hb
 |succ r ih =>
  intro k hk hb;obtain⟨h1,h2,h3⟩:=hb;refine⟨h1,h2,?_⟩;rw[hu k hk];exact ih (h.isDir_up hk) h3
theorem bL6(h:Inv A){p q:Pl}(hq:A.isDir q.gh)(ho:A.overE p q=0):∀dt r k,A.deep 12 q.gh=some dt->A.isDir p.gf->A.isDir k->Below A p.gf r k->dt+1+(r:Int)<=12:=by
 intro dt r k Bc hp hk hb;obtain⟨x,tc,Be,_⟩:=h.deep13 hq;rw[Bc]at Be;cases Be;obtain⟨d,hd⟩:=h.deep k hk;have hr:=bw6 hb hd;have hdb:=aa0 hd;have hl:=bd9 h r 14 p.gf k hk hp hb (by omega);have key:∀ (e:Int) (c c':Prop) [Decidable c] [Decidable c'],(if e≠0 then e else if c then 2 else if c' then 3 else 0)=(0:Int)->¬c':=by
  intro e c c' _ _ h hc;by_cases he:e≠0
  ·rw[d8 he]at h;exact he h
  ·rw[d7 he]at h;by_cases h2:c
   ·rw[d8 h2]at h;cases h
   ·rw[d7 h2,d8 hc]at h;cases h
 have hn:=key _ _ _ ho;rw[tc]at hn;simp only[Option.getD_some]at hn;omega
structure cr8(N:Nat)(A:AT)(r:Int×AT):Prop where
 inv:Inv r.2
 bd:Bd N r.2
 qi:r.2.qi=A.qi
 qb:r.2.qb=A.qb
theorem bZ2{gb gk tq:d9}(h:(A.both gb gk tq).1=0):(A.locate gb gk false).1=0/\(A.locate gb tq false).1=0/\(A.both gb gk tq).2.1=(A.locate gb gk false).2/\(A.both gb gk tq).2.2=(A.locate gb tq false).2:=by
 unfold AT.both at h⊢;simp only at h⊢;by_cases he:(A.locate gb gk false).1=0
 case neg=>rw[d8 he]at h;exact m7 h he
 rw[d7 (by simpa using he)]at h⊢;exact⟨he,h,rfl,rfl⟩
theorem ay3{N:Nat}(h:Inv A)(hb:Bd N A)(hN:N<4611686018427387904)(gb gk tq:d9):cr8 (N+1) A (A.renameF gb gk tq):=by
 have self:∀e:Int,cr8 (N+1) A (e,A):=fun e=>⟨h,hb.mono (by omega),rfl,rfl⟩;unfold AT.renameF;simp only;by_cases c1:(A.both gb gk tq).1≠0
 ·rw[d8 c1];exact self _
 rw[d7 c1];obtain⟨l1,l2,e1,e2⟩:=bZ2 (A:=A) (gb:=gb) (gk:=gk) (tq:=tq) (by simpa using c1);have P:=K4 h gb gk false l1;have Q:=K4 h gb tq false l2;rw[e1,e2];generalize (A.locate gb gk false).2=p at *;generalize (A.locate gb tq false).2=q at *;by_cases c2:E8 p.gu ⟨⟨[]⟩⟩=true\/E8 q.gu ⟨⟨[]⟩⟩=true
 ·rw[d8 c2];exact self _
 rw[d7 c2];by_cases c3:p.there=false
 ·rw[d8 c3];exact self _
 rw[d7 c3];by_cases c4:q.there=true/\p.gf=q.gf
 ·rw[d8 c4];exact self _
 rw[d7 c4];by_cases c5:A.overE p q≠0
 ·rw[d8 c5];exact self _
 rw[d7 c5];have c5:A.overE p q=0:=by simpa using c5
 have Fa:p.gu≠⟨⟨[]⟩⟩:=fun e=>c2 (.inl (by rw[e];rfl));have xr:p.there=true:=by simpa using c3
 obtain⟨_,ut⟩:=P.named Fa;rw[xr]at ut;simp only[if_true]at ut;have room:=bL6 h Q.1 c5;by_cases c6:q.there=true
 case neg =>
  rw[d7 c6]
  obtain⟨a,b,c,d⟩:=aY0 h hb (gk:=p.gh) (tq:=q.gh) (gu:=p.gu) (as_:=q.gu) (f:=14) (fun gf nn hf hg hk dt r k h1 h2 h3=>by
   rw[ut]at hf;cases hf
   exact room dt r k h1 ⟨nn,hg,hk⟩ h2 h3)
  exact⟨a,b,c,d⟩
 rw[d8 c6];obtain⟨u1,u2,u3,u4,u5⟩:=ap5 h hb hN q.gh q.gu;by_cases c7:(A.unlinkR q.gh q.gu).1≠0
 ·rw[d8 c7];rw[show A.unlinkR q.gh q.gu=((A.unlinkR q.gh q.gu).1,(A.unlinkR q.gh q.gu).2)from rfl,u3 c7];exact self _
 rw[d7 c7];have back:=aF6 h (gh:=q.gh) (gu:=q.gu);generalize (A.unlinkR q.gh q.gu).2=U at *;have hu:∀k,U.isDir k->A.upOf k=U.upOf k:=by
  rintro k ⟨m,hm,_⟩
  obtain⟨m0,b1,_,b3,_⟩:=back k m hm;unfold AT.upOf;rw[hm,b1];simp[b3]
 have im:∀k,U.isDir k->A.isDir k:=by
  rintro k ⟨m,hm,hk⟩
  obtain⟨m0,b1,b2,_⟩:=back k m hm;exact⟨m0,b1,by rw[<-b2];exact hk⟩
 obtain⟨a,b,c,d⟩:=aY0 u1 u2 (gk:=p.gh) (tq:=q.gh) (gu:=p.gu) (as_:=q.gu) (f:=14) (fun gf nn hf hg hk dt r k h1 h2 h3=>by
  have Fb:gf=p.gf:=by
   unfold AT.find at hf;cases hn:U.get p.gh with
   |none=>rw[hn]at hf;cases hf
   |some m =>
    rw[hn]at hf;obtain⟨m0,b1,_,_,b4⟩:=back p.gh m hn;have:=b4 _ _ hf;unfold AT.find at ut;rw[b1]at ut;have ut:lk p.gu m0.gj=some p.gf:=ut;rw[this]at ut;cases ut;rfl
  subst Fb;have zv:U.isDir q.gh:=by
   -- going up needs a directory: else nothing lies there
   apply Classical.byContradiction;intro hc;have hm:(U.moveR p.gh p.gu q.gh q.gu 14)=(U.moveR p.gh p.gu q.gh q.gu 14):=rfl;cases hg:U.get q.gh with
   |none =>
    have:U.upOf q.gh=0:=by unfold AT.upOf;rw[hg];rfl
    have h0:U.get 0=none:=by
     cases h0:U.get 0 with
     |none=>rfl
     |some n=>have:=u1.low 0 n h0;omega
    have hz:U.upOf 0=0:=by unfold AT.upOf;rw[h0];rfl
    have kx:∀f,U.deep f 0=none:=by
     intro f
     induction f with
     |zero=>rfl
     |succ f ih=>unfold AT.deep;rw[d7 (by omega),hz,ih];rfl
    have jx:q.gh≠1:=by
     intro e;rw[e]at hc;exact hc u1.root_dir
    rw[AT.deep,d7 jx,this,kx]at h1;cases h1
   |some n =>
    obtain⟨m0,b1,b2,_⟩:=back q.gh n hg;obtain⟨m1,d1,d2⟩:=Q.1;rw[d1]at b1;cases b1;exact hc ⟨n,hg,by rw[b2];exact d2⟩
  have Bc:A.deep 12 q.gh=some dt:=by
   rw[ah2 u1 hu 12 q.gh zv];exact h1
  exact room dt r k Bc (im _ ⟨nn,hg,hk⟩) (im _ h2) (bw7 u1 hu h2 h3))
 exact⟨a,b,by rw[c,u4],by rw[d,u5]⟩
end
section
structure TS where
 A:AT
 out:d9
 err:d9
 st:Int
 full:Bool
def TS.new(A:AT):TS:=⟨A,⟨⟨[]⟩⟩,⟨⟨[]⟩⟩,0,false⟩
def ak2(nm gu:d9)(e:Int):d9:=nm++⟨⟨[58,32]⟩⟩++gu++⟨⟨[58,32]⟩⟩++aV8 10 e++⟨⟨[10]⟩⟩
def TS.fail(nm:d9)(s:TS)(gu:d9)(e:Int):TS :=
 if e==0 then s else {s with err:=s.err++ak2 nm gu e,st:=if e==10 then 3 else(if s.st<1 then 1 else s.st),full:=s.full||e==10}
def I8(ge:d9)(c:J3):Bool:=ge.data.toList.contains c
def ab3(letters:d9):List d9->d9->Option (d9×List d9)
 | [],ge=>some (ge,[])
 |a::r,ge =>
  if E8 a ⟨⟨[45,45]⟩⟩then some (ge,r)
  else if Nat.ble a.size 1 || !C8 45 a then some (ge,a::r)
  else if(a.data.toList.drop 1).all (I8 letters)then ab3 letters r (ge++⟨⟨a.data.toList.drop 1⟩⟩)
  else none
def H8(p n:d9):d9:=p++⟨⟨[47]⟩⟩++n
def ah6(gc:d9):d9:=⟨⟨ag9 (N4 gc.data.toList)⟩⟩
def ae7(gc:d9):d9 :=
 let p:=aJ0 (N4 gc.data.toList)
 if !p.isEmpty then⟨⟨p⟩⟩else if C8 47 gc then⟨⟨[47]⟩⟩else⟨⟨[46]⟩⟩
def AT.dirB(A:AT)(gb gc:d9):Bool:=let r:=A.stat gb gc true;r.1==0&&r.2.kind==2
def AT.madeF(A:AT)(gb gc:d9):Int×AT :=
 let r:=A.mkdirF gb gc
 if r.1==6&&r.2.dirB gb gc then(0,r.2)else r
def ag2:List J3->List J3->Bool->List (List J3)
 |_,[],_=>[]
 |acc,c::r,s=>if c==47 && !s then acc::ag2 (acc++[c]) r true else ag2 (acc++[c]) r (c==47)
def am0(gc:d9):List d9:=(ag2 [] gc.data.toList true).map fun l=>(⟨⟨l⟩⟩:d9)
def AT.allF(A:AT)(gb:d9):List d9->Int×AT
 | []=>(0,A)
 |p::r=>let x:=A.madeF gb p;if x.1==0 then AT.allF x.2 gb r else x
def av2(s:d9):Option Int :=
 let l:=s.data.toList
 if l.isEmpty||(decide (l.length>3) || !l.all fun c=>Nat.ble 48 c.toNat&&Nat.ble c.toNat 55)then none else some (l.foldl (fun n c=>8*n+(c.toNat-48)) 0:Nat)
def orX(m:Int):Int:=aC0 .or .i64 m 73
def bl1(m:Int):Int:=aC0 .andNot .i64 m 73
def AT.chmodP(A:AT)(gb ii gc:d9):Int×AT:=match av2 ii with
 |some m=>A.chmodF gb gc m
 |none=>let r:=A.stat gb gc true
  if r.1==0 then A.chmodF gb gc (if E8 ii ⟨⟨[45,120]⟩⟩then bl1 r.2.mode else orX r.2.mode)else(r.1,A)
def AT.lnP(A:AT)(gb ge gk tq:d9):Int×AT :=
 let r:=A.stat gb tq false
 let x:=if I8 ge 102&&(r.1==0 && !(r.2.kind==2))then A.removeF gb tq else(0,A)
 if x.1==0 then(if I8 ge 115 then x.2.symlinkF gb gk tq else x.2.hardF gb gk tq)else x
def AT.rmdirP(A:AT)(gb gc:d9):Int×AT :=
 let r:=A.stat gb gc false
 if r.1==0 then(if r.2.kind==2 then A.removeF gb gc else(8,A))else(r.1,A)
def TS.rm(nm gb ge:d9):Nat->TS->d9->Int×TS
 |0,s,_=>(0,s)
 |f+1,s,gc =>
  let r:=s.A.stat gb gc false
  if r.1==5&&I8 ge 102 then(0,s)
  else if !(r.1==0)then(r.1,s)
  else if r.2.kind==2 && !I8 ge 114 then(7,s)
  else
   let t:=if r.2.kind==2 then(s.A.listF gb gc).2.foldl (fun t n=>let x:=TS.rm nm gb ge f t (H8 gc n);x.2.fail nm (H8 gc n) x.1) s else s
   let x:=t.A.removeF gb gc
   (x.1,{t with A:=x.2})
def AT.insideP(A:AT)(gb gk tq:d9):Bool :=
 let a:=A.realF gb gk
 let b:=A.realF gb tq
 let b:=if b.1==0 then b else A.realF gb (ae7 tq)
 a.1==0&&(b.1==0&&(E8 a.2 b.2||(N4 a.2.data.toList++[47]).isPrefixOf b.2.data.toList))
def AT.fileP(A:AT)(gb gk tq:d9)(mode:Int):Int×AT :=
 let th:=(A.stat gb tq true).1
 let s:=A.read gb gk
 let x:=if s.1==0 then A.writeF gb tq s.2 false else(s.1,A)
 if x.1==0 && !(th==0)then x.2.chmodF gb tq mode else x
def TS.cp(nm gb ge:d9):Nat->TS->d9->d9->Int×TS
 |0,s,_,_=>(0,s)
 |f+1,s,gk,tq =>
  let r:=s.A.stat gb gk (!I8 ge 114)
  let put:=fun(x:Int×AT)=>(x.1,({s with A:=x.2}:TS))
  if !(r.1==0)then(r.1,s)
  else if r.2.kind==3 then put (s.A.symlinkF gb r.2.data tq)
  else if r.2.kind==1 then put (s.A.fileP gb gk tq r.2.mode)
  else if !I8 ge 114 then(7,s)
  else if s.A.insideP gb gk tq then(2,s)
  else
   let x:=s.A.madeF gb tq
   if !(x.1==0)then(x.1,{s with A:=x.2})
   else(0,(x.2.listF gb gk).2.foldl (fun t n=>if t.full then t else let y:=TS.cp nm gb ge f t (H8 gk n) (H8 tq n);y.2.fail nm (H8 gk n) y.1) {s with A:=x.2})
def TS.each(nm:d9)(do_:TS->d9->Int×TS):List d9->TS->TS
 | [],s=>s
 |n::r,s=>if s.full then s else let x:=do_ s n;TS.each nm do_ r (x.2.fail nm n x.1)
def onA(s:TS)(x:Int×AT):Int×TS:=(x.1,{s with A:=x.2})
def TS.into(nm gb:d9)(do_:TS->d9->d9->Int×TS)(gd:List d9)(s:TS):TS:=match gd.getLast? with
 |none=>s
 |some tq =>
  let l:=gd.dropLast
  let inn:=s.A.dirB gb tq
  if !inn&&Nat.blt 1 l.length then s.fail nm tq 8
  else TS.each nm (fun t n=>do_ t n (if inn then H8 tq (ah6 n)else tq)) l s
def TS.say(s:TS)(l:d9):TS:={s with out:=s.out++l++⟨⟨[10]⟩⟩ }
def TS.gm(gb ge:d9)(head:Bool)(s:TS)(gc:d9):TS :=
 let s:=if head then s.say (gc++⟨⟨[58]⟩⟩)else s
 (s.A.listF gb gc).2.foldl (fun t n=>if !C8 46 n||I8 ge 97 then t.say n else t) s
def TS.sift(nm gb:d9):List d9->TS->List d9->List d9->TS×List d9×List d9
 | [],s,p,d=>(s,p,d)
 |n::r,s,p,d =>
  if s.full then(s,p,d)
  else if s.A.dirB gb n then TS.sift nm gb r s p (d++[n])
  else
   let e:=(s.A.stat gb n true).1
   let e:=if e==0 then e else(s.A.stat gb n false).1
   TS.sift nm gb r (s.fail nm n e) (if e==0 then p++[n]else p) d
def TS.ls(nm gb ge:d9)(gd:List d9)(s:TS):TS :=
 let gd:=if gd.isEmpty then [⟨⟨[46]⟩⟩]else gd
 let r:=TS.sift nm gb gd s [] []
 let s:=(E7 r.2.1).foldl TS.say r.1
 r.2.2.foldl (TS.gm gb ge (Nat.blt 1 gd.length)) s
def L0(nm ge:d9)(gd:List d9):Bool :=
 let n:=gd.length
 if E8 nm ⟨⟨[108,110]⟩⟩then n==2
 else if E8 nm ⟨⟨[109,118]⟩⟩||E8 nm ⟨⟨[99,112]⟩⟩then Nat.ble 2 n
 else if E8 nm ⟨⟨[99,104,109,111,100]⟩⟩then(match gd with
  |ii::_::_=>(av2 ii).isSome||(E8 ii ⟨⟨[43,120]⟩⟩||E8 ii ⟨⟨[45,120]⟩⟩)
  |_=>false)
 else if E8 nm ⟨⟨[114,109]⟩⟩then Nat.ble 1 n||I8 ge 102
 else if E8 nm ⟨⟨[108,115]⟩⟩then true
 else Nat.ble 1 n
def FU:Nat:=300
def S0(nm:d9):d9 :=
 if E8 nm ⟨⟨[109,107,100,105,114]⟩⟩then⟨⟨[112]⟩⟩
 else if E8 nm ⟨⟨[108,110]⟩⟩then⟨⟨[115,102]⟩⟩
 else if E8 nm ⟨⟨[114,109]⟩⟩then⟨⟨[114,102]⟩⟩
 else if E8 nm ⟨⟨[109,118]⟩⟩then⟨⟨[102]⟩⟩
 else if E8 nm ⟨⟨[99,112]⟩⟩then⟨⟨[114]⟩⟩
 else if E8 nm ⟨⟨[108,115]⟩⟩then⟨⟨[97,49]⟩⟩
 else⟨⟨[]⟩⟩
def doP(A:AT)(nm gb ge:d9)(gd:List d9):TS :=
 let s:=TS.new A
 if E8 nm ⟨⟨[109,107,100,105,114]⟩⟩then TS.each nm (fun t n=>onA t (if I8 ge 112 then t.A.allF gb (am0 n++[n])else t.A.mkdirF gb n)) gd s
 else if E8 nm ⟨⟨[114,109,100,105,114]⟩⟩then TS.each nm (fun t n=>onA t (t.A.rmdirP gb n)) gd s
 else if E8 nm ⟨⟨[116,111,117,99,104]⟩⟩then TS.each nm (fun t n=>onA t (t.A.writeF gb n ⟨⟨[]⟩⟩ true)) gd s
 else if E8 nm ⟨⟨[99,104,109,111,100]⟩⟩then(match gd with
  | []=>s
  |ii::r=>TS.each nm (fun t n=>onA t (t.A.chmodP gb ii n)) r s)
 else if E8 nm ⟨⟨[108,110]⟩⟩then(match gd with
  | []=>s
  |gk::r=>TS.each nm (fun t n=>onA t (t.A.lnP gb ge gk n)) r s)
 else if E8 nm ⟨⟨[114,109]⟩⟩then TS.each nm (fun t n=>TS.rm nm gb ge FU t n) gd s
 else if E8 nm ⟨⟨[109,118]⟩⟩then TS.into nm gb (fun t a b=>onA t (t.A.renameF gb a b)) gd s
 else if E8 nm ⟨⟨[99,112]⟩⟩then TS.into nm gb (fun t a b=>TS.cp nm gb ge FU t a b) gd s
 else TS.ls nm gb ge gd s
def ab7:List d9:=[⟨⟨[109,107,100,105,114]⟩⟩,⟨⟨[114,109,100,105,114]⟩⟩,⟨⟨[116,111,117,99,104]⟩⟩,⟨⟨[99,104,109,111,100]⟩⟩,⟨⟨[108,110]⟩⟩,⟨⟨[114,109]⟩⟩,⟨⟨[109,118]⟩⟩,⟨⟨[99,112]⟩⟩,⟨⟨[108,115]⟩⟩]
def AT.filesP(A:AT)(gb nm:d9)(args:List d9):Option (Dn×AT) :=
 if ab7.any (fun t=>E8 nm t) then
  let bare:=E8 nm ⟨⟨[99,104,109,111,100]⟩⟩&&(match args with
   |a::_=>E8 a ⟨⟨[45,120]⟩⟩
   | []=>false)
  match (if bare then some (⟨⟨[]⟩⟩,args)else ab3 (S0 nm) args ⟨⟨[]⟩⟩) with
  |none=>some (ad4 nm,A)
  |some (ge,gd)=>if L0 nm ge gd then(let s:=doP A nm gb ge gd;some (⟨s.out,s.err,s.st⟩,s.A))else some (ad4 nm,A)
 else none
def Q5(A:AT)(nm:d9)(args:List d9):d9×AT:=match A.filesP ⟨⟨[47]⟩⟩ nm args with
 |none=>(⟨⟨[110,111,110,101]⟩⟩,A)
 |some (d,A')=>(⟨⟨[(48+d.st.toNat).toUInt8]⟩⟩++d.out++d.err,A')
end
section
def Er(e:Int):Prop:=0<=e/\e<=20
theorem W3{p:Prop} [Decidable p] {a b:Int}(ha:Er a)(hb:Er b):Er (if p then a else b):=by split;exact ha;exact hb
theorem aa1:Er 0:=⟨by decide,by decide⟩
theorem ak8:∀ {l:List Int},(∀e∈l,Er e)->Er (N0 l):=by
 intro l
 induction l with
 |nil=>intro _;exact aa1
 |cons e r ih =>
  intro h;unfold N0;exact W3 (ih fun x hx=>h x (E4 _ hx)) (h e (H7 ..))
theorem K3{e:Int}(h:e=0\/e=2\/e=3\/e=5\/e=6\/e=7\/e=8\/e=9\/e=10\/e=20):Er e:=by unfold Er;omega
variable {A:AT}
theorem cw7(p:d9):Er (ab1 p):=by unfold ab1;exact W3 (K3 (by omega)) (W3 (K3 (by omega)) (W3 (K3 (by omega)) aa1))
theorem aR1(p:d9):Er (S3 p):=by unfold S3;exact W3 (K3 (by omega)) (W3 aa1 (K3 (by omega)))
theorem cl3(k m:Int)(d:d9):Er (ac5 k m d):=by unfold ac5;exact W3 aa1 (K3 (by omega))
theorem aF7(d:Int):Er (A.dirE d):=by
 unfold AT.dirE;split;exact K3 (by omega);exact W3 aa1 (K3 (by omega))
theorem bl2(d:Int):Er (A.fileE d):=by
 unfold AT.fileE;split;exact K3 (by omega);exact W3 (K3 (by omega)) (W3 aa1 (K3 (by omega)))
theorem bF8(i n:Int):Er (A.roomE i n):=by unfold AT.roomE;exact W3 aa1 (K3 (by omega))
theorem bZ3{go:Int->d9->Int->Int×Pl×Int}{fo:Bool}(sv:∀d s h,Er (go d s h).1):∀ (l:List d9) (p:Pl) (h:Int),Er (A.steps go fo l p h).1:=by
 intro l
 induction l with
 |nil=>intro p h;exact aa1
 |cons n r ih =>
  intro p h;unfold AT.steps;simp only;by_cases h1:p.there=false
  ·rw[d8 h1];exact K3 (by omega)
  rw[d7 h1];by_cases h2:A.kind p.gf≠2
  ·rw[d8 h2];exact K3 (by omega)
  rw[d7 h2];by_cases h3:E8 n ⟨⟨[46,46]⟩⟩=true
  ·rw[d8 h3];exact ih _ _
  rw[d7 h3];by_cases h4:n.size>56
  ·rw[d8 h4];exact K3 (by omega)
  rw[d7 h4];split
  ·exact ih _ _
  ·split
   ·exact K3 (by omega)
   ·split
    ·exact sv _ _ _
    ·exact ih _ _
theorem be0:∀ (f:Nat) (d:Int) (p:d9) (fo:Bool) (h:Int),Er (A.walk f d p fo h).1:=by
 intro f
 induction f with
 |zero=>intro _ _ _ _;exact K3 (by unfold AT.walk;omega)
 |succ f ih =>
  intro d p fo h;unfold AT.walk;simp only;split
  ·exact cw7 p
  ·exact bZ3 (fun d s h=>ih d s true h) _ _ _
theorem ao7(gb gc:d9)(fo:Bool):Er (A.locate gb gc fo).1:=by
 unfold AT.locate;simp only;split
 ·exact K3 (by omega)
 split
 ·exact be0 _ _ _ _ _
 split
 ·exact K3 (by omega)
 split
 ·exact be0 _ _ _ _ _
 split
 ·exact K3 (by omega)
 split
 ·exact K3 (by omega)
 ·exact be0 _ _ _ _ _
theorem be1(gb gc:d9)(fo:Bool):Er (A.with_ gb gc fo).1:=by
 unfold AT.with_;simp only;split
 ·exact ao7 _ _ _
 split
 ·exact K3 (by omega)
 ·split
  ·exact K3 (by omega)
  ·exact aa1
theorem ad7(gb gc:d9)(fo:Bool):Er (A.stat gb gc fo).1:=be1 gb gc fo
theorem cl4(gb gc:d9):Er (A.read gb gc).1:=by
 unfold AT.read;simp only;split
 ·exact be1 _ _ _
 split
 ·exact K3 (by omega)
 ·exact aa1
theorem bl6(gb gc:d9):Er (A.freshP gb gc).1:=by
 unfold AT.freshP;simp only;split
 ·exact ao7 _ _ _
 split
 ·exact K3 (by omega)
 ·exact aa1
theorem be2(d:Int)(n:d9)(k m:Int)(s:d9):Er (A.makeR d n k m s).2.1:=by
 unfold AT.makeR;split
 ·exact aa1
 ·unfold AT.makeE;refine ak8 fun e he=>?_;simp only[G9,List.not_mem_nil,or_false]at he;rcases he with rfl|rfl|rfl|rfl|rfl|rfl
  ·exact aa1
  ·exact aF7 _
  ·exact aR1 _
  ·exact cl3 _ _ _
  ·exact W3 (K3 (by omega)) aa1
  ·exact bF8 _ _
theorem aF8(gb gc:d9):Er (A.mkdirF gb gc).1:=by
 unfold AT.mkdirF;simp only;split
 ·exact bl6 _ _
 split
 ·exact K3 (by omega)
 ·exact be2 _ _ _ _ _
theorem ap6(gb tq gc:d9):Er (A.symlinkF gb tq gc).1:=by
 unfold AT.symlinkF;simp only;split
 ·exact K3 (by omega)
 split
 ·exact bl6 _ _
 ·exact be2 _ _ _ _ _
theorem bL7(i:Int)(d:d9):Er (A.writeR i d).1:=by
 unfold AT.writeR;split
 ·exact aa1
 ·unfold AT.writeE;refine ak8 fun e he=>?_;simp only[G9,List.not_mem_nil,or_false]at he;rcases he with rfl|rfl|rfl
  ·exact aa1
  ·exact bl2 _
  ·exact bF8 _ _
theorem aF9(gb gc d:d9)(m:Bool):Er (A.writeF gb gc d m).1:=by
 unfold AT.writeF;simp only;split
 ·exact ao7 _ _ _
 split
 ·exact be2 _ _ _ _ _
 split
 ·exact K3 (by omega)
 ·exact bL7 _ _
theorem aR2(gb gc:d9)(m:Int):Er (A.chmodF gb gc m).1:=by
 unfold AT.chmodF;simp only;split
 ·exact K3 (by omega)
 split
 ·exact be1 _ _ _
 ·unfold AT.chmodR;split
  ·exact aa1
  ·unfold AT.chmodE;refine ak8 fun e he=>?_;simp only[G9,List.not_mem_nil,or_false]at he;rcases he with rfl|rfl|rfl
   ·exact aa1
   ·exact W3 aa1 (K3 (by omega))
   ·exact W3 aa1 (K3 (by omega))
theorem aY1(d:Int)(n:d9):Er (A.unlinkR d n).1:=by
 unfold AT.unlinkR;split
 ·exact aa1
 ·unfold AT.unlinkE;refine ak8 fun e he=>?_;simp only[G9,List.not_mem_nil,or_false]at he;rcases he with rfl|rfl|rfl|rfl
  ·exact aa1
  ·exact aF7 _
  ·exact W3 aa1 (K3 (by omega))
  ·exact W3 aa1 (K3 (by omega))
theorem at4(gb gc:d9):Er (A.removeF gb gc).1:=by
 unfold AT.removeF;simp only;split
 ·exact ao7 _ _ _
 split
 ·exact K3 (by omega)
 split
 ·exact K3 (by omega)
 split
 ·exact K3 (by omega)
 ·exact aY1 _ _
theorem bF9(gb gk tq:d9):Er (A.both gb gk tq).1:=by
 unfold AT.both;simp only;split
 ·exact ao7 _ _ _
 ·exact ao7 _ _ _
theorem cl5(d:Int)(n:d9)(i:Int):Er (A.linkR d n i).1:=by
 unfold AT.linkR;split
 ·exact aa1
 ·unfold AT.linkE;refine ak8 fun e he=>?_;simp only[G9,List.not_mem_nil,or_false]at he;rcases he with rfl|rfl|rfl|rfl|rfl
  ·exact aa1
  ·exact aF7 _
  ·exact aR1 _
  ·exact bl2 _
  ·exact W3 (K3 (by omega)) aa1
theorem bG0(gb gk tq:d9):Er (A.hardF gb gk tq).1:=by
 unfold AT.hardF;simp only;split
 ·exact bF9 _ _ _
 split
 ·exact K3 (by omega)
 split
 ·exact K3 (by omega)
 split
 ·exact K3 (by omega)
 split
 ·exact K3 (by omega)
 ·exact cl5 _ _ _
theorem cl6(p q:Pl):Er (A.overE p q):=by
 unfold AT.overE;simp only
 repeat' split
 all_goals first
  |exact aa1
  |exact K3 (by omega)
theorem bG1(s:Int)(n:d9)(t:Int)(a:d9)(f:Nat):Er (A.moveR s n t a f).1:=by
 unfold AT.moveR;simp only;by_cases h:A.moveE1 s n t a≠0\/(s=t/\n=a)
 ·rw[d8 h];show Er (A.moveE1 s n t a);unfold AT.moveE1;refine ak8 fun e he=>?_;simp only[G9,List.not_mem_nil,or_false]at he;rcases he with rfl|rfl|rfl|rfl|rfl
  ·exact aa1
  ·exact aF7 _
  ·exact aF7 _
  ·exact aR1 _
  ·exact W3 aa1 (K3 (by omega))
 ·rw[d7 h,apply_ite Prod.fst];refine W3 (ak8 fun e he=>?_) aa1;simp only[G9,List.not_mem_nil,or_false]at he;rcases he with rfl|rfl
  ·exact W3 (K3 (by omega)) aa1
  ·exact W3 aa1 (K3 (by omega))
theorem aJ1(gb gk tq:d9):Er (A.renameF gb gk tq).1:=by
 unfold AT.renameF;simp only;split
 ·exact bF9 _ _ _
 split
 ·exact K3 (by omega)
 split
 ·exact K3 (by omega)
 split
 ·exact aa1
 split
 ·exact cl6 _ _
 split
 ·split
  ·exact aY1 _ _
  ·exact bG1 _ _ _ _ _
 ·exact bG1 _ _ _ _ _
theorem aO6(gb gc:d9):Er (A.madeF gb gc).1:=by
 unfold AT.madeF;simp only;split
 ·exact aa1
 ·exact aF8 _ _
theorem bw8(gb:d9):∀ (l:List d9) (A:AT),Er (A.allF gb l).1:=by
 intro l
 induction l with
 |nil=>intro _;exact aa1
 |cons p r ih =>
  intro A;unfold AT.allF;simp only;split
  ·exact ih _
  ·exact aO6 _ _
theorem aR3(gb gc:d9):Er (A.rmdirP gb gc).1:=by
 unfold AT.rmdirP;simp only;split
 ·split
  ·exact at4 _ _
  ·exact K3 (by omega)
 ·exact ad7 _ _ _
theorem aJ2(gb ii gc:d9):Er (A.chmodP gb ii gc).1:=by
 unfold AT.chmodP;split
 ·exact aR2 _ _ _
 ·simp only;split
  ·exact aR2 _ _ _
  ·exact ad7 _ _ _
theorem bw9(gb ge gk tq:d9):Er (A.lnP gb ge gk tq).1:=by
 unfold AT.lnP;simp only;by_cases h:I8 ge 102&&((A.stat gb tq false).1==0 && !((A.stat gb tq false).2.kind==2))
 ·rw[d8 h];split
  ·split
   ·exact ap6 _ _ _
   ·exact bG0 _ _ _
  ·exact at4 _ _
 ·rw[d7 h];split
  ·split
   ·exact ap6 _ _ _
   ·exact bG0 _ _ _
  ·exact aa1
theorem be3(gb gk tq:d9)(m:Int):Er (A.fileP gb gk tq m).1:=by
 unfold AT.fileP;simp only;have hx:Er (if(A.read gb gk).1==0 then A.writeF gb tq (A.read gb gk).2 false else((A.read gb gk).1,A)).1:=by
  rw[apply_ite Prod.fst];exact W3 (aF9 _ _ _ _) (cl4 _ _)
 generalize (if(A.read gb gk).1==0 then A.writeF gb tq (A.read gb gk).2 false else((A.read gb gk).1,A))=X at hx⊢;rw[apply_ite Prod.fst];exact W3 (aR2 _ _ _) hx
theorem bZ4(nm gb ge:d9):∀ (f:Nat) (s:TS) (p:d9),Er (TS.rm nm gb ge f s p).1:=by
 intro f s p;cases f with
 |zero=>exact aa1
 |succ f =>
  unfold TS.rm;simp only;split
  ·exact aa1
  split
  ·exact ad7 _ _ _
  split
  ·exact K3 (by omega)
  ·exact at4 _ _
theorem cr9(nm gb ge:d9):∀ (f:Nat) (s:TS) (a b:d9),Er (TS.cp nm gb ge f s a b).1:=by
 intro f s a b;cases f with
 |zero=>exact aa1
 |succ f =>
  unfold TS.cp;simp only;split
  ·exact ad7 _ _ _
  split
  ·exact ap6 _ _ _
  split
  ·exact be3 _ _ _ _
  split
  ·exact K3 (by omega)
  split
  ·exact K3 (by omega)
  split
  ·exact aO6 _ _
  ·exact aa1
theorem aR4{e:Int}(h:Er e):(aV8 10 e).size<=100:=by
 obtain⟨h0,h1⟩:=h;have h:e=0\/e=1\/e=2\/e=3\/e=4\/e=5\/e=6\/e=7\/e=8\/e=9\/e=10\/e=11\/e=12\/e=13\/e=14\/e=15\/e=16\/e=17\/e=18\/e=19\/e=20:=by omega
 rcases h with rfl|rfl|rfl|rfl|rfl|rfl|rfl|rfl|rfl|rfl|rfl|rfl|rfl|rfl|rfl|rfl|rfl|rfl|rfl|rfl|rfl<;>decide +kernel
end
section
structure U4(M:Nat)(A:AT):Prop where
 inv:Inv A
 bd:Bd (M+A.ui.toNat) A
theorem U4.ui{M:Nat}{A:AT}(h:U4 M A):0<=A.ui/\A.ui<=1048576:=by
 have h1:=h.inv.ui;have h2:=h.inv.uq;omega
theorem U4.bd'{M:Nat}{A:AT}(h:U4 M A):Bd (M+1048576) A:=h.bd.mono (by have:=h.ui;omega)
theorem U4.of{N:Nat}{A:AT}(h:Inv A)(hb:Bd N A):U4 N A:=⟨h,hb.mono (by omega)⟩
section
variable {M:Nat} {A:AT}
theorem U4.make(h:U4 M A)(hM:M<=1000000000000){gh:Int}{gu:d9}{kind mode:Int}{data:d9}(hs:data.size<4611686018427387904)(vj:A.isDir gh->kind=2->∃d,A.deep 11 gh=some d):U4 M (A.makeR gh gu kind mode data).2.2:=by
 have hu:=h.ui;obtain⟨h1,h2,_⟩:=bk6 (gh:=gh) (gu:=gu) (kind:=kind) (mode:=mode) (data:=data) h.inv h.bd (by omega) hs vj;by_cases he:A.makeE gh gu kind mode data=0
 ·rw[aO3 he]at h1 h2 ⊢;refine⟨h1,h2.mono ?_⟩;have:(A.made gh gu kind mode data).ui=A.ui+1:=by
   show wr (A.ui+1)=_;exact av9 (by omega) (by omega)
  show M+A.ui.toNat+1<=M+(A.made gh gu kind mode data).ui.toNat
  rw[this];omega
 ·rw[aO4 he];exact h
theorem U4.mkdir(h:U4 M A)(hM:M<=1000000000000)(gb gc:d9):U4 M (A.mkdirF gb gc).2:=by
 unfold AT.mkdirF;simp only;by_cases h1:(A.freshP gb gc).1≠0
 ·rw[d8 h1];exact h
 rw[d7 h1];by_cases h2:(A.deep 13 (A.freshP gb gc).2.gh).getD 0>=12
 ·rw[d8 h2];exact h
 rw[d7 h2];refine h.make hM (by decide) fun hd _=>?_;obtain⟨d,pg,kl,_⟩:=h.inv.deep13 hd;rw[pg]at h2;simp only[Option.getD_some]at h2;exact⟨d,at1 kl 11 (by omega)⟩
theorem U4.symlink(h:U4 M A)(hM:M<=1000000000000)(gb target gc:d9):U4 M (A.symlinkF gb target gc).2:=by
 unfold AT.symlinkF;simp only;cases hl:Z9 target with
 |false=>exact h
 |true =>
  simp only[Bool.true_eq_false,if_false];by_cases h1:(A.freshP gb gc).1≠0
  ·rw[d8 h1];exact h
  rw[d7 h1];refine h.make hM ?_ (fun _ hk=>by cases hk);unfold Z9 at hl;simp only[J4,I6]at hl;omega
theorem bL8(A:AT)(i:Int)(d:d9):(A.writeR i d).2.ui=A.ui:=by
 unfold AT.writeR;split
 ·unfold AT.written;split<;>rfl
 ·rfl
theorem bL9(A:AT)(i m:Int):(A.chmodR i m).2.ui=A.ui:=by
 unfold AT.chmodR;split
 ·unfold AT.chmoded AT.mod;split<;>rfl
 ·rfl
theorem bM0{A:AT}(hI:Inv A)(i:Int):(A.data i).size<=1073741824:=by
 have hq:=hI.bq;unfold AT.data;cases hg:A.get i with
 |none=>decide
 |some n=>have:=hI.size_le hg;show n.data.size<=_;omega
theorem U4.write(h:U4 M A)(hM:M<=1000000000000)(gb gc data:d9)(more:Bool)(hs:data.size<2305843009213693952):U4 M (A.writeF gb gc data more).2:=by
 unfold AT.writeF;simp only;by_cases h1:(A.locate gb gc true).1≠0
 ·rw[d8 h1];exact h
 rw[d7 h1];by_cases h2:(A.locate gb gc true).2.there=false
 ·rw[d8 h2];exact h.make hM (by omega) (fun _ hk=>by cases hk)
 rw[d7 h2];by_cases h3:A.kind (A.locate gb gc true).2.gf=2
 ·rw[d8 h3];exact h
 rw[d7 h3]
 obtain⟨a,b,_⟩:=aX7 h.inv h.bd (A.locate gb gc true).2.gf (if more then A.data (A.locate gb gc true).2.gf++data else data) (by
  have:=bM0 h.inv (A.locate gb gc true).2.gf;cases more with
  |false=>simp only[D2,if_false];omega
  |true=>simp only[if_true,D8];omega)
 exact⟨a,by rw[bL8];exact b⟩
theorem U4.chmod(h:U4 M A)(gb gc:d9)(m:Int):U4 M (A.chmodF gb gc m).2:=by
 unfold AT.chmodF;simp only;split
 ·exact h
 split
 ·exact h
 obtain⟨a,b,_⟩:=aX8 h.inv h.bd (A.with_ gb gc true).2.1 m;exact⟨a,by rw[bL9];exact b⟩
theorem U4.made(h:U4 M A)(hM:M<=1000000000000)(gb gc:d9):U4 M (A.madeF gb gc).2:=by
 unfold AT.madeF;simp only;split<;>exact h.mkdir hM gb gc
theorem U4.all(hM:M<=1000000000000)(gb:d9):∀ (l:List d9) (A:AT),U4 M A->U4 M (A.allF gb l).2:=by
 intro l
 induction l with
 |nil=>intro A h;exact h
 |cons p r ih =>
  intro A h;unfold AT.allF;simp only;split
  ·exact ih _ (h.made hM gb p)
  ·exact h.made hM gb p
theorem aY2{A:AT}(hI:Inv A)(gb p:d9)(fo:Bool):(A.with_ gb p fo).2.2.data.size<=1073741824:=by
 have h0:IN.z.data.size<=1073741824:=by decide
 unfold AT.with_;simp only;split
 ·exact h0
 split
 ·exact h0
 split
 ·exact h0
 ·rename_i n hg;have hq:=hI.bq;have:=hI.size_le hg;show n.data.size<=_;omega
theorem aJ3{A:AT}(hI:Inv A)(gb p:d9):(A.read gb p).2.size<=1073741824:=by
 have h0:(⟨⟨[]⟩⟩:d9).size<=1073741824:=by decide
 unfold AT.read;simp only;split
 ·exact h0
 split
 ·exact h0
 ·exact aY2 hI gb p true
theorem U4.file(h:U4 M A)(hM:M<=1000000000000)(gb gk tq:d9)(m:Int):U4 M (A.fileP gb gk tq m).2:=by
 unfold AT.fileP;simp only;have hx:U4 M (if(A.read gb gk).1==0 then A.writeF gb tq (A.read gb gk).2 false else((A.read gb gk).1,A)).2:=by
  split
  ·exact h.write hM _ _ _ _ (by have:=aJ3 h.inv gb gk;omega)
  ·exact h
 generalize (if(A.read gb gk).1==0 then A.writeF gb tq (A.read gb gk).2 false else((A.read gb gk).1,A))=X at hx⊢;split
 ·exact hx.chmod _ _ _
 ·exact hx
end
theorem N7(nm:d9)(s:TS)(n:d9)(e:Int):(s.fail nm n e).A=s.A:=by unfold TS.fail;split<;>rfl
theorem ap7(nm:d9)(s:TS)(n:d9)(e:Int):(s.fail nm n e).out=s.out:=by unfold TS.fail;split<;>rfl
theorem Q6(nm:d9)(s:TS)(n:d9)(e:Int):s.err.size<=(s.fail nm n e).err.size:=by
 unfold TS.fail;split
 ·exact A7 _
 ·show s.err.size<=(s.err++ak2 nm n e).size;rw[D8];omega
theorem U4.cp{M:Nat}(hM:M<=1000000000000)(nm gb ge:d9):∀ (f:Nat) (s:TS) (a b:d9),U4 M s.A->U4 M (TS.cp nm gb ge f s a b).2.A:=by
 intro f
 induction f with
 |zero=>intro s a b h;exact h
 |succ f ih =>
  intro s a b h;unfold TS.cp;simp only;split
  ·exact h
  split
  ·exact h.symlink hM _ _ _
  split
  ·exact h.file hM _ _ _ _
  split
  ·exact h
  split
  ·exact h
  split
  ·exact h.made hM _ _
  ·have key : ∀ (l : List d9) (t : TS), U4 M t.A -> U4 M (l.foldl (fun t n => if t.full then t else let y := TS.cp nm gb ge f t (H8 a n) (H8 b n); y.2.fail nm (H8 a n) y.1) t).A := by
    intro l
    induction l with
    |nil=>intro t h;exact h
    |cons n r ihl =>
     intro t h;rw[H3];refine ihl _ ?_;split
     ·exact h
     ·simp only[N7];exact ih _ _ _ h
   exact key _ _ (h.made hM _ _)
theorem be4(nm gb ge:d9):∀ (f:Nat) (s:TS) (a b:d9),s.err.size<=(TS.cp nm gb ge f s a b).2.err.size:=by
 intro f
 induction f with
 |zero=>intro s a b;exact A7 _
 |succ f ih =>
  intro s a b;unfold TS.cp;simp only;split
  ·exact A7 _
  split
  ·exact A7 _
  split
  ·exact A7 _
  split
  ·exact A7 _
  split
  ·exact A7 _
  split
  ·exact A7 _
  ·have key : ∀ (l : List d9) (t : TS), t.err.size <= (l.foldl (fun t n => if t.full then t else let y := TS.cp nm gb ge f t (H8 a n) (H8 b n); y.2.fail nm (H8 a n) y.1) t).err.size := by
    intro l
    induction l with
    |nil=>intro t;exact A7 _
    |cons n r ihl =>
     intro t;rw[H3];refine C7 ?_ (ihl _);split
     ·exact A7 _
     ·exact C7 (ih t _ _) (Q6 _ _ _ _)
   exact key _ {s with A:=(s.A.madeF gb b).2}
def J6(nm gb ge gc:d9)(f:Nat)(t:TS)(n:d9):TS:=let x:=TS.rm nm gb ge f t (H8 gc n);x.2.fail nm (H8 gc n) x.1
def N2(nm gb ge a b:d9)(f:Nat)(t:TS)(n:d9):TS:=if t.full then t else let y:=TS.cp nm gb ge f t (H8 a n) (H8 b n);y.2.fail nm (H8 a n) y.1
theorem ay4{N:Nat}(hN:N<4611686018427387904)(nm gb ge:d9):∀ (f:Nat) (s:TS) (p:d9),Inv s.A/\Bd N s.A->Inv (TS.rm nm gb ge f s p).2.A/\Bd N (TS.rm nm gb ge f s p).2.A:=by
 intro f
 induction f with
 |zero=>intro s a h;exact h
 |succ f ih =>
  intro s a h;unfold TS.rm;simp only;split
  ·exact h
  split
  ·exact h
  split
  ·exact h
  ·have key : ∀ (l : List d9) (t : TS), Inv t.A /\ Bd N t.A -> Inv (l.foldl (J6 nm gb ge a f) t).A /\ Bd N (l.foldl (J6 nm gb ge a f) t).A := by
    intro l
    induction l with
    |nil=>intro t h;exact h
    |cons n r ihl =>
     intro t h;rw[H3];refine ihl _ ?_;unfold J6;simp only[N7];exact ih _ _ h
   have q:Inv (if(s.A.stat gb a false).2.kind==2 then(s.A.listF gb a).2.foldl (J6 nm gb ge a f) s else s).A/\Bd N (if(s.A.stat gb a false).2.kind==2 then(s.A.listF gb a).2.foldl (J6 nm gb ge a f) s else s).A:=by
    split
    ·exact key _ _ h
    ·exact h
   have:=ag8 q.1 q.2 hN gb a;exact⟨this.inv,this.bd⟩
theorem bx0(nm gb ge:d9):∀ (f:Nat) (s:TS) (p:d9),s.err.size<=(TS.rm nm gb ge f s p).2.err.size:=by
 intro f
 induction f with
 |zero=>intro s a;exact A7 _
 |succ f ih =>
  intro s a;unfold TS.rm;simp only;split
  ·exact A7 _
  split
  ·exact A7 _
  split
  ·exact A7 _
  ·have key : ∀ (l : List d9) (t : TS), t.err.size <= (l.foldl (J6 nm gb ge a f) t).err.size := by
    intro l
    induction l with
    |nil=>intro t;exact A7 _
    |cons n r ihl =>
     intro t;rw[H3];refine C7 ?_ (ihl _);exact C7 (ih t _) (Q6 _ _ _ _)
   show s.err.size<=(if(s.A.stat gb a false).2.kind==2 then(s.A.listF gb a).2.foldl (J6 nm gb ge a f) s else s).err.size;split
   ·exact key _ _
   ·exact A7 _
theorem aJ4(nm gb ge a:d9)(f:Nat):∀ (l:List d9) (t:TS),t.err.size<=(l.foldl (J6 nm gb ge a f) t).err.size:=by
 intro l
 induction l with
 |nil=>intro t;exact A7 _
 |cons n r ihl =>
  intro t;rw[H3];refine C7 ?_ (ihl _);exact C7 (bx0 nm gb ge f t _) (Q6 _ _ _ _)
theorem aY3(nm gb ge a b:d9)(f:Nat):∀ (l:List d9) (t:TS),t.err.size<=(l.foldl (N2 nm gb ge a b f) t).err.size:=by
 intro l
 induction l with
 |nil=>intro t;exact A7 _
 |cons n r ihl =>
  intro t;rw[H3];refine C7 ?_ (ihl _);unfold N2;split
  ·exact A7 _
  ·exact C7 (be4 nm gb ge f t _ _) (Q6 _ _ _ _)
theorem aG0{nm:d9}{do_:TS->d9->Int×TS}(h:∀t n,t.err.size<=(do_ t n).2.err.size):∀ (l:List d9) (s:TS),s.err.size<=(TS.each nm do_ l s).err.size:=by
 intro l
 induction l with
 |nil=>intro s;exact A7 _
 |cons n r ih =>
  intro s;unfold TS.each;split
  ·exact A7 _
  ·exact C7 (C7 (h s n) (Q6 _ _ _ _)) (ih _)
theorem bl7{A:AT}{f:Nat}{d:Int}{p:d9}{fo:Bool}{h:Int}(hz:(A.walk (f+1) d p fo h).1=0):ab1 p=0:=by
 unfold AT.walk at hz;simp only at hz;by_cases h1:ab1 p≠0
 ·rw[d8 h1]at hz;exact hz
 ·simpa using h1
theorem aD1{A:AT}{gb p:d9}{fo:Bool}(hz:(A.locate gb p fo).1=0):ab1 p=0:=by
 unfold AT.locate at hz;simp only at hz;split at hz
 ·cases hz
 split at hz
 ·exact bl7 hz
 split at hz
 ·cases hz
 split at hz
 ·rename_i h1;exact m7 hz h1
 split at hz
 ·cases hz
 split at hz
 ·cases hz
 ·exact bl7 hz
theorem at5{A:AT}{gb p:d9}{fo:Bool}(hz:(A.stat gb p fo).1=0):ab1 p=0:=by
 have hz:(A.with_ gb p fo).1=0:=hz;unfold AT.with_ at hz;simp only at hz;split at hz
 ·rename_i h1;exact m7 hz h1
 ·rename_i h1;exact aD1 (by simpa using h1)
theorem ah7{p:d9}(h:ab1 p=0):p.size<=255:=by
 unfold ab1 at h;split at h
 ·cases h
 split at h
 ·cases h
 ·omega
theorem ab0(p n:d9):(H8 p n).size=p.size+1+n.size:=by
 unfold H8;rw[D8,D8]
 rfl
end
section
variable {A:AT}
theorem aR5(h:Inv A){d:Int}{s:d9}(hm:s∈A.gd d):∃j,A.find d s=some j:=by
 unfold AT.gd at hm;cases hn:A.get d with
 |none=>rw[hn]at hm;simp at hm
 |some n =>
  rw[hn]at hm;simp only[E7,K0]at hm;obtain⟨l,hl,rfl⟩:=hm;have:=(ae5 _).mem_iff.1 hl;obtain⟨k,hk,rfl⟩:=K0.1 this;show ∃j,A.find d k=some j;unfold AT.find;rw[hn];cases lq:lk k n.gj with
  |some j=>exact⟨j,lq⟩
  |none=>exact m7 hk (M4.1 lq)
end
section
def six:List d9:=[⟨⟨[97]⟩⟩,⟨⟨[98]⟩⟩,⟨⟨[99]⟩⟩,⟨⟨[66]⟩⟩,⟨⟨[97,46,98]⟩⟩,⟨⟨[122]⟩⟩]
def pN:d9:=⟨⟨[112]⟩⟩
def qN:d9:=⟨⟨[113]⟩⟩
def rN:d9:=⟨⟨[114]⟩⟩
structure cF7(k:d9):Prop where
 parts:N1 k=[k]
 may:ab1 k=0
 head:C8 47 k=false
 ne:E8 k ⟨⟨[]⟩⟩=false
 dd:E8 k ⟨⟨[46,46]⟩⟩=false
 sz:k.size<=3
 named:S3 k=0
 mayN:ar0 k=true
theorem bZ5{k:d9}(h:k∈six):cF7 k:=by
 simp only[six,G9,List.mem_nil_iff,or_false]at h;rcases h with rfl|rfl|rfl|rfl|rfl|rfl<;>exact⟨by decide +kernel,by decide +kernel,by decide +kernel,by decide +kernel,by decide +kernel,by decide +kernel,by decide +kernel,by decide +kernel⟩
def fl(data k:d9):AN:=⟨1,420,data++k,1,0,[]⟩
def drN(es:List (d9×Int)):AN:=⟨2,493,⟨⟨[]⟩⟩,1,1,es⟩
def DD(d:Int):Prop:=d=2\/d=3\/d=4
structure ap8(data:d9)(A:AT)(E:Int->List (d9×Int))(m:Nat):Prop where
 inv:Inv A
 bd:Bd (10+m) A
 rt:A.get 1=some ⟨2,493,⟨⟨[]⟩⟩,1,1,[(pN,2),(qN,3),(rN,4)]⟩
 nd:∀d,DD d->A.get d=some (drN (E d))
 he:∀d,DD d->∀k i,lk k (E d)=some i->k∈six/\4<i/\A.get i=some (fl data k)
 dj:∀d d' k k' i,DD d->DD d'->lk k (E d)=some i->lk k' (E d')=some i->d=d'
 qi:A.qi=100
 qb:A.qb=9000
 ui:A.ui<=4+m
 ub:A.ub<=63*m
variable {A:AT} {data:d9} {E:Int->List (d9 × Int)} {m:Nat}
theorem ap8.find(h:ap8 data A E m){d:Int}(hd:DD d)(k:d9):A.find d k=lk k (E d):=by
 unfold AT.find;rw[h.nd d hd];rfl
theorem ap8.kindD(h:ap8 data A E m){d:Int}(hd:DD d):A.kind d=2:=by
 unfold AT.kind;rw[h.nd d hd];rfl
theorem ap8.kindF(h:ap8 data A E m){d:Int}(hd:DD d){k:d9}{i:Int}(hk:lk k (E d)=some i):A.kind i=1:=by
 unfold AT.kind;rw[(h.he d hd k i hk).2.2];rfl
theorem ap8.kind1(h:ap8 data A E m):A.kind 1=2:=by
 unfold AT.kind;rw[h.rt];rfl
theorem bl8{f:Nat}{at_:Int}{s n:d9}{fo:Bool}{x:Int}(h1:ab1 s=0)(h2:N1 s=[n])(h3:E8 n ⟨⟨[46,46]⟩⟩=false)(h4:n.size<=56){a:Int}(ha:(if C8 47 s then 1 else at_)=a)(hk:A.kind a=2)(hc:(A.find a n).isSome=false\/A.kind ((A.find a n).getD 0)≠3) :
 A.walk (f+1) at_ s fo x=(0,⟨a,n,(A.find a n).getD 0,(A.find a n).isSome⟩,x):=by
 rw[AT.walk,d7 (by rw[h1];decide)];simp only[ha,h2];rw[ab5 rfl hk h3 (by omega) (by rcases hc with h|h;exact .inl h;exact .inr (.inr h))]
 rfl
theorem ap8.cond(h:ap8 data A E m){d:Int}(hd:DD d)(k:d9):(A.find d k).isSome=false\/A.kind ((A.find d k).getD 0)≠3:=by
 rw[h.find hd];cases hl:lk k (E d) with
 |none=>exact .inl rfl
 |some i=>refine .inr ?_;show A.kind i≠3;rw[h.kindF hd hl];decide
structure Top(c n:d9)(d:Int):Prop where
 may:ab1 c=0
 parts:N1 c=[n]
 dd:E8 n ⟨⟨[46,46]⟩⟩=false
 sz:n.size<=56
 head:C8 47 c=true
 lk:lk n [(pN,(2:Int)),(qN,3),(rN,4)]=some d
 isD:DD d
theorem ap8.find1(h:ap8 data A E m)(n:d9):A.find 1 n=lk n [(pN,(2:Int)),(qN,3),(rN,4)]:=by
 unfold AT.find;rw[h.rt];rfl
theorem ap8.loc(h:ap8 data A E m){c n:d9}{d:Int}(hc:Top c n d){k:d9}(hk:k∈six):A.locate c k true=(0,⟨d,k,(lk k (E d)).getD 0,(lk k (E d)).isSome⟩):=by
 have s:=bZ5 hk;have hf:A.find 1 n=some d:=by rw[h.find1];exact hc.lk
 have w1:A.walk 10 1 c true 8=(0,⟨1,n,d,true⟩,8):=by
  have:=bl8 (A:=A) (f:=9) (at_:=1) (s:=c) (n:=n) (fo:=true) (x:=8) hc.may hc.parts hc.dd hc.sz (a:=1) (by simp[hc.head]) h.kind1 (.inr (by rw[hf];show A.kind d≠3;rw[h.kindD hc.isD];decide));rw[this,hf];rfl
 have w2:A.walk 10 d k true 8=(0,⟨d,k,(lk k (E d)).getD 0,(lk k (E d)).isSome⟩,8):=by
  have:=bl8 (A:=A) (f:=9) (at_:=d) (s:=k) (n:=k) (fo:=true) (x:=8) s.may s.parts s.dd (by have:=s.sz;omega) (a:=d) (by simp[s.head]) (h.kindD hc.isD) (h.cond hc.isD k);rw[this,h.find hc.isD]
 unfold AT.locate;rw[d7 (by rw[s.ne];decide),d7 (by rw[s.head];decide),d7 (by rw[hc.head];decide)];simp only[w1,w2,ne_eq,not_true_eq_false,if_false,Bool.true_eq_false,h.kindD hc.isD]
theorem ap8.same(h:ap8 data A E m){A':AT}{m':Nat}(hi:Inv A')(hb:Bd (10+m') A')(hg:∀j,A'.get j=A.get j)(q1:A'.qi=A.qi)(q2:A'.qb=A.qb)(u1:A'.ui<=4+m')(u2:A'.ub<=63*m'):ap8 data A' E m' :=
 ⟨hi,hb,by rw[hg];exact h.rt,fun d hd=>by rw[hg];exact h.nd d hd,fun d hd k i hk=>by rw[hg];exact h.he d hd k i hk,h.dj,by rw[q1];exact h.qi,by rw[q2];exact h.qb,u1,u2⟩
theorem ap8.levels(h:ap8 data A E m){d:Int}(hd:DD d){k:d9}{i:Int}(hk:lk k (E d)=some i):A.levels 14 i=0:=by
 rw[AT.levels,d8 (by rw[h.kindF hd hk];decide)]
end
section
theorem I7(l:List d9):(E7 l).Perm l:=by
 unfold E7;have h:=(ae5 (l.map fun s=>s.data.toList)).map fun x=>(⟨⟨x⟩⟩:d9);have e:((l.map fun s=>s.data.toList).map fun x=>(⟨⟨x⟩⟩:d9))=l:=by
  rw[List.map_map]
  conv=>rhs;rw[<-List.map_id l]
  apply List.map_congr_left;intro s _
  rfl
 rw[e]at h;exact h
theorem bZ6{l l':List d9}(h:l.Perm l'):E7 l=E7 l':=by
 unfold E7;have:aQ5 (l.map fun s=>s.data.toList)=aQ5 (l'.map fun s=>s.data.toList):=by
  refine List.Perm.eq_of_pairwise (le:=(· <= ·)) ?_ (af3 _) (af3 _) (((ae5 _).trans (h.map _)).trans (ae5 _).symm);intro a b _ _ h1 h2;exact List.le_antisymm h1 h2
 rw[this]
theorem bZ7{l:List d9}(h:l.Nodup):(E7 l).Pairwise fun a b=>ltB a b=true:=by
 have h1:(E7 l).Pairwise fun a b=>a.data.toList<=b.data.toList:=by
  unfold E7;rw[List.pairwise_map];exact(af3 _).imp fun h=>h
 have h2:(E7 l).Nodup:=(I7 l).nodup_iff.2 h;have h3:=h1.and (show(E7 l).Pairwise (· ≠ ·)from h2);refine h3.imp ?_
 rintro a b ⟨q1,q2⟩
 unfold ltB;cases hb:leB b.data.toList a.data.toList with
 |false=>rfl
 |true =>
  exfalso;apply q2
  exact W9 (List.le_antisymm q1 ((ag6 _ _).1 hb))
def aY4(data k:d9):Tr:=.mk k 1 false (data++k) []
def de5(data:d9)(es:List (d9×Int)):Tr:=.mk ⟨⟨[]⟩⟩ 2 false ⟨⟨[]⟩⟩ ((E7 (C5 es)).map (aY4 data))
theorem bZ8(data:d9):∀ (l:List d9) (prev:Option d9),l.Pairwise (fun a b=>ltB a b=true)->(∀k∈l,bX5 prev k=true/\k∈six)->Tr.mayRow prev (l.map (aY4 data))=true:=by
 intro l
 induction l with
 |nil=>intro _ _ _;rfl
 |cons k r ih =>
  intro prev hp hk;obtain⟨p1,p2⟩:=List.pairwise_cons.1 hp;obtain⟨k1,k2⟩:=hk k (H7 ..);have h1:ar0 (aY4 data k).gu=true:=(bZ5 k2).mayN;have h2:(aY4 data k).may=true:=rfl;have h3:bX5 prev (aY4 data k).gu=true:=k1;have h4:=ih (some k) p2 fun x hx=>⟨p1 x hx,(hk x (E4 _ hx)).2⟩;rw[H5,Tr.mayRow,h1,h2,h3];exact h4
variable {A:AT} {data:d9} {E:Int->List (d9 × Int)} {m:Nat}
theorem ap8.keys(h:ap8 data A E m){d:Int}(hd:DD d):(C5 (E d)).Nodup/\(∀k∈C5 (E d),k∈six/\∃i,lk k (E d)=some i)/\(E d).length<=10+m:=by
 refine⟨h.inv.enod d _ (h.nd d hd),fun k hk=>?_,h.bd.gj d _ (h.nd d hd)⟩;cases hl:lk k (E d) with
 |none=>exact m7 hk (M4.1 hl)
 |some i=>exact⟨(h.he d hd k i hl).1,i,rfl⟩
theorem ap8.may(h:ap8 data A E m){d:Int}(hd:DD d):(de5 data (E d)).may=true:=by
 obtain⟨h1,h2,_⟩:=h.keys hd;have:=bZ8 data (E7 (C5 (E d))) none (bZ7 h1) fun k hk=>⟨rfl,(h2 k ((I7 _).mem_iff.1 hk)).1⟩;rw[Tr.may_eq];show(if(2:Int)=1 then _ else if(2:Int)=3 then _ else if(2:Int)=2 then(!false&&(E8 ⟨⟨[]⟩⟩ ⟨⟨[]⟩⟩&&Tr.mayRow none ((E7 (C5 (E d))).map (aY4 data))))else false)=true;rw[d7 (by decide),d7 (by decide),d8 rfl,this]
 rfl
def o0:AT:=ax1 100 9000
def o1:AT:=(o0.mkdirF ⟨⟨[47]⟩⟩ pN).2
def o2:AT:=(o1.mkdirF ⟨⟨[47]⟩⟩ qN).2
def o3:AT:=(o2.mkdirF ⟨⟨[47]⟩⟩ rN).2
end
end Go.Wk

namespace Go.HL
open Go Go.Wk
theorem H1.putF{Y Y1 Y2:H}{B B1:Nat->Prop}{b:Nat}{o:Obj}(h:H1 Y B Y1 B1)(hp:P1 Y1 b o Y2)(hn:Y b=none):H1 Y B Y2 B1:=by
 intro c oc hc hb;refine⟨hp.get (fun e=>?_) (h c oc hc hb).1,(h c oc hc hb).2⟩;subst e;rw[hn]at hc;cases hc
theorem H1.grR{Y Y1 Y2:H}{B B1:Nat->Prop}(h:H1 Y B Y1 B1)(hg:Gr Y1 Y2):H1 Y B Y2 B1:=fun b o hb hn=>⟨hg.get (h b o hb hn).1,(h b o hb hn).2⟩
theorem aD2{V Y:H}{b:Nat}{o:Obj}(h:Gr V Y)(hb:Y b=some o):Gr V (V.put b o):=ac6 fun c oc hc=>by
 by_cases e:c=b
 ·subst e;have:=h.get hc;rw[hb]at this;cases this;exact H.put_same _ _ _
 ·rw[H.put_other _ _ e];exact hc
end Go.HL
namespace Go.Wk
open Go Go.HL
theorem aG1{s:d9}(h:W1 s):s.data.toList≠[]:=fun e=>h.1 (by cases s with|mk d=>cases d with|mk l=>simp at e;rw[e])
theorem bM1{s:d9}(h:S3 s=0):W1 s/\W2 s:=by
 unfold S3 at h;split at h
 ·cases h
 ·rename_i h1;split at h
  ·rename_i h2;simp only[J4,Bool.not_eq_true']at h2;obtain⟨⟨⟨a,b⟩,c⟩,d⟩:=h2;refine⟨⟨?_,?_,d⟩,?_,by omega⟩
   ·intro e;rw[e]at a;exact m7 a (by decide)
   ·intro e;rw[e]at b;exact m7 b (by decide)
   ·intro e;rw[e]at c;exact m7 c (by decide)
  ·cases h
theorem aY5{A:AT}(hI:Inv A){d:Int}{s:d9}{j:Int}(hf:A.find d s=some j):W1 s/\W2 s/\∃m,A.get j=some m:=by
 obtain⟨n,hn,_,hl,_,m,hm,_⟩:=hI.find hf;obtain⟨a,b⟩:=bM1 (hI.ent d n s j hn hl).1;exact⟨a,b,m,hm⟩
theorem ae8{A:AT}{gb gc:d9}(hI:Inv A){s:d9}(h:s∈(A.listF gb gc).2):W1 s/\W2 s:=by
 unfold AT.listF at h;simp only at h;split at h
 ·cases h
 ·split at h
  ·cases h
  ·obtain⟨j,hj⟩:=aR5 hI h;obtain⟨o1,o2,_⟩:=aY5 hI hj;exact⟨o1,o2⟩
theorem ah8{A:AT}{gb gc:d9}{N:Nat}(hB:Bd N A):(A.listF gb gc).2.length<=N:=by
 unfold AT.listF;simp only;split
 ·exact Nat.zero_le _
 ·split
  ·exact Nat.zero_le _
  ·unfold AT.gd;split
   ·exact Nat.zero_le _
   ·rename_i n hn;have:=hB.gj _ n hn;rw[(I7 _).length_eq,C5,Q0];exact this
theorem bl9{s:d9}(h:s.data.toList≠[]):∃c,s.data.toList[0]?=some c/\C8 46 s=(c==46):=by
 unfold C8;cases hs:s.data.toList with
 |nil=>exact m7 hs h
 |cons c r=>exact⟨c,rfl,rfl⟩
end Go.Wk

