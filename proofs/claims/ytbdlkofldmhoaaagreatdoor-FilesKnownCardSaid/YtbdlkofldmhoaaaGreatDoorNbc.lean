/- A part of the proof: FilesKnown holds. -/
import Derived.Test.YtbdlkofldmhoaaaGreatDoorNbb
import Derived.Lib.ItoaNum
import Derived.Lib.LaidTab
import Derived.Test.YtbdlkofldmhoaaaGreatDoorCards
import Derived.Test.YtbdlkofldmhoaaaGreatDoorTie
import Derived.WalkKit
import Derived.ProofKit
import Derived.OpenShut
import Derived.Deep.DeepHandedRow
import Derived.Deep.DeepLaidRun
import Derived.Shelf.Strings.SlTrimAscii
import Derived.Shelf.LaysM
import Derived.Ground.NamesProg
import Derived.Test.YtbdlkofldmhoaaaGreatDoorProg
set_option maxRecDepth 100000
namespace Go.Wk
open Go Go.HL
def TabC (σ:H) (g:Nat) (k:IntKind) (zs:List Int):Prop := ∃t fz,σ g=some (.cells ⟨zs.map fun z=>Value.int k z⟩ t fz)
theorem TabC.gr {σ σ':H} {g:Nat} {k:IntKind} {zs:List Int} (h:TabC σ g k zs) (hg:Gr σ σ'):TabC σ' g k zs:=by
 obtain⟨t,fz,h⟩:=h;exact⟨t,fz,hg.get h⟩
def dbTab:List Int:=[0,1,56,2,57,49,28,3,61,58,42,50,38,29,17,4,62,47,59,36,45,43,51,22,53,39,33,30,24,18,12,5,63,55,48,27,60,41,37,16,46,35,44,21,52,32,23,11,54,26,40,15,34,20,31,10,25,14,19,9,13,8,7,6]
end Go.Wk

set_option maxRecDepth 100000
namespace Go.Proofs.YtbdlkofldmhoaaaGreatDoor
open Go Go.HL Go.Wk Go.ChangeShapes Go.WideShapes Go.ChangeAt Go.RowKit
theorem own:ownKnob Tryz.prog.godebug=none:=by kernel_rfl
theorem laidOut:laidOutB Tryz.prog=true:=by kernel_rfl
def accCells:Array Value := #[.int .u8 128,.int .u8 191,.int .u8 160,.int .u8 191,.int .u8 128,.int .u8 159,.int .u8 144,.int .u8 191,.int .u8 128,.int .u8 143,.int .u8 0,.int .u8 0,.int .u8 0,.int .u8 0,.int .u8 0,.int .u8 0,.int .u8 0,.int .u8 0,.int .u8 0,.int .u8 0,.int .u8 0,.int .u8 0,.int .u8 0,.int .u8 0,.int .u8 0,.int .u8 0,.int .u8 0,.int .u8 0,.int .u8 0,.int .u8 0,.int .u8 0,.int .u8 0]
def firstCells:Array Value:=⟨Go.Pinned.utf8FirstZ.map fun(n:Nat) => .int .u8 (n:Int)⟩
def db32:List Int:=[0,1,28,2,29,14,24,3,30,22,20,15,25,17,4,8,31,27,13,23,21,19,16,7,26,12,18,6,11,5,10,9]
def intC (k:IntKind) (l:List Int):Array Value:=⟨l.map fun n => .int k n⟩
def setC (cs:Array Value):Obj->Obj
 | .cells _ t frozen => .cells cs t frozen
 | o=>o
def errB (l:List UInt8):Obj := .cells #[.string ⟨⟨l⟩⟩] 251 (0,0)
def errV (b:Nat):Array Value := #[.iface 249 (.pointer (some ⟨b,0,none⟩))]
noncomputable def laidWorld (os:Os):World :=
 let w:=World.holding Tryz.prog os ⟨#[errB [118,97,108,117,101,32,111,117,116,32,111,102,32,114,97,110,103,101],errB [105,110,118,97,108,105,100,32,115,121,110,116,97,120]],#[],[]⟩
 { w with heap:=(((((((w.heap.modify 3 (setC firstCells)).modify 4 (setC accCells)).modify 5 (setC (intC .u64 Lib.pow10Tab))).modify 1 (setC (errV (Tryz.prog.globals.size+6)))).modify 2 (setC (errV (Tryz.prog.globals.size+5)))).modify 6 (setC (intC .u8 db32))).modify 7 (setC (intC .u8 dbTab))) }
end Go.Proofs.YtbdlkofldmhoaaaGreatDoor

namespace Go.Wk
open Go Go.HL
variable {A : AT}
theorem linkE_z {dir:Int} {name:ByteArray} {ino:Int} (he:A.linkE dir name ino=0):A.isDir dir/\namedE name=0/\(∃n,A.get ino=some n/\n.kind=1)/\A.find dir name=none:=by
 unfold AT.linkE at he
 obtain⟨_,he⟩:=AT.firstE_z he
 obtain⟨h1,he⟩:=AT.firstE_z he
 obtain⟨h2,he⟩:=AT.firstE_z he
 obtain⟨h3,he⟩:=AT.firstE_z he
 obtain⟨h4,_⟩:=AT.firstE_z he
 refine⟨AT.dirE_z h1,h2,AT.fileE_z h3,?_⟩
 cases hf:A.find dir name with
 | none=>rfl
 | some j=>rw[hf]at h4;simp at h4
theorem linkR_ok {N:Nat} (h:Inv A) (hb:Bd N A) (hN:N<4611686018427387904) (dir:Int) (name:ByteArray) (ino:Int):Inv (A.linkR dir name ino).2/\Bd (N+1) (A.linkR dir name ino).2/\((A.linkR dir name ino).1≠0->(A.linkR dir name ino).2=A)/\(A.linkR dir name ino).2.qi=A.qi/\(A.linkR dir name ino).2.qb=A.qb:=by
 unfold AT.linkR
 by_cases he:A.linkE dir name ino=0
 case neg=>rw[if_neg he];exact⟨h,hb.mono (by omega),fun _=>rfl,rfl,rfl⟩
 rw[if_pos he]
 obtain⟨⟨nd,hd,hd2⟩,hnm,⟨nn,hnn,hk1⟩,hfn⟩:=linkE_z he
 have hne:ino≠dir:=by intro e;subst e;rw[hd]at hnn;cases hnn;omega
 have hfn':lk name nd.ents=none:=by unfold AT.find at hfn;rw[hd]at hfn;exact hfn
 have hlb:nn.links<=N:=hb.links ino nn hnn
 have hi1:ino≠1:=by
  intro e;subst e
  obtain⟨r,r1,r2,_⟩:=h.root
  rw[hnn]at r1;cases r1;omega
 have hl0:=h.links ino nn hnn hi1
 have wl:wr (nn.links+1)=nn.links+1:=wr_id (by omega) (by omega)
 have e1:A.ent dir (up name ino)=A.set dir { nd with ents:=up name ino nd.ents }:=by unfold AT.ent;rw[hd]
 have g1:(A.set dir { nd with ents:=up name ino nd.ents }).get ino=some nn:=by rw[AT.get_set_ne _ _ hne];exact hnn
 have e2:A.linked dir name ino=(A.set dir { nd with ents:=up name ino nd.ents }).set ino { nn with links:=nn.links+1 }:=by
  unfold AT.linked AT.mod;rw[e1,g1];simp only;rw[wl]
 have hG : ∀j,(A.linked dir name ino).get j=if j=ino then some { nn with links:=nn.links+1 }else if j=dir then some { nd with ents:=up name ino nd.ents }else A.get j:=by
  intro j;rw[e2,AT.get_set,AT.get_set]
 have hsum : ∀f:AN->Nat,sumF f (A.linked dir name ino).nodes+f nd+f nn=sumF f A.nodes+f { nd with ents:=up name ino nd.ents }+f { nn with links:=nn.links+1 }:=by
  intro f
  have q1:=AT.sum_set (A.set dir { nd with ents:=up name ino nd.ents }) f ino { nn with links:=nn.links+1 }
  have q2:=AT.sum_set A f dir { nd with ents:=up name ino nd.ents }
  rw[g1]at q1;rw[hd]at q2
  simp only[Option.map_some,Option.getD_some]at q1 q2
  rw[e2];omega
 have hcE : ∀j,cntE j { nd with ents:=up name ino nd.ents }=cntE j nd+one j ino:=by
  intro j
  have:=sumF_up (one j) name ino nd.ents
  rw[hfn']at this
  simpa[cntE]using this
 have hrefs : ∀j,(A.linked dir name ino).refs j=A.refs j+one j ino:=by
  intro j
  have:=hsum (cntE j)
  rw[hcE j]at this
  have e:cntE j { nn with links:=nn.links+1 }=cntE j nn:=rfl
  unfold AT.refs;omega
 have hcase : ∀j m,(A.linked dir name ino).get j=some m->(j=ino/\m={ nn with links:=nn.links+1 })\/(j=dir/\m={ nd with ents:=up name ino nd.ents })\/(j≠ino/\j≠dir/\A.get j=some m):=by
  intro j m hm
  rw[hG]at hm
  by_cases e:j=ino
  ·rw[if_pos e]at hm;cases hm;exact .inl ⟨e,rfl⟩
  ·rw[if_neg e]at hm
   by_cases e':j=dir
   ·rw[if_pos e']at hm;cases hm;exact .inr (.inl ⟨e',rfl⟩)
   ·rw[if_neg e']at hm;exact .inr (.inr ⟨e,e',hm⟩)
 have hx : ∀j m,A.get j=some m -> ∃m',(A.linked dir name ino).get j=some m'/\m'.kind=m.kind/\m'.up=m.up:=by
  intro j m hm
  rw[hG]
  by_cases e:j=ino
  ·subst e;rw[if_pos rfl];rw[hnn]at hm;cases hm;exact⟨_,rfl,rfl,rfl⟩
  ·rw[if_neg e]
   by_cases e':j=dir
   ·subst e';rw[if_pos rfl];rw[hd]at hm;cases hm;exact⟨_,rfl,rfl,rfl⟩
   ·rw[if_neg e'];exact⟨m,hm,rfl,rfl⟩
 have hupO : ∀k,A.isDir k->(A.linked dir name ino).upOf k=A.upOf k:=by
  rintro k ⟨m,hm,_⟩
  obtain⟨m',q1,_,q3⟩:=hx k m hm
  unfold AT.upOf;rw[hm,q1];simp[q3]
 have hu:(A.linked dir name ino).ui=A.ui/\(A.linked dir name ino).ub=A.ub/\(A.linked dir name ino).qi=A.qi/\(A.linked dir name ino).qb=A.qb/\(A.linked dir name ino).last=A.last:=by rw[e2];exact⟨rfl,rfl,rfl,rfl,rfl⟩
 have hone:one ino ino=1:=by unfold one;simp
 show Inv (A.linked dir name ino)/\Bd (N+1) (A.linked dir name ino)/\((0:Int)≠0->_)/\_/\_
 refine⟨⟨?_,?_,?_,?_,?_,?_,?_,?_,?_,?_,?_,?_,?_⟩,⟨?_,?_,?_⟩,fun h=>absurd rfl h,hu.2.2.1,hu.2.2.2.1⟩
 ·rw[e2];exact nodup_up (nodup_up h.nodup)
 ·intro j m hm
  rcases hcase j m hm with⟨_,rfl⟩ | ⟨_,rfl⟩ | ⟨_,_,hm⟩
  ·exact h.enod ino nn hnn
  ·exact nodup_up (h.enod dir nd hd)
  ·exact h.enod j m hm
 ·obtain⟨r,r1,r2,r3⟩:=h.root
  obtain⟨m',q1,q2,q3⟩:=hx 1 r r1
  exact⟨m',q1,by rw[q2,r2],by rw[q3,r3]⟩
 ·intro j m hm
  rw[hu.2.2.2.2]
  rcases hcase j m hm with⟨rfl,_⟩ | ⟨rfl,_⟩ | ⟨_,_,hm⟩
  ·exact h.low _ nn hnn
  ·exact h.low _ nd hd
  ·exact h.low j m hm
 ·intro j m hm
  rcases hcase j m hm with⟨_,rfl⟩ | ⟨_,rfl⟩ | ⟨_,_,hm⟩
  ·exact h.like ino nn hnn
  ·exact h.like dir nd hd
  ·exact h.like j m hm
 ·intro j m hm hk
  rcases hcase j m hm with⟨_,rfl⟩ | ⟨_,rfl⟩ | ⟨_,_,hm⟩
  ·exact h.file ino nn hnn hk
  ·exact absurd hd2 hk
  ·exact h.file j m hm hk
 ·intro j m s t hm hs
  have fin : ∀t m1,A.get t=some m1->(m1.kind=2->m1.up=j) -> ∃m',(A.linked dir name ino).get t=some m'/\(m'.kind=2->m'.up=j):=by
   intro t m1 a3 a4
   obtain⟨m',b1,b2,b3⟩:=hx t m1 a3
   exact⟨m',b1,fun hk=>by rw[b3];exact a4 (by rw[<-b2];exact hk)⟩
  rcases hcase j m hm with⟨rfl,rfl⟩ | ⟨rfl,rfl⟩ | ⟨_,_,hm⟩
  ·obtain⟨a1,a2,m1,a3,a4⟩:=h.ent j nn s t hnn hs
   exact⟨a1,a2,fin t m1 a3 a4⟩
  ·simp only[lk_up]at hs
   by_cases e:s=name
   ·subst e
    simp at hs;subst hs
    exact⟨hnm,hi1,fin ino nn hnn (fun hk=>by omega)⟩
   ·have e':(s==name)=false:=by simpa using e
    rw[e']at hs
    obtain⟨a1,a2,m1,a3,a4⟩:=h.ent j nd s t hd hs
    exact⟨a1,a2,fin t m1 a3 a4⟩
  ·obtain⟨a1,a2,m1,a3,a4⟩:=h.ent j m s t hm hs
   exact⟨a1,a2,fin t m1 a3 a4⟩
 ·intro j m hm hj
  rw[hrefs]
  rcases hcase j m hm with⟨rfl,rfl⟩ | ⟨rfl,rfl⟩ | ⟨hji,_,hm⟩
  ·rw[hone]
   refine⟨by show nn.links+1=_;omega,by omega,fun hk => ?_⟩
   have hk:nn.kind=2:=hk
   omega
  ·have:one j ino=0:=by unfold one;rw[if_neg hne]
   rw[this];exact h.links j nd hd hj
  ·have:one j ino=0:=by unfold one;rw[if_neg (fun e=>hji e.symm)]
   rw[this];exact h.links j m hm hj
 ·rintro k ⟨m,hm,hk⟩
  have hkd:A.isDir k:=by
   rcases hcase k m hm with⟨rfl,rfl⟩ | ⟨rfl,rfl⟩ | ⟨_,_,hm⟩
   ·have hk:nn.kind=2:=hk
    omega
   ·exact⟨nd,hd,hk⟩
   ·exact⟨m,hm,hk⟩
  rw[deep_same h hupO 12 k hkd];exact h.deep k hkd
 ·have:=hsum (fun _=>1)
  rw[sumF_len,sumF_len]at this
  rw[hu.1,h.ui];omega
 ·have:=hsum (fun n=>n.data.size)
  rw[hu.2.1,h.ub];unfold AT.bytes;simp only at this;omega
 ·rw[hu.1,hu.2.2.1];exact h.uq
 ·rw[hu.2.1,hu.2.2.2.1];exact h.bq
 ·rw[hu.2.2.2.2];have:=hb.last;omega
 ·intro j m hm
  rcases hcase j m hm with⟨_,rfl⟩ | ⟨rfl,rfl⟩ | ⟨_,_,hm⟩
  ·show nn.links+1<=_;omega
  ·have:=hb.links _ nd hd;simp only;omega
  ·have:=hb.links j m hm;omega
 ·intro j m hm
  rcases hcase j m hm with⟨_,rfl⟩ | ⟨rfl,rfl⟩ | ⟨_,_,hm⟩
  ·have:=hb.ents _ nn hnn;simp only;omega
  ·have:=hb.ents _ nd hd
   simp only
   rw[enc_up_new nd.ents name _ hfn'];simp;omega
  ·have:=hb.ents j m hm;omega
theorem hardF_ok {N:Nat} (h:Inv A) (hb:Bd N A) (hN:N<4611686018427387904) (cwd src tq:ByteArray):OpOk (N+1) A (A.hardF cwd src tq):=by
 unfold AT.hardF
 simp only
 split
 ·exact OpOk.self h (hb.mono (by omega)) _
 split
 ·exact OpOk.self h (hb.mono (by omega)) _
 split
 ·exact OpOk.self h (hb.mono (by omega)) _
 split
 ·exact OpOk.self h (hb.mono (by omega)) _
 split
 ·exact OpOk.self h (hb.mono (by omega)) _
 obtain⟨a,b,c,d,e⟩:=linkR_ok h hb hN (A.both cwd src tq).2.2.dir (A.both cwd src tq).2.2.name (A.both cwd src tq).2.1.ino
 exact⟨a,b,c,d,e⟩
def Below (A:AT) (ino:Int):Nat->Int->Prop
 | 0,k=>k=ino
 | r+1,k=>k≠ino/\k≠1/\Below A ino r (A.upOf k)
theorem no_loop (h:Inv A) {k:Int} (hk:A.isDir k) (h1:k≠1):A.upOf k≠k:=by
 intro e
 obtain⟨d,hd⟩:=h.deep k hk
 have : ∀f,A.deep f k=none:=by
  intro f
  induction f with
  | zero=>rfl
  | succ f ih=>unfold AT.deep;rw[if_neg h1,e,ih];rfl
 rw[this]at hd;cases hd
theorem within_some (ino:Int) : ∀ {f:Nat} {d x:Int},A.deep f d=some x -> ∃b,A.within ino f d=some b:=by
 intro f
 induction f with
 | zero=>intro d x h;cases h
 | succ f ih =>
  intro d x h
  unfold AT.deep at h
  unfold AT.within
  by_cases e:d=ino
  ·rw[if_pos e];exact⟨_,rfl⟩
  ·rw[if_neg e]
   by_cases e1:d=1
   ·rw[if_pos e1];exact⟨_,rfl⟩
   ·rw[if_neg e1]at h ⊢
    cases hd:A.deep f (A.upOf d) with
    | none=>rw[hd]at h;cases h
    | some y=>exact ih hd
theorem apart_some (h:Inv A) (ino:Int) : ∀ {f:Nat} {d x:Int},A.isDir d->A.deep f d=some x -> ∃b,A.apart ino f d=some b:=by
 intro f
 induction f with
 | zero=>intro d x _ h;cases h
 | succ f ih =>
  intro d x hdir hd
  unfold AT.deep at hd
  unfold AT.apart
  by_cases e1:d=1
  ·rw[if_pos e1];exact⟨_,rfl⟩
  ·rw[if_neg e1]at hd ⊢
   by_cases e:d=ino
   ·rw[if_pos e];exact⟨_,rfl⟩
   ·rw[if_neg e]
    have hu:=h.isDir_up hdir
    obtain⟨n,hn,_⟩:=hdir
    have hup:A.upOf d=n.up:=by unfold AT.upOf;rw[hn];rfl
    rw[hup]at hd hu
    rw[hn]
    cases hd2:A.deep f n.up with
    | none=>rw[hd2]at hd;cases hd
    | some y=>exact ih hu hd2
theorem apart_not (h:Inv A) {ino:Int} (hi:ino≠1) : ∀ {f:Nat} {d:Int},A.isDir d->A.apart ino f d=some true -> ∀r,¬Below A ino r d:=by
 intro f
 induction f with
 | zero=>intro d _ h;cases h
 | succ f ih =>
  intro d hdir hd r hr
  unfold AT.apart at hd
  by_cases e1:d=1
  ·cases r with
   | zero=>have hr:d=ino:=hr;exact hi (by omega)
   | succ r=>exact hr.2.1 e1
  ·rw[if_neg e1]at hd
   by_cases e:d=ino
   ·rw[if_pos e]at hd;cases hd
   ·rw[if_neg e]at hd
    cases r with
    | zero=>exact e hr
    | succ r =>
     have hu:=h.isDir_up hdir
     obtain⟨n,hn,_⟩:=hdir
     have hup:A.upOf d=n.up:=by unfold AT.upOf;rw[hn];rfl
     rw[hn]at hd
     have hd:A.apart ino f n.up=some true:=hd
     rw[hup]at hu
     have:=hr.2.2
     rw[hup]at this
     exact ih hu hd r this
theorem below_top (h:Inv A) {ino:Int} : ∀ {r:Nat} {k:Int},A.isDir k->Below A ino (r+1) k -> ∃c,A.isDir c/\c≠1/\c≠ino/\A.upOf c=ino/\Below A c r k:=by
 intro r
 induction r with
 | zero=>intro k hk hb;obtain⟨h1,h2,h3⟩:=hb;exact⟨k,hk,h2,h1,h3,rfl⟩
 | succ r ih =>
  intro k hk hb
  obtain⟨h1,h2,h3⟩:=hb
  obtain⟨c,c1,c2,c3,c4,c5⟩:=ih (h.isDir_up hk) h3
  refine⟨c,c1,c2,c3,c4,?_,h2,c5⟩
  intro e;subst e
  exact h3.1 c4
theorem names_of {d:Int} {s:ByteArray} {j:Int} (hf:A.find d s=some j):s∈A.names d:=by
 unfold AT.find at hf
 unfold AT.names
 cases hn:A.get d with
 | none=>rw[hn]at hf;cases hf
 | some n =>
  rw[hn]at hf
  have hf:lk s n.ents=some j:=hf
  have hm:s∈keysL n.ents:=by
   apply Classical.byContradiction
   intro hc
   rw[lk_none_iff.2 hc]at hf;cases hf
  simp only[sortN,List.mem_map]
  refine⟨s.data.toList,(sortB_perm _).mem_iff.2 (List.mem_map.2 ⟨s,hm,rfl⟩),?_⟩
  cases s with | mk d=>cases d;rfl
theorem fold_mx (f:ByteArray->Int) : ∀ (l:List ByteArray) (n:Int),n<=l.foldl (fun n s=>let x:=f s;if x>n then x else n) n /\ ∀s∈l,f s<=l.foldl (fun n s=>let x:=f s;if x>n then x else n) n:=by
 intro l
 induction l with
 | nil=>intro n;exact⟨Int.le_refl _,by simp⟩
 | cons y r ih =>
  intro n
  simp only[List.foldl_cons]
  obtain⟨h1,h2⟩:=ih (if f y>n then f y else n)
  have hg:n<=(if f y>n then f y else n)/\f y<=(if f y>n then f y else n):=by split<;>omega
  simp only at h1 h2 ⊢
  refine⟨by omega,fun x hx => ?_⟩
  rcases List.mem_cons.1 hx with e | e
  ·subst e;omega
  ·exact h2 x e
theorem levels_below (h:Inv A) : ∀ (r:Nat) (f:Nat) (ino k:Int),A.isDir k->A.isDir ino->Below A ino r k->r+1<=f->(r:Int)+1<=A.levels f ino:=by
 intro r
 induction r with
 | zero =>
  intro f ino k _ hi _ hf
  obtain⟨f,rfl⟩ : ∃g,f=g+1:=⟨f - 1,by omega⟩
  unfold AT.levels
  have hk:A.kind ino=2:=dir_kind hi
  rw[if_neg (by omega)]
  have:=(fold_mx (fun s=>A.levels f ((A.find ino s).getD 0)) (A.names ino) 0).1
  simp only at this ⊢;omega
 | succ r ih =>
  intro f ino k hk hi hb hf
  obtain⟨f,rfl⟩ : ∃g,f=g+1:=⟨f - 1,by omega⟩
  obtain⟨c,c1,c2,c3,c4,c5⟩:=below_top h hk hb
  obtain⟨s,hs⟩:=h.named c1 c2
  rw[c4]at hs
  unfold AT.levels
  have hk2:A.kind ino=2:=dir_kind hi
  rw[if_neg (by omega)]
  have h1:=(fold_mx (fun s=>A.levels f ((A.find ino s).getD 0)) (A.names ino) 0).2 s (names_of hs)
  have h2:=ih f c k hk c1 c5 (by omega)
  simp only[hs,Option.getD_some]at h1 ⊢;omega
theorem named_once (h:Inv A) {i k:Int} {n m:AN} {s s':ByteArray} (hn:A.get i=some n) (hm:A.get k=some m) (hk2:m.kind=2) (hk1:k≠1) (h1:lk s n.ents=some k) (h2:lk s' n.ents=some k):s=s':=by
 apply Classical.byContradiction
 intro hne
 have hr:=(h.links k m hm hk1).2.2 hk2
 have a:=sumF_two (f:=one k) (h.enod i n hn) h1 h2 hne
 have b:=sumF_ge (f:=cntE k) (show lk i A.nodes=some n from hn)
 have e:one k k=1:=by unfold one;simp
 rw[e]at a
 unfold AT.refs at hr
 have:sumF (one k) n.ents<=sumF (cntE k) A.nodes:=b
 omega
structure Moved (A:AT) (src:Int) (name:ByteArray) (tq:Int) (as_:ByteArray) (ino:Int) (nn ns nt':AN) (M:AT):Prop where
 get : ∀j,M.get j=if j=ino then some (if nn.kind==2 then { nn with up:=tq }else nn)else if j=tq then some { nt' with ents:=up as_ ino nt'.ents }else if j=src then some { ns with ents:=rm name ns.ents }else A.get j
 ui:M.ui=A.ui
 ub:M.ub=A.ub
 qi:M.qi=A.qi
 qb:M.qb=A.qb
 last:M.last=A.last
theorem moved_ok {N:Nat} (h:Inv A) (hb:Bd N A) {src tq ino:Int} {name as_:ByteArray} {nn:AN} (hs:A.isDir src) (ht:A.isDir tq) (hnm:namedE as_=0) (hf:A.find src name=some ino) (hfr:A.find tq as_=none) (hn:A.get ino=some nn)
 (hnb:nn.kind=2 -> ∀r,¬Below A ino r tq) (hdp:nn.kind=2 -> ∀dt r k,A.deep 12 tq=some dt->A.isDir k->Below A ino r k->dt+1+(r:Int)<=12) :
 Inv (A.moved src name tq as_)/\Bd (N+1) (A.moved src name tq as_) /\ ∃ns nt':AN,A.get src=some ns/\lk as_ nt'.ents=none/\(nt'=if tq=src then { ns with ents:=rm name ns.ents }else(A.get tq).getD nt')/\Moved A src name tq as_ ino nn ns nt' (A.moved src name tq as_):=by
 obtain⟨ns,hns,hns2⟩:=hs
 obtain⟨nt,hnt,hnt2⟩:=ht
 have hlk:lk name ns.ents=some ino:=by unfold AT.find at hf;rw[hns]at hf;exact hf
 have hlt:lk as_ nt.ents=none:=by unfold AT.find at hfr;rw[hnt]at hfr;exact hfr
 obtain⟨_,hi1,nn',hnn',hup⟩:=h.ent src ns name ino hns hlk
 rw[hn]at hnn';cases hnn'
 have hit:ino≠tq:=by
  intro e;subst e
  rw[hn]at hnt;cases hnt
  exact hnb hnt2 0 rfl
 have his:ino≠src:=by
  intro e;subst e
  rw[hn]at hns;cases hns
  have:=no_loop h ⟨nn,hn,hns2⟩ hi1
  unfold AT.upOf at this;rw[hn]at this
  exact this (hup hns2)
 -- the three changes
 have e1:A.ent src (rm name)=A.set src { ns with ents:=rm name ns.ents }:=by unfold AT.ent;rw[hns]
 have hnd:=h.enod src ns hns
 obtain⟨nt',g1,t1,t2,t3,t4,t5,t6,t7,t8,t9,t10⟩ : ∃nt',(A.set src { ns with ents:=rm name ns.ents }).get tq=some nt'/\nt'.kind=nt.kind/\nt'.up=nt.up/\nt'.mode=nt.mode/\nt'.data=nt.data/\nt'.links=nt.links/\(keysL nt'.ents).Nodup/\lk as_ nt'.ents=none/\(∀s j,lk s nt'.ents=some j->lk s nt.ents=some j/\(tq=src->s≠name))/\nt'.ents.length<=nt.ents.length/\(nt'=if tq=src then { ns with ents:=rm name ns.ents }else(A.get tq).getD nt'):=by
  by_cases e:tq=src
  ·subst e
   rw[hns]at hnt;cases hnt
   refine⟨{ ns with ents:=rm name ns.ents },AT.get_set_self _ _ _,rfl,rfl,rfl,rfl,rfl,nodup_rm hnd,?_,?_,rm_sub.length_le,by rw[if_pos rfl]⟩
   ·simp only[lk_rm hnd];split
    ·rfl
    ·exact hlt
   ·intro s j hs
    simp only[lk_rm hnd]at hs
    by_cases e:(s==name)=true
    ·rw[if_pos e]at hs;cases hs
    ·rw[if_neg e]at hs;exact⟨hs,fun _ he=>e (by simpa using he)⟩
  ·refine⟨nt,by rw[AT.get_set_ne _ _ e];exact hnt,rfl,rfl,rfl,rfl,rfl,h.enod tq nt hnt,hlt,fun s j hs=>⟨hs,fun he=>absurd he e⟩,Nat.le_refl _,by rw[if_neg e,hnt];rfl⟩
 have g2:((A.set src { ns with ents:=rm name ns.ents }).set tq { nt' with ents:=up as_ ino nt'.ents }).get ino=some nn:=by
  rw[AT.get_set_ne _ _ hit,AT.get_set_ne _ _ his];exact hn
 have e2:A.moved src name tq as_=((A.set src { ns with ents:=rm name ns.ents }).set tq { nt' with ents:=up as_ ino nt'.ents }).set ino (if nn.kind==2 then { nn with up:=tq }else nn):=by
  unfold AT.moved
  rw[hf]
  simp only[Option.getD_some]
  rw[e1]
  have:(A.set src { ns with ents:=rm name ns.ents }).ent tq (up as_ ino)=(A.set src { ns with ents:=rm name ns.ents }).set tq { nt' with ents:=up as_ ino nt'.ents }:=by unfold AT.ent;rw[g1]
  rw[this]
  unfold AT.mod;rw[g2]
 generalize hM:A.moved src name tq as_=M at *
 have hG : ∀j,M.get j=if j=ino then some (if nn.kind==2 then { nn with up:=tq }else nn)else if j=tq then some { nt' with ents:=up as_ ino nt'.ents }else if j=src then some { ns with ents:=rm name ns.ents }else A.get j:=by
  intro j;rw[e2,AT.get_set,AT.get_set,AT.get_set]
 have hnk : ∀ (P:AN->Prop),P nn->P { nn with up:=tq }->P (if nn.kind==2 then { nn with up:=tq }else nn):=by
  intro P h1 h2;split
  ·exact h2
  ·exact h1
 have hsum : ∀f:AN->Nat,sumF f M.nodes+f nn+f nt'+f ns=sumF f A.nodes+f { ns with ents:=rm name ns.ents }+f { nt' with ents:=up as_ ino nt'.ents }+f (if nn.kind==2 then { nn with up:=tq }else nn):=by
  intro f
  have q1:=AT.sum_set A f src { ns with ents:=rm name ns.ents }
  have q2:=AT.sum_set (A.set src { ns with ents:=rm name ns.ents }) f tq { nt' with ents:=up as_ ino nt'.ents }
  have q3:=AT.sum_set ((A.set src { ns with ents:=rm name ns.ents }).set tq { nt' with ents:=up as_ ino nt'.ents }) f ino (if nn.kind==2 then { nn with up:=tq }else nn)
  rw[hns]at q1;rw[g1]at q2;rw[g2]at q3
  simp only[Option.map_some,Option.getD_some]at q1 q2 q3
  rw[e2];omega
 have hc1 : ∀j,cntE j { ns with ents:=rm name ns.ents }+one j ino=cntE j ns:=by
  intro j
  have:=sumF_rm (one j) name ns.ents
  rw[hlk]at this
  simpa[cntE]using this
 have hc2 : ∀j,cntE j { nt' with ents:=up as_ ino nt'.ents }=cntE j nt'+one j ino:=by
  intro j
  have:=sumF_up (one j) as_ ino nt'.ents
  rw[t7]at this
  simpa[cntE]using this
 have hrefs : ∀j,M.refs j=A.refs j:=by
  intro j
  have q:=hsum (cntE j)
  have e:cntE j (if nn.kind==2 then { nn with up:=tq }else nn)=cntE j nn:=hnk (fun m=>cntE j m=cntE j nn) rfl rfl
  have:=hc1 j
  have:=hc2 j
  unfold AT.refs;omega
 have hx : ∀j m,A.get j=some m -> ∃m',M.get j=some m'/\m'.kind=m.kind/\(j≠ino->m'.up=m.up)/\m'.mode=m.mode/\m'.data=m.data/\m'.links=m.links:=by
  intro j m hm
  rw[hG]
  by_cases a:j=ino
  ·subst a;rw[if_pos rfl];rw[hn]at hm;cases hm
   exact⟨_,rfl,hnk (fun m=>m.kind=nn.kind) rfl rfl,fun h=>absurd rfl h,hnk (fun m=>m.mode=nn.mode) rfl rfl,hnk (fun m=>m.data=nn.data) rfl rfl,hnk (fun m=>m.links=nn.links) rfl rfl⟩
  ·rw[if_neg a]
   by_cases b:j=tq
   ·subst b;rw[if_pos rfl];rw[hnt]at hm;cases hm
    exact⟨_,rfl,t1,fun _=>t2,t3,t4,t5⟩
   ·rw[if_neg b]
    by_cases c:j=src
    ·subst c;rw[if_pos rfl];rw[hns]at hm;cases hm
     exact⟨_,rfl,rfl,fun _=>rfl,rfl,rfl,rfl⟩
    ·rw[if_neg c];exact⟨m,hm,rfl,fun _=>rfl,rfl,rfl,rfl⟩
 have hcase : ∀j m,M.get j=some m->(j=ino/\m=(if nn.kind==2 then { nn with up:=tq }else nn))\/(j=tq/\m={ nt' with ents:=up as_ ino nt'.ents })\/(j=src/\j≠tq/\m={ ns with ents:=rm name ns.ents })\/(j≠ino/\j≠tq/\j≠src/\A.get j=some m):=by
  intro j m hm
  rw[hG]at hm
  by_cases a:j=ino
  ·rw[if_pos a]at hm;cases hm;exact .inl ⟨a,rfl⟩
  ·rw[if_neg a]at hm
   by_cases b:j=tq
   ·rw[if_pos b]at hm;cases hm;exact .inr (.inl ⟨b,rfl⟩)
   ·rw[if_neg b]at hm
    by_cases c:j=src
    ·rw[if_pos c]at hm;cases hm;exact .inr (.inr (.inl ⟨c,b,rfl⟩))
    ·rw[if_neg c]at hm;exact .inr (.inr (.inr ⟨a,b,c,hm⟩))
 have hback : ∀j m,M.get j=some m -> ∃m0,A.get j=some m0/\m.kind=m0.kind/\m.mode=m0.mode/\m.data=m0.data/\m.links=m0.links:=by
  intro j m hm
  have : ∃m0,A.get j=some m0:=by
   rcases hcase j m hm with⟨rfl,_⟩ | ⟨rfl,_⟩ | ⟨rfl,_,_⟩ | ⟨_,_,_,hm⟩
   ·exact⟨_,hn⟩
   ·exact⟨_,hnt⟩
   ·exact⟨_,hns⟩
   ·exact⟨_,hm⟩
  obtain⟨m0,hm0⟩:=this
  obtain⟨m',q1,q2,_,q4,q5,q6⟩:=hx j m0 hm0
  rw[hm]at q1;cases q1
  exact⟨m0,hm0,q2,q4,q5,q6⟩
 have hupO : ∀k,k≠ino->A.isDir k->M.upOf k=A.upOf k:=by
  rintro k hki ⟨m,hm,_⟩
  obtain⟨m',q1,_,q3,_⟩:=hx k m hm
  unfold AT.upOf;rw[hm,q1];simp[q3 hki]
 have hu:M.ui=A.ui/\M.ub=A.ub/\M.qi=A.qi/\M.qb=A.qb/\M.last=A.last:=by rw[e2];exact⟨rfl,rfl,rfl,rfl,rfl⟩
 refine⟨⟨?_,?_,?_,?_,?_,?_,?_,?_,?_,?_,?_,?_,?_⟩,⟨?_,?_,?_⟩,ns,nt',hns,t7,t10,⟨hG,hu.1,hu.2.1,hu.2.2.1,hu.2.2.2.1,hu.2.2.2.2⟩⟩
 ·rw[e2];exact nodup_up (nodup_up (nodup_up h.nodup))
 ·intro j m hm
  rcases hcase j m hm with⟨_,rfl⟩ | ⟨_,rfl⟩ | ⟨_,_,rfl⟩ | ⟨_,_,_,hm⟩
  ·exact hnk (fun m=>(keysL m.ents).Nodup) (h.enod ino nn hn) (h.enod ino nn hn)
  ·exact nodup_up t6
  ·exact nodup_rm hnd
  ·exact h.enod j m hm
 ·obtain⟨r,r1,r2,r3⟩:=h.root
  obtain⟨m',q1,q2,q3,_⟩:=hx 1 r r1
  exact⟨m',q1,by rw[q2,r2],by rw[q3 (fun e=>hi1 e.symm),r3]⟩
 ·intro j m hm
  rw[hu.2.2.2.2]
  obtain⟨m0,q,_⟩:=hback j m hm
  exact h.low j m0 q
 ·intro j m hm
  obtain⟨m0,q,q2,q3,q4,_⟩:=hback j m hm
  rw[q2,q3,q4];exact h.like j m0 q
 ·intro j m hm hk
  rcases hcase j m hm with⟨_,rfl⟩ | ⟨_,rfl⟩ | ⟨_,_,rfl⟩ | ⟨_,_,_,hm⟩
  ·have e:(if nn.kind==2 then { nn with up:=tq }else nn).kind=nn.kind:=hnk (fun m=>m.kind=nn.kind) rfl rfl
   have e':(if nn.kind==2 then { nn with up:=tq }else nn).ents=nn.ents:=hnk (fun m=>m.ents=nn.ents) rfl rfl
   rw[e'] ;rw[e]at hk;exact h.file ino nn hn hk
  ·exact absurd (by show nt'.kind=2;rw[t1];exact hnt2) hk
  ·exact absurd hns2 hk
  ·exact h.file j m hm hk
 ·intro j m s t hm hs
  -- an entry of old
  have old : ∀m1,A.get t=some m1->(m1.kind=2->m1.up=j)->(t=ino->nn.kind=2->False) -> ∃m',M.get t=some m'/\(m'.kind=2->m'.up=j):=by
   intro m1 a3 a4 a5
   obtain⟨m',b1,b2,b3,_⟩:=hx t m1 a3
   refine⟨m',b1,fun hk => ?_⟩
   have hti:t≠ino:=by
    intro e;subst e
    rw[hn]at a3;cases a3
    exact a5 rfl (by rw[<-b2];exact hk)
   rw[b3 hti];exact a4 (by rw[<-b2];exact hk)
  rcases hcase j m hm with⟨rfl,rfl⟩ | ⟨rfl,rfl⟩ | ⟨rfl,hjt,rfl⟩ | ⟨hji,hjt,hjs,hm⟩
  ·have e':(if nn.kind==2 then { nn with up:=tq }else nn).ents=nn.ents:=hnk (fun m=>m.ents=nn.ents) rfl rfl
   rw[e']at hs
   obtain⟨a1,a2,m1,a3,a4⟩:=h.ent j nn s t hn hs
   refine⟨a1,a2,old m1 a3 a4 fun e hk => ?_⟩
   subst e
   rw[hn]at a3;cases a3
   have:=no_loop h ⟨nn,hn,hk⟩ a2
   unfold AT.upOf at this;rw[hn]at this
   exact this (a4 hk)
  ·simp only[lk_up]at hs
   by_cases e:s=as_
   ·subst e
    simp at hs;subst hs
    refine⟨hnm,hi1,_,by rw[hG,if_pos rfl],fun hk => ?_⟩
    have e:(if nn.kind==2 then { nn with up:=j }else nn).kind=nn.kind:=hnk (fun m=>m.kind=nn.kind) rfl rfl
    rw[e]at hk
    have:(nn.kind==2)=true:=by simpa using hk
    rw[this];rfl
   ·have e':(s==as_)=false:=by simpa using e
    rw[e']at hs
    obtain⟨hs',hne⟩:=t8 s t hs
    obtain⟨a1,a2,m1,a3,a4⟩:=h.ent j nt s t hnt hs'
    refine⟨a1,a2,old m1 a3 a4 fun e hk => ?_⟩
    subst e
    rw[hn]at a3;cases a3
    have hjs:j=src:=by rw[<-a4 hk,hup hk]
    have hntns:nt=ns:=by subst hjs;rw[hns]at hnt;cases hnt;rfl
    subst hntns
    exact hne hjs (named_once h hns hn hk hi1 hs' hlk)
  ·simp only[lk_rm hnd]at hs
   by_cases e:(s==name)=true
   ·rw[if_pos e]at hs;cases hs
   ·rw[if_neg e]at hs
    obtain⟨a1,a2,m1,a3,a4⟩:=h.ent j ns s t hns hs
    refine⟨a1,a2,old m1 a3 a4 fun e' hk => ?_⟩
    subst e'
    exact e (by simpa using named_once h hns hn hk hi1 hs hlk)
  ·obtain⟨a1,a2,m1,a3,a4⟩:=h.ent j m s t hm hs
   refine⟨a1,a2,old m1 a3 a4 fun e hk => ?_⟩
   subst e
   rw[hn]at a3;cases a3
   exact hjs (by rw[<-a4 hk,hup hk])
 ·intro j m hm hj
  rw[hrefs]
  obtain⟨m0,q,q2,_,_,q5⟩:=hback j m hm
  rw[q2,q5];exact h.links j m0 q hj
 ·rintro k ⟨m,hm,hk⟩
  obtain⟨m0,q,q2,_⟩:=hback k m hm
  have hkd:A.isDir k:=⟨m0,q,by rw[<-q2];exact hk⟩
  by_cases hnk2:nn.kind=2
  case neg =>
   have hne : ∀k,A.isDir k->k≠ino:=by
    rintro k ⟨m,hm,hk⟩ e;subst e;rw[hn]at hm;cases hm;exact hnk2 hk
   rw[deep_same h (fun k hk=>hupO k (hne k hk) hk) 12 k hkd];exact h.deep k hkd
  have hS : ∀ (f:Nat) (k:Int),(A.isDir k /\ ∀r,¬Below A ino r k)->M.deep f k=A.deep f k :=
   deep_on (S:=fun k=>A.isDir k /\ ∀r,¬Below A ino r k) (fun k hk h1=>⟨h.isDir_up hk.1,fun r hr=>hk.2 (r+1) ⟨fun e=>hk.2 0 e,h1,hr⟩⟩) (fun k hk _=>hupO k (fun e=>hk.2 0 e) hk.1)
  by_cases hbl : ∃r,Below A ino r k
  case neg =>
   rw[hS 12 k ⟨hkd,fun r hr=>hbl ⟨r,hr⟩⟩];exact h.deep k hkd
  obtain⟨r,hr⟩:=hbl
  obtain⟨dt,hdt⟩:=h.deep tq ⟨nt,hnt,hnt2⟩
  have hle:=hdp hnk2 dt r k hdt hkd hr
  have hdb:=deep_bound hdt
  have hD:A.deep dt.toNat tq=some dt:=deep_low hdt _ (by omega)
  have key : ∀ (r:Nat) (k:Int),A.isDir k->Below A ino r k->M.deep (dt.toNat+1+r) k=some (dt+1+r):=by
   intro r
   induction r with
   | zero =>
    intro k hkd hb
    have hb:k=ino:=hb
    subst hb
    have hu':M.upOf k=tq:=by
     unfold AT.upOf;rw[hG,if_pos rfl]
     have:(nn.kind==2)=true:=by simpa using hnk2
     rw[this];rfl
    rw[Nat.add_zero,AT.deep,if_neg hi1,hu',hS _ tq ⟨⟨nt,hnt,hnt2⟩,hnb hnk2⟩,hD]
    simp
   | succ r ih =>
    intro k hkd hb
    obtain⟨b1,b2,b3⟩:=hb
    rw[show dt.toNat+1+(r+1)=(dt.toNat+1+r)+1 by omega,AT.deep,if_neg b2,hupO k b1 hkd,ih _ (h.isDir_up hkd) b3]
    simp;omega
  have:=key r k hkd hr
  exact⟨_,deep_low this 12 (by omega)⟩
 ·have q:=hsum (fun _=>1)
  rw[sumF_len,sumF_len]at q
  rw[hu.1,h.ui];omega
 ·have q:=hsum (fun n=>n.data.size)
  have e:(if nn.kind==2 then { nn with up:=tq }else nn).data=nn.data:=hnk (fun m=>m.data=nn.data) rfl rfl
  rw[hu.2.1,h.ub];unfold AT.bytes;simp only[e]at q;omega
 ·rw[hu.1,hu.2.2.1];exact h.uq
 ·rw[hu.2.1,hu.2.2.2.1];exact h.bq
 ·rw[hu.2.2.2.2];have:=hb.last;omega
 ·intro j m hm
  obtain⟨m0,q,_,_,_,q5⟩:=hback j m hm
  have:=hb.links j m0 q
  omega
 ·intro j m hm
  rcases hcase j m hm with⟨_,rfl⟩ | ⟨_,rfl⟩ | ⟨_,_,rfl⟩ | ⟨_,_,_,hm⟩
  ·have e':(if nn.kind==2 then { nn with up:=tq }else nn).ents=nn.ents:=hnk (fun m=>m.ents=nn.ents) rfl rfl
   rw[e'];have:=hb.ents _ nn hn;omega
  ·have:=hb.ents _ nt hnt
   simp only
   rw[enc_up_new nt'.ents as_ _ t7];simp;omega
  ·have:=hb.ents _ ns hns
   have:=(rm_sub (k:=name) (l:=ns.ents)).length_le
   simp only;omega
  ·have:=hb.ents j m hm;omega
end Go.Wk

namespace Go.Wk
open Go Go.HL
end Go.Wk
namespace Go.Wk
open Go Go.HL
end Go.Wk

namespace Go.Wk
open Go Go.HL
variable {A : AT}
theorem below_deep {ino:Int} : ∀ {r f:Nat} {k d:Int},Below A ino r k->A.deep f k=some d->(r:Int)<d:=by
 intro r
 induction r with
 | zero=>intro f k d _ hd;have:=deep_bound hd;omega
 | succ r ih =>
  intro f k d hb hd
  obtain⟨h1,h2,h3⟩:=hb
  cases f with
  | zero=>cases hd
  | succ f =>
   unfold AT.deep at hd
   rw[if_neg h2]at hd
   cases he:A.deep f (A.upOf k) with
   | none=>rw[he]at hd;cases hd
   | some x =>
    rw[he]at hd
    simp only[Option.map_some,Option.some.injEq]at hd
    have:=ih h3 he
    omega
theorem moveE1_z {src tq:Int} {name as_:ByteArray} (he:A.moveE1 src name tq as_=0):A.isDir src/\A.isDir tq/\namedE as_=0 /\ ∃j,A.find src name=some j:=by
 unfold AT.moveE1 at he
 obtain⟨_,he⟩:=AT.firstE_z he
 obtain⟨h1,he⟩:=AT.firstE_z he
 obtain⟨h2,he⟩:=AT.firstE_z he
 obtain⟨h3,he⟩:=AT.firstE_z he
 obtain⟨h4,_⟩:=AT.firstE_z he
 refine⟨AT.dirE_z h1,AT.dirE_z h2,h3,?_⟩
 cases hf:A.find src name with
 | none=>rw[hf]at h4;simp at h4
 | some j=>exact⟨j,rfl⟩
theorem moveR_cases (h:Inv A) {src tq:Int} {name as_:ByteArray} {f:Nat}:(A.moveR src name tq as_ f).2=A\/((A.moveR src name tq as_ f)=(0,A.moved src name tq as_)/\A.isDir src/\A.isDir tq/\namedE as_=0/\A.find tq as_=none /\ ∃ino,A.find src name=some ino /\ ∀r,¬Below A ino r tq):=by
 unfold AT.moveR
 by_cases c1:A.moveE1 src name tq as_≠0\/(src=tq/\name=as_)
 ·rw[if_pos c1];exact .inl rfl
 rw[if_neg c1]
 simp only
 by_cases c2:firstE [if(A.find tq as_).isSome then 6 else 0,if(A.apart ((A.find src name).getD 0) f tq).getD false then 0 else 2]≠0
 ·rw[if_pos c2];exact .inl rfl
 rw[if_neg c2]
 refine .inr ⟨rfl,?_⟩
 obtain⟨h1,h2,h3,ino,h4⟩:=moveE1_z (A:=A) (src:=src) (tq:=tq) (name:=name) (as_:=as_) (by
  apply Classical.byContradiction
  intro hc;exact c1 (.inl hc))
 obtain⟨q1,q2⟩:=AT.firstE_z (show firstE _=0 by simpa using c2)
 obtain⟨q2,_⟩:=AT.firstE_z q2
 obtain⟨_,_,_,_,hi1,_⟩:=h.find h4
 refine⟨h1,h2,h3,?_,ino,h4,?_⟩
 ·cases hf:A.find tq as_ with
  | none=>rfl
  | some j=>rw[hf]at q1;simp at q1
 ·have hino:(A.find src name).getD 0=ino:=by rw[h4];rfl
  simp only[hino]at q2
  by_cases hb:(A.apart ino f tq).getD false=true
  ·cases ha:A.apart ino f tq with
   | none=>rw[ha]at hb;cases hb
   | some b =>
    rw[ha]at hb
    have hb:b=true:=hb
    subst hb
    exact apart_not h hi1 h2 ha
  ·rw[if_neg hb]at q2;cases q2
theorem moveR_inv {N:Nat} (h:Inv A) (hb:Bd N A) {src tq:Int} {name as_:ByteArray} {f:Nat} (hdp:∀ino nn,A.find src name=some ino->A.get ino=some nn->nn.kind=2 -> ∀dt r k,A.deep 12 tq=some dt->A.isDir k->Below A ino r k->dt+1+(r:Int)<=12) :
 Inv (A.moveR src name tq as_ f).2/\Bd (N+1) (A.moveR src name tq as_ f).2/\(A.moveR src name tq as_ f).2.qi=A.qi/\(A.moveR src name tq as_ f).2.qb=A.qb:=by
 rcases moveR_cases h (src:=src) (tq:=tq) (name:=name) (as_:=as_) (f:=f)with e | ⟨e,h1,h2,h3,h4,ino,h5,h6⟩
 ·rw[e];exact⟨h,hb.mono (by omega),rfl,rfl⟩
 ·rw[e]
  obtain⟨_,_,_,_,_,nn,hnn,_⟩:=h.find h5
  obtain⟨a,b,_,_,_,_,_,c⟩:=moved_ok h hb h1 h2 h3 h5 h4 hnn (fun _=>h6) (fun hk=>hdp ino nn h5 hnn hk)
  exact⟨a,b,c.qi,c.qb⟩
theorem unlinkR_back (h:Inv A) {dir:Int} {name:ByteArray} : ∀j m,(A.unlinkR dir name).2.get j=some m -> ∃m0,A.get j=some m0/\m.kind=m0.kind/\m.up=m0.up /\ ∀s t,lk s m.ents=some t->lk s m0.ents=some t:=by
 intro j m hm
 unfold AT.unlinkR at hm
 by_cases he:A.unlinkE dir name=0
 case neg=>rw[if_neg he]at hm;exact⟨m,hm,rfl,rfl,fun _ _ h=>h⟩
 rw[if_pos he]at hm
 have ent_b : ∀j m,(A.ent dir (rm name)).get j=some m -> ∃m0,A.get j=some m0/\m.kind=m0.kind/\m.up=m0.up /\ ∀s t,lk s m.ents=some t->lk s m0.ents=some t:=by
  intro j m hm
  unfold AT.ent at hm
  cases hd:A.get dir with
  | none=>rw[hd]at hm;exact⟨m,hm,rfl,rfl,fun _ _ h=>h⟩
  | some nd =>
   rw[hd]at hm
   simp only at hm
   rw[AT.get_set]at hm
   by_cases e:j=dir
   ·rw[if_pos e]at hm;cases hm;subst e
    refine⟨nd,hd,rfl,rfl,fun s t hs => ?_⟩
    simp only[lk_rm (h.enod j nd hd)]at hs
    by_cases e:(s==name)=true
    ·rw[if_pos e]at hs;cases hs
    ·rw[if_neg e]at hs;exact hs
   ·rw[if_neg e]at hm;exact⟨m,hm,rfl,rfl,fun _ _ h=>h⟩
 have nd1:(keysL (A.ent dir (rm name)).nodes).Nodup:=by
  unfold AT.ent
  cases A.get dir with
  | none=>exact h.nodup
  | some nd=>exact nodup_up h.nodup
 generalize hX:A.ent dir (rm name)=X at *
 have mod_b : ∀i j m,(X.mod i fun n=>{ n with links:=wr (n.links - 1) }).get j=some m -> ∃m0,X.get j=some m0/\m.kind=m0.kind/\m.up=m0.up/\m.ents=m0.ents:=by
  intro i j m hm
  unfold AT.mod at hm
  cases hd:X.get i with
  | none=>rw[hd]at hm;exact⟨m,hm,rfl,rfl,rfl⟩
  | some nd =>
   rw[hd]at hm
   simp only at hm
   rw[AT.get_set]at hm
   by_cases e:j=i
   ·rw[if_pos e]at hm;cases hm;subst e;exact⟨nd,hd,rfl,rfl,rfl⟩
   ·rw[if_neg e]at hm;exact⟨m,hm,rfl,rfl,rfl⟩
 have nd2 : ∀i,(keysL (X.mod i fun n=>{ n with links:=wr (n.links - 1) }).nodes).Nodup:=by
  intro i
  unfold AT.mod
  cases X.get i with
  | none=>exact nd1
  | some nd=>exact nodup_up nd1
 have fin : ∀i,(X.mod i fun n=>{ n with links:=wr (n.links - 1) }).get j=some m -> ∃m0,A.get j=some m0/\m.kind=m0.kind/\m.up=m0.up /\ ∀s t,lk s m.ents=some t->lk s m0.ents=some t:=by
  intro i hm
  obtain⟨m1,a1,a2,a3,a4⟩:=mod_b i j m hm
  obtain⟨m0,b1,b2,b3,b4⟩:=ent_b j m1 a1
  exact⟨m0,b1,by rw[a2,b2],by rw[a3,b3],fun s t hs=>b4 s t (by rw[<-a4];exact hs)⟩
 unfold AT.unlinked at hm
 simp only[hX]at hm
 generalize (A.find dir name).getD 0=i at hm
 cases hg:(X.mod i fun n=>{ n with links:=wr (n.links - 1) }).get i with
 | none=>rw[hg]at hm;exact fin i hm
 | some n =>
  rw[hg]at hm
  simp only at hm
  cases hz:(n.links==0) with
  | false=>rw[hz]at hm;exact fin i hm
  | true =>
   rw[hz]at hm
   have hm:lk j (rm i (X.mod i fun n=>{ n with links:=wr (n.links - 1) }).nodes)=some m:=hm
   rw[lk_rm (nd2 i)]at hm
   by_cases e:(j==i)=true
   ·rw[if_pos e]at hm;cases hm
   ·rw[if_neg e]at hm;exact fin i hm
theorem below_same {A':AT} (h:Inv A') (hu:∀k,A'.isDir k->A.upOf k=A'.upOf k) {ino:Int} : ∀ {r:Nat} {k:Int},A'.isDir k->Below A' ino r k->Below A ino r k:=by
 intro r
 induction r with
 | zero=>intro k _ hb;exact hb
 | succ r ih =>
  intro k hk hb
  obtain⟨h1,h2,h3⟩:=hb
  refine⟨h1,h2,?_⟩
  rw[hu k hk]
  exact ih (h.isDir_up hk) h3
theorem over_room (h:Inv A) {p q:Pl} (hq:A.isDir q.dir) (ho:A.overE p q=0) : ∀dt r k,A.deep 12 q.dir=some dt->A.isDir p.ino->A.isDir k->Below A p.ino r k->dt+1+(r:Int)<=12:=by
 intro dt r k hdt hp hk hb
 obtain⟨x,hx13,hx12,_⟩:=h.deep13 hq
 rw[hdt]at hx12;cases hx12
 obtain⟨d,hd⟩:=h.deep k hk
 have hr:=below_deep hb hd
 have hdb:=deep_bound hd
 have hl:=levels_below h r 14 p.ino k hk hp hb (by omega)
 have key : ∀ (e:Int) (c c':Prop) [Decidable c] [Decidable c'],(if e≠0 then e else if c then 2 else if c' then 3 else 0)=(0:Int) -> ¬c':=by
  intro e c c' _ _ h hc
  by_cases he:e≠0
  ·rw[if_pos he]at h;exact he h
  ·rw[if_neg he]at h
   by_cases h2:c
   ·rw[if_pos h2]at h;cases h
   ·rw[if_neg h2,if_pos hc]at h;cases h
 have hn:=key _ _ _ ho
 rw[hx13]at hn
 simp only[Option.getD_some]at hn
 omega
structure OpInv (N:Nat) (A:AT) (r:Int×AT):Prop where
 inv:Inv r.2
 bd:Bd N r.2
 qi:r.2.qi=A.qi
 qb:r.2.qb=A.qb
theorem both_z {cwd src tq:ByteArray} (h:(A.both cwd src tq).1=0):(A.locate cwd src false).1=0/\(A.locate cwd tq false).1=0/\(A.both cwd src tq).2.1=(A.locate cwd src false).2/\(A.both cwd src tq).2.2=(A.locate cwd tq false).2:=by
 unfold AT.both at h ⊢
 simp only at h ⊢
 by_cases he:(A.locate cwd src false).1=0
 case neg=>rw[if_pos he]at h;exact absurd h he
 rw[if_neg (by simpa using he)]at h ⊢
 exact⟨he,h,rfl,rfl⟩
theorem renameF_inv {N:Nat} (h:Inv A) (hb:Bd N A) (hN:N<4611686018427387904) (cwd src tq:ByteArray):OpInv (N+1) A (A.renameF cwd src tq):=by
 have self : ∀e:Int,OpInv (N+1) A (e,A):=fun e=>⟨h,hb.mono (by omega),rfl,rfl⟩
 unfold AT.renameF
 simp only
 by_cases c1:(A.both cwd src tq).1≠0
 ·rw[if_pos c1];exact self _
 rw[if_neg c1]
 obtain⟨l1,l2,e1,e2⟩:=both_z (A:=A) (cwd:=cwd) (src:=src) (tq:=tq) (by simpa using c1)
 have P:=locate_place h cwd src false l1
 have Q:=locate_place h cwd tq false l2
 rw[e1,e2]
 generalize (A.locate cwd src false).2=p at *
 generalize (A.locate cwd tq false).2=q at *
 by_cases c2:sEq p.name ⟨⟨[]⟩⟩=true\/sEq q.name ⟨⟨[]⟩⟩=true
 ·rw[if_pos c2];exact self _
 rw[if_neg c2]
 by_cases c3:p.there=false
 ·rw[if_pos c3];exact self _
 rw[if_neg c3]
 by_cases c4:q.there=true/\p.ino=q.ino
 ·rw[if_pos c4];exact self _
 rw[if_neg c4]
 by_cases c5:A.overE p q≠0
 ·rw[if_pos c5];exact self _
 rw[if_neg c5]
 have c5:A.overE p q=0:=by simpa using c5
 have hpn:p.name≠⟨⟨[]⟩⟩:=fun e=>c2 (.inl (by rw[e];rfl))
 have hpt:p.there=true:=by simpa using c3
 obtain⟨_,hpf⟩:=P.named hpn
 rw[hpt]at hpf
 simp only[if_true]at hpf
 have room:=over_room h Q.1 c5
 by_cases c6:q.there=true
 case neg =>
  rw[if_neg c6]
  obtain⟨a,b,c,d⟩:=moveR_inv h hb (src:=p.dir) (tq:=q.dir) (name:=p.name) (as_:=q.name) (f:=14) (fun ino nn hf hg hk dt r k h1 h2 h3=>by
   rw[hpf]at hf;cases hf
   exact room dt r k h1 ⟨nn,hg,hk⟩ h2 h3)
  exact⟨a,b,c,d⟩
 rw[if_pos c6]
 obtain⟨u1,u2,u3,u4,u5⟩:=unlinkR_ok h hb hN q.dir q.name
 by_cases c7:(A.unlinkR q.dir q.name).1≠0
 ·rw[if_pos c7];rw[show A.unlinkR q.dir q.name=((A.unlinkR q.dir q.name).1,(A.unlinkR q.dir q.name).2)from rfl,u3 c7];exact self _
 rw[if_neg c7]
 have back:=unlinkR_back h (dir:=q.dir) (name:=q.name)
 generalize (A.unlinkR q.dir q.name).2=U at *
 have hu : ∀k,U.isDir k->A.upOf k=U.upOf k:=by
  rintro k ⟨m,hm,_⟩
  obtain⟨m0,b1,_,b3,_⟩:=back k m hm
  unfold AT.upOf;rw[hm,b1];simp[b3]
 have hdir : ∀k,U.isDir k->A.isDir k:=by
  rintro k ⟨m,hm,hk⟩
  obtain⟨m0,b1,b2,_⟩:=back k m hm
  exact⟨m0,b1,by rw[<-b2];exact hk⟩
 obtain⟨a,b,c,d⟩:=moveR_inv u1 u2 (src:=p.dir) (tq:=q.dir) (name:=p.name) (as_:=q.name) (f:=14) (fun ino nn hf hg hk dt r k h1 h2 h3=>by
  have hfa:ino=p.ino:=by
   unfold AT.find at hf
   cases hn:U.get p.dir with
   | none=>rw[hn]at hf;cases hf
   | some m =>
    rw[hn]at hf
    obtain⟨m0,b1,_,_,b4⟩:=back p.dir m hn
    have:=b4 _ _ hf
    unfold AT.find at hpf
    rw[b1]at hpf
    have hpf:lk p.name m0.ents=some p.ino:=hpf
    rw[this]at hpf;cases hpf;rfl
  subst hfa
  have hqd:U.isDir q.dir:=by
   -- going up needs a directory: else nothing lies there
   apply Classical.byContradiction
   intro hc
   have hm:(U.moveR p.dir p.name q.dir q.name 14)=(U.moveR p.dir p.name q.dir q.name 14):=rfl
   cases hg:U.get q.dir with
   | none =>
    have:U.upOf q.dir=0:=by unfold AT.upOf;rw[hg];rfl
    have h0:U.get 0=none:=by
     cases h0:U.get 0 with
     | none=>rfl
     | some n=>have:=u1.low 0 n h0;omega
    have hz:U.upOf 0=0:=by unfold AT.upOf;rw[h0];rfl
    have hz2 : ∀f,U.deep f 0=none:=by
     intro f
     induction f with
     | zero=>rfl
     | succ f ih=>unfold AT.deep;rw[if_neg (by omega),hz,ih];rfl
    have h11:q.dir≠1:=by
     intro e;rw[e]at hc;exact hc u1.root_dir
    rw[AT.deep,if_neg h11,this,hz2]at h1;cases h1
   | some n =>
    obtain⟨m0,b1,b2,_⟩:=back q.dir n hg
    obtain⟨m1,d1,d2⟩:=Q.1
    rw[d1]at b1;cases b1
    exact hc ⟨n,hg,by rw[b2];exact d2⟩
  have hdt:A.deep 12 q.dir=some dt:=by
   rw[deep_same u1 hu 12 q.dir hqd];exact h1
  exact room dt r k hdt (hdir _ ⟨nn,hg,hk⟩) (hdir _ h2) (below_same u1 hu h2 h3))
 exact⟨a,b,by rw[c,u4],by rw[d,u5]⟩
end Go.Wk

set_option maxRecDepth 100000
namespace Go.Proofs.YtbdlkofldmhoaaaGreatDoor
open Go Go.HL Go.Wk
attribute [local irreducible] ptrW ifW brW andW rdT alW letJ stW muW biW vaW imW callT cvalT app callW invW callVW sizeT oW nilF oneK loopW rfW funW begW roundK exW idxW Gr Put
theorem levels_le (A:AT) : ∀ (f:Nat) (i:Int),0<=A.levels f i/\A.levels f i<=f:=by
 intro f
 induction f with
 | zero=>intro i;simp[AT.levels]
 | succ f ih =>
  intro i
  unfold AT.levels
  by_cases hk:A.kind i≠2
  ·rw[if_pos hk];omega
  rw[if_neg hk]
  have key : ∀ (l:List ByteArray) (n:Int),0<=n->n<=f->0<=l.foldl (fun n s=>let x:=AT.levels A f ((A.find i s).getD 0);if x>n then x else n) n/\l.foldl (fun n s=>let x:=AT.levels A f ((A.find i s).getD 0);if x>n then x else n) n<=f:=by
   intro l
   induction l with
   | nil=>intro n h1 h2;exact⟨h1,h2⟩
   | cons s r ihl =>
    intro n h1 h2
    simp only[List.foldl_cons]
    have:=ih ((A.find i s).getD 0)
    refine ihl _ ?_ ?_<;>(split<;>omega)
  have:=key (A.names i) 0 (by omega) (by omega)
  omega
section
variable {σ : H} {bf : Nat} {A : AT} {B : Nat -> Prop}
theorem s_levelsF {N:Nat} (hI:Inv A) (hB:Bd N A) (hN:N<=1000000000000) (hF:FsAt σ bf A B) : ∀ (f:Nat) (i:Int),f<=100->(∀d,A.isDir i->A.deep 12 i=some d->13<=f+d) -> ∀ {τ:H},Gr σ τ -> ∀ {K:KH},(∀τ',Gr τ τ'->K (.int .i64 (A.levels f i)) τ')->callW Tryz.prog 192 [.pointer (some ⟨bf,0,none⟩),.int .i64 i] K τ:=by
 intro f
 induction f with
 | zero =>
  intro i _ hd τ hg K hK
  refine c192 _ _ ?_
  unfold g192
  refine call_i (s_kind (hF.gr hg) i (app_I ?_))
  have hk:A.kind i≠2:=by
   intro hk
   have hdir:=kind_dir hk
   obtain⟨d,hdd⟩:=hI.deep i hdir
   have:=hd d hdir hdd
   have:=deep_bound hdd
   omega
  exact br_t (by simpa using hk) (hK τ (Gr.refl _))
 | succ f ih =>
  intro i hf hd τ hg K hK
  have hll:=levels_le A f
  refine c192 _ _ ?_
  unfold g192
  refine call_i (s_kind (hF.gr hg) i (app_I ?_))
  unfold AT.levels at hK
  by_cases hk:A.kind i≠2
  ·rw[if_pos hk]at hK
   exact br_t (by simpa using hk) (hK τ (Gr.refl _))
  rw[if_neg hk]at hK
  have hk2:A.kind i=2:=by simpa using hk
  have hdir:=kind_dir hk2
  obtain⟨di,hdi⟩:=hI.deep i hdir
  refine br_f (by simpa using hk2) ?_
  obtain⟨bt,B0,q1,q2,q3,q4⟩:=id (hF.gr hg)
  refine ptr_i (rd_P (rdC_of q1 (by rfl)) ?_)
  refine call_i (s_Names q2 _ (names_ok hI hB hN _) ?_)
  intro x τ1 g1 hx
  refine app_L (loop_i ?_)
  intro R hR
  have hlen:=hx.1
  have hnl:=names_len (A:=A) (d:=i) hB
  have key : ∀ (l:List ByteArray) (k:Nat) (n:Int) (τ2:H),(A.names i).drop k=l->0<=n->n<=f->Gr τ1 τ2->(A.names i).foldl (fun n s=>let x:=AT.levels A f ((A.find i s).getD 0);if x>n then x else n) 0=l.foldl (fun n s=>let x:=AT.levels A f ((A.find i s).getD 0);if x>n then x else n) n->R (some ⟨bf,0,none⟩) i n x ((x.len:Nat):Int) (k:Int) τ2:=by
   intro l
   induction l with
   | nil =>
    intro k n τ2 hdr h1 h2 hg2 he
    have hge:(A.names i).length<=k:=by simpa using hdr
    refine hR _ _ _ _ _ _ _ ?_
    refine br_f (by rw[hlen];simp only[decide_eq_false_iff_not];omega) ?_
    rw[wrap_id (x:=n+1) (by omega) (by omega)]
    rw[he]at hK
    exact hK τ2 (g1.trans hg2)
   | cons s r ihl =>
    intro k n τ2 hdr h1 h2 hg2 he
    obtain⟨hs,hlt,hd'⟩:=drop_get hdr
    obtain⟨g,cur,x1,x2,x3⟩:=hx.at hs
    refine hR _ _ _ _ _ _ _ ?_
    refine br_t (by rw[hlen];simp only[decide_eq_true_eq];omega) ?_
    rw[x1]
    refine ptr_i (if_i ⟨by omega,by rw[hlen];omega⟩ ?_)
    have hrd:rdC g (0+(k:Int).toNat * 1) τ2=some (.string s):=rdC_of (hg2.get x2) (by simpa using x3)
    obtain⟨bt',B0',r1,r2,r3,r4⟩:=id (hF.gr ((hg.trans g1).trans hg2))
    refine rd_S hrd (ptr_i (rd_P (rdC_of r1 (by rfl)) ?_))
    refine call_i (t_Find r2 _ _ (app_IB ?_))
    refine call_i (ih ((A.find i s).getD 0) (by omega) ?_ ((hg.trans g1).trans hg2) ?_)
    ·intro d' hdj hd12
     obtain⟨j,hj⟩:=names_mem hI (List.mem_of_getElem? hs)
     rw[hj]at hdj hd12
     simp only[Option.getD_some]at hdj hd12
     obtain⟨nd,hnd,_,hl,hj1,m,hm,hup⟩:=hI.find hj
     obtain⟨m',hm',hk'⟩:=hdj
     rw[hm]at hm';cases hm'
     have hu:A.upOf j=i:=by unfold AT.upOf;rw[hm];exact hup hk'
     rw[AT.deep,if_neg hj1,hu]at hd12
     cases he11:A.deep 11 i with
     | none=>rw[he11]at hd12;cases hd12
     | some y =>
      rw[he11]at hd12
      simp only[Option.map_some,Option.some.injEq]at hd12
      have:=deep_mono he11
      rw[hdi]at this;cases this
      have:=hd di hdir hdi
      omega
    ·intro τ3 g3
     refine app_I ?_
     have hb:=hll ((A.find i s).getD 0)
     rw[wrap_id (x:=(k:Int)+1) (by omega) (by omega)]
     have hgt:(if A.levels f ((A.find i s).getD 0)>n then A.levels f ((A.find i s).getD 0)else n)=(let x:=AT.levels A f ((A.find i s).getD 0);if x>n then x else n):=rfl
     refine ihl (k+1) _ τ3 hd' ?_ ?_ (hg2.trans g3) ?_
     ·split<;>omega
     ·split<;>omega
     ·rw[he];rfl
  exact key (A.names i) 0 0 τ1 rfl (by omega) (by omega) (Gr.refl _) rfl
theorem s_withinF (hF:FsAt σ bf A B) {ino:Int} : ∀ (f:Nat) {d:Int} {b:Bool},A.within ino f d=some b -> ∀ {K:KH},K (.bool b) σ->callW Tryz.prog 191 [.pointer (some ⟨bf,0,none⟩),.int .i64 d,.int .i64 ino] K σ:=by
 intro f d b hw K hK
 obtain⟨bt,B0,q1,q2,q3,q4⟩:=id hF
 refine c191 _ _ _ ?_
 unfold g191
 refine loop_i ?_
 intro R hR
 have key : ∀ (f:Nat) (d:Int),A.within ino f d=some b->R (some ⟨bf,0,none⟩) d ino σ:=by
  intro f
  induction f with
  | zero=>intro d h;cases h
  | succ f ih =>
   intro d h
   unfold AT.within at h
   refine hR _ _ _ _ ?_
   refine j_d ?_
   by_cases e:d=ino
   ·rw[if_pos e]at h;cases h
    refine br_f (by simpa using e) (br_f rfl ?_)
    have:(d==ino)=true:=by simpa using e
    rw[this];exact hK
   rw[if_neg e]at h
   refine br_t (by simpa using e) (ptr_i (rd_P (rdC_of q1 (by rfl)) (call_i (s_Root _ (app_I ?_)))))
   by_cases e1:d=1
   ·rw[if_pos e1]at h;cases h
    refine br_f (by simpa using e1) ?_
    have:(d==ino)=false:=by simpa using e
    rw[this];exact hK
   rw[if_neg e1]at h
   refine br_t (by simpa using e1) (ptr_i (rd_P (rdC_of q1 (by rfl)) (call_i (t_Up q2 _ (app_I ?_)))))
   exact ih _ h
 exact key f d hw
theorem s_over {N:Nat} (hI:Inv A) (hB:Bd N A) (hN:N<=1000000000000) (hF:FsAt σ bf A B) (p q:Pl) (hq:A.isDir q.dir) {K:KH} (hK:∀σ',Gr σ σ'->K (.int .i64 (A.overE p q)) σ') :
 callW Tryz.prog 161 [.pointer (some ⟨bf,0,none⟩),.agg ⟨plC p⟩,.agg ⟨plC q⟩] K σ:=by
 unfold plC
 refine c161 _ _ _ _ _ _ _ _ _ ?_
 unfold g161
 refine al_i ?_;intro b10 σ1 g1 e1 n1
 refine al_i ?_;intro b11 σ2 g2 e2 n2
 have k10:=g2.get e1
 have hg2:Gr σ σ2:=g1.trans g2
 have F2:=hF.gr hg2
 refine rd_I (rdC_of k10 (by rfl)) (rd_I (rdC_of e2 (by rfl)) ?_)
 refine call_i (s_kind F2 _ (app_I (and_i (rdC_of e2 (by rfl)) (call_i (s_kind F2 _ (app_I ?_))))))
 unfold AT.overE at hK
 simp only at hK
 obtain⟨x,hx13,hx12,hx1,hx2⟩:=hI.deep13 hq
 obtain⟨wb,hwb⟩:=within_some p.ino hx13
 -- behind the first questions
 refine j_i (fun j => ∀τ,Gr σ2 τ->(if q.there=false then(0:Int)else if A.kind q.ino=2/\A.kind p.ino≠2 then 7 else if A.kind p.ino=2/\A.kind q.ino≠2 then 8 else if(A.names q.ino).length>0 then 20 else 0)=0->j (some ⟨bf,0,none⟩) (some ⟨b10,0,none⟩) (some ⟨b11,0,none⟩) (A.kind p.ino==2) τ) ?_ ?_
 ·intro τ hg he
  rw[he]at hK
  simp only[ne_eq,not_true_eq_false,if_false]at hK
  have hgσ:Gr σ τ:=hg2.trans hg
  have F:=hF.gr hgσ
  have h10:=hg.get k10
  have h11:=hg.get e2
  refine j_i (fun j => ∀b:Bool,b=decide (A.kind p.ino=2/\(A.within p.ino 13 q.dir).getD false=true)->j (some ⟨bf,0,none⟩) (some ⟨b10,0,none⟩) (some ⟨b11,0,none⟩) b τ) ?_ ?_
  ·intro b hb
   by_cases hc:A.kind p.ino=2/\(A.within p.ino 13 q.dir).getD false=true
   ·rw[if_pos hc]at hK
    exact br_t (by rw[hb];simpa using hc) (hK τ hgσ)
   ·rw[if_neg hc]at hK
    refine br_f (by rw[hb];simpa using hc) (ptr_i (rd_I (rdC_of h11 (by rfl)) (ptr_i (rd_I (rdC_of h10 (by rfl)) ?_))))
    refine call_i (s_deep F hx13 (by omega) (app_I (and_i (rdC_of h10 (by rfl)) ?_)))
    refine call_i (s_levelsF hI hB hN hF 14 p.ino (by omega) (fun d _ hd=>by have:=deep_bound hd;omega) hgσ ?_)
    intro τ' g'
    refine app_I ?_
    have hl:=levels_le A 14 p.ino
    rw[wrap_id (x:=x+A.levels 14 p.ino) (by omega) (by omega)]
    rw[hx13]at hK
    simp only[Option.getD_some]at hK
    by_cases h12:x+A.levels 14 p.ino>12
    ·rw[if_pos h12]at hK;exact br_t (by simpa using h12) (hK τ' (hgσ.trans g'))
    ·rw[if_neg h12]at hK;exact br_f (by simpa using h12) (hK τ' (hgσ.trans g'))
  ·intro j hj
   by_cases hk:A.kind p.ino=2
   ·refine br_t (by simpa using hk) (ptr_i (rd_I (rdC_of h11 (by rfl)) (ptr_i (rd_I (rdC_of h10 (by rfl)) ?_))))
    refine call_i (s_withinF F 13 hwb (app_B (hj wb ?_)))
    rw[hwb];simp[hk]
   ·exact br_f (by simpa using hk) (hj false (by simp[hk]))
 ·intro j hj
  refine rd_B (rdC_of e2 (by rfl)) ?_
  cases hth:q.there with
  | false=>exact br_t rfl (hj σ2 (Gr.refl _) (by rw[hth];rfl))
  | true =>
   rw[hth]at hK hj
   simp only[Bool.true_eq_false,if_false]at hK hj
   refine br_f rfl ?_
   refine j_i (fun j' => ∀b:Bool,b=decide (A.kind q.ino=2/\A.kind p.ino≠2)->j' (some ⟨bf,0,none⟩) (some ⟨b10,0,none⟩) (some ⟨b11,0,none⟩) (A.kind p.ino==2) (A.kind q.ino==2) b σ2) ?_ ?_
   ·intro b hb
    by_cases h7:A.kind q.ino=2/\A.kind p.ino≠2
    ·rw[if_pos h7]at hK
     exact br_t (by rw[hb];simpa using h7) (hK σ2 hg2)
    rw[if_neg h7]at hK hj
    refine br_f (by rw[hb];simpa using h7) ?_
    refine j_i (fun j' => ∀b:Bool,b=decide (A.kind p.ino=2/\A.kind q.ino≠2)->j' (some ⟨bf,0,none⟩) (some ⟨b10,0,none⟩) (some ⟨b11,0,none⟩) (A.kind p.ino==2) b σ2) ?_ ?_
    ·intro b hb
     by_cases h8:A.kind p.ino=2/\A.kind q.ino≠2
     ·rw[if_pos h8]at hK
      exact br_t (by rw[hb];simpa using h8) (hK σ2 hg2)
     rw[if_neg h8]at hK hj
     refine br_f (by rw[hb];simpa using h8) ?_
     obtain⟨bt,B0,q1,q2,q3,q4⟩:=id F2
     refine ptr_i (rd_P (rdC_of q1 (by rfl)) (ptr_i (rd_I (rdC_of e2 (by rfl)) ?_)))
     refine call_i (s_Names q2 _ (names_ok hI hB hN _) ?_)
     intro x' σ3 g3 hx'
     refine app_L ?_
     have hlen:x'.len=(A.names q.ino).length:=hx'.1
     by_cases hl:(A.names q.ino).length>0
     ·rw[if_pos hl]at hK
      exact br_t (by rw[hlen];simp only[decide_eq_true_eq];omega) (hK σ3 (hg2.trans g3))
     ·rw[if_neg hl]at hj
      exact br_f (by rw[hlen];simp only[decide_eq_false_iff_not];omega) (hj σ3 g3 rfl)
    ·intro j' hj'
     by_cases hk:A.kind p.ino=2
     ·exact br_t (by simpa using hk) (hj' _ (by by_cases hq2:A.kind q.ino=2<;>simp[hk,hq2]))
     ·exact br_f (by simpa using hk) (hj' _ (by simp[hk]))
   ·intro j' hj'
    by_cases hk:A.kind q.ino=2
    ·exact br_t (by simpa using hk) (hj' _ (by by_cases hp2:A.kind p.ino=2<;>simp[hk,hp2]))
    ·exact br_f (by simpa using hk) (hj' _ (by simp[hk]))
theorem s_Rename {N:Nat} (hI:Inv A) (hB:Bd N A) (hN:N<=1000000000000) (hF:FsAt σ bf A B) (cwd src tq:ByteArray) {K:KH}
 (hK:∀σ' B',FsAt σ' bf (A.renameF cwd src tq).2 B'->Sep σ B σ' B'->K (.int .i64 (A.renameF cwd src tq).1) σ') :
 callW Tryz.prog 113 [.pointer (some ⟨bf,0,none⟩),.string cwd,.string src,.string tq] K σ:=by
 refine c113 _ _ _ _ ?_
 unfold g113
 refine call_i (s_both hF cwd src tq ?_)
 unfold AT.renameF at hK
 simp only at hK
 have hbz:=both_z (A:=A) (cwd:=cwd) (src:=src) (tq:=tq)
 have hpl:=fun he=>locate_place hI cwd tq false he
 generalize A.both cwd src tq=r at hK hbz ⊢
 obtain⟨re,p,q⟩:=r
 simp only at hK hbz ⊢
 unfold plC
 (refine app_of rfl ?_;try dsimp only)
 refine al_i ?_;intro b14 σ1 g1 e1 n1
 refine al_i ?_;intro b15 σ2 g2 e2 n2
 have n1415:b14≠b15:=ne_fr n2 (isSome_of e1)
 refine st_i2 (g2.get e1) sz_place (by rfl) (by rfl) ?_;intro σ3 p3
 refine st_i2 (p3.get n1415.symm e2) sz_place (by rfl) (by rfl) ?_;intro σ4 p4
 have f15:σ b15=none:=none_of g1 n2
 have hg4:Lng σ σ4:=⟨((g1.trans g2).putF p3 n1).putF p4 f15⟩
 have k14:=p4.get n1415 p3.same
 have k15:=p4.same
 have F4:=hF.gr hg4.gr
 clear p3 p4 e1 e2 g1 g2
 by_cases he:re=0
 case neg =>
  rw[if_pos he]at hK
  exact br_t (by simpa using he) (hK σ4 B F4 (Sep.gr hg4.gr))
 subst he
 simp only[ne_eq,not_true_eq_false,if_false]at hK
 obtain⟨_,z2,_,z4⟩:=hbz rfl
 have Q:=hpl z2
 rw[<-z4]at Q
 refine br_f rfl ?_
 refine j_i (fun j => ∀b:Bool,b=(strEq p.name ⟨⟨[]⟩⟩||strEq q.name ⟨⟨[]⟩⟩)->j (some ⟨bf,0,none⟩) (some ⟨b14,0,none⟩) (some ⟨b15,0,none⟩) b σ4) ?_ ?_
 case refine_2 =>
  intro j hj
  refine rd_S (rdC_of k14 (by rfl)) ?_
  cases h1:strEq p.name ⟨⟨[]⟩⟩ with
  | true=>exact br_t rfl (hj true (by rw[h1];rfl))
  | false=>exact br_f rfl (rd_S (rdC_of k15 (by rfl)) (hj _ (by rw[h1];rfl)))
 intro b hb
 by_cases c2:sEq p.name ⟨⟨[]⟩⟩=true\/sEq q.name ⟨⟨[]⟩⟩=true
 ·rw[if_pos c2]at hK
  exact br_t (by rw[hb,<- sEq_eq,<- sEq_eq];simpa using c2) (hK σ4 B F4 (Sep.gr hg4.gr))
 rw[if_neg c2]at hK
 refine br_f (by
  rw[hb,<- sEq_eq,<- sEq_eq]
  cases h1:sEq p.name ⟨⟨[]⟩⟩ with
  | true=>exact absurd (.inl h1) c2
  | false =>
   cases h2:sEq q.name ⟨⟨[]⟩⟩ with
   | true=>exact absurd (.inr h2) c2
   | false=>rfl) ?_
 refine ptr_i (rd_B (rdC_of k14 (by rfl)) ?_)
 by_cases c3:p.there=false
 ·rw[if_pos c3]at hK
  exact br_t (by rw[c3];rfl) (hK σ4 B F4 (Sep.gr hg4.gr))
 rw[if_neg c3]at hK
 have c3':p.there=true:=by simpa using c3
 refine br_f (by rw[c3'];rfl) ?_
 refine j_i (fun j => ∀b:Bool,b=decide (q.there=true/\p.ino=q.ino)->j (some ⟨bf,0,none⟩) (some ⟨b14,0,none⟩) (some ⟨b15,0,none⟩) b σ4) ?_ ?_
 case refine_2 =>
  intro j hj
  refine ptr_i (rd_B (rdC_of k15 (by rfl)) ?_)
  cases h1:q.there with
  | true =>
   refine br_t rfl (ptr_i (rd_I (rdC_of k14 (by rfl)) (ptr_i (rd_I (rdC_of k15 (by rfl)) (hj _ ?_)))))
   by_cases h2:p.ino=q.ino<;>simp[h1,h2]
  | false=>exact br_f rfl (hj false (by simp[h1]))
 intro b hb
 by_cases c4:q.there=true/\p.ino=q.ino
 ·rw[if_pos c4]at hK
  exact br_t (by rw[hb];simpa using c4) (hK σ4 B F4 (Sep.gr hg4.gr))
 rw[if_neg c4]at hK
 refine br_f (by rw[hb];simpa using c4) (ptr_i (rd_G (rdA_of' k14 (by rfl)) ?_))
 (refine app_of rfl ?_;try dsimp only)
 refine ptr_i (rd_G (rdA_of' k15 (by rfl)) ?_)
 (refine app_of rfl ?_;try dsimp only)
 refine call_i (s_over hI hB hN F4 p q Q.1 ?_)
 intro σ5 g5
 refine app_I ?_
 have hg5:Lng σ σ5:=⟨hg4.gr.trans g5⟩
 have k14':=g5.get k14
 have k15':=g5.get k15
 have F5:=hF.gr hg5.gr
 by_cases c5:A.overE p q≠0
 ·rw[if_pos c5]at hK
  exact br_t (by simpa using c5) (hK σ5 B F5 (Sep.gr hg5.gr))
 rw[if_neg c5]at hK
 refine br_f (by simpa using c5) ?_
 -- the entry moves
 have mv : ∀ (A':AT) (σ6:H) (B6:Nat->Prop),Inv A'->FsAt σ6 bf A' B6->Sep σ B σ6 B6->σ6 b14=some (.cells ⟨[.int .i64 p.dir,.string p.name,.int .i64 p.ino,.bool p.there]⟩ 65 (0,0))->σ6 b15=some (.cells ⟨[.int .i64 q.dir,.string q.name,.int .i64 q.ino,.bool q.there]⟩ 65 (0,0)) ->
  (∀σ' B',FsAt σ' bf (A'.moveR p.dir p.name q.dir q.name 14).2 B'->Sep σ B σ' B'->K (.int .i64 (A'.moveR p.dir p.name q.dir q.name 14).1) σ') ->
  (ptrW (some ⟨bf,0,none⟩) (fun(b46 o47:Nat)=>rdT (rdC b46 o47) kP (fun(x48:Option Addr)=>ptrW (some ⟨b14,0,none⟩) (fun(b49 o50:Nat)=>rdT (rdC b49 o50) kI (fun(x51:Int)=>ptrW (some ⟨b14,0,none⟩) (fun(b52 o53:Nat)=>rdT (rdC b52 (o53+1)) kS (fun(x54:ByteArray)=>ptrW (some ⟨b15,0,none⟩) (fun(b55 o56:Nat)=>rdT (rdC b55 o56) kI (fun(x57:Int)=>ptrW (some ⟨b15,0,none⟩) (fun(b58 o59:Nat)=>rdT (rdC b58 (o59+1)) kS (fun(x60:ByteArray) =>
   callT Tryz.prog 162 [.pointer x48,.int .i64 x51,.string x54,.int .i64 x57,.string x60] kI (fun(x61:Int)=>K (.int .i64 x61))))))))))))) σ6:=by
  intro A' σ6 B6 hI' F6 S6 h14 h15 hK'
  obtain⟨bt,B0,q1,q2,q3,q4⟩:=id F6
  refine ptr_i (rd_P (rdC_of q1 (by rfl)) (ptr_i (rd_I (rdC_of h14 (by rfl)) (ptr_i (rd_S (rdC_of h14 (by rfl)) (ptr_i (rd_I (rdC_of h15 (by rfl)) (ptr_i (rd_S (rdC_of h15 (by rfl)) ?_)))))))))
  refine call_i (s_Move cAny q2 _ _ _ _ ?_ 14 ?_ ?_)
  ·intro j hj
   obtain⟨_,_,_,_,_,m,hm,_⟩:=hI'.find hj
   rw[hm];rfl
  ·intro hz
   obtain⟨_,ht,_,_⟩:=moveE1_z hz
   obtain⟨d,hd⟩:=hI'.deep q.dir ht
   obtain⟨b',hb'⟩:=apart_some hI' ((A'.find p.dir p.name).getD 0) ht (deep_mono (deep_mono hd))
   rw[hb'];rfl
  ·intro σ7 B7 hT hS
   obtain⟨B8,h1,h2⟩:=FsAt.lift q1 q3 q4 hT hS
   exact app_I (hK' σ7 B8 h1 (S6.trans h2))
 refine j_d (ptr_i (rd_B (rdC_of k15' (by rfl)) ?_))
 by_cases c6:q.there=true
 case neg =>
  rw[if_neg c6]at hK
  exact br_f (by simpa using c6) (mv _ _ _ hI F5 (Sep.gr hg5.gr) k14' k15' hK)
 rw[if_pos c6]at hK
 obtain⟨bt,B0,q1,q2,q3,q4⟩:=id F5
 refine br_t c6 (ptr_i (rd_P (rdC_of q1 (by rfl)) (ptr_i (rd_I (rdC_of k15' (by rfl)) (ptr_i (rd_S (rdC_of k15' (by rfl)) ?_))))))
 refine call_i (s_Unlink q2 _ _ ?_ hI.nodup ?_)
 ·intro j hj
  obtain⟨_,_,_,_,_,m,hm,_⟩:=hI.find hj
  rw[hm];rfl
 ·intro σ6 B6 hT hS
  obtain⟨B7,h1,h2⟩:=FsAt.lift q1 q3 q4 hT hS
  have S7:Sep σ B σ6 B7:=h2.of_gr hg5.gr
  refine app_I ?_
  by_cases c7:(A.unlinkR q.dir q.name).1≠0
  ·rw[if_pos c7]at hK
   exact br_t (by simpa using c7) (hK σ6 B7 h1 S7)
  rw[if_neg c7]at hK
  have hB14 : ¬B b14:=hF.fresh n1
  have hB15 : ¬B b15:=hF.fresh f15
  exact br_f (by simpa using c7) (mv _ _ _ (unlinkR_ok hI hB (by omega) q.dir q.name).1 h1 S7 (h2 b14 _ k14' hB14).1 (h2 b15 _ k15' hB15).1 hK)
end
end Go.Proofs.YtbdlkofldmhoaaaGreatDoor

set_option maxRecDepth 100000
namespace Go.Wk
open Go Go.HL
structure TS where
 A:AT
 out:ByteArray
 err:ByteArray
 st:Int
 full:Bool
def TS.new (A:AT):TS:=⟨A,⟨⟨[]⟩⟩,⟨⟨[]⟩⟩,0,false⟩
def failT (nm name:ByteArray) (e:Int):ByteArray:=nm++⟨⟨[58,32]⟩⟩++name++⟨⟨[58,32]⟩⟩++fmtP 10 e++⟨⟨[10]⟩⟩
def TS.fail (nm:ByteArray) (s:TS) (name:ByteArray) (e:Int):TS :=
 if e==0 then s else { s with err:=s.err++failT nm name e,st:=if e==10 then 3 else(if s.st<1 then 1 else s.st),full:=s.full||e==10 }
def hasL (got:ByteArray) (c:UInt8):Bool:=got.data.toList.contains c
def optsP (letters:ByteArray):List ByteArray->ByteArray->Option (ByteArray×List ByteArray)
 | [],got=>some (got,[])
 | a::r,got =>
  if sEq a ⟨⟨[45,45]⟩⟩then some (got,r)
  else if Nat.ble a.size 1 || !headIs 45 a then some (got,a::r)
  else if(a.data.toList.drop 1).all (hasL letters)then optsP letters r (got++⟨⟨a.data.toList.drop 1⟩⟩)
  else none
def joinT (p n:ByteArray):ByteArray:=p++⟨⟨[47]⟩⟩++n
def lastP (path:ByteArray):ByteArray:=⟨⟨behind (bareL path.data.toList)⟩⟩
def aheadP (path:ByteArray):ByteArray :=
 let p:=upto (bareL path.data.toList)
 if !p.isEmpty then⟨⟨p⟩⟩else if headIs 47 path then⟨⟨[47]⟩⟩else⟨⟨[46]⟩⟩
def AT.dirB (A:AT) (cwd path:ByteArray):Bool:=let r:=A.stat cwd path true;r.1==0&&r.2.kind==2
def AT.madeF (A:AT) (cwd path:ByteArray):Int×AT :=
 let r:=A.mkdirF cwd path
 if r.1==6&&r.2.dirB cwd path then(0,r.2)else r
def waysL:List UInt8->List UInt8->Bool->List (List UInt8)
 | _,[],_=>[]
 | acc,c::r,s=>if c==47 && !s then acc::waysL (acc++[c]) r true else waysL (acc++[c]) r (c==47)
def waysP (path:ByteArray):List ByteArray:=(waysL [] path.data.toList true).map fun l=>(⟨⟨l⟩⟩:ByteArray)
def AT.allF (A:AT) (cwd:ByteArray):List ByteArray->Int×AT
 | []=>(0,A)
 | p::r=>let x:=A.madeF cwd p;if x.1==0 then AT.allF x.2 cwd r else x
def octP (s:ByteArray):Option Int :=
 let l:=s.data.toList
 if l.isEmpty||(decide (l.length>3) || !l.all fun c=>Nat.ble 48 c.toNat&&Nat.ble c.toNat 55)then none else some (l.foldl (fun n c=>8 * n+(c.toNat - 48)) 0:Nat)
def orX (m:Int):Int:=bitV .or .i64 m 73
def lessX (m:Int):Int:=bitV .andNot .i64 m 73
def AT.chmodP (A:AT) (cwd how path:ByteArray):Int×AT:=match octP how with
 | some m=>A.chmodF cwd path m
 | none=>let r:=A.stat cwd path true
  if r.1==0 then A.chmodF cwd path (if sEq how ⟨⟨[45,120]⟩⟩then lessX r.2.mode else orX r.2.mode)else(r.1,A)
def AT.lnP (A:AT) (cwd got src tq:ByteArray):Int×AT :=
 let r:=A.stat cwd tq false
 let x:=if hasL got 102&&(r.1==0 && !(r.2.kind==2))then A.removeF cwd tq else(0,A)
 if x.1==0 then(if hasL got 115 then x.2.symlinkF cwd src tq else x.2.hardF cwd src tq)else x
def AT.rmdirP (A:AT) (cwd path:ByteArray):Int×AT :=
 let r:=A.stat cwd path false
 if r.1==0 then(if r.2.kind==2 then A.removeF cwd path else(8,A))else(r.1,A)
def TS.rm (nm cwd got:ByteArray):Nat->TS->ByteArray->Int×TS
 | 0,s,_=>(0,s)
 | f+1,s,path =>
  let r:=s.A.stat cwd path false
  if r.1==5&&hasL got 102 then(0,s)
  else if !(r.1==0)then(r.1,s)
  else if r.2.kind==2 && !hasL got 114 then(7,s)
  else
   let t:=if r.2.kind==2 then(s.A.listF cwd path).2.foldl (fun t n=>let x:=TS.rm nm cwd got f t (joinT path n);x.2.fail nm (joinT path n) x.1) s else s
   let x:=t.A.removeF cwd path
   (x.1,{ t with A:=x.2 })
def AT.insideP (A:AT) (cwd src tq:ByteArray):Bool :=
 let a:=A.realF cwd src
 let b:=A.realF cwd tq
 let b:=if b.1==0 then b else A.realF cwd (aheadP tq)
 a.1==0&&(b.1==0&&(sEq a.2 b.2||(bareL a.2.data.toList++[47]).isPrefixOf b.2.data.toList))
def AT.fileP (A:AT) (cwd src tq:ByteArray) (mode:Int):Int×AT :=
 let th:=(A.stat cwd tq true).1
 let s:=A.read cwd src
 let x:=if s.1==0 then A.writeF cwd tq s.2 false else(s.1,A)
 if x.1==0 && !(th==0)then x.2.chmodF cwd tq mode else x
def TS.cp (nm cwd got:ByteArray):Nat->TS->ByteArray->ByteArray->Int×TS
 | 0,s,_,_=>(0,s)
 | f+1,s,src,tq =>
  let r:=s.A.stat cwd src (!hasL got 114)
  let put:=fun(x:Int×AT)=>(x.1,({ s with A:=x.2 }:TS))
  if !(r.1==0)then(r.1,s)
  else if r.2.kind==3 then put (s.A.symlinkF cwd r.2.data tq)
  else if r.2.kind==1 then put (s.A.fileP cwd src tq r.2.mode)
  else if !hasL got 114 then(7,s)
  else if s.A.insideP cwd src tq then(2,s)
  else
   let x:=s.A.madeF cwd tq
   if !(x.1==0)then(x.1,{ s with A:=x.2 })
   else(0,(x.2.listF cwd src).2.foldl (fun t n=>if t.full then t else let y:=TS.cp nm cwd got f t (joinT src n) (joinT tq n);y.2.fail nm (joinT src n) y.1) { s with A:=x.2 })
def TS.each (nm:ByteArray) (do_:TS->ByteArray->Int×TS):List ByteArray->TS->TS
 | [],s=>s
 | n::r,s=>if s.full then s else let x:=do_ s n;TS.each nm do_ r (x.2.fail nm n x.1)
def onA (s:TS) (x:Int×AT):Int×TS:=(x.1,{ s with A:=x.2 })
def TS.into (nm cwd:ByteArray) (do_:TS->ByteArray->ByteArray->Int×TS) (names:List ByteArray) (s:TS):TS:=match names.getLast? with
 | none=>s
 | some tq =>
  let l:=names.dropLast
  let inn:=s.A.dirB cwd tq
  if !inn&&Nat.blt 1 l.length then s.fail nm tq 8
  else TS.each nm (fun t n=>do_ t n (if inn then joinT tq (lastP n)else tq)) l s
def TS.say (s:TS) (l:ByteArray):TS:={ s with out:=s.out++l++⟨⟨[10]⟩⟩ }
def TS.listed (cwd got:ByteArray) (head:Bool) (s:TS) (path:ByteArray):TS :=
 let s:=if head then s.say (path++⟨⟨[58]⟩⟩)else s
 (s.A.listF cwd path).2.foldl (fun t n=>if !headIs 46 n||hasL got 97 then t.say n else t) s
def TS.sift (nm cwd:ByteArray):List ByteArray->TS->List ByteArray->List ByteArray->TS×List ByteArray×List ByteArray
 | [],s,p,d=>(s,p,d)
 | n::r,s,p,d =>
  if s.full then(s,p,d)
  else if s.A.dirB cwd n then TS.sift nm cwd r s p (d++[n])
  else
   let e:=(s.A.stat cwd n true).1
   let e:=if e==0 then e else(s.A.stat cwd n false).1
   TS.sift nm cwd r (s.fail nm n e) (if e==0 then p++[n]else p) d
def TS.ls (nm cwd got:ByteArray) (names:List ByteArray) (s:TS):TS :=
 let names:=if names.isEmpty then [⟨⟨[46]⟩⟩]else names
 let r:=TS.sift nm cwd names s [] []
 let s:=(sortN r.2.1).foldl TS.say r.1
 r.2.2.foldl (TS.listed cwd got (Nat.blt 1 names.length)) s
def rightP (nm got:ByteArray) (names:List ByteArray):Bool :=
 let n:=names.length
 if sEq nm ⟨⟨[108,110]⟩⟩then n==2
 else if sEq nm ⟨⟨[109,118]⟩⟩||sEq nm ⟨⟨[99,112]⟩⟩then Nat.ble 2 n
 else if sEq nm ⟨⟨[99,104,109,111,100]⟩⟩then(match names with
  | how::_::_=>(octP how).isSome||(sEq how ⟨⟨[43,120]⟩⟩||sEq how ⟨⟨[45,120]⟩⟩)
  | _=>false)
 else if sEq nm ⟨⟨[114,109]⟩⟩then Nat.ble 1 n||hasL got 102
 else if sEq nm ⟨⟨[108,115]⟩⟩then true
 else Nat.ble 1 n
def FU:Nat:=300
def lettersP (nm:ByteArray):ByteArray :=
 if sEq nm ⟨⟨[109,107,100,105,114]⟩⟩then⟨⟨[112]⟩⟩
 else if sEq nm ⟨⟨[108,110]⟩⟩then⟨⟨[115,102]⟩⟩
 else if sEq nm ⟨⟨[114,109]⟩⟩then⟨⟨[114,102]⟩⟩
 else if sEq nm ⟨⟨[109,118]⟩⟩then⟨⟨[102]⟩⟩
 else if sEq nm ⟨⟨[99,112]⟩⟩then⟨⟨[114]⟩⟩
 else if sEq nm ⟨⟨[108,115]⟩⟩then⟨⟨[97,49]⟩⟩
 else⟨⟨[]⟩⟩
def doP (A:AT) (nm cwd got:ByteArray) (names:List ByteArray):TS :=
 let s:=TS.new A
 if sEq nm ⟨⟨[109,107,100,105,114]⟩⟩then TS.each nm (fun t n=>onA t (if hasL got 112 then t.A.allF cwd (waysP n++[n])else t.A.mkdirF cwd n)) names s
 else if sEq nm ⟨⟨[114,109,100,105,114]⟩⟩then TS.each nm (fun t n=>onA t (t.A.rmdirP cwd n)) names s
 else if sEq nm ⟨⟨[116,111,117,99,104]⟩⟩then TS.each nm (fun t n=>onA t (t.A.writeF cwd n ⟨⟨[]⟩⟩ true)) names s
 else if sEq nm ⟨⟨[99,104,109,111,100]⟩⟩then(match names with
  | []=>s
  | how::r=>TS.each nm (fun t n=>onA t (t.A.chmodP cwd how n)) r s)
 else if sEq nm ⟨⟨[108,110]⟩⟩then(match names with
  | []=>s
  | src::r=>TS.each nm (fun t n=>onA t (t.A.lnP cwd got src n)) r s)
 else if sEq nm ⟨⟨[114,109]⟩⟩then TS.each nm (fun t n=>TS.rm nm cwd got FU t n) names s
 else if sEq nm ⟨⟨[109,118]⟩⟩then TS.into nm cwd (fun t a b=>onA t (t.A.renameF cwd a b)) names s
 else if sEq nm ⟨⟨[99,112]⟩⟩then TS.into nm cwd (fun t a b=>TS.cp nm cwd got FU t a b) names s
 else TS.ls nm cwd got names s
def toolsL:List ByteArray:=[⟨⟨[109,107,100,105,114]⟩⟩,⟨⟨[114,109,100,105,114]⟩⟩,⟨⟨[116,111,117,99,104]⟩⟩,⟨⟨[99,104,109,111,100]⟩⟩,⟨⟨[108,110]⟩⟩,⟨⟨[114,109]⟩⟩,⟨⟨[109,118]⟩⟩,⟨⟨[99,112]⟩⟩,⟨⟨[108,115]⟩⟩]
def AT.filesP (A:AT) (cwd nm:ByteArray) (args:List ByteArray):Option (Dn×AT) :=
 if toolsL.any (fun t=>sEq nm t) then
  let bare:=sEq nm ⟨⟨[99,104,109,111,100]⟩⟩&&(match args with
   | a::_=>sEq a ⟨⟨[45,120]⟩⟩
   | []=>false)
  match (if bare then some (⟨⟨[]⟩⟩,args)else optsP (lettersP nm) args ⟨⟨[]⟩⟩) with
  | none=>some (usageP nm,A)
  | some (got,names)=>if rightP nm got names then(let s:=doP A nm cwd got names;some (⟨s.out,s.err,s.st⟩,s.A))else some (usageP nm,A)
 else none
def callP (A:AT) (nm:ByteArray) (args:List ByteArray):ByteArray×AT:=match A.filesP ⟨⟨[47]⟩⟩ nm args with
 | none=>(⟨⟨[110,111,110,101]⟩⟩,A)
 | some (d,A')=>(⟨⟨[(48+d.st.toNat).toUInt8]⟩⟩++d.out++d.err,A')
end Go.Wk

set_option maxRecDepth 100000
namespace Go.Proofs.YtbdlkofldmhoaaaGreatDoor
open Go Go.HL Go.Wk
attribute [local irreducible] ptrW ifW brW andW rdT alW letJ stW muW biW vaW imW callT cvalT app callW invW callVW sizeT oW nilF oneK loopW rfW funW begW roundK exW idxW Gr Put
structure TlC where
 nm:ByteArray
 inn:ByteArray
 cwd:ByteArray
 x:Sl
 bf:Nat
def toolV (C:TlC) (got:ByteArray) (y:Sl) (s:TS):List Value:=[.string C.nm,.slice C.x.base C.x.len C.x.cap,.string C.inn,.string C.cwd,.pointer (some ⟨C.bf,0,none⟩),.string s.out,.string s.err,.int .i64 s.st,.string got,.slice y.base y.len y.cap,.bool s.full]
def TlAt (σ:H) (bt:Nat) (C:TlC) (got:ByteArray) (y:Sl) (s:TS) (B:Nat->Prop):Prop := ∃B0,σ bt=some (.cells ⟨toolV C got y s⟩ 84 (0,0))/\FsAt σ C.bf s.A B0 /\ ¬B0 bt /\ ∀b,B b↔(B0 b\/b=bt)
section
variable {σ σ' : H} {bt b : Nat} {C : TlC} {got : ByteArray} {y : Sl} {s : TS} {B : Nat -> Prop} {o : Obj}
theorem TlAt.gr (h:TlAt σ bt C got y s B) (hg:Gr σ σ'):TlAt σ' bt C got y s B:=by
 obtain⟨B0,h1,h2,h3,h4⟩:=h;exact⟨B0,hg.get h1,h2.gr hg,h3,h4⟩
theorem TlAt.put (h:TlAt σ bt C got y s B) (hp:Put σ b o σ') (hn:¬B b):TlAt σ' bt C got y s B:=by
 obtain⟨B0,h1,h2,h3,h4⟩:=h
 exact⟨B0,hp.get (fun e=>hn ((h4 b).2 (.inr e.symm))) h1,h2.put hp (fun e=>hn ((h4 b).2 (.inl e))),h3,h4⟩
theorem TlAt.cell (h:TlAt σ bt C got y s B):σ bt=some (.cells ⟨toolV C got y s⟩ 84 (0,0)):=by obtain⟨_,h1,_⟩:=h;exact h1
theorem TlAt.say (h:TlAt σ bt C got y s B) {got':ByteArray} {y':Sl} {s':TS} (hA:s'.A=s.A) (hp:Put σ bt (.cells ⟨toolV C got' y' s'⟩ 84 (0,0)) σ'):TlAt σ' bt C got' y' s' B:=by
 obtain⟨B0,h1,h2,h3,h4⟩:=h
 exact⟨B0,hp.same,by rw[hA];exact h2.put hp h3,h3,h4⟩
theorem TlAt.fs (h:TlAt σ bt C got y s B) : ∃B0,FsAt σ C.bf s.A B0 /\ ∀ {A':AT} {B0':Nat->Prop} {σ':H},FsAt σ' C.bf A' B0'->Sep σ B0 σ' B0' -> ∃B',TlAt σ' bt C got y { s with A:=A' } B'/\Sep σ B σ' B':=by
 obtain⟨B0,h1,h2,h3,h4⟩:=h
 refine⟨B0,h2,fun {A' B0' σ'} hf hs=>⟨fun b=>B0' b\/b=bt,⟨B0',(hs bt _ h1 h3).1,hf,(hs bt _ h1 h3).2,fun b=>Iff.rfl⟩,?_⟩⟩
 intro c oc hc hn
 have hn' : ¬B0 c/\c≠bt:=⟨fun e=>hn ((h4 c).2 (.inl e)),fun e=>hn ((h4 c).2 (.inr e))⟩
 exact⟨(hs c oc hc hn'.1).1,fun e=>e.elim (hs c oc hc hn'.1).2 hn'.2⟩
theorem sz_InoF:sizeT Tryz.prog 73=some 4:=by kernel_rfl
theorem s_fiStat (h:TlAt σ bt C got y s B) (path:ByteArray) (fo:Bool) {K:KH} (hK:K (.tuple ⟨[.agg ⟨inV (s.A.stat C.cwd path fo).2⟩,.int .i64 (s.A.stat C.cwd path fo).1]⟩) σ):callW Tryz.prog 103 [.pointer (some ⟨bt,0,none⟩),.string path,.bool fo] K σ:=by
 refine pure_i _ hK (c103 _ _ _ ?_)
 clear hK
 unfold g103
 obtain⟨B0,hF,_⟩:=h.fs
 refine al_i ?_;intro b4 σ1 g1 e1 n1
 have hc:=g1.get h.cell
 refine ptr_i (rd_P (rdC_of hc (by rfl)) (ptr_i (rd_S (rdC_of hc (by rfl)) ?_)))
 refine call_i (s_Stat (hF.gr g1) _ _ _ ?_)
 unfold inV
 (refine app_of rfl ?_;try dsimp only)
 refine st_i2 e1 sz_InoF (by rfl) (by rfl) ?_;intro σ2 p2
 refine rd_G (rdA_of' p2.same (by rfl)) ?_
 (refine app_of rfl ?_;try dsimp only)
 exact⟨rfl,g1.putF p2 n1⟩
theorem s_fiDir (h:TlAt σ bt C got y s B) (path:ByteArray) {K:KH} (hK:K (.bool (s.A.dirB C.cwd path)) σ):callW Tryz.prog 116 [.pointer (some ⟨bt,0,none⟩),.string path] K σ:=by
 refine pure_i _ hK (c116 _ _ ?_)
 clear hK
 unfold g116
 refine call_i (s_fiStat h path true ?_)
 unfold inV
 (refine app_of rfl ?_;try dsimp only)
 refine al_i ?_;intro b8 σ1 g1 e1 n1
 refine st_i2 e1 sz_InoF (by rfl) (by rfl) ?_;intro σ2 p2
 unfold AT.dirB
 cases he:((s.A.stat C.cwd path true).1==0) with
 | true =>
  refine br_t rfl (rd_I (rdC_of p2.same (by rfl)) ?_)
  exact⟨by simp only[he,Bool.true_and],g1.putF p2 n1⟩
 | false =>
  exact br_f rfl ⟨by simp only[he,Bool.false_and],g1.putF p2 n1⟩
theorem first_has (g:ByteArray) (c:UInt8):decide (firstIdx g c>=0)=hasL g c:=by
 unfold hasL
 rcases firstIdx_split g c with⟨h1,h2⟩ | ⟨i,h1,h2,h3,h4⟩
 ·have a:decide (firstIdx g c>=0)=false:=by rw[decide_eq_false_iff_not,h1];omega
  have b:g.data.toList.contains c=false:=by rw[<-Bool.not_eq_true,List.contains_iff_mem];exact h2
  rw[a,b]
 ·have a:decide (firstIdx g c>=0)=true:=by rw[decide_eq_true_eq,h1];omega
  have hm:c∈g.data.toList:=by
   rw[h4];exact List.mem_append_right _ (List.mem_cons_self ..)
  have b:g.data.toList.contains c=true:=by rw[List.contains_iff_mem];exact hm
  rw[a,b]
theorem s_fiHas (h:TlAt σ bt C got y s B) (c:UInt8) {K:KH} (hK:K (.bool (hasL got c)) σ):callW Tryz.prog 99 [.pointer (some ⟨bt,0,none⟩),.int .u8 (c.toNat:Int)] K σ:=by
 refine c99 _ _ ?_
 unfold g99
 refine ptr_i (rd_S (rdC_of h.cell (by rfl)) ?_)
 refine call_i (x_IndexByte got _ (app_I ?_))
 have e:((c.toNat:Int)).toNat.toUInt8=c:=by rw[Int.toNat_natCast];exact UInt8.ofNat_toNat
 rw[e,first_has]
 exact hK
end
section
variable {σ : H}
theorem x_Small {e:Int} (h0:0<=e) (h1:e<=20) {K:KH} (hK:K (.string (fmtP 10 e)) σ):callW Tryz.prog 234 [.int .i64 e] K σ:=by
 refine c234 _ ?_
 unfold g234
 have h:e=0\/e=1\/e=2\/e=3\/e=4\/e=5\/e=6\/e=7\/e=8\/e=9\/e=10\/e=11\/e=12\/e=13\/e=14\/e=15\/e=16\/e=17\/e=18\/e=19\/e=20:=by omega
 rcases h with rfl | rfl | rfl | rfl | rfl | rfl | rfl | rfl | rfl | rfl | rfl | rfl | rfl | rfl | rfl | rfl | rfl | rfl | rfl | rfl | rfl
 all_goals first
  | exact br_t rfl (if_i ⟨bnd_some (by decide +kernel) (by decide +kernel),bnd_some (by decide +kernel) (by decide +kernel)⟩ (by refine(congrArg (fun s=>K (.string s) σ) (sEq_iff.1 ?_)).mp hK;decide +kernel))
  | exact br_f rfl (if_i ⟨bnd_some (by decide +kernel) (by decide +kernel),bnd_some (by decide +kernel) (by decide +kernel)⟩ (by refine(congrArg (fun s=>K (.string s) σ) (sEq_iff.1 ?_)).mp hK;decide +kernel))
theorem x_Errno {e:Int} (h0:0<=e) (h1:e<=20) {K:KH} (hK:K (.string (fmtP 10 e)) σ):callW Tryz.prog 120 [.int .i64 e] K σ:=by
 refine c120 _ ?_
 unfold g120
 refine call_i (c174 _ ?_)
 unfold g174
 refine call_i (c212 _ _ ?_)
 unfold g212
 refine br_t rfl (j_i (fun j=>j e true σ) ?_ ?_)
 ·exact br_t rfl (call_i (x_Small h0 h1 (app_S (app_S (app_S hK)))))
 ·intro j hj
  refine br_t (by simp only[decide_eq_true_eq];exact h0) ?_
  have:decide (e<100)=true:=by rw[decide_eq_true_eq];omega
  rw[this];exact hj
end
section
variable {σ : H} {bt : Nat} {C : TlC} {got : ByteArray} {y : Sl} {s : TS} {B : Nat -> Prop}
theorem s_fiFail (h:TlAt σ bt C got y s B) (name:ByteArray) {e:Int} (h0:0<=e) (h1:e<=20) (hz1:C.nm.size<=1000000) (hz2:name.size<=1000000) (hz3:s.err.size<=1000000000000) (hz4:(fmtP 10 e).size<=100) {K:KH} (hK:∀σ' r,TlAt σ' bt C got y (s.fail C.nm name e) B->Sep σ B σ' B->K (.bool r) σ'):callW Tryz.prog 153 [.pointer (some ⟨bt,0,none⟩),.string name,.int .i64 e] K σ:=by
 refine c153 _ _ _ ?_
 unfold g153
 by_cases he:e=0
 ·subst he
  exact br_t rfl (hK σ false h (Sep.refl _ _))
 have he':(e==0)=false:=by rw[beq_eq_false_iff_ne];exact he
 have hc:=h.cell
 have hf:s.fail C.nm name e={ s with err:=s.err++failT C.nm name e,st:=if e==10 then 3 else(if s.st<1 then 1 else s.st),full:=s.full||e==10 }:=by
  unfold TS.fail
  rw[if_neg (by rw[beq_iff_eq];exact he)]
 refine br_f he' (ptr_i (rd_S (rdC_of hc (by rfl)) (ptr_i (rd_S (rdC_of hc (by rfl)) ?_))))
 refine if_i (by show C.nm.size+2<=_;omega) (if_i (by rw[ByteArray.size_append];show C.nm.size+2+name.size<=_;omega) (if_i (by rw[ByteArray.size_append,ByteArray.size_append];show C.nm.size+2+name.size+2<=_;omega) ?_))
 refine call_i (x_Errno h0 h1 (app_S ?_))
 refine and_i (rdC_of hc (by rfl)) (and_i (rdC_of hc (by rfl)) ?_)
 refine if_i (by simp only[ByteArray.size_append];show C.nm.size+2+name.size+2+(fmtP 10 e).size<=_;omega) (if_i (by simp only[ByteArray.size_append];show C.nm.size+2+name.size+2+(fmtP 10 e).size+1<=_;omega) (if_i (by simp only[ByteArray.size_append];show s.err.size+(C.nm.size+2+name.size+2+(fmtP 10 e).size+1)<=_;omega) (ptr_i ?_)))
 refine st_i2 hc sz_string (by rfl) (by rfl) ?_;intro σ1 p1
 refine ptr_i (rd_I (rdC_of p1.same (by rfl)) (ptr_i ?_))
 refine st_i2 p1.same sz_int (by rfl) (by rfl) ?_;intro σ2 p2
 have t1:TlAt σ1 bt C got y { s with err:=s.err++failT C.nm name e } B:=h.say rfl p1
 have t2:TlAt σ2 bt C got y { s with err:=s.err++failT C.nm name e,st:=if s.st<1 then 1 else s.st } B:=t1.say rfl p2
 have hB:B bt:=by obtain⟨_,_,_,_,q⟩:=h;exact(q bt).2 (.inr rfl)
 have sep : ∀ {τ τ':H} {o:Obj},Put τ bt o τ'->Sep τ B τ' B:=fun hp c oc hoc hn=>⟨hp.get (fun e=>hn (e ▸ hB)) hoc,hn⟩
 rw[hf]at hK
 refine j_i (fun j => ∀τ,TlAt τ bt C got y { s with err:=s.err++failT C.nm name e,st:=if e==10 then 3 else(if s.st<1 then 1 else s.st),full:=s.full||e==10 } B->Sep σ B τ B->j τ) (fun τ ht hs=>hK τ true ht hs) ?_
 intro j hj
 cases hE:(e==10) with
 | false =>
  refine br_f rfl (hj σ2 ?_ ((sep p1).trans (sep p2)))
  rw[hE,Bool.or_false]
  exact t2
 | true =>
  refine br_t rfl (ptr_i ?_)
  refine st_i2 p2.same sz_bool (by rfl) (by rfl) ?_;intro σ3 p3
  refine ptr_i ?_
  refine st_i2 p3.same sz_int (by rfl) (by rfl) ?_;intro σ4 p4
  have t3:TlAt σ3 bt C got y { s with err:=s.err++failT C.nm name e,st:=if s.st<1 then 1 else s.st,full:=true } B:=t2.say rfl p3
  have t4:TlAt σ4 bt C got y { s with err:=s.err++failT C.nm name e,st:=3,full:=true } B:=t3.say rfl p4
  refine hj σ4 ?_ ((((sep p1).trans (sep p2)).trans (sep p3)).trans (sep p4))
  rw[hE,Bool.or_true]
  exact t4
end
theorem wrS1 {n:Nat} (h:n<=9000000000000000000):IntKind.i64.wrap (((n+1:Nat):Int) - 1)=(n:Int):=by rw[wrap_id (by omega) (by omega)];omega
theorem sz_snoc (m:List UInt8) (x:UInt8):(⟨⟨m++[x]⟩⟩:ByteArray).size=m.length+1:=by rw[bsz,List.length_append];rfl
theorem x_trimRB (c:UInt8) (l:List UInt8) (hl:l.length<=1000000000000000) {σ:H} {K:KH} (hK:K (.string ⟨⟨trR (· == c) l⟩⟩) σ):callW Tryz.prog 168 [.string ⟨⟨l⟩⟩,.int .u8 ((c.toNat:Nat):Int)] K σ:=by
 refine c168 _ _ ?_
 unfold g168
 refine loop_i ?_
 intro R hR
 have key : ∀ (n:Nat) (m:List UInt8),m.length=n->n<=1000000000000000->trR (· == c) m=trR (· == c) l->R ⟨⟨m⟩⟩ ((c.toNat:Nat):Int) σ:=by
  intro n
  induction n with
  | zero =>
   intro m hm _ ht
   have:m=[]:=List.eq_nil_of_length_eq_zero hm
   subst this
   refine hR _ _ _ (j_d (br_f (by decide) (br_f rfl ?_)))
   rw[<-ht]at hK;exact hK
  | succ n ih =>
   intro m hm hn ht
   obtain⟨q,x,rfl,hq⟩:=snoc_of hm
   rw[trR_snoc]at ht
   refine hR _ _ _ (j_d (br_t (by rw[sz_snoc,decide_eq_true_eq];omega) ?_))
   rw[sz_snoc,wrS1 (by omega)]
   refine idx_l (c:=x) (by omega) (by rw[Int.toNat_natCast];exact get_snoc q x) ?_
   rw[u8e]
   cases hx:x==c with
   | true =>
    rw[hx,if_pos rfl]at ht
    refine br_t rfl ?_
    rw[sz_snoc,wrS1 (by omega)]
    refine if_i ⟨bnd_some (by omega) (by omega),bnd_none⟩ ?_
    rw[Int.toNat_natCast,ext_tl]
    exact ih q hq (by omega) ht
   | false =>
    rw[hx,if_neg (by simp)]at ht
    refine br_f rfl ?_
    rw[ht];exact hK
 exact key l.length l rfl hl rfl
theorem x_TrimR1 (c:UInt8) (hc:c.toNat<128) (l:List UInt8) (hl:l.length<=1000000000000000) {σ:H} {K:KH} (hK:K (.string ⟨⟨trR (· == c) l⟩⟩) σ):callW Tryz.prog 189 [.string ⟨⟨l⟩⟩,.string ⟨⟨[c]⟩⟩] K σ:=by
 refine c189 _ _ ?_
 unfold g189
 refine j_d ?_
 rw[strEq_nil,strEq_nil]
 cases l with
 | nil=>exact br_t rfl (br_t rfl hK)
 | cons x r =>
  refine br_f rfl (br_f rfl (j_d (br_t (by rfl) (idx_l (c:=c) (by omega) (by rfl) ?_))))
  refine br_t (by simp only[decide_eq_true_eq];omega) (idx_l (c:=c) (by omega) (by rfl) ?_)
  exact call_i (x_trimRB c (x::r) hl (app_S hK))
theorem x_LastIB (c:UInt8) (l:List UInt8) (hl:l.length<=1000000000) {σ:H} {K:KH} (hK:K (.int .i64 (((lastN c l:Nat):Int) - 1)) σ):callW Tryz.prog 190 [.string ⟨⟨l⟩⟩,.int .u8 ((c.toNat:Nat):Int)] K σ:=by
 refine c190 _ _ ?_
 unfold g190
 refine call_i (c224 _ _ ?_)
 unfold g224
 refine loop_i ?_
 intro R hR
 have key : ∀ (n:Nat) (m q:List UInt8),m.length=n->n<=1000000000->l=m++q->lastN c m=lastN c l->R ⟨⟨l⟩⟩ ((c.toNat:Nat):Int) ((n:Int) - 1) σ:=by
  intro n
  induction n with
  | zero =>
   intro m q hm _ _ ht
   have:m=[]:=List.eq_nil_of_length_eq_zero hm
   subst this
   refine hR _ _ _ _ (br_f (by simp only[decide_eq_false_iff_not];omega) ?_)
   refine app_I ?_
   rw[<-ht]at hK;exact hK
  | succ n ih =>
   intro m q hm hn hlq ht
   obtain⟨p,x,rfl,hp⟩:=snoc_of hm
   rw[lastN_snoc]at ht
   refine hR _ _ _ _ (br_t (by simp only[decide_eq_true_eq];omega) ?_)
   have e1:(((n+1:Nat):Int) - 1)=(n:Int):=by omega
   rw[e1]
   refine idx_l (c:=x) (by omega) (by rw[Int.toNat_natCast,hlq];show((p++[x])++q)[n]? = some x;rw[List.append_assoc,List.getElem?_append_right (by omega),hp];simp) ?_
   rw[u8e]
   cases hx:x==c with
   | true =>
    rw[hx,if_pos rfl]at ht
    refine br_t rfl (app_I ?_)
    rw[<-ht]at hK
    rw[hp,e1]at hK;exact hK
   | false =>
    rw[hx,if_neg (by simp)]at ht
    refine br_f rfl ?_
    rw[wrap_id (by omega) (by omega)]
    exact ih p ([x]++q) hp (by omega) (by rw[hlq,List.append_assoc]) ht
 have h:=key l.length l [] rfl hl (by simp) rfl
 have e:IntKind.i64.wrap ((((⟨⟨l⟩⟩:ByteArray).size:Nat):Int) - 1)=((l.length:Nat):Int) - 1:=by rw[bsz,wrap_id (by omega) (by omega)]
 rw[e];exact h
end Go.Proofs.YtbdlkofldmhoaaaGreatDoor

namespace Go.Proofs
open Go.Shelf
def Tryz.lays160_ren:Go.Shelf.Ren:=⟨fun | 160=>119 | 232=>168 | 231=>167 | 227=>169 | 234=>171 | 233=>170 | 236=>173 | 235=>172 | 228=>208 | 271=>211 | 151=>210 | 197=>209 | 120=>233 | 152=>214 | 260=>232 | 137=>33 | 119=>238 | 224=>239 | 225=>240 | 217=>88 | 266=>149 | n=>n,fun | 9=>9 | 4=>4 | 3=>3 | 5=>5 | 117=>189 | 116=>188 | 0=>0 | 124=>192 | 21=>21 | 105=>209 | 46=>185 | 119=>241 | 139=>244 | 138=>243 | n=>n,fun | 3=>3 | 4=>4 | n=>n⟩
theorem Tryz.lays160:Go.Proofs.Lays.n160 Tryz.prog Tryz.lays160_ren:={
 mixed:=by kernel_rfl
 f119:=Tryz.func238.trans (congrArg some (by kernel_rfl))
 f120:=Tryz.func233.trans (congrArg some (by kernel_rfl))
 f137:=Tryz.func33.trans (congrArg some (by kernel_rfl))
 f151:=Tryz.func210.trans (congrArg some (by kernel_rfl))
 f152:=Tryz.func214.trans (congrArg some (by kernel_rfl))
 f160:=Tryz.func119.trans (congrArg some (by kernel_rfl))
 f197:=Tryz.func209.trans (congrArg some (by kernel_rfl))
 f217:=Tryz.func88.trans (congrArg some (by kernel_rfl))
 f224:=Tryz.func239.trans (congrArg some (by kernel_rfl))
 f225:=Tryz.func240.trans (congrArg some (by kernel_rfl))
 f227:=Tryz.func169.trans (congrArg some (by kernel_rfl))
 f228:=Tryz.func208.trans (congrArg some (by kernel_rfl))
 f231:=Tryz.func167.trans (congrArg some (by kernel_rfl))
 f232:=Tryz.func168.trans (congrArg some (by kernel_rfl))
 f233:=Tryz.func170.trans (congrArg some (by kernel_rfl))
 f234:=Tryz.func171.trans (congrArg some (by kernel_rfl))
 f235:=Tryz.func172.trans (congrArg some (by kernel_rfl))
 f236:=Tryz.func173.trans (congrArg some (by kernel_rfl))
 f260:=Tryz.func232.trans (congrArg some (by kernel_rfl))
 f266:=Tryz.func149.trans (congrArg some (by kernel_rfl))
 f271:=Tryz.func211.trans (congrArg some (by kernel_rfl))
 t0:=Tryz.underlying0
 a0:=Tryz.isAgg0
 z0:=Tryz.sizeOf0
 v0:=Tryz.zeroValue0
 t3:=Tryz.underlying3
 a3:=Tryz.isAgg3
 z3:=Tryz.sizeOf3
 v3:=Tryz.zeroValue3
 t4:=Tryz.underlying4
 a4:=Tryz.isAgg4
 z4:=Tryz.sizeOf4
 v4:=Tryz.zeroValue4
 t5:=Tryz.underlying5
 a5:=Tryz.isAgg5
 z5:=Tryz.sizeOf5
 v5:=Tryz.zeroValue5
 t9:=Tryz.underlying9
 a9:=Tryz.isAgg9
 z9:=Tryz.sizeOf9
 v9:=Tryz.zeroValue9
 t21:=Tryz.underlying21
 a21:=Tryz.isAgg21
 z21:=Tryz.sizeOf21
 v21:=Tryz.zeroValue21
 t46:=Tryz.underlying185
 a46:=Tryz.isAgg185
 z46:=Tryz.sizeOf185
 v46:=Tryz.zeroValue185
 t105:=Tryz.underlying209
 a105:=Tryz.isAgg209
 z105:=Tryz.sizeOf209
 v105:=Tryz.zeroValue209
 t116:=Tryz.underlying188
 a116:=Tryz.isAgg188
 z116:=Tryz.sizeOf188
 t117:=Tryz.underlying189
 a117:=Tryz.isAgg189
 z117:=Tryz.sizeOf189
 v117:=Tryz.zeroValue189
 t119:=Tryz.underlying241
 a119:=Tryz.isAgg241
 z119:=Tryz.sizeOf241
 t124:=Tryz.underlying192
 a124:=Tryz.isAgg192
 z124:=Tryz.sizeOf192
 v124:=Tryz.zeroValue192
 t138:=Tryz.underlying243
 a138:=Tryz.isAgg243
 z138:=Tryz.sizeOf243
 v138:=Tryz.zeroValue243
 t139:=Tryz.underlying244
 a139:=Tryz.isAgg244
 z139:=Tryz.sizeOf244
 v139:=Tryz.zeroValue244
 g3:=by kernel_rfl
 g4:=by kernel_rfl }
end Go.Proofs

namespace Go.Wk
open Go Go.HL
def Er (e:Int):Prop:=0<=e/\e<=20
theorem er_ite {p:Prop} [Decidable p] {a b:Int} (ha:Er a) (hb:Er b):Er (if p then a else b):=by split;exact ha;exact hb
theorem er_0:Er 0:=⟨by decide,by decide⟩
theorem er_firstE : ∀ {l:List Int},(∀e∈l,Er e)->Er (firstE l):=by
 intro l
 induction l with
 | nil=>intro _;exact er_0
 | cons e r ih =>
  intro h
  unfold firstE
  exact er_ite (ih fun x hx=>h x (List.mem_cons_of_mem _ hx)) (h e (List.mem_cons_self ..))
theorem er_of {e:Int} (h:e=0\/e=2\/e=3\/e=5\/e=6\/e=7\/e=8\/e=9\/e=10\/e=20):Er e:=by unfold Er;omega
variable {A : AT}
theorem er_may (p:ByteArray):Er (mayE p):=by unfold mayE;exact er_ite (er_of (by omega)) (er_ite (er_of (by omega)) (er_ite (er_of (by omega)) er_0))
theorem er_named (p:ByteArray):Er (namedE p):=by unfold namedE;exact er_ite (er_of (by omega)) (er_ite er_0 (er_of (by omega)))
theorem er_like (k m:Int) (d:ByteArray):Er (likeE k m d):=by unfold likeE;exact er_ite er_0 (er_of (by omega))
theorem er_dirE (d:Int):Er (A.dirE d):=by
 unfold AT.dirE;split;exact er_of (by omega);exact er_ite er_0 (er_of (by omega))
theorem er_fileE (d:Int):Er (A.fileE d):=by
 unfold AT.fileE;split;exact er_of (by omega);exact er_ite (er_of (by omega)) (er_ite er_0 (er_of (by omega)))
theorem er_room (i n:Int):Er (A.roomE i n):=by unfold AT.roomE;exact er_ite er_0 (er_of (by omega))
theorem er_steps {go:Int->ByteArray->Int->Int×Pl×Int} {fo:Bool} (hgo:∀d s h,Er (go d s h).1) : ∀ (l:List ByteArray) (p:Pl) (h:Int),Er (A.steps go fo l p h).1:=by
 intro l
 induction l with
 | nil=>intro p h;exact er_0
 | cons n r ih =>
  intro p h
  unfold AT.steps
  simp only
  by_cases h1:p.there=false
  ·rw[if_pos h1];exact er_of (by omega)
  rw[if_neg h1]
  by_cases h2:A.kind p.ino≠2
  ·rw[if_pos h2];exact er_of (by omega)
  rw[if_neg h2]
  by_cases h3:sEq n ⟨⟨[46,46]⟩⟩=true
  ·rw[if_pos h3];exact ih _ _
  rw[if_neg h3]
  by_cases h4:n.size>56
  ·rw[if_pos h4];exact er_of (by omega)
  rw[if_neg h4]
  split
  ·exact ih _ _
  ·split
   ·exact er_of (by omega)
   ·split
    ·exact hgo _ _ _
    ·exact ih _ _
theorem er_walk : ∀ (f:Nat) (d:Int) (p:ByteArray) (fo:Bool) (h:Int),Er (A.walk f d p fo h).1:=by
 intro f
 induction f with
 | zero=>intro _ _ _ _;exact er_of (by unfold AT.walk;omega)
 | succ f ih =>
  intro d p fo h
  unfold AT.walk
  simp only
  split
  ·exact er_may p
  ·exact er_steps (fun d s h=>ih d s true h) _ _ _
theorem er_locate (cwd path:ByteArray) (fo:Bool):Er (A.locate cwd path fo).1:=by
 unfold AT.locate
 simp only
 split
 ·exact er_of (by omega)
 split
 ·exact er_walk _ _ _ _ _
 split
 ·exact er_of (by omega)
 split
 ·exact er_walk _ _ _ _ _
 split
 ·exact er_of (by omega)
 split
 ·exact er_of (by omega)
 ·exact er_walk _ _ _ _ _
theorem er_with (cwd path:ByteArray) (fo:Bool):Er (A.with_ cwd path fo).1:=by
 unfold AT.with_
 simp only
 split
 ·exact er_locate _ _ _
 split
 ·exact er_of (by omega)
 ·split
  ·exact er_of (by omega)
  ·exact er_0
theorem er_stat (cwd path:ByteArray) (fo:Bool):Er (A.stat cwd path fo).1:=er_with cwd path fo
theorem er_read (cwd path:ByteArray):Er (A.read cwd path).1:=by
 unfold AT.read
 simp only
 split
 ·exact er_with _ _ _
 split
 ·exact er_of (by omega)
 ·exact er_0
theorem er_fresh (cwd path:ByteArray):Er (A.freshP cwd path).1:=by
 unfold AT.freshP
 simp only
 split
 ·exact er_locate _ _ _
 split
 ·exact er_of (by omega)
 ·exact er_0
theorem er_make (d:Int) (n:ByteArray) (k m:Int) (s:ByteArray):Er (A.makeR d n k m s).2.1:=by
 unfold AT.makeR
 split
 ·exact er_0
 ·unfold AT.makeE
  refine er_firstE fun e he => ?_
  simp only[List.mem_cons,List.not_mem_nil,or_false]at he
  rcases he with rfl | rfl | rfl | rfl | rfl | rfl
  ·exact er_0
  ·exact er_dirE _
  ·exact er_named _
  ·exact er_like _ _ _
  ·exact er_ite (er_of (by omega)) er_0
  ·exact er_room _ _
theorem er_mkdir (cwd path:ByteArray):Er (A.mkdirF cwd path).1:=by
 unfold AT.mkdirF
 simp only
 split
 ·exact er_fresh _ _
 split
 ·exact er_of (by omega)
 ·exact er_make _ _ _ _ _
theorem er_symlink (cwd tq path:ByteArray):Er (A.symlinkF cwd tq path).1:=by
 unfold AT.symlinkF
 simp only
 split
 ·exact er_of (by omega)
 split
 ·exact er_fresh _ _
 ·exact er_make _ _ _ _ _
theorem er_writeR (i:Int) (d:ByteArray):Er (A.writeR i d).1:=by
 unfold AT.writeR
 split
 ·exact er_0
 ·unfold AT.writeE
  refine er_firstE fun e he => ?_
  simp only[List.mem_cons,List.not_mem_nil,or_false]at he
  rcases he with rfl | rfl | rfl
  ·exact er_0
  ·exact er_fileE _
  ·exact er_room _ _
theorem er_write (cwd path d:ByteArray) (m:Bool):Er (A.writeF cwd path d m).1:=by
 unfold AT.writeF
 simp only
 split
 ·exact er_locate _ _ _
 split
 ·exact er_make _ _ _ _ _
 split
 ·exact er_of (by omega)
 ·exact er_writeR _ _
theorem er_chmod (cwd path:ByteArray) (m:Int):Er (A.chmodF cwd path m).1:=by
 unfold AT.chmodF
 simp only
 split
 ·exact er_of (by omega)
 split
 ·exact er_with _ _ _
 ·unfold AT.chmodR
  split
  ·exact er_0
  ·unfold AT.chmodE
   refine er_firstE fun e he => ?_
   simp only[List.mem_cons,List.not_mem_nil,or_false]at he
   rcases he with rfl | rfl | rfl
   ·exact er_0
   ·exact er_ite er_0 (er_of (by omega))
   ·exact er_ite er_0 (er_of (by omega))
theorem er_unlink (d:Int) (n:ByteArray):Er (A.unlinkR d n).1:=by
 unfold AT.unlinkR
 split
 ·exact er_0
 ·unfold AT.unlinkE
  refine er_firstE fun e he => ?_
  simp only[List.mem_cons,List.not_mem_nil,or_false]at he
  rcases he with rfl | rfl | rfl | rfl
  ·exact er_0
  ·exact er_dirE _
  ·exact er_ite er_0 (er_of (by omega))
  ·exact er_ite er_0 (er_of (by omega))
theorem er_remove (cwd path:ByteArray):Er (A.removeF cwd path).1:=by
 unfold AT.removeF
 simp only
 split
 ·exact er_locate _ _ _
 split
 ·exact er_of (by omega)
 split
 ·exact er_of (by omega)
 split
 ·exact er_of (by omega)
 ·exact er_unlink _ _
theorem er_both (cwd src tq:ByteArray):Er (A.both cwd src tq).1:=by
 unfold AT.both
 simp only
 split
 ·exact er_locate _ _ _
 ·exact er_locate _ _ _
theorem er_link (d:Int) (n:ByteArray) (i:Int):Er (A.linkR d n i).1:=by
 unfold AT.linkR
 split
 ·exact er_0
 ·unfold AT.linkE
  refine er_firstE fun e he => ?_
  simp only[List.mem_cons,List.not_mem_nil,or_false]at he
  rcases he with rfl | rfl | rfl | rfl | rfl
  ·exact er_0
  ·exact er_dirE _
  ·exact er_named _
  ·exact er_fileE _
  ·exact er_ite (er_of (by omega)) er_0
theorem er_hard (cwd src tq:ByteArray):Er (A.hardF cwd src tq).1:=by
 unfold AT.hardF
 simp only
 split
 ·exact er_both _ _ _
 split
 ·exact er_of (by omega)
 split
 ·exact er_of (by omega)
 split
 ·exact er_of (by omega)
 split
 ·exact er_of (by omega)
 ·exact er_link _ _ _
theorem er_over (p q:Pl):Er (A.overE p q):=by
 unfold AT.overE
 simp only
 repeat' split
 all_goals first
  | exact er_0
  | exact er_of (by omega)
theorem er_move (s:Int) (n:ByteArray) (t:Int) (a:ByteArray) (f:Nat):Er (A.moveR s n t a f).1:=by
 unfold AT.moveR
 simp only
 by_cases h:A.moveE1 s n t a≠0\/(s=t/\n=a)
 ·rw[if_pos h]
  show Er (A.moveE1 s n t a)
  unfold AT.moveE1
  refine er_firstE fun e he => ?_
  simp only[List.mem_cons,List.not_mem_nil,or_false]at he
  rcases he with rfl | rfl | rfl | rfl | rfl
  ·exact er_0
  ·exact er_dirE _
  ·exact er_dirE _
  ·exact er_named _
  ·exact er_ite er_0 (er_of (by omega))
 ·rw[if_neg h,apply_ite Prod.fst]
  refine er_ite (er_firstE fun e he => ?_) er_0
  simp only[List.mem_cons,List.not_mem_nil,or_false]at he
  rcases he with rfl | rfl
  ·exact er_ite (er_of (by omega)) er_0
  ·exact er_ite er_0 (er_of (by omega))
theorem er_rename (cwd src tq:ByteArray):Er (A.renameF cwd src tq).1:=by
 unfold AT.renameF
 simp only
 split
 ·exact er_both _ _ _
 split
 ·exact er_of (by omega)
 split
 ·exact er_of (by omega)
 split
 ·exact er_0
 split
 ·exact er_over _ _
 split
 ·split
  ·exact er_unlink _ _
  ·exact er_move _ _ _ _ _
 ·exact er_move _ _ _ _ _
theorem er_made (cwd path:ByteArray):Er (A.madeF cwd path).1:=by
 unfold AT.madeF
 simp only
 split
 ·exact er_0
 ·exact er_mkdir _ _
theorem er_all (cwd:ByteArray) : ∀ (l:List ByteArray) (A:AT),Er (A.allF cwd l).1:=by
 intro l
 induction l with
 | nil=>intro _;exact er_0
 | cons p r ih =>
  intro A
  unfold AT.allF
  simp only
  split
  ·exact ih _
  ·exact er_made _ _
theorem er_rmdir (cwd path:ByteArray):Er (A.rmdirP cwd path).1:=by
 unfold AT.rmdirP
 simp only
 split
 ·split
  ·exact er_remove _ _
  ·exact er_of (by omega)
 ·exact er_stat _ _ _
theorem er_chmodP (cwd how path:ByteArray):Er (A.chmodP cwd how path).1:=by
 unfold AT.chmodP
 split
 ·exact er_chmod _ _ _
 ·simp only
  split
  ·exact er_chmod _ _ _
  ·exact er_stat _ _ _
theorem er_lnP (cwd got src tq:ByteArray):Er (A.lnP cwd got src tq).1:=by
 unfold AT.lnP
 simp only
 by_cases h:hasL got 102&&((A.stat cwd tq false).1==0 && !((A.stat cwd tq false).2.kind==2))
 ·rw[if_pos h]
  split
  ·split
   ·exact er_symlink _ _ _
   ·exact er_hard _ _ _
  ·exact er_remove _ _
 ·rw[if_neg h]
  split
  ·split
   ·exact er_symlink _ _ _
   ·exact er_hard _ _ _
  ·exact er_0
theorem er_file (cwd src tq:ByteArray) (m:Int):Er (A.fileP cwd src tq m).1:=by
 unfold AT.fileP
 simp only
 have hx:Er (if(A.read cwd src).1==0 then A.writeF cwd tq (A.read cwd src).2 false else((A.read cwd src).1,A)).1:=by
  rw[apply_ite Prod.fst]
  exact er_ite (er_write _ _ _ _) (er_read _ _)
 generalize (if(A.read cwd src).1==0 then A.writeF cwd tq (A.read cwd src).2 false else((A.read cwd src).1,A))=X at hx ⊢
 rw[apply_ite Prod.fst]
 exact er_ite (er_chmod _ _ _) hx
theorem er_rm (nm cwd got:ByteArray) : ∀ (f:Nat) (s:TS) (p:ByteArray),Er (TS.rm nm cwd got f s p).1:=by
 intro f s p
 cases f with
 | zero=>exact er_0
 | succ f =>
  unfold TS.rm
  simp only
  split
  ·exact er_0
  split
  ·exact er_stat _ _ _
  split
  ·exact er_of (by omega)
  ·exact er_remove _ _
theorem er_cp (nm cwd got:ByteArray) : ∀ (f:Nat) (s:TS) (a b:ByteArray),Er (TS.cp nm cwd got f s a b).1:=by
 intro f s a b
 cases f with
 | zero=>exact er_0
 | succ f =>
  unfold TS.cp
  simp only
  split
  ·exact er_stat _ _ _
  split
  ·exact er_symlink _ _ _
  split
  ·exact er_file _ _ _ _
  split
  ·exact er_of (by omega)
  split
  ·exact er_of (by omega)
  split
  ·exact er_made _ _
  ·exact er_0
theorem fmt_er {e:Int} (h:Er e):(fmtP 10 e).size<=100:=by
 obtain⟨h0,h1⟩:=h
 have h:e=0\/e=1\/e=2\/e=3\/e=4\/e=5\/e=6\/e=7\/e=8\/e=9\/e=10\/e=11\/e=12\/e=13\/e=14\/e=15\/e=16\/e=17\/e=18\/e=19\/e=20:=by omega
 rcases h with rfl | rfl | rfl | rfl | rfl | rfl | rfl | rfl | rfl | rfl | rfl | rfl | rfl | rfl | rfl | rfl | rfl | rfl | rfl | rfl | rfl<;>decide +kernel
end Go.Wk

namespace Go.Wk
open Go Go.HL
structure Pot (M:Nat) (A:AT):Prop where
 inv:Inv A
 bd:Bd (M+A.ui.toNat) A
theorem Pot.ui {M:Nat} {A:AT} (h:Pot M A):0<=A.ui/\A.ui<=1048576:=by
 have h1:=h.inv.ui;have h2:=h.inv.uq;omega
theorem Pot.bd' {M:Nat} {A:AT} (h:Pot M A):Bd (M+1048576) A:=h.bd.mono (by have:=h.ui;omega)
theorem Pot.of {N:Nat} {A:AT} (h:Inv A) (hb:Bd N A):Pot N A:=⟨h,hb.mono (by omega)⟩
section
variable {M : Nat} {A : AT}
theorem Pot.make (h:Pot M A) (hM:M<=1000000000000) {dir:Int} {name:ByteArray} {kind mode:Int} {data:ByteArray} (hs:data.size<4611686018427387904) (hdp:A.isDir dir->kind=2 -> ∃d,A.deep 11 dir=some d):Pot M (A.makeR dir name kind mode data).2.2:=by
 have hu:=h.ui
 obtain⟨h1,h2,_⟩:=makeR_ok (dir:=dir) (name:=name) (kind:=kind) (mode:=mode) (data:=data) h.inv h.bd (by omega) hs hdp
 by_cases he:A.makeE dir name kind mode data=0
 ·rw[makeR_z he]at h1 h2 ⊢
  refine⟨h1,h2.mono ?_⟩
  have:(A.made dir name kind mode data).ui=A.ui+1:=by
   show wr (A.ui+1)=_
   exact wr_id (by omega) (by omega)
  show M+A.ui.toNat+1<=M+(A.made dir name kind mode data).ui.toNat
  rw[this];omega
 ·rw[makeR_n he];exact h
theorem Pot.mkdir (h:Pot M A) (hM:M<=1000000000000) (cwd path:ByteArray):Pot M (A.mkdirF cwd path).2:=by
 unfold AT.mkdirF
 simp only
 by_cases h1:(A.freshP cwd path).1≠0
 ·rw[if_pos h1];exact h
 rw[if_neg h1]
 by_cases h2:(A.deep 13 (A.freshP cwd path).2.dir).getD 0>=12
 ·rw[if_pos h2];exact h
 rw[if_neg h2]
 refine h.make hM (by decide) fun hd _ => ?_
 obtain⟨d,hd13,hd12,_⟩:=h.inv.deep13 hd
 rw[hd13]at h2
 simp only[Option.getD_some]at h2
 exact⟨d,deep_low hd12 11 (by omega)⟩
theorem Pot.symlink (h:Pot M A) (hM:M<=1000000000000) (cwd target path:ByteArray):Pot M (A.symlinkF cwd target path).2:=by
 unfold AT.symlinkF
 simp only
 cases hl:linkOk target with
 | false=>exact h
 | true =>
  simp only[Bool.true_eq_false,if_false]
  by_cases h1:(A.freshP cwd path).1≠0
  ·rw[if_pos h1];exact h
  rw[if_neg h1]
  refine h.make hM ?_ (fun _ hk=>by cases hk)
  unfold linkOk at hl
  simp only[Bool.and_eq_true,decide_eq_true_eq]at hl
  omega
theorem writeR_ui (A:AT) (i:Int) (d:ByteArray):(A.writeR i d).2.ui=A.ui:=by
 unfold AT.writeR
 split
 ·unfold AT.written
  split<;>rfl
 ·rfl
theorem chmodR_ui (A:AT) (i m:Int):(A.chmodR i m).2.ui=A.ui:=by
 unfold AT.chmodR
 split
 ·unfold AT.chmoded AT.mod
  split<;>rfl
 ·rfl
theorem data_size {A:AT} (hI:Inv A) (i:Int):(A.data i).size<=1073741824:=by
 have hq:=hI.bq
 unfold AT.data
 cases hg:A.get i with
 | none=>decide
 | some n=>have:=hI.size_le hg;show n.data.size<=_;omega
theorem Pot.write (h:Pot M A) (hM:M<=1000000000000) (cwd path data:ByteArray) (more:Bool) (hs:data.size<2305843009213693952):Pot M (A.writeF cwd path data more).2:=by
 unfold AT.writeF
 simp only
 by_cases h1:(A.locate cwd path true).1≠0
 ·rw[if_pos h1];exact h
 rw[if_neg h1]
 by_cases h2:(A.locate cwd path true).2.there=false
 ·rw[if_pos h2];exact h.make hM (by omega) (fun _ hk=>by cases hk)
 rw[if_neg h2]
 by_cases h3:A.kind (A.locate cwd path true).2.ino=2
 ·rw[if_pos h3];exact h
 rw[if_neg h3]
 obtain⟨a,b,_⟩:=writeR_ok h.inv h.bd (A.locate cwd path true).2.ino (if more then A.data (A.locate cwd path true).2.ino++data else data) (by
  have:=data_size h.inv (A.locate cwd path true).2.ino
  cases more with
  | false=>simp only[Bool.false_eq_true,if_false];omega
  | true=>simp only[if_true,ByteArray.size_append];omega)
 exact⟨a,by rw[writeR_ui];exact b⟩
theorem Pot.chmod (h:Pot M A) (cwd path:ByteArray) (m:Int):Pot M (A.chmodF cwd path m).2:=by
 unfold AT.chmodF
 simp only
 split
 ·exact h
 split
 ·exact h
 obtain⟨a,b,_⟩:=chmodR_ok h.inv h.bd (A.with_ cwd path true).2.1 m
 exact⟨a,by rw[chmodR_ui];exact b⟩
theorem Pot.made (h:Pot M A) (hM:M<=1000000000000) (cwd path:ByteArray):Pot M (A.madeF cwd path).2:=by
 unfold AT.madeF
 simp only
 split<;>exact h.mkdir hM cwd path
theorem Pot.all (hM:M<=1000000000000) (cwd:ByteArray) : ∀ (l:List ByteArray) (A:AT),Pot M A->Pot M (A.allF cwd l).2:=by
 intro l
 induction l with
 | nil=>intro A h;exact h
 | cons p r ih =>
  intro A h
  unfold AT.allF
  simp only
  split
  ·exact ih _ (h.made hM cwd p)
  ·exact h.made hM cwd p
theorem with_data {A:AT} (hI:Inv A) (cwd p:ByteArray) (fo:Bool):(A.with_ cwd p fo).2.2.data.size<=1073741824:=by
 have h0:IN.z.data.size<=1073741824:=by decide
 unfold AT.with_
 simp only
 split
 ·exact h0
 split
 ·exact h0
 split
 ·exact h0
 ·rename_i n hg
  have hq:=hI.bq
  have:=hI.size_le hg
  show n.data.size<=_
  omega
theorem read_size {A:AT} (hI:Inv A) (cwd p:ByteArray):(A.read cwd p).2.size<=1073741824:=by
 have h0:(⟨⟨[]⟩⟩:ByteArray).size<=1073741824:=by decide
 unfold AT.read
 simp only
 split
 ·exact h0
 split
 ·exact h0
 ·exact with_data hI cwd p true
theorem Pot.file (h:Pot M A) (hM:M<=1000000000000) (cwd src tq:ByteArray) (m:Int):Pot M (A.fileP cwd src tq m).2:=by
 unfold AT.fileP
 simp only
 have hx:Pot M (if(A.read cwd src).1==0 then A.writeF cwd tq (A.read cwd src).2 false else((A.read cwd src).1,A)).2:=by
  split
  ·exact h.write hM _ _ _ _ (by have:=read_size h.inv cwd src;omega)
  ·exact h
 generalize (if(A.read cwd src).1==0 then A.writeF cwd tq (A.read cwd src).2 false else((A.read cwd src).1,A))=X at hx ⊢
 split
 ·exact hx.chmod _ _ _
 ·exact hx
end
theorem fail_A (nm:ByteArray) (s:TS) (n:ByteArray) (e:Int):(s.fail nm n e).A=s.A:=by unfold TS.fail;split<;>rfl
theorem fail_out (nm:ByteArray) (s:TS) (n:ByteArray) (e:Int):(s.fail nm n e).out=s.out:=by unfold TS.fail;split<;>rfl
theorem fail_err (nm:ByteArray) (s:TS) (n:ByteArray) (e:Int):s.err.size<=(s.fail nm n e).err.size:=by
 unfold TS.fail
 split
 ·exact Nat.le_refl _
 ·show s.err.size<=(s.err++failT nm n e).size
  rw[ByteArray.size_append];omega
theorem Pot.cp {M:Nat} (hM:M<=1000000000000) (nm cwd got:ByteArray) : ∀ (f:Nat) (s:TS) (a b:ByteArray),Pot M s.A->Pot M (TS.cp nm cwd got f s a b).2.A:=by
 intro f
 induction f with
 | zero=>intro s a b h;exact h
 | succ f ih =>
  intro s a b h
  unfold TS.cp
  simp only
  split
  ·exact h
  split
  ·exact h.symlink hM _ _ _
  split
  ·exact h.file hM _ _ _ _
  split
  ·exact h
  split
  ·exact h
  split
  ·exact h.made hM _ _
  ·have key : ∀ (l : List ByteArray) (t : TS), Pot M t.A -> Pot M (l.foldl (fun t n => if t.full then t else let y := TS.cp nm cwd got f t (joinT a n) (joinT b n); y.2.fail nm (joinT a n) y.1) t).A := by
    intro l
    induction l with
    | nil=>intro t h;exact h
    | cons n r ihl =>
     intro t h
     rw[List.foldl_cons]
     refine ihl _ ?_
     split
     ·exact h
     ·simp only[fail_A];exact ih _ _ _ h
   exact key _ _ (h.made hM _ _)
theorem cp_err (nm cwd got:ByteArray) : ∀ (f:Nat) (s:TS) (a b:ByteArray),s.err.size<=(TS.cp nm cwd got f s a b).2.err.size:=by
 intro f
 induction f with
 | zero=>intro s a b;exact Nat.le_refl _
 | succ f ih =>
  intro s a b
  unfold TS.cp
  simp only
  split
  ·exact Nat.le_refl _
  split
  ·exact Nat.le_refl _
  split
  ·exact Nat.le_refl _
  split
  ·exact Nat.le_refl _
  split
  ·exact Nat.le_refl _
  split
  ·exact Nat.le_refl _
  ·have key : ∀ (l : List ByteArray) (t : TS), t.err.size <= (l.foldl (fun t n => if t.full then t else let y := TS.cp nm cwd got f t (joinT a n) (joinT b n); y.2.fail nm (joinT a n) y.1) t).err.size := by
    intro l
    induction l with
    | nil=>intro t;exact Nat.le_refl _
    | cons n r ihl =>
     intro t
     rw[List.foldl_cons]
     refine Nat.le_trans ?_ (ihl _)
     split
     ·exact Nat.le_refl _
     ·exact Nat.le_trans (ih t _ _) (fail_err _ _ _ _)
   exact key _ { s with A:=(s.A.madeF cwd b).2 }
def rmStep (nm cwd got path:ByteArray) (f:Nat) (t:TS) (n:ByteArray):TS:=let x:=TS.rm nm cwd got f t (joinT path n);x.2.fail nm (joinT path n) x.1
def cpStep (nm cwd got a b:ByteArray) (f:Nat) (t:TS) (n:ByteArray):TS:=if t.full then t else let y:=TS.cp nm cwd got f t (joinT a n) (joinT b n);y.2.fail nm (joinT a n) y.1
theorem rm_inv {N:Nat} (hN:N<4611686018427387904) (nm cwd got:ByteArray) : ∀ (f:Nat) (s:TS) (p:ByteArray),Inv s.A/\Bd N s.A->Inv (TS.rm nm cwd got f s p).2.A/\Bd N (TS.rm nm cwd got f s p).2.A:=by
 intro f
 induction f with
 | zero=>intro s a h;exact h
 | succ f ih =>
  intro s a h
  unfold TS.rm
  simp only
  split
  ·exact h
  split
  ·exact h
  split
  ·exact h
  ·have key : ∀ (l : List ByteArray) (t : TS), Inv t.A /\ Bd N t.A -> Inv (l.foldl (rmStep nm cwd got a f) t).A /\ Bd N (l.foldl (rmStep nm cwd got a f) t).A := by
    intro l
    induction l with
    | nil=>intro t h;exact h
    | cons n r ihl =>
     intro t h
     rw[List.foldl_cons]
     refine ihl _ ?_
     unfold rmStep
     simp only[fail_A]
     exact ih _ _ h
   have q:Inv (if(s.A.stat cwd a false).2.kind==2 then(s.A.listF cwd a).2.foldl (rmStep nm cwd got a f) s else s).A/\Bd N (if(s.A.stat cwd a false).2.kind==2 then(s.A.listF cwd a).2.foldl (rmStep nm cwd got a f) s else s).A:=by
    split
    ·exact key _ _ h
    ·exact h
   have:=removeF_ok q.1 q.2 hN cwd a
   exact⟨this.inv,this.bd⟩
theorem rm_err (nm cwd got:ByteArray) : ∀ (f:Nat) (s:TS) (p:ByteArray),s.err.size<=(TS.rm nm cwd got f s p).2.err.size:=by
 intro f
 induction f with
 | zero=>intro s a;exact Nat.le_refl _
 | succ f ih =>
  intro s a
  unfold TS.rm
  simp only
  split
  ·exact Nat.le_refl _
  split
  ·exact Nat.le_refl _
  split
  ·exact Nat.le_refl _
  ·have key : ∀ (l : List ByteArray) (t : TS), t.err.size <= (l.foldl (rmStep nm cwd got a f) t).err.size := by
    intro l
    induction l with
    | nil=>intro t;exact Nat.le_refl _
    | cons n r ihl =>
     intro t
     rw[List.foldl_cons]
     refine Nat.le_trans ?_ (ihl _)
     exact Nat.le_trans (ih t _) (fail_err _ _ _ _)
   show s.err.size<=(if(s.A.stat cwd a false).2.kind==2 then(s.A.listF cwd a).2.foldl (rmStep nm cwd got a f) s else s).err.size
   split
   ·exact key _ _
   ·exact Nat.le_refl _
theorem rmRow_err (nm cwd got a:ByteArray) (f:Nat) : ∀ (l:List ByteArray) (t:TS),t.err.size<=(l.foldl (rmStep nm cwd got a f) t).err.size:=by
 intro l
 induction l with
 | nil=>intro t;exact Nat.le_refl _
 | cons n r ihl =>
  intro t
  rw[List.foldl_cons]
  refine Nat.le_trans ?_ (ihl _)
  exact Nat.le_trans (rm_err nm cwd got f t _) (fail_err _ _ _ _)
theorem cpRow_err (nm cwd got a b:ByteArray) (f:Nat) : ∀ (l:List ByteArray) (t:TS),t.err.size<=(l.foldl (cpStep nm cwd got a b f) t).err.size:=by
 intro l
 induction l with
 | nil=>intro t;exact Nat.le_refl _
 | cons n r ihl =>
  intro t
  rw[List.foldl_cons]
  refine Nat.le_trans ?_ (ihl _)
  unfold cpStep
  split
  ·exact Nat.le_refl _
  ·exact Nat.le_trans (cp_err nm cwd got f t _ _) (fail_err _ _ _ _)
theorem each_err {nm:ByteArray} {do_:TS->ByteArray->Int×TS} (h:∀t n,t.err.size<=(do_ t n).2.err.size) : ∀ (l:List ByteArray) (s:TS),s.err.size<=(TS.each nm do_ l s).err.size:=by
 intro l
 induction l with
 | nil=>intro s;exact Nat.le_refl _
 | cons n r ih =>
  intro s
  unfold TS.each
  split
  ·exact Nat.le_refl _
  ·exact Nat.le_trans (Nat.le_trans (h s n) (fail_err _ _ _ _)) (ih _)
theorem walk_may {A:AT} {f:Nat} {d:Int} {p:ByteArray} {fo:Bool} {h:Int} (hz:(A.walk (f+1) d p fo h).1=0):mayE p=0:=by
 unfold AT.walk at hz
 simp only at hz
 by_cases h1:mayE p≠0
 ·rw[if_pos h1]at hz;exact hz
 ·simpa using h1
theorem locate_may {A:AT} {cwd p:ByteArray} {fo:Bool} (hz:(A.locate cwd p fo).1=0):mayE p=0:=by
 unfold AT.locate at hz
 simp only at hz
 split at hz
 ·cases hz
 split at hz
 ·exact walk_may hz
 split at hz
 ·cases hz
 split at hz
 ·rename_i h1;exact absurd hz h1
 split at hz
 ·cases hz
 split at hz
 ·cases hz
 ·exact walk_may hz
theorem stat_may {A:AT} {cwd p:ByteArray} {fo:Bool} (hz:(A.stat cwd p fo).1=0):mayE p=0:=by
 have hz:(A.with_ cwd p fo).1=0:=hz
 unfold AT.with_ at hz
 simp only at hz
 split at hz
 ·rename_i h1;exact absurd hz h1
 ·rename_i h1;exact locate_may (by simpa using h1)
theorem mayE_size {p:ByteArray} (h:mayE p=0):p.size<=255:=by
 unfold mayE at h
 split at h
 ·cases h
 split at h
 ·cases h
 ·omega
theorem join_size (p n:ByteArray):(joinT p n).size=p.size+1+n.size:=by
 unfold joinT
 rw[ByteArray.size_append,ByteArray.size_append]
 rfl
end Go.Wk

set_option maxRecDepth 100000
namespace Go.Proofs.YtbdlkofldmhoaaaGreatDoor
open Go Go.HL Go.Wk
theorem trim_laid (l cs:List UInt8) (hl:l.length<=1000000000) (hc:cs.length<=100) (ha:∀c∈cs,c.toNat<128) {σ:H} {K:KH} (hK:K (.string ⟨⟨Lib.trimS l cs⟩⟩) σ):callW Tryz.prog 119 [.string ⟨⟨l⟩⟩,.string ⟨⟨cs⟩⟩] K σ:=by
 intro w hw
 refine callsIn_wide.2 ((Any.strings_Trim_laid Tryz.lays160 (by kernel_rfl) ⟨⟨l⟩⟩ ⟨⟨cs⟩⟩ w (by rw[bsz];omega) (by rw[bsz];omega) (ascii_of_all (List.all_eq_true.2 fun c h=>by simpa using ha c h))).mono ?_)
 rintro en w' ⟨rfl,hb⟩
 exact⟨_,rfl,σ,ext_below hw hb,hK⟩
attribute [local irreducible] ptrW ifW brW andW rdT alW letJ stW muW biW vaW imW callT cvalT app callW invW callVW sizeT oW nilF oneK loopW rfW funW begW roundK exW idxW Gr Put
theorem trimS_all (l cs:List UInt8):(Lib.trimS l cs).isEmpty=l.all fun c=>cs.contains c:=by
 show(List.dropWhile (fun c=>cs.contains c) (List.dropWhile (fun c=>cs.contains c) l.reverse).reverse).isEmpty=_
 exact trR_dig l _
theorem bare_len (l:List UInt8):(bareL l).length<=l.length:=by
 unfold bareL
 rw[List.length_reverse]
 have:=(List.dropWhile_sublist (· == 47) (l:=l.reverse)).length_le
 rw[List.length_reverse]at this;exact this
theorem wr_last (c:UInt8) (l:List UInt8) (h:l.length<=1000000000):IntKind.i64.wrap ((((lastN c l:Nat):Int) - 1)+1)=((lastN c l:Nat):Int):=by
 have:=lastN_le c l
 rw[wrap_id (by omega) (by omega)];omega
theorem ble_f {a b:Nat} (h:b<a):Nat.ble a b=false:=by rw[<-Bool.not_eq_true,Nat.ble_eq];omega
theorem drop_of {α:Type} {l:List α} {i:Nat} {n:α} (h:l[i]? = some n):l.drop i=n::l.drop (i+1):=by
 obtain⟨hi,e⟩:=List.getElem?_eq_some_iff.1 h
 rw[List.drop_eq_getElem_cons hi,e]
section
variable {σ : H}
theorem s_fiLast (l:List UInt8) (hl:l.length<=1000000000) {K:KH} (hK:K (.string (lastP ⟨⟨l⟩⟩)) σ):callW Tryz.prog 160 [.string ⟨⟨l⟩⟩] K σ:=by
 refine c160 _ ?_
 unfold g160
 refine call_i (x_TrimR1 47 (by decide) l (by omega) (app_S ?_))
 rw[show trR (· == 47) l=bareL l from rfl]
 have hbl:=bare_len l
 have hll:=lastN_le 47 (bareL l)
 refine call_i (x_LastIB 47 (bareL l) (by omega) (app_I ?_))
 rw[wr_last 47 _ (by omega),Int.toNat_natCast,ext_drop,(upto_last (bareL l)).2]
 exact if_i ⟨bnd_none,bnd_some (by omega) (by rw[bsz];omega)⟩ hK
theorem s_fiAhead (l:List UInt8) (hl:l.length<=1000000000) {K:KH} (hK:K (.string (aheadP ⟨⟨l⟩⟩)) σ):callW Tryz.prog 196 [.string ⟨⟨l⟩⟩] K σ:=by
 refine c196 _ ?_
 unfold g196
 refine call_i (x_TrimR1 47 (by decide) l (by omega) (app_S ?_))
 rw[show trR (· == 47) l=bareL l from rfl]
 have hbl:=bare_len l
 have hll:=lastN_le 47 (bareL l)
 refine call_i (x_LastIB 47 (bareL l) (by omega) (app_I ?_))
 rw[wr_last 47 _ (by omega),Int.toNat_natCast]
 refine if_i ⟨bnd_some (by omega) (by rw[bsz];omega),bnd_none⟩ ?_
 rw[show(⟨⟨bareL l⟩⟩:ByteArray).extract 0 (lastN 47 (bareL l))=⟨⟨upto (bareL l)⟩⟩from by rw[bex,List.drop_zero,(upto_last _).1]]
 have e:aheadP ⟨⟨l⟩⟩=if !(upto (bareL l)).isEmpty then⟨⟨upto (bareL l)⟩⟩else if headIs 47 ⟨⟨l⟩⟩then⟨⟨[47]⟩⟩else⟨⟨[46]⟩⟩:=rfl
 rw[e]at hK
 clear e
 rw[strEq_nil]
 cases hu:(upto (bareL l)).isEmpty with
 | false=>rw[hu]at hK;exact br_t rfl hK
 | true =>
  rw[hu]at hK
  refine br_f rfl (call_i (x_HasPrefix ⟨⟨l⟩⟩ ⟨⟨[47]⟩⟩ (app_B ?_)))
  rw[show List.isPrefixOf (⟨⟨[47]⟩⟩:ByteArray).data.toList (⟨⟨l⟩⟩:ByteArray).data.toList=headIs 47 ⟨⟨l⟩⟩from prefix_head _ 47]
  cases hh:headIs 47 ⟨⟨l⟩⟩ with
  | true=>rw[hh]at hK;exact br_t rfl hK
  | false=>rw[hh]at hK;exact br_f rfl hK
end
section
variable {σ τ : H} {bt : Nat} {C : TlC} {got : ByteArray} {y : Sl} {s : TS} {B : Nat -> Prop} {names : List ByteArray}
theorem s_fiMade {M:Nat} (h:TlAt σ bt C got y s B) (hp:Pot M s.A) (hM:M<=900000000000) (path:ByteArray) {K:KH} (hK:∀σ' B',TlAt σ' bt C got y { s with A:=(s.A.madeF C.cwd path).2 } B'->Sep σ B σ' B'->K (.int .i64 (s.A.madeF C.cwd path).1) σ'):callW Tryz.prog 101 [.pointer (some ⟨bt,0,none⟩),.string path] K σ:=by
 refine c101 _ _ ?_
 unfold g101
 refine ptr_i (rd_P (rdC_of h.cell (by rfl)) (ptr_i (rd_S (rdC_of h.cell (by rfl)) ?_)))
 obtain⟨B0,hF,hup⟩:=h.fs
 refine call_i (s_Mkdir hp.inv hp.bd' (by omega) hF _ _ ?_)
 intro σ1 B1 F1 S1
 obtain⟨B2,t1,s1⟩:=hup F1 S1
 refine app_I ?_
 have hm:s.A.madeF C.cwd path=if(s.A.mkdirF C.cwd path).1==6&&(s.A.mkdirF C.cwd path).2.dirB C.cwd path then(0,(s.A.mkdirF C.cwd path).2)else s.A.mkdirF C.cwd path:=rfl
 generalize hX:s.A.mkdirF C.cwd path=X at hm t1 ⊢
 obtain⟨e,A1⟩:=X
 simp only at hm t1 ⊢
 refine j_i (fun j => ∀b:Bool,b=(!(e==6) || !A1.dirB C.cwd path)->j e b σ1) ?_ ?_
 ·intro b hb
  cases b with
  | true =>
   have:(e==6&&A1.dirB C.cwd path)=false:=by cases h1:e==6<;>cases h2:A1.dirB C.cwd path<;>rw[h1,h2]at hb<;>first | rfl | cases hb
   rw[this,if_neg (by simp)]at hm
   rw[hm]at hK
   exact br_t rfl (hK σ1 B2 t1 s1)
  | false =>
   have:(e==6&&A1.dirB C.cwd path)=true:=by cases h1:e==6<;>cases h2:A1.dirB C.cwd path<;>rw[h1,h2]at hb<;>first | rfl | cases hb
   rw[this,if_pos rfl]at hm
   rw[hm]at hK
   exact br_f rfl (hK σ1 B2 t1 s1)
 ·intro j hj
  cases h1:e==6 with
  | false=>exact br_t (by rw[bne,h1];rfl) (hj true (by rw[h1];rfl))
  | true =>
   refine br_f (by rw[bne,h1];rfl) (call_i (s_fiDir t1 path (app_B (hj _ ?_))))
   rw[h1];rfl
theorem s_fiEachG (hy:RowsAt τ 1 (strRows names) y) (hl:names.length<=1000000) (fv:Value) (hnm:C.nm.size<=1000000) {I:List ByteArray->TS->H->(Nat->Prop)->Prop}
 (hI:∀r s σ B,I r s σ B->TlAt σ bt C got y s B/\Off τ σ B)
 (step:∀n r s σ B,I (n::r) s σ B->s.full=false->n∈names -> ∀K:Value->H->Prop,(∀e s1 σ1 B1,Er e->TlAt σ1 bt C got y s1 B1->Off τ σ1 B1->n.size<=1000000->s1.err.size<=1000000000000->(∀σ2,TlAt σ2 bt C got y (s1.fail C.nm n e) B1->Sep σ1 B1 σ2 B1->Off τ σ2 B1->I r (s1.fail C.nm n e) σ2 B1)->K (.int .i64 e) σ1)->callVW Tryz.prog fv [.string n] K σ)
 {K:KH} (hK:∀r s' σ' B',I r s' σ' B'->(r=[]\/s'.full=true)->K (.tuple ⟨[]⟩) σ') (h0:I names s σ B):callW Tryz.prog 97 [.pointer (some ⟨bt,0,none⟩),fv] K σ:=by
 obtain⟨ht,hO⟩:=hI _ _ _ _ h0
 refine c97 _ _ ?_
 unfold g97
 refine ptr_i (rd_Y (y:=y) (rdC_of ht.cell (by rfl)) ?_)
 have hyl:=sLen hy
 refine loop_i ?_
 intro R hR
 have key : ∀ (k i:Nat) (s:TS) (σ:H) (B:Nat->Prop),k+i=names.length->I (names.drop i) s σ B->R (some ⟨bt,0,none⟩) fv y ((y.len:Nat):Int) (i:Int) σ:=by
  intro k
  induction k with
  | zero =>
   intro i s σ B hk hi
   refine hR _ _ _ _ _ _ ?_
   exact br_f (by simp only[decide_eq_false_iff_not];omega) (hK _ _ _ _ hi (.inl (List.drop_eq_nil_of_le (by omega))))
  | succ k ih =>
   intro i s σ B hk hi
   obtain⟨n,hn⟩ : ∃n,names[i]? = some n:=⟨_,List.getElem?_eq_getElem (by omega)⟩
   obtain⟨ht,hO⟩:=hI _ _ _ _ hi
   obtain⟨g,o,a1,a2,a3⟩:=sRow (hy.gr hO.1) hn
   refine hR _ _ _ _ _ _ (br_t (by simp only[decide_eq_true_eq];omega) ?_)
   rw[a1]
   refine ptr_i (if_i ⟨by omega,by show _<((y.len:Nat):Int);omega⟩ (rd_S (by rw[Int.toNat_natCast];exact a3) (ptr_i (rd_B (rdC_of ht.cell (by rfl)) ?_))))
   cases hf:s.full with
   | true=>exact br_t rfl (hK _ _ _ _ hi (.inr hf))
   | false =>
    rw[drop_of hn]at hi
    refine br_f rfl (cvalv_i (step n _ s σ B hi hf (List.mem_of_getElem? hn) _ ?_))
    intro e s1 σ1 B1 he ht1 hO1 hz1 hz2 hI1
    refine app_I (call_i (s_fiFail ht1 n he.1 he.2 hnm hz1 hz2 (fmt_er he) ?_))
    intro σ2 r t2 s2
    refine app_B ?_
    rw[wrapS (i:=i) (by omega)]
    exact ih (i+1) _ σ2 B1 (by omega) (hI1 σ2 t2 s2 (hO1.sep s2))
 exact key names.length 0 s σ B (by omega) h0
theorem each_full {nm:ByteArray} {do_:TS->ByteArray->Int×TS} {l:List ByteArray} {s:TS} (h:s.full=true):TS.each nm do_ l s=s:=by
 cases l with
 | nil=>rfl
 | cons n r=>unfold TS.each;rw[if_pos h]
theorem s_fiEach {P:Nat->TS->Prop} {do_:TS->ByteArray->Int×TS} (hy:RowsAt τ 1 (strRows names) y) (hl:names.length<=1000000) (fv:Value) (hnm:C.nm.size<=1000000) (hnz:∀n∈names,n.size<=1000000)
 (her:∀s n,Er (do_ s n).1) (hmono:∀s n,s.err.size<=(do_ s n).2.err.size) (hP:∀k s n,P k s->k<names.length->P (k+1) ((do_ s n).2.fail C.nm n (do_ s n).1))
 (step:∀n s σ B k,n∈names->k<names.length->P k s->TlAt σ bt C got y s B->Off τ σ B->(do_ s n).2.err.size<=1000000000000 -> ∀K:Value->H->Prop,(∀σ' B',TlAt σ' bt C got y (do_ s n).2 B'->Sep σ B σ' B'->K (.int .i64 (do_ s n).1) σ')->callVW Tryz.prog fv [.string n] K σ)
 (h:TlAt σ bt C got y s B) (hO:Off τ σ B) (hp:P 0 s) (hz:(TS.each C.nm do_ names s).err.size<=1000000000000)
 {K:KH} (hK:∀σ' B' k,TlAt σ' bt C got y (TS.each C.nm do_ names s) B'->Sep σ B σ' B'->k<=names.length->P k (TS.each C.nm do_ names s)->K (.tuple ⟨[]⟩) σ'):callW Tryz.prog 97 [.pointer (some ⟨bt,0,none⟩),fv] K σ:=by
 refine s_fiEachG (got:=got) (C:=C) (y:=y) (I:=fun r s' σ' B'=>TlAt σ' bt C got y s' B'/\Off τ σ' B'/\Sep σ B σ' B'/\r.length<=names.length/\P (names.length - r.length) s'/\TS.each C.nm do_ r s'=TS.each C.nm do_ names s) hy hl fv hnm (fun r s σ B q=>⟨q.1,q.2.1⟩) ?_ ?_ ⟨h,hO,Sep.refl _ _,Nat.le_refl _,by rw[Nat.sub_self];exact hp,rfl⟩
 ·rintro n r s' σ' B' ⟨t1,o1,s1,l1,p1,e1⟩ hf hn K' hK'
  have e2:TS.each C.nm do_ (n::r) s'=TS.each C.nm do_ r ((do_ s' n).2.fail C.nm n (do_ s' n).1):=by
   show(if s'.full then s' else _)=_
   rw[hf];rfl
  rw[e2]at e1
  rw[List.length_cons]at l1 p1
  have z1:(do_ s' n).2.err.size<=1000000000000:=by
   refine Nat.le_trans (fail_err C.nm _ n (do_ s' n).1) (Nat.le_trans (each_err (nm:=C.nm) hmono r _) ?_)
   rw[e1];exact hz
  refine step n s' σ' B' _ hn (by omega) p1 t1 o1 z1 _ ?_
  intro σ2 B2 t2 s2
  exact hK' _ _ σ2 B2 (her _ _) t2 (o1.sep s2) (hnz n hn) z1 (fun σ3 t3 s3 o3=>⟨t3,o3,(s1.trans s2).trans s3,by omega,by
   have:=hP _ s' n p1 (by omega)
   rw[show names.length - r.length=names.length - (r.length+1)+1 from by omega];exact this,e1⟩)
 ·rintro r s' σ' B' ⟨t1,o1,s1,l1,p1,e1⟩ hr
  have:TS.each C.nm do_ r s'=s':=by
   rcases hr with rfl | hf
   ·rfl
   ·exact each_full hf
  rw[this]at e1
  subst e1
  exact hK σ' B' _ t1 s1 (by omega) p1
end
section
variable {σ τ : H} {bt : Nat} {C : TlC} {s : TS} {B : Nat -> Prop} {args : List ByteArray}
theorem s_fiOptions (h:TlAt σ bt C ⟨⟨[]⟩⟩ ⟨none,0,0⟩ s B) (hO:Off τ σ B) (hx:RowsAt τ 1 (strRows args) C.x) (hc:C.x.len<=C.x.cap) (lt:List UInt8) (hlt:lt.length<=100) (hasc:∀c∈lt,c.toNat<128) (ha:∀a∈args,a.size<=1000) (hl:args.length<=1000) {K:KH}
 (hno:optsP ⟨⟨lt⟩⟩ args ⟨⟨[]⟩⟩=none -> ∀σ' got',TlAt σ' bt C got' ⟨none,0,0⟩ s B->Sep σ B σ' B->K (.bool false) σ')
 (hyes:∀got' names,optsP ⟨⟨lt⟩⟩ args ⟨⟨[]⟩⟩=some (got',names) -> ∀σ' y',TlAt σ' bt C got' y' s B->Sep σ B σ' B->RowsAt τ 1 (strRows names) y'->y'.len<=y'.cap->K (.bool true) σ'):callW Tryz.prog 51 [.pointer (some ⟨bt,0,none⟩),.string ⟨⟨lt⟩⟩] K σ:=by
 refine c51 _ _ ?_
 unfold g51
 refine ptr_i (rd_Y (y:=C.x) (rdC_of h.cell (by rfl)) ?_)
 have hxl:=sLen hx
 have hB:B bt:=by obtain⟨_,_,_,_,q⟩:=h;exact(q bt).2 (.inr rfl)
 have sep : ∀ {τ τ':H} {o:Obj},Put τ bt o τ'->Sep τ B τ' B:=fun hp c oc hoc hn=>⟨hp.get (fun e=>hn (e ▸ hB)) hoc,hn⟩
 have sub : ∀i,i<=args.length->RowsAt τ 1 (strRows (args.drop i)) ⟨slBase C.x.base i C.x.cap 1,C.x.len - i,C.x.cap - i⟩:=by
  intro i hi
  have:=hx.sub hc (k:=i) (e:=args.length) (by omega) (by rw[strRows_len];exact Nat.le_refl _) (C.x.cap - i)
  rw[List.take_of_length_le (by rw[strRows_len];exact Nat.le_refl _)]at this
  rw[hxl]
  have e:(strRows args).drop i=strRows (args.drop i):=by unfold strRows;rw[List.map_drop]
  rw[<-e];exact this
 refine loop_i ?_
 intro R hR
 have key : ∀ (k i:Nat) (got:ByteArray) (σ1:H),k+i=args.length->optsP ⟨⟨lt⟩⟩ (args.drop i) got=optsP ⟨⟨lt⟩⟩ args ⟨⟨[]⟩⟩->TlAt σ1 bt C got ⟨none,0,0⟩ s B->Sep σ B σ1 B->got.size<=i * 1000->R (some ⟨bt,0,none⟩) ⟨⟨lt⟩⟩ C.x ((C.x.len:Nat):Int) (i:Int) σ1:=by
  intro k
  induction k with
  | zero =>
   intro i got σ1 hk ho t1 s1 _
   refine hR _ _ _ _ _ _ ?_
   refine br_f (by simp only[decide_eq_false_iff_not];omega) ?_
   rw[List.drop_eq_nil_of_le (by omega)]at ho
   exact hyes got [] ho.symm σ1 _ t1 s1 ⟨rfl,.inl rfl⟩ (Nat.le_refl _)
  | succ k ih =>
   intro i got σ1 hk ho t1 s1 hz
   obtain⟨a,hn⟩ : ∃a,args[i]? = some a:=⟨_,List.getElem?_eq_getElem (by omega)⟩
   have O1:=hO.sep s1
   obtain⟨g,o,a1,a2,a3⟩:=sRow (hx.gr O1.1) hn
   have haz:=ha a (List.mem_of_getElem? hn)
   rw[drop_of hn]at ho
   obtain⟨⟨l⟩⟩:=a
   have hlz:l.length<=1000:=haz
   have hop:optsP ⟨⟨lt⟩⟩ (⟨⟨l⟩⟩::args.drop (i+1)) got=if sEq ⟨⟨l⟩⟩ ⟨⟨[45,45]⟩⟩then some (got,args.drop (i+1))else if Nat.ble l.length 1 || !headIs 45 ⟨⟨l⟩⟩then some (got,⟨⟨l⟩⟩::args.drop (i+1))else if(l.drop 1).all (hasL ⟨⟨lt⟩⟩)then optsP ⟨⟨lt⟩⟩ (args.drop (i+1)) (got++⟨⟨l.drop 1⟩⟩)else none:=rfl
   rw[hop]at ho
   clear hop
   refine hR _ _ _ _ _ _ (br_t (by simp only[decide_eq_true_eq];omega) ?_)
   rw[a1]
   refine ptr_i (if_i ⟨by omega,by show _<((C.x.len:Nat):Int);omega⟩ (rd_S (by rw[Int.toNat_natCast];exact a3) ?_))
   rw[<-sEq_eq]
   cases h2:sEq ⟨⟨l⟩⟩ ⟨⟨[45,45]⟩⟩ with
   | true =>
    rw[h2,if_pos rfl]at ho
    refine br_t rfl (ptr_i (rd_Y (y:=C.x) (rdC_of t1.cell (by rfl)) ?_))
    rw[wrap_id (x:=(i:Int)+1) (by omega) (by omega),show(i:Int)+1=((i+1:Nat):Int)from by omega,Int.toNat_natCast]
    refine if_i ⟨bnd_none,bnd_some (by omega) (by omega)⟩ (ptr_i ?_)
    refine st_i2 t1.cell sz_strs (by rfl) (by rfl) ?_;intro σ2 p2
    exact hyes got _ ho.symm σ2 ⟨slBase C.x.base (i+1) C.x.cap 1,C.x.len - (i+1),C.x.cap - (i+1)⟩ (t1.say (got':=got) (y':=⟨slBase C.x.base (i+1) C.x.cap 1,C.x.len - (i+1),C.x.cap - (i+1)⟩) (s':=s) rfl p2) (s1.trans (sep p2)) (sub (i+1) (by omega)) (by show C.x.len - (i+1)<=C.x.cap - (i+1);omega)
   | false =>
    rw[h2,if_neg (by simp)]at ho
    refine br_f rfl (j_i (fun j => ∀b:Bool,b=(Nat.ble l.length 1 || !headIs 45 ⟨⟨l⟩⟩)->j (some ⟨bt,0,none⟩) ⟨⟨lt⟩⟩ (i:Int) ⟨⟨l⟩⟩ C.x ((C.x.len:Nat):Int) (i:Int) b σ1) ?_ ?_)
    ·intro b hb
     rw[<-hb]at ho
     cases b with
     | true =>
      rw[if_pos rfl]at ho
      refine br_t rfl (ptr_i (rd_Y (y:=C.x) (rdC_of t1.cell (by rfl)) ?_))
      rw[Int.toNat_natCast]
      refine if_i ⟨bnd_none,bnd_some (by omega) (by omega)⟩ (ptr_i ?_)
      refine st_i2 t1.cell sz_strs (by rfl) (by rfl) ?_;intro σ2 p2
      refine hyes got _ ho.symm σ2 ⟨slBase C.x.base i C.x.cap 1,C.x.len - i,C.x.cap - i⟩ (t1.say (got':=got) (y':=⟨slBase C.x.base i C.x.cap 1,C.x.len - i,C.x.cap - i⟩) (s':=s) rfl p2) (s1.trans (sep p2)) ?_ (by show C.x.len - i<=C.x.cap - i;omega)
      rw[<-drop_of hn]
      exact sub i (by omega)
     | false =>
      rw[if_neg (by simp)]at ho
      have hl2:1<l.length:=by
       cases hb1:Nat.ble l.length 1 with
       | true=>rw[hb1]at hb;cases hb
       | false=>exact Nat.not_le.1 fun h=>by rw[Nat.ble_eq_true_of_le h]at hb1;cases hb1
      refine br_f rfl (if_i ⟨bnd_none,bnd_some (by decide) (by rw[bsz];omega)⟩ ?_)
      rw[show((1:Int).toNat)=1 from rfl,ext_drop]
      refine call_i (trim_laid (l.drop 1) lt (by rw[List.length_drop];omega) hlt hasc (app_S ?_))
      rw[strEq_nil,trimS_all]
      rw[show(fun c=>lt.contains c)=hasL ⟨⟨lt⟩⟩from rfl]
      cases h3:(l.drop 1).all (hasL ⟨⟨lt⟩⟩) with
      | false =>
       rw[h3,if_neg (by simp)]at ho
       exact br_t rfl (hno ho.symm σ1 got t1 s1)
      | true =>
       rw[h3,if_pos rfl]at ho
       have hz2:(got++⟨⟨l.drop 1⟩⟩).size<=(i+1) * 1000:=by rw[ByteArray.size_append];show got.size+(l.drop 1).length<=_;rw[List.length_drop];omega
       refine br_f rfl (ptr_i (rd_S (rdC_of t1.cell (by rfl)) ?_))
       refine if_i ⟨bnd_none,bnd_some (by decide) (by rw[bsz];omega)⟩ (if_i (by rw[<-ByteArray.size_append];omega) (ptr_i ?_))
       refine st_i2 t1.cell sz_string (by rfl) (by rfl) ?_;intro σ2 p2
       rw[wrapS (i:=i) (by omega)]
       exact ih (i+1) _ σ2 (by omega) ho (t1.say (s':=s) rfl p2) (s1.trans (sep p2)) hz2
    ·intro j hj
     by_cases h3:l.length<2
     ·refine br_t (by rw[bsz,decide_eq_true_eq];omega) (hj true ?_)
      rw[show Nat.ble l.length 1=true from Nat.ble_eq_true_of_le (by omega)];rfl
     ·refine br_f (by rw[bsz,decide_eq_false_iff_not];omega) ?_
      obtain⟨c,r,rfl⟩ : ∃c r,l=c::r:=by
       cases l with
       | nil=>exact absurd (by decide) h3
       | cons c r=>exact⟨c,r,rfl⟩
      refine idx_l (c:=c) (by decide) (by rfl) (hj _ ?_)
      have h4:Nat.ble (c::r).length 1=false:=ble_f (by omega)
      rw[h4]
      show(!(((c.toNat:Nat):Int)==45))=(false || !(c==45))
      rw[show((((c.toNat:Nat):Int))==45)=(c==45)from u8e c 45]
      rfl
 exact key args.length 0 ⟨⟨[]⟩⟩ σ (by omega) rfl h (Sep.refl _ _) (Nat.zero_le _)
end
end Go.Proofs.YtbdlkofldmhoaaaGreatDoor

namespace Go.Wk
open Go Go.HL
variable {A : AT}
theorem names_mem' (h:Inv A) {d:Int} {s:ByteArray} (hm:s∈A.names d) : ∃j,A.find d s=some j:=by
 unfold AT.names at hm
 cases hn:A.get d with
 | none=>rw[hn]at hm;simp at hm
 | some n =>
  rw[hn]at hm
  simp only[sortN,List.mem_map]at hm
  obtain⟨l,hl,rfl⟩:=hm
  have:=(sortB_perm _).mem_iff.1 hl
  obtain⟨k,hk,rfl⟩:=List.mem_map.1 this
  show ∃j,A.find d k=some j
  unfold AT.find;rw[hn]
  cases hlk:lk k n.ents with
  | some j=>exact⟨j,hlk⟩
  | none=>exact absurd hk (lk_none_iff.1 hlk)
end Go.Wk

namespace Go.Wk
open Go Go.HL
def six:List ByteArray:=[⟨⟨[97]⟩⟩,⟨⟨[98]⟩⟩,⟨⟨[99]⟩⟩,⟨⟨[66]⟩⟩,⟨⟨[97,46,98]⟩⟩,⟨⟨[122]⟩⟩]
def pN:ByteArray:=⟨⟨[112]⟩⟩
def qN:ByteArray:=⟨⟨[113]⟩⟩
def rN:ByteArray:=⟨⟨[114]⟩⟩
structure SixOk (k:ByteArray):Prop where
 parts:partsB k=[k]
 may:mayE k=0
 head:headIs 47 k=false
 ne:sEq k ⟨⟨[]⟩⟩=false
 dd:sEq k ⟨⟨[46,46]⟩⟩=false
 sz:k.size<=3
 named:namedE k=0
 mayN:mayName k=true
theorem six_ok {k:ByteArray} (h:k∈six):SixOk k:=by
 simp only[six,List.mem_cons,List.mem_nil_iff,or_false]at h
 rcases h with rfl | rfl | rfl | rfl | rfl | rfl<;>exact⟨by decide +kernel,by decide +kernel,by decide +kernel,by decide +kernel,by decide +kernel,by decide +kernel,by decide +kernel,by decide +kernel⟩
def fl (data k:ByteArray):AN:=⟨1,420,data++k,1,0,[]⟩
def drN (es:List (ByteArray×Int)):AN:=⟨2,493,⟨⟨[]⟩⟩,1,1,es⟩
def DD (d:Int):Prop:=d=2\/d=3\/d=4
structure Ords (data:ByteArray) (A:AT) (E:Int->List (ByteArray×Int)) (m:Nat):Prop where
 inv:Inv A
 bd:Bd (10+m) A
 rt:A.get 1=some ⟨2,493,⟨⟨[]⟩⟩,1,1,[(pN,2),(qN,3),(rN,4)]⟩
 nd : ∀d,DD d->A.get d=some (drN (E d))
 he : ∀d,DD d -> ∀k i,lk k (E d)=some i->k∈six/\4<i/\A.get i=some (fl data k)
 dj : ∀d d' k k' i,DD d->DD d'->lk k (E d)=some i->lk k' (E d')=some i->d=d'
 qi:A.qi=100
 qb:A.qb=9000
 ui:A.ui<=4+m
 ub:A.ub<=63 * m
variable {A : AT} {data : ByteArray} {E : Int -> List (ByteArray × Int)} {m : Nat}
theorem Ords.find (h:Ords data A E m) {d:Int} (hd:DD d) (k:ByteArray):A.find d k=lk k (E d):=by
 unfold AT.find;rw[h.nd d hd];rfl
theorem Ords.kindD (h:Ords data A E m) {d:Int} (hd:DD d):A.kind d=2:=by
 unfold AT.kind;rw[h.nd d hd];rfl
theorem Ords.kindF (h:Ords data A E m) {d:Int} (hd:DD d) {k:ByteArray} {i:Int} (hk:lk k (E d)=some i):A.kind i=1:=by
 unfold AT.kind;rw[(h.he d hd k i hk).2.2];rfl
theorem Ords.kind1 (h:Ords data A E m):A.kind 1=2:=by
 unfold AT.kind;rw[h.rt];rfl
theorem walk_one {f:Nat} {at_:Int} {s n:ByteArray} {fo:Bool} {x:Int} (h1:mayE s=0) (h2:partsB s=[n]) (h3:sEq n ⟨⟨[46,46]⟩⟩=false) (h4:n.size<=56) {a:Int} (ha:(if headIs 47 s then 1 else at_)=a) (hk:A.kind a=2) (hc:(A.find a n).isSome=false\/A.kind ((A.find a n).getD 0)≠3) :
 A.walk (f+1) at_ s fo x=(0,⟨a,n,(A.find a n).getD 0,(A.find a n).isSome⟩,x):=by
 rw[AT.walk,if_neg (by rw[h1];decide)]
 simp only[ha,h2]
 rw[steps_name rfl hk h3 (by omega) (by rcases hc with h | h;exact .inl h;exact .inr (.inr h))]
 rfl
theorem Ords.cond (h:Ords data A E m) {d:Int} (hd:DD d) (k:ByteArray):(A.find d k).isSome=false\/A.kind ((A.find d k).getD 0)≠3:=by
 rw[h.find hd]
 cases hl:lk k (E d) with
 | none=>exact .inl rfl
 | some i=>refine .inr ?_;show A.kind i≠3;rw[h.kindF hd hl];decide
structure Top (c n:ByteArray) (d:Int):Prop where
 may:mayE c=0
 parts:partsB c=[n]
 dd:sEq n ⟨⟨[46,46]⟩⟩=false
 sz:n.size<=56
 head:headIs 47 c=true
 lk:lk n [(pN,(2:Int)),(qN,3),(rN,4)]=some d
 isD:DD d
theorem Ords.find1 (h:Ords data A E m) (n:ByteArray):A.find 1 n=lk n [(pN,(2:Int)),(qN,3),(rN,4)]:=by
 unfold AT.find;rw[h.rt];rfl
theorem Ords.loc (h:Ords data A E m) {c n:ByteArray} {d:Int} (hc:Top c n d) {k:ByteArray} (hk:k∈six):A.locate c k true=(0,⟨d,k,(lk k (E d)).getD 0,(lk k (E d)).isSome⟩):=by
 have s:=six_ok hk
 have hf:A.find 1 n=some d:=by rw[h.find1];exact hc.lk
 have w1:A.walk 10 1 c true 8=(0,⟨1,n,d,true⟩,8):=by
  have:=walk_one (A:=A) (f:=9) (at_:=1) (s:=c) (n:=n) (fo:=true) (x:=8) hc.may hc.parts hc.dd hc.sz (a:=1) (by simp[hc.head]) h.kind1 (.inr (by rw[hf];show A.kind d≠3;rw[h.kindD hc.isD];decide))
  rw[this,hf];rfl
 have w2:A.walk 10 d k true 8=(0,⟨d,k,(lk k (E d)).getD 0,(lk k (E d)).isSome⟩,8):=by
  have:=walk_one (A:=A) (f:=9) (at_:=d) (s:=k) (n:=k) (fo:=true) (x:=8) s.may s.parts s.dd (by have:=s.sz;omega) (a:=d) (by simp[s.head]) (h.kindD hc.isD) (h.cond hc.isD k)
  rw[this,h.find hc.isD]
 unfold AT.locate
 rw[if_neg (by rw[s.ne];decide),if_neg (by rw[s.head];decide),if_neg (by rw[hc.head];decide)]
 simp only[w1,w2,ne_eq,not_true_eq_false,if_false,Bool.true_eq_false,h.kindD hc.isD]
theorem Ords.same (h:Ords data A E m) {A':AT} {m':Nat} (hi:Inv A') (hb:Bd (10+m') A') (hg:∀j,A'.get j=A.get j) (q1:A'.qi=A.qi) (q2:A'.qb=A.qb) (u1:A'.ui<=4+m') (u2:A'.ub<=63 * m'):Ords data A' E m' :=
 ⟨hi,hb,by rw[hg];exact h.rt,fun d hd=>by rw[hg];exact h.nd d hd,fun d hd k i hk=>by rw[hg];exact h.he d hd k i hk,h.dj,by rw[q1];exact h.qi,by rw[q2];exact h.qb,u1,u2⟩
theorem Ords.levels (h:Ords data A E m) {d:Int} (hd:DD d) {k:ByteArray} {i:Int} (hk:lk k (E d)=some i):A.levels 14 i=0:=by
 rw[AT.levels,if_pos (by rw[h.kindF hd hk];decide)]
end Go.Wk

namespace Go.Wk
open Go Go.HL
theorem sortN_perm (l:List ByteArray):(sortN l).Perm l:=by
 unfold sortN
 have h:=(sortB_perm (l.map fun s=>s.data.toList)).map fun x=>(⟨⟨x⟩⟩:ByteArray)
 have e:((l.map fun s=>s.data.toList).map fun x=>(⟨⟨x⟩⟩:ByteArray))=l:=by
  rw[List.map_map]
  conv=>rhs;rw[<-List.map_id l]
  apply List.map_congr_left
  intro s _
  rfl
 rw[e]at h
 exact h
theorem sortN_eq {l l':List ByteArray} (h:l.Perm l'):sortN l=sortN l':=by
 unfold sortN
 have:sortB (l.map fun s=>s.data.toList)=sortB (l'.map fun s=>s.data.toList):=by
  refine List.Perm.eq_of_pairwise (le:=(· <= ·)) ?_ (sortB_sorted _) (sortB_sorted _) (((sortB_perm _).trans (h.map _)).trans (sortB_perm _).symm)
  intro a b _ _ h1 h2;exact List.le_antisymm h1 h2
 rw[this]
theorem sortN_lt {l:List ByteArray} (h:l.Nodup):(sortN l).Pairwise fun a b=>ltB a b=true:=by
 have h1:(sortN l).Pairwise fun a b=>a.data.toList<=b.data.toList:=by
  unfold sortN
  rw[List.pairwise_map]
  exact(sortB_sorted _).imp fun h=>h
 have h2:(sortN l).Nodup:=(sortN_perm l).nodup_iff.2 h
 have h3:=h1.and (show(sortN l).Pairwise (· ≠ ·)from h2)
 refine h3.imp ?_
 rintro a b ⟨q1,q2⟩
 unfold ltB
 cases hb:leB b.data.toList a.data.toList with
 | false=>rfl
 | true =>
  exfalso;apply q2
  exact bytes_ext (List.le_antisymm q1 ((leB_iff _ _).1 hb))
def fileT (data k:ByteArray):Tr := .mk k 1 false (data++k) []
def dirT (data:ByteArray) (es:List (ByteArray×Int)):Tr := .mk ⟨⟨[]⟩⟩ 2 false ⟨⟨[]⟩⟩ ((sortN (keysL es)).map (fileT data))
theorem file_may (data:ByteArray) : ∀ (l:List ByteArray) (prev:Option ByteArray),l.Pairwise (fun a b=>ltB a b=true)->(∀k∈l,above prev k=true/\k∈six)->Tr.mayRow prev (l.map (fileT data))=true:=by
 intro l
 induction l with
 | nil=>intro _ _ _;rfl
 | cons k r ih =>
  intro prev hp hk
  obtain⟨p1,p2⟩:=List.pairwise_cons.1 hp
  obtain⟨k1,k2⟩:=hk k (List.mem_cons_self ..)
  have h1:mayName (fileT data k).name=true:=(six_ok k2).mayN
  have h2:(fileT data k).may=true:=rfl
  have h3:above prev (fileT data k).name=true:=k1
  have h4:=ih (some k) p2 fun x hx=>⟨p1 x hx,(hk x (List.mem_cons_of_mem _ hx)).2⟩
  rw[List.map_cons,Tr.mayRow,h1,h2,h3]
  exact h4
variable {A : AT} {data : ByteArray} {E : Int -> List (ByteArray × Int)} {m : Nat}
theorem Ords.keys (h:Ords data A E m) {d:Int} (hd:DD d):(keysL (E d)).Nodup/\(∀k∈keysL (E d),k∈six /\ ∃i,lk k (E d)=some i)/\(E d).length<=10+m:=by
 refine⟨h.inv.enod d _ (h.nd d hd),fun k hk => ?_,h.bd.ents d _ (h.nd d hd)⟩
 cases hl:lk k (E d) with
 | none=>exact absurd hk (lk_none_iff.1 hl)
 | some i=>exact⟨(h.he d hd k i hl).1,i,rfl⟩
theorem Ords.may (h:Ords data A E m) {d:Int} (hd:DD d):(dirT data (E d)).may=true:=by
 obtain⟨h1,h2,_⟩:=h.keys hd
 have:=file_may data (sortN (keysL (E d))) none (sortN_lt h1) fun k hk=>⟨rfl,(h2 k ((sortN_perm _).mem_iff.1 hk)).1⟩
 rw[Tr.may_eq]
 show(if(2:Int)=1 then _ else if(2:Int)=3 then _ else if(2:Int)=2 then(!false&&(sEq ⟨⟨[]⟩⟩ ⟨⟨[]⟩⟩&&Tr.mayRow none ((sortN (keysL (E d))).map (fileT data))))else false)=true
 rw[if_neg (by decide),if_neg (by decide),if_pos rfl,this]
 rfl
def o0:AT:=newT 100 9000
def o1:AT:=(o0.mkdirF ⟨⟨[47]⟩⟩ pN).2
def o2:AT:=(o1.mkdirF ⟨⟨[47]⟩⟩ qN).2
def o3:AT:=(o2.mkdirF ⟨⟨[47]⟩⟩ rN).2
end Go.Wk

namespace Go.HL
open Go Go.Wk
theorem Sep.putF {σ σ1 σ2:H} {B B1:Nat->Prop} {b:Nat} {o:Obj} (h:Sep σ B σ1 B1) (hp:Put σ1 b o σ2) (hn:σ b=none):Sep σ B σ2 B1:=by
 intro c oc hc hb
 refine⟨hp.get (fun e => ?_) (h c oc hc hb).1,(h c oc hc hb).2⟩
 subst e;rw[hn]at hc;cases hc
theorem Sep.grR {σ σ1 σ2:H} {B B1:Nat->Prop} (h:Sep σ B σ1 B1) (hg:Gr σ1 σ2):Sep σ B σ2 B1:=fun b o hb hn=>⟨hg.get (h b o hb hn).1,(h b o hb hn).2⟩
theorem gr_add {τ σ:H} {b:Nat} {o:Obj} (h:Gr τ σ) (hb:σ b=some o):Gr τ (τ.put b o):=gr_of fun c oc hc=>by
 by_cases e:c=b
 ·subst e
  have:=h.get hc
  rw[hb]at this;cases this
  exact H.put_same _ _ _
 ·rw[H.put_other _ _ e];exact hc
end Go.HL
namespace Go.Wk
open Go Go.HL
theorem name_ne {s:ByteArray} (h:nameOk s):s.data.toList≠[]:=fun e=>h.1 (by cases s with | mk d=>cases d with | mk l=>simp at e;rw[e])
theorem namedE_ok {s:ByteArray} (h:namedE s=0):nameOk s/\stepOk s:=by
 unfold namedE at h
 split at h
 ·cases h
 ·rename_i h1
  split at h
  ·rename_i h2
   simp only[Bool.and_eq_true,Bool.not_eq_true']at h2
   obtain⟨⟨⟨a,b⟩,c⟩,d⟩:=h2
   refine⟨⟨?_,?_,d⟩,?_,by omega⟩
   ·intro e;rw[e]at a;exact absurd a (by decide)
   ·intro e;rw[e]at b;exact absurd b (by decide)
   ·intro e;rw[e]at c;exact absurd c (by decide)
  ·cases h
theorem find_name {A:AT} (hI:Inv A) {d:Int} {s:ByteArray} {j:Int} (hf:A.find d s=some j):nameOk s/\stepOk s /\ ∃m,A.get j=some m:=by
 obtain⟨n,hn,_,hl,_,m,hm,_⟩:=hI.find hf
 obtain⟨a,b⟩:=namedE_ok (hI.ent d n s j hn hl).1
 exact⟨a,b,m,hm⟩
theorem listF_name {A:AT} {cwd path:ByteArray} (hI:Inv A) {s:ByteArray} (h:s∈(A.listF cwd path).2):nameOk s/\stepOk s:=by
 unfold AT.listF at h
 simp only at h
 split at h
 ·cases h
 ·split at h
  ·cases h
  ·obtain⟨j,hj⟩:=names_mem' hI h
   obtain⟨o1,o2,_⟩:=find_name hI hj
   exact⟨o1,o2⟩
theorem listF_len {A:AT} {cwd path:ByteArray} {N:Nat} (hB:Bd N A):(A.listF cwd path).2.length<=N:=by
 unfold AT.listF
 simp only
 split
 ·exact Nat.zero_le _
 ·split
  ·exact Nat.zero_le _
  ·unfold AT.names
   split
   ·exact Nat.zero_le _
   ·rename_i n hn
    have:=hB.ents _ n hn
    rw[(sortN_perm _).length_eq,keysL,List.length_map];exact this
theorem head_idx {s:ByteArray} (h:s.data.toList≠[]) : ∃c,s.data.toList[0]? = some c/\headIs 46 s=(c==46):=by
 unfold headIs
 cases hs:s.data.toList with
 | nil=>exact absurd hs h
 | cons c r=>exact⟨c,rfl,rfl⟩
end Go.Wk

set_option maxRecDepth 100000
namespace Go.Proofs.YtbdlkofldmhoaaaGreatDoor
open Go Go.HL Go.Wk
attribute [local irreducible] ptrW ifW brW andW rdT alW letJ stW muW biW vaW imW callT cvalT app callW invW callVW sizeT oW nilF oneK loopW rfW funW begW roundK exW idxW Gr Put
theorem TlAt.has {σ:H} {bt b:Nat} {C:TlC} {got:ByteArray} {y:Sl} {s:TS} {B:Nat->Prop} (h:TlAt σ bt C got y s B) (hb:B b):σ b≠none:=by
 obtain⟨B0,h1,h2,h3,h4⟩:=h
 rcases(h4 b).1 hb with e | e
 ·obtain⟨o,ho⟩:=h2.has e
  rw[ho];simp
 ·subst e;rw[h1];simp
theorem TlAt.fresh {σ:H} {bt b:Nat} {C:TlC} {got:ByteArray} {y:Sl} {s:TS} {B:Nat->Prop} (h:TlAt σ bt C got y s B) (hb:σ b=none) : ¬B b:=fun e=>h.has e hb
section
variable {σ : H}
theorem s_fiWays1 {y:Value} {bp:Nat} {l:List UInt8} {I:List (List UInt8)->H->Prop} {S:H->Prop}
 (hI:∀r σ,I r σ->σ bp=some (.cells ⟨[.string ⟨⟨l⟩⟩]⟩ 9 (0,0)))
 (hcall:∀a r σ K,I (a::r) σ->(∀σ',I r σ'->K (.bool true) σ')->(∀σ',S σ'->K (.bool false) σ')->callVW Tryz.prog y [.string ⟨⟨a⟩⟩] K σ)
 (hl:l.length<=1000000000) (h:I (waysL [] l true) σ) {K:KH} (hK0:∀σ',I [] σ'->K (.tuple ⟨[]⟩) σ') (hKS:∀σ',S σ'->K (.tuple ⟨[]⟩) σ') :
 callW Tryz.prog 154 [y,.pointer (some ⟨bp,0,none⟩)] K σ:=by
 refine c154 _ _ ?_
 unfold g154
 refine loop_i ?_
 intro R hR
 have key : ∀ (k i:Nat) (c':UInt8) (σ:H),k+i=l.length->1<=i->l[i - 1]? = some c'->I (waysL (l.take i) (l.drop i) (c'==47)) σ->R y (some ⟨bp,0,none⟩) (i:Int) σ:=by
  intro k
  induction k with
  | zero =>
   intro i c' σ hk h1 hc hi
   refine hR _ _ _ _ (ptr_i (rd_S (rdC_of (hI _ _ hi) (by rfl)) ?_))
   rw[List.drop_eq_nil_of_le (by omega)]at hi
   exact br_f (by rw[bsz,decide_eq_false_iff_not];omega) (hK0 _ hi)
  | succ k ih =>
   intro i c' σ hk h1 hc hi
   obtain⟨c,hn⟩ : ∃c,l[i]? = some c:=⟨_,List.getElem?_eq_getElem (by omega)⟩
   have hb:=hI _ _ hi
   refine hR _ _ _ _ (ptr_i (rd_S (rdC_of hb (by rfl)) ?_))
   rw[drop_of hn]at hi
   have htk:l.take i++[c]=l.take (i+1):=by rw[List.take_add_one,hn];rfl
   have hw:waysL (l.take i) (c::l.drop (i+1)) (c'==47)=if c==47 && !(c'==47)then l.take i::waysL (l.take (i+1)) (l.drop (i+1)) (c==47)else waysL (l.take (i+1)) (l.drop (i+1)) (c==47):=by
    show(if c==47 && !(c'==47)then l.take i::waysL (l.take i++[c]) (l.drop (i+1)) true else waysL (l.take i++[c]) (l.drop (i+1)) (c==47))=_
    rw[htk]
    cases hc1:c==47<;>rfl
   rw[hw]at hi
   refine br_t (by rw[bsz,decide_eq_true_eq];omega) (j_i (fun j => ∀ (b:Bool) τ,(b=false->I (waysL (l.take (i+1)) (l.drop (i+1)) (c==47)) τ)->(b=true->S τ)->j y (some ⟨bp,0,none⟩) (i:Int) b τ) ?_ ?_)
   ·intro b τ hb0 hb1
    cases b with
    | true=>exact br_t rfl (hKS _ (hb1 rfl))
    | false =>
     refine br_f rfl ?_
     rw[wrapS (i:=i) (by omega)]
     exact ih (i+1) c τ (by omega) (by omega) (by rw[Nat.add_sub_cancel];exact hn) (hb0 rfl)
   ·intro j hj
    refine ptr_i (rd_S (rdC_of hb (by rfl)) ?_)
    refine idx_l (c:=c) (by omega) (by rw[Int.toNat_natCast];exact hn) ?_
    rw[show((((c.toNat:Nat):Int):Int)==47)=(c==47)from u8e c 47]
    cases h1c:c==47 with
    | false =>
     rw[h1c]at hi hj
     exact br_f rfl (hj false σ (fun _=>hi) (fun e=>by cases e))
    | true =>
     rw[h1c]at hi hj
     refine br_t rfl (ptr_i (rd_S (rdC_of hb (by rfl)) ?_))
     rw[wrap_id (x:=(i:Int) - 1) (by omega) (by omega),show(i:Int) - 1=((i - 1:Nat):Int)from by omega]
     refine idx_l (c:=c') (by omega) (by rw[Int.toNat_natCast];exact hc) ?_
     rw[show((((c'.toNat:Nat):Int):Int) != 47) = !(c'==47)from congrArg Bool.not (u8e c' 47)]
     cases h2c:c'==47 with
     | true =>
      rw[h2c]at hi
      exact br_f rfl (hj false σ (fun _=>hi) (fun e=>by cases e))
     | false =>
      rw[h2c]at hi
      refine br_t rfl (ptr_i (rd_S (rdC_of hb (by rfl)) (if_i ⟨bnd_some (by omega) (by rw[bsz];omega),bnd_none⟩ ?_)))
      rw[Int.toNat_natCast,bex,List.drop_zero]
      refine cvalv_i (hcall _ _ _ _ hi ?_ ?_)
      ·intro τ ht
       exact app_B (hj _ τ (fun _=>ht) (fun e=>by cases e))
      ·intro τ ht
       exact app_B (hj _ τ (fun e=>by cases e) (fun _=>ht))
 cases l with
 | nil =>
  refine hR _ _ _ _ (ptr_i (rd_S (rdC_of (hI _ _ h) (by rfl)) ?_))
  exact br_f rfl (hK0 _ h)
 | cons c r =>
  have hw:waysL [] (c::r) true=waysL [c] r (c==47):=by
   show(if c==47 && !true then _ else waysL [c] r (c==47))=_
   rw[Bool.not_true,Bool.and_false];rfl
  rw[hw]at h
  exact key r.length 1 c σ (by rw[List.length_cons]) (Nat.le_refl _) rfl h
end
theorem callVW_of {g:FuncId} {cs vs:List Value} {K:KH} {σ:H} (hg:isGo Tryz.prog g=true) (h:callW Tryz.prog g (vs++cs) K σ):callVW Tryz.prog (.func (.func g) ⟨[]⟩ ⟨cs⟩) vs K σ:=by
 unfold callVW;simp only[hg];exact h
theorem go_fiWays1:isGo Tryz.prog 154=true:=by kernel_rfl
theorem go_fiMkdir1:isGo Tryz.prog 98=true:=by kernel_rfl
theorem go_fiRmdir1:isGo Tryz.prog 102=true:=by kernel_rfl
section
variable {σ τ : H} {bt b2 : Nat} {C : TlC} {got : ByteArray} {y : Sl} {s : TS} {B : Nat -> Prop} {names : List ByteArray}
def ptT (bt:Nat):Obj := .cells ⟨[.pointer (some ⟨bt,0,none⟩)]⟩ 82 (0,0)
theorem s_fiMkdir1 {M:Nat} (h:TlAt σ bt C got y s B) (hp:Pot M s.A) (hM:M<=900000000000) (h2:σ b2=some (ptT bt)) (n2:¬B b2) (n:List UInt8) (hn:n.length<=1000000) {K:KH}
 (hK:∀σ' B',TlAt σ' bt C got y { s with A:=(if hasL got 112 then s.A.allF C.cwd (waysP ⟨⟨n⟩⟩++[⟨⟨n⟩⟩])else s.A.mkdirF C.cwd ⟨⟨n⟩⟩).2 } B'->Sep σ B σ' B'->K (.int .i64 (if hasL got 112 then s.A.allF C.cwd (waysP ⟨⟨n⟩⟩++[⟨⟨n⟩⟩])else s.A.mkdirF C.cwd ⟨⟨n⟩⟩).1) σ') :
 callVW Tryz.prog (.func (.func 98) ⟨[]⟩ ⟨[.pointer (some ⟨b2,0,none⟩)]⟩) [.string ⟨⟨n⟩⟩] K σ:=by
 refine callVW_of go_fiMkdir1 (c98 _ _ ?_)
 unfold g98
 refine al_i ?_;intro b3 σ1 g1 e1 n1
 have k2:σ1 b2=some (ptT bt):=g1.get h2
 have t1:=h.gr g1
 have nb3 : ¬B b3:=h.fresh n1
 refine ptr_i (rd_P (rdC_of k2 (by rfl)) ?_)
 refine call_i (s_fiHas t1 112 (app_B ?_))
 cases hg:hasL got 112 with
 | false =>
  rw[hg]at hK
  refine br_t rfl (ptr_i (rd_P (rdC_of k2 (by rfl)) (ptr_i (rd_P (rdC_of t1.cell (by rfl)) (ptr_i (rd_P (rdC_of k2 (by rfl)) (ptr_i (rd_S (rdC_of t1.cell (by rfl)) ?_))))))))
  obtain⟨B0,hF,hup⟩:=t1.fs
  refine call_i (s_Mkdir hp.inv hp.bd' (by omega) hF _ _ ?_)
  intro σ2 B1 F1 S1
  obtain⟨B2,t2,s2⟩:=hup F1 S1
  refine app_I ?_
  refine st_i2 (s2 b3 _ e1 nb3).1 sz_Errno (by rfl) (by rfl) ?_;intro σ3 p3
  refine rd_I (rdC_of p3.same (by rfl)) ?_
  exact hK σ3 B2 (t2.put p3 (s2 b3 _ e1 nb3).2) ((Sep.of_gr g1 s2).putF p3 n1)
 | true =>
  rw[hg]at hK
  simp only[if_true]at hK
  refine br_f rfl (j_i (fun j => ∀A' B' σ',TlAt σ' bt C got y { s with A:=A' } B'->Pot M A'->Sep σ1 B σ' B'->A'.allF C.cwd [⟨⟨n⟩⟩]=s.A.allF C.cwd (waysP ⟨⟨n⟩⟩++[⟨⟨n⟩⟩])->j ⟨⟨n⟩⟩ (some ⟨b2,0,none⟩) (some ⟨b3,0,none⟩) σ') ?_ ?_)
  ·intro A' B' σ2 t2 hp2 s2 ha
   refine ptr_i (rd_P (rdC_of (s2 b2 _ k2 n2).1 (by rfl)) ?_)
   refine call_i (s_fiMade t2 hp2 hM ⟨⟨n⟩⟩ ?_)
   intro σ3 B3 t3 s3
   refine app_I ?_
   have s23:=s2.trans s3
   refine st_i2 (s23 b3 _ e1 nb3).1 sz_Errno (by rfl) (by rfl) ?_;intro σ4 p4
   refine ptr_i (rd_I (rdC_of p4.same (by rfl)) ?_)
   have hone:A'.allF C.cwd [⟨⟨n⟩⟩]=A'.madeF C.cwd ⟨⟨n⟩⟩:=by
    show(if(A'.madeF C.cwd ⟨⟨n⟩⟩).1==0 then(0,(A'.madeF C.cwd ⟨⟨n⟩⟩).2)else A'.madeF C.cwd ⟨⟨n⟩⟩)=_
    split
    ·rename_i hz;rw[beq_iff_eq]at hz;rw[<-hz]
    ·rfl
   rw[<-ha,hone]at hK
   exact hK σ4 B3 (t3.put p4 (s23 b3 _ e1 nb3).2) ((Sep.of_gr g1 s23).putF p4 n1)
  ·intro j hj
   refine call_i (c100 _ ?_)
   unfold g100
   refine al_i ?_;intro bp σ2 g2 e2 m2
   refine app_R (fun_i (rf_i go_fiWays1 ?_))
   intro l obj σ3 hl hput hlo hY
   have t2:=t1.gr g2
   have nl : ¬B l:=t2.fresh hl
   have nbp : ¬B bp:=t1.fresh m2
   have t3:=t2.put hput nl
   have hl1:σ1 l=none:=none_of g2 hl
   have k22:=g2.get k2
   have e12:=g2.get e1
   have hr : ∀v,obj .ready none=obj .busy v->False:=fun v e=>by have:=(hlo.state e).1;cases this
   refine s_fiWays1 (l:=n)
    (I:=fun r τ => ∃A' B',TlAt τ bt C got y { s with A:=A' } B'/\Pot M A'/\Sep σ2 B τ B' /\ ¬B' l/\τ l=some (obj .ready none)/\A'.allF C.cwd (r.map (fun a=>(⟨⟨a⟩⟩:ByteArray))++[⟨⟨n⟩⟩])=s.A.allF C.cwd (waysP ⟨⟨n⟩⟩++[⟨⟨n⟩⟩]))
    (S:=fun τ => ∃e A' B',TlAt τ bt C got y { s with A:=A' } B'/\Sep σ B τ B'/\τ l=some (obj .done (some .ret))/\τ b3=some (.cells ⟨[.int .i64 e]⟩ 26 (0,0))/\s.A.allF C.cwd (waysP ⟨⟨n⟩⟩++[⟨⟨n⟩⟩])=(e,A') /\ ¬B' l)
    ?_ ?_ (by omega) ?_ ?_ ?_
   ·rintro r τ ⟨A',B',_,_,s3,_⟩
    exact(s3 bp _ e2 nbp).1
   ·rintro a r τ K' ⟨A',B',ta,pa,sa,na,la,ea⟩ hT hS
    refine yv_call (hY _ _ _ ⟨la,?_⟩)
    show begW l obj _ τ
    refine beg_i la ?_
    intro τ1 p1
    have ta1:=ta.put p1 na
    have sa1:Sep σ2 B τ1 B':=sa.putF p1 hl
    refine ptr_i (rd_P (rdC_of (sa1 b2 _ k22 n2).1 (by rfl)) ?_)
    refine call_i (s_fiMade ta1 pa hM ⟨⟨a⟩⟩ ?_)
    intro τ2 B2 t4 s4
    refine app_I ?_
    have s24:=sa1.trans s4
    have l4:=s4 l _ p1.same na
    have hall:A'.allF C.cwd ((⟨⟨a⟩⟩:ByteArray)::(r.map (fun a=>(⟨⟨a⟩⟩:ByteArray))++[⟨⟨n⟩⟩]))=if(A'.madeF C.cwd ⟨⟨a⟩⟩).1==0 then(A'.madeF C.cwd ⟨⟨a⟩⟩).2.allF C.cwd (r.map (fun a=>(⟨⟨a⟩⟩:ByteArray))++[⟨⟨n⟩⟩])else A'.madeF C.cwd ⟨⟨a⟩⟩:=rfl
    rw[List.map_cons,List.cons_append,hall]at ea
    clear hall
    cases hz:(A'.madeF C.cwd ⟨⟨a⟩⟩).1==0 with
    | true =>
     rw[hz,if_pos rfl]at ea
     refine br_f (by rw[bne,hz];rfl) (round_i l4.1 ?_)
     intro τ3 p3
     exact hT τ3 ⟨_,B2,t4.put p3 l4.2,pa.made (by omega) _ _,s24.putF p3 hl,l4.2,p3.same,ea⟩
    | false =>
     rw[hz,if_neg (by simp)]at ea
     have l3:=s24 b3 _ e12 nb3
     refine br_t (by rw[bne,hz];rfl) (st_i2 l3.1 sz_Errno (by rfl) (by rfl) ?_)
     intro τ3 p3
     have lb:l≠b3:=fun e=>by rw[e,e12]at hl;cases hl
     refine round_i (p3.get lb l4.1) ?_
     intro τ4 p4
     have sf:Sep σ B τ4 B2:=((Sep.of_gr (g1.trans g2) s24).putF p3 n1).putF p4 (none_of g1 hl1)
     exact hS τ4 ⟨_,_,B2,(t4.put p3 l3.2).put p4 l4.2,sf,p4.same,p4.get lb.symm p3.same,ea.symm,l4.2⟩
   ·exact⟨s.A,B,t3,hp,(Sep.refl _ _).putF hput hl,nl,hput.same,rfl⟩
   ·rintro τ ⟨A',B',ta,pa,sa,na,la,ea⟩
    refine end_n la (by intro e;cases e) ?_
    intro τ1 p1
    exact hj A' B' τ1 (ta.put p1 na) pa ((Sep.of_gr g2 sa).putF p1 hl1) ea
   ·rintro τ ⟨e,A',B',ta,sa,la,ka,ea,na⟩
    refine end_r la (by intro e;cases e) ?_
    intro τ1 p1
    have lb:b3≠l:=fun e=>by rw[e,hl1]at e1;cases e1
    refine rd_I (rdC_of (p1.get lb ka) (by rfl)) ?_
    rw[ea]at hK
    exact hK τ1 B' (ta.put p1 na) (sa.putF p1 (none_of g1 hl1))
theorem s_fiRmdir1 {N:Nat} (h:TlAt σ bt C got y s B) (hI:Inv s.A) (hB:Bd N s.A) (hN:N<=1000000000000) (h2:σ b2=some (ptT bt)) (n2:¬B b2) (n:ByteArray) {K:KH}
 (hK:∀σ' B',TlAt σ' bt C got y { s with A:=(s.A.rmdirP C.cwd n).2 } B'->Sep σ B σ' B'->K (.int .i64 (s.A.rmdirP C.cwd n).1) σ') :
 callVW Tryz.prog (.func (.func 102) ⟨[]⟩ ⟨[.pointer (some ⟨b2,0,none⟩)]⟩) [.string n] K σ:=by
 refine callVW_of go_fiRmdir1 (c102 _ _ ?_)
 unfold g102
 refine ptr_i (rd_P (rdC_of h2 (by rfl)) ?_)
 refine call_i (s_fiStat h n false ?_)
 unfold inV
 (refine app_of rfl ?_;try dsimp only)
 refine al_i ?_;intro b3 σ1 g1 e1 n1
 refine st_i2 e1 sz_InoF (by rfl) (by rfl) ?_;intro σ2 p2
 have g2:Gr σ σ2:=g1.putF p2 n1
 have k2:σ2 b2=some (ptT bt):=g2.get h2
 have t2:=h.gr g2
 have hr:s.A.rmdirP C.cwd n=if(s.A.stat C.cwd n false).1==0 then(if(s.A.stat C.cwd n false).2.kind==2 then s.A.removeF C.cwd n else(8,s.A))else((s.A.stat C.cwd n false).1,s.A):=rfl
 rw[hr]at hK
 clear hr
 cases he:(s.A.stat C.cwd n false).1==0 with
 | false =>
  rw[he,if_neg (by simp)]at hK
  exact br_t (by rw[bne,he];rfl) (hK σ2 B t2 (Sep.gr g2))
 | true =>
  rw[he,if_pos rfl]at hK
  refine br_f (by rw[bne,he];rfl) (rd_I (rdC_of p2.same (by rfl)) ?_)
  cases hk:(s.A.stat C.cwd n false).2.kind==2 with
  | false =>
   rw[hk,if_neg (by simp)]at hK
   exact br_t (by rw[bne,hk];rfl) (hK σ2 B t2 (Sep.gr g2))
  | true =>
   rw[hk,if_pos rfl]at hK
   refine br_f (by rw[bne,hk];rfl) (ptr_i (rd_P (rdC_of k2 (by rfl)) (ptr_i (rd_P (rdC_of t2.cell (by rfl)) (ptr_i (rd_P (rdC_of k2 (by rfl)) (ptr_i (rd_S (rdC_of t2.cell (by rfl)) ?_))))))))
   obtain⟨B0,hF,hup⟩:=t2.fs
   refine call_i (s_Remove hI hB hN hF _ _ ?_)
   intro σ3 B1 F1 S1
   obtain⟨B2,t3,s3⟩:=hup F1 S1
   exact app_I (hK σ3 B2 t3 (Sep.of_gr g2 s3))
def mkdirD (C:TlC) (got:ByteArray) (t:TS) (n:ByteArray):Int×TS:=onA t (if hasL got 112 then t.A.allF C.cwd (waysP n++[n])else t.A.mkdirF C.cwd n)
theorem pot_onA {M:Nat} (hM:M<=1000000000000) {t:TS} (h:Pot M t.A) (C:TlC) (got n:ByteArray):Pot M (mkdirD C got t n).2.A:=by
 show Pot M (if hasL got 112 then t.A.allF C.cwd (waysP n++[n])else t.A.mkdirF C.cwd n).2
 split
 ·exact Pot.all hM _ _ _ h
 ·exact h.mkdir hM _ _
theorem s_fiMkdir {M:Nat} (h:TlAt σ bt C got y s B) (hO:Off τ σ B) (hy:RowsAt τ 1 (strRows names) y) (hp:Pot M s.A) (hM:M<=900000000000) (hnm:C.nm.size<=1000000) (hl:names.length<=1000000) (hnz:∀n∈names,n.size<=1000000)
 (hz:(TS.each C.nm (mkdirD C got) names s).err.size<=1000000000000) {K:KH}
 (hK:∀σ' B',TlAt σ' bt C got y (TS.each C.nm (mkdirD C got) names s) B'->Sep σ B σ' B'->Pot M (TS.each C.nm (mkdirD C got) names s).A->K (.tuple ⟨[]⟩) σ'):callW Tryz.prog 42 [.pointer (some ⟨bt,0,none⟩)] K σ:=by
 refine c42 _ ?_
 unfold g42
 refine al_i ?_;intro b2 σ1 g1 e1 n1
 have nb : ¬B b2:=h.fresh n1
 have O1:Off (τ.put b2 (ptT bt)) σ1 B:=(hO.gr g1).add e1 nb
 have nt:τ b2=none:=none_of hO.1 n1
 refine rd_P (rdC_of e1 (by rfl)) (call_i (s_fiEach (P:=fun _ s=>Pot M s.A) (do_:=mkdirD C got) (hy.gr (Gr.put nt _)) hl _ hnm hnz ?_ ?_ ?_ ?_ (h.gr g1) O1 hp hz ?_))
 ·intro s n
  show Er (if hasL got 112 then _ else _:Int×AT).1
  split
  ·exact er_all _ _ _
  ·exact er_mkdir _ _
 ·intro s n;exact Nat.le_refl _
 ·intro k s n hk _
  rw[fail_A];exact pot_onA (by omega) hk C got n
 ·intro n s σ2 B2 k hn _ hp2 t2 o2 _ K' hK'
  obtain⟨⟨l⟩⟩:=n
  exact s_fiMkdir1 t2 hp2 hM (o2.get (H.put_same _ _ _)) (o2.2 b2 _ (H.put_same _ _ _)) l (hnz _ hn) hK'
 ·intro σ' B' k t' s' _ hp'
  exact app_U (hK σ' B' t' (Sep.of_gr g1 s') hp')
def rmdirD (C:TlC) (t:TS) (n:ByteArray):Int×TS:=onA t (t.A.rmdirP C.cwd n)
theorem rmdirP_ok {N:Nat} {A:AT} (h:Inv A/\Bd N A) (hN:N<4611686018427387904) (cwd n:ByteArray):Inv (A.rmdirP cwd n).2/\Bd N (A.rmdirP cwd n).2:=by
 unfold AT.rmdirP
 simp only
 split
 ·split
  ·have:=removeF_ok h.1 h.2 hN cwd n
   exact⟨this.inv,this.bd⟩
  ·exact h
 ·exact h
theorem s_fiRmdir {N:Nat} (h:TlAt σ bt C got y s B) (hO:Off τ σ B) (hy:RowsAt τ 1 (strRows names) y) (hI:Inv s.A/\Bd N s.A) (hN:N<=1000000000000) (hnm:C.nm.size<=1000000) (hl:names.length<=1000000) (hnz:∀n∈names,n.size<=1000000)
 (hz:(TS.each C.nm (rmdirD C) names s).err.size<=1000000000000) {K:KH}
 (hK:∀σ' B',TlAt σ' bt C got y (TS.each C.nm (rmdirD C) names s) B'->Sep σ B σ' B'->Inv (TS.each C.nm (rmdirD C) names s).A/\Bd N (TS.each C.nm (rmdirD C) names s).A->K (.tuple ⟨[]⟩) σ'):callW Tryz.prog 43 [.pointer (some ⟨bt,0,none⟩)] K σ:=by
 refine c43 _ ?_
 unfold g43
 refine al_i ?_;intro b2 σ1 g1 e1 n1
 have nb : ¬B b2:=h.fresh n1
 have O1:Off (τ.put b2 (ptT bt)) σ1 B:=(hO.gr g1).add e1 nb
 have nt:τ b2=none:=none_of hO.1 n1
 refine rd_P (rdC_of e1 (by rfl)) (call_i (s_fiEach (P:=fun _ s=>Inv s.A/\Bd N s.A) (do_:=rmdirD C) (hy.gr (Gr.put nt _)) hl _ hnm hnz ?_ ?_ ?_ ?_ (h.gr g1) O1 hI hz ?_))
 ·intro s n;exact er_rmdir _ _
 ·intro s n;exact Nat.le_refl _
 ·intro k s n hk _
  rw[fail_A];exact rmdirP_ok hk (by omega) _ _
 ·intro n s σ2 B2 k hn _ hp2 t2 o2 _ K' hK'
  exact s_fiRmdir1 t2 hp2.1 hp2.2 hN (o2.get (H.put_same _ _ _)) (o2.2 b2 _ (H.put_same _ _ _)) n hK'
 ·intro σ' B' k t' s' _ hp'
  exact app_U (hK σ' B' t' (Sep.of_gr g1 s') hp')
end
end Go.Proofs.YtbdlkofldmhoaaaGreatDoor

set_option maxRecDepth 100000
namespace Go.Proofs.YtbdlkofldmhoaaaGreatDoor
open Go Go.HL Go.Wk
theorem off_new {σ σ':H} {B:Nat->Prop} {l:List ByteArray} {x:Sl} (hh:∀b,B b->σ b≠none) (hx:RNew σ σ' 9 1 (strRows l) x) : ∃τ,Off τ σ' B/\RowsAt τ 1 (strRows l) x /\ ∀b o,σ b=some o -> ¬B b->τ b=some o:=by
 classical
 refine⟨fun b=>if B b then none else σ' b,⟨gr_of fun b o hb => ?_,fun b o hb hB => ?_⟩,?_,fun b o hb hB => ?_⟩
 ·by_cases hB:B b
  ·simp only[if_pos hB]at hb;cases hb
  ·simp only[if_neg hB]at hb;exact hb
 ·simp only[if_pos hB]at hb
  cases hb
 ·refine hx.at.keep fun g o ob hb ho => ?_
  have hB : ¬B g:=by
   intro hB
   obtain⟨_,_,⟨q,_⟩ | ⟨g',cur,q1,_⟩⟩:=hx.2.1
   ·rw[q]at hb;cases hb
   ·have e:=q1.symm.trans hb
    have e2:g'=g:=by injection e with e;injection e
    subst e2
    exact hh g' hB (hx.2.2 g' q1)
  simp only[if_neg hB]
  exact ho
 ·simp only[if_neg hB]
  exact hx.1.get hb
theorem rm_succ (nm cwd got:ByteArray) (f:Nat) (s:TS) (path:ByteArray):TS.rm nm cwd got (f+1) s path =
 if(s.A.stat cwd path false).1==5&&hasL got 102 then(0,s)
 else if !((s.A.stat cwd path false).1==0)then((s.A.stat cwd path false).1,s)
 else if(s.A.stat cwd path false).2.kind==2 && !hasL got 114 then(7,s)
 else onA (if(s.A.stat cwd path false).2.kind==2 then(s.A.listF cwd path).2.foldl (rmStep nm cwd got path f) s else s) ((if(s.A.stat cwd path false).2.kind==2 then(s.A.listF cwd path).2.foldl (rmStep nm cwd got path f) s else s).A.removeF cwd path):=rfl
attribute [local irreducible] ptrW ifW brW andW rdT alW letJ stW muW biW vaW imW callT cvalT app callW invW callVW sizeT oW nilF oneK loopW rfW funW begW roundK exW idxW Gr Put
section
variable {bt : Nat} {C : TlC} {got : ByteArray} {y : Sl}
theorem s_fiRemove {N:Nat} (hN:N<=1000000000000) (hnm:C.nm.size<=1000000) : ∀ (f:Nat) (path:ByteArray) (s:TS) (σ:H) (B:Nat->Prop) (K:KH),
 256<path.size+f->1<=f->path.size<=1000000->TlAt σ bt C got y s B->(Inv s.A/\Bd N s.A)->(TS.rm C.nm C.cwd got f s path).2.err.size<=1000000000000 ->
 (∀σ' B',TlAt σ' bt C got y (TS.rm C.nm C.cwd got f s path).2 B'->Sep σ B σ' B'->K (.int .i64 (TS.rm C.nm C.cwd got f s path).1) σ') ->
 callW Tryz.prog 110 [.pointer (some ⟨bt,0,none⟩),.string path] K σ:=by
 intro f
 induction f with
 | zero=>intro path s σ B K _ h1;cases h1
 | succ f ih =>
  intro path s σ B K hf _ hpz h hI hz hK
  refine c110 _ _ ?_
  unfold g110
  rw[rm_succ]at hz hK
  refine call_i (s_fiStat h path false ?_)
  have hst:=stat_may (A:=s.A) (cwd:=C.cwd) (p:=path) (fo:=false)
  generalize s.A.stat C.cwd path false=r at hst hz hK ⊢
  obtain⟨e,nd⟩:=r
  simp only at hst hz hK
  unfold inV
  (refine app_of rfl ?_;try dsimp only)
  refine al_i ?_;intro b8 σ1 g1 e1 n1
  refine st_i2 e1 sz_InoF (by rfl) (by rfl) ?_;intro σ2 p2
  have g2:Gr σ σ2:=g1.putF p2 n1
  have t2:=h.gr g2
  have nb8 : ¬B b8:=h.fresh n1
  have k8:=p2.same
  clear p2 e1 g1
  generalize hT:(if nd.kind==2 then(s.A.listF C.cwd path).2.foldl (rmStep C.nm C.cwd got path f) s else s)=T at hz hK
  refine j_i (fun j=>(e==5&&hasL got 102)=false->(e==0)=true->(nd.kind==2 && !hasL got 114)=false -> ∀σ' B',TlAt σ' bt C got y T B'->Sep σ B σ' B'->(Inv T.A/\Bd N T.A)->j (some ⟨bt,0,none⟩) path σ') ?_ ?_
  ·intro c1 c2 c3 σ3 B3 t3 s3 i3
   rw[c1,c2,c3]at hK
   simp only[Bool.false_eq_true,if_false,Bool.not_true]at hK
   refine ptr_i (rd_P (rdC_of t3.cell (by rfl)) (ptr_i (rd_S (rdC_of t3.cell (by rfl)) ?_)))
   obtain⟨B0,hF,hup⟩:=t3.fs
   refine call_i (s_Remove i3.1 i3.2 hN hF _ _ ?_)
   intro σ4 B4 F4 S4
   obtain⟨B5,t5,s5⟩:=hup F4 S4
   exact app_I (hK σ4 B5 t5 (s3.trans s5))
  ·intro j9 h9
   refine j_i (fun j => ∀b:Bool,b=(e==5&&hasL got 102)->j (some ⟨bt,0,none⟩) path (some ⟨b8,0,none⟩) e b σ2) ?_ ?_
   ·intro b hb
    rw[<-hb]at h9 hK hz
    cases b with
    | true=>exact br_t rfl (hK σ2 B t2 (Sep.gr g2))
    | false =>
     simp only[Bool.false_eq_true,if_false]at hK hz
     refine br_f rfl ?_
     cases h0:e==0 with
     | false =>
      rw[h0]at hK
      exact br_t (by rw[bne,h0];rfl) (hK σ2 B t2 (Sep.gr g2))
     | true =>
      rw[h0]at h9 hK hz
      simp only[Bool.not_true,Bool.false_eq_true,if_false]at hK hz
      have hps:path.size<=255:=(mayE_size (hst (by simpa using h0))).1
      refine br_f (by rw[bne,h0];rfl) (j_i (fun j => ∀b:Bool,b=(nd.kind==2 && !hasL got 114)->j (some ⟨bt,0,none⟩) path (some ⟨b8,0,none⟩) b σ2) ?_ ?_)
      ·intro b hb2
       rw[<-hb2]at h9 hK hz
       cases b with
       | true=>exact br_t rfl (hK σ2 B t2 (Sep.gr g2))
       | false =>
        simp only[Bool.false_eq_true,if_false]at hK hz
        replace h9:=h9 rfl rfl rfl
        refine br_f rfl (ptr_i (rd_I (rdC_of k8 (by rfl)) ?_))
        cases hk:nd.kind==2 with
        | false =>
         rw[hk,if_neg (by simp)]at hT
         subst hT
         exact br_f rfl (h9 σ2 B t2 (Sep.gr g2) hI)
        | true =>
         rw[hk,if_pos rfl]at hT
         refine br_t rfl (ptr_i (rd_P (rdC_of t2.cell (by rfl)) (ptr_i (rd_S (rdC_of t2.cell (by rfl)) ?_))))
         obtain⟨B0,hF,_⟩:=t2.fs
         refine call_i (s_ListR hI.1 hI.2 hN hF _ _ ?_)
         intro x σ3 hx
         have hnames : ∀n∈(s.A.listF C.cwd path).2,nameOk n/\stepOk n:=fun n hn=>listF_name hI.1 hn
         have hll:=listF_len (cwd:=C.cwd) (path:=path) hI.2
         generalize s.A.listF C.cwd path=L at hx hT hnames hll ⊢
         obtain⟨le,names⟩:=L
         simp only at hx hT hnames hll
         (refine app_of rfl ?_;try dsimp only)
         obtain⟨τ,O3,hr3,_⟩:=off_new (B:=B) (fun b hb=>t2.has hb) hx
         have hxl:=sLen hr3
         have t3:=t2.gr hx.1
         have s3:Sep σ B σ3 B:=Sep.gr (g2.trans hx.1)
         have hzT:T.err.size<=1000000000000:=hz
         refine loop_i ?_
         intro R hR
         have key : ∀ (k i:Nat) (s1:TS) (σ1:H) (B1:Nat->Prop),k+i=names.length->TlAt σ1 bt C got y s1 B1->(Inv s1.A/\Bd N s1.A)->Sep σ B σ1 B1->Off τ σ1 B1->(names.drop i).foldl (rmStep C.nm C.cwd got path f) s1=T->R (some ⟨bt,0,none⟩) path x ((x.len:Nat):Int) (i:Int) σ1:=by
          intro k
          induction k with
          | zero =>
           intro i s1 σ1 B1 hk t1 i1 ss o1 hfo
           rw[List.drop_eq_nil_of_le (by omega)]at hfo
           have hfo:s1=T:=hfo
           subst hfo
           refine hR _ _ _ _ _ _ ?_
           exact br_f (by simp only[decide_eq_false_iff_not];omega) (h9 σ1 B1 t1 ss i1)
          | succ k ihk =>
           intro i s1 σ1 B1 hk t1 i1 ss o1 hfo
           obtain⟨n,hn⟩ : ∃n,names[i]? = some n:=⟨_,List.getElem?_eq_getElem (by omega)⟩
           obtain⟨g,o,a1,a2,a3⟩:=sRow (hr3.gr o1.1) hn
           have hns:=(hnames n (List.mem_of_getElem? hn)).2.2
           rw[drop_of hn,List.foldl_cons]at hfo
           have hjs:=join_size path n
           have h47:(⟨⟨[47]⟩⟩:ByteArray).size=1:=rfl
           refine hR _ _ _ _ _ _ (br_t (by simp only[decide_eq_true_eq];omega) ?_)
           rw[a1]
           refine ptr_i (if_i ⟨by omega,by omega⟩ (rd_S (by rw[Int.toNat_natCast];exact a3) ?_))
           refine if_i (by omega) (if_i (by rw[ByteArray.size_append];omega) (if_i (by omega) (if_i (by rw[ByteArray.size_append];omega) ?_)))
           have hrow:=rmRow_err C.nm C.cwd got path f (names.drop (i+1)) (rmStep C.nm C.cwd got path f s1 n)
           rw[hfo]at hrow
           have hst1:rmStep C.nm C.cwd got path f s1 n=(TS.rm C.nm C.cwd got f s1 (joinT path n)).2.fail C.nm (joinT path n) (TS.rm C.nm C.cwd got f s1 (joinT path n)).1:=rfl
           have hfe:=fail_err C.nm (TS.rm C.nm C.cwd got f s1 (joinT path n)).2 (joinT path n) (TS.rm C.nm C.cwd got f s1 (joinT path n)).1
           rw[<-hst1]at hfe
           refine call_i (ih (joinT path n) s1 σ1 B1 _ (by omega) (by omega) (by omega) t1 i1 (by omega) ?_)
           intro σ4 B4 t4 s4
           have her:=er_rm C.nm C.cwd got f s1 (joinT path n)
           refine app_I (call_i (s_fiFail t4 (joinT path n) her.1 her.2 hnm (by omega) (by omega) (fmt_er her) ?_))
           intro σ5 r5 t5 s5
           refine app_B ?_
           rw[<-hst1]at t5
           rw[wrapS (i:=i) (by omega)]
           refine ihk (i+1) _ σ5 B4 (by omega) t5 ?_ (ss.trans (s4.trans s5)) ((o1.sep s4).sep s5) hfo
           rw[hst1,fail_A]
           exact rm_inv (by omega) _ _ _ _ _ _ i1
         exact key names.length 0 s σ3 B (by omega) t3 hI s3 O3 hT
      ·intro j25 h25
       refine ptr_i (rd_I (rdC_of k8 (by rfl)) ?_)
       cases hk:nd.kind==2 with
       | false=>exact br_f rfl (h25 false (by rw[hk];rfl))
       | true=>exact br_t rfl (call_i (s_fiHas t2 114 (app_B (h25 _ (by rw[hk];rfl)))))
   ·intro j19 h19
    cases h5:e==5 with
    | false=>exact br_f rfl (h19 false (by rw[h5];rfl))
    | true=>exact br_t rfl (call_i (s_fiHas t2 102 (app_B (h19 _ (by rw[h5];rfl)))))
end
theorem go_fiRemove:isGo Tryz.prog 110=true:=by kernel_rfl
theorem callVW_as {g:FuncId} {as_ vs:List Value} {K:KH} {σ:H} (hg:isGo Tryz.prog g=true) (h:callW Tryz.prog g (as_++vs) K σ):callVW Tryz.prog (.func (.func g) ⟨as_⟩ ⟨[]⟩) vs K σ:=by
 unfold callVW;simp only[hg,List.append_nil];exact h
section
variable {σ τ : H} {bt : Nat} {C : TlC} {got : ByteArray} {y : Sl} {s : TS} {B : Nat -> Prop} {names : List ByteArray}
def rmD (C:TlC) (got:ByteArray) (t:TS) (n:ByteArray):Int×TS:=TS.rm C.nm C.cwd got FU t n
theorem s_fiRm {N:Nat} (h:TlAt σ bt C got y s B) (hO:Off τ σ B) (hy:RowsAt τ 1 (strRows names) y) (hI:Inv s.A/\Bd N s.A) (hN:N<=1000000000000) (hnm:C.nm.size<=1000000) (hl:names.length<=1000000) (hnz:∀n∈names,n.size<=1000000)
 (hz:(TS.each C.nm (rmD C got) names s).err.size<=1000000000000) {K:KH}
 (hK:∀σ' B',TlAt σ' bt C got y (TS.each C.nm (rmD C got) names s) B'->Sep σ B σ' B'->Inv (TS.each C.nm (rmD C got) names s).A/\Bd N (TS.each C.nm (rmD C got) names s).A->K (.tuple ⟨[]⟩) σ'):callW Tryz.prog 47 [.pointer (some ⟨bt,0,none⟩)] K σ:=by
 refine c47 _ ?_
 unfold g47
 refine call_i (s_fiEach (P:=fun _ s=>Inv s.A/\Bd N s.A) (do_:=rmD C got) hy hl _ hnm hnz ?_ ?_ ?_ ?_ h hO hI hz ?_)
 ·intro s n;exact er_rm _ _ _ _ _ _
 ·intro s n;exact rm_err _ _ _ _ _ _
 ·intro k s n hk _
  rw[fail_A];exact rm_inv (by omega) _ _ _ _ _ _ hk
 ·intro n s σ2 B2 k hn _ hp2 t2 o2 hz2 K' hK'
  refine callVW_as go_fiRemove ?_
  exact s_fiRemove hN hnm FU n s σ2 B2 K' (by have:FU=300:=rfl;omega) (by decide) (hnz n hn) t2 hp2 hz2 hK'
 ·intro σ' B' k t' s' _ hp'
  exact app_U (hK σ' B' t' s' hp')
end
end Go.Proofs.YtbdlkofldmhoaaaGreatDoor

set_option maxRecDepth 100000
namespace Go.Proofs.YtbdlkofldmhoaaaGreatDoor
open Go Go.HL Go.Wk
theorem realUp_size {A:AT} {N:Nat} (hI:Inv A) (hB:Bd N A) : ∀ (f:Nat) (dir:Int) (out:ByteArray),(A.realUp f dir out).size<=out.size+f * (60 * N):=by
 intro f
 induction f with
 | zero=>intro dir out;show out.size<=_;omega
 | succ f ih =>
  intro dir out
  unfold AT.realUp
  split
  ·omega
  ·refine Nat.le_trans (ih _ _) ?_
   have key : ∀ (l:List ByteArray) (o:ByteArray),(∀n∈l,n.size<=56)->(l.foldl (fun o n=>if(A.find (A.upOf dir) n).getD 0=dir then(⟨⟨[47]⟩⟩++n)++o else o) o).size<=o.size+60 * l.length:=by
    intro l
    induction l with
    | nil=>intro o _;show o.size<=_;omega
    | cons n r ihl =>
     intro o hl
     rw[List.foldl_cons]
     refine Nat.le_trans (ihl _ fun m hm=>hl m (List.mem_cons_of_mem _ hm)) ?_
     have hn:=hl n (List.mem_cons_self ..)
     rw[List.length_cons]
     split
     ·simp only[ByteArray.size_append]
      have:(⟨⟨[47]⟩⟩:ByteArray).size=1:=rfl
      omega
     ·omega
   have h1:=key (A.names (A.upOf dir)) out (fun n hn=>names_size hI hn)
   have h2:=names_len (d:=A.upOf dir) hB
   have hm:(f+1) * (60 * N)=f * (60 * N)+60 * N:=by rw[Nat.add_mul,Nat.one_mul]
   have:60 * (A.names (A.upOf dir)).length<=60 * N:=Nat.mul_le_mul_left _ h2
   omega
theorem realF_size {A:AT} {N:Nat} (hI:Inv A) (hB:Bd N A) (hN:N<=1000000000000) (cwd p:ByteArray):(A.realF cwd p).2.size<=900000000000000:=by
 have h0:(⟨⟨[]⟩⟩:ByteArray).size=0:=rfl
 have h47:(⟨⟨[47]⟩⟩:ByteArray).size=1:=rfl
 have hpl:=locate_place hI cwd p true
 unfold AT.realF
 simp only
 by_cases h1:(A.locate cwd p true).1≠0
 ·rw[if_pos h1];show(⟨⟨[]⟩⟩:ByteArray).size<=_;omega
 rw[if_neg h1]
 by_cases h2:(A.locate cwd p true).2.there=false
 ·rw[if_pos h2];show(⟨⟨[]⟩⟩:ByteArray).size<=_;omega
 rw[if_neg h2]
 obtain⟨_,hcase⟩:=hpl (by simpa using h1)
 have hnm:(A.locate cwd p true).2.name.size<=56:=by
  rcases hcase with⟨h1,_⟩ | ⟨_,_,h,_⟩
  ·rw[h1];decide
  ·exact h
 have key:(if A.kind (A.locate cwd p true).2.ino≠2 then A.realUp 13 (A.locate cwd p true).2.dir (⟨⟨[47]⟩⟩++(A.locate cwd p true).2.name)else A.realUp 13 (A.locate cwd p true).2.ino ⟨⟨[]⟩⟩).size<=900000000000000:=by
  split
  ·refine Nat.le_trans (realUp_size hI hB _ _ _) ?_
   rw[ByteArray.size_append];omega
  ·refine Nat.le_trans (realUp_size hI hB _ _ _) ?_
   omega
 revert key
 generalize (if A.kind (A.locate cwd p true).2.ino≠2 then A.realUp 13 (A.locate cwd p true).2.dir (⟨⟨[47]⟩⟩++(A.locate cwd p true).2.name)else A.realUp 13 (A.locate cwd p true).2.ino ⟨⟨[]⟩⟩)=out
 intro key
 show(if sEq out ⟨⟨[]⟩⟩=true then(⟨⟨[47]⟩⟩:ByteArray)else out).size<=900000000000000
 by_cases h:sEq out ⟨⟨[]⟩⟩=true
 ·rw[if_pos h];omega
 ·rw[if_neg h];exact key
theorem cp_succ (nm cwd got:ByteArray) (f:Nat) (s:TS) (src tq:ByteArray):TS.cp nm cwd got (f+1) s src tq =
 if !((s.A.stat cwd src (!hasL got 114)).1==0)then((s.A.stat cwd src (!hasL got 114)).1,s)
 else if(s.A.stat cwd src (!hasL got 114)).2.kind==3 then onA s (s.A.symlinkF cwd (s.A.stat cwd src (!hasL got 114)).2.data tq)
 else if(s.A.stat cwd src (!hasL got 114)).2.kind==1 then onA s (s.A.fileP cwd src tq (s.A.stat cwd src (!hasL got 114)).2.mode)
 else if !hasL got 114 then(7,s)
 else if s.A.insideP cwd src tq then(2,s)
 else if !((s.A.madeF cwd tq).1==0)then((s.A.madeF cwd tq).1,{ s with A:=(s.A.madeF cwd tq).2 })
 else(0,((s.A.madeF cwd tq).2.listF cwd src).2.foldl (cpStep nm cwd got src tq f) { s with A:=(s.A.madeF cwd tq).2 }):=rfl
attribute [local irreducible] ptrW ifW brW andW rdT alW letJ stW muW biW vaW imW callT cvalT app callW invW callVW sizeT oW nilF oneK loopW rfW funW begW roundK exW idxW Gr Put
section
variable {σ : H} {bt : Nat} {C : TlC} {got : ByteArray} {y : Sl} {s : TS} {B : Nat -> Prop}
theorem s_fiInside {N:Nat} (h:TlAt σ bt C got y s B) (hI:Inv s.A) (hB:Bd N s.A) (hN:N<=1000000000000) (src:ByteArray) (tq:List UInt8) (hl:tq.length<=1000000000) {K:KH}
 (hK:K (.bool (s.A.insideP C.cwd src ⟨⟨tq⟩⟩)) σ):callW Tryz.prog 164 [.pointer (some ⟨bt,0,none⟩),.string src,.string ⟨⟨tq⟩⟩] K σ:=by
 refine c164 _ _ _ ?_
 unfold g164
 obtain⟨B0,hF,_⟩:=h.fs
 refine ptr_i (rd_P (rdC_of h.cell (by rfl)) (ptr_i (rd_S (rdC_of h.cell (by rfl)) ?_)))
 refine call_i (s_Real hI hB hN hF _ _ ?_)
 (refine app_of rfl ?_;try dsimp only)
 refine ptr_i (rd_P (rdC_of h.cell (by rfl)) (ptr_i (rd_S (rdC_of h.cell (by rfl)) ?_)))
 refine call_i (s_Real hI hB hN hF _ _ ?_)
 (refine app_of rfl ?_;try dsimp only)
 have hin:s.A.insideP C.cwd src ⟨⟨tq⟩⟩=((s.A.realF C.cwd src).1==0&&((if(s.A.realF C.cwd ⟨⟨tq⟩⟩).1==0 then s.A.realF C.cwd ⟨⟨tq⟩⟩else s.A.realF C.cwd (aheadP ⟨⟨tq⟩⟩)).1==0&&(sEq (s.A.realF C.cwd src).2 (if(s.A.realF C.cwd ⟨⟨tq⟩⟩).1==0 then s.A.realF C.cwd ⟨⟨tq⟩⟩else s.A.realF C.cwd (aheadP ⟨⟨tq⟩⟩)).2||(bareL (s.A.realF C.cwd src).2.data.toList++[47]).isPrefixOf (if(s.A.realF C.cwd ⟨⟨tq⟩⟩).1==0 then s.A.realF C.cwd ⟨⟨tq⟩⟩else s.A.realF C.cwd (aheadP ⟨⟨tq⟩⟩)).2.data.toList))):=rfl
 rw[hin]at hK
 clear hin
 have hsz:=realF_size hI hB hN C.cwd src
 generalize hb:(if(s.A.realF C.cwd ⟨⟨tq⟩⟩).1==0 then s.A.realF C.cwd ⟨⟨tq⟩⟩else s.A.realF C.cwd (aheadP ⟨⟨tq⟩⟩))=b at hK
 refine j_i (fun j=>j (s.A.realF C.cwd src).2 (s.A.realF C.cwd src).1 b.2 b.1 σ) ?_ ?_
 ·generalize s.A.realF C.cwd src=a at hK hsz ⊢
  obtain⟨ae,⟨⟨al⟩⟩⟩:=a
  obtain⟨be,bl⟩:=b
  simp only at hK hsz ⊢
  cases h1:ae==0 with
  | false=>rw[h1,Bool.false_and]at hK;exact br_f rfl hK
  | true =>
   rw[h1,Bool.true_and]at hK
   refine br_t rfl ?_
   cases h2:be==0 with
   | false=>rw[h2,Bool.false_and]at hK;exact br_f rfl hK
   | true =>
    rw[h2,Bool.true_and,sEq_eq]at hK
    refine br_t rfl ?_
    cases h3:strEq ⟨⟨al⟩⟩ bl with
    | true=>rw[h3,Bool.true_or]at hK;exact br_t rfl hK
    | false =>
     rw[h3,Bool.false_or]at hK
     have hal:al.length<=900000000000000:=hsz
     have hbl:=bare_len al
     refine br_f rfl (call_i (x_TrimR1 47 (by decide) al (by omega) (app_S ?_)))
     rw[show trR (· == 47) al=bareL al from rfl]
     refine if_i (by rw[bsz];show _+1<=_;omega) (call_i (x_HasPrefix _ _ (app_B ?_)))
     exact hK
 ·intro j hj
  cases h1:(s.A.realF C.cwd ⟨⟨tq⟩⟩).1==0 with
  | true =>
   rw[h1,if_pos rfl]at hb
   subst hb
   exact br_f (by rw[bne,h1];rfl) hj
  | false =>
   rw[h1,if_neg (by simp)]at hb
   subst hb
   refine br_t (by rw[bne,h1];rfl) (ptr_i (rd_P (rdC_of h.cell (by rfl)) (ptr_i (rd_S (rdC_of h.cell (by rfl)) ?_))))
   refine call_i (s_fiAhead tq hl (app_S ?_))
   refine and_i (rdC_of h.cell (by rfl)) (and_i (rdC_of h.cell (by rfl)) ?_)
   refine call_i (s_Real hI hB hN hF _ _ ?_)
   (refine app_of rfl ?_;try dsimp only)
   exact hj
theorem s_fiFile {M:Nat} (h:TlAt σ bt C got y s B) (hp:Pot M s.A) (hM:M<=900000000000) (src tq:ByteArray) (mode:Int) {K:KH}
 (hK:∀σ' B',TlAt σ' bt C got y { s with A:=(s.A.fileP C.cwd src tq mode).2 } B'->Sep σ B σ' B'->K (.int .i64 (s.A.fileP C.cwd src tq mode).1) σ'):callW Tryz.prog 163 [.pointer (some ⟨bt,0,none⟩),.string src,.string tq,.int .i64 mode] K σ:=by
 refine c163 _ _ _ _ ?_
 unfold g163
 refine call_i (s_fiStat h tq true ?_)
 unfold inV
 (refine app_of rfl ?_;try dsimp only)
 refine al_i ?_;intro b3 σ1 g1 e1 n1
 refine st_i2 e1 sz_InoF (by rfl) (by rfl) ?_;intro σ2 p2
 have g2:Gr σ σ2:=g1.putF p2 n1
 have t2:=h.gr g2
 clear p2 e1 g1
 refine ptr_i (rd_P (rdC_of t2.cell (by rfl)) (ptr_i (rd_S (rdC_of t2.cell (by rfl)) ?_)))
 obtain⟨B0,hF,hup⟩:=t2.fs
 refine call_i (s_Read hF _ _ ?_)
 (refine app_of rfl ?_;try dsimp only)
 have hrs:=read_size hp.inv C.cwd src
 have hfp:s.A.fileP C.cwd src tq mode=(let x:=if(s.A.read C.cwd src).1==0 then s.A.writeF C.cwd tq (s.A.read C.cwd src).2 false else((s.A.read C.cwd src).1,s.A)
  if x.1==0 && !((s.A.stat C.cwd tq true).1==0)then x.2.chmodF C.cwd tq mode else x):=rfl
 rw[hfp]at hK
 clear hfp
 generalize hX:(if(s.A.read C.cwd src).1==0 then s.A.writeF C.cwd tq (s.A.read C.cwd src).2 false else((s.A.read C.cwd src).1,s.A))=X at hK
 generalize (s.A.stat C.cwd tq true).1=th at hK ⊢
 refine j_i (fun j => ∀σ' B',TlAt σ' bt C got y { s with A:=X.2 } B'->Sep σ B σ' B'->j (some ⟨bt,0,none⟩) tq mode th X.1 σ') ?_ ?_
 ·intro σ3 B3 t3 s3
  refine j_d ?_
  refine j_i (fun j => ∀b:Bool,b=(X.1==0 && !(th==0))->j (some ⟨bt,0,none⟩) tq mode X.1 b σ3) ?_ ?_
  ·intro b hb
   simp only[<-hb]at hK
   cases b with
   | false =>
    simp only[Bool.false_eq_true,if_false]at hK
    exact br_f rfl (hK σ3 B3 t3 s3)
   | true =>
    simp only[if_true]at hK
    refine br_t rfl (ptr_i (rd_P (rdC_of t3.cell (by rfl)) (ptr_i (rd_S (rdC_of t3.cell (by rfl)) ?_))))
    obtain⟨B1,hF1,hup1⟩:=t3.fs
    refine call_i (s_Chmod hF1 _ _ _ ?_)
    intro σ4 B4 F4 S4
    obtain⟨B5,t5,s5⟩:=hup1 F4 S4
    exact app_I (hK σ4 B5 t5 (s3.trans s5))
  ·intro j hj
   cases h1:X.1==0 with
   | false=>exact br_f rfl (hj false (by rw[h1];rfl))
   | true=>exact br_t rfl (hj _ (by rw[h1];rfl))
 ·intro j hj
  cases h1:(s.A.read C.cwd src).1==0 with
  | false =>
   rw[h1,if_neg (by simp)]at hX
   subst hX
   exact br_f rfl (hj σ2 B t2 (Sep.gr g2))
  | true =>
   rw[h1,if_pos rfl]at hX
   subst hX
   refine br_t rfl (ptr_i (rd_P (rdC_of t2.cell (by rfl)) (ptr_i (rd_S (rdC_of t2.cell (by rfl)) ?_))))
   refine call_i (s_Write hp.inv hp.bd' (by omega) hF _ _ _ _ (by omega) ?_)
   intro σ4 B4 F4 S4
   obtain⟨B5,t5,s5⟩:=hup F4 S4
   exact app_I (hj σ4 B5 t5 (Sep.of_gr g2 s5))
end
section
variable {bt : Nat} {C : TlC} {got : ByteArray} {y : Sl}
theorem s_fiCopied {M:Nat} (hM:M<=900000000000) (hnm:C.nm.size<=1000000) : ∀ (f:Nat) (src tq:ByteArray) (s:TS) (σ:H) (B:Nat->Prop) (K:KH),
 256<src.size+f->1<=f->src.size<=1000000->tq.size+f * 100<=100000000->TlAt σ bt C got y s B->Pot M s.A->(TS.cp C.nm C.cwd got f s src tq).2.err.size<=1000000000000 ->
 (∀σ' B',TlAt σ' bt C got y (TS.cp C.nm C.cwd got f s src tq).2 B'->Sep σ B σ' B'->K (.int .i64 (TS.cp C.nm C.cwd got f s src tq).1) σ') ->
 callW Tryz.prog 114 [.pointer (some ⟨bt,0,none⟩),.string src,.string tq] K σ:=by
 intro f
 induction f with
 | zero=>intro src tq s σ B K _ h1;cases h1
 | succ f ih =>
  intro src tq s σ B K hf _ hpz htz h hp hz hK
  refine c114 _ _ _ ?_
  unfold g114
  rw[cp_succ]at hz hK
  refine call_i (s_fiHas h 114 (app_B (call_i (s_fiStat h src (!hasL got 114) ?_))))
  have hst:=stat_may (A:=s.A) (cwd:=C.cwd) (p:=src) (fo := !hasL got 114)
  generalize s.A.stat C.cwd src (!hasL got 114)=r at hst hz hK ⊢
  obtain⟨e,nd⟩:=r
  simp only at hst hz hK
  unfold inV
  (refine app_of rfl ?_;try dsimp only)
  refine al_i ?_;intro b8 σ1 g1 e1 n1
  refine st_i2 e1 sz_InoF (by rfl) (by rfl) ?_;intro σ2 p2
  have g2:Gr σ σ2:=g1.putF p2 n1
  have t2:=h.gr g2
  have k8:=p2.same
  clear p2 e1 g1
  cases h0:e==0 with
  | false =>
   rw[h0]at hK
   exact br_t (by rw[bne,h0];rfl) (hK σ2 B t2 (Sep.gr g2))
  | true =>
  rw[h0]at hK hz
  simp only[Bool.not_true,Bool.false_eq_true,if_false]at hK hz
  have hps:src.size<=255:=(mayE_size (hst (by simpa using h0))).1
  refine br_f (by rw[bne,h0];rfl) (rd_I (rdC_of k8 (by rfl)) ?_)
  cases h3:nd.kind==3 with
  | true =>
   rw[h3]at hK
   refine br_t rfl (ptr_i (rd_P (rdC_of t2.cell (by rfl)) (ptr_i (rd_S (rdC_of t2.cell (by rfl)) (rd_S (rdC_of k8 (by rfl)) ?_)))))
   obtain⟨B0,hF,hup⟩:=t2.fs
   refine call_i (s_Symlink hp.inv hp.bd' (by omega) hF _ _ _ ?_)
   intro σ4 B4 F4 S4
   obtain⟨B5,t5,s5⟩:=hup F4 S4
   exact app_I (hK σ4 B5 t5 (Sep.of_gr g2 s5))
  | false =>
  rw[h3]at hK hz
  simp only[Bool.false_eq_true,if_false]at hK hz
  refine br_f rfl (rd_I (rdC_of k8 (by rfl)) ?_)
  cases h1:nd.kind==1 with
  | true =>
   rw[h1]at hK
   refine br_t rfl (rd_I (rdC_of k8 (by rfl)) (call_i (s_fiFile t2 hp hM _ _ _ ?_)))
   intro σ4 B4 t4 s4
   exact app_I (hK σ4 B4 t4 (Sep.of_gr g2 s4))
  | false =>
  rw[h1]at hK hz
  simp only[Bool.false_eq_true,if_false]at hK hz
  refine br_f rfl (call_i (s_fiHas t2 114 (app_B ?_)))
  cases hr:hasL got 114 with
  | false =>
   rw[hr]at hK
   exact br_t rfl (hK σ2 B t2 (Sep.gr g2))
  | true =>
  rw[hr]at hK hz
  simp only[Bool.not_true,Bool.false_eq_true,if_false]at hK hz
  obtain⟨⟨tl⟩⟩:=tq
  have htz2:tl.length+(f+1) * 100<=100000000:=htz
  refine br_f rfl (call_i (s_fiInside t2 hp.inv hp.bd' (by omega) src tl (by omega) (app_B ?_)))
  cases hin:s.A.insideP C.cwd src ⟨⟨tl⟩⟩ with
  | true =>
   rw[hin]at hK
   exact br_t rfl (hK σ2 B t2 (Sep.gr g2))
  | false =>
  rw[hin]at hK hz
  simp only[Bool.false_eq_true,if_false]at hK hz
  refine br_f rfl (call_i (s_fiMade t2 hp hM ⟨⟨tl⟩⟩ ?_))
  have hpm:=hp.made (by omega) C.cwd ⟨⟨tl⟩⟩
  generalize s.A.madeF C.cwd ⟨⟨tl⟩⟩=m at hpm hK hz ⊢
  obtain⟨me,A1⟩:=m
  simp only at hpm hK hz ⊢
  intro σ4 B4 t4 s4
  have s24:Sep σ B σ4 B4:=Sep.of_gr g2 s4
  refine app_I ?_
  cases hm0:me==0 with
  | false =>
   rw[hm0]at hK
   exact br_t (by rw[bne,hm0];rfl) (hK σ4 B4 t4 s24)
  | true =>
  rw[hm0]at hK hz
  simp only[Bool.not_true,Bool.false_eq_true,if_false]at hK hz
  refine br_f (by rw[bne,hm0];rfl) (ptr_i (rd_P (rdC_of t4.cell (by rfl)) (ptr_i (rd_S (rdC_of t4.cell (by rfl)) ?_))))
  obtain⟨B0,hF,_⟩:=t4.fs
  refine call_i (s_ListR hpm.inv hpm.bd' (by omega) hF _ _ ?_)
  intro x σ3 hx
  have hnames : ∀n∈(A1.listF C.cwd src).2,nameOk n/\stepOk n:=fun n hn=>listF_name hpm.inv hn
  have hll:=listF_len (cwd:=C.cwd) (path:=src) hpm.bd'
  generalize hTe:(A1.listF C.cwd src).2.foldl (cpStep C.nm C.cwd got src ⟨⟨tl⟩⟩ f) { s with A:=A1 }=T at hz hK
  generalize A1.listF C.cwd src=L at hx hTe hnames hll ⊢
  obtain⟨le,names⟩:=L
  simp only at hx hTe hnames hll
  (refine app_of rfl ?_;try dsimp only)
  obtain⟨τ,O3,hr3,_⟩:=off_new (B:=B4) (fun b hb=>t4.has hb) hx
  have hxl:=sLen hr3
  have t3:=t4.gr hx.1
  have s3:Sep σ B σ3 B4:=s24.grR hx.1
  refine loop_i ?_
  intro R hR
  have key : ∀ (k i:Nat) (s1:TS) (σ1:H) (B1:Nat->Prop),k+i=names.length->TlAt σ1 bt C got y s1 B1->Pot M s1.A->Sep σ B σ1 B1->Off τ σ1 B1->(names.drop i).foldl (cpStep C.nm C.cwd got src ⟨⟨tl⟩⟩ f) s1=T->R (some ⟨bt,0,none⟩) src ⟨⟨tl⟩⟩ x ((x.len:Nat):Int) (i:Int) σ1:=by
   intro k
   induction k with
   | zero =>
    intro i s1 σ1 B1 hk t1 i1 ss o1 hfo
    rw[List.drop_eq_nil_of_le (by omega)]at hfo
    have hfo:s1=T:=hfo
    subst hfo
    refine hR _ _ _ _ _ _ _ ?_
    exact br_f (by simp only[decide_eq_false_iff_not];omega) (hK σ1 B1 t1 ss)
   | succ k ihk =>
    intro i s1 σ1 B1 hk t1 i1 ss o1 hfo
    obtain⟨n,hn⟩ : ∃n,names[i]? = some n:=⟨_,List.getElem?_eq_getElem (by omega)⟩
    obtain⟨g,o,a1,a2,a3⟩:=sRow (hr3.gr o1.1) hn
    have hns:=(hnames n (List.mem_of_getElem? hn)).2.2
    rw[drop_of hn,List.foldl_cons]at hfo
    have hjs:=join_size src n
    have hjt:(joinT ⟨⟨tl⟩⟩ n).size=tl.length+1+n.size:=join_size ⟨⟨tl⟩⟩ n
    have h47:(⟨⟨[47]⟩⟩:ByteArray).size=1:=rfl
    refine hR _ _ _ _ _ _ _ (br_t (by simp only[decide_eq_true_eq];omega) ?_)
    refine j_i (fun j => ∀σ' B',TlAt σ' bt C got y (cpStep C.nm C.cwd got src ⟨⟨tl⟩⟩ f s1 n) B'->Pot M (cpStep C.nm C.cwd got src ⟨⟨tl⟩⟩ f s1 n).A->Sep σ B σ' B'->Off τ σ' B'->j (some ⟨bt,0,none⟩) src ⟨⟨tl⟩⟩ x ((x.len:Nat):Int) (i:Int) σ') ?_ ?_
    ·intro σ5 B5 t5 i5 s5 o5
     rw[wrapS (i:=i) (by omega)]
     exact ihk (i+1) _ σ5 B5 (by omega) t5 i5 s5 o5 hfo
    ·intro j hj
     rw[a1]
     refine ptr_i (if_i ⟨by omega,by omega⟩ (rd_S (by rw[Int.toNat_natCast];exact a3) (ptr_i (rd_B (rdC_of t1.cell (by rfl)) ?_))))
     have hcs:cpStep C.nm C.cwd got src ⟨⟨tl⟩⟩ f s1 n=if s1.full then s1 else(TS.cp C.nm C.cwd got f s1 (joinT src n) (joinT ⟨⟨tl⟩⟩ n)).2.fail C.nm (joinT src n) (TS.cp C.nm C.cwd got f s1 (joinT src n) (joinT ⟨⟨tl⟩⟩ n)).1:=rfl
     cases hfu:s1.full with
     | true =>
      rw[hcs,hfu,if_pos rfl]at hj
      exact br_f rfl (hj σ1 B1 t1 i1 ss o1)
     | false =>
      rw[hfu,if_neg (by simp)]at hcs
      refine br_t rfl ?_
      refine if_i (by omega) (if_i (by rw[ByteArray.size_append];omega) (if_i (by omega) (if_i (by rw[ByteArray.size_append];omega) (if_i (by rw[bsz];omega) (if_i (by rw[ByteArray.size_append,bsz];omega) ?_)))))
      have hrow:=cpRow_err C.nm C.cwd got src ⟨⟨tl⟩⟩ f (names.drop (i+1)) (cpStep C.nm C.cwd got src ⟨⟨tl⟩⟩ f s1 n)
      rw[hfo]at hrow
      have hfe:=fail_err C.nm (TS.cp C.nm C.cwd got f s1 (joinT src n) (joinT ⟨⟨tl⟩⟩ n)).2 (joinT src n) (TS.cp C.nm C.cwd got f s1 (joinT src n) (joinT ⟨⟨tl⟩⟩ n)).1
      rw[<-hcs]at hfe
      refine call_i (ih (joinT src n) (joinT ⟨⟨tl⟩⟩ n) s1 σ1 B1 _ (by omega) (by omega) (by omega) (by omega) t1 i1 (by omega) ?_)
      intro σ5 B5 t5 s5
      have her:=er_cp C.nm C.cwd got f s1 (joinT src n) (joinT ⟨⟨tl⟩⟩ n)
      refine app_I (call_i (s_fiFail t5 (joinT src n) her.1 her.2 hnm (by omega) (by omega) (fmt_er her) ?_))
      intro σ6 r6 t6 s6
      refine app_B ?_
      rw[<-hcs]at t6
      refine hj σ6 B5 t6 ?_ (ss.trans (s5.trans s6)) ((o1.sep s5).sep s6)
      rw[hcs,fail_A]
      exact Pot.cp (by omega) _ _ _ _ _ _ _ i1
  exact key names.length 0 _ σ3 B4 (by omega) t3 hpm s3 O3 hTe
end
end Go.Proofs.YtbdlkofldmhoaaaGreatDoor

set_option maxRecDepth 100000
namespace Go.Proofs.YtbdlkofldmhoaaaGreatDoor
open Go Go.HL Go.Wk
attribute [local irreducible] ptrW ifW brW andW rdT alW letJ stW muW biW vaW imW callT cvalT app callW invW callVW sizeT oW nilF oneK loopW rfW funW begW roundK exW idxW Gr Put
theorem go_fiInto1:isGo Tryz.prog 159=true:=by kernel_rfl
theorem go_fiMv1:isGo Tryz.prog 112=true:=by kernel_rfl
theorem go_fiCopied:isGo Tryz.prog 114=true:=by kernel_rfl
theorem last_size (n:ByteArray):(lastP n).size<=n.size:=by
 obtain⟨⟨l⟩⟩:=n
 show(behind (bareL l)).length<=l.length
 have h1:=bare_len l
 have h2:=(upto_last (bareL l)).2
 have h3:(behind (bareL l)).length=((bareL l).drop (lastN 47 (bareL l))).length:=by rw[h2]
 rw[List.length_drop]at h3
 omega
def intoD (do_:TS->ByteArray->ByteArray->Int×TS) (inn:Bool) (tq:ByteArray) (t:TS) (n:ByteArray):Int×TS:=do_ t n (if inn then joinT tq (lastP n)else tq)
theorem into_def (nm cwd:ByteArray) (do_:TS->ByteArray->ByteArray->Int×TS) {names:List ByteArray} {tq:ByteArray} (h:names.getLast? = some tq) (s:TS):TS.into nm cwd do_ names s=if !s.A.dirB cwd tq&&Nat.blt 1 names.dropLast.length then s.fail nm tq 8 else TS.each nm (intoD do_ (s.A.dirB cwd tq) tq) names.dropLast s:=by
 unfold TS.into
 rw[h]
 rfl
section
variable {σ τ : H} {bt : Nat} {C : TlC} {got : ByteArray} {y : Sl} {s : TS} {B : Nat -> Prop} {names : List ByteArray}
theorem s_fiInto {P:Nat->TS->Prop} {do_:TS->ByteArray->ByteArray->Int×TS} (hy:RowsAt τ 1 (strRows names) y) (hc:y.len<=y.cap) (hne:names≠[]) (hl:names.length<=1000000) (fv:Value) (hfv:∀ (g:H->Prop) σ,g σ->oneK fv g σ) (hnm:C.nm.size<=1000000) (hnz:∀n∈names,n.size<=100000)
 (her:∀s a b,Er (do_ s a b).1) (hmono:∀s a b,s.err.size<=(do_ s a b).2.err.size) (hP:∀k s n a b,P k s->k<names.length->P (k+1) ((do_ s a b).2.fail C.nm n (do_ s a b).1)) (hP0:P 0 s->P 0 (s.fail C.nm (names.getLast hne) 8))
 (step:∀y' a b s σ B k,a.size<=100000->b.size<=1000000->k<names.length->P k s->TlAt σ bt C got y' s B->Off τ σ B->(do_ s a b).2.err.size<=1000000000000 -> ∀K:Value->H->Prop,(∀σ' B',TlAt σ' bt C got y' (do_ s a b).2 B'->Sep σ B σ' B'->K (.int .i64 (do_ s a b).1) σ')->callVW Tryz.prog fv [.string a,.string b] K σ)
 (h:TlAt σ bt C got y s B) (hO:Off τ σ B) (hp:P 0 s) (hz:(TS.into C.nm C.cwd do_ names s).err.size<=1000000000000)
 {K:KH} (hK:∀σ' B' y' k,TlAt σ' bt C got y' (TS.into C.nm C.cwd do_ names s) B'->Sep σ B σ' B'->k<=names.length->P k (TS.into C.nm C.cwd do_ names s)->K (.tuple ⟨[]⟩) σ'):callW Tryz.prog 111 [.pointer (some ⟨bt,0,none⟩),fv] K σ:=by
 refine c111 _ _ ?_
 unfold g111
 refine hfv _ _ ?_
 have hyl:=sLen hy
 have hlp:0<names.length:=List.length_pos_iff.2 hne
 have hto:names.getLast? = some (names.getLast hne):=List.getLast?_eq_some_getLast hne
 rw[into_def _ _ _ hto]at hz hK
 have hget:names[names.length - 1]? = some (names.getLast hne):=by rw[<-List.getLast?_eq_getElem?];exact hto
 have hmem:names.getLast hne∈names:=List.getLast_mem hne
 generalize names.getLast hne=tq at hto hz hK hP0 hget hmem
 refine al_i ?_;intro b3 σ1 g1 e1 n1
 have t1:=h.gr g1
 have O1:=hO.gr g1
 refine ptr_i (rd_Y (y:=y) (rdC_of t1.cell (by rfl)) (ptr_i (rd_Y (y:=y) (rdC_of t1.cell (by rfl)) ?_)))
 obtain⟨g,o,a1,a2,a3⟩:=sRow (hy.gr O1.1) hget
 have hw:IntKind.i64.wrap (((y.len:Nat):Int) - 1)=((names.length - 1:Nat):Int):=by rw[wrap_id (by omega) (by omega)];omega
 rw[hw,a1]
 refine ptr_i (if_i ⟨by omega,by omega⟩ (rd_S (by rw[Int.toNat_natCast];exact a3) ?_))
 refine al_i ?_;intro b13 σ2 g2 e2 n2
 refine st_i2 e2 sz_string (by rfl) (by rfl) ?_;intro σ3 p3
 have g3:Gr σ1 σ3:=g2.putF p3 n2
 have t3:=t1.gr g3
 have hB:B bt:=by obtain⟨_,_,_,_,q⟩:=h;exact(q bt).2 (.inr rfl)
 refine ptr_i (rd_Y (y:=y) (rdC_of t3.cell (by rfl)) (ptr_i (rd_Y (y:=y) (rdC_of t3.cell (by rfl)) ?_)))
 rw[hw,Int.toNat_natCast]
 refine if_i ⟨bnd_some (by omega) (by omega),bnd_none⟩ (ptr_i ?_)
 refine st_i2 t3.cell sz_strs (by rfl) (by rfl) ?_;intro σ4 p4
 have nb3 : ¬B b3:=h.fresh n1
 have nb13 : ¬B b13:=t1.fresh n2
 have y2:=sInit hy hc
 have ey:(⟨slBase y.base 0 y.cap 1,y.len - 1 - 0,y.cap - 0⟩:Sl)=⟨slBase y.base 0 y.cap 1,names.length - 1 - 0,y.cap - 0⟩:=by rw[hyl]
 rw[ey]at y2
 clear ey
 have t4:TlAt σ4 bt C got ⟨slBase y.base 0 y.cap 1,names.length - 1 - 0,y.cap - 0⟩ s B:=t3.say rfl p4
 have k13:σ4 b13=some (.cells ⟨[.string tq]⟩ 9 (0,0)):=p4.get (fun e=>nb13 (e ▸ hB)) p3.same
 have k3:σ4 b3=some (.cells ⟨[fv]⟩ 27 (0,0)):=p4.get (fun e=>nb3 (e ▸ hB)) (g3.get e1)
 have s4:Sep σ B σ4 B:=by
  intro c oc hc hn
  exact⟨p4.get (fun e=>hn (e ▸ hB)) ((g1.trans g3).get hc),hn⟩
 have O4:Off τ σ4 B:=hO.sep s4
 generalize (⟨slBase y.base 0 y.cap 1,names.length - 1 - 0,y.cap - 0⟩:Sl)=y' at t4 y2
 have hyl2:=sLen y2
 clear p4 p3 a1 a2 a3 e1 e2
 refine rd_S (rdC_of k13 (by rfl)) (call_i (s_fiDir t4 tq (app_B ?_)))
 refine al_i ?_;intro b24 σ5 g5 e5 n5
 refine st_i2 e5 sz_bool (by rfl) (by rfl) ?_;intro σ6 p6
 have g6:Gr σ4 σ6:=g5.putF p6 n5
 have t6:=t4.gr g6
 have s6:Sep σ B σ6 B:=s4.grR g6
 have O6:=O4.gr g6
 have nb24 : ¬B b24:=t4.fresh n5
 generalize hin:s.A.dirB C.cwd tq=inn at hz hK p6 ⊢
 have k24:=p6.same
 refine j_i (fun j => ∀b:Bool,b=(!inn&&Nat.blt 1 names.dropLast.length)->j (some ⟨bt,0,none⟩) (some ⟨b3,0,none⟩) (some ⟨b13,0,none⟩) (some ⟨b24,0,none⟩) b σ6) ?_ ?_
 ·intro b hb
  rw[<-hb]at hz hK
  have htz:=hnz tq hmem
  cases b with
  | true =>
   simp only[if_true]at hz hK
   refine br_t rfl (ptr_i (rd_S (rdC_of (g6.get k13) (by rfl)) ?_))
   have hfe:=fail_err C.nm s tq 8
   refine call_i (s_fiFail t6 tq (by decide) (by decide) hnm (by omega) (by omega) (fmt_er ⟨by decide,by decide⟩) ?_)
   intro σ7 r7 t7 s7
   exact app_B (hK σ7 B _ 0 t7 (s6.trans s7) (Nat.zero_le _) (hP0 hp))
  | false =>
   simp only[Bool.false_eq_true,if_false]at hz hK
   refine br_f rfl ?_
   have G1:Gr τ (τ.put b3 (.cells ⟨[fv]⟩ 27 (0,0))):=gr_add O6.1 (g6.get k3)
   have O7:=O6.add (g6.get k3) nb3
   have G2:=gr_add O7.1 (g6.get k13)
   have O8:=O7.add (g6.get k13) nb13
   have G3:=gr_add O8.1 k24
   have O9:=O8.add k24 nb24
   have q3:=G3.get (G2.get (H.put_same τ b3 (.cells ⟨[fv]⟩ 27 (0,0))))
   have q13:=G3.get (H.put_same (τ.put b3 (.cells ⟨[fv]⟩ 27 (0,0))) b13 (.cells ⟨[.string tq]⟩ 9 (0,0)))
   have q24:=H.put_same ((τ.put b3 (.cells ⟨[fv]⟩ 27 (0,0))).put b13 (.cells ⟨[.string tq]⟩ 9 (0,0))) b24 (.cells ⟨[.bool inn]⟩ 4 (0,0))
   have hy9:=((y2.gr G1).gr G2).gr G3
   have h47:(⟨⟨[47]⟩⟩:ByteArray).size=1:=rfl
   have hdl:names.dropLast.length<=names.length:=by rw[List.length_dropLast];omega
   refine call_i (s_fiEach (P:=P) (do_:=intoD do_ inn tq) hy9 (by omega) _ hnm (fun n hn=>Nat.le_trans (hnz n ((List.dropLast_sublist _).subset hn)) (by decide)) ?_ ?_ ?_ ?_ t6 O9 hp hz ?_)
   ·intro s n;exact her _ _ _
   ·intro s n;exact hmono _ _ _
   ·intro k s n hk hkl
    exact hP k s n _ _ hk (by omega)
   ·intro n s2 σ7 B7 k hn hkl hp2 t7 o7 hz2 K' hK'
    have hnn:=hnz n ((List.dropLast_sublist _).subset hn)
    refine callVW_of go_fiInto1 (c159 _ _ _ _ ?_)
    unfold g159
    refine ptr_i (rd_B (rdC_of (o7.get q24) (by rfl)) ?_)
    have hls:=last_size n
    cases inn with
    | true =>
     obtain⟨⟨nl⟩⟩:=n
     have hnl:nl.length<=100000:=hnn
     refine br_t rfl (ptr_i (rd_R (rdC_of (o7.get q3) (by rfl)) (ptr_i (rd_S (rdC_of (o7.get q13) (by rfl)) (if_i (by omega) ?_)))))
     refine call_i (s_fiLast nl (by omega) (app_S (and_i (rdC_of (o7.get q13) (by rfl)) (and_i (rdC_of (o7.get q3) (by rfl)) (if_i (by rw[ByteArray.size_append];omega) ?_)))))
     refine cvalv_i (step _ ⟨⟨nl⟩⟩ (joinT tq (lastP ⟨⟨nl⟩⟩)) s2 σ7 B7 k hnn (by rw[join_size];omega) (by omega) hp2 t7 (o7.sub (G1.trans (G2.trans G3))) hz2 _ ?_)
     intro σ8 B8 t8 s8
     exact app_I (hK' σ8 B8 t8 s8)
    | false =>
     refine br_f rfl (ptr_i (rd_R (rdC_of (o7.get q3) (by rfl)) (ptr_i (rd_S (rdC_of (o7.get q13) (by rfl)) ?_))))
     refine cvalv_i (step _ n tq s2 σ7 B7 k hnn (by omega) (by omega) hp2 t7 (o7.sub (G1.trans (G2.trans G3))) hz2 _ ?_)
     intro σ8 B8 t8 s8
     exact app_I (hK' σ8 B8 t8 s8)
   ·intro σ7 B7 k t7 s7 hk hp7
    exact app_U (hK σ7 B7 _ k t7 (s6.trans s7) (by omega) hp7)
 ·intro j hj
  refine rd_B (rdC_of k24 (by rfl)) ?_
  cases inn with
  | true=>exact br_f rfl (hj false rfl)
  | false =>
   refine br_t rfl (ptr_i (rd_Y (y:=y') (rdC_of t6.cell (by rfl)) (hj _ ?_)))
   rw[hyl2,Bool.not_false,Bool.true_and,Bool.eq_iff_iff,decide_eq_true_eq,Nat.blt_eq]
   omega
def mvD (C:TlC) (t:TS) (a b:ByteArray):Int×TS:=onA t (t.A.renameF C.cwd a b)
theorem s_fiMv {N:Nat} (h:TlAt σ bt C got y s B) (hO:Off τ σ B) (hy:RowsAt τ 1 (strRows names) y) (hc:y.len<=y.cap) (hne:names≠[]) (hl:names.length<=1000) (hI:Inv s.A/\Bd N s.A) (hN:N+1000<=1000000000000) (hnm:C.nm.size<=1000000) (hnz:∀n∈names,n.size<=100000)
 (hz:(TS.into C.nm C.cwd (mvD C) names s).err.size<=1000000000000) {K:KH}
 (hK:∀σ' B' y',TlAt σ' bt C got y' (TS.into C.nm C.cwd (mvD C) names s) B'->Sep σ B σ' B'->Inv (TS.into C.nm C.cwd (mvD C) names s).A/\Bd (N+names.length) (TS.into C.nm C.cwd (mvD C) names s).A->K (.tuple ⟨[]⟩) σ'):callW Tryz.prog 48 [.pointer (some ⟨bt,0,none⟩)] K σ:=by
 refine c48 _ ?_
 unfold g48
 refine al_i ?_;intro b2 σ1 g1 e1 n1
 have nb : ¬B b2:=h.fresh n1
 have O1:Off (τ.put b2 (ptT bt)) σ1 B:=(hO.gr g1).add e1 nb
 have nt:τ b2=none:=none_of hO.1 n1
 refine rd_P (rdC_of e1 (by rfl)) (call_i (s_fiInto (P:=fun k s=>Inv s.A/\Bd (N+k) s.A) (do_:=mvD C) (hy.gr (Gr.put nt _)) hc hne (by omega) (.func (.func 112) ⟨[]⟩ ⟨[.pointer (some ⟨b2,0,none⟩)]⟩) (fun g σ hg=>by unfold oneK;exact hg) hnm hnz ?_ ?_ ?_ ?_ ?_ (h.gr g1) O1 hI hz ?_))
 ·intro s a b;exact er_rename _ _ _
 ·intro s a b;exact Nat.le_refl _
 ·intro k s n a b hk hkl
  rw[fail_A]
  have:=renameF_inv hk.1 hk.2 (by omega) C.cwd a b
  exact⟨this.inv,this.bd⟩
 ·intro hp;rw[fail_A];exact hp
 ·intro y' a b s σ2 B2 k ha hb hkl hp2 t2 o2 _ K' hK'
  refine callVW_of go_fiMv1 (c112 _ _ _ ?_)
  unfold g112
  have k2:σ2 b2=some (ptT bt):=o2.get (H.put_same _ _ _)
  refine ptr_i (rd_P (rdC_of k2 (by rfl)) (ptr_i (rd_P (rdC_of t2.cell (by rfl)) (ptr_i (rd_P (rdC_of k2 (by rfl)) (ptr_i (rd_S (rdC_of t2.cell (by rfl)) ?_)))))))
  obtain⟨B0,hF,hup⟩:=t2.fs
  refine call_i (s_Rename hp2.1 hp2.2 (by omega) hF _ _ _ ?_)
  intro σ4 B4 F4 S4
  obtain⟨B5,t5,s5⟩:=hup F4 S4
  exact app_I (hK' σ4 B5 t5 s5)
 ·intro σ' B' y' k t' s' hk hp'
  exact app_U (hK σ' B' y' t' (Sep.of_gr g1 s') ⟨hp'.1,hp'.2.mono (by omega)⟩)
def cpD (C:TlC) (got:ByteArray) (t:TS) (a b:ByteArray):Int×TS:=TS.cp C.nm C.cwd got FU t a b
theorem s_fiCp {M:Nat} (h:TlAt σ bt C got y s B) (hO:Off τ σ B) (hy:RowsAt τ 1 (strRows names) y) (hc:y.len<=y.cap) (hne:names≠[]) (hl:names.length<=1000) (hp:Pot M s.A) (hM:M<=900000000000) (hnm:C.nm.size<=1000000) (hnz:∀n∈names,n.size<=100000)
 (hz:(TS.into C.nm C.cwd (cpD C got) names s).err.size<=1000000000000) {K:KH}
 (hK:∀σ' B' y',TlAt σ' bt C got y' (TS.into C.nm C.cwd (cpD C got) names s) B'->Sep σ B σ' B'->Pot M (TS.into C.nm C.cwd (cpD C got) names s).A->K (.tuple ⟨[]⟩) σ'):callW Tryz.prog 49 [.pointer (some ⟨bt,0,none⟩)] K σ:=by
 refine c49 _ ?_
 unfold g49
 refine call_i (s_fiInto (P:=fun _ s=>Pot M s.A) (do_:=cpD C got) hy hc hne (by omega) (.func (.func 114) ⟨[.pointer (some ⟨bt,0,none⟩)]⟩ ⟨[]⟩) (fun g σ hg=>by unfold oneK;exact hg) hnm hnz ?_ ?_ ?_ ?_ ?_ h hO hp hz ?_)
 ·intro s a b;exact er_cp _ _ _ _ _ _ _
 ·intro s a b;exact cp_err _ _ _ _ _ _ _
 ·intro k s n a b hk hkl
  rw[fail_A];exact Pot.cp (by omega) _ _ _ _ _ _ _ hk
 ·intro hp;rw[fail_A];exact hp
 ·intro y' a b s σ2 B2 k ha hb hkl hp2 t2 o2 hz2 K' hK'
  refine callVW_as go_fiCopied ?_
  have hFU:FU=300:=rfl
  exact s_fiCopied hM hnm FU a b s σ2 B2 K' (by omega) (by omega) (by omega) (by omega) t2 hp2 hz2 hK'
 ·intro σ' B' y' k t' s' hk hp'
  exact app_U (hK σ' B' y' t' s' hp')
end
end Go.Proofs.YtbdlkofldmhoaaaGreatDoor

set_option maxRecDepth 100000
namespace Go.Proofs.YtbdlkofldmhoaaaGreatDoor
open Go Go.HL Go.Wk Go.RowKit Go.Maps Go.Sort Go.Shelf
theorem strRows_flat (l:List ByteArray):(strRows l).flatten=l.map Value.string:=by
 induction l with
 | nil=>rfl
 | cons a r ih =>
  have ih:(r.map fun s=>[Value.string s]).flatten=r.map Value.string:=ih
  simp[strRows,ih]
theorem s_Sort {ρ σ:H} {l:List ByteArray} {x:Sl} (h:RNew ρ σ 9 1 (strRows l) x) (hn:l.length<=4000000000000000000) {K:KH} (hK:∀σ',RNew ρ σ' 9 1 (strRows (sortN l)) x->K (.tuple ⟨[]⟩) σ') :
 callW Tryz.prog 117 [.slice x.base x.len x.cap] K σ:=by
 intro w hw
 have hsort:(l.map fun s=>s.data.toList).mergeSort (fun x y=>decide (x<=y))=(sortN l).map fun s=>s.data.toList:=by
  rw[<-sortK_eq];unfold sortK;rw[List.map_map]
  have:((fun s:ByteArray=>s.data.toList)∘fun x:List UInt8=>(⟨⟨x⟩⟩:ByteArray))=id:=rfl
  rw[this,List.map_id]
 have hxl:x.len=l.length:=by rw[h.len];simp[strRows]
 obtain⟨h1,h2,h3⟩:=h
 obtain⟨q1,q2,⟨q3,q4,q5⟩ | ⟨g,cur,q3,q4,q5,q6,q7⟩⟩:=id h2
 ·have hl:l=[]:=by simpa[strRows]using q5
  subst hl
  have e0:x.len=0:=hxl
  have hsn:sortN []=[]:=rfl
  rw[e0]
  refine callsIn_wide.2 ((AnyM.slices_Sort_string_none Tryz.sort117 x.base x.cap w).mono ?_)
  rintro en w' ⟨rfl,rfl⟩
  refine⟨_,rfl,σ,⟨hw,Nat.le_refl _,fun b _ _=>rfl,fun b o hb hn=>(by rw[hb]at hn;cases hn),rfl,rfl,rfl⟩,hK σ (by rw[hsn];exact⟨h1,h2,h3⟩)⟩
 ·have hwg:w.heap[g]? = some (.cells ⟨cur⟩ 9 (0,0)):=hw g _ q4
  rw[strRows_flat,Nat.mul_one,hxl]at q7
  have hlc:l.length<=cur.length:=by rw[q5,Nat.mul_one];omega
  have hget : ∀ (j:Nat) (s:ByteArray),l[j]? = some s->cur[j]? = some (Value.string s):=by
   intro j s hj
   have hjl:j<l.length:=by
    rcases Nat.lt_or_ge j l.length with h | h
    ·exact h
    ·rw[List.getElem?_eq_none h]at hj;cases hj
   have:(cur.take l.length)[j]? = some (Value.string s):=by rw[q7,List.getElem?_map,hj];rfl
   rw[List.getElem?_take_of_lt hjl]at this;exact this
  have hH:Holds encStr w g 0 (l.map fun s=>s.data.toList).toArray:=by
   intro j hj
   have hj':j<l.length:=by simpa using hj
   refine⟨?_,?_⟩
   ·unfold World.cell?
    simp only[hwg,Option.isSome_none,Bool.false_eq_true,if_false]
    have:=hget j l[j] (List.getElem?_eq_getElem hj')
    rw[getElem!_pos _ j hj]
    simp only[Nat.zero_add,List.getElem?_toArray,this]
    simp[encStr]
   ·unfold World.frozen?
    simp only[hwg]
    simp
  rw[q3,hxl]
  have hc:=AnyM.slices_Sort_string Tryz.sort117 g 0 x.cap (l.map fun s=>s.data.toList) w hH (hw.lt q4) (by rw[List.length_map];omega)
  rw[List.length_map]at hc
  refine callsIn_wide.2 (hc.mono ?_)
  rintro en w' ⟨rfl,n,os,rfl⟩
  rw[hsort]
  generalize hS:sortN l=S at hK ⊢
  have hSl:S.length=l.length:=by rw[<-hS];exact(sortN_perm l).length_eq
  let d:Array (List UInt8):=(S.map fun s=>s.data.toList).toArray
  have hds:d.size=l.length:=by show((S.map fun s=>s.data.toList).toArray).size=_;simp[hSl]
  have hnew:(grow (putRow encStr (Sort.ahead w n) g 0 d) os).heap[g]? = some (.cells (putCells encStr 0 d ⟨cur⟩) 9 (0,0)):=by
   rw[heap_grow_old _ _ (by rw[size_putRow];exact hw.lt q4)]
   show((Sort.ahead w n).heap.modify g (onCells _))[g]? = _
   rw[Array.getElem?_modify,if_pos rfl]
   show Option.map _ w.heap[g]? = _
   rw[hwg];rfl
  have hold : ∀b,b<w.heap.size->b≠g->(grow (putRow encStr (Sort.ahead w n) g 0 d) os).heap[b]? = w.heap[b]? := by
   intro b hb hbg
   rw[heap_grow_old _ _ (by rw[size_putRow];exact hb)]
   show((Sort.ahead w n).heap.modify g (onCells _))[b]? = _
   rw[Array.getElem?_modify,if_neg (fun e=>hbg e.symm)];rfl
  have hcells:(putCells encStr 0 d ⟨cur⟩).toList.length=cur.length:=by unfold putCells;simp
  have htake:(putCells encStr 0 d ⟨cur⟩).toList.take l.length=S.map Value.string:=by
   refine List.ext_getElem? fun k => ?_
   by_cases hk:k<l.length
   ·rw[List.getElem?_take_of_lt hk,List.getElem?_map]
    obtain⟨s,hs⟩ : ∃s,S[k]? = some s:=⟨_,List.getElem?_eq_getElem (by omega)⟩
    rw[hs]
    unfold putCells
    rw[Array.getElem?_toList,Array.getElem?_mapIdx]
    have hkc:k<cur.length:=by omega
    have e1:(⟨cur⟩:Array Value)[k]? = some cur[k]:=by rw[List.getElem?_toArray];exact List.getElem?_eq_getElem hkc
    rw[e1,Option.map_some,if_pos ⟨by omega,by omega⟩,Nat.sub_zero]
    have e2:d[k]! = s.data.toList:=by
     rw[getElem!_pos d k (by omega)]
     show((S.map fun s=>s.data.toList).toArray)[k]'_=_
     rw[List.getElem_toArray,List.getElem_map]
     rw[List.getElem?_eq_getElem (by omega)]at hs
     rw[Option.some.inj hs]
    rw[e2];rfl
   ·rw[List.getElem?_take_eq_none (by omega),List.getElem?_eq_none (by rw[List.length_map];omega)]
  have hfin:RNew ρ (σ.put g (.cells (putCells encStr 0 d ⟨cur⟩) 9 (0,0))) 9 1 (strRows S) x:=by
   refine⟨gr_of fun b o hb => ?_,⟨by rw[hxl];simp[strRows,hSl],?_,.inr ⟨g,(putCells encStr 0 d ⟨cur⟩).toList,q3,H.put_same _ _ _,by rw[hcells];exact q5,q6,?_⟩⟩,h3⟩
   ·rw[H.put_other _ _ (fun e=>by rw[e,h3 g q3]at hb;cases hb)];exact h1.get hb
   ·intro r hr
    obtain⟨s,_,rfl⟩:=List.mem_map.1 hr;rfl
   ·rw[strRows_flat,Nat.mul_one,hxl];exact htake
  refine⟨_,rfl,σ.put g (.cells (putCells encStr 0 d ⟨cur⟩) 9 (0,0)),⟨fun b o hb => ?_,?_,fun b hb hn => ?_,fun b o hb hn => ?_,rfl,rfl,rfl⟩,hK _ hfin⟩
  ·by_cases e:b=g
   ·subst e;rw[H.put_same]at hb;cases hb;exact hnew
   ·rw[H.put_other _ _ e]at hb;rw[hold b (hw.lt hb) e];exact hw b o hb
  ·show w.heap.size<=(grow (putRow encStr (Sort.ahead w n) g 0 d) os).heap.size
   show _<=((putRow encStr (Sort.ahead w n) g 0 d).heap++os).size
   rw[Array.size_append,size_putRow];exact Nat.le_add_right _ _
  ·exact hold b hb (fun e=>by rw[e,q4]at hn;cases hn)
  ·by_cases e:b=g
   ·subst e;rw[q4]at hn;cases hn
   ·rw[H.put_other _ _ e,hn]at hb;cases hb
end Go.Proofs.YtbdlkofldmhoaaaGreatDoor

set_option maxRecDepth 100000
namespace Go.Proofs.YtbdlkofldmhoaaaGreatDoor
open Go Go.HL Go.Wk
def lsStep (got:ByteArray) (t:TS) (n:ByteArray):TS:=if !headIs 46 n||hasL got 97 then t.say n else t
theorem listed_def (cwd got:ByteArray) (head:Bool) (s:TS) (path:ByteArray):TS.listed cwd got head s path=(s.A.listF cwd path).2.foldl (lsStep got) (if head then s.say (path++⟨⟨[58]⟩⟩)else s):=by
 cases head<;>rfl
theorem ls_keep (got:ByteArray) : ∀ (l:List ByteArray) (t:TS),(l.foldl (lsStep got) t).A=t.A/\(l.foldl (lsStep got) t).err=t.err/\t.out.size<=(l.foldl (lsStep got) t).out.size:=by
 intro l
 induction l with
 | nil=>intro t;exact⟨rfl,rfl,Nat.le_refl _⟩
 | cons n r ih =>
  intro t
  rw[List.foldl_cons]
  obtain⟨h1,h2,h3⟩:=ih (lsStep got t n)
  rw[h1,h2]
  refine⟨?_,?_,Nat.le_trans ?_ h3⟩
  ·unfold lsStep;split<;>rfl
  ·unfold lsStep;split<;>rfl
  ·unfold lsStep
   split
   ·show t.out.size<=(t.out++n++⟨⟨[10]⟩⟩).size
    rw[ByteArray.size_append,ByteArray.size_append];omega
   ·exact Nat.le_refl _
theorem say_size (t:TS) (l:ByteArray):(t.say l).out.size=t.out.size+l.size+1:=by
 show(t.out++l++⟨⟨[10]⟩⟩).size=_
 rw[ByteArray.size_append,ByteArray.size_append];rfl
theorem listed_keep (cwd got:ByteArray) (head:Bool) (s:TS) (path:ByteArray):(TS.listed cwd got head s path).A=s.A/\(TS.listed cwd got head s path).err=s.err/\s.out.size<=(TS.listed cwd got head s path).out.size:=by
 rw[listed_def]
 obtain⟨h1,h2,h3⟩:=ls_keep got (s.A.listF cwd path).2 (if head then s.say (path++⟨⟨[58]⟩⟩)else s)
 rw[h1,h2]
 refine⟨by cases head<;>rfl,by cases head<;>rfl,Nat.le_trans ?_ h3⟩
 cases head with
 | true =>
  show s.out.size<=(s.say (path++⟨⟨[58]⟩⟩)).out.size
  rw[say_size];omega
 | false=>exact Nat.le_refl _
theorem listeds_keep (cwd got:ByteArray) (head:Bool) : ∀ (l:List ByteArray) (s:TS),(l.foldl (TS.listed cwd got head) s).A=s.A/\(l.foldl (TS.listed cwd got head) s).err=s.err/\s.out.size<=(l.foldl (TS.listed cwd got head) s).out.size:=by
 intro l
 induction l with
 | nil=>intro t;exact⟨rfl,rfl,Nat.le_refl _⟩
 | cons n r ih =>
  intro t
  rw[List.foldl_cons]
  obtain⟨h1,h2,h3⟩:=ih (TS.listed cwd got head t n)
  obtain⟨h4,h5,h6⟩:=listed_keep cwd got head t n
  rw[h1,h2]
  exact⟨h4,h5,Nat.le_trans h6 h3⟩
theorem says_keep : ∀ (l:List ByteArray) (s:TS),(l.foldl TS.say s).A=s.A/\(l.foldl TS.say s).err=s.err/\s.out.size<=(l.foldl TS.say s).out.size:=by
 intro l
 induction l with
 | nil=>intro t;exact⟨rfl,rfl,Nat.le_refl _⟩
 | cons n r ih =>
  intro t
  rw[List.foldl_cons]
  obtain⟨h1,h2,h3⟩:=ih (t.say n)
  rw[h1,h2]
  refine⟨rfl,rfl,Nat.le_trans ?_ h3⟩
  rw[say_size];omega
theorem sift_cons (nm cwd n:ByteArray) (r:List ByteArray) (s:TS) (p d:List ByteArray):TS.sift nm cwd (n::r) s p d=if s.full then(s,p,d)else if s.A.dirB cwd n then TS.sift nm cwd r s p (d++[n])else TS.sift nm cwd r (s.fail nm n (if(s.A.stat cwd n true).1==0 then(s.A.stat cwd n true).1 else(s.A.stat cwd n false).1)) (if(if(s.A.stat cwd n true).1==0 then(s.A.stat cwd n true).1 else(s.A.stat cwd n false).1)==0 then p++[n]else p) d:=rfl
theorem sift_keep (nm cwd:ByteArray) : ∀ (l:List ByteArray) (s:TS) (p d:List ByteArray),(TS.sift nm cwd l s p d).1.A=s.A/\s.err.size<=(TS.sift nm cwd l s p d).1.err.size/\(TS.sift nm cwd l s p d).1.out=s.out/\(TS.sift nm cwd l s p d).2.1.length<=p.length+l.length/\(TS.sift nm cwd l s p d).2.2.length<=d.length+l.length:=by
 intro l
 induction l with
 | nil=>intro s p d;exact⟨rfl,Nat.le_refl _,rfl,Nat.le_refl _,Nat.le_refl _⟩
 | cons n r ih =>
  intro s p d
  rw[sift_cons,List.length_cons]
  split
  ·exact⟨rfl,Nat.le_refl _,rfl,by show p.length<=_;omega,by show d.length<=_;omega⟩
  ·split
   ·obtain⟨h1,h2,h3,h4,h5⟩:=ih s p (d++[n])
    rw[List.length_append,List.length_singleton]at h5
    exact⟨h1,h2,h3,by omega,by omega⟩
   ·generalize (if(s.A.stat cwd n true).1==0 then(s.A.stat cwd n true).1 else(s.A.stat cwd n false).1)=e
    obtain⟨h1,h2,h3,h4,h5⟩:=ih (s.fail nm n e) (if e==0 then p++[n]else p) d
    refine⟨h1.trans (fail_A _ _ _ _),Nat.le_trans (fail_err _ _ _ _) h2,h3.trans (fail_out _ _ _ _),Nat.le_trans h4 ?_,by omega⟩
    split
    ·rw[List.length_append,List.length_singleton];omega
    ·omega
theorem bapp58 (o p:ByteArray):o++(p++⟨⟨[58,10]⟩⟩)=o++(p++⟨⟨[58]⟩⟩)++⟨⟨[10]⟩⟩:=by
 rw[ByteArray.append_assoc,ByteArray.append_assoc];rfl
theorem bapp10 (o p:ByteArray):o++(p++⟨⟨[10]⟩⟩)=o++p++⟨⟨[10]⟩⟩:=by
 rw[ByteArray.append_assoc]
theorem off_all (σ:H) (B:Nat->Prop) : ∃τ,Off τ σ B /\ ∀b o,σ b=some o -> ¬B b->τ b=some o:=by
 classical
 refine⟨fun b=>if B b then none else σ b,⟨gr_of fun b o hb => ?_,fun b o hb hB => ?_⟩,fun b o hb hB => ?_⟩
 ·by_cases hB:B b
  ·simp only[if_pos hB]at hb;cases hb
  ·simp only[if_neg hB]at hb;exact hb
 ·simp only[if_pos hB]at hb;cases hb
 ·simp only[if_neg hB];exact hb
attribute [local irreducible] ptrW ifW brW andW rdT alW letJ stW muW biW vaW imW callT cvalT app callW invW callVW sizeT oW nilF oneK loopW rfW funW begW roundK exW idxW Gr Put
section
variable {σ : H} {bt : Nat} {C : TlC} {got : ByteArray} {y : Sl} {s : TS} {B : Nat -> Prop}
theorem s_fiListed {N:Nat} (h:TlAt σ bt C got y s B) (hI:Inv s.A) (hBd:Bd N s.A) (hN:N<=1000000000000) (path:ByteArray) (head:Bool) (hz:(TS.listed C.cwd got head s path).out.size<=1000000000000) {K:KH}
 (hK:∀σ',TlAt σ' bt C got y (TS.listed C.cwd got head s path) B->Sep σ B σ' B->K (.tuple ⟨[]⟩) σ'):callW Tryz.prog 118 [.pointer (some ⟨bt,0,none⟩),.string path,.bool head] K σ:=by
 refine c118 _ _ _ ?_
 unfold g118
 have hB:B bt:=by obtain⟨_,_,_,_,q⟩:=h;exact(q bt).2 (.inr rfl)
 have sep : ∀ {τ τ':H} {o:Obj},Put τ bt o τ'->Sep τ B τ' B:=fun hp c oc hoc hn=>⟨hp.get (fun e=>hn (e ▸ hB)) hoc,hn⟩
 rw[listed_def]at hz hK
 generalize hs0:(if head then s.say (path++⟨⟨[58]⟩⟩)else s)=s0 at hz hK
 have hA0:s0.A=s.A:=by rw[<-hs0];cases head<;>rfl
 refine j_i (fun j => ∀σ',TlAt σ' bt C got y s0 B->Sep σ B σ' B->j (some ⟨bt,0,none⟩) path σ') ?_ ?_
 ·intro σ2 t2 s2
  refine ptr_i (rd_P (rdC_of t2.cell (by rfl)) (ptr_i (rd_S (rdC_of t2.cell (by rfl)) ?_)))
  obtain⟨B0,hF,_⟩:=t2.fs
  rw[hA0]at hF
  refine call_i (s_ListR hI hBd hN hF _ _ ?_)
  intro x σ3 hx
  have hnames : ∀n∈(s.A.listF C.cwd path).2,nameOk n/\stepOk n:=fun n hn=>listF_name hI hn
  have hll:=listF_len (cwd:=C.cwd) (path:=path) hBd
  generalize s.A.listF C.cwd path=L at hx hz hK hnames hll ⊢
  obtain⟨le,names⟩:=L
  simp only at hx hz hK hnames hll
  (refine app_of rfl ?_;try dsimp only)
  obtain⟨τ,O3,hr3,_⟩:=off_new (B:=B) (fun b hb=>t2.has hb) hx
  have hxl:=sLen hr3
  refine loop_i ?_
  intro R hR
  have key : ∀ (k i:Nat) (s1:TS) (σ1:H),k+i=names.length->TlAt σ1 bt C got y s1 B->Sep σ B σ1 B->Off τ σ1 B->(names.drop i).foldl (lsStep got) s1=names.foldl (lsStep got) s0->R (some ⟨bt,0,none⟩) x ((x.len:Nat):Int) (i:Int) σ1:=by
   intro k
   induction k with
   | zero =>
    intro i s1 σ1 hk t1 ss o1 hfo
    rw[List.drop_eq_nil_of_le (by omega)]at hfo
    have hfo:s1=names.foldl (lsStep got) s0:=hfo
    refine hR _ _ _ _ _ ?_
    rw[<-hfo]at hK
    exact br_f (by simp only[decide_eq_false_iff_not];omega) (hK σ1 t1 ss)
   | succ k ihk =>
    intro i s1 σ1 hk t1 ss o1 hfo
    obtain⟨n,hn⟩ : ∃n,names[i]? = some n:=⟨_,List.getElem?_eq_getElem (by omega)⟩
    obtain⟨g,o,a1,a2,a3⟩:=sRow (hr3.gr o1.1) hn
    have hns:=hnames n (List.mem_of_getElem? hn)
    rw[drop_of hn,List.foldl_cons]at hfo
    refine hR _ _ _ _ _ (br_t (by simp only[decide_eq_true_eq];omega) ?_)
    refine j_i (fun j => ∀σ',TlAt σ' bt C got y (lsStep got s1 n) B->Sep σ B σ' B->Off τ σ' B->j (some ⟨bt,0,none⟩) x ((x.len:Nat):Int) (i:Int) σ') ?_ ?_
    ·intro σ5 t5 s5 o5
     rw[wrapS (i:=i) (by omega)]
     exact ihk (i+1) _ σ5 (by omega) t5 s5 o5 hfo
    ·intro j hj
     rw[a1]
     refine ptr_i (if_i ⟨by omega,by omega⟩ (rd_S (by rw[Int.toNat_natCast];exact a3) ?_))
     refine j_i (fun j => ∀b:Bool,b=(!headIs 46 n||hasL got 97)->j (some ⟨bt,0,none⟩) n x ((x.len:Nat):Int) (i:Int) b σ1) ?_ ?_
     ·intro b hb
      have hls:lsStep got s1 n=if b then s1.say n else s1:=by rw[hb];rfl
      rw[hls]at hj
      cases b with
      | false=>exact br_f rfl (hj σ1 t1 ss o1)
      | true =>
       have hrow:=(ls_keep got (names.drop (i+1)) (lsStep got s1 n)).2.2
       rw[hfo,hls,if_pos rfl,say_size]at hrow
       rw[if_pos rfl]at hj
       refine br_t rfl (ptr_i (rd_S (rdC_of t1.cell (by rfl)) (if_i (by show n.size+1<=_;omega) (if_i (by rw[ByteArray.size_append];show _+(n.size+1)<=_;omega) (ptr_i ?_)))))
       rw[bapp10]
       refine st_i2 t1.cell sz_string (by rfl) (by rfl) ?_;intro σ5 p5
       exact hj σ5 (t1.say (s':=s1.say n) rfl p5) (ss.trans (sep p5)) (o1.sep (sep p5))
     ·intro j hj
      obtain⟨c,hc,hh⟩:=head_idx (name_ne hns.1)
      refine idx_l (by omega) hc ?_
      rw[show((((c.toNat:Nat):Int):Int) != 46) = !(c==46)from congrArg Bool.not (u8e c 46),<- hh]
      cases h46:headIs 46 n with
      | false=>exact br_t rfl (hj true (by rw[h46];rfl))
      | true=>exact br_f rfl (call_i (s_fiHas t1 97 (app_B (hj _ (by rw[h46];rfl)))))
  exact key names.length 0 s0 σ3 (by omega) (t2.gr hx.1) (s2.grR hx.1) O3 rfl
 ·intro j hj
  cases head with
  | false =>
   have hs0:s=s0:=hs0
   subst hs0
   exact br_f rfl (hj σ h (Sep.refl _ _))
  | true =>
   have hs0:s.say (path++⟨⟨[58]⟩⟩)=s0:=hs0
   have hrow:=(ls_keep got (s.A.listF C.cwd path).2 s0).2.2
   have hsz:s0.out.size=s.out.size+(path.size+1)+1:=by rw[<-hs0,say_size,ByteArray.size_append];rfl
   refine br_t rfl (ptr_i (rd_S (rdC_of h.cell (by rfl)) (if_i (by show path.size+2<=_;omega) (if_i (by rw[ByteArray.size_append];show _+(path.size+2)<=_;omega) (ptr_i ?_)))))
   rw[bapp58]
   refine st_i2 h.cell sz_string (by rfl) (by rfl) ?_;intro σ5 p5
   subst hs0
   exact hj σ5 (h.say (got':=got) (y':=y) (s':=s.say (path++(⟨⟨[58]⟩⟩:ByteArray))) rfl p5) (sep p5)
end
end Go.Proofs.YtbdlkofldmhoaaaGreatDoor

set_option maxRecDepth 100000
namespace Go.Proofs.YtbdlkofldmhoaaaGreatDoor
open Go Go.HL Go.Wk
structure Grow2 (ρ σ:H) (b5 b6:Nat) (p d:List ByteArray) (xp xd:Sl):Prop where
 op:RowsOwn σ 9 1 (strRows p) xp
 od:RowsOwn σ 9 1 (strRows d) xd
 np : ∀g,xp.base=some ⟨g,0,none⟩->ρ g=none
 nd : ∀g,xd.base=some ⟨g,0,none⟩->ρ g=none
 ap : ∀g,xp.base=some ⟨g,0,none⟩->xd.base≠some ⟨g,0,none⟩
 c5:σ b5=some (.cells ⟨[.slice xp.base xp.len xp.cap]⟩ 30 (0,0))
 c6:σ b6=some (.cells ⟨[.slice xd.base xd.len xd.cap]⟩ 30 (0,0))
attribute [local irreducible] ptrW ifW brW andW rdT alW letJ stW muW biW vaW imW callT cvalT app callW invW callVW sizeT oW nilF oneK loopW rfW funW begW roundK exW idxW Gr Put
theorem el_strsF:ElT Tryz.prog 30 9 1:=elT_of (by kernel_rfl) (by decide) (by kernel_rfl)
section
variable {ρ σ σ' : H} {b5 b6 : Nat} {p d : List ByteArray} {xp xd : Sl}
theorem Grow2.symm (G:Grow2 ρ σ b5 b6 p d xp xd):Grow2 ρ σ b6 b5 d p xd xp:=⟨G.od,G.op,G.nd,G.np,fun g h e=>G.ap g e h,G.c6,G.c5⟩
theorem Grow2.stay (G:Grow2 ρ σ b5 b6 p d xp xd) (h5:ρ b5≠none) (h6:ρ b6≠none) (hk:∀c o,σ c=some o->(ρ c=none\/c=b5\/c=b6)->σ' c=some o):Grow2 ρ σ' b5 b6 p d xp xd :=
 ⟨G.op.keep fun g o hg ho=>hk g o ho (.inl (G.np g hg)),G.od.keep fun g o hg ho=>hk g o ho (.inl (G.nd g hg)),G.np,G.nd,G.ap,hk _ _ G.c5 (.inr (.inl rfl)),hk _ _ G.c6 (.inr (.inr rfl))⟩
def Pushed (ρ σ σ':H) (b:Nat):Prop := ∃σ1 σ2 o,Gr σ σ1/\((∃g o',ρ g=none/\Put σ1 g o' σ2)\/Gr σ1 σ2)/\Put σ2 b o σ'
theorem Pushed.get {b c:Nat} {o:Obj} (h:Pushed ρ σ σ' b) (hc:ρ c≠none) (hb:c≠b) (ho:σ c=some o):σ' c=some o:=by
 obtain⟨σ1,σ2,o1,h1,h2,h3⟩:=h
 refine h3.get hb ?_
 rcases h2 with⟨g,o',hg,hp⟩ | hg
 ·exact hp.get (fun e=>hc (e ▸ hg)) (h1.get ho)
 ·exact hg.get (h1.get ho)
theorem Grow2.push (G:Grow2 ρ σ b5 b6 p d xp xd) (hk:∀c,ρ c≠none->σ c≠none) (h5:ρ b5≠none) (h6:ρ b6≠none) (h56:b5≠b6) (n:ByteArray) (hl:p.length<1000000000) {F:H->Prop}
 (hF:∀xp' σ',Grow2 ρ σ' b5 b6 (p++[n]) d xp' xd->Pushed ρ σ σ' b5->F σ') :
 alW (.cells ⟨[.string n]⟩ 9 (0,0)) (fun b=>biW Tryz.prog .append #[30,30] 30 [false,false] [.slice xp.base xp.len xp.cap,.slice (some ⟨b,0,none⟩) 1 1] (.one (.sc .slc)) (fun x=>stW Tryz.prog 30 (.pointer (some ⟨b5,0,none⟩)) (.slice x.base x.len x.cap) F)) σ:=by
 refine al_i ?_;intro b σ1 g1 e1 n1
 obtain⟨h1,h0,i,z,i1,i2,i3,i4,i5⟩:=el_strsF
 refine append_i h1 i1 i2 i3 rfl i5 h0 (G.op.gr g1) e1 rfl (fun u hu=>by rw[List.mem_singleton.1 hu];rfl) (by rw[strRows_len];exact hl) (Nat.le_trans i4 (by decide)) ?_
 intro x σ2 hx hc
 have k5:=g1.get G.c5
 have k6:=g1.get G.c6
 have hx':RowsOwn σ2 9 1 (strRows (p++[n])) x:=by
  have e:strRows (p++[n])=strRows p++[[.string n]]:=by unfold strRows;rw[List.map_append];rfl
  rw[e];exact hx
 have q5:σ2 b5=some (.cells ⟨[.slice xp.base xp.len xp.cap]⟩ 30 (0,0)):=by
  rcases hc with⟨g,o,c1,c2,c3⟩ | ⟨g,c1,c2,c3⟩
  ·exact c3.get (fun e=>h5 (e ▸ G.np g c1)) k5
  ·exact c3.get k5
 have q6:σ2 b6=some (.cells ⟨[.slice xd.base xd.len xd.cap]⟩ 30 (0,0)):=by
  rcases hc with⟨g,o,c1,c2,c3⟩ | ⟨g,c1,c2,c3⟩
  ·exact c3.get (fun e=>h6 (e ▸ G.np g c1)) k6
  ·exact c3.get k6
 refine st_i2 q5 sz_strs (by rfl) (by rfl) ?_;intro σ3 p3
 have hnew : ∀g,x.base=some ⟨g,0,none⟩->ρ g=none/\xd.base≠some ⟨g,0,none⟩:=by
  intro g hg
  rcases hc with⟨g',o,c1,c2,c3⟩ | ⟨g',c1,c2,c3⟩
  ·rw[c2]at hg
   exact⟨G.np g hg,G.ap g hg⟩
  ·rw[c1]at hg
   injection hg with hg
   injection hg with hg
   subst hg
   have hs:=none_of g1 c2
   refine⟨?_,fun e=>G.od.has e hs⟩
   cases hr:ρ g' with
   | none=>rfl
   | some o=>exact absurd hs (hk g' (by rw[hr];simp))
 have od2:RowsOwn σ2 9 1 (strRows d) xd:=by
  rcases hc with⟨g,o,c1,c2,c3⟩ | ⟨g,c1,c2,c3⟩
  ·exact(G.od.gr g1).put c3 (G.ap g c1)
  ·exact(G.od.gr g1).gr c3
 refine hF x σ3 ⟨hx'.put p3 (fun e=>h5 (hnew b5 e).1),od2.put p3 (fun e=>h5 (G.nd b5 e)),fun g hg=>(hnew g hg).1,G.nd,fun g hg=>(hnew g hg).2,p3.same,p3.get h56.symm q6⟩ ⟨σ1,σ2,_,g1,?_,p3⟩
 rcases hc with⟨g,o,c1,c2,c3⟩ | ⟨g,c1,c2,c3⟩
 ·exact .inl ⟨g,o,G.np g c1,c3⟩
 ·exact .inr c3
end
section
variable {ρ σ σ' τ : H} {bt : Nat} {C : TlC} {got : ByteArray} {y : Sl} {s : TS} {B : Nat -> Prop} {names : List ByteArray}
theorem TlAt.pushed {b:Nat} (h:TlAt σ bt C got y s B) (hp:Pushed ρ σ σ' b) (hB:∀c,B c->ρ c≠none) (hb:¬B b):TlAt σ' bt C got y s B:=by
 obtain⟨σ1,σ2,o1,h1,h2,h3⟩:=hp
 refine TlAt.put ?_ h3 hb
 rcases h2 with⟨g,o',hg,hp⟩ | hg
 ·exact(h.gr h1).put hp (fun e=>hB g e hg)
 ·exact(h.gr h1).gr hg
theorem go_fiLs1:isGo Tryz.prog 115=true:=by kernel_rfl
structure LsI (ρ:H) (bt b5 b6:Nat) (C:TlC) (got:ByteArray) (y:Sl) (B:Nat->Prop) (A:AT) (fin:TS×List ByteArray×List ByteArray) (m:Nat) (r:List ByteArray) (s:TS) (σ:H):Prop where
 tl:TlAt σ bt C got y s B
 keep : ∀c o,ρ c=some o->c≠b5->c≠b6 -> ¬B c->σ c=some o
 sf:s.A=A
 ex : ∃p d xp xd,Grow2 ρ σ b5 b6 p d xp xd/\TS.sift C.nm C.cwd r s p d=fin/\p.length+r.length<=m/\d.length+r.length<=m
structure LsH (ρ:H) (bt b2 b5 b6:Nat) (B:Nat->Prop):Prop where
 h2:ρ b2=some (ptT bt)
 h5:ρ b5≠none
 h6:ρ b6≠none
 h25:b2≠b5
 h26:b2≠b6
 h56:b5≠b6
 n2 : ¬B b2
 n5 : ¬B b5
 n6 : ¬B b6
 has : ∀c,B c->ρ c≠none
variable {b2 b5 b6 m : Nat} {A : AT} {fin : TS × List ByteArray × List ByteArray}
theorem LsI.alive (W:LsH ρ bt b2 b5 b6 B) {r:List ByteArray} (h:LsI ρ bt b5 b6 C got y B A fin m r s σ) {c:Nat} (hc:ρ c≠none):σ c≠none:=by
 by_cases h5:c=b5
 ·obtain⟨p,d,xp,xd,G,_⟩:=h.ex
  rw[h5,G.c5];simp
 by_cases h6:c=b6
 ·obtain⟨p,d,xp,xd,G,_⟩:=h.ex
  rw[h6,G.c6];simp
 by_cases hB:B c
 ·exact h.tl.has hB
 ·cases hr:ρ c with
  | none=>exact absurd hr hc
  | some o=>rw[h.keep c o hr h5 h6 hB];simp
theorem LsI.sep (W:LsH ρ bt b2 b5 b6 B) {r:List ByteArray} (h:LsI ρ bt b5 b6 C got y B A fin m r s σ) {s':TS} (hs:Sep σ B σ' B) (ht:TlAt σ' bt C got y s' B) (hA:s'.A=A) {r':List ByteArray} (hx:∀p d,TS.sift C.nm C.cwd r s p d=fin->TS.sift C.nm C.cwd r' s' p d=fin) (hr:r'.length<=r.length):LsI ρ bt b5 b6 C got y B A fin m r' s' σ':=by
 obtain⟨p,d,xp,xd,G,h1,h2,h3⟩:=h.ex
 refine⟨ht,fun c o hc h5 h6 hB=>(hs c o (h.keep c o hc h5 h6 hB) hB).1,hA,p,d,xp,xd,G.stay W.h5 W.h6 (fun c o hc hw=>(hs c o hc ?_).1),hx p d h1,by omega,by omega⟩
 rcases hw with e | e | e
 ·exact fun hB=>W.has c hB e
 ·subst e;exact W.n5
 ·subst e;exact W.n6
theorem s_fiLs1 (W:LsH ρ bt b2 b5 b6 B) {n:ByteArray} {r:List ByteArray} (h:LsI ρ bt b5 b6 C got y B A fin m (n::r) s σ) (hf:s.full=false) (hm:m<=1000000) {K:KH}
 (hK:∀e σ',Er e->TlAt σ' bt C got y s B->(∀c o,ρ c=some o->c≠b5->c≠b6 -> ¬B c->σ' c=some o)->(∀σ2,TlAt σ2 bt C got y (s.fail C.nm n e) B->Sep σ' B σ2 B->LsI ρ bt b5 b6 C got y B A fin m r (s.fail C.nm n e) σ2)->K (.int .i64 e) σ') :
 callVW Tryz.prog (.func (.func 115) ⟨[]⟩ ⟨[.pointer (some ⟨b2,0,none⟩),.pointer (some ⟨b6,0,none⟩),.pointer (some ⟨b5,0,none⟩)]⟩) [.string n] K σ:=by
 refine callVW_of go_fiLs1 (c115 _ _ _ _ ?_)
 unfold g115
 obtain⟨p,d,xp,xd,G,h1,h2,h3⟩:=h.ex
 rw[List.length_cons]at h2 h3
 have k2:σ b2=some (ptT bt):=h.keep b2 _ W.h2 W.h25 W.h26 W.n2
 rw[sift_cons,hf]at h1
 simp only[Bool.false_eq_true,if_false]at h1
 refine ptr_i (rd_P (rdC_of k2 (by rfl)) (call_i (s_fiDir h.tl n (app_B ?_))))
 cases hd:s.A.dirB C.cwd n with
 | true =>
  rw[hd,if_pos rfl]at h1
  refine br_t rfl (ptr_i (rd_Y (y:=xd) (rdC_of G.c6 (by rfl)) ?_))
  refine G.symm.push (fun c hc=>h.alive W hc) W.h6 W.h5 W.h56.symm n (by omega) ?_
  intro x σ3 G3 hp
  have t3:=h.tl.pushed hp W.has W.n6
  have hkeep : ∀c o,ρ c=some o->c≠b5->c≠b6 -> ¬B c->σ3 c=some o:=fun c o hc q5 q6 hB=>hp.get (by rw[hc];simp) q6 (h.keep c o hc q5 q6 hB)
  refine hK 0 σ3 er_0 t3 hkeep ?_
  intro σ4 t4 s4
  have I3:LsI ρ bt b5 b6 C got y B A fin m r s σ3:=⟨t3,hkeep,h.sf,p,d++[n],xp,x,G3.symm,h1,by omega,by rw[List.length_append,List.length_singleton];omega⟩
  exact I3.sep W s4 t4 h.sf (fun p d q=>q) (Nat.le_refl _)
 | false =>
  rw[hd,if_neg (by simp)]at h1
  refine br_f rfl (ptr_i (rd_P (rdC_of k2 (by rfl)) (call_i (s_fiStat h.tl n true ?_))))
  unfold inV
  (refine app_of rfl ?_;try dsimp only)
  refine al_i ?_;intro b22 σ1 g1 e1 n1
  refine st_i2 e1 sz_InoF (by rfl) (by rfl) ?_;intro σ2 p2
  have g2:Gr σ σ2:=g1.putF p2 n1
  have t2:=h.tl.gr g2
  clear p2 e1 g1
  have her1:Er (s.A.stat C.cwd n true).1:=er_stat _ _ _
  have her2:Er (s.A.stat C.cwd n false).1:=er_stat _ _ _
  generalize hE:(if(s.A.stat C.cwd n true).1==0 then(s.A.stat C.cwd n true).1 else(s.A.stat C.cwd n false).1)=e at h1
  have hEr:Er e:=by rw[<-hE];exact er_ite her1 her2
  have G2:Grow2 ρ σ2 b5 b6 p d xp xd:=G.stay W.h5 W.h6 fun c o hc _=>g2.get hc
  have kp2 : ∀c o,ρ c=some o->c≠b5->c≠b6 -> ¬B c->σ2 c=some o:=fun c o hc q5 q6 hB=>g2.get (h.keep c o hc q5 q6 hB)
  have k22:=g2.get k2
  refine j_i (fun j=>j n (some ⟨b5,0,none⟩) e σ2) ?_ ?_
  ·refine j_d ?_
   cases h0:e==0 with
   | true =>
    rw[h0,if_pos rfl]at h1
    have h0:e=0:=by simpa using h0
    subst h0
    refine br_t rfl (ptr_i (rd_Y (y:=xp) (rdC_of G2.c5 (by rfl)) ?_))
    refine G2.push (fun c hc => ?_) W.h5 W.h6 W.h56 n (by omega) ?_
    ·intro hn
     exact h.alive W hc (none_of g2 hn)
    intro x σ3 G3 hp
    have t3:=t2.pushed hp W.has W.n5
    have hkeep : ∀c o,ρ c=some o->c≠b5->c≠b6 -> ¬B c->σ3 c=some o:=fun c o hc q5 q6 hB=>hp.get (by rw[hc];simp) q5 (kp2 c o hc q5 q6 hB)
    refine hK 0 σ3 er_0 t3 hkeep ?_
    intro σ4 t4 s4
    have I3:LsI ρ bt b5 b6 C got y B A fin m r s σ3:=⟨t3,hkeep,h.sf,p++[n],d,x,xd,G3,h1,by rw[List.length_append,List.length_singleton];omega,by omega⟩
    exact I3.sep W s4 t4 h.sf (fun p d q=>q) (Nat.le_refl _)
   | false =>
    rw[h0,if_neg (by simp)]at h1
    refine br_f rfl (hK e σ2 hEr t2 kp2 ?_)
    intro σ4 t4 s4
    refine⟨t4,fun c o hc q5 q6 hB=>(s4 c o (kp2 c o hc q5 q6 hB) hB).1,(fail_A _ _ _ _).trans h.sf,p,d,xp,xd,G2.stay W.h5 W.h6 (fun c o hc hw=>(s4 c o hc ?_).1),h1,by omega,by omega⟩
    rcases hw with e | e | e
    ·exact fun hB=>W.has c hB e
    ·subst e;exact W.n5
    ·subst e;exact W.n6
  ·intro j hj
   cases h0:(s.A.stat C.cwd n true).1==0 with
   | true =>
    rw[h0,if_pos rfl]at hE
    subst hE
    exact br_f (by rw[bne,h0];rfl) hj
   | false =>
    rw[h0,if_neg (by simp)]at hE
    subst hE
    refine br_t (by rw[bne,h0];rfl) (ptr_i (rd_P (rdC_of k22 (by rfl)) (call_i (s_fiStat t2 n false ?_))))
    unfold inV
    (refine app_of rfl ?_;try dsimp only)
    exact hj
end
end Go.Proofs.YtbdlkofldmhoaaaGreatDoor

set_option maxRecDepth 100000
namespace Go.Proofs.YtbdlkofldmhoaaaGreatDoor
open Go Go.HL Go.Wk
theorem ls_def (nm cwd got:ByteArray) (names nm':List ByteArray) (h:nm'=if names.isEmpty then [⟨⟨[46]⟩⟩]else names) (s:TS):TS.ls nm cwd got names s=(TS.sift nm cwd nm' s [] []).2.2.foldl (TS.listed cwd got (Nat.blt 1 nm'.length)) ((sortN (TS.sift nm cwd nm' s [] []).2.1).foldl TS.say (TS.sift nm cwd nm' s [] []).1):=by
 subst h;rfl
theorem sift_full {nm cwd:ByteArray} {r:List ByteArray} {s:TS} (h:s.full=true) (p d:List ByteArray):TS.sift nm cwd r s p d=(s,p,d):=by
 cases r with
 | nil=>rfl
 | cons n r=>rw[sift_cons,h];rfl
attribute [local irreducible] ptrW ifW brW andW rdT alW letJ stW muW biW vaW imW callT cvalT app callW invW callVW sizeT oW nilF oneK loopW rfW funW begW roundK exW idxW Gr Put
theorem own1F {σ:H} {b:Nat} {s:ByteArray} (h:σ b=some (.cells ⟨[.string s]⟩ 9 (0,0))):RowsOwn σ 9 1 (strRows [s]) ⟨some ⟨b,0,none⟩,1,1⟩ :=
 ⟨rfl,by intro r hr;simp[strRows]at hr;subst hr;rfl,.inr ⟨b,_,rfl,h,rfl,Nat.le_refl _,rfl⟩⟩
section
variable {ρ σ σ' τ : H} {bt : Nat} {C : TlC} {got : ByteArray} {y : Sl} {s : TS} {B : Nat -> Prop} {names : List ByteArray}
theorem TlAt.but (h:TlAt σ bt C got y s B) {xb:Option Addr} (hk:∀c o,σ c=some o->xb≠some ⟨c,0,none⟩->σ' c=some o) (hn:∀g,xb=some ⟨g,0,none⟩ -> ¬B g/\σ' g≠none):TlAt σ' bt C got y s B:=by
 by_cases hx : ∃g,xb=some ⟨g,0,none⟩
 ·obtain⟨g,hg⟩:=hx
  obtain⟨n1,n2⟩:=hn g hg
  cases ho:σ' g with
  | none=>exact absurd ho n2
  | some o =>
   refine(h.put (b:=g) (o:=o) (Put.intro _ _ _) n1).gr (gr_of fun c oc hc => ?_)
   by_cases e:c=g
   ·subst e;rw[H.put_same]at hc;cases hc;exact ho
   ·rw[H.put_other _ _ e]at hc
    refine hk c oc hc (fun e2 => ?_)
    rw[hg]at e2;injection e2 with e2;injection e2 with e2;exact e e2.symm
 ·exact h.gr (gr_of fun c oc hc=>hk c oc hc fun e=>hx ⟨c,e⟩)
theorem s_fiLs {N:Nat} (h:TlAt σ bt C got y s B) (hO:Off τ σ B) (hy:RowsAt τ 1 (strRows names) y) (hI:Inv s.A) (hBd:Bd N s.A) (hN:N<=1000000000000) (hnm:C.nm.size<=1000000) (hl:names.length<=100000) (hnz:∀n∈names,n.size<=1000000)
 (hz1:(TS.ls C.nm C.cwd got names s).err.size<=1000000000000) (hz2:(TS.ls C.nm C.cwd got names s).out.size<=1000000000000) {K:KH}
 (hK:∀σ' y',TlAt σ' bt C got y' (TS.ls C.nm C.cwd got names s) B->Sep σ B σ' B->K (.tuple ⟨[]⟩) σ'):callW Tryz.prog 50 [.pointer (some ⟨bt,0,none⟩)] K σ:=by
 refine c50 _ ?_
 unfold g50
 have hB:B bt:=by obtain⟨_,_,_,_,q⟩:=h;exact(q bt).2 (.inr rfl)
 have sep : ∀ {τ τ':H} {o:Obj},Put τ bt o τ'->Sep τ B τ' B:=fun hp c oc hoc hn=>⟨hp.get (fun e=>hn (e ▸ hB)) hoc,hn⟩
 have hyl:=sLen hy
 refine al_i ?_;intro b2 σ1 g1 e1 n1
 have nb2 : ¬B b2:=h.fresh n1
 have t1:=h.gr g1
 have O1:Off (τ.put b2 (ptT bt)) σ1 B:=(hO.gr g1).add e1 nb2
 have nt:τ b2=none:=none_of hO.1 n1
 generalize hnm':(if names.isEmpty then [⟨⟨[46]⟩⟩]else names)=nm'
 rw[ls_def _ _ _ names nm' hnm'.symm]at hz1 hz2 hK
 have hl':nm'.length<=100000:=by
  rw[<-hnm'];split
  ·decide
  ·exact hl
 have hnz' : ∀n∈nm',n.size<=1000000:=by
  rw[<-hnm'];split
  ·intro n hn;rw[List.mem_singleton.1 hn];decide
  ·exact hnz
 refine j_i (fun j => ∀y' τ' σ',TlAt σ' bt C got y' s B->Off τ' σ' B->τ' b2=some (ptT bt)->RowsAt τ' 1 (strRows nm') y'->Sep σ B σ' B->j (some ⟨b2,0,none⟩) σ') ?_ ?_
 ·intro y' τ' σ2 t2 O2 kb2 hy' s2
  refine al_i ?_;intro b5 σ3 g3 e3 n3
  refine al_i ?_;intro b6 σ4 g4 e4 n4
  have t4:=(t2.gr g3).gr g4
  have k2:σ4 b2=some (ptT bt):=g4.get (g3.get (O2.get kb2))
  have k5:=g4.get e3
  have W:LsH σ4 bt b2 b5 b6 B:=by
   refine⟨k2,by rw[k5];simp,by rw[e4];simp,fun e => ?_,fun e => ?_,fun e => ?_,nb2,t2.fresh n3,(t2.gr g3).fresh n4,fun c hc=>t4.has hc⟩
   ·rw[<-e,O2.get kb2]at n3;cases n3
   ·rw[<-e,g3.get (O2.get kb2)]at n4;cases n4
   ·rw[<-e,e3]at n4;cases n4
  refine ptr_i (rd_P (rdC_of k2 (by rfl)) ?_)
  generalize hfin:TS.sift C.nm C.cwd nm' s [] []=fin at hz1 hz2 hK
  have hsk:=sift_keep C.nm C.cwd nm' s [] []
  rw[hfin]at hsk
  have z1:fin.1.err.size<=1000000000000:=by
   have e1:=(listeds_keep C.cwd got (Nat.blt 1 nm'.length) fin.2.2 ((sortN fin.2.1).foldl TS.say fin.1)).2.1
   have e2:=(says_keep (sortN fin.2.1) fin.1).2.1
   rw[e1,e2]at hz1;exact hz1
  have I0:LsI σ4 bt b5 b6 C got y' B s.A fin nm'.length nm' s σ4 :=
   ⟨t4,fun c o hc _ _ _=>hc,rfl,[],[],⟨none,0,0⟩,⟨none,0,0⟩,⟨RowsOwn.nil _ _ _,RowsOwn.nil _ _ _,fun g hg=>(by cases hg),fun g hg=>(by cases hg),fun g hg=>(by cases hg),k5,e4⟩,hfin,by rw[List.length_nil];omega,by rw[List.length_nil];omega⟩
  have nt5:τ' b5=none:=none_of O2.1 n3
  have nt6:τ' b6=none:=none_of (O2.1.trans g3) n4
  have goff : ∀ {r s' σ'},LsI σ4 bt b5 b6 C got y' B s.A fin nm'.length r s' σ'->Off τ' σ' B:=by
   intro r s' σ' I
   refine⟨gr_of fun c o hc=>I.keep c o (g4.get (g3.get (O2.get hc))) (fun e => ?_) (fun e => ?_) (O2.2 c o hc),O2.2⟩
   ·rw[e,nt5]at hc;cases hc
   ·rw[e,nt6]at hc;cases hc
  refine call_i (s_fiEachG (got:=got) (σ:=σ4) (B:=B) (s:=s) (I:=fun r s' σ' B'=>B'=B/\LsI σ4 bt b5 b6 C got y' B s.A fin nm'.length r s' σ') hy' (by omega) _ hnm ?_ ?_ ?_ ⟨rfl,I0⟩)
  ·rintro r s' σ' B' ⟨rfl,I⟩
   exact⟨I.tl,goff I⟩
  ·rintro n r s' σ' B' ⟨rfl,I⟩ hf hn K' hK'
   have zs:s'.err.size<=1000000000000:=by
    obtain⟨p,d,xp,xd,_,hx,_⟩:=I.ex
    have:=(sift_keep C.nm C.cwd (n::r) s' p d).2.1
    rw[hx]at this;omega
   refine s_fiLs1 W I hf (by omega) ?_
   intro e σ5 her t5 kp5 hI5
   refine hK' e s' σ5 B' her t5 ?_ (hnz' n hn) zs fun σ6 t6 s6 _=>⟨rfl,hI5 σ6 t6 s6⟩
   refine⟨gr_of fun c o hc=>kp5 c o (g4.get (g3.get (O2.get hc))) (fun e => ?_) (fun e => ?_) (O2.2 c o hc),O2.2⟩
   ·rw[e,nt5]at hc;cases hc
   ·rw[e,nt6]at hc;cases hc
  rintro r s5 σ5 B' ⟨rfl,I⟩ hr
  obtain⟨p,d,xp,xd,G,hx,hpl,hdl⟩:=I.ex
  have hx2:fin=(s5,p,d):=by
   rw[<-hx]
   rcases hr with rfl | hf
   ·rfl
   ·exact sift_full hf p d
  subst hx2
  simp only at hz1 hz2 hK
  have hA5:s5.A=s.A:=I.sf
  refine app_U (rd_Y (y:=xp) (rdC_of G.c5 (by rfl)) ?_)
  classical
  obtain⟨ρs,hρ1,hρ2,hρ3⟩ : ∃ρs:H,Gr ρs σ5/\(∀g,xp.base=some ⟨g,0,none⟩->ρs g=none) /\ ∀c o,σ5 c=some o->xp.base≠some ⟨c,0,none⟩->ρs c=some o:=by
   refine⟨fun c=>if xp.base=some ⟨c,0,none⟩then none else σ5 c,gr_of fun c o hc => ?_,fun g hg=>if_pos hg,fun c o hc hn=>(if_neg hn).trans hc⟩
   by_cases e:xp.base=some ⟨c,0,none⟩
   ·simp only[if_pos e]at hc;cases hc
   ·simp only[if_neg e]at hc;exact hc
  refine call_i (s_Sort (ρ:=ρs) ⟨hρ1,G.op,hρ2⟩ (by omega) ?_)
  intro σ6 hso
  have hstay : ∀c o,σ5 c=some o->xp.base≠some ⟨c,0,none⟩->σ6 c=some o:=fun c o hc hn=>hso.1.get (hρ3 c o hc hn)
  have npB : ∀g,xp.base=some ⟨g,0,none⟩ -> ¬B' g:=fun g hg hb=>W.has g hb (G.np g hg)
  have ndB : ∀g,xd.base=some ⟨g,0,none⟩ -> ¬B' g:=fun g hg hb=>W.has g hb (G.nd g hg)
  have t6:TlAt σ6 bt C got y' s5 B':=I.tl.but hstay fun g hg=>⟨npB g hg,hso.2.1.has hg⟩
  have q5:=hstay b5 _ G.c5 (fun e=>W.h5 (G.np b5 e))
  have q6:=hstay b6 _ G.c6 (fun e=>W.h6 (G.np b6 e))
  have q2:σ6 b2=some (ptT bt):=hstay b2 _ (I.keep b2 _ W.h2 W.h25 W.h26 nb2) (fun e=>by have:=G.np b2 e;rw[W.h2]at this;cases this)
  have od6:RowsOwn σ6 9 1 (strRows d) xd:=G.od.keep fun g o hg ho=>hstay g o ho (fun e=>G.ap g e hg)
  have s6:Sep σ B' σ6 B':=by
   intro c o hc hb
   have h2:=(s2 c o hc hb).1
   have h4:=g4.get (g3.get h2)
   refine⟨hstay c o (I.keep c o h4 (fun e => ?_) (fun e => ?_) hb) (fun e => ?_),hb⟩
   ·rw[e,n3]at h2;cases h2
   ·have:=g3.get h2
    rw[e,n4]at this;cases this
   ·have:=G.np c e;rw[h4]at this;cases this
  obtain⟨τ6,O6,hO6⟩:=off_all σ6 B'
  have rp:RowsAt τ6 1 (strRows (sortN p)) xp:=hso.2.1.rows.keep fun g o ob hb ho=>hO6 g ob ho fun hg=>by
   obtain⟨_,_,⟨q,_⟩ | ⟨g',cur,q1,_⟩⟩:=hso.2.1
   ·rw[q]at hb;cases hb
   ·have e:=q1.symm.trans hb
    have e2:g'=g:=by injection e with e;injection e
    subst e2
    exact npB g' q1 hg
  have rd:RowsAt τ6 1 (strRows d) xd:=od6.rows.keep fun g o ob hb ho=>hO6 g ob ho fun hg=>by
   obtain⟨_,_,⟨q,_⟩ | ⟨g',cur,q1,_⟩⟩:=od6
   ·rw[q]at hb;cases hb
   ·have e:=q1.symm.trans hb
    have e2:g'=g:=by injection e with e;injection e
    subst e2
    exact ndB g' q1 hg
  have r2:=hO6 b2 _ q2 nb2
  have r6:=hO6 b6 _ q6 W.n6
  have hpl2:=sLen rp
  have hdl2:=sLen rd
  have hspl:(sortN p).length=p.length:=(sortN_perm p).length_eq
  refine app_U (rd_Y (y:=xp) (rdC_of q5 (by rfl)) ?_)
  refine loop_i ?_
  intro R hR
  generalize hS1:(sortN p).foldl TS.say s5=S1 at hz1 hz2 hK
  have hS1A:S1.A=s.A:=by rw[<-hS1,(says_keep _ _).1];exact hA5
  have hz2b:=(listeds_keep C.cwd got (Nat.blt 1 nm'.length) d S1).2.2
  have key : ∀ (k i:Nat) (s1:TS) (σ1:H),k+i=(sortN p).length->TlAt σ1 bt C got y' s1 B'->Sep σ6 B' σ1 B'->((sortN p).drop i).foldl TS.say s1=S1->R (some ⟨b2,0,none⟩) (some ⟨b6,0,none⟩) xp ((xp.len:Nat):Int) (i:Int) σ1:=by
   intro k
   induction k with
   | zero =>
    intro i s1 σ1 hk t1 ss hfo
    rw[List.drop_eq_nil_of_le (by omega)]at hfo
    have hfo:s1=S1:=hfo
    subst hfo
    have o1:=O6.sep ss
    refine hR _ _ _ _ _ _ (br_f (by simp only[decide_eq_false_iff_not];omega) (ptr_i (rd_Y (y:=xd) (rdC_of (o1.get r6) (by rfl)) ?_)))
    refine loop_i ?_
    intro R2 hR2
    have key2 : ∀ (k i:Nat) (s2:TS) (σ2:H),k+i=d.length->TlAt σ2 bt C got y' s2 B'->Sep σ6 B' σ2 B'->s2.A=s.A->(d.drop i).foldl (TS.listed C.cwd got (Nat.blt 1 nm'.length)) s2=d.foldl (TS.listed C.cwd got (Nat.blt 1 nm'.length)) s1->R2 (some ⟨b2,0,none⟩) xd ((xd.len:Nat):Int) (i:Int) σ2:=by
     intro k
     induction k with
     | zero =>
      intro i s2 σ2 hk t2 ss2 hA2 hfo
      rw[List.drop_eq_nil_of_le (by omega)]at hfo
      have hfo:s2=d.foldl (TS.listed C.cwd got (Nat.blt 1 nm'.length)) s1:=hfo
      rw[<-hfo]at hK
      refine hR2 _ _ _ _ _ (br_f (by simp only[decide_eq_false_iff_not];omega) ?_)
      exact hK σ2 y' t2 (s6.trans ss2)
     | succ k ihk =>
      intro i s2 σ2 hk t2 ss2 hA2 hfo
      obtain⟨n,hn⟩ : ∃n,d[i]? = some n:=⟨_,List.getElem?_eq_getElem (by omega)⟩
      have o2:=O6.sep ss2
      obtain⟨g,o,a1,a2,a3⟩:=sRow (rd.gr o2.1) hn
      rw[drop_of hn,List.foldl_cons]at hfo
      have hlk:=listeds_keep C.cwd got (Nat.blt 1 nm'.length) (d.drop (i+1)) (TS.listed C.cwd got (Nat.blt 1 nm'.length) s2 n)
      rw[hfo]at hlk
      refine hR2 _ _ _ _ _ (br_t (by simp only[decide_eq_true_eq];omega) ?_)
      rw[a1]
      have hyl':=sLen hy'
      refine ptr_i (if_i ⟨by omega,by omega⟩ (rd_S (by rw[Int.toNat_natCast];exact a3) (ptr_i (rd_P (rdC_of (o2.get r2) (by rfl)) (ptr_i (rd_P (rdC_of (o2.get r2) (by rfl)) (ptr_i (rd_Y (y:=y') (rdC_of t2.cell (by rfl)) ?_))))))))
      have hd1:decide ((((y'.len:Nat):Int):Int)>1)=Nat.blt 1 nm'.length:=by
       rw[Bool.eq_iff_iff,decide_eq_true_eq,Nat.blt_eq];omega
      rw[hd1]
      refine call_i (s_fiListed t2 (by rw[hA2];exact hI) (by rw[hA2];exact hBd) hN n _ (by omega) ?_)
      intro σ7 t7 s7
      refine app_U ?_
      rw[wrapS (i:=i) (by omega)]
      exact ihk (i+1) _ σ7 (by omega) t7 (ss2.trans s7) ((listed_keep _ _ _ _ _).1.trans hA2) hfo
    exact key2 d.length 0 s1 σ1 (by omega) t1 ss hS1A rfl
   | succ k ihk =>
    intro i s1 σ1 hk t1 ss hfo
    obtain⟨n,hn⟩ : ∃n,(sortN p)[i]? = some n:=⟨_,List.getElem?_eq_getElem (by omega)⟩
    have o1:=O6.sep ss
    obtain⟨g,o,a1,a2,a3⟩:=sRow (rp.gr o1.1) hn
    rw[drop_of hn,List.foldl_cons]at hfo
    have hsk2:=(says_keep ((sortN p).drop (i+1)) (s1.say n)).2.2
    rw[hfo,say_size]at hsk2
    refine hR _ _ _ _ _ _ (br_t (by simp only[decide_eq_true_eq];omega) ?_)
    rw[a1]
    refine ptr_i (if_i ⟨by omega,by omega⟩ (rd_S (by rw[Int.toNat_natCast];exact a3) (ptr_i (rd_P (rdC_of (o1.get r2) (by rfl)) (ptr_i (rd_S (rdC_of t1.cell (by rfl)) ?_))))))
    refine if_i (by show n.size+1<=_;omega) (if_i (by rw[ByteArray.size_append];show _+(n.size+1)<=_;omega) (ptr_i ?_))
    rw[bapp10]
    refine st_i2 t1.cell sz_string (by rfl) (by rfl) ?_;intro σ7 p7
    rw[wrapS (i:=i) (by omega)]
    exact ihk (i+1) _ σ7 (by omega) (t1.say (s':=s1.say n) rfl p7) (ss.trans (sep p7)) hfo
  exact key (sortN p).length 0 s5 σ6 (by omega) t6 (Sep.refl _ _) hS1
 ·intro j hj
  refine rd_P (rdC_of e1 (by rfl)) (ptr_i (rd_Y (y:=y) (rdC_of t1.cell (by rfl)) ?_))
  cases hne:names.isEmpty with
  | false =>
   rw[hne]at hnm'
   have hnm':names=nm':=hnm'
   subst hnm'
   have:names≠[]:=fun e=>by rw[e]at hne;cases hne
   have hp:=List.length_pos_iff.2 this
   refine br_f (by simp only[beq_eq_false_iff_ne,ne_eq];omega) ?_
   exact hj y _ σ1 t1 O1 (H.put_same _ _ _) (hy.gr (Gr.put nt _)) (Sep.gr g1)
  | true =>
   rw[hne]at hnm'
   have hnm':[⟨⟨[46]⟩⟩]=nm':=hnm'
   subst hnm'
   have:names=[]:=List.isEmpty_iff.1 hne
   subst this
   refine br_t (by rw[hyl];rfl) (rd_P (rdC_of e1 (by rfl)) ?_)
   refine al_i ?_;intro b56 σ2 g2 e2 n2
   have t2:=t1.gr g2
   have nb : ¬B b56:=t1.fresh n2
   refine ptr_i ?_
   refine st_i2 t2.cell sz_strs (by rfl) (by rfl) ?_;intro σ3 p3
   have s3:Sep σ B σ3 B:=(Sep.gr (g1.trans g2)).trans (sep p3)
   have t3:TlAt σ3 bt C got ⟨some ⟨b56,0,none⟩,1,1⟩ s B:=t2.say (got':=got) (y':=⟨some ⟨b56,0,none⟩,1,1⟩) (s':=s) rfl p3
   have k56:=p3.get (c:=b56) (fun e=>nb (by rw[e];exact hB)) e2
   have O3:=((O1.gr g2).sep (sep p3)).add k56 nb
   have n56:(τ.put b2 (ptT bt)) b56=none:=none_of O1.1 n2
   exact hj _ _ σ3 t3 O3 ((Gr.put n56 _).get (H.put_same _ _ _)) (own1F (H.put_same _ _ _)).rows s3
end
end Go.Proofs.YtbdlkofldmhoaaaGreatDoor

