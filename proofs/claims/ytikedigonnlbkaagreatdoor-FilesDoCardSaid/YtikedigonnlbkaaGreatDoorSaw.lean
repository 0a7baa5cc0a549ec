/- A part of a proof. -/
import Derived.Test.YtikedigonnlbkaaGreatDoorSav
import Derived.Laws.Runes
namespace Go.Wk
open Go Go.HL
section
theorem ax7{c:J3}:∀ {l:List J3},c∉l->P6 c l=[l]:=by
 intro l
 induction l with
 |nil=>intro _;rfl
 |cons x l ih =>
  intro h;simp only[G9,not_or]at h;have hx:(x==c)=false:=by simpa using fun e=>h.1 e.symm
  simp only[P6,hx,ih h.2]
theorem aM3{c:J3}{b:List J3}:∀ {a:List J3},c∉a->P6 c (a++c::b)=a::P6 c b:=by
 intro a
 induction a with
 |nil=>intro _;simp[P6]
 |cons x a ih =>
  intro h;simp only[G9,not_or]at h;have hx:(x==c)=false:=by simpa using fun e=>h.1 e.symm
  simp only[ag0,P6,hx,ih h.2]
theorem bK8{c:J3}:∀l:List J3,P6 c l≠[]:=by
 intro l
 induction l with
 |nil=>simp[P6]
 |cons x l ih =>
  simp only[P6];cases (x==c) with
  |true=>simp
  |false =>
   cases h:P6 c l with
   |nil=>simp
   |cons=>simp
theorem aI8(s:d9)(i:Nat)(h:i<s.size):s.data.toList[i]?=some s[i]! := by
 rw[getElem!_pos s i h];have:s[i]=s.data[i]:=rfl;rw[this];simp
theorem ai7(s:d9)(c:J3):(firstIdx s c=-1/\c∉s.data.toList)\/∃i:Nat,firstIdx s c=(i:Int)/\i<s.size/\c∉s.data.toList.take i/\s.data.toList=s.data.toList.take i++c::s.data.toList.drop (i+1):=by
 have ib:s.data.toList.length=s.size:=rfl;unfold firstIdx;cases hf:(List.range s.size).find? fun i=>s[i]! == c with
 |none =>
  refine .inl ⟨rfl,fun hm=>?_⟩;obtain⟨i,hi,he⟩:=List.getElem_of_mem hm;have h1:=List.find?_eq_none.1 hf i (by simpa[ib]using hi);have h2:=aI8 s i (by omega);rw[G0 hi,he]at h2;simp at h2;exact h1 (by simp[h2])
 |some i =>
  rw[List.find?_range_eq_some]at hf;obtain⟨h1,h2,h3⟩:=hf;have hi:i<s.size:=by simpa using h2
  refine .inr ⟨i,rfl,hi,fun hm=>?_,?_⟩
  ·obtain⟨j,hj,he⟩:=List.getElem_of_mem hm;have ip:j<i:=by have:=hj;simp at this;omega
   have h4:=h3 j ip;have h5:=aI8 s j (by omega);rw[List.getElem_take]at he;rw[G0 (by omega),he]at h5;simp at h5;simp[h5]at h4
  ·have h5:=aI8 s i hi;have hc:s[i]! = c:=by simpa using h1
   rw[hc]at h5;have h6:s.data.toList.drop i=c::s.data.toList.drop (i+1):=by
    rw[as4 (by omega)];rw[G0 (by omega)]at h5;simp only[Option.some.injEq]at h5;rw[h5]
   rw[<-h6,List.take_append_drop]
def aq8(c:J3)(s:d9):List d9:=(P6 c s.data.toList).map fun l=>(⟨⟨l⟩⟩:d9)
theorem aE9{c:J3}{s:d9}(h:firstIdx s c<0):aq8 c s=[s]:=by
 rcases ai7 s c with⟨_,h1⟩|⟨i,h1,_⟩
 ·unfold aq8;rw[ax7 h1];rfl
 ·omega
theorem aa8(s:d9)(a b:Nat):(s.extract a b).data.toList=(s.data.toList.take b).drop a:=by
 rw[ByteArray.data_extract,Array.toList_extract,List.extract_eq_drop_take']
theorem aF0{c:J3}{s:d9}(h:0<=firstIdx s c):(firstIdx s c).toNat<s.size/\aq8 c s=s.extract 0 (firstIdx s c).toNat::aq8 c (s.extract ((firstIdx s c).toNat+1) s.size):=by
 rcases ai7 s c with⟨h0,_⟩|⟨i,h1,h2,h3,h4⟩
 ·omega
 ·have:(firstIdx s c).toNat=i:=by omega
  rw[this];refine⟨h2,?_⟩;have hl:s.data.toList.length=s.size:=rfl;unfold aq8;rw[aa8,show s.data.toList.take s.size=s.data.toList by rw[<-hl,as5]]
  conv=>lhs;rw[h4]
  rw[aM3 h3];simp only[H5,List.cons.injEq,and_true];have:(s.extract 0 i)=⟨⟨(s.extract 0 i).data.toList⟩⟩:=rfl;rw[this,aa8];rfl
def aF1:List d9->List (d9×Bool)
 | []=>[]
 |x::r=>(x,r.isEmpty)::aF1 r
theorem bK9(s:d9):N1 s=(aq8 47 s).filter S8:=rfl

section
variable {A:AT} {go:Int->d9->Int->Int × Pl × Int} {gi:Bool} {gu:d9} {rest:List d9} {p:Pl} {h:Int}
theorem ap1(h1:p.there=false):A.steps go gi (gu::rest) p h=(5,Pl.z,h):=by rw[AT.steps,d8 h1]
theorem ai8(h1:p.there=true)(h2:A.kind p.gf≠2):A.steps go gi (gu::rest) p h=(8,Pl.z,h):=by rw[AT.steps,d7 (by simp[h1]),d8 h2]
theorem ax8(h1:p.there=true)(h2:A.kind p.gf=2)(h3:E8 gu ⟨⟨[46,46]⟩⟩=true):A.steps go gi (gu::rest) p h=A.steps go gi rest ⟨A.upOf p.gf,⟨⟨[]⟩⟩,A.upOf p.gf,true⟩ h:=by
 rw[AT.steps,d7 (by simp[h1]),d7 (by simp[h2]),d8 h3]
theorem ap2(h1:p.there=true)(h2:A.kind p.gf=2)(h3:E8 gu ⟨⟨[46,46]⟩⟩=false)(h4:gu.size>56):A.steps go gi (gu::rest) p h=(3,Pl.z,h):=by
 rw[AT.steps,d7 (by simp[h1]),d7 (by simp[h2]),d7 (by simp[h3]),d8 h4]
theorem ab5(h1:p.there=true)(h2:A.kind p.gf=2)(h3:E8 gu ⟨⟨[46,46]⟩⟩=false)(h4:¬gu.size>56)(h5:(A.find p.gf gu).isSome=false\/(rest.isEmpty && !gi)=true\/A.kind ((A.find p.gf gu).getD 0)≠3) :
 A.steps go gi (gu::rest) p h=A.steps go gi rest ⟨p.gf,gu,(A.find p.gf gu).getD 0,(A.find p.gf gu).isSome⟩ h:=by
 rw[AT.steps,d7 (by simp[h1]),d7 (by simp[h2]),d7 (by simp[h3]),d7 h4];simp only;rw[d8 h5]
theorem ap3(h1:p.there=true)(h2:A.kind p.gf=2)(h3:E8 gu ⟨⟨[46,46]⟩⟩=false)(h4:¬gu.size>56)(h5:¬ ((A.find p.gf gu).isSome=false\/(rest.isEmpty && !gi)=true\/A.kind ((A.find p.gf gu).getD 0)≠3))(h6:h-1<0) :
 A.steps go gi (gu::rest) p h=(9,Pl.z,h-1):=by
 rw[AT.steps,d7 (by simp[h1]),d7 (by simp[h2]),d7 (by simp[h3]),d7 h4];simp only;rw[d7 h5,d8 h6]
theorem as8(h1:p.there=true)(h2:A.kind p.gf=2)(h3:E8 gu ⟨⟨[46,46]⟩⟩=false)(h4:¬gu.size>56)(h5:¬ ((A.find p.gf gu).isSome=false\/(rest.isEmpty && !gi)=true\/A.kind ((A.find p.gf gu).getD 0)≠3))(h6:¬h-1<0)
 (h7:(go p.gf (A.data ((A.find p.gf gu).getD 0)) (h-1)).1≠0) :
 A.steps go gi (gu::rest) p h=((go p.gf (A.data ((A.find p.gf gu).getD 0)) (h-1)).1,Pl.z,(go p.gf (A.data ((A.find p.gf gu).getD 0)) (h-1)).2.2):=by
 rw[AT.steps,d7 (by simp[h1]),d7 (by simp[h2]),d7 (by simp[h3]),d7 h4];simp only;rw[d7 h5,d7 h6,d8 h7]
theorem ap4(h1:p.there=true)(h2:A.kind p.gf=2)(h3:E8 gu ⟨⟨[46,46]⟩⟩=false)(h4:¬gu.size>56)(h5:¬ ((A.find p.gf gu).isSome=false\/(rest.isEmpty && !gi)=true\/A.kind ((A.find p.gf gu).getD 0)≠3))(h6:¬h-1<0)
 (h7:(go p.gf (A.data ((A.find p.gf gu).getD 0)) (h-1)).1=0) :
 A.steps go gi (gu::rest) p h=A.steps go gi rest (go p.gf (A.data ((A.find p.gf gu).getD 0)) (h-1)).2.1 (go p.gf (A.data ((A.find p.gf gu).getD 0)) (h-1)).2.2:=by
 rw[AT.steps,d7 (by simp[h1]),d7 (by simp[h2]),d7 (by simp[h3]),d7 h4];simp only;rw[d7 h5,d7 h6,d7 (by simp[h7])]
end
theorem bv8{A:AT}{go:Int->d9->Int->Int×Pl×Int}{gi:Bool}(sv:∀d s x,0<=x->-1<=(go d s x).2.2/\(go d s x).2.2<=x/\((go d s x).1=0->0<=(go d s x).2.2)):∀ (l:List d9) (p:Pl) (h:Int),0<=h->-1<=(A.steps go gi l p h).2.2/\(A.steps go gi l p h).2.2<=h/\((A.steps go gi l p h).1=0->0<=(A.steps go gi l p h).2.2):=by
 intro l
 induction l with
 |nil=>intro p h hh;simp[AT.steps];omega
 |cons n r ih =>
  intro p h hh;cases h1:p.there with
  |false=>rw[ap1 h1];exact⟨by show(-1:Int)<=h;omega,Int.le_refl _,fun _=>hh⟩
  |true =>
   by_cases h2:A.kind p.gf=2
   case neg=>rw[ai8 h1 h2];exact⟨by show(-1:Int)<=h;omega,Int.le_refl _,fun _=>hh⟩
   cases h3:E8 n ⟨⟨[46,46]⟩⟩ with
   |true=>rw[ax8 h1 h2 h3];exact ih _ h hh
   |false =>
    by_cases h4:n.size>56
    ·rw[ap2 h1 h2 h3 h4];exact⟨by show(-1:Int)<=h;omega,Int.le_refl _,fun _=>hh⟩
    by_cases h5:(A.find p.gf n).isSome=false\/(r.isEmpty && !gi)=true\/A.kind ((A.find p.gf n).getD 0)≠3
    ·rw[ab5 h1 h2 h3 h4 h5];exact ih _ h hh
    by_cases h6:h-1<0
    ·rw[ap3 h1 h2 h3 h4 h5 h6];exact⟨by show(-1:Int)<=h-1;omega,by show h-1<=h;omega,fun e=>by cases e⟩
    have hg:=sv p.gf (A.data ((A.find p.gf n).getD 0)) (h-1) (by omega);by_cases h7:(go p.gf (A.data ((A.find p.gf n).getD 0)) (h-1)).1=0
    ·rw[ap4 h1 h2 h3 h4 h5 h6 h7];have:=ih (go p.gf (A.data ((A.find p.gf n).getD 0)) (h-1)).2.1 _ (hg.2.2 h7);exact⟨this.1,by omega,this.2.2⟩
    ·rw[as8 h1 h2 h3 h4 h5 h6 h7];exact⟨hg.1,Int.le_trans hg.2.1 (by omega),fun e=>m7 e h7⟩
theorem aX6(A:AT):∀ (f:Nat) (d:Int) (s:d9) (fo:Bool) (h:Int),0<=h->-1<=(A.walk f d s fo h).2.2/\(A.walk f d s fo h).2.2<=h/\((A.walk f d s fo h).1=0->0<=(A.walk f d s fo h).2.2):=by
 intro f
 induction f with
 |zero=>intro d s fo h hh;exact⟨by show(-1:Int)<=h;omega,Int.le_refl _,fun e=>by cases e⟩
 |succ f ih =>
  intro d s fo h hh;rw[AT.walk];by_cases hm:ab1 s≠0
  ·rw[d8 hm];exact⟨by show(-1:Int)<=h;omega,Int.le_refl _,fun _=>hh⟩
  ·rw[d7 hm];exact bv8 (fun d s x hx=>ih d s true x hx) _ _ _ hh
end
section
section
variable {κ α:Type}
def P7(f:α->Nat):List (κ×α)->Nat
 | []=>0
 |(_,v)::r=>f v+P7 f r
theorem aO2 [BEq κ] (f:α->Nat)(k:κ)(v:α):∀l:List (κ×α),P7 f (up k v l)+((lk k l).map f).getD 0=P7 f l+f v:=by
 intro l
 induction l with
 |nil=>simp[up,lk,P7]
 |cons x l ih =>
  obtain⟨i,u⟩:=x;simp only[up,lk];cases (k==i) with
  |true=>simp[P7];omega
  |false=>simp only[P7];omega
theorem aF2 [BEq κ] (f:α->Nat)(k:κ):∀l:List (κ×α),P7 f (rm k l)+((lk k l).map f).getD 0=P7 f l:=by
 intro l
 induction l with
 |nil=>simp[rm,lk,P7]
 |cons x l ih =>
  obtain⟨i,u⟩:=x;simp only[rm,lk];cases (k==i) with
  |true=>simp[P7];omega
  |false=>simp only[P7];omega
theorem aq9 [BEq κ] {f:α->Nat}{k:κ}{v:α}:∀ {l:List (κ×α)},lk k l=some v->f v<=P7 f l:=by
 intro l
 induction l with
 |nil=>intro h;simp[lk]at h
 |cons x l ih =>
  obtain⟨i,u⟩:=x;intro h;simp only[lk]at h;simp only[P7];cases hk:(k==i) with
  |true=>simp only[hk]at h;cases h;omega
  |false=>simp only[hk]at h;have:=ih h;omega
theorem as9 [BEq κ] [LawfulBEq κ] {k:κ}{v:α}:∀ {l:List (κ×α)},(C5 l).Nodup->(k,v)∈l->lk k l=some v:=by
 intro l
 induction l with
 |nil=>intro _ h;simp at h
 |cons x l ih =>
  obtain⟨i,u⟩:=x;intro hn h;simp only[C5,H5,List.nodup_cons]at hn;simp only[lk];rcases G9.1 h with e|e
  ·cases e;simp
  ·have : (k == i) = false := by
    cases hb:(k==i) with
    |false=>rfl
    |true =>
     have:=eq_of_beq hb;subst this;exact m7 (K0.2 ⟨_,e,rfl⟩) hn.1
   simp only[this];exact ih hn.2 e
theorem bX3{f:α->Nat}{l:List (κ×α)}(h:0<P7 f l):∃k v,(k,v)∈l/\0<f v:=by
 induction l with
 |nil=>simp[P7]at h
 |cons x l ih =>
  obtain⟨i,u⟩:=x;simp only[P7]at h;by_cases hu:0<f u
  ·exact⟨i,u,by simp,hu⟩
  ·obtain⟨k,v,h1,h2⟩:=ih (by omega);exact⟨k,v,E4 _ h1,h2⟩
theorem ah1 [BEq κ] [LawfulBEq κ] {f:α->Nat}{l:List (κ×α)}(hn:(C5 l).Nodup)(h:0<P7 f l):∃k v,lk k l=some v/\0<f v:=by
 obtain⟨k,v,h1,h2⟩:=bX3 h;exact⟨k,v,as9 hn h1,h2⟩
theorem ac7(l:List (κ×α)):P7 (fun _=>1) l=l.length:=by
 induction l with
 |nil=>rfl
 |cons x l ih=>obtain⟨i,u⟩:=x;simp only[P7,ih,H4];omega
theorem bk4 [BEq κ] [LawfulBEq κ] {f:α->Nat}{i j:κ}{u v:α}:∀ {l:List (κ×α)},(C5 l).Nodup->lk i l=some u->lk j l=some v->i≠j->f u+f v<=P7 f l:=by
 intro l
 induction l with
 |nil=>intro _ h;simp[lk]at h
 |cons x l ih =>
  obtain⟨k,w⟩:=x;intro hn h1 h2 ia;simp only[C5,H5,List.nodup_cons]at hn;simp only[lk]at h1 h2;simp only[P7];cases hi:(i==k) with
  |true =>
   have:=eq_of_beq hi;subst this;have hj:(j==i)=false:=by
    cases hb:(j==i) with
    |false=>rfl
    |true=>exact m7 (eq_of_beq hb).symm ia
   simp only[hi]at h1;simp only[hj]at h2;cases h1;have:=aq9 (f:=f) h2;omega
  |false =>
   simp only[hi]at h1;cases hj:(j==k) with
   |true=>simp only[hj]at h2;cases h2;have:=aq9 (f:=f) h1;omega
   |false=>simp only[hj]at h2;have:=ih hn.2 h1 h2 ia;omega
end
def one(j:Int)(v:Int):Nat:=if v=j then 1 else 0
def P2(j:Int)(n:AN):Nat:=P7 (one j) n.gj
def AT.refs(A:AT)(j:Int):Nat:=P7 (P2 j) A.nodes
def AT.bytes(A:AT):Nat:=P7 (fun n=>n.data.size) A.nodes
def AT.isDir(A:AT)(k:Int):Prop:=∃n,A.get k=some n/\n.kind=2
structure Inv(A:AT):Prop where
 nodup:(C5 A.nodes).Nodup
 enod:∀i n,A.get i=some n->(C5 n.gj).Nodup
 root:∃n,A.get 1=some n/\n.kind=2/\n.up=1
 low:∀i n,A.get i=some n->1<=i/\i<=A.last
 like:∀i n,A.get i=some n->ac5 n.kind n.mode n.data=0
 file:∀i n,A.get i=some n->n.kind≠2->n.gj=[]
 ent:∀i n s j,A.get i=some n->lk s n.gj=some j->S3 s=0/\j≠1/\∃m,A.get j=some m/\(m.kind=2->m.up=i)
 links:∀i n,A.get i=some n->i≠1->n.links=A.refs i/\0<A.refs i/\(n.kind=2->A.refs i=1)
 deep:∀i,A.isDir i->∃d,A.deep 12 i=some d
 ui:A.ui=A.nodes.length
 ub:A.ub=A.bytes
 uq:A.ui<=A.qi/\A.qi<=1048576
 bq:A.ub<=A.qb/\A.qb<=1073741824
theorem AT.get_set(A:AT)(i j:Int)(n:AN):(A.set i n).get j=if j=i then some n else A.get j:=by
 unfold AT.set AT.get;simp only[ax0];by_cases h:j=i<;>simp[h]
theorem AT.get_set_self(A:AT)(i:Int)(n:AN):(A.set i n).get i=some n:=by rw[AT.get_set];simp
theorem AT.get_set_ne(A:AT){i j:Int}(n:AN)(h:j≠i):(A.set i n).get j=A.get j:=by rw[AT.get_set];simp[h]
theorem AT.sum_set(A:AT)(f:AN->Nat)(i:Int)(n:AN):P7 f (A.set i n).nodes+((A.get i).map f).getD 0=P7 f A.nodes+f n:=aO2 f i n A.nodes
theorem av9{x:Int}(h1:-9223372036854775808<=x)(h2:x<=9223372036854775807):wr x=x:=by
 unfold wr;rw[IntKind.wrap_i64];omega
section
variable {A:AT}
theorem Inv.find(h:Inv A){d:Int}{s:d9}{j:Int}(hf:A.find d s=some j):∃n,A.get d=some n/\n.kind=2/\lk s n.gj=some j/\j≠1/\∃m,A.get j=some m/\(m.kind=2->m.up=d):=by
 unfold AT.find at hf;cases hn:A.get d with
 |none=>rw[hn]at hf;cases hf
 |some n =>
  rw[hn]at hf;have hf:lk s n.gj=some j:=hf;have h2:n.kind=2:=by
   apply Classical.byContradiction;intro hk;rw[h.file d n hn hk]at hf;simp[lk]at hf
  obtain⟨_,h3,h4⟩:=h.ent d n s j hn hf;exact⟨n,rfl,h2,hf,h3,h4⟩
theorem Inv.isDir_up(h:Inv A){k:Int}(hk:A.isDir k):A.isDir (A.upOf k):=by
 obtain⟨n,hn,h2⟩:=hk;have hu:A.upOf k=n.up:=by unfold AT.upOf;rw[hn];rfl
 rw[hu];by_cases h1:k=1
 ·subst h1;obtain⟨r,hr,vd,vi⟩:=h.root;rw[hn]at hr;cases hr;rw[vi];exact⟨n,hn,h2⟩
 ·obtain⟨_,yk,_⟩:=h.links k n hn h1;obtain⟨p,m,hp,hc⟩:=ah1 h.nodup yk;have hp:A.get p=some m:=hp;obtain⟨s,v,hs,hv⟩:=ah1 (h.enod p m hp) hc;have hv:v=k:=by
   unfold one at hv;by_cases e:v=k
   ·exact e
   ·simp[e]at hv
  subst hv;obtain⟨_,_,m',oe,iu⟩:=h.ent p m s v hp hs;rw[hn]at oe;cases oe;rw[iu h2];refine⟨m,hp,?_⟩;apply Classical.byContradiction;intro hk;rw[h.file p m hp hk]at hs;simp[lk]at hs
theorem Inv.root_dir(h:Inv A):A.isDir 1:=by
 obtain⟨n,h1,h2,_⟩:=h.root;exact⟨n,h1,h2⟩
theorem Inv.named(h:Inv A){k:Int}(hk:A.isDir k)(h1:k≠1):∃s,A.find (A.upOf k) s=some k:=by
 obtain⟨n,hn,h2⟩:=hk;have hu:A.upOf k=n.up:=by unfold AT.upOf;rw[hn];rfl
 rw[hu];obtain⟨_,yk,_⟩:=h.links k n hn h1;obtain⟨p,m,hp,hc⟩:=ah1 h.nodup yk;have hp:A.get p=some m:=hp;obtain⟨s,v,hs,hv⟩:=ah1 (h.enod p m hp) hc;have hv:v=k:=by
  unfold one at hv;by_cases e:v=k
  ·exact e
  ·simp[e]at hv
 subst hv;obtain⟨_,_,m',oe,iu⟩:=h.ent p m s v hp hs;rw[hn]at oe;cases oe;rw[iu h2];exact⟨s,by unfold AT.find;rw[hp];exact hs⟩
theorem ah2{A':AT}(h:Inv A)(hu:∀k,A.isDir k->A'.upOf k=A.upOf k):∀ (f:Nat) (k:Int),A.isDir k->A'.deep f k=A.deep f k:=by
 intro f
 induction f with
 |zero=>intro k _;rfl
 |succ f ih =>
  intro k hk;unfold AT.deep;rw[hu k hk,ih _ (h.isDir_up hk)]
theorem at0:∀ {f:Nat} {k d:Int},A.deep f k=some d->A.deep (f+1) k=some d:=by
 intro f
 induction f with
 |zero=>intro k d h;cases h
 |succ f ih =>
  intro k d h;unfold AT.deep at h⊢;by_cases e:k=1
  ·rw[d8 e]at h⊢;exact h
  ·rw[d7 e]at h⊢;cases hd:A.deep f (A.upOf k) with
   |none=>rw[hd]at h;cases h
   |some x=>rw[hd]at h;rw[ih hd];exact h
theorem aa0:∀ {f:Nat} {k d:Int},A.deep f k=some d->1<=d/\d<=f:=by
 intro f
 induction f with
 |zero=>intro k d h;cases h
 |succ f ih =>
  intro k d h;unfold AT.deep at h;by_cases e:k=1
  ·rw[d8 e]at h;cases h;omega
  ·rw[d7 e]at h;cases hd:A.deep f (A.upOf k) with
   |none=>rw[hd]at h;cases h
   |some x =>
    rw[hd]at h;have:=ih hd;simp only[Option.map_some,Option.some.injEq]at h;omega
theorem at1:∀ {f:Nat} {k d:Int},A.deep f k=some d->∀g:Nat,d<=g->A.deep g k=some d:=by
 intro f
 induction f with
 |zero=>intro k d h;cases h
 |succ f ih =>
  intro k d h g hg;have hb:=aa0 h;cases g with
  |zero=>omega
  |succ g =>
   unfold AT.deep at h⊢;by_cases e:k=1
   ·rw[d8 e]at h⊢;exact h
   ·rw[d7 e]at h⊢;cases hd:A.deep f (A.upOf k) with
    |none=>rw[hd]at h;cases h
    |some x =>
     rw[hd]at h;simp only[Option.map_some,Option.some.injEq]at h;subst h;rw[ih hd g (by omega)];rfl
end
end
section
variable {A:AT}
theorem AT.firstE_z{e:Int}{es:List Int}(h:N0 (e::es)=0):e=0/\N0 es=0:=by
 unfold N0 at h;by_cases he:e=0
 ·rw[d8 he]at h;exact⟨he,h⟩
 ·rw[d7 he]at h;exact m7 h he
theorem AT.dirE_z{d:Int}(h:A.dirE d=0):A.isDir d:=by
 unfold AT.dirE at h;cases hn:A.get d with
 |none=>rw[hn]at h;cases h
 |some n =>
  rw[hn]at h;refine⟨n,hn,?_⟩;cases hk:(n.kind==2) with
  |true=>simpa using hk
  |false=>simp[hk]at h
theorem AT.dirE_of{d:Int}(h:A.isDir d):A.dirE d=0:=by
 obtain⟨n,h1,h2⟩:=h;unfold AT.dirE;rw[h1];simp[h2]
theorem AT.fileE_z{d:Int}(h:A.fileE d=0):∃n,A.get d=some n/\n.kind=1:=by
 unfold AT.fileE at h;cases hn:A.get d with
 |none=>rw[hn]at h;cases h
 |some n =>
  rw[hn]at h;refine⟨n,rfl,?_⟩;by_cases h2:n.kind=2
  ·simp[h2]at h
  ·by_cases h1:n.kind=1
   ·exact h1
   ·simp[h1,h2]at h
theorem Inv.refs_none(h:Inv A){i:Int}(hi:A.get i=none):A.refs i=0:=by
 apply Classical.byContradiction;intro ia;obtain⟨p,m,hp,hc⟩:=ah1 h.nodup (Nat.pos_of_ne_zero ia);have hp:A.get p=some m:=hp;obtain⟨s,v,hs,hv⟩:=ah1 (h.enod p m hp) hc;have hv:v=i:=by
  unfold one at hv;by_cases e:v=i
  ·exact e
  ·simp[e]at hv
 subst hv;obtain⟨_,_,m',oe,_⟩:=h.ent p m s v hp hs;rw[hi]at oe;cases oe
theorem Inv.fresh(h:Inv A){i:Int}(hi:A.last<i):A.get i=none:=by
 cases hg:A.get i with
 |none=>rfl
 |some n=>have:=h.low i n hg;omega
theorem Inv.last_pos(h:Inv A):1<=A.last:=by
 obtain⟨n,h1,_⟩:=h.root;exact(h.low 1 n h1).2
theorem Inv.size_le(h:Inv A){i:Int}{n:AN}(hn:A.get i=some n):(n.data.size:Int)<=A.ub:=by
 have:=aq9 (f:=fun n:AN=>n.data.size) hn;rw[h.ub];unfold AT.bytes;omega
theorem bF1{A':AT}{S:Int->Prop}(hS:∀k,S k->k≠1->S (A.upOf k))(hu:∀k,S k->k≠1->A'.upOf k=A.upOf k):∀ (f:Nat) (k:Int),S k->A'.deep f k=A.deep f k:=by
 intro f
 induction f with
 |zero=>intro k _;rfl
 |succ f ih =>
  intro k hk;unfold AT.deep;by_cases e:k=1
  ·rw[d8 e,d8 e]
  ·rw[d7 e,d7 e,hu k hk e,ih _ (hS k hk e)]
structure Bd(N:Nat)(A:AT):Prop where
 last:A.last<=N
 links:∀i n,A.get i=some n->n.links<=N
 gj:∀i n,A.get i=some n->n.gj.length<=N
theorem Bd.mono{N M:Nat}(h:Bd N A)(hl:N<=M):Bd M A :=
 ⟨by have:=h.last;omega,fun i n hn=>by have:=h.links i n hn;omega,fun i n hn=>by have:=h.gj i n hn;omega⟩
section
variable {gh:Int} {gu:d9} {kind mode:Int} {data:d9}
theorem aF3(he:A.makeE gh gu kind mode data=0):A.isDir gh/\S3 gu=0/\ac5 kind mode data=0/\A.find gh gu=none/\A.roomE 1 (data.size:Int)=0:=by
 unfold AT.makeE at he;obtain⟨_,he⟩:=AT.firstE_z he;obtain⟨h1,he⟩:=AT.firstE_z he;obtain⟨h2,he⟩:=AT.firstE_z he;obtain⟨h3,he⟩:=AT.firstE_z he;obtain⟨h4,he⟩:=AT.firstE_z he;obtain⟨h5,he⟩:=AT.firstE_z he;refine⟨AT.dirE_z h1,h2,h3,?_,h5⟩;cases hf:A.find gh gu with
 |none=>rfl
 |some j=>rw[hf]at h4;simp at h4
def at2(gh kind mode:Int)(data:d9):AN:=⟨kind,mode,data,1,if kind==2 then gh else 0,[]⟩
theorem av0(h:Inv A)(hl:A.last<4611686018427387904){nd:AN}(hd:A.get gh=some nd) :
 A.made gh gu kind mode data={ (({A with last:=A.last+1}.set (A.last+1) (at2 gh kind mode data)).set gh {nd with gj:=up gu (A.last+1) nd.gj})with ui:=wr (A.ui+1),ub:=wr (A.ub+data.size)}:=by
 have hp:=h.last_pos;have hw:wr (A.last+1)=A.last+1:=av9 (by omega) (by omega);have ia:gh≠A.last+1:=by have:=(h.low gh nd hd).2;omega
 unfold AT.made;rw[hw];have hg:({A with last:=A.last+1,nodes:=up (A.last+1) ⟨kind,mode,data,1,if kind==2 then gh else 0,[]⟩ A.nodes}:AT).get gh=some nd:=by
  have:=AT.get_set_ne A (at2 gh kind mode data) ia;rw[hd]at this;exact this
 simp only[AT.ent,hg]
 rfl
theorem ax9(h:Inv A)(hl:A.last<4611686018427387904){nd:AN}(hd:A.get gh=some nd)(j:Int) :
 (A.made gh gu kind mode data).get j=if j=gh then some {nd with gj:=up gu (A.last+1) nd.gj}else if j=A.last+1 then some (at2 gh kind mode data)else A.get j:=by
 rw[av0 h hl hd];show((({A with last:=A.last+1}:AT).set (A.last+1) (at2 gh kind mode data)).set gh {nd with gj:=up gu (A.last+1) nd.gj}).get j=_;rw[AT.get_set,AT.get_set];rfl
theorem bF2{i n:Int}(h:A.roomE i n=0):wr (A.ui+i)<=A.qi/\wr (A.ub+n)<=A.qb:=by
 unfold AT.roomE at h;by_cases hc:wr (A.ui+i)<=A.qi/\wr (A.ub+n)<=A.qb
 ·exact hc
 ·rw[d7 hc]at h;cases h
theorem Inv.ui_pos(h:Inv A):1<=A.ui:=by
 obtain⟨n,h1,_⟩:=h.root;have:=aq9 (f:=fun _:AN=>1) h1;rw[ac7]at this;rw[h.ui];omega
theorem Inv.ub_pos(h:Inv A):0<=A.ub:=by rw[h.ub];omega
theorem Inv.made{N:Nat}(h:Inv A)(hb:Bd N A)(hN:N<4611686018427387904)(hs:data.size<4611686018427387904)(he:A.makeE gh gu kind mode data=0)(vj:kind=2->∃d,A.deep 11 gh=some d) :
 Inv (A.made gh gu kind mode data)/\Bd (N+1) (A.made gh gu kind mode data):=by
 obtain⟨⟨nd,hd,sw⟩,il,lq,mq,hrm⟩:=aF3 he;have hl:A.last<4611686018427387904:=by have:=hb.last;omega
 have hG:=ax9 (gu:=gu) (kind:=kind) (mode:=mode) (data:=data) h hl hd;have hE:=av0 (gu:=gu) (kind:=kind) (mode:=mode) (data:=data) h hl hd;have hp:=h.last_pos;have rc:=(h.low gh nd hd);have ia:gh≠A.last+1:=by omega
 have ke:A.get (A.last+1)=none:=h.fresh (by omega);have sx:lk gu nd.gj=none:=by unfold AT.find at mq;rw[hd]at mq;exact mq
 have iu:h.ui_pos=h.ui_pos:=rfl;have Ep:=h.ui_pos;have zr:=h.ub_pos;obtain⟨hq1,zt⟩:=h.uq;obtain⟨hq3,hq4⟩:=h.bq;obtain⟨qw,vd⟩:=bF2 hrm;have w1:wr (A.ui+1)=A.ui+1:=av9 (by omega) (by omega);have w2:wr (A.ub+(data.size:Int))=A.ub+data.size:=av9 (by omega) (by omega);rw[w1]at qw;rw[w2]at vd;have jr:∀f:AN->Nat,P7 f (A.made gh gu kind mode data).nodes+f nd=P7 f A.nodes+f (at2 gh kind mode data)+f {nd with gj:=up gu (A.last+1) nd.gj}:=by
  intro f;rw[hE];show P7 f ((({A with last:=A.last+1}:AT).set (A.last+1) (at2 gh kind mode data)).set gh {nd with gj:=up gu (A.last+1) nd.gj}).nodes+_=_;have h1:=AT.sum_set (({A with last:=A.last+1}:AT).set (A.last+1) (at2 gh kind mode data)) f gh {nd with gj:=up gu (A.last+1) nd.gj};have h2:=AT.sum_set ({A with last:=A.last+1}:AT) f (A.last+1) (at2 gh kind mode data);have g1:(({A with last:=A.last+1}:AT).set (A.last+1) (at2 gh kind mode data)).get gh=some nd:=by rw[AT.get_set_ne _ _ ia];exact hd
  have g2:({A with last:=A.last+1}:AT).get (A.last+1)=none:=ke;rw[g1]at h1;rw[g2]at h2;simp only[Option.map_some,Option.getD_some,Option.map_none,Option.getD_none]at h1 h2;have h3:P7 f ({A with last:=A.last+1}:AT).nodes=P7 f A.nodes:=rfl;omega
 have Es:∀j,P2 j {nd with gj:=up gu (A.last+1) nd.gj}=P2 j nd+one j (A.last+1):=by
  intro j;have:=aO2 (one j) gu (A.last+1) nd.gj;rw[sx]at this;simpa[P2]using this
 have lr:∀j,(A.made gh gu kind mode data).refs j=A.refs j+one j (A.last+1):=by
  intro j;have:=jr (P2 j);rw[Es j]at this;have h0:P2 j (at2 gh kind mode data)=0:=rfl;unfold AT.refs;omega
 have Eb:A.refs (A.last+1)=0:=h.refs_none ke;have sb:∀j m,A.get j=some m->∃m',(A.made gh gu kind mode data).get j=some m'/\m'.kind=m.kind/\m'.up=m.up/\m'.mode=m.mode/\m'.data=m.data/\m'.links=m.links:=by
  intro j m hm;rw[hG];by_cases e:j=gh
  ·subst e;rw[d8 rfl];rw[hd]at hm;cases hm;exact⟨_,rfl,rfl,rfl,rfl,rfl,rfl⟩
  ·rw[d7 e];by_cases e2:j=A.last+1
   ·subst e2;rw[ke]at hm;cases hm
   ·rw[d7 e2];exact⟨m,hm,rfl,rfl,rfl,rfl,rfl⟩
 have gw:∀j m,(A.made gh gu kind mode data).get j=some m->(j=gh/\m={nd with gj:=up gu (A.last+1) nd.gj})\/(j=A.last+1/\m=at2 gh kind mode data)\/(j≠gh/\j≠A.last+1/\A.get j=some m):=by
  intro j m hm;rw[hG]at hm;by_cases e:j=gh
  ·rw[d8 e]at hm;cases hm;exact .inl ⟨e,rfl⟩
  ·rw[d7 e]at hm;by_cases e2:j=A.last+1
   ·rw[d8 e2]at hm;cases hm;exact .inr (.inl ⟨e2,rfl⟩)
   ·rw[d7 e2]at hm;exact .inr (.inr ⟨e,e2,hm⟩)
 have og:(A.made gh gu kind mode data).last=A.last+1:=by rw[hE];rfl
 have oh:∀k,A.isDir k->(A.made gh gu kind mode data).upOf k=A.upOf k:=by
  rintro k ⟨n,hn,_⟩
  obtain⟨m',h1,_,h3,_⟩:=sb k n hn;unfold AT.upOf;rw[h1,hn];simp[h3]
 have hknd:kind=1\/kind=2\/kind=3\/True:=.inr (.inr (.inr trivial));refine⟨⟨?_,?_,?_,?_,?_,?_,?_,?_,?_,?_,?_,?_,?_⟩,⟨?_,?_,?_⟩⟩
 ·rw[hE];exact M5 (M5 h.nodup)
 ·intro j m hm;rcases gw j m hm with⟨_,rfl⟩|⟨_,rfl⟩|⟨_,_,hm⟩
  ·exact M5 (h.enod gh nd hd)
  ·exact List.nodup_nil
  ·exact h.enod j m hm
 ·obtain⟨r,hr,vd,vi⟩:=h.root;obtain⟨m',h1,h2,h3,_⟩:=sb 1 r hr;exact⟨m',h1,by rw[h2,vd],by rw[h3,vi]⟩
 ·intro j m hm;rw[og];rcases gw j m hm with⟨rfl,_⟩|⟨rfl,_⟩|⟨_,_,hm⟩
  ·omega
  ·omega
  ·have:=h.low j m hm;omega
 ·intro j m hm;rcases gw j m hm with⟨rfl,rfl⟩|⟨_,rfl⟩|⟨_,_,hm⟩
  ·exact h.like _ nd hd
  ·exact lq
  ·exact h.like j m hm
 ·intro j m hm hk;rcases gw j m hm with⟨rfl,rfl⟩|⟨_,rfl⟩|⟨_,_,hm⟩
  ·exact m7 sw hk
  ·rfl
  ·exact h.file j m hm hk
 ·intro j m s t hm rz;rcases gw j m hm with⟨rfl,rfl⟩|⟨_,rfl⟩|⟨_,_,hm⟩
  ·simp only[ax0]at rz;by_cases e:s=gu
   ·subst e;simp at rz;subst rz;refine⟨il,by omega,at2 j kind mode data,by rw[hG,d7 (fun x=>ia x.symm),d8 rfl],fun hk=>?_⟩;have hk:kind=2:=hk;simp[at2,hk]
   ·have e':(s==gu)=false:=by simpa using e
    rw[e']at rz;obtain⟨q1,q2,m',q3,q4⟩:=h.ent j nd s t hd rz;obtain⟨m'',h1,h2,h3,_⟩:=sb t m' q3;exact⟨q1,q2,m'',h1,fun hk=>by rw[h3];exact q4 (by rw[<-h2];exact hk)⟩
  ·simp[at2,lk]at rz
  ·obtain⟨q1,q2,m',q3,q4⟩:=h.ent j m s t hm rz;obtain⟨m'',h1,h2,h3,_⟩:=sb t m' q3;exact⟨q1,q2,m'',h1,fun hk=>by rw[h3];exact q4 (by rw[<-h2];exact hk)⟩
 ·intro j m hm h1;rw[lr];have ho:∀j,j≠A.last+1->one j (A.last+1)=0:=by intro j hj;unfold one;rw[d7 (fun x=>hj x.symm)]
  rcases gw j m hm with⟨rfl,rfl⟩|⟨rfl,rfl⟩|⟨_,hj,hm⟩
  ·rw[ho _ ia];exact h.links _ nd hd h1
  ·rw[Eb];unfold one;simp[at2]
  ·rw[ho _ hj];exact h.links j m hm h1
 ·rintro k ⟨m,hm,hk⟩
  rcases gw k m hm with⟨rfl,rfl⟩|⟨rfl,rfl⟩|⟨_,_,hm⟩
  ·rw[ah2 h oh 12 k ⟨nd,hd,sw⟩];exact h.deep k ⟨nd,hd,sw⟩
  ·have hk:kind=2:=hk;obtain⟨d,se⟩:=vj hk;refine⟨d+1,?_⟩;unfold AT.deep;rw[d7 (by omega)];have:(A.made gh gu kind mode data).upOf (A.last+1)=gh:=by
    unfold AT.upOf;rw[hm];simp[at2,hk]
   rw[this,ah2 h oh 11 gh ⟨nd,hd,sw⟩,se];rfl
  ·rw[ah2 h oh 12 k ⟨m,hm,hk⟩];exact h.deep k ⟨m,hm,hk⟩
 ·have:=jr (fun _=>1);rw[ac7,ac7]at this;have e:(A.made gh gu kind mode data).ui=A.ui+1:=by rw[hE];exact w1
  rw[e,h.ui];omega
 ·have:=jr (fun n=>n.data.size);have e:(A.made gh gu kind mode data).ub=A.ub+data.size:=by rw[hE];exact w2
  have e2:(at2 gh kind mode data).data.size=data.size:=rfl;rw[e,h.ub];unfold AT.bytes;simp only[e2]at this;omega
 ·have e:(A.made gh gu kind mode data).ui=A.ui+1:=by rw[hE];exact w1
  have e2:(A.made gh gu kind mode data).qi=A.qi:=by rw[hE];rfl
  rw[e,e2];exact⟨qw,zt⟩
 ·have e:(A.made gh gu kind mode data).ub=A.ub+data.size:=by rw[hE];exact w2
  have e2:(A.made gh gu kind mode data).qb=A.qb:=by rw[hE];rfl
  rw[e,e2];exact⟨vd,hq4⟩
 ·rw[og];have:=hb.last;omega
 ·intro j m hm;rcases gw j m hm with⟨rfl,rfl⟩|⟨_,rfl⟩|⟨_,_,hm⟩
  ·have:=hb.links _ nd hd;simp only;omega
  ·simp[at2];omega
  ·have:=hb.links j m hm;omega
 ·intro j m hm;rcases gw j m hm with⟨rfl,rfl⟩|⟨_,rfl⟩|⟨_,_,hm⟩
  ·have:=hb.gj _ nd hd;simp only;rw[ak6 nd.gj gu _ sx];simp;omega
  ·simp[at2]
  ·have:=hb.gj j m hm;omega
end
end
section
theorem bv9{c:J3}:∀ {L l:List J3},l∈P6 c L->c∉l/\∀x∈l,x∈L:=by
 intro L
 induction L with
 |nil=>intro l h;simp[P6]at h;subst h;simp
 |cons x r ih =>
  intro l h;unfold P6 at h;cases hx:(x==c) with
  |true =>
   rw[hx]at h;simp only[G9]at h;rcases h with e|e
   ·subst e;simp
   ·obtain⟨h1,h2⟩:=ih e;exact⟨h1,fun y hy=>E4 _ (h2 y hy)⟩
  |false =>
   rw[hx]at h;have hxc:c≠x:=by intro e;subst e;simp at hx
   cases hs:P6 c r with
   |nil=>rw[hs]at h;simp at h;subst h;exact⟨by simpa using hxc,by simp⟩
   |cons a t =>
    rw[hs]at h;simp only[G9]at h;rcases h with e|e
    ·subst e;obtain⟨h1,h2⟩:=ih (l:=a) (by rw[hs];simp);refine⟨by simp[hxc,h1],fun y hy=>?_⟩;rcases G9.1 hy with e|e
     ·rw[e];simp
     ·exact E4 _ (h2 y e)
    ·obtain⟨h1,h2⟩:=ih (l:=l) (by rw[hs];simp[e]);exact⟨h1,fun y hy=>E4 _ (h2 y hy)⟩
def W1(s:d9):Prop:=s≠⟨⟨[]⟩⟩/\s≠⟨⟨[46]⟩⟩/\X6 s=false
theorem aa9{a b:d9}(h:a≠b):E8 a b=false:=by
 cases hs:E8 a b with
 |false=>rfl
 |true=>exact m7 (J9.1 hs) h
theorem bL0{gc:d9}(h:W6 gc=false):∀n∈N1 gc,W1 n:=by
 intro n hn;unfold N1 at hn;rw[List.mem_filter]at hn;obtain⟨h1,h2⟩:=hn;obtain⟨l,hl,rfl⟩:=K0.1 h1;obtain⟨h3,h4⟩:=bv9 hl;unfold S8 at h2;simp only[J4,Bool.not_eq_true']at h2;refine⟨fun e=>?_,fun e=>?_,?_⟩
 ·have:=h2.1;rw[e]at this;exact m7 this (by decide)
 ·have:=h2.2;rw[e]at this;exact m7 this (by decide)
 ·unfold X6;rw[List.any_eq_false];intro x hx hb;simp only[Bool.or_eq_true,beq_iff_eq]at hb;rcases hb with e|e
  ·subst e;exact h3 hx
  ·subst e;have:W6 gc=true:=by unfold W6;rw[List.any_eq_true];exact⟨0,h4 0 hx,by simp⟩
   rw[h]at this;cases this
theorem bX4{gc:d9}(h:ab1 gc=0):W6 gc=false:=by
 unfold ab1 at h;cases h1:E8 gc ⟨⟨[]⟩⟩ with
 |true=>rw[h1]at h;simp at h
 |false =>
  rw[h1]at h;by_cases h2:gc.size>255
  ·simp[h2]at h
  ·cases h3:W6 gc with
   |false=>rfl
   |true=>simp[h2,h3]at h
def ab6(A:AT)(p:Pl):Prop:=A.isDir p.gh/\((p.gu=⟨⟨[]⟩⟩/\p.there=true/\p.gf=p.gh)\/(W1 p.gu/\p.gu≠⟨⟨[46,46]⟩⟩/\p.gu.size<=56/\A.find p.gh p.gu=if p.there then some p.gf else none))
theorem ai9{A:AT}{i:Int}(h:A.kind i=2):A.isDir i:=by
 unfold AT.kind at h;cases hn:A.get i with
 |none=>rw[hn]at h;simp at h
 |some n=>rw[hn]at h;exact⟨n,hn,by simpa using h⟩
theorem al8{A:AT}{i:Int}(h:A.isDir i):A.kind i=2:=by
 obtain⟨n,h1,h2⟩:=h;unfold AT.kind;rw[h1];simpa using h2
theorem ab6.self{A:AT}{d:Int}(h:A.isDir d):ab6 A ⟨d,⟨⟨[]⟩⟩,d,true⟩:=⟨h,.inl ⟨rfl,rfl,rfl⟩⟩
theorem ab6.named{A:AT}{p:Pl}(h:ab6 A p)(hn:p.gu≠⟨⟨[]⟩⟩):S3 p.gu=0/\A.find p.gh p.gu=if p.there then some p.gf else none:=by
 obtain⟨_,h|⟨⟨a1,a2,a3⟩,a4,a5,a6⟩⟩:=h
 ·exact m7 h.1 hn
 ·refine⟨?_,a6⟩;unfold S3;rw[d7 (by omega),aa9 a1,aa9 a2,aa9 a4,a3];rfl
theorem ab6.notThere{A:AT}{p:Pl}(h:ab6 A p)(hn:p.there=false):p.gu≠⟨⟨[]⟩⟩:=by
 obtain⟨_,h|⟨⟨a1,_⟩,_⟩⟩:=h
 ·rw[h.2.1]at hn;cases hn
 ·exact a1
theorem bk5{A:AT}(hI:Inv A){go:Int->d9->Int->Int×Pl×Int}{gi:Bool}(sv:∀d s x,A.isDir d->(go d s x).1=0->ab6 A (go d s x).2.1):∀ (l:List d9) (p:Pl) (h:Int),(∀n∈l,W1 n)->ab6 A p->(A.steps go gi l p h).1=0->ab6 A (A.steps go gi l p h).2.1:=by
 intro l
 induction l with
 |nil=>intro p h _ hp _;exact hp
 |cons n r ih =>
  intro p h hl hp he;have mr:∀n∈r,W1 n:=fun m hm=>hl m (E4 _ hm);cases h1:p.there with
  |false=>rw[ap1 h1]at he;cases he
  |true =>
   by_cases h2:A.kind p.gf=2
   case neg=>rw[ai8 h1 h2]at he;cases he
   have hd:=ai9 h2;cases h3:E8 n ⟨⟨[46,46]⟩⟩ with
   |true =>
    rw[ax8 h1 h2 h3]at he⊢;exact ih _ h mr (ab6.self (hI.isDir_up hd)) he
   |false =>
    by_cases h4:n.size>56
    ·rw[ap2 h1 h2 h3 h4]at he;cases he
    by_cases h5:(A.find p.gf n).isSome=false\/(r.isEmpty && !gi)=true\/A.kind ((A.find p.gf n).getD 0)≠3
    ·rw[ab5 h1 h2 h3 h4 h5]at he⊢;refine ih _ h mr ⟨hd,.inr ⟨hl n (H7 ..),fun e=>?_,by show n.size<=56;omega,?_⟩⟩ he
     ·have e:n=⟨⟨[46,46]⟩⟩:=e;rw[e]at h3;exact m7 h3 (by decide)
     ·show A.find p.gf n=_;cases A.find p.gf n<;>rfl
    by_cases h6:h-1<0
    ·rw[ap3 h1 h2 h3 h4 h5 h6]at he;cases he
    by_cases h7:(go p.gf (A.data ((A.find p.gf n).getD 0)) (h-1)).1=0
    ·rw[ap4 h1 h2 h3 h4 h5 h6 h7]at he⊢;exact ih _ _ mr (sv _ _ _ hd h7) he
    ·rw[as8 h1 h2 h3 h4 h5 h6 h7]at he;exact m7 he h7
theorem av1{A:AT}(hI:Inv A):∀ (f:Nat) (d:Int) (s:d9) (fo:Bool) (h:Int),A.isDir d->(A.walk f d s fo h).1=0->ab6 A (A.walk f d s fo h).2.1:=by
 intro f
 induction f with
 |zero=>intro d s fo h _ he;cases he
 |succ f ih =>
  intro d s fo h hd he;rw[AT.walk]at he⊢;by_cases hm:ab1 s=0
  case neg=>rw[d8 hm]at he;exact m7 he hm
  rw[d7 (by simpa using hm)]at he⊢;refine bk5 hI (fun d s x hd he=>ih d s true x hd he) _ _ _ (bL0 (bX4 hm)) (ab6.self ?_) he;cases C8 47 s with
  |true=>exact hI.root_dir
  |false=>exact hd
theorem K4{A:AT}(hI:Inv A)(gb gc:d9)(gi:Bool)(he:(A.locate gb gc gi).1=0):ab6 A (A.locate gb gc gi).2:=by
 unfold AT.locate at he⊢;cases h1:E8 gc ⟨⟨[]⟩⟩ with
 |true=>rw[h1]at he;simp at he
 |false =>
  rw[h1]at he;simp only[D2,if_false]at he⊢;cases h2:C8 47 gc with
  |true=>rw[h2]at he;exact av1 hI 10 1 gc gi 8 hI.root_dir he
  |false =>
   rw[h2]at he;simp only[D2,if_false]at he⊢;cases h3:C8 47 gb with
   |false=>rw[h3]at he;simp at he
   |true =>
    rw[h3]at he;simp only[Bool.true_eq_false,if_false]at he⊢;by_cases h4:(A.walk 10 1 gb true 8).1=0
    case neg=>rw[d8 h4]at he;exact m7 he h4
    rw[d7 (by simpa using h4)]at he⊢;cases h5:(A.walk 10 1 gb true 8).2.1.there with
    |false=>rw[h5]at he;simp at he
    |true =>
     rw[h5]at he;simp only[Bool.true_eq_false,if_false]at he⊢;by_cases h6:A.kind (A.walk 10 1 gb true 8).2.1.gf=2
     case neg=>rw[d8 h6]at he;simp at he
     rw[d7 (by simpa using h6)]at he⊢;exact av1 hI 10 _ gc gi 8 (ai9 h6) he
theorem ab6.get{A:AT}(hI:Inv A){p:Pl}(h:ab6 A p)(ht:p.there=true):∃n,A.get p.gf=some n:=by
 obtain⟨hd,h|⟨_,_,_,h⟩⟩:=h
 ·obtain⟨n,hn,_⟩:=hd;rw[h.2.2];exact⟨n,hn⟩
 ·rw[ht]at h;obtain⟨_,_,_,_,_,m,hm,_⟩:=hI.find h;exact⟨m,hm⟩
theorem Inv.deep13{A:AT}(hI:Inv A){d:Int}(h:A.isDir d):∃x,A.deep 13 d=some x/\A.deep 12 d=some x/\1<=x/\x<=12:=by
 obtain⟨x,hx⟩:=hI.deep d h;exact⟨x,at0 hx,hx,aa0 hx⟩
end
section
inductive Tr where
 |mk (gu:d9) (kind:Int) (exec:Bool) (data:d9) (gn:List Tr)
def Tr.gu:Tr->d9|.mk n _ _ _ _=>n
def Tr.kind:Tr->Int|.mk _ k _ _ _=>k
def Tr.exec:Tr->Bool|.mk _ _ e _ _=>e
def Tr.data:Tr->d9|.mk _ _ _ d _=>d
def Tr.gn:Tr->List Tr|.mk _ _ _ _ l=>l
def gr(d x:Int):Int:=if x>d then x else d
def Tr.deep:Nat->Tr->Int
 |0,_=>1
 |m+1,t=>if t.kind≠2\/m=0 then 1 else t.gn.foldl (fun d x=>gr d (1+Tr.deep m x)) 1
def Tr.tooDeep(t:Tr):Bool:=decide (t.deep 14>12)
def ar0(s:d9):Bool:=decide (1<=s.size)&&(decide (s.size<=56)&&(!X6 s&&(!E8 s ⟨⟨[46]⟩⟩ && !E8 s ⟨⟨[46,46]⟩⟩)))
def ltB(a b:d9):Bool:=!leB b.data.toList a.data.toList
def bX5(prev:Option d9)(s:d9):Bool:=match prev with
 |none=>true
 |some p=>ltB p s
mutual
def Tr.may:Tr->Bool
 |.mk _ k e d gn=>if k=1 then gn.isEmpty else if k=3 then gn.isEmpty&&(!e&&Z9 d)else if k=2 then !e&&(E8 d ⟨⟨[]⟩⟩&&Tr.mayRow none gn)else false
def Tr.mayRow:Option d9->List Tr->Bool
 |_,[]=>true
 |prev,t::r=>ar0 t.gu&&(Tr.may t&&(bX5 prev t.gu&&Tr.mayRow (some t.gu) r))
end
mutual
def Tr.size:Tr->Int×Int
 |.mk _ _ _ d gn=>Tr.sizeRow gn (1,d.size)
def Tr.sizeRow:List Tr->Int×Int->Int×Int
 | [],a=>a
 |t::r,a=>Tr.sizeRow r (if t.tooDeep=true then a else(a.1+(Tr.size t).1,a.2+(Tr.size t).2))
end
mutual
def Tr.total:Tr->Nat
 |.mk n _ _ d gn=>1+n.size+d.size+Tr.totalRow gn
def Tr.totalRow:List Tr->Nat
 | []=>0
 |t::r=>Tr.total t+Tr.totalRow r
end
mutual
def Tr.levels:Tr->Int
 |.mk _ k _ _ gn=>if k≠2 then 0 else Tr.levelsRow gn 0+1
def Tr.levelsRow:List Tr->Int->Int
 | [],a=>a
 |t::r,a=>Tr.levelsRow r (gr a (Tr.levels t))
end
def bX6(k:Int)(e:Bool):Int:=if e then 493 else(lk k [((1:Int),(420:Int)),(2,493),(3,511)]).getD 0
def AT.realUp(A:AT):Nat->Int->d9->d9
 |0,_,out=>out
 |f+1,gh,out=>if gh=1 then out else AT.realUp A f (A.upOf gh) ((A.gd (A.upOf gh)).foldl (fun o n=>if(A.find (A.upOf gh) n).getD 0=gh then(⟨⟨[47]⟩⟩++n)++o else o) out)
def AT.realF(A:AT)(gb gc:d9):Int×d9 :=
 let r:=A.locate gb gc true
 if r.1≠0 then(r.1,⟨⟨[]⟩⟩)
 else if r.2.there=false then(5,⟨⟨[]⟩⟩)
 else
  let out:=if A.kind r.2.gf≠2 then A.realUp 13 r.2.gh (⟨⟨[47]⟩⟩++r.2.gu)else A.realUp 13 r.2.gf ⟨⟨[]⟩⟩
  (0,if E8 out ⟨⟨[]⟩⟩then⟨⟨[47]⟩⟩else out)
theorem Tr.total_kid{t:Tr}{x:Tr}(h:x∈t.gn):x.total<t.total:=by
 obtain⟨nm,k,e,d,gn⟩:=t;have key:∀l:List Tr,x∈l->x.total<=Tr.totalRow l:=by
  intro l
  induction l with
  |nil=>intro h;simp at h
  |cons y r ih =>
   intro h;simp only[Tr.totalRow];rcases G9.1 h with e|e
   ·subst e;omega
   ·have:=ih e;omega
 have:=key gn h;simp only[Tr.total];omega
theorem Tr.ind{P:Tr->Prop}(h:∀t,(∀x∈t.gn,P x)->P t)(t:Tr):P t:=by
 have key:∀ (n:Nat) (t:Tr),t.total<n->P t:=by
  intro n
  induction n with
  |zero=>intro t h;omega
  |succ n ih=>intro t ht;exact h t fun x hx=>ih x (by have:=Tr.total_kid hx;omega)
 exact key _ t (Nat.lt_succ_self _)
end
section
structure am8(A A':AT):Prop where
 get:∀i n,A.get i=some n->∃m,A'.get i=some m/\m.kind=n.kind/\m.up=n.up/\m.mode=n.mode/\m.data=n.data/\m.links=n.links/\∀s j,lk s n.gj=some j->lk s m.gj=some j
 last:A.last<=A'.last
 qi:A'.qi=A.qi
 qb:A'.qb=A.qb
theorem am8.refl(A:AT):am8 A A:=⟨fun i n h=>⟨n,h,rfl,rfl,rfl,rfl,rfl,fun _ _ h=>h⟩,Int.le_refl _,rfl,rfl⟩
theorem am8.trans{A B C:AT}(h:am8 A B)(k:am8 B C):am8 A C:=by
 refine⟨fun i n hn=>?_,Int.le_trans h.last k.last,by rw[k.qi,h.qi],by rw[k.qb,h.qb]⟩;obtain⟨m,h1,h2,h3,h4,h5,h6,h7⟩:=h.get i n hn;obtain⟨m',k1,k2,k3,k4,k5,k6,k7⟩:=k.get i m h1;exact⟨m',k1,by rw[k2,h2],by rw[k3,h3],by rw[k4,h4],by rw[k5,h5],by rw[k6,h6],fun s j hs=>k7 s j (h7 s j hs)⟩
section
variable {A A':AT}
theorem am8.isDir(h:am8 A A'){k:Int}(hk:A.isDir k):A'.isDir k:=by
 obtain⟨n,h1,h2⟩:=hk;obtain⟨m,h3,h4,_⟩:=h.get k n h1;exact⟨m,h3,by rw[h4,h2]⟩
theorem am8.deep(h:am8 A A')(hI:Inv A)(f:Nat){k:Int}(hk:A.isDir k):A'.deep f k=A.deep f k:=by
 refine ah2 hI ?_ f k hk
 rintro k ⟨n,h1,_⟩
 obtain⟨m,h3,_,h5,_⟩:=h.get k n h1;unfold AT.upOf;rw[h1,h3];simp[h5]
theorem am8.find(h:am8 A A'){d:Int}{s:d9}{j:Int}(hf:A.find d s=some j):A'.find d s=some j:=by
 unfold AT.find at hf⊢;cases hn:A.get d with
 |none=>rw[hn]at hf;cases hf
 |some n =>
  rw[hn]at hf;obtain⟨m,h1,_,_,_,_,_,h7⟩:=h.get d n hn;rw[h1];exact h7 s j hf
variable {gh:Int} {gu:d9} {kind mode:Int} {data:d9}
theorem bw0(h:Inv A)(hl:A.last<4611686018427387904)(he:A.makeE gh gu kind mode data=0):am8 A (A.made gh gu kind mode data):=by
 obtain⟨⟨nd,hd,sw⟩,il,lq,mq,hrm⟩:=aF3 he;have hG:=ax9 (gu:=gu) (kind:=kind) (mode:=mode) (data:=data) h hl hd;have hE:=av0 (gu:=gu) (kind:=kind) (mode:=mode) (data:=data) h hl hd;have ke:A.get (A.last+1)=none:=h.fresh (by omega);have sx:lk gu nd.gj=none:=by unfold AT.find at mq;rw[hd]at mq;exact mq
 refine⟨fun i n hn=>?_,by rw[hE];show A.last<=A.last+1;omega,by rw[hE];rfl,by rw[hE];rfl⟩;rw[hG];by_cases e:i=gh
 ·subst e;rw[d8 rfl];rw[hd]at hn;cases hn;refine⟨_,rfl,rfl,rfl,rfl,rfl,rfl,fun s j hs => ?_⟩;simp only[ax0];have:(s==gu)=false:=by
   cases hb:(s==gu) with
   |false=>rfl
   |true=>have:=eq_of_beq hb;subst this;rw[sx]at hs;cases hs
  rw[this];exact hs
 ·rw[d7 e];by_cases e2:i=A.last+1
  ·subst e2;rw[ke]at hn;cases hn
  ·rw[d7 e2];exact⟨n,hn,rfl,rfl,rfl,rfl,rfl,fun _ _ h=>h⟩
theorem aO3(he:A.makeE gh gu kind mode data=0):A.makeR gh gu kind mode data=(wr (A.last+1),0,A.made gh gu kind mode data):=by unfold AT.makeR;rw[d8 he]
theorem aO4(he:A.makeE gh gu kind mode data≠0):A.makeR gh gu kind mode data=(0,A.makeE gh gu kind mode data,A):=by unfold AT.makeR;rw[d7 he]
theorem bk6{N:Nat}(h:Inv A)(hb:Bd N A)(hN:N<4611686018427387904)(hs:data.size<4611686018427387904)(vj:A.isDir gh->kind=2->∃d,A.deep 11 gh=some d) :
 Inv (A.makeR gh gu kind mode data).2.2/\Bd (N+1) (A.makeR gh gu kind mode data).2.2/\am8 A (A.makeR gh gu kind mode data).2.2:=by
 by_cases he:A.makeE gh gu kind mode data=0
 ·rw[aO3 he];obtain⟨h1,h2⟩:=h.made hb hN hs he (vj (aF3 he).1);exact⟨h1,h2,bw0 h (by have:=hb.last;omega) he⟩
 ·rw[aO4 he];exact⟨h,hb.mono (by omega),am8.refl A⟩
end
def bX7(A:AT)(gf:Int)(l:List Tr):Prop:=(∃n,A.get gf=some n)/\∀d,A.isDir gf->A.deep 12 gf=some d->∀x∈l,d+x.levels<=12
theorem bX7.next{A A':AT}{gf:Int}{x:Tr}{l:List Tr}(hI:Inv A)(hg:am8 A A')(h:bX7 A gf (x::l)):bX7 A' gf l:=by
 obtain⟨⟨n,hn⟩,h2⟩:=h;obtain⟨m,hm,hk,_⟩:=hg.get gf n hn;refine⟨⟨m,hm⟩,?_⟩
 rintro d ⟨m',oe,nv⟩ hd y hy
 rw[hm]at oe;cases oe;have hD:A.isDir gf:=⟨n,hn,by rw[<-hk];exact nv⟩;rw[hg.deep hI 12 hD]at hd;exact h2 d hD hd y (E4 _ hy)
theorem bX7.head{A:AT}{gf:Int}{x:Tr}{l:List Tr}(h:bX7 A gf (x::l)):∀d,A.isDir gf->A.deep 12 gf=some d->d+x.levels<=12:=fun d h1 h2=>h.2 d h1 h2 x (H7 ..)
end
section
variable {A:AT}
theorem Inv.mod{N:Nat}(h:Inv A)(hb:Bd N A){i:Int}{n n':AN}(hn:A.get i=some n)(h1:n'.kind=n.kind)(h2:n'.up=n.up)(h3:n'.gj=n.gj)(h4:ac5 n'.kind n'.mode n'.data=0)(h5:n'.links=n.links){ub:Int}(zr:ub=A.ub+n'.data.size-n.data.size)(hq:ub<=A.qb) :
 Inv {A.set i n' with ub:=ub}/\Bd N {A.set i n' with ub:=ub}:=by
 have hG:∀j,({A.set i n' with ub:=ub}:AT).get j=if j=i then some n' else A.get j:=fun j=>AT.get_set A i j n'
 have hc:∀j m,({A.set i n' with ub:=ub}:AT).get j=some m->∃m0,A.get j=some m0/\m.kind=m0.kind/\m.up=m0.up/\m.gj=m0.gj/\m.links=m0.links/\ac5 m.kind m.mode m.data=0:=by
  intro j m hm;rw[hG]at hm;by_cases e:j=i
  ·rw[d8 e]at hm;cases hm;subst e;exact⟨n,hn,h1,h2,h3,h5,h4⟩
  ·rw[d7 e]at hm;exact⟨m,hm,rfl,rfl,rfl,rfl,h.like j m hm⟩
 have hx:∀j m,A.get j=some m->∃m',({A.set i n' with ub:=ub}:AT).get j=some m'/\m'.kind=m.kind/\m'.up=m.up/\m'.gj=m.gj/\m'.links=m.links:=by
  intro j m hm;rw[hG];by_cases e:j=i
  ·subst e;rw[d8 rfl];rw[hn]at hm;cases hm;exact⟨n',rfl,h1,h2,h3,h5⟩
  ·rw[d7 e];exact⟨m,hm,rfl,rfl,rfl,rfl⟩
 have jr:∀f:AN->Nat,P7 f (A.set i n').nodes+f n=P7 f A.nodes+f n':=by
  intro f;have:=AT.sum_set A f i n';rw[hn]at this;simpa using this
 have lr:∀j,({A.set i n' with ub:=ub}:AT).refs j=A.refs j:=by
  intro j;have:=jr (P2 j);have e:P2 j n'=P2 j n:=by unfold P2;rw[h3]
  show P7 (P2 j) (A.set i n').nodes=P7 (P2 j) A.nodes;omega
 have oh:∀k,A.isDir k->({A.set i n' with ub:=ub}:AT).upOf k=A.upOf k:=by
  rintro k ⟨m,hm,_⟩
  obtain⟨m',q1,_,q3,_⟩:=hx k m hm;unfold AT.upOf;rw[hm,q1];simp[q3]
 refine⟨⟨?_,?_,?_,?_,?_,?_,?_,?_,?_,?_,?_,?_,?_⟩,⟨?_,?_,?_⟩⟩
 ·exact M5 h.nodup
 ·intro j m hm;obtain⟨m0,q1,_,_,q4,_⟩:=hc j m hm;rw[q4];exact h.enod j m0 q1
 ·obtain⟨r,r1,r2,r3⟩:=h.root;obtain⟨m',q1,q2,q3,_⟩:=hx 1 r r1;exact⟨m',q1,by rw[q2,r2],by rw[q3,r3]⟩
 ·intro j m hm;obtain⟨m0,q1,_⟩:=hc j m hm;exact h.low j m0 q1
 ·intro j m hm;obtain⟨m0,_,_,_,_,_,q⟩:=hc j m hm;exact q
 ·intro j m hm hk;obtain⟨m0,q1,q2,_,q4,_⟩:=hc j m hm;rw[q4];exact h.file j m0 q1 (by rw[<-q2];exact hk)
 ·intro j m s t hm hs;obtain⟨m0,q1,_,_,q4,_⟩:=hc j m hm;rw[q4]at hs;obtain⟨a1,a2,m1,a3,a4⟩:=h.ent j m0 s t q1 hs;obtain⟨m',b1,b2,b3,_⟩:=hx t m1 a3;exact⟨a1,a2,m',b1,fun hk=>by rw[b3];exact a4 (by rw[<-b2];exact hk)⟩
 ·intro j m hm hj;obtain⟨m0,q1,q2,_,_,q5,_⟩:=hc j m hm;rw[lr,q2,q5];exact h.links j m0 q1 hj
 ·rintro k ⟨m,hm,hk⟩
  obtain⟨m0,q1,q2,_⟩:=hc k m hm;have hd:A.isDir k:=⟨m0,q1,by rw[<-q2];exact hk⟩;rw[ah2 h oh 12 k hd];exact h.deep k hd
 ·have:=jr (fun _=>1);rw[ac7,ac7]at this;have e:=h.ui;show A.ui=(A.set i n').nodes.length;omega
 ·have:=jr (fun n=>n.data.size);have e:=h.ub;show ub=(P7 (fun n:AN=>n.data.size) (A.set i n').nodes:Nat);unfold AT.bytes at e;omega
 ·exact h.uq
 ·exact⟨hq,h.bq.2⟩
 ·exact hb.last
 ·intro j m hm;obtain⟨m0,q1,_,_,_,q5,_⟩:=hc j m hm;rw[q5];exact hb.links j m0 q1
 ·intro j m hm;obtain⟨m0,q1,_,_,q4,_⟩:=hc j m hm;rw[q4];exact hb.gj j m0 q1
theorem bw1{mode:Int}{data:d9}{d:d9}(h:ac5 1 mode d=0):ac5 1 mode data=0:=by
 unfold ac5 af2 at h⊢;simpa[lk]using h
theorem aX7{N:Nat}(h:Inv A)(hb:Bd N A)(gf:Int)(data:d9)(hs:data.size<4611686018427387904):Inv (A.writeR gf data).2/\Bd N (A.writeR gf data).2/\((A.writeR gf data).1≠0->(A.writeR gf data).2=A)/\(A.writeR gf data).2.qi=A.qi/\(A.writeR gf data).2.qb=A.qb:=by
 unfold AT.writeR;by_cases he:A.writeE gf data=0
 case neg=>rw[d7 he];exact⟨h,hb,fun _=>rfl,rfl,rfl⟩
 rw[d8 he];unfold AT.writeE at he;obtain⟨_,he⟩:=AT.firstE_z he;obtain⟨h1,he⟩:=AT.firstE_z he;obtain⟨h2,_⟩:=AT.firstE_z he;obtain⟨n,hn,hk⟩:=AT.fileE_z h1;obtain⟨_,hr⟩:=bF2 h2;have hsz:=h.size_le hn;have zr:=h.ub_pos;have hq:=h.bq;rw[hn]at hr;simp only[Option.map_some,Option.getD_some]at hr;have e1:A.written gf data={A.set gf {n with data:=data}with ub:=wr (A.ub+wr ((data.size:Int)-n.data.size))}:=by unfold AT.written;rw[hn]
 have w1:wr ((data.size:Int)-n.data.size)=(data.size:Int)-n.data.size:=av9 (by omega) (by omega);rw[w1]at hr;have w2:wr (A.ub+((data.size:Int)-n.data.size))=A.ub+data.size-n.data.size:=by rw[av9 (by omega) (by omega)];omega
 rw[w2]at hr;rw[e1,w1,w2];have Et:ac5 n.kind n.mode data=0:=by
  have:=h.like gf n hn;rw[hk]at this⊢;exact bw1 this
 obtain⟨a,b⟩:=h.mod hb hn (n':={n with data:=data}) rfl rfl rfl Et rfl rfl hr;exact⟨a,b,fun h=>m7 rfl h,rfl,rfl⟩
theorem bw2{k m m':Int}{d:d9}(h:ac5 k m d=0)(h1:0<=m'/\m'<=511):ac5 k m' d=0:=by
 unfold ac5 at h⊢;by_cases hk:af2 k d=true
 ·simp[hk,h1]
 ·simp[hk]at h
theorem aX8{N:Nat}(h:Inv A)(hb:Bd N A)(gf mode:Int):Inv (A.chmodR gf mode).2/\Bd N (A.chmodR gf mode).2/\((A.chmodR gf mode).1≠0->(A.chmodR gf mode).2=A)/\(A.chmodR gf mode).2.qi=A.qi/\(A.chmodR gf mode).2.qb=A.qb:=by
 unfold AT.chmodR;by_cases he:A.chmodE gf mode=0
 case neg=>rw[d7 he];exact⟨h,hb,fun _=>rfl,rfl,rfl⟩
 rw[d8 he];unfold AT.chmodE at he;obtain⟨_,he⟩:=AT.firstE_z he;obtain⟨h1,he⟩:=AT.firstE_z he;obtain⟨h2,_⟩:=AT.firstE_z he;have hm:0<=mode/\mode<=511:=by
  by_cases hm:0<=mode/\mode<=511
  ·exact hm
  ·rw[d7 hm]at h1;cases h1
 cases hn:A.get gf with
 |none=>rw[hn]at h2;simp at h2
 |some n =>
  have e1:A.chmoded gf mode={A.set gf {n with mode:=mode}with ub:=A.ub}:=by unfold AT.chmoded AT.mod;rw[hn];rfl
  rw[e1];obtain⟨a,b⟩:=h.mod hb hn (n':={n with mode:=mode}) (ub:=A.ub) rfl rfl rfl (bw2 (h.like gf n hn) hm) rfl (by show A.ub=A.ub+n.data.size-n.data.size;omega) h.bq.1;exact⟨a,b,fun h=>m7 rfl h,rfl,rfl⟩
theorem aA2{gh:Int}{gu:d9}(he:A.unlinkE gh gu=0):A.isDir gh/\∃j,A.find gh gu=some j/\∀m,A.get j=some m->m.gj=[]:=by
 unfold AT.unlinkE at he;obtain⟨_,he⟩:=AT.firstE_z he;obtain⟨h1,he⟩:=AT.firstE_z he;obtain⟨h2,he⟩:=AT.firstE_z he;obtain⟨h3,_⟩:=AT.firstE_z he;refine⟨AT.dirE_z h1,?_⟩;cases hf:A.find gh gu with
 |none=>rw[hf]at h2;simp at h2
 |some j =>
  refine⟨j,rfl,fun m hm=>?_⟩;rw[hf]at h3;simp only[Option.getD_some,hm,Option.map_some]at h3;by_cases hl:m.gj.length=0
  ·exact ai0 hl
  ·rw[d7 hl]at h3;cases h3
theorem ap5{N:Nat}(h:Inv A)(hb:Bd N A)(hN:N<4611686018427387904)(gh:Int)(gu:d9):Inv (A.unlinkR gh gu).2/\Bd N (A.unlinkR gh gu).2/\((A.unlinkR gh gu).1≠0->(A.unlinkR gh gu).2=A)/\(A.unlinkR gh gu).2.qi=A.qi/\(A.unlinkR gh gu).2.qb=A.qb:=by
 unfold AT.unlinkR;by_cases he:A.unlinkE gh gu=0
 case neg=>rw[d7 he];exact⟨h,hb,fun _=>rfl,rfl,rfl⟩
 rw[d8 he];obtain⟨⟨nd,hd,sw⟩,gf,hf,Ax⟩:=aA2 he;obtain⟨nd',ku,_,lq,nh,nn,ix,iu⟩:=h.find hf;rw[hd]at ku;cases ku;have ur:=Ax nn ix;have ia:gf≠gh:=by
  intro e;subst e;rw[hd]at ix;cases ix;rw[ur]at lq;simp[lk]at lq
 obtain⟨ln,vf,hl3⟩:=h.links gf nn ix nh
 -- the table with the entry gone and one link less
 have e1:A.ent gh (rm gu)=A.set gh {nd with gj:=rm gu nd.gj}:=by unfold AT.ent;rw[hd]
 have g1:(A.set gh {nd with gj:=rm gu nd.gj}).get gf=some nn:=by rw[AT.get_set_ne _ _ ia];exact ix
 have hlb:nn.links<=N:=hb.links gf nn ix;have wl:wr (nn.links-1)=nn.links-1:=av9 (by omega) (by omega)
 let A1:AT:=(A.set gh {nd with gj:=rm gu nd.gj}).set gf {nn with links:=nn.links-1}
 have e2:A.unlinked gh gu=if nn.links-1=0 then {A1 with nodes:=rm gf A1.nodes,ui:=wr (A.ui-1),ub:=wr (A.ub-nn.data.size)}else A1:=by
  unfold AT.unlinked;rw[hf];simp only[Option.getD_some];rw[e1];unfold AT.mod;rw[g1];simp only;rw[AT.get_set_self,wl];by_cases hz:nn.links-1=0
  ·rw[d8 hz];have:(nn.links-1==0)=true:=by simpa using hz
   simp only[this];rfl
  ·rw[d7 hz];have:(nn.links-1==0)=false:=by simpa using hz
   simp only[this];rfl
 have Cy:∀j,A1.get j=if j=gf then some {nn with links:=nn.links-1}else if j=gh then some {nd with gj:=rm gu nd.gj}else A.get j:=by
  intro j;show((A.set gh _).set gf _).get j=_;rw[AT.get_set,AT.get_set]
 have jr:∀f:AN->Nat,P7 f A1.nodes+f nd+f nn=P7 f A.nodes+f {nd with gj:=rm gu nd.gj}+f {nn with links:=nn.links-1}:=by
  intro f;have q1:=AT.sum_set (A.set gh {nd with gj:=rm gu nd.gj}) f gf {nn with links:=nn.links-1};have q2:=AT.sum_set A f gh {nd with gj:=rm gu nd.gj};rw[g1]at q1;rw[hd]at q2;simp only[Option.map_some,Option.getD_some]at q1 q2;show P7 f ((A.set gh {nd with gj:=rm gu nd.gj}).set gf {nn with links:=nn.links-1}).nodes+f nd+f nn=_;omega
 have Es:∀j,P2 j {nd with gj:=rm gu nd.gj}+one j gf=P2 j nd:=by
  intro j;have:=aF2 (one j) gu nd.gj;rw[lq]at this;simpa[P2]using this
 have lr:∀j,A1.refs j+one j gf=A.refs j:=by
  intro j;have:=jr (P2 j);have e:P2 j {nn with links:=nn.links-1}=P2 j nn:=rfl;have:=Es j;unfold AT.refs;omega
 have Eu:(C5 A1.nodes).Nodup:=M5 (M5 h.nodup)
 -- the end result's inodes
 let Z:=A.unlinked gh gu
 have hZ:∀j m,Z.get j=some m->(j=gf/\m={nn with links:=nn.links-1}/\nn.links-1≠0)\/(j=gh/\m={nd with gj:=rm gu nd.gj})\/(j≠gf/\j≠gh/\A.get j=some m):=by
  intro j m hm;have hm:(A.unlinked gh gu).get j=some m:=hm;rw[e2]at hm;by_cases hz:nn.links-1=0
  ·rw[d8 hz]at hm;have hm:lk j (rm gf A1.nodes)=some m:=hm;rw[ak1 Eu]at hm;by_cases e:j=gf
   ·subst e;simp at hm
   ·have:(j==gf)=false:=by simpa using e
    rw[this]at hm;have hm:A1.get j=some m:=hm;rw[Cy,d7 e]at hm;by_cases e':j=gh
    ·rw[d8 e']at hm;cases hm;exact .inr (.inl ⟨e',rfl⟩)
    ·rw[d7 e']at hm;exact .inr (.inr ⟨e,e',hm⟩)
  ·rw[d7 hz]at hm;rw[Cy]at hm;by_cases e:j=gf
   ·rw[d8 e]at hm;cases hm;exact .inl ⟨e,rfl,hz⟩
   ·rw[d7 e]at hm;by_cases e':j=gh
    ·rw[d8 e']at hm;cases hm;exact .inr (.inl ⟨e',rfl⟩)
    ·rw[d7 e']at hm;exact .inr (.inr ⟨e,e',hm⟩)
 have Ay:∀j m,A.get j=some m->j≠gf->∃m',Z.get j=some m'/\m'.kind=m.kind/\m'.up=m.up/\m'.links=m.links:=by
  intro j m hm hj;show ∃m',(A.unlinked gh gu).get j=some m'/\_;have key:∃m',A1.get j=some m'/\m'.kind=m.kind/\m'.up=m.up/\m'.links=m.links:=by
   rw[Cy,d7 hj];by_cases e':j=gh
   ·subst e';rw[d8 rfl];rw[hd]at hm;cases hm;exact⟨_,rfl,rfl,rfl,rfl⟩
   ·rw[d7 e'];exact⟨m,hm,rfl,rfl,rfl⟩
  obtain⟨m',q1,q2⟩:=key;refine⟨m',?_,q2⟩;rw[e2];by_cases hz:nn.links-1=0
  ·rw[d8 hz];show lk j (rm gf A1.nodes)=some m';rw[ak1 Eu];have:(j==gf)=false:=by simpa using hj
   rw[this];exact q1
  ·rw[d7 hz];exact q1
 have hlz:nn.links-1=0↔A.refs gf=1:=by omega
 have kj:one gf gf=1:=by unfold one;simp
 have hZr:∀j,Z.refs j+one j gf=A.refs j:=by
  intro j;show(A.unlinked gh gu).refs j+_=_;rw[e2];by_cases hz:nn.links-1=0
  ·rw[d8 hz];have q:=aF2 (P2 j) gf A1.nodes;have g2:lk gf A1.nodes=some {nn with links:=nn.links-1}:=by have:=Cy gf;rw[d8 rfl]at this;exact this
   rw[g2]at q;have e0:P2 j {nn with links:=nn.links-1}=0:=by unfold P2;simp only;rw[ur];rfl
   simp only[Option.map_some,Option.getD_some,e0]at q;have:=lr j;unfold AT.refs at this⊢;show P7 (P2 j) (rm gf A1.nodes)+_=_;omega
  ·rw[d7 hz];exact lr j
 -- nothing that stays gd what goes
 have Ev:nn.links-1=0->∀j m s,Z.get j=some m->lk s m.gj≠some gf:=by
  intro hz j m s hm hs;have h0:Z.refs gf=0:=by have:=hZr gf;rw[kj]at this;omega
  have ij:(C5 Z.nodes).Nodup:=by
   show(C5 (A.unlinked gh gu).nodes).Nodup;rw[e2,d8 hz];exact ai6 Eu
  have a:=aq9 (f:=P2 gf) (show lk j Z.nodes=some m from hm);have b:=aq9 (f:=one gf) hs;unfold AT.refs at h0;have:one gf gf<=P2 gf m:=b;omega
 have Az:∀k,A.isDir k->k≠1->A.upOf k≠gf:=by
  intro k hk sy e;obtain⟨s,hs⟩:=h.named hk sy;rw[e]at hs;unfold AT.find at hs;rw[ix]at hs;have hs:lk s nn.gj=some k:=hs;rw[ur]at hs;simp[lk]at hs
 have hq:=h.uq;have zt:=h.bq;have Ep:=h.ui_pos;have zr:=h.ub_pos;have hszl:=h.size_le ix;have Cz:Z.qi=A.qi/\Z.qb=A.qb/\Z.last=A.last:=by
  show(A.unlinked gh gu).qi=_/\(A.unlinked gh gu).qb=_/\(A.unlinked gh gu).last=_;rw[e2];split<;>exact⟨rfl,rfl,rfl⟩
 have rh:(nn.links-1=0->Z.ui=A.ui-1/\Z.ub=A.ub-nn.data.size)/\(nn.links-1≠0->Z.ui=A.ui/\Z.ub=A.ub):=by
  refine⟨fun hz=>?_,fun hz=>?_⟩
  ·show(A.unlinked gh gu).ui=_/\(A.unlinked gh gu).ub=_;rw[e2,d8 hz];exact⟨av9 (by omega) (by omega),av9 (by omega) (by omega)⟩
  ·show(A.unlinked gh gu).ui=_/\(A.unlinked gh gu).ub=_;rw[e2,d7 hz];exact⟨rfl,rfl⟩
 have zu:∀f:AN->Nat,(f {nd with gj:=rm gu nd.gj}=f nd)->f {nn with links:=nn.links-1}=f nn->(nn.links-1=0->P7 f Z.nodes+f nn=P7 f A.nodes)/\(nn.links-1≠0->P7 f Z.nodes=P7 f A.nodes):=by
  intro f Ew hf2;have q:=jr f;rw[Ew,hf2]at q;refine⟨fun hz=>?_,fun hz=>?_⟩
  ·show P7 f (A.unlinked gh gu).nodes+_=_;rw[e2,d8 hz];have q2:=aF2 f gf A1.nodes;have g2:lk gf A1.nodes=some {nn with links:=nn.links-1}:=by have:=Cy gf;rw[d8 rfl]at this;exact this
   rw[g2]at q2;simp only[Option.map_some,Option.getD_some,hf2]at q2;show P7 f (rm gf A1.nodes)+_=_;omega
  ·show P7 f (A.unlinked gh gu).nodes=_;rw[e2,d7 hz];omega
 show Inv Z/\Bd N Z/\((0:Int)≠0->Z=A)/\Z.qi=A.qi/\Z.qb=A.qb;refine⟨⟨?_,?_,?_,?_,?_,?_,?_,?_,?_,?_,?_,?_,?_⟩,⟨?_,?_,?_⟩,fun h=>m7 rfl h,Cz.1,Cz.2.1⟩
 ·show(C5 (A.unlinked gh gu).nodes).Nodup;rw[e2];split
  ·exact ai6 Eu
  ·exact Eu
 ·intro j m hm;rcases hZ j m hm with⟨_,rfl,_⟩|⟨_,rfl⟩|⟨_,_,hm⟩
  ·exact h.enod gf nn ix
  ·exact ai6 (h.enod gh nd hd)
  ·exact h.enod j m hm
 ·obtain⟨r,r1,r2,r3⟩:=h.root;obtain⟨m',q1,q2,q3,_⟩:=Ay 1 r r1 (fun e=>nh e.symm);exact⟨m',q1,by rw[q2,r2],by rw[q3,r3]⟩
 ·intro j m hm;rw[Cz.2.2];rcases hZ j m hm with⟨rfl,_,_⟩|⟨rfl,_⟩|⟨_,_,hm⟩
  ·exact h.low _ nn ix
  ·exact h.low _ nd hd
  ·exact h.low j m hm
 ·intro j m hm;rcases hZ j m hm with⟨_,rfl,_⟩|⟨_,rfl⟩|⟨_,_,hm⟩
  ·exact h.like gf nn ix
  ·exact h.like gh nd hd
  ·exact h.like j m hm
 ·intro j m hm hk;rcases hZ j m hm with⟨_,rfl,_⟩|⟨_,rfl⟩|⟨_,_,hm⟩
  ·exact ur
  ·exact m7 sw hk
  ·exact h.file j m hm hk
 ·intro j m s t hm hs;have un : ∃m0,A.get j=some m0/\lk s m0.gj=some t:=by
   rcases hZ j m hm with⟨rfl,rfl,_⟩|⟨rfl,rfl⟩|⟨_,_,hm⟩
   ·exact⟨nn,ix,hs⟩
   ·simp only[ak1 (h.enod j nd hd)]at hs;by_cases e:(s==gu)=true
    ·rw[d8 e]at hs;cases hs
    ·rw[d7 e]at hs;exact⟨nd,hd,hs⟩
   ·exact⟨m,hm,hs⟩
  obtain⟨m0,q1,q2⟩:=un;obtain⟨a1,a2,m1,a3,a4⟩:=h.ent j m0 s t q1 q2;refine⟨a1,a2,?_⟩;by_cases e:t=gf
  ·subst e;by_cases hz:nn.links-1=0
   ·exact m7 hs (Ev hz j m s hm)
   ·rw[ix]at a3;cases a3;have:Z.get t=some { nn with links:=nn.links - 1 }:=by
     show(A.unlinked gh gu).get t=_;rw[e2,d7 hz,Cy,d8 rfl]
    exact⟨_,this,a4⟩
  ·obtain⟨m',b1,b2,b3,_⟩:=Ay t m1 a3 e;exact⟨m',b1,fun hk=>by rw[b3];exact a4 (by rw[<-b2];exact hk)⟩
 ·intro j m hm hj;have hr:=hZr j;rcases hZ j m hm with⟨rfl,rfl,hz⟩|⟨rfl,rfl⟩|⟨xi,_,hm⟩
  ·rw[kj]at hr;refine⟨?_,by omega,fun hk=>?_⟩
   ·show nn.links-1=_;omega
   ·have:=hl3 hk;omega
  ·have:one j gf=0:=by unfold one;rw[d7 ia]
   rw[this]at hr;have:=h.links j nd hd hj;simp only at this⊢;rw[<-hr]at this;exact this
  ·have:one j gf=0:=by unfold one;rw[d7 (fun e=>xi e.symm)]
   rw[this]at hr;have:=h.links j m hm hj;rw[<-hr]at this;exact this
 ·rintro k ⟨m,hm,hk⟩
  have lv:A.isDir k/\(k≠gf):=by
   rcases hZ k m hm with⟨rfl,rfl,hz⟩|⟨rfl,rfl⟩|⟨xi,_,hm⟩
   ·exfalso;exact hz (hlz.2 (hl3 hk))
   ·exact⟨⟨nd,hd,hk⟩,ia.symm⟩
   ·exact⟨⟨m,hm,hk⟩,xi⟩
  have se:Z.deep 12 k=A.deep 12 k:=by
   refine bF1 (S:=fun k=>A.isDir k/\k≠gf) (fun k hk h1=>⟨h.isDir_up hk.1,Az k hk.1 h1⟩) (fun k hk h1=>?_) 12 k lv;obtain⟨⟨m,hm,_⟩,Ba⟩:=hk;obtain⟨m',q1,_,q3,_⟩:=Ay k m hm Ba;unfold AT.upOf;rw[hm,q1];simp[q3]
  rw[se];exact h.deep k lv.1
 ·have q:=zu (fun _=>1) rfl rfl;rw[ac7,ac7]at q;have e:=h.ui;by_cases hz:nn.links-1=0
  ·rw[(rh.1 hz).1];have:=q.1 hz;omega
  ·rw[(rh.2 hz).1];have:=q.2 hz;omega
 ·have q:=zu (fun n=>n.data.size) rfl rfl;have e:=h.ub;unfold AT.bytes at e;show Z.ub=(P7 (fun n:AN=>n.data.size) Z.nodes:Nat);by_cases hz:nn.links-1=0
  ·rw[(rh.1 hz).2];have:=q.1 hz;omega
  ·rw[(rh.2 hz).2];have:=q.2 hz;omega
 ·rw[Cz.1];by_cases hz:nn.links-1=0
  ·rw[(rh.1 hz).1];omega
  ·rw[(rh.2 hz).1];exact hq
 ·rw[Cz.2.1];by_cases hz:nn.links-1=0
  ·rw[(rh.1 hz).2];omega
  ·rw[(rh.2 hz).2];exact zt
 ·rw[Cz.2.2];exact hb.last
 ·intro j m hm;rcases hZ j m hm with⟨_,rfl,_⟩|⟨rfl,rfl⟩|⟨_,_,hm⟩
  ·show nn.links-1<=N;omega
  ·exact hb.links _ nd hd
  ·exact hb.links j m hm
 ·intro j m hm;rcases hZ j m hm with⟨_,rfl,_⟩|⟨rfl,rfl⟩|⟨_,_,hm⟩
  ·exact hb.gj _ nn ix
  ·have:=hb.gj _ nd hd;have:=(aQ4 (k:=gu) (l:=nd.gj)).length_le;show(rm gu nd.gj).length<=N;omega
  ·exact hb.gj j m hm
theorem aO5{qi qb:Int}(h:X8 qi qb=true):Inv (ax1 qi qb)/\Bd 1 (ax1 qi qb):=by
 have hq:1<=qi/\qi<=1048576/\0<=qb/\qb<=1073741824:=by
  unfold X8 at h;simp at h;omega
 have hg:∀i n,(ax1 qi qb).get i=some n->i=1/\n=⟨2,493,⟨⟨[]⟩⟩,1,1,[]⟩:=by
  intro i n hn;have hn:lk i [((1:Int),(⟨2,493,⟨⟨[]⟩⟩,1,1,[]⟩:AN))]=some n:=hn;simp only[lk]at hn;cases hb:(i==1) with
  |true=>rw[hb]at hn;cases hn;exact⟨by simpa using hb,rfl⟩
  |false=>rw[hb]at hn;cases hn
 refine⟨⟨?_,?_,?_,?_,?_,?_,?_,?_,?_,rfl,rfl,⟨hq.1,hq.2.1⟩,⟨hq.2.2.1,hq.2.2.2⟩⟩,⟨?_,?_,?_⟩⟩
 ·show [(1:Int)].Nodup;simp
 ·intro i n hn;obtain⟨_,rfl⟩:=hg i n hn;exact List.nodup_nil
 ·exact⟨_,rfl,rfl,rfl⟩
 ·intro i n hn;obtain⟨rfl,rfl⟩:=hg i n hn;show(1:Int)<=1/\(1:Int)<=1;omega
 ·intro i n hn;obtain⟨_,rfl⟩:=hg i n hn;rfl
 ·intro i n hn;obtain⟨_,rfl⟩:=hg i n hn;intro _;rfl
 ·intro i n s j hn hs;obtain⟨_,rfl⟩:=hg i n hn;simp[lk]at hs
 ·intro i n hn h1;exact m7 (hg i n hn).1 h1
 ·rintro i ⟨n,hn,_⟩;obtain⟨rfl,_⟩:=hg i n hn;exact⟨1,rfl⟩
 ·show(1:Int)<=(1:Nat);omega
 ·intro i n hn;obtain⟨_,rfl⟩:=hg i n hn;show(1:Int)<=(1:Nat);omega
 ·intro i n hn;obtain⟨_,rfl⟩:=hg i n hn;show(0:Nat)<=1;omega
end
section
theorem Tr.may_eq(t:Tr):t.may=if t.kind=1 then t.gn.isEmpty else if t.kind=3 then t.gn.isEmpty&&(!t.exec&&Z9 t.data)else if t.kind=2 then !t.exec&&(E8 t.data ⟨⟨[]⟩⟩&&Tr.mayRow none t.gn)else false:=by
 obtain⟨n,k,e,d,gn⟩:=t;rw[Tr.may];rfl
mutual
def bw3(A:AT):Tr->Int->Prop
 |.mk _ k e d gn,i=>∃n,A.get i=some n/\n.kind=k/\n.mode=bX6 k e/\n.data=d/\n.links=1/\C5 n.gj=gn.map Tr.gu/\aA3 A i n.gj gn
def aA3(A:AT)(i:Int)(es:List (d9×Int)):List Tr->Prop
 | []=>True
 |t::r=>(∃j,i<j/\lk t.gu es=some j/\bw3 A t j)/\aA3 A i es r
end
theorem bX8{A:AT}{t:Tr}{i:Int}:bw3 A t i ↔ ∃n,A.get i=some n/\n.kind=t.kind/\n.mode=bX6 t.kind t.exec/\n.data=t.data/\n.links=1/\C5 n.gj=t.gn.map Tr.gu/\aA3 A i n.gj t.gn:=by
 obtain⟨nm,k,e,d,gn⟩:=t;simp only[bw3,Tr.kind,Tr.exec,Tr.data,Tr.gn]
theorem bk7{A:AT}{i:Int}{es:List (d9×Int)}:∀ {l:List Tr},aA3 A i es l ↔ ∀x∈l,∃j,i<j/\lk x.gu es=some j/\bw3 A x j:=by
 intro l
 induction l with
 |nil=>simp[aA3]
 |cons y r ih=>simp only[aA3,ih,G9,forall_eq_or_imp]
theorem bw3.frame{A A':AT}:∀ (t:Tr) (i:Int),bw3 A t i->(∀k n,i<=k->A.get k=some n->A'.get k=some n)->bw3 A' t i:=by
 refine Tr.ind ?_;intro t ih i h hf;rw[bX8]at h⊢;obtain⟨n,h1,h2,h3,h4,h5,h6,h7⟩:=h;refine⟨n,hf i n (Int.le_refl _) h1,h2,h3,h4,h5,h6,?_⟩;rw[bk7]at h7⊢;intro x hx;obtain⟨j,q1,q2,q3⟩:=h7 x hx;exact⟨j,q1,q2,ih x hx j q3 fun k n hk hn=>hf k n (by omega) hn⟩
end
section
structure aj0(N:Nat)(A:AT)(r:Int×AT):Prop where
 inv:Inv r.2
 bd:Bd N r.2
 same:r.1≠0->r.2=A
 qi:r.2.qi=A.qi
 qb:r.2.qb=A.qb
variable {A:AT} {N:Nat}
theorem aj0.self(h:Inv A)(hb:Bd N A)(e:Int):aj0 N A (e,A):=⟨h,hb,fun _=>rfl,rfl,rfl⟩
theorem aj0.mono{M:Nat}{r:Int×AT}(h:aj0 N A r)(hl:N<=M):aj0 M A r:=⟨h.inv,h.bd.mono hl,h.same,h.qi,h.qb⟩
theorem bd7(h:Inv A)(hb:Bd N A)(hN:N<4611686018427387904){gh:Int}{gu:d9}{kind mode:Int}{data:d9}(hs:data.size<4611686018427387904)(vj:A.isDir gh->kind=2->∃d,A.deep 11 gh=some d):aj0 (N+1) A ((A.makeR gh gu kind mode data).2.1,(A.makeR gh gu kind mode data).2.2):=by
 obtain⟨h1,h2,h3⟩:=bk6 (gh:=gh) (gu:=gu) (kind:=kind) (mode:=mode) (data:=data) h hb hN hs vj;refine⟨h1,h2,fun he=>?_,h3.qi,h3.qb⟩;by_cases my:A.makeE gh gu kind mode data=0
 ·rw[aO3 my]at he;exact m7 rfl he
 ·rw[aO4 my]
theorem ah3(h:Inv A)(hb:Bd N A)(hN:N<4611686018427387904)(gb gc:d9):aj0 (N+1) A (A.mkdirF gb gc):=by
 unfold AT.mkdirF;simp only;by_cases h1:(A.freshP gb gc).1≠0
 ·rw[d8 h1];exact aj0.self h (hb.mono (by omega)) _
 rw[d7 h1];by_cases h2:(A.deep 13 (A.freshP gb gc).2.gh).getD 0>=12
 ·rw[d8 h2];exact aj0.self h (hb.mono (by omega)) _
 rw[d7 h2];refine bd7 h hb hN (by decide) fun hd _=>?_;obtain⟨d,pg,kl,_⟩:=h.deep13 hd;rw[pg]at h2;simp only[Option.getD_some]at h2;exact⟨d,at1 kl 11 (by omega)⟩
theorem ae6(h:Inv A)(hb:Bd N A)(hN:N<4611686018427387904)(gb target gc:d9):aj0 (N+1) A (A.symlinkF gb target gc):=by
 unfold AT.symlinkF;simp only;cases hl:Z9 target with
 |false=>exact aj0.self h (hb.mono (by omega)) _
 |true =>
  simp only[Bool.true_eq_false,if_false];by_cases h1:(A.freshP gb gc).1≠0
  ·rw[d8 h1];exact aj0.self h (hb.mono (by omega)) _
  rw[d7 h1];refine bd7 h hb hN ?_ (fun _ hk=>by cases hk);unfold Z9 at hl;simp only[J4,I6]at hl;omega
theorem ah4(h:Inv A)(hb:Bd N A)(hN:N<4611686018427387904)(gb gc data:d9)(more:Bool)(hs:data.size<2305843009213693952):aj0 (N+1) A (A.writeF gb gc data more):=by
 unfold AT.writeF;simp only;by_cases h1:(A.locate gb gc true).1≠0
 ·rw[d8 h1];exact aj0.self h (hb.mono (by omega)) _
 rw[d7 h1];by_cases h2:(A.locate gb gc true).2.there=false
 ·rw[d8 h2];exact bd7 h hb hN (by omega) (fun _ hk=>by cases hk)
 rw[d7 h2];by_cases h3:A.kind (A.locate gb gc true).2.gf=2
 ·rw[d8 h3];exact aj0.self h (hb.mono (by omega)) _
 rw[d7 h3]
 obtain⟨a,b,c,d,e⟩:=aX7 h hb (A.locate gb gc true).2.gf (if more then A.data (A.locate gb gc true).2.gf++data else data) (by
  have hq:=h.bq;cases more with
  |false=>simp only[D2,if_false];omega
  |true =>
   simp only[if_true,D8];have:(A.data (A.locate gb gc true).2.gf).size<=1073741824:=by
    unfold AT.data;cases hg:A.get (A.locate gb gc true).2.gf with
    |none=>decide
    |some n=>have:=h.size_le hg;show n.data.size<=_;omega
   omega)
 exact⟨a,b.mono (by omega),c,d,e⟩
theorem ak7(h:Inv A)(hb:Bd N A)(gb gc:d9)(mode:Int):aj0 N A (A.chmodF gb gc mode):=by
 unfold AT.chmodF;simp only;split
 ·exact aj0.self h hb _
 split
 ·exact aj0.self h hb _
 obtain⟨a,b,c,d,e⟩:=aX8 h hb (A.with_ gb gc true).2.1 mode;exact⟨a,b,c,d,e⟩
theorem ag8(h:Inv A)(hb:Bd N A)(hN:N<4611686018427387904)(gb gc:d9):aj0 N A (A.removeF gb gc):=by
 unfold AT.removeF;simp only;split
 ·exact aj0.self h hb _
 split
 ·exact aj0.self h hb _
 split
 ·exact aj0.self h hb _
 split
 ·exact aj0.self h hb _
 obtain⟨a,b,c,d,e⟩:=ap5 h hb hN (A.locate gb gc false).2.gh (A.locate gb gc false).2.gu;exact⟨a,b,c,d,e⟩
end
section
theorem aQ6{c:J3}{b:List J3}:∀a:List J3,P6 c (a++c::b)=P6 c a++P6 c b:=by
 intro a
 induction a with
 |nil=>simp[P6]
 |cons x a ih =>
  simp only[ag0,P6];cases (x==c) with
  |true=>simp[ih]
  |false =>
   simp only[ih];cases hs:P6 c a with
   |nil=>exact m7 hs (bK8 a)
   |cons h t=>simp
theorem al9(a b:d9):(a++b).data.toList=a.data.toList++b.data.toList:=by rw[ByteArray.data_append,af9]
theorem aM4{s:d9}(h:X6 s=false):(47:J3)∉s.data.toList/\(0:J3)∉s.data.toList:=by
 unfold X6 at h;rw[List.any_eq_false]at h;exact⟨fun hm=>h 47 hm (by decide),fun hm=>h 0 hm (by decide)⟩
theorem bL1{n:d9}(h:W1 n):S8 n=true:=by
 unfold S8;rw[aa9 h.1,aa9 h.2.1];rfl
def sub(p n:d9):d9:=(p++⟨⟨[47]⟩⟩)++n
theorem ay0(p n:d9):(sub p n).data.toList=p.data.toList++47::n.data.toList:=by
 unfold sub;rw[al9,al9,U7];rfl
theorem aA4{p n:d9}(h:W1 n):N1 (sub p n)=N1 p++[n]:=by
 have ym:=(aM4 h.2.2).1;unfold N1;rw[ay0,aQ6,ax7 ym,List.map_append,List.filter_append]
 congr 1
 show List.filter S8 [n]=[n];simp[bL1 h]
theorem bF3{p n:d9}(h:W1 n)(hp:W6 p=false):W6 (sub p n)=false:=by
 have h0:=(aM4 h.2.2).2;unfold W6 at hp⊢;rw[ay0,List.any_append,hp,List.any_cons,R0];rw[Bool.or_eq_false_iff];refine⟨by decide,?_⟩;rw[List.any_eq_false];intro x hx hb;have:x=0:=by simpa using hb
 subst this;exact h0 hx
theorem bX9{p n:d9}{c:J3}(hp:C8 c p=true):C8 c (sub p n)=true:=by
 unfold C8 at hp⊢;rw[ay0];cases hl:p.data.toList with
 |nil=>rw[hl]at hp;cases hp
 |cons x r=>rw[hl]at hp;exact hp
def bk8(A:AT):Int->List d9->Int->Prop
 |d,[],i=>d=i
 |d,n::r,i=>A.kind d=2/\∃j,A.find d n=some j/\bk8 A j r i
theorem bk8.snoc{A:AT}{n:d9}{i j:Int}:∀ {l:List d9} {d:Int},bk8 A d l i->A.kind i=2->A.find i n=some j->bk8 A d (l++[n]) j:=by
 intro l
 induction l with
 |nil=>intro d h h1 h2;have h:d=i:=h;subst h;exact⟨h1,j,h2,rfl⟩
 |cons x r ih =>
  intro d h h1 h2;obtain⟨a,k,b,c⟩:=h;exact⟨a,k,b,ih c h1 h2⟩
def W2(n:d9):Prop:=n≠⟨⟨[46,46]⟩⟩/\n.size<=56
structure aI9(A:AT)(p:d9)(i:Int):Prop where
 head:C8 47 p=true
 nul:W6 p=false
 chain:bk8 A 1 (N1 p) i
 gd:∀n∈N1 p,W2 n
theorem aI9.sub{A:AT}{p n:d9}{i j:Int}(h:aI9 A p i)(hk:A.kind i=2)(hf:A.find i n=some j)(hn:ar0 n=true):aI9 A (Wk.sub p n) j:=by
 unfold ar0 at hn;simp only[J4,I6,Bool.not_eq_true']at hn;obtain⟨h1,h2,h3,h4,h5⟩:=hn;have ia:n≠⟨⟨[]⟩⟩:=by intro e;rw[e]at h1;exact m7 h1 (by decide)
 have yn:n≠⟨⟨[46]⟩⟩:=by intro e;rw[e]at h4;exact m7 h4 (by decide)
 have yo:n≠⟨⟨[46,46]⟩⟩:=by intro e;rw[e]at h5;exact m7 h5 (by decide)
 have jb:W1 n:=⟨ia,yn,h3⟩;refine⟨bX9 h.head,bF3 jb h.nul,?_,?_⟩
 ·rw[aA4 jb];exact h.chain.snoc hk hf
 ·rw[aA4 jb];intro m hm;rcases Q4.1 hm with hm|hm
  ·exact h.gd m hm
  ·simp at hm;subst hm;exact⟨yo,h2⟩
theorem bL2{p:d9}{c:J3}(h:C8 c p=true):E8 p ⟨⟨[]⟩⟩=false:=by
 refine aa9 ?_;intro e;rw[e]at h;cases h
end
end Go.Wk

set_option maxRecDepth 100000
namespace Go.Wk
open Go Go.HL
structure Dn where
 out:d9
 err:d9
 st:Int
def Dn.z:Dn:=⟨⟨⟨[]⟩⟩,⟨⟨[]⟩⟩,0⟩
def ad4(nm:d9):Dn:=⟨⟨⟨[]⟩⟩,nm++⟨⟨[58,32,117,115,97,103,101,10]⟩⟩,2⟩
def dig(c:J3):Bool:=Nat.ble 48 c.toNat&&Nat.ble c.toNat 57
def cv9:List J3->Nat->Nat
 | [],n=>n
 |c::r,n=>cv9 r (10*n+(c.toNat-48))
def cw0(l:List J3):List J3:=match l with
 | []=>[]
 |c::r=>if c==45 then r else c::r
def cw1(s:d9):Option Int :=
 let l:=s.data.toList
 let n:=cw0 l
 if n.isEmpty||(decide (n.length>15) || !n.all dig)then none else some (if C8 45 s then -(cv9 n 0:Int)else(cv9 n 0:Int))
structure Pc where
 text:d9
 kind:J3
 width:Nat
 left:Bool
def bY0(c:Nat):J3:=if c<10 then 48+UInt8.ofNat c else 87+UInt8.ofNat c
def cw2(base:Nat):Nat->Nat->List J3->List J3
 |0,_,acc=>acc
 |f+1,n,acc=>if n<base then bY0 n::acc else cw2 base f (n/base) (bY0 (n%base)::acc)
def aV8(base:Nat)(n:Int):d9:=⟨⟨if n<0 then 45::cw2 base 64 n.natAbs []else cw2 base 64 n.natAbs []⟩⟩
structure PS where
 args:List d9
 took:Bool
 err:d9
 st:Int
 out:d9
def PS.a0(s:PS):d9:=match s.args with
 | []=>⟨⟨[]⟩⟩
 |a::_=>a
def PS.next(s:PS):PS:={s with took:=true,args:=s.args.drop 1}
def de3(nm a:d9):d9:=nm++⟨⟨[58,32]⟩⟩++a++⟨⟨[58,32,50,10]⟩⟩
def PS.num(nm:d9)(s:PS):PS:=match cw1 s.a0 with
 |some _=>s.next
 |none=>if s.args.isEmpty then s.next else {s.next with err:=s.err++de3 nm s.a0,st:=1}
def bY1(n:Nat):d9:=⟨⟨List.replicate n 32⟩⟩
def PS.put(s:PS)(p:Pc)(x:d9):PS:={s with out:=s.out++(if p.left then x++bY1 (p.width-x.size)else bY1 (p.width-x.size)++x)}
def N4(l:List J3):List J3:=(l.reverse.dropWhile (· == 47)).reverse
def bY2(s:d9):d9:=⟨⟨N4 s.data.toList⟩⟩
def aJ0(l:List J3):List J3:=(l.reverse.dropWhile (fun c=>!(c==47))).reverse
def ag9(l:List J3):List J3:=(l.reverse.takeWhile (fun c=>!(c==47))).reverse
theorem cw3{a b:d9}(h:a≠b):E8 a b=false:=by
 cases hs:E8 a b with
 |false=>rfl
 |true=>exact m7 (J9.1 hs) h
def pS(w:Nat)(l:Bool):Pc:=⟨⟨⟨[]⟩⟩,115,w,l⟩
section
variable (A:AT) (gb:d9) {s t:d9} {x y:Int}
end
end Go.Wk

