/- A part of a proof. -/
import Derived.Test.YtikedigonnlbkaaGreatDoorSbb
import Derived.RecoverIn
import Derived.Test.YtikedigonnlbkaaGreatDoorProg
import Derived.KernelRfl
import Derived.Test.YtikedigonnlbkaaGreatDoorChecked
set_option maxRecDepth 100000
namespace Go.Wk
open Go Go.HL
section
def aY6:Pl:=⟨1,⟨⟨[]⟩⟩,1,true⟩
theorem bx3(A:AT):A.walk 10 1 ⟨⟨[47]⟩⟩ true 8=(0,aY6,8):=by
 rw[AT.walk];have h1:ab1 ⟨⟨[47]⟩⟩=0:=by decide +kernel
 have h2:C8 47 ⟨⟨[47]⟩⟩=true:=by decide +kernel
 have h3:N1 ⟨⟨[47]⟩⟩=[]:=by decide +kernel
 rw[h1,h2,h3];rfl
def bgT(qi qb:Int):AT :=
 let A:=ax1 qi qb
 let A:=(A.mkdirF ⟨⟨[47]⟩⟩ ⟨⟨[100]⟩⟩).2
 let A:=(A.mkdirF ⟨⟨[47]⟩⟩ ⟨⟨[100,47,115]⟩⟩).2
 let A:=(A.writeF ⟨⟨[47]⟩⟩ ⟨⟨[100,47,102]⟩⟩ ⟨⟨[104,105]⟩⟩ false).2
 let A:=(A.writeF ⟨⟨[47]⟩⟩ ⟨⟨[100,47,115,47,103]⟩⟩ ⟨⟨[114,117,110]⟩⟩ false).2
 let A:=(A.chmodF ⟨⟨[47]⟩⟩ ⟨⟨[100,47,115,47,103]⟩⟩ 493).2
 let A:=(A.symlinkF ⟨⟨[47]⟩⟩ ⟨⟨[100]⟩⟩ ⟨⟨[108]⟩⟩).2
 (A.symlinkF ⟨⟨[47]⟩⟩ ⟨⟨[110,111,110,101]⟩⟩ ⟨⟨[109]⟩⟩).2
def tlL(r:List J3):List J3:=r.flatMap fun c=>[47,c]
def pL(r:List J3):List J3:=110::101::119::tlL r
def pB(r:List J3):d9:=⟨⟨pL r⟩⟩
def nB(r:List J3):List d9:=r.map fun c=>(⟨⟨[c]⟩⟩:d9)
def okR(r:List J3):Prop:=∀c∈r,c≠47/\c≠0/\c≠46
def rt:d9:=⟨⟨[47]⟩⟩
theorem cx0{κ α:Type} [BEq κ] {k:κ}{v:α}:∀ {a b:List (κ×α)},lk k a=none->up k v (a++b)=a++up k v b:=by
 intro a
 induction a with
 |nil=>intro b _;rfl
 |cons x a ih =>
  intro b h;obtain⟨j,w⟩:=x;have h':(match k==j with|true=>some w|false=>lk k a:Option α)=none:=h;cases hj:k==j with
  |true=>rw[hj]at h';cases h'
  |false =>
   rw[hj]at h';show(match k==j with|true=>(k,v)::(a++b)|false=>(j,w)::up k v (a++b))=_;rw[hj,ih h'];rfl
def mkN:d9:=⟨⟨[109,107,100,105,114]⟩⟩
def rmN:d9:=⟨⟨[114,109,100,105,114]⟩⟩
def aQ1:d9:=⟨⟨[48]⟩⟩
inductive NT where
 |mk (gu:d9) (gf kind mode:Int) (data:d9) (gn:List NT)
def NT.gu:NT->d9|.mk n _ _ _ _ _=>n
def NT.gf:NT->Int|.mk _ i _ _ _ _=>i
def NT.kind:NT->Int|.mk _ _ k _ _ _=>k
def NT.mode:NT->Int|.mk _ _ _ m _ _=>m
def NT.data:NT->d9|.mk _ _ _ _ d _=>d
def NT.gn:NT->List NT|.mk _ _ _ _ _ l=>l
def NT.ent(t:NT):d9×Int:=(t.gu,t.gf)
mutual
def NT.toks:NT->List (Int×Nat)
 |.mk _ i _ _ d gn=>(i,d.size)::NT.toksRow gn
def NT.toksRow:List NT->List (Int×Nat)
 | []=>[]
 |t::r=>NT.toks t++NT.toksRow r
end
theorem NT.toks_eq(t:NT):t.toks=(t.gf,t.data.size)::NT.toksRow t.gn:=by obtain⟨n,i,k,m,d,l⟩:=t;rfl
theorem NT.toksRow_app(a b:List NT):NT.toksRow (a++b)=NT.toksRow a++NT.toksRow b:=by
 induction a with
 |nil=>rfl
 |cons t r ih=>simp only[ag0,NT.toksRow,ih,U7]
def NT.inos(t:NT):List Int:=t.toks.map (·.1)
def NT.inosRow(l:List NT):List Int:=(NT.toksRow l).map (·.1)
theorem NT.inos_eq(t:NT):t.inos=t.gf::NT.inosRow t.gn:=by unfold NT.inos NT.inosRow;rw[NT.toks_eq];rfl
theorem NT.inosRow_cons(t:NT)(r:List NT):NT.inosRow (t::r)=t.inos++NT.inosRow r:=by unfold NT.inos NT.inosRow;rw[NT.toksRow,List.map_append]
theorem NT.inosRow_mem{i:Int}{l:List NT}:i∈NT.inosRow l ↔ ∃t∈l,i∈t.inos:=by
 induction l with
 |nil=>simp[NT.inosRow,NT.toksRow]
 |cons t r ih=>rw[NT.inosRow_cons,Q4,ih];simp
def bM2(l:List (Int×Nat)):Nat:=l.foldr (fun x n=>x.2+n) 0
theorem aY7{a b:List (Int×Nat)}(h:a.Perm b):bM2 a=bM2 b:=by
 induction h with
 |nil=>rfl
 |cons x _ ih=>show x.2+_=x.2+_;exact J7 _ ih
 |swap x y l=>show y.2+(x.2+_)=x.2+(y.2+_);omega
 |trans _ _ h1 h2=>exact h1.trans h2
theorem NT.toks_kid{t x:NT}(h:x∈t.gn):x.toks.length<t.toks.length:=by
 rw[NT.toks_eq t];have key:∀l:List NT,x∈l->x.toks.length<=(NT.toksRow l).length:=by
  intro l
  induction l with
  |nil=>intro h;cases h
  |cons y r ih =>
   intro h;rw[NT.toksRow,P3];rcases G9.1 h with e|e
   ·subst e;omega
   ·have:=ih e;omega
 have:=key t.gn h;rw[H4];omega
theorem NT.ind{P:NT->Prop}(h:∀t,(∀x∈t.gn,P x)->P t)(t:NT):P t:=by
 have key:∀ (n:Nat) (t:NT),t.toks.length<n->P t:=by
  intro n
  induction n with
  |zero=>intro t h;omega
  |succ n ih=>intro t ht;exact h t fun x hx=>ih x (by have:=NT.toks_kid hx;omega)
 exact key _ t (Nat.lt_succ_self _)
theorem NT.ino_mem(t:NT):t.gf∈t.inos:=by rw[NT.inos_eq];exact H7 ..
theorem NT.inos_kid{t x:NT}(h:x∈t.gn){i:Int}(hi:i∈x.inos):i∈t.inos:=by
 rw[NT.inos_eq];exact E4 _ (NT.inosRow_mem.2 ⟨x,h,hi⟩)
mutual
def Sub(A:AT)(up:Int):NT->Prop
 |.mk _ i k m d gn=>(∃es,A.get i=some ⟨k,m,d,1,if k==2 then up else 0,es⟩/\es.Perm (gn.map NT.ent))/\(k≠2->gn=[])/\aR6 A i gn
def aR6(A:AT)(up:Int):List NT->Prop
 | []=>True
 |t::r=>Sub A up t/\aR6 A up r
end
def NT.node(t:NT)(up:Int)(es:List (d9×Int)):AN:=⟨t.kind,t.mode,t.data,1,if t.kind==2 then up else 0,es⟩
theorem bx4{A:AT}{up:Int}:∀ {l:List NT},aR6 A up l ↔ ∀x∈l,Sub A up x:=by
 intro l
 induction l with
 |nil=>simp[aR6]
 |cons t r ih=>simp only[aR6,ih,G9,forall_eq_or_imp]
theorem al2{A:AT}{up:Int}{t:NT}:Sub A up t↔(∃es,A.get t.gf=some (t.node up es)/\es.Perm (t.gn.map NT.ent))/\(t.kind≠2->t.gn=[])/\∀x∈t.gn,Sub A t.gf x:=by
 obtain⟨n,i,k,m,d,l⟩:=t;rw[Sub,bx4];rfl
theorem Sub.frame{A A':AT}:∀ (t:NT) {up:Int},Sub A up t->(∀i∈t.inos,A'.get i=A.get i)->Sub A' up t:=by
 intro t;refine NT.ind (P:=fun t=>∀ {up:Int},Sub A up t->(∀i∈t.inos,A'.get i=A.get i)->Sub A' up t) ?_ t;intro t ih up h hf;rw[al2]at h⊢;exact⟨by rw[hf _ t.ino_mem];exact h.1,h.2.1,fun x hx=>ih x hx (h.2.2 x hx) fun i hi=>hf i (NT.inos_kid hx hi)⟩
theorem Sub.get{A:AT}{up:Int}{t:NT}(h:Sub A up t):∃es,A.get t.gf=some (t.node up es)/\es.Perm (t.gn.map NT.ent):=(al2.1 h).1
theorem Sub.kid{A:AT}{up:Int}{t x:NT}(h:Sub A up t)(hx:x∈t.gn):Sub A t.gf x:=(al2.1 h).2.2 x hx
theorem Sub.kind{A:AT}{up:Int}{t:NT}(h:Sub A up t):A.kind t.gf=t.kind:=by
 obtain⟨es,h1,_⟩:=h.get;unfold AT.kind;rw[h1];rfl
theorem Sub.dir_of{A:AT}{up:Int}{t x:NT}(h:Sub A up t)(hx:x∈t.gn):t.kind=2:=by
 by_cases hk:t.kind=2
 ·exact hk
 ·rw[(al2.1 h).2.1 hk]at hx;cases hx
theorem Sub.has{A:AT}:∀ (t:NT) {up:Int},Sub A up t->∀i∈t.inos,∃n,A.get i=some n:=by
 intro t;refine NT.ind (P:=fun t=>∀ {up:Int},Sub A up t->∀i∈t.inos,∃n,A.get i=some n) ?_ t;intro t ih up h i hi;rw[NT.inos_eq]at hi;rcases G9.1 hi with e|e
 ·subst e;obtain⟨es,h1,_⟩:=h.get;exact⟨_,h1⟩
 ·obtain⟨x,hx,hi⟩:=NT.inosRow_mem.1 e;exact ih x hx (h.kid hx) i hi
mutual
def NT.addK(d:Int)(x:NT):NT->NT
 |.mk n i k m dt gn=>.mk n i k m dt (if i=d then NT.addKR d x gn++[x]else NT.addKR d x gn)
def NT.addKR(d:Int)(x:NT):List NT->List NT
 | []=>[]
 |t::r=>NT.addK d x t::NT.addKR d x r
end
theorem NT.addKR_map(d:Int)(x:NT)(l:List NT):NT.addKR d x l=l.map (NT.addK d x):=by
 induction l with
 |nil=>rfl
 |cons t r ih=>rw[NT.addKR,ih];rfl
theorem NT.addk_eq(d:Int)(x t:NT):NT.addK d x t=.mk t.gu t.gf t.kind t.mode t.data (if t.gf=d then t.gn.map (NT.addK d x)++[x]else t.gn.map (NT.addK d x)):=by
 obtain⟨n,i,k,m,dt,l⟩:=t;rw[NT.addK,NT.addKR_map];rfl
theorem NT.addk_ent(d:Int)(x t:NT):(NT.addK d x t).ent=t.ent:=by rw[NT.addk_eq];rfl
theorem NT.addk_not{d:Int}{x:NT}:∀t:NT,d∉t.inos->NT.addK d x t=t:=by
 intro t;refine NT.ind (P:=fun t=>d∉t.inos->NT.addK d x t=t) ?_ t;intro t ih h;have h1:t.gf≠d:=fun e=>h (e ▸ t.ino_mem);have h2:t.gn.map (NT.addK d x)=t.gn:=by
  conv=>rhs;rw[<-List.map_id t.gn]
  refine List.map_congr_left fun y hy=>?_;exact ih y hy fun hd=>h (NT.inos_kid hy hd)
 rw[NT.addk_eq,d7 h1,h2];obtain⟨n,i,k,m,dt,l⟩:=t
 rfl
theorem bM3{l:List NT}(h:(NT.inosRow l).Nodup):∀x∈l,x.inos.Nodup:=by
 induction l with
 |nil=>intro x hx;cases hx
 |cons t r ih =>
  rw[NT.inosRow_cons]at h;obtain⟨h1,h2,_⟩:=List.nodup_append.1 h;intro x hx;rcases G9.1 hx with e|e
  ·subst e;exact h1
  ·exact ih h2 x e
theorem aD3{t:NT}(h:t.inos.Nodup):t.gf∉NT.inosRow t.gn/\(NT.inosRow t.gn).Nodup:=by
 rw[NT.inos_eq]at h;exact List.nodup_cons.1 h
theorem Sub.add{A A':AT}{d:Int}{x:NT}{nd:AN}(hd:A.get d=some nd)(hk:nd.kind=2){es':List (d9×Int)}(ku:A'.get d=some {nd with gj:=es' })(Bf:es'.Perm (nd.gj++[x.ent]))(hx:Sub A' d x):∀ (t:NT) {up:Int},Sub A up t->t.inos.Nodup->(∀i∈t.inos,i≠d->A'.get i=A.get i)->Sub A' up (NT.addK d x t):=by
 intro t;refine NT.ind (P:=fun t=>∀ {up:Int},Sub A up t->t.inos.Nodup->(∀i∈t.inos,i≠d->A'.get i=A.get i)->Sub A' up (NT.addK d x t)) ?_ t;intro t ih up h hn hf;obtain⟨n1,n2⟩:=aD3 hn;have Fc:∀y∈t.gn,Sub A' t.gf (NT.addK d x y):=fun y hy=>ih y hy (h.kid hy) (bM3 n2 y hy) fun i hi ia=>hf i (NT.inos_kid hy hi) ia;have hm:(t.gn.map (NT.addK d x)).map NT.ent=t.gn.map NT.ent:=by
  rw[List.map_map];exact List.map_congr_left fun y _=>NT.addk_ent d x y
 rw[NT.addk_eq];by_cases e:t.gf=d
 ·rw[d8 e];obtain⟨es,hg,hes0⟩:=h.get;rw[e,hd]at hg;have ij:nd=t.node up es:=Option.some.inj hg;have jc:t.kind=2:=by rw[ij]at hk;exact hk
  rw[al2];refine⟨?_,fun nv=>m7 jc nv,?_⟩
  ·refine⟨es',?_,?_⟩
   ·show A'.get t.gf=some (⟨t.kind,t.mode,t.data,1,if t.kind==2 then up else 0,es'⟩:AN);rw[e,ku,ij];rfl
   ·show es'.Perm ((t.gn.map (NT.addK d x)++[x]).map NT.ent);rw[List.map_append,hm];rw[ij]at Bf;exact Bf.trans (List.Perm.append_right _ hes0)
  ·intro y hy;rcases Q4.1 hy with hy|hy
   ·obtain⟨z,hz,rfl⟩:=K0.1 hy;exact Fc z hz
   ·rw[T9]at hy;subst hy;show Sub A' t.gf y;rw[e];exact hx
 ·rw[d7 e,al2];refine⟨?_,fun nv=>?_,?_⟩
  ·obtain⟨es,h1,h2⟩:=h.get;refine⟨es,?_,?_⟩
   ·show A'.get t.gf=some (⟨t.kind,t.mode,t.data,1,if t.kind==2 then up else 0,es⟩:AN);rw[hf _ t.ino_mem e,h1];rfl
   ·show es.Perm ((t.gn.map (NT.addK d x)).map NT.ent);rw[hm];exact h2
  ·show t.gn.map (NT.addK d x)=[];rw[(al2.1 h).2.1 nv];rfl
  ·intro y hy;obtain⟨z,hz,rfl⟩:=K0.1 hy;exact Fc z hz
theorem NT.addk_toks{d:Int}{x:NT}:∀t:NT,t.inos.Nodup->d∈t.inos->(NT.addK d x t).toks.Perm (x.toks++t.toks):=by
 intro t;refine NT.ind (P:=fun t=>t.inos.Nodup->d∈t.inos->(NT.addK d x t).toks.Perm (x.toks++t.toks)) ?_ t;intro t ih hn hd;obtain⟨n1,n2⟩:=aD3 hn;rw[NT.addk_eq,NT.toks_eq t];by_cases e:t.gf=d
 ·rw[d8 e];have h2:t.gn.map (NT.addK d x)=t.gn:=by
   conv=>rhs;rw[<-List.map_id t.gn]
   refine List.map_congr_left fun y hy=>?_;exact NT.addk_not y fun hd=>n1 (e ▸ NT.inosRow_mem.2 ⟨y,hy,hd⟩)
  rw[h2];show((t.gf,t.data.size)::NT.toksRow (t.gn++[x])).Perm _;rw[NT.toksRow_app];show((t.gf,t.data.size)::(NT.toksRow t.gn++(x.toks++[]))).Perm _;rw[ac3];exact(List.Perm.cons _ List.perm_append_comm).trans List.perm_middle.symm
 ·rw[d7 e];rw[NT.inos_eq]at hd;have ku:d∈NT.inosRow t.gn:=by
   rcases G9.1 hd with h|h
   ·exact m7 h.symm e
   ·exact h
  show((t.gf,t.data.size)::NT.toksRow (t.gn.map (NT.addK d x))).Perm _;have key:∀l:List NT,(∀y∈l,y∈t.gn)->(NT.inosRow l).Nodup->d∈NT.inosRow l->(NT.toksRow (l.map (NT.addK d x))).Perm (x.toks++NT.toksRow l):=by
   intro l
   induction l with
   |nil=>intro _ _ h;cases h
   |cons y r ihl =>
    intro hl hn hd;rw[NT.inosRow_cons]at hn hd;obtain⟨m1,m2,m3⟩:=List.nodup_append.1 hn;rw[H5,NT.toksRow,NT.toksRow];rcases Q4.1 hd with hy|hy
    ·have hr : r.map (NT.addK d x) = r := by
      conv=>rhs;rw[<-List.map_id r]
      refine List.map_congr_left fun z hz=>?_;exact NT.addk_not z fun hd=>m3 d hy d (NT.inosRow_mem.2 ⟨z,hz,hd⟩) rfl
     rw[hr];have:=ih y (hl y (H7 ..)) m1 hy;exact(List.Perm.append_right _ this).trans (by rw[U7])
    ·have pq:NT.addK d x y=y:=NT.addk_not y fun hd=>m3 d hd d hy rfl;rw[pq];have:=ihl (fun z hz=>hl z (E4 _ hz)) m2 hy;refine(List.Perm.append_left _ this).trans ?_;rw[<-U7,<- U7];exact List.Perm.append_right _ List.perm_append_comm
  exact(List.Perm.cons _ (key t.gn (fun _ h=>h) n2 ku)).trans List.perm_middle.symm
def NT.at:NT->List d9->NT->Prop
 |t,[],s=>s=t
 |t,w::ws,s=>∃k∈t.gn,k.gu=w/\NT.at k ws s
theorem NT.at_toks{s:NT}:∀ {ws:List d9} {t:NT},NT.at t ws s->∀i∈s.inos,i∈t.inos:=by
 intro ws
 induction ws with
 |nil=>intro t h;have h:s=t:=h;subst h;exact fun _ h=>h
 |cons w ws ih=>intro t h i hi;obtain⟨k,h1,_,h3⟩:=h;exact NT.inos_kid h1 (ih h3 i hi)
theorem Sub.at{A:AT}{s:NT}:∀ {ws:List d9} {t:NT} {up:Int},Sub A up t->NT.at t ws s->∃u,Sub A u s:=by
 intro ws
 induction ws with
 |nil=>intro t up h hs;have hs:s=t:=hs;subst hs;exact⟨up,h⟩
 |cons w ws ih=>intro t up h hs;obtain⟨k,h1,_,h3⟩:=hs;exact ih (h.kid h1) h3
theorem Sub.find{A:AT}(hI:Inv A){up:Int}{t x:NT}(h:Sub A up t)(hx:x∈t.gn):A.find t.gf x.gu=some x.gf:=by
 obtain⟨es,h1,h2⟩:=h.get;unfold AT.find;rw[h1];have hn:=hI.enod _ _ h1;show lk x.gu es=some x.gf;exact as9 hn (h2.mem_iff.2 (K0.2 ⟨x,hx,rfl⟩))
theorem Sub.find_none{A:AT}{up:Int}{t:NT}{c:d9}(h:Sub A up t)(hc:∀x∈t.gn,x.gu≠c):A.find t.gf c=none:=by
 obtain⟨es,h1,h2⟩:=h.get;unfold AT.find;rw[h1];show lk c es=none;rw[M4];intro hm;obtain⟨y,hy,e⟩:=K0.1 hm;obtain⟨x,hx,rfl⟩:=K0.1 (h2.mem_iff.1 hy);exact hc x hx e
section
variable {A:AT} {go:Int->d9->Int->Int × Pl × Int} {fo:Bool} {h:Int}
theorem bm1(hI:Inv A){m:NT}(hm:m.kind=2){rest:List d9}:∀ (us:List d9) (t:NT) (up:Int) (p:Pl),Sub A up t->NT.at t us m->p.gf=t.gf->p.there=true->(∀n∈us,W2 n)->∃q:Pl,q.gf=m.gf/\q.there=true/\A.steps go fo (us++rest) p h=A.steps go fo rest q h:=by
 intro us
 induction us with
 |nil =>
  intro t up p hS ha hp ht _;have ha:m=t:=ha;subst ha;exact⟨p,hp,ht,rfl⟩
 |cons w us ih =>
  intro t up p hS ha hp ht jb;obtain⟨k,h1,rfl,h3⟩:=ha;have hk:=hS.kid h1;have lv:k.kind=2:=by
   cases us with
   |nil=>have h3:m=k:=h3;rw[<-h3];exact hm
   |cons v us=>obtain⟨k2,h4,_⟩:=h3;exact hk.dir_of h4
  obtain⟨s1,s2⟩:=jb _ (H7 ..);have hf:=hS.find hI h1;rw[<-hp]at hf;have kn:A.steps go fo (k.gu::(us++rest)) p h=A.steps go fo (us++rest) ⟨p.gf,k.gu,k.gf,true⟩ h:=by
   rw[ab5 ht (by rw[hp,hS.kind,hS.dir_of h1]) (aa9 s1) (by omega) (.inr (.inr (by rw[hf,Option.getD_some,hk.kind,lv];decide)))];rw[hf];rfl
  obtain⟨q,q1,q2,q3⟩:=ih k t.gf ⟨p.gf,k.gu,k.gf,true⟩ hk h3 rfl rfl (fun n hn=>jb n (E4 _ hn));exact⟨q,q1,q2,by rw[ag0,kn,q3]⟩
theorem bM4(hI:Inv A){m k:NT}{us:List d9}{t:NT}{up:Int}{p:Pl}(hS:Sub A up t)(ha:NT.at t us m)(hk:k∈m.gn)(hf:fo=false\/k.kind≠3)(hp:p.gf=t.gf)(ht:p.there=true)(jb:∀n∈us++[k.gu],W2 n):A.steps go fo (us++[k.gu]) p h=(0,⟨m.gf,k.gu,k.gf,true⟩,h):=by
 obtain⟨u,hm⟩:=hS.at ha;have lh:=hm.dir_of hk;obtain⟨q,q1,q2,q3⟩:=bm1 (go:=go) (fo:=fo) (h:=h) (rest:=[k.gu]) hI lh us t up p hS ha hp ht (fun n hn=>jb n (List.mem_append_left _ hn));obtain⟨s1,s2⟩:=jb k.gu (by simp);have tv:=hm.find hI hk;rw[<-q1]at tv
 rw[q3,ab5 q2 (by rw[q1,hm.kind,lh]) (aa9 s1) (by omega) (by
  rcases hf with e|e
  ·exact .inr (.inl (by rw[e];rfl))
  ·exact .inr (.inr (by rw[tv,Option.getD_some,(hm.kid hk).kind];exact e)))]
 rw[tv,q1];rfl
theorem bx5(hI:Inv A){m:NT}{c:d9}{us:List d9}{t:NT}{up:Int}{p:Pl}(hS:Sub A up t)(ha:NT.at t us m)(lh:m.kind=2)(hc:∀x∈m.gn,x.gu≠c)(hp:p.gf=t.gf)(ht:p.there=true)(jb:∀n∈us++[c],W2 n):A.steps go fo (us++[c]) p h=(0,⟨m.gf,c,0,false⟩,h):=by
 obtain⟨u,hm⟩:=hS.at ha;obtain⟨q,q1,q2,q3⟩:=bm1 (go:=go) (fo:=fo) (h:=h) (rest:=[c]) hI lh us t up p hS ha hp ht (fun n hn=>jb n (List.mem_append_left _ hn));obtain⟨s1,s2⟩:=jb c (by simp);have tv:=hm.find_none hc;rw[<-q1]at tv;rw[q3,ab5 q2 (by rw[q1,hm.kind,lh]) (aa9 s1) (by omega) (.inl (by rw[tv];rfl))];rw[tv,q1];rfl
end
structure RP(p:d9)(ws:List d9):Prop where
 may:ab1 p=0
 parts:N1 p=ws
theorem bx6{A:AT}(hk:A.kind 1=2){p:d9}{ws:List d9}{fo:Bool}(h:RP p ws):A.locate rt p fo=((A.steps (fun d s h'=>A.walk 9 d s true h') fo ws aY6 8).1,(A.steps (fun d s h'=>A.walk 9 d s true h') fo ws aY6 8).2.1):=by
 have h2:C8 47 rt=true:=by decide +kernel
 have ia:E8 p ⟨⟨[]⟩⟩=false:=by
  have h0:=h.may;cases hs:E8 p ⟨⟨[]⟩⟩ with
  |false=>rfl
  |true=>unfold ab1 at h0;rw[hs]at h0;simp at h0
 have hw:A.walk 10 1 p fo 8=A.steps (fun d s h'=>A.walk 9 d s true h') fo ws aY6 8:=by
  rw[AT.walk,h.may,h.parts];simp only[ne_eq,not_true_eq_false,if_false,ite_self]
  rfl
 unfold AT.locate;rw[ia];cases hh:C8 47 p with
 |true=>simp only[if_true,D2,if_false];rw[hw]
 |false =>
  rw[h2,show rt=⟨⟨[47]⟩⟩from rfl,bx3];simp only[aY6,hk];simp only[D2,if_false,ne_eq,not_true_eq_false,Bool.true_eq_false];rw[hw]
  rfl
structure FS(A:AT)(R:NT):Prop where
 inv:Inv A
 sub:Sub A 1 R
 gf:R.gf=1
 kind:R.kind=2
 nod:R.inos.Nodup
 ui:A.ui=R.toks.length
 ub:A.ub=(bM2 R.toks:Nat)
section
variable {A:AT} {R:NT}
theorem FS.k1(h:FS A R):A.kind 1=2:=by rw[<-h.gf,h.sub.kind,h.kind]
theorem FS.hit(h:FS A R){p:d9}{us:List d9}{m k:NT}{fo:Bool}(hp:RP p (us++[k.gu]))(ha:NT.at R us m)(hk:k∈m.gn)(hf:fo=false\/k.kind≠3)(jb:∀n∈us++[k.gu],W2 n):A.locate rt p fo=(0,⟨m.gf,k.gu,k.gf,true⟩):=by
 rw[bx6 h.k1 hp,bM4 h.inv h.sub ha hk hf (by rw[h.gf];rfl) rfl jb]
theorem FS.miss(h:FS A R){p:d9}{us:List d9}{m:NT}{c:d9}{fo:Bool}(hp:RP p (us++[c]))(ha:NT.at R us m)(hm:m.kind=2)(hc:∀x∈m.gn,x.gu≠c)(jb:∀n∈us++[c],W2 n):A.locate rt p fo=(0,⟨m.gf,c,0,false⟩):=by
 rw[bx6 h.k1 hp,bx5 h.inv h.sub ha hm hc (by rw[h.gf];rfl) rfl jb]
end
theorem NT.addk_ino(d:Int)(x t:NT):(NT.addK d x t).gf=t.gf/\(NT.addK d x t).gu=t.gu/\(NT.addK d x t).kind=t.kind/\(NT.addK d x t).mode=t.mode/\(NT.addK d x t).data=t.data:=by rw[NT.addk_eq];exact⟨rfl,rfl,rfl,rfl,rfl⟩
theorem NT.addk_kids(d:Int)(x t:NT):(NT.addK d x t).gn=if t.gf=d then t.gn.map (NT.addK d x)++[x]else t.gn.map (NT.addK d x):=by rw[NT.addk_eq];rfl
theorem Sub.swap{A:AT}{d:Int}{x x':NT}(he:x'.ent=x.ent)(hx:∀u,Sub A u x->Sub A u x'):∀ (t:NT) {up:Int},Sub A up (NT.addK d x t)->Sub A up (NT.addK d x' t):=by
 intro t;refine NT.ind (P:=fun t=>∀ {up:Int},Sub A up (NT.addK d x t)->Sub A up (NT.addK d x' t)) ?_ t;intro t ih up h;have hm:∀z:NT,(t.gn.map (NT.addK d z)).map NT.ent=t.gn.map NT.ent:=fun z=>by
  rw[List.map_map];exact List.map_congr_left fun y _=>NT.addk_ent d z y
 have zw:((NT.addK d x' t).gn).map NT.ent=((NT.addK d x t).gn).map NT.ent:=by
  rw[NT.addk_kids,NT.addk_kids];split
  ·rw[List.map_append,List.map_append,hm,hm];show _++[x'.ent]=_++[x.ent];rw[he]
  ·rw[hm,hm]
 obtain⟨a1,a2,a3,a4,a5⟩:=NT.addk_ino d x t;obtain⟨b1,b2,b3,b4,b5⟩:=NT.addk_ino d x' t;obtain⟨⟨es,h1,h2⟩,h3,h4⟩:=al2.1 h;rw[al2];have jh:∀z:NT,∀y∈t.gn,NT.addK d z y∈(NT.addK d z t).gn:=by
  intro z y hy;rw[NT.addk_kids];have:=K0.2 ⟨y,hy,(rfl:NT.addK d z y=NT.addK d z y)⟩;split
  ·exact List.mem_append_left _ this
  ·exact this
 refine⟨⟨es,?_,by rw[zw];exact h2⟩,?_,?_⟩
 ·rw[b1,<- a1,h1];unfold NT.node;rw[a3,a4,a5,b3,b4,b5]
 ·intro hk;rw[b3,<- a3]at hk;have:=h3 hk;have hl:((NT.addK d x' t).gn).length=((NT.addK d x t).gn).length:=by
   have:=J7 List.length zw;rw[Q0,Q0]at this;exact this
  rw[this]at hl;exact List.length_eq_zero_iff.1 hl
 ·intro z hz;rw[b1];rw[a1]at h4;rw[NT.addk_kids]at hz;have gw:(∃y∈t.gn,NT.addK d x' y=z)\/(t.gf=d/\z=x'):=by
   split at hz
   ·rename_i e;rcases Q4.1 hz with hz|hz
    ·exact .inl (by obtain⟨y,hy,e⟩:=K0.1 hz;exact⟨y,hy,e⟩)
    ·exact .inr ⟨e,by simpa using hz⟩
   ·exact .inl (by obtain⟨y,hy,e⟩:=K0.1 hz;exact⟨y,hy,e⟩)
  rcases gw with⟨y,hy,rfl⟩|⟨e,rfl⟩
  ·exact ih y hy (h4 _ (jh x y hy))
  ·refine hx _ (h4 x ?_);rw[NT.addk_kids,d8 e];simp
theorem FS.toks{A:AT}{R R':NT}(h:FS A R)(hs:Sub A 1 R')(h1:R'.gf=1)(h2:R'.kind=2)(hp:R'.toks.Perm R.toks):FS A R':=by
 refine⟨h.inv,hs,h1,h2,?_,by rw[h.ui,hp.length_eq],by rw[h.ub,aY7 hp]⟩;exact(List.Perm.nodup_iff (hp.map Prod.fst)).2 h.nod
theorem FS.more{A A':AT}{R m x:NT}{us:List d9}(h:FS A R)(ha:NT.at R us m)(hm:m.kind=2)(hx:x.gn=[]){nd:AN}(ij:A.get m.gf=some nd)(hg:∀j,A'.get j=if j=m.gf then some {nd with gj:=nd.gj++[x.ent]}else if j=x.gf then some (x.node m.gf [])else A.get j)(oi:A.get x.gf=none)(hI:Inv A')(Ep:A'.ui=A.ui+1)(zr:A'.ub=A.ub+x.data.size):FS A' (NT.addK m.gf x R):=by
 obtain⟨u,vq⟩:=h.sub.at ha;have hmi:m.gf∈R.inos:=NT.at_toks ha _ m.ino_mem;have hxi:x.gf∉R.inos:=fun hi=>by
  obtain⟨n,hn⟩:=Sub.has R h.sub _ hi;rw[oi]at hn;cases hn
 have ia:x.gf≠m.gf:=fun e=>hxi (e ▸ hmi);have hk:nd.kind=2:=by
  obtain⟨es,h1,_⟩:=vq.get;rw[ij]at h1;rw[Option.some.inj h1];exact hm
 have ht:=NT.addk_toks (x:=x) R h.nod hmi;have Bg:x.toks=[(x.gf,x.data.size)]:=by rw[NT.toks_eq,hx];rfl
 rw[Bg]at ht;refine⟨hI,?_,by rw[(NT.addk_ino _ _ _).1];exact h.gf,by rw[(NT.addk_ino _ _ _).2.2.1];exact h.kind,?_,?_,?_⟩
 ·refine Sub.add (es':=nd.gj++[x.ent]) ij hk (by rw[hg,d8 rfl]) (List.Perm.refl _) ?_ R h.sub h.nod fun i hi hne'=>?_
  ·rw[al2,hx];exact⟨⟨[],by rw[hg,d7 ia,d8 rfl],List.Perm.refl _⟩,fun _=>rfl,fun y hy=>by cases hy⟩
  ·rw[hg,d7 hne',d7 (fun e:i=x.gf=>hxi (e ▸ hi))]
 ·refine(List.Perm.nodup_iff (ht.map Prod.fst)).2 ?_;exact List.nodup_cons.2 ⟨hxi,h.nod⟩
 ·rw[Ep,h.ui,ht.length_eq];simp
 ·rw[zr,h.ub,aY7 ht];show((bM2 R.toks:Nat):Int)+_=((x.data.size+bM2 R.toks:Nat):Int);omega
theorem cl8{A:AT}{m:NT}(hm:m.kind=2):∀ {ws:List d9} {t:NT} {up:Int} (f:Nat),Sub A up t->NT.at t ws m->(∀x∈t.gn,(1:Int)∉x.inos)->A.deep (f+ws.length) m.gf=(A.deep f t.gf).map (· + (ws.length:Int)):=by
 intro ws
 induction ws with
 |nil =>
  intro t up f _ h _;have h:m=t:=h;subst h;show A.deep f m.gf=_;cases A.deep f m.gf with
  |none=>rfl
  |some d=>simp
 |cons w ws ih =>
  intro t up f hS h h1;obtain⟨k,hk,_,ha⟩:=h;have sh:=hS.kid hk;have lv:k.kind=2:=by
   cases ws with
   |nil=>have ha:m=k:=ha;rw[<-ha];exact hm
   |cons v us=>obtain⟨k2,h4,_⟩:=ha;exact sh.dir_of h4
  have sy:k.gf≠1:=fun e=>h1 k hk (e ▸ k.ino_mem);have iu:A.upOf k.gf=t.gf:=by
   obtain⟨es,hg,_⟩:=sh.get;unfold AT.upOf;rw[hg];show(if k.kind==2 then t.gf else 0)=t.gf;rw[lv];rfl
  have hd:A.deep (f+1) k.gf=(A.deep f t.gf).map (· + 1):=by rw[AT.deep,d7 sy,iu]
  have:=ih (f+1) sh ha (fun x hx hi=>h1 k hk (NT.inos_kid hx hi));rw[show f+(w::ws).length=f+1+ws.length by rw[H4];omega,this,hd,Option.map_map]
  congr 1
  funext d
  show d+1+(ws.length:Int)=d+((w::ws).length:Int);rw[H4];omega
theorem FS.not1{A:AT}{R:NT}(h:FS A R):∀x∈R.gn,(1:Int)∉x.inos:=by
 intro x hx hi;have:=(aD3 h.nod).1;rw[h.gf]at this;exact this (NT.inosRow_mem.2 ⟨x,hx,hi⟩)
theorem FS.deep{A:AT}{R m:NT}{ws:List d9}(h:FS A R)(ha:NT.at R ws m)(hm:m.kind=2):ws.length+1<=12/\∀f:Nat,ws.length+1<=f->A.deep f m.gf=some ((ws.length:Int)+1):=by
 have h1:=cl8 hm 1 h.sub ha h.not1;have h2:A.deep 1 R.gf=some 1:=by rw[AT.deep,d8 h.gf]
 rw[h2,Option.map_some]at h1;obtain⟨u,hs⟩:=h.sub.at ha;have hD:A.isDir m.gf:=by
  obtain⟨es,hg,_⟩:=hs.get;exact⟨_,hg,hm⟩
 obtain⟨d,hd⟩:=h.inv.deep _ hD;have hb:=aa0 hd;have ji:∀f:Nat,ws.length+1<=f->A.deep f m.gf=some ((ws.length:Int)+1):=by
  intro f hf;have:=at1 h1 f (by omega);rw[this];congr 1;omega
 refine⟨?_,ji⟩;rcases U8 12 (ws.length+1)with h3|h3
 ·have:=at1 hd (1+ws.length) (by omega);rw[this]at h1;have:=Option.some.inj h1;omega
 ·exact h3
def de8(a:J3)(cs:List J3):d9:=⟨⟨47::a::tlL cs⟩⟩
theorem bG2{cs:List J3}:∀n∈nB cs,W2 n:=by
 intro n hn;obtain⟨c,_,rfl⟩:=K0.1 hn;refine⟨fun e=>?_,by show 1<=56;omega⟩;have:=J7 (fun b:d9=>b.data.toList.length) e;simp at this
def n1(c:J3):d9:=⟨⟨[c]⟩⟩
theorem cl9(a:J3)(cs:List J3):nB (a::cs)=n1 a::nB cs:=rfl
mutual
def NT.all(P:NT->Prop):NT->Prop
 |.mk n i k m d gn=>P (.mk n i k m d gn)/\NT.allR P gn
def NT.allR(P:NT->Prop):List NT->Prop
 | []=>True
 |t::r=>NT.all P t/\NT.allR P r
end
def aR7(c:J3):Prop:=97<=c.toNat/\c.toNat<=102
def upX:d9:=⟨⟨[46,46,47,120]⟩⟩
def GrN(t:NT):Prop:=(∃c,aR7 c/\t.gu=n1 c)/\((t.kind=2/\t.mode=493/\t.data=⟨⟨[]⟩⟩)\/(t.kind=3/\t.mode=511/\t.data=upX)\/(t.kind=1/\0<=t.mode/\t.mode<=511/\t.data.size=2))
theorem GrN.gn{n:d9}{i k m:Int}{d:d9}{l l':List NT}(h:GrN (.mk n i k m d l)):GrN (.mk n i k m d l'):=h
def cF8(T:NT):NT:=.mk ⟨⟨[]⟩⟩ 1 2 493 ⟨⟨[]⟩⟩ [T]
structure Gw(A:AT)(T:NT)(dirs:List d9)(n:Nat):Prop where
 fs:FS A (cF8 T)
 bd:Bd (2+n) A
 gu:T.gu=n1 116
 top:T.kind=2/\T.mode=493/\T.data=⟨⟨[]⟩⟩
 gn:∀x∈T.gn,x.all GrN
 dne:dirs≠[]
 dirs:∀p∈dirs,∃cs m,p=de8 116 cs/\(∀c∈cs,aR7 c)/\NT.at T (nB cs) m/\m.kind=2
 qi:A.qi=300
 qb:A.qb=5000
 num:T.toks.length<=1+n
 byt:bM2 T.toks<=4*n
theorem bM5{c:J3}(h:aR7 c):c≠47/\c≠0/\c≠46:=by
 unfold aR7 at h;refine⟨?_,?_,?_⟩<;>(rintro rfl;revert h;decide)
section
variable {A:AT} {T:NT} {dirs:List d9} {n:Nat}
theorem Gw.more(h:Gw A T dirs n):Gw A T dirs (n+1):={h with bd:=h.bd.mono (by omega),num:=by have:=h.num;omega,byt:=by have:=h.byt;omega}
end
section
variable {A:AT} {T:NT} {dirs:List d9} {n:Nat}
theorem Gw.last(h:Gw A T dirs n):A.last<=2+n:=by have:=h.bd.last;omega
end
def NT.gd(t:NT):List d9:=E7 (t.gn.map NT.gu)
theorem bm3{l:List NT}(h:(l.map NT.gu).Nodup){x:NT}(hx:x∈l):l.find? (fun y=>E8 y.gu x.gu)=some x:=by
 induction l with
 |nil=>cases hx
 |cons y r ih =>
  rw[H5,List.nodup_cons]at h;rcases G9.1 hx with e|e
  ·subst e;rw[List.find?_cons_of_pos (by rw[J9])]
  ·rw[List.find?_cons_of_neg (by rw[J9];intro he;exact h.1 (he ▸ K0.2 ⟨x,e,rfl⟩))];exact ih h.2 e
theorem Sub.nodNames{A:AT}(hI:Inv A){up:Int}{t:NT}(h:Sub A up t):(t.gn.map NT.gu).Nodup:=by
 obtain⟨es,h1,h2⟩:=h.get;have hn:=hI.enod _ _ h1;have hp:(C5 es).Perm (t.gn.map NT.gu):=by
  have:=h2.map Prod.fst;rw[List.map_map]at this;exact this
 exact hp.nodup_iff.1 hn
theorem Sub.gd{A:AT}{up:Int}{t:NT}(h:Sub A up t):A.gd t.gf=t.gd:=by
 obtain⟨es,h1,h2⟩:=h.get;unfold AT.gd NT.gd;rw[h1];show E7 (C5 es)=_;refine bZ6 ?_;have:=h2.map Prod.fst;rw[List.map_map]at this;exact this
inductive bZ9:NT->NT->Prop
 |mk (s x:NT) (h1:x.kind=s.kind) (h2:x.mode=s.mode) (h3:x.data=s.data) (h4:(x.gn.map NT.gu).Perm (s.gn.map NT.gu)) (h5:∀y∈x.gn,∀z∈s.gn,z.gu=y.gu->bZ9 z y):bZ9 s x
mutual
def NT.nodN:NT->Prop
 |.mk _ _ _ _ _ gn=>(gn.map NT.gu).Nodup/\NT.nodR gn
def NT.nodR:List NT->Prop
 | []=>True
 |t::r=>NT.nodN t/\NT.nodR r
end
theorem NT.nodN_iff{t:NT}:t.nodN↔(t.gn.map NT.gu).Nodup/\∀x∈t.gn,x.nodN:=by
 obtain⟨n,i,k,m,d,l⟩:=t;have:∀l:List NT,NT.nodR l ↔ ∀x∈l,x.nodN:=by
  intro l
  induction l with
  |nil=>simp[NT.nodR]
  |cons t r ih=>simp only[NT.nodR,ih,G9,forall_eq_or_imp]
 rw[NT.nodN,this];rfl
theorem Sub.nodN{A:AT}(hI:Inv A):∀ (t:NT) {up:Int},Sub A up t->t.nodN:=by
 intro t;refine NT.ind (P:=fun t=>∀ {up:Int},Sub A up t->t.nodN) ?_ t;intro t ih up h;rw[NT.nodN_iff];exact⟨h.nodNames hI,fun x hx=>ih x hx (h.kid hx)⟩
structure PB(p:d9)(ws:List d9)(k:Nat):Prop where
 rp:∀cs,okR cs->cs.length<=k->RP ⟨⟨p.data.toList++tlL cs⟩⟩ (ws++nB cs)
 ok:∀n∈ws,W2 n
theorem PB.sub{p:d9}{ws:List d9}{k:Nat}(h:PB p ws (k+1)){c:J3}(hc:aR7 c):PB (sub p (n1 c)) (ws++[n1 c]) k:=by
 refine⟨fun cs pe hl=>?_,fun n hn=>?_⟩
 ·have := h.rp (c :: cs) (fun d hd => by
   rcases G9.1 hd with e|e
   ·rw[e];exact bM5 hc
   ·exact pe d e) (by rw[H4];omega)
  rw[ay0];rw[cl9]at this;have e1:p.data.toList++47::(n1 c).data.toList++tlL cs=p.data.toList++tlL (c::cs):=by
   show p.data.toList++47::[c]++tlL cs=p.data.toList++([47,c]++tlL cs);simp
  rw[e1,show ws++[n1 c]++nB cs=ws++n1 c::nB cs by simp];exact this
 ·rcases Q4.1 hn with e|e
  ·exact h.ok n e
  ·rw[T9]at e;rw[e];exact bG2 (cs:=[c]) _ (T9.2 rfl)
theorem NT.at_last{s:NT}:∀ {ws:List d9} {t:NT},NT.at t ws s->ws≠[]->∃us m,ws=us++[s.gu]/\NT.at t us m/\s∈m.gn:=by
 intro ws
 induction ws with
 |nil=>intro t _ h;exact m7 rfl h
 |cons w ws ih =>
  intro t h _;obtain⟨k,h1,h2,h3⟩:=h;cases ws with
  |nil =>
   have h3:s=k:=h3;subst h3;exact⟨[],t,by rw[h2];rfl,rfl,h1⟩
  |cons v vs =>
   obtain⟨us,m,e,a,b⟩:=ih h3 (by simp);exact⟨w::us,m,by rw[e];rfl,⟨k,h1,h2,a⟩,b⟩
section
variable {A:AT} {R:NT}
theorem FS.loc(h:FS A R){p:d9}{ws:List d9}{t:NT}{fo:Bool}(hp:RP p ws)(ha:NT.at R ws t)(hf:fo=false\/t.kind≠3)(jb:∀n∈ws,W2 n):∃q:Pl,A.locate rt p fo=(0,q)/\q.gf=t.gf/\q.there=true/\(t.kind=2->ws=[]->q.gh=1):=by
 cases ws with
 |nil =>
  have ha:t=R:=ha;subst ha;refine⟨aY6,?_,h.gf.symm,rfl,fun _ _=>rfl⟩;rw[bx6 h.k1 hp];rfl
 |cons w vs =>
  obtain⟨us,m,e,a,b⟩:=NT.at_last ha (by simp);rw[e]at hp jb;exact⟨_,h.hit hp a b hf jb,rfl,rfl,fun _ h=>by cases h⟩
theorem FS.stat(h:FS A R){p:d9}{ws:List d9}{t:NT}{fo:Bool}(hp:RP p ws)(ha:NT.at R ws t)(hf:fo=false\/t.kind≠3)(jb:∀n∈ws,W2 n):A.stat rt p fo=(0,⟨t.kind,t.mode,t.data,1⟩)/\A.with_ rt p fo=(0,t.gf,⟨t.kind,t.mode,t.data,1⟩):=by
 obtain⟨q,h1,h2,h3,_⟩:=h.loc hp ha hf jb;obtain⟨u,hs⟩:=h.sub.at ha;obtain⟨es,hg,_⟩:=hs.get;have hw:A.with_ rt p fo=(0,t.gf,⟨t.kind,t.mode,t.data,1⟩):=by
  unfold AT.with_;rw[h1];simp only[ne_eq,not_true_eq_false,if_false];rw[h3,h2,hg];simp only[Bool.true_eq_false,if_false]
  rfl
 exact⟨by unfold AT.stat;rw[hw],hw⟩
end
structure aO1(A:AT)(R:NT)(N:Nat)(us:List d9)(M:NT)(c:J3)(p:d9):Prop where
 fs:FS A R
 bd:Bd N A
 small:N<=100000
 at_:NT.at R us M
 gh:M.kind=2
 ok:c≠47/\c≠0/\c≠46
 miss:∀x∈M.gn,x.gu≠n1 c
 rp:RP p (us++[n1 c])
 oks:∀n∈us,W2 n
structure de9(A A':AT)(R:NT)(N:Nat)(M x:NT):Prop where
 fs:FS A' (NT.addK M.gf x R)
 bd:Bd (N+1) A'
 qi:A'.qi=A.qi
 qb:A'.qb=A.qb
 last:A.last+1<=A'.last
section
variable {A:AT} {R M:NT} {N:Nat} {us:List d9} {c:J3} {p:d9}
theorem cm0(c:J3):W2 (n1 c):=bG2 (cs:=[c]) _ (T9.2 rfl)
theorem aO1.oks1(h:aO1 A R N us M c p):∀n∈us++[n1 c],W2 n:=by
 intro n hn;rcases Q4.1 hn with e|e
 ·exact h.oks n e
 ·rw[T9]at e;rw[e];exact cm0 c
theorem aO1.loc(h:aO1 A R N us M c p)(fo:Bool):A.locate rt p fo=(0,⟨M.gf,n1 c,0,false⟩):=h.fs.miss h.rp h.at_ h.gh h.miss h.oks1
theorem aO1.stat(h:aO1 A R N us M c p)(fo:Bool):(A.stat rt p fo).1=5:=by
 unfold AT.stat AT.with_;rw[h.loc fo];simp
theorem aO1.last(h:aO1 A R N us M c p):1<=A.last/\A.last<=100000:=by
 have h1:=h.bd.last;have h2:=h.small;have h3:=h.fs.inv.last_pos;omega
theorem aO1.node(h:aO1 A R N us M c p):∃nd,A.get M.gf=some nd/\nd.kind=2:=by
 obtain⟨u,vq⟩:=h.fs.sub.at h.at_;obtain⟨es,hg,_⟩:=vq.get;exact⟨_,hg,h.gh⟩
theorem aO1.put(h:aO1 A R N us M c p){kind mode:Int}{data:d9}{A2:AT}{nd:AN}(ij:A.get M.gf=some nd)(hg:∀j,A2.get j=if j=M.gf then some {nd with gj:=up (n1 c) (A.last+1) nd.gj}else if j=A.last+1 then some ⟨kind,mode,data,1,if kind==2 then M.gf else 0,[]⟩else A.get j)(hI:Inv A2)(hB:Bd (N+1) A2)(Ep:A2.ui=A.ui+1)(zr:A2.ub=A.ub+data.size)(q1:A2.qi=A.qi)(q2:A2.qb=A.qb)(ql:A.last+1<=A2.last):de9 A A2 R N M (.mk (n1 c) (A.last+1) kind mode data []):=by
 obtain⟨u,vq⟩:=h.fs.sub.at h.at_;have lq:lk (n1 c) nd.gj=none:=by
  have:=vq.find_none h.miss;unfold AT.find at this;rw[ij]at this;exact this
 have iu:up (n1 c) (A.last+1) nd.gj=nd.gj++[(n1 c,A.last+1)]:=by
  have:=cx0 (v:=A.last+1) (b:=[]) lq;rw[ac3]at this;rw[this];rfl
 rw[iu]at hg;exact⟨h.fs.more (x:=.mk (n1 c) (A.last+1) kind mode data []) h.at_ h.gh rfl ij hg (h.fs.inv.fresh (by show A.last<A.last+1;omega)) hI Ep zr,hB,q1,q2,ql⟩
end
section
variable {A:AT} {R:NT}
end
def cpN:d9:=⟨⟨[99,112]⟩⟩
section
variable {A:AT} {R M:NT} {N:Nat} {us:List d9} {c:J3}
end
inductive bx8 (P:NT->NT->Prop):List NT->List NT->Prop
 |nil:bx8 P [] []
 |cons {x y:NT} {l m:List NT}:P x y->bx8 P l m->bx8 P (x::l) (y::m)
theorem bx8.right{P:NT->NT->Prop}{l m:List NT}(h:bx8 P l m):∀y∈m,∃x∈l,P x y:=by
 induction h with
 |nil=>intro y hy;cases hy
 |cons hp _ ih =>
  intro y hy;rcases G9.1 hy with e|e
  ·subst e;exact⟨_,H7 ..,hp⟩
  ·obtain⟨x,hx,q⟩:=ih y e;exact⟨x,E4 _ hx,q⟩
theorem bx8.gd{P:NT->NT->Prop}(hP:∀x y,P x y->y.gu=x.gu){l m:List NT}(h:bx8 P l m):m.map NT.gu=l.map NT.gu:=by
 induction h with
 |nil=>rfl
 |cons hp _ ih=>rw[H5,H5,ih,hP _ _ hp]
section
variable {A:AT} {R M x:NT} {N:Nat} {us:List d9}
end
def rmT:d9:=⟨⟨[114,109]⟩⟩
section
variable {A:AT} {R M x:NT} {N:Nat} {us:List d9}
end
theorem PB.mono{p:d9}{ws:List d9}{k j:Nat}(h:PB p ws k)(hj:j<=k):PB p ws j:=⟨fun cs pe hl=>h.rp cs pe (by omega),h.ok⟩
section
variable {A:AT} {R M1 M2 x:NT} {u1 u2:List d9} {as_:d9}
end
def dR:d9:=⟨⟨[45,114]⟩⟩
def mvN:d9:=⟨⟨[109,118]⟩⟩
section
variable {A:AT} {R M1 M2 x:NT} {N m:Nat} {u1 u2:List d9} {as_ gk tq:d9}
end
theorem bZ9.refl:∀t:NT,t.nodN->bZ9 t t:=by
 intro t;refine NT.ind (P:=fun t=>t.nodN->bZ9 t t) ?_ t;intro t ih h;obtain⟨h1,h2⟩:=NT.nodN_iff.1 h;refine⟨_,_,rfl,rfl,rfl,List.Perm.refl _,fun y hy z hz e=>?_⟩;have f1:=bm3 h1 hy;have f2:=bm3 h1 hz;rw[e,f1]at f2;have:y=z:=Option.some.inj f2;subst this;exact ih y hy (h2 y hy)
section
variable {A:AT} {T k:NT} {c:J3}
end
def lsN:d9:=⟨⟨[108,115]⟩⟩
end
section
theorem ag3(letters:d9):∀ (args:List d9) (ge g':d9) (gd:List d9),ab3 letters args ge=some (g',gd)->(∀n∈gd,n∈args)/\gd.length<=args.length:=by
 intro args
 induction args with
 |nil =>
  intro ge g' gd h;have h:some (ge,([]:List d9))=some (g',gd):=h;simp only[Option.some.injEq,Prod.mk.injEq]at h;rw[<-h.2];exact⟨fun n hn=>hn,A7 _⟩
 |cons a r ih =>
  intro ge g' gd h;unfold ab3 at h;rw[H4];split at h
  ·simp only[Option.some.injEq,Prod.mk.injEq]at h;rw[<-h.2];exact⟨fun n hn=>E4 _ hn,by omega⟩
  split at h
  ·simp only[Option.some.injEq,Prod.mk.injEq]at h;rw[<-h.2];exact⟨fun n hn=>hn,by rw[H4];omega⟩
  split at h
  ·obtain⟨h1,h2⟩:=ih _ _ _ h;exact⟨fun n hn=>E4 _ (h1 n hn),by omega⟩
  ·cases h
theorem aG2(nm:d9){s:TS}(n:d9)(e:Int)(h:0<=s.st):0<=(s.fail nm n e).st:=by
 unfold TS.fail;split
 ·exact h
 ·show 0<=(if e==10 then(3:Int)else if s.st<1 then 1 else s.st);split
  ·decide
  ·split
   ·decide
   ·exact h
theorem av3{nm:d9}{do_:TS->d9->Int×TS}(h:∀t n,0<=t.st->0<=(do_ t n).2.st):∀ (l:List d9) (s:TS),0<=s.st->0<=(TS.each nm do_ l s).st:=by
 intro l
 induction l with
 |nil=>intro s hs;exact hs
 |cons n r ih =>
  intro s hs;unfold TS.each;split
  ·exact hs
  ·exact ih _ (aG2 _ _ _ (h _ _ hs))
theorem bG4{nm gb:d9}{do_:TS->d9->d9->Int×TS}(h:∀t a b,0<=t.st->0<=(do_ t a b).2.st)(l:List d9)(s:TS)(hs:0<=s.st):0<=(TS.into nm gb do_ l s).st:=by
 unfold TS.into;split
 ·exact hs
 ·simp only;split
  ·exact aG2 _ _ _ hs
  ·exact av3 (fun t n ht=>h _ _ _ ht) _ _ hs
theorem ay5{f:TS->d9->TS}(h:∀t n,0<=t.st->0<=(f t n).st):∀ (l:List d9) (s:TS),0<=s.st->0<=(l.foldl f s).st:=by
 intro l
 induction l with
 |nil=>intro s hs;exact hs
 |cons n r ih=>intro s hs;rw[H3];exact ih _ (h _ _ hs)
theorem cF9(nm gb ge:d9):∀ (f:Nat) (s:TS) (p:d9),0<=s.st->0<=(TS.rm nm gb ge f s p).2.st:=by
 intro f
 induction f with
 |zero=>intro s p h;exact h
 |succ f ih =>
  intro s p h;unfold TS.rm;simp only;split
  ·exact h
  split
  ·exact h
  split
  ·exact h
  ·show 0<=(if(s.A.stat gb p false).2.kind==2 then(s.A.listF gb p).2.foldl (J6 nm gb ge p f) s else s).st;split
   ·exact ay5 (fun t n ht=>aG2 _ _ _ (ih _ _ ht)) _ _ h
   ·exact h
theorem cG0(nm gb ge:d9):∀ (f:Nat) (s:TS) (a b:d9),0<=s.st->0<=(TS.cp nm gb ge f s a b).2.st:=by
 intro f
 induction f with
 |zero=>intro s a b h;exact h
 |succ f ih =>
  intro s a b h;unfold TS.cp;simp only;split
  ·exact h
  split
  ·exact h
  split
  ·exact h
  split
  ·exact h
  split
  ·exact h
  split
  ·exact h
  ·refine ay5 (fun t n ht=>?_) _ _ h;split
   ·exact ht
   ·exact aG2 _ _ _ (ih _ _ _ ht)
theorem cm1(nm gb:d9):∀ (l:List d9) (s:TS) (p d:List d9),0<=s.st->0<=(TS.sift nm gb l s p d).1.st:=by
 intro l
 induction l with
 |nil=>intro s p d h;exact h
 |cons n r ih =>
  intro s p d h;unfold TS.sift;split
  ·exact h
  split
  ·exact ih _ _ _ h
  ·exact ih _ _ _ (aG2 _ _ _ h)
theorem cG1(nm gb ge:d9)(gd:List d9)(s:TS)(h:0<=s.st):0<=(TS.ls nm gb ge gd s).st:=by
 unfold TS.ls;simp only;refine ay5 (fun t n ht=>?_) _ _ (ay5 (f:=TS.say) (fun t n ht=>ht) _ _ (cm1 _ _ _ _ _ _ h));unfold TS.gm;simp only;have h2:∀b:Bool,0<=(if b then t.say (n++⟨⟨[58]⟩⟩)else t).st:=fun b=>by cases b<;>exact ht
 refine ay5 (fun t n ht=>?_) _ _ (h2 _);split
 ·exact ht
 ·exact ht
theorem cG2(A:AT)(nm gb ge:d9)(gd:List d9):0<=(doP A nm gb ge gd).st:=by
 have h0:0<=(TS.new A).st:=Int.le_refl _;unfold doP;simp only;split
 ·exact av3 (fun t n ht=>ht) _ _ h0
 split
 ·exact av3 (fun t n ht=>ht) _ _ h0
 split
 ·exact av3 (fun t n ht=>ht) _ _ h0
 split
 ·split
  ·exact h0
  ·exact av3 (fun t n ht=>ht) _ _ h0
 split
 ·split
  ·exact h0
  ·exact av3 (fun t n ht=>ht) _ _ h0
 split
 ·exact av3 (fun t n ht=>cF9 _ _ _ _ _ _ ht) _ _ h0
 split
 ·exact bG4 (fun t a b ht=>ht) _ _ h0
 split
 ·exact bG4 (fun t a b ht=>cG0 _ _ _ _ _ _ _ ht) _ _ h0
 ·exact cG1 _ _ _ _ _ h0
theorem ca0{A:AT}{gb nm:d9}{args:List d9}{d:Dn}{A':AT}(h:A.filesP gb nm args=some (d,A')):0<=d.st:=by
 unfold AT.filesP at h;split at h
 ·simp only at h;split at h
  ·cases h;exact Int.le.intro 2 rfl
  ·split at h
   ·cases h;exact cG2 _ _ _ _ _
   ·cases h;exact Int.le.intro 2 rfl
 ·cases h
theorem aY8{A:AT}{nm:d9}{args:List d9}{d:Dn}{A':AT}(h:A.filesP ⟨⟨[47]⟩⟩ nm args=some (d,A')):Q5 A nm args=(⟨⟨[(48+d.st.toNat).toUInt8]⟩⟩++d.out++d.err,A'):=by
 unfold Q5;rw[h]
theorem ca1(A:AT)(gb ge:d9)(gd:List d9):doP A mkN gb ge gd=TS.each mkN (fun t n=>onA t (if I8 ge 112 then t.A.allF gb (am0 n++[n])else t.A.mkdirF gb n)) gd (TS.new A):=by
 unfold doP;simp only;rw[d8 (by decide +kernel)]
theorem bm4(A:AT)(gb ge:d9)(gd:List d9):doP A rmN gb ge gd=TS.each rmN (fun t n=>onA t (t.A.rmdirP gb n)) gd (TS.new A):=by
 unfold doP;simp only;rw[d7 (by decide +kernel),d8 (by decide +kernel)]
theorem ca2(A:AT)(gb ge:d9)(gd:List d9):doP A rmT gb ge gd=TS.each rmT (fun t n=>TS.rm rmT gb ge FU t n) gd (TS.new A):=by
 unfold doP;simp only;rw[d7 (by decide +kernel),d7 (by decide +kernel),d7 (by decide +kernel),d7 (by decide +kernel),d7 (by decide +kernel),d8 (by decide +kernel)]
theorem ca3(A:AT)(gb ge:d9)(gd:List d9):doP A mvN gb ge gd=TS.into mvN gb (fun t a b=>onA t (t.A.renameF gb a b)) gd (TS.new A):=by
 unfold doP;simp only;rw[d7 (by decide +kernel),d7 (by decide +kernel),d7 (by decide +kernel),d7 (by decide +kernel),d7 (by decide +kernel),d7 (by decide +kernel),d8 (by decide +kernel)]
theorem ca4(A:AT)(gb ge:d9)(gd:List d9):doP A cpN gb ge gd=TS.into cpN gb (fun t a b=>TS.cp cpN gb ge FU t a b) gd (TS.new A):=by
 unfold doP;simp only;rw[d7 (by decide +kernel),d7 (by decide +kernel),d7 (by decide +kernel),d7 (by decide +kernel),d7 (by decide +kernel),d7 (by decide +kernel),d7 (by decide +kernel),d8 (by decide +kernel)]
theorem ca5(A:AT)(gb ge:d9)(gd:List d9):doP A lsN gb ge gd=TS.ls lsN gb ge gd (TS.new A):=by
 unfold doP;simp only;rw[d7 (by decide +kernel),d7 (by decide +kernel),d7 (by decide +kernel),d7 (by decide +kernel),d7 (by decide +kernel),d7 (by decide +kernel),d7 (by decide +kernel),d7 (by decide +kernel)]
theorem bm5{ge:d9}{gd:List d9}(h:L0 cpN ge gd=true):gd≠[]:=by
 rintro rfl
 exact m7 h (by rw[show L0 cpN ge []=false from rfl];decide)
theorem bm6{ge:d9}{gd:List d9}(h:L0 mvN ge gd=true):gd≠[]:=by
 rintro rfl
 exact m7 h (by rw[show L0 mvN ge []=false from rfl];decide)
end
section
def Q2(f:AN->Nat)(l:List (Int×AN)):Nat->Nat
 |0=>0
 |i+1=>Q2 f l i+((lk ((i:Int)+1) l).map f).getD 0
theorem bM7(f:AN->Nat){k:Int}{v:AN}{r:List (Int×AN)}(h:lk k r=none):∀n:Nat,Q2 f ((k,v)::r) n=Q2 f r n+if 1<=k/\k<=n then f v else 0:=by
 intro n
 induction n with
 |zero=>simp only[Q2];rw[d7 (by omega)]
 |succ n ih =>
  simp only[Q2,ih];by_cases e:(n:Int)+1=k
  ·have h1:lk ((n:Int)+1) ((k,v)::r)=some v:=by simp[lk,e]
   have h2:lk ((n:Int)+1) r=none:=by rw[e];exact h
   rw[h1,h2,d7 (by omega),d8 (by omega)];simp
  ·have h1 : lk ((n : Int) + 1) ((k, v) :: r) = lk ((n : Int) + 1) r := by
    have:(((n:Int)+1)==k)=false:=by simpa using e
    simp[lk,this]
   rw[h1];by_cases c:1<=k/\k<=n
   ·rw[d8 c,d8 (by omega)];omega
   ·rw[d7 c,d7 (by omega)];omega
theorem aG3(f:AN->Nat):∀ (l:List (Int×AN)) (n:Nat),(C5 l).Nodup->(∀k∈C5 l,1<=k/\k<=n)->Q2 f l n=P7 f l:=by
 intro l
 induction l with
 |nil =>
  intro n _ _;have:∀n:Nat,Q2 f [] n=0:=by
   intro n
   induction n with
   |zero=>rfl
   |succ n ih=>simp only[Q2,ih];rfl
  rw[this];rfl
 |cons p r ih =>
  intro n h1 h2;obtain⟨k,v⟩:=p;obtain⟨h3,h4⟩:=List.nodup_cons.1 (show(k::C5 r).Nodup from h1);rw[bM7 f (M4.2 h3),ih n h4 fun x hx=>h2 x (E4 _ hx)];have:=h2 k (H7 ..);rw[d8 this];simp only[P7];omega
theorem aY9(f:AN->Nat)(l:List (Int×AN)):∀ {n m:Nat},n<=m->Q2 f l n<=Q2 f l m:=by
 intro n m h
 induction h with
 |refl=>exact A7 _
 |step _ ih=>simp only[Q2];omega
theorem Inv.sums{A:AT}(h:Inv A):(Q2 (fun _=>1) A.nodes A.last.toNat:Int)=A.ui/\(Q2 (fun n=>n.data.size) A.nodes A.last.toNat:Int)=A.ub:=by
 have hk:∀k∈C5 A.nodes,1<=k/\k<=((A.last.toNat:Nat):Int):=by
  intro k hk;cases hl:A.get k with
  |none=>exact m7 hk (M4.1 hl)
  |some n=>have:=h.low k n hl;omega
 rw[aG3 _ _ _ h.nodup hk,aG3 _ _ _ h.nodup hk];refine⟨?_,?_⟩
 ·rw[ac7,h.ui]
 ·rw[h.ub];rfl
def be5(gu:d9):List d9->List d9
 | []=>[gu]
 |k::r=>if ltB gu k=true then gu::k::r else k::be5 gu r
theorem aZ0(gu:d9):∀l,(be5 gu l).Perm (gu::l):=by
 intro l
 induction l with
 |nil=>exact List.Perm.refl _
 |cons k r ih =>
  unfold be5;split
  ·exact List.Perm.refl _
  ·exact(ih.cons k).trans (List.Perm.swap gu k r)
def leN(a b:d9):Prop:=a.data.toList<=b.data.toList
theorem bm7{gu:d9}:∀ {l:List d9},l.Pairwise leN->(be5 gu l).Pairwise leN:=by
 intro l
 induction l with
 |nil=>intro _;simp[be5]
 |cons k r ih =>
  intro h;obtain⟨h1,h2⟩:=List.pairwise_cons.1 h;unfold be5;by_cases c:ltB gu k=true
  ·rw[d8 c];have qq:leN gu k:=by
    unfold ltB at c;cases hb:leB k.data.toList gu.data.toList with
    |true=>rw[hb]at c;cases c
    |false =>
     have:¬k.data.toList<=gu.data.toList:=by rw[<-ag6,hb];simp
     exact(List.le_total _ _).resolve_left this
   refine List.pairwise_cons.2 ⟨fun z hz=>?_,h⟩;rcases G9.1 hz with e|e
   ·rw[e];exact qq
   ·exact List.le_trans qq (h1 z e)
  ·rw[d7 c];have rb:leN k gu:=by
    unfold ltB at c;cases hb:leB k.data.toList gu.data.toList with
    |false=>rw[hb]at c;exact m7 rfl c
    |true=>exact(ag6 _ _).1 hb
   refine List.pairwise_cons.2 ⟨fun z hz=>?_,ih h2⟩;rcases G9.1 ((aZ0 gu r).mem_iff.1 hz)with e|e
   ·rw[e];exact rb
   ·exact h1 z e
theorem ao0(l:List d9):(E7 l).Pairwise leN:=by
 unfold E7;rw[List.pairwise_map];exact(af3 _).imp fun h=>h
theorem aZ1{a b:List d9}(ha:a.Pairwise leN)(hb:b.Pairwise leN)(h:a.Perm b):a=b :=
 List.Perm.eq_of_pairwise (le:=leN) (fun x y _ _ h1 h2=>W9 (List.le_antisymm h1 h2)) ha hb h
theorem bx9(l:List d9)(gu:d9):E7 (l++[gu])=be5 gu (E7 l):=by
 refine aZ1 (ao0 _) (bm7 (ao0 _)) ?_;refine(I7 _).trans ?_;refine List.Perm.trans ?_ (aZ0 gu _).symm;refine(List.perm_append_comm (l₁:=l) (l₂:=[gu])).trans ?_;exact((I7 l).symm).cons gu
def aC1{α:Type}(gu:d9)(new:α)(row:d9->α):Bool->List d9->List α
 |done,[]=>if done then []else [new]
 |done,k::r=>if(!done&&ltB gu k)=true then new::row k::aC1 gu new row true r else row k::aC1 gu new row done r
theorem bM8{α:Type}(gu:d9)(new:α)(row:d9->α):∀l,aC1 gu new row true l=l.map row:=by
 intro l
 induction l with
 |nil=>rfl
 |cons k r ih=>unfold aC1;simp[ih]
theorem cm2{α:Type}(gu:d9)(row:d9->α):∀l,aC1 gu (row gu) row false l=(be5 gu l).map row:=by
 intro l
 induction l with
 |nil=>rfl
 |cons k r ih =>
  unfold aC1 be5;by_cases c:ltB gu k=true
  ·rw[d8 (by simp[c]),d8 c,bM8];rfl
  ·rw[d7 (by simp[c]),d7 c,ih];rfl
theorem by0{α:Type}(gu:d9)(new:α){row row':d9->α}:∀ (l:List d9) (d:Bool),(∀k∈l,row k=row' k)->aC1 gu new row d l=aC1 gu new row' d l:=by
 intro l
 induction l with
 |nil=>intro d _;cases d<;>rfl
 |cons k r ih =>
  intro d h;unfold aC1;rw[h k (H7 ..),ih true fun x hx=>h x (E4 _ hx),ih d fun x hx=>h x (E4 _ hx)]
theorem be6{A:AT}(hI:Inv A){go:Int->d9->Int->Int×Pl×Int}(sv:∀d s x,A.isDir d->(go d s x).1=0->(go d s x).2.1.there=true->A.kind (go d s x).2.1.gf≠3):∀ (l:List d9) (p:Pl) (h:Int),(p.there=true->A.kind p.gf≠3)->(A.steps go true l p h).1=0->(A.steps go true l p h).2.1.there=true->A.kind (A.steps go true l p h).2.1.gf≠3:=by
 intro l
 induction l with
 |nil=>intro p h hp _;exact hp
 |cons n r ih =>
  intro p h hp he;cases h1:p.there with
  |false=>rw[ap1 h1]at he;cases he
  |true =>
   by_cases h2:A.kind p.gf=2
   case neg=>rw[ai8 h1 h2]at he;cases he
   have hd:=ai9 h2;cases h3:E8 n ⟨⟨[46,46]⟩⟩ with
   |true =>
    rw[ax8 h1 h2 h3]at he⊢;exact ih _ h (fun _=>by show A.kind (A.upOf p.gf)≠3;rw[al8 (hI.isDir_up hd)];decide) he
   |false =>
    by_cases h4:n.size>56
    ·rw[ap2 h1 h2 h3 h4]at he;cases he
    by_cases h5:(A.find p.gf n).isSome=false\/(r.isEmpty && !true)=true\/A.kind ((A.find p.gf n).getD 0)≠3
    ·rw[ab5 h1 h2 h3 h4 h5]at he⊢;refine ih _ h (fun hs=>?_) he;have hs:(A.find p.gf n).isSome=true:=hs;rcases h5 with e|e|e
     ·rw[hs]at e;cases e
     ·simp at e
     ·exact e
    by_cases h6:h-1<0
    ·rw[ap3 h1 h2 h3 h4 h5 h6]at he;cases he
    by_cases h7:(go p.gf (A.data ((A.find p.gf n).getD 0)) (h-1)).1=0
    ·rw[ap4 h1 h2 h3 h4 h5 h6 h7]at he⊢;exact ih _ _ (sv _ _ _ hd h7) he
    ·rw[as8 h1 h2 h3 h4 h5 h6 h7]at he;exact m7 he h7
theorem aM7{A:AT}(hI:Inv A):∀ (f:Nat) (d:Int) (s:d9) (h:Int),A.isDir d->(A.walk f d s true h).1=0->(A.walk f d s true h).2.1.there=true->A.kind (A.walk f d s true h).2.1.gf≠3:=by
 intro f
 induction f with
 |zero=>intro d s h _ he;cases he
 |succ f ih =>
  intro d s h hd he;rw[AT.walk]at he⊢;by_cases hm:ab1 s=0
  case neg=>rw[d8 hm]at he;exact m7 he hm
  rw[d7 (by simpa using hm)]at he⊢;refine be6 hI (fun d s x hd he=>ih d s x hd he) _ _ _ (fun _=>?_) he;show A.kind (if C8 47 s then 1 else d)≠3;cases C8 47 s with
  |true=>rw[d8 rfl,al8 hI.root_dir];decide
  |false=>rw[d7 (by decide),al8 hd];decide
theorem aV9{A:AT}(hI:Inv A)(gb gc:d9)(he:(A.locate gb gc true).1=0)(ht:(A.locate gb gc true).2.there=true):A.kind (A.locate gb gc true).2.gf≠3:=by
 unfold AT.locate at he ht⊢;cases h1:E8 gc ⟨⟨[]⟩⟩ with
 |true=>rw[h1]at he;simp at he
 |false =>
  rw[h1]at he ht;simp only[D2,if_false]at he ht⊢;cases h2:C8 47 gc with
  |true=>rw[h2]at he ht;exact aM7 hI 10 1 gc 8 hI.root_dir he ht
  |false =>
   rw[h2]at he ht;simp only[D2,if_false]at he ht⊢;cases h3:C8 47 gb with
   |false=>rw[h3]at he;simp at he
   |true =>
    rw[h3]at he ht;simp only[Bool.true_eq_false,if_false]at he ht⊢;by_cases h4:(A.walk 10 1 gb true 8).1=0
    case neg=>rw[d8 h4]at he;exact m7 he h4
    rw[d7 (by simpa using h4)]at he ht⊢;cases h5:(A.walk 10 1 gb true 8).2.1.there with
    |false=>rw[h5]at he;simp at he
    |true =>
     rw[h5]at he ht;simp only[Bool.true_eq_false,if_false]at he ht⊢;by_cases h6:A.kind (A.walk 10 1 gb true 8).2.1.gf=2
     case neg=>rw[d8 h6]at he;simp at he
     rw[d7 (by simpa using h6)]at he ht⊢;exact aM7 hI 10 _ gc 8 (ai9 h6) he ht
theorem av4{k m:Int}{d:d9}(h:ac5 k m d=0):k=1\/k=2\/k=3:=by
 unfold ac5 at h;by_cases hk:af2 k d=true
 ·unfold af2 at hk;simp only[lk]at hk;by_cases e1:k=1
  ·exact .inl e1
  by_cases e2:k=2
  ·exact .inr (.inl e2)
  by_cases e3:k=3
  ·exact .inr (.inr e3)
  have h1:(k==1)=false:=by simpa using e1
  have h2:(k==2)=false:=by simpa using e2
  have h3:(k==3)=false:=by simpa using e3
  rw[h1,h2,h3]at hk;simp at hk
 ·have:af2 k d=false:=by simpa using hk
  rw[this]at h;simp at h
theorem aZ2{k:d9}{es:List (d9×Int)}:k∈C5 es ↔ ∃v,lk k es=some v:=by
 constructor
 ·intro h;cases hl:lk k es with
  |none=>exact m7 h (M4.1 hl)
  |some v=>exact⟨v,rfl⟩
 ·rintro ⟨v,hv⟩
  apply Classical.byContradiction;intro h;rw[M4.2 h]at hv;cases hv
theorem ca6{es:List (d9×Int)}(h:(C5 es).Nodup)(gu:d9):E7 (C5 (rm gu es))=(E7 (C5 es)).filter fun k=>!C3 k gu:=by
 refine aZ1 (ao0 _) ((ao0 _).filter _) ?_;refine(I7 _).trans (List.Perm.trans ?_ ((I7 (C5 es)).filter _).symm);rw[List.perm_ext_iff_of_nodup (ai6 h) (h.filter _)];intro k;rw[List.mem_filter,aZ2,aZ2];simp only[ak1 h];have hs:(!C3 k gu)=true↔k≠gu:=by
  cases e:C3 k gu with
  |true=>simp[Z3.1 e]
  |false=>simp;intro e2;rw[Z3.2 e2]at e;cases e
 rw[hs];by_cases e:k=gu
 ·subst e;simp
 ·have:(k==gu)=false:=by simpa using e
  simp[this,e]
def am1(es:List (d9×Int))(j:Int):List d9->Nat
 | []=>0
 |k::r=>one j ((lk k es).getD 0)+am1 es j r
theorem bM9(es:List (d9×Int))(j:Int){l l':List d9}(h:l.Perm l'):am1 es j l=am1 es j l':=by
 induction h with
 |nil=>rfl
 |cons x _ ih=>simp only[am1,ih]
 |swap x y l=>simp only[am1];omega
 |trans _ _ h1 h2=>rw[h1,h2]
theorem ca7(es:List (d9×Int))(j:Int)(a b:List d9):am1 es j (a++b)=am1 es j a+am1 es j b:=by
 induction a with
 |nil=>simp[am1]
 |cons x a ih=>simp only[ag0,am1,ih];omega
theorem aZ3{es:List (d9×Int)}(j:Int)(h:(C5 es).Nodup):am1 es j (C5 es)=P7 (one j) es:=by
 have key:∀l:List (d9×Int),(∀p∈l,lk p.1 es=some p.2)->am1 es j (C5 l)=P7 (one j) l:=by
  intro l
  induction l with
  |nil=>intro _;rfl
  |cons p r ih =>
   intro hl;obtain⟨k,v⟩:=p;have h1:=hl (k,v) (H7 ..);show one j ((lk k es).getD 0)+am1 es j (C5 r)=one j v+P7 (one j) r;rw[ih fun q hq=>hl q (E4 _ hq)];have h1:lk k es=some v:=h1;rw[h1];rfl
 exact key es fun p hp=>as9 h hp
theorem bm8{es:List (d9×Int)}(j:Int)(h:(C5 es).Nodup):am1 es j (E7 (C5 es))=P7 (one j) es:=by
 rw[bM9 es j (I7 _),aZ3 j h]
end
section
def AN.unl(n:AN):AN:={n with links:=0}
theorem by1{n m:AN}(h:n.unl=m.unl):n.kind=m.kind/\n.mode=m.mode/\n.data=m.data/\n.up=m.up/\n.gj=m.gj:=by
 cases n;cases m;simp only[AN.unl,AN.mk.injEq]at h;exact⟨h.1,h.2.1,h.2.2.1,h.2.2.2.2.1,h.2.2.2.2.2⟩
theorem aR8{o:Option AN}{n:AN}(h:o.map AN.unl=(some n).map AN.unl):∃m,o=some m/\m.unl=n.unl:=by
 cases o with
 |none=>cases h
 |some m=>exact⟨m,rfl,by simpa using h⟩
theorem ca8{A:AT}(h:Inv A){gh:Int}{nd nd':AN}(hd:A.get gh=some nd):∀k∈C5 (A.set gh nd').nodes,1<=k/\k<=((A.last.toNat:Nat):Int):=by
 intro k hk;cases hg:(A.set gh nd').get k with
 |none=>exact m7 hk (M4.1 hg)
 |some m =>
  rw[AT.get_set]at hg;by_cases e:k=gh
  ·subst e;have:=h.low k nd hd;omega
  ·rw[d7 e]at hg;have:=h.low k m hg;omega
theorem as1{A:AT}{N:Nat}(h:Inv A)(hb:Bd N A)(hN:N<4611686018427387904){gh gf:Int}{gu:d9}{nd nn:AN}(he:A.unlinkE gh gu=0)(hd:A.get gh=some nd)(hf:A.find gh gu=some gf)(ix:A.get gf=some nn) :
 gf≠gh/\gf≠1/\(A.unlinked gh gu).qi=A.qi/\(A.unlinked gh gu).qb=A.qb/\(A.unlinked gh gu).last=A.last /\
 ∀j,((A.unlinked gh gu).get j).map AN.unl=(if j=gf/\Q2 (P2 gf) (A.set gh {nd with gj:=rm gu nd.gj}).nodes A.last.toNat=0 then none else(A.set gh {nd with gj:=rm gu nd.gj}).get j).map AN.unl:=by
 obtain⟨_,ino',zk,Ax⟩:=aA2 he;rw[hf]at zk;cases zk;obtain⟨nd',ku,_,lq,nh,nn',vr,iu⟩:=h.find hf;rw[hd]at ku;cases ku;rw[ix]at vr;cases vr;have ur:=Ax nn ix;have ia:gf≠gh:=by
  intro e;subst e;rw[hd]at ix;cases ix;rw[ur]at lq;simp[lk]at lq
 obtain⟨ln,vf,hl3⟩:=h.links gf nn ix nh;have e1:A.ent gh (rm gu)=A.set gh {nd with gj:=rm gu nd.gj}:=by unfold AT.ent;rw[hd]
 have g1:(A.set gh {nd with gj:=rm gu nd.gj}).get gf=some nn:=by rw[AT.get_set_ne _ _ ia];exact ix
 have hlb:nn.links<=N:=hb.links gf nn ix;have wl:wr (nn.links-1)=nn.links-1:=av9 (by omega) (by omega);have hX:Q2 (P2 gf) (A.set gh {nd with gj:=rm gu nd.gj}).nodes A.last.toNat+1=A.refs gf:=by
  have q1:Q2 (P2 gf) (A.set gh {nd with gj:=rm gu nd.gj}).nodes A.last.toNat=P7 (P2 gf) (A.set gh {nd with gj:=rm gu nd.gj}).nodes:=aG3 _ _ _ (M5 h.nodup) (ca8 h hd);rw[q1];have q2:=AT.sum_set A (P2 gf) gh {nd with gj:=rm gu nd.gj};rw[hd]at q2;simp only[Option.map_some,Option.getD_some]at q2;have q3:=aF2 (one gf) gu nd.gj;rw[lq]at q3;have q4:P2 gf {nd with gj:=rm gu nd.gj}+1=P2 gf nd:=by simpa[P2,one]using q3
  unfold AT.refs;omega
 generalize hXX:A.set gh {nd with gj:=rm gu nd.gj}=X at *;have xq:X.qi=A.qi/\X.qb=A.qb/\X.last=A.last:=by rw[<-hXX];exact⟨rfl,rfl,rfl⟩
 have xn:(C5 X.nodes).Nodup:=by rw[<-hXX];exact M5 h.nodup
 have e2:A.unlinked gh gu=if nn.links-1=0 then {X.set gf {nn with links:=nn.links-1}with nodes:=rm gf (X.set gf {nn with links:=nn.links-1}).nodes,ui:=wr (A.ui-1),ub:=wr (A.ub-nn.data.size)}else X.set gf {nn with links:=nn.links-1}:=by
  unfold AT.unlinked;rw[hf];simp only[Option.getD_some];rw[e1];unfold AT.mod;rw[g1];simp only;rw[AT.get_set_self,wl];by_cases hz:nn.links-1=0
  ·rw[d8 hz];have:(nn.links-1==0)=true:=by simpa using hz
   simp only[this];rfl
  ·rw[d7 hz];have:(nn.links-1==0)=false:=by simpa using hz
   simp only[this];rfl
 refine⟨ia,nh,?_,?_,?_,fun j=>?_⟩
 ·rw[e2];split<;>exact xq.1
 ·rw[e2];split<;>exact xq.2.1
 ·rw[e2];split<;>exact xq.2.2
 rw[e2];by_cases hz:nn.links-1=0
 ·have hs:Q2 (P2 gf) X.nodes A.last.toNat=0:=by omega
  rw[d8 hz];show(lk j (rm gf (up gf _ X.nodes))).map AN.unl=_;rw[ak1 (M5 xn),ax0];by_cases e:j=gf
  ·have hc:(j==gf)=true:=by simpa using e
   simp only[hc,if_true];rw[d8 ⟨e,hs⟩]
  ·have:(j==gf)=false:=by simpa using e
   simp only[this,D2,if_false];rw[d7 (fun h=>e h.1)];rfl
 ·have hs:Q2 (P2 gf) X.nodes A.last.toNat≠0:=by omega
  rw[d7 hz,d7 (fun h=>hs h.2),AT.get_set];by_cases e:j=gf
  ·rw[d8 e,e,g1];rfl
  ·rw[d7 e]
theorem be7{A:AT}(h:Inv A){gf:Int}(hi:gf≠1):∀ (f:Nat) (d:Int) (b:Bool),A.isDir d->A.within gf f d=some b->A.apart gf f d=some (!b):=by
 intro f
 induction f with
 |zero=>intro d b _ hw;cases hw
 |succ f ih =>
  intro d b hd hw;rw[AT.within]at hw;rw[AT.apart];by_cases e1:d=gf
  ·rw[d8 e1]at hw;cases hw;rw[d7 (by omega),d8 e1];rfl
  ·rw[d7 e1]at hw;by_cases e2:d=1
   ·rw[d8 e2]at hw;cases hw;rw[d8 e2];rfl
   ·rw[d7 e2]at hw;rw[d7 e2,d7 e1];have ku:=h.isDir_up hd;obtain⟨n,hn,hk⟩:=hd;have hu:A.upOf d=n.up:=by unfold AT.upOf;rw[hn];rfl
    rw[hu]at hw ku;rw[hn];exact ih n.up b ku hw
theorem by2{A:AT}(h:Inv A){gf:Int}:∀ (f:Nat) (d:Int),A.isDir d->A.within gf f d=some true->A.isDir gf:=by
 intro f
 induction f with
 |zero=>intro d _ hw;cases hw
 |succ f ih =>
  intro d hd hw;rw[AT.within]at hw;by_cases e1:d=gf
  ·rw[<-e1];exact hd
  ·rw[d7 e1]at hw;by_cases e2:d=1
   ·rw[d8 e2]at hw;cases hw
   ·rw[d7 e2]at hw;exact ih _ (h.isDir_up hd) hw
theorem bm9{A U:AT}(h:Inv U)(hu:∀k,U.isDir k->A.upOf k=U.upOf k){gf:Int}:∀ (f:Nat) (d:Int),U.isDir d->U.within gf f d=A.within gf f d:=by
 intro f
 induction f with
 |zero=>intro d _;rfl
 |succ f ih =>
  intro d hd;rw[AT.within,AT.within,hu d hd,ih _ (h.isDir_up hd)]
theorem by3{A:AT}{gf:Int}:∀ {f:Nat} {d:Int} {b:Bool},A.apart gf f d=some b->A.apart gf (f+1) d=some b:=by
 intro f
 induction f with
 |zero=>intro d b h;cases h
 |succ f ih =>
  intro d b h;rw[AT.apart]at h⊢;by_cases e1:d=1
  ·rw[d8 e1]at h⊢;exact h
  ·rw[d7 e1]at h⊢;by_cases e2:d=gf
   ·rw[d8 e2]at h⊢;exact h
   ·rw[d7 e2]at h⊢;cases hg:A.get d with
    |none=>rw[hg]at h;cases h
    |some n=>rw[hg]at h;exact ih h
structure ca9(A:AT)(gk:Int)(gu:d9)(tq:Int)(as_:d9)(gf:Int)(ns nt nn:AN):Prop where
 hsrc:A.get gk=some ns
 nod:A.get gf=some nn
 i1:gf≠1
 is:gf≠gk
 it:gf≠tq
 hto:(A.set gk {ns with gj:=rm gu ns.gj}).get tq=some nt
 free:lk as_ nt.gj=none
 enod:(C5 nt.gj).Nodup
 go:A.moveR gk gu tq as_ 14=(0,A.moved gk gu tq as_)
 get:∀j,(A.moved gk gu tq as_).get j=if j=gf then some (if nn.kind=2 then {nn with up:=tq}else nn)else if j=tq then some {nt with gj:=up as_ gf nt.gj}else(A.set gk {ns with gj:=rm gu ns.gj}).get j
 qi:(A.moved gk gu tq as_).qi=A.qi
 qb:(A.moved gk gu tq as_).qb=A.qb
 last:(A.moved gk gu tq as_).last=A.last
theorem by4{κ α:Type} [BEq κ] (k:κ)(l:List (κ×α)):(rm k l).length<=l.length:=aQ4.length_le
theorem cb0{A:AT}{N:Nat}(h:Inv A)(hb:Bd N A){gk tq gf:Int}{gu as_:d9}(hs:A.isDir gk)(ht:A.isDir tq)(il:S3 as_=0)(hf:A.find gk gu=some gf)(ke:A.find tq as_=none)(hw:A.within gf 13 tq=some false) :
 ∃ns nt nn,ca9 A gk gu tq as_ gf ns nt nn/\nt.gj.length<=N:=by
 obtain⟨ns,jp,hk,lq,nh,nn,ix,iu⟩:=h.find hf;have his:gf≠gk:=by
  intro e;subst e;have hd:A.isDir gf:=hs;have:=bd8 h hd nh;obtain⟨m,hm,lh⟩:=hd;rw[ix]at hm;cases hm;apply this;unfold AT.upOf;rw[ix];exact iu lh
 have hit:gf≠tq:=by
  intro e;subst e;rw[AT.within,d8 rfl]at hw;cases hw
 obtain⟨nt0,rj,Fd⟩:=ht;have Fe:lk as_ nt0.gj=none:=by unfold AT.find at ke;rw[rj]at ke;exact ke
 have sv:A.moveR gk gu tq as_ 14=(0,A.moved gk gu tq as_):=by
  have h1:A.moveE1 gk gu tq as_=0:=by
   unfold AT.moveE1;rw[AT.dirE_of hs,AT.dirE_of ⟨nt0,rj,Fd⟩,il,hf];rfl
  have h2:¬ (A.moveE1 gk gu tq as_≠0\/(gk=tq/\gu=as_)):=by
   rintro (h2|⟨e1,e2⟩)
   ·exact h2 h1
   ·subst e1;subst e2;rw[hf]at ke;cases ke
  have h3:A.apart gf 13 tq=some true:=be7 h nh 13 tq false ⟨nt0,rj,Fd⟩ hw;have h4:A.apart gf 14 tq=some true:=by3 h3;unfold AT.moveR;rw[d7 h2,ke,hf];simp[h4,N0]
 have kq:A.ent gk (rm gu)=A.set gk {ns with gj:=rm gu ns.gj}:=by unfold AT.ent;rw[jp]
 have key:∀nt,(A.set gk {ns with gj:=rm gu ns.gj}).get tq=some nt->A.moved gk gu tq as_=((A.set gk {ns with gj:=rm gu ns.gj}).set tq {nt with gj:=up as_ gf nt.gj}).set gf (if nn.kind=2 then {nn with up:=tq}else nn):=by
  intro nt kw;unfold AT.moved;rw[hf];simp only[Option.getD_some];rw[kq];have e2:(A.set gk {ns with gj:=rm gu ns.gj}).ent tq (up as_ gf)=(A.set gk {ns with gj:=rm gu ns.gj}).set tq {nt with gj:=up as_ gf nt.gj}:=by unfold AT.ent;rw[kw]
  rw[e2];unfold AT.mod;rw[AT.get_set_ne _ _ hit,AT.get_set_ne _ _ his,ix];simp only;by_cases hk:nn.kind=2<;>simp[hk]
 have fin:∀nt,(A.set gk {ns with gj:=rm gu ns.gj}).get tq=some nt->lk as_ nt.gj=none->(C5 nt.gj).Nodup->ca9 A gk gu tq as_ gf ns nt nn:=by
  intro nt kw h1 h2;refine⟨jp,ix,nh,his,hit,kw,h1,h2,sv,fun j=>?_,?_,?_,?_⟩
  ·rw[key nt kw,AT.get_set,AT.get_set]
  ·rw[key nt kw];rfl
  ·rw[key nt kw];rfl
  ·rw[key nt kw];rfl
 by_cases e:tq=gk
 ·subst e;rw[jp]at rj;cases rj;refine⟨ns,{ns with gj:=rm gu ns.gj},nn,fin _ (AT.get_set_self _ _ _) ?_ (ai6 (h.enod _ _ jp)),?_⟩
  ·show lk as_ (rm gu ns.gj)=none;rw[ak1 (h.enod _ _ jp),Fe];split<;>rfl
  ·show(rm gu ns.gj).length<=N;have h1:=by4 gu ns.gj;have:=hb.gj _ _ jp;omega
 ·refine⟨ns,nt0,nn,fin _ (by rw[AT.get_set_ne _ _ e];exact rj) Fe (h.enod _ _ rj),hb.gj _ _ rj⟩
end
section
section
variable {A:AT}
theorem aR9{go:Int->d9->Int->Int×Pl×Int}(fo:Bool)(more:List d9):∀ (l:List d9) (p q:Pl) (h h':Int),A.steps go false l p h=(0,q,h')->q.there=true->A.kind q.gf≠3->A.steps go fo (l++more) p h=A.steps go fo more q h':=by
 intro l
 induction l with
 |nil =>
  intro p q h h' e _ _;simp only[AT.steps,Prod.mk.injEq,true_and]at e;obtain⟨rfl,rfl⟩:=e;rfl
 |cons gu rest ih =>
  intro p q h h' e hq hk;rw[AT.steps]at e;rw[ag0,AT.steps];by_cases h1:p.there=false
  ·rw[d8 h1]at e;simp at e
  rw[d7 h1]at e⊢;by_cases h2:A.kind p.gf≠2
  ·rw[d8 h2]at e;simp at e
  rw[d7 h2]at e⊢;by_cases h3:E8 gu ⟨⟨[46,46]⟩⟩=true
  ·rw[d8 h3]at e⊢;exact ih _ _ _ _ e hq hk
  rw[d7 h3]at e⊢;by_cases h4:gu.size>56
  ·rw[d8 h4]at e;simp at e
  rw[d7 h4]at e⊢;simp only at e⊢;cases rest with
  |nil =>
   rw[d8 (.inr (.inl rfl))]at e;simp only[AT.steps,Prod.mk.injEq,true_and]at e;obtain⟨rfl,rfl⟩:=e;rw[d8 (.inr (.inr hk))];rfl
  |cons r rs =>
   by_cases hC:(A.find p.gf gu).isSome=false\/A.kind ((A.find p.gf gu).getD 0)≠3
   ·rw[d8 (by rcases hC with h|h;exact .inl h;exact .inr (.inr h))]at e;rw[d8 (by rcases hC with h|h;exact .inl h;exact .inr (.inr h))];exact ih _ _ _ _ e hq hk
   ·rw[d7 (by rintro (h|h|h);exact hC (.inl h);simp at h;exact hC (.inr h))]at e;rw[d7 (by rintro (h|h|h);exact hC (.inl h);simp at h;exact hC (.inr h))];by_cases h5:h-1<0
    ·rw[d8 h5]at e;simp at e
    rw[d7 h5]at e⊢;by_cases h6:(go p.gf (A.data ((A.find p.gf gu).getD 0)) (h-1)).1≠0
    ·rw[d8 h6]at e;exact m7 (J7 Prod.fst e) h6
    rw[d7 h6]at e⊢;exact ih _ _ _ _ e hq hk
theorem Inv.kind1(hI:Inv A):A.kind 1=2:=by
 obtain⟨n,h1,h2,_⟩:=hI.root;unfold AT.kind;rw[h1];exact h2
def AT.cnt(A:AT)(D:Nat):Nat->Int->Nat
 |0,_=>1
 |f+1,d=>1+D+((A.gd d).map fun n=>56+AT.cnt A D f ((A.find d n).getD 0)).sum
theorem aD4(hI:Inv A){d:Int}{n:d9}(h:n∈A.gd d):∃j,A.find d n=some j/\W1 n/\W2 n/\n.size<=56:=by
 obtain⟨j,hj⟩:=aR5 hI h;obtain⟨o1,o2,_⟩:=aY5 hI hj;exact⟨j,hj,o1,o2,by have:=o2.2;omega⟩
theorem be8(hI:Inv A)(d:Int):(A.gd d).Nodup:=by
 unfold AT.gd;cases hg:A.get d with
 |none=>exact List.nodup_nil
 |some n=>exact(I7 _).nodup_iff.2 (hI.enod d n hg)
def AT.subs(A:AT)(d:Int):List Int:=((A.gd d).map fun n=>(A.find d n).getD 0).filter fun j=>A.kind j==2
theorem cb1{es:List (d9×Int)}(hn:(C5 es).Nodup){s t:d9}{j:Int}(h1:lk s es=some j)(h2:lk t es=some j)(ia:s≠t):2<=P7 (one j) es:=by
 have:=bk4 (f:=one j) hn h1 h2 ia;unfold one at this⊢;simp at this;exact this
theorem bn0(hI:Inv A){d j:Int}(h:j∈A.subs d):∃n,A.find d n=some j/\A.kind j=2:=by
 unfold AT.subs at h;obtain⟨h1,h2⟩:=List.mem_filter.1 h;obtain⟨n,hn,rfl⟩:=K0.1 h1;obtain⟨j,hj,_⟩:=aD4 hI hn;rw[hj]at h2⊢;exact⟨n,hj,by simpa using h2⟩
theorem bG5(hI:Inv A){d j:Int}(h:j∈A.subs d):A.upOf j=d:=by
 obtain⟨n,hn,hk⟩:=bn0 hI h;obtain⟨_,_,_,_,_,m,hm,hu⟩:=hI.find hn;unfold AT.kind at hk;rw[hm]at hk;unfold AT.upOf;rw[hm];exact hu hk
theorem cb2(hI:Inv A){d j:Int}{s t:d9}(h1:A.find d s=some j)(h2:A.find d t=some j)(hk:A.kind j=2):s=t:=by
 apply Classical.byContradiction;intro ia;obtain⟨n,hn,_,hl,uu,m,hm,_⟩:=hI.find h1;obtain⟨n',iy,_,mr,_⟩:=hI.find h2;rw[hn]at iy;cases iy;have h3:=cb1 (hI.enod d n hn) hl mr ia;have h4:=aq9 (f:=fun n:AN=>P7 (one j) n.gj) (l:=A.nodes) (k:=d) (v:=n) hn;have h5:=(hI.links j m hm uu).2.2 (by unfold AT.kind at hk;rw[hm]at hk;exact hk);have h6:A.refs j=P7 (fun n:AN=>P7 (one j) n.gj) A.nodes:=rfl;omega
theorem by5(hI:Inv A)(d:Int):(A.subs d).Nodup:=by
 unfold AT.subs;have hn:=be8 hI d;have hm:∀n∈A.gd d,∃j,A.find d n=some j:=fun n h=>let ⟨j,hj,_⟩:=aD4 hI h;⟨j,hj⟩;generalize A.gd d=l at hn hm
 induction l with
 |nil=>exact List.nodup_nil
 |cons n r ih =>
  obtain⟨h1,h2⟩:=List.nodup_cons.1 hn;have ih:=ih h2 fun x hx=>hm x (E4 _ hx);rw[H5,List.filter_cons];obtain⟨j,hj⟩:=hm n (H7 ..);rw[hj];split
  ·rename_i hk;refine List.nodup_cons.2 ⟨fun hc=>?_,ih⟩;obtain⟨c1,_⟩:=List.mem_filter.1 hc;obtain⟨n',iy,e⟩:=K0.1 c1;obtain⟨j',ip⟩:=hm n' (E4 _ iy);rw[ip]at e;have e:j'=j:=e;subst e;have:=cb2 hI hj ip (by simpa using hk);subst this;exact h1 iy
  ·exact ih
theorem by6(hI:Inv A):∀ {l:List Int},l.Nodup->(l.flatMap A.subs).Nodup:=by
 intro l
 induction l with
 |nil=>intro _;exact List.nodup_nil
 |cons d r ih =>
  intro h;obtain⟨h1,h2⟩:=List.nodup_cons.1 h;rw[bi1,List.nodup_append];refine⟨by5 hI d,ih h2,?_⟩;intro a ha b hb e;subst e;obtain⟨d',ku,hb⟩:=List.mem_flatMap.1 hb;have:=bG5 hI ha;have:=bG5 hI hb;have e:d=d':=by omega
  subst e;exact h1 ku
theorem bN0:∀ (N:Nat) {l:List Int},l.Nodup->(∀x∈l,1<=x/\x<=(N:Int))->l.length<=N:=by
 intro N
 induction N with
 |zero =>
  intro l _ h;cases l with
  |nil=>exact A7 _
  |cons x r=>have:=h x (H7 ..);omega
 |succ N ih =>
  intro l hn h
  have h1:=ih (l:=l.filter fun x=>x != ((N+1:Nat):Int)) (hn.sublist List.filter_sublist) (fun x hx=>by
   obtain⟨a,b⟩:=List.mem_filter.1 hx;have:=h x a;simp at b
   omega)
  have h2:l.length<=(l.filter fun x=>x != ((N+1:Nat):Int)).length+1:=by
   clear h1 h ih
   induction l with
   |nil=>simp
   |cons x r ihr =>
    obtain⟨n1,n2⟩:=List.nodup_cons.1 hn;have:=ihr n2;rw[List.filter_cons];by_cases e:x=((N+1:Nat):Int)
    ·have hf : (r.filter fun x => x != ((N + 1 : Nat) : Int)) = r := by
      rw[List.filter_eq_self];intro y hy;have:y≠x:=fun e=>n1 (e ▸ hy);rw[e]at this;simpa using this
     rw[hf];have:(x != ((N+1:Nat):Int))=false:=by simp[e]
     rw[this];simp
    ·have:(x != ((N+1:Nat):Int))=true:=by simpa using e
     rw[this];simp only[if_true,H4];omega
  omega
theorem aZ4(hI:Inv A){N:Nat}(hB:Bd N A){l:List Int}(hn:l.Nodup)(hl:∀d∈l,A.kind d=2):l.length<=N:=by
 refine bN0 N hn fun x hx=>?_;have:=hl x hx;unfold AT.kind at this;cases hg:A.get x with
 |none=>rw[hg]at this;cases this
 |some m =>
  have h1:=hI.low x m hg;have:=hB.last;omega
theorem cG3{N:Nat}(hB:Bd N A)(d:Int):(A.gd d).length<=N:=by
 unfold AT.gd;cases hg:A.get d with
 |none=>simp
 |some n =>
  have h1:=(I7 (C5 n.gj)).length_eq;have h2:=hB.gj d n hg;show(E7 (C5 n.gj)).length<=N;rw[h1];unfold C5;rw[Q0];exact h2
theorem bn1(hI:Inv A)(D f:Nat){j:Int}(h:A.kind j≠2):A.cnt D f j<=1+D:=by
 cases f with
 |zero=>unfold AT.cnt;omega
 |succ f =>
  have:A.gd j=[]:=by
   unfold AT.gd;cases hg:A.get j with
   |none=>rfl
   |some n =>
    have:=hI.file j n hg (by unfold AT.kind at h;rw[hg]at h;exact h);simp only[this];rfl
  unfold AT.cnt;rw[this];simp
theorem cm3(hI:Inv A)(D f:Nat):∀l:List Int,(l.map fun j=>56+A.cnt D f j).sum<=l.length*(57+D)+((l.filter fun j=>A.kind j==2).map (A.cnt D f)).sum:=by
 intro l
 induction l with
 |nil=>simp
 |cons j r ih =>
  rw[H5,List.sum_cons,H4,Nat.succ_mul,List.filter_cons];by_cases h:A.kind j=2
  ·have:(A.kind j==2)=true:=by simpa using h
   rw[this];simp only[if_true,H5,List.sum_cons];omega
  ·have:(A.kind j==2)=false:=by simpa using h
   have h2:=bn1 hI D f h;rw[this];simp only[D2,if_false];omega
theorem bN1(hI:Inv A){N:Nat}(hB:Bd N A)(D f:Nat):∀l:List Int,(l.map (A.cnt D (f+1))).sum<=l.length*(1+D+N*(57+D))+((l.flatMap A.subs).map (A.cnt D f)).sum:=by
 intro l
 induction l with
 |nil=>simp
 |cons d r ih =>
  rw[H5,List.sum_cons,H4,Nat.succ_mul,bi1,List.map_append,List.sum_append];have h1:=cm3 hI D f ((A.gd d).map fun n=>(A.find d n).getD 0);rw[List.map_map,Q0]at h1;have h2:(A.gd d).length*(57+D)<=N*(57+D):=Nat.mul_le_mul_right _ (cG3 hB d);have h3:A.cnt D (f+1) d=1+D+((A.gd d).map ((fun j=>56+A.cnt D f j)∘fun n=>(A.find d n).getD 0)).sum:=rfl;rw[h3];have h4:(((A.gd d).map fun n=>(A.find d n).getD 0).filter fun j=>A.kind j==2)=A.subs d:=rfl;rw[h4]at h1;omega
theorem by7(hI:Inv A){N:Nat}(hB:Bd N A)(D:Nat):∀ (f:Nat) (l:List Int),l.Nodup->(∀d∈l,A.kind d=2)->(l.map (A.cnt D f)).sum<=(f+1)*(N*(1+D+N*(57+D)))+N:=by
 intro f
 induction f with
 |zero =>
  intro l hn hl;have h1:=aZ4 hI hB hn hl;have h2:(l.map (A.cnt D 0)).sum<=l.length:=by
   clear h1 hn hl
   induction l with
   |nil=>simp
   |cons d r ih=>rw[H5,List.sum_cons,H4];unfold AT.cnt at ih⊢;omega
  omega
 |succ f ih =>
  intro l hn hl;have h1:=aZ4 hI hB hn hl;have h2:=bN1 hI hB D f l
  have h3:=ih (l.flatMap A.subs) (by6 hI hn) (fun d hd=>by
   obtain⟨d',_,hd⟩:=List.mem_flatMap.1 hd
   obtain⟨_,_,h⟩:=bn0 hI hd;exact h)
  have h4:l.length*(1+D+N*(57+D))<=N*(1+D+N*(57+D)):=Nat.mul_le_mul_right _ h1;rw[Nat.succ_mul (f+1)];omega
end
structure Sb(A E:AT):Prop where
 node:∀i n,A.get i=some n->∃m,E.get i=some m/\m.kind=n.kind/\m.up=n.up/\(n.kind=3->m.data=n.data)/\∀s j,lk s n.gj=some j->lk s m.gj=some j
theorem Sb.refl(A:AT):Sb A A:=⟨fun _ n h=>⟨n,h,rfl,rfl,fun _=>rfl,fun _ _ h=>h⟩⟩
theorem Sb.trans{A B C:AT}(h1:Sb A B)(h2:Sb B C):Sb A C:=⟨fun i n h=>by
 obtain⟨m,a1,a2,a3,a4,a5⟩:=h1.node i n h;obtain⟨k,b1,b2,b3,b4,b5⟩:=h2.node i m a1
 exact⟨k,b1,b2.trans a2,b3.trans a3,fun e=>(b4 (a2.trans e)).trans (a4 e),fun s j h=>b5 s j (a5 s j h)⟩⟩
section
variable {A E:AT}
theorem Sb.find(h:Sb A E){d:Int}{s:d9}{j:Int}(hf:A.find d s=some j):E.find d s=some j:=by
 unfold AT.find at hf⊢;cases hd:A.get d with
 |none=>rw[hd]at hf;cases hf
 |some n =>
  rw[hd]at hf;obtain⟨m,a1,_,_,_,a5⟩:=h.node d n hd;rw[a1];exact a5 s j hf
theorem Sb.kind(h:Sb A E){i:Int}(hk:A.kind i≠0):E.kind i=A.kind i:=by
 unfold AT.kind at hk⊢;cases hd:A.get i with
 |none=>rw[hd]at hk;exact m7 rfl hk
 |some n =>
  obtain⟨m,a1,a2,_⟩:=h.node i n hd;rw[a1];exact a2
theorem Sb.upOf(h:Sb A E){i:Int}(hk:A.kind i≠0):E.upOf i=A.upOf i:=by
 unfold AT.kind at hk;unfold AT.upOf;cases hd:A.get i with
 |none=>rw[hd]at hk;exact m7 rfl hk
 |some n =>
  obtain⟨m,a1,_,a3,_⟩:=h.node i n hd;rw[a1];exact a3
theorem Sb.data(h:Sb A E){i:Int}(hk:A.kind i=3):E.data i=A.data i:=by
 unfold AT.kind at hk;unfold AT.data;cases hd:A.get i with
 |none=>rw[hd]at hk;cases hk
 |some n =>
  rw[hd]at hk;obtain⟨m,a1,_,_,a4,_⟩:=h.node i n hd;rw[a1];exact a4 hk
theorem aM8{go:Int->d9->Int->Int×Pl×Int}{fo:Bool}{l:List d9}{p q:Pl}{h h':Int}(e:A.steps go fo l p h=(0,q,h'))(hq:q.there=true):p.there=true:=by
 cases l with
 |nil =>
  simp only[AT.steps,Prod.mk.injEq,true_and]at e;rw[e.1];exact hq
 |cons n r =>
  rw[AT.steps]at e;by_cases h1:p.there=false
  ·rw[d8 h1]at e;simp at e
  ·simpa using h1
theorem by8(hI:Inv A)(hs:Sb A E){go go':Int->d9->Int->Int×Pl×Int}(sv:∀d s h q h',go d s h=(0,q,h')->q.there=true->go' d s h=(0,q,h'))(fo:Bool):∀ (l:List d9) (p q:Pl) (h h':Int),A.steps go fo l p h=(0,q,h')->q.there=true->E.steps go' fo l p h=(0,q,h'):=by
 intro l
 induction l with
 |nil=>intro p q h h' e _;exact e
 |cons gu rest ih =>
  intro p q h h' e hq;rw[AT.steps]at e⊢;by_cases h1:p.there=false
  ·rw[d8 h1]at e;simp at e
  rw[d7 h1]at e⊢;by_cases h2:A.kind p.gf≠2
  ·rw[d8 h2]at e;simp at e
  have sl:A.kind p.gf=2:=by simpa using h2
  have Fd:A.kind p.gf≠0:=by rw[sl];decide
  rw[d7 h2]at e;rw[d7 (by rw[hs.kind Fd];exact h2)];by_cases h3:E8 gu ⟨⟨[46,46]⟩⟩=true
  ·rw[d8 h3]at e⊢;rw[hs.upOf Fd];exact ih _ _ _ _ e hq
  rw[d7 h3]at e⊢;by_cases h4:gu.size>56
  ·rw[d8 h4]at e;simp at e
  rw[d7 h4]at e⊢;simp only at e⊢;cases hf:A.find p.gf gu with
  |none =>
   rw[hf]at e;rw[d8 (.inl rfl)]at e;have:=aM8 e hq;cases this
  |some j =>
   rw[hf]at e;rw[hs.find hf];simp only[Option.isSome_some,Option.getD_some,Bool.true_eq_false,false_or]at e⊢;obtain⟨_,_,_,_,_,m,hm,_⟩:=hI.find hf;have hkj:A.kind j≠0:=by
    unfold AT.kind;rw[hm];have:=av4 (hI.like j m hm);show m.kind≠0;omega
   rw[hs.kind hkj];by_cases hC:(rest.isEmpty && !fo)=true\/A.kind j≠3
   ·rw[d8 hC]at e⊢;exact ih _ _ _ _ e hq
   ·rw[d7 hC]at e⊢;by_cases h5:h-1<0
    ·rw[d8 h5]at e;simp at e
    rw[d7 h5]at e⊢;have vu:A.kind j=3:=by
     apply Classical.byContradiction;intro hc;exact hC (.inr hc)
    rw[hs.data vu];cases hg:go p.gf (A.data j) (h-1) with
    |mk e1 r =>
     obtain⟨q1,jq⟩:=r;rw[hg]at e;by_cases h6:e1=0
     ·subst h6;simp only[ne_eq,not_true_eq_false,if_false]at e;have ht:=aM8 e hq;rw[sv _ _ _ _ _ hg ht];simp only[ne_eq,not_true_eq_false,if_false];exact ih _ _ _ _ e hq
     ·simp only[ne_eq,h6,not_false_eq_true,if_true]at e;exact m7 (J7 Prod.fst e) h6
theorem aJ5(hI:Inv A)(hs:Sb A E):∀ (f:Nat) (d:Int) (s:d9) (fo:Bool) (h:Int) (q:Pl) (h':Int),A.walk f d s fo h=(0,q,h')->q.there=true->E.walk f d s fo h=(0,q,h'):=by
 intro f
 induction f with
 |zero=>intro d s fo h q h' e _;simp[AT.walk]at e
 |succ f ih =>
  intro d s fo h q h' e hq;rw[AT.walk]at e⊢;by_cases h1:ab1 s≠0
  ·rw[d8 h1]at e;exact m7 (J7 Prod.fst e) h1
  rw[d7 h1]at e⊢;exact by8 hI hs (fun d s h q h'=>ih d s true h q h') fo _ _ _ _ _ e hq
theorem ay6(hI:Inv A)(hs:Sb A E){gb p:d9}{fo:Bool}{q:Pl}(e:A.locate gb p fo=(0,q))(hq:q.there=true):E.locate gb p fo=(0,q):=by
 unfold AT.locate at e⊢;by_cases h1:E8 p ⟨⟨[]⟩⟩=true
 ·rw[d8 h1]at e;simp at e
 rw[d7 h1]at e⊢;by_cases h2:C8 47 p=true
 ·rw[d8 h2]at e⊢;simp only[Prod.mk.injEq]at e;have:=aJ5 hI hs 10 1 p fo 8 q (A.walk 10 1 p fo 8).2.2 (by rw[<-e.1,<- e.2]) hq;rw[this]
 rw[d7 h2]at e⊢;by_cases h3:C8 47 gb=false
 ·rw[d8 h3]at e;simp at e
 rw[d7 h3]at e⊢;simp only at e⊢;by_cases h4:(A.walk 10 1 gb true 8).1≠0
 ·rw[d8 h4]at e;exact m7 (J7 Prod.fst e) h4
 rw[d7 h4]at e;by_cases h5:(A.walk 10 1 gb true 8).2.1.there=false
 ·rw[d8 h5]at e;simp at e
 rw[d7 h5]at e;by_cases h6:A.kind (A.walk 10 1 gb true 8).2.1.gf≠2
 ·rw[d8 h6]at e;simp at e
 rw[d7 h6]at e;have h4':(A.walk 10 1 gb true 8).1=0:=by simpa using h4
 have Db:A.kind (A.walk 10 1 gb true 8).2.1.gf=2:=by simpa using h6
 have hw:=aJ5 hI hs 10 1 gb true 8 (A.walk 10 1 gb true 8).2.1 (A.walk 10 1 gb true 8).2.2 (by rw[<-h4']) (by simpa using h5);rw[hw];simp only[ne_eq,not_true_eq_false,if_false];rw[d7 h5,d7 (by rw[hs.kind (by rw[Db];decide)];exact h6)];simp only[Prod.mk.injEq]at e;have:=aJ5 hI hs 10 _ p fo 8 q (A.walk 10 (A.walk 10 1 gb true 8).2.1.gf p fo 8).2.2 (by rw[<-e.1,<- e.2]) hq;rw[this]
theorem aZ5{gb p:d9}{fo:Bool}(h:(A.locate gb p fo).1=0):ab1 p=0/\∃a,∀p' fo',E8 p' ⟨⟨[]⟩⟩=false->C8 47 p'=C8 47 p->A.locate gb p' fo'=((A.walk 10 a p' fo' 8).1,(A.walk 10 a p' fo' 8).2.1):=by
 refine⟨aD1 h,?_⟩;unfold AT.locate at h;by_cases h1:E8 p ⟨⟨[]⟩⟩=true
 ·rw[d8 h1]at h;cases h
 rw[d7 h1]at h;by_cases h2:C8 47 p=true
 ·refine⟨1,fun p' fo' e1 e2=>?_⟩;unfold AT.locate;rw[e1,e2,h2];rfl
 rw[d7 h2]at h;by_cases h3:C8 47 gb=false
 ·rw[d8 h3]at h;cases h
 rw[d7 h3]at h;simp only at h;by_cases h4:(A.walk 10 1 gb true 8).1≠0
 ·rw[d8 h4]at h;exact m7 h h4
 rw[d7 h4]at h;by_cases h5:(A.walk 10 1 gb true 8).2.1.there=false
 ·rw[d8 h5]at h;cases h
 rw[d7 h5]at h;by_cases h6:A.kind (A.walk 10 1 gb true 8).2.1.gf≠2
 ·rw[d8 h6]at h;cases h
 refine⟨(A.walk 10 1 gb true 8).2.1.gf,fun p' fo' e1 e2=>?_⟩;unfold AT.locate;rw[e1,e2,d7 (by simp),d7 h2,d7 h3];simp only;rw[d7 h4,d7 h5,d7 h6]
theorem ar1{a:Int}{p:d9}(h0:ab1 p=0)(fo:Bool):A.walk 10 a p fo 8=A.steps (fun d s h'=>A.walk 9 d s true h') fo (N1 p) ⟨if C8 47 p then 1 else a,⟨⟨[]⟩⟩,if C8 47 p then 1 else a,true⟩ 8:=by
 rw[AT.walk,d7 (by rw[h0];simp)]
theorem by9{p n:d9}(h:W1 n):N1 (H8 p n)=N1 p++[n]:=aA4 h
theorem be9{p:d9}(h:ab1 p=0):E8 p ⟨⟨[]⟩⟩=false:=by
 unfold ab1 at h;cases e:E8 p ⟨⟨[]⟩⟩ with
 |false=>rfl
 |true=>rw[e,d8 rfl]at h;cases h
theorem bN2{p n:d9}(h:E8 p ⟨⟨[]⟩⟩=false):C8 47 (H8 p n)=C8 47 p/\E8 (H8 p n) ⟨⟨[]⟩⟩=false:=by
 obtain⟨⟨pl⟩⟩:=p;cases pl with
 |nil=>simp[E8]at h
 |cons c r =>
  unfold H8 C8 E8;constructor<;>rfl
theorem bG6{gb p n:d9}{q r:Pl}(h:A.locate gb p false=(0,q))(hq:q.there=true)(hk:A.kind q.gf=2)(hn:W1 n)(hs:W2 n)(hr:A.locate gb (H8 p n) false=(0,r)):r.gf=(A.find q.gf n).getD 0/\r.there=(A.find q.gf n).isSome:=by
 obtain⟨h0,a,ha⟩:=aZ5 (A:=A) (gb:=gb) (p:=p) (fo:=false) (by rw[h]);have k0:ab1 (H8 p n)=0:=aD1 (A:=A) (gb:=gb) (fo:=false) (by rw[hr]);obtain⟨j1,j2⟩:=bN2 (n:=n) (be9 h0);rw[ha p false (be9 h0) rfl,ar1 h0]at h;rw[ha _ false j2 j1,ar1 k0,by9 hn,j1]at hr;simp only[Prod.mk.injEq]at h hr;generalize hX:A.steps (fun d s h'=>A.walk 9 d s true h') false (N1 p) ⟨if C8 47 p then 1 else a,⟨⟨[]⟩⟩,if C8 47 p then 1 else a,true⟩ 8=X at h;obtain⟨e,q1,h1⟩:=X;obtain⟨e1,e2⟩:=h;simp only at e1 e2;subst e1;subst e2;rw[aR9 false [n] _ _ _ _ _ hX hq (by omega)]at hr;rw[AT.steps,d7 (by rw[hq];simp),d7 (by omega),d7 (by rw[aa9 hs.1];simp),d7 (by have:=hs.2;omega)]at hr;simp only at hr;rw[d8 (.inr (.inl rfl))]at hr;simp only[AT.steps]at hr;rw[<-hr.2];exact⟨rfl,rfl⟩
theorem bn2{gb p:d9}{q:Pl}(h:A.locate gb p false=(0,q))(hq:q.there=true)(hk:A.kind q.gf=2):A.locate gb p true=(0,q):=by
 obtain⟨h0,a,ha⟩:=aZ5 (A:=A) (gb:=gb) (p:=p) (fo:=false) (by rw[h]);rw[ha p false (be9 h0) rfl,ar1 h0]at h;rw[ha p true (be9 h0) rfl,ar1 h0];simp only[Prod.mk.injEq]at h;generalize hX:A.steps (fun d s h'=>A.walk 9 d s true h') false (N1 p) ⟨if C8 47 p then 1 else a,⟨⟨[]⟩⟩,if C8 47 p then 1 else a,true⟩ 8=X at h;obtain⟨e,q1,h1⟩:=X;obtain⟨e1,e2⟩:=h;simp only at e1 e2;subst e1;subst e2;have:=aR9 true [] _ _ _ _ _ hX hq (by omega);rw[ac3]at this;rw[this];rfl
theorem cb3{gb p:d9}{fo:Bool}{i:Int}{x:IN}(h:A.with_ gb p fo=(0,i,x)):∃q n,A.locate gb p fo=(0,q)/\q.there=true/\q.gf=i/\A.get i=some n/\x=n.inode:=by
 unfold AT.with_ at h;simp only at h;by_cases h1:(A.locate gb p fo).1≠0
 ·rw[d8 h1]at h;exact m7 (J7 Prod.fst h) h1
 rw[d7 h1]at h;by_cases h2:(A.locate gb p fo).2.there=false
 ·rw[d8 h2]at h;simp at h
 rw[d7 h2]at h;cases hg:A.get (A.locate gb p fo).2.gf with
 |none=>rw[hg]at h;simp at h
 |some n =>
  rw[hg]at h;simp only[Prod.mk.injEq,true_and]at h;have jq:(A.locate gb p fo).1=0:=by simpa using h1
  refine⟨(A.locate gb p fo).2,n,by rw[<-jq],by simpa using h2,h.1,by rw[<-h.1];exact hg,h.2.symm⟩
theorem ay7{gb p:d9}{fo:Bool}(h:(A.stat gb p fo).1=0):∃q n,A.locate gb p fo=(0,q)/\q.there=true/\A.get q.gf=some n/\(A.stat gb p fo).2=n.inode:=by
 unfold AT.stat at h⊢;cases hw:A.with_ gb p fo with
 |mk e r =>
  obtain⟨i,x⟩:=r;rw[hw]at h;have h:e=0:=h;subst h;obtain⟨q,n,a1,a2,a3,a4,a5⟩:=cb3 hw;subst a3;exact⟨q,n,a1,a2,a4,a5⟩
theorem bn3{gb p:d9}{q:Pl}(hI:Inv A)(h:A.locate gb p true=(0,q))(hq:q.there=true)(hk:A.kind q.gf=2):A.listF gb p=(0,A.gd q.gf):=by
 unfold AT.kind at hk;cases hg:A.get q.gf with
 |none=>rw[hg]at hk;cases hk
 |some n =>
  rw[hg]at hk;have hk:n.kind=2:=hk;have hw:A.with_ gb p true=(0,q.gf,n.inode):=by
   unfold AT.with_;rw[h];simp only[ne_eq,not_true_eq_false,if_false];rw[hq,hg];rfl
  unfold AT.listF;rw[hw];simp only[ne_eq,not_true_eq_false,if_false];have:n.inode.kind=2:=hk;rw[this];rfl
theorem bn4{f g:d9->Nat}:∀ {l r:List d9},l.Nodup->(∀x∈l,x∈r/\f x<=g x)->(l.map f).sum<=(r.map g).sum:=by
 intro l
 induction l with
 |nil=>intro r _ _;simp
 |cons x l ih =>
  intro r hn h;obtain⟨n1,n2⟩:=List.nodup_cons.1 hn;obtain⟨hx,hfx⟩:=h x (H7 ..);have hp:=List.perm_cons_erase hx;have h1:=ih (r:=r.erase x) n2 fun y hy=>by
   obtain⟨a,b⟩:=h y (E4 _ hy);exact⟨(List.mem_erase_of_ne (by rintro rfl;exact n1 hy)).2 a,b⟩
  have h2:=(hp.map g).sum_nat
  rw[H5,List.sum_cons]at h2⊢;omega
theorem cb4(hI:Inv A)(hIE:Inv E)(hs:Sb A E)(D:Nat):∀ (f:Nat) (d:Int),A.cnt D f d<=E.cnt D f d:=by
 intro f
 induction f with
 |zero=>intro d;exact A7 _
 |succ f ih =>
  intro d;unfold AT.cnt
  have:=bn4 (f:=fun n=>56+AT.cnt A D f ((A.find d n).getD 0)) (g:=fun n=>56+AT.cnt E D f ((E.find d n).getD 0)) (l:=A.gd d) (r:=E.gd d) (be8 hI d) (fun n hn=>by
   obtain⟨j,hj,_⟩:=aD4 hI hn;have ip:=hs.find hj;refine⟨aQ9 ip,?_⟩;rw[hj,ip];have:=ih j;show 56+AT.cnt A D f j<=56+AT.cnt E D f j
   omega)
  omega
end
end
section
theorem bN3{e:Int}(h:Er e):(aV8 10 e).size<=2:=by
 obtain⟨h0,h1⟩:=h;have h:e=0\/e=1\/e=2\/e=3\/e=4\/e=5\/e=6\/e=7\/e=8\/e=9\/e=10\/e=11\/e=12\/e=13\/e=14\/e=15\/e=16\/e=17\/e=18\/e=19\/e=20:=by omega
 rcases h with rfl|rfl|rfl|rfl|rfl|rfl|rfl|rfl|rfl|rfl|rfl|rfl|rfl|rfl|rfl|rfl|rfl|rfl|rfl|rfl|rfl<;>decide +kernel
theorem av5{nm n:d9}{s:TS}{e:Int}(h:Er e):(s.fail nm n e).err.size<=s.err.size+(nm.size+n.size+7):=by
 have:=bN3 h;unfold TS.fail;split
 ·omega
 ·show(s.err++ak2 nm n e).size<=_;unfold ak2;simp only[D8];have:(⟨⟨[58,32]⟩⟩:d9).size=2:=rfl;have:(⟨⟨[10]⟩⟩:d9).size=1:=rfl;omega
theorem af4(nm n:d9)(s:TS):s.fail nm n 0=s:=by unfold TS.fail;rfl
section
variable {A:AT} {N:Nat}
theorem Sb.makeR(hI:Inv A)(hB:Bd N A)(hN:N<=1000000000000)(gh:Int)(gu:d9)(kind mode:Int)(data:d9):Sb A (A.makeR gh gu kind mode data).2.2:=by
 unfold AT.makeR;split
 ·rename_i he;obtain⟨⟨nd,hd,_⟩,_,_,mq,_⟩:=aF3 he;have hl:A.last<4611686018427387904:=by have:=hB.last;omega
  refine⟨fun i n hn=>?_⟩;show ∃m,(A.made gh gu kind mode data).get i=some m/\_;rw[ax9 hI hl hd];by_cases h1:i=gh
  ·subst h1;rw[hd]at hn;cases hn;rw[d8 rfl];refine⟨_,rfl,rfl,rfl,fun _=>rfl,fun s j hs=>?_⟩;show lk s (up gu (A.last+1) nd.gj)=some j;rw[ax0];by_cases e:s=gu
   ·subst e;unfold AT.find at mq;rw[hd]at mq;have mq:lk s nd.gj=none:=mq;rw[hs]at mq;cases mq
   ·rw[show(s==gu)=false from by simpa using e];exact hs
  ·rw[d7 h1];have:i≠A.last+1:=by have:=(hI.low i n hn).2;omega
   rw[d7 this];exact⟨n,hn,rfl,rfl,fun _=>rfl,fun _ _ h=>h⟩
 ·exact Sb.refl A
theorem Sb.set{i:Int}{n m:AN}(hn:A.get i=some n)(h1:m.kind=n.kind)(h2:m.up=n.up)(h3:n.kind=3->m.data=n.data)(h4:m.gj=n.gj):Sb A (A.set i m):=⟨fun j k hk=>by
 rw[AT.get_set];by_cases e:j=i
 ·subst e;rw[hn]at hk;cases hk;rw[d8 rfl];exact⟨m,rfl,h1,h2,h3,fun s t h=>by rw[h4];exact h⟩
 ·rw[d7 e]
  exact⟨k,hk,rfl,rfl,fun _=>rfl,fun _ _ h=>h⟩⟩
theorem Sb.writeR(i:Int)(d:d9):Sb A (A.writeR i d).2:=by
 unfold AT.writeR;split
 ·rename_i he;show Sb A (A.written i d);unfold AT.written;split
  ·exact Sb.refl A
  ·rename_i n hn;have hk:n.kind≠3:=by
    intro hk;have hf:A.fileE i=2:=by unfold AT.fileE;rw[hn];simp[hk]
    unfold AT.writeE at he;simp[N0,hf]at he
   have:=Sb.set (A:=A) (m:={n with data:=d}) hn rfl rfl (fun e=>m7 e hk) rfl;exact⟨this.node⟩
 ·exact Sb.refl A
theorem Sb.chmodR(i m:Int):Sb A (A.chmodR i m).2:=by
 unfold AT.chmodR;split
 ·show Sb A (A.chmoded i m);unfold AT.chmoded AT.mod;split
  ·exact Sb.refl A
  ·rename_i n hn;exact Sb.set (m:={n with mode:=m}) hn rfl rfl (fun _=>rfl) rfl
 ·exact Sb.refl A
theorem Sb.mkdirF(hI:Inv A)(hB:Bd N A)(hN:N<=1000000000000)(gb p:d9):Sb A (A.mkdirF gb p).2:=by
 unfold AT.mkdirF;simp only;split
 ·exact Sb.refl A
 split
 ·exact Sb.refl A
 ·exact Sb.makeR hI hB hN _ _ _ _ _
theorem Sb.madeF(hI:Inv A)(hB:Bd N A)(hN:N<=1000000000000)(gb p:d9):Sb A (A.madeF gb p).2:=by
 unfold AT.madeF;simp only;split<;>exact Sb.mkdirF hI hB hN gb p
theorem Sb.symlinkF(hI:Inv A)(hB:Bd N A)(hN:N<=1000000000000)(gb t p:d9):Sb A (A.symlinkF gb t p).2:=by
 unfold AT.symlinkF;simp only;split
 ·exact Sb.refl A
 split
 ·exact Sb.refl A
 ·exact Sb.makeR hI hB hN _ _ _ _ _
theorem Sb.writeF(hI:Inv A)(hB:Bd N A)(hN:N<=1000000000000)(gb p d:d9)(more:Bool):Sb A (A.writeF gb p d more).2:=by
 unfold AT.writeF;simp only;split
 ·exact Sb.refl A
 split
 ·exact Sb.makeR hI hB hN _ _ _ _ _
 split
 ·exact Sb.refl A
 ·exact Sb.writeR _ _
theorem Sb.chmodF(gb p:d9)(m:Int):Sb A (A.chmodF gb p m).2:=by
 unfold AT.chmodF;simp only;split
 ·exact Sb.refl A
 split
 ·exact Sb.refl A
 ·exact Sb.chmodR _ _
theorem Sb.fileP(hI:Inv A)(hB:Bd N A)(hN:N<=1000000000000)(gb gk tq:d9)(m:Int):Sb A (A.fileP gb gk tq m).2:=by
 unfold AT.fileP;simp only;have hx:Sb A (if(A.read gb gk).1==0 then A.writeF gb tq (A.read gb gk).2 false else((A.read gb gk).1,A)).2:=by
  split
  ·exact Sb.writeF hI hB hN _ _ _ _
  ·exact Sb.refl A
 generalize (if(A.read gb gk).1==0 then A.writeF gb tq (A.read gb gk).2 false else((A.read gb gk).1,A))=X at hx⊢;split
 ·exact hx.trans (Sb.chmodF _ _ _)
 ·exact hx
theorem Sb.unlinkR(hI:Inv A)(hB:Bd N A)(hN:N<=1000000000000)(gh:Int)(gu:d9):Sb (A.unlinkR gh gu).2 A:=by
 unfold AT.unlinkR;by_cases he:A.unlinkE gh gu=0
 case neg=>rw[d7 he];exact Sb.refl A
 rw[d8 he];obtain⟨⟨nd,hd,_⟩,gf,hf,_⟩:=aA2 he;obtain⟨_,_,_,_,_,nn,ix,_⟩:=hI.find hf;obtain⟨_,_,_,_,_,hg⟩:=as1 hI hB (by omega) he hd hf ix;refine⟨fun j n hn=>?_⟩;have h1:=hg j;have hn:(A.unlinked gh gu).get j=some n:=hn;rw[hn]at h1;split at h1
 ·cases h1
 ·obtain⟨k,hk,hu⟩:=aR8 h1.symm;obtain⟨u1,_,u3,u4,u5⟩:=by1 hu;rw[AT.get_set]at hk;by_cases e:j=gh
  ·subst e;rw[d8 rfl]at hk;cases hk;refine⟨nd,hd,u1,u4,fun _=>u3,fun s t hs=>?_⟩;rw[<-u5]at hs;have hs:lk s (rm gu nd.gj)=some t:=hs;rw[ak1 (hI.enod j nd hd)]at hs;by_cases e:(s==gu)=true
   ·rw[d8 e]at hs;cases hs
   ·rw[d7 e]at hs;exact hs
  ·rw[d7 e]at hk;exact⟨k,hk,u1,u4,fun _=>u3,fun s t hs=>by rw[u5];exact hs⟩
theorem Sb.removeF(hI:Inv A)(hB:Bd N A)(hN:N<=1000000000000)(gb p:d9):Sb (A.removeF gb p).2 A:=by
 unfold AT.removeF;simp only;split
 ·exact Sb.refl A
 split
 ·exact Sb.refl A
 split
 ·exact Sb.refl A
 split
 ·exact Sb.refl A
 ·exact Sb.unlinkR hI hB hN _ _
end
def aD5(E A:AT)(D f:Nat)(gb p:d9):Nat:=if f=0 then 0 else if(A.stat gb p false).1=0 then E.cnt D f (A.locate gb p false).2.gf else D
theorem bG7(E:AT)(D:Nat){f:Nat}(hf:f≠0)(j:Int):1+D<=E.cnt D f j:=by
 cases f with
 |zero=>exact m7 rfl hf
 |succ f=>unfold AT.cnt;omega
theorem cs2(E A:AT)(D:Nat){f:Nat}(hf:f≠0)(gb p:d9):D<=aD5 E A D f gb p:=by
 unfold aD5;rw[d7 hf];split
 ·have:=bG7 E D hf (A.locate gb p false).2.gf;omega
 ·exact A7 _
theorem bf0(nm gb ge:d9)(f:Nat)(s:TS)(gc:d9):TS.rm nm gb ge (f+1) s gc =
 if(s.A.stat gb gc false).1==5&&I8 ge 102 then(0,s)
 else if !((s.A.stat gb gc false).1==0)then((s.A.stat gb gc false).1,s)
 else if(s.A.stat gb gc false).2.kind==2 && !I8 ge 114 then(7,s)
 else(((if(s.A.stat gb gc false).2.kind==2 then(s.A.listF gb gc).2.foldl (J6 nm gb ge gc f) s else s).A.removeF gb gc).1,{ (if(s.A.stat gb gc false).2.kind==2 then(s.A.listF gb gc).2.foldl (J6 nm gb ge gc f) s else s)with A:=((if(s.A.stat gb gc false).2.kind==2 then(s.A.listF gb gc).2.foldl (J6 nm gb ge gc f) s else s).A.removeF gb gc).2}):=rfl
theorem cb5{N D:Nat}(hN:N<=1000000000000)(nm gb ge:d9)(hD:nm.size+319<=D):∀ (f:Nat) (s:TS) (p:d9),Inv s.A->Bd N s.A->p.size<=312->Sb (TS.rm nm gb ge f s p).2.A s.A/\((TS.rm nm gb ge f s p).2.fail nm p (TS.rm nm gb ge f s p).1).err.size<=s.err.size+aD5 s.A s.A D f gb p:=by
 intro f
 induction f with
 |zero=>intro s p _ _ _;exact⟨Sb.refl _,by show(s.fail nm p 0).err.size<=_;rw[af4];omega⟩
 |succ f ih =>
  intro s p hI hB hp;have uv:=cs2 s.A s.A D (f:=f+1) (Nat.succ_ne_zero f) gb p;have pt:Er (s.A.stat gb p false).1:=ad7 _ _ _;rw[bf0];by_cases h1:((s.A.stat gb p false).1==5&&I8 ge 102)=true
  ·rw[d8 h1];exact⟨Sb.refl _,by show(s.fail nm p 0).err.size<=_;rw[af4];omega⟩
  rw[d7 h1];by_cases h2:(!((s.A.stat gb p false).1==0))=true
  ·rw[d8 h2];refine⟨Sb.refl _,?_⟩;exact C7 (av5 (nm:=nm) (n:=p) (s:=s) pt) (by omega)
  rw[d7 h2];have h0:(s.A.stat gb p false).1=0:=by simpa using h2
  by_cases h3:((s.A.stat gb p false).2.kind==2 && !I8 ge 114)=true
  ·rw[d8 h3];refine⟨Sb.refl _,?_⟩;exact C7 (av5 (nm:=nm) (n:=p) (s:=s) (e:=7) (K3 (by omega))) (by omega)
  rw[d7 h3];obtain⟨q,n,l1,l2,l3,l4⟩:=ay7 h0;have yj:=ah7 (at5 h0);have key:∀t:TS,t=(if(s.A.stat gb p false).2.kind==2 then(s.A.listF gb p).2.foldl (J6 nm gb ge p f) s else s)->Sb t.A s.A/\Inv t.A/\Bd N t.A/\t.err.size+D+1<=s.err.size+s.A.cnt D (f+1) q.gf:=by
   intro t ht;by_cases hk:(s.A.stat gb p false).2.kind=2
   ·rw[d8 (by simpa using hk)]at ht;have zx:s.A.kind q.gf=2:=by unfold AT.kind;rw[l3];rw[l4]at hk;exact hk
    rw[bn3 hI (bn2 l1 l2 zx) l2 zx]at ht;have go:∀ (l:List d9) (u:TS),(∀x∈l,x∈s.A.gd q.gf)->Sb u.A s.A->Inv u.A->Bd N u.A->Sb (l.foldl (J6 nm gb ge p f) u).A s.A/\Inv (l.foldl (J6 nm gb ge p f) u).A/\Bd N (l.foldl (J6 nm gb ge p f) u).A/\(l.foldl (J6 nm gb ge p f) u).err.size<=u.err.size+(l.map fun n=>56+AT.cnt s.A D f ((s.A.find q.gf n).getD 0)).sum:=by
     intro l
     induction l with
     |nil=>intro u _ a b c;exact⟨a,b,c,by simp⟩
     |cons x r ihl =>
      intro u hx a b c;rw[H3,H5,List.sum_cons];obtain⟨j,hj,o1,o2,o3⟩:=aD4 hI (hx x (H7 ..));have vt:=ab0 p x;obtain⟨i1,i2⟩:=ih u (H8 p x) b c (by omega);obtain⟨v1,v2⟩:=ay4 (by omega:N<4611686018427387904) nm gb ge f u (H8 p x) ⟨b,c⟩;have kn:(J6 nm gb ge p f u x).A=(TS.rm nm gb ge f u (H8 p x)).2.A:=N7 _ _ _ _;obtain⟨w1,w2,w3,w4⟩:=ihl (J6 nm gb ge p f u x) (fun y hy=>hx y (E4 _ hy)) (by rw[kn];exact i1.trans a) (by rw[kn];exact v1) (by rw[kn];exact v2);refine⟨w1,w2,w3,C7 w4 ?_⟩;have i2:(J6 nm gb ge p f u x).err.size<=_:=i2;have hc:aD5 u.A u.A D f gb (H8 p x)<=56+AT.cnt s.A D f ((s.A.find q.gf x).getD 0):=by
       unfold aD5;by_cases hf:f=0
       ·rw[d8 hf];omega
       rw[d7 hf];by_cases hs:(u.A.stat gb (H8 p x) false).1=0
       ·rw[d8 hs];obtain⟨r1,m1,b1,b2,b3,_⟩:=ay7 hs;have td:=ay6 b a b1 b2;have:=(bG6 l1 l2 zx o1 o2 td).1;rw[b1];show AT.cnt u.A D f r1.gf<=_;rw[this];have:=cb4 b hI a D f ((s.A.find q.gf x).getD 0);omega
       ·rw[d7 hs];have:=bG7 s.A D hf ((s.A.find q.gf x).getD 0);omega
      omega
    obtain⟨w1,w2,w3,w4⟩:=go (s.A.gd q.gf) s (fun _ h=>h) (Sb.refl _) hI hB;rw[<-ht]at w1 w2 w3 w4;refine⟨w1,w2,w3,?_⟩;unfold AT.cnt;omega
   ·rw[d7 (by simpa using hk)]at ht;have:=bG7 s.A D (f:=f+1) (Nat.succ_ne_zero f) q.gf;rw[ht];exact⟨Sb.refl _,hI,hB,by omega⟩
  obtain⟨w1,w2,w3,w4⟩:=key _ rfl;generalize (if(s.A.stat gb p false).2.kind==2 then(s.A.listF gb p).2.foldl (J6 nm gb ge p f) s else s)=t at w1 w2 w3 w4⊢;refine⟨(Sb.removeF w2 w3 hN gb p).trans w1,?_⟩;have:=av5 (nm:=nm) (n:=p) (s:={t with A:=(t.A.removeF gb p).2}) (at4 (A:=t.A) gb p);have e:({t with A:=(t.A.removeF gb p).2}:TS).err=t.err:=rfl;rw[e]at this;have hcq:aD5 s.A s.A D (f+1) gb p=s.A.cnt D (f+1) q.gf:=by
   unfold aD5;rw[d7 (Nat.succ_ne_zero f),d8 h0,l1]
  rw[hcq];show(TS.fail nm {t with A:=(t.A.removeF gb p).2} p (t.A.removeF gb p).1).err.size<=_;omega
theorem aS0(nm gb ge:d9)(f:Nat)(s:TS)(gk tq:d9):TS.cp nm gb ge (f+1) s gk tq =
 if !((s.A.stat gb gk (!I8 ge 114)).1==0)then((s.A.stat gb gk (!I8 ge 114)).1,s)
 else if(s.A.stat gb gk (!I8 ge 114)).2.kind==3 then onA s (s.A.symlinkF gb (s.A.stat gb gk (!I8 ge 114)).2.data tq)
 else if(s.A.stat gb gk (!I8 ge 114)).2.kind==1 then onA s (s.A.fileP gb gk tq (s.A.stat gb gk (!I8 ge 114)).2.mode)
 else if !I8 ge 114 then(7,s)
 else if s.A.insideP gb gk tq then(2,s)
 else if !((s.A.madeF gb tq).1==0)then((s.A.madeF gb tq).1,{s with A:=(s.A.madeF gb tq).2})
 else(0,((s.A.madeF gb tq).2.listF gb gk).2.foldl (N2 nm gb ge gk tq f) {s with A:=(s.A.madeF gb tq).2}):=rfl
theorem cm4{M:Nat}(hM:M<=900000000000)(nm gb ge:d9):∀ (f:Nat) (s:TS) (a b:d9),U4 M s.A->Sb s.A (TS.cp nm gb ge f s a b).2.A:=by
 intro f
 induction f with
 |zero=>intro s a b _;exact Sb.refl _
 |succ f ih =>
  intro s a b h;rw[aS0];split
  ·exact Sb.refl _
  split
  ·exact Sb.symlinkF h.inv h.bd' (by omega) _ _ _
  split
  ·exact Sb.fileP h.inv h.bd' (by omega) _ _ _ _
  split
  ·exact Sb.refl _
  split
  ·exact Sb.refl _
  have hm:=Sb.madeF h.inv h.bd' (by omega) gb b;have hp:=h.made (by omega) gb b;split
  ·exact hm
  ·have key : ∀ (l : List d9) (t : TS), U4 M t.A -> Sb t.A (l.foldl (N2 nm gb ge a b f) t).A := by
    intro l
    induction l with
    |nil=>intro t _;exact Sb.refl _
    |cons n r ihl =>
     intro t ht;rw[H3];have h1:Sb t.A (N2 nm gb ge a b f t n).A/\U4 M (N2 nm gb ge a b f t n).A:=by
      unfold N2;split
      ·exact⟨Sb.refl _,ht⟩
      ·simp only[N7];exact⟨ih _ _ _ ht,U4.cp (by omega) _ _ _ _ _ _ _ ht⟩
     exact h1.1.trans (ihl _ h1.2)
   exact hm.trans (key _ {s with A:=(s.A.madeF gb b).2} hp)
theorem ar2{M:Nat}(hM:M<=900000000000)(nm gb ge a b:d9)(f:Nat):∀ (l:List d9) (t:TS),U4 M t.A->Sb t.A (l.foldl (N2 nm gb ge a b f) t).A/\U4 M (l.foldl (N2 nm gb ge a b f) t).A:=by
 intro l
 induction l with
 |nil=>intro t h;exact⟨Sb.refl _,h⟩
 |cons n r ihl =>
  intro t ht;rw[H3];have h1:Sb t.A (N2 nm gb ge a b f t n).A/\U4 M (N2 nm gb ge a b f t n).A:=by
   unfold N2;split
   ·exact⟨Sb.refl _,ht⟩
   ·simp only[N7];exact⟨cm4 hM _ _ _ _ _ _ _ ht,U4.cp (by omega) _ _ _ _ _ _ _ ht⟩
  exact⟨h1.1.trans (ihl _ h1.2).1,(ihl _ h1.2).2⟩
theorem cb6{M D:Nat}(hM:M<=900000000000)(nm gb ge:d9)(hD:nm.size+319<=D){E:AT}(hE:Inv E):∀ (f:Nat) (s:TS) (a b:d9),U4 M s.A->a.size<=312->Sb (TS.cp nm gb ge f s a b).2.A E->((TS.cp nm gb ge f s a b).2.fail nm a (TS.cp nm gb ge f s a b).1).err.size<=s.err.size+aD5 E s.A D f gb a:=by
 intro f
 induction f with
 |zero=>intro s a b _ _ _;show(s.fail nm a 0).err.size<=_;rw[af4];omega
 |succ f ih =>
  intro s a b h ha hs;have uv:=cs2 E s.A D (f:=f+1) (Nat.succ_ne_zero f) gb a;have plain:∀ (t:TS) (e:Int),t.err=s.err->Er e->(t.fail nm a e).err.size<=s.err.size+aD5 E s.A D (f+1) gb a:=by
   intro t e h1 h2;have:=av5 (nm:=nm) (n:=a) (s:=t) h2;rw[h1]at this;omega
  rw[aS0]at hs⊢;by_cases h0:(!((s.A.stat gb a (!I8 ge 114)).1==0))=true
  ·rw[d8 h0];exact plain _ _ rfl (ad7 _ _ _)
  rw[d7 h0]at hs⊢;by_cases h3:((s.A.stat gb a (!I8 ge 114)).2.kind==3)=true
  ·rw[d8 h3];exact plain _ _ rfl (ap6 _ _ _)
  rw[d7 h3]at hs⊢;by_cases h1:((s.A.stat gb a (!I8 ge 114)).2.kind==1)=true
  ·rw[d8 h1];exact plain _ _ rfl (be3 _ _ _ _)
  rw[d7 h1]at hs⊢;by_cases hr:(!I8 ge 114)=true
  ·rw[d8 hr];exact plain _ _ rfl (K3 (by omega))
  rw[d7 hr]at hs⊢;by_cases te:s.A.insideP gb a b=true
  ·rw[d8 te];exact plain _ _ rfl (K3 (by omega))
  rw[d7 te]at hs⊢;by_cases ua:(!((s.A.madeF gb b).1==0))=true
  ·rw[d8 ua];exact plain _ _ rfl (aO6 _ _)
  rw[d7 ua]at hs⊢;have sd:(!I8 ge 114)=false:=by simpa using hr
  rw[sd]at h0 h3 h1;have zy:(s.A.stat gb a false).1=0:=by simpa using h0
  obtain⟨q,n,l1,l2,l3,l4⟩:=ay7 zy;have yj:=ah7 (at5 zy);have lz:=h.made (by omega) gb b;have hgm:=Sb.madeF h.inv h.bd' (by omega) gb b;have hk:=av4 (h.inv.like _ _ l3);rw[l4]at h3 h1;have hi:n.inode.kind=n.kind:=rfl;rw[hi]at h3 h1;have jc:n.kind=2:=by
   simp only[beq_iff_eq]at h3 h1;omega
  have zx:s.A.kind q.gf=2:=by unfold AT.kind;rw[l3];exact jc
  generalize (s.A.madeF gb b).2=A1 at lz hgm hs⊢;have l1':=ay6 h.inv hgm l1 l2;have yr:A1.kind q.gf=2:=by rw[hgm.kind (by rw[zx];decide)];exact zx
  rw[bn3 lz.inv (bn2 l1' l2 yr) l2 yr]at hs⊢;have go:∀ (l:List d9) (u:TS),(∀x∈l,x∈A1.gd q.gf)->Sb A1 u.A->U4 M u.A->Sb (l.foldl (N2 nm gb ge a b f) u).A E->(l.foldl (N2 nm gb ge a b f) u).err.size<=u.err.size+(l.map fun n=>56+AT.cnt E D f ((E.find q.gf n).getD 0)).sum:=by
   intro l
   induction l with
   |nil=>intro u _ _ _ _;simp
   |cons x r ihl =>
    intro u hx hu hpu qr;rw[H3,H5,List.sum_cons]at *;obtain⟨j,hj,o1,o2,o3⟩:=aD4 lz.inv (hx x (H7 ..));have vt:=ab0 a x;have tf:=ar2 hM nm gb ge a b f [x] u hpu;rw[H3,List.foldl_nil]at tf;have ir:=(ar2 hM nm gb ge a b f r _ tf.2).1;have i1:=ihl (N2 nm gb ge a b f u x) (fun y hy=>hx y (E4 _ hy)) (hu.trans tf.1) tf.2 qr;refine C7 i1 ?_;have hstep:(N2 nm gb ge a b f u x).err.size<=u.err.size+(56+AT.cnt E D f ((E.find q.gf x).getD 0)):=by
     by_cases sg:u.full=true
     ·unfold N2;rw[d8 sg];omega
     have pe:N2 nm gb ge a b f u x=(TS.cp nm gb ge f u (H8 a x) (H8 b x)).2.fail nm (H8 a x) (TS.cp nm gb ge f u (H8 a x) (H8 b x)).1:=by unfold N2;rw[d7 sg]
     have hA:(N2 nm gb ge a b f u x).A=(TS.cp nm gb ge f u (H8 a x) (H8 b x)).2.A:=by rw[pe,N7]
     have i2:=ih u (H8 a x) (H8 b x) hpu (by omega) (by rw[<-hA];exact ir.trans qr);rw[pe];refine C7 i2 ?_;have hc:aD5 E u.A D f gb (H8 a x)<=56+AT.cnt E D f ((E.find q.gf x).getD 0):=by
      unfold aD5;by_cases hf:f=0
      ·rw[d8 hf];omega
      rw[d7 hf];by_cases rz:(u.A.stat gb (H8 a x) false).1=0
      ·rw[d8 rz];obtain⟨r1,m1,b1,b2,b3,_⟩:=ay7 rz;have hkq2:u.A.kind q.gf=2:=by rw[hu.kind (by rw[yr];decide)];exact yr
       have:=(bG6 (ay6 lz.inv hu l1' l2) l2 hkq2 o1 o2 b1).1;rw[b1];show AT.cnt E D f r1.gf<=_;rw[this,hu.find hj,((tf.1.trans ir).trans qr).find (hu.find hj)];omega
      ·rw[d7 rz];have:=bG7 E D hf ((E.find q.gf x).getD 0);omega
     omega
    omega
  have pi:=go (A1.gd q.gf) {s with A:=A1} (fun _ h=>h) (Sb.refl _) lz hs;have hEA:Sb A1 E:=(ar2 hM nm gb ge a b f (A1.gd q.gf) {s with A:=A1} lz).1.trans hs
  have jr:=bn4 (f:=fun n=>56+AT.cnt E D f ((E.find q.gf n).getD 0)) (g:=fun n=>56+AT.cnt E D f ((E.find q.gf n).getD 0)) (l:=A1.gd q.gf) (r:=E.gd q.gf) (be8 lz.inv q.gf) (fun x hx=>by
   obtain⟨j,hj,_⟩:=aD4 lz.inv hx
   exact⟨aQ9 (hEA.find hj),A7 _⟩)
  show(TS.fail nm ((A1.gd q.gf).foldl (N2 nm gb ge a b f) {s with A:=A1}) a 0).err.size<=_;rw[af4];have hcq:aD5 E s.A D (f+1) gb a=E.cnt D (f+1) q.gf:=by
   unfold aD5;rw[d7 (Nat.succ_ne_zero f),d8 zy,l1]
  rw[hcq];unfold AT.cnt;have e0:({s with A:=A1}:TS).err=s.err:=rfl;rw[e0]at pi;omega
def AT.rl(A:AT):Int:=((A.get 1).map (·.links)).getD 0
structure Kp(A E:AT):Prop where
 qi:E.qi=A.qi
 rl:E.rl=A.rl
theorem Kp.refl(A:AT):Kp A A:=⟨rfl,rfl⟩
theorem Kp.trans{A B C:AT}(h1:Kp A B)(h2:Kp B C):Kp A C:=⟨h2.qi.trans h1.qi,h2.rl.trans h1.rl⟩
section
variable {A:AT} {N:Nat}
theorem Kp.set{i:Int}{n m:AN}(hn:A.get i=some n)(h:m.links=n.links):Kp A (A.set i m):=⟨rfl,by
 unfold AT.rl;rw[AT.get_set];by_cases e:(1:Int)=i
 ·subst e;rw[d8 rfl,hn];exact h
 ·rw[d7 e]⟩
theorem Kp.set'{i:Int}{m:AN}(h:i≠1):Kp A (A.set i m):=⟨rfl,by
 unfold AT.rl
 rw[AT.get_set,d7 (fun e=>h e.symm)]⟩
theorem Kp.ent(d:Int)(f:List (d9×Int)->List (d9×Int)):Kp A (A.ent d f):=by
 unfold AT.ent;cases hd:A.get d with
 |none=>exact Kp.refl A
 |some n=>exact Kp.set hd rfl
theorem Kp.mod{i:Int}{f:AN->AN}(h:i≠1\/∀n,(f n).links=n.links):Kp A (A.mod i f):=by
 unfold AT.mod;cases hd:A.get i with
 |none=>exact Kp.refl A
 |some n =>
  rcases h with h|h
  ·exact Kp.set' h
  ·exact Kp.set hd (h n)
theorem Kp.makeR(hI:Inv A)(hB:Bd N A)(hN:N<=1000000000000)(gh:Int)(gu:d9)(kind mode:Int)(data:d9):Kp A (A.makeR gh gu kind mode data).2.2:=by
 unfold AT.makeR;split
 ·rename_i he;obtain⟨⟨nd,hd,_⟩,_⟩:=aF3 he;have hl:A.last<4611686018427387904:=by have:=hB.last;omega
  have hp:=hI.last_pos;refine⟨?_,?_⟩
  ·show(A.made gh gu kind mode data).qi=A.qi;rw[av0 hI hl hd];rfl
  ·show(A.made gh gu kind mode data).rl=A.rl;unfold AT.rl;rw[ax9 hI hl hd];by_cases e:(1:Int)=gh
   ·subst e;rw[d8 rfl,hd];rfl
   ·rw[d7 e,d7 (by omega)]
 ·exact Kp.refl A
theorem Kp.writeR(i:Int)(d:d9):Kp A (A.writeR i d).2:=by
 unfold AT.writeR;split
 ·show Kp A (A.written i d);unfold AT.written;split
  ·exact Kp.refl A
  ·rename_i n hn;have:=Kp.set (A:=A) (m:={n with data:=d}) hn rfl;exact⟨this.qi,this.rl⟩
 ·exact Kp.refl A
theorem Kp.chmodR(i m:Int):Kp A (A.chmodR i m).2:=by
 unfold AT.chmodR;split
 ·exact Kp.mod (.inr fun _=>rfl)
 ·exact Kp.refl A
theorem Kp.linkR(hI:Inv A)(gh:Int)(gu:d9)(gf:Int):Kp A (A.linkR gh gu gf).2:=by
 unfold AT.linkR;split
 ·rename_i he;obtain⟨_,_,⟨n,hn,hk⟩,_⟩:=bF6 he;have h1:gf≠1:=by
   intro e;subst e;obtain⟨r,hr,jc,_⟩:=hI.root;rw[hn]at hr;cases hr;omega
  exact(Kp.ent gh _).trans (Kp.mod (.inl h1))
 ·exact Kp.refl A
theorem bN4(hI:Inv A)(d:Int)(f:List (d9×Int)->List (d9×Int)):(C5 (A.ent d f).nodes).Nodup:=by
 unfold AT.ent;cases A.get d with
 |none=>exact hI.nodup
 |some n=>exact M5 hI.nodup
theorem bN5(h:(C5 A.nodes).Nodup)(i:Int)(f:AN->AN):(C5 (A.mod i f).nodes).Nodup:=by
 unfold AT.mod;cases A.get i with
 |none=>exact h
 |some n=>exact M5 h
theorem Kp.unlinkR(hI:Inv A)(gh:Int)(gu:d9):Kp A (A.unlinkR gh gu).2:=by
 unfold AT.unlinkR;split
 ·rename_i he;obtain⟨_,j,hf,_⟩:=aA2 he;obtain⟨_,_,_,_,h1,_⟩:=hI.find hf;show Kp A (A.unlinked gh gu);unfold AT.unlinked;rw[hf];simp only[Option.getD_some];have hk:Kp A ((A.ent gh (rm gu)).mod j fun n=>{n with links:=wr (n.links-1)}):=(Kp.ent gh _).trans (Kp.mod (.inl h1));have hn:=bN5 (bN4 hI gh (rm gu)) j (fun n=>{n with links:=wr (n.links-1)});generalize ((A.ent gh (rm gu)).mod j fun n=>{n with links:=wr (n.links-1)})=X at hk hn⊢;cases X.get j with
  |none=>exact hk
  |some n =>
   simp only;split
   ·refine⟨hk.qi,?_⟩;rw[<-hk.rl];unfold AT.rl;show((lk 1 (rm j X.nodes)).map (·.links)).getD 0=((lk 1 X.nodes).map (·.links)).getD 0;rw[ak1 hn,d7 (by simpa using fun e=>h1 e.symm)]
   ·exact hk
 ·exact Kp.refl A
theorem Kp.moveR(gk:Int)(gu:d9)(tq:Int)(as_:d9)(f:Nat)(hI:Inv A):Kp A (A.moveR gk gu tq as_ f).2:=by
 rcases aM6 hI (gk:=gk) (tq:=tq) (gu:=gu) (as_:=as_) (f:=f)with e|⟨e,_⟩
 ·rw[e];exact Kp.refl A
 ·rw[e];show Kp A (A.moved gk gu tq as_);unfold AT.moved;exact((Kp.ent gk _).trans (Kp.ent tq _)).trans (Kp.mod (.inr fun n=>by split<;>rfl))
theorem Kp.mkdirF(hI:Inv A)(hB:Bd N A)(hN:N<=1000000000000)(gb p:d9):Kp A (A.mkdirF gb p).2:=by
 unfold AT.mkdirF;simp only;split
 ·exact Kp.refl A
 split
 ·exact Kp.refl A
 ·exact Kp.makeR hI hB hN _ _ _ _ _
theorem Kp.madeF(hI:Inv A)(hB:Bd N A)(hN:N<=1000000000000)(gb p:d9):Kp A (A.madeF gb p).2:=by
 unfold AT.madeF;simp only;split<;>exact Kp.mkdirF hI hB hN gb p
theorem Kp.symlinkF(hI:Inv A)(hB:Bd N A)(hN:N<=1000000000000)(gb t p:d9):Kp A (A.symlinkF gb t p).2:=by
 unfold AT.symlinkF;simp only;split
 ·exact Kp.refl A
 split
 ·exact Kp.refl A
 ·exact Kp.makeR hI hB hN _ _ _ _ _
theorem Kp.writeF(hI:Inv A)(hB:Bd N A)(hN:N<=1000000000000)(gb p d:d9)(more:Bool):Kp A (A.writeF gb p d more).2:=by
 unfold AT.writeF;simp only;split
 ·exact Kp.refl A
 split
 ·exact Kp.makeR hI hB hN _ _ _ _ _
 split
 ·exact Kp.refl A
 ·exact Kp.writeR _ _
theorem Kp.chmodF(gb p:d9)(m:Int):Kp A (A.chmodF gb p m).2:=by
 unfold AT.chmodF;simp only;split
 ·exact Kp.refl A
 split
 ·exact Kp.refl A
 ·exact Kp.chmodR _ _
theorem Kp.fileP(hI:Inv A)(hB:Bd N A)(hN:N<=1000000000000)(gb gk tq:d9)(m:Int):Kp A (A.fileP gb gk tq m).2:=by
 unfold AT.fileP;simp only;have hx:Kp A (if(A.read gb gk).1==0 then A.writeF gb tq (A.read gb gk).2 false else((A.read gb gk).1,A)).2:=by
  split
  ·exact Kp.writeF hI hB hN _ _ _ _
  ·exact Kp.refl A
 generalize (if(A.read gb gk).1==0 then A.writeF gb tq (A.read gb gk).2 false else((A.read gb gk).1,A))=X at hx⊢;split
 ·exact hx.trans (Kp.chmodF _ _ _)
 ·exact hx
theorem Kp.removeF(hI:Inv A)(gb p:d9):Kp A (A.removeF gb p).2:=by
 unfold AT.removeF;simp only;split
 ·exact Kp.refl A
 split
 ·exact Kp.refl A
 split
 ·exact Kp.refl A
 split
 ·exact Kp.refl A
 ·exact Kp.unlinkR hI _ _
theorem Kp.hardF(hI:Inv A)(gb gk tq:d9):Kp A (A.hardF gb gk tq).2:=by
 unfold AT.hardF;simp only;split
 ·exact Kp.refl A
 split
 ·exact Kp.refl A
 split
 ·exact Kp.refl A
 split
 ·exact Kp.refl A
 split
 ·exact Kp.refl A
 ·exact Kp.linkR hI _ _ _
theorem Kp.renameF(hI:Inv A)(hB:Bd N A)(hN:N<=1000000000000)(gb gk tq:d9):Kp A (A.renameF gb gk tq).2:=by
 unfold AT.renameF;simp only;split
 ·exact Kp.refl A
 split
 ·exact Kp.refl A
 split
 ·exact Kp.refl A
 split
 ·exact Kp.refl A
 split
 ·exact Kp.refl A
 split
 ·have hu:=Kp.unlinkR hI (A.both gb gk tq).2.2.gh (A.both gb gk tq).2.2.gu;have hi:=(ap5 hI hB (by omega) (A.both gb gk tq).2.2.gh (A.both gb gk tq).2.2.gu).1;split
  ·exact hu
  ·exact hu.trans (Kp.moveR _ _ _ _ _ hi)
 ·exact Kp.moveR _ _ _ _ _ hI
end
theorem Kp.all{M:Nat}(hM:M<=900000000000)(gb:d9):∀ (l:List d9) (A:AT),U4 M A->Kp A (A.allF gb l).2:=by
 intro l
 induction l with
 |nil=>intro A _;exact Kp.refl A
 |cons p r ih =>
  intro A h;have hk:=Kp.madeF h.inv h.bd' (by omega) gb p;unfold AT.allF;simp only;split
  ·exact hk.trans (ih _ (h.made (by omega) gb p))
  ·exact hk
theorem Kp.rm{N:Nat}(hN:N<=1000000000000)(nm gb ge:d9):∀ (f:Nat) (s:TS) (p:d9),Inv s.A/\Bd N s.A->Kp s.A (TS.rm nm gb ge f s p).2.A:=by
 intro f
 induction f with
 |zero=>intro s a _;exact Kp.refl _
 |succ f ih =>
  intro s a h;rw[bf0];split
  ·exact Kp.refl _
  split
  ·exact Kp.refl _
  split
  ·exact Kp.refl _
  ·have key : ∀ (l : List d9) (t : TS), Inv t.A /\ Bd N t.A -> Kp t.A (l.foldl (J6 nm gb ge a f) t).A /\ Inv (l.foldl (J6 nm gb ge a f) t).A /\ Bd N (l.foldl (J6 nm gb ge a f) t).A := by
    intro l
    induction l with
    |nil=>intro t h;exact⟨Kp.refl _,h.1,h.2⟩
    |cons n r ihl =>
     intro t h;rw[H3];have h1:Kp t.A (J6 nm gb ge a f t n).A/\Inv (J6 nm gb ge a f t n).A/\Bd N (J6 nm gb ge a f t n).A:=by
      unfold J6;simp only[N7];exact⟨ih _ _ h,ay4 (by omega) nm gb ge f t _ h⟩
     have h2:=ihl _ h1.2;exact⟨h1.1.trans h2.1,h2.2⟩
   have q:∀t:TS,t=(if(s.A.stat gb a false).2.kind==2 then(s.A.listF gb a).2.foldl (J6 nm gb ge a f) s else s)->Kp s.A t.A/\Inv t.A:=by
    intro t ht;split at ht
    ·subst ht;exact⟨(key _ _ h).1,(key _ _ h).2.1⟩
    ·subst ht;exact⟨Kp.refl _,h.1⟩
   obtain⟨q1,q2⟩:=q _ rfl;exact q1.trans (Kp.removeF q2 gb a)
theorem Kp.cp{M:Nat}(hM:M<=900000000000)(nm gb ge:d9):∀ (f:Nat) (s:TS) (a b:d9),U4 M s.A->Kp s.A (TS.cp nm gb ge f s a b).2.A:=by
 intro f
 induction f with
 |zero=>intro s a b _;exact Kp.refl _
 |succ f ih =>
  intro s a b h;rw[aS0];split
  ·exact Kp.refl _
  split
  ·exact Kp.symlinkF h.inv h.bd' (by omega) _ _ _
  split
  ·exact Kp.fileP h.inv h.bd' (by omega) _ _ _ _
  split
  ·exact Kp.refl _
  split
  ·exact Kp.refl _
  have hm:=Kp.madeF h.inv h.bd' (by omega) gb b;have hp:=h.made (by omega) gb b;split
  ·exact hm
  ·have key : ∀ (l : List d9) (t : TS), U4 M t.A -> Kp t.A (l.foldl (N2 nm gb ge a b f) t).A := by
    intro l
    induction l with
    |nil=>intro t _;exact Kp.refl _
    |cons n r ihl =>
     intro t ht;rw[H3];have h1:Kp t.A (N2 nm gb ge a b f t n).A/\U4 M (N2 nm gb ge a b f t n).A:=by
      unfold N2;split
      ·exact⟨Kp.refl _,ht⟩
      ·simp only[N7];exact⟨ih _ _ _ ht,U4.cp (by omega) _ _ _ _ _ _ _ ht⟩
     exact h1.1.trans (ihl _ h1.2)
   exact hm.trans (key _ {s with A:=(s.A.madeF gb b).2} hp)
theorem bn5{nm:d9}{do_:TS->d9->Int×TS}{Q:Nat->TS->Prop}:∀ (l:List d9) (k:Nat) (s:TS),(∀n∈l,∀k s,Q k s->Q (k+1) ((do_ s n).2.fail nm n (do_ s n).1))->Q k s->∃j,k<=j/\j<=k+l.length/\Q j (TS.each nm do_ l s):=by
 intro l
 induction l with
 |nil=>intro k s _ h;exact⟨k,A7 _,by simp,h⟩
 |cons n r ih =>
  intro k s hs h;unfold TS.each;split
  ·exact⟨k,A7 _,by simp,h⟩
  ·obtain⟨j,j1,j2,j3⟩:=ih (k+1) _ (fun m hm=>hs m (E4 _ hm)) (hs n (H7 ..) k s h);exact⟨j,by omega,by rw[H4];omega,j3⟩
def XE:Nat:=100000000000
theorem bN6{A:AT}(hI:Inv A){N:Nat}(hB:Bd N A)(hN:N<=540)(f:Nat)(hf:f<=300)(j:Int):A.cnt 500 f j<=XE:=by
 have Dc:XE=100000000000:=rfl;by_cases hk:A.kind j=2
 ·have h2:=by7 hI hB 500 f [j] (by simp) (by intro d hd;simp at hd;rw[hd];exact hk);simp only[H5,List.map_nil,List.sum_cons,List.sum_nil]at h2;have h3:N*(1+500+N*(57+500))<=540*(1+500+540*(57+500)):=Nat.mul_le_mul hN (by have:N*(57+500)<=540*(57+500):=Nat.mul_le_mul_right _ hN;omega);have h4:(f+1)*(N*(1+500+N*(57+500)))<=301*(540*(1+500+540*(57+500))):=Nat.mul_le_mul (by omega) h3;omega
 ·have:=bn1 hI 500 f hk;omega
theorem aZ6{E A:AT}(hI:Inv E){N:Nat}(hB:Bd N E)(hN:N<=540)(f:Nat)(hf:f<=300)(gb p:d9):aD5 E A 500 f gb p<=XE:=by
 have Dc:XE=100000000000:=rfl;unfold aD5;split
 ·omega
 split
 ·exact bN6 hI hB hN f hf _
 ·omega
structure bz0(N:Nat)(A:AT)(s:TS):Prop where
 inv:Inv s.A
 bd:Bd (N+40) s.A
 kp:Kp A s.A
 err:s.err.size<=1000000000000
 out:s.out.size<=1000000000000
theorem cb7{N:Nat}{A E:AT}(h:U4 N E)(hk:Kp A E)(hq:A.qi<=40):Bd (N+40) E:=by
 have h1:=h.inv.uq;have h2:=hk.qi;exact h.bd.mono (by omega)
section
variable {A:AT} {N:Nat} {nm gb ge:d9} {gd:List d9}
theorem bf1(hI:Inv A)(hB:Bd N A)(hN:N<=500)(hq:A.qi<=40)(hl:gd.length<=6){do_:TS->d9->Int×TS}
 (step:∀n∈gd,∀s,U4 N s.A->Kp A s.A->U4 N (do_ s n).2.A/\Kp A (do_ s n).2.A/\((do_ s n).2.fail nm n (do_ s n).1).err.size<=s.err.size+XE/\(do_ s n).2.out=s.out):bz0 N A (TS.each nm do_ gd (TS.new A)):=by
 have Dc:XE=100000000000:=rfl
 obtain⟨j,_,j2,p1,p2,p3,p4⟩:=bn5 (nm:=nm) (do_:=do_) (Q:=fun k s=>U4 N s.A/\Kp A s.A/\s.err.size<=k*XE/\s.out=⟨⟨[]⟩⟩) gd 0 (TS.new A) (fun n hn k s ⟨h1,h2,h3,h4⟩=>by
  obtain⟨a,b,c,d⟩:=step n hn s h1 h2;rw[N7,ap7]
  exact⟨a,b,by rw[K9,Nat.one_mul];omega,d.trans h4⟩) ⟨U4.of hI hB,Kp.refl A,Nat.zero_le _,rfl⟩
 have:j*XE<=6*XE:=Nat.mul_le_mul_right _ (by omega);exact⟨p1.inv,cb7 p1 p2 hq,p2,by omega,by rw[p4];decide⟩
theorem aG4(hI:Inv A)(hB:Bd N A)(hN:N<=500)(hl:gd.length<=6){do_:TS->d9->Int×TS}
 (step:∀n∈gd,∀M s,M<=506->Inv s.A->Bd M s.A->Kp A s.A->Inv (do_ s n).2.A/\Bd (M+1) (do_ s n).2.A/\Kp A (do_ s n).2.A/\((do_ s n).2.fail nm n (do_ s n).1).err.size<=s.err.size+XE/\(do_ s n).2.out=s.out):bz0 N A (TS.each nm do_ gd (TS.new A)):=by
 have Dc:XE=100000000000:=rfl
 obtain⟨j,_,j2,p0⟩:=bn5 (nm:=nm) (do_:=do_) (Q:=fun k s=>k<=6->Inv s.A/\Bd (N+k) s.A/\Kp A s.A/\s.err.size<=k*XE/\s.out=⟨⟨[]⟩⟩) gd 0 (TS.new A) (fun n hn k s h hk=>by
  obtain⟨h0,h1,h2,h3,h4⟩:=h (by omega);obtain⟨a,b,c,d,e⟩:=step n hn (N+k) s (by omega) h0 h1 h2;rw[N7,ap7]
  exact⟨a,b,c,by rw[K9,Nat.one_mul];omega,e.trans h4⟩) (fun _=>⟨hI,hB,Kp.refl A,Nat.zero_le _,rfl⟩)
 obtain⟨p0,p1,p2,p3,p4⟩:=p0 (by omega);have:j*XE<=6*XE:=Nat.mul_le_mul_right _ (by omega);exact⟨p0,p1.mono (by omega),p2,by omega,by rw[p4];decide⟩
theorem aS1(ht:ab7.any (fun t=>E8 nm t)=true):nm.size<=5:=by
 obtain⟨t,h1,h2⟩:=List.any_eq_true.1 ht;rw[J9.1 h2];have:∀t∈ab7,t.size<=5:=by decide +kernel
 exact this t h1
theorem at6{e:Int}(he:Er e){n:d9}{s t:TS}(il:nm.size<=5)(hn:n.size<=300)(ht:t.err=s.err):(t.fail nm n e).err.size<=s.err.size+XE:=by
 have Dc:XE=100000000000:=rfl;have:=av5 (nm:=nm) (n:=n) (s:=t) he;rw[ht]at this;omega
theorem bn6(hI:Inv A)(hB:Bd N A)(hN:N<=500)(hl:gd.length<=6)(hz:∀n∈gd,n.size<=40)(il:nm.size<=5){do_:TS->d9->d9->Int×TS}
 (h:∀tq l,gd.getLast?=some tq->l=gd.dropLast->bz0 N A (TS.each nm (fun t n=>do_ t n (if A.dirB gb tq then H8 tq (ah6 n)else tq)) l (TS.new A))):bz0 N A (TS.into nm gb do_ gd (TS.new A)):=by
 have Dc:XE=100000000000:=rfl;have mn:(⟨⟨[]⟩⟩:d9).size=0:=rfl;unfold TS.into;cases hg:gd.getLast? with
 |none=>exact⟨hI,hB.mono (by omega),Kp.refl A,by show(⟨⟨[]⟩⟩:d9).size<=_;omega,by show(⟨⟨[]⟩⟩:d9).size<=_;omega⟩
 |some tq =>
  simp only;split
  ·have hto:=hz tq (List.mem_of_getLast? hg);refine⟨by rw[N7];exact hI,by rw[N7];exact hB.mono (by omega),by rw[N7];exact Kp.refl A,?_,by rw[ap7];show(⟨⟨[]⟩⟩:d9).size<=_;omega⟩;have:=av5 (nm:=nm) (n:=tq) (s:=TS.new A) (e:=8) (K3 (by omega));have e0:(TS.new A).err.size=0:=rfl;omega
  ·exact h tq _ hg rfl
theorem cb8(il:nm.size<=5):∀ (l:List d9) (s:TS) (p d:List d9),(∀n∈l,n.size<=40)->(TS.sift nm gb l s p d).1.err.size<=s.err.size+l.length*60/\(TS.sift nm gb l s p d).1.A=s.A/\(TS.sift nm gb l s p d).1.out=s.out/\(TS.sift nm gb l s p d).2.1.length<=p.length+l.length/\(TS.sift nm gb l s p d).2.2.length<=d.length+l.length/\(∀x∈(TS.sift nm gb l s p d).2.1,x∈p\/x∈l)/\(∀x∈(TS.sift nm gb l s p d).2.2,x∈d\/x∈l):=by
 intro l
 induction l with
 |nil=>intro s p d _;exact⟨by simp[TS.sift],rfl,rfl,by simp[TS.sift],by simp[TS.sift],fun x h=>.inl h,fun x h=>.inl h⟩
 |cons n r ih =>
  intro s p d hz;have hzr:∀x∈r,x.size<=40:=fun x hx=>hz x (E4 _ hx);have hn:=hz n (H7 ..);unfold TS.sift;split
  ·exact⟨Nat.le_add_right _ _,rfl,rfl,Nat.le_add_right _ _,Nat.le_add_right _ _,fun x h=>.inl h,fun x h=>.inl h⟩
  split
  ·obtain⟨a,b,c,d1,e,f,g⟩:=ih s p (d++[n]) hzr;rw[P3,ai1]at e;refine⟨by rw[H4,Nat.succ_mul];omega,b,c,by rw[H4];omega,by rw[H4];omega,fun x hx=>?_,fun x hx=>?_⟩
   ·rcases f x hx with h|h
    ·exact .inl h
    ·exact .inr (E4 _ h)
   ·rcases g x hx with h|h
    ·rcases Q4.1 h with h|h
     ·exact .inl h
     ·rw[T9]at h;subst h;exact .inr (H7 ..)
    ·exact .inr (E4 _ h)
  ·have pt:Er (if(s.A.stat gb n true).1==0 then(s.A.stat gb n true).1 else(s.A.stat gb n false).1):=W3 (ad7 _ _ _) (ad7 _ _ _);simp only;generalize (if(s.A.stat gb n true).1==0 then(s.A.stat gb n true).1 else(s.A.stat gb n false).1)=e at pt⊢;have vh:=av5 (nm:=nm) (n:=n) (s:=s) pt;obtain⟨a,b,c,d1,e',f,g⟩:=ih (s.fail nm n e) (if e==0 then p++[n]else p) d hzr;rw[N7]at b;rw[ap7]at c;have jf:(if e==0 then p++[n]else p).length<=p.length+1:=by split<;>simp
   refine⟨by rw[H4,Nat.succ_mul];omega,b,c,by rw[H4];omega,by rw[H4];omega,fun x hx=>?_,fun x hx=>?_⟩
   ·rcases f x hx with h|h
    ·split at h
     ·rcases Q4.1 h with h|h
      ·exact .inl h
      ·rw[T9]at h;subst h;exact .inr (H7 ..)
     ·exact .inl h
    ·exact .inr (E4 _ h)
   ·rcases g x hx with h|h
    ·exact .inl h
    ·exact .inr (E4 _ h)
theorem X4(s:TS)(l:d9):(s.say l).out.size=s.out.size+l.size+1:=by
 unfold TS.say;show(s.out++l++⟨⟨[10]⟩⟩).size=_;rw[D8,D8];rfl
theorem cb9{K:Nat}:∀ (l:List d9) (s:TS),(∀n∈l,n.size<=K)->(l.foldl TS.say s).out.size<=s.out.size+l.length*(K+1)/\(l.foldl TS.say s).A=s.A/\(l.foldl TS.say s).err=s.err:=by
 intro l
 induction l with
 |nil=>intro s _;exact⟨by simp,rfl,rfl⟩
 |cons n r ih =>
  intro s h;rw[H3];obtain⟨a,b,c⟩:=ih (s.say n) fun x hx=>h x (E4 _ hx);rw[X4]at a;have:=h n (H7 ..);exact⟨by rw[H4,Nat.succ_mul];omega,b,c⟩
theorem bz1(hI:Inv A)(hB:Bd N A)(head:Bool)(s:TS)(hs:s.A=A)(gc:d9)(hz:gc.size<=40):(TS.gm gb ge head s gc).out.size<=s.out.size+42+N*57/\(TS.gm gb ge head s gc).A=A/\(TS.gm gb ge head s gc).err=s.err:=by
 have go:∀ (l:List d9) (t:TS),(∀n∈l,n.size<=56)->(l.foldl (fun t n=>if !C8 46 n||I8 ge 97 then t.say n else t) t).out.size<=t.out.size+l.length*57/\(l.foldl (fun t n=>if !C8 46 n||I8 ge 97 then t.say n else t) t).A=t.A/\(l.foldl (fun t n=>if !C8 46 n||I8 ge 97 then t.say n else t) t).err=t.err:=by
  intro l
  induction l with
  |nil=>intro t _;exact⟨by simp,rfl,rfl⟩
  |cons n r ih =>
   intro t h;rw[H3];have hn:=h n (H7 ..);obtain⟨a,b,c⟩:=ih (if !C8 46 n||I8 ge 97 then t.say n else t) fun x hx=>h x (E4 _ hx);have hs:(if !C8 46 n||I8 ge 97 then t.say n else t).out.size<=t.out.size+57/\(if !C8 46 n||I8 ge 97 then t.say n else t).A=t.A/\(if !C8 46 n||I8 ge 97 then t.say n else t).err=t.err:=by
    split
    ·rw[X4];exact⟨by omega,rfl,rfl⟩
    ·exact⟨by omega,rfl,rfl⟩
   exact⟨by rw[H4,Nat.succ_mul];omega,b.trans hs.2.1,c.trans hs.2.2⟩
 unfold TS.gm;simp only;have h0:(if head then s.say (gc++⟨⟨[58]⟩⟩)else s).out.size<=s.out.size+42/\(if head then s.say (gc++⟨⟨[58]⟩⟩)else s).A=A/\(if head then s.say (gc++⟨⟨[58]⟩⟩)else s).err=s.err:=by
  split
  ·rw[X4,D8];have:(⟨⟨[58]⟩⟩:d9).size=1:=rfl;exact⟨by omega,hs,rfl⟩
  ·exact⟨by omega,hs,rfl⟩
 generalize (if head then s.say (gc++⟨⟨[58]⟩⟩)else s)=t at h0⊢;rw[h0.2.1];have ju:=ah8 (gb:=gb) (gc:=gc) hB
 obtain⟨a,b,c⟩:=go (A.listF gb gc).2 t (fun n hn=>by
  have:=(ae8 hI hn).2.2;omega)
 have:(A.listF gb gc).2.length*57<=N*57:=Nat.mul_le_mul_right _ ju;exact⟨by omega,b.trans h0.2.1,c.trans h0.2.2⟩
theorem bn7(hI:Inv A)(hB:Bd N A)(head:Bool):∀ (l:List d9) (s:TS),s.A=A->(∀n∈l,n.size<=40)->(l.foldl (TS.gm gb ge head) s).out.size<=s.out.size+l.length*(42+N*57)/\(l.foldl (TS.gm gb ge head) s).A=A/\(l.foldl (TS.gm gb ge head) s).err=s.err:=by
 intro l
 induction l with
 |nil=>intro s h _;exact⟨by simp,h,rfl⟩
 |cons n r ih =>
  intro s h hz;rw[H3];obtain⟨a,b,c⟩:=bz1 (gb:=gb) (ge:=ge) hI hB head s h n (hz n (H7 ..));obtain⟨a',b',c'⟩:=ih (TS.gm gb ge head s n) b fun x hx=>hz x (E4 _ hx);exact⟨by rw[H4,Nat.succ_mul];omega,b',c'.trans c⟩
theorem cx1(hI:Inv A)(hB:Bd N A)(hN:N<=500)(hl:gd.length<=6)(hz:∀n∈gd,n.size<=40)(il:nm.size<=5):bz0 N A (TS.ls nm gb ge gd (TS.new A)):=by
 have e0:(TS.new A).err.size=0:=rfl;have e1:(TS.new A).out.size=0:=rfl;unfold TS.ls;simp only;have hw:(if gd.isEmpty then [⟨⟨[46]⟩⟩]else gd).length<=6/\∀n∈(if gd.isEmpty then [⟨⟨[46]⟩⟩]else gd),n.size<=40:=by
  split
  ·refine⟨by decide,fun n hn=>?_⟩;rw[T9]at hn;subst hn;decide
  ·exact⟨hl,hz⟩
 generalize (if gd.isEmpty then [⟨⟨[46]⟩⟩]else gd)=w at hw⊢;obtain⟨a,b,c,d,e,f,g⟩:=cb8 (gb:=gb) il w (TS.new A) [] [] hw.2;generalize TS.sift nm gb w (TS.new A) [] []=r at a b c d e f g⊢;obtain⟨s1,p,q⟩:=r;simp only[ao8,List.not_mem_nil,false_or]at a b c d e f g⊢;have Dz:=(I7 p).length_eq;obtain⟨a2,b2,c2⟩:=cb9 (K:=40) (E7 p) s1 fun n hn=>hw.2 n (f n ((I7 p).mem_iff.1 hn));obtain⟨a3,b3,c3⟩:=bn7 (gb:=gb) (ge:=ge) hI hB (Nat.blt 1 w.length) q ((E7 p).foldl TS.say s1) (b2.trans b) fun n hn=>hw.2 n (g n hn);have z1:(E7 p).length*(40+1)<=6*(40+1):=Nat.mul_le_mul_right _ (by omega);have z2:q.length*(42+N*57)<=6*(42+500*57):=Nat.mul_le_mul (by omega) (by omega);have z3:w.length*60<=6*60:=Nat.mul_le_mul_right _ hw.1;refine⟨by rw[b3];exact hI,by rw[b3];exact hB.mono (by omega),by rw[b3];exact Kp.refl A,?_,?_⟩
 ·rw[c3,c2];omega
 ·rw[c]at a2;omega
end
theorem cx2(nm gb ge:d9):∀ (f:Nat) (s:TS) (p:d9),(TS.rm nm gb ge f s p).2.out=s.out:=by
 intro f
 induction f with
 |zero=>intro s p;rfl
 |succ f ih =>
  intro s p;rw[bf0];split
  ·rfl
  split
  ·rfl
  split
  ·rfl
  have key:∀ (l:List d9) (t:TS),(l.foldl (J6 nm gb ge p f) t).out=t.out:=by
   intro l
   induction l with
   |nil=>intro t;rfl
   |cons n r ihl =>
    intro t;rw[H3,ihl];unfold J6;simp only[ap7];exact ih _ _
  show(if(s.A.stat gb p false).2.kind==2 then(s.A.listF gb p).2.foldl (J6 nm gb ge p f) s else s).out=s.out;split
  ·exact key _ _
  ·rfl
theorem cx3(nm gb ge:d9):∀ (f:Nat) (s:TS) (a b:d9),(TS.cp nm gb ge f s a b).2.out=s.out:=by
 intro f
 induction f with
 |zero=>intro s a b;rfl
 |succ f ih =>
  intro s a b;rw[aS0];split
  ·rfl
  split
  ·rfl
  split
  ·rfl
  split
  ·rfl
  split
  ·rfl
  split
  ·rfl
  have key:∀ (l:List d9) (t:TS),(l.foldl (N2 nm gb ge a b f) t).out=t.out:=by
   intro l
   induction l with
   |nil=>intro t;rfl
   |cons n r ihl =>
    intro t;rw[H3,ihl];unfold N2;split
    ·rfl
    ·simp only[ap7];exact ih _ _ _
  exact key _ _
section
variable {A:AT} {N:Nat} {nm gb ge:d9} {gd:List d9}
theorem aj2(hI:Inv A)(hB:Bd N A)(hN:N<=500)(hq:A.qi<=40)(hl:gd.length<=6)(hz:∀n∈gd,n.size<=40)(ht:ab7.any (fun t=>E8 nm t)=true):bz0 N A (doP A nm gb ge gd):=by
 have il:=aS1 ht;have Dc:XE=100000000000:=rfl;have hFU:FU=300:=rfl;have nil:bz0 N A (TS.new A):=⟨hI,hB.mono (by omega),Kp.refl A,Nat.zero_le _,Nat.zero_le _⟩;unfold doP;simp only;split
 ·refine bf1 hI hB hN hq hl fun n hn s h1 h2 => ?_;have mz:=hz n hn;have hx:U4 N (if I8 ge 112 then s.A.allF gb (am0 n++[n])else s.A.mkdirF gb n).2/\Kp A (if I8 ge 112 then s.A.allF gb (am0 n++[n])else s.A.mkdirF gb n).2:=by
   split
   ·exact⟨U4.all (by omega) _ _ _ h1,h2.trans (Kp.all (by omega) _ _ _ h1)⟩
   ·exact⟨h1.mkdir (by omega) _ _,h2.trans (Kp.mkdirF h1.inv h1.bd' (by omega) _ _)⟩
  exact⟨hx.1,hx.2,at6 (n:=n) (by split;exact bw8 _ _ _;exact aF8 _ _) il (by omega) rfl,rfl⟩
 split
 ·refine aG4 hI hB hN hl fun n hn M s hM h0 h1 h2 => ?_;have mz:=hz n hn;have hx:Inv (s.A.rmdirP gb n).2/\Bd (M+1) (s.A.rmdirP gb n).2/\Kp A (s.A.rmdirP gb n).2:=by
   unfold AT.rmdirP;simp only;split
   ·split
    ·have:=ag8 h0 h1 (by omega) gb n;exact⟨this.inv,this.bd.mono (by omega),h2.trans (Kp.removeF h0 _ _)⟩
    ·exact⟨h0,h1.mono (by omega),h2⟩
   ·exact⟨h0,h1.mono (by omega),h2⟩
  exact⟨hx.1,hx.2.1,hx.2.2,at6 (aR3 _ _) il (by omega) rfl,rfl⟩
 split
 ·refine bf1 hI hB hN hq hl fun n hn s h1 h2=>?_;have mz:=hz n hn;exact⟨h1.write (by omega) _ _ _ _ (by decide),h2.trans (Kp.writeF h1.inv h1.bd' (by omega) _ _ _ _),at6 (aF9 _ _ _ _) il (by omega) rfl,rfl⟩
 split
 ·cases gd with
  |nil=>exact nil
  |cons ii r =>
   refine aG4 hI hB hN (by rw[H4]at hl;omega) fun n hn M s hM h0 h1 h2=>?_;have mz:=hz n (E4 _ hn);have hx:∀m,Inv (s.A.chmodF gb n m).2/\Bd (M+1) (s.A.chmodF gb n m).2/\Kp A (s.A.chmodF gb n m).2:=fun m=>by
    have:=ak7 h0 h1 gb n m;exact⟨this.inv,this.bd.mono (by omega),h2.trans (Kp.chmodF _ _ _)⟩
   have hy:Inv (s.A.chmodP gb ii n).2/\Bd (M+1) (s.A.chmodP gb ii n).2/\Kp A (s.A.chmodP gb ii n).2:=by
    unfold AT.chmodP;split
    ·exact hx _
    ·simp only;split
     ·exact hx _
     ·exact⟨h0,h1.mono (by omega),h2⟩
   exact⟨hy.1,hy.2.1,hy.2.2,at6 (aJ2 _ _ _) il (by omega) rfl,rfl⟩
 split
 ·cases gd with
  |nil=>exact nil
  |cons gk r =>
   refine aG4 hI hB hN (by rw[H4]at hl;omega) fun n hn M s hM h0 h1 h2=>?_;have mz:=hz n (E4 _ hn);have hy:Inv (s.A.lnP gb ge gk n).2/\Bd (M+1) (s.A.lnP gb ge gk n).2/\Kp A (s.A.lnP gb ge gk n).2:=by
    unfold AT.lnP;simp only;have hx:Inv (if I8 ge 102&&((s.A.stat gb n false).1==0 && !((s.A.stat gb n false).2.kind==2))then s.A.removeF gb n else(0,s.A)).2/\Bd M (if I8 ge 102&&((s.A.stat gb n false).1==0 && !((s.A.stat gb n false).2.kind==2))then s.A.removeF gb n else(0,s.A)).2/\Kp A (if I8 ge 102&&((s.A.stat gb n false).1==0 && !((s.A.stat gb n false).2.kind==2))then s.A.removeF gb n else(0,s.A)).2:=by
     split
     ·have:=ag8 h0 h1 (by omega) gb n;exact⟨this.inv,this.bd,h2.trans (Kp.removeF h0 _ _)⟩
     ·exact⟨h0,h1,h2⟩
    generalize (if I8 ge 102&&((s.A.stat gb n false).1==0 && !((s.A.stat gb n false).2.kind==2))then s.A.removeF gb n else(0,s.A))=X at hx⊢;split
    ·split
     ·have:=ae6 hx.1 hx.2.1 (by omega) gb gk n;exact⟨this.inv,this.bd,hx.2.2.trans (Kp.symlinkF hx.1 hx.2.1 (by omega) _ _ _)⟩
     ·have:=bk9 hx.1 hx.2.1 (by omega) gb gk n;exact⟨this.inv,this.bd,hx.2.2.trans (Kp.hardF hx.1 _ _ _)⟩
    ·exact⟨hx.1,hx.2.1.mono (by omega),hx.2.2⟩
   exact⟨hy.1,hy.2.1,hy.2.2,at6 (bw9 _ _ _ _) il (by omega) rfl,rfl⟩
 split
 ·refine aG4 hI hB hN hl fun n hn M s hM h0 h1 h2=>?_;have mz:=hz n hn;have hr:=ay4 (N:=M) (by omega) nm gb ge FU s n ⟨h0,h1⟩;obtain⟨_,hb⟩:=cb5 (N:=M) (D:=500) (by omega) nm gb ge (by omega) FU s n h0 h1 (by omega);have hc:=aZ6 (A:=s.A) h0 h1 (by omega) FU (by omega) gb n;exact⟨hr.1,hr.2.mono (by omega),h2.trans (Kp.rm (by omega) _ _ _ _ _ _ ⟨h0,h1⟩),by omega,cx2 _ _ _ _ _ _⟩
 split
 ·refine bn6 hI hB hN hl hz il fun tq l hto mr=>?_;refine aG4 hI hB hN (by rw[mr,List.length_dropLast];omega) fun n hn M s hM h0 h1 h2=>?_;have mz:=hz n ((List.dropLast_sublist _).subset (mr ▸ hn));have hr:=ay3 h0 h1 (by omega) gb n (if A.dirB gb tq then H8 tq (ah6 n)else tq);exact⟨hr.inv,hr.bd,h2.trans (Kp.renameF h0 h1 (by omega) _ _ _),at6 (aJ1 _ _ _) il (by omega) rfl,rfl⟩
 split
 ·refine bn6 hI hB hN hl hz il fun tq l hto mr=>?_;refine bf1 hI hB hN hq (by rw[mr,List.length_dropLast];omega) fun n hn s h1 h2=>?_;have mz:=hz n ((List.dropLast_sublist _).subset (mr ▸ hn));generalize (if A.dirB gb tq then H8 tq (ah6 n)else tq)=b;have hp:=U4.cp (M:=N) (by omega) nm gb ge FU s n b h1;have hk:=h2.trans (Kp.cp (M:=N) (by omega) nm gb ge FU s n b h1);have hb:=cb6 (M:=N) (D:=500) (by omega) nm gb ge (by omega) hp.inv FU s n b h1 (by omega) (Sb.refl _);have hc:=aZ6 (A:=s.A) hp.inv (cb7 hp hk hq) (by omega) FU (by omega) gb n;exact⟨hp,hk,by omega,cx3 _ _ _ _ _ _ _⟩
 ·exact cx1 hI hB hN hl hz il
end
end
section
theorem bG8{κ α:Type}{f:α->Nat}:∀ {l:List (κ×α)},(∀x∈l,f x.2=0)->P7 f l=0:=by
 intro l
 induction l with
 |nil=>intro _;rfl
 |cons x r ih =>
  intro h;obtain⟨k,v⟩:=x;have h1:f v=0:=h (k,v) (H7 ..);have h2:=ih fun y hy=>h y (E4 _ hy);simp only[P7];omega
theorem cc0{A:AT}(hI:Inv A):A.refs 1=0:=bG8 fun x hx=>by
 have hg:A.get x.1=some x.2:=as9 hI.nodup hx;show P7 (one 1) x.2.gj=0;refine bG8 fun e he=>?_;have:=(hI.ent x.1 x.2 e.1 e.2 hg (as9 (hI.enod _ _ hg) he)).2.1;unfold one;rw[d7 this]
theorem bN7{A:AT}(hI:Wk.Inv A)(hr:A.rl=1){i:Int}{n:AN}(hn:A.get i=some n):(if i-1=0 then(1:Int)else 0)+(Q2 (P2 (i-1+1)) A.nodes A.last.toNat:Int)=n.links:=by
 have tg:∀k∈C5 A.nodes,1<=k/\k<=((A.last.toNat:Nat):Int):=by
  intro k hk;cases hg:A.get k with
  |none=>exact m7 hk (M4.1 hg)
  |some m=>have:=hI.low k m hg;omega
 rw[show i-1+1=i from by omega,aG3 _ _ _ hI.nodup tg];have hrf:P7 (P2 i) A.nodes=A.refs i:=rfl;rw[hrf];by_cases h1:i=1
 ·subst h1;have hl:n.links=1:=by
   unfold AT.rl at hr;rw[hn]at hr;exact hr
  rw[cc0 hI,hl];rfl
 ·rw[d7 (by omega),(hI.links i n hn h1).1];omega
variable {A:AT}
theorem cm5(p:d9):ab1 p≠10:=by
 unfold ab1;split
 ·decide
 split
 ·decide
 split<;>decide
theorem bN8{go:Int->d9->Int->Int×Pl×Int}{fo:Bool}(sv:∀d s h,(go d s h).1≠10):∀ (l:List d9) (p:Pl) (h:Int),(A.steps go fo l p h).1≠10:=by
 intro l
 induction l with
 |nil=>intro p h;simp[AT.steps]
 |cons n r ih =>
  intro p h;unfold AT.steps;simp only;by_cases h1:p.there=false
  ·rw[d8 h1];simp
  rw[d7 h1];by_cases h2:A.kind p.gf≠2
  ·rw[d8 h2];simp
  rw[d7 h2];by_cases h3:E8 n ⟨⟨[46,46]⟩⟩=true
  ·rw[d8 h3];exact ih _ _
  rw[d7 h3];by_cases h4:n.size>56
  ·rw[d8 h4];simp
  rw[d7 h4];split
  ·exact ih _ _
  ·split
   ·simp
   ·split
    ·exact sv _ _ _
    ·exact ih _ _
theorem aS2:∀ (f:Nat) (d:Int) (p:d9) (fo:Bool) (h:Int),(A.walk f d p fo h).1≠10:=by
 intro f
 induction f with
 |zero=>intro _ _ _ _;simp[AT.walk]
 |succ f ih =>
  intro d p fo h;unfold AT.walk;simp only;split
  ·exact cm5 p
  ·exact bN8 (fun d s h=>ih d s true h) _ _ _
theorem bz2(gb gc:d9)(fo:Bool):(A.locate gb gc fo).1≠10:=by
 unfold AT.locate;simp only;split
 ·simp
 split
 ·exact aS2 _ _ _ _ _
 split
 ·simp
 split
 ·exact aS2 _ _ _ _ _
 split
 ·simp
 split
 ·simp
 ·exact aS2 _ _ _ _ _
theorem aG5(gb gc:d9)(fo:Bool):(A.stat gb gc fo).1≠10:=by
 unfold AT.stat AT.with_;simp only;split
 ·exact bz2 _ _ _
 split
 ·simp
 ·split
  ·simp
  ·simp
theorem aZ7{nm:d9}{s:TS}{n:d9}{e:Int}(h:e≠10):(s.fail nm n e).full=s.full:=by
 unfold TS.fail;split
 ·rfl
 ·show(s.full||e==10)=s.full;rw[show(e==10)=false from by simpa using h,U0]
end
end Go.Wk

namespace Go.HL
open Go
section
def bz3(v:u9):List PanicEntry:=[{v,recovered:=false}]
def aM9(P:Program)(f:FuncId)(args:List u9)(K X:u9->H->Prop)(Y:H):Prop :=
 ∀w,Y.le w->CallsIn Fence.wide 0 P f args.toArray w fun e w'=>(∃v,e=.returned v/\∃Y',X7 Y w Y' w'/\K v Y')\/(∃v,e=.panicked (bz3 v)/\∃Y',X7 Y w Y' w'/\X v Y')
theorem aM9.mono{P:Program}{f:FuncId}{args:List u9}{K K' X X':u9->H->Prop}{Y:H}(h:aM9 P f args K X Y)(hk:∀v Y',K v Y'->K' v Y')(hx:∀v Y',X v Y'->X' v Y'):aM9 P f args K' X' Y :=
 fun w hw=>(h w hw).mono fun _ _ h=>h.imp (fun⟨v,e,Y',he,hv⟩=>⟨v,e,Y',he,hk _ _ hv⟩) (fun⟨v,e,Y',he,hv⟩=>⟨v,e,Y',he,hx _ _ hv⟩)
theorem aM9.drop{P:Program}{f:FuncId}{args:List u9}{K K' X X':u9->H->Prop}{Y:H}(h:aM9 P f args K' X' Y)(hk:∀v Y',K' v Y'->∃Y'',Gr Y'' Y'/\K v Y'')(hx:∀v Y',X' v Y'->∃Y'',Gr Y'' Y'/\X v Y''):aM9 P f args K X Y:=by
 intro w hw;refine(h w hw).mono fun e w' h=>?_;rcases h with⟨v,he,Y',jv,nv⟩|⟨v,he,Y',jv,nv⟩
 ·obtain⟨Y'',hg,so⟩:=hk v Y' nv;exact .inl ⟨v,he,Y'',⟨fun b o hb=>jv.le b o (hg b o hb),jv.size,jv.keep,fun b o hb hn=>jv.own b o (hg b o hb) hn,jv.os,jv.tape,jv.output⟩,so⟩
 ·obtain⟨Y'',hg,so⟩:=hx v Y' nv;exact .inr ⟨v,he,Y'',⟨fun b o hb=>jv.le b o (hg b o hb),jv.size,jv.keep,fun b o hb hn=>jv.own b o (hg b o hb) hn,jv.os,jv.tape,jv.output⟩,so⟩
theorem aM9.ret{P:Program}{f:FuncId}{args:List u9}{K X:u9->H->Prop}{Y:H}(h:aM9 P f args K (fun _ _=>False) Y):E2 P f args K Y:=by
 intro w hw;refine(h w hw).mono fun e w' h=>?_;rcases h with h|⟨v,he,Y',jv,nv⟩
 ·exact h
 ·exact nv.elim
def aS3(P:Program)(R RX:u9->World->Prop):Result Next->Prop
 |.ok (.value v) w=>R v w
 |.ok .skip w=>R undef w
 |.ok (.enter f args) w=>CallsIn Fence.wide 0 P f args w fun e w'=>(∃v,e=.returned v/\R v w')\/(∃v,e=.panicked (bz3 v)/\RX v w')
 |.ok (.round l f tmps assign body) w=>RoundIn Fence.wide 0 P l f tmps assign body w fun e w'=>∃v,e=.returned v/\R v w'
 |.halt (.panic v) w=>RX v w
 |_=>False
section
variable {P:Program} {V:TypeId->TK} {N:Nat} {pan:List Nat} {X:Env->u9->H->Prop}
end
end
section
theorem aS3.mono{P:Program}{x:Result Next}{R R' RX RX':u9->World->Prop}(h1:∀v w,R v w->R' v w)(h2:∀v w,RX v w->RX' v w)(h:aS3 P R RX x):aS3 P R' RX' x:=by
 unfold aS3 at h⊢;split at h
 ·exact h1 _ _ h
 ·exact h1 _ _ h
 ·exact CallsIn.mono h fun e w h=>h.imp (fun⟨v,q,r⟩=>⟨v,q,h1 _ _ r⟩) (fun⟨v,q,r⟩=>⟨v,q,h2 _ _ r⟩)
 ·exact RoundIn.mono h fun e w ⟨v,q,r⟩=>⟨v,q,h1 _ _ r⟩
 ·exact h2 _ _ h
 ·exact h.elim
def aC5(P:Program)(s:Sem Next)(K X:u9->H->Prop)(Y:H):Prop :=
 ∀w,Y.le w->aS3 P (fun v w'=>∃Y',X7 Y w Y' w'/\K v Y') (fun v w'=>∃Y',X7 Y w Y' w'/\X v Y') (s.run P w)
theorem aC5.mono{P:Program}{s:Sem Next}{K K' X:u9->H->Prop}{Y:H}(h:aC5 P s K X Y)(hk:∀v Y',K v Y'->K' v Y'):aC5 P s K' X Y :=
 fun w hw=>(h w hw).mono (fun _ _ ⟨Y',he,hv⟩=>⟨Y',he,hk _ _ hv⟩) fun _ _ h=>h
theorem aC5.fin{P:Program}{s:Sem Next}{K X:u9->H->Prop}{Y:H}(h:aC5 P s K X Y):aC5 P s (fun v Y'=>Fin Y'/\K v Y') X Y :=
 fun w hw=>(h w hw).mono (fun _ _ ⟨Y',he,hk⟩=>⟨Y',he,Fin.of_le he.le,hk⟩) fun _ _ h=>h
theorem aC5.frame{P:Program}{s:Sem Next}{K X:u9->H->Prop}{Y:H}(h:aC5 P s K X Y){b:Nat}{o:Obj}(hb:Y b=none) :
 aC5 P s (fun v Y'=>∃Y₁,Y₁ b=none/\Y'=Y₁.put b o/\K v Y₁) X (Y.put b o):=by
 intro w hw;refine(h w (H.le_of_put hb hw)).mono (fun v w' ⟨Y',he,hk⟩=>?_) (fun v w' ⟨Y',he,hk⟩=>?_)
 ·obtain⟨hn,my⟩:=X7.frame hb hw he;exact⟨Y'.put b o,my,Y',hn,rfl,hk⟩
 ·obtain⟨hn,my⟩:=X7.frame hb hw he;have ia:∀c q,Y' c=some q->c≠b:=fun c q hc e=>by subst e;rw[hn]at hc;cases hc
  refine⟨Y',⟨fun c q hc=>my.le c q (by rw[H.put_other _ _ (ia c q hc)];exact hc),my.size,my.keep,fun c q hc vm=>my.own c q (by rw[H.put_other _ _ (ia c q hc)];exact hc) vm,my.os,my.tape,my.output⟩,hk⟩
section
variable (P:Program) (ops:Array Oper) (cl:Nat->Nat) (A:Nat->Nat->Bool) (X:u9->H->Prop)
def am9:List (Nat×Sem Next×u9)->List Nat->Act->(Pq->Act->H->Prop)->H->Prop
 |p,[],a,K,Y=>K p a Y
 |pend,i::l,a,K,Y=>∃o,ops[i]?=some o/\au4 o.op=true /\
  if Region.wanted o (yielded ops a.tmps) then
   match cl i with
   |0=>∃v,Sil P (execOp a.eval o) v/\am9 pend l (a.put o.dst v) K Y
   |1=>∃v,RdS P (execOp a.eval o) Y v/\am9 ((i,execOp a.eval o,v)::pend) l (a.put o.dst v) K Y
   |2=>∃mk obj,cj8 P (execOp a.eval o) mk obj/\∀b,Y b=none->am9 pend l (a.put o.dst (mk b)) K (Y.put b obj)
   |_=>aC5 P (execOp a.eval o) (fun v Y'=>(∀q∈pend,A q.1 i=true\/RdS P q.2.1 Y' q.2.2)/\am9 pend l (a.put o.dst v) K Y') X Y
  else am9 pend l (a.put o.dst undef) K Y
end
section
variable {P:Program} {ops:Array Oper} {cl:Nat->Nat} {A:Nat->Nat->Bool} {X:u9->H->Prop}
theorem am9.pend{l:List Nat}:∀ {p p':List (Nat×Sem Next×u9)} {a:Act} {K:Pq->Act->H->Prop} {Y:H},aw5 K->(∀q∈p',q∈p)->am9 P ops cl A X p l a K Y->am9 P ops cl A X p' l a K Y:=by
 induction l with
 |nil=>intro p p' a K Y hm hs h;exact hm _ _ _ _ hs h
 |cons i l ih =>
  intro p p' a K Y hm hs h;obtain⟨o,ho,hp,h⟩:=h;refine⟨o,ho,hp,?_⟩;split at h
  ·rename_i hw;rw[d8 hw];split at h
   ·obtain⟨v,hv,h⟩:=h;exact⟨v,hv,ih hm hs h⟩
   ·obtain⟨v,hv,h⟩:=h;refine⟨v,hv,ih hm (fun q hq=>?_) h⟩;cases hq with
    |head=>exact H7 ..
    |tail _ hq=>exact E4 _ (hs q hq)
   ·obtain⟨mk,obj,hv,h⟩:=h;exact⟨mk,obj,hv,fun b hb=>ih hm hs (h b hb)⟩
   ·exact h.mono fun v Y' ⟨h1,h2⟩=>⟨fun q hq=>h1 q (hs q hq),ih hm hs h2⟩
  ·rename_i hw;rw[d7 hw];exact ih hm hs h

theorem am9.head{l l':List Nat}{K K':Pq->Act->H->Prop}(ju:∀p a Y,Fin Y->am9 P ops cl A X p l a K Y->am9 P ops cl A X p l' a K' Y){i:Nat}{p:List (Nat×Sem Next×u9)}{a:Act}{Y:H}
 (hf:Fin Y) (h:am9 P ops cl A X p (i::l) a K Y):am9 P ops cl A X p (i::l') a K' Y:=by
 obtain⟨o,ho,hp,h⟩:=h;refine⟨o,ho,hp,?_⟩;split at h
 ·rename_i hw;rw[d8 hw];split at h
  ·obtain⟨v,hv,h⟩:=h;exact⟨v,hv,ju _ _ _ hf h⟩
  ·obtain⟨v,hv,h⟩:=h;exact⟨v,hv,ju _ _ _ hf h⟩
  ·obtain⟨mk,obj,hv,h⟩:=h;exact⟨mk,obj,hv,fun b hb=>ju _ _ _ (hf.put _ _) (h b hb)⟩
  ·exact h.fin.mono fun v Y' ⟨zk,h1,h2⟩=>⟨h1,ju _ _ _ zk h2⟩
 ·rename_i hw;rw[d7 hw];exact ju _ _ _ hf h

def cc1(cy cx:Nat):Bool :=
 match cy,cx with
 |0,_=>true
 |1,_=>true
 |2,0=>true
 |2,2=>true
 |2,_=>false
 |_,2=>true
 |_,_=>false
def df0(P:Program)(ops:Array Oper)(cl:Nat->Nat):Prop:=∀ (i:Nat) (o:Oper),ops[i]?=some o->cl i=2->∀ev,∃mk obj,cj8 P (execOp ev o) mk obj
theorem am9.swap{y x:Nat}{oy ox:Oper}(hy:ops[y]?=some oy)(hx:ops[x]?=some ox)(Cu:oy.apart ops ox=true)(hA:A y x=false)(ko:cc1 (cl y) (cl x)=true)
 {p:List (Nat×Sem Next×u9)} {l:List Nat} {a:Act} {K:Pq->Act->H->Prop} {Y:H} (hK:aw5 K) (hf:Fin Y) (kn:df0 P ops cl) (qc:au4 ox.op=true)
 (h:am9 P ops cl A X p (y::x::l) a K Y):am9 P ops cl A X p (x::y::l) a K Y:=by
 obtain⟨h1,h2,h3⟩:=Oper.apart_spec Cu;have ic:∀ (a:Act) (u v:u9),(a.put oy.dst u).put ox.dst v=(a.put ox.dst v).put oy.dst u:=fun a u v=>Act.put_comm a u v h2;obtain⟨oy',Du,kd,h⟩:=h;rw[hy]at Du;cases Du;have ex:∀u,execOp (a.put oy.dst u).eval ox=execOp a.eval ox:=fun u=>execOp_put ox (an1 qc) a oy.dst u h1;have ey:∀u,execOp (a.put ox.dst u).eval oy=execOp a.eval oy:=fun u=>execOp_put oy (an1 kd) a ox.dst u h3;have wx:∀u,Region.wanted ox (yielded ops (a.put oy.dst u).tmps)=Region.wanted ox (yielded ops a.tmps):=fun u=>wanted_put ox a oy.dst u h1;have wy:∀u,Region.wanted oy (yielded ops (a.put ox.dst u).tmps)=Region.wanted oy (yielded ops a.tmps):=fun u=>wanted_put oy a ox.dst u h3;refine⟨ox,hx,qc,?_⟩;by_cases jj:Region.wanted oy (yielded ops a.tmps)=true
 ·rw[d8 jj]at h;by_cases jz:Region.wanted ox (yielded ops a.tmps)=true
  ·rw[d8 jz];split at h
   ·-- y silent
    obtain⟨v,hv,ox',ik,_,h⟩:=h;rw[hx]at ik;cases ik;rw[wx,d8 jz,ex]at h;split at h
    ·obtain⟨u,hu,h⟩:=h;refine⟨u,hu,oy,hy,kd,?_⟩;rw[wy,d8 jj,ey,‹cl y=0›];exact⟨v,hv,by rw[<-ic];exact h⟩
    ·obtain⟨u,hu,h⟩:=h;refine⟨u,hu,oy,hy,kd,?_⟩;rw[wy,d8 jj,ey,‹cl y=0›];exact⟨v,hv,by rw[<-ic];exact h⟩
    ·obtain⟨mk,obj,hu,h⟩:=h;refine⟨mk,obj,hu,fun b hb=>⟨oy,hy,kd,?_⟩⟩;rw[wy,d8 jj,ey,‹cl y=0›];exact⟨v,hv,by rw[<-ic];exact h b hb⟩
    ·refine h.mono fun u Y' ⟨hc,h⟩=>⟨hc,oy,hy,kd,?_⟩;rw[wy,d8 jj,ey,‹cl y=0›];exact⟨v,hv,by rw[<-ic];exact h⟩
   ·-- y cj3
    obtain⟨v,hv,ox',ik,_,h⟩:=h;rw[hx]at ik;cases ik;rw[wx,d8 jz,ex]at h;split at h
    ·obtain⟨u,hu,h⟩:=h;refine⟨u,hu,oy,hy,kd,?_⟩;rw[wy,d8 jj,ey,‹cl y=1›];exact⟨v,hv,by rw[<-ic];exact h⟩
    ·obtain⟨u,hu,h⟩:=h;refine⟨u,hu,oy,hy,kd,?_⟩;rw[wy,d8 jj,ey,‹cl y=1›];refine⟨v,hv,?_⟩;rw[<-ic];exact h.pend hK fun q hq=>by
      simp only[G9]at hq⊢;rcases hq with rfl|rfl|hq
      ·exact .inr (.inl rfl)
      ·exact .inl rfl
      ·exact .inr (.inr hq)
    ·obtain⟨mk,obj,hu,h⟩:=h;refine⟨mk,obj,hu,fun b hb=>⟨oy,hy,kd,?_⟩⟩;rw[wy,d8 jj,ey,‹cl y=1›];exact⟨v,hv.put hb,by rw[<-ic];exact h b hb⟩
    ·refine h.mono fun u Y' ⟨hc,h⟩=>⟨fun q hq=>hc q (E4 _ hq),oy,hy,kd,?_⟩;rw[wy,d8 jj,ey,‹cl y=1›];have:=hc _ (H7 ..);simp only[hA]at this;exact⟨v,this.resolve_left (by simp),by rw[<-ic];exact h⟩
   ·-- y makes a block
    obtain⟨mk,obj,hv,h⟩:=h;have lj:cl x=0\/cl x=2:=by
     rw[‹cl y=2›]at ko;unfold cc1 at ko;split at ko<;>simp_all
    rcases lj with lj|lj
    ·obtain⟨b0,vc⟩:=hf.fresh;obtain⟨ox',ik,_,h0⟩:=h b0 vc;rw[hx]at ik;cases ik;rw[wx,d8 jz,ex,lj]at h0;obtain⟨u,hu,_⟩:=h0;rw[lj];refine⟨u,hu,oy,hy,kd,?_⟩;rw[wy,d8 jj,ey,‹cl y=2›];refine⟨mk,obj,hv,fun b hb => ?_⟩;obtain⟨ox',ik,_,jq⟩:=h b hb;rw[hx]at ik;cases ik;rw[wx,d8 jz,ex,lj]at jq;obtain⟨u',mi,jq⟩:=jq;have:u'=u:=by
      have e1:=hu default;have e2:=mi default;rw[e1]at e2;cases e2;rfl
     subst this;rw[<-ic];exact jq
    ·obtain⟨b0,vc⟩:=hf.fresh;obtain⟨ox',ik,_,h0⟩:=h b0 vc;rw[hx]at ik;cases ik;rw[wx,d8 jz,ex,lj]at h0;obtain⟨mx,objx,hu,_⟩:=h0;rw[lj];refine⟨mx,objx,hu,fun b hb=>⟨oy,hy,kd,?_⟩⟩;rw[wy,d8 jj,ey,‹cl y=2›];refine⟨mk,obj,hv,fun c hc=>?_⟩;have ia:c≠b:=by intro e;subst e;rw[H.put_same]at hc;cases hc
     rw[H.put_other _ _ ia]at hc;obtain⟨ox',ik,_,jq⟩:=h c hc;rw[hx]at ik;cases ik;rw[wx,d8 jz,ex,lj]at jq;obtain⟨mx',objx',mi,jq⟩:=jq;have xx:Y.put c obj b=none:=by rw[H.put_other _ _ (Ne.symm ia)];exact hb
     have sl:=jq b xx;have nk:objx'=objx/\mx' b=mx b:=by
      have e1:=hu { (default:World)with heap:=Array.replicate b default};have e2:=mi { (default:World)with heap:=Array.replicate b default};rw[e1]at e2;simp only[Result.ok.injEq,Next.value.injEq]at e2;obtain⟨e3,e4⟩:=e2;simp only[Array.size_replicate]at e3;refine⟨?_,e3.symm⟩;have e5:=J7 World.heap e4;have e6:(Array.replicate b (default:Obj)).push objx=(Array.replicate b (default:Obj)).push objx':=e5;have e7:=J7 Array.back? e6;simpa using e7.symm
     obtain⟨e3,e4⟩:=nk;subst e3;rw[e4]at sl;rw[<-ic];have:(Y.put c obj).put b objx'=(Y.put b objx').put c obj:=by
      funext k
      simp only[H.put];by_cases k1:k=b
      ·subst k1;simp[Ne.symm ia]
      ·simp[k1]
     rw[<-this];exact sl
   ·-- y does something
    have lj:cl x=2:=by
     unfold cc1 at ko;split at ko<;>simp_all
    have hyc:∀ (K':Prop) (a0 a1 a2 a3:Prop),(match cl y with|0=>a0|1=>a1|2=>a2|_=>a3)=a3:=by
     intro _ a0 a1 a2 a3;split<;>simp_all
    ·obtain⟨mx,objx,hu⟩:=kn x ox hx lj a.eval;rw[lj];refine⟨mx,objx,hu,fun b hb=>⟨oy,hy,kd,?_⟩⟩;rw[wy,d8 jj,ey,hyc True];refine(h.frame (o:=objx) hb).mono fun v Y' ⟨Y₁,hn,hσ',hc,ox',ik,_,jq⟩=>⟨fun q hq=>?_,?_⟩
     ·rcases hc q hq with h|h
      ·exact .inl h
      ·exact .inr (hσ' ▸ h.put hn)
     ·rw[hx]at ik;cases ik;rw[wx,d8 jz,ex,lj]at jq;obtain⟨mx',objx',mi,jq⟩:=jq;have sl:=jq b hn;have nk:objx'=objx/\mx' b=mx b:=by
       have e1:=hu { (default:World)with heap:=Array.replicate b default};have e2:=mi { (default:World)with heap:=Array.replicate b default};rw[e1]at e2;simp only[Result.ok.injEq,Next.value.injEq]at e2;obtain⟨e3,e4⟩:=e2;simp only[Array.size_replicate]at e3;refine⟨?_,e3.symm⟩;have e5:=J7 World.heap e4;have e6:(Array.replicate b (default:Obj)).push objx=(Array.replicate b (default:Obj)).push objx':=e5;have e7:=J7 Array.back? e6;simpa using e7.symm
      obtain⟨e3,e4⟩:=nk;subst e3;rw[e4]at sl;rw[<-ic,hσ'];exact sl
  ·rw[d7 jz];refine⟨oy,hy,kd,?_⟩;rw[wy,d8 jj,ey];split at h
   ·obtain⟨v,hv,ox',ik,_,h⟩:=h;rw[hx]at ik;cases ik;rw[wx,d7 jz]at h;exact⟨v,hv,by rw[<-ic];exact h⟩
   ·obtain⟨v,hv,ox',ik,_,h⟩:=h;rw[hx]at ik;cases ik;rw[wx,d7 jz]at h;exact⟨v,hv,by rw[<-ic];exact h⟩
   ·obtain⟨mk,obj,hv,h⟩:=h;refine⟨mk,obj,hv,fun b hb=>?_⟩;obtain⟨ox',ik,_,h⟩:=h b hb;rw[hx]at ik;cases ik;rw[wx,d7 jz]at h;rw[<-ic];exact h
   ·refine h.mono fun v Y' ⟨hc,ox',ik,_,h⟩=>⟨hc,?_⟩;rw[hx]at ik;cases ik;rw[wx,d7 jz]at h;rw[<-ic];exact h
 ·rw[d7 jj]at h;obtain⟨ox',ik,_,h⟩:=h;rw[hx]at ik;cases ik;rw[wx,ex]at h;by_cases jz:Region.wanted ox (yielded ops a.tmps)=true
  ·rw[d8 jz]at h⊢;split at h
   ·obtain⟨u,hu,h⟩:=h;refine⟨u,hu,oy,hy,kd,?_⟩;rw[wy,d7 jj,<- ic];exact h
   ·obtain⟨u,hu,h⟩:=h;refine⟨u,hu,oy,hy,kd,?_⟩;rw[wy,d7 jj,<- ic];exact h
   ·obtain⟨mk,obj,hu,h⟩:=h;refine⟨mk,obj,hu,fun b hb=>⟨oy,hy,kd,?_⟩⟩;rw[wy,d7 jj,<- ic];exact h b hb
   ·refine h.mono fun u Y' ⟨hc,h⟩=>⟨hc,oy,hy,kd,?_⟩;rw[wy,d7 jj,<- ic];exact h
  ·rw[d7 jz]at h⊢;refine⟨oy,hy,kd,?_⟩;rw[wy,d7 jj,<- ic];exact h
end
section
variable {P:Program} {V:TypeId->TK} {N:Nat} {ops:Array Oper} {A:Nat->Nat->Bool} {pan:List Nat} {X:u9->H->Prop}
end
end
section
section
variable {P:Program} {V:TypeId->TK} {N:Nat} {pan:List Nat} {X:Env->u9->H->Prop}
end

section
variable {P:Program} {V:TypeId->TK} {N:Nat} {pan:List Nat} {X:Env->u9->H->Prop}
end
end
section
section
variable {P:Program} {V:TypeId->TK} {pan:List Nat}
end
structure Df where
 g:FuncId
 as_:List u9
 cs:List u9
def Df.d(x:Df):Deferred:={target:=.fn (.func x.g) ⟨x.cs⟩,args:=⟨x.as_⟩ }
inductive Md where
 |ret|pan (v:u9)
def Md.mode:Md->FrameMode
 |.ret=>.returning
 |.pan v=>.panicking (bz3 v)
section
variable {P:Program} {V:TypeId->TK} {pan:List Nat} {N:Nat}
end
end
section
section
variable {P:Program} {V:TypeId->TK} {N:Nat}
end
end
section
section
variable {P:Program} {Y:H} {X:u9->H->Prop} {pan:List Nat} {t:TK} {F:t.Fn (H->Prop)}
theorem bz4{s:Sem u9}{v:u9}(h:∀w,s.run P w=.ok v w)(hF:app t F v Y):W7 P s t F Y:=by
 intro w hw;simp only[ar8,Sem.run_bind,h w,Result.andThen_ok,Sem.run_pure];exact⟨_,X7.refl hw,hF⟩
end
end
end Go.HL

namespace Go.Wk
open Go Go.HL
section
def aN0(s:d9):Prop:=s.data.toList=[]\/(C8 47 s=true/\∃c r,s.data.toList=r++[c]/\c≠47)
theorem aZ8{n s:d9}(hn:W1 n)(h:aN0 s):aN0 ((⟨⟨[47]⟩⟩++n)++s):=by
 have hd:((⟨⟨[47]⟩⟩++n)++s).data.toList=47::(n.data.toList++s.data.toList):=by
  rw[al9,al9];rfl
 refine .inr ⟨by unfold C8;rw[hd];rfl,?_⟩;rw[hd];rcases h with h|⟨_,c,r,h,hc⟩
 ·have ia:=aG1 hn;rw[h,ac3];obtain⟨r,c,hrc⟩ : ∃r c,n.data.toList=r++[c]:=by
   rcases List.eq_nil_or_concat n.data.toList with h|⟨r,c,h⟩
   ·exact m7 h ia
   ·exact⟨r,c,by rw[h,List.concat_eq_append]⟩
  refine⟨c,47::r,by rw[hrc];rfl,?_⟩;intro e;have hb:=hn.2.2;unfold X6 at hb;rw[List.any_eq_false]at hb;have:=hb c (by rw[hrc];simp);rw[e]at this;simp at this
 ·exact⟨c,47::(n.data.toList++r),by rw[h];simp,hc⟩
section
variable {A:AT}
theorem bn8(hI:Inv A):∀ (f:Nat) (gh:Int) (out:d9),aN0 out->aN0 (A.realUp f gh out):=by
 intro f
 induction f with
 |zero=>intro gh out h;exact h
 |succ f ih =>
  intro gh out h;unfold AT.realUp;split
  ·exact h
  ·refine ih _ _ ?_;have key : ∀ (l:List d9) (o:d9),(∀n∈l,W1 n)->aN0 o->aN0 (l.foldl (fun o n=>if(A.find (A.upOf gh) n).getD 0=gh then(⟨⟨[47]⟩⟩++n)++o else o) o):=by
    intro l
    induction l with
    |nil=>intro o _ h;exact h
    |cons n r ihl =>
     intro o hl h;rw[H3];refine ihl _ (fun m hm=>hl m (E4 _ hm)) ?_;split
     ·exact aZ8 (hl n (H7 ..)) h
     ·exact h
   exact key _ _ (fun n hn=>(aD4 hI hn).choose_spec.2.1) h
theorem aZ9(hI:Inv A){gb p:d9}(h:(A.realF gb p).1=0):(A.realF gb p).2=⟨⟨[47]⟩⟩\/(C8 47 (A.realF gb p).2=true/\∃c r,(A.realF gb p).2.data.toList=r++[c]/\c≠47):=by
 have jf:=K4 hI gb p true;unfold AT.realF at h⊢;simp only at h⊢;by_cases h1:(A.locate gb p true).1≠0
 ·rw[d8 h1]at h;exact m7 h h1
 rw[d7 h1]at h⊢;by_cases h2:(A.locate gb p true).2.there=false
 ·rw[d8 h2]at h;cases h
 rw[d7 h2];have qd:aN0 ⟨⟨[]⟩⟩:=.inl rfl;have key:aN0 (if A.kind (A.locate gb p true).2.gf≠2 then A.realUp 13 (A.locate gb p true).2.gh (⟨⟨[47]⟩⟩++(A.locate gb p true).2.gu)else A.realUp 13 (A.locate gb p true).2.gf ⟨⟨[]⟩⟩):=by
  split
  ·rename_i hk;refine bn8 hI _ _ _ ?_;obtain⟨hd,gw⟩:=jf (by simpa using h1);rcases gw with⟨_,_,h3⟩|⟨h3,_⟩
   ·exact m7 (by rw[h3];exact al8 hd) hk
   ·have:=aZ8 h3 qd;have e:(⟨⟨[47]⟩⟩++(A.locate gb p true).2.gu)++(⟨⟨[]⟩⟩:d9)=⟨⟨[47]⟩⟩++(A.locate gb p true).2.gu:=W9 (by rw[al9];simp);rw[e]at this;exact this
  ·exact bn8 hI _ _ _ qd
 generalize (if A.kind (A.locate gb p true).2.gf≠2 then A.realUp 13 (A.locate gb p true).2.gh (⟨⟨[47]⟩⟩++(A.locate gb p true).2.gu)else A.realUp 13 (A.locate gb p true).2.gf ⟨⟨[]⟩⟩)=out at key⊢;by_cases ho:E8 out ⟨⟨[]⟩⟩=true
 ·rw[d8 ho];exact .inl rfl
 ·rw[d7 ho];rcases key with h|h
  ·exact m7 (by unfold E8;rw[h];rfl) ho
  ·exact .inr h
end
theorem bN9{l r:List J3}{c:J3}(h:l=r++[c])(hc:c≠47):N4 l=l:=by
 unfold N4;rw[h,List.reverse_append,List.reverse_singleton,List.singleton_append,List.dropWhile_cons,d7 (by simpa using hc),List.reverse_cons,List.reverse_reverse]
def bf2(a b:d9):Bool:=E8 a b||(E8 a ⟨⟨[47]⟩⟩||(decide (b.size>a.size)&&E8 ⟨⟨b.data.toList.take (a.size+1)⟩⟩ (a++⟨⟨[47]⟩⟩)))
theorem bO0{a b:d9}(ha:a=⟨⟨[47]⟩⟩\/(C8 47 a=true/\∃c r,a.data.toList=r++[c]/\c≠47))(hb:b=⟨⟨[47]⟩⟩\/(C8 47 b=true/\∃c r,b.data.toList=r++[c]/\c≠47)):(E8 a b||(N4 a.data.toList++[47]).isPrefixOf b.data.toList)=bf2 a b:=by
 have yt:C8 47 b=true:=by
  rcases hb with h|h
  ·rw[h];rfl
  ·exact h.1
 unfold bf2
 congr 1
 rcases ha with rfl|⟨_,c,r,h,hc⟩
 ·have e1:N4 (⟨⟨[47]⟩⟩:d9).data.toList=[]:=by decide
  have e2:E8 ⟨⟨[47]⟩⟩ ⟨⟨[47]⟩⟩=true:=by decide
  rw[e1,e2,Bool.true_or,aw4];unfold C8 at yt;cases xo:b.data.toList with
  |nil=>rw[xo]at yt;cases yt
  |cons x t =>
   rw[xo]at yt;have:x=47:=by simpa using yt
   subst this;rfl
 ·rw[bN9 h hc];have hn:E8 a ⟨⟨[47]⟩⟩=false:=by
   unfold E8;rw[h];cases r with
   |nil =>
    show([c]==[47])=false;simpa using hc
   |cons x t =>
    rw[X0];intro e;have:=J7 List.length e;simp at this
  rw[hn,R0,Q9,List.isPrefixOf_iff_prefix];simp only[J4,I6];have hs1:=ah5 a;have hs2:=ah5 b;unfold E8;rw[al9];show _↔_/\(b.data.toList.take (a.size+1)==a.data.toList++[47])=true;rw[beq_iff_eq];constructor
  ·rintro ⟨t,ht⟩
   have hl:=J7 List.length ht;simp only[P3,ai1]at hl;refine⟨by omega,?_⟩;rw[<-ht,hs1,List.take_append_of_le_length (by simp),Q1 (by simp)]
  ·rintro ⟨_,ht⟩
   rw[<-ht];exact List.take_prefix _ _
def lt8(x y:d9):Bool:=leB x.data.toList y.data.toList
def aJ6(x:d9):List d9->List d9
 | []=>[x]
 |y::r=>if lt8 y x then y::aJ6 x r else x::y::r
def aS4(l:List d9):List d9:=l.foldl (fun o x=>aJ6 x o) []
theorem ba1(x:d9):∀l,(aJ6 x l).Perm (x::l):=by
 intro l
 induction l with
 |nil=>exact List.Perm.refl _
 |cons y r ih =>
  unfold aJ6;split
  ·exact(ih.cons y).trans (List.Perm.swap x y r)
  ·exact List.Perm.refl _
theorem bO1{x y:d9}(h:lt8 y x=false):lt8 x y=true:=by
 unfold lt8 at h⊢;rw[ag6];have:¬y.data.toList<=x.data.toList:=by rw[<-ag6,h];simp
 exact(List.le_total _ _).resolve_left this
theorem bO2{x y z:d9}(h1:lt8 x y=true)(h2:lt8 y z=true):lt8 x z=true:=by
 unfold lt8 at h1 h2⊢;rw[ag6]at h1 h2⊢;exact List.le_trans h1 h2
theorem bn9{x:d9}:∀ {l:List d9},l.Pairwise (fun a b=>lt8 a b=true)->(aJ6 x l).Pairwise (fun a b=>lt8 a b=true):=by
 intro l
 induction l with
 |nil=>intro _;simp[aJ6]
 |cons y r ih =>
  intro h;obtain⟨h1,h2⟩:=List.pairwise_cons.1 h;unfold aJ6;split
  ·rename_i Eg;refine List.pairwise_cons.2 ⟨fun z hz=>?_,ih h2⟩;rcases G9.1 ((ba1 x r).mem_iff.1 hz)with e|e
   ·rw[e];exact Eg
   ·exact h1 z e
  ·rename_i Eg;have yi:=bO1 (by simpa using Eg);refine List.pairwise_cons.2 ⟨fun z hz=>?_,h⟩;rcases G9.1 hz with e|e
   ·rw[e];exact yi
   ·exact bO2 yi (h1 z e)
theorem bz5(l:List d9):(E7 l).Pairwise (fun a b=>lt8 a b=true):=by
 unfold E7;rw[List.pairwise_map];exact(af3 _).imp fun h=>(ag6 _ _).2 h
theorem cc2:∀ (l o:List d9),o.Pairwise (fun a b=>lt8 a b=true)->(l.foldl (fun o x=>aJ6 x o) o).Pairwise (fun a b=>lt8 a b=true)/\(l.foldl (fun o x=>aJ6 x o) o).Perm (l++o):=by
 intro l
 induction l with
 |nil=>intro o h;exact⟨h,List.Perm.refl _⟩
 |cons x r ih =>
  intro o h;obtain⟨a,b⟩:=ih (aJ6 x o) (bn9 h);exact⟨a,b.trans (((ba1 x o).append_left r).trans (List.perm_middle))⟩
theorem bo0(l:List d9):aS4 l=E7 l:=by
 obtain⟨a,b⟩:=cc2 l [] List.Pairwise.nil;rw[ac3]at b;refine List.Perm.eq_of_pairwise (le:=fun a b=>lt8 a b=true) ?_ a (bz5 l) (b.trans (I7 l).symm);intro x y _ _ h1 h2;unfold lt8 at h1 h2;rw[ag6]at h1 h2;exact W9 (List.le_antisymm h1 h2)
theorem bz6(l:List d9)(x:d9):aS4 (l++[x])=aJ6 x (aS4 l):=by
 unfold aS4;rw[List.foldl_append];rfl
theorem cm6(x:d9):∀ (o:List d9) (i:Nat),(∀k,k<i->∃y,o[k]?=some y/\lt8 y x=true)->(∀y,o[i]?=some y->lt8 y x=false)->aJ6 x o=o.take i++([x]++o.drop i):=by
 intro o
 induction o with
 |nil =>
  intro i h _;cases i with
  |zero=>rfl
  |succ i=>obtain⟨y,hy,_⟩:=h 0 (by omega);simp at hy
 |cons y r ih =>
  intro i h hn;unfold aJ6;cases i with
  |zero =>
   rw[d7 (by rw[hn y rfl];simp)];rfl
  |succ i =>
   obtain⟨z,hz,hzx⟩:=h 0 (by omega);have:z=y:=by simpa using hz.symm
   subst this;rw[d8 hzx]
   rw[ih i (fun k hk=>by
    obtain⟨w,hw,jz⟩:=h (k+1) (by omega)
    exact⟨w,by simpa using hw,jz⟩) (fun w hw=>hn w (by simpa using hw))]
   rfl
theorem bz7(x:d9):∀ (o:List d9),∃i,i<=o.length/\(∀k,k<i->∃y,o[k]?=some y/\lt8 y x=true)/\(∀y,o[i]?=some y->lt8 y x=false):=by
 intro o
 induction o with
 |nil=>exact⟨0,A7 _,fun k hk=>by omega,fun y hy=>by simp at hy⟩
 |cons y r ih =>
  cases h:lt8 y x with
  | false => exact ⟨0, Nat.zero_le _, fun k hk => by omega, fun z hz => by have : z = y := by simpa using hz.symm
                                                                           rw[this];exact h⟩
  |true =>
   obtain⟨i,h1,h2,h3⟩:=ih;refine⟨i+1,by rw[H4];omega,fun k hk=>?_,fun z hz=>h3 z (by simpa using hz)⟩;cases k with
   |zero=>exact⟨y,rfl,h⟩
   |succ k =>
    obtain⟨w,hw,jz⟩:=h2 k (by omega);exact⟨w,by simpa using hw,jz⟩
theorem cc3(x y:d9):(ltB x y||E8 x y)=lt8 x y:=by
 rw[Q9];unfold lt8 ltB E8;simp only[Bool.or_eq_true,Bool.not_eq_true',beq_iff_eq];rw[<-Bool.not_eq_true,ag6,ag6];constructor
 ·rintro (h|h)
  ·exact(List.le_total _ _).resolve_right h
  ·rw[h];exact List.le_refl _
 ·intro h;by_cases e:x.data.toList=y.data.toList
  ·exact .inr e
  ·exact .inl fun h2=>e (List.le_antisymm h h2)
def aJ7(nm:d9):Int :=
 if E8 nm ⟨⟨[99,104,109,111,100]⟩⟩then 2 else if E8 nm ⟨⟨[108,110]⟩⟩then 2 else if E8 nm ⟨⟨[109,118]⟩⟩then 2 else if E8 nm ⟨⟨[99,112]⟩⟩then 2 else if E8 nm ⟨⟨[108,115]⟩⟩then 0 else 1
def as2(nm ge:d9):Int:=if E8 nm ⟨⟨[114,109]⟩⟩&&I8 ge 102 then 0 else aJ7 nm
def bG9(ii:d9):Bool:=(av2 ii).isSome||(E8 ii ⟨⟨[43,120]⟩⟩||E8 ii ⟨⟨[45,120]⟩⟩)
def aS5(nm ge:d9)(gd:List d9):Bool :=
 decide (((gd.length:Nat):Int)<as2 nm ge)||((E8 nm ⟨⟨[108,110]⟩⟩ && !(gd.length==2))||(E8 nm ⟨⟨[99,104,109,111,100]⟩⟩ && !bG9 (gd.head?.getD ⟨⟨[]⟩⟩)))
theorem N3{nm a b:d9}(h:E8 nm a=true)(hab:E8 a b=false):E8 nm b=false:=by
 rw[J9.1 h];exact hab
theorem ay8(n:Nat)(k:Nat):decide (((n:Nat):Int)<((k:Nat):Int))=!Nat.ble k n:=by
 rw[Q9];simp only[I6,Bool.not_eq_true',<- Bool.not_eq_true,Nat.ble_eq];omega
theorem bo1(nm ge:d9)(gd:List d9):aS5 nm ge gd=!L0 nm ge gd:=by
 unfold aS5 L0 as2 aJ7;simp only;cases h1:E8 nm ⟨⟨[108,110]⟩⟩ with
 |true =>
  rw[N3 h1 (b:=⟨⟨[114,109]⟩⟩) (by decide),N3 h1 (b:=⟨⟨[99,104,109,111,100]⟩⟩) (by decide)];simp only[Z5,D2,if_false,if_true,T8,U0];rw[show decide (((gd.length:Nat):Int)<2)=!Nat.ble 2 gd.length from ay8 _ 2];by_cases h:gd.length=2
  ·rw[h];rfl
  ·rw[show(gd.length==2)=false from by simpa using h];simp
 |false =>
 cases h2:E8 nm ⟨⟨[109,118]⟩⟩ with
 |true =>
  rw[N3 h2 (b:=⟨⟨[114,109]⟩⟩) (by decide),N3 h2 (b:=⟨⟨[99,104,109,111,100]⟩⟩) (by decide)];simp only[Z5,D2,if_false,if_true,Bool.true_or,U0];exact ay8 _ 2
 |false =>
 cases h3:E8 nm ⟨⟨[99,112]⟩⟩ with
 |true =>
  rw[N3 h3 (b:=⟨⟨[114,109]⟩⟩) (by decide),N3 h3 (b:=⟨⟨[99,104,109,111,100]⟩⟩) (by decide)];simp only[Z5,D2,if_false,if_true,Bool.or_true,U0];exact ay8 _ 2
 |false =>
 cases h4:E8 nm ⟨⟨[99,104,109,111,100]⟩⟩ with
 |true =>
  rw[N3 h4 (b:=⟨⟨[114,109]⟩⟩) (by decide)];simp only[Z5,D2,if_false,if_true,U0,T8,R0];rw[show decide (((gd.length:Nat):Int)<2)=!Nat.ble 2 gd.length from ay8 _ 2]
  match gd with
  | []=>rfl
  | [a]=>rfl
  |a::b::r =>
   show(!Nat.ble 2 (r.length+1+1) || !bG9 a)=!bG9 a;have:Nat.ble 2 (r.length+1+1)=true:=by rw[Nat.ble_eq];omega
   rw[this];rfl
 |false =>
 cases h5:E8 nm ⟨⟨[114,109]⟩⟩ with
 |true =>
  rw[N3 h5 (b:=⟨⟨[108,115]⟩⟩) (by decide)];simp only[Z5,T8,D2,if_false,if_true,U0];cases I8 ge 102 with
  |true =>
   rw[d8 rfl,Bool.or_true];exact ay8 _ 0
  |false =>
   rw[d7 (by simp),U0];exact ay8 _ 1
 |false =>
 simp only[Z5,D2,if_false,U0];cases h6:E8 nm ⟨⟨[108,115]⟩⟩ with
 |true =>
  rw[d8 rfl,d8 rfl];exact ay8 _ 0
 |false =>
  rw[d7 (by simp),d7 (by simp)];exact ay8 _ 1
theorem bz8:∀ {l:List Int},(∀e∈l,e≠10)->N0 l≠10:=by
 intro l
 induction l with
 |nil=>intro _;simp[N0]
 |cons e r ih =>
  intro h;unfold N0;split
  ·exact ih fun x hx=>h x (E4 _ hx)
  ·exact h e (H7 ..)
theorem aS6{A:AT}(gb p:d9)(m:Int):(A.chmodF gb p m).1≠10:=by
 unfold AT.chmodF;simp only;split
 ·simp
 split
 ·exact aG5 (A:=A) gb p true
 ·unfold AT.chmodR;split
  ·simp
  ·unfold AT.chmodE;refine bz8 fun e he=>?_;simp only[G9,List.not_mem_nil,or_false]at he;rcases he with rfl|rfl|rfl
   ·simp
   ·split<;>simp
   ·split<;>simp
theorem bz9{A:AT}(gb ii p:d9):(A.chmodP gb ii p).1≠10:=by
 unfold AT.chmodP;split
 ·exact aS6 _ _ _
 ·simp only;split
  ·exact aS6 _ _ _
  ·exact aG5 (A:=A) gb p true
theorem aN1{nm:d9}{do_:TS->d9->Int×TS}(n:d9)(r:List d9)(s:TS)(hf:s.full=false):TS.each nm do_ (n::r) s=TS.each nm do_ r ((do_ s n).2.fail nm n (do_ s n).1):=by
 show(if s.full then s else _)=_;rw[hf];rfl
theorem aJ8{A:AT}{gb nm:d9}{args:List d9}(ht:ab7.any (fun t=>E8 nm t)=true):A.filesP gb nm args=match (if(E8 nm ⟨⟨[99,104,109,111,100]⟩⟩&&E8 (args.head?.getD ⟨⟨[]⟩⟩) ⟨⟨[45,120]⟩⟩)then some (⟨⟨[]⟩⟩,args)else ab3 (S0 nm) args ⟨⟨[]⟩⟩) with
 |none=>some (ad4 nm,A)
 |some (ge,gd)=>if L0 nm ge gd then some (⟨(doP A nm gb ge gd).out,(doP A nm gb ge gd).err,(doP A nm gb ge gd).st⟩,(doP A nm gb ge gd).A)else some (ad4 nm,A):=by
 unfold AT.filesP;rw[d8 ht];cases args<;>rfl
theorem bA0{A:AT}{N:Nat}{nm gb:d9}{args:List d9}(hI:Inv A)(hB:Bd N A)(hN:N<=500)(hq:A.qi<=40)(hl:args.length<=6)(hz:∀n∈args,n.size<=40){d:Dn}{A':AT}(h:A.filesP gb nm args=some (d,A')):Inv A'/\Bd (N+40) A'/\Kp A A':=by
 have same:Inv A/\Bd (N+40) A/\Kp A A:=⟨hI,hB.mono (by omega),Kp.refl A⟩;cases ht:ab7.any (fun t=>E8 nm t) with
 |false =>
  unfold AT.filesP at h;rw[ht]at h;cases h
 |true =>
  rw[aJ8 ht]at h;have key:∀ge gd,(∀n∈gd,n∈args)/\gd.length<=args.length->(if L0 nm ge gd then(let s:=doP A nm gb ge gd;some ((⟨s.out,s.err,s.st⟩:Dn),s.A))else some (ad4 nm,A))=some (d,A')->Inv A'/\Bd (N+40) A'/\Kp A A':=by
   intro ge gd ⟨m1,m2⟩ h;split at h
   ·have hf:=aj2 (ge:=ge) (gb:=gb) hI hB hN hq (by omega) (fun n hn=>hz n (m1 n hn)) ht;have h:some ((⟨(doP A nm gb ge gd).out,(doP A nm gb ge gd).err,(doP A nm gb ge gd).st⟩:Dn),(doP A nm gb ge gd).A)=some (d,A'):=h;simp only[Option.some.injEq,Prod.mk.injEq]at h;obtain⟨_,h⟩:=h;subst h;exact⟨hf.inv,hf.bd,hf.kp⟩
   ·simp only[Option.some.injEq,Prod.mk.injEq]at h;rw[<-h.2];exact same
  generalize (E8 nm ⟨⟨[99,104,109,111,100]⟩⟩&&E8 (args.head?.getD ⟨⟨[]⟩⟩) ⟨⟨[45,120]⟩⟩)=b at h;cases b with
  |true=>exact key _ _ ⟨fun n hn=>hn,A7 _⟩ h
  |false =>
   simp only[D2,if_false]at h;cases ho:ab3 (S0 nm) args ⟨⟨[]⟩⟩ with
   |none =>
    rw[ho]at h;simp only[Option.some.injEq,Prod.mk.injEq]at h;rw[<-h.2];exact same
   |some r =>
    obtain⟨ge,gd⟩:=r;rw[ho]at h;exact key ge gd (ag3 _ _ _ _ _ ho) h
def wCp:List d9:=[⟨⟨[45,114]⟩⟩,⟨⟨[100]⟩⟩,⟨⟨[101]⟩⟩]
def wLs:List d9:=[⟨⟨[101]⟩⟩]
def wRm:List d9:=[⟨⟨[45,114]⟩⟩,⟨⟨[101]⟩⟩]
def wq0:AT:=bgT 30 100
def wq1:AT:=(Q5 wq0 ⟨⟨[99,112]⟩⟩ wCp).2
def wq2:AT:=(Q5 wq1 ⟨⟨[108,115]⟩⟩ wLs).2
def wq3:AT:=(Q5 wq2 ⟨⟨[114,109]⟩⟩ wRm).2
theorem cs4:(Q5 wq0 ⟨⟨[99,112]⟩⟩ wCp).1=⟨⟨[48]⟩⟩:=J9.1 (by decide +kernel)
theorem cs5:(Q5 wq1 ⟨⟨[108,115]⟩⟩ wLs).1=⟨⟨[48,102,10,115,10]⟩⟩:=J9.1 (by decide +kernel)
theorem cs6:(Q5 wq2 ⟨⟨[114,109]⟩⟩ wRm).1=⟨⟨[48]⟩⟩:=J9.1 (by decide +kernel)
theorem cG7:(wq3.stat ⟨⟨[47]⟩⟩ ⟨⟨[101]⟩⟩ true).1=5:=by decide +kernel
end
section

end
section

end
section

end
end Go.Wk

namespace Go.Proofs.YtikedigonnlbkaaGreatDoor
open Go Go.HL
section
@[reducible] def kI:TK:=.one (.sc (.int .i64))
@[reducible] def kC:TK:=.one (.sc (.int .u8))
@[reducible] def kB:TK:=.one (.sc .bool)
@[reducible] def kS:TK:=.one (.sc .str)
@[reducible] def kP:TK:=.one (.sc .ptr)
@[reducible] def kL:TK:=.one (.sc .slc)
@[reducible] def kM:TK:=.one (.sc .map)
@[reducible] def kR:TK:=.one (.sc .raw)
@[reducible] def kU:TK:=.tup []
def tau:Nat->TK
 |0=>kU
 |2=>kI
 |3=>kI
 |4=>kB
 |5=>kC
 |6=>kC
 |7=>(.one (.agg [(.int .i64),(.int .i64),.bool,(.int .u8)]))
 |8=>(.one (.agg [(.int .i64),(.int .i64),.bool,(.int .u8)]))
 |9=>kS
 |10=>kS
 |11=>kS
 |12=>(.one (.sc (.int .u64)))
 |13=>(.one (.agg [.str,(.int .u64)]))
 |14=>(.one (.agg [.str,(.int .u64)]))
 |15=>kP
 |16=>kP
 |17=>kP
 |18=>(.one (.agg [.ptr]))
 |19=>(.one (.agg [.ptr]))
 |21=>(.one (.sc (.int .i32)))
 |22=>kL
 |23=>(.one (.agg [(.int .u8),(.int .u8)]))
 |24=>kP
 |25=>kP
 |26=>(.tup [.sc .ptr,.sc .ptr])
 |28=>(.one (.agg [(.int .i64),(.int .i64)]))
 |29=>(.one (.agg [(.int .i64),(.int .i64)]))
 |30=>kL
 |31=>(.one (.agg [.str,.slc,.str,.str]))
 |32=>(.one (.agg [.str,.slc,.str,.str]))
 |34=>(.one (.agg [.str,.str,(.int .i64)]))
 |35=>(.one (.agg [.str,.str,(.int .i64)]))
 |36=>(.tup [.agg [.str,.str,(.int .i64)],.sc .bool])
 |45=>kI
 |50=>kP
 |51=>(.one (.agg [.str,.slc,.str,.str,.ptr,.str,.str,(.int .i64),.str,.slc,.bool]))
 |52=>(.one (.agg [.str,.slc,.str,.str,.ptr,.str,.str,(.int .i64),.str,.slc,.bool]))
 |53=>(.tup [.sc .raw,.sc .bool])
 |54=>kM
 |55=>kM
 |57=>kP
 |58=>(.one (.agg [.ptr,.str,.slc,.str,.str,.str,.str,(.int .i64),.bool]))
 |59=>(.one (.agg [.ptr,.str,.slc,.str,.str,.str,.str,(.int .i64),.bool]))
 |60=>(.tup [.sc .str,.sc .slc,.sc .bool])
 |65=>(.tup [.sc .slc,.sc .bool])
 |69=>kP
 |70=>(.one (.agg [.ptr]))
 |71=>(.one (.agg [.ptr]))
 |72=>kL
 |73=>(.one (.agg [(.int .i64),(.int .i64),.slc]))
 |74=>(.one (.agg [(.int .i64),(.int .i64),.slc]))
 |75=>kP
 |76=>kL
 |77=>(.one (.agg [(.int .i64),(.int .i64),.str,.slc,(.int .i64)]))
 |78=>(.one (.agg [(.int .i64),(.int .i64),.str,.slc,(.int .i64)]))
 |79=>(.one (.agg [(.int .i64),(.int .i64),.str,(.int .i64)]))
 |80=>(.one (.agg [(.int .i64),(.int .i64),.str,(.int .i64)]))
 |81=>(.tup [.agg [(.int .i64),(.int .i64),.str,(.int .i64)],.sc (.int .i64)])
 |83=>(.tup [.sc .slc,.sc (.int .i64)])
 |88=>(.one (.agg [(.int .i64),.str,(.int .i64),.bool]))
 |89=>(.one (.agg [(.int .i64),.str,(.int .i64),.bool]))
 |91=>(.tup [.sc (.int .i64),.sc (.int .i64)])
 |94=>(.one (.agg [(.int .i64),.str,(.int .i64)]))
 |95=>(.one (.agg [(.int .i64),.str,(.int .i64)]))
 |96=>(.tup [.agg [(.int .i64),.str,(.int .i64)],.sc (.int .i64)])
 |99=>(.tup [.agg [(.int .i64),.str,(.int .i64),.bool],.sc (.int .i64)])
 |101=>(.tup [.agg [(.int .i64),(.int .i64),.str,(.int .i64)],.sc .bool])
 |117=>(.tup [.sc (.int .i64),.sc .bool])
 |129=>(.tup [.sc .str,.sc (.int .i64)])
 |135=>kM
 |136=>(.one (.agg [(.int .i64),(.int .i64),(.int .i64),(.int .i64),.map,(.int .i64)]))
 |137=>(.one (.agg [(.int .i64),(.int .i64),(.int .i64),(.int .i64),.map,(.int .i64)]))
 |139=>(.one (.agg [.str,(.int .i64)]))
 |140=>(.one (.agg [.str,(.int .i64)]))
 |141=>kL
 |142=>kP
 |143=>kM
 |144=>(.one (.agg [(.int .i64),(.int .i64),.str,(.int .i64),(.int .i64),.map]))
 |145=>(.one (.agg [(.int .i64),(.int .i64),.str,(.int .i64),(.int .i64),.map]))
 |147=>kM
 |156=>kP
 |161=>(.tup [.sc (.int .i64),.sc .raw])
 |163=>(.tup [.agg [(.int .i64),.str,(.int .i64),.bool],.agg [(.int .i64),.str,(.int .i64),.bool],.sc (.int .i64)])
 |170=>(.one (.sc (.int .u64)))
 |174=>(.tup [.sc .raw,.sc .bool])
 |177=>kP
 |180=>kL
 |189=>kI
 |190=>(.tup [.sc (.int .i64),.sc (.int .i64)])
 |196=>(.one (.sc (.int .u32)))
 |198=>(.one (.sc (.int .u64)))
 |199=>(.tup [.sc (.int .i32),.sc (.int .i64)])
 |206=>kI
 |207=>(.tup [.sc (.int .u64),.sc .raw])
 |209=>kP
 |212=>(.one (.sc (.int .u64)))
 |218=>(.one (.agg [(.int .u8),(.int .u8),(.int .u8),(.int .u8),(.int .u8),(.int .u8),(.int .u8),(.int .u8),(.int .u8),(.int .u8),(.int .u8),(.int .u8),(.int .u8),(.int .u8),(.int .u8),(.int .u8),(.int .u8),(.int .u8),(.int .u8),(.int .u8),(.int .u8),(.int .u8),(.int .u8),(.int .u8)]))
 |220=>(.tup [.sc .slc,.sc .str])
 |226=>(.one (.agg [.str,.str,.raw]))
 |227=>(.one (.agg [.str,.str,.raw]))
 |229=>kP
 |230=>(.tup [.sc (.int .i64),.sc (.int .i64)])
 |233=>(.one (.agg [(.int .u8),(.int .u8)]))
 |234=>(.one (.agg [(.int .u8),(.int .u8)]))
 |238=>(.one (.agg [(.int .u64),(.int .u64),(.int .u64),(.int .u64),(.int .u64),(.int .u64),(.int .u64),(.int .u64),(.int .u64),(.int .u64),(.int .u64),(.int .u64),(.int .u64),(.int .u64),(.int .u64),(.int .u64),(.int .u64),(.int .u64),(.int .u64),(.int .u64)]))
 |240=>kP
 |241=>kP
 |242=>(.one (.agg [.str]))
 |243=>(.one (.agg [.str]))
 |246=>(.tup [.sc (.int .u32),.sc (.int .u32)])
 |249=>(.one (.agg [.ptr,.ptr,.ptr,.str]))
 |250=>(.one (.agg [.ptr,.ptr,.ptr,.str]))
 |251=>(.one (.agg []))
 |252=>(.one (.agg []))
 |253=>(.one (.agg []))
 |254=>kC
 |255=>kC
 |257=>(.one (.sc (.int .i32)))
 |258=>(.one (.sc (.int .i32)))
 |259=>(.one (.agg [(.int .u64),(.int .u64),(.int .u32),(.int .u8),(.int .u8),(.int .u8),(.int .u8),.raw,.ptr,(.int .i32),(.int .i32)]))
 |260=>(.one (.agg [(.int .u64),(.int .u64),(.int .u32),(.int .u8),(.int .u8),(.int .u8),(.int .u8),.raw,.ptr,(.int .i32),(.int .i32)]))
 |_=>kR
theorem mixed:Tryz.prog.follows .mixedOrders=true:=by kernel_rfl
end
section
abbrev i7:=E2 Tryz.prog
abbrev i6:=J0 Tryz.prog
abbrev A3:=stW Tryz.prog
abbrev ac9:=biW Tryz.prog
abbrev ae9:=muW Tryz.prog
abbrev OAt:=Option Addr
abbrev C2:=H->Prop
abbrev dQ4(x:OAt)(k:Nat)(t:TK)(F:t.Fn C2):C2:=i9 x (fun b o=>l8 (m8 b (o+k)) t F)
abbrev dQ5(x:OAt)(k:Nat)(t:TK)(F:Nat->Nat->t.Fn C2):C2:=i9 x (fun b o=>l8 (m8 b (o+k)) t (F b o))
abbrev dQ6(x:OAt)(t:TK)(F:t.Fn C2):C2:=i9 x (fun b o=>l8 (m8 b o) t F)
abbrev dQ7(x:OAt)(t:TK)(F:Nat->Nat->t.Fn C2):C2:=i9 x (fun b o=>l8 (m8 b o) t (F b o))
abbrev dQ8(x:OAt)(n k:Nat)(t:TK)(F:t.Fn C2):C2:=i9 x (fun b o=>l8 (rdA n b (o+k)) t F)
abbrev dQ9(x:OAt)(n k:Nat)(t:TK)(F:Nat->Nat->t.Fn C2):C2:=i9 x (fun b o=>l8 (rdA n b (o+k)) t (F b o))
abbrev dR0(x:OAt)(n:Nat)(t:TK)(F:t.Fn C2):C2:=i9 x (fun b o=>l8 (rdA n b o) t F)
abbrev dR1(x:OAt)(n:Nat)(t:TK)(F:Nat->Nat->t.Fn C2):C2:=i9 x (fun b o=>l8 (rdA n b o) t (F b o))
abbrev dR2(x:OAt)(n:Nat)(i:Int)(t:TK)(F:t.Fn C2):C2:=i9 x (fun b o=>E3 (0<=i/\i<((n:Nat):Int)) (l8 (m8 b (o+i.toNat*1)) t F))
abbrev dR3(x:OAt)(n:Nat)(i:Int)(t:TK)(F:Nat->Nat->t.Fn C2):C2:=i9 x (fun b o=>E3 (0<=i/\i<((n:Nat):Int)) (l8 (m8 b (o+i.toNat*1)) t (F b o)))
abbrev dR4:TK:=.tup [.agg [(.int .i64),(.int .i64),.str,(.int .i64)],.i]
abbrev dR5:TK:=.one (.agg [(.int .i64),.str,(.int .i64)])
abbrev dR6:TK:=.one (.agg [(.int .i64),.str,(.int .i64),.bool])
abbrev dR7:TK:=.tup [.agg [(.int .i64),.str,(.int .i64)],.i]
abbrev dR8:TK:=.one (.agg [(.int .i64),(.int .i64)])
abbrev dR9:TK:=.one (.agg [(.int .i64),(.int .i64),.str,(.int .i64)])
abbrev dS0:TK:=.tup [.agg [(.int .i64),.str,(.int .i64),.bool],.i]
abbrev dS1:TK:=.one (.agg [.str,.str,(.int .i64)])
abbrev dS2:TK:=.one (.agg [.str,.slc,.str,.str])
abbrev dS3:TK:=.tup [.agg [(.int .i64),(.int .i64),.str,(.int .i64)],.b]
abbrev dS4:TK:=.tup [.agg [(.int .i64),.str,(.int .i64),.bool],.agg [(.int .i64),.str,(.int .i64),.bool],.i]
abbrev dS5:TK:=.tup [.agg [.str,.str,(.int .i64)],.b]
abbrev dS6:TK:=.tup [.l,.i]
abbrev dS7:TK:=.tup [.i,.b]
abbrev dS8:TK:=.tup [.s,.i]
abbrev dS9:TK:=.tup [.sc (.int .i64),.sc .bool]
abbrev dT0:TK:=.tup [.i,.i]
abbrev dT1:TK:=.one (.agg [.str,(.int .i64)])
abbrev dU3:Type:=m9->m9->m9->Bool->C2
abbrev dV1:Type:=d9->Int->Bool->d9->Bool->C2
abbrev dV2:Type:=Int->Bool->C2
abbrev dV5:Type:=m9->d9->Int->C2
abbrev dV7:Type:=m9->m9->m9->m9->Int->d9->Sl->Bool->C2
abbrev dW0:Type:=m9->m9->m9->Bool->Bool->Bool->C2
abbrev dW1:Type:=d9->Int->Int->Bool->d9->Bool->C2
abbrev dW3:Type:=m9->d9->d9->m9->Int->Bool->C2
abbrev dW4:Type:=m9->d9->Bool->m9->Int->m9->C2
abbrev dW6:Type:=m9->m9->m9->C2
abbrev dY0:Type:=d9->d9->Bool->C2
variable {K:KH} {Y:H}
theorem q9{fn:Func}{f:FuncId}(an:Ann){args:List u9}{K:KH}{Y:H}{G:C2}(hf:Tryz.prog.funcs[f]?=some fn)(e:bV6 Tryz.prog tau fn an args K=G:=by kernel_rfl)(h:G Y):i7 f args K Y:=bd1 mixed hf (by rw[e];exact h)

def an3:Ann:=(.k 2 (.n (.o (dlN 0x10d03202a004) .h) (.n (.q (.blk (.loop (dlN 0x3903202a004) (.n (.o (dlN 0x14d03903202a004) (.cond .z .z)) (.n (.blk (.k 3 (.o (dlN 0x28d03903202a004) .h))) .r))))) (.q .z))))
def g3(bb:Sl)(bc:Int)(bd:Int)(K:KH):C2 :=
 H0 (.c [.int .u8 bc,.int .u8 bd] 23) (fun s=>E3 (0<=(0:Int)/\(0:Int)<(2:Int)) (l8 (m8 s (0+(0:Int).toNat*1)) kC (fun z=>E3 ((30:Int)≠0) (E3 (0<=(1:Int)/\(1:Int)<(2:Int)) (l8 (m8 s (0+(1:Int).toNat*1)) kC (fun A=>E3 ((100:Int)≠0) (i6 4 [.g [.i (IntKind.i64.wrap (8+(IntKind.i64.wrap (Int.tmod z 30)))),.i (IntKind.i64.wrap (12+(IntKind.i64.wrap (Int.tmod A 100))))]] (.tup [.p,.p]) (fun h j=>C0 (T:=Sl->m9->m9->Bool->C2) (fun B C D E=>A0 E (K (.bool false)) (C9 [.l,.p,.p,.i] (fun F=>(fun k t u (f:Int)=>C0 (T:=Sl->m9->m9->Int->Bool->C2) (fun e a c d G=>A0 G (i9 e.base (fun H I=>E3 (0<=d/\d<(e.len:Int)) (l8 (rdA 4 H (I+d.toNat*4)) dS2 (fun J m L M=>i6 5 [.g [.s J,.slice m.base m.len m.cap,.s L,.s M]] dS2 (fun N n O P=>H0 (.c [.s gq,.slice none 0 0,.s gq,.s gq] 32) (fun o=>A3 32 (.q o) (.g [.s N,.slice n.base n.len n.cap,.s O,.s P]) (l8 (rdA 4 o 0) dS2 (fun Q q R S=>i6 6 [.p a,.g [.s Q,.slice q.base q.len q.cap,.s R,.s S]] dS5 (fun U W X Z=>H0 (.c [.s gq,.s gq,.i 0] 35) (fun v=>A3 35 (.q v) (.g [.s U,.s W,.i X]) (l8 (rdA 4 o 0) dS2 (fun aa r ab ac=>i6 7 [.p c,.g [.s aa,.slice r.base r.len r.cap,.s ab,.s ac]] dS5 (fun ad ae af ag=>H0 (.c [.s gq,.s gq,.i 0] 35) (fun w=>A3 35 (.q w) (.g [.s ad,.s ae,.i af]) (C0 (T:=Sl->m9->m9->Int->Bool->C2) (fun ah ai aj ak al=>A0 al (K (.bool false)) (F ah ai aj (IntKind.i64.wrap (ak+1)))) (fun g=>l8 (rdA 3 v 0) dS1 (fun am an (ao:Int)=>l8 (rdA 3 w 0) dS1 (fun ap aq (ar:Int)=>A0 (!(C3 am ap&&(C3 an aq&&((ao==ar)&&true)))) (g e a c d true) (A0 (!(Z==ag)) (g e a c d true) (i6 8 [.p a] dR8 (fun (au:Int) (av:Int)=>i6 9 [.p c] dR8 (fun (aw:Int) (ax:Int)=>A0 (!((au==aw)&&((av==ax)&&true))) (g e a c d true) (i6 10 [.p a,.p c,.s (bs [47]),.i 13] kB (fun ay=>g e a c d (!ay))))))))))))))))))))))))) (i6 11 [] kB (fun az=>K (.bool az)))) (fun x=>A0 (decide (f<(k.len:Int))) (x k t u f (decide (f<10))) (x k t u f false)))) (fun ba=>ba B C D 0))) (fun y=>A0 h.isNone (y bb h j true) (y bb h j j.isNone))))))))))
theorem c3(v1:Sl)(v2:Int)(v3:Int):g3 v1 v2 v3 K Y->i7 3 [.slice v1.base v1.len v1.cap,.g [.int .u8 v2,.int .u8 v3]] K Y:=q9 an3 Tryz.func3


def an4:Ann:=(.q (.n (.reg [0,2,1,3,4,5] (mkR [0,1,0,7,15,31])) (.n (.o (dlN 0x7d02a022) .h) (.k 15 .z))))
def g4(l:Int)(m:Int)(K:KH):C2 :=
 H0 (.c [.i l,.i m] 29) (fun c=>l8 (rdA 2 c 0) dR8 (fun i j=>l8 (rdA 2 c 0) dR8 (fun f g=>i6 12 [.g [.i i,.i j]] kP (fun d=>I9 (fun Y=>(rdA 2 c 0) Y=some (.g [.i f,.i g])) (i6 13 [.g [.i f,.i g]] kP (fun e=>C0 (T:=m9->m9->Bool->C2) (fun a b k=>A0 k (K (.t [.p none,.p none])) (i6 14 [.p a,.s (bs [47]),.s (bs [100])] kI (fun n=>i6 15 [.p b,.s (bs [47]),.s (bs [100])] kI (fun o=>i6 14 [.p a,.s (bs [47]),.s (bs [100,47,115])] kI (fun p=>i6 15 [.p b,.s (bs [47]),.s (bs [100,47,115])] kI (fun q=>i6 16 [.p a,.s (bs [47]),.s (bs [100,47,102]),.s (bs [104,105]),.bool false] kI (fun r=>i6 17 [.p b,.s (bs [47]),.s (bs [100,47,102]),.s (bs [104,105]),.bool false] kI (fun s=>i6 16 [.p a,.s (bs [47]),.s (bs [100,47,115,47,103]),.s (bs [114,117,110]),.bool false] kI (fun t=>i6 17 [.p b,.s (bs [47]),.s (bs [100,47,115,47,103]),.s (bs [114,117,110]),.bool false] kI (fun u=>i6 18 [.p a,.s (bs [47]),.s (bs [100,47,115,47,103]),.i 493] kI (fun v=>i6 19 [.p b,.s (bs [47]),.s (bs [100,47,115,47,103]),.i 493] kI (fun w=>i6 20 [.p a,.s (bs [47]),.s (bs [100]),.s (bs [108])] kI (fun x=>i6 21 [.p b,.s (bs [47]),.s (bs [100]),.s (bs [108])] kI (fun y=>i6 20 [.p a,.s (bs [47]),.s (bs [110,111,110,101]),.s (bs [109])] kI (fun z=>i6 21 [.p b,.s (bs [47]),.s (bs [110,111,110,101]),.s (bs [109])] kI (fun A=>K (.t [.p a,.p b]))))))))))))))))) (fun h=>A0 d.isNone (h d e true) (h d e e.isNone))))))))
theorem c4(v1:Int)(v2:Int):g4 v1 v2 K Y->i7 4 [.g [.i v1,.i v2]] K Y:=q9 an4 Tryz.func4


def an5:Ann:=(.k 2 (.n (.q (.blk (.loop (dlN 0x2101c01200a) (.n (.o (dlN 0x6d02101c01200a) (.cond .z .z)) (.n (.blk (.reg (rn 17) (mkR [0,0,2,0,14,30,0,64,0,448,960,1984,4032,8190,16382,32767,65535]))) .r))))) (.k 4 .z)))
def g5(S:d9)(n:Sl)(U:d9)(W:d9)(K:KH):C2 :=
 H0 (.c [.s S,.slice n.base n.len n.cap,.s U,.s W] 32) (fun x=>H0 (.c [.s gq,.slice none 0 0,.s gq,.s gq] 32) (fun y=>C9 [.p,.p,.l,.i] (fun z=>(fun g o q (f:Int)=>C0 (T:=m9->m9->Sl->Int->Bool->C2) (fun a h b j A=>A0 A (dQ4 a 1 kL (fun r=>dR2 r.base r.len j kS (fun s=>dQ4 a 1 kL (fun t=>dR2 t.base t.len j kS (fun c=>E3 (E1 (some (if 40<(c.size:Int)then 40 else(c.size:Int))) s.size/\E1 none ((if 40<(c.size:Int)then 40 else(c.size:Int)).toNat)) (H0 (.c [.s (s.extract 0 ((if 40<(c.size:Int)then 40 else(c.size:Int)).toNat))] 9) (fun B=>ac9 .append #[30,30] 30 [false,false] [.slice b.base b.len b.cap,.slice (gp B) 1 1] kL (fun C=>z a h C (IntKind.i64.wrap (j+1)))))))))) (i9 a (fun D E=>A3 30 (.p (some ⟨D,E+1,none⟩)) (.slice b.base b.len b.cap) (dQ4 a 2 kS (fun u=>dQ4 a 2 kS (fun d=>E3 (E1 (some (if 40<(d.size:Int)then 40 else(d.size:Int))) u.size/\E1 none ((if 40<(d.size:Int)then 40 else(d.size:Int)).toNat)) (i9 a (fun F G=>A3 9 (.p (some ⟨F,G+2,none⟩)) (.s (u.extract 0 ((if 40<(d.size:Int)then 40 else(d.size:Int)).toNat))) (dQ4 a 3 kS (fun v=>dQ4 a 3 kS (fun e=>E3 (E1 (some (if 40<(e.size:Int)then 40 else(e.size:Int))) v.size/\E1 none ((if 40<(e.size:Int)then 40 else(e.size:Int)).toNat)) (i9 a (fun H I=>A3 9 (.p (some ⟨H,I+3,none⟩)) (.s (v.extract 0 ((if 40<(e.size:Int)then 40 else(e.size:Int)).toNat))) (dR0 a 4 dS2 (fun J k L M=>A3 32 (.p h) (.g [.s J,.slice k.base k.len k.cap,.s L,.s M]) (dR0 h 4 dS2 (fun N m O P=>K (.g [.s N,.slice m.base m.len m.cap,.s O,.s P])))))))))))))))))) (fun w=>dQ4 g 1 kL (fun Q=>A0 (decide (f<(Q.len:Int))) (w g o q f (decide (f<6))) (w g o q f false))))) (fun R=>R (gp x) (gp y) ⟨none,0,0⟩ 0)))
theorem c5(v1:d9)(v2:Sl)(v3:d9)(v4:d9):g5 v1 v2 v3 v4 K Y->i7 5 [.g [.s v1,.slice v2.base v2.len v2.cap,.s v3,.s v4]] K Y:=q9 an5 Tryz.func5


def an6:Ann:=(.k 3 (.n (.q .h) (.q (.o (dlN 0x5504b03e03202201a) (.seq (some (dlN 0x5504b03e03202201a)) (.q (.cond .r .z)) (.n (.o (dlN 0x29d03e03202201a) .h) (.k 2 .z)))))))
def g6(ap:m9)(am:d9)(u:Sl)(an:d9)(ao:d9)(K:KH):C2 :=
 H0 (.c [.s am,.slice u.base u.len u.cap,.s an,.s ao] 32) (fun d=>H0 (.c [.s gq,.s gq,.i 0] 35) (fun g=>l8 (rdA 4 d 0) dS2 (fun C i D E=>H0 (.c [.s C,.slice i.base i.len i.cap,.s D,.s E,.p ap,.s gq,.s gq,.i 0,.s gq,.slice none 0 0,.bool false] 52) (fun a=>H0 (.map #[] 0) (fun c=>ae9 54 (.map (some c)) (.s (bs [109,107,100,105,114])) (.func (.func 22) ⟨[.q a]⟩ ⟨[]⟩) (ae9 54 (.map (some c)) (.s (bs [114,109,100,105,114])) (.func (.func 23) ⟨[.q a]⟩ ⟨[]⟩) (ae9 54 (.map (some c)) (.s (bs [116,111,117,99,104])) (.func (.func 24) ⟨[.q a]⟩ ⟨[]⟩) (ae9 54 (.map (some c)) (.s (bs [99,104,109,111,100])) (.func (.func 25) ⟨[.q a]⟩ ⟨[]⟩) (ae9 54 (.map (some c)) (.s (bs [108,110])) (.func (.func 26) ⟨[.q a]⟩ ⟨[]⟩) (ae9 54 (.map (some c)) (.s (bs [114,109])) (.func (.func 27) ⟨[.q a]⟩ ⟨[]⟩) (ae9 54 (.map (some c)) (.s (bs [109,118])) (.func (.func 28) ⟨[.q a]⟩ ⟨[]⟩) (ae9 54 (.map (some c)) (.s (bs [99,112])) (.func (.func 29) ⟨[.q a]⟩ ⟨[]⟩) (ae9 54 (.map (some c)) (.s (bs [108,115])) (.func (.func 30) ⟨[.q a]⟩ ⟨[]⟩) (l8 (m8 d 0) kS (fun F=>l8 (rdM .string (.nilFunc) true (some c) (.s F)) (.tup [.w,.b]) (fun j G=>A0 (!G) (A3 35 (.q g) (.g [.s gq,.s gq,.i 0]) (l8 (rdA 3 g 0) dS1 (fun H I J=>K (.t [.g [.s H,.s I,.i J],.bool false])))) (H0 (.map #[] 0) (fun e=>ae9 55 (.map (some e)) (.s (bs [109,107,100,105,114])) (.s (bs [112])) (ae9 55 (.map (some e)) (.s (bs [108,110])) (.s (bs [115,102])) (ae9 55 (.map (some e)) (.s (bs [114,109])) (.s (bs [114,102])) (ae9 55 (.map (some e)) (.s (bs [109,118])) (.s (bs [102])) (ae9 55 (.map (some e)) (.s (bs [99,112])) (.s (bs [114])) (ae9 55 (.map (some e)) (.s (bs [108,115])) (.s (bs [97,49])) (l8 (m8 d 0) kS (fun L=>l8 (rdM .string (.s gq) false (some e) (.s L)) kS (fun k=>C0 (T:=m9->m9->m9->u9->d9->Bool->C2) (fun l v m x y n=>C0 (T:=m9->m9->m9->u9->d9->Bool->C2) (fun o p f q M N=>C0 (T:=m9->m9->m9->u9->Bool->C2) (fun O h P Q R=>A0 R (dQ6 O kS (fun z=>E3 (z.size+((bs [58,32,117,115,97,103,101,10]):d9).size<=9223372036854775807) (A3 35 (.p h) (.g [.s gq,.s (z++(bs [58,32,117,115,97,103,101,10])),.i 2]) (dR0 h 3 dS1 (fun S U W=>K (.t [.g [.s S,.s U,.i W],.bool true])))))) (G8 Tryz.prog Q [] kU (dQ8 P 3 5 dS1 (fun X Z aa=>A3 35 (.p h) (.g [.s X,.s Z,.i aa]) (dR0 h 3 dS1 (fun ab ac ad=>K (.t [.g [.s ab,.s ac,.i ad],.bool true]))))))) (fun r=>A0 (!N) (i6 31 [.p f,.s M] kB (fun ae=>A0 (!ae) (r o p f q true) (i6 32 [.p f] kB (fun af=>r o p f q (!af))))) (i6 32 [.p f] kB (fun ag=>r o p f q (!ag))))) (fun A=>A0 n (dQ4 l 1 kL (fun s=>i9 m (fun ah ai=>A3 30 (.p (some ⟨ah,ai+9,none⟩)) (.slice s.base s.len s.cap) (A l v m x y n)))) (A l v m x y n))) (fun t=>l8 (m8 d 0) kS (fun aj=>A0 (C3 aj ((bs [99,104,109,111,100]):d9)) (l8 (m8 d 1) kL (fun ak=>A0 (decide ((ak.len:Int)>0)) (l8 (m8 d 1) kL (fun B=>dR2 B.base B.len 0 kS (fun al=>t (gp d) (gp g) (gp a) j k (C3 al ((bs [45,120]):d9))))) (t (gp d) (gp g) (gp a) j k false))) (t (gp d) (gp g) (gp a) j k false)))))))))))))))))))))))))))))
theorem c6(v1:m9)(v2:d9)(v3:Sl)(v4:d9)(v5:d9):g6 v1 v2 v3 v4 v5 K Y->i7 6 [.p v1,.g [.s v2,.slice v3.base v3.len v3.cap,.s v4,.s v5]] K Y:=q9 an6 Tryz.func6


def an7:Ann:=(.k 3 (.seq (some (dlN 0x4103b03202201a002)) (.q (.blk (.q (.cond .r (.seq (some (dlN 0xd50b304103b03202201a002)) (.q (.cond .z .r)) (.cond .z (.q (.cond .r (.q (.cond .r (.q (.cond .r (.q (.cond .r (.q (.cond .r (.q (.cond .r (.q .z))))))))))))))))))) (.k 2 (.seq (some (dlN 0x6505c05304103202201a002)) (.o (dlN 0x1cd06505c05304c04103b03202201a002) (.cond .r .z)) (.seq (some (dlN 0x6505c05304103202201a002)) (.o (dlN 0x23d06505c05304103202201a002) (.cond .r .z)) (.n (.o (dlN 0x38d05c05303202201a002) (.cond (.k 2 .z) .z)) (.seq (some (dlN 0x32022)) (.q (.blk (.q (.cond (.q (.blk (.loop (dlN 0x6905c032022) (.n (.q (.cond .z .z)) (.n (.blk (.reg (rn 15) (mkR [0,0,0,6,14,0,0,64,192,0,0,1536,3584,8160,16383]))) .r))))) (.q (.cond (.reg (rn 14) (mkR [0,0,2,6,0,0,0,64,192,0,512,1536,4080,8191])) (.seq (some (dlN 0x52d3cb05c05303202201a002)) (.q (.cond .z .r)) (.cond (.q (.n (.q (.cond (.k 2 .z) .z)) (.q (.blk (.loop (dlN 0x8107405c05303202201a002) (.n (.o (dlN 0x63508107405c05303202201a002) (.cond .z .z)) (.seq (some (dlN 0x8107405c05303202201a002)) (.blk (.q (.cond (.reg (rn 18) (mkR [0,0,0,6,14,0,0,64,0,0,768,1792,0,0,12288,28672,65504,131071])) (.reg (rn 11) (mkR [0,0,0,0,12,28,0,0,192,448,1023]))))) .r))))))) (.q (.cond .r .r)))))))))) (.q .z))))))))
def g7(P:m9)(fu:d9)(am:Sl)(fv:d9)(fw:d9)(K:KH):C2 :=
 H0 (.c [.s fu,.slice am.base am.len am.cap,.s fv,.s fw] 32) (fun E=>H0 (.c [.s gq,.s gq,.i 0] 35) (fun N=>l8 (rdA 4 E 0) dS2 (fun cd O ce cf=>H0 (.c [.p P,.s cd,.slice O.base O.len O.cap,.s ce,.s cf,.s gq,.s gq,.i 0,.bool false] 59) (fun Q=>C0 (T:=m9->m9->m9->m9->d9->Int->C2) (fun R F S U W X=>dQ4 F 1 kL (fun k=>C0 (T:=dV7) (fun an Z ao ap aq aa ar au=>C0 (T:=dV7) (fun e c f g cg h a ch=>C0 (T:=m9->m9->m9->m9->d9->Sl->Bool->C2) (fun av ab A o ac m ci=>A0 ci (i6 36 [.p o] kU (dQ8 o 3 5 dS1 (fun cj ck cl=>A3 35 (.p A) (.g [.s cj,.s ck,.i cl]) (dR0 A 3 dS1 (fun cm cn co=>K (.t [.g [.s cm,.s cn,.i co],.bool true])))))) (C0 (T:=m9->m9->C2) (fun aw cp=>dQ8 cp 3 5 dS1 (fun cq cr cs=>A3 35 (.p aw) (.g [.s cq,.s cr,.i cs]) (dR0 aw 3 dS1 (fun ct cu cv=>K (.t [.g [.s ct,.s cu,.i cv],.bool true]))))) (fun G=>dQ6 ab kS (fun w=>A0 (C3 w ((bs [99,104,109,111,100]):d9)) (C9 [.p,.p,.l,.i] (fun cw=>(fun ax L q (H:Int)=>A0 (decide (H<(q.len:Int))) (dR3 q.base q.len H kS (fun cx cy ay=>dR2 q.base q.len 0 kS (fun cz=>dR2 q.base q.len H kS (fun da=>i6 38 [.p L,.s cz,.s da] kI (fun db=>I9 (fun Y=>(m8 cx (cy+H.toNat*1)) Y=some (.s ay)) (i6 37 [.p L,.s ay,.i db] kB (fun fx=>cw ax L q (IntKind.i64.wrap (H+1))))))))) (G ax L))) (fun dc=>dc A o m 1)) (A0 (C3 w ((bs [108,110]):d9)) (dR3 m.base m.len 1 kS (fun dd de az=>dR2 m.base m.len 0 kS (fun df=>dR2 m.base m.len 1 kS (fun dg=>i6 39 [.p o,.s ac,.s df,.s dg] kI (fun dh=>I9 (fun Y=>(m8 dd (de+(1:Int).toNat*1)) Y=some (.s az)) (i6 37 [.p o,.s az,.i dh] kB (fun fy=>G A o))))))) (C0 (T:=m9->m9->m9->m9->d9->Sl->d9->Bool->C2) (fun di dj I r ad d dk dl=>A0 dl (i6 40 [.p r,.slice d.base d.len d.cap] (.tup [.l,.b]) (fun dm dn=>A0 (!dn) (dR2 d.base d.len (IntKind.i64.wrap ((d.len:Int)-1)) kS (fun dp=>i6 37 [.p r,.s dp,.i 8] kB (fun fz=>dQ8 r 3 5 dS1 (fun dq dr ds=>A3 35 (.p I) (.g [.s dq,.s dr,.i ds]) (dR0 I 3 dS1 (fun dt du dv=>K (.t [.g [.s dt,.s du,.i dv],.bool true]))))))) (C9 [.p,.p,.p,.p,.s,.l,.l,.i] (fun dw=>(fun ba bb bc ae bd be af (ag:Int)=>C0 (T:=m9->m9->m9->m9->d9->Sl->Sl->Int->Bool->C2) (fun ah M ai J aj t B u dx=>A0 dx (C0 (T:=m9->m9->m9->m9->d9->Sl->Sl->Int->C2) (fun dy dz ea eb ec ed ee ef=>dw dy dz ea eb ec ed ee (IntKind.i64.wrap (ef+1))) (fun bf=>dQ6 M kS (fun eg=>A0 (C3 eg ((bs [109,118]):d9)) (dR3 t.base t.len u kS (fun eh ei bg=>dQ4 M 3 kS (fun ej=>dR2 t.base t.len u kS (fun ek=>dR2 B.base B.len u kS (fun el=>i6 41 [.p ah,.s ej,.s ek,.s el] kI (fun em=>I9 (fun Y=>(m8 eh (ei+u.toNat*1)) Y=some (.s bg)) (i6 37 [.p J,.s bg,.i em] kB (fun ga=>bf ah M ai J aj t B u)))))))) (dR2 t.base t.len u kS (fun en=>dR2 B.base B.len u kS (fun eo=>i6 42 [.p J,.s aj,.s en,.s eo] kU (bf ah M ai J aj t B u))))))) (G ai J)) (fun bh=>A0 (decide (ag<(af.len:Int))) (dQ4 ae 8 kB (fun ep=>bh ba bb bc ae bd be af ag (!ep))) (bh ba bb bc ae bd be af ag false)))) (fun eq=>eq di dj I r ad d dm 0)))) (A0 (C3 dk ((bs [108,115]):d9)) (i6 43 [.p r,.s ad,.slice d.base d.len d.cap] kU (G I r)) (i6 44 [.p r,.s ad,.slice d.base d.len d.cap] kU (G I r)))) (fun bi=>A0 (C3 w ((bs [109,118]):d9)) (bi av ab A o ac m w (C3 w ((bs [109,118]):d9))) (bi av ab A o ac m w (C3 w ((bs [99,112]):d9)))))))))) (fun j=>A0 (!ch) (j e c f g h a true) (A0 (decide ((a.len:Int)<cg)) (j e c f g h a true) (dQ6 c kS (fun er=>A0 (C3 er ((bs [108,110]):d9)) (A0 ((a.len:Int) != 2) (j e c f g h a true) (dQ6 c kS (fun es=>A0 (C3 es ((bs [99,104,109,111,100]):d9)) (dR2 a.base a.len 0 kS (fun et=>i6 35 [.s et] kI (fun (eu:Int)=>A0 (decide (eu<0)) (dR2 a.base a.len 0 kS (fun ev=>A0 (!C3 ev ((bs [43,120]):d9)) (dR2 a.base a.len 0 kS (fun ew=>j e c f g h a (!C3 ew ((bs [45,120]):d9)))) (j e c f g h a false))) (j e c f g h a false)))) (j e c f g h a false)))) (dQ6 c kS (fun ex=>A0 (C3 ex ((bs [99,104,109,111,100]):d9)) (dR2 a.base a.len 0 kS (fun ey=>i6 35 [.s ey] kI (fun (ez:Int)=>A0 (decide (ez<0)) (dR2 a.base a.len 0 kS (fun fa=>A0 (!C3 fa ((bs [43,120]):d9)) (dR2 a.base a.len 0 kS (fun fb=>j e c f g h a (!C3 fb ((bs [45,120]):d9)))) (j e c f g h a false))) (j e c f g h a false)))) (j e c f g h a false)))))))) (fun bj=>C0 (T:=m9->m9->m9->m9->Int->d9->Sl->Bool->Bool->C2) (fun bk bl bm bn fc bo bp bq fd=>A0 fd (bj bk bl bm bn 0 bo bp bq) (bj bk bl bm bn fc bo bp bq)) (fun br=>dQ6 Z kS (fun fe=>A0 (C3 fe ((bs [114,109]):d9)) (i6 34 [.s aa,.int .u8 102] kB (fun ff=>br an Z ao ap aq aa ar au ff)) (br an Z ao ap aq aa ar au false))))) (fun bt=>C0 (T:=m9->m9->m9->m9->d9->Int->Sl->d9->Sl->Bool->Bool->C2) (fun bu bv bw bx fg bz ak fh fi fj fk=>A0 fk (i6 33 [.slice ak.base ak.len ak.cap,.s fg] (.tup [.s,.l,.b]) (fun fl fm fn=>bt bu bv bw bx bz fl fm fn)) (bt bu bv bw bx bz fh fi fj)) (fun al=>dQ6 F kS (fun fo=>A0 (!C3 fo ((bs [99,104,109,111,100]):d9)) (al R F S U W X k (gq:d9) k true true) (A0 ((k.len:Int)==0) (al R F S U W X k (gq:d9) k true true) (dR2 k.base k.len 0 kS (fun fp=>al R F S U W X k (gq:d9) k true (!C3 fp ((bs [45,120]):d9)))))))))) (fun v=>l8 (m8 E 0) kS (fun C=>A0 (C3 C ((bs [109,107,100,105,114]):d9)) (v P (gp E) (gp N) (gp Q) ((bs [112]):d9) 1) (C0 (T:=m9->m9->m9->m9->d9->Int->d9->Bool->C2) (fun x y n z ca cb D fq=>A0 fq (v x y n z ca cb) (A0 (C3 D ((bs [99,104,109,111,100]):d9)) (v x y n z ca 2) (A0 (C3 D ((bs [108,110]):d9)) (v x y n z ((bs [115,102]):d9) 2) (A0 (C3 D ((bs [114,109]):d9)) (v x y n z ((bs [114,102]):d9) cb) (A0 (C3 D ((bs [109,118]):d9)) (v x y n z ((bs [102]):d9) 2) (A0 (C3 D ((bs [99,112]):d9)) (v x y n z ((bs [114]):d9) 2) (A0 (C3 D ((bs [108,115]):d9)) (v x y n z ((bs [97,49]):d9) 0) (A3 35 (.p n) (.g [.s gq,.s gq,.i 0]) (dR0 n 3 dS1 (fun fr fs ft=>K (.t [.g [.s fr,.s fs,.i ft],.bool false]))))))))))) (fun cc=>A0 (C3 C ((bs [114,109,100,105,114]):d9)) (cc P (gp E) (gp N) (gp Q) (gq:d9) 1 C (C3 C ((bs [114,109,100,105,114]):d9))) (cc P (gp E) (gp N) (gp Q) (gq:d9) 1 C (C3 C ((bs [116,111,117,99,104]):d9)))))))))))
theorem c7(v1:m9)(v2:d9)(v3:Sl)(v4:d9)(v5:d9):g7 v1 v2 v3 v4 v5 K Y->i7 7 [.p v1,.g [.s v2,.slice v3.base v3.len v3.cap,.s v4,.s v5]] K Y:=q9 an7 Tryz.func7


def an8:Ann:=(.q (.n (.q .h) (.q .z)))
def g8(b:m9)(K:KH):C2 :=
 H0 (.c [.i 0,.i 0] 29) (fun a=>i6 45 [.p b] kB (fun c=>A0 c (A3 29 (.q a) (.g [.i 0,.i 0]) (l8 (rdA 2 a 0) dR8 (fun d e=>K (.g [.i d,.i e])))) (dQ6 b kP (fun f=>i6 46 [.p f] dR8 (fun g h=>A3 29 (.q a) (.g [.i g,.i h]) (l8 (rdA 2 a 0) dR8 (fun i j=>K (.g [.i i,.i j]))))))))
theorem c8(v1:m9):g8 v1 K Y->i7 8 [.p v1] K Y:=q9 an8 Tryz.func8


def an9:Ann:=(.k 2 (.n (.q (.blk (.loop (dlN 0x2101a012002) (.n (.q (.cond .z .z)) (.seq (some (dlN 0x2101a012002)) (.blk (.q (.cond (.q (.reg (rn 16) (mkR [0,1,0,4,12,28,0,124,252,508,1020,2044,4092,8191,16383,32767]))) .z))) .r))))) (.q .z)))
def g9(F:m9)(K:KH):C2 :=
 H0 (.c [.i 0,.i 0] 29) (fun j=>H0 (.c [.i 0,.i 0] 29) (fun e=>A3 29 (.q e) (.g [.i 0,.i 0]) (C9 [.p,.p,.p,.i] (fun k=>(fun b d a (c:Int)=>dQ4 b 2 kL (fun l=>A0 (decide (c<(l.len:Int))) (C0 (T:=m9->m9->m9->Int->C2) (fun m n o q=>k m n o (IntKind.i64.wrap (q+1))) (fun f=>dQ4 b 2 kL (fun g=>dR2 g.base g.len c kP (fun r=>A0 (!r.isNone) (dQ6 a kI (fun (s:Int)=>i9 a (fun t u=>A3 3 (.p (some ⟨t,u,none⟩)) (.i (IntKind.i64.wrap (s+1))) (dQ4 a 1 kI (fun (v:Int)=>dQ4 b 2 kL (fun h=>dR2 h.base h.len c kP (fun w=>dQ4 w 2 kS (fun x=>i9 a (fun y z=>A3 3 (.p (some ⟨y,z+1,none⟩)) (.i (IntKind.i64.wrap (v+(x.size:Int)))) (f b d a c)))))))))) (f b d a c))))) (dR0 a 2 dR8 (fun A B=>A3 29 (.p d) (.g [.i A,.i B]) (dR0 d 2 dR8 (fun C D=>K (.g [.i C,.i D])))))))) (fun E=>E F (gp j) (gp e) 0))))
theorem c9(v1:m9):g9 v1 K Y->i7 9 [.p v1] K Y:=q9 an9 Tryz.func9


def df1:Ann:=(.k 3 (.n (.o (dlN 0x1d504a01901300a002) .h) (.n (.o (dlN 0x20d01901300a002) .h) (.k 2 (.n (.o (dlN 0x2bd07406c01901300a002) .h) (.n (.q (.blk (.loop (dlN 0x7907406c01901300a002) (.n (.q (.cond .z .z)) (.n (.blk (.seq (some (dlN 0x3ad07907406c01901300a002)) (.reg (rn 24) (mkR [0,0,3,7,0,0,48,112,255,511,1023,1023,1023,5119,1023,1023,50175,115711,259071,1023,525311,2097151,4194303,8388607])) .h)) .r))))) (.q .z)))))))
def g10(e:m9)(f:m9)(c:d9)(n:Int)(K:KH):C2 :=
 i6 47 [.p e,.s (bs [47]),.s c,.bool false] dR4 (fun G H I J (L:Int)=>H0 (.c [.i 0,.i 0,.s gq,.i 0] 80) (fun a=>A3 80 (.q a) (.g [.i G,.i H,.s I,.i J]) (i6 48 [.p f,.s (bs [47]),.s c,.bool false] dR4 (fun M N O P (Q:Int)=>H0 (.c [.i 0,.i 0,.s gq,.i 0] 80) (fun g=>A3 80 (.q g) (.g [.i M,.i N,.s O,.i P]) (C0 (T:=m9->m9->d9->Int->m9->Bool->C2) (fun y z A o R S=>A0 S (K (.bool false)) (C0 (T:=m9->m9->d9->Int->Bool->C2) (fun q r k B U=>A0 U (K (.bool true)) (i6 49 [.p q,.s (bs [47]),.s k] dS6 (fun t (W:Int)=>i6 50 [.p r,.s (bs [47]),.s k] dS6 (fun u (X:Int)=>C0 (T:=m9->m9->d9->Int->Sl->Sl->Bool->C2) (fun Z aa ab ac ad ae af=>A0 af (K (.bool false)) (C9 [.p,.p,.s,.i,.l,.l,.i] (fun ag=>(fun v w h x b m (d:Int)=>A0 (decide (d<(b.len:Int))) (C0 (T:=m9->m9->d9->Int->Sl->Sl->Int->Bool->C2) (fun ah ai aj ak al am an ao=>A0 ao (K (.bool false)) (ag ah ai aj ak al am (IntKind.i64.wrap (an+1)))) (fun C=>dR2 b.base b.len d kS (fun ap=>dR2 m.base m.len d kS (fun aq=>A0 (!C3 ap aq) (C v w h x b m d true) (E3 (h.size+((bs [47]):d9).size<=9223372036854775807) (dR2 b.base b.len d kS (fun D=>E3 ((h++(bs [47])).size+D.size<=9223372036854775807) (i6 10 [.p v,.p w,.s ((h++(bs [47]))++D),.i (IntKind.i64.wrap (x-1))] kB (fun ar=>C v w h x b m d (!ar)))))))))) (K (.bool true)))) (fun au=>au Z aa ab ac ad ae 0))) (fun E=>A0 (W != X) (E q r k B t u true) (E q r k B t u ((t.len:Int) != (u.len:Int)))))))) (fun F=>dQ6 R kI (fun (av:Int)=>A0 (av != 2) (F y z A o true) (F y z A o ((o:Int)==0)))))) (fun j=>A0 (L != Q) (j e f c n (gp a) true) (l8 (m8 a 0) kI (fun (aw:Int)=>l8 (m8 g 0) kI (fun (ax:Int)=>A0 (aw != ax) (j e f c n (gp a) true) (l8 (m8 a 1) kI (fun (ay:Int)=>l8 (m8 g 1) kI (fun (az:Int)=>A0 (ay != az) (j e f c n (gp a) true) (l8 (m8 a 2) kS (fun ba=>l8 (m8 g 2) kS (fun bb=>A0 (!C3 ba bb) (j e f c n (gp a) true) (l8 (m8 a 3) kI (fun (bc:Int)=>l8 (m8 g 3) kI (fun (bd:Int)=>j e f c n (gp a) (bc != bd))))))))))))))))))))
theorem c10(v1:m9)(v2:m9)(v3:d9)(v4:Int):g10 v1 v2 v3 v4 K Y->i7 10 [.p v1,.p v2,.s v3,.i v4] K Y:=q9 df1 Tryz.func10


def df2:Ann:=(.k 2 (.n (.o (dlN 0xfd00a) .h) (.k 3 .z)))
def g11  (K:KH):C2 :=
 i6 4 [.g [.i 30,.i 100]] (.tup [.sc .ptr,.sc .ptr]) (fun x1 _x2=>C0 (T:=m9->Bool->C2) (fun v4 x5=>A0 x5 (K (.bool false)) (i6 47 [.p v4,.s (bs [47]),.s (bs [101]),.bool true] (.tup [.agg [(.int .i64),(.int .i64),.str,(.int .i64)],.sc (.int .i64)]) (fun(x6:Int) (x7:Int) (x8:d9) (x9:Int) (x10:Int) =>
 H0 (.c [.i 0,.i 0,.s gq,.i 0] 80) (fun b11 =>
 A3 80 (.q b11) (.g [.i x6,.i x7,.s x8,.i x9]) (i6 6 [.p v4,.g [.s (bs [99,97,116]),.slice none 0 0,.s gq,.s gq]] (.tup [.agg [.str,.str,(.int .i64)],.sc .bool]) (fun(x12:d9) (x13:d9) (x14:Int) (x15:Bool) =>
 H0 (.c [.s gq,.s gq,.i 0] 35) (fun b16=>A3 35 (.q b16) (.g [.s x12,.s x13,.i x14]) (A0 ((x10:Int)==5) (K (.bool (!x15))) (K (.bool false)))))))))) (fun j3=>A0 x1.isNone (j3 x1 true) (H0 (.c [.s (bs [45,114]),.s (bs [100]),.s (bs [101])] 9) (fun b17 =>
 i6 51 [.p x1,.s (bs [99,112]),.slice (gp b17) 3 3] kS (fun(x18:d9)=>A0 (!C3 x18 ((bs [48]):d9)) (j3 x1 true) (H0 (.c [.s (bs [101])] 9) (fun b19=>i6 51 [.p x1,.s (bs [108,115]),.slice (gp b19) 1 1] kS (fun(x20:d9)=>A0 (!C3 x20 ((bs [48,102,10,115,10]):d9)) (j3 x1 true)
 (H0 (.c [.s (bs [45,114]),.s (bs [101])] 9) (fun b21=>i6 51 [.p x1,.s (bs [114,109]),.slice (gp b21) 2 2] kS (fun(x22:d9)=>j3 x1 (!C3 x22 ((bs [48]):d9)))))))))))))
theorem c11:g11  K Y->i7 11 [] K Y:=q9 df2 Tryz.func11


def df3:Ann:=(.k 2 (.n (.q .h) (.q .z)))
def g12(f:Int)(g:Int)(K:KH):C2 :=
 H0 (.c [.i f,.i g] 29) (fun b=>l8 (rdA 2 b 0) dR8 (fun c d=>i6 52 [.g [.i c,.i d]] kP (fun a=>A0 a.isNone (K (.p none)) (H0 (.c [.p a] 71) (fun e=>K (.q e))))))
theorem c12(v1:Int)(v2:Int):g12 v1 v2 K Y->i7 12 [.g [.i v1,.i v2]] K Y:=q9 df3 Tryz.func12


def df4:Ann:=(.q (.n (.o (dlN 0xa500a) .h) (.q .z)))
def g13(n:Int)(o:Int)(K:KH):C2 :=
 H0 (.c [.i n,.i o] 29) (fun a=>C0 (T:=m9->Bool->C2) (fun c d=>A0 d (K (.p none)) (dR0 c 2 dR8 (fun e f=>H0 (.c [.i 2,.i 493,.s gq,.slice none 0 0,.i 0] 78) (fun g=>H0 (.c [.q g] 75) (fun h=>H0 (.c [.i e,.i f,.slice (gp h) 1 1] 74) (fun i=>K (.q i))))))) (fun b=>l8 (m8 a 0) kI (fun (j:Int)=>A0 (decide (j<1)) (b (gp a) true) (l8 (m8 a 0) kI (fun (k:Int)=>A0 (decide (k>1048576)) (b (gp a) true) (l8 (m8 a 1) kI (fun (l:Int)=>A0 (decide (l<0)) (b (gp a) true) (l8 (m8 a 1) kI (fun (m:Int)=>b (gp a) (decide (m>1073741824)))))))))))
theorem c13(v1:Int)(v2:Int):g13 v1 v2 K Y->i7 13 [.g [.i v1,.i v2]] K Y:=q9 df4 Tryz.func13


def df5:Ann:=(.k 2 .z)
def g14(d:m9)(e:d9)(f:d9)(K:KH):C2 :=
 H0 (.c [.p d] 24) (fun a=>l8 (m8 a 0) kP (fun b=>i6 53 [.p b,.s e,.s f,.func (.func 54) ⟨[]⟩ ⟨[.q a]⟩] kI (fun c=>K (.i c))))
theorem c14(v1:m9)(v2:d9)(v3:d9):g14 v1 v2 v3 K Y->i7 14 [.p v1,.s v2,.s v3] K Y:=q9 df5 Tryz.func14


def df6:Ann:=(.k 2 (.n (.q .h) (.n (.q .h) (.n (.q .h) (.q .z)))))
def g15(b:m9)(o:d9)(p:d9)(K:KH):C2 :=
 i6 57 [.p b,.s o,.s p,.bool false] dR7 (fun d e f (c:Int)=>H0 (.c [.i 0,.s gq,.i 0] 95) (fun a=>A3 95 (.q a) (.g [.i d,.s e,.i f]) (A0 (c != 0) (K (.i c)) (l8 (m8 a 2) kI (fun (g:Int)=>A0 (decide (g>=0)) (K (.i 6)) (l8 (m8 a 0) kI (fun h=>i6 58 [.p b,.i h] kI (fun (j:Int)=>A0 (decide (j>=12)) (K (.i 3)) (l8 (rdA 3 a 0) dR5 (fun k l m=>i6 59 [.p b,.g [.i k,.s l,.i m],.i 2,.i 493,.s gq] kI (fun n=>K (.i n))))))))))))
theorem c15(v1:m9)(v2:d9)(v3:d9):g15 v1 v2 v3 K Y->i7 15 [.p v1,.s v2,.s v3] K Y:=q9 df6 Tryz.func15


def df7:Ann:=(.k 2 (.n (.q .h) (.n (.q (.cond (.n (.reg (rn 15) (mkR [0,1,3,7,0,16,0,64,0,511,1023,2047,2047,4095,16383])) (.q .z)) .z)) (.n (.reg (rn 13) (mkR [0,1,3,7,0,16,63,127,255,255,0,1535,4095])) (.n (.q .h) (.seq (some (dlN 0x5a01b002)) (.q (.cond .r .z)) (.n (.reg (rn 9) (mkR [0,1,3,7,0,16,0,127,255])) .z)))))))
def g16(c:m9)(F:d9)(G:d9)(d:d9)(J:Bool)(K:KH):C2 :=
 i6 60 [.p c,.s F,.s G,.bool true] dS0 (fun j k l m (f:Int)=>H0 (.c [.i 0,.s gq,.i 0,.bool false] 89) (fun a=>A3 89 (.q a) (.g [.i j,.s k,.i l,.bool m]) (A0 (f != 0) (K (.i f)) (l8 (m8 a 3) kB (fun n=>A0 (!n) (dQ6 c kP (fun o=>l8 (m8 a 0) kI (fun p=>l8 (m8 a 1) kS (fun q=>i6 56 [.p o,.i p,.s q,.i 1,.i 420,.s d] dT0 (fun H r=>K (.i r)))))) (dQ6 c kP (fun s=>l8 (m8 a 2) kI (fun t=>i6 61 [.p s,.i t] dS3 (fun u v w x I=>H0 (.c [.i 0,.i 0,.s gq,.i 0] 80) (fun e=>A3 80 (.q e) (.g [.i u,.i v,.s w,.i x]) (l8 (m8 e 0) kI (fun (y:Int)=>A0 (y==2) (K (.i 7)) (C0 (T:=m9->d9->m9->C2) (fun z A B=>dQ6 z kP (fun C=>dQ4 B 2 kI (fun D=>i6 62 [.p C,.i D,.s A] kI (fun E=>K (.i E))))) (fun g=>A0 J (l8 (m8 e 2) kS (fun h=>E3 (h.size+d.size<=9223372036854775807) (g c (h++d) (gp a)))) (g c d (gp a))))))))))))))))
theorem c16(v1:m9)(v2:d9)(v3:d9)(v4:d9)(v5:Bool):g16 v1 v2 v3 v4 v5 K Y->i7 16 [.p v1,.s v2,.s v3,.s v4,.bool v5] K Y:=q9 df7 Tryz.func16


def df9:Ann:=(.k 2 (.n (.q .h) (.n (.q .h) (.n (.reg (rn 9) (mkR [0,1,3,7,0,16,63,127,255])) (.n (.q .h) (.seq (some (dlN 0x6a01b002)) (.q (.cond .r .z)) (.n (.q .h) (.k 2 .z))))))))
def g17(a:m9)(A:d9)(B:d9)(d:d9)(C:Bool)(K:KH):C2 :=
 i6 57 [.p a,.s A,.s B,.bool true] dR7 (fun l m n (e:Int)=>H0 (.c [.i 0,.s gq,.i 0] 95) (fun b=>A3 95 (.q b) (.g [.i l,.s m,.i n]) (A0 (e != 0) (K (.i e)) (l8 (m8 b 2) kI (fun (o:Int)=>A0 (decide (o<0)) (l8 (rdA 3 b 0) dR5 (fun p q r=>i6 59 [.p a,.g [.i p,.s q,.i r],.i 1,.i 420,.s d] kI (fun s=>K (.i s)))) (dQ4 a 2 kL (fun f=>l8 (m8 b 2) kI (fun (t:Int)=>dR2 f.base f.len t kP (fun c=>dQ6 c kI (fun (u:Int)=>A0 (u==2) (K (.i 7)) (C0 (T:=m9->d9->m9->C2) (fun v g h=>dQ4 h 2 kS (fun w=>i6 63 [.p v,.i 0,.i (IntKind.i64.wrap ((g.size:Int)-(w.size:Int)))] kB (fun x=>A0 (!x) (K (.i 10)) (i9 h (fun y z=>A3 9 (.p (some ⟨y,z+2,none⟩)) (.s g) (K (.i 0))))))) (fun j=>A0 C (dQ4 c 2 kS (fun k=>E3 (k.size+d.size<=9223372036854775807) (j a (k++d) c))) (j a d c)))))))))))))
theorem c17(v1:m9)(v2:d9)(v3:d9)(v4:d9)(v5:Bool):g17 v1 v2 v3 v4 v5 K Y->i7 17 [.p v1,.s v2,.s v3,.s v4,.bool v5] K Y:=q9 df9 Tryz.func17


def dg0:Ann:=(.q (.n (.q .h) (.n (.o (dlN 0x8503a02201300b) .h) (.q .z))))
def g18(q:m9)(n:d9)(o:d9)(r:Int)(K:KH):C2 :=
 H0 (.c [.p q] 24) (fun b=>H0 (.c [.i r] 3) (fun a=>l8 (m8 b 0) kP (fun e=>i6 45 [.p e] kB (fun f=>A0 f (K (.i 1)) (C0 (T:=d9->d9->m9->m9->Bool->C2) (fun g h c i j=>A0 j (K (.i 2)) (dQ6 c kP (fun k=>i6 64 [.p k,.s g,.s h,.bool true,.func (.func 65) ⟨[]⟩ ⟨[.p c,.p i]⟩] kI (fun l=>K (.i l))))) (fun d=>l8 (m8 a 0) kI (fun (m:Int)=>A0 (decide (m<0)) (d n o (gp b) (gp a) true) (l8 (m8 a 0) kI (fun (p:Int)=>d n o (gp b) (gp a) (decide (p>511)))))))))))
theorem c18(v1:m9)(v2:d9)(v3:d9)(v4:Int):g18 v1 v2 v3 v4 K Y->i7 18 [.p v1,.s v2,.s v3,.i v4] K Y:=q9 dg0 Tryz.func18


def dg1:Ann:=(.q (.n (.o (dlN 0x8501901300b002) .h) (.q (.seq (some (dlN 0x51)) (.q (.cond .r .z)) (.q .z)))))
def g19(q:m9)(r:d9)(s:d9)(b:Int)(K:KH):C2 :=
 C0 (T:=m9->d9->d9->Int->Bool->C2) (fun c g h j k=>A0 k (K (.i 2)) (i6 67 [.p c,.s g,.s h,.bool true] dT0 (fun (l:Int) (a:Int)=>C0 (T:=Int->C2) (fun m=>K (.i m)) (fun d=>A0 (a==0) (dQ4 c 2 kL (fun e=>dR2 e.base e.len l kP (fun n=>i9 n (fun o p=>A3 3 (.p (some ⟨o,p+1,none⟩)) (.i j) (d a))))) (d a))))) (fun f=>A0 (decide ((b:Int)<0)) (f q r s b true) (f q r s b (decide ((b:Int)>511))))
theorem c19(v1:m9)(v2:d9)(v3:d9)(v4:Int):g19 v1 v2 v3 v4 K Y->i7 19 [.p v1,.s v2,.s v3,.i v4] K Y:=q9 dg1 Tryz.func19


def dg2:Ann:=(.q (.n (.q .h) (.n (.o (dlN 0xb503202201b00b) .h) (.q .z))))
def g20(s:m9)(e:d9)(t:d9)(f:d9)(K:KH):C2 :=
 H0 (.c [.p s] 24) (fun b=>H0 (.c [.s t] 9) (fun a=>l8 (m8 b 0) kP (fun g=>i6 45 [.p g] kB (fun h=>A0 h (K (.i 1)) (C0 (T:=d9->d9->m9->m9->Bool->C2) (fun i j d k l=>A0 l (K (.i 2)) (dQ6 d kP (fun m=>i6 53 [.p m,.s i,.s j,.func (.func 69) ⟨[]⟩ ⟨[.p d,.p k]⟩] kI (fun n=>K (.i n))))) (fun c=>l8 (m8 a 0) kS (fun o=>A0 (C3 o (gq:d9)) (c e f (gp b) (gp a) true) (l8 (m8 a 0) kS (fun p=>A0 (decide ((p.size:Int)>255)) (c e f (gp b) (gp a) true) (l8 (m8 a 0) kS (fun q=>i6 68 [.s q,.int .u8 0] kI (fun (r:Int)=>c e f (gp b) (gp a) (decide (r>=0))))))))))))))
theorem c20(v1:m9)(v2:d9)(v3:d9)(v4:d9):g20 v1 v2 v3 v4 K Y->i7 20 [.p v1,.s v2,.s v3,.s v4] K Y:=q9 dg2 Tryz.func20


def dg3:Ann:=(.q (.n (.q (.blk (.loop (dlN 0x4901b01300b002) (.n (.q (.cond .z .z)) (.n (.blk (.q .h)) .r))))) (.n (.o (dlN 0xed01b01300b002) .h) (.q (.n (.q .h) (.n (.q .h) (.q .z)))))))
def g21(A:m9)(B:d9)(C:d9)(D:d9)(K:KH):C2 :=
 C9 [.p,.s,.s,.s,.i] (fun k=>(fun b c a d (e:Int)=>A0 (decide (e<(a.size:Int))) (I2 a e (fun c11=>A0 ((c11.toNat:Int)==0) (K (.i 2)) (k b c a d (IntKind.i64.wrap (e+1))))) (C0 (T:=m9->d9->d9->d9->Bool->C2) (fun g l m n o=>A0 o (K (.i 2)) (i6 57 [.p g,.s l,.s n,.bool false] dR7 (fun q r t (h:Int)=>H0 (.c [.i 0,.s gq,.i 0] 95) (fun f=>A3 95 (.q f) (.g [.i q,.s r,.i t]) (A0 (h != 0) (K (.i h)) (l8 (m8 f 2) kI (fun (u:Int)=>A0 (decide (u>=0)) (K (.i 6)) (l8 (rdA 3 f 0) dR5 (fun v w x=>i6 59 [.p g,.g [.i v,.s w,.i x],.i 3,.i 511,.s m] kI (fun y=>K (.i y))))))))))) (fun j=>A0 (decide ((a.size:Int)<1)) (j b c a d true) (j b c a d (decide ((a.size:Int)>255))))))) (fun z=>z A B C D 0)
theorem c21(v1:m9)(v2:d9)(v3:d9)(v4:d9):g21 v1 v2 v3 v4 K Y->i7 21 [.p v1,.s v2,.s v3,.s v4] K Y:=q9 dg3 Tryz.func21


def dg5:Ann:=(.q .r)
def g22(c:m9)(K:KH):C2 :=
 H0 (.c [.p c] 50) (fun a=>l8 (m8 a 0) kP (fun b=>i6 70 [.p b,.func (.func 71) ⟨[]⟩ ⟨[.q a]⟩] kU (K (.t []))))
theorem c22(v1:m9):g22 v1 K Y->i7 22 [.p v1] K Y:=q9 dg5 Tryz.func22


def dg7:Ann:=(.q .r)
def g23(c:m9)(K:KH):C2 :=
 H0 (.c [.p c] 50) (fun a=>l8 (m8 a 0) kP (fun b=>i6 70 [.p b,.func (.func 75) ⟨[]⟩ ⟨[.q a]⟩] kU (K (.t []))))
theorem c23(v1:m9):g23 v1 K Y->i7 23 [.p v1] K Y:=q9 dg7 Tryz.func23


def dg8:Ann:=(.q .r)
def g24(c:m9)(K:KH):C2 :=
 H0 (.c [.p c] 50) (fun a=>l8 (m8 a 0) kP (fun b=>i6 70 [.p b,.func (.func 78) ⟨[]⟩ ⟨[.q a]⟩] kU (K (.t []))))
theorem c24(v1:m9):g24 v1 K Y->i7 24 [.p v1] K Y:=q9 dg8 Tryz.func24


def dg9:Ann:=(.k 2 (.n (.reg (rn 9) (mkR [0,0,2,6,14,30,63,127,255])) .r))
def g25(l:m9)(K:KH):C2 :=
 H0 (.c [.p l] 50) (fun b=>l8 (m8 b 0) kP (fun e=>dQ4 e 9 kL (fun c=>dR2 c.base c.len 0 kS (fun f=>H0 (.c [.s gq] 9) (fun d=>A3 9 (.q d) (.s f) (l8 (m8 b 0) kP (fun g=>l8 (m8 b 0) kP (fun h=>dQ4 h 9 kL (fun a=>E3 (E1 none a.cap/\E1 (some 1) a.len) (i9 g (fun i j=>A3 30 (.p (some ⟨i,j+9,none⟩)) (.slice (N6 a.base ((1:Int).toNat) a.cap 1) (a.len-((1:Int).toNat)) (a.cap-((1:Int).toNat))) (l8 (m8 b 0) kP (fun k=>i6 70 [.p k,.func (.func 79) ⟨[]⟩ ⟨[.q d,.q b]⟩] kU (K (.t [])))))))))))))))
theorem c25(v1:m9):g25 v1 K Y->i7 25 [.p v1] K Y:=q9 dg9 Tryz.func25


def dh0:Ann:=(.k 2 (.n (.reg (rn 9) (mkR [0,0,2,6,14,30,63,127,255])) .r))
def g26(l:m9)(K:KH):C2 :=
 H0 (.c [.p l] 50) (fun b=>l8 (m8 b 0) kP (fun e=>dQ4 e 9 kL (fun c=>dR2 c.base c.len 0 kS (fun f=>H0 (.c [.s gq] 9) (fun d=>A3 9 (.q d) (.s f) (l8 (m8 b 0) kP (fun g=>l8 (m8 b 0) kP (fun h=>dQ4 h 9 kL (fun a=>E3 (E1 none a.cap/\E1 (some 1) a.len) (i9 g (fun i j=>A3 30 (.p (some ⟨i,j+9,none⟩)) (.slice (N6 a.base ((1:Int).toNat) a.cap 1) (a.len-((1:Int).toNat)) (a.cap-((1:Int).toNat))) (l8 (m8 b 0) kP (fun k=>i6 70 [.p k,.func (.func 81) ⟨[]⟩ ⟨[.q b,.q d]⟩] kU (K (.t [])))))))))))))))
theorem c26(v1:m9):g26 v1 K Y->i7 26 [.p v1] K Y:=q9 dh0 Tryz.func26


def dh2:Ann:=.r
def g27(a:m9)(K:KH):C2 :=
 i6 70 [.p a,.func (.func 83) ⟨[.p a]⟩ ⟨[]⟩] kU (K (.t []))
theorem c27(v1:m9):g27 v1 K Y->i7 27 [.p v1] K Y:=q9 dh2 Tryz.func27


def dh4:Ann:=(.q .r)
def g28(c:m9)(K:KH):C2 :=
 H0 (.c [.p c] 50) (fun a=>l8 (m8 a 0) kP (fun b=>i6 84 [.p b,.func (.func 85) ⟨[]⟩ ⟨[.q a]⟩] kU (K (.t []))))
theorem c28(v1:m9):g28 v1 K Y->i7 28 [.p v1] K Y:=q9 dh4 Tryz.func28


def dh6:Ann:=.r
def g29(a:m9)(K:KH):C2 :=
 i6 84 [.p a,.func (.func 87) ⟨[.p a]⟩ ⟨[]⟩] kU (K (.t []))
theorem c29(v1:m9):g29 v1 K Y->i7 29 [.p v1] K Y:=q9 dh6 Tryz.func29


def dh7:Ann:=(.q (.seq (some (dlN 0xa)) (.q (.cond .r .z)) (.k 3 (.n (.q (.blk (.loop (dlN 0xc90c10bc01a00a) (.q (.n (.cond .z .z) (.n (.blk (.q .r)) .r)))))) (.q (.blk (.loop (dlN 0x15915114c00a) (.q (.n (.cond .z .z) (.n (.blk (.q (.reg (rn 9) (mkR [0,0,0,4,12,28,60,124,255])))) .r))))))))))
def g30(P:m9)(K:KH):C2 :=
 H0 (.c [.p P] 50) (fun a=>C0 (T:=m9->C2) (fun b=>H0 (.c [.slice none 0 0] 30) (fun c=>H0 (.c [.slice none 0 0] 30) (fun n=>dQ6 b kP (fun x=>i6 70 [.p x,.func (.func 88) ⟨[]⟩ ⟨[.p b,.q n,.q c]⟩] kU (l8 (m8 c 0) kL (fun d=>i6 90 [.slice d.base d.len d.cap] kU (l8 (m8 c 0) kL (fun o=>C9 [.p,.p,.l,.i,.i] (fun y=>(fun e q f (r:Int) (g:Int)=>A0 (decide (g<r)) (dR2 f.base f.len g kS (fun h=>dQ6 e kP (fun s=>dQ4 s 5 kS (fun t=>E3 (h.size+((bs [10]):d9).size<=9223372036854775807) (E3 (t.size+(h++(bs [10])).size<=9223372036854775807) (i9 s (fun z A=>A3 9 (.p (some ⟨z,A+5,none⟩)) (.s (t++(h++(bs [10])))) (y e q f r (IntKind.i64.wrap (g+1)))))))))) (dQ6 q kL (fun u=>C9 [.p,.l,.i,.i] (fun B=>(fun j k (v:Int) (m:Int)=>A0 (decide (m<v)) (dR2 k.base k.len m kS (fun C=>dQ6 j kP (fun D=>dQ6 j kP (fun E=>dQ4 E 9 kL (fun F=>i6 91 [.p D,.s C,.bool (decide ((F.len:Int)>1))] kU (B j k v (IntKind.i64.wrap (m+1)))))))) (K (.t [])))) (fun G=>G e u (u.len:Int) 0))))) (fun H=>H b (gp n) o (o.len:Int) 0))))))))) (fun w=>l8 (m8 a 0) kP (fun I=>dQ4 I 9 kL (fun J=>A0 ((J.len:Int)==0) (l8 (m8 a 0) kP (fun L=>H0 (.c [.s (bs [46])] 9) (fun M=>i9 L (fun N O=>A3 30 (.p (some ⟨N,O+9,none⟩)) (.slice (gp M) 1 1) (w (gp a)))))) (w (gp a))))))
theorem c30(v1:m9):g30 v1 K Y->i7 30 [.p v1] K Y:=q9 dh7 Tryz.func30


def dh8:Ann:=(.q (.n (.q (.blk (.loop (dlN 0x6906105c00b002) (.q (.n (.cond .z .z) (.n (.blk (.q (.n (.q (.cond (.k 2 .z) .z)) (.n (.o (dlN 0x13506906105c03302900b002) (.cond (.k 2 .z) .z)) (.n (.q .h) (.reg (rn 10) (mkR [0,1,3,7,0,16,63,127,255,511]))))))) .r)))))) (.q .z)))
def g31(t:m9)(H:d9)(K:KH):C2 :=
 dQ4 t 1 kL (fun m=>C9 [.p,.s,.l,.i,.i] (fun u=>(fun g n h (k:Int) (a:Int)=>A0 (decide (a<k)) (dR2 h.base h.len a kS (fun e=>A0 (C3 e ((bs [45,45]):d9)) (dQ4 g 1 kL (fun c=>E3 (E1 none c.cap/\E1 (some (IntKind.i64.wrap (a+1))) c.len) (i9 g (fun v w=>A3 30 (.p (some ⟨v,w+9,none⟩)) (.slice (N6 c.base ((IntKind.i64.wrap (a+1)).toNat) c.cap 1) (c.len-((IntKind.i64.wrap (a+1)).toNat)) (c.cap-((IntKind.i64.wrap (a+1)).toNat))) (K (.bool true)))))) (C0 (T:=m9->d9->Int->d9->Sl->Int->Int->Bool->C2) (fun f o j b x y z A=>A0 A (dQ4 f 1 kL (fun d=>E3 (E1 none d.cap/\E1 (some j) d.len) (i9 f (fun B C=>A3 30 (.p (some ⟨B,C+9,none⟩)) (.slice (N6 d.base j.toNat d.cap 1) (d.len-j.toNat) (d.cap-j.toNat)) (K (.bool true)))))) (E3 (E1 none b.size/\E1 (some 1) (b.size)) (i6 92 [.s (b.extract ((1:Int).toNat) b.size),.s o] kS (fun D=>A0 (!C3 D (gq:d9)) (K (.bool false)) (dQ4 f 8 kS (fun q=>E3 (E1 none b.size/\E1 (some 1) (b.size)) (E3 (q.size+(b.extract ((1:Int).toNat) b.size).size<=9223372036854775807) (i9 f (fun E F=>A3 9 (.p (some ⟨E,F+8,none⟩)) (.s (q++(b.extract ((1:Int).toNat) b.size))) (u f o x y (IntKind.i64.wrap (z+1)))))))))))) (fun r=>A0 (decide ((e.size:Int)<2)) (r g n a e h k a true) (I2 e 0 (fun c40=>r g n a e h k a ((c40.toNat:Int) != 45))))))) (K (.bool true)))) (fun G=>G t H m (m.len:Int) 0))
theorem c31(v1:m9)(v2:d9):g31 v1 v2 K Y->i7 31 [.p v1,.s v2] K Y:=q9 dh8 Tryz.func31
end
section
variable {K:KH} {Y:H}
def dh9:Ann:=(.k 2 (.n (.q (.blk (.q (.cond (.q .z) (.seq (some (dlN 0xa507b019002)) (.q (.cond .z .r)) (.cond (.q .z) (.q (.cond (.n (.q .h) (.k 2 .z)) (.q (.cond (.q .z) (.q .h))))))))))) (.q .z)))
def g32(e:m9)(K:KH):C2 :=
 dQ4 e 9 kL (fun f=>dQ6 e kS (fun a=>A0 (C3 a ((bs [108,110]):d9)) (K (.bool ((f.len:Int)==2))) (C0 (T:=m9->Int->d9->Bool->C2) (fun c d g m=>A0 m (K (.bool (decide ((d:Int)>=2)))) (A0 (C3 g ((bs [99,104,109,111,100]):d9)) (A0 (decide ((d:Int)<2)) (K (.bool false)) (dQ4 c 9 kL (fun h=>dR2 h.base h.len 0 kS (fun n=>i6 80 [.s n] dS7 (fun s o=>A0 o (K (.bool true)) (dQ4 c 9 kL (fun j=>dR2 j.base j.len 0 kS (fun p=>A0 (C3 p ((bs [43,120]):d9)) (K (.bool true)) (dQ4 c 9 kL (fun k=>dR2 k.base k.len 0 kS (fun q=>K (.bool (C3 q ((bs [45,120]):d9)))))))))))))) (A0 (C3 g ((bs [114,109]):d9)) (A0 (decide ((d:Int)>=1)) (K (.bool true)) (i6 72 [.p c,.int .u8 102] kB (fun r=>K (.bool r)))) (A0 (C3 g ((bs [108,115]):d9)) (K (.bool true)) (K (.bool (decide ((d:Int)>=1)))))))) (fun l=>A0 (C3 a ((bs [109,118]):d9)) (l e (f.len:Int) a (C3 a ((bs [109,118]):d9))) (l e (f.len:Int) a (C3 a ((bs [99,112]):d9)))))))
theorem c32(v1:m9):g32 v1 K Y->i7 32 [.p v1] K Y:=q9 dh9 Tryz.func32


def di1:Ann:=(.k 2 (.n (.q (.blk (.loop (dlN 0x4103b00b004) (.n (.q (.cond .z .z)) (.n (.blk (.q (.n (.q (.cond (.n (.reg (rn 8) (mkR [0,0,0,4,14,1,63,127])) .z) .z)) (.n (.o (dlN 0x11d04b04103b00b004) (.cond (.n (.reg (rn 7) (mkR [0,0,0,6,1,31,63])) .z) .z)) (.q (.blk (.loop (dlN 0x5104b04103b00b004) (.n (.q (.cond .z .z)) (.n (.blk (.n (.q .h) .r)) .r))))))))) .r))))) (.q .z)))
def g33(A:Sl)(B:d9)(K:KH):C2 :=
 C9 [.l,.s,.s,.i] (fun r=>(fun a m h (c:Int)=>A0 (decide (c<(a.len:Int))) (dR2 a.base a.len c kS (fun f=>A0 (C3 f ((bs [45,45]):d9)) (E3 (E1 none a.cap/\E1 (some (IntKind.i64.wrap (c+1))) a.len) (K (.t [.s h,.slice (N6 a.base ((IntKind.i64.wrap (c+1)).toNat) a.cap 1) (a.len-((IntKind.i64.wrap (c+1)).toNat)) (a.cap-((IntKind.i64.wrap (c+1)).toNat)),.bool true]))) (C0 (T:=Sl->d9->d9->Int->d9->Bool->C2) (fun d t n g u v=>A0 v (E3 (E1 none d.cap/\E1 (some g) d.len) (K (.t [.s n,.slice (N6 d.base g.toNat d.cap 1) (d.len-g.toNat) (d.cap-g.toNat),.bool true]))) (C9 [.l,.s,.s,.i,.s,.i] (fun w=>(fun o k j p e (b:Int)=>A0 (decide (b<(e.size:Int))) (I2 e b (fun c25=>i6 34 [.s k,.int .u8 (c25.toNat:Int)] kB (fun x=>A0 (!x) (K (.t [.s j,.slice none 0 0,.bool false])) (E3 (E1 (some (IntKind.i64.wrap (b+1))) e.size/\E1 (some b) ((IntKind.i64.wrap (b+1)).toNat)) (E3 (j.size+(e.extract b.toNat ((IntKind.i64.wrap (b+1)).toNat)).size<=9223372036854775807) (w o k (j++(e.extract b.toNat ((IntKind.i64.wrap (b+1)).toNat))) p e (IntKind.i64.wrap (b+1)))))))) (r o k j (IntKind.i64.wrap (p+1))))) (fun y=>y d t n g u 1))) (fun q=>A0 (decide ((f.size:Int)<2)) (q a m h c f true) (I2 f 0 (fun c28=>q a m h c f ((c28.toNat:Int) != 45))))))) (K (.t [.s h,.slice none 0 0,.bool true])))) (fun z=>z A B (gq:d9) 0)
theorem c33(v1:Sl)(v2:d9):g33 v1 v2 K Y->i7 33 [.slice v1.base v1.len v1.cap,.s v2] K Y:=q9 di1 Tryz.func33


def di3:Ann:=(.q (.n (.q (.blk (.loop [(0,.s),(1,.sc (.int .u8)),(5,.i)] (.n (.q (.cond .z .z)) (.n (.blk (.q .h)) .r))))) (.q .z)))
def g34(f:d9)(g:Int)(K:KH):C2 :=
 C9 [.s,.sc (.int .u8),.i] (fun d=>(fun a (c:Int) (b:Int)=>A0 (decide (b<(a.size:Int))) (I2 a b (fun c7=>A0 ((c7.toNat:Int)==c) (K (.bool true)) (d a c (IntKind.i64.wrap (b+1))))) (K (.bool false)))) (fun e=>e f g 0)
theorem c34(v1:d9)(v2:Int):g34 v1 v2 K Y->i7 34 [.s v1,.int .u8 v2] K Y:=q9 di3 Tryz.func34


def di4:Ann:=(.k 2 (.n (.q (.blk (.loop (dlN 0x21019003) (.n (.q (.cond .z .z)) (.n (.blk (.n (.o (dlN 0xa5021019003) .h) .r)) .r))))) (.n (.o (dlN 0x125019) .h) (.q .z))))
def g35(o:d9)(K:KH):C2 :=
 C9 [.s,.i,.i] (fun h=>(fun a c (b:Int)=>A0 (decide (b<(a.size:Int))) (C0 (T:=d9->Int->Int->Bool->C2) (fun d j e k=>A0 k (K (.i (-1))) (I2 d e (fun c11=>h d (IntKind.i64.wrap ((IntKind.i64.wrap (8*j))+(IntKind.i64.wrap (IntKind.u8.wrap ((c11.toNat:Int)-48))))) (IntKind.i64.wrap (e+1))))) (fun f=>I2 a b (fun c12=>A0 (decide ((c12.toNat:Int)<48)) (f a c b true) (I2 a b (fun c13=>f a c b (decide ((c13.toNat:Int)>55))))))) (C0 (T:=dV2) (fun l m=>A0 m (K (.i (-1))) (K (.i l))) (fun g=>A0 (decide ((a.size:Int)<1)) (g c true) (g c (decide ((a.size:Int)>3))))))) (fun n=>n o 0 0)
theorem c35(v1:d9):g35 v1 K Y->i7 35 [.s v1] K Y:=q9 di4 Tryz.func35


def di5:Ann:=.r
def g36(b:m9)(K:KH):C2 :=
 dQ4 b 1 kS (fun a=>E3 (a.size+((bs [58,32,117,115,97,103,101,10]):d9).size<=9223372036854775807) (i9 b (fun c d=>A3 35 (.p (some ⟨c,d+5,none⟩)) (.g [.s gq,.s (a++(bs [58,32,117,115,97,103,101,10])),.i 2]) (K (.t [])))))
theorem c36(v1:m9):g36 v1 K Y->i7 36 [.p v1] K Y:=q9 di5 Tryz.func36


def di7:Ann:=(.q (.n (.q .h) (.n (.reg (rn 24) (mkR [0,0,2,6,14,30,0,64,192,448,960,2046,4094,0,16382,32766,0,65536,262142,524286,1048575,2097151,4194303,8388607])) (.q (.seq (some []) (.q (.cond (.q .r) .z)) (.q .z))))))
def g37(c:m9)(d:d9)(f:Int)(K:KH):C2 :=
 A0 ((f:Int)==0) (K (.bool false)) (dQ5 c 6 kS (fun i j a=>dQ5 c 1 kS (fun k l b=>E3 (a.size+b.size<=9223372036854775807) (E3 ((a++b).size+((bs [58,32]):d9).size<=9223372036854775807) (E3 (((a++b)++(bs [58,32])).size+d.size<=9223372036854775807) (E3 ((((a++b)++(bs [58,32]))++d).size+((bs [58,32]):d9).size<=9223372036854775807) (i6 93 [.i f] kS (fun e=>I9 (fun Y=>(m8 k (l+1)) Y=some (.s b)) (I9 (fun Y=>(m8 i (j+6)) Y=some (.s a)) (E3 (((((a++b)++(bs [58,32]))++d)++(bs [58,32])).size+e.size<=9223372036854775807) (E3 ((((((a++b)++(bs [58,32]))++d)++(bs [58,32]))++e).size+((bs [10]):d9).size<=9223372036854775807) (i9 c (fun m n=>A3 9 (.p (some ⟨m,n+6,none⟩)) (.s ((((((a++b)++(bs [58,32]))++d)++(bs [58,32]))++e)++(bs [10]))) (dQ4 c 7 kI (fun (g:Int)=>i9 c (fun o p=>A3 3 (.p (some ⟨o,p+7,none⟩)) (.i (if 1>g then 1 else g)) (C0 (T:=C2) (K (.bool true)) (fun h=>A0 ((f:Int)==10) (i9 c (fun q r=>A3 4 (.p (some ⟨q,r+8,none⟩)) (.bool true) (i9 c (fun s t=>A3 3 (.p (some ⟨s,t+7,none⟩)) (.i 3) (h))))) (h)))))))))))))))))))
theorem c37(v1:m9)(v2:d9)(v3:Int):g37 v1 v2 v3 K Y->i7 37 [.p v1,.s v2,.i v3] K Y:=q9 di7 Tryz.func37


def di9:Ann:=(.k 2 (.seq (some (dlN 0x39013002)) (.q (.cond (.n (.reg (rn 17) (mkR [0,1,3,7,0,16,48,112,240,0,1023,2047,4095,4095,0,24575,65535])) (.n (.q .h) (.k 2 (.cond .r .z)))) .z)) (.n (.reg (rn 13) (mkR [0,1,3,7,0,16,48,112,240,0,0,2047,4095])) .z)))
def g38(a:m9)(j:d9)(c:d9)(K:KH):C2 :=
 i6 35 [.s j] kI (fun (d:Int)=>C0 (T:=dV5) (fun e k l=>dQ6 e kP (fun m=>dQ4 e 4 kS (fun n=>i6 19 [.p m,.s n,.s k,.i l] kI (fun o=>K (.i o))))) (fun b=>A0 (decide (d<0)) (dQ6 a kP (fun p=>dQ4 a 4 kS (fun q=>i6 48 [.p p,.s q,.s c,.bool true] dR4 (fun r s t u (f:Int)=>H0 (.c [.i 0,.i 0,.s gq,.i 0] 80) (fun g=>A3 80 (.q g) (.g [.i r,.i s,.s t,.i u]) (A0 (f != 0) (K (.i f)) (l8 (m8 g 1) kI (fun h=>A0 (C3 j ((bs [45,120]):d9)) (b a c (IntKind.i64.wrap ((aC0 .or .i64 h 73)-73))) (b a c (aC0 .or .i64 h 73)))))))))) (b a c d)))
theorem c38(v1:m9)(v2:d9)(v3:d9):g38 v1 v2 v3 K Y->i7 38 [.p v1,.s v2,.s v3] K Y:=q9 di9 Tryz.func38


def dj1:Ann:=(.q (.n (.reg (rn 17) (mkR [0,1,3,7,0,16,48,112,240,0,1023,2047,4095,4095,0,24575,65535])) (.seq (some (dlN 0x1b01300b002)) (.o (dlN 0x11d01b01300b002) (.cond (.n (.reg (rn 12) (mkR [0,1,3,7,0,16,48,112,240,0,1023,2047])) (.q .h)) .z)) (.n (.q (.cond (.n (.reg (rn 13) (mkR [0,1,3,7,0,16,48,112,240,0,0,2047,4095])) .z) .z)) (.n (.reg (rn 13) (mkR [0,1,3,7,0,16,48,112,240,0,0,2047,4095])) .z)))))
def g39(a:m9)(g:d9)(p:d9)(d:d9)(K:KH):C2 :=
 dQ6 a kP (fun q=>dQ4 a 4 kS (fun r=>i6 48 [.p q,.s r,.s d,.bool false] dR4 (fun s t u v (w:Int)=>H0 (.c [.i 0,.i 0,.s gq,.i 0] 80) (fun h=>A3 80 (.q h) (.g [.i s,.i t,.s u,.i v]) (C0 (T:=m9->d9->d9->d9->C2) (fun b x j k=>i6 34 [.s x,.int .u8 115] kB (fun y=>A0 y (dQ6 b kP (fun z=>dQ4 b 4 kS (fun A=>i6 21 [.p z,.s A,.s j,.s k] kI (fun B=>K (.i B))))) (dQ6 b kP (fun C=>dQ4 b 4 kS (fun D=>i6 95 [.p C,.s D,.s j,.s k] kI (fun E=>K (.i E))))))) (fun l=>C0 (T:=m9->d9->d9->d9->Bool->C2) (fun c m n e F=>A0 F (dQ6 c kP (fun G=>dQ4 c 4 kS (fun H=>i6 94 [.p G,.s H,.s e] kI (fun (o:Int)=>A0 (o != 0) (K (.i o)) (l c m n e))))) (l c m n e)) (fun f=>i6 34 [.s g,.int .u8 102] kB (fun I=>A0 I (A0 (w==0) (l8 (m8 h 0) kI (fun (J:Int)=>f a g p d (J != 2))) (f a g p d false)) (f a g p d false)))))))))
theorem c39(v1:m9)(v2:d9)(v3:d9)(v4:d9):g39 v1 v2 v3 v4 K Y->i7 39 [.p v1,.s v2,.s v3,.s v4] K Y:=q9 dj1 Tryz.func39


def dj2:Ann:=(.k 3 (.n (.q .h) (.n (.q (.blk (.loop (dlN 0x4103c03300c) (.n (.q (.cond .z .z)) (.n (.blk .r) .r))))) (.q .z))))
def g40(q:m9)(b:Sl)(K:KH):C2 :=
 dR2 b.base b.len (IntKind.i64.wrap ((b.len:Int)-1)) kS (fun e=>i6 96 [.p q,.s e,.bool true] kB (fun h=>A0 (!h) (H0 (.c [.s e] 9) (fun j=>K (.t [.slice (gp j) 1 1,.bool ((b.len:Int)==2)]))) (C9 [.l,.s,.l,.i] (fun k=>(fun c d a (f:Int)=>A0 (decide (((IntKind.i64.wrap (f+1)):Int)<(c.len:Int))) (E3 (d.size+((bs [47]):d9).size<=9223372036854775807) (dR2 c.base c.len f kS (fun m=>i6 97 [.s m] kS (fun g=>E3 ((d++(bs [47])).size+g.size<=9223372036854775807) (H0 (.c [.s ((d++(bs [47]))++g)] 9) (fun n=>ac9 .append #[30,30] 30 [false,false] [.slice a.base a.len a.cap,.slice (gp n) 1 1] kL (fun o=>k c d o (IntKind.i64.wrap (f+1))))))))) (K (.t [.slice a.base a.len a.cap,.bool true])))) (fun p=>p b e ⟨none,0,0⟩ 0))))
theorem c40(v1:m9)(v2:Sl):g40 v1 v2 K Y->i7 40 [.p v1,.slice v2.base v2.len v2.cap] K Y:=q9 dj2 Tryz.func40


def dj3:Ann:=(.k 2 (.n (.q .h) (.q (.n (.q .h) (.n (.o (dlN 0x14d05a04a002) .h) (.n (.q .h) (.n (.q .h) (.n (.reg (rn 13) (mkR [0,1,3,7,0,16,63,127,255,511,1023,2047,4095])) (.seq (some (dlN 0x6505a04a002)) (.q (.cond (.n (.reg (rn 13) (mkR [0,1,3,7,0,16,63,127,255,511,1023,2047,4095])) (.blk (.o (dlN 0x26d06d06505a04a002) (.cond (.q .z) (.o (dlN 0x29d06505a04a002) (.cond (.q .z) (.n (.reg (rn 14) (mkR [0,1,3,7,0,16,63,127,255,511,1023,2047,4095,8191])) .h))))))) .z)) (.n (.o (dlN 0x37d05a04a002) .h) (.n (.n (.reg [0,1,2,4,5,6,3,7,8,9] (mkR [0,0,2,7,0,0,32,127,255,511])) .h) (.seq (some (dlN 0x5a04a002)) (.q (.cond (.q .r) .z)) (.k 3 .z)))))))))))))
def g41(j:m9)(L:d9)(bj:d9)(bk:d9)(K:KH):C2 :=
 i6 57 [.p j,.s L,.s bj,.bool false] dR7 (fun M N O (r:Int)=>H0 (.c [.i 0,.s gq,.i 0] 95) (fun f=>A3 95 (.q f) (.g [.i M,.s N,.i O]) (A0 (r != 0) (K (.i r)) (i6 57 [.p j,.s L,.s bk,.bool false] dR7 (fun P Q R (s:Int)=>H0 (.c [.i 0,.s gq,.i 0] 95) (fun g=>A3 95 (.q g) (.g [.i P,.s Q,.i R]) (A0 (s != 0) (K (.i s)) (C0 (T:=dU3) (fun e b c S=>A0 S (K (.i 2)) (dQ4 b 2 kI (fun (U:Int)=>A0 (decide (U<0)) (K (.i 5)) (dQ4 b 2 kI (fun (W:Int)=>dQ4 c 2 kI (fun (X:Int)=>A0 (W==X) (K (.i 0)) (dQ4 e 2 kL (fun t=>dQ4 b 2 kI (fun (Z:Int)=>dR2 t.base t.len Z kP (fun aa=>dQ6 aa kI (fun (h:Int)=>C0 (T:=dU3) (fun k l m ab=>C0 (T:=dU3) (fun d n a ac=>A0 ac (K (.i 2)) (dQ6 a kI (fun ad=>dQ5 n 2 kI (fun ae af u=>i6 58 [.p d,.i ad] kI (fun (ag:Int)=>I9 (fun Y=>(m8 ae (af+2)) Y=some (.i u)) (i6 99 [.p d,.i u] kI (fun (ah:Int)=>A0 (decide (((IntKind.i64.wrap (ag+ah)):Int)>12)) (K (.i 3)) (C0 (T:=dW6) (fun v o w=>dQ6 o kI (fun ai=>dQ4 o 1 kS (fun aj=>i6 100 [.p v,.i ai,.s aj] kU (dQ6 w kI (fun ak=>dQ4 w 1 kS (fun al=>dQ4 o 2 kI (fun am=>i6 102 [.p v,.i ak,.s al,.i am] kU (K (.i 0))))))))) (fun x=>dQ4 a 2 kI (fun (an:Int)=>A0 (decide (an>=0)) (dQ6 a kI (fun ao=>dQ4 a 1 kS (fun ap=>i6 100 [.p d,.i ao,.s ap] kU (dQ4 a 2 kI (fun aq=>i6 101 [.p d,.i aq] kU (x d n a)))))) (x d n a))))))))))) (fun y=>A0 ab (dQ6 m kI (fun ar=>dQ4 l 2 kI (fun au=>i6 98 [.p k,.i ar,.i au] kB (fun av=>y k l m av)))) (y k l m false))) (fun z=>dQ4 c 2 kI (fun (aw:Int)=>A0 (decide (aw>=0)) (dQ4 e 2 kL (fun A=>dQ4 c 2 kI (fun (ax:Int)=>dR2 A.base A.len ax kP (fun ay=>dQ6 ay kI (fun (p:Int)=>C0 (T:=dW0) (fun B C D q az ba=>A0 ba (K (.i 7)) (C0 (T:=m9->m9->m9->Bool->Bool->C2) (fun E bb F bc bd=>A0 bd (K (.i 8)) (dQ4 E 2 kL (fun G=>dQ4 F 2 kI (fun (be:Int)=>dR2 G.base G.len be kP (fun bf=>dQ4 bf 3 kL (fun bg=>A0 (decide ((bg.len:Int)>0)) (K (.i 20)) (z E bb F bc))))))) (fun H=>A0 q (H B C D q (!az)) (H B C D q false)))) (fun I=>A0 (p==2) (I e b c (h==2) (p==2) (!(h==2))) (I e b c (h==2) (p==2) false))))))) (z e b c (h==2))))))))))))))) (fun J=>l8 (m8 f 1) kS (fun bh=>A0 (C3 bh (gq:d9)) (J j (gp f) (gp g) true) (l8 (m8 g 1) kS (fun bi=>J j (gp f) (gp g) (C3 bi (gq:d9))))))))))))))
theorem c41(v1:m9)(v2:d9)(v3:d9)(v4:d9):g41 v1 v2 v3 v4 K Y->i7 41 [.p v1,.s v2,.s v3,.s v4] K Y:=q9 dj3 Tryz.func41


def dj4:Ann:=(.n (.q (.cond .z .z)) (.q (.n (.reg (rn 19) (mkR [0,1,3,7,0,16,48,112,240,0,0,1024,4095,8191,16383,16383,0,98303,262143])) (.n (.q (.cond .z .z)) (.n (.q (.cond (.n (.reg (rn 16) (mkR [0,0,0,4,12,28,0,64,192,448,960,0,2048,0,16380,32767])) .z) .z)) (.n (.q (.cond (.n (.reg (rn 17) (mkR [0,1,3,7,0,16,48,112,240,0,1023,2047,4095,4095,0,24575,65535])) (.n (.reg (rn 16) (mkR [0,1,3,7,0,16,48,112,240,0,1023,2047,4095,4095,8191,32767])) (.seq (some (dlN 0x7106104a01b013002)) (.q (.cond (.reg (rn 13) (mkR [0,1,3,7,0,16,48,112,240,0,0,2047,4095])) .z)) (.seq (some (dlN 0x71013002)) (.o (dlN 0x38d07104a01b013002) (.cond (.reg (rn 14) (mkR [0,1,3,7,0,16,48,112,240,0,0,1024,4095,8191])) .z)) (.q .z))))) .z)) (.n (.q .h) (.n (.q .h) (.n (.q (.cond .z .z)) (.n (.reg (rn 16) (mkR [0,1,3,7,0,16,48,112,240,0,1023,2047,4095,4095,8191,32767])) (.q (.blk (.loop (dlN 0x8907c01b01300b002) (.n (.q (.cond .z .z)) (.n (.blk (.reg (rn 17) (mkR [0,0,0,4,0,0,48,112,252,0,512,0,0,6144,14336,32256,65535]))) .r)))))))))))))))
def g42(a:m9)(E:d9)(b:d9)(c:d9)(K:KH):C2 :=
 dQ4 a 8 kB (fun D=>A0 D (K (.t [])) (i6 34 [.s E,.int .u8 114] kB (fun m=>dQ6 a kP (fun F=>dQ4 a 4 kS (fun G=>i6 48 [.p F,.s G,.s b,.bool (!m)] dR4 (fun H I J L M=>H0 (.c [.i 0,.i 0,.s gq,.i 0] 80) (fun d=>A3 80 (.q d) (.g [.i H,.i I,.s J,.i L]) (i6 37 [.p a,.s b,.i M] kB (fun N=>A0 N (K (.t [])) (l8 (m8 d 0) kI (fun (O:Int)=>A0 (O==3) (dQ6 a kP (fun P=>dQ4 a 4 kS (fun Q=>l8 (m8 d 2) kS (fun R=>i6 21 [.p P,.s Q,.s R,.s c] kI (fun S=>i6 37 [.p a,.s b,.i S] kB (fun bg=>K (.t []))))))) (l8 (m8 d 0) kI (fun (U:Int)=>A0 (U==1) (dQ6 a kP (fun W=>dQ4 a 4 kS (fun X=>i6 48 [.p W,.s X,.s c,.bool true] dR4 (fun Z aa ab ac n=>H0 (.c [.i 0,.i 0,.s gq,.i 0] 80) (fun ad=>A3 80 (.q ad) (.g [.i Z,.i aa,.s ab,.i ac]) (dQ6 a kP (fun ae=>dQ4 a 4 kS (fun af=>i6 103 [.p ae,.s af,.s b] dS8 (fun ag (o:Int)=>C0 (T:=m9->d9->d9->m9->Int->Int->C2) (fun q r t u ah k=>C0 (T:=dV5) (fun ai aj ak=>i6 37 [.p ai,.s aj,.i ak] kB (fun bh=>K (.t []))) (fun v=>C0 (T:=dW3) (fun f w al am an ao=>A0 ao (dQ6 f kP (fun ap=>dQ4 f 4 kS (fun aq=>dQ4 am 1 kI (fun ar=>i6 19 [.p ap,.s aq,.s al,.i ar] kI (fun au=>v f w au))))) (v f w an)) (fun x=>A0 ((k:Int)==0) (x q r t u k ((ah:Int) != 0)) (x q r t u k false)))) (fun y=>A0 (o==0) (dQ6 a kP (fun av=>dQ4 a 4 kS (fun aw=>i6 17 [.p av,.s aw,.s c,.s ag,.bool false] kI (fun ax=>y a b c (gp d) n ax)))) (y a b c (gp d) n o))))))))))) (A0 (!m) (i6 37 [.p a,.s b,.i 7] kB (fun bi=>K (.t []))) (i6 104 [.p a,.s b,.s c] kB (fun ay=>A0 ay (i6 37 [.p a,.s b,.i 2] kB (fun bj=>K (.t []))) (i6 105 [.p a,.s c] kI (fun az=>i6 37 [.p a,.s b,.i az] kB (fun ba=>A0 ba (K (.t [])) (dQ6 a kP (fun bb=>dQ4 a 4 kS (fun bc=>i6 50 [.p bb,.s bc,.s b] dS6 (fun bd bk=>C9 [.p,.s,.s,.s,.l,.i] (fun be=>(fun z A g h e (j:Int)=>A0 (decide (j<(e.len:Int))) (E3 (g.size+((bs [47]):d9).size<=9223372036854775807) (dR2 e.base e.len j kS (fun B=>E3 ((g++(bs [47])).size+B.size<=9223372036854775807) (E3 (h.size+((bs [47]):d9).size<=9223372036854775807) (dR2 e.base e.len j kS (fun C=>E3 ((h++(bs [47])).size+C.size<=9223372036854775807) (i6 42 [.p z,.s A,.s ((g++(bs [47]))++B),.s ((h++(bs [47]))++C)] kU (be z A g h e (IntKind.i64.wrap (j+1)))))))))) (K (.t [])))) (fun bf=>bf a E b c bd 0))))))))))))))))))))))))
theorem c42(v1:m9)(v2:d9)(v3:d9)(v4:d9):g42 v1 v2 v3 v4 K Y->i7 42 [.p v1,.s v2,.s v3,.s v4] K Y:=q9 dj4 Tryz.func42


def dj5:Ann:=(.seq (some (dlN 0x1400b002)) (.q (.cond .r .z)) (.q (.n (.q (.blk (.loop (dlN 0x4103c03401400b002) (.n (.q (.cond .z .z)) (.seq (some (dlN 0x4103c03401400b002)) (.blk (.n (.q .h) (.n (.reg (rn 20) (mkR [0,1,3,7,0,16,48,112,240,0,0,1536,3584,8191,16383,32767,32767,0,196607,524287])) (.seq (some (dlN 0x5104103c03401400b002)) (.q (.cond (.reg (rn 18) (mkR [0,1,3,7,0,16,48,112,240,0,0,1536,3584,8191,16383,32767,32767,131071])) .z)) (.q (.cond .r .z)))))) .r))))) (.q (.n (.q (.blk (.loop (dlN 0x5903c03401400b002) (.n (.q (.cond .z .z)) (.n (.blk (.reg (rn 16) (mkR [0,0,2,6,14,30,0,0,192,448,1022,2046,4095,8191,16383,32767]))) .r))))) (.q (.blk (.loop (dlN 0x6103c01400b002) (.n (.q (.cond .z .z)) (.n (.blk (.seq (some (dlN 0x6103c01400b002)) (.q (.cond (.reg (rn 16) (mkR [0,0,2,6,14,30,0,0,192,448,1022,2046,4095,8191,16383,32767])) .z)) (.n (.reg (rn 19) (mkR [0,1,3,7,0,16,48,112,240,0,0,1536,3584,8191,16383,32767,32767,65535,262143])) (.q (.blk (.loop (dlN 0x7906c06103c01400b002) (.n (.q (.cond .z .z)) (.seq (some (dlN 0x7906c06103c01400b002)) (.blk (.o (dlN 0x54d07906c06103c01400b002) (.cond (.reg (rn 16) (mkR [0,0,2,6,14,30,0,0,192,448,1022,2046,4095,8191,16383,32767])) .z))) .r)))))))) .r))))))))))
def g43(da:m9)(db:d9)(cy:Sl)(K:KH):C2 :=
 C0 (T:=m9->d9->Sl->C2) (fun aj ak al=>C9 [.p,.s,.l,.l,.l,.i] (fun am=>(fun b j a d e (c:Int)=>A0 (decide (c<(a.len:Int))) (C0 (T:=m9->d9->Sl->Sl->Sl->Int->C2) (fun an ao ap aq ar au=>am an ao ap aq ar (IntKind.i64.wrap (au+1))) (fun x=>dR2 a.base a.len c kS (fun av=>i6 96 [.p b,.s av,.bool true] kB (fun aw=>A0 aw (dR2 a.base a.len c kS (fun ax=>H0 (.c [.s ax] 9) (fun ay=>ac9 .append #[30,30] 30 [false,false] [.slice e.base e.len e.cap,.slice (gp ay) 1 1] kL (fun az=>x b j a d az c)))) (dQ6 b kP (fun ba=>dQ4 b 4 kS (fun bb=>dR2 a.base a.len c kS (fun bc=>i6 48 [.p ba,.s bb,.s bc,.bool true] dR4 (fun bd be bf bg (P:Int)=>H0 (.c [.i 0,.i 0,.s gq,.i 0] 80) (fun bh=>A3 80 (.q bh) (.g [.i bd,.i be,.s bf,.i bg]) (C0 (T:=m9->d9->Sl->Sl->Sl->Int->Int->C2) (fun y Q f k R m bi=>dR2 f.base f.len m kS (fun bj=>i6 37 [.p y,.s bj,.i bi] kB (fun bk=>A0 (!bk) (dR2 f.base f.len m kS (fun bl=>H0 (.c [.s bl] 9) (fun bm=>ac9 .append #[30,30] 30 [false,false] [.slice k.base k.len k.cap,.slice (gp bm) 1 1] kL (fun bn=>x y Q f bn R m)))) (x y Q f k R m)))) (fun S=>A0 (P != 0) (dQ6 b kP (fun bo=>dQ4 b 4 kS (fun bp=>dR2 a.base a.len c kS (fun bq=>i6 48 [.p bo,.s bp,.s bq,.bool false] dR4 (fun dc dd de df br=>S b j a d e c br))))) (S b j a d e c P))))))))))))) (i6 106 [.slice d.base d.len d.cap] kL (fun bt=>C9 [.p,.s,.l,.l,.l,.i] (fun bu=>(fun n U W o X (z:Int)=>A0 (decide (z<(o.len:Int))) (dQ4 n 5 kS (fun A=>dR2 o.base o.len z kS (fun B=>E3 (A.size+B.size<=9223372036854775807) (E3 ((A++B).size+((bs [10]):d9).size<=9223372036854775807) (i9 n (fun bv bw=>A3 9 (.p (some ⟨bv,bw+5,none⟩)) (.s ((A++B)++(bs [10]))) (bu n U W o X (IntKind.i64.wrap (z+1))))))))) (C9 [.p,.s,.l,.l,.i] (fun bx=>(fun q Z C g (r:Int)=>A0 (decide (r<(g.len:Int))) (C0 (T:=m9->d9->Sl->Sl->Int->C2) (fun D bz ca E aa=>dQ6 D kP (fun cb=>dQ4 D 4 kS (fun cc=>dR2 E.base E.len aa kS (fun cd=>i6 50 [.p cb,.s cc,.s cd] dS6 (fun ce dg=>C9 [.p,.s,.l,.l,.i,.l,.i] (fun cf=>(fun F t G H I h (u:Int)=>A0 (decide (u<(h.len:Int))) (C0 (T:=m9->d9->Sl->Sl->Int->Sl->Int->C2) (fun cg ch ci cj ck cl cm=>cf cg ch ci cj ck cl (IntKind.i64.wrap (cm+1))) (fun ab=>C0 (T:=m9->d9->Sl->Sl->Int->Sl->Int->Bool->C2) (fun v ac ad ae af w J cn=>A0 cn (dQ4 v 5 kS (fun L=>dR2 w.base w.len J kS (fun M=>E3 (L.size+M.size<=9223372036854775807) (E3 ((L++M).size+((bs [10]):d9).size<=9223372036854775807) (i9 v (fun co cp=>A3 9 (.p (some ⟨co,cp+5,none⟩)) (.s ((L++M)++(bs [10]))) (ab v ac ad ae af w J))))))) (ab v ac ad ae af w J)) (fun ag=>dR2 h.base h.len u kS (fun cq=>I2 cq 0 (fun c152=>A0 ((c152.toNat:Int) != 46) (ag F t G H I h u true) (i6 34 [.s t,.int .u8 97] kB (fun cr=>ag F t G H I h u cr))))))) (bx F t G H (IntKind.i64.wrap (I+1))))) (fun cs=>cs D bz ca E aa ce 0)))))) (fun ah=>A0 (decide ((C.len:Int)>1)) (dQ4 q 5 kS (fun N=>dR2 g.base g.len r kS (fun O=>E3 (N.size+O.size<=9223372036854775807) (E3 ((N++O).size+((bs [58,10]):d9).size<=9223372036854775807) (i9 q (fun ct cu=>A3 9 (.p (some ⟨ct,cu+5,none⟩)) (.s ((N++O)++(bs [58,10]))) (ah q Z C g r))))))) (ah q Z C g r))) (K (.t [])))) (fun cv=>cv n U W X 0)))) (fun cw=>cw b j a bt e 0))))) (fun cx=>cx aj ak al ⟨none,0,0⟩ ⟨none,0,0⟩ 0)) (fun ai=>A0 ((cy.len:Int)==0) (H0 (.c [.s (bs [46])] 9) (fun cz=>ai da db ⟨(gp cz),1,1⟩)) (ai da db cy))
theorem c43(v1:m9)(v2:d9)(v3:Sl):g43 v1 v2 v3 K Y->i7 43 [.p v1,.s v2,.slice v3.base v3.len v3.cap] K Y:=q9 dj5 Tryz.func43


def dj6:Ann:=(.q (.blk (.loop (dlN 0x3101400b002) (.n (.o (dlN 0xa503101400b002) (.cond .z .z)) (.seq (some (dlN 0x3101400b002)) (.blk (.k 2 (.blk (.q (.cond .r (.q (.cond (.n (.reg (rn 17) (mkR [0,1,3,7,0,16,48,112,240,0,1023,2047,4095,4095,0,24575,65535])) (.seq (some (dlN 0x4903b03101400b002)) (.o (dlN 0x20504903b03101400b002) (.cond .r .z)) (.seq (some (dlN 0x4903b03101400b002)) (.q (.cond (.reg (rn 12) (mkR [0,1,3,7,0,16,48,112,240,0,1023,2047])) .z)) .r))) (.q (.cond (.reg (rn 14) (mkR [0,0,0,4,12,28,0,64,192,448,960,0,4092,8191])) (.q (.cond .r .z))))))))))) .r)))))
def g44(au:m9)(av:d9)(aw:Sl)(K:KH):C2 :=
 C9 [.p,.s,.l,.i] (fun H=>(fun j q k (m:Int)=>C0 (T:=m9->d9->Sl->Int->Bool->C2) (fun a b c e I=>A0 I (C0 (T:=m9->d9->Sl->Int->C2) (fun J L M N=>H J L M (IntKind.i64.wrap (N+1))) (fun f=>dR2 c.base c.len e kS (fun d=>dQ4 a 1 kS (fun g=>A0 (C3 g ((bs [109,107,100,105,114]):d9)) (i6 34 [.s b,.int .u8 112] kB (fun O=>i6 107 [.p a,.s d,.bool O] kI (fun P=>i6 37 [.p a,.s d,.i P] kB (fun ap=>f a b c e)))) (A0 (C3 g ((bs [114,109,100,105,114]):d9)) (dQ6 a kP (fun Q=>dQ4 a 4 kS (fun R=>i6 48 [.p Q,.s R,.s d,.bool false] dR4 (fun S U W X (n:Int)=>H0 (.c [.i 0,.i 0,.s gq,.i 0] 80) (fun r=>A3 80 (.q r) (.g [.i S,.i U,.s W,.i X]) (C0 (T:=m9->d9->Sl->Int->d9->Int->C2) (fun h t u v o w=>C0 (T:=m9->d9->Sl->Int->d9->Int->C2) (fun x Z aa ab ac ad=>i6 37 [.p x,.s ac,.i ad] kB (fun aq=>f x Z aa ab)) (fun y=>A0 ((w:Int)==0) (dQ6 h kP (fun ae=>dQ4 h 4 kS (fun af=>i6 94 [.p ae,.s af,.s o] kI (fun ag=>y h t u v o ag)))) (y h t u v o w))) (fun z=>C0 (T:=m9->d9->Sl->Int->d9->Int->Bool->C2) (fun A B C D E ah ai=>A0 ai (z A B C D E 8) (z A B C D E ah)) (fun F=>A0 (n==0) (l8 (m8 r 0) kI (fun (aj:Int)=>F a b c e d n (aj != 2))) (F a b c e d n false))))))))) (A0 (C3 g ((bs [116,111,117,99,104]):d9)) (dQ6 a kP (fun ak=>dQ4 a 4 kS (fun al=>i6 17 [.p ak,.s al,.s d,.s gq,.bool true] kI (fun am=>i6 37 [.p a,.s d,.i am] kB (fun ar=>f a b c e))))) (A0 (C3 g ((bs [114,109]):d9)) (i6 108 [.p a,.s b,.s d] kU (f a b c e)) (f a b c e)))))))) (K (.t []))) (fun G=>A0 (decide (m<(k.len:Int))) (dQ4 j 8 kB (fun an=>G j q k m (!an))) (G j q k m false)))) (fun ao=>ao au av aw 0)
theorem c44(v1:m9)(v2:d9)(v3:Sl):g44 v1 v2 v3 K Y->i7 44 [.p v1,.s v2,.slice v3.base v3.len v3.cap] K Y:=q9 dj6 Tryz.func44


def dj7:Ann:=(.k 2 .z)
def g45(a:m9)(K:KH):C2 :=
 A0 a.isNone (K (.bool true)) (dQ6 a kP (fun b=>K (.bool b.isNone)))
theorem c45(v1:m9):g45 v1 K Y->i7 45 [.p v1] K Y:=q9 dj7 Tryz.func45


def dj8:Ann:=(.q (.n (.q .h) (.q .z)))
def g46(b:m9)(K:KH):C2 :=
 H0 (.c [.i 0,.i 0] 29) (fun a=>A0 b.isNone (A3 29 (.q a) (.g [.i 0,.i 0]) (l8 (rdA 2 a 0) dR8 (fun c d=>K (.g [.i c,.i d])))) (dQ8 b 2 2 dR8 (fun e f=>A3 29 (.q a) (.g [.i e,.i f]) (l8 (rdA 2 a 0) dR8 (fun g h=>K (.g [.i g,.i h]))))))
theorem c46(v1:m9):g46 v1 K Y->i7 46 [.p v1] K Y:=q9 dj8 Tryz.func46


def dj9:Ann:=(.k 3 .z)
def g47(k:m9)(l:d9)(m:d9)(n:Bool)(K:KH):C2 :=
 H0 (.c [.i 0,.i 0,.s gq,.i 0] 80) (fun a=>i6 64 [.p k,.s l,.s m,.bool n,.func (.func 109) ⟨[]⟩ ⟨[.q a]⟩] kI (fun b=>l8 (rdA 4 a 0) dR9 (fun c d e f=>A3 80 (.q a) (.g [.i c,.i d,.s e,.i f]) (l8 (rdA 4 a 0) dR9 (fun g h i j=>K (.t [.g [.i g,.i h,.s i,.i j],.i b]))))))
theorem c47(v1:m9)(v2:d9)(v3:d9)(v4:Bool):g47 v1 v2 v3 v4 K Y->i7 47 [.p v1,.s v2,.s v3,.bool v4] K Y:=q9 dj9 Tryz.func47


def dk0:Ann:=(.k 2 (.n (.q .h) (.q (.n (.reg (rn 18) (mkR [0,1,3,7,0,16,48,112,0,256,768,1792,0,0,12288,32767,65535,131071])) .z))))
def g48(c:m9)(z:d9)(A:d9)(B:Bool)(K:KH):C2 :=
 H0 (.c [.i 0,.i 0,.s gq,.i 0] 80) (fun a=>i6 67 [.p c,.s z,.s A,.bool B] dT0 (fun (d:Int) (e:Int)=>A0 (e != 0) (A3 80 (.q a) (.g [.i 0,.i 0,.s gq,.i 0]) (l8 (rdA 4 a 0) dR9 (fun k l m n=>K (.t [.g [.i k,.i l,.s m,.i n],.i e])))) (dQ4 c 2 kL (fun f=>dR2 f.base f.len d kP (fun b=>dQ7 b kI (fun o p g=>dQ5 b 1 kI (fun q r h=>dQ5 b 2 kS (fun s t j=>i6 110 [.p c,.i d] kI (fun u=>I9 (fun Y=>(m8 s (t+2)) Y=some (.s j)) (I9 (fun Y=>(m8 q (r+1)) Y=some (.i h)) (I9 (fun Y=>(m8 o p) Y=some (.i g)) (A3 80 (.q a) (.g [.i g,.i h,.s j,.i u]) (l8 (rdA 4 a 0) dR9 (fun v w x y=>K (.t [.g [.i v,.i w,.s x,.i y],.i 0])))))))))))))))
theorem c48(v1:m9)(v2:d9)(v3:d9)(v4:Bool):g48 v1 v2 v3 v4 K Y->i7 48 [.p v1,.s v2,.s v3,.bool v4] K Y:=q9 dk0 Tryz.func48


def dk2:Ann:=(.k 3 .z)
def g49(g:m9)(h:d9)(i:d9)(K:KH):C2 :=
 H0 (.c [.p g] 24) (fun d=>H0 (.c [.slice none 0 0] 30) (fun a=>l8 (m8 d 0) kP (fun e=>i6 64 [.p e,.s h,.s i,.bool true,.func (.func 111) ⟨[]⟩ ⟨[.q d,.q a]⟩] kI (fun f=>l8 (m8 a 0) kL (fun b=>A3 30 (.q a) (.slice b.base b.len b.cap) (l8 (m8 a 0) kL (fun c=>K (.t [.slice c.base c.len c.cap,.i f]))))))))
theorem c49(v1:m9)(v2:d9)(v3:d9):g49 v1 v2 v3 K Y->i7 49 [.p v1,.s v2,.s v3] K Y:=q9 dk2 Tryz.func49


def dk3:Ann:=(.k 2 (.n (.q .h) (.n (.q .h) (.q (.n (.q (.blk (.loop (dlN 0x59054041002) (.n (.q (.cond .z .z)) (.n (.blk .r) .r))))) (.q .z))))))
def g50(e:m9)(A:d9)(B:d9)(K:KH):C2 :=
 i6 67 [.p e,.s A,.s B,.bool true] dT0 (fun (f:Int) (g:Int)=>A0 (g != 0) (K (.t [.slice none 0 0,.i g])) (dQ4 e 2 kL (fun h=>dR2 h.base h.len f kP (fun n=>dQ6 n kI (fun (o:Int)=>A0 (o != 2) (K (.t [.slice none 0 0,.i 8])) (C9 [.p,.i,.l,.i] (fun q=>(fun c d a (b:Int)=>dQ4 c 2 kL (fun j=>dR2 j.base j.len d kP (fun r=>dQ4 r 3 kL (fun s=>A0 (decide (b<(s.len:Int))) (dQ4 c 2 kL (fun k=>dR2 k.base k.len d kP (fun t=>dQ4 t 3 kL (fun m=>i9 m.base (fun u v=>E3 (0<=b/\b<(m.len:Int)) (l8 (m8 u (v+b.toNat*2)) kS (fun w=>H0 (.c [.s w] 9) (fun x=>ac9 .append #[30,30] 30 [false,false] [.slice a.base a.len a.cap,.slice (gp x) 1 1] kL (fun y=>q c d y (IntKind.i64.wrap (b+1))))))))))) (K (.t [.slice a.base a.len a.cap,.i 0]))))))) (fun z=>z e f ⟨none,0,0⟩ 0)))))))
theorem c50(v1:m9)(v2:d9)(v3:d9):g50 v1 v2 v3 K Y->i7 50 [.p v1,.s v2,.s v3] K Y:=q9 dk3 Tryz.func50


def dk4:Ann:=(.k 2 (.n (.q .h) (.q .z)))
def g51(m:m9)(n:d9)(e:Sl)(K:KH):C2 :=
 i6 6 [.p m,.g [.s n,.slice e.base e.len e.cap,.s gq,.s (bs [47])]] dS5 (fun g h i j=>H0 (.c [.s gq,.s gq,.i 0] 35) (fun a=>A3 35 (.q a) (.g [.s g,.s h,.i i]) (A0 (!j) (K (.s (bs [110,111,110,101]))) (l8 (m8 a 2) kI (fun k=>H0 (.c [.int .u8 (IntKind.u8.wrap (48+(IntKind.u8.wrap k)))] 5) (fun l=>W7 Tryz.prog (convert 141 9 (.slice (gp l) 1 1)) kS (fun c=>l8 (m8 a 0) kS (fun d=>E3 (c.size+d.size<=9223372036854775807) (l8 (m8 a 1) kS (fun f=>E3 ((c++d).size+f.size<=9223372036854775807) (K (.s ((c++d)++f)))))))))))))
theorem c51(v1:m9)(v2:d9)(v3:Sl):g51 v1 v2 v3 K Y->i7 51 [.p v1,.s v2,.slice v3.base v3.len v3.cap] K Y:=q9 dk4 Tryz.func51


def dk5:Ann:=(.q (.n (.o (dlN 0xad00a) .h) (.k 2 .z)))
def g52(o:Int)(p:Int)(K:KH):C2 :=
 H0 (.c [.i o,.i p] 29) (fun a=>C0 (T:=m9->Bool->C2) (fun d e=>A0 e (K (.p none)) (H0 (.map #[] 0) (fun f=>H0 (.c [.i 2,.i 493,.s gq,.i 1,.i 1,.map (some f)] 145) (fun g=>dR0 d 2 dR8 (fun h i=>H0 (.map #[] 0) (fun c=>ae9 135 (.map (some c)) (.i 1) (.q g) (H0 (.c [.i h,.i i,.i 1,.i 0,.map (some c),.i 1] 137) (fun j=>K (.q j))))))))) (fun b=>l8 (m8 a 0) kI (fun (k:Int)=>A0 (decide (k<1)) (b (gp a) true) (l8 (m8 a 0) kI (fun (l:Int)=>A0 (decide (l>1048576)) (b (gp a) true) (l8 (m8 a 1) kI (fun (m:Int)=>A0 (decide (m<0)) (b (gp a) true) (l8 (m8 a 1) kI (fun (n:Int)=>b (gp a) (decide (n>1073741824)))))))))))
theorem c52(v1:Int)(v2:Int):g52 v1 v2 K Y->i7 52 [.g [.i v1,.i v2]] K Y:=q9 dk5 Tryz.func52


def dk6:Ann:=(.k 2 (.n (.blk (.q (.cond (.q .z) (.q .h)))) (.q .z)))
def g53(n:m9)(o:d9)(p:d9)(q:u9)(K:KH):C2 :=
 i6 60 [.p n,.s o,.s p,.bool false] dS0 (fun c d e f (b:Int)=>H0 (.c [.i 0,.s gq,.i 0,.bool false] 89) (fun a=>A3 89 (.q a) (.g [.i c,.s d,.i e,.bool f]) (A0 (b != 0) (K (.i b)) (l8 (m8 a 3) kB (fun g=>A0 g (K (.i 6)) (l8 (rdA 4 a 0) dR6 (fun h j k l=>G8 Tryz.prog q [.g [.i h,.s j,.i k,.bool l]] kI (fun m=>K (.i m)))))))))
theorem c53(v1:m9)(v2:d9)(v3:d9)(v4:u9):g53 v1 v2 v3 v4 K Y->i7 53 [.p v1,.s v2,.s v3,v4] K Y:=q9 dk6 Tryz.func53


def dk7:Ann:=(.q (.n (.q .h) (.n (.reg (rn 14) (mkR [0,1,3,7,0,16,0,64,255,511,1023,1023,2047,8191])) (.q .z))))
def g54(l:Int)(m:d9)(n:Int)(o:Bool)(b:m9)(K:KH):C2 :=
 H0 (.c [.i l,.s m,.i n,.bool o] 89) (fun a=>dQ6 b kP (fun c=>l8 (m8 a 0) kI (fun d=>i6 55 [.p c,.i d] kI (fun (e:Int)=>A0 (decide (e>=12)) (K (.i 3)) (dQ6 b kP (fun f=>dQ6 f kP (fun g=>l8 (m8 a 0) kI (fun h=>l8 (m8 a 1) kS (fun j=>i6 56 [.p g,.i h,.s j,.i 2,.i 493,.s gq] dT0 (fun p k=>K (.i k)))))))))))
theorem c54(v1:Int)(v2:d9)(v3:Int)(v4:Bool)(x5:m9):g54 v1 v2 v3 v4 x5 K Y->i7 54 [.g [.i v1,.s v2,.i v3,.bool v4],.p x5] K Y:=q9 dk7 Tryz.func54


def dk8:Ann:=(.k 2 (.n (.blk (.loop (dlN 0x29009002) (.n (.q (.cond .z .z)) (.n (.blk .r) .r)))) (.q .z)))
def g55(k:m9)(l:Int)(K:KH):C2 :=
 C9 [.p,.i,.i] (fun d=>(fun a (b:Int) (c:Int)=>dQ6 a kP (fun e=>i6 113 [.p e] kI (fun (f:Int)=>A0 (b != f) (dQ6 a kP (fun g=>i6 114 [.p g,.i b] kI (fun h=>d a h (IntKind.i64.wrap (c+1))))) (K (.i c)))))) (fun j=>j k l 1)
theorem c55(v1:m9)(v2:Int):g55 v1 v2 K Y->i7 55 [.p v1,.i v2] K Y:=q9 dk8 Tryz.func55


def dk9:Ann:=(.k 2 (.n (.n (.reg [0,1,2,3,5,7,8,4,6,9,10,11,12,13,14,15] (mkR [0,1,0,0,12,0,60,0,0,0,0,1916,0,8191,16383,32767])) (.q .h)) (.k 2 (.seq (some (dlN 0x8205a032013009)) (.q (.cond .r .z)) (.n (.reg (rn 10) (mkR [0,1,3,7,0,16,48,112,0,511])) (.n (.reg (rn 15) (mkR [0,1,3,7,0,31,63,127,255,0,0,1024,3072,7168,16383])) (.q (.n (.reg (rn 12) (mkR [0,1,3,7,15,0,32,127,255,511,1023,2047])) (.q .z)))))))))
def g56(ad:m9)(e:Int)(i:d9)(ae:Int)(af:Int)(ag:d9)(K:KH):C2 :=
 H0 (.c [.p ad] 69) (fun a=>H0 (.c [.i ae] 3) (fun g=>H0 (.c [.i af] 3) (fun j=>H0 (.c [.s ag] 9) (fun c=>l8 (m8 a 0) kP (fun d=>l8 (m8 a 0) kP (fun s=>l8 (m8 a 0) kP (fun h=>i6 119 [.p s,.i e] kR (fun k=>I9 (fun Y=>(m8 a 0) Y=some (.p h)) (I9 (fun Y=>(m8 a 0) Y=some (.p d)) (i6 120 [.s i] kR (fun l=>I9 (fun Y=>(m8 a 0) Y=some (.p h)) (I9 (fun Y=>(m8 a 0) Y=some (.p d)) (i6 121 [.p h,.i e,.s i] kR (fun m=>I9 (fun Y=>(m8 a 0) Y=some (.p d)) (J5 k (J5 l (J5 m (H0 (.c [.func (.func 118) ⟨[.p d]⟩ ⟨[]⟩,k,l,.func (.func 115) ⟨[]⟩ ⟨[.q c,.q g,.q j]⟩,m,.func (.func 122) ⟨[]⟩ ⟨[.q a,.q c]⟩] 149) (fun t=>i6 117 [.slice (gp t) 6 6] kI (fun (n:Int)=>A0 (n != 0) (K (.t [.i 0,.i n])) (l8 (m8 a 0) kP (fun o=>dQ4 o 5 kI (fun (u:Int)=>i9 o (fun v w=>A3 3 (.p (some ⟨v,w+5,none⟩)) (.i (IntKind.i64.wrap (u+1))) (l8 (m8 g 0) kI (fun x=>l8 (m8 j 0) kI (fun y=>l8 (m8 c 0) kS (fun z=>H0 (.c [.i x,.i y,.s z,.i 1,.i 0,.map none] 145) (fun f=>C0 (T:=Int->d9->m9->m9->m9->C2) (fun A B b C D=>dQ6 b kP (fun E=>dQ4 E 4 kM (fun F=>dQ6 b kP (fun G=>dQ4 G 5 kI (fun H=>ae9 135 (.map F) (.i H) (.p D) (dQ6 b kP (fun I=>dQ4 I 4 kM (fun J=>l8 (rdM (.int .i64) (.p none) false J (.i A)) kP (fun L=>dQ4 L 5 kM (fun M=>dQ6 b kP (fun N=>dQ4 N 5 kI (fun O=>ae9 143 (.map M) (.s B) (.i O) (dQ6 b kP (fun p=>dQ4 p 2 kI (fun (P:Int)=>i9 p (fun Q R=>A3 3 (.p (some ⟨Q,R+2,none⟩)) (.i (IntKind.i64.wrap (P+1))) (dQ6 b kP (fun q=>dQ4 q 3 kI (fun (S:Int)=>dQ6 C kS (fun U=>i9 q (fun W X=>A3 3 (.p (some ⟨W,X+3,none⟩)) (.i (IntKind.i64.wrap (S+(U.size:Int)))) (dQ6 b kP (fun Z=>dQ4 Z 5 kI (fun aa=>K (.t [.i aa,.i 0]))))))))))))))))))))))))) (fun r=>l8 (m8 g 0) kI (fun (ab:Int)=>A0 (ab==2) (H0 (.map #[] 0) (fun ac=>A3 3 (.p (some ⟨f,4,none⟩)) (.i e) (A3 143 (.p (some ⟨f,5,none⟩)) (.map (some ac)) (r e i (gp a) (gp c) (gp f))))) (r e i (gp a) (gp c) (gp f)))))))))))))))))))))))))))))))))
theorem c56(v1:m9)(v2:Int)(v3:d9)(v4:Int)(v5:Int)(v6:d9):g56 v1 v2 v3 v4 v5 v6 K Y->i7 56 [.p v1,.i v2,.s v3,.i v4,.i v5,.s v6] K Y:=q9 dk9 Tryz.func56


def dl0:Ann:=(.k 3 (.seq (some (dlN 0x5a05104201d013002)) (.o (dlN 0xa505a05104201d01300b002) (.cond (.n (.q .h) (.n (.o (dlN 0xf505a04201d01300b002) .h) (.q (.n (.q .h) (.n (.q .h) (.n (.n (.reg (rn 12) (mkR [0,1,3,7,0,16,63,127,255,511,1023,2047])) .h) (.q .r))))))) .z)) (.q .z)))
def g57(an:m9)(ao:d9)(m:d9)(ap:Bool)(K:KH):C2 :=
 H0 (.c [.i 0,.s gq,.i 0] 95) (fun n=>H0 (.c [.i 0] 3) (fun f=>A3 3 (.q f) (.i 8) (C0 (T:=dW4) (fun u v w o x y=>i6 124 [.p u,.i x,.s v,.bool w,.p y] dR7 (fun z A B C=>A3 95 (.p o) (.g [.i z,.s A,.i B]) (dR0 o 3 dR5 (fun D E F=>K (.t [.g [.i D,.s E,.i F],.i C]))))) (fun p=>C0 (T:=m9->d9->d9->Bool->m9->Int->m9->Bool->C2) (fun g c d h b G j H=>A0 H (A0 (C3 d (gq:d9)) (A3 95 (.p b) (.g [.i 0,.s gq,.i 0]) (dR0 b 3 dR5 (fun I J L=>K (.t [.g [.i I,.s J,.i L],.i 5])))) (C0 (T:=m9->d9->d9->Bool->m9->m9->Bool->C2) (fun k M N O a l P=>A0 P (A3 95 (.p a) (.g [.i 0,.s gq,.i 0]) (dR0 a 3 dR5 (fun Q R S=>K (.t [.g [.i Q,.s R,.i S],.i 5])))) (i6 124 [.p k,.i 0,.s M,.bool true,.p l] dR7 (fun U W X (q:Int)=>H0 (.c [.i 0,.s gq,.i 0] 95) (fun e=>A3 95 (.q e) (.g [.i U,.s W,.i X]) (A0 (q != 0) (A3 95 (.p a) (.g [.i 0,.s gq,.i 0]) (dR0 a 3 dR5 (fun Z aa ab=>K (.t [.g [.i Z,.s aa,.i ab],.i q])))) (l8 (m8 e 2) kI (fun (ac:Int)=>A0 (decide (ac<0)) (A3 95 (.p a) (.g [.i 0,.s gq,.i 0]) (dR0 a 3 dR5 (fun ad ae af=>K (.t [.g [.i ad,.s ae,.i af],.i 5])))) (dQ4 k 2 kL (fun r=>l8 (m8 e 2) kI (fun (ag:Int)=>dR2 r.base r.len ag kP (fun ah=>dQ6 ah kI (fun (ai:Int)=>A0 (ai != 2) (A3 95 (.p a) (.g [.i 0,.s gq,.i 0]) (dR0 a 3 dR5 (fun aj ak al=>K (.t [.g [.i aj,.s ak,.i al],.i 8])))) (l8 (m8 e 2) kI (fun am=>A3 3 (.p l) (.i 8) (p k N O a am l))))))))))))))) (fun s=>A0 (C3 c (gq:d9)) (s g c d h b j true) (I2 c 0 (fun c82=>s g c d h b j ((c82.toNat:Int) != 47)))))) (p g d h b G j)) (fun t=>A0 (C3 m (gq:d9)) (t an ao m ap (gp n) 0 (gp f) true) (I2 m 0 (fun c83=>t an ao m ap (gp n) 0 (gp f) ((c83.toNat:Int) != 47))))))))
theorem c57(v1:m9)(v2:d9)(v3:d9)(v4:Bool):g57 v1 v2 v3 v4 K Y->i7 57 [.p v1,.s v2,.s v3,.bool v4] K Y:=q9 dl0 Tryz.func57


def dl1:Ann:=(.k 2 (.n (.blk (.loop (dlN 0x29009002) (.n (.q (.cond .z .z)) (.blk (.q .r))))) (.q .z)))
def g58(j:m9)(k:Int)(K:KH):C2 :=
 C9 [.p,.i,.i] (fun e=>(fun a (b:Int) (c:Int)=>A0 (b != 0) (dQ4 a 2 kL (fun d=>dR2 d.base d.len b kP (fun f=>dQ4 f 4 kI (fun g=>e a g (IntKind.i64.wrap (c+1)))))) (K (.i c)))) (fun h=>h j k 1)
theorem c58(v1:m9)(v2:Int):g58 v1 v2 K Y->i7 58 [.p v1,.i v2] K Y:=q9 dl1 Tryz.func58
end
section
variable {K:KH} {Y:H}
def dl2:Ann:=(.q (.n (.q .h) (.q (.n (.reg (rn 12) (mkR [0,0,2,0,8,0,32,96,224,480,992,2047])) (.q .z)))))
def g59(a:m9)(n:Int)(o:d9)(p:Int)(q:Int)(r:Int)(e:d9)(K:KH):C2 :=
 H0 (.c [.i n,.s o,.i p] 95) (fun d=>i6 63 [.p a,.i 1,.i (e.size:Int)] kB (fun f=>A0 (!f) (K (.i 10)) (dQ4 a 2 kL (fun b=>H0 (.c [.i q,.i r,.s e,.slice none 0 0,.i 0] 78) (fun g=>H0 (.c [.q g] 75) (fun h=>ac9 .append #[72,72] 72 [false,false] [.slice b.base b.len b.cap,.slice (gp h) 1 1] kL (fun c=>i9 a (fun i j=>A3 72 (.p (some ⟨i,j+2,none⟩)) (.slice c.base c.len c.cap) (l8 (m8 d 0) kI (fun k=>l8 (m8 d 1) kS (fun l=>dQ4 a 2 kL (fun m=>i6 102 [.p a,.i k,.s l,.i (IntKind.i64.wrap ((m.len:Int)-1))] kU (K (.i 0))))))))))))))
theorem c59(v1:m9)(v2:Int)(v3:d9)(v4:Int)(v5:Int)(v6:Int)(v7:d9):g59 v1 v2 v3 v4 v5 v6 v7 K Y->i7 59 [.p v1,.g [.i v2,.s v3,.i v4],.i v5,.i v6,.s v7] K Y:=q9 dl2 Tryz.func59


def dl3:Ann:=(.q (.n (.q .h) (.q (.n (.q .h) (.seq (some (dlN 0x5a05104201d013002)) (.q (.cond (.n (.q .h) (.q (.n (.blk (.q (.cond (.q .z) (.q (.cond (.q .z) (.q .h)))))) .r))) .z)) (.q .z))))))
def g60(b:m9)(I:d9)(e:d9)(am:Bool)(K:KH):C2 :=
 H0 (.c [.i 0,.s gq,.i 0,.bool false] 89) (fun a=>i6 45 [.p b] kB (fun k=>A0 k (A3 89 (.q a) (.g [.i 0,.s gq,.i 0,.bool false]) (l8 (rdA 4 a 0) dR6 (fun l m n o=>K (.t [.g [.i l,.s m,.i n,.bool o],.i 1])))) (dQ6 b kP (fun p=>i6 113 [.p p] kI (fun f=>H0 (.c [.i 0] 3) (fun c=>A3 3 (.q c) (.i 8) (A0 (C3 e (gq:d9)) (A3 89 (.q a) (.g [.i 0,.s gq,.i 0,.bool false]) (l8 (rdA 4 a 0) dR6 (fun q r s t=>K (.t [.g [.i q,.s r,.i s,.bool t],.i 5])))) (C0 (T:=dW4) (fun u v w g x y=>i6 126 [.p u,.i x,.s v,.bool w,.p y] dS0 (fun z A B C D=>A3 89 (.p g) (.g [.i z,.s A,.i B,.bool C]) (dR0 g 4 dR6 (fun E F G H=>K (.t [.g [.i E,.s F,.i G,.bool H],.i D]))))) (fun h=>I2 e 0 (fun c38=>A0 ((c38.toNat:Int) != 47) (i6 125 [.s I,.s (bs [47])] kB (fun J=>A0 (!J) (A3 89 (.q a) (.g [.i 0,.s gq,.i 0,.bool false]) (l8 (rdA 4 a 0) dR6 (fun L M N O=>K (.t [.g [.i L,.s M,.i N,.bool O],.i 5])))) (i6 126 [.p b,.i f,.s I,.bool true,.q c] dS0 (fun P Q R S (j:Int)=>H0 (.c [.i 0,.s gq,.i 0,.bool false] 89) (fun d=>A3 89 (.q d) (.g [.i P,.s Q,.i R,.bool S]) (A0 (j != 0) (A3 89 (.q a) (.g [.i 0,.s gq,.i 0,.bool false]) (l8 (rdA 4 a 0) dR6 (fun U W X Z=>K (.t [.g [.i U,.s W,.i X,.bool Z],.i j])))) (l8 (m8 d 3) kB (fun aa=>A0 (!aa) (A3 89 (.q a) (.g [.i 0,.s gq,.i 0,.bool false]) (l8 (rdA 4 a 0) dR6 (fun ab ac ad ae=>K (.t [.g [.i ab,.s ac,.i ad,.bool ae],.i 5])))) (l8 (m8 d 2) kI (fun af=>i6 127 [.p b,.i af] kI (fun (ag:Int)=>A0 (ag != 2) (A3 89 (.q a) (.g [.i 0,.s gq,.i 0,.bool false]) (l8 (rdA 4 a 0) dR6 (fun ah ai aj ak=>K (.t [.g [.i ah,.s ai,.i aj,.bool ak],.i 8])))) (l8 (m8 d 2) kI (fun al=>A3 3 (.q c) (.i 8) (h b e am (gp a) al (gp c))))))))))))))) (h b e am (gp a) f (gp c))))))))))))
theorem c60(v1:m9)(v2:d9)(v3:d9)(v4:Bool):g60 v1 v2 v3 v4 K Y->i7 60 [.p v1,.s v2,.s v3,.bool v4] K Y:=q9 dl3 Tryz.func60


def dl4:Ann:=(.k 2 (.n (.q .h) (.q .z)))
def g61(o:m9)(p:Int)(K:KH):C2 :=
 H0 (.c [.i 0,.i 0,.s gq,.i 0] 80) (fun a=>i6 128 [.p o,.i p] kP (fun b=>A0 b.isNone (A3 80 (.q a) (.g [.i 0,.i 0,.s gq,.i 0]) (l8 (rdA 4 a 0) dR9 (fun c d e f=>K (.t [.g [.i c,.i d,.s e,.i f],.bool false])))) (dR0 b 4 dR9 (fun g h i j=>A3 80 (.q a) (.g [.i g,.i h,.s i,.i j]) (l8 (rdA 4 a 0) dR9 (fun k l m n=>K (.t [.g [.i k,.i l,.s m,.i n],.bool true])))))))
theorem c61(v1:m9)(v2:Int):g61 v1 v2 K Y->i7 61 [.p v1,.i v2] K Y:=q9 dl4 Tryz.func61


def dl5:Ann:=(.k 2 (.n (.n (.reg (rn 9) (mkR [0,1,0,0,12,0,63,127,255])) (.q .h)) (.n (.reg (rn 7) (mkR [0,1,3,7,0,31,63])) (.n (.reg (rn 19) (mkR [0,1,3,7,15,0,32,0,128,384,896,1920,3968,8160,16383,32767,65535,131071,262143])) (.k 2 .z)))))
def g62(w:m9)(x:Int)(y:d9)(K:KH):C2 :=
 H0 (.c [.p w] 69) (fun a=>H0 (.c [.i x] 3) (fun b=>H0 (.c [.s y] 9) (fun c=>l8 (m8 a 0) kP (fun d=>l8 (m8 a 0) kP (fun i=>l8 (m8 b 0) kI (fun j=>i6 130 [.p i,.i j] kR (fun e=>I9 (fun Y=>(m8 a 0) Y=some (.p d)) (J5 e (H0 (.c [.func (.func 118) ⟨[.p d]⟩ ⟨[]⟩,e,.func (.func 129) ⟨[]⟩ ⟨[.q a,.q c,.q b]⟩] 149) (fun k=>i6 117 [.slice (gp k) 3 3] kI (fun (f:Int)=>A0 (f != 0) (K (.i f)) (l8 (m8 a 0) kP (fun l=>dQ4 l 4 kM (fun m=>l8 (m8 b 0) kI (fun n=>l8 (rdM (.int .i64) (.p none) false m (.i n)) kP (fun g=>l8 (m8 a 0) kP (fun h=>dQ4 h 3 kI (fun (o:Int)=>l8 (m8 c 0) kS (fun p=>dQ4 g 2 kS (fun q=>i9 h (fun r s=>A3 3 (.p (some ⟨r,s+3,none⟩)) (.i (IntKind.i64.wrap (o+(IntKind.i64.wrap ((p.size:Int)-(q.size:Int)))))) (l8 (m8 c 0) kS (fun t=>i9 g (fun u v=>A3 9 (.p (some ⟨u,v+2,none⟩)) (.s t) (K (.i 0))))))))))))))))))))))))))
theorem c62(v1:m9)(v2:Int)(v3:d9):g62 v1 v2 v3 K Y->i7 62 [.p v1,.i v2,.s v3] K Y:=q9 dl5 Tryz.func62


def dl6:Ann:=(.k 2 (.n (.reg (rn 23) (mkR [0,1,0,7,0,16,48,112,240,511,1023,2047,4095,2047,16383,2047,34815,100351,231423,493567,1048575,2097151,4194303])) .z))
def g63(b:m9)(i:Int)(j:Int)(K:KH):C2 :=
 i6 9 [.p b] dR8 (fun c d=>H0 (.c [.i 0,.i 0] 29) (fun a=>A3 29 (.q a) (.g [.i c,.i d]) (l8 (m8 a 0) kI (fun (e:Int)=>dQ6 b kI (fun (f:Int)=>A0 (decide (((IntKind.i64.wrap (e+i)):Int)<=f)) (l8 (m8 a 1) kI (fun (g:Int)=>dQ4 b 1 kI (fun (h:Int)=>K (.bool (decide (((IntKind.i64.wrap (g+j)):Int)<=h)))))) (K (.bool false)))))))
theorem c63(v1:m9)(v2:Int)(v3:Int):g63 v1 v2 v3 K Y->i7 63 [.p v1,.i v2,.i v3] K Y:=q9 dl6 Tryz.func63


def dl7:Ann:=(.k 2 (.n (.q .h) (.n (.reg (rn 13) (mkR [0,1,3,7,0,16,63,127,255,255,0,1535,4095])) (.n (.o (dlN 0x15506a05a026) .h) (.q .z)))))
def g64(f:m9)(E:d9)(F:d9)(G:Bool)(D:u9)(K:KH):C2 :=
 i6 60 [.p f,.s E,.s F,.bool G] dS0 (fun g h j k (d:Int)=>H0 (.c [.i 0,.s gq,.i 0,.bool false] 89) (fun a=>A3 89 (.q a) (.g [.i g,.s h,.i j,.bool k]) (A0 (d != 0) (K (.i d)) (dQ6 f kP (fun l=>l8 (m8 a 2) kI (fun m=>i6 61 [.p l,.i m] dS3 (fun n o p q r=>H0 (.c [.i 0,.i 0,.s gq,.i 0] 80) (fun c=>A3 80 (.q c) (.g [.i n,.i o,.s p,.i q]) (C0 (T:=u9->m9->m9->Bool->C2) (fun s t u v=>A0 v (K (.i 5)) (dQ4 t 2 kI (fun w=>dR0 u 4 dR9 (fun x y z A=>G8 Tryz.prog s [.i w,.g [.i x,.i y,.s z,.i A]] kI (fun B=>K (.i B)))))) (fun e=>l8 (m8 a 3) kB (fun C=>A0 (!C) (e D (gp a) (gp c) true) (e D (gp a) (gp c) (!r)))))))))))))
theorem c64(v1:m9)(v2:d9)(v3:d9)(v4:Bool)(v5:u9):g64 v1 v2 v3 v4 v5 K Y->i7 64 [.p v1,.s v2,.s v3,.bool v4,v5] K Y:=q9 dl7 Tryz.func64


def dl8:Ann:=(.q (.n (.reg (rn 8) (mkR [0,1,3,7,0,0,63,127])) .z))
def g65(h:Int)(__2:Int)(__3:Int)(__4:d9)(__5:Int)(f:m9)(g:m9)(K:KH):C2 :=
 H0 (.c [.i __2,.i __3,.s __4,.i __5] 80) (fun e=>dQ6 f kP (fun a=>dQ6 a kP (fun b=>dQ6 g kI (fun c=>i6 66 [.p b,.i h,.i c] kI (fun d=>K (.i d))))))
theorem c65(v1:Int)(__2:Int)(__3:Int)(__4:d9)(__5:Int)(x6:m9)(x7:m9):g65 v1 __2 __3 __4 __5 x6 x7 K Y->i7 65 [.i v1,.g [.i __2,.i __3,.s __4,.i __5],.p x6,.p x7] K Y:=q9 dl8 Tryz.func65


def dl9:Ann:=(.k 3 (.n (.k 2 .h) (.n (.reg (rn 11) (mkR [0,1,3,7,0,31,0,127,255,511,1023])) (.q .z))))
def g66(n:m9)(o:Int)(p:Int)(K:KH):C2 :=
 H0 (.c [.p n] 69) (fun a=>H0 (.c [.i o] 3) (fun b=>H0 (.c [.i p] 3) (fun c=>l8 (m8 a 0) kP (fun e=>H0 (.c [.func (.func 118) ⟨[.p e]⟩ ⟨[]⟩,.func (.func 131) ⟨[]⟩ ⟨[.q c]⟩,.func (.func 132) ⟨[]⟩ ⟨[.q a,.q b]⟩] 149) (fun f=>i6 117 [.slice (gp f) 3 3] kI (fun (d:Int)=>A0 (d != 0) (K (.i d)) (l8 (m8 a 0) kP (fun g=>dQ4 g 4 kM (fun h=>l8 (m8 b 0) kI (fun i=>l8 (rdM (.int .i64) (.p none) false h (.i i)) kP (fun j=>l8 (m8 c 0) kI (fun k=>i9 j (fun l m=>A3 3 (.p (some ⟨l,m+1,none⟩)) (.i k) (K (.i 0)))))))))))))))
theorem c66(v1:m9)(v2:Int)(v3:Int):g66 v1 v2 v3 K Y->i7 66 [.p v1,.i v2,.i v3] K Y:=q9 dl9 Tryz.func66


def dm0:Ann:=(.k 2 (.n (.o (dlN 0xd5059052) .h) (.q .z)))
def g67(m:m9)(n:d9)(o:d9)(p:Bool)(K:KH):C2 :=
 i6 57 [.p m,.s n,.s o,.bool p] dR7 (fun d e f (b:Int)=>H0 (.c [.i 0,.s gq,.i 0] 95) (fun a=>A3 95 (.q a) (.g [.i d,.s e,.i f]) (C0 (T:=m9->Int->Bool->C2) (fun g h j=>A0 j (K (.t [.i 0,.i 5])) (dQ4 g 2 kI (fun k=>K (.t [.i k,.i h])))) (fun c=>A0 (b==0) (l8 (m8 a 2) kI (fun (l:Int)=>c (gp a) b (decide (l<0)))) (c (gp a) b false)))))
theorem c67(v1:m9)(v2:d9)(v3:d9)(v4:Bool):g67 v1 v2 v3 v4 K Y->i7 67 [.p v1,.s v2,.s v3,.bool v4] K Y:=q9 dm0 Tryz.func67


def dm1:Ann:=(.k 2 .z)
def g68(b:d9)(c:Int)(K:KH):C2 :=
 i6 133 [.s b,.int .u8 c] kI (fun a=>K (.i a))
theorem c68(v1:d9)(v2:Int):g68 v1 v2 K Y->i7 68 [.s v1,.int .u8 v2] K Y:=q9 dm1 Tryz.func68


def dm2:Ann:=(.q (.n (.reg (rn 15) (mkR [0,1,3,7,0,16,0,64,0,511,1023,2047,2047,4095,16383])) (.q .z)))
def g69(h:Int)(j:d9)(k:Int)(l:Bool)(m:m9)(n:m9)(K:KH):C2 :=
 H0 (.c [.i h,.s j,.i k,.bool l] 89) (fun a=>dQ6 m kP (fun b=>dQ6 b kP (fun c=>l8 (m8 a 0) kI (fun d=>l8 (m8 a 1) kS (fun e=>dQ6 n kS (fun f=>i6 56 [.p c,.i d,.s e,.i 3,.i 511,.s f] dT0 (fun o g=>K (.i g))))))))
theorem c69(v1:Int)(v2:d9)(v3:Int)(v4:Bool)(x5:m9)(x6:m9):g69 v1 v2 v3 v4 x5 x6 K Y->i7 69 [.g [.i v1,.s v2,.i v3,.bool v4],.p x5,.p x6] K Y:=q9 dm2 Tryz.func69


def dm3:Ann:=(.q (.blk (.loop (dlN 0x5905104c00e002) (.q (.n (.cond .z .z) (.n (.blk (.q (.n (.q (.cond .z .z)) .r))) .r))))))
def g70(h:m9)(q:u9)(K:KH):C2 :=
 dQ4 h 9 kL (fun d=>C9 [.p,.w,.l,.i,.i] (fun j=>(fun a e b (f:Int) (c:Int)=>A0 (decide (c<f)) (dR2 b.base b.len c kS (fun g=>dQ4 a 10 kB (fun k=>A0 k (K (.t [])) (G8 Tryz.prog e [.s g] kI (fun m=>i6 134 [.p a,.s g,.i m] kB (fun o=>j a e b f (IntKind.i64.wrap (c+1)))))))) (K (.t [])))) (fun n=>n h q d (d.len:Int) 0))
theorem c70(v1:m9)(v2:u9):g70 v1 v2 K Y->i7 70 [.p v1,v2] K Y:=q9 dm3 Tryz.func70


def dm4:Ann:=(.q (.n (.q (.cond (.n (.reg (rn 12) (mkR [0,1,3,7,0,16,48,112,240,0,1023,2047])) .z) .z)) (.seq (some (dlN 0x1a00a003)) (.q (.blk (.rf [.s] .r (.blk (.k 2 .h))))) (.q .z))))
def g71(c:d9)(b:m9)(K:KH):C2 :=
 H0 (.c [.i 0] 45) (fun a=>dQ6 b kP (fun g=>i6 72 [.p g,.int .u8 112] kB (fun h=>A0 (!h) (dQ6 b kP (fun i=>dQ4 i 4 kP (fun j=>dQ6 b kP (fun k=>dQ4 k 3 kS (fun l=>i6 14 [.p j,.s l,.s c] kI (fun m=>A3 45 (.q a) (.i m) (l8 (m8 a 0) kI (fun n=>K (.i n))))))))) (C0 (T:=d9->m9->m9->C2) (fun o p d=>dQ6 p kP (fun q=>i6 74 [.p q,.s o] kI (fun r=>A3 45 (.p d) (.i r) (dQ6 d kI (fun t=>K (.i t)))))) (fun e=>i6 73 [.s c] kR (fun u=>N5 u (fun(g43:FuncId) (as44 cs45:List u9)=>rfW Tryz.prog none g43 as44 cs45 [.s] (fun(l34:Nat) (obj35:LoopState->Option Code->Obj) K36=>(fun v=>M9 l34 obj35 (dQ6 b kP (fun w=>i6 74 [.p w,.s v] kI (fun (f:Int)=>A0 (f != 0) (A3 45 (.q a) (.i f) (D5 l34 obj35 K36 (some .ret) false .done)) (D5 l34 obj35 K36 none true .ready)))))) (e c b (gp a)) (fun i42=>exW i42 0 (e c b (gp a)) (nW)) (l8 (m8 a 0) kI (fun x=>K (.i x))))))))))
theorem c71(v1:d9)(x2:m9):g71 v1 x2 K Y->i7 71 [.s v1,.p x2] K Y:=q9 dm4 Tryz.func71


def dm5:Ann:=(.k 2 .z)
def g72(c:m9)(d:Int)(K:KH):C2 :=
 dQ4 c 8 kS (fun a=>i6 68 [.s a,.int .u8 d] kI (fun (b:Int)=>K (.bool (decide (b>=0)))))
theorem c72(v1:m9)(v2:Int):g72 v1 v2 K Y->i7 72 [.p v1,.int .u8 v2] K Y:=q9 dm5 Tryz.func72


def dm6:Ann:=(.k 2 .z)
def g73(b:d9)(K:KH):C2 :=
 H0 (.c [.s b] 9) (fun a=>K (.func (.func 135) ⟨[]⟩ ⟨[.q a]⟩))
theorem c73(v1:d9):g73 v1 K Y->i7 73 [.s v1] K Y:=q9 dm6 Tryz.func73


def dm7:Ann:=(.q (.n (.n (.reg (rn 12) (mkR [0,1,3,7,0,16,48,112,240,0,1023,2047])) (.o (dlN 0xc5029) .h)) (.q .z)))
def g74(b:m9)(f:d9)(K:KH):C2 :=
 dQ4 b 4 kP (fun d=>dQ4 b 3 kS (fun e=>i6 14 [.p d,.s e,.s f] kI (fun (a:Int)=>C0 (T:=dV2) (fun g h=>A0 h (K (.i g)) (K (.i 0))) (fun c=>A0 (a != 6) (c a true) (i6 89 [.p b,.s f] kB (fun i=>c a (!i)))))))
theorem c74(v1:m9)(v2:d9):g74 v1 v2 K Y->i7 74 [.p v1,.s v2] K Y:=q9 dm7 Tryz.func74


def dm8:Ann:=(.k 2 (.n (.blk (.q (.cond (.q .z) (.q .h)))) (.n (.reg (rn 12) (mkR [0,1,3,7,0,16,48,112,240,0,1023,2047])) .z)))
def g75(e:d9)(a:m9)(K:KH):C2 :=
 dQ6 a kP (fun d=>i6 76 [.p d,.s e,.bool false] dR4 (fun f g h j (b:Int)=>H0 (.c [.i 0,.i 0,.s gq,.i 0] 80) (fun c=>A3 80 (.q c) (.g [.i f,.i g,.s h,.i j]) (A0 (b != 0) (K (.i b)) (l8 (m8 c 0) kI (fun (k:Int)=>A0 (k != 2) (K (.i 8)) (dQ6 a kP (fun l=>dQ4 l 4 kP (fun m=>dQ6 a kP (fun n=>dQ4 n 3 kS (fun o=>i6 77 [.p m,.s o,.s e] kI (fun p=>K (.i p)))))))))))))
theorem c75(v1:d9)(x2:m9):g75 v1 x2 K Y->i7 75 [.s v1,.p x2] K Y:=q9 dm8 Tryz.func75


def dm9:Ann:=(.q (.n (.reg (rn 16) (mkR [0,1,3,7,0,16,48,112,240,0,0,2047,4095,4095,16383,32767])) .z))
def g76(b:m9)(o:d9)(p:Bool)(K:KH):C2 :=
 H0 (.c [.i 0,.i 0,.s gq,.i 0] 80) (fun a=>dQ4 b 4 kP (fun c=>dQ4 b 3 kS (fun d=>i6 47 [.p c,.s d,.s o,.bool p] dR4 (fun e f g h j=>A3 80 (.q a) (.g [.i e,.i f,.s g,.i h]) (l8 (rdA 4 a 0) dR9 (fun k l m n=>K (.t [.g [.i k,.i l,.s m,.i n],.i j])))))))
theorem c76(v1:m9)(v2:d9)(v3:Bool):g76 v1 v2 v3 K Y->i7 76 [.p v1,.s v2,.bool v3] K Y:=q9 dm9 Tryz.func76


def dn0:Ann:=(.k 2 (.n (.blk (.q (.cond (.q .z) (.q (.cond (.q .z) (.q (.cond (.q .z) (.n (.reg (rn 10) (mkR [0,1,3,7,0,16,63,127,255,511])) .h)))))))) (.n (.reg (rn 10) (mkR [0,1,3,7,0,16,0,64,255,511])) .z)))
def g77(b:m9)(r:d9)(s:d9)(K:KH):C2 :=
 i6 60 [.p b,.s r,.s s,.bool false] dS0 (fun d e f g (c:Int)=>H0 (.c [.i 0,.s gq,.i 0,.bool false] 89) (fun a=>A3 89 (.q a) (.g [.i d,.s e,.i f,.bool g]) (A0 (c != 0) (K (.i c)) (l8 (m8 a 3) kB (fun h=>A0 (!h) (K (.i 5)) (l8 (m8 a 1) kS (fun j=>A0 (C3 j (gq:d9)) (K (.i 2)) (dQ6 b kP (fun k=>l8 (m8 a 2) kI (fun l=>i6 112 [.p k,.i l] kL (fun m=>A0 (decide ((m.len:Int)>0)) (K (.i 20)) (dQ6 b kP (fun n=>l8 (m8 a 0) kI (fun o=>l8 (m8 a 1) kS (fun p=>i6 136 [.p n,.i o,.s p] kI (fun q=>K (.i q)))))))))))))))))
theorem c77(v1:m9)(v2:d9)(v3:d9):g77 v1 v2 v3 K Y->i7 77 [.p v1,.s v2,.s v3] K Y:=q9 dn0 Tryz.func77


def dn1:Ann:=(.q (.n (.reg (rn 12) (mkR [0,1,3,7,0,16,48,112,240,0,1023,2047])) .z))
def g78(g:d9)(a:m9)(K:KH):C2 :=
 dQ6 a kP (fun b=>dQ4 b 4 kP (fun c=>dQ6 a kP (fun d=>dQ4 d 3 kS (fun e=>i6 16 [.p c,.s e,.s g,.s gq,.bool true] kI (fun f=>K (.i f))))))
theorem c78(v1:d9)(x2:m9):g78 v1 x2 K Y->i7 78 [.s v1,.p x2] K Y:=q9 dn1 Tryz.func78


def dn2:Ann:=(.k 2 (.seq (some (dlN 0x29012003)) (.q (.cond (.q (.n (.q .h) (.k 2 (.cond .r .z)))) .z)) (.n (.reg (rn 13) (mkR [0,1,3,7,0,16,48,112,240,0,0,2047,4095])) .z)))
def g79(d:d9)(h:m9)(c:m9)(K:KH):C2 :=
 dQ6 h kS (fun j=>i6 80 [.s j] dS7 (fun k l=>C0 (T:=d9->m9->Int->C2) (fun m f n=>dQ6 f kP (fun o=>dQ4 o 4 kP (fun p=>dQ6 f kP (fun q=>dQ4 q 3 kS (fun r=>i6 18 [.p p,.s r,.s m,.i n] kI (fun s=>K (.i s))))))) (fun a=>A0 (!l) (dQ6 c kP (fun t=>i6 76 [.p t,.s d,.bool true] dR4 (fun u v w x (g:Int)=>H0 (.c [.i 0,.i 0,.s gq,.i 0] 80) (fun e=>A3 80 (.q e) (.g [.i u,.i v,.s w,.i x]) (A0 (g != 0) (K (.i g)) (l8 (m8 e 1) kI (fun y=>dQ6 h kS (fun z=>A0 (C3 z ((bs [45,120]):d9)) (l8 (m8 e 1) kI (fun A=>a d c (aC0 .andNot .i64 A 73))) (a d c (aC0 .or .i64 y 73)))))))))) (a d c k))))
theorem c79(v1:d9)(x2:m9)(x3:m9):g79 v1 x2 x3 K Y->i7 79 [.s v1,.p x2,.p x3] K Y:=q9 dn2 Tryz.func79


def dn3:Ann:=(.q (.n (.o (dlN 0x6d003) .h) (.q (.n (.reg (rn 5) (mkR [0,0,2,1,15])) .z))))
def g80(a:d9)(K:KH):C2 :=
 C0 (T:=d9->Bool->C2) (fun d e=>A0 e (K (.t [.i 0,.bool false])) (i6 137 [.s d,.i 8,.i 32] (.tup [.i,.w]) (fun f b=>W7 Tryz.prog (do eqGuard .eql 160 (.tmp 20) (.const (.nilIface)) (b) (.nilIface);binOp .eql 160 (b) (.nilIface)) kB (fun g=>K (.t [.i f,.bool g]))))) (fun c=>A0 (decide ((a.size:Int)>3)) (c a true) (i6 92 [.s a,.s (bs [48,49,50,51,52,53,54,55])] kS (fun h=>c a (!C3 h (gq:d9)))))
theorem c80(v1:d9):g80 v1 K Y->i7 80 [.s v1] K Y:=q9 dn3 Tryz.func80


def dn5:Ann:=(.q (.seq (some (dlN 0x1200a003)) (.q (.o (dlN 0xc501200a003) (.cond (.n (.reg (rn 12) (mkR [0,1,3,7,0,16,48,112,240,0,1023,2047])) (.q .h)) .z))) (.n (.q (.cond (.n (.reg (rn 13) (mkR [0,1,3,7,0,16,48,112,240,0,0,2047,4095])) .z) .z)) (.n (.reg (rn 13) (mkR [0,1,3,7,0,16,48,112,240,0,0,2047,4095])) .z))))
def g81(d:d9)(b:m9)(n:m9)(K:KH):C2 :=
 C0 (T:=d9->m9->m9->C2) (fun g a h=>dQ6 a kP (fun o=>i6 72 [.p o,.int .u8 115] kB (fun p=>A0 p (dQ6 a kP (fun q=>dQ4 q 4 kP (fun r=>dQ6 a kP (fun s=>dQ4 s 3 kS (fun t=>dQ6 h kS (fun u=>i6 20 [.p r,.s t,.s u,.s g] kI (fun v=>K (.i v)))))))) (dQ6 a kP (fun w=>dQ4 w 4 kP (fun x=>dQ6 a kP (fun y=>dQ4 y 3 kS (fun z=>dQ6 h kS (fun A=>i6 82 [.p x,.s z,.s A,.s g] kI (fun B=>K (.i B))))))))))) (fun j=>dQ6 b kP (fun C=>i6 76 [.p C,.s d,.bool false] dR4 (fun D E F G (H:Int)=>H0 (.c [.i 0,.i 0,.s gq,.i 0] 80) (fun k=>A3 80 (.q k) (.g [.i D,.i E,.s F,.i G]) (C0 (T:=d9->m9->m9->Bool->C2) (fun e c l I=>A0 I (dQ6 c kP (fun J=>dQ4 J 4 kP (fun L=>dQ6 c kP (fun M=>dQ4 M 3 kS (fun N=>i6 77 [.p L,.s N,.s e] kI (fun (m:Int)=>A0 (m != 0) (K (.i m)) (j e c l))))))) (j e c l)) (fun f=>dQ6 b kP (fun O=>i6 72 [.p O,.int .u8 102] kB (fun P=>A0 P (A0 (H==0) (l8 (m8 k 0) kI (fun (Q:Int)=>f d b n (Q != 2))) (f d b n false)) (f d b n false)))))))))
theorem c81(v1:d9)(x2:m9)(x3:m9):g81 v1 x2 x3 K Y->i7 81 [.s v1,.p x2,.p x3] K Y:=q9 dn5 Tryz.func81


def dn6:Ann:=(.k 2 (.n (.blk (.q (.cond (.q .z) (.q (.cond (.q .z) (.q (.cond (.q .z) (.q (.cond (.q .z) (.q .h)))))))))) (.n (.reg (rn 12) (mkR [0,1,3,7,0,16,0,64,0,256,1023,2047])) .z)))
def g82(c:m9)(y:d9)(z:d9)(A:d9)(K:KH):C2 :=
 i6 138 [.p c,.s y,.s z,.s A] dS4 (fun e f g h j k l m (d:Int)=>H0 (.c [.i 0,.s gq,.i 0,.bool false] 89) (fun a=>H0 (.c [.i 0,.s gq,.i 0,.bool false] 89) (fun b=>A3 89 (.q a) (.g [.i e,.s f,.i g,.bool h]) (A3 89 (.q b) (.g [.i j,.s k,.i l,.bool m]) (A0 (d != 0) (K (.i d)) (l8 (m8 a 3) kB (fun n=>A0 (!n) (K (.i 5)) (l8 (m8 a 2) kI (fun o=>i6 127 [.p c,.i o] kI (fun (p:Int)=>A0 (p==2) (K (.i 7)) (l8 (m8 a 2) kI (fun q=>i6 127 [.p c,.i q] kI (fun (r:Int)=>A0 (r==3) (K (.i 2)) (l8 (m8 b 3) kB (fun s=>A0 s (K (.i 6)) (dQ6 c kP (fun t=>l8 (m8 b 0) kI (fun u=>l8 (m8 b 1) kS (fun v=>l8 (m8 a 2) kI (fun w=>i6 139 [.p t,.i u,.s v,.i w] kI (fun x=>K (.i x))))))))))))))))))))))
theorem c82(v1:m9)(v2:d9)(v3:d9)(v4:d9):g82 v1 v2 v3 v4 K Y->i7 82 [.p v1,.s v2,.s v3,.s v4] K Y:=q9 dn6 Tryz.func82


def dn8:Ann:=(.k 2 (.seq (some (dlN 0xb002)) (.blk (.o (dlN 0x8d03102a00b002) (.cond (.q .z) (.q (.cond (.q .z) (.o (dlN 0xe502a00b002) (.cond (.q .z) (.q (.cond (.n (.reg (rn 16) (mkR [0,1,3,7,0,16,48,112,240,0,1023,2047,4095,4095,8191,32767])) (.q (.blk (.loop (dlN 0x1c91c11bc00b002) (.q (.n (.cond .z .z) (.n (.blk (.q .r)) .r))))))) .z))))))))) (.n (.reg (rn 12) (mkR [0,1,3,7,0,16,48,112,240,0,1023,2047])) .z)))
def g83(e:m9)(o:d9)(K:KH):C2 :=
 i6 76 [.p e,.s o,.bool false] dR4 (fun z A B C (f:Int)=>H0 (.c [.i 0,.i 0,.s gq,.i 0] 80) (fun g=>A3 80 (.q g) (.g [.i z,.i A,.s B,.i C]) (C0 (T:=m9->d9->C2) (fun q D=>dQ4 q 4 kP (fun E=>dQ4 q 3 kS (fun F=>i6 77 [.p E,.s F,.s D] kI (fun G=>K (.i G))))) (fun r=>C0 (T:=m9->d9->m9->Int->Bool->C2) (fun h t j u H=>A0 H (K (.i 0)) (A0 ((u:Int) != 0) (K (.i u)) (C0 (T:=m9->d9->m9->Bool->C2) (fun b k I J=>A0 J (K (.i 7)) (dQ6 I kI (fun (L:Int)=>A0 (L==2) (dQ4 b 4 kP (fun M=>dQ4 b 3 kS (fun N=>i6 49 [.p M,.s N,.s k] dS6 (fun v W=>C9 [.p,.s,.l,.i,.i] (fun O=>(fun c a m (w:Int) (n:Int)=>A0 (decide (n<w)) (dR2 m.base m.len n kS (fun d=>E3 (a.size+((bs [47]):d9).size<=9223372036854775807) (E3 ((a++(bs [47])).size+d.size<=9223372036854775807) (E3 (a.size+((bs [47]):d9).size<=9223372036854775807) (E3 ((a++(bs [47])).size+d.size<=9223372036854775807) (i6 83 [.p c,.s ((a++(bs [47]))++d)] kI (fun P=>i6 134 [.p c,.s ((a++(bs [47]))++d),.i P] kB (fun X=>O c a m w (IntKind.i64.wrap (n+1)))))))))) (r c a))) (fun Q=>Q b k v (v.len:Int) 0))))) (r b k)))) (fun x=>dQ6 j kI (fun (R:Int)=>A0 (R==2) (i6 72 [.p h,.int .u8 114] kB (fun S=>x h t j (!S))) (x h t j false)))))) (fun y=>A0 (f==5) (i6 72 [.p e,.int .u8 102] kB (fun U=>y e o (gp g) f U)) (y e o (gp g) f false))))))
theorem c83(v1:m9)(v2:d9):g83 v1 v2 K Y->i7 83 [.p v1,.s v2] K Y:=q9 dn8 Tryz.func83


def do0:Ann:=(.q (.n (.reg (rn 14) (mkR [0,1,3,7,0,16,48,112,240,496,1023,2047,0,8191])) (.n (.reg (rn 15) (mkR [0,0,2,6,14,0,32,96,224,480,992,2046,4095,8191,16383])) (.q (.n (.o (dlN 0x16502a02201a002) .h) .r)))))
def g84(a:m9)(k:u9)(K:KH):C2 :=
 J5 k (H0 (.c [k] 46) (fun f=>dQ4 a 9 kL (fun g=>dQ4 a 9 kL (fun l=>dR2 g.base g.len (IntKind.i64.wrap ((l.len:Int)-1)) kS (fun m=>H0 (.c [.s gq] 9) (fun b=>A3 9 (.q b) (.s m) (dQ4 a 9 kL (fun c=>dQ4 a 9 kL (fun e=>E3 (E1 (some (IntKind.i64.wrap ((e.len:Int)-1))) c.cap/\E1 none ((IntKind.i64.wrap ((e.len:Int)-1)).toNat)) (i9 a (fun n o=>A3 30 (.p (some ⟨n,o+9,none⟩)) (.slice (N6 c.base 0 c.cap 1) (((IntKind.i64.wrap ((e.len:Int)-1)).toNat)-0) (c.cap-0)) (l8 (m8 b 0) kS (fun p=>i6 89 [.p a,.s p] kB (fun q=>H0 (.c [.bool false] 4) (fun d=>A3 4 (.q d) (.bool q) (C0 (T:=m9->m9->m9->m9->Bool->C2) (fun h r i s t=>A0 t (dQ6 i kS (fun u=>i6 134 [.p h,.s u,.i 8] kB (fun x=>K (.t [])))) (i6 70 [.p h,.func (.func 140) ⟨[]⟩ ⟨[.p s,.p r,.p i]⟩] kU (K (.t [])))) (fun j=>l8 (m8 d 0) kB (fun v=>A0 (!v) (dQ4 a 9 kL (fun w=>j a (gp f) (gp b) (gp d) (decide ((w.len:Int)>1)))) (j a (gp f) (gp b) (gp d) false)))))))))))))))))))
theorem c84(v1:m9)(v2:u9):g84 v1 v2 K Y->i7 84 [.p v1,v2] K Y:=q9 do0 Tryz.func84


def do1:Ann:=(.q (.n (.reg (rn 13) (mkR [0,1,3,7,0,16,48,112,240,0,0,2047,4095])) .z))
def g85(g:d9)(h:d9)(a:m9)(K:KH):C2 :=
 dQ6 a kP (fun b=>dQ4 b 4 kP (fun c=>dQ6 a kP (fun d=>dQ4 d 3 kS (fun e=>i6 86 [.p c,.s e,.s g,.s h] kI (fun f=>K (.i f))))))
theorem c85(v1:d9)(v2:d9)(x3:m9):g85 v1 v2 x3 K Y->i7 85 [.s v1,.s v2,.p x3] K Y:=q9 do1 Tryz.func85


def do3:Ann:=(.k 2 (.n (.blk (.q (.cond (.q .z) (.o (dlN 0xdd05204a002) (.cond (.q .z) (.q (.cond (.q .z) (.o (dlN 0x14505204a002) .h)))))))) (.n (.k 2 .h) (.seq (some (dlN 0x5204a002)) (.q (.cond (.n (.reg (rn 10) (mkR [0,1,3,7,0,16,0,64,255,511])) (.q .h)) .z)) (.n (.reg (rn 14) (mkR [0,1,3,7,0,16,0,64,0,256,0,1024,4095,8191])) .z)))))
def g86(h:m9)(af:d9)(ag:d9)(ah:d9)(K:KH):C2 :=
 i6 138 [.p h,.s af,.s ag,.s ah] dS4 (fun s t u v w x y z (j:Int)=>H0 (.c [.i 0,.s gq,.i 0,.bool false] 89) (fun b=>H0 (.c [.i 0,.s gq,.i 0,.bool false] 89) (fun c=>A3 89 (.q b) (.g [.i s,.s t,.i u,.bool v]) (A3 89 (.q c) (.g [.i w,.s x,.i y,.bool z]) (A0 (j != 0) (K (.i j)) (C0 (T:=dU3) (fun k d e A=>A0 A (K (.i 2)) (dQ4 d 3 kB (fun B=>A0 (!B) (K (.i 5)) (C0 (T:=dU3) (fun f g a C=>A0 C (K (.i 0)) (dR0 g 4 dR6 (fun D E F G=>dR0 a 4 dR6 (fun H I J L=>i6 142 [.p f,.g [.i D,.s E,.i F,.bool G],.g [.i H,.s I,.i J,.bool L]] kI (fun (l:Int)=>A0 (l != 0) (K (.i l)) (C0 (T:=dW6) (fun M m n=>dQ6 M kP (fun N=>dQ6 m kI (fun O=>dQ4 m 1 kS (fun P=>dQ6 n kI (fun Q=>dQ4 n 1 kS (fun R=>i6 143 [.p N,.i O,.s P,.i Q,.s R] kI (fun S=>K (.i S)))))))) (fun o=>dQ4 a 3 kB (fun U=>A0 U (dQ6 f kP (fun W=>dQ6 a kI (fun X=>dQ4 a 1 kS (fun Z=>i6 136 [.p W,.i X,.s Z] kI (fun (p:Int)=>A0 (p != 0) (K (.i p)) (o f g a)))))) (o f g a))))))))) (fun q=>dQ4 e 3 kB (fun aa=>A0 aa (dQ4 d 2 kI (fun (ab:Int)=>dQ4 e 2 kI (fun (ac:Int)=>q k d e (ab==ac)))) (q k d e false))))))) (fun r=>l8 (m8 b 1) kS (fun ad=>A0 (C3 ad (gq:d9)) (r h (gp b) (gp c) true) (l8 (m8 c 1) kS (fun ae=>r h (gp b) (gp c) (C3 ae (gq:d9))))))))))))
theorem c86(v1:m9)(v2:d9)(v3:d9)(v4:d9):g86 v1 v2 v3 v4 K Y->i7 86 [.p v1,.s v2,.s v3,.s v4] K Y:=q9 do3 Tryz.func86


def do4:Ann:=(.k 2 (.n (.blk (.q (.cond (.q .z) (.q (.cond (.n (.reg (rn 14) (mkR [0,1,3,7,0,16,48,112,240,0,512,0,4095,8191])) .z) (.q (.cond (.q .z) (.q (.cond (.q .z) (.q .h)))))))))) (.n (.k 2 .h) (.n (.reg (rn 16) (mkR [0,1,3,7,0,16,48,112,240,0,1023,2047,4095,4095,8191,32767])) (.n (.q (.blk (.loop (dlN 0x2a92a129c01300b002) (.q (.n (.cond .z .z) (.seq (some (dlN 0x2a92a129c01300b002)) (.blk (.k 2 (.cond .r .z))) .r)))))) (.q .z))))))
def g87(a:m9)(g:d9)(h:d9)(K:KH):C2 :=
 i6 72 [.p a,.int .u8 114] kB (fun t=>i6 76 [.p a,.s g,.bool (!t)] dR4 (fun u v w x (n:Int)=>H0 (.c [.i 0,.i 0,.s gq,.i 0] 80) (fun d=>A3 80 (.q d) (.g [.i u,.i v,.s w,.i x]) (A0 (n != 0) (K (.i n)) (l8 (m8 d 0) kI (fun (y:Int)=>A0 (y==3) (dQ4 a 4 kP (fun z=>dQ4 a 3 kS (fun A=>l8 (m8 d 2) kS (fun B=>i6 20 [.p z,.s A,.s B,.s h] kI (fun C=>K (.i C)))))) (l8 (m8 d 0) kI (fun (D:Int)=>A0 (D==1) (l8 (m8 d 1) kI (fun E=>i6 144 [.p a,.s g,.s h,.i E] kI (fun F=>K (.i F)))) (i6 72 [.p a,.int .u8 114] kB (fun G=>A0 (!G) (K (.i 7)) (i6 145 [.p a,.s g,.s h] kB (fun H=>A0 H (K (.i 2)) (i6 74 [.p a,.s h] kI (fun (o:Int)=>A0 (o != 0) (K (.i o)) (dQ4 a 4 kP (fun I=>dQ4 a 3 kS (fun J=>i6 49 [.p I,.s J,.s g] dS6 (fun q X=>C9 [.p,.s,.s,.l,.i,.i] (fun L=>(fun e b f j (m:Int) (k:Int)=>A0 (decide (k<m)) (C0 (T:=m9->d9->d9->Sl->Int->Int->C2) (fun M N O P Q R=>L M N O P Q (IntKind.i64.wrap (R+1))) (fun r=>dR2 j.base j.len k kS (fun c=>dQ4 e 10 kB (fun S=>A0 (!S) (E3 (b.size+((bs [47]):d9).size<=9223372036854775807) (E3 ((b++(bs [47])).size+c.size<=9223372036854775807) (E3 (b.size+((bs [47]):d9).size<=9223372036854775807) (E3 ((b++(bs [47])).size+c.size<=9223372036854775807) (E3 (f.size+((bs [47]):d9).size<=9223372036854775807) (E3 ((f++(bs [47])).size+c.size<=9223372036854775807) (i6 87 [.p e,.s ((b++(bs [47]))++c),.s ((f++(bs [47]))++c)] kI (fun U=>i6 134 [.p e,.s ((b++(bs [47]))++c),.i U] kB (fun Z=>r e b f j m k))))))))) (r e b f j m k))))) (K (.i 0)))) (fun W=>W a g h q (q.len:Int) 0)))))))))))))))))))
theorem c87(v1:m9)(v2:d9)(v3:d9):g87 v1 v2 v3 K Y->i7 87 [.p v1,.s v2,.s v3] K Y:=q9 do4 Tryz.func87


def do5:Ann:=(.q (.n (.q (.cond (.k 2 .z) .z)) (.q (.seq (some (dlN 0x3901a003)) (.q (.cond .r .z)) (.seq (some (dlN 0x39)) (.q (.cond .r .z)) (.q .z))))))
def g88(a:d9)(g:m9)(o:m9)(B:m9)(K:KH):C2 :=
 dQ6 g kP (fun m=>i6 89 [.p m,.s a] kB (fun n=>A0 n (dQ6 o kL (fun b=>H0 (.c [.s a] 9) (fun p=>ac9 .append #[30,30] 30 [false,false] [.slice b.base b.len b.cap,.slice (gp p) 1 1] kL (fun c=>A3 30 (.p o) (.slice c.base c.len c.cap) (K (.i 0)))))) (dQ6 g kP (fun q=>i6 76 [.p q,.s a,.bool true] dR4 (fun r s t u (h:Int)=>H0 (.c [.i 0,.i 0,.s gq,.i 0] 80) (fun v=>A3 80 (.q v) (.g [.i r,.i s,.s t,.i u]) (C0 (T:=d9->m9->Int->C2) (fun w j d=>C0 (T:=Int->C2) (fun x=>K (.i x)) (fun k=>A0 ((d:Int)==0) (dQ6 j kL (fun e=>H0 (.c [.s w] 9) (fun y=>ac9 .append #[30,30] 30 [false,false] [.slice e.base e.len e.cap,.slice (gp y) 1 1] kL (fun f=>A3 30 (.p j) (.slice f.base f.len f.cap) (k d))))) (k d))) (fun l=>A0 (h != 0) (dQ6 g kP (fun z=>i6 76 [.p z,.s a,.bool false] dR4 (fun C D E F A=>l a B A))) (l a B h)))))))))
theorem c88(v1:d9)(x2:m9)(x3:m9)(x4:m9):g88 v1 x2 x3 x4 K Y->i7 88 [.s v1,.p x2,.p x3,.p x4] K Y:=q9 do5 Tryz.func88


def do6:Ann:=(.k 3 .z)
def g89(h:m9)(j:d9)(K:KH):C2 :=
 i6 76 [.p h,.s j,.bool true] dR4 (fun b c d e (f:Int)=>H0 (.c [.i 0,.i 0,.s gq,.i 0] 80) (fun a=>A3 80 (.q a) (.g [.i b,.i c,.s d,.i e]) (A0 (f==0) (l8 (m8 a 0) kI (fun (g:Int)=>K (.bool (g==2)))) (K (.bool false)))))
theorem c89(v1:m9)(v2:d9):g89 v1 v2 K Y->i7 89 [.p v1,.s v2] K Y:=q9 do6 Tryz.func89


def do7:Ann:=(.seq (some (dlN 0xb002)) (.q (.cond .r .z)) (.n (.reg (rn 16) (mkR [0,1,3,7,0,16,48,112,240,0,1023,2047,4095,4095,8191,32767])) (.q (.blk (.loop (dlN 0x131129124002) (.q (.n (.cond .z .z) (.seq (some (dlN 0x131129124002)) (.blk (.q (.o (dlN 0x18513112912404b002) (.cond .r .z)))) .r))))))))
def g91(k:m9)(d:d9)(N:Bool)(K:KH):C2 :=
 C0 (T:=m9->d9->C2) (fun e w=>dQ4 e 4 kP (fun x=>dQ4 e 3 kS (fun y=>i6 49 [.p x,.s y,.s w] dS6 (fun m M=>C9 [.p,.l,.i,.i] (fun z=>(fun f a (g:Int) (b:Int)=>A0 (decide (b<g)) (C0 (T:=m9->Sl->Int->Int->C2) (fun A B C D=>z A B C (IntKind.i64.wrap (D+1))) (fun n=>dR2 a.base a.len b kS (fun h=>C0 (T:=m9->d9->Sl->Int->Int->Bool->C2) (fun c j o q r E=>A0 E (dQ4 c 5 kS (fun s=>E3 (j.size+((bs [10]):d9).size<=9223372036854775807) (E3 (s.size+(j++(bs [10])).size<=9223372036854775807) (i9 c (fun F G=>A3 9 (.p (some ⟨F,G+5,none⟩)) (.s (s++(j++(bs [10])))) (n c o q r)))))) (n c o q r)) (fun t=>I2 h 0 (fun c40=>A0 ((c40.toNat:Int) != 46) (t f h a g b true) (i6 72 [.p f,.int .u8 97] kB (fun H=>t f h a g b H))))))) (K (.t [])))) (fun I=>I e m (m.len:Int) 0))))) (fun u=>A0 N (dQ4 k 5 kS (fun v=>E3 (d.size+((bs [58,10]):d9).size<=9223372036854775807) (E3 (v.size+(d++(bs [58,10])).size<=9223372036854775807) (i9 k (fun J L=>A3 9 (.p (some ⟨J,L+5,none⟩)) (.s (v++(d++(bs [58,10])))) (u k d)))))) (u k d))
theorem c91(v1:m9)(v2:d9)(v3:Bool):g91 v1 v2 v3 K Y->i7 91 [.p v1,.s v2,.bool v3] K Y:=q9 do7 Tryz.func91


def do8:Ann:=(.k 2 .z)
def g93(b:Int)(K:KH):C2 :=
 i6 155 [.i b] kS (fun a=>K (.s a))
theorem c93(v1:Int):g93 v1 K Y->i7 93 [.i v1] K Y:=q9 do8 Tryz.func93


def do9:Ann:=(.k 2 (.n (.blk (.q (.cond (.q .z) (.q (.cond (.q .z) (.q (.cond (.q .z) (.n (.reg (rn 14) (mkR [0,1,3,7,0,16,63,127,255,511,1023,2047,4095,8191])) .h)))))))) (.k 3 .z)))
def g94(b:m9)(q:d9)(r:d9)(K:KH):C2 :=
 i6 57 [.p b,.s q,.s r,.bool false] dR7 (fun e f g (c:Int)=>H0 (.c [.i 0,.s gq,.i 0] 95) (fun a=>A3 95 (.q a) (.g [.i e,.s f,.i g]) (A0 (c != 0) (K (.i c)) (l8 (m8 a 2) kI (fun (h:Int)=>A0 (decide (h<0)) (K (.i 5)) (l8 (m8 a 1) kS (fun j=>A0 (C3 j (gq:d9)) (K (.i 2)) (dQ4 b 2 kL (fun d=>l8 (m8 a 2) kI (fun (k:Int)=>dR2 d.base d.len k kP (fun l=>dQ4 l 3 kL (fun m=>A0 (decide ((m.len:Int)>0)) (K (.i 20)) (l8 (m8 a 0) kI (fun n=>l8 (m8 a 1) kS (fun o=>i6 100 [.p b,.i n,.s o] kU (l8 (m8 a 2) kI (fun p=>i6 101 [.p b,.i p] kU (K (.i 0)))))))))))))))))))
theorem c94(v1:m9)(v2:d9)(v3:d9):g94 v1 v2 v3 K Y->i7 94 [.p v1,.s v2,.s v3] K Y:=q9 do9 Tryz.func94


def dp0:Ann:=(.k 2 (.n (.q .h) (.q (.n (.q .h) (.n (.blk (.q (.cond (.q .z) (.n (.reg (rn 13) (mkR [0,1,3,7,0,16,63,127,255,511,1023,2047,4095])) (.cond (.q .z) (.n (.reg (rn 13) (mkR [0,1,3,7,0,16,63,127,255,511,1023,2047,4095])) (.cond (.q .z) (.q .h)))))))) (.k 2 .z))))))
def g95(b:m9)(h:d9)(A:d9)(B:d9)(K:KH):C2 :=
 i6 57 [.p b,.s h,.s A,.bool false] dR7 (fun j k l (d:Int)=>H0 (.c [.i 0,.s gq,.i 0] 95) (fun a=>A3 95 (.q a) (.g [.i j,.s k,.i l]) (A0 (d != 0) (K (.i d)) (i6 57 [.p b,.s h,.s B,.bool false] dR7 (fun m n o (e:Int)=>H0 (.c [.i 0,.s gq,.i 0] 95) (fun c=>A3 95 (.q c) (.g [.i m,.s n,.i o]) (A0 (e != 0) (K (.i e)) (l8 (m8 a 2) kI (fun (p:Int)=>A0 (decide (p<0)) (K (.i 5)) (dQ4 b 2 kL (fun f=>l8 (m8 a 2) kI (fun (q:Int)=>dR2 f.base f.len q kP (fun r=>dQ6 r kI (fun (s:Int)=>A0 (s==2) (K (.i 7)) (dQ4 b 2 kL (fun g=>l8 (m8 a 2) kI (fun (t:Int)=>dR2 g.base g.len t kP (fun u=>dQ6 u kI (fun (v:Int)=>A0 (v==3) (K (.i 2)) (l8 (m8 c 2) kI (fun (w:Int)=>A0 (decide (w>=0)) (K (.i 6)) (l8 (m8 c 0) kI (fun x=>l8 (m8 c 1) kS (fun y=>l8 (m8 a 2) kI (fun z=>i6 102 [.p b,.i x,.s y,.i z] kU (K (.i 0)))))))))))))))))))))))))))
theorem c95(v1:m9)(v2:d9)(v3:d9)(v4:d9):g95 v1 v2 v3 v4 K Y->i7 95 [.p v1,.s v2,.s v3,.s v4] K Y:=q9 dp0 Tryz.func95


def dp1:Ann:=(.q (.n (.reg (rn 18) (mkR [0,1,3,7,0,16,48,112,240,0,0,2047,4095,8191,8191,0,49151,131071])) (.q .z)))
def g96(b:m9)(l:d9)(m:Bool)(K:KH):C2 :=
 dQ6 b kP (fun c=>dQ4 b 4 kS (fun d=>i6 48 [.p c,.s d,.s l,.bool m] dR4 (fun e f g h (j:Int)=>H0 (.c [.i 0,.i 0,.s gq,.i 0] 80) (fun a=>A3 80 (.q a) (.g [.i e,.i f,.s g,.i h]) (A0 (j==0) (l8 (m8 a 0) kI (fun (k:Int)=>K (.bool (k==2)))) (K (.bool false)))))))
theorem c96(v1:m9)(v2:d9)(v3:Bool):g96 v1 v2 v3 K Y->i7 96 [.p v1,.s v2,.bool v3] K Y:=q9 dp1 Tryz.func96


def dp2:Ann:=(.k 2 (.n (.q (.blk (.loop (dlN 0x19003) (.n (.q (.cond .z .z)) (.n (.blk (.q .h)) .r))))) (.q .z)))
def g97(f:d9)(K:KH):C2 :=
 i6 156 [.s f] kS (fun c=>C9 [.s,.i] (fun d=>(fun a (b:Int)=>A0 (decide (b>=0)) (I2 a b (fun c6=>A0 ((c6.toNat:Int)==47) (E3 (E1 none a.size/\E1 (some (IntKind.i64.wrap (b+1))) (a.size)) (K (.s (a.extract ((IntKind.i64.wrap (b+1)).toNat) a.size)))) (d a (IntKind.i64.wrap (b-1))))) (K (.s a)))) (fun e=>e c (IntKind.i64.wrap ((c.size:Int)-1))))
theorem c97(v1:d9):g97 v1 K Y->i7 97 [.s v1] K Y:=q9 dp2 Tryz.func97


def dp3:Ann:=(.q (.n (.blk (.loop (dlN 0x11009002) (.n (.o (dlN 0x6d06605e011009002) (.cond .z .z)) (.blk .r)))) (.q .z)))
def g98(r:m9)(s:Int)(t:Int)(K:KH):C2 :=
 C9 [.p,.i,.i] (fun j=>(fun c (a:Int) (b:Int)=>C0 (T:=m9->Int->Int->u9->u9->Bool->C2) (fun d e f o q k=>A0 k (dQ4 d 2 kL (fun g=>dR2 g.base g.len e kP (fun l=>dQ4 l 4 kI (fun m=>j d m f)))) (K (.bool ((e:Int)==f)))) (fun h=>A0 (a != b) (h c a b (.i a) (.bool (a != 0)) (a != 0)) (h c a b (.t []) (.t []) false)))) (fun n=>n r s t)
theorem c98(v1:m9)(v2:Int)(v3:Int):g98 v1 v2 v3 K Y->i7 98 [.p v1,.i v2,.i v3] K Y:=q9 dp3 Tryz.func98


def dp4:Ann:=(.q (.n (.q .h) (.q (.n (.q (.blk (.loop (dlN 0x31029009002) (.n (.q (.cond .z .z)) (.n (.blk .r) .r))))) (.q .z)))))
def g99(k:m9)(l:Int)(K:KH):C2 :=
 dQ4 k 2 kL (fun e=>dR2 e.base e.len l kP (fun m=>dQ6 m kI (fun (n:Int)=>A0 (n != 2) (K (.i 0)) (C9 [.p,.i,.i,.i] (fun o=>(fun b (c:Int) (d:Int) (a:Int)=>dQ4 b 2 kL (fun f=>dR2 f.base f.len c kP (fun q=>dQ4 q 3 kL (fun r=>A0 (decide (a<(r.len:Int))) (dQ4 b 2 kL (fun g=>dR2 g.base g.len c kP (fun s=>dQ4 s 3 kL (fun h=>i9 h.base (fun t u=>E3 (0<=a/\a<(h.len:Int)) (l8 (m8 t (u+a.toNat*2+1)) kI (fun v=>i6 99 [.p b,.i v] kI (fun (j:Int)=>o b c (if j>d then j else d) (IntKind.i64.wrap (a+1)))))))))) (K (.i (IntKind.i64.wrap (1+d))))))))) (fun w=>w k l 0 0)))))
theorem c99(v1:m9)(v2:Int):g99 v1 v2 K Y->i7 99 [.p v1,.i v2] K Y:=q9 dp4 Tryz.func99
end
end Go.Proofs.YtikedigonnlbkaaGreatDoor

