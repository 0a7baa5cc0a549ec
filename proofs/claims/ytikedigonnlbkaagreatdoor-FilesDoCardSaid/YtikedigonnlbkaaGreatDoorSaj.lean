/- A part of a proof. -/
import Derived.Test.YtikedigonnlbkaaGreatDoorSai
namespace Go.HL
open Go

def bc7(r:Nat):Deferred:={target:=.collected r,args := #[]}
def aq7(B:Nat)(Y:H)(w:World)(ds:List Deferred):Prop :=
 ∃ms:List Nat,ms.Nodup/\ds=ms.map bc7/\∀r∈ms,B<=r/\Y r=none/\w.heap[r]?=some (.deferred (some []))
theorem aq7.nil(B:Nat)(Y:H)(w:World):aq7 B Y w []:=⟨[],.nil,rfl,fun _ h=>by simp at h⟩
theorem aq7.ext{B:Nat}{Y Y':H}{w w':World}{ds:List Deferred}(h:aq7 B Y w ds)(he:X7 Y w Y' w'):aq7 B Y' w' ds:=by
 obtain⟨ms,h1,h2,h3⟩:=h;refine⟨ms,h1,h2,fun r hr=>?_⟩;obtain⟨hb,hn,hw⟩:=h3 r hr;have iw:r<w.heap.size:=by
  rcases U8 r w.heap.size with h|h
  ·exact h
  ·rw[Array.getElem?_eq_none h]at hw;cases hw
 refine⟨hb,?_,by rw[he.keep r iw hn];exact hw⟩;cases hc:Y' r with
 |none=>rfl
 |some o=>have:=he.own r o hc hn;omega

def bj8(N B:Nat)(Y0:H)(w0:World)(Kn:Env->H->Prop)(Kx:Nat->Env->H->Prop)(Kr:Env->H->Prop):Exit->Act->World->Prop
 |.normal,a,w=>∃e Y,FR N e a/\X7 Y0 w0 Y w/\aq7 B Y w a.defers/\Kn e Y
 |.exit i,a,w=>∃e Y,FR N e a/\X7 Y0 w0 Y w/\aq7 B Y w a.defers/\Kx i e Y
 |.ret,a,w=>∃e Y,FR N e a/\X7 Y0 w0 Y w/\aq7 B Y w a.defers/\Kr e Y
 |_,_,_=>False
theorem bj8.pre{N B:Nat}{Y0 Y1:H}{w0 w1:World}{Kn:Env->H->Prop}{Kx:Nat->Env->H->Prop}{Kr:Env->H->Prop}(he:X7 Y0 w0 Y1 w1){x:Exit}{a:Act}{w:World}(h:bj8 N B Y1 w1 Kn Kx Kr x a w):bj8 N B Y0 w0 Kn Kx Kr x a w:=by
 cases x with
 |normal=>obtain⟨e,Y,h1,h2,h3⟩:=h;exact⟨e,Y,h1,he.trans h2,h3⟩
 |exit i=>obtain⟨e,Y,h1,h2,h3⟩:=h;exact⟨e,Y,h1,he.trans h2,h3⟩
 |ret=>obtain⟨e,Y,h1,h2,h3⟩:=h;exact⟨e,Y,h1,he.trans h2,h3⟩
 |goto l=>exact h.elim
 |panic c=>exact h.elim
 |outgrown=>exact h.elim

theorem ck5{R:Type}{le:R->R->Prop}:∀ (l:List SK) {f g:List u9->R},(∀vs,le (f vs) (g vs))->leL l le (bt0 l f) (bt0 l g):=by
 intro l
 induction l with
 |nil=>intro f g h;exact h []
 |cons s l ih=>intro f g h x;exact ih fun vs=>h _
theorem CK.le_lam(c:CK){R:Type}{le:R->R->Prop}{f g:u9->R}(h:∀v,le (f v) (g v)):c.le le (c.lam f) (c.lam g):=by
 cases c with
 |sc s=>intro x;exact h _
 |agg l=>exact ck5 l fun vs=>h _
theorem ck6:∀ (l:List CK) {f g:List u9->H->Prop},(∀vs Y,f vs Y->g vs Y)->leC l (aQ0 l f) (aQ0 l g):=by
 intro l
 induction l with
 |nil=>intro f g h;exact h []
 |cons c l ih=>intro f g h;exact CK.le_lam c fun v=>ih fun vs=>h _

section
variable {P:Program} {V:TypeId->TK} {N:Nat}

def bc8(F:Fence)(n:Nat)(P:Program)(c:Code)(Q:Exit->Act->World->Prop)(a:Act)(w:World):Prop :=
 ∀ (b:Frame) (k:List Item) (cs:List Frame),b.roundOf=F.round->F.fn b.fn->F.room (cs.length+1+n) ->
  ∃e a' w',Q e a' w'/\ArrivesIn (Machine.fenced P F) P (lone (b.atR a (.code c :: .inLoop c::k)) cs w) b k cs e a' w'
theorem bc9{F:Fence}{n:Nat}{c:Code}{Q:Exit->Act->World->Prop}{a:Act}{w:World}(h:c.wpIn F n P (Exit.then (bc8 F n P c Q) Q) a w):bc8 F n P c Q a w:=by
 intro b k cs ul hb hr;obtain⟨e,a₁,w₁,hq,kr⟩:=h b (.inLoop c::k) cs ul hb hr;cases e with
 |normal =>
  obtain⟨e₂,a₂,w₂,hq₂,yf⟩:=hq b k cs ul hb hr;exact⟨e₂,a₂,w₂,hq₂,.of_steps (StepsIn.trans kr (.one (fenced_calm hb hr rfl) stepR_inLoop)) yf⟩
 |exit id=>exact⟨_,a₁,w₁,hq,.pass (x:=.inLoop c) rfl (fun _ _=>.inl (by simp)) kr⟩
 |goto l=>exact⟨_,a₁,w₁,hq,.pass (x:=.inLoop c) rfl (fun _ _=>.inl (by simp)) kr⟩
 |ret=>exact⟨_,a₁,w₁,hq,.pass (x:=.inLoop c) rfl (fun _ _=>.inl (by simp)) kr⟩
 |panic ch=>exact⟨_,a₁,w₁,hq,.pass (x:=.inLoop c) rfl (fun _ _=>.inl (by simp)) kr⟩
 |outgrown=>exact⟨_,a₁,w₁,hq,.pass (x:=.inLoop c) rfl (fun _ _=>.inl (by simp)) kr⟩
theorem bj9{F:Fence}{n:Nat}{c:Code}{Q:Exit->Act->World->Prop}{a:Act}{w:World}(h:bc8 F n P c Q a w):(Code.loop c).wpIn F n P Q a w:=by
 intro b k cs ul hb hr;obtain⟨e,a',w',hq,kr⟩:=h b k cs ul hb hr;exact⟨e,a',w',hq,.of_steps (.one (fenced_calm hb hr rfl) stepR_loop) kr⟩

theorem X7.allocOut{Y:H}{w:World}(h:Y.le w)(o:Obj):X7 Y w Y (w.alloc o):=by
 obtain⟨hn,he⟩:=X7.alloc h o;refine⟨fun b o' hb=>he.le b o' ?_,he.size,he.keep,(fun b o' hb xx=>by rw[xx]at hb;cases hb),he.os,he.tape,he.output⟩;rw[H.put_other]
 ·exact hb
 ·intro e;subst e;rw[hn]at hb;cases hb

theorem ck7:∀ (ts:List Nat) (vs:List u9) {e:Env} {a:Act},FR N e a->bE8 N ts=true->ts.length=vs.length ->
 FR N (e.puts ts vs) {a with tmps:=(ts.zip vs).foldl (fun tmps (x:Nat×u9)=>tmps.setIfInBounds x.1 x.2) a.tmps}:=by
 intro ts
 induction ts with
 |nil =>
  intro vs e a fr _ h;cases vs with
  |nil=>exact fr
  |cons v vs=>simp at h
 |cons t ts ih =>
  intro vs e a fr hl h;cases vs with
  |nil=>simp at h
  |cons v vs =>
   simp only[bE8,J4]at hl;exact ih vs (fr.put (d:=some t) hl.1 v) hl.2 (by simpa using h)
theorem bV7:∀ (l:List CK) {R:Type} (F:FnC l R) (vs:List u9) (r:R),ar7 l F vs=some r->l.length=vs.length:=by
 intro l
 induction l with
 |nil =>
  intro R F vs r h;cases vs with
  |nil=>rfl
  |cons v vs=>simp[ar7]at h
 |cons c l ih =>
  intro R F vs r h;cases vs with
  |nil=>simp[ar7]at h
  |cons v vs =>
   simp only[ar7]at h;split at h
   ·simp[ih _ _ _ h]
   ·cases h
theorem bv0:∀ (a:List Nat) (b:List CK),aE5 a b=true->a.length=b.length:=by
 intro a
 induction a with
 |nil=>intro b h;cases b with|nil=>rfl|cons x b=>simp[aE5]at h
 |cons x a ih=>intro b h;cases b with|nil=>simp[aE5]at h|cons y b=>simp[ih b h]

theorem al7{l:Nat}{r:Loop}{w:World}(h:w.heap[l]?=some (.loop r)):(Instr.getLoop l).run P w=.ok r w:=by
 simp[Instr.getLoop,getObj,Sem.run,h]
theorem aw8{l:Nat}{r:Loop}{o:Obj}{w:World}(h:w.heap[l]?=some (.loop r)):(setObj l o).run P w=.ok () {w with heap:=w.heap.setIfInBounds l o}:=by
 simp[setObj,Sem.run,h]

theorem ah0{b:Frame}{a:Act}{k:List Item}{cs:List Frame}{w:World}{c:Code}:step P (lone (b.atR a (.code (.scope c)::k)) cs w)=.next (lone (b.atR a (.code c :: .inScope c::k)) cs w) :=
 step_lone_go (by simp[stepG,stepG.exec,Frame.atR])
theorem aV6{b:Frame}{a:Act}{k:List Item}{cs:List Frame}{w:World}{c:Code}:step P (lone (b.atR a (.inScope c::k)) cs w)=.next (lone (b.atR a k) cs w) :=
 step_lone_go (by simp[stepG,stepG.exec,Frame.atR])
theorem bv1{F:Fence}{n:Nat}{a:Act}{w:World}{Q:Exit->Act->World->Prop}{c:Code}(hq:∀l a w,¬Q (.goto l) a w)(h:c.wpIn F n P Q a w):(Code.scope c).wpIn F n P Q a w:=by
 intro b k cs ul hb hr;have h0:(lone (b.atR a (.code (.scope c)::k)) cs w).fenced P F:=fenced_calm hb hr rfl;obtain⟨e,a₁,w₁,Cx,kr⟩:=h b (.inScope c::k) cs ul hb hr;cases e with
 |normal=>exact⟨.normal,a₁,w₁,Cx,.head h0 ah0 (StepsIn.trans kr (.one (fenced_calm hb hr rfl) aV6))⟩
 |exit id' =>
  have hx:exitTo id' (.inScope c::k)=exitTo id' k:=by simp[exitTo]
  exact⟨.exit id',a₁,w₁,Cx,fun k' hk=>.head h0 ah0 (kr.1 k' (by rw[hx];exact hk)),
   fun sd hk=>let ⟨k₁,h1,h2⟩:=kr.2 sd (by rw[hx];exact hk);⟨k₁,h1,.head h0 ah0 h2⟩⟩
 |goto l=>exact(hq l a₁ w₁ Cx).elim
 |ret=>exact⟨_,a₁,w₁,Cx,.of_steps (.one h0 ah0) kr⟩
 |panic ch=>exact⟨_,a₁,w₁,Cx,.of_steps (.one h0 ah0) kr⟩
 |outgrown=>exact⟨_,a₁,w₁,Cx,.of_steps (.one h0 ah0) kr⟩
theorem ck8(hm:P.follows .mixedOrders=true):∀ (c:Code) (an:Ann) (ro:Option Nat) {e:Env} {Kn:Env->H->Prop} {Kx:Nat->Env->H->Prop} {Kr:Env->H->Prop} {Y:H},D P V N c an ro e Kn Kx Kr Y ->
 ∀ (n B:Nat) (a:Act) (w:World),FR N e a->Y.le w->aq7 B Y w a.defers->B<=w.heap.size->c.wpIn (FW ro) n P (bj8 N B Y w Kn Kx Kr) a w:=by
 intro c
 induction c with
 |skip=>intro an ro e Kn Kx Kr Y h n B a w fr hw hd hB;exact wpIn_skip ⟨e,Y,fr,X7.refl hw,hd,h⟩
 |label l=>intro an ro e Kn Kx Kr Y h n B a w fr hw hd hB;exact wpIn_label ⟨e,Y,fr,X7.refl hw,hd,h⟩
 |exit i=>intro an ro e Kn Kx Kr Y h n B a w fr hw hd hB;exact wpIn_exit ⟨e,Y,fr,X7.refl hw,hd,h⟩
 |ret=>intro an ro e Kn Kx Kr Y h n B a w fr hw hd hB;exact wpIn_ret ⟨e,Y,fr,X7.refl hw,hd,h⟩
 |goto l=>intro an ro e Kn Kx Kr Y h;exact h.elim
 |refuse s=>intro an ro e Kn Kx Kr Y h;exact h.elim
 |scope b ih =>
  intro an ro e Kn Kx Kr Y h n B a w fr hw hd hB;cases an with
  |blk an=>exact bv1 (fun l a w h=>h) (ih an ro h n B a w fr hw hd hB)
  |_=>exact h.elim
 |seq x y ihx ihy =>
  intro an ro e Kn Kx Kr Y h n B a w fr hw hd hB;simp only[D]at h;split at h
  ·rename_i ax ay;refine wpIn_seq (wpIn_mono (ihx _ _ h n B a w fr hw hd hB) fun ex a' w' hp=>?_);cases ex with
   |normal =>
    obtain⟨e',Y',fr',he,ku,h'⟩:=hp;exact wpIn_mono (ihy _ _ h' n B a' w' fr' he.le ku (C7 hB he.size)) fun _ _ _=>bj8.pre he
   |exit i=>exact hp
   |ret=>exact hp
   |goto l=>exact hp.elim
   |panic c=>exact hp.elim
   |outgrown=>exact hp.elim
  ·rename_i l ax ay;refine wpIn_seq (wpIn_mono (ihx _ _ h n B a w fr hw hd hB) fun ex a' w' hp=>?_);cases ex with
   |normal =>
    obtain⟨e',Y',fr',he,ku,h'⟩:=hp;obtain⟨vs,hs,h'⟩:=af1.app_lam h';exact wpIn_mono (ihy _ _ h' n B a' w' (fr'.sel hs) he.le ku (C7 hB he.size)) fun _ _ _=>bj8.pre he
   |exit i=>exact hp
   |ret=>exact hp
   |goto l=>exact hp.elim
   |panic c=>exact hp.elim
   |outgrown=>exact hp.elim
  ·exact h.elim
 |cond c x y ihx ihy =>
  intro an ro e Kn Kx Kr Y h n B a w fr hw hd hB;simp only[D]at h;split at h
  ·rename_i ax ay t ht;cases t with
   |true=>exact wpIn_cond_true (fr.evO ht) (ihx _ _ h n B a w fr hw hd hB)
   |false=>exact wpIn_cond_false (fr.evO ht) (ihy _ _ h n B a w fr hw hd hB)
  ·exact h.elim
 |block id x ih =>
  intro an ro e Kn Kx Kr Y h n B a w fr hw hd hB;simp only[D]at h;split at h
  ·refine wpIn_block (wpIn_mono (ih _ _ h n B a w fr hw hd hB) fun ex a' w' hp=>?_);cases ex with
   |normal=>exact hp
   |exit i =>
    obtain⟨e',Y',fr',he,ku,h'⟩:=hp;simp only[Exit.inBlock];split at h'
    ·rename_i hb;rw[d8 (Nat.eq_of_beq_eq_true hb)];exact⟨e',Y',fr',he,ku,h'⟩
    ·rename_i hb;rw[d7 (Nat.ne_of_beq_eq_false hb)];exact⟨e',Y',fr',he,ku,h'⟩
   |ret=>exact hp
   |goto l=>exact hp.elim
   |panic c=>exact hp.elim
   |outgrown=>exact hp.elim
  ·exact h.elim
 |loop x ih =>
  intro an ro e Kn Kx Kr Y h n B a w fr hw hd hB;simp only[D]at h;split at h
  ·rename_i l ax;have h1:=h (aQ0 l.ks fun vs Y'=>∀a w,FR N (l.zip vs) a->Y'.le w->aq7 B Y' w a.defers->B<=w.heap.size->bc8 (FW ro) n P x (bj8 N B Y' w Kn Kx Kr) a w) (ck6 _ fun vs Y' hD a w fr hw hd hB=>?_)
   ·obtain⟨vs,g,hs,hg,h1⟩:=af1.app_get h1;rw[ao5 _ _ _ _ hg]at h1;exact bj9 (h1 a w (fr.sel hs) hw hd hB)
   ·refine bc9 (wpIn_mono (ih _ _ hD n B a w fr hw hd hB) fun ex a' w' hp=>?_);cases ex with
    |normal =>
     obtain⟨e',Y'',fr',he,ku,h'⟩:=hp;obtain⟨vs',g,hs,hg,h'⟩:=af1.app_get h';rw[ao5 _ _ _ _ hg]at h';intro b k cs ul hb hr;obtain⟨e2,a2,w2,hq,kr⟩:=h' a' w' (fr'.sel hs) he.le ku (C7 hB he.size) b k cs ul hb hr;exact⟨e2,a2,w2,bj8.pre he hq,kr⟩
    |exit i=>exact hp
    |ret=>exact hp
    |goto l=>exact hp.elim
    |panic c=>exact hp.elim
    |outgrown=>exact hp.elim
  ·exact h.elim
 |region id ops draw =>
  intro an ro e Kn Kx Kr Y h n B a w fr hw hd hB;simp only[D]at h;split at h
  ·rename_i π AL;split at h
   ·rename_i jb;refine bs8 (fun _ _ _ _ hs ⟨q',e',qf,h⟩=>⟨q',e',qf.mono hs,h⟩) hm jb hw (as6 (p:=[]) _ (fun y hy=>by simp at hy) fr h) fun p' a' Y' w' he ⟨q',e',_,fr',kv,hk⟩=>?_;exact⟨e',Y',fr',he,by rw[kv];exact hd.ext he,hk⟩
   ·exact h.elim
  ·refine wpIn_region (bJ4 _ hw (as6 (p:=[]) _ (fun y hy=>by simp at hy) fr h) fun p' a' Y' w' he ⟨q',e',_,fr',kv,hk⟩=>?_);exact⟨e',Y',fr',he,by rw[kv];exact hd.ext he,hk⟩
  ·rename_i p i m1 j m2 AL;split at h
   ·rename_i jb;have h0:=as6 (p:=[]) _ (fun y hy=>by simp at hy) fr h;have h1:=K1.mono (K':=fun q a1 Y1=>K1 P ops (clI P ops.toList) (S2 AL) q (i::m1) a1 (fun p' a' Y' => ∃q' e',PR P q' p'/\FR N e' a'/\a'.defers=a.defers/\Kn e' Y') Y1/\K1 P ops (clI P ops.toList) (S2 AL) q (j::m2) a1 (fun p' a' Y' => ∃q' e',PR P q' p'/\FR N e' a'/\a'.defers=a.defers/\Kn e' Y') Y1)
     (fun q a1 Y1 ⟨q',e',qf,fr',kv,hb⟩=>⟨by rw[<-kv];exact as6 _ qf fr' hb.1,by rw[<-kv];exact as6 _ qf fr' hb.2⟩) p (Fin.of_le hw) h0
    refine bi7 (fun _ _ _ _ hs ⟨q',e',qf,h⟩=>⟨q',e',qf.mono hs,h⟩) hm jb hw h1 fun p' a' Y' w' he ⟨q',e',_,fr',kv,hk⟩=>?_;exact⟨e',Y',fr',he,by rw[kv];exact hd.ext he,hk⟩
   ·exact h.elim
  ·exact h.elim
 |rangeFunc f ps asg body iha ihb =>
  intro an ro e Kn Kx Kr Y h n B a w fr hw hd hB;simp only[D]at h;split at h
  ·rename_i ks aa ab fv hf;split at h
   ·rename_i po;simp only[J4]at po;obtain⟨Dz,iw⟩:=po;have Dz:=bv0 _ _ Dz;unfold N5 at h;split at h
    case h_2=>exact h.elim
    rename_i g as0 cs;obtain⟨hg,ul,h⟩:=h;refine wpIn_rangeFunc fun fn _=>?_
    -- the record
    have enter:∃ (l dblk:Nat) (mark:List Deferred) (w₁:World),
     (Instr.enterLoop fn a.tmps ps asg body ro).run P w=.ok (l,mark) w₁/\Y l=none /\
     X7 Y w (Y.put l (.loop {state:=.ready,pending:=none,fn,tmps:=a.tmps,params:=ps,assign:=asg,body,defers:=dblk})) w₁/\aq7 B (Y.put l (.loop {state:=.ready,pending:=none,fn,tmps:=a.tmps,params:=ps,assign:=asg,body,defers:=dblk})) w₁ (mark++a.defers):=by
     cases ro with
     |none =>
      refine⟨w.heap.size+1,w.heap.size,[bc7 w.heap.size],(w.alloc (.deferred (some []))).alloc (.loop {state:=.ready,pending:=none,fn,tmps:=a.tmps,params:=ps,assign:=asg,body,defers:=w.heap.size}),?_,?_,?_,?_⟩
      ·simp[Instr.enterLoop,bc7,World.alloc_eq]
      ·cases hc:Y (w.heap.size+1) with
       |none=>rfl
       |some o=>have:=hw.lt hc;omega
      ·have e1:=X7.allocOut hw (.deferred (some []));have e2:=(X7.alloc e1.le (.loop {state:=.ready,pending:=none,fn,tmps:=a.tmps,params:=ps,assign:=asg,body,defers:=w.heap.size})).2;have:(w.alloc (.deferred (some []))).heap.size=w.heap.size+1:=by show(w.heap.push _).size=_;simp
       rw[this]at e2;exact e1.trans e2
      ·obtain⟨ms,h1,h2,h3⟩:=hd;have Ea : ∀r∈ms,r<w.heap.size:=fun r hr=>by
        have:=(h3 r hr).2.2;rcases U8 r w.heap.size with h|h
        ·exact h
        ·rw[Array.getElem?_eq_none h]at this;cases this
       have gx:∀ (o o':Obj) (r:Nat),r<w.heap.size->((w.alloc o).alloc o').heap[r]?=w.heap[r]?:=by
        intro o o' r hr;show((w.heap.push o).push o')[r]?=_;rw[Array.getElem?_push,d7 (by simp only[Array.size_push];omega),Array.getElem?_push,d7 (by omega)]
       refine⟨w.heap.size::ms,List.nodup_cons.2 ⟨fun hr=>bU3 _ (Ea _ hr),h1⟩,by simp[h2],fun r hr=>?_⟩;rcases G9.1 hr with rfl|hr
       ·refine⟨hB,?_,?_⟩
        ·rw[H.put_other _ _ (by omega)];cases hc:Y w.heap.size with
         |none=>rfl
         |some o=>have:=hw.lt hc;omega
        ·show((w.heap.push _).push _)[w.heap.size]?=_;rw[Array.getElem?_push,d7 (by simp)];simp
       ·obtain⟨q1,q2,q3⟩:=h3 r hr;have:=Ea r hr;exact⟨q1,by rw[H.put_other _ _ (by omega)];exact q2,by rw[gx _ _ r this];exact q3⟩
     |some l0 =>
      obtain⟨r0,Eb⟩:=ul l0 rfl;have e1:=X7.alloc hw (.loop {state:=.ready,pending:=none,fn,tmps:=a.tmps,params:=ps,assign:=asg,body,defers:=r0.defers});refine⟨w.heap.size,r0.defers,[],w.alloc (.loop {state:=.ready,pending:=none,fn,tmps:=a.tmps,params:=ps,assign:=asg,body,defers:=r0.defers}),?_,e1.1,e1.2,?_⟩
      ·simp[Instr.enterLoop,al7 (hw _ _ Eb),World.alloc_eq]
      ·exact hd.ext e1.2
    obtain⟨l,dblk,mark,w₁,iv,As,Ec,hdef⟩:=enter
    let obj:LoopState->Option Code->Obj:=fun s j=>.loop {state:=s,pending:=j,fn,tmps:=a.tmps,params:=ps,assign:=asg,body,defers:=dblk}
    have nk:aE6 obj:=⟨{state:=.ready,pending:=none,fn,tmps:=a.tmps,params:=ps,assign:=asg,body,defers:=dblk},fun _ _=>rfl⟩;refine⟨l,mark,w₁,{target:=.fn (.func g) ⟨cs⟩,args:=⟨as0⟩ ++ #[yv l]},w₁,g,(as0++[yv l]++cs).toArray,w₁,iv,?_,fun _ _=>trivial,?_,(fun h=>by cases h),?_⟩
    ·have:a.eval f=.func (.func g) ⟨as0⟩ ⟨cs⟩:=fr.evO hf;show(Deferred.ofValue (a.eval f) (#[Operand.const (yv l)].map a.eval)).run P w₁=_;rw[this];simp[Deferred.ofValue,Act.eval]
    ·show(callFunc g _).run P w₁=_;rw[aM1 hg];simp
    ·have hY := h l obj As nk (by
      intro args K Y' hb wy jj;obtain⟨hl,hD⟩:=hb;unfold bt4 at hD;split at hD
      case h_2=>exact hD.elim
      rename_i gD hgD;have ib:ps.toList.length=args.length:=by rw[Dz];exact bV7 _ _ _ _ hgD
      rw[ao5 _ _ _ _ hgD]at hD;have fr':=ck7 _ _ fr iw ib;have po:=al7 (P:=P) (jj l _ hl);have hy:(aq6 (.func (.yield l) #[] #[]) args).run P wy=.ok (.round l fn ((ps.toList.zip args).foldl (fun tmps (x:Nat×u9)=>tmps.setIfInBounds x.1 x.2) a.tmps) asg body) wy:=by
       have hsz:¬ (args.length≠ps.size):=by
        have:ps.toList.length=args.length:=ib;simp at this;omega
       simp only[aq6,Deferred.ofValue,Sem.run_bind,Sem.run_pure,Result.andThen_ok,invoke,Instr.yield,po];have hz:(ps.zip (#[]++(⟨args⟩:Array u9)))=⟨ps.toList.zip args⟩:=by apply Array.ext';simp
       rw[hz];simp[hsz]
      rw[hy];show RoundIn Fence.wide 0 P l fn _ asg body wy _;refine roundIn_of_wpIn trivial ?_;refine wpIn_mono (iha aa (some l) hD 0 0 {tmps:=_,defers:=[]} wy ⟨fr'.size,fr'.get⟩ jj (aq7.nil _ _ _) (Nat.zero_le _)) fun ex a₁ w₂ hp=>?_;cases ex with
      |normal =>
       obtain⟨e1,Y1,fr1,ny,_,ln,hD1⟩:=hp;have hgl1:=al7 (P:=P) (ny.le l _ ln);refine⟨{w₂ with heap:=w₂.heap.setIfInBounds l (obj .busy none)},?_,?_⟩
       ·simp only[Instr.beginRound,Sem.run_bind,hgl1,Result.andThen_ok];rw[aw8 (P:=P) (ny.le l _ ln)]
        rfl
       ·have e2:X7 Y1 w₂ (Y1.put l (obj .busy none)) { w₂ with heap:=w₂.heap.setIfInBounds l (obj .busy none) }:=X7.set ny.le ln rfl rfl rfl rfl;refine wpIn_mono (ihb ab (some l) hD1 0 0 a₁ _ fr1 e2.le (by rename_i se;exact se.ext e2) (Nat.zero_le _)) fun ex a₃ w₃ hp => ?_;have fin : ∀ (Y2:H) (j:Option Code) (b:Bool) (s:LoopState),X7 (Y1.put l (obj .busy none)) { w₂ with heap:=w₂.heap.setIfInBounds l (obj .busy none) } Y2 w₃->D5 l obj K j b s Y2->b=j.isNone->s=(if j.isNone then .ready else .done) ->
         ∃v w',(Instr.endRound l j).run P w₃=.ok v w'/\∃v',Ending.returned v=.returned v'/\∃Y'',X7 Y' wy Y'' w'/\K v' Y'':=by
         intro Y2 j b s tz hrk hb hs;obtain⟨vf,hk⟩:=hrk;have hgl2:=al7 (P:=P) (tz.le l _ vf);refine⟨.bool b,{w₃ with heap:=w₃.heap.setIfInBounds l (obj s j)},?_,.bool b,rfl,Y2.put l (obj s j),?_,hk⟩
         ·simp only[Instr.endRound,Sem.run_bind,hgl2,Result.andThen_ok];rw[aw8 (P:=P) (tz.le l _ vf)];subst hb hs;rfl
         ·exact((ny.trans e2).trans tz).trans (X7.set tz.le vf rfl rfl rfl rfl)
        cases ex with
        |normal=>obtain⟨_,Y2,_,tz,_,hk⟩:=hp;exact fin Y2 none true .ready tz hk rfl rfl
        |exit i=>obtain⟨_,Y2,_,tz,_,hk⟩:=hp;exact fin Y2 (some (.exit i)) false .done tz hk rfl rfl
        |ret=>obtain⟨_,Y2,_,tz,_,hk⟩:=hp;exact fin Y2 (some .ret) false .done tz hk rfl rfl
        |goto l=>exact hp.elim
        |panic c=>exact hp.elim
        |outgrown=>exact hp.elim
      |exit i=>obtain⟨_,_,_,_,_,hk⟩:=hp;exact hk.elim
      |ret=>obtain⟨_,_,_,_,_,hk⟩:=hp;exact hk.elim
      |goto l=>exact hp.elim
      |panic c=>exact hp.elim
      |outgrown=>exact hp.elim)
     refine(aL8 (ro:=ro) (n:=n-1) (hY w₁ Ec.le)).mono fun en w₃ hr=>?_;obtain⟨v,rfl,Y',my,s,j,mr,jp,hj⟩:=hr;have po:=al7 (P:=P) (my.le l _ mr);have e4:X7 Y' w₃ (Y'.put l (obj .exhausted j)) {w₃ with heap:=w₃.heap.setIfInBounds l (obj .exhausted j)}:=X7.set my.le mr rfl rfl rfl rfl;refine⟨j,{w₃ with heap:=w₃.heap.setIfInBounds l (obj .exhausted j)},?_,?_⟩
     ·simp only[Instr.endLoop,Sem.run_bind,po,Result.andThen_ok];have:(s==LoopState.busy)=false:=by simpa using jp
      simp only[this,D2,if_false,Sem.run_bind];rw[aw8 (P:=P) (my.le l _ mr)]
      rfl
     ·have kv:=(hdef.ext my).ext e4;have zm:=(Ec.trans my).trans e4;split at hj
      ·exact⟨e,_,⟨fr.size,fr.get⟩,zm,kv,hj⟩
      ·exact wpIn_exit ⟨e,_,⟨fr.size,fr.get⟩,zm,kv,hj⟩
      ·exact wpIn_ret ⟨e,_,⟨fr.size,fr.get⟩,zm,kv,hj⟩
      ·exact hj.elim
   ·exact h.elim
  ·exact h.elim
end
end Go.HL

