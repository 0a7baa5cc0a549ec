/- A part of a proof. -/
import Derived.Test.YtgfiobhpipollaaGreatDoorOai
namespace Go.HL
open Go

def aX5 (r:Nat):Deferred:={ target := .collected r,args := #[] }
def ai5 (B:Nat) (σ:H) (w:World) (ds:List Deferred):Prop :=
 ∃ms:List Nat,ms.Nodup/\ds=ms.map aX5 /\ ∀r∈ms,B<=r/\σ r=none/\w.heap[r]? = some (.deferred (some []))
theorem ai5.nil (B:Nat) (σ:H) (w:World):ai5 B σ w []:=⟨[],.nil,rfl,fun _ h=>by simp at h⟩
theorem ai5.ext {B:Nat} {σ σ':H} {w w':World} {ds:List Deferred} (h:ai5 B σ w ds) (he:I0 σ w σ' w'):ai5 B σ' w' ds:=by
 obtain⟨ms,h1,h2,h3⟩:=h
 refine⟨ms,h1,h2,fun r hr => ?_⟩
 obtain⟨hb,hn,hw⟩:=h3 r hr
 have hlt:r<w.heap.size:=by
  rcases F6 r w.heap.size with h | h
  ·exact h
  ·rw[Array.getElem?_eq_none h]at hw;cases hw
 refine⟨hb,?_,by rw[he.keep r hlt hn];exact hw⟩
 cases hc:σ' r with
 | none=>rfl
 | some o=>have:=he.own r o hc hn;omega

def bd2 (N B:Nat) (σ0:H) (w0:World) (Kn:M5->H->Prop) (Kx:Nat->M5->H->Prop) (Kr:M5->H->Prop):Exit->Act->World->Prop
 | .normal,a,w => ∃e σ,FR N e a/\I0 σ0 w0 σ w/\ai5 B σ w a.defers/\Kn e σ
 | .exit i,a,w => ∃e σ,FR N e a/\I0 σ0 w0 σ w/\ai5 B σ w a.defers/\Kx i e σ
 | .ret,a,w => ∃e σ,FR N e a/\I0 σ0 w0 σ w/\ai5 B σ w a.defers/\Kr e σ
 | _,_,_=>False
theorem bd2.pre {N B:Nat} {σ0 σ1:H} {w0 w1:World} {Kn:M5->H->Prop} {Kx:Nat->M5->H->Prop} {Kr:M5->H->Prop} (he:I0 σ0 w0 σ1 w1) {x:Exit} {a:Act} {w:World} (h:bd2 N B σ1 w1 Kn Kx Kr x a w):bd2 N B σ0 w0 Kn Kx Kr x a w:=by
 cases x with
 | normal=>obtain⟨e,σ,h1,h2,h3⟩:=h;exact⟨e,σ,h1,he.trans h2,h3⟩
 | exit i=>obtain⟨e,σ,h1,h2,h3⟩:=h;exact⟨e,σ,h1,he.trans h2,h3⟩
 | ret=>obtain⟨e,σ,h1,h2,h3⟩:=h;exact⟨e,σ,h1,he.trans h2,h3⟩
 | goto l=>exact h.elim
 | panic c=>exact h.elim
 | outgrown=>exact h.elim

theorem ca0 {R:Type} {le:R->R->Prop} : ∀ (l:List SK) {f g:List Value->R},(∀vs,le (f vs) (g vs))->leL l le (bl1 l f) (bl1 l g):=by
 intro l
 induction l with
 | nil=>intro f g h;exact h []
 | cons s l ih=>intro f g h x;exact ih fun vs=>h _
theorem CK.le_lam (c:CK) {R:Type} {le:R->R->Prop} {f g:Value->R} (h:∀v,le (f v) (g v)):c.le le (c.lam f) (c.lam g):=by
 cases c with
 | sc s=>intro x;exact h _
 | agg l=>exact ca0 l fun vs=>h _
theorem bu5 : ∀ (l:List CK) {f g:List Value->H->Prop},(∀vs σ,f vs σ->g vs σ)->leC l (aH6 l f) (aH6 l g):=by
 intro l
 induction l with
 | nil=>intro f g h;exact h []
 | cons c l ih=>intro f g h;exact CK.le_lam c fun v=>ih fun vs=>h _

section
variable {P : Program} {τ : TypeId -> TK} {N : Nat}

def aK9 (F:Fence) (n:Nat) (P:Program) (c:Code) (Q:Exit->Act->World->Prop) (a:Act) (w:World):Prop :=
 ∀ (b:Frame) (k:List Item) (cs:List Frame),b.roundOf=F.round->F.fn b.fn->F.room (cs.length+1+n) ->
  ∃e a' w',Q e a' w'/\ArrivesIn (Machine.fenced P F) P (lone (b.atR a (.code c :: .inLoop c::k)) cs w) b k cs e a' w'
theorem az3 {F:Fence} {n:Nat} {c:Code} {Q:Exit->Act->World->Prop} {a:Act} {w:World} (h:c.wpIn F n P (Exit.then (aK9 F n P c Q) Q) a w):aK9 F n P c Q a w:=by
 intro b k cs hro hb hr
 obtain⟨e,a₁,w₁,hq,harr⟩:=h b (.inLoop c::k) cs hro hb hr
 cases e with
 | normal =>
  obtain⟨e₂,a₂,w₂,hq₂,harr₂⟩:=hq b k cs hro hb hr
  exact⟨e₂,a₂,w₂,hq₂,.of_steps (StepsIn.trans harr (.one (fenced_calm hb hr rfl) stepR_inLoop)) harr₂⟩
 | exit id=>exact⟨_,a₁,w₁,hq,.pass (x := .inLoop c) rfl (fun _ _ => .inl (by simp)) harr⟩
 | goto l=>exact⟨_,a₁,w₁,hq,.pass (x := .inLoop c) rfl (fun _ _ => .inl (by simp)) harr⟩
 | ret=>exact⟨_,a₁,w₁,hq,.pass (x := .inLoop c) rfl (fun _ _ => .inl (by simp)) harr⟩
 | panic ch=>exact⟨_,a₁,w₁,hq,.pass (x := .inLoop c) rfl (fun _ _ => .inl (by simp)) harr⟩
 | outgrown=>exact⟨_,a₁,w₁,hq,.pass (x := .inLoop c) rfl (fun _ _ => .inl (by simp)) harr⟩
theorem aF4 {F:Fence} {n:Nat} {c:Code} {Q:Exit->Act->World->Prop} {a:Act} {w:World} (h:aK9 F n P c Q a w):(Code.loop c).wpIn F n P Q a w:=by
 intro b k cs hro hb hr
 obtain⟨e,a',w',hq,harr⟩:=h b k cs hro hb hr
 exact⟨e,a',w',hq,.of_steps (.one (fenced_calm hb hr rfl) stepR_loop) harr⟩

theorem I0.allocOut {σ:H} {w:World} (h:σ.le w) (o:Obj):I0 σ w σ (w.alloc o):=by
 obtain⟨hn,he⟩:=I0.alloc h o
 refine⟨fun b o' hb=>he.le b o' ?_,he.size,he.keep,(fun b o' hb hb'=>by rw[hb']at hb;cases hb),he.os,he.tape,he.output⟩
 rw[H.put_other]
 ·exact hb
 ·intro e;subst e;rw[hn]at hb;cases hb

theorem ca1 : ∀ (ts:List Nat) (vs:List Value) {e:M5} {a:Act},FR N e a->bu3 N ts=true->ts.length=vs.length ->
 FR N (e.puts ts vs) { a with tmps:=(ts.zip vs).foldl (fun tmps (x:Nat×Value)=>tmps.setIfInBounds x.1 x.2) a.tmps }:=by
 intro ts
 induction ts with
 | nil =>
  intro vs e a fr _ h
  cases vs with
  | nil=>exact fr
  | cons v vs=>simp at h
 | cons t ts ih =>
  intro vs e a fr hl h
  cases vs with
  | nil=>simp at h
  | cons v vs =>
   simp only[bu3,A8]at hl
   exact ih vs (fr.put (d:=some t) hl.1 v) hl.2 (by simpa using h)
theorem bK6 : ∀ (l:List CK) {R:Type} (F:FnC l R) (vs:List Value) (r:R),ak4 l F vs=some r->l.length=vs.length:=by
 intro l
 induction l with
 | nil =>
  intro R F vs r h
  cases vs with
  | nil=>rfl
  | cons v vs=>simp[ak4]at h
 | cons c l ih =>
  intro R F vs r h
  cases vs with
  | nil=>simp[ak4]at h
  | cons v vs =>
   simp only[ak4]at h
   split at h
   ·simp[ih _ _ _ h]
   ·cases h
theorem bm6 : ∀ (a:List Nat) (b:List CK),az2 a b=true->a.length=b.length:=by
 intro a
 induction a with
 | nil=>intro b h;cases b with | nil=>rfl | cons x b=>simp[az2]at h
 | cons x a ih=>intro b h;cases b with | nil=>simp[az2]at h | cons y b=>simp[ih b h]

theorem ae1 {l:Nat} {r:Loop} {w:World} (h:w.heap[l]? = some (.loop r)):(Instr.getLoop l).run P w = .ok r w:=by
 simp[Instr.getLoop,getObj,Sem.run,h]
theorem aq9 {l:Nat} {r:Loop} {o:Obj} {w:World} (h:w.heap[l]? = some (.loop r)):(setObj l o).run P w = .ok () { w with heap:=w.heap.setIfInBounds l o }:=by
 simp[setObj,Sem.run,h]

theorem Z5 {b:Frame} {a:Act} {k:List Item} {cs:List Frame} {w:World} {c:Code}:step P (lone (b.atR a (.code (.scope c)::k)) cs w) = .next (lone (b.atR a (.code c :: .inScope c::k)) cs w) :=
 step_lone_go (by simp[stepG,stepG.exec,Frame.atR])
theorem aQ5 {b:Frame} {a:Act} {k:List Item} {cs:List Frame} {w:World} {c:Code}:step P (lone (b.atR a (.inScope c::k)) cs w) = .next (lone (b.atR a k) cs w) :=
 step_lone_go (by simp[stepG,stepG.exec,Frame.atR])
theorem aL0 {F:Fence} {n:Nat} {a:Act} {w:World} {Q:Exit->Act->World->Prop} {c:Code} (hq:∀l a w,¬Q (.goto l) a w) (h:c.wpIn F n P Q a w):(Code.scope c).wpIn F n P Q a w:=by
 intro b k cs hro hb hr
 have h0:(lone (b.atR a (.code (.scope c)::k)) cs w).fenced P F:=fenced_calm hb hr rfl
 obtain⟨e,a₁,w₁,hq',harr⟩:=h b (.inScope c::k) cs hro hb hr
 cases e with
 | normal=>exact⟨.normal,a₁,w₁,hq',.head h0 Z5 (StepsIn.trans harr (.one (fenced_calm hb hr rfl) aQ5))⟩
 | exit id' =>
  have hx:exitTo id' (.inScope c::k)=exitTo id' k:=by simp[exitTo]
  exact⟨.exit id',a₁,w₁,hq',fun k' hk => .head h0 Z5 (harr.1 k' (by rw[hx];exact hk)),
   fun hr' hk=>let ⟨k₁,h1,h2⟩:=harr.2 hr' (by rw[hx];exact hk);⟨k₁,h1,.head h0 Z5 h2⟩⟩
 | goto l=>exact(hq l a₁ w₁ hq').elim
 | ret=>exact⟨_,a₁,w₁,hq',.of_steps (.one h0 Z5) harr⟩
 | panic ch=>exact⟨_,a₁,w₁,hq',.of_steps (.one h0 Z5) harr⟩
 | outgrown=>exact⟨_,a₁,w₁,hq',.of_steps (.one h0 Z5) harr⟩
theorem ca2 (hm:P.follows .mixedOrders=true) : ∀ (c:Code) (an:Ann) (ro:Option Nat) {e:M5} {Kn:M5->H->Prop} {Kx:Nat->M5->H->Prop} {Kr:M5->H->Prop} {σ:H},D P τ N c an ro e Kn Kx Kr σ ->
 ∀ (n B:Nat) (a:Act) (w:World),FR N e a->σ.le w->ai5 B σ w a.defers->B<=w.heap.size->c.wpIn (FW ro) n P (bd2 N B σ w Kn Kx Kr) a w:=by
 intro c
 induction c with
 | skip=>intro an ro e Kn Kx Kr σ h n B a w fr hw hd hB;exact wpIn_skip ⟨e,σ,fr,I0.refl hw,hd,h⟩
 | label l=>intro an ro e Kn Kx Kr σ h n B a w fr hw hd hB;exact wpIn_label ⟨e,σ,fr,I0.refl hw,hd,h⟩
 | exit i=>intro an ro e Kn Kx Kr σ h n B a w fr hw hd hB;exact wpIn_exit ⟨e,σ,fr,I0.refl hw,hd,h⟩
 | ret=>intro an ro e Kn Kx Kr σ h n B a w fr hw hd hB;exact wpIn_ret ⟨e,σ,fr,I0.refl hw,hd,h⟩
 | goto l=>intro an ro e Kn Kx Kr σ h;exact h.elim
 | refuse s=>intro an ro e Kn Kx Kr σ h;exact h.elim
 | scope b ih =>
  intro an ro e Kn Kx Kr σ h n B a w fr hw hd hB
  cases an with
  | blk an=>exact aL0 (fun l a w h=>h) (ih an ro h n B a w fr hw hd hB)
  | _=>exact h.elim
 | seq x y ihx ihy =>
  intro an ro e Kn Kx Kr σ h n B a w fr hw hd hB
  simp only[D]at h
  split at h
  ·rename_i ax ay
   refine wpIn_seq (wpIn_mono (ihx _ _ h n B a w fr hw hd hB) fun ex a' w' hp => ?_)
   cases ex with
   | normal =>
    obtain⟨e',σ',fr',he,hd',h'⟩:=hp
    exact wpIn_mono (ihy _ _ h' n B a' w' fr' he.le hd' (F5 hB he.size)) fun _ _ _=>bd2.pre he
   | exit i=>exact hp
   | ret=>exact hp
   | goto l=>exact hp.elim
   | panic c=>exact hp.elim
   | outgrown=>exact hp.elim
  ·rename_i l ax ay
   refine wpIn_seq (wpIn_mono (ihx _ _ h n B a w fr hw hd hB) fun ex a' w' hp => ?_)
   cases ex with
   | normal =>
    obtain⟨e',σ',fr',he,hd',h'⟩:=hp
    obtain⟨vs,hs,h'⟩:=V9.app_lam h'
    exact wpIn_mono (ihy _ _ h' n B a' w' (fr'.sel hs) he.le hd' (F5 hB he.size)) fun _ _ _=>bd2.pre he
   | exit i=>exact hp
   | ret=>exact hp
   | goto l=>exact hp.elim
   | panic c=>exact hp.elim
   | outgrown=>exact hp.elim
  ·exact h.elim
 | cond c x y ihx ihy =>
  intro an ro e Kn Kx Kr σ h n B a w fr hw hd hB
  simp only[D]at h
  split at h
  ·rename_i ax ay t ht
   cases t with
   | true=>exact wpIn_cond_true (fr.evO ht) (ihx _ _ h n B a w fr hw hd hB)
   | false=>exact wpIn_cond_false (fr.evO ht) (ihy _ _ h n B a w fr hw hd hB)
  ·exact h.elim
 | block id x ih =>
  intro an ro e Kn Kx Kr σ h n B a w fr hw hd hB
  simp only[D]at h
  split at h
  ·refine wpIn_block (wpIn_mono (ih _ _ h n B a w fr hw hd hB) fun ex a' w' hp => ?_)
   cases ex with
   | normal=>exact hp
   | exit i =>
    obtain⟨e',σ',fr',he,hd',h'⟩:=hp
    simp only[Exit.inBlock]
    split at h'
    ·rename_i hb
     rw[d9 (Nat.eq_of_beq_eq_true hb)];exact⟨e',σ',fr',he,hd',h'⟩
    ·rename_i hb
     rw[c0 (Nat.ne_of_beq_eq_false hb)];exact⟨e',σ',fr',he,hd',h'⟩
   | ret=>exact hp
   | goto l=>exact hp.elim
   | panic c=>exact hp.elim
   | outgrown=>exact hp.elim
  ·exact h.elim
 | loop x ih =>
  intro an ro e Kn Kx Kr σ h n B a w fr hw hd hB
  simp only[D]at h
  split at h
  ·rename_i l ax
   have h1:=h (aH6 l.ks fun vs σ' => ∀a w,FR N (l.zip vs) a->σ'.le w->ai5 B σ' w a.defers->B<=w.heap.size->aK9 (FW ro) n P x (bd2 N B σ' w Kn Kx Kr) a w) (bu5 _ fun vs σ' hD a w fr hw hd hB => ?_)
   ·obtain⟨vs,g,hs,hg,h1⟩:=V9.app_get h1
    rw[Z4 _ _ _ _ hg]at h1
    exact aF4 (h1 a w (fr.sel hs) hw hd hB)
   ·refine az3 (wpIn_mono (ih _ _ hD n B a w fr hw hd hB) fun ex a' w' hp => ?_)
    cases ex with
    | normal =>
     obtain⟨e',σ'',fr',he,hd',h'⟩:=hp
     obtain⟨vs',g,hs,hg,h'⟩:=V9.app_get h'
     rw[Z4 _ _ _ _ hg]at h'
     intro b k cs hro hb hr
     obtain⟨e2,a2,w2,hq,harr⟩:=h' a' w' (fr'.sel hs) he.le hd' (F5 hB he.size) b k cs hro hb hr
     exact⟨e2,a2,w2,bd2.pre he hq,harr⟩
    | exit i=>exact hp
    | ret=>exact hp
    | goto l=>exact hp.elim
    | panic c=>exact hp.elim
    | outgrown=>exact hp.elim
  ·exact h.elim
 | region id ops draw =>
  intro an ro e Kn Kx Kr σ h n B a w fr hw hd hB
  simp only[D]at h
  split at h
  ·rename_i π AL
   split at h
   ·rename_i hok
    refine aJ9 (fun _ _ _ _ hs ⟨q',e',hpr,h⟩=>⟨q',e',hpr.mono hs,h⟩) hm hok hw (X6 (p:=[]) _ (fun y hy=>by simp at hy) fr h) fun p' a' σ' w' he ⟨q',e',_,fr',hde,hk⟩ => ?_
    exact⟨e',σ',fr',he,by rw[hde];exact hd.ext he,hk⟩
   ·exact h.elim
  ·refine wpIn_region (bz8 _ hw (X6 (p:=[]) _ (fun y hy=>by simp at hy) fr h) fun p' a' σ' w' he ⟨q',e',_,fr',hde,hk⟩ => ?_)
   exact⟨e',σ',fr',he,by rw[hde];exact hd.ext he,hk⟩
  ·rename_i p i m1 j m2 AL
   split at h
   ·rename_i hok
    have h0:=X6 (p:=[]) _ (fun y hy=>by simp at hy) fr h
    have h1:=F3.mono (K':=fun q a1 σ1=>F3 P ops (clI P ops.toList) (I4 AL) q (i::m1) a1 (fun p' a' σ' => ∃q' e',PR P q' p'/\FR N e' a'/\a'.defers=a.defers/\Kn e' σ') σ1/\F3 P ops (clI P ops.toList) (I4 AL) q (j::m2) a1 (fun p' a' σ' => ∃q' e',PR P q' p'/\FR N e' a'/\a'.defers=a.defers/\Kn e' σ') σ1)
     (fun q a1 σ1 ⟨q',e',hpr,fr',hde,hb⟩=>⟨by rw[<-hde];exact X6 _ hpr fr' hb.1,by rw[<-hde];exact X6 _ hpr fr' hb.2⟩) p (Fin.of_le hw) h0
    refine aF1 (fun _ _ _ _ hs ⟨q',e',hpr,h⟩=>⟨q',e',hpr.mono hs,h⟩) hm hok hw h1 fun p' a' σ' w' he ⟨q',e',_,fr',hde,hk⟩ => ?_
    exact⟨e',σ',fr',he,by rw[hde];exact hd.ext he,hk⟩
   ·exact h.elim
  ·exact h.elim
 | rangeFunc f ps asg body iha ihb =>
  intro an ro e Kn Kx Kr σ h n B a w fr hw hd hB
  simp only[D]at h
  split at h
  ·rename_i ks aa ab fv hf
   split at h
   ·rename_i hgl
    simp only[A8]at hgl
    obtain⟨hsl,hlt⟩:=hgl
    have hsl:=bm6 _ _ hsl
    unfold H2 at h
    split at h
    case h_2=>exact h.elim
    rename_i g as0 cs
    obtain⟨hg,hro,h⟩:=h
    refine wpIn_rangeFunc fun fn _ => ?_
    -- the record
    have enter : ∃ (l dblk:Nat) (mark:List Deferred) (w₁:World),
     (Instr.enterLoop fn a.tmps ps asg body ro).run P w = .ok (l,mark) w₁/\σ l=none /\
     I0 σ w (σ.put l (.loop { state := .ready,pending:=none,fn,tmps:=a.tmps,params:=ps,assign:=asg,body,defers:=dblk })) w₁/\ai5 B (σ.put l (.loop { state := .ready,pending:=none,fn,tmps:=a.tmps,params:=ps,assign:=asg,body,defers:=dblk })) w₁ (mark++a.defers):=by
     cases ro with
     | none =>
      refine⟨w.heap.size+1,w.heap.size,[aX5 w.heap.size],(w.alloc (.deferred (some []))).alloc (.loop { state := .ready,pending:=none,fn,tmps:=a.tmps,params:=ps,assign:=asg,body,defers:=w.heap.size }),?_,?_,?_,?_⟩
      ·simp[Instr.enterLoop,aX5,World.alloc_eq]
      ·cases hc:σ (w.heap.size+1) with
       | none=>rfl
       | some o=>have:=hw.lt hc;omega
      ·have e1:=I0.allocOut hw (.deferred (some []))
       have e2:=(I0.alloc e1.le (.loop { state := .ready,pending:=none,fn,tmps:=a.tmps,params:=ps,assign:=asg,body,defers:=w.heap.size })).2
       have:(w.alloc (.deferred (some []))).heap.size=w.heap.size+1:=by show(w.heap.push _).size=_;simp
       rw[this]at e2
       exact e1.trans e2
      ·obtain⟨ms,h1,h2,h3⟩:=hd
       have hlt' : ∀r∈ms,r<w.heap.size:=fun r hr=>by
        have:=(h3 r hr).2.2
        rcases F6 r w.heap.size with h | h
        ·exact h
        ·rw[Array.getElem?_eq_none h]at this;cases this
       have hget : ∀ (o o':Obj) (r:Nat),r<w.heap.size->((w.alloc o).alloc o').heap[r]? = w.heap[r]? := by
        intro o o' r hr
        show((w.heap.push o).push o')[r]? = _
        rw[Array.getElem?_push,c0 (by simp only[Array.size_push];omega),Array.getElem?_push,c0 (by omega)]
       refine⟨w.heap.size::ms,List.nodup_cons.2 ⟨fun hr=>bJ3 _ (hlt' _ hr),h1⟩,by simp[h2],fun r hr => ?_⟩
       rcases A5.1 hr with rfl | hr
       ·refine⟨hB,?_,?_⟩
        ·rw[H.put_other _ _ (by omega)]
         cases hc:σ w.heap.size with
         | none=>rfl
         | some o=>have:=hw.lt hc;omega
        ·show((w.heap.push _).push _)[w.heap.size]? = _
         rw[Array.getElem?_push,c0 (by simp)]
         simp
       ·obtain⟨q1,q2,q3⟩:=h3 r hr
        have:=hlt' r hr
        exact⟨q1,by rw[H.put_other _ _ (by omega)];exact q2,by rw[hget _ _ r this];exact q3⟩
     | some l0 =>
      obtain⟨r0,hr0⟩:=hro l0 rfl
      have e1:=I0.alloc hw (.loop { state := .ready,pending:=none,fn,tmps:=a.tmps,params:=ps,assign:=asg,body,defers:=r0.defers })
      refine⟨w.heap.size,r0.defers,[],w.alloc (.loop { state := .ready,pending:=none,fn,tmps:=a.tmps,params:=ps,assign:=asg,body,defers:=r0.defers }),?_,e1.1,e1.2,?_⟩
      ·simp[Instr.enterLoop,ae1 (hw _ _ hr0),World.alloc_eq]
      ·exact hd.ext e1.2
    obtain⟨l,dblk,mark,w₁,hrun,hfresh,hext,hdef⟩:=enter
    let obj:LoopState->Option Code->Obj:=fun s j => .loop { state:=s,pending:=j,fn,tmps:=a.tmps,params:=ps,assign:=asg,body,defers:=dblk }
    have hobj:aX4 obj:=⟨{ state := .ready,pending:=none,fn,tmps:=a.tmps,params:=ps,assign:=asg,body,defers:=dblk },fun _ _=>rfl⟩
    refine⟨l,mark,w₁,{ target := .fn (.func g) ⟨cs⟩,args:=⟨as0⟩ ++ #[yv l] },w₁,g,(as0++[yv l]++cs).toArray,w₁,hrun,?_,fun _ _=>trivial,?_,(fun h=>by cases h),?_⟩
    ·have:a.eval f = .func (.func g) ⟨as0⟩ ⟨cs⟩:=fr.evO hf
     show(Deferred.ofValue (a.eval f) (#[Operand.const (yv l)].map a.eval)).run P w₁=_
     rw[this]
     simp[Deferred.ofValue,Act.eval]
    ·show(callFunc g _).run P w₁=_
     rw[ai4 hg];simp
    ·have hY := h l obj hfresh hobj (by
      intro args K σ' hb wy hwy
      obtain⟨hl,hD⟩:=hb
      unfold bl5 at hD
      split at hD
      case h_2=>exact hD.elim
      rename_i gD hgD
      have hlen:ps.toList.length=args.length:=by rw[hsl];exact bK6 _ _ _ _ hgD
      rw[Z4 _ _ _ _ hgD]at hD
      have fr':=ca1 _ _ fr hlt hlen
      have hgl:=ae1 (P:=P) (hwy l _ hl)
      have hy:(Y0 (.func (.yield l) #[] #[]) args).run P wy = .ok (.round l fn ((ps.toList.zip args).foldl (fun tmps (x:Nat×Value)=>tmps.setIfInBounds x.1 x.2) a.tmps) asg body) wy:=by
       have hsz : ¬ (args.length≠ps.size):=by
        have:ps.toList.length=args.length:=hlen
        simp at this;omega
       simp only[Y0,Deferred.ofValue,Sem.run_bind,Sem.run_pure,Result.andThen_ok,invoke,Instr.yield,hgl]
       have hz:(ps.zip (#[]++(⟨args⟩:Array Value)))=⟨ps.toList.zip args⟩:=by apply Array.ext';simp
       rw[hz]
       simp[hsz]
      rw[hy]
      show RoundIn Fence.wide 0 P l fn _ asg body wy _
      refine roundIn_of_wpIn trivial ?_
      refine wpIn_mono (iha aa (some l) hD 0 0 { tmps:=_,defers:=[] } wy ⟨fr'.size,fr'.get⟩ hwy (ai5.nil _ _ _) (Nat.zero_le _)) fun ex a₁ w₂ hp => ?_
      cases ex with
      | normal =>
       obtain⟨e1,σ1,fr1,he1,_,hl1,hD1⟩:=hp
       have hgl1:=ae1 (P:=P) (he1.le l _ hl1)
       refine⟨{ w₂ with heap:=w₂.heap.setIfInBounds l (obj .busy none) },?_,?_⟩
       ·simp only[Instr.beginRound,Sem.run_bind,hgl1,Result.andThen_ok]
        rw[aq9 (P:=P) (he1.le l _ hl1)]
        rfl
       ·have e2:I0 σ1 w₂ (σ1.put l (obj .busy none)) { w₂ with heap:=w₂.heap.setIfInBounds l (obj .busy none) }:=I0.set he1.le hl1 rfl rfl rfl rfl
        refine wpIn_mono (ihb ab (some l) hD1 0 0 a₁ _ fr1 e2.le (by rename_i hdd;exact hdd.ext e2) (Nat.zero_le _)) fun ex a₃ w₃ hp => ?_
        have fin : ∀ (σ2:H) (j:Option Code) (b:Bool) (s:LoopState),I0 (σ1.put l (obj .busy none)) { w₂ with heap:=w₂.heap.setIfInBounds l (obj .busy none) } σ2 w₃->y9 l obj K j b s σ2->b=j.isNone->s=(if j.isNone then .ready else .done) ->
         ∃v w',(Instr.endRound l j).run P w₃ = .ok v w' /\ ∃v',Ending.returned v = .returned v' /\ ∃σ'',I0 σ' wy σ'' w'/\K v' σ'':=by
         intro σ2 j b s he2 hrk hb hs
         obtain⟨hl2,hk⟩:=hrk
         have hgl2:=ae1 (P:=P) (he2.le l _ hl2)
         refine⟨.bool b,{ w₃ with heap:=w₃.heap.setIfInBounds l (obj s j) },?_,.bool b,rfl,σ2.put l (obj s j),?_,hk⟩
         ·simp only[Instr.endRound,Sem.run_bind,hgl2,Result.andThen_ok]
          rw[aq9 (P:=P) (he2.le l _ hl2)]
          subst hb hs;rfl
         ·exact((he1.trans e2).trans he2).trans (I0.set he2.le hl2 rfl rfl rfl rfl)
        cases ex with
        | normal=>obtain⟨_,σ2,_,he2,_,hk⟩:=hp;exact fin σ2 none true .ready he2 hk rfl rfl
        | exit i=>obtain⟨_,σ2,_,he2,_,hk⟩:=hp;exact fin σ2 (some (.exit i)) false .done he2 hk rfl rfl
        | ret=>obtain⟨_,σ2,_,he2,_,hk⟩:=hp;exact fin σ2 (some .ret) false .done he2 hk rfl rfl
        | goto l=>exact hp.elim
        | panic c=>exact hp.elim
        | outgrown=>exact hp.elim
      | exit i=>obtain⟨_,_,_,_,_,hk⟩:=hp;exact hk.elim
      | ret=>obtain⟨_,_,_,_,_,hk⟩:=hp;exact hk.elim
      | goto l=>exact hp.elim
      | panic c=>exact hp.elim
      | outgrown=>exact hp.elim)
     refine(aq7 (ro:=ro) (n:=n - 1) (hY w₁ hext.le)).mono fun en w₃ hr => ?_
     obtain⟨v,rfl,σ',he',s,j,hl',hns,hj⟩:=hr
     have hgl:=ae1 (P:=P) (he'.le l _ hl')
     have e4:I0 σ' w₃ (σ'.put l (obj .exhausted j)) { w₃ with heap:=w₃.heap.setIfInBounds l (obj .exhausted j) }:=I0.set he'.le hl' rfl rfl rfl rfl
     refine⟨j,{ w₃ with heap:=w₃.heap.setIfInBounds l (obj .exhausted j) },?_,?_⟩
     ·simp only[Instr.endLoop,Sem.run_bind,hgl,Result.andThen_ok]
      have:(s==LoopState.busy)=false:=by simpa using hns
      simp only[this,F4,if_false,Sem.run_bind]
      rw[aq9 (P:=P) (he'.le l _ hl')]
      rfl
     ·have hde:=(hdef.ext he').ext e4
      have het:=(hext.trans he').trans e4
      split at hj
      ·exact⟨e,_,⟨fr.size,fr.get⟩,het,hde,hj⟩
      ·exact wpIn_exit ⟨e,_,⟨fr.size,fr.get⟩,het,hde,hj⟩
      ·exact wpIn_ret ⟨e,_,⟨fr.size,fr.get⟩,het,hde,hj⟩
      ·exact hj.elim
   ·exact h.elim
  ·exact h.elim
end
end Go.HL

