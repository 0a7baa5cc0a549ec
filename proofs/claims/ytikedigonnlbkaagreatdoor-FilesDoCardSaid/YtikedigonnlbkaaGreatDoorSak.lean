/- A part of a proof. -/
import Derived.Test.YtikedigonnlbkaaGreatDoorSaj
namespace Go.HL
open Go
section
variable {P:Program} {V:TypeId->TK} {N:Nat}

def aI5(tmps:Array u9):ResultVar->Sem u9
 |.tmp t=>pure (tmps.getD t undef)
 |.cell a t=>do loadVar t (<- asAddr (tmps.getD a undef))

theorem bv2{e:Env}{a:Act}(fr:FR N e a){w:World}:∀ (rs:List ResultVar) {k:List u9->H->Prop} {Y:H},Y.le w->bu9 P V e rs k Y ->
 ∃vs,(rs.mapM (aI5 a.tmps)).run P w=.ok vs w/\k vs Y:=by
 intro rs
 induction rs with
 |nil=>intro k Y _ h;exact⟨[],by simp,h⟩
 |cons r rs ih =>
  intro k Y hw h;cases r with
  |tmp t =>
   simp only[bu9]at h;split at h
   ·rename_i v hv;obtain⟨vs,h1,h2⟩:=ih hw h;refine⟨v::vs,?_,h2⟩;have:a.tmps.getD t undef=v:=by simp[fr.get t v hv]
    simp[List.mapM_cons,aI5,this,h1]
   ·exact h.elim
  |cell c t =>
   simp only[bu9]at h;split at h
   ·rename_i p hp ha;obtain⟨b,o,rfl,v,hr,h⟩:=ai3 h;obtain⟨vs,h1,h2⟩:=ih hw (app_lam h);refine⟨v::vs,?_,h2⟩;have hc:a.tmps.getD c undef=.pointer (some ⟨b,o,none⟩):=by simp[fr.get c _ hp]
    have hl:=aX0 ha hr hw;simp only[Instr.loadAt,Sem.run_bind,ai4,Result.andThen_ok]at hl;simp[List.mapM_cons,aI5,hc,asAddr,hl,h1]
   ·rename_i p n hp ha hn;obtain⟨b,o,rfl,v,hr,h⟩:=ai3 h;obtain⟨vs,h1,h2⟩:=ih hw (app_lam h);refine⟨v::vs,?_,h2⟩;have hc:a.tmps.getD c undef=.pointer (some ⟨b,o,none⟩):=by simp[fr.get c _ hp]
    have hl:=aX1 ha hn hr hw;simp only[Instr.loadAt,Sem.run_bind,ai4,Result.andThen_ok]at hl;simp[List.mapM_cons,aI5,hc,asAddr,hl,h1]
   ·exact h.elim
theorem bv3{fn:Func}{e:Env}{a:Act}(fr:FR N e a){w:World}{K:KH}{Y:H}(hw:Y.le w)(h:ck4 P V fn.results.toList K e Y) :
 ∃v,(results fn a.tmps).run P w=.ok v w/\K v Y:=by
 obtain⟨vs,h1,h2⟩:=bv2 fr _ hw h;refine⟨cv3 vs,?_,h2⟩;simp only[results,Sem.run_bind];have h3:(fn.results.mapM (aI5 a.tmps)).run P w=.ok vs.toArray w:=by
  rw[Array.mapM_eq_mapM_toList];simp[h1]
 show((fn.results.mapM (aI5 a.tmps)).run P w).andThen _=_;rw[h3];simp only[Result.andThen_ok,Sem.run_pure]
 congr 1
 cases vs with
 |nil=>rfl
 |cons v vs=>cases vs with
  |nil=>rfl
  |cons u us=>simp[cv3]

theorem bV8:∀ (vs:List u9) (i j:Nat) (v:u9),(bK2 i vs).get? j=some v->i<=j/\vs[j-i]?=some v:=by
 intro vs
 induction vs with
 |nil=>intro i j v h;simp[bK2,Env.get?]at h
 |cons u vs ih =>
  intro i j v h;simp only[bK2,Env.get?]at h;split at h
  ·rename_i hb;have:=Nat.eq_of_beq_eq_true hb;subst this;cases h;simp
  ·obtain⟨h1,h2⟩:=ih (i+1) j v h;refine⟨by omega,?_⟩;rw[show j-i=(j-(i+1))+1 by omega];simpa using h2

theorem bd0{fn:Func}{tmps:Array u9}{R:Ending->World->Prop}{n B:Nat}{Y:H}:∀ (ms:List Nat) (w:World),ms.Nodup->(∀r∈ms,B<=r/\Y r=none/\w.heap[r]?=some (.deferred (some [])))->Y.le w ->
 (∀w',Y.le w'->w'.heap.size=w.heap.size->(∀b,b<B->w'.heap[b]?=w.heap[b]?)->w'.os=w.os->w'.tape=w.tape->w'.output=w.output->∃v,(results fn tmps).run P w'=.ok v w'/\R (.returned v) w') ->
 LeavesInM Fence.wide n P fn tmps R (ms.map bc7) .returning w:=by
 intro ms
 induction ms with
 |nil =>
  intro w _ _ hw h;exact h w hw rfl (fun _ _=>rfl) rfl rfl rfl
 |cons r ms ih =>
  intro w ij vq hw h;obtain⟨hrm,ij⟩:=List.nodup_cons.1 ij;obtain⟨hB,hn,hr⟩:=vq r (H7 ..);have qx:Y.le {w with heap:=w.heap.setIfInBounds r (.deferred none)}:=by
   intro b o hb;have ia:r≠b:=by intro e;subst e;rw[hn]at hb;cases hb
   show(w.heap.setIfInBounds r (.deferred none))[b]?=_;rw[Array.getElem?_setIfInBounds,d7 ia];exact hw b o hb
  refine⟨by simp,.inl ⟨r,{w with heap:=w.heap.setIfInBounds r (.deferred none)},rfl,?_,?_⟩⟩
  ·have hg:(getObj r).run P w=.ok (.deferred (some [])) w:=by simp[getObj,Sem.run,hr]
   have hs:(setObj r (.deferred none)).run P w=.ok () {w with heap:=w.heap.setIfInBounds r (.deferred none)}:=by simp[setObj,Sem.run,hr]
   simp[Instr.takeDeferred,hg,hs]
  ·refine ih _ ij (fun r' sd=>?_) qx fun w' h1 h2 h3 h4 h5 h6=>?_
   ·obtain⟨q1,q2,q3⟩:=vq r' (E4 _ sd);refine⟨q1,q2,?_⟩;have ia:r≠r':=by intro e;subst e;exact hrm sd
    show(w.heap.setIfInBounds r (.deferred none))[r']?=_;rw[Array.getElem?_setIfInBounds,d7 ia];exact q3
   ·refine h w' h1 (by simpa using h2) (fun b hb=>?_) h4 h5 h6;rw[h3 b hb];show(w.heap.setIfInBounds r (.deferred none))[b]?=_;rw[Array.getElem?_setIfInBounds,d7 (by omega)]

theorem bd1(hm:P.follows .mixedOrders=true){f:FuncId}{fn:Func}(hf:P.funcs[f]?=some fn){an:Ann}{args:List u9}{K:KH}{Y:H}(h:bV6 P V fn an args K Y):E2 P f args K Y:=by
 unfold bV6 at h;split at h
 ·rename_i c hc;split at h
  ·rename_i qx;have qx:=Nat.le_of_ble_eq_true qx;intro w hw;refine callsIn_of_wp_marks hf hc trivial ?_;have fr:FR fn.ntmps (bK2 0 args) { tmps:=args.toArray++Array.replicate (fn.ntmps - args.toArray.size) undef,defers:=[] }:=by
    refine⟨by simp;omega,fun i v hi=>?_⟩;obtain⟨_,h2⟩:=bV8 args 0 i v hi;simp only[Nat.sub_zero]at h2;have iw:i<args.length:=by
     rcases U8 i args.length with h|h
     ·exact h
     ·rw[aa4 h]at h2;cases h2
    rw[Array.getElem?_append,d8 (by simpa using iw)];simpa using h2
   refine wpIn_mono (ck8 hm c an none h 0 w.heap.size _ w fr hw (aq7.nil _ _ _) (A7 _)) fun ex a w' hp=>?_;have fin:∀e Y',FR fn.ntmps e a->X7 Y w Y' w'->aq7 w.heap.size Y' w' a.defers->ck4 P V fn.results.toList K e Y' ->
    LeavesInM Fence.wide 0 P fn a.tmps (fun e w'=>∃v,e=.returned v/\∃Y',X7 Y w Y' w'/\K v Y') a.defers .returning w':=by
    intro e Y' fr' he hd gv;obtain⟨ms,h1,h2,h3⟩:=hd;rw[h2];refine bd0 ms w' h1 h3 he.le fun w'' q1 q2 q3 q4 q5 q6=>?_;obtain⟨v,hv,hk⟩:=bv3 fr' q1 gv;refine⟨v,hv,v,rfl,Y',⟨q1,by rw[q2];exact he.size,fun b hb hn=>by rw[q3 b hb];exact he.keep b hb hn,he.own,q4.trans he.os,q5.trans he.tape,q6.trans he.output⟩,hk⟩
   cases ex with
   |normal=>obtain⟨e,Y',fr',he,hd,gv⟩:=hp;exact fin e Y' fr' he hd gv
   |ret=>obtain⟨e,Y',fr',he,hd,gv⟩:=hp;exact fin e Y' fr' he hd gv
   |exit i=>obtain⟨_,_,_,_,_,gv⟩:=hp;exact gv.elim
   |goto l=>exact hp.elim
   |panic c=>exact hp.elim
   |outgrown=>exact hp.elim
  ·exact h.elim
 ·exact h.elim
end
end Go.HL

