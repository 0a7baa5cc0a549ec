/- A part of the proof: FilesKnown holds. -/
import Derived.Test.YtbdlkofldmhoaaaGreatDoorNau
namespace Go.HL
open Go
theorem callW.from2 {P:Program} {f:FuncId} {args:List Value} {K:KH} {σ τ:H} (hg:Gr τ σ) (h:callW P f args K τ) :
 callW P f args (fun v σ' => ∃τ',K v τ'/\Gr τ' σ'/\(∀b o,τ b=none->σ b=some o->σ' b=some o)/\(∀b,σ b≠none->τ b=none->τ' b=none)) σ:=by
 intro w hw
 have hτ:τ.le w:=fun b o hb=>hw b o (hg b o hb)
 refine(h w hτ).mono fun e w' ⟨v,he,τ',hx,hk⟩ => ?_
 have hS : ∃S:H,(∀b o,τ b=some o->S b=τ' b) /\ ∀b,τ b=none->S b=(σ b).or (τ' b) :=
  ⟨fun b=>if(τ b).isSome then τ' b else(σ b).or (τ' b),fun b o hb=>by simp[hb],fun b hb=>by simp[hb]⟩
 obtain⟨S,hS1,hS2⟩:=hS
 have hsz : ∀b o,σ b=some o->b<w.heap.size:=fun b o hb=>hw.lt hb
 refine⟨v,he,S,⟨fun b o hb => ?_,hx.size,fun b hb hn => ?_,fun b o hb hn => ?_,hx.os,hx.tape,hx.output⟩,τ',hk,?_,?_,?_⟩
 ·cases ht:τ b with
  | some o'=>rw[hS1 b o' ht]at hb;exact hx.le b o hb
  | none =>
   rw[hS2 b ht]at hb
   cases hs:σ b with
   | none=>rw[hs]at hb;simp at hb;exact hx.le b o hb
   | some o'=>rw[hs]at hb;simp at hb;subst hb;rw[hx.keep b (hsz b o' hs) ht];exact hw b o' hs
 ·refine hx.keep b hb ?_
  cases ht:τ b with
  | none=>rfl
  | some o=>rw[hg b o ht]at hn;cases hn
 ·have hnt : τ b = none := by
   cases ht:τ b with
   | none=>rfl
   | some o=>rw[hg b o ht]at hn;cases hn
  rw[hS2 b hnt,hn]at hb
  simp at hb
  exact hx.own b o hb hnt
 ·intro b o hb
  cases ht:τ b with
  | some o'=>rw[hS1 b o' ht];exact hb
  | none =>
   rw[hS2 b ht]
   cases hs:σ b with
   | none=>simpa using hb
   | some o'=>have:=hx.own b o hb ht;have:=hsz b o' hs;omega
 ·intro b o hb hs
  rw[hS2 b hb,hs];rfl
 ·intro b hs hb
  cases ht:τ' b with
  | none=>rfl
  | some o =>
   have:=hx.own b o ht hb
   cases hc:σ b with
   | none=>exact absurd hc hs
   | some o'=>have:=hsz b o' hc;omega
theorem call_from {P:Program} {f:FuncId} {args:List Value} {K':KH} {t:TK} {F:t.Fn (H->Prop)} {σ τ:H} (hg:Gr τ σ) (h:callW P f args K' τ)
 (hk:∀v σ' τ',K' v τ'->Gr τ' σ'->(∀b o,τ b=none->σ b=some o->σ' b=some o)->(∀b,σ b≠none->τ b=none->τ' b=none)->app t F v σ'):callT P f args t F σ :=
 call_i ((callW.from2 hg h).mono fun v σ' ⟨τ',h1,h2,h3,h4⟩=>hk v σ' τ' h1 h2 h3 h4)
theorem Put.intro (σ:H) (b:Nat) (o:Obj):Put σ b o (σ.put b o):=rfl
theorem gr_empty (σ:H):Gr (fun _=>none) σ:=fun _ _ h=>by cases h
theorem RowsOwn.last {σ:H} {e:TypeId} {n:Nat} {rows:List (List Value)} {q:List Value} {x:Sl} (h:RowsOwn σ e n (rows++[q]) x) (hn:0<n) : ∃g cur,x.base=some ⟨g,0,none⟩/\σ g=some (.cells ⟨cur⟩ e (0,0))/\rows.length * n+n<=cur.length/\x.len=rows.length+1 /\
 ∀ (r:List Value) σ',r.length=n->Put σ g (.cells ⟨cur.take (rows.length * n)++r++cur.drop (rows.length * n+n)⟩ e (0,0)) σ'->RowsOwn σ' e n (rows++[r]) x:=by
 obtain⟨h1,h2,⟨_,_,h3⟩ | ⟨g,cur,a1,a2,a3,a4,a5⟩⟩:=h
 ·simp at h3
 have hl:x.len=rows.length+1:=by rw[h1];simp
 have hc:rows.length * n+n<=cur.length:=by
  rw[a3]
  have:(rows.length+1) * n<=x.cap * n:=Nat.mul_le_mul_right n (by omega)
  rw[Nat.add_mul,Nat.one_mul]at this;exact this
 refine⟨g,cur,a1,a2,hc,hl,fun r σ' hr hp => ?_⟩
 have hrows : ∀s∈rows,s.length=n:=fun s hs=>h2 s (List.mem_append_left _ hs)
 have hfl:rows.flatten.length=rows.length * n:=flat_len hrows
 have hmul:(rows.length+1) * n=rows.length * n+n:=by rw[Nat.add_mul,Nat.one_mul]
 refine⟨by rw[hl];simp,?_,.inr ⟨g,_,a1,hp.same,?_,a4,?_⟩⟩
 ·intro s hs
  rcases List.mem_append.1 hs with hs | hs
  ·exact hrows s hs
  ·simp at hs;subst hs;exact hr
 ·simp only[List.length_append,List.length_take,List.length_drop,hr]
  rw[<-a3];omega
 ·rw[hl,hmul]
  have e1:cur.take (rows.length * n)=rows.flatten:=by
   have:=congrArg (List.take (rows.length * n)) a5
   rw[List.take_take,hl,hmul,Nat.min_eq_left (by omega)]at this
   rw[this]
   simp only[List.flatten_append,List.flatten_cons,List.flatten_nil,List.append_nil]
   rw[<-hfl,List.take_left]
  rw[e1,List.append_assoc,show rows.length * n+n=rows.flatten.length+n by omega,List.take_length_add_append]
  simp only[List.flatten_append,List.flatten_cons,List.flatten_nil,List.append_nil]
  rw[<-hr,List.take_left]
end Go.HL

