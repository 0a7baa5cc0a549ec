/- A part of a proof. -/
import Derived.Test.YtikedigonnlbkaaGreatDoorSas
namespace Go.HL
open Go
theorem E2.from2{P:Program}{f:FuncId}{args:List u9}{K:KH}{Y V:H}(hg:Gr V Y)(h:E2 P f args K V) :
 E2 P f args (fun v Y'=>∃V',K v V'/\Gr V' Y'/\(∀b o,V b=none->Y b=some o->Y' b=some o)/\(∀b,Y b≠none->V b=none->V' b=none)) Y:=by
 intro w hw;have hτ:V.le w:=fun b o hb=>hw b o (hg b o hb);refine(h w hτ).mono fun e w' ⟨v,he,V',hx,hk⟩=>?_;have hS:∃S:H,(∀b o,V b=some o->S b=V' b)/\∀b,V b=none->S b=(Y b).or (V' b) :=
  ⟨fun b=>if(V b).isSome then V' b else(Y b).or (V' b),fun b o hb=>by simp[hb],fun b hb=>by simp[hb]⟩
 obtain⟨S,zn,yg⟩:=hS;have hsz:∀b o,Y b=some o->b<w.heap.size:=fun b o hb=>hw.lt hb;refine⟨v,he,S,⟨fun b o hb=>?_,hx.size,fun b hb hn=>?_,fun b o hb hn=>?_,hx.os,hx.tape,hx.output⟩,V',hk,?_,?_,?_⟩
 ·cases ht:V b with
  |some o'=>rw[zn b o' ht]at hb;exact hx.le b o hb
  |none =>
   rw[yg b ht]at hb;cases hs:Y b with
   |none=>rw[hs]at hb;simp at hb;exact hx.le b o hb
   |some o'=>rw[hs]at hb;simp at hb;subst hb;rw[hx.keep b (hsz b o' hs) ht];exact hw b o' hs
 ·refine hx.keep b hb ?_;cases ht:V b with
  |none=>rfl
  |some o=>rw[hg b o ht]at hn;cases hn
 ·have kw : V b = none := by
   cases ht:V b with
   |none=>rfl
   |some o=>rw[hg b o ht]at hn;cases hn
  rw[yg b kw,hn]at hb;simp at hb;exact hx.own b o hb kw
 ·intro b o hb;cases ht:V b with
  |some o'=>rw[zn b o' ht];exact hb
  |none =>
   rw[yg b ht];cases hs:Y b with
   |none=>simpa using hb
   |some o'=>have:=hx.own b o hb ht;have:=hsz b o' hs;omega
 ·intro b o hb hs;rw[yg b hb,hs];rfl
 ·intro b hs hb;cases ht:V' b with
  |none=>rfl
  |some o =>
   have:=hx.own b o ht hb;cases hc:Y b with
   |none=>exact m7 hc hs
   |some o'=>have:=hsz b o' hc;omega
theorem ao6{P:Program}{f:FuncId}{args:List u9}{K':KH}{t:TK}{F:t.Fn (H->Prop)}{Y V:H}(hg:Gr V Y)(h:E2 P f args K' V)
 (hk:∀v Y' V',K' v V'->Gr V' Y'->(∀b o,V b=none->Y b=some o->Y' b=some o)->(∀b,Y b≠none->V b=none->V' b=none)->app t F v Y'):J0 P f args t F Y :=
 l5 ((E2.from2 hg h).mono fun v Y' ⟨V',h1,h2,h3,h4⟩=>hk v Y' V' h1 h2 h3 h4)
theorem P1.intro(Y:H)(b:Nat)(o:Obj):P1 Y b o (Y.put b o):=rfl
theorem ax5(Y:H):Gr (fun _=>none) Y:=fun _ _ h=>by cases h
theorem E0.last{Y:H}{e:TypeId}{n:Nat}{rows:List (List u9)}{q:List u9}{x:Sl}(h:E0 Y e n (rows++[q]) x)(hn:0<n):∃g cur,x.base=some ⟨g,0,none⟩/\Y g=some (.cells ⟨cur⟩ e (0,0))/\rows.length*n+n<=cur.length/\x.len=rows.length+1 /\
 ∀ (r:List u9) Y',r.length=n->P1 Y g (.cells ⟨cur.take (rows.length*n)++r++cur.drop (rows.length*n+n)⟩ e (0,0)) Y'->E0 Y' e n (rows++[r]) x:=by
 obtain⟨h1,h2,⟨_,_,h3⟩|⟨g,cur,a1,a2,a3,a4,a5⟩⟩:=h
 ·simp at h3
 have hl:x.len=rows.length+1:=by rw[h1];simp
 have hc:rows.length*n+n<=cur.length:=by
  rw[a3];have:(rows.length+1)*n<=x.cap*n:=Nat.mul_le_mul_right n (by omega);rw[K9,Nat.one_mul]at this;exact this
 refine⟨g,cur,a1,a2,hc,hl,fun r Y' hr hp=>?_⟩;have pp:∀s∈rows,s.length=n:=fun s hs=>h2 s (List.mem_append_left _ hs);have vh:rows.flatten.length=rows.length*n:=as7 pp;have Av:(rows.length+1)*n=rows.length*n+n:=by rw[K9,Nat.one_mul]
 refine⟨by rw[hl];simp,?_,.inr ⟨g,_,a1,hp.same,?_,a4,?_⟩⟩
 ·intro s hs;rcases Q4.1 hs with hs|hs
  ·exact pp s hs
  ·simp at hs;subst hs;exact hr
 ·simp only[P3,P4,X1,hr];rw[<-a3];omega
 ·rw[hl,Av];have e1:cur.take (rows.length * n)=rows.flatten:=by
   have:=J7 (List.take (rows.length*n)) a5;rw[List.take_take,hl,Av,Nat.min_eq_left (by omega)]at this;rw[this];simp only[List.flatten_append,List.flatten_cons,List.flatten_nil,ac3];rw[<-vh,List.take_left]
  rw[e1,U7,show rows.length*n+n=rows.flatten.length+n by omega,List.take_length_add_append];simp only[List.flatten_append,List.flatten_cons,List.flatten_nil,ac3];rw[<-hr,List.take_left]
end Go.HL

