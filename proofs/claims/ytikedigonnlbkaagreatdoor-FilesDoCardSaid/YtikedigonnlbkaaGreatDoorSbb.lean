/- A part of a proof. -/
import Derived.Test.YtikedigonnlbkaaGreatDoorSba
namespace Go.HL
open Go Go.Wk
section
variable {P:Program}
def muL(P:Program)(t:TypeId)(b:Nat):List (d9×u9)->(H->Prop)->H->Prop
 | [],g=>g
 |x::r,g=>muW P t (.map (some b)) (.string x.1) x.2 (muL P t b r g)
theorem cl7(a b:d9):(a==b)=E8 a b:=by rw[I5,bK4]
theorem lkS(q k:d9)(v:u9)(r:List (d9×u9)):lk q ((k,v)::r)=if E8 q k then some v else lk q r:=by
 rw[<-cl7];show(match q==k with|true=>some v|false=>lk q r)=_;cases q==k<;>rfl
theorem bx1:∀ {l:List (d9×u9)} {q:d9},q.data.toList∉l.map (fun x=>x.1.data.toList)->lk q l=none:=by
 intro l
 induction l with
 |nil=>intro q _;rfl
 |cons x r ih =>
  intro q h;simp only[H5,G9,not_or]at h;obtain⟨k,v⟩:=x;rw[lkS,cw3 (fun e=>h.1 (by rw[e]))];exact ih h.2
theorem cw8{t kt et:TypeId}(ht:P.underlying t=some (.map kt et))(hk:P.underlying kt=some .string){b:Nat}{g:H->Prop}:∀ (l acc:List (d9×u9)) (Y:H),((acc++l).map fun x=>x.1.data.toList).Nodup->Q7 Y b (W0 kkS (fun v:u9=>v) acc) ->
 (∀Y',(∀c o,c≠b->Y c=some o->Y' c=some o)->Q7 Y' b (W0 kkS (fun v:u9=>v) (acc++l))->g Y')->muL P t b l g Y:=by
 intro l
 induction l with
 |nil =>
  intro acc Y _ hm hg;rw[ac3]at hg;exact hg Y (fun _ _ _ h=>h) hm
 |cons x r ih =>
  intro acc Y ij hm hg;refine bd4 (kk:=kkS) (f:=fun v:u9=>v) ht hk hm x.1 x.2 ?_;intro o Y1 p1 m1;have kg:lk x.1 acc=none:=by
   refine bx1 ?_;rw[List.map_append,H5]at ij;have:=(List.nodup_append.1 ij).2.2;intro jh;exact this _ jh _ (H7 ..) rfl
  rw[ak6 acc x.1 x.2 kg]at m1;refine ih (acc++[(x.1,x.2)]) Y1 (by rw[U7];exact ij) m1 ?_;intro Y' h1 h2;rw[U7]at h2;exact hg Y' (fun c o hc ho=>h1 c o hc (p1.get hc ho)) h2
theorem bm0{t kt et:TypeId}(ht:P.underlying t=some (.map kt et))(hk:P.underlying kt=some .string)(l:List (d9×u9)){g:Nat->H->Prop}{Y:H}(ij:(l.map fun x=>x.1.data.toList).Nodup)
 (hg:∀b Y',Gr Y Y'->Y b=none->Q7 Y' b (W0 kkS (fun v:u9=>v) l)->g b Y'):H0 (.map #[] 0) (fun b=>muL P t b l (g b)) Y:=by
 refine A5 ?_;intro b Y1 g1 e1 n1;refine cw8 ht hk l [] Y1 (by simpa using ij) (Q7.new e1) ?_;intro Y' h1 h2;refine hg b Y' ?_ n1 (by simpa using h2);unfold Gr;intro c o hc;exact h1 c o (fun e=>by rw[e,n1]at hc;cases hc) (g1.get hc)
theorem bx2{Y:H}{b:Nat}{l:List (d9×u9)}(h:Q7 Y b (W0 kkS (fun v:u9=>v) l))(z:u9)(q:d9):rdM .string z true (some b) (.string q) Y=some (.tuple ⟨[(lk q l).getD z,.bool (lk q l).isSome]⟩):=by
 have:=aI6 (kk:=kkS) h z true q;rw[Option.map_id']at this;exact this
end
end Go.HL

