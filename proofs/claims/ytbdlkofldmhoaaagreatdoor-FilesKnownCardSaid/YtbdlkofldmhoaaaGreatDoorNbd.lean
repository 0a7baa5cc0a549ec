/- A part of the proof: FilesKnown holds. -/
import Derived.Test.YtbdlkofldmhoaaaGreatDoorNbc
namespace Go.HL
open Go Go.Wk
section
variable {P : Program}
def muL (P:Program) (t:TypeId) (b:Nat):List (ByteArray×Value)->(H->Prop)->H->Prop
 | [],g=>g
 | x::r,g=>muW P t (.map (some b)) (.string x.1) x.2 (muL P t b r g)
theorem beq_sEq (a b:ByteArray):(a==b)=sEq a b:=by rw[sEq_eq,strEq_beq]
theorem lkS (q k:ByteArray) (v:Value) (r:List (ByteArray×Value)):lk q ((k,v)::r)=if sEq q k then some v else lk q r:=by
 rw[<-beq_sEq]
 show(match q==k with | true=>some v | false=>lk q r)=_
 cases q==k<;>rfl
theorem lk_none_of : ∀ {l:List (ByteArray×Value)} {q:ByteArray},q.data.toList∉l.map (fun x=>x.1.data.toList)->lk q l=none:=by
 intro l
 induction l with
 | nil=>intro q _;rfl
 | cons x r ih =>
  intro q h
  simp only[List.map_cons,List.mem_cons,not_or]at h
  obtain⟨k,v⟩:=x
  rw[lkS,sEq_ne (fun e=>h.1 (by rw[e]))]
  exact ih h.2
theorem mul_go {t kt et:TypeId} (ht:P.underlying t=some (.map kt et)) (hk:P.underlying kt=some .string) {b:Nat} {g:H->Prop} : ∀ (l acc:List (ByteArray×Value)) (σ:H),((acc++l).map fun x=>x.1.data.toList).Nodup->MapAt σ b (encL kkS (fun v:Value=>v) acc) ->
 (∀σ',(∀c o,c≠b->σ c=some o->σ' c=some o)->MapAt σ' b (encL kkS (fun v:Value=>v) (acc++l))->g σ')->muL P t b l g σ:=by
 intro l
 induction l with
 | nil =>
  intro acc σ _ hm hg
  rw[List.append_nil]at hg
  exact hg σ (fun _ _ _ h=>h) hm
 | cons x r ih =>
  intro acc σ hnd hm hg
  refine mu_i (kk:=kkS) (f:=fun v:Value=>v) ht hk hm x.1 x.2 ?_
  intro o σ1 p1 m1
  have hno:lk x.1 acc=none:=by
   refine lk_none_of ?_
   rw[List.map_append,List.map_cons]at hnd
   have:=(List.nodup_append.1 hnd).2.2
   intro hmem
   exact this _ hmem _ (List.mem_cons_self ..) rfl
  rw[enc_up_new acc x.1 x.2 hno]at m1
  refine ih (acc++[(x.1,x.2)]) σ1 (by rw[List.append_assoc];exact hnd) m1 ?_
  intro σ' h1 h2
  rw[List.append_assoc]at h2
  exact hg σ' (fun c o hc ho=>h1 c o hc (p1.get hc ho)) h2
theorem mul_i {t kt et:TypeId} (ht:P.underlying t=some (.map kt et)) (hk:P.underlying kt=some .string) (l:List (ByteArray×Value)) {g:Nat->H->Prop} {σ:H} (hnd:(l.map fun x=>x.1.data.toList).Nodup)
 (hg:∀b σ',Gr σ σ'->σ b=none->MapAt σ' b (encL kkS (fun v:Value=>v) l)->g b σ'):alW (.map #[] 0) (fun b=>muL P t b l (g b)) σ:=by
 refine al_i ?_
 intro b σ1 g1 e1 n1
 refine mul_go ht hk l [] σ1 (by simpa using hnd) (MapAt.new e1) ?_
 intro σ' h1 h2
 refine hg b σ' ?_ n1 (by simpa using h2)
 unfold Gr
 intro c o hc
 exact h1 c o (fun e=>by rw[e,n1]at hc;cases hc) (g1.get hc)
theorem mul_rd {σ:H} {b:Nat} {l:List (ByteArray×Value)} (h:MapAt σ b (encL kkS (fun v:Value=>v) l)) (z:Value) (q:ByteArray):rdM .string z true (some b) (.string q) σ=some (.tuple ⟨[(lk q l).getD z,.bool (lk q l).isSome]⟩):=by
 have:=rdM_at (kk:=kkS) h z true q
 rw[Option.map_id']at this
 exact this
end
end Go.HL

