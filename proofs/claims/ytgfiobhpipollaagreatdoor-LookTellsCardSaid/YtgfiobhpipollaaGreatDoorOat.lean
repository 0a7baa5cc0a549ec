/- A part of a proof. -/
import Derived.Test.YtgfiobhpipollaaGreatDoorOas
namespace Go.HL
open Go
theorem L6.intro (σ:H) (b:Nat) (o:Obj):L6 σ b o (σ.put b o):=rfl
theorem ah5 (σ:H):Gr (fun _=>none) σ:=fun _ _ h=>by cases h
theorem bd7 {ρ ρ' σ:H} (h1:Gr ρ σ) (h2:Gr ρ' σ):Gr (ρ.union ρ') σ:=by
 intro b o hb
 unfold H.union at hb
 cases hr:ρ b with
 | some o'=>rw[hr]at hb;simp at hb;subst hb;exact h1 b o' hr
 | none=>rw[hr]at hb;simp at hb;exact h2 b o hb
theorem bu8 (ρ ρ':H):Gr ρ (ρ.union ρ'):=by intro b o hb;unfold H.union;rw[hb];rfl
theorem bd8 {ρ ρ':H} (h:∀b,ρ b≠none->ρ' b=none):Gr ρ' (ρ.union ρ'):=by
 intro b o hb
 unfold H.union
 cases hr:ρ b with
 | some o'=>have:=h b (by rw[hr];simp);rw[hb]at this;cases this
 | none=>rw[hb];rfl
theorem ao4 {ρ ρ':H} {b:Nat} (h1:ρ b=none) (h2:ρ' b=none):(ρ.union ρ') b=none:=by unfold H.union;rw[h1,h2];rfl
theorem cp0 {A B:H->Prop} {σ:H} (h1:A σ) (h2:B σ):bu2 A B σ:=⟨h1,h2⟩
theorem D8.last {σ:H} {e:TypeId} {n:Nat} {rows:List (List Value)} {q:List Value} {x:Sl} (h:D8 σ e n (rows++[q]) x) (hn:0<n) : ∃g cur,x.base=some ⟨g,0,none⟩/\σ g=some (.cells ⟨cur⟩ e (0,0))/\rows.length * n+n<=cur.length/\x.len=rows.length+1 /\
 ∀ (r:List Value) σ',r.length=n->L6 σ g (.cells ⟨cur.take (rows.length * n)++r++cur.drop (rows.length * n+n)⟩ e (0,0)) σ'->D8 σ' e n (rows++[r]) x:=by
 obtain⟨h1,h2,⟨_,_,h3⟩ | ⟨g,cur,a1,a2,a3,a4,a5⟩⟩:=h
 ·simp at h3
 have hl:x.len=rows.length+1:=by rw[h1];simp
 have hc:rows.length * n+n<=cur.length:=by
  rw[a3]
  have:(rows.length+1) * n<=x.cap * n:=Nat.mul_le_mul_right n (by omega)
  rw[E8,Nat.one_mul]at this;exact this
 refine⟨g,cur,a1,a2,hc,hl,fun r σ' hr hp => ?_⟩
 have hrows : ∀s∈rows,s.length=n:=fun s hs=>h2 s (List.mem_append_left _ hs)
 have hfl:rows.flatten.length=rows.length * n:=ab2 hrows
 have hmul:(rows.length+1) * n=rows.length * n+n:=by rw[E8,Nat.one_mul]
 refine⟨by rw[hl];simp,?_,.inr ⟨g,_,a1,hp.same,?_,a4,?_⟩⟩
 ·intro s hs
  rcases N0.1 hs with hs | hs
  ·exact hrows s hs
  ·simp at hs;subst hs;exact hr
 ·simp only[s8,F0,M1,hr]
  rw[<-a3];omega
 ·rw[hl,hmul]
  have e1:cur.take (rows.length * n)=rows.flatten:=by
   have:=D9 (List.take (rows.length * n)) a5
   rw[List.take_take,hl,hmul,Nat.min_eq_left (by omega)]at this
   rw[this]
   simp only[List.flatten_append,List.flatten_cons,List.flatten_nil,J1]
   rw[<-hfl,List.take_left]
  rw[e1,E0,show rows.length * n+n=rows.flatten.length+n by omega,List.take_length_add_append]
  simp only[List.flatten_append,List.flatten_cons,List.flatten_nil,J1]
  rw[<-hr,List.take_left]
end Go.HL

