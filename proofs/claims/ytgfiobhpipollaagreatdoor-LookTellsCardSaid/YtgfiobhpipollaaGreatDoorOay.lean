/- A part of a proof. -/
import Derived.Test.YtgfiobhpipollaaGreatDoorOax
namespace Go.HL
open Go
def ao6 (σ:H) (e:TypeId) (n:Nat) (rows:List (List Value)) (x:Sl):Prop :=
 x.len=rows.length/\(∀r∈rows,r.length=n)/\((x.base=none/\x.cap=0/\rows=[]) \/ ∃g cur fz,(fz.2<=fz.1\/cur.length<=fz.1)/\x.base=some ⟨g,0,none⟩/\σ g=some (.cells ⟨cur⟩ e fz)/\cur.length=x.cap * n/\x.len<=x.cap/\cur.take (x.len * n)=rows.flatten)
theorem ao6.gr {σ σ':H} {e:TypeId} {n:Nat} {rows:List (List Value)} {x:Sl} (h:ao6 σ e n rows x) (hg:Gr σ σ'):ao6 σ' e n rows x:=by
 obtain⟨h1,h2,h3 | ⟨g,cur,fz,h0,h3,h4,h5⟩⟩:=h
 ·exact⟨h1,h2,.inl h3⟩
 ·exact⟨h1,h2,.inr ⟨g,cur,fz,h0,h3,hg.get h4,h5⟩⟩
theorem ao6.rows {σ:H} {e:TypeId} {n:Nat} {rows:List (List Value)} {x:Sl} (h:ao6 σ e n rows x):w7 σ n rows x:=by
 obtain⟨h1,h2,⟨_,_,h5⟩ | ⟨g,cur,fz,h0,h3,h4,h5,h6,h7⟩⟩:=h
 ·exact⟨h1,.inl h5⟩
 ·refine⟨h1,.inr ⟨g,0,cur,e,fz,h3,h4,fun i r hi => ?_⟩⟩
  have hr:=h2 r (F7 hi)
  refine⟨hr,?_⟩
  have hlt:i<rows.length:=by
   rcases F6 i rows.length with h | h
   ·exact h
   ·rw[L4 h]at hi;cases hi
  have:=bd6 h2 i r hi
  rw[<-h7,List.drop_take,List.take_take]at this
  rw[H6]
  have hle:i * n+n<=x.len * n:=by rw[h1,<- Nat.succ_mul];exact Nat.mul_le_mul_right n hlt
  rw[Nat.min_eq_left (by omega)]at this
  exact this
section
variable {P : Program} {σ : H}
theorem bL8 {t ty e:TypeId} {i:TypeInfo} {z:Value} {n bytes:Nat} {cs:List Bool} {rows:List (List Value)} {x:Sl} {b:Nat} {r:List Value} {tb:TypeId} {fz:Nat×Nat} {F:Sl->H->Prop}
 (ht:P.underlying t=some (.slice e)) (hi:P.info? e=some i) (hz:i.zero=some z) (hsize:i.size=n) (hby:i.bytes=bytes) (hzs:z.cells.size=n) (hn:0<n)
 (h:ao6 σ e n rows x) (hb:σ b=some (.cells ⟨r⟩ tb fz)) (hr:r.length=n) (hone:∀u∈r,u.oneCell'=true) (hlen:rows.length<1000000000) (hbytes:bytes<=100000)
 (hK:∀x' σ',ao6 σ' e n (rows++[r]) x'->((∃g o,x.base=some ⟨g,0,none⟩/\x'.base=x.base/\L6 σ g o σ')\/(∃g,x'.base=some ⟨g,0,none⟩/\σ g=none/\Gr σ σ'))->F x' σ') :
 R1 P .append #[t,t] ty cs [.slice x.base x.len x.cap,.slice (some ⟨b,0,none⟩) 1 1] (.one (.sc .slc)) F σ:=by
 intro w hw
 obtain⟨h1,h2,h3⟩:=h
 have hwb:=hw b _ hb
 have hnews : ∀j u,r[j]? = some u->w.cell? ((⟨b,0,none⟩:Addr).add j)=some u:=by
  intro j u hu;rw[Y6 hwb,H6];exact hu
 have hl1:r.length=1 * i.size:=by rw[hsize,hr,Nat.one_mul]
 have hall : ∀q∈rows++[r],q.length=n:=by
  intro q hq
  rcases N0.1 hq with hq | hq
  ·exact h2 q hq
  ·simp at hq;rw[hq,hr]
 have hbi : ∀ (a c:Value),(builtin .append #[t,t] ty ⟨cs⟩ ⟨[a,c]⟩).run P w=((Builtin.append_ #[t,t] ty #[a,c]).run P w).andThen fun v w' => .ok (.value v) w':=by
  intro a c;simp[builtin]
 have hwn:σ w.heap.size=none:=by
  cases hg:σ w.heap.size with
  | none=>rfl
  | some o=>have:=hw.lt hg;omega
 have extd : ∀o:Obj,I0 σ w (σ.put w.heap.size o) (w.drew.alloc o):=by
  intro o
  have h5:=(I0.alloc (σ:=σ) (w:=w.drew) hw o).2
  exact⟨h5.le,h5.size,h5.keep,h5.own,h5.os,h5.tape,h5.output⟩
 rcases h3 with⟨h3,h4,h5⟩ | ⟨g,cur,fzz,hfzz,h3,h4,h5,h6,h7⟩
 ·subst h5
  obtain⟨xb,xl,xc⟩:=x
  simp only at h1 h3 h4
  simp at h1
  subst h1;subst h3;subst h4
  have hrun:=run_append_nil (P:=P) (w:=w) t ty e i z ht hi hz ⟨b,0,none⟩ 1 1 r hl1 hnews (by omega) (by omega) (by rw[hby];omega)
  show reach P _ ((builtin .append #[t,t] ty ⟨cs⟩ ⟨[.slice none 0 0,.slice (some ⟨b,0,none⟩) 1 1]⟩).run P w)
  rw[hbi,hrun]
  have hge:=grownCap_ge w 1 0 e
  refine⟨_,extd _,Q7 (hK ⟨some ⟨w.heap.size,0,none⟩,1,grownCap w 1 0 e⟩ _ ⟨rfl,hall,.inr ⟨w.heap.size,(r.toArray++Builtin.zeroCells z.cells (grownCap w 1 0 e - 1)).toList,(0,0),.inl (A6 _),rfl,H.put_same _ _ _,?_,hge,?_⟩⟩ (.inr ⟨w.heap.size,rfl,hwn,Gr.put hwn _⟩))⟩
  ·simp[size_zeroCells,hzs,hr]
   have:grownCap w 1 0 e * n=(grownCap w 1 0 e - 1) * n+n:=by
    conv=>lhs;rw[show grownCap w 1 0 e=(grownCap w 1 0 e - 1)+1 by omega,E8,Nat.one_mul]
   omega
  ·simp[hr]
 ·have hwg:=hw g _ h4
  obtain⟨xb,xl,xc⟩:=x
  simp only at h1 h3 h5 h6 h7
  subst h3
  by_cases hroom:xl+1<=xc
  ·have hfit : xl * i.size + r.length <= (⟨cur⟩ : Array Value).size := by
    show xl * i.size+r.length<=cur.length
    rw[hsize,hr,h5]
    have:(xl+1) * n<=xc * n:=Nat.mul_le_mul_right n hroom
    rw[E8,Nat.one_mul]at this;exact this
   have hfc:=run_firstCells_some (P:=P) w i.size 1 ⟨b,0,none⟩ 1 1 r hl1 hnews
   have hst:=ab0 (P:=P) (b:=g) (t:=e) (fz:=fzz) (o:=xl * i.size) r 0 cur w hwg (by simpa using hfit) hone hfzz
   simp only[Nat.add_zero]at hst
   have hrun:(Builtin.append_ #[t,t] ty #[.slice (some ⟨g,0,none⟩) xl xc,.slice (some ⟨b,0,none⟩) 1 1]).run P w = .ok (.slice (some ⟨g,0,none⟩) (xl+1) xc) { w with heap:=w.heap.setIfInBounds g (.cells ⟨cur.take (xl * i.size)++r++cur.drop (xl * i.size+r.length)⟩ e fzz) }:=by
    simp[Builtin.append_,run_underlying ht,sizeOf,typeInfo,hi,Builtin.lenOf,hroom,hfc,Addr.add_lit,hst]
   show reach P _ ((builtin .append #[t,t] ty ⟨cs⟩ ⟨[.slice (some ⟨g,0,none⟩) xl xc,.slice (some ⟨b,0,none⟩) 1 1]⟩).run P w)
   rw[hbi,hrun]
   refine⟨_,I0.set hw h4 rfl rfl rfl rfl,Q7 (hK ⟨some ⟨g,0,none⟩,xl+1,xc⟩ _ ⟨?_,hall,.inr ⟨g,_,fzz,?_,rfl,H.put_same _ _ _,?_,hroom,?_⟩⟩ (.inl ⟨g,_,rfl,rfl,rfl⟩))⟩
   ·simp[h1]
   ·refine hfzz.imp id fun hz => ?_
    have hle:xl * i.size+r.length<=cur.length:=hfit
    simp only[s8,F0,M1]
    omega
   ·rw[hsize,hr]
    have hle:xl * n+n<=cur.length:=by have:=hfit;rw[hsize,hr]at this;exact this
    simp only[s8,F0,M1,hr]
    omega
   ·rw[hsize,hr,h7,List.flatten_append]
    have hfl:rows.flatten.length=xl * n:=by rw[ab2 h2,h1]
    have e2:(xl+1) * n=(rows.flatten++r).length:=by rw[s8,hfl,hr,E8,Nat.one_mul]
    show((rows.flatten++r)++List.drop (xl * n+n) cur).take ((xl+1) * n)=_
    rw[e2,List.take_left];simp
  ·have holds : ∀ j u, rows.flatten[j]? = some u -> w.cell? ((⟨g, 0, none⟩ : Addr).add j) = some u := by
    intro j u hu
    rw[Y6 hwg,H6]
    rw[<-h7]at hu
    rw[List.getElem?_take]at hu
    split at hu
    ·exact hu
    ·cases hu
   have hlo:rows.flatten.length=xl * i.size:=by rw[ab2 h2,h1,hsize]
   have hbound:(xl+1) * i.bytes<=140737488355328:=by
    rw[hby]
    have:(xl+1) * bytes<=1000000000 * 100000:=Nat.mul_le_mul (by omega) hbytes
    omega
   have hrun:=run_append_grow (P:=P) w t ty e i z ht hi hz ⟨g,0,none⟩ xl xc rows.flatten hlo holds ⟨b,0,none⟩ 1 1 r hl1 hnews (by omega) (by omega) (growslice_fits (by omega) hbound)
   show reach P _ ((builtin .append #[t,t] ty ⟨cs⟩ ⟨[.slice (some ⟨g,0,none⟩) xl xc,.slice (some ⟨b,0,none⟩) 1 1]⟩).run P w)
   rw[hbi,hrun]
   have hge:=grownCap_ge w (xl+1) xc e
   have hfl:rows.flatten.length=xl * n:=by rw[ab2 h2,h1]
   refine⟨_,extd _,Q7 (hK ⟨some ⟨w.heap.size,0,none⟩,xl+1,grownCap w (xl+1) xc e⟩ _ ⟨?_,hall,.inr ⟨w.heap.size,(rows.flatten.toArray++r.toArray++Builtin.zeroCells z.cells (grownCap w (xl+1) xc e - (xl+1))).toList,(0,0),.inl (A6 _),rfl,H.put_same _ _ _,?_,hge,?_⟩⟩ (.inr ⟨w.heap.size,rfl,hwn,Gr.put hwn _⟩))⟩
   ·simp[h1]
   ·simp only[P3,s8,Array.length_toList,size_zeroCells,hzs,hr,hfl]
    have:grownCap w (xl+1) xc e * n=(grownCap w (xl+1) xc e - (xl+1)) * n+(xl+1) * n:=by
     rw[<-E8,show grownCap w (xl+1) xc e - (xl+1)+(xl+1)=grownCap w (xl+1) xc e by omega]
    rw[E8,Nat.one_mul]at this
    have l1:rows.flatten.toArray.size=xl * n:=by simp[hfl]
    have l2:r.toArray.size=n:=by simp[hr]
    omega
   ·rw[List.flatten_append]
    have e2:(xl+1) * n=(rows.flatten++r).length:=by rw[s8,hfl,hr,E8,Nat.one_mul]
    show List.take ((xl+1) * n) _=_
    rw[P3,P3]
    show List.take ((xl+1) * n) ((rows.flatten++r)++_)=_
    rw[e2,List.take_left];simp
theorem be2 {src dst e:TypeId} (hs:P.underlying src=some .string) (hd:P.underlying dst=some (.slice e)) (he:P.underlying e=some (.int .u8)) (s:ByteArray) {F:Sl->H->Prop} (hF:∀x σ',Gr σ σ'->ao6 σ' e 1 (B1 s.data.toList) x->(∀g,x.base=some ⟨g,0,none⟩->σ g=none)->F x σ') :
 M7 P (convert src dst (.string s)) (.one (.sc .slc)) F σ:=by
 intro w hw
 have hrun:(ae0 (convert src dst (.string s))).run P w = .ok (.value (.slice (some ⟨w.heap.size,0,none⟩) s.size (grownCap w s.size 0 e))) (w.drew.alloc (.cells (bytesRow s (grownCap w s.size 0 e)) e ((bytesRow s (grownCap w s.size 0 e)).size,(bytesRow s (grownCap w s.size 0 e)).size+1))):=by
  simp only[ae0,Sem.run_bind,run_bytes_of_string w src dst e s hs hd he,Result.andThen_ok,Sem.run_pure]
 rw[hrun]
 have hn:σ w.heap.size=none:=by
  cases hg:σ w.heap.size with
  | none=>rfl
  | some o=>have:=hw.lt hg;omega
 have h5:=(I0.alloc (σ:=σ) (w:=w.drew) hw (.cells (bytesRow s (grownCap w s.size 0 e)) e ((bytesRow s (grownCap w s.size 0 e)).size,(bytesRow s (grownCap w s.size 0 e)).size+1))).2
 have hl:s.data.toList.length=s.size:=by cases s with | mk d=>simp[ByteArray.size]
 have hge:=grownCap_ge w s.size 0 e
 refine⟨_,⟨h5.le,h5.size,h5.keep,h5.own,h5.os,h5.tape,h5.output⟩,Q7 (hF ⟨some ⟨w.heap.size,0,none⟩,s.size,grownCap w s.size 0 e⟩ _ (Gr.put hn _) ⟨by rw[D7,hl],au0 _,.inr ⟨w.heap.size,(bytesRow s (grownCap w s.size 0 e)).toList,_,.inr ?_,rfl,H.put_same _ _ _,?_,hge,?_⟩⟩ ?_)⟩
 ·simp
 ·simp[bytesRow,hl]
  have:s.data.size=s.size:=rfl
  omega
 ·rw[Z0]
  unfold bytesRow
  rw[P3,P4]
  have:s.size=(s.data.map (fun b=>Value.int .u8 b.toNat)).toList.length:=by show s.data.size=_;rw[Array.length_toList,Array.size_map]
  rw[this,List.take_left];simp
 ·intro g hg;injection hg with hg;injection hg with hg;subst hg;exact hn
end
def RNz (σ0 σ:H) (e:TypeId) (n:Nat) (rows:List (List Value)) (y:Sl):Prop:=Gr σ0 σ/\ao6 σ e n rows y /\ ∀g,y.base=some ⟨g,0,none⟩->σ0 g=none
theorem RNz.gr {σ0 σ σ':H} {e:TypeId} {n:Nat} {rows:List (List Value)} {y:Sl} (h:RNz σ0 σ e n rows y) (hg:Gr σ σ'):RNz σ0 σ' e n rows y:=⟨h.1.trans hg,h.2.1.gr hg,h.2.2⟩
theorem RNz.at {σ0 σ:H} {e:TypeId} {n:Nat} {rows:List (List Value)} {y:Sl} (h:RNz σ0 σ e n rows y):w7 σ n rows y:=h.2.1.rows
theorem RNz.len {σ0 σ:H} {e:TypeId} {n:Nat} {rows:List (List Value)} {y:Sl} (h:RNz σ0 σ e n rows y):y.len=rows.length:=h.2.1.1
theorem RNz.cap {σ0 σ:H} {e:TypeId} {n:Nat} {rows:List (List Value)} {y:Sl} (h:RNz σ0 σ e n rows y):y.len<=y.cap:=by
 obtain⟨h1,_,⟨_,h2,h3⟩ | ⟨g,cur,fz,_,_,_,_,h4,_⟩⟩:=h.2.1
 ·rw[h1,h3];exact Nat.zero_le _
 ·exact h4
theorem RNz.app1 {P:Program} {σ0 σ:H} {t e ty:TypeId} {n:Nat} {rows:List (List Value)} {y:Sl} {cs:List Bool} (hT:ElT P t e n) (h:RNz σ0 σ e n rows y) {r:List Value} {tb:TypeId} (hr:r.length=n) (hone:r.all (·.oneCell')=true) (hl:rows.length<1000000000) {F:Sl->H->Prop}
 (hF:∀y' σ',RNz σ0 σ' e n (rows++[r]) y'->(∀c o,σ c=some o->y.base≠some ⟨c,0,none⟩->σ' c=some o)->(∀g,y'.base=some ⟨g,0,none⟩->y.base=some ⟨g,0,none⟩\/σ g=none)->F y' σ') :
 A9 (.cells ⟨r⟩ tb (0,0)) (fun b=>R1 P .append #[t,t] ty cs [.slice y.base y.len y.cap,.slice (some ⟨b,0,none⟩) 1 1] (.one (.sc .slc)) F) σ:=by
 refine x0 ?_
 intro b σ1 g1 e1 n1
 obtain⟨h1,h0,i,z,i1,i2,i3,i4,i5⟩:=hT
 refine bL8 h1 i1 i2 i3 rfl i5 h0 (h.2.1.gr g1) e1 hr (fun u hu=>Q2.1 hone u hu) hl (F5 i4 (by decide)) ?_
 intro y' σ' hy' hc
 rcases hc with⟨g,o,q1,q2,q3⟩ | ⟨g,q1,q3,q4⟩
 ·have hg0:=h.2.2 g q1
  refine hF y' σ' ⟨(h.1.trans g1).putF q3 hg0,hy',fun g' hg=>h.2.2 g' (by rw[<-q2];exact hg)⟩ (fun c o' hc hne=>q3.get (fun e=>hne (by rw[e];exact q1)) (g1.get hc)) (fun g' hg => .inl (by rw[<-q2];exact hg))
 ·have hn : ∀ g', y'.base = some ⟨g', 0, none⟩ -> σ1 g' = none := by
   intro g' hg
   rw[q1]at hg;injection hg with hg;injection hg with hg;subst hg;exact q3
  exact hF y' σ' ⟨(h.1.trans g1).trans q4,hy',fun g' hg=>C3 (h.1.trans g1) (hn g' hg)⟩ (fun c o' hc _=>q4.get (g1.get hc)) (fun g' hg => .inr (C3 g1 (hn g' hg)))
end Go.HL

namespace Go.Wk
open Go Go.HL
def az7 (x k:Int):Int:=A0 .or .u32 (IntKind.u32.wrap (x * 2 ^ min (Int.toNat (A0 .and .u64 (IntKind.u64.wrap k) 31)) (IntKind.bits .u32))) (Int.fdiv x (2 ^ min (Int.toNat (IntKind.u64.wrap (32 - (A0 .and .u64 (IntKind.u64.wrap k) 31)))) (IntKind.bits .u32)))
def Y1 (x:Int):List Int->Int->Int
 | [],o=>o
 | n::r,o=>Y1 x r (A0 .xor .u32 o (az7 x (IntKind.i64.wrap (0 - n))))
def aT4 (x y:Int):Int:=(IntKind.u64.wrap ((IntKind.u64.wrap ((IntKind.u64.wrap ((Int.fdiv x (2 ^ min (Int.toNat 32) (IntKind.bits .u64))) * (Int.fdiv y (2 ^ min (Int.toNat 32) (IntKind.bits .u64)))))+(Int.fdiv (IntKind.u64.wrap ((IntKind.u64.wrap ((Int.fdiv x (2 ^ min (Int.toNat 32) (IntKind.bits .u64))) * (A0 .and .u64 y 4294967295)))+(Int.fdiv (IntKind.u64.wrap ((A0 .and .u64 x 4294967295) * (A0 .and .u64 y 4294967295))) (2 ^ min (Int.toNat 32) (IntKind.bits .u64))))) (2 ^ min (Int.toNat 32) (IntKind.bits .u64)))))+(Int.fdiv (IntKind.u64.wrap ((A0 .and .u64 (IntKind.u64.wrap ((IntKind.u64.wrap ((Int.fdiv x (2 ^ min (Int.toNat 32) (IntKind.bits .u64))) * (A0 .and .u64 y 4294967295)))+(Int.fdiv (IntKind.u64.wrap ((A0 .and .u64 x 4294967295) * (A0 .and .u64 y 4294967295))) (2 ^ min (Int.toNat 32) (IntKind.bits .u64))))) 4294967295)+(IntKind.u64.wrap ((A0 .and .u64 x 4294967295) * (Int.fdiv y (2 ^ min (Int.toNat 32) (IntKind.bits .u64))))))) (2 ^ min (Int.toNat 32) (IntKind.bits .u64)))))
def be3 (x y:Int):Int:=IntKind.u64.wrap (x * y)
def be4 (x y:Int):Int:=((x.toNat+y.toNat+0) % 2 ^ 64:Nat)
def bv0 (x y:Int):Int:=((x.toNat+y.toNat+0) / 2 ^ 64:Nat)
def aT5 (p:Int):Int:=IntKind.u64.wrap (p * 2 ^ min (Int.toNat 32) (IntKind.bits .u64))
def aF9 (x p:Int):Bool :=
 let hi:=aT4 x x
 let lo:=be3 x x
 let h1:=aT4 lo x
 let l1:=be3 lo x
 let h2:=aT4 hi x
 let l2:=be3 hi x
 if decide (IntKind.u64.wrap (h2+bv0 h1 l2)>0)then true else if decide (be4 h1 l2>aT5 p)then true else if be4 h1 l2==aT5 p then decide (l1>0)else false
def ai7 (x p:Int):Bool:=if decide (aT4 x x>p)then true else if aT4 x x==p then decide (be3 x x>0)else false
def ai8 (low high:Int):Int:=IntKind.u64.wrap (Int.tdiv (IntKind.u64.wrap (low+high)) 2)
def af8 (ab:Int->Int->Bool) (p:Int):Nat->Int->Int->Option Int
 | 0,_,_=>none
 | n+1,low,high=>if decide (IntKind.u64.wrap (high - low)>1)then(if ab (ai8 low high) p then af8 ab p n low (ai8 low high)else af8 ab p n (ai8 low high) high)else some (IntKind.u32.wrap low)
def isP (x:Int):List Int->Option Bool
 | []=>some true
 | p::r=>if p≠0 then(if Int.tmod x p==0 then some false else isP x r)else none
def X7:Nat->Int->List Int->Option (List Int)
 | 0,_,_=>none
 | n+1,x,l=>if decide ((l.length:Int)<64)then(match isP x l with
  | some true=>X7 n (IntKind.u64.wrap (x+1)) (l++[x])
  | some false=>X7 n (IntKind.u64.wrap (x+1)) l
  | none=>none)else some l
def U6 (ab:Int->Int->Bool):List Int->Option (List Int)
 | []=>some []
 | p::r=>match af8 ab p 50 0 68719476736,U6 ab r with
  | some x,some l=>some (x::l)
  | _,_=>none
structure W8 where (a b c d e f g h:Int)
def W8.ints (v:W8):List Int:=[v.a,v.b,v.c,v.d,v.e,v.f,v.g,v.h]
def J2 (l:List Int):List Value:=l.map fun x => .int .u32 x
def W8.cells (v:W8):List Value:=[.int .u32 v.a,.int .u32 v.b,.int .u32 v.c,.int .u32 v.d,.int .u32 v.e,.int .u32 v.f,.int .u32 v.g,.int .u32 v.h]
def cA8 (l:List UInt8) (i:Nat):Int :=
 let b:=fun k=>(((l.getD (4 * i+k) 0).toNat:Nat):Int)
 A0 .or .u32 (A0 .or .u32 (A0 .or .u32 (IntKind.u32.wrap ((IntKind.u32.wrap (b 0)) * 2 ^ min (Int.toNat 24) (IntKind.bits .u32))) (IntKind.u32.wrap ((IntKind.u32.wrap (b 1)) * 2 ^ min (Int.toNat 16) (IntKind.bits .u32)))) (IntKind.u32.wrap ((IntKind.u32.wrap (b 2)) * 2 ^ min (Int.toNat 8) (IntKind.bits .u32)))) (IntKind.u32.wrap (b 3))
def bL9 (w:List Int):Int :=
 let at_:=fun k=>w.getD (w.length - k) 0
 IntKind.u32.wrap ((IntKind.u32.wrap ((IntKind.u32.wrap (at_ 16+(A0 .xor .u32 (Y1 (at_ 15) [7,18] 0) (Int.fdiv (at_ 15) (2 ^ min (Int.toNat 3) (IntKind.bits .u32))))))+at_ 7))+(A0 .xor .u32 (Y1 (at_ 2) [17,19] 0) (Int.fdiv (at_ 2) (2 ^ min (Int.toNat 10) (IntKind.bits .u32)))))
def ar6 (l:List UInt8) (w:List Int):Int:=if w.length<16 then cA8 l w.length else bL9 w
def aG0 (l:List UInt8):Nat->List Int->List Int
 | 0,w=>w
 | n+1,w=>aG0 l n (w++[ar6 l w])
def bn5 (k w:Int) (v:W8):Int:=IntKind.u32.wrap ((IntKind.u32.wrap ((IntKind.u32.wrap ((IntKind.u32.wrap (v.h+Y1 v.e [6,11,25] 0))+(A0 .xor .u32 (A0 .and .u32 v.e v.f) (A0 .and .u32 (A0 .xor .u32 4294967295 v.e) v.g))))+k))+w)
def bM0 (v:W8):Int:=IntKind.u32.wrap (Y1 v.a [2,13,22] 0+(A0 .xor .u32 (A0 .xor .u32 (A0 .and .u32 v.a v.b) (A0 .and .u32 v.a v.c)) (A0 .and .u32 v.b v.c)))
def aL5 (k w:Int) (v:W8):W8:=⟨IntKind.u32.wrap (bn5 k w v+bM0 v),v.a,v.b,v.c,IntKind.u32.wrap (v.d+bn5 k w v),v.e,v.f,v.g⟩
def D0:List Int->List Int->W8->W8
 | k::ks,w::ws,v=>D0 ks ws (aL5 k w v)
 | _,_,v=>v
def W8.add (u v:W8):W8:=⟨IntKind.u32.wrap (u.a+v.a),IntKind.u32.wrap (u.b+v.b),IntKind.u32.wrap (u.c+v.c),IntKind.u32.wrap (u.d+v.d),IntKind.u32.wrap (u.e+v.e),IntKind.u32.wrap (u.f+v.f),IntKind.u32.wrap (u.g+v.g),IntKind.u32.wrap (u.h+v.h)⟩
def ar7 (k:List Int) (h:W8) (l:List UInt8):W8:=h.add (D0 k (aG0 l 64 []) h)
def cb1 (n:Nat) (i:Int):Int:=IntKind.u8.wrap (Int.fdiv (IntKind.u64.wrap ((IntKind.u64.wrap ((n:Nat):Int)) * 8)) (2 ^ min (Int.toNat (IntKind.i64.wrap (8 * (IntKind.i64.wrap (7 - i))))) (IntKind.bits .u64)))
def aq3 (n:Nat) (i:Nat):UInt8:=UInt8.ofNat (cb1 n i).toNat
def aj4 (l:List UInt8):List UInt8:=l++128::(List.replicate ((119 - l.length % 64) % 64) 0++[aq3 l.length 0,aq3 l.length 1,aq3 l.length 2,aq3 l.length 3,aq3 l.length 4,aq3 l.length 5,aq3 l.length 6,aq3 l.length 7])
def ai9 (k:List Int):Nat->W8->List UInt8->W8
 | 0,h,_=>h
 | n+1,h,l=>ai9 k n (ar7 k h (l.take 64)) (l.drop 64)
def ae2 (x:Int):List Int:=[IntKind.u8.wrap (Int.fdiv x (2 ^ min (Int.toNat 24) (IntKind.bits .u32))),IntKind.u8.wrap (Int.fdiv x (2 ^ min (Int.toNat 16) (IntKind.bits .u32))),IntKind.u8.wrap (Int.fdiv x (2 ^ min (Int.toNat 8) (IntKind.bits .u32))),IntKind.u8.wrap x]
def bM1 (h:W8):List UInt8:=(h.ints.flatMap ae2).map fun x=>UInt8.ofNat x.toNat
end Go.Wk

set_option maxRecDepth 1000000
namespace Go.Wk
open Go Go.HL
def ap7:List Int:=[2,3,5,7,11,13,17,19,23,29,31,37,41,43,47,53,59,61,67,71,73,79,83,89,97,101,103,107,109,113,127,131,137,139,149,151,157,163,167,173,179,181,191,193,197,199,211,223,227,229,233,239,241,251,257,263,269,271,277,281,283,293,307,311]
theorem be5:X7 400 2 []=some ap7:=by decide +kernel
theorem aT6:ap7.length=64:=rfl
def Z7:List Int:=[1116352408,1899447441,3049323471,3921009573,961987163,1508970993,2453635748,2870763221,3624381080,310598401,607225278,1426881987,1925078388,2162078206,2614888103,3248222580,3835390401,4022224774,264347078,604807628,770255983,1249150122,1555081692,1996064986,2554220882,2821834349,2952996808,3210313671,3336571891,3584528711,113926993,338241895,666307205,773529912,1294757372,1396182291,1695183700,1986661051,2177026350,2456956037,2730485921,2820302411,3259730800,3345764771,3516065817,3600352804,4094571909,275423344,430227734,506948616,659060556,883997877,958139571,1322822218,1537002063,1747873779,1955562222,2024104815,2227730452,2361852424,2428436474,2756734187,3204031479,3329325298]
theorem bM2:U6 aF9 ap7=some Z7:=by decide +kernel
theorem ag9:Z7.length=64:=rfl
def ae3:W8:=⟨1779033703,3144134277,1013904242,2773480762,1359893119,2600822924,528734635,1541459225⟩
theorem bM3:U6 ai7 (ap7.take 8)=some ae3.ints:=by decide +kernel
def W9 (l:List UInt8):List UInt8 :=
 let W:=ai9 Z7 ((aj4 l).length / 64) ae3 (aj4 l)
 bM1 W
end Go.Wk

namespace Go.Wk
open Go Go.HL
def L2:List UInt8:=[48,49,50,51,52,53,54,55,56,57,97,98,99,100,102,103,104,105,106,107,108,109,110,112,113,114,115,118,119,120,121,122]
def be6 (hv b:Int):Int:=A0 .and .u64 (Int.fdiv hv (2 ^ min (Int.toNat b) (IntKind.bits .u64))) 31
def aY4 (hv b:Int):UInt8:=L2.getD (be6 hv b).toNat 0
def inP (hv b:Int):Int×List UInt8:=if b>=5 then(if b - 5>=5 then(b - 10,[aY4 hv (b - 5),aY4 hv (b - 10)])else(b - 5,[aY4 hv (b - 5)]))else(b,[])
def orH (hv:Int) (c:UInt8):Int:=A0 .or .u64 (IntKind.u64.wrap (hv * 2 ^ min (Int.toNat 8) (IntKind.bits .u64))) (IntKind.u64.wrap ((c.toNat:Nat):Int))
def bB5 (hv b:Int):Int:=A0 .and .u64 hv (IntKind.u64.wrap ((IntKind.u64.wrap (1 * 2 ^ min (Int.toNat b) (IntKind.bits .u64))) - 1))
def L7:List UInt8->Int->Int->List UInt8
 | [],_,_=>[]
 | c::r,hv,b=>(inP (orH hv c) (b+8)).2++L7 r (bB5 (orH hv c) (inP (orH hv c) (b+8)).1) (inP (orH hv c) (b+8)).1
def ar8 (l:List UInt8):List UInt8:=L7 ((W9 l).take 20) 0 0
def C0 (l:List UInt8):Bool:=l.all L2.contains&&l.length==32
def X3 (c:UInt8):Bool:=(decide (97<=c.toNat)&&decide (c.toNat<=122))||((decide (65<=c.toNat)&&decide (c.toNat<=90))||((decide (48<=c.toNat)&&decide (c.toNat<=57))||[43,45,46,95].contains c))
def L3 (l:List UInt8):Int:=if l.length>20 then 3 else if l.all X3 && !l.isEmpty&&l.head? != some 46 then 0 else 2
def ak7 (h n:List UInt8):List UInt8×Int:=if C0 h then(if L3 n==0 then(h++45::n,0)else([],L3 n))else([],2)
def I9 (p:List UInt8):List UInt8×List UInt8×Int:=if decide (p.length>32)&&p.getD 32 0==45&&C0 (p.take 32)&&L3 (p.drop 33)==0 then(p.take 32,p.drop 33,0)else([],[],4)
theorem bv1 (l:List UInt8):(W9 l).length=32:=rfl
theorem bM4 (hv b:Int):0<=be6 hv b/\be6 hv b<32:=by
 unfold be6 A0
 show 0<=IntKind.u64.wrap _/\IntKind.u64.wrap _<32
 have h1 : ∀x y:BitVec 64,y=31->((x &&& y).toNat)<32:=by
  intro x y hy;subst hy
  rw[BitVec.toNat_and]
  exact Nat.lt_of_le_of_lt Nat.and_le_right (by decide)
 have h2:=h1 (BitVec.ofInt 64 (Int.fdiv hv (2 ^ min (Int.toNat b) (IntKind.bits .u64)))) (BitVec.ofInt 64 31) (by decide)
 unfold IntKind.wrap
 simp only[IntKind.signed,H4,F4,if_false]
 have h3:((BitVec.ofInt IntKind.u64.bits (Int.fdiv hv (2 ^ min (Int.toNat b) (IntKind.bits .u64))) &&& BitVec.ofInt IntKind.u64.bits 31).toNat:Int)<32:=by
  exact_mod_cast h2
 rw[Int.emod_eq_of_lt (Int.natCast_nonneg _) (Int.lt_of_lt_of_le h3 (by decide))]
 exact⟨Int.natCast_nonneg _,h3⟩
end Go.Wk

set_option maxRecDepth 100000
namespace Go.Wk
open Go Go.HL
abbrev bs (l:List UInt8):ByteArray:=⟨⟨l⟩⟩
structure Dn where
 out:ByteArray
 err:ByteArray
 st:Int
def Dn.z:Dn:=⟨⟨⟨[]⟩⟩,⟨⟨[]⟩⟩,0⟩
structure Pc where
 text:ByteArray
 kind:UInt8
 width:Nat
 left:Bool
structure PS where
 args:List ByteArray
 took:Bool
 err:ByteArray
 st:Int
 out:ByteArray
def PS.a0 (s:PS):ByteArray:=match s.args with
 | []=>⟨⟨[]⟩⟩
 | a::_=>a
end Go.Wk

set_option maxRecDepth 100000
namespace Go.Wk
open Go Go.HL
def pS (w:Nat) (l:Bool):Pc:=⟨⟨⟨[]⟩⟩,115,w,l⟩
end Go.Wk

namespace Go.Wk
open Go Go.HL
def Tr.z:Tr := .mk ⟨⟨[]⟩⟩ 0 false ⟨⟨[]⟩⟩ []
def Tr.named (s:ByteArray):Tr->Tr
 | .mk _ k e d kids => .mk s k e d kids
def cl9:List UInt8->List UInt8
 | []=>[]
 | x::r=>match r with
  | []=>(match x==47 with | true=>[] | false=>[x])
  | _::_=>x::cl9 r
def trimS (p:ByteArray):ByteArray:=⟨⟨cl9 p.data.toList⟩⟩
def dj7 (p n:ByteArray):ByteArray:=sub (trimS p) n
def bv2 (g:ByteArray->Int×Tr) (path:ByteArray):List ByteArray->Int×List Tr
 | []=>(0,[])
 | n::r=>let x:=g (dj7 path n)
  if x.1≠0 then(x.1,[]) else
   let y:=bv2 g path r
   (y.1,x.2.named n::y.2)
def xOf (k m:Int):Bool:=k==1&&(A0 .and .i64 m 73:Int) != 0
def AT.take (A:AT):Nat->ByteArray->Int×Tr
 | 0,_=>(3,Tr.z)
 | f+1,path =>
  let x:=A.stat ⟨⟨[47]⟩⟩ path false
  if x.1≠0 then(x.1,Tr.z)
  else if x.2.kind=2 then
   let l:=A.listF ⟨⟨[47]⟩⟩ path
   if l.1≠0 then(l.1,Tr.z)
   else
    let r:=bv2 (AT.take A f) path l.2
    (r.1,.mk ⟨⟨[]⟩⟩ 2 false x.2.data r.2)
  else(0,.mk ⟨⟨[]⟩⟩ x.2.kind (xOf x.2.kind x.2.mode) x.2.data [])
mutual
def Tr.same:Tr->Tr->Bool
 | .mk n k e d kids,u => !(Tr.mk n k e d kids).tooDeep&&(!u.tooDeep&&(sEq n u.name&&((k==u.kind)&&((e==u.exec)&&(sEq d u.data&&(Nat.beq kids.length u.kids.length&&Tr.sameRow kids u.kids))))))
def Tr.sameRow:List Tr->List Tr->Bool
 | [],_=>true
 | t::r,l=>match l with
  | []=>false
  | u::s=>Tr.same t u&&Tr.sameRow r s
end
theorem I5 (s:ByteArray):s.size=s.data.toList.length:=by cases s with | mk d=>simp[ByteArray.size]
theorem O3 {a b:ByteArray} (h:a.data.toList=b.data.toList):a=b:=by
 obtain⟨⟨a⟩⟩:=a;obtain⟨⟨b⟩⟩:=b
 have h:a=b:=h
 rw[h]
end Go.Wk

