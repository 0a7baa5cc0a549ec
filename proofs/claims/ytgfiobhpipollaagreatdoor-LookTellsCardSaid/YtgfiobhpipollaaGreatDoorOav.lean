/- A part of a proof. -/
import Derived.Test.YtgfiobhpipollaaGreatDoorOau
namespace Go.HL
open Go
theorem bA9 {n:Nat} {cur:List Value} : ∀ {rows:List (List Value)} {o:Nat},(∀i r,rows[i]? = some r->r.length=n/\(cur.drop (o+i * n)).take n=r)->(cur.drop o).take (rows.length * n)=rows.flatten:=by
 intro rows
 induction rows with
 | nil=>intro o _;simp
 | cons r rs ih =>
  intro o h
  have h0:=(h 0 r rfl).2
  rw[Nat.zero_mul,Nat.add_zero]at h0
  have h1:=ih (o:=o+n) fun i q hq=>by
   have:=h (i+1) q (by simpa using hq)
   rw[E8,Nat.one_mul,show o+(i * n+n)=o+n+i * n by omega]at this
   exact this
  rw[y5,E8,Nat.one_mul,ay8,List.take_add,h0,List.drop_drop,h1];rfl
theorem bL2 {σ:H} {b:Nat} {o:Obj} (h:σ b=some o):L6 σ b o σ:=by
 show σ=σ.put b o
 funext k
 by_cases e:k=b
 ·subst e;rw[H.put_same,h]
 ·rw[H.put_other _ _ e]
section
variable {P : Program} {σ : H}
theorem bB0 {t ty e:TypeId} {i:TypeInfo} {z:Value} {n bytes:Nat} {cs:List Bool} {rows rows2:List (List Value)} {x y:Sl} {F:Sl->H->Prop}
 (ht:P.underlying t=some (.slice e)) (hi:P.info? e=some i) (hz:i.zero=some z) (hsize:i.size=n) (hby:i.bytes=bytes) (hzs:z.cells.size=n) (hn:0<n)
 (h:D8 σ e n rows x) (hy:w7 σ n rows2 y) (hone:∀r∈rows2,∀u∈r,u.oneCell'=true) (hlen:rows.length+rows2.length<1000000000000) (hbytes:bytes<=100)
 (hK:∀x' σ',D8 σ' e n (rows++rows2) x'->((∃g o,x.base=some ⟨g,0,none⟩/\x'.base=x.base/\L6 σ g o σ')\/(((∃g,x'.base=some ⟨g,0,none⟩/\σ g=none)\/x'.base=none)/\Gr σ σ'))->F x' σ') :
 R1 P .append #[t,t] ty cs [.slice x.base x.len x.cap,.slice y.base y.len y.cap] (.one (.sc .slc)) F σ:=by
 intro w hw
 obtain⟨h1,h2,h3⟩:=id h
 obtain⟨y1,y2⟩:=id hy
 have hbi : ∀ (a c:Value),(builtin .append #[t,t] ty ⟨cs⟩ ⟨[a,c]⟩).run P w=((Builtin.append_ #[t,t] ty #[a,c]).run P w).andThen fun v w' => .ok (.value v) w':=by
  intro a c;simp[builtin]
 have hwn:σ w.heap.size=none:=by
  cases hg:σ w.heap.size with
  | none=>rfl
  | some o=>have:=hw.lt hg;omega
 have extd : ∀o:Obj,I0 σ w (σ.put w.heap.size o) (w.drew.alloc o):=by
  intro o
  have h5:=(I0.alloc (σ:=σ) (w:=w.drew) hw o).2
  exact⟨h5.le,h5.size,h5.keep,h5.own,h5.os,h5.tape,h5.output⟩
 obtain⟨xb,xl,xc⟩:=x
 obtain⟨yb,yl,yc⟩:=y
 simp only at h1 h3 y1 y2
 show reach P _ ((builtin .append #[t,t] ty ⟨cs⟩ ⟨[.slice xb xl xc,.slice yb yl yc]⟩).run P w)
 rw[hbi]
 by_cases he:rows2=[]
 ·subst he
  have hl0:yl=0:=by simpa using y1
  subst hl0
  have hf:(Builtin.firstCells i.size 0 (.slice yb 0 yc)).run P w = .ok #[] w:=by
   cases yb with
   | none=>exact run_firstCells_none (P:=P) (w:=w) i.size 0 0 yc
   | some a=>exact run_firstCells_some (P:=P) w i.size 0 a 0 yc [] (by simp) (by simp)
  have hle:xl<=xc:=by
   rcases h3 with⟨_,q,r⟩ | ⟨_,_,_,_,_,q,_⟩
   ·rw[r]at h1;simp at h1;omega
   ·exact q
  have hrun:(Builtin.append_ #[t,t] ty #[.slice xb xl xc,.slice yb 0 yc]).run P w = .ok (.slice xb xl xc) w:=by
   cases xb with
   | none =>
    rcases h3 with⟨_,q,r⟩ | ⟨_,_,q,_⟩
    ·have:xl=0:=by rw[r]at h1;simpa using h1
     subst this
     subst q
     simp[Builtin.append_,run_underlying ht,sizeOf,typeInfo,hi,Builtin.lenOf,hf]
    ·cases q
   | some a =>
    simp[Builtin.append_,run_underlying ht,sizeOf,typeInfo,hi,Builtin.lenOf,hf,hle,storeCells]
  rw[hrun]
  have hr:rows++[]=rows:=by simp
  refine⟨_,I0.refl hw,Q7 (hK ⟨xb,xl,xc⟩ σ (by rw[hr];exact h) ?_)⟩
  rcases h3 with⟨q,_,_⟩ | ⟨g,cur,q,q2,_⟩
  ·exact .inr ⟨.inr q,Gr.refl _⟩
  ·exact .inl ⟨g,_,q,rfl,bL2 q2⟩
 obtain⟨gy,oy,cy,ty',fzy,q1,q2,q3⟩:=y2.resolve_left he
 subst q1
 have hr2 : ∀r∈rows2,r.length=n:=fun r hr=>by
  obtain⟨j,hj⟩:=List.getElem?_of_mem hr
  exact(q3 j r hj).1
 have hfl2:rows2.flatten.length=rows2.length * n:=ab2 hr2
 have hpos:0<rows2.length:=List.length_pos_iff.2 he
 have hyf:=bA9 q3
 have hwy:=hw gy _ q2
 have hnews : ∀j u,rows2.flatten[j]? = some u->w.cell? ((⟨gy,oy,none⟩:Addr).add j)=some u:=by
  intro j u hu
  rw[Y6 hwy]
  rw[<-hyf,List.getElem?_take]at hu
  split at hu
  ·rw[List.getElem?_drop]at hu;exact hu
  ·cases hu
 have hl1:rows2.flatten.length=yl * i.size:=by rw[hsize,hfl2,y1]
 have hall : ∀q∈rows++rows2,q.length=n:=by
  intro q hq
  rcases N0.1 hq with hq | hq
  ·exact h2 q hq
  ·exact hr2 q hq
 have hone' : ∀u∈rows2.flatten,u.oneCell'=true:=by
  intro u hu
  obtain⟨r,hr,hu⟩:=List.mem_flatten.1 hu
  exact hone r hr u hu
 have hlen':(rows++rows2).length=rows.length+rows2.length:=s8
 have hflen:rows.flatten.length=rows.length * n:=ab2 h2
 have hmul:(rows.length+rows2.length) * n=rows.length * n+rows2.length * n:=E8 ..
 rcases h3 with⟨h3,h4,h5⟩ | ⟨g,cur,h3,h4,h5,h6,h7⟩
 ·subst h5;subst h3;subst h4
  have hxl:xl=0:=by simpa using h1
  subst hxl
  simp only[T8]at *
  have hrun:=run_append_nil (P:=P) (w:=w) t ty e i z ht hi hz ⟨gy,oy,none⟩ yl yc rows2.flatten hl1 hnews (by omega) (by omega) (by rw[hby];have:yl * bytes<=1000000000000 * 100:=Nat.mul_le_mul (by simp at hlen;omega) hbytes;omega)
  rw[hrun]
  have hge:=grownCap_ge w yl 0 e
  refine⟨_,extd _,Q7 (hK ⟨some ⟨w.heap.size,0,none⟩,yl,grownCap w yl 0 e⟩ _ ⟨y1,hall,.inr ⟨w.heap.size,(rows2.flatten.toArray++Builtin.zeroCells z.cells (grownCap w yl 0 e - yl)).toList,rfl,H.put_same _ _ _,?_,hge,?_⟩⟩ (.inr ⟨.inl ⟨w.heap.size,rfl,hwn⟩,Gr.put hwn _⟩))⟩
  ·rw[P3,s8,Array.length_toList,Array.length_toList,size_zeroCells,hzs]
   have:grownCap w yl 0 e * n=(grownCap w yl 0 e - yl) * n+yl * n:=by rw[<-E8];congr 1;omega
   have l2:rows2.flatten.toArray.size=yl * n:=by rw[List.size_toArray,hfl2,y1]
   show rows2.flatten.toArray.size+_=grownCap w yl 0 e * n
   omega
  ·show List.take (yl * n) _=_
   rw[P3]
   show List.take (yl * n) (rows2.flatten++_)=_
   rw[show yl * n=rows2.flatten.length by rw[hfl2,y1],List.take_left]
 ·have hwg:=hw g _ h4
  subst h3
  have hxn:rows.flatten.length=xl * n:=by rw[hflen,h1]
  by_cases hroom:xl+yl<=xc
  ·have hmr:(xl+yl) * n<=xc * n:=Nat.mul_le_mul_right n hroom
   rw[E8]at hmr
   have hfit:xl * i.size+rows2.flatten.length<=(⟨cur⟩:Array Value).size:=by
    show xl * i.size+rows2.flatten.length<=cur.length
    rw[hsize,hfl2,h5,<- y1];exact hmr
   have hrun:=run_append_room (P:=P) (w:=w) t ty e i ht hi g xl xc ⟨cur⟩ hwg ⟨gy,oy,none⟩ yl yc rows2.flatten hl1 hnews hone' hroom hfit
   rw[hrun]
   have hset:=aF6 (new:=(cur.take (xl * i.size)++rows2.flatten++cur.drop (xl * i.size+rows2.flatten.length)).toArray) hwg
   refine⟨_,I0.set hw h4 hset rfl rfl rfl,Q7 (hK ⟨some ⟨g,0,none⟩,xl+yl,xc⟩ _ ⟨by rw[hlen'];simp only;omega,hall,.inr ⟨g,_,rfl,H.put_same _ _ _,?_,hroom,?_⟩⟩ (.inl ⟨g,_,rfl,rfl,rfl⟩))⟩
   ·rw[hsize]
    have hle:xl * n+rows2.flatten.length<=cur.length:=by have:=hfit;rw[hsize]at this;exact this
    simp only[s8,F0,M1]
    omega
   ·rw[hsize,h7,List.flatten_append]
    have e2:(xl+yl) * n=(rows.flatten++rows2.flatten).length:=by rw[s8,hxn,hfl2,E8,y1]
    show((rows.flatten++rows2.flatten)++List.drop _ cur).take ((xl+yl) * n)=_
    rw[e2,List.take_left]
  ·have holds : ∀ j u, rows.flatten[j]? = some u -> w.cell? ((⟨g, 0, none⟩ : Addr).add j) = some u := by
    intro j u hu
    rw[Y6 hwg,H6]
    rw[<-h7,List.getElem?_take]at hu
    split at hu
    ·exact hu
    ·cases hu
   have hlo:rows.flatten.length=xl * i.size:=by rw[hxn,hsize]
   have hbound:(xl+yl) * i.bytes<=140737488355328:=by
    rw[hby]
    have:(xl+yl) * bytes<=1000000000000 * 100:=Nat.mul_le_mul (by omega) hbytes
    omega
   have hrun:=run_append_grow (P:=P) (w:=w) t ty e i z ht hi hz ⟨g,0,none⟩ xl xc rows.flatten hlo holds ⟨gy,oy,none⟩ yl yc rows2.flatten hl1 hnews (by omega) (by omega) (growslice_fits (by omega) hbound)
   rw[hrun]
   have hge:=grownCap_ge w (xl+yl) xc e
   refine⟨_,extd _,Q7 (hK ⟨some ⟨w.heap.size,0,none⟩,xl+yl,grownCap w (xl+yl) xc e⟩ _ ⟨by rw[hlen'];simp only;omega,hall,.inr ⟨w.heap.size,(rows.flatten.toArray++rows2.flatten.toArray++Builtin.zeroCells z.cells (grownCap w (xl+yl) xc e - (xl+yl))).toList,rfl,H.put_same _ _ _,?_,hge,?_⟩⟩ (.inr ⟨.inl ⟨w.heap.size,rfl,hwn⟩,Gr.put hwn _⟩))⟩
   ·simp only[P3,s8,Array.length_toList,size_zeroCells,hzs]
    have:grownCap w (xl+yl) xc e * n=(grownCap w (xl+yl) xc e - (xl+yl)) * n+(xl+yl) * n:=by
     rw[<-E8];congr 1;omega
    rw[E8 xl]at this
    have l1:rows.flatten.toArray.size=xl * n:=by rw[List.size_toArray,hxn]
    have l2:rows2.flatten.toArray.size=yl * n:=by rw[List.size_toArray,hfl2,y1]
    simp only[List.size_toArray]at l1 l2
    show rows.flatten.length+rows2.flatten.length+_=grownCap w (xl+yl) xc e * n
    omega
   ·rw[List.flatten_append]
    have e2:(xl+yl) * n=(rows.flatten++rows2.flatten).length:=by rw[s8,hxn,hfl2,E8,y1]
    show List.take ((xl+yl) * n) _=_
    rw[P3,P3]
    show List.take ((xl+yl) * n) ((rows.flatten++rows2.flatten)++_)=_
    rw[e2,List.take_left]
end
def E7 (σ0 σ:H) (e:TypeId) (n:Nat) (rows:List (List Value)) (y:Sl):Prop:=Gr σ0 σ/\D8 σ e n rows y /\ ∀g,y.base=some ⟨g,0,none⟩->σ0 g=none
def ElT (P:Program) (t e:TypeId) (n:Nat):Prop:=P.underlying t=some (.slice e)/\0<n /\ ∃i z,P.info? e=some i/\i.zero=some z/\i.size=n/\i.bytes<=100/\z.cells.size=n
theorem ax7 {P:Program} {t e:TypeId} {n:Nat} (h1:P.underlying t=some (.slice e)) (h0:0<n) (h:(P.info? e).map (fun i=>(i.size,Nat.ble i.bytes 100,i.zero.map fun z=>z.cells.size))=some (n,true,some n)):ElT P t e n:=by
 refine⟨h1,h0,?_⟩
 cases hi:P.info? e with
 | none=>rw[hi]at h;cases h
 | some i =>
  rw[hi]at h
  simp only[Option.map_some,Option.some.injEq,Prod.mk.injEq]at h
  cases hz:i.zero with
  | none=>rw[hz]at h;cases h.2.2
  | some z =>
   rw[hz]at h
   exact⟨i,z,rfl,hz,h.1,Nat.le_of_ble_eq_true h.2.1,by simpa using h.2.2⟩
section
variable {P : Program} {σ0 σ σ' : H} {t e ty : TypeId} {n : Nat} {rows rows2 : List (List Value)} {x y : Sl} {cs : List Bool}
theorem E7.nil (σ:H) (e:TypeId) (n:Nat):E7 σ σ e n [] ⟨none,0,0⟩:=⟨Gr.refl _,D8.nil _ _ _,fun g h=>by cases h⟩
theorem E7.nil' (h:Gr σ0 σ) (e:TypeId) (n:Nat):E7 σ0 σ e n [] ⟨none,0,0⟩:=⟨h,D8.nil _ _ _,fun g h=>by cases h⟩
theorem E7.gr (h:E7 σ0 σ e n rows y) (hg:Gr σ σ'):E7 σ0 σ' e n rows y:=⟨h.1.trans hg,h.2.1.gr hg,h.2.2⟩
theorem E7.putF (h:E7 σ0 σ e n rows y) {b:Nat} {o:Obj} (hp:L6 σ b o σ') (hn:σ0 b=none) (hb:y.base≠some ⟨b,0,none⟩):E7 σ0 σ' e n rows y:=⟨h.1.putF hp hn,h.2.1.put hp hb,h.2.2⟩
theorem E7.since {σ1:H} (h:E7 σ1 σ e n rows y) (hg:Gr σ0 σ1):E7 σ0 σ e n rows y:=⟨hg.trans h.1,h.2.1,fun g hx=>C3 hg (h.2.2 g hx)⟩
theorem E7.at (h:E7 σ0 σ e n rows y):w7 σ n rows y:=h.2.1.rows
theorem E7.len (h:E7 σ0 σ e n rows y):y.len=rows.length:=h.2.1.1
theorem E7.case {g0:Prop} (h:E7 σ0 σ e n rows y) (hx:D8 σ' e n rows2 x) (hc:(∃g o,y.base=some ⟨g,0,none⟩/\x.base=y.base/\L6 σ g o σ')\/(((∃g,x.base=some ⟨g,0,none⟩/\σ g=none)\/x.base=none)/\Gr σ σ'))
 (hF:E7 σ0 σ' e n rows2 x->(∀c o,σ c=some o->y.base≠some ⟨c,0,none⟩->σ' c=some o)->(∀g,x.base=some ⟨g,0,none⟩->y.base=some ⟨g,0,none⟩\/σ g=none)->g0):g0:=by
 obtain⟨h1,h2,h3⟩:=h
 rcases hc with⟨g,o,q1,q2,q3⟩ | ⟨q1,q2⟩
 ·refine hF ⟨h1.putF q3 (h3 g q1),hx,fun g' hg=>h3 g' (by rw[<-q2];exact hg)⟩ (fun c o' hc hne=>q3.get (fun e=>hne (by rw[e];exact q1)) hc) (fun g' hg => .inl (by rw[<-q2];exact hg))
 ·have hn : ∀ g, x.base = some ⟨g, 0, none⟩ -> σ g = none := by
   intro g hg
   rcases q1 with⟨g',q1,q3⟩ | q1
   ·rw[q1]at hg;injection hg with hg;injection hg with hg;subst hg;exact q3
   ·rw[q1]at hg;cases hg
  exact hF ⟨h1.trans q2,hx,fun g hg=>C3 h1 (hn g hg)⟩ (fun c o' hc _=>q2.get hc) (fun g hg => .inr (hn g hg))
theorem E7.app (hT:ElT P t e n) (h:E7 σ0 σ e n rows y) {b:Nat} {r:List Value} {tb:TypeId} {fz:Nat×Nat} (hb:σ b=some (.cells ⟨r⟩ tb fz)) (hr:r.length=n) (hone:r.all (·.oneCell')=true) (hl:rows.length<1000000000) {F:Sl->H->Prop}
 (hF:∀y' σ',E7 σ0 σ' e n (rows++[r]) y'->(∀c o,σ c=some o->y.base≠some ⟨c,0,none⟩->σ' c=some o)->(∀g,y'.base=some ⟨g,0,none⟩->y.base=some ⟨g,0,none⟩\/σ g=none)->F y' σ') :
 R1 P .append #[t,t] ty cs [.slice y.base y.len y.cap,.slice (some ⟨b,0,none⟩) 1 1] (.one (.sc .slc)) F σ:=by
 obtain⟨h1,h0,i,z,i1,i2,i3,i4,i5⟩:=hT
 refine az5 h1 i1 i2 i3 rfl i5 h0 h.2.1 hb hr (fun u hu=>Q2.1 hone u hu) hl (F5 i4 (by decide)) ?_
 intro y' σ' hy' hc
 exact h.case hy' (hc.imp id fun⟨g,q1,q2,q3⟩=>⟨.inl ⟨g,q1,q2⟩,q3⟩) fun a b c=>hF y' σ' a b c
theorem E7.app1 (hT:ElT P t e n) (h:E7 σ0 σ e n rows y) {r:List Value} {tb:TypeId} (hr:r.length=n) (hone:r.all (·.oneCell')=true) (hl:rows.length<1000000000) {F:Sl->H->Prop}
 (hF:∀y' σ',E7 σ0 σ' e n (rows++[r]) y'->(∀c o,σ c=some o->y.base≠some ⟨c,0,none⟩->σ' c=some o)->(∀g,y'.base=some ⟨g,0,none⟩->y.base=some ⟨g,0,none⟩\/σ g=none)->F y' σ') :
 A9 (.cells ⟨r⟩ tb (0,0)) (fun b=>R1 P .append #[t,t] ty cs [.slice y.base y.len y.cap,.slice (some ⟨b,0,none⟩) 1 1] (.one (.sc .slc)) F) σ:=by
 refine x0 ?_
 intro b σ1 g1 e1 n1
 refine(h.gr g1).app hT e1 hr hone hl ?_
 intro y' σ' a c d
 exact hF y' σ' a (fun c' o hc hne=>c c' o (g1.get hc) hne) fun g hg=>(d g hg).imp id fun hn=>C3 g1 hn
theorem E7.apps (hT:ElT P t e n) (h:E7 σ0 σ e n rows y) (hx:w7 σ n rows2 x) (hone:∀r∈rows2,∀u∈r,u.oneCell'=true) (hl:rows.length+rows2.length<1000000000000) {F:Sl->H->Prop}
 (hF:∀y' σ',E7 σ0 σ' e n (rows++rows2) y'->(∀c o,σ c=some o->y.base≠some ⟨c,0,none⟩->σ' c=some o)->(∀g,y'.base=some ⟨g,0,none⟩->y.base=some ⟨g,0,none⟩\/σ g=none)->F y' σ') :
 R1 P .append #[t,t] ty cs [.slice y.base y.len y.cap,.slice x.base x.len x.cap] (.one (.sc .slc)) F σ:=by
 obtain⟨h1,h0,i,z,i1,i2,i3,i4,i5⟩:=hT
 refine bB0 h1 i1 i2 i3 rfl i5 h0 h.2.1 hx hone hl i4 ?_
 intro y' σ' hy' hc
 exact h.case hy' hc fun a b c=>hF y' σ' a b c
theorem w7.rdA (h:w7 σ n rows x) {i:Nat} {r:List Value} (hi:rows[i]? = some r) (hn:0<n) : ∃g o,x.base=some ⟨g,o,none⟩/\rdA n g (o+i * n) σ=some (.agg ⟨r⟩) /\ ∀k v,r[k]? = some v->s5 g (o+i * n+k) σ=some v:=by
 obtain⟨g,o,h2,h3⟩:=h.rd hi hn
 refine⟨g,o,h2,h3,fun k v hk => ?_⟩
 obtain⟨h1,h4 | ⟨g',o',cur,t,fz,q2,q3,q4⟩⟩:=h
 ·rw[h4]at hi;simp at hi
 ·rw[h2]at q2
  injection q2 with q2
  injection q2 with e1 e2
  subst e1;subst e2
  refine f0 q3 ?_
  obtain⟨hl,h5⟩:=q4 _ _ hi
  have hkn:k<n:=by
   rw[<-hl]
   rcases F6 k r.length with h | h
   ·exact h
   ·rw[L4 h]at hk;cases hk
  rw[<-h5,List.getElem?_take_of_lt hkn,List.getElem?_drop]at hk
  exact hk
theorem w7.keep {σ σ':H} {n:Nat} {rows:List (List Value)} {x:Sl} (h:w7 σ n rows x) (hk:∀g o ob,x.base=some ⟨g,o,none⟩->σ g=some ob->σ' g=some ob):w7 σ' n rows x:=by
 obtain⟨h1,h2 | ⟨g,o,cur,t,fz,h3,h4,h5⟩⟩:=h
 ·exact⟨h1,.inl h2⟩
 ·exact⟨h1,.inr ⟨g,o,cur,t,fz,h3,hk g o _ h3 h4,h5⟩⟩
theorem w7.sub (h:w7 σ n rows x) (hc:x.len<=x.cap) {k e:Nat} (hk:k<=e) (he:e<=rows.length) (m:Nat):w7 σ n ((rows.take e).drop k) ⟨F8 x.base k x.cap n,e - k,m⟩:=by
 obtain⟨q1,q2 | ⟨g,o,cur,t,fz,q3,q4,q5⟩⟩:=h
 ·subst q2
  exact⟨by simp at he ⊢;omega,.inl (by simp)⟩
 ·refine⟨by simp;omega,?_⟩
  by_cases hke:x.cap=k
  ·exact .inl (M8 (by rw[F0];omega))
  refine .inr ⟨g,o+k * n,cur,t,fz,?_,q4,fun i r hr => ?_⟩
  ·show F8 x.base k x.cap n=_
   unfold F8;rw[c0 hke,q3,Option.map_some,W0]
  ·rw[List.getElem?_drop,List.getElem?_take]at hr
   split at hr
   ·have:=q5 (k+i) r hr
    rw[E8,<- Nat.add_assoc]at this
    exact this
   ·cases hr
end
theorem P0 {σ σ':H} (h:∀b o,σ b=some o->σ' b=some o):Gr σ σ':=h
def n9 (l:List ByteArray):List (List Value):=l.map fun s=>[.string s]
end Go.HL

