/- A part of a proof. -/
import Derived.Test.YtikedigonnlbkaaGreatDoorSau
namespace Go.HL
open Go
theorem bK6{n:Nat}{cur:List u9}:∀ {rows:List (List u9)} {o:Nat},(∀i r,rows[i]?=some r->r.length=n/\(cur.drop (o+i*n)).take n=r)->(cur.drop o).take (rows.length*n)=rows.flatten:=by
 intro rows
 induction rows with
 |nil=>intro o _;simp
 |cons r rs ih =>
  intro o h;have h0:=(h 0 r rfl).2;rw[Nat.zero_mul,Nat.add_zero]at h0;have h1:=ih (o:=o+n) fun i q hq=>by
   have:=h (i+1) q (by simpa using hq);rw[K9,Nat.one_mul,show o+(i*n+n)=o+n+i*n by omega]at this;exact this
  rw[H4,K9,Nat.one_mul,aP5,List.take_add,h0,List.drop_drop,h1];rfl
theorem bX1{Y:H}{b:Nat}{o:Obj}(h:Y b=some o):P1 Y b o Y:=by
 show Y=Y.put b o
 funext k
 by_cases e:k=b
 ·subst e;rw[H.put_same,h]
 ·rw[H.put_other _ _ e]
section
variable {P:Program} {Y:H}
theorem bK7{t ty e:TypeId}{i:TypeInfo}{z:u9}{n bytes:Nat}{cs:List Bool}{rows rows2:List (List u9)}{x y:Sl}{F:Sl->H->Prop}
 (ht:P.underlying t=some (.slice e)) (hi:P.info? e=some i) (hz:i.zero=some z) (jw:i.size=n) (Ek:i.bytes=bytes) (El:z.cells.size=n) (hn:0<n)
 (h:E0 Y e n rows x) (hy:F0 Y n rows2 y) (kj:∀r∈rows2,∀u∈r,u.oneCell'=true) (ib:rows.length+rows2.length<1000000000000) (qg:bytes<=100)
 (hK:∀x' Y',E0 Y' e n (rows++rows2) x'->((∃g o,x.base=some ⟨g,0,none⟩/\x'.base=x.base/\P1 Y g o Y')\/(((∃g,x'.base=some ⟨g,0,none⟩/\Y g=none)\/x'.base=none)/\Gr Y Y'))->F x' Y') :
 biW P .append #[t,t] ty cs [.slice x.base x.len x.cap,.slice y.base y.len y.cap] (.one (.sc .slc)) F Y:=by
 intro w hw;obtain⟨h1,h2,h3⟩:=id h;obtain⟨y1,y2⟩:=id hy;have Em:∀ (a c:u9),(builtin .append #[t,t] ty ⟨cs⟩ ⟨[a,c]⟩).run P w=((Builtin.append_ #[t,t] ty #[a,c]).run P w).andThen fun v w'=>.ok (.value v) w':=by
  intro a c;simp[builtin]
 have ra:Y w.heap.size=none:=by
  cases hg:Y w.heap.size with
  |none=>rfl
  |some o=>have:=hw.lt hg;omega
 have extd:∀o:Obj,X7 Y w (Y.put w.heap.size o) (w.drew.alloc o):=by
  intro o;have h5:=(X7.alloc (Y:=Y) (w:=w.drew) hw o).2;exact⟨h5.le,h5.size,h5.keep,h5.own,h5.os,h5.tape,h5.output⟩
 obtain⟨xb,xl,xc⟩:=x;obtain⟨yb,yl,yc⟩:=y;simp only at h1 h3 y1 y2;show aq5 P _ ((builtin .append #[t,t] ty ⟨cs⟩ ⟨[.slice xb xl xc,.slice yb yl yc]⟩).run P w);rw[Em];by_cases he:rows2=[]
 ·subst he;have Eh:yl=0:=by simpa using y1
  subst Eh;have hf:(Builtin.firstCells i.size 0 (.slice yb 0 yc)).run P w=.ok #[] w:=by
   cases yb with
   |none=>exact run_firstCells_none (P:=P) (w:=w) i.size 0 0 yc
   |some a=>exact run_firstCells_some (P:=P) w i.size 0 a 0 yc [] (by simp) (by simp)
  have qx:xl<=xc:=by
   rcases h3 with⟨_,q,r⟩|⟨_,_,_,_,_,q,_⟩
   ·rw[r]at h1;simp at h1;omega
   ·exact q
  have iv:(Builtin.append_ #[t,t] ty #[.slice xb xl xc,.slice yb 0 yc]).run P w=.ok (.slice xb xl xc) w:=by
   cases xb with
   |none =>
    rcases h3 with⟨_,q,r⟩|⟨_,_,q,_⟩
    ·have:xl=0:=by rw[r]at h1;simpa using h1
     subst this;subst q;simp[Builtin.append_,run_underlying ht,sizeOf,typeInfo,hi,Builtin.lenOf,hf]
    ·cases q
   |some a =>
    simp[Builtin.append_,run_underlying ht,sizeOf,typeInfo,hi,Builtin.lenOf,hf,qx,storeCells]
  rw[iv];have hr:rows++[]=rows:=by simp
  refine⟨_,X7.refl hw,ak0 (hK ⟨xb,xl,xc⟩ Y (by rw[hr];exact h) ?_)⟩;rcases h3 with⟨q,_,_⟩|⟨g,cur,q,q2,_⟩
  ·exact .inr ⟨.inr q,Gr.refl _⟩
  ·exact .inl ⟨g,_,q,rfl,bX1 q2⟩
 obtain⟨gy,oy,cy,ty',fzy,q1,q2,q3⟩:=y2.resolve_left he;subst q1;have vd:∀r∈rows2,r.length=n:=fun r hr=>by
  obtain⟨j,hj⟩:=List.getElem?_of_mem hr;exact(q3 j r hj).1
 have su:rows2.flatten.length=rows2.length*n:=as7 vd;have yk:0<rows2.length:=List.length_pos_iff.2 he;have hyf:=bK6 q3;have jj:=hw gy _ q2;have nz:∀j u,rows2.flatten[j]?=some u->w.cell? ((⟨gy,oy,none⟩:Addr).add j)=some u:=by
  intro j u hu;rw[ax3 jj];rw[<-hyf,List.getElem?_take]at hu;split at hu
  ·rw[List.getElem?_drop]at hu;exact hu
  ·cases hu
 have ln:rows2.flatten.length=yl*i.size:=by rw[jw,su,y1]
 have iq:∀q∈rows++rows2,q.length=n:=by
  intro q hq;rcases Q4.1 hq with hq|hq
  ·exact h2 q hq
  ·exact vd q hq
 have En:∀u∈rows2.flatten,u.oneCell'=true:=by
  intro u hu;obtain⟨r,hr,hu⟩:=List.mem_flatten.1 hu;exact kj r hr u hu
 have tx:(rows++rows2).length=rows.length+rows2.length:=P3;have Eo:rows.flatten.length=rows.length*n:=as7 h2;have Av:(rows.length+rows2.length)*n=rows.length*n+rows2.length*n:=K9 ..;rcases h3 with⟨h3,h4,h5⟩|⟨g,cur,h3,h4,h5,h6,h7⟩
 ·subst h5;subst h3;subst h4;have kb:xl=0:=by simpa using h1
  subst kb;simp only[aw4]at *;have iv:=run_append_nil (P:=P) (w:=w) t ty e i z ht hi hz ⟨gy,oy,none⟩ yl yc rows2.flatten ln nz (by omega) (by omega) (by rw[Ek];have:yl*bytes<=1000000000000*100:=Nat.mul_le_mul (by simp at ib;omega) qg;omega);rw[iv];have um:=grownCap_ge w yl 0 e;refine⟨_,extd _,ak0 (hK ⟨some ⟨w.heap.size,0,none⟩,yl,grownCap w yl 0 e⟩ _ ⟨y1,iq,.inr ⟨w.heap.size,(rows2.flatten.toArray++Builtin.zeroCells z.cells (grownCap w yl 0 e-yl)).toList,rfl,H.put_same _ _ _,?_,um,?_⟩⟩ (.inr ⟨.inl ⟨w.heap.size,rfl,ra⟩,Gr.put ra _⟩))⟩
  ·rw[af9,P3,Array.length_toList,Array.length_toList,size_zeroCells,El];have:grownCap w yl 0 e*n=(grownCap w yl 0 e-yl)*n+yl*n:=by rw[<-K9];congr 1;omega
   have l2:rows2.flatten.toArray.size=yl*n:=by rw[List.size_toArray,su,y1]
   show rows2.flatten.toArray.size+_=grownCap w yl 0 e*n;omega
  ·show List.take (yl*n) _=_;rw[af9];show List.take (yl*n) (rows2.flatten++_)=_;rw[show yl*n=rows2.flatten.length by rw[su,y1],List.take_left]
 ·have vg:=hw g _ h4;subst h3;have hxn:rows.flatten.length=xl*n:=by rw[Eo,h1]
  by_cases oa:xl+yl<=xc
  ·have zq:(xl+yl) * n<=xc * n:=Nat.mul_le_mul_right n oa;rw[K9]at zq;have ko:xl * i.size+rows2.flatten.length<=(⟨cur⟩:Array u9).size:=by
    show xl*i.size+rows2.flatten.length<=cur.length;rw[jw,su,h5,<- y1];exact zq
   have iv:=run_append_room (P:=P) (w:=w) t ty e i ht hi g xl xc ⟨cur⟩ vg ⟨gy,oy,none⟩ yl yc rows2.flatten ln nz En oa ko;rw[iv];have kq:=bk3 (new:=(cur.take (xl*i.size)++rows2.flatten++cur.drop (xl*i.size+rows2.flatten.length)).toArray) vg;refine⟨_,X7.set hw h4 kq rfl rfl rfl,ak0 (hK ⟨some ⟨g,0,none⟩,xl+yl,xc⟩ _ ⟨by rw[tx];simp only;omega,iq,.inr ⟨g,_,rfl,H.put_same _ _ _,?_,oa,?_⟩⟩ (.inl ⟨g,_,rfl,rfl,rfl⟩))⟩
   ·rw[jw];have qx:xl*n+rows2.flatten.length<=cur.length:=by have:=ko;rw[jw]at this;exact this
    simp only[P3,P4,X1];omega
   ·rw[jw,h7,List.flatten_append];have e2:(xl+yl)*n=(rows.flatten++rows2.flatten).length:=by rw[P3,hxn,su,K9,y1]
    show((rows.flatten++rows2.flatten)++List.drop _ cur).take ((xl+yl)*n)=_;rw[e2,List.take_left]
  ·have holds : ∀ j u, rows.flatten[j]? = some u -> w.cell? ((⟨g, 0, none⟩ : Addr).add j) = some u := by
    intro j u hu;rw[ax3 vg,al5];rw[<-h7,List.getElem?_take]at hu;split at hu
    ·exact hu
    ·cases hu
   have Aq:rows.flatten.length=xl*i.size:=by rw[hxn,jw]
   have sr:(xl+yl)*i.bytes<=140737488355328:=by
    rw[Ek];have:(xl+yl)*bytes<=1000000000000*100:=Nat.mul_le_mul (by omega) qg;omega
   have iv:=run_append_grow (P:=P) (w:=w) t ty e i z ht hi hz ⟨g,0,none⟩ xl xc rows.flatten Aq holds ⟨gy,oy,none⟩ yl yc rows2.flatten ln nz (by omega) (by omega) (growslice_fits (by omega) sr);rw[iv];have um:=grownCap_ge w (xl+yl) xc e;refine⟨_,extd _,ak0 (hK ⟨some ⟨w.heap.size,0,none⟩,xl+yl,grownCap w (xl+yl) xc e⟩ _ ⟨by rw[tx];simp only;omega,iq,.inr ⟨w.heap.size,(rows.flatten.toArray++rows2.flatten.toArray++Builtin.zeroCells z.cells (grownCap w (xl+yl) xc e-(xl+yl))).toList,rfl,H.put_same _ _ _,?_,um,?_⟩⟩ (.inr ⟨.inl ⟨w.heap.size,rfl,ra⟩,Gr.put ra _⟩))⟩
   ·simp only[af9,P3,Array.length_toList,size_zeroCells,El];have:grownCap w (xl+yl) xc e * n=(grownCap w (xl+yl) xc e - (xl+yl)) * n+(xl+yl) * n:=by
     rw[<-K9];congr 1;omega
    rw[K9 xl]at this;have l1:rows.flatten.toArray.size=xl*n:=by rw[List.size_toArray,hxn]
    have l2:rows2.flatten.toArray.size=yl*n:=by rw[List.size_toArray,su,y1]
    simp only[List.size_toArray]at l1 l2;show rows.flatten.length+rows2.flatten.length+_=grownCap w (xl+yl) xc e*n;omega
   ·rw[List.flatten_append];have e2:(xl+yl)*n=(rows.flatten++rows2.flatten).length:=by rw[P3,hxn,su,K9,y1]
    show List.take ((xl+yl)*n) _=_;rw[af9,af9];show List.take ((xl+yl)*n) ((rows.flatten++rows2.flatten)++_)=_;rw[e2,List.take_left]
end
def Q8(Y0 Y:H)(e:TypeId)(n:Nat)(rows:List (List u9))(y:Sl):Prop:=Gr Y0 Y/\E0 Y e n rows y/\∀g,y.base=some ⟨g,0,none⟩->Y0 g=none
def ElT(P:Program)(t e:TypeId)(n:Nat):Prop:=P.underlying t=some (.slice e)/\0<n/\∃i z,P.info? e=some i/\i.zero=some z/\i.size=n/\i.bytes<=100/\z.cells.size=n
theorem bX2{P:Program}{t e:TypeId}{n:Nat}(h1:P.underlying t=some (.slice e))(h0:0<n)(h:(P.info? e).map (fun i=>(i.size,Nat.ble i.bytes 100,i.zero.map fun z=>z.cells.size))=some (n,true,some n)):ElT P t e n:=by
 refine⟨h1,h0,?_⟩;cases hi:P.info? e with
 |none=>rw[hi]at h;cases h
 |some i =>
  rw[hi]at h;simp only[Option.map_some,Option.some.injEq,Prod.mk.injEq]at h;cases hz:i.zero with
  |none=>rw[hz]at h;cases h.2.2
  |some z =>
   rw[hz]at h;exact⟨i,z,rfl,hz,h.1,Nat.le_of_ble_eq_true h.2.1,by simpa using h.2.2⟩
section
variable {P:Program} {Y0 Y Y':H} {t e ty:TypeId} {n:Nat} {rows rows2:List (List u9)} {x y:Sl} {cs:List Bool}
theorem Q8.nil(Y:H)(e:TypeId)(n:Nat):Q8 Y Y e n [] ⟨none,0,0⟩:=⟨Gr.refl _,E0.nil _ _ _,fun g h=>by cases h⟩
theorem Q8.nil'(h:Gr Y0 Y)(e:TypeId)(n:Nat):Q8 Y0 Y e n [] ⟨none,0,0⟩:=⟨h,E0.nil _ _ _,fun g h=>by cases h⟩
theorem Q8.gr(h:Q8 Y0 Y e n rows y)(hg:Gr Y Y'):Q8 Y0 Y' e n rows y:=⟨h.1.trans hg,h.2.1.gr hg,h.2.2⟩
theorem Q8.putF(h:Q8 Y0 Y e n rows y){b:Nat}{o:Obj}(hp:P1 Y b o Y')(hn:Y0 b=none)(hb:y.base≠some ⟨b,0,none⟩):Q8 Y0 Y' e n rows y:=⟨h.1.putF hp hn,h.2.1.put hp hb,h.2.2⟩
theorem Q8.since{Y1:H}(h:Q8 Y1 Y e n rows y)(hg:Gr Y0 Y1):Q8 Y0 Y e n rows y:=⟨hg.trans h.1,h.2.1,fun g hx=>A9 hg (h.2.2 g hx)⟩
theorem Q8.at(h:Q8 Y0 Y e n rows y):F0 Y n rows y:=h.2.1.rows
theorem Q8.len(h:Q8 Y0 Y e n rows y):y.len=rows.length:=h.2.1.1
theorem Q8.case{g0:Prop}(h:Q8 Y0 Y e n rows y)(hx:E0 Y' e n rows2 x)(hc:(∃g o,y.base=some ⟨g,0,none⟩/\x.base=y.base/\P1 Y g o Y')\/(((∃g,x.base=some ⟨g,0,none⟩/\Y g=none)\/x.base=none)/\Gr Y Y'))
 (hF:Q8 Y0 Y' e n rows2 x->(∀c o,Y c=some o->y.base≠some ⟨c,0,none⟩->Y' c=some o)->(∀g,x.base=some ⟨g,0,none⟩->y.base=some ⟨g,0,none⟩\/Y g=none)->g0):g0:=by
 obtain⟨h1,h2,h3⟩:=h;rcases hc with⟨g,o,q1,q2,q3⟩|⟨q1,q2⟩
 ·refine hF ⟨h1.putF q3 (h3 g q1),hx,fun g' hg=>h3 g' (by rw[<-q2];exact hg)⟩ (fun c o' hc ia=>q3.get (fun e=>ia (by rw[e];exact q1)) hc) (fun g' hg=>.inl (by rw[<-q2];exact hg))
 ·have hn : ∀ g, x.base = some ⟨g, 0, none⟩ -> Y g = none := by
   intro g hg;rcases q1 with⟨g',q1,q3⟩|q1
   ·rw[q1]at hg;injection hg with hg;injection hg with hg;subst hg;exact q3
   ·rw[q1]at hg;cases hg
  exact hF ⟨h1.trans q2,hx,fun g hg=>A9 h1 (hn g hg)⟩ (fun c o' hc _=>q2.get hc) (fun g hg=>.inr (hn g hg))
theorem Q8.app(hT:ElT P t e n)(h:Q8 Y0 Y e n rows y){b:Nat}{r:List u9}{tb:TypeId}{fz:Nat×Nat}(hb:Y b=some (.cells ⟨r⟩ tb fz))(hr:r.length=n)(kj:r.all (·.oneCell')=true)(hl:rows.length<1000000000){F:Sl->H->Prop}
 (hF:∀y' Y',Q8 Y0 Y' e n (rows++[r]) y'->(∀c o,Y c=some o->y.base≠some ⟨c,0,none⟩->Y' c=some o)->(∀g,y'.base=some ⟨g,0,none⟩->y.base=some ⟨g,0,none⟩\/Y g=none)->F y' Y') :
 biW P .append #[t,t] ty cs [.slice y.base y.len y.cap,.slice (some ⟨b,0,none⟩) 1 1] (.one (.sc .slc)) F Y:=by
 obtain⟨h1,h0,i,z,i1,i2,i3,i4,i5⟩:=hT;refine ax4 h1 i1 i2 i3 rfl i5 h0 h.2.1 hb hr (fun u hu=>X2.1 kj u hu) hl (C7 i4 (by decide)) ?_;intro y' Y' pq hc;exact h.case pq (hc.imp id fun⟨g,q1,q2,q3⟩=>⟨.inl ⟨g,q1,q2⟩,q3⟩) fun a b c=>hF y' Y' a b c
theorem Q8.app1(hT:ElT P t e n)(h:Q8 Y0 Y e n rows y){r:List u9}{tb:TypeId}(hr:r.length=n)(kj:r.all (·.oneCell')=true)(hl:rows.length<1000000000){F:Sl->H->Prop}
 (hF:∀y' Y',Q8 Y0 Y' e n (rows++[r]) y'->(∀c o,Y c=some o->y.base≠some ⟨c,0,none⟩->Y' c=some o)->(∀g,y'.base=some ⟨g,0,none⟩->y.base=some ⟨g,0,none⟩\/Y g=none)->F y' Y') :
 H0 (.cells ⟨r⟩ tb (0,0)) (fun b=>biW P .append #[t,t] ty cs [.slice y.base y.len y.cap,.slice (some ⟨b,0,none⟩) 1 1] (.one (.sc .slc)) F) Y:=by
 refine A5 ?_;intro b Y1 g1 e1 n1;refine(h.gr g1).app hT e1 hr kj hl ?_;intro y' Y' a c d;exact hF y' Y' a (fun c' o hc ia=>c c' o (g1.get hc) ia) fun g hg=>(d g hg).imp id fun hn=>A9 g1 hn
theorem Q8.apps(hT:ElT P t e n)(h:Q8 Y0 Y e n rows y)(hx:F0 Y n rows2 x)(kj:∀r∈rows2,∀u∈r,u.oneCell'=true)(hl:rows.length+rows2.length<1000000000000){F:Sl->H->Prop}
 (hF:∀y' Y',Q8 Y0 Y' e n (rows++rows2) y'->(∀c o,Y c=some o->y.base≠some ⟨c,0,none⟩->Y' c=some o)->(∀g,y'.base=some ⟨g,0,none⟩->y.base=some ⟨g,0,none⟩\/Y g=none)->F y' Y') :
 biW P .append #[t,t] ty cs [.slice y.base y.len y.cap,.slice x.base x.len x.cap] (.one (.sc .slc)) F Y:=by
 obtain⟨h1,h0,i,z,i1,i2,i3,i4,i5⟩:=hT;refine bK7 h1 i1 i2 i3 rfl i5 h0 h.2.1 hx kj hl i4 ?_;intro y' Y' pq hc;exact h.case pq hc fun a b c=>hF y' Y' a b c
theorem F0.rdA(h:F0 Y n rows x){i:Nat}{r:List u9}(hi:rows[i]?=some r)(hn:0<n):∃g o,x.base=some ⟨g,o,none⟩/\rdA n g (o+i*n) Y=some (.agg ⟨r⟩)/\∀k v,r[k]?=some v->m8 g (o+i*n+k) Y=some v:=by
 obtain⟨g,o,h2,h3⟩:=h.rd hi hn;refine⟨g,o,h2,h3,fun k v hk=>?_⟩;obtain⟨h1,h4|⟨g',o',cur,t,fz,q2,q3,q4⟩⟩:=h
 ·rw[h4]at hi;simp at hi
 ·rw[h2]at q2;injection q2 with q2
  injection q2 with e1 e2
  subst e1;subst e2;refine f0 q3 ?_;obtain⟨hl,h5⟩:=q4 _ _ hi;have rb:k<n:=by
   rw[<-hl];rcases U8 k r.length with h|h
   ·exact h
   ·rw[aa4 h]at hk;cases hk
  rw[<-h5,List.getElem?_take_of_lt rb,List.getElem?_drop]at hk;exact hk
theorem F0.keep{Y Y':H}{n:Nat}{rows:List (List u9)}{x:Sl}(h:F0 Y n rows x)(hk:∀g o ob,x.base=some ⟨g,o,none⟩->Y g=some ob->Y' g=some ob):F0 Y' n rows x:=by
 obtain⟨h1,h2|⟨g,o,cur,t,fz,h3,h4,h5⟩⟩:=h
 ·exact⟨h1,.inl h2⟩
 ·exact⟨h1,.inr ⟨g,o,cur,t,fz,h3,hk g o _ h3 h4,h5⟩⟩
theorem F0.sub(h:F0 Y n rows x)(hc:x.len<=x.cap){k e:Nat}(hk:k<=e)(he:e<=rows.length)(m:Nat):F0 Y n ((rows.take e).drop k) ⟨N6 x.base k x.cap n,e-k,m⟩:=by
 obtain⟨q1,q2|⟨g,o,cur,t,fz,q3,q4,q5⟩⟩:=h
 ·subst q2;exact⟨by simp at he⊢;omega,.inl (by simp)⟩
 ·refine⟨by simp;omega,?_⟩;by_cases Aw:x.cap=k
  ·exact .inl (M3 (by rw[P4];omega))
  refine .inr ⟨g,o+k*n,cur,t,fz,?_,q4,fun i r hr=>?_⟩
  ·show N6 x.base k x.cap n=_;unfold N6;rw[d7 Aw,q3,Option.map_some,ai2]
  ·rw[List.getElem?_drop,List.getElem?_take]at hr;split at hr
   ·have:=q5 (k+i) r hr;rw[K9,<- Nat.add_assoc]at this;exact this
   ·cases hr
end
theorem ac6{Y Y':H}(h:∀b o,Y b=some o->Y' b=some o):Gr Y Y':=h
def u0(l:List d9):List (List u9):=l.map fun s=>[.string s]
end Go.HL

