/- A part of a proof. -/
import Derived.Test.YtikedigonnlbkaaGreatDoorSar
import Derived.Laws.AppendOwn
import Derived.Laws.Append
import Derived.ArgAppend
namespace Go.HL
open Go
def E0(Y:H)(e:TypeId)(n:Nat)(rows:List (List u9))(x:Sl):Prop :=
 x.len=rows.length/\(∀r∈rows,r.length=n)/\((x.base=none/\x.cap=0/\rows=[])\/∃g cur,x.base=some ⟨g,0,none⟩/\Y g=some (.cells ⟨cur⟩ e (0,0))/\cur.length=x.cap*n/\x.len<=x.cap/\cur.take (x.len*n)=rows.flatten)
theorem E0.nil(Y:H)(e:TypeId)(n:Nat):E0 Y e n [] ⟨none,0,0⟩:=⟨rfl,by simp,.inl ⟨rfl,rfl,rfl⟩⟩
theorem E0.gr{Y Y':H}{e:TypeId}{n:Nat}{rows:List (List u9)}{x:Sl}(h:E0 Y e n rows x)(hg:Gr Y Y'):E0 Y' e n rows x:=by
 obtain⟨h1,h2,h3|⟨g,cur,a1,a2,a3⟩⟩:=h
 ·exact⟨h1,h2,.inl h3⟩
 ·exact⟨h1,h2,.inr ⟨g,cur,a1,hg.get a2,a3⟩⟩
theorem E0.put{Y Y':H}{e:TypeId}{n:Nat}{rows:List (List u9)}{x:Sl}{b:Nat}{o:Obj}(h:E0 Y e n rows x)(hp:P1 Y b o Y')(hn:x.base≠some ⟨b,0,none⟩):E0 Y' e n rows x:=by
 obtain⟨h1,h2,h3|⟨g,cur,a1,a2,a3⟩⟩:=h
 ·exact⟨h1,h2,.inl h3⟩
 ·exact⟨h1,h2,.inr ⟨g,cur,a1,hp.get (fun e=>hn (by rw[a1,e])) a2,a3⟩⟩
theorem as7{n:Nat}:∀ {rows:List (List u9)},(∀r∈rows,r.length=n)->rows.flatten.length=rows.length*n:=by
 intro rows
 induction rows with
 |nil=>intro _;simp
 |cons r rs ih=>intro h;simp only[List.flatten_cons,P3,H4];rw[ih fun r hr=>h r (E4 _ hr),h r (H7 ..),K9];omega
theorem bX0{n:Nat}:∀ {rows:List (List u9)},(∀r∈rows,r.length=n)->∀i r,rows[i]?=some r->(rows.flatten.drop (i*n)).take n=r:=by
 intro rows
 induction rows with
 |nil=>intro _ i r h;simp at h
 |cons q rs ih =>
  intro h i r hi;have hq:=h q (H7 ..);cases i with
  |zero=>simp at hi;subst hi;simp[<-hq]
  |succ i =>
   simp at hi;have:=ih (fun r hr=>h r (E4 _ hr)) i r hi;rw[List.flatten_cons,K9,Nat.one_mul,<- hq,aP5,List.drop_length_add_append,hq];exact this
theorem E0.keep{Y Y':H}{e:TypeId}{n:Nat}{rows:List (List u9)}{x:Sl}(h:E0 Y e n rows x)(hk:∀g o,x.base=some ⟨g,0,none⟩->Y g=some o->Y' g=some o):E0 Y' e n rows x:=by
 obtain⟨h1,h2,h3|⟨g,cur,a1,a2,a3⟩⟩:=h
 ·exact⟨h1,h2,.inl h3⟩
 ·exact⟨h1,h2,.inr ⟨g,cur,a1,hk g _ a1 a2,a3⟩⟩
theorem E0.has{Y:H}{e:TypeId}{n:Nat}{rows:List (List u9)}{x:Sl}(h:E0 Y e n rows x){g:Nat}(hx:x.base=some ⟨g,0,none⟩):Y g≠none:=by
 obtain⟨h1,h2,⟨h3,_⟩|⟨g',cur,a1,a2,a3⟩⟩:=h
 ·rw[h3]at hx;cases hx
 ·rw[a1]at hx;cases hx;rw[a2];simp
theorem E0.rows{Y:H}{e:TypeId}{n:Nat}{rows:List (List u9)}{x:Sl}(h:E0 Y e n rows x):F0 Y n rows x:=by
 obtain⟨h1,h2,⟨_,_,h3⟩|⟨g,cur,a1,a2,a3,a4,a5⟩⟩:=h
 ·exact⟨h1,.inl h3⟩
 ·refine⟨h1,.inr ⟨g,0,cur,e,(0,0),a1,a2,fun i r hi=>⟨h2 r (K7 hi),?_⟩⟩⟩;have h6:=bX0 h2 i r hi;have iw:i<rows.length:=by
   rcases U8 i rows.length with h|h
   ·exact h
   ·rw[aa4 h]at hi;cases hi
  have qx:i*n+n<=x.len*n:=by rw[h1];have:(i+1)*n<=rows.length*n:=Nat.mul_le_mul_right n iw;rw[K9,Nat.one_mul]at this;exact this
  rw[<-a5]at h6;rw[al5,<- h6,List.drop_take,List.take_take,Nat.min_eq_left (by omega)]
section
variable {P:Program} {Y:H}
theorem ax3{w:World}{b o:Nat}{l:List u9}{t:TypeId}{fz:Nat×Nat}(h:w.heap[b]?=some (.cells ⟨l⟩ t fz))(j:Nat):w.cell? ((⟨b,o,none⟩:Addr).add j)=l[o+j]?:=by
 rw[ai2];simp[World.cell?,h]
theorem ax4{t ty e:TypeId}{i:TypeInfo}{z:u9}{n bytes:Nat}{cs:List Bool}{rows:List (List u9)}{x:Sl}{b:Nat}{r:List u9}{tb:TypeId}{fz:Nat×Nat}{F:Sl->H->Prop}
 (ht:P.underlying t=some (.slice e)) (hi:P.info? e=some i) (hz:i.zero=some z) (jw:i.size=n) (Ek:i.bytes=bytes) (El:z.cells.size=n) (hn:0<n)
 (h:E0 Y e n rows x) (hb:Y b=some (.cells ⟨r⟩ tb fz)) (hr:r.length=n) (kj:∀u∈r,u.oneCell'=true) (ib:rows.length<1000000000) (qg:bytes<=100000)
 (hK:∀x' Y',E0 Y' e n (rows++[r]) x'->((∃g o,x.base=some ⟨g,0,none⟩/\x'.base=x.base/\P1 Y g o Y')\/(∃g,x'.base=some ⟨g,0,none⟩/\Y g=none/\Gr Y Y'))->F x' Y') :
 biW P .append #[t,t] ty cs [.slice x.base x.len x.cap,.slice (some ⟨b,0,none⟩) 1 1] (.one (.sc .slc)) F Y:=by
 intro w hw;obtain⟨h1,h2,h3⟩:=h;have Ct:=hw b _ hb;have nz:∀j u,r[j]?=some u->w.cell? ((⟨b,0,none⟩:Addr).add j)=some u:=by
  intro j u hu;rw[ax3 Ct,al5];exact hu
 have ln:r.length=1*i.size:=by rw[jw,hr,Nat.one_mul]
 have iq:∀q∈rows++[r],q.length=n:=by
  intro q hq;rcases Q4.1 hq with hq|hq
  ·exact h2 q hq
  ·simp at hq;rw[hq,hr]
 have Em:∀ (a c:u9),(builtin .append #[t,t] ty ⟨cs⟩ ⟨[a,c]⟩).run P w=((Builtin.append_ #[t,t] ty #[a,c]).run P w).andThen fun v w'=>.ok (.value v) w':=by
  intro a c;simp[builtin]
 have ra:Y w.heap.size=none:=by
  cases hg:Y w.heap.size with
  |none=>rfl
  |some o=>have:=hw.lt hg;omega
 have extd:∀o:Obj,X7 Y w (Y.put w.heap.size o) (w.drew.alloc o):=by
  intro o;have h5:=(X7.alloc (Y:=Y) (w:=w.drew) hw o).2;exact⟨h5.le,h5.size,h5.keep,h5.own,h5.os,h5.tape,h5.output⟩
 rcases h3 with⟨h3,h4,h5⟩|⟨g,cur,h3,h4,h5,h6,h7⟩
 ·subst h5;obtain⟨xb,xl,xc⟩:=x;simp only at h1 h3 h4;simp at h1;subst h1;subst h3;subst h4;have iv:=run_append_nil (P:=P) (w:=w) t ty e i z ht hi hz ⟨b,0,none⟩ 1 1 r ln nz (by omega) (by omega) (by rw[Ek];omega);show aq5 P _ ((builtin .append #[t,t] ty ⟨cs⟩ ⟨[.slice none 0 0,.slice (some ⟨b,0,none⟩) 1 1]⟩).run P w);rw[Em,iv];have um:=grownCap_ge w 1 0 e;refine⟨_,extd _,ak0 (hK ⟨some ⟨w.heap.size,0,none⟩,1,grownCap w 1 0 e⟩ _ ⟨rfl,iq,.inr ⟨w.heap.size,(r.toArray++Builtin.zeroCells z.cells (grownCap w 1 0 e-1)).toList,rfl,H.put_same _ _ _,?_,um,?_⟩⟩ (.inr ⟨w.heap.size,rfl,ra,Gr.put ra _⟩))⟩
  ·simp[size_zeroCells,El,hr];have:grownCap w 1 0 e * n=(grownCap w 1 0 e - 1) * n+n:=by
    conv=>lhs;rw[show grownCap w 1 0 e=(grownCap w 1 0 e-1)+1 by omega,K9,Nat.one_mul]
   omega
  ·simp[hr]
 ·have vg:=hw g _ h4;obtain⟨xb,xl,xc⟩:=x;simp only at h1 h3 h5 h6 h7;subst h3;by_cases oa:xl+1<=xc
  ·have ko : xl * i.size + r.length <= (⟨cur⟩ : Array u9).size := by
    show xl*i.size+r.length<=cur.length;rw[jw,hr,h5];have:(xl+1)*n<=xc*n:=Nat.mul_le_mul_right n oa;rw[K9,Nat.one_mul]at this;exact this
   have iv:=run_append_room (P:=P) (w:=w) t ty e i ht hi g xl xc ⟨cur⟩ vg ⟨b,0,none⟩ 1 1 r ln nz kj oa ko;show aq5 P _ ((builtin .append #[t,t] ty ⟨cs⟩ ⟨[.slice (some ⟨g,0,none⟩) xl xc,.slice (some ⟨b,0,none⟩) 1 1]⟩).run P w);rw[Em,iv];have kq:(w.setRow g (cur.take (xl*i.size)++r++cur.drop (xl*i.size+r.length)).toArray).heap=w.heap.setIfInBounds g (.cells ⟨cur.take (xl*i.size)++r++cur.drop (xl*i.size+r.length)⟩ e (0,0)):=by
    unfold World.setRow;apply Array.ext_getElem?;intro k;have iw:g<w.heap.size:=(Array.getElem?_eq_some_iff.1 vg).1;rw[Array.getElem?_setIfInBounds,Array.getElem?_modify];split
    ·rename_i e;subst e;rw[vg];simp
    ·rfl
   refine⟨_,X7.set hw h4 kq rfl rfl rfl,ak0 (hK ⟨some ⟨g,0,none⟩,xl+1,xc⟩ _ ⟨?_,iq,.inr ⟨g,_,rfl,H.put_same _ _ _,?_,oa,?_⟩⟩ (.inl ⟨g,_,rfl,rfl,rfl⟩))⟩
   ·simp[h1]
   ·rw[jw,hr];have qx:xl*n+n<=cur.length:=by have:=ko;rw[jw,hr]at this;exact this
    simp only[P3,P4,X1,hr];omega
   ·rw[jw,hr,h7,List.flatten_append];have vh:rows.flatten.length=xl*n:=by rw[as7 h2,h1]
    have e2:(xl+1)*n=(rows.flatten++r).length:=by rw[P3,vh,hr,K9,Nat.one_mul]
    show((rows.flatten++r)++List.drop (xl*n+n) cur).take ((xl+1)*n)=_;rw[e2,List.take_left];simp
  ·have holds : ∀ j u, rows.flatten[j]? = some u -> w.cell? ((⟨g, 0, none⟩ : Addr).add j) = some u := by
    intro j u hu;rw[ax3 vg,al5];rw[<-h7]at hu;rw[List.getElem?_take]at hu;split at hu
    ·exact hu
    ·cases hu
   have Aq:rows.flatten.length=xl*i.size:=by rw[as7 h2,h1,jw]
   have sr:(xl+1)*i.bytes<=140737488355328:=by
    rw[Ek];have:(xl+1)*bytes<=1000000000*100000:=Nat.mul_le_mul (by omega) qg;omega
   have iv:=run_append_grow (P:=P) w t ty e i z ht hi hz ⟨g,0,none⟩ xl xc rows.flatten Aq holds ⟨b,0,none⟩ 1 1 r ln nz (by omega) (by omega) (growslice_fits (by omega) sr);show aq5 P _ ((builtin .append #[t,t] ty ⟨cs⟩ ⟨[.slice (some ⟨g,0,none⟩) xl xc,.slice (some ⟨b,0,none⟩) 1 1]⟩).run P w);rw[Em,iv];have um:=grownCap_ge w (xl+1) xc e;have vh:rows.flatten.length=xl*n:=by rw[as7 h2,h1]
   refine⟨_,extd _,ak0 (hK ⟨some ⟨w.heap.size,0,none⟩,xl+1,grownCap w (xl+1) xc e⟩ _ ⟨?_,iq,.inr ⟨w.heap.size,(rows.flatten.toArray++r.toArray++Builtin.zeroCells z.cells (grownCap w (xl+1) xc e-(xl+1))).toList,rfl,H.put_same _ _ _,?_,um,?_⟩⟩ (.inr ⟨w.heap.size,rfl,ra,Gr.put ra _⟩))⟩
   ·simp[h1]
   ·simp only[af9,P3,Array.length_toList,size_zeroCells,El,hr,vh];have:grownCap w (xl+1) xc e * n=(grownCap w (xl+1) xc e - (xl+1)) * n+(xl+1) * n:=by
     rw[<-K9,show grownCap w (xl+1) xc e-(xl+1)+(xl+1)=grownCap w (xl+1) xc e by omega]
    rw[K9,Nat.one_mul]at this;have l1:rows.flatten.toArray.size=xl*n:=by simp[vh]
    have l2:r.toArray.size=n:=by simp[hr]
    omega
   ·rw[List.flatten_append];have e2:(xl+1)*n=(rows.flatten++r).length:=by rw[P3,vh,hr,K9,Nat.one_mul]
    show List.take ((xl+1)*n) _=_;rw[af9,af9];show List.take ((xl+1)*n) ((rows.flatten++r)++_)=_;rw[e2,List.take_left];simp
end
end Go.HL

