/- A part of a proof. -/
import Derived.Test.YtikedigonnlbkaaGreatDoorSaq
import Derived.Carry
import Derived.Deep.Slices
import Derived.ChangeSame
namespace Go.HL
open Go Go.RowKit
def whole(W:World):H:=fun b=>W.heap[b]?
theorem bW7(W:World):(whole W).le W:=fun _ _ h=>h
theorem bW8{P:Program}{f:FuncId}{args:List u9}{W:World}{v:u9}(h:E2 P f args (fun u Y'=>u=v/\Gr (whole W) Y') (whole W)) :
 Calls P f args.toArray W fun e W'=>e=.returned v/\Below W.heap.size W W':=by
 refine callsIn_wide.1 ((h W (bW7 W)).mono ?_)
 rintro e W' ⟨u,he,Y',hx,hu,hg⟩
 subst hu;refine⟨he,⟨hx.os,hx.tape,hx.output,hx.size,fun k hk=>?_⟩⟩;have:W.heap[k]?=some W.heap[k]:=Array.getElem?_eq_getElem hk;rw[this];exact hx.le k _ (hg.get this)
def F0(Y:H)(n:Nat)(rows:List (List u9))(x:Sl):Prop:=x.len=rows.length/\(rows=[]\/∃g o cur t fz,x.base=some ⟨g,o,none⟩/\Y g=some (.cells ⟨cur⟩ t fz)/\∀i r,rows[i]?=some r->r.length=n/\(cur.drop (o+i*n)).take n=r)
theorem F0.gr{Y Y':H}{n:Nat}{rows:List (List u9)}{x:Sl}(h:F0 Y n rows x)(hg:Gr Y Y'):F0 Y' n rows x:=by
 obtain⟨h1,h2|⟨g,o,cur,t,fz,h3,h4,h5⟩⟩:=h
 ·exact⟨h1,.inl h2⟩
 ·exact⟨h1,.inr ⟨g,o,cur,t,fz,h3,hg.get h4,h5⟩⟩
theorem F0.rd{Y:H}{n:Nat}{rows:List (List u9)}{x:Sl}(h:F0 Y n rows x){i:Nat}{r:List u9}(hi:rows[i]?=some r)(hn:0<n):∃g o,x.base=some ⟨g,o,none⟩/\rdA n g (o+i*n) Y=some (.agg ⟨r⟩):=by
 obtain⟨h1,h2|⟨g,o,cur,t,fz,h3,h4,h5⟩⟩:=h
 ·subst h2;simp at hi
 ·obtain⟨h6,h7⟩:=h5 i r hi;refine⟨g,o,h3,?_⟩;have ib:o+i * n+n<=cur.length:=by
   have:=J7 List.length h7;simp at this;omega
  rw[bV9 h4 ib,h7]
section
variable {D:Type} {enc:TypeId × u9->D} {P:Program} {W:World}
theorem bF0{t e:TypeId}{n fuel:Nat}{v:u9}{x:DataW D×List MemPlace}(ht:P.underlying t=some (.slice e))(hc:P.cellsOf e=n)(hn:0<n)(h:DataW.trod enc P W 0 (fun _=>true) true fuel t [v]=some x) :
 ∃ (y:Sl) (rows:List (List u9)),v=.slice y.base y.len y.cap/\F0 (whole W) n rows y/\y.len<=maxLen/\∃m,∀r∈rows,m<fuel/\∃d ps,DataW.trod enc P W 0 (fun _=>true) true m e r=some (d,ps):=by
 rcases DataW.trod_slice ht h with⟨h0,_⟩|⟨a,len,cap,elems,rest,k,sg,h0,-,-,hl,hm,ib,iq,-,-⟩
 ·refine⟨⟨none,0,0⟩,[],by simpa using h0,⟨rfl,.inl rfl⟩,Nat.zero_le _,0,fun r hr=>by simp at hr⟩
 ·have hv:v=.slice (some a) len cap:=by simpa using h0
  subst hv;rw[hc]at iq;have pc:∀i,i<len->∃cs,W.cells? 0 (a.add (i*n)) n=some cs/\∃d ps,DataW.trod enc P W 0 (fun _=>true) true k e cs=some (d,ps):=by
   intro i hi;have h1:=iq i hi;rw[G0 (show i<elems.length by omega)]at h1;cases pe:W.cells? 0 (a.add (i*n)) n with
   |none=>rw[pe]at h1;cases h1
   |some cs=>rw[pe]at h1;exact⟨cs,rfl,_,_,h1⟩
  have pp:∃rows:List (List u9),rows.length=len/\∀i r,rows[i]?=some r->W.cells? 0 (a.add (i*n)) n=some r/\∃d ps,DataW.trod enc P W 0 (fun _=>true) true k e r=some (d,ps):=by
   clear iq hm hl h0 h ib sg
   induction len with
   |zero=>exact⟨[],rfl,fun i r hr=>by simp at hr⟩
   |succ j ih =>
    obtain⟨rows,h1,h2⟩:=ih (fun i hi=>pc i (by omega));obtain⟨cs,h3,h4⟩:=pc j (by omega);refine⟨rows++[cs],by simp[h1],fun i r hr=>?_⟩;rw[List.getElem?_append]at hr;split at hr
    ·exact h2 i r hr
    ·rename_i um;have:i - rows.length=0:=by
      rcases Nat.eq_zero_or_pos (i-rows.length)with h|h
      ·exact h
      ·rw[aa4 (by simp;omega)]at hr;cases hr
     rw[this]at hr;have hij:i=j:=by omega
     subst hij;simp at hr;subst hr;exact⟨h3,h4⟩
  obtain⟨rows,ib,hr⟩:=pp;refine⟨⟨some a,len,cap⟩,rows,rfl,⟨ib.symm,?_⟩,by show len<=maxLen;omega,k,fun r hrr=>?_⟩
  ·cases len with
   |zero=>exact .inl (ai0 ib)
   |succ j =>
    right
    obtain⟨r0,Eb⟩:∃r0,rows[0]?=some r0:=⟨_,G0 (by omega)⟩;obtain⟨oz,_⟩:=hr 0 r0 Eb;obtain⟨_,Eh,At⟩:=World.cells?_some oz;have mn:=At 0 hn;rw[Nat.zero_mul]at mn;have zp:(a.add 0).add 0=a:=by unfold Addr.add;simp
    rw[zp]at mn;obtain⟨u,hu⟩:∃u,r0[0]?=some u:=⟨_,G0 (by omega)⟩;rw[hu]at mn;unfold World.cell? at mn;cases hb:W.heap[a.block]? with
    |none=>rw[hb]at mn;cases mn
    |some ob =>
     rw[hb]at mn;cases ob with
     |cells c ty fz =>
      simp only at mn;have xk:a.spot=none:=by
       cases hs:a.spot with
       |none=>rfl
       |some q=>rw[hs]at mn;simp at mn
      obtain⟨l⟩:=c;have hae:a=⟨a.block,a.off,none⟩:=by cases a;simp at xk;simp[xk]
      refine⟨a.block,a.off,l,ty,fz,by rw[<-hae],hb,fun i r hir=>?_⟩;obtain⟨hci,_⟩:=hr i r hir;obtain⟨_,hli,xm⟩:=World.cells?_some hci;refine⟨hli,?_⟩;apply List.ext_getElem?;intro q;by_cases hq:q<n
      ·have h5:=xm q hq;rw[hae,ai2,ai2]at h5;rw[<-h5,List.getElem?_take_of_lt hq,List.getElem?_drop];simp[World.cell?,hb]
      ·rw[aa4 (by simp;omega),aa4 (by omega)]
     |_=>cases mn
  ·obtain⟨i,hi⟩:=List.getElem?_of_mem hrr;exact⟨by omega,(hr i r hi).2⟩
theorem bW9{s:ChangeSpec}{f:Func}{W':World}{args:Array u9}{ds gs:List (DataW D)}{before:List MemPlace}{tb:TypeId}(hW:DataW.Whole enc P f.params.toList s.vars false W args.toList ds gs before)(hv:s.vars=[])
 (mq:s.fn D (ds++gs)={results:=[.lit (.bool true)],args:=ds}) (hl:laidOutB P=true) (hr:∀t∈f.params.toList,P.readableRec t=true/\t<P.types.size) (gv:f.resultTypes = #[tb]) (hb:P.underlying tb=some .bool) (sq:Below W.heap.size W W') :
 s.post enc P f false true false false W args (.bool true) W':=by
 have iw:=hW.lt;have Au:=hW;obtain⟨p,q,hA,hV,yj,hz,hn⟩:=hW;rw[hv]at hV;have hgq:gs=[]/\q=[]:=by
  cases gs with
  |nil=>exact⟨rfl,hV⟩
  |cons g gs=>exact hV.elim
 obtain⟨rfl,rfl⟩:=hgq;have yj:before=p:=by simpa using yj
 subst yj;have qz:∀sp:Nat->Bool,(∀x∈before,sp x.block=true)->DataW.TrodAll enc P W' 0 sp true f.params.toList args.toList ds before:=by
  intro sp xk;have key:∀ (ts:List TypeId) (vs:List u9) (ds:List (DataW D)) (ps:List MemPlace),(∀t∈ts,P.readableRec t=true/\t<P.types.size)->(∀x∈ps,x.block<W.heap.size/\sp x.block=true)->DataW.TrodAll enc P W 0 (fun _=>true) true ts vs ds ps->DataW.TrodAll enc P W' 0 sp true ts vs ds ps:=by
   intro ts
   induction ts with
   |nil =>
    intro vs ds ps _ _ h;cases vs<;>cases ds<;>first|exact h|exact h.elim
   |cons t ts ih =>
    intro vs ds ps ht hx h;cases vs with
    |nil=>exact h.elim
    |cons v vs =>
     cases ds with
     |nil=>exact h.elim
     |cons d ds =>
      obtain⟨p,q,h1,h2,rfl⟩:=h;obtain⟨r1,r2⟩:=ht t (H7 ..);exact⟨p,q,WideElems.Trod_stays hl r1 r2 h1 (fun x jv=>sq.same (hx x (List.mem_append_left _ jv)).1) (fun x jv=>(hx x (List.mem_append_left _ jv)).2),ih vs ds q (fun t h=>ht t (E4 _ h)) (fun x jv=>hx x (List.mem_append_right _ jv)) h2,rfl⟩
  exact key _ _ _ _ hr (fun x hx=>⟨iw x hx,xk x hx⟩) hA
 have Ei:∀ (b:Nat) (sp:Nat->Bool) (hd:Bool),DataW.TrodAll enc P W' b sp hd f.resultTypes.toList ((Value.bool true).resultList f.resultTypes.size) [.lit (.bool true)] []:=by
  intro b sp hd;rw[gv];exact⟨[],[],shut_bool hb true,rfl,rfl⟩
 have un:∀p∈before,(fun b=>decide (b<W.heap.size)) p.block=true:=fun p hp=>by simpa using iw p hp
 have Ej:∀sp:Nat->Bool,DataW.TrodVars enc P W' sp s.vars [] []:=by intro sp;rw[hv];rfl
 refine⟨ds,[],before,[],before,[],Au,?_,?_,?_,World.keptBut_mono (fun p hp=>⟨hp,.inr (.inl hp)⟩) (sq.frame _),fun h=>by cases h⟩
 ·rw[mq];exact Ei _ _ _
 ·rw[mq];exact qz _ un
 ·rw[mq];exact Ej _
end
end Go.HL

