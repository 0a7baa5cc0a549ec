/- A part of a proof. -/
import Derived.Test.YtikedigonnlbkaaGreatDoorSaw
import Derived.Laws.IdiomStrings
import Derived.Lib.SliceRun
namespace Go.HL
open Go
section
variable {P:Program} {Y:H} {gk dst e:TypeId}
theorem bY3(hs:P.underlying gk=some .string)(hd:P.underlying dst=some (.slice e))(he:P.underlying e=some (.int .u8))(s:d9){F:Sl->H->Prop}(hF:∀x Y',Gr Y Y'->F0 Y' 1 (ax6 s.data.toList) x->F x Y') :
 W7 P (convert gk dst (.string s)) (.one (.sc .slc)) F Y:=by
 intro w hw;have iv:(ar8 (convert gk dst (.string s))).run P w=.ok (.value (.slice (some ⟨w.heap.size,0,none⟩) s.size (grownCap w s.size 0 e))) (w.drew.alloc (.cells (bytesRow s (grownCap w s.size 0 e)) e ((bytesRow s (grownCap w s.size 0 e)).size,(bytesRow s (grownCap w s.size 0 e)).size+1))):=by
  simp only[ar8,Sem.run_bind,run_bytes_of_string w gk dst e s hs hd he,Result.andThen_ok,Sem.run_pure]
 rw[iv];have hn:Y w.heap.size=none:=by
  cases hg:Y w.heap.size with
  |none=>rfl
  |some o=>have:=hw.lt hg;omega
 have h5:=(X7.alloc (Y:=Y) (w:=w.drew) hw (.cells (bytesRow s (grownCap w s.size 0 e)) e ((bytesRow s (grownCap w s.size 0 e)).size,(bytesRow s (grownCap w s.size 0 e)).size+1))).2;have hl:s.data.toList.length=s.size:=by cases s with|mk d=>simp[ByteArray.size]
 refine⟨_,⟨h5.le,h5.size,h5.keep,h5.own,h5.os,h5.tape,h5.output⟩,ak0 (hF ⟨some ⟨w.heap.size,0,none⟩,s.size,grownCap w s.size 0 e⟩ _ (Gr.put hn _) ⟨by rw[aI7,hl],.inr ⟨w.heap.size,0,(bytesRow s (grownCap w s.size 0 e)).toList,e,_,rfl,H.put_same _ _ _,fun i r hr=>?_⟩⟩)⟩;unfold ax6 at hr;rw[Z6]at hr;cases hc:s.data.toList[i]? with
 |none=>rw[hc]at hr;cases hr
 |some c =>
  rw[hc]at hr;have hr:[Value.int .u8 c.toNat]=r:=by simpa using hr
  subst hr;refine⟨rfl,?_⟩;have iw:i<s.data.toList.length:=by
   rcases U8 i s.data.toList.length with h|h
   ·exact h
   ·rw[aa4 h]at hc;cases hc
  have hg:(bytesRow s (grownCap w s.size 0 e)).toList[i]?=some (.int .u8 c.toNat):=by
   unfold bytesRow;rw[af9,bU2 (by simpa using iw)];simp[hc]
  have Ex:i<(bytesRow s (grownCap w s.size 0 e)).toList.length:=by
   rcases U8 i (bytesRow s (grownCap w s.size 0 e)).toList.length with h|h
   ·exact h
   ·rw[aa4 h]at hg;cases hg
  rw[al5,ao9,as4 Ex];rw[G0 Ex]at hg;rw[Option.some.inj hg];rfl
theorem cw4(hs:P.underlying gk=some (.slice e))(he:P.underlying e=some (.int .u8))(hd:P.underlying dst=some .string){l:List J3}{x:Sl}(hx:F0 Y 1 (ax6 l) x){F:d9->H->Prop}(hF:F ⟨⟨l⟩⟩ Y) :
 W7 P (convert gk dst (.slice x.base x.len x.cap)) (.one (.sc .str)) F Y:=by
 intro w hw;have kb:x.len=l.length:=by rw[hx.1,aI7]
 have iv:(convert gk dst (.slice x.base x.len x.cap)).run P w=.ok (.string ⟨l.toArray⟩) w:=by
  obtain⟨xb,xl,xc⟩:=x;simp only at kb hx⊢;subst kb;cases xb with
  |none =>
   obtain⟨_,h2|⟨_,_,_,_,_,h3,_⟩⟩:=hx
   ·have:l=[]:=by cases l with|nil=>rfl|cons c r=>simp[ax6]at h2
    subst this;show(convert gk dst (.slice none 0 xc)).run P w=_;rw[run_convert_bytes_string w gk dst e none 0 xc hs he hd];simp[Conv.bytesToString];rfl
   ·cases h3
  |some a =>
   refine run_convert_bytes_back w gk dst e a xc l hs he hd fun j hj=>?_;obtain⟨_,h2|⟨g,o,cur,t,fz,h3,h4,h5⟩⟩:=hx
   ·have:l=[]:=by cases l with|nil=>rfl|cons c r=>simp[ax6]at h2
    subst this;simp at hj
   ·injection h3 with h3
    subst h3;rw[ax3 (hw g _ h4)];obtain⟨_,h6⟩:=h5 j [.int .u8 (l[j].toNat:Nat)] (by unfold ax6;rw[Z6,G0 hj];rfl);have:((cur.drop (o+j*1)).take 1)[0]?=some (.int .u8 (l[j].toNat:Nat)):=by rw[h6];rfl
    rw[List.getElem?_take,List.getElem?_drop]at this;simpa using this
 have Ey:(ar8 (convert gk dst (.slice x.base x.len x.cap))).run P w=.ok (.value (.string ⟨l.toArray⟩)) w:=by
  simp only[ar8,Sem.run_bind,iv,Result.andThen_ok,Sem.run_pure]
 rw[Ey];exact⟨_,X7.refl hw,ab2 hF⟩
end
end Go.HL

