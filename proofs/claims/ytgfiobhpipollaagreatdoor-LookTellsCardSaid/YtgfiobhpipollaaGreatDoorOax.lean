/- A part of a proof. -/
import Derived.Test.YtgfiobhpipollaaGreatDoorOaw
import Derived.Laws.IdiomStrings
import Derived.Lib.SliceRun
namespace Go.HL
open Go
section
variable {P : Program} {σ : H} {src dst e : TypeId}
theorem aj3 (hs:P.underlying src=some (.slice e)) (he:P.underlying e=some (.int .u8)) (hd:P.underlying dst=some .string) {l:List UInt8} {x:Sl} (hx:w7 σ 1 (B1 l) x) {F:ByteArray->H->Prop} (hF:F ⟨⟨l⟩⟩ σ) :
 M7 P (convert src dst (.slice x.base x.len x.cap)) (.one (.sc .str)) F σ:=by
 intro w hw
 have hxl:x.len=l.length:=by rw[hx.1,D7]
 have hrun:(convert src dst (.slice x.base x.len x.cap)).run P w = .ok (.string ⟨l.toArray⟩) w:=by
  obtain⟨xb,xl,xc⟩:=x
  simp only at hxl hx ⊢
  subst hxl
  cases xb with
  | none =>
   obtain⟨_,h2 | ⟨_,_,_,_,_,h3,_⟩⟩:=hx
   ·have:l=[]:=by cases l with | nil=>rfl | cons c r=>simp[B1]at h2
    subst this
    show(convert src dst (.slice none 0 xc)).run P w=_
    rw[run_convert_bytes_string w src dst e none 0 xc hs he hd]
    simp[Conv.bytesToString];rfl
   ·cases h3
  | some a =>
   refine run_convert_bytes_back w src dst e a xc l hs he hd fun j hj => ?_
   obtain⟨_,h2 | ⟨g,o,cur,t,fz,h3,h4,h5⟩⟩:=hx
   ·have:l=[]:=by cases l with | nil=>rfl | cons c r=>simp[B1]at h2
    subst this;simp at hj
   ·injection h3 with h3
    subst h3
    rw[Y6 (hw g _ h4)]
    obtain⟨_,h6⟩:=h5 j [.int .u8 (l[j].toNat:Nat)] (by unfold B1;rw[O4,B9 hj];rfl)
    have:((cur.drop (o+j * 1)).take 1)[0]? = some (.int .u8 (l[j].toNat:Nat)):=by rw[h6];rfl
    rw[List.getElem?_take,List.getElem?_drop]at this
    simpa using this
 have hrun2:(ae0 (convert src dst (.slice x.base x.len x.cap))).run P w = .ok (.value (.string ⟨l.toArray⟩)) w:=by
  simp only[ae0,Sem.run_bind,hrun,Result.andThen_ok,Sem.run_pure]
 rw[hrun2]
 exact⟨_,I0.refl hw,I1 hF⟩
end
end Go.HL

