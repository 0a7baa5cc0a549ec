/- A part of a proof. -/
import Derived.Test.YtikedigonnlbkaaGreatDoorSao
namespace Go.HL
open Go
variable {P:Program}
theorem aX5{t:TypeId}(ht:P.underlying t=some .string)(s:d9){F:m9->H->Prop}{Y:H}(h:∀b Y',Gr Y Y'->Y' b=some (.stringIter s 0)->Y b=none->F (some ⟨b,0,none⟩) Y'):W7 P (Instr.range t (.string s)) (.one (.sc .ptr)) F Y:=by
 intro w hw;have iv:(ar8 (Instr.range t (.string s))).run P w=.ok (.value (.pointer (some ⟨w.heap.size,0,none⟩))) (w.alloc (.stringIter s 0)):=by
  simp[ar8,Instr.range,run_underlying ht]
 rw[iv];have hn:Y w.heap.size=none:=by
  cases hg:Y w.heap.size with
  |none=>rfl
  |some o=>have:=hw.lt hg;omega
 refine⟨_,(X7.alloc hw _).2,am7 (h w.heap.size _ (Gr.put hn _) (H.put_same _ _ _) hn)⟩
theorem ax2{ty:TypeId}{b:Nat}{s:d9}{pos:Nat}{A:H->Prop}{F:Int->Int->H->Prop}{Y:H}(hb:Y b=some (.stringIter s pos))
 (h1:¬pos<s.size->A Y) (h2:pos<s.size->∀Y',P1 Y b (.stringIter s (pos+(Utf8.decode s pos).2)) Y'->F pos (Utf8.decode s pos).1 Y') :
 W7 P (Instr.next (.pointer (some ⟨b,0,none⟩)) true ty) (.opt [.sc (.int .i64),.sc (.int .i32)]) (A,F) Y:=by
 intro w hw;have hg:(getObj b).run P w=.ok (.stringIter s pos) w:=by simp[getObj,Sem.run,hw b _ hb]
 by_cases hp:pos<s.size
 ·have hs:(setObj b (.stringIter s (pos+(Utf8.decode s pos).2))).run P w=.ok () {w with heap:=w.heap.setIfInBounds b (.stringIter s (pos+(Utf8.decode s pos).2))}:=by simp[setObj,Sem.run,hw b _ hb]
  have iv:(ar8 (Instr.next (.pointer (some ⟨b,0,none⟩)) true ty)).run P w=.ok (.value (.tuple ⟨[.bool true,.int .i64 pos,.int .i32 ((Utf8.decode s pos).1:Nat)]⟩)) {w with heap:=w.heap.setIfInBounds b (.stringIter s (pos+(Utf8.decode s pos).2))}:=by
   simp[ar8,Instr.next,hg,hp,hs,goInt]
  rw[iv];refine⟨_,X7.set hw hb rfl rfl rfl rfl,?_⟩;have:=h2 hp _ rfl;simp only[app,TK.prj,aW4,ar7,CK.prj,SK.prj,aw6,ak5,bt4];exact this
 ·have iv : (ar8 (Instr.next (.pointer (some ⟨b, 0, none⟩)) true ty)).run P w = .ok (.value (.tuple ⟨[.bool false]⟩)) w := by
   simp[ar8,Instr.next,hg,hp]
  rw[iv];exact⟨Y,X7.refl hw,h1 hp⟩
end Go.HL

