/- A part of a proof. -/
import Derived.Test.YtgfiobhpipollaaGreatDoorOao
namespace Go.HL
open Go
variable {P : Program}
theorem aT2 {t:TypeId} (ht:P.underlying t=some .string) (s:ByteArray) {F:Option Addr->H->Prop} {σ:H} (h:∀b σ',Gr σ σ'->σ' b=some (.stringIter s 0)->σ b=none->F (some ⟨b,0,none⟩) σ'):M7 P (Instr.range t (.string s)) (.one (.sc .ptr)) F σ:=by
 intro w hw
 have hrun:(ae0 (Instr.range t (.string s))).run P w = .ok (.value (.pointer (some ⟨w.heap.size,0,none⟩))) (w.alloc (.stringIter s 0)):=by
  simp[ae0,Instr.range,run_underlying ht]
 rw[hrun]
 have hn:σ w.heap.size=none:=by
  cases hg:σ w.heap.size with
  | none=>rfl
  | some o=>have:=hw.lt hg;omega
 refine⟨_,(I0.alloc hw _).2,bu6 (h w.heap.size _ (Gr.put hn _) (H.put_same _ _ _) hn)⟩
theorem ar3 {ty:TypeId} {b:Nat} {s:ByteArray} {pos:Nat} {A:H->Prop} {F:Int->Int->H->Prop} {σ:H} (hb:σ b=some (.stringIter s pos))
 (h1:¬pos<s.size->A σ) (h2:pos<s.size -> ∀σ',L6 σ b (.stringIter s (pos+(Utf8.decode s pos).2)) σ'->F pos (Utf8.decode s pos).1 σ') :
 M7 P (Instr.next (.pointer (some ⟨b,0,none⟩)) true ty) (.opt [.sc (.int .i64),.sc (.int .i32)]) (A,F) σ:=by
 intro w hw
 have hg:(getObj b).run P w = .ok (.stringIter s pos) w:=by simp[getObj,Sem.run,hw b _ hb]
 by_cases hp:pos<s.size
 ·have hs:(setObj b (.stringIter s (pos+(Utf8.decode s pos).2))).run P w = .ok () { w with heap:=w.heap.setIfInBounds b (.stringIter s (pos+(Utf8.decode s pos).2)) }:=by simp[setObj,Sem.run,hw b _ hb]
  have hrun:(ae0 (Instr.next (.pointer (some ⟨b,0,none⟩)) true ty)).run P w = .ok (.value (.tuple ⟨[.bool true,.int .i64 pos,.int .i32 ((Utf8.decode s pos).1:Nat)]⟩)) { w with heap:=w.heap.setIfInBounds b (.stringIter s (pos+(Utf8.decode s pos).2)) }:=by
   simp[ae0,Instr.next,hg,hp,hs,goInt]
  rw[hrun]
  refine⟨_,I0.set hw hb rfl rfl rfl rfl,?_⟩
  have:=h2 hp _ rfl
  simp only[app,TK.prj,aS2,ak4,CK.prj,SK.prj,ax3,ah3,bl5]
  exact this
 ·have hrun : (ae0 (Instr.next (.pointer (some ⟨b, 0, none⟩)) true ty)).run P w = .ok (.value (.tuple ⟨[.bool false]⟩)) w := by
   simp[ae0,Instr.next,hg,hp]
  rw[hrun]
  exact⟨σ,I0.refl hw,h1 hp⟩
end Go.HL

