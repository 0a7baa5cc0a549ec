/- A part of a proof. -/
import Derived.Test.YtikedigonnlbkaaGreatDoorSat
import Derived.Lib.Builder
import Derived.Lib.AppendStr
import Derived.Lib.UnsafeStr
import Derived.Lib.MakeNoZero
import Derived.Laws.IdiomCopy
import Derived.Laws.StandIn
namespace Go.HL
open Go
def ax6(l:List J3):List (List u9):=l.map fun c=>[Value.int .u8 c.toNat]
theorem aI7(l:List J3):(ax6 l).length=l.length:=by simp[ax6]
section
variable {P:Program} {Y:H}
theorem bk3{w:World}{g:Nat}{cur:List u9}{e:TypeId}{new:Array u9}(hg:w.heap[g]?=some (.cells ⟨cur⟩ e (0,0))):(w.setRow g new).heap=w.heap.setIfInBounds g (.cells new e (0,0)):=by
 unfold World.setRow;apply Array.ext_getElem?;intro k;have iw:g<w.heap.size:=(Array.getElem?_eq_some_iff.1 hg).1;rw[Array.getElem?_setIfInBounds,Array.getElem?_modify];split
 ·rename_i e;subst e;rw[hg];simp
 ·rfl
end
end Go.HL

