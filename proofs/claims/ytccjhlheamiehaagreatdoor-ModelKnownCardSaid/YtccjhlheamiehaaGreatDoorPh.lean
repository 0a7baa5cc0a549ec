/- A PART OF WHAT FOLLOWS: ModelKnown, called in any world that the card allows, answers true, and what its variables hold stays. -/
import Derived.Test.YtccjhlheamiehaaGreatDoorPg
import Derived.Test.YtccjhlheamiehaaGreatDoorRows
import Derived.LaidByTextLater
import Derived.SevenTiedAt
import Derived.LaidSub
set_option maxRecDepth 100000
namespace Go.Proofs.YtccjhlheamiehaaGreatDoor
open Go Go.Ev
def tL : List (String × DataW Unit) := [("math/bits.deBruijn32tab", Rows.laid_math_bits_deBruijn32tab), ("math/bits.deBruijn64tab", Rows.laid_math_bits_deBruijn64tab), ("internal/strconv.float32info", Rows.laid_internal_strconv_float32info), ("internal/strconv.float64info", Rows.laid_internal_strconv_float64info), ("internal/strconv.optimize", Rows.laid_internal_strconv_optimize), ("internal/strconv.powtab", Rows.laid_internal_strconv_powtab), ("internal/strconv.float64pow10", Rows.laid_internal_strconv_float64pow10), ("internal/strconv.float32pow10", Rows.laid_internal_strconv_float32pow10), ("internal/strconv.uint64pow10", Rows.laid_internal_strconv_uint64pow10), ("unicode/utf8.acceptRanges", Rows.laid_unicode_utf8_acceptRanges), ("errors.errorType", Rows.laid_errors_errorType), ("strconv.ErrRange", Rows.laid_strconv_ErrRange), ("strconv.ErrSyntax", Rows.laid_strconv_ErrSyntax)]
def tK : List LaidKind := [.data, .data, .widerDeep, .widerDeep, .data, .data, .data, .data, .data, .data, .handle, .sentinel, .sentinel]
theorem q1 : Tryz.prog.worded (varsWordLater true) = true := worded_of (by kernel_rfl)
theorem q2 : Tryz.prog.worded (varsWordLater !true) = false := worded_of (by kernel_rfl)
theorem q3 : Tryz.prog.worded rootWordLater = true := worded_of (by kernel_rfl)
theorem q4 : tL.map (fun x => Tryz.prog.kindOfLater x.1) = tK.map some := by kernel_rfl
theorem q5a : Tryz.prog.funcNamed "gosem.cut.vars" = some 892 := named_of (by kernel_rfl)
theorem q5b : varsId Tryz.prog = 892 := by unfold varsId; rw [q5a]; rfl
theorem q5 : (Tryz.prog.funcNamed "gosem.cut.vars").isSome = true := by rw [q5a]; rfl
noncomputable def cdV : Code := (Tryz.f892.body).getD .skip
theorem cdV_eq : (Tryz.prog.funcs[892]?).bind (·.body) = some cdV := by rw [Tryz.func892]; kernel_rfl
theorem elemN : Tryz.prog.funcNamed "(internal/reflectlite.rtype).Elem" = some 853 := named_of (by kernel_rfl)
noncomputable def stV : List Nat := (cdV.laysInOrder []).getD []
theorem stV_eq : cdV.laysInOrder [] = some stV := by kernel_rfl
theorem q6b : (!cdV.unfollowedBeside Tryz.prog && (cdV.tempsApart 0).isSome && cdV.regionsFit Tryz.prog []) = true := by kernel_rfl
theorem q6c : ((some 853 : Option Nat).any fun h => (Tryz.prog.funcs[h]?).any fun fn => fn.body.isNone && !entryCalls fn) = true := by kernel_rfl
theorem q6d : ((cdV.storedByHandle Tryz.prog).all fun v => Tryz.prog.globalNamed "errors.errorType" == some v) = true := by kernel_rfl
theorem q6e : Tryz.prog.callsLaidAlone 892 cdV = true := by
  unfold Program.callsLaidAlone
  rw [elemN, q6b, q6c, q6d]
  simp
theorem q6f : (stV.eraseDups.length == stV.length) = true := by kernel_rfl
theorem q6g : (tL.all fun x => (Tryz.prog.globalNamed x.1).any fun v => (stV.contains v == (Tryz.prog.kindBase x.1 != some .zero)) && callsFit cdV v (Tryz.prog.kindBase x.1) &&
          ((cdV.storedByHandle Tryz.prog).contains v == (Tryz.prog.kindBase x.1 == some .handle)) && (x.2.handleName?.isSome == (Tryz.prog.kindBase x.1 == some .handle || Tryz.prog.kindBase x.1 == some .funcs)) &&
          (Tryz.prog.kindBase x.1 != some .handle || handlePair x) && (x.2.funcsIn?.isSome == (Tryz.prog.kindBase x.1 == some .funcs)) && mapsFit cdV v x.2 (Tryz.prog.kindBase x.1)) = true := by kernel_rfl
theorem q6a : varsNamedLaterB Tryz.prog 892 tL = true := by
  unfold varsNamedLaterB
  rw [cdV_eq]
  simp only [stV_eq]
  rw [q6e, q6f, q6g]; rfl
theorem q6 : varsNamedLaterB Tryz.prog (varsId Tryz.prog) tL = true := by rw [q5b]; exact q6a
noncomputable def doorL (P : Program) (g : FuncId) (n fuel M : Nat) (laid : List (String × DataW Unit)) (os : Os) (tape : Tape) : Option (List (String × DataW Unit) × List (DataW (List UInt8))) :=
  match runN P n (Machine.entering P (World.unlaid P os) tape g ⟨#[], #[], []⟩) with
  | .ended (.done _) w =>
    (DataW.laidRun P w.memory fuel ((laid.filter fun x => x.2.handleName?.isNone).map (·.1))).bind fun x =>
      if nodupBits M x.2 0 && laidRowsB P w.memory x.2 && (laid.filter fun x => x.2.handleName?.isSome && x.2.funcsIn?.isNone).all (handleAtB P w.memory)
      then (funcsRun P w.memory fuel ((funcsListed laid).map (·.1))).map fun y => (x.1, y) else none
  | _ => none
theorem doorL_eq {P : Program} {n fuel M : Nat} {laid : List (String × DataW Unit)} {os : Os} {tape : Tape} {g : FuncId} (h : varsId P = g) : doorLeaves P n fuel M laid os tape = doorL P g n fuel M laid os tape := by
  subst h; rfl
theorem q7a (os : Os) (tape : Tape) : doorL Tryz.prog 892 101 8 65 tL os tape = some (tL.filter fun x => x.2.handleName?.isNone, (funcsListed tL).map (·.2.funcsOut)) := by kernel_rfl
theorem q7 (os : Os) (tape : Tape) : doorLeaves Tryz.prog 101 8 65 tL os tape = some (tL.filter fun x => x.2.handleName?.isNone, (funcsListed tL).map (·.2.funcsOut)) := (doorL_eq q5b).trans (q7a os tape)
theorem tieV : Tryz.prog.laidByTextLater tL tK true := Program.laidByTextLater_by_one 101 8 65 q1 q2 q3 q4 q5 q6 q7
theorem pinV0 : Tryz.pinned.checked.prog.pinnedFits "internal/strconv.leftcheats" = true := by kernel_rfl
theorem pinV1 : Tryz.pinned.checked.prog.pinnedFits "internal/strconv.pow10Tab" = true := by kernel_rfl
theorem pinV2 : Tryz.pinned.checked.prog.pinnedFits "unicode/utf8.first" = true := by kernel_rfl
theorem noOwnU : Tryz.pinned.checked.prog.headLifts.contains "ownunsafe" = false := by kernel_rfl
theorem fitsV : Tryz.pinned.checked.prog.listedFits [("math/bits.deBruijn32tab", Rows.laid_math_bits_deBruijn32tab), ("math/bits.deBruijn64tab", Rows.laid_math_bits_deBruijn64tab), ("internal/strconv.float32info", Rows.laid_internal_strconv_float32info), ("internal/strconv.float64info", Rows.laid_internal_strconv_float64info), ("internal/strconv.optimize", Rows.laid_internal_strconv_optimize), ("internal/strconv.powtab", Rows.laid_internal_strconv_powtab), ("internal/strconv.float64pow10", Rows.laid_internal_strconv_float64pow10), ("internal/strconv.float32pow10", Rows.laid_internal_strconv_float32pow10), ("internal/strconv.uint64pow10", Rows.laid_internal_strconv_uint64pow10), ("unicode/utf8.acceptRanges", Rows.laid_unicode_utf8_acceptRanges), ("errors.errorType", Rows.laid_errors_errorType), ("strconv.ErrRange", Rows.laid_strconv_ErrRange), ("strconv.ErrSyntax", Rows.laid_strconv_ErrSyntax), ("internal/strconv.leftcheats", Rows.laid_internal_strconv_leftcheats), ("internal/strconv.pow10Tab", Rows.laid_internal_strconv_pow10Tab), ("unicode/utf8.first", Rows.laid_unicode_utf8_first)] = true := by
  unfold Program.listedFits
  rw [noOwnU]
  kernel_rfl
theorem rowTie : Rows.modelKnownRow.laidByTextAt .later Tryz.pinned [.data, .data, .widerDeep, .widerDeep, .data, .data, .data, .data, .data, .data, .handle, .sentinel, .sentinel, .pinned, .pinned, .pinned] true :=
  OpenClaim.laidByTextAt_pinned rfl rfl tieV rfl rfl rfl rfl (fun y hy _e => by
    simp only [Rows.modelKnownRow, List.zip_cons_cons, List.zip_nil_right, List.mem_cons, List.mem_nil_iff, or_false] at hy
    rcases hy with rfl | rfl | rfl | rfl | rfl | rfl | rfl | rfl | rfl | rfl | rfl | rfl | rfl | rfl | rfl | rfl
    · cases _e
    · cases _e
    · cases _e
    · cases _e
    · cases _e
    · cases _e
    · cases _e
    · cases _e
    · cases _e
    · cases _e
    · cases _e
    · cases _e
    · cases _e
    · exact ⟨pinV0, by kernel_rfl⟩
    · exact ⟨pinV1, by kernel_rfl⟩
    · exact ⟨pinV2, by kernel_rfl⟩) fitsV
end Go.Proofs.YtccjhlheamiehaaGreatDoor
