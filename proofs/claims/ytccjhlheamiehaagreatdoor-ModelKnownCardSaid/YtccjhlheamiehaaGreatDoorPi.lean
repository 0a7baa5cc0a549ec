/- ModelKnown, called in any world that the card allows, answers true, and what its variables hold stays. -/
import Derived.Test.YtccjhlheamiehaaGreatDoorPh
import Derived.Lay
import Derived.Test.YtccjhlheamiehaaGreatDoorCards
import Derived.ProofKit
import Derived.OpenShut
import Derived.Deep.DeepHandedRow
import Derived.Deep.DeepLaidRun
import Derived.LaidHandle
import Derived.Lib.LaidIn
import Derived.Shelf.Vars
set_option maxRecDepth 100000
namespace Go.Proofs.YtccjhlheamiehaaGreatDoor
open Go Go.HL Go.Wk Go.Ev Go.ChangeShapes Go.WideShapes Go.ChangeAt Go.RowKit
theorem own : ownKnob Tryz.prog.godebug = none := by kernel_rfl
theorem typesN : Tryz.prog.types.size = 853 := by kernel_rfl
theorem chunk {p : Nat → Bool} {a k n : Nat} (h : (List.range' a k).all p = true) (r : ∀ t, a + k ≤ t → t < n → p t = true) : ∀ t, a ≤ t → t < n → p t = true := by
  intro t h1 h2
  rcases Nat.lt_or_ge t (a + k) with h3 | h3
  · exact List.all_eq_true.1 h t (List.mem_range'_1.2 ⟨h1, h3⟩)
  · exact r t h3 h2
theorem fine0 : (List.range' 0 60).all (rowFine Tryz.prog) = true := by kernel_rfl
theorem fine60 : (List.range' 60 60).all (rowFine Tryz.prog) = true := by kernel_rfl
theorem fine120 : (List.range' 120 60).all (rowFine Tryz.prog) = true := by kernel_rfl
theorem fine180 : (List.range' 180 60).all (rowFine Tryz.prog) = true := by kernel_rfl
theorem fine240 : (List.range' 240 60).all (rowFine Tryz.prog) = true := by kernel_rfl
theorem fine300 : (List.range' 300 60).all (rowFine Tryz.prog) = true := by kernel_rfl
theorem fine360 : (List.range' 360 60).all (rowFine Tryz.prog) = true := by kernel_rfl
theorem fine420 : (List.range' 420 60).all (rowFine Tryz.prog) = true := by kernel_rfl
theorem fine480 : (List.range' 480 60).all (rowFine Tryz.prog) = true := by kernel_rfl
theorem fine540 : (List.range' 540 60).all (rowFine Tryz.prog) = true := by kernel_rfl
theorem fine600 : (List.range' 600 60).all (rowFine Tryz.prog) = true := by kernel_rfl
theorem fine660 : (List.range' 660 60).all (rowFine Tryz.prog) = true := by kernel_rfl
theorem fine720 : (List.range' 720 60).all (rowFine Tryz.prog) = true := by kernel_rfl
theorem fine780 : (List.range' 780 60).all (rowFine Tryz.prog) = true := by kernel_rfl
theorem fine840 : (List.range' 840 13).all (rowFine Tryz.prog) = true := by kernel_rfl
theorem fineAll : ∀ t, 0 ≤ t → t < 853 → rowFine Tryz.prog t = true := (chunk fine0 (chunk fine60 (chunk fine120 (chunk fine180 (chunk fine240 (chunk fine300 (chunk fine360 (chunk fine420 (chunk fine480 (chunk fine540 (chunk fine600 (chunk fine660 (chunk fine720 (chunk fine780 (chunk fine840 (fun _ h1 h2 => absurd h2 (Nat.not_lt.2 h1)))))))))))))))))
theorem lo2 : (true && Tryz.prog.globals.toList.all (fun g => decide (g.type < 853)) && Tryz.prog.funcs.toList.all (fun f => f.params.all fun t => decide (t < 853))) = true := by kernel_rfl
theorem laidOut : laidOutB Tryz.prog = true := by
  unfold laidOutB
  rw [typesN, ← Array.all_toList, ← Array.all_toList]
  have h1 : (List.range 853).all (rowFine Tryz.prog) = true := List.all_eq_true.2 fun t ht => fineAll t (Nat.zero_le _) (List.mem_range.1 ht)
  rw [h1]
  exact lo2
theorem lawNamed : Tryz.prog.funcNamed Rows.modelKnownRow.func = some 3 := named_of (by kernel_rfl)
theorem witness_zip {H : Type} {enc : TypeId × Value → H} {C : Checked} {os : Os} {f : FuncId} {fn : Func} {s : OpenSpec} {conds : List PathCond} {apart : Bool} {laid : List (String × DataW Unit)} (modest : Bool) (w0 : World) (args : Array Value) (hos : w0.os = os)
    (hv : (w0.forCall (fun _ _ => 0) ⟨#[], args, []⟩).variablesZipB C.prog = true)
    (hr : ((w0.forCall (fun _ _ => 0) ⟨#[], args, []⟩).heap.toList.drop C.prog.globals.size).take ((begin C.prog (fun _ _ => 0) default).world.heap.size - C.prog.globals.size) =
      (begin C.prog (fun _ _ => 0) default).world.heap.toList.drop C.prog.globals.size)
    (hok : Input.okWideB C.prog (w0.forCall (fun _ _ => 0) ⟨#[], args, []⟩) f ⟨#[], args, []⟩ = true)
    (hrow : s.preRow enc C.prog fn conds apart laid (w0.forCall (fun _ _ => 0) ⟨#[], args, []⟩).memory args) :
    ∃ (w : World) (tape : Tape) (i : Input), w.os = os ∧ (w.forCall tape i).Shaped C.prog ∧ i.vars = [] ∧ Input.okWide C.prog (w.forCall tape i) .any w.heap.size f i ∧
      s.preRow enc C.prog fn conds apart laid (w.forCall tape i).memory i.args ∧ ({ modest := modest } : Assume).holds C.prog (lone (Frame.enter C.prog f i.args .normal) [] (w.forCall tape i)) :=
  ⟨w0, fun _ _ => 0, ⟨#[], args, []⟩, hos, World.shaped_of_ZipB hv hr, (Input.okWide_of_okWideB (base := 0) hok).1, (Input.okWide_of_okWideB hok).2, hrow, by
    simp only [Assume.holds]
    exact ⟨by simp, by simp, fun _ => Modest.zero, by simp, by simp⟩⟩
/-! ### What the start gives -/
theorem etN : Tryz.prog.globalNamed "errors.errorType" = some 0 := by kernel_rfl
theorem rtN : (Tryz.prog.cutTypes.find? (·.1 == "internal/reflectlite.rtype")).map (·.2) = some 233 := by kernel_rfl
theorem oneRow : ((List.range 853).filter fun t => Tryz.prog.rowNamed t [101, 114, 114, 111, 114]) = [52] := by kernel_rfl
theorem handle_of {W : World} (h : laidMetH Tryz.prog Rows.modelKnownRow.laid W) : W.cell? ⟨0, 0, none⟩ = some (.iface 233 (.agg #[.pointer (some ⟨18, 52, none⟩)])) := by
  have h' : laidMet Tryz.prog (Rows.modelKnownRow.laid.filter fun x => x.2.handleName?.isNone) W ∧ handlesMet Tryz.prog [("errors.errorType", Rows.laid_errors_errorType)] W := h
  obtain ⟨name, u, ty, e1, e2, e3, e4, e5⟩ := h'.2 _ (List.mem_singleton.2 rfl)
  have en : name = [101, 114, 114, 111, 114] := (Option.some.inj e1).symm
  subst en
  obtain rfl := Option.some.inj (rtN.symm.trans e2)
  have hm : ty ∈ (List.range 853).filter fun t => Tryz.prog.rowNamed t [101, 114, 114, 111, 114] := List.mem_filter.2 ⟨List.mem_range.2 (by rw [← typesN]; exact e3), e4⟩
  rw [oneRow] at hm
  obtain rfl := List.mem_singleton.1 hm
  have hh : typeHandle Tryz.prog 52 = .pointer (some ⟨18, 52, none⟩) := by kernel_rfl
  rw [hh] at e5
  simpa using World.var?_cell etN e5 0
theorem one_cell_of {W : World} (h : W.ShapedOpen Tryz.prog) {g : Nat} {v0 v : Value} {t : TypeId} (hsz : g < Tryz.prog.globals.size) (h0 : ((begin Tryz.prog (fun _ _ => 0) default).world.heap[g]?).bind Obj.row? = some (#[v0], t)) (hv : W.cell? ⟨g, 0, none⟩ = some v) : ∃ fz, whole W g = some (.cells ⟨[v]⟩ t fz) := by
  obtain ⟨cs, h1, h2, _⟩ := h.1 g _ _ hsz h0
  have h2 : cs.size = 1 := h2
  obtain ⟨u, rfl⟩ : ∃ u, cs = #[u] := by
    obtain ⟨l⟩ := cs
    match l, h2 with
    | [u], _ => exact ⟨u, rfl⟩
  have : u = v := by simpa [World.cell?, h1] using hv
  subst this
  exact ⟨_, h1⟩
theorem max_of {W : World} (h : W.ShapedOpen Tryz.prog) : ∃ m fz, whole W 1 = some (.cells ⟨[.int .i64 m]⟩ 3 fz) := by
  have hsz : 1 < Tryz.prog.globals.size := Nat.le_of_ble_eq_true (show Nat.ble 2 Tryz.prog.globals.size = true by kernel_rfl)
  have h0 : ((begin Tryz.prog (fun _ _ => 0) default).world.heap[1]?).bind Obj.row? = some (#[.int .i64 0], 3) := by kernel_rfl
  obtain ⟨m, hm⟩ := cell_of_shapedOpen_int (k := .i64) h (g := 1) hsz h0 rfl (by kernel_rfl) (by kernel_rfl) Tryz.underlying3
  obtain ⟨fz, h⟩ := one_cell_of h hsz h0 hm
  exact ⟨m, fz, h⟩
theorem et_of {W : World} (h : W.ShapedOpen Tryz.prog) (hL : laidMetH Tryz.prog Rows.modelKnownRow.laid W) : ∃ T fz, whole W 0 = some (.cells ⟨[.iface 233 (.agg #[.pointer (some ⟨18, 52, none⟩)])]⟩ T fz) := by
  have hsz : 0 < Tryz.prog.globals.size := Nat.le_of_ble_eq_true (show Nat.ble 1 Tryz.prog.globals.size = true by kernel_rfl)
  have h0 : ((begin Tryz.prog (fun _ _ => 0) default).world.heap[0]?).bind Obj.row? = some (#[.nilIface], 177) := by kernel_rfl
  obtain ⟨fz, h⟩ := one_cell_of h hsz h0 (handle_of hL)
  exact ⟨_, fz, h⟩
theorem contract (D : Type) (enc : TypeId × Value → D) (W : World) (base : Nat) (args : Array Value) (ds gs : List (DataW D)) (before : List MemPlace)
    (hval : ∀ (j : Nat) t v, Tryz.f3.params[j]? = some t → args[j]? = some v → Value.okWide Tryz.prog W .any base t v)
    (hW : DataW.Whole enc Tryz.prog Tryz.f3.params.toList Rows.modelKnownSpec.vars false W args.toList ds gs before) (hL : laidMetH Tryz.prog Rows.modelKnownRow.laid W) (hsh : W.ShapedOpen Tryz.prog) :
    Calls Tryz.prog 3 args W fun e W' => ∃ v, e = .returned v ∧ Rows.modelKnownSpec.post enc Tryz.prog Tryz.f3 false true false false W args v W' := by
  have hW' := hW
  obtain ⟨p, q, hA0, hV, rfl, hfz, hnd⟩ := hW
  have hA : DataW.TrodAll enc Tryz.prog W 0 (fun _ => true) true Tryz.f3.params.toList args.toList ds p := hA0
  rw [Tryz.params3] at hA hval
  obtain ⟨hargs, rfl, rfl⟩ := trodAll_nil hA
  obtain rfl : args = #[] := by cases args; simp_all
  obtain ⟨rfl, rfl⟩ := trodVars_none hV
  obtain ⟨m, fz, hm⟩ := max_of hsh
  obtain ⟨T, fz', he⟩ := et_of hsh hL
  have hwalk := calls_of (W := W) (law_true (σ := whole W) hm he)
  refine hwalk.mono fun e W' ⟨he, hb⟩ => ?_
  subst he
  refine ⟨_, rfl, law_post hW' rfl rfl laidOut ?_ rfl Tryz.underlying4 hb⟩
  rw [Tryz.params3]
  intro t ht
  simp at ht
def wargs : Array Value := #[]
def setC (cs : Array Value) : Obj → Obj
  | .cells _ t frozen => .cells cs t frozen
  | o => o
/-- a start in which the interface values are laid -/
noncomputable def laid0 (os : Os) : World :=
  let w0 := World.holding Tryz.prog os ⟨#[], #[], []⟩
  { w0 with heap := ((((w0.heap.modify 0 (setC #[.iface 233 (.agg #[.pointer (some ⟨18, 52, none⟩)])])).modify 8 (setC #[.iface 755 (.pointer (some ⟨23, 0, none⟩))])).modify 7 (setC #[.iface 755 (.pointer (some ⟨24, 0, none⟩))])).push (.cells #[.string ⟨#[118, 97, 108, 117, 101, 32, 111, 117, 116, 32, 111, 102, 32, 114, 97, 110, 103, 101]⟩] 757 (0, 0))).push (.cells #[.string ⟨#[105, 110, 118, 97, 108, 105, 100, 32, 115, 121, 110, 116, 97, 120]⟩] 757 (0, 0)) }
def great : List String := ["math/bits.deBruijn32tab", "math/bits.deBruijn64tab", "internal/strconv.float32info", "internal/strconv.float64info", "internal/strconv.optimize", "internal/strconv.powtab", "internal/strconv.float64pow10", "internal/strconv.float32pow10", "internal/strconv.uint64pow10", "unicode/utf8.acceptRanges", "internal/strconv.leftcheats", "internal/strconv.pow10Tab", "unicode/utf8.first"]
noncomputable def laidL : List (String × DataW Unit) := (Rows.modelKnownRow.laid.filter fun x => x.2.handleName?.isNone).filter fun x => great.contains x.1
/-- and the others by the kit's laying of tables -/
noncomputable def laidW (os : Os) : World := (laid0 os).layVars Tryz.prog laidL
theorem lay_fits (os : Os) : (laid0 os).layFits Tryz.prog laidL [8, 7, 23, 24] = true := by kernel_rfl
theorem lay_ifaces (os : Os) : (laid0 os).layIfaces Tryz.prog laidL (laidW os) = true := by kernel_rfl
noncomputable def laidS : List (String × DataW Unit) := (Rows.modelKnownRow.laid.filter fun x => x.2.handleName?.isNone).filter fun x => !great.contains x.1
theorem s_run (os : Os) : (DataW.laidRun Tryz.prog (laidW os) 8 (laidS.map (·.1))).map (·.1) = some laidS := by kernel_rfl
theorem s_nd (os : Os) : (DataW.laidRun Tryz.prog (laidW os) 8 (laidS.map (·.1))).map (fun x => nodupB (x.2.map MemPlace.codeOf)) = some true := by kernel_rfl
theorem s_rows (os : Os) : (DataW.laidRun Tryz.prog (laidW os) 8 (laidS.map (·.1))).map (fun x => laidRowsB Tryz.prog (laidW os) x.2) = some true := by kernel_rfl
theorem s_in (os : Os) : (DataW.laidRun Tryz.prog (laidW os) 8 (laidS.map (·.1))).map (fun x => x.2.all fun p => [8, 7, 23, 24].contains p.block) = some true := by kernel_rfl
theorem laid_hdl (os : Os) : (Rows.modelKnownRow.laid.filter fun x => x.2.handleName?.isSome).all (handleAtB Tryz.prog ((laidW os).forCall (fun _ _ => 0) ⟨#[], wargs, []⟩).memory) = true := by kernel_rfl
theorem laid_met (os : Os) : laidMetH Tryz.prog Rows.modelKnownRow.laid ((laidW os).forCall (fun _ _ => 0) ⟨#[], wargs, []⟩).memory := by
  have h : laidMet Tryz.prog (Rows.modelKnownRow.laid.filter fun x => x.2.handleName?.isNone) (laidW os) :=
    laidMet_layVars (w0 := laid0 os) great [8, 7, 23, 24] rfl (lay_fits os) (lay_ifaces os) (LaidIn.of_run _ 8 (s_run os) (s_nd os) (s_rows os) (s_in os))
  exact laidMetH_of_parts (h.of_heap (by simp [World.memory, World.forCall, Input.heap])) (laid_hdl os)
theorem reads (os : Os) {D : Type} (enc : TypeId × Value → D) : ∃ places, DataW.whole enc Tryz.prog ((laidW os).forCall (fun _ _ => 0) ⟨#[], wargs, []⟩).memory Tryz.f3.params.toList Rows.modelKnownSpec.vars false wargs.toList 8 = some ([], [], places) :=
  ⟨[], by kernel_rfl⟩
theorem w_zip (os : Os) : ((laidW os).forCall (fun _ _ => 0) ⟨#[], wargs, []⟩).variablesZipB Tryz.prog = true := by kernel_rfl
theorem w_rest (os : Os) : (((laidW os).forCall (fun _ _ => 0) ⟨#[], wargs, []⟩).heap.toList.drop Tryz.prog.globals.size).take ((begin Tryz.prog (fun _ _ => 0) default).world.heap.size - Tryz.prog.globals.size) =
      (begin Tryz.prog (fun _ _ => 0) default).world.heap.toList.drop Tryz.prog.globals.size := by kernel_rfl
theorem w_ok (os : Os) : Input.okWideB Tryz.prog ((laidW os).forCall (fun _ _ => 0) ⟨#[], wargs, []⟩) 3 ⟨#[], wargs, []⟩ = true := by kernel_rfl
theorem lifted (os : Os) (started : os.Started) (D : Type) (enc : TypeId × Value → D) (F : Stop.Interp) :
    ReturnsInHanded {} Tryz.checked os 3 .any ((OpenSpec.ofChange Rows.modelKnownSpec).preRow enc Tryz.prog Tryz.f3 Rows.modelKnownRow.domain false Rows.modelKnownRow.laid) (((OpenSpec.ofChange Rows.modelKnownSpec).at F).post enc Tryz.prog Tryz.f3 false true false false) := by
  obtain ⟨places, hx⟩ := reads os enc
  refine returnsInHanded_of_row (C := Tryz.checked) (s := OpenSpec.ofChange Rows.modelKnownSpec) own started (by kernel_rfl) Tryz.func3
    (witness_zip (enc := enc) (C := Tryz.checked) false (laidW os) wargs rfl (w_zip os) (w_rest os) (w_ok os)
      (OpenSpec.preRow_of_cond 8 hx (by kernel_rfl) (fun k hk => by cases hk) (by kernel_rfl) (laid_met os))) ?_
  intro W base args ds gs before hval hW _ _ _ hL hsh _
  exact contract D enc W base args ds gs before hval hW hL hsh
noncomputable def clV : List Nat := [3, 4, 8, 21, 52, 53, 119, 120, 121, 122, 123, 176, 220, 124, 54, 55, 56, 42, 57, 58, 113, 132, 181, 59, 60, 61, 62, 125, 63, 64, 126, 65, 51, 117, 175, 118, 22, 24, 67, 66, 127, 128, 177, 23, 26, 25, 68, 6, 5, 9, 27, 69, 129, 95, 97, 98, 165, 167, 166, 130, 131, 178, 179, 180, 99, 110, 169, 211, 263, 335, 212, 264, 265, 267, 266, 336, 268, 269, 270, 337, 391, 393, 430, 292, 291, 429, 286, 343, 195, 234, 72, 92, 170, 213, 214, 215, 101, 71, 133, 182, 221, 222, 282, 283, 223, 183, 224, 184, 225, 226, 70, 28, 29, 74, 73, 30, 75, 76, 134, 10, 31, 77, 135, 136, 185, 49, 108, 142, 137, 138, 186, 227, 285, 284, 288, 287, 290, 345, 394, 295, 347, 344, 289, 139, 140, 187, 228, 293, 346, 141, 188, 229, 294, 230, 296, 231, 78, 143, 144, 145, 146, 189, 190, 191, 79, 32, 33, 34, 38, 83, 90, 159, 89, 158, 208, 156, 206, 262, 173, 219, 280, 281, 218, 271, 277, 233, 272, 338, 273, 339, 340, 274, 341, 342, 392, 275, 276, 278, 279, 91, 37, 80, 47, 147, 148, 192, 232, 297, 298, 348, 299, 300, 349, 350, 395, 301, 302, 303, 304, 193, 194, 149, 196, 235, 197, 236, 305, 198, 238, 239, 307, 308, 354, 240, 309, 310, 312, 313, 355, 314, 356, 315, 357, 358, 316, 317, 359, 311, 237, 306, 241, 351, 396, 352, 397, 398, 431, 432, 461, 494, 353, 399, 199, 242, 243, 318, 244, 245, 246, 150, 200, 247, 319, 360, 361, 400, 401, 366, 367, 404, 433, 434, 435, 436, 365, 437, 438, 462, 495, 463, 464, 497, 498, 496, 362, 363, 402, 364, 403, 320, 321, 322, 368, 405, 369, 406, 407, 439, 370, 408, 440, 465, 323, 467, 499, 508, 560, 509, 561, 648, 500, 556, 557, 501, 466, 506, 507, 371, 558, 502, 503, 504, 559, 505, 468, 510, 151, 201, 248, 324, 202, 249, 250, 251, 252, 254, 325, 253, 326, 372, 373, 409, 410, 423, 457, 488, 547, 638, 548, 549, 639, 81, 154, 205, 258, 259, 331, 332, 260, 261, 333, 334, 389, 390, 703, 640, 704, 647, 705, 641, 642, 706, 707, 643, 644, 708, 767, 768, 783, 792, 709, 483, 645, 646, 710, 424, 458, 489, 552, 490, 491, 553, 554, 555, 492, 493, 550, 551, 418, 417, 455, 441, 469, 511, 512, 562, 563, 470, 513, 564, 649, 565, 515, 514, 566, 327, 386, 385, 567, 388, 427, 428, 650, 102, 374, 415, 452, 416, 453, 484, 454, 485, 545, 636, 637, 702, 472, 486, 546, 411, 412, 155, 413, 414, 442, 443, 471, 473, 444, 474, 475, 445, 476, 446, 103, 447, 477, 516, 568, 651, 711, 769, 770, 569, 652, 712, 653, 654, 713, 655, 448, 449, 450, 478, 451, 479, 517, 570, 656, 714, 571, 572, 518, 573, 580, 657, 586, 587, 574, 519, 575, 520, 576, 577, 521, 578, 579, 522, 581, 582, 583, 584, 585, 659, 658, 715, 523, 588, 660, 589, 591, 662, 716, 590, 661, 592, 663, 717, 718, 771, 719, 772, 784, 793, 796, 809, 810, 806, 811, 797, 798, 800, 799, 801, 802, 812, 813, 814, 805, 815, 817, 816, 803, 804, 818, 821, 824, 825, 822, 819, 823, 794, 807, 808, 820, 720, 594, 593, 664, 721, 722, 773, 785, 596, 595, 524, 480, 525, 598, 599, 600, 666, 601, 618, 603, 597, 665, 526, 602, 604, 667, 723, 724, 774, 527, 605, 528, 606, 607, 668, 608, 669, 670, 725, 726, 529, 609, 610, 671, 611, 672, 673, 530, 612, 531, 614, 615, 676, 727, 728, 677, 729, 613, 674, 675, 687, 532, 616, 678, 679, 730, 533, 617, 619, 534, 535, 481, 536, 537, 538, 539, 620, 621, 680, 681, 622, 623, 624, 682, 731, 625, 626, 683, 732, 684, 540, 627, 685, 733, 734, 735, 736, 737, 738, 686, 739, 740, 741, 742, 743, 744, 745, 746, 747, 748, 749, 750, 751, 752, 541, 628, 542, 482, 543, 629, 630, 633, 688, 689, 690, 753, 754, 775, 776, 755, 786, 787, 777, 788, 795, 789, 778, 691, 692, 756, 779, 780, 790, 757, 781, 791, 693, 632, 631, 544, 634, 694, 695, 758, 696, 759, 760, 762, 763, 761, 635, 697, 701, 698, 699, 764, 782, 700, 765, 766, 375, 419, 426, 460, 456, 487, 420, 376, 377, 378, 379, 421, 422, 380, 381, 425, 459, 382, 383, 384, 152, 203, 255, 328, 329, 330, 387, 153, 204, 256, 114, 171, 172, 216, 217, 257, 11, 35, 82, 12, 36, 84, 86, 87, 85, 157, 207, 88, 39, 93, 160, 161, 162, 163, 164, 209, 13, 40, 94, 96, 100, 14, 15, 41, 104, 43, 44, 105, 106, 168, 210, 16, 17, 45, 107, 48, 46, 18, 50, 109, 111, 112, 115, 116, 174, 19, 20, 7]
theorem fuelV : (1 + (Tryz.pinned.checked.prog.funcs.toList.map fun g => (Tryz.pinned.checked.prog.leadsTo g).length + 1).sum) = 1530 + 1300 := by kernel_rfl
theorem cl1 : closS Tryz.pinned.checked.prog 1300 ([3], 0, []) = ([672, 676, 667, 677, 613, 532, 533, 534, 535, 481, 482, 417, 417, 325, 418, 473, 374, 375, 376, 376, 377, 378, 379, 380, 380, 381, 382, 383, 384, 254, 254, 26, 26, 152, 153, 81, 28, 28, 30, 11, 12, 13, 14, 15, 16, 17, 18, 19, 19, 20, 6, 5, 6, 5, 6, 5, 6, 5, 6, 5, 6, 5, 6, 5, 4, 6, 5, 4, 6, 5, 6, 5, 4, 6, 5, 6, 5, 6, 5, 6, 5, 6, 5, 6, 5, 6, 5, 6, 5, 6, 5, 6, 5, 6, 5, 6, 5, 6, 5, 6, 5, 7], 447482873492105194749107457894353529182649819935912350895452872327975960925892179078538397816610080684775605919969767132395903315464320804530165078232464920918612634615194403354491057447616704835206616597872492452538521634465122738769786486359328632, [615, 614, 531, 612, 530, 673, 672, 611, 671, 610, 609, 529, 726, 725, 670, 669, 608, 668, 607, 606, 528, 605, 527, 774, 724, 723, 667, 604, 602, 526, 665, 597, 603, 618, 601, 666, 600, 599, 598, 525, 480, 524, 595, 596, 785, 773, 722, 721, 664, 593, 594, 720, 820, 808, 807, 794, 823, 819, 822, 825, 824, 821, 818, 804, 803, 816, 817, 815, 805, 814, 813, 812, 802, 801, 799, 800, 798, 797, 811, 806, 810, 809, 796, 793, 784, 772, 719, 771, 718, 717, 663, 592, 661, 590, 716, 662, 591, 589, 660, 588, 523, 715, 658, 659, 585, 584, 583, 582, 581, 522, 579, 578, 521, 577, 576, 520, 575, 519, 574, 587, 586, 657, 580, 573, 518, 572, 571, 714, 656, 570, 517, 479, 451, 478, 450, 449, 448, 655, 713, 654, 653, 712, 652, 569, 770, 769, 711, 651, 568, 516, 477, 447, 103, 446, 476, 445, 475, 474, 444, 473, 471, 443, 442, 414, 413, 155, 412, 411, 546, 486, 472, 702, 637, 636, 545, 485, 454, 484, 453, 416, 452, 415, 374, 102, 650, 428, 427, 388, 567, 385, 386, 327, 566, 514, 515, 565, 649, 564, 513, 470, 563, 562, 512, 511, 469, 441, 455, 417, 418, 551, 550, 493, 492, 555, 554, 553, 491, 490, 552, 489, 458, 424, 710, 646, 645, 483, 709, 792, 783, 768, 767, 708, 644, 643, 707, 706, 642, 641, 705, 647, 704, 640, 703, 390, 389, 334, 333, 261, 260, 332, 331, 259, 258, 205, 154, 81, 639, 549, 548, 638, 547, 488, 457, 423, 410, 409, 373, 372, 326, 253, 325, 254, 252, 251, 250, 249, 202, 324, 248, 201, 151, 510, 468, 505, 559, 504, 503, 502, 558, 371, 507, 506, 466, 501, 557, 556, 500, 648, 561, 509, 560, 508, 499, 467, 323, 465, 440, 408, 370, 439, 407, 406, 369, 405, 368, 322, 321, 320, 403, 364, 402, 363, 362, 496, 498, 497, 464, 463, 495, 462, 438, 437, 365, 436, 435, 434, 433, 404, 367, 366, 401, 400, 361, 360, 319, 247, 200, 150, 246, 245, 244, 318, 243, 242, 199, 399, 353, 494, 461, 432, 431, 398, 397, 352, 396, 351, 241, 306, 237, 311, 359, 317, 316, 358, 357, 315, 356, 314, 355, 313, 312, 310, 309, 240, 354, 308, 307, 239, 238, 198, 305, 236, 197, 235, 196, 149, 194, 193, 304, 303, 302, 301, 395, 350, 349, 300, 299, 348, 298, 297, 232, 192, 148, 147, 47, 80, 37, 91, 279, 278, 276, 275, 392, 342, 341, 274, 340, 339, 273, 338, 272, 233, 277, 271, 218, 281, 280, 219, 173, 262, 206, 156, 208, 158, 89, 159, 90, 83, 38, 34, 33, 32, 79, 191, 190, 189, 146, 145, 144, 143, 78, 231, 296, 230, 294, 229, 188, 141, 346, 293, 228, 187, 140, 139, 289, 344, 347, 295, 394, 345, 290, 287, 288, 284, 285, 227, 186, 138, 137, 142, 108, 49, 185, 136, 135, 77, 31, 10, 134, 76, 75, 30, 73, 74, 29, 28, 70, 226, 225, 184, 224, 183, 223, 283, 282, 222, 221, 182, 133, 71, 101, 215, 214, 213, 170, 92, 72, 234, 195, 343, 286, 429, 291, 292, 430, 393, 391, 337, 270, 269, 268, 336, 266, 267, 265, 264, 212, 335, 263, 211, 169, 110, 99, 180, 179, 178, 131, 130, 166, 167, 165, 98, 97, 95, 129, 69, 27, 9, 5, 6, 68, 25, 26, 23, 177, 128, 127, 66, 67, 24, 22, 118, 175, 117, 51, 65, 126, 64, 63, 125, 62, 61, 60, 59, 181, 132, 113, 58, 57, 42, 56, 55, 54, 124, 220, 176, 123, 122, 121, 120, 119, 53, 52, 21, 8, 4, 3]) := by kernel_rfl
theorem cl2 : closB Tryz.pinned.checked.prog 1530 [672, 676, 667, 677, 613, 532, 533, 534, 535, 481, 482, 417, 417, 325, 418, 473, 374, 375, 376, 376, 377, 378, 379, 380, 380, 381, 382, 383, 384, 254, 254, 26, 26, 152, 153, 81, 28, 28, 30, 11, 12, 13, 14, 15, 16, 17, 18, 19, 19, 20, 6, 5, 6, 5, 6, 5, 6, 5, 6, 5, 6, 5, 6, 5, 4, 6, 5, 4, 6, 5, 6, 5, 4, 6, 5, 6, 5, 6, 5, 6, 5, 6, 5, 6, 5, 6, 5, 6, 5, 6, 5, 6, 5, 6, 5, 6, 5, 6, 5, 6, 5, 7] 447482873492105194749107457894353529182649819935912350895452872327975960925892179078538397816610080684775605919969767132395903315464320804530165078232464920918612634615194403354491057447616704835206616597872492452538521634465122738769786486359328632 [615, 614, 531, 612, 530, 673, 672, 611, 671, 610, 609, 529, 726, 725, 670, 669, 608, 668, 607, 606, 528, 605, 527, 774, 724, 723, 667, 604, 602, 526, 665, 597, 603, 618, 601, 666, 600, 599, 598, 525, 480, 524, 595, 596, 785, 773, 722, 721, 664, 593, 594, 720, 820, 808, 807, 794, 823, 819, 822, 825, 824, 821, 818, 804, 803, 816, 817, 815, 805, 814, 813, 812, 802, 801, 799, 800, 798, 797, 811, 806, 810, 809, 796, 793, 784, 772, 719, 771, 718, 717, 663, 592, 661, 590, 716, 662, 591, 589, 660, 588, 523, 715, 658, 659, 585, 584, 583, 582, 581, 522, 579, 578, 521, 577, 576, 520, 575, 519, 574, 587, 586, 657, 580, 573, 518, 572, 571, 714, 656, 570, 517, 479, 451, 478, 450, 449, 448, 655, 713, 654, 653, 712, 652, 569, 770, 769, 711, 651, 568, 516, 477, 447, 103, 446, 476, 445, 475, 474, 444, 473, 471, 443, 442, 414, 413, 155, 412, 411, 546, 486, 472, 702, 637, 636, 545, 485, 454, 484, 453, 416, 452, 415, 374, 102, 650, 428, 427, 388, 567, 385, 386, 327, 566, 514, 515, 565, 649, 564, 513, 470, 563, 562, 512, 511, 469, 441, 455, 417, 418, 551, 550, 493, 492, 555, 554, 553, 491, 490, 552, 489, 458, 424, 710, 646, 645, 483, 709, 792, 783, 768, 767, 708, 644, 643, 707, 706, 642, 641, 705, 647, 704, 640, 703, 390, 389, 334, 333, 261, 260, 332, 331, 259, 258, 205, 154, 81, 639, 549, 548, 638, 547, 488, 457, 423, 410, 409, 373, 372, 326, 253, 325, 254, 252, 251, 250, 249, 202, 324, 248, 201, 151, 510, 468, 505, 559, 504, 503, 502, 558, 371, 507, 506, 466, 501, 557, 556, 500, 648, 561, 509, 560, 508, 499, 467, 323, 465, 440, 408, 370, 439, 407, 406, 369, 405, 368, 322, 321, 320, 403, 364, 402, 363, 362, 496, 498, 497, 464, 463, 495, 462, 438, 437, 365, 436, 435, 434, 433, 404, 367, 366, 401, 400, 361, 360, 319, 247, 200, 150, 246, 245, 244, 318, 243, 242, 199, 399, 353, 494, 461, 432, 431, 398, 397, 352, 396, 351, 241, 306, 237, 311, 359, 317, 316, 358, 357, 315, 356, 314, 355, 313, 312, 310, 309, 240, 354, 308, 307, 239, 238, 198, 305, 236, 197, 235, 196, 149, 194, 193, 304, 303, 302, 301, 395, 350, 349, 300, 299, 348, 298, 297, 232, 192, 148, 147, 47, 80, 37, 91, 279, 278, 276, 275, 392, 342, 341, 274, 340, 339, 273, 338, 272, 233, 277, 271, 218, 281, 280, 219, 173, 262, 206, 156, 208, 158, 89, 159, 90, 83, 38, 34, 33, 32, 79, 191, 190, 189, 146, 145, 144, 143, 78, 231, 296, 230, 294, 229, 188, 141, 346, 293, 228, 187, 140, 139, 289, 344, 347, 295, 394, 345, 290, 287, 288, 284, 285, 227, 186, 138, 137, 142, 108, 49, 185, 136, 135, 77, 31, 10, 134, 76, 75, 30, 73, 74, 29, 28, 70, 226, 225, 184, 224, 183, 223, 283, 282, 222, 221, 182, 133, 71, 101, 215, 214, 213, 170, 92, 72, 234, 195, 343, 286, 429, 291, 292, 430, 393, 391, 337, 270, 269, 268, 336, 266, 267, 265, 264, 212, 335, 263, 211, 169, 110, 99, 180, 179, 178, 131, 130, 166, 167, 165, 98, 97, 95, 129, 69, 27, 9, 5, 6, 68, 25, 26, 23, 177, 128, 127, 66, 67, 24, 22, 118, 175, 117, 51, 65, 126, 64, 63, 125, 62, 61, 60, 59, 181, 132, 113, 58, 57, 42, 56, 55, 54, 124, 220, 176, 123, 122, 121, 120, 119, 53, 52, 21, 8, 4, 3] = clV := by kernel_rfl
theorem closV : Tryz.pinned.checked.prog.closure 3 = clV := closure_of (closB_two fuelV cl1 cl2)
theorem j0 : (Rows.modelKnownRow.wf (OpenSpec.ofChange Rows.modelKnownSpec)) = true := by kernel_rfl
theorem j1 : (laidOutB Tryz.pinned.checked.prog) = true := laidOut
theorem j2 : (mapsRowed Tryz.pinned.checked.prog) = true := by kernel_rfl
theorem j3 : (Tryz.f3.params.all (Tryz.pinned.checked.prog.readableRec ·)) = true := by kernel_rfl
theorem j4 : (namedTie Tryz.pinned.checked.prog Rows.modelKnownRow.named Rows.modelKnownSpec.vars) = true := by kernel_rfl
theorem j5 : ((Rows.modelKnownRow.stops == [])) = true := by kernel_rfl
theorem j6 : ((Tryz.pinned.checked.prog.stops == [])) = true := by kernel_rfl
theorem j7 : ((Rows.modelKnownRow.knobs == [])) = true := by kernel_rfl
theorem j8 : ((Tryz.pinned.checked.prog.stopKnobs == [])) = true := by kernel_rfl
theorem j9a : (Rows.modelKnownRow.inPlace == clV.filterMap fun g => (Tryz.pinned.checked.prog.funcs[g]?).bind fun fn => if fn.ours || fn.body.isNone || fn.name == "runtime.NumGoroutine" then some fn.name else none) = true := by kernel_rfl
theorem j9 : ((Rows.modelKnownRow.inPlace == Tryz.pinned.checked.prog.inPlace 3)) = true := by unfold Program.inPlace; rw [closV]; exact j9a
theorem unfV : Tryz.pinned.checked.prog.unfollowed 3 = true := by
  unfold Program.unfollowed; rw [closV]; kernel_rfl
theorem j10 : ((Rows.modelKnownRow.unfollowed == Tryz.pinned.checked.prog.unfollowed 3)) = true := by rw [unfV]; rfl
theorem j11 : ((Rows.modelKnownRow.recurses == Tryz.pinned.checked.prog.recurses 3)) = true := by unfold Program.recurses; rw [unfV]; rfl
theorem gv1 : (clV.take 400).flatMap (fun g => ((Tryz.pinned.checked.prog.funcs[g]?).bind (·.body)).elim [] Code.globalsNamed) = [3, 4, 1, 1, 1, 0, 2, 5, 6] := by kernel_rfl
theorem gv2 : (clV.drop 400).flatMap (fun g => ((Tryz.pinned.checked.prog.funcs[g]?).bind (·.body)).elim [] Code.globalsNamed) = [7, 8, 10, 11, 10, 10, 13, 13, 13, 16, 16, 14, 14, 14, 14, 17, 17, 12, 11, 12, 12, 15, 15, 15] := by kernel_rfl
theorem gv3 : (([3, 4, 1, 1, 1, 0, 2, 5, 6] ++ [7, 8, 10, 11, 10, 10, 13, 13, 13, 16, 16, 14, 14, 14, 14, 17, 17, 12, 11, 12, 12, 15, 15, 15] : List Nat)).eraseDups = [3, 4, 1, 0, 2, 5, 6, 7, 8, 10, 11, 13, 16, 14, 17, 12, 15] := by kernel_rfl
theorem gvV : (clV.flatMap fun g => ((Tryz.pinned.checked.prog.funcs[g]?).bind (·.body)).elim [] Code.globalsNamed).eraseDups = [3, 4, 1, 0, 2, 5, 6, 7, 8, 10, 11, 13, 16, 14, 17, 12, 15] := by
  have h : (clV.flatMap fun g => ((Tryz.pinned.checked.prog.funcs[g]?).bind (·.body)).elim [] Code.globalsNamed) = ([3, 4, 1, 1, 1, 0, 2, 5, 6] ++ [7, 8, 10, 11, 10, 10, 13, 13, 13, 16, 16, 14, 14, 14, 14, 17, 17, 12, 11, 12, 12, 15, 15, 15] : List Nat) := by
    rw [← List.take_append_drop 400 clV, List.flatMap_append, gv1, gv2]
  rw [h]; exact gv3
theorem j12a : (Rows.modelKnownRow.named == (((([3, 4, 1, 0, 2, 5, 6, 7, 8, 10, 11, 13, 16, 14, 17, 12, 15] : List Nat)).filterMap (fun g => (Tryz.pinned.checked.prog.globals[g]?).map (·.name)) ++ clV.filterMap fun g => (Tryz.pinned.checked.prog.funcs[g]?).bind fun fn => if fn.body.isNone then entryReads.lookup fn.name else none).eraseDups)) = true := by kernel_rfl
theorem j12 : ((Rows.modelKnownRow.named == Tryz.pinned.checked.prog.varsNamed 3)) = true := by unfold Program.varsNamed; rw [closV, gvV]; exact j12a
theorem j13 : ((Rows.modelKnownRow.maps == (Tryz.f3.params.toList ++ Rows.modelKnownSpec.plain.varTypes Tryz.pinned.checked.prog).any (Tryz.pinned.checked.prog.mapsRec ·))) = true := by kernel_rfl
theorem j14 : ((Rows.modelKnownRow.ifaces == (Tryz.f3.params.toList ++ Rows.modelKnownSpec.plain.varTypes Tryz.pinned.checked.prog).any (Tryz.pinned.checked.prog.ifacesRec ·))) = true := by kernel_rfl
theorem j15 : ((Rows.modelKnownRow.mapsOut == Tryz.pinned.checked.prog.mapsAmong Tryz.f3.resultTypes.toList)) = true := by kernel_rfl
theorem j16 : ((Rows.modelKnownRow.loops == (Tryz.f3.params.toList ++ Rows.modelKnownSpec.plain.varTypes Tryz.pinned.checked.prog).any (Tryz.pinned.checked.prog.loopsFrom ·))) = true := by kernel_rfl
theorem j17 : ((Rows.modelKnownRow.wideKeys == (Tryz.f3.params.toList ++ Rows.modelKnownSpec.plain.varTypes Tryz.pinned.checked.prog ++ Tryz.f3.resultTypes.toList).any (Tryz.pinned.checked.prog.wideKeysFrom ·))) = true := by kernel_rfl
theorem j18 : (Rows.modelKnownSpec.vars.all (Tryz.pinned.checked.prog.varReadable ·)) = true := by kernel_rfl
theorem j19 : (Tryz.f3.resultTypes.all (fun t => Tryz.pinned.checked.prog.readableRec t && decide (t < Tryz.pinned.checked.prog.types.size))) = true := by kernel_rfl
theorem j20 : ((Rows.modelKnownRow.ifacesOut == Tryz.f3.resultTypes.toList.any (Tryz.pinned.checked.prog.ifacesRec ·))) = true := by kernel_rfl
theorem j21 : ((Rows.modelKnownRow.loopsOut == Tryz.f3.resultTypes.toList.any (Tryz.pinned.checked.prog.loopsFrom ·))) = true := by kernel_rfl
theorem j22 : ((Rows.modelKnownRow.plainKeys == Tryz.pinned.checked.prog.plainKeys)) = true := by kernel_rfl
theorem j23 : (Rows.modelKnownRow.shortTexts.isNone) = true := by kernel_rfl
theorem j24 : (Tryz.pinned.checked.prog.stopsHeard) = true := by kernel_rfl
theorem j25 : (Tryz.pinned.checked.prog.mayEnter) = true := by kernel_rfl
theorem j26 : ((Rows.modelKnownRow.lifted == Tryz.pinned.checked.prog.liftsFinal)) = true := by kernel_rfl
theorem j27 : ((Tryz.pinned.checked.prog.make == some Rows.modelKnownRow.make)) = true := by kernel_rfl
theorem j28 : ((Rows.modelKnownRow.kinds == (if Rows.modelKnownRow.domain.isEmpty then [] else Tryz.f3.params.toList.map fun t => match Tryz.pinned.checked.prog.underlying t with | some (.int k) => some k | _ => none))) = true := by kernel_rfl
theorem j29 : ((Rows.modelKnownRow.pinned == Rows.modelKnownRow.pinnedBy)) = true := by kernel_rfl
theorem j30 : ((Rows.modelKnownRow.veiled == (Tryz.f3.params.toList ++ Rows.modelKnownSpec.plain.varTypes Tryz.pinned.checked.prog ++ Tryz.f3.resultTypes.toList).any (Tryz.pinned.checked.prog.veiledRec ·))) = true := by kernel_rfl
theorem j31 : (Rows.modelKnownRow.veiledFits Tryz.pinned.checked.prog Tryz.f3.params.toList (Tryz.f3.params.toList ++ Rows.modelKnownSpec.plain.varTypes Tryz.pinned.checked.prog ++ Tryz.f3.resultTypes.toList)) = true := by kernel_rfl
theorem an {a b : Bool} (h1 : a = true) (h2 : b = true) : (a && b) = true := by rw [h1, h2]; rfl
theorem facts : joinedFacts Tryz.pinned.checked.prog 3 Tryz.f3 Rows.modelKnownSpec Rows.modelKnownRow = true := (an (an (an (an (an (an (an (an (an (an (an (an (an (an (an (an (an (an (an (an (an (an (an (an (an (an (an (an (an (an (an j0 j1) j2) j3) j4) j5) j6) j7) j8) j9) j10) j11) j12) j13) j14) j15) j16) j17) j18) j19) j20) j21) j22) j23) j24) j25) j26) j27) j28) j29) j30) j31)
theorem wrapper : Tryz.f3.isWrapper Tryz.pinned.checked.prog Rows.modelKnownRow.wrapper Rows.modelKnownRow.mainSum := by unfold Func.isWrapper; first | (rw [if_pos (by decide +kernel)]; kernel_rfl) | (rw [if_neg (by decide +kernel)]; exact ⟨rfl, rfl⟩)
theorem instance_ : Tryz.f3.isInstance Tryz.pinned.checked.prog Rows.modelKnownRow.origin Rows.modelKnownRow.targs := of_decide_eq_true (by kernel_rfl)
theorem said : Rows.ModelKnownSaid :=
  OpenClaim.holds_of_cond 3 Tryz.f3 rfl rfl rfl rfl rfl rfl rfl ⟨rfl, rfl, rfl, rfl, rfl⟩ rfl rfl rfl rfl rfl lawNamed Tryz.func3 facts
    instance_ wrapper
    (fun os started D enc _ F => by rw [OpenClaim.pre_eq_preRow]; exact lifted os started D enc F)
theorem looksV : true = Tryz.pinned.checked.prog.looks [] := by kernel_rfl
theorem plain (f : FuncId) (fn : Func) (hf : Tryz.pinned.checked.prog.funcNamed Rows.modelKnownRow.func = some f) (hfn : Tryz.pinned.checked.prog.funcs[f]? = some fn) :
    true = Tryz.pinned.checked.prog.looks [] ∧ ∀ (j : Nat) t, fn.params[j]? = some t → Tryz.pinned.checked.prog.wantsStandIn t = false := by
  obtain rfl : f = 3 := Option.some.inj (lawNamed.symm.trans hf) |>.symm
  obtain rfl : fn = Tryz.f3 := (Option.some.inj (Tryz.func3.symm.trans hfn)).symm
  refine ⟨looksV, fun j t ht => ?_⟩
  rw [Tryz.params3] at ht
  have hm := Array.mem_of_getElem? ht
  simp at hm
theorem wfV : Rows.modelKnownRow.wfByText (OpenSpec.ofChange Rows.modelKnownSpec) = true := by kernel_rfl
theorem mainV : Tryz.pinned.checked.prog.mainIs = some (true, (Rows.modelKnownCard.stood.harness.2).toList) := by kernel_rfl
theorem go0 : (((Tryz.prog.funcs.toList.drop 0).take 20).any Func.goes) = false := by kernel_rfl
theorem go1 : (((Tryz.prog.funcs.toList.drop 20).take 20).any Func.goes) = false := by kernel_rfl
theorem go2 : (((Tryz.prog.funcs.toList.drop 40).take 20).any Func.goes) = false := by kernel_rfl
theorem go3 : (((Tryz.prog.funcs.toList.drop 60).take 20).any Func.goes) = false := by kernel_rfl
theorem go4 : (((Tryz.prog.funcs.toList.drop 80).take 20).any Func.goes) = false := by kernel_rfl
theorem go5 : (((Tryz.prog.funcs.toList.drop 100).take 20).any Func.goes) = false := by kernel_rfl
theorem go6 : (((Tryz.prog.funcs.toList.drop 120).take 20).any Func.goes) = false := by kernel_rfl
theorem go7 : (((Tryz.prog.funcs.toList.drop 140).take 20).any Func.goes) = false := by kernel_rfl
theorem go8 : (((Tryz.prog.funcs.toList.drop 160).take 20).any Func.goes) = false := by kernel_rfl
theorem go9 : (((Tryz.prog.funcs.toList.drop 180).take 20).any Func.goes) = false := by kernel_rfl
theorem go10 : (((Tryz.prog.funcs.toList.drop 200).take 20).any Func.goes) = false := by kernel_rfl
theorem go11 : (((Tryz.prog.funcs.toList.drop 220).take 20).any Func.goes) = false := by kernel_rfl
theorem go12 : (((Tryz.prog.funcs.toList.drop 240).take 20).any Func.goes) = false := by kernel_rfl
theorem go13 : (((Tryz.prog.funcs.toList.drop 260).take 20).any Func.goes) = false := by kernel_rfl
theorem go14 : (((Tryz.prog.funcs.toList.drop 280).take 20).any Func.goes) = false := by kernel_rfl
theorem go15 : (((Tryz.prog.funcs.toList.drop 300).take 20).any Func.goes) = false := by kernel_rfl
theorem go16 : (((Tryz.prog.funcs.toList.drop 320).take 20).any Func.goes) = false := by kernel_rfl
theorem go17 : (((Tryz.prog.funcs.toList.drop 340).take 20).any Func.goes) = false := by kernel_rfl
theorem go18 : (((Tryz.prog.funcs.toList.drop 360).take 20).any Func.goes) = false := by kernel_rfl
theorem go19 : (((Tryz.prog.funcs.toList.drop 380).take 20).any Func.goes) = false := by kernel_rfl
theorem go20 : (((Tryz.prog.funcs.toList.drop 400).take 20).any Func.goes) = false := by kernel_rfl
theorem go21 : (((Tryz.prog.funcs.toList.drop 420).take 20).any Func.goes) = false := by kernel_rfl
theorem go22 : (((Tryz.prog.funcs.toList.drop 440).take 20).any Func.goes) = false := by kernel_rfl
theorem go23 : (((Tryz.prog.funcs.toList.drop 460).take 20).any Func.goes) = false := by kernel_rfl
theorem go24 : (((Tryz.prog.funcs.toList.drop 480).take 20).any Func.goes) = false := by kernel_rfl
theorem go25 : (((Tryz.prog.funcs.toList.drop 500).take 20).any Func.goes) = false := by kernel_rfl
theorem go26 : (((Tryz.prog.funcs.toList.drop 520).take 20).any Func.goes) = false := by kernel_rfl
theorem go27 : (((Tryz.prog.funcs.toList.drop 540).take 20).any Func.goes) = false := by kernel_rfl
theorem go28 : (((Tryz.prog.funcs.toList.drop 560).take 20).any Func.goes) = false := by kernel_rfl
theorem go29 : (((Tryz.prog.funcs.toList.drop 580).take 20).any Func.goes) = false := by kernel_rfl
theorem go30 : (((Tryz.prog.funcs.toList.drop 600).take 20).any Func.goes) = false := by kernel_rfl
theorem go31 : (((Tryz.prog.funcs.toList.drop 620).take 20).any Func.goes) = false := by kernel_rfl
theorem go32 : (((Tryz.prog.funcs.toList.drop 640).take 20).any Func.goes) = false := by kernel_rfl
theorem go33 : (((Tryz.prog.funcs.toList.drop 660).take 20).any Func.goes) = false := by kernel_rfl
theorem go34 : (((Tryz.prog.funcs.toList.drop 680).take 20).any Func.goes) = false := by kernel_rfl
theorem go35 : (((Tryz.prog.funcs.toList.drop 700).take 20).any Func.goes) = false := by kernel_rfl
theorem go36 : (((Tryz.prog.funcs.toList.drop 720).take 20).any Func.goes) = false := by kernel_rfl
theorem go37 : (((Tryz.prog.funcs.toList.drop 740).take 20).any Func.goes) = false := by kernel_rfl
theorem go38 : (((Tryz.prog.funcs.toList.drop 760).take 20).any Func.goes) = false := by kernel_rfl
theorem go39 : (((Tryz.prog.funcs.toList.drop 780).take 20).any Func.goes) = false := by kernel_rfl
theorem go40 : (((Tryz.prog.funcs.toList.drop 800).take 20).any Func.goes) = false := by kernel_rfl
theorem go41 : (((Tryz.prog.funcs.toList.drop 820).take 20).any Func.goes) = false := by kernel_rfl
theorem go42 : (((Tryz.prog.funcs.toList.drop 840).take 20).any Func.goes) = false := by kernel_rfl
theorem go43 : (((Tryz.prog.funcs.toList.drop 860).take 20).any Func.goes) = false := by kernel_rfl
theorem go44 : (((Tryz.prog.funcs.toList.drop 880).take 20).any Func.goes) = false := by kernel_rfl
theorem goE : ((Tryz.prog.funcs.toList.drop 900).any Func.goes) = false := by kernel_rfl
theorem goesB : (Tryz.prog.funcs.toList.any Func.goes) = false := any_cut 20 go0 (any_cut 20 go1 (by rw [List.drop_drop]; exact (any_cut 20 go2 (by rw [List.drop_drop]; exact (any_cut 20 go3 (by rw [List.drop_drop]; exact (any_cut 20 go4 (by rw [List.drop_drop]; exact (any_cut 20 go5 (by rw [List.drop_drop]; exact (any_cut 20 go6 (by rw [List.drop_drop]; exact (any_cut 20 go7 (by rw [List.drop_drop]; exact (any_cut 20 go8 (by rw [List.drop_drop]; exact (any_cut 20 go9 (by rw [List.drop_drop]; exact (any_cut 20 go10 (by rw [List.drop_drop]; exact (any_cut 20 go11 (by rw [List.drop_drop]; exact (any_cut 20 go12 (by rw [List.drop_drop]; exact (any_cut 20 go13 (by rw [List.drop_drop]; exact (any_cut 20 go14 (by rw [List.drop_drop]; exact (any_cut 20 go15 (by rw [List.drop_drop]; exact (any_cut 20 go16 (by rw [List.drop_drop]; exact (any_cut 20 go17 (by rw [List.drop_drop]; exact (any_cut 20 go18 (by rw [List.drop_drop]; exact (any_cut 20 go19 (by rw [List.drop_drop]; exact (any_cut 20 go20 (by rw [List.drop_drop]; exact (any_cut 20 go21 (by rw [List.drop_drop]; exact (any_cut 20 go22 (by rw [List.drop_drop]; exact (any_cut 20 go23 (by rw [List.drop_drop]; exact (any_cut 20 go24 (by rw [List.drop_drop]; exact (any_cut 20 go25 (by rw [List.drop_drop]; exact (any_cut 20 go26 (by rw [List.drop_drop]; exact (any_cut 20 go27 (by rw [List.drop_drop]; exact (any_cut 20 go28 (by rw [List.drop_drop]; exact (any_cut 20 go29 (by rw [List.drop_drop]; exact (any_cut 20 go30 (by rw [List.drop_drop]; exact (any_cut 20 go31 (by rw [List.drop_drop]; exact (any_cut 20 go32 (by rw [List.drop_drop]; exact (any_cut 20 go33 (by rw [List.drop_drop]; exact (any_cut 20 go34 (by rw [List.drop_drop]; exact (any_cut 20 go35 (by rw [List.drop_drop]; exact (any_cut 20 go36 (by rw [List.drop_drop]; exact (any_cut 20 go37 (by rw [List.drop_drop]; exact (any_cut 20 go38 (by rw [List.drop_drop]; exact (any_cut 20 go39 (by rw [List.drop_drop]; exact (any_cut 20 go40 (by rw [List.drop_drop]; exact (any_cut 20 go41 (by rw [List.drop_drop]; exact (any_cut 20 go42 (by rw [List.drop_drop]; exact (any_cut 20 go43 (by rw [List.drop_drop]; exact (any_cut 20 go44 (by rw [List.drop_drop]; exact goE))))))))))))))))))))))))))))))))))))))))))))))))))))))))))))))))))))))))))))))))))))))))
theorem goesP : Tryz.prog.goes 3 = false := by
  have h0 : (Tryz.prog.funcs.any Func.goes) = false := by
    rw [← Array.any_toList]; exact goesB
  unfold Program.goes
  rw [h0, Bool.and_false, Bool.or_false, List.any_eq_false]
  intro g _
  cases hf : Tryz.prog.funcs[g]? with
  | none => simp
  | some fn =>
    have := Array.any_eq_false'.1 h0 fn (Array.mem_of_getElem? hf)
    simpa using this
theorem progP : Tryz.pinned.checked.prog = Tryz.prog := rfl
theorem startP : Rows.modelKnownRow.start = .entering := rfl
theorem goesV : false = Rows.modelKnownRow.goesBy Tryz.pinned.checked.prog := by
  rw [progP]
  unfold OpenClaim.goesBy Program.goesAt Program.goesFrom
  rw [lawNamed, startP, Option.any_some, goesP]
  rfl
/-- THE CARD -/
theorem modelKnown_holds : Rows.ModelKnownCardSaid :=
  Claim7.holds_tied_plain_at .later [] _ _ _ _ said (fun _ h => by cases h) wfV (fun _ h => by cases h) rowTie rfl ⟨rfl, rfl⟩ mainV rfl plain goesV
end Go.Proofs.YtccjhlheamiehaaGreatDoor
