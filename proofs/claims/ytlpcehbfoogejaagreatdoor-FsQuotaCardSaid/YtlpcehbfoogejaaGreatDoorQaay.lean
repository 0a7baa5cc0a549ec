/- A part of the proof: FsQuota returns true for every input and leaves its arguments as they were; no condition beside the row's own (the two tables of unicode/utf8 hold what the program's text lays). -/
import Derived.Test.YtlpcehbfoogejaaGreatDoorQaax
import Derived.Test.YtlpcehbfoogejaaGreatDoorCards
import Derived.Test.YtlpcehbfoogejaaGreatDoorTie
import Derived.WalkKit
import Derived.ProofKit
import Derived.OpenShut
import Derived.Deep.DeepHandedRow
import Derived.Lib.LaidTab
/- FsQuota: the walk. -/
set_option maxRecDepth 100000
namespace Go.Proofs.YtlpcehbfoogejaaGreatDoor
open Go Go.HL Go.Wk
attribute [local irreducible] ptrW ifW brW andW rdT alW letJ stW muW biW vaW imW callT cvalT app callW invW callVW sizeT oW nilF oneK loopW rfW funW begW roundK exW idxW Gr Put
structure Act where
  what : Int
  cwd : ByteArray
  a : ByteArray
  b : ByteArray
  mode : Int
  flag : Bool
def Act.cells (a : Act) : List Value := [.int .u8 a.what, .string a.cwd, .string a.a, .string a.b, .int .i64 a.mode, .bool a.flag]
def ActsAt (σ : H) (l : List Act) (x : Sl) : Prop := RowsAt σ 6 (l.map Act.cells) x
theorem ActsAt.rd {σ : H} {l : List Act} {x : Sl} (h : ActsAt σ l x) {i : Nat} {a : Act} (hi : l[i]? = some a) : ∃ g o, x.base = some ⟨g, o, none⟩ ∧ rdA 6 g (o + i * 6) σ = some (.agg ⟨a.cells⟩) := RowsAt.rd h (by simp [hi]) (by decide)
theorem ActsAt.len {σ : H} {l : List Act} {x : Sl} (h : ActsAt σ l x) : x.len = l.length := by have := h.1; simpa using this
theorem sz_Act8 : sizeT Tryz.prog 40 = some 6 := by kernel_rfl
def tx (s : ByteArray) : ByteArray := s.extract 0 (min s.size 300)
theorem tx_size (s : ByteArray) : (tx s).size ≤ 300 := by unfold tx; rw [ByteArray.size_extract]; omega
def kTree (b : ByteArray) : Tr := .mk ⟨⟨[]⟩⟩ 2 false ⟨⟨[]⟩⟩ [.mk ⟨⟨[107]⟩⟩ 1 false b []]
theorem s_FsQuota {σ : H} (inodes bytes : Int) (x : Sl) (acts : List Act) (hx : ActsAt σ acts x) (h1 : 0 ≤ inodes ∧ inodes < 256) (h2 : 0 ≤ bytes ∧ bytes < 256) {K : Value → H → Prop} (hK : ∀ σ', Gr σ σ' → K (.bool true) σ') :
    callW Tryz.prog 4 [.int .u8 inodes, .int .u8 bytes, .slice x.base x.len x.cap] K σ := by
  refine c4 _ _ _ ?_
  unfold g4
  refine call_i (s_works8 (app_B (br_f rfl (if_i (by decide) (if_i (by decide) ?_)))))
  have t1 : 0 ≤ Int.tmod inodes 12 ∧ Int.tmod inodes 12 ≤ 11 := by
    rw [Int.tmod_eq_emod_of_nonneg h1.1]; omega
  have t2 : 0 ≤ Int.tmod bytes 60 ∧ Int.tmod bytes 60 ≤ 59 := by
    rw [Int.tmod_eq_emod_of_nonneg h2.1]; omega
  rw [wrap_id (x := Int.tmod inodes 12) (by omega) (by omega), wrap_id (x := 1 + Int.tmod inodes 12) (by omega) (by omega), wrap_id (x := Int.tmod bytes 60) (by omega) (by omega)]
  generalize hqi : 1 + Int.tmod inodes 12 = qi
  generalize hqb : Int.tmod bytes 60 = qb
  refine al_i ?_; intro b5 σ1 g1 e1 n1
  refine st_i2 e1 sz_Quota (by rfl) (by rfl) ?_; intro σ2 p2
  have hg2 : Gr σ σ2 := g1.putF p2 n1
  have k5 : σ2 b5 = some (.cells ⟨[.int .i64 qi, .int .i64 qb]⟩ 31 (0, 0)) := p2.same
  refine rd_G (rdA_of' k5 (by rfl)) ?_
  (refine app_of rfl ?_; try dsimp only)
  have hnew : newOk qi qb = true := by unfold newOk; simp; omega
  refine call_i (s_New qi qb (fun h => by rw [hnew] at h; cases h) ?_)
  intro _ bf σ3 B3 F3 g3 hf3
  have O3 : Off σ2 σ3 B3 := Off.new g3 hf3
  clear p2 e1 g1
  refine app_P (br_f rfl ?_)
  refine loop_i ?_
  intro R hR
  have key : ∀ (k i : Nat) (A : AT) (N : Nat) (τ : H) (B : Nat → Prop), k + i = 60 → Inv A → Bd N A → N ≤ 1 + i * 1000 → A.qi = qi → A.qb = qb → FsAt τ bf A B → Off σ2 τ B → R x (some ⟨b5, 0, none⟩) (some ⟨bf, 0, none⟩) (i : Int) τ := by
    intro k
    induction k with
    | zero =>
      intro i A N τ B hki hI hB hN q1 q2 hF hO
      refine hR _ _ _ _ _ ?_
      refine j_i (fun j => ∀ v1 v2, j x (some ⟨b5, 0, none⟩) (some ⟨bf, 0, none⟩) (i : Int) v1 v2 false τ) ?_ ?_
      · intro v1 v2
        exact br_f rfl (hK τ (hg2.trans hO.1))
      · intro j hj
        by_cases hl : (i : Int) < ((x.len : Nat) : Int)
        · refine br_t (by simpa using hl) ?_
          have : decide ((i : Int) < 60) = false := by simp only [decide_eq_false_iff_not]; omega
          rw [this]; exact hj _ _
        · exact br_f (by simpa using hl) (hj _ _)
    | succ k ih =>
      intro i A N τ B hki hI hB hN q1 q2 hF hO
      refine hR _ _ _ _ _ ?_
      refine j_i (fun j => ∀ v1 v2 (b : Bool), (b = true → i < acts.length) → j x (some ⟨b5, 0, none⟩) (some ⟨bf, 0, none⟩) (i : Int) v1 v2 b τ) ?_ ?_
      case refine_2 =>
        intro j hj
        have hlen := hx.len
        by_cases hl : (i : Int) < ((x.len : Nat) : Int)
        · exact br_t (by simpa using hl) (hj _ _ _ (fun _ => by omega))
        · exact br_f (by simpa using hl) (hj _ _ _ (fun h => by cases h))
      intro v1 v2 b hb
      cases b with
      | false => exact br_f rfl (hK τ (hg2.trans hO.1))
      | true =>
        have hlt := hb rfl
        refine br_t rfl ?_
        obtain ⟨ac, hac⟩ : ∃ ac, acts[i]? = some ac := ⟨_, List.getElem?_eq_getElem hlt⟩
        have hgt : Gr σ τ := hg2.trans hO.1
        obtain ⟨g, o, hbs, hrd⟩ := ActsAt.rd (show ActsAt τ acts x from RowsAt.gr hx hgt) hac
        rw [hbs]
        have hrd' : rdA 6 g (o + (i : Int).toNat * 6) τ = some (.agg ⟨ac.cells⟩) := by simpa using hrd
        refine ptr_i (if_i ⟨by omega, by have := hx.len; omega⟩ (rd_G hrd' ?_))
        unfold Act.cells
        (refine app_of rfl ?_; try dsimp only)
        refine al_i ?_; intro b30 τ1 g4 e4 n4
        refine st_i2 e4 sz_Act8 (by rfl) (by rfl) ?_; intro τ2 p4
        have hg4 : Gr τ τ2 := g4.putF p4 n4
        have k30 : τ2 b30 = some (.cells ⟨[.int .u8 ac.what, .string ac.cwd, .string ac.a, .string ac.b, .int .i64 ac.mode, .bool ac.flag]⟩ 40 (0, 0)) := p4.same
        clear p4 e4
        have F2 := hF.gr hg4
        have O2 := hO.gr hg4
        refine rd_S (rdC_of k30 (by rfl)) (rd_S (rdC_of k30 (by rfl)) (rd_S (rdC_of k30 (by rfl)) ?_))
        refine call_i (s_text8 _ (app_S (and_i (rdC_of k30 (by rfl)) (and_i (rdC_of k30 (by rfl)) ?_))))
        refine call_i (s_text8 _ (app_S (and_i (rdC_of k30 (by rfl)) ?_)))
        refine call_i (s_text8 _ (app_S ?_))
        refine call_i (s_Used F2 ?_)
        (refine app_of rfl ?_; try dsimp only)
        refine al_i ?_; intro b39 τ3 g5 e5 n5
        refine st_i2 e5 sz_Quota (by rfl) (by rfl) ?_; intro τ4 p5
        have hg5 : Gr τ2 τ4 := g5.putF p5 n5
        have k39 : τ4 b39 = some (.cells ⟨[.int .i64 A.ui, .int .i64 A.ub]⟩ 31 (0, 0)) := p5.same
        clear p5 e5
        have F4 := F2.gr hg5
        have O4 := O2.gr hg5
        have k30' := hg5.get k30
        have n39 : σ2 b39 = none := none_of O2.1 n5
        have B39 : ¬ B b39 := F2.fresh n5
        refine j_i (fun j => ∀ (r : Int × AT) τ5 B5 v1 v2, OpOk (N + 1000) A r → FsAt τ5 bf r.2 B5 → Sep τ4 B τ5 B5 → j x (some ⟨b5, 0, none⟩) (some ⟨bf, 0, none⟩) (i : Int) (some ⟨b39, 0, none⟩) r.1 v1 v2 τ5) ?_ ?_
        · intro r τ5 B5 v1 v2 hop F5 S5
          obtain ⟨re, A'⟩ := r
          have k39' := (S5 b39 _ k39 B39).1
          have O5 := O4.sep S5
          have I5 : Inv A' := hop.inv
          refine call_i (s_Used F5 ?_)
          (refine app_of rfl ?_; try dsimp only)
          refine al_i ?_; intro b51 τ6 g6 e6 n6
          refine st_i2 e6 sz_Quota (by rfl) (by rfl) ?_; intro τ7 p6
          have hg6 : Gr τ5 τ7 := g6.putF p6 n6
          have k51 : τ7 b51 = some (.cells ⟨[.int .i64 A'.ui, .int .i64 A'.ub]⟩ 31 (0, 0)) := p6.same
          clear p6 e6
          have O7 := O5.gr hg6
          have F7 := F5.gr hg6
          have hk5 := O7.get k5
          have hk39 := hg6.get k39'
          have u1 := I5.ui_pos
          have u2 := I5.ub_pos
          have u3 := I5.uq
          have u4 := I5.bq
          have hq1 : A'.qi = qi := by have : A'.qi = A.qi := hop.qi; rw [this, q1]
          have hq2 : A'.qb = qb := by have : A'.qb = A.qb := hop.qb; rw [this, q2]
          refine j_i (fun j => ∀ w1 w2 w3 w4 w5 w6 w7 w8 w9 w10 w11 w12 w13 w14 w15 w16 w17 w18 w19 w20, j x (some ⟨b5, 0, none⟩) (some ⟨bf, 0, none⟩) (i : Int) w1 w2 w3 w4 w5 w6 w7 w8 w9 w10 w11 w12 w13 w14 w15 w16 w17 w18 w19 w20 false τ7) ?_ ?_
          · intro w1 w2 w3 w4 w5 w6 w7 w8 w9 w10 w11 w12 w13 w14 w15 w16 w17 w18 w19 w20
            refine br_f rfl ?_
            rw [wrap_id (x := (i : Int) + 1) (by omega) (by omega)]
            exact ih (i + 1) A' (N + 1000) τ7 B5 (by omega) I5 hop.bd (by omega) hq1 hq2 F7 O7
          · intro j hj
            refine rd_I (rdC_of k51 (by rfl)) (ptr_i (rd_I (rdC_of hk5 (by rfl)) ?_))
            refine br_f (by simp only [decide_eq_false_iff_not]; omega) (rd_I (rdC_of k51 (by rfl)) (ptr_i (rd_I (rdC_of hk5 (by rfl)) ?_)))
            refine br_f (by simp only [decide_eq_false_iff_not]; omega) (rd_I (rdC_of k51 (by rfl)) ?_)
            refine br_f (by simp only [decide_eq_false_iff_not]; omega) (rd_I (rdC_of k51 (by rfl)) ?_)
            refine br_f (by simp only [decide_eq_false_iff_not]; omega) ?_
            by_cases he : re = 0
            · exact br_f (by simpa using he) (hj _ _ _ _ _ _ _ _ _ _ _ _ _ _ _ _ _ _ _ _)
            · refine br_t (by simpa using he) (rd_G (rdA_of' k51 (by rfl)) ?_)
              (refine app_of rfl ?_; try dsimp only)
              refine ptr_i (rd_G (rdA_of' hk39 (by rfl)) ?_)
              (refine app_of rfl ?_; try dsimp only)
              have hs : A' = A := hop.same he
              have : (!((A'.ui == A.ui) && ((A'.ub == A.ub) && true))) = false := by rw [hs]; simp
              rw [this]
              exact hj _ _ _ _ _ _ _ _ _ _ _ _ _ _ _ _ _ _ _ _
        · intro j hj
          refine rd_I (rdC_of k30' (by rfl)) (if_i (by decide) ?_)
          show brW ((Int.tmod ac.what 5 : Int) == 0) _ _ _
          have hN1 : N ≤ 1000000000000 := by omega
          by_cases c0 : Int.tmod ac.what 5 = 0
          · refine br_t (by simpa using c0) (rd_B (rdC_of k30' (by rfl)) ?_)
            refine call_i (s_Write hI hB hN1 F4 _ _ _ _ (by have := tx_size ac.b; unfold tx at this; omega) ?_)
            intro τ5 B5 F5 S5
            exact app_I (hj _ τ5 B5 _ _ ((writeF_ok hI hB (by omega) _ _ _ _ (by have := tx_size ac.b; unfold tx at this; omega)).mono (by omega)) F5 S5)
          refine br_f (by simpa using c0) ?_
          by_cases c1 : Int.tmod ac.what 5 = 1
          · refine br_t (by simpa using c1) (call_i (s_Mkdir hI hB hN1 F4 _ _ ?_))
            intro τ5 B5 F5 S5
            exact app_I (hj _ τ5 B5 _ _ ((mkdirF_ok hI hB (by omega) _ _).mono (by omega)) F5 S5)
          refine br_f (by simpa using c1) ?_
          by_cases c2 : Int.tmod ac.what 5 = 2
          · refine br_t (by simpa using c2) (call_i (s_Symlink hI hB hN1 F4 _ _ _ ?_))
            intro τ5 B5 F5 S5
            exact app_I (hj _ τ5 B5 _ _ ((symlinkF_ok hI hB (by omega) _ _ _).mono (by omega)) F5 S5)
          refine br_f (by simpa using c2) ?_
          by_cases c3 : Int.tmod ac.what 5 = 3
          · refine br_t (by simpa using c3) ?_
            refine al_i ?_; intro b99 τ5 g7 e7 n7
            have F5 := F4.gr g7
            have hkt : (kTree (ac.b.extract 0 (min ac.b.size 300))).total ≤ 400 := by
              have := tx_size ac.b
              unfold tx at this
              simp only [kTree, Tr.total, Tr.totalRow]
              have q1 : (⟨⟨[]⟩⟩ : ByteArray).size = 0 := rfl
              have q2 : (⟨⟨[107]⟩⟩ : ByteArray).size = 1 := rfl
              omega
            have hsl : SlAt (fun b => if b = b99 then τ5 b else none) (kTree (ac.b.extract 0 (min ac.b.size 300))).kids ⟨some ⟨b99, 0, none⟩, 1, 1⟩ := by
              refine ⟨rfl, .inr ⟨b99, 0, _, _, _, rfl, by show (if b99 = b99 then τ5 b99 else none) = _; rw [if_pos rfl]; exact e7, ?_⟩⟩
              show TrAt _ (.mk ⟨⟨[107]⟩⟩ 1 false (ac.b.extract 0 (min ac.b.size 300)) []) _ ∧ True
              refine ⟨trAt_iff.2 ⟨⟨none, 0, 0⟩, rfl, rfl, .inl rfl⟩, trivial⟩
            have hof : Off (fun b => if b = b99 then τ5 b else none) τ5 B := by
              refine ⟨?_, ?_⟩
              · unfold Gr
                intro b o hb
                by_cases e : b = b99
                · simp only [e, if_true] at hb ⊢; exact hb
                · simp [e] at hb
              · intro b o hb
                by_cases e : b = b99
                · subst e; exact F4.fresh n7
                · simp [e] at hb
            refine call_i (s_Lay (kTree (ac.b.extract 0 (min ac.b.size 300))) ⟨some ⟨b99, 0, none⟩, 1, 1⟩ _ hI hB (by omega) F5 hof hsl ?_)
            intro τ6 B6 F6 S6
            exact app_I (hj _ τ6 B6 _ _ ((layF_ok hI hB _ _ (by omega)).mono (by omega)) F6 (S6.of_gr g7))
          · refine br_f (by simpa using c3) (call_i (s_Remove hI hB hN1 F4 _ _ ?_))
            intro τ5 B5 F5 S5
            exact app_I (hj _ τ5 B5 _ _ ((removeF_ok hI hB (by omega) _ _).mono (by omega)) F5 S5)
  obtain ⟨hI0, hB0⟩ := newT_ok hnew
  exact key 60 0 (newT qi qb) 1 σ3 B3 rfl hI0 hB0 (by omega) rfl rfl F3 O3
end Go.Proofs.YtlpcehbfoogejaaGreatDoor

/- THE CARDS: what they have in common. -/
set_option maxRecDepth 100000
namespace Go.Proofs.YtlpcehbfoogejaaGreatDoor
open Go Go.HL Go.Wk Go.ChangeShapes Go.WideShapes Go.ChangeAt Go.RowKit
theorem own : ownKnob Tryz.prog.godebug = none := by kernel_rfl
theorem laidOut : laidOutB Tryz.prog = true := by kernel_rfl
def accCells : Array Value := #[.int .u8 128, .int .u8 191, .int .u8 160, .int .u8 191, .int .u8 128, .int .u8 159, .int .u8 144, .int .u8 191, .int .u8 128, .int .u8 143, .int .u8 0, .int .u8 0, .int .u8 0, .int .u8 0, .int .u8 0, .int .u8 0, .int .u8 0, .int .u8 0, .int .u8 0, .int .u8 0, .int .u8 0, .int .u8 0, .int .u8 0, .int .u8 0, .int .u8 0, .int .u8 0, .int .u8 0, .int .u8 0, .int .u8 0, .int .u8 0, .int .u8 0, .int .u8 0]
def firstCells : Array Value := ⟨Go.Pinned.utf8FirstZ.map fun (n : Nat) => .int .u8 (n : Int)⟩
def setC (cs : Array Value) : Obj → Obj
  | .cells _ t frozen => .cells cs t frozen
  | o => o
/-- a world for the witness: the two tables hold what they must -/
noncomputable def laidWorld (os : Os) : World :=
  { World.holding Tryz.prog os ⟨#[], #[], []⟩ with heap := ((World.holding Tryz.prog os ⟨#[], #[], []⟩).heap.modify 1 (setC firstCells)).modify 2 (setC accCells) }
end Go.Proofs.YtlpcehbfoogejaaGreatDoor

