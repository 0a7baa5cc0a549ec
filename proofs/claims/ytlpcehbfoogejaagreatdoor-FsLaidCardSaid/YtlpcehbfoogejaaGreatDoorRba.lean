/- A part of the proof: whisklaw08.FsLaid: what Lay lays lies there, just so, or nothing was laid. -/
import Derived.Test.YtlpcehbfoogejaaGreatDoorRaz
import Derived.Test.YtlpcehbfoogejaaGreatDoorCards
import Derived.Test.YtlpcehbfoogejaaGreatDoorTie
import Derived.WalkKit
import Derived.ProofKit
import Derived.OpenShut
import Derived.Deep.DeepHandedRow
import Derived.Lib.LaidTab
/- PATHS THAT ARE GONE along directories; what lies at them. -/
namespace Go.Wk
open Go Go.HL
theorem splitL_app {c : UInt8} {b : List UInt8} : ∀ a : List UInt8, splitL c (a ++ c :: b) = splitL c a ++ splitL c b := by
  intro a
  induction a with
  | nil => simp [splitL]
  | cons x a ih =>
    simp only [List.cons_append, splitL]
    cases (x == c) with
    | true => simp [ih]
    | false =>
      simp only [ih]
      cases hs : splitL c a with
      | nil => exact absurd hs (splitL_ne a)
      | cons h t => simp
theorem app_data (a b : ByteArray) : (a ++ b).data.toList = a.data.toList ++ b.data.toList := by rw [ByteArray.data_append, Array.toList_append]
theorem badByte_mem {s : ByteArray} (h : badByte s = false) : (47 : UInt8) ∉ s.data.toList ∧ (0 : UInt8) ∉ s.data.toList := by
  unfold badByte at h
  rw [List.any_eq_false] at h
  exact ⟨fun hm => h 47 hm (by decide), fun hm => h 0 hm (by decide)⟩
theorem okPart_of {n : ByteArray} (h : nameOk n) : okPart n = true := by
  unfold okPart; rw [sEq_false h.1, sEq_false h.2.1]; rfl
/-- one name more -/
def sub (p n : ByteArray) : ByteArray := (p ++ ⟨⟨[47]⟩⟩) ++ n
theorem sub_data (p n : ByteArray) : (sub p n).data.toList = p.data.toList ++ 47 :: n.data.toList := by
  unfold sub; rw [app_data, app_data, List.append_assoc]; rfl
theorem parts_sub {p n : ByteArray} (h : nameOk n) : partsB (sub p n) = partsB p ++ [n] := by
  have h47 := (badByte_mem h.2.2).1
  unfold partsB
  rw [sub_data, splitL_app, splitL_none h47, List.map_append, List.filter_append]
  congr 1
  show List.filter okPart [n] = [n]
  simp [okPart_of h]
theorem nul_sub {p n : ByteArray} (h : nameOk n) (hp : hasNul p = false) : hasNul (sub p n) = false := by
  have h0 := (badByte_mem h.2.2).2
  unfold hasNul at hp ⊢
  rw [sub_data, List.any_append, hp, List.any_cons, Bool.false_or]
  rw [Bool.or_eq_false_iff]
  refine ⟨by decide, ?_⟩
  rw [List.any_eq_false]
  intro x hx hb
  have : x = 0 := by simpa using hb
  subst this; exact h0 hx
theorem head_sub {p n : ByteArray} {c : UInt8} (hp : headIs c p = true) : headIs c (sub p n) = true := by
  unfold headIs at hp ⊢
  rw [sub_data]
  cases hl : p.data.toList with
  | nil => rw [hl] at hp; cases hp
  | cons x r => rw [hl] at hp; exact hp
theorem sub_size (p n : ByteArray) : (sub p n).size = p.size + 1 + n.size := by
  unfold sub; rw [ByteArray.size_append, ByteArray.size_append]; rfl
/-- along directories -/
def Chain (A : AT) : Int → List ByteArray → Int → Prop
  | d, [], i => d = i
  | d, n :: r, i => A.kind d = 2 ∧ ∃ j, A.find d n = some j ∧ Chain A j r i
theorem Chain.snoc {A : AT} {n : ByteArray} {i j : Int} : ∀ {l : List ByteArray} {d : Int}, Chain A d l i → A.kind i = 2 → A.find i n = some j → Chain A d (l ++ [n]) j := by
  intro l
  induction l with
  | nil => intro d h h1 h2; have h : d = i := h; subst h; exact ⟨h1, j, h2, rfl⟩
  | cons x r ih =>
    intro d h h1 h2
    obtain ⟨a, k, b, c⟩ := h
    exact ⟨a, k, b, ih c h1 h2⟩
def stepOk (n : ByteArray) : Prop := n ≠ ⟨⟨[46, 46]⟩⟩ ∧ n.size ≤ 56
theorem steps_chain {A : AT} {go : Int → ByteArray → Int → Int × Pl × Int} {i h : Int} : ∀ {l : List ByteArray} {p : Pl}, Chain A p.ino l i → (∀ n ∈ l, stepOk n) → p.there = true → ∃ q : Pl, A.steps go false l p h = (0, q, h) ∧ q.ino = i ∧ q.there = true := by
  intro l
  induction l with
  | nil => intro p hc _ ht; exact ⟨p, rfl, hc, ht⟩
  | cons n r ih =>
    intro p hc hok ht
    obtain ⟨h1, j, h2, h3⟩ := hc
    obtain ⟨o1, o2⟩ := hok n (List.mem_cons_self ..)
    have h5 : (A.find p.ino n).isSome = false ∨ (r.isEmpty && !false) = true ∨ A.kind ((A.find p.ino n).getD 0) ≠ 3 := by
      cases r with
      | nil => exact .inr (.inl rfl)
      | cons m r' =>
        refine .inr (.inr ?_)
        rw [h2]
        have := h3.1
        show A.kind j ≠ 3
        omega
    rw [steps_name ht h1 (sEq_false o1) (by omega) h5]
    refine ih ?_ (fun m hm => hok m (List.mem_cons_of_mem _ hm)) ?_
    · show Chain A ((A.find p.ino n).getD 0) r i
      rw [h2]; exact h3
    · show (A.find p.ino n).isSome = true
      rw [h2]; rfl
/-- a path that leads to an inode -/
structure PathTo (A : AT) (p : ByteArray) (i : Int) : Prop where
  head : headIs 47 p = true
  nul : hasNul p = false
  chain : Chain A 1 (partsB p) i
  names : ∀ n ∈ partsB p, stepOk n
theorem PathTo.sub {A : AT} {p n : ByteArray} {i j : Int} (h : PathTo A p i) (hk : A.kind i = 2) (hf : A.find i n = some j) (hn : mayName n = true) : PathTo A (Wk.sub p n) j := by
  unfold mayName at hn
  simp only [Bool.and_eq_true, decide_eq_true_eq, Bool.not_eq_true'] at hn
  obtain ⟨h1, h2, h3, h4, h5⟩ := hn
  have hne : n ≠ ⟨⟨[]⟩⟩ := by intro e; rw [e] at h1; exact absurd h1 (by decide)
  have hne2 : n ≠ ⟨⟨[46]⟩⟩ := by intro e; rw [e] at h4; exact absurd h4 (by decide)
  have hne3 : n ≠ ⟨⟨[46, 46]⟩⟩ := by intro e; rw [e] at h5; exact absurd h5 (by decide)
  have hok : nameOk n := ⟨hne, hne2, h3⟩
  refine ⟨head_sub h.head, nul_sub hok h.nul, ?_, ?_⟩
  · rw [parts_sub hok]; exact h.chain.snoc hk hf
  · rw [parts_sub hok]
    intro m hm
    rcases List.mem_append.1 hm with hm | hm
    · exact h.names m hm
    · simp at hm; subst hm; exact ⟨hne3, h2⟩
theorem headIs_ne {p : ByteArray} {c : UInt8} (h : headIs c p = true) : sEq p ⟨⟨[]⟩⟩ = false := by
  refine sEq_false ?_
  intro e; rw [e] at h; cases h
theorem stat_at {A : AT} {p cwd : ByteArray} {i : Int} {n : AN} (h : PathTo A p i) (hn : A.get i = some n) : A.stat cwd p false = if p.size > 255 then (3, IN.z) else (0, n.inode) := by
  have hne := headIs_ne h.head
  have hw : A.walk 10 1 p false 8 = if p.size > 255 then (3, Pl.z, 8) else A.steps (fun d s h' => A.walk 9 d s true h') false (partsB p) ⟨1, ⟨⟨[]⟩⟩, 1, true⟩ 8 := by
    rw [AT.walk]
    unfold mayE
    rw [hne, h.nul, h.head]
    by_cases hs : p.size > 255
    · rw [if_pos hs]; simp [hs]
    · rw [if_neg hs]; simp [hs]
  unfold AT.stat AT.with_ AT.locate
  rw [hne, h.head, hw]
  by_cases hs : p.size > 255
  · rw [if_pos hs, if_pos hs]; simp
  · rw [if_neg hs, if_neg hs]
    obtain ⟨q, h1, h2, h3⟩ := steps_chain (A := A) (go := fun d s h' => A.walk 9 d s true h') (h := 8) (p := ⟨1, ⟨⟨[]⟩⟩, 1, true⟩) h.chain h.names rfl
    rw [h1]
    simp [h2, h3, hn]
/-! ### Cutting trees -/
def tk (k : Nat) (s : ByteArray) : ByteArray := s.extract 0 (min s.size k)
theorem tk_size (k : Nat) (s : ByteArray) : (tk k s).size ≤ k := by unfold tk; rw [ByteArray.size_extract]; omega
def cutRow (f : Tr → Nat → Tr × Nat) : Nat → List Tr → Nat → List Tr × Nat
  | 0, _, left => ([], left)
  | _ + 1, [], left => ([], left)
  | k + 1, t :: r, left => if left = 0 then ([], left) else
      let x := f t (left - 1)
      let y := cutRow f k r x.2
      (x.1 :: y.1, y.2)
def cutT (kk nn dd : Nat) : Nat → Tr → Nat → Tr × Nat
  | 0, t, left => (.mk (tk nn t.name) t.kind t.exec (tk dd t.data) [], left)
  | lv + 1, t, left => let r := cutRow (cutT kk nn dd lv) kk t.kids left; (.mk (tk nn t.name) t.kind t.exec (tk dd t.data) r.1, r.2)
/-- the row that is left to cut -/
def cutG (kk nn dd lv k : Nat) (l : List Tr) (left : Nat) : List Tr × Nat := match lv with
  | 0 => ([], left)
  | lv + 1 => cutRow (cutT kk nn dd lv) k l left
theorem cutT_eq (kk nn dd lv : Nat) (t : Tr) (left : Nat) : cutT kk nn dd lv t left = (.mk (tk nn t.name) t.kind t.exec (tk dd t.data) (cutG kk nn dd lv kk t.kids left).1, (cutG kk nn dd lv kk t.kids left).2) := by
  cases lv <;> rfl
theorem cutG_stop {kk nn dd lv k : Nat} {l : List Tr} {left : Nat} (h : lv = 0 ∨ k = 0 ∨ l = [] ∨ left = 0) : cutG kk nn dd lv k l left = ([], left) := by
  cases lv with
  | zero => rfl
  | succ lv =>
    show cutRow _ k l left = _
    cases k with
    | zero => rfl
    | succ k =>
      cases l with
      | nil => rfl
      | cons t r =>
        rcases h with h | h | h | h
        · omega
        · omega
        · cases h
        · unfold cutRow; rw [if_pos h]
theorem cutG_go {kk nn dd lv k : Nat} {t : Tr} {r : List Tr} {left : Nat} (h : 0 < left) : cutG kk nn dd (lv + 1) (k + 1) (t :: r) left = ((cutT kk nn dd lv t (left - 1)).1 :: (cutG kk nn dd (lv + 1) k r (cutT kk nn dd lv t (left - 1)).2).1, (cutG kk nn dd (lv + 1) k r (cutT kk nn dd lv t (left - 1)).2).2) := by
  show cutRow _ (k + 1) (t :: r) left = _
  rw [cutRow, if_neg (by omega)]; rfl
theorem cut_total (kk nn dd : Nat) : ∀ (lv : Nat) (t : Tr) (left : Nat), (cutT kk nn dd lv t left).2 ≤ left ∧ (cutT kk nn dd lv t left).1.total ≤ (1 + nn + dd) * (1 + left - (cutT kk nn dd lv t left).2) := by
  intro lv
  induction lv with
  | zero =>
    intro t left
    simp only [cutT, Tr.total, Tr.totalRow]
    have h1 := tk_size nn t.name
    have h2 := tk_size dd t.data
    refine ⟨Nat.le_refl _, ?_⟩
    rw [show 1 + left - left = 1 by omega, Nat.mul_one]; omega
  | succ lv ih =>
    intro t left
    have key : ∀ (k : Nat) (l : List Tr) (left : Nat), (cutRow (cutT kk nn dd lv) k l left).2 ≤ left ∧ Tr.totalRow (cutRow (cutT kk nn dd lv) k l left).1 ≤ (1 + nn + dd) * (left - (cutRow (cutT kk nn dd lv) k l left).2) := by
      intro k
      induction k with
      | zero => intro l left; simp [cutRow, Tr.totalRow]
      | succ k ihk =>
        intro l left
        cases l with
        | nil => simp [cutRow, Tr.totalRow]
        | cons x r =>
          unfold cutRow
          by_cases h0 : left = 0
          · rw [if_pos h0]; simp [Tr.totalRow]
          · rw [if_neg h0]
            simp only [Tr.totalRow]
            obtain ⟨a1, a2⟩ := ih x (left - 1)
            obtain ⟨b1, b2⟩ := ihk r (cutT kk nn dd lv x (left - 1)).2
            generalize (cutT kk nn dd lv x (left - 1)) = u at *
            generalize (cutRow (cutT kk nn dd lv) k r u.2) = v at *
            refine ⟨by omega, ?_⟩
            have e : left - v.2 = (1 + (left - 1) - u.2) + (u.2 - v.2) := by omega
            rw [e, Nat.mul_add]; omega
    obtain ⟨a1, a2⟩ := key kk t.kids left
    simp only [cutT, Tr.total]
    have h1 := tk_size nn t.name
    have h2 := tk_size dd t.data
    generalize cutRow (cutT kk nn dd lv) kk t.kids left = v at *
    refine ⟨a1, ?_⟩
    rw [show 1 + left - v.2 = 1 + (left - v.2) by omega, Nat.mul_add, Nat.mul_one]
    omega
def Tr.noName : Tr → Tr
  | .mk _ k e d kids => .mk ⟨⟨[]⟩⟩ k e d kids
end Go.Wk

/- FsLaid: cutting trees. -/
set_option maxRecDepth 100000
namespace Go.Proofs.YtlpcehbfoogejaaGreatDoor
open Go Go.HL Go.Wk
attribute [local irreducible] ptrW ifW brW andW rdT alW letJ stW muW biW vaW imW callT cvalT app callW invW callVW sizeT oW nilF oneK loopW rfW funW begW roundK exW idxW Gr Put
theorem sz_Nodes : sizeT Tryz.prog 22 = some 1 := by kernel_rfl
theorem und_Nodes : Tryz.prog.underlying 22 = some (.slice 24) := by kernel_rfl
theorem info_Node : ∃ i z, Tryz.prog.info? 24 = some i ∧ i.zero = some z ∧ i.size = 5 ∧ i.bytes ≤ 100000 ∧ z.cells.size = 5 := by
  have h1 : ((Tryz.prog.info? 24).bind fun i => i.zero.map fun z => (i.size, z.cells.size, decide (i.bytes ≤ 100000))) = some (5, 5, true) := by kernel_rfl
  cases hi : Tryz.prog.info? 24 with
  | none => rw [hi] at h1; cases h1
  | some i =>
    rw [hi] at h1
    cases hz : i.zero with
    | none => simp [hz] at h1
    | some z => simp [hz] at h1; exact ⟨i, z, rfl, hz, h1.1, h1.2.2, h1.2.1⟩
def RowsTr (τ : H) : List Tr → List (List Value) → Prop
  | [], [] => True
  | t :: ts, r :: rows => TrAt τ t r ∧ RowsTr τ ts rows
  | _, _ => False
theorem RowsTr.gr {τ τ' : H} (hg : Gr τ τ') : ∀ {ts : List Tr} {rows : List (List Value)}, RowsTr τ ts rows → RowsTr τ' ts rows := by
  intro ts
  induction ts with
  | nil => intro rows h; cases rows <;> exact h
  | cons t ts ih =>
    intro rows h
    cases rows with
    | nil => exact h.elim
    | cons r rows => exact ⟨gr_both hg t r h.1, ih h.2⟩
theorem RowsTr.snoc {τ : H} {t : Tr} {r : List Value} (ht : TrAt τ t r) : ∀ {ts : List Tr} {rows : List (List Value)}, RowsTr τ ts rows → RowsTr τ (ts ++ [t]) (rows ++ [r]) := by
  intro ts
  induction ts with
  | nil => intro rows h; cases rows with
    | nil => exact ⟨ht, trivial⟩
    | cons r rows => exact h.elim
  | cons t ts ih =>
    intro rows h
    cases rows with
    | nil => exact h.elim
    | cons r rows => exact ⟨h.1, ih h.2⟩
theorem RowsTr.len {τ : H} : ∀ {ts : List Tr} {rows : List (List Value)}, RowsTr τ ts rows → rows.length = ts.length := by
  intro ts
  induction ts with
  | nil => intro rows h; cases rows with
    | nil => rfl
    | cons r rows => exact h.elim
  | cons t ts ih =>
    intro rows h
    cases rows with
    | nil => exact h.elim
    | cons r rows => simp [ih h.2]
theorem rowAt_of {τ : H} {rest : List Value} : ∀ {ts : List Tr} {rows : List (List Value)}, RowsTr τ ts rows → (∀ r ∈ rows, r.length = 5) → RowAt τ ts (rows.flatten ++ rest) := by
  intro ts
  induction ts with
  | nil => intro rows _ _; trivial
  | cons t ts ih =>
    intro rows h hl
    cases rows with
    | nil => exact h.elim
    | cons r rows =>
      have hr := hl r (List.mem_cons_self ..)
      simp only [RowAt, List.flatten_cons, List.append_assoc]
      refine ⟨?_, ?_⟩
      · rw [← hr, List.take_left]; exact h.1
      · rw [← hr, List.drop_left]; exact ih h.2 fun q hq => hl q (List.mem_cons_of_mem _ hq)
theorem slAt_own {σ τ : H} {rows : List (List Value)} {ts : List Tr} {x : Sl} (h : RowsOwn σ 24 5 rows x) (ht : RowsTr τ ts rows) (hg : Gr τ σ) (hn : ∀ g, x.base = some ⟨g, 0, none⟩ → τ g = none) :
    ∃ τ', Gr τ τ' ∧ Gr τ' σ ∧ SlAt τ' ts x ∧ ∀ b, x.base ≠ some ⟨b, 0, none⟩ → τ b = none → τ' b = none := by
  obtain ⟨h1, h2, ⟨h3, h4, h5⟩ | ⟨g, cur, a1, a2, a3, a4, a5⟩⟩ := h
  · subst h5
    refine ⟨τ, Gr.refl _, hg, ⟨by rw [h1, ht.len], ?_⟩, fun b _ hb => hb⟩
    have := ht.len
    simp at this
    exact .inl (List.eq_nil_of_length_eq_zero this.symm)
  · have hgn := hn g a1
    have g1 : Gr τ (τ.put g (.cells ⟨cur⟩ 24 (0, 0))) := Gr.put hgn _
    refine ⟨τ.put g (.cells ⟨cur⟩ 24 (0, 0)), g1, ?_, ⟨by rw [h1, ht.len], .inr ⟨g, 0, cur, 24, (0, 0), a1, H.put_same _ _ _, ?_⟩⟩, ?_⟩
    · unfold Gr
      intro c oc hc
      by_cases e : c = g
      · subst e; rw [H.put_same] at hc; cases hc; exact a2
      · rw [H.put_other _ _ e] at hc; exact hg.get hc
    · have e1 : cur = rows.flatten ++ cur.drop (x.len * 5) := by rw [← a5, List.take_append_drop]
      have := rowAt_of (rest := cur.drop (x.len * 5)) (ht.gr g1) h2
      rw [← e1] at this
      exact this
    · intro b hb hτ
      have e : b ≠ g := fun e => hb (by rw [e, a1])
      rw [H.put_other _ _ e]; exact hτ
theorem trC_one (t : Tr) (y : Sl) : ∀ u ∈ trC t y, u.oneCell' = true := by
  intro u hu
  unfold trC at hu
  simp only [List.mem_cons, List.mem_nil_iff, or_false] at hu
  rcases hu with rfl | rfl | rfl | rfl | rfl <;> rfl
/-- cut -/
theorem s_cut8 : ∀ (lv : Nat), lv ≤ 16 → ∀ (t : Tr) (y : Sl) (left : Nat) {σ τ : H} {bl : Nat}, Gr τ σ → τ bl = none → SlAt τ t.kids y → left ≤ 50 → σ bl = some (.cells ⟨[.int .i64 (left : Int)]⟩ 3 (0, 0)) → ∀ {K : Value → H → Prop},
    (∀ σ' τ' y', Gr τ τ' → Gr τ' σ' → (∀ b, σ b ≠ none → τ b = none → τ' b = none) → (∀ b o, σ b = some o → b ≠ bl → σ' b = some o) → σ' bl = some (.cells ⟨[.int .i64 ((cutT 6 30 200 lv t left).2 : Int)]⟩ 3 (0, 0)) → SlAt τ' (cutT 6 30 200 lv t left).1.kids y' → K (.agg ⟨trC (cutT 6 30 200 lv t left).1 y'⟩) σ') →
    callW Tryz.prog 14 [.agg ⟨trC t y⟩, .int .i64 (lv : Int), .pointer (some ⟨bl, 0, none⟩)] K σ := by
  intro lv
  induction lv using Nat.strongRecOn with
  | _ lv ih =>
  intro hlv t y left σ τ bl hg hτ hs hleft hbl K hK
  rw [cutT_eq] at hK
  refine c14 _ _ _ _ _ _ _ ?_
  unfold g14
  refine al_i ?_; intro b8 σ1 g1 e1 n1
  refine al_i ?_; intro b9 σ2 g2 e2 n2
  have n89 : b8 ≠ b9 := ne_fr n2 (isSome_of e1)
  have nl8 : bl ≠ b8 := ne_fr n1 (isSome_of hbl)
  have nl9 : bl ≠ b9 := ne_fr n2 (isSome_of (g1.get hbl))
  have k8 := g2.get e1
  refine rd_S (rdC_of k8 (by rfl)) (rd_S (rdC_of k8 (by rfl)) ?_)
  have e30 : (if 30 < ((t.name.size : Nat) : Int) then (30 : Int) else ((t.name.size : Nat) : Int)).toNat = min t.name.size 30 := by split <;> omega
  have e200 : (if 200 < ((t.data.size : Nat) : Int) then (200 : Int) else ((t.data.size : Nat) : Int)).toNat = min t.data.size 200 := by split <;> omega
  rw [e30]
  refine if_i ⟨bnd_some (by split <;> omega) (by split <;> omega), bnd_none⟩ ?_
  refine st_i2 k8 sz_string (by rfl) (by rfl) ?_; intro σ3 p3
  have k8' := p3.same
  refine rd_S (rdC_of k8' (by rfl)) (rd_S (rdC_of k8' (by rfl)) ?_)
  rw [e200]
  refine if_i ⟨bnd_some (by split <;> omega) (by split <;> omega), bnd_none⟩ ?_
  refine st_i2 k8' sz_string (by rfl) (by rfl) ?_; intro σ4 p4
  have h8 : σ4 b8 = some (.cells ⟨[.string (tk 30 t.name), .int .i64 t.kind, .bool t.exec, .string (tk 200 t.data), .slice y.base y.len y.cap]⟩ 24 (0, 0)) := p4.same
  have h9 := p4.get n89.symm (p3.get n89.symm e2)
  have hl4 := p4.get nl8 (p3.get nl8 (g2.get (g1.get hbl)))
  have f8 : σ b8 = none := n1
  have f9 : σ b9 = none := none_of g1 n2
  have hg4 : Lng σ σ4 := ⟨((g1.trans g2).putF p3 f8).putF p4 f8⟩
  clear p3 p4 e1 e2 k8 k8' g1 g2 n1 n2
  have t8 : τ b8 = none := none_of hg f8
  have t9 : τ b9 = none := none_of hg f9
  refine loop_i ?_
  intro R hR
  have key : ∀ (k i : Nat) (l acc : List Tr) (lf : Nat) (τi σi : H) (x : Sl) (rows : List (List Value)), i + k = 6 → t.kids.drop i = l → acc.length = i → lf ≤ 50 → Gr τ τi → Gr τi σi → (∀ b, σ4 b ≠ none → τ b = none → τi b = none) → (∀ b o, σ4 b = some o → b ≠ bl → σi b = some o) → σi bl = some (.cells ⟨[.int .i64 (lf : Int)]⟩ 3 (0, 0)) → RowsOwn σi 24 5 rows x → RowsTr τi acc rows → (∀ g, x.base = some ⟨g, 0, none⟩ → σ4 g = none ∧ τi g = none) →
      cutG 6 30 200 lv 6 t.kids left = (acc ++ (cutG 6 30 200 lv k l lf).1, (cutG 6 30 200 lv k l lf).2) → R (lv : Int) (some ⟨bl, 0, none⟩) (some ⟨b8, 0, none⟩) (some ⟨b9, 0, none⟩) x (i : Int) σi := by
    intro k
    induction k using Nat.strongRecOn with
    | _ k ihk =>
    intro i l acc lf τi σi x rows hik hd hacc hlf G1 G2 hnew hkeep hbi hown hrt hgf hres
    have h8i := hkeep b8 _ h8 nl8.symm
    have h9i := hkeep b9 _ h9 nl9.symm
    have hlen := hs.1
    refine hR _ _ _ _ _ _ _ ?_
    refine j_i (fun j => ∀ w1 w2 w3 w4 w5 w6 w7 w8 (b : Bool), (b = false → lv = 0 ∨ k = 0 ∨ l = [] ∨ lf = 0) → (b = true → 0 < lv ∧ 0 < k ∧ l ≠ [] ∧ 0 < lf) → j (lv : Int) (some ⟨bl, 0, none⟩) (some ⟨b8, 0, none⟩) (some ⟨b9, 0, none⟩) x (i : Int) w1 w2 w3 w4 w5 w6 w7 w8 b σi) ?_ ?_
    case refine_2 =>
      intro j hj
      refine ptr_i (rd_L (rdC_of h8i (by rfl)) ?_)
      by_cases c1 : (i : Int) < ((y.len : Nat) : Int)
      case neg =>
        refine br_f (by simpa using c1) (hj _ _ _ _ _ _ _ _ false (fun _ => .inr (.inr (.inl ?_))) (fun h => by cases h))
        rw [← hd]; exact List.drop_eq_nil_of_le (by omega)
      have hne : l ≠ [] := by
        intro e; rw [e] at hd
        have := congrArg List.length hd
        simp at this
        omega
      refine br_t (by simpa using c1) ?_
      by_cases c2 : (i : Int) < 6
      case neg => exact br_f (by simpa using c2) (hj _ _ _ _ _ _ _ _ false (fun _ => .inr (.inl (by omega))) (fun h => by cases h))
      refine br_t (by simpa using c2) ?_
      by_cases c3 : (lv : Int) > 0
      case neg => exact br_f (by simpa using c3) (hj _ _ _ _ _ _ _ _ false (fun _ => .inl (by omega)) (fun h => by cases h))
      refine br_t (by simpa using c3) (ptr_i (rd_I (rdC_of hbi (by rfl)) (hj _ _ _ _ _ _ _ _ _ (fun h => .inr (.inr (.inr ?_))) (fun h => ⟨by omega, by omega, hne, ?_⟩))))
      · simp only [decide_eq_false_iff_not] at h; omega
      · simp only [decide_eq_true_eq] at h; omega
    intro w1 w2 w3 w4 w5 w6 w7 w8 b hb0 hb1
    cases b with
    | false =>
      rw [cutG_stop (hb0 rfl)] at hres
      rw [hres] at hK
      simp only [List.append_nil] at hK
      refine br_f rfl (ptr_i ?_)
      refine st_i2 h8i sz_Nodes (by rfl) (by rfl) ?_; intro σ5 p5
      have q8 := p5.same
      have q9 := p5.get n89.symm h9i
      refine ptr_i (rd_G (rdA_of' q8 (by rfl)) ?_)
      (refine app_of rfl ?_; try dsimp only)
      refine st_i2 q9 sz_Node (by rfl) (by rfl) ?_; intro σ6 p6
      refine ptr_i (rd_G (rdA_of' p6.same (by rfl)) ?_)
      (refine app_of rfl ?_; try dsimp only)
      obtain ⟨τ', q1, q2, q3, q4⟩ := slAt_own hown hrt G2 fun g hx => (hgf g hx).2
      have z8 : τ' b8 = none := q4 b8 (fun h => by have := (hgf _ h).1; rw [h8] at this; cases this) (hnew b8 (by rw [h8]; simp) t8)
      have z9 : τ' b9 = none := q4 b9 (fun h => by have := (hgf _ h).1; rw [h9] at this; cases this) (hnew b9 (by rw [h9]; simp) t9)
      refine hK σ6 τ' x (G1.trans q1) ((q2.putF p5 z8).putF p6 z9) ?_ ?_ (p6.get nl9 (p5.get nl8 hbi)) q3
      · intro c hc hcτ
        have hc4 : σ4 c ≠ none := by
          cases hcc : σ c with
          | none => exact absurd hcc hc
          | some o => rw [hg4.gr.get hcc]; simp
        exact q4 c (fun h => hc4 (hgf _ h).1) (hnew c hc4 hcτ)
      · intro c o hc hcb
        have n8c : c ≠ b8 := fun e => by rw [e, f8] at hc; cases hc
        have n9c : c ≠ b9 := fun e => by rw [e, f9] at hc; cases hc
        exact p6.get n9c (p5.get n8c (hkeep c o (hg4.gr.get hc) hcb))
    | true =>
      obtain ⟨c1, c2, c3, c4⟩ := hb1 rfl
      obtain ⟨lv', rfl⟩ : ∃ m, lv = m + 1 := ⟨lv - 1, by omega⟩
      obtain ⟨k', rfl⟩ : ∃ m, k = m + 1 := ⟨k - 1, by omega⟩
      obtain ⟨u, r, rfl⟩ : ∃ u r, l = u :: r := by
        cases l with
        | nil => exact absurd rfl c3
        | cons u r => exact ⟨u, r, rfl⟩
      rw [cutG_go c4] at hres
      obtain ⟨hx, hlt, hd'⟩ := drop_get hd
      obtain ⟨g, o, z, hbs, hrd0, hz⟩ := kid_rd hs hx
      refine br_t rfl (ptr_i (rd_I (rdC_of hbi (by rfl)) (ptr_i ?_)))
      rw [wrap_id (x := (lf : Int) - 1) (by omega) (by omega), show (lf : Int) - 1 = ((lf - 1 : Nat) : Int) by omega]
      refine st_i2 hbi sz_int (by rfl) (by rfl) ?_; intro σ5 p5
      have tl : τi bl = none := hnew bl (by rw [hl4]; simp) hτ
      have G5 : Gr τi σ5 := G2.putF p5 tl
      have hl5 : σ5 bl = some (.cells ⟨[.int .i64 ((lf - 1 : Nat) : Int)]⟩ 3 (0, 0)) := p5.same
      have k85 := p5.get nl8.symm h8i
      have hgl : ∀ g, x.base = some ⟨g, 0, none⟩ → g ≠ bl := fun g hx e => by have := (hgf g hx).1; rw [e, hl4] at this; cases this
      have own5 : RowsOwn σ5 24 5 rows x := hown.keep fun g o hx ho => p5.get (hgl g hx) ho
      have keep5 : ∀ b o, σ4 b = some o → b ≠ bl → σ5 b = some o := fun b o hb hn => p5.get hn (hkeep b o hb hn)
      refine ptr_i (rd_L (rdC_of k85 (by rfl)) ?_)
      rw [hbs]
      refine ptr_i (if_i ⟨by omega, by rw [hlen]; omega⟩ ?_)
      have hrd := rdA_gr (G1.trans G5) hrd0
      have hrd' : rdA 5 g (o + (i : Int).toNat * 5) σ5 = some (.agg ⟨trC u z⟩) := by simpa using hrd
      refine rd_G hrd' ?_
      unfold trC
      (refine app_of rfl ?_; try dsimp only)
      rw [wrap_id (x := ((lv' + 1 : Nat) : Int) - 1) (by omega) (by omega), show ((lv' + 1 : Nat) : Int) - 1 = ((lv' : Nat) : Int) by omega]
      refine call_i (ih lv' (by omega) (by omega) u z (lf - 1) G5 tl (hz.gr G1) (by omega) hl5 ?_)
      intro σ6 τ6 y6 m1 m2 m3 m4 m5 m6
      have hle := (cut_total 6 30 200 lv' u (lf - 1)).1
      generalize cutT 6 30 200 lv' u (lf - 1) = cu at *
      unfold trC
      (refine app_of rfl ?_; try dsimp only)
      refine al_i ?_; intro b57 σ7 g7 e7 n7
      have own7 : RowsOwn σ7 24 5 rows x := own5.keep fun g o hx ho => g7.get (m4 g o ho (hgl g hx))
      have keep7 : ∀ b o, σ4 b = some o → b ≠ bl → σ7 b = some o := fun b o hb hn => g7.get (m4 b o (keep5 b o hb hn) hn)
      have G7 : Gr τ6 σ7 := m2.trans g7
      have hl7 := g7.get m5
      have new6 : ∀ b, σ4 b ≠ none → τ b = none → τ6 b = none := by
        intro b hb hbτ
        refine m3 b ?_ (hnew b hb hbτ)
        by_cases e : b = bl
        · rw [e, hl5]; simp
        · cases hb4 : σ4 b with
          | none => exact absurd hb4 hb
          | some o => rw [keep5 b o hb4 e]; simp
      obtain ⟨inf, zz, i1, i2, i3, i4, i5⟩ := info_Node
      have hrl : rows.length < 1000000000 := by rw [hrt.len]; omega
      refine append_i und_Nodes i1 i2 i3 rfl i5 (by decide) own7 e7 rfl (trC_one cu.1 y6) hrl i4 ?_
      intro x' σ8 own8 hcase
      rw [wrap_id (x := (i : Int) + 1) (by omega) (by omega)]
      have hrt8 : RowsTr τ6 (acc ++ [cu.1]) (rows ++ [trC cu.1 y6]) := (hrt.gr m1).snoc (trAt_iff.2 ⟨y6, rfl, m6⟩)
      have fin : Gr τ6 σ8 → (∀ b o, σ4 b = some o → b ≠ bl → σ8 b = some o) → σ8 bl = some (.cells ⟨[.int .i64 (cu.2 : Int)]⟩ 3 (0, 0)) → (∀ g, x'.base = some ⟨g, 0, none⟩ → σ4 g = none ∧ τ6 g = none) → R ((lv' + 1 : Nat) : Int) (some ⟨bl, 0, none⟩) (some ⟨b8, 0, none⟩) (some ⟨b9, 0, none⟩) x' ((i : Int) + 1) σ8 := by
        intro a1 a2 a3 a4
        refine ihk k' (by omega) (i + 1) r (acc ++ [cu.1]) cu.2 τ6 σ8 x' (rows ++ [trC cu.1 y6]) (by omega) hd' (by simp [hacc]) (by omega) (G1.trans m1) a1 new6 a2 a3 own8 hrt8 a4 ?_
        rw [hres]; simp
      rcases hcase with ⟨g', o', hx1, hx2, p8⟩ | ⟨g', hx1, hf8, g8⟩
      · have hgg := hgf g' hx1
        have t6 : τ6 g' = none := m3 g' (own5.has hx1) hgg.2
        refine fin (G7.putF p8 t6) (fun b o hb hn => p8.get (fun e => by rw [e, hgg.1] at hb; cases hb) (keep7 b o hb hn)) (p8.get (hgl g' hx1).symm hl7) ?_
        intro g'' h''
        rw [hx2, hx1] at h''
        cases h''
        exact ⟨hgg.1, t6⟩
      · refine fin (G7.trans g8) (fun b o hb hn => g8.get (keep7 b o hb hn)) (g8.get hl7) ?_
        intro g'' h''
        rw [hx1] at h''
        cases h''
        refine ⟨?_, none_of G7 hf8⟩
        cases h4 : σ4 g' with
        | none => rfl
        | some o =>
          by_cases e : g' = bl
          · rw [e, hl7] at hf8; cases hf8
          · rw [keep7 g' o h4 e] at hf8; cases hf8
  exact key 6 0 t.kids [] left τ σ4 ⟨none, 0, 0⟩ [] rfl rfl rfl hleft (Gr.refl _) (hg.trans hg4.gr) (fun _ _ h => h) (fun _ _ h _ => h) hl4 (RowsOwn.nil _ _ _) trivial (fun g h => by cases h) (by simp)
end Go.Proofs.YtlpcehbfoogejaaGreatDoor

/- A TREE THAT WAS READ as an argument. -/
set_option maxRecDepth 100000
namespace Go.Proofs.YtlpcehbfoogejaaGreatDoor
open Go Go.HL Go.Wk Go.ChangeShapes Go.WideShapes Go.ChangeAt Go.RowKit
theorem csn_string : Tryz.prog.cellsOf 9 = 1 := by kernel_rfl
theorem csn_int : Tryz.prog.cellsOf 3 = 1 := by kernel_rfl
theorem csn_bool : Tryz.prog.cellsOf 4 = 1 := by kernel_rfl
theorem csn_Nodes : Tryz.prog.cellsOf 22 = 1 := by kernel_rfl
/-- a tree that was read -/
theorem node_of {D : Type} {enc : TypeId × Value → D} {W : World} : ∀ (m : Nat) {r : List Value} {x : DataW D × List MemPlace}, DataW.trod enc Tryz.prog W 0 (fun _ => true) true m 24 r = some x → ∃ (t : Tr) (y : Sl), r = trC t y ∧ SlAt (whole W) t.kids y := by
  intro m
  induction m using Nat.strongRecOn with
  | _ m ih =>
  intro r x h
  obtain ⟨xs, n, hfu, _, hl, hlen, hf⟩ := DataW.trod_struct Tryz.underlying24 h
  have hl : r.length = 5 := hl.trans (by kernel_rfl)
  have hlen : xs.length = 5 := hlen
  obtain ⟨a0, a1, a2, a3, a4, rfl⟩ : ∃ a0 a1 a2 a3 a4, r = [a0, a1, a2, a3, a4] := by
    match r, hl with
    | [a0, a1, a2, a3, a4], _ => exact ⟨_, _, _, _, _, rfl⟩
  have g : ∀ i, i < 5 → ∃ y, xs[i]? = some y := fun i hi => ⟨_, List.getElem?_eq_getElem (by omega)⟩
  have h0 := hf 0 _ rfl
  obtain ⟨y0, e0⟩ := g 0 (by decide)
  rw [e0] at h0
  obtain ⟨s0, q0, _⟩ := DataW.trod_string Tryz.underlying9 h0
  have h1 := hf 1 _ rfl
  obtain ⟨y1, e1⟩ := g 1 (by decide)
  rw [e1] at h1
  obtain ⟨n1, q1, _⟩ := DataW.trod_int (k := .i64) Tryz.underlying3 h1
  have h2 := hf 2 _ rfl
  obtain ⟨y2, e2⟩ := g 2 (by decide)
  rw [e2] at h2
  obtain ⟨b2, q2, _⟩ := DataW.trod_bool Tryz.underlying4 h2
  have h3 := hf 3 _ rfl
  obtain ⟨y3, e3⟩ := g 3 (by decide)
  rw [e3] at h3
  obtain ⟨s3, q3, _⟩ := DataW.trod_string Tryz.underlying9 h3
  have h4 := hf 4 _ rfl
  obtain ⟨y4, e4⟩ := g 4 (by decide)
  rw [e4] at h4
  have q0 : List.take (Tryz.prog.cellsOf 9) (List.drop 0 [a0, a1, a2, a3, a4]) = [.string s0] := q0
  have q1 : List.take (Tryz.prog.cellsOf 3) (List.drop 1 [a0, a1, a2, a3, a4]) = [.int .i64 n1] := q1
  have q2 : List.take (Tryz.prog.cellsOf 4) (List.drop 2 [a0, a1, a2, a3, a4]) = [.bool b2] := q2
  have q3 : List.take (Tryz.prog.cellsOf 9) (List.drop 3 [a0, a1, a2, a3, a4]) = [.string s3] := q3
  have h4 : DataW.trod enc Tryz.prog W 0 (fun _ => true) true n 22 (List.take (Tryz.prog.cellsOf 22) (List.drop 4 [a0, a1, a2, a3, a4])) = some y4 := h4
  rw [csn_string] at q0 q3
  rw [csn_int] at q1
  rw [csn_bool] at q2
  rw [csn_Nodes] at h4
  simp only [List.drop_succ_cons, List.drop_zero, List.take_succ_cons, List.take_zero, List.cons.injEq, and_true] at q0 q1 q2 q3 h4
  obtain ⟨y, rows, hy, hrows, _, k, hall⟩ := rows_of Tryz.underlying22 (show Tryz.prog.cellsOf 24 = 5 by kernel_rfl) (by decide) h4
  have hkids : ∃ ts : List Tr, RowsTr (whole W) ts rows := by
    clear hrows
    induction rows with
    | nil => exact ⟨[], trivial⟩
    | cons r rs ihr =>
      obtain ⟨ts, ha⟩ := ihr fun r hr => hall r (List.mem_cons_of_mem _ hr)
      obtain ⟨hk, d, ps, hd⟩ := hall r (List.mem_cons_self ..)
      obtain ⟨t, z, hr, hz⟩ := ih k (by omega) hd
      exact ⟨t :: ts, trAt_iff.2 ⟨z, hr, hz⟩, ha⟩
  obtain ⟨ts, hts⟩ := hkids
  refine ⟨.mk s0 n1 b2 s3 ts, y, by rw [q0, q1, q2, q3, hy]; rfl, ?_⟩
  obtain ⟨r1, r2⟩ := hrows
  refine ⟨by show y.len = ts.length; rw [r1, hts.len], ?_⟩
  rcases r2 with r2 | ⟨g, o, cur, ty, fz, r3, r4, r5⟩
  · subst r2
    have := hts.len
    simp at this
    exact .inl (List.eq_nil_of_length_eq_zero this.symm)
  · refine .inr ⟨g, o, cur, ty, fz, r3, r4, ?_⟩
    clear ih h hf
    have key : ∀ (ts : List Tr) (rows : List (List Value)) (cs : List Value), RowsTr (whole W) ts rows → (∀ i r, rows[i]? = some r → (cs.drop (i * 5)).take 5 = r) → RowAt (whole W) ts cs := by
      intro ts
      induction ts with
      | nil => intro _ _ _ _; trivial
      | cons t ts iht =>
        intro rows cs hr hc
        cases rows with
        | nil => exact hr.elim
        | cons r rs =>
          refine ⟨?_, iht rs (cs.drop 5) hr.2 fun i q hq => ?_⟩
          · have := hc 0 r rfl
            simp at this
            rw [this]; exact hr.1
          · have := hc (i + 1) q (by simpa using hq)
            rw [List.drop_drop, show 5 + i * 5 = (i + 1) * 5 by omega]; exact this
    refine key ts rows _ hts fun i r hr => ?_
    rw [List.drop_drop]
    exact (r5 i r hr).2
end Go.Proofs.YtlpcehbfoogejaaGreatDoor

/- FsLaid: the walk. -/
set_option maxRecDepth 100000
namespace Go.Proofs.YtlpcehbfoogejaaGreatDoor
open Go Go.HL Go.Wk
attribute [local irreducible] ptrW ifW brW andW rdT alW letJ stW muW biW vaW imW callT cvalT app callW invW callVW sizeT oW nilF oneK loopW rfW funW begW roundK exW idxW Gr Put
theorem bits_x (e : Bool) : ((bitV .and .i64 (modeOf 1 e) 73 : Int) != 0) = e := by cases e <;> decide +kernel
/-- laid -/
theorem s_laid8 {A : AT} {bf : Nat} {B : Nat → Prop} : ∀ (t : Tr) (y : Sl) {σ : H} (path : ByteArray) (i : Int), PathTo A path i → Lies A t i → t.may = true → t.total ≤ 1000000000000000 → path.size ≤ 400 → FsAt σ bf A B → SlAt σ t.kids y → ∀ {K : Value → H → Prop}, K (.bool true) σ →
    callW Tryz.prog 19 [.pointer (some ⟨bf, 0, none⟩), .string path, .agg ⟨trC t y⟩] K σ := by
  refine Tr.ind (P := fun t => ∀ (y : Sl) {σ : H} (path : ByteArray) (i : Int), PathTo A path i → Lies A t i → t.may = true → t.total ≤ 1000000000000000 → path.size ≤ 400 → FsAt σ bf A B → SlAt σ t.kids y → ∀ {K : Value → H → Prop}, K (.bool true) σ →
    callW Tryz.prog 19 [.pointer (some ⟨bf, 0, none⟩), .string path, .agg ⟨trC t y⟩] K σ) ?_
  intro t ih y σ path i hp hl hmay hT hps hF hs K hK
  rw [lies_iff] at hl
  obtain ⟨n, hn, l1, l2, l3, l4, l5, l6⟩ := hl
  rw [liesRow_iff] at l6
  have hlen := hs.1
  have hT1 := kids_total t
  refine pure_i _ hK (c19 _ _ _ _ _ _ _ ?_)
  clear hK
  unfold g19
  refine al_i ?_; intro b8 σ1 g1 e1 n1
  refine call_i (s_Stat (hF.gr g1) _ _ _ ?_)
  rw [stat_at hp hn]
  unfold inV
  by_cases hsz : path.size > 255
  · rw [if_pos hsz]
    (refine app_of rfl ?_; try dsimp only)
    refine al_i ?_; intro b14 σ2 g2 e2 n2
    refine st_i2 e2 sz_Inode (by rfl) (by rfl) ?_; intro σ3 p3
    exact br_t rfl ⟨rfl, g1.trans (g2.putF p3 n2)⟩
  rw [if_neg hsz]
  (refine app_of rfl ?_; try dsimp only)
  refine al_i ?_; intro b14 σ2 g2 e2 n2
  refine st_i2 e2 sz_Inode (by rfl) (by rfl) ?_; intro σ3 p3
  have hg3 : Gr σ1 σ3 := g2.putF p3 n2
  have k14 : σ3 b14 = some (.cells ⟨[.int .i64 t.kind, .int .i64 (modeOf t.kind t.exec), .string t.data, .int .i64 1]⟩ 54 (0, 0)) := by
    have := p3.same
    unfold AN.inode at this
    simp only [l1, l2, l3, l4] at this
    exact this
  have k8 := hg3.get e1
  have hg : Gr σ σ3 := g1.trans hg3
  clear p3 e2 e1 g2
  refine br_f rfl ?_
  refine j_i (fun j => j (some ⟨bf, 0, none⟩) path (some ⟨b8, 0, none⟩) false σ3) ?_ ?_
  case refine_2 =>
    intro j hj
    refine br_f rfl (rd_I (rdC_of k14 (by rfl)) (rd_I (rdC_of k8 (by rfl)) (br_f (by simp) (rd_I (rdC_of k8 (by rfl)) ?_))))
    have hx : t.kind = 1 → ((bitV .and .i64 (modeOf t.kind t.exec) 73 : Int) != 0) = t.exec := fun h => by rw [h]; exact bits_x _
    by_cases k2 : t.kind = 2
    · refine br_f (by simp [k2]) (rd_I (rdC_of k14 (by rfl)) (br_f rfl (rd_I (rdC_of k8 (by rfl)) (br_f (by simp [k2]) hj))))
    · refine br_t (by simp [k2]) (rd_S (rdC_of k14 (by rfl)) (rd_S (rdC_of k8 (by rfl)) (br_f (by rw [strEq_self]; rfl) (rd_I (rdC_of k14 (by rfl)) (br_f rfl (rd_I (rdC_of k8 (by rfl)) ?_))))))
      by_cases k1 : t.kind = 1
      · refine br_t (by simp [k1]) (rd_I (rdC_of k14 (by rfl)) (rd_B (rdC_of k8 (by rfl)) ?_))
        rw [hx k1]
        simpa using hj
      · exact br_f (by simp [k1]) hj
  refine br_f rfl (loop_i ?_)
  intro R hR
  have key : ∀ (l : List Tr) (q : Nat) (τ : H), t.kids.drop q = l → Gr σ3 τ → R (some ⟨bf, 0, none⟩) path (some ⟨b8, 0, none⟩) (q : Int) τ := by
    intro l
    induction l with
    | nil =>
      intro q τ hd hgt
      have hge : t.kids.length ≤ q := by simpa using hd
      refine hR _ _ _ _ _ ?_
      refine ptr_i (rd_L (rdC_of (hgt.get k8) (by rfl)) (br_f (by simp only [decide_eq_false_iff_not]; omega) ⟨rfl, hg.trans hgt⟩))
    | cons x r ihl =>
      intro q τ hd hgt
      obtain ⟨hx, hlt, hd'⟩ := drop_get hd
      have hmem := List.mem_of_getElem? hx
      have hst := hs.gr (hg.trans hgt)
      obtain ⟨g, o, z, hb, hrd, hz⟩ := kid_rd hst hx
      obtain ⟨g', o', hb', hnm⟩ := kid_name hst hx
      obtain ⟨j, j1, j2, j3⟩ := l6 x hmem
      have hk2 : t.kind = 2 ∧ Tr.mayRow none t.kids = true := by
        rcases may_kids hmay with h0 | h0
        · rw [h0] at hmem; cases hmem
        · exact h0
      obtain ⟨hmn, hmx⟩ := mayRow_all hk2.2 x hmem
      have hsub : PathTo A (Wk.sub path x.name) j := by
        refine hp.sub ?_ ?_ hmn
        · unfold AT.kind; rw [hn]; show n.kind = 2; rw [l1, hk2.1]
        · unfold AT.find; rw [hn]; exact j2
      have hns : x.name.size ≤ 56 := by
        unfold mayName at hmn
        simp only [Bool.and_eq_true, decide_eq_true_eq] at hmn
        exact hmn.2.1
      have hss := sub_size path x.name
      have k8' := hgt.get k8
      have q1 : (⟨⟨[47]⟩⟩ : ByteArray).size = 1 := rfl
      refine hR _ _ _ _ _ ?_
      refine ptr_i (rd_L (rdC_of k8' (by rfl)) (br_t (by simp only [decide_eq_true_eq]; omega) (if_i (by omega) (ptr_i (rd_L (rdC_of k8' (by rfl)) ?_)))))
      rw [hb']
      refine ptr_i (if_i ⟨by omega, by show (q : Int) < ((y.len : Nat) : Int); omega⟩ ?_)
      have hnm' : rdC g' (o' + (q : Int).toNat * 5) τ = some (.string x.name) := by simpa using hnm
      refine rd_S hnm' ?_
      refine if_i (by rw [ByteArray.size_append]; omega) (ptr_i (rd_L (rdC_of k8' (by rfl)) ?_))
      rw [hb]
      refine ptr_i (if_i ⟨by omega, by show (q : Int) < ((y.len : Nat) : Int); omega⟩ ?_)
      have hrd' : rdA 5 g (o + (q : Int).toNat * 5) τ = some (.agg ⟨trC x z⟩) := by simpa using hrd
      refine rd_G hrd' ?_
      unfold trC
      (refine app_of rfl ?_; try dsimp only)
      refine call_i (ih x hmem z (Wk.sub path x.name) j hsub j3 hmx (by have := kid_total hx; omega) (by omega) (hF.gr (hg.trans hgt)) hz (app_B (br_f rfl ?_)))
      rw [wrap_id (x := (q : Int) + 1) (by omega) (by omega)]
      exact ihl (q + 1) τ hd' hgt
  exact key t.kids 0 σ3 rfl (Gr.refl _)
/-- the file system that the law makes -/
def y0 : AT := newT 100 20000
def y1 : AT := (y0.mkdirF (bl [47]) (bl [120])).2
theorem y0_ok : Inv y0 ∧ Bd 1 y0 := newT_ok rfl
theorem y1_ok : OpOk 2 y0 (y0.mkdirF (bl [47]) (bl [120])) := mkdirF_ok y0_ok.1 y0_ok.2 (by decide) _ _
theorem y1_z : (y0.mkdirF (bl [47]) (bl [120])).1 = 0 := by decide +kernel
theorem y1_u : y1.ui = 2 ∧ y1.ub = 0 ∧ y1.last = 2 := by decide +kernel
theorem y1_f : (y1.freshP (bl [47]) (bl [47, 120, 47, 121])).2.dir = 2 ∧ (y1.freshP (bl [47]) (bl [47, 120, 47, 121])).2.name = bl [121] := by decide +kernel
theorem y1_p : y1.kind 1 = 2 ∧ y1.find 1 (bl [120]) = some 2 ∧ y1.kind 2 = 2 := by decide +kernel
theorem y1_n : partsB (bl [47, 120, 47, 121]) = [bl [120], bl [121]] := by decide +kernel
theorem y1_h : headIs 47 (bl [47, 120, 47, 121]) = true ∧ hasNul (bl [47, 120, 47, 121]) = false := by decide +kernel
theorem get_of_kind {A : AT} {i : Int} (h : A.kind i = 2) : ∃ n, A.get i = some n ∧ n.kind = 2 := by
  unfold AT.kind at h
  cases hg : A.get i with
  | none => rw [hg] at h; cases h
  | some n => rw [hg] at h; exact ⟨n, rfl, h⟩
theorem y1_path {t : Tr} {r : Int × AT} (h : Laid y1 2 (bl [121]) t r) : PathTo r.2 (bl [47, 120, 47, 121]) (y1.last + 1) := by
  obtain ⟨p1, p2, p3⟩ := y1_p
  obtain ⟨n1, a1, a2⟩ := get_of_kind p1
  obtain ⟨n2, b1, b2⟩ := get_of_kind p3
  have c1 := h.old 1 n1 a1 (by decide)
  have c2 := h.atDir n2 b1
  refine ⟨y1_h.1, y1_h.2, ?_, ?_⟩
  · rw [y1_n]
    refine ⟨by unfold AT.kind; rw [c1]; exact a2, 2, ?_, ?_, y1.last + 1, ?_, rfl⟩
    · unfold AT.find at p2 ⊢
      rw [a1] at p2
      rw [c1]; exact p2
    · unfold AT.kind; rw [c2]; exact b2
    · unfold AT.find; rw [c2]; show lk (bl [121]) (up (bl [121]) (y1.last + 1) n2.ents) = _; rw [lk_up]; simp
  · rw [y1_n]
    intro m hm
    simp only [List.mem_cons, List.mem_nil_iff, or_false] at hm
    rcases hm with rfl | rfl
    · exact ⟨by decide +kernel, by decide⟩
    · exact ⟨by decide +kernel, by decide⟩
theorem cut_name (t : Tr) : t.noName.kids = t.kids ∧ t.noName.total ≤ t.total := by
  obtain ⟨n, k, e, d, kids⟩ := t
  refine ⟨rfl, ?_⟩
  simp only [Tr.noName, Tr.total]
  have : (⟨⟨[]⟩⟩ : ByteArray).size = 0 := rfl
  omega
theorem check_may {t : Tr} (h : t.check = 0) : t.may = true := by
  unfold Tr.check at h
  by_cases h1 : t.tooDeep = true
  · rw [if_pos h1] at h; cases h
  · rw [if_neg h1] at h
    by_cases h2 : sEq t.name ⟨⟨[]⟩⟩ = false ∨ t.may = false
    · rw [if_pos h2] at h; cases h
    · cases hm : t.may with
      | true => rfl
      | false => exact absurd (.inr hm) h2
theorem s_FsLaid (t : Tr) (y : Sl) {σ : H} (hs : SlAt σ t.kids y) {K : Value → H → Prop} (hK : ∀ σ', Gr σ σ' → K (.bool true) σ') : callW Tryz.prog 3 [.agg ⟨trC t y⟩] K σ := by
  refine c3 _ _ _ _ _ ?_
  unfold g3
  refine al_i ?_; intro b6 σ1 g1 e1 n1
  refine call_i (s_works8 (app_B (br_f rfl ?_)))
  refine al_i ?_; intro b8 σ2 g2 e2 n2
  have n68 : b6 ≠ b8 := ne_fr n2 (isSome_of e1)
  refine st_i2 e2 sz_int (by rfl) (by rfl) ?_; intro σ3 p3
  have k6 := p3.get n68 (g2.get e1)
  have k8 : σ3 b8 = some (.cells ⟨[.int .i64 ((50 : Nat) : Int)]⟩ 3 (0, 0)) := p3.same
  have f8 : σ b8 = none := none_of g1 n2
  have hg3 : Lng σ σ3 := ⟨(g1.trans g2).putF p3 f8⟩
  clear p3 e1 e2 g1 g2
  refine rd_G (rdA_of' k6 (by rfl)) ?_
  (refine app_of rfl ?_; try dsimp only)
  refine call_i (s_cut8 16 (by omega) t y 50 hg3.gr f8 hs (by omega) k8 ?_)
  intro σ4 τ4 y4 m1 m2 m3 m4 m5 m6
  have htot := (cut_total 6 30 200 16 t 50).2
  have htot : (cutT 6 30 200 16 t 50).1.total ≤ 20000 := by
    have : (1 + 30 + 200) * (1 + 50 - (cutT 6 30 200 16 t 50).2) ≤ (1 + 30 + 200) * 51 := Nat.mul_le_mul_left _ (by omega)
    omega
  generalize (cutT 6 30 200 16 t 50).1 = ct at *
  unfold trC
  (refine app_of rfl ?_; try dsimp only)
  have k6' := m4 b6 _ k6 n68
  refine st_i2 k6' sz_Node (by rfl) (by rfl) ?_; intro σ5 p5
  refine st_i2 p5.same sz_string (by rfl) (by rfl) ?_; intro σ6 p6
  have t6 : τ4 b6 = none := m3 b6 (by rw [k6]; simp) n1
  have f6 : σ b6 = none := n1
  have G6 : Gr τ4 σ6 := (m2.putF p5 t6).putF p6 t6
  have h6 : σ6 b6 = some (.cells ⟨trC ct.noName y4⟩ 24 (0, 0)) := by
    have := p6.same
    obtain ⟨n, k, e, d, kids⟩ := ct
    exact this
  have hg6 : Gr σ σ6 := m1.trans G6
  obtain ⟨hnk, hnt⟩ := cut_name ct
  have hs6 : SlAt σ6 ct.noName.kids y4 := by rw [hnk]; exact m6.gr G6
  have htn : ct.noName.total ≤ 20000 := by omega
  generalize ct.noName = t' at *
  clear p5 p6 m1 m2 m3 m4 m5 m6 k6' k6 k8
  refine call_i (s_New 100 20000 (fun h => by cases h) ?_)
  intro _ bf σ7 B7 F7 g7 hf7
  have O7 : Off σ6 σ7 B7 := Off.new g7 hf7
  refine app_P ?_
  refine j_i (fun j => ∀ σ8 B8, FsAt σ8 bf y1 B8 → Off σ6 σ8 B8 → j (some ⟨b6, 0, none⟩) (some ⟨bf, 0, none⟩) false σ8) ?_ ?_
  case refine_2 =>
    intro j hj
    refine br_f rfl (call_i (s_Mkdir y0_ok.1 y0_ok.2 (by decide) F7 _ _ ?_))
    intro σ8 B8 F8 S8
    refine app_I ?_
    have e := y1_z
    unfold bl at e
    show j _ _ ((y0.mkdirF ⟨⟨[47]⟩⟩ ⟨⟨[120]⟩⟩).1 != 0) σ8
    rw [e]
    exact hj σ8 B8 F8 (O7.sep S8)
  intro σ8 B8 F8 O8
  have h68 := O8.get h6
  unfold trC at h68
  refine br_f rfl (ptr_i (rd_G (rdA_of' h68 (by rfl)) ?_))
  (refine app_of rfl ?_; try dsimp only)
  refine call_i (s_Lay t' y4 (bl [47, 120, 47, 121]) y1_ok.inv y1_ok.bd (by omega) F8 O8 hs6 ?_)
  intro σ9 B9 F9 S9
  have O9 := O8.sep S9
  have hg9 : Gr σ σ9 := hg6.trans O9.1
  refine app_I ?_
  have h69 := O9.get h6
  unfold trC at h69
  rcases layF_cases y1_ok.inv y1_ok.bd (bl [47, 120, 47, 121]) t' (by omega) with ⟨c1, c2⟩ | ⟨c1, c2, c3, c4, c5⟩
  · refine br_t (by simpa using c1) (call_i (s_Used F9 ?_))
    (refine app_of rfl ?_; try dsimp only)
    have hu : (AT.layF (y0.mkdirF (bl [47]) (bl [120])).2 (bl [47, 120, 47, 121]) t').2.ui = 2 ∧ (AT.layF (y0.mkdirF (bl [47]) (bl [120])).2 (bl [47, 120, 47, 121]) t').2.ub = 0 := by rw [c2]; exact ⟨y1_u.1, y1_u.2.1⟩
    have hb : ((AT.layF y1 (bl [47, 120, 47, 121]) t').2.ui == 2 && ((AT.layF y1 (bl [47, 120, 47, 121]) t').2.ub == 0 && true)) = true := by
      have h1 : (AT.layF y1 (bl [47, 120, 47, 121]) t').2.ui = 2 := hu.1
      have h2 : (AT.layF y1 (bl [47, 120, 47, 121]) t').2.ub = 0 := hu.2
      rw [h1, h2]; rfl
    show K (.bool ((AT.layF y1 (bl [47, 120, 47, 121]) t').2.ui == 2 && ((AT.layF y1 (bl [47, 120, 47, 121]) t').2.ub == 0 && true))) σ9
    rw [hb]
    exact hK σ9 hg9
  · have q := y1_f
    have c5 : Laid y1 (y1.freshP (bl [47]) (bl [47, 120, 47, 121])).2.dir (y1.freshP (bl [47]) (bl [47, 120, 47, 121])).2.name t' (y1.layF (bl [47, 120, 47, 121]) t') := c5
    rw [q.1, q.2] at c5
    have e0 : (y1.layF (bl [47, 120, 47, 121]) t').1 = 0 := c5.ok
    refine br_f (by show ((y1.layF (bl [47, 120, 47, 121]) t').1 != 0) = false; rw [e0]; rfl) (ptr_i (rd_G (rdA_of' h69 (by rfl)) ?_))
    (refine app_of rfl ?_; try dsimp only)
    exact call_i (s_laid8 t' y4 (bl [47, 120, 47, 121]) (y1.last + 1) (y1_path c5) c5.lies (check_may c1) (by omega) (by decide) F9 (hs6.gr O9.1) (app_B (hK σ9 hg9)))
end Go.Proofs.YtlpcehbfoogejaaGreatDoor

