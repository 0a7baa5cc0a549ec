/- A part of the proof: whisklaw08.FsLaid: what Lay lays lies there, just so, or nothing was laid. -/
import Derived.Test.YtlpcehbfoogejaaGreatDoorRav
/- TREES: may, size, Check. -/
set_option maxRecDepth 100000
namespace Go.Proofs.YtlpcehbfoogejaaGreatDoor
open Go Go.HL Go.Wk
attribute [local irreducible] ptrW ifW brW andW rdT alW letJ stW muW biW vaW imW callT cvalT app callW invW callVW sizeT oW nilF oneK loopW rfW funW begW roundK exW idxW Gr Put
theorem drop_get {α : Type} {l r : List α} {x : α} {i : Nat} (h : l.drop i = x :: r) : l[i]? = some x ∧ i < l.length ∧ l.drop (i + 1) = r := by
  refine ⟨?_, ?_, ?_⟩
  · have : (l.drop i)[0]? = some x := by rw [h]; rfl
    simpa using this
  · rcases Nat.lt_or_ge i l.length with h' | h'
    · exact h'
    · rw [List.drop_eq_nil_of_le h'] at h; cases h
  · rw [← List.drop_drop, h]; rfl
/-- a closure that tells a bool and changes nothing -/
def Pb (σ : H) (f : Value) (b : Bool) : Prop := ∀ K : Value → H → Prop, K (.bool b) σ → callVW Tryz.prog f [] K σ
theorem pb_of {σ : H} {g : FuncId} {as_ cs : List Value} {e : Bool} (hg : isGo Tryz.prog g = true) (h : ∀ K : Value → H → Prop, K (.bool e) σ → callW Tryz.prog g (as_ ++ cs) K σ) : Pb σ (.func (.func g) ⟨as_⟩ ⟨cs⟩) e := by
  intro K hk
  unfold callVW
  simp only [hg]
  simpa using h K hk
def AllOk (σ : H) : List Value → List Bool → Prop
  | [], [] => True
  | f :: fs, b :: bs => Pb σ f b ∧ (b = true → AllOk σ fs bs)
  | _, _ => False
def allB : List Bool → Bool
  | [] => true
  | b :: r => b && allB r
theorem go_all1 : isGo Tryz.prog 189 = true := by kernel_rfl
theorem x_IdxF {σ : H} {b : Nat} {fs : List Value} {bs : List Bool} {t : TypeId} (hb : σ b = some (.cells ⟨fs⟩ t (0, 0))) (h : AllOk σ fs bs) (hn : fs.length ≤ 1000) {K : Value → H → Prop} (hK : ∀ n : Int, decide (n ≥ 0) = !allB bs → K (.int .i64 n) σ) :
    callW Tryz.prog 205 [.slice (some ⟨b, 0, none⟩) fs.length fs.length, .func (.func 189) ⟨[]⟩ ⟨[]⟩] K σ := by
  refine c205 ⟨some ⟨b, 0, none⟩, _, _⟩ _ ?_
  unfold g205
  refine loop_i ?_
  intro R hR
  have key : ∀ (gs : List Value) (ds : List Bool) (i : Nat), fs.drop i = gs → AllOk σ gs ds → allB bs = allB ds → R ⟨some ⟨b, 0, none⟩, fs.length, fs.length⟩ (.func (.func 189) ⟨[]⟩ ⟨[]⟩) ((fs.length : Nat) : Int) (i : Int) σ := by
    intro gs
    induction gs with
    | nil =>
      intro ds i hd hok he
      have hge : fs.length ≤ i := by simpa using hd
      refine hR _ _ _ _ _ ?_
      cases ds with
      | cons d ds => exact hok.elim
      | nil => exact br_f (by simp; omega) (hK _ (by rw [he]; rfl))
    | cons f gs ih =>
      intro ds i hd hok he
      cases ds with
      | nil => exact hok.elim
      | cons d ds =>
        obtain ⟨hp, hok⟩ := hok
        obtain ⟨hf, hlt, hd'⟩ := drop_get hd
        refine hR _ _ _ _ _ ?_
        refine br_t (by simpa using hlt) ?_
        refine ptr_i (if_i ⟨by omega, by show (i : Int) < (fs.length : Int); omega⟩ ?_)
        refine rd_R (rdC_of (v := f) hb (by simpa using hf)) ?_
        refine cval_i go_all1 (c189 _ ?_)
        unfold g189
        refine cvalv_i (hp _ (app_B (app_B ?_)))
        cases d with
        | false =>
          refine br_t rfl (hK _ ?_)
          rw [he]; simp [allB]
        | true =>
          refine br_f rfl ?_
          rw [wrap_id (by omega) (by omega)]
          exact ih ds (i + 1) hd' (hok rfl) (by rw [he]; simp [allB])
  exact key fs bs 0 rfl h rfl
theorem x_all {σ : H} {b : Nat} {fs : List Value} {bs : List Bool} {t : TypeId} (hb : σ b = some (.cells ⟨fs⟩ t (0, 0))) (h : AllOk σ fs bs) (hn : fs.length ≤ 1000) {K : Value → H → Prop} (hK : K (.bool (allB bs)) σ) :
    callW Tryz.prog 162 [.slice (some ⟨b, 0, none⟩) fs.length fs.length] K σ := by
  refine c162 ⟨some ⟨b, 0, none⟩, _, _⟩ ?_
  unfold g162
  refine call_i (c188 ⟨some ⟨b, 0, none⟩, _, _⟩ _ ?_)
  unfold g188
  refine call_i (x_IdxF hb h hn ?_)
  intro n hn
  refine app_I (app_B ?_)
  rw [hn]; simpa using hK
theorem strLt_eq (a b : ByteArray) : strLt a b = ltB a b := by
  unfold strLt ltB
  rw [ByteArray.toList_eq, ByteArray.toList_eq]
  generalize a.data.toList = x
  generalize b.data.toList = y
  induction x generalizing y with
  | nil => cases y <;> simp [Op.bytesLess, Wk.leB]
  | cons c r ih =>
    cases y with
    | nil => simp [Op.bytesLess, Wk.leB]
    | cons d s =>
      simp only [Op.bytesLess, Wk.leB, ih s]
      by_cases h1 : c < d
      · have : Nat.blt c.toNat d.toNat = true := by rw [Nat.blt_eq]; exact h1
        have h2 : Nat.blt d.toNat c.toNat = false := by
          rw [← Bool.not_eq_true, Nat.blt_eq]; have : c.toNat < d.toNat := h1; omega
        simp [h1, this, h2]
      · have n1 : Nat.blt c.toNat d.toNat = false := by rw [← Bool.not_eq_true, Nat.blt_eq]; exact h1
        by_cases h2 : d < c
        · have : Nat.blt d.toNat c.toNat = true := by rw [Nat.blt_eq]; exact h2
          have h3 : (c == d) = false := by
            simp only [beq_eq_false_iff_ne]; intro e; subst e; exact h1 h2
          simp [h1, this, h3]
        · have n2 : Nat.blt d.toNat c.toNat = false := by rw [← Bool.not_eq_true, Nat.blt_eq]; exact h2
          have : c = d := UInt8.le_antisymm (UInt8.not_lt.1 h2) (UInt8.not_lt.1 h1)
          subst this
          simp [n1]
theorem s_mayName (s : ByteArray) {σ : H} {K : Value → H → Prop} (hK : K (.bool (mayName s)) σ) : callW Tryz.prog 166 [.string s] K σ := by
  refine c166 _ ?_
  unfold g166
  unfold mayName at hK
  simp only [sEq_eq] at hK
  by_cases h1 : 1 ≤ s.size
  case neg => exact br_f (by simp; omega) (by simpa [h1] using hK)
  refine br_t (by simp; omega) ?_
  by_cases h2 : s.size ≤ 56
  case neg => exact br_f (by simp; omega) (by simpa [h1, h2] using hK)
  refine br_t (by simp; omega) (call_i (cAny _ (by omega) _ _ (app_B ?_)))
  simp only [h1, h2, decide_true, Bool.true_and] at hK
  cases h3 : badByte s with
  | true => rw [h3] at hK; exact br_f rfl hK
  | false =>
    rw [h3] at hK
    refine br_t rfl ?_
    cases h4 : strEq s ⟨⟨[46]⟩⟩ with
    | true => rw [h4] at hK; exact br_f rfl hK
    | false => rw [h4] at hK; exact br_t rfl hK
theorem go_mayT1 : isGo Tryz.prog 160 = true := by kernel_rfl
theorem go_mayT2 : isGo Tryz.prog 161 = true := by kernel_rfl
theorem go_mayT3 : isGo Tryz.prog 163 = true := by kernel_rfl
theorem go_mayT4 : isGo Tryz.prog 164 = true := by kernel_rfl
theorem go_mayT5 : isGo Tryz.prog 165 = true := by kernel_rfl
section
variable {σ : H} {b6 : Nat} {t : Tr} {y : Sl} {ty : TypeId}
theorem s_mayT1 (h6 : σ b6 = some (.cells ⟨trC t y⟩ ty (0, 0))) (hs : SlAt σ t.kids y) {K : Value → H → Prop} (hK : K (.bool t.kids.isEmpty) σ) : callW Tryz.prog 160 [.pointer (some ⟨b6, 0, none⟩)] K σ := by
  refine c160 _ ?_
  unfold g160
  unfold trC at h6
  refine ptr_i (rd_L (rdC_of h6 (by rfl)) ?_)
  have : ((((y.len : Nat) : Int) : Int) == 0) = t.kids.isEmpty := by
    rw [hs.1]; cases t.kids <;> simp; omega
  rw [this]; exact hK
theorem s_mayT2 (h6 : σ b6 = some (.cells ⟨trC t y⟩ ty (0, 0))) {K : Value → H → Prop} (hK : K (.bool (!t.exec)) σ) : callW Tryz.prog 161 [.pointer (some ⟨b6, 0, none⟩)] K σ := by
  refine c161 _ ?_
  unfold g161
  unfold trC at h6
  exact ptr_i (rd_B (rdC_of h6 (by rfl)) hK)
theorem s_mayT3 (h6 : σ b6 = some (.cells ⟨trC t y⟩ ty (0, 0))) {K : Value → H → Prop} (hK : K (.bool (linkOk t.data)) σ) : callW Tryz.prog 163 [.pointer (some ⟨b6, 0, none⟩)] K σ := by
  refine c163 _ ?_
  unfold g163
  unfold trC at h6
  have hne : sEq t.data ⟨⟨[]⟩⟩ = decide (t.data.size < 1) := by
    rw [Bool.eq_iff_iff, sEq_iff, decide_eq_true_eq]
    constructor
    · intro e; rw [e]; decide
    · intro h
      have hl : t.data.data.toList.length = t.data.size := rfl
      have : t.data.data.toList = [] := List.eq_nil_of_length_eq_zero (by omega)
      show (⟨⟨t.data.data.toList⟩⟩ : ByteArray) = _
      rw [this]
  unfold linkOk at hK
  rw [hne] at hK
  refine ptr_i (rd_S (rdC_of h6 (by rfl)) ?_)
  by_cases h1 : 1 ≤ t.data.size
  case neg => exact br_f (by simp; omega) (by simpa [show t.data.size < 1 by omega] using hK)
  refine br_t (by simp; omega) (ptr_i (rd_S (rdC_of h6 (by rfl)) ?_))
  have h1' : decide (t.data.size < 1) = false := by simp only [decide_eq_false_iff_not]; omega
  rw [h1'] at hK
  by_cases h2 : t.data.size ≤ 255
  case neg => exact br_f (by simp; omega) (by simpa [h2] using hK)
  refine br_t (by simp; omega) (ptr_i (rd_S (rdC_of h6 (by rfl)) (call_i (iByte _ _ _ ?_))))
  intro n hn
  refine app_I ?_
  rw [hn]; simpa [h2] using hK
theorem s_mayT4 (h6 : σ b6 = some (.cells ⟨trC t y⟩ ty (0, 0))) {K : Value → H → Prop} (hK : K (.bool (sEq t.data ⟨⟨[]⟩⟩)) σ) : callW Tryz.prog 164 [.pointer (some ⟨b6, 0, none⟩)] K σ := by
  refine c164 _ ?_
  unfold g164
  unfold trC at h6
  rw [sEq_eq] at hK
  exact ptr_i (rd_S (rdC_of h6 (by rfl)) hK)
end
/-- may -/
theorem s_may_tree : ∀ (t : Tr) (y : Sl) {σ : H}, SlAt σ t.kids y → t.total ≤ 1000000000000000 → ∀ {K : Value → H → Prop}, K (.bool t.may) σ → callW Tryz.prog 112 [.agg ⟨trC t y⟩] K σ := by
  refine Tr.ind (P := fun t => ∀ (y : Sl) {σ : H}, SlAt σ t.kids y → t.total ≤ 1000000000000000 → ∀ {K : Value → H → Prop}, K (.bool t.may) σ → callW Tryz.prog 112 [.agg ⟨trC t y⟩] K σ) ?_
  intro t ih y σ hs hT K hK
  refine pure_i _ hK (c112 _ _ _ _ _ ?_)
  clear hK
  unfold g112
  refine al_i ?_; intro b6 σ1 g1 e1 n1
  have hs1 := hs.gr g1
  have e1' : σ1 b6 = some (.cells ⟨trC t y⟩ 24 (0, 0)) := e1
  refine rd_I (rdC_of e1 (by rfl)) ?_
  have hmay : t.may = if t.kind = 1 then t.kids.isEmpty else if t.kind = 3 then t.kids.isEmpty && (!t.exec && linkOk t.data) else if t.kind = 2 then !t.exec && (sEq t.data ⟨⟨[]⟩⟩ && Tr.mayRow none t.kids) else false := by
    obtain ⟨n, k, e, d, kids⟩ := t
    rw [Tr.may]; rfl
  rw [hmay]
  by_cases k1 : t.kind = 1
  · rw [if_pos k1]
    refine br_t (by simpa using k1) (call_i (s_mayT1 e1' hs1 (app_B ⟨rfl, g1⟩)))
  rw [if_neg k1]
  refine br_f (by simpa using k1) ?_
  by_cases k3 : t.kind = 3
  · rw [if_pos k3]
    refine br_t (by simpa using k3) ?_
    refine al_i ?_; intro b9 σ2 g2 e2 n2
    have e1'' := g2.get e1'
    refine call_i (x_all (bs := [t.kids.isEmpty, !t.exec, linkOk t.data]) e2 ⟨pb_of go_mayT1 fun K hk => s_mayT1 e1'' (hs1.gr g2) hk, fun _ => ⟨pb_of go_mayT2 fun K hk => s_mayT2 e1'' hk, fun _ => ⟨pb_of go_mayT3 fun K hk => s_mayT3 e1'' hk, fun _ => trivial⟩⟩⟩ (by simp) (app_B ⟨?_, g1.trans g2⟩))
    simp [allB]
  rw [if_neg k3]
  refine br_f (by simpa using k3) ?_
  by_cases k2 : t.kind = 2
  case neg => rw [if_neg k2]; exact br_f (by simpa using k2) ⟨rfl, g1⟩
  rw [if_pos k2]
  refine br_t (by simpa using k2) ?_
  refine al_i ?_; intro b11 σ2 g2 e2 n2
  have e1'' := g2.get e1'
  have hs2 := hs1.gr g2
  refine call_i (x_all (bs := [!t.exec, sEq t.data ⟨⟨[]⟩⟩, Tr.mayRow none t.kids]) e2 ⟨pb_of go_mayT2 fun K hk => s_mayT2 e1'' hk, fun _ => ⟨pb_of go_mayT4 fun K hk => s_mayT4 e1'' hk, fun _ => ⟨pb_of go_mayT5 fun K hk => ?_, fun _ => trivial⟩⟩⟩ (by simp) (app_B ⟨by simp [allB], g1.trans g2⟩))
  clear e2 n2 g1 e1 n1
  refine pure_i _ hk ?_
  clear hk
  refine c165 _ ?_
  unfold g165
  have hT1 := kids_total t
  unfold trC at e1''
  refine ptr_i (rd_L (rdC_of e1'' (by rfl)) ?_)
  refine loop_i ?_
  intro R hR
  have key : ∀ (l : List Tr) (i : Nat) (τ : H), t.kids.drop i = l → Gr σ2 τ → Tr.mayRow none t.kids = Tr.mayRow (if i = 0 then none else (t.kids[i - 1]?).map Tr.name) l → R (some ⟨b6, 0, none⟩) y ((y.len : Nat) : Int) (i : Int) τ := by
    intro l
    induction l with
    | nil =>
      intro i τ hd hg he
      have hge : t.kids.length ≤ i := by simpa using hd
      refine hR _ _ _ _ _ ?_
      refine br_f (by rw [hs.1]; simp only [decide_eq_false_iff_not]; omega) ⟨?_, hg⟩
      rw [he]; simp [Tr.mayRow]
    | cons x r ihl =>
      intro i τ hd hg he
      obtain ⟨hx, hlt, hd'⟩ := drop_get hd
      obtain ⟨g, o, z, hb, hrd, hz⟩ := kid_rd (hs2.gr hg) hx
      refine hR _ _ _ _ _ ?_
      refine br_t (by rw [hs.1]; simp only [decide_eq_true_eq]; omega) ?_
      rw [hb]
      refine ptr_i (if_i ⟨by omega, by rw [hs.1]; omega⟩ ?_)
      have hrd' : rdA 5 g (o + (i : Int).toNat * 5) τ = some (.agg ⟨trC x z⟩) := by simpa using hrd
      refine rd_G hrd' ?_
      unfold trC
      (refine app_of rfl ?_; try dsimp only)
      refine al_i ?_; intro b17 τ1 g2 e2 n2
      refine st_i2 e2 sz_Node (by rfl) (by rfl) ?_; intro τ2 p2
      have hg2 : Gr τ τ2 := g2.putF p2 n2
      have k17 : τ2 b17 = some (.cells ⟨[.string x.name, .int .i64 x.kind, .bool x.exec, .string x.data, .slice z.base z.len z.cap]⟩ 24 (0, 0)) := p2.same
      clear p2 e2
      simp only [Tr.mayRow] at he
      refine j_i (fun j => ∀ (v1 v2 v3 v4 v5 v6 v7 v8 v9 v10 v11 v12 v13 v14 v15 v16 v17 : Value) (b : Bool), (b = true → Tr.mayRow none t.kids = false) → (b = false → Tr.mayRow none t.kids = Tr.mayRow (some x.name) r) → j (some ⟨b6, 0, none⟩) y ((y.len : Nat) : Int) (i : Int) v1 v2 v3 v4 v5 v6 v7 v8 v9 v10 v11 v12 v13 v14 v15 v16 v17 b τ2) ?_ ?_
      · intro v1 v2 v3 v4 v5 v6 v7 v8 v9 v10 v11 v12 v13 v14 v15 v16 v17 b h1 h2
        cases b with
        | true => rw [h1 rfl]; exact br_t rfl ⟨rfl, hg.trans hg2⟩
        | false =>
          refine br_f rfl ?_
          rw [wrap_id (by omega) (by omega)]
          refine ihl (i + 1) τ2 hd' (hg.trans hg2) ?_
          rw [h2 rfl]
          have : i + 1 - 1 = i := by omega
          rw [if_neg (by omega), this, hx]; rfl
      · intro j hj
        refine rd_S (rdC_of k17 (by rfl)) (call_i (s_mayName _ (app_B ?_)))
        cases hmn : mayName x.name with
        | false =>
          rw [hmn] at he
          exact br_t rfl (hj _ _ _ _ _ _ _ _ _ _ _ _ _ _ _ _ _ true (fun _ => by rw [he]; rfl) (fun h => by cases h))
        | true =>
          rw [hmn] at he
          simp only [Bool.true_and] at he
          refine br_f rfl (rd_G (rdA_of' k17 (by rfl)) ?_)
          (refine app_of rfl ?_; try dsimp only)
          refine call_i (ih x (List.mem_of_getElem? hx) z (hz.gr hg2) (by have := kid_total hx; omega) (app_B ?_))
          cases hmx : x.may with
          | false =>
            rw [hmx] at he
            exact br_t rfl (hj _ _ _ _ _ _ _ _ _ _ _ _ _ _ _ _ _ true (fun _ => by rw [he]; rfl) (fun h => by cases h))
          | true =>
            rw [hmx] at he
            simp only [Bool.true_and] at he
            refine br_f rfl ?_
            cases i with
            | zero =>
              refine br_f (by simp) (hj _ _ _ _ _ _ _ _ _ _ _ _ _ _ _ _ _ false (fun h => by cases h) (fun _ => ?_))
              rw [he]; simp [above]
            | succ i =>
              have hi1 : i < t.kids.length := by omega
              obtain ⟨pv, hpv⟩ : ∃ pv, t.kids[i]? = some pv := ⟨_, List.getElem?_eq_getElem hi1⟩
              have : i + 1 - 1 = i := by omega
              rw [if_neg (by omega), this, hpv] at he
              have he : Tr.mayRow none t.kids = (ltB pv.name x.name && Tr.mayRow (some x.name) r) := he
              refine br_t (by simp only [decide_eq_true_eq]; omega) ?_
              have e1q := (hg.trans hg2).get e1''
              refine ptr_i (rd_L (rdC_of e1q (by rfl)) ?_)
              obtain ⟨g', o', hb', hnm⟩ := kid_name (hs2.gr (hg.trans hg2)) hpv
              show ptrW y.base _ τ2
              rw [hb']
              have w1 : IntKind.i64.wrap (((i + 1 : Nat) : Int) - 1) = (i : Int) := by rw [wrap_id (by omega) (by omega)]; omega
              rw [w1]
              have hnm' : rdC g' (o' + (i : Int).toNat * 5) τ2 = some (.string pv.name) := by simpa using hnm
              refine ptr_i (if_i ⟨by omega, by rw [hs.1]; omega⟩ (rd_S hnm' (rd_S (rdC_of k17 (by rfl)) ?_)))
              refine hj _ _ _ _ _ _ _ _ _ _ _ _ _ _ _ _ _ _ ?_ ?_
              · intro h
                rw [strLt_eq] at h
                have : ltB pv.name x.name = false := by simpa using h
                rw [he, this]; rfl
              · intro h
                rw [strLt_eq] at h
                have : ltB pv.name x.name = true := by simpa using h
                rw [he, this]; rfl
  exact key t.kids 0 σ2 rfl (Gr.refl _) rfl
/-- size -/
theorem s_tsize : ∀ (t : Tr) (y : Sl) {σ : H}, SlAt σ t.kids y → t.total ≤ 1000000000000000 → ∀ {K : Value → H → Prop}, K (.tuple ⟨[.int .i64 t.size.1, .int .i64 t.size.2]⟩) σ → callW Tryz.prog 113 [.agg ⟨trC t y⟩] K σ := by
  refine Tr.ind (P := fun t => ∀ (y : Sl) {σ : H}, SlAt σ t.kids y → t.total ≤ 1000000000000000 → ∀ {K : Value → H → Prop}, K (.tuple ⟨[.int .i64 t.size.1, .int .i64 t.size.2]⟩) σ → callW Tryz.prog 113 [.agg ⟨trC t y⟩] K σ) ?_
  intro t ih y σ hs hT K hK
  refine pure_i _ hK (c113 _ _ _ _ _ ?_)
  clear hK
  unfold g113
  refine al_i ?_; intro b6 σ1 g1 e1 n1
  refine rd_S (rdC_of e1 (by rfl)) (rd_L (rdC_of e1 (by rfl)) ?_)
  have hT1 := kids_total t
  have hsz : t.size = Tr.sizeRow t.kids (1, (t.data.size : Int)) := by obtain ⟨n, k, e, d, kids⟩ := t; simp only [Tr.size, Tr.kids, Tr.data]
  have htot : 1 + t.data.size + Tr.totalRow t.kids ≤ t.total := by obtain ⟨n, k, e, d, kids⟩ := t; simp only [Tr.total, Tr.kids, Tr.data]; omega
  refine loop_i ?_
  intro R hR
  have key : ∀ (l : List Tr) (i : Nat) (a : Int × Int) (τ : H), t.kids.drop i = l → Gr σ τ → t.size = Tr.sizeRow l a → 1 ≤ a.1 → 0 ≤ a.2 → a.1 + a.2 + Tr.totalRow l ≤ 1000000000000000 → R a.1 a.2 y ((y.len : Nat) : Int) (i : Int) τ := by
    intro l
    induction l with
    | nil =>
      intro i a τ hd hg he h1 h2 h3
      have hge : t.kids.length ≤ i := by simpa using hd
      refine hR _ _ _ _ _ _ ?_
      refine br_f (by rw [hs.1]; simp only [decide_eq_false_iff_not]; omega) ⟨?_, hg⟩
      rw [he]; rfl
    | cons x r ihl =>
      intro i a τ hd hg he h1 h2 h3
      obtain ⟨hx, hlt, hd'⟩ := drop_get hd
      obtain ⟨g, o, z, hb, hrd, hz⟩ := kid_rd (hs.gr hg) hx
      simp only [Tr.totalRow] at h3
      have hxs := Tr.size_le x
      simp only [Tr.sizeRow] at he
      refine hR _ _ _ _ _ _ ?_
      refine br_t (by rw [hs.1]; simp only [decide_eq_true_eq]; omega) ?_
      refine j_i (fun j => ∀ τ2, Gr σ τ2 → j (if x.tooDeep = true then a else (a.1 + x.size.1, a.2 + x.size.2)).1 (if x.tooDeep = true then a else (a.1 + x.size.1, a.2 + x.size.2)).2 y ((y.len : Nat) : Int) (i : Int) τ2) ?_ ?_
      · intro τ2 hg2
        rw [wrap_id (x := (i : Int) + 1) (by omega) (by omega)]
        refine ihl (i + 1) _ τ2 hd' hg2 he ?_ ?_ ?_
        · split <;> (try simp only) <;> omega
        · split <;> (try simp only) <;> omega
        · split <;> (try simp only) <;> omega
      · intro j hj
        rw [hb]
        refine ptr_i (if_i ⟨by omega, by rw [hs.1]; omega⟩ ?_)
        have hrd' : rdA 5 g (o + (i : Int).toNat * 5) τ = some (.agg ⟨trC x z⟩) := by simpa using hrd
        refine rd_G hrd' ?_
        unfold trC
        (refine app_of rfl ?_; try dsimp only)
        refine al_i ?_; intro b28 τ1 g2 e2 n2
        refine st_i2 e2 sz_Node (by rfl) (by rfl) ?_; intro τ2 p2
        have hg2 : Gr τ τ2 := g2.putF p2 n2
        refine rd_G (rdA_of' p2.same (by rfl)) ?_
        (refine app_of rfl ?_; try dsimp only)
        have hxt : x.total ≤ 1000000000000000 := by have := kid_total hx; omega
        refine call_i (s_tooDeep x z (hz.gr hg2) hxt (app_B ?_))
        cases htd : x.tooDeep with
        | true =>
          have := hj τ2 (hg.trans hg2)
          simp only [htd, if_true] at this
          exact br_t rfl this
        | false =>
          have hjj := hj τ2 (hg.trans hg2)
          simp only [htd, Bool.false_eq_true, if_false] at hjj
          refine br_f rfl (rd_G (rdA_of' p2.same (by rfl)) ?_)
          (refine app_of rfl ?_; try dsimp only)
          refine call_i (ih x (List.mem_of_getElem? hx) z (hz.gr hg2) hxt (app_II ?_))
          rw [wrap_id (x := a.1 + x.size.1) (by omega) (by omega), wrap_id (x := a.2 + x.size.2) (by omega) (by omega)]
          exact hjj
  exact key t.kids 0 (1, (t.data.size : Int)) σ1 rfl g1 hsz (Int.le_refl _) (by show (0 : Int) ≤ t.data.size; omega) (by show (1 : Int) + t.data.size + Tr.totalRow t.kids ≤ 1000000000000000; omega)
theorem s_tSize (t : Tr) (y : Sl) {σ : H} (hs : SlAt σ t.kids y) (hT : t.total ≤ 1000000000000000) {K : Value → H → Prop} (hK : K (.tuple ⟨[.int .i64 t.sizeT.1, .int .i64 t.sizeT.2]⟩) σ) : callW Tryz.prog 57 [.agg ⟨trC t y⟩] K σ := by
  refine pure_i _ hK (c57 _ _ _ _ _ ?_)
  clear hK
  unfold g57
  refine al_i ?_; intro b6 σ1 g1 e1 n1
  refine rd_G (rdA_of' e1 (by rfl)) ?_
  (refine app_of rfl ?_; try dsimp only)
  refine call_i (s_tooDeep t y (hs.gr g1) hT (app_B ?_))
  unfold Tr.sizeT
  cases htd : t.tooDeep with
  | true => exact br_t rfl ⟨rfl, g1⟩
  | false =>
    refine br_f rfl (rd_G (rdA_of' e1 (by rfl)) ?_)
    (refine app_of rfl ?_; try dsimp only)
    exact call_i (s_tsize t y (hs.gr g1) hT (app_II ⟨rfl, g1⟩))
/-- Check -/
theorem s_Check (t : Tr) (y : Sl) {σ : H} (hs : SlAt σ t.kids y) (hT : t.total ≤ 1000000000000000) {K : Value → H → Prop} (hK : K (.int .i64 t.check) σ) : callW Tryz.prog 55 [.agg ⟨trC t y⟩] K σ := by
  generalize hres : t.check = res at hK
  unfold Tr.check at hres
  refine pure_i _ hK (c55 _ _ _ _ _ ?_)
  clear hK
  unfold g55
  refine al_i ?_; intro b6 σ1 g1 e1 n1
  have hs1 := hs.gr g1
  refine rd_G (rdA_of' e1 (by rfl)) ?_
  (refine app_of rfl ?_; try dsimp only)
  refine call_i (s_tooDeep t y hs1 hT (app_B ?_))
  cases htd : t.tooDeep with
  | true => rw [htd] at hres; simp only [if_true] at hres; exact br_t rfl ⟨by rw [← hres], g1⟩
  | false =>
    rw [htd] at hres
    simp only [Bool.false_eq_true, if_false] at hres
    refine br_f rfl ?_
    refine j_i (fun j => ∀ b : Bool, (b = true ↔ sEq t.name ⟨⟨[]⟩⟩ = false ∨ t.may = false) → j (some ⟨b6, 0, none⟩) b σ1) ?_ ?_
    · intro b hb
      cases b with
      | true => rw [if_pos (hb.1 rfl)] at hres; exact br_t rfl ⟨by rw [← hres], g1⟩
      | false =>
        rw [if_neg (fun h => by have := hb.2 h; cases this)] at hres
        refine br_f rfl (ptr_i (rd_G (rdA_of' e1 (by rfl)) ?_))
        (refine app_of rfl ?_; try dsimp only)
        refine call_i (s_tSize t y hs1 hT (app_II ?_))
        refine j_i (fun j => ∀ b : Bool, (b = true ↔ t.sizeT.1 > 2000 ∨ t.sizeT.2 > 100000) → j b σ1) ?_ ?_
        · intro b hb
          cases b with
          | true => rw [if_pos (hb.1 rfl)] at hres; exact br_t rfl ⟨by rw [← hres], g1⟩
          | false => rw [if_neg (fun h => by have := hb.2 h; cases this)] at hres; exact br_f rfl ⟨by rw [← hres], g1⟩
        · intro j hj
          by_cases h1 : t.sizeT.1 > 2000
          · exact br_t (by simpa using h1) (hj true (by simp [h1]))
          · exact br_f (by simpa using h1) (hj _ (by simp [h1]))
    · intro j hj
      rw [sEq_eq] at hj
      refine rd_S (rdC_of e1 (by rfl)) ?_
      cases hn : strEq t.name ⟨⟨[]⟩⟩ with
      | false => exact br_t rfl (hj true (by simp [hn]))
      | true =>
        refine br_f rfl (rd_G (rdA_of' e1 (by rfl)) ?_)
        (refine app_of rfl ?_; try dsimp only)
        refine call_i (s_may_tree t y hs1 hT (app_B (hj _ ?_)))
        rw [hn]; cases t.may <;> simp
end Go.Proofs.YtlpcehbfoogejaaGreatDoor

/- LAYING A TREE keeps what always holds. -/
namespace Go.Wk
open Go Go.HL
/-- nothing is lost -/
structure Grows (A A' : AT) : Prop where
  get : ∀ i n, A.get i = some n → ∃ m, A'.get i = some m ∧ m.kind = n.kind ∧ m.up = n.up ∧ m.mode = n.mode ∧ m.data = n.data ∧ m.links = n.links ∧ ∀ s j, lk s n.ents = some j → lk s m.ents = some j
  last : A.last ≤ A'.last
  qi : A'.qi = A.qi
  qb : A'.qb = A.qb
theorem Grows.refl (A : AT) : Grows A A := ⟨fun i n h => ⟨n, h, rfl, rfl, rfl, rfl, rfl, fun _ _ h => h⟩, Int.le_refl _, rfl, rfl⟩
theorem Grows.trans {A B C : AT} (h : Grows A B) (k : Grows B C) : Grows A C := by
  refine ⟨fun i n hn => ?_, Int.le_trans h.last k.last, by rw [k.qi, h.qi], by rw [k.qb, h.qb]⟩
  obtain ⟨m, h1, h2, h3, h4, h5, h6, h7⟩ := h.get i n hn
  obtain ⟨m', k1, k2, k3, k4, k5, k6, k7⟩ := k.get i m h1
  exact ⟨m', k1, by rw [k2, h2], by rw [k3, h3], by rw [k4, h4], by rw [k5, h5], by rw [k6, h6], fun s j hs => k7 s j (h7 s j hs)⟩
section
variable {A A' : AT}
theorem Grows.isDir (h : Grows A A') {k : Int} (hk : A.isDir k) : A'.isDir k := by
  obtain ⟨n, h1, h2⟩ := hk
  obtain ⟨m, h3, h4, _⟩ := h.get k n h1
  exact ⟨m, h3, by rw [h4, h2]⟩
theorem Grows.deep (h : Grows A A') (hI : Inv A) (f : Nat) {k : Int} (hk : A.isDir k) : A'.deep f k = A.deep f k := by
  refine deep_same hI ?_ f k hk
  rintro k ⟨n, h1, _⟩
  obtain ⟨m, h3, _, h5, _⟩ := h.get k n h1
  unfold AT.upOf; rw [h1, h3]; simp [h5]
theorem Grows.find (h : Grows A A') {d : Int} {s : ByteArray} {j : Int} (hf : A.find d s = some j) : A'.find d s = some j := by
  unfold AT.find at hf ⊢
  cases hn : A.get d with
  | none => rw [hn] at hf; cases hf
  | some n =>
    rw [hn] at hf
    obtain ⟨m, h1, _, _, _, _, _, h7⟩ := h.get d n hn
    rw [h1]; exact h7 s j hf
variable {dir : Int} {name : ByteArray} {kind mode : Int} {data : ByteArray}
theorem made_grows (h : Inv A) (hl : A.last < 4611686018427387904) (he : A.makeE dir name kind mode data = 0) : Grows A (A.made dir name kind mode data) := by
  obtain ⟨⟨nd, hd, hd2⟩, hnm, hlk, hfn, hrm⟩ := makeE_z he
  have hG := made_get (name := name) (kind := kind) (mode := mode) (data := data) h hl hd
  have hE := made_eq (name := name) (kind := kind) (mode := mode) (data := data) h hl hd
  have hfr : A.get (A.last + 1) = none := h.fresh (by omega)
  have hfn' : lk name nd.ents = none := by unfold AT.find at hfn; rw [hd] at hfn; exact hfn
  refine ⟨fun i n hn => ?_, by rw [hE]; show A.last ≤ A.last + 1; omega, by rw [hE]; rfl, by rw [hE]; rfl⟩
  rw [hG]
  by_cases e : i = dir
  · subst e; rw [if_pos rfl]; rw [hd] at hn; cases hn
    refine ⟨_, rfl, rfl, rfl, rfl, rfl, rfl, fun s j hs => ?_⟩
    simp only [lk_up]
    have : (s == name) = false := by
      cases hb : (s == name) with
      | false => rfl
      | true => have := eq_of_beq hb; subst this; rw [hfn'] at hs; cases hs
    rw [this]; exact hs
  · rw [if_neg e]
    by_cases e2 : i = A.last + 1
    · subst e2; rw [hfr] at hn; cases hn
    · rw [if_neg e2]; exact ⟨n, hn, rfl, rfl, rfl, rfl, rfl, fun _ _ h => h⟩
theorem makeR_z (he : A.makeE dir name kind mode data = 0) : A.makeR dir name kind mode data = (wr (A.last + 1), 0, A.made dir name kind mode data) := by unfold AT.makeR; rw [if_pos he]
theorem makeR_n (he : A.makeE dir name kind mode data ≠ 0) : A.makeR dir name kind mode data = (0, A.makeE dir name kind mode data, A) := by unfold AT.makeR; rw [if_neg he]
theorem makeR_ok {N : Nat} (h : Inv A) (hb : Bd N A) (hN : N < 4611686018427387904) (hs : data.size < 4611686018427387904) (hdp : A.isDir dir → kind = 2 → ∃ d, A.deep 11 dir = some d) :
    Inv (A.makeR dir name kind mode data).2.2 ∧ Bd (N + 1) (A.makeR dir name kind mode data).2.2 ∧ Grows A (A.makeR dir name kind mode data).2.2 := by
  by_cases he : A.makeE dir name kind mode data = 0
  · rw [makeR_z he]
    obtain ⟨h1, h2⟩ := h.made hb hN hs he (hdp (makeE_z he).1)
    exact ⟨h1, h2, made_grows h (by have := hb.last; omega) he⟩
  · rw [makeR_n he]
    exact ⟨h, hb.mono (by omega), Grows.refl A⟩
end
theorem levels_row : ∀ (l : List Tr) (a : Int), a ≤ Tr.levelsRow l a ∧ ∀ x ∈ l, x.levels ≤ Tr.levelsRow l a := by
  intro l
  induction l with
  | nil => intro a; exact ⟨Int.le_refl _, by simp⟩
  | cons y r ih =>
    intro a
    simp only [Tr.levelsRow]
    obtain ⟨h1, h2⟩ := ih (gr a y.levels)
    have hg : a ≤ gr a y.levels ∧ y.levels ≤ gr a y.levels := by unfold gr; split <;> omega
    refine ⟨by omega, fun x hx => ?_⟩
    rcases List.mem_cons.1 hx with e | e
    · subst e; omega
    · exact h2 x e
theorem levels_pos (t : Tr) : 0 ≤ t.levels := by
  obtain ⟨n, k, e, d, kids⟩ := t
  simp only [Tr.levels]
  split
  · omega
  · have := (levels_row kids 0).1; omega
theorem levels_kid {t x : Tr} (hk : t.kind = 2) (hx : x ∈ t.kids) : x.levels + 1 ≤ t.levels := by
  obtain ⟨n, k, e, d, kids⟩ := t
  have hk : k = 2 := hk
  simp only [Tr.levels, Tr.kids] at *
  rw [if_neg (by simp [hk])]
  have := (levels_row kids 0).2 x hx
  omega
theorem levels_dir {t : Tr} (hk : t.kind = 2) : 1 ≤ t.levels := by
  obtain ⟨n, k, e, d, kids⟩ := t
  have hk : k = 2 := hk
  simp only [Tr.levels]
  rw [if_neg (by simp [hk])]
  have := (levels_row kids 0).1
  omega
theorem lay_eq (dir : Int) (name : ByteArray) (t : Tr) (A : AT) : AT.lay dir name t A = AT.layRow (A.makeR dir name t.kind (modeOf t.kind t.exec) t.data).1 t.kids ((A.makeR dir name t.kind (modeOf t.kind t.exec) t.data).2.1, (A.makeR dir name t.kind (modeOf t.kind t.exec) t.data).2.2) := by
  obtain ⟨n, k, e, d, kids⟩ := t
  rw [AT.lay]; rfl
theorem layRow_err (ino : Int) : ∀ (l : List Tr) (a : Int × AT), a.1 ≠ 0 → AT.layRow ino l a = a := by
  intro l
  induction l with
  | nil => intro a _; simp [AT.layRow]
  | cons x r ih => intro a h; rw [AT.layRow, if_neg h]; exact ih a h
/-- what a row of kids asks -/
def RowD (A : AT) (ino : Int) (l : List Tr) : Prop := (∃ n, A.get ino = some n) ∧ ∀ d, A.isDir ino → A.deep 12 ino = some d → ∀ x ∈ l, d + x.levels ≤ 12
theorem made_row {A : AT} {dir : Int} {name : ByteArray} {t : Tr} (hI : Inv A) (hl : A.last < 4611686018427387904) (he : A.makeE dir name t.kind (modeOf t.kind t.exec) t.data = 0) (hd : ∀ d, A.isDir dir → A.deep 12 dir = some d → d + t.levels ≤ 12) : RowD (A.made dir name t.kind (modeOf t.kind t.exec) t.data) (A.last + 1) t.kids := by
  have hp := hI.last_pos
  obtain ⟨⟨nd, hn, hn2⟩, _⟩ := makeE_z he
  have hG := made_get (name := name) (kind := t.kind) (mode := modeOf t.kind t.exec) (data := t.data) hI hl hn
  have hne : A.last + 1 ≠ dir := by have := (hI.low dir nd hn).2; omega
  have hg : (A.made dir name t.kind (modeOf t.kind t.exec) t.data).get (A.last + 1) = some (newN dir t.kind (modeOf t.kind t.exec) t.data) := by rw [hG, if_neg hne, if_pos rfl]
  refine ⟨⟨_, hg⟩, ?_⟩
  rintro d ⟨m, hm, hm2⟩ hdp x hx
  rw [hg] at hm; cases hm
  have hk : t.kind = 2 := hm2
  obtain ⟨d0, hd0⟩ := hI.deep dir ⟨nd, hn, hn2⟩
  have h1 := hd d0 ⟨nd, hn, hn2⟩ hd0
  have h2 := levels_kid hk hx
  have hgr := made_grows hI hl he
  unfold AT.deep at hdp
  rw [if_neg (by omega)] at hdp
  have hu : (A.made dir name t.kind (modeOf t.kind t.exec) t.data).upOf (A.last + 1) = dir := by
    unfold AT.upOf; rw [hg]; simp [newN, hk]
  have hx0 := levels_pos x
  rw [hu, hgr.deep hI 11 ⟨nd, hn, hn2⟩, deep_low hd0 11 (by omega)] at hdp
  simp only [Option.map_some, Option.some.injEq] at hdp
  omega
theorem made_deep {A : AT} {dir : Int} {t : Tr} (hI : Inv A) (hd : ∀ d, A.isDir dir → A.deep 12 dir = some d → d + t.levels ≤ 12) : A.isDir dir → t.kind = 2 → ∃ d, A.deep 11 dir = some d := by
  intro h1 h2
  obtain ⟨d0, hd0⟩ := hI.deep dir h1
  have := hd d0 h1 hd0
  have := levels_dir h2
  exact ⟨d0, deep_low hd0 11 (by omega)⟩
theorem RowD.next {A A' : AT} {ino : Int} {x : Tr} {l : List Tr} (hI : Inv A) (hg : Grows A A') (h : RowD A ino (x :: l)) : RowD A' ino l := by
  obtain ⟨⟨n, hn⟩, h2⟩ := h
  obtain ⟨m, hm, hk, _⟩ := hg.get ino n hn
  refine ⟨⟨m, hm⟩, ?_⟩
  rintro d ⟨m', hm', hk'⟩ hd y hy
  rw [hm] at hm'; cases hm'
  have hD : A.isDir ino := ⟨n, hn, by rw [← hk]; exact hk'⟩
  rw [hg.deep hI 12 hD] at hd
  exact h2 d hD hd y (List.mem_cons_of_mem _ hy)
theorem RowD.head {A : AT} {ino : Int} {x : Tr} {l : List Tr} (h : RowD A ino (x :: l)) : ∀ d, A.isDir ino → A.deep 12 ino = some d → d + x.levels ≤ 12 := fun d h1 h2 => h.2 d h1 h2 x (List.mem_cons_self ..)
theorem lay_ok : ∀ (t : Tr) (A : AT) (N : Nat) (dir : Int) (name : ByteArray), Inv A → Bd N A → N + t.total < 4611686018427387904 → (∀ d, A.isDir dir → A.deep 12 dir = some d → d + t.levels ≤ 12) →
    Inv (AT.lay dir name t A).2 ∧ Bd (N + t.total) (AT.lay dir name t A).2 ∧ Grows A (AT.lay dir name t A).2 := by
  refine Tr.ind ?_
  intro t ih A N dir name hI hB hN hd
  rw [lay_eq]
  have htot : 1 + t.data.size + Tr.totalRow t.kids ≤ t.total := by obtain ⟨n, k, e, d, kids⟩ := t; simp only [Tr.total, Tr.kids, Tr.data]; omega
  obtain ⟨h1, h2, h3⟩ := makeR_ok (dir := dir) (name := name) (kind := t.kind) (mode := modeOf t.kind t.exec) (data := t.data) hI hB (by omega) (by omega) (made_deep hI hd)
  by_cases he : A.makeE dir name t.kind (modeOf t.kind t.exec) t.data = 0
  case neg =>
    rw [makeR_n he] at h1 h2 h3 ⊢
    rw [layRow_err _ _ _ he]
    exact ⟨h1, h2.mono (by omega), h3⟩
  have hl : A.last < 4611686018427387904 := by have := hB.last; omega
  have hp := hI.last_pos
  have hrow := made_row hI hl he hd
  rw [makeR_z he, wr_id (by omega) (by omega)] at *
  simp only at *
  have key : ∀ (l : List Tr) (e : Int) (A1 : AT) (M : Nat), (∀ x ∈ l, x ∈ t.kids) → Inv A1 → Bd M A1 → M + Tr.totalRow l ≤ N + t.total → Grows A A1 → (e = 0 → RowD A1 (A.last + 1) l) → Inv (AT.layRow (A.last + 1) l (e, A1)).2 ∧ Bd (N + t.total) (AT.layRow (A.last + 1) l (e, A1)).2 ∧ Grows A (AT.layRow (A.last + 1) l (e, A1)).2 := by
    intro l
    induction l with
    | nil => intro e A1 M _ a1 a2 a3 a4 _; simp only [AT.layRow]; exact ⟨a1, a2.mono (by simp only [Tr.totalRow] at a3; omega), a4⟩
    | cons x r ihl =>
      intro e A1 M hx a1 a2 a3 a4 a5
      simp only [Tr.totalRow] at a3
      rw [AT.layRow]
      by_cases he1 : e = 0
      · rw [if_pos he1]
        obtain ⟨b1, b2, b3⟩ := ih x (hx x (List.mem_cons_self ..)) A1 M (A.last + 1) x.name a1 a2 (by omega) (a5 he1).head
        exact ihl _ _ (M + x.total) (fun y hy => hx y (List.mem_cons_of_mem _ hy)) b1 b2 (by omega) (a4.trans b3) (fun _ => (a5 he1).next a1 b3)
      · rw [if_neg he1, layRow_err _ _ _ he1]
        exact ⟨a1, a2.mono (by omega), a4⟩
  exact key t.kids 0 _ (N + 1) (fun _ h => h) h1 h2 (by omega) h3 (fun _ => hrow)
end Go.Wk

/- A FILE SYSTEM: laying trees; paths from the root. -/
set_option maxRecDepth 100000
namespace Go.Proofs.YtlpcehbfoogejaaGreatDoor
open Go Go.HL Go.Wk
attribute [local irreducible] ptrW ifW brW andW rdT alW letJ stW muW biW vaW imW callT cvalT app callW invW callVW sizeT oW nilF oneK loopW rfW funW begW roundK exW idxW Gr Put
/-- a part of memory that lies beside a file system -/
def Off (τ σ : H) (B : Nat → Prop) : Prop := Gr τ σ ∧ ∀ b o, τ b = some o → ¬ B b
theorem Off.sep {τ σ σ' : H} {B B' : Nat → Prop} (h : Off τ σ B) (hs : Sep σ B σ' B') : Off τ σ' B' := by
  obtain ⟨h1, h2⟩ := h
  refine ⟨?_, fun b o hb => (hs b o (h1.get hb) (h2 b o hb)).2⟩
  unfold Gr
  intro b o hb
  exact (hs b o (h1.get hb) (h2 b o hb)).1
theorem Off.gr {τ σ σ' : H} {B : Nat → Prop} (h : Off τ σ B) (hg : Gr σ σ') : Off τ σ' B := ⟨h.1.trans hg, h.2⟩
theorem Off.get {τ σ : H} {B : Nat → Prop} (h : Off τ σ B) {b : Nat} {o : Obj} (hb : τ b = some o) : σ b = some o := h.1.get hb
theorem Off.sub {τ τ' σ : H} {B : Nat → Prop} (h : Off τ σ B) (hg : Gr τ' τ) : Off τ' σ B := ⟨hg.trans h.1, fun b o hb => h.2 b o (hg.get hb)⟩
theorem Off.put {τ σ σ' : H} {B : Nat → Prop} {b : Nat} {o : Obj} (h : Off τ σ B) (hp : Put σ b o σ') (hn : τ b = none) : Off τ σ' B := ⟨h.1.putF hp hn, h.2⟩
/-- what was made since lies beside, too -/
theorem Off.add {τ σ : H} {B : Nat → Prop} {b : Nat} {o : Obj} (h : Off τ σ B) (hb : σ b = some o) (hn : ¬ B b) : Off (τ.put b o) σ B := by
  refine ⟨?_, ?_⟩
  · unfold Gr
    intro c oc hc
    by_cases e : c = b
    · subst e; rw [H.put_same] at hc; cases hc; exact hb
    · rw [H.put_other _ _ e] at hc; exact h.1.get hc
  · intro c oc hc
    by_cases e : c = b
    · subst e; exact hn
    · rw [H.put_other _ _ e] at hc; exact h.2 c oc hc
theorem levels_total : ∀ t : Tr, t.levels ≤ t.total := by
  refine Tr.ind ?_
  intro t ih
  obtain ⟨n, k, e, d, kids⟩ := t
  have key : ∀ (l : List Tr) (a : Int) (M : Nat), (∀ x ∈ l, x.levels ≤ x.total) → a ≤ M → Tr.levelsRow l a ≤ M + Tr.totalRow l := by
    intro l
    induction l with
    | nil => intro a M _ h; simp only [Tr.levelsRow, Tr.totalRow]; omega
    | cons x r ihl =>
      intro a M hx h
      simp only [Tr.levelsRow, Tr.totalRow]
      have h1 := hx x (List.mem_cons_self ..)
      have := ihl (Wk.gr a x.levels) (M + x.total) (fun y hy => hx y (List.mem_cons_of_mem _ hy)) (by unfold Wk.gr; split <;> omega)
      omega
  have := key kids 0 0 ih (by omega)
  simp only [Tr.levels, Tr.total]
  split <;> omega
theorem s_levelsN : ∀ (t : Tr) (y : Sl) {σ : H}, SlAt σ t.kids y → t.total ≤ 1000000000000000 → ∀ {K : Value → H → Prop}, K (.int .i64 t.levels) σ → callW Tryz.prog 59 [.agg ⟨trC t y⟩] K σ := by
  refine Tr.ind (P := fun t => ∀ (y : Sl) {σ : H}, SlAt σ t.kids y → t.total ≤ 1000000000000000 → ∀ {K : Value → H → Prop}, K (.int .i64 t.levels) σ → callW Tryz.prog 59 [.agg ⟨trC t y⟩] K σ) ?_
  intro t ih y σ hs hT K hK
  refine pure_i _ hK (c59 _ _ _ _ _ ?_)
  clear hK
  unfold g59
  refine al_i ?_; intro b6 σ1 g1 e1 n1
  have hlv : t.levels = if t.kind ≠ 2 then 0 else Tr.levelsRow t.kids 0 + 1 := by obtain ⟨n, k, e, d, kids⟩ := t; rw [Tr.levels]; rfl
  have hT1 := kids_total t
  have hbd := levels_total t
  refine rd_I (rdC_of e1 (by rfl)) ?_
  by_cases hk : t.kind = 2
  case neg => rw [hlv, if_pos hk]; exact br_t (by simpa using hk) ⟨rfl, g1⟩
  rw [if_neg (by simpa using hk)] at hlv
  rw [hlv] at hbd ⊢
  refine br_f (by simpa using hk) (rd_L (rdC_of e1 (by rfl)) ?_)
  refine loop_i ?_
  intro R hR
  have key : ∀ (l : List Tr) (i : Nat) (a : Int) (τ : H), t.kids.drop i = l → Gr σ τ → Tr.levelsRow t.kids 0 = Tr.levelsRow l a → 0 ≤ a → R a y ((y.len : Nat) : Int) (i : Int) τ := by
    intro l
    induction l with
    | nil =>
      intro i a τ hd hg he h1
      have hge : t.kids.length ≤ i := by simpa using hd
      simp only [Tr.levelsRow] at he
      refine hR _ _ _ _ _ ?_
      refine br_f (by rw [hs.1]; simp only [decide_eq_false_iff_not]; omega) ⟨?_, hg⟩
      rw [wrap_id (by omega) (by omega), he]
    | cons x r ihl =>
      intro i a τ hd hg he h1
      obtain ⟨hx, hlt, hd'⟩ := drop_get hd
      obtain ⟨g, o, z, hb, hrd, hz⟩ := kid_rd (hs.gr hg) hx
      simp only [Tr.levelsRow] at he
      refine hR _ _ _ _ _ ?_
      refine br_t (by rw [hs.1]; simp only [decide_eq_true_eq]; omega) ?_
      rw [hb]
      refine ptr_i (if_i ⟨by omega, by rw [hs.1]; omega⟩ ?_)
      have hrd' : rdA 5 g (o + (i : Int).toNat * 5) τ = some (.agg ⟨trC x z⟩) := by simpa using hrd
      refine rd_G hrd' ?_
      unfold trC
      (refine app_of rfl ?_; try dsimp only)
      refine al_i ?_; intro b28 τ1 g2 e2 n2
      refine st_i2 e2 sz_Node (by rfl) (by rfl) ?_; intro τ2 p2
      have hg2 : Gr τ τ2 := g2.putF p2 n2
      refine rd_G (rdA_of' p2.same (by rfl)) ?_
      (refine app_of rfl ?_; try dsimp only)
      refine call_i (ih x (List.mem_of_getElem? hx) z (hz.gr hg2) (by have := kid_total hx; omega) (app_I ?_))
      rw [wrap_id (x := (i : Int) + 1) (by omega) (by omega)]
      exact ihl (i + 1) _ τ2 hd' (hg.trans hg2) he (by split <;> omega)
  exact key t.kids 0 0 σ1 rfl g1 rfl (by omega)
theorem und_MII : Tryz.prog.underlying 154 = some (.map 3 3) := by kernel_rfl
/-- lay -/
theorem s_lay : ∀ (t : Tr) (y : Sl) {A : AT} {N : Nat} {σ τ : H} {bf : Nat} {B : Nat → Prop} (dir : Int) (name : ByteArray), Inv A → Bd N A → N + t.total ≤ 1000000000000 → (∀ d, A.isDir dir → A.deep 12 dir = some d → d + t.levels ≤ 12) → FsAt σ bf A B → Off τ σ B → SlAt τ t.kids y → ∀ {K : Value → H → Prop},
    (∀ σ' B', FsAt σ' bf (AT.lay dir name t A).2 B' → Sep σ B σ' B' → K (.int .i64 (AT.lay dir name t A).1) σ') →
    callW Tryz.prog 60 [.pointer (some ⟨bf, 0, none⟩), .int .i64 dir, .string name, .agg ⟨trC t y⟩] K σ := by
  refine Tr.ind (P := fun t => ∀ (y : Sl) {A : AT} {N : Nat} {σ τ : H} {bf : Nat} {B : Nat → Prop} (dir : Int) (name : ByteArray), Inv A → Bd N A → N + t.total ≤ 1000000000000 → (∀ d, A.isDir dir → A.deep 12 dir = some d → d + t.levels ≤ 12) → FsAt σ bf A B → Off τ σ B → SlAt τ t.kids y → ∀ {K : Value → H → Prop},
    (∀ σ' B', FsAt σ' bf (AT.lay dir name t A).2 B' → Sep σ B σ' B' → K (.int .i64 (AT.lay dir name t A).1) σ') →
    callW Tryz.prog 60 [.pointer (some ⟨bf, 0, none⟩), .int .i64 dir, .string name, .agg ⟨trC t y⟩] K σ) ?_
  intro t ih y A N σ τ bf B dir name hI hB hN hd hF hO hs K hK
  refine c60 _ _ _ _ _ _ _ _ ?_
  unfold g60
  rw [lay_eq] at hK
  have hT1 := kids_total t
  have htot : 1 + t.data.size + Tr.totalRow t.kids ≤ t.total := by obtain ⟨n, k, e, d, kids⟩ := t; simp only [Tr.total, Tr.kids, Tr.data]; omega
  refine al_i ?_; intro b9 σ1 g1 e1 n1
  refine al_i ?_; intro b10 σ2 g2 e2 n2
  have n910 : b9 ≠ b10 := ne_fr n2 (isSome_of e1)
  have f10 : σ b10 = none := none_of g1 n2
  have m0 : MapAt σ2 b10 (encL kkI valI []) := MapAt.new e2
  refine mu_i (kk := kkI) (f := valI) und_MII und_int m0 1 420 ?_
  intro o1 σ3 p3 m1
  refine mu_i (kk := kkI) (f := valI) und_MII und_int m1 2 493 ?_
  intro o2 σ4 p4 m2
  refine mu_i (kk := kkI) (f := valI) und_MII und_int m2 3 511 ?_
  intro o3 σ5 p5 m3
  have hg5 : Lng σ σ5 := ⟨(((g1.trans g2).putF p3 f10).putF p4 f10).putF p5 f10⟩
  have k9 := p5.get n910 (p4.get n910 (p3.get n910 (g2.get e1)))
  clear p3 p4 p5 m0 m1 m2 e2
  refine rd_I (rdC_of k9 (by rfl)) ?_
  have hv : ((lk t.kind (up 3 511 (up 2 493 (up 1 420 ([] : List (Int × Int)))))).map valI).getD (.int .i64 0) = .int .i64 ((lk t.kind [((1 : Int), (420 : Int)), (2, 493), (3, 511)]).getD 0) := by
    show ((lk t.kind [((1 : Int), (420 : Int)), (2, 493), (3, 511)]).map valI).getD (.int .i64 0) = _
    cases lk t.kind [((1 : Int), (420 : Int)), (2, 493), (3, 511)] <;> rfl
  have hr := rdM_at (kk := kkI) m3 (.int .i64 0) false t.kind
  refine rd_I (n := (lk t.kind [((1 : Int), (420 : Int)), (2, 493), (3, 511)]).getD 0) (by rw [← hv]; exact hr) ?_
  have hF5 := hF.gr hg5.gr
  have hO5 := hO.gr hg5.gr
  refine j_i (fun j => j (some ⟨bf, 0, none⟩) dir name (some ⟨b9, 0, none⟩) (modeOf t.kind t.exec) σ5) ?_ ?_
  case refine_2 =>
    intro j hj
    refine rd_B (rdC_of k9 (by rfl)) ?_
    unfold modeOf at hj
    cases hx : t.exec with
    | true => rw [hx] at hj; exact br_t rfl hj
    | false => rw [hx] at hj; exact br_f rfl hj
  obtain ⟨bt, B0, q1, q2, q3, q4⟩ := id hF5
  refine ptr_i (rd_P (rdC_of q1 (by rfl)) (ptr_i (rd_I (rdC_of k9 (by rfl)) (ptr_i (rd_S (rdC_of k9 (by rfl)) ?_)))))
  have hmk := makeR_ok (dir := dir) (name := name) (kind := t.kind) (mode := modeOf t.kind t.exec) (data := t.data) hI hB (by omega) (by omega) (made_deep hI hd)
  refine call_i (f_Make hI hB (by omega) q1 q2 q3 q4 _ _ _ _ _ ?_)
  intro σ6 B6 hF6 hS6
  refine app_II ?_
  have f9 : ¬ B b9 := hF.fresh n1
  have k9' := (hS6 b9 _ k9 f9).1
  refine ptr_i (rd_L (rdC_of k9' (by rfl)) ?_)
  have hS6' : Sep σ B σ6 B6 := hS6.of_gr hg5.gr
  have hO6 := hO5.sep hS6
  have hRD : (A.makeR dir name t.kind (modeOf t.kind t.exec) t.data).2.1 = 0 → RowD (A.makeR dir name t.kind (modeOf t.kind t.exec) t.data).2.2 (A.makeR dir name t.kind (modeOf t.kind t.exec) t.data).1 t.kids := by
    intro he
    by_cases he' : A.makeE dir name t.kind (modeOf t.kind t.exec) t.data = 0
    · have hl := hB.last
      have hp := hI.last_pos
      rw [makeR_z he', wr_id (by omega) (by omega)]
      exact made_row hI (by omega) he' hd
    · rw [makeR_n he'] at he; exact absurd he he'
  generalize A.makeR dir name t.kind (modeOf t.kind t.exec) t.data = m at *
  obtain ⟨ino, e0, A0⟩ := m
  simp only at *
  refine loop_i ?_
  intro R hR
  have key : ∀ (l : List Tr) (i : Nat) (e : Int) (A1 : AT) (M : Nat) (σ7 : H) (B7 : Nat → Prop), t.kids.drop i = l → Inv A1 → Bd M A1 → M + Tr.totalRow l ≤ N + t.total → (e = 0 → RowD A1 ino l) → FsAt σ7 bf A1 B7 → Sep σ B σ7 B7 → Off τ σ7 B7 → AT.layRow ino t.kids (e0, A0) = AT.layRow ino l (e, A1) → R (some ⟨bf, 0, none⟩) ino e y ((y.len : Nat) : Int) (i : Int) σ7 := by
    intro l
    induction l with
    | nil =>
      intro i e A1 M σ7 B7 hd' a1 a2 a3 a4 a5 a6 a7 a8
      have hge : t.kids.length ≤ i := by simpa using hd'
      simp only [AT.layRow] at a8
      rw [a8] at hK
      refine hR _ _ _ _ _ _ _ ?_
      exact br_f (by rw [hs.1]; simp only [decide_eq_false_iff_not]; omega) (hK σ7 B7 a5 a6)
    | cons x r ihl =>
      intro i e A1 M σ7 B7 hd' a1 a2 a3 a4 a5 a6 a7 a8
      obtain ⟨hx, hlt, hd''⟩ := drop_get hd'
      obtain ⟨g, o, z, hb, hrd0, hzz⟩ := kid_rd hs hx
      have hrd := rdA_gr a7.1 hrd0
      rw [AT.layRow] at a8
      simp only [Tr.totalRow] at a3
      refine hR _ _ _ _ _ _ _ ?_
      refine br_t (by rw [hs.1]; simp only [decide_eq_true_eq]; omega) ?_
      refine j_i (fun j => ∀ e' A2 M2 σ8 B8, (if e = 0 then AT.lay ino x.name x A1 else (e, A1)) = (e', A2) → Inv A2 → Bd M2 A2 → M2 + Tr.totalRow r ≤ N + t.total → (e' = 0 → RowD A2 ino r) → FsAt σ8 bf A2 B8 → Sep σ B σ8 B8 → Off τ σ8 B8 → j (some ⟨bf, 0, none⟩) ino e' y ((y.len : Nat) : Int) (i : Int) σ8) ?_ ?_
      · intro e' A2 M2 σ8 B8 he' c1 c2 c3 c4 c5 c6 c7
        rw [wrap_id (x := (i : Int) + 1) (by omega) (by omega)]
        rw [he'] at a8
        exact ihl (i + 1) e' A2 M2 σ8 B8 hd'' c1 c2 c3 c4 c5 c6 c7 a8
      · intro j hj
        rw [hb]
        refine ptr_i (if_i ⟨by omega, by rw [hs.1]; omega⟩ ?_)
        have hrd' : rdA 5 g (o + (i : Int).toNat * 5) σ7 = some (.agg ⟨trC x z⟩) := by simpa using hrd
        refine rd_G hrd' ?_
        unfold trC
        (refine app_of rfl ?_; try dsimp only)
        refine al_i ?_; intro b54 σ8 g8 e8 n8
        refine st_i2 e8 sz_Node (by rfl) (by rfl) ?_; intro σ9 p9
        have hg9 : Gr σ7 σ9 := g8.putF p9 n8
        have k54 := p9.same
        have hF9 := a5.gr hg9
        have hO9 := a7.gr hg9
        have hS9 : Sep σ B σ9 B7 := a6.trans (Sep.gr hg9)
        clear p9 e8 hrd hrd'
        by_cases he1 : e = 0
        · refine br_t (by simpa using he1) (rd_S (rdC_of k54 (by rfl)) (rd_G (rdA_of' k54 (by rfl)) ?_))
          (refine app_of rfl ?_; try dsimp only)
          obtain ⟨b1, b2, b3⟩ := lay_ok x A1 M ino x.name a1 a2 (by omega) (a4 he1).head
          refine call_i (ih x (List.mem_of_getElem? hx) z ino x.name a1 a2 (by omega) (a4 he1).head hF9 hO9 hzz ?_)
          intro σ10 B10 hF10 hS10
          refine app_I (hj _ _ (M + x.total) σ10 B10 (by rw [if_pos he1]) b1 b2 (by omega) (fun _ => (a4 he1).next a1 b3) hF10 (hS9.trans hS10) (hO9.sep hS10))
        · refine br_f (by simpa using he1) (hj e A1 M σ9 B7 (by rw [if_neg he1]) a1 a2 (by omega) (fun h => absurd h he1) hF9 hS9 hO9)
  exact key t.kids 0 e0 A0 (N + 1) σ6 B6 rfl hmk.1 hmk.2.1 (by omega) hRD hF6 hS6' hO6 rfl
end Go.Proofs.YtlpcehbfoogejaaGreatDoor

/- A FILE SYSTEM: Lay, Real. -/
set_option maxRecDepth 100000
namespace Go.Proofs.YtlpcehbfoogejaaGreatDoor
open Go Go.HL Go.Wk
attribute [local irreducible] ptrW ifW brW andW rdT alW letJ stW muW biW vaW imW callT cvalT app callW invW callVW sizeT oW nilF oneK loopW rfW funW begW roundK exW idxW Gr Put
theorem go_LayF1 : isGo Tryz.prog 56 = true := by kernel_rfl
theorem sizeT_le (t : Tr) : 0 ≤ t.sizeT.1 ∧ 0 ≤ t.sizeT.2 ∧ t.sizeT.1 + t.sizeT.2 ≤ t.total := by
  unfold Tr.sizeT
  have := Tr.size_le t
  split
  · simp
  · omega
/-- Lay -/
theorem s_Lay (t : Tr) (y : Sl) {A : AT} {N : Nat} {σ τ : H} {bf : Nat} {B : Nat → Prop} (path : ByteArray) (hI : Inv A) (hB : Bd N A) (hN : N + t.total ≤ 1000000000000) (hF : FsAt σ bf A B) (hO : Off τ σ B) (hs : SlAt τ t.kids y) {K : Value → H → Prop}
    (hK : ∀ σ' B', FsAt σ' bf (A.layF path t).2 B' → Sep σ B σ' B' → K (.int .i64 (A.layF path t).1) σ') :
    callW Tryz.prog 17 [.pointer (some ⟨bf, 0, none⟩), .string path, .agg ⟨trC t y⟩] K σ := by
  refine c17 _ _ _ _ _ _ _ ?_
  unfold g17
  unfold AT.layF at hK
  simp only at hK
  refine al_i ?_; intro b8 σ1 g1 e1 n1
  refine al_i ?_; intro b9 σ2 g2 e2 n2
  have hg2 : Lng σ σ2 := ⟨g1.trans g2⟩
  have hF2 := hF.gr hg2.gr
  have hO2 := hO.gr hg2.gr
  have k8 := g2.get e1
  refine rd_P (rdC_of k8 (by rfl)) ?_
  refine call_i (s_none hF2 (app_B (br_f rfl ?_)))
  refine rd_G (rdA_of' e2 (by rfl)) ?_
  (refine app_of rfl ?_; try dsimp only)
  refine call_i (s_Check t y (hs.gr hO2.1) (by omega) (app_I ?_))
  by_cases hc : t.check = 0
  case neg =>
    rw [if_pos hc] at hK
    exact br_t (by simpa using hc) (hK σ2 B hF2 (Sep.gr hg2.gr))
  rw [if_neg (by simpa using hc)] at hK
  refine br_f (by simpa using hc) (rd_P (rdC_of k8 (by rfl)) ?_)
  refine call_i (s_fresh hF2 _ path _ ?_ ?_)
  · intro he σ3 g3
    refine app_I ?_
    rw [if_pos he] at hK
    exact hK σ3 B (hF2.gr g3) (Sep.gr (hg2.gr.trans g3))
  · intro he σ3 g3
    rw [if_neg (by simpa using he)] at hK
    obtain ⟨⟨hd, hp⟩, ht⟩ := freshP_ok hI he
    generalize (A.freshP ⟨⟨[47]⟩⟩ path).2 = p at *
    unfold plC
    refine cval_i go_LayF1 (c56 _ _ _ _ _ _ ?_)
    unfold g56
    refine al_i ?_; intro b7 σ4 g4 e4 n4
    have hg4 : Lng σ σ4 := ⟨(hg2.gr.trans g3).trans g4⟩
    have k8' := (g3.trans g4).get k8
    have k9' := (g3.trans g4).get e2
    have hF4 := hF.gr hg4.gr
    have hO4 := hO.gr hg4.gr
    refine ptr_i (rd_G (rdA_of' k9' (by rfl)) ?_)
    (refine app_of rfl ?_; try dsimp only)
    refine call_i (s_tSize t y (hs.gr hO4.1) (by omega) (app_II ?_))
    obtain ⟨bt, B0, q1, q2, q3, q4⟩ := id hF4
    refine ptr_i (rd_P (rdC_of k8' (by rfl)) (ptr_i (rd_P (rdC_of k8' (by rfl)) (ptr_i (rd_P (rdC_of q1 (by rfl)) ?_)))))
    refine call_i (s_Used hF4 ?_)
    (refine app_of rfl ?_; try dsimp only)
    refine and_i (rdC_of q1 (by rfl)) (and_i (rdC_of k8' (by rfl)) ?_)
    refine call_i (t_Quota q2 ?_)
    (refine app_of rfl ?_; try dsimp only)
    refine al_i ?_; intro b30 σ5 g5 e5 n5
    refine al_i ?_; intro b31 σ6 g6 e6 n6
    have n3031 : b30 ≠ b31 := ne_fr n6 (isSome_of e5)
    have k30 := g6.get e5
    refine st_i2 k30 sz_Quota (by rfl) (by rfl) ?_; intro σ7 p7
    have k31 := p7.get n3031.symm e6
    refine st_i2 k31 sz_Quota (by rfl) (by rfl) ?_; intro σ8 p8
    have f30 : σ4 b30 = none := n5
    have f31 : σ4 b31 = none := none_of g5 n6
    have hg48 : Lng σ4 σ8 := ⟨((g5.trans g6).putF p7 f30).putF p8 f31⟩
    have h30 := p8.get n3031 p7.same
    have h31 := p8.same
    clear p7 p8 k30 k31 e5 e6
    have hg8 : Lng σ σ8 := ⟨hg4.gr.trans hg48.gr⟩
    have hF8 := hF.gr hg8.gr
    have hO8 := hO.gr hg8.gr
    have h8 := hg48.gr.get k8'
    have h9 := hg48.gr.get k9'
    have h7 := hg48.gr.get e4
    refine ptr_i (rd_P (rdC_of h8 (by rfl)) (rd_I (rdC_of h7 (by rfl)) (ptr_i (rd_G (rdA_of' h9 (by rfl)) ?_))))
    (refine app_of rfl ?_; try dsimp only)
    obtain ⟨d, hd13, hd12, hd1, hd2⟩ := hI.deep13 hd
    rw [hd13] at hK
    simp only [Option.getD_some] at hK
    refine call_i (s_deep hF8 hd13 (by decide) (app_I ?_))
    refine and_i (rdA_of' h9 (by rfl)) ?_
    refine call_i (s_levelsN t y (hs.gr hO8.1) (by omega) (app_I ?_))
    have hlv := levels_total t
    have hl0 := levels_pos t
    rw [wrap_id (x := d + t.levels) (by omega) (by omega)]
    by_cases hdl : d + t.levels > 12
    · rw [if_pos hdl] at hK
      exact br_t (by simpa using hdl) (app_I (app_I (hK σ8 B hF8 (Sep.gr hg8.gr))))
    rw [if_neg hdl] at hK
    refine br_f (by simpa using hdl) ?_
    have hsz := sizeT_le t
    have hu1 := hI.ui_pos
    have hu2 := hI.ub_pos
    have hq1 := hI.uq
    have hq2 := hI.bq
    refine j_i (fun j => ∀ b : Bool, (b = true ↔ A.ui + t.sizeT.1 > A.qi ∨ A.ub + t.sizeT.2 > A.qb) → j (some ⟨b9, 0, none⟩) (some ⟨b8, 0, none⟩) (some ⟨b7, 0, none⟩) b σ8) ?_ ?_
    · intro b hb
      cases b with
      | true =>
        rw [if_pos (hb.1 rfl)] at hK
        exact br_t rfl (app_I (app_I (hK σ8 B hF8 (Sep.gr hg8.gr))))
      | false =>
        rw [if_neg (fun h => by have := hb.2 h; cases this)] at hK
        refine br_f rfl (ptr_i (rd_P (rdC_of h8 (by rfl)) (ptr_i (rd_I (rdC_of h7 (by rfl)) (ptr_i (rd_S (rdC_of h7 (by rfl)) (ptr_i (rd_G (rdA_of' h9 (by rfl)) ?_))))))))
        (refine app_of rfl ?_; try dsimp only)
        refine call_i (s_lay t y p.dir p.name hI hB hN ?_ hF8 hO8 hs ?_)
        · intro d' _ hd'
          rw [hd12] at hd'; cases hd'; omega
        · intro σ9 B9 hF9 hS9
          exact app_I (app_I (app_I (hK σ9 B9 hF9 (hS9.of_gr hg8.gr))))
    · intro j hj
      refine rd_I (rdC_of h30 (by rfl)) (rd_I (rdC_of h31 (by rfl)) ?_)
      rw [wrap_id (x := A.ui + t.sizeT.1) (by omega) (by omega)]
      by_cases h1 : A.ui + t.sizeT.1 > A.qi
      · exact br_t (by simpa using h1) (hj true (by simp [h1]))
      · refine br_f (by simpa using h1) (rd_I (rdC_of h30 (by rfl)) (rd_I (rdC_of h31 (by rfl)) ?_))
        rw [wrap_id (x := A.ub + t.sizeT.2) (by omega) (by omega)]
        exact hj _ (by simp [h1])
theorem StrSl.at {σ : H} {x : Sl} {l : List ByteArray} (h : StrSl σ x l) {i : Nat} {s : ByteArray} (hi : l[i]? = some s) : ∃ g cur, x.base = some ⟨g, 0, none⟩ ∧ σ g = some (.cells ⟨cur⟩ 9 (0, 0)) ∧ cur[i]? = some (.string s) := by
  obtain ⟨h1, h2 | ⟨g, cur, e1, e2, e3⟩⟩ := h
  · subst h2; simp at hi
  · refine ⟨g, cur, e1, e2, ?_⟩
    have hlt : i < l.length := by
      rcases Nat.lt_or_ge i l.length with h | h
      · exact h
      · rw [List.getElem?_eq_none h] at hi; cases hi
    have : (cur.take l.length)[i]? = some (.string s) := by rw [e3]; simp [hi]
    rw [List.getElem?_take_of_lt hlt] at this
    exact this
theorem names_len {A : AT} {d : Int} {N : Nat} (hB : Bd N A) : (A.names d).length ≤ N := by
  unfold AT.names
  cases hn : A.get d with
  | none => simp
  | some n =>
    have := hB.ents d n hn
    simp only [sortN, List.length_map]
    rw [(sortB_perm _).length_eq]
    simp [keysL]; omega
theorem names_mem {A : AT} (hI : Inv A) {d : Int} {s : ByteArray} (h : s ∈ A.names d) : ∃ j, A.find d s = some j := by
  unfold AT.names at h
  cases hn : A.get d with
  | none => rw [hn] at h; simp at h
  | some n =>
    rw [hn] at h
    simp only [sortN, List.mem_map] at h
    obtain ⟨l, hl, rfl⟩ := h
    have := (sortB_perm _).mem_iff.1 hl
    obtain ⟨k, hk, rfl⟩ := List.mem_map.1 this
    show ∃ j, A.find d k = some j
    unfold AT.find; rw [hn]
    cases hlk : lk k n.ents with
    | some j => exact ⟨j, hlk⟩
    | none => exact absurd hk (lk_none_iff.1 hlk)
theorem names_size {A : AT} (hI : Inv A) {d : Int} {s : ByteArray} (h : s ∈ A.names d) : s.size ≤ 56 := by
  obtain ⟨j, hj⟩ := names_mem hI h
  obtain ⟨n, hn, _, hl, _⟩ := hI.find hj
  exact namedE_size (hI.ent d n s j hn hl).1
/-- Real -/
theorem s_Real {A : AT} {N : Nat} {σ : H} {bf : Nat} {B : Nat → Prop} (hI : Inv A) (hB : Bd N A) (hN : N ≤ 1000000000000) (hF : FsAt σ bf A B) (cwd path : ByteArray) {K : Value → H → Prop}
    (hK : K (.tuple ⟨[.string (A.realF cwd path).2, .int .i64 (A.realF cwd path).1]⟩) σ) :
    callW Tryz.prog 48 [.pointer (some ⟨bf, 0, none⟩), .string cwd, .string path] K σ := by
  generalize hres : A.realF cwd path = res at hK
  unfold AT.realF at hres
  refine pure_i _ hK (c48 _ _ _ ?_)
  clear hK
  unfold g48
  refine call_i (s_locate hF cwd path true ?_)
  have hpl := locate_place hI cwd path true
  generalize A.locate cwd path true = r at hres hpl
  obtain ⟨re, p⟩ := r
  simp only at hres hpl
  unfold plC
  (refine app_of rfl ?_; try dsimp only)
  refine al_i ?_; intro b9 σ1 g1 e1 n1
  refine st_i2 e1 sz_place (by rfl) (by rfl) ?_; intro σ2 p2
  have hg2 : Lng σ σ2 := ⟨g1.putF p2 n1⟩
  have hF2 := hF.gr hg2.gr
  have k := p2.same
  clear p2
  by_cases he : re = 0
  case neg =>
    rw [if_pos he] at hres
    exact br_t (by simpa using he) ⟨by rw [← hres], hg2.gr⟩
  subst he
  simp only [ne_eq, not_true_eq_false, if_false] at hres
  refine br_f rfl (rd_B (rdC_of k (by rfl)) ?_)
  have hpl := hpl rfl
  cases hth : p.there with
  | false => rw [hth] at hres; exact br_t rfl ⟨by rw [← hres]; rfl, hg2.gr⟩
  | true =>
    rw [hth] at hres
    simp only [Bool.true_eq_false, if_false] at hres
    refine br_f rfl (rd_I (rdC_of k (by rfl)) ?_)
    refine j_i (fun j => ∀ (out : ByteArray) (dir : Int), A.isDir dir → out.size ≤ 100 → res = (0, if sEq (A.realUp 13 dir out) ⟨⟨[]⟩⟩ then ⟨⟨[47]⟩⟩ else A.realUp 13 dir out) → j (some ⟨bf, 0, none⟩) out dir σ2) ?_ ?_
    · intro out dir hdir hos hr
      refine loop_i ?_
      intro R hR
      have key : ∀ (f : Nat) (dir : Int) (out : ByteArray) (τ : H), A.isDir dir → (A.deep f dir).isSome = true → out.size + f * (60 * N) ≤ 1000000000000000 → Gr σ τ → res = (0, if sEq (A.realUp f dir out) ⟨⟨[]⟩⟩ then ⟨⟨[47]⟩⟩ else A.realUp f dir out) → R (some ⟨bf, 0, none⟩) out dir τ := by
        intro f
        induction f with
        | zero => intro dir out τ _ hd; simp [AT.deep] at hd
        | succ f ihf =>
          intro dir out τ hdir hd hsz hg hr
          have hFt := hF.gr hg
          obtain ⟨bt, B0, q1, q2, q3, q4⟩ := id hFt
          refine hR _ _ _ _ ?_
          refine ptr_i (rd_P (rdC_of q1 (by rfl)) (call_i (s_Root _ (app_I ?_))))
          unfold AT.realUp at hr
          by_cases hd1 : dir = 1
          · rw [if_pos hd1] at hr
            refine br_f (by simpa using hd1) ?_
            refine j_i (fun j => j (if sEq out ⟨⟨[]⟩⟩ then ⟨⟨[47]⟩⟩ else out) τ) ⟨by rw [hr], hg⟩ ?_
            intro j hj
            rw [sEq_eq] at hj
            cases hso : strEq out ⟨⟨[]⟩⟩ with
            | true => rw [hso] at hj; exact br_t rfl hj
            | false => rw [hso] at hj; exact br_f rfl hj
          rw [if_neg hd1] at hr
          refine br_t (by simpa using hd1) (ptr_i (rd_P (rdC_of q1 (by rfl)) (call_i (t_Up q2 _ (app_I ?_)))))
          refine ptr_i (rd_P (rdC_of q1 (by rfl)) (call_i (s_Names q2 _ (names_ok hI hB hN _) ?_)))
          intro x τ1 g1' hx
          refine app_L ?_
          have hdu : (A.deep f (A.upOf dir)).isSome = true := by
            unfold AT.deep at hd
            rw [if_neg hd1] at hd
            cases hq : A.deep f (A.upOf dir) with
            | none => rw [hq] at hd; cases hd
            | some _ => rfl
          have hnl := names_len (d := A.upOf dir) hB
          refine loop_i ?_
          intro R2 hR2
          have key2 : ∀ (l : List ByteArray) (i : Nat) (out : ByteArray), (A.names (A.upOf dir)).drop i = l → out.size + l.length * 60 + f * (60 * N) ≤ 1000000000000000 → res = (0, if sEq (A.realUp f (A.upOf dir) (l.foldl (fun o n => if (A.find (A.upOf dir) n).getD 0 = dir then (⟨⟨[47]⟩⟩ ++ n) ++ o else o) out)) ⟨⟨[]⟩⟩ then ⟨⟨[47]⟩⟩ else A.realUp f (A.upOf dir) (l.foldl (fun o n => if (A.find (A.upOf dir) n).getD 0 = dir then (⟨⟨[47]⟩⟩ ++ n) ++ o else o) out)) → R2 (some ⟨bf, 0, none⟩) out dir (A.upOf dir) x ((x.len : Nat) : Int) (i : Int) τ1 := by
            intro l
            induction l with
            | nil =>
              intro i out hd' hsz' hr'
              have hge : (A.names (A.upOf dir)).length ≤ i := by simpa using hd'
              refine hR2 _ _ _ _ _ _ _ _ ?_
              refine br_f (by rw [hx.1]; simp only [decide_eq_false_iff_not]; omega) ?_
              exact ihf _ _ τ1 (hI.isDir_up hdir) hdu (by simp only [List.length_nil] at hsz'; omega) (hg.trans g1') hr'
            | cons s r ihl =>
              intro i out hd' hsz' hr'
              obtain ⟨hs, hlt, hd''⟩ := drop_get hd'
              obtain ⟨g, cur, hb, hc, hcv⟩ := hx.at hs
              have hss := names_size hI (List.mem_of_getElem? hs)
              simp only [List.length_cons] at hsz'
              refine hR2 _ _ _ _ _ _ _ _ ?_
              refine br_t (by rw [hx.1]; simp only [decide_eq_true_eq]; omega) ?_
              refine j_i (fun j => j (some ⟨bf, 0, none⟩) (if (A.find (A.upOf dir) s).getD 0 = dir then (⟨⟨[47]⟩⟩ ++ s) ++ out else out) dir (A.upOf dir) x ((x.len : Nat) : Int) (i : Int) τ1) ?_ ?_
              · rw [wrap_id (x := (i : Int) + 1) (by omega) (by omega)]
                refine ihl (i + 1) _ hd'' ?_ hr'
                split
                · simp only [ByteArray.size_append]
                  have : (⟨⟨[47]⟩⟩ : ByteArray).size = 1 := rfl
                  omega
                · omega
              · intro j hj
                rw [hb]
                refine ptr_i (if_i ⟨by omega, by rw [hx.1]; omega⟩ (rd_S (rdC_of hc (by simpa using hcv)) ?_))
                obtain ⟨bt, B0, q1, q2, q3, q4⟩ := hF.gr (hg.trans g1')
                refine ptr_i (rd_P (rdC_of q1 (by rfl)) (call_i (t_Find q2 _ _ (app_IB ?_))))
                have h1 : (⟨⟨[47]⟩⟩ : ByteArray).size = 1 := rfl
                by_cases hf : (A.find (A.upOf dir) s).getD 0 = dir
                · rw [if_pos hf] at hj
                  refine br_t (by simpa using hf) (if_i (by omega) (if_i (by rw [ByteArray.size_append]; omega) hj))
                · rw [if_neg hf] at hj
                  exact br_f (by simpa using hf) hj
          refine key2 (A.names (A.upOf dir)) 0 out rfl ?_ hr
          have hm : (f + 1) * (60 * N) = f * (60 * N) + 60 * N := by rw [Nat.add_mul, Nat.one_mul]
          omega
      obtain ⟨d, hd13, _⟩ := hI.deep13 hdir
      exact key 13 dir out σ2 hdir (by rw [hd13]; rfl) (by omega) hg2.gr hr
    · intro j hj
      refine rd_I (rdC_of k (by rfl)) (call_i (s_kind hF2 _ (app_I ?_)))
      by_cases hk : A.kind p.ino = 2
      · have hif : (if A.kind p.ino ≠ 2 then A.realUp 13 p.dir (⟨⟨[47]⟩⟩ ++ p.name) else A.realUp 13 p.ino ⟨⟨[]⟩⟩) = A.realUp 13 p.ino ⟨⟨[]⟩⟩ := if_neg (by simpa using hk)
        rw [hif] at hres
        refine br_f (by simpa using hk) (hj ⟨⟨[]⟩⟩ p.ino (kind_dir hk) (by decide) hres.symm)
      · have hif : (if A.kind p.ino ≠ 2 then A.realUp 13 p.dir (⟨⟨[47]⟩⟩ ++ p.name) else A.realUp 13 p.ino ⟨⟨[]⟩⟩) = A.realUp 13 p.dir (⟨⟨[47]⟩⟩ ++ p.name) := if_pos hk
        rw [hif] at hres
        obtain ⟨hd, hcase⟩ := hpl
        have hnm : p.name.size ≤ 56 := by
          rcases hcase with ⟨h1, _⟩ | ⟨_, _, h, _⟩
          · rw [h1]; decide
          · exact h
        have h1 : (⟨⟨[47]⟩⟩ : ByteArray).size = 1 := rfl
        refine br_t (by simpa using hk) (rd_S (rdC_of k (by rfl)) (if_i (by show _ + p.name.size ≤ _; omega) (rd_I (rdC_of k (by rfl)) ?_)))
        exact hj _ p.dir hd (by rw [ByteArray.size_append]; show _ + p.name.size ≤ _; omega) hres.symm
end Go.Proofs.YtlpcehbfoogejaaGreatDoor

/- A TABLE OF INODES: writing, modes, other entries, letting go: what always holds stays so. -/
namespace Go.Wk
open Go Go.HL
variable {A : AT}
/-- an inode is changed, but not what it names, nor its kind -/
theorem Inv.mod {N : Nat} (h : Inv A) (hb : Bd N A) {i : Int} {n n' : AN} (hn : A.get i = some n) (h1 : n'.kind = n.kind) (h2 : n'.up = n.up) (h3 : n'.ents = n.ents) (h4 : likeE n'.kind n'.mode n'.data = 0) (h5 : n'.links = n.links) {ub : Int} (hub : ub = A.ub + n'.data.size - n.data.size) (hq : ub ≤ A.qb) :
    Inv { A.set i n' with ub := ub } ∧ Bd N { A.set i n' with ub := ub } := by
  have hG : ∀ j, ({ A.set i n' with ub := ub } : AT).get j = if j = i then some n' else A.get j := fun j => AT.get_set A i j n'
  have hc : ∀ j m, ({ A.set i n' with ub := ub } : AT).get j = some m → ∃ m0, A.get j = some m0 ∧ m.kind = m0.kind ∧ m.up = m0.up ∧ m.ents = m0.ents ∧ m.links = m0.links ∧ likeE m.kind m.mode m.data = 0 := by
    intro j m hm
    rw [hG] at hm
    by_cases e : j = i
    · rw [if_pos e] at hm; cases hm; subst e; exact ⟨n, hn, h1, h2, h3, h5, h4⟩
    · rw [if_neg e] at hm; exact ⟨m, hm, rfl, rfl, rfl, rfl, h.like j m hm⟩
  have hx : ∀ j m, A.get j = some m → ∃ m', ({ A.set i n' with ub := ub } : AT).get j = some m' ∧ m'.kind = m.kind ∧ m'.up = m.up ∧ m'.ents = m.ents ∧ m'.links = m.links := by
    intro j m hm
    rw [hG]
    by_cases e : j = i
    · subst e; rw [if_pos rfl]; rw [hn] at hm; cases hm; exact ⟨n', rfl, h1, h2, h3, h5⟩
    · rw [if_neg e]; exact ⟨m, hm, rfl, rfl, rfl, rfl⟩
  have hsum : ∀ f : AN → Nat, sumF f (A.set i n').nodes + f n = sumF f A.nodes + f n' := by
    intro f
    have := AT.sum_set A f i n'
    rw [hn] at this; simpa using this
  have hrefs : ∀ j, ({ A.set i n' with ub := ub } : AT).refs j = A.refs j := by
    intro j
    have := hsum (cntE j)
    have e : cntE j n' = cntE j n := by unfold cntE; rw [h3]
    show sumF (cntE j) (A.set i n').nodes = sumF (cntE j) A.nodes
    omega
  have hupO : ∀ k, A.isDir k → ({ A.set i n' with ub := ub } : AT).upOf k = A.upOf k := by
    rintro k ⟨m, hm, _⟩
    obtain ⟨m', q1, _, q3, _⟩ := hx k m hm
    unfold AT.upOf; rw [hm, q1]; simp [q3]
  refine ⟨⟨?_, ?_, ?_, ?_, ?_, ?_, ?_, ?_, ?_, ?_, ?_, ?_, ?_⟩, ⟨?_, ?_, ?_⟩⟩
  · exact nodup_up h.nodup
  · intro j m hm; obtain ⟨m0, q1, _, _, q4, _⟩ := hc j m hm; rw [q4]; exact h.enod j m0 q1
  · obtain ⟨r, r1, r2, r3⟩ := h.root
    obtain ⟨m', q1, q2, q3, _⟩ := hx 1 r r1
    exact ⟨m', q1, by rw [q2, r2], by rw [q3, r3]⟩
  · intro j m hm; obtain ⟨m0, q1, _⟩ := hc j m hm; exact h.low j m0 q1
  · intro j m hm; obtain ⟨m0, _, _, _, _, _, q⟩ := hc j m hm; exact q
  · intro j m hm hk; obtain ⟨m0, q1, q2, _, q4, _⟩ := hc j m hm; rw [q4]; exact h.file j m0 q1 (by rw [← q2]; exact hk)
  · intro j m s t hm hs
    obtain ⟨m0, q1, _, _, q4, _⟩ := hc j m hm
    rw [q4] at hs
    obtain ⟨a1, a2, m1, a3, a4⟩ := h.ent j m0 s t q1 hs
    obtain ⟨m', b1, b2, b3, _⟩ := hx t m1 a3
    exact ⟨a1, a2, m', b1, fun hk => by rw [b3]; exact a4 (by rw [← b2]; exact hk)⟩
  · intro j m hm hj
    obtain ⟨m0, q1, q2, _, _, q5, _⟩ := hc j m hm
    rw [hrefs, q2, q5]; exact h.links j m0 q1 hj
  · rintro k ⟨m, hm, hk⟩
    obtain ⟨m0, q1, q2, _⟩ := hc k m hm
    have hd : A.isDir k := ⟨m0, q1, by rw [← q2]; exact hk⟩
    rw [deep_same h hupO 12 k hd]; exact h.deep k hd
  · have := hsum (fun _ => 1)
    rw [sumF_len, sumF_len] at this
    have e := h.ui
    show A.ui = (A.set i n').nodes.length
    omega
  · have := hsum (fun n => n.data.size)
    have e := h.ub
    show ub = (sumF (fun n : AN => n.data.size) (A.set i n').nodes : Nat)
    unfold AT.bytes at e
    omega
  · exact h.uq
  · exact ⟨hq, h.bq.2⟩
  · exact hb.last
  · intro j m hm; obtain ⟨m0, q1, _, _, _, q5, _⟩ := hc j m hm; rw [q5]; exact hb.links j m0 q1
  · intro j m hm; obtain ⟨m0, q1, _, _, q4, _⟩ := hc j m hm; rw [q4]; exact hb.ents j m0 q1
/-! ### Write -/
theorem likeE_file {mode : Int} {data : ByteArray} {d : ByteArray} (h : likeE 1 mode d = 0) : likeE 1 mode data = 0 := by
  unfold likeE kindOkE at h ⊢
  simpa [lk] using h
theorem writeR_ok {N : Nat} (h : Inv A) (hb : Bd N A) (ino : Int) (data : ByteArray) (hs : data.size < 4611686018427387904) : Inv (A.writeR ino data).2 ∧ Bd N (A.writeR ino data).2 ∧ ((A.writeR ino data).1 ≠ 0 → (A.writeR ino data).2 = A) ∧ (A.writeR ino data).2.qi = A.qi ∧ (A.writeR ino data).2.qb = A.qb := by
  unfold AT.writeR
  by_cases he : A.writeE ino data = 0
  case neg => rw [if_neg he]; exact ⟨h, hb, fun _ => rfl, rfl, rfl⟩
  rw [if_pos he]
  unfold AT.writeE at he
  obtain ⟨_, he⟩ := AT.firstE_z he
  obtain ⟨h1, he⟩ := AT.firstE_z he
  obtain ⟨h2, _⟩ := AT.firstE_z he
  obtain ⟨n, hn, hk⟩ := AT.fileE_z h1
  obtain ⟨_, hr⟩ := roomE_z h2
  have hsz := h.size_le hn
  have hub := h.ub_pos
  have hq := h.bq
  rw [hn] at hr
  simp only [Option.map_some, Option.getD_some] at hr
  have e1 : A.written ino data = { A.set ino { n with data := data } with ub := wr (A.ub + wr ((data.size : Int) - n.data.size)) } := by unfold AT.written; rw [hn]
  have w1 : wr ((data.size : Int) - n.data.size) = (data.size : Int) - n.data.size := wr_id (by omega) (by omega)
  rw [w1] at hr
  have w2 : wr (A.ub + ((data.size : Int) - n.data.size)) = A.ub + data.size - n.data.size := by rw [wr_id (by omega) (by omega)]; omega
  rw [w2] at hr
  rw [e1, w1, w2]
  have hlike : likeE n.kind n.mode data = 0 := by
    have := h.like ino n hn
    rw [hk] at this ⊢
    exact likeE_file this
  obtain ⟨a, b⟩ := h.mod hb hn (n' := { n with data := data }) rfl rfl rfl hlike rfl rfl hr
  exact ⟨a, b, fun h => absurd rfl h, rfl, rfl⟩
/-! ### Chmod -/
theorem likeE_mode {k m m' : Int} {d : ByteArray} (h : likeE k m d = 0) (h1 : 0 ≤ m' ∧ m' ≤ 511) : likeE k m' d = 0 := by
  unfold likeE at h ⊢
  by_cases hk : kindOkE k d = true
  · simp [hk, h1]
  · simp [hk] at h
theorem chmodR_ok {N : Nat} (h : Inv A) (hb : Bd N A) (ino mode : Int) : Inv (A.chmodR ino mode).2 ∧ Bd N (A.chmodR ino mode).2 ∧ ((A.chmodR ino mode).1 ≠ 0 → (A.chmodR ino mode).2 = A) ∧ (A.chmodR ino mode).2.qi = A.qi ∧ (A.chmodR ino mode).2.qb = A.qb := by
  unfold AT.chmodR
  by_cases he : A.chmodE ino mode = 0
  case neg => rw [if_neg he]; exact ⟨h, hb, fun _ => rfl, rfl, rfl⟩
  rw [if_pos he]
  unfold AT.chmodE at he
  obtain ⟨_, he⟩ := AT.firstE_z he
  obtain ⟨h1, he⟩ := AT.firstE_z he
  obtain ⟨h2, _⟩ := AT.firstE_z he
  have hm : 0 ≤ mode ∧ mode ≤ 511 := by
    by_cases hm : 0 ≤ mode ∧ mode ≤ 511
    · exact hm
    · rw [if_neg hm] at h1; cases h1
  cases hn : A.get ino with
  | none => rw [hn] at h2; simp at h2
  | some n =>
    have e1 : A.chmoded ino mode = { A.set ino { n with mode := mode } with ub := A.ub } := by unfold AT.chmoded AT.mod; rw [hn]; rfl
    rw [e1]
    obtain ⟨a, b⟩ := h.mod hb hn (n' := { n with mode := mode }) (ub := A.ub) rfl rfl rfl (likeE_mode (h.like ino n hn) hm) rfl (by show A.ub = A.ub + n.data.size - n.data.size; omega) h.bq.1
    exact ⟨a, b, fun h => absurd rfl h, rfl, rfl⟩
/-! ### Unlink -/
theorem unlinkE_z {dir : Int} {name : ByteArray} (he : A.unlinkE dir name = 0) : A.isDir dir ∧ ∃ j, A.find dir name = some j ∧ ∀ m, A.get j = some m → m.ents = [] := by
  unfold AT.unlinkE at he
  obtain ⟨_, he⟩ := AT.firstE_z he
  obtain ⟨h1, he⟩ := AT.firstE_z he
  obtain ⟨h2, he⟩ := AT.firstE_z he
  obtain ⟨h3, _⟩ := AT.firstE_z he
  refine ⟨AT.dirE_z h1, ?_⟩
  cases hf : A.find dir name with
  | none => rw [hf] at h2; simp at h2
  | some j =>
    refine ⟨j, rfl, fun m hm => ?_⟩
    rw [hf] at h3
    simp only [Option.getD_some, hm, Option.map_some] at h3
    by_cases hl : m.ents.length = 0
    · exact List.eq_nil_of_length_eq_zero hl
    · rw [if_neg hl] at h3; cases h3
theorem unlinkR_ok {N : Nat} (h : Inv A) (hb : Bd N A) (hN : N < 4611686018427387904) (dir : Int) (name : ByteArray) : Inv (A.unlinkR dir name).2 ∧ Bd N (A.unlinkR dir name).2 ∧ ((A.unlinkR dir name).1 ≠ 0 → (A.unlinkR dir name).2 = A) ∧ (A.unlinkR dir name).2.qi = A.qi ∧ (A.unlinkR dir name).2.qb = A.qb := by
  unfold AT.unlinkR
  by_cases he : A.unlinkE dir name = 0
  case neg => rw [if_neg he]; exact ⟨h, hb, fun _ => rfl, rfl, rfl⟩
  rw [if_pos he]
  obtain ⟨⟨nd, hd, hd2⟩, ino, hf, hem⟩ := unlinkE_z he
  obtain ⟨nd', hd', _, hlk, hi1, nn, hnn, hup⟩ := h.find hf
  rw [hd] at hd'; cases hd'
  have hens := hem nn hnn
  have hne : ino ≠ dir := by
    intro e; subst e; rw [hd] at hnn; cases hnn
    rw [hens] at hlk; simp [lk] at hlk
  obtain ⟨hl1, hl2, hl3⟩ := h.links ino nn hnn hi1
  -- the table with the entry gone and one link less
  have e1 : A.ent dir (rm name) = A.set dir { nd with ents := rm name nd.ents } := by unfold AT.ent; rw [hd]
  have g1 : (A.set dir { nd with ents := rm name nd.ents }).get ino = some nn := by rw [AT.get_set_ne _ _ hne]; exact hnn
  have hlb : nn.links ≤ N := hb.links ino nn hnn
  have wl : wr (nn.links - 1) = nn.links - 1 := wr_id (by omega) (by omega)
  let A1 : AT := (A.set dir { nd with ents := rm name nd.ents }).set ino { nn with links := nn.links - 1 }
  have e2 : A.unlinked dir name = if nn.links - 1 = 0 then { A1 with nodes := rm ino A1.nodes, ui := wr (A.ui - 1), ub := wr (A.ub - nn.data.size) } else A1 := by
    unfold AT.unlinked
    rw [hf]
    simp only [Option.getD_some]
    rw [e1]
    unfold AT.mod
    rw [g1]
    simp only
    rw [AT.get_set_self, wl]
    by_cases hz : nn.links - 1 = 0
    · rw [if_pos hz]
      have : (nn.links - 1 == 0) = true := by simpa using hz
      simp only [this]; rfl
    · rw [if_neg hz]
      have : (nn.links - 1 == 0) = false := by simpa using hz
      simp only [this]; rfl
  have hG1 : ∀ j, A1.get j = if j = ino then some { nn with links := nn.links - 1 } else if j = dir then some { nd with ents := rm name nd.ents } else A.get j := by
    intro j; show ((A.set dir _).set ino _).get j = _; rw [AT.get_set, AT.get_set]
  have hsum : ∀ f : AN → Nat, sumF f A1.nodes + f nd + f nn = sumF f A.nodes + f { nd with ents := rm name nd.ents } + f { nn with links := nn.links - 1 } := by
    intro f
    have q1 := AT.sum_set (A.set dir { nd with ents := rm name nd.ents }) f ino { nn with links := nn.links - 1 }
    have q2 := AT.sum_set A f dir { nd with ents := rm name nd.ents }
    rw [g1] at q1; rw [hd] at q2
    simp only [Option.map_some, Option.getD_some] at q1 q2
    show sumF f ((A.set dir { nd with ents := rm name nd.ents }).set ino { nn with links := nn.links - 1 }).nodes + f nd + f nn = _
    omega
  have hcE : ∀ j, cntE j { nd with ents := rm name nd.ents } + one j ino = cntE j nd := by
    intro j
    have := sumF_rm (one j) name nd.ents
    rw [hlk] at this
    simpa [cntE] using this
  have hrefs : ∀ j, A1.refs j + one j ino = A.refs j := by
    intro j
    have := hsum (cntE j)
    have e : cntE j { nn with links := nn.links - 1 } = cntE j nn := rfl
    have := hcE j
    unfold AT.refs
    omega
  have hN1 : (keysL A1.nodes).Nodup := nodup_up (nodup_up h.nodup)
  -- the end result's inodes
  let Z := A.unlinked dir name
  have hZ : ∀ j m, Z.get j = some m → (j = ino ∧ m = { nn with links := nn.links - 1 } ∧ nn.links - 1 ≠ 0) ∨ (j = dir ∧ m = { nd with ents := rm name nd.ents }) ∨ (j ≠ ino ∧ j ≠ dir ∧ A.get j = some m) := by
    intro j m hm
    have hm : (A.unlinked dir name).get j = some m := hm
    rw [e2] at hm
    by_cases hz : nn.links - 1 = 0
    · rw [if_pos hz] at hm
      have hm : lk j (rm ino A1.nodes) = some m := hm
      rw [lk_rm hN1] at hm
      by_cases e : j = ino
      · subst e; simp at hm
      · have : (j == ino) = false := by simpa using e
        rw [this] at hm
        have hm : A1.get j = some m := hm
        rw [hG1, if_neg e] at hm
        by_cases e' : j = dir
        · rw [if_pos e'] at hm; cases hm; exact .inr (.inl ⟨e', rfl⟩)
        · rw [if_neg e'] at hm; exact .inr (.inr ⟨e, e', hm⟩)
    · rw [if_neg hz] at hm
      rw [hG1] at hm
      by_cases e : j = ino
      · rw [if_pos e] at hm; cases hm; exact .inl ⟨e, rfl, hz⟩
      · rw [if_neg e] at hm
        by_cases e' : j = dir
        · rw [if_pos e'] at hm; cases hm; exact .inr (.inl ⟨e', rfl⟩)
        · rw [if_neg e'] at hm; exact .inr (.inr ⟨e, e', hm⟩)
  have hXn : ∀ j m, A.get j = some m → j ≠ ino → ∃ m', Z.get j = some m' ∧ m'.kind = m.kind ∧ m'.up = m.up ∧ m'.links = m.links := by
    intro j m hm hj
    show ∃ m', (A.unlinked dir name).get j = some m' ∧ _
    have key : ∃ m', A1.get j = some m' ∧ m'.kind = m.kind ∧ m'.up = m.up ∧ m'.links = m.links := by
      rw [hG1, if_neg hj]
      by_cases e' : j = dir
      · subst e'; rw [if_pos rfl]; rw [hd] at hm; cases hm; exact ⟨_, rfl, rfl, rfl, rfl⟩
      · rw [if_neg e']; exact ⟨m, hm, rfl, rfl, rfl⟩
    obtain ⟨m', q1, q2⟩ := key
    refine ⟨m', ?_, q2⟩
    rw [e2]
    by_cases hz : nn.links - 1 = 0
    · rw [if_pos hz]
      show lk j (rm ino A1.nodes) = some m'
      rw [lk_rm hN1]
      have : (j == ino) = false := by simpa using hj
      rw [this]; exact q1
    · rw [if_neg hz]; exact q1
  have hlz : nn.links - 1 = 0 ↔ A.refs ino = 1 := by omega
  have hone : one ino ino = 1 := by unfold one; simp
  have hZr : ∀ j, Z.refs j + one j ino = A.refs j := by
    intro j
    show (A.unlinked dir name).refs j + _ = _
    rw [e2]
    by_cases hz : nn.links - 1 = 0
    · rw [if_pos hz]
      have q := sumF_rm (cntE j) ino A1.nodes
      have g2 : lk ino A1.nodes = some { nn with links := nn.links - 1 } := by have := hG1 ino; rw [if_pos rfl] at this; exact this
      rw [g2] at q
      have e0 : cntE j { nn with links := nn.links - 1 } = 0 := by unfold cntE; simp only; rw [hens]; rfl
      simp only [Option.map_some, Option.getD_some, e0] at q
      have := hrefs j
      unfold AT.refs at this ⊢
      show sumF (cntE j) (rm ino A1.nodes) + _ = _
      omega
    · rw [if_neg hz]; exact hrefs j
  -- nothing that stays names what goes
  have hgone : nn.links - 1 = 0 → ∀ j m s, Z.get j = some m → lk s m.ents ≠ some ino := by
    intro hz j m s hm hs
    have h0 : Z.refs ino = 0 := by have := hZr ino; rw [hone] at this; omega
    have hnd : (keysL Z.nodes).Nodup := by
      show (keysL (A.unlinked dir name).nodes).Nodup
      rw [e2, if_pos hz]; exact nodup_rm hN1
    have a := sumF_ge (f := cntE ino) (show lk j Z.nodes = some m from hm)
    have b := sumF_ge (f := one ino) hs
    unfold AT.refs at h0
    have : one ino ino ≤ cntE ino m := b
    omega
  have hnokid : ∀ k, A.isDir k → k ≠ 1 → A.upOf k ≠ ino := by
    intro k hk hk1 e
    obtain ⟨s, hs⟩ := h.named hk hk1
    rw [e] at hs
    unfold AT.find at hs; rw [hnn] at hs
    have hs : lk s nn.ents = some k := hs
    rw [hens] at hs; simp [lk] at hs
  have hq := h.uq
  have hq2 := h.bq
  have hui := h.ui_pos
  have hub := h.ub_pos
  have hszl := h.size_le hnn
  have hqs : Z.qi = A.qi ∧ Z.qb = A.qb ∧ Z.last = A.last := by
    show (A.unlinked dir name).qi = _ ∧ (A.unlinked dir name).qb = _ ∧ (A.unlinked dir name).last = _
    rw [e2]; split <;> exact ⟨rfl, rfl, rfl⟩
  have huse : (nn.links - 1 = 0 → Z.ui = A.ui - 1 ∧ Z.ub = A.ub - nn.data.size) ∧ (nn.links - 1 ≠ 0 → Z.ui = A.ui ∧ Z.ub = A.ub) := by
    refine ⟨fun hz => ?_, fun hz => ?_⟩
    · show (A.unlinked dir name).ui = _ ∧ (A.unlinked dir name).ub = _
      rw [e2, if_pos hz]
      exact ⟨wr_id (by omega) (by omega), wr_id (by omega) (by omega)⟩
    · show (A.unlinked dir name).ui = _ ∧ (A.unlinked dir name).ub = _
      rw [e2, if_neg hz]; exact ⟨rfl, rfl⟩
  have hZsum : ∀ f : AN → Nat, (f { nd with ents := rm name nd.ents } = f nd) → f { nn with links := nn.links - 1 } = f nn → (nn.links - 1 = 0 → sumF f Z.nodes + f nn = sumF f A.nodes) ∧ (nn.links - 1 ≠ 0 → sumF f Z.nodes = sumF f A.nodes) := by
    intro f hf1 hf2
    have q := hsum f
    rw [hf1, hf2] at q
    refine ⟨fun hz => ?_, fun hz => ?_⟩
    · show sumF f (A.unlinked dir name).nodes + _ = _
      rw [e2, if_pos hz]
      have q2 := sumF_rm f ino A1.nodes
      have g2 : lk ino A1.nodes = some { nn with links := nn.links - 1 } := by have := hG1 ino; rw [if_pos rfl] at this; exact this
      rw [g2] at q2
      simp only [Option.map_some, Option.getD_some, hf2] at q2
      show sumF f (rm ino A1.nodes) + _ = _
      omega
    · show sumF f (A.unlinked dir name).nodes = _
      rw [e2, if_neg hz]; omega
  show Inv Z ∧ Bd N Z ∧ ((0 : Int) ≠ 0 → Z = A) ∧ Z.qi = A.qi ∧ Z.qb = A.qb
  refine ⟨⟨?_, ?_, ?_, ?_, ?_, ?_, ?_, ?_, ?_, ?_, ?_, ?_, ?_⟩, ⟨?_, ?_, ?_⟩, fun h => absurd rfl h, hqs.1, hqs.2.1⟩
  · show (keysL (A.unlinked dir name).nodes).Nodup
    rw [e2]
    split
    · exact nodup_rm hN1
    · exact hN1
  · intro j m hm
    rcases hZ j m hm with ⟨_, rfl, _⟩ | ⟨_, rfl⟩ | ⟨_, _, hm⟩
    · exact h.enod ino nn hnn
    · exact nodup_rm (h.enod dir nd hd)
    · exact h.enod j m hm
  · obtain ⟨r, r1, r2, r3⟩ := h.root
    obtain ⟨m', q1, q2, q3, _⟩ := hXn 1 r r1 (fun e => hi1 e.symm)
    exact ⟨m', q1, by rw [q2, r2], by rw [q3, r3]⟩
  · intro j m hm
    rw [hqs.2.2]
    rcases hZ j m hm with ⟨rfl, _, _⟩ | ⟨rfl, _⟩ | ⟨_, _, hm⟩
    · exact h.low _ nn hnn
    · exact h.low _ nd hd
    · exact h.low j m hm
  · intro j m hm
    rcases hZ j m hm with ⟨_, rfl, _⟩ | ⟨_, rfl⟩ | ⟨_, _, hm⟩
    · exact h.like ino nn hnn
    · exact h.like dir nd hd
    · exact h.like j m hm
  · intro j m hm hk
    rcases hZ j m hm with ⟨_, rfl, _⟩ | ⟨_, rfl⟩ | ⟨_, _, hm⟩
    · exact hens
    · exact absurd hd2 hk
    · exact h.file j m hm hk
  · intro j m s t hm hs
    have hold : ∃ m0, A.get j = some m0 ∧ lk s m0.ents = some t := by
      rcases hZ j m hm with ⟨rfl, rfl, _⟩ | ⟨rfl, rfl⟩ | ⟨_, _, hm⟩
      · exact ⟨nn, hnn, hs⟩
      · simp only [lk_rm (h.enod j nd hd)] at hs
        by_cases e : (s == name) = true
        · rw [if_pos e] at hs; cases hs
        · rw [if_neg e] at hs; exact ⟨nd, hd, hs⟩
      · exact ⟨m, hm, hs⟩
    obtain ⟨m0, q1, q2⟩ := hold
    obtain ⟨a1, a2, m1, a3, a4⟩ := h.ent j m0 s t q1 q2
    refine ⟨a1, a2, ?_⟩
    by_cases e : t = ino
    · subst e
      by_cases hz : nn.links - 1 = 0
      · exact absurd hs (hgone hz j m s hm)
      · rw [hnn] at a3; cases a3
        have : Z.get t = some { nn with links := nn.links - 1 } := by
          show (A.unlinked dir name).get t = _
          rw [e2, if_neg hz, hG1, if_pos rfl]
        exact ⟨_, this, a4⟩
    · obtain ⟨m', b1, b2, b3, _⟩ := hXn t m1 a3 e
      exact ⟨m', b1, fun hk => by rw [b3]; exact a4 (by rw [← b2]; exact hk)⟩
  · intro j m hm hj
    have hr := hZr j
    rcases hZ j m hm with ⟨rfl, rfl, hz⟩ | ⟨rfl, rfl⟩ | ⟨hji, _, hm⟩
    · rw [hone] at hr
      refine ⟨?_, by omega, fun hk => ?_⟩
      · show nn.links - 1 = _; omega
      · have := hl3 hk; omega
    · have : one j ino = 0 := by unfold one; rw [if_neg hne]
      rw [this] at hr
      have := h.links j nd hd hj
      simp only at this ⊢
      rw [← hr] at this; exact this
    · have : one j ino = 0 := by unfold one; rw [if_neg (fun e => hji e.symm)]
      rw [this] at hr
      have := h.links j m hm hj
      rw [← hr] at this; exact this
  · rintro k ⟨m, hm, hk⟩
    have hkd : A.isDir k ∧ (k ≠ ino) := by
      rcases hZ k m hm with ⟨rfl, rfl, hz⟩ | ⟨rfl, rfl⟩ | ⟨hji, _, hm⟩
      · exfalso; exact hz (hlz.2 (hl3 hk))
      · exact ⟨⟨nd, hd, hk⟩, hne.symm⟩
      · exact ⟨⟨m, hm, hk⟩, hji⟩
    have hdd : Z.deep 12 k = A.deep 12 k := by
      refine deep_on (S := fun k => A.isDir k ∧ k ≠ ino) (fun k hk h1 => ⟨h.isDir_up hk.1, hnokid k hk.1 h1⟩) (fun k hk h1 => ?_) 12 k hkd
      obtain ⟨⟨m, hm, _⟩, hki⟩ := hk
      obtain ⟨m', q1, _, q3, _⟩ := hXn k m hm hki
      unfold AT.upOf; rw [hm, q1]; simp [q3]
    rw [hdd]; exact h.deep k hkd.1
  · have q := hZsum (fun _ => 1) rfl rfl
    rw [sumF_len, sumF_len] at q
    have e := h.ui
    by_cases hz : nn.links - 1 = 0
    · rw [(huse.1 hz).1]; have := q.1 hz; omega
    · rw [(huse.2 hz).1]; have := q.2 hz; omega
  · have q := hZsum (fun n => n.data.size) rfl rfl
    have e := h.ub
    unfold AT.bytes at e
    show Z.ub = (sumF (fun n : AN => n.data.size) Z.nodes : Nat)
    by_cases hz : nn.links - 1 = 0
    · rw [(huse.1 hz).2]; have := q.1 hz; omega
    · rw [(huse.2 hz).2]; have := q.2 hz; omega
  · rw [hqs.1]
    by_cases hz : nn.links - 1 = 0
    · rw [(huse.1 hz).1]; omega
    · rw [(huse.2 hz).1]; exact hq
  · rw [hqs.2.1]
    by_cases hz : nn.links - 1 = 0
    · rw [(huse.1 hz).2]; omega
    · rw [(huse.2 hz).2]; exact hq2
  · rw [hqs.2.2]; exact hb.last
  · intro j m hm
    rcases hZ j m hm with ⟨_, rfl, _⟩ | ⟨rfl, rfl⟩ | ⟨_, _, hm⟩
    · show nn.links - 1 ≤ N; omega
    · exact hb.links _ nd hd
    · exact hb.links j m hm
  · intro j m hm
    rcases hZ j m hm with ⟨_, rfl, _⟩ | ⟨rfl, rfl⟩ | ⟨_, _, hm⟩
    · exact hb.ents _ nn hnn
    · have := hb.ents _ nd hd
      have := (rm_sub (k := name) (l := nd.ents)).length_le
      show (rm name nd.ents).length ≤ N; omega
    · exact hb.ents j m hm
theorem newT_ok {qi qb : Int} (h : newOk qi qb = true) : Inv (newT qi qb) ∧ Bd 1 (newT qi qb) := by
  have hq : 1 ≤ qi ∧ qi ≤ 1048576 ∧ 0 ≤ qb ∧ qb ≤ 1073741824 := by
    unfold newOk at h
    simp at h
    omega
  have hg : ∀ i n, (newT qi qb).get i = some n → i = 1 ∧ n = ⟨2, 493, ⟨⟨[]⟩⟩, 1, 1, []⟩ := by
    intro i n hn
    have hn : lk i [((1 : Int), (⟨2, 493, ⟨⟨[]⟩⟩, 1, 1, []⟩ : AN))] = some n := hn
    simp only [lk] at hn
    cases hb : (i == 1) with
    | true => rw [hb] at hn; cases hn; exact ⟨by simpa using hb, rfl⟩
    | false => rw [hb] at hn; cases hn
  refine ⟨⟨?_, ?_, ?_, ?_, ?_, ?_, ?_, ?_, ?_, rfl, rfl, ⟨hq.1, hq.2.1⟩, ⟨hq.2.2.1, hq.2.2.2⟩⟩, ⟨?_, ?_, ?_⟩⟩
  · show [(1 : Int)].Nodup; simp
  · intro i n hn; obtain ⟨_, rfl⟩ := hg i n hn; exact List.nodup_nil
  · exact ⟨_, rfl, rfl, rfl⟩
  · intro i n hn; obtain ⟨rfl, rfl⟩ := hg i n hn; show (1 : Int) ≤ 1 ∧ (1 : Int) ≤ 1; omega
  · intro i n hn; obtain ⟨_, rfl⟩ := hg i n hn; rfl
  · intro i n hn; obtain ⟨_, rfl⟩ := hg i n hn; intro _; rfl
  · intro i n s j hn hs; obtain ⟨_, rfl⟩ := hg i n hn; simp [lk] at hs
  · intro i n hn h1; exact absurd (hg i n hn).1 h1
  · rintro i ⟨n, hn, _⟩; obtain ⟨rfl, _⟩ := hg i n hn; exact ⟨1, rfl⟩
  · show (1 : Int) ≤ (1 : Nat); omega
  · intro i n hn; obtain ⟨_, rfl⟩ := hg i n hn; show (1 : Int) ≤ (1 : Nat); omega
  · intro i n hn; obtain ⟨_, rfl⟩ := hg i n hn; show (0 : Nat) ≤ 1; omega
end Go.Wk

/- LAYING A TREE that may be, where there is room: it lies there, just so. -/
namespace Go.Wk
open Go Go.HL
mutual
def Tr.count : Tr → Nat
  | .mk _ _ _ _ kids => 1 + Tr.countRow kids
def Tr.countRow : List Tr → Nat
  | [] => 0
  | t :: r => Tr.count t + Tr.countRow r
end
mutual
def Tr.bytes : Tr → Nat
  | .mk _ _ _ d kids => d.size + Tr.bytesRow kids
def Tr.bytesRow : List Tr → Nat
  | [] => 0
  | t :: r => Tr.bytes t + Tr.bytesRow r
end
theorem Tr.count_eq (t : Tr) : t.count = 1 + Tr.countRow t.kids := by obtain ⟨n, k, e, d, kids⟩ := t; simp only [Tr.count, Tr.kids]
theorem Tr.bytes_eq (t : Tr) : t.bytes = t.data.size + Tr.bytesRow t.kids := by obtain ⟨n, k, e, d, kids⟩ := t; simp only [Tr.bytes, Tr.kids, Tr.data]
theorem Tr.may_eq (t : Tr) : t.may = if t.kind = 1 then t.kids.isEmpty else if t.kind = 3 then t.kids.isEmpty && (!t.exec && linkOk t.data) else if t.kind = 2 then !t.exec && (sEq t.data ⟨⟨[]⟩⟩ && Tr.mayRow none t.kids) else false := by
  obtain ⟨n, k, e, d, kids⟩ := t
  rw [Tr.may]; rfl
theorem fold_gr (f : Tr → Int) : ∀ (l : List Tr) (d : Int), d ≤ l.foldl (fun d x => gr d (f x)) d ∧ ∀ x ∈ l, f x ≤ l.foldl (fun d x => gr d (f x)) d := by
  intro l
  induction l with
  | nil => intro d; exact ⟨Int.le_refl _, by simp⟩
  | cons y r ih =>
    intro d
    simp only [List.foldl_cons]
    obtain ⟨h1, h2⟩ := ih (gr d (f y))
    have hg : d ≤ gr d (f y) ∧ f y ≤ gr d (f y) := by unfold gr; split <;> omega
    refine ⟨by omega, fun x hx => ?_⟩
    rcases List.mem_cons.1 hx with e | e
    · subst e; omega
    · exact h2 x e
theorem deep_stays : ∀ (m : Nat) (t : Tr), t.deep m < m → t.deep (m + 1) = t.deep m := by
  intro m
  induction m with
  | zero => intro t h; simp [Tr.deep] at h
  | succ m ih =>
    intro t h
    unfold Tr.deep at h ⊢
    by_cases hk : t.kind ≠ 2
    · rw [if_pos (.inl hk), if_pos (.inl hk)]
    · by_cases hm : m = 0
      · subst hm; rw [if_pos (.inr rfl)] at h; omega
      · have c1 : ¬ (t.kind ≠ 2 ∨ m = 0) := by rintro (h | h); exact hk h; exact hm h
        have c2 : ¬ (t.kind ≠ 2 ∨ m + 1 = 0) := by rintro (h | h); exact hk h; omega
        rw [if_neg c1] at h
        rw [if_neg c2, if_neg c1]
        have hx : ∀ x ∈ t.kids, Tr.deep (m + 1) x = Tr.deep m x := by
          intro x hx
          have := (fold_gr (fun x => 1 + Tr.deep m x) t.kids 1).2 x hx
          exact ih x (by omega)
        have key : ∀ (l : List Tr) (d : Int), (∀ x ∈ l, Tr.deep (m + 1) x = Tr.deep m x) → l.foldl (fun d x => gr d (1 + Tr.deep (m + 1) x)) d = l.foldl (fun d x => gr d (1 + Tr.deep m x)) d := by
          intro l
          induction l with
          | nil => intro d _; rfl
          | cons y r ihr => intro d h; simp only [List.foldl_cons]; rw [h y (List.mem_cons_self ..)]; exact ihr _ fun x hx => h x (List.mem_cons_of_mem _ hx)
        exact key t.kids 1 hx
theorem kid_shallow {t x : Tr} (hk : t.kind = 2) (h : t.tooDeep = false) (hx : x ∈ t.kids) : x.tooDeep = false := by
  unfold Tr.tooDeep at h ⊢
  simp only [decide_eq_false_iff_not] at h ⊢
  have h2 : t.deep 14 = t.kids.foldl (fun d x => gr d (1 + Tr.deep 13 x)) 1 := by
    rw [Tr.deep, if_neg (by rintro (h | h); exact h hk; omega)]
  have := (fold_gr (fun x => 1 + Tr.deep 13 x) t.kids 1).2 x hx
  rw [h2] at h
  rw [deep_stays 13 x (by omega)]
  omega
/-- kids that may be -/
theorem may_kids {t : Tr} (h : t.may = true) : t.kids = [] ∨ (t.kind = 2 ∧ Tr.mayRow none t.kids = true) := by
  rw [Tr.may_eq] at h
  by_cases k1 : t.kind = 1
  · rw [if_pos k1] at h; exact .inl (List.isEmpty_iff.1 h)
  · rw [if_neg k1] at h
    by_cases k3 : t.kind = 3
    · rw [if_pos k3] at h; simp only [Bool.and_eq_true] at h; exact .inl (List.isEmpty_iff.1 h.1)
    · rw [if_neg k3] at h
      by_cases k2 : t.kind = 2
      · rw [if_pos k2] at h; simp only [Bool.and_eq_true] at h; exact .inr ⟨k2, h.2.2⟩
      · rw [if_neg k2] at h; cases h
theorem mayRow_all : ∀ {l : List Tr} {p : Option ByteArray}, Tr.mayRow p l = true → ∀ x ∈ l, mayName x.name = true ∧ x.may = true := by
  intro l
  induction l with
  | nil => intro p _ x hx; simp at hx
  | cons y r ih =>
    intro p h x hx
    simp only [Tr.mayRow, Bool.and_eq_true] at h
    rcases List.mem_cons.1 hx with e | e
    · subst e; exact ⟨h.1, h.2.1⟩
    · exact ih h.2.2.2 x e
theorem may_size : ∀ t : Tr, t.may = true → t.tooDeep = false → t.size = ((t.count : Int), (t.bytes : Int)) := by
  refine Tr.ind ?_
  intro t ih hm hd
  have hsz : t.size = Tr.sizeRow t.kids (1, (t.data.size : Int)) := by obtain ⟨n, k, e, d, kids⟩ := t; simp only [Tr.size, Tr.kids, Tr.data]
  have key : ∀ (l : List Tr) (a b : Nat), (∀ x ∈ l, x ∈ t.kids) → Tr.sizeRow l ((a : Int), (b : Int)) = (((a + Tr.countRow l : Nat) : Int), ((b + Tr.bytesRow l : Nat) : Int)) := by
    intro l
    induction l with
    | nil => intro a b _; simp [Tr.sizeRow, Tr.countRow, Tr.bytesRow]
    | cons x r ihl =>
      intro a b hx
      have hx0 := hx x (List.mem_cons_self ..)
      rcases may_kids hm with h0 | ⟨hk, hrow⟩
      · rw [h0] at hx0; simp at hx0
      · have hsh := kid_shallow hk hd hx0
        have := ih x hx0 (mayRow_all hrow x hx0).2 hsh
        simp only [Tr.sizeRow, hsh, Bool.false_eq_true, if_false, this, Tr.countRow, Tr.bytesRow]
        have h2 := ihl (a + x.count) (b + x.bytes) (fun y hy => hx y (List.mem_cons_of_mem _ hy))
        simp only [Int.natCast_add] at h2 ⊢
        rw [h2, Int.add_assoc, Int.add_assoc]
  have := key t.kids 1 t.data.size (fun _ h => h)
  rw [hsz, Tr.count_eq, Tr.bytes_eq]
  exact this
/-! ### What lies there -/
mutual
def Lies (A : AT) : Tr → Int → Prop
  | .mk _ k e d kids, i => ∃ n, A.get i = some n ∧ n.kind = k ∧ n.mode = modeOf k e ∧ n.data = d ∧ n.links = 1 ∧ keysL n.ents = kids.map Tr.name ∧ LiesRow A i n.ents kids
def LiesRow (A : AT) (i : Int) (es : List (ByteArray × Int)) : List Tr → Prop
  | [] => True
  | t :: r => (∃ j, i < j ∧ lk t.name es = some j ∧ Lies A t j) ∧ LiesRow A i es r
end
theorem lies_iff {A : AT} {t : Tr} {i : Int} : Lies A t i ↔ ∃ n, A.get i = some n ∧ n.kind = t.kind ∧ n.mode = modeOf t.kind t.exec ∧ n.data = t.data ∧ n.links = 1 ∧ keysL n.ents = t.kids.map Tr.name ∧ LiesRow A i n.ents t.kids := by
  obtain ⟨nm, k, e, d, kids⟩ := t
  simp only [Lies, Tr.kind, Tr.exec, Tr.data, Tr.kids]
theorem liesRow_iff {A : AT} {i : Int} {es : List (ByteArray × Int)} : ∀ {l : List Tr}, LiesRow A i es l ↔ ∀ x ∈ l, ∃ j, i < j ∧ lk x.name es = some j ∧ Lies A x j := by
  intro l
  induction l with
  | nil => simp [LiesRow]
  | cons y r ih => simp only [LiesRow, ih, List.mem_cons, forall_eq_or_imp]
theorem Lies.frame {A A' : AT} : ∀ (t : Tr) (i : Int), Lies A t i → (∀ k n, i ≤ k → A.get k = some n → A'.get k = some n) → Lies A' t i := by
  refine Tr.ind ?_
  intro t ih i h hf
  rw [lies_iff] at h ⊢
  obtain ⟨n, h1, h2, h3, h4, h5, h6, h7⟩ := h
  refine ⟨n, hf i n (Int.le_refl _) h1, h2, h3, h4, h5, h6, ?_⟩
  rw [liesRow_iff] at h7 ⊢
  intro x hx
  obtain ⟨j, q1, q2, q3⟩ := h7 x hx
  exact ⟨j, q1, q2, ih x hx j q3 fun k n hk hn => hf k n (by omega) hn⟩
theorem leB_refl (x : List UInt8) : leB x x = true := (leB_iff x x).2 (List.le_refl x)
theorem ltB_trans {a b c : ByteArray} (h1 : ltB a b = true) (h2 : ltB b c = true) : ltB a c = true := by
  unfold ltB at *
  simp only [Bool.not_eq_true'] at *
  rw [← Bool.not_eq_true, leB_iff] at *
  intro h
  have hbc : b.data.toList ≤ c.data.toList := (List.le_total _ _).resolve_right h2
  exact h1 (List.le_trans hbc h)
theorem ltB_irrefl (a : ByteArray) : ltB a a = false := by unfold ltB; rw [leB_refl]; rfl
theorem mayRow_lt : ∀ {l : List Tr} {p : ByteArray}, Tr.mayRow (some p) l = true → ∀ x ∈ l, ltB p x.name = true := by
  intro l
  induction l with
  | nil => intro p _ x hx; simp at hx
  | cons y r ih =>
    intro p h x hx
    simp only [Tr.mayRow, Bool.and_eq_true, above] at h
    rcases List.mem_cons.1 hx with e | e
    · subst e; exact h.2.2.1
    · exact ltB_trans h.2.2.1 (ih h.2.2.2 x e)
theorem mayRow_weaken {l : List Tr} {p : Option ByteArray} (h : Tr.mayRow p l = true) : Tr.mayRow none l = true := by
  cases l with
  | nil => rfl
  | cons y r => simp only [Tr.mayRow, Bool.and_eq_true, above] at h ⊢; exact ⟨h.1, h.2.1, trivial, h.2.2.2⟩
theorem mayName_named {s : ByteArray} (h : mayName s = true) : namedE s = 0 := by
  unfold mayName at h
  simp only [Bool.and_eq_true, decide_eq_true_eq, Bool.not_eq_true'] at h
  obtain ⟨h1, h2, h3, h4, h5⟩ := h
  unfold namedE
  have h0 : sEq s ⟨⟨[]⟩⟩ = false := by
    refine sEq_false ?_
    intro e; rw [e] at h1; exact absurd h1 (by decide)
  rw [if_neg (by omega), h0, h3, h4, h5]; rfl
theorem may_like {t : Tr} (h : t.may = true) : likeE t.kind (modeOf t.kind t.exec) t.data = 0 := by
  rw [Tr.may_eq] at h
  unfold likeE kindOkE modeOf
  by_cases k1 : t.kind = 1
  · rw [k1]; cases t.exec <;> rfl
  · rw [if_neg k1] at h
    by_cases k3 : t.kind = 3
    · rw [if_pos k3] at h
      simp only [Bool.and_eq_true, Bool.not_eq_true'] at h
      rw [k3, h.2.1]
      simp [lk, h.2.2]
    · rw [if_neg k3] at h
      by_cases k2 : t.kind = 2
      · rw [if_pos k2] at h
        simp only [Bool.and_eq_true, Bool.not_eq_true'] at h
        rw [k2, h.1]
        simp [lk, h.2.1]
      · rw [if_neg k2] at h; cases h
theorem room_of {A : AT} (hI : Inv A) {n : Nat} (h1 : A.ui + 1 ≤ A.qi) (h2 : A.ub + n ≤ A.qb) : A.roomE 1 (n : Int) = 0 := by
  have q1 := hI.uq
  have q2 := hI.bq
  have q3 := hI.ui_pos
  have q4 := hI.ub_pos
  unfold AT.roomE
  rw [wr_id (by omega) (by omega), wr_id (by omega) (by omega), if_pos ⟨h1, h2⟩]
theorem countRow_total : ∀ l : List Tr, Tr.countRow l ≤ Tr.totalRow l ∧ Tr.bytesRow l ≤ Tr.totalRow l := by
  have key : ∀ t : Tr, t.count ≤ t.total ∧ t.bytes ≤ t.total := by
    refine Tr.ind ?_
    intro t ih
    have htot : 1 + t.data.size + Tr.totalRow t.kids ≤ t.total := by obtain ⟨n, k, e, d, kids⟩ := t; simp only [Tr.total, Tr.kids, Tr.data]; omega
    rw [Tr.count_eq, Tr.bytes_eq]
    have : ∀ l : List Tr, (∀ x ∈ l, x ∈ t.kids) → Tr.countRow l ≤ Tr.totalRow l ∧ Tr.bytesRow l ≤ Tr.totalRow l := by
      intro l
      induction l with
      | nil => intro _; simp [Tr.countRow, Tr.bytesRow]
      | cons x r ihl =>
        intro hx
        have a := ih x (hx x (List.mem_cons_self ..))
        have b := ihl fun y hy => hx y (List.mem_cons_of_mem _ hy)
        simp only [Tr.countRow, Tr.bytesRow, Tr.totalRow]; omega
    have := this t.kids (fun _ h => h)
    omega
  intro l
  induction l with
  | nil => simp [Tr.countRow, Tr.bytesRow]
  | cons x r ihl => have := key x; simp only [Tr.countRow, Tr.bytesRow, Tr.totalRow]; omega
/-- what laying gives -/
structure Laid (A : AT) (dir : Int) (name : ByteArray) (t : Tr) (r : Int × AT) : Prop where
  ok : r.1 = 0
  ui : r.2.ui = A.ui + t.count
  ub : r.2.ub = A.ub + t.bytes
  last : r.2.last = A.last + t.count
  lies : Lies r.2 t (A.last + 1)
  atDir : ∀ nd, A.get dir = some nd → r.2.get dir = some { nd with ents := up name (A.last + 1) nd.ents }
  old : ∀ k n, A.get k = some n → k ≠ dir → r.2.get k = some n
theorem lay_done : ∀ (t : Tr) (A : AT) (N : Nat) (dir : Int) (name : ByteArray), Inv A → Bd N A → N + t.total < 4611686018427387904 → (∀ d, A.isDir dir → A.deep 12 dir = some d → d + t.levels ≤ 12) → A.isDir dir → namedE name = 0 → A.find dir name = none → t.may = true → A.ui + t.count ≤ A.qi → A.ub + t.bytes ≤ A.qb →
    Laid A dir name t (AT.lay dir name t A) := by
  refine Tr.ind ?_
  intro t ih A N dir name hI hB hN hd hdir hnm hfn hmay hq1 hq2
  have htot : 1 + t.data.size + Tr.totalRow t.kids ≤ t.total := by obtain ⟨n, k, e, d, kids⟩ := t; simp only [Tr.total, Tr.kids, Tr.data]; omega
  have hce := t.count_eq
  have hbe := t.bytes_eq
  have hl : A.last < 4611686018427387904 := by have := hB.last; omega
  have hp := hI.last_pos
  have u1 := hI.ui_pos
  have u2 := hI.ub_pos
  have u3 := hI.uq
  have u4 := hI.bq
  have he : A.makeE dir name t.kind (modeOf t.kind t.exec) t.data = 0 := makeE_of hdir hnm (may_like hmay) hfn (room_of hI (by omega) (by omega))
  obtain ⟨h1, h2, h3⟩ := makeR_ok (dir := dir) (name := name) (kind := t.kind) (mode := modeOf t.kind t.exec) (data := t.data) hI hB (by omega) (by omega) (made_deep hI hd)
  have hrow := made_row hI hl he hd
  obtain ⟨nd, hnd, hnd2⟩ := hdir
  have hG := made_get (name := name) (kind := t.kind) (mode := modeOf t.kind t.exec) (data := t.data) hI hl hnd
  have hE := made_eq (name := name) (kind := t.kind) (mode := modeOf t.kind t.exec) (data := t.data) hI hl hnd
  have hdl := hI.low dir nd hnd
  rw [lay_eq]
  rw [makeR_z he] at h1 h2 h3 ⊢
  rw [wr_id (x := A.last + 1) (by omega) (by omega)]
  simp only at *
  have hA1 : (A.made dir name t.kind (modeOf t.kind t.exec) t.data).ui = A.ui + 1 ∧ (A.made dir name t.kind (modeOf t.kind t.exec) t.data).ub = A.ub + t.data.size ∧ (A.made dir name t.kind (modeOf t.kind t.exec) t.data).last = A.last + 1 ∧ (A.made dir name t.kind (modeOf t.kind t.exec) t.data).qi = A.qi ∧ (A.made dir name t.kind (modeOf t.kind t.exec) t.data).qb = A.qb := by
    rw [hE]
    exact ⟨wr_id (by omega) (by omega), wr_id (by omega) (by omega), rfl, rfl, rfl⟩
  have key : ∀ (l dn : List Tr) (A1 : AT) (M : Nat) (es : List (ByteArray × Int)), t.kids = dn ++ l → Inv A1 → Bd M A1 → M + Tr.totalRow l ≤ N + t.total → RowD A1 (A.last + 1) l → Grows A A1 →
      A1.get (A.last + 1) = some { newN dir t.kind (modeOf t.kind t.exec) t.data with ents := es } → keysL es = dn.map Tr.name → LiesRow A1 (A.last + 1) es dn → A.last + 1 ≤ A1.last →
      A1.last + Tr.countRow l = A.last + t.count → A1.ui + Tr.countRow l = A.ui + t.count → A1.ub + Tr.bytesRow l = A.ub + t.bytes → A1.qi = A.qi → A1.qb = A.qb →
      (∀ k n, A.get k = some n → k ≠ dir → A1.get k = some n) → A1.get dir = some { nd with ents := up name (A.last + 1) nd.ents } →
      (∃ p, Tr.mayRow p l = true) → (∀ x ∈ dn, ∀ y ∈ l, ltB x.name y.name = true) → (l ≠ [] → t.kind = 2) → Laid A dir name t (AT.layRow (A.last + 1) l (0, A1)) := by
    intro l
    induction l with
    | nil =>
      intro dn A1 M es e1 a1 a2 a3 a4 a5 a6 a7 a8 a9 a10 a11 a12 a13 a14 a15 a16 a17 a18 a19
      simp only [AT.layRow, Tr.countRow, Tr.bytesRow, List.append_nil] at *
      subst e1
      refine ⟨rfl, by show A1.ui = _; omega, by show A1.ub = _; omega, by show A1.last = _; omega, ?_, ?_, a15⟩
      · rw [lies_iff]
        exact ⟨_, a6, rfl, rfl, rfl, rfl, a7, a8⟩
      · intro nd' hnd'; rw [hnd] at hnd'; cases hnd'; exact a16
    | cons x r ihl =>
      intro dn A1 M es e1 a1 a2 a3 a4 a5 a6 a7 a8 a9 a10 a11 a12 a13 a14 a15 a16 a17 a18 a19
      simp only [Tr.countRow, Tr.bytesRow, Tr.totalRow] at *
      obtain ⟨p, hp'⟩ := a17
      simp only [Tr.mayRow, Bool.and_eq_true] at hp'
      have hk2 := a19 (by simp)
      have hxin : x ∈ t.kids := by rw [e1]; simp
      have hdirI : A1.isDir (A.last + 1) := ⟨_, a6, hk2⟩
      have hnotin : x.name ∉ keysL es := by
        rw [a7]
        intro hm
        obtain ⟨y, hy, hyn⟩ := List.mem_map.1 hm
        have := a18 y hy x (List.mem_cons_self ..)
        rw [hyn, ltB_irrefl] at this; cases this
      have hlkn : lk x.name es = none := lk_none_iff.2 hnotin
      have hfx : A1.find (A.last + 1) x.name = none := by unfold AT.find; rw [a6]; exact hlkn
      have hc1 := Tr.count_eq x
      have L := ih x hxin A1 M (A.last + 1) x.name a1 a2 (by omega) a4.head hdirI (mayName_named hp'.1) hfx hp'.2.1 (by omega) (by omega)
      obtain ⟨b1, b2, b3⟩ := lay_ok x A1 M (A.last + 1) x.name a1 a2 (by omega) a4.head
      rw [AT.layRow, if_pos rfl]
      generalize hres : AT.lay (A.last + 1) x.name x A1 = res at *
      obtain ⟨re, A2⟩ := res
      have h0 : re = 0 := L.ok
      subst h0
      have L2 : A2.ui = A1.ui + x.count := L.ui
      have L3 : A2.ub = A1.ub + x.bytes := L.ub
      have L4 : A2.last = A1.last + x.count := L.last
      have L5 : Lies A2 x (A1.last + 1) := L.lies
      have L6 : A2.get (A.last + 1) = some { newN dir t.kind (modeOf t.kind t.exec) t.data with ents := up x.name (A1.last + 1) es } := L.atDir _ a6
      have L7 : ∀ k n, A1.get k = some n → k ≠ A.last + 1 → A2.get k = some n := L.old
      have hgr2 : Grows A1 A2 := b3
      refine ihl (dn ++ [x]) A2 (M + x.total) (up x.name (A1.last + 1) es) (by rw [e1]; simp) b1 b2 (by omega) (a4.next a1 b3) (a5.trans b3) L6 ?_ ?_ (by omega) (by omega) (by omega) (by omega) (by rw [hgr2.qi]; exact a13) (by rw [hgr2.qb]; exact a14) ?_ ?_ ⟨some x.name, hp'.2.2.2⟩ ?_ (fun _ => hk2)
      · rw [keys_up_none hlkn, a7]; simp
      · rw [liesRow_iff] at a8 ⊢
        intro z hz
        rcases List.mem_append.1 hz with hz | hz
        · obtain ⟨j, q1, q2, q3⟩ := a8 z hz
          refine ⟨j, q1, ?_, q3.frame z j fun k n hk hn => L7 k n hn (by omega)⟩
          rw [lk_up]
          have : (z.name == x.name) = false := by
            cases hb : (z.name == x.name) with
            | false => rfl
            | true => rw [eq_of_beq hb, hlkn] at q2; cases q2
          rw [this]; exact q2
        · simp at hz; subst hz
          exact ⟨A1.last + 1, by omega, by rw [lk_up]; simp, L5⟩
      · intro k n hk hkd
        refine L7 k n (a15 k n hk hkd) ?_
        have := (hI.low k n hk).2; omega
      · exact L7 dir _ a16 (by omega)
      · intro y hy z hz
        rcases List.mem_append.1 hy with hy | hy
        · exact a18 y hy z (List.mem_cons_of_mem _ hz)
        · simp at hy; subst hy; exact mayRow_lt hp'.2.2.2 z hz
  have hne : A.last + 1 ≠ dir := by omega
  refine key t.kids [] (A.made dir name t.kind (modeOf t.kind t.exec) t.data) (N + 1) [] rfl h1 h2 (by omega) hrow h3 ?_ rfl ?_ (by rw [hA1.2.2.1]; omega) (by rw [hA1.2.2.1]; omega) (by rw [hA1.1]; omega) (by rw [hA1.2.1]; omega) hA1.2.2.2.1 hA1.2.2.2.2 ?_ ?_ ?_ (by simp) ?_
  · rw [hG, if_neg hne, if_pos rfl]; rfl
  · simp [LiesRow]
  · intro k n hk hkd
    rw [hG, if_neg hkd]
    have := (hI.low k n hk).2
    rw [if_neg (by omega)]; exact hk
  · rw [hG, if_pos rfl]
  · rcases may_kids hmay with h0 | ⟨_, h0⟩
    · exact ⟨none, by rw [h0]; rfl⟩
    · exact ⟨none, h0⟩
  · intro hne
    rcases may_kids hmay with h0 | ⟨h0, _⟩
    · exact absurd h0 hne
    · exact h0
end Go.Wk

/- A FILE SYSTEM's OPERATIONS keep what always holds; what fails changes nothing. -/
namespace Go.Wk
open Go Go.HL
structure OpOk (N : Nat) (A : AT) (r : Int × AT) : Prop where
  inv : Inv r.2
  bd : Bd N r.2
  same : r.1 ≠ 0 → r.2 = A
  qi : r.2.qi = A.qi
  qb : r.2.qb = A.qb
variable {A : AT} {N : Nat}
theorem OpOk.self (h : Inv A) (hb : Bd N A) (e : Int) : OpOk N A (e, A) := ⟨h, hb, fun _ => rfl, rfl, rfl⟩
theorem OpOk.mono {M : Nat} {r : Int × AT} (h : OpOk N A r) (hl : N ≤ M) : OpOk M A r := ⟨h.inv, h.bd.mono hl, h.same, h.qi, h.qb⟩
theorem make_op (h : Inv A) (hb : Bd N A) (hN : N < 4611686018427387904) {dir : Int} {name : ByteArray} {kind mode : Int} {data : ByteArray} (hs : data.size < 4611686018427387904) (hdp : A.isDir dir → kind = 2 → ∃ d, A.deep 11 dir = some d) : OpOk (N + 1) A ((A.makeR dir name kind mode data).2.1, (A.makeR dir name kind mode data).2.2) := by
  obtain ⟨h1, h2, h3⟩ := makeR_ok (dir := dir) (name := name) (kind := kind) (mode := mode) (data := data) h hb hN hs hdp
  refine ⟨h1, h2, fun he => ?_, h3.qi, h3.qb⟩
  by_cases he' : A.makeE dir name kind mode data = 0
  · rw [makeR_z he'] at he; exact absurd rfl he
  · rw [makeR_n he']
theorem mkdirF_ok (h : Inv A) (hb : Bd N A) (hN : N < 4611686018427387904) (cwd path : ByteArray) : OpOk (N + 1) A (A.mkdirF cwd path) := by
  unfold AT.mkdirF
  simp only
  by_cases h1 : (A.freshP cwd path).1 ≠ 0
  · rw [if_pos h1]; exact OpOk.self h (hb.mono (by omega)) _
  rw [if_neg h1]
  by_cases h2 : (A.deep 13 (A.freshP cwd path).2.dir).getD 0 ≥ 12
  · rw [if_pos h2]; exact OpOk.self h (hb.mono (by omega)) _
  rw [if_neg h2]
  refine make_op h hb hN (by decide) fun hd _ => ?_
  obtain ⟨d, hd13, hd12, _⟩ := h.deep13 hd
  rw [hd13] at h2
  simp only [Option.getD_some] at h2
  exact ⟨d, deep_low hd12 11 (by omega)⟩
theorem symlinkF_ok (h : Inv A) (hb : Bd N A) (hN : N < 4611686018427387904) (cwd target path : ByteArray) : OpOk (N + 1) A (A.symlinkF cwd target path) := by
  unfold AT.symlinkF
  simp only
  cases hl : linkOk target with
  | false => exact OpOk.self h (hb.mono (by omega)) _
  | true =>
    simp only [Bool.true_eq_false, if_false]
    by_cases h1 : (A.freshP cwd path).1 ≠ 0
    · rw [if_pos h1]; exact OpOk.self h (hb.mono (by omega)) _
    rw [if_neg h1]
    refine make_op h hb hN ?_ (fun _ hk => by cases hk)
    unfold linkOk at hl
    simp only [Bool.and_eq_true, decide_eq_true_eq] at hl
    omega
theorem writeF_ok (h : Inv A) (hb : Bd N A) (hN : N < 4611686018427387904) (cwd path data : ByteArray) (more : Bool) (hs : data.size < 2305843009213693952) : OpOk (N + 1) A (A.writeF cwd path data more) := by
  unfold AT.writeF
  simp only
  by_cases h1 : (A.locate cwd path true).1 ≠ 0
  · rw [if_pos h1]; exact OpOk.self h (hb.mono (by omega)) _
  rw [if_neg h1]
  by_cases h2 : (A.locate cwd path true).2.there = false
  · rw [if_pos h2]; exact make_op h hb hN (by omega) (fun _ hk => by cases hk)
  rw [if_neg h2]
  by_cases h3 : A.kind (A.locate cwd path true).2.ino = 2
  · rw [if_pos h3]; exact OpOk.self h (hb.mono (by omega)) _
  rw [if_neg h3]
  obtain ⟨a, b, c, d, e⟩ := writeR_ok h hb (A.locate cwd path true).2.ino (if more then A.data (A.locate cwd path true).2.ino ++ data else data) (by
    have hq := h.bq
    cases more with
    | false => simp only [Bool.false_eq_true, if_false]; omega
    | true =>
      simp only [if_true, ByteArray.size_append]
      have : (A.data (A.locate cwd path true).2.ino).size ≤ 1073741824 := by
        unfold AT.data
        cases hg : A.get (A.locate cwd path true).2.ino with
        | none => decide
        | some n => have := h.size_le hg; show n.data.size ≤ _; omega
      omega)
  exact ⟨a, b.mono (by omega), c, d, e⟩
theorem chmodF_ok (h : Inv A) (hb : Bd N A) (cwd path : ByteArray) (mode : Int) : OpOk N A (A.chmodF cwd path mode) := by
  unfold AT.chmodF
  simp only
  split
  · exact OpOk.self h hb _
  split
  · exact OpOk.self h hb _
  obtain ⟨a, b, c, d, e⟩ := chmodR_ok h hb (A.with_ cwd path true).2.1 mode
  exact ⟨a, b, c, d, e⟩
theorem removeF_ok (h : Inv A) (hb : Bd N A) (hN : N < 4611686018427387904) (cwd path : ByteArray) : OpOk N A (A.removeF cwd path) := by
  unfold AT.removeF
  simp only
  split
  · exact OpOk.self h hb _
  split
  · exact OpOk.self h hb _
  split
  · exact OpOk.self h hb _
  split
  · exact OpOk.self h hb _
  obtain ⟨a, b, c, d, e⟩ := unlinkR_ok h hb hN (A.locate cwd path false).2.dir (A.locate cwd path false).2.name
  exact ⟨a, b, c, d, e⟩
theorem check_z {t : Tr} (h : t.check = 0) : t.tooDeep = false ∧ t.name = ⟨⟨[]⟩⟩ ∧ t.may = true ∧ t.sizeT = ((t.count : Int), (t.bytes : Int)) ∧ t.count ≤ 2000 ∧ t.bytes ≤ 100000 := by
  unfold Tr.check at h
  cases h1 : t.tooDeep with
  | true => rw [h1] at h; simp at h
  | false =>
    rw [h1] at h
    simp only [Bool.false_eq_true, if_false] at h
    by_cases h2 : sEq t.name ⟨⟨[]⟩⟩ = false ∨ t.may = false
    · rw [if_pos h2] at h; cases h
    rw [if_neg h2] at h
    have hm : t.may = true := by
      cases hm : t.may with
      | true => rfl
      | false => exact absurd (.inr hm) h2
    have hn : t.name = ⟨⟨[]⟩⟩ := by
      cases hn : sEq t.name ⟨⟨[]⟩⟩ with
      | true => exact sEq_iff.1 hn
      | false => exact absurd (.inl hn) h2
    have hs : t.sizeT = ((t.count : Int), (t.bytes : Int)) := by
      unfold Tr.sizeT; rw [h1]; simp only [Bool.false_eq_true, if_false]; exact may_size t hm h1
    by_cases h3 : t.sizeT.1 > 2000 ∨ t.sizeT.2 > 100000
    · rw [if_pos h3] at h; cases h
    rw [hs] at h3
    simp only at h3
    refine ⟨rfl, hn, hm, hs, ?_, ?_⟩ <;> omega
theorem freshP_place (hI : Inv A) {cwd path : ByteArray} (h : (A.freshP cwd path).1 = 0) : PlOk A (A.freshP cwd path).2 ∧ (A.freshP cwd path).2.there = false := by
  unfold AT.freshP at h ⊢
  simp only at h ⊢
  by_cases he : (A.locate cwd path false).1 = 0
  case neg => rw [if_pos he] at h; exact absurd h he
  rw [if_neg (by simpa using he)] at h ⊢
  cases ht : (A.locate cwd path false).2.there with
  | true => rw [ht] at h; simp at h
  | false => exact ⟨locate_place hI _ _ _ he, ht⟩
/-- Lay: either nothing, or all -/
theorem layF_cases (h : Inv A) (hb : Bd N A) (path : ByteArray) (t : Tr) (hN : N + t.total < 4611686018427387904) : ((A.layF path t).1 ≠ 0 ∧ (A.layF path t).2 = A) ∨
    (t.check = 0 ∧ (A.freshP ⟨⟨[47]⟩⟩ path).1 = 0 ∧ A.layF path t = AT.lay (A.freshP ⟨⟨[47]⟩⟩ path).2.dir (A.freshP ⟨⟨[47]⟩⟩ path).2.name t A ∧ (∀ d, A.isDir (A.freshP ⟨⟨[47]⟩⟩ path).2.dir → A.deep 12 (A.freshP ⟨⟨[47]⟩⟩ path).2.dir = some d → d + t.levels ≤ 12) ∧
      Laid A (A.freshP ⟨⟨[47]⟩⟩ path).2.dir (A.freshP ⟨⟨[47]⟩⟩ path).2.name t (A.layF path t)) := by
  generalize hr : A.layF path t = r
  unfold AT.layF at hr
  simp only at hr
  by_cases h1 : t.check ≠ 0
  · rw [if_pos h1] at hr; subst hr; exact .inl ⟨h1, rfl⟩
  rw [if_neg h1] at hr
  by_cases h2 : (A.freshP ⟨⟨[47]⟩⟩ path).1 ≠ 0
  · rw [if_pos h2] at hr; subst hr; exact .inl ⟨h2, rfl⟩
  rw [if_neg h2] at hr
  have hc : t.check = 0 := by simpa using h1
  have hf : (A.freshP ⟨⟨[47]⟩⟩ path).1 = 0 := by simpa using h2
  obtain ⟨hp, ht⟩ := freshP_place h hf
  have hnn := hp.notThere ht
  obtain ⟨hnm, hfd⟩ := hp.named hnn
  rw [ht] at hfd
  obtain ⟨d, hd13, hd12, _⟩ := h.deep13 hp.1
  rw [hd13] at hr
  simp only [Option.getD_some] at hr
  by_cases h3 : d + t.levels > 12
  · rw [if_pos h3] at hr; subst hr; exact .inl ⟨(by show (3 : Int) ≠ 0; decide), rfl⟩
  rw [if_neg h3] at hr
  by_cases h4 : A.ui + t.sizeT.1 > A.qi ∨ A.ub + t.sizeT.2 > A.qb
  · rw [if_pos h4] at hr; subst hr; exact .inl ⟨(by show (10 : Int) ≠ 0; decide), rfl⟩
  rw [if_neg h4] at hr
  obtain ⟨c1, c2, c3, c4, c5, c6⟩ := check_z hc
  rw [c4] at h4
  simp only at h4
  have hdeep : ∀ d, A.isDir (A.freshP ⟨⟨[47]⟩⟩ path).2.dir → A.deep 12 (A.freshP ⟨⟨[47]⟩⟩ path).2.dir = some d → d + t.levels ≤ 12 := by
    intro d' _ hd'
    rw [hd12] at hd'; cases hd'; omega
  have L := lay_done t A N _ _ h hb hN hdeep hp.1 hnm hfd c3 (by omega) (by omega)
  rw [hr] at L
  exact .inr ⟨hc, hf, hr.symm, hdeep, L⟩
theorem layF_ok (h : Inv A) (hb : Bd N A) (path : ByteArray) (t : Tr) (hN : N + t.total < 4611686018427387904) : OpOk (N + t.total) A (A.layF path t) := by
  rcases layF_cases h hb path t hN with ⟨h1, h2⟩ | ⟨_, _, h3, h4, h5⟩
  · refine ⟨by rw [h2]; exact h, by rw [h2]; exact hb.mono (by omega), fun _ => h2, by rw [h2], by rw [h2]⟩
  · obtain ⟨a, b, c⟩ := lay_ok t A N (A.freshP ⟨⟨[47]⟩⟩ path).2.dir (A.freshP ⟨⟨[47]⟩⟩ path).2.name h hb hN h4
    rw [← h3] at a b c
    exact ⟨a, b, fun he => absurd h5.ok he, c.qi, c.qb⟩
end Go.Wk

/- THE STATEMENTS OF LAYER 8: the chapter's rows. -/
set_option maxRecDepth 100000
namespace Go.Proofs.YtlpcehbfoogejaaGreatDoor
open Go Go.HL Go.Wk
attribute [local irreducible] ptrW ifW brW andW rdT alW letJ stW muW biW vaW imW callT cvalT app callW invW callVW sizeT oW nilF oneK loopW rfW funW begW roundK exW idxW Gr Put
def bl (l : List UInt8) : ByteArray := ⟨⟨l⟩⟩
/-- the chapter's file system, step by step -/
def w0 : AT := newT 60 2000
def w1 : AT := (w0.mkdirF (bl [47]) (bl [97])).2
def w2 : AT := (w1.writeF (bl [47, 97]) (bl [102]) (bl [104, 105]) false).2
def w3 : AT := (w2.symlinkF (bl [47]) (bl [97, 47, 102]) (bl [108])).2
def w4 : AT := (w3.symlinkF (bl [47]) (bl [109]) (bl [109])).2
def w5 : AT := (w4.writeF (bl [47]) (bl [108]) (bl [33]) true).2
theorem w0_ok : Inv w0 ∧ Bd 1 w0 := newT_ok rfl
theorem w1_ok : OpOk 2 w0 (w0.mkdirF (bl [47]) (bl [97])) := mkdirF_ok w0_ok.1 w0_ok.2 (by decide) _ _
theorem w2_ok : OpOk 3 w1 (w1.writeF (bl [47, 97]) (bl [102]) (bl [104, 105]) false) := writeF_ok w1_ok.inv w1_ok.bd (by decide) _ _ _ _ (by decide)
theorem w3_ok : OpOk 4 w2 (w2.symlinkF (bl [47]) (bl [97, 47, 102]) (bl [108])) := symlinkF_ok w2_ok.inv w2_ok.bd (by decide) _ _ _
theorem w4_ok : OpOk 5 w3 (w3.symlinkF (bl [47]) (bl [109]) (bl [109])) := symlinkF_ok w3_ok.inv w3_ok.bd (by decide) _ _ _
theorem w5_ok : OpOk 6 w4 (w4.writeF (bl [47]) (bl [108]) (bl [33]) true) := writeF_ok w4_ok.inv w4_ok.bd (by decide) _ _ _ _ (by decide)
theorem i1 : Inv w1 := w1_ok.inv
theorem d1 : Bd 2 w1 := w1_ok.bd
theorem i2 : Inv w2 := w2_ok.inv
theorem d2 : Bd 3 w2 := w2_ok.bd
theorem i3 : Inv w3 := w3_ok.inv
theorem d3 : Bd 4 w3 := w3_ok.bd
theorem i4 : Inv w4 := w4_ok.inv
theorem d4 : Bd 5 w4 := w4_ok.bd
theorem i5 : Inv w5 := w5_ok.inv
theorem d5 : Bd 6 w5 := w5_ok.bd
theorem v1 : (w0.mkdirF (bl [47]) (bl [97])).1 = 0 := by decide +kernel
theorem v2 : (w1.writeF (bl [47, 97]) (bl [102]) (bl [104, 105]) false).1 = 0 := by decide +kernel
theorem v3 : (w2.symlinkF (bl [47]) (bl [97, 47, 102]) (bl [108])).1 = 0 := by decide +kernel
theorem v4 : (w3.symlinkF (bl [47]) (bl [109]) (bl [109])).1 = 0 := by decide +kernel
theorem v5 : (w4.writeF (bl [47]) (bl [108]) (bl [33]) true).1 = 0 := by decide +kernel
theorem r1 : w4.read (bl [47]) (bl [108]) = (0, bl [104, 105]) := by decide +kernel
theorem r2 : w4.read (bl [47, 97]) (bl [46, 46, 47, 46, 46, 47, 97, 47, 46, 47, 102]) = (0, bl [104, 105]) := by decide +kernel
theorem r3 : w4.read (bl [47]) (bl [109]) = (9, bl []) := by decide +kernel
theorem r4 : w4.read (bl [47]) (bl [97]) = (7, bl []) := by decide +kernel
theorem r5 : w5.read (bl [47, 97]) (bl [102]) = (0, bl [104, 105, 33]) := by decide +kernel
theorem x1 : (w5.stat (bl [47]) (bl [108]) false).1 = 0 ∧ (w5.stat (bl [47]) (bl [108]) false).2.kind = 3 := by decide +kernel
theorem x2 : w5.realF (bl [47, 97]) (bl [46, 46, 47, 108]) = (0, bl [47, 97, 47, 102]) := by decide +kernel
theorem x3 : w5.realF (bl [47]) (bl [46, 46]) = (0, bl [47]) := by decide +kernel
theorem x4 : (w5.mkdirF (bl [47]) (bl [97, 47, 102, 47, 120])).1 = 8 := by decide +kernel
theorem x5 : (w5.removeF (bl [47]) (bl [97])).1 = 20 := by decide +kernel
theorem Off.new {σ σ' : H} {B : Nat → Prop} (hg : Gr σ σ') (h : ∀ b, B b → σ b = none) : Off σ σ' B := ⟨hg, fun b o hb hB => by rw [h b hB] at hb; cases hb⟩
theorem s_quota8 {σ : H} {K : Value → H → Prop} (hK : K (.agg ⟨[.int .i64 60, .int .i64 2000]⟩) σ) : callW Tryz.prog 97 [] K σ := by
  refine pure_i _ hK (c97 ?_)
  unfold g97
  refine al_i ?_; intro b1 σ1 g1 e1 n1
  refine st_i2 e1 sz_Quota (by rfl) (by rfl) ?_; intro σ2 p2
  refine rd_G (rdA_of' p2.same (by rfl)) ?_
  (refine app_of rfl ?_; try dsimp only)
  exact ⟨rfl, g1.putF p2 n1⟩
theorem s_small8 {σ : H} {K : Value → H → Prop} (hK : ∀ bf σ' B', FsAt σ' bf w4 B' → Off σ σ' B' → K (.pointer (some ⟨bf, 0, none⟩)) σ') : callW Tryz.prog 43 [] K σ := by
  refine c43 ?_
  unfold g43
  refine call_i (s_quota8 ?_)
  (refine app_of rfl ?_; try dsimp only)
  refine call_i (s_New 60 2000 (fun h => by cases h) ?_)
  intro _ bf σ1 B1 F1 g1 hf1
  have O1 := Off.new g1 hf1
  refine app_P ?_
  refine j_d ?_
  refine br_f rfl ?_
  refine call_i (s_Mkdir w0_ok.1 w0_ok.2 (by decide) F1 _ _ ?_)
  intro σ2 B2 F2 S2
  have O2 := O1.sep S2
  refine app_I ?_
  have e := v1
  unfold bl at e
  show brW ((w0.mkdirF ⟨⟨[47]⟩⟩ ⟨⟨[97]⟩⟩).1 != 0) _ _ _
  rw [e]
  refine br_f rfl ?_
  refine call_i (s_Write (A := w1) i1 d1 (by decide) F2 _ _ _ _ (by decide) ?_)
  intro σ3 B3 F3 S3
  have O3 := O2.sep S3
  refine app_I ?_
  have e := v2
  unfold bl at e
  rw [e]
  refine br_f rfl ?_
  refine call_i (s_Symlink (A := w2) i2 d2 (by decide) F3 _ _ _ ?_)
  intro σ4 B4 F4 S4
  have O4 := O3.sep S4
  refine app_I ?_
  have e := v3
  unfold bl at e
  rw [e]
  refine br_f rfl ?_
  refine call_i (s_Symlink (A := w3) i3 d3 (by decide) F4 _ _ _ ?_)
  intro σ5 B5 F5 S5
  have O5 := O4.sep S5
  refine app_I ?_
  have e := v4
  unfold bl at e
  rw [e]
  exact br_f rfl (hK bf σ5 B5 F5 O5)
theorem s_reads8 {A : AT} {σ : H} {bf : Nat} {B : Nat → Prop} (hF : FsAt σ bf A B) (cwd path want : ByteArray) (e : Int) {K : Value → H → Prop} (hK : K (.bool (strEq (A.read cwd path).2 want && ((A.read cwd path).1 == e))) σ) :
    callW Tryz.prog 44 [.pointer (some ⟨bf, 0, none⟩), .string cwd, .string path, .string want, .int .i64 e] K σ := by
  refine c44 _ _ _ _ _ ?_
  unfold g44
  refine call_i (s_Read hF cwd path ?_)
  (refine app_of rfl ?_; try dsimp only)
  cases h : strEq (A.read cwd path).2 want with
  | true => rw [h] at hK; exact br_t rfl hK
  | false => rw [h] at hK; exact br_f rfl hK
theorem strEq_self (s : ByteArray) : strEq s s = true := strEq_iff.2 rfl
theorem s_works8 {σ : H} {K : Value → H → Prop} (hK : K (.bool true) σ) : callW Tryz.prog 13 [] K σ := by
  refine pure_i _ hK (c13 ?_)
  clear hK
  unfold g13
  refine call_i (s_small8 ?_)
  intro bf σ1 B1 F1 O1
  refine app_P ?_
  refine j_i (fun j => ∀ σ2 B2, FsAt σ2 bf w5 B2 → Off σ σ2 B2 → j (some ⟨bf, 0, none⟩) false σ2) ?_ ?_
  · intro σ2 B2 F2 O2
    refine br_f rfl ?_
    refine call_i (s_Stat F2 _ _ _ ?_)
    have e := x1
    unfold bl at e
    obtain ⟨ea, eb⟩ := e
    rw [ea]
    unfold inV
    (refine app_of rfl ?_; try dsimp only)
    refine al_i ?_; intro b10 σ3 g3 e3 n3
    refine st_i2 e3 sz_Inode (by rfl) (by rfl) ?_; intro σ4 p4
    have hg4 : Gr σ2 σ4 := g3.putF p4 n3
    have F4 := F2.gr hg4
    have O4 := O2.gr hg4
    have k10 := p4.same
    refine call_i (s_Real i5 d5 (by decide) F4 _ _ ?_)
    have e := x2
    unfold bl at e
    rw [e]
    (refine app_of rfl ?_; try dsimp only)
    refine call_i (s_Real i5 d5 (by decide) F4 _ _ ?_)
    have e := x3
    unfold bl at e
    rw [e]
    (refine app_of rfl ?_; try dsimp only)
    refine br_t rfl (rd_I (rdC_of k10 (by rfl)) ?_)
    rw [eb]
    refine br_t rfl (br_t rfl (br_t (strEq_self _) (br_t rfl (br_t (strEq_self _) ?_))))
    refine call_i (s_Mkdir i5 d5 (by decide) F4 _ _ ?_)
    intro σ5 B5 F5 S5
    refine app_I ?_
    have hsame := (mkdirF_ok i5 d5 (by decide) (bl [47]) (bl [97, 47, 102, 47, 120])).same (by rw [x4]; decide)
    have e := x4
    unfold bl at e hsame
    rw [e]
    have F5' : FsAt σ5 bf w5 B5 := by have := F5; rw [show (w5.mkdirF ⟨⟨[47]⟩⟩ ⟨⟨[97, 47, 102, 47, 120]⟩⟩).2 = w5 from hsame] at this; exact this
    refine br_t rfl ?_
    refine call_i (s_Remove i5 d5 (by decide) F5' _ _ ?_)
    intro σ6 B6 F6 S6
    refine app_I ?_
    have e := x5
    unfold bl at e
    show (fun u σ' => u = Value.bool true ∧ Gr σ σ') (.bool ((w5.removeF ⟨⟨[47]⟩⟩ ⟨⟨[97]⟩⟩).1 == 20)) σ6
    rw [e]
    exact ⟨rfl, ((O4.sep S5).sep S6).1⟩
  · intro j hj
    refine br_f rfl ?_
    refine call_i (s_reads8 F1 _ _ _ _ (app_B ?_))
    have e := r1
    unfold bl at e
    rw [e]
    refine br_f (by rw [strEq_self]; rfl) ?_
    refine call_i (s_reads8 F1 _ _ _ _ (app_B ?_))
    have e := r2
    unfold bl at e
    rw [e]
    refine br_f (by rw [strEq_self]; rfl) ?_
    refine call_i (s_reads8 F1 _ _ _ _ (app_B ?_))
    have e := r3
    unfold bl at e
    rw [e]
    refine br_f (by rw [strEq_self]; rfl) ?_
    refine call_i (s_reads8 F1 _ _ _ _ (app_B ?_))
    have e := r4
    unfold bl at e
    rw [e]
    refine br_f (by rw [strEq_self]; rfl) ?_
    refine call_i (s_Write i4 d4 (by decide) F1 _ _ _ _ (by decide) ?_)
    intro σ2 B2 F2 S2
    refine app_I ?_
    have e := v5
    unfold bl at e
    show brW ((w4.writeF ⟨⟨[47]⟩⟩ ⟨⟨[108]⟩⟩ ⟨⟨[33]⟩⟩ true).1 != 0) _ _ _
    rw [e]
    refine br_f rfl ?_
    refine call_i (s_reads8 (A := w5) F2 _ _ _ _ (app_B ?_))
    have e := r5
    unfold bl at e
    rw [e, strEq_self]
    exact hj σ2 B2 F2 (O1.sep S2)
theorem s_text8 (s : ByteArray) {σ : H} {K : Value → H → Prop} (hK : K (.string (s.extract 0 (min s.size 300))) σ) : callW Tryz.prog 20 [.string s] K σ := by
  refine c20 _ ?_
  unfold g20
  have e : (if 300 < ((s.size : Nat) : Int) then (300 : Int) else ((s.size : Nat) : Int)).toNat = min s.size 300 := by split <;> omega
  rw [e]
  refine if_i ⟨bnd_some (by split <;> omega) (by split <;> omega), bnd_none⟩ hK
end Go.Proofs.YtlpcehbfoogejaaGreatDoor

