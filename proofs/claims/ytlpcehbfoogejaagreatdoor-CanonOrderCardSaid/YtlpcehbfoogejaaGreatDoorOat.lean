/- A part of the proof: In which order things are made, and where they lay ahead, changes nothing of the tree. -/
import Derived.Test.YtlpcehbfoogejaaGreatDoorOas
import Derived.Laws.Runes
/- WHAT IS ASKED OF THE LIBRARY: strings.ContainsAny at "/\x00". -/
set_option maxRecDepth 100000
namespace Go.Proofs.YtlpcehbfoogejaaGreatDoor
open Go Go.HL Go.Wk
attribute [local irreducible] ptrW ifW brW andW rdT alW letJ stW muW biW vaW imW callT cvalT app callW invW callVW sizeT oW nilF oneK loopW rfW funW begW roundK exW idxW Gr Put
def sl0 : ByteArray := ⟨⟨[47, 0]⟩⟩
theorem idx_i {s : ByteArray} {i : Nat} {c : UInt8} {g : UInt8 → H → Prop} {σ : H} (h : s[i]? = some c) (hg : g c σ) : idxW s (i : Int) g σ := by
  unfold idxW
  rw [if_pos (by omega)]
  have : ((i : Int)).toNat = i := by omega
  rw [this, h]
  exact hg
theorem x_ValidRune (r : Int) {σ : H} {K : Value → H → Prop} (hK : K (.bool (Utf8.valid r)) σ) : callW Tryz.prog 221 [.int .i32 r] K σ := by
  refine c221 _ ?_
  unfold g221
  refine j_i (fun j => ∀ x : Bool, x = decide (0 ≤ r ∧ r < 55296) → j r x σ) ?_ ?_
  · intro x hx
    by_cases h : 0 ≤ r ∧ r < 55296
    · refine br_t (by simp [hx, h]) ?_
      have : Utf8.valid r = true := by simp [Utf8.valid, h]
      rw [this] at hK; exact hK
    · refine br_f (by simp [hx, h]) ?_
      refine j_i (fun j => ∀ y : Bool, y = Utf8.valid r → j y σ) ?_ ?_
      · intro y hy
        cases hv : Utf8.valid r with
        | true => rw [hv] at hK hy; exact br_t hy hK
        | false => rw [hv] at hK hy; exact br_f hy hK
      · intro j hj
        by_cases h2 : 57343 < r
        · refine br_t (by simpa using h2) (hj _ ?_)
          by_cases h3 : r ≤ 1114111
          · have : Utf8.valid r = true := by simp [Utf8.valid, h3]; omega
            rw [this]; simpa using h3
          · have : Utf8.valid r = false := by simp [Utf8.valid]; omega
            rw [this]; simpa using h3
        · refine br_f (by simpa using h2) (hj _ ?_)
          have : Utf8.valid r = false := by simp [Utf8.valid]; omega
          rw [this]
  · intro j hj
    by_cases h : 0 ≤ r
    · exact br_t (by simpa using h) (hj _ (by simp [h]))
    · exact br_f (by simpa using h) (hj _ (by simp [h]))
theorem und_i32 : Tryz.prog.underlying 21 = some (.int .i32) := by kernel_rfl
theorem conv_i (r : Int) {F : ByteArray → H → Prop} {σ : H} (h : F (Utf8.encode r) σ) : vaW Tryz.prog (convert 21 9 (.int .i32 r)) kS F σ := by
  unfold vaW invW
  intro w hw
  have := run_convert_int_string (P := Tryz.prog) w 21 9 .i32 r (by rw [und_i32]; rfl) und_string
  simp only [valS, Sem.run_bind, this, Result.andThen_ok, Sem.run_pure]
  exact ⟨σ, Ext.refl hw, app_S h⟩
theorem ascii_ok : ∀ n : Fin 128, decide (firstIdx sl0 (IntKind.u8.wrap ((n.val : Nat) : Int)).toNat.toUInt8 ≥ 0) = (((n.val : Nat) : Int) == 47 || ((n.val : Nat) : Int) == 0) := by decide
/-- IndexRune in "/\\x00" -/
theorem x_IndexRune (r : Int) {σ : H} {K : Value → H → Prop} (hK : ∀ n : Int, (decide (n ≥ 0) = (r == 47 || r == 0)) → K (.int .i64 n) σ) : callW Tryz.prog 201 [.string sl0, .int .i32 r] K σ := by
  refine callW.drop (K' := fun v σ' => ∃ n : Int, v = .int .i64 n ∧ decide (n ≥ 0) = (r == 47 || r == 0) ∧ Gr σ σ') ?_ (fun v σ' ⟨n, hv, hn, hg⟩ => ⟨σ, hg, hv ▸ hK n hn⟩)
  refine c201 _ _ ?_
  unfold g201
  refine j_i (fun j => ∀ x : Bool, x = decide (0 ≤ r ∧ r < 128) → j sl0 r x σ) ?_ ?_
  case refine_2 =>
    intro j hj
    by_cases h : 0 ≤ r
    · exact br_t (by simpa using h) (hj _ (by simp [h]))
    · exact br_f (by simpa using h) (hj _ (by simp [h]))
  intro x hx
  by_cases h : 0 ≤ r ∧ r < 128
  · refine br_t (by simp [hx, h]) ?_
    refine call_i (x_IndexByte _ _ (app_I ⟨_, rfl, ?_, Gr.refl _⟩))
    obtain ⟨n, rfl⟩ : ∃ n : Nat, r = n := ⟨r.toNat, by omega⟩
    exact ascii_ok ⟨n, by omega⟩
  refine br_f (by simp [hx, h]) ?_
  have hno : (r == 47 || r == 0) = false := by simp; omega
  have hm1 : decide ((-1 : Int) ≥ 0) = (r == 47 || r == 0) := by rw [hno]; decide
  by_cases h5 : r = 65533
  · refine br_t (by simpa using h5) ?_
    refine range_str und_string sl0 ?_
    intro b σ1 g1 e1 n1
    refine loop_i ?_
    intro R hR
    have k2 : ∀ σ', Gr σ σ' → σ' b = some (.stringIter sl0 2) → R (some ⟨b, 0, none⟩) σ' := by
      intro σ' hg hb
      refine hR _ _ (next_str hb (fun _ => ⟨_, rfl, hm1, hg⟩) (fun hlt => absurd hlt (by decide)))
    have k1 : ∀ σ', Gr σ σ' → σ' b = some (.stringIter sl0 1) → R (some ⟨b, 0, none⟩) σ' := by
      intro σ' hg hb
      refine hR _ _ (next_str hb (fun hlt => absurd (by decide) hlt) (fun _ σ2 hp => ?_))
      refine br_f (by decide) ?_
      exact k2 σ2 (hg.putF hp n1) hp.same
    refine hR _ _ (next_str e1 (fun hlt => absurd (by decide) hlt) (fun _ σ2 hp => ?_))
    refine br_f (by decide) ?_
    exact k1 σ2 (g1.putF hp n1) hp.same
  refine br_f (by simpa using h5) ?_
  refine call_i (x_ValidRune r (app_B ?_))
  cases hv : Utf8.valid r with
  | false => exact br_t rfl ⟨_, rfl, hm1, Gr.refl _⟩
  | true =>
    refine br_f rfl (conv_i r ?_)
    have h128 : 128 ≤ r := by
      simp [Utf8.valid] at hv; omega
    obtain ⟨f1, f2, f3⟩ := encode_facts r hv h128
    have hl : IntKind.i64.wrap (((Utf8.encode r).size : Int) - 1) = (((Utf8.encode r).size - 1 : Nat) : Int) := by
      rw [wrap_id (by omega) (by omega)]; omega
    rw [hl]
    refine loop_i ?_
    intro R hR
    refine hR _ _ _ _ _ ?_
    by_cases h2 : (Utf8.encode r).size = 2
    · refine br_t (by rw [h2]; decide) ?_
      refine j_i (fun _ => True) trivial ?_
      intro j _
      have hf := f3 (by omega)
      have hget : (Utf8.encode r)[(Utf8.encode r).size - 1]? = some ((Utf8.encode r)[(Utf8.encode r).size - 1]'(by omega)) := by simp
      have hi1 : sl0[(Utf8.encode r).size - 1]? = some 0 := by rw [h2]; decide
      refine idx_i hi1 (idx_i hget ?_)
      refine br_t (by simp; omega) ?_
      refine if_i ?_ ?_
      · simp only [h2]; exact ⟨trivial, by unfold bndOk; decide⟩
      refine idx_i hget ?_
      refine call_i (x_IndexByte _ _ (app_I ?_))
      have he : sl0.extract (IntKind.i64.wrap ((((Utf8.encode r).size - 1 : Nat) : Int) + 1)).toNat sl0.size = ⟨⟨[]⟩⟩ := by simp only [h2]; decide
      rw [he]
      exact br_t rfl ⟨_, rfl, hm1, Gr.refl _⟩
    · have hs2 : sl0.size = 2 := rfl
      refine br_f (by rw [hs2]; simp; omega) ⟨_, rfl, hm1, Gr.refl _⟩
/-- one round of a range: what is decoded is '/' or nul just where the byte is -/
theorem dec_step (s : ByteArray) (i : Nat) (hi : i < s.size) : 1 ≤ (Utf8.decode s i).2 ∧ i + (Utf8.decode s i).2 ≤ s.size ∧
    ((((Utf8.decode s i).1 : Nat) : Int) == 47 || (((Utf8.decode s i).1 : Nat) : Int) == 0) = ((s.toList.drop i).take (Utf8.decode s i).2).any fun c => c == 47 || c == 0 := by
  have hget : ∀ k, i + k < s.size → s.toList[i + k]? = some (s.get! (i + k)) := by
    intro k hk
    rw [ByteArray.toList_eq]
    have : s.get! (i + k) = s.data[i + k]'hk := by
      show s.data[i + k]! = _
      exact getElem!_pos s.data (i + k) hk
    rw [this]
    simp [hk]
  have hlen : s.toList.length = s.size := by rw [ByteArray.toList_eq]; simp
  have taken : ∀ w, i + w ≤ s.size → (s.toList.drop i).take w = (List.range w).map fun k => s.get! (i + k) := by
    intro w hw
    apply List.ext_getElem?
    intro k
    by_cases hk : k < w
    · rw [List.getElem?_take, if_pos hk, List.getElem?_drop, hget k (by omega)]
      simp [hk]
    · rw [List.getElem?_take, if_neg hk]
      simp [hk]
  have hbig : ∀ k, 128 ≤ (s.get! (i + k)).toNat → ((s.get! (i + k)) == 47 || (s.get! (i + k)) == 0) = false := by
    intro k hk
    cases hc : ((s.get! (i + k)) == 47 || (s.get! (i + k)) == 0) with
    | false => rfl
    | true =>
      simp only [Bool.or_eq_true, beq_iff_eq] at hc
      rcases hc with hc | hc <;> (rw [hc] at hk; exact absurd hk (by decide))
  have hall : ∀ w, i + w ≤ s.size → (∀ k, k < w → 128 ≤ (s.get! (i + k)).toNat) → ((s.toList.drop i).take w).any (fun c => c == 47 || c == 0) = false := by
    intro w hw hk
    rw [taken w hw, List.any_map, List.any_eq_false]
    intro k hkm
    have := hbig k (hk k (List.mem_range.1 hkm))
    simp only [Function.comp]
    rw [this]; simp
  have hcont : ∀ k, (decide (i + k < s.size) && (s.get! (i + k)).toNat / 64 == 2) = true → i + k < s.size ∧ 128 ≤ (s.get! (i + k)).toNat := by
    intro k h
    simp only [Bool.and_eq_true, decide_eq_true_eq, beq_iff_eq] at h
    exact ⟨h.1, by omega⟩
  unfold Utf8.decode
  simp only
  by_cases h0 : (s.get! (i + 0)).toNat < 128
  · rw [if_pos h0]
    refine ⟨by simp, by simp; omega, ?_⟩
    simp only
    rw [taken 1 (by omega)]
    simp only [List.range_one, List.map_cons, List.map_nil, List.any_cons, List.any_nil, Bool.or_false]
    have e1 : ((((s.get! (i + 0)).toNat : Nat) : Int) == 47) = (s.get! (i + 0) == 47) := by
      rw [Bool.eq_iff_iff]; simp only [beq_iff_eq]
      constructor
      · intro h; apply UInt8.toNat_inj.1; show (s.get! (i + 0)).toNat = 47; omega
      · intro h; rw [h]; rfl
    have e2 : ((((s.get! (i + 0)).toNat : Nat) : Int) == 0) = (s.get! (i + 0) == 0) := by
      rw [Bool.eq_iff_iff]; simp only [beq_iff_eq]
      constructor
      · intro h; apply UInt8.toNat_inj.1; show (s.get! (i + 0)).toNat = 0; omega
      · intro h; rw [h]; rfl
    rw [e1, e2]
  rw [if_neg h0]
  have h0' : 128 ≤ (s.get! (i + 0)).toNat := by omega
  have one : ∀ c : Nat, 128 ≤ c → 1 ≤ ((c, 1) : Nat × Nat).2 ∧ i + ((c, 1) : Nat × Nat).2 ≤ s.size ∧ ((((((c, 1) : Nat × Nat).1 : Nat) : Int) == 47 || ((((c, 1) : Nat × Nat).1 : Nat) : Int) == 0) = ((s.toList.drop i).take ((c, 1) : Nat × Nat).2).any fun c => c == 47 || c == 0) := by
    intro c hc
    refine ⟨by simp, by simp; omega, ?_⟩
    rw [hall 1 (by omega) (fun k hk => by have : k = 0 := by omega
                                          subst this; exact h0')]
    simp; omega
  have many : ∀ c w : Nat, 128 ≤ c → 1 ≤ w → i + w ≤ s.size → (∀ k, k < w → 128 ≤ (s.get! (i + k)).toNat) → 1 ≤ ((c, w) : Nat × Nat).2 ∧ i + ((c, w) : Nat × Nat).2 ≤ s.size ∧ ((((((c, w) : Nat × Nat).1 : Nat) : Int) == 47 || ((((c, w) : Nat × Nat).1 : Nat) : Int) == 0) = ((s.toList.drop i).take ((c, w) : Nat × Nat).2).any fun c => c == 47 || c == 0) := by
    intro c w hc hw1 hw hk
    refine ⟨hw1, hw, ?_⟩
    rw [hall w hw hk]
    simp; omega
  split
  · rename_i h1
    simp only [Bool.and_eq_true] at h1
    have c1 := hcont 1 (by simpa using h1.2)
    split
    · rename_i h2
      exact many _ 2 h2 (by omega) (by omega) (fun k hk => by
        rcases (by omega : k = 0 ∨ k = 1) with e | e <;> subst e
        · exact h0'
        · exact c1.2)
    · exact one _ (by decide)
  · split
    · rename_i h1
      simp only [Bool.and_eq_true] at h1
      have c1 := hcont 1 (by simpa using h1.1.2)
      have c2 := hcont 2 (by simpa using h1.2)
      split
      · rename_i h2
        simp only [Bool.and_eq_true, decide_eq_true_eq] at h2
        exact many _ 3 (by omega) (by omega) (by omega) (fun k hk => by
          rcases (by omega : k = 0 ∨ k = 1 ∨ k = 2) with e | e | e <;> subst e
          · exact h0'
          · exact c1.2
          · exact c2.2)
      · exact one _ (by decide)
    · split
      · rename_i h1
        simp only [Bool.and_eq_true] at h1
        have c1 := hcont 1 (by simpa using h1.1.1.2)
        have c2 := hcont 2 (by simpa using h1.1.2)
        have c3 := hcont 3 (by simpa using h1.2)
        split
        · rename_i h2
          simp only [Bool.and_eq_true, decide_eq_true_eq] at h2
          exact many _ 4 (by omega) (by omega) (by omega) (fun k hk => by
            rcases (by omega : k = 0 ∨ k = 1 ∨ k = 2 ∨ k = 3) with e | e | e | e <;> subst e
            · exact h0'
            · exact c1.2
            · exact c2.2
            · exact c3.2)
        · exact one _ (by decide)
      · exact one _ (by decide)
theorem app_RB {v : Value} {x : Bool} {F : Value → Bool → H → Prop} {σ : H} (h2 : F v x σ) : HL.app (.tup [.sc .raw, .sc .bool]) F (.tuple ⟨[v, .bool x]⟩) σ := by
  unfold HL.app; exact h2
def setL : List Value := (List.range 256).map fun i => .bool (i == 47 || i == 0)
theorem sz_set : sizeT Tryz.prog 220 = some 256 := by kernel_rfl
theorem x_makeSet {σ : H} {K : Value → H → Prop} (hK : K (.tuple ⟨[.agg ⟨setL⟩, .bool true]⟩) σ) : callW Tryz.prog 203 [.string sl0] K σ := by
  refine pure_i _ hK (c203 _ ?_)
  unfold g203
  refine al_i ?_
  intro b σ1 g1 e1 n1
  refine loop_i ?_
  intro R hR
  refine hR _ _ _ _ (br_t (by decide) (idx_i (i := 0) (c := 47) (by decide) (br_f (by decide) (ptr_i (if_i (by decide) ?_)))))
  refine st_i2 e1 sz_bool (by rfl) (by rfl) ?_
  intro σ2 p2
  refine hR _ _ _ _ (br_t (by decide) (idx_i (i := 1) (c := 0) (by decide) (br_f (by decide) (ptr_i (if_i (by decide) ?_)))))
  refine st_i2 p2.same sz_bool (by rfl) (by rfl) ?_
  intro σ3 p3
  have e3 : σ3 b = some (.cells ⟨setL⟩ 220 (0, 0)) := by rw [p3.same]; rfl
  have g3 : Gr σ σ3 := (g1.putF p2 n1).putF p3 n1
  refine hR _ _ _ _ (br_f (by decide) (ptr_i ?_))
  refine rd_R (rdA_of' e3 (by rfl)) ?_
  refine st_i2 e3 sz_set (by rfl) (by rfl) ?_
  intro σ4 p4
  have e4 : σ4 b = some (.cells ⟨setL⟩ 220 (0, 0)) := by rw [p4.same]; rfl
  refine ptr_i (rd_R (rdA_of' e4 (by rfl)) ?_)
  exact ⟨rfl, g3.putF p4 n1⟩
theorem x_IndexAny (s : ByteArray) (hs : s.size ≤ 1000000) {σ : H} {K : Value → H → Prop} (hK : ∀ n : Int, decide (n ≥ 0) = badByte s → K (.int .i64 n) σ) : callW Tryz.prog 187 [.string s, .string sl0] K σ := by
  refine callW.drop (K' := fun v σ' => ∃ n : Int, v = .int .i64 n ∧ decide (n ≥ 0) = badByte s ∧ Gr σ σ') ?_ (fun v σ' ⟨n, hv, hn, hg⟩ => ⟨σ, hg, hv ▸ hK n hn⟩)
  refine c187 _ _ ?_
  unfold g187
  refine br_f (by rw [strEq, ByteArray.toList_eq, ByteArray.toList_eq]; rfl) (br_f (by decide) ?_)
  refine j_i (fun j => ∀ σ', Gr σ σ' → j s sl0 σ') ?_ ?_
  · intro σ0 g0
    refine range_str und_string s ?_
    intro b σ1 g1 e1 n1
    refine loop_i ?_
    intro R hR
    have key : ∀ k i σ', s.size - i ≤ k → i ≤ s.size → Gr σ0 σ' → σ' b = some (.stringIter s i) → ((s.toList.take i).any fun c => c == 47 || c == 0) = false → R sl0 (some ⟨b, 0, none⟩) σ' := by
      intro k
      induction k with
      | zero =>
        intro i σ' hk hi hg hb hf
        refine hR _ _ _ (next_str hb (fun _ => ⟨_, rfl, ?_, g0.trans hg⟩) (fun hlt => by omega))
        have : s.toList.take i = s.toList := by rw [List.take_of_length_le]; rw [ByteArray.toList_eq]; simp; omega
        rw [this] at hf
        unfold badByte; rw [← ByteArray.toList_eq]; rw [hf]; decide
      | succ k ih =>
        intro i σ' hk hi hg hb hf
        refine hR _ _ _ (next_str hb (fun hlt => ⟨_, rfl, ?_, g0.trans hg⟩) (fun hlt σ2 hp => ?_))
        · have : s.toList.take i = s.toList := by rw [List.take_of_length_le]; rw [ByteArray.toList_eq]; simp; omega
          rw [this] at hf
          unfold badByte; rw [← ByteArray.toList_eq]; rw [hf]; decide
        · obtain ⟨d1, d2, d3⟩ := dec_step s i hlt
          have hg2 : Gr σ0 σ2 := hg.putF hp n1
          refine call_i (x_IndexRune _ ?_)
          intro n hn
          refine app_I ?_
          cases hc : ((((Utf8.decode s i).1 : Nat) : Int) == 47 || (((Utf8.decode s i).1 : Nat) : Int) == 0) with
          | true =>
            rw [hc] at hn d3
            refine br_t hn ⟨_, rfl, ?_, g0.trans hg2⟩
            have hb : badByte s = true := by
              unfold badByte; rw [← ByteArray.toList_eq]
              obtain ⟨c, h1, h2⟩ := List.any_eq_true.1 d3.symm
              exact List.any_eq_true.2 ⟨c, List.mem_of_mem_drop (List.mem_of_mem_take h1), h2⟩
            rw [hb]; simp
          | false =>
            rw [hc] at hn d3
            refine br_f hn ?_
            refine ih (i + (Utf8.decode s i).2) σ2 (by omega) d2 hg2 hp.same ?_
            rw [List.take_add, List.any_append, hf, ← d3]; rfl
    exact key _ 0 σ1 (Nat.le_refl _) (by omega) g1 e1 rfl
  · intro j hj
    refine call_i ?_
    refine c202 _ ?_
    unfold g202
    refine app_B ?_
    by_cases h8 : 8 < s.size
    · refine br_t (by simp; omega) ?_
      refine call_i (x_makeSet ?_)
      refine app_RB ?_
      refine al_i ?_
      intro b σ1 g1 e1 n1
      refine st_i2 e1 sz_set (by rfl) (by rfl) ?_
      intro σ2 p2
      have e2 : σ2 b = some (.cells ⟨setL⟩ 220 (0, 0)) := by rw [p2.same]; rfl
      have g2 : Gr σ σ2 := g1.putF p2 n1
      refine br_t rfl ?_
      refine loop_i ?_
      intro R hR
      have hlen : s.toList.length = s.size := by rw [ByteArray.toList_eq]; simp
      have key : ∀ k i : Nat, s.size - i ≤ k → i ≤ s.size → ((s.toList.take i).any fun c => c == 47 || c == 0) = false → R s (some ⟨b, 0, none⟩) (i : Int) σ2 := by
        intro k
        induction k with
        | zero =>
          intro i hk hi hf
          refine hR _ _ _ _ (br_f (by simp; omega) ⟨_, rfl, ?_, g2⟩)
          have : s.toList.take i = s.toList := by rw [List.take_of_length_le]; omega
          rw [this] at hf
          unfold badByte; rw [← ByteArray.toList_eq]; rw [hf]; decide
        | succ k ih =>
          intro i hk hi hf
          by_cases hlt : i < s.size
          · refine hR _ _ _ _ (br_t (by simp; omega) ?_)
            have hget : s[i]? = some s[i] := by simp [hlt]
            refine idx_i hget ?_
            refine call_i ?_
            refine c204 _ _ ?_
            unfold g204
            have hb256 : (s[i]).toNat < 256 := UInt8.toNat_lt _
            refine ptr_i (if_i ⟨by omega, by omega⟩ ?_)
            refine rd_B (x := (s[i].toNat == 47 || s[i].toNat == 0)) (rdC_of e2 ?_) (app_B ?_)
            · have : (0 + (((s[i]).toNat : Int)).toNat * 1) = (s[i]).toNat := by omega
              rw [this]
              simp [setL, hb256]
            · have hc : (s[i].toNat == 47 || s[i].toNat == 0) = (s[i] == 47 || s[i] == 0) := by
                have q : ∀ n : UInt8, (s[i].toNat == n.toNat) = (s[i] == n) := by
                  intro n; rw [Bool.eq_iff_iff]; simp only [beq_iff_eq]; exact UInt8.toNat_inj
                have q1 := q 47
                have q2 := q 0
                rw [← q1, ← q2]; rfl
              rw [hc]
              have hli : s.toList[i]? = some s[i] := by
                rw [ByteArray.toList_eq]; simp [hlt, ByteArray.getElem_eq_getElem_data]
              cases hv : (s[i] == 47 || s[i] == 0) with
              | true =>
                refine br_t rfl ⟨_, rfl, ?_, g2⟩
                have hb : badByte s = true := by
                  unfold badByte; rw [← ByteArray.toList_eq]
                  exact List.any_eq_true.2 ⟨s[i], List.mem_of_getElem? hli, hv⟩
                rw [hb]; simp
              | false =>
                refine br_f rfl ?_
                rw [wrap_id (by omega) (by omega)]
                refine ih (i + 1) (by omega) (by omega) ?_
                rw [List.take_add_one, List.any_append, hf, hli]
                simpa using hv
          · refine hR _ _ _ _ (br_f (by simp; omega) ⟨_, rfl, ?_, g2⟩)
            have : s.toList.take i = s.toList := by rw [List.take_of_length_le]; omega
            rw [this] at hf
            unfold badByte; rw [← ByteArray.toList_eq]; rw [hf]; decide
      exact key _ 0 (Nat.le_refl _) (by omega) rfl
    · exact br_f (by simp; omega) (hj σ (Gr.refl _))
theorem cAny : CAny := by
  intro s hs σ K hK
  refine c157 _ _ ?_
  unfold g157
  refine call_i (x_IndexAny s hs ?_)
  intro n hn
  refine app_I ?_
  rw [hn]
  exact hK
end Go.Proofs.YtlpcehbfoogejaaGreatDoor

