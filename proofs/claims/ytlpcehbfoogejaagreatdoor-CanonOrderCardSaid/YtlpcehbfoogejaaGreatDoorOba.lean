/- A part of the proof: In which order things are made, and where they lay ahead, changes nothing of the tree. -/
import Derived.Test.YtlpcehbfoogejaaGreatDoorOaz
/- TREES: are two alike? A suffix is trimmed. -/
set_option maxRecDepth 100000
namespace Go.Proofs.YtlpcehbfoogejaaGreatDoor
open Go Go.HL Go.Wk
attribute [local irreducible] ptrW ifW brW andW rdT alW letJ stW muW biW vaW imW callT cvalT app callW invW callVW sizeT oW nilF oneK loopW rfW funW begW roundK exW idxW Gr Put
attribute [local irreducible] bothW
theorem trimL_snoc : ∀ q : List UInt8, trimL (q ++ [47]) = q := by
  intro q
  induction q with
  | nil => rfl
  | cons x r ih =>
    cases r with
    | nil => rfl
    | cons y r => rw [List.cons_append, List.cons_append, trimL, ← List.cons_append, ih]
theorem trimL_id : ∀ l : List UInt8, (∀ q, l ≠ q ++ [47]) → trimL l = l := by
  intro l h
  rcases trimL_cases l with e | e
  · exact e
  · exact absurd e (h _)
theorem x_Trim (s : ByteArray) (hs : s.size ≤ 1000000000) {σ : H} {K : Value → H → Prop} (hK : K (.string (trimS s)) σ) : callW Tryz.prog 176 [.string s, .string ⟨⟨[47]⟩⟩] K σ := by
  have q1 : (⟨⟨[47]⟩⟩ : ByteArray).size = 1 := rfl
  have hls := size_list s
  refine c176 _ _ ?_
  unfold g176
  refine call_i (c195 _ _ ?_)
  unfold g195
  refine call_i (c218 _ _ ?_)
  unfold g218
  have w : ∀ n : Nat, n ≤ 1000000000 → IntKind.i64.wrap (((n : Nat) : Int) - ((1 : Nat) : Int)) = (n : Int) - 1 := fun n hn => wrap_id (by omega) (by omega)
  rw [q1, w s.size hs]
  by_cases h : 1 ≤ s.size
  · have e : ((s.size : Int) - 1).toNat = s.size - 1 := by omega
    refine br_t (by simp only [decide_eq_true_eq]; omega) (if_i ⟨bnd_none, bnd_some (by omega) (by omega)⟩ (app_B ?_))
    rw [e]
    have he : strEq (s.extract (s.size - 1) s.size) ⟨⟨[47]⟩⟩ = (s.data.toList.drop (s.size - 1) == [47]) := by
      unfold strEq
      rw [ByteArray.toList_eq, ByteArray.toList_eq, extract_toList]
      rw [hls, List.take_length]
    rw [he]
    cases hd : (s.data.toList.drop (s.size - 1) == [47]) with
    | true =>
      have hd := eq_of_beq hd
      have hq : s.data.toList = s.data.toList.take (s.size - 1) ++ [47] := by
        have := List.take_append_drop (s.size - 1) s.data.toList
        rw [hd] at this; exact this.symm
      refine br_t rfl (if_i ⟨bnd_some (by omega) (by omega), bnd_none⟩ (app_S ?_))
      have : trimS s = s.extract 0 (s.size - 1) := by
        refine bytes_ext ?_
        rw [trimS_data, extract_toList, List.drop_zero]
        generalize List.take (s.size - 1) s.data.toList = q at hq
        rw [hq, trimL_snoc]
      rw [this] at hK; exact hK
    | false =>
      refine br_f rfl (app_S ?_)
      have : trimS s = s := by
        refine bytes_ext ?_
        rw [trimS_data]
        refine trimL_id _ fun q hq => ?_
        have h2 : s.data.toList.drop (s.size - 1) = [47] := by
          rw [hls, hq]
          simp
        rw [h2] at hd; cases hd
      rw [this] at hK; exact hK
  · refine br_f (by simp only [decide_eq_false_iff_not]; omega) (app_B (br_f rfl (app_S ?_)))
    have : s.data.toList = [] := List.eq_nil_of_length_eq_zero (by omega)
    have : trimS s = s := by refine bytes_ext ?_; rw [trimS_data, this]; rfl
    rw [this] at hK; exact hK
theorem go_Same : isGo Tryz.prog 28 = true := by kernel_rfl
theorem x_EqF {σ : H} {ts us : List Tr} {y z : Sl} (hs : SlAt σ ts y) (hz : SlAt σ us z) (hl : ts.length ≤ 1000000000000000)
    (ih : ∀ x ∈ ts, ∀ v ∈ us, ∀ (y z : Sl) (σ' : H), SlAt σ' x.kids y → SlAt σ' v.kids z → ∀ {K : Value → H → Prop}, K (.bool (x.same v)) σ' → callW Tryz.prog 28 [.agg ⟨trC x y⟩, .agg ⟨trC v z⟩] K σ')
    {K : Value → H → Prop} (hK : K (.bool (Nat.beq ts.length us.length && Tr.sameRow ts us)) σ) : callW Tryz.prog 77 [.slice y.base y.len y.cap, .slice z.base z.len z.cap, .func (.func 28) ⟨[]⟩ ⟨[]⟩] K σ := by
  have hlt := hs.1
  have hlu := hz.1
  refine pure_i _ hK (c77 _ _ _ ?_)
  clear hK
  unfold g77
  by_cases hne : ts.length = us.length
  case neg =>
    refine br_t (by simp only [bne_iff_ne, ne_eq]; omega) ⟨?_, Gr.refl _⟩
    have : Nat.beq ts.length us.length = false := by rw [← Bool.not_eq_true]; intro h; exact hne (Nat.eq_of_beq_eq_true h)
    rw [this]; rfl
  have e0 : Nat.beq ts.length us.length = true := by rw [hne]; exact Nat.beq_refl _
  rw [e0, Bool.true_and]
  refine br_f (by simp only [bne_eq_false_iff_eq]; omega) (loop_i ?_)
  intro R hR
  have key : ∀ (l m : List Tr) (i : Nat) (τ : H), ts.drop i = l → us.drop i = m → Gr σ τ → Tr.sameRow ts us = Tr.sameRow l m → R z (.func (.func 28) ⟨[]⟩ ⟨[]⟩) y ((y.len : Nat) : Int) (i : Int) τ := by
    intro l
    induction l with
    | nil =>
      intro m i τ hd hm hg he
      have hge : ts.length ≤ i := by simpa using hd
      refine hR _ _ _ _ _ _ ?_
      refine br_f (by rw [hs.1]; simp only [decide_eq_false_iff_not]; omega) ⟨?_, hg⟩
      rw [he]; rfl
    | cons x r ihl =>
      intro m i τ hd hm hg he
      obtain ⟨hx, hlt', hd'⟩ := drop_get hd
      obtain ⟨v, s, rfl⟩ : ∃ v s, m = v :: s := by
        cases m with
        | nil => have : us.length ≤ i := by simpa using hm
                 omega
        | cons v s => exact ⟨v, s, rfl⟩
      obtain ⟨hv, hlt2, hm'⟩ := drop_get hm
      obtain ⟨g, o, a, hb, hrd, ha⟩ := kid_rd (hs.gr hg) hx
      obtain ⟨g', o', a', hb', hrd', ha'⟩ := kid_rd (hz.gr hg) hv
      refine hR _ _ _ _ _ _ ?_
      refine br_t (by rw [hs.1]; simp only [decide_eq_true_eq]; omega) ?_
      rw [hb]
      refine ptr_i (if_i ⟨by omega, by rw [hs.1]; omega⟩ ?_)
      have hrd1 : rdA 5 g (o + (i : Int).toNat * 5) τ = some (.agg ⟨trC x a⟩) := by simpa using hrd
      refine rd_G hrd1 ?_
      unfold trC
      (refine app_of rfl ?_; try dsimp only)
      refine al_i ?_; intro b17 τ1 g1 e1 n1
      refine st_i2 e1 sz_Node (by rfl) (by rfl) ?_; intro τ2 p2
      have hg2 : Gr τ τ2 := g1.putF p2 n1
      rw [hb']
      refine ptr_i (if_i ⟨by omega, by rw [hz.1]; omega⟩ ?_)
      have hrd2 : rdA 5 g' (o' + (i : Int).toNat * 5) τ2 = some (.agg ⟨trC v a'⟩) := by have := rdA_gr hg2 hrd'; simpa using this
      refine rd_G hrd2 ?_
      unfold trC
      (refine app_of rfl ?_; try dsimp only)
      refine al_i ?_; intro b25 τ3 g3 e3 n3
      have n1725 : b17 ≠ b25 := ne_fr n3 (isSome_of p2.same)
      refine st_i2 e3 sz_Node (by rfl) (by rfl) ?_; intro τ4 p4
      have hg4 : Gr τ τ4 := hg2.trans (g3.putF p4 n3)
      refine rd_G (rdA_of' (p4.get n1725 (g3.get p2.same)) (by rfl)) ?_
      (refine app_of rfl ?_; try dsimp only)
      refine rd_G (rdA_of' p4.same (by rfl)) ?_
      (refine app_of rfl ?_; try dsimp only)
      refine cval_i go_Same (ih x (List.mem_of_getElem? hx) v (List.mem_of_getElem? hv) a a' τ4 (ha.gr hg4) (ha'.gr hg4) (app_B ?_))
      rw [Tr.sameRow] at he
      cases hsm : x.same v with
      | false =>
        refine br_t rfl ⟨?_, hg.trans hg4⟩
        rw [he, hsm]; rfl
      | true =>
        refine br_f rfl ?_
        rw [wrap_id (x := (i : Int) + 1) (by omega) (by omega)]
        refine ihl s (i + 1) τ4 hd' hm' (hg.trans hg4) ?_
        rw [he, hsm]; rfl
  exact key ts us 0 σ rfl rfl (Gr.refl _) rfl
/-- Same -/
theorem s_Same : ∀ (t : Tr) (y : Sl) (u : Tr) (z : Sl) {σ : H}, SlAt σ t.kids y → SlAt σ u.kids z → t.total ≤ 1000000000000000 → u.total ≤ 1000000000000000 → ∀ {K : Value → H → Prop}, K (.bool (t.same u)) σ → callW Tryz.prog 28 [.agg ⟨trC t y⟩, .agg ⟨trC u z⟩] K σ := by
  refine Tr.ind (P := fun t => ∀ (y : Sl) (u : Tr) (z : Sl) {σ : H}, SlAt σ t.kids y → SlAt σ u.kids z → t.total ≤ 1000000000000000 → u.total ≤ 1000000000000000 → ∀ {K : Value → H → Prop}, K (.bool (t.same u)) σ → callW Tryz.prog 28 [.agg ⟨trC t y⟩, .agg ⟨trC u z⟩] K σ) ?_
  intro t ih y u z σ hs hz hT hU K hK
  refine pure_i _ hK (c28 _ _ _ _ _ _ _ _ _ _ ?_)
  clear hK
  unfold g28
  refine al_i ?_; intro b11 σ1 g1 e1 n1
  refine al_i ?_; intro b12 σ2 g2 e2 n2
  have k11 := g2.get e1
  have hg : Gr σ σ2 := g1.trans g2
  rw [Tr.same_eq]
  refine j_i (fun j => ∀ b : Bool, b = (t.tooDeep || u.tooDeep) → j (some ⟨b11, 0, none⟩) (some ⟨b12, 0, none⟩) b σ2) ?_ ?_
  case refine_2 =>
    intro j hj
    refine rd_G (rdA_of' k11 (by rfl)) ?_
    (refine app_of rfl ?_; try dsimp only)
    refine call_i (s_tooDeep t y (hs.gr hg) hT (app_B ?_))
    cases h : t.tooDeep with
    | true => exact br_t rfl (hj true (by rw [h]; rfl))
    | false =>
      refine br_f rfl (rd_G (rdA_of' e2 (by rfl)) ?_)
      (refine app_of rfl ?_; try dsimp only)
      exact call_i (s_tooDeep u z (hz.gr hg) hU (app_B (hj _ (by rw [h]; rfl))))
  intro b hb
  cases b with
  | true =>
    refine br_t rfl ⟨?_, hg⟩
    have : (!t.tooDeep && !u.tooDeep) = false := by rw [← Bool.not_or, ← hb]; rfl
    rw [← Bool.and_assoc, this]; rfl
  | false =>
    have h2 : t.tooDeep = false ∧ u.tooDeep = false := by rw [← Bool.or_eq_false_iff]; exact hb.symm
    rw [h2.1, h2.2]
    refine br_f rfl (ptr_i (rd_S (rdC_of k11 (by rfl)) (ptr_i (rd_S (rdC_of e2 (by rfl)) ?_))))
    rw [← sEq_eq]
    cases c1 : sEq t.name u.name with
    | false => exact br_f rfl ⟨rfl, hg⟩
    | true =>
      refine br_t rfl (ptr_i (rd_I (rdC_of k11 (by rfl)) (ptr_i (rd_I (rdC_of e2 (by rfl)) ?_))))
      cases c2 : (t.kind == u.kind) with
      | false => exact br_f rfl ⟨rfl, hg⟩
      | true =>
        refine br_t rfl (ptr_i (rd_B (rdC_of k11 (by rfl)) (ptr_i (rd_B (rdC_of e2 (by rfl)) ?_))))
        cases c3 : (t.exec == u.exec) with
        | false => exact br_f rfl ⟨rfl, hg⟩
        | true =>
          refine br_t rfl (ptr_i (rd_S (rdC_of k11 (by rfl)) (ptr_i (rd_S (rdC_of e2 (by rfl)) ?_))))
          rw [← sEq_eq]
          cases c4 : sEq t.data u.data with
          | false => exact br_f rfl ⟨rfl, hg⟩
          | true =>
            refine br_t rfl (ptr_i (rd_L (rdC_of k11 (by rfl)) (ptr_i (rd_L (rdC_of e2 (by rfl)) ?_))))
            have := kids_total t
            refine call_i (x_EqF (hs.gr hg) (hz.gr hg) (by omega) ?_ (app_B ⟨rfl, hg⟩))
            intro x hx v hv y' z' σ' h1 h2 K' hK'
            exact ih x hx y' v z' h1 h2 (by have := Tr.total_kid hx; omega) (by have := Tr.total_kid hv; omega) hK'
end Go.Proofs.YtlpcehbfoogejaaGreatDoor

/- WHAT LIES SOMEWHERE, as a tree: the walk. -/
set_option maxRecDepth 100000
namespace Go.Proofs.YtlpcehbfoogejaaGreatDoor
open Go Go.HL Go.Wk
theorem app_okRB {σ : H} {v : Value} {b : Bool} {F : Value → Bool → H → Prop} (h : F v b σ) : app (.tup [.sc .raw, .sc .bool]) F (okV true v b) σ := h
attribute [local irreducible] ptrW ifW brW andW rdT alW letJ stW muW biW vaW imW callT cvalT app callW invW callVW sizeT oW nilF oneK loopW rfW funW begW roundK exW idxW Gr Put
attribute [local irreducible] bothW
theorem go_cAt1 : isGo Tryz.prog 125 = true := by kernel_rfl
theorem go_cAt2 : isGo Tryz.prog 126 = true := by kernel_rfl
theorem go_cKids1 : isGo Tryz.prog 175 = true := by kernel_rfl
theorem und_MIF : Tryz.prog.underlying 165 = some (.map 3 148) := by kernel_rfl
theorem stat_long {A : AT} (hI : Inv A) {path : ByteArray} (h : 256 ≤ path.size) : A.stat ⟨⟨[47]⟩⟩ path false = (3, IN.z) := by
  have hne : sEq path ⟨⟨[]⟩⟩ = false := by
    refine sEq_false ?_
    intro e; rw [e] at h; exact absurd h (by decide)
  have hm : mayE path = 3 := by unfold mayE; rw [hne]; simp; omega
  have hw : ∀ d, A.walk 10 d path false 8 = (3, Pl.z, 8) := by intro d; rw [AT.walk, hm]; simp
  unfold AT.stat AT.with_ AT.locate
  rw [hne]
  cases hh : headIs 47 path with
  | true => rw [hw]; simp
  | false =>
    have hr : A.walk 10 1 ⟨⟨[47]⟩⟩ true 8 = (0, ⟨1, ⟨⟨[]⟩⟩, 1, true⟩, 8) := by
      rw [AT.walk]
      have : mayE ⟨⟨[47]⟩⟩ = 0 := by decide +kernel
      rw [this]
      have h2 : headIs 47 ⟨⟨[47]⟩⟩ = true := by decide +kernel
      have h3 : partsB ⟨⟨[47]⟩⟩ = [] := by decide +kernel
      rw [h2, h3]
      simp [AT.steps]
    have hk : A.kind 1 = 2 := dir_kind hI.root_dir
    have h2 : headIs 47 ⟨⟨[47]⟩⟩ = true := by decide +kernel
    rw [h2, hr]
    simp only [hk]
    rw [hw]; simp
/-- at -/
theorem s_at {A : AT} {N : Nat} {bf : Nat} {B : Nat → Prop} (hI : Inv A) (hB : Bd N A) (hN : N ≤ 1000000000) : ∀ (f : Nat) (path : ByteArray), 256 ≤ f + path.size → path.size ≤ 100000 → ∀ {σ : H}, FsAt σ bf A B → ∀ {K : Value → H → Prop},
    (∀ t y σ' ρ, Gr σ σ' → Gr ρ σ' → (∀ b, σ b ≠ none → ρ b = none) → ((A.take f path).1 = 0 → t = (A.take f path).2 ∧ SlAt ρ t.kids y) → K (.tuple ⟨[.agg ⟨trC t y⟩, .int .i64 (A.take f path).1]⟩) σ') →
    callW Tryz.prog 75 [.agg ⟨[.pointer (some ⟨bf, 0, none⟩)]⟩, .string path] K σ := by
  intro f
  induction f with
  | zero =>
    intro path hf hp σ hF K hK
    refine c75 _ _ ?_
    unfold g75
    refine al_i ?_; intro b3 σ1 g1 e1 n1
    refine al_i ?_; intro b4 σ2 g2 e2 n2
    refine al_i ?_; intro b5 σ3 g3 e3 n3
    have hg3 : Gr σ σ3 := (g1.trans g2).trans g3
    refine rd_P (rdC_of (g3.get (g2.get e1)) (by rfl)) (rd_S (rdC_of (g3.get e2) (by rfl)) ?_)
    refine call_i (s_Stat (hF.gr hg3) _ _ _ ?_)
    rw [stat_long hI (by omega)]
    unfold inV
    (refine app_of rfl ?_; try dsimp only)
    refine al_i ?_; intro b13 σ4 g4 e4 n4
    refine st_i2 e4 sz_Inode (by rfl) (by rfl) ?_; intro σ5 p5
    have n513 : b5 ≠ b13 := ne_fr n4 (isSome_of e3)
    have k5 := p5.get n513 (g4.get e3)
    refine br_t rfl ?_
    refine st_i2 k5 sz_Node (by rfl) (by rfl) ?_; intro σ6 p6
    refine rd_G (rdA_of' p6.same (by rfl)) ?_
    (refine app_of rfl ?_; try dsimp only)
    have f5 : σ b5 = none := none_of (g1.trans g2) n3
    have f13 : σ b13 = none := none_of hg3 n4
    have := hK Tr.z ⟨none, 0, 0⟩ σ6 _ (((hg3.trans g4).putF p5 f13).putF p6 f5) (gr_empty _) (fun _ _ => rfl) (fun h => by rw [AT.take] at h; cases h)
    exact this
  | succ f ih =>
    intro path hf hp σ hF K hK
    refine c75 _ _ ?_
    unfold g75
    refine al_i ?_; intro b3 σ1 g1 e1 n1
    refine al_i ?_; intro b4 σ2 g2 e2 n2
    refine al_i ?_; intro b5 σ3 g3 e3 n3
    have hg3 : Gr σ σ3 := (g1.trans g2).trans g3
    refine rd_P (rdC_of (g3.get (g2.get e1)) (by rfl)) (rd_S (rdC_of (g3.get e2) (by rfl)) ?_)
    refine call_i (s_Stat (hF.gr hg3) _ _ _ ?_)
    have hTk : A.take (f + 1) path = (let x := A.stat ⟨⟨[47]⟩⟩ path false
      if x.1 ≠ 0 then (x.1, Tr.z)
      else if x.2.kind = 2 then
        let l := A.listF ⟨⟨[47]⟩⟩ path
        if l.1 ≠ 0 then (l.1, Tr.z)
        else
          let r := takeRow (AT.take A f) path l.2
          (r.1, .mk ⟨⟨[]⟩⟩ 2 false x.2.data r.2)
      else (0, .mk ⟨⟨[]⟩⟩ x.2.kind (xOf x.2.kind x.2.mode) x.2.data [])) := by rw [AT.take]
    simp only at hTk
    have hX : (A.stat ⟨⟨[47]⟩⟩ path false).1 = 0 → path.size ≤ 255 := by
      intro h0
      rcases Nat.lt_or_ge path.size 256 with h | h
      · omega
      · rw [stat_long hI h] at h0; cases h0
    generalize A.stat ⟨⟨[47]⟩⟩ path false = X at hTk hX ⊢
    obtain ⟨xe, xk, xm, xd, xl⟩ := X
    unfold inV
    simp only at hTk hX ⊢
    (refine app_of rfl ?_; try dsimp only)
    refine al_i ?_; intro b13 σ4 g4 e4 n4
    refine st_i2 e4 sz_Inode (by rfl) (by rfl) ?_; intro σ5 p5
    have n513 : b5 ≠ b13 := ne_fr n4 (isSome_of e3)
    have f5 : σ b5 = none := none_of (g1.trans g2) n3
    have f13 : σ b13 = none := none_of hg3 n4
    have f3 : σ b3 = none := n1
    have f4 : σ b4 = none := none_of g1 n2
    have n313 : b3 ≠ b13 := ne_fr n4 (isSome_of (g3.get (g2.get e1)))
    have n413 : b4 ≠ b13 := ne_fr n4 (isSome_of (g3.get e2))
    have k5 := p5.get n513 (g4.get e3)
    have k3 := p5.get n313 (g4.get (g3.get (g2.get e1)))
    have k4 := p5.get n413 (g4.get (g3.get e2))
    have k13 := p5.same
    have hg5 : Lng σ σ5 := ⟨(hg3.trans g4).putF p5 f13⟩
    clear p5 e4 g4 e1 e2 e3 g1 g2 g3
    by_cases hx : xe = 0
    case neg =>
      rw [if_pos hx] at hTk
      rw [hTk] at hK
      refine br_t (by simpa using hx) ?_
      refine st_i2 k5 sz_Node (by rfl) (by rfl) ?_; intro σ6 p6
      refine rd_G (rdA_of' p6.same (by rfl)) ?_
      (refine app_of rfl ?_; try dsimp only)
      exact hK Tr.z ⟨none, 0, 0⟩ σ6 _ (hg5.gr.putF p6 f5) (gr_empty _) (fun _ _ => rfl) (fun h => absurd h hx)
    subst hx
    rw [if_neg (by simp)] at hTk
    have hps := hX rfl
    refine br_f rfl (rd_I (rdC_of k13 (by rfl)) (rd_S (rdC_of k13 (by rfl)) ?_))
    refine al_i ?_; intro b21 σ6 g6 e6 n6
    refine st_i2 e6 sz_Node (by rfl) (by rfl) ?_; intro σ7 p7
    have f21 : σ b21 = none := none_of hg5.gr n6
    have n321 : b3 ≠ b21 := ne_fr n6 (isSome_of k3)
    have n421 : b4 ≠ b21 := ne_fr n6 (isSome_of k4)
    have n521 : b5 ≠ b21 := ne_fr n6 (isSome_of k5)
    have n1321 : b13 ≠ b21 := ne_fr n6 (isSome_of k13)
    have q3 := p7.get n321 (g6.get k3)
    have q4 := p7.get n421 (g6.get k4)
    have q5 := p7.get n521 (g6.get k5)
    have q13 := p7.get n1321 (g6.get k13)
    have q21 := p7.same
    have hg7 : Lng σ σ7 := ⟨(hg5.gr.trans g6).putF p7 f21⟩
    clear p7 e6 g6 k3 k4 k5 k13 hg5
    refine al_i ?_; intro b22 σ8 g8 e8 n8
    have f22 : σ b22 = none := none_of hg7.gr n8
    have n322 : b3 ≠ b22 := ne_fr n8 (isSome_of q3)
    have n422 : b4 ≠ b22 := ne_fr n8 (isSome_of q4)
    have n522 : b5 ≠ b22 := ne_fr n8 (isSome_of q5)
    have n1322 : b13 ≠ b22 := ne_fr n8 (isSome_of q13)
    have n2122 : b21 ≠ b22 := ne_fr n8 (isSome_of q21)
    have m0 : MapAt σ8 b22 (encL kkI (fun v : Value => v) []) := MapAt.new e8
    refine mu_i (kk := kkI) (f := fun v : Value => v) und_MIF und_int m0 1 (.func (.func 125) ⟨[]⟩ ⟨[.pointer (some ⟨b13, 0, none⟩), .pointer (some ⟨b21, 0, none⟩)]⟩) ?_
    intro o1 σ9 p9 m1
    refine mu_i (kk := kkI) (f := fun v : Value => v) und_MIF und_int m1 2 (.func (.func 126) ⟨[]⟩ ⟨[.pointer (some ⟨b3, 0, none⟩), .pointer (some ⟨b4, 0, none⟩), .pointer (some ⟨b21, 0, none⟩)]⟩) ?_
    intro o2 σ10 p10 m2
    have k3 := p10.get n322 (p9.get n322 (g8.get q3))
    have k4 := p10.get n422 (p9.get n422 (g8.get q4))
    have k5 := p10.get n522 (p9.get n522 (g8.get q5))
    have k13 := p10.get n1322 (p9.get n1322 (g8.get q13))
    have k21 := p10.get n2122 (p9.get n2122 (g8.get q21))
    have hg10 : Lng σ σ10 := ⟨((hg7.gr.trans g8).putF p9 f22).putF p10 f22⟩
    clear p9 p10 m0 m1 e8 g8 q3 q4 q5 q13 q21 hg7
    refine rd_I (rdC_of k13 (by rfl)) ?_
    have hr := rdM_at (kk := kkI) m2 .nilFunc true xk
    refine rd_G hr ?_
    refine app_okRB ?_
    refine j_i (fun j => ∀ (e : Int) (σ' τ' ρ : H) (t : Tr) (y : Sl), Gr σ τ' → Gr τ' σ' → τ' b5 = none → Gr ρ σ' → ρ b5 = none → (∀ b, σ b ≠ none → ρ b = none) → σ' b5 = some (.cells ⟨[.string ⟨⟨[]⟩⟩, .int .i64 0, .bool false, .string ⟨⟨[]⟩⟩, .slice none 0 0]⟩ 24 (0, 0)) → σ' b21 = some (.cells ⟨trC t y⟩ 24 (0, 0)) → e = (A.take (f + 1) path).1 → (e = 0 → t = (A.take (f + 1) path).2 ∧ SlAt ρ t.kids y) → j (some ⟨b5, 0, none⟩) e (some ⟨b21, 0, none⟩) σ') ?_ ?_
    · intro e σ' τ' ρ t y h1 h2 h3 r1 r2 r3 h4 h5 h6 h7
      unfold trC at h5
      refine ptr_i (rd_G (rdA_of' h5 (by rfl)) ?_)
      (refine app_of rfl ?_; try dsimp only)
      refine st_i2 h4 sz_Node (by rfl) (by rfl) ?_; intro σ'' p
      refine ptr_i (rd_G (rdA_of' p.same (by rfl)) ?_)
      (refine app_of rfl ?_; try dsimp only)
      have hg := h2.putF p h3
      have := hK t y σ'' ρ (h1.trans hg) (r1.putF p r2) r3 (fun he => h7 (by rw [h6]; exact he))
      rw [h6]; exact this
    intro j hj
    by_cases k1 : xk = 1
    · subst k1
      rw [if_neg (by decide)] at hTk
      refine br_t rfl (cval_i go_cAt1 (c125 _ _ ?_))
      unfold g125
      refine ptr_i (rd_I (rdC_of k13 (by rfl)) (ptr_i ?_))
      refine st_i2 k21 sz_bool (by rfl) (by rfl) ?_; intro σ11 p11
      refine app_I ?_
      refine hj 0 σ11 σ (fun _ => none) (.mk ⟨⟨[]⟩⟩ 1 ((bitV .and .i64 xm 73 : Int) != 0) xd []) ⟨none, 0, 0⟩ (Gr.refl _) (hg10.gr.putF p11 f21) f5 (gr_empty _) rfl (fun _ _ => rfl) (p11.get n521 k5) p11.same (by rw [hTk]) (fun _ => ⟨?_, SlAt.nil⟩)
      rw [hTk]; rfl
    by_cases k2 : xk = 2
    case neg =>
      rw [if_neg k2] at hTk
      have hl : lk xk (up (2 : Int) (.func (.func 126) ⟨[]⟩ ⟨[.pointer (some ⟨b3, 0, none⟩), .pointer (some ⟨b4, 0, none⟩), .pointer (some ⟨b21, 0, none⟩)]⟩) (up (1 : Int) (.func (.func 125) ⟨[]⟩ ⟨[.pointer (some ⟨b13, 0, none⟩), .pointer (some ⟨b21, 0, none⟩)]⟩) ([] : List (Int × Value)))) = none := by
        rw [lk_up, lk_up]
        have c1 : (xk == 1) = false := by simpa using k1
        have c2 : (xk == 2) = false := by simpa using k2
        rw [c1, c2]; rfl
      rw [hl]
      refine br_f rfl ?_
      refine hj 0 σ10 σ (fun _ => none) (.mk ⟨⟨[]⟩⟩ xk false xd []) ⟨none, 0, 0⟩ (Gr.refl _) hg10.gr f5 (gr_empty _) rfl (fun _ _ => rfl) k5 k21 (by rw [hTk]) (fun _ => ⟨?_, SlAt.nil⟩)
      rw [hTk]
      have c1 : (xk == 1) = false := by simpa using k1
      unfold xOf; rw [c1]; rfl
    subst k2
    rw [if_pos rfl] at hTk
    clear hr m2 hK
    refine br_t rfl (cval_i go_cAt2 (c126 _ _ _ ?_))
    unfold g126
    refine al_i ?_; intro be σ11 g11 e11 n11
    have fe : σ be = none := none_of hg10.gr n11
    have n21e : b21 ≠ be := ne_fr n11 (isSome_of k21)
    have n5e : b5 ≠ be := ne_fr n11 (isSome_of k5)
    refine j_i (fun j => ∀ (σ' τ' ρ : H) (t : Tr) (y : Sl) (w : Int), Gr σ τ' → Gr τ' σ' → τ' b5 = none → τ' be = none → Gr ρ σ' → ρ b5 = none → ρ be = none → (∀ b, σ b ≠ none → ρ b = none) → σ' be = some (.cells ⟨[.int .i64 w]⟩ 32 (0, 0)) → σ' b5 = some (.cells ⟨[.string ⟨⟨[]⟩⟩, .int .i64 0, .bool false, .string ⟨⟨[]⟩⟩, .slice none 0 0]⟩ 24 (0, 0)) → σ' b21 = some (.cells ⟨trC t y⟩ 24 (0, 0)) → 0 = (A.take (f + 1) path).1 → t = (A.take (f + 1) path).2 → SlAt ρ t.kids y → j (some ⟨be, 0, none⟩) σ') ?_ ?_
    · intro σ' τ' ρ t y w h1 h2 h3 h4 r1 r2 r3 r4 h5 h6 h7 h8 h9 h10
      refine st_i2 h5 sz_Errno (by rfl) (by rfl) ?_; intro σ'' p
      refine ptr_i (rd_I (rdC_of p.same (by rfl)) (app_I ?_))
      exact hj 0 σ'' τ' ρ t y h1 (h2.putF p h4) h3 (r1.putF p r3) r2 r4 (p.get n5e h6) (p.get n21e h7) h8 (fun _ => ⟨h9, h10⟩)
    intro j5 hj5
    refine ptr_i (rd_G (rdA_of' (g11.get k3) (by rfl)) ?_)
    (refine app_of rfl ?_; try dsimp only)
    refine ptr_i (rd_S (rdC_of (g11.get k4) (by rfl)) ?_)
    refine call_i (c127 _ _ ?_)
    unfold g127
    refine al_i ?_; intro c3 σ12 g12 e12 n12
    refine al_i ?_; intro c4 σ13 g13 e13 n13
    refine app_R (fun_i (rf_i go_cKids1 ?_))
    intro l obj σ14 nl pl hobj hY
    have lc3 : c3 ≠ l := ne_fr nl (isSome_of (g13.get e12))
    have lc4 : c4 ≠ l := ne_fr nl (isSome_of e13)
    have le' : be ≠ l := ne_fr nl (isSome_of (g13.get (g12.get e11)))
    have l21 : b21 ≠ l := ne_fr nl (isSome_of (g13.get (g12.get (g11.get k21))))
    have l5 : b5 ≠ l := ne_fr nl (isSome_of (g13.get (g12.get (g11.get k5))))
    have hg13 : Gr σ σ13 := ((hg10.gr.trans g11).trans g12).trans g13
    have fl : σ l = none := none_of hg13 nl
    have fc3 : σ c3 = none := none_of (hg10.gr.trans g11) n12
    have fc4 : σ c4 = none := none_of ((hg10.gr.trans g11).trans g12) n13
    have n21c3 : b21 ≠ c3 := ne_fr n12 (isSome_of (g11.get k21))
    have n21c4 : b21 ≠ c4 := ne_fr n13 (isSome_of (g12.get (g11.get k21)))
    have w3 := pl.get lc3 (g13.get e12)
    have w4 := pl.get lc4 e13
    have we := pl.get le' (g13.get (g12.get e11))
    have w21 := pl.get l21 (g13.get (g12.get (g11.get k21)))
    have w5 := pl.get l5 (g13.get (g12.get (g11.get k5)))
    have wl := pl.same
    have hg14 : Lng σ σ14 := ⟨hg13.putF pl fl⟩
    clear pl g11 g12 g13 e11 e12 e13 k3 k4 k5 k13 k21 hg10 hg13
    refine c175 _ _ _ ?_
    unfold g175
    refine ptr_i (rd_P (rdC_of w3 (by rfl)) (ptr_i (rd_S (rdC_of w4 (by rfl)) ?_)))
    refine call_i (s_List hI hB (by omega) (hF.gr hg14.gr) _ _ ?_)
    intro x σ15 g15 hx
    have hLsz : (A.listF ⟨⟨[47]⟩⟩ path).1 = 0 → ∀ s ∈ (A.listF ⟨⟨[47]⟩⟩ path).2, 1 ≤ s.size ∧ s.size ≤ 56 := by
      intro _ s hs
      unfold AT.listF at hs
      simp only at hs
      split at hs
      · simp at hs
      split at hs
      · simp at hs
      obtain ⟨j', hj'⟩ := names_mem hI hs
      obtain ⟨n, hn, _, hl, _⟩ := hI.find hj'
      have hnm := (hI.ent _ n s j' hn hl).1
      refine ⟨?_, namedE_size hnm⟩
      rcases Nat.lt_or_ge 0 s.size with h | h
      · exact h
      · exfalso
        have h0 : s.data.toList = [] := List.eq_nil_of_length_eq_zero (by rw [← size_list]; omega)
        have : s = ⟨⟨[]⟩⟩ := bytes_ext h0
        rw [this] at hnm; exact absurd hnm (by decide +kernel)
    have hLln : (A.listF ⟨⟨[47]⟩⟩ path).2.length ≤ N := by
      unfold AT.listF
      simp only
      split
      · simp
      split
      · simp
      exact names_len hB
    generalize A.listF ⟨⟨[47]⟩⟩ path = L at *
    obtain ⟨le, ln⟩ := L
    simp only at *
    (refine app_of rfl ?_; try dsimp only)
    have y3 := g15.get w3
    have y4 := g15.get w4
    have ye := g15.get we
    have y21 := g15.get w21
    have y5 := g15.get w5
    have yl := g15.get wl
    have hg15 : Lng σ σ15 := ⟨hg14.gr.trans g15⟩
    clear g15 w3 w4 we w21 w5 wl hg14
    -- the end of it with an error
    have bad : ∀ (e : Int) (σ' τ' : H) (t : Tr) (y : Sl) (u : Int), e ≠ 0 → e = (A.take (f + 1) path).1 → Gr σ τ' → Gr τ' σ' → τ' b5 = none → τ' be = none → τ' l = none → σ' be = some (.cells ⟨[.int .i64 e]⟩ 32 (0, 0)) → σ' b5 = some (.cells ⟨[.string ⟨⟨[]⟩⟩, .int .i64 0, .bool false, .string ⟨⟨[]⟩⟩, .slice none 0 0]⟩ 24 (0, 0)) → σ' b21 = some (.cells ⟨trC t y⟩ 24 (0, 0)) → σ' l = some (obj .done (some .ret)) →
        endK l obj (j5 (some ⟨be, 0, none⟩)) (fun i41 => exW i41 0 (j5 (some ⟨be, 0, none⟩)) nW) (rdT (rdC be 0) kI fun r45 => app kI (fun x44 => j (some ⟨b5, 0, none⟩) x44 (some ⟨b21, 0, none⟩)) (.int .i64 r45)) σ' := by
      intro e σ' τ' t y u he1 he2 h1 h2 h3 h4 h5 h6 h7 h8 h9
      refine end_r h9 (by intro h; cases h) ?_
      intro σ'' p
      refine rd_I (rdC_of (p.get le' h6) (by rfl)) (app_I ?_)
      exact hj e σ'' τ' (fun _ => none) t y h1 (h2.putF p h5) h3 (gr_empty _) rfl (fun _ _ => rfl) (p.get l5 h7) (p.get l21 h8) he2 (fun h => absurd h he1)
    by_cases hle : le = 0
    case neg =>
      rw [if_pos hle] at hTk
      refine br_t (by simpa using hle) (cvalv_i (yv_call (hY _ _ _ ⟨yl, ?_⟩)))
      show alW _ _ σ15
      refine al_i ?_; intro b26 σ16 g16 e16 n16
      have m26 : l ≠ b26 := ne_fr n16 (isSome_of yl)
      refine st_i2 e16 sz_Node (by rfl) (by rfl) ?_; intro σ17 p17
      refine beg_i (p17.get m26 (g16.get yl)) ?_
      intro σ18 p18
      have f26 : σ b26 = none := none_of hg15.gr n16
      refine br_t (by simpa using hle) ?_
      have ze := p18.get le' (p17.get (ne_fr n16 (isSome_of ye)) (g16.get ye))
      refine st_i2 ze sz_Errno (by rfl) (by rfl) ?_; intro σ19 p19
      refine round_i (p19.get le'.symm p18.same) ?_
      intro σ20 p20
      refine app_B ?_
      have z5 := p20.get l5 (p19.get n5e (p18.get l5 (p17.get (ne_fr n16 (isSome_of y5)) (g16.get y5))))
      have z21 := p20.get l21 (p19.get n21e (p18.get l21 (p17.get (ne_fr n16 (isSome_of y21)) (g16.get y21))))
      exact bad le σ20 σ (.mk ⟨⟨[]⟩⟩ 2 false xd []) ⟨none, 0, 0⟩ 0 hle (by rw [hTk]) (Gr.refl _) ((((hg15.gr.trans g16).putF p17 f26).putF p18 fl).putF p19 fe |>.putF p20 fl) f5 fe fl (p20.get le' p19.same) z5 z21 p20.same
    subst hle
    rw [if_neg (by simp)] at hTk
    have hnm := hLsz rfl
    refine br_f rfl (loop_i ?_)
    intro R hR
    have key : ∀ (rest : List ByteArray) (i : Nat) (acc : List Tr) (σi τi ρi : H) (z : Sl) (rows : List (List Value)), ln.drop i = rest → acc.length = i → Gr σ τi → Gr τi σi → (∀ b, σ15 b ≠ none → σ b = none → τi b = none) → (∀ b o, σ15 b = some o → b ≠ b21 → b ≠ l → σi b = some o) → σi l = some (obj .ready none) →
        σi b21 = some (.cells ⟨trC (.mk ⟨⟨[]⟩⟩ 2 false xd acc) z⟩ 24 (0, 0)) → RowsOwn σi 24 5 rows z → RowsTr ρi acc rows → Gr ρi τi → (∀ b, σ b ≠ none → ρi b = none) → (∀ g, z.base = some ⟨g, 0, none⟩ → σ15 g = none ∧ τi g = none) →
        (takeRow (AT.take A f) path ln).1 = (takeRow (AT.take A f) path rest).1 → ((takeRow (AT.take A f) path rest).1 = 0 → (takeRow (AT.take A f) path ln).2 = acc ++ (takeRow (AT.take A f) path rest).2) →
        R (yv l) (some ⟨c3, 0, none⟩) (some ⟨c4, 0, none⟩) x ((x.len : Nat) : Int) (i : Int) σi := by
      intro rest
      induction rest with
      | nil =>
        intro i acc σi τi ρi z rows hd hacc G1 G2 hnew hkeep hli h21 hown hrt hρ1 hρ2 hgf r1 r2
        have hge : ln.length ≤ i := by simpa using hd
        refine hR _ _ _ _ _ _ _ ?_
        refine br_f (by rw [hx.1]; simp only [decide_eq_false_iff_not]; omega) ?_
        refine end_n hli (by intro h; cases h) ?_
        intro σ' p
        obtain ⟨ρ', t1, t2, t3, t4⟩ := slAt_own hown hrt (hρ1.trans G2) fun g hx => none_of hρ1 (hgf g hx).2
        have hn' : ∀ b, σ15 b ≠ none → σ b = none → ρ' b = none := fun b hb hs => t4 b (fun h => hb (hgf b h).1) (none_of hρ1 (hnew b hb hs))
        have hs' : ∀ b, σ b ≠ none → ρ' b = none := fun b hb => t4 b (fun h => hb (none_of hg15.gr (hgf b h).1)) (hρ2 b hb)
        have z5 := p.get l5 (hkeep b5 _ y5 n521 l5)
        have ze := p.get le' (hkeep be _ ye n21e.symm le')
        have z21 := p.get l21 h21
        have tl := hn' l (by rw [yl]; simp) fl
        have tl' := hnew l (by rw [yl]; simp) fl
        have hz : (takeRow (AT.take A f) path []).1 = 0 := rfl
        refine hj5 σ' τi ρ' _ z 0 G1 (G2.putF p tl') (hnew b5 (by rw [y5]; simp) f5) (hnew be (by rw [ye]; simp) fe) (t2.putF p tl) (hn' b5 (by rw [y5]; simp) f5) (hn' be (by rw [ye]; simp) fe) hs' ze z5 z21 ?_ ?_ t3
        · rw [hTk]; show 0 = (takeRow (AT.take A f) path ln).1; rw [r1]; rfl
        · rw [hTk]; simp only; rw [r2 rfl]; simp [takeRow]
      | cons s rest ihr =>
        intro i acc σi τi ρi z rows hd hacc G1 G2 hnew hkeep hli h21 hown hrt hρ1 hρ2 hgf r1 r2
        obtain ⟨hsi, hlt, hd'⟩ := drop_get hd
        have hsmem := List.mem_of_getElem? hsi
        obtain ⟨hs1, hs2⟩ := hnm s hsmem
        obtain ⟨gx, cx, x1, x2, x3⟩ := hx.at hsi
        have ngx21 : gx ≠ b21 := by intro e; rw [e, y21] at x2; cases x2
        have ngxl : gx ≠ l := by
          intro e; rw [e, yl] at x2
          obtain ⟨rr, hrr⟩ := hobj
          rw [hrr] at x2; cases x2
        have x2' := hkeep gx _ x2 ngx21 ngxl
        have nc3 : c3 ≠ b21 := n21c3.symm
        have nc4 : c4 ≠ b21 := n21c4.symm
        have z3 := hkeep c3 _ y3 nc3 lc3
        have z4 := hkeep c4 _ y4 nc4 lc4
        refine hR _ _ _ _ _ _ _ ?_
        refine br_t (by rw [hx.1]; simp only [decide_eq_true_eq]; omega) ?_
        rw [x1]
        refine ptr_i (if_i ⟨by omega, by rw [hx.1]; omega⟩ ?_)
        have hrd : rdC gx (0 + (i : Int).toNat * 1) σi = some (.string s) := rdC_of x2' (by simpa using x3)
        refine rd_S hrd (ptr_i (rd_G (rdA_of' z3 (by rfl)) ?_))
        (refine app_of rfl ?_; try dsimp only)
        refine ptr_i (rd_S (rdC_of z4 (by rfl)) ?_)
        refine call_i (x_Trim path (by omega) (app_S ?_))
        refine and_i (rdA_of' z3 (by rfl)) ?_
        have hts := trimS_size path
        have q1 : (⟨⟨[47]⟩⟩ : ByteArray).size = 1 := rfl
        refine if_i (by rw [q1]; omega) (if_i (by rw [ByteArray.size_append, q1]; omega) ?_)
        have hks := kidP_size path s
        have hcall := ih (kidP path s) (by omega) (by omega) (hF.gr G1) (K := fun v τ' => ∃ t y ρ, v = .tuple ⟨[.agg ⟨trC t y⟩, .int .i64 (A.take f (kidP path s)).1]⟩ ∧ Gr τi τ' ∧ Gr ρ τ' ∧ (∀ b, τi b ≠ none → ρ b = none) ∧ ((A.take f (kidP path s)).1 = 0 → t = (A.take f (kidP path s)).2 ∧ SlAt ρ t.kids y)) (fun t y τ' ρ h1 h3 h4 h2 => ⟨t, y, ρ, rfl, h1, h3, h4, h2⟩)
        refine call_from G2 hcall ?_
        rintro v σ16 τ16 ⟨t, y, ρ, rfl, m1, mρ, mρ2, m2⟩ m3 m4 m5
        rw [takeRow] at r1 r2
        simp only at r1 r2
        generalize A.take f (kidP path s) = tk at m2 r1 r2 ⊢
        obtain ⟨te, tt⟩ := tk
        simp only at m2 r1 r2 ⊢
        unfold trC
        (refine app_of rfl ?_; try dsimp only)
        have kp16 : ∀ b o, σ15 b = some o → b ≠ b21 → b ≠ l → σ b = none → σ16 b = some o := fun b o h1 h2 h3 h4 => m4 b o (hnew b (by rw [h1]; simp) h4) (hkeep b o h1 h2 h3)
        have t21 : τi b21 = none := hnew b21 (by rw [y21]; simp) f21
        have tl : τi l = none := hnew l (by rw [yl]; simp) fl
        have u21 := m4 b21 _ t21 h21
        have ul := m4 l _ tl hli
        have T21 : τ16 b21 = none := m5 b21 (by rw [h21]; simp) t21
        have Tl : τ16 l = none := m5 l (by rw [hli]; simp) tl
        refine al_i ?_; intro b36 σ17 g17 e17 n17
        have m36 : τ16 b36 = none := none_of m3 n17
        refine st_i2 e17 sz_Node (by rfl) (by rfl) ?_; intro σ18 p18
        refine st_i2 p18.same sz_string (by rfl) (by rfl) ?_; intro σ19 p19
        have k36 : σ19 b36 = some (.cells ⟨trC (t.named s) y⟩ 24 (0, 0)) := by
          have := p19.same
          obtain ⟨tn, tkd, tex, td, tks⟩ := t
          exact this
        have st19 : ∀ b o, σ16 b = some o → σ19 b = some o := fun b o hb => by
          have hne : b ≠ b36 := ne_fr n17 (isSome_of hb)
          exact p19.get hne (p18.get hne (g17.get hb))
        have G19 : Gr τ16 σ19 := (m3.trans g17).putF p18 m36 |>.putF p19 m36
        clear p18 p19 e17 g17
        refine j_d ?_
        unfold trC at k36
        refine rd_G (rdA_of' k36 (by rfl)) ?_
        (refine app_of rfl ?_; try dsimp only)
        refine cvalv_i (yv_call (hY _ _ _ ⟨st19 l _ ul, ?_⟩))
        show alW _ _ σ19
        refine al_i ?_; intro b26 σ20 g20 e20 n20
        refine st_i2 e20 sz_Node (by rfl) (by rfl) ?_; intro σ21 p21
        have st21 : ∀ b o, σ16 b = some o → σ21 b = some o := fun b o hb => by
          have hb' := st19 b o hb
          exact p21.get (ne_fr n20 (isSome_of hb')) (g20.get hb')
        have m26 : τ16 b26 = none := none_of G19 n20
        have G21 : Gr τ16 σ21 := (G19.trans g20).putF p21 m26
        have k26 := p21.same
        have f26 : σ16 b26 = none := by
          cases h : σ16 b26 with
          | none => rfl
          | some o => have := st19 b26 o h; rw [n20] at this; cases this
        clear p21 e20 g20
        refine beg_i (st21 l _ ul) ?_
        intro σ22 p22
        have nl26 : b26 ≠ l := fun e => by rw [e, ul] at f26; cases f26
        have k26' := p22.get nl26 k26
        have st22 : ∀ b o, σ16 b = some o → b ≠ l → σ22 b = some o := fun b o hb hn => p22.get hn (st21 b o hb)
        have G22 : Gr τ16 σ22 := G21.putF p22 Tl
        have l22 : σ22 l = some (obj .busy none) := p22.same
        clear p22
        have e16 := kp16 be _ ye n21e.symm le' fe
        have e516 := kp16 b5 _ y5 n521 l5 f5
        have Te : τ16 be = none := m5 be (by rw [hkeep be _ ye n21e.symm le']; simp) (hnew be (by rw [ye]; simp) fe)
        have T5 : τ16 b5 = none := m5 b5 (by rw [hkeep b5 _ y5 n521 l5]; simp) (hnew b5 (by rw [y5]; simp) f5)
        by_cases hte : te = 0
        case neg =>
          rw [if_pos hte] at r1
          refine br_t (by simpa using hte) ?_
          refine st_i2 (st22 be _ e16 le') sz_Errno (by rfl) (by rfl) ?_; intro σ23 p23
          refine round_i (p23.get le'.symm l22) ?_
          intro σ24 p24
          refine app_B (br_t rfl (br_t rfl ?_))
          have z21 := p24.get l21 (p23.get n21e (st22 b21 _ u21 l21))
          have z5 := p24.get l5 (p23.get n5e (st22 b5 _ e516 l5))
          exact bad te σ24 τ16 _ z 0 hte (by rw [hTk]; exact r1.symm) (G1.trans m1) ((G22.putF p23 Te).putF p24 Tl) T5 Te Tl (p24.get le' p23.same) z5 z21 p24.same
        subst hte
        obtain ⟨rfl, hsl⟩ := m2 rfl
        rw [if_neg (by simp)] at r1 r2
        simp only at r1 r2
        unfold trC at u21 h21
        refine br_f rfl (ptr_i (rd_L (rdC_of (st22 b21 _ u21 l21) (by rfl)) ?_))
        refine rd_G (rdA_of' k26' (by rfl)) ?_
        (refine app_of rfl ?_; try dsimp only)
        refine al_i ?_; intro b35 σ23 g23 e23 n23
        have own23 : RowsOwn σ23 24 5 rows z := hown.keep fun g o hgz ho => by
          have hg := hgf g hgz
          have h1 := m4 g o hg.2 ho
          have hgl : g ≠ l := fun e => by rw [e, yl] at hg; cases hg.1
          exact g23.get (st22 g o h1 hgl)
        have hgl : ∀ g, z.base = some ⟨g, 0, none⟩ → g ≠ l ∧ g ≠ b21 := fun g hgz => by
          have hg := hgf g hgz
          exact ⟨fun e => (by rw [e, yl] at hg; cases hg.1), fun e => (by rw [e, y21] at hg; cases hg.1)⟩
        have st23 : ∀ b o, σ16 b = some o → b ≠ l → σ23 b = some o := fun b o hb hn => g23.get (st22 b o hb hn)
        have G23 : Gr τ16 σ23 := G22.trans g23
        have l23 := g23.get l22
        obtain ⟨inf, zz, i1, i2, i3, i4, i5⟩ := info_Node
        have hal : acc.length ≤ N := by omega
        have hrl : rows.length < 1000000000 := by rw [hrt.len]; omega
        have hone0 : ∀ u ∈ [Value.string ⟨⟨[]⟩⟩, .int .i64 0, .bool false, .string ⟨⟨[]⟩⟩, .slice none 0 0], u.oneCell' = true := by
          intro u hu
          simp only [List.mem_cons, List.mem_nil_iff, or_false] at hu
          rcases hu with rfl | rfl | rfl | rfl | rfl <;> rfl
        refine append_i und_Nodes i1 i2 i3 rfl i5 (by decide) own23 e23 rfl hone0 hrl i4 ?_
        intro z' σ24 own24 hcase
        obtain ⟨g', cur, z1, z2, z3', z4', z5'⟩ := own24.last (by decide)
        have hzl : z.len = rows.length := own23.1
        rw [z1]
        refine ptr_i (if_i ⟨by omega, by rw [z4', hzl]; omega⟩ (ptr_i ?_))
        have hofs : 0 + (((z.len : Nat) : Int) : Int).toNat * 5 = rows.length * 5 := by rw [hzl]; omega
        rw [hofs]
        have nb35 : σ16 b35 = none := by
          cases h : σ16 b35 with
          | none => rfl
          | some o =>
            by_cases e : b35 = l
            · rw [e] at n23; rw [l22] at n23; cases n23
            · have := st22 b35 o h e; rw [n23] at this; cases this
        -- where the rows lie now
        have hg' : g' ≠ b21 ∧ g' ≠ l ∧ τ16 g' = none ∧ σ15 g' = none ∧ Gr τ16 σ24 ∧ (∀ b o, σ16 b = some o → b ≠ l → b ≠ g' → σ24 b = some o) ∧ σ24 l = some (obj .busy none) := by
          rcases hcase with ⟨g, o, hz1, hz2, p24⟩ | ⟨g, hz1, hf24, g24⟩
          · have hgg : g = g' := by rw [hz2, hz1] at z1; cases z1; rfl
            subst hgg
            have hg := hgf g hz1
            have t16 : τ16 g = none := m5 g (hown.has hz1) hg.2
            exact ⟨(hgl g hz1).2, (hgl g hz1).1, t16, hg.1, G23.putF p24 t16, fun b o hb hn hng => p24.get hng (st23 b o hb hn), p24.get (hgl g hz1).1.symm l23⟩
          · have hgg : g = g' := by rw [hz1] at z1; cases z1; rfl
            subst hgg
            have n1 : g ≠ b21 := fun e => by rw [e, st23 b21 _ u21 l21] at hf24; cases hf24
            have n2 : g ≠ l := fun e => by rw [e, l23] at hf24; cases hf24
            refine ⟨n1, n2, none_of G23 hf24, ?_, G23.trans g24, fun b o hb hn _ => g24.get (st23 b o hb hn), g24.get l23⟩
            cases h : σ15 g with
            | none => rfl
            | some o =>
              cases hs : σ g with
              | none => rw [st23 g o (kp16 g o h n1 n2 hs) n2] at hf24; cases hf24
              | some o' => rw [G23.get (m1.get (G1.get hs))] at hf24; cases hf24
        obtain ⟨q1', q2', q3', q4', q5', q6', q7'⟩ := hg'
        have hlen5 : (trC (t.named s) y).length = 5 := rfl
        have hnd : trC (t.named s) y = [.string s, .int .i64 t.kind, .bool t.exec, .string t.data, .slice y.base y.len y.cap] := by obtain ⟨tn, tkd, tex, td, tks⟩ := t; rfl
        have hnk : (t.named s).kids = t.kids := by obtain ⟨tn, tkd, tex, td, tks⟩ := t; rfl
        have fin : ∀ σ' : H, σ' b21 = some (.cells ⟨[.string ⟨⟨[]⟩⟩, .int .i64 2, .bool false, .string xd, .slice (some ⟨g', 0, none⟩) z'.len z'.cap]⟩ 24 (0, 0)) → RowsOwn σ' 24 5 (rows ++ [trC (t.named s) y]) z' → Gr τ16 σ' → (∀ b o, σ16 b = some o → b ≠ l → b ≠ b21 → b ≠ g' → σ' b = some o) → σ' l = some (obj .busy none) →
            ∀ σ'' : H, Put σ' l (obj .ready none) σ'' → R (yv l) (some ⟨c3, 0, none⟩) (some ⟨c4, 0, none⟩) x ((x.len : Nat) : Int) ((i : Int) + 1) σ'' := by
          intro σ' a1 a2 a3 a4 a5 σ'' pr
          rw [← z1] at a1
          refine ihr (i + 1) (acc ++ [t.named s]) σ'' τ16 (ρi.union ρ) z' (rows ++ [trC (t.named s) y]) hd' (by simp [hacc]) (G1.trans m1) (a3.putF pr Tl) ?_ ?_ pr.same (pr.get l21 a1) ?_ ?_ (gr_union (hρ1.trans m1) mρ) ?_ ?_ r1 ?_
          · intro b hb hs
            by_cases e1 : b = b21
            · rw [e1]; exact T21
            · by_cases e2 : b = l
              · rw [e2]; exact Tl
              · refine m5 b ?_ (hnew b hb hs)
                cases h : σ15 b with
                | none => exact absurd h hb
                | some o => rw [hkeep b o h e1 e2]; simp
          · intro b o hb h1 h2
            have hbg : b ≠ g' := fun e => by rw [e, q4'] at hb; cases hb
            refine pr.get h2 ?_
            cases hs : σ b with
            | none => exact a4 b o (kp16 b o hb h1 h2 hs) h2 h1 hbg
            | some o' =>
              have h3 := G1.get hs
              have h4 := hkeep b o hb h1 h2
              have h5 := G2.get h3
              rw [h4] at h5; cases h5
              exact a3.get (m1.get h3)
          · exact a2.keep fun g o hgz ho => pr.get (fun e => by rw [z1] at hgz; cases hgz; exact q2' e) ho
          · have hdis : ∀ b, ρi b ≠ none → ρ b = none := fun b hb => mρ2 b (fun h => hb (none_of hρ1 h))
            exact (hrt.gr (gr_left _ _)).snoc (trAt_iff.2 ⟨y, rfl, by rw [hnk]; exact hsl.gr (gr_right hdis)⟩)
          · intro b hb
            exact union_none (hρ2 b hb) (mρ2 b (fun h => hb (none_of G1 h)))
          · intro g hgz; rw [z1] at hgz; cases hgz; exact ⟨q4', q3'⟩
          · intro h0
            rw [r2 h0]; simp
        have u24 := q6' b21 _ u21 l21 q1'.symm
        have hone1 : ∀ u ∈ arrL (Value.agg ⟨[.string s, .int .i64 t.kind, .bool t.exec, .string t.data, .slice y.base y.len y.cap]⟩).cells, u.oneCell' = true := by
          intro u hu
          have hu : u ∈ [Value.string s, .int .i64 t.kind, .bool t.exec, .string t.data, .slice y.base y.len y.cap] := hu
          simp only [List.mem_cons, List.mem_nil_iff, or_false] at hu
          rcases hu with rfl | rfl | rfl | rfl | rfl <;> rfl
        have hnm' : (t.named s).name = s ∧ (t.named s).kind = t.kind ∧ (t.named s).exec = t.exec ∧ (t.named s).data = t.data := by obtain ⟨tn, tkd, tex, td, tks⟩ := t; exact ⟨rfl, rfl, rfl, rfl⟩
        rw [hnm'.1, hnm'.2.1, hnm'.2.2.1, hnm'.2.2.2]
        refine both_i ?_ ?_
        · refine st_i z2 (sz_Node) (show rows.length * 5 + 5 ≤ cur.length from z3') hone1 (.inl (Nat.le_refl _)) ?_
          intro σ25 p25
          have own25 := z5' (trC (t.named s) y) σ25 hlen5 (by rw [hnd]; exact p25)
          refine st_i2 (p25.get q1'.symm u24) sz_Nodes (by rfl) (by rfl) ?_; intro σ26 p26
          refine round_i (p26.get l21.symm (p25.get q2'.symm q7')) ?_
          intro σ27 p27
          refine app_B (br_f rfl (br_f rfl ?_))
          rw [wrap_id (x := (i : Int) + 1) (by omega) (by omega)]
          exact fin σ26 p26.same (own25.put p26 (by rw [z1]; intro e; cases e; exact q1' rfl)) ((q5'.putF p25 q3').putF p26 T21) (fun b o hb h1 h2 h3 => p26.get h2 (p25.get h3 (q6' b o hb h1 h3))) (p26.get l21.symm (p25.get q2'.symm q7')) σ27 p27
        · refine st_i2 u24 sz_Nodes (by rfl) (by rfl) ?_; intro σ25 p25
          have z2b := p25.get q1' z2
          refine st_i z2b (sz_Node) (show rows.length * 5 + 5 ≤ cur.length from z3') hone1 (.inl (Nat.le_refl _)) ?_
          intro σ26 p26
          have own25 : RowsOwn σ26 24 5 (rows ++ [trC (t.named s) y]) z' := by
            have hS := z5' (trC (t.named s) y) _ hlen5 (Put.intro σ24 g' _)
            refine hS.keep fun g o hgz ho => ?_
            rw [z1] at hgz; cases hgz
            rw [H.put_same] at ho; cases ho
            rw [hnd]; exact p26.same
          have h21' := p26.get q1'.symm p25.same
          refine round_i (p26.get q2'.symm (p25.get l21.symm q7')) ?_
          intro σ27 p27
          refine app_B (br_f rfl (br_f rfl ?_))
          rw [wrap_id (x := (i : Int) + 1) (by omega) (by omega)]
          exact fin σ26 h21' own25 ((q5'.putF p25 T21).putF p26 q3') (fun b o hb h1 h2 h3 => p26.get h3 (p25.get h2 (q6' b o hb h1 h3))) (p26.get q2'.symm (p25.get l21.symm q7')) σ27 p27
    have hlx : ∀ g, (⟨none, 0, 0⟩ : Sl).base = some ⟨g, 0, none⟩ → σ15 g = none ∧ σ g = none := fun g h => by cases h
    exact key ln 0 [] σ15 σ (fun _ => none) ⟨none, 0, 0⟩ [] rfl rfl (Gr.refl _) hg15.gr (fun _ _ h => h) (fun _ _ h _ _ => h) yl y21 (RowsOwn.nil _ _ _) trivial (gr_empty _) (fun _ _ => rfl) hlx rfl (fun _ => by simp)
end Go.Proofs.YtlpcehbfoogejaaGreatDoor

/- A TABLE OF INODES: another entry of a file; an entry moves: what always holds stays so. -/
namespace Go.Wk
open Go Go.HL
variable {A : AT}
/-! ### Link -/
theorem linkE_z {dir : Int} {name : ByteArray} {ino : Int} (he : A.linkE dir name ino = 0) : A.isDir dir ∧ namedE name = 0 ∧ (∃ n, A.get ino = some n ∧ n.kind = 1) ∧ A.find dir name = none := by
  unfold AT.linkE at he
  obtain ⟨_, he⟩ := AT.firstE_z he
  obtain ⟨h1, he⟩ := AT.firstE_z he
  obtain ⟨h2, he⟩ := AT.firstE_z he
  obtain ⟨h3, he⟩ := AT.firstE_z he
  obtain ⟨h4, _⟩ := AT.firstE_z he
  refine ⟨AT.dirE_z h1, h2, AT.fileE_z h3, ?_⟩
  cases hf : A.find dir name with
  | none => rfl
  | some j => rw [hf] at h4; simp at h4
theorem linkR_ok {N : Nat} (h : Inv A) (hb : Bd N A) (hN : N < 4611686018427387904) (dir : Int) (name : ByteArray) (ino : Int) : Inv (A.linkR dir name ino).2 ∧ Bd (N + 1) (A.linkR dir name ino).2 ∧ ((A.linkR dir name ino).1 ≠ 0 → (A.linkR dir name ino).2 = A) ∧ (A.linkR dir name ino).2.qi = A.qi ∧ (A.linkR dir name ino).2.qb = A.qb := by
  unfold AT.linkR
  by_cases he : A.linkE dir name ino = 0
  case neg => rw [if_neg he]; exact ⟨h, hb.mono (by omega), fun _ => rfl, rfl, rfl⟩
  rw [if_pos he]
  obtain ⟨⟨nd, hd, hd2⟩, hnm, ⟨nn, hnn, hk1⟩, hfn⟩ := linkE_z he
  have hne : ino ≠ dir := by intro e; subst e; rw [hd] at hnn; cases hnn; omega
  have hfn' : lk name nd.ents = none := by unfold AT.find at hfn; rw [hd] at hfn; exact hfn
  have hlb : nn.links ≤ N := hb.links ino nn hnn
  have hi1 : ino ≠ 1 := by
    intro e; subst e
    obtain ⟨r, r1, r2, _⟩ := h.root
    rw [hnn] at r1; cases r1; omega
  have hl0 := h.links ino nn hnn hi1
  have wl : wr (nn.links + 1) = nn.links + 1 := wr_id (by omega) (by omega)
  have e1 : A.ent dir (up name ino) = A.set dir { nd with ents := up name ino nd.ents } := by unfold AT.ent; rw [hd]
  have g1 : (A.set dir { nd with ents := up name ino nd.ents }).get ino = some nn := by rw [AT.get_set_ne _ _ hne]; exact hnn
  have e2 : A.linked dir name ino = (A.set dir { nd with ents := up name ino nd.ents }).set ino { nn with links := nn.links + 1 } := by
    unfold AT.linked AT.mod; rw [e1, g1]; simp only; rw [wl]
  have hG : ∀ j, (A.linked dir name ino).get j = if j = ino then some { nn with links := nn.links + 1 } else if j = dir then some { nd with ents := up name ino nd.ents } else A.get j := by
    intro j; rw [e2, AT.get_set, AT.get_set]
  have hsum : ∀ f : AN → Nat, sumF f (A.linked dir name ino).nodes + f nd + f nn = sumF f A.nodes + f { nd with ents := up name ino nd.ents } + f { nn with links := nn.links + 1 } := by
    intro f
    have q1 := AT.sum_set (A.set dir { nd with ents := up name ino nd.ents }) f ino { nn with links := nn.links + 1 }
    have q2 := AT.sum_set A f dir { nd with ents := up name ino nd.ents }
    rw [g1] at q1; rw [hd] at q2
    simp only [Option.map_some, Option.getD_some] at q1 q2
    rw [e2]; omega
  have hcE : ∀ j, cntE j { nd with ents := up name ino nd.ents } = cntE j nd + one j ino := by
    intro j
    have := sumF_up (one j) name ino nd.ents
    rw [hfn'] at this
    simpa [cntE] using this
  have hrefs : ∀ j, (A.linked dir name ino).refs j = A.refs j + one j ino := by
    intro j
    have := hsum (cntE j)
    rw [hcE j] at this
    have e : cntE j { nn with links := nn.links + 1 } = cntE j nn := rfl
    unfold AT.refs; omega
  have hcase : ∀ j m, (A.linked dir name ino).get j = some m → (j = ino ∧ m = { nn with links := nn.links + 1 }) ∨ (j = dir ∧ m = { nd with ents := up name ino nd.ents }) ∨ (j ≠ ino ∧ j ≠ dir ∧ A.get j = some m) := by
    intro j m hm
    rw [hG] at hm
    by_cases e : j = ino
    · rw [if_pos e] at hm; cases hm; exact .inl ⟨e, rfl⟩
    · rw [if_neg e] at hm
      by_cases e' : j = dir
      · rw [if_pos e'] at hm; cases hm; exact .inr (.inl ⟨e', rfl⟩)
      · rw [if_neg e'] at hm; exact .inr (.inr ⟨e, e', hm⟩)
  have hx : ∀ j m, A.get j = some m → ∃ m', (A.linked dir name ino).get j = some m' ∧ m'.kind = m.kind ∧ m'.up = m.up := by
    intro j m hm
    rw [hG]
    by_cases e : j = ino
    · subst e; rw [if_pos rfl]; rw [hnn] at hm; cases hm; exact ⟨_, rfl, rfl, rfl⟩
    · rw [if_neg e]
      by_cases e' : j = dir
      · subst e'; rw [if_pos rfl]; rw [hd] at hm; cases hm; exact ⟨_, rfl, rfl, rfl⟩
      · rw [if_neg e']; exact ⟨m, hm, rfl, rfl⟩
  have hupO : ∀ k, A.isDir k → (A.linked dir name ino).upOf k = A.upOf k := by
    rintro k ⟨m, hm, _⟩
    obtain ⟨m', q1, _, q3⟩ := hx k m hm
    unfold AT.upOf; rw [hm, q1]; simp [q3]
  have hu : (A.linked dir name ino).ui = A.ui ∧ (A.linked dir name ino).ub = A.ub ∧ (A.linked dir name ino).qi = A.qi ∧ (A.linked dir name ino).qb = A.qb ∧ (A.linked dir name ino).last = A.last := by rw [e2]; exact ⟨rfl, rfl, rfl, rfl, rfl⟩
  have hone : one ino ino = 1 := by unfold one; simp
  show Inv (A.linked dir name ino) ∧ Bd (N + 1) (A.linked dir name ino) ∧ ((0 : Int) ≠ 0 → _) ∧ _ ∧ _
  refine ⟨⟨?_, ?_, ?_, ?_, ?_, ?_, ?_, ?_, ?_, ?_, ?_, ?_, ?_⟩, ⟨?_, ?_, ?_⟩, fun h => absurd rfl h, hu.2.2.1, hu.2.2.2.1⟩
  · rw [e2]; exact nodup_up (nodup_up h.nodup)
  · intro j m hm
    rcases hcase j m hm with ⟨_, rfl⟩ | ⟨_, rfl⟩ | ⟨_, _, hm⟩
    · exact h.enod ino nn hnn
    · exact nodup_up (h.enod dir nd hd)
    · exact h.enod j m hm
  · obtain ⟨r, r1, r2, r3⟩ := h.root
    obtain ⟨m', q1, q2, q3⟩ := hx 1 r r1
    exact ⟨m', q1, by rw [q2, r2], by rw [q3, r3]⟩
  · intro j m hm
    rw [hu.2.2.2.2]
    rcases hcase j m hm with ⟨rfl, _⟩ | ⟨rfl, _⟩ | ⟨_, _, hm⟩
    · exact h.low _ nn hnn
    · exact h.low _ nd hd
    · exact h.low j m hm
  · intro j m hm
    rcases hcase j m hm with ⟨_, rfl⟩ | ⟨_, rfl⟩ | ⟨_, _, hm⟩
    · exact h.like ino nn hnn
    · exact h.like dir nd hd
    · exact h.like j m hm
  · intro j m hm hk
    rcases hcase j m hm with ⟨_, rfl⟩ | ⟨_, rfl⟩ | ⟨_, _, hm⟩
    · exact h.file ino nn hnn hk
    · exact absurd hd2 hk
    · exact h.file j m hm hk
  · intro j m s t hm hs
    have fin : ∀ t m1, A.get t = some m1 → (m1.kind = 2 → m1.up = j) → ∃ m', (A.linked dir name ino).get t = some m' ∧ (m'.kind = 2 → m'.up = j) := by
      intro t m1 a3 a4
      obtain ⟨m', b1, b2, b3⟩ := hx t m1 a3
      exact ⟨m', b1, fun hk => by rw [b3]; exact a4 (by rw [← b2]; exact hk)⟩
    rcases hcase j m hm with ⟨rfl, rfl⟩ | ⟨rfl, rfl⟩ | ⟨_, _, hm⟩
    · obtain ⟨a1, a2, m1, a3, a4⟩ := h.ent j nn s t hnn hs
      exact ⟨a1, a2, fin t m1 a3 a4⟩
    · simp only [lk_up] at hs
      by_cases e : s = name
      · subst e
        simp at hs; subst hs
        exact ⟨hnm, hi1, fin ino nn hnn (fun hk => by omega)⟩
      · have e' : (s == name) = false := by simpa using e
        rw [e'] at hs
        obtain ⟨a1, a2, m1, a3, a4⟩ := h.ent j nd s t hd hs
        exact ⟨a1, a2, fin t m1 a3 a4⟩
    · obtain ⟨a1, a2, m1, a3, a4⟩ := h.ent j m s t hm hs
      exact ⟨a1, a2, fin t m1 a3 a4⟩
  · intro j m hm hj
    rw [hrefs]
    rcases hcase j m hm with ⟨rfl, rfl⟩ | ⟨rfl, rfl⟩ | ⟨hji, _, hm⟩
    · rw [hone]
      refine ⟨by show nn.links + 1 = _; omega, by omega, fun hk => ?_⟩
      have hk : nn.kind = 2 := hk
      omega
    · have : one j ino = 0 := by unfold one; rw [if_neg hne]
      rw [this]; exact h.links j nd hd hj
    · have : one j ino = 0 := by unfold one; rw [if_neg (fun e => hji e.symm)]
      rw [this]; exact h.links j m hm hj
  · rintro k ⟨m, hm, hk⟩
    have hkd : A.isDir k := by
      rcases hcase k m hm with ⟨rfl, rfl⟩ | ⟨rfl, rfl⟩ | ⟨_, _, hm⟩
      · have hk : nn.kind = 2 := hk
        omega
      · exact ⟨nd, hd, hk⟩
      · exact ⟨m, hm, hk⟩
    rw [deep_same h hupO 12 k hkd]; exact h.deep k hkd
  · have := hsum (fun _ => 1)
    rw [sumF_len, sumF_len] at this
    rw [hu.1, h.ui]; omega
  · have := hsum (fun n => n.data.size)
    rw [hu.2.1, h.ub]; unfold AT.bytes; simp only at this; omega
  · rw [hu.1, hu.2.2.1]; exact h.uq
  · rw [hu.2.1, hu.2.2.2.1]; exact h.bq
  · rw [hu.2.2.2.2]; have := hb.last; omega
  · intro j m hm
    rcases hcase j m hm with ⟨_, rfl⟩ | ⟨rfl, rfl⟩ | ⟨_, _, hm⟩
    · show nn.links + 1 ≤ _; omega
    · have := hb.links _ nd hd; simp only; omega
    · have := hb.links j m hm; omega
  · intro j m hm
    rcases hcase j m hm with ⟨_, rfl⟩ | ⟨rfl, rfl⟩ | ⟨_, _, hm⟩
    · have := hb.ents _ nn hnn; simp only; omega
    · have := hb.ents _ nd hd
      simp only
      rw [enc_up_new nd.ents name _ hfn']; simp; omega
    · have := hb.ents j m hm; omega
theorem hardF_ok {N : Nat} (h : Inv A) (hb : Bd N A) (hN : N < 4611686018427387904) (cwd src to : ByteArray) : OpOk (N + 1) A (A.hardF cwd src to) := by
  unfold AT.hardF
  simp only
  split
  · exact OpOk.self h (hb.mono (by omega)) _
  split
  · exact OpOk.self h (hb.mono (by omega)) _
  split
  · exact OpOk.self h (hb.mono (by omega)) _
  split
  · exact OpOk.self h (hb.mono (by omega)) _
  split
  · exact OpOk.self h (hb.mono (by omega)) _
  obtain ⟨a, b, c, d, e⟩ := linkR_ok h hb hN (A.both cwd src to).2.2.dir (A.both cwd src to).2.2.name (A.both cwd src to).2.1.ino
  exact ⟨a, b, c, d, e⟩
/-! ### Move -/
/-- so many steps up, a directory is reached for the first time -/
def Below (A : AT) (ino : Int) : Nat → Int → Prop
  | 0, k => k = ino
  | r + 1, k => k ≠ ino ∧ k ≠ 1 ∧ Below A ino r (A.upOf k)
theorem no_loop (h : Inv A) {k : Int} (hk : A.isDir k) (h1 : k ≠ 1) : A.upOf k ≠ k := by
  intro e
  obtain ⟨d, hd⟩ := h.deep k hk
  have : ∀ f, A.deep f k = none := by
    intro f
    induction f with
    | zero => rfl
    | succ f ih => unfold AT.deep; rw [if_neg h1, e, ih]; rfl
  rw [this] at hd; cases hd
theorem within_some (ino : Int) : ∀ {f : Nat} {d x : Int}, A.deep f d = some x → ∃ b, A.within ino f d = some b := by
  intro f
  induction f with
  | zero => intro d x h; cases h
  | succ f ih =>
    intro d x h
    unfold AT.deep at h
    unfold AT.within
    by_cases e : d = ino
    · rw [if_pos e]; exact ⟨_, rfl⟩
    · rw [if_neg e]
      by_cases e1 : d = 1
      · rw [if_pos e1]; exact ⟨_, rfl⟩
      · rw [if_neg e1] at h ⊢
        cases hd : A.deep f (A.upOf d) with
        | none => rw [hd] at h; cases h
        | some y => exact ih hd
theorem apart_some (h : Inv A) (ino : Int) : ∀ {f : Nat} {d x : Int}, A.isDir d → A.deep f d = some x → ∃ b, A.apart ino f d = some b := by
  intro f
  induction f with
  | zero => intro d x _ h; cases h
  | succ f ih =>
    intro d x hdir hd
    unfold AT.deep at hd
    unfold AT.apart
    by_cases e1 : d = 1
    · rw [if_pos e1]; exact ⟨_, rfl⟩
    · rw [if_neg e1] at hd ⊢
      by_cases e : d = ino
      · rw [if_pos e]; exact ⟨_, rfl⟩
      · rw [if_neg e]
        have hu := h.isDir_up hdir
        obtain ⟨n, hn, _⟩ := hdir
        have hup : A.upOf d = n.up := by unfold AT.upOf; rw [hn]; rfl
        rw [hup] at hd hu
        rw [hn]
        cases hd2 : A.deep f n.up with
        | none => rw [hd2] at hd; cases hd
        | some y => exact ih hu hd2
theorem named_once (h : Inv A) {i k : Int} {n m : AN} {s s' : ByteArray} (hn : A.get i = some n) (hm : A.get k = some m) (hk2 : m.kind = 2) (hk1 : k ≠ 1) (h1 : lk s n.ents = some k) (h2 : lk s' n.ents = some k) : s = s' := by
  apply Classical.byContradiction
  intro hne
  have hr := (h.links k m hm hk1).2.2 hk2
  have a := sumF_two (f := one k) (h.enod i n hn) h1 h2 hne
  have b := sumF_ge (f := cntE k) (show lk i A.nodes = some n from hn)
  have e : one k k = 1 := by unfold one; simp
  rw [e] at a
  unfold AT.refs at hr
  have : sumF (one k) n.ents ≤ sumF (cntE k) A.nodes := b
  omega
structure Moved (A : AT) (src : Int) (name : ByteArray) (to : Int) (as_ : ByteArray) (ino : Int) (nn ns nt' : AN) (M : AT) : Prop where
  get : ∀ j, M.get j = if j = ino then some (if nn.kind == 2 then { nn with up := to } else nn) else if j = to then some { nt' with ents := up as_ ino nt'.ents } else if j = src then some { ns with ents := rm name ns.ents } else A.get j
  ui : M.ui = A.ui
  ub : M.ub = A.ub
  qi : M.qi = A.qi
  qb : M.qb = A.qb
  last : M.last = A.last
theorem moved_ok {N : Nat} (h : Inv A) (hb : Bd N A) {src to ino : Int} {name as_ : ByteArray} {nn : AN} (hs : A.isDir src) (ht : A.isDir to) (hnm : namedE as_ = 0) (hf : A.find src name = some ino) (hfr : A.find to as_ = none) (hn : A.get ino = some nn)
    (hnb : nn.kind = 2 → ∀ r, ¬ Below A ino r to) (hdp : nn.kind = 2 → ∀ dt r k, A.deep 12 to = some dt → A.isDir k → Below A ino r k → dt + 1 + (r : Int) ≤ 12) :
    Inv (A.moved src name to as_) ∧ Bd (N + 1) (A.moved src name to as_) ∧ ∃ ns nt' : AN, A.get src = some ns ∧ lk as_ nt'.ents = none ∧ (nt' = if to = src then { ns with ents := rm name ns.ents } else (A.get to).getD nt') ∧ Moved A src name to as_ ino nn ns nt' (A.moved src name to as_) := by
  obtain ⟨ns, hns, hns2⟩ := hs
  obtain ⟨nt, hnt, hnt2⟩ := ht
  have hlk : lk name ns.ents = some ino := by unfold AT.find at hf; rw [hns] at hf; exact hf
  have hlt : lk as_ nt.ents = none := by unfold AT.find at hfr; rw [hnt] at hfr; exact hfr
  obtain ⟨_, hi1, nn', hnn', hup⟩ := h.ent src ns name ino hns hlk
  rw [hn] at hnn'; cases hnn'
  have hit : ino ≠ to := by
    intro e; subst e
    rw [hn] at hnt; cases hnt
    exact hnb hnt2 0 rfl
  have his : ino ≠ src := by
    intro e; subst e
    rw [hn] at hns; cases hns
    have := no_loop h ⟨nn, hn, hns2⟩ hi1
    unfold AT.upOf at this; rw [hn] at this
    exact this (hup hns2)
  -- the three changes
  have e1 : A.ent src (rm name) = A.set src { ns with ents := rm name ns.ents } := by unfold AT.ent; rw [hns]
  have hnd := h.enod src ns hns
  obtain ⟨nt', g1, t1, t2, t3, t4, t5, t6, t7, t8, t9, t10⟩ : ∃ nt', (A.set src { ns with ents := rm name ns.ents }).get to = some nt' ∧ nt'.kind = nt.kind ∧ nt'.up = nt.up ∧ nt'.mode = nt.mode ∧ nt'.data = nt.data ∧ nt'.links = nt.links ∧ (keysL nt'.ents).Nodup ∧ lk as_ nt'.ents = none ∧ (∀ s j, lk s nt'.ents = some j → lk s nt.ents = some j ∧ (to = src → s ≠ name)) ∧ nt'.ents.length ≤ nt.ents.length ∧ (nt' = if to = src then { ns with ents := rm name ns.ents } else (A.get to).getD nt') := by
    by_cases e : to = src
    · subst e
      rw [hns] at hnt; cases hnt
      refine ⟨{ ns with ents := rm name ns.ents }, AT.get_set_self _ _ _, rfl, rfl, rfl, rfl, rfl, nodup_rm hnd, ?_, ?_, rm_sub.length_le, by rw [if_pos rfl]⟩
      · simp only [lk_rm hnd]; split
        · rfl
        · exact hlt
      · intro s j hs
        simp only [lk_rm hnd] at hs
        by_cases e : (s == name) = true
        · rw [if_pos e] at hs; cases hs
        · rw [if_neg e] at hs; exact ⟨hs, fun _ he => e (by simpa using he)⟩
    · refine ⟨nt, by rw [AT.get_set_ne _ _ e]; exact hnt, rfl, rfl, rfl, rfl, rfl, h.enod to nt hnt, hlt, fun s j hs => ⟨hs, fun he => absurd he e⟩, Nat.le_refl _, by rw [if_neg e, hnt]; rfl⟩
  have g2 : ((A.set src { ns with ents := rm name ns.ents }).set to { nt' with ents := up as_ ino nt'.ents }).get ino = some nn := by
    rw [AT.get_set_ne _ _ hit, AT.get_set_ne _ _ his]; exact hn
  have e2 : A.moved src name to as_ = ((A.set src { ns with ents := rm name ns.ents }).set to { nt' with ents := up as_ ino nt'.ents }).set ino (if nn.kind == 2 then { nn with up := to } else nn) := by
    unfold AT.moved
    rw [hf]
    simp only [Option.getD_some]
    rw [e1]
    have : (A.set src { ns with ents := rm name ns.ents }).ent to (up as_ ino) = (A.set src { ns with ents := rm name ns.ents }).set to { nt' with ents := up as_ ino nt'.ents } := by unfold AT.ent; rw [g1]
    rw [this]
    unfold AT.mod; rw [g2]
  generalize hM : A.moved src name to as_ = M at *
  have hG : ∀ j, M.get j = if j = ino then some (if nn.kind == 2 then { nn with up := to } else nn) else if j = to then some { nt' with ents := up as_ ino nt'.ents } else if j = src then some { ns with ents := rm name ns.ents } else A.get j := by
    intro j; rw [e2, AT.get_set, AT.get_set, AT.get_set]
  have hnk : ∀ (P : AN → Prop), P nn → P { nn with up := to } → P (if nn.kind == 2 then { nn with up := to } else nn) := by
    intro P h1 h2; split
    · exact h2
    · exact h1
  have hsum : ∀ f : AN → Nat, sumF f M.nodes + f nn + f nt' + f ns = sumF f A.nodes + f { ns with ents := rm name ns.ents } + f { nt' with ents := up as_ ino nt'.ents } + f (if nn.kind == 2 then { nn with up := to } else nn) := by
    intro f
    have q1 := AT.sum_set A f src { ns with ents := rm name ns.ents }
    have q2 := AT.sum_set (A.set src { ns with ents := rm name ns.ents }) f to { nt' with ents := up as_ ino nt'.ents }
    have q3 := AT.sum_set ((A.set src { ns with ents := rm name ns.ents }).set to { nt' with ents := up as_ ino nt'.ents }) f ino (if nn.kind == 2 then { nn with up := to } else nn)
    rw [hns] at q1; rw [g1] at q2; rw [g2] at q3
    simp only [Option.map_some, Option.getD_some] at q1 q2 q3
    rw [e2]; omega
  have hc1 : ∀ j, cntE j { ns with ents := rm name ns.ents } + one j ino = cntE j ns := by
    intro j
    have := sumF_rm (one j) name ns.ents
    rw [hlk] at this
    simpa [cntE] using this
  have hc2 : ∀ j, cntE j { nt' with ents := up as_ ino nt'.ents } = cntE j nt' + one j ino := by
    intro j
    have := sumF_up (one j) as_ ino nt'.ents
    rw [t7] at this
    simpa [cntE] using this
  have hrefs : ∀ j, M.refs j = A.refs j := by
    intro j
    have q := hsum (cntE j)
    have e : cntE j (if nn.kind == 2 then { nn with up := to } else nn) = cntE j nn := hnk (fun m => cntE j m = cntE j nn) rfl rfl
    have := hc1 j
    have := hc2 j
    unfold AT.refs; omega
  have hx : ∀ j m, A.get j = some m → ∃ m', M.get j = some m' ∧ m'.kind = m.kind ∧ (j ≠ ino → m'.up = m.up) ∧ m'.mode = m.mode ∧ m'.data = m.data ∧ m'.links = m.links := by
    intro j m hm
    rw [hG]
    by_cases a : j = ino
    · subst a; rw [if_pos rfl]; rw [hn] at hm; cases hm
      exact ⟨_, rfl, hnk (fun m => m.kind = nn.kind) rfl rfl, fun h => absurd rfl h, hnk (fun m => m.mode = nn.mode) rfl rfl, hnk (fun m => m.data = nn.data) rfl rfl, hnk (fun m => m.links = nn.links) rfl rfl⟩
    · rw [if_neg a]
      by_cases b : j = to
      · subst b; rw [if_pos rfl]; rw [hnt] at hm; cases hm
        exact ⟨_, rfl, t1, fun _ => t2, t3, t4, t5⟩
      · rw [if_neg b]
        by_cases c : j = src
        · subst c; rw [if_pos rfl]; rw [hns] at hm; cases hm
          exact ⟨_, rfl, rfl, fun _ => rfl, rfl, rfl, rfl⟩
        · rw [if_neg c]; exact ⟨m, hm, rfl, fun _ => rfl, rfl, rfl, rfl⟩
  have hcase : ∀ j m, M.get j = some m → (j = ino ∧ m = (if nn.kind == 2 then { nn with up := to } else nn)) ∨ (j = to ∧ m = { nt' with ents := up as_ ino nt'.ents }) ∨ (j = src ∧ j ≠ to ∧ m = { ns with ents := rm name ns.ents }) ∨ (j ≠ ino ∧ j ≠ to ∧ j ≠ src ∧ A.get j = some m) := by
    intro j m hm
    rw [hG] at hm
    by_cases a : j = ino
    · rw [if_pos a] at hm; cases hm; exact .inl ⟨a, rfl⟩
    · rw [if_neg a] at hm
      by_cases b : j = to
      · rw [if_pos b] at hm; cases hm; exact .inr (.inl ⟨b, rfl⟩)
      · rw [if_neg b] at hm
        by_cases c : j = src
        · rw [if_pos c] at hm; cases hm; exact .inr (.inr (.inl ⟨c, b, rfl⟩))
        · rw [if_neg c] at hm; exact .inr (.inr (.inr ⟨a, b, c, hm⟩))
  have hback : ∀ j m, M.get j = some m → ∃ m0, A.get j = some m0 ∧ m.kind = m0.kind ∧ m.mode = m0.mode ∧ m.data = m0.data ∧ m.links = m0.links := by
    intro j m hm
    have : ∃ m0, A.get j = some m0 := by
      rcases hcase j m hm with ⟨rfl, _⟩ | ⟨rfl, _⟩ | ⟨rfl, _, _⟩ | ⟨_, _, _, hm⟩
      · exact ⟨_, hn⟩
      · exact ⟨_, hnt⟩
      · exact ⟨_, hns⟩
      · exact ⟨_, hm⟩
    obtain ⟨m0, hm0⟩ := this
    obtain ⟨m', q1, q2, _, q4, q5, q6⟩ := hx j m0 hm0
    rw [hm] at q1; cases q1
    exact ⟨m0, hm0, q2, q4, q5, q6⟩
  have hupO : ∀ k, k ≠ ino → A.isDir k → M.upOf k = A.upOf k := by
    rintro k hki ⟨m, hm, _⟩
    obtain ⟨m', q1, _, q3, _⟩ := hx k m hm
    unfold AT.upOf; rw [hm, q1]; simp [q3 hki]
  have hu : M.ui = A.ui ∧ M.ub = A.ub ∧ M.qi = A.qi ∧ M.qb = A.qb ∧ M.last = A.last := by rw [e2]; exact ⟨rfl, rfl, rfl, rfl, rfl⟩
  refine ⟨⟨?_, ?_, ?_, ?_, ?_, ?_, ?_, ?_, ?_, ?_, ?_, ?_, ?_⟩, ⟨?_, ?_, ?_⟩, ns, nt', hns, t7, t10, ⟨hG, hu.1, hu.2.1, hu.2.2.1, hu.2.2.2.1, hu.2.2.2.2⟩⟩
  · rw [e2]; exact nodup_up (nodup_up (nodup_up h.nodup))
  · intro j m hm
    rcases hcase j m hm with ⟨_, rfl⟩ | ⟨_, rfl⟩ | ⟨_, _, rfl⟩ | ⟨_, _, _, hm⟩
    · exact hnk (fun m => (keysL m.ents).Nodup) (h.enod ino nn hn) (h.enod ino nn hn)
    · exact nodup_up t6
    · exact nodup_rm hnd
    · exact h.enod j m hm
  · obtain ⟨r, r1, r2, r3⟩ := h.root
    obtain ⟨m', q1, q2, q3, _⟩ := hx 1 r r1
    exact ⟨m', q1, by rw [q2, r2], by rw [q3 (fun e => hi1 e.symm), r3]⟩
  · intro j m hm
    rw [hu.2.2.2.2]
    obtain ⟨m0, q, _⟩ := hback j m hm
    exact h.low j m0 q
  · intro j m hm
    obtain ⟨m0, q, q2, q3, q4, _⟩ := hback j m hm
    rw [q2, q3, q4]; exact h.like j m0 q
  · intro j m hm hk
    rcases hcase j m hm with ⟨_, rfl⟩ | ⟨_, rfl⟩ | ⟨_, _, rfl⟩ | ⟨_, _, _, hm⟩
    · have e : (if nn.kind == 2 then { nn with up := to } else nn).kind = nn.kind := hnk (fun m => m.kind = nn.kind) rfl rfl
      have e' : (if nn.kind == 2 then { nn with up := to } else nn).ents = nn.ents := hnk (fun m => m.ents = nn.ents) rfl rfl
      rw [e'] ; rw [e] at hk; exact h.file ino nn hn hk
    · exact absurd (by show nt'.kind = 2; rw [t1]; exact hnt2) hk
    · exact absurd hns2 hk
    · exact h.file j m hm hk
  · intro j m s t hm hs
    -- an entry of old
    have old : ∀ m1, A.get t = some m1 → (m1.kind = 2 → m1.up = j) → (t = ino → nn.kind = 2 → False) → ∃ m', M.get t = some m' ∧ (m'.kind = 2 → m'.up = j) := by
      intro m1 a3 a4 a5
      obtain ⟨m', b1, b2, b3, _⟩ := hx t m1 a3
      refine ⟨m', b1, fun hk => ?_⟩
      have hti : t ≠ ino := by
        intro e; subst e
        rw [hn] at a3; cases a3
        exact a5 rfl (by rw [← b2]; exact hk)
      rw [b3 hti]; exact a4 (by rw [← b2]; exact hk)
    rcases hcase j m hm with ⟨rfl, rfl⟩ | ⟨rfl, rfl⟩ | ⟨rfl, hjt, rfl⟩ | ⟨hji, hjt, hjs, hm⟩
    · have e' : (if nn.kind == 2 then { nn with up := to } else nn).ents = nn.ents := hnk (fun m => m.ents = nn.ents) rfl rfl
      rw [e'] at hs
      obtain ⟨a1, a2, m1, a3, a4⟩ := h.ent j nn s t hn hs
      refine ⟨a1, a2, old m1 a3 a4 fun e hk => ?_⟩
      subst e
      rw [hn] at a3; cases a3
      have := no_loop h ⟨nn, hn, hk⟩ a2
      unfold AT.upOf at this; rw [hn] at this
      exact this (a4 hk)
    · simp only [lk_up] at hs
      by_cases e : s = as_
      · subst e
        simp at hs; subst hs
        refine ⟨hnm, hi1, _, by rw [hG, if_pos rfl], fun hk => ?_⟩
        have e : (if nn.kind == 2 then { nn with up := j } else nn).kind = nn.kind := hnk (fun m => m.kind = nn.kind) rfl rfl
        rw [e] at hk
        have : (nn.kind == 2) = true := by simpa using hk
        rw [this]; rfl
      · have e' : (s == as_) = false := by simpa using e
        rw [e'] at hs
        obtain ⟨hs', hne⟩ := t8 s t hs
        obtain ⟨a1, a2, m1, a3, a4⟩ := h.ent j nt s t hnt hs'
        refine ⟨a1, a2, old m1 a3 a4 fun e hk => ?_⟩
        subst e
        rw [hn] at a3; cases a3
        have hjs : j = src := by rw [← a4 hk, hup hk]
        have hntns : nt = ns := by subst hjs; rw [hns] at hnt; cases hnt; rfl
        subst hntns
        exact hne hjs (named_once h hns hn hk hi1 hs' hlk)
    · simp only [lk_rm hnd] at hs
      by_cases e : (s == name) = true
      · rw [if_pos e] at hs; cases hs
      · rw [if_neg e] at hs
        obtain ⟨a1, a2, m1, a3, a4⟩ := h.ent j ns s t hns hs
        refine ⟨a1, a2, old m1 a3 a4 fun e' hk => ?_⟩
        subst e'
        exact e (by simpa using named_once h hns hn hk hi1 hs hlk)
    · obtain ⟨a1, a2, m1, a3, a4⟩ := h.ent j m s t hm hs
      refine ⟨a1, a2, old m1 a3 a4 fun e hk => ?_⟩
      subst e
      rw [hn] at a3; cases a3
      exact hjs (by rw [← a4 hk, hup hk])
  · intro j m hm hj
    rw [hrefs]
    obtain ⟨m0, q, q2, _, _, q5⟩ := hback j m hm
    rw [q2, q5]; exact h.links j m0 q hj
  · rintro k ⟨m, hm, hk⟩
    obtain ⟨m0, q, q2, _⟩ := hback k m hm
    have hkd : A.isDir k := ⟨m0, q, by rw [← q2]; exact hk⟩
    by_cases hnk2 : nn.kind = 2
    case neg =>
      have hne : ∀ k, A.isDir k → k ≠ ino := by
        rintro k ⟨m, hm, hk⟩ e; subst e; rw [hn] at hm; cases hm; exact hnk2 hk
      rw [deep_same h (fun k hk => hupO k (hne k hk) hk) 12 k hkd]; exact h.deep k hkd
    have hS : ∀ (f : Nat) (k : Int), (A.isDir k ∧ ∀ r, ¬ Below A ino r k) → M.deep f k = A.deep f k :=
      deep_on (S := fun k => A.isDir k ∧ ∀ r, ¬ Below A ino r k) (fun k hk h1 => ⟨h.isDir_up hk.1, fun r hr => hk.2 (r + 1) ⟨fun e => hk.2 0 e, h1, hr⟩⟩) (fun k hk _ => hupO k (fun e => hk.2 0 e) hk.1)
    by_cases hbl : ∃ r, Below A ino r k
    case neg =>
      rw [hS 12 k ⟨hkd, fun r hr => hbl ⟨r, hr⟩⟩]; exact h.deep k hkd
    obtain ⟨r, hr⟩ := hbl
    obtain ⟨dt, hdt⟩ := h.deep to ⟨nt, hnt, hnt2⟩
    have hle := hdp hnk2 dt r k hdt hkd hr
    have hdb := deep_bound hdt
    have hD : A.deep dt.toNat to = some dt := deep_low hdt _ (by omega)
    have key : ∀ (r : Nat) (k : Int), A.isDir k → Below A ino r k → M.deep (dt.toNat + 1 + r) k = some (dt + 1 + r) := by
      intro r
      induction r with
      | zero =>
        intro k hkd hb
        have hb : k = ino := hb
        subst hb
        have hu' : M.upOf k = to := by
          unfold AT.upOf; rw [hG, if_pos rfl]
          have : (nn.kind == 2) = true := by simpa using hnk2
          rw [this]; rfl
        rw [Nat.add_zero, AT.deep, if_neg hi1, hu', hS _ to ⟨⟨nt, hnt, hnt2⟩, hnb hnk2⟩, hD]
        simp
      | succ r ih =>
        intro k hkd hb
        obtain ⟨b1, b2, b3⟩ := hb
        rw [show dt.toNat + 1 + (r + 1) = (dt.toNat + 1 + r) + 1 by omega, AT.deep, if_neg b2, hupO k b1 hkd, ih _ (h.isDir_up hkd) b3]
        simp; omega
    have := key r k hkd hr
    exact ⟨_, deep_low this 12 (by omega)⟩
  · have q := hsum (fun _ => 1)
    rw [sumF_len, sumF_len] at q
    rw [hu.1, h.ui]; omega
  · have q := hsum (fun n => n.data.size)
    have e : (if nn.kind == 2 then { nn with up := to } else nn).data = nn.data := hnk (fun m => m.data = nn.data) rfl rfl
    rw [hu.2.1, h.ub]; unfold AT.bytes; simp only [e] at q; omega
  · rw [hu.1, hu.2.2.1]; exact h.uq
  · rw [hu.2.1, hu.2.2.2.1]; exact h.bq
  · rw [hu.2.2.2.2]; have := hb.last; omega
  · intro j m hm
    obtain ⟨m0, q, _, _, _, q5⟩ := hback j m hm
    have := hb.links j m0 q
    omega
  · intro j m hm
    rcases hcase j m hm with ⟨_, rfl⟩ | ⟨_, rfl⟩ | ⟨_, _, rfl⟩ | ⟨_, _, _, hm⟩
    · have e' : (if nn.kind == 2 then { nn with up := to } else nn).ents = nn.ents := hnk (fun m => m.ents = nn.ents) rfl rfl
      rw [e']; have := hb.ents _ nn hn; omega
    · have := hb.ents _ nt hnt
      simp only
      rw [enc_up_new nt'.ents as_ _ t7]; simp; omega
    · have := hb.ents _ ns hns
      have := (rm_sub (k := name) (l := ns.ents)).length_le
      simp only; omega
    · have := hb.ents j m hm; omega
end Go.Wk

/- Of: the tree at a path; the chapter's rows. -/
set_option maxRecDepth 100000
namespace Go.Proofs.YtlpcehbfoogejaaGreatDoor
open Go Go.HL Go.Wk
attribute [local irreducible] ptrW ifW brW andW rdT alW letJ stW muW biW vaW imW callT cvalT app callW invW callVW sizeT oW nilF oneK loopW rfW funW begW roundK exW idxW Gr Put
attribute [local irreducible] bothW
theorem canonF_eq (A : AT) (path : ByteArray) : A.canonF path = if (A.take 300 path).1 ≠ 0 then ((A.take 300 path).1, Tr.z) else if (A.take 300 path).2.check ≠ 0 then ((A.take 300 path).2.check, Tr.z) else (0, (A.take 300 path).2) := rfl
theorem s_Of {A : AT} {N : Nat} {σ : H} {bf : Nat} {B : Nat → Prop} (hI : Inv A) (hB : Bd N A) (hN : N ≤ 1000000000) (hF : FsAt σ bf A B) (path : ByteArray) (hp : path.size ≤ 100000) (hT : (A.take 300 path).1 = 0 → (A.take 300 path).2.total ≤ 1000000000000000) {K : Value → H → Prop}
    (hK : ∀ y σ' ρ, Gr σ σ' → Gr ρ σ' → (∀ b, σ b ≠ none → ρ b = none) → SlAt ρ (A.canonF path).2.kids y → K (.tuple ⟨[.agg ⟨trC (A.canonF path).2 y⟩, .int .i64 (A.canonF path).1]⟩) σ') : callW Tryz.prog 27 [.pointer (some ⟨bf, 0, none⟩), .string path] K σ := by
  refine c27 _ _ ?_
  unfold g27
  refine al_i ?_; intro b3 σ1 g1 e1 n1
  refine call_from g1 (s_at hI hB hN 300 path (by omega) hp hF (K := fun v τ' => ∃ t y ρ, v = .tuple ⟨[.agg ⟨trC t y⟩, .int .i64 (A.take 300 path).1]⟩ ∧ Gr σ τ' ∧ Gr ρ τ' ∧ (∀ b, σ b ≠ none → ρ b = none) ∧ ((A.take 300 path).1 = 0 → t = (A.take 300 path).2 ∧ SlAt ρ t.kids y)) (fun t y τ' ρ h1 h3 h4 h2 => ⟨t, y, ρ, rfl, h1, h3, h4, h2⟩)) ?_
  rintro v σ2 τ2 ⟨t, y, ρ, rfl, m1, mρ, mρ2, m2⟩ m3 m4 m5
  have k3 := m4 b3 _ n1 e1
  have t3 : τ2 b3 = none := m5 b3 (by rw [e1]; simp) n1
  rw [canonF_eq] at hK
  generalize A.take 300 path = T at hK hT m2 ⊢
  obtain ⟨te, tt⟩ := T
  simp only at hK hT m2 ⊢
  unfold trC
  (refine app_of rfl ?_; try dsimp only)
  refine al_i ?_; intro b10 σ3 g3 e3 n3
  have n310 : b3 ≠ b10 := ne_fr n3 (isSome_of k3)
  refine st_i2 e3 sz_Node (by rfl) (by rfl) ?_; intro σ4 p4
  have k3' := p4.get n310 (g3.get k3)
  have k10 : σ4 b10 = some (.cells ⟨trC t y⟩ 24 (0, 0)) := p4.same
  have G4 : Gr τ2 σ4 := m3.trans (g3.putF p4 n3)
  clear p4 g3 e3
  unfold trC at k10
  have bad : ∀ e : Int, (∀ y σ' ρ, Gr σ σ' → Gr ρ σ' → (∀ b, σ b ≠ none → ρ b = none) → SlAt ρ Tr.z.kids y → K (.tuple ⟨[.agg ⟨trC Tr.z y⟩, .int .i64 e]⟩) σ') → ∀ (F : ByteArray → Int → Bool → ByteArray → Sl → H → Prop), (∀ σ', K (.tuple ⟨[.agg ⟨[.string ⟨⟨[]⟩⟩, .int .i64 0, .bool false, .string ⟨⟨[]⟩⟩, .slice none 0 0]⟩, .int .i64 e]⟩) σ' → F ⟨⟨[]⟩⟩ 0 false ⟨⟨[]⟩⟩ ⟨none, 0, 0⟩ σ') → stW Tryz.prog 24 (.pointer (some ⟨b3, 0, none⟩)) (.agg ⟨[.string ⟨⟨[]⟩⟩, .int .i64 0, .bool false, .string ⟨⟨[]⟩⟩, .slice none 0 0]⟩) (ptrW (some ⟨b3, 0, none⟩) fun b o => rdT (rdA 5 b o) (.one (.agg [.str, (.int .i64), .bool, .str, .slc])) F) σ4 := by
    intro e hK F hF
    refine st_i2 k3' sz_Node (by rfl) (by rfl) ?_; intro σ5 p5
    refine ptr_i (rd_G (rdA_of' p5.same (by rfl)) ?_)
    (refine app_of rfl ?_; try dsimp only)
    exact hF σ5 (hK ⟨none, 0, 0⟩ σ5 (fun _ => none) (m1.trans (G4.putF p5 t3)) (gr_empty _) (fun _ _ => rfl) SlAt.nil)
  by_cases he : te = 0
  case neg =>
    rw [if_pos he] at hK
    refine j_d (br_f (by simpa using he) (br_t (by simpa using he) (bad te hK _ fun σ' h => h)))
  subst he
  rw [if_neg (by simp)] at hK
  obtain ⟨rfl, hs⟩ := m2 rfl
  refine j_d (br_t rfl (rd_G (rdA_of' k10 (by rfl)) ?_))
  (refine app_of rfl ?_; try dsimp only)
  refine call_i (s_Check t y (hs.gr (mρ.trans G4)) (hT rfl) (app_I ?_))
  by_cases hc : t.check = 0
  case neg =>
    rw [if_pos hc] at hK
    refine br_t (by simpa using hc) (bad t.check hK _ fun σ' h => h)
  rw [if_neg (by simpa using hc)] at hK
  rw [hc]
  refine br_f rfl (ptr_i (rd_G (rdA_of' k10 (by rfl)) ?_))
  (refine app_of rfl ?_; try dsimp only)
  refine st_i2 k3' sz_Node (by rfl) (by rfl) ?_; intro σ5 p5
  refine ptr_i (rd_G (rdA_of' p5.same (by rfl)) ?_)
  (refine app_of rfl ?_; try dsimp only)
  exact hK y σ5 ρ (m1.trans (G4.putF p5 t3)) (mρ.trans (G4.putF p5 t3)) mρ2 hs
/-! ### The chapter's rows -/
@[reducible] def bs (l : List UInt8) : ByteArray := ⟨⟨l⟩⟩
def u0 : AT := newT 20 200
def u1 : AT := (u0.mkdirF (bs [47]) (bs [111])).2
def u2 : AT := (u1.writeF (bs [47, 111]) (bs [120]) (bs [49]) false).2
def u3 : AT := (u2.chmodF (bs [47, 111]) (bs [120]) 448).2
def u4 : AT := (u3.symlinkF (bs [47, 111]) (bs [120]) (bs [108])).2
def u5 : AT := (u4.hardF (bs [47, 111]) (bs [120]) (bs [104])).2
theorem u0_ok : Inv u0 ∧ Bd 1 u0 := newT_ok rfl
theorem u1_ok : OpOk 2 u0 (u0.mkdirF (bs [47]) (bs [111])) := mkdirF_ok u0_ok.1 u0_ok.2 (by decide) _ _
theorem u2_ok : OpOk 3 u1 (u1.writeF (bs [47, 111]) (bs [120]) (bs [49]) false) := writeF_ok u1_ok.inv u1_ok.bd (by decide) _ _ _ _ (by decide)
theorem u3_ok : OpOk 3 u2 (u2.chmodF (bs [47, 111]) (bs [120]) 448) := chmodF_ok u2_ok.inv u2_ok.bd _ _ _
theorem u4_ok : OpOk 4 u3 (u3.symlinkF (bs [47, 111]) (bs [120]) (bs [108])) := symlinkF_ok u3_ok.inv u3_ok.bd (by decide) _ _ _
theorem u5_ok : OpOk 5 u4 (u4.hardF (bs [47, 111]) (bs [120]) (bs [104])) := hardF_ok u4_ok.inv u4_ok.bd (by decide) _ _ _
theorem uv1 : (u0.mkdirF (bs [47]) (bs [111])).1 = 0 := by decide +kernel
theorem uv2 : (u1.writeF (bs [47, 111]) (bs [120]) (bs [49]) false).1 = 0 := by decide +kernel
theorem uv3 : (u2.chmodF (bs [47, 111]) (bs [120]) 448).1 = 0 := by decide +kernel
theorem uv4 : (u3.symlinkF (bs [47, 111]) (bs [120]) (bs [108])).1 = 0 := by decide +kernel
theorem uv5 : (u4.hardF (bs [47, 111]) (bs [120]) (bs [104])).1 = 0 := by decide +kernel
def uT : Tr := .mk ⟨⟨[]⟩⟩ 2 false ⟨⟨[]⟩⟩ [.mk ⟨⟨[104]⟩⟩ 1 true ⟨⟨[49]⟩⟩ [], .mk ⟨⟨[108]⟩⟩ 3 false ⟨⟨[120]⟩⟩ [], .mk ⟨⟨[120]⟩⟩ 1 true ⟨⟨[49]⟩⟩ []]
theorem ut1 : u5.take 300 (bs [47, 111]) = (0, uT) := by kernel_rfl
theorem ut2 : u5.take 300 (bs [47, 112]) = (5, Tr.z) := by kernel_rfl
theorem uc1 : u5.canonF (bs [47, 111]) = (0, uT) := by kernel_rfl
theorem uc2 : u5.canonF (bs [47, 112]) = (5, Tr.z) := by kernel_rfl
theorem uT_total : uT.total ≤ 100 := by decide +kernel
theorem uT_same : uT.same uT = true := by decide +kernel
theorem x_file (name data : ByteArray) (exec : Bool) {σ : H} {K : Value → H → Prop} (hK : K (.agg ⟨[.string name, .int .i64 1, .bool exec, .string data, .slice none 0 0]⟩) σ) : callW Tryz.prog 40 [.string name, .string data, .bool exec] K σ := by
  refine pure_i _ hK (c40 _ _ _ ?_)
  unfold g40
  first
  | exact ⟨rfl, Gr.refl _⟩
  | (refine al_i ?_; intro b σ1 g1 e1 n1
     first
     | (refine st_i2 e1 sz_Node (by rfl) (by rfl) ?_; intro σ2 p2
        refine rd_G (rdA_of' p2.same (by rfl)) ?_
        (refine app_of rfl ?_; try dsimp only)
        exact ⟨rfl, g1.putF p2 n1⟩)
     | (refine rd_G (rdA_of' e1 (by rfl)) ?_
        (refine app_of rfl ?_; try dsimp only)
        exact ⟨rfl, g1⟩))
theorem x_link (name data : ByteArray) {σ : H} {K : Value → H → Prop} (hK : K (.agg ⟨[.string name, .int .i64 3, .bool false, .string data, .slice none 0 0]⟩) σ) : callW Tryz.prog 41 [.string name, .string data] K σ := by
  refine pure_i _ hK (c41 _ _ ?_)
  unfold g41
  first
  | exact ⟨rfl, Gr.refl _⟩
  | (refine al_i ?_; intro b σ1 g1 e1 n1
     first
     | (refine st_i2 e1 sz_Node (by rfl) (by rfl) ?_; intro σ2 p2
        refine rd_G (rdA_of' p2.same (by rfl)) ?_
        (refine app_of rfl ?_; try dsimp only)
        exact ⟨rfl, g1.putF p2 n1⟩)
     | (refine rd_G (rdA_of' e1 (by rfl)) ?_
        (refine app_of rfl ?_; try dsimp only)
        exact ⟨rfl, g1⟩))
end Go.Proofs.YtlpcehbfoogejaaGreatDoor

/- A TREE that is laid in the root, and taken again. -/
namespace Go.Wk
open Go Go.HL
end Go.Wk
namespace Go.Wk
open Go Go.HL
end Go.Wk

/- STEPS of laws: an operation whose answer is known. -/
set_option maxRecDepth 100000
namespace Go.Proofs.YtlpcehbfoogejaaGreatDoor
open Go Go.HL Go.Wk
attribute [local irreducible] ptrW ifW brW andW rdT alW letJ stW muW biW vaW imW callT cvalT app callW invW callVW sizeT oW nilF oneK loopW rfW funW begW roundK exW idxW Gr Put
attribute [local irreducible] bothW
section
variable {σ : H} {bf N : Nat} {A : AT} {B : Nat → Prop} {F : Int → H → Prop} {e : Int}
theorem k_Mkdir (hI : Inv A) (hB : Bd N A) (hN : N ≤ 1000000000000) (hF : FsAt σ bf A B) {cwd path : ByteArray} (he : (A.mkdirF cwd path).1 = e) (h : ∀ σ' B', FsAt σ' bf (A.mkdirF cwd path).2 B' → Sep σ B σ' B' → F e σ') : callT Tryz.prog 16 [.pointer (some ⟨bf, 0, none⟩), .string cwd, .string path] kI F σ :=
  call_i (s_Mkdir hI hB hN hF cwd path fun σ' B' h1 h2 => by rw [he]; exact app_I (h σ' B' h1 h2))
theorem k_Symlink (hI : Inv A) (hB : Bd N A) (hN : N ≤ 1000000000000) (hF : FsAt σ bf A B) {cwd target path : ByteArray} (he : (A.symlinkF cwd target path).1 = e) (h : ∀ σ' B', FsAt σ' bf (A.symlinkF cwd target path).2 B' → Sep σ B σ' B' → F e σ') : callT Tryz.prog 22 [.pointer (some ⟨bf, 0, none⟩), .string cwd, .string target, .string path] kI F σ :=
  call_i (s_Symlink hI hB hN hF cwd target path fun σ' B' h1 h2 => by rw [he]; exact app_I (h σ' B' h1 h2))
theorem k_Write (hI : Inv A) (hB : Bd N A) (hN : N ≤ 1000000000000) (hF : FsAt σ bf A B) {cwd path data : ByteArray} {more : Bool} (hd : data.size ≤ 1000000000000000) (he : (A.writeF cwd path data more).1 = e) (h : ∀ σ' B', FsAt σ' bf (A.writeF cwd path data more).2 B' → Sep σ B σ' B' → F e σ') : callT Tryz.prog 21 [.pointer (some ⟨bf, 0, none⟩), .string cwd, .string path, .string data, .bool more] kI F σ :=
  call_i (s_Write hI hB hN hF cwd path data more hd fun σ' B' h1 h2 => by rw [he]; exact app_I (h σ' B' h1 h2))
theorem k_Chmod (hF : FsAt σ bf A B) {cwd path : ByteArray} {mode : Int} (he : (A.chmodF cwd path mode).1 = e) (h : ∀ σ' B', FsAt σ' bf (A.chmodF cwd path mode).2 B' → Sep σ B σ' B' → F e σ') : callT Tryz.prog 26 [.pointer (some ⟨bf, 0, none⟩), .string cwd, .string path, .int .i64 mode] kI F σ :=
  call_i (s_Chmod hF cwd path mode fun σ' B' h1 h2 => by rw [he]; exact app_I (h σ' B' h1 h2))
theorem k_Hard (hF : FsAt σ bf A B) {cwd src to : ByteArray} (he : (A.hardF cwd src to).1 = e) (h : ∀ σ' B', FsAt σ' bf (A.hardF cwd src to).2 B' → Sep σ B σ' B' → F e σ') : callT Tryz.prog 25 [.pointer (some ⟨bf, 0, none⟩), .string cwd, .string src, .string to] kI F σ :=
  call_i (s_Hard hF cwd src to fun σ' B' h1 h2 => by rw [he]; exact app_I (h σ' B' h1 h2))
/-- Of, and its answer is kept -/
theorem k_Of (hI : Inv A) (hB : Bd N A) (hN : N ≤ 1000000000) (hF : FsAt σ bf A B) {path : ByteArray} (hp : path.size ≤ 100000) {T : Tr} (hc : A.canonF path = (e, T)) (hT : (A.take 300 path).1 = 0 → (A.take 300 path).2.total ≤ 1000000000000000) {G : Nat → Int → H → Prop}
    (h : ∀ b y σ' ρ, Gr σ σ' → σ b = none → σ' b = some (.cells ⟨trC T y⟩ 24 (0, 0)) → Gr ρ σ' → ρ b = none → (∀ c, σ c ≠ none → ρ c = none) → SlAt ρ T.kids y → G b e σ') :
    callT Tryz.prog 27 [.pointer (some ⟨bf, 0, none⟩), .string path] (.tup [.agg [.str, (.int .i64), .bool, .str, .slc], .sc (.int .i64)]) (fun (x1 : ByteArray) (x2 : Int) (x3 : Bool) (x4 : ByteArray) (x5 : Sl) (x6 : Int) =>
      alW (.cells ⟨[.string (⟨⟨[]⟩⟩ : ByteArray), .int .i64 0, .bool false, .string (⟨⟨[]⟩⟩ : ByteArray), .slice none 0 0]⟩ 24 (0, 0)) (fun (b : Nat) => stW Tryz.prog 24 (.pointer (some ⟨b, 0, none⟩)) (.agg ⟨[.string x1, .int .i64 x2, .bool x3, .string x4, .slice x5.base x5.len x5.cap]⟩) (G b x6))) σ := by
  refine call_i (s_Of hI hB hN hF path hp hT ?_)
  intro y σ1 ρ g1 r1 r2 r3
  rw [hc] at r3 ⊢
  unfold trC
  (refine app_of rfl ?_; try dsimp only)
  refine al_i ?_; intro b σ2 g2 e2 n2
  refine st_i2 e2 sz_Node (by rfl) (by rfl) ?_; intro σ3 p3
  exact h b y σ3 ρ (g1.trans (g2.putF p3 n2)) (none_of g1 n2) p3.same (r1.trans (g2.putF p3 n2)) (none_of r1 n2) r2 r3
end
theorem uT_at {σ : H} {b : Nat} {ty : TypeId} {fz : Nat × Nat} (h : σ b = some (.cells ⟨[.string ⟨⟨[104]⟩⟩, .int .i64 1, .bool true, .string ⟨⟨[49]⟩⟩, .slice none 0 0, .string ⟨⟨[108]⟩⟩, .int .i64 3, .bool false, .string ⟨⟨[120]⟩⟩, .slice none 0 0, .string ⟨⟨[120]⟩⟩, .int .i64 1, .bool true, .string ⟨⟨[49]⟩⟩, .slice none 0 0]⟩ ty fz)) : SlAt σ uT.kids ⟨some ⟨b, 0, none⟩, 3, 3⟩ := by
  refine ⟨rfl, .inr ⟨b, 0, _, _, _, rfl, h, ?_⟩⟩
  refine ⟨trAt_iff.2 ⟨⟨none, 0, 0⟩, rfl, SlAt.nil⟩, trAt_iff.2 ⟨⟨none, 0, 0⟩, rfl, SlAt.nil⟩, trAt_iff.2 ⟨⟨none, 0, 0⟩, rfl, SlAt.nil⟩, trivial⟩
theorem s_works10 {σ : H} {K : Value → H → Prop} (hK : K (.bool true) σ) : callW Tryz.prog 24 [] K σ := by
  refine pure_i _ hK (c24 ?_)
  clear hK
  unfold g24
  refine call_i (s_New 20 200 (fun h => by cases h) ?_)
  intro _ bf σ1 B1 F1 g1 hf1
  have O1 := Off.new g1 hf1
  refine app_P ?_
  refine j_i (fun j => ∀ σ2 B2, FsAt σ2 bf u5 B2 → Off σ σ2 B2 → j (some ⟨bf, 0, none⟩) false σ2) ?_ ?_
  case refine_2 =>
    intro j hj
    refine br_f rfl (k_Mkdir u0_ok.1 u0_ok.2 (by decide) F1 uv1 ?_); intro σ2 B2 F2 S2
    refine br_f rfl (k_Write u1_ok.inv u1_ok.bd (by decide) F2 (by decide) uv2 ?_); intro σ3 B3 F3 S3
    refine br_f rfl (k_Chmod (A := u2) F3 uv3 ?_); intro σ4 B4 F4 S4
    refine br_f rfl (k_Symlink u3_ok.inv u3_ok.bd (by decide) F4 uv4 ?_); intro σ5 B5 F5 S5
    refine br_f rfl (k_Hard (A := u4) F5 uv5 ?_); intro σ6 B6 F6 S6
    exact hj σ6 B6 F6 (((((O1.sep S2).sep S3).sep S4).sep S5).sep S6)
  intro σ2 B2 F2 O2
  refine br_f rfl (k_Of (A := u5) u5_ok.inv u5_ok.bd (by decide) F2 (by decide) uc1 (fun _ => by rw [ut1]; exact Nat.le_trans uT_total (by decide)) ?_)
  intro b11 y σ3 ρ g3 n3 e3 r3 _ _ hs
  refine k_Of (A := u5) u5_ok.inv u5_ok.bd (by decide) (F2.gr g3) (by decide) uc2 (fun h => by rw [ut2] at h; cases h) ?_
  intro b18 y2 σ4 ρ2 g4 n4 e4 r4 _ _ _
  have k11 := g4.get e3
  unfold trC at k11
  refine br_t rfl (br_t rfl (rd_G (rdA_of' k11 (by rfl)) ?_))
  (refine app_of rfl ?_; try dsimp only)
  refine call_i (x_file _ _ _ ?_)
  (refine app_of rfl ?_; try dsimp only)
  refine and_i (rdA_of' k11 (by rfl)) (call_i (x_link _ _ ?_))
  (refine app_of rfl ?_; try dsimp only)
  refine and_i (rdA_of' k11 (by rfl)) (call_i (x_file _ _ _ ?_))
  (refine app_of rfl ?_; try dsimp only)
  refine and_i (rdA_of' k11 (by rfl)) ?_
  refine al_i ?_; intro b39 σ5 g5 e5 n5
  refine call_i (s_Same uT y uT ⟨some ⟨b39, 0, none⟩, 3, 3⟩ (hs.gr ((r3.trans g4).trans g5)) (uT_at e5) (Nat.le_trans uT_total (by decide)) (Nat.le_trans uT_total (by decide)) ?_)
  rw [uT_same]
  exact app_B ⟨rfl, ((O2.1.trans g3).trans g4).trans g5⟩
end Go.Proofs.YtlpcehbfoogejaaGreatDoor

/- RENAMING keeps what always holds; what is renamed, and renamed back. -/
namespace Go.Wk
open Go Go.HL
variable {A : AT}
theorem moveE1_z {src to : Int} {name as_ : ByteArray} (he : A.moveE1 src name to as_ = 0) : A.isDir src ∧ A.isDir to ∧ namedE as_ = 0 ∧ ∃ j, A.find src name = some j := by
  unfold AT.moveE1 at he
  obtain ⟨_, he⟩ := AT.firstE_z he
  obtain ⟨h1, he⟩ := AT.firstE_z he
  obtain ⟨h2, he⟩ := AT.firstE_z he
  obtain ⟨h3, he⟩ := AT.firstE_z he
  obtain ⟨h4, _⟩ := AT.firstE_z he
  refine ⟨AT.dirE_z h1, AT.dirE_z h2, h3, ?_⟩
  cases hf : A.find src name with
  | none => rw [hf] at h4; simp at h4
  | some j => exact ⟨j, rfl⟩
theorem both_z {cwd src to : ByteArray} (h : (A.both cwd src to).1 = 0) : (A.locate cwd src false).1 = 0 ∧ (A.locate cwd to false).1 = 0 ∧ (A.both cwd src to).2.1 = (A.locate cwd src false).2 ∧ (A.both cwd src to).2.2 = (A.locate cwd to false).2 := by
  unfold AT.both at h ⊢
  simp only at h ⊢
  by_cases he : (A.locate cwd src false).1 = 0
  case neg => rw [if_pos he] at h; exact absurd h he
  rw [if_neg (by simpa using he)] at h ⊢
  exact ⟨he, h, rfl, rfl⟩
end Go.Wk

/- A FILE SYSTEM: renaming. -/
set_option maxRecDepth 100000
namespace Go.Proofs.YtlpcehbfoogejaaGreatDoor
open Go Go.HL Go.Wk
attribute [local irreducible] ptrW ifW brW andW rdT alW letJ stW muW biW vaW imW callT cvalT app callW invW callVW sizeT oW nilF oneK loopW rfW funW begW roundK exW idxW Gr Put
theorem levels_le (A : AT) : ∀ (f : Nat) (i : Int), 0 ≤ A.levels f i ∧ A.levels f i ≤ f := by
  intro f
  induction f with
  | zero => intro i; simp [AT.levels]
  | succ f ih =>
    intro i
    unfold AT.levels
    by_cases hk : A.kind i ≠ 2
    · rw [if_pos hk]; omega
    rw [if_neg hk]
    have key : ∀ (l : List ByteArray) (n : Int), 0 ≤ n → n ≤ f → 0 ≤ l.foldl (fun n s => let x := AT.levels A f ((A.find i s).getD 0); if x > n then x else n) n ∧ l.foldl (fun n s => let x := AT.levels A f ((A.find i s).getD 0); if x > n then x else n) n ≤ f := by
      intro l
      induction l with
      | nil => intro n h1 h2; exact ⟨h1, h2⟩
      | cons s r ihl =>
        intro n h1 h2
        simp only [List.foldl_cons]
        have := ih ((A.find i s).getD 0)
        refine ihl _ ?_ ?_ <;> (split <;> omega)
    have := key (A.names i) 0 (by omega) (by omega)
    omega
section
variable {σ : H} {bf : Nat} {A : AT} {B : Nat → Prop}
theorem s_levelsF {N : Nat} (hI : Inv A) (hB : Bd N A) (hN : N ≤ 1000000000000) (hF : FsAt σ bf A B) : ∀ (f : Nat) (i : Int), f ≤ 100 → (∀ d, A.isDir i → A.deep 12 i = some d → 13 ≤ f + d) → ∀ {τ : H}, Gr σ τ → ∀ {K : Value → H → Prop}, (∀ τ', Gr τ τ' → K (.int .i64 (A.levels f i)) τ') → callW Tryz.prog 133 [.pointer (some ⟨bf, 0, none⟩), .int .i64 i] K τ := by
  intro f
  induction f with
  | zero =>
    intro i _ hd τ hg K hK
    refine c133 _ _ ?_
    unfold g133
    refine call_i (s_kind (hF.gr hg) i (app_I ?_))
    have hk : A.kind i ≠ 2 := by
      intro hk
      have hdir := kind_dir hk
      obtain ⟨d, hdd⟩ := hI.deep i hdir
      have := hd d hdir hdd
      have := deep_bound hdd
      omega
    exact br_t (by simpa using hk) (hK τ (Gr.refl _))
  | succ f ih =>
    intro i hf hd τ hg K hK
    have hll := levels_le A f
    refine c133 _ _ ?_
    unfold g133
    refine call_i (s_kind (hF.gr hg) i (app_I ?_))
    unfold AT.levels at hK
    by_cases hk : A.kind i ≠ 2
    · rw [if_pos hk] at hK
      exact br_t (by simpa using hk) (hK τ (Gr.refl _))
    rw [if_neg hk] at hK
    have hk2 : A.kind i = 2 := by simpa using hk
    have hdir := kind_dir hk2
    obtain ⟨di, hdi⟩ := hI.deep i hdir
    refine br_f (by simpa using hk2) ?_
    obtain ⟨bt, B0, q1, q2, q3, q4⟩ := id (hF.gr hg)
    refine ptr_i (rd_P (rdC_of q1 (by rfl)) ?_)
    refine call_i (s_Names q2 _ (names_ok hI hB hN _) ?_)
    intro x τ1 g1 hx
    refine app_L (loop_i ?_)
    intro R hR
    have hlen := hx.1
    have hnl := names_len (A := A) (d := i) hB
    have key : ∀ (l : List ByteArray) (k : Nat) (n : Int) (τ2 : H), (A.names i).drop k = l → 0 ≤ n → n ≤ f → Gr τ1 τ2 → (A.names i).foldl (fun n s => let x := AT.levels A f ((A.find i s).getD 0); if x > n then x else n) 0 = l.foldl (fun n s => let x := AT.levels A f ((A.find i s).getD 0); if x > n then x else n) n → R (some ⟨bf, 0, none⟩) i n x ((x.len : Nat) : Int) (k : Int) τ2 := by
      intro l
      induction l with
      | nil =>
        intro k n τ2 hdr h1 h2 hg2 he
        have hge : (A.names i).length ≤ k := by simpa using hdr
        refine hR _ _ _ _ _ _ _ ?_
        refine br_f (by rw [hlen]; simp only [decide_eq_false_iff_not]; omega) ?_
        rw [wrap_id (x := n + 1) (by omega) (by omega)]
        rw [he] at hK
        exact hK τ2 (g1.trans hg2)
      | cons s r ihl =>
        intro k n τ2 hdr h1 h2 hg2 he
        obtain ⟨hs, hlt, hd'⟩ := drop_get hdr
        obtain ⟨g, cur, x1, x2, x3⟩ := hx.at hs
        refine hR _ _ _ _ _ _ _ ?_
        refine br_t (by rw [hlen]; simp only [decide_eq_true_eq]; omega) ?_
        rw [x1]
        refine ptr_i (if_i ⟨by omega, by rw [hlen]; omega⟩ ?_)
        have hrd : rdC g (0 + (k : Int).toNat * 1) τ2 = some (.string s) := rdC_of (hg2.get x2) (by simpa using x3)
        obtain ⟨bt', B0', r1, r2, r3, r4⟩ := id (hF.gr ((hg.trans g1).trans hg2))
        refine rd_S hrd (ptr_i (rd_P (rdC_of r1 (by rfl)) ?_))
        refine call_i (t_Find r2 _ _ (app_IB ?_))
        refine call_i (ih ((A.find i s).getD 0) (by omega) ?_ ((hg.trans g1).trans hg2) ?_)
        · intro d' hdj hd12
          obtain ⟨j, hj⟩ := names_mem hI (List.mem_of_getElem? hs)
          rw [hj] at hdj hd12
          simp only [Option.getD_some] at hdj hd12
          obtain ⟨nd, hnd, _, hl, hj1, m, hm, hup⟩ := hI.find hj
          obtain ⟨m', hm', hk'⟩ := hdj
          rw [hm] at hm'; cases hm'
          have hu : A.upOf j = i := by unfold AT.upOf; rw [hm]; exact hup hk'
          rw [AT.deep, if_neg hj1, hu] at hd12
          cases he11 : A.deep 11 i with
          | none => rw [he11] at hd12; cases hd12
          | some y =>
            rw [he11] at hd12
            simp only [Option.map_some, Option.some.injEq] at hd12
            have := deep_mono he11
            rw [hdi] at this; cases this
            have := hd di hdir hdi
            omega
        · intro τ3 g3
          refine app_I ?_
          have hb := hll ((A.find i s).getD 0)
          rw [wrap_id (x := (k : Int) + 1) (by omega) (by omega)]
          have hgt : (if A.levels f ((A.find i s).getD 0) > n then A.levels f ((A.find i s).getD 0) else n) = (let x := AT.levels A f ((A.find i s).getD 0); if x > n then x else n) := rfl
          refine ihl (k + 1) _ τ3 hd' ?_ ?_ (hg2.trans g3) ?_
          · split <;> omega
          · split <;> omega
          · rw [he]; rfl
    exact key (A.names i) 0 0 τ1 rfl (by omega) (by omega) (Gr.refl _) rfl
theorem s_withinF (hF : FsAt σ bf A B) {ino : Int} : ∀ (f : Nat) {d : Int} {b : Bool}, A.within ino f d = some b → ∀ {K : Value → H → Prop}, K (.bool b) σ → callW Tryz.prog 132 [.pointer (some ⟨bf, 0, none⟩), .int .i64 d, .int .i64 ino] K σ := by
  intro f d b hw K hK
  obtain ⟨bt, B0, q1, q2, q3, q4⟩ := id hF
  refine c132 _ _ _ ?_
  unfold g132
  refine loop_i ?_
  intro R hR
  have key : ∀ (f : Nat) (d : Int), A.within ino f d = some b → R (some ⟨bf, 0, none⟩) d ino σ := by
    intro f
    induction f with
    | zero => intro d h; cases h
    | succ f ih =>
      intro d h
      unfold AT.within at h
      refine hR _ _ _ _ ?_
      refine j_d ?_
      by_cases e : d = ino
      · rw [if_pos e] at h; cases h
        refine br_f (by simpa using e) (br_f rfl ?_)
        have : (d == ino) = true := by simpa using e
        rw [this]; exact hK
      rw [if_neg e] at h
      refine br_t (by simpa using e) (ptr_i (rd_P (rdC_of q1 (by rfl)) (call_i (s_Root _ (app_I ?_)))))
      by_cases e1 : d = 1
      · rw [if_pos e1] at h; cases h
        refine br_f (by simpa using e1) ?_
        have : (d == ino) = false := by simpa using e
        rw [this]; exact hK
      rw [if_neg e1] at h
      refine br_t (by simpa using e1) (ptr_i (rd_P (rdC_of q1 (by rfl)) (call_i (t_Up q2 _ (app_I ?_)))))
      exact ih _ h
  exact key f d hw
theorem s_over {N : Nat} (hI : Inv A) (hB : Bd N A) (hN : N ≤ 1000000000000) (hF : FsAt σ bf A B) (p q : Pl) (hq : A.isDir q.dir) {K : Value → H → Prop} (hK : ∀ σ', Gr σ σ' → K (.int .i64 (A.overE p q)) σ') :
    callW Tryz.prog 80 [.pointer (some ⟨bf, 0, none⟩), .agg ⟨plC p⟩, .agg ⟨plC q⟩] K σ := by
  unfold plC
  refine c80 _ _ _ _ _ _ _ _ _ ?_
  unfold g80
  refine al_i ?_; intro b10 σ1 g1 e1 n1
  refine al_i ?_; intro b11 σ2 g2 e2 n2
  have k10 := g2.get e1
  have hg2 : Gr σ σ2 := g1.trans g2
  have F2 := hF.gr hg2
  refine rd_I (rdC_of k10 (by rfl)) (rd_I (rdC_of e2 (by rfl)) ?_)
  refine call_i (s_kind F2 _ (app_I (and_i (rdC_of e2 (by rfl)) (call_i (s_kind F2 _ (app_I ?_))))))
  unfold AT.overE at hK
  simp only at hK
  obtain ⟨x, hx13, hx12, hx1, hx2⟩ := hI.deep13 hq
  obtain ⟨wb, hwb⟩ := within_some p.ino hx13
  -- behind the first questions
  refine j_i (fun j => ∀ τ, Gr σ2 τ → (if q.there = false then (0 : Int) else if A.kind q.ino = 2 ∧ A.kind p.ino ≠ 2 then 7 else if A.kind p.ino = 2 ∧ A.kind q.ino ≠ 2 then 8 else if (A.names q.ino).length > 0 then 20 else 0) = 0 → j (some ⟨bf, 0, none⟩) (some ⟨b10, 0, none⟩) (some ⟨b11, 0, none⟩) (A.kind p.ino == 2) τ) ?_ ?_
  · intro τ hg he
    rw [he] at hK
    simp only [ne_eq, not_true_eq_false, if_false] at hK
    have hgσ : Gr σ τ := hg2.trans hg
    have F := hF.gr hgσ
    have h10 := hg.get k10
    have h11 := hg.get e2
    refine j_i (fun j => ∀ b : Bool, b = decide (A.kind p.ino = 2 ∧ (A.within p.ino 13 q.dir).getD false = true) → j (some ⟨bf, 0, none⟩) (some ⟨b10, 0, none⟩) (some ⟨b11, 0, none⟩) b τ) ?_ ?_
    · intro b hb
      by_cases hc : A.kind p.ino = 2 ∧ (A.within p.ino 13 q.dir).getD false = true
      · rw [if_pos hc] at hK
        exact br_t (by rw [hb]; simpa using hc) (hK τ hgσ)
      · rw [if_neg hc] at hK
        refine br_f (by rw [hb]; simpa using hc) (ptr_i (rd_I (rdC_of h11 (by rfl)) (ptr_i (rd_I (rdC_of h10 (by rfl)) ?_))))
        refine call_i (s_deep F hx13 (by omega) (app_I (and_i (rdC_of h10 (by rfl)) ?_)))
        refine call_i (s_levelsF hI hB hN hF 14 p.ino (by omega) (fun d _ hd => by have := deep_bound hd; omega) hgσ ?_)
        intro τ' g'
        refine app_I ?_
        have hl := levels_le A 14 p.ino
        rw [wrap_id (x := x + A.levels 14 p.ino) (by omega) (by omega)]
        rw [hx13] at hK
        simp only [Option.getD_some] at hK
        by_cases h12 : x + A.levels 14 p.ino > 12
        · rw [if_pos h12] at hK; exact br_t (by simpa using h12) (hK τ' (hgσ.trans g'))
        · rw [if_neg h12] at hK; exact br_f (by simpa using h12) (hK τ' (hgσ.trans g'))
    · intro j hj
      by_cases hk : A.kind p.ino = 2
      · refine br_t (by simpa using hk) (ptr_i (rd_I (rdC_of h11 (by rfl)) (ptr_i (rd_I (rdC_of h10 (by rfl)) ?_))))
        refine call_i (s_withinF F 13 hwb (app_B (hj wb ?_)))
        rw [hwb]; simp [hk]
      · exact br_f (by simpa using hk) (hj false (by simp [hk]))
  · intro j hj
    refine rd_B (rdC_of e2 (by rfl)) ?_
    cases hth : q.there with
    | false => exact br_t rfl (hj σ2 (Gr.refl _) (by rw [hth]; rfl))
    | true =>
      rw [hth] at hK hj
      simp only [Bool.true_eq_false, if_false] at hK hj
      refine br_f rfl ?_
      refine j_i (fun j' => ∀ b : Bool, b = decide (A.kind q.ino = 2 ∧ A.kind p.ino ≠ 2) → j' (some ⟨bf, 0, none⟩) (some ⟨b10, 0, none⟩) (some ⟨b11, 0, none⟩) (A.kind p.ino == 2) (A.kind q.ino == 2) b σ2) ?_ ?_
      · intro b hb
        by_cases h7 : A.kind q.ino = 2 ∧ A.kind p.ino ≠ 2
        · rw [if_pos h7] at hK
          exact br_t (by rw [hb]; simpa using h7) (hK σ2 hg2)
        rw [if_neg h7] at hK hj
        refine br_f (by rw [hb]; simpa using h7) ?_
        refine j_i (fun j' => ∀ b : Bool, b = decide (A.kind p.ino = 2 ∧ A.kind q.ino ≠ 2) → j' (some ⟨bf, 0, none⟩) (some ⟨b10, 0, none⟩) (some ⟨b11, 0, none⟩) (A.kind p.ino == 2) b σ2) ?_ ?_
        · intro b hb
          by_cases h8 : A.kind p.ino = 2 ∧ A.kind q.ino ≠ 2
          · rw [if_pos h8] at hK
            exact br_t (by rw [hb]; simpa using h8) (hK σ2 hg2)
          rw [if_neg h8] at hK hj
          refine br_f (by rw [hb]; simpa using h8) ?_
          obtain ⟨bt, B0, q1, q2, q3, q4⟩ := id F2
          refine ptr_i (rd_P (rdC_of q1 (by rfl)) (ptr_i (rd_I (rdC_of e2 (by rfl)) ?_)))
          refine call_i (s_Names q2 _ (names_ok hI hB hN _) ?_)
          intro x' σ3 g3 hx'
          refine app_L ?_
          have hlen : x'.len = (A.names q.ino).length := hx'.1
          by_cases hl : (A.names q.ino).length > 0
          · rw [if_pos hl] at hK
            exact br_t (by rw [hlen]; simp only [decide_eq_true_eq]; omega) (hK σ3 (hg2.trans g3))
          · rw [if_neg hl] at hj
            exact br_f (by rw [hlen]; simp only [decide_eq_false_iff_not]; omega) (hj σ3 g3 rfl)
        · intro j' hj'
          by_cases hk : A.kind p.ino = 2
          · exact br_t (by simpa using hk) (hj' _ (by by_cases hq2 : A.kind q.ino = 2 <;> simp [hk, hq2]))
          · exact br_f (by simpa using hk) (hj' _ (by simp [hk]))
      · intro j' hj'
        by_cases hk : A.kind q.ino = 2
        · exact br_t (by simpa using hk) (hj' _ (by by_cases hp2 : A.kind p.ino = 2 <;> simp [hk, hp2]))
        · exact br_f (by simpa using hk) (hj' _ (by simp [hk]))
/-- Rename -/
theorem s_Rename {N : Nat} (hI : Inv A) (hB : Bd N A) (hN : N ≤ 1000000000000) (hF : FsAt σ bf A B) (cwd src to : ByteArray) {K : Value → H → Prop}
    (hK : ∀ σ' B', FsAt σ' bf (A.renameF cwd src to).2 B' → Sep σ B σ' B' → K (.int .i64 (A.renameF cwd src to).1) σ') :
    callW Tryz.prog 33 [.pointer (some ⟨bf, 0, none⟩), .string cwd, .string src, .string to] K σ := by
  refine c33 _ _ _ _ ?_
  unfold g33
  refine call_i (s_both hF cwd src to ?_)
  unfold AT.renameF at hK
  simp only at hK
  have hbz := both_z (A := A) (cwd := cwd) (src := src) (to := to)
  have hpl := fun he => locate_place hI cwd to false he
  generalize A.both cwd src to = r at hK hbz ⊢
  obtain ⟨re, p, q⟩ := r
  simp only at hK hbz ⊢
  unfold plC
  (refine app_of rfl ?_; try dsimp only)
  refine al_i ?_; intro b14 σ1 g1 e1 n1
  refine al_i ?_; intro b15 σ2 g2 e2 n2
  have n1415 : b14 ≠ b15 := ne_fr n2 (isSome_of e1)
  refine st_i2 (g2.get e1) sz_place (by rfl) (by rfl) ?_; intro σ3 p3
  refine st_i2 (p3.get n1415.symm e2) sz_place (by rfl) (by rfl) ?_; intro σ4 p4
  have f15 : σ b15 = none := none_of g1 n2
  have hg4 : Lng σ σ4 := ⟨((g1.trans g2).putF p3 n1).putF p4 f15⟩
  have k14 := p4.get n1415 p3.same
  have k15 := p4.same
  have F4 := hF.gr hg4.gr
  clear p3 p4 e1 e2 g1 g2
  by_cases he : re = 0
  case neg =>
    rw [if_pos he] at hK
    exact br_t (by simpa using he) (hK σ4 B F4 (Sep.gr hg4.gr))
  subst he
  simp only [ne_eq, not_true_eq_false, if_false] at hK
  obtain ⟨_, z2, _, z4⟩ := hbz rfl
  have Q := hpl z2
  rw [← z4] at Q
  refine br_f rfl ?_
  refine j_i (fun j => ∀ b : Bool, b = (strEq p.name ⟨⟨[]⟩⟩ || strEq q.name ⟨⟨[]⟩⟩) → j (some ⟨bf, 0, none⟩) (some ⟨b14, 0, none⟩) (some ⟨b15, 0, none⟩) b σ4) ?_ ?_
  case refine_2 =>
    intro j hj
    refine rd_S (rdC_of k14 (by rfl)) ?_
    cases h1 : strEq p.name ⟨⟨[]⟩⟩ with
    | true => exact br_t rfl (hj true (by rw [h1]; rfl))
    | false => exact br_f rfl (rd_S (rdC_of k15 (by rfl)) (hj _ (by rw [h1]; rfl)))
  intro b hb
  by_cases c2 : sEq p.name ⟨⟨[]⟩⟩ = true ∨ sEq q.name ⟨⟨[]⟩⟩ = true
  · rw [if_pos c2] at hK
    exact br_t (by rw [hb, ← sEq_eq, ← sEq_eq]; simpa using c2) (hK σ4 B F4 (Sep.gr hg4.gr))
  rw [if_neg c2] at hK
  refine br_f (by
    rw [hb, ← sEq_eq, ← sEq_eq]
    cases h1 : sEq p.name ⟨⟨[]⟩⟩ with
    | true => exact absurd (.inl h1) c2
    | false =>
      cases h2 : sEq q.name ⟨⟨[]⟩⟩ with
      | true => exact absurd (.inr h2) c2
      | false => rfl) ?_
  refine ptr_i (rd_B (rdC_of k14 (by rfl)) ?_)
  by_cases c3 : p.there = false
  · rw [if_pos c3] at hK
    exact br_t (by rw [c3]; rfl) (hK σ4 B F4 (Sep.gr hg4.gr))
  rw [if_neg c3] at hK
  have c3' : p.there = true := by simpa using c3
  refine br_f (by rw [c3']; rfl) ?_
  refine j_i (fun j => ∀ b : Bool, b = decide (q.there = true ∧ p.ino = q.ino) → j (some ⟨bf, 0, none⟩) (some ⟨b14, 0, none⟩) (some ⟨b15, 0, none⟩) b σ4) ?_ ?_
  case refine_2 =>
    intro j hj
    refine ptr_i (rd_B (rdC_of k15 (by rfl)) ?_)
    cases h1 : q.there with
    | true =>
      refine br_t rfl (ptr_i (rd_I (rdC_of k14 (by rfl)) (ptr_i (rd_I (rdC_of k15 (by rfl)) (hj _ ?_)))))
      by_cases h2 : p.ino = q.ino <;> simp [h1, h2]
    | false => exact br_f rfl (hj false (by simp [h1]))
  intro b hb
  by_cases c4 : q.there = true ∧ p.ino = q.ino
  · rw [if_pos c4] at hK
    exact br_t (by rw [hb]; simpa using c4) (hK σ4 B F4 (Sep.gr hg4.gr))
  rw [if_neg c4] at hK
  refine br_f (by rw [hb]; simpa using c4) (ptr_i (rd_G (rdA_of' k14 (by rfl)) ?_))
  (refine app_of rfl ?_; try dsimp only)
  refine ptr_i (rd_G (rdA_of' k15 (by rfl)) ?_)
  (refine app_of rfl ?_; try dsimp only)
  refine call_i (s_over hI hB hN F4 p q Q.1 ?_)
  intro σ5 g5
  refine app_I ?_
  have hg5 : Lng σ σ5 := ⟨hg4.gr.trans g5⟩
  have k14' := g5.get k14
  have k15' := g5.get k15
  have F5 := hF.gr hg5.gr
  by_cases c5 : A.overE p q ≠ 0
  · rw [if_pos c5] at hK
    exact br_t (by simpa using c5) (hK σ5 B F5 (Sep.gr hg5.gr))
  rw [if_neg c5] at hK
  refine br_f (by simpa using c5) ?_
  -- the entry moves
  have mv : ∀ (A' : AT) (σ6 : H) (B6 : Nat → Prop), Inv A' → FsAt σ6 bf A' B6 → Sep σ B σ6 B6 → σ6 b14 = some (.cells ⟨[.int .i64 p.dir, .string p.name, .int .i64 p.ino, .bool p.there]⟩ 86 (0, 0)) → σ6 b15 = some (.cells ⟨[.int .i64 q.dir, .string q.name, .int .i64 q.ino, .bool q.there]⟩ 86 (0, 0)) →
      (∀ σ' B', FsAt σ' bf (A'.moveR p.dir p.name q.dir q.name 14).2 B' → Sep σ B σ' B' → K (.int .i64 (A'.moveR p.dir p.name q.dir q.name 14).1) σ') →
      (ptrW (some ⟨bf, 0, none⟩) (fun (b46 o47 : Nat) => rdT (rdC b46 o47) kP (fun (x48 : Option Addr) => ptrW (some ⟨b14, 0, none⟩) (fun (b49 o50 : Nat) => rdT (rdC b49 o50) kI (fun (x51 : Int) => ptrW (some ⟨b14, 0, none⟩) (fun (b52 o53 : Nat) => rdT (rdC b52 (o53 + 1)) kS (fun (x54 : ByteArray) => ptrW (some ⟨b15, 0, none⟩) (fun (b55 o56 : Nat) => rdT (rdC b55 o56) kI (fun (x57 : Int) => ptrW (some ⟨b15, 0, none⟩) (fun (b58 o59 : Nat) => rdT (rdC b58 (o59 + 1)) kS (fun (x60 : ByteArray) =>
        callT Tryz.prog 81 [.pointer x48, .int .i64 x51, .string x54, .int .i64 x57, .string x60] kI (fun (x61 : Int) => K (.int .i64 x61))))))))))))) σ6 := by
    intro A' σ6 B6 hI' F6 S6 h14 h15 hK'
    obtain ⟨bt, B0, q1, q2, q3, q4⟩ := id F6
    refine ptr_i (rd_P (rdC_of q1 (by rfl)) (ptr_i (rd_I (rdC_of h14 (by rfl)) (ptr_i (rd_S (rdC_of h14 (by rfl)) (ptr_i (rd_I (rdC_of h15 (by rfl)) (ptr_i (rd_S (rdC_of h15 (by rfl)) ?_)))))))))
    refine call_i (s_Move cAny q2 _ _ _ _ ?_ 14 ?_ ?_)
    · intro j hj
      obtain ⟨_, _, _, _, _, m, hm, _⟩ := hI'.find hj
      rw [hm]; rfl
    · intro hz
      obtain ⟨_, ht, _, _⟩ := moveE1_z hz
      obtain ⟨d, hd⟩ := hI'.deep q.dir ht
      obtain ⟨b', hb'⟩ := apart_some hI' ((A'.find p.dir p.name).getD 0) ht (deep_mono (deep_mono hd))
      rw [hb']; rfl
    · intro σ7 B7 hT hS
      obtain ⟨B8, h1, h2⟩ := FsAt.lift q1 q3 q4 hT hS
      exact app_I (hK' σ7 B8 h1 (S6.trans h2))
  refine j_d (ptr_i (rd_B (rdC_of k15' (by rfl)) ?_))
  by_cases c6 : q.there = true
  case neg =>
    rw [if_neg c6] at hK
    exact br_f (by simpa using c6) (mv _ _ _ hI F5 (Sep.gr hg5.gr) k14' k15' hK)
  rw [if_pos c6] at hK
  obtain ⟨bt, B0, q1, q2, q3, q4⟩ := id F5
  refine br_t c6 (ptr_i (rd_P (rdC_of q1 (by rfl)) (ptr_i (rd_I (rdC_of k15' (by rfl)) (ptr_i (rd_S (rdC_of k15' (by rfl)) ?_))))))
  refine call_i (s_Unlink q2 _ _ ?_ hI.nodup ?_)
  · intro j hj
    obtain ⟨_, _, _, _, _, m, hm, _⟩ := hI.find hj
    rw [hm]; rfl
  · intro σ6 B6 hT hS
    obtain ⟨B7, h1, h2⟩ := FsAt.lift q1 q3 q4 hT hS
    have S7 : Sep σ B σ6 B7 := h2.of_gr hg5.gr
    refine app_I ?_
    by_cases c7 : (A.unlinkR q.dir q.name).1 ≠ 0
    · rw [if_pos c7] at hK
      exact br_t (by simpa using c7) (hK σ6 B7 h1 S7)
    rw [if_neg c7] at hK
    have hB14 : ¬ B b14 := hF.fresh n1
    have hB15 : ¬ B b15 := hF.fresh f15
    exact br_f (by simpa using c7) (mv _ _ _ (unlinkR_ok hI hB (by omega) q.dir q.name).1 h1 S7 (h2 b14 _ k14' hB14).1 (h2 b15 _ k15' hB15).1 hK)
end
end Go.Proofs.YtlpcehbfoogejaaGreatDoor

/- WHAT IS RENAMED in the root, and renamed back, is as it was. -/
namespace Go.Wk
open Go Go.HL
variable {A : AT}
theorem root_walk (h : Inv A) : A.walk 10 1 ⟨⟨[47]⟩⟩ true 8 = (0, ⟨1, ⟨⟨[]⟩⟩, 1, true⟩, 8) := by
  rw [AT.walk]
  have h1 : mayE ⟨⟨[47]⟩⟩ = 0 := by decide +kernel
  have h2 : headIs 47 ⟨⟨[47]⟩⟩ = true := by decide +kernel
  have h3 : partsB ⟨⟨[47]⟩⟩ = [] := by decide +kernel
  rw [h1, h2, h3]
  simp [AT.steps]
/-- an entry of the root has another name -/
structure Ren (A : AT) (a b : ByteArray) (i : Int) (M : AT) : Prop where
  inv : Inv M
  new : M.find 1 b = some i
  old : M.find 1 a = none
  same : ∀ j, j ≠ 1 → M.get j = A.get j
  ui : M.ui = A.ui
  ub : M.ub = A.ub
end Go.Wk

/- IN WHICH ORDER THINGS ARE MADE changes nothing of the tree. -/
namespace Go.Wk
open Go Go.HL
def six : List ByteArray := [⟨⟨[97]⟩⟩, ⟨⟨[98]⟩⟩, ⟨⟨[99]⟩⟩, ⟨⟨[66]⟩⟩, ⟨⟨[97, 46, 98]⟩⟩, ⟨⟨[122]⟩⟩]
def pN : ByteArray := ⟨⟨[112]⟩⟩
def qN : ByteArray := ⟨⟨[113]⟩⟩
def rN : ByteArray := ⟨⟨[114]⟩⟩
def inDir (d k : ByteArray) : ByteArray := ⟨⟨d.data.toList ++ [47] ++ k.data.toList⟩⟩
structure SixOk (k : ByteArray) : Prop where
  parts : partsB k = [k]
  may : mayE k = 0
  head : headIs 47 k = false
  ne : sEq k ⟨⟨[]⟩⟩ = false
  dd : sEq k ⟨⟨[46, 46]⟩⟩ = false
  sz : k.size ≤ 3
  named : namedE k = 0
  mayN : mayName k = true
theorem six_ok {k : ByteArray} (h : k ∈ six) : SixOk k := by
  simp only [six, List.mem_cons, List.mem_nil_iff, or_false] at h
  rcases h with rfl | rfl | rfl | rfl | rfl | rfl <;> exact ⟨by decide +kernel, by decide +kernel, by decide +kernel, by decide +kernel, by decide +kernel, by decide +kernel, by decide +kernel, by decide +kernel⟩
structure InOk (d k : ByteArray) : Prop where
  parts : partsB (inDir d k) = [d, k]
  may : mayE (inDir d k) = 0
  head : headIs 47 (inDir d k) = false
  ne : sEq (inDir d k) ⟨⟨[]⟩⟩ = false
theorem in_ok {d k : ByteArray} (hd : d = qN ∨ d = rN) (h : k ∈ six) : InOk d k := by
  simp only [six, List.mem_cons, List.mem_nil_iff, or_false] at h
  rcases hd with rfl | rfl <;> rcases h with rfl | rfl | rfl | rfl | rfl | rfl <;> exact ⟨by decide +kernel, by decide +kernel, by decide +kernel, by decide +kernel⟩
def fl (data k : ByteArray) : AN := ⟨1, 420, data ++ k, 1, 0, []⟩
def drN (es : List (ByteArray × Int)) : AN := ⟨2, 493, ⟨⟨[]⟩⟩, 1, 1, es⟩
def DD (d : Int) : Prop := d = 2 ∨ d = 3 ∨ d = 4
structure Ords (data : ByteArray) (A : AT) (E : Int → List (ByteArray × Int)) (m : Nat) : Prop where
  inv : Inv A
  bd : Bd (10 + m) A
  rt : A.get 1 = some ⟨2, 493, ⟨⟨[]⟩⟩, 1, 1, [(pN, 2), (qN, 3), (rN, 4)]⟩
  nd : ∀ d, DD d → A.get d = some (drN (E d))
  he : ∀ d, DD d → ∀ k i, lk k (E d) = some i → k ∈ six ∧ 4 < i ∧ A.get i = some (fl data k)
  dj : ∀ d d' k k' i, DD d → DD d' → lk k (E d) = some i → lk k' (E d') = some i → d = d'
  qi : A.qi = 100
  qb : A.qb = 9000
  ui : A.ui ≤ 4 + m
  ub : A.ub ≤ 63 * m
variable {A : AT} {data : ByteArray} {E : Int → List (ByteArray × Int)} {m : Nat}
theorem Ords.find (h : Ords data A E m) {d : Int} (hd : DD d) (k : ByteArray) : A.find d k = lk k (E d) := by
  unfold AT.find; rw [h.nd d hd]; rfl
theorem Ords.kindD (h : Ords data A E m) {d : Int} (hd : DD d) : A.kind d = 2 := by
  unfold AT.kind; rw [h.nd d hd]; rfl
theorem Ords.kindF (h : Ords data A E m) {d : Int} (hd : DD d) {k : ByteArray} {i : Int} (hk : lk k (E d) = some i) : A.kind i = 1 := by
  unfold AT.kind; rw [(h.he d hd k i hk).2.2]; rfl
theorem Ords.kind1 (h : Ords data A E m) : A.kind 1 = 2 := by
  unfold AT.kind; rw [h.rt]; rfl
theorem DD.low {d : Int} (h : DD d) : 2 ≤ d ∧ d ≤ 4 := by unfold DD at h; omega
theorem walk_one {f : Nat} {at_ : Int} {s n : ByteArray} {fo : Bool} {x : Int} (h1 : mayE s = 0) (h2 : partsB s = [n]) (h3 : sEq n ⟨⟨[46, 46]⟩⟩ = false) (h4 : n.size ≤ 56) {a : Int} (ha : (if headIs 47 s then 1 else at_) = a) (hk : A.kind a = 2) (hc : (A.find a n).isSome = false ∨ A.kind ((A.find a n).getD 0) ≠ 3) :
    A.walk (f + 1) at_ s fo x = (0, ⟨a, n, (A.find a n).getD 0, (A.find a n).isSome⟩, x) := by
  rw [AT.walk, if_neg (by rw [h1]; decide)]
  simp only [ha, h2]
  rw [steps_name rfl hk h3 (by omega) (by rcases hc with h | h; exact .inl h; exact .inr (.inr h))]
  rfl
theorem Ords.cond (h : Ords data A E m) {d : Int} (hd : DD d) (k : ByteArray) : (A.find d k).isSome = false ∨ A.kind ((A.find d k).getD 0) ≠ 3 := by
  rw [h.find hd]
  cases hl : lk k (E d) with
  | none => exact .inl rfl
  | some i => refine .inr ?_; show A.kind i ≠ 3; rw [h.kindF hd hl]; decide
structure Top (c n : ByteArray) (d : Int) : Prop where
  may : mayE c = 0
  parts : partsB c = [n]
  dd : sEq n ⟨⟨[46, 46]⟩⟩ = false
  sz : n.size ≤ 56
  head : headIs 47 c = true
  lk : lk n [(pN, (2 : Int)), (qN, 3), (rN, 4)] = some d
  isD : DD d
theorem Ords.find1 (h : Ords data A E m) (n : ByteArray) : A.find 1 n = lk n [(pN, (2 : Int)), (qN, 3), (rN, 4)] := by
  unfold AT.find; rw [h.rt]; rfl
theorem Ords.loc (h : Ords data A E m) {c n : ByteArray} {d : Int} (hc : Top c n d) {k : ByteArray} (hk : k ∈ six) : A.locate c k true = (0, ⟨d, k, (lk k (E d)).getD 0, (lk k (E d)).isSome⟩) := by
  have s := six_ok hk
  have hf : A.find 1 n = some d := by rw [h.find1]; exact hc.lk
  have w1 : A.walk 10 1 c true 8 = (0, ⟨1, n, d, true⟩, 8) := by
    have := walk_one (A := A) (f := 9) (at_ := 1) (s := c) (n := n) (fo := true) (x := 8) hc.may hc.parts hc.dd hc.sz (a := 1) (by simp [hc.head]) h.kind1 (.inr (by rw [hf]; show A.kind d ≠ 3; rw [h.kindD hc.isD]; decide))
    rw [this, hf]; rfl
  have w2 : A.walk 10 d k true 8 = (0, ⟨d, k, (lk k (E d)).getD 0, (lk k (E d)).isSome⟩, 8) := by
    have := walk_one (A := A) (f := 9) (at_ := d) (s := k) (n := k) (fo := true) (x := 8) s.may s.parts s.dd (by have := s.sz; omega) (a := d) (by simp [s.head]) (h.kindD hc.isD) (h.cond hc.isD k)
    rw [this, h.find hc.isD]
  unfold AT.locate
  rw [if_neg (by rw [s.ne]; decide), if_neg (by rw [s.head]; decide), if_neg (by rw [hc.head]; decide)]
  simp only [w1, w2, ne_eq, not_true_eq_false, if_false, Bool.true_eq_false, h.kindD hc.isD]
theorem Ords.same (h : Ords data A E m) {A' : AT} {m' : Nat} (hi : Inv A') (hb : Bd (10 + m') A') (hg : ∀ j, A'.get j = A.get j) (q1 : A'.qi = A.qi) (q2 : A'.qb = A.qb) (u1 : A'.ui ≤ 4 + m') (u2 : A'.ub ≤ 63 * m') : Ords data A' E m' :=
  ⟨hi, hb, by rw [hg]; exact h.rt, fun d hd => by rw [hg]; exact h.nd d hd, fun d hd k i hk => by rw [hg]; exact h.he d hd k i hk, h.dj, by rw [q1]; exact h.qi, by rw [q2]; exact h.qb, u1, u2⟩
theorem Ords.mk1 (h : Ords data A E m) (hm : m ≤ 30) {d : Int} (hd : DD d) {k : ByteArray} (hk : k ∈ six) (hdat : data.size ≤ 60) (hn : lk k (E d) = none) :
    (A.makeR d k 1 420 (data ++ k)).2.1 = 0 ∧ Ords data (A.makeR d k 1 420 (data ++ k)).2.2 (fun x => if x = d then up k (A.last + 1) (E d) else E x) (m + 1) := by
  have s := six_ok hk
  have hsz : (data ++ k).size = data.size + k.size := ByteArray.size_append
  have hks := s.sz
  have b1 := h.inv.ui_pos
  have b2 := h.inv.ub_pos
  have b3 := h.ui
  have b4 := h.ub
  have hroom : A.roomE 1 ((data ++ k).size : Int) = 0 := by
    unfold AT.roomE
    rw [wr_id (by omega) (by omega), wr_id (by omega) (by omega), h.qi, h.qb, if_pos (by omega)]
  have hE : A.makeE d k 1 420 (data ++ k) = 0 := makeE_of ⟨_, h.nd d hd, rfl⟩ s.named (by unfold likeE kindOkE; rfl) (by rw [h.find hd]; exact hn) hroom
  have hN := h.bd.last
  have hL : A.last < 4611686018427387904 := by omega
  obtain ⟨i1, i2⟩ := h.inv.made h.bd (by omega) (by omega) hE (by intro e; cases e)
  have hG := made_get (name := k) (kind := 1) (mode := 420) (data := data ++ k) h.inv hL (h.nd d hd)
  have hE2 := made_eq (name := k) (kind := 1) (mode := 420) (data := data ++ k) h.inv hL (h.nd d hd)
  have hfr : A.get (A.last + 1) = none := h.inv.fresh (by omega)
  have hdl := hd.low
  have h4 : 4 ≤ A.last := (h.inv.low 4 _ (h.nd 4 (.inr (.inr rfl)))).2
  rw [makeR_z hE]
  refine ⟨rfl, ?_⟩
  have hnew : newN d 1 420 (data ++ k) = fl data k := rfl
  rw [hnew] at hG
  have hold : ∀ d' k' i, DD d' → lk k' (E d') = some i → 4 < i ∧ i ≠ A.last + 1 ∧ i ≠ d := by
    intro d' k' i hd' hl
    obtain ⟨_, a2, a3⟩ := h.he d' hd' k' i hl
    refine ⟨a2, fun e => ?_, by omega⟩
    rw [e, hfr] at a3; cases a3
  refine ⟨i1, i2, ?_, ?_, ?_, ?_, ?_, ?_, ?_, ?_⟩
  · rw [hG, if_neg (by omega), if_neg (by omega)]; exact h.rt
  · intro d' hd'
    have := hd'.low
    rw [hG]
    by_cases e : d' = d
    · rw [if_pos e]; simp only [e, if_true]; rfl
    · rw [if_neg e, if_neg (by omega)]; simp only [e, if_false]; exact h.nd d' hd'
  · intro d' hd' k' i hl
    have hup : ∀ k', lk k' (up k (A.last + 1) (E d)) = if k' == k then some (A.last + 1) else lk k' (E d) := fun k' => lk_up k k' (A.last + 1) (E d)
    by_cases e : d' = d
    · simp only [e, if_true] at hl
      rw [hup] at hl
      by_cases e2 : k' = k
      · subst e2
        simp only [beq_self_eq_true, if_true, Option.some.injEq] at hl
        subst hl
        refine ⟨hk, by omega, ?_⟩
        rw [hG, if_neg (by omega), if_pos rfl]
      · have : (k' == k) = false := by simpa using e2
        rw [this] at hl
        simp only [Bool.false_eq_true, if_false] at hl
        obtain ⟨a1, a2, a3⟩ := hold d k' i hd hl
        refine ⟨(h.he d hd k' i hl).1, a1, ?_⟩
        rw [hG, if_neg a3, if_neg a2]; exact (h.he d hd k' i hl).2.2
    · simp only [e, if_false] at hl
      obtain ⟨a1, a2, a3⟩ := hold d' k' i hd' hl
      refine ⟨(h.he d' hd' k' i hl).1, a1, ?_⟩
      rw [hG, if_neg a3, if_neg a2]; exact (h.he d' hd' k' i hl).2.2
  · have hup : ∀ k', lk k' (up k (A.last + 1) (E d)) = if k' == k then some (A.last + 1) else lk k' (E d) := fun k' => lk_up k k' (A.last + 1) (E d)
    have hcase : ∀ d' k' i, DD d' → lk k' (if d' = d then up k (A.last + 1) (E d) else E d') = some i → (d' = d ∧ i = A.last + 1) ∨ (i ≠ A.last + 1 ∧ lk k' (E d') = some i) := by
      intro d' k' i hd' hl
      by_cases e : d' = d
      · rw [if_pos e, hup] at hl
        by_cases e2 : (k' == k) = true
        · rw [if_pos e2] at hl
          exact .inl ⟨e, by simpa using hl.symm⟩
        · rw [if_neg e2] at hl
          rw [← e] at hl
          exact .inr ⟨(hold d' k' i hd' hl).2.1, hl⟩
      · rw [if_neg e] at hl
        exact .inr ⟨(hold d' k' i hd' hl).2.1, hl⟩
    intro d1 d2 k1 k2 i q1 q2 l1 l2
    rcases hcase d1 k1 i q1 l1 with ⟨a1, a2⟩ | ⟨a1, a2⟩ <;> rcases hcase d2 k2 i q2 l2 with ⟨c1, c2⟩ | ⟨c1, c2⟩
    · rw [a1, c1]
    · exact absurd a2 c1
    · exact absurd c2 a1
    · exact h.dj d1 d2 k1 k2 i q1 q2 a2 c2
  · rw [hE2]; exact h.qi
  · rw [hE2]; exact h.qb
  · rw [hE2]
    show wr (A.ui + 1) ≤ _
    rw [wr_id (by omega) (by omega)]; omega
  · rw [hE2]
    show wr (A.ub + ((data ++ k).size : Int)) ≤ _
    rw [wr_id (by omega) (by omega)]; omega
theorem Ords.write (h : Ords data A E m) (hm : m ≤ 30) {c n : ByteArray} {d : Int} (hc : Top c n d) {k : ByteArray} (hk : k ∈ six) (hdat : data.size ≤ 60) :
    ∃ E', Ords data (A.writeF c k (data ++ k) false).2 E' (m + 1) ∧ (∀ x, x ≠ d → E' x = E x) ∧ ∀ k', (lk k' (E' d)).isSome = ((k' == k) || (lk k' (E d)).isSome) := by
  have hd := hc.isD
  unfold AT.writeF
  rw [h.loc hc hk]
  simp only [ne_eq, not_true_eq_false, if_false]
  cases hl : lk k (E d) with
  | none =>
    obtain ⟨_, h2⟩ := h.mk1 hm hd hk hdat hl
    refine ⟨_, by simpa using h2, fun x hx => by simp [hx], fun k' => ?_⟩
    simp only [if_true]
    rw [lk_up]
    cases e : (k' == k) <;> simp [e]
  | some i =>
    have hkd := h.kindF hd hl
    obtain ⟨_, _, hg⟩ := h.he d hd k i hl
    simp only [Option.isSome_some, Bool.true_eq_false, if_false, Option.getD_some, Bool.false_eq_true]
    rw [if_neg (by rw [hkd]; decide)]
    refine ⟨E, ?_, fun _ _ => rfl, fun k' => ?_⟩
    · have hks := (six_ok hk).sz
      have hsz : (data ++ k).size = data.size + k.size := ByteArray.size_append
      obtain ⟨w1, w2, w3, w4, w5⟩ := writeR_ok h.inv h.bd i (data ++ k) (by omega)
      have b3 := h.ui
      have b4 := h.ub
      have hw : (∀ j, (A.writeR i (data ++ k)).2.get j = A.get j) ∧ (A.writeR i (data ++ k)).2.ui = A.ui ∧ (A.writeR i (data ++ k)).2.ub = A.ub := by
        unfold AT.writeR
        by_cases he : A.writeE i (data ++ k) = 0
        · rw [if_pos he]
          unfold AT.written
          rw [hg]
          refine ⟨fun j => ?_, rfl, ?_⟩
          · show (A.set i { fl data k with data := data ++ k }).get j = _
            rw [AT.get_set]
            by_cases e : j = i
            · rw [if_pos e, e, hg]; rfl
            · rw [if_neg e]
          · show wr (A.ub + wr (((data ++ k).size : Int) - ((data ++ k).size : Int))) = A.ub
            have b2 := h.inv.ub_pos
            have b5 := h.inv.bq
            rw [wr_id (x := _ - _) (by omega) (by omega), wr_id (by omega) (by omega)]; omega
        · rw [if_neg he]; exact ⟨fun _ => rfl, rfl, rfl⟩
      exact h.same w1 (w2.mono (by omega)) hw.1 w4 w5 (by rw [hw.2.1]; omega) (by rw [hw.2.2]; omega)
    · by_cases e : k' = k
      · subst e; rw [hl]; simp
      · have : (k' == k) = false := by simpa using e
        rw [this]; simp
theorem Ords.levels (h : Ords data A E m) {d : Int} (hd : DD d) {k : ByteArray} {i : Int} (hk : lk k (E d) = some i) : A.levels 14 i = 0 := by
  rw [AT.levels, if_pos (by rw [h.kindF hd hk]; decide)]
theorem Ords.deepD (h : Ords data A E m) {d : Int} (hd : DD d) (f : Nat) : A.deep (f + 2) d = some 2 := by
  have := hd.low
  rw [AT.deep, if_neg (by omega)]
  have : A.upOf d = 1 := by unfold AT.upOf; rw [h.nd d hd]; rfl
  rw [this, AT.deep, if_pos rfl]; rfl
theorem Ords.over (h : Ords data A E m) {k : ByteArray} {i : Int} (hi : lk k (E 4) = some i) (o : Option Int) (ho : lk k (E 3) = o) : A.overE ⟨4, k, i, true⟩ ⟨3, k, o.getD 0, o.isSome⟩ = 0 := by
  have d3 : DD 3 := .inr (.inl rfl)
  have d4 : DD 4 := .inr (.inr rfl)
  have k4 := h.kindF d4 hi
  unfold AT.overE
  simp only [k4, h.levels d4 hi, h.deepD d3 11]
  cases o with
  | none => simp
  | some j =>
    have k3 := h.kindF d3 ho
    have hn : A.names j = [] := by
      unfold AT.names; rw [(h.he 3 d3 k j ho).2.2]; rfl
    simp [k3, hn]
theorem Ords.unlink (h : Ords data A E m) (hm : m ≤ 100) {k : ByteArray} {j : Int} (hj : lk k (E 3) = some j) :
    (A.unlinkR 3 k).1 = 0 ∧ Ords data (A.unlinkR 3 k).2 (fun x => if x = 3 then rm k (E 3) else E x) m := by
  have d3 : DD 3 := .inr (.inl rfl)
  obtain ⟨hk6, hj4, hgj⟩ := h.he 3 d3 k j hj
  have hf : A.find 3 k = some j := by rw [h.find d3]; exact hj
  have hE : A.unlinkE 3 k = 0 := by
    unfold AT.unlinkE
    rw [hf]
    simp only [Option.getD_some, hgj, Option.isSome_some, if_true, Option.map_some]
    rw [AT.dirE_of ⟨_, h.nd 3 d3, rfl⟩]
    rfl
  obtain ⟨i1, i2, _, i4, i5⟩ := unlinkR_ok h.inv h.bd (by omega) 3 k
  have hR : A.unlinkR 3 k = (0, A.unlinked 3 k) := by unfold AT.unlinkR; rw [if_pos hE]
  rw [hR] at i1 i2 i4 i5 ⊢
  refine ⟨rfl, ?_⟩
  have hnd := h.inv.nodup
  have b1 := h.inv.ui_pos
  have b2 := h.inv.ub_pos
  have b3 := h.ui
  have b4 := h.ub
  have hsz := h.inv.size_le hgj
  have hfl : (fl data k).links = 1 := rfl
  -- the table behind it
  have hent : A.ent 3 (rm k) = A.set 3 (drN (rm k (E 3))) := by unfold AT.ent; rw [h.nd 3 d3]; rfl
  have hmod : (A.set 3 (drN (rm k (E 3)))).mod j (fun n => { n with links := wr (n.links - 1) }) = (A.set 3 (drN (rm k (E 3)))).set j { fl data k with links := 0 } := by
    unfold AT.mod
    rw [AT.get_set_ne _ _ (by omega), hgj]; rfl
  have hU : A.unlinked 3 k = { ((A.set 3 (drN (rm k (E 3)))).set j { fl data k with links := 0 }) with nodes := rm j ((A.set 3 (drN (rm k (E 3)))).set j { fl data k with links := 0 }).nodes, ui := wr (A.ui - 1), ub := wr (A.ub - (data ++ k).size) } := by
    unfold AT.unlinked
    rw [hf]
    simp only [Option.getD_some]
    rw [hent, hmod, AT.get_set_self]
    rfl
  have hG : ∀ x, (A.unlinked 3 k).get x = if x = j then none else if x = 3 then some (drN (rm k (E 3))) else A.get x := by
    intro x
    have hno : (keysL ((A.set 3 (drN (rm k (E 3)))).set j { fl data k with links := 0 }).nodes).Nodup := nodup_up (nodup_up hnd)
    rw [hU]
    show lk x (rm j ((A.set 3 (drN (rm k (E 3)))).set j { fl data k with links := 0 }).nodes) = _
    rw [lk_rm hno]
    by_cases e : x = j
    · subst e; simp
    · rw [if_neg (by simpa using e), if_neg e]
      have := AT.get_set_ne (A.set 3 (drN (rm k (E 3)))) { fl data k with links := 0 } e
      unfold AT.get at this
      rw [this]
      exact AT.get_set A 3 x _
  have hen : (keysL (E 3)).Nodup := h.inv.enod 3 _ (h.nd 3 d3)
  have hrm : ∀ k', lk k' (rm k (E 3)) = if k' == k then none else lk k' (E 3) := fun k' => lk_rm hen
  have hold : ∀ d k' i, DD d → lk k' (if d = 3 then rm k (E 3) else E d) = some i → lk k' (E d) = some i ∧ i ≠ j := by
    intro d k' i hd hl
    have hs : lk k' (E d) = some i ∧ ¬ (d = 3 ∧ k' = k) := by
      by_cases e : d = 3
      · subst e
        rw [if_pos rfl, hrm] at hl
        by_cases e2 : k' = k
        · subst e2; simp at hl
        · rw [if_neg (by simpa using e2)] at hl
          exact ⟨hl, fun h => e2 h.2⟩
      · rw [if_neg e] at hl; exact ⟨hl, fun h => e h.1⟩
    refine ⟨hs.1, fun e => ?_⟩
    subst e
    have e3 := h.dj d 3 k' k i hd d3 hs.1 hj
    subst e3
    have g1 := (h.he 3 d3 k' i hs.1).2.2
    rw [hgj] at g1
    have : data ++ k = data ++ k' := by injection g1 with g1; injection g1
    have hkk : k' = k := by
      have h2 := congrArg (fun s : ByteArray => s.data.toList) this
      simp at h2
      apply bytes_ext; simp [h2]
    exact hs.2 ⟨rfl, hkk⟩
  refine ⟨i1, i2, ?_, ?_, ?_, ?_, ?_, ?_, ?_, ?_⟩
  · rw [hG, if_neg (by omega), if_neg (by omega)]; exact h.rt
  · intro d hd
    have := hd.low
    rw [hG, if_neg (by omega)]
    by_cases e : d = 3
    · rw [if_pos e]; simp [e]
    · rw [if_neg e]; simp only [e, if_false]; exact h.nd d hd
  · intro d hd k' i hl
    obtain ⟨a1, a2⟩ := hold d k' i hd hl
    obtain ⟨c1, c2, c3⟩ := h.he d hd k' i a1
    refine ⟨c1, c2, ?_⟩
    rw [hG, if_neg a2, if_neg (by omega)]; exact c3
  · intro d1 d2 k1 k2 i q1 q2 l1 l2
    exact h.dj d1 d2 k1 k2 i q1 q2 (hold d1 k1 i q1 l1).1 (hold d2 k2 i q2 l2).1
  · exact i4.trans h.qi
  · exact i5.trans h.qb
  · rw [hU]; show wr (A.ui - 1) ≤ _; rw [wr_id (by omega) (by omega)]; omega
  · rw [hU]; show wr (A.ub - ((data ++ k).size : Int)) ≤ _
    have : (data ++ k).size = (fl data k).data.size := rfl
    have b5 := h.inv.bq
    rw [wr_id (by omega) (by omega)]; omega
theorem Ords.move (h : Ords data A E m) (hm : m ≤ 100) {k : ByteArray} {i : Int} (hi : lk k (E 4) = some i) (hn : lk k (E 3) = none) :
    Ords data (A.moveR 4 k 3 k 14).2 (fun x => if x = 3 then up k i (E 3) else if x = 4 then rm k (E 4) else E x) (m + 1) := by
  have d3 : DD 3 := .inr (.inl rfl)
  have d4 : DD 4 := .inr (.inr rfl)
  obtain ⟨hk6, hi4, hgi⟩ := h.he 4 d4 k i hi
  have s := six_ok hk6
  have hf : A.find 4 k = some i := by rw [h.find d4]; exact hi
  have hf3 : A.find 3 k = none := by rw [h.find d3]; exact hn
  have hap : A.apart i 14 3 = some true := by
    rw [AT.apart, if_neg (by decide), if_neg (by omega), h.nd 3 d3]
    show A.apart i 13 1 = some true
    rw [AT.apart, if_pos rfl]
  have hR : A.moveR 4 k 3 k 14 = (0, A.moved 4 k 3 k) := by
    unfold AT.moveR
    have h1 : A.moveE1 4 k 3 k = 0 := by
      unfold AT.moveE1
      rw [AT.dirE_of ⟨_, h.nd 3 d3, rfl⟩, AT.dirE_of ⟨_, h.nd 4 d4, rfl⟩, s.named, hf]; rfl
    rw [if_neg (by rw [h1]; simp)]
    rw [hf3, hf]
    simp only [Option.getD_some, hap]
    rfl
  rw [hR]
  obtain ⟨i1, i2, ns, nt', n1, n2, n3, mv⟩ := moved_ok h.inv h.bd (src := 4) (to := 3) (ino := i) (name := k) (as_ := k) (nn := fl data k) ⟨_, h.nd 4 d4, rfl⟩ ⟨_, h.nd 3 d3, rfl⟩ s.named hf hf3 hgi (fun e => by cases e) (fun e => by cases e)
  rw [h.nd 4 d4] at n1
  have hns : ns = drN (E 4) := (Option.some.inj n1).symm
  rw [if_neg (by decide), h.nd 3 d3] at n3
  have hnt : nt' = drN (E 3) := n3
  subst hns; subst hnt
  have hG := mv.get
  have hkn : ((fl data k).kind == 2) = false := rfl
  simp only [hkn, Bool.false_eq_true, if_false] at hG
  have hen : (keysL (E 4)).Nodup := h.inv.enod 4 _ (h.nd 4 d4)
  have hrm : ∀ k', lk k' (rm k (E 4)) = if k' == k then none else lk k' (E 4) := fun k' => lk_rm hen
  have hup : ∀ k', lk k' (up k i (E 3)) = if k' == k then some i else lk k' (E 3) := fun k' => lk_up k k' i (E 3)
  have hcase : ∀ d k' x, DD d → lk k' (if d = 3 then up k i (E 3) else if d = 4 then rm k (E 4) else E d) = some x → (d = 3 ∧ k' = k ∧ x = i) ∨ (x ≠ i ∧ lk k' (E d) = some x) := by
    intro d k' x hd hl
    have hne : lk k' (E d) = some x → ¬ (d = 4 ∧ k' = k) → x ≠ i := by
      intro h1 h2 e
      subst e
      have e4 := h.dj d 4 k' k x hd d4 h1 hi
      subst e4
      have g1 := (h.he 4 d4 k' x h1).2.2
      rw [hgi] at g1
      have : data ++ k = data ++ k' := by injection g1 with g1; injection g1
      have hkk : k' = k := by
        have h2 := congrArg (fun s : ByteArray => s.data.toList) this
        simp at h2
        apply bytes_ext; simp [h2]
      exact h2 ⟨rfl, hkk⟩
    by_cases e : d = 3
    · subst e
      rw [if_pos rfl, hup] at hl
      by_cases e2 : k' = k
      · subst e2; simp at hl; exact .inl ⟨rfl, rfl, hl.symm⟩
      · rw [if_neg (by simpa using e2)] at hl
        exact .inr ⟨hne hl (fun h => by omega), hl⟩
    · rw [if_neg e] at hl
      by_cases e4 : d = 4
      · subst e4
        rw [if_pos rfl, hrm] at hl
        by_cases e2 : k' = k
        · subst e2; simp at hl
        · rw [if_neg (by simpa using e2)] at hl
          exact .inr ⟨hne hl (fun h => e2 h.2), hl⟩
      · rw [if_neg e4] at hl
        exact .inr ⟨hne hl (fun h => e4 h.1), hl⟩
  refine ⟨i1, i2, ?_, ?_, ?_, ?_, ?_, ?_, ?_, ?_⟩
  · rw [hG, if_neg (by omega), if_neg (by omega), if_neg (by omega)]; exact h.rt
  · intro d hd
    have := hd.low
    rw [hG, if_neg (by omega)]
    by_cases e : d = 3
    · rw [if_pos e]; simp [e]; rfl
    · rw [if_neg e]
      by_cases e4 : d = 4
      · rw [if_pos e4]; simp [e4]; rfl
      · rw [if_neg e4]; simp only [e, e4, if_false]; exact h.nd d hd
  · intro d hd k' x hl
    rcases hcase d k' x hd hl with ⟨_, e2, e3⟩ | ⟨e1, e2⟩
    · subst e2; subst e3
      exact ⟨hk6, hi4, by rw [hG, if_pos rfl]⟩
    · obtain ⟨c1, c2, c3⟩ := h.he d hd k' x e2
      exact ⟨c1, c2, by rw [hG, if_neg e1, if_neg (by omega), if_neg (by omega)]; exact c3⟩
  · intro d1 d2 k1 k2 x q1 q2 l1 l2
    rcases hcase d1 k1 x q1 l1 with ⟨a1, a2, a3⟩ | ⟨a1, a2⟩ <;> rcases hcase d2 k2 x q2 l2 with ⟨c1, c2, c3⟩ | ⟨c1, c2⟩
    · rw [a1, c1]
    · exact absurd a3 c1
    · exact absurd c3 a1
    · exact h.dj d1 d2 k1 k2 x q1 q2 a2 c2
  · rw [mv.qi]; exact h.qi
  · rw [mv.qb]; exact h.qb
  · rw [mv.ui]; have := h.ui; omega
  · rw [mv.ub]; have := h.ub; omega
theorem Ords.locIn (h : Ords data A E m) {nm : ByteArray} {d : Int} (hq : (nm = qN ∧ d = 3) ∨ (nm = rN ∧ d = 4)) {k : ByteArray} (hk : k ∈ six) : A.locate ⟨⟨[47]⟩⟩ (inDir nm k) false = (0, ⟨d, k, (lk k (E d)).getD 0, (lk k (E d)).isSome⟩) := by
  have s := six_ok hk
  have hd : DD d := by rcases hq with ⟨_, e⟩ | ⟨_, e⟩; exact .inr (.inl e); exact .inr (.inr e)
  have hi := in_ok (d := nm) (by rcases hq with ⟨e, _⟩ | ⟨e, _⟩; exact .inl e; exact .inr e) hk
  have hf : A.find 1 nm = some d := by rw [h.find1]; rcases hq with ⟨e1, e2⟩ | ⟨e1, e2⟩ <;> rw [e1, e2] <;> decide +kernel
  have n1 : sEq nm ⟨⟨[46, 46]⟩⟩ = false ∧ nm.size ≤ 56 := by rcases hq with ⟨e1, _⟩ | ⟨e1, _⟩ <;> rw [e1] <;> decide +kernel
  have hk3 := s.sz
  have w : A.walk 10 1 (inDir nm k) false 8 = (0, ⟨d, k, (lk k (E d)).getD 0, (lk k (E d)).isSome⟩, 8) := by
    rw [AT.walk, if_neg (by rw [hi.may]; decide)]
    simp only [hi.head, hi.parts, Bool.false_eq_true, if_false]
    rw [steps_name rfl h.kind1 n1.1 (by omega) (.inr (.inr (by rw [hf]; show A.kind d ≠ 3; rw [h.kindD hd]; decide)))]
    rw [hf]
    rw [steps_name rfl (h.kindD hd) s.dd (by omega) (.inr (.inl rfl))]
    simp only [Option.getD_some]
    rw [h.find hd]; rfl
  have hr := root_walk h.inv
  unfold AT.locate
  rw [if_neg (by rw [hi.ne]; decide), if_neg (by rw [hi.head]; decide), if_neg (by decide +kernel)]
  simp only [hr, w, ne_eq, not_true_eq_false, if_false, Bool.true_eq_false, h.kind1]
theorem Ords.rename (h : Ords data A E m) (hm : m ≤ 99) {k : ByteArray} {i : Int} (hi : lk k (E 4) = some i) :
    ∃ E', Ords data (A.renameF ⟨⟨[47]⟩⟩ (inDir rN k) (inDir qN k)).2 E' (m + 1) ∧ E' 2 = E 2 ∧ (∀ k', (lk k' (E' 3)).isSome = ((k' == k) || (lk k' (E 3)).isSome)) ∧ E' 4 = rm k (E 4) := by
  have d3 : DD 3 := .inr (.inl rfl)
  have d4 : DD 4 := .inr (.inr rfl)
  obtain ⟨hk6, hi4, hgi⟩ := h.he 4 d4 k i hi
  have s := six_ok hk6
  have l1 := h.locIn (.inr ⟨rfl, rfl⟩) hk6
  have l2 := h.locIn (.inl ⟨rfl, rfl⟩) hk6
  rw [hi] at l1
  have hne : ¬ (sEq k ⟨⟨[]⟩⟩ = true) := by rw [s.ne]; decide
  have hb : A.both ⟨⟨[47]⟩⟩ (inDir rN k) (inDir qN k) = (0, ⟨4, k, i, true⟩, ⟨3, k, (lk k (E 3)).getD 0, (lk k (E 3)).isSome⟩) := by
    unfold AT.both
    rw [l1, l2]; simp
  have hov := h.over hi _ rfl
  unfold AT.renameF
  rw [hb]
  simp only [ne_eq, not_true_eq_false, if_false, hov, Bool.true_eq_false]
  rw [if_neg (by rintro (e | e) <;> exact hne e)]
  cases hl : lk k (E 3) with
  | none =>
    simp only [Option.isSome_none, Bool.false_eq_true, false_and, if_false]
    have := h.move (by omega) hi hl
    refine ⟨_, this, by simp, fun k' => ?_, by simp⟩
    simp only [if_true]
    rw [lk_up]
    cases e : (k' == k) <;> simp [e]
  | some j =>
    have hij : i ≠ j := by
      intro e; subst e
      have := h.dj 3 4 k k i d3 d4 hl hi
      omega
    simp only [Option.isSome_some, Option.getD_some, true_and, hij, if_false, if_true]
    obtain ⟨u1, u2⟩ := h.unlink (by omega) hl
    rw [if_neg (by rw [u1]; simp)]
    have hen : (keysL (E 3)).Nodup := h.inv.enod 3 _ (h.nd 3 d3)
    have := u2.move (by omega) (k := k) (i := i) (by simpa using hi) (by simp [lk_rm hen])
    refine ⟨_, this, by simp, fun k' => ?_, by simp⟩
    simp only [if_true]
    rw [lk_up, lk_rm hen]
    cases e : (k' == k) <;> simp [e]
end Go.Wk

/- IN WHICH ORDER THINGS ARE MADE: the tree at the end. -/
namespace Go.Wk
open Go Go.HL
theorem sortN_perm (l : List ByteArray) : (sortN l).Perm l := by
  unfold sortN
  have h := (sortB_perm (l.map fun s => s.data.toList)).map fun x => (⟨⟨x⟩⟩ : ByteArray)
  have e : ((l.map fun s => s.data.toList).map fun x => (⟨⟨x⟩⟩ : ByteArray)) = l := by
    rw [List.map_map]
    conv => rhs; rw [← List.map_id l]
    apply List.map_congr_left
    intro s _
    rfl
  rw [e] at h
  exact h
theorem sortN_eq {l l' : List ByteArray} (h : l.Perm l') : sortN l = sortN l' := by
  unfold sortN
  have : sortB (l.map fun s => s.data.toList) = sortB (l'.map fun s => s.data.toList) := by
    refine List.Perm.eq_of_pairwise (le := (· ≤ ·)) ?_ (sortB_sorted _) (sortB_sorted _) (((sortB_perm _).trans (h.map _)).trans (sortB_perm _).symm)
    intro a b _ _ h1 h2; exact List.le_antisymm h1 h2
  rw [this]
theorem sortN_lt {l : List ByteArray} (h : l.Nodup) : (sortN l).Pairwise fun a b => ltB a b = true := by
  have h1 : (sortN l).Pairwise fun a b => a.data.toList ≤ b.data.toList := by
    unfold sortN
    rw [List.pairwise_map]
    exact (sortB_sorted _).imp fun h => h
  have h2 : (sortN l).Nodup := (sortN_perm l).nodup_iff.2 h
  have h3 := h1.and (show (sortN l).Pairwise (· ≠ ·) from h2)
  refine h3.imp ?_
  rintro a b ⟨q1, q2⟩
  unfold ltB
  cases hb : leB b.data.toList a.data.toList with
  | false => rfl
  | true =>
    exfalso; apply q2
    exact bytes_ext (List.le_antisymm q1 ((leB_iff _ _).1 hb))
def fileT (data k : ByteArray) : Tr := .mk k 1 false (data ++ k) []
def dirT (data : ByteArray) (es : List (ByteArray × Int)) : Tr := .mk ⟨⟨[]⟩⟩ 2 false ⟨⟨[]⟩⟩ ((sortN (keysL es)).map (fileT data))
theorem file_may (data : ByteArray) : ∀ (l : List ByteArray) (prev : Option ByteArray), l.Pairwise (fun a b => ltB a b = true) → (∀ k ∈ l, above prev k = true ∧ k ∈ six) → Tr.mayRow prev (l.map (fileT data)) = true := by
  intro l
  induction l with
  | nil => intro _ _ _; rfl
  | cons k r ih =>
    intro prev hp hk
    obtain ⟨p1, p2⟩ := List.pairwise_cons.1 hp
    obtain ⟨k1, k2⟩ := hk k (List.mem_cons_self ..)
    have h1 : mayName (fileT data k).name = true := (six_ok k2).mayN
    have h2 : (fileT data k).may = true := rfl
    have h3 : above prev (fileT data k).name = true := k1
    have h4 := ih (some k) p2 fun x hx => ⟨p1 x hx, (hk x (List.mem_cons_of_mem _ hx)).2⟩
    rw [List.map_cons, Tr.mayRow, h1, h2, h3]
    exact h4
theorem file_sums (data : ByteArray) (hd : data.size ≤ 60) : ∀ l : List ByteArray, (∀ k ∈ l, k ∈ six) → Tr.countRow (l.map (fileT data)) = l.length ∧ Tr.bytesRow (l.map (fileT data)) ≤ 63 * l.length ∧ Tr.totalRow (l.map (fileT data)) ≤ 70 * l.length := by
  intro l
  induction l with
  | nil => intro _; exact ⟨rfl, by simp [Tr.bytesRow], by simp [Tr.totalRow]⟩
  | cons k r ih =>
    intro h
    obtain ⟨i1, i2, i3⟩ := ih fun x hx => h x (List.mem_cons_of_mem _ hx)
    have hk := (six_ok (h k (List.mem_cons_self ..))).sz
    have hsz : (data ++ k).size = data.size + k.size := ByteArray.size_append
    simp only [List.map_cons, Tr.countRow, Tr.bytesRow, Tr.totalRow, List.length_cons]
    have c1 : (fileT data k).count = 1 := rfl
    have c2 : (fileT data k).bytes = (data ++ k).size := rfl
    have c3 : (fileT data k).total = 1 + k.size + (data ++ k).size := rfl
    refine ⟨by omega, by omega, by omega⟩
theorem dir_deep (data : ByteArray) (es : List (ByteArray × Int)) : (dirT data es).tooDeep = false := by
  have key : ∀ (l : List ByteArray) (d : Int), d ≤ 2 → (l.map (fileT data)).foldl (fun d x => gr d (1 + Tr.deep 13 x)) d ≤ 2 := by
    intro l
    induction l with
    | nil => intro d h; exact h
    | cons k r ih =>
      intro d h
      rw [List.map_cons, List.foldl_cons]
      refine ih _ ?_
      have : Tr.deep 13 (fileT data k) = 1 := rfl
      rw [this]
      unfold gr
      split <;> omega
  have h : (dirT data es).deep 14 ≤ 2 := by
    have hk : (dirT data es).kind = 2 := rfl
    have hc : ¬ ((dirT data es).kind ≠ 2 ∨ 13 = 0) := by rw [hk]; omega
    rw [Tr.deep, if_neg hc]
    exact key _ 1 (by omega)
  unfold Tr.tooDeep
  simp only [decide_eq_false_iff_not]; omega
variable {A : AT} {data : ByteArray} {E : Int → List (ByteArray × Int)} {m : Nat}
theorem Ords.keys (h : Ords data A E m) {d : Int} (hd : DD d) : (keysL (E d)).Nodup ∧ (∀ k ∈ keysL (E d), k ∈ six ∧ ∃ i, lk k (E d) = some i) ∧ (E d).length ≤ 10 + m := by
  refine ⟨h.inv.enod d _ (h.nd d hd), fun k hk => ?_, h.bd.ents d _ (h.nd d hd)⟩
  cases hl : lk k (E d) with
  | none => exact absurd hk (lk_none_iff.1 hl)
  | some i => exact ⟨(h.he d hd k i hl).1, i, rfl⟩
theorem Ords.may (h : Ords data A E m) {d : Int} (hd : DD d) : (dirT data (E d)).may = true := by
  obtain ⟨h1, h2, _⟩ := h.keys hd
  have := file_may data (sortN (keysL (E d))) none (sortN_lt h1) fun k hk => ⟨rfl, (h2 k ((sortN_perm _).mem_iff.1 hk)).1⟩
  rw [Tr.may_eq]
  show (if (2 : Int) = 1 then _ else if (2 : Int) = 3 then _ else if (2 : Int) = 2 then (!false && (sEq ⟨⟨[]⟩⟩ ⟨⟨[]⟩⟩ && Tr.mayRow none ((sortN (keysL (E d))).map (fileT data)))) else false) = true
  rw [if_neg (by decide), if_neg (by decide), if_pos rfl, this]
  rfl
theorem Ords.canon (h : Ords data A E m) (hm : m ≤ 40) (hdat : data.size ≤ 60) {c n : ByteArray} {d : Int} (hc : Top c n d) (h0 : hasNul c = false) (hz : c.size ≤ 2) : A.canonF c = (0, dirT data (E d)) ∧ A.take 300 c = (0, dirT data (E d)) ∧ (dirT data (E d)).total ≤ 10000 := by
  have hd := hc.isD
  obtain ⟨k1, k2, k3⟩ := h.keys hd
  have hf : A.find 1 n = some d := by rw [h.find1]; exact hc.lk
  have hp : PathTo A c d := ⟨hc.head, h0, by rw [hc.parts]; exact ⟨h.kind1, d, hf, rfl⟩, by
    rw [hc.parts]; intro x hx
    simp at hx; subst hx
    refine ⟨fun e => ?_, hc.sz⟩
    have := hc.dd
    rw [e] at this; exact absurd this (by decide +kernel)⟩
  have hk2 := h.kindD hd
  have hn := h.nd d hd
  have hsx : ∀ k ∈ sortN (keysL (E d)), k ∈ six ∧ ∃ i, lk k (E d) = some i := fun k hk => k2 k ((sortN_perm _).mem_iff.1 hk)
  have hrow : ∀ l : List ByteArray, (∀ k ∈ l, k ∈ six ∧ ∃ i, lk k (E d) = some i) → takeRow (AT.take A 299) c l = (0, l.map (fileT data)) := by
    intro l
    induction l with
    | nil => intro _; rfl
    | cons k r ih =>
      intro hl
      obtain ⟨q1, i, q2⟩ := hl k (List.mem_cons_self ..)
      obtain ⟨_, q3, q4⟩ := h.he d hd k i q2
      have s := six_ok q1
      have hs3 := s.sz
      have hks := kidP_size c k
      have hpk : PathTo A (kidP c k) i := hp.kid hk2 (by rw [h.find hd]; exact q2) s.mayN
      have hki := h.kindF hd q2
      have ht : A.take 299 (kidP c k) = (0, .mk ⟨⟨[]⟩⟩ 1 false (data ++ k) []) := by
        rw [AT.take]
        unfold AT.stat
        rw [with_at hpk (fun h => by cases h) (by omega) q4]
        simp only [ne_eq, not_true_eq_false, if_false]
        rw [if_neg (show ¬ (fl data k).inode.kind = 2 by show ¬ (1 : Int) = 2; decide)]
        have hx : xOf 1 420 = false := by decide +kernel
        show (0, Tr.mk ⟨⟨[]⟩⟩ 1 (xOf 1 420) (data ++ k) []) = _
        rw [hx]
      rw [takeRow, ht, ih fun x hx => hl x (List.mem_cons_of_mem _ hx)]
      rfl
  have ht : A.take 300 c = (0, dirT data (E d)) := by
    rw [AT.take]
    unfold AT.stat AT.listF
    rw [with_at hp (fun h => by cases h) (by omega) hn, with_at hp (fun _ => by rw [hk2]; decide) (by omega) hn]
    have hnm : A.names d = sortN (keysL (E d)) := by unfold AT.names; rw [hn]; rfl
    have h1 : (drN (E d)).inode.kind = 2 := rfl
    simp only [h1, ne_eq, not_true_eq_false, if_false, if_true, hnm, hrow _ hsx]
    rfl
  have hlen : (sortN (keysL (E d))).length = (E d).length := by rw [(sortN_perm _).length_eq]; simp [keysL]
  obtain ⟨s1, s2, s3⟩ := file_sums data hdat (sortN (keysL (E d))) fun k hk => (hsx k hk).1
  have c1 : (dirT data (E d)).count = 1 + Tr.countRow ((sortN (keysL (E d))).map (fileT data)) := Tr.count_eq _
  have c2 : (dirT data (E d)).bytes = 0 + Tr.bytesRow ((sortN (keysL (E d))).map (fileT data)) := Tr.bytes_eq _
  have c3 : (dirT data (E d)).total = 1 + 0 + 0 + Tr.totalRow ((sortN (keysL (E d))).map (fileT data)) := by simp only [dirT, Tr.total]; rfl
  have hch : (dirT data (E d)).check = 0 := check_of (dir_deep _ _) rfl (h.may hd) (by omega) (by omega)
  refine ⟨?_, ht, by omega⟩
  unfold AT.canonF
  rw [ht]
  simp only [ne_eq, not_true_eq_false, if_false, hch]
theorem Ords.alike (h : Ords data A E m) (he : ∀ k, (lk k (E 2)).isSome = (lk k (E 3)).isSome) : dirT data (E 2) = dirT data (E 3) := by
  have h2 := (h.keys (.inl rfl)).1
  have h3 := (h.keys (.inr (.inl rfl))).1
  have : (keysL (E 2)).Perm (keysL (E 3)) := by
    rw [List.perm_ext_iff_of_nodup h2 h3]
    intro k
    have hm : ∀ es : List (ByteArray × Int), k ∈ keysL es ↔ (lk k es).isSome = true := by
      intro es
      cases hl : lk k es with
      | none => simp [lk_none_iff.1 hl]
      | some i =>
        simp only [Option.isSome_some, iff_true]
        apply Classical.byContradiction
        intro hk; rw [lk_none_iff.2 hk] at hl; cases hl
    rw [hm, hm, he]
  unfold dirT
  rw [sortN_eq this]
/-- where it begins -/
def o0 : AT := newT 100 9000
def o1 : AT := (o0.mkdirF ⟨⟨[47]⟩⟩ pN).2
def o2 : AT := (o1.mkdirF ⟨⟨[47]⟩⟩ qN).2
def o3 : AT := (o2.mkdirF ⟨⟨[47]⟩⟩ rN).2
theorem o0_ok : Inv o0 ∧ Bd 1 o0 := newT_ok rfl
theorem o1_ok : OpOk 2 o0 (o0.mkdirF ⟨⟨[47]⟩⟩ pN) := mkdirF_ok o0_ok.1 o0_ok.2 (by decide) _ _
theorem o2_ok : OpOk 3 o1 (o1.mkdirF ⟨⟨[47]⟩⟩ qN) := mkdirF_ok o1_ok.inv o1_ok.bd (by decide) _ _
theorem o3_ok : OpOk 4 o2 (o2.mkdirF ⟨⟨[47]⟩⟩ rN) := mkdirF_ok o2_ok.inv o2_ok.bd (by decide) _ _
theorem o1_z : (o0.mkdirF ⟨⟨[47]⟩⟩ pN).1 = 0 := by decide +kernel
theorem o2_z : (o1.mkdirF ⟨⟨[47]⟩⟩ qN).1 = 0 := by decide +kernel
theorem o3_z : (o2.mkdirF ⟨⟨[47]⟩⟩ rN).1 = 0 := by decide +kernel
theorem o3_get1 : o3.get 1 = some ⟨2, 493, ⟨⟨[]⟩⟩, 1, 1, [(pN, 2), (qN, 3), (rN, 4)]⟩ := by kernel_rfl
theorem o3_get2 : o3.get 2 = some (drN []) := by kernel_rfl
theorem o3_get3 : o3.get 3 = some (drN []) := by kernel_rfl
theorem o3_get4 : o3.get 4 = some (drN []) := by kernel_rfl
theorem o3_num : o3.qi = 100 ∧ o3.qb = 9000 ∧ o3.ui = 4 ∧ o3.ub = 0 := by decide +kernel
theorem o3_ords (data : ByteArray) : Ords data o3 (fun _ => []) 0 := by
  obtain ⟨n1, n2, n3, n4⟩ := o3_num
  refine ⟨o3_ok.inv, (show Bd 4 o3 from o3_ok.bd).mono (by omega), o3_get1, ?_, ?_, ?_, n1, n2, by omega, by omega⟩
  · rintro d (rfl | rfl | rfl)
    · exact o3_get2
    · exact o3_get3
    · exact o3_get4
  · intro d _ k i h; simp [lk] at h
  · intro d d' k k' i _ _ h; simp [lk] at h
theorem top_p : Top ⟨⟨[47, 112]⟩⟩ pN 2 := ⟨by decide +kernel, by decide +kernel, by decide +kernel, by decide +kernel, by decide +kernel, by decide +kernel, .inl rfl⟩
theorem top_q : Top ⟨⟨[47, 113]⟩⟩ qN 3 := ⟨by decide +kernel, by decide +kernel, by decide +kernel, by decide +kernel, by decide +kernel, by decide +kernel, .inr (.inl rfl)⟩
theorem top_r : Top ⟨⟨[47, 114]⟩⟩ rN 4 := ⟨by decide +kernel, by decide +kernel, by decide +kernel, by decide +kernel, by decide +kernel, by decide +kernel, .inr (.inr rfl)⟩
end Go.Wk

/- CanonOrder: the walk. -/
set_option maxRecDepth 100000
namespace Go.Proofs.YtlpcehbfoogejaaGreatDoor
open Go Go.HL Go.Wk
attribute [local irreducible] ptrW ifW brW andW rdT alW letJ stW muW biW vaW imW callT cvalT app callW invW callVW sizeT oW nilF oneK loopW rfW funW begW roundK exW idxW Gr Put
attribute [local irreducible] bothW
theorem sz_six : sizeT Tryz.prog 59 = some 6 := by kernel_rfl
def nm (x : Int) : ByteArray := six.getD (Int.tmod x 6).toNat ⟨⟨[]⟩⟩
theorem nm_at {x : Int} (h : 0 ≤ x ∧ x ≤ 255) : nm x ∈ six ∧ (0 ≤ Int.tmod x 6 ∧ Int.tmod x 6 < ((6 : Nat) : Int)) ∧ ([.string ⟨⟨[97]⟩⟩, .string ⟨⟨[98]⟩⟩, .string ⟨⟨[99]⟩⟩, .string ⟨⟨[66]⟩⟩, .string ⟨⟨[97, 46, 98]⟩⟩, .string ⟨⟨[122]⟩⟩] : List Value)[0 + (Int.tmod x 6 : Int).toNat * 1]? = some (.string (nm x)) := by
  have e : Int.tmod x 6 = x % 6 := Int.tmod_eq_emod_of_nonneg h.1
  unfold nm
  rw [e]
  have h6 : (x % 6).toNat < 6 := by omega
  refine ⟨?_, by omega, ?_⟩
  · generalize (x % 6).toNat = t at h6
    match t, h6 with
    | 0, _ => simp [six]
    | 1, _ => simp [six]
    | 2, _ => simp [six]
    | 3, _ => simp [six]
    | 4, _ => simp [six]
    | 5, _ => simp [six]
  · generalize (x % 6).toNat = t at h6
    match t, h6 with
    | 0, _ => rfl
    | 1, _ => rfl
    | 2, _ => rfl
    | 3, _ => rfl
    | 4, _ => rfl
    | 5, _ => rfl
theorem rows1_at {σ : H} {ns : List Int} {x : Sl} (h : RowsAt σ 1 (ns.map fun n => [Value.int .u8 n]) x) {i : Nat} {n : Int} (hi : ns[i]? = some n) : ∃ g o, x.base = some ⟨g, o, none⟩ ∧ rdC g (o + i * 1) σ = some (.int .u8 n) := by
  obtain ⟨h1, h2 | ⟨g, o, cur, t, fz, h2, h3, h4⟩⟩ := h
  · have : ns = [] := by simpa using h2
    rw [this] at hi; simp at hi
  · refine ⟨g, o, h2, rdC_of h3 ?_⟩
    obtain ⟨_, h5⟩ := h4 i [.int .u8 n] (by simp [hi])
    have : ((cur.drop (o + i * 1)).take 1)[0]? = some (.int .u8 n) := by rw [h5]; rfl
    rw [List.getElem?_take] at this
    simpa using this
theorem in_eq (a : UInt8) (k : ByteArray) : (⟨⟨[a, 47]⟩⟩ : ByteArray) ++ k = inDir ⟨⟨[a]⟩⟩ k := by
  apply bytes_ext
  simp [inDir]
def lists (L : List ByteArray) (es : List (ByteArray × Int)) : Prop := ∀ k, (lk k es).isSome = L.any fun x => k == x
theorem lists_snoc {L : List ByteArray} {es es' : List (ByteArray × Int)} {k : ByteArray} (h : lists L es) (h' : ∀ k', (lk k' es').isSome = ((k' == k) || (lk k' es).isSome)) : lists (L ++ [k]) es' := by
  intro k'
  rw [h', h k', List.any_append]
  simp [Bool.or_comm]
theorem s_CanonOrder {σ : H} (x : Sl) (ns : List Int) (hx : RowsAt σ 1 (ns.map fun n => [Value.int .u8 n]) x) (hr : ∀ n ∈ ns, (0 : Int) ≤ n ∧ n ≤ 255) (dat : ByteArray) {K : Value → H → Prop} (hK : ∀ σ', Gr σ σ' → K (.bool true) σ') :
    callW Tryz.prog 9 [.slice x.base x.len x.cap, .string dat] K σ := by
  refine c9 _ _ ?_
  unfold g9
  refine call_i (s_works10 (app_B (br_f rfl ?_)))
  have e60 : (if 60 < ((dat.size : Nat) : Int) then (60 : Int) else ((dat.size : Nat) : Int)).toNat = min dat.size 60 := by split <;> omega
  rw [e60]
  refine if_i ⟨bnd_some (by split <;> omega) (by split <;> omega), bnd_none⟩ ?_
  have hd : (dat.extract 0 (min dat.size 60)).size ≤ 60 := tk_size 60 dat
  generalize dat.extract 0 (min dat.size 60) = d at hd ⊢
  refine call_i (s_New 100 9000 (fun h => by cases h) ?_)
  intro _ bf σ1 B1 F1 g1 hf1
  have O1 := Off.new g1 hf1
  refine app_P ?_
  refine j_i (fun j => ∀ σ2 B2, FsAt σ2 bf o3 B2 → Off σ σ2 B2 → j x d (some ⟨bf, 0, none⟩) false σ2) ?_ ?_
  case refine_2 =>
    intro j hj
    refine br_f rfl (k_Mkdir (A := o0) o0_ok.1 o0_ok.2 (by decide) F1 o1_z ?_); intro σ2 B2 F2 S2
    refine br_f rfl (k_Mkdir (A := o1) o1_ok.inv o1_ok.bd (by decide) F2 o2_z ?_); intro σ3 B3 F3 S3
    refine br_f rfl (k_Mkdir (A := o2) o2_ok.inv o2_ok.bd (by decide) F3 o3_z ?_); intro σ4 B4 F4 S4
    exact hj σ4 B4 F4 (((O1.sep S2).sep S3).sep S4)
  intro σ2 B2 F2 O2
  refine br_f rfl (al_i ?_); intro b10 σ3 g3 e3 n3
  refine st_i2 e3 sz_six (by rfl) (by rfl) ?_; intro σ4 p4
  have hg4 : Gr σ2 σ4 := g3.putF p4 n3
  have k10 : σ4 b10 = some (.cells ⟨[.string ⟨⟨[97]⟩⟩, .string ⟨⟨[98]⟩⟩, .string ⟨⟨[99]⟩⟩, .string ⟨⟨[66]⟩⟩, .string ⟨⟨[97, 46, 98]⟩⟩, .string ⟨⟨[122]⟩⟩]⟩ 59 (0, 0)) := p4.same
  have F4 := F2.gr hg4
  have O4 := O2.gr hg4
  have nB : ¬ B2 b10 := F2.fresh n3
  have O4' : Off σ4 σ4 B2 → True := fun _ => trivial
  clear O4' p4 e3
  have hlen : x.len = ns.length := by have := hx.1; simpa using this
  obtain ⟨n, hn, hn10, hnl⟩ : ∃ n : Nat, (if 10 < ((x.len : Nat) : Int) then (10 : Int) else ((x.len : Nat) : Int)) = (n : Int) ∧ n ≤ 10 ∧ n ≤ ns.length := by
    by_cases h : 10 < ((x.len : Nat) : Int)
    · exact ⟨10, by rw [if_pos h]; rfl, by omega, by omega⟩
    · exact ⟨x.len, by rw [if_neg h], by omega, by omega⟩
  refine loop_i ?_
  intro R hR
  rw [hn]
  generalize hL : (ns.take n).map nm = L
  have hLl : L.length = n := by rw [← hL]; simp; omega
  have hLi : ∀ i a, i < n → ns[i]? = some a → L[i]? = some (nm a) := by
    intro i a hi ha
    rw [← hL, List.getElem?_map, List.getElem?_take, if_pos hi, ha]; rfl
  have key : ∀ (c i : Nat) (A : AT) (E : Int → List (ByteArray × Int)) (τ : H) (B : Nat → Prop), c + i = n → Ords d A E (3 * i) → (∀ k, lk k (E 4) = none) → lists (L.take i) (E 2) → lists (L.reverse.take i) (E 3) → FsAt τ bf A B → Off σ τ B → τ b10 = some (.cells ⟨[.string ⟨⟨[97]⟩⟩, .string ⟨⟨[98]⟩⟩, .string ⟨⟨[99]⟩⟩, .string ⟨⟨[66]⟩⟩, .string ⟨⟨[97, 46, 98]⟩⟩, .string ⟨⟨[122]⟩⟩]⟩ 59 (0, 0)) → ¬ B b10 →
      R x d (some ⟨bf, 0, none⟩) (some ⟨b10, 0, none⟩) (n : Int) (i : Int) τ := by
    intro c
    induction c with
    | zero =>
      intro i A E τ B hc hO h4 l2 l3 hF hOf k10 nB
      have hi : i = n := by omega
      subst hi
      refine hR _ _ _ _ _ _ _ ?_
      refine br_f (by simp only [decide_eq_false_iff_not]; omega) ?_
      have hal : dirT d (E 2) = dirT d (E 3) := hO.alike fun k => by
        rw [l2 k, l3 k, ← hLl, List.take_length]
        have : L.reverse.take L.length = L.reverse := by rw [← List.length_reverse, List.take_length]
        rw [this, List.any_reverse]
      obtain ⟨c1, c2, c3⟩ := hO.canon (by omega) hd top_p (by decide +kernel) (by decide +kernel)
      obtain ⟨q1, q2, q3⟩ := hO.canon (by omega) hd top_q (by decide +kernel) (by decide +kernel)
      refine k_Of hO.inv hO.bd (by omega) hF (by decide) c1 (fun _ => by rw [c2]; exact Nat.le_trans c3 (by decide)) ?_
      intro b22 y1 τ4 ρ1 g4 n4 e4 r4 _ _ hs1
      refine k_Of hO.inv hO.bd (by omega) (hF.gr g4) (by decide) q1 (fun _ => by rw [q2]; exact Nat.le_trans q3 (by decide)) ?_
      intro b29 y2 τ5 ρ2 g5 n5 e5 r5 _ _ hs2
      have k22 := g5.get e4
      unfold trC at k22 e5
      refine br_t rfl (br_t rfl (rd_G (rdA_of' k22 (by rfl)) ?_))
      (refine app_of rfl ?_; try dsimp only)
      refine rd_G (rdA_of' e5 (by rfl)) ?_
      (refine app_of rfl ?_; try dsimp only)
      refine call_i (s_Same (dirT d (E 2)) y1 (dirT d (E 3)) y2 (hs1.gr (r4.trans g5)) (hs2.gr r5) (Nat.le_trans c3 (by decide)) (Nat.le_trans q3 (by decide)) ?_)
      rw [hal, same_refl _ (dir_deep _ _) (hO.may (.inr (.inl rfl)))]
      exact app_B (hK τ5 ((hOf.1.trans g4).trans g5))
    | succ c ih =>
      intro i A E τ B hc hO h4 l2 l3 hF hOf k10 nB
      refine hR _ _ _ _ _ _ _ ?_
      refine br_t (by simp only [decide_eq_true_eq]; omega) ?_
      have hxt : RowsAt τ 1 (ns.map fun n => [Value.int .u8 n]) x := hx.gr hOf.1
      obtain ⟨a1, ha1⟩ : ∃ a, ns[i]? = some a := ⟨_, List.getElem?_eq_getElem (by omega)⟩
      obtain ⟨a2, ha2⟩ : ∃ a, ns[n - 1 - i]? = some a := ⟨_, List.getElem?_eq_getElem (by omega)⟩
      obtain ⟨v1, v2, v3⟩ := nm_at (hr a1 (List.mem_of_getElem? ha1))
      obtain ⟨w1, w2, w3⟩ := nm_at (hr a2 (List.mem_of_getElem? ha2))
      have hL1 := hLi i a1 (by omega) ha1
      have hL2 := hLi (n - 1 - i) a2 (by omega) ha2
      obtain ⟨g, o, hbs, hrd⟩ := rows1_at hxt ha1
      have hrd' : rdC g (o + (i : Int).toNat * 1) τ = some (.int .u8 a1) := by simpa using hrd
      have hil : (0 : Int) ≤ (i : Int) ∧ (i : Int) < ((x.len : Nat) : Int) := ⟨by omega, by omega⟩
      have s1 := (six_ok v1).sz
      have s2 := (six_ok w1).sz
      have hb2 : ∀ {τ' : H}, RowsAt τ' 1 (ns.map fun n => [Value.int .u8 n]) x → rdC g (o + (((n - 1 - i : Nat) : Int)).toNat * 1) τ' = some (.int .u8 a2) := by
        intro τ' h
        obtain ⟨g', o', hbs', hrd2⟩ := rows1_at h ha2
        rw [hbs] at hbs'
        injection hbs' with hbs'
        injection hbs' with e1 e2
        rw [e1, e2]; simpa using hrd2
      rw [hbs]
      refine ptr_i (if_i hil (rd_I hrd' (if_i (by decide) (ptr_i (if_i v2 (rd_S (rdC_of k10 v3) ?_))))))
      refine ptr_i (if_i hil (rd_I hrd' (if_i (by decide) (ptr_i (if_i v2 (rd_S (rdC_of k10 v3) ?_))))))
      refine if_i (by omega) ?_
      obtain ⟨E1, hO1, f1, f2⟩ := hO.write (by omega) top_p v1 hd
      refine call_i (s_Write hO.inv hO.bd (by omega) hF _ _ _ _ (by rw [ByteArray.size_append]; omega) ?_)
      intro τ1 B1 F1 S1
      have hOf1 := hOf.sep S1
      obtain ⟨k10, nB⟩ := S1 _ _ k10 nB
      refine app_I ?_
      have ew : IntKind.i64.wrap (IntKind.i64.wrap ((n : Int) - 1) - (i : Int)) = ((n - 1 - i : Nat) : Int) := by
        rw [wrap_id (x := (n : Int) - 1) (by omega) (by omega), wrap_id (by omega) (by omega)]; omega
      rw [ew]
      refine ptr_i (if_i ⟨by omega, by omega⟩ (rd_I (hb2 (hx.gr hOf1.1)) (if_i (by decide) (ptr_i (if_i w2 (rd_S (rdC_of k10 w3) ?_))))))
      refine if_i (by omega) ?_
      obtain ⟨E2, hO2, t1, t2⟩ := hO1.write (by omega) top_r w1 hd
      refine call_i (s_Write hO1.inv hO1.bd (by omega) F1 _ _ _ _ (by rw [ByteArray.size_append]; omega) ?_)
      intro τ2 B2 F2 S2
      have hOf2 := hOf1.sep S2
      obtain ⟨k10, nB⟩ := S2 _ _ k10 nB
      refine app_I ?_
      refine if_i (by show 2 + _ ≤ _; omega) (if_i (by show 2 + _ ≤ _; omega) ?_)
      rw [in_eq, in_eq]
      have hE14 : ∀ k, lk k (E1 4) = none := by intro k; rw [f1 4 (by decide)]; exact h4 k
      obtain ⟨i4, hi4⟩ : ∃ i4, lk (nm a2) (E2 4) = some i4 := Option.isSome_iff_exists.1 (by rw [t2]; simp)
      obtain ⟨E3, hO3, u1, u2, u3⟩ := hO2.rename (by omega) hi4
      refine call_i (s_Rename hO2.inv hO2.bd (by omega) F2 _ _ _ ?_)
      intro τ3 B3 F3 S3
      have hOf3 := hOf2.sep S3
      obtain ⟨k10, nB⟩ := S3 _ _ k10 nB
      refine app_I ?_
      rw [wrap_id (x := (i : Int) + 1) (by omega) (by omega)]
      refine ih (i + 1) _ E3 τ3 B3 (by omega) (by have := hO3; rwa [show 3 * i + 1 + 1 + 1 = 3 * (i + 1) from by omega] at this) ?_ ?_ ?_ F3 hOf3 k10 nB
      · intro k
        have hen : (keysL (E2 4)).Nodup := hO2.inv.enod 4 _ (hO2.nd 4 (.inr (.inr rfl)))
        rw [u3, lk_rm hen]
        by_cases e : k = nm a2
        · simp [e]
        · have e' : (k == nm a2) = false := by simpa using e
          rw [e']
          have := t2 k
          rw [e', hE14 k] at this
          simp only [Bool.false_eq_true, if_false]
          cases hl : lk k (E2 4) with
          | none => rfl
          | some z => rw [hl] at this; simp at this
      · rw [List.take_add_one, hL1, u1, t1 2 (by decide)]
        exact lists_snoc l2 f2
      · have hrv : L.reverse[i]? = some (nm a2) := by
          rw [List.getElem?_reverse (by omega), hLl]; exact hL2
        rw [List.take_add_one, hrv]
        have l3' : lists (L.reverse.take i) (E2 3) := by rw [t1 3 (by decide), f1 3 (by decide)]; exact l3
        exact lists_snoc l3' u2
  exact key n 0 o3 (fun _ => []) σ4 B2 (by omega) (o3_ords d) (fun _ => rfl) (fun _ => by simp [lk]) (fun _ => by simp [lk]) F4 O4 k10 nB
end Go.Proofs.YtlpcehbfoogejaaGreatDoor

