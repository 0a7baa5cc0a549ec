/- A part of the proof: Of a mode only that some x bit is there tells in the tree, and other entries of a file tell nothing: true for all data and modes. -/
import Derived.Test.YtlpcehbfoogejaaGreatDoorMay
/- TREES: are two alike? A suffix is trimmed. -/
set_option maxRecDepth 100000
namespace Go.Proofs.YtlpcehbfoogejaaGreatDoor
open Go Go.HL Go.Wk
attribute [local irreducible] ptrW ifW brW andW rdT alW letJ stW muW biW vaW imW callT cvalT app callW invW callVW sizeT oW nilF oneK loopW rfW funW begW roundK exW idxW Gr Put
attribute [local irreducible] bothW
theorem trimL_snoc : ∀ q : List UInt8, trimL (q ++ [47]) = q := by
  intro q
  induction q with
  | nil => rfl
  | cons x r ih =>
    cases r with
    | nil => rfl
    | cons y r => rw [List.cons_append, List.cons_append, trimL, ← List.cons_append, ih]
theorem trimL_id : ∀ l : List UInt8, (∀ q, l ≠ q ++ [47]) → trimL l = l := by
  intro l h
  rcases trimL_cases l with e | e
  · exact e
  · exact absurd e (h _)
theorem x_Trim (s : ByteArray) (hs : s.size ≤ 1000000000) {σ : H} {K : Value → H → Prop} (hK : K (.string (trimS s)) σ) : callW Tryz.prog 176 [.string s, .string ⟨⟨[47]⟩⟩] K σ := by
  have q1 : (⟨⟨[47]⟩⟩ : ByteArray).size = 1 := rfl
  have hls := size_list s
  refine c176 _ _ ?_
  unfold g176
  refine call_i (c195 _ _ ?_)
  unfold g195
  refine call_i (c218 _ _ ?_)
  unfold g218
  have w : ∀ n : Nat, n ≤ 1000000000 → IntKind.i64.wrap (((n : Nat) : Int) - ((1 : Nat) : Int)) = (n : Int) - 1 := fun n hn => wrap_id (by omega) (by omega)
  rw [q1, w s.size hs]
  by_cases h : 1 ≤ s.size
  · have e : ((s.size : Int) - 1).toNat = s.size - 1 := by omega
    refine br_t (by simp only [decide_eq_true_eq]; omega) (if_i ⟨bnd_none, bnd_some (by omega) (by omega)⟩ (app_B ?_))
    rw [e]
    have he : strEq (s.extract (s.size - 1) s.size) ⟨⟨[47]⟩⟩ = (s.data.toList.drop (s.size - 1) == [47]) := by
      unfold strEq
      rw [ByteArray.toList_eq, ByteArray.toList_eq, extract_toList]
      rw [hls, List.take_length]
    rw [he]
    cases hd : (s.data.toList.drop (s.size - 1) == [47]) with
    | true =>
      have hd := eq_of_beq hd
      have hq : s.data.toList = s.data.toList.take (s.size - 1) ++ [47] := by
        have := List.take_append_drop (s.size - 1) s.data.toList
        rw [hd] at this; exact this.symm
      refine br_t rfl (if_i ⟨bnd_some (by omega) (by omega), bnd_none⟩ (app_S ?_))
      have : trimS s = s.extract 0 (s.size - 1) := by
        refine bytes_ext ?_
        rw [trimS_data, extract_toList, List.drop_zero]
        generalize List.take (s.size - 1) s.data.toList = q at hq
        rw [hq, trimL_snoc]
      rw [this] at hK; exact hK
    | false =>
      refine br_f rfl (app_S ?_)
      have : trimS s = s := by
        refine bytes_ext ?_
        rw [trimS_data]
        refine trimL_id _ fun q hq => ?_
        have h2 : s.data.toList.drop (s.size - 1) = [47] := by
          rw [hls, hq]
          simp
        rw [h2] at hd; cases hd
      rw [this] at hK; exact hK
  · refine br_f (by simp only [decide_eq_false_iff_not]; omega) (app_B (br_f rfl (app_S ?_)))
    have : s.data.toList = [] := List.eq_nil_of_length_eq_zero (by omega)
    have : trimS s = s := by refine bytes_ext ?_; rw [trimS_data, this]; rfl
    rw [this] at hK; exact hK
theorem go_Same : isGo Tryz.prog 28 = true := by kernel_rfl
theorem x_EqF {σ : H} {ts us : List Tr} {y z : Sl} (hs : SlAt σ ts y) (hz : SlAt σ us z) (hl : ts.length ≤ 1000000000000000)
    (ih : ∀ x ∈ ts, ∀ v ∈ us, ∀ (y z : Sl) (σ' : H), SlAt σ' x.kids y → SlAt σ' v.kids z → ∀ {K : Value → H → Prop}, K (.bool (x.same v)) σ' → callW Tryz.prog 28 [.agg ⟨trC x y⟩, .agg ⟨trC v z⟩] K σ')
    {K : Value → H → Prop} (hK : K (.bool (Nat.beq ts.length us.length && Tr.sameRow ts us)) σ) : callW Tryz.prog 77 [.slice y.base y.len y.cap, .slice z.base z.len z.cap, .func (.func 28) ⟨[]⟩ ⟨[]⟩] K σ := by
  have hlt := hs.1
  have hlu := hz.1
  refine pure_i _ hK (c77 _ _ _ ?_)
  clear hK
  unfold g77
  by_cases hne : ts.length = us.length
  case neg =>
    refine br_t (by simp only [bne_iff_ne, ne_eq]; omega) ⟨?_, Gr.refl _⟩
    have : Nat.beq ts.length us.length = false := by rw [← Bool.not_eq_true]; intro h; exact hne (Nat.eq_of_beq_eq_true h)
    rw [this]; rfl
  have e0 : Nat.beq ts.length us.length = true := by rw [hne]; exact Nat.beq_refl _
  rw [e0, Bool.true_and]
  refine br_f (by simp only [bne_eq_false_iff_eq]; omega) (loop_i ?_)
  intro R hR
  have key : ∀ (l m : List Tr) (i : Nat) (τ : H), ts.drop i = l → us.drop i = m → Gr σ τ → Tr.sameRow ts us = Tr.sameRow l m → R z (.func (.func 28) ⟨[]⟩ ⟨[]⟩) y ((y.len : Nat) : Int) (i : Int) τ := by
    intro l
    induction l with
    | nil =>
      intro m i τ hd hm hg he
      have hge : ts.length ≤ i := by simpa using hd
      refine hR _ _ _ _ _ _ ?_
      refine br_f (by rw [hs.1]; simp only [decide_eq_false_iff_not]; omega) ⟨?_, hg⟩
      rw [he]; rfl
    | cons x r ihl =>
      intro m i τ hd hm hg he
      obtain ⟨hx, hlt', hd'⟩ := drop_get hd
      obtain ⟨v, s, rfl⟩ : ∃ v s, m = v :: s := by
        cases m with
        | nil => have : us.length ≤ i := by simpa using hm
                 omega
        | cons v s => exact ⟨v, s, rfl⟩
      obtain ⟨hv, hlt2, hm'⟩ := drop_get hm
      obtain ⟨g, o, a, hb, hrd, ha⟩ := kid_rd (hs.gr hg) hx
      obtain ⟨g', o', a', hb', hrd', ha'⟩ := kid_rd (hz.gr hg) hv
      refine hR _ _ _ _ _ _ ?_
      refine br_t (by rw [hs.1]; simp only [decide_eq_true_eq]; omega) ?_
      rw [hb]
      refine ptr_i (if_i ⟨by omega, by rw [hs.1]; omega⟩ ?_)
      have hrd1 : rdA 5 g (o + (i : Int).toNat * 5) τ = some (.agg ⟨trC x a⟩) := by simpa using hrd
      refine rd_G hrd1 ?_
      unfold trC
      (refine app_of rfl ?_; try dsimp only)
      refine al_i ?_; intro b17 τ1 g1 e1 n1
      refine st_i2 e1 sz_Node (by rfl) (by rfl) ?_; intro τ2 p2
      have hg2 : Gr τ τ2 := g1.putF p2 n1
      rw [hb']
      refine ptr_i (if_i ⟨by omega, by rw [hz.1]; omega⟩ ?_)
      have hrd2 : rdA 5 g' (o' + (i : Int).toNat * 5) τ2 = some (.agg ⟨trC v a'⟩) := by have := rdA_gr hg2 hrd'; simpa using this
      refine rd_G hrd2 ?_
      unfold trC
      (refine app_of rfl ?_; try dsimp only)
      refine al_i ?_; intro b25 τ3 g3 e3 n3
      have n1725 : b17 ≠ b25 := ne_fr n3 (isSome_of p2.same)
      refine st_i2 e3 sz_Node (by rfl) (by rfl) ?_; intro τ4 p4
      have hg4 : Gr τ τ4 := hg2.trans (g3.putF p4 n3)
      refine rd_G (rdA_of' (p4.get n1725 (g3.get p2.same)) (by rfl)) ?_
      (refine app_of rfl ?_; try dsimp only)
      refine rd_G (rdA_of' p4.same (by rfl)) ?_
      (refine app_of rfl ?_; try dsimp only)
      refine cval_i go_Same (ih x (List.mem_of_getElem? hx) v (List.mem_of_getElem? hv) a a' τ4 (ha.gr hg4) (ha'.gr hg4) (app_B ?_))
      rw [Tr.sameRow] at he
      cases hsm : x.same v with
      | false =>
        refine br_t rfl ⟨?_, hg.trans hg4⟩
        rw [he, hsm]; rfl
      | true =>
        refine br_f rfl ?_
        rw [wrap_id (x := (i : Int) + 1) (by omega) (by omega)]
        refine ihl s (i + 1) τ4 hd' hm' (hg.trans hg4) ?_
        rw [he, hsm]; rfl
  exact key ts us 0 σ rfl rfl (Gr.refl _) rfl
/-- Same -/
theorem s_Same : ∀ (t : Tr) (y : Sl) (u : Tr) (z : Sl) {σ : H}, SlAt σ t.kids y → SlAt σ u.kids z → t.total ≤ 1000000000000000 → u.total ≤ 1000000000000000 → ∀ {K : Value → H → Prop}, K (.bool (t.same u)) σ → callW Tryz.prog 28 [.agg ⟨trC t y⟩, .agg ⟨trC u z⟩] K σ := by
  refine Tr.ind (P := fun t => ∀ (y : Sl) (u : Tr) (z : Sl) {σ : H}, SlAt σ t.kids y → SlAt σ u.kids z → t.total ≤ 1000000000000000 → u.total ≤ 1000000000000000 → ∀ {K : Value → H → Prop}, K (.bool (t.same u)) σ → callW Tryz.prog 28 [.agg ⟨trC t y⟩, .agg ⟨trC u z⟩] K σ) ?_
  intro t ih y u z σ hs hz hT hU K hK
  refine pure_i _ hK (c28 _ _ _ _ _ _ _ _ _ _ ?_)
  clear hK
  unfold g28
  refine al_i ?_; intro b11 σ1 g1 e1 n1
  refine al_i ?_; intro b12 σ2 g2 e2 n2
  have k11 := g2.get e1
  have hg : Gr σ σ2 := g1.trans g2
  rw [Tr.same_eq]
  refine j_i (fun j => ∀ b : Bool, b = (t.tooDeep || u.tooDeep) → j (some ⟨b11, 0, none⟩) (some ⟨b12, 0, none⟩) b σ2) ?_ ?_
  case refine_2 =>
    intro j hj
    refine rd_G (rdA_of' k11 (by rfl)) ?_
    (refine app_of rfl ?_; try dsimp only)
    refine call_i (s_tooDeep t y (hs.gr hg) hT (app_B ?_))
    cases h : t.tooDeep with
    | true => exact br_t rfl (hj true (by rw [h]; rfl))
    | false =>
      refine br_f rfl (rd_G (rdA_of' e2 (by rfl)) ?_)
      (refine app_of rfl ?_; try dsimp only)
      exact call_i (s_tooDeep u z (hz.gr hg) hU (app_B (hj _ (by rw [h]; rfl))))
  intro b hb
  cases b with
  | true =>
    refine br_t rfl ⟨?_, hg⟩
    have : (!t.tooDeep && !u.tooDeep) = false := by rw [← Bool.not_or, ← hb]; rfl
    rw [← Bool.and_assoc, this]; rfl
  | false =>
    have h2 : t.tooDeep = false ∧ u.tooDeep = false := by rw [← Bool.or_eq_false_iff]; exact hb.symm
    rw [h2.1, h2.2]
    refine br_f rfl (ptr_i (rd_S (rdC_of k11 (by rfl)) (ptr_i (rd_S (rdC_of e2 (by rfl)) ?_))))
    rw [← sEq_eq]
    cases c1 : sEq t.name u.name with
    | false => exact br_f rfl ⟨rfl, hg⟩
    | true =>
      refine br_t rfl (ptr_i (rd_I (rdC_of k11 (by rfl)) (ptr_i (rd_I (rdC_of e2 (by rfl)) ?_))))
      cases c2 : (t.kind == u.kind) with
      | false => exact br_f rfl ⟨rfl, hg⟩
      | true =>
        refine br_t rfl (ptr_i (rd_B (rdC_of k11 (by rfl)) (ptr_i (rd_B (rdC_of e2 (by rfl)) ?_))))
        cases c3 : (t.exec == u.exec) with
        | false => exact br_f rfl ⟨rfl, hg⟩
        | true =>
          refine br_t rfl (ptr_i (rd_S (rdC_of k11 (by rfl)) (ptr_i (rd_S (rdC_of e2 (by rfl)) ?_))))
          rw [← sEq_eq]
          cases c4 : sEq t.data u.data with
          | false => exact br_f rfl ⟨rfl, hg⟩
          | true =>
            refine br_t rfl (ptr_i (rd_L (rdC_of k11 (by rfl)) (ptr_i (rd_L (rdC_of e2 (by rfl)) ?_))))
            have := kids_total t
            refine call_i (x_EqF (hs.gr hg) (hz.gr hg) (by omega) ?_ (app_B ⟨rfl, hg⟩))
            intro x hx v hv y' z' σ' h1 h2 K' hK'
            exact ih x hx y' v z' h1 h2 (by have := Tr.total_kid hx; omega) (by have := Tr.total_kid hv; omega) hK'
end Go.Proofs.YtlpcehbfoogejaaGreatDoor

/- WHAT LIES SOMEWHERE, as a tree: the walk. -/
set_option maxRecDepth 100000
namespace Go.Proofs.YtlpcehbfoogejaaGreatDoor
open Go Go.HL Go.Wk
theorem app_okRB {σ : H} {v : Value} {b : Bool} {F : Value → Bool → H → Prop} (h : F v b σ) : app (.tup [.sc .raw, .sc .bool]) F (okV true v b) σ := h
attribute [local irreducible] ptrW ifW brW andW rdT alW letJ stW muW biW vaW imW callT cvalT app callW invW callVW sizeT oW nilF oneK loopW rfW funW begW roundK exW idxW Gr Put
attribute [local irreducible] bothW
theorem go_cAt1 : isGo Tryz.prog 125 = true := by kernel_rfl
theorem go_cAt2 : isGo Tryz.prog 126 = true := by kernel_rfl
theorem go_cKids1 : isGo Tryz.prog 175 = true := by kernel_rfl
theorem und_MIF : Tryz.prog.underlying 165 = some (.map 3 148) := by kernel_rfl
theorem stat_long {A : AT} (hI : Inv A) {path : ByteArray} (h : 256 ≤ path.size) : A.stat ⟨⟨[47]⟩⟩ path false = (3, IN.z) := by
  have hne : sEq path ⟨⟨[]⟩⟩ = false := by
    refine sEq_false ?_
    intro e; rw [e] at h; exact absurd h (by decide)
  have hm : mayE path = 3 := by unfold mayE; rw [hne]; simp; omega
  have hw : ∀ d, A.walk 10 d path false 8 = (3, Pl.z, 8) := by intro d; rw [AT.walk, hm]; simp
  unfold AT.stat AT.with_ AT.locate
  rw [hne]
  cases hh : headIs 47 path with
  | true => rw [hw]; simp
  | false =>
    have hr : A.walk 10 1 ⟨⟨[47]⟩⟩ true 8 = (0, ⟨1, ⟨⟨[]⟩⟩, 1, true⟩, 8) := by
      rw [AT.walk]
      have : mayE ⟨⟨[47]⟩⟩ = 0 := by decide +kernel
      rw [this]
      have h2 : headIs 47 ⟨⟨[47]⟩⟩ = true := by decide +kernel
      have h3 : partsB ⟨⟨[47]⟩⟩ = [] := by decide +kernel
      rw [h2, h3]
      simp [AT.steps]
    have hk : A.kind 1 = 2 := dir_kind hI.root_dir
    have h2 : headIs 47 ⟨⟨[47]⟩⟩ = true := by decide +kernel
    rw [h2, hr]
    simp only [hk]
    rw [hw]; simp
/-- at -/
theorem s_at {A : AT} {N : Nat} {bf : Nat} {B : Nat → Prop} (hI : Inv A) (hB : Bd N A) (hN : N ≤ 1000000000) : ∀ (f : Nat) (path : ByteArray), 256 ≤ f + path.size → path.size ≤ 100000 → ∀ {σ : H}, FsAt σ bf A B → ∀ {K : Value → H → Prop},
    (∀ t y σ' ρ, Gr σ σ' → Gr ρ σ' → (∀ b, σ b ≠ none → ρ b = none) → ((A.take f path).1 = 0 → t = (A.take f path).2 ∧ SlAt ρ t.kids y) → K (.tuple ⟨[.agg ⟨trC t y⟩, .int .i64 (A.take f path).1]⟩) σ') →
    callW Tryz.prog 75 [.agg ⟨[.pointer (some ⟨bf, 0, none⟩)]⟩, .string path] K σ := by
  intro f
  induction f with
  | zero =>
    intro path hf hp σ hF K hK
    refine c75 _ _ ?_
    unfold g75
    refine al_i ?_; intro b3 σ1 g1 e1 n1
    refine al_i ?_; intro b4 σ2 g2 e2 n2
    refine al_i ?_; intro b5 σ3 g3 e3 n3
    have hg3 : Gr σ σ3 := (g1.trans g2).trans g3
    refine rd_P (rdC_of (g3.get (g2.get e1)) (by rfl)) (rd_S (rdC_of (g3.get e2) (by rfl)) ?_)
    refine call_i (s_Stat (hF.gr hg3) _ _ _ ?_)
    rw [stat_long hI (by omega)]
    unfold inV
    (refine app_of rfl ?_; try dsimp only)
    refine al_i ?_; intro b13 σ4 g4 e4 n4
    refine st_i2 e4 sz_Inode (by rfl) (by rfl) ?_; intro σ5 p5
    have n513 : b5 ≠ b13 := ne_fr n4 (isSome_of e3)
    have k5 := p5.get n513 (g4.get e3)
    refine br_t rfl ?_
    refine st_i2 k5 sz_Node (by rfl) (by rfl) ?_; intro σ6 p6
    refine rd_G (rdA_of' p6.same (by rfl)) ?_
    (refine app_of rfl ?_; try dsimp only)
    have f5 : σ b5 = none := none_of (g1.trans g2) n3
    have f13 : σ b13 = none := none_of hg3 n4
    have := hK Tr.z ⟨none, 0, 0⟩ σ6 _ (((hg3.trans g4).putF p5 f13).putF p6 f5) (gr_empty _) (fun _ _ => rfl) (fun h => by rw [AT.take] at h; cases h)
    exact this
  | succ f ih =>
    intro path hf hp σ hF K hK
    refine c75 _ _ ?_
    unfold g75
    refine al_i ?_; intro b3 σ1 g1 e1 n1
    refine al_i ?_; intro b4 σ2 g2 e2 n2
    refine al_i ?_; intro b5 σ3 g3 e3 n3
    have hg3 : Gr σ σ3 := (g1.trans g2).trans g3
    refine rd_P (rdC_of (g3.get (g2.get e1)) (by rfl)) (rd_S (rdC_of (g3.get e2) (by rfl)) ?_)
    refine call_i (s_Stat (hF.gr hg3) _ _ _ ?_)
    have hTk : A.take (f + 1) path = (let x := A.stat ⟨⟨[47]⟩⟩ path false
      if x.1 ≠ 0 then (x.1, Tr.z)
      else if x.2.kind = 2 then
        let l := A.listF ⟨⟨[47]⟩⟩ path
        if l.1 ≠ 0 then (l.1, Tr.z)
        else
          let r := takeRow (AT.take A f) path l.2
          (r.1, .mk ⟨⟨[]⟩⟩ 2 false x.2.data r.2)
      else (0, .mk ⟨⟨[]⟩⟩ x.2.kind (xOf x.2.kind x.2.mode) x.2.data [])) := by rw [AT.take]
    simp only at hTk
    have hX : (A.stat ⟨⟨[47]⟩⟩ path false).1 = 0 → path.size ≤ 255 := by
      intro h0
      rcases Nat.lt_or_ge path.size 256 with h | h
      · omega
      · rw [stat_long hI h] at h0; cases h0
    generalize A.stat ⟨⟨[47]⟩⟩ path false = X at hTk hX ⊢
    obtain ⟨xe, xk, xm, xd, xl⟩ := X
    unfold inV
    simp only at hTk hX ⊢
    (refine app_of rfl ?_; try dsimp only)
    refine al_i ?_; intro b13 σ4 g4 e4 n4
    refine st_i2 e4 sz_Inode (by rfl) (by rfl) ?_; intro σ5 p5
    have n513 : b5 ≠ b13 := ne_fr n4 (isSome_of e3)
    have f5 : σ b5 = none := none_of (g1.trans g2) n3
    have f13 : σ b13 = none := none_of hg3 n4
    have f3 : σ b3 = none := n1
    have f4 : σ b4 = none := none_of g1 n2
    have n313 : b3 ≠ b13 := ne_fr n4 (isSome_of (g3.get (g2.get e1)))
    have n413 : b4 ≠ b13 := ne_fr n4 (isSome_of (g3.get e2))
    have k5 := p5.get n513 (g4.get e3)
    have k3 := p5.get n313 (g4.get (g3.get (g2.get e1)))
    have k4 := p5.get n413 (g4.get (g3.get e2))
    have k13 := p5.same
    have hg5 : Lng σ σ5 := ⟨(hg3.trans g4).putF p5 f13⟩
    clear p5 e4 g4 e1 e2 e3 g1 g2 g3
    by_cases hx : xe = 0
    case neg =>
      rw [if_pos hx] at hTk
      rw [hTk] at hK
      refine br_t (by simpa using hx) ?_
      refine st_i2 k5 sz_Node (by rfl) (by rfl) ?_; intro σ6 p6
      refine rd_G (rdA_of' p6.same (by rfl)) ?_
      (refine app_of rfl ?_; try dsimp only)
      exact hK Tr.z ⟨none, 0, 0⟩ σ6 _ (hg5.gr.putF p6 f5) (gr_empty _) (fun _ _ => rfl) (fun h => absurd h hx)
    subst hx
    rw [if_neg (by simp)] at hTk
    have hps := hX rfl
    refine br_f rfl (rd_I (rdC_of k13 (by rfl)) (rd_S (rdC_of k13 (by rfl)) ?_))
    refine al_i ?_; intro b21 σ6 g6 e6 n6
    refine st_i2 e6 sz_Node (by rfl) (by rfl) ?_; intro σ7 p7
    have f21 : σ b21 = none := none_of hg5.gr n6
    have n321 : b3 ≠ b21 := ne_fr n6 (isSome_of k3)
    have n421 : b4 ≠ b21 := ne_fr n6 (isSome_of k4)
    have n521 : b5 ≠ b21 := ne_fr n6 (isSome_of k5)
    have n1321 : b13 ≠ b21 := ne_fr n6 (isSome_of k13)
    have q3 := p7.get n321 (g6.get k3)
    have q4 := p7.get n421 (g6.get k4)
    have q5 := p7.get n521 (g6.get k5)
    have q13 := p7.get n1321 (g6.get k13)
    have q21 := p7.same
    have hg7 : Lng σ σ7 := ⟨(hg5.gr.trans g6).putF p7 f21⟩
    clear p7 e6 g6 k3 k4 k5 k13 hg5
    refine al_i ?_; intro b22 σ8 g8 e8 n8
    have f22 : σ b22 = none := none_of hg7.gr n8
    have n322 : b3 ≠ b22 := ne_fr n8 (isSome_of q3)
    have n422 : b4 ≠ b22 := ne_fr n8 (isSome_of q4)
    have n522 : b5 ≠ b22 := ne_fr n8 (isSome_of q5)
    have n1322 : b13 ≠ b22 := ne_fr n8 (isSome_of q13)
    have n2122 : b21 ≠ b22 := ne_fr n8 (isSome_of q21)
    have m0 : MapAt σ8 b22 (encL kkI (fun v : Value => v) []) := MapAt.new e8
    refine mu_i (kk := kkI) (f := fun v : Value => v) und_MIF und_int m0 1 (.func (.func 125) ⟨[]⟩ ⟨[.pointer (some ⟨b13, 0, none⟩), .pointer (some ⟨b21, 0, none⟩)]⟩) ?_
    intro o1 σ9 p9 m1
    refine mu_i (kk := kkI) (f := fun v : Value => v) und_MIF und_int m1 2 (.func (.func 126) ⟨[]⟩ ⟨[.pointer (some ⟨b3, 0, none⟩), .pointer (some ⟨b4, 0, none⟩), .pointer (some ⟨b21, 0, none⟩)]⟩) ?_
    intro o2 σ10 p10 m2
    have k3 := p10.get n322 (p9.get n322 (g8.get q3))
    have k4 := p10.get n422 (p9.get n422 (g8.get q4))
    have k5 := p10.get n522 (p9.get n522 (g8.get q5))
    have k13 := p10.get n1322 (p9.get n1322 (g8.get q13))
    have k21 := p10.get n2122 (p9.get n2122 (g8.get q21))
    have hg10 : Lng σ σ10 := ⟨((hg7.gr.trans g8).putF p9 f22).putF p10 f22⟩
    clear p9 p10 m0 m1 e8 g8 q3 q4 q5 q13 q21 hg7
    refine rd_I (rdC_of k13 (by rfl)) ?_
    have hr := rdM_at (kk := kkI) m2 .nilFunc true xk
    refine rd_G hr ?_
    refine app_okRB ?_
    refine j_i (fun j => ∀ (e : Int) (σ' τ' ρ : H) (t : Tr) (y : Sl), Gr σ τ' → Gr τ' σ' → τ' b5 = none → Gr ρ σ' → ρ b5 = none → (∀ b, σ b ≠ none → ρ b = none) → σ' b5 = some (.cells ⟨[.string ⟨⟨[]⟩⟩, .int .i64 0, .bool false, .string ⟨⟨[]⟩⟩, .slice none 0 0]⟩ 24 (0, 0)) → σ' b21 = some (.cells ⟨trC t y⟩ 24 (0, 0)) → e = (A.take (f + 1) path).1 → (e = 0 → t = (A.take (f + 1) path).2 ∧ SlAt ρ t.kids y) → j (some ⟨b5, 0, none⟩) e (some ⟨b21, 0, none⟩) σ') ?_ ?_
    · intro e σ' τ' ρ t y h1 h2 h3 r1 r2 r3 h4 h5 h6 h7
      unfold trC at h5
      refine ptr_i (rd_G (rdA_of' h5 (by rfl)) ?_)
      (refine app_of rfl ?_; try dsimp only)
      refine st_i2 h4 sz_Node (by rfl) (by rfl) ?_; intro σ'' p
      refine ptr_i (rd_G (rdA_of' p.same (by rfl)) ?_)
      (refine app_of rfl ?_; try dsimp only)
      have hg := h2.putF p h3
      have := hK t y σ'' ρ (h1.trans hg) (r1.putF p r2) r3 (fun he => h7 (by rw [h6]; exact he))
      rw [h6]; exact this
    intro j hj
    by_cases k1 : xk = 1
    · subst k1
      rw [if_neg (by decide)] at hTk
      refine br_t rfl (cval_i go_cAt1 (c125 _ _ ?_))
      unfold g125
      refine ptr_i (rd_I (rdC_of k13 (by rfl)) (ptr_i ?_))
      refine st_i2 k21 sz_bool (by rfl) (by rfl) ?_; intro σ11 p11
      refine app_I ?_
      refine hj 0 σ11 σ (fun _ => none) (.mk ⟨⟨[]⟩⟩ 1 ((bitV .and .i64 xm 73 : Int) != 0) xd []) ⟨none, 0, 0⟩ (Gr.refl _) (hg10.gr.putF p11 f21) f5 (gr_empty _) rfl (fun _ _ => rfl) (p11.get n521 k5) p11.same (by rw [hTk]) (fun _ => ⟨?_, SlAt.nil⟩)
      rw [hTk]; rfl
    by_cases k2 : xk = 2
    case neg =>
      rw [if_neg k2] at hTk
      have hl : lk xk (up (2 : Int) (.func (.func 126) ⟨[]⟩ ⟨[.pointer (some ⟨b3, 0, none⟩), .pointer (some ⟨b4, 0, none⟩), .pointer (some ⟨b21, 0, none⟩)]⟩) (up (1 : Int) (.func (.func 125) ⟨[]⟩ ⟨[.pointer (some ⟨b13, 0, none⟩), .pointer (some ⟨b21, 0, none⟩)]⟩) ([] : List (Int × Value)))) = none := by
        rw [lk_up, lk_up]
        have c1 : (xk == 1) = false := by simpa using k1
        have c2 : (xk == 2) = false := by simpa using k2
        rw [c1, c2]; rfl
      rw [hl]
      refine br_f rfl ?_
      refine hj 0 σ10 σ (fun _ => none) (.mk ⟨⟨[]⟩⟩ xk false xd []) ⟨none, 0, 0⟩ (Gr.refl _) hg10.gr f5 (gr_empty _) rfl (fun _ _ => rfl) k5 k21 (by rw [hTk]) (fun _ => ⟨?_, SlAt.nil⟩)
      rw [hTk]
      have c1 : (xk == 1) = false := by simpa using k1
      unfold xOf; rw [c1]; rfl
    subst k2
    rw [if_pos rfl] at hTk
    clear hr m2 hK
    refine br_t rfl (cval_i go_cAt2 (c126 _ _ _ ?_))
    unfold g126
    refine al_i ?_; intro be σ11 g11 e11 n11
    have fe : σ be = none := none_of hg10.gr n11
    have n21e : b21 ≠ be := ne_fr n11 (isSome_of k21)
    have n5e : b5 ≠ be := ne_fr n11 (isSome_of k5)
    refine j_i (fun j => ∀ (σ' τ' ρ : H) (t : Tr) (y : Sl) (w : Int), Gr σ τ' → Gr τ' σ' → τ' b5 = none → τ' be = none → Gr ρ σ' → ρ b5 = none → ρ be = none → (∀ b, σ b ≠ none → ρ b = none) → σ' be = some (.cells ⟨[.int .i64 w]⟩ 32 (0, 0)) → σ' b5 = some (.cells ⟨[.string ⟨⟨[]⟩⟩, .int .i64 0, .bool false, .string ⟨⟨[]⟩⟩, .slice none 0 0]⟩ 24 (0, 0)) → σ' b21 = some (.cells ⟨trC t y⟩ 24 (0, 0)) → 0 = (A.take (f + 1) path).1 → t = (A.take (f + 1) path).2 → SlAt ρ t.kids y → j (some ⟨be, 0, none⟩) σ') ?_ ?_
    · intro σ' τ' ρ t y w h1 h2 h3 h4 r1 r2 r3 r4 h5 h6 h7 h8 h9 h10
      refine st_i2 h5 sz_Errno (by rfl) (by rfl) ?_; intro σ'' p
      refine ptr_i (rd_I (rdC_of p.same (by rfl)) (app_I ?_))
      exact hj 0 σ'' τ' ρ t y h1 (h2.putF p h4) h3 (r1.putF p r3) r2 r4 (p.get n5e h6) (p.get n21e h7) h8 (fun _ => ⟨h9, h10⟩)
    intro j5 hj5
    refine ptr_i (rd_G (rdA_of' (g11.get k3) (by rfl)) ?_)
    (refine app_of rfl ?_; try dsimp only)
    refine ptr_i (rd_S (rdC_of (g11.get k4) (by rfl)) ?_)
    refine call_i (c127 _ _ ?_)
    unfold g127
    refine al_i ?_; intro c3 σ12 g12 e12 n12
    refine al_i ?_; intro c4 σ13 g13 e13 n13
    refine app_R (fun_i (rf_i go_cKids1 ?_))
    intro l obj σ14 nl pl hobj hY
    have lc3 : c3 ≠ l := ne_fr nl (isSome_of (g13.get e12))
    have lc4 : c4 ≠ l := ne_fr nl (isSome_of e13)
    have le' : be ≠ l := ne_fr nl (isSome_of (g13.get (g12.get e11)))
    have l21 : b21 ≠ l := ne_fr nl (isSome_of (g13.get (g12.get (g11.get k21))))
    have l5 : b5 ≠ l := ne_fr nl (isSome_of (g13.get (g12.get (g11.get k5))))
    have hg13 : Gr σ σ13 := ((hg10.gr.trans g11).trans g12).trans g13
    have fl : σ l = none := none_of hg13 nl
    have fc3 : σ c3 = none := none_of (hg10.gr.trans g11) n12
    have fc4 : σ c4 = none := none_of ((hg10.gr.trans g11).trans g12) n13
    have n21c3 : b21 ≠ c3 := ne_fr n12 (isSome_of (g11.get k21))
    have n21c4 : b21 ≠ c4 := ne_fr n13 (isSome_of (g12.get (g11.get k21)))
    have w3 := pl.get lc3 (g13.get e12)
    have w4 := pl.get lc4 e13
    have we := pl.get le' (g13.get (g12.get e11))
    have w21 := pl.get l21 (g13.get (g12.get (g11.get k21)))
    have w5 := pl.get l5 (g13.get (g12.get (g11.get k5)))
    have wl := pl.same
    have hg14 : Lng σ σ14 := ⟨hg13.putF pl fl⟩
    clear pl g11 g12 g13 e11 e12 e13 k3 k4 k5 k13 k21 hg10 hg13
    refine c175 _ _ _ ?_
    unfold g175
    refine ptr_i (rd_P (rdC_of w3 (by rfl)) (ptr_i (rd_S (rdC_of w4 (by rfl)) ?_)))
    refine call_i (s_List hI hB (by omega) (hF.gr hg14.gr) _ _ ?_)
    intro x σ15 g15 hx
    have hLsz : (A.listF ⟨⟨[47]⟩⟩ path).1 = 0 → ∀ s ∈ (A.listF ⟨⟨[47]⟩⟩ path).2, 1 ≤ s.size ∧ s.size ≤ 56 := by
      intro _ s hs
      unfold AT.listF at hs
      simp only at hs
      split at hs
      · simp at hs
      split at hs
      · simp at hs
      obtain ⟨j', hj'⟩ := names_mem hI hs
      obtain ⟨n, hn, _, hl, _⟩ := hI.find hj'
      have hnm := (hI.ent _ n s j' hn hl).1
      refine ⟨?_, namedE_size hnm⟩
      rcases Nat.lt_or_ge 0 s.size with h | h
      · exact h
      · exfalso
        have h0 : s.data.toList = [] := List.eq_nil_of_length_eq_zero (by rw [← size_list]; omega)
        have : s = ⟨⟨[]⟩⟩ := bytes_ext h0
        rw [this] at hnm; exact absurd hnm (by decide +kernel)
    have hLln : (A.listF ⟨⟨[47]⟩⟩ path).2.length ≤ N := by
      unfold AT.listF
      simp only
      split
      · simp
      split
      · simp
      exact names_len hB
    generalize A.listF ⟨⟨[47]⟩⟩ path = L at *
    obtain ⟨le, ln⟩ := L
    simp only at *
    (refine app_of rfl ?_; try dsimp only)
    have y3 := g15.get w3
    have y4 := g15.get w4
    have ye := g15.get we
    have y21 := g15.get w21
    have y5 := g15.get w5
    have yl := g15.get wl
    have hg15 : Lng σ σ15 := ⟨hg14.gr.trans g15⟩
    clear g15 w3 w4 we w21 w5 wl hg14
    -- the end of it with an error
    have bad : ∀ (e : Int) (σ' τ' : H) (t : Tr) (y : Sl) (u : Int), e ≠ 0 → e = (A.take (f + 1) path).1 → Gr σ τ' → Gr τ' σ' → τ' b5 = none → τ' be = none → τ' l = none → σ' be = some (.cells ⟨[.int .i64 e]⟩ 32 (0, 0)) → σ' b5 = some (.cells ⟨[.string ⟨⟨[]⟩⟩, .int .i64 0, .bool false, .string ⟨⟨[]⟩⟩, .slice none 0 0]⟩ 24 (0, 0)) → σ' b21 = some (.cells ⟨trC t y⟩ 24 (0, 0)) → σ' l = some (obj .done (some .ret)) →
        endK l obj (j5 (some ⟨be, 0, none⟩)) (fun i41 => exW i41 0 (j5 (some ⟨be, 0, none⟩)) nW) (rdT (rdC be 0) kI fun r45 => app kI (fun x44 => j (some ⟨b5, 0, none⟩) x44 (some ⟨b21, 0, none⟩)) (.int .i64 r45)) σ' := by
      intro e σ' τ' t y u he1 he2 h1 h2 h3 h4 h5 h6 h7 h8 h9
      refine end_r h9 (by intro h; cases h) ?_
      intro σ'' p
      refine rd_I (rdC_of (p.get le' h6) (by rfl)) (app_I ?_)
      exact hj e σ'' τ' (fun _ => none) t y h1 (h2.putF p h5) h3 (gr_empty _) rfl (fun _ _ => rfl) (p.get l5 h7) (p.get l21 h8) he2 (fun h => absurd h he1)
    by_cases hle : le = 0
    case neg =>
      rw [if_pos hle] at hTk
      refine br_t (by simpa using hle) (cvalv_i (yv_call (hY _ _ _ ⟨yl, ?_⟩)))
      show alW _ _ σ15
      refine al_i ?_; intro b26 σ16 g16 e16 n16
      have m26 : l ≠ b26 := ne_fr n16 (isSome_of yl)
      refine st_i2 e16 sz_Node (by rfl) (by rfl) ?_; intro σ17 p17
      refine beg_i (p17.get m26 (g16.get yl)) ?_
      intro σ18 p18
      have f26 : σ b26 = none := none_of hg15.gr n16
      refine br_t (by simpa using hle) ?_
      have ze := p18.get le' (p17.get (ne_fr n16 (isSome_of ye)) (g16.get ye))
      refine st_i2 ze sz_Errno (by rfl) (by rfl) ?_; intro σ19 p19
      refine round_i (p19.get le'.symm p18.same) ?_
      intro σ20 p20
      refine app_B ?_
      have z5 := p20.get l5 (p19.get n5e (p18.get l5 (p17.get (ne_fr n16 (isSome_of y5)) (g16.get y5))))
      have z21 := p20.get l21 (p19.get n21e (p18.get l21 (p17.get (ne_fr n16 (isSome_of y21)) (g16.get y21))))
      exact bad le σ20 σ (.mk ⟨⟨[]⟩⟩ 2 false xd []) ⟨none, 0, 0⟩ 0 hle (by rw [hTk]) (Gr.refl _) ((((hg15.gr.trans g16).putF p17 f26).putF p18 fl).putF p19 fe |>.putF p20 fl) f5 fe fl (p20.get le' p19.same) z5 z21 p20.same
    subst hle
    rw [if_neg (by simp)] at hTk
    have hnm := hLsz rfl
    refine br_f rfl (loop_i ?_)
    intro R hR
    have key : ∀ (rest : List ByteArray) (i : Nat) (acc : List Tr) (σi τi ρi : H) (z : Sl) (rows : List (List Value)), ln.drop i = rest → acc.length = i → Gr σ τi → Gr τi σi → (∀ b, σ15 b ≠ none → σ b = none → τi b = none) → (∀ b o, σ15 b = some o → b ≠ b21 → b ≠ l → σi b = some o) → σi l = some (obj .ready none) →
        σi b21 = some (.cells ⟨trC (.mk ⟨⟨[]⟩⟩ 2 false xd acc) z⟩ 24 (0, 0)) → RowsOwn σi 24 5 rows z → RowsTr ρi acc rows → Gr ρi τi → (∀ b, σ b ≠ none → ρi b = none) → (∀ g, z.base = some ⟨g, 0, none⟩ → σ15 g = none ∧ τi g = none) →
        (takeRow (AT.take A f) path ln).1 = (takeRow (AT.take A f) path rest).1 → ((takeRow (AT.take A f) path rest).1 = 0 → (takeRow (AT.take A f) path ln).2 = acc ++ (takeRow (AT.take A f) path rest).2) →
        R (yv l) (some ⟨c3, 0, none⟩) (some ⟨c4, 0, none⟩) x ((x.len : Nat) : Int) (i : Int) σi := by
      intro rest
      induction rest with
      | nil =>
        intro i acc σi τi ρi z rows hd hacc G1 G2 hnew hkeep hli h21 hown hrt hρ1 hρ2 hgf r1 r2
        have hge : ln.length ≤ i := by simpa using hd
        refine hR _ _ _ _ _ _ _ ?_
        refine br_f (by rw [hx.1]; simp only [decide_eq_false_iff_not]; omega) ?_
        refine end_n hli (by intro h; cases h) ?_
        intro σ' p
        obtain ⟨ρ', t1, t2, t3, t4⟩ := slAt_own hown hrt (hρ1.trans G2) fun g hx => none_of hρ1 (hgf g hx).2
        have hn' : ∀ b, σ15 b ≠ none → σ b = none → ρ' b = none := fun b hb hs => t4 b (fun h => hb (hgf b h).1) (none_of hρ1 (hnew b hb hs))
        have hs' : ∀ b, σ b ≠ none → ρ' b = none := fun b hb => t4 b (fun h => hb (none_of hg15.gr (hgf b h).1)) (hρ2 b hb)
        have z5 := p.get l5 (hkeep b5 _ y5 n521 l5)
        have ze := p.get le' (hkeep be _ ye n21e.symm le')
        have z21 := p.get l21 h21
        have tl := hn' l (by rw [yl]; simp) fl
        have tl' := hnew l (by rw [yl]; simp) fl
        have hz : (takeRow (AT.take A f) path []).1 = 0 := rfl
        refine hj5 σ' τi ρ' _ z 0 G1 (G2.putF p tl') (hnew b5 (by rw [y5]; simp) f5) (hnew be (by rw [ye]; simp) fe) (t2.putF p tl) (hn' b5 (by rw [y5]; simp) f5) (hn' be (by rw [ye]; simp) fe) hs' ze z5 z21 ?_ ?_ t3
        · rw [hTk]; show 0 = (takeRow (AT.take A f) path ln).1; rw [r1]; rfl
        · rw [hTk]; simp only; rw [r2 rfl]; simp [takeRow]
      | cons s rest ihr =>
        intro i acc σi τi ρi z rows hd hacc G1 G2 hnew hkeep hli h21 hown hrt hρ1 hρ2 hgf r1 r2
        obtain ⟨hsi, hlt, hd'⟩ := drop_get hd
        have hsmem := List.mem_of_getElem? hsi
        obtain ⟨hs1, hs2⟩ := hnm s hsmem
        obtain ⟨gx, cx, x1, x2, x3⟩ := hx.at hsi
        have ngx21 : gx ≠ b21 := by intro e; rw [e, y21] at x2; cases x2
        have ngxl : gx ≠ l := by
          intro e; rw [e, yl] at x2
          obtain ⟨rr, hrr⟩ := hobj
          rw [hrr] at x2; cases x2
        have x2' := hkeep gx _ x2 ngx21 ngxl
        have nc3 : c3 ≠ b21 := n21c3.symm
        have nc4 : c4 ≠ b21 := n21c4.symm
        have z3 := hkeep c3 _ y3 nc3 lc3
        have z4 := hkeep c4 _ y4 nc4 lc4
        refine hR _ _ _ _ _ _ _ ?_
        refine br_t (by rw [hx.1]; simp only [decide_eq_true_eq]; omega) ?_
        rw [x1]
        refine ptr_i (if_i ⟨by omega, by rw [hx.1]; omega⟩ ?_)
        have hrd : rdC gx (0 + (i : Int).toNat * 1) σi = some (.string s) := rdC_of x2' (by simpa using x3)
        refine rd_S hrd (ptr_i (rd_G (rdA_of' z3 (by rfl)) ?_))
        (refine app_of rfl ?_; try dsimp only)
        refine ptr_i (rd_S (rdC_of z4 (by rfl)) ?_)
        refine call_i (x_Trim path (by omega) (app_S ?_))
        refine and_i (rdA_of' z3 (by rfl)) ?_
        have hts := trimS_size path
        have q1 : (⟨⟨[47]⟩⟩ : ByteArray).size = 1 := rfl
        refine if_i (by rw [q1]; omega) (if_i (by rw [ByteArray.size_append, q1]; omega) ?_)
        have hks := kidP_size path s
        have hcall := ih (kidP path s) (by omega) (by omega) (hF.gr G1) (K := fun v τ' => ∃ t y ρ, v = .tuple ⟨[.agg ⟨trC t y⟩, .int .i64 (A.take f (kidP path s)).1]⟩ ∧ Gr τi τ' ∧ Gr ρ τ' ∧ (∀ b, τi b ≠ none → ρ b = none) ∧ ((A.take f (kidP path s)).1 = 0 → t = (A.take f (kidP path s)).2 ∧ SlAt ρ t.kids y)) (fun t y τ' ρ h1 h3 h4 h2 => ⟨t, y, ρ, rfl, h1, h3, h4, h2⟩)
        refine call_from G2 hcall ?_
        rintro v σ16 τ16 ⟨t, y, ρ, rfl, m1, mρ, mρ2, m2⟩ m3 m4 m5
        rw [takeRow] at r1 r2
        simp only at r1 r2
        generalize A.take f (kidP path s) = tk at m2 r1 r2 ⊢
        obtain ⟨te, tt⟩ := tk
        simp only at m2 r1 r2 ⊢
        unfold trC
        (refine app_of rfl ?_; try dsimp only)
        have kp16 : ∀ b o, σ15 b = some o → b ≠ b21 → b ≠ l → σ b = none → σ16 b = some o := fun b o h1 h2 h3 h4 => m4 b o (hnew b (by rw [h1]; simp) h4) (hkeep b o h1 h2 h3)
        have t21 : τi b21 = none := hnew b21 (by rw [y21]; simp) f21
        have tl : τi l = none := hnew l (by rw [yl]; simp) fl
        have u21 := m4 b21 _ t21 h21
        have ul := m4 l _ tl hli
        have T21 : τ16 b21 = none := m5 b21 (by rw [h21]; simp) t21
        have Tl : τ16 l = none := m5 l (by rw [hli]; simp) tl
        refine al_i ?_; intro b36 σ17 g17 e17 n17
        have m36 : τ16 b36 = none := none_of m3 n17
        refine st_i2 e17 sz_Node (by rfl) (by rfl) ?_; intro σ18 p18
        refine st_i2 p18.same sz_string (by rfl) (by rfl) ?_; intro σ19 p19
        have k36 : σ19 b36 = some (.cells ⟨trC (t.named s) y⟩ 24 (0, 0)) := by
          have := p19.same
          obtain ⟨tn, tkd, tex, td, tks⟩ := t
          exact this
        have st19 : ∀ b o, σ16 b = some o → σ19 b = some o := fun b o hb => by
          have hne : b ≠ b36 := ne_fr n17 (isSome_of hb)
          exact p19.get hne (p18.get hne (g17.get hb))
        have G19 : Gr τ16 σ19 := (m3.trans g17).putF p18 m36 |>.putF p19 m36
        clear p18 p19 e17 g17
        refine j_d ?_
        unfold trC at k36
        refine rd_G (rdA_of' k36 (by rfl)) ?_
        (refine app_of rfl ?_; try dsimp only)
        refine cvalv_i (yv_call (hY _ _ _ ⟨st19 l _ ul, ?_⟩))
        show alW _ _ σ19
        refine al_i ?_; intro b26 σ20 g20 e20 n20
        refine st_i2 e20 sz_Node (by rfl) (by rfl) ?_; intro σ21 p21
        have st21 : ∀ b o, σ16 b = some o → σ21 b = some o := fun b o hb => by
          have hb' := st19 b o hb
          exact p21.get (ne_fr n20 (isSome_of hb')) (g20.get hb')
        have m26 : τ16 b26 = none := none_of G19 n20
        have G21 : Gr τ16 σ21 := (G19.trans g20).putF p21 m26
        have k26 := p21.same
        have f26 : σ16 b26 = none := by
          cases h : σ16 b26 with
          | none => rfl
          | some o => have := st19 b26 o h; rw [n20] at this; cases this
        clear p21 e20 g20
        refine beg_i (st21 l _ ul) ?_
        intro σ22 p22
        have nl26 : b26 ≠ l := fun e => by rw [e, ul] at f26; cases f26
        have k26' := p22.get nl26 k26
        have st22 : ∀ b o, σ16 b = some o → b ≠ l → σ22 b = some o := fun b o hb hn => p22.get hn (st21 b o hb)
        have G22 : Gr τ16 σ22 := G21.putF p22 Tl
        have l22 : σ22 l = some (obj .busy none) := p22.same
        clear p22
        have e16 := kp16 be _ ye n21e.symm le' fe
        have e516 := kp16 b5 _ y5 n521 l5 f5
        have Te : τ16 be = none := m5 be (by rw [hkeep be _ ye n21e.symm le']; simp) (hnew be (by rw [ye]; simp) fe)
        have T5 : τ16 b5 = none := m5 b5 (by rw [hkeep b5 _ y5 n521 l5]; simp) (hnew b5 (by rw [y5]; simp) f5)
        by_cases hte : te = 0
        case neg =>
          rw [if_pos hte] at r1
          refine br_t (by simpa using hte) ?_
          refine st_i2 (st22 be _ e16 le') sz_Errno (by rfl) (by rfl) ?_; intro σ23 p23
          refine round_i (p23.get le'.symm l22) ?_
          intro σ24 p24
          refine app_B (br_t rfl (br_t rfl ?_))
          have z21 := p24.get l21 (p23.get n21e (st22 b21 _ u21 l21))
          have z5 := p24.get l5 (p23.get n5e (st22 b5 _ e516 l5))
          exact bad te σ24 τ16 _ z 0 hte (by rw [hTk]; exact r1.symm) (G1.trans m1) ((G22.putF p23 Te).putF p24 Tl) T5 Te Tl (p24.get le' p23.same) z5 z21 p24.same
        subst hte
        obtain ⟨rfl, hsl⟩ := m2 rfl
        rw [if_neg (by simp)] at r1 r2
        simp only at r1 r2
        unfold trC at u21 h21
        refine br_f rfl (ptr_i (rd_L (rdC_of (st22 b21 _ u21 l21) (by rfl)) ?_))
        refine rd_G (rdA_of' k26' (by rfl)) ?_
        (refine app_of rfl ?_; try dsimp only)
        refine al_i ?_; intro b35 σ23 g23 e23 n23
        have own23 : RowsOwn σ23 24 5 rows z := hown.keep fun g o hgz ho => by
          have hg := hgf g hgz
          have h1 := m4 g o hg.2 ho
          have hgl : g ≠ l := fun e => by rw [e, yl] at hg; cases hg.1
          exact g23.get (st22 g o h1 hgl)
        have hgl : ∀ g, z.base = some ⟨g, 0, none⟩ → g ≠ l ∧ g ≠ b21 := fun g hgz => by
          have hg := hgf g hgz
          exact ⟨fun e => (by rw [e, yl] at hg; cases hg.1), fun e => (by rw [e, y21] at hg; cases hg.1)⟩
        have st23 : ∀ b o, σ16 b = some o → b ≠ l → σ23 b = some o := fun b o hb hn => g23.get (st22 b o hb hn)
        have G23 : Gr τ16 σ23 := G22.trans g23
        have l23 := g23.get l22
        obtain ⟨inf, zz, i1, i2, i3, i4, i5⟩ := info_Node
        have hal : acc.length ≤ N := by omega
        have hrl : rows.length < 1000000000 := by rw [hrt.len]; omega
        have hone0 : ∀ u ∈ [Value.string ⟨⟨[]⟩⟩, .int .i64 0, .bool false, .string ⟨⟨[]⟩⟩, .slice none 0 0], u.oneCell' = true := by
          intro u hu
          simp only [List.mem_cons, List.mem_nil_iff, or_false] at hu
          rcases hu with rfl | rfl | rfl | rfl | rfl <;> rfl
        refine append_i und_Nodes i1 i2 i3 rfl i5 (by decide) own23 e23 rfl hone0 hrl i4 ?_
        intro z' σ24 own24 hcase
        obtain ⟨g', cur, z1, z2, z3', z4', z5'⟩ := own24.last (by decide)
        have hzl : z.len = rows.length := own23.1
        rw [z1]
        refine ptr_i (if_i ⟨by omega, by rw [z4', hzl]; omega⟩ (ptr_i ?_))
        have hofs : 0 + (((z.len : Nat) : Int) : Int).toNat * 5 = rows.length * 5 := by rw [hzl]; omega
        rw [hofs]
        have nb35 : σ16 b35 = none := by
          cases h : σ16 b35 with
          | none => rfl
          | some o =>
            by_cases e : b35 = l
            · rw [e] at n23; rw [l22] at n23; cases n23
            · have := st22 b35 o h e; rw [n23] at this; cases this
        -- where the rows lie now
        have hg' : g' ≠ b21 ∧ g' ≠ l ∧ τ16 g' = none ∧ σ15 g' = none ∧ Gr τ16 σ24 ∧ (∀ b o, σ16 b = some o → b ≠ l → b ≠ g' → σ24 b = some o) ∧ σ24 l = some (obj .busy none) := by
          rcases hcase with ⟨g, o, hz1, hz2, p24⟩ | ⟨g, hz1, hf24, g24⟩
          · have hgg : g = g' := by rw [hz2, hz1] at z1; cases z1; rfl
            subst hgg
            have hg := hgf g hz1
            have t16 : τ16 g = none := m5 g (hown.has hz1) hg.2
            exact ⟨(hgl g hz1).2, (hgl g hz1).1, t16, hg.1, G23.putF p24 t16, fun b o hb hn hng => p24.get hng (st23 b o hb hn), p24.get (hgl g hz1).1.symm l23⟩
          · have hgg : g = g' := by rw [hz1] at z1; cases z1; rfl
            subst hgg
            have n1 : g ≠ b21 := fun e => by rw [e, st23 b21 _ u21 l21] at hf24; cases hf24
            have n2 : g ≠ l := fun e => by rw [e, l23] at hf24; cases hf24
            refine ⟨n1, n2, none_of G23 hf24, ?_, G23.trans g24, fun b o hb hn _ => g24.get (st23 b o hb hn), g24.get l23⟩
            cases h : σ15 g with
            | none => rfl
            | some o =>
              cases hs : σ g with
              | none => rw [st23 g o (kp16 g o h n1 n2 hs) n2] at hf24; cases hf24
              | some o' => rw [G23.get (m1.get (G1.get hs))] at hf24; cases hf24
        obtain ⟨q1', q2', q3', q4', q5', q6', q7'⟩ := hg'
        have hlen5 : (trC (t.named s) y).length = 5 := rfl
        have hnd : trC (t.named s) y = [.string s, .int .i64 t.kind, .bool t.exec, .string t.data, .slice y.base y.len y.cap] := by obtain ⟨tn, tkd, tex, td, tks⟩ := t; rfl
        have hnk : (t.named s).kids = t.kids := by obtain ⟨tn, tkd, tex, td, tks⟩ := t; rfl
        have fin : ∀ σ' : H, σ' b21 = some (.cells ⟨[.string ⟨⟨[]⟩⟩, .int .i64 2, .bool false, .string xd, .slice (some ⟨g', 0, none⟩) z'.len z'.cap]⟩ 24 (0, 0)) → RowsOwn σ' 24 5 (rows ++ [trC (t.named s) y]) z' → Gr τ16 σ' → (∀ b o, σ16 b = some o → b ≠ l → b ≠ b21 → b ≠ g' → σ' b = some o) → σ' l = some (obj .busy none) →
            ∀ σ'' : H, Put σ' l (obj .ready none) σ'' → R (yv l) (some ⟨c3, 0, none⟩) (some ⟨c4, 0, none⟩) x ((x.len : Nat) : Int) ((i : Int) + 1) σ'' := by
          intro σ' a1 a2 a3 a4 a5 σ'' pr
          rw [← z1] at a1
          refine ihr (i + 1) (acc ++ [t.named s]) σ'' τ16 (ρi.union ρ) z' (rows ++ [trC (t.named s) y]) hd' (by simp [hacc]) (G1.trans m1) (a3.putF pr Tl) ?_ ?_ pr.same (pr.get l21 a1) ?_ ?_ (gr_union (hρ1.trans m1) mρ) ?_ ?_ r1 ?_
          · intro b hb hs
            by_cases e1 : b = b21
            · rw [e1]; exact T21
            · by_cases e2 : b = l
              · rw [e2]; exact Tl
              · refine m5 b ?_ (hnew b hb hs)
                cases h : σ15 b with
                | none => exact absurd h hb
                | some o => rw [hkeep b o h e1 e2]; simp
          · intro b o hb h1 h2
            have hbg : b ≠ g' := fun e => by rw [e, q4'] at hb; cases hb
            refine pr.get h2 ?_
            cases hs : σ b with
            | none => exact a4 b o (kp16 b o hb h1 h2 hs) h2 h1 hbg
            | some o' =>
              have h3 := G1.get hs
              have h4 := hkeep b o hb h1 h2
              have h5 := G2.get h3
              rw [h4] at h5; cases h5
              exact a3.get (m1.get h3)
          · exact a2.keep fun g o hgz ho => pr.get (fun e => by rw [z1] at hgz; cases hgz; exact q2' e) ho
          · have hdis : ∀ b, ρi b ≠ none → ρ b = none := fun b hb => mρ2 b (fun h => hb (none_of hρ1 h))
            exact (hrt.gr (gr_left _ _)).snoc (trAt_iff.2 ⟨y, rfl, by rw [hnk]; exact hsl.gr (gr_right hdis)⟩)
          · intro b hb
            exact union_none (hρ2 b hb) (mρ2 b (fun h => hb (none_of G1 h)))
          · intro g hgz; rw [z1] at hgz; cases hgz; exact ⟨q4', q3'⟩
          · intro h0
            rw [r2 h0]; simp
        have u24 := q6' b21 _ u21 l21 q1'.symm
        have hone1 : ∀ u ∈ arrL (Value.agg ⟨[.string s, .int .i64 t.kind, .bool t.exec, .string t.data, .slice y.base y.len y.cap]⟩).cells, u.oneCell' = true := by
          intro u hu
          have hu : u ∈ [Value.string s, .int .i64 t.kind, .bool t.exec, .string t.data, .slice y.base y.len y.cap] := hu
          simp only [List.mem_cons, List.mem_nil_iff, or_false] at hu
          rcases hu with rfl | rfl | rfl | rfl | rfl <;> rfl
        have hnm' : (t.named s).name = s ∧ (t.named s).kind = t.kind ∧ (t.named s).exec = t.exec ∧ (t.named s).data = t.data := by obtain ⟨tn, tkd, tex, td, tks⟩ := t; exact ⟨rfl, rfl, rfl, rfl⟩
        rw [hnm'.1, hnm'.2.1, hnm'.2.2.1, hnm'.2.2.2]
        refine both_i ?_ ?_
        · refine st_i z2 (sz_Node) (show rows.length * 5 + 5 ≤ cur.length from z3') hone1 (.inl (Nat.le_refl _)) ?_
          intro σ25 p25
          have own25 := z5' (trC (t.named s) y) σ25 hlen5 (by rw [hnd]; exact p25)
          refine st_i2 (p25.get q1'.symm u24) sz_Nodes (by rfl) (by rfl) ?_; intro σ26 p26
          refine round_i (p26.get l21.symm (p25.get q2'.symm q7')) ?_
          intro σ27 p27
          refine app_B (br_f rfl (br_f rfl ?_))
          rw [wrap_id (x := (i : Int) + 1) (by omega) (by omega)]
          exact fin σ26 p26.same (own25.put p26 (by rw [z1]; intro e; cases e; exact q1' rfl)) ((q5'.putF p25 q3').putF p26 T21) (fun b o hb h1 h2 h3 => p26.get h2 (p25.get h3 (q6' b o hb h1 h3))) (p26.get l21.symm (p25.get q2'.symm q7')) σ27 p27
        · refine st_i2 u24 sz_Nodes (by rfl) (by rfl) ?_; intro σ25 p25
          have z2b := p25.get q1' z2
          refine st_i z2b (sz_Node) (show rows.length * 5 + 5 ≤ cur.length from z3') hone1 (.inl (Nat.le_refl _)) ?_
          intro σ26 p26
          have own25 : RowsOwn σ26 24 5 (rows ++ [trC (t.named s) y]) z' := by
            have hS := z5' (trC (t.named s) y) _ hlen5 (Put.intro σ24 g' _)
            refine hS.keep fun g o hgz ho => ?_
            rw [z1] at hgz; cases hgz
            rw [H.put_same] at ho; cases ho
            rw [hnd]; exact p26.same
          have h21' := p26.get q1'.symm p25.same
          refine round_i (p26.get q2'.symm (p25.get l21.symm q7')) ?_
          intro σ27 p27
          refine app_B (br_f rfl (br_f rfl ?_))
          rw [wrap_id (x := (i : Int) + 1) (by omega) (by omega)]
          exact fin σ26 h21' own25 ((q5'.putF p25 T21).putF p26 q3') (fun b o hb h1 h2 h3 => p26.get h3 (p25.get h2 (q6' b o hb h1 h3))) (p26.get q2'.symm (p25.get l21.symm q7')) σ27 p27
    have hlx : ∀ g, (⟨none, 0, 0⟩ : Sl).base = some ⟨g, 0, none⟩ → σ15 g = none ∧ σ g = none := fun g h => by cases h
    exact key ln 0 [] σ15 σ (fun _ => none) ⟨none, 0, 0⟩ [] rfl rfl (Gr.refl _) hg15.gr (fun _ _ h => h) (fun _ _ h _ _ => h) yl y21 (RowsOwn.nil _ _ _) trivial (gr_empty _) (fun _ _ => rfl) hlx rfl (fun _ => by simp)
end Go.Proofs.YtlpcehbfoogejaaGreatDoor

/- A TABLE OF INODES: another entry of a file; an entry moves: what always holds stays so. -/
namespace Go.Wk
open Go Go.HL
variable {A : AT}
/-! ### Link -/
theorem linkE_z {dir : Int} {name : ByteArray} {ino : Int} (he : A.linkE dir name ino = 0) : A.isDir dir ∧ namedE name = 0 ∧ (∃ n, A.get ino = some n ∧ n.kind = 1) ∧ A.find dir name = none := by
  unfold AT.linkE at he
  obtain ⟨_, he⟩ := AT.firstE_z he
  obtain ⟨h1, he⟩ := AT.firstE_z he
  obtain ⟨h2, he⟩ := AT.firstE_z he
  obtain ⟨h3, he⟩ := AT.firstE_z he
  obtain ⟨h4, _⟩ := AT.firstE_z he
  refine ⟨AT.dirE_z h1, h2, AT.fileE_z h3, ?_⟩
  cases hf : A.find dir name with
  | none => rfl
  | some j => rw [hf] at h4; simp at h4
theorem linkR_ok {N : Nat} (h : Inv A) (hb : Bd N A) (hN : N < 4611686018427387904) (dir : Int) (name : ByteArray) (ino : Int) : Inv (A.linkR dir name ino).2 ∧ Bd (N + 1) (A.linkR dir name ino).2 ∧ ((A.linkR dir name ino).1 ≠ 0 → (A.linkR dir name ino).2 = A) ∧ (A.linkR dir name ino).2.qi = A.qi ∧ (A.linkR dir name ino).2.qb = A.qb := by
  unfold AT.linkR
  by_cases he : A.linkE dir name ino = 0
  case neg => rw [if_neg he]; exact ⟨h, hb.mono (by omega), fun _ => rfl, rfl, rfl⟩
  rw [if_pos he]
  obtain ⟨⟨nd, hd, hd2⟩, hnm, ⟨nn, hnn, hk1⟩, hfn⟩ := linkE_z he
  have hne : ino ≠ dir := by intro e; subst e; rw [hd] at hnn; cases hnn; omega
  have hfn' : lk name nd.ents = none := by unfold AT.find at hfn; rw [hd] at hfn; exact hfn
  have hlb : nn.links ≤ N := hb.links ino nn hnn
  have hi1 : ino ≠ 1 := by
    intro e; subst e
    obtain ⟨r, r1, r2, _⟩ := h.root
    rw [hnn] at r1; cases r1; omega
  have hl0 := h.links ino nn hnn hi1
  have wl : wr (nn.links + 1) = nn.links + 1 := wr_id (by omega) (by omega)
  have e1 : A.ent dir (up name ino) = A.set dir { nd with ents := up name ino nd.ents } := by unfold AT.ent; rw [hd]
  have g1 : (A.set dir { nd with ents := up name ino nd.ents }).get ino = some nn := by rw [AT.get_set_ne _ _ hne]; exact hnn
  have e2 : A.linked dir name ino = (A.set dir { nd with ents := up name ino nd.ents }).set ino { nn with links := nn.links + 1 } := by
    unfold AT.linked AT.mod; rw [e1, g1]; simp only; rw [wl]
  have hG : ∀ j, (A.linked dir name ino).get j = if j = ino then some { nn with links := nn.links + 1 } else if j = dir then some { nd with ents := up name ino nd.ents } else A.get j := by
    intro j; rw [e2, AT.get_set, AT.get_set]
  have hsum : ∀ f : AN → Nat, sumF f (A.linked dir name ino).nodes + f nd + f nn = sumF f A.nodes + f { nd with ents := up name ino nd.ents } + f { nn with links := nn.links + 1 } := by
    intro f
    have q1 := AT.sum_set (A.set dir { nd with ents := up name ino nd.ents }) f ino { nn with links := nn.links + 1 }
    have q2 := AT.sum_set A f dir { nd with ents := up name ino nd.ents }
    rw [g1] at q1; rw [hd] at q2
    simp only [Option.map_some, Option.getD_some] at q1 q2
    rw [e2]; omega
  have hcE : ∀ j, cntE j { nd with ents := up name ino nd.ents } = cntE j nd + one j ino := by
    intro j
    have := sumF_up (one j) name ino nd.ents
    rw [hfn'] at this
    simpa [cntE] using this
  have hrefs : ∀ j, (A.linked dir name ino).refs j = A.refs j + one j ino := by
    intro j
    have := hsum (cntE j)
    rw [hcE j] at this
    have e : cntE j { nn with links := nn.links + 1 } = cntE j nn := rfl
    unfold AT.refs; omega
  have hcase : ∀ j m, (A.linked dir name ino).get j = some m → (j = ino ∧ m = { nn with links := nn.links + 1 }) ∨ (j = dir ∧ m = { nd with ents := up name ino nd.ents }) ∨ (j ≠ ino ∧ j ≠ dir ∧ A.get j = some m) := by
    intro j m hm
    rw [hG] at hm
    by_cases e : j = ino
    · rw [if_pos e] at hm; cases hm; exact .inl ⟨e, rfl⟩
    · rw [if_neg e] at hm
      by_cases e' : j = dir
      · rw [if_pos e'] at hm; cases hm; exact .inr (.inl ⟨e', rfl⟩)
      · rw [if_neg e'] at hm; exact .inr (.inr ⟨e, e', hm⟩)
  have hx : ∀ j m, A.get j = some m → ∃ m', (A.linked dir name ino).get j = some m' ∧ m'.kind = m.kind ∧ m'.up = m.up := by
    intro j m hm
    rw [hG]
    by_cases e : j = ino
    · subst e; rw [if_pos rfl]; rw [hnn] at hm; cases hm; exact ⟨_, rfl, rfl, rfl⟩
    · rw [if_neg e]
      by_cases e' : j = dir
      · subst e'; rw [if_pos rfl]; rw [hd] at hm; cases hm; exact ⟨_, rfl, rfl, rfl⟩
      · rw [if_neg e']; exact ⟨m, hm, rfl, rfl⟩
  have hupO : ∀ k, A.isDir k → (A.linked dir name ino).upOf k = A.upOf k := by
    rintro k ⟨m, hm, _⟩
    obtain ⟨m', q1, _, q3⟩ := hx k m hm
    unfold AT.upOf; rw [hm, q1]; simp [q3]
  have hu : (A.linked dir name ino).ui = A.ui ∧ (A.linked dir name ino).ub = A.ub ∧ (A.linked dir name ino).qi = A.qi ∧ (A.linked dir name ino).qb = A.qb ∧ (A.linked dir name ino).last = A.last := by rw [e2]; exact ⟨rfl, rfl, rfl, rfl, rfl⟩
  have hone : one ino ino = 1 := by unfold one; simp
  show Inv (A.linked dir name ino) ∧ Bd (N + 1) (A.linked dir name ino) ∧ ((0 : Int) ≠ 0 → _) ∧ _ ∧ _
  refine ⟨⟨?_, ?_, ?_, ?_, ?_, ?_, ?_, ?_, ?_, ?_, ?_, ?_, ?_⟩, ⟨?_, ?_, ?_⟩, fun h => absurd rfl h, hu.2.2.1, hu.2.2.2.1⟩
  · rw [e2]; exact nodup_up (nodup_up h.nodup)
  · intro j m hm
    rcases hcase j m hm with ⟨_, rfl⟩ | ⟨_, rfl⟩ | ⟨_, _, hm⟩
    · exact h.enod ino nn hnn
    · exact nodup_up (h.enod dir nd hd)
    · exact h.enod j m hm
  · obtain ⟨r, r1, r2, r3⟩ := h.root
    obtain ⟨m', q1, q2, q3⟩ := hx 1 r r1
    exact ⟨m', q1, by rw [q2, r2], by rw [q3, r3]⟩
  · intro j m hm
    rw [hu.2.2.2.2]
    rcases hcase j m hm with ⟨rfl, _⟩ | ⟨rfl, _⟩ | ⟨_, _, hm⟩
    · exact h.low _ nn hnn
    · exact h.low _ nd hd
    · exact h.low j m hm
  · intro j m hm
    rcases hcase j m hm with ⟨_, rfl⟩ | ⟨_, rfl⟩ | ⟨_, _, hm⟩
    · exact h.like ino nn hnn
    · exact h.like dir nd hd
    · exact h.like j m hm
  · intro j m hm hk
    rcases hcase j m hm with ⟨_, rfl⟩ | ⟨_, rfl⟩ | ⟨_, _, hm⟩
    · exact h.file ino nn hnn hk
    · exact absurd hd2 hk
    · exact h.file j m hm hk
  · intro j m s t hm hs
    have fin : ∀ t m1, A.get t = some m1 → (m1.kind = 2 → m1.up = j) → ∃ m', (A.linked dir name ino).get t = some m' ∧ (m'.kind = 2 → m'.up = j) := by
      intro t m1 a3 a4
      obtain ⟨m', b1, b2, b3⟩ := hx t m1 a3
      exact ⟨m', b1, fun hk => by rw [b3]; exact a4 (by rw [← b2]; exact hk)⟩
    rcases hcase j m hm with ⟨rfl, rfl⟩ | ⟨rfl, rfl⟩ | ⟨_, _, hm⟩
    · obtain ⟨a1, a2, m1, a3, a4⟩ := h.ent j nn s t hnn hs
      exact ⟨a1, a2, fin t m1 a3 a4⟩
    · simp only [lk_up] at hs
      by_cases e : s = name
      · subst e
        simp at hs; subst hs
        exact ⟨hnm, hi1, fin ino nn hnn (fun hk => by omega)⟩
      · have e' : (s == name) = false := by simpa using e
        rw [e'] at hs
        obtain ⟨a1, a2, m1, a3, a4⟩ := h.ent j nd s t hd hs
        exact ⟨a1, a2, fin t m1 a3 a4⟩
    · obtain ⟨a1, a2, m1, a3, a4⟩ := h.ent j m s t hm hs
      exact ⟨a1, a2, fin t m1 a3 a4⟩
  · intro j m hm hj
    rw [hrefs]
    rcases hcase j m hm with ⟨rfl, rfl⟩ | ⟨rfl, rfl⟩ | ⟨hji, _, hm⟩
    · rw [hone]
      refine ⟨by show nn.links + 1 = _; omega, by omega, fun hk => ?_⟩
      have hk : nn.kind = 2 := hk
      omega
    · have : one j ino = 0 := by unfold one; rw [if_neg hne]
      rw [this]; exact h.links j nd hd hj
    · have : one j ino = 0 := by unfold one; rw [if_neg (fun e => hji e.symm)]
      rw [this]; exact h.links j m hm hj
  · rintro k ⟨m, hm, hk⟩
    have hkd : A.isDir k := by
      rcases hcase k m hm with ⟨rfl, rfl⟩ | ⟨rfl, rfl⟩ | ⟨_, _, hm⟩
      · have hk : nn.kind = 2 := hk
        omega
      · exact ⟨nd, hd, hk⟩
      · exact ⟨m, hm, hk⟩
    rw [deep_same h hupO 12 k hkd]; exact h.deep k hkd
  · have := hsum (fun _ => 1)
    rw [sumF_len, sumF_len] at this
    rw [hu.1, h.ui]; omega
  · have := hsum (fun n => n.data.size)
    rw [hu.2.1, h.ub]; unfold AT.bytes; simp only at this; omega
  · rw [hu.1, hu.2.2.1]; exact h.uq
  · rw [hu.2.1, hu.2.2.2.1]; exact h.bq
  · rw [hu.2.2.2.2]; have := hb.last; omega
  · intro j m hm
    rcases hcase j m hm with ⟨_, rfl⟩ | ⟨rfl, rfl⟩ | ⟨_, _, hm⟩
    · show nn.links + 1 ≤ _; omega
    · have := hb.links _ nd hd; simp only; omega
    · have := hb.links j m hm; omega
  · intro j m hm
    rcases hcase j m hm with ⟨_, rfl⟩ | ⟨rfl, rfl⟩ | ⟨_, _, hm⟩
    · have := hb.ents _ nn hnn; simp only; omega
    · have := hb.ents _ nd hd
      simp only
      rw [enc_up_new nd.ents name _ hfn']; simp; omega
    · have := hb.ents j m hm; omega
theorem hardF_ok {N : Nat} (h : Inv A) (hb : Bd N A) (hN : N < 4611686018427387904) (cwd src to : ByteArray) : OpOk (N + 1) A (A.hardF cwd src to) := by
  unfold AT.hardF
  simp only
  split
  · exact OpOk.self h (hb.mono (by omega)) _
  split
  · exact OpOk.self h (hb.mono (by omega)) _
  split
  · exact OpOk.self h (hb.mono (by omega)) _
  split
  · exact OpOk.self h (hb.mono (by omega)) _
  split
  · exact OpOk.self h (hb.mono (by omega)) _
  obtain ⟨a, b, c, d, e⟩ := linkR_ok h hb hN (A.both cwd src to).2.2.dir (A.both cwd src to).2.2.name (A.both cwd src to).2.1.ino
  exact ⟨a, b, c, d, e⟩
/-! ### Move -/
/-- so many steps up, a directory is reached for the first time -/
def Below (A : AT) (ino : Int) : Nat → Int → Prop
  | 0, k => k = ino
  | r + 1, k => k ≠ ino ∧ k ≠ 1 ∧ Below A ino r (A.upOf k)
end Go.Wk

/- Of: the tree at a path; the chapter's rows. -/
set_option maxRecDepth 100000
namespace Go.Proofs.YtlpcehbfoogejaaGreatDoor
open Go Go.HL Go.Wk
attribute [local irreducible] ptrW ifW brW andW rdT alW letJ stW muW biW vaW imW callT cvalT app callW invW callVW sizeT oW nilF oneK loopW rfW funW begW roundK exW idxW Gr Put
attribute [local irreducible] bothW
theorem canonF_eq (A : AT) (path : ByteArray) : A.canonF path = if (A.take 300 path).1 ≠ 0 then ((A.take 300 path).1, Tr.z) else if (A.take 300 path).2.check ≠ 0 then ((A.take 300 path).2.check, Tr.z) else (0, (A.take 300 path).2) := rfl
theorem s_Of {A : AT} {N : Nat} {σ : H} {bf : Nat} {B : Nat → Prop} (hI : Inv A) (hB : Bd N A) (hN : N ≤ 1000000000) (hF : FsAt σ bf A B) (path : ByteArray) (hp : path.size ≤ 100000) (hT : (A.take 300 path).1 = 0 → (A.take 300 path).2.total ≤ 1000000000000000) {K : Value → H → Prop}
    (hK : ∀ y σ' ρ, Gr σ σ' → Gr ρ σ' → (∀ b, σ b ≠ none → ρ b = none) → SlAt ρ (A.canonF path).2.kids y → K (.tuple ⟨[.agg ⟨trC (A.canonF path).2 y⟩, .int .i64 (A.canonF path).1]⟩) σ') : callW Tryz.prog 27 [.pointer (some ⟨bf, 0, none⟩), .string path] K σ := by
  refine c27 _ _ ?_
  unfold g27
  refine al_i ?_; intro b3 σ1 g1 e1 n1
  refine call_from g1 (s_at hI hB hN 300 path (by omega) hp hF (K := fun v τ' => ∃ t y ρ, v = .tuple ⟨[.agg ⟨trC t y⟩, .int .i64 (A.take 300 path).1]⟩ ∧ Gr σ τ' ∧ Gr ρ τ' ∧ (∀ b, σ b ≠ none → ρ b = none) ∧ ((A.take 300 path).1 = 0 → t = (A.take 300 path).2 ∧ SlAt ρ t.kids y)) (fun t y τ' ρ h1 h3 h4 h2 => ⟨t, y, ρ, rfl, h1, h3, h4, h2⟩)) ?_
  rintro v σ2 τ2 ⟨t, y, ρ, rfl, m1, mρ, mρ2, m2⟩ m3 m4 m5
  have k3 := m4 b3 _ n1 e1
  have t3 : τ2 b3 = none := m5 b3 (by rw [e1]; simp) n1
  rw [canonF_eq] at hK
  generalize A.take 300 path = T at hK hT m2 ⊢
  obtain ⟨te, tt⟩ := T
  simp only at hK hT m2 ⊢
  unfold trC
  (refine app_of rfl ?_; try dsimp only)
  refine al_i ?_; intro b10 σ3 g3 e3 n3
  have n310 : b3 ≠ b10 := ne_fr n3 (isSome_of k3)
  refine st_i2 e3 sz_Node (by rfl) (by rfl) ?_; intro σ4 p4
  have k3' := p4.get n310 (g3.get k3)
  have k10 : σ4 b10 = some (.cells ⟨trC t y⟩ 24 (0, 0)) := p4.same
  have G4 : Gr τ2 σ4 := m3.trans (g3.putF p4 n3)
  clear p4 g3 e3
  unfold trC at k10
  have bad : ∀ e : Int, (∀ y σ' ρ, Gr σ σ' → Gr ρ σ' → (∀ b, σ b ≠ none → ρ b = none) → SlAt ρ Tr.z.kids y → K (.tuple ⟨[.agg ⟨trC Tr.z y⟩, .int .i64 e]⟩) σ') → ∀ (F : ByteArray → Int → Bool → ByteArray → Sl → H → Prop), (∀ σ', K (.tuple ⟨[.agg ⟨[.string ⟨⟨[]⟩⟩, .int .i64 0, .bool false, .string ⟨⟨[]⟩⟩, .slice none 0 0]⟩, .int .i64 e]⟩) σ' → F ⟨⟨[]⟩⟩ 0 false ⟨⟨[]⟩⟩ ⟨none, 0, 0⟩ σ') → stW Tryz.prog 24 (.pointer (some ⟨b3, 0, none⟩)) (.agg ⟨[.string ⟨⟨[]⟩⟩, .int .i64 0, .bool false, .string ⟨⟨[]⟩⟩, .slice none 0 0]⟩) (ptrW (some ⟨b3, 0, none⟩) fun b o => rdT (rdA 5 b o) (.one (.agg [.str, (.int .i64), .bool, .str, .slc])) F) σ4 := by
    intro e hK F hF
    refine st_i2 k3' sz_Node (by rfl) (by rfl) ?_; intro σ5 p5
    refine ptr_i (rd_G (rdA_of' p5.same (by rfl)) ?_)
    (refine app_of rfl ?_; try dsimp only)
    exact hF σ5 (hK ⟨none, 0, 0⟩ σ5 (fun _ => none) (m1.trans (G4.putF p5 t3)) (gr_empty _) (fun _ _ => rfl) SlAt.nil)
  by_cases he : te = 0
  case neg =>
    rw [if_pos he] at hK
    refine j_d (br_f (by simpa using he) (br_t (by simpa using he) (bad te hK _ fun σ' h => h)))
  subst he
  rw [if_neg (by simp)] at hK
  obtain ⟨rfl, hs⟩ := m2 rfl
  refine j_d (br_t rfl (rd_G (rdA_of' k10 (by rfl)) ?_))
  (refine app_of rfl ?_; try dsimp only)
  refine call_i (s_Check t y (hs.gr (mρ.trans G4)) (hT rfl) (app_I ?_))
  by_cases hc : t.check = 0
  case neg =>
    rw [if_pos hc] at hK
    refine br_t (by simpa using hc) (bad t.check hK _ fun σ' h => h)
  rw [if_neg (by simpa using hc)] at hK
  rw [hc]
  refine br_f rfl (ptr_i (rd_G (rdA_of' k10 (by rfl)) ?_))
  (refine app_of rfl ?_; try dsimp only)
  refine st_i2 k3' sz_Node (by rfl) (by rfl) ?_; intro σ5 p5
  refine ptr_i (rd_G (rdA_of' p5.same (by rfl)) ?_)
  (refine app_of rfl ?_; try dsimp only)
  exact hK y σ5 ρ (m1.trans (G4.putF p5 t3)) (mρ.trans (G4.putF p5 t3)) mρ2 hs
/-! ### The chapter's rows -/
@[reducible] def bs (l : List UInt8) : ByteArray := ⟨⟨l⟩⟩
def u0 : AT := newT 20 200
def u1 : AT := (u0.mkdirF (bs [47]) (bs [111])).2
def u2 : AT := (u1.writeF (bs [47, 111]) (bs [120]) (bs [49]) false).2
def u3 : AT := (u2.chmodF (bs [47, 111]) (bs [120]) 448).2
def u4 : AT := (u3.symlinkF (bs [47, 111]) (bs [120]) (bs [108])).2
def u5 : AT := (u4.hardF (bs [47, 111]) (bs [120]) (bs [104])).2
theorem u0_ok : Inv u0 ∧ Bd 1 u0 := newT_ok rfl
theorem u1_ok : OpOk 2 u0 (u0.mkdirF (bs [47]) (bs [111])) := mkdirF_ok u0_ok.1 u0_ok.2 (by decide) _ _
theorem u2_ok : OpOk 3 u1 (u1.writeF (bs [47, 111]) (bs [120]) (bs [49]) false) := writeF_ok u1_ok.inv u1_ok.bd (by decide) _ _ _ _ (by decide)
theorem u3_ok : OpOk 3 u2 (u2.chmodF (bs [47, 111]) (bs [120]) 448) := chmodF_ok u2_ok.inv u2_ok.bd _ _ _
theorem u4_ok : OpOk 4 u3 (u3.symlinkF (bs [47, 111]) (bs [120]) (bs [108])) := symlinkF_ok u3_ok.inv u3_ok.bd (by decide) _ _ _
theorem u5_ok : OpOk 5 u4 (u4.hardF (bs [47, 111]) (bs [120]) (bs [104])) := hardF_ok u4_ok.inv u4_ok.bd (by decide) _ _ _
theorem uv1 : (u0.mkdirF (bs [47]) (bs [111])).1 = 0 := by decide +kernel
theorem uv2 : (u1.writeF (bs [47, 111]) (bs [120]) (bs [49]) false).1 = 0 := by decide +kernel
theorem uv3 : (u2.chmodF (bs [47, 111]) (bs [120]) 448).1 = 0 := by decide +kernel
theorem uv4 : (u3.symlinkF (bs [47, 111]) (bs [120]) (bs [108])).1 = 0 := by decide +kernel
theorem uv5 : (u4.hardF (bs [47, 111]) (bs [120]) (bs [104])).1 = 0 := by decide +kernel
def uT : Tr := .mk ⟨⟨[]⟩⟩ 2 false ⟨⟨[]⟩⟩ [.mk ⟨⟨[104]⟩⟩ 1 true ⟨⟨[49]⟩⟩ [], .mk ⟨⟨[108]⟩⟩ 3 false ⟨⟨[120]⟩⟩ [], .mk ⟨⟨[120]⟩⟩ 1 true ⟨⟨[49]⟩⟩ []]
theorem ut1 : u5.take 300 (bs [47, 111]) = (0, uT) := by kernel_rfl
theorem ut2 : u5.take 300 (bs [47, 112]) = (5, Tr.z) := by kernel_rfl
theorem uc1 : u5.canonF (bs [47, 111]) = (0, uT) := by kernel_rfl
theorem uc2 : u5.canonF (bs [47, 112]) = (5, Tr.z) := by kernel_rfl
theorem uT_total : uT.total ≤ 100 := by decide +kernel
theorem uT_same : uT.same uT = true := by decide +kernel
theorem x_file (name data : ByteArray) (exec : Bool) {σ : H} {K : Value → H → Prop} (hK : K (.agg ⟨[.string name, .int .i64 1, .bool exec, .string data, .slice none 0 0]⟩) σ) : callW Tryz.prog 40 [.string name, .string data, .bool exec] K σ := by
  refine pure_i _ hK (c40 _ _ _ ?_)
  unfold g40
  first
  | exact ⟨rfl, Gr.refl _⟩
  | (refine al_i ?_; intro b σ1 g1 e1 n1
     first
     | (refine st_i2 e1 sz_Node (by rfl) (by rfl) ?_; intro σ2 p2
        refine rd_G (rdA_of' p2.same (by rfl)) ?_
        (refine app_of rfl ?_; try dsimp only)
        exact ⟨rfl, g1.putF p2 n1⟩)
     | (refine rd_G (rdA_of' e1 (by rfl)) ?_
        (refine app_of rfl ?_; try dsimp only)
        exact ⟨rfl, g1⟩))
theorem x_link (name data : ByteArray) {σ : H} {K : Value → H → Prop} (hK : K (.agg ⟨[.string name, .int .i64 3, .bool false, .string data, .slice none 0 0]⟩) σ) : callW Tryz.prog 41 [.string name, .string data] K σ := by
  refine pure_i _ hK (c41 _ _ ?_)
  unfold g41
  first
  | exact ⟨rfl, Gr.refl _⟩
  | (refine al_i ?_; intro b σ1 g1 e1 n1
     first
     | (refine st_i2 e1 sz_Node (by rfl) (by rfl) ?_; intro σ2 p2
        refine rd_G (rdA_of' p2.same (by rfl)) ?_
        (refine app_of rfl ?_; try dsimp only)
        exact ⟨rfl, g1.putF p2 n1⟩)
     | (refine rd_G (rdA_of' e1 (by rfl)) ?_
        (refine app_of rfl ?_; try dsimp only)
        exact ⟨rfl, g1⟩))
end Go.Proofs.YtlpcehbfoogejaaGreatDoor

/- A TREE that is laid in the root, and taken again. -/
namespace Go.Wk
open Go Go.HL
end Go.Wk
namespace Go.Wk
open Go Go.HL
end Go.Wk

/- STEPS of laws: an operation whose answer is known. -/
set_option maxRecDepth 100000
namespace Go.Proofs.YtlpcehbfoogejaaGreatDoor
open Go Go.HL Go.Wk
attribute [local irreducible] ptrW ifW brW andW rdT alW letJ stW muW biW vaW imW callT cvalT app callW invW callVW sizeT oW nilF oneK loopW rfW funW begW roundK exW idxW Gr Put
attribute [local irreducible] bothW
section
variable {σ : H} {bf N : Nat} {A : AT} {B : Nat → Prop} {F : Int → H → Prop} {e : Int}
theorem k_Mkdir (hI : Inv A) (hB : Bd N A) (hN : N ≤ 1000000000000) (hF : FsAt σ bf A B) {cwd path : ByteArray} (he : (A.mkdirF cwd path).1 = e) (h : ∀ σ' B', FsAt σ' bf (A.mkdirF cwd path).2 B' → Sep σ B σ' B' → F e σ') : callT Tryz.prog 16 [.pointer (some ⟨bf, 0, none⟩), .string cwd, .string path] kI F σ :=
  call_i (s_Mkdir hI hB hN hF cwd path fun σ' B' h1 h2 => by rw [he]; exact app_I (h σ' B' h1 h2))
theorem k_Symlink (hI : Inv A) (hB : Bd N A) (hN : N ≤ 1000000000000) (hF : FsAt σ bf A B) {cwd target path : ByteArray} (he : (A.symlinkF cwd target path).1 = e) (h : ∀ σ' B', FsAt σ' bf (A.symlinkF cwd target path).2 B' → Sep σ B σ' B' → F e σ') : callT Tryz.prog 22 [.pointer (some ⟨bf, 0, none⟩), .string cwd, .string target, .string path] kI F σ :=
  call_i (s_Symlink hI hB hN hF cwd target path fun σ' B' h1 h2 => by rw [he]; exact app_I (h σ' B' h1 h2))
theorem k_Write (hI : Inv A) (hB : Bd N A) (hN : N ≤ 1000000000000) (hF : FsAt σ bf A B) {cwd path data : ByteArray} {more : Bool} (hd : data.size ≤ 1000000000000000) (he : (A.writeF cwd path data more).1 = e) (h : ∀ σ' B', FsAt σ' bf (A.writeF cwd path data more).2 B' → Sep σ B σ' B' → F e σ') : callT Tryz.prog 21 [.pointer (some ⟨bf, 0, none⟩), .string cwd, .string path, .string data, .bool more] kI F σ :=
  call_i (s_Write hI hB hN hF cwd path data more hd fun σ' B' h1 h2 => by rw [he]; exact app_I (h σ' B' h1 h2))
theorem k_Chmod (hF : FsAt σ bf A B) {cwd path : ByteArray} {mode : Int} (he : (A.chmodF cwd path mode).1 = e) (h : ∀ σ' B', FsAt σ' bf (A.chmodF cwd path mode).2 B' → Sep σ B σ' B' → F e σ') : callT Tryz.prog 26 [.pointer (some ⟨bf, 0, none⟩), .string cwd, .string path, .int .i64 mode] kI F σ :=
  call_i (s_Chmod hF cwd path mode fun σ' B' h1 h2 => by rw [he]; exact app_I (h σ' B' h1 h2))
theorem k_Hard (hF : FsAt σ bf A B) {cwd src to : ByteArray} (he : (A.hardF cwd src to).1 = e) (h : ∀ σ' B', FsAt σ' bf (A.hardF cwd src to).2 B' → Sep σ B σ' B' → F e σ') : callT Tryz.prog 25 [.pointer (some ⟨bf, 0, none⟩), .string cwd, .string src, .string to] kI F σ :=
  call_i (s_Hard hF cwd src to fun σ' B' h1 h2 => by rw [he]; exact app_I (h σ' B' h1 h2))
/-- Of, and its answer is kept -/
theorem k_Of (hI : Inv A) (hB : Bd N A) (hN : N ≤ 1000000000) (hF : FsAt σ bf A B) {path : ByteArray} (hp : path.size ≤ 100000) {T : Tr} (hc : A.canonF path = (e, T)) (hT : (A.take 300 path).1 = 0 → (A.take 300 path).2.total ≤ 1000000000000000) {G : Nat → Int → H → Prop}
    (h : ∀ b y σ' ρ, Gr σ σ' → σ b = none → σ' b = some (.cells ⟨trC T y⟩ 24 (0, 0)) → Gr ρ σ' → ρ b = none → (∀ c, σ c ≠ none → ρ c = none) → SlAt ρ T.kids y → G b e σ') :
    callT Tryz.prog 27 [.pointer (some ⟨bf, 0, none⟩), .string path] (.tup [.agg [.str, (.int .i64), .bool, .str, .slc], .sc (.int .i64)]) (fun (x1 : ByteArray) (x2 : Int) (x3 : Bool) (x4 : ByteArray) (x5 : Sl) (x6 : Int) =>
      alW (.cells ⟨[.string (⟨⟨[]⟩⟩ : ByteArray), .int .i64 0, .bool false, .string (⟨⟨[]⟩⟩ : ByteArray), .slice none 0 0]⟩ 24 (0, 0)) (fun (b : Nat) => stW Tryz.prog 24 (.pointer (some ⟨b, 0, none⟩)) (.agg ⟨[.string x1, .int .i64 x2, .bool x3, .string x4, .slice x5.base x5.len x5.cap]⟩) (G b x6))) σ := by
  refine call_i (s_Of hI hB hN hF path hp hT ?_)
  intro y σ1 ρ g1 r1 r2 r3
  rw [hc] at r3 ⊢
  unfold trC
  (refine app_of rfl ?_; try dsimp only)
  refine al_i ?_; intro b σ2 g2 e2 n2
  refine st_i2 e2 sz_Node (by rfl) (by rfl) ?_; intro σ3 p3
  exact h b y σ3 ρ (g1.trans (g2.putF p3 n2)) (none_of g1 n2) p3.same (r1.trans (g2.putF p3 n2)) (none_of r1 n2) r2 r3
end
theorem uT_at {σ : H} {b : Nat} {ty : TypeId} {fz : Nat × Nat} (h : σ b = some (.cells ⟨[.string ⟨⟨[104]⟩⟩, .int .i64 1, .bool true, .string ⟨⟨[49]⟩⟩, .slice none 0 0, .string ⟨⟨[108]⟩⟩, .int .i64 3, .bool false, .string ⟨⟨[120]⟩⟩, .slice none 0 0, .string ⟨⟨[120]⟩⟩, .int .i64 1, .bool true, .string ⟨⟨[49]⟩⟩, .slice none 0 0]⟩ ty fz)) : SlAt σ uT.kids ⟨some ⟨b, 0, none⟩, 3, 3⟩ := by
  refine ⟨rfl, .inr ⟨b, 0, _, _, _, rfl, h, ?_⟩⟩
  refine ⟨trAt_iff.2 ⟨⟨none, 0, 0⟩, rfl, SlAt.nil⟩, trAt_iff.2 ⟨⟨none, 0, 0⟩, rfl, SlAt.nil⟩, trAt_iff.2 ⟨⟨none, 0, 0⟩, rfl, SlAt.nil⟩, trivial⟩
theorem s_works10 {σ : H} {K : Value → H → Prop} (hK : K (.bool true) σ) : callW Tryz.prog 24 [] K σ := by
  refine pure_i _ hK (c24 ?_)
  clear hK
  unfold g24
  refine call_i (s_New 20 200 (fun h => by cases h) ?_)
  intro _ bf σ1 B1 F1 g1 hf1
  have O1 := Off.new g1 hf1
  refine app_P ?_
  refine j_i (fun j => ∀ σ2 B2, FsAt σ2 bf u5 B2 → Off σ σ2 B2 → j (some ⟨bf, 0, none⟩) false σ2) ?_ ?_
  case refine_2 =>
    intro j hj
    refine br_f rfl (k_Mkdir u0_ok.1 u0_ok.2 (by decide) F1 uv1 ?_); intro σ2 B2 F2 S2
    refine br_f rfl (k_Write u1_ok.inv u1_ok.bd (by decide) F2 (by decide) uv2 ?_); intro σ3 B3 F3 S3
    refine br_f rfl (k_Chmod (A := u2) F3 uv3 ?_); intro σ4 B4 F4 S4
    refine br_f rfl (k_Symlink u3_ok.inv u3_ok.bd (by decide) F4 uv4 ?_); intro σ5 B5 F5 S5
    refine br_f rfl (k_Hard (A := u4) F5 uv5 ?_); intro σ6 B6 F6 S6
    exact hj σ6 B6 F6 (((((O1.sep S2).sep S3).sep S4).sep S5).sep S6)
  intro σ2 B2 F2 O2
  refine br_f rfl (k_Of (A := u5) u5_ok.inv u5_ok.bd (by decide) F2 (by decide) uc1 (fun _ => by rw [ut1]; exact Nat.le_trans uT_total (by decide)) ?_)
  intro b11 y σ3 ρ g3 n3 e3 r3 _ _ hs
  refine k_Of (A := u5) u5_ok.inv u5_ok.bd (by decide) (F2.gr g3) (by decide) uc2 (fun h => by rw [ut2] at h; cases h) ?_
  intro b18 y2 σ4 ρ2 g4 n4 e4 r4 _ _ _
  have k11 := g4.get e3
  unfold trC at k11
  refine br_t rfl (br_t rfl (rd_G (rdA_of' k11 (by rfl)) ?_))
  (refine app_of rfl ?_; try dsimp only)
  refine call_i (x_file _ _ _ ?_)
  (refine app_of rfl ?_; try dsimp only)
  refine and_i (rdA_of' k11 (by rfl)) (call_i (x_link _ _ ?_))
  (refine app_of rfl ?_; try dsimp only)
  refine and_i (rdA_of' k11 (by rfl)) (call_i (x_file _ _ _ ?_))
  (refine app_of rfl ?_; try dsimp only)
  refine and_i (rdA_of' k11 (by rfl)) ?_
  refine al_i ?_; intro b39 σ5 g5 e5 n5
  refine call_i (s_Same uT y uT ⟨some ⟨b39, 0, none⟩, 3, 3⟩ (hs.gr ((r3.trans g4).trans g5)) (uT_at e5) (Nat.le_trans uT_total (by decide)) (Nat.le_trans uT_total (by decide)) ?_)
  rw [uT_same]
  exact app_B ⟨rfl, ((O2.1.trans g3).trans g4).trans g5⟩
end Go.Proofs.YtlpcehbfoogejaaGreatDoor

/- CanonModes: the walk and the law. -/
set_option maxRecDepth 100000
namespace Go.Proofs.YtlpcehbfoogejaaGreatDoor
open Go Go.HL Go.Wk
attribute [local irreducible] ptrW ifW brW andW rdT alW letJ stW muW biW vaW imW callT cvalT app callW invW callVW sizeT oW nilF oneK loopW rfW funW begW roundK exW idxW Gr Put
attribute [local irreducible] bothW
def mz0 : AT := newT 20 1000
def mz1 : AT := (mz0.mkdirF (bs [47]) (bs [112])).2
def mz2 : AT := (mz1.mkdirF (bs [47]) (bs [113])).2
theorem mz0_ok : Inv mz0 ∧ Bd 1 mz0 := newT_ok rfl
theorem mz1_ok : OpOk 2 mz0 (mz0.mkdirF (bs [47]) (bs [112])) := mkdirF_ok mz0_ok.1 mz0_ok.2 (by decide) _ _
theorem mz2_ok : OpOk 3 mz1 (mz1.mkdirF (bs [47]) (bs [113])) := mkdirF_ok mz1_ok.inv mz1_ok.bd (by decide) _ _
theorem mv1 : (mz0.mkdirF (bs [47]) (bs [112])).1 = 0 := by decide +kernel
theorem mv2 : (mz1.mkdirF (bs [47]) (bs [113])).1 = 0 := by decide +kernel
def mz3 (d : ByteArray) : AT := mz2.made 2 (bs [120]) 1 420 d
def mz4 (d : ByteArray) : AT := (mz3 d).made 3 (bs [120]) 1 420 d
def mz5 (d : ByteArray) : AT := (mz4 d).linked 1 (bs [121]) 5
def mz6 (d : ByteArray) (m : Int) : AT := (mz5 d).chmoded 4 m
def mz7 (d : ByteArray) (m n : Int) : AT := (mz6 d m).chmoded 5 n
def mz8 (d : ByteArray) (m n : Int) : AT := (mz7 d m n).chmoded 3 n
theorem ml3 : mz2.locate (bs [47]) (bs [112, 47, 120]) true = (0, ⟨2, bs [120], 0, false⟩) := by kernel_rfl
theorem ml4 (d : ByteArray) : (mz3 d).locate (bs [47]) (bs [113, 47, 120]) true = (0, ⟨3, bs [120], 0, false⟩) := by kernel_rfl
theorem mh5 (d : ByteArray) : (mz4 d).hardF (bs [47]) (bs [113, 47, 120]) (bs [121]) = (0, mz5 d) := by kernel_rfl
theorem mw6 (d : ByteArray) : (mz5 d).with_ (bs [47]) (bs [112, 47, 120]) true = (0, 4, ⟨1, 420, d, 1⟩) := by kernel_rfl
theorem mw7 (d : ByteArray) (m : Int) : (mz6 d m).with_ (bs [47]) (bs [121]) true = (0, 5, ⟨1, 420, d, 2⟩) := by kernel_rfl
theorem mw8 (d : ByteArray) (m n : Int) : (mz7 d m n).with_ (bs [47]) (bs [113]) true = (0, 3, ⟨2, 493, ⟨⟨[]⟩⟩, 1⟩) := by kernel_rfl
def mK (d : ByteArray) (m : Int) : Tr := .mk (bs [120]) 1 (xOf 1 m) d []
def mT (d : ByteArray) (m : Int) : Tr := .mk ⟨⟨[]⟩⟩ 2 false ⟨⟨[]⟩⟩ [mK d m]
theorem mt1 (d : ByteArray) (m n : Int) : (mz8 d m n).take 300 (bs [47, 112]) = (0, mT d m) := by kernel_rfl
theorem mt2 (d : ByteArray) (m n : Int) : (mz8 d m n).take 300 (bs [47, 113]) = (0, mT d n) := by kernel_rfl
theorem mT_deep (d : ByteArray) (m : Int) : (mT d m).tooDeep = false ∧ (mK d m).tooDeep = false := ⟨by kernel_rfl, by kernel_rfl⟩
theorem mT_may (d : ByteArray) (m : Int) : (mT d m).may = true := by kernel_rfl
theorem mT_check {d : ByteArray} (m : Int) (hd : d.size ≤ 100) : (mT d m).check = 0 := by
  refine check_of (mT_deep d m).1 rfl (mT_may d m) ?_ ?_
  · show 1 + (1 + 0 + 0) ≤ 2000; omega
  · show 0 + (d.size + 0 + 0) ≤ 100000; omega
theorem mT_total {d : ByteArray} (m : Int) (hd : d.size ≤ 100) : (mT d m).total ≤ 1000 := by
  show 1 + 0 + 0 + ((1 + 1 + d.size + 0) + 0) ≤ 1000; omega
theorem mT_same (d : ByteArray) (m n : Int) : (mT d m).same (mT d n) = (xOf 1 m == xOf 1 n) := by
  rw [Tr.same_eq, (mT_deep d m).1, (mT_deep d n).1]
  show (true && (true && (true && (true && (true && (true && (true && ((mK d m).same (mK d n) && true)))))))) = _
  rw [Tr.same_eq, (mT_deep d m).2, (mT_deep d n).2]
  show (true && (true && (true && (true && (true && (true && (true && (true && (true && ((xOf 1 m == xOf 1 n) && (sEq d d && (true && true))))))) && true))))) = _
  rw [sEq_self]
  simp
theorem mcan {A : AT} {p : ByteArray} {d : ByteArray} {m : Int} (h : A.take 300 p = (0, mT d m)) (hd : d.size ≤ 100) : A.canonF p = (0, mT d m) := by
  unfold AT.canonF; rw [h]; simp [mT_check m hd]
theorem mz2_e : (mz1.mkdirF (bs [47]) (bs [113])).2 = mz2 := rfl
theorem mz2_in : Inv mz2 := mz2_ok.inv
theorem mz2_bd : Bd 3 mz2 := mz2_ok.bd
theorem mz3_n (d : ByteArray) : (mz3 d).qb = 1000 ∧ (mz3 d).ui = 4 ∧ (mz3 d).qi = 20 ∧ (mz3 d).kind 3 = 2 ∧ (mz3 d).find 3 (bs [120]) = none := ⟨by kernel_rfl, by kernel_rfl, by kernel_rfl, by kernel_rfl, by kernel_rfl⟩
theorem mz5_h (d : ByteArray) : ((mz5 d).get 4).isSome = true := by kernel_rfl
theorem mz6_h (d : ByteArray) (m : Int) : ((mz6 d m).get 5).isSome = true := by kernel_rfl
theorem mz7_h (d : ByteArray) (m n : Int) : ((mz7 d m n).get 3).isSome = true := by kernel_rfl
theorem mz3_e (d : ByteArray) : mz2.made 2 (bs [120]) 1 420 d = mz3 d := rfl
theorem mz4_e (d : ByteArray) : (mz3 d).made 3 (bs [120]) 1 420 d = mz4 d := rfl
theorem mz6_e (d : ByteArray) (m : Int) : (mz5 d).chmoded 4 m = mz6 d m := rfl
theorem mz7_e (d : ByteArray) (m n : Int) : (mz6 d m).chmoded 5 n = mz7 d m n := rfl
theorem mz8_e (d : ByteArray) (m n : Int) : (mz7 d m n).chmoded 3 n = mz8 d m n := rfl
theorem mz3_ub (d : ByteArray) (hd : d.size ≤ 100) : (mz3 d).ub = d.size := by
  have h2 : mz2.ub = 0 := by decide +kernel
  show wr (mz2.ub + d.size) = _
  rw [h2, wr_id (by omega) (by omega)]; omega
attribute [local irreducible] mz2 mz3 mz4 mz5 mz6 mz7 mz8
section
variable {d : ByteArray} {m n : Int}
theorem mm3 (hd : d.size ≤ 100) : mz2.writeF (bs [47]) (bs [112, 47, 120]) d false = (0, mz3 d) := by
  unfold AT.writeF
  rw [ml3]
  simp only [ne_eq, not_true_eq_false, if_false, if_true]
  have h1 : mz2.ub = 0 := by decide +kernel
  have h2 : mz2.qb = 1000 := by decide +kernel
  have he : mz2.makeE 2 (bs [120]) 1 420 d = 0 :=
    makeE_of (kind_dir (by decide +kernel)) (by decide +kernel) (by unfold likeE kindOkE; simp [lk]) (by decide +kernel) (room_of mz2_in (by decide +kernel) (by rw [h1, h2]; omega))
  rw [makeR_z he, mz3_e]
theorem mz3_ok (hd : d.size ≤ 100) : Inv (mz3 d) ∧ Bd 4 (mz3 d) := by
  have := writeF_ok mz2_in mz2_bd (by decide) (bs [47]) (bs [112, 47, 120]) d false (by omega)
  rw [mm3 hd] at this; exact ⟨this.inv, this.bd⟩
theorem mm4 (hd : d.size ≤ 100) : (mz3 d).writeF (bs [47]) (bs [113, 47, 120]) d false = (0, mz4 d) := by
  unfold AT.writeF
  rw [ml4]
  simp only [ne_eq, not_true_eq_false, if_false, if_true]
  obtain ⟨h4, h5, h6, h7, h8⟩ := mz3_n d
  have he : (mz3 d).makeE 3 (bs [120]) 1 420 d = 0 :=
    makeE_of (kind_dir h7) (by decide +kernel) (by unfold likeE kindOkE; simp [lk]) h8 (room_of (mz3_ok hd).1 (by rw [h5, h6]; decide) (by rw [mz3_ub d hd, h4]; omega))
  rw [makeR_z he, mz4_e]
theorem mz4_ok (hd : d.size ≤ 100) : Inv (mz4 d) ∧ Bd 5 (mz4 d) := by
  have := writeF_ok (mz3_ok hd).1 (mz3_ok hd).2 (by decide) (bs [47]) (bs [113, 47, 120]) d false (by omega)
  rw [mm4 hd] at this; exact ⟨this.inv, this.bd⟩
theorem mz5_ok (hd : d.size ≤ 100) : Inv (mz5 d) ∧ Bd 6 (mz5 d) := by
  have := hardF_ok (mz4_ok hd).1 (mz4_ok hd).2 (by decide) (bs [47]) (bs [113, 47, 120]) (bs [121])
  rw [mh5] at this; exact ⟨this.inv, this.bd⟩
theorem chm {A : AT} {p : ByteArray} {i : Int} {x : IN} (hw : A.with_ (bs [47]) p true = (0, i, x)) (hm : 0 ≤ m ∧ m ≤ 511) (hi : (A.get i).isSome = true) : A.chmodF (bs [47]) p m = (0, A.chmoded i m) := by
  unfold AT.chmodF
  rw [if_neg (by omega), hw]
  simp only [ne_eq, not_true_eq_false, if_false]
  unfold AT.chmodR AT.chmodE
  rw [if_pos hm, hi]
  rfl
theorem mm6 (hm : 0 ≤ m ∧ m ≤ 511) : (mz5 d).chmodF (bs [47]) (bs [112, 47, 120]) m = (0, mz6 d m) := by rw [chm (mw6 d) hm (mz5_h d), mz6_e]
theorem mm7 (hn : 0 ≤ n ∧ n ≤ 511) : (mz6 d m).chmodF (bs [47]) (bs [121]) n = (0, mz7 d m n) := by rw [chm (mw7 d m) hn (mz6_h d m), mz7_e]
theorem mm8 (hn : 0 ≤ n ∧ n ≤ 511) : (mz7 d m n).chmodF (bs [47]) (bs [113]) n = (0, mz8 d m n) := by rw [chm (mw8 d m n) hn (mz7_h d m n), mz8_e]
theorem mz8_ok (hd : d.size ≤ 100) (hm : 0 ≤ m ∧ m ≤ 511) (hn : 0 ≤ n ∧ n ≤ 511) : Inv (mz8 d m n) ∧ Bd 6 (mz8 d m n) := by
  have h6 := chmodF_ok (mz5_ok hd).1 (mz5_ok hd).2 (bs [47]) (bs [112, 47, 120]) m
  rw [mm6 hm] at h6
  have i6 : Inv (mz6 d m) := h6.inv
  have b6 : Bd 6 (mz6 d m) := h6.bd
  have h7 := chmodF_ok i6 b6 (bs [47]) (bs [121]) n
  rw [mm7 hn] at h7
  have i7 : Inv (mz7 d m n) := h7.inv
  have b7 : Bd 6 (mz7 d m n) := h7.bd
  have h8 := chmodF_ok i7 b7 (bs [47]) (bs [113]) n
  rw [mm8 hn] at h8
  exact ⟨h8.inv, h8.bd⟩
end
theorem tmod512 {a : Int} (h : 0 ≤ a ∧ a ≤ 65535) : ∃ m : Int, IntKind.i64.wrap (Int.tmod a 512) = m ∧ 0 ≤ m ∧ m ≤ 511 := by
  have h1 : Int.tmod a 512 = a % 512 := Int.tmod_eq_emod_of_nonneg h.1
  refine ⟨a % 512, ?_, by omega, by omega⟩
  rw [h1, wrap_id (by omega) (by omega)]
theorem s_CanonModes (data : ByteArray) (a : Int) (ha : (0 : Int) ≤ a ∧ a ≤ 65535) (b : Int) (hb : (0 : Int) ≤ b ∧ b ≤ 65535) {σ : H} {K : Value → H → Prop} (hK : ∀ σ', Gr σ σ' → K (.bool true) σ') : callW Tryz.prog 5 [.string data, .int .u16 a, .int .u16 b] K σ := by
  refine c5 _ _ _ ?_
  unfold g5
  refine call_i (s_works10 (app_B (br_f rfl ?_)))
  have e100 : (if 100 < ((data.size : Nat) : Int) then (100 : Int) else ((data.size : Nat) : Int)).toNat = min data.size 100 := by split <;> omega
  rw [e100]
  refine if_i ⟨bnd_some (by split <;> omega) (by split <;> omega), bnd_none⟩ ?_
  have hd : (data.extract 0 (min data.size 100)).size ≤ 100 := tk_size 100 data
  generalize data.extract 0 (min data.size 100) = d at *
  obtain ⟨m, em, hm⟩ := tmod512 ha
  obtain ⟨n, en, hn⟩ := tmod512 hb
  refine call_i (s_New 20 1000 (fun h => by cases h) ?_)
  intro _ bf σ1 B1 F1 g1 hf1
  have O1 := Off.new g1 hf1
  refine app_P ?_
  refine j_i (fun j => ∀ σ2 B2, FsAt σ2 bf (mz5 d) B2 → Off σ σ2 B2 → j a b (some ⟨bf, 0, none⟩) false σ2) ?_ ?_
  case refine_2 =>
    intro j hj
    refine br_f rfl (k_Mkdir mz0_ok.1 mz0_ok.2 (by decide) F1 mv1 ?_); intro σ2 B2 F2 S2
    refine br_f rfl (k_Mkdir (A := mz1) mz1_ok.inv mz1_ok.bd (by decide) F2 mv2 ?_); intro σ3 B3 F3 S3
    have F3 : FsAt σ3 bf mz2 B3 := mz2_e ▸ F3
    refine br_f rfl (k_Write (A := mz2) (e := 0) mz2_in mz2_bd (by decide) F3 (by omega) (by rw [mm3 hd]) ?_); intro σ4 B4 F4 S4
    rw [mm3 hd] at F4
    refine br_f rfl (k_Write (A := mz3 d) (e := 0) (mz3_ok hd).1 (mz3_ok hd).2 (by decide) F4 (by omega) (by rw [mm4 hd]) ?_); intro σ5 B5 F5 S5
    rw [mm4 hd] at F5
    refine br_f rfl (k_Hard (A := mz4 d) (e := 0) F5 (by rw [mh5]) ?_); intro σ6 B6 F6 S6
    rw [mh5] at F6
    exact hj σ6 B6 F6 (((((O1.sep S2).sep S3).sep S4).sep S5).sep S6)
  intro σ2 B2 F2 O2
  refine br_f rfl (if_i (by decide) (if_i (by decide) ?_))
  rw [em, en]
  refine j_i (fun j => ∀ σ2 B2, FsAt σ2 bf (mz8 d m n) B2 → Off σ σ2 B2 → j (some ⟨bf, 0, none⟩) m n false σ2) ?_ ?_
  case refine_2 =>
    intro j hj
    refine k_Chmod (A := mz5 d) (e := 0) F2 (by rw [mm6 hm]) ?_; intro σ3 B3 F3 S3
    rw [mm6 hm] at F3
    refine br_f rfl (k_Chmod (A := mz6 d m) (e := 0) F3 (by rw [mm7 hn]) ?_); intro σ4 B4 F4 S4
    rw [mm7 hn] at F4
    refine br_f rfl (k_Chmod (A := mz7 d m n) (e := 0) F4 (by rw [mm8 hn]) ?_); intro σ5 B5 F5 S5
    rw [mm8 hn] at F5
    exact hj σ5 B5 F5 (((O2.sep S3).sep S4).sep S5)
  intro σ3 B3 F3 O3
  obtain ⟨hI, hB⟩ := mz8_ok (d := d) hd hm hn
  refine br_f rfl (k_Of (A := mz8 d m n) hI hB (by decide) F3 (by decide) (mcan (mt1 d m n) hd) (fun _ => by rw [mt1]; exact Nat.le_trans (mT_total m hd) (by decide)) ?_)
  intro b22 y1 σ4 ρ1 g4 n4 e4 r4 _ _ hs1
  refine k_Of (A := mz8 d m n) hI hB (by decide) (F3.gr g4) (by decide) (mcan (mt2 d m n) hd) (fun _ => by rw [mt2]; exact Nat.le_trans (mT_total n hd) (by decide)) ?_
  intro b29 y2 σ5 ρ2 g5 n5 e5 r5 _ _ hs2
  have k22 := g5.get e4
  unfold trC at k22 e5
  refine br_t rfl (br_t rfl (rd_G (rdA_of' k22 (by rfl)) ?_))
  (refine app_of rfl ?_; try dsimp only)
  refine rd_G (rdA_of' e5 (by rfl)) ?_
  (refine app_of rfl ?_; try dsimp only)
  refine call_i (s_Same (mT d m) y1 (mT d n) y2 (hs1.gr (r4.trans g5)) (hs2.gr r5) (Nat.le_trans (mT_total m hd) (by decide)) (Nat.le_trans (mT_total n hd) (by decide)) ?_)
  rw [mT_same]
  refine app_B ?_
  have : ((xOf 1 m == xOf 1 n) == (((bitV .and .i64 m 73 : Int) != 0) == ((bitV .and .i64 n 73 : Int) != 0))) = true := by
    show (((true && ((bitV .and .i64 m 73 : Int) != 0)) == (true && ((bitV .and .i64 n 73 : Int) != 0))) == _) = true
    simp
  rw [this]
  exact hK σ5 ((O3.1.trans g4).trans g5)
end Go.Proofs.YtlpcehbfoogejaaGreatDoor

