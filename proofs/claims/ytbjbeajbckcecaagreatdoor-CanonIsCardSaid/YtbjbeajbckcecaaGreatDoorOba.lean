/- A part of the proof: CanonIs holds. -/
import Derived.Test.YtbjbeajbckcecaaGreatDoorOaz
set_option maxRecDepth 100000
namespace Go.Proofs.YtbjbeajbckcecaaGreatDoor
open Go Go.HL Go.Wk
attribute [local irreducible] ptrW ifW brW andW rdT alW letJ stW muW biW vaW imW callT cvalT app callW invW callVW sizeT oW nilF oneK loopW rfW funW begW roundK exW idxW Gr Put
theorem rt_deep (t : Tr) : decide ((t.deep 14 : Int) > 12) = t.tooDeep := rfl
theorem nul_take {l : List UInt8} (h : ∀ c ∈ l, (c == 0) = false) : (l.any fun c => c == 0) = false := by
 rw [List.any_eq_false]
 intro x hx
 rw [h x hx]; decide
theorem s_rtMay : ∀ (t : Tr) (y : Sl) {σ : H}, SlAt σ t.kids y -> t.total <= 1000000000000 -> ∀ {K : KH}, K (.bool t.may) σ -> callW Tryz.prog 157 [.agg ⟨trC t y⟩] K σ := by
 refine Tr.ind (P := fun t => ∀ (y : Sl) {σ : H}, SlAt σ t.kids y -> t.total <= 1000000000000 -> ∀ {K : KH}, K (.bool t.may) σ -> callW Tryz.prog 157 [.agg ⟨trC t y⟩] K σ) ?_
 intro t ih y σ hs hT K hK
 refine pure_i _ hK (c157 _ _ _ _ _ ?_)
 clear hK
 unfold g157
 refine al_i ?_; intro b6 σ1 g1 e1 n1
 have hs1 := hs.gr g1
 have hT1 := kids_total t
 have htot : 1 + t.name.size + t.data.size + Tr.totalRow t.kids = t.total := by obtain ⟨n, k, e, d, kids⟩ := t; simp only [Tr.total, Tr.name, Tr.kids, Tr.data]
 refine rd_I (rdC_of e1 (by rfl)) ?_
 have hmay : t.may = if t.kind = 1 then t.kids.isEmpty else if t.kind = 3 then t.kids.isEmpty && (!t.exec && linkOk t.data) else if t.kind = 2 then !t.exec && (sEq t.data ⟨⟨[]⟩⟩ && Tr.mayRow none t.kids) else false := by
  obtain ⟨n, k, e, d, kids⟩ := t
  rw [Tr.may]; rfl
 rw [hmay]
 have hem : ((((y.len : Nat) : Int) : Int) == 0) = t.kids.isEmpty := by
  rw [hs.1]
  cases t.kids with
  | nil => rfl
  | cons a r => simp only [List.isEmpty_cons, List.length_cons, beq_eq_false_iff_ne]; omega
 by_cases k1 : t.kind = 1
 ·rw [if_pos k1]
  exact br_t (by simpa using k1) (rd_L (rdC_of e1 (by rfl)) ⟨by rw [hem], g1⟩)
 rw [if_neg k1]
 refine br_f (by simpa using k1) ?_
 by_cases k3 : t.kind = 3
 ·rw [if_pos k3]
  refine br_t (by simpa using k3) (loop_i ?_)
  intro R hR
  have hdl : t.data.data.toList.length = t.data.size := (size_list _).symm
  have key : ∀ (c i : Nat), c + i = t.data.size -> (∀ ch ∈ t.data.data.toList.take i, (ch == 0) = false) -> R (some ⟨b6, 0, none⟩) (i : Int) σ1 := by
   intro c
   induction c with
   | zero =>
    intro i hc hno
    rw [List.take_of_length_le (by omega)] at hno
    have hn0 : hasNul t.data = false := nul_take hno
    refine hR _ _ _ ?_
    refine ptr_i (rd_S (rdC_of e1 (by rfl)) (br_f (by simp only [decide_eq_false_iff_not]; omega) (ptr_i (rd_B (rdC_of e1 (by rfl)) ?_))))
    have hln : linkOk t.data = (decide ((((t.data.size : Nat) : Int) : Int) >= 1) && decide ((((t.data.size : Nat) : Int) : Int) <= 255)) := by
     unfold linkOk
     rw [hn0]
     have h1 : (!sEq t.data ⟨⟨[]⟩⟩) = decide ((((t.data.size : Nat) : Int) : Int) >= 1) := by
      by_cases h : t.data.size = 0
      ·have hl : t.data.data.toList = [] := List.eq_nil_of_length_eq_zero (by omega)
       have : ¬ (((t.data.size : Nat) : Int) >= 1) := by omega
       unfold sEq; rw [hl]; simp [this]
      ·have hl : t.data.data.toList ≠ [] := fun e => h (by rw [<- hdl, e]; rfl)
       have : (((t.data.size : Nat) : Int) >= 1) := by omega
       unfold sEq
       cases hz : t.data.data.toList with
       | nil => exact absurd hz hl
       | cons a r => simp [this]
     have h2 : decide (t.data.size <= 255) = decide ((((t.data.size : Nat) : Int) : Int) <= 255) := by
      by_cases h : t.data.size <= 255
      ·have : (((t.data.size : Nat) : Int) <= 255) := by omega
       simp [h, this]
      ·have : ¬ (((t.data.size : Nat) : Int) <= 255) := by omega
       simp [h, this]
     rw [h1, h2]; simp
    rw [hln]
    cases t.exec with
    | true => exact br_f rfl ⟨by simp, g1⟩
    | false =>
     refine br_t rfl (ptr_i (rd_L (rdC_of e1 (by rfl)) ?_))
     rw [hem]
     cases t.kids.isEmpty with
     | false => exact br_f rfl ⟨rfl, g1⟩
     | true =>
      refine br_t rfl (ptr_i (rd_S (rdC_of e1 (by rfl)) ?_))
      cases decide ((((t.data.size : Nat) : Int) : Int) >= 1) with
      | false => exact br_f rfl ⟨rfl, g1⟩
      | true => exact br_t rfl (ptr_i (rd_S (rdC_of e1 (by rfl)) ⟨by simp, g1⟩))
   | succ c ihc =>
    intro i hc hno
    obtain ⟨ch, hch⟩ : ∃ ch, t.data.data.toList[i]? = some ch := ⟨_, List.getElem?_eq_getElem (by omega)⟩
    refine hR _ _ _ ?_
    refine ptr_i (rd_S (rdC_of e1 (by rfl)) (br_t (by simp only [decide_eq_true_eq]; omega) (ptr_i (rd_S (rdC_of e1 (by rfl)) (idx_l (c := ch) (by omega) (by simpa using hch) ?_)))))
    have e0 : ((((ch.toNat : Nat) : Int) : Int) == 0) = (ch == 0) := u8_beq ch 0
    rw [e0]
    cases h0 : (ch == 0) with
    | true =>
     have hn1 : hasNul t.data = true := by
      unfold hasNul; rw [List.any_eq_true]
      exact ⟨ch, List.mem_of_getElem? hch, h0⟩
     refine br_t rfl ⟨?_, g1⟩
     unfold linkOk; rw [hn1]; simp
    | false =>
     refine br_f rfl ?_
     rw [wrapS (i := i) (by omega)]
     refine ihc (i + 1) (by omega) ?_
     intro x hx
     rw [List.take_add_one, hch] at hx
     rcases List.mem_append.1 hx with h | h
     ·exact hno x h
     ·simp at h; rw [h]; exact h0
  exact key t.data.size 0 (by omega) (fun ch h => by simp at h)
 rw [if_neg k3]
 refine br_f (by simpa using k3) ?_
 by_cases k2 : t.kind = 2
 case neg => rw [if_neg k2]; exact br_f (by simpa using k2) ⟨rfl, g1⟩
 rw [if_pos k2]
 refine br_t (by simpa using k2) (loop_i ?_)
 intro R hR
 have key : ∀ (l : List Tr) (i : Nat) (τ : H), t.kids.drop i = l -> Gr σ1 τ -> Tr.mayRow none t.kids = Tr.mayRow (if i = 0 then none else (t.kids[i - 1]?).map Tr.name) l -> R (some ⟨b6, 0, none⟩) (i : Int) τ := by
  intro l
  induction l with
  | nil =>
   intro i τ hd hg he
   have e1 := hg.get e1
   have hge : t.kids.length <= i := by simpa using hd
   refine hR _ _ _ ?_
   refine ptr_i (rd_L (rdC_of e1 (by rfl)) (br_f (by rw [hs.1]; simp only [decide_eq_false_iff_not]; omega) (ptr_i (rd_B (rdC_of e1 (by rfl)) ?_))))
   have hm : Tr.mayRow none t.kids = true := by rw [he]; simp [Tr.mayRow]
   rw [hm]
   cases t.exec with
   | true => exact br_f rfl ⟨rfl, g1.trans hg⟩
   | false => exact br_t rfl (ptr_i (rd_S (rdC_of e1 (by rfl)) ⟨by rw [<- sEq_eq]; simp, g1.trans hg⟩))
  | cons x r ihl =>
   intro i τ hd hg he
   have e1 := hg.get e1
   obtain ⟨hx, hlt, hd'⟩ := drop_get hd
   obtain ⟨g, o, z, hb, hrd, hz⟩ := kid_rd (hs1.gr hg) hx
   obtain ⟨gn, on, hbn, hnm⟩ := kid_name (hs1.gr hg) hx
   have hxt := kid_total hx
   have hxn : x.name.size <= x.total := by obtain ⟨n, k, e, d, kids⟩ := x; simp only [Tr.total, Tr.name]; omega
   rw [hb] at hbn; cases hbn
   simp only [Tr.mayRow] at he
   refine hR _ _ _ ?_
   refine ptr_i (rd_L (rdC_of e1 (by rfl)) (br_t (by rw [hs.1]; simp only [decide_eq_true_eq]; omega) ?_))
   refine j_i (fun j => ∀ (v1 v2 v3 v4 v5 v6 v7 v8 v9 v10 v11 v12 v13 v14 v15 v16 v17 v18 v19 v20 v21 v22 v23 v24 v25 : Value) (b : Bool), (b = true -> Tr.mayRow none t.kids = false) -> (b = false -> Tr.mayRow none t.kids = Tr.mayRow (some x.name) r) -> j (some ⟨b6, 0, none⟩) (i : Int) v1 v2 v3 v4 v5 v6 v7 v8 v9 v10 v11 v12 v13 v14 v15 v16 v17 v18 v19 v20 v21 v22 v23 v24 v25 b τ) ?_ ?_
   ·intro v1 v2 v3 v4 v5 v6 v7 v8 v9 v10 v11 v12 v13 v14 v15 v16 v17 v18 v19 v20 v21 v22 v23 v24 v25 b h1 h2
    cases b with
    | true => rw [h1 rfl]; exact br_t rfl ⟨by simp, g1.trans hg⟩
    | false =>
     refine br_f rfl ?_
     rw [wrap_id (by omega) (by omega)]
     refine ihl (i + 1) τ hd' hg ?_
     rw [h2 rfl]
     have : i + 1 - 1 = i := by omega
     rw [if_neg (by omega), this, hx]; rfl
   ·intro j hj
    refine ptr_i (rd_L (rdC_of e1 (by rfl)) ?_)
    show ptrW y.base _ _
    rw [hb]
    refine ptr_i (if_i ⟨by omega, by rw [hs.1]; omega⟩ (rd_S (by rw [Int.toNat_natCast]; exact hnm) ?_))
    refine call_i (s_rfName x.name (by omega) (app_B ?_))
    cases hmn : mayName x.name with
    | false =>
     rw [hmn] at he
     exact br_t rfl (hj _ _ _ _ _ _ _ _ _ _ _ _ _ _ _ _ _ _ _ _ _ _ _ _ _ true (fun _ => by rw [he]; rfl) (fun h => by cases h))
    | true =>
     rw [hmn] at he
     simp only [Bool.true_and] at he
     refine br_f rfl (ptr_i (rd_L (rdC_of e1 (by rfl)) ?_))
     show ptrW y.base _ _
     rw [hb]
     have hrd' : rdA 5 g (o + (i : Int).toNat * 5) τ = some (.agg ⟨trC x z⟩) := by simpa using hrd
     refine ptr_i (if_i ⟨by omega, by rw [hs.1]; omega⟩ (rd_G hrd' ?_))
     unfold trC
     (refine app_of rfl ?_; try dsimp only)
     refine call_i (ih x (List.mem_of_getElem? hx) z hz (by omega) (app_B ?_))
     cases hmx : x.may with
     | false =>
      rw [hmx] at he
      exact br_t rfl (hj _ _ _ _ _ _ _ _ _ _ _ _ _ _ _ _ _ _ _ _ _ _ _ _ _ true (fun _ => by rw [he]; rfl) (fun h => by cases h))
     | true =>
      rw [hmx] at he
      simp only [Bool.true_and] at he
      refine br_f rfl ?_
      cases i with
      | zero =>
       refine br_f (by simp) (hj _ _ _ _ _ _ _ _ _ _ _ _ _ _ _ _ _ _ _ _ _ _ _ _ _ false (fun h => by cases h) (fun _ => ?_))
       rw [he]; simp [above]
      | succ i =>
       have hi1 : i < t.kids.length := by omega
       obtain ⟨pv, hpv⟩ : ∃ pv, t.kids[i]? = some pv := ⟨_, List.getElem?_eq_getElem hi1⟩
       have : i + 1 - 1 = i := by omega
       rw [if_neg (by omega), this, hpv] at he
       have he : Tr.mayRow none t.kids = (ltB pv.name x.name && Tr.mayRow (some x.name) r) := he
       refine br_t (by simp only [decide_eq_true_eq]; omega) ?_
       refine ptr_i (rd_L (rdC_of e1 (by rfl)) ?_)
       obtain ⟨g', o', hb', hnm2⟩ := kid_name (hs1.gr hg) hpv
       rw [hb] at hb'; cases hb'
       show ptrW y.base _ τ
       rw [hb]
       have w1 : IntKind.i64.wrap (((i + 1 : Nat) : Int) - 1) = (i : Int) := by rw [wrap_id (by omega) (by omega)]; omega
       rw [w1]
       refine ptr_i (if_i ⟨by omega, by rw [hs.1]; omega⟩ (rd_S (by rw [Int.toNat_natCast]; exact hnm2) ?_))
       refine ptr_i (rd_L (rdC_of e1 (by rfl)) ?_)
       show ptrW y.base _ τ
       rw [hb]
       refine ptr_i (if_i ⟨by omega, by rw [hs.1]; omega⟩ (rd_S (by rw [Int.toNat_natCast]; exact hnm) ?_))
       refine hj _ _ _ _ _ _ _ _ _ _ _ _ _ _ _ _ _ _ _ _ _ _ _ _ _ _ ?_ ?_
       ·intro h
        rw [strLt_eq] at h
        have : ltB pv.name x.name = false := by simpa using h
        rw [he, this]; rfl
       ·intro h
        rw [strLt_eq] at h
        have : ltB pv.name x.name = true := by simpa using h
        rw [he, this]; rfl
 exact key t.kids 0 σ1 rfl (Gr.refl _) rfl
theorem s_rtSize : ∀ (t : Tr) (y : Sl) {σ : H}, SlAt σ t.kids y -> t.total <= 1000000000000000 -> ∀ {K : KH}, K (.tuple ⟨[.int .i64 t.sizeT.1, .int .i64 t.sizeT.2]⟩) σ -> callW Tryz.prog 158 [.agg ⟨trC t y⟩] K σ := by
 refine Tr.ind (P := fun t => ∀ (y : Sl) {σ : H}, SlAt σ t.kids y -> t.total <= 1000000000000000 -> ∀ {K : KH}, K (.tuple ⟨[.int .i64 t.sizeT.1, .int .i64 t.sizeT.2]⟩) σ -> callW Tryz.prog 158 [.agg ⟨trC t y⟩] K σ) ?_
 intro t ih y σ hs hT K hK
 refine pure_i _ hK (c158 _ _ _ _ _ ?_)
 clear hK
 unfold g158
 refine al_i ?_; intro b6 σ1 g1 e1 n1
 refine rd_G (rdA_of' e1 (by rfl)) ?_
 (refine app_of rfl ?_; try dsimp only)
 refine call_i (s_rtDeep t y (hs.gr g1) hT (app_I ?_))
 rw [rt_deep]
 cases htd : t.tooDeep with
 | true => exact br_t rfl ⟨by unfold Tr.sizeT; rw [htd]; rfl, g1⟩
 | false =>
  have hst : t.sizeT = t.size := by unfold Tr.sizeT; rw [htd]; rfl
  rw [hst]
  refine br_f rfl (rd_S (rdC_of e1 (by rfl)) ?_)
  have hT1 := kids_total t
  have hsz : t.size = Tr.sizeRow t.kids (1, (t.data.size : Int)) := by obtain ⟨n, k, e, d, kids⟩ := t; simp only [Tr.size, Tr.kids, Tr.data]
  have htot : 1 + t.data.size + Tr.totalRow t.kids <= t.total := by obtain ⟨n, k, e, d, kids⟩ := t; simp only [Tr.total, Tr.kids, Tr.data]; omega
  refine loop_i ?_
  intro R hR
  have key : ∀ (l : List Tr) (i : Nat) (a : Int × Int), t.kids.drop i = l -> t.size = Tr.sizeRow l a -> 1 <= a.1 -> 0 <= a.2 -> a.1 + a.2 + Tr.totalRow l <= 1000000000000000 -> R (some ⟨b6, 0, none⟩) a.1 a.2 (i : Int) σ1 := by
   intro l
   induction l with
   | nil =>
    intro i a hd he h1 h2 h3
    have hge : t.kids.length <= i := by simpa using hd
    refine hR _ _ _ _ _ ?_
    refine ptr_i (rd_L (rdC_of e1 (by rfl)) (br_f (by rw [hs.1]; simp only [decide_eq_false_iff_not]; omega) ⟨?_, g1⟩))
    rw [he]; rfl
   | cons x r ihl =>
    intro i a hd he h1 h2 h3
    obtain ⟨hx, hlt, hd'⟩ := drop_get hd
    obtain ⟨g, o, z, hb, hrd, hz⟩ := kid_rd (hs.gr g1) hx
    simp only [Tr.totalRow] at h3
    have hxs := Tr.size_le x
    simp only [Tr.sizeRow] at he
    refine hR _ _ _ _ _ ?_
    refine ptr_i (rd_L (rdC_of e1 (by rfl)) (br_t (by rw [hs.1]; simp only [decide_eq_true_eq]; omega) (ptr_i (rd_L (rdC_of e1 (by rfl)) ?_))))
    show ptrW y.base _ _
    rw [hb]
    have hrd' : rdA 5 g (o + (i : Int).toNat * 5) σ1 = some (.agg ⟨trC x z⟩) := by simpa using hrd
    refine ptr_i (if_i ⟨by omega, by rw [hs.1]; omega⟩ (rd_G hrd' ?_))
    unfold trC
    (refine app_of rfl ?_; try dsimp only)
    refine call_i (ih x (List.mem_of_getElem? hx) z hz (by have := kid_total hx; omega) (app_II ?_))
    have hst : x.sizeT = if x.tooDeep = true then (0, 0) else x.size := rfl
    have e3 : a.1 + x.sizeT.1 = (if x.tooDeep = true then a else (a.1 + x.size.1, a.2 + x.size.2)).1 /\ a.2 + x.sizeT.2 = (if x.tooDeep = true then a else (a.1 + x.size.1, a.2 + x.size.2)).2 := by
     rw [hst]; split <;> simp
    rw [e3.1, e3.2]
    have hb1 : 1 <= (if x.tooDeep = true then a else (a.1 + x.size.1, a.2 + x.size.2)).1 := by split <;> (try simp only) <;> omega
    have hb2 : 0 <= (if x.tooDeep = true then a else (a.1 + x.size.1, a.2 + x.size.2)).2 := by split <;> (try simp only) <;> omega
    have hb3 : (if x.tooDeep = true then a else (a.1 + x.size.1, a.2 + x.size.2)).1 + (if x.tooDeep = true then a else (a.1 + x.size.1, a.2 + x.size.2)).2 + Tr.totalRow r <= 1000000000000000 := by split <;> (try simp only) <;> omega
    generalize (if x.tooDeep = true then a else (a.1 + x.size.1, a.2 + x.size.2)) = a' at he hb1 hb2 hb3
    rw [wrap_id (x := a'.1) (by omega) (by omega), wrap_id (x := a'.2) (by omega) (by omega), wrap_id (x := (i : Int) + 1) (by omega) (by omega)]
    exact ihl (i + 1) a' hd' he hb1 hb2 hb3
  exact key t.kids 0 (1, (t.data.size : Int)) rfl hsz (Int.le_refl _) (by show (0 : Int) <= t.data.size; omega) (by show (1 : Int) + t.data.size + Tr.totalRow t.kids <= 1000000000000000; omega)
theorem s_rtCheck (t : Tr) (y : Sl) {σ : H} (hs : SlAt σ t.kids y) (hT : t.total <= 1000000000000) {K : KH} (hK : K (.int .i64 t.check) σ) : callW Tryz.prog 90 [.agg ⟨trC t y⟩] K σ := by
 generalize hres : t.check = res at hK
 unfold Tr.check at hres
 refine pure_i _ hK (c90 _ _ _ _ _ ?_)
 clear hK
 unfold g90
 refine al_i ?_; intro b6 σ1 g1 e1 n1
 have hs1 := hs.gr g1
 refine rd_G (rdA_of' e1 (by rfl)) ?_
 (refine app_of rfl ?_; try dsimp only)
 refine call_i (s_rtDeep t y hs1 (by omega) (app_I ?_))
 rw [rt_deep]
 cases htd : t.tooDeep with
 | true => rw [htd] at hres; simp only [if_true] at hres; exact br_t rfl ⟨by rw [<- hres], g1⟩
 | false =>
  rw [htd] at hres
  simp only [Bool.false_eq_true, if_false] at hres
  refine br_f rfl ?_
  refine j_i (fun j => ∀ b : Bool, (b = true ↔ sEq t.name ⟨⟨[]⟩⟩ = false \/ t.may = false) -> j (some ⟨b6, 0, none⟩) b σ1) ?_ ?_
  ·intro b hb
   cases b with
   | true => rw [if_pos (hb.1 rfl)] at hres; exact br_t rfl ⟨by rw [<- hres], g1⟩
   | false =>
    rw [if_neg (fun h => by have := hb.2 h; cases this)] at hres
    refine br_f rfl (ptr_i (rd_G (rdA_of' e1 (by rfl)) ?_))
    (refine app_of rfl ?_; try dsimp only)
    refine call_i (s_rtSize t y hs1 (by omega) (app_II ?_))
    refine j_i (fun j => ∀ b : Bool, (b = true ↔ t.sizeT.1 > 2000 \/ t.sizeT.2 > 100000) -> j b σ1) ?_ ?_
    ·intro b hb
     cases b with
     | true => rw [if_pos (hb.1 rfl)] at hres; exact br_t rfl ⟨by rw [<- hres], g1⟩
     | false => rw [if_neg (fun h => by have := hb.2 h; cases this)] at hres; exact br_f rfl ⟨by rw [<- hres], g1⟩
    ·intro j hj
     by_cases h1 : t.sizeT.1 > 2000
     ·exact br_t (by simpa using h1) (hj true (by simp [h1]))
     ·exact br_f (by simpa using h1) (hj _ (by simp [h1]))
  ·intro j hj
   rw [sEq_eq] at hj
   refine rd_S (rdC_of e1 (by rfl)) ?_
   cases hn : strEq t.name ⟨⟨[]⟩⟩ with
   | false => exact br_t rfl (hj true (by simp [hn]))
   | true =>
    refine br_f rfl (rd_G (rdA_of' e1 (by rfl)) ?_)
    (refine app_of rfl ?_; try dsimp only)
    refine call_i (s_rtMay t y hs1 hT (app_B (hj _ ?_)))
    rw [hn]; cases t.may <;> simp
theorem s_rtSame : ∀ (t : Tr) (y : Sl) (u : Tr) (z : Sl) {σ : H}, SlAt σ t.kids y -> SlAt σ u.kids z -> t.total <= 1000000000000000 -> u.total <= 1000000000000000 -> ∀ {K : KH}, K (.bool (t.same u)) σ -> callW Tryz.prog 38 [.agg ⟨trC t y⟩, .agg ⟨trC u z⟩] K σ := by
 refine Tr.ind (P := fun t => ∀ (y : Sl) (u : Tr) (z : Sl) {σ : H}, SlAt σ t.kids y -> SlAt σ u.kids z -> t.total <= 1000000000000000 -> u.total <= 1000000000000000 -> ∀ {K : KH}, K (.bool (t.same u)) σ -> callW Tryz.prog 38 [.agg ⟨trC t y⟩, .agg ⟨trC u z⟩] K σ) ?_
 intro t ih y u z σ hs hz hT hU K hK
 refine pure_i _ hK (c38 _ _ _ _ _ _ _ _ _ _ ?_)
 clear hK
 unfold g38
 refine al_i ?_; intro b11 σ1 g1 e1 n1
 refine al_i ?_; intro b12 σ2 g2 e2 n2
 have k11 := g2.get e1
 have hg : Gr σ σ2 := g1.trans g2
 have hs2 := hs.gr hg
 have hz2 := hz.gr hg
 have ht1 := kids_total t
 have hu1 := kids_total u
 rw [Tr.same_eq]
 refine j_i (fun j => ∀ b : Bool, b = (t.tooDeep || u.tooDeep) -> j (some ⟨b11, 0, none⟩) (some ⟨b12, 0, none⟩) b σ2) ?_ ?_
 case refine_2 =>
  intro j hj
  refine rd_G (rdA_of' k11 (by rfl)) ?_
  (refine app_of rfl ?_; try dsimp only)
  refine call_i (s_rtDeep t y hs2 hT (app_I ?_))
  rw [rt_deep]
  cases h : t.tooDeep with
  | true => exact br_t rfl (hj true (by rw [h]; rfl))
  | false =>
   refine br_f rfl (rd_G (rdA_of' e2 (by rfl)) ?_)
   (refine app_of rfl ?_; try dsimp only)
   refine call_i (s_rtDeep u z hz2 hU (app_I ?_))
   rw [rt_deep]
   exact hj _ (by rw [h]; rfl)
 intro b hb
 cases b with
 | true =>
  refine br_t rfl ⟨?_, hg⟩
  have : (!t.tooDeep && !u.tooDeep) = false := by rw [<- Bool.not_or, <- hb]; rfl
  rw [<- Bool.and_assoc, this]; rfl
 | false =>
  have h2 : t.tooDeep = false /\ u.tooDeep = false := by rw [<- Bool.or_eq_false_iff]; exact hb.symm
  rw [h2.1, h2.2]
  refine br_f rfl ?_
  refine j_i (fun j => ∀ b : Bool, (b = true -> (sEq t.name u.name && ((t.kind == u.kind) && ((t.exec == u.exec) && (sEq t.data u.data && (Nat.beq t.kids.length u.kids.length && Tr.sameRow t.kids u.kids))))) = false) -> (b = false -> t.kids.length = u.kids.length /\ (sEq t.name u.name && ((t.kind == u.kind) && ((t.exec == u.exec) && (sEq t.data u.data && (Nat.beq t.kids.length u.kids.length && Tr.sameRow t.kids u.kids))))) = Tr.sameRow t.kids u.kids) -> j (some ⟨b11, 0, none⟩) (some ⟨b12, 0, none⟩) b σ2) ?_ ?_
  ·intro b hb1 hb2
   cases b with
   | true => rw [hb1 rfl]; exact br_t rfl ⟨rfl, hg⟩
   | false =>
    obtain ⟨hlen, he⟩ := hb2 rfl
    rw [he]
    refine br_f rfl (loop_i ?_)
    intro R hR
    have key : ∀ (l : List Tr) (i : Nat), t.kids.drop i = l -> Tr.sameRow t.kids u.kids = Tr.sameRow l (u.kids.drop i) -> R (some ⟨b11, 0, none⟩) (some ⟨b12, 0, none⟩) (i : Int) σ2 := by
     intro l
     induction l with
     | nil =>
      intro i hd he
      have hge : t.kids.length <= i := by simpa using hd
      refine hR _ _ _ _ ?_
      refine ptr_i (rd_L (rdC_of k11 (by rfl)) (br_f (by rw [hs.1]; simp only [decide_eq_false_iff_not]; omega) ⟨?_, hg⟩))
      rw [he]; rfl
     | cons x r ihl =>
      intro i hd he
      obtain ⟨hx, hlt, hd'⟩ := drop_get hd
      obtain ⟨v, hv⟩ : ∃ v, u.kids[i]? = some v := ⟨_, List.getElem?_eq_getElem (by omega)⟩
      have hdv : u.kids.drop i = v :: u.kids.drop (i + 1) := by
       have h1 : i < u.kids.length := by omega
       rw [List.getElem?_eq_getElem h1] at hv
       rw [List.drop_eq_getElem_cons h1, Option.some.inj hv]
      rw [hdv] at he
      obtain ⟨g, o, y', hb, hrd, hy'⟩ := kid_rd hs2 hx
      obtain ⟨g', o', z', hb', hrd2, hz'⟩ := kid_rd hz2 hv
      refine hR _ _ _ _ ?_
      refine ptr_i (rd_L (rdC_of k11 (by rfl)) (br_t (by rw [hs.1]; simp only [decide_eq_true_eq]; omega) (ptr_i (rd_L (rdC_of k11 (by rfl)) ?_))))
      show ptrW y.base _ _
      rw [hb]
      have hrd' : rdA 5 g (o + (i : Int).toNat * 5) σ2 = some (.agg ⟨trC x y'⟩) := by simpa using hrd
      refine ptr_i (if_i ⟨by omega, by rw [hs.1]; omega⟩ (rd_G hrd' ?_))
      unfold trC
      (refine app_of rfl ?_; try dsimp only)
      refine ptr_i (rd_L (rdC_of e2 (by rfl)) ?_)
      show ptrW z.base _ _
      rw [hb']
      have hrd2' : rdA 5 g' (o' + (i : Int).toNat * 5) σ2 = some (.agg ⟨trC v z'⟩) := by simpa using hrd2
      refine ptr_i (if_i ⟨by omega, by rw [hz.1]; omega⟩ (rd_G hrd2' ?_))
      unfold trC
      (refine app_of rfl ?_; try dsimp only)
      refine call_i (ih x (List.mem_of_getElem? hx) y' v z' hy' hz' (by have := kid_total hx; omega) (by have := kid_total hv; omega) (app_B ?_))
      have he : Tr.sameRow t.kids u.kids = (x.same v && Tr.sameRow r (u.kids.drop (i + 1))) := he
      cases hsm : x.same v with
      | false => exact br_t rfl ⟨by rw [he, hsm]; rfl, hg⟩
      | true =>
       refine br_f rfl ?_
       rw [wrap_id (x := (i : Int) + 1) (by omega) (by omega)]
       refine ihl (i + 1) hd' ?_
       rw [he, hsm]; rfl
    exact key t.kids 0 rfl rfl
  ·intro j hj
   refine ptr_i (rd_S (rdC_of k11 (by rfl)) (ptr_i (rd_S (rdC_of e2 (by rfl)) ?_)))
   rw [<- sEq_eq]
   cases c1 : sEq t.name u.name with
   | false => exact br_t rfl (hj true (fun _ => by rw [c1]; rfl) (fun h => by cases h))
   | true =>
    refine br_f rfl (ptr_i (rd_I (rdC_of k11 (by rfl)) (ptr_i (rd_I (rdC_of e2 (by rfl)) ?_))))
    cases c2 : (t.kind == u.kind) with
    | false => exact br_t (by simpa using c2) (hj true (fun _ => by rw [c1, c2]; rfl) (fun h => by cases h))
    | true =>
     refine br_f (by simpa using c2) (ptr_i (rd_B (rdC_of k11 (by rfl)) (ptr_i (rd_B (rdC_of e2 (by rfl)) ?_))))
     cases c3 : (t.exec == u.exec) with
     | false => exact br_t rfl (hj true (fun _ => by rw [c1, c2, c3]; rfl) (fun h => by cases h))
     | true =>
      refine br_f rfl (ptr_i (rd_S (rdC_of k11 (by rfl)) (ptr_i (rd_S (rdC_of e2 (by rfl)) ?_))))
      rw [<- sEq_eq]
      cases c4 : sEq t.data u.data with
      | false => exact br_t rfl (hj true (fun _ => by rw [c1, c2, c3, c4]; rfl) (fun h => by cases h))
      | true =>
       refine br_f rfl (ptr_i (rd_L (rdC_of k11 (by rfl)) (ptr_i (rd_L (rdC_of e2 (by rfl)) (hj _ ?_ ?_)))))
       ·intro h
        have hne : t.kids.length ≠ u.kids.length := by rw [hs.1, hz.1] at h; simp at h; omega
        rw [c1, c2, c3, c4]
        have : Nat.beq t.kids.length u.kids.length = false := by
         cases hq : Nat.beq t.kids.length u.kids.length with
         | false => rfl
         | true => exact absurd (Nat.eq_of_beq_eq_true hq) hne
        rw [this]; rfl
       ·intro h
        have hne : t.kids.length = u.kids.length := by rw [hs.1, hz.1] at h; simp at h; omega
        refine ⟨hne, ?_⟩
        rw [c1, c2, c3, c4, hne, Nat.beq_refl]; rfl
end Go.Proofs.YtbjbeajbckcecaaGreatDoor

set_option maxRecDepth 100000
namespace Go.Proofs.YtbjbeajbckcecaaGreatDoor
open Go Go.HL Go.Wk
theorem app_okRB {σ : H} {v : Value} {b : Bool} {F : Value -> Bool -> H -> Prop} (h : F v b σ) : app (.tup [.sc .raw, .sc .bool]) F (okV true v b) σ := h
attribute [local irreducible] ptrW ifW brW andW rdT alW letJ stW muW biW vaW imW callT cvalT app callW invW callVW sizeT oW nilF oneK loopW rfW funW begW roundK exW idxW Gr Put
attribute [local irreducible] bothW
theorem go_cAt1 : isGo Tryz.prog 151 = true := by kernel_rfl
theorem go_cAt2 : isGo Tryz.prog 152 = true := by kernel_rfl
theorem go_cKids1 : isGo Tryz.prog 204 = true := by kernel_rfl
theorem und_MIF : Tryz.prog.underlying 209 = some (.map 3 204) := by kernel_rfl
theorem stat_long {A : AT} (hI : Inv A) {path : ByteArray} (h : 256 <= path.size) : A.stat ⟨⟨[47]⟩⟩ path false = (3, IN.z) := by
 have hne : sEq path ⟨⟨[]⟩⟩ = false := by
  refine sEq_false ?_
  intro e; rw [e] at h; exact absurd h (by decide)
 have hm : mayE path = 3 := by unfold mayE; rw [hne]; simp; omega
 have hw : ∀ d, A.walk 10 d path false 8 = (3, Pl.z, 8) := by intro d; rw [AT.walk, hm]; simp
 unfold AT.stat AT.with_ AT.locate
 rw [hne]
 cases hh : headIs 47 path with
 | true => rw [hw]; simp
 | false =>
  have hr : A.walk 10 1 ⟨⟨[47]⟩⟩ true 8 = (0, ⟨1, ⟨⟨[]⟩⟩, 1, true⟩, 8) := by
   rw [AT.walk]
   have : mayE ⟨⟨[47]⟩⟩ = 0 := by decide +kernel
   rw [this]
   have h2 : headIs 47 ⟨⟨[47]⟩⟩ = true := by decide +kernel
   have h3 : partsB ⟨⟨[47]⟩⟩ = [] := by decide +kernel
   rw [h2, h3]
   simp [AT.steps]
  have hk : A.kind 1 = 2 := dir_kind hI.root_dir
  have h2 : headIs 47 ⟨⟨[47]⟩⟩ = true := by decide +kernel
  rw [h2, hr]
  simp only [hk]
  rw [hw]; simp
theorem s_at {A : AT} {N : Nat} {bf : Nat} {B : Nat -> Prop} (hI : Inv A) (hB : Bd N A) (hN : N <= 1000000000) : ∀ (f : Nat) (path : ByteArray), 256 <= f + path.size -> path.size <= 100000 -> ∀ {σ : H}, FsAt σ bf A B -> ∀ {K : KH},
 (∀ t y σ' ρ, Gr σ σ' -> Gr ρ σ' -> (∀ b, σ b ≠ none -> ρ b = none) -> ((A.take f path).1 = 0 -> t = (A.take f path).2 /\ SlAt ρ t.kids y) -> K (.tuple ⟨[.agg ⟨trC t y⟩, .int .i64 (A.take f path).1]⟩) σ') ->
 callW Tryz.prog 87 [.agg ⟨[.pointer (some ⟨bf, 0, none⟩)]⟩, .string path] K σ := by
 intro f
 induction f with
 | zero =>
  intro path hf hp σ hF K hK
  refine c87 _ _ ?_
  unfold g87
  refine al_i ?_; intro b3 σ1 g1 e1 n1
  refine al_i ?_; intro b4 σ2 g2 e2 n2
  refine al_i ?_; intro b5 σ3 g3 e3 n3
  have hg3 : Gr σ σ3 := (g1.trans g2).trans g3
  refine rd_P (rdC_of (g3.get (g2.get e1)) (by rfl)) (rd_S (rdC_of (g3.get e2) (by rfl)) ?_)
  refine call_i (s_Stat (hF.gr hg3) _ _ _ ?_)
  rw [stat_long hI (by omega)]
  unfold inV
  (refine app_of rfl ?_; try dsimp only)
  refine al_i ?_; intro b13 σ4 g4 e4 n4
  refine st_i2 e4 sz_Inode (by rfl) (by rfl) ?_; intro σ5 p5
  have n513 : b5 ≠ b13 := ne_fr n4 (isSome_of e3)
  have k5 := p5.get n513 (g4.get e3)
  refine br_t rfl ?_
  refine st_i2 k5 sz_Node (by rfl) (by rfl) ?_; intro σ6 p6
  refine rd_G (rdA_of' p6.same (by rfl)) ?_
  (refine app_of rfl ?_; try dsimp only)
  have f5 : σ b5 = none := none_of (g1.trans g2) n3
  have f13 : σ b13 = none := none_of hg3 n4
  have := hK Tr.z ⟨none, 0, 0⟩ σ6 _ (((hg3.trans g4).putF p5 f13).putF p6 f5) (gr_empty _) (fun _ _ => rfl) (fun h => by rw [AT.take] at h; cases h)
  exact this
 | succ f ih =>
  intro path hf hp σ hF K hK
  refine c87 _ _ ?_
  unfold g87
  refine al_i ?_; intro b3 σ1 g1 e1 n1
  refine al_i ?_; intro b4 σ2 g2 e2 n2
  refine al_i ?_; intro b5 σ3 g3 e3 n3
  have hg3 : Gr σ σ3 := (g1.trans g2).trans g3
  refine rd_P (rdC_of (g3.get (g2.get e1)) (by rfl)) (rd_S (rdC_of (g3.get e2) (by rfl)) ?_)
  refine call_i (s_Stat (hF.gr hg3) _ _ _ ?_)
  have hTk : A.take (f + 1) path = (let x := A.stat ⟨⟨[47]⟩⟩ path false
   if x.1 ≠ 0 then (x.1, Tr.z)
   else if x.2.kind = 2 then
    let l := A.listF ⟨⟨[47]⟩⟩ path
    if l.1 ≠ 0 then (l.1, Tr.z)
    else
     let r := takeRow (AT.take A f) path l.2
     (r.1, .mk ⟨⟨[]⟩⟩ 2 false x.2.data r.2)
   else (0, .mk ⟨⟨[]⟩⟩ x.2.kind (xOf x.2.kind x.2.mode) x.2.data [])) := by rw [AT.take]
  simp only at hTk
  have hX : (A.stat ⟨⟨[47]⟩⟩ path false).1 = 0 -> path.size <= 255 := by
   intro h0
   rcases Nat.lt_or_ge path.size 256 with h | h
   ·omega
   ·rw [stat_long hI h] at h0; cases h0
  generalize A.stat ⟨⟨[47]⟩⟩ path false = X at hTk hX ⊢
  obtain ⟨xe, xk, xm, xd, xl⟩ := X
  unfold inV
  simp only at hTk hX ⊢
  (refine app_of rfl ?_; try dsimp only)
  refine al_i ?_; intro b13 σ4 g4 e4 n4
  refine st_i2 e4 sz_Inode (by rfl) (by rfl) ?_; intro σ5 p5
  have n513 : b5 ≠ b13 := ne_fr n4 (isSome_of e3)
  have f5 : σ b5 = none := none_of (g1.trans g2) n3
  have f13 : σ b13 = none := none_of hg3 n4
  have f3 : σ b3 = none := n1
  have f4 : σ b4 = none := none_of g1 n2
  have n313 : b3 ≠ b13 := ne_fr n4 (isSome_of (g3.get (g2.get e1)))
  have n413 : b4 ≠ b13 := ne_fr n4 (isSome_of (g3.get e2))
  have k5 := p5.get n513 (g4.get e3)
  have k3 := p5.get n313 (g4.get (g3.get (g2.get e1)))
  have k4 := p5.get n413 (g4.get (g3.get e2))
  have k13 := p5.same
  have hg5 : Lng σ σ5 := ⟨(hg3.trans g4).putF p5 f13⟩
  clear p5 e4 g4 e1 e2 e3 g1 g2 g3
  by_cases hx : xe = 0
  case neg =>
   rw [if_pos hx] at hTk
   rw [hTk] at hK
   refine br_t (by simpa using hx) ?_
   refine st_i2 k5 sz_Node (by rfl) (by rfl) ?_; intro σ6 p6
   refine rd_G (rdA_of' p6.same (by rfl)) ?_
   (refine app_of rfl ?_; try dsimp only)
   exact hK Tr.z ⟨none, 0, 0⟩ σ6 _ (hg5.gr.putF p6 f5) (gr_empty _) (fun _ _ => rfl) (fun h => absurd h hx)
  subst hx
  rw [if_neg (by simp)] at hTk
  have hps := hX rfl
  refine br_f rfl (rd_I (rdC_of k13 (by rfl)) (rd_S (rdC_of k13 (by rfl)) ?_))
  refine al_i ?_; intro b21 σ6 g6 e6 n6
  refine st_i2 e6 sz_Node (by rfl) (by rfl) ?_; intro σ7 p7
  have f21 : σ b21 = none := none_of hg5.gr n6
  have n321 : b3 ≠ b21 := ne_fr n6 (isSome_of k3)
  have n421 : b4 ≠ b21 := ne_fr n6 (isSome_of k4)
  have n521 : b5 ≠ b21 := ne_fr n6 (isSome_of k5)
  have n1321 : b13 ≠ b21 := ne_fr n6 (isSome_of k13)
  have q3 := p7.get n321 (g6.get k3)
  have q4 := p7.get n421 (g6.get k4)
  have q5 := p7.get n521 (g6.get k5)
  have q13 := p7.get n1321 (g6.get k13)
  have q21 := p7.same
  have hg7 : Lng σ σ7 := ⟨(hg5.gr.trans g6).putF p7 f21⟩
  clear p7 e6 g6 k3 k4 k5 k13 hg5
  refine al_i ?_; intro b22 σ8 g8 e8 n8
  have f22 : σ b22 = none := none_of hg7.gr n8
  have n322 : b3 ≠ b22 := ne_fr n8 (isSome_of q3)
  have n422 : b4 ≠ b22 := ne_fr n8 (isSome_of q4)
  have n522 : b5 ≠ b22 := ne_fr n8 (isSome_of q5)
  have n1322 : b13 ≠ b22 := ne_fr n8 (isSome_of q13)
  have n2122 : b21 ≠ b22 := ne_fr n8 (isSome_of q21)
  have m0 : MapAt σ8 b22 (encL kkI (fun v : Value => v) []) := MapAt.new e8
  refine mu_i (kk := kkI) (f := fun v : Value => v) und_MIF und_int m0 1 (.func (.func 151) ⟨[]⟩ ⟨[.pointer (some ⟨b13, 0, none⟩), .pointer (some ⟨b21, 0, none⟩)]⟩) ?_
  intro o1 σ9 p9 m1
  refine mu_i (kk := kkI) (f := fun v : Value => v) und_MIF und_int m1 2 (.func (.func 152) ⟨[]⟩ ⟨[.pointer (some ⟨b3, 0, none⟩), .pointer (some ⟨b4, 0, none⟩), .pointer (some ⟨b21, 0, none⟩)]⟩) ?_
  intro o2 σ10 p10 m2
  have k3 := p10.get n322 (p9.get n322 (g8.get q3))
  have k4 := p10.get n422 (p9.get n422 (g8.get q4))
  have k5 := p10.get n522 (p9.get n522 (g8.get q5))
  have k13 := p10.get n1322 (p9.get n1322 (g8.get q13))
  have k21 := p10.get n2122 (p9.get n2122 (g8.get q21))
  have hg10 : Lng σ σ10 := ⟨((hg7.gr.trans g8).putF p9 f22).putF p10 f22⟩
  clear p9 p10 m0 m1 e8 g8 q3 q4 q5 q13 q21 hg7
  refine rd_I (rdC_of k13 (by rfl)) ?_
  have hr := rdM_at (kk := kkI) m2 .nilFunc true xk
  refine rd_G hr ?_
  refine app_okRB ?_
  refine j_i (fun j => ∀ (e : Int) (σ' τ' ρ : H) (t : Tr) (y : Sl), Gr σ τ' -> Gr τ' σ' -> τ' b5 = none -> Gr ρ σ' -> ρ b5 = none -> (∀ b, σ b ≠ none -> ρ b = none) -> σ' b5 = some (.cells ⟨[.string ⟨⟨[]⟩⟩, .int .i64 0, .bool false, .string ⟨⟨[]⟩⟩, .slice none 0 0]⟩ 73 (0, 0)) -> σ' b21 = some (.cells ⟨trC t y⟩ 73 (0, 0)) -> e = (A.take (f + 1) path).1 -> (e = 0 -> t = (A.take (f + 1) path).2 /\ SlAt ρ t.kids y) -> j (some ⟨b5, 0, none⟩) e (some ⟨b21, 0, none⟩) σ') ?_ ?_
  ·intro e σ' τ' ρ t y h1 h2 h3 r1 r2 r3 h4 h5 h6 h7
   unfold trC at h5
   refine ptr_i (rd_G (rdA_of' h5 (by rfl)) ?_)
   (refine app_of rfl ?_; try dsimp only)
   refine st_i2 h4 sz_Node (by rfl) (by rfl) ?_; intro σ'' p
   refine ptr_i (rd_G (rdA_of' p.same (by rfl)) ?_)
   (refine app_of rfl ?_; try dsimp only)
   have hg := h2.putF p h3
   have := hK t y σ'' ρ (h1.trans hg) (r1.putF p r2) r3 (fun he => h7 (by rw [h6]; exact he))
   rw [h6]; exact this
  intro j hj
  by_cases k1 : xk = 1
  ·subst k1
   rw [if_neg (by decide)] at hTk
   refine br_t rfl (cval_i go_cAt1 (c151 _ _ ?_))
   unfold g151
   refine ptr_i (rd_I (rdC_of k13 (by rfl)) (ptr_i ?_))
   refine st_i2 k21 sz_bool (by rfl) (by rfl) ?_; intro σ11 p11
   refine app_I ?_
   refine hj 0 σ11 σ (fun _ => none) (.mk ⟨⟨[]⟩⟩ 1 ((bitV .and .i64 xm 73 : Int) != 0) xd []) ⟨none, 0, 0⟩ (Gr.refl _) (hg10.gr.putF p11 f21) f5 (gr_empty _) rfl (fun _ _ => rfl) (p11.get n521 k5) p11.same (by rw [hTk]) (fun _ => ⟨?_, SlAt.nil⟩)
   rw [hTk]; rfl
  by_cases k2 : xk = 2
  case neg =>
   rw [if_neg k2] at hTk
   have hl : lk xk (up (2 : Int) (.func (.func 152) ⟨[]⟩ ⟨[.pointer (some ⟨b3, 0, none⟩), .pointer (some ⟨b4, 0, none⟩), .pointer (some ⟨b21, 0, none⟩)]⟩) (up (1 : Int) (.func (.func 151) ⟨[]⟩ ⟨[.pointer (some ⟨b13, 0, none⟩), .pointer (some ⟨b21, 0, none⟩)]⟩) ([] : List (Int × Value)))) = none := by
    rw [lk_up, lk_up]
    have c1 : (xk == 1) = false := by simpa using k1
    have c2 : (xk == 2) = false := by simpa using k2
    rw [c1, c2]; rfl
   rw [hl]
   refine br_f rfl ?_
   refine hj 0 σ10 σ (fun _ => none) (.mk ⟨⟨[]⟩⟩ xk false xd []) ⟨none, 0, 0⟩ (Gr.refl _) hg10.gr f5 (gr_empty _) rfl (fun _ _ => rfl) k5 k21 (by rw [hTk]) (fun _ => ⟨?_, SlAt.nil⟩)
   rw [hTk]
   have c1 : (xk == 1) = false := by simpa using k1
   unfold xOf; rw [c1]; rfl
  subst k2
  rw [if_pos rfl] at hTk
  clear hr m2 hK
  refine br_t rfl (cval_i go_cAt2 (c152 _ _ _ ?_))
  unfold g152
  refine al_i ?_; intro be σ11 g11 e11 n11
  have fe : σ be = none := none_of hg10.gr n11
  have n21e : b21 ≠ be := ne_fr n11 (isSome_of k21)
  have n5e : b5 ≠ be := ne_fr n11 (isSome_of k5)
  refine j_i (fun j => ∀ (σ' τ' ρ : H) (t : Tr) (y : Sl) (w : Int), Gr σ τ' -> Gr τ' σ' -> τ' b5 = none -> τ' be = none -> Gr ρ σ' -> ρ b5 = none -> ρ be = none -> (∀ b, σ b ≠ none -> ρ b = none) -> σ' be = some (.cells ⟨[.int .i64 w]⟩ 36 (0, 0)) -> σ' b5 = some (.cells ⟨[.string ⟨⟨[]⟩⟩, .int .i64 0, .bool false, .string ⟨⟨[]⟩⟩, .slice none 0 0]⟩ 73 (0, 0)) -> σ' b21 = some (.cells ⟨trC t y⟩ 73 (0, 0)) -> 0 = (A.take (f + 1) path).1 -> t = (A.take (f + 1) path).2 -> SlAt ρ t.kids y -> j (some ⟨be, 0, none⟩) σ') ?_ ?_
  ·intro σ' τ' ρ t y w h1 h2 h3 h4 r1 r2 r3 r4 h5 h6 h7 h8 h9 h10
   refine st_i2 h5 sz_Errno (by rfl) (by rfl) ?_; intro σ'' p
   refine ptr_i (rd_I (rdC_of p.same (by rfl)) (app_I ?_))
   exact hj 0 σ'' τ' ρ t y h1 (h2.putF p h4) h3 (r1.putF p r3) r2 r4 (p.get n5e h6) (p.get n21e h7) h8 (fun _ => ⟨h9, h10⟩)
  intro j5 hj5
  refine ptr_i (rd_G (rdA_of' (g11.get k3) (by rfl)) ?_)
  (refine app_of rfl ?_; try dsimp only)
  refine ptr_i (rd_S (rdC_of (g11.get k4) (by rfl)) ?_)
  refine call_i (c153 _ _ ?_)
  unfold g153
  refine al_i ?_; intro c3 σ12 g12 e12 n12
  refine al_i ?_; intro c4 σ13 g13 e13 n13
  refine app_R (fun_i (rf_i go_cKids1 ?_))
  intro l obj σ14 nl pl hobj hY
  have lc3 : c3 ≠ l := ne_fr nl (isSome_of (g13.get e12))
  have lc4 : c4 ≠ l := ne_fr nl (isSome_of e13)
  have le' : be ≠ l := ne_fr nl (isSome_of (g13.get (g12.get e11)))
  have l21 : b21 ≠ l := ne_fr nl (isSome_of (g13.get (g12.get (g11.get k21))))
  have l5 : b5 ≠ l := ne_fr nl (isSome_of (g13.get (g12.get (g11.get k5))))
  have hg13 : Gr σ σ13 := ((hg10.gr.trans g11).trans g12).trans g13
  have fl : σ l = none := none_of hg13 nl
  have fc3 : σ c3 = none := none_of (hg10.gr.trans g11) n12
  have fc4 : σ c4 = none := none_of ((hg10.gr.trans g11).trans g12) n13
  have n21c3 : b21 ≠ c3 := ne_fr n12 (isSome_of (g11.get k21))
  have n21c4 : b21 ≠ c4 := ne_fr n13 (isSome_of (g12.get (g11.get k21)))
  have w3 := pl.get lc3 (g13.get e12)
  have w4 := pl.get lc4 e13
  have we := pl.get le' (g13.get (g12.get e11))
  have w21 := pl.get l21 (g13.get (g12.get (g11.get k21)))
  have w5 := pl.get l5 (g13.get (g12.get (g11.get k5)))
  have wl := pl.same
  have hg14 : Lng σ σ14 := ⟨hg13.putF pl fl⟩
  clear pl g11 g12 g13 e11 e12 e13 k3 k4 k5 k13 k21 hg10 hg13
  refine c204 _ _ _ ?_
  unfold g204
  refine ptr_i (rd_P (rdC_of w3 (by rfl)) (ptr_i (rd_S (rdC_of w4 (by rfl)) ?_)))
  refine call_i (s_List hI hB (by omega) (hF.gr hg14.gr) _ _ ?_)
  intro x σ15 g15 hx
  have hLsz : (A.listF ⟨⟨[47]⟩⟩ path).1 = 0 -> ∀ s ∈ (A.listF ⟨⟨[47]⟩⟩ path).2, 1 <= s.size /\ s.size <= 56 := by
   intro _ s hs
   unfold AT.listF at hs
   simp only at hs
   split at hs
   ·simp at hs
   split at hs
   ·simp at hs
   obtain ⟨j', hj'⟩ := names_mem hI hs
   obtain ⟨n, hn, _, hl, _⟩ := hI.find hj'
   have hnm := (hI.ent _ n s j' hn hl).1
   refine ⟨?_, namedE_size hnm⟩
   rcases Nat.lt_or_ge 0 s.size with h | h
   ·exact h
   ·exfalso
    have h0 : s.data.toList = [] := List.eq_nil_of_length_eq_zero (by rw [<- size_list]; omega)
    have : s = ⟨⟨[]⟩⟩ := bytes_ext h0
    rw [this] at hnm; exact absurd hnm (by decide +kernel)
  have hLln : (A.listF ⟨⟨[47]⟩⟩ path).2.length <= N := by
   unfold AT.listF
   simp only
   split
   ·simp
   split
   ·simp
   exact names_len hB
  generalize A.listF ⟨⟨[47]⟩⟩ path = L at *
  obtain ⟨le, ln⟩ := L
  simp only at *
  (refine app_of rfl ?_; try dsimp only)
  have y3 := g15.get w3
  have y4 := g15.get w4
  have ye := g15.get we
  have y21 := g15.get w21
  have y5 := g15.get w5
  have yl := g15.get wl
  have hg15 : Lng σ σ15 := ⟨hg14.gr.trans g15⟩
  clear g15 w3 w4 we w21 w5 wl hg14
  -- the end of it with an error
  have bad : ∀ (e : Int) (σ' τ' : H) (t : Tr) (y : Sl) (u : Int), e ≠ 0 -> e = (A.take (f + 1) path).1 -> Gr σ τ' -> Gr τ' σ' -> τ' b5 = none -> τ' be = none -> τ' l = none -> σ' be = some (.cells ⟨[.int .i64 e]⟩ 36 (0, 0)) -> σ' b5 = some (.cells ⟨[.string ⟨⟨[]⟩⟩, .int .i64 0, .bool false, .string ⟨⟨[]⟩⟩, .slice none 0 0]⟩ 73 (0, 0)) -> σ' b21 = some (.cells ⟨trC t y⟩ 73 (0, 0)) -> σ' l = some (obj .done (some .ret)) ->
   endK l obj (j5 (some ⟨be, 0, none⟩)) (fun i41 => exW i41 0 (j5 (some ⟨be, 0, none⟩)) nW) (rdT (rdC be 0) kI fun r45 => app kI (fun x44 => j (some ⟨b5, 0, none⟩) x44 (some ⟨b21, 0, none⟩)) (.int .i64 r45)) σ' := by
   intro e σ' τ' t y u he1 he2 h1 h2 h3 h4 h5 h6 h7 h8 h9
   refine end_r h9 (by intro h; cases h) ?_
   intro σ'' p
   refine rd_I (rdC_of (p.get le' h6) (by rfl)) (app_I ?_)
   exact hj e σ'' τ' (fun _ => none) t y h1 (h2.putF p h5) h3 (gr_empty _) rfl (fun _ _ => rfl) (p.get l5 h7) (p.get l21 h8) he2 (fun h => absurd h he1)
  by_cases hle : le = 0
  case neg =>
   rw [if_pos hle] at hTk
   refine br_t (by simpa using hle) (cvalv_i (yv_call (hY _ _ _ ⟨yl, ?_⟩)))
   show alW _ _ σ15
   refine al_i ?_; intro b26 σ16 g16 e16 n16
   have m26 : l ≠ b26 := ne_fr n16 (isSome_of yl)
   refine st_i2 e16 sz_Node (by rfl) (by rfl) ?_; intro σ17 p17
   refine beg_i (p17.get m26 (g16.get yl)) ?_
   intro σ18 p18
   have f26 : σ b26 = none := none_of hg15.gr n16
   refine br_t (by simpa using hle) ?_
   have ze := p18.get le' (p17.get (ne_fr n16 (isSome_of ye)) (g16.get ye))
   refine st_i2 ze sz_Errno (by rfl) (by rfl) ?_; intro σ19 p19
   refine round_i (p19.get le'.symm p18.same) ?_
   intro σ20 p20
   refine app_B ?_
   have z5 := p20.get l5 (p19.get n5e (p18.get l5 (p17.get (ne_fr n16 (isSome_of y5)) (g16.get y5))))
   have z21 := p20.get l21 (p19.get n21e (p18.get l21 (p17.get (ne_fr n16 (isSome_of y21)) (g16.get y21))))
   exact bad le σ20 σ (.mk ⟨⟨[]⟩⟩ 2 false xd []) ⟨none, 0, 0⟩ 0 hle (by rw [hTk]) (Gr.refl _) ((((hg15.gr.trans g16).putF p17 f26).putF p18 fl).putF p19 fe |>.putF p20 fl) f5 fe fl (p20.get le' p19.same) z5 z21 p20.same
  subst hle
  rw [if_neg (by simp)] at hTk
  have hnm := hLsz rfl
  refine br_f rfl (loop_i ?_)
  intro R hR
  have key : ∀ (rest : List ByteArray) (i : Nat) (acc : List Tr) (σi τi ρi : H) (z : Sl) (rows : List (List Value)), ln.drop i = rest -> acc.length = i -> Gr σ τi -> Gr τi σi -> (∀ b, σ15 b ≠ none -> σ b = none -> τi b = none) -> (∀ b o, σ15 b = some o -> b ≠ b21 -> b ≠ l -> σi b = some o) -> σi l = some (obj .ready none) ->
   σi b21 = some (.cells ⟨trC (.mk ⟨⟨[]⟩⟩ 2 false xd acc) z⟩ 73 (0, 0)) -> RowsOwn σi 73 5 rows z -> RowsTr ρi acc rows -> Gr ρi τi -> (∀ b, σ b ≠ none -> ρi b = none) -> (∀ g, z.base = some ⟨g, 0, none⟩ -> σ15 g = none /\ τi g = none) ->
   (takeRow (AT.take A f) path ln).1 = (takeRow (AT.take A f) path rest).1 -> ((takeRow (AT.take A f) path rest).1 = 0 -> (takeRow (AT.take A f) path ln).2 = acc ++ (takeRow (AT.take A f) path rest).2) ->
   R (yv l) (some ⟨c3, 0, none⟩) (some ⟨c4, 0, none⟩) x ((x.len : Nat) : Int) (i : Int) σi := by
   intro rest
   induction rest with
   | nil =>
    intro i acc σi τi ρi z rows hd hacc G1 G2 hnew hkeep hli h21 hown hrt hρ1 hρ2 hgf r1 r2
    have hge : ln.length <= i := by simpa using hd
    refine hR _ _ _ _ _ _ _ ?_
    refine br_f (by rw [hx.1]; simp only [decide_eq_false_iff_not]; omega) ?_
    refine end_n hli (by intro h; cases h) ?_
    intro σ' p
    obtain ⟨ρ', t1, t2, t3, t4⟩ := slAt_own hown hrt (hρ1.trans G2) fun g hx => none_of hρ1 (hgf g hx).2
    have hn' : ∀ b, σ15 b ≠ none -> σ b = none -> ρ' b = none := fun b hb hs => t4 b (fun h => hb (hgf b h).1) (none_of hρ1 (hnew b hb hs))
    have hs' : ∀ b, σ b ≠ none -> ρ' b = none := fun b hb => t4 b (fun h => hb (none_of hg15.gr (hgf b h).1)) (hρ2 b hb)
    have z5 := p.get l5 (hkeep b5 _ y5 n521 l5)
    have ze := p.get le' (hkeep be _ ye n21e.symm le')
    have z21 := p.get l21 h21
    have tl := hn' l (by rw [yl]; simp) fl
    have tl' := hnew l (by rw [yl]; simp) fl
    have hz : (takeRow (AT.take A f) path []).1 = 0 := rfl
    refine hj5 σ' τi ρ' _ z 0 G1 (G2.putF p tl') (hnew b5 (by rw [y5]; simp) f5) (hnew be (by rw [ye]; simp) fe) (t2.putF p tl) (hn' b5 (by rw [y5]; simp) f5) (hn' be (by rw [ye]; simp) fe) hs' ze z5 z21 ?_ ?_ t3
    ·rw [hTk]; show 0 = (takeRow (AT.take A f) path ln).1; rw [r1]; rfl
    ·rw [hTk]; simp only; rw [r2 rfl]; simp [takeRow]
   | cons s rest ihr =>
    intro i acc σi τi ρi z rows hd hacc G1 G2 hnew hkeep hli h21 hown hrt hρ1 hρ2 hgf r1 r2
    obtain ⟨hsi, hlt, hd'⟩ := drop_get hd
    have hsmem := List.mem_of_getElem? hsi
    obtain ⟨hs1, hs2⟩ := hnm s hsmem
    obtain ⟨gx, cx, x1, x2, x3⟩ := hx.at hsi
    have ngx21 : gx ≠ b21 := by intro e; rw [e, y21] at x2; cases x2
    have ngxl : gx ≠ l := by
     intro e; rw [e, yl] at x2
     obtain ⟨rr, hrr⟩ := hobj
     rw [hrr] at x2; cases x2
    have x2' := hkeep gx _ x2 ngx21 ngxl
    have nc3 : c3 ≠ b21 := n21c3.symm
    have nc4 : c4 ≠ b21 := n21c4.symm
    have z3 := hkeep c3 _ y3 nc3 lc3
    have z4 := hkeep c4 _ y4 nc4 lc4
    refine hR _ _ _ _ _ _ _ ?_
    refine br_t (by rw [hx.1]; simp only [decide_eq_true_eq]; omega) ?_
    rw [x1]
    refine ptr_i (if_i ⟨by omega, by rw [hx.1]; omega⟩ ?_)
    have hrd : rdC gx (0 + (i : Int).toNat * 1) σi = some (.string s) := rdC_of x2' (by simpa using x3)
    refine rd_S hrd (ptr_i (rd_G (rdA_of' z3 (by rfl)) ?_))
    (refine app_of rfl ?_; try dsimp only)
    refine ptr_i (rd_S (rdC_of z4 (by rfl)) ?_)
    refine call_i (x_Trim path (by omega) (app_S ?_))
    refine and_i (rdA_of' z3 (by rfl)) ?_
    have hts := trimS_size path
    have q1 : (⟨⟨[47]⟩⟩ : ByteArray).size = 1 := rfl
    refine if_i (by rw [q1]; omega) (if_i (by rw [ByteArray.size_append, q1]; omega) ?_)
    have hks := kidP_size path s
    have hcall := ih (kidP path s) (by omega) (by omega) (hF.gr G1) (K := fun v τ' => ∃ t y ρ, v = .tuple ⟨[.agg ⟨trC t y⟩, .int .i64 (A.take f (kidP path s)).1]⟩ /\ Gr τi τ' /\ Gr ρ τ' /\ (∀ b, τi b ≠ none -> ρ b = none) /\ ((A.take f (kidP path s)).1 = 0 -> t = (A.take f (kidP path s)).2 /\ SlAt ρ t.kids y)) (fun t y τ' ρ h1 h3 h4 h2 => ⟨t, y, ρ, rfl, h1, h3, h4, h2⟩)
    refine call_from G2 hcall ?_
    rintro v σ16 τ16 ⟨t, y, ρ, rfl, m1, mρ, mρ2, m2⟩ m3 m4 m5
    rw [takeRow] at r1 r2
    simp only at r1 r2
    generalize A.take f (kidP path s) = tk at m2 r1 r2 ⊢
    obtain ⟨te, tt⟩ := tk
    simp only at m2 r1 r2 ⊢
    unfold trC
    (refine app_of rfl ?_; try dsimp only)
    have kp16 : ∀ b o, σ15 b = some o -> b ≠ b21 -> b ≠ l -> σ b = none -> σ16 b = some o := fun b o h1 h2 h3 h4 => m4 b o (hnew b (by rw [h1]; simp) h4) (hkeep b o h1 h2 h3)
    have t21 : τi b21 = none := hnew b21 (by rw [y21]; simp) f21
    have tl : τi l = none := hnew l (by rw [yl]; simp) fl
    have u21 := m4 b21 _ t21 h21
    have ul := m4 l _ tl hli
    have T21 : τ16 b21 = none := m5 b21 (by rw [h21]; simp) t21
    have Tl : τ16 l = none := m5 l (by rw [hli]; simp) tl
    refine al_i ?_; intro b36 σ17 g17 e17 n17
    have m36 : τ16 b36 = none := none_of m3 n17
    refine st_i2 e17 sz_Node (by rfl) (by rfl) ?_; intro σ18 p18
    refine st_i2 p18.same sz_string (by rfl) (by rfl) ?_; intro σ19 p19
    have k36 : σ19 b36 = some (.cells ⟨trC (t.named s) y⟩ 73 (0, 0)) := by
     have := p19.same
     obtain ⟨tn, tkd, tex, td, tks⟩ := t
     exact this
    have st19 : ∀ b o, σ16 b = some o -> σ19 b = some o := fun b o hb => by
     have hne : b ≠ b36 := ne_fr n17 (isSome_of hb)
     exact p19.get hne (p18.get hne (g17.get hb))
    have G19 : Gr τ16 σ19 := (m3.trans g17).putF p18 m36 |>.putF p19 m36
    clear p18 p19 e17 g17
    refine j_d ?_
    unfold trC at k36
    refine rd_G (rdA_of' k36 (by rfl)) ?_
    (refine app_of rfl ?_; try dsimp only)
    refine cvalv_i (yv_call (hY _ _ _ ⟨st19 l _ ul, ?_⟩))
    show alW _ _ σ19
    refine al_i ?_; intro b26 σ20 g20 e20 n20
    refine st_i2 e20 sz_Node (by rfl) (by rfl) ?_; intro σ21 p21
    have st21 : ∀ b o, σ16 b = some o -> σ21 b = some o := fun b o hb => by
     have hb' := st19 b o hb
     exact p21.get (ne_fr n20 (isSome_of hb')) (g20.get hb')
    have m26 : τ16 b26 = none := none_of G19 n20
    have G21 : Gr τ16 σ21 := (G19.trans g20).putF p21 m26
    have k26 := p21.same
    have f26 : σ16 b26 = none := by
     cases h : σ16 b26 with
     | none => rfl
     | some o => have := st19 b26 o h; rw [n20] at this; cases this
    clear p21 e20 g20
    refine beg_i (st21 l _ ul) ?_
    intro σ22 p22
    have nl26 : b26 ≠ l := fun e => by rw [e, ul] at f26; cases f26
    have k26' := p22.get nl26 k26
    have st22 : ∀ b o, σ16 b = some o -> b ≠ l -> σ22 b = some o := fun b o hb hn => p22.get hn (st21 b o hb)
    have G22 : Gr τ16 σ22 := G21.putF p22 Tl
    have l22 : σ22 l = some (obj .busy none) := p22.same
    clear p22
    have e16 := kp16 be _ ye n21e.symm le' fe
    have e516 := kp16 b5 _ y5 n521 l5 f5
    have Te : τ16 be = none := m5 be (by rw [hkeep be _ ye n21e.symm le']; simp) (hnew be (by rw [ye]; simp) fe)
    have T5 : τ16 b5 = none := m5 b5 (by rw [hkeep b5 _ y5 n521 l5]; simp) (hnew b5 (by rw [y5]; simp) f5)
    by_cases hte : te = 0
    case neg =>
     rw [if_pos hte] at r1
     refine br_t (by simpa using hte) ?_
     refine st_i2 (st22 be _ e16 le') sz_Errno (by rfl) (by rfl) ?_; intro σ23 p23
     refine round_i (p23.get le'.symm l22) ?_
     intro σ24 p24
     refine app_B (br_t rfl (br_t rfl ?_))
     have z21 := p24.get l21 (p23.get n21e (st22 b21 _ u21 l21))
     have z5 := p24.get l5 (p23.get n5e (st22 b5 _ e516 l5))
     exact bad te σ24 τ16 _ z 0 hte (by rw [hTk]; exact r1.symm) (G1.trans m1) ((G22.putF p23 Te).putF p24 Tl) T5 Te Tl (p24.get le' p23.same) z5 z21 p24.same
    subst hte
    obtain ⟨rfl, hsl⟩ := m2 rfl
    rw [if_neg (by simp)] at r1 r2
    simp only at r1 r2
    unfold trC at u21 h21
    refine br_f rfl (ptr_i (rd_L (rdC_of (st22 b21 _ u21 l21) (by rfl)) ?_))
    refine rd_G (rdA_of' k26' (by rfl)) ?_
    (refine app_of rfl ?_; try dsimp only)
    refine al_i ?_; intro b35 σ23 g23 e23 n23
    have own23 : RowsOwn σ23 73 5 rows z := hown.keep fun g o hgz ho => by
     have hg := hgf g hgz
     have h1 := m4 g o hg.2 ho
     have hgl : g ≠ l := fun e => by rw [e, yl] at hg; cases hg.1
     exact g23.get (st22 g o h1 hgl)
    have hgl : ∀ g, z.base = some ⟨g, 0, none⟩ -> g ≠ l /\ g ≠ b21 := fun g hgz => by
     have hg := hgf g hgz
     exact ⟨fun e => (by rw [e, yl] at hg; cases hg.1), fun e => (by rw [e, y21] at hg; cases hg.1)⟩
    have st23 : ∀ b o, σ16 b = some o -> b ≠ l -> σ23 b = some o := fun b o hb hn => g23.get (st22 b o hb hn)
    have G23 : Gr τ16 σ23 := G22.trans g23
    have l23 := g23.get l22
    obtain ⟨inf, zz, i1, i2, i3, i4, i5⟩ := info_Node
    have hal : acc.length <= N := by omega
    have hrl : rows.length < 1000000000 := by rw [hrt.len]; omega
    have hone0 : ∀ u ∈ [Value.string ⟨⟨[]⟩⟩, .int .i64 0, .bool false, .string ⟨⟨[]⟩⟩, .slice none 0 0], u.oneCell' = true := by
     intro u hu
     simp only [List.mem_cons, List.mem_nil_iff, or_false] at hu
     rcases hu with rfl | rfl | rfl | rfl | rfl <;> rfl
    refine append_i und_Nodes i1 i2 i3 rfl i5 (by decide) own23 e23 rfl hone0 hrl i4 ?_
    intro z' σ24 own24 hcase
    obtain ⟨g', cur, z1, z2, z3', z4', z5'⟩ := own24.last (by decide)
    have hzl : z.len = rows.length := own23.1
    rw [z1]
    refine ptr_i (if_i ⟨by omega, by rw [z4', hzl]; omega⟩ (ptr_i ?_))
    have hofs : 0 + (((z.len : Nat) : Int) : Int).toNat * 5 = rows.length * 5 := by rw [hzl]; omega
    rw [hofs]
    have nb35 : σ16 b35 = none := by
     cases h : σ16 b35 with
     | none => rfl
     | some o =>
      by_cases e : b35 = l
      ·rw [e] at n23; rw [l22] at n23; cases n23
      ·have := st22 b35 o h e; rw [n23] at this; cases this
    -- where the rows lie now
    have hg' : g' ≠ b21 /\ g' ≠ l /\ τ16 g' = none /\ σ15 g' = none /\ Gr τ16 σ24 /\ (∀ b o, σ16 b = some o -> b ≠ l -> b ≠ g' -> σ24 b = some o) /\ σ24 l = some (obj .busy none) := by
     rcases hcase with ⟨g, o, hz1, hz2, p24⟩ | ⟨g, hz1, hf24, g24⟩
     ·have hgg : g = g' := by rw [hz2, hz1] at z1; cases z1; rfl
      subst hgg
      have hg := hgf g hz1
      have t16 : τ16 g = none := m5 g (hown.has hz1) hg.2
      exact ⟨(hgl g hz1).2, (hgl g hz1).1, t16, hg.1, G23.putF p24 t16, fun b o hb hn hng => p24.get hng (st23 b o hb hn), p24.get (hgl g hz1).1.symm l23⟩
     ·have hgg : g = g' := by rw [hz1] at z1; cases z1; rfl
      subst hgg
      have n1 : g ≠ b21 := fun e => by rw [e, st23 b21 _ u21 l21] at hf24; cases hf24
      have n2 : g ≠ l := fun e => by rw [e, l23] at hf24; cases hf24
      refine ⟨n1, n2, none_of G23 hf24, ?_, G23.trans g24, fun b o hb hn _ => g24.get (st23 b o hb hn), g24.get l23⟩
      cases h : σ15 g with
      | none => rfl
      | some o =>
       cases hs : σ g with
       | none => rw [st23 g o (kp16 g o h n1 n2 hs) n2] at hf24; cases hf24
       | some o' => rw [G23.get (m1.get (G1.get hs))] at hf24; cases hf24
    obtain ⟨q1', q2', q3', q4', q5', q6', q7'⟩ := hg'
    have hlen5 : (trC (t.named s) y).length = 5 := rfl
    have hnd : trC (t.named s) y = [.string s, .int .i64 t.kind, .bool t.exec, .string t.data, .slice y.base y.len y.cap] := by obtain ⟨tn, tkd, tex, td, tks⟩ := t; rfl
    have hnk : (t.named s).kids = t.kids := by obtain ⟨tn, tkd, tex, td, tks⟩ := t; rfl
    have fin : ∀ σ' : H, σ' b21 = some (.cells ⟨[.string ⟨⟨[]⟩⟩, .int .i64 2, .bool false, .string xd, .slice (some ⟨g', 0, none⟩) z'.len z'.cap]⟩ 73 (0, 0)) -> RowsOwn σ' 73 5 (rows ++ [trC (t.named s) y]) z' -> Gr τ16 σ' -> (∀ b o, σ16 b = some o -> b ≠ l -> b ≠ b21 -> b ≠ g' -> σ' b = some o) -> σ' l = some (obj .busy none) ->
     ∀ σ'' : H, Put σ' l (obj .ready none) σ'' -> R (yv l) (some ⟨c3, 0, none⟩) (some ⟨c4, 0, none⟩) x ((x.len : Nat) : Int) ((i : Int) + 1) σ'' := by
     intro σ' a1 a2 a3 a4 a5 σ'' pr
     rw [<- z1] at a1
     refine ihr (i + 1) (acc ++ [t.named s]) σ'' τ16 (ρi.union ρ) z' (rows ++ [trC (t.named s) y]) hd' (by simp [hacc]) (G1.trans m1) (a3.putF pr Tl) ?_ ?_ pr.same (pr.get l21 a1) ?_ ?_ (gr_union (hρ1.trans m1) mρ) ?_ ?_ r1 ?_
     ·intro b hb hs
      by_cases e1 : b = b21
      ·rw [e1]; exact T21
      ·by_cases e2 : b = l
       ·rw [e2]; exact Tl
       ·refine m5 b ?_ (hnew b hb hs)
        cases h : σ15 b with
        | none => exact absurd h hb
        | some o => rw [hkeep b o h e1 e2]; simp
     ·intro b o hb h1 h2
      have hbg : b ≠ g' := fun e => by rw [e, q4'] at hb; cases hb
      refine pr.get h2 ?_
      cases hs : σ b with
      | none => exact a4 b o (kp16 b o hb h1 h2 hs) h2 h1 hbg
      | some o' =>
       have h3 := G1.get hs
       have h4 := hkeep b o hb h1 h2
       have h5 := G2.get h3
       rw [h4] at h5; cases h5
       exact a3.get (m1.get h3)
     ·exact a2.keep fun g o hgz ho => pr.get (fun e => by rw [z1] at hgz; cases hgz; exact q2' e) ho
     ·have hdis : ∀ b, ρi b ≠ none -> ρ b = none := fun b hb => mρ2 b (fun h => hb (none_of hρ1 h))
      exact (hrt.gr (gr_left _ _)).snoc (trAt_iff.2 ⟨y, rfl, by rw [hnk]; exact hsl.gr (gr_right hdis)⟩)
     ·intro b hb
      exact union_none (hρ2 b hb) (mρ2 b (fun h => hb (none_of G1 h)))
     ·intro g hgz; rw [z1] at hgz; cases hgz; exact ⟨q4', q3'⟩
     ·intro h0
      rw [r2 h0]; simp
    have u24 := q6' b21 _ u21 l21 q1'.symm
    have hone1 : ∀ u ∈ arrL (Value.agg ⟨[.string s, .int .i64 t.kind, .bool t.exec, .string t.data, .slice y.base y.len y.cap]⟩).cells, u.oneCell' = true := by
     intro u hu
     have hu : u ∈ [Value.string s, .int .i64 t.kind, .bool t.exec, .string t.data, .slice y.base y.len y.cap] := hu
     simp only [List.mem_cons, List.mem_nil_iff, or_false] at hu
     rcases hu with rfl | rfl | rfl | rfl | rfl <;> rfl
    have hnm' : (t.named s).name = s /\ (t.named s).kind = t.kind /\ (t.named s).exec = t.exec /\ (t.named s).data = t.data := by obtain ⟨tn, tkd, tex, td, tks⟩ := t; exact ⟨rfl, rfl, rfl, rfl⟩
    rw [hnm'.1, hnm'.2.1, hnm'.2.2.1, hnm'.2.2.2]
    refine both_i ?_ ?_
    ·refine st_i z2 (sz_Node) (show rows.length * 5 + 5 <= cur.length from z3') hone1 (.inl (Nat.le_refl _)) ?_
     intro σ25 p25
     have own25 := z5' (trC (t.named s) y) σ25 hlen5 (by rw [hnd]; exact p25)
     refine st_i2 (p25.get q1'.symm u24) sz_Nodes (by rfl) (by rfl) ?_; intro σ26 p26
     refine round_i (p26.get l21.symm (p25.get q2'.symm q7')) ?_
     intro σ27 p27
     refine app_B (br_f rfl (br_f rfl ?_))
     rw [wrap_id (x := (i : Int) + 1) (by omega) (by omega)]
     exact fin σ26 p26.same (own25.put p26 (by rw [z1]; intro e; cases e; exact q1' rfl)) ((q5'.putF p25 q3').putF p26 T21) (fun b o hb h1 h2 h3 => p26.get h2 (p25.get h3 (q6' b o hb h1 h3))) (p26.get l21.symm (p25.get q2'.symm q7')) σ27 p27
    ·refine st_i2 u24 sz_Nodes (by rfl) (by rfl) ?_; intro σ25 p25
     have z2b := p25.get q1' z2
     refine st_i z2b (sz_Node) (show rows.length * 5 + 5 <= cur.length from z3') hone1 (.inl (Nat.le_refl _)) ?_
     intro σ26 p26
     have own25 : RowsOwn σ26 73 5 (rows ++ [trC (t.named s) y]) z' := by
      have hS := z5' (trC (t.named s) y) _ hlen5 (Put.intro σ24 g' _)
      refine hS.keep fun g o hgz ho => ?_
      rw [z1] at hgz; cases hgz
      rw [H.put_same] at ho; cases ho
      rw [hnd]; exact p26.same
     have h21' := p26.get q1'.symm p25.same
     refine round_i (p26.get q2'.symm (p25.get l21.symm q7')) ?_
     intro σ27 p27
     refine app_B (br_f rfl (br_f rfl ?_))
     rw [wrap_id (x := (i : Int) + 1) (by omega) (by omega)]
     exact fin σ26 h21' own25 ((q5'.putF p25 T21).putF p26 q3') (fun b o hb h1 h2 h3 => p26.get h3 (p25.get h2 (q6' b o hb h1 h3))) (p26.get q2'.symm (p25.get l21.symm q7')) σ27 p27
  have hlx : ∀ g, (⟨none, 0, 0⟩ : Sl).base = some ⟨g, 0, none⟩ -> σ15 g = none /\ σ g = none := fun g h => by cases h
  exact key ln 0 [] σ15 σ (fun _ => none) ⟨none, 0, 0⟩ [] rfl rfl (Gr.refl _) hg15.gr (fun _ _ h => h) (fun _ _ h _ _ => h) yl y21 (RowsOwn.nil _ _ _) trivial (gr_empty _) (fun _ _ => rfl) hlx rfl (fun _ => by simp)
end Go.Proofs.YtbjbeajbckcecaaGreatDoor

set_option maxRecDepth 100000
namespace Go.Proofs.YtbjbeajbckcecaaGreatDoor
open Go Go.HL Go.Wk
attribute [local irreducible] ptrW ifW brW andW rdT alW letJ stW muW biW vaW imW callT cvalT app callW invW callVW sizeT oW nilF oneK loopW rfW funW begW roundK exW idxW Gr Put
def PcFn (σ : H) (p : Pc) (v : Value) : Prop := (p = .star /\ v = .nilFunc) \/ ((∃ g cs, v = .func (.func g) ⟨[]⟩ ⟨cs⟩) /\ ∀ (σ' : H) (b : UInt8) (K : KH), Gr σ σ' -> K (.bool (p.f b)) σ' -> callVW Tryz.prog v [.int .u8 ((b.toNat : Nat) : Int)] K σ')
theorem PcFn.gr {σ σ' : H} {p : Pc} {v : Value} (h : PcFn σ p v) (hg : Gr σ σ') : PcFn σ' p v := h.imp id fun ⟨h1, h2⟩ => ⟨h1, fun σ'' b K hg' hK => h2 σ'' b K (hg.trans hg') hK⟩
theorem PcFn.one {σ : H} {p : Pc} {v : Value} (h : PcFn σ p v) : v.oneCell' = true /\ ∀ {g : H -> Prop} {τ : H}, g τ -> oneK v g τ := by
 rcases h with ⟨_, rfl⟩ | ⟨⟨g, cs, rfl⟩, _⟩
 ·exact ⟨rfl, fun h => by unfold oneK; exact h⟩
 ·exact ⟨rfl, fun h => by unfold oneK; exact h⟩
def pcRow (p : Pc) (v : Value) : List Value := [.bool p.isStar, v, .bool p.odd]
def PcRows (σ : H) (l : List Pc) (rows : List (List Value)) : Prop := rows.length = l.length /\ ∀ (i : Nat) (p : Pc), l[i]? = some p -> ∃ v, rows[i]? = some (pcRow p v) /\ PcFn σ p v
theorem PcRows.nil (σ : H) : PcRows σ [] [] := ⟨rfl, fun i p h => by simp at h⟩
theorem PcRows.gr {σ σ' : H} {l : List Pc} {rows : List (List Value)} (h : PcRows σ l rows) (hg : Gr σ σ') : PcRows σ' l rows := ⟨h.1, fun i p hi => by
 obtain ⟨v, h1, h2⟩ := h.2 i p hi
 exact ⟨v, h1, h2.gr hg⟩⟩
theorem PcRows.snoc {σ : H} {l : List Pc} {rows : List (List Value)} (h : PcRows σ l rows) {p : Pc} {v : Value} (hv : PcFn σ p v) : PcRows σ (l ++ [p]) (rows ++ [pcRow p v]) := by
 refine ⟨by simp [h.1], fun i q hi => ?_⟩
 rw [List.getElem?_append] at hi
 by_cases hlt : i < l.length
 ·rw [if_pos hlt] at hi
  obtain ⟨w, h1, h2⟩ := h.2 i q hi
  exact ⟨w, by rw [List.getElem?_append_left (by rw [h.1]; exact hlt)]; exact h1, h2⟩
 ·rw [if_neg hlt] at hi
  have : i - l.length = 0 := by
   rcases Nat.eq_zero_or_pos (i - l.length) with h | h
   ·exact h
   ·rw [List.getElem?_eq_none (by simp; omega)] at hi; cases hi
  rw [this] at hi
  simp at hi; subst hi
  refine ⟨v, ?_, hv⟩
  rw [List.getElem?_append_right (by rw [h.1]; omega), h.1, this]; rfl
def PcsAt (σ : H) (l : List Pc) (x : Sl) : Prop := ∃ rows, RowsAt σ 3 rows x /\ PcRows σ l rows
theorem PcsAt.gr {σ σ' : H} {l : List Pc} {x : Sl} (h : PcsAt σ l x) (hg : Gr σ σ') : PcsAt σ' l x := by
 obtain ⟨rows, h1, h2⟩ := h
 exact ⟨rows, h1.gr hg, h2.gr hg⟩
theorem PcsAt.len {σ : H} {l : List Pc} {x : Sl} (h : PcsAt σ l x) : x.len = l.length := by
 obtain ⟨rows, h1, h2⟩ := h
 rw [h1.1, h2.1]
end Go.Proofs.YtbjbeajbckcecaaGreatDoor

set_option maxRecDepth 100000
namespace Go.Proofs.YtbjbeajbckcecaaGreatDoor
open Go Go.HL Go.Wk
def BuAt (σ : H) (b : Nat) (l : List UInt8) (D : Nat -> Prop) : Prop := ∃ (p : Option Addr) (x : Sl), σ b = some (.cells ⟨[.pointer p, .slice x.base x.len x.cap]⟩ 121 (0, 0)) /\ (p = none \/ p = some ⟨b, 0, none⟩) /\ RowsOwn σ 5 1 (brows l) x /\ (∀ g, x.base = some ⟨g, 0, none⟩ -> g ≠ b) /\ (x.base ≠ none -> x.cap ≠ 0) /\ ∀ c, D c ↔ (c = b \/ x.base = some ⟨c, 0, none⟩)
theorem BuAt.gr {σ σ' : H} {b : Nat} {l : List UInt8} {D : Nat -> Prop} (h : BuAt σ b l D) (hg : Gr σ σ') : BuAt σ' b l D := by
 obtain ⟨p, x, h1, h2, h3, h4⟩ := h
 exact ⟨p, x, hg.get h1, h2, h3.gr hg, h4⟩
attribute [local irreducible] ptrW ifW brW andW rdT alW letJ stW muW biW vaW imW callT cvalT app callW invW callVW sizeT oW nilF oneK loopW rfW funW begW roundK exW idxW Gr Put
section
variable {σ : H} {b : Nat} {l : List UInt8} {D : Nat -> Prop}
end
end Go.Proofs.YtbjbeajbckcecaaGreatDoor

set_option maxRecDepth 100000
namespace Go.Proofs.YtbjbeajbckcecaaGreatDoor
open Go Go.HL Go.Wk
attribute [local irreducible] ptrW ifW brW andW rdT alW letJ stW muW biW vaW imW callT cvalT app callW invW callVW sizeT oW nilF oneK loopW rfW funW begW roundK exW idxW Gr Put
end Go.Proofs.YtbjbeajbckcecaaGreatDoor

