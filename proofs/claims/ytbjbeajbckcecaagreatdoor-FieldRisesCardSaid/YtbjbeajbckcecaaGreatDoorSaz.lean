/- A part of the proof: FieldRises holds. -/
import Derived.Test.YtbjbeajbckcecaaGreatDoorSay
set_option maxRecDepth 100000
namespace Go.Proofs.YtbjbeajbckcecaaGreatDoor
open Go Go.HL Go.Wk
attribute [local irreducible] ptrW ifW brW andW rdT alW letJ stW muW biW vaW imW callT cvalT app callW invW callVW sizeT oW nilF oneK loopW rfW funW begW roundK exW idxW Gr Put
theorem go_gMagic1 : isGo Tryz.prog 132 = true := by kernel_rfl
theorem pc_at {σ : H} {l : List Pc} {x : Sl} (h : PcsAt σ l x) {i : Nat} {p : Pc} (hi : l[i]? = some p) : ∃ g o v, x.base = some ⟨g, o, none⟩ /\ i < x.len /\ rdA 3 g (o + i * 3) σ = some (.agg ⟨pcRow p v⟩) /\ rdC g (o + i * 3) σ = some (.bool p.isStar) /\ rdC g (o + i * 3 + 1) σ = some v /\ PcFn σ p v := by
 have hl := h.len
 obtain ⟨rows, h1, h2⟩ := h
 obtain ⟨v, h3, h4⟩ := h2.2 i p hi
 obtain ⟨g, o, a1, a2, a3⟩ := h1.rdA h3 (by decide)
 refine ⟨g, o, v, a1, ?_, a2, by simpa using a3 0 _ rfl, a3 1 _ rfl, h4⟩
 rw [hl]
 rcases Nat.lt_or_ge i l.length with h | h
 ·exact h
 ·rw [List.getElem?_eq_none h] at hi; cases hi
theorem piecesF_len : ∀ (f : Nat) (l : List Ch), (piecesF f l).length <= l.length := by
 intro f
 induction f with
 | zero => intro l; exact Nat.zero_le _
 | succ f ih =>
  intro l
  cases l with
  | nil => exact Nat.zero_le _
  | cons c r =>
   rw [piecesF]
   cases hs : setP (c :: r) with
   | none => have := ih r; simp only [List.length_cons]; omega
   | some q =>
    obtain ⟨nt, ins, n⟩ := q
    obtain ⟨h1, h2⟩ := setP_len hs
    have := ih ((c :: r).drop n)
    rw [List.length_drop] at this
    simp only [List.length_cons] at *
    omega
theorem pieces_len (p : List Rn) : (piecesP p).length <= (charsR p).length := piecesF_len _ _
theorem s_gMagic {p : List Rn} {x : Sl} {σ : H} (hx : RowsAt σ 3 (rnRows p) x) (hp : p.length <= 1000000) (hn : (charsR p).length <= 1000000) {K : KH} (hK : K (.bool (magicP p)) σ) : callW Tryz.prog 65 [.slice x.base x.len x.cap] K σ := by
 refine pure_i _ hK (c65 _ ?_)
 clear hK
 unfold g65
 refine call_i (s_gPieces hx hp hn ?_)
 intro y τ hg hy
 refine app_L (call_i (c130 _ _ ?_))
 unfold g130
 refine call_i (c186 _ _ ?_)
 unfold g186
 unfold magicP
 have hpl := pieces_len p
 generalize piecesP p = l at hy hpl ⊢
 have hl := hy.len
 refine loop_i ?_
 intro R hR
 have key : ∀ (c i : Nat), c + i = l.length -> (l.take i).any Pc.odd = false -> R y (.func (.func 132) ⟨[]⟩ ⟨[]⟩) ((y.len : Nat) : Int) (i : Int) τ := by
  intro c
  induction c with
  | zero =>
   intro i hc hno
   refine hR _ _ _ _ _ ?_
   refine br_f (by simp only [decide_eq_false_iff_not]; omega) (app_I (app_B ⟨?_, hg⟩))
   rw [List.take_of_length_le (by omega)] at hno
   rw [hno]; rfl
  | succ c ih =>
   intro i hc hno
   obtain ⟨q, hq⟩ : ∃ q, l[i]? = some q := ⟨_, List.getElem?_eq_getElem (by omega)⟩
   obtain ⟨g, o, v, a1, a2, a3, _, _, _⟩ := pc_at hy hq
   refine hR _ _ _ _ _ ?_
   refine br_t (by simp only [decide_eq_true_eq]; omega) ?_
   rw [a1]
   refine ptr_i (if_i ⟨by omega, by show _ < ((y.len : Nat) : Int); omega⟩ (rd_G (by rw [Int.toNat_natCast]; exact a3) ?_))
   unfold pcRow
   (refine app_of rfl ?_; try dsimp only)
   refine cval_i go_gMagic1 (callW.pure (v := .bool q.odd) (c132 _ _ _ ?_) (app_B ?_))
   ·unfold g132
    refine al_i ?_; intro b4 τ1 q1 e1 n1
    exact rd_B (rdC_of e1 (by rfl)) ⟨rfl, q1⟩
   cases ho : q.odd with
   | true =>
    refine br_t rfl (app_I (app_B ⟨?_, hg⟩))
    have : l.any Pc.odd = true := List.any_eq_true.2 ⟨q, List.mem_of_getElem? hq, ho⟩
    rw [this]; simp
   | false =>
    refine br_f rfl ?_
    rw [wrapS (i := i) (by omega)]
    refine ih (i + 1) (by omega) ?_
    rw [List.take_add_one, hq, List.any_append, hno]; simp [ho]
 exact key l.length 0 (by omega) rfl
theorem starsN_le (l : List Pc) : starsN l <= l.length := by
 induction l with
 | nil => exact Nat.le_refl _
 | cons p r ih => unfold starsN; split <;> simp <;> omega
theorem starsN_cons (p : Pc) (r : List Pc) : starsN (p :: r) = if p.isStar then starsN r + 1 else 0 := rfl
theorem starsN_pos {l : List Pc} {a : Nat} (h : 0 < starsN (l.drop a)) : ∃ p, l[a]? = some p /\ p.isStar = true /\ starsN (l.drop a) = starsN (l.drop (a + 1)) + 1 := by
 cases hp : l[a]? with
 | none =>
  have : l.drop a = [] := List.drop_eq_nil_of_le (List.getElem?_eq_none_iff.1 hp)
  rw [this] at h; cases h
 | some p =>
  rw [drop_cons hp, starsN_cons] at h ⊢
  cases hs : p.isStar with
  | true => exact ⟨p, rfl, hs, by rw [if_pos rfl]⟩
  | false => rw [hs] at h; cases h
theorem starsN_zero {l : List Pc} {a : Nat} (h : starsN (l.drop a) = 0) : ∀ p, l[a]? = some p -> p.isStar = false := by
 intro p hp
 rw [drop_cons hp, starsN_cons] at h
 cases hs : p.isStar with
 | false => rfl
 | true => rw [hs] at h; simp at h
theorem not_star {σ : H} {p : Pc} {v : Value} (h : PcFn σ p v) (hs : p.isStar = false) : ∀ (σ' : H) (b : UInt8) (K : KH), Gr σ σ' -> K (.bool (p.f b)) σ' -> callVW Tryz.prog v [.int .u8 ((b.toNat : Nat) : Int)] K σ' := by
 rcases h with ⟨rfl, _⟩ | ⟨_, h⟩
 ·cases hs
 ·exact h
theorem s_gMatch {p : List Rn} {x : Sl} {σ : H} (hx : RowsAt σ 3 (rnRows p) x) (hp : p.length <= 1000000) (hn : (charsR p).length <= 1000000) (s : ByteArray) (hs : s.size <= 1000000) {K : KH} (hK : K (.bool (matchP (piecesP p) s.data.toList)) σ) : callW Tryz.prog 197 [.slice x.base x.len x.cap, .string s] K σ := by
 refine pure_i _ hK (c197 _ _ ?_)
 clear hK
 unfold g197
 refine call_i (s_gPieces hx hp hn ?_)
 intro y τ hg hy
 refine app_L ?_
 have hpl := pieces_len p
 generalize piecesP p = l at hy hpl ⊢
 have hl := hy.len
 have hsl : s.data.toList.length = s.size := (size_list s).symm
 generalize hres : matchP l s.data.toList = res
 have hfin : ∀ b : Bool, b = res -> (fun u σ' => u = Value.bool res /\ Gr σ σ') (.bool b) τ := fun b hb => ⟨by rw [hb], hg⟩
 refine j_i (fun j => ∀ (a i : Nat), a <= l.length -> i <= s.size -> ((i == s.size) && (a + starsN (l.drop a) == l.length)) = res -> j s y (a : Int) (i : Int) τ) ?_ ?_
 ·intro a i ha hi he
  refine loop_i ?_
  intro R hR
  have key : ∀ (c b : Nat), b <= l.length -> starsN (l.drop b) = c -> b + c = a + starsN (l.drop a) -> R s y (b : Int) (i : Int) τ := by
   intro c
   induction c with
   | zero =>
    intro b hb hc hbc
    refine hR _ _ _ _ _ ?_
    refine j_i (fun j => ∀ v1 v2 v3 v4 v5, j s y (b : Int) (i : Int) v1 v2 v3 v4 v5 false τ) ?_ ?_
    ·intro v1 v2 v3 v4 v5
     refine br_f rfl ?_
     by_cases h1 : i = s.size
     ·refine br_t (by simp [h1]) (hfin _ ?_)
      rw [<- he, hl]
      simp only [h1, beq_self_eq_true, Bool.true_and]
      by_cases h2 : b = l.length
      ·have : a + starsN (l.drop a) = l.length := by omega
       simp [h2, this]
      ·have : ¬ a + starsN (l.drop a) = l.length := by omega
       have h3 : ¬ (b : Int) = ((l.length : Nat) : Int) := by omega
       have h4 : ((b : Int) == ((l.length : Nat) : Int)) = false := by simpa using h3
       rw [h4]; simp [this]
     ·refine br_f ?_ (hfin _ ?_)
      ·have : ¬ (i : Int) = ((s.size : Nat) : Int) := by omega
       simpa using this
      ·rw [<- he]; simp [h1]
    ·intro j hj
     by_cases hlt : b < l.length
     ·obtain ⟨q, hq⟩ : ∃ q, l[b]? = some q := ⟨_, List.getElem?_eq_getElem hlt⟩
      obtain ⟨g, o, v, a1, a2, _, a4, _, _⟩ := pc_at hy hq
      rw [starsN_zero hc q hq] at a4
      refine br_t (by simp only [decide_eq_true_eq]; omega) ?_
      have ea1 := a1
      rw [a1]
      refine ptr_i (if_i ⟨by omega, by show _ < ((y.len : Nat) : Int); omega⟩ (rd_B (by rw [Int.toNat_natCast]; exact a4) ?_))
      rw [<- ea1]; exact hj _ _ _ _ _
     ·exact br_f (by simp only [decide_eq_false_iff_not]; omega) (hj _ _ _ _ _)
   | succ c ih =>
    intro b hb hc hbc
    obtain ⟨q, hq, hst, hsn⟩ := starsN_pos (l := l) (a := b) (by omega)
    have hlt : b < l.length := by
     rcases Nat.lt_or_ge b l.length with h | h
     ·exact h
     ·rw [List.getElem?_eq_none h] at hq; cases hq
    obtain ⟨g, o, v, a1, a2, _, a4, _, _⟩ := pc_at hy hq
    rw [hst] at a4
    refine hR _ _ _ _ _ ?_
    refine j_i (fun j => ∀ v1 v2 v3 v4 v5, j s y (b : Int) (i : Int) v1 v2 v3 v4 v5 true τ) ?_ ?_
    ·intro v1 v2 v3 v4 v5
     refine br_t rfl ?_
     rw [wrapS (i := b) (by omega)]
     exact ih (b + 1) (by omega) (by omega) (by omega)
    ·intro j hj
     refine br_t (by simp only [decide_eq_true_eq]; omega) ?_
     have ea1 := a1
     rw [a1]
     refine ptr_i (if_i ⟨by omega, by show _ < ((y.len : Nat) : Int); omega⟩ (rd_B (by rw [Int.toNat_natCast]; exact a4) ?_))
     rw [<- ea1]; exact hj _ _ _ _ _
  exact key (starsN (l.drop a)) a ha rfl rfl
 intro j4 h4
 refine loop_i ?_
 intro R hR
 have key : ∀ (f a : Nat) (back : Int) (fr i : Nat), (s.size + 1 - fr) * (s.size + 2) + (s.size - i) < f -> a <= l.length -> fr <= i -> i <= s.size -> back <= (l.length : Int) -> -1 <= back -> matchF l s.data.toList f a back fr i = res -> R s y (a : Int) back (fr : Int) (i : Int) τ := by
  intro f
  induction f with
  | zero => intro a back fr i hm; omega
  | succ f ih =>
   intro a back fr i hm ha hfi hi hb1 hb2 he
   rw [matchF] at he
   rw [hsl] at he
   refine hR _ _ _ _ _ _ _ ?_
   by_cases hlt : i < s.size
   case neg =>
    rw [if_neg hlt] at he
    refine br_f (by simp only [decide_eq_false_iff_not]; omega) (h4 a i ha hi he)
   rw [if_pos hlt] at he
   refine br_t (by simp only [decide_eq_true_eq]; omega) (loop_i ?_)
   intro R2 hR2
   generalize hk : starsN (l.drop a) = k at he
   simp only at he
   have hak : a + k <= l.length := by have := starsN_le (l.drop a); rw [List.length_drop] at this; omega
   have key2 : ∀ (c j : Nat), c + j = k -> starsN (l.drop (a + j)) = c -> R2 s y ((a + j : Nat) : Int) (if 0 < j then ((a + j : Nat) : Int) else back) (((if 0 < j then i else fr : Nat) : Nat) : Int) (i : Int) τ := by
    intro c
    induction c with
    | succ c ihc =>
     intro j hcj hst
     obtain ⟨q, hq, hqs, hsn⟩ := starsN_pos (l := l) (a := a + j) (by omega)
     obtain ⟨g, o, v, a1, a2, _, a4, _, _⟩ := pc_at hy hq
     rw [hqs] at a4
     refine hR2 _ _ _ _ _ _ _ ?_
     refine j_i (fun jj => ∀ v1 v2 v3 v4 v5, jj s y ((a + j : Nat) : Int) (if 0 < j then ((a + j : Nat) : Int) else back) (((if 0 < j then i else fr : Nat) : Nat) : Int) (i : Int) v1 v2 v3 v4 v5 true τ) ?_ ?_
     ·intro v1 v2 v3 v4 v5
      refine br_t rfl ?_
      rw [wrap_id (x := ((a + j : Nat) : Int) + 1) (by omega) (by omega), show ((a + j : Nat) : Int) + 1 = ((a + (j + 1) : Nat) : Int) from by omega]
      have := ihc (j + 1) (by omega) (by rw [show a + (j + 1) = a + j + 1 by omega]; omega)
      rw [if_pos (by omega), if_pos (by omega)] at this
      exact this
     ·intro jj hj
      refine br_t (by simp only [decide_eq_true_eq]; omega) ?_
      have ea1 := a1
      rw [a1]
      refine ptr_i (if_i ⟨by omega, by show _ < ((y.len : Nat) : Int); omega⟩ (rd_B (by rw [Int.toNat_natCast]; exact a4) ?_))
      rw [<- ea1]; exact hj _ _ _ _ _
    | zero =>
     intro j hcj hst
     have hjk : j = k := by omega
     subst hjk
     generalize hback : (if 0 < j then ((a + j : Nat) : Int) else back) = back' at he ⊢
     generalize hfr : (if 0 < j then i else fr : Nat) = fr' at he ⊢
     have hb1' : back' <= (l.length : Int) := by rw [<- hback]; split <;> omega
     have hb2' : -1 <= back' := by rw [<- hback]; split <;> omega
     have hfr1 : fr <= fr' := by rw [<- hfr]; split <;> omega
     have hfr2 : fr' <= i := by rw [<- hfr]; split <;> omega
     have hmul : (s.size + 1 - fr') * (s.size + 2) <= (s.size + 1 - fr) * (s.size + 2) := Nat.mul_le_mul_right _ (by omega)
     have hmul2 : (s.size + 1 - fr') * (s.size + 2) = (s.size + 1 - (fr' + 1)) * (s.size + 2) + (s.size + 2) := by
      rw [show s.size + 1 - fr' = (s.size + 1 - (fr' + 1)) + 1 by omega, Nat.succ_mul]
     obtain ⟨ch, hch⟩ : ∃ ch, s.data.toList[i]? = some ch := ⟨_, List.getElem?_eq_getElem (by omega)⟩
     have hgd : s.data.toList.getD i 0 = ch := by rw [List.getD_eq_getElem?_getD, hch]; rfl
     rw [hgd] at he
     refine hR2 _ _ _ _ _ _ _ ?_
     refine j_i (fun jj => ∀ v1 v2 v3 v4 v5, jj s y ((a + j : Nat) : Int) back' (fr' : Int) (i : Int) v1 v2 v3 v4 v5 false τ) ?_ ?_
     case refine_2 =>
      intro jj hj
      by_cases hlt2 : a + j < l.length
      ·obtain ⟨q, hq⟩ : ∃ q, l[a + j]? = some q := ⟨_, List.getElem?_eq_getElem hlt2⟩
       obtain ⟨g, o, v, a1, a2, _, a4, _, _⟩ := pc_at hy hq
       rw [starsN_zero hst q hq] at a4
       refine br_t (by simp only [decide_eq_true_eq]; omega) ?_
       have ea1 := a1
       rw [a1]
       refine ptr_i (if_i ⟨by omega, by show _ < ((y.len : Nat) : Int); omega⟩ (rd_B (by rw [Int.toNat_natCast]; exact a4) ?_))
       rw [<- ea1]; exact hj _ _ _ _ _
      ·exact br_f (by simp only [decide_eq_false_iff_not]; omega) (hj _ _ _ _ _)
     intro v1 v2 v3 v4 v5
     refine br_f rfl ?_
     refine j_i (fun jj => ∀ v1 v2 v3 v4 v5 (t : Bool) w1 w2 w3 w4 w5 w6 w7 w8 w9, t = pcHit l[a + j]? ch -> jj s y ((a + j : Nat) : Int) back' (fr' : Int) (i : Int) v1 v2 v3 v4 v5 t w1 w2 w3 w4 w5 w6 w7 w8 w9 τ) ?_ ?_
     case refine_2 =>
      intro jj hj
      by_cases hlt2 : a + j < l.length
      ·obtain ⟨q, hq⟩ : ∃ q, l[a + j]? = some q := ⟨_, List.getElem?_eq_getElem hlt2⟩
       obtain ⟨g, o, v, a1, a2, _, _, a5, a6⟩ := pc_at hy hq
       refine br_t (by simp only [decide_eq_true_eq]; omega) ?_
       have ea1 := a1
       rw [a1]
       refine ptr_i (if_i ⟨by omega, by show _ < ((y.len : Nat) : Int); omega⟩ (rd_R (by rw [Int.toNat_natCast]; exact a5) (idx_l (c := ch) (by omega) (by simpa using hch) ?_)))
       refine cvalv_i (not_star a6 (starsN_zero hst q hq) τ ch _ (Gr.refl _) (app_B ?_))
       rw [<- ea1]
       exact hj _ _ _ _ _ _ _ _ _ _ _ _ _ _ _ (by simp [pcHit, hq])
      ·have hnone : l[a + j]? = none := List.getElem?_eq_none (by omega)
       exact br_f (by simp only [decide_eq_false_iff_not]; omega) (hj _ _ _ _ _ false _ _ _ _ _ _ _ _ _ (by simp [pcHit, hnone]))
     intro v1 v2 v3 v4 v5 t w1 w2 w3 w4 w5 w6 w7 w8 w9 ht
     rw [<- ht] at he
     cases t with
     | true =>
      have hlt2 : a + j < l.length := by
       rcases Nat.lt_or_ge (a + j) l.length with h | h
       ·exact h
       ·rw [List.getElem?_eq_none h] at ht; cases ht
      rw [if_pos rfl] at he
      refine br_t rfl ?_
      rw [wrap_id (x := ((a + j : Nat) : Int) + 1) (by omega) (by omega), wrap_id (x := (i : Int) + 1) (by omega) (by omega), show ((a + j : Nat) : Int) + 1 = ((a + j + 1 : Nat) : Int) from by omega, show (i : Int) + 1 = ((i + 1 : Nat) : Int) from by omega]
      exact ih (a + j + 1) back' fr' (i + 1) (by omega) (by omega) (by omega) (by omega) hb1' hb2' he
     | false =>
      rw [if_neg (by decide)] at he
      refine br_f rfl ?_
      by_cases hb0 : back' < 0
      ·rw [if_pos hb0] at he
       exact br_t (by simpa using hb0) (h4 (a + j) i hak hi he)
      ·rw [if_neg hb0] at he
       refine br_f (by simpa using hb0) ?_
       rw [wrap_id (x := (fr' : Int) + 1) (by omega) (by omega), show (fr' : Int) + 1 = ((fr' + 1 : Nat) : Int) from by omega]
       have hbb : ((back'.toNat : Nat) : Int) = back' := by omega
       have := ih back'.toNat back' (fr' + 1) (fr' + 1) (by omega) (by omega) (by omega) (by omega) hb1' hb2' he
       rw [hbb] at this
       exact this
   have := key2 k 0 (by omega) (by simpa using hk)
   simpa using this
 have hm2 : (s.size + 2) * (s.size + 2) = (s.size + 1) * (s.size + 2) + (s.size + 2) := by rw [show s.size + 2 = (s.size + 1) + 1 from rfl, Nat.succ_mul]
 unfold matchP at hres
 rw [hsl] at hres
 exact key ((s.size + 2) * (s.size + 2)) 0 (-1) 0 0 (by rw [hm2]; simp only [Nat.sub_zero]; omega) (Nat.zero_le _) (Nat.le_refl _) (Nat.zero_le _) (by omega) (by omega) hres
theorem s_gPlain {p : List Rn} {x : Sl} {σ : H} (hx : RowsAt σ 3 (rnRows p) x) (hp : p.length <= 1000000) (hn : (plainL p).length <= 1000000) {K : KH} (hK : ∀ σ', Gr σ σ' -> K (.string (plainR p)) σ') : callW Tryz.prog 27 [.slice x.base x.len x.cap] K σ := by
 refine c27 _ ?_
 unfold g27
 refine al_i ?_; intro b2 σ1 g1 e1 n1
 refine loop_i ?_
 intro R hR
 have hxl : x.len = p.length := by have := hx.1; simpa [rnRows] using this
 have key : ∀ (c i : Nat) (τ : H) (D : Nat -> Prop), c + i = p.length -> BuAt τ b2 (plainL (p.take i)) D -> Gr σ τ -> (∀ b, D b -> σ b = none) -> R (some ⟨b2, 0, none⟩) x ((x.len : Nat) : Int) (i : Int) τ := by
  intro c
  induction c with
  | zero =>
   intro i τ D hc hB hg hD
   rw [List.take_of_length_le (by omega)] at hB
   refine hR _ _ _ _ _ ?_
   refine br_f (by simp only [decide_eq_false_iff_not]; omega) (call_i (s_BuStr hB (by omega) ?_))
   intro σ' hkeep
   refine app_S (hK σ' ?_)
   exact gr_of fun b o hb => hkeep b o (hg.get hb) (fun hd => by rw [hD b hd] at hb; cases hb)
  | succ c ih =>
   intro i τ D hc hB hg hD
   obtain ⟨r, hr⟩ : ∃ r, p[i]? = some r := ⟨_, List.getElem?_eq_getElem (by omega)⟩
   obtain ⟨g, o, a1, a2, a3⟩ := rnRow_at (hx.gr hg) hr
   refine hR _ _ _ _ _ ?_
   refine br_t (by simp only [decide_eq_true_eq]; omega) ?_
   rw [a1]
   refine ptr_i (if_i ⟨by omega, by show _ < ((x.len : Nat) : Int); omega⟩ (rd_G (by rw [Int.toNat_natCast]; exact a3) ?_))
   unfold Rn.cells
   (refine app_of rfl ?_; try dsimp only)
   refine al_i ?_; intro b13 τ1 q1 e2 n2
   refine st_i2 e2 sz_Run (by rfl) (by rfl) ?_; intro τ2 p2
   have hB2 : BuAt τ2 b2 (plainL (p.take i)) D := (hB.gr q1).put p2 (fun hd => hB.has hd n2)
   have htk : plainL (p.take (i + 1)) = plainL (p.take i) ++ r.t.data.toList := by
    rw [List.take_add_one, hr, plainL_app]; simp [plainL]
   have hlen : (plainL (p.take i)).length + r.t.size <= 1000000 := by
    have : plainL p = plainL (p.take (i + 1)) ++ plainL (p.drop (i + 1)) := by rw [<- plainL_app, List.take_append_drop]
    rw [this, htk, List.length_append, List.length_append, <- size_list] at hn
    omega
   refine rd_S (rdC_of p2.same (by rfl)) (call_i (s_BuWrS hB2 r.t (by omega) ?_))
   intro τ3 D3 hB3 S3
   refine app_of rfl ?_
   rw [wrapS (i := i) (by omega)]
   have hg2 : Gr σ τ2 := (hg.trans q1).putF p2 (none_of hg n2)
   refine ih (i + 1) τ3 D3 (by omega) (by rw [htk]; exact hB3) (gr_of fun b o hb => (S3 b o (hg2.get hb) (fun hd => by rw [hD b hd] at hb; cases hb)).1) ?_
   intro b hd
   cases hb : σ b with
   | none => rfl
   | some o => exact absurd hd (S3 b o (hg2.get hb) (fun hd => by rw [hD b hd] at hb; cases hb)).2
 exact key p.length 0 σ1 (fun c => c = b2) (by omega) (by simpa [plainL] using BuAt.new e1) g1 (fun b hb => by rw [hb]; exact n1)
end Go.Proofs.YtbjbeajbckcecaaGreatDoor

