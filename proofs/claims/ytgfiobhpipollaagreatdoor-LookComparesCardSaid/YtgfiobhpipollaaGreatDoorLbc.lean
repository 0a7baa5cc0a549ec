/- A part of the proof: LookCompares holds. -/
import Derived.Test.YtgfiobhpipollaaGreatDoorLbb
import Derived.WalkKit
import Derived.ProofKit
import Derived.OpenShut
import Derived.Deep.DeepHandedRow
set_option maxRecDepth 100000
namespace Go.Proofs.YtgfiobhpipollaaGreatDoor
open Go Go.HL Go.Wk
attribute [local irreducible] ptrW ifW brW andW rdT alW letJ stW muW biW vaW imW callT cvalT app callW invW callVW sizeT oW nilF oneK loopW rfW funW begW roundK exW idxW Gr Put
section
variable {σ : H} {K : KH}
theorem s_rf24Path {p q : PathP} {x y : Sl} (hx : RowsAt σ 1 (strRows p.refs) x) (hy : RowsAt σ 1 (strRows q.refs) y) (hn : p.refs.length <= 1000000000) (hK : K (.bool (p.same q)) σ) : callW Tryz.prog 69 [.agg ⟨pRow p x⟩, .agg ⟨pRow q y⟩] K σ := by
 refine pure_i _ hK (c69 _ _ _ _ _ _ _ _ ?_)
 clear hK
 obtain ⟨v, hv⟩ : ∃ v, p.same q = v := ⟨_, rfl⟩
 rw [hv]
 unfold PathP.same at hv
 unfold g69
 refine al_i ?_; intro b9 σ1 g1 e1 n1
 refine al_i ?_; intro b10 σ2 g2 e2 n2
 have f1 := g2.get e1
 have G := g1.trans g2
 have hx2 := hx.gr G
 have hy2 := hy.gr G
 have hxl := sLen hx
 have hyl := sLen hy
 refine j_i (fun j => ∀ b : Bool, (b = true -> v = false) -> (b = false -> p.refs.length = q.refs.length /\ v = sameL p.refs q.refs) -> j (some ⟨b9, 0, none⟩) (some ⟨b10, 0, none⟩) b σ2) ?_ ?_
 ·intro b ht hf
  refine br_i (fun h => ⟨by rw [ht h], G⟩) (fun h => ?_)
  obtain ⟨hll, hvv⟩ := hf h
  refine loop_i ?_
  intro R hR
  have key : ∀ (r t : List ByteArray) (i : Nat), p.refs.drop i = r -> q.refs.drop i = t -> v = sameL r t -> R (some ⟨b9, 0, none⟩) (some ⟨b10, 0, none⟩) (i : Int) σ2 := by
   intro r
   induction r with
   | nil =>
    intro t i hd ht he
    have h4 : p.refs.length <= i := by simpa using hd
    have h5 : t = [] := by rw [<- ht]; exact List.drop_eq_nil_of_le (by omega)
    subst h5
    refine hR _ _ _ _ (ptr_i (rd_L (rdC_of f1 (by rfl)) (br_f (by rw [hxl]; simp only [decide_eq_false_iff_not]; omega) ⟨by rw [he]; rfl, G⟩)))
   | cons s r ih =>
    intro t i hd ht he
    obtain ⟨h1, h2, h3⟩ := get_drop hd
    obtain ⟨u, hu⟩ : ∃ u, q.refs[i]? = some u := ⟨_, List.getElem?_eq_getElem (by omega)⟩
    have ht' : t = u :: q.refs.drop (i + 1) := by rw [<- ht]; exact drop_cons2 hu
    subst ht'
    obtain ⟨g, o, q1, q2, q3⟩ := sRow hx2 h1
    obtain ⟨g', o', p1, p2, p3⟩ := sRow hy2 hu
    refine hR _ _ _ _ (ptr_i (rd_L (rdC_of f1 (by rfl)) (br_t (by rw [hxl]; simp only [decide_eq_true_eq]; omega) ?_)))
    refine ptr_i (rd_L (rdC_of f1 (by rfl)) ?_)
    rw [q1]
    refine ptr_i (if_i ⟨by omega, by show _ < ((x.len : Nat) : Int); omega⟩ (rd_S (by rw [Int.toNat_natCast]; exact q3) ?_))
    refine ptr_i (rd_L (rdC_of e2 (by rfl)) ?_)
    rw [p1]
    refine ptr_i (if_i ⟨by omega, by show _ < ((y.len : Nat) : Int); omega⟩ (rd_S (by rw [Int.toNat_natCast]; exact p3) ?_))
    rw [strEq_beq]
    simp only [sameL] at he
    refine br_i (fun hb => ?_) (fun hb => ?_)
    ·have : (s == u) = false := by simpa using hb
     exact ⟨by rw [he, this]; rfl, G⟩
    ·have : (s == u) = true := by simpa using hb
     rw [this, Bool.true_and] at he
     rw [wrap_id (x := (i : Int) + 1) (by omega) (by omega), show (i : Int) + 1 = ((i + 1 : Nat) : Int) from by omega]
     exact ih _ (i + 1) h3 rfl he
  exact key p.refs q.refs 0 rfl rfl hvv
 intro j hj
 refine rd_S (rdC_of f1 (by rfl)) (rd_S (rdC_of e2 (by rfl)) ?_)
 rw [strEq_beq]
 refine br_i (fun hb => ?_) (fun hb => ?_)
 ·have hb : (p.path == q.path) = false := by simpa using hb
  exact hj _ (fun _ => by rw [<- hv, hb]; rfl) (fun h => by cases h)
 have hb : (p.path == q.path) = true := by simpa using hb
 rw [hb, Bool.true_and] at hv
 refine rd_S (rdC_of f1 (by rfl)) (rd_S (rdC_of e2 (by rfl)) ?_)
 rw [strEq_beq]
 refine br_i (fun hb => ?_) (fun hb => ?_)
 ·have hb : (p.nar == q.nar) = false := by simpa using hb
  exact hj _ (fun _ => by rw [<- hv, hb]; rfl) (fun h => by cases h)
 have hb : (p.nar == q.nar) = true := by simpa using hb
 rw [hb, Bool.true_and] at hv
 refine rd_S (rdC_of f1 (by rfl)) (rd_S (rdC_of e2 (by rfl)) ?_)
 rw [strEq_beq]
 refine br_i (fun hb => ?_) (fun hb => ?_)
 ·have hb : (p.drv == q.drv) = false := by simpa using hb
  exact hj _ (fun _ => by rw [<- hv, hb]; rfl) (fun h => by cases h)
 have hb : (p.drv == q.drv) = true := by simpa using hb
 rw [hb, Bool.true_and] at hv
 refine rd_L (rdC_of f1 (by rfl)) (rd_L (rdC_of e2 (by rfl)) ?_)
 refine hj _ (fun h => ?_) (fun h => ?_)
 ·rw [<- hv]; exact sameL_len (by simp at h; omega)
 ·exact ⟨by simp at h; omega, hv.symm⟩
theorem s_rf24Same {a b : List PathP} {x y : Sl} (hx : PsAt σ a x) (hy : PsAt σ b y) (hn : a.length <= 1000000000) (hr : ∀ p ∈ a, p.refs.length <= 1000000000) (hK : K (.bool (sameW a b)) σ) : callW Tryz.prog 40 [.slice x.base x.len x.cap, .slice y.base y.len y.cap] K σ := by
 refine pure_i _ hK (c40 _ _ ?_)
 clear hK
 unfold g40
 have ha := hx.len
 have hb := hy.len
 refine br_i (fun h => ?_) (fun h => ?_)
 ·rw [sameW_len (by simp at h; omega)]; exact ⟨rfl, Gr.refl _⟩
 have hab : a.length = b.length := by simp at h; omega
 refine loop_i ?_
 intro R hR
 have key : ∀ (r q : List PathP) (i : Nat), a.drop i = r -> b.drop i = q -> sameW a b = sameW r q -> R x y (i : Int) σ := by
  intro r
  induction r with
  | nil =>
   intro q i hd hq he
   have h4 : a.length <= i := by simpa using hd
   have h5 : q = [] := by rw [<- hq]; exact List.drop_eq_nil_of_le (by omega)
   subst h5
   exact hR _ _ _ _ (br_f (by rw [ha]; simp only [decide_eq_false_iff_not]; omega) ⟨by rw [he]; rfl, Gr.refl _⟩)
  | cons s r ih =>
   intro q i hd hq he
   obtain ⟨h1, h2, h3⟩ := get_drop hd
   obtain ⟨u, hu⟩ : ∃ u, b[i]? = some u := ⟨_, List.getElem?_eq_getElem (by omega)⟩
   have hq' : q = u :: b.drop (i + 1) := by rw [<- hq]; exact drop_cons2 hu
   subst hq'
   obtain ⟨g, o, y1, q1, q2, q3, q4⟩ := hx.get h1
   obtain ⟨g', o', y2, p1, p2, p3, p4⟩ := hy.get hu
   refine hR _ _ _ _ (br_t (by rw [ha]; simp only [decide_eq_true_eq]; omega) ?_)
   rw [q1]
   refine ptr_i (if_i ⟨by omega, by show _ < ((x.len : Nat) : Int); omega⟩ (rd_G (by rw [Int.toNat_natCast]; exact q3) ?_))
   unfold pRow
   (refine app_of rfl ?_; try dsimp only)
   rw [p1]
   refine ptr_i (if_i ⟨by omega, by show _ < ((y.len : Nat) : Int); omega⟩ (rd_G (by rw [Int.toNat_natCast]; exact p3) ?_))
   unfold pRow
   (refine app_of rfl ?_; try dsimp only)
   refine call_i (s_rf24Path (p := s) (q := u) q4 p4 (hr s (List.mem_of_getElem? h1)) (app_B ?_))
   simp only [sameW] at he
   refine br_i (fun hb => ?_) (fun hb => ?_)
   ·have : s.same u = false := by simpa using hb
    exact ⟨by rw [he, this]; rfl, Gr.refl _⟩
   ·have : s.same u = true := by simpa using hb
    rw [this, Bool.true_and] at he
    rw [wrap_id (x := (i : Int) + 1) (by omega) (by omega), show (i : Int) + 1 = ((i + 1 : Nat) : Int) from by omega]
    exact ih _ (i + 1) h3 rfl he
 exact key a b 0 rfl rfl rfl
variable {S T U : StP} {x1 x2 y1 y2 z1 z2 : Sl}
theorem s_rf30Same (hS : StAt σ S x1 x2) (hT : StAt σ T y1 y2) (hz : Sm S) (hK : K (.bool (S.same T)) σ) : callW Tryz.prog 17 [stV x1 x2, stV y1 y2] K σ := by
 refine pure_i _ hK (c17 _ _ _ _ ?_)
 clear hK
 obtain ⟨v, hv⟩ : ∃ v, S.same T = v := ⟨_, rfl⟩
 rw [hv]
 unfold StP.same at hv
 unfold g17
 have hnp := hz.np
 have hnr := hz.nr
 refine al_i ?_; intro b5 σ1 g1 e1 n1
 refine al_i ?_; intro b6 σ2 g2 e2 n2
 have f1 := g2.get e1
 have G := g1.trans g2
 have hx2 := hS.2.gr G
 have hy2 := hT.2.gr G
 have hxl := sLen hS.2
 have hyl := sLen hT.2
 refine j_i (fun j => ∀ b : Bool, (b = true -> v = false) -> (b = false -> S.roots.length = T.roots.length /\ v = sameL S.roots T.roots) -> j (some ⟨b5, 0, none⟩) (some ⟨b6, 0, none⟩) b σ2) ?_ ?_
 ·intro b ht hf
  refine br_i (fun h => ⟨by rw [ht h], G⟩) (fun h => ?_)
  obtain ⟨hll, hvv⟩ := hf h
  refine loop_i ?_
  intro R hR
  have key : ∀ (r t : List ByteArray) (i : Nat), S.roots.drop i = r -> T.roots.drop i = t -> v = sameL r t -> R (some ⟨b5, 0, none⟩) (some ⟨b6, 0, none⟩) (i : Int) σ2 := by
   intro r
   induction r with
   | nil =>
    intro t i hd ht he
    have h4 : S.roots.length <= i := by simpa using hd
    have h5 : t = [] := by rw [<- ht]; exact List.drop_eq_nil_of_le (by omega)
    subst h5
    refine hR _ _ _ _ (ptr_i (rd_L (rdC_of f1 (by rfl)) (br_f (by rw [hxl]; simp only [decide_eq_false_iff_not]; omega) ⟨by rw [he]; rfl, G⟩)))
   | cons s r ih =>
    intro t i hd ht he
    obtain ⟨h1, h2, h3⟩ := get_drop hd
    obtain ⟨u, hu⟩ : ∃ u, T.roots[i]? = some u := ⟨_, List.getElem?_eq_getElem (by omega)⟩
    have ht' : t = u :: T.roots.drop (i + 1) := by rw [<- ht]; exact drop_cons2 hu
    subst ht'
    obtain ⟨g, o, q1, q2, q3⟩ := sRow hx2 h1
    obtain ⟨g', o', p1, p2, p3⟩ := sRow hy2 hu
    refine hR _ _ _ _ (ptr_i (rd_L (rdC_of f1 (by rfl)) (br_t (by rw [hxl]; simp only [decide_eq_true_eq]; omega) ?_)))
    refine ptr_i (rd_L (rdC_of f1 (by rfl)) ?_)
    rw [q1]
    refine ptr_i (if_i ⟨by omega, by show _ < ((x2.len : Nat) : Int); omega⟩ (rd_S (by rw [Int.toNat_natCast]; exact q3) ?_))
    refine ptr_i (rd_L (rdC_of e2 (by rfl)) ?_)
    rw [p1]
    refine ptr_i (if_i ⟨by omega, by show _ < ((y2.len : Nat) : Int); omega⟩ (rd_S (by rw [Int.toNat_natCast]; exact p3) ?_))
    rw [strEq_beq]
    simp only [sameL] at he
    refine br_i (fun hb => ?_) (fun hb => ?_)
    ·have : (s == u) = false := by simpa using hb
     exact ⟨by rw [he, this]; rfl, G⟩
    ·have : (s == u) = true := by simpa using hb
     rw [this, Bool.true_and] at he
     rw [wrap_id (x := (i : Int) + 1) (by omega) (by omega), show (i : Int) + 1 = ((i + 1 : Nat) : Int) from by omega]
     exact ih _ (i + 1) h3 rfl he
  exact key S.roots T.roots 0 rfl rfl hvv
 intro j hj
 refine rd_L (rdC_of f1 (by rfl)) (rd_L (rdC_of e2 (by rfl)) ?_)
 refine br_i (fun hb => ?_) (fun hb => ?_)
 ·refine hj _ (fun _ => ?_) (fun h => by cases h)
  rw [<- hv, sameL_len (by simp at hb; omega), Bool.and_false]
 have hll : S.roots.length = T.roots.length := by simp at hb; omega
 refine rd_L (rdC_of f1 (by rfl)) (rd_L (rdC_of e2 (by rfl)) ?_)
 refine call_i (s_rf24Same (hS.1.gr G) (hT.1.gr G) (by omega) (fun p hp => by have := (hz.pa p hp).2.2.2.1; omega) (app_B ?_))
 refine hj _ (fun h => ?_) (fun h => ⟨hll, ?_⟩)
 ·have : sameW S.paths T.paths = false := by simpa using h
  rw [<- hv, this]; rfl
 ·have : sameW S.paths T.paths = true := by simpa using h
  rw [<- hv, this, Bool.true_and]
theorem s_rf30Betw (hS : StAt σ S x1 x2) (hT : StAt σ T y1 y2) (hU : StAt σ U z1 z2) (hz : Sm S) (hy : Sm T) (hK : K (.int .i64 (btwP S T U)) σ) : callW Tryz.prog 19 [stV x1 x2, stV y1 y2, stV z1 z2] K σ := by
 refine pure_i _ hK (c19 _ _ _ _ _ _ ?_)
 clear hK
 unfold g19 btwP
 refine al_i ?_; intro b7 σ1 g1 e1 n1
 refine al_i ?_; intro b8 σ2 g2 e2 n2
 refine al_i ?_; intro b9 σ3 g3 e3 n3
 have G := (g1.trans g2).trans g3
 refine j_i (fun j => ∀ n : Int, n = (if S.same U then 1 else 0) -> j (some ⟨b8, 0, none⟩) (some ⟨b9, 0, none⟩) n σ3) ?_ ?_
 ·intro n hn
  refine j_d ?_
  refine ptr_i (rd_G (rdA_of' (g3.get e2) (by rfl)) ?_)
  (refine app_of rfl ?_; try dsimp only)
  refine ptr_i (rd_G (rdA_of' e3 (by rfl)) ?_)
  (refine app_of rfl ?_; try dsimp only)
  refine call_i (s_rf30Same (hT.gr G) (hU.gr G) hy (app_B ?_))
  cases T.same U with
  | true =>
   refine br_t rfl ?_
   rw [wrap_id (by split at hn <;> omega) (by split at hn <;> omega), hn]
   exact ⟨rfl, G⟩
  | false =>
   refine br_f rfl ?_
   rw [hn]
   exact ⟨by simp, G⟩
 intro j hj
 refine rd_G (rdA_of' (g3.get (g2.get e1)) (by rfl)) ?_
 (refine app_of rfl ?_; try dsimp only)
 refine rd_G (rdA_of' e3 (by rfl)) ?_
 (refine app_of rfl ?_; try dsimp only)
 refine call_i (s_rf30Same (hS.gr G) (hU.gr G) hz (app_B ?_))
 cases hs : S.same U with
 | true => exact br_t rfl (hj _ (by rw [hs]; rfl))
 | false => exact br_f rfl (hj _ (by rw [hs]; rfl))
end
theorem s_LookCompares {σ : H} (S : StP) (x1 x2 : Sl) (hS : StAt σ S x1 x2) (T : StP) (y1 y2 : Sl) (hT : StAt σ T y1 y2) (U : StP) (z1 z2 : Sl) (hU : StAt σ U z1 z2) {K : KH} (hK : ∀ σ', Gr σ σ' -> K (.bool true) σ') : callW Tryz.prog 5 [stV x1 x2, stV y1 y2, stV z1 z2] K σ := by
 refine c5 _ _ _ _ _ _ ?_
 unfold g5
 refine al_i ?_; intro b7 σ1 g1 e1 n1
 refine al_i ?_; intro b8 σ2 g2 e2 n2
 refine al_i ?_; intro b9 σ3 g3 e3 n3
 have n78 : b7 ≠ b8 := ne_fresh e1 n2
 have n79 : b7 ≠ b9 := ne_fresh (g2.get e1) n3
 have n89 : b8 ≠ b9 := ne_fresh e2 n3
 have s7 : σ b7 = none := n1
 have s8 : σ b8 = none := none_of g1 n2
 have s9 : σ b9 = none := none_of (g1.trans g2) n3
 have G3 := (g1.trans g2).trans g3
 have e1 := g3.get (g2.get e1)
 have e2 := g3.get e2
 refine rd_G (rdA_of' e1 (by rfl)) ?_
 (refine app_of rfl ?_; try dsimp only)
 refine call_i (s_lkCutN (hS.1.gr G3) (hS.2.gr G3) ?_)
 intro a1 a2 σ4 ρA g4 gA hA nA
 unfold stV
 (refine app_of rfl ?_; try dsimp only)
 refine st_i2 (g4.get e1) sz_rf30 (by rfl) (by rfl) ?_
 intro σ5 p5
 have k7 : ∀ {c : Nat} {o : Obj}, σ3 c = some o -> σ3 c ≠ none := fun h => by rw [h]; simp
 have gA5 : Gr ρA σ5 := gA.putF p5 (nA _ (k7 e1))
 have gσ5 : Gr σ σ5 := (G3.trans g4).putF p5 s7
 have f8 := p5.get n78.symm (g4.get e2)
 have f9 := p5.get n79.symm (g4.get e3)
 refine rd_G (rdA_of' f8 (by rfl)) ?_
 (refine app_of rfl ?_; try dsimp only)
 refine call_i (s_lkCutN (hT.1.gr gσ5) (hT.2.gr gσ5) ?_)
 intro c1 c2 σ6 ρB g6 gB hB nB
 unfold stV
 (refine app_of rfl ?_; try dsimp only)
 refine st_i2 (g6.get f8) sz_rf30 (by rfl) (by rfl) ?_
 intro σ7 p7
 have gA7 : Gr ρA σ7 := (gA5.trans g6).putF p7 (nA _ (k7 e2))
 have gB7 : Gr ρB σ7 := gB.putF p7 (nB _ (by rw [f8]; simp))
 have gσ7 : Gr σ σ7 := (gσ5.trans g6).putF p7 s8
 have h7 := p7.get n78 (g6.get p5.same)
 have h9 := p7.get n89.symm (g6.get f9)
 refine rd_G (rdA_of' h9 (by rfl)) ?_
 (refine app_of rfl ?_; try dsimp only)
 refine call_i (s_lkCutN (hU.1.gr gσ7) (hU.2.gr gσ7) ?_)
 intro d1 d2 σ8 ρC g8 gC hC nC
 unfold stV
 (refine app_of rfl ?_; try dsimp only)
 refine st_i2 (g8.get h9) sz_rf30 (by rfl) (by rfl) ?_
 intro σ9 p9
 have gA9 : Gr ρA σ9 := (gA7.trans g8).putF p9 (nA _ (k7 e3))
 have gB9 : Gr ρB σ9 := (gB7.trans g8).putF p9 (nB _ (by rw [f9]; simp))
 have gC9 : Gr ρC σ9 := gC.putF p9 (nC _ (by rw [h9]; simp))
 have gσ9 : Gr σ σ9 := (gσ7.trans g8).putF p9 s9
 have q7 := p9.get n79 (g8.get h7)
 have q8 := p9.get n89 (g8.get p7.same)
 have q9 := p9.same
 have hA9 := hA.gr gA9
 have hB9 := hB.gr gB9
 have hC9 := hC.gr gC9
 have zA := sm_cut S
 have zB := sm_cut T
 clear e1 e2 e3 f8 f9 h7 h9 p5 p7 p9 gA gB gC gA5 gA7 gA9 gB7 gB9 gC9 hA hB hC hS hT hU nA nB nC
 generalize S.cut = A at *
 generalize T.cut = B at *
 generalize U.cut = C at *
 (repeat (first | (refine rd_G (rdA_of' q7 (by rfl)) ?_; (refine app_of rfl ?_; try dsimp only)) | (refine rd_G (rdA_of' q8 (by rfl)) ?_; (refine app_of rfl ?_; try dsimp only)) | (refine rd_G (rdA_of' q9 (by rfl)) ?_; (refine app_of rfl ?_; try dsimp only)) | refine and_i (rdA_of' q7 (by rfl)) ?_ | refine and_i (rdA_of' q8 (by rfl)) ?_ | refine and_i (rdA_of' q9 (by rfl)) ?_ | (refine call_i (s_lkOurs (x1 := a1) (x2 := a2) ?_); unfold stV; (refine app_of rfl ?_; try dsimp only)) | (refine call_i (s_lkOurs (x1 := c1) (x2 := c2) ?_); unfold stV; (refine app_of rfl ?_; try dsimp only)) | (refine call_i (s_lkOurs (x1 := d1) (x2 := d2) ?_); unfold stV; (refine app_of rfl ?_; try dsimp only))))
 refine call_i (s_lkSame hA9 hB9 zA (app_B ?_))
 (repeat (first | (refine rd_G (rdA_of' q7 (by rfl)) ?_; (refine app_of rfl ?_; try dsimp only)) | (refine rd_G (rdA_of' q8 (by rfl)) ?_; (refine app_of rfl ?_; try dsimp only)) | (refine rd_G (rdA_of' q9 (by rfl)) ?_; (refine app_of rfl ?_; try dsimp only)) | refine and_i (rdA_of' q7 (by rfl)) ?_ | refine and_i (rdA_of' q8 (by rfl)) ?_ | refine and_i (rdA_of' q9 (by rfl)) ?_ | (refine call_i (s_lkOurs (x1 := a1) (x2 := a2) ?_); unfold stV; (refine app_of rfl ?_; try dsimp only)) | (refine call_i (s_lkOurs (x1 := c1) (x2 := c2) ?_); unfold stV; (refine app_of rfl ?_; try dsimp only)) | (refine call_i (s_lkOurs (x1 := d1) (x2 := d2) ?_); unfold stV; (refine app_of rfl ?_; try dsimp only))))
 refine call_i (s_rf30Same hA9 hB9 zA (app_B ?_))
 refine br_t (beq_self_eq_true _) ?_
 (repeat (first | (refine rd_G (rdA_of' q7 (by rfl)) ?_; (refine app_of rfl ?_; try dsimp only)) | (refine rd_G (rdA_of' q8 (by rfl)) ?_; (refine app_of rfl ?_; try dsimp only)) | (refine rd_G (rdA_of' q9 (by rfl)) ?_; (refine app_of rfl ?_; try dsimp only)) | refine and_i (rdA_of' q7 (by rfl)) ?_ | refine and_i (rdA_of' q8 (by rfl)) ?_ | refine and_i (rdA_of' q9 (by rfl)) ?_ | (refine call_i (s_lkOurs (x1 := a1) (x2 := a2) ?_); unfold stV; (refine app_of rfl ?_; try dsimp only)) | (refine call_i (s_lkOurs (x1 := c1) (x2 := c2) ?_); unfold stV; (refine app_of rfl ?_; try dsimp only)) | (refine call_i (s_lkOurs (x1 := d1) (x2 := d2) ?_); unfold stV; (refine app_of rfl ?_; try dsimp only))))
 refine call_i (s_lkBetw hA9 hB9 hC9 zA zB (app_I ?_))
 (repeat (first | (refine rd_G (rdA_of' q7 (by rfl)) ?_; (refine app_of rfl ?_; try dsimp only)) | (refine rd_G (rdA_of' q8 (by rfl)) ?_; (refine app_of rfl ?_; try dsimp only)) | (refine rd_G (rdA_of' q9 (by rfl)) ?_; (refine app_of rfl ?_; try dsimp only)) | refine and_i (rdA_of' q7 (by rfl)) ?_ | refine and_i (rdA_of' q8 (by rfl)) ?_ | refine and_i (rdA_of' q9 (by rfl)) ?_ | (refine call_i (s_lkOurs (x1 := a1) (x2 := a2) ?_); unfold stV; (refine app_of rfl ?_; try dsimp only)) | (refine call_i (s_lkOurs (x1 := c1) (x2 := c2) ?_); unfold stV; (refine app_of rfl ?_; try dsimp only)) | (refine call_i (s_lkOurs (x1 := d1) (x2 := d2) ?_); unfold stV; (refine app_of rfl ?_; try dsimp only))))
 refine call_i (s_rf30Betw hA9 hB9 hC9 zA zB (app_I ?_))
 refine br_t (beq_self_eq_true _) ?_
 (repeat (first | (refine rd_G (rdA_of' q7 (by rfl)) ?_; (refine app_of rfl ?_; try dsimp only)) | (refine rd_G (rdA_of' q8 (by rfl)) ?_; (refine app_of rfl ?_; try dsimp only)) | (refine rd_G (rdA_of' q9 (by rfl)) ?_; (refine app_of rfl ?_; try dsimp only)) | refine and_i (rdA_of' q7 (by rfl)) ?_ | refine and_i (rdA_of' q8 (by rfl)) ?_ | refine and_i (rdA_of' q9 (by rfl)) ?_ | (refine call_i (s_lkOurs (x1 := a1) (x2 := a2) ?_); unfold stV; (refine app_of rfl ?_; try dsimp only)) | (refine call_i (s_lkOurs (x1 := c1) (x2 := c2) ?_); unfold stV; (refine app_of rfl ?_; try dsimp only)) | (refine call_i (s_lkOurs (x1 := d1) (x2 := d2) ?_); unfold stV; (refine app_of rfl ?_; try dsimp only))))
 refine call_i (s_lkBetw hA9 hB9 hA9 zA zB (app_I ?_))
 (repeat (first | (refine rd_G (rdA_of' q7 (by rfl)) ?_; (refine app_of rfl ?_; try dsimp only)) | (refine rd_G (rdA_of' q8 (by rfl)) ?_; (refine app_of rfl ?_; try dsimp only)) | (refine rd_G (rdA_of' q9 (by rfl)) ?_; (refine app_of rfl ?_; try dsimp only)) | refine and_i (rdA_of' q7 (by rfl)) ?_ | refine and_i (rdA_of' q8 (by rfl)) ?_ | refine and_i (rdA_of' q9 (by rfl)) ?_ | (refine call_i (s_lkOurs (x1 := a1) (x2 := a2) ?_); unfold stV; (refine app_of rfl ?_; try dsimp only)) | (refine call_i (s_lkOurs (x1 := c1) (x2 := c2) ?_); unfold stV; (refine app_of rfl ?_; try dsimp only)) | (refine call_i (s_lkOurs (x1 := d1) (x2 := d2) ?_); unfold stV; (refine app_of rfl ?_; try dsimp only))))
 refine call_i (s_rf30Betw hA9 hB9 hA9 zA zB (app_I ?_))
 refine br_t (beq_self_eq_true _) ?_
 exact call_i (s_lkWorks (app_B (hK σ9 gσ9)))
end Go.Proofs.YtgfiobhpipollaaGreatDoor

set_option maxRecDepth 100000
namespace Go.Proofs.YtgfiobhpipollaaGreatDoor
open Go Go.HL Go.Wk Go.ChangeShapes Go.WideShapes Go.ChangeAt Go.RowKit
namespace st30
theorem cu_string : Tryz.prog.cellsOf 9 = 1 := by kernel_rfl
theorem cu_strs : Tryz.prog.cellsOf 23 = 1 := by kernel_rfl
theorem cu_paths : Tryz.prog.cellsOf 22 = 1 := by kernel_rfl
theorem strs_of {D : Type} {enc : TypeId × Value -> D} {W : World} {m n : Nat} : ∀ {rows : List (List Value)}, (∀ r ∈ rows, m < n /\ ∃ d ps, DataW.trod enc Tryz.prog W 0 (fun _ => true) true m 9 r = some (d, ps)) -> ∃ l : List ByteArray, rows = strRows l := by
 intro rows
 induction rows with
 | nil => exact fun _ => ⟨[], rfl⟩
 | cons r rs ih =>
  intro hall
  obtain ⟨l, ha⟩ := ih fun r hr => hall r (List.mem_cons_of_mem _ hr)
  obtain ⟨_, d, ps, hd⟩ := hall r (List.mem_cons_self ..)
  obtain ⟨s, q, _⟩ := DataW.trod_string Tryz.underlying9 hd
  exact ⟨s :: l, by rw [ha, q]; rfl⟩
theorem path_of {D : Type} {enc : TypeId × Value -> D} {W : World} {m : Nat} {r : List Value} {x : DataW D × List MemPlace} (h : DataW.trod enc Tryz.prog W 0 (fun _ => true) true m 38 r = some x) : ∃ (p : PathP) (y : Sl), r = pRow p y /\ RowsAt (whole W) 1 (strRows p.refs) y := by
 obtain ⟨xs, n, hfu, _, hl, hlen, hf⟩ := DataW.trod_struct Tryz.underlying38 h
 have hl : r.length = 4 := hl.trans (by kernel_rfl)
 have hlen : xs.length = 4 := hlen
 obtain ⟨a0, a1, a2, a3, rfl⟩ : ∃ a0 a1 a2 a3, r = [a0, a1, a2, a3] := by
  match r, hl with
  | [a0, a1, a2, a3], _ => exact ⟨_, _, _, _, rfl⟩
 have g : ∀ i, i < 4 -> ∃ y, xs[i]? = some y := fun i hi => ⟨_, List.getElem?_eq_getElem (by omega)⟩
 have h0 := hf 0 _ rfl
 obtain ⟨y0, e0⟩ := g 0 (by decide)
 rw [e0] at h0
 obtain ⟨s0, q0, _⟩ := DataW.trod_string Tryz.underlying9 h0
 have h1 := hf 1 _ rfl
 obtain ⟨y1, e1⟩ := g 1 (by decide)
 rw [e1] at h1
 have h2 := hf 2 _ rfl
 obtain ⟨y2, e2⟩ := g 2 (by decide)
 rw [e2] at h2
 obtain ⟨s2, q2, _⟩ := DataW.trod_string Tryz.underlying9 h2
 have h3 := hf 3 _ rfl
 obtain ⟨y3, e3⟩ := g 3 (by decide)
 rw [e3] at h3
 obtain ⟨s3, q3, _⟩ := DataW.trod_string Tryz.underlying9 h3
 have q0 : List.take (Tryz.prog.cellsOf 9) (List.drop 0 [a0, a1, a2, a3]) = [.string s0] := q0
 have q2 : List.take (Tryz.prog.cellsOf 9) (List.drop 2 [a0, a1, a2, a3]) = [.string s2] := q2
 have q3 : List.take (Tryz.prog.cellsOf 9) (List.drop 3 [a0, a1, a2, a3]) = [.string s3] := q3
 have h1 : DataW.trod enc Tryz.prog W 0 (fun _ => true) true n 23 (List.take (Tryz.prog.cellsOf 23) (List.drop 1 [a0, a1, a2, a3])) = some y1 := h1
 rw [cu_string] at q0 q2 q3
 rw [cu_strs] at h1
 simp only [List.drop_succ_cons, List.drop_zero, List.take_succ_cons, List.take_zero, List.cons.injEq, and_true] at q0 q2 q3 h1
 obtain ⟨y, rows, hy, hrows, _, k, hall⟩ := rows_of Tryz.underlying23 (show Tryz.prog.cellsOf 9 = 1 by kernel_rfl) (by decide) h1
 obtain ⟨l, rfl⟩ := strs_of hall
 exact ⟨⟨s0, l, s2, s3⟩, y, by rw [q0, q2, q3, hy]; rfl, hrows⟩
theorem paths_of {D : Type} {enc : TypeId × Value -> D} {W : World} {m n : Nat} : ∀ {rows : List (List Value)}, (∀ r ∈ rows, m < n /\ ∃ d ps, DataW.trod enc Tryz.prog W 0 (fun _ => true) true m 38 r = some (d, ps)) -> ∃ l : List PathP, PsRows (whole W) l rows := by
 intro rows
 induction rows with
 | nil => exact fun _ => ⟨[], trivial⟩
 | cons r rs ih =>
  intro hall
  obtain ⟨l, ha⟩ := ih fun r hr => hall r (List.mem_cons_of_mem _ hr)
  obtain ⟨_, d, ps, hd⟩ := hall r (List.mem_cons_self ..)
  obtain ⟨p, y, hp, hy⟩ := path_of hd
  exact ⟨p :: l, ⟨y, hp, hy⟩, ha⟩
theorem state_of {D : Type} {enc : TypeId × Value -> D} {W : World} {m : Nat} {r : List Value} {x : DataW D × List MemPlace} (h : DataW.trod enc Tryz.prog W 0 (fun _ => true) true m 25 r = some x) : ∃ (S : StP) (y1 y2 : Sl), r = [.slice y1.base y1.len y1.cap, .slice y2.base y2.len y2.cap] /\ StAt (whole W) S y1 y2 := by
 obtain ⟨xs, n, hfu, _, hl, hlen, hf⟩ := DataW.trod_struct Tryz.underlying25 h
 have hl : r.length = 2 := hl.trans (by kernel_rfl)
 have hlen : xs.length = 2 := hlen
 obtain ⟨a0, a1, rfl⟩ : ∃ a0 a1, r = [a0, a1] := by
  match r, hl with
  | [a0, a1], _ => exact ⟨_, _, rfl⟩
 have g : ∀ i, i < 2 -> ∃ y, xs[i]? = some y := fun i hi => ⟨_, List.getElem?_eq_getElem (by omega)⟩
 have h0 := hf 0 _ rfl
 obtain ⟨y0, e0⟩ := g 0 (by decide)
 rw [e0] at h0
 have h1 := hf 1 _ rfl
 obtain ⟨y1, e1⟩ := g 1 (by decide)
 rw [e1] at h1
 have h0 : DataW.trod enc Tryz.prog W 0 (fun _ => true) true n 22 (List.take (Tryz.prog.cellsOf 22) (List.drop 0 [a0, a1])) = some y0 := h0
 have h1 : DataW.trod enc Tryz.prog W 0 (fun _ => true) true n 23 (List.take (Tryz.prog.cellsOf 23) (List.drop 1 [a0, a1])) = some y1 := h1
 rw [cu_paths] at h0
 rw [cu_strs] at h1
 simp only [List.drop_succ_cons, List.drop_zero, List.take_succ_cons, List.take_zero] at h0 h1
 obtain ⟨u, rows, hu, hrows, _, k, hall⟩ := rows_of Tryz.underlying22 (show Tryz.prog.cellsOf 38 = 4 by kernel_rfl) (by decide) h0
 obtain ⟨ps, hps⟩ := paths_of hall
 obtain ⟨v, rows2, hv, hrows2, _, k2, hall2⟩ := rows_of Tryz.underlying23 (show Tryz.prog.cellsOf 9 = 1 by kernel_rfl) (by decide) h1
 obtain ⟨l, rfl⟩ := strs_of hall2
 exact ⟨⟨ps, l⟩, u, v, by rw [hu, hv], ⟨rows, hrows, hps⟩, hrows2⟩
end st30
end Go.Proofs.YtgfiobhpipollaaGreatDoor

