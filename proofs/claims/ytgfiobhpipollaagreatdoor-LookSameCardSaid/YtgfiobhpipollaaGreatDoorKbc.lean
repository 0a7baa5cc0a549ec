/- A part of the proof: LookSame holds. -/
import Derived.Test.YtgfiobhpipollaaGreatDoorKbb
import Derived.WalkKit
import Derived.ProofKit
import Derived.OpenShut
import Derived.Deep.DeepHandedRow
set_option maxRecDepth 100000
namespace Go.Proofs.YtgfiobhpipollaaGreatDoor
open Go Go.HL Go.Wk
attribute [local irreducible] ptrW ifW brW andW rdT alW letJ stW muW biW vaW imW callT cvalT app callW invW callVW sizeT oW nilF oneK loopW rfW funW begW roundK exW idxW Gr Put
theorem sm_cut (S : StP) : Sm S.cut := by
 refine ⟨by simp [StP.cut]; omega, by have := textsP_len S.roots; show (textsP S.roots).length <= _; omega, fun s hs => by have := textsP_size hs; omega, fun p hp => ?_⟩
 obtain ⟨q, _, rfl⟩ := List.mem_map.1 hp
 have h1 := cutB_size (n := 60) (by decide) q.path
 have h2 := cutB_size (n := 2000) (by decide) q.nar
 have h3 := cutB_size (n := 2000) (by decide) q.drv
 have h4 := textsP_len q.refs
 refine ⟨?_, ?_, ?_, ?_, fun s hs => by have := textsP_size hs; omega⟩
 ·show (cutB 60 q.path).size <= _; omega
 ·show (cutB 2000 q.nar).size <= _; omega
 ·show (cutB 2000 q.drv).size <= _; omega
 ·show (textsP q.refs).length <= _; omega
theorem bnd_cut {n : Int} (h : 0 <= n) (s : ByteArray) : bndOk (some (if n < ((s.size : Nat) : Int) then n else ((s.size : Nat) : Int))) s.size /\ bndOk none ((if n < ((s.size : Nat) : Int) then n else ((s.size : Nat) : Int)).toNat) :=
 ⟨bnd_some (by split <;> omega) (by split <;> omega), bnd_none⟩
theorem el_paths : ElT Tryz.prog 22 38 4 := elT_of (by kernel_rfl) (by decide) (by kernel_rfl)
theorem sz_rf30 : sizeT Tryz.prog 25 = some 2 := by kernel_rfl
theorem sz_strsL : sizeT Tryz.prog 23 = some 1 := by kernel_rfl
theorem sz_pathsL : sizeT Tryz.prog 22 = some 1 := by kernel_rfl
theorem PsRows.snoc {σ : H} {p : PathP} {y : Sl} (hy : RowsAt σ 1 (strRows p.refs) y) : ∀ {ps : List PathP} {rows : List (List Value)}, PsRows σ ps rows -> PsRows σ (ps ++ [p]) (rows ++ [pRow p y]) := by
 intro ps
 induction ps with
 | nil => intro rows h; cases rows with
  | nil => exact ⟨⟨y, rfl, hy⟩, trivial⟩
  | cons r rows => exact h.elim
 | cons q ps ih =>
  intro rows h
  cases rows with
  | nil => exact h.elim
  | cons r rows => exact ⟨h.1, ih h.2⟩
section
variable {σ : H} {K : KH}
theorem s_lkTexts {l : List ByteArray} {x : Sl} (hx : RowsAt σ 1 (strRows l) x) (hK : ∀ y σ', RNew σ σ' 9 1 (strRows (textsP l)) y -> K (.slice y.base y.len y.cap) σ') : callW Tryz.prog 22 [.slice x.base x.len x.cap] K σ := by
 refine c22 _ ?_
 unfold g22
 have hl := sLen hx
 refine loop_i ?_
 intro R hR
 have key : ∀ (r : List ByteArray) (i : Nat) (acc : List ByteArray) (y : Sl) (τ : H), l.drop i = r -> acc.length = i -> i <= 8 -> RNew σ τ 9 1 (strRows acc) y -> textsP l = acc ++ (r.take (8 - i)).map (cutB 60) -> R x y (i : Int) τ := by
  intro r
  induction r with
  | nil =>
   intro i acc y τ hd ha h8 hy he
   have h5 : l.length <= i := by simpa using hd
   refine hR _ _ _ _ (j_i (fun j => ∀ b : Bool, b = false -> j x y (i : Int) b τ) ?_ ?_)
   ·intro b hb
    have : textsP l = acc := by rw [he]; simp
    rw [this] at hK
    exact br_f hb (hK y τ hy)
   intro j hj
   exact br_f (by rw [hl]; simp only [decide_eq_false_iff_not]; omega) (hj _ rfl)
  | cons s r ih =>
   intro i acc y τ hd ha h8 hy he
   obtain ⟨t1, t2, t3⟩ := get_drop hd
   refine hR _ _ _ _ (j_i (fun j => j x y (i : Int) (decide ((i : Int) < 8)) τ) ?_ ?_)
   ·refine br_i (fun hb => ?_) (fun hb => ?_)
    ·have hb : i < 8 := by have := of_decide_eq_true hb; omega
     obtain ⟨g', o', v1, v2, v3⟩ := sRow (hx.gr hy.1) t1
     rw [v1]
     refine ptr_i (if_i ⟨by omega, by show _ < ((x.len : Nat) : Int); omega⟩ (rd_S (by rw [Int.toNat_natCast]; exact v3) ?_))
     refine ptr_i (if_i ⟨by omega, by show _ < ((x.len : Nat) : Int); omega⟩ (rd_S (by rw [Int.toNat_natCast]; exact v3) ?_))
     refine if_i (bnd_cut (by decide) s) ?_
     refine RNew.app1 el_strsL hy (r := [.string (cutB 60 s)]) rfl rfl (by rw [strRows_len]; omega) ?_
     intro y2 τ3 hy2 _ _
     rw [wrap_id (x := (i : Int) + 1) (by omega) (by omega), show (i : Int) + 1 = ((i + 1 : Nat) : Int) from by omega]
     refine ih (i + 1) (acc ++ [cutB 60 s]) y2 τ3 t3 (by simp [ha]) (by omega) ?_ ?_
     ·have : strRows (acc ++ [cutB 60 s]) = strRows acc ++ [[.string (cutB 60 s)]] := by simp [strRows]
      rw [this]; exact hy2
     ·rw [he, show 8 - i = (8 - (i + 1)) + 1 by omega, List.take_succ_cons]
      simp
    ·have hb : i = 8 := by have := of_decide_eq_false hb; omega
     have : textsP l = acc := by rw [he, hb]; simp
     rw [this] at hK
     exact hK y τ hy
   intro j hj
   exact br_t (by rw [hl]; simp only [decide_eq_true_eq]; omega) hj
 exact key l 0 [] ⟨none, 0, 0⟩ σ rfl rfl (by decide) (RNew.nil _ _ _) (by simp [textsP])
theorem s_lkCutN {S : StP} {x1 x2 : Sl} (h1 : PsAt σ S.paths x1) (h2 : RowsAt σ 1 (strRows S.roots) x2) (hK : ∀ y1 y2 σ' ρ, Gr σ σ' -> Gr ρ σ' -> StAt ρ S.cut y1 y2 -> (∀ c, σ c ≠ none -> ρ c = none) -> K (stV y1 y2) σ') : callW Tryz.prog 8 [stV x1 x2] K σ := by
 refine c8 _ _ ?_
 unfold g8
 refine al_i ?_; intro b3 σ1 g1 e1 n1
 refine al_i ?_; intro b4 σ2 g2 e2 n2
 have G2 := g1.trans g2
 have f3 := g2.get e1
 have n34 : b3 ≠ b4 := ne_fresh e1 n2
 have hl := h1.len
 refine loop_i ?_
 intro R hR
 have fin : ∀ (ps : List PathP) (rows : List (List Value)) (y : Sl) (τ ρ : H), ps = (S.paths.take 8).map cutQ -> RNew σ2 τ 38 4 rows y -> PsRows ρ ps rows -> Gr ρ τ ->
  ∀ (A : H -> Prop), (∀ τ', Put τ b3 (.cells ⟨[.slice y.base y.len y.cap, .slice x2.base x2.len x2.cap]⟩ 25 (0, 0)) τ' -> A τ') -> A (τ.put b3 (.cells ⟨[.slice y.base y.len y.cap, .slice x2.base x2.len x2.cap]⟩ 25 (0, 0))) := fun _ _ _ _ _ _ _ _ _ A h => h _ (Put.intro _ _ _)
 clear fin
 have key : ∀ (r : List PathP) (i : Nat) (ps : List PathP) (rows : List (List Value)) (y : Sl) (τ ρ : H), S.paths.drop i = r -> ps.length = i -> rows.length = i -> i <= 8 -> RNew σ2 τ 38 4 rows y -> PsRows ρ ps rows -> Gr ρ τ -> (∀ g, y.base = some ⟨g, 0, none⟩ -> ρ g = none) -> ρ b3 = none -> ρ b4 = none -> (∀ c, σ c ≠ none -> ρ c = none) ->
  (S.paths.take 8).map cutQ = ps ++ (r.take (8 - i)).map cutQ -> R (some ⟨b3, 0, none⟩) (some ⟨b4, 0, none⟩) y (i : Int) τ := by
  intro r
  have stop : ∀ (i : Nat) (ps : List PathP) (rows : List (List Value)) (y : Sl) (τ ρ : H), RNew σ2 τ 38 4 rows y -> PsRows ρ ps rows -> Gr ρ τ -> ρ b3 = none -> ρ b4 = none -> (∀ c, σ c ≠ none -> ρ c = none) -> (S.paths.take 8).map cutQ = ps ->
   ptrW (some ⟨b3, 0, none⟩) (fun (b40 o41 : Nat) => stW Tryz.prog 22 (.pointer (some ⟨b40, o41, none⟩)) (.slice y.base y.len y.cap) (ptrW (some ⟨b3, 0, none⟩) (fun (b42 o43 : Nat) =>
    rdT (rdC b42 (o43 + 1)) kL (fun (x44 : Sl) => callT Tryz.prog 22 [.slice x44.base x44.len x44.cap] kL (fun (x45 : Sl) =>
     ptrW (some ⟨b3, 0, none⟩) (fun (b46 o47 : Nat) => stW Tryz.prog 23 (.pointer (some ⟨b46, o47 + 1, none⟩)) (.slice x45.base x45.len x45.cap) (ptrW (some ⟨b3, 0, none⟩) (fun (b48 o49 : Nat) =>
      rdT (rdA 2 b48 o49) (.one (.agg [.slc, .slc])) (fun (x50 : Sl) (x51 : Sl) => stW Tryz.prog 25 (.pointer (some ⟨b4, 0, none⟩)) (.agg ⟨[.slice x50.base x50.len x50.cap, .slice x51.base x51.len x51.cap]⟩) (ptrW (some ⟨b4, 0, none⟩) (fun (b52 o53 : Nat) =>
       rdT (rdA 2 b52 o53) (.one (.agg [.slc, .slc])) (fun (r54 : Sl) (r55 : Sl) => K (.agg ⟨[.slice r54.base r54.len r54.cap, .slice r55.base r55.len r55.cap]⟩))))))))))))) τ := by
   intro i ps rows y τ ρ hy hp hg hb3 hb4 hσρ he
   have hyb : ∀ {b : Nat} {o : Obj}, σ2 b = some o -> y.base ≠ some ⟨b, 0, none⟩ := fun ho e => by have := hy.2.2 _ e; rw [ho] at this; cases this
   refine ptr_i (st_i2 (hy.1.get f3) sz_pathsL (by rfl) (by rfl) ?_)
   intro τ1 p1
   have own1 := hy.2.1.put p1 (hyb f3)
   have gρ1 := hg.putF p1 hb3
   have gσ1 : Gr σ τ1 := (G2.trans hy.1).putF p1 n1
   refine ptr_i (rd_L (rdC_of p1.same (by rfl)) (call_i (s_lkTexts (h2.gr gσ1) ?_)))
   intro z τ2 hz
   refine app_L (ptr_i (st_i2 (hz.1.get p1.same) sz_strsL (by rfl) (by rfl) ?_))
   intro τ3 p3
   have hz3 := hz.2.1.put p3 (fun e => by have := hz.2.2 _ e; rw [p1.same] at this; cases this)
   have own3 := (own1.gr hz.1).put p3 (hyb f3)
   have gρ3 := (gρ1.trans hz.1).putF p3 hb3
   refine ptr_i (rd_G (rdA_of' p3.same (by rfl)) ?_)
   (refine app_of rfl ?_; try dsimp only)
   have f4 : τ3 b4 = some _ := p3.get n34.symm (hz.1.get (p1.get n34.symm (hy.1.get e2)))
   refine st_i2 f4 sz_rf30 (by rfl) (by rfl) ?_
   intro τ4 p4
   refine ptr_i (rd_G (rdA_of' p4.same (by rfl)) ?_)
   (refine app_of rfl ?_; try dsimp only)
   have own4 := own3.put p4 (hyb e2)
   have hz4 := hz3.put p4 (fun e => by have := hz.2.2 _ e; rw [p1.get n34.symm (hy.1.get e2)] at this; cases this)
   have gσ4 : Gr σ τ4 := ((gσ1.trans hz.1).putF p3 n1).putF p4 (none_of g1 n2)
   obtain ⟨ρF, hF⟩ : ∃ ρF : H, ∀ c, ρF c = if σ c = none then τ4 c else none := ⟨_, fun _ => rfl⟩
   have toF : ∀ {c : Nat} {o : Obj}, τ4 c = some o -> σ c = none -> ρF c = some o := fun hc hn => by rw [hF, if_pos hn]; exact hc
   have gF : Gr ρ ρF := gr_of fun c o hc => toF ((gρ3.putF p4 hb4).get hc) (by cases hs : σ c with | none => rfl | some o' => rw [hσρ c (by rw [hs]; simp)] at hc; cases hc)
   refine hK y z τ4 ρF gσ4 (gr_of fun c o hc => ?_) ⟨⟨rows, (own4.keep fun g o hgz ho => toF ho (none_of G2 (hy.2.2 g hgz))).rows, ?_⟩, (hz4.keep fun g o hgz ho => toF ho (none_of gσ1 (hz.2.2 g hgz))).rows⟩ (fun c hc => by rw [hF, if_neg hc])
   ·rw [hF] at hc
    split at hc
    ·exact hc
    ·cases hc
   ·show PsRows ρF ((S.paths.take 8).map cutQ) rows
    rw [he]
    exact hp.gr gF
  induction r with
  | nil =>
   intro i ps rows y τ ρ hd hpl hrl h8 hy hp hg hyg hb3 hb4 hσρ he
   have h5 : S.paths.length <= i := by simpa using hd
   refine hR _ _ _ _ _ (j_i (fun j => ∀ b : Bool, b = false -> j (some ⟨b3, 0, none⟩) (some ⟨b4, 0, none⟩) y (i : Int) b τ) ?_ ?_)
   ·intro b hb
    exact br_f hb (stop i ps rows y τ ρ hy hp hg hb3 hb4 hσρ (by rw [he]; simp))
   intro j hj
   refine ptr_i (rd_L (rdC_of (hy.1.get f3) (by rfl)) ?_)
   exact br_f (by rw [hl]; simp only [decide_eq_false_iff_not]; omega) (hj _ rfl)
  | cons p r ih =>
   intro i ps rows y τ ρ hd hpl hrl h8 hy hp hg hyg hb3 hb4 hσρ he
   obtain ⟨d1, d2, d3⟩ := get_drop hd
   refine hR _ _ _ _ _ (j_i (fun j => j (some ⟨b3, 0, none⟩) (some ⟨b4, 0, none⟩) y (i : Int) (decide ((i : Int) < 8)) τ) ?_ ?_)
   ·refine br_i (fun hb => ?_) (fun hb => ?_)
    ·have hb : i < 8 := by have := of_decide_eq_true hb; omega
     have gσ : Gr σ τ := G2.trans hy.1
     obtain ⟨g, o, yr, q1, q2, q3, q4⟩ := (h1.gr gσ).get d1
     refine ptr_i (rd_L (rdC_of (hy.1.get f3) (by rfl)) ?_)
     rw [q1]
     refine ptr_i (if_i ⟨by omega, by show _ < ((x1.len : Nat) : Int); omega⟩ (rd_G (by rw [Int.toNat_natCast]; exact q3) ?_))
     unfold pRow
     (refine app_of rfl ?_; try dsimp only)
     refine al_i ?_; intro b25 τ1 k1 w1 v1
     refine st_i2 w1 sz_apPath (by rfl) (by rfl) ?_
     intro τ2 p2
     refine rd_S (rdC_of p2.same (by rfl)) (rd_S (rdC_of p2.same (by rfl)) ?_)
     refine if_i (bnd_cut (by decide) p.path) ?_
     refine st_i2 p2.same sz_string' (by rfl) (by rfl) ?_
     intro τ3 p3
     refine rd_S (rdC_of p3.same (by rfl)) (rd_S (rdC_of p3.same (by rfl)) ?_)
     refine if_i (bnd_cut (by decide) p.nar) ?_
     refine st_i2 p3.same sz_string' (by rfl) (by rfl) ?_
     intro τ4 p4
     refine rd_S (rdC_of p4.same (by rfl)) (rd_S (rdC_of p4.same (by rfl)) ?_)
     refine if_i (bnd_cut (by decide) p.drv) ?_
     refine st_i2 p4.same sz_string' (by rfl) (by rfl) ?_
     intro τ5 p5
     have G5 : Gr τ τ5 := (((k1.putF p2 v1).putF p3 v1).putF p4 v1).putF p5 v1
     refine rd_L (rdC_of p5.same (by rfl)) (call_i (s_lkTexts (q4.gr G5) ?_))
     intro z τ6 hz
     refine app_L (st_i2 (hz.1.get p5.same) sz_strsL (by rfl) (by rfl) ?_)
     intro τ7 p7
     have G7 : Gr τ τ7 := (G5.trans hz.1).putF p7 v1
     have z7 : RowsOwn τ7 9 1 (strRows (textsP p.refs)) z := hz.2.1.put p7 (fun e => by have := hz.2.2 _ e; rw [p5.same] at this; cases this)
     have hzn : ∀ g, z.base = some ⟨g, 0, none⟩ -> τ g = none := fun g hgz => none_of G5 (hz.2.2 g hgz)
     have c7 : τ7 b25 = some (.cells ⟨pRow (cutQ p) z⟩ 38 (0, 0)) := p7.same
     refine rd_G (rdA_of' c7 (by rfl)) ?_
     unfold pRow cutQ
     (refine app_of rfl ?_; try dsimp only)
     refine RNew.app1 el_paths (hy.gr G7) (r := pRow (cutQ p) z) rfl rfl (by omega) ?_
     intro y2 τ8 hy2 hkeep hfr
     rw [wrap_id (x := (i : Int) + 1) (by omega) (by omega), show (i : Int) + 1 = ((i + 1 : Nat) : Int) from by omega]
     -- all but the rows
     have hne : ∀ {c : Nat} {o : Obj}, τ7 c = some o -> y.base ≠ some ⟨c, 0, none⟩ -> y2.base ≠ some ⟨c, 0, none⟩ := fun {c o} hc hy0 e => by
      rcases hfr c e with h | h
      ·exact hy0 h
      ·rw [h] at hc; cases hc
     have hyb : ∀ {b : Nat} {o : Obj}, σ2 b = some o -> y.base ≠ some ⟨b, 0, none⟩ := fun ho e => by have := hy.2.2 _ e; rw [ho] at this; cases this
     obtain ⟨cells, hcells⟩ : ∃ ρ' : H, (∀ c, ρ' c = if (y2.base = some ⟨c, 0, none⟩ \/ c = b3 \/ c = b4 \/ σ c ≠ none) then none else τ8 c) := by
      classical
      exact ⟨fun c => if (y2.base = some ⟨c, 0, none⟩ \/ c = b3 \/ c = b4 \/ σ c ≠ none) then none else τ8 c, fun c => by congr⟩
     have toρ : ∀ {c : Nat} {o : Obj}, τ7 c = some o -> y.base ≠ some ⟨c, 0, none⟩ -> c ≠ b3 -> c ≠ b4 -> σ c = none -> cells c = some o := fun {c o} hc hy0 h3 h4 h5 => by
      rw [hcells, if_neg (by rintro (h | h | h | h); exact hne hc hy0 h; exact h3 h; exact h4 h; exact h h5)]
      exact hkeep c o hc hy0
     have gρ : Gr ρ cells := gr_of fun c o hc => toρ (G7.get (hg.get hc)) (fun e => by rw [hyg c e] at hc; cases hc) (fun e => by subst e; rw [hb3] at hc; cases hc) (fun e => by subst e; rw [hb4] at hc; cases hc) (by cases hs : σ c with | none => rfl | some o' => rw [hσρ c (by rw [hs]; simp)] at hc; cases hc)
     refine ih (i + 1) (ps ++ [cutQ p]) (rows ++ [pRow (cutQ p) z]) y2 τ8 cells d3 (by simp [hpl]) (by simp [hrl]) (by omega) hy2 ?_ ?_ ?_ ?_ ?_ ?_ ?_
     ·refine (hp.gr gρ).snoc (p := cutQ p) ?_
      refine RowsOwn.rows (z7.keep fun g o hgz ho => toρ ho (fun e => ?_) (fun e => ?_) (fun e => ?_) (none_of gσ (hzn g hgz)))
      ·exact hy.2.1.has e (hzn g hgz)
      ·subst e; have := hzn _ hgz; rw [hy.1.get f3] at this; cases this
      ·subst e; have := hzn _ hgz; rw [hy.1.get e2] at this; cases this
     ·refine gr_of fun c o hc => ?_
      rw [hcells] at hc
      split at hc
      ·cases hc
      ·exact hc
     ·intro g hgz; rw [hcells, if_pos (.inl hgz)]
     ·rw [hcells, if_pos (.inr (.inl rfl))]
     ·rw [hcells, if_pos (.inr (.inr (.inl rfl)))]
     ·intro c hc; rw [hcells, if_pos (.inr (.inr (.inr hc)))]
     ·rw [he, show 8 - i = (8 - (i + 1)) + 1 by omega, List.take_succ_cons]
      simp
    ·have hb : i = 8 := by have := of_decide_eq_false hb; omega
     exact stop i ps rows y τ ρ hy hp hg hb3 hb4 hσρ (by rw [he, hb]; simp)
   intro j hj
   refine ptr_i (rd_L (rdC_of (hy.1.get f3) (by rfl)) ?_)
   exact br_t (by rw [hl]; simp only [decide_eq_true_eq]; omega) hj
 exact key S.paths 0 [] [] ⟨none, 0, 0⟩ σ2 (fun _ => none) rfl rfl rfl (by decide) (RNew.nil _ _ _) trivial (gr_empty _) (fun g h => by cases h) rfl rfl (fun _ _ => rfl) (by simp)
theorem s_lkCut {S : StP} {x1 x2 : Sl} (h1 : PsAt σ S.paths x1) (h2 : RowsAt σ 1 (strRows S.roots) x2) (hK : ∀ y1 y2 σ', Gr σ σ' -> StAt σ' S.cut y1 y2 -> K (stV y1 y2) σ') : callW Tryz.prog 8 [stV x1 x2] K σ :=
 s_lkCutN h1 h2 fun y1 y2 σ' ρ hg hρ hs _ => hK y1 y2 σ' hg (hs.gr hρ)
end
end Go.Proofs.YtgfiobhpipollaaGreatDoor

namespace Go.Wk
open Go Go.HL
theorem sameL_refl : ∀ l : List ByteArray, sameL l l = true := by
 intro l
 induction l with
 | nil => rfl
 | cons a r ih => simp [sameL, ih]
theorem sameL_comm : ∀ a b : List ByteArray, sameL a b = sameL b a := by
 intro a
 induction a with
 | nil => intro b; cases b <;> rfl
 | cons x r ih => intro b; cases b with
  | nil => rfl
  | cons y q =>
   simp only [sameL, ih q]
   have : (x == y) = (y == x) := by rw [Bool.eq_iff_iff, beq_iff_eq, beq_iff_eq]; exact eq_comm
   rw [this]
theorem beq_comm' (x y : ByteArray) : (x == y) = (y == x) := by rw [Bool.eq_iff_iff, beq_iff_eq, beq_iff_eq]; exact eq_comm
theorem PathP.same_refl (p : PathP) : p.same p = true := by simp [PathP.same, sameL_refl]
theorem PathP.same_comm (p q : PathP) : p.same q = q.same p := by
 unfold PathP.same
 rw [beq_comm' p.path, beq_comm' p.nar, beq_comm' p.drv, sameL_comm p.refs]
theorem sameW_refl : ∀ l : List PathP, sameW l l = true := by
 intro l
 induction l with
 | nil => rfl
 | cons a r ih => simp [sameW, ih, PathP.same_refl]
theorem sameW_comm : ∀ a b : List PathP, sameW a b = sameW b a := by
 intro a
 induction a with
 | nil => intro b; cases b <;> rfl
 | cons x r ih => intro b; cases b with
  | nil => rfl
  | cons y q => simp only [sameW, ih q, PathP.same_comm x y]
theorem StP.same_refl (S : StP) : S.same S = true := by simp [StP.same, sameW_refl, sameL_refl]
theorem StP.same_comm (S T : StP) : S.same T = T.same S := by unfold StP.same; rw [sameW_comm, sameL_comm]
theorem sameW_set {q : PathP} : ∀ {l : List PathP} {i : Nat} {p : PathP}, l[i]? = some p -> p.same q = false -> sameW l (l.set i q) = false := by
 intro l
 induction l with
 | nil => intro i p h; simp at h
 | cons a r ih =>
  intro i p h hs
  cases i with
  | zero => simp at h; subst h; simp [sameW, hs]
  | succ i => simp at h; simp only [List.set_cons_succ, sameW, ih h hs, Bool.and_false]
def xB : ByteArray := ⟨⟨[120]⟩⟩
theorem ne_x (s : ByteArray) : (s == s ++ xB) = false := by
 rw [beq_eq_false_iff_ne]
 intro e
 have := congrArg ByteArray.size e
 rw [ByteArray.size_append] at this
 have h2 : xB.size = 1 := rfl
 omega
theorem same_path (p : PathP) : p.same { p with path := p.path ++ xB } = false := by unfold PathP.same; simp only [ne_x, Bool.false_and]
theorem same_nar (p : PathP) : p.same { p with nar := p.nar ++ xB } = false := by unfold PathP.same; simp only [ne_x, Bool.false_and, Bool.and_false]
theorem same_drv (p : PathP) : p.same { p with drv := p.drv ++ xB } = false := by unfold PathP.same; simp only [ne_x, Bool.false_and, Bool.and_false]
theorem same_refs (p : PathP) : p.same { p with refs := p.refs ++ [xB] } = false := by
 unfold PathP.same
 simp only [sameL_len (a := p.refs) (b := p.refs ++ [xB]) (by simp), Bool.and_false]
theorem same_roots (S : StP) (s : ByteArray) : S.same ⟨S.paths, S.roots ++ [s]⟩ = false := by
 unfold StP.same
 simp only [sameL_len (a := S.roots) (b := S.roots ++ [s]) (by simp), Bool.and_false]
theorem same_set {S : StP} {i : Nat} {p q : PathP} (h : S.paths[i]? = some p) (hs : p.same q = false) : S.same ⟨S.paths.set i q, S.roots⟩ = false := by
 unfold StP.same
 simp only [sameW_set h hs, Bool.false_and]
theorem btw1 (S T : StP) : Int.tmod (btwP S T S) 2 = 1 := by
 unfold btwP; rw [S.same_refl]
 generalize T.same S = b
 cases b <;> decide
theorem btw2 (S T : StP) : ¬ btwP T S S < 2 := by
 unfold btwP; rw [S.same_refl]
 generalize T.same S = b
 cases b <;> decide
theorem btw3 {S T : StP} (h : S.same T = false) : btwP S T T = 2 := by
 unfold btwP; rw [T.same_refl, h]; decide
end Go.Wk

set_option maxRecDepth 100000
namespace Go.Proofs.YtgfiobhpipollaaGreatDoor
open Go Go.HL Go.Wk
attribute [local irreducible] ptrW ifW brW andW rdT alW letJ stW muW biW vaW imW callT cvalT app callW invW callVW sizeT oW nilF oneK loopW rfW funW begW roundK exW idxW Gr Put
theorem rnew0 {σ0 σ : H} {b : Nat} {e : TypeId} {n : Nat} (hg : Gr σ0 σ) (h0 : σ0 b = none) (h : σ b = some (.cells ⟨[]⟩ e (0, 0))) : RNew σ0 σ e n [] ⟨some ⟨b, 0, none⟩, 0, 0⟩ :=
 ⟨hg, ⟨rfl, (fun r hr => by cases hr), .inr ⟨b, [], rfl, h, by simp, Nat.le_refl _, by simp⟩⟩, fun g hgz => by cases hgz; exact h0⟩
theorem PsRows.one {σ : H} : ∀ {ps : List PathP} {rows : List (List Value)}, PsRows σ ps rows -> ∀ r ∈ rows, ∀ u ∈ r, u.oneCell' = true := by
 intro ps
 induction ps with
 | nil => intro rows h; cases rows with | nil => intro r hr; cases hr | cons r rows => exact h.elim
 | cons p ps ih =>
  intro rows h
  cases rows with
  | nil => exact h.elim
  | cons q rows =>
   intro r hr
   rcases List.mem_cons.1 hr with rfl | hr
   ·obtain ⟨y, rfl, _⟩ := h.1
    intro u hu
    unfold pRow at hu
    simp only [List.mem_cons, List.mem_nil_iff, or_false] at hu
    rcases hu with rfl | rfl | rfl | rfl <;> rfl
   ·exact ih h.2 r hr
theorem strRows_one' (l : List ByteArray) : ∀ r ∈ strRows l, ∀ u ∈ r, u.oneCell' = true := by
 intro r hr u hu
 unfold strRows at hr
 obtain ⟨s, _, rfl⟩ := List.mem_map.1 hr
 simp at hu; subst hu; rfl
theorem PsRows.set {σ : H} {q : PathP} {z : Sl} (hz : RowsAt σ 1 (strRows q.refs) z) : ∀ {ps : List PathP} {rows : List (List Value)} {i : Nat}, PsRows σ ps rows -> PsRows σ (ps.set i q) (rows.set i (pRow q z)) := by
 intro ps
 induction ps with
 | nil => intro rows i h; cases rows with | nil => exact trivial | cons r rows => exact h.elim
 | cons p ps ih =>
  intro rows i h
  cases rows with
  | nil => exact h.elim
  | cons r rows =>
   cases i with
   | zero => exact ⟨⟨z, rfl, hz⟩, h.2⟩
   | succ i => exact ⟨h.1, ih h.2⟩
theorem take_set {cur : List Value} {o : Nat} {v : Value} (h : o < cur.length) : cur.take o ++ [v] ++ cur.drop (o + 1) = cur.set o v := by
 rw [List.set_eq_take_append_cons_drop, if_pos h]; simp
theorem s_LookSame {σ : H} (S : StP) (x1 x2 : Sl) (hS : StAt σ S x1 x2) (T : StP) (y1 y2 : Sl) (hT : StAt σ T y1 y2) (n : Int) (hn : 0 <= n /\ n <= 255) {K : KH} (hK : ∀ σ', Gr σ σ' -> K (.bool true) σ') : callW Tryz.prog 6 [stV x1 x2, stV y1 y2, .int .u8 n] K σ := by
 refine c6 _ _ _ _ _ ?_
 unfold g6
 refine al_i ?_; intro b6 σ1 g1 e1 n1
 refine al_i ?_; intro b7 σ2 g2 e2 n2
 refine call_i (s_lkWorks (app_B ?_))
 refine br_f rfl ?_
 have e1' := g2.get e1
 refine rd_G (rdA_of' e1' (by rfl)) ?_
 (refine app_of rfl ?_; try dsimp only)
 refine rd_G (rdA_of' e2 (by rfl)) ?_
 (refine app_of rfl ?_; try dsimp only)
 have G2 := g1.trans g2
 refine call_i (s_lkCut (hS.1.gr G2) (hS.2.gr G2) ?_)
 intro a1 a2 σ3 g3 hA
 unfold stV
 (refine app_of rfl ?_; try dsimp only)
 refine and_i (rdA_of' (g3.get e2) (by rfl)) ?_
 refine call_i (s_lkOurs (x1 := a1) (x2 := a2) ?_)
 unfold stV
 (refine app_of rfl ?_; try dsimp only)
 refine and_i (rdA_of' (g3.get e2) (by rfl)) ?_
 have G3 := G2.trans g3
 refine call_i (s_lkCut (hT.1.gr G3) (hT.2.gr G3) ?_)
 intro c1 c2 σ4 g4 hB
 unfold stV
 (refine app_of rfl ?_; try dsimp only)
 refine call_i (s_lkOurs (x1 := c1) (x2 := c2) ?_)
 unfold stV
 (refine app_of rfl ?_; try dsimp only)
 have hA4 := hA.gr g4
 have G4 := G3.trans g4
 clear hS hT hA e1' e1 e2
 generalize hAe : S.cut = A at *
 generalize hBe : T.cut = B at *
 have zA : Sm A := by rw [<- hAe]; exact sm_cut S
 have zB : Sm B := by rw [<- hBe]; exact sm_cut T
 refine al_i ?_; intro b21 σ5 g5 e5 n5
 refine al_i ?_; intro b22 σ6 g6 e6 n6
 have nn : b21 ≠ b22 := ne_fresh e5 n6
 refine st_i2 (g6.get e5) sz_lkState (by rfl) (by rfl) ?_
 intro σ7 p7
 refine st_i2 (p7.get nn.symm e6) sz_lkState (by rfl) (by rfl) ?_
 intro σ8 p8
 have f21 : σ8 b21 = some (.cells ⟨[.slice a1.base a1.len a1.cap, .slice a2.base a2.len a2.cap]⟩ 28 (0, 0)) := p8.get nn p7.same
 have f22 : σ8 b22 = some (.cells ⟨[.slice c1.base c1.len c1.cap, .slice c2.base c2.len c2.cap]⟩ 28 (0, 0)) := p8.same
 have g48 : Gr σ4 σ8 := ((g5.trans g6).putF p7 n5).putF p8 (none_of g5 n6)
 have hA8 := hA4.gr g48
 have hB8 := hB.gr g48
 have G8 := G4.trans g48
 clear p7 p8 e5 e6 n5 n6 g5 g6 hA4 hB
 refine j_i (fun j => j n (some ⟨b21, 0, none⟩) false σ8) ?_ ?_
 rotate_left
 ·-- the first rules
  intro j hj
  refine rd_G (rdA_of' f21 (by rfl)) ?_
  (refine app_of rfl ?_; try dsimp only)
  refine rd_G (rdA_of' f21 (by rfl)) ?_
  (refine app_of rfl ?_; try dsimp only)
  refine call_i (s_lkSame hA8 hA8 zA (app_B ?_))
  rw [StP.same_refl]
  refine br_f rfl ?_
  refine rd_G (rdA_of' f21 (by rfl)) ?_
  (refine app_of rfl ?_; try dsimp only)
  refine rd_G (rdA_of' f22 (by rfl)) ?_
  (refine app_of rfl ?_; try dsimp only)
  refine rd_G (rdA_of' f21 (by rfl)) ?_
  (refine app_of rfl ?_; try dsimp only)
  refine call_i (s_lkBetw hA8 hB8 hA8 zA zB (app_I ?_))
  refine if_i (by decide) ?_
  refine br_f (by rw [btw1]; rfl) ?_
  refine rd_G (rdA_of' f22 (by rfl)) ?_
  (refine app_of rfl ?_; try dsimp only)
  refine rd_G (rdA_of' f21 (by rfl)) ?_
  (refine app_of rfl ?_; try dsimp only)
  refine rd_G (rdA_of' f21 (by rfl)) ?_
  (refine app_of rfl ?_; try dsimp only)
  refine call_i (s_lkBetw hB8 hA8 hA8 zB zA (app_I ?_))
  refine br_f (decide_eq_false (btw2 A B)) ?_
  refine rd_G (rdA_of' f21 (by rfl)) ?_
  (refine app_of rfl ?_; try dsimp only)
  refine rd_G (rdA_of' f22 (by rfl)) ?_
  (refine app_of rfl ?_; try dsimp only)
  refine rd_G (rdA_of' f22 (by rfl)) ?_
  (refine app_of rfl ?_; try dsimp only)
  refine rd_G (rdA_of' f21 (by rfl)) ?_
  (refine app_of rfl ?_; try dsimp only)
  refine call_i (s_lkSame hA8 hB8 zA (app_B ?_))
  refine and_i (rdA_of' f21 (by rfl)) ?_
  refine and_i (rdA_of' f22 (by rfl)) ?_
  refine call_i (s_lkSame hB8 hA8 zB (app_B ?_))
  rw [StP.same_comm A B, beq_self_eq_true]
  exact hj
 refine br_f rfl ?_
 refine ptr_i (rd_G (rdA_of' f21 (by rfl)) ?_)
 (refine app_of rfl ?_; try dsimp only)
 refine al_i ?_; intro b31 σ9 g9 e9 n9
 refine st_i2 e9 sz_lkState (by rfl) (by rfl) ?_
 intro τ1 p1
 have h81 : Gr σ8 τ1 := g9.putF p1 n9
 refine al_i ?_; intro b32 τ2 k2 w2 v2
 have h82 := h81.trans k2
 refine ptr_i (rd_L (rdC_of (h82.get f21) (by rfl)) ?_)
 have hro : A.roots.length <= 8 := by rw [<- hAe]; exact textsP_len S.roots
 refine RNew.apps el_strsL (rnew0 (σ0 := τ1) k2 v2 w2) (hA8.2.gr h82) (strRows_one' _) (by rw [strRows_len]; simp; omega) ?_
 intro z3 τ3 hz3 _ _
 refine RNew.app1 el_strsL hz3 (r := [.string ⟨⟨[109, 111, 114, 101]⟩⟩]) rfl rfl (by simp [strRows_len]; omega) ?_
 intro z4 τ4 hz4 _ _
 have e31 : τ4 b31 = some (.cells ⟨[.slice a1.base a1.len a1.cap, .slice a2.base a2.len a2.cap]⟩ 28 (0, 0)) := hz4.1.get p1.same
 refine st_i2 e31 sz_strsL (by rfl) (by rfl) ?_
 intro τ5 p5
 have hz5 := hz4.2.1.put p5 (fun e => by have := hz4.2.2 _ e; rw [p1.same] at this; cases this)
 have h85 : Gr σ8 τ5 := (h81.trans hz4.1).putF p5 n9
 have f31 : τ5 b31 = some (.cells ⟨[.slice a1.base a1.len a1.cap, .slice z4.base z4.len z4.cap]⟩ 28 (0, 0)) := p5.same
 -- the last rules, for another state C that is not the same
 refine j_i (fun j => ∀ (C : StP) (d1 d2 : Sl) (τ : H), Gr σ8 τ -> τ b31 = some (.cells ⟨[.slice d1.base d1.len d1.cap, .slice d2.base d2.len d2.cap]⟩ 28 (0, 0)) -> StAt τ C d1 d2 -> Sm C -> A.same C = false -> j (some ⟨b21, 0, none⟩) (some ⟨b31, 0, none⟩) τ) ?_ ?_
 ·intro C d1 d2 τ hg hc hC zC hs
  refine ptr_i (rd_G (rdA_of' (hg.get f21) (by rfl)) ?_)
  (refine app_of rfl ?_; try dsimp only)
  refine ptr_i (rd_G (rdA_of' hc (by rfl)) ?_)
  (refine app_of rfl ?_; try dsimp only)
  refine call_i (s_lkSame (hA8.gr hg) hC zA (app_B ?_))
  rw [hs]
  refine br_t rfl ?_
  refine ptr_i (rd_G (rdA_of' (hg.get f21) (by rfl)) ?_)
  (refine app_of rfl ?_; try dsimp only)
  refine ptr_i (rd_G (rdA_of' hc (by rfl)) ?_)
  (refine app_of rfl ?_; try dsimp only)
  refine ptr_i (rd_G (rdA_of' hc (by rfl)) ?_)
  (refine app_of rfl ?_; try dsimp only)
  refine call_i (s_lkBetw (hA8.gr hg) hC hC zA zC (app_I ?_))
  rw [btw3 hs]
  exact hK τ (G8.trans hg)
 intro j39 hj39
 have rootsC : ∀ b : Bool, b = false -> j39 (some ⟨b21, 0, none⟩) (some ⟨b31, 0, none⟩) τ5 := by
  intro b hb
  refine hj39 ⟨A.paths, A.roots ++ [⟨⟨[109, 111, 114, 101]⟩⟩]⟩ a1 z4 τ5 h85 f31 ⟨hA8.1.gr h85, ?_⟩ ?_ (same_roots A _)
  ·have := hz5.rows
   simp only [List.nil_append] at this
   show RowsAt τ5 1 (strRows (A.roots ++ _)) z4
   have e : strRows (A.roots ++ [⟨⟨[109, 111, 114, 101]⟩⟩]) = strRows A.roots ++ [[.string ⟨⟨[109, 111, 114, 101]⟩⟩]] := by simp [strRows]
   rw [e]; exact this
  ·refine ⟨zA.np, by show (A.roots ++ _).length <= _; simp; omega, fun s hs => ?_, zA.pa⟩
   rcases List.mem_append.1 hs with hs | hs
   ·exact zA.rt s hs
   ·simp at hs; subst hs; decide
 refine j_i (fun j => ∀ b : Bool, (b = true -> A.paths ≠ []) -> j n (some ⟨b21, 0, none⟩) (some ⟨b31, 0, none⟩) b τ5) ?_ ?_
 rotate_left
 ·intro j hj
  refine ptr_i (rd_L (rdC_of (h85.get f21) (by rfl)) ?_)
  refine br_i (fun hb => ?_) (fun hb => ?_)
  ·refine if_i (by decide) (hj _ fun _ e => ?_)
   have := of_decide_eq_true hb
   rw [hA8.1.len, e] at this
   simp at this
  ·exact hj _ fun h => by cases h
 intro b hb
 refine br_i (fun ht => ?_) (fun hf => rootsC b hf)
 have hne := hb ht
 refine ptr_i (rd_G (rdA_of' (h85.get f21) (by rfl)) ?_)
 (refine app_of rfl ?_; try dsimp only)
 refine st_i2 f31 sz_lkState (by rfl) (by rfl) ?_
 intro τ6 p6
 have n31 : σ8 b31 = none := n9
 have h86 : Gr σ8 τ6 := h85.putF p6 n31
 refine al_i ?_; intro b73 τ7 k7 w7 v7
 have h87 := h86.trans k7
 refine ptr_i (rd_L (rdC_of (h87.get f21) (by rfl)) ?_)
 obtain ⟨rows, hrw, hps⟩ := hA8.1
 have hnp : A.paths.length <= 8 := by rw [<- hAe]; simp [StP.cut]; omega
 have hrl := hps.len
 refine RNew.apps el_paths (rnew0 (σ0 := τ6) k7 v7 w7) (hrw.gr h87) hps.one (by simp; omega) ?_
 intro zz τ8 hzz _ _
 simp only [List.nil_append] at hzz
 have h88 : Gr σ8 τ8 := h86.trans hzz.1
 refine ptr_i (st_i2 (hzz.1.get p6.same) sz_pathsL (by rfl) (by rfl) ?_)
 intro τ9 p9
 have own9 := hzz.2.1.put p9 (fun e => by have := hzz.2.2 _ e; rw [p6.same] at this; cases this)
 have h89 : Gr σ8 τ9 := h88.putF p9 n31
 have q31 : τ9 b31 = some (.cells ⟨[.slice zz.base zz.len zz.cap, .slice a2.base a2.len a2.cap]⟩ 28 (0, 0)) := p9.same
 refine ptr_i (rd_L (rdC_of q31 (by rfl)) ?_)
 refine ptr_i (rd_L (rdC_of q31 (by rfl)) ?_)
 have hzl : zz.len = A.paths.length := by rw [hzz.2.1.1, hrl]
 have hpos : 0 < A.paths.length := List.length_pos_iff.2 hne
 refine if_i (by show ((zz.len : Nat) : Int) ≠ 0; omega) ?_
 -- which one
 have hmod : Int.tmod (IntKind.i64.wrap n) ((zz.len : Nat) : Int) = (((n.toNat % zz.len : Nat)) : Int) := by
  rw [wrap_id (by omega) (by omega)]
  obtain ⟨m, rfl⟩ : ∃ m : Nat, n = m := ⟨n.toNat, by omega⟩
  rw [Int.toNat_natCast]; rfl
 rw [hmod]
 have hlt : n.toNat % zz.len < A.paths.length := by rw [hzl]; exact Nat.mod_lt _ hpos
 generalize hix : n.toNat % zz.len = ix at *
 obtain ⟨p, hp⟩ : ∃ p, A.paths[ix]? = some p := ⟨_, List.getElem?_eq_getElem hlt⟩
 obtain ⟨y, hy1, hy2⟩ := hps.get hp
 have zp := zA.pa p (List.mem_of_getElem? hp)
 have setc := fun k (hk : k < 4) => own9.setc hy1 (k := k) hk
 obtain ⟨g, cur, q1, q2, _, _, _, _⟩ := setc 0 (by decide)
 have gσ : σ8 g = none := none_of h86 (hzz.2.2 g q1)
 have ng31 : b31 ≠ g := fun e => by subst e; rw [q31] at q2; cases q2
 have cell : ∀ k (hk : k < 4), ix * 4 + k < cur.length /\ cur[ix * 4 + k]? = (pRow p y)[k]? /\ ∀ (v : Value) σ', Put τ9 g (.cells ⟨cur.set (ix * 4 + k) v⟩ 38 (0, 0)) σ' -> RowsOwn σ' 38 4 (rows.set ix ((pRow p y).set k v)) zz := by
  intro k hk
  obtain ⟨g', cur', r1, r2, r3, r4, r5, r6⟩ := setc k hk
  rw [q1] at r1; cases r1
  rw [q2] at r2; cases r2
  exact ⟨r3, r4, r6⟩
 -- a changed row
 have done : ∀ (q : PathP) (z : Sl) (k : Nat) (hk : k < 4) (v : Value) (τ' τa : H), Gr σ8 τa -> (∀ c o, τ9 c = some o -> τa c = some o) -> Put τa g (.cells ⟨cur.set (ix * 4 + k) v⟩ 38 (0, 0)) τ' -> (pRow p y).set k v = pRow q z -> RowsAt τa 1 (strRows q.refs) z -> (∀ g' o, z.base = some ⟨g', o, none⟩ -> g' ≠ g \/ q.refs = []) -> Sm ⟨A.paths.set ix q, A.roots⟩ -> p.same q = false ->
  j39 (some ⟨b21, 0, none⟩) (some ⟨b31, 0, none⟩) τ' := by
  intro q z k hk v τ' τa hga hka hput hrow hz hzg hsm hs
  have hown : RowsOwn τ' 38 4 (rows.set ix (pRow q z)) zz := by
   have := (cell k hk).2.2 v _ (Put.intro τ9 g _)
   rw [hrow] at this
   exact this.keep fun g1 o hg1 ho => by
    rw [q1] at hg1; cases hg1
    rw [H.put_same] at ho; cases ho
    exact hput.same
  have hg' : Gr σ8 τ' := hga.putF hput gσ
  refine hj39 ⟨A.paths.set ix q, A.roots⟩ zz a2 τ' hg' (hput.get ng31 (hka _ _ q31)) ⟨⟨_, hown.rows, ?_⟩, hA8.2.gr hg'⟩ hsm (same_set hp hs)
  refine (hps.gr hg').set ?_
  by_cases hre : q.refs = []
  ·exact ⟨hz.1, .inl (by rw [hre]; rfl)⟩
  ·exact hz.keep fun g1 o ob hb ho => hput.get (by rcases hzg g1 o hb with h | h; exact h; exact absurd h hre) ho
 have smq : ∀ q : PathP, (q.path.size <= 1000000 /\ q.nar.size <= 1000000 /\ q.drv.size <= 1000000 /\ q.refs.length <= 1000000 /\ ∀ s ∈ q.refs, s.size <= 1000000) -> Sm ⟨A.paths.set ix q, A.roots⟩ := by
  intro q hq
  refine ⟨by show (A.paths.set ix q).length <= _; rw [List.length_set]; exact zA.np, zA.nr, zA.rt, fun r hr => ?_⟩
  rcases List.mem_or_eq_of_mem_set hr with h | h
  ·exact zA.pa r h
  ·subst h; exact hq
 have hsmall : p.path.size <= 2000 /\ p.nar.size <= 2000 /\ p.drv.size <= 2000 /\ p.refs.length <= 8 := by
  have hm := List.mem_of_getElem? hp
  rw [<- hAe] at hm
  obtain ⟨q, _, rfl⟩ := List.mem_map.1 hm
  have h1 := cutB_size (n := 60) (by decide) q.path
  have h2 := cutB_size (n := 2000) (by decide) q.nar
  have h3 := cutB_size (n := 2000) (by decide) q.drv
  have h4 := textsP_len q.refs
  refine ⟨?_, ?_, ?_, ?_⟩
  ·show (cutB 60 q.path).size <= _; omega
  ·show (cutB 2000 q.nar).size <= _; omega
  ·show (cutB 2000 q.drv).size <= _; omega
  ·exact h4
 have hyr : RowsAt τ9 1 (strRows p.refs) y := hy2.gr h89
 have hyg : ∀ g' o, y.base = some ⟨g', o, none⟩ -> g' ≠ g \/ p.refs = [] := by
  intro g' o hb
  by_cases hre : p.refs = []
  ·exact .inr hre
  ·left
   intro e
   subst e
   obtain ⟨_, h | ⟨g2, o2, cu, t, fz, m1, m2, _⟩⟩ := hy2
   ·exact hre (by cases hl : p.refs with | nil => rfl | cons a l => rw [hl] at h; cases h)
   ·rw [m1] at hb; cases hb
    rw [gσ] at m2; cases m2
 have hxs : xB.size = 1 := rfl
 rw [q1]
 refine ptr_i (if_i ⟨by omega, by rw [hzl]; omega⟩ (if_i (by decide) ?_))
 have hof : 0 + ((ix : Nat) : Int).toNat * 4 = ix * 4 := by rw [Int.toNat_natCast]; omega
 rw [hof]
 have hc0 := cell 0 (by decide)
 have hc1 := cell 1 (by decide)
 have hc2 := cell 2 (by decide)
 have hc3 := cell 3 (by decide)
 refine br_i (fun _ => ?_) (fun _ => ?_)
 ·refine rd_S (rdC_of q2 hc0.2.1) (if_i (by show p.path.size + 1 <= _; omega) ?_)
  refine st_i q2 sz_string' hc0.1 (by intro u hu; simp [arrL, Value.cells] at hu; subst hu; rfl) (.inl (Nat.le_refl _)) ?_
  intro τ' pp
  refine done { p with path := p.path ++ xB } y 0 (by decide) (.string (p.path ++ xB)) τ' τ9 h89 (fun _ _ h => h) (by rw [<- take_set hc0.1]; exact pp) rfl hyr hyg (smq _ ⟨by show (p.path ++ xB).size <= _; rw [ByteArray.size_append]; omega, zp.2⟩) (same_path p)
 refine br_i (fun _ => ?_) (fun _ => ?_)
 ·refine rd_S (rdC_of q2 hc2.2.1) (if_i (by show p.nar.size + 1 <= _; omega) ?_)
  refine st_i q2 sz_string' hc2.1 (by intro u hu; simp [arrL, Value.cells] at hu; subst hu; rfl) (.inl (Nat.le_refl _)) ?_
  intro τ' pp
  refine done { p with nar := p.nar ++ xB } y 2 (by decide) (.string (p.nar ++ xB)) τ' τ9 h89 (fun _ _ h => h) (by rw [<- take_set hc2.1]; exact pp) rfl hyr hyg (smq _ ⟨zp.1, by show (p.nar ++ xB).size <= _; rw [ByteArray.size_append]; omega, zp.2.2⟩) (same_nar p)
 refine br_i (fun _ => ?_) (fun _ => ?_)
 ·refine rd_S (rdC_of q2 hc3.2.1) (if_i (by show p.drv.size + 1 <= _; omega) ?_)
  refine st_i q2 sz_string' hc3.1 (by intro u hu; simp [arrL, Value.cells] at hu; subst hu; rfl) (.inl (Nat.le_refl _)) ?_
  intro τ' pp
  refine done { p with drv := p.drv ++ xB } y 3 (by decide) (.string (p.drv ++ xB)) τ' τ9 h89 (fun _ _ h => h) (by rw [<- take_set hc3.1]; exact pp) rfl hyr hyg (smq _ ⟨zp.1, zp.2.1, by show (p.drv ++ xB).size <= _; rw [ByteArray.size_append]; omega, zp.2.2.2⟩) (same_drv p)
 refine al_i ?_; intro b91 τ10 k10 w10 v10
 have q2' := k10.get q2
 refine rd_L (rdC_of q2' hc1.2.1) ?_
 refine RNew.apps el_strsL (rnew0 (σ0 := τ9) k10 v10 w10) (hyr.gr k10) (strRows_one' _) (by rw [strRows_len]; simp; omega) ?_
 intro u1 τ11 hu1 _ _
 refine RNew.app1 el_strsL hu1 (r := [.string xB]) rfl rfl (by simp [strRows_len]; omega) ?_
 intro u2 τ12 hu2 _ _
 simp only [List.nil_append] at hu2
 refine st_i (hu2.1.get q2) sz_strsL hc1.1 (by intro u hu; simp [arrL, Value.cells] at hu; subst hu; rfl) (.inl (Nat.le_refl _)) ?_
 intro τ' pp
 have e : strRows (p.refs ++ [xB]) = strRows p.refs ++ [[.string xB]] := by simp [strRows]
 refine done { p with refs := p.refs ++ [xB] } u2 1 (by decide) (.slice u2.base u2.len u2.cap) τ' τ12 (h89.trans hu2.1) (fun _ _ h => hu2.1.get h) (by rw [<- take_set hc1.1]; exact pp) rfl (by rw [e]; exact hu2.at) (fun g' o hb => .inl fun eg => ?_) (smq _ ⟨zp.1, zp.2.1, zp.2.2.1, by show (p.refs ++ [xB]).length <= _; simp; omega, fun s hs => ?_⟩) (same_refs p)
 ·subst eg
  obtain ⟨_, _, ⟨h, _⟩ | ⟨g2, cu, m1, m2, _⟩⟩ := hu2.2.1
  ·rw [h] at hb; cases hb
  ·have := hu2.2.2 g2 m1
   rw [m1] at hb; cases hb
   rw [q2] at this; cases this
 ·rcases List.mem_append.1 hs with hs | hs
  ·exact zp.2.2.2.2 s hs
  ·simp at hs; subst hs; decide
end Go.Proofs.YtgfiobhpipollaaGreatDoor

set_option maxRecDepth 100000
namespace Go.Proofs.YtgfiobhpipollaaGreatDoor
open Go Go.HL Go.Wk Go.ChangeShapes Go.WideShapes Go.ChangeAt Go.RowKit
namespace st30
theorem cu_string : Tryz.prog.cellsOf 9 = 1 := by kernel_rfl
theorem cu_strs : Tryz.prog.cellsOf 23 = 1 := by kernel_rfl
theorem cu_paths : Tryz.prog.cellsOf 22 = 1 := by kernel_rfl
theorem strs_of {D : Type} {enc : TypeId × Value -> D} {W : World} {m n : Nat} : ∀ {rows : List (List Value)}, (∀ r ∈ rows, m < n /\ ∃ d ps, DataW.trod enc Tryz.prog W 0 (fun _ => true) true m 9 r = some (d, ps)) -> ∃ l : List ByteArray, rows = strRows l := by
 intro rows
 induction rows with
 | nil => exact fun _ => ⟨[], rfl⟩
 | cons r rs ih =>
  intro hall
  obtain ⟨l, ha⟩ := ih fun r hr => hall r (List.mem_cons_of_mem _ hr)
  obtain ⟨_, d, ps, hd⟩ := hall r (List.mem_cons_self ..)
  obtain ⟨s, q, _⟩ := DataW.trod_string Tryz.underlying9 hd
  exact ⟨s :: l, by rw [ha, q]; rfl⟩
theorem path_of {D : Type} {enc : TypeId × Value -> D} {W : World} {m : Nat} {r : List Value} {x : DataW D × List MemPlace} (h : DataW.trod enc Tryz.prog W 0 (fun _ => true) true m 38 r = some x) : ∃ (p : PathP) (y : Sl), r = pRow p y /\ RowsAt (whole W) 1 (strRows p.refs) y := by
 obtain ⟨xs, n, hfu, _, hl, hlen, hf⟩ := DataW.trod_struct Tryz.underlying38 h
 have hl : r.length = 4 := hl.trans (by kernel_rfl)
 have hlen : xs.length = 4 := hlen
 obtain ⟨a0, a1, a2, a3, rfl⟩ : ∃ a0 a1 a2 a3, r = [a0, a1, a2, a3] := by
  match r, hl with
  | [a0, a1, a2, a3], _ => exact ⟨_, _, _, _, rfl⟩
 have g : ∀ i, i < 4 -> ∃ y, xs[i]? = some y := fun i hi => ⟨_, List.getElem?_eq_getElem (by omega)⟩
 have h0 := hf 0 _ rfl
 obtain ⟨y0, e0⟩ := g 0 (by decide)
 rw [e0] at h0
 obtain ⟨s0, q0, _⟩ := DataW.trod_string Tryz.underlying9 h0
 have h1 := hf 1 _ rfl
 obtain ⟨y1, e1⟩ := g 1 (by decide)
 rw [e1] at h1
 have h2 := hf 2 _ rfl
 obtain ⟨y2, e2⟩ := g 2 (by decide)
 rw [e2] at h2
 obtain ⟨s2, q2, _⟩ := DataW.trod_string Tryz.underlying9 h2
 have h3 := hf 3 _ rfl
 obtain ⟨y3, e3⟩ := g 3 (by decide)
 rw [e3] at h3
 obtain ⟨s3, q3, _⟩ := DataW.trod_string Tryz.underlying9 h3
 have q0 : List.take (Tryz.prog.cellsOf 9) (List.drop 0 [a0, a1, a2, a3]) = [.string s0] := q0
 have q2 : List.take (Tryz.prog.cellsOf 9) (List.drop 2 [a0, a1, a2, a3]) = [.string s2] := q2
 have q3 : List.take (Tryz.prog.cellsOf 9) (List.drop 3 [a0, a1, a2, a3]) = [.string s3] := q3
 have h1 : DataW.trod enc Tryz.prog W 0 (fun _ => true) true n 23 (List.take (Tryz.prog.cellsOf 23) (List.drop 1 [a0, a1, a2, a3])) = some y1 := h1
 rw [cu_string] at q0 q2 q3
 rw [cu_strs] at h1
 simp only [List.drop_succ_cons, List.drop_zero, List.take_succ_cons, List.take_zero, List.cons.injEq, and_true] at q0 q2 q3 h1
 obtain ⟨y, rows, hy, hrows, _, k, hall⟩ := rows_of Tryz.underlying23 (show Tryz.prog.cellsOf 9 = 1 by kernel_rfl) (by decide) h1
 obtain ⟨l, rfl⟩ := strs_of hall
 exact ⟨⟨s0, l, s2, s3⟩, y, by rw [q0, q2, q3, hy]; rfl, hrows⟩
theorem paths_of {D : Type} {enc : TypeId × Value -> D} {W : World} {m n : Nat} : ∀ {rows : List (List Value)}, (∀ r ∈ rows, m < n /\ ∃ d ps, DataW.trod enc Tryz.prog W 0 (fun _ => true) true m 38 r = some (d, ps)) -> ∃ l : List PathP, PsRows (whole W) l rows := by
 intro rows
 induction rows with
 | nil => exact fun _ => ⟨[], trivial⟩
 | cons r rs ih =>
  intro hall
  obtain ⟨l, ha⟩ := ih fun r hr => hall r (List.mem_cons_of_mem _ hr)
  obtain ⟨_, d, ps, hd⟩ := hall r (List.mem_cons_self ..)
  obtain ⟨p, y, hp, hy⟩ := path_of hd
  exact ⟨p :: l, ⟨y, hp, hy⟩, ha⟩
theorem state_of {D : Type} {enc : TypeId × Value -> D} {W : World} {m : Nat} {r : List Value} {x : DataW D × List MemPlace} (h : DataW.trod enc Tryz.prog W 0 (fun _ => true) true m 25 r = some x) : ∃ (S : StP) (y1 y2 : Sl), r = [.slice y1.base y1.len y1.cap, .slice y2.base y2.len y2.cap] /\ StAt (whole W) S y1 y2 := by
 obtain ⟨xs, n, hfu, _, hl, hlen, hf⟩ := DataW.trod_struct Tryz.underlying25 h
 have hl : r.length = 2 := hl.trans (by kernel_rfl)
 have hlen : xs.length = 2 := hlen
 obtain ⟨a0, a1, rfl⟩ : ∃ a0 a1, r = [a0, a1] := by
  match r, hl with
  | [a0, a1], _ => exact ⟨_, _, rfl⟩
 have g : ∀ i, i < 2 -> ∃ y, xs[i]? = some y := fun i hi => ⟨_, List.getElem?_eq_getElem (by omega)⟩
 have h0 := hf 0 _ rfl
 obtain ⟨y0, e0⟩ := g 0 (by decide)
 rw [e0] at h0
 have h1 := hf 1 _ rfl
 obtain ⟨y1, e1⟩ := g 1 (by decide)
 rw [e1] at h1
 have h0 : DataW.trod enc Tryz.prog W 0 (fun _ => true) true n 22 (List.take (Tryz.prog.cellsOf 22) (List.drop 0 [a0, a1])) = some y0 := h0
 have h1 : DataW.trod enc Tryz.prog W 0 (fun _ => true) true n 23 (List.take (Tryz.prog.cellsOf 23) (List.drop 1 [a0, a1])) = some y1 := h1
 rw [cu_paths] at h0
 rw [cu_strs] at h1
 simp only [List.drop_succ_cons, List.drop_zero, List.take_succ_cons, List.take_zero] at h0 h1
 obtain ⟨u, rows, hu, hrows, _, k, hall⟩ := rows_of Tryz.underlying22 (show Tryz.prog.cellsOf 38 = 4 by kernel_rfl) (by decide) h0
 obtain ⟨ps, hps⟩ := paths_of hall
 obtain ⟨v, rows2, hv, hrows2, _, k2, hall2⟩ := rows_of Tryz.underlying23 (show Tryz.prog.cellsOf 9 = 1 by kernel_rfl) (by decide) h1
 obtain ⟨l, rfl⟩ := strs_of hall2
 exact ⟨⟨ps, l⟩, u, v, by rw [hu, hv], ⟨rows, hrows, hps⟩, hrows2⟩
end st30
end Go.Proofs.YtgfiobhpipollaaGreatDoor

