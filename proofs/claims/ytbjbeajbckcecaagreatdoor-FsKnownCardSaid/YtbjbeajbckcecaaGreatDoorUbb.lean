/- A part of the proof: FsKnown holds. -/
import Derived.Test.YtbjbeajbckcecaaGreatDoorUba
set_option maxRecDepth 100000
namespace Go.Proofs.YtbjbeajbckcecaaGreatDoor
open Go Go.HL Go.Wk
attribute [local irreducible] ptrW ifW brW andW rdT alW letJ stW muW biW vaW imW callT cvalT app callW invW callVW sizeT oW nilF oneK loopW rfW funW begW roundK exW idxW Gr Put
theorem mapd_inj : ∀ a b : List ByteArray, a.map (fun x => x.data.toList) = b.map (fun x => x.data.toList) -> a = b := by
 intro a
 induction a with
 | nil => intro b h; cases b with
  | nil => rfl
  | cons => cases h
 | cons x a ih => intro b h; cases b with
  | nil => cases h
  | cons y b =>
   simp only [List.map_cons, List.cons.injEq] at h
   rw [bytes_ext h.1, ih b h.2]
theorem st_eq {l : List (FO × Int)} {A0 : AT} (S : Scr l A0) (i : Nat) {p : ByteArray} {n : Int} (h : l[i]? = some (.st p n, 0)) : ((scrA A0 l i).stat ⟨⟨[47]⟩⟩ p true).2.links = n /\ scrA A0 l (i + 1) = scrA A0 l i := by
 obtain ⟨h3, h4⟩ := scr_at S.ok h
 refine ⟨?_, h4⟩
 have h3' : (if ((scrA A0 l i).stat sl p true).2.links = n then (0 : Int) else 99) = 0 := h3
 by_cases hc : ((scrA A0 l i).stat sl p true).2.links = n
 ·exact hc
 ·rw [if_neg hc] at h3'; cases h3'
theorem li_eq {l : List (FO × Int)} {A0 : AT} (S : Scr l A0) (i : Nat) {p : ByteArray} {L : List ByteArray} (h : l[i]? = some (.li p L, 0)) : ((scrA A0 l i).listF ⟨⟨[47]⟩⟩ p).1 = 0 /\ ((scrA A0 l i).listF ⟨⟨[47]⟩⟩ p).2 = L /\ scrA A0 l (i + 1) = scrA A0 l i := by
 obtain ⟨h3, h4⟩ := scr_at S.ok h
 have h3' : (if ((scrA A0 l i).listF sl p).1 = 0 /\ ((scrA A0 l i).listF sl p).2.map (fun b => b.data.toList) = L.map (fun b => b.data.toList) then (0 : Int) else 99) = 0 := h3
 by_cases hc : ((scrA A0 l i).listF sl p).1 = 0 /\ ((scrA A0 l i).listF sl p).2.map (fun b => b.data.toList) = L.map (fun b => b.data.toList)
 ·exact ⟨hc.1, mapd_inj _ _ hc.2, h4⟩
 ·rw [if_neg hc] at h3'; cases h3'
def flN : List ByteArray := [⟨⟨[100]⟩⟩, ⟨⟨[103]⟩⟩, ⟨⟨[108]⟩⟩, ⟨⟨[109]⟩⟩, ⟨⟨[110]⟩⟩]
theorem fl_at {σ : H} {b : Nat} {ty : TypeId} {fz : Nat × Nat} (h : σ b = some (.cells ⟨[.string ⟨⟨[100]⟩⟩, .string ⟨⟨[103]⟩⟩, .string ⟨⟨[108]⟩⟩, .string ⟨⟨[109]⟩⟩, .string ⟨⟨[110]⟩⟩]⟩ ty fz)) : RowsAt σ 1 (srows flN) ⟨some ⟨b, 0, none⟩, 5, 5⟩ := by
 refine ⟨rfl, .inr ⟨b, 0, _, _, _, rfl, h, fun i r hr => ?_⟩⟩
 match i, hr with
 | 0, hr => cases hr; exact ⟨rfl, rfl⟩
 | 1, hr => cases hr; exact ⟨rfl, rfl⟩
 | 2, hr => cases hr; exact ⟨rfl, rfl⟩
 | 3, hr => cases hr; exact ⟨rfl, rfl⟩
 | 4, hr => cases hr; exact ⟨rfl, rfl⟩
 | i + 5, hr => simp [srows, flN] at hr
theorem kb_at {σ : H} {b : Nat} {ty : TypeId} {fz : Nat × Nat} (j : Nat) (hj : j < 9) (h : σ b = some (.cells ⟨[.int .u8 107, .int .u8 (IntKind.u8.wrap (IntKind.i64.wrap (48 + (j : Int))))]⟩ ty fz)) : RowsAt σ 1 (brows [107, 48 + UInt8.ofNat j]) ⟨some ⟨b, 0, none⟩, 2, 2⟩ := by
 have hv : IntKind.u8.wrap (IntKind.i64.wrap (48 + (j : Int))) = ((48 + UInt8.ofNat j).toNat : Int) := by
  have : j = 0 \/ j = 1 \/ j = 2 \/ j = 3 \/ j = 4 \/ j = 5 \/ j = 6 \/ j = 7 \/ j = 8 := by omega
  rcases this with h | h | h | h | h | h | h | h | h <;> subst h <;> decide
 rw [hv] at h
 refine ⟨rfl, .inr ⟨b, 0, _, _, _, rfl, h, fun i r hr => ?_⟩⟩
 match i, hr with
 | 0, hr => cases hr; exact ⟨rfl, rfl⟩
 | 1, hr => cases hr; exact ⟨rfl, rfl⟩
 | i + 2, hr => simp [brows] at hr
theorem und_strF : Tryz.prog.underlying 9 = some .string := Tryz.underlying9
theorem und_u8F : Tryz.prog.underlying 5 = some (.int .u8) := Tryz.underlying5
theorem und_bytesF : Tryz.prog.underlying 56 = some (.slice 5) := Tryz.underlying56
theorem s_FsKnown {σ : H} {K : KH} (hK : ∀ σ', Gr σ σ' -> K (.bool true) σ') : callW Tryz.prog 10 [] K σ := by
 refine c10 ?_
 unfold g10
 refine call_i (s_small8 ?_)
 intro bf σ1 B1 F1 O1
 rw [w4_scr] at F1
 refine app_P (br_f rfl ?_)
 refine j_i (fun j => ∀ τ B, FsAt τ bf (scrA (newT 60 2000) scr1 10) B -> Off σ τ B -> j none (some ⟨bf, 0, none⟩) true τ) ?_ ?_
 case refine_2 =>
  intro j hj
  refine q_Symlink scrF 4 F1 rfl ?_; intro τ4 B4 F4 S4
  have O4 := O1.sep S4
  refine br_t rfl <| q_Write scrF 5 F4 rfl (by decide) ?_; intro τ5 B5 F5 S5
  have O5 := O4.sep S5
  refine br_t rfl <| q_reads scrF 6 F5 rfl (by decide) ?_; intro F6
  refine br_t rfl <| q_Hard scrF 7 F6 rfl ?_; intro τ7 B7 F7 S7
  have O7 := O5.sep S7
  refine br_t rfl <| q_Write scrF 8 F7 rfl (by decide) ?_; intro τ8 B8 F8 S8
  have O8 := O7.sep S8
  refine br_t rfl <| q_reads scrF 9 F8 rfl (by decide) ?_; intro F9
  exact hj _ _ F9 O8
 intro τ B F O
 obtain ⟨hl, hs⟩ := st_eq scrF 10 rfl
 refine call_i (s_Stat F _ _ _ ?_)
 unfold inV
 rw [hl]
 (refine app_of rfl ?_; try dsimp only)
 refine al_i ?_; intro b11 τ2 g2 e2 n2
 refine st_i2 e2 sz_Inode (by rfl) (by rfl) ?_; intro τ3 p3
 have G3 : Gr τ τ3 := g2.putF p3 n2
 replace F := F.gr G3
 replace O := O.gr G3
 rw [<- hs] at F
 clear hl hs
 refine j_i (fun j => ∀ τ B, FsAt τ bf (scrA (newT 60 2000) scr1 17) B -> Off σ τ B -> j none (some ⟨bf, 0, none⟩) true τ) ?_ ?_
 case refine_2 =>
  intro j hj
  refine br_t rfl (rd_I (rdC_of p3.same (by rfl)) ?_)
  refine br_t rfl <| q_Used scrF 11 F rfl ?_; intro c11 h11 F11
  obtain rfl := h11.resolve_left (by decide)
  refine br_t rfl <| q_Remove scrF 12 F11 rfl ?_; intro τ12 B12 F12 S12
  have O12 := O.sep S12
  refine br_t rfl <| q_reads scrF 13 F12 rfl (by decide) ?_; intro F13
  refine br_t rfl <| q_Used scrF 14 F13 rfl ?_; intro c14 h14 F14
  refine br_t rfl <| q_Remove scrF 15 F14 rfl ?_; intro τ15 B15 F15 S15
  have O15 := O12.sep S15
  refine br_t rfl <| q_Used scrF 16 F15 rfl ?_; intro c16 h16 F16
  exact hj _ _ F16 O15
 clear F O p3 e2
 intro τ B F O
 refine j_i (fun j => ∀ τ B, FsAt τ bf (scrA (newT 60 2000) scr1 31) B -> Off σ τ B -> j none (some ⟨bf, 0, none⟩) true τ) ?_ ?_
 case refine_2 =>
  intro j hj
  refine br_t rfl <| q_Mkdir scrF 17 F rfl ?_; intro τ17 B17 F17 S17
  have O17 := O.sep S17
  refine br_t rfl <| q_Mkdir scrF 18 F17 rfl ?_; intro τ18 B18 F18 S18
  have O18 := O17.sep S18
  refine br_t rfl <| q_Rename scrF 19 F18 rfl ?_; intro τ19 B19 F19 S19
  have O19 := O18.sep S19
  refine br_t rfl <| q_Rename scrF 20 F19 rfl ?_; intro τ20 B20 F20 S20
  have O20 := O19.sep S20
  refine br_t rfl <| q_Rename scrF 21 F20 rfl ?_; intro τ21 B21 F21 S21
  have O21 := O20.sep S21
  refine br_t rfl <| q_Rename scrF 22 F21 rfl ?_; intro τ22 B22 F22 S22
  have O22 := O21.sep S22
  refine br_t rfl <| q_Rename scrF 23 F22 rfl ?_; intro τ23 B23 F23 S23
  have O23 := O22.sep S23
  refine br_t rfl <| q_Rename scrF 24 F23 rfl ?_; intro τ24 B24 F24 S24
  have O24 := O23.sep S24
  refine br_t rfl <| q_reads scrF 25 F24 rfl (by decide) ?_; intro F25
  refine br_t rfl <| q_reads scrF 26 F25 rfl (by decide) ?_; intro F26
  refine br_t rfl <| q_Rename scrF 27 F26 rfl ?_; intro τ27 B27 F27 S27
  have O27 := O24.sep S27
  refine br_t rfl <| q_Rename scrF 28 F27 rfl ?_; intro τ28 B28 F28 S28
  have O28 := O27.sep S28
  refine br_t rfl <| q_Rename scrF 29 F28 rfl ?_; intro τ29 B29 F29 S29
  have O29 := O28.sep S29
  refine br_t rfl <| q_Rename scrF 30 F29 rfl ?_; intro τ30 B30 F30 S30
  have O30 := O29.sep S30
  exact hj _ _ F30 O30
 clear F O
 intro τ B F O
 obtain ⟨h1, h2, h3⟩ := li_eq scrF 31 rfl
 refine call_i (s_ListR (scrF.inv 31).1 (scrF.inv 31).2 (by decide) F _ _ ?_)
 intro x σ2 hx
 rw [h1]
 rw [h2] at hx
 (refine app_of rfl ?_; try dsimp only)
 replace F := F.gr hx.1
 replace O := O.gr hx.1
 rw [<- h3] at F
 clear h1 h2 h3
 refine j_i (fun j => ∀ τ B, FsAt τ bf (scrA (newT 60 2000) scr1 32) B -> Off σ τ B -> j none (some ⟨bf, 0, none⟩) true τ) ?_ ?_
 case refine_2 =>
  intro j hj
  refine br_t rfl (br_t rfl ?_)
  refine al_i ?_; intro b142 σ3 g3 e3 n3
  refine call_i (s_rfTexts (a := flN) (c := flN) (hx.at.gr g3) (fl_at e3) (by decide) (app_B ?_))
  rw [decide_eq_true rfl]
  exact hj _ _ (F.gr g3) (O.gr g3)
 clear F O hx
 intro τ B F O
 refine j_i (fun j => ∀ τ B, FsAt τ bf (scrA (newT 60 2000) scr1 48) B -> Off σ τ B -> j none (some ⟨bf, 0, none⟩) true τ) ?_ ?_
 case refine_2 =>
  intro j hj
  refine br_t rfl <| q_Mkdir scrF 32 F rfl ?_; intro τ32 B32 F32 S32
  have O32 := O.sep S32
  refine br_t rfl <| q_Mkdir scrF 33 F32 rfl ?_; intro τ33 B33 F33 S33
  have O33 := O32.sep S33
  refine br_t rfl <| q_Mkdir scrF 34 F33 rfl ?_; intro τ34 B34 F34 S34
  have O34 := O33.sep S34
  refine br_t rfl <| q_Mkdir scrF 35 F34 rfl ?_; intro τ35 B35 F35 S35
  have O35 := O34.sep S35
  refine br_t rfl ?_
  refine call_i (s_Repeat ⟨⟨[110]⟩⟩ 57 (by decide) (by decide) (app_S ?_))
  rw [rep57]
  refine q_Mkdir scrF 36 F35 rfl ?_; intro τ36 B36 F36 S36
  have O36 := O35.sep S36
  refine br_t rfl ?_
  refine call_i (s_Repeat ⟨⟨[47, 97]⟩⟩ 128 (by decide) (by decide) (app_S ?_))
  rw [rep128]
  refine q_Mkdir scrF 37 F36 rfl ?_; intro τ37 B37 F37 S37
  have O37 := O36.sep S37
  refine br_t rfl <| q_Mkdir scrF 38 F37 rfl ?_; intro τ38 B38 F38 S38
  have O38 := O37.sep S38
  refine br_t rfl <| q_Remove scrF 39 F38 rfl ?_; intro τ39 B39 F39 S39
  have O39 := O38.sep S39
  refine br_t rfl <| q_Remove scrF 40 F39 rfl ?_; intro τ40 B40 F40 S40
  have O40 := O39.sep S40
  refine br_t rfl <| q_Remove scrF 41 F40 rfl ?_; intro τ41 B41 F41 S41
  have O41 := O40.sep S41
  refine br_t rfl <| q_Symlink scrF 42 F41 rfl ?_; intro τ42 B42 F42 S42
  have O42 := O41.sep S42
  refine br_t rfl <| q_Hard scrF 43 F42 rfl ?_; intro τ43 B43 F43 S43
  have O43 := O42.sep S43
  refine br_t rfl <| q_Hard scrF 44 F43 rfl ?_; intro τ44 B44 F44 S44
  have O44 := O43.sep S44
  refine br_t rfl <| q_Chmod scrF 45 F44 rfl ?_; intro τ45 B45 F45 S45
  have O45 := O44.sep S45
  refine br_t rfl <| q_Chmod scrF 46 F45 rfl ?_; intro τ46 B46 F46 S46
  have O46 := O45.sep S46
  refine br_t rfl <| q_Chmod scrF 47 F46 rfl ?_; intro τ47 B47 F47 S47
  have O47 := O46.sep S47
  exact hj _ _ F47 O47
 clear F O
 intro τ B F O
 refine loop_i ?_
 intro R hR
 have key : ∀ (c i : Nat) (τ : H) (B : Nat -> Prop), c + i = 10 -> FsAt τ bf (scrA (newT 60 2000) scr1 (48 + i)) B -> Off σ τ B -> R none (some ⟨bf, 0, none⟩) true (gP i) (i : Int) τ := by
  intro c
  induction c with
  | succ c ih =>
   intro i τ B hc hF hO
   refine hR _ _ _ _ _ _ ?_
   refine br_t (by simp only [decide_eq_true_eq]; omega) ?_
   refine j_i (fun j => ∀ τ' B' v1 v2 v3 v4, FsAt τ' bf (scrA (newT 60 2000) scr1 (48 + (i + 1))) B' -> Off σ τ' B' -> j none (some ⟨bf, 0, none⟩) true (gP (i + 1)) (i : Int) v1 v2 v3 v4 τ') ?_ ?_
   ·intro τ' B' v1 v2 v3 v4 q1 q2
    show R _ _ _ _ _ _
    rw [wrapS (i := i) (by omega)]
    exact ih (i + 1) τ' B' (by omega) q1 q2
   intro j hj
   have hsz := gP_size i
   refine if_i (by show (gP i).size + 2 <= _; omega) ?_
   rw [gP_succ]
   refine br_t rfl <| q_Mkdir scrF (48 + i) hF (scr_g i (by omega)) ?_
   intro τ' B' F' S'
   exact hj τ' B' _ _ _ _ F' (hO.sep S')
  | zero =>
   intro i τ B hc hF hO
   have hi : i = 10 := by omega
   subst hi
   have hsz := gP_size 10
   refine hR _ _ _ _ _ _ ?_
   refine br_f (by decide) ?_
   refine j_i (fun j => ∀ τ B, FsAt τ bf (scrA (newT 60 2000) scr1 62) B -> Off σ τ B -> j none (some ⟨bf, 0, none⟩) true τ) ?_ ?_
   case refine_2 =>
    intro j hj
    refine br_t rfl (if_i (by show (gP 10).size + 2 <= _; omega) ?_)
    rw [gP_succ]
    refine q_Mkdir scrF 58 hF rfl ?_; intro τ58 B58 F58 S58
    have O58 := hO.sep S58
    refine br_t rfl <| q_Rename scrF 59 F58 rfl ?_; intro τ59 B59 F59 S59
    have O59 := O58.sep S59
    refine br_t rfl ?_
    refine if_i (by show (gP 10).size + 2 <= _; omega) ?_
    refine q_Lay scrF 60 F59 rfl (by decide) ?_; intro τ60 B60 F60 S60
    have O60 := O59.sep S60
    refine br_t rfl ?_
    refine if_i (by show (gP 10).size + 2 <= _; omega) ?_
    refine q_Lay scrF 61 F60 rfl (by decide) ?_; intro τ61 B61 F61 S61
    have O61 := O60.sep S61
    exact hj _ _ F61 O61
   clear hF hO
   intro τ B F O
   refine loop_i ?_
   intro R2 hR2
   have key2 : ∀ (c i : Nat) (τ : H) (B : Nat -> Prop), c + i = 9 -> FsAt τ bf (scrA (newT 60 2000) scr1 (62 + i)) B -> Off σ τ B -> R2 none (some ⟨bf, 0, none⟩) true (kLn i) (i : Int) τ := by
    intro c
    induction c with
    | succ c ih =>
     intro i τ B hc hF hO
     refine hR2 _ _ _ _ _ _ ?_
     refine br_t (by simp only [decide_eq_true_eq]; omega) ?_
     refine al_i ?_; intro b57 τ1 g1 e1 n1
     refine bstr_i und_bytesF und_u8F und_strF (kb_at i (by omega) e1) ?_
     replace hF := hF.gr g1
     replace hO := hO.gr g1
     refine j_i (fun j => ∀ τ' B' v1 v2 v3 v4 v5, FsAt τ' bf (scrA (newT 60 2000) scr1 (62 + (i + 1))) B' -> Off σ τ' B' -> j none (some ⟨bf, 0, none⟩) true (i : Int) (kLn (i + 1)) v1 v2 v3 v4 v5 τ') ?_ ?_
     ·intro τ' B' v1 v2 v3 v4 v5 q1 q2
      show R2 _ _ _ _ _ _
      rw [wrapS (i := i) (by omega)]
      exact ih (i + 1) τ' B' (by omega) q1 q2
     intro j hj
     refine br_t rfl <| q_Symlink scrF (62 + i) hF (scr_k i (by omega)) ?_
     intro τ' B' F' S'
     exact hj τ' B' _ _ _ _ _ F' (hO.sep S')
    | zero =>
     intro i τ B hc hF hO
     have hi : i = 9 := by omega
     subst hi
     refine hR2 _ _ _ _ _ _ ?_
     refine br_f (by decide) ?_
     refine j_i (fun j => ∀ τ, Gr σ τ -> j none true τ) ?_ ?_
     case refine_2 =>
      intro j hj
      refine br_t rfl <| q_reads scrF 71 hF rfl (by decide) ?_; intro F1
      refine br_t rfl <| q_reads scrF 72 F1 rfl (by decide) ?_; intro F2
      exact hj _ hO.1
     clear hF hO
     intro τ G
     refine call_i (s_New 2 3 (fun h => by cases h) ?_)
     intro _ bs σ1 B1 F1 g1 hf1
     have O1 := Off.new g1 hf1
     refine app_P ?_
     refine j_i (fun j => ∀ τ', Gr τ τ' -> j none true true τ') ?_ ?_
     case refine_2 =>
      intro j hj
      refine br_t rfl ?_
      refine q_Write scrG 0 F1 rfl (by decide) ?_; intro τ0 B0 F0 S0
      have O0 := O1.sep S0
      refine br_t rfl <| q_Write scrG 1 F0 rfl (by decide) ?_; intro τ1 B1 F1 S1
      have O1 := O0.sep S1
      refine br_t rfl <| q_Write scrG 2 F1 rfl (by decide) ?_; intro τ2 B2 F2 S2
      have O2 := O1.sep S2
      refine br_t rfl <| q_Mkdir scrG 3 F2 rfl ?_; intro τ3 B3 F3 S3
      have O3 := O2.sep S3
      refine br_t rfl <| q_reads scrG 4 F3 rfl (by decide) ?_; intro F4
      refine br_t rfl <| q_Write scrG 5 F4 rfl (by decide) ?_; intro τ5 B5 F5 S5
      have O5 := O3.sep S5
      refine br_t rfl <| q_Lay scrG 6 F5 rfl (by decide) ?_; intro τ6 B6 F6 S6
      have O6 := O5.sep S6
      refine br_t rfl <| q_Lay scrG 7 F6 rfl (by decide) ?_; intro τ7 B7 F7 S7
      have O7 := O6.sep S7
      refine br_t rfl <| q_Lay scrG 8 F7 rfl (by decide) ?_; intro τ8 B8 F8 S8
      have O8 := O7.sep S8
      refine br_t rfl <| q_Lay scrG 9 F8 rfl (by decide) ?_; intro τ9 B9 F9 S9
      have O9 := O8.sep S9
      exact hj _ O9.1
     intro τ2 G2
     refine call_i (s_ReadNil _ _ ?_); intro τ3 G3
     (refine app_of rfl ?_; try dsimp only)
     refine call_i (s_ListNil _ _ ?_); intro τ4 G4
     (refine app_of rfl ?_; try dsimp only)
     refine call_i (s_RealNil _ _ ?_); intro τ5 G5
     (refine app_of rfl ?_; try dsimp only)
     refine call_i (s_StatNil _ _ _ ?_); intro τ6 G6
     (refine app_of rfl ?_; try dsimp only)
     refine al_i ?_; intro b90 τ7 G7 e7 n7
     refine st_i2 e7 sz_Inode (by rfl) (by rfl) ?_; intro τ8 p8
     have H8 : Gr σ τ8 := ((((((G.trans G2).trans G3).trans G4).trans G5).trans G6).trans G7).putF p8 (none_of (((((G.trans G2).trans G3).trans G4).trans G5).trans G6) n7)
     refine call_i (s_works8 (app_B ?_))
     refine br_t rfl (br_t rfl (br_t rfl (br_t rfl (br_t rfl (br_t rfl (br_t rfl ?_))))))
     refine call_i (s_WriteNil _ _ _ _ ?_); intro τ9 G9
     refine app_I (br_t rfl (call_i (s_MkdirNil _ _ ?_))); intro τ10 G10
     refine app_I (br_t rfl (call_i (s_RemoveNil _ _ ?_))); intro τ11 G11
     refine app_I (br_t rfl (call_i (s_RenameNil _ _ _ ?_))); intro τ12 G12
     refine app_I (br_t rfl (call_i (s_SymlinkNil _ _ _ ?_))); intro τ13 G13
     refine app_I (br_t rfl (call_i (s_HardNil _ _ _ ?_))); intro τ14 G14
     refine app_I (br_t rfl (call_i (s_ChmodNil _ _ _ ?_))); intro τ15 G15
     refine app_I (br_t rfl (call_i (s_LayNil _ tF0 ⟨none, 0, 0⟩ ?_))); intro τ16 G16
     refine app_I (br_t rfl (call_i (s_UsedNil ?_))); intro τ17 G17
     (refine app_of rfl ?_; try dsimp only)
     refine br_t rfl (call_i (s_New 0 0 (fun _ => app_P ?_) (fun h => by cases h)))
     refine br_t rfl (call_i (s_New 1048577 0 (fun _ => app_P ?_) (fun h => by cases h)))
     refine br_t rfl (call_i (s_New 1 (-1) (fun _ => app_P ?_) (fun h => by cases h)))
     refine br_t rfl (call_i (s_New 1 1073741825 (fun _ => app_P ?_) (fun h => by cases h)))
     exact hK _ (H8.trans (G9.trans (G10.trans (G11.trans (G12.trans (G13.trans (G14.trans (G15.trans (G16.trans G17)))))))))
   exact key2 9 0 τ B (by omega) F O
 exact key 10 0 τ B (by omega) F O
end Go.Proofs.YtbjbeajbckcecaaGreatDoor

