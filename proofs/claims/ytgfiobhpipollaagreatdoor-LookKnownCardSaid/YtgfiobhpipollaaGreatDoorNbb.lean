/- A part of the proof: LookKnown holds. -/
import Derived.Test.YtgfiobhpipollaaGreatDoorNba
import Derived.Laws.MakeOwn
import Derived.Laws.CopyRow
import Derived.RecoverIn
import Derived.Test.YtgfiobhpipollaaGreatDoorChecked
set_option maxRecDepth 100000
namespace Go.Proofs.YtgfiobhpipollaaGreatDoor
open Go Go.HL Go.Wk
attribute [local irreducible] ptrW ifW brW andW rdT alW letJ stW muW biW vaW imW callT cvalT app callW invW callVW sizeT oW nilF oneK loopW rfW funW begW roundK exW idxW Gr Put
theorem s_sha (s : ByteArray) (hs : s.size <= 100000000) {σ : H} {K : KH} (hK : K (.string ⟨⟨shaSumP s.data.toList⟩⟩) σ) : callW Tryz.prog 118 [.string s] K σ :=
 s_shaSum shaPl_ok shaPl_len shaKl_ok shaH0_ok shaKl_len s hs hK
theorem lt_at (hv b : Int) : letterL[(lttI hv b).toNat]? = some (lttB hv b) := by
 have h := lt_rng hv b
 have hl : (lttI hv b).toNat < letterL.length := by show _ < 32; omega
 unfold lttB
 rw [List.getD_eq_getElem?_getD, List.getElem?_eq_getElem hl]; rfl
theorem s_nmHash (s : ByteArray) (hs : s.size <= 100000000) {σ : H} {K : KH} (hK : K (.string ⟨⟨hashP s.data.toList⟩⟩) σ) : callW Tryz.prog 75 [.string s] K σ := by
 refine pure_i _ hK (c75 _ ?_)
 clear hK
 unfold g75
 refine call_i (s_sha s hs (app_S ?_))
 refine al_i ?_; intro b3 σ1 g1 e1 n1
 have hsz : (⟨⟨shaSumP s.data.toList⟩⟩ : ByteArray).size = 32 := rfl
 have hmin : (if (20 : Int) < (((⟨⟨shaSumP s.data.toList⟩⟩ : ByteArray).size : Nat) : Int) then (20 : Int) else (((⟨⟨shaSumP s.data.toList⟩⟩ : ByteArray).size : Nat) : Int)) = 20 := by rw [hsz]; rfl
 rw [hmin]
 unfold hashP
 generalize hS : shaSumP s.data.toList = S
 have hSl : S.length = 32 := by rw [<- hS]; rfl
 refine loop_i ?_
 intro R hR
 have key : ∀ (r : List UInt8) (i : Nat) (hv b : Int) (acc : List UInt8) (D : Nat -> Prop) (τ : H), (S.take 20).drop i = r -> 0 <= b -> b <= 4 -> acc.length <= 2 * i -> BuAt τ b3 acc D -> (∀ c o, σ c = some o -> τ c = some o /\ ¬ D c) -> lettersP (S.take 20) 0 0 = acc ++ lettersP r hv b -> R ⟨⟨S⟩⟩ (some ⟨b3, 0, none⟩) hv b 20 (i : Int) τ := by
  intro r
  induction r with
  | nil =>
   intro i hv b acc D τ hd hb0 hb4 hal hb hkeep he
   have hge : (S.take 20).length <= i := by simpa using hd
   rw [List.length_take, hSl] at hge
   refine hR _ _ _ _ _ _ _ (br_f (by simp only [decide_eq_false_iff_not]; omega) ?_)
   by_cases hal2 : acc.length <= 100000000000
   ·refine call_i (s_BuStr hb hal2 ?_)
    intro σ' hk
    refine app_S ⟨?_, gr_of fun c o hc => hk c o (hkeep c o hc).1 (hkeep c o hc).2⟩
    rw [he]; unfold lettersP; rw [List.append_nil]
   ·exfalso
    have h1 : ∀ (l : List UInt8) (hv b : Int), (lettersP l hv b).length <= 2 * l.length := by
     intro l
     induction l with
     | nil => intro _ _; exact Nat.le_refl _
     | cons c r ih =>
      intro hv b
      unfold lettersP
      have h2 : (inP (orH hv c) (b + 8)).2.length <= 2 := by
       unfold inP
       split
       ·split <;> simp
       ·simp
      have := ih (andH (orH hv c) (inP (orH hv c) (b + 8)).1) (inP (orH hv c) (b + 8)).1
      rw [List.length_append, List.length_cons]; omega
    have h2 := h1 (S.take 20) 0 0
    rw [he, List.length_append, List.length_take] at h2
    omega
  | cons c r ih =>
   intro i hv b acc D τ hd hb0 hb4 hal hb hkeep he
   obtain ⟨hx, hlt, hd'⟩ := at_drop hd
   rw [List.length_take, hSl] at hlt
   have hx' : S[i]? = some c := by rw [List.getElem?_take_of_lt (by omega)] at hx; exact hx
   refine hR _ _ _ _ _ _ _ (br_t (by simp only [decide_eq_true_eq]; omega) (if_i (by decide) ?_))
   refine idx_l (c := c) (by omega) (by rw [Int.toNat_natCast]; exact hx') ?_
   refine loop_i ?_
   intro R2 hR2
   have w8 : IntKind.i64.wrap (b + 8) = b + 8 := wrap_id (by omega) (by omega)
   rw [w8]
   have step : ∀ (hv' b' : Int) (acc' : List UInt8) (D' : Nat -> Prop) (τ' : H), 5 <= b' -> b' <= 12 -> acc'.length <= 100 -> BuAt τ' b3 acc' D' -> (∀ c o, σ c = some o -> τ' c = some o /\ ¬ D' c) ->
    (∀ D2 τ2, BuAt τ2 b3 (acc' ++ [lttB hv' (b' - 5)]) D2 -> (∀ c o, σ c = some o -> τ2 c = some o /\ ¬ D2 c) -> R2 ⟨⟨S⟩⟩ (some ⟨b3, 0, none⟩) hv' (b' - 5) 20 (i : Int) τ2) -> R2 ⟨⟨S⟩⟩ (some ⟨b3, 0, none⟩) hv' b' 20 (i : Int) τ' := by
    intro hv' b' acc' D' τ' h5 h12 ha hB hk hn
    have w5 : IntKind.i64.wrap (b' - 5) = b' - 5 := wrap_id (by omega) (by omega)
    refine hR2 _ _ _ _ _ _ _ (br_t (by simp only [ge_iff_le, decide_eq_true_eq]; omega) ?_)
    rw [w5]
    refine if_i (by omega) ?_
    refine idx_l (c := lttB hv' (b' - 5)) (lt_rng hv' (b' - 5)).1 (lt_at hv' (b' - 5)) ?_
    refine call_i (s_BuWrB hB _ (by omega) ?_)
    intro τ2 D2 hB2 S2
    exact app_R (hn D2 τ2 hB2 fun c o hc => S2 c o (hk c o hc).1 (hk c o hc).2)
   have fin : ∀ (hv' b' : Int) (acc' : List UInt8) (D' : Nat -> Prop) (τ' : H), 0 <= b' -> b' <= 4 -> acc'.length <= 2 * (i + 1) -> BuAt τ' b3 acc' D' -> (∀ c o, σ c = some o -> τ' c = some o /\ ¬ D' c) -> lettersP (S.take 20) 0 0 = acc' ++ lettersP r (andH hv' b') b' -> R2 ⟨⟨S⟩⟩ (some ⟨b3, 0, none⟩) hv' b' 20 (i : Int) τ' := by
    intro hv' b' acc' D' τ' h0 h4 ha hB hk hl
    refine hR2 _ _ _ _ _ _ _ (br_f (by simp only [ge_iff_le, decide_eq_false_iff_not]; omega) (if_i (by omega) ?_))
    rw [wrap_id (x := (i : Int) + 1) (by omega) (by omega)]
    exact ih (i + 1) _ _ acc' D' τ' hd' h0 h4 ha hB hk hl
   simp only [lettersP, inP] at he
   rw [if_pos (show b + 8 >= 5 by omega)] at he
   refine step _ (b + 8) acc D τ (by omega) (by omega) (by omega) hb hkeep ?_
   intro D2 τ2 hB2 hk2
   by_cases h2 : b + 8 - 5 >= 5
   ·rw [if_pos h2] at he
    refine step _ (b + 8 - 5) _ D2 τ2 (by omega) (by omega) (by simp; omega) hB2 hk2 ?_
    intro D3 τ3 hB3 hk3
    have e10 : b + 8 - 5 - 5 = b + 8 - 10 := by omega
    refine fin _ (b + 8 - 5 - 5) _ D3 τ3 (by omega) (by omega) (by simp; omega) hB3 hk3 ?_
    rw [he, e10]
    simp [orH]
   ·rw [if_neg h2] at he
    refine fin _ (b + 8 - 5) _ D2 τ2 (by omega) (by omega) (by simp; omega) hB2 hk2 ?_
    rw [he]
    simp [orH]
 exact key (S.take 20) 0 0 0 [] _ σ1 rfl (by omega) (by omega) (by simp) (BuAt.new e1) (fun c o hc => ⟨g1.get hc, fun e => by rw [e, n1] at hc; cases hc⟩) rfl
theorem s_nmPath (h n : List UInt8) (hh : h.length <= 100000000) (hn : n.length <= 100000000) {σ : H} {K : KH} (hK : K (.tuple ⟨[.string ⟨⟨(pathP h n).1⟩⟩, .int .i64 (pathP h n).2]⟩) σ) : callW Tryz.prog 74 [.string ⟨⟨h⟩⟩, .string ⟨⟨n⟩⟩] K σ := by
 refine c74 _ _ ?_
 unfold g74
 unfold pathP at hK
 refine call_i (s_nmIs ⟨⟨h⟩⟩ hh (app_B ?_))
 show brW (!isHashP h) _ _ σ
 cases hi : isHashP h with
 | false => rw [hi] at hK; exact br_t rfl hK
 | true =>
  rw [hi, if_pos rfl] at hK
  refine br_f rfl (call_i (s_nmCheck _ (app_I ?_)))
  show brW (nameP n != 0) _ _ σ
  cases hm : nameP n == 0 with
  | false => rw [hm, if_neg (by simp)] at hK; exact br_t (by simp [bne, hm]) hK
  | true =>
   rw [hm, if_pos rfl] at hK
   refine br_f (by simp [bne, hm]) (if_i ?_ (if_i ?_ ?_))
   ·show h.length + 1 <= _; omega
   ·show (h ++ [45]).length + n.length <= _
    rw [List.length_append]; simp; omega
   ·have e : (⟨⟨h⟩⟩ ++ (⟨⟨[45]⟩⟩ : ByteArray)) ++ ⟨⟨n⟩⟩ = (⟨⟨h ++ 45 :: n⟩⟩ : ByteArray) := by
     apply bytes_ext
     simp [ByteArray.data_append]
    rw [e]; exact hK
theorem s_nmSplit (p : List UInt8) (hp : p.length <= 100000000) {σ : H} {K : KH} (hK : K (.tuple ⟨[.string ⟨⟨(splitN p).1⟩⟩, .string ⟨⟨(splitN p).2.1⟩⟩, .int .i64 (splitN p).2.2]⟩) σ) : callW Tryz.prog 56 [.string ⟨⟨p⟩⟩] K σ := by
 refine c56 _ ?_
 unfold g56
 have hps : (⟨⟨p⟩⟩ : ByteArray).size = p.length := rfl
 have e1 : (⟨⟨p⟩⟩ : ByteArray).extract 0 ((32 : Int).toNat) = ⟨⟨p.take 32⟩⟩ := by rw [bex]; rfl
 have e2 : (⟨⟨p⟩⟩ : ByteArray).extract ((33 : Int).toNat) (⟨⟨p⟩⟩ : ByteArray).size = ⟨⟨p.drop 33⟩⟩ := ext_drop p 33
 refine j_i (fun j => (∀ b : Bool, b = !(decide (p.length > 32) && p.getD 32 0 == 45) -> j ⟨⟨p⟩⟩ b σ)) ?_ ?_
 ·intro b hb
  cases hc : decide (p.length > 32) && p.getD 32 0 == 45 with
  | false =>
   rw [hc] at hb; subst hb
   refine br_t rfl ?_
   have hs : splitN p = ([], [], 4) := by unfold splitN; rw [hc]; rfl
   rw [hs] at hK; exact hK
  | true =>
   rw [hc] at hb; subst hb
   have hlen : p.length > 32 := by
    rw [Bool.and_eq_true] at hc
    exact of_decide_eq_true hc.1
   refine br_f rfl (if_i ⟨bnd_some (by decide) (by rw [hps]; omega), bnd_none⟩ (if_i ⟨bnd_none, bnd_some (by decide) (by rw [hps]; omega)⟩ ?_))
   rw [e1, e2]
   have hs : splitN p = if isHashP (p.take 32) && nameP (p.drop 33) == 0 then (p.take 32, p.drop 33, 0) else ([], [], 4) := by
    unfold splitN; rw [hc, Bool.true_and]
   refine j_i (fun j => ∀ b : Bool, b = !(isHashP (p.take 32) && nameP (p.drop 33) == 0) -> j ⟨⟨p.take 32⟩⟩ ⟨⟨p.drop 33⟩⟩ b σ) ?_ ?_
   ·intro b hb
    cases hd : isHashP (p.take 32) && nameP (p.drop 33) == 0 with
    | false => rw [hd] at hb; subst hb; rw [hs, hd] at hK; exact br_t rfl hK
    | true => rw [hd] at hb; subst hb; rw [hs, hd] at hK; exact br_f rfl hK
   intro j hj
   refine call_i (s_nmIs ⟨⟨p.take 32⟩⟩ (by show (p.take 32).length <= _; rw [List.length_take]; omega) (app_B ?_))
   show brW (!isHashP (p.take 32)) _ _ σ
   cases hi : isHashP (p.take 32) with
   | false => exact br_t rfl (hj true (by rw [hi]; rfl))
   | true =>
    refine br_f rfl (call_i (s_nmCheck _ (app_I (hj _ ?_))))
    rw [hi, Bool.true_and]; rfl
 intro j hj
 by_cases hl : p.length > 32
 ·refine br_f (by rw [hps]; simp only [decide_eq_false_iff_not]; omega) ?_
  refine idx_l (c := p.getD 32 0) (by decide) (by show p[32]? = _; rw [List.getD_eq_getElem?_getD, List.getElem?_eq_getElem hl]; rfl) ?_
  refine hj _ ?_
  simp only [hl, decide_true, Bool.true_and]
  rw [Bool.eq_iff_iff]
  simp only [bne_iff_ne, ne_eq, Bool.not_eq_true', beq_eq_false_iff_ne]
  constructor
  ·intro h h2; rw [h2] at h; exact h rfl
  ·intro h h2; exact h (UInt8.toNat_inj.1 (by show _ = 45; omega))
 ·refine br_t (by rw [hps]; simp only [decide_eq_true_eq]; omega) (hj true ?_)
  simp [hl]
end Go.Proofs.YtgfiobhpipollaaGreatDoor

namespace Go.HL
open Go
section
variable {P : Program} {σ : H}
theorem madeCells_one (v : Value) (n : Nat) : madeCells #[v] n = ⟨List.replicate n v⟩ := by
 apply Array.ext'
 unfold madeCells
 apply List.ext_getElem
 ·simp
 ·intro i h1 h2
  simp [Nat.mod_one]
theorem mk_i {t e : TypeId} {i : TypeInfo} {z : Value} (ht : P.underlying t = some (.slice e)) (hi : P.info? e = some i) (hz : i.zero = some z) (hs : i.size = 1) (hby : i.bytes <= 100) (hzc : z.cells = #[z]) {l : Int} {n : Nat} (hl : l = (n : Int)) (hn : n <= 100000000000) {F : Sl -> H -> Prop}
 (hF : ∀ b σ', Gr σ σ' -> σ b = none -> σ' b = some (.cells ⟨List.replicate n z⟩ e (0, 0)) -> F ⟨some ⟨b, 0, none⟩, n, n⟩ σ') : vaW P (Instr.makeSlice t (.int .i64 l) (.int .i64 l)) (.one (.sc .slc)) F σ := by
 subst hl
 intro w hw
 have hbytes : (i.bytes : Int) * ((n : Nat) : Int) <= 281474976710656 := by
  have : i.bytes * n <= 100 * 100000000000 := Nat.mul_le_mul hby hn
  have h2 : ((i.bytes * n : Nat) : Int) <= 281474976710656 := by omega
  rw [Int.natCast_mul] at h2; exact h2
 have hrun : (valS (Instr.makeSlice t (.int .i64 (n : Int)) (.int .i64 (n : Int)))).run P w = .ok (.value (.slice (some ⟨w.heap.size, 0, none⟩) n n)) (w.alloc (.cells ⟨List.replicate n z⟩ e)) := by
  simp only [valS, Sem.run_bind, run_make (P := P) w t e i z ht hi hz .i64 .i64 (n : Int) (n : Int) (by omega) (by omega) hbytes (by omega), Result.andThen_ok, Sem.run_pure, Int.toNat_natCast, hs, Nat.mul_one, hzc, madeCells_one]
 rw [hrun]
 obtain ⟨h1, h2⟩ := Ext.alloc hw (.cells ⟨List.replicate n z⟩ e)
 exact ⟨_, h2, app_L (hF w.heap.size _ (Gr.put h1 _) h1 (H.put_same _ _ _))⟩
theorem copy_cells {t u ty e T : TypeId} {cs : List Bool} {g off dl dc : Nat} {cur : List Value} {src : Value} {new : List Value} {m : Nat} (hu : P.underlying t = some (.slice e)) (hi : (P.info? e).map (·.size) = some 1) (hg : σ g = some (.cells ⟨cur⟩ T (0, 0)))
 (hfit : off + new.length <= cur.length) (hone : ∀ v ∈ new, v.oneCell' = true) (hm : min m dl = new.length) (hlen : ∀ w : World, (Builtin.lenOf src).run P w = .ok m w) (hsrc : ∀ w : World, σ.le w -> (Builtin.firstCells 1 new.length src).run P w = .ok new.toArray w) {F : Int -> H -> Prop}
 (hF : ∀ σ', Put σ g (.cells ⟨cur.take off ++ new ++ cur.drop (off + new.length)⟩ T (0, 0)) σ' -> F (new.length : Int) σ') :
 biW P .copy #[t, u] ty cs [.slice (some ⟨g, off, none⟩) dl dc, src] (.one (.sc (.int .i64))) F σ := by
 intro w hw
 have hst := run_storeCells_at (P := P) (b := g) (t := T) (fz := (0, 0)) (o := off) new 0 cur w (hw g _ hg) (by simpa using hfit) hone (.inl (Nat.le_refl _))
 simp only [Nat.add_zero] at hst
 have hs1 : (sizeOf e).run P w = .ok 1 w := by
  cases hie : P.info? e with
  | none => rw [hie] at hi; cases hi
  | some i => rw [hie] at hi; simp at hi; simp [sizeOf, typeInfo, hie, hi]
 have hrun : (builtin .copy #[t, u] ty ⟨cs⟩ ⟨[.slice (some ⟨g, off, none⟩) dl dc, src]⟩).run P w = .ok (.value (.int .i64 (new.length : Int))) { w with heap := w.heap.setIfInBounds g (.cells ⟨cur.take off ++ new ++ cur.drop (off + new.length)⟩ T (0, 0)) } := by
  have h1 : Nat.min m dl = new.length := hm
  simp [builtin, Builtin.copy_, run_underlying hu, hlen w, h1, hs1, hsrc w hw, hst, goInt]
 rw [hrun]
 exact ⟨_, Ext.set hw hg rfl rfl rfl rfl, app_I (hF _ rfl)⟩
theorem copy_str_i {t u ty e T : TypeId} {cs : List Bool} {g off dl dc : Nat} {cur : List Value} (hu : P.underlying t = some (.slice e)) (hi : (P.info? e).map (·.size) = some 1) (hg : σ g = some (.cells ⟨cur⟩ T (0, 0))) (s : ByteArray) (hd : s.size <= dl) (hfit : off + s.size <= cur.length) {F : Int -> H -> Prop}
 (hF : ∀ σ', Put σ g (.cells ⟨cur.take off ++ (brows s.data.toList).flatten ++ cur.drop (off + s.size)⟩ T (0, 0)) σ' -> F (s.size : Int) σ') :
 biW P .copy #[t, u] ty cs [.slice (some ⟨g, off, none⟩) dl dc, .string s] (.one (.sc (.int .i64))) F σ := by
 have hl : (brows s.data.toList).flatten.length = s.size := by rw [brows_flat, List.length_map]; cases s with | mk d => simp [ByteArray.size]
 refine copy_cells (new := (brows s.data.toList).flatten) (m := s.size) hu hi hg (by rw [hl]; exact hfit) ?_ (by rw [hl]; exact Nat.min_eq_left hd) (fun w => by simp [Builtin.lenOf]) (fun w _ => ?_) (by rw [hl]; exact hF)
 ·intro v hv
  rw [brows_flat, List.mem_map] at hv
  obtain ⟨c, _, rfl⟩ := hv; rfl
 ·rw [hl, Lib.run_firstCells_string, strCells_eq]
theorem copy_sl_i {t u ty e T T2 : TypeId} {cs : List Bool} {g off dl dc g2 o2 sc : Nat} {cur cur2 : List Value} {fz : Nat × Nat} (hu : P.underlying t = some (.slice e)) (hi : (P.info? e).map (·.size) = some 1) (hg : σ g = some (.cells ⟨cur⟩ T (0, 0))) (hg2 : σ g2 = some (.cells ⟨cur2⟩ T2 fz)) {n : Nat} (hn : n <= dl) (hs : o2 + n <= cur2.length) (hfit : off + n <= cur.length) (hone : ∀ v ∈ cur2, v.oneCell' = true) {F : Int -> H -> Prop}
 (hF : ∀ σ', Put σ g (.cells ⟨cur.take off ++ (cur2.drop o2).take n ++ cur.drop (off + n)⟩ T (0, 0)) σ' -> F (n : Int) σ') :
 biW P .copy #[t, u] ty cs [.slice (some ⟨g, off, none⟩) dl dc, .slice (some ⟨g2, o2, none⟩) n sc] (.one (.sc (.int .i64))) F σ := by
 have hl : ((cur2.drop o2).take n).length = n := by simp; omega
 refine copy_cells (new := (cur2.drop o2).take n) (m := n) hu hi hg (by rw [hl]; exact hfit) ?_ (by rw [hl]; exact Nat.min_eq_left hn) (fun w => by simp [Builtin.lenOf]) (fun w hw => ?_) (by rw [hl]; exact hF)
 ·intro v hv; exact hone v (List.mem_of_mem_drop (List.mem_of_mem_take hv))
 ·rw [hl]
  refine run_firstCells_some (P := P) w 1 n ⟨g2, o2, none⟩ n sc _ (by rw [hl, Nat.mul_one]) ?_
  intro j v hj
  rw [cells_at (hw g2 _ hg2)]
  rw [List.getElem?_take] at hj
  split at hj
  ·rw [List.getElem?_drop] at hj; exact hj
  ·cases hj
end
end Go.HL

namespace Go.Wk
open Go Go.HL
def digN : Nat -> Nat -> List UInt8 -> List UInt8
 | 0, _, acc => acc
 | f + 1, n, acc => if n = 0 then acc else digN f (n / 128) (UInt8.ofNat (n % 128 + 128) :: acc)
def putN (n : Nat) : List UInt8 := digN 9 (n / 128) [UInt8.ofNat (n % 128)]
def putT (t : List UInt8) : List UInt8 := putN t.length ++ t
def rowBad (h i : Nat) (c : UInt8) : Bool := (i == 0 && c.toNat == 128) || ((i == 9 && decide (h > 129)) || i == 10)
def rowGo (h : Nat) : Nat -> List UInt8 -> Nat
 | _, [] => 0
 | i, c :: r => if rowBad h i c then 0 else if c.toNat < 128 then i + 1 else rowGo h (i + 1) r
def rowW (l : List UInt8) : Nat := rowGo (l.headD 0).toNat 0 l
def stepV (n : Int) (c : UInt8) : Int := IntKind.u64.wrap ((IntKind.u64.wrap (n * 128)) + (IntKind.u64.wrap (Int.tmod ((c.toNat : Nat) : Int) 128)))
def numV (l : List UInt8) : Int := l.foldl stepV 0
structure RdP where (left : List UInt8) (lost : Bool)
def RdP.take (r : RdP) (k : Nat) : List UInt8 × RdP := if k = 0 \/ k > r.left.length then ([], ⟨[], true⟩) else (r.left.take k, ⟨r.left.drop k, r.lost⟩)
def RdP.num (r : RdP) : Int × RdP := (numV (r.take (rowW r.left)).1, (r.take (rowW r.left)).2)
def RdP.text (r : RdP) : List UInt8 × RdP := if r.num.1 == 0 then ([], r.num.2) else r.num.2.take (min r.num.1.toNat (r.num.2.left.length + 1))
theorem rowGo_le (h : Nat) : ∀ (l : List UInt8) (i : Nat), rowGo h i l <= i + l.length := by
 intro l
 induction l with
 | nil => intro i; simp [rowGo]
 | cons c r ih =>
  intro i
  unfold rowGo
  split
  ·omega
  ·split
   ·simp
   ·have := ih (i + 1); simp at this ⊢; omega
theorem rowW_le (l : List UInt8) : rowW l <= l.length := by have := rowGo_le (l.headD 0).toNat l 0; unfold rowW; omega
theorem u64_rng (x : Int) : 0 <= IntKind.u64.wrap x /\ IntKind.u64.wrap x < 18446744073709551616 := by
 unfold IntKind.wrap
 simp only [IntKind.signed, Bool.false_and, Bool.false_eq_true, if_false]
 exact ⟨Int.emod_nonneg _ (by decide), Int.emod_lt_of_pos _ (by decide)⟩
theorem u64_id {x : Int} (h0 : 0 <= x) (h1 : x < 18446744073709551616) : IntKind.u64.wrap x = x := by
 unfold IntKind.wrap
 simp only [IntKind.signed, Bool.false_and, Bool.false_eq_true, if_false]
 exact Int.emod_eq_of_lt h0 h1
theorem u8_id {x : Int} (h0 : 0 <= x) (h1 : x < 256) : IntKind.u8.wrap x = x := by
 unfold IntKind.wrap
 simp only [IntKind.signed, Bool.false_and, Bool.false_eq_true, if_false]
 exact Int.emod_eq_of_lt h0 h1
theorem numV_rng (l : List UInt8) : 0 <= numV l /\ numV l < 18446744073709551616 := by
 unfold numV
 have : ∀ (l : List UInt8) (n : Int), (0 <= n /\ n < 18446744073709551616) -> 0 <= l.foldl stepV n /\ l.foldl stepV n < 18446744073709551616 := by
  intro l
  induction l with
  | nil => intro n h; exact h
  | cons c r ih => intro n _; exact ih _ (u64_rng _)
 exact this l 0 ⟨by decide, by decide⟩
theorem digN_len : ∀ (f n : Nat) (acc : List UInt8), (digN f n acc).length <= f + acc.length := by
 intro f
 induction f with
 | zero => intro n acc; simp [digN]
 | succ f ih =>
  intro n acc
  unfold digN
  split
  ·omega
  ·have := ih (n / 128) (UInt8.ofNat (n % 128 + 128) :: acc); rw [List.length_cons] at this; omega
theorem putN_len (n : Nat) : (putN n).length <= 10 := by have := digN_len 9 (n / 128) [UInt8.ofNat (n % 128)]; unfold putN; simpa using this
end Go.Wk

set_option maxRecDepth 100000
namespace Go.Proofs.YtgfiobhpipollaaGreatDoor
open Go Go.HL Go.Wk
attribute [local irreducible] ptrW ifW brW andW rdT alW letJ stW muW biW vaW imW callT cvalT app callW invW callVW sizeT oW nilF oneK loopW rfW funW begW roundK exW idxW Gr Put
theorem sz_u8 : sizeT Tryz.prog 5 = some 1 := by kernel_rfl
theorem info_u8s : (Tryz.prog.info? 5).map (·.size) = some 1 := by kernel_rfl
theorem b_app (a b : List UInt8) : ((⟨⟨a⟩⟩ : ByteArray) ++ ⟨⟨b⟩⟩) = ⟨⟨a ++ b⟩⟩ := by
 apply bytes_ext; simp [ByteArray.data_append]
def u8V (l : List UInt8) : List Value := l.map fun c => .int .u8 ((c.toNat : Nat) : Int)
theorem u8V_flat (l : List UInt8) : (brows l).flatten = u8V l := brows_flat l
theorem u8V_len (l : List UInt8) : (u8V l).length = l.length := by simp [u8V]
theorem u8V_one (l : List UInt8) : ∀ v ∈ u8V l, v.oneCell' = true := by
 intro v hv
 simp only [u8V, List.mem_map] at hv
 obtain ⟨x, _, rfl⟩ := hv; rfl
theorem one_u8 (v : Int) : ∀ x ∈ arrL (Value.cells (.int .u8 v)), x.oneCell' = true := by
 intro x hx
 have : x = .int .u8 v := by simpa [Value.cells, arrL] using hx
 subst this; rfl
theorem u8_set (n : Nat) (acc : List UInt8) (c : UInt8) : (u8V (List.replicate (n + 1) 0 ++ acc)).take n ++ [Value.int .u8 ((c.toNat : Nat) : Int)] ++ (u8V (List.replicate (n + 1) 0 ++ acc)).drop (n + 1) = u8V (List.replicate n 0 ++ c :: acc) := by
 unfold u8V
 rw [List.map_append, List.map_replicate, List.take_append_of_le_length (by simp), List.drop_left' (by simp), List.take_replicate, Nat.min_eq_left (by omega)]
 simp
theorem rows_of_cells {σ : H} {g o : Nat} {l : List UInt8} {cur : List Value} {t : TypeId} {fz : Nat × Nat} (h : σ g = some (.cells ⟨cur⟩ t fz)) (hc : (cur.drop o).take l.length = u8V l) {m : Nat} : RowsAt σ 1 (brows l) ⟨some ⟨g, o, none⟩, l.length, m⟩ := by
 refine ⟨by rw [brows_len], .inr ⟨g, o, cur, t, fz, rfl, h, fun i r hi => ?_⟩⟩
 unfold brows at hi
 rw [List.getElem?_map] at hi
 cases hx : l[i]? with
 | none => rw [hx] at hi; cases hi
 | some c =>
  rw [hx] at hi
  cases hi
  refine ⟨rfl, ?_⟩
  have hil : i < l.length := by
   rcases Nat.lt_or_ge i l.length with h | h
   ·exact h
   ·rw [List.getElem?_eq_none h] at hx; cases hx
  have h1 : ((cur.drop o).take l.length)[i]? = some (.int .u8 ((c.toNat : Nat) : Int)) := by
   rw [hc]; unfold u8V; rw [List.getElem?_map, hx]; rfl
  rw [List.getElem?_take_of_lt hil, List.getElem?_drop] at h1
  have hlt : o + i < cur.length := by
   rcases Nat.lt_or_ge (o + i) cur.length with h | h
   ·exact h
   ·rw [List.getElem?_eq_none h] at h1; cases h1
  rw [Nat.mul_one, List.drop_eq_getElem_cons hlt]
  rw [List.getElem?_eq_getElem hlt] at h1
  rw [Option.some.inj h1]; rfl
theorem s_PutNum (l : List UInt8) (n : Nat) (hn : n < 18446744073709551616) (hl : l.length <= 1000000000) {σ : H} {K : KH} (hK : K (.string ⟨⟨l ++ putN n⟩⟩) σ) : callW Tryz.prog 108 [.string ⟨⟨l⟩⟩, .int .u64 ((n : Nat) : Int)] K σ := by
 refine pure_i _ hK (c108 _ _ ?_)
 clear hK
 unfold g108
 have hsz : (⟨⟨l⟩⟩ : ByteArray).size = l.length := rfl
 refine al_i ?_; intro b3 σ1 g1 e1 n1
 have tm : ∀ m : Nat, Int.tmod ((m : Nat) : Int) 128 = ((m % 128 : Nat) : Int) := fun _ => rfl
 have td : ∀ m : Nat, Int.tdiv ((m : Nat) : Int) 128 = ((m / 128 : Nat) : Int) := fun _ => rfl
 refine if_i (by decide) (if_i (by decide) ?_)
 rw [tm, td, u8_id (by omega) (by omega), u64_id (by omega) (by omega)]
 refine st_i2 e1 sz_u8 (by rfl) (by rfl) ?_
 intro σ2 p2
 refine if_i (by decide) ?_
 have hb0 : σ2 b3 = some (.cells ⟨u8V (List.replicate 9 0 ++ [UInt8.ofNat (n % 128)])⟩ 191 (0, 0)) := by
  have e : (UInt8.ofNat (n % 128)).toNat = n % 128 := by rw [UInt8.toNat_ofNat']; exact Nat.mod_eq_of_lt (by omega)
  have := p2.same
  have h2 : u8V (List.replicate 9 0 ++ [UInt8.ofNat (n % 128)]) = [.int .u8 0, .int .u8 0, .int .u8 0, .int .u8 0, .int .u8 0, .int .u8 0, .int .u8 0, .int .u8 0, .int .u8 0, .int .u8 ((n % 128 : Nat) : Int)] := by
   show [Value.int .u8 0, .int .u8 0, .int .u8 0, .int .u8 0, .int .u8 0, .int .u8 0, .int .u8 0, .int .u8 0, .int .u8 0, .int .u8 (((UInt8.ofNat (n % 128)).toNat : Nat) : Int)] = _
   rw [e]
  rw [h2]; exact this
 have hg0 : Gr σ σ2 := g1.putF p2 n1
 refine loop_i ?_
 intro R hR
 have fin : ∀ (f : Nat) (acc : List UInt8) (τ : H), acc.length + f = 10 -> f <= 9 -> acc = putN n -> Gr σ τ -> τ b3 = some (.cells ⟨u8V (List.replicate f 0 ++ acc)⟩ 191 (0, 0)) -> R ⟨⟨l⟩⟩ 0 (some ⟨b3, 0, none⟩) ((f : Nat) : Int) τ := by
  intro f acc τ ha hf9 hd hg hb
  refine hR _ _ _ _ _ (br_f (by decide) ?_)
  have w1 : IntKind.i64.wrap ((IntKind.i64.wrap ((((⟨⟨l⟩⟩ : ByteArray).size : Nat) : Int) + 10)) - (f : Int)) = ((l.length + acc.length : Nat) : Int) := by
   have w0 : IntKind.i64.wrap (((l.length : Nat) : Int) + 10) = ((l.length : Nat) : Int) + 10 := wrap_id (by omega) (by omega)
   rw [hsz, w0, wrap_id (by omega) (by omega)]; omega
  rw [w1]
  obtain ⟨i, i1, i2, i3, i4⟩ := info_u8
  refine mk_i und_bytes' i1 i2 i3 (by rw [i4]; decide) rfl rfl (by omega) ?_
  intro g τ1 g1' n1' e1'
  have hb1 := g1'.get hb
  have ne : b3 ≠ g := ne_fresh hb n1'
  refine copy_str_i und_bytes' info_u8s e1' ⟨⟨l⟩⟩ (by rw [hsz]; show l.length <= l.length + acc.length; omega) (by rw [hsz, List.length_replicate]; omega) ?_
  intro τ2 p2'
  refine if_i ⟨bnd_none, bnd_some (by omega) (by rw [hsz]; show ((l.length : Nat) : Int) <= ((l.length + acc.length : Nat) : Int); omega)⟩ ?_
  refine ptr_i (if_i ⟨bnd_none, bnd_some (by omega) (by omega)⟩ ?_)
  have hb2 := p2'.get ne hb1
  have s1 : slBase (some ⟨g, 0, none⟩) ((((⟨⟨l⟩⟩ : ByteArray).size : Nat) : Int).toNat) (l.length + acc.length) 1 = some ⟨g, l.length, none⟩ := by
   unfold slBase
   rw [hsz, Int.toNat_natCast, if_neg (by omega), Option.map_some, add_none, Nat.mul_one, Nat.zero_add]
  have s2 : slBase (some ⟨b3, 0, none⟩) ((f : Nat) : Int).toNat 10 1 = some ⟨b3, f, none⟩ := by
   unfold slBase
   rw [Int.toNat_natCast, if_neg (by omega), Option.map_some, add_none, Nat.mul_one, Nat.zero_add]
  show biW _ _ _ _ _ [.slice (slBase (some ⟨g, 0, none⟩) _ (l.length + acc.length) 1) _ _, _] _ _ _
  rw [s1, s2]
  have hl2 : ((List.replicate (l.length + acc.length) (Value.int .u8 0)).take 0 ++ (brows l).flatten ++ (List.replicate (l.length + acc.length) (Value.int .u8 0)).drop (0 + l.length)).length = l.length + acc.length := by
   rw [u8V_flat]; simp [u8V]
  refine copy_sl_i (n := 10 - f) und_bytes' info_u8s p2'.same hb2 ?_ ?_ ?_ (u8V_one _) ?_
  ·show 10 - f <= l.length + acc.length - _
   rw [hsz, Int.toNat_natCast]; omega
  ·rw [u8V_len]; simp; omega
  ·show l.length + (10 - f) <= ((List.replicate (l.length + acc.length) (Value.int .u8 0)).take 0 ++ (brows l).flatten ++ (List.replicate (l.length + acc.length) (Value.int .u8 0)).drop (0 + l.length)).length
   rw [hl2]; omega
  intro τ3 p3'
  have hc : τ3 g = some (.cells ⟨u8V (l ++ acc)⟩ 5 (0, 0)) := by
   have h3 := p3'.same
   rw [h3]
   congr 3
   show ((((List.replicate (l.length + acc.length) (Value.int .u8 0)).take 0 ++ (brows l).flatten ++ (List.replicate (l.length + acc.length) (Value.int .u8 0)).drop (0 + l.length))).take l.length ++ ((u8V (List.replicate f 0 ++ acc)).drop f).take (10 - f)) ++ (((List.replicate (l.length + acc.length) (Value.int .u8 0)).take 0 ++ (brows l).flatten ++ (List.replicate (l.length + acc.length) (Value.int .u8 0)).drop (0 + l.length))).drop (l.length + (10 - f)) = _
   have h4 : (u8V (List.replicate f 0 ++ acc)).drop f = u8V acc := by
    unfold u8V; rw [List.map_append, List.drop_left' (by simp)]
   have h5 : 10 - f = (u8V acc).length := by rw [u8V_len]; omega
   rw [u8V_flat, h4, h5, List.take_length, List.take_zero, List.nil_append]
   rw [List.take_left' (u8V_len l), List.drop_eq_nil_of_le (by simp [u8V_len]), List.append_nil]
   unfold u8V; rw [List.map_append]
  have hrow : RowsAt τ3 1 (brows (l ++ acc)) ⟨some ⟨g, 0, none⟩, l.length + acc.length, l.length + acc.length⟩ := by
   have := rows_of_cells (o := 0) (l := l ++ acc) (m := l.length + acc.length) hc (by rw [List.drop_zero, List.take_of_length_le (by rw [u8V_len]; exact Nat.le_refl _)])
   rw [List.length_append] at this; exact this
  refine bstr_i und_bytes' und_u8' und_str' hrow ?_
  have gfin : Gr σ τ3 := gr_of fun c o hc' => by
   have w0 := g1'.get (hg.get hc')
   have wn : c ≠ g := ne_fresh (hg.get hc') n1'
   exact p3'.get wn (p2'.get wn w0)
  exact ⟨by rw [hd], gfin⟩
 have key : ∀ (f m : Nat) (acc : List UInt8) (τ : H), acc.length + f = 10 -> f <= 9 -> m < 128 ^ f -> digN f m acc = putN n -> Gr σ τ -> τ b3 = some (.cells ⟨u8V (List.replicate f 0 ++ acc)⟩ 191 (0, 0)) -> R ⟨⟨l⟩⟩ ((m : Nat) : Int) (some ⟨b3, 0, none⟩) ((f : Nat) : Int) τ := by
  intro f
  induction f with
  | zero =>
   intro m acc τ ha hf9 hm hd hg hb
   have : m = 0 := by simpa using hm
   subst this
   exact fin 0 acc τ ha hf9 hd hg hb
  | succ f ih =>
   intro m acc τ ha hf9 hm hd hg hb
   unfold digN at hd
   by_cases h0 : m = 0
   ·subst h0
    rw [if_pos rfl] at hd
    exact fin (f + 1) acc τ ha hf9 hd hg hb
   rw [if_neg h0] at hd
   refine hR _ _ _ _ _ (br_t (by simp only [gt_iff_lt, decide_eq_true_eq]; omega) (if_i (by decide) ?_))
   have w1 : IntKind.i64.wrap (((f + 1 : Nat) : Int) - 1) = ((f : Nat) : Int) := by rw [wrap_id (by omega) (by omega)]; omega
   rw [w1, tm, td, u8_id (x := ((m % 128 : Nat) : Int)) (by omega) (by omega), u8_id (by omega) (by omega)]
   have hm2 : m / 128 < 128 ^ f := by rw [Nat.div_lt_iff_lt_mul (by decide)]; rw [Nat.pow_succ] at hm; exact hm
   have hb64 : ((m / 128 : Nat) : Int) < 18446744073709551616 := by
    have : 128 ^ f <= 128 ^ 8 := Nat.pow_le_pow_right (by decide) (by omega)
    have h8 : (128 : Nat) ^ 8 = 72057594037927936 := by decide
    omega
   rw [u64_id (by omega) hb64]
   refine ptr_i (if_i ⟨by omega, by omega⟩ ?_)
   have hoff : 0 + ((f : Nat) : Int).toNat * 1 = f := by simp
   rw [hoff]
   refine st_i hb sz_u8 (by rw [u8V_len]; show f + 1 <= _; simp) (one_u8 _) (.inl (Nat.le_refl _)) ?_
   intro τ1 p1
   have ec : (UInt8.ofNat (m % 128 + 128)).toNat = m % 128 + 128 := by rw [UInt8.toNat_ofNat']; exact Nat.mod_eq_of_lt (by omega)
   have hset : (u8V (List.replicate (f + 1) 0 ++ acc)).take f ++ arrL (Value.cells (.int .u8 (((m % 128 : Nat) : Int) + 128))) ++ (u8V (List.replicate (f + 1) 0 ++ acc)).drop (f + (arrL (Value.cells (.int .u8 (((m % 128 : Nat) : Int) + 128)))).length) = u8V (List.replicate f 0 ++ UInt8.ofNat (m % 128 + 128) :: acc) := by
    rw [<- u8_set, ec]; rfl
   rw [hset] at p1
   refine if_i (by decide) ?_
   exact ih (m / 128) _ τ1 (by rw [List.length_cons]; omega) (by omega) hm2 hd (hg.putF p1 (none_of (Gr.refl _) n1)) p1.same
 exact key 9 (n / 128) _ σ2 (by rfl) (by decide) (by rw [Nat.div_lt_iff_lt_mul (by decide)]; exact Nat.lt_of_lt_of_le hn (by decide)) rfl hg0 hb0
theorem sz_u64 : sizeT Tryz.prog 138 = some 1 := by kernel_rfl
theorem s_PutText (l t : List UInt8) (hl : l.length <= 1000000000) (ht : t.length <= 1000000000) {σ : H} {K : KH} (hK : K (.string ⟨⟨l ++ putT t⟩⟩) σ) : callW Tryz.prog 71 [.string ⟨⟨l⟩⟩, .string ⟨⟨t⟩⟩] K σ := by
 refine c71 _ _ ?_
 unfold g71
 have e : IntKind.u64.wrap ((((⟨⟨t⟩⟩ : ByteArray).size : Nat) : Int)) = ((t.length : Nat) : Int) := by
  show IntKind.u64.wrap ((t.length : Nat) : Int) = _
  exact u64_id (by omega) (by omega)
 rw [e]
 refine call_i (s_PutNum l t.length (by omega) hl (app_S (if_i ?_ ?_)))
 ·show (l ++ putN t.length).length + t.length <= _
  have := putN_len t.length
  rw [List.length_append]; omega
 ·rw [b_app, List.append_assoc]; exact hK
def RdAt (σ : H) (b G : Nat) (r : RdP) : Prop := ∃ x : Sl, σ b = some (.cells ⟨[.slice x.base x.len x.cap, .bool r.lost]⟩ 149 (0, 0)) /\ RowsAt σ 1 (brows r.left) x /\ x.len <= x.cap /\ ∀ g o s, x.base = some ⟨g, o, s⟩ -> g = G /\ g ≠ b /\ s = none
theorem RdAt.keep {σ σ' : H} {b G : Nat} {r : RdP} (h : RdAt σ b G r) (hk : ∀ c o, σ c = some o -> σ' c = some o) : RdAt σ' b G r := by
 obtain ⟨x, h1, h2, h3, h4⟩ := h
 exact ⟨x, hk _ _ h1, h2.keep fun g o ob _ hg => hk g ob hg, h3, h4⟩
theorem RdAt.has {σ : H} {b G : Nat} {r : RdP} (h : RdAt σ b G r) : ∃ o, σ b = some o := by obtain ⟨x, h1, _⟩ := h; exact ⟨_, h1⟩
theorem sl_base {x : Sl} {k c n : Nat} {g o : Nat} {s : Option Nat} (h : slBase x.base k c n = some ⟨g, o, s⟩) : ∃ o' s', x.base = some ⟨g, o', s'⟩ /\ (s' = none -> s = none) := by
 unfold slBase at h
 split at h
 ·exact ⟨o, s, h, id⟩
 ·cases hb : x.base with
  | none => rw [hb] at h; cases h
  | some a =>
   obtain ⟨ab, ao, as_⟩ := a
   rw [hb, Option.map_some] at h
   injection h with h
   unfold Addr.add at h
   split at h
   ·injection h with h1 h2 h3; subst h1; exact ⟨ao, as_, rfl, fun e => by rw [<- h3]; exact e⟩
   ·injection h with h1 h2 h3; subst h1; exact ⟨ao, as_, rfl, fun _ => h3.symm⟩
theorem s_wNew (l : List UInt8) (hl : l.length <= 1000000000) {σ : H} {K : KH} (hK : ∀ b G σ', Gr σ σ' -> σ b = none -> RdAt σ' b G ⟨l, false⟩ -> K (.pointer (some ⟨b, 0, none⟩)) σ') : callW Tryz.prog 80 [.string ⟨⟨l⟩⟩] K σ := by
 refine c80 _ ?_
 unfold g80
 refine sbytes_z und_str' und_bytes' und_u8' _ ?_
 intro x σ1 g1 hx hn
 refine al_i ?_; intro b σ2 g2 e2 n2
 refine hK b (match x.base with | some a => a.block | none => 0) σ2 (g1.trans g2) (none_of g1 n2) ⟨x, e2, hx.rows.gr g2, ?_, ?_⟩
 ·obtain ⟨h1, _, ⟨_, h2, h3⟩ | ⟨g, cur, fz, _, _, _, _, h4, _⟩⟩ := hx
  ·rw [h1, h3]; exact Nat.zero_le _
  ·exact h4
 ·intro g o s hb
  obtain ⟨_, _, ⟨h2, _⟩ | ⟨g', cur, fz, _, h3, h4, _⟩⟩ := hx
  ·rw [h2] at hb; cases hb
  ·rw [h3] at hb; injection hb with hb; injection hb with q1 q2 q3
   subst q1
   exact ⟨by rw [h3], fun e => (by rw [e, n2] at h4; cases h4), q3.symm⟩
theorem s_wRow (l : List UInt8) (x : Sl) (hl : l.length <= 1000000000) {σ : H} (hx : RowsAt σ 1 (brows l) x) {K : KH} (hK : K (.int .i64 ((rowW l : Nat) : Int)) σ) : callW Tryz.prog 181 [.slice x.base x.len x.cap] K σ := by
 refine c181 _ ?_
 unfold g181
 have hxl : x.len = l.length := by rw [hx.1, brows_len]
 refine loop_i ?_
 intro R hR
 have key : ∀ (r : List UInt8) (i : Nat), l.drop i = r -> rowW l = rowGo (l.headD 0).toNat i r -> R x x ((x.len : Nat) : Int) (i : Int) σ := by
  intro r
  induction r with
  | nil =>
   intro i hd he
   have hge : l.length <= i := by simpa using hd
   refine hR _ _ _ _ _ (br_f (by rw [hxl]; simp only [decide_eq_false_iff_not]; omega) ?_)
   have : rowW l = 0 := he
   rw [this] at hK; exact hK
  | cons c r ih =>
   intro i hd he
   obtain ⟨hx1, hlt, hd'⟩ := at_drop hd
   obtain ⟨g, o, q1, q2, q3⟩ := by_at hx hlt
   have hc : l.getD i 0 = c := by rw [List.getD_eq_getElem?_getD, hx1]; rfl
   rw [hc] at q3
   refine hR _ _ _ _ _ (br_t (by rw [hxl]; simp only [decide_eq_true_eq]; omega) ?_)
   rw [q1]
   refine ptr_i (if_i ⟨by omega, by omega⟩ (rd_I (by simpa using q3) ?_))
   unfold rowGo at he
   refine j_i (fun j => ∀ (b : Bool) (v1 v2 : Value), b = rowBad (l.headD 0).toNat i c -> j x (i : Int) ((c.toNat : Nat) : Int) x ((x.len : Nat) : Int) (i : Int) b v1 v2 σ) ?_ ?_
   ·intro b v1 v2 hb
    cases hbad : rowBad (l.headD 0).toNat i c with
    | true =>
     rw [hbad] at hb; subst hb
     rw [hbad, if_pos rfl] at he
     rw [he] at hK
     exact br_t rfl hK
    | false =>
     rw [hbad] at hb; subst hb
     rw [hbad, if_neg (by simp)] at he
     refine br_f rfl ?_
     rw [wrap_id (x := (i : Int) + 1) (by omega) (by omega)]
     by_cases h128 : c.toNat < 128
     ·rw [if_pos h128] at he
      rw [he] at hK
      exact br_t (by simp only [decide_eq_true_eq]; omega) hK
     ·rw [if_neg h128] at he
      exact br_f (by simp only [decide_eq_false_iff_not]; omega) (ih (i + 1) hd' he)
   intro j hj
   have ii : ∀ k : Nat, (((i : Nat) : Int) == ((k : Nat) : Int)) = (i == k) := by
    intro k; rw [Bool.eq_iff_iff, beq_iff_eq, beq_iff_eq]; omega
   have i0 : (((i : Nat) : Int) == 0) = (i == 0) := ii 0
   have i9 : (((i : Nat) : Int) == 9) = (i == 9) := ii 9
   have i10 : (((i : Nat) : Int) == 10) = (i == 10) := ii 10
   have c128 : (((c.toNat : Nat) : Int) == 128) = (c.toNat == 128) := by rw [Bool.eq_iff_iff, beq_iff_eq, beq_iff_eq]; omega
   refine j_i (fun j2 => ∀ (b : Bool) (v1 v2 : Value), b = (i == 0 && c.toNat == 128) -> j2 x (i : Int) ((c.toNat : Nat) : Int) x ((x.len : Nat) : Int) (i : Int) b v1 v2 σ) ?_ ?_
   ·intro b v1 v2 hb
    refine br_i (fun h => ?_) (fun h => ?_)
    ·refine hj _ _ _ ?_
     rw [h] at hb ⊢
     unfold rowBad; rw [<- hb]; rfl
    refine j_i (fun j3 => ∀ (b3 : Bool) (v1 v2 v3 v4 v5 v6 : Value), b3 = (i == 9 && decide ((l.headD 0).toNat > 129)) -> j3 x (i : Int) ((c.toNat : Nat) : Int) x ((x.len : Nat) : Int) (i : Int) b3 v1 v2 v3 v4 v5 v6 σ) ?_ ?_
    ·intro b3 v1 v2 v3 v4 v5 v6 hb3
     refine br_i (fun h3 => ?_) (fun h3 => ?_)
     ·refine hj _ _ _ ?_
      rw [h3] at hb3 ⊢
      unfold rowBad; rw [<- hb, <- hb3, h]; rfl
     ·refine hj _ _ _ ?_
      rw [h3] at hb3
      unfold rowBad; rw [<- hb, <- hb3, h, i10]; rfl
    intro j3 hj3
    refine br_i (fun h9 => ?_) (fun h9 => ?_)
    ·rw [i9] at h9
     have hi9 : i = 9 := by simpa using h9
     have hl0 : 0 < l.length := by omega
     obtain ⟨g', o', q1', q2', q3'⟩ := by_at hx hl0
     rw [q1] at q1'; injection q1' with q1'; injection q1' with ea eb; subst ea; subst eb
     show ptrW x.base _ σ
     rw [q1]
     refine ptr_i (if_i ⟨by decide, by omega⟩ (rd_I (by simpa using q3') ?_))
     have hh : l[0]?.getD 0 = l.headD 0 := by cases l <;> rfl
     refine hj3 _ _ _ _ _ _ _ ?_
     rw [h9, Bool.true_and, hh, decide_eq_decide]; omega
    ·rw [i9] at h9
     exact hj3 _ _ _ _ _ _ _ (by rw [h9]; rfl)
   intro j2 hj2
   refine br_i (fun h0 => ?_) (fun h0 => ?_)
   ·rw [i0] at h0
    exact hj2 _ _ _ (by rw [h0, c128]; rfl)
   ·rw [i0] at h0
    exact hj2 _ _ _ (by rw [h0]; rfl)
 exact key l 0 rfl rfl
section
variable {σ : H} {b G : Nat} {r : RdP}
theorem s_wTake (h : RdAt σ b G r) (hl : r.left.length <= 1000000000) {long : Value} {k : Nat} (hk : k <= 2000000000) (hlong : ∀ (x : Sl) (K' : KH), RowsAt σ 1 (brows r.left) x -> K' (.int .i64 ((k : Nat) : Int)) σ -> callVW Tryz.prog long [.slice x.base x.len x.cap] K' σ)
 {K : KH} (hK : ∀ (y : Sl) σ', RdAt σ' b G (r.take k).2 -> RowsAt σ' 1 (brows (r.take k).1) y -> (∀ c o, c ≠ b -> σ c = some o -> σ' c = some o) -> K (.slice y.base y.len y.cap) σ') : callW Tryz.prog 123 [.pointer (some ⟨b, 0, none⟩), long] K σ := by
 refine c123 _ _ ?_
 unfold g123
 obtain ⟨x, h1, h2, h3, h4⟩ := id h
 have hxl : x.len = r.left.length := by rw [h2.1, brows_len]
 refine br_f rfl (ptr_i (rd_L (rdC_of h1 (by rfl)) (cvalv_i (hlong x _ h2 (app_I ?_)))))
 refine j_i (fun j => ∀ bb : Bool, bb = decide (k = 0 \/ k > r.left.length) -> j (some ⟨b, 0, none⟩) ((k : Nat) : Int) bb σ) ?_ ?_
 ·intro bb hb
  by_cases hc : k = 0 \/ k > r.left.length
  ·have ht : r.take k = ([], ⟨[], true⟩) := by unfold RdP.take; rw [if_pos hc]
   rw [ht] at hK
   refine br_t (by rw [hb]; simpa using hc) (ptr_i ?_)
   refine st_i2 h1 szb_bytes (by rfl) (by rfl) ?_
   intro σ1 p1
   refine ptr_i (st_i2 p1.same sz_bool (by rfl) (by rfl) ?_)
   intro σ2 p2
   refine hK ⟨none, 0, 0⟩ σ2 ⟨⟨none, 0, 0⟩, p2.same, ⟨rfl, .inl rfl⟩, Nat.le_refl _, fun g o s e => by cases e⟩ ⟨rfl, .inl rfl⟩ fun c o hcb ho => p2.get hcb (p1.get hcb ho)
  ·have ht : r.take k = (r.left.take k, ⟨r.left.drop k, r.lost⟩) := by unfold RdP.take; rw [if_neg hc]
   rw [ht] at hK
   refine br_f (by rw [hb]; simpa using hc) (ptr_i (rd_L (rdC_of h1 (by rfl)) ?_))
   refine if_i ⟨bnd_some (by omega) (by show ((k : Nat) : Int) <= ((x.cap : Nat) : Int); omega), bnd_none⟩ (ptr_i (rd_L (rdC_of h1 (by rfl)) ?_))
   refine if_i ⟨bnd_none, bnd_some (by omega) (by show ((k : Nat) : Int) <= ((x.len : Nat) : Int); omega)⟩ (ptr_i ?_)
   refine st_i2 h1 szb_bytes (by rfl) (by rfl) ?_
   intro σ1 p1
   have hx1 : RowsAt σ1 1 (brows r.left) x := h2.keep fun g o ob hb hg => p1.get (h4 g o none hb).2.1 hg
   have s1 := hx1.sub h3 (k := 0) (e := k) (by omega) (by rw [brows_len]; omega) (x.cap - 0)
   have s2 := hx1.sub h3 (k := k) (e := x.len) (by omega) (by rw [brows_len]; omega) (x.cap - k)
   have e1 : ((brows r.left).take k).drop 0 = brows (r.left.take k) := by simp [brows, List.map_take]
   have e2 : ((brows r.left).take x.len).drop k = brows (r.left.drop k) := by
    rw [List.take_of_length_le (by rw [brows_len]; omega)]; simp [brows, List.map_drop]
   rw [e1] at s1
   rw [e2] at s2
   have ek : ((k : Nat) : Int).toNat = k := Int.toNat_natCast k
   rw [ek] at p1 ⊢
   refine hK ⟨slBase x.base 0 x.cap 1, k - 0, x.cap - 0⟩ σ1 ⟨⟨slBase x.base k x.cap 1, x.len - k, x.cap - k⟩, p1.same, s2, by show x.len - k <= x.cap - k; omega, ?_⟩ s1 fun c o hcb ho => p1.get hcb ho
   intro g o s hb
   obtain ⟨o', s', q1, q2⟩ := sl_base hb
   obtain ⟨z0, z1, z2⟩ := h4 g o' s' q1
   exact ⟨z0, z1, q2 z2⟩
 intro j hj
 refine br_i (fun h0 => ?_) (fun h0 => ?_)
 ·have h0' : k = 0 := by have := of_decide_eq_true h0; omega
  exact hj true (by simp [h0'])
 ·have h0' : k ≠ 0 := by have := of_decide_eq_false h0; omega
  refine ptr_i (rd_L (rdC_of h1 (by rfl)) (hj _ ?_))
  rw [decide_eq_decide, hxl]; omega
theorem go_wRow : isGo Tryz.prog 181 = true := by kernel_rfl
theorem go_wText1 : isGo Tryz.prog 124 = true := by kernel_rfl
theorem s_wNum (h : RdAt σ b G r) (hl : r.left.length <= 1000000000) {K : KH} (hK : ∀ σ', RdAt σ' b G r.num.2 -> (∀ c o, c ≠ b -> σ c = some o -> σ' c = some o) -> K (.int .u64 r.num.1) σ') : callW Tryz.prog 122 [.pointer (some ⟨b, 0, none⟩)] K σ := by
 refine c122 _ ?_
 unfold g122
 refine call_i (s_wTake h hl (k := rowW r.left) (by have := rowW_le r.left; omega) (fun x K' hx hk => ?_) ?_)
 ·unfold callVW
  simp only [go_wRow]
  exact s_wRow r.left x hl hx hk
 intro y σ1 hr1 hy hkeep
 refine app_L ?_
 have hyl : y.len = (r.take (rowW r.left)).1.length := by rw [hy.1, brows_len]
 have hle : (r.take (rowW r.left)).1.length <= r.left.length := by
  unfold RdP.take; split
  ·simp
  ·simp; omega
 refine loop_i ?_
 intro R hR
 generalize hL : (r.take (rowW r.left)).1 = L at *
 have key : ∀ (q : List UInt8) (i : Nat) (n : Int), L.drop i = q -> L.foldl stepV 0 = q.foldl stepV n -> R n y ((y.len : Nat) : Int) (i : Int) σ1 := by
  intro q
  induction q with
  | nil =>
   intro i n hd he
   have hge : L.length <= i := by simpa using hd
   refine hR _ _ _ _ _ (br_f (by rw [hyl]; simp only [decide_eq_false_iff_not]; omega) ?_)
   have : r.num.1 = n := by
    show numV (r.take (rowW r.left)).1 = n
    rw [hL]; exact he
   rw [<- this]
   exact hK σ1 hr1 hkeep
  | cons c q ih =>
   intro i n hd he
   obtain ⟨hx1, hlt, hd'⟩ := at_drop hd
   obtain ⟨g, o, q1, q2, q3⟩ := by_at hy hlt
   have hc : L.getD i 0 = c := by rw [List.getD_eq_getElem?_getD, hx1]; rfl
   rw [hc] at q3
   refine hR _ _ _ _ _ (br_t (by rw [hyl]; simp only [decide_eq_true_eq]; omega) ?_)
   rw [q1]
   refine ptr_i (if_i ⟨by omega, by omega⟩ (rd_I (by simpa using q3) (if_i (by decide) ?_)))
   rw [wrap_id (x := (i : Int) + 1) (by omega) (by omega)]
   exact ih (i + 1) _ hd' he
 exact key L 0 0 rfl rfl
theorem s_wText (h : RdAt σ b G r) (hl : r.left.length <= 1000000000) {K : KH} (hK : ∀ σ', RdAt σ' b G r.text.2 -> (∀ c o, c ≠ b -> σ c = some o -> σ' c = some o) -> K (.string ⟨⟨r.text.1⟩⟩) σ') : callW Tryz.prog 82 [.pointer (some ⟨b, 0, none⟩)] K σ := by
 refine c82 _ ?_
 unfold g82
 refine call_i (s_wNum h hl ?_)
 intro σ1 hr1 k1
 refine app_I ?_
 refine al_i ?_; intro b3 σ2 g2 e2 n2
 have hr2 := hr1.keep fun c o hc => g2.get hc
 refine st_i2 e2 sz_u64 (by rfl) (by rfl) ?_
 intro σ3 p3
 have nb : b ≠ b3 := by obtain ⟨o, ho⟩ := hr1.has; exact ne_fresh ho n2
 have hr3 : RdAt σ3 b G r.num.2 := hr1.keep fun c o hc => p3.get (ne_fresh hc n2) (g2.get hc)
 have k3 : ∀ c o, c ≠ b -> σ c = some o -> σ3 c = some o := fun c o hc ho => p3.get (ne_fresh (k1 c o hc ho) n2) (g2.get (k1 c o hc ho))
 have c3 : σ3 b3 = some (.cells ⟨[.int .u64 r.num.1]⟩ 138 (0, 0)) := p3.same
 refine rd_I (rdC_of c3 (by rfl)) ?_
 have hrng := numV_rng (r.take (rowW r.left)).1
 have hnl : r.num.2.left.length <= r.left.length := by
  show (r.take (rowW r.left)).2.left.length <= _
  unfold RdP.take; split
  ·simp
  ·simp
 cases h0 : r.num.1 == 0 with
 | true =>
  have ht : r.text = ([], r.num.2) := by unfold RdP.text; rw [h0]; rfl
  rw [ht] at hK
  exact br_t rfl (hK σ3 hr3 k3)
 | false =>
  have ht : r.text = r.num.2.take (min r.num.1.toNat (r.num.2.left.length + 1)) := by unfold RdP.text; rw [h0]; rfl
  rw [ht] at hK
  refine br_f rfl (call_i (s_wTake hr3 (by omega) (k := min r.num.1.toNat (r.num.2.left.length + 1)) (by omega) (fun x K' hx hk => ?_) ?_))
  ·unfold callVW
   simp only [go_wText1]
   refine c124 _ _ ?_
   unfold g124
   refine ptr_i (rd_I (rdC_of c3 (by rfl)) ?_)
   have hxl : x.len = r.num.2.left.length := by rw [hx.1, brows_len]
   have hn : 0 <= r.num.1 /\ r.num.1 < 18446744073709551616 := hrng
   rw [u64_id (x := ((x.len : Nat) : Int)) (by omega) (by omega), u64_id (by omega) (by omega)]
   have e : IntKind.i64.wrap (if ((x.len : Nat) : Int) + 1 < r.num.1 then ((x.len : Nat) : Int) + 1 else r.num.1) = ((min r.num.1.toNat (r.num.2.left.length + 1) : Nat) : Int) := by
    split
    ·rw [wrap_id (by omega) (by omega)]; omega
    ·rw [wrap_id (by omega) (by omega)]; omega
   rw [e]; exact hk
  intro y σ4 hr4 hy k4
  refine app_L (bstr_i und_bytes' und_u8' und_str' hy ?_)
  exact hK σ4 hr4 fun c o hc ho => k4 c o hc (k3 c o hc ho)
theorem s_wOK (h : RdAt σ b G r) {K : KH} (hK : K (.bool (!r.lost)) σ) : callW Tryz.prog 128 [.pointer (some ⟨b, 0, none⟩)] K σ := by
 refine c128 _ ?_
 unfold g128
 obtain ⟨x, h1, h2, h3, h4⟩ := h
 exact br_t rfl (ptr_i (rd_B (rdC_of h1 (by rfl)) hK))
theorem s_wEnd (h : RdAt σ b G r) {K : KH} (hK : K (.bool (!r.lost && r.left.isEmpty)) σ) : callW Tryz.prog 84 [.pointer (some ⟨b, 0, none⟩)] K σ := by
 refine c84 _ ?_
 unfold g84
 refine call_i (s_wOK h (app_B ?_))
 obtain ⟨x, h1, h2, h3, h4⟩ := h
 cases hlo : r.lost with
 | true => rw [hlo] at hK; exact br_f rfl hK
 | false =>
  rw [hlo] at hK
  refine br_t rfl (ptr_i (rd_L (rdC_of h1 (by rfl)) ?_))
  have : ((((x.len : Nat) : Int)) == 0) = r.left.isEmpty := by
   rw [h2.1, brows_len]; cases r.left <;> simp; omega
  rw [this]; exact hK
end
theorem RdAt.own {σ : H} {b G : Nat} {r : RdP} (h : RdAt σ b G r) (hne : r.left ≠ []) : σ G ≠ none := by
 obtain ⟨x, h1, ⟨q1, q2 | ⟨g, o, cu, t, fz', q3, q4, q5⟩⟩, h3, h4⟩ := h
 ·exact absurd (by cases hl : r.left with | nil => rfl | cons a l => rw [hl] at q2; cases q2) hne
 ·rw [<- (h4 _ _ _ q3).1, q4]; simp
theorem RdAt.keepG {σ σ' : H} {b G : Nat} {r : RdP} (h : RdAt σ b G r) (hb : ∀ o, σ b = some o -> σ' b = some o) (hG : r.left ≠ [] -> ∀ o, σ G = some o -> σ' G = some o) : RdAt σ' b G r := by
 obtain ⟨x, h1, ⟨q1, q2⟩, h3, h4⟩ := h
 refine ⟨x, hb _ h1, ⟨q1, ?_⟩, h3, h4⟩
 by_cases e : r.left = []
 ·exact .inl (by rw [e]; rfl)
 ·obtain q2 | ⟨g, o, cu, t, fz', q3, q4, q5⟩ := q2
  ·exact .inl q2
  ·refine .inr ⟨g, o, cu, t, fz', q3, ?_, q5⟩
   rw [(h4 _ _ _ q3).1] at q4 ⊢
   exact hG e _ q4
end Go.Proofs.YtgfiobhpipollaaGreatDoor

namespace Go.Wk
open Go Go.HL
mutual
def encT : Tr -> List UInt8
 | .mk _ k e d kids => putN k.toNat ++ (if k = 1 then putN (if e then 1 else 0) ++ putT d.data.toList else if k = 3 then putT d.data.toList else putN kids.length ++ encRow kids)
def encRow : List Tr -> List UInt8
 | [] => []
 | t :: r => (putT t.name.data.toList ++ encT t) ++ encRow r
end
theorem encT_eq (t : Tr) : encT t = putN t.kind.toNat ++ (if t.kind = 1 then putN (if t.exec then 1 else 0) ++ putT t.data.data.toList else if t.kind = 3 then putT t.data.data.toList else putN t.kids.length ++ encRow t.kids) := by
 obtain ⟨n, k, e, d, kids⟩ := t
 rw [encT]; rfl
def magicL : List UInt8 := [119, 104, 105, 115, 107, 45, 116, 114, 101, 101]
def encodeP (t : Tr) : List UInt8 × Int := if t.check ≠ 0 then ([], t.check) else if (putT magicL ++ encT t).length > 60000 then ([], 3) else (putT magicL ++ encT t, 0)
theorem putT_len (l : List UInt8) : (putT l).length <= 10 + l.length := by unfold putT; rw [List.length_append]; have := putN_len l.length; omega
theorem dl (s : ByteArray) : s.data.toList.length = s.size := by cases s with | mk d => simp [ByteArray.size]
theorem encRow_len : ∀ (l : List Tr), (∀ x ∈ l, (encT x).length + 10 + x.name.size <= 50 * x.total) -> (encRow l).length <= 50 * Tr.totalRow l := by
 intro l
 induction l with
 | nil => intro _; simp [encRow]
 | cons x r ih =>
  intro h
  have h1 := h x (List.mem_cons_self ..)
  have h2 := ih fun y hy => h y (List.mem_cons_of_mem _ hy)
  have h3 := putT_len x.name.data.toList
  rw [dl] at h3
  simp only [encRow, List.length_append, Tr.totalRow]
  omega
theorem encT_len : ∀ t : Tr, (encT t).length + 10 + t.name.size <= 50 * t.total := by
 refine Tr.ind ?_
 intro t ih
 have h1 := putN_len t.kind.toNat
 have h2 := putT_len t.data.data.toList
 rw [dl] at h2
 have h3 := putN_len (if t.exec then 1 else 0)
 have h4 := putN_len t.kids.length
 have h5 := encRow_len t.kids ih
 have h6 : t.total = 1 + t.name.size + t.data.size + Tr.totalRow t.kids := by obtain ⟨n, k, e, d, kids⟩ := t; rfl
 rw [encT_eq]
 split
 ·simp only [List.length_append]; omega
 ·split
  ·simp only [List.length_append]; omega
  ·simp only [List.length_append]; omega
theorem mayRow_mem : ∀ (l : List Tr) (p : Option ByteArray), Tr.mayRow p l = true -> ∀ x ∈ l, x.may = true := by
 intro l
 induction l with
 | nil => intro p _ x hx; cases hx
 | cons y r ih =>
  intro p h x hx
  rw [Tr.mayRow] at h
  simp only [Bool.and_eq_true] at h
  rcases List.mem_cons.1 hx with rfl | hx
  ·exact h.2.1
  ·exact ih _ h.2.2.2 x hx
theorem may_kind {t : Tr} (h : t.may = true) : t.kind = 1 \/ t.kind = 3 \/ t.kind = 2 := by
 obtain ⟨n, k, e, d, kids⟩ := t
 rw [Tr.may] at h
 show k = 1 \/ k = 3 \/ k = 2
 split at h
 ·exact .inl ‹_›
 ·split at h
  ·exact .inr (.inl ‹_›)
  ·split at h
   ·exact .inr (.inr ‹_›)
   ·cases h
theorem may_kid {t x : Tr} (h : t.may = true) (hx : x ∈ t.kids) : x.may = true := by
 obtain ⟨n, k, e, d, kids⟩ := t
 rw [Tr.may] at h
 have hx : x ∈ kids := hx
 split at h
 ·rw [List.isEmpty_iff] at h; rw [h] at hx; cases hx
 ·split at h
  ·simp only [Bool.and_eq_true] at h
   have := h.1; rw [List.isEmpty_iff] at this; rw [this] at hx; cases hx
  ·split at h
   ·simp only [Bool.and_eq_true] at h
    exact mayRow_mem _ _ h.2.2 x hx
   ·cases h
end Go.Wk

set_option maxRecDepth 100000
namespace Go.Proofs.YtgfiobhpipollaaGreatDoor
open Go Go.HL Go.Wk
attribute [local irreducible] ptrW ifW brW andW rdT alW letJ stW muW biW vaW imW callT cvalT app callW invW callVW sizeT oW nilF oneK loopW rfW funW begW roundK exW idxW Gr Put
theorem sz_string' : sizeT Tryz.prog 9 = some 1 := by kernel_rfl
def ClAtN (σ : H) (b : Nat) (l : List UInt8) : Prop := σ b = some (.cells ⟨[.string ⟨⟨l⟩⟩]⟩ 93 (0, 0))
def Keep (σ : H) (b : Nat) (σ' : H) : Prop := ∀ c o, c ≠ b -> σ c = some o -> σ' c = some o
theorem Keep.trans {σ σ' σ'' : H} {b : Nat} (h : Keep σ b σ') (k : Keep σ' b σ'') : Keep σ b σ'' := fun c o hc ho => k c o hc (h c o hc ho)
theorem Keep.gr {σ σ' : H} {b : Nat} (h : Gr σ σ') : Keep σ b σ' := fun c o _ ho => h.get ho
theorem Keep.put {σ σ' : H} {b : Nat} {o : Obj} (h : Put σ b o σ') : Keep σ b σ' := fun c _ hc ho => h.get hc ho
theorem tr_keepB {σ σ' : H} {b : Nat} (hb : ∀ cur ty fz, σ b = some (.cells ⟨cur⟩ ty fz) -> cur.length < 5) (hk : Keep σ b σ') : ∀ t : Tr, ∀ cs, TrAt σ t cs -> TrAt σ' t cs := by
 refine Tr.ind ?_
 intro t ih cs h
 rw [trAt_iff] at h ⊢
 obtain ⟨x, h1, h2, h3⟩ := h
 refine ⟨x, h1, h2, ?_⟩
 rcases h3 with h3 | ⟨g, o, cur, ty, fz, h3, h4, h5⟩
 ·exact .inl h3
 ·by_cases hk0 : t.kids = []
  ·exact .inl hk0
  have hgb : g ≠ b := by
   intro e
   rw [e] at h4
   have hlt := hb _ _ _ h4
   cases hks : t.kids with
   | nil => exact hk0 hks
   | cons z r =>
    rw [hks] at h5
    simp only [RowAt] at h5
    obtain ⟨w, hw, _⟩ := trAt_iff.1 h5.1
    have := congrArg List.length hw
    simp [trC] at this
    omega
  refine .inr ⟨g, o, cur, ty, fz, h3, hk g _ hgb h4, ?_⟩
  generalize cur.drop o = cs at h5
  clear h4 h3 h2 h1 hk0 hgb
  generalize t.kids = l at *
  induction l generalizing cs with
  | nil => trivial
  | cons y r ihr =>
   simp only [RowAt] at h5 ⊢
   exact ⟨ih y (List.mem_cons_self ..) _ h5.1, ihr _ (fun z hz => ih z (List.mem_cons_of_mem _ hz)) h5.2⟩
theorem sl_keepB {σ σ' : H} {b : Nat} (hb : ∀ cur ty fz, σ b = some (.cells ⟨cur⟩ ty fz) -> cur.length < 5) (hk : Keep σ b σ') {kids : List Tr} {x : Sl} (h : SlAt σ kids x) : SlAt σ' kids x := by
 have h1 := tr_keepB hb hk (.mk ⟨⟨[]⟩⟩ 0 false ⟨⟨[]⟩⟩ kids) (trC (.mk ⟨⟨[]⟩⟩ 0 false ⟨⟨[]⟩⟩ kids) x) (trAt_iff.2 ⟨x, rfl, h⟩)
 obtain ⟨x', h2, h3⟩ := trAt_iff.1 h1
 have hx : x' = x := by
  obtain ⟨xb, xl, xc⟩ := x
  obtain ⟨xb', xl', xc'⟩ := x'
  simp only [trC, List.cons.injEq, Value.slice.injEq, and_true, true_and] at h2
  obtain ⟨q1, q2, q3⟩ := h2
  subst q1; subst q2; subst q3; rfl
 rw [hx] at h3; exact h3
section
variable {σ : H} {b : Nat} {l : List UInt8} {t : Tr} {y : Sl}
theorem s_naLink (hc : ClAtN σ b l) (hl : l.length <= 500000000) (hd : t.data.size <= 100000000) {K : KH} (hK : ∀ σ', ClAtN σ' b (l ++ putT t.data.data.toList) -> Keep σ b σ' -> K (.tuple ⟨[]⟩) σ') : callW Tryz.prog 110 [.pointer (some ⟨b, 0, none⟩), .agg ⟨trC t y⟩] K σ := by
 refine c110 _ _ _ _ _ _ ?_
 unfold g110
 refine al_i ?_; intro b7 σ1 g1 e1 n1
 have hc1 := g1.get hc
 refine ptr_i (rd_S (rdC_of hc1 (by rfl)) (rd_S (rdC_of e1 (by rfl)) ?_))
 refine call_i (s_PutText l t.data.data.toList (by omega) (by rw [dl]; omega) (app_S (ptr_i ?_)))
 refine st_i2 hc1 sz_string' (by rfl) (by rfl) ?_
 intro σ2 p2
 exact hK σ2 p2.same ((Keep.gr g1).trans (Keep.put p2))
theorem s_naFile (hc : ClAtN σ b l) (hl : l.length <= 500000000) (hd : t.data.size <= 100000000) {K : KH} (hK : ∀ σ', ClAtN σ' b (l ++ (putN (if t.exec then 1 else 0) ++ putT t.data.data.toList)) -> Keep σ b σ' -> K (.tuple ⟨[]⟩) σ') : callW Tryz.prog 109 [.pointer (some ⟨b, 0, none⟩), .agg ⟨trC t y⟩] K σ := by
 refine c109 _ _ _ _ _ _ ?_
 unfold g109
 refine al_i ?_; intro b7 σ1 g1 e1 n1
 have hc1 := g1.get hc
 refine j_i (fun j => j (some ⟨b, 0, none⟩) (some ⟨b7, 0, none⟩) (((if t.exec then 1 else 0 : Nat) : Nat) : Int) σ1) ?_ ?_
 ·refine ptr_i (rd_S (rdC_of hc1 (by rfl)) (ptr_i (rd_S (rdC_of e1 (by rfl)) ?_)))
  refine call_i (s_PutNum l _ (by split <;> decide) (by omega) (app_S (and_i (rdC_of e1 (by rfl)) ?_)))
  refine call_i (s_PutText _ t.data.data.toList (by rw [List.length_append]; have := putN_len (if t.exec then 1 else 0); omega) (by rw [dl]; omega) (app_S (ptr_i ?_)))
  refine st_i2 hc1 sz_string' (by rfl) (by rfl) ?_
  intro σ2 p2
  refine hK σ2 ?_ ((Keep.gr g1).trans (Keep.put p2))
  have h3 : σ2 b = some (.cells ⟨[.string ⟨⟨(l ++ putN (if t.exec then 1 else 0)) ++ putT t.data.data.toList⟩⟩]⟩ 93 (0, 0)) := p2.same
  rw [List.append_assoc] at h3; exact h3
 ·intro j hj
  refine rd_B (rdC_of e1 (by rfl)) ?_
  cases he : t.exec with
  | true => rw [he] at hj; exact br_t rfl hj
  | false => rw [he] at hj; exact br_f rfl hj
end
theorem go_naFile : isGo Tryz.prog 109 = true := by kernel_rfl
theorem go_naLink : isGo Tryz.prog 110 = true := by kernel_rfl
theorem go_naDir : isGo Tryz.prog 111 = true := by kernel_rfl
theorem und_MIFn : Tryz.prog.underlying 139 = some (.map 3 94) := by kernel_rfl
theorem und_int' : Tryz.prog.underlying 3 = some (.int .i64) := by kernel_rfl
def mfn (b : Nat) (f : FuncId) : Value := .func (.func f) ⟨[.pointer (some ⟨b, 0, none⟩)]⟩ ⟨[]⟩
theorem cl_small {σ : H} {b : Nat} {l : List UInt8} (hc : ClAtN σ b l) : ∀ cur ty fz, σ b = some (.cells ⟨cur⟩ ty fz) -> cur.length < 5 := by
 intro cur ty fz h
 unfold ClAtN at hc
 rw [hc] at h
 injection h with h; injection h with h1 h2; injection h1 with h1
 rw [<- h1]; exact (by decide : 1 < 5)
theorem s_naNode : ∀ (t : Tr) (y : Sl) {σ : H} {b : Nat} {l : List UInt8}, ClAtN σ b l -> SlAt σ t.kids y -> t.may = true -> l.length + (encT t).length <= 500000000 -> t.total <= 10000000 -> ∀ {K : KH}, (∀ σ', ClAtN σ' b (l ++ encT t) -> Keep σ b σ' -> K (.tuple ⟨[]⟩) σ') ->
 callW Tryz.prog 72 [.pointer (some ⟨b, 0, none⟩), .agg ⟨trC t y⟩] K σ := by
 refine Tr.ind (P := fun t => ∀ (y : Sl) {σ : H} {b : Nat} {l : List UInt8}, ClAtN σ b l -> SlAt σ t.kids y -> t.may = true -> l.length + (encT t).length <= 500000000 -> t.total <= 10000000 -> ∀ {K : KH}, (∀ σ', ClAtN σ' b (l ++ encT t) -> Keep σ b σ' -> K (.tuple ⟨[]⟩) σ') -> callW Tryz.prog 72 [.pointer (some ⟨b, 0, none⟩), .agg ⟨trC t y⟩] K σ) ?_
 intro t ih y σ b l hc hs hm hl hTT K hK
 have hE := encT_eq t
 have hT := kids_total t
 have hdt : t.data.size <= t.total := by obtain ⟨n, k, e, d, kids⟩ := t; simp only [Tr.total, Tr.data]; omega
 refine c72 _ _ _ _ _ _ ?_
 unfold g72
 refine al_i ?_; intro b7 σ1 g1 e1 n1
 have hc1 : ClAtN σ1 b l := g1.get hc
 have hk0 : IntKind.u64.wrap t.kind = ((t.kind.toNat : Nat) : Int) := by
  rcases may_kind hm with h | h | h <;> rw [h] <;> rfl
 refine ptr_i (rd_S (rdC_of hc1 (by rfl)) (rd_I (rdC_of e1 (by rfl)) ?_))
 rw [hk0]
 refine call_i (s_PutNum l t.kind.toNat (by rcases may_kind hm with h | h | h <;> rw [h] <;> decide) (by omega) (app_S (ptr_i ?_)))
 refine st_i2 hc1 sz_string' (by rfl) (by rfl) ?_
 intro σ2 p2
 have hc2 : ClAtN σ2 b (l ++ putN t.kind.toNat) := p2.same
 have nb : b7 ≠ b := Ne.symm (ne_fresh hc n1)
 have e2 := p2.get nb e1
 have k2 : Keep σ b σ2 := (Keep.gr g1).trans (Keep.put p2)
 have hs2 := sl_keepB (cl_small hc) k2 hs
 refine al_i ?_; intro b15 σ3 g3 e3 n3
 have m0 : MapAt σ3 b15 (encL kkI (fun v : Value => v) []) := MapAt.new e3
 refine mu_i (kk := kkI) (f := fun v : Value => v) und_MIFn und_int' m0 1 (mfn b 109) ?_
 intro o4 σ4 p4 m4
 refine mu_i (kk := kkI) (f := fun v : Value => v) und_MIFn und_int' m4 3 (mfn b 110) ?_
 intro o5 σ5 p5 m5
 refine mu_i (kk := kkI) (f := fun v : Value => v) und_MIFn und_int' m5 2 (mfn b 111) ?_
 intro o6 σ6 p6 m6
 have nb15 : b ≠ b15 := ne_fresh hc2 n3
 have nb7 : b7 ≠ b15 := ne_fresh e2 n3
 have hc6 : ClAtN σ6 b (l ++ putN t.kind.toNat) := p6.get nb15 (p5.get nb15 (p4.get nb15 (g3.get hc2)))
 have e6 := p6.get nb7 (p5.get nb7 (p4.get nb7 (g3.get e2)))
 have g26 : Gr σ2 σ6 := gr_of fun c o hc => by
  have w : c ≠ b15 := ne_fresh hc n3
  exact p6.get w (p5.get w (p4.get w (g3.get hc)))
 have hs6 := hs2.gr g26
 have k6 : Keep σ b σ6 := k2.trans (Keep.gr g26)
 have hpl := putN_len t.kind.toNat
 refine rd_I (rdC_of e6 (by rfl)) ?_
 refine rd_G (rdM_at (kk := kkI) (f := fun v : Value => v) m6 (.nilFunc) false t.kind) ?_
 rw [encT_eq] at hK
 have agg6 : rdA 5 b7 0 σ6 = some (.agg ⟨trC t y⟩) := rdA_of' e6 (by rfl)
 rcases may_kind hm with hk | hk | hk
 ·-- a file
  have hlk : lk t.kind (up (2 : Int) (mfn b 111) (up 3 (mfn b 110) (up 1 (mfn b 109) []))) = some (mfn b 109) := by rw [hk]; rfl
  rw [hlk]
  refine app_R (rd_G agg6 ?_)
  unfold trC
  (refine app_of rfl ?_; try dsimp only)
  rw [if_pos hk] at hK hE
  have hEl := congrArg List.length hE
  simp only [List.length_append] at hEl
  refine cval_i go_naFile (s_naFile (t := t) (y := y) hc6 (by rw [List.length_append]; omega) (by omega) ?_)
  intro σ7 hc7 k7
  refine app_U (hK σ7 ?_ (k6.trans k7))
  rw [List.append_assoc] at hc7; exact hc7
 ·have hlk : lk t.kind (up (2 : Int) (mfn b 111) (up 3 (mfn b 110) (up 1 (mfn b 109) []))) = some (mfn b 110) := by rw [hk]; rfl
  rw [hlk]
  refine app_R (rd_G agg6 ?_)
  unfold trC
  (refine app_of rfl ?_; try dsimp only)
  rw [if_neg (by omega), if_pos hk] at hK hE
  have hEl := congrArg List.length hE
  simp only [List.length_append] at hEl
  refine cval_i go_naLink (s_naLink (t := t) (y := y) hc6 (by rw [List.length_append]; omega) (by omega) ?_)
  intro σ7 hc7 k7
  refine app_U (hK σ7 ?_ (k6.trans k7))
  rw [List.append_assoc] at hc7; exact hc7
 ·have hlk : lk t.kind (up (2 : Int) (mfn b 111) (up 3 (mfn b 110) (up 1 (mfn b 109) []))) = some (mfn b 111) := by rw [hk]; rfl
  rw [hlk]
  refine app_R (rd_G agg6 ?_)
  unfold trC
  (refine app_of rfl ?_; try dsimp only)
  rw [if_neg (by omega), if_neg (by omega)] at hK hE
  have hEl := congrArg List.length hE
  simp only [List.length_append] at hEl
  refine cval_i go_naDir (c111 _ _ _ _ _ _ ?_)
  unfold g111
  refine al_i ?_; intro b8 σ7 g7 e7 n7
  have hc7 : ClAtN σ7 b _ := g7.get hc6
  refine ptr_i (rd_S (rdC_of hc7 (by rfl)) (rd_L (rdC_of e7 (by rfl)) ?_))
  have hyl : y.len = t.kids.length := hs6.1
  have hu : IntKind.u64.wrap ((y.len : Nat) : Int) = ((t.kids.length : Nat) : Int) := by rw [hyl]; exact u64_id (by omega) (by omega)
  show callT _ _ [_, .int .u64 (IntKind.u64.wrap ((y.len : Nat) : Int))] _ _ _
  rw [hu]
  refine call_i (s_PutNum _ t.kids.length (by omega) (by rw [List.length_append]; omega) (app_S (ptr_i ?_)))
  refine st_i2 hc7 sz_string' (by rfl) (by rfl) ?_
  intro σ8 p8
  have hc8 : ClAtN σ8 b (l ++ putN t.kind.toNat ++ putN t.kids.length) := p8.same
  have nb8 : b8 ≠ b := Ne.symm (ne_fresh hc6 n7)
  have e8 := p8.get nb8 e7
  have k68 : Keep σ6 b σ8 := (Keep.gr g7).trans (Keep.put p8)
  have hs8 := sl_keepB (cl_small hc6) k68 hs6
  refine rd_L (rdC_of e8 (by rfl)) ?_
  refine loop_i ?_
  intro R hR
  have hlen2 := putN_len t.kids.length
  have key : ∀ (r : List Tr) (i : Nat) (acc : List UInt8) (τ : H), t.kids.drop i = r -> encRow t.kids = acc ++ encRow r -> ClAtN τ b (l ++ putN t.kind.toNat ++ putN t.kids.length ++ acc) -> Keep σ8 b τ -> R (some ⟨b, 0, none⟩) y ((y.len : Nat) : Int) (i : Int) τ := by
   intro r
   induction r with
   | nil =>
    intro i acc τ hd he hcl hkp
    have hge : t.kids.length <= i := by simpa using hd
    refine hR _ _ _ _ _ (br_f (by rw [hyl]; simp only [decide_eq_false_iff_not]; omega) ?_)
    refine app_U (hK τ ?_ ((k6.trans k68).trans hkp))
    have : encRow t.kids = acc := by rw [he]; simp [encRow]
    rw [this]
    simp only [List.append_assoc] at hcl ⊢
    exact hcl
   | cons x r ihr =>
    intro i acc τ hd he hcl hkp
    obtain ⟨hx, hlt, hd'⟩ := drop_get hd
    have hsτ := sl_keepB (cl_small hc8) hkp hs8
    obtain ⟨g, o, z, hb, hrd, hz⟩ := kid_rd hsτ hx
    have hmem := List.mem_of_getElem? hx
    have hxT := kid_total hx
    have htr : Tr.totalRow t.kids + 1 <= t.total := by obtain ⟨n, k, e, d, kids⟩ := t; simp only [Tr.total, Tr.kids]; omega
    refine hR _ _ _ _ _ (br_t (by rw [hyl]; simp only [decide_eq_true_eq]; omega) ?_)
    rw [hb]
    refine ptr_i (if_i ⟨by omega, by rw [hyl]; omega⟩ ?_)
    have hrd' : rdA 5 g (o + (i : Int).toNat * 5) τ = some (.agg ⟨trC x z⟩) := by simpa using hrd
    refine rd_G hrd' ?_
    unfold trC
    (refine app_of rfl ?_; try dsimp only)
    refine al_i ?_; intro b28 τ1 g28 e28 n28
    refine st_i2 e28 sz_Node (by rfl) (by rfl) ?_
    intro τ2 p28
    have q28 : τ2 b28 = some (.cells ⟨trC x z⟩ 75 (0, 0)) := p28.same
    have gτ2 : Gr τ τ2 := g28.putF p28 n28
    have hc9 : ClAtN τ2 b _ := gτ2.get hcl
    have nb28 : b28 ≠ b := Ne.symm (ne_fresh hcl n28)
    have hxd : x.name.size <= x.total := by obtain ⟨n, k, e, d, kids⟩ := x; simp only [Tr.total, Tr.name]; omega
    have hrl := congrArg List.length he
    rw [encRow] at hrl
    simp only [List.length_append] at hrl
    refine ptr_i (rd_S (rdC_of hc9 (by rfl)) (rd_S (rdC_of q28 (by rfl)) ?_))
    refine call_i (s_PutText _ x.name.data.toList (by simp only [List.length_append]; omega) (by rw [dl]; omega) (app_S (ptr_i ?_)))
    refine st_i2 hc9 sz_string' (by rfl) (by rfl) ?_
    intro τ3 p3
    have hc10 : ClAtN τ3 b (l ++ putN t.kind.toNat ++ putN t.kids.length ++ acc ++ putT x.name.data.toList) := p3.same
    have q29 := p3.get nb28 q28
    have kτ3 : Keep τ b τ3 := (Keep.gr gτ2).trans (Keep.put p3)
    have hz3 := sl_keepB (cl_small hcl) kτ3 hz
    refine rd_G (rdA_of' q29 (by rfl)) ?_
    unfold trC
    (refine app_of rfl ?_; try dsimp only)
    have hpt := putT_len x.name.data.toList
    rw [dl] at hpt
    have hel := encT_len x
    refine call_i (ih x hmem z hc10 hz3 (may_kid hm hmem) (by simp only [List.length_append]; omega) (by omega) ?_)
    intro τ4 hc11 k11
    refine app_U ?_
    rw [wrap_id (x := (i : Int) + 1) (by omega) (by omega)]
    refine ihr (i + 1) (acc ++ (putT x.name.data.toList ++ encT x)) τ4 hd' (by rw [he, encRow]; simp only [List.append_assoc]) ?_ ((hkp.trans kτ3).trans k11)
    simp only [List.append_assoc] at hc11 ⊢
    exact hc11
  exact key t.kids 0 [] σ8 rfl rfl (by rw [List.append_nil]; exact hc8) (fun _ _ _ h => h)
theorem s_naEnc (t : Tr) (y : Sl) {σ : H} (hs : SlAt σ t.kids y) (hT : t.total <= 9000000) {K : KH} (hK : K (.tuple ⟨[.string ⟨⟨(encodeP t).1⟩⟩, .int .i64 (encodeP t).2]⟩) σ) : callW Tryz.prog 41 [.agg ⟨trC t y⟩] K σ := by
 refine pure_i _ hK (c41 _ _ _ _ _ ?_)
 clear hK
 unfold g41
 refine al_i ?_; intro b6 σ1 g1 e1 n1
 have hs1 := hs.gr g1
 refine rd_G (rdA_of' e1 (by rfl)) ?_
 (refine app_of rfl ?_; try dsimp only)
 refine call_i (s_Check t y hs1 (by omega) (app_I ?_))
 unfold encodeP
 by_cases hc : t.check = 0
 case neg =>
  rw [if_pos hc]
  exact br_t (by simpa using hc) ⟨rfl, g1⟩
 rw [if_neg (by simpa using hc)]
 refine br_f (by simp [hc]) ?_
 refine call_i (s_PutText [] magicL (by decide) (by decide) (app_S ?_))
 refine al_i ?_; intro b14 σ2 g2 e2 n2
 have hm : t.may = true := by
  unfold Tr.check at hc
  split at hc
  ·cases hc
  ·split at hc
   ·cases hc
   ·rename_i h
    cases hmy : t.may with
    | true => rfl
    | false => exact absurd (.inr hmy) h
 have hc2 : ClAtN σ2 b14 (putT magicL) := e2
 refine rd_G (rdA_of' (g2.get e1) (by rfl)) ?_
 (refine app_of rfl ?_; try dsimp only)
 have hel := encT_len t
 have hml : (putT magicL).length = 11 := by decide +kernel
 refine call_i (s_naNode t y hc2 (hs1.gr g2) hm (by omega) (by omega) ?_)
 intro σ3 hc3 k3
 refine app_U (rd_S (rdC_of hc3 (by rfl)) ?_)
 have g13 : Gr σ σ3 := gr_of fun c o hc => k3 c o (ne_fresh (g1.get hc) n2) (g2.get (g1.get hc))
 by_cases hb : (putT magicL ++ encT t).length > 60000
 ·rw [if_pos hb]
  exact br_t (by show decide (((((putT magicL ++ encT t).length : Nat) : Int)) > 60000) = true; simp only [gt_iff_lt, decide_eq_true_eq]; omega) ⟨rfl, g13⟩
 ·rw [if_neg hb]
  exact br_f (by show decide (((((putT magicL ++ encT t).length : Nat) : Int)) > 60000) = false; simp only [gt_iff_lt, decide_eq_false_iff_not]; omega) (rd_S (rdC_of hc3 (by rfl)) ⟨rfl, g13⟩)
end Go.Proofs.YtgfiobhpipollaaGreatDoor

namespace Go.HL
open Go
def chain1 (v : Value) : List PanicEntry := [{ v, recovered := false }]
def callX (P : Program) (f : FuncId) (args : List Value) (K X : Value -> H -> Prop) (σ : H) : Prop :=
 ∀ w, σ.le w -> CallsIn Fence.wide 0 P f args.toArray w fun e w' => (∃ v, e = .returned v /\ ∃ σ', Ext σ w σ' w' /\ K v σ') \/ (∃ v, e = .panicked (chain1 v) /\ ∃ σ', Ext σ w σ' w' /\ X v σ')
theorem callX.ret {P : Program} {f : FuncId} {args : List Value} {K X : Value -> H -> Prop} {σ : H} (h : callX P f args K (fun _ _ => False) σ) : callW P f args K σ := by
 intro w hw
 refine (h w hw).mono fun e w' h => ?_
 rcases h with h | ⟨v, he, σ', hx', hk'⟩
 ·exact h
 ·exact hk'.elim
def elemB (g : Nat) : List Nat -> Bool
 | [] => false
 | x :: r => match Nat.beq x g with
  | true => true
  | false => elemB g r
def callVP (P : Program) (pan : List Nat) (fv : Value) (vs : List Value) (G X : Value -> H -> Prop) (σ : H) : Prop :=
 match fv with
 | .func (.func g) ⟨as0⟩ ⟨cs⟩ => match elemB g pan with
  | true => match isGo P g with
   | true => callX P g (as0 ++ vs ++ cs) G X σ
   | false => False
  | false => callVW P (.func (.func g) ⟨as0⟩ ⟨cs⟩) vs G σ
 | _ => False
def panW (X : Value -> H -> Prop) (v : Value) (σ : H) : Prop :=
 match v with
 | .iface _ _ => X v σ
 | _ => False
def efX (P : Program) (pan : List Nat) (e : Env) (G : Value -> H -> Prop) (X : Env -> Value -> H -> Prop) (o : Oper) (σ : H) : Prop :=
 match o.op with
 | .call { callee := .value f, args := ⟨xs⟩, argTypes := _ } => match evO e f, evL e xs with
  | some fv, some vs => callVP P pan fv vs G (X e) σ
  | _, _ => False
 | .panic x => match evO e x with
  | some v => panW (X e) v σ
  | none => False
 | _ => efF P e G o σ
def rgX (P : Program) (τ : TypeId -> TK) (N : Nat) (pan : List Nat) (X : Env -> Value -> H -> Prop) (ops : List Oper) : List Nat -> Env -> (Env -> H -> Prop) -> H -> Prop
 | [], e, K, σ => K e σ
 | i :: l, e, K, σ => match ops[i]? with
  | none => False
  | some o => match plainOp o.op && dstOk N o.dst with
   | false => False
   | true => guardF ops e o.guard
    (fun e σ => match clsOf P o.op with
     | 0 => silF P e (fun v => rgX P τ N pan X ops l (e.put o.dst v) K) o.op σ
     | 1 => rdOp P e (fun r => rdT r (τ o.type) ((τ o.type).lam fun v => rgX P τ N pan X ops l (e.put o.dst v) K)) o.op σ
     | 2 => alF P e (fun obj mk => alW obj fun b => rgX P τ N pan X ops l (e.put o.dst (mk b)) K) o.op σ
     | _ => efX P pan e (app (tyO τ o) ((tyO τ o).lam fun v => rgX P τ N pan X ops l (e.put o.dst v) K)) X o σ)
    (fun e => rgX P τ N pan X ops l (e.put o.dst undef) K) σ

def reachX (P : Program) (R RX : Value -> World -> Prop) : Result Next -> Prop
 | .ok (.value v) w => R v w
 | .ok .skip w => R undef w
 | .ok (.enter f args) w => CallsIn Fence.wide 0 P f args w fun e w' => (∃ v, e = .returned v /\ R v w') \/ (∃ v, e = .panicked (chain1 v) /\ RX v w')
 | .ok (.round l f tmps assign body) w => RoundIn Fence.wide 0 P l f tmps assign body w fun e w' => ∃ v, e = .returned v /\ R v w'
 | .halt (.panic v) w => RX v w
 | _ => False
theorem reachX.of {P : Program} {R RX : Value -> World -> Prop} {x : Result Next} (h : reach P R x) : reachX P R RX x := by
 unfold reach at h
 unfold reachX
 split at h
 ·exact h
 ·exact h
 ·exact h.mono fun e w' h => .inl h
 ·exact h
 ·exact h.elim
theorem uponX {P : Program} {o : Oper} {a : Act} {next : Act -> World -> Prop} {Q : Exit -> Act -> World -> Prop} {x : Result Next}
 (h : reachX P (fun v w => next (a.put o.dst v) w) (fun v w => Q (.panic (chain1 v)) a w) x) : o.uponIn Fence.wide 0 P a next Q x := by
 unfold reachX at h
 split at h
 ·exact h
 ·exact h
 ·refine ⟨(fun h => by cases h), ?_⟩
  refine CallsIn.mono h fun e w' hh => ?_
  rcases hh with ⟨v, he, hv⟩ | ⟨v, he, hv⟩
  ·subst he; exact hv
  ·subst he; exact hv
 ·refine ⟨(fun h => by cases h), ?_⟩
  refine RoundIn.mono h fun e w' ⟨v, he, hv⟩ => ?_
  subst he; exact hv
 ·exact h
 ·exact h.elim

section
variable {P : Program} {τ : TypeId -> TK} {N : Nat} {pan : List Nat} {X : Env -> Value -> H -> Prop}
theorem efX_sound {e : Env} {a : Act} (fr : FR N e a) {o : Oper} {G : Value -> H -> Prop} {σ : H} (h : efX P pan e G X o σ) {w : World} (hw : σ.le w) :
 reachX P (fun v w' => ∃ σ', Ext σ w σ' w' /\ G v σ') (fun v w' => ∃ σ', Ext σ w σ' w' /\ X e v σ') ((execOp a.eval o).run P w) := by
 unfold efX at h
 split at h
 ·rename_i f xs ats hop
  split at h
  ·rename_i fv vs hf hv
   have hex : execOp a.eval o = callS fv vs := by
    obtain ⟨dst, op, type, pos, after, guard⟩ := o
    simp only at hop; subst hop
    simp only [execOp, resolve, callS, map_mk, fr.evO hf, fr.evL hv]
   rw [hex]
   unfold callVP at h
   split at h
   ·rename_i g as0 cs
    split at h
    ·split at h
     ·rename_i hg
      have hr : (callS (.func (.func g) ⟨as0⟩ ⟨cs⟩) vs).run P w = .ok (.enter g (as0 ++ vs ++ cs).toArray) w := by
       simp only [callS, Deferred.ofValue, Sem.run_bind, Sem.run_pure, Result.andThen_ok, invoke]
       rw [callFunc_go hg]
       simp
      rw [hr]
      exact (h w hw).mono fun e w' h => h.imp (fun ⟨v, he, r⟩ => ⟨v, he, r⟩) (fun ⟨v, he, r⟩ => ⟨v, he, r⟩)
     ·exact h.elim
    ·exact reachX.of (callVW_inv h w hw)
   ·exact h.elim
  ·exact h.elim
 ·rename_i x hop
  split at h
  ·rename_i v hv
   unfold panW at h
   split at h
   ·rename_i t u
    have hex : (execOp a.eval o).run P w = .halt (.panic (.iface t u)) w := by
     obtain ⟨dst, op, type, pos, after, guard⟩ := o
     simp only at hop; subst hop
     simp [execOp, fr.evO hv, Instr.panic, goPanic]
     try rfl
    rw [hex]
    exact ⟨σ, Ext.refl hw, h⟩
   ·exact h.elim
  ·exact h.elim
 ·exact reachX.of (efF_sound fr h w hw)
theorem rgX_tail {ops : Array Oper} {Q : Exit -> Act -> World -> Prop} {K : Env -> H -> Prop} (tail : List Nat) : ∀ (l : List Nat) {e : Env} {a : Act} {σ : H} {w : World}, FR N e a -> σ.le w -> rgX P τ N pan X ops.toList l e K σ ->
 (∀ e' a' σ' w', FR N e' a' -> a'.defers = a.defers -> Ext σ w σ' w' -> K e' σ' -> wpOpsIn Fence.wide 0 P ops Q tail a' w') -> (∀ e' v a' σ' w', FR N e' a' -> a'.defers = a.defers -> Ext σ w σ' w' -> X e' v σ' -> Q (.panic (chain1 v)) a' w') ->
 wpOpsIn Fence.wide 0 P ops Q (l ++ tail) a w := by
 intro l
 induction l with
 | nil => intro e a σ w fr hw h hq _; exact hq e a σ w fr rfl (Ext.refl hw) h
 | cons i l ih =>
  intro e a σ w fr hw h hq hx
  simp only [rgX] at h
  rw [List.cons_append]
  simp only [wpOpsIn]
  split at h
  ·exact h.elim
  ·rename_i o ho
   have ho' : ops[i]? = some o := by simpa using ho
   simp only [ho']
   split at h
   ·exact h.elim
   ·rename_i hp
    simp only [Bool.and_eq_true] at hp
    obtain ⟨hp, hd⟩ := hp
    have go : ∀ {e' : Env} {v : Value} {σ' : H} {w' : World}, FR N (e'.put o.dst v) (a.put o.dst v) -> Ext σ w σ' w' -> rgX P τ N pan X ops.toList l (e'.put o.dst v) K σ' -> wpOpsIn Fence.wide 0 P ops Q (l ++ tail) (a.put o.dst v) w' := by
     intro e' v σ' w' fr' he hr
     refine ih fr' he.le hr (fun e2 a2 σ2 w2 f2 d2 x2 k2 => hq e2 a2 σ2 w2 f2 (d2.trans (put_defers a o.dst v)) (he.trans x2) k2) (fun e2 v2 a2 σ2 w2 f2 d2 x2 k2 => hx e2 v2 a2 σ2 w2 f2 (d2.trans (put_defers a o.dst v)) (he.trans x2) k2)
    obtain ⟨e', fr', h | h⟩ := guardF_sound fr h
    ·obtain ⟨hwd, h⟩ := h
     rw [if_pos hwd]
     refine ⟨fun _ _ => trivial, ?_⟩
     have hs : (o.semAt Fence.wide.round a.eval) = execOp a.eval o := rfl
     rw [hs]
     split at h
     ·obtain ⟨v, hv, h⟩ := silF_sound fr' h
      rw [hv w]
      exact go (fr'.put hd v) (Ext.refl hw) h
     ·obtain ⟨r, hr, v, hrv, h⟩ := rdOp_sound fr' h
      have h := app_lam h
      rw [hr σ v hrv w hw]
      exact go (fr'.put hd v) (Ext.refl hw) h
     ·obtain ⟨obj, mk, hal, h⟩ := alF_sound fr' h
      rw [hal w]
      obtain ⟨hn', he⟩ := Ext.alloc hw obj
      exact go (fr'.put hd _) he (h _ hn')
     ·refine uponX ?_
      have hr := efX_sound fr' h hw
      have mono : ∀ {x : Result Next} {R R' RX RX' : Value -> World -> Prop}, (∀ v w, R v w -> R' v w) -> (∀ v w, RX v w -> RX' v w) -> reachX P R RX x -> reachX P R' RX' x := by
       intro x R R' RX RX' h1 h2 h
       unfold reachX at h ⊢
       split at h
       ·exact h1 _ _ h
       ·exact h1 _ _ h
       ·exact CallsIn.mono h fun e w h => h.imp (fun ⟨v, q, r⟩ => ⟨v, q, h1 _ _ r⟩) (fun ⟨v, q, r⟩ => ⟨v, q, h2 _ _ r⟩)
       ·exact RoundIn.mono h fun e w ⟨v, q, r⟩ => ⟨v, q, h1 _ _ r⟩
       ·exact h2 _ _ h
       ·exact h.elim
      refine mono (fun v w' ⟨σ', he, hk⟩ => ?_) (fun v w' ⟨σ', he, hk⟩ => ?_) hr
      ·exact go (fr'.put hd v) he (app_lam hk)
      ·exact hx e' v a σ' w' fr' rfl he hk
    ·obtain ⟨hwd, h⟩ := h
     rw [if_neg (by rw [hwd]; simp)]
     exact ⟨fun _ _ => trivial, go (fr'.put hd undef) (Ext.refl hw) h⟩
theorem rgX_sound {ops : Array Oper} {Q : Exit -> Act -> World -> Prop} {K : Env -> H -> Prop} (l : List Nat) {e : Env} {a : Act} {σ : H} {w : World} (fr : FR N e a) (hw : σ.le w) (h : rgX P τ N pan X ops.toList l e K σ)
 (hq : ∀ e' a' σ' w', FR N e' a' -> a'.defers = a.defers -> Ext σ w σ' w' -> K e' σ' -> Q .normal a' w') (hx : ∀ e' v a' σ' w', FR N e' a' -> a'.defers = a.defers -> Ext σ w σ' w' -> X e' v σ' -> Q (.panic (chain1 v)) a' w') :
 wpOpsIn Fence.wide 0 P ops Q l a w := by
 have := rgX_tail (Q := Q) [] l fr hw h hq hx
 rwa [List.append_nil] at this
end

def DX (P : Program) (τ : TypeId -> TK) (N : Nat) (pan : List Nat) (X : Env -> Value -> H -> Prop) : Code -> Ann -> Env -> (Env -> H -> Prop) -> (Nat -> Env -> H -> Prop) -> (Env -> H -> Prop) -> H -> Prop
 | .skip, _, e, Kn, _, _, σ => Kn e σ
 | .label _, _, e, Kn, _, _, σ => Kn e σ
 | .exit i, _, e, _, Kx, _, σ => Kx i e σ
 | .scope x, an, e, Kn, Kx, Kr, σ => match an with
  | .blk a => DX P τ N pan X x a e Kn Kx Kr σ
  | _ => False
 | .ret, _, e, _, _, Kr, σ => Kr e σ
 | .seq x y, an, e, Kn, Kx, Kr, σ => match an with
  | .seq none a b => DX P τ N pan X x a e (fun e' => DX P τ N pan X y b e' Kn Kx Kr) Kx Kr σ
  | .seq (some l) a b => letJ (l.lam fun e' => DX P τ N pan X y b e' Kn Kx Kr) (fun j => DX P τ N pan X x a e (fun e' => l.app j e') Kx Kr) σ
  | _ => False
 | .cond c x y, an, e, Kn, Kx, Kr, σ => match an, evO e c with
  | .cond a b, some (.bool t) => brW t (DX P τ N pan X x a e Kn Kx Kr) (DX P τ N pan X y b e Kn Kx Kr) σ
  | _, _ => False
 | .block id x, an, e, Kn, Kx, Kr, σ => match an with
  | .blk a => DX P τ N pan X x a e Kn (fun i e' σ => match Nat.beq i id with | true => Kn e' σ | false => Kx i e' σ) Kr σ
  | _ => False
 | .loop x, an, e, _, Kx, Kr, σ => match an with
  | .loop l a => loopW l.ks (fun R => l.lam fun e' => DX P τ N pan X x a e' (fun e'' => l.app R e'') Kx Kr) (fun R => l.app R e) σ
  | _ => False
 | .region _ ops draw, an, e, Kn, _, _, σ => match an, draw with
  | .reg π AL, true => match drawOk ops (clI P ops.toList) AL π with
   | true => rgF P τ N ops.toList (ancOf AL) π [] e (fun _ => Kn) σ
   | false => False
  | .reg _ _, false => rgX P τ N pan X ops.toList (List.range ops.size) e Kn σ
  | .reg2 p i m1 j m2 AL, true => match draw2Ok ops (clI P ops.toList) AL p i m1 j m2 with
   | true => rgF P τ N ops.toList (ancOf AL) p [] e (fun q e' => bothW (rgF P τ N ops.toList (ancOf AL) (i :: m1) q e' (fun _ => Kn)) (rgF P τ N ops.toList (ancOf AL) (j :: m2) q e' (fun _ => Kn))) σ
   | false => False
  | _, _ => False
 | _, _, _, _, _, _, _ => False

def PostX (N : Nat) (σ0 : H) (w0 : World) (ds : List Deferred) (Kn : Env -> H -> Prop) (Kx : Nat -> Env -> H -> Prop) (Kr : Env -> H -> Prop) (X : Env -> Value -> H -> Prop) : Exit -> Act -> World -> Prop
 | .normal, a, w => ∃ e σ, FR N e a /\ Ext σ0 w0 σ w /\ a.defers = ds /\ Kn e σ
 | .exit i, a, w => ∃ e σ, FR N e a /\ Ext σ0 w0 σ w /\ a.defers = ds /\ Kx i e σ
 | .ret, a, w => ∃ e σ, FR N e a /\ Ext σ0 w0 σ w /\ a.defers = ds /\ Kr e σ
 | .panic ch, a, w => ∃ e v σ, ch = chain1 v /\ FR N e a /\ Ext σ0 w0 σ w /\ a.defers = ds /\ X e v σ
 | _, _, _ => False
theorem PostX.pre {N : Nat} {σ0 σ1 : H} {w0 w1 : World} {ds : List Deferred} {Kn : Env -> H -> Prop} {Kx : Nat -> Env -> H -> Prop} {Kr : Env -> H -> Prop} {X : Env -> Value -> H -> Prop} (he : Ext σ0 w0 σ1 w1) {x : Exit} {a : Act} {w : World} (h : PostX N σ1 w1 ds Kn Kx Kr X x a w) : PostX N σ0 w0 ds Kn Kx Kr X x a w := by
 cases x with
 | normal => obtain ⟨e, σ, h1, h2, h3⟩ := h; exact ⟨e, σ, h1, he.trans h2, h3⟩
 | exit i => obtain ⟨e, σ, h1, h2, h3⟩ := h; exact ⟨e, σ, h1, he.trans h2, h3⟩
 | ret => obtain ⟨e, σ, h1, h2, h3⟩ := h; exact ⟨e, σ, h1, he.trans h2, h3⟩
 | goto l => exact h.elim
 | panic c => obtain ⟨e, v, σ, h0, h1, h2, h3⟩ := h; exact ⟨e, v, σ, h0, h1, he.trans h2, h3⟩
 | outgrown => exact h.elim
section
variable {P : Program} {τ : TypeId -> TK} {N : Nat} {pan : List Nat} {X : Env -> Value -> H -> Prop}
theorem DX_sound (hm : P.follows .mixedOrders = true) (c : Code) : ∀ (an : Ann) {e : Env} {Kn : Env -> H -> Prop} {Kx : Nat -> Env -> H -> Prop} {Kr : Env -> H -> Prop} {σ : H}, DX P τ N pan X c an e Kn Kx Kr σ -> ∀ (a : Act) (w : World), FR N e a -> σ.le w ->
 c.wpIn Fence.wide 0 P (PostX N σ w a.defers Kn Kx Kr X) a w := by
 induction c with
 | skip => intro an e Kn Kx Kr σ h a w fr hw; exact wpIn_skip ⟨e, σ, fr, Ext.refl hw, rfl, h⟩
 | label l => intro an e Kn Kx Kr σ h a w fr hw; exact wpIn_label ⟨e, σ, fr, Ext.refl hw, rfl, h⟩
 | exit i => intro an e Kn Kx Kr σ h a w fr hw; exact wpIn_exit ⟨e, σ, fr, Ext.refl hw, rfl, h⟩
 | ret => intro an e Kn Kx Kr σ h a w fr hw; exact wpIn_ret ⟨e, σ, fr, Ext.refl hw, rfl, h⟩
 | goto l => intro an e Kn Kx Kr σ h; exact h.elim
 | refuse w => intro an e Kn Kx Kr σ h; exact h.elim
 | rangeFunc f ps asg body iha ihb => intro an e Kn Kx Kr σ h; exact h.elim
 | scope b ih =>
  intro an e Kn Kx Kr σ h a w fr hw
  cases an with
  | blk an => exact wpIn_scope (fun l a w h => h) (ih an h a w fr hw)
  | _ => exact h.elim
 | seq x y ihx ihy =>
  intro an e Kn Kx Kr σ h a w fr hw
  simp only [DX] at h
  split at h
  ·rename_i ax ay
   refine wpIn_seq (wpIn_mono (ihx _ h a w fr hw) fun ex a' w' hp => ?_)
   cases ex with
   | normal =>
    obtain ⟨e', σ', fr', he, hd', h'⟩ := hp
    rw [<- hd']
    exact wpIn_mono (ihy _ h' a' w' fr' he.le) fun _ _ _ => PostX.pre he
   | exit i => exact hp
   | ret => exact hp
   | goto l => exact hp.elim
   | panic c => exact hp
   | outgrown => exact hp.elim
  ·rename_i l ax ay
   refine wpIn_seq (wpIn_mono (ihx _ h a w fr hw) fun ex a' w' hp => ?_)
   cases ex with
   | normal =>
    obtain ⟨e', σ', fr', he, hd', h'⟩ := hp
    obtain ⟨vs, hs, h'⟩ := Live.app_lam h'
    rw [<- hd']
    exact wpIn_mono (ihy _ h' a' w' (fr'.sel hs) he.le) fun _ _ _ => PostX.pre he
   | exit i => exact hp
   | ret => exact hp
   | goto l => exact hp.elim
   | panic c => exact hp
   | outgrown => exact hp.elim
  ·exact h.elim
 | cond c x y ihx ihy =>
  intro an e Kn Kx Kr σ h a w fr hw
  simp only [DX] at h
  split at h
  ·rename_i ax ay t ht
   cases t with
   | true => exact wpIn_cond_true (fr.evO ht) (ihx _ h a w fr hw)
   | false => exact wpIn_cond_false (fr.evO ht) (ihy _ h a w fr hw)
  ·exact h.elim
 | block id x ih =>
  intro an e Kn Kx Kr σ h a w fr hw
  simp only [DX] at h
  split at h
  ·refine wpIn_block (wpIn_mono (ih _ h a w fr hw) fun ex a' w' hp => ?_)
   cases ex with
   | normal => exact hp
   | exit i =>
    obtain ⟨e', σ', fr', he, hd', h'⟩ := hp
    simp only [Exit.inBlock]
    split at h'
    ·rename_i hb
     rw [if_pos (Nat.eq_of_beq_eq_true hb)]; exact ⟨e', σ', fr', he, hd', h'⟩
    ·rename_i hb
     rw [if_neg (Nat.ne_of_beq_eq_false hb)]; exact ⟨e', σ', fr', he, hd', h'⟩
   | ret => exact hp
   | goto l => exact hp.elim
   | panic c => exact hp
   | outgrown => exact hp.elim
  ·exact h.elim
 | loop x ih =>
  intro an e Kn Kx Kr σ h a w fr hw
  simp only [DX] at h
  split at h
  ·rename_i l ax
   generalize hds : a.defers = ds
   have h1 := h (lamC l.ks fun vs σ' => ∀ a w, FR N (l.zip vs) a -> a.defers = ds -> σ'.le w -> LoopIn Fence.wide 0 P x (PostX N σ' w ds Kn Kx Kr X) a w) (leC_lam _ fun vs σ' hD a w fr hde hw => ?_)
   ·obtain ⟨vs, g, hs, hg, h1⟩ := Live.app_get h1
    rw [prjC_lamC _ _ _ _ hg] at h1
    exact wpIn_loopIn (h1 a w (fr.sel hs) hds hw)
   ·refine loopIn_round (wpIn_mono (ih _ hD a w fr hw) fun ex a' w' hp => ?_)
    rw [hde] at hp
    cases ex with
    | normal =>
     obtain ⟨e', σ'', fr', he, hd', h'⟩ := hp
     obtain ⟨vs', g, hs, hg, h'⟩ := Live.app_get h'
     rw [prjC_lamC _ _ _ _ hg] at h'
     intro b k cs hro hb hr
     obtain ⟨e2, a2, w2, hq, harr⟩ := h' a' w' (fr'.sel hs) hd' he.le b k cs hro hb hr
     exact ⟨e2, a2, w2, PostX.pre he hq, harr⟩
    | exit i => exact hp
    | ret => exact hp
    | goto l => exact hp.elim
    | panic c => exact hp
    | outgrown => exact hp.elim
  ·exact h.elim
 | region id ops draw =>
  intro an e Kn Kx Kr σ h a w fr hw
  simp only [DX] at h
  split at h
  ·rename_i π AL
   split at h
   ·rename_i hok
    refine draw_sound (ro := none) (fun _ _ _ _ hs ⟨q', e', hpr, h⟩ => ⟨q', e', hpr.mono hs, h⟩) hm hok hw (rgF_sound (p := []) _ (fun y hy => by simp at hy) fr h) fun p' a' σ' w' he ⟨q', e', _, fr', hde, hk⟩ => ?_
    exact ⟨e', σ', fr', he, hde, hk⟩
   ·exact h.elim
  ·exact wpIn_region (rgX_sound _ fr hw h (fun e' a' σ' w' fr' hd he hk => ⟨e', σ', fr', he, hd, hk⟩) (fun e' v a' σ' w' fr' hd he hk => ⟨e', v, σ', rfl, fr', he, hd, hk⟩))
  ·rename_i p i m1 j m2 AL
   split at h
   ·rename_i hok
    have h0 := rgF_sound (p := []) _ (fun y hy => by simp at hy) fr h
    have h1 := SRunD.mono (K' := fun q a1 σ1 => SRunD P ops (clI P ops.toList) (ancOf AL) q (i :: m1) a1 (fun p' a' σ' => ∃ q' e', PR P q' p' /\ FR N e' a' /\ a'.defers = a.defers /\ Kn e' σ') σ1 /\ SRunD P ops (clI P ops.toList) (ancOf AL) q (j :: m2) a1 (fun p' a' σ' => ∃ q' e', PR P q' p' /\ FR N e' a' /\ a'.defers = a.defers /\ Kn e' σ') σ1)
     (fun q a1 σ1 ⟨q', e', hpr, fr', hde, hb⟩ => ⟨by rw [<- hde]; exact rgF_sound _ hpr fr' hb.1, by rw [<- hde]; exact rgF_sound _ hpr fr' hb.2⟩) p (Fin.of_le hw) h0
    refine draw2_sound (ro := none) (fun _ _ _ _ hs ⟨q', e', hpr, h⟩ => ⟨q', e', hpr.mono hs, h⟩) hm hok hw h1 fun p' a' σ' w' he ⟨q', e', _, fr', hde, hk⟩ => ?_
    exact ⟨e', σ', fr', he, hde, hk⟩
   ·exact h.elim
  ·exact h.elim
end
end Go.HL

namespace Go.HL
open Go
def noX (_ : Nat) (_ : Env) (_ : H) : Prop := False
def bodyX (P : Program) (τ : TypeId -> TK) (pan : List Nat) (fn : Func) (an : Ann) (args : List Value) (K X : Value -> H -> Prop) (σ : H) : Prop :=
 match fn.body with
 | some c => match Nat.ble args.length fn.ntmps with
  | true => DX P τ fn.ntmps pan (fun _ => X) c an (argE 0 args) (resF P τ fn.results.toList K) (fun _ _ _ => False) (resF P τ fn.results.toList K) σ
  | false => False
 | none => False
theorem fr_args (fn : Func) (args : List Value) (hle : args.length <= fn.ntmps) : FR fn.ntmps (argE 0 args) { tmps := args.toArray ++ Array.replicate (fn.ntmps - args.toArray.size) undef, defers := [] } := by
 refine ⟨by simp; omega, fun i v hi => ?_⟩
 obtain ⟨_, h2⟩ := argE_get args 0 i v hi
 simp only [Nat.sub_zero] at h2
 have hlt : i < args.length := by
  rcases Nat.lt_or_ge i args.length with h | h
  ·exact h
  ·rw [List.getElem?_eq_none h] at h2; cases h2
 rw [Array.getElem?_append, if_pos (by simpa using hlt)]
 simpa using h2
section
variable {P : Program} {τ : TypeId -> TK} {pan : List Nat}
theorem callX_of_body (hm : P.follows .mixedOrders = true) {f : FuncId} {fn : Func} (hf : P.funcs[f]? = some fn) {an : Ann} {args : List Value} {K X : Value -> H -> Prop} {σ : H} (h : bodyX P τ pan fn an args K X σ) : callX P f args K X σ := by
 unfold bodyX at h
 split at h
 ·rename_i c hc
  split at h
  ·rename_i hle
   have hle := Nat.le_of_ble_eq_true hle
   intro w hw
   refine callsIn_of_wp_defers hf hc trivial ?_
   refine wpIn_mono (DX_sound hm c an h _ w (fr_args fn args hle) hw) fun ex a w' hp => ?_
   have fin : ∀ e σ', FR fn.ntmps e a -> Ext σ w σ' w' -> a.defers = [] -> resF P τ fn.results.toList K e σ' ->
    LeavesIn Fence.wide 0 P fn a.tmps (fun e w' => (∃ v, e = .returned v /\ ∃ σ', Ext σ w σ' w' /\ K v σ') \/ (∃ v, e = .panicked (chain1 v) /\ ∃ σ', Ext σ w σ' w' /\ X v σ')) a.defers .returning w' := by
    intro e σ' fr' he hd hres
    rw [hd]
    obtain ⟨v, hv, hk⟩ := resF_sound fr' he.le hres
    exact ⟨v, hv, .inl ⟨v, rfl, σ', he, hk⟩⟩
   cases ex with
   | normal => obtain ⟨e, σ', fr', he, hd, hres⟩ := hp; exact fin e σ' fr' he hd hres
   | ret => obtain ⟨e, σ', fr', he, hd, hres⟩ := hp; exact fin e σ' fr' he hd hres
   | exit i => obtain ⟨_, _, _, _, _, hres⟩ := hp; exact hres.elim
   | goto l => exact hp.elim
   | panic c =>
    obtain ⟨e, v, σ', rfl, fr', he, hd, hx⟩ := hp
    show LeavesIn _ _ _ _ _ _ a.defers _ _
    rw [hd]
    exact .inr ⟨v, rfl, σ', he, hx⟩
   | outgrown => exact hp.elim
  ·exact h.elim
 ·exact h.elim
end
structure Df where
 g : FuncId
 as_ : List Value
 cs : List Value
def Df.d (x : Df) : Deferred := { target := .fn (.func x.g) ⟨x.cs⟩, args := ⟨x.as_⟩ }
inductive Md where
 | ret | pan (v : Value)
def Md.mode : Md -> FrameMode
 | .ret => .returning
 | .pan v => .panicking (chain1 v)
def callD (P : Program) (g : FuncId) (args : List Value) (m : Md) (K : Md -> H -> Prop) (σ : H) : Prop :=
 ∀ w, σ.le w -> CallsDIn Fence.wide 0 P g args.toArray m.mode w fun e u' w' => ∃ m' σ', Ext σ w σ' w' /\ K m' σ' /\ ∃ v, e = .returned v /\ settle u' = m'.mode
def finG (P : Program) : List Df -> Md -> (Md -> H -> Prop) -> H -> Prop
 | [], m, K, σ => K m σ
 | d :: ds, m, K, σ => callD P d.g (d.as_ ++ d.cs) m (fun m' => finG P ds m' K) σ
def dfOf : Code -> Option (Array Oper × Operand × List Operand)
 | .region _ ops false => match ops.toList[ops.size - 1]? with
  | some { dst := none, op := .defer { callee := .value f, args := ⟨xs⟩, argTypes := _ }, guard := none, type := _, pos := _, after := _ } => some (ops, f, xs)
  | _ => none
 | _ => none
def D5 (P : Program) (τ : TypeId -> TK) (N : Nat) (pan : List Nat) (lv : List Df -> Md -> Env -> H -> Prop) : Code -> Ann -> Env -> List Df -> H -> Prop
 | .seq x y, an, e, dl, σ => match an with
  | .seq none a b => match dfOf x with
   | some (ops, f, xs) => rgX P τ N pan (fun e' v => lv dl (.pan v) e') ops.toList (List.range (ops.size - 1)) e (fun e' σ => match evO e' f, evL e' xs with
    | some (.func (.func g) ⟨as0⟩ ⟨cs⟩), some vs => match isGo P g with
     | true => D5 P τ N pan lv y b e' (⟨g, as0 ++ vs, cs⟩ :: dl) σ
     | false => False
    | _, _ => False) σ
   | none => DX P τ N pan (fun e' v => lv dl (.pan v) e') x a e (fun e' => D5 P τ N pan lv y b e' dl) noX (lv dl .ret) σ
  | .seq (some l) a b => match dfOf x with
   | some _ => False
   | none => letJ (l.lam fun e' => D5 P τ N pan lv y b e' dl) (fun j => DX P τ N pan (fun e' v => lv dl (.pan v) e') x a e (fun e' => l.app j e') noX (lv dl .ret)) σ
  | _ => False
 | c, an, e, dl, σ => DX P τ N pan (fun e' v => lv dl (.pan v) e') c an e (lv dl .ret) noX (lv dl .ret) σ
def mdK (A : H -> Prop) (X : Value -> H -> Prop) (m : Md) : H -> Prop :=
 match m with
 | .ret => A
 | .pan v => X v
def body5 (P : Program) (τ : TypeId -> TK) (pan : List Nat) (fn : Func) (an : Ann) (args : List Value) (K X : Value -> H -> Prop) (σ : H) : Prop :=
 match fn.body with
 | some c => match Nat.ble args.length fn.ntmps with
  | true => D5 P τ fn.ntmps pan (fun dl m e => finG P dl m (mdK (resF P τ fn.results.toList K e) X)) c an (argE 0 args) [] σ
  | false => False
 | none => False
section
variable {P : Program} {τ : TypeId -> TK} {pan : List Nat} {N : Nat}
theorem leavesG {fn : Func} {tmps : Array Value} {R : Ending -> World -> Prop} {K : Md -> H -> Prop} : ∀ (dl : List Df) (m : Md) {σ : H} {w : World}, (∀ d ∈ dl, isGo P d.g = true) -> finG P dl m K σ -> σ.le w ->
 (∀ m' σ' w', Ext σ w σ' w' -> K m' σ' -> LeavesIn Fence.wide 0 P fn tmps R [] m'.mode w') -> LeavesIn Fence.wide 0 P fn tmps R (dl.map Df.d) m.mode w := by
 intro dl
 induction dl with
 | nil => intro m σ w _ h hw hk; exact hk m σ w (Ext.refl hw) h
 | cons d ds ih =>
  intro m σ w hg h hw hk
  have hgo := hg d (List.mem_cons_self ..)
  refine ⟨by cases m <;> simp [Md.mode], (fun h => by cases h), .func d.g, ⟨d.cs⟩, d.g, (d.as_ ++ d.cs).toArray, rfl, ?_, fun _ _ => trivial, ?_⟩
  ·show (invoke (.fn (.func d.g) ⟨d.cs⟩) ⟨d.as_⟩).run P w = _
   simp only [invoke]
   rw [callFunc_go hgo]; simp
  ·refine CallsDIn.mono (h w hw) fun e u' w' ⟨m', σ', he, hk', v, hv, hs⟩ => ?_
   subst hv
   show LeavesIn Fence.wide 0 P fn tmps R (ds.map Df.d) (settle u') w'
   rw [hs]
   exact ih m' (fun d hd => hg d (List.mem_cons_of_mem _ hd)) hk' he.le fun m2 σ2 w2 he2 hk2 => hk m2 σ2 w2 (he.trans he2) hk2
theorem dfOf_some {x : Code} {ops : Array Oper} {f : Operand} {xs : List Operand} (h : dfOf x = some (ops, f, xs)) : ∃ id o ty, x = .region id ops false /\ ops[ops.size - 1]? = some o /\ 0 < ops.size /\ o.dst = none /\ o.guard = none /\ o.op = .defer { callee := .value f, args := ⟨xs⟩, argTypes := ty } := by
 unfold dfOf at h
 split at h
 ·rename_i id ops'
  split at h
  ·rename_i f' xs' ty' _ _ _ ho
   cases h
   have hlt : 0 < ops.size := by
    rcases Nat.eq_zero_or_pos ops.size with h0 | h0
    ·have h1 : ops.toList.length = 0 := by simpa using h0
     have h2 : ops.toList = [] := List.eq_nil_of_length_eq_zero h1
     rw [h2] at ho; simp at ho
    ·exact h0
   exact ⟨id, _, _, rfl, by simpa using ho, hlt, rfl, rfl, rfl⟩
  ·cases h
 ·cases h
theorem D5_sound (hm : P.follows .mixedOrders = true) {fn : Func} {R : Ending -> World -> Prop} {lv : List Df -> Md -> Env -> H -> Prop} {σ0 : H} {w0 : World}
 (hlv : ∀ dl m e a σ w, FR N e a -> Ext σ0 w0 σ w -> (∀ d ∈ dl, isGo P d.g = true) -> lv dl m e σ -> LeavesIn Fence.wide 0 P fn a.tmps R (dl.map Df.d) m.mode w) (c : Code) :
 ∀ (an : Ann) {e : Env} (dl : List Df) {σ : H}, D5 P τ N pan lv c an e dl σ -> ∀ (a : Act) (w : World), FR N e a -> Ext σ0 w0 σ w -> a.defers = dl.map Df.d -> (∀ d ∈ dl, isGo P d.g = true) -> c.wpIn Fence.wide 0 P (bodyPostDIn Fence.wide 0 P fn R) a w := by
 have plain : ∀ (c : Code) (an : Ann) {e : Env} (dl : List Df) {σ : H} {Kn : Env -> H -> Prop} {Q : Exit -> Act -> World -> Prop}, DX P τ N pan (fun e' v => lv dl (.pan v) e') c an e Kn noX (lv dl .ret) σ -> ∀ (a : Act) (w : World), FR N e a -> Ext σ0 w0 σ w -> a.defers = dl.map Df.d -> (∀ d ∈ dl, isGo P d.g = true) ->
  (∀ e a' σ' w', FR N e a' -> Ext σ0 w0 σ' w' -> a'.defers = dl.map Df.d -> Kn e σ' -> Q .normal a' w') -> (∀ a' w' R', (R' = bodyPostDIn Fence.wide 0 P fn R .ret a' w' -> R') -> True) -> (∀ a' w', bodyPostDIn Fence.wide 0 P fn R .ret a' w' -> Q .ret a' w') -> (∀ ch a' w', bodyPostDIn Fence.wide 0 P fn R (.panic ch) a' w' -> Q (.panic ch) a' w') -> c.wpIn Fence.wide 0 P Q a w := by
  intro c an e dl σ Kn Q h a w fr he hd hg hn _ hr hp
  refine wpIn_mono (DX_sound hm c an h a w fr he.le) fun ex a' w' hq => ?_
  cases ex with
  | normal => obtain ⟨e', σ', fr', he', hd', hk⟩ := hq; exact hn e' a' σ' w' fr' (he.trans he') (hd'.trans hd) hk
  | exit i => obtain ⟨_, _, _, _, _, hk⟩ := hq; exact hk.elim
  | ret =>
   obtain ⟨e', σ', fr', he', hd', hk⟩ := hq
   refine hr a' w' ?_
   show LeavesIn _ _ _ _ _ _ a'.defers _ _
   rw [hd', hd]
   exact hlv dl .ret e' a' σ' w' fr' (he.trans he') hg hk
  | goto l => exact hq.elim
  | panic ch =>
   obtain ⟨e', v, σ', rfl, fr', he', hd', hk⟩ := hq
   refine hp _ a' w' ?_
   show LeavesIn _ _ _ _ _ _ a'.defers _ _
   rw [hd', hd]
   exact hlv dl (.pan v) e' a' σ' w' fr' (he.trans he') hg hk
  | outgrown => exact hq.elim
 have last : ∀ (c : Code) (an : Ann) {e : Env} (dl : List Df) {σ : H}, DX P τ N pan (fun e' v => lv dl (.pan v) e') c an e (lv dl .ret) noX (lv dl .ret) σ -> ∀ (a : Act) (w : World), FR N e a -> Ext σ0 w0 σ w -> a.defers = dl.map Df.d -> (∀ d ∈ dl, isGo P d.g = true) -> c.wpIn Fence.wide 0 P (bodyPostDIn Fence.wide 0 P fn R) a w := by
  intro c an e dl σ h a w fr he hd hg
  refine plain c an dl h a w fr he hd hg (fun e' a' σ' w' fr' he' hd' hk => ?_) (fun _ _ _ _ => trivial) (fun _ _ h => h) (fun _ _ _ h => h)
  show LeavesIn _ _ _ _ _ _ a'.defers _ _
  rw [hd']
  exact hlv dl .ret e' a' σ' w' fr' he' hg hk
 induction c with
 | seq x y ihx ihy =>
  intro an e dl σ h a w fr he hd hg
  simp only [D5] at h
  split at h
  ·rename_i ax ay
   split at h
   ·rename_i ops f xs hdf
    obtain ⟨id, o, ty, rfl, ho, hlt, o1, o2, o3⟩ := dfOf_some hdf
    refine wpIn_seq (wpIn_region ?_)
    have hrange : List.range ops.size = List.range (ops.size - 1) ++ [ops.size - 1] := by
     obtain ⟨k, hk⟩ : ∃ k, ops.size = k + 1 := ⟨ops.size - 1, by omega⟩
     rw [hk, List.range_succ]; rfl
    rw [hrange]
    refine rgX_tail (N := N) [ops.size - 1] _ fr he.le h (fun e' a' σ' w' fr' hd' he' hk => ?_) (fun e' v a' σ' w' fr' hd' he' hk => ?_)
    ·split at hk
     ·rename_i g as0 cs vs hf hv
      split at hk
      ·rename_i hgo
       simp only [wpOpsIn, ho]
       have hwd : Region.wanted o (yielded ops a'.tmps) = true := by simp [Region.wanted, o2]
       rw [if_pos hwd]
       refine ⟨fun _ _ => trivial, ?_⟩
       have hs : (o.semAt Fence.wide.round a'.eval).run P w' = .ok (.defer (Df.d ⟨g, as0 ++ vs, cs⟩)) w' := by
        show (execOp a'.eval o).run P w' = _
        obtain ⟨dst, op, type, pos, after, guard⟩ := o
        simp only at o3; subst o3
        simp only [execOp, resolve, Deferred.ofValue, map_mk, fr'.evO hf, fr'.evL hv, Sem.run_bind, Sem.run_pure, Result.andThen_ok, Df.d]
        simp
       rw [hs, Oper.uponIn_defer, o1]
       exact ihy ay (⟨g, as0 ++ vs, cs⟩ :: dl) hk { a' with defers := Df.d ⟨g, as0 ++ vs, cs⟩ :: a'.defers } w' ⟨fr'.size, fr'.get⟩ (he.trans he') (by show _ :: a'.defers = _; rw [hd', hd]; rfl) (by
        intro d hdm
        rcases List.mem_cons.1 hdm with rfl | hdm
        ·exact hgo
        ·exact hg d hdm)
      ·exact hk.elim
     ·exact hk.elim
    ·show LeavesIn _ _ _ _ _ _ a'.defers _ _
     rw [hd', hd]
     exact hlv dl (.pan v) e' a' σ' w' fr' (he.trans he') hg hk
   ·refine wpIn_seq (plain x ax dl h a w fr he hd hg (fun e' a' σ' w' fr' he' hd' hk => ?_) (fun _ _ _ _ => trivial) (fun _ _ h => h) (fun _ _ _ h => h))
    exact ihy ay dl hk a' w' fr' he' hd' hg
  ·rename_i l ax ay
   split at h
   ·exact h.elim
   ·refine wpIn_seq (plain x ax dl h a w fr he hd hg (fun e' a' σ' w' fr' he' hd' hk => ?_) (fun _ _ _ _ => trivial) (fun _ _ h => h) (fun _ _ _ h => h))
    obtain ⟨vs, hs, h'⟩ := Live.app_lam hk
    exact ihy ay dl h' a' w' (fr'.sel hs) he' hd' hg
  ·exact h.elim
 | _ => intro an e dl σ h a w fr he hd hg; exact last _ an dl h a w fr he hd hg
theorem callX_of_body5 (hm : P.follows .mixedOrders = true) {f : FuncId} {fn : Func} (hf : P.funcs[f]? = some fn) {an : Ann} {args : List Value} {K X : Value -> H -> Prop} {σ : H} (h : body5 P τ pan fn an args K X σ) : callX P f args K X σ := by
 unfold body5 at h
 split at h
 ·rename_i c hc
  split at h
  ·rename_i hle
   have hle := Nat.le_of_ble_eq_true hle
   intro w hw
   refine callsIn_of_wp_defers hf hc trivial ?_
   refine D5_sound hm (σ0 := σ) (w0 := w) (fun dl m e a σ' w' fr' he hg hlv => ?_) c an [] h _ w (fr_args fn args hle) (Ext.refl hw) rfl (fun d hd => by cases hd)
   refine leavesG dl m hg hlv he.le fun m' σ2 w2 he2 hk => ?_
   cases m' with
   | ret =>
    obtain ⟨v, hv, hk'⟩ := resF_sound fr' he2.le hk
    exact ⟨v, hv, .inl ⟨v, rfl, σ2, he.trans he2, hk'⟩⟩
   | pan v => exact .inr ⟨v, rfl, σ2, he.trans he2, hk⟩
  ·exact h.elim
 ·exact h.elim
end
def callXT (P : Program) (f : FuncId) (args : List Value) (t : TK) (F : t.Fn (H -> Prop)) (X : Value -> H -> Prop) : H -> Prop := callX P f args (app t F) X
def cvalXT (P : Program) (pan : List Nat) (fv : Value) (args : List Value) (t : TK) (F : t.Fn (H -> Prop)) (X : Value -> H -> Prop) : H -> Prop := callVP P pan fv args (app t F) X
end Go.HL

namespace Go.HL
open Go
def rgS (P : Program) (N : Nat) (ops : List Oper) : List Nat -> Env -> (Env -> H -> Prop) -> H -> Prop
 | [], e, K, σ => K e σ
 | i :: l, e, K, σ => match ops[i]? with
  | none => False
  | some o => match o.guard, plainOp o.op && dstOk N o.dst, clsOf P o.op with
   | none, true, 0 => silF P e (fun v => rgS P N ops l (e.put o.dst v) K) o.op σ
   | _, _, _ => False
def isRec (N : Nat) (ops : List Oper) : Option (Option Nat) :=
 match ops with
 | { dst := d, op := .call { callee := .builtin .recover, args := ⟨[]⟩, argTypes := _ }, guard := none, type := _, pos := _, after := _ } :: _ => match dstOk N d with
  | true => some d
  | false => none
 | _ => none
def Md.rv : Md -> Value
 | .ret => .nilIface
 | .pan v => v
def recF (P : Program) (τ : TypeId -> TK) (fn : Func) (an : Ann) (args : List Value) (m : Md) (K : H -> Prop) (X : Value -> H -> Prop) (σ : H) : Prop :=
 match fn.body, an with
 | some (.seq (.region _ ops false) y), .seq none _ b => match Nat.ble args.length fn.ntmps, isRec fn.ntmps ops.toList with
  | true, some d => rgS P fn.ntmps ops.toList ((List.range ops.size).drop 1) ((argE 0 args).put d m.rv) (fun e => DX P τ fn.ntmps [] (fun _ => X) y b e (resF P τ fn.results.toList fun _ => K) noX (resF P τ fn.results.toList fun _ => K)) σ
  | _, _ => False
 | _, _ => False
def recMode : Md -> FrameMode
 | .ret => .returning
 | .pan v => .panicking [{ v, recovered := true }]
section
variable {P : Program} {τ : TypeId -> TK} {N : Nat}
theorem rgS_sound {ops : Array Oper} {Q : Exit -> Act -> List Frame -> World -> Prop} {K : Env -> H -> Prop} {cs : List Frame} : ∀ (l : List Nat) {e : Env} {a : Act} {σ : H} {w : World}, FR N e a -> rgS P N ops.toList l e K σ ->
 (∀ e' a', FR N e' a' -> a'.defers = a.defers -> K e' σ -> Q .normal a' cs w) -> wpOpsSIn Fence.wide 0 P ops Q l a cs w := by
 intro l
 induction l with
 | nil => intro e a σ w fr h hq; exact hq e a fr rfl h
 | cons i l ih =>
  intro e a σ w fr h hq
  simp only [rgS] at h
  simp only [wpOpsSIn]
  split at h
  ·exact h.elim
  ·rename_i o ho
   have ho' : ops[i]? = some o := by simpa using ho
   simp only [ho']
   split at h
   ·rename_i hg hp hc
    simp only [Bool.and_eq_true] at hp
    obtain ⟨hp, hd⟩ := hp
    have hwd : Region.wanted o (yielded ops a.tmps) = true := by simp [Region.wanted, hg]
    obtain ⟨v, hv, h⟩ := silF_sound fr h
    refine ⟨fun _ _ => trivial, ?_⟩
    rw [if_pos hwd, hv w]
    exact ih (fr.put hd v) h fun e' a' fr' hd' hk => hq e' a' fr' (hd'.trans (put_defers a o.dst v)) hk
   ·exact h.elim
theorem isRec_some {ops : Array Oper} {d : Option Nat} (h : isRec N ops.toList = some d) : ∃ o ty, ops[0]? = some o /\ o.dst = d /\ o.guard = none /\ o.op = .call { callee := .builtin .recover, args := ⟨[]⟩, argTypes := ty } /\ dstOk N d = true /\ List.range ops.size = 0 :: (List.range ops.size).drop 1 := by
 unfold isRec at h
 split at h
 ·rename_i d' ty _ _ _ r hl
  split at h
  ·rename_i hd
   cases h
   have hh := congrArg (fun l : List Oper => l[0]?) hl
   simp only [List.getElem?_cons_zero] at hh
   have h0 := hh
   rw [Array.getElem?_toList] at h0
   refine ⟨_, ty, h0, rfl, rfl, rfl, hd, ?_⟩
   ·have hs : ops.size = r.length + 1 := by
     have := congrArg List.length hl
     simpa using this
    rw [hs, List.range_succ_eq_map]; rfl
  ·cases h
 ·cases h
theorem callD_of_rec (hm : P.follows .mixedOrders = true) {f : FuncId} {fn : Func} (hf : P.funcs[f]? = some fn) {an : Ann} {args : List Value} {m : Md} {K : Md -> H -> Prop} {σ : H} (h : recF P τ fn an args m (K .ret) (fun _ _ => False) σ) : callD P f args m K σ := by
 unfold recF at h
 split at h
 ·rename_i id ops y ax b hc
  split at h
  ·rename_i d hle hrec
   have hle := Nat.le_of_ble_eq_true hle
   obtain ⟨o, ty, ho, o1, o2, o3, o4, o5⟩ := isRec_some hrec
   intro w hw
   refine callsDIn_of_wpSIn hf hc trivial fun c₀ cs hc0 => ?_
   refine wpSIn_seq (wpSIn_region ?_)
   rw [o5]
   simp only [wpOpsSIn, ho]
   refine ⟨fun _ _ => trivial, ?_⟩
   have fr := fr_args fn args hle
   have hwd : Region.wanted o (yielded ops (args.toArray ++ Array.replicate (fn.ntmps - args.toArray.size) undef)) = true := by simp [Region.wanted, o2]
   rw [if_pos hwd]
   have hrun : ∀ (ρ : Operand -> Value), (execOp ρ o).run P w = .ok .recover w := by
    intro ρ
    obtain ⟨dst, op, type, pos, after, guard⟩ := o
    simp only at o3; subst o3
    simp [execOp, resolve, invoke, builtin]
   rw [hrun]
   have hcs : (match recoverD (c₀ :: cs) with
    | some (v, cs') => v = m.rv /\ cs' = { c₀ with mode := recMode m } :: cs
    | none => m.rv = .nilIface /\ (c₀ :: cs : List Frame) = { c₀ with mode := recMode m } :: cs) := by
    cases m with
    | ret =>
     have : c₀.mode = .returning := hc0
     simp only [recoverD, this]
     refine ⟨rfl, ?_⟩
     show c₀ :: cs = { c₀ with mode := .returning } :: cs
     rw [<- this]
    | pan v =>
     have : c₀.mode = .panicking [{ v, recovered := false }] := hc0
     simp only [recoverD, this]
     exact ⟨rfl, rfl⟩
   have hset : settle (recMode m) = Md.ret.mode := by cases m <;> rfl
   have go : wpOpsSIn Fence.wide 0 P ops (Exit.thenS (y.wpSIn Fence.wide 0 P (bodyPostS P fn c₀ cs fun e u' w' => ∃ m' σ', Ext σ w σ' w' /\ K m' σ' /\ ∃ v, e = .returned v /\ settle u' = m'.mode)) (bodyPostS P fn c₀ cs fun e u' w' => ∃ m' σ', Ext σ w σ' w' /\ K m' σ' /\ ∃ v, e = .returned v /\ settle u' = m'.mode)) ((List.range ops.size).drop 1)
    (Act.put { tmps := args.toArray ++ Array.replicate (fn.ntmps - args.toArray.size) undef, defers := [] } o.dst m.rv) ({ c₀ with mode := recMode m } :: cs) w := by
    rw [o1]
    refine rgS_sound (N := fn.ntmps) _ (fr.put o4 m.rv) h fun e' a' fr' hd' hk => ?_
    have hd0 : a'.defers = [] := hd'.trans (put_defers _ d m.rv)
    refine wpSIn_of_wpIn rfl ?_
    refine wpIn_mono (DX_sound hm y b hk a' w fr' hw) fun ex a2 w2 hp => ?_
    rw [hd0] at hp
    have fin : ∀ e σ', FR fn.ntmps e a2 -> Ext σ w σ' w2 -> a2.defers = [] -> resF P τ fn.results.toList (fun _ => K .ret) e σ' -> bodyPostS P fn c₀ cs (fun e u' w' => ∃ m' σ', Ext σ w σ' w' /\ K m' σ' /\ ∃ v, e = .returned v /\ settle u' = m'.mode) .normal a2 ({ c₀ with mode := recMode m } :: cs) w2 := by
     intro e σ' fr2 he hd2 hres
     obtain ⟨v, hv, hk2⟩ := resF_sound fr2 he.le hres
     exact ⟨hd2, recMode m, rfl, v, hv, .ret, σ', he, hk2, v, rfl, hset⟩
    cases ex with
    | normal => obtain ⟨e, σ', fr2, he, hd2, hres⟩ := hp; exact fin e σ' fr2 he hd2 hres
    | ret => obtain ⟨e, σ', fr2, he, hd2, hres⟩ := hp; exact fin e σ' fr2 he hd2 hres
    | exit i => obtain ⟨_, _, _, _, _, hres⟩ := hp; exact hres.elim
    | goto l => exact hp.elim
    | panic c => obtain ⟨_, _, _, _, _, _, _, hx⟩ := hp; exact hx.elim
    | outgrown => exact hp.elim
   split at hcs
   ·rename_i v cs' hrv
    obtain ⟨rfl, rfl⟩ := hcs
    simp only [hrv]
    exact go
   ·rename_i hrv
    obtain ⟨h1, h2⟩ := hcs
    simp only [hrv]
    rw [h1] at go
    rw [h2]
    exact go
  ·exact h.elim
 ·exact h.elim
end
end Go.HL

set_option maxRecDepth 100000
namespace Go.Proofs.YtgfiobhpipollaaGreatDoor
open Go Go.HL
def panL : List Nat := [81, 83, 125, 127, 133, 134, 135, 136, 139, 182, 186]
def an53 : Ann := (.q (.q (.q (.q (.q (.q (.seq (some [(2,.p),(3,.p)]) .r (.q .z))))))))
def g53 (s_1 : ByteArray) (K X : Value -> H -> Prop) : H -> Prop :=
 alW (.cells ⟨[.string (⟨⟨[]⟩⟩ : ByteArray), .int .i64 0, .bool false, .string (⟨⟨[]⟩⟩ : ByteArray), .slice none 0 0]⟩ 75 (0, 0)) (fun (b2 : Nat) =>
  alW (.cells ⟨[.int .i64 0]⟩ 70 (0, 0)) (fun (b3 : Nat) =>
   callT Tryz.prog 80 [.string s_1] kP (fun (x4 : Option Addr) =>
    alW (.cells ⟨[.pointer x4, .int .i64 0]⟩ 106 (0, 0)) (fun (b5 : Nat) =>
     rdT (rdC b5 0) kP (fun (x6 : Option Addr) =>
      callT Tryz.prog 82 [.pointer x6] kS (fun (x7 : ByteArray) =>
       callXT Tryz.prog 81 [.bool (strEq x7 (⟨⟨[119, 104, 105, 115, 107, 45, 116, 114, 101, 101]⟩⟩ : ByteArray))] kU (callXT Tryz.prog 83 [.pointer (some ⟨b5, 0, none⟩)] (.one (.agg [.str, (.int .i64), .bool, .str, .slc])) (fun (x22 : ByteArray) (x23 : Int) (x24 : Bool) (x25 : ByteArray) (x26 : Sl) =>
        stW Tryz.prog 75 (.pointer (some ⟨b2, 0, none⟩)) (.agg ⟨[.string x22, .int .i64 x23, .bool x24, .string x25, .slice x26.base x26.len x26.cap]⟩) (rdT (rdA 5 b2 0) (.one (.agg [.str, (.int .i64), .bool, .str, .slc])) (fun (x27 : ByteArray) (x28 : Int) (x29 : Bool) (x30 : ByteArray) (x31 : Sl) =>
         callT Tryz.prog 41 [.agg ⟨[.string x27, .int .i64 x28, .bool x29, .string x30, .slice x31.base x31.len x31.cap]⟩] (.tup [.sc .str, .sc (.int .i64)]) (fun (x32 : ByteArray) (x33 : Int) =>
          letJ (T := Option Addr -> Option Addr -> H -> Prop) (fun (n_35 : Option Addr) (e_36 : Option Addr) =>
           ptrW n_35 (fun (b37 o38 : Nat) =>
            rdT (rdA 5 b37 o38) (.one (.agg [.str, (.int .i64), .bool, .str, .slc])) (fun (x39 : ByteArray) (x40 : Int) (x41 : Bool) (x42 : ByteArray) (x43 : Sl) =>
             stW Tryz.prog 75 (.pointer n_35) (.agg ⟨[.string x39, .int .i64 x40, .bool x41, .string x42, .slice x43.base x43.len x43.cap]⟩) (stW Tryz.prog 70 (.pointer e_36) (.int .i64 0) (callD Tryz.prog 79 [.pointer (some ⟨b2, 0, none⟩), .pointer (some ⟨b3, 0, none⟩)] .ret (mdK (ptrW n_35 (fun (b44 o45 : Nat) =>
              rdT (rdA 5 b44 o45) (.one (.agg [.str, (.int .i64), .bool, .str, .slc])) (fun (r46 : ByteArray) (r47 : Int) (r48 : Bool) (r49 : ByteArray) (r50 : Sl) =>
               ptrW e_36 (fun (b51 o52 : Nat) =>
               rdT (rdC b51 o52) kI (fun (r53 : Int) =>
               K (.tuple ⟨[.agg ⟨[.string r46, .int .i64 r47, .bool r48, .string r49, .slice r50.base r50.len r50.cap]⟩, .int .i64 r53]⟩)))))) X)))))) (fun j34 =>
           rdT (rdC b5 0) kP (fun (x54 : Option Addr) =>
            callT Tryz.prog 84 [.pointer x54] kB (fun (x55 : Bool) =>
             brW x55
             (brW ((x33 : Int) == 0)
              (callXT Tryz.prog 81 [.bool (strEq x32 s_1)] kU (j34 (some ⟨b2, 0, none⟩) (some ⟨b3, 0, none⟩)) (fun (v62 : Value) => callD Tryz.prog 79 [.pointer (some ⟨b2, 0, none⟩), .pointer (some ⟨b3, 0, none⟩)] (.pan v62) (mdK (rdT (rdA 5 b2 0) (.one (.agg [.str, (.int .i64), .bool, .str, .slc])) (fun (r56 : ByteArray) (r57 : Int) (r58 : Bool) (r59 : ByteArray) (r60 : Sl) =>
               rdT (rdC b3 0) kI (fun (r61 : Int) =>
               K (.tuple ⟨[.agg ⟨[.string r56, .int .i64 r57, .bool r58, .string r59, .slice r60.base r60.len r60.cap]⟩, .int .i64 r61]⟩)))) X)))
              (callXT Tryz.prog 81 [.bool false] kU (j34 (some ⟨b2, 0, none⟩) (some ⟨b3, 0, none⟩)) (fun (v69 : Value) => callD Tryz.prog 79 [.pointer (some ⟨b2, 0, none⟩), .pointer (some ⟨b3, 0, none⟩)] (.pan v69) (mdK (rdT (rdA 5 b2 0) (.one (.agg [.str, (.int .i64), .bool, .str, .slc])) (fun (r63 : ByteArray) (r64 : Int) (r65 : Bool) (r66 : ByteArray) (r67 : Sl) =>
               rdT (rdC b3 0) kI (fun (r68 : Int) =>
               K (.tuple ⟨[.agg ⟨[.string r63, .int .i64 r64, .bool r65, .string r66, .slice r67.base r67.len r67.cap]⟩, .int .i64 r68]⟩)))) X))))
             (callXT Tryz.prog 81 [.bool false] kU (j34 (some ⟨b2, 0, none⟩) (some ⟨b3, 0, none⟩)) (fun (v76 : Value) => callD Tryz.prog 79 [.pointer (some ⟨b2, 0, none⟩), .pointer (some ⟨b3, 0, none⟩)] (.pan v76) (mdK (rdT (rdA 5 b2 0) (.one (.agg [.str, (.int .i64), .bool, .str, .slc])) (fun (r70 : ByteArray) (r71 : Int) (r72 : Bool) (r73 : ByteArray) (r74 : Sl) =>
              rdT (rdC b3 0) kI (fun (r75 : Int) =>
               K (.tuple ⟨[.agg ⟨[.string r70, .int .i64 r71, .bool r72, .string r73, .slice r74.base r74.len r74.cap]⟩, .int .i64 r75]⟩)))) X)))))))))) (fun (v21 : Value) => callD Tryz.prog 79 [.pointer (some ⟨b2, 0, none⟩), .pointer (some ⟨b3, 0, none⟩)] (.pan v21) (mdK (rdT (rdA 5 b2 0) (.one (.agg [.str, (.int .i64), .bool, .str, .slc])) (fun (r15 : ByteArray) (r16 : Int) (r17 : Bool) (r18 : ByteArray) (r19 : Sl) =>
          rdT (rdC b3 0) kI (fun (r20 : Int) =>
           K (.tuple ⟨[.agg ⟨[.string r15, .int .i64 r16, .bool r17, .string r18, .slice r19.base r19.len r19.cap]⟩, .int .i64 r20]⟩)))) X))) (fun (v14 : Value) => callD Tryz.prog 79 [.pointer (some ⟨b2, 0, none⟩), .pointer (some ⟨b3, 0, none⟩)] (.pan v14) (mdK (rdT (rdA 5 b2 0) (.one (.agg [.str, (.int .i64), .bool, .str, .slc])) (fun (r8 : ByteArray) (r9 : Int) (r10 : Bool) (r11 : ByteArray) (r12 : Sl) =>
         rdT (rdC b3 0) kI (fun (r13 : Int) =>
          K (.tuple ⟨[.agg ⟨[.string r8, .int .i64 r9, .bool r10, .string r11, .slice r12.base r12.len r12.cap]⟩, .int .i64 r13]⟩)))) X))))))))
theorem e53 (s_1 : ByteArray) (K X : Value -> H -> Prop) : body5 Tryz.prog tau panL Tryz.f53 an53 [.string s_1] K X = g53 s_1 K X := by kernel_rfl
theorem c53 (s_1 : ByteArray) {K X : Value -> H -> Prop} {σ : H} (h : g53 s_1 K X σ) : callX Tryz.prog 53 [.string s_1] K X σ := callX_of_body5 mixed Tryz.func53 (by rw [e53]; exact h)

def an79 : Ann := (.q (.q (.cond (.n (.q (.q (.cond .r .z))) .r) .z)))
def g79 (x1 : Option Addr) (x2 : Option Addr) (m : Md) (K : H -> Prop) (X : Value -> H -> Prop) : H -> Prop :=
 vaW Tryz.prog (do eqGuard .neq 20 (.tmp 6) (.const (.nilIface)) ((Md.rv m)) (.nilIface); binOp .neq 20 ((Md.rv m)) (.nilIface)) kB (fun (x3 : Bool) =>
  brW x3
  (vaW Tryz.prog (Instr.typeAssert ((Md.rv m)) 20 100 true) (.tup [.agg [], .sc .bool]) (fun (x4 : Bool) =>
   alW (.cells ⟨[]⟩ 100 (0, 0)) (fun (b5 : Nat) =>
    stW Tryz.prog 100 (.pointer (some ⟨b5, 0, none⟩)) (.agg ⟨[]⟩) (brW (!x4)
     (panW X ((Md.rv m)))
     (stW Tryz.prog 75 (.pointer x1) (.agg ⟨[.string (⟨⟨[]⟩⟩ : ByteArray), .int .i64 0, .bool false, .string (⟨⟨[]⟩⟩ : ByteArray), .slice none 0 0]⟩) (stW Tryz.prog 70 (.pointer x2) (.int .i64 4) (K)))))))
  (K))
theorem e79 (x1 : Option Addr) (x2 : Option Addr) (m : Md) (K : H -> Prop) (X : Value -> H -> Prop) : recF Tryz.prog tau Tryz.f79 an79 [.pointer x1, .pointer x2] m K X = g79 x1 x2 m K X := by kernel_rfl
theorem c79 (x1 : Option Addr) (x2 : Option Addr) (m : Md) {K : Md -> H -> Prop} {σ : H} (h : g79 x1 x2 m (K .ret) (fun _ _ => False) σ) : callD Tryz.prog 79 [.pointer x1, .pointer x2] m K σ := callD_of_rec mixed Tryz.func79 (by rw [e79]; exact h)

def an81 : Ann := (.q (.cond .r .z))
def g81 (is_1 : Bool) (K X : Value -> H -> Prop) : H -> Prop :=
 brW (!is_1)
 (panW X (.iface 100 (.agg ⟨[]⟩)))
 (K (.tuple ⟨[]⟩))
theorem e81 (is_1 : Bool) (K X : Value -> H -> Prop) : bodyX Tryz.prog tau panL Tryz.f81 an81 [.bool is_1] K X = g81 is_1 K X := by kernel_rfl
theorem c81 (is_1 : Bool) {K X : Value -> H -> Prop} {σ : H} (h : g81 is_1 K X σ) : callX Tryz.prog 81 [.bool is_1] K X σ := callX_of_body mixed Tryz.func81 (by rw [e81]; exact h)

def an83 : Ann := (.q (.q (.q (.q (.q (.q (.q (.q (.q .z)))))))))
def g83 (r_1 : Option Addr) (K X : Value -> H -> Prop) : H -> Prop :=
 alW (.cells ⟨[.string (⟨⟨[]⟩⟩ : ByteArray), .int .i64 0, .bool false, .string (⟨⟨[]⟩⟩ : ByteArray), .slice none 0 0]⟩ 75 (0, 0)) (fun (b2 : Nat) =>
  ptrW r_1 (fun (b3 o4 : Nat) =>
   rdT (rdC b3 o4) kP (fun (x5 : Option Addr) =>
    callT Tryz.prog 122 [.pointer x5] (.one (.sc (.int .u64))) (fun (x6 : Int) =>
     callXT Tryz.prog 81 [.bool (decide ((x6 : Int) <= 3))] kU (alW (.cells ⟨[.string (⟨⟨[]⟩⟩ : ByteArray), .int .i64 0, .bool false, .string (⟨⟨[]⟩⟩ : ByteArray), .slice none 0 0]⟩ 75 (0, 0)) (fun (b7 : Nat) =>
      stW Tryz.prog 75 (.pointer (some ⟨b7, 0, none⟩)) (.agg ⟨[.string (⟨⟨[]⟩⟩ : ByteArray), .int .i64 (IntKind.i64.wrap x6), .bool false, .string (⟨⟨[]⟩⟩ : ByteArray), .slice none 0 0]⟩) (alW (.map #[] 0) (fun (b8 : Nat) =>
       muW Tryz.prog 155 (.map (some b8)) (.int .i64 1) (.func (.func 125) ⟨[.pointer r_1]⟩ ⟨[]⟩) (muW Tryz.prog 155 (.map (some b8)) (.int .i64 3) (.func (.func 126) ⟨[.pointer r_1]⟩ ⟨[]⟩) (muW Tryz.prog 155 (.map (some b8)) (.int .i64 2) (.func (.func 127) ⟨[.pointer r_1]⟩ ⟨[]⟩) (rdT (rdC b7 1) kI (fun (x9 : Int) =>
           rdT (rdM (.int .i64) (.nilFunc) true (some b8) (.int .i64 x9)) (.tup [.sc .raw, .sc .bool]) (fun (x10 : Value) (x11 : Bool) =>
            callXT Tryz.prog 81 [.bool x11] kU (cvalXT Tryz.prog panL x10 [.pointer (some ⟨b7, 0, none⟩)] kU (ptrW r_1 (fun (b12 o13 : Nat) =>
             rdT (rdC b12 o13) kP (fun (x14 : Option Addr) =>
              callT Tryz.prog 128 [.pointer x14] kB (fun (x15 : Bool) =>
               callXT Tryz.prog 81 [.bool x15] kU (rdT (rdA 5 b7 0) (.one (.agg [.str, (.int .i64), .bool, .str, .slc])) (fun (x16 : ByteArray) (x17 : Int) (x18 : Bool) (x19 : ByteArray) (x20 : Sl) =>
                stW Tryz.prog 75 (.pointer (some ⟨b2, 0, none⟩)) (.agg ⟨[.string x16, .int .i64 x17, .bool x18, .string x19, .slice x20.base x20.len x20.cap]⟩) (rdT (rdA 5 b2 0) (.one (.agg [.str, (.int .i64), .bool, .str, .slc])) (fun (r21 : ByteArray) (r22 : Int) (r23 : Bool) (r24 : ByteArray) (r25 : Sl) =>
                K (.agg ⟨[.string r21, .int .i64 r22, .bool r23, .string r24, .slice r25.base r25.len r25.cap]⟩))))) X)))) X) X))))))))) X))))
theorem e83 (r_1 : Option Addr) (K X : Value -> H -> Prop) : bodyX Tryz.prog tau panL Tryz.f83 an83 [.pointer r_1] K X = g83 r_1 K X := by kernel_rfl
theorem c83 (r_1 : Option Addr) {K X : Value -> H -> Prop} {σ : H} (h : g83 r_1 K X σ) : callX Tryz.prog 83 [.pointer r_1] K X σ := callX_of_body mixed Tryz.func83 (by rw [e83]; exact h)

def an88 : Ann := (.q (.q (.q (.q (.n (.blk (.loop [(0,.s),(2,.p),(3,.p),(4,.p),(5,.sc .map)] (.n (.q (.cond .z .z)) (.blk (.q (.q (.q (.q (.q (.q (.q .r))))))))))) (.q (.q (.q .z))))))))
def g88 (s_1 : ByteArray) (K X : Value -> H -> Prop) : H -> Prop :=
 alW (.cells ⟨[.string (⟨⟨[]⟩⟩ : ByteArray), .slice none 0 0, .slice none 0 0, .string (⟨⟨[]⟩⟩ : ByteArray)]⟩ 113 (0, 0)) (fun (b2 : Nat) =>
  alW (.cells ⟨[.nilIface]⟩ 115 (0, 0)) (fun (b3 : Nat) =>
   alW (.cells ⟨[.string (⟨⟨[]⟩⟩ : ByteArray), .slice none 0 0, .slice none 0 0, .string (⟨⟨[]⟩⟩ : ByteArray), .int .i64 0, .string (⟨⟨[]⟩⟩ : ByteArray)]⟩ 166 (0, 0)) (fun (b4 : Nat) =>
    alW (.map #[] 0) (fun (b5 : Nat) =>
     muW Tryz.prog 167 (.map (some b5)) (.string (⟨⟨[100, 114, 118]⟩⟩ : ByteArray)) (.func (.func 133) ⟨[.pointer (some ⟨b4, 0, none⟩)]⟩ ⟨[]⟩) (muW Tryz.prog 167 (.map (some b5)) (.string (⟨⟨[105, 110]⟩⟩ : ByteArray)) (.func (.func 134) ⟨[.pointer (some ⟨b4, 0, none⟩)]⟩ ⟨[]⟩) (muW Tryz.prog 167 (.map (some b5)) (.string (⟨⟨[101, 110, 118]⟩⟩ : ByteArray)) (.func (.func 135) ⟨[.pointer (some ⟨b4, 0, none⟩)]⟩ ⟨[]⟩) (muW Tryz.prog 167 (.map (some b5)) (.string (⟨⟨[114, 117, 110]⟩⟩ : ByteArray)) (.func (.func 136) ⟨[.pointer (some ⟨b4, 0, none⟩)]⟩ ⟨[]⟩) (loopW [.sc .str, .sc .ptr, .sc .ptr, .sc .ptr, .sc .map] (fun (R6 : ByteArray -> Option Addr -> Option Addr -> Option Addr -> Option Nat -> H -> Prop) => (fun (s_7 : ByteArray) (d_8 : Option Addr) (err_9 : Option Addr) (r_10 : Option Addr) (says_11 : Option Nat) =>
      ptrW r_10 (fun (b12 o13 : Nat) =>
       rdT (rdC b12 (o13 + 5)) kS (fun (x14 : ByteArray) =>
        brW (!strEq x14 (⟨⟨[114, 117, 110]⟩⟩ : ByteArray))
        (callT Tryz.prog 137 [.string s_7, .string (⟨⟨[10]⟩⟩ : ByteArray)] (.tup [.sc .str, .sc .str, .sc .bool]) (fun (x15 : ByteArray) (x16 : ByteArray) (x17 : Bool) =>
         callT Tryz.prog 138 [.string x15, .string (⟨⟨[32]⟩⟩ : ByteArray)] kL (fun (x18 : Sl) =>
          ptrW x18.base (fun (b19 o20 : Nat) =>
           ifW (0 <= (0 : Int) /\ (0 : Int) < ((x18.len : Nat) : Int))
           (rdT (rdC b19 (o20 + (0 : Int).toNat * 1)) kS (fun (x21 : ByteArray) =>
            rdT (rdM .string (.nilFunc) true says_11 (.string x21)) (.tup [.sc .raw, .sc .bool]) (fun (x22 : Value) (x23 : Bool) =>
             callXT Tryz.prog 139 [.pointer r_10, .bool x23, .int .i64 18] kU (cvalXT Tryz.prog panL x22 [.slice x18.base x18.len x18.cap] kU (callXT Tryz.prog 139 [.pointer r_10, .bool x17, .int .i64 4] kU (ptrW x18.base (fun (b54 o55 : Nat) =>
              ifW (0 <= (0 : Int) /\ (0 : Int) < ((x18.len : Nat) : Int))
              (rdT (rdC b54 (o55 + (0 : Int).toNat * 1)) kS (fun (x56 : ByteArray) =>
              ptrW r_10 (fun (b57 o58 : Nat) =>
              stW Tryz.prog 9 (.pointer (some ⟨b57, o58 + 5, none⟩)) (.string x56) (ptrW r_10 (fun (b59 o60 : Nat) =>
              rdT (rdC b59 (o60 + 4)) kI (fun (x61 : Int) =>
              ptrW r_10 (fun (b62 o63 : Nat) =>
              stW Tryz.prog 3 (.pointer (some ⟨b62, o63 + 4, none⟩)) (.int .i64 (IntKind.i64.wrap (x61 + 1))) (R6 x16 d_8 err_9 r_10 says_11)))))))))) (fun (v53 : Value) => callD Tryz.prog 132 [.pointer (some ⟨b2, 0, none⟩), .pointer (some ⟨b3, 0, none⟩)] (.pan v53) (mdK (ptrW d_8 (fun (b44 o45 : Nat) =>
              rdT (rdA 4 b44 o45) (.one (.agg [.str, .slc, .slc, .str])) (fun (r46 : ByteArray) (r47 : Sl) (r48 : Sl) (r49 : ByteArray) =>
              ptrW err_9 (fun (b50 o51 : Nat) =>
              rdT (rdC b50 o51) kR (fun (r52 : Value) =>
              K (.tuple ⟨[.agg ⟨[.string r46, .slice r47.base r47.len r47.cap, .slice r48.base r48.len r48.cap, .string r49]⟩, r52]⟩)))))) X))) (fun (v43 : Value) => callD Tryz.prog 132 [.pointer (some ⟨b2, 0, none⟩), .pointer (some ⟨b3, 0, none⟩)] (.pan v43) (mdK (ptrW d_8 (fun (b34 o35 : Nat) =>
              rdT (rdA 4 b34 o35) (.one (.agg [.str, .slc, .slc, .str])) (fun (r36 : ByteArray) (r37 : Sl) (r38 : Sl) (r39 : ByteArray) =>
              ptrW err_9 (fun (b40 o41 : Nat) =>
              rdT (rdC b40 o41) kR (fun (r42 : Value) =>
              K (.tuple ⟨[.agg ⟨[.string r36, .slice r37.base r37.len r37.cap, .slice r38.base r38.len r38.cap, .string r39]⟩, r42]⟩)))))) X))) (fun (v33 : Value) => callD Tryz.prog 132 [.pointer (some ⟨b2, 0, none⟩), .pointer (some ⟨b3, 0, none⟩)] (.pan v33) (mdK (ptrW d_8 (fun (b24 o25 : Nat) =>
              rdT (rdA 4 b24 o25) (.one (.agg [.str, .slc, .slc, .str])) (fun (r26 : ByteArray) (r27 : Sl) (r28 : Sl) (r29 : ByteArray) =>
              ptrW err_9 (fun (b30 o31 : Nat) =>
              rdT (rdC b30 o31) kR (fun (r32 : Value) =>
              K (.tuple ⟨[.agg ⟨[.string r26, .slice r27.base r27.len r27.cap, .slice r28.base r28.len r28.cap, .string r29]⟩, r32]⟩)))))) X)))))))))
        (callXT Tryz.prog 139 [.pointer r_10, .bool (decide ((((s_7.size : Nat) : Int) : Int) <= 4000)), .int .i64 3] kU (ptrW r_10 (fun (b74 o75 : Nat) =>
         stW Tryz.prog 9 (.pointer (some ⟨b74, o75 + 3, none⟩)) (.string s_7) (ptrW r_10 (fun (b76 o77 : Nat) =>
          rdT (rdA 4 b76 o77) (.one (.agg [.str, .slc, .slc, .str])) (fun (x78 : ByteArray) (x79 : Sl) (x80 : Sl) (x81 : ByteArray) =>
           stW Tryz.prog 113 (.pointer d_8) (.agg ⟨[.string x78, .slice x79.base x79.len x79.cap, .slice x80.base x80.len x80.cap, .string x81]⟩) (stW Tryz.prog 115 (.pointer err_9) (.nilIface) (callD Tryz.prog 132 [.pointer (some ⟨b2, 0, none⟩), .pointer (some ⟨b3, 0, none⟩)] .ret (mdK (ptrW d_8 (fun (b82 o83 : Nat) =>
            rdT (rdA 4 b82 o83) (.one (.agg [.str, .slc, .slc, .str])) (fun (r84 : ByteArray) (r85 : Sl) (r86 : Sl) (r87 : ByteArray) =>
            ptrW err_9 (fun (b88 o89 : Nat) =>
            rdT (rdC b88 o89) kR (fun (r90 : Value) =>
            K (.tuple ⟨[.agg ⟨[.string r84, .slice r85.base r85.len r85.cap, .slice r86.base r86.len r86.cap, .string r87]⟩, r90]⟩)))))) X)))))))) (fun (v73 : Value) => callD Tryz.prog 132 [.pointer (some ⟨b2, 0, none⟩), .pointer (some ⟨b3, 0, none⟩)] (.pan v73) (mdK (ptrW d_8 (fun (b64 o65 : Nat) =>
          rdT (rdA 4 b64 o65) (.one (.agg [.str, .slc, .slc, .str])) (fun (r66 : ByteArray) (r67 : Sl) (r68 : Sl) (r69 : ByteArray) =>
           ptrW err_9 (fun (b70 o71 : Nat) =>
            rdT (rdC b70 o71) kR (fun (r72 : Value) =>
             K (.tuple ⟨[.agg ⟨[.string r66, .slice r67.base r67.len r67.cap, .slice r68.base r68.len r68.cap, .string r69]⟩, r72]⟩)))))) X))))))) (fun (R91 : ByteArray -> Option Addr -> Option Addr -> Option Addr -> Option Nat -> H -> Prop) => R91 s_1 (some ⟨b2, 0, none⟩) (some ⟨b3, 0, none⟩) (some ⟨b4, 0, none⟩) (some b5))))))))))
theorem e88 (s_1 : ByteArray) (K X : Value -> H -> Prop) : body5 Tryz.prog tau panL Tryz.f88 an88 [.string s_1] K X = g88 s_1 K X := by kernel_rfl
theorem c88 (s_1 : ByteArray) {K X : Value -> H -> Prop} {σ : H} (h : g88 s_1 K X σ) : callX Tryz.prog 88 [.string s_1] K X σ := callX_of_body5 mixed Tryz.func88 (by rw [e88]; exact h)

def an125 : Ann := (.q (.q .r))
def g125 (r_1 : Option Addr) (n_2 : Option Addr) (K X : Value -> H -> Prop) : H -> Prop :=
 ptrW r_1 (fun (b3 o4 : Nat) =>
  rdT (rdC b3 o4) kP (fun (x5 : Option Addr) =>
   callT Tryz.prog 122 [.pointer x5] (.one (.sc (.int .u64))) (fun (x6 : Int) =>
    callXT Tryz.prog 81 [.bool (decide ((x6 : Int) <= 1))] kU (ptrW r_1 (fun (b7 o8 : Nat) =>
     rdT (rdC b7 o8) kP (fun (x9 : Option Addr) =>
      callT Tryz.prog 82 [.pointer x9] kS (fun (x10 : ByteArray) =>
       ptrW n_2 (fun (b11 o12 : Nat) =>
        stW Tryz.prog 4 (.pointer (some ⟨b11, o12 + 2, none⟩)) (.bool ((x6 : Int) == 1)) (ptrW n_2 (fun (b13 o14 : Nat) =>
         stW Tryz.prog 9 (.pointer (some ⟨b13, o14 + 3, none⟩)) (.string x10) (K (.tuple ⟨[]⟩))))))))) X)))
theorem e125 (r_1 : Option Addr) (n_2 : Option Addr) (K X : Value -> H -> Prop) : bodyX Tryz.prog tau panL Tryz.f125 an125 [.pointer r_1, .pointer n_2] K X = g125 r_1 n_2 K X := by kernel_rfl
theorem c125 (r_1 : Option Addr) (n_2 : Option Addr) {K X : Value -> H -> Prop} {σ : H} (h : g125 r_1 n_2 K X σ) : callX Tryz.prog 125 [.pointer r_1, .pointer n_2] K X σ := callX_of_body mixed Tryz.func125 (by rw [e125]; exact h)

def an127 : Ann := (.q (.seq (some [(0,.p),(1,.p),(4,.sc (.int .u64))]) .r (.q (.n (.q (.blk (.loop [(0,.p),(1,.p),(29,.sc (.int .u64)),(30,.sc (.int .u64))] (.q (.n (.cond .z .z) (.seq (some [(0,.p),(1,.p),(29,.sc (.int .u64)),(30,.sc (.int .u64))]) (.blk (.q (.q (.q (.reg2 [0,1,2,3,4,5,6,7,8,10,11] 9 [12] 12 [9] [[],[0],[0,1],[0,1,2],[],(rn 4),[],(rn 7),(rn 8),(rn 9),(rn 8),[0,1,2,3,4,5,6,7,10],[0,1,2,3,4,5,6,7,10,11]]))))) .r)))))) .r))))
def g127 (r_1 : Option Addr) (n_2 : Option Addr) (K X : Value -> H -> Prop) : H -> Prop :=
 ptrW r_1 (fun (b3 o4 : Nat) =>
  rdT (rdC b3 o4) kP (fun (x5 : Option Addr) =>
   callT Tryz.prog 122 [.pointer x5] (.one (.sc (.int .u64))) (fun (x6 : Int) =>
    letJ (T := Option Addr -> Option Addr -> Int -> H -> Prop) (fun (r_8 : Option Addr) (n_9 : Option Addr) (k_10 : Int) =>
     ptrW r_8 (fun (b11 o12 : Nat) =>
      rdT (rdC b11 (o12 + 1)) kI (fun (x13 : Int) =>
       ptrW r_8 (fun (b14 o15 : Nat) =>
        stW Tryz.prog 3 (.pointer (some ⟨b14, o15 + 1, none⟩)) (.int .i64 (IntKind.i64.wrap (x13 + 1))) (loopW [.sc .ptr, .sc .ptr, .sc (.int .u64), .sc (.int .u64)] (fun (R16 : Option Addr -> Option Addr -> Int -> Int -> H -> Prop) => (fun (r_17 : Option Addr) (n_18 : Option Addr) (x19 : Int) (x20 : Int) =>
         brW (decide ((x20 : Int) < x19))
         (letJ (T := Option Addr -> Option Addr -> Int -> Int -> H -> Prop) (fun (r_22 : Option Addr) (n_23 : Option Addr) (x24 : Int) (x25 : Int) =>
          R16 r_22 n_23 x24 (IntKind.u64.wrap (x25 + 1))) (fun j21 =>
          ptrW r_17 (fun (b26 o27 : Nat) =>
           rdT (rdC b26 o27) kP (fun (x28 : Option Addr) =>
            callT Tryz.prog 82 [.pointer x28] kS (fun (x29 : ByteArray) =>
             callXT Tryz.prog 83 [.pointer r_17] (.one (.agg [.str, (.int .i64), .bool, .str, .slc])) (fun (x30 : ByteArray) (x31 : Int) (x32 : Bool) (x33 : ByteArray) (x34 : Sl) =>
              alW (.cells ⟨[.string (⟨⟨[]⟩⟩ : ByteArray), .int .i64 0, .bool false, .string (⟨⟨[]⟩⟩ : ByteArray), .slice none 0 0]⟩ 75 (0, 0)) (fun (b35 : Nat) =>
               stW Tryz.prog 75 (.pointer (some ⟨b35, 0, none⟩)) (.agg ⟨[.string x30, .int .i64 x31, .bool x32, .string x33, .slice x34.base x34.len x34.cap]⟩) (stW Tryz.prog 9 (.pointer (some ⟨b35, 0, none⟩)) (.string x29) (ptrW n_18 (fun (b36 o37 : Nat) =>
                rdT (rdC b36 (o37 + 4)) kL (fun (x38 : Sl) =>
                rdT (rdA 5 b35 0) (.one (.agg [.str, (.int .i64), .bool, .str, .slc])) (fun (x39 : ByteArray) (x40 : Int) (x41 : Bool) (x42 : ByteArray) (x43 : Sl) =>
                alW (.cells ⟨[.string (⟨⟨[]⟩⟩ : ByteArray), .int .i64 0, .bool false, .string (⟨⟨[]⟩⟩ : ByteArray), .slice none 0 0]⟩ 75 (0, 0)) (fun (b44 : Nat) =>
                biW Tryz.prog .append #[73, 73] 73 [false, false] [.slice x38.base x38.len x38.cap, .slice (some ⟨b44, 0, none⟩) 1 1] kL (fun (x45 : Sl) =>
                ptrW x45.base (fun (b46 o47 : Nat) =>
                ifW (0 <= ((x38.len : Nat) : Int) /\ ((x38.len : Nat) : Int) < ((x45.len : Nat) : Int))
                (ptrW n_18 (fun (b48 o49 : Nat) =>
                bothW
                (stW Tryz.prog 75 (.pointer (some ⟨b46, o47 + (((x38.len : Nat) : Int) : Int).toNat * 5, none⟩)) (.agg ⟨[.string x39, .int .i64 x40, .bool x41, .string x42, .slice x43.base x43.len x43.cap]⟩) (stW Tryz.prog 73 (.pointer (some ⟨b48, o49 + 4, none⟩)) (.slice x45.base x45.len x45.cap) (j21 r_17 n_18 x19 x20)))
                (stW Tryz.prog 73 (.pointer (some ⟨b48, o49 + 4, none⟩)) (.slice x45.base x45.len x45.cap) (stW Tryz.prog 75 (.pointer (some ⟨b46, o47 + (((x38.len : Nat) : Int) : Int).toNat * 5, none⟩)) (.agg ⟨[.string x39, .int .i64 x40, .bool x41, .string x42, .slice x43.base x43.len x43.cap]⟩) (j21 r_17 n_18 x19 x20))))))))))))))) X)))))
         (ptrW r_17 (fun (b50 o51 : Nat) =>
          rdT (rdC b50 (o51 + 1)) kI (fun (x52 : Int) =>
           ptrW r_17 (fun (b53 o54 : Nat) =>
            stW Tryz.prog 3 (.pointer (some ⟨b53, o54 + 1, none⟩)) (.int .i64 (IntKind.i64.wrap (x52 - 1))) (K (.tuple ⟨[]⟩)))))))) (fun (R55 : Option Addr -> Option Addr -> Int -> Int -> H -> Prop) => R55 r_8 n_9 k_10 0)))))) (fun j7 =>
     brW (decide ((x6 : Int) <= 2000))
     (ptrW r_1 (fun (b56 o57 : Nat) =>
      rdT (rdC b56 (o57 + 1)) kI (fun (x58 : Int) =>
       callXT Tryz.prog 81 [.bool (decide ((x58 : Int) <= 12))] kU (j7 r_1 n_2 x6) X)))
     (callXT Tryz.prog 81 [.bool false] kU (j7 r_1 n_2 x6) X)))))
theorem e127 (r_1 : Option Addr) (n_2 : Option Addr) (K X : Value -> H -> Prop) : bodyX Tryz.prog tau panL Tryz.f127 an127 [.pointer r_1, .pointer n_2] K X = g127 r_1 n_2 K X := by kernel_rfl
theorem c127 (r_1 : Option Addr) (n_2 : Option Addr) {K X : Value -> H -> Prop} {σ : H} (h : g127 r_1 n_2 K X σ) : callX Tryz.prog 127 [.pointer r_1, .pointer n_2] K X σ := callX_of_body mixed Tryz.func127 (by rw [e127]; exact h)

def an132 : Ann := (.q (.q (.cond (.q (.n (.q (.cond .r .z)) .r)) .z)))
def g132 (x1 : Option Addr) (x2 : Option Addr) (m : Md) (K : H -> Prop) (X : Value -> H -> Prop) : H -> Prop :=
 vaW Tryz.prog (do eqGuard .neq 20 (.tmp 6) (.const (.nilIface)) ((Md.rv m)) (.nilIface); binOp .neq 20 ((Md.rv m)) (.nilIface)) kB (fun (x3 : Bool) =>
  brW x3
  (vaW Tryz.prog (Instr.typeAssert ((Md.rv m)) 20 161 true) (.tup [.agg [(.int .i64), (.int .i64)], .sc .bool]) (fun (x4 : Int) (x5 : Int) (x6 : Bool) =>
   alW (.cells ⟨[.int .i64 0, .int .i64 0]⟩ 161 (0, 0)) (fun (b7 : Nat) =>
    stW Tryz.prog 161 (.pointer (some ⟨b7, 0, none⟩)) (.agg ⟨[.int .i64 x4, .int .i64 x5]⟩) (brW (!x6)
     (panW X ((Md.rv m)))
     (stW Tryz.prog 113 (.pointer x1) (.agg ⟨[.string (⟨⟨[]⟩⟩ : ByteArray), .slice none 0 0, .slice none 0 0, .string (⟨⟨[]⟩⟩ : ByteArray)]⟩) (stW Tryz.prog 115 (.pointer x2) (.iface 163 (.pointer (some ⟨b7, 0, none⟩))) (K)))))))
  (K))
theorem e132 (x1 : Option Addr) (x2 : Option Addr) (m : Md) (K : H -> Prop) (X : Value -> H -> Prop) : recF Tryz.prog tau Tryz.f132 an132 [.pointer x1, .pointer x2] m K X = g132 x1 x2 m K X := by kernel_rfl
theorem c132 (x1 : Option Addr) (x2 : Option Addr) (m : Md) {K : Md -> H -> Prop} {σ : H} (h : g132 x1 x2 m (K .ret) (fun _ _ => False) σ) : callD Tryz.prog 132 [.pointer x1, .pointer x2] m K σ := callD_of_rec mixed Tryz.func132 (by rw [e132]; exact h)

def an139 : Ann := (.q (.cond .r .z))
def g139 (r_1 : Option Addr) (is_2 : Bool) (e_3 : Int) (K X : Value -> H -> Prop) : H -> Prop :=
 brW (!is_2)
 (ptrW r_1 (fun (b4 o5 : Nat) =>
  rdT (rdC b4 (o5 + 4)) kI (fun (x6 : Int) =>
   panW X (.iface 161 (.agg ⟨[.int .i64 e_3, .int .i64 x6]⟩)))))
 (K (.tuple ⟨[]⟩))
theorem e139 (r_1 : Option Addr) (is_2 : Bool) (e_3 : Int) (K X : Value -> H -> Prop) : bodyX Tryz.prog tau panL Tryz.f139 an139 [.pointer r_1, .bool is_2, .int .i64 e_3] K X = g139 r_1 is_2 e_3 K X := by kernel_rfl
theorem c139 (r_1 : Option Addr) (is_2 : Bool) (e_3 : Int) {K X : Value -> H -> Prop} {σ : H} (h : g139 r_1 is_2 e_3 K X σ) : callX Tryz.prog 139 [.pointer r_1, .bool is_2, .int .i64 e_3] K X σ := callX_of_body mixed Tryz.func139 (by rw [e139]; exact h)

end Go.Proofs.YtgfiobhpipollaaGreatDoor

namespace Go.HL
open Go
section
variable {P : Program} {σ : H} {X : Value -> H -> Prop} {pan : List Nat} {t : TK} {F : t.Fn (H -> Prop)}
theorem va_run {s : Sem Value} {v : Value} (h : ∀ w, s.run P w = .ok v w) (hF : app t F v σ) : vaW P s t F σ := by
 intro w hw
 simp only [valS, Sem.run_bind, h w, Result.andThen_ok, Sem.run_pure]
 exact ⟨_, Ext.refl hw, hF⟩
theorem callX_i {f : FuncId} {args : List Value} (h : callX P f args (app t F) X σ) : callXT P f args t F X σ := h
theorem cvalX_pan {g : FuncId} {as0 cs vs : List Value} (hp : elemB g pan = true) (hg : isGo P g = true) (h : callX P g (as0 ++ vs ++ cs) (app t F) X σ) : cvalXT P pan (.func (.func g) ⟨as0⟩ ⟨cs⟩) vs t F X σ := by
 unfold cvalXT callVP
 simp only [hp, hg]; exact h
theorem cvalX_go {g : FuncId} {as0 cs vs : List Value} (hp : elemB g pan = false) (hg : isGo P g = true) (h : callW P g (as0 ++ vs ++ cs) (app t F) σ) : cvalXT P pan (.func (.func g) ⟨as0⟩ ⟨cs⟩) vs t F X σ := by
 unfold cvalXT callVP
 simp only [hp]
 unfold callVW
 simp only [hg]; exact h
end
end Go.HL

namespace Go.Wk
open Go Go.HL
def kidsP (nd : RdP -> Option (Tr × RdP)) : Nat -> RdP -> Option (List Tr × RdP)
 | 0, r => some ([], r)
 | k + 1, r => match nd r.text.2 with
  | none => none
  | some (t, r2) => match kidsP nd k r2 with
   | none => none
   | some (l, r3) => some (t.named ⟨⟨r.text.1⟩⟩ :: l, r3)
def fileP (r : RdP) : Option (Tr × RdP) := if r.num.1 > 1 then none else if r.num.2.text.2.lost then none else some (.mk ⟨⟨[]⟩⟩ 1 (r.num.1 == 1) ⟨⟨r.num.2.text.1⟩⟩ [], r.num.2.text.2)
def linkP (r : RdP) : Option (Tr × RdP) := if r.text.2.lost then none else some (.mk ⟨⟨[]⟩⟩ 3 false ⟨⟨r.text.1⟩⟩ [], r.text.2)
def dirP (nd : RdP -> Option (Tr × RdP)) (r : RdP) : Option (Tr × RdP) := if r.num.1 > 2000 then none else match kidsP nd r.num.1.toNat r.num.2 with
 | none => none
 | some (l, r2) => if r2.lost then none else some (.mk ⟨⟨[]⟩⟩ 2 false ⟨⟨[]⟩⟩ l, r2)
def nodeP : Nat -> RdP -> Option (Tr × RdP)
 | 0, r => if r.num.1 == 1 then fileP r.num.2 else if r.num.1 == 3 then linkP r.num.2 else none
 | f + 1, r => if r.num.1 == 1 then fileP r.num.2 else if r.num.1 == 3 then linkP r.num.2 else if r.num.1 == 2 then dirP (nodeP f) r.num.2 else none
def decodeP (s : List UInt8) : Option Tr :=
 let r0 : RdP := ⟨s, false⟩
 if r0.text.1 = magicL then match nodeP 13 r0.text.2 with
  | none => none
  | some (t, r) => if !r.lost && r.left.isEmpty && ((encodeP t).2 == 0 && (encodeP t).1 == s) then some t else none
 else none
theorem take_left_le (r : RdP) (k : Nat) : (r.take k).2.left.length <= r.left.length := by
 unfold RdP.take; split <;> simp
theorem num_left_le (r : RdP) : r.num.2.left.length <= r.left.length := take_left_le r _
theorem text_left_le (r : RdP) : r.text.2.left.length <= r.left.length := by
 unfold RdP.text; split
 ·exact num_left_le r
 ·exact Nat.le_trans (take_left_le _ _) (num_left_le r)
theorem kidsP_left (nd : RdP -> Option (Tr × RdP)) (h : ∀ r t r', nd r = some (t, r') -> r'.left.length <= r.left.length) : ∀ (k : Nat) (r : RdP) (l : List Tr) (r' : RdP), kidsP nd k r = some (l, r') -> r'.left.length <= r.left.length := by
 intro k
 induction k with
 | zero => intro r l r' h; cases h; exact Nat.le_refl _
 | succ k ih =>
  intro r l r' hk
  unfold kidsP at hk
  split at hk
  ·cases hk
  ·rename_i t r2 h1
   split at hk
   ·cases hk
   ·rename_i l' r3 h2
    cases hk
    exact Nat.le_trans (ih r2 l' r' h2) (Nat.le_trans (h _ _ _ h1) (text_left_le r))
theorem nodeP_left : ∀ (f : Nat) (r : RdP) (t : Tr) (r' : RdP), nodeP f r = some (t, r') -> r'.left.length <= r.left.length := by
 have hf : ∀ (r : RdP) (t : Tr) (r' : RdP), fileP r = some (t, r') -> r'.left.length <= r.left.length := by
  intro r t r' h
  unfold fileP at h
  split at h
  ·cases h
  ·split at h
   ·cases h
   ·cases h; exact Nat.le_trans (text_left_le _) (num_left_le r)
 have hl : ∀ (r : RdP) (t : Tr) (r' : RdP), linkP r = some (t, r') -> r'.left.length <= r.left.length := by
  intro r t r' h
  unfold linkP at h
  split at h
  ·cases h
  ·cases h; exact text_left_le r
 intro f
 induction f with
 | zero =>
  intro r t r' h
  unfold nodeP at h
  split at h
  ·exact Nat.le_trans (hf _ _ _ h) (num_left_le r)
  ·split at h
   ·exact Nat.le_trans (hl _ _ _ h) (num_left_le r)
   ·cases h
 | succ f ih =>
  intro r t r' h
  unfold nodeP at h
  split at h
  ·exact Nat.le_trans (hf _ _ _ h) (num_left_le r)
  ·split at h
   ·exact Nat.le_trans (hl _ _ _ h) (num_left_le r)
   ·split at h
    ·unfold dirP at h
     split at h
     ·cases h
     ·split at h
      ·cases h
      ·rename_i l r2 hk
       split at h
       ·cases h
       ·cases h
        exact Nat.le_trans (kidsP_left _ ih _ _ _ _ hk) (Nat.le_trans (num_left_le _) (num_left_le r))
    ·cases h
theorem take_sum_le (r : RdP) (k : Nat) : (r.take k).1.length + (r.take k).2.left.length <= r.left.length := by
 unfold RdP.take; split
 ·simp
 ·simp; omega
theorem text_sum_le (r : RdP) : r.text.1.length + r.text.2.left.length <= r.left.length := by
 unfold RdP.text; split
 ·have := num_left_le r; simpa using this
 ·have := num_left_le r; have := take_sum_le r.num.2 (min r.num.1.toNat (r.num.2.left.length + 1)); omega
theorem num_pos_le (r : RdP) (h : r.num.1 ≠ 0) : r.num.2.left.length + 1 <= r.left.length := by
 unfold RdP.num RdP.take at h ⊢
 split
 ·rename_i hc; rw [if_pos hc] at h; exact absurd rfl h
 ·rename_i hc; simp only [not_or] at hc
  show (r.left.drop _).length + 1 <= _
  rw [List.length_drop]; omega
theorem named_total (t : Tr) (n : ByteArray) : (t.named n).total + t.name.size = t.total + n.size := by
 obtain ⟨a, b, c, d, e⟩ := t
 simp only [Tr.named, Tr.total, Tr.name]; omega
theorem named_kids (t : Tr) (n : ByteArray) : (t.named n).kids = t.kids := by obtain ⟨a, b, c, d, e⟩ := t; rfl
theorem kidsP_total (nd : RdP -> Option (Tr × RdP)) (h : ∀ r t r', nd r = some (t, r') -> t.total + r'.left.length <= r.left.length) : ∀ (k : Nat) (r : RdP) (l : List Tr) (r' : RdP), kidsP nd k r = some (l, r') -> Tr.totalRow l + r'.left.length <= r.left.length := by
 intro k
 induction k with
 | zero => intro r l r' h; cases h; simp [Tr.totalRow]
 | succ k ih =>
  intro r l r' hk
  unfold kidsP at hk
  split at hk
  ·cases hk
  ·rename_i t r2 h1
   split at hk
   ·cases hk
   ·rename_i l' r3 h2
    cases hk
    have a1 := ih r2 l' r' h2
    have a2 := h _ _ _ h1
    have a3 := text_sum_le r
    have a4 := named_total t ⟨⟨r.text.1⟩⟩
    have a5 : (⟨⟨r.text.1⟩⟩ : ByteArray).size = r.text.1.length := rfl
    simp only [Tr.totalRow]; omega
theorem nodeP_total : ∀ (f : Nat) (r : RdP) (t : Tr) (r' : RdP), nodeP f r = some (t, r') -> t.total + r'.left.length <= r.left.length := by
 have hf : ∀ (r : RdP) (t : Tr) (r' : RdP), fileP r = some (t, r') -> t.total + r'.left.length <= r.left.length + 1 := by
  intro r t r' h
  unfold fileP at h
  split at h
  ·cases h
  ·split at h
   ·cases h
   ·cases h
    have a1 := text_sum_le r.num.2
    have a2 := num_left_le r
    have a5 : (⟨⟨r.num.2.text.1⟩⟩ : ByteArray).size = r.num.2.text.1.length := rfl
    have a6 : (⟨⟨[]⟩⟩ : ByteArray).size = 0 := rfl
    simp only [Tr.total, Tr.totalRow]; omega
 have hl : ∀ (r : RdP) (t : Tr) (r' : RdP), linkP r = some (t, r') -> t.total + r'.left.length <= r.left.length + 1 := by
  intro r t r' h
  unfold linkP at h
  split at h
  ·cases h
  ·cases h
   have a1 := text_sum_le r
   have a5 : (⟨⟨r.text.1⟩⟩ : ByteArray).size = r.text.1.length := rfl
   have a6 : (⟨⟨[]⟩⟩ : ByteArray).size = 0 := rfl
   simp only [Tr.total, Tr.totalRow]; omega
 have nz : ∀ (r : RdP) (k : Int), k ≠ 0 -> (r.num.1 == k) = true -> r.num.2.left.length + 1 <= r.left.length := by
  intro r k hk h
  exact num_pos_le r (by have := eq_of_beq h; omega)
 intro f
 induction f with
 | zero =>
  intro r t r' h
  unfold nodeP at h
  split at h
  ·rename_i h1; have := hf _ _ _ h; have := nz r 1 (by decide) h1; omega
  ·split at h
   ·rename_i h1; have := hl _ _ _ h; have := nz r 3 (by decide) h1; omega
   ·cases h
 | succ f ih =>
  intro r t r' h
  unfold nodeP at h
  split at h
  ·rename_i h1; have := hf _ _ _ h; have := nz r 1 (by decide) h1; omega
  ·split at h
   ·rename_i h1; have := hl _ _ _ h; have := nz r 3 (by decide) h1; omega
   ·split at h
    ·rename_i h1
     have h0 := nz r 2 (by decide) h1
     unfold dirP at h
     split at h
     ·cases h
     ·split at h
      ·cases h
      ·rename_i l r2 hk
       split at h
       ·cases h
       ·cases h
        have a1 := kidsP_total _ ih _ _ _ _ hk
        have a2 := num_left_le r.num.2
        have a6 : (⟨⟨[]⟩⟩ : ByteArray).size = 0 := rfl
        simp only [Tr.total]; omega
    ·cases h
def decT (s : List UInt8) : Tr × Int := match decodeP s with
 | some t => (t, 0)
 | none => (.mk ⟨⟨[]⟩⟩ 0 false ⟨⟨[]⟩⟩ [], 4)
end Go.Wk

set_option maxRecDepth 100000
namespace Go.Proofs.YtgfiobhpipollaaGreatDoor
open Go Go.HL Go.Wk
attribute [local irreducible] ptrW ifW brW andW rdT alW letJ stW muW biW vaW imW callT cvalT app callW invW callVW sizeT oW nilF oneK loopW rfW funW begW roundK exW idxW Gr Put
attribute [local irreducible] callXT cvalXT callX callD
def wrongV : Value := .iface 100 (.agg ⟨[]⟩)
theorem s_naMust (is : Bool) {K X : Value -> H -> Prop} {σ : H} (hK : is = true -> K (.tuple ⟨[]⟩) σ) (hX : is = false -> X wrongV σ) : callX Tryz.prog 81 [.bool is] K X σ := by
 refine c81 _ ?_
 unfold g81
 exact br_i (fun h => hX (by simpa using h)) (fun h => hK (by simpa using h))
theorem must_i (is : Bool) {F : H -> Prop} {X : Value -> H -> Prop} {σ : H} (hK : is = true -> F σ) (hX : is = false -> X wrongV σ) : callXT Tryz.prog 81 [.bool is] kU F X σ := callX_i (s_naMust is (fun h => app_U (hK h)) hX)
theorem RdAt.skip {σ σ' : H} {b G c : Nat} {r : RdP} {cur : List Value} {ty : TypeId} {fz : Nat × Nat} (h : RdAt σ b G r) (hc : σ c = some (.cells ⟨cur⟩ ty fz)) (hno : ∀ v ∈ cur, ∀ n, v ≠ .int .u8 n) (hne : c ≠ b) (hk : ∀ d o, d ≠ c -> σ d = some o -> σ' d = some o) : RdAt σ' b G r := by
 obtain ⟨x, h1, h2, h3, h4⟩ := h
 refine ⟨x, hk _ _ (Ne.symm hne) h1, ?_, h3, h4⟩
 obtain ⟨q1, q2 | ⟨g, o, cu, t, fz', q3, q4, q5⟩⟩ := h2
 ·exact ⟨q1, .inl q2⟩
 ·by_cases e : r.left = []
  ·exact ⟨q1, .inl (by rw [e]; rfl)⟩
  ·refine ⟨q1, .inr ⟨g, o, cu, t, fz', q3, hk _ _ ?_ q4, q5⟩⟩
   intro eg
   subst eg
   rw [hc] at q4
   cases q4
   obtain ⟨a, l, hl⟩ := List.exists_cons_of_ne_nil e
   have q6 := q5 0 [.int .u8 a.toNat] (by rw [hl]; rfl)
   have hm : Value.int .u8 (a.toNat) ∈ cur := by
    have h1 : Value.int .u8 a.toNat ∈ (cur.drop (o + 0 * 1)).take 1 := by rw [q6.2]; simp
    exact List.mem_of_mem_drop (List.mem_of_mem_take h1)
   exact hno _ hm _ rfl
def NrAt (σ : H) (br bw G : Nat) (d : Int) (r : RdP) : Prop := σ br = some (.cells ⟨[.pointer (some ⟨bw, 0, none⟩), .int .i64 d]⟩ 106 (0, 0)) /\ RdAt σ bw G r /\ br ≠ bw
theorem NrAt.gr {σ σ' : H} {br bw G : Nat} {d : Int} {r : RdP} (h : NrAt σ br bw G d r) (hg : Gr σ σ') : NrAt σ' br bw G d r := ⟨hg.get h.1, h.2.1.keep fun _ _ hc => hg.get hc, h.2.2⟩
theorem NrAt.deep {σ σ' : H} {br bw G : Nat} {d d' : Int} {r : RdP} (h : NrAt σ br bw G d r) (hp : Put σ br (.cells ⟨[.pointer (some ⟨bw, 0, none⟩), .int .i64 d']⟩ 106 (0, 0)) σ') : NrAt σ' br bw G d' r :=
 ⟨hp.same, h.2.1.skip h.1 (by intro v hv n; simp only [List.mem_cons, List.mem_nil_iff, or_false] at hv; rcases hv with rfl | rfl <;> (intro e; cases e)) h.2.2 fun _ _ hd ho => hp.get hd ho, h.2.2⟩
def nd (k : Int) (ex : Bool) (dt : ByteArray) (y : Sl) : List Value := [.string ⟨⟨[]⟩⟩, .int .i64 k, .bool ex, .string dt, .slice y.base y.len y.cap]
theorem nd_no (k : Int) (ex : Bool) (dt : ByteArray) (y : Sl) : ∀ v ∈ nd k ex dt y, ∀ n, v ≠ .int .u8 n := by
 intro v hv n
 unfold nd at hv
 simp only [List.mem_cons, List.mem_nil_iff, or_false] at hv
 rcases hv with rfl | rfl | rfl | rfl | rfl <;> (intro e; cases e)
theorem NrAt.nd {σ σ' : H} {br bw G bn : Nat} {d : Int} {r : RdP} {k : Int} {ex : Bool} {dt : ByteArray} {y : Sl} (h : NrAt σ br bw G d r) (hn : σ bn = some (.cells ⟨nd k ex dt y⟩ 75 (0, 0))) (n1 : bn ≠ br) (n2 : bn ≠ bw) (hk : ∀ d o, d ≠ bn -> σ d = some o -> σ' d = some o) : NrAt σ' br bw G d r :=
 ⟨hk _ _ n1.symm h.1, h.2.1.skip hn (nd_no k ex dt y) n2 hk, h.2.2⟩
def Kn (a b : Nat) (σ σ' : H) : Prop := ∀ c o, c ≠ a -> c ≠ b -> σ c = some o -> σ' c = some o
def Kn3 (a b n : Nat) (σ σ' : H) : Prop := ∀ c o, c ≠ a -> c ≠ b -> c ≠ n -> σ c = some o -> σ' c = some o
def slN : Sl := ⟨none, 0, 0⟩
section
variable {σ : H} {br bw G bn : Nat} {d k : Int} {r : RdP} {K X : Value -> H -> Prop}
theorem s_nrFile (h : NrAt σ br bw G d r) (hl : r.left.length <= 1000000) (hn : σ bn = some (.cells ⟨nd k false ⟨⟨[]⟩⟩ slN⟩ 75 (0, 0))) (n1 : bn ≠ br) (n2 : bn ≠ bw)
 (hX : r.num.1 > 1 -> ∀ σ', Kn3 br bw bn σ σ' -> X wrongV σ')
 (hK : ¬ r.num.1 > 1 -> ∀ σ', NrAt σ' br bw G d r.num.2.text.2 -> σ' bn = some (.cells ⟨nd k (r.num.1 == 1) ⟨⟨r.num.2.text.1⟩⟩ slN⟩ 75 (0, 0)) -> Kn3 br bw bn σ σ' -> K (.tuple ⟨[]⟩) σ') :
 callX Tryz.prog 125 [.pointer (some ⟨br, 0, none⟩), .pointer (some ⟨bn, 0, none⟩)] K X σ := by
 refine c125 _ _ ?_
 unfold g125
 obtain ⟨h1, h2, h3⟩ := h
 refine ptr_i (rd_P (rdC_of h1 (by rfl)) (call_i (s_wNum h2 (by omega) ?_)))
 intro σ1 r1 k1
 have hnl := num_left_le r
 refine app_I ?_
 refine must_i _ (fun hm => ?_) (fun hm => ?_)
 ·have a1 := k1 br _ h3 h1
  refine ptr_i (rd_P (rdC_of a1 (by rfl)) (call_i (s_wText r1 (by omega) ?_)))
  intro σ2 r2 k2
  have b2 := k2 _ _ n2 (k1 _ _ n2 hn)
  refine app_S (ptr_i ?_)
  refine st_i2 b2 sz_bool (by rfl) (by rfl) ?_
  intro σ3 p3
  refine ptr_i (st_i2 p3.same sz_string' (by rfl) (by rfl) ?_)
  intro σ4 p4
  have N2 : NrAt σ2 br bw G d r.num.2.text.2 := ⟨k2 _ _ h3 a1, r2, h3⟩
  refine hK (by have := of_decide_eq_true hm; omega) σ4 (N2.nd b2 n1 n2 fun d o hd ho => p4.get hd (p3.get hd ho)) p4.same ?_
  exact fun c o _ hb hc ho => p4.get hc (p3.get hc (k2 _ _ hb (k1 _ _ hb ho)))
 ·exact hX (by have := of_decide_eq_false hm; omega) σ1 fun c o _ hb _ hc => k1 c o hb hc
theorem s_nrLink (h : NrAt σ br bw G d r) (hl : r.left.length <= 1000000) (hn : σ bn = some (.cells ⟨nd k false ⟨⟨[]⟩⟩ slN⟩ 75 (0, 0))) (n1 : bn ≠ br) (n2 : bn ≠ bw)
 (hK : ∀ σ', NrAt σ' br bw G d r.text.2 -> σ' bn = some (.cells ⟨nd k false ⟨⟨r.text.1⟩⟩ slN⟩ 75 (0, 0)) -> Kn3 br bw bn σ σ' -> K (.tuple ⟨[]⟩) σ') :
 callW Tryz.prog 126 [.pointer (some ⟨br, 0, none⟩), .pointer (some ⟨bn, 0, none⟩)] K σ := by
 refine c126 _ _ ?_
 unfold g126
 obtain ⟨h1, h2, h3⟩ := h
 refine ptr_i (rd_P (rdC_of h1 (by rfl)) (call_i (s_wText h2 (by omega) ?_)))
 intro σ2 r2 k2
 have b2 := k2 _ _ n2 hn
 refine app_S (ptr_i ?_)
 refine st_i2 b2 sz_string' (by rfl) (by rfl) ?_
 intro σ4 p4
 have N2 : NrAt σ2 br bw G d r.text.2 := ⟨k2 _ _ h3 h1, r2, h3⟩
 refine hK σ4 (N2.nd b2 n1 n2 fun d o hd ho => p4.get hd ho) p4.same ?_
 exact fun c o _ hb hc ho => p4.get hc (k2 _ _ hb ho)
theorem s_nrDir0 (h : NrAt σ br bw G 13 r) (hl : r.left.length <= 1000000) (hX : ∀ σ', Kn3 br bw bn σ σ' -> X wrongV σ') :
 callX Tryz.prog 127 [.pointer (some ⟨br, 0, none⟩), .pointer (some ⟨bn, 0, none⟩)] K X σ := by
 refine c127 _ _ ?_
 unfold g127
 obtain ⟨h1, h2, h3⟩ := h
 refine ptr_i (rd_P (rdC_of h1 (by rfl)) (call_i (s_wNum h2 (by omega) ?_)))
 intro σ1 r1 k1
 refine app_I ?_
 have a1 := k1 br _ h3 h1
 have hx := hX σ1 fun c o _ hb _ hc => k1 c o hb hc
 refine j_i (fun _ => True) trivial ?_
 intro j _
 refine br_i (fun _ => ?_) (fun _ => ?_)
 ·exact ptr_i (rd_I (rdC_of a1 (by rfl)) (must_i _ (fun hm => by cases hm) (fun _ => hx)))
 ·exact must_i _ (fun hm => by cases hm) (fun _ => hx)
end
def NodeOk (f : Nat) : Prop := ∀ (r : RdP) {σ : H} {br bw G : Nat} {d : Int}, NrAt σ br bw G d r -> d + f = 13 -> 0 <= d -> r.left.length <= 1000000 -> ∀ {K X : Value -> H -> Prop},
 (nodeP f r = none -> ∀ σ', Kn br bw σ σ' -> X wrongV σ') ->
 (∀ t r', nodeP f r = some (t, r') -> ∀ y σ' τ', NrAt σ' br bw G d r' -> Kn br bw σ σ' -> Gr τ' σ' -> SlAt τ' t.kids y -> (∀ c, σ c ≠ none -> τ' c = none) -> K (.agg ⟨trC t y⟩) σ') ->
 callX Tryz.prog 83 [.pointer (some ⟨br, 0, none⟩)] K X σ
theorem u64_next {i : Nat} (h : i < 1000000000) : IntKind.u64.wrap ((i : Int) + 1) = ((i + 1 : Nat) : Int) := by rw [u64_id (by omega) (by omega)]; omega
theorem s_nrDir (f : Nat) (ih : NodeOk f) {σ : H} {br bw G bn : Nat} {d k : Int} {r : RdP} {K X : Value -> H -> Prop} (h : NrAt σ br bw G d r) (hd : d + (f + 1) = 13) (hd0 : 0 <= d) (hl : r.left.length <= 1000000) (hn : σ bn = some (.cells ⟨nd k false ⟨⟨[]⟩⟩ slN⟩ 75 (0, 0))) (n1 : bn ≠ br) (n2 : bn ≠ bw)
 (hX : (r.num.1 > 2000 \/ kidsP (nodeP f) r.num.1.toNat r.num.2 = none) -> ∀ σ', Kn3 br bw bn σ σ' -> X wrongV σ')
 (hK : ¬ r.num.1 > 2000 -> ∀ l r', kidsP (nodeP f) r.num.1.toNat r.num.2 = some (l, r') -> ∀ y σ' τ', NrAt σ' br bw G d r' -> σ' bn = some (.cells ⟨nd k false ⟨⟨[]⟩⟩ y⟩ 75 (0, 0)) -> Kn3 br bw bn σ σ' -> Gr τ' σ' -> SlAt τ' l y -> (∀ c, σ c ≠ none -> τ' c = none) -> K (.tuple ⟨[]⟩) σ') :
 callX Tryz.prog 127 [.pointer (some ⟨br, 0, none⟩), .pointer (some ⟨bn, 0, none⟩)] K X σ := by
 refine c127 _ _ ?_
 unfold g127
 obtain ⟨h1, h2, h3⟩ := h
 refine ptr_i (rd_P (rdC_of h1 (by rfl)) (call_i (s_wNum h2 (by omega) ?_)))
 intro σ1 r1 k1
 refine app_I ?_
 have a1 := k1 br _ h3 h1
 have b1 := k1 bn _ n2 hn
 have hnl := num_left_le r
 have hrg : 0 <= r.num.1 := (numV_rng (r.take (rowW r.left)).1).1
 refine j_i (fun j => ¬ r.num.1 > 2000 -> j (some ⟨br, 0, none⟩) (some ⟨bn, 0, none⟩) r.num.1 σ1) ?_ ?_
 ·intro hle
  refine ptr_i (rd_I (rdC_of a1 (by rfl)) (ptr_i ?_))
  rw [wrap_id (x := d + 1) (by omega) (by omega)]
  refine st_i2 a1 sz_int (by rfl) (by rfl) ?_
  intro σ2 p2
  have N1 : NrAt σ1 br bw G d r.num.2 := ⟨a1, r1, h3⟩
  have N2 : NrAt σ2 br bw G (d + 1) r.num.2 := N1.deep p2
  have b2 := p2.get n1 b1
  refine loop_i ?_
  intro R hR
  have key : ∀ (q i : Nat) (rr : RdP) (ts : List Tr) (σ' ρ : H) (z : Sl) (rows : List (List Value)), i + q = r.num.1.toNat -> rows.length = i -> NrAt σ' br bw G (d + 1) rr -> rr.left.length <= r.left.length ->
   σ' bn = some (.cells ⟨nd k false ⟨⟨[]⟩⟩ z⟩ 75 (0, 0)) -> RowsOwn σ' 75 5 rows z -> RowsTr ρ ts rows -> Gr ρ σ' -> (∀ c, σ c ≠ none -> ρ c = none) -> (∀ g, z.base = some ⟨g, 0, none⟩ -> ρ g = none /\ σ g = none) -> Kn3 br bw bn σ σ' ->
   kidsP (nodeP f) r.num.1.toNat r.num.2 = (match kidsP (nodeP f) q rr with | none => none | some (l, r') => some (ts ++ l, r')) -> R (some ⟨br, 0, none⟩) (some ⟨bn, 0, none⟩) r.num.1 (i : Int) σ' := by
   have sbr : σ br ≠ none := by rw [h1]; simp
   have sbw : σ bw ≠ none := by obtain ⟨o, ho⟩ := h2.has; rw [ho]; simp
   have sbn : σ bn ≠ none := by rw [hn]; simp
   intro q
   induction q with
   | zero =>
    intro i rr ts σ' ρ z rows hi hlen N hle' hb hown hrt hg hρ hz hkp hkd
    refine hR _ _ _ _ _ (br_f (by simp only [decide_eq_false_iff_not]; omega) ?_)
    refine ptr_i (rd_I (rdC_of N.1 (by rfl)) (ptr_i ?_))
    rw [wrap_id (x := d + 1 - 1) (by omega) (by omega), show d + 1 - 1 = d by omega]
    refine st_i2 N.1 sz_int (by rfl) (by rfl) ?_
    intro σ3 p3
    simp only [kidsP, List.append_nil] at hkd
    have hzne : ∀ g, z.base = some ⟨g, 0, none⟩ -> g ≠ br := fun g hgz e => by subst e; exact sbr (hz _ hgz).2
    have hg3 : Gr ρ σ3 := hg.putF p3 (hρ _ sbr)
    obtain ⟨τ', t1, t2, t3, t4⟩ := slAt_own (hown.keep fun g o hgz ho => p3.get (hzne g hgz) ho) hrt hg3 fun g hgz => (hz g hgz).1
    refine hK hle ts rr hkd z σ3 τ' (N.deep p3) (p3.get n1 hb) (fun c o c1 c2 c3 ho => p3.get c1 (hkp c o c1 c2 c3 ho)) t2 t3 fun c hc => t4 c (fun e => hc (hz c e).2) (hρ c hc)
   | succ q ihq =>
    intro i rr ts σ' ρ z rows hi hlen N hle' hb hown hrt hg hρ hz hkp hkd
    have htl := text_left_le rr
    refine hR _ _ _ _ _ (br_t (by simp only [decide_eq_true_eq]; omega) (j_d ?_))
    refine ptr_i (rd_P (rdC_of N.1 (by rfl)) (call_i (s_wText N.2.1 (by omega) ?_)))
    intro σ3 r3 k3
    refine app_S ?_
    have N3 : NrAt σ3 br bw G (d + 1) rr.text.2 := ⟨k3 _ _ h3 N.1, r3, h3⟩
    rw [show kidsP (nodeP f) (q + 1) rr = (match nodeP f rr.text.2 with
     | none => none
     | some (t, r2) => match kidsP (nodeP f) q r2 with
      | none => none
      | some (l, r3) => some (t.named ⟨⟨rr.text.1⟩⟩ :: l, r3)) from rfl] at hkd
    refine callX_i (ih rr.text.2 N3 (by omega) (by omega) (by omega) ?_ ?_)
    ·intro hnone σ4 k4
     rw [hnone] at hkd
     exact hX (.inr hkd) σ4 fun c o c1 c2 c3 ho => k4 c o c1 c2 (k3 c o c2 (hkp c o c1 c2 c3 ho))
    intro t r4 hsome y σ4 τ4 N4 k4 g4 s4 f4
    have hl4 := nodeP_left f _ _ _ hsome
    rw [hsome] at hkd
    unfold trC
    (refine app_of rfl ?_; try dsimp only)
    refine al_i ?_; intro b35 σ5 g5 e5 m5
    refine st_i2 e5 sz_Node (by rfl) (by rfl) ?_
    intro σ6 p6
    refine st_i2 p6.same sz_string' (by rfl) (by rfl) ?_
    intro σ7 p7
    have k13 : ∀ c o, c ≠ br -> c ≠ bw -> σ' c = some o -> σ4 c = some o := fun c o c1 c2 ho => k4 c o c1 c2 (k3 c o c2 ho)
    have g47 : Gr σ4 σ7 := ((Gr.refl σ4).trans g5).putF p6 m5 |>.putF p7 m5
    have b4 := k13 bn _ n1 n2 hb
    refine ptr_i (rd_L (rdC_of (g47.get b4) (by rfl)) ?_)
    refine rd_G (rdA_of' p7.same (by rfl)) ?_
    (refine app_of rfl ?_; try dsimp only)
    refine al_i ?_; intro b44 σ8 g8 e8 m8
    have g48 : Gr σ4 σ8 := g47.trans g8
    have hgb : ∀ g, z.base = some ⟨g, 0, none⟩ -> g ≠ br /\ g ≠ bw /\ g ≠ bn := fun g hgz => ⟨fun e => by subst e; exact sbr (hz _ hgz).2, fun e => by subst e; exact sbw (hz _ hgz).2, fun e => by subst e; exact sbn (hz _ hgz).2⟩
    have own8 : RowsOwn σ8 75 5 rows z := hown.keep fun g o hgz ho => g48.get (k13 g o (hgb g hgz).1 (hgb g hgz).2.1 ho)
    obtain ⟨inf, zz, i1, i2, i3, i4, i5⟩ := info_Node
    have hone0 : ∀ u ∈ [Value.string ⟨⟨[]⟩⟩, .int .i64 0, .bool false, .string ⟨⟨[]⟩⟩, .slice none 0 0], u.oneCell' = true := by
     intro u hu
     simp only [List.mem_cons, List.mem_nil_iff, or_false] at hu
     rcases hu with rfl | rfl | rfl | rfl | rfl <;> rfl
    refine append_i und_Nodes i1 i2 i3 rfl i5 (by decide) own8 e8 rfl hone0 (by omega) i4 ?_
    intro z' σ9 own9 hcase
    obtain ⟨g', cur, z1, z2, z3', z4', z5'⟩ := own9.last (by decide)
    have hzl : z.len = rows.length := hown.1
    rw [z1]
    refine ptr_i (if_i ⟨by omega, by rw [z4', hzl]; omega⟩ (ptr_i ?_))
    have hofs : 0 + (((z.len : Nat) : Int) : Int).toNat * 5 = rows.length * 5 := by rw [hzl]; omega
    rw [hofs]
    -- blocks of old states are not in ρ, τ4
    have gρ3 : Gr ρ σ4 := gr_of fun c o hc => k13 c o (fun e => by subst e; rw [hρ _ sbr] at hc; cases hc) (fun e => by subst e; rw [hρ _ sbw] at hc; cases hc) (hg.get hc)
    have hσ3 : ∀ c, σ' c ≠ none -> c ≠ bw -> σ3 c ≠ none := fun c hc cw => by
     cases ho : σ' c with
     | none => exact absurd ho hc
     | some o => rw [k3 c o cw ho]; simp
    have g'ρ : ρ g' = none /\ τ4 g' = none /\ σ g' = none /\ Gr ρ σ9 /\ Gr τ4 σ9 /\ (∀ c o, c ≠ g' -> σ8 c = some o -> σ9 c = some o) := by
     rcases hcase with ⟨g, o, hz1, hz2, p9⟩ | ⟨g, hz1, hf9, g9⟩
     ·have hgg : g = g' := by rw [hz2, hz1] at z1; cases z1; rfl
      subst hgg
      obtain ⟨q1, q2⟩ := hz g hz1
      have ht4 : τ4 g = none := f4 g (hσ3 g (hown.has hz1) (hgb g hz1).2.1)
      exact ⟨q1, ht4, q2, (gρ3.trans g48).putF p9 q1, (g4.trans g48).putF p9 ht4, fun c o hc ho => p9.get hc ho⟩
     ·have hgg : g = g' := by rw [hz1] at z1; cases z1; rfl
      subst hgg
      have h4n := none_of g48 hf9
      refine ⟨none_of gρ3 h4n, none_of g4 h4n, ?_, (gρ3.trans g48).trans g9, (g4.trans g48).trans g9, fun c o _ ho => g9.get ho⟩
      cases hs : σ g with
      | none => rfl
      | some o =>
       by_cases e1 : g = br
       ·subst e1; rw [N4.1] at h4n; cases h4n
       ·by_cases e2 : g = bw
        ·subst e2; obtain ⟨o', ho'⟩ := N4.2.1.has; rw [ho'] at h4n; cases h4n
        ·by_cases e3 : g = bn
         ·subst e3; rw [b4] at h4n; cases h4n
         ·rw [k13 g o e1 e2 (hkp g o e1 e2 e3 hs)] at h4n; cases h4n
    obtain ⟨q1, q2, q3, q4, q5, q6⟩ := g'ρ
    have tbn : τ4 bn = none := f4 _ (hσ3 _ (by rw [hb]; simp) n2)
    have gbr : br ≠ g' := fun e => by subst e; exact sbr q3
    have gbw : bw ≠ g' := fun e => by subst e; exact sbw q3
    have gbn : bn ≠ g' := fun e => by subst e; exact sbn q3
    have b9 := q6 bn _ gbn (g48.get b4)
    have hGg : r4.left ≠ [] -> G ≠ g' := by
     intro hne e
     have hGn := h2.own (fun e2 => hne (List.eq_nil_of_length_eq_zero (by have h0 : r.left.length = 0 := (by rw [e2]; rfl); omega)))
     rw [e] at hGn; exact hGn q3
    have N9 : NrAt σ9 br bw G (d + 1) r4 :=
     ⟨q6 _ _ gbr (g48.get N4.1), (N4.gr g48).2.1.keepG (fun o ho => q6 _ _ gbw ho) (fun hne o ho => q6 _ _ (hGg hne) ho), h3⟩
    have hnd : trC (t.named ⟨⟨rr.text.1⟩⟩) y = [.string ⟨⟨rr.text.1⟩⟩, .int .i64 t.kind, .bool t.exec, .string t.data, .slice y.base y.len y.cap] := by obtain ⟨tn, tkd, tex, td, tks⟩ := t; rfl
    have fin : ∀ σA : H, NrAt σA br bw G (d + 1) r4 -> σA bn = some (.cells ⟨nd k false ⟨⟨[]⟩⟩ z'⟩ 75 (0, 0)) -> RowsOwn σA 75 5 (rows ++ [trC (t.named ⟨⟨rr.text.1⟩⟩) y]) z' -> Gr ρ σA -> Gr τ4 σA -> (∀ c o, c ≠ g' -> c ≠ bn -> σ8 c = some o -> σA c = some o) -> R (some ⟨br, 0, none⟩) (some ⟨bn, 0, none⟩) r.num.1 (IntKind.u64.wrap ((i : Int) + 1)) σA := by
     intro σA NA bA ownA gA1 gA2 kA
     rw [u64_next (by omega)]
     have hdis : ∀ b, ρ b ≠ none -> τ4 b = none := fun b hb => by
      cases hr : ρ b with
      | none => exact absurd hr hb
      | some o => exact f4 b (hσ3 b (by rw [hg.get hr]; simp) fun e => by subst e; rw [hρ _ sbw] at hr; cases hr)
     refine ihq (i + 1) r4 (ts ++ [t.named ⟨⟨rr.text.1⟩⟩]) σA (ρ.union τ4) z' (rows ++ [trC (t.named ⟨⟨rr.text.1⟩⟩) y]) (by omega) (by rw [List.length_append, hlen]; rfl) NA (by omega) bA ownA ?_ (gr_union gA1 gA2) ?_ ?_ ?_ ?_
     ·exact (hrt.gr (gr_left _ _)).snoc (trAt_iff.2 ⟨y, rfl, by rw [named_kids]; exact s4.gr (gr_right hdis)⟩)
     ·intro c hc
      refine union_none (hρ c hc) ?_
      by_cases e1 : c = br
      ·subst e1; exact f4 _ (by rw [N3.1]; simp)
      ·by_cases e2 : c = bw
       ·subst e2; exact f4 _ (by obtain ⟨o, ho⟩ := r3.has; rw [ho]; simp)
       ·by_cases e3 : c = bn
        ·subst e3; exact f4 _ (hσ3 _ (by rw [hb]; simp) e2)
        ·cases ho : σ c with
         | none => exact absurd ho hc
         | some o => exact f4 _ (hσ3 _ (by rw [hkp c o e1 e2 e3 ho]; simp) e2)
     ·intro g hgz
      rw [z1] at hgz; cases hgz
      exact ⟨union_none q1 q2, q3⟩
     ·intro c o c1 c2 c3 ho
      refine kA c o (fun e => by subst e; rw [q3] at ho; cases ho) c3 (g48.get (k13 c o c1 c2 (hkp c o c1 c2 c3 ho)))
     ·rw [hkd]
      dsimp only
      cases kidsP (nodeP f) q r4 with
      | none => rfl
      | some p => obtain ⟨l, r5⟩ := p; simp
    have hlen5 : (trC (t.named ⟨⟨rr.text.1⟩⟩) y).length = 5 := rfl
    have hone1 : ∀ u ∈ arrL (Value.agg ⟨[.string ⟨⟨rr.text.1⟩⟩, .int .i64 t.kind, .bool t.exec, .string t.data, .slice y.base y.len y.cap]⟩).cells, u.oneCell' = true := by
     intro u hu
     have hu : u ∈ [Value.string ⟨⟨rr.text.1⟩⟩, .int .i64 t.kind, .bool t.exec, .string t.data, .slice y.base y.len y.cap] := hu
     simp only [List.mem_cons, List.mem_nil_iff, or_false] at hu
     rcases hu with rfl | rfl | rfl | rfl | rfl <;> rfl
    refine both_i ?_ ?_
    ·refine st_i z2 sz_Node (show rows.length * 5 + 5 <= cur.length from z3') hone1 (.inl (Nat.le_refl _)) ?_
     intro σA pA
     have ownA := z5' (trC (t.named ⟨⟨rr.text.1⟩⟩) y) σA hlen5 (by rw [hnd]; exact pA)
     refine st_i2 (pA.get gbn b9) sz_Nodes (by rfl) (by rfl) ?_
     intro σB pB
     rw [<- z1] at pB
     have NA : NrAt σA br bw G (d + 1) r4 := ⟨pA.get gbr N9.1, N9.2.1.keepG (fun o ho => pA.get gbw ho) (fun hne o ho => pA.get (hGg hne) ho), h3⟩
     exact fin σB (NA.nd (pA.get gbn b9) n1 n2 fun c o hc ho => pB.get hc ho) pB.same (ownA.put pB (by rw [z1]; intro e; cases e; exact gbn rfl)) ((q4.putF pA q1).putF pB (hρ _ sbn)) ((q5.putF pA q2).putF pB tbn) (fun c o c1 c2 ho => pB.get c2 (pA.get c1 (q6 c o c1 ho)))
    ·refine st_i2 b9 sz_Nodes (by rfl) (by rfl) ?_
     intro σA pA
     rw [<- z1] at pA
     refine st_i (pA.get gbn.symm z2) sz_Node (show rows.length * 5 + 5 <= cur.length from z3') hone1 (.inl (Nat.le_refl _)) ?_
     intro σB pB
     have NA : NrAt σA br bw G (d + 1) r4 := N9.nd b9 n1 n2 fun c o hc ho => pA.get hc ho
     have ownB : RowsOwn σB 75 5 (rows ++ [trC (t.named ⟨⟨rr.text.1⟩⟩) y]) z' := by
      have hS := z5' (trC (t.named ⟨⟨rr.text.1⟩⟩) y) _ hlen5 (Put.intro σ9 g' _)
      refine hS.keep fun g o hgz ho => ?_
      rw [z1] at hgz; cases hgz
      rw [H.put_same] at ho; cases ho
      rw [hnd]; exact pB.same
     exact fin σB ⟨pB.get gbr NA.1, NA.2.1.keepG (fun o ho => pB.get gbw ho) (fun hne o ho => pB.get (hGg hne) ho), h3⟩ (pB.get gbn pA.same) ownB ((q4.putF pA (hρ _ sbn)).putF pB q1) ((q5.putF pA tbn).putF pB q2) (fun c o c1 c2 ho => pB.get c1 (pA.get c2 (q6 c o c1 ho)))
  exact key r.num.1.toNat 0 r.num.2 [] σ2 (fun _ => none) ⟨none, 0, 0⟩ [] (by omega) rfl N2 (by omega) b2 (RowsOwn.nil _ _ _) trivial (gr_empty _) (fun _ _ => rfl) (fun g h => by cases h) (fun c o c1 c2 c3 ho => p2.get c1 (k1 c o c2 ho)) (by cases kidsP (nodeP f) r.num.1.toNat r.num.2 with | none => rfl | some p => obtain ⟨l, r5⟩ := p; rfl)
 intro j hj
 refine br_i (fun hm => ?_) (fun hm => ?_)
 ·refine ptr_i (rd_I (rdC_of a1 (by rfl)) (must_i _ (fun _ => hj (by have := of_decide_eq_true hm; omega)) (fun hm => ?_)))
  have := of_decide_eq_false hm; omega
 ·refine must_i _ (fun hm => by cases hm) (fun _ => hX (.inl (by have := of_decide_eq_false hm; omega)) σ1 fun c o _ c2 _ ho => k1 c o c2 ho)
theorem und_MIFp : Tryz.prog.underlying 155 = some (.map 3 153) := by kernel_rfl
theorem go_nrFile : isGo Tryz.prog 125 = true := by kernel_rfl
theorem go_nrLink : isGo Tryz.prog 126 = true := by kernel_rfl
theorem go_nrDir : isGo Tryz.prog 127 = true := by kernel_rfl
theorem pan_nrFile : elemB 125 panL = true := by kernel_rfl
theorem pan_nrLink : elemB 126 panL = false := by kernel_rfl
theorem pan_nrDir : elemB 127 panL = true := by kernel_rfl
theorem nodeOk : ∀ f : Nat, NodeOk f := by
 have step : ∀ f : Nat, (∀ g, f = g + 1 -> NodeOk g) -> NodeOk f := by
  intro f ih r σ br bw G d h hd hd0 hl K X hX hK
  refine c83 _ ?_
  unfold g83
  refine al_i ?_; intro b2 σ1 g1 e1 m1
  have N1 := h.gr g1
  refine ptr_i (rd_P (rdC_of N1.1 (by rfl)) (call_i (s_wNum N1.2.1 (by omega) ?_)))
  intro σ2 r2 k2
  have hnl := num_left_le r
  have hrg : 0 <= r.num.1 := (numV_rng (r.take (rowW r.left)).1).1
  have n2r : b2 ≠ br := (ne_fresh h.1 m1).symm
  have n2w : b2 ≠ bw := by obtain ⟨o, ho⟩ := h.2.1.has; exact (ne_fresh ho m1).symm
  refine app_I (must_i _ (fun hm => ?_) (fun hm => ?_))
  case refine_2 =>
   refine hX ?_ σ2 fun c o c1 c2 ho => k2 c o c2 (g1.get ho)
   have hm := of_decide_eq_false hm
   have x1 : (r.num.1 == 1) = false := by simp; omega
   have x3 : (r.num.1 == 3) = false := by simp; omega
   have x2 : (r.num.1 == 2) = false := by simp; omega
   cases f with
   | zero => simp [nodeP, x1, x3]
   | succ f => simp [nodeP, x1, x3, x2]
  have hm := of_decide_eq_true hm
  refine al_i ?_; intro b7 σ3 g3 e3 m3
  rw [wrap_id (x := r.num.1) (by omega) (by omega)]
  refine st_i2 e3 sz_Node (by rfl) (by rfl) ?_
  intro σ4 p4
  have N2 : NrAt σ2 br bw G d r.num.2 := ⟨k2 _ _ h.2.2 N1.1, r2, h.2.2⟩
  have G24 : Gr σ2 σ4 := ((Gr.refl σ2).trans g3).putF p4 m3
  refine al_i ?_; intro b8 σ5 g5 e5 m5
  have m0 : MapAt σ5 b8 (encL kkI (fun v : Value => v) []) := MapAt.new e5
  refine mu_i (kk := kkI) (f := fun v : Value => v) und_MIFp und_int' m0 1 (mfn br 125) ?_
  intro o6 σ6 p6 m6
  refine mu_i (kk := kkI) (f := fun v : Value => v) und_MIFp und_int' m6 3 (mfn br 126) ?_
  intro o7 σ7 p7 m7
  refine mu_i (kk := kkI) (f := fun v : Value => v) und_MIFp und_int' m7 2 (mfn br 127) ?_
  intro o8 σ8 p8 m8
  have G48 : Gr σ4 σ8 := gr_of fun c o hc => by
   have w : c ≠ b8 := ne_fresh hc m5
   exact p8.get w (p7.get w (p6.get w (g5.get hc)))
  have G28 : Gr σ2 σ8 := G24.trans G48
  have N8 := N2.gr G28
  have c8 : σ8 b7 = some (.cells ⟨nd r.num.1 false ⟨⟨[]⟩⟩ slN⟩ 75 (0, 0)) := G48.get p4.same
  have n7r : b7 ≠ br := (ne_fresh N2.1 m3).symm
  have n7w : b7 ≠ bw := by obtain ⟨o, ho⟩ := r2.has; exact (ne_fresh ho m3).symm
  have n72 : b7 ≠ b2 := (ne_fresh (k2 _ _ n2w e1) m3).symm
  have e8 : σ8 b2 = some _ := G28.get (k2 _ _ n2w e1)
  have kk : ∀ c o, c ≠ br -> c ≠ bw -> σ c = some o -> σ8 c = some o /\ c ≠ b7 /\ c ≠ b2 := fun c o c1 c2 ho => ⟨G28.get (k2 c o c2 (g1.get ho)), fun e => (by subst e; rw [k2 _ _ c2 (g1.get ho)] at m3; cases m3), fun e => (by subst e; rw [ho] at m1; cases m1)⟩
  refine rd_I (rdC_of c8 (by rfl)) ?_
  refine rd_G (rdM_at (kk := kkI) (f := fun v : Value => v) m8 (.nilFunc) true r.num.1) ?_
  -- how it goes on when the node is read
  have fin : ∀ (t : Tr) (r' : RdP) (y : Sl) (σA τA : H), t.name = ⟨⟨[]⟩⟩ -> NrAt σA br bw G d r' -> σA b7 = some (.cells ⟨trC t y⟩ 75 (0, 0)) -> Kn3 br bw b7 σ8 σA -> Gr τA σA -> SlAt τA t.kids y -> (∀ c, σ8 c ≠ none -> τA c = none) ->
   (r'.lost = true -> nodeP f r = none) -> (r'.lost = false -> nodeP f r = some (t, r')) ->
   ptrW (some ⟨br, 0, none⟩) (fun (b12 o13 : Nat) => rdT (rdC b12 o13) kP (fun (x14 : Option Addr) => callT Tryz.prog 128 [.pointer x14] kB (fun (x15 : Bool) =>
    callXT Tryz.prog 81 [.bool x15] kU (rdT (rdA 5 b7 0) (.one (.agg [.str, (.int .i64), .bool, .str, .slc])) (fun (x16 : ByteArray) (x17 : Int) (x18 : Bool) (x19 : ByteArray) (x20 : Sl) =>
     stW Tryz.prog 75 (.pointer (some ⟨b2, 0, none⟩)) (.agg ⟨[.string x16, .int .i64 x17, .bool x18, .string x19, .slice x20.base x20.len x20.cap]⟩) (rdT (rdA 5 b2 0) (.one (.agg [.str, (.int .i64), .bool, .str, .slc])) (fun (r21 : ByteArray) (r22 : Int) (r23 : Bool) (r24 : ByteArray) (r25 : Sl) =>
      K (.agg ⟨[.string r21, .int .i64 r22, .bool r23, .string r24, .slice r25.base r25.len r25.cap]⟩))))) X))) σA := by
   intro t r' y σA τA htn NA cA kA gA sA fA hl1 hl2
   have keepA : Kn br bw σ σA := fun c o c1 c2 ho => kA c o c1 c2 (kk c o c1 c2 ho).2.1 (kk c o c1 c2 ho).1
   refine ptr_i (rd_P (rdC_of NA.1 (by rfl)) (call_i (s_wOK NA.2.1 (app_B ?_))))
   refine must_i _ (fun hm => ?_) (fun hm => ?_)
   ·refine rd_G (rdA_of' cA (by rfl)) ?_
    unfold trC
    (refine app_of rfl ?_; try dsimp only)
    refine st_i2 (kA _ _ n2r n2w n72.symm e8) sz_Node (by rfl) (by rfl) ?_
    intro σB pB
    refine rd_G (rdA_of' pB.same (by rfl)) ?_
    (refine app_of rfl ?_; try dsimp only)
    have τb2 : τA b2 = none := fA _ (by rw [e8]; simp)
    have hlo : r'.lost = false := by cases hh : r'.lost with | false => rfl | true => rw [hh] at hm; cases hm
    have := hK t r' (hl2 hlo) y σB τA ?_ ?_ (gA.putF pB τb2) sA ?_
    ·unfold trC at this; exact this
    ·exact NrAt.nd (k := 0) (ex := false) (dt := ⟨⟨[]⟩⟩) (y := slN) NA (kA _ _ n2r n2w n72.symm e8) n2r n2w fun c o hc ho => pB.get hc ho
    ·exact fun c o c1 c2 ho => pB.get (kk c o c1 c2 ho).2.2 (keepA c o c1 c2 ho)
    ·intro c hc
     refine fA c ?_
     by_cases e1 : c = br
     ·subst e1; rw [N8.1]; simp
     ·by_cases e2 : c = bw
      ·subst e2; obtain ⟨o, ho⟩ := N8.2.1.has; rw [ho]; simp
      ·cases ho : σ c with
       | none => exact absurd ho hc
       | some o => rw [(kk c o e1 e2 ho).1]; simp
   ·refine hX (hl1 ?_) σA keepA
    cases hh : r'.lost with | true => rfl | false => rw [hh] at hm; cases hm
  by_cases h1 : r.num.1 = 1
  ·have hlk : lk r.num.1 (up (2 : Int) (mfn br 127) (up 3 (mfn br 126) (up 1 (mfn br 125) []))) = some (mfn br 125) := by rw [h1]; rfl
   rw [hlk]
   have hP : nodeP f r = fileP r.num.2 := by cases f <;> simp [nodeP, h1]
   refine app_of rfl ?_
   dsimp only
   refine must_i _ (fun _ => ?_) (fun hm => by cases hm)
   refine cvalX_pan pan_nrFile go_nrFile (s_nrFile N8 (by omega) c8 n7r n7w (fun hb σA kA => hX (by rw [hP]; unfold fileP; rw [if_pos hb]) σA fun c o c1 c2 ho => kA c o c1 c2 (kk c o c1 c2 ho).2.1 (kk c o c1 c2 ho).1) fun hb σA NA cA kA => app_U ?_)
   refine fin (.mk ⟨⟨[]⟩⟩ 1 (r.num.2.num.1 == 1) ⟨⟨r.num.2.num.2.text.1⟩⟩ []) r.num.2.num.2.text.2 slN σA (fun _ => none) rfl NA (by rw [h1] at cA; exact cA) kA (gr_empty _) ⟨rfl, .inl rfl⟩ (fun _ _ => rfl) (fun hlo => ?_) (fun hlo => ?_)
   ·rw [hP]; unfold fileP; rw [if_neg hb, if_pos hlo]
   ·rw [hP]; unfold fileP; rw [if_neg hb, if_neg (by rw [hlo]; simp)]
  by_cases h3 : r.num.1 = 3
  ·have hlk : lk r.num.1 (up (2 : Int) (mfn br 127) (up 3 (mfn br 126) (up 1 (mfn br 125) []))) = some (mfn br 126) := by rw [h3]; rfl
   rw [hlk]
   have hP : nodeP f r = linkP r.num.2 := by cases f <;> simp [nodeP, h3]
   refine app_of rfl ?_
   dsimp only
   refine must_i _ (fun _ => ?_) (fun hm => by cases hm)
   refine cvalX_go pan_nrLink go_nrLink (s_nrLink N8 (by omega) c8 n7r n7w fun σA NA cA kA => app_U ?_)
   refine fin (.mk ⟨⟨[]⟩⟩ 3 false ⟨⟨r.num.2.text.1⟩⟩ []) r.num.2.text.2 slN σA (fun _ => none) rfl NA (by rw [h3] at cA; exact cA) kA (gr_empty _) ⟨rfl, .inl rfl⟩ (fun _ _ => rfl) (fun hlo => ?_) (fun hlo => ?_)
   ·rw [hP]; unfold linkP; rw [if_pos hlo]
   ·rw [hP]; unfold linkP; rw [if_neg (by rw [hlo]; simp)]
  by_cases h2 : r.num.1 = 2
  ·have hlk : lk r.num.1 (up (2 : Int) (mfn br 127) (up 3 (mfn br 126) (up 1 (mfn br 125) []))) = some (mfn br 127) := by rw [h2]; rfl
   rw [hlk]
   refine app_of rfl ?_
   dsimp only
   refine must_i _ (fun _ => ?_) (fun hm => by cases hm)
   cases f with
   | zero =>
    have hd13 : d = 13 := by omega
    subst hd13
    refine cvalX_pan pan_nrDir go_nrDir (s_nrDir0 (bn := b7) N8 (by omega) fun σA kA => hX (by simp [nodeP, h2]) σA fun c o c1 c2 ho => kA c o c1 c2 (kk c o c1 c2 ho).2.1 (kk c o c1 c2 ho).1)
   | succ f =>
    have hP : nodeP (f + 1) r = dirP (nodeP f) r.num.2 := by simp [nodeP, h2]
    refine cvalX_pan pan_nrDir go_nrDir (s_nrDir f (ih f rfl) N8 (by omega) hd0 (by omega) c8 n7r n7w (fun hb σA kA => hX ?_ σA fun c o c1 c2 ho => kA c o c1 c2 (kk c o c1 c2 ho).2.1 (kk c o c1 c2 ho).1) fun hb l r' hkd y σA τA NA cA kA gA sA fA => app_U ?_)
    ·rw [hP]; unfold dirP
     by_cases hb2 : r.num.2.num.1 > 2000
     ·rw [if_pos hb2]
     ·rw [if_neg hb2]
      rcases hb with hb | hb
      ·exact absurd hb hb2
      ·rw [hb]
    ·refine fin (.mk ⟨⟨[]⟩⟩ 2 false ⟨⟨[]⟩⟩ l) r' y σA τA rfl NA (by rw [h2] at cA; exact cA) kA gA sA fA (fun hlo => ?_) (fun hlo => ?_)
     ·rw [hP]; unfold dirP; rw [if_neg hb, hkd]; simp [hlo]
     ·rw [hP]; unfold dirP; rw [if_neg hb, hkd]; simp [hlo]
  ·have hlk : lk r.num.1 (up (2 : Int) (mfn br 127) (up 3 (mfn br 126) (up 1 (mfn br 125) []))) = none := by
    have h0 : r.num.1 = 0 := by omega
    rw [h0]; rfl
   rw [hlk]
   refine app_of rfl ?_
   dsimp only
   refine must_i _ (fun hm => by cases hm) (fun _ => hX ?_ σ8 fun c o c1 c2 ho => (kk c o c1 c2 ho).1)
   have x1 : (r.num.1 == 1) = false := by simp; omega
   have x3 : (r.num.1 == 3) = false := by simp; omega
   have x2 : (r.num.1 == 2) = false := by simp; omega
   cases f with
   | zero => simp [nodeP, x1, x3]
   | succ f => simp [nodeP, x1, x3, x2]
 intro f
 induction f with
 | zero => exact step 0 fun g h => by cases h
 | succ f ih => exact step (f + 1) fun g h => by cases h; exact ih
theorem neq_nil (x : Nat) (w : World) : (do eqGuard .neq 20 (.tmp x) (.const .nilIface) .nilIface .nilIface; binOp .neq 20 .nilIface .nilIface : Sem Value).run Tryz.prog w = .ok (.bool false) w := by kernel_rfl
theorem neq_wrong (x y : Operand) (w : World) : (do eqGuard .neq 20 x y wrongV .nilIface; binOp .neq 20 wrongV .nilIface : Sem Value).run Tryz.prog w = .ok (.bool true) w := by kernel_rfl
theorem as_wrong (w : World) : (Instr.typeAssert wrongV 20 100 true).run Tryz.prog w = .ok (.tuple ⟨[.agg ⟨[]⟩, .bool true]⟩) w := by kernel_rfl
theorem sz_wrong : sizeT Tryz.prog 100 = some 0 := by kernel_rfl
theorem sz_Errno' : sizeT Tryz.prog 70 = some 1 := by kernel_rfl
section
variable {σ : H} {b2 b3 : Nat}
theorem s_naDec1r {K : Md -> H -> Prop} (hK : K .ret σ) : callD Tryz.prog 79 [.pointer (some ⟨b2, 0, none⟩), .pointer (some ⟨b3, 0, none⟩)] .ret K σ := by
 refine c79 _ _ _ ?_
 unfold g79
 refine va_run (v := .bool false) (fun w => neq_nil _ w) (app_B (br_f rfl hK))
theorem s_naDec1p {K : Md -> H -> Prop} {l : List Value} {e : Value} (h2 : σ b2 = some (.cells ⟨l⟩ 75 (0, 0))) (hl : l.length = 5) (h3 : σ b3 = some (.cells ⟨[e]⟩ 70 (0, 0))) (hne : b3 ≠ b2)
 (hK : ∀ σ', σ' b2 = some (.cells ⟨nd 0 false ⟨⟨[]⟩⟩ slN⟩ 75 (0, 0)) -> σ' b3 = some (.cells ⟨[.int .i64 4]⟩ 70 (0, 0)) -> (∀ c o, c ≠ b2 -> c ≠ b3 -> σ c = some o -> σ' c = some o) -> K .ret σ') :
 callD Tryz.prog 79 [.pointer (some ⟨b2, 0, none⟩), .pointer (some ⟨b3, 0, none⟩)] (.pan wrongV) K σ := by
 refine c79 _ _ _ ?_
 unfold g79
 refine va_run (v := .bool true) (fun w => neq_wrong _ _ w) (app_B (br_t rfl ?_))
 refine va_run (fun w => as_wrong w) (app_of rfl ?_)
 dsimp only
 refine al_i ?_; intro b5 σ1 g1 e1 m1
 refine st_i2 e1 sz_wrong (by rfl) (by rfl) ?_
 intro σ2 p2
 have g2 : Gr σ σ2 := g1.putF p2 m1
 obtain ⟨v1, v2, v3, v4, v5, rfl⟩ : ∃ v1 v2 v3 v4 v5, l = [v1, v2, v3, v4, v5] := by
  match l, hl with
  | [v1, v2, v3, v4, v5], _ => exact ⟨v1, v2, v3, v4, v5, rfl⟩
 refine br_f rfl (st_i2 (g2.get h2) sz_Node (by rfl) (by rfl) ?_)
 intro σ3 p3
 refine st_i2 (p3.get hne (g2.get h3)) sz_Errno' (by rfl) (by rfl) ?_
 intro σ4 p4
 exact hK σ4 (p4.get hne.symm p3.same) p4.same fun c o c1 c2 ho => p4.get c2 (p3.get c1 (g2.get ho))
end
theorem strEq_l (a b : List UInt8) : strEq ⟨⟨a⟩⟩ ⟨⟨b⟩⟩ = (a == b) := by
 rw [Bool.eq_iff_iff, strEq_iff, beq_iff_eq]
 exact ⟨fun h => by injection h with h; injection h, fun h => by rw [h]⟩
theorem s_naDec (s : List UInt8) (hs : s.length <= 1000000) {σ : H} {K : KH} (hK : ∀ y σ', Gr σ σ' -> SlAt σ' (decT s).1.kids y -> K (.tuple ⟨[.agg ⟨trC (decT s).1 y⟩, .int .i64 (decT s).2]⟩) σ') : callW Tryz.prog 53 [.string ⟨⟨s⟩⟩] K σ := by
 refine callX.ret (X := fun _ _ => False) (c53 _ ?_)
 unfold g53
 refine al_i ?_; intro b2 σ1 g1 e1 m1
 refine al_i ?_; intro b3 σ2 g2 e2 m2
 have c2 := g2.get e1
 have n32 : b3 ≠ b2 := (ne_fresh e1 m2).symm
 refine call_i (s_wNew s (by omega) ?_)
 intro b4 G σ3 g3 m4 r3
 refine app_P (al_i ?_); intro b5 σ4 g4 e4 m5
 have h24 : Gr σ2 σ4 := g3.trans g4
 have n54 : b5 ≠ b4 := by obtain ⟨o, ho⟩ := r3.has; exact (ne_fresh ho m5).symm
 have N4 : NrAt σ4 b5 b4 G 0 ⟨s, false⟩ := ⟨e4, r3.keep fun c o hc => g4.get hc, n54⟩
 have n25 : b2 ≠ b5 /\ b2 ≠ b4 /\ b3 ≠ b5 /\ b3 ≠ b4 := ⟨ne_fresh (g3.get c2) m5, ne_fresh c2 m4, ne_fresh (g3.get e2) m5, ne_fresh e2 m4⟩
 have old : ∀ c o, σ c = some o -> σ4 c = some o /\ c ≠ b2 /\ c ≠ b3 /\ c ≠ b4 /\ c ≠ b5 := fun c o ho => by
  have q1 := g1.get ho
  have q2 := g2.get q1
  exact ⟨h24.get q2, ne_fresh ho m1, ne_fresh q1 m2, ne_fresh q2 m4, ne_fresh (g3.get q2) m5⟩
 have bad : decodeP s = none -> ∀ (σ' : H) (l : List Value) (X : Value -> H -> Prop), σ' b2 = some (.cells ⟨l⟩ 75 (0, 0)) -> l.length = 5 -> σ' b3 = some (.cells ⟨[.int .i64 0]⟩ 70 (0, 0)) -> Gr σ σ' ->
  callD Tryz.prog 79 [.pointer (some ⟨b2, 0, none⟩), .pointer (some ⟨b3, 0, none⟩)] (.pan wrongV) (mdK (rdT (rdA 5 b2 0) (.one (.agg [.str, (.int .i64), .bool, .str, .slc])) (fun (r56 : ByteArray) (r57 : Int) (r58 : Bool) (r59 : ByteArray) (r60 : Sl) =>
                  rdT (rdC b3 0) kI (fun (r61 : Int) =>
                  K (.tuple ⟨[.agg ⟨[.string r56, .int .i64 r57, .bool r58, .string r59, .slice r60.base r60.len r60.cap]⟩, .int .i64 r61]⟩)))) X) σ' := by
  intro hd σ' l X h2 hl h3 hg
  refine s_naDec1p h2 hl h3 n32 fun σ'' q2 q3 q4 => ?_
  show rdT _ _ _ _
  refine rd_G (rdA_of' q2 (by rfl)) ?_
  (refine app_of rfl ?_; try dsimp only)
  refine rd_I (rdC_of q3 (by rfl)) ?_
  have := hK slN σ'' (gr_of fun c o ho => q4 c o (old c o ho).2.1 (old c o ho).2.2.1 (hg.get ho)) (by unfold decT; rw [hd]; exact ⟨rfl, .inl rfl⟩)
  unfold decT at this
  rw [hd] at this
  exact this
 refine rd_P (rdC_of e4 (by rfl)) (call_i (s_wText N4.2.1 (by show s.length <= _; omega) ?_))
 intro σ5 r5 k5
 have hd0 : decodeP s = if (RdP.mk s false).text.1 = magicL then match nodeP 13 (RdP.mk s false).text.2 with
  | none => none
  | some (t, r) => if !r.lost && r.left.isEmpty && ((encodeP t).2 == 0 && (encodeP t).1 == s) then some t else none
  else none := rfl
 have htl := text_left_le ⟨s, false⟩
 have htl : (RdP.mk s false).text.2.left.length <= s.length := htl
 generalize hr5 : (RdP.mk s false).text = T at *
 have N5 : NrAt σ5 b5 b4 G 0 T.2 := ⟨k5 _ _ n54 N4.1, r5, n54⟩
 have k45 : Kn b5 b4 σ4 σ5 := fun c o _ c2 ho => k5 c o c2 ho
 have d2 := k5 _ _ n25.2.1 (h24.get c2)
 have d3 := k5 _ _ n25.2.2.2 (h24.get e2)
 have gKn : ∀ σ', Kn b5 b4 σ5 σ' -> Gr σ σ' := fun σ' hk => gr_of fun c o ho => hk c o (old c o ho).2.2.2.2 (old c o ho).2.2.2.1 (k5 c o (old c o ho).2.2.2.1 (old c o ho).1)
 refine app_S ?_
 rw [strEq_l]
 refine must_i _ (fun hm => ?_) (fun hm => bad (by rw [hd0, if_neg (by intro e; rw [e] at hm; simp [magicL] at hm)]) σ5 _ _ d2 rfl d3 (gKn σ5 fun _ _ _ _ h => h))
 have hmg : T.1 = magicL := by have := eq_of_beq hm; exact this
 rw [if_pos hmg] at hd0
 refine callX_i (nodeOk 13 T.2 N5 (by decide) (by decide) (by omega) ?_ ?_)
 ·intro hnone σ6 k6
  exact bad (by rw [hd0, hnone]) σ6 _ _ (k6 _ _ n25.1 n25.2.1 d2) rfl (k6 _ _ n25.2.2.1 n25.2.2.2 d3) (gKn σ6 k6)
 intro t r' hsome y σ6 τ6 N6 k6 g6 s6 f6
 rw [hsome] at hd0
 dsimp only at hd0
 unfold trC
 (refine app_of rfl ?_; try dsimp only)
 have htot := nodeP_total 13 _ _ _ hsome
 have G6 := gKn σ6 k6
 have d62 := k6 _ _ n25.1 n25.2.1 d2
 have d63 := k6 _ _ n25.2.2.1 n25.2.2.2 d3
 refine st_i2 d62 sz_Node (by rfl) (by rfl) ?_
 intro σ7 p7
 have s7 : SlAt σ7 t.kids y := s6.gr (g6.putF p7 (f6 _ (by rw [d2]; simp)))
 have c7 : σ7 b2 = some (.cells ⟨trC t y⟩ 75 (0, 0)) := p7.same
 have N7 : NrAt σ7 b5 b4 G 0 r' := NrAt.nd (k := 0) (ex := false) (dt := ⟨⟨[]⟩⟩) (y := slN) N6 d62 n25.1 n25.2.1 fun c o hc ho => p7.get hc ho
 have G7 : Gr σ σ7 := G6.putF p7 m1
 have d73 := p7.get n32 d63
 refine rd_G (rdA_of' c7 (by rfl)) ?_
 unfold trC
 (refine app_of rfl ?_; try dsimp only)
 refine call_i (s_naEnc t y s7 (by omega) ?_)
 refine app_of rfl ?_
 dsimp only
 refine j_i (fun j => decodeP s = some t -> j (some ⟨b2, 0, none⟩) (some ⟨b3, 0, none⟩) σ7) ?_ ?_
 ·intro hdec
  refine ptr_i (rd_G (rdA_of' c7 (by rfl)) ?_)
  unfold trC
  (refine app_of rfl ?_; try dsimp only)
  refine st_i2 c7 sz_Node (by rfl) (by rfl) ?_
  intro σ8 p8
  refine st_i2 (p8.get n32 d73) sz_Errno' (by rfl) (by rfl) ?_
  intro σ9 p9
  refine s_naDec1r ?_
  have c9 : σ9 b2 = some (.cells ⟨trC t y⟩ 75 (0, 0)) := p9.get n32.symm p8.same
  have g69 : Gr τ6 σ9 := ((g6.putF p7 (f6 _ (by rw [d2]; simp))).putF p8 (f6 _ (by rw [d2]; simp))).putF p9 (f6 _ (by rw [d3]; simp))
  have m3 : σ b3 = none := none_of g1 m2
  have := hK y σ9 ((G7.putF p8 m1).putF p9 m3) (by unfold decT; rw [hdec]; exact s6.gr g69)
  unfold decT at this
  rw [hdec] at this
  show ptrW _ _ _
  refine ptr_i (rd_G (rdA_of' c9 (by rfl)) ?_)
  unfold trC
  (refine app_of rfl ?_; try dsimp only)
  refine ptr_i (rd_I (rdC_of p9.same (by rfl)) ?_)
  unfold trC at this
  exact this
 intro j hj
 refine rd_P (rdC_of N7.1 (by rfl)) (call_i (s_wEnd N7.2.1 (app_B ?_)))
 refine br_i (fun h1 => ?_) (fun h1 => ?_)
 ·rw [h1, Bool.true_and] at hd0
  refine br_i (fun h2 => ?_) (fun h2 => ?_)
  ·rw [h2, Bool.true_and] at hd0
   rw [strEq_l]
   refine must_i _ (fun hm => hj (by rw [hd0, hm]; rfl)) (fun hm => bad (by rw [hd0, hm]; rfl) σ7 _ _ c7 rfl d73 G7)
  ·rw [h2, Bool.false_and] at hd0
   exact must_i _ (fun hm => by cases hm) (fun hm => bad (by rw [hd0]; rfl) σ7 _ _ c7 rfl d73 G7)
 ·rw [h1, Bool.false_and] at hd0
  exact must_i _ (fun hm => by cases hm) (fun hm => bad (by rw [hd0]; rfl) σ7 _ _ c7 rfl d73 G7)
end Go.Proofs.YtgfiobhpipollaaGreatDoor

namespace Go.Wk
open Go Go.HL
structure PathP where (path : ByteArray) (refs : List ByteArray) (nar drv : ByteArray)
structure StP where (paths : List PathP) (roots : List ByteArray)
def risesB : List ByteArray -> Bool
 | a :: b :: r => strLt a b && risesB (b :: r)
 | _ => true
def isPathP (s : ByteArray) : Bool := (splitN s.data.toList).2.2 == 0
def StP.is (S : StP) (s : ByteArray) : Bool := S.paths.any fun p => p.path == s
def formP (p : PathP) : Bool := isPathP p.path && (risesB p.refs && !(p.refs.any fun s => !isPathP s))
def StP.formed (S : StP) : Bool := risesB (S.paths.map (·.path)) && !(S.paths.any fun p => !formP p)
def StP.closed (S : StP) : Bool := !(S.paths.any fun p => !!(p.refs.any fun r => !S.is r))
def StP.rooted (S : StP) : Bool := risesB S.roots && !(S.roots.any fun r => !S.is r)
def wholP (p : PathP) : Bool := if (decT p.nar.data.toList).2 != 0 then false else (encodeP (decT p.nar.data.toList).1).2 == 0 && (encodeP (decT p.nar.data.toList).1).1 == p.nar.data.toList
def StP.whole (S : StP) : Bool := !(S.paths.any fun p => !wholP p)
def addedP (nar name : List UInt8) : List UInt8 × Int :=
 if nameP name != 0 then ([], nameP name) else if (decT nar).2 != 0 then ([], (decT nar).2) else pathP (hashP ([97, 100, 100, 58] ++ putT nar ++ putT name)) name
def ownP (p : PathP) : List UInt8 := (addedP p.nar.data.toList (splitN p.path.data.toList).2.1).1
def namP (own : PathP -> List UInt8) (p : PathP) : Bool := if own p != [] then own p == p.path.data.toList else false
def StP.named (own : PathP -> List UInt8) (S : StP) : Bool := !(S.paths.any fun p => !namP own p)
def StP.scanned (has : PathP -> ByteArray -> Bool) (S : StP) : Bool := !(S.paths.any fun p => !!(p.refs.any fun r => !has p r))
def StP.sound (has : PathP -> ByteArray -> Bool) (own : PathP -> List UInt8) (S : StP) : Int :=
 if !S.formed then 1 else if !S.closed then 2 else if !S.rooted then 3 else if !S.whole then 4 else if !S.scanned has then 5 else if !S.named own then 6 else 0
def sameL : List ByteArray -> List ByteArray -> Bool
 | [], [] => true
 | a :: r, b :: q => a == b && sameL r q
 | _, _ => false
def PathP.same (a b : PathP) : Bool := a.path == b.path && (a.nar == b.nar && (a.drv == b.drv && sameL a.refs b.refs))
def sameW : List PathP -> List PathP -> Bool
 | [], [] => true
 | a :: r, b :: q => a.same b && sameW r q
 | _, _ => false
def StP.same (a b : StP) : Bool := sameW a.paths b.paths && sameL a.roots b.roots
def btwP (a b n : StP) : Int := (if a.same n then 1 else 0) + (if b.same n then 2 else 0)
def addP (name data : List UInt8) : PathP :=
 let n := encodeP (.mk ⟨⟨[]⟩⟩ 1 false ⟨⟨data⟩⟩ [])
 let p := addedP n.1 name
 if n.2 != 0 || p.2 != 0 then ⟨⟨⟨[]⟩⟩, [], ⟨⟨[]⟩⟩, ⟨⟨[]⟩⟩⟩ else ⟨⟨⟨p.1⟩⟩, [], ⟨⟨n.1⟩⟩, ⟨⟨[]⟩⟩⟩
theorem sameL_len : ∀ {a b : List ByteArray}, a.length ≠ b.length -> sameL a b = false := by
 intro a
 induction a with
 | nil => intro b h; cases b with | nil => exact absurd rfl h | cons x r => rfl
 | cons x r ih =>
  intro b h
  cases b with
  | nil => rfl
  | cons y q => simp only [sameL]; rw [ih (by simpa using h), Bool.and_false]
theorem sameW_len : ∀ {a b : List PathP}, a.length ≠ b.length -> sameW a b = false := by
 intro a
 induction a with
 | nil => intro b h; cases b with | nil => exact absurd rfl h | cons x r => rfl
 | cons x r ih =>
  intro b h
  cases b with
  | nil => rfl
  | cons y q => simp only [sameW]; rw [ih (by simpa using h), Bool.and_false]
theorem drop_cons2 {α : Type} {l : List α} {i : Nat} {d : α} (h : l[i]? = some d) : l.drop i = d :: l.drop (i + 1) := by
 obtain ⟨h1, h2⟩ := List.getElem?_eq_some_iff.1 h
 rw [<- h2]; exact (List.getElem_cons_drop ..).symm
end Go.Wk

set_option maxRecDepth 100000
namespace Go.Proofs.YtgfiobhpipollaaGreatDoor
open Go Go.HL Go.Wk
attribute [local irreducible] ptrW ifW brW andW rdT alW letJ stW muW biW vaW imW callT cvalT app callW invW callVW sizeT oW nilF oneK loopW rfW funW begW roundK exW idxW Gr Put
def pRow (p : PathP) (y : Sl) : List Value := [.string p.path, .slice y.base y.len y.cap, .string p.nar, .string p.drv]
def PsRows (σ : H) : List PathP -> List (List Value) -> Prop
 | [], [] => True
 | p :: ps, r :: rs => (∃ y, r = pRow p y /\ RowsAt σ 1 (strRows p.refs) y) /\ PsRows σ ps rs
 | _, _ => False
def PsAt (σ : H) (ps : List PathP) (x : Sl) : Prop := ∃ rows, RowsAt σ 4 rows x /\ PsRows σ ps rows
theorem PsRows.gr {σ σ' : H} (hg : Gr σ σ') : ∀ {ps : List PathP} {rows : List (List Value)}, PsRows σ ps rows -> PsRows σ' ps rows := by
 intro ps
 induction ps with
 | nil => intro rows h; cases rows <;> exact h
 | cons p ps ih =>
  intro rows h
  cases rows with
  | nil => exact h.elim
  | cons r rows => exact ⟨h.1.imp fun y hy => ⟨hy.1, hy.2.gr hg⟩, ih h.2⟩
theorem PsRows.len {σ : H} : ∀ {ps : List PathP} {rows : List (List Value)}, PsRows σ ps rows -> rows.length = ps.length := by
 intro ps
 induction ps with
 | nil => intro rows h; cases rows with | nil => rfl | cons r rows => exact h.elim
 | cons p ps ih =>
  intro rows h
  cases rows with
  | nil => exact h.elim
  | cons r rows => simp [ih h.2]
theorem PsRows.get {σ : H} : ∀ {ps : List PathP} {rows : List (List Value)} {i : Nat} {p : PathP}, PsRows σ ps rows -> ps[i]? = some p -> ∃ y, rows[i]? = some (pRow p y) /\ RowsAt σ 1 (strRows p.refs) y := by
 intro ps
 induction ps with
 | nil => intro rows i p _ h; simp at h
 | cons q ps ih =>
  intro rows i p h hi
  cases rows with
  | nil => exact h.elim
  | cons r rows =>
   cases i with
   | zero => simp at hi; subst hi; obtain ⟨y, h1, h2⟩ := h.1; exact ⟨y, by simp [h1], h2⟩
   | succ i => simp at hi; simpa using ih h.2 hi
theorem PsAt.gr {σ σ' : H} {ps : List PathP} {x : Sl} (h : PsAt σ ps x) (hg : Gr σ σ') : PsAt σ' ps x := by
 obtain ⟨rows, h1, h2⟩ := h; exact ⟨rows, h1.gr hg, h2.gr hg⟩
theorem PsAt.len {σ : H} {ps : List PathP} {x : Sl} (h : PsAt σ ps x) : x.len = ps.length := by
 obtain ⟨rows, h1, h2⟩ := h; rw [h1.1, h2.len]
theorem PsAt.get {σ : H} {ps : List PathP} {x : Sl} (h : PsAt σ ps x) {i : Nat} {p : PathP} (hi : ps[i]? = some p) : ∃ g o y, x.base = some ⟨g, o, none⟩ /\ i < x.len /\ rdA 4 g (o + i * 4) σ = some (.agg ⟨pRow p y⟩) /\ RowsAt σ 1 (strRows p.refs) y := by
 have hl := h.len
 obtain ⟨rows, h1, h2⟩ := h
 obtain ⟨y, h3, h4⟩ := h2.get hi
 obtain ⟨g, o, q1, q2, q3⟩ := h1.rdA h3 (by decide)
 have hlt : i < ps.length := by
  rcases Nat.lt_or_ge i ps.length with h | h
  ·exact h
  ·rw [List.getElem?_eq_none h] at hi; cases hi
 exact ⟨g, o, y, q1, by omega, q2, h4⟩
theorem get_drop {α : Type} {l r : List α} {i : Nat} {d : α} (h : l.drop i = d :: r) : l[i]? = some d /\ i < l.length /\ l.drop (i + 1) = r := by
 have h1 : l[i]? = some d := by rw [<- Nat.add_zero i, <- List.getElem?_drop, h]; rfl
 have h2 : i < l.length := by
  rcases Nat.lt_or_ge i l.length with h | h
  ·exact h
  ·rw [List.getElem?_eq_none h] at h1; cases h1
 refine ⟨h1, h2, ?_⟩
 rw [drop_cons2 h1] at h; injection h
section
variable {σ : H} {K : KH}
theorem s_lkRises {l : List ByteArray} {x : Sl} (hx : RowsAt σ 1 (strRows l) x) (hn : l.length <= 1000000000) (hK : K (.bool (risesB l)) σ) : callW Tryz.prog 43 [.slice x.base x.len x.cap] K σ := by
 refine c43 _ ?_
 unfold g43
 have hl := sLen hx
 refine loop_i ?_
 intro R hR
 have key : ∀ (r : List ByteArray) (i : Nat) (a : ByteArray), l.drop i = a :: r -> risesB l = risesB (a :: r) -> R x ((i : Int) + 1) σ := by
  intro r
  induction r with
  | nil =>
   intro i a hd he
   obtain ⟨h1, h2, h3⟩ := get_drop hd
   have h4 : l.length <= i + 1 := by simpa using h3
   refine hR _ _ _ (br_f (by rw [hl]; simp only [decide_eq_false_iff_not]; omega) ?_)
   have : risesB l = true := by rw [he]; rfl
   rw [this] at hK; exact hK
  | cons b r ih =>
   intro i a hd he
   obtain ⟨h1, h2, h3⟩ := get_drop hd
   obtain ⟨h4, h5, h6⟩ := get_drop h3
   obtain ⟨g, o, q1, q2, q3⟩ := sRow hx h1
   obtain ⟨g', o', p1, p2, p3⟩ := sRow hx h4
   rw [q1] at p1; injection p1 with p1; injection p1 with ea eb; subst ea; subst eb
   refine hR _ _ _ (br_t (by rw [hl]; simp only [decide_eq_true_eq]; omega) ?_)
   rw [q1, wrap_id (x := (i : Int) + 1 - 1) (by omega) (by omega), show (i : Int) + 1 - 1 = (i : Int) by omega]
   refine ptr_i (if_i ⟨by omega, by show _ < ((x.len : Nat) : Int); omega⟩ (rd_S (by rw [Int.toNat_natCast]; exact q3) ?_))
   refine ptr_i (if_i ⟨by omega, by show _ < ((x.len : Nat) : Int); omega⟩ (rd_S (by rw [show ((i : Int) + 1).toNat = i + 1 by omega]; exact p3) ?_))
   cases hb : strLt a b with
   | false =>
    have : risesB l = false := by rw [he]; simp [risesB, hb]
    rw [this] at hK
    exact br_t rfl hK
   | true =>
    refine br_f rfl ?_
    rw [wrap_id (by omega) (by omega)]
    have := ih (i + 1) b h3 (by rw [he]; simp [risesB, hb])
    rw [show ((i + 1 : Nat) : Int) + 1 = (i : Int) + 1 + 1 by omega] at this
    exact this
 cases hd : l with
 | nil =>
  refine hR _ _ _ (br_f (by rw [hl, hd]; rfl) ?_)
  rw [hd] at hK; exact hK
 | cons a r => exact key r 0 a (by rw [hd]; rfl) (by rw [hd])
theorem s_lkIsPath (s : ByteArray) (hs : s.size <= 1000000) (hK : K (.bool (isPathP s)) σ) : callW Tryz.prog 46 [.string s] K σ := by
 refine c46 _ ?_
 unfold g46
 obtain ⟨⟨s⟩⟩ := s
 refine call_i (s_nmSplit s (by have : (⟨⟨s⟩⟩ : ByteArray).size = s.length := rfl; omega) (app_of rfl ?_))
 exact hK
theorem s_lkNotPath (s : ByteArray) (hs : s.size <= 1000000) (hK : K (.bool (!isPathP s)) σ) : callW Tryz.prog 48 [.string s] K σ := by
 refine c48 _ ?_
 unfold g48
 exact call_i (s_lkIsPath s hs (app_B hK))
def SayT (ρ : H) (v : Value) (l : List ByteArray) (f : ByteArray -> Bool) : Prop := ∀ s ∈ l, ∀ (σ' : H) (K : KH), Gr ρ σ' -> K (.bool (f s)) σ' -> callVW Tryz.prog v [.string s] K σ'
def SayQ (ρ : H) (v : Value) (l : List PathP) (f : PathP -> Bool) : Prop := ∀ p ∈ l, ∀ (y : Sl) (σ' : H) (K : KH), Gr ρ σ' -> RowsAt σ' 1 (strRows p.refs) y -> K (.bool (f p)) σ' -> callVW Tryz.prog v [.agg ⟨pRow p y⟩] K σ'
theorem s_slHasS {l : List ByteArray} {x : Sl} {v : Value} {f : ByteArray -> Bool} (hx : RowsAt σ 1 (strRows l) x) (hv : SayT σ v l f) (hn : l.length <= 1000000000) (hK : K (.bool (l.any f)) σ) : callW Tryz.prog 47 [.slice x.base x.len x.cap, v] K σ := by
 refine c47 _ _ ?_
 unfold g47
 refine call_i (c78 _ _ ?_)
 unfold g78
 have hl := sLen hx
 refine loop_i ?_
 intro R hR
 have key : ∀ (r : List ByteArray) (i : Nat), l.drop i = r -> l.any f = r.any f -> R x v ((x.len : Nat) : Int) (i : Int) σ := by
  intro r
  induction r with
  | nil =>
   intro i hd he
   have h4 : l.length <= i := by simpa using hd
   refine hR _ _ _ _ _ (br_f (by rw [hl]; simp only [decide_eq_false_iff_not]; omega) (app_I ?_))
   rw [he] at hK; exact hK
  | cons a r ih =>
   intro i hd he
   obtain ⟨h1, h2, h3⟩ := get_drop hd
   obtain ⟨g, o, q1, q2, q3⟩ := sRow hx h1
   refine hR _ _ _ _ _ (br_t (by rw [hl]; simp only [decide_eq_true_eq]; omega) ?_)
   rw [q1]
   refine ptr_i (if_i ⟨by omega, by show _ < ((x.len : Nat) : Int); omega⟩ (rd_S (by rw [Int.toNat_natCast]; exact q3) ?_))
   refine cvalv_i (hv a (List.mem_of_getElem? h1) σ _ (Gr.refl σ) (app_B ?_))
   cases hb : f a with
   | true =>
    refine br_t rfl (app_I ?_)
    have : l.any f = decide ((i : Int) >= 0) := by rw [he]; simp [hb]
    rw [this] at hK; exact hK
   | false =>
    refine br_f rfl ?_
    rw [wrap_id (x := (i : Int) + 1) (by omega) (by omega), show (i : Int) + 1 = ((i + 1 : Nat) : Int) from by omega]
    exact ih (i + 1) h3 (by rw [he]; simp [hb])
 exact key l 0 rfl rfl
theorem s_slHasP {l : List PathP} {x : Sl} {v : Value} {f : PathP -> Bool} (hx : PsAt σ l x) (hv : SayQ σ v l f) (hn : l.length <= 1000000000) (hK : K (.bool (l.any f)) σ) : callW Tryz.prog 76 [.slice x.base x.len x.cap, v] K σ := by
 refine c76 _ _ ?_
 unfold g76
 refine call_i (c121 _ _ ?_)
 unfold g121
 have hl := hx.len
 refine loop_i ?_
 intro R hR
 have key : ∀ (r : List PathP) (i : Nat), l.drop i = r -> l.any f = r.any f -> R x v ((x.len : Nat) : Int) (i : Int) σ := by
  intro r
  induction r with
  | nil =>
   intro i hd he
   have h4 : l.length <= i := by simpa using hd
   refine hR _ _ _ _ _ (br_f (by rw [hl]; simp only [decide_eq_false_iff_not]; omega) (app_I ?_))
   rw [he] at hK; exact hK
  | cons a r ih =>
   intro i hd he
   obtain ⟨h1, h2, h3⟩ := get_drop hd
   obtain ⟨g, o, y, q1, q2, q3, q4⟩ := hx.get h1
   refine hR _ _ _ _ _ (br_t (by rw [hl]; simp only [decide_eq_true_eq]; omega) ?_)
   rw [q1]
   refine ptr_i (if_i ⟨by omega, by show _ < ((x.len : Nat) : Int); omega⟩ (rd_G (by rw [Int.toNat_natCast]; exact q3) ?_))
   unfold pRow
   (refine app_of rfl ?_; try dsimp only)
   refine cvalv_i (hv a (List.mem_of_getElem? h1) y σ _ (Gr.refl σ) q4 (app_B ?_))
   cases hb : f a with
   | true =>
    refine br_t rfl (app_I ?_)
    have : l.any f = decide ((i : Int) >= 0) := by rw [he]; simp [hb]
    rw [this] at hK; exact hK
   | false =>
    refine br_f rfl ?_
    rw [wrap_id (x := (i : Int) + 1) (by omega) (by omega), show (i : Int) + 1 = ((i + 1 : Nat) : Int) from by omega]
    exact ih (i + 1) h3 (by rw [he]; simp [hb])
 exact key l 0 rfl rfl
end
theorem go_lkAll1 : isGo Tryz.prog 77 = true := by kernel_rfl
theorem go_lkFormed1 : isGo Tryz.prog 45 = true := by kernel_rfl
theorem go_lkNotPath : isGo Tryz.prog 48 = true := by kernel_rfl
theorem go_lkClosed1 : isGo Tryz.prog 49 = true := by kernel_rfl
theorem go_lkClosed11 : isGo Tryz.prog 50 = true := by kernel_rfl
theorem go_lkRooted1 : isGo Tryz.prog 51 = true := by kernel_rfl
theorem go_lkWhole1 : isGo Tryz.prog 52 = true := by kernel_rfl
theorem sz_apPath : sizeT Tryz.prog 38 = some 4 := by kernel_rfl
theorem sz_looker : sizeT Tryz.prog 55 = some 3 := by kernel_rfl
theorem el_strsL : ElT Tryz.prog 23 9 1 := elT_of (by kernel_rfl) (by decide) (by kernel_rfl)
theorem und_MSP : Tryz.prog.underlying 53 = some (.map 9 38) := by kernel_rfl
theorem und_strL : Tryz.prog.underlying 9 = some .string := by kernel_rfl
structure Sm (S : StP) : Prop where
 np : S.paths.length <= 1000000
 nr : S.roots.length <= 1000000
 rt : ∀ s ∈ S.roots, s.size <= 1000000
 pa : ∀ p ∈ S.paths, p.path.size <= 1000000 /\ p.nar.size <= 1000000 /\ p.drv.size <= 1000000 /\ p.refs.length <= 1000000 /\ ∀ s ∈ p.refs, s.size <= 1000000
abbrev PRow := ByteArray × Sl × ByteArray × ByteArray
def rowV (q : PRow) : Value := .agg ⟨[.string q.1, .slice q.2.1.base q.2.1.len q.2.1.cap, .string q.2.2.1, .string q.2.2.2]⟩
def LkAt (σ : H) (S : StP) (x1 x2 : Sl) (m : Nat) : Prop := PsAt σ S.paths x1 /\ RowsAt σ 1 (strRows S.roots) x2 /\ ∃ l : List (ByteArray × PRow), MapAt σ m (encL kkS rowV l) /\ ∀ s, (lk s l).isSome = S.is s
theorem LkAt.gr {σ σ' : H} {S : StP} {x1 x2 : Sl} {m : Nat} (h : LkAt σ S x1 x2 m) (hg : Gr σ σ') : LkAt σ' S x1 x2 m := by
 obtain ⟨h1, h2, l, h3, h4⟩ := h
 exact ⟨h1.gr hg, h2.gr hg, l, h3.gr hg, h4⟩
def lkV (x1 x2 : Sl) (m : Nat) : Value := .agg ⟨[.slice x1.base x1.len x1.cap, .slice x2.base x2.len x2.cap, .map (some m)]⟩
section
variable {σ : H} {K : KH} {S : StP} {x1 x2 : Sl} {m : Nat}
theorem s_lkAll {f : PathP -> Bool} {v : Value} (h : LkAt σ S x1 x2 m) (hz : Sm S) (hv : SayQ σ v S.paths f) (hone : ∀ (g : H -> Prop) σ, g σ -> oneK v g σ) (hone2 : v.oneCell' = true) (hK : K (.bool (!(S.paths.any fun p => !f p))) σ) : callW Tryz.prog 44 [lkV x1 x2 m, v] K σ := by
 refine pure_i _ hK (c44 _ _ _ _ ?_)
 clear hK
 unfold g44
 refine al_i ?_; intro b5 σ1 g1 e1 n1
 refine hone _ _ ?_
 refine al_i ?_; intro b6 σ2 g2 e2 n2
 refine rd_L (rdC_of (g2.get e1) (by rfl)) ?_
 have G2 := g1.trans g2
 refine call_i (s_slHasP (f := fun p => !f p) (h.1.gr G2) ?_ (by have := hz.np; omega) (app_B ⟨rfl, G2⟩))
 intro p hp y σ' K' hg hy hK'
 unfold callVW
 simp only [go_lkAll1]
 refine pure_i _ hK' (c77 _ _ _ _ _ ?_)
 unfold g77
 refine al_i ?_; intro b σ3 g3 e3 n3
 refine ptr_i (rd_R (rdC_of (g3.get (hg.get e2)) (by rfl)) ?_)
 refine rd_G (rdA_of' e3 (by rfl)) ?_
 (refine app_of rfl ?_; try dsimp only)
 exact cvalv_i (hv p hp y σ3 _ ((G2.trans hg).trans g3) (hy.gr g3) (app_B ⟨rfl, g3⟩))
theorem s_lkIs (s : ByteArray) (h : LkAt σ S x1 x2 m) (hK : K (.bool (S.is s)) σ) : callW Tryz.prog 33 [lkV x1 x2 m, .string s] K σ := by
 refine pure_i _ hK (c33 _ _ _ _ ?_)
 clear hK
 unfold g33
 refine al_i ?_; intro b5 σ1 g1 e1 n1
 obtain ⟨h1, h2, l, h3, h4⟩ := h.gr g1
 refine rd_M (rdC_of e1 (by rfl)) ?_
 refine rd_G (rdM_at (kk := kkS) h3 _ true s) ?_
 rw [h4]
 obtain ⟨q, hq⟩ : ∃ q : PRow, ((lk s l).map rowV).getD (rowV (⟨⟨[]⟩⟩, ⟨none, 0, 0⟩, ⟨⟨[]⟩⟩, ⟨⟨[]⟩⟩)) = rowV q := by
  cases lk s l with
  | none => exact ⟨_, rfl⟩
  | some q => exact ⟨q, rfl⟩
 show app _ _ (okV true (((lk s l).map rowV).getD (rowV (⟨⟨[]⟩⟩, ⟨none, 0, 0⟩, ⟨⟨[]⟩⟩, ⟨⟨[]⟩⟩))) (S.is s)) _
 rw [hq]
 show app _ _ (.tuple ⟨[rowV q, .bool (S.is s)]⟩) _
 unfold rowV
 refine app_of rfl ?_
 dsimp only
 refine al_i ?_; intro b12 σ2 g2 e2 n2
 refine st_i2 e2 sz_apPath (by rfl) (by rfl) ?_
 intro σ3 p3
 exact ⟨rfl, (g1.trans g2).putF p3 (none_of g1 n2)⟩
theorem s_lkLooker (h1 : PsAt σ S.paths x1) (h2 : RowsAt σ 1 (strRows S.roots) x2) (hz : Sm S) (hK : ∀ m σ', Gr σ σ' -> LkAt σ' S x1 x2 m -> K (lkV x1 x2 m) σ') : callW Tryz.prog 23 [.agg ⟨[.slice x1.base x1.len x1.cap, .slice x2.base x2.len x2.cap]⟩] K σ := by
 refine c23 _ _ ?_
 unfold g23
 refine al_i ?_; intro b3 σ1 g1 e1 n1
 refine al_i ?_; intro b4 σ2 g2 e2 n2
 refine rd_G (rdA_of' (g2.get e1) (by rfl)) ?_
 (refine app_of rfl ?_; try dsimp only)
 refine al_i ?_; intro b7 σ3 g3 e3 n3
 refine al_i ?_; intro b8 σ4 g4 e4 n4
 refine st_i2 e4 sz_looker (by rfl) (by rfl) ?_
 intro σ5 p5
 have g35 : Gr σ3 σ5 := g4.putF p5 n4
 have m5 : MapAt σ5 b7 (encL kkS rowV []) := (MapAt.new e3).gr g35
 have G3 : Gr σ σ3 := (g1.trans g2).trans g3
 have G5 : Gr σ σ5 := G3.trans g35
 refine rd_L (rdC_of (g35.get (g3.get (g2.get e1))) (by rfl)) ?_
 have n7 : σ b7 = none := none_of (g1.trans g2) n3
 have n48 : b4 ≠ b8 := ne_fresh (g3.get e2) n4
 have n47 : b4 ≠ b7 := ne_fresh e2 n3
 have n87 : b8 ≠ b7 := (ne_fresh e3 n4).symm
 have e45 := g35.get (g3.get e2)
 have hl := h1.len
 have hnp := hz.np
 refine loop_i ?_
 intro R hR
 have key : ∀ (r : List PathP) (i : Nat) (τ : H) (l : List (ByteArray × PRow)), S.paths.drop i = r -> Gr σ τ -> MapAt τ b7 (encL kkS rowV l) -> τ b8 = some (.cells ⟨[.slice x1.base x1.len x1.cap, .slice x2.base x2.len x2.cap, .map (some b7)]⟩ 55 (0, 0)) -> τ b4 = some (.cells ⟨[.slice none 0 0, .slice none 0 0, .map none]⟩ 55 (0, 0)) ->
  (∀ s, S.is s = ((lk s l).isSome || r.any fun p => p.path == s)) -> R (some ⟨b4, 0, none⟩) (some ⟨b8, 0, none⟩) x1 ((x1.len : Nat) : Int) (i : Int) τ := by
  intro r
  induction r with
  | nil =>
   intro i τ l hd hg hm h8 h4 hs
   have h5 : S.paths.length <= i := by simpa using hd
   refine hR _ _ _ _ _ _ (br_f (by rw [hl]; simp only [decide_eq_false_iff_not]; omega) ?_)
   refine ptr_i (rd_G (rdA_of' h8 (by rfl)) ?_)
   (refine app_of rfl ?_; try dsimp only)
   refine st_i2 h4 sz_looker (by rfl) (by rfl) ?_
   intro τ1 p1
   refine ptr_i (rd_G (rdA_of' p1.same (by rfl)) ?_)
   (refine app_of rfl ?_; try dsimp only)
   have gp : Gr σ τ1 := hg.putF p1 (none_of g1 n2)
   exact hK b7 τ1 gp ⟨h1.gr gp, h2.gr gp, l, hm.put p1 n47.symm, fun s => by rw [hs s]; simp⟩
  | cons p r ih =>
   intro i τ l hd hg hm h8 h4 hs
   obtain ⟨d1, d2, d3⟩ := get_drop hd
   obtain ⟨g, o, y, q1, q2, q3, q4⟩ := (h1.gr hg).get d1
   refine hR _ _ _ _ _ _ (br_t (by rw [hl]; simp only [decide_eq_true_eq]; omega) ?_)
   have next : ∀ (τ' : H) (l' : List (ByteArray × PRow)), Gr σ τ' -> MapAt τ' b7 (encL kkS rowV l') -> τ' b8 = some (.cells ⟨[.slice x1.base x1.len x1.cap, .slice x2.base x2.len x2.cap, .map (some b7)]⟩ 55 (0, 0)) -> τ' b4 = some (.cells ⟨[.slice none 0 0, .slice none 0 0, .map none]⟩ 55 (0, 0)) ->
    (∀ s, ((lk s l').isSome = ((lk s l).isSome || p.path == s))) -> R (some ⟨b4, 0, none⟩) (some ⟨b8, 0, none⟩) x1 ((x1.len : Nat) : Int) (IntKind.i64.wrap ((i : Int) + 1)) τ' := by
    intro τ' l' a1 a2 a3 a4 a5
    rw [wrap_id (x := (i : Int) + 1) (by omega) (by omega), show (i : Int) + 1 = ((i + 1 : Nat) : Int) from by omega]
    exact ih (i + 1) τ' l' d3 a1 a2 a3 a4 fun s => by rw [hs s, a5 s]; simp [Bool.or_assoc]
   refine j_d ?_
   rw [q1]
   refine ptr_i (if_i ⟨by omega, by show _ < ((x1.len : Nat) : Int); omega⟩ (rd_G (by rw [Int.toNat_natCast]; exact q3) ?_))
   unfold pRow
   (refine app_of rfl ?_; try dsimp only)
   refine al_i ?_; intro b28 τ1 k1 f1 w1
   refine st_i2 f1 sz_apPath (by rfl) (by rfl) ?_
   intro τ2 p2
   have K2 : Gr τ τ2 := k1.putF p2 w1
   refine ptr_i (rd_M (rdC_of (K2.get h8) (by rfl)) (rd_S (rdC_of p2.same (by rfl)) ?_))
   refine rd_G (rdM_at (kk := kkS) (hm.gr K2) _ true p.path) ?_
   obtain ⟨q, hq⟩ : ∃ q : PRow, ((lk p.path l).map rowV).getD (rowV (⟨⟨[]⟩⟩, ⟨none, 0, 0⟩, ⟨⟨[]⟩⟩, ⟨⟨[]⟩⟩)) = rowV q := by
    cases lk p.path l with
    | none => exact ⟨_, rfl⟩
    | some q => exact ⟨q, rfl⟩
   show app _ _ (okV true (((lk p.path l).map rowV).getD (rowV (⟨⟨[]⟩⟩, ⟨none, 0, 0⟩, ⟨⟨[]⟩⟩, ⟨⟨[]⟩⟩))) (lk p.path l).isSome) _
   rw [hq]
   show app _ _ (.tuple ⟨[rowV q, .bool (lk p.path l).isSome]⟩) _
   unfold rowV
   refine app_of rfl ?_
   dsimp only
   refine al_i ?_; intro b38 τ3 k3 f3 w3
   refine st_i2 f3 sz_apPath (by rfl) (by rfl) ?_
   intro τ4 p4
   have K4 : Gr τ2 τ4 := k3.putF p4 w3
   have K24 := K2.trans K4
   refine br_i (fun hb => ?_) (fun hb => ?_)
   ·refine ptr_i (rd_M (rdC_of (K24.get h8) (by rfl)) (rd_S (rdC_of (K4.get p2.same) (by rfl)) ?_))
    refine rd_G (rdA_of' (K4.get p2.same) (by rfl)) ?_
    (refine app_of rfl ?_; try dsimp only)
    refine mu_i (kk := kkS) (f := rowV) und_MSP und_strL (hm.gr K24) p.path (p.path, y, p.nar, p.drv) ?_
    intro o5 τ5 p5' m5'
    refine next τ5 _ ((hg.trans K24).putF p5' n7) m5' (p5'.get n87 (K24.get h8)) (p5'.get n47 (K24.get h4)) fun s => ?_
    rw [lk_up]
    by_cases hsp : s = p.path
    ·subst hsp; simp
    ·have e1 : (s == p.path) = false := by simpa using hsp
     have e2 : (p.path == s) = false := by simpa using fun e => hsp e.symm
     rw [e1, e2]; simp
   ·refine next τ4 l (hg.trans K24) (hm.gr K24) (K24.get h8) (K24.get h4) fun s => ?_
    by_cases hsp : s = p.path
    ·subst hsp
     have : (lk p.path l).isSome = true := by simpa using hb
     rw [this]; rfl
    ·have e2 : (p.path == s) = false := by simpa using fun e => hsp e.symm
     rw [e2]; simp
 exact key S.paths 0 σ5 [] rfl G5 m5 p5.same e45 (fun s => by simp [StP.is, lk])
end
theorem go_lkScanned1 : isGo Tryz.prog 54 = true := by kernel_rfl
theorem go_lkNamed1 : isGo Tryz.prog 58 = true := by kernel_rfl
section
variable {σ : H} {K : KH} {S : StP} {x1 x2 : Sl} {m : Nat}
theorem s_lkFormed (h : LkAt σ S x1 x2 m) (hz : Sm S) (hK : K (.bool S.formed) σ) : callW Tryz.prog 24 [lkV x1 x2 m] K σ := by
 refine pure_i _ hK (c24 _ _ _ ?_)
 clear hK
 unfold g24
 refine al_i ?_; intro b4 σ1 g1 e1 n1
 refine rd_L (rdC_of e1 (by rfl)) ?_
 have hl := h.1.len
 have hnp := hz.np
 refine loop_i ?_
 intro R hR
 have key : ∀ (r : List PathP) (i : Nat) (τ : H) (acc : List ByteArray) (y : Sl), S.paths.drop i = r -> Gr σ τ -> RNew σ1 τ 9 1 (strRows acc) y -> acc.length = i -> S.paths.map (·.path) = acc ++ r.map (·.path) -> R (some ⟨b4, 0, none⟩) y x1 ((x1.len : Nat) : Int) (i : Int) τ := by
  intro r
  induction r with
  | nil =>
   intro i τ acc y hd hg hy ha he
   have h5 : S.paths.length <= i := by simpa using hd
   have hal : acc.length <= 1000000 := by have := congrArg List.length he; simp at this; omega
   refine hR _ _ _ _ _ _ (br_f (by rw [hl]; simp only [decide_eq_false_iff_not]; omega) ?_)
   have hp : S.paths.map (·.path) = acc := by rw [he]; simp
   refine call_i (s_lkRises hy.at (by omega) (app_B ?_))
   unfold StP.formed
   rw [hp]
   cases risesB acc with
   | false => exact br_f rfl ⟨rfl, hg⟩
   | true =>
    refine br_t rfl (ptr_i (rd_G (rdA_of' (hy.1.get e1) (by rfl)) ?_))
    (refine app_of rfl ?_; try dsimp only)
    refine call_i (s_lkAll (f := formP) (h.gr hg) hz ?_ (fun g σ hg => by unfold oneK; exact hg) rfl (app_B ⟨rfl, hg⟩))
    intro p hp y' σ' K' hg' hy' hK'
    obtain ⟨z1, z2, z3, z4, z5⟩ := hz.pa p hp
    unfold callVW
    simp only [go_lkFormed1]
    refine pure_i _ hK' (c45 _ _ _ _ ?_)
    unfold g45 formP
    refine al_i ?_; intro b σ3 g3 e3 n3
    refine rd_S (rdC_of e3 (by rfl)) (call_i (s_lkIsPath _ z1 (app_B ?_)))
    cases isPathP p.path with
    | false => exact br_f rfl ⟨rfl, g3⟩
    | true =>
     refine br_t rfl (rd_L (rdC_of e3 (by rfl)) (call_i (s_lkRises (hy'.gr g3) (by omega) (app_B ?_))))
     cases risesB p.refs with
     | false => exact br_f rfl ⟨rfl, g3⟩
     | true =>
      refine br_t rfl (rd_L (rdC_of e3 (by rfl)) (call_i (s_slHasS (f := fun s => !isPathP s) (hy'.gr g3) ?_ (by omega) (app_B ⟨rfl, g3⟩))))
      intro s hs σ4 K4 g4 hK4
      unfold callVW
      simp only [go_lkNotPath]
      exact s_lkNotPath s (z5 s hs) hK4
  | cons p r ih =>
   intro i τ acc y hd hg hy ha he
   obtain ⟨d1, d2, d3⟩ := get_drop hd
   obtain ⟨g, o, y', q1, q2, q3, q4⟩ := (h.1.gr hg).get d1
   refine hR _ _ _ _ _ _ (br_t (by rw [hl]; simp only [decide_eq_true_eq]; omega) ?_)
   rw [q1]
   refine ptr_i (if_i ⟨by omega, by show _ < ((x1.len : Nat) : Int); omega⟩ (rd_G (by rw [Int.toNat_natCast]; exact q3) ?_))
   unfold pRow
   (refine app_of rfl ?_; try dsimp only)
   refine al_i ?_; intro b18 τ1 k1 f1 w1
   refine st_i2 f1 sz_apPath (by rfl) (by rfl) ?_
   intro τ2 p2
   have K2 : Gr τ τ2 := k1.putF p2 w1
   refine rd_S (rdC_of p2.same (by rfl)) ?_
   refine RNew.app1 el_strsL (hy.gr K2) (r := [.string p.path]) rfl rfl (by rw [strRows_len]; omega) ?_
   intro y2 τ3 hy2 _ _
   rw [wrap_id (x := (i : Int) + 1) (by omega) (by omega), show (i : Int) + 1 = ((i + 1 : Nat) : Int) from by omega]
   refine ih (i + 1) τ3 (acc ++ [p.path]) y2 d3 (g1.trans hy2.1) ?_ (by simp [ha]) (by rw [he]; simp)
   have : strRows (acc ++ [p.path]) = strRows acc ++ [[.string p.path]] := by simp [strRows]
   rw [this]; exact hy2
 exact key S.paths 0 σ1 [] ⟨none, 0, 0⟩ rfl g1 (RNew.nil _ _ _) rfl rfl
theorem say_notIs {f : FuncId} {b4 : Nat} (hz : Sm S) (e : σ b4 = some (.cells ⟨[.slice x1.base x1.len x1.cap, .slice x2.base x2.len x2.cap, .map (some m)]⟩ 55 (0, 0))) (h : LkAt σ S x1 x2 m) (l : List ByteArray)
 (hf : ∀ (s : ByteArray) (σ' : H) (K : KH), σ' b4 = some (.cells ⟨[.slice x1.base x1.len x1.cap, .slice x2.base x2.len x2.cap, .map (some m)]⟩ 55 (0, 0)) -> LkAt σ' S x1 x2 m -> K (.bool (!S.is s)) σ' -> callVW Tryz.prog (.func (.func f) ⟨[]⟩ ⟨[.pointer (some ⟨b4, 0, none⟩)]⟩) [.string s] K σ') :
 SayT σ (.func (.func f) ⟨[]⟩ ⟨[.pointer (some ⟨b4, 0, none⟩)]⟩) l (fun s => !S.is s) := by
 intro s _ σ' K' hg hK'
 exact hf s σ' K' (hg.get e) (h.gr hg) hK'
theorem s_lkClosed (h : LkAt σ S x1 x2 m) (hz : Sm S) (hK : K (.bool S.closed) σ) : callW Tryz.prog 25 [lkV x1 x2 m] K σ := by
 refine pure_i _ hK (c25 _ _ _ ?_)
 clear hK
 unfold g25
 refine al_i ?_; intro b4 σ1 g1 e1 n1
 refine rd_G (rdA_of' e1 (by rfl)) ?_
 (refine app_of rfl ?_; try dsimp only)
 refine call_i (s_lkAll (f := fun p => !(p.refs.any fun r => !S.is r)) (h.gr g1) hz ?_ (fun g σ hg => by unfold oneK; exact hg) rfl (app_B ⟨rfl, g1⟩))
 intro p hp y' σ' K' hg' hy' hK'
 obtain ⟨z1, z2, z3, z4, z5⟩ := hz.pa p hp
 unfold callVW
 simp only [go_lkClosed1]
 refine pure_i _ hK' (c49 _ _ _ _ _ ?_)
 unfold g49
 refine al_i ?_; intro b σ3 g3 e3 n3
 refine rd_L (rdC_of e3 (by rfl)) (call_i (s_slHasS (f := fun s => !S.is s) (hy'.gr g3) ?_ (by omega) (app_B ⟨rfl, g3⟩)))
 refine say_notIs hz (g3.get (hg'.get e1)) (((h.gr g1).gr hg').gr g3) p.refs ?_
 intro s σ4 K4 e4 h4 hK4
 unfold callVW
 simp only [go_lkClosed11]
 refine c50 _ _ ?_
 unfold g50
 refine ptr_i (rd_G (rdA_of' e4 (by rfl)) ?_)
 (refine app_of rfl ?_; try dsimp only)
 exact call_i (s_lkIs s h4 (app_B hK4))
theorem s_lkRooted (h : LkAt σ S x1 x2 m) (hz : Sm S) (hK : K (.bool S.rooted) σ) : callW Tryz.prog 26 [lkV x1 x2 m] K σ := by
 refine pure_i _ hK (c26 _ _ _ ?_)
 clear hK
 unfold g26 StP.rooted
 have hnr := hz.nr
 refine al_i ?_; intro b4 σ1 g1 e1 n1
 refine rd_L (rdC_of e1 (by rfl)) (call_i (s_lkRises (h.2.1.gr g1) (by omega) (app_B ?_)))
 cases risesB S.roots with
 | false => exact br_f rfl ⟨rfl, g1⟩
 | true =>
  refine br_t rfl (rd_L (rdC_of e1 (by rfl)) (call_i (s_slHasS (f := fun s => !S.is s) (h.2.1.gr g1) ?_ (by omega) (app_B ⟨rfl, g1⟩))))
  refine say_notIs hz e1 (h.gr g1) S.roots ?_
  intro s σ4 K4 e4 h4 hK4
  unfold callVW
  simp only [go_lkRooted1]
  refine c51 _ _ ?_
  unfold g51
  refine ptr_i (rd_G (rdA_of' e4 (by rfl)) ?_)
  (refine app_of rfl ?_; try dsimp only)
  exact call_i (s_lkIs s h4 (app_B hK4))
theorem ba_eta (s : ByteArray) : (⟨⟨s.data.toList⟩⟩ : ByteArray) = s := by obtain ⟨⟨l⟩⟩ := s; rfl
theorem decT_total {s : List UInt8} (hs : s.length <= 1000000) : (decT s).1.total <= 1000001 := by
 unfold decT decodeP
 dsimp only
 split
 ·rename_i t h
  split at h
  ·split at h
   ·cases h
   ·rename_i t' r hn
    split at h
    ·cases h
     have := nodeP_total 13 _ _ _ hn
     have h2 := text_left_le ⟨s, false⟩
     have h3 : (RdP.mk s false).text.2.left.length <= s.length := h2
     show t.total <= _
     omega
    ·cases h
  ·cases h
 ·show 1 + _ + _ + _ <= _
  decide
theorem s_lkWhole (h : LkAt σ S x1 x2 m) (hz : Sm S) (hK : K (.bool S.whole) σ) : callW Tryz.prog 27 [lkV x1 x2 m] K σ := by
 refine pure_i _ hK (c27 _ _ _ ?_)
 clear hK
 unfold g27
 refine al_i ?_; intro b4 σ1 g1 e1 n1
 refine rd_G (rdA_of' e1 (by rfl)) ?_
 (refine app_of rfl ?_; try dsimp only)
 refine call_i (s_lkAll (f := wholP) (h.gr g1) hz ?_ (fun g σ hg => by unfold oneK; exact hg) rfl (app_B ⟨rfl, g1⟩))
 intro p hp y' σ' K' hg' hy' hK'
 obtain ⟨z1, z2, z3, z4, z5⟩ := hz.pa p hp
 unfold callVW
 simp only [go_lkWhole1]
 refine pure_i _ hK' (c52 _ _ _ _ ?_)
 unfold g52 wholP
 refine al_i ?_; intro b σ3 g3 e3 n3
 refine rd_S (rdC_of e3 (by rfl)) ?_
 have hsz : p.nar.data.toList.length = p.nar.size := dl _
 have hn : p.nar = ⟨⟨p.nar.data.toList⟩⟩ := (ba_eta _).symm
 rw [hn]
 refine call_i (s_naDec p.nar.data.toList (by omega) ?_)
 intro y4 σ4 g4 s4
 refine app_of rfl ?_
 dsimp only
 refine al_i ?_; intro b13 σ5 g5 e5 n5
 refine st_i2 e5 sz_Node (by rfl) (by rfl) ?_
 intro σ6 p6
 have g46 : Gr σ4 σ6 := g5.putF p6 n5
 have g36 : Gr σ3 σ6 := g4.trans g46
 have gg : Gr σ' σ6 := g3.trans g36
 refine br_i (fun hb => ?_) (fun hb => ?_)
 ·rw [if_pos hb]; exact ⟨rfl, gg⟩
 ·rw [if_neg (by simp [hb])]
  refine rd_G (rdA_of' p6.same (by rfl)) ?_
  (refine app_of rfl ?_; try dsimp only)
  have := decT_total (s := p.nar.data.toList) (by omega)
  refine call_i (s_naEnc (decT p.nar.data.toList).1 y4 (s4.gr g46) (by omega) ?_)
  refine app_of rfl ?_
  dsimp only
  refine br_i (fun hb2 => ?_) (fun hb2 => ?_)
  ·rw [hb2, Bool.true_and]
   refine rd_S (rdC_of (g36.get e3) (by rfl)) ?_
   rw [hn, strEq_l]
   exact ⟨rfl, gg⟩
  ·rw [hb2]; exact ⟨rfl, gg⟩
end
end Go.Proofs.YtgfiobhpipollaaGreatDoor

namespace Go.Wk
open Go Go.HL
theorem inP_len (hv b : Int) : (inP hv b).2.length <= 2 := by
 unfold inP
 split
 ·split <;> simp
 ·simp
theorem lettersP_len : ∀ (l : List UInt8) (hv b : Int), (lettersP l hv b).length <= 2 * l.length := by
 intro l
 induction l with
 | nil => intro hv b; simp [lettersP]
 | cons c r ih =>
  intro hv b
  simp only [lettersP, List.length_append, List.length_cons]
  have h1 := inP_len (orH hv c) (b + 8)
  have h2 := ih (andH (orH hv c) (inP (orH hv c) (b + 8)).1) (inP (orH hv c) (b + 8)).1
  omega
theorem hashP_len (l : List UInt8) : (hashP l).length <= 40 := by
 have h := lettersP_len ((shaSumP l).take 20) 0 0
 have h2 : ((shaSumP l).take 20).length <= 20 := by rw [List.length_take]; omega
 unfold hashP; omega
end Go.Wk

set_option maxRecDepth 100000
namespace Go.Proofs.YtgfiobhpipollaaGreatDoor
open Go Go.HL Go.Wk
attribute [local irreducible] ptrW ifW brW andW rdT alW letJ stW muW biW vaW imW callT cvalT app callW invW callVW sizeT oW nilF oneK loopW rfW funW begW roundK exW idxW Gr Put
theorem go_lkScanned11 : isGo Tryz.prog 55 = true := by kernel_rfl
theorem go_lkFormed : isGo Tryz.prog 24 = true := by kernel_rfl
theorem go_lkClosed : isGo Tryz.prog 25 = true := by kernel_rfl
theorem go_lkRooted : isGo Tryz.prog 26 = true := by kernel_rfl
theorem go_lkWhole : isGo Tryz.prog 27 = true := by kernel_rfl
theorem go_lkScanned : isGo Tryz.prog 28 = true := by kernel_rfl
theorem go_lkNamed : isGo Tryz.prog 29 = true := by kernel_rfl
theorem sz_rules : sizeT Tryz.prog 57 = some 6 := by kernel_rfl
theorem dl_mk (l : List UInt8) : (⟨⟨l⟩⟩ : ByteArray).size = l.length := rfl
def HasOk (S : StP) (has : PathP -> ByteArray -> Bool) : Prop := ∀ p ∈ S.paths, ∀ r ∈ p.refs, ∀ (σ : H) (y : Sl) (b : Nat) (K : KH), SlAt σ (decT p.nar.data.toList).1.kids y -> σ b = some (.cells ⟨[.string ⟨⟨(splitN r.data.toList).1⟩⟩]⟩ 9 (0, 0)) ->
 (∀ (z : Sl) σ', Gr σ σ' -> decide (z.len = 0) = !has p r -> K (.slice z.base z.len z.cap) σ') -> callW Tryz.prog 57 [.agg ⟨trC (decT p.nar.data.toList).1 y⟩, .slice (some ⟨b, 0, none⟩) 1 1] K σ
def OwnOk (S : StP) (own : PathP -> List UInt8) : Prop := ∀ p ∈ S.paths, ∀ (σ : H) (y : Sl) (K : KH), RowsAt σ 1 (strRows p.refs) y -> K (.string ⟨⟨own p⟩⟩) σ -> callW Tryz.prog 59 [.agg ⟨pRow p y⟩] K σ
section
variable {σ : H} {K : KH} {S : StP} {x1 x2 : Sl} {m : Nat}
theorem s_lkScanned {has : PathP -> ByteArray -> Bool} (hh : HasOk S has) (h : LkAt σ S x1 x2 m) (hz : Sm S) (hK : K (.bool (S.scanned has)) σ) : callW Tryz.prog 28 [lkV x1 x2 m] K σ := by
 refine pure_i _ hK (c28 _ _ _ ?_)
 clear hK
 unfold g28
 refine al_i ?_; intro b4 σ1 g1 e1 n1
 refine rd_G (rdA_of' e1 (by rfl)) ?_
 (refine app_of rfl ?_; try dsimp only)
 refine call_i (s_lkAll (f := fun p => !(p.refs.any fun r => !has p r)) (h.gr g1) hz ?_ (fun g σ hg => by unfold oneK; exact hg) rfl (app_B ⟨rfl, g1⟩))
 intro p hp y' σ' K' hg' hy' hK'
 obtain ⟨z1, z2, z3, z4, z5⟩ := hz.pa p hp
 have hp' := hh p hp
 unfold callVW
 simp only [go_lkScanned1]
 refine pure_i _ hK' (c54 _ _ _ _ ?_)
 unfold g54
 refine al_i ?_; intro b σ3 g3 e3 n3
 refine rd_S (rdC_of e3 (by rfl)) ?_
 have hsz : p.nar.data.toList.length = p.nar.size := dl _
 have hn : p.nar = ⟨⟨p.nar.data.toList⟩⟩ := (ba_eta _).symm
 rw [hn]
 refine call_i (s_naDec p.nar.data.toList (by omega) ?_)
 intro y4 σ4 g4 s4
 refine app_of rfl ?_
 dsimp only
 refine al_i ?_; intro b13 σ5 g5 e5 n5
 refine st_i2 e5 sz_Node (by rfl) (by rfl) ?_
 intro σ6 p6
 have g46 : Gr σ4 σ6 := g5.putF p6 n5
 have g36 : Gr σ3 σ6 := g4.trans g46
 have gg : Gr σ' σ6 := g3.trans g36
 have c6 : σ6 b13 = some (.cells ⟨trC (decT p.nar.data.toList).1 y4⟩ 75 (0, 0)) := p6.same
 refine rd_L (rdC_of (g36.get e3) (by rfl)) (call_i (s_slHasS (f := fun r => !has p r) (hy'.gr gg) ?_ (by omega) (app_B ⟨rfl, gg⟩)))
 intro r hr σ7 K7 g7 hK7
 unfold callVW
 simp only [go_lkScanned11]
 refine pure_i _ hK7 (c55 _ _ ?_)
 unfold g55
 have hrs : r.data.toList.length = r.size := dl _
 have hre : r = ⟨⟨r.data.toList⟩⟩ := (ba_eta _).symm
 have hrz := z5 r hr
 rw [hre]
 refine call_i (s_nmSplit r.data.toList (by omega) (app_of rfl ?_))
 dsimp only
 refine ptr_i (rd_G (rdA_of' (g7.get c6) (by rfl)) ?_)
 unfold trC
 (refine app_of rfl ?_; try dsimp only)
 refine al_i ?_; intro b8 σ8 g8 e8 n8
 refine call_i (hp' r hr σ8 y4 b8 _ (s4.gr ((g46.trans g7).trans g8)) e8 fun z σ9 g9 hz9 => ?_)
 refine app_L ?_
 have e : ((((z.len : Nat) : Int)) == 0) = !has p r := by rw [<- hz9, Bool.eq_iff_iff, beq_iff_eq, decide_eq_true_iff]; omega
 rw [e, <- hre]
 exact ⟨rfl, g8.trans g9⟩
theorem s_poAdded (a c : List UInt8) (ha : a.length <= 1000000) (hc : c.length <= 1000000) (hK : K (.tuple ⟨[.string ⟨⟨(addedP a c).1⟩⟩, .int .i64 (addedP a c).2]⟩) σ) : callW Tryz.prog 42 [.string ⟨⟨a⟩⟩, .string ⟨⟨c⟩⟩] K σ := by
 refine pure_i _ hK (c42 _ _ ?_)
 clear hK
 unfold g42 addedP
 refine call_i (s_nmCheck _ (app_I ?_))
 show brW (nameP c != 0) _ _ _
 refine br_i (fun h1 => ?_) (fun h1 => ?_)
 ·rw [if_pos h1]; exact ⟨rfl, Gr.refl _⟩
 rw [if_neg (by simp [h1])]
 refine call_i (s_naDec a ha ?_)
 intro y σ1 g1 s1
 refine app_of rfl ?_
 dsimp only
 refine al_i ?_; intro b10 σ2 g2 e2 n2
 refine st_i2 e2 sz_Node (by rfl) (by rfl) ?_
 intro σ3 p3
 have g3 : Gr σ σ3 := g1.trans (g2.putF p3 n2)
 refine br_i (fun h2 => ?_) (fun h2 => ?_)
 ·rw [if_pos h2]; exact ⟨rfl, g3⟩
 rw [if_neg (by simp [h2])]
 have hpa := putT_len a
 have hpc := putT_len c
 refine call_i (s_PutText [97, 100, 100, 58] a (by decide) (by omega) (app_S ?_))
 refine call_i (s_PutText _ c (by simp only [List.length_append, List.length_cons, List.length_nil]; omega) (by omega) (app_S ?_))
 refine call_i (s_nmHash _ (by rw [dl_mk]; simp only [List.length_append, List.length_cons, List.length_nil]; omega) (app_S ?_))
 refine call_i (s_nmPath _ c (by have := hashP_len (([97, 100, 100, 58] ++ putT a) ++ putT c); exact Nat.le_trans this (by decide)) (by omega) ?_)
 refine app_of rfl ?_
 exact ⟨rfl, g3⟩
theorem s_lkOwn (p : PathP) (hd : p.drv = ⟨⟨[]⟩⟩) (z1 : p.path.size <= 1000000) (z2 : p.nar.size <= 1000000) {y : Sl} (hK : K (.string ⟨⟨ownP p⟩⟩) σ) : callW Tryz.prog 59 [.agg ⟨pRow p y⟩] K σ := by
 refine pure_i _ hK (c59 _ _ _ _ ?_)
 clear hK
 unfold g59
 refine al_i ?_; intro b5 σ1 g1 e1 n1
 refine rd_S (rdC_of e1 (by rfl)) ?_
 rw [hd]
 refine br_t (strEq_iff.2 rfl) (rd_S (rdC_of e1 (by rfl)) ?_)
 have h1 : p.path.data.toList.length = p.path.size := dl _
 have h2 : p.nar.data.toList.length = p.nar.size := dl _
 have e3 : p.path = ⟨⟨p.path.data.toList⟩⟩ := (ba_eta _).symm
 have e4 : p.nar = ⟨⟨p.nar.data.toList⟩⟩ := (ba_eta _).symm
 rw [e3]
 refine call_i (s_nmSplit p.path.data.toList (by omega) (app_of rfl ?_))
 dsimp only
 refine rd_S (rdC_of e1 (by rfl)) ?_
 rw [e4]
 refine call_i (s_poAdded p.nar.data.toList (splitN p.path.data.toList).2.1 (by omega) ?_ (app_of rfl ?_))
 ·unfold splitN; split
  ·simp; omega
  ·simp
 exact ⟨rfl, g1⟩
theorem s_lkNamed {own : PathP -> List UInt8} (ho : OwnOk S own) (h : LkAt σ S x1 x2 m) (hz : Sm S) (hK : K (.bool (S.named own)) σ) : callW Tryz.prog 29 [lkV x1 x2 m] K σ := by
 refine pure_i _ hK (c29 _ _ _ ?_)
 clear hK
 unfold g29
 refine al_i ?_; intro b4 σ1 g1 e1 n1
 refine rd_G (rdA_of' e1 (by rfl)) ?_
 (refine app_of rfl ?_; try dsimp only)
 refine call_i (s_lkAll (f := namP own) (h.gr g1) hz ?_ (fun g σ hg => by unfold oneK; exact hg) rfl (app_B ⟨rfl, g1⟩))
 intro p hp y' σ' K' hg' hy' hK'
 unfold callVW
 simp only [go_lkNamed1]
 refine pure_i _ hK' (c58 _ _ _ _ ?_)
 unfold g58 namP
 refine al_i ?_; intro b σ3 g3 e3 n3
 refine rd_G (rdA_of' e3 (by rfl)) ?_
 (refine app_of rfl ?_; try dsimp only)
 refine call_i (ho p hp σ3 y' _ (hy'.gr g3) (app_S ?_))
 rw [strEq_l]
 have hbe : (!(own p == [])) = (own p != []) := rfl
 rw [hbe]
 refine br_i (fun hb => ?_) (fun hb => ?_)
 ·rw [if_pos hb]
  refine rd_S (rdC_of e3 (by rfl)) ?_
  have e3 : p.path = ⟨⟨p.path.data.toList⟩⟩ := (ba_eta _).symm
  rw [e3, strEq_l]
  exact ⟨rfl, g3⟩
 ·rw [if_neg (by rw [hb]; simp)]; exact ⟨rfl, g3⟩
theorem s_lkSound {has : PathP -> ByteArray -> Bool} {own : PathP -> List UInt8} (hh : HasOk S has) (ho : OwnOk S own) (h1 : PsAt σ S.paths x1) (h2 : RowsAt σ 1 (strRows S.roots) x2) (hz : Sm S) (hK : K (.int .i64 (S.sound has own)) σ) :
 callW Tryz.prog 9 [.agg ⟨[.slice x1.base x1.len x1.cap, .slice x2.base x2.len x2.cap]⟩] K σ := by
 obtain ⟨v, hv⟩ : ∃ v, S.sound has own = v := ⟨_, rfl⟩
 rw [hv] at hK
 refine pure_i _ hK (c9 _ _ ?_)
 clear hK
 unfold g9
 unfold StP.sound at hv
 refine al_i ?_; intro b3 σ1 g1 e1 n1
 refine rd_G (rdA_of' e1 (by rfl)) ?_
 (refine app_of rfl ?_; try dsimp only)
 refine call_i (s_lkLooker (h1.gr g1) (h2.gr g1) hz ?_)
 intro m σ2 g2 hl
 unfold lkV
 (refine app_of rfl ?_; try dsimp only)
 refine al_i ?_; intro b9 σ3 g3 e3 n3
 refine st_i2 e3 sz_looker (by rfl) (by rfl) ?_
 intro σ4 p4
 have G4 : Gr σ2 σ4 := g3.putF p4 n3
 have c4 := p4.same
 iterate 6 (refine rd_G (rdA_of' c4 (by rfl)) ?_; (refine app_of rfl ?_; try dsimp only))
 refine al_i ?_; intro b28 σ5 g5 e5 n5
 refine st_i2 e5 sz_rules (by rfl) (by rfl) ?_
 intro σ6 p6
 refine rd_G (rdA_of' p6.same (by rfl)) ?_
 (refine app_of rfl ?_; try dsimp only)
 have G6 : Gr σ σ6 := ((g1.trans g2).trans G4).trans (g5.putF p6 n5)
 have hL : LkAt σ6 S x1 x2 m := (hl.gr G4).gr (g5.putF p6 n5)
 refine loop_i ?_
 intro R hR
 refine hR _ _ _ _ _ _ _ _ (br_t rfl (rd_R (by rfl) (cval_i go_lkFormed (s_lkFormed hL hz (app_B ?_)))))
 refine br_i (fun hb => ⟨by rw [<- hv, if_pos hb]; rfl, G6⟩) (fun hb => ?_)
 rw [if_neg (by rw [hb]; simp)] at hv; clear hb
 refine hR _ _ _ _ _ _ _ _ (br_t rfl (rd_R (by rfl) (cval_i go_lkClosed (s_lkClosed hL hz (app_B ?_)))))
 refine br_i (fun hb => ⟨by rw [<- hv, if_pos hb]; rfl, G6⟩) (fun hb => ?_)
 rw [if_neg (by rw [hb]; simp)] at hv; clear hb
 refine hR _ _ _ _ _ _ _ _ (br_t rfl (rd_R (by rfl) (cval_i go_lkRooted (s_lkRooted hL hz (app_B ?_)))))
 refine br_i (fun hb => ⟨by rw [<- hv, if_pos hb]; rfl, G6⟩) (fun hb => ?_)
 rw [if_neg (by rw [hb]; simp)] at hv; clear hb
 refine hR _ _ _ _ _ _ _ _ (br_t rfl (rd_R (by rfl) (cval_i go_lkWhole (s_lkWhole hL hz (app_B ?_)))))
 refine br_i (fun hb => ⟨by rw [<- hv, if_pos hb]; rfl, G6⟩) (fun hb => ?_)
 rw [if_neg (by rw [hb]; simp)] at hv; clear hb
 refine hR _ _ _ _ _ _ _ _ (br_t rfl (rd_R (by rfl) (cval_i go_lkScanned (s_lkScanned hh hL hz (app_B ?_)))))
 refine br_i (fun hb => ⟨by rw [<- hv, if_pos hb]; rfl, G6⟩) (fun hb => ?_)
 rw [if_neg (by rw [hb]; simp)] at hv; clear hb
 refine hR _ _ _ _ _ _ _ _ (br_t rfl (rd_R (by rfl) (cval_i go_lkNamed (s_lkNamed ho hL hz (app_B ?_)))))
 refine br_i (fun hb => ⟨by rw [<- hv, if_pos hb]; rfl, G6⟩) (fun hb => ?_)
 rw [if_neg (by rw [hb]; simp)] at hv; clear hb
 exact hR _ _ _ _ _ _ _ _ (br_f rfl ⟨by rw [<- hv], G6⟩)
end
theorem go_lksame : isGo Tryz.prog 38 = true := by kernel_rfl
theorem sz_lkState : sizeT Tryz.prog 28 = some 2 := by kernel_rfl
section
variable {σ : H} {K : KH}
theorem s_slEqS {a b : List ByteArray} {x y : Sl} (hx : RowsAt σ 1 (strRows a) x) (hy : RowsAt σ 1 (strRows b) y) (hn : a.length <= 1000000000) (hK : K (.bool (sameL a b)) σ) : callW Tryz.prog 39 [.slice x.base x.len x.cap, .slice y.base y.len y.cap] K σ := by
 refine c39 _ _ ?_
 unfold g39
 have ha := sLen hx
 have hb := sLen hy
 refine br_i (fun h => ?_) (fun h => ?_)
 ·rw [sameL_len (by simp at h; omega)] at hK; exact hK
 have hab : a.length = b.length := by simp at h; omega
 refine loop_i ?_
 intro R hR
 have key : ∀ (r q : List ByteArray) (i : Nat), a.drop i = r -> b.drop i = q -> sameL a b = sameL r q -> R x y ((x.len : Nat) : Int) (i : Int) σ := by
  intro r
  induction r with
  | nil =>
   intro q i hd hq he
   have h4 : a.length <= i := by simpa using hd
   have h5 : q = [] := by rw [<- hq]; exact List.drop_eq_nil_of_le (by omega)
   subst h5
   refine hR _ _ _ _ _ (br_f (by rw [ha]; simp only [decide_eq_false_iff_not]; omega) ?_)
   rw [he] at hK; exact hK
  | cons s r ih =>
   intro q i hd hq he
   obtain ⟨h1, h2, h3⟩ := get_drop hd
   obtain ⟨u, hu⟩ : ∃ u, b[i]? = some u := ⟨_, List.getElem?_eq_getElem (by omega)⟩
   have hq' : q = u :: b.drop (i + 1) := by rw [<- hq]; exact drop_cons2 hu
   subst hq'
   obtain ⟨g, o, q1, q2, q3⟩ := sRow hx h1
   obtain ⟨g', o', p1, p2, p3⟩ := sRow hy hu
   refine hR _ _ _ _ _ (br_t (by rw [ha]; simp only [decide_eq_true_eq]; omega) ?_)
   rw [q1]
   refine ptr_i (if_i ⟨by omega, by show _ < ((x.len : Nat) : Int); omega⟩ (rd_S (by rw [Int.toNat_natCast]; exact q3) ?_))
   rw [p1]
   refine ptr_i (if_i ⟨by omega, by show _ < ((y.len : Nat) : Int); omega⟩ (rd_S (by rw [Int.toNat_natCast]; exact p3) ?_))
   rw [strEq_beq]
   simp only [sameL] at he
   refine br_i (fun hb => ?_) (fun hb => ?_)
   ·have : (s == u) = false := by simpa using hb
    rw [he, this] at hK; exact hK
   ·have : (s == u) = true := by simpa using hb
    rw [this, Bool.true_and] at he
    rw [wrap_id (x := (i : Int) + 1) (by omega) (by omega), show (i : Int) + 1 = ((i + 1 : Nat) : Int) from by omega]
    exact ih _ (i + 1) h3 rfl he
 exact key a b 0 rfl rfl rfl
theorem s_rfTexts {a b : List ByteArray} {x y : Sl} (hx : RowsAt σ 1 (strRows a) x) (hy : RowsAt σ 1 (strRows b) y) (hn : a.length <= 1000000000) (hK : K (.bool (sameL a b)) σ) : callW Tryz.prog 12 [.slice x.base x.len x.cap, .slice y.base y.len y.cap] K σ := by
 refine c12 _ _ ?_
 unfold g12
 have ha := sLen hx
 have hb := sLen hy
 refine br_i (fun h => ?_) (fun h => ?_)
 ·rw [sameL_len (by simp at h; omega)] at hK; exact hK
 have hab : a.length = b.length := by simp at h; omega
 refine loop_i ?_
 intro R hR
 have key : ∀ (r q : List ByteArray) (i : Nat), a.drop i = r -> b.drop i = q -> sameL a b = sameL r q -> R x y (i : Int) σ := by
  intro r
  induction r with
  | nil =>
   intro q i hd hq he
   have h4 : a.length <= i := by simpa using hd
   have h5 : q = [] := by rw [<- hq]; exact List.drop_eq_nil_of_le (by omega)
   subst h5
   refine hR _ _ _ _ (br_f (by rw [ha]; simp only [decide_eq_false_iff_not]; omega) ?_)
   rw [he] at hK; exact hK
  | cons s r ih =>
   intro q i hd hq he
   obtain ⟨h1, h2, h3⟩ := get_drop hd
   obtain ⟨u, hu⟩ : ∃ u, b[i]? = some u := ⟨_, List.getElem?_eq_getElem (by omega)⟩
   have hq' : q = u :: b.drop (i + 1) := by rw [<- hq]; exact drop_cons2 hu
   subst hq'
   obtain ⟨g, o, q1, q2, q3⟩ := sRow hx h1
   obtain ⟨g', o', p1, p2, p3⟩ := sRow hy hu
   refine hR _ _ _ _ (br_t (by rw [ha]; simp only [decide_eq_true_eq]; omega) ?_)
   rw [q1]
   refine ptr_i (if_i ⟨by omega, by show _ < ((x.len : Nat) : Int); omega⟩ (rd_S (by rw [Int.toNat_natCast]; exact q3) ?_))
   rw [p1]
   refine ptr_i (if_i ⟨by omega, by show _ < ((y.len : Nat) : Int); omega⟩ (rd_S (by rw [Int.toNat_natCast]; exact p3) ?_))
   rw [strEq_beq]
   simp only [sameL] at he
   refine br_i (fun hb => ?_) (fun hb => ?_)
   ·have : (s == u) = false := by simpa using hb
    rw [he, this] at hK; exact hK
   ·have : (s == u) = true := by simpa using hb
    rw [this, Bool.true_and] at he
    rw [wrap_id (x := (i : Int) + 1) (by omega) (by omega), show (i : Int) + 1 = ((i + 1 : Nat) : Int) from by omega]
    exact ih _ (i + 1) h3 rfl he
 exact key a b 0 rfl rfl rfl
theorem s_lksame {p q : PathP} {x y : Sl} (hx : RowsAt σ 1 (strRows p.refs) x) (hy : RowsAt σ 1 (strRows q.refs) y) (hn : p.refs.length <= 1000000000) (hK : K (.bool (p.same q)) σ) : callW Tryz.prog 38 [.agg ⟨pRow p x⟩, .agg ⟨pRow q y⟩] K σ := by
 refine pure_i _ hK (c38 _ _ _ _ _ _ _ _ ?_)
 clear hK
 unfold g38 PathP.same
 refine al_i ?_; intro b9 σ1 g1 e1 n1
 refine al_i ?_; intro b10 σ2 g2 e2 n2
 have f1 := g2.get e1
 have G := g1.trans g2
 refine rd_S (rdC_of f1 (by rfl)) (rd_S (rdC_of e2 (by rfl)) ?_)
 rw [strEq_beq]
 cases p.path == q.path with
 | false => exact br_f rfl ⟨rfl, G⟩
 | true =>
  refine br_t rfl (rd_S (rdC_of f1 (by rfl)) (rd_S (rdC_of e2 (by rfl)) ?_))
  rw [strEq_beq]
  cases p.nar == q.nar with
  | false => exact br_f rfl ⟨rfl, G⟩
  | true =>
   refine br_t rfl (rd_S (rdC_of f1 (by rfl)) (rd_S (rdC_of e2 (by rfl)) ?_))
   rw [strEq_beq]
   cases p.drv == q.drv with
   | false => exact br_f rfl ⟨rfl, G⟩
   | true => exact br_t rfl (rd_L (rdC_of f1 (by rfl)) (rd_L (rdC_of e2 (by rfl)) (call_i (s_slEqS (hx.gr G) (hy.gr G) hn (app_B ⟨rfl, G⟩)))))
theorem s_lkEqF {a b : List PathP} {x y : Sl} (hx : PsAt σ a x) (hy : PsAt σ b y) (hn : a.length <= 1000000000) (hr : ∀ p ∈ a, p.refs.length <= 1000000000) (hK : K (.bool (sameW a b)) σ) : callW Tryz.prog 37 [.slice x.base x.len x.cap, .slice y.base y.len y.cap, .func (.func 38) ⟨[]⟩ ⟨[]⟩] K σ := by
 refine pure_i _ hK (c37 _ _ _ ?_)
 clear hK
 unfold g37
 have ha := hx.len
 have hb := hy.len
 refine br_i (fun h => ?_) (fun h => ?_)
 ·rw [sameW_len (by simp at h; omega)]; exact ⟨rfl, Gr.refl _⟩
 have hab : a.length = b.length := by simp at h; omega
 refine loop_i ?_
 intro R hR
 have key : ∀ (r q : List PathP) (i : Nat) (τ : H), Gr σ τ -> a.drop i = r -> b.drop i = q -> sameW a b = sameW r q -> R y (.func (.func 38) ⟨[]⟩ ⟨[]⟩) x ((x.len : Nat) : Int) (i : Int) τ := by
  intro r
  induction r with
  | nil =>
   intro q i τ hg hd hq he
   have h4 : a.length <= i := by simpa using hd
   have h5 : q = [] := by rw [<- hq]; exact List.drop_eq_nil_of_le (by omega)
   subst h5
   exact hR _ _ _ _ _ _ (br_f (by rw [ha]; simp only [decide_eq_false_iff_not]; omega) ⟨by rw [he]; rfl, hg⟩)
  | cons s r ih =>
   intro q i τ hg hd hq he
   obtain ⟨h1, h2, h3⟩ := get_drop hd
   obtain ⟨u, hu⟩ : ∃ u, b[i]? = some u := ⟨_, List.getElem?_eq_getElem (by omega)⟩
   have hq' : q = u :: b.drop (i + 1) := by rw [<- hq]; exact drop_cons2 hu
   subst hq'
   obtain ⟨g, o, y1, q1, q2, q3, q4⟩ := (hx.gr hg).get h1
   obtain ⟨g', o', y2, p1, p2, p3, p4⟩ := (hy.gr hg).get hu
   refine hR _ _ _ _ _ _ (br_t (by rw [ha]; simp only [decide_eq_true_eq]; omega) ?_)
   rw [q1]
   refine ptr_i (if_i ⟨by omega, by show _ < ((x.len : Nat) : Int); omega⟩ (rd_G (by rw [Int.toNat_natCast]; exact q3) ?_))
   unfold pRow
   (refine app_of rfl ?_; try dsimp only)
   refine al_i ?_; intro b16 τ1 g1 e1 n1
   refine st_i2 e1 sz_apPath (by rfl) (by rfl) ?_
   intro τ2 w2
   have G2 : Gr τ τ2 := g1.putF w2 n1
   rw [p1]
   have p3' : rdA 4 g' (o' + i * 4) τ2 = some (.agg ⟨pRow u y2⟩) := rdA_gr G2 p3
   refine ptr_i (if_i ⟨by omega, by show _ < ((y.len : Nat) : Int); omega⟩ (rd_G (by rw [Int.toNat_natCast]; exact p3') ?_))
   unfold pRow
   (refine app_of rfl ?_; try dsimp only)
   refine al_i ?_; intro b23 τ3 g3 e3 n3
   refine st_i2 e3 sz_apPath (by rfl) (by rfl) ?_
   intro τ4 w4
   have G4 : Gr τ2 τ4 := g3.putF w4 n3
   refine rd_G (rdA_of' (G4.get w2.same) (by rfl)) ?_
   (refine app_of rfl ?_; try dsimp only)
   refine rd_G (rdA_of' w4.same (by rfl)) ?_
   (refine app_of rfl ?_; try dsimp only)
   have G := G2.trans G4
   refine cval_i go_lksame (s_lksame (p := s) (q := u) (q4.gr G) (p4.gr G) (hr s (List.mem_of_getElem? h1)) (app_B ?_))
   simp only [sameW] at he
   refine br_i (fun hb => ?_) (fun hb => ?_)
   ·have : s.same u = false := by simpa using hb
    exact ⟨by rw [he, this]; rfl, hg.trans G⟩
   ·have : s.same u = true := by simpa using hb
    rw [this, Bool.true_and] at he
    rw [wrap_id (x := (i : Int) + 1) (by omega) (by omega), show (i : Int) + 1 = ((i + 1 : Nat) : Int) from by omega]
    exact ih _ (i + 1) τ4 (hg.trans G) h3 rfl he
 exact key a b 0 σ (Gr.refl _) rfl rfl rfl
def StAt (σ : H) (S : StP) (x1 x2 : Sl) : Prop := PsAt σ S.paths x1 /\ RowsAt σ 1 (strRows S.roots) x2
theorem StAt.gr {σ σ' : H} {S : StP} {x1 x2 : Sl} (h : StAt σ S x1 x2) (hg : Gr σ σ') : StAt σ' S x1 x2 := ⟨h.1.gr hg, h.2.gr hg⟩
def stV (x1 x2 : Sl) : Value := .agg ⟨[.slice x1.base x1.len x1.cap, .slice x2.base x2.len x2.cap]⟩
variable {S T U : StP} {x1 x2 y1 y2 z1 z2 : Sl}
theorem s_lkSame (hS : StAt σ S x1 x2) (hT : StAt σ T y1 y2) (hz : Sm S) (hK : K (.bool (S.same T)) σ) : callW Tryz.prog 16 [stV x1 x2, stV y1 y2] K σ := by
 refine pure_i _ hK (c16 _ _ _ _ ?_)
 clear hK
 unfold g16 StP.same
 have h1 := hz.np
 have h2 := hz.nr
 refine al_i ?_; intro b5 σ1 g1 e1 n1
 refine al_i ?_; intro b6 σ2 g2 e2 n2
 have G := g1.trans g2
 refine rd_L (rdC_of (g2.get e1) (by rfl)) (rd_L (rdC_of e2 (by rfl)) ?_)
 refine call_i (s_lkEqF (hS.1.gr G) (hT.1.gr G) (by omega) (fun p hp => by have := (hz.pa p hp).2.2.2.1; omega) (app_B ?_))
 cases sameW S.paths T.paths with
 | false => exact br_f rfl ⟨rfl, G⟩
 | true => exact br_t rfl (rd_L (rdC_of (g2.get e1) (by rfl)) (rd_L (rdC_of e2 (by rfl)) (call_i (s_slEqS (hS.2.gr G) (hT.2.gr G) (by omega) (app_B ⟨rfl, G⟩)))))
theorem s_lkBetw (hS : StAt σ S x1 x2) (hT : StAt σ T y1 y2) (hU : StAt σ U z1 z2) (hz : Sm S) (hy : Sm T) (hK : K (.int .i64 (btwP S T U)) σ) : callW Tryz.prog 18 [stV x1 x2, stV y1 y2, stV z1 z2] K σ := by
 refine pure_i _ hK (c18 _ _ _ _ _ _ ?_)
 clear hK
 unfold g18 btwP
 refine al_i ?_; intro b7 σ1 g1 e1 n1
 refine al_i ?_; intro b8 σ2 g2 e2 n2
 refine al_i ?_; intro b9 σ3 g3 e3 n3
 have G := (g1.trans g2).trans g3
 refine j_i (fun j => ∀ n : Int, n = (if S.same U then 1 else 0) -> j (some ⟨b8, 0, none⟩) (some ⟨b9, 0, none⟩) n σ3) ?_ ?_
 ·intro n hn
  refine j_d ?_
  refine ptr_i (rd_G (rdA_of' (g3.get e2) (by rfl)) ?_)
  (refine app_of rfl ?_; try dsimp only)
  refine ptr_i (rd_G (rdA_of' e3 (by rfl)) ?_)
  (refine app_of rfl ?_; try dsimp only)
  refine call_i (s_lkSame (hT.gr G) (hU.gr G) hy (app_B ?_))
  cases T.same U with
  | true =>
   refine br_t rfl ?_
   rw [wrap_id (by split at hn <;> omega) (by split at hn <;> omega), hn]
   exact ⟨rfl, G⟩
  | false =>
   refine br_f rfl ?_
   rw [hn]
   exact ⟨by simp, G⟩
 intro j hj
 refine rd_G (rdA_of' (g3.get (g2.get e1)) (by rfl)) ?_
 (refine app_of rfl ?_; try dsimp only)
 refine rd_G (rdA_of' e3 (by rfl)) ?_
 (refine app_of rfl ?_; try dsimp only)
 refine call_i (s_lkSame (hS.gr G) (hU.gr G) hz (app_B ?_))
 cases hs : S.same U with
 | true => exact br_t rfl (hj _ (by rw [hs]; rfl))
 | false => exact br_f rfl (hj _ (by rw [hs]; rfl))
theorem s_lkAdded (n d : List UInt8) (hn : n.length <= 1000000) (hd : d.length <= 100000) (hK : K (.agg ⟨pRow (addP n d) ⟨none, 0, 0⟩⟩) σ) : callW Tryz.prog 20 [.string ⟨⟨n⟩⟩, .string ⟨⟨d⟩⟩] K σ := by
 refine pure_i _ hK (c20 _ _ ?_)
 clear hK
 unfold g20 addP
 refine al_i ?_; intro b3 σ1 g1 e1 n1
 have hsz : (⟨⟨d⟩⟩ : ByteArray).size = d.length := rfl
 have hnz : (⟨⟨[]⟩⟩ : ByteArray).size = 0 := rfl
 refine call_i (s_naEnc (.mk ⟨⟨[]⟩⟩ 1 false ⟨⟨d⟩⟩ []) ⟨none, 0, 0⟩ ⟨rfl, .inl rfl⟩ (by simp only [Tr.total, Tr.totalRow]; omega) ?_)
 refine app_of rfl ?_
 dsimp only
 have hle : (encodeP (.mk ⟨⟨[]⟩⟩ 1 false ⟨⟨d⟩⟩ [])).1.length <= 1000000 := by
  unfold encodeP
  split
  ·simp
  ·split
   ·simp
   ·rename_i h; simp only at h ⊢; omega
 generalize encodeP (.mk ⟨⟨[]⟩⟩ 1 false ⟨⟨d⟩⟩ []) = N at *
 refine call_i (s_poAdded N.1 n hle hn (app_of rfl ?_))
 dsimp only
 generalize addedP N.1 n = Q at *
 refine j_i (fun j => ∀ bb : Bool, bb = (N.2 != 0 || Q.2 != 0) -> j (some ⟨b3, 0, none⟩) ⟨⟨N.1⟩⟩ ⟨⟨Q.1⟩⟩ bb σ1) ?_ ?_
 ·intro bb hb
  refine br_i (fun h => ?_) (fun h => ?_)
  ·rw [if_pos (by rw [<- hb]; exact h)]
   refine st_i2 e1 sz_apPath (by rfl) (by rfl) ?_
   intro σ2 p2
   refine ptr_i (rd_G (rdA_of' p2.same (by rfl)) ?_)
   (refine app_of rfl ?_; try dsimp only)
   exact ⟨rfl, g1.putF p2 n1⟩
  ·rw [if_neg (by rw [<- hb, h]; simp)]
   refine st_i2 e1 sz_apPath (by rfl) (by rfl) ?_
   intro σ2 p2
   refine ptr_i (rd_G (rdA_of' p2.same (by rfl)) ?_)
   (refine app_of rfl ?_; try dsimp only)
   exact ⟨rfl, g1.putF p2 n1⟩
 intro j hj
 refine br_i (fun h => ?_) (fun h => ?_)
 ·exact hj _ (by rw [h]; rfl)
 ·exact hj _ (by rw [h]; rfl)
end
end Go.Proofs.YtgfiobhpipollaaGreatDoor

namespace Go.Wk
open Go Go.HL
def dfs (S : StP) : Nat -> ByteArray -> List ByteArray -> List ByteArray
 | 0, _, L => L
 | f + 1, s, L => if !S.is s || L.contains s then L else S.paths.foldl (fun L p => if p.path == s then p.refs.foldl (fun L r => dfs S f r L) L else L) (L ++ [s])
def StP.reach (S : StP) : List ByteArray := S.roots.foldl (fun L r => dfs S S.paths.length r L) []
def cnt (S : StP) (L : List ByteArray) : Nat := (S.paths.filter fun p => !L.contains p.path).length
theorem cnt_mono {S : StP} {L M : List ByteArray} (h : ∀ s ∈ L, s ∈ M) : cnt S M <= cnt S L := by
 unfold cnt
 rw [<- List.countP_eq_length_filter, <- List.countP_eq_length_filter]
 refine List.countP_mono_left fun p _ hp => ?_
 simp only [Bool.not_eq_true', List.contains_eq_mem, decide_eq_false_iff_not] at hp ⊢
 exact fun hm => hp (h _ hm)
theorem cnt_lt {S : StP} {L : List ByteArray} {s : ByteArray} (h : S.is s = true) (hs : L.contains s = false) : cnt S (L ++ [s]) + 1 <= cnt S L := by
 unfold cnt
 unfold StP.is at h
 generalize S.paths = ps at *
 induction ps with
 | nil => simp at h
 | cons p r ih =>
  have hmono : ((r.filter fun p => !(L ++ [s]).contains p.path).length) <= (r.filter fun p => !L.contains p.path).length := by
   rw [<- List.countP_eq_length_filter, <- List.countP_eq_length_filter]
   refine List.countP_mono_left fun p _ hp => ?_
   simp only [Bool.not_eq_true', List.contains_eq_mem, decide_eq_false_iff_not, List.mem_append, not_or] at hp ⊢
   exact hp.1
  by_cases hp : p.path = s
  ·subst hp
   have e1 : (!(L ++ [p.path]).contains p.path) = false := by simp
   have e2 : (!L.contains p.path) = true := by rw [hs]; rfl
   rw [List.filter_cons, List.filter_cons, e1, e2]
   simp only [Bool.false_eq_true, if_false, if_true, List.length_cons]
   omega
  ·have h' : (r.any fun p => p.path == s) = true := by
    simp only [List.any_cons, Bool.or_eq_true, beq_iff_eq] at h
    rcases h with h | h
    ·exact absurd h hp
    ·exact h
   have := ih h'
   have e : ((L ++ [s]).contains p.path) = L.contains p.path := by simp [hp]
   rw [List.filter_cons, List.filter_cons, e]
   split
   ·simp only [List.length_cons]; omega
   ·exact this
theorem foldl_sub {α : Type} (g : List ByteArray -> α -> List ByteArray) (h : ∀ L a, ∀ s ∈ L, s ∈ g L a) : ∀ (l : List α) (L : List ByteArray), ∀ s ∈ L, s ∈ l.foldl g L := by
 intro l
 induction l with
 | nil => intro L s hs; exact hs
 | cons a r ih => intro L s hs; exact ih _ s (h L a s hs)
theorem dfs_sub (S : StP) : ∀ (f : Nat) (x : ByteArray) (L : List ByteArray), ∀ s ∈ L, s ∈ dfs S f x L := by
 intro f
 induction f with
 | zero => intro x L s hs; exact hs
 | succ f ih =>
  intro x L s hs
  unfold dfs
  split
  ·exact hs
  ·refine foldl_sub _ (fun L p s hs => ?_) _ _ s (List.mem_append_left _ hs)
   split
   ·exact foldl_sub _ (fun L r s hs => ih r L s hs) _ _ s hs
   ·exact hs
def ent (L : List ByteArray) : List (ByteArray × Int) := L.map fun s => (s, 1)
theorem lk_ent (s : ByteArray) : ∀ L : List ByteArray, lk s (ent L) = if L.contains s then some 1 else none := by
 intro L
 induction L with
 | nil => rfl
 | cons a r ih =>
  simp only [ent, List.map_cons, lk, List.contains_cons]
  unfold ent at ih
  rw [ih]
  cases h : s == a with
  | true => simp
  | false => simp
theorem up_ent {s : ByteArray} : ∀ {L : List ByteArray}, L.contains s = false -> up s 1 (ent L) = ent (L ++ [s]) := by
 intro L
 induction L with
 | nil => intro _; rfl
 | cons a r ih =>
  intro h
  simp only [List.contains_cons, Bool.or_eq_false_iff] at h
  simp only [ent, List.map_cons, up, h.1, List.cons_append]
  have := ih h.2
  unfold ent at this
  rw [this]
theorem keysL_ent (L : List ByteArray) : keysL (ent L) = L := by
 unfold keysL ent
 rw [List.map_map]
 exact List.map_id _
theorem foldl_inv {α : Type} {I : List ByteArray -> Prop} (g : List ByteArray -> α -> List ByteArray) (h : ∀ L a, I L -> I (g L a)) : ∀ (l : List α) (L : List ByteArray), I L -> I (l.foldl g L) := by
 intro l
 induction l with
 | nil => intro L h; exact h
 | cons a r ih => intro L hL; exact ih _ (h L a hL)
def LvOk (S : StP) (L : List ByteArray) : Prop := (∀ u ∈ L, S.is u = true) /\ L.Nodup /\ L.length + cnt S L <= S.paths.length
theorem dfs_ok (S : StP) : ∀ (f : Nat) (x : ByteArray) (L : List ByteArray), LvOk S L -> LvOk S (dfs S f x L) := by
 intro f
 induction f with
 | zero => intro x L h; exact h
 | succ f ih =>
  intro x L h
  unfold dfs
  split
  ·exact h
  ·rename_i hc
   have hc : (!S.is x || L.contains x) = false := by simpa using hc
   simp only [Bool.or_eq_false_iff, Bool.not_eq_false'] at hc
   obtain ⟨h1, h2⟩ := hc
   have h2' : x ∉ L := by simpa using h2
   refine foldl_inv (I := LvOk S) _ (fun L p h => ?_) _ _ ?_
   ·split
    ·exact foldl_inv (I := LvOk S) _ (fun L r h => ih r L h) _ _ h
    ·exact h
   ·obtain ⟨a, b, c⟩ := h
    have := cnt_lt h1 h2
    refine ⟨fun u hu => ?_, ?_, ?_⟩
    ·rcases List.mem_append.1 hu with hu | hu
     ·exact a u hu
     ·simp at hu; subst hu; exact h1
    ·rw [List.nodup_append]
     exact ⟨b, by simp, fun u hu v hv => by simp at hv; subst hv; intro e; subst e; exact h2' hu⟩
    ·rw [List.length_append, List.length_singleton]; omega
theorem reach_ok (S : StP) : LvOk S S.reach := by
 unfold StP.reach
 refine foldl_inv (I := LvOk S) _ (fun L r h => dfs_ok S _ r L h) _ _ ⟨fun u hu => (by cases hu), List.nodup_nil, ?_⟩
 unfold cnt
 have := List.length_filter_le (fun p : PathP => !([] : List ByteArray).contains p.path) S.paths
 simpa using this
end Go.Wk

set_option maxRecDepth 100000
namespace Go.Proofs.YtgfiobhpipollaaGreatDoor
open Go Go.HL Go.Wk
attribute [local irreducible] ptrW ifW brW andW rdT alW letJ stW muW biW vaW imW callT cvalT app callW invW callVW sizeT oW nilF oneK loopW rfW funW begW roundK exW idxW Gr Put
theorem go_lkLive1 : isGo Tryz.prog 32 = true := by kernel_rfl
theorem sz_MSIL : sizeT Tryz.prog 39 = some 1 := by kernel_rfl
theorem sz_funReach : sizeT Tryz.prog 60 = some 1 := by kernel_rfl
theorem und_MSIL : Tryz.prog.underlying 39 = some (.map 9 3) := by kernel_rfl
def reachV (b9 b11 b3 b12 : Nat) : Value := .func (.func 32) ⟨[]⟩ ⟨[.pointer (some ⟨b9, 0, none⟩), .pointer (some ⟨b11, 0, none⟩), .pointer (some ⟨b3, 0, none⟩), .pointer (some ⟨b12, 0, none⟩)]⟩
section
variable {ρ : H} {S : StP} {x1 x2 : Sl} {m b3 b9 b10 b11 b12 : Nat}
theorem s_reach (hz : Sm S) (hρ : LkAt ρ S x1 x2 m) (c9 : ρ b9 = some (.cells ⟨[.slice x1.base x1.len x1.cap, .slice x2.base x2.len x2.cap, .map (some m)]⟩ 55 (0, 0))) (c11 : ρ b11 = some (.cells ⟨[.map (some b10)]⟩ 39 (0, 0)))
 (c3 : ρ b3 = some (.cells ⟨[.slice x1.base x1.len x1.cap, .slice x2.base x2.len x2.cap]⟩ 28 (0, 0))) (c12 : ρ b12 = some (.cells ⟨[reachV b9 b11 b3 b12]⟩ 60 (0, 0))) (hn : ρ b10 = none) :
 ∀ (f : Nat) (L : List ByteArray) (s : ByteArray) {σ : H}, Gr ρ σ -> MapAt σ b10 (encL kkS valI (ent L)) -> cnt S L <= f -> ∀ {K : KH}, (∀ σ', Gr ρ σ' -> MapAt σ' b10 (encL kkS valI (ent (dfs S f s L))) -> K (.tuple ⟨[]⟩) σ') ->
  callW Tryz.prog 32 [.string s, .pointer (some ⟨b9, 0, none⟩), .pointer (some ⟨b11, 0, none⟩), .pointer (some ⟨b3, 0, none⟩), .pointer (some ⟨b12, 0, none⟩)] K σ := by
 intro f
 induction f with
 | zero =>
  intro L s σ hg hm hc K hK
  refine c32 _ _ _ _ _ ?_
  unfold g32
  refine j_i (fun j => ∀ bb : Bool, bb = true -> j s (some ⟨b11, 0, none⟩) (some ⟨b3, 0, none⟩) (some ⟨b12, 0, none⟩) bb σ) ?_ ?_
  ·intro bb hb
   exact br_t hb (hK σ hg hm)
  intro j hj
  refine ptr_i (rd_G (rdA_of' (hg.get c9) (by rfl)) ?_)
  (refine app_of rfl ?_; try dsimp only)
  refine call_i (s_lkIs s (hρ.gr hg) (app_B ?_))
  cases hs : S.is s with
  | false => exact br_t rfl (hj _ rfl)
  | true =>
   have hL : L.contains s = true := by
    cases h : L.contains s with
    | true => rfl
    | false => have := cnt_lt hs h; omega
   refine br_f rfl (ptr_i (rd_M (rdC_of (hg.get c11) (by rfl)) ?_))
   refine rd_G (rdM_at (kk := kkS) (f := valI) hm _ false s) ?_
   rw [lk_ent, hL]
   refine app_I ?_
   exact hj _ rfl
 | succ f ih =>
  intro L s σ hg hm hc K hK
  refine c32 _ _ _ _ _ ?_
  unfold g32
  refine j_i (fun j => ∀ bb : Bool, bb = (!S.is s || L.contains s) -> j s (some ⟨b11, 0, none⟩) (some ⟨b3, 0, none⟩) (some ⟨b12, 0, none⟩) bb σ) ?_ ?_
  ·intro bb hb
   refine br_i (fun h => ?_) (fun h => ?_)
   ·refine hK σ hg ?_
    unfold dfs
    rw [if_pos (by rw [<- hb]; exact h)]; exact hm
   rw [h] at hb
   have hb' := hb.symm
   simp only [Bool.or_eq_false_iff, Bool.not_eq_false'] at hb'
   obtain ⟨hs, hL⟩ := hb'
   refine ptr_i (rd_M (rdC_of (hg.get c11) (by rfl)) ?_)
   refine mu_i (kk := kkS) (f := valI) und_MSIL und_strL hm s 1 ?_
   intro o1 σ1 p1 m1
   rw [up_ent hL] at m1
   have hg1 : Gr ρ σ1 := hg.putF p1 hn
   have hcl := cnt_lt hs hL
   refine ptr_i (rd_L (rdC_of (hg1.get c3) (by rfl)) ?_)
   have hl := hρ.1.len
   have hnp := hz.np
   refine loop_i ?_
   intro R hR
   have hK' : ∀ σ', Gr ρ σ' -> MapAt σ' b10 (encL kkS valI (ent (S.paths.foldl (fun L p => if p.path == s then p.refs.foldl (fun L r => dfs S f r L) L else L) (L ++ [s])))) -> K (.tuple ⟨[]⟩) σ' := by
    intro σ' h1 h2
    refine hK σ' h1 ?_
    unfold dfs
    rw [if_neg (by rw [<- hb]; simp)]; exact h2
   have key : ∀ (r : List PathP) (i : Nat) (M : List ByteArray) (τ : H), S.paths.drop i = r -> Gr ρ τ -> MapAt τ b10 (encL kkS valI (ent M)) -> (∀ u ∈ L ++ [s], u ∈ M) ->
    S.paths.foldl (fun L p => if p.path == s then p.refs.foldl (fun L r => dfs S f r L) L else L) (L ++ [s]) = r.foldl (fun L p => if p.path == s then p.refs.foldl (fun L r => dfs S f r L) L else L) M -> R s (some ⟨b12, 0, none⟩) x1 ((x1.len : Nat) : Int) (i : Int) τ := by
    intro r
    induction r with
    | nil =>
     intro i M τ hd hgτ hmτ hsub he
     have h5 : S.paths.length <= i := by simpa using hd
     refine hR _ _ _ _ _ _ (br_f (by rw [hl]; simp only [decide_eq_false_iff_not]; omega) ?_)
     exact hK' τ hgτ (by rw [he]; exact hmτ)
    | cons p r ihr =>
     intro i M τ hd hgτ hmτ hsub he
     obtain ⟨d1, d2, d3⟩ := get_drop hd
     obtain ⟨g, o, y, q1, q2, q3, q4⟩ := (hρ.1.gr hgτ).get d1
     have hps := hz.pa p (List.mem_of_getElem? d1)
     refine hR _ _ _ _ _ _ (br_t (by rw [hl]; simp only [decide_eq_true_eq]; omega) ?_)
     refine j_d ?_
     have next : ∀ (τ' : H) (M' : List ByteArray), Gr ρ τ' -> MapAt τ' b10 (encL kkS valI (ent M')) -> (∀ u ∈ M, u ∈ M') -> M' = (if p.path == s then p.refs.foldl (fun L r => dfs S f r L) M else M) -> R s (some ⟨b12, 0, none⟩) x1 ((x1.len : Nat) : Int) (IntKind.i64.wrap ((i : Int) + 1)) τ' := by
      intro τ' M' a1 a2 a3 a4
      rw [wrap_id (x := (i : Int) + 1) (by omega) (by omega), show (i : Int) + 1 = ((i + 1 : Nat) : Int) from by omega]
      refine ihr (i + 1) M' τ' d3 a1 a2 (fun u hu => a3 u (hsub u hu)) ?_
      rw [he, List.foldl_cons, a4]
     rw [q1]
     refine ptr_i (if_i ⟨by omega, by show _ < ((x1.len : Nat) : Int); omega⟩ (rd_G (by rw [Int.toNat_natCast]; exact q3) ?_))
     unfold pRow
     (refine app_of rfl ?_; try dsimp only)
     refine al_i ?_; intro b36 τ1 k1 f1 w1
     refine st_i2 f1 sz_apPath (by rfl) (by rfl) ?_
     intro τ2 p2
     have K2 : Gr τ τ2 := k1.putF p2 w1
     have hg2 := hgτ.trans K2
     have hm2 := hmτ.gr K2
     refine rd_S (rdC_of p2.same (by rfl)) ?_
     rw [strEq_beq]
     refine br_i (fun hb => ?_) (fun hb => ?_)
     ·refine rd_L (rdC_of p2.same (by rfl)) ?_
      have q5 : RowsAt ρ 1 (strRows p.refs) y \/ True := .inr trivial
      have hrl : y.len = p.refs.length := sLen q4
      refine loop_i ?_
      intro R2 hR2
      obtain ⟨rowsρ, hrρ, hpρ⟩ := hρ.1
      obtain ⟨yρ, hy1, hy2⟩ := hpρ.get d1
      have hyy : yρ = y := by
       obtain ⟨g1, o1, z1, z2, _⟩ := hrρ.rdA hy1 (by decide)
       have z3 := rdA_gr hgτ z2
       rw [q1] at z1; injection z1 with z1; injection z1 with ea eb; subst ea; subst eb
       rw [q3] at z3
       injection z3 with z3; injection z3 with z3; injection z3 with z3
       unfold pRow at z3
       simp only [List.cons.injEq, Value.slice.injEq, true_and, and_true] at z3
       obtain ⟨w1, w2, w3⟩ := z3
       obtain ⟨ya, yb, yc⟩ := y
       obtain ⟨za, zb, zc⟩ := yρ
       simp only at w1 w2 w3
       rw [w1, w2, w3]
      rw [hyy] at hy2
      have key2 : ∀ (t : List ByteArray) (k : Nat) (M2 : List ByteArray) (τ' : H), p.refs.drop k = t -> Gr ρ τ' -> MapAt τ' b10 (encL kkS valI (ent M2)) -> (∀ u ∈ M, u ∈ M2) -> p.refs.foldl (fun L r => dfs S f r L) M = t.foldl (fun L r => dfs S f r L) M2 ->
       R2 s (some ⟨b12, 0, none⟩) x1 ((x1.len : Nat) : Int) (i : Int) y ((y.len : Nat) : Int) (k : Int) τ' := by
       intro t
       induction t with
       | nil =>
        intro k M2 τ' hd2 hg3 hm3 hsub2 he2
        have h5 : p.refs.length <= k := by simpa using hd2
        refine hR2 _ _ _ _ _ _ _ _ _ (br_f (by rw [hrl]; simp only [decide_eq_false_iff_not]; omega) ?_)
        exact next τ' M2 hg3 hm3 hsub2 (by rw [if_pos hb, he2]; rfl)
       | cons u t iht =>
        intro k M2 τ' hd2 hg3 hm3 hsub2 he2
        obtain ⟨t1, t2, t3⟩ := get_drop hd2
        obtain ⟨g', o', v1, v2, v3⟩ := sRow (hy2.gr hg3) t1
        refine hR2 _ _ _ _ _ _ _ _ _ (br_t (by rw [hrl]; simp only [decide_eq_true_eq]; omega) ?_)
        rw [v1]
        refine ptr_i (if_i ⟨by omega, by show _ < ((y.len : Nat) : Int); omega⟩ (rd_S (by rw [Int.toNat_natCast]; exact v3) ?_))
        refine ptr_i (rd_R (rdC_of (hg3.get c12) (by rfl)) ?_)
        have hcm : cnt S M2 <= f := Nat.le_trans (cnt_mono fun u hu => hsub2 u (hsub u hu)) (by omega)
        refine cval_i go_lkLive1 (ih M2 u hg3 hm3 hcm fun τ4 hg4 hm4 => app_U ?_)
        rw [wrap_id (x := (k : Int) + 1) (by omega) (by omega), show (k : Int) + 1 = ((k + 1 : Nat) : Int) from by omega]
        exact iht (k + 1) (dfs S f u M2) τ4 t3 hg4 hm4 (fun w hw => dfs_sub S f u M2 w (hsub2 w hw)) (by rw [he2]; rfl)
      exact key2 p.refs 0 M τ2 rfl hg2 hm2 (fun _ h => h) rfl
     ·exact next τ2 M hg2 hm2 (fun _ h => h) (by rw [if_neg (by rw [hb]; simp)])
   exact key S.paths 0 (L ++ [s]) σ1 rfl hg1 m1 (fun _ h => h) rfl
  intro j hj
  refine ptr_i (rd_G (rdA_of' (hg.get c9) (by rfl)) ?_)
  (refine app_of rfl ?_; try dsimp only)
  refine call_i (s_lkIs s (hρ.gr hg) (app_B ?_))
  cases hs : S.is s with
  | false => exact br_t rfl (hj _ (by rw [hs]; rfl))
  | true =>
   refine br_f rfl (ptr_i (rd_M (rdC_of (hg.get c11) (by rfl)) ?_))
   refine rd_G (rdM_at (kk := kkS) (f := valI) hm _ false s) ?_
   rw [lk_ent]
   cases hL : L.contains s with
   | true => exact app_I (hj _ (by rw [hs, hL]; rfl))
   | false => exact app_I (hj _ (by rw [hs, hL]; rfl))
theorem s_lkLive {σ : H} (h1 : PsAt σ S.paths x1) (h2 : RowsAt σ 1 (strRows S.roots) x2) (hz : Sm S) {K : KH} (hK : ∀ x σ', RNew σ σ' 9 1 (strRows (sortK S.reach)) x -> K (.slice x.base x.len x.cap) σ') :
 callW Tryz.prog 13 [.agg ⟨[.slice x1.base x1.len x1.cap, .slice x2.base x2.len x2.cap]⟩] K σ := by
 refine c13 _ _ ?_
 unfold g13
 refine al_i ?_; intro b3 σ1 g1 e1 n1
 refine rd_G (rdA_of' e1 (by rfl)) ?_
 (refine app_of rfl ?_; try dsimp only)
 refine call_i (s_lkLooker (h1.gr g1) (h2.gr g1) hz ?_)
 intro m σ2 g2 hl
 unfold lkV
 (refine app_of rfl ?_; try dsimp only)
 refine al_i ?_; intro b9 σ3 g3 e3 n3
 refine st_i2 e3 sz_looker (by rfl) (by rfl) ?_
 intro σ4 p4
 have G24 : Gr σ2 σ4 := g3.putF p4 n3
 refine al_i ?_; intro b10 σ5 g5 e5 n5
 refine al_i ?_; intro b11 σ6 g6 e6 n6
 refine st_i2 e6 sz_MSIL (by rfl) (by rfl) ?_
 intro σ7 p7
 have G57 : Gr σ5 σ7 := g6.putF p7 n6
 refine al_i ?_; intro b12 σ8 g8 e8 n8
 refine st_i2 e8 sz_funReach (by rfl) (by rfl) ?_
 intro σ9 p9
 have G79 : Gr σ7 σ9 := g8.putF p9 n8
 have G49 : Gr σ4 σ9 := (g5.trans G57).trans G79
 have c3 : σ9 b3 = some (.cells ⟨[.slice x1.base x1.len x1.cap, .slice x2.base x2.len x2.cap]⟩ 28 (0, 0)) := G49.get (G24.get (g2.get e1))
 refine rd_L (rdC_of c3 (by rfl)) ?_
 -- what is not the map
 have hG : Gr (fun c => if c = b10 then none else σ9 c) σ9 := gr_of fun c o hc => by
  by_cases e : c = b10
  ·simp [e] at hc
  ·simpa [e] using hc
 have toρ : ∀ {τ : H}, Gr τ σ9 -> τ b10 = none -> Gr τ (fun c => if c = b10 then none else σ9 c) := fun {τ} hg hn => gr_of fun c o hc => by
  have e : c ≠ b10 := ne_fresh hc hn
  simp only [e, if_false]; exact hg.get hc
 have G2 := (g1.trans g2)
 have hσ10 : σ b10 = none := none_of (G2.trans G24) n5
 have gσρ := toρ ((G2.trans G24).trans G49) hσ10
 have q9 : (fun c => if c = b10 then none else σ9 c) b9 = some (.cells ⟨[.slice x1.base x1.len x1.cap, .slice x2.base x2.len x2.cap, .map (some m)]⟩ 55 (0, 0)) := by
  have e : b9 ≠ b10 := ne_fresh p4.same n5
  simp only [e, if_false]; exact G49.get p4.same
 have q11 : (fun c => if c = b10 then none else σ9 c) b11 = some (.cells ⟨[.map (some b10)]⟩ 39 (0, 0)) := by
  have e : b11 ≠ b10 := (ne_fresh e5 n6).symm
  simp only [e, if_false]; exact G79.get p7.same
 have q12 : (fun c => if c = b10 then none else σ9 c) b12 = some (.cells ⟨[reachV b9 b11 b3 b12]⟩ 60 (0, 0)) := by
  have e : b12 ≠ b10 := (ne_fresh (G57.get e5) n8).symm
  simp only [e, if_false]; exact p9.same
 have q3 : (fun c => if c = b10 then none else σ9 c) b3 = some (.cells ⟨[.slice x1.base x1.len x1.cap, .slice x2.base x2.len x2.cap]⟩ 28 (0, 0)) := by
  have e : b3 ≠ b10 := ne_fresh (G24.get (g2.get e1)) n5
  simp only [e, if_false]; exact c3
 have n10 : (fun c => if c = b10 then none else σ9 c) b10 = none := by simp
 have hLρ : LkAt (fun c => if c = b10 then none else σ9 c) S x1 x2 m := hl.gr (toρ (G24.trans G49) (none_of G24 n5))
 have m9 : MapAt σ9 b10 (encL kkS valI (ent [])) := (MapAt.new e5).gr (G57.trans G79)
 generalize (fun c => if c = b10 then none else σ9 c) = ρ at *
 have hlen := sLen h2
 have hnr := hz.nr
 have hroot : ∀ {τ : H}, Gr ρ τ -> RowsAt τ 1 (strRows S.roots) x2 := fun hg => (h2.gr gσρ).gr hg
 refine loop_i ?_
 intro R hR
 have key : ∀ (r : List ByteArray) (i : Nat) (L : List ByteArray) (τ : H), S.roots.drop i = r -> Gr ρ τ -> MapAt τ b10 (encL kkS valI (ent L)) -> S.reach = r.foldl (fun L r => dfs S S.paths.length r L) L -> R (some ⟨b11, 0, none⟩) (some ⟨b12, 0, none⟩) x2 ((x2.len : Nat) : Int) (i : Int) τ := by
  intro r
  induction r with
  | nil =>
   intro i L τ hd hg hm he
   have h5 : S.roots.length <= i := by simpa using hd
   refine hR _ _ _ _ _ _ (br_f (by rw [hlen]; simp only [decide_eq_false_iff_not]; omega) ?_)
   refine ptr_i (rd_M (rdC_of (hg.get q11) (by rfl)) ?_)
   refine call_i (c35 _ ?_)
   unfold g35
   refine al_i ?_; intro b2 τ1 k1 f1 w1
   refine app_R ?_
   have hL : S.reach = L := he
   obtain ⟨o1, o2, o3⟩ := reach_ok S
   rw [hL] at o1 o3
   have hnp := hz.np
   refine call_i (x_Sorted f1 (hm.gr k1) (fun s hs => ?_) ?_ ?_)
   ·rw [keysL_ent] at hs
    have := o1 s hs
    unfold StP.is at this
    obtain ⟨p, hp, hps⟩ := List.any_eq_true.1 this
    have hps := eq_of_beq hps
    have := (hz.pa p hp).1
    rw [hps] at this
    unfold maxLen; omega
   ·have : (ent L).length = L.length := by simp [ent]
    omega
   ·intro x τ2 hx
    rw [keysL_ent, <- hL] at hx
    exact app_L (hK x τ2 (hx.since (gσρ.trans (hg.trans k1))))
  | cons u r ih =>
   intro i L τ hd hg hm he
   obtain ⟨t1, t2, t3⟩ := get_drop hd
   obtain ⟨g', o', v1, v2, v3⟩ := sRow (hroot hg) t1
   refine hR _ _ _ _ _ _ (br_t (by rw [hlen]; simp only [decide_eq_true_eq]; omega) ?_)
   rw [v1]
   refine ptr_i (if_i ⟨by omega, by show _ < ((x2.len : Nat) : Int); omega⟩ (rd_S (by rw [Int.toNat_natCast]; exact v3) ?_))
   refine ptr_i (rd_R (rdC_of (hg.get q12) (by rfl)) ?_)
   have hc : cnt S L <= S.paths.length := List.length_filter_le _ _
   refine cval_i go_lkLive1 (s_reach hz hLρ q9 q11 q3 q12 n10 S.paths.length L u hg hm hc fun τ4 hg4 hm4 => app_U ?_)
   rw [wrap_id (x := (i : Int) + 1) (by omega) (by omega), show (i : Int) + 1 = ((i + 1 : Nat) : Int) from by omega]
   exact ih (i + 1) _ τ4 t3 hg4 hm4 (by rw [he]; rfl)
 exact key S.roots 0 [] σ9 rfl hG m9 rfl
end
end Go.Proofs.YtgfiobhpipollaaGreatDoor

set_option maxRecDepth 1000000
namespace Go.Wk
open Go Go.HL
def nar1 : List UInt8 := [10, 119, 104, 105, 115, 107, 45, 116, 114, 101, 101, 1, 0, 1, 49]
def nar2 : List UInt8 := [10, 119, 104, 105, 115, 107, 45, 116, 114, 101, 101, 1, 0, 1, 50]
def path1 : List UInt8 := [100, 104, 120, 107, 120, 50, 97, 49, 49, 109, 105, 109, 109, 55, 100, 120, 52, 98, 48, 109, 97, 100, 104, 105, 105, 105, 53, 55, 52, 108, 114, 121, 45, 120]
def path2 : List UInt8 := [98, 113, 99, 53, 115, 55, 98, 50, 113, 119, 55, 108, 109, 49, 109, 122, 49, 104, 50, 98, 98, 55, 99, 109, 51, 48, 112, 118, 105, 102, 121, 104, 45, 120]
theorem nar1_ok : encodeP (.mk ⟨⟨[]⟩⟩ 1 false ⟨⟨[49]⟩⟩ []) = (nar1, 0) := by decide +kernel
theorem nar2_ok : encodeP (.mk ⟨⟨[]⟩⟩ 1 false ⟨⟨[50]⟩⟩ []) = (nar2, 0) := by decide +kernel
theorem path1_ok : addedP nar1 [120] = (path1, 0) := by decide +kernel
theorem path2_ok : addedP nar2 [120] = (path2, 0) := by decide +kernel
theorem split1_ok : splitN path1 = (path1.take 32, [120], 0) := by decide +kernel
theorem whole1_ok : ((decT nar1).2 == 0 && ((encodeP (decT nar1).1).2 == 0 && (encodeP (decT nar1).1).1 == nar1)) = true := by decide +kernel
theorem whole2_ok : ((decT nar2).2 == 0 && ((encodeP (decT nar2).1).2 == 0 && (encodeP (decT nar2).1).1 == nar2)) = true := by decide +kernel
def one1 : PathP := ⟨⟨⟨path1⟩⟩, [], ⟨⟨nar1⟩⟩, ⟨⟨[]⟩⟩⟩
def other1 : PathP := ⟨⟨⟨path1⟩⟩, [], ⟨⟨nar2⟩⟩, ⟨⟨[]⟩⟩⟩
theorem add1 : addP [120] [49] = one1 := by unfold addP; simp only [nar1_ok, path1_ok]; rfl
theorem add2 : (addP [120] [50]).nar = ⟨⟨nar2⟩⟩ := by unfold addP; simp only [nar2_ok, path2_ok]; rfl
def noHas (_ : PathP) (_ : ByteArray) : Bool := false
theorem ip1 : isPathP ⟨⟨path1⟩⟩ = true := by unfold isPathP; rw [show (⟨⟨path1⟩⟩ : ByteArray).data.toList = path1 from rfl, split1_ok]; rfl
theorem wh1 : wholP one1 = true := by
 have := whole1_ok
 simp only [Bool.and_eq_true] at this
 unfold wholP
 rw [show one1.nar.data.toList = nar1 from rfl, if_neg (by simp; simpa using this.1)]
 simp only [Bool.and_eq_true]; exact this.2
theorem wh2 : wholP other1 = true := by
 have := whole2_ok
 simp only [Bool.and_eq_true] at this
 unfold wholP
 rw [show other1.nar.data.toList = nar2 from rfl, if_neg (by simp; simpa using this.1)]
 simp only [Bool.and_eq_true]; exact this.2
theorem own1 : ownP one1 = path1 := by
 unfold ownP
 rw [show one1.nar.data.toList = nar1 from rfl, show one1.path.data.toList = path1 from rfl, split1_ok, path1_ok]
theorem own2 : ownP other1 = path2 := by
 unfold ownP
 rw [show other1.nar.data.toList = nar2 from rfl, show other1.path.data.toList = path1 from rfl, split1_ok, path2_ok]
theorem form1 : formP one1 = true := by unfold formP; rw [show one1.path = ⟨⟨path1⟩⟩ from rfl, ip1]; rfl
theorem form2 : formP other1 = true := by unfold formP; rw [show other1.path = ⟨⟨path1⟩⟩ from rfl, ip1]; rfl
theorem sound0 : (StP.mk [] []).sound noHas ownP = 0 := by rfl
theorem is_self (p : PathP) (l : List ByteArray) : (StP.mk [p] l).is p.path = true := by simp [StP.is]
theorem sound1 : (StP.mk [one1] [⟨⟨path1⟩⟩]).sound noHas ownP = 0 := by
 have h1 : (StP.mk [one1] [⟨⟨path1⟩⟩]).formed = true := by simp [StP.formed, form1, risesB]
 have h2 : (StP.mk [one1] [⟨⟨path1⟩⟩]).closed = true := by simp [StP.closed, one1]
 have h3 : (StP.mk [one1] [⟨⟨path1⟩⟩]).rooted = true := by simp [StP.rooted, risesB, StP.is, one1]
 have h4 : (StP.mk [one1] [⟨⟨path1⟩⟩]).whole = true := by simp [StP.whole, wh1]
 have h5 : (StP.mk [one1] [⟨⟨path1⟩⟩]).scanned noHas = true := by simp [StP.scanned, one1]
 have h6 : (StP.mk [one1] [⟨⟨path1⟩⟩]).named ownP = true := by
  simp only [StP.named, List.any_cons, List.any_nil, Bool.or_false, Bool.not_not]
  unfold namP; rw [own1]; rfl
 unfold StP.sound; rw [h1, h2, h3, h4, h5, h6]; rfl
theorem sound6 : (StP.mk [other1] []).sound noHas ownP = 6 := by
 have h1 : (StP.mk [other1] []).formed = true := by simp [StP.formed, form2, risesB]
 have h2 : (StP.mk [other1] []).closed = true := by simp [StP.closed, other1]
 have h3 : (StP.mk [other1] []).rooted = true := by simp [StP.rooted, risesB]
 have h4 : (StP.mk [other1] []).whole = true := by simp [StP.whole, wh2]
 have h5 : (StP.mk [other1] []).scanned noHas = true := by simp [StP.scanned, other1]
 have h6 : (StP.mk [other1] []).named ownP = false := by
  simp only [StP.named, List.any_cons, List.any_nil, Bool.or_false, Bool.not_not]
  unfold namP; rw [own2]; decide +kernel
 unfold StP.sound; rw [h1, h2, h3, h4, h5, h6]; rfl
theorem sound3 : (StP.mk [one1] [⟨⟨[120]⟩⟩]).sound noHas ownP = 3 := by
 have h1 : (StP.mk [one1] [⟨⟨[120]⟩⟩]).formed = true := by simp [StP.formed, form1, risesB]
 have h2 : (StP.mk [one1] [⟨⟨[120]⟩⟩]).closed = true := by simp [StP.closed, one1]
 have h3 : (StP.mk [one1] [⟨⟨[120]⟩⟩]).rooted = false := by
  have : (one1.path == (⟨⟨[120]⟩⟩ : ByteArray)) = false := by
   rw [beq_eq_false_iff_ne]
   intro e
   have := congrArg (fun b : ByteArray => b.data.toList.length) e
   exact absurd this (by decide)
  simp [StP.rooted, risesB, StP.is, this]
 unfold StP.sound; rw [h1, h2, h3]; rfl
theorem bl_self : ∀ l : List UInt8, Op.bytesLess l l = false := by
 intro l
 induction l with
 | nil => rfl
 | cons a r ih => simp [Op.bytesLess, ih]
theorem strLt_self (s : ByteArray) : strLt s s = false := bl_self _
theorem sound11 : (StP.mk [one1, one1] []).sound noHas ownP = 1 := by
 have h1 : (StP.mk [one1, one1] []).formed = false := by simp [StP.formed, risesB, strLt_self]
 unfold StP.sound; rw [h1]; rfl
theorem reach1 : (StP.mk [one1] [⟨⟨path1⟩⟩]).reach = [⟨⟨path1⟩⟩] := by
 have h : (StP.mk [one1] [⟨⟨path1⟩⟩]).is ⟨⟨path1⟩⟩ = true := is_self one1 _
 simp only [StP.reach, List.foldl_cons, List.foldl_nil, List.length_cons, List.length_nil, dfs, h]
 rfl
end Go.Wk

set_option maxRecDepth 100000
namespace Go.Proofs.YtgfiobhpipollaaGreatDoor
open Go Go.HL Go.Wk
attribute [local irreducible] ptrW ifW brW andW rdT alW letJ stW muW biW vaW imW callT cvalT app callW invW callVW sizeT oW nilF oneK loopW rfW funW begW roundK exW idxW Gr Put
theorem hasOk_nil {S : StP} (h : ∀ p ∈ S.paths, p.refs = []) : HasOk S noHas := by
 intro p hp r hr
 rw [h p hp] at hr; cases hr
theorem ownOk_nil {S : StP} (hz : Sm S) (h : ∀ p ∈ S.paths, p.drv = ⟨⟨[]⟩⟩) : OwnOk S ownP := by
 intro p hp σ y K _ hK
 obtain ⟨z1, z2, _⟩ := hz.pa p hp
 exact s_lkOwn p (h p hp) z1 z2 hK
theorem row1_at {σ : H} {b n : Nat} {r : List Value} {t : TypeId} {fz : Nat × Nat} (e : σ b = some (.cells ⟨r⟩ t fz)) (hr : r.length = n) : RowsAt σ n [r] ⟨some ⟨b, 0, none⟩, 1, 1⟩ := by
 refine ⟨rfl, .inr ⟨b, 0, r, t, fz, rfl, e, fun i q hi => ?_⟩⟩
 cases i with
 | zero => simp at hi; subst hi; exact ⟨hr, by simp [<- hr]⟩
 | succ i => simp at hi
theorem row2_at {σ : H} {b n : Nat} {r q : List Value} {t : TypeId} {fz : Nat × Nat} (e : σ b = some (.cells ⟨r ++ q⟩ t fz)) (hr : r.length = n) (hq : q.length = n) : RowsAt σ n [r, q] ⟨some ⟨b, 0, none⟩, 2, 2⟩ := by
 refine ⟨rfl, .inr ⟨b, 0, r ++ q, t, fz, rfl, e, fun i p hi => ?_⟩⟩
 match i, hi with
 | 0, hi => simp at hi; subst hi; exact ⟨hr, by simp [<- hr]⟩
 | 1, hi => simp at hi; subst hi; exact ⟨hq, by simp [<- hr]; rw [hr, <- hq, List.take_length]⟩
 | i + 2, hi => simp at hi
theorem ps_nil (σ : H) : PsAt σ [] ⟨none, 0, 0⟩ := ⟨[], ⟨rfl, .inl rfl⟩, trivial⟩
theorem ps_one {σ : H} {b : Nat} {p : PathP} {y : Sl} {t : TypeId} {fz : Nat × Nat} (e : σ b = some (.cells ⟨pRow p y⟩ t fz)) (h : RowsAt σ 1 (strRows p.refs) y) : PsAt σ [p] ⟨some ⟨b, 0, none⟩, 1, 1⟩ := ⟨[pRow p y], row1_at e rfl, ⟨y, rfl, h⟩, trivial⟩
theorem ps_two {σ : H} {b : Nat} {p q : PathP} {y z : Sl} {t : TypeId} {fz : Nat × Nat} (e : σ b = some (.cells ⟨pRow p y ++ pRow q z⟩ t fz)) (h : RowsAt σ 1 (strRows p.refs) y) (h2 : RowsAt σ 1 (strRows q.refs) z) : PsAt σ [p, q] ⟨some ⟨b, 0, none⟩, 2, 2⟩ := ⟨[pRow p y, pRow q z], row2_at e rfl rfl, ⟨y, rfl, h⟩, ⟨z, rfl, h2⟩, trivial⟩
theorem rf_nil (σ : H) : RowsAt σ 1 (strRows []) ⟨none, 0, 0⟩ := ⟨rfl, .inl rfl⟩
theorem sm_small {S : StP} (h1 : S.paths.length <= 2) (h2 : ∀ p ∈ S.paths, p = one1 \/ p = other1) (h3 : S.roots.length <= 1) (h4 : ∀ s ∈ S.roots, s.size <= 1000) : Sm S := by
 refine ⟨by omega, by omega, fun s hs => by have := h4 s hs; omega, fun p hp => ?_⟩
 rcases h2 p hp with rfl | rfl
 ·exact ⟨by decide, by decide, by decide, by decide, fun s hs => by cases hs⟩
 ·exact ⟨by decide, by decide, by decide, by decide, fun s hs => by cases hs⟩
theorem sort_one (s : ByteArray) : sortK [s] = [s] := by
 unfold sortK
 simp only [List.map_cons, List.map_nil, List.mergeSort_singleton, ba_eta]
theorem same_one (s : ByteArray) : sameL [s] [s] = true := by simp [sameL]
section
variable {σ : H} {K : KH}
theorem s_lkWorks (hK : K (.bool true) σ) : callW Tryz.prog 15 [] K σ := by
 refine pure_i _ hK (c15 ?_)
 clear hK
 unfold g15
 refine call_i (s_lkAdded [120] [49] (by decide) (by decide) ?_)
 rw [add1]
 unfold pRow one1
 (refine app_of rfl ?_; try dsimp only)
 refine al_i ?_; intro b5 σ1 g1 e1 n1
 refine st_i2 e1 sz_apPath (by rfl) (by rfl) ?_
 intro σ2 p2
 have c5 : σ2 b5 = some (.cells ⟨pRow one1 ⟨none, 0, 0⟩⟩ 38 (0, 0)) := p2.same
 have G2 : Gr σ σ2 := g1.putF p2 n1
 refine rd_G (rdA_of' c5 (by rfl)) ?_
 unfold pRow one1
 (refine app_of rfl ?_; try dsimp only)
 refine al_i ?_; intro b10 σ3 g3 e3 n3
 refine st_i2 e3 sz_apPath (by rfl) (by rfl) ?_
 intro σ4 p4
 have G4 : Gr σ2 σ4 := g3.putF p4 n3
 refine call_i (s_lkAdded [120] [50] (by decide) (by decide) ?_)
 unfold pRow
 (refine app_of rfl ?_; try dsimp only)
 rw [add2]
 refine st_i2 p4.same sz_string' (by rfl) (by rfl) ?_
 intro σ5 p5
 have G5 : Gr σ2 σ5 := G4.putF p5 n3
 have c10 : σ5 b10 = some (.cells ⟨pRow other1 ⟨none, 0, 0⟩⟩ 38 (0, 0)) := p5.same
 refine rd_G (rdA_of' (G5.get c5) (by rfl)) ?_
 unfold pRow one1
 (refine app_of rfl ?_; try dsimp only)
 refine al_i ?_; intro b19 σ6 g6 e6 n6
 refine rd_S (rdC_of (g6.get (G5.get c5)) (by rfl)) ?_
 refine al_i ?_; intro b21 σ7 g7 e7 n7
 refine al_i ?_; intro b22 σ8 g8 e8 n8
 refine st_i2 e8 sz_lkState (by rfl) (by rfl) ?_
 intro σ9 p9
 have G69 : Gr σ6 σ9 := g7.trans (g8.putF p9 n8)
 have G59 : Gr σ5 σ9 := g6.trans G69
 have f5 := G59.get (G5.get c5)
 have f10 := G59.get c10
 have f19 : σ9 b19 = some (.cells ⟨pRow one1 ⟨none, 0, 0⟩⟩ 38 (0, 0)) := G69.get e6
 have f21 : σ9 b21 = some (.cells ⟨[.string ⟨⟨path1⟩⟩]⟩ 9 (0, 0)) := (g8.putF p9 n8).get e7
 have f22 := p9.same
 have G9 : Gr σ σ9 := (G2.trans G5).trans G59
 clear p9 p5 p4 p2 e1 e3 e6 e7 e8 c5 c10 n1 n3 n6 n7 n8
 refine rd_S (rdC_of f5 (by rfl)) ?_
 refine br_t (by rw [strEq_l]; decide) ?_
 have z0 : Sm ⟨[], []⟩ := sm_small (by simp) (fun p hp => by cases hp) (by simp) (fun s hs => by cases hs)
 refine call_i (s_lkSound (S := ⟨[], []⟩) (x1 := ⟨none, 0, 0⟩) (x2 := ⟨none, 0, 0⟩) (hasOk_nil fun p hp => by cases hp) (ownOk_nil z0 fun p hp => by cases hp) (ps_nil _) (rf_nil _) z0 (app_I ?_))
 rw [sound0]
 refine br_t rfl (rd_G (rdA_of' f22 (by rfl)) ?_)
 (refine app_of rfl ?_; try dsimp only)
 have z1 : Sm ⟨[one1], [⟨⟨path1⟩⟩]⟩ := sm_small (by simp) (fun p hp => by simp at hp; exact .inl hp) (by simp) (fun s hs => by simp at hs; subst hs; decide)
 have one_refs : ∀ p ∈ [one1], p.refs = [] := fun p hp => by simp at hp; subst hp; rfl
 have one_drv : ∀ p ∈ [one1], p.drv = ⟨⟨[]⟩⟩ := fun p hp => by simp at hp; subst hp; rfl
 have pp1 : PsAt σ9 [one1] ⟨some ⟨b19, 0, none⟩, 1, 1⟩ := ps_one f19 (rf_nil _)
 have rr1 : RowsAt σ9 1 (strRows [⟨⟨path1⟩⟩]) ⟨some ⟨b21, 0, none⟩, 1, 1⟩ := row1_at f21 rfl
 refine call_i (s_lkSound (S := ⟨[one1], [⟨⟨path1⟩⟩]⟩) (x1 := ⟨some ⟨b19, 0, none⟩, 1, 1⟩) (x2 := ⟨some ⟨b21, 0, none⟩, 1, 1⟩) (hasOk_nil one_refs) (ownOk_nil z1 one_drv) pp1 rr1 z1 (app_I ?_))
 rw [sound1]
 refine br_t rfl (rd_G (rdA_of' f22 (by rfl)) ?_)
 (refine app_of rfl ?_; try dsimp only)
 refine rd_S (rdC_of f5 (by rfl)) ?_
 refine call_i (s_lkLive (S := ⟨[one1], [⟨⟨path1⟩⟩]⟩) (x1 := ⟨some ⟨b19, 0, none⟩, 1, 1⟩) (x2 := ⟨some ⟨b21, 0, none⟩, 1, 1⟩) pp1 rr1 z1 ?_)
 intro xl σA hx
 rw [reach1, sort_one] at hx
 refine app_L (and_i (rdC_of (hx.1.get f5) (by rfl)) ?_)
 refine al_i ?_; intro b32 σB gB eB nB
 have GB : Gr σ9 σB := hx.1.trans gB
 refine call_i (s_rfTexts (hx.at.gr gB) (b := [⟨⟨path1⟩⟩]) (y := ⟨some ⟨b32, 0, none⟩, 1, 1⟩) (row1_at eB rfl) (by simp) (app_B ?_))
 rw [same_one]
 refine br_t rfl (rd_G (rdA_of' (GB.get f10) (by rfl)) ?_)
 unfold pRow other1
 (refine app_of rfl ?_; try dsimp only)
 refine al_i ?_; intro b38 σC gC eC nC
 have GC : Gr σ9 σC := GB.trans gC
 have z6 : Sm ⟨[other1], []⟩ := sm_small (by simp) (fun p hp => by simp at hp; exact .inr hp) (by simp) (fun s hs => by cases hs)
 refine call_i (s_lkSound (S := ⟨[other1], []⟩) (x1 := ⟨some ⟨b38, 0, none⟩, 1, 1⟩) (x2 := ⟨none, 0, 0⟩) (hasOk_nil fun p hp => by simp at hp; subst hp; rfl) (ownOk_nil z6 fun p hp => by simp at hp; subst hp; rfl) (ps_one (p := other1) (y := ⟨none, 0, 0⟩) eC (rf_nil _)) (rf_nil _) z6 (app_I ?_))
 rw [sound6]
 refine br_t rfl (rd_L (rdC_of (GC.get f22) (by rfl)) ?_)
 refine al_i ?_; intro b41 σD gD eD nD
 have GD : Gr σ9 σD := GC.trans gD
 have z3 : Sm ⟨[one1], [⟨⟨[120]⟩⟩]⟩ := sm_small (by simp) (fun p hp => by simp at hp; exact .inl hp) (by simp) (fun s hs => by simp at hs; subst hs; decide)
 refine call_i (s_lkSound (S := ⟨[one1], [⟨⟨[120]⟩⟩]⟩) (x1 := ⟨some ⟨b19, 0, none⟩, 1, 1⟩) (x2 := ⟨some ⟨b41, 0, none⟩, 1, 1⟩) (hasOk_nil one_refs) (ownOk_nil z3 one_drv) (pp1.gr GD) (row1_at eD rfl) z3 (app_I ?_))
 rw [sound3]
 refine br_t rfl (rd_G (rdA_of' (GD.get f5) (by rfl)) ?_)
 unfold pRow one1
 (refine app_of rfl ?_; try dsimp only)
 refine rd_G (rdA_of' (GD.get f5) (by rfl)) ?_
 unfold pRow one1
 (refine app_of rfl ?_; try dsimp only)
 refine al_i ?_; intro b51 σE gE eE nE
 have z11 : Sm ⟨[one1, one1], []⟩ := sm_small (by simp) (fun p hp => by simp at hp; exact .inl hp) (by simp) (fun s hs => by cases hs)
 refine call_i (s_lkSound (S := ⟨[one1, one1], []⟩) (x1 := ⟨some ⟨b51, 0, none⟩, 2, 2⟩) (x2 := ⟨none, 0, 0⟩) (hasOk_nil fun p hp => by simp at hp; subst hp; rfl) (ownOk_nil z11 fun p hp => by simp at hp; subst hp; rfl) (ps_two (p := one1) (q := one1) (y := ⟨none, 0, 0⟩) (z := ⟨none, 0, 0⟩) eE (rf_nil _) (rf_nil _)) (rf_nil _) z11 (app_I ?_))
 rw [sound11]
 exact ⟨rfl, (G9.trans GD).trans gE⟩
end
theorem sz_strsL : sizeT Tryz.prog 23 = some 1 := by kernel_rfl
theorem PsRows.snoc {σ : H} {p : PathP} {y : Sl} (hy : RowsAt σ 1 (strRows p.refs) y) : ∀ {ps : List PathP} {rows : List (List Value)}, PsRows σ ps rows -> PsRows σ (ps ++ [p]) (rows ++ [pRow p y]) := by
 intro ps
 induction ps with
 | nil => intro rows h; cases rows with
  | nil => exact ⟨⟨y, rfl, hy⟩, trivial⟩
  | cons r rows => exact h.elim
 | cons q ps ih =>
  intro rows h
  cases rows with
  | nil => exact h.elim
  | cons r rows => exact ⟨h.1, ih h.2⟩
section
variable {σ : H} {K : KH}
end
end Go.Proofs.YtgfiobhpipollaaGreatDoor

