/- A part of a proof. -/
import Derived.Test.YtpfkfphjigcdeaaGreatDoorVbc
set_option maxRecDepth 100000
namespace Go.Proofs.YtpfkfphjigcdeaaGreatDoor
open Go Go.HL Go.Wk
attribute [local irreducible] ptrW ifW brW andW rdT alW letJ stW muW biW vaW imW callT cvalT app callW invW callVW sizeT oW nilF oneK loopW rfW funW begW roundK exW idxW Gr Put
def cutP (isF : Bool) (c : UInt8) (x y : Int) (L : List ByteArray) : List ByteArray := L.map fun s => ⟨⟨partP isF c x y (bl s)⟩⟩
theorem tl_cut {A : AT} {nm inn cwd : ByteArray} {args : List ByteArray} (hz : ∀ a ∈ args, a.size <= 1000000000) {m : List (Int × ByteArray)} (hv : valuesP [100, 102, 99] args = some (m, [])) (hi : inn.size <= 100000) {isF : Bool} {c : UInt8} {w : List UInt8}
 (hm : (isF = true /\ lk (100 : Int) m = some ⟨⟨[c]⟩⟩ /\ lk (102 : Int) m = some ⟨⟨w⟩⟩ /\ lk (99 : Int) m = none) \/ (isF = false /\ lk (100 : Int) m = none /\ lk (102 : Int) m = none /\ lk (99 : Int) m = some ⟨⟨w⟩⟩))
 {x y : Int} (hc : w.contains 44 = false) (hl : w.length <= 1000000) (hd : strEq ⟨⟨w⟩⟩ ⟨⟨[45]⟩⟩ = false) (hx : NumOr (bl (cutB1 45 ⟨⟨w⟩⟩).1) 1 x) (hy : NumOr (if (cutB1 45 ⟨⟨w⟩⟩).2.2 then bl (cutB1 45 ⟨⟨w⟩⟩).2.1 else bl (cutB1 45 ⟨⟨w⟩⟩).1) 9223372036854775807 y) (hw : w ≠ []) (h1 : 1 <= x) (hxy : x <= y)
 (hlz : ∀ a ∈ linesP (bl inn), a.size <= 1000000) (hj : (joinedP (cutP isF c x y (linesP (bl inn)))).length <= 1000000000) :
 TlOk A 25 nm inn cwd args (doneP (joinedP (cutP isF c x y (linesP (bl inn))))) := by
 intro σ xs bf K hF hxs hxc hK
 refine c25 nm xs inn cwd _ ?_
 unfold g25
 refine al_i ?_; intro b6 σ1 g1 e1 n1
 refine al_i ?_; intro b7 σ2 g2 e2 n2
 have n7 := none_of g1 n2
 have G2 := g1.trans g2
 refine rd_G (rdA_of (g2.get e1) (Nat.le_refl 5)) (app_of rfl ?_)
 refine call_i (s_txValues (hxs.gr G2) hxc hz [100, 102, 99] (fun h => by rw [hv] at h; cases h) (fun m' rest z b σ3 h g3 hmap hr hrc => app_of rfl ?_))
 rw [hv] at h
 injection h with h
 injection h with h1' h2'
 subst h1'; subst h2'
 have hzl : z.len = 0 := sLen hr
 refine rd_G (rdM_at (kk := kk8) (f := Value.string) hmap (.string ⟨⟨[]⟩⟩) true (100 : Int)) ?_
 obtain ⟨sp, hsp, hspc⟩ : ∃ sp : List UInt8, ((lk (100 : Int) m).map Value.string).getD (.string ⟨⟨[]⟩⟩) = .string ⟨⟨sp⟩⟩ /\ (isF = true -> sp = [c]) := by
  rcases hm with ⟨q1, q2, _⟩ | ⟨q1, q2, _⟩
  ·exact ⟨[c], by rw [q2]; rfl, fun _ => rfl⟩
  ·exact ⟨[], by rw [q2]; rfl, fun e => by rw [q1] at e; cases e⟩
 obtain ⟨wf, hwf⟩ : ∃ wf : ByteArray, ((lk (102 : Int) m).map Value.string).getD (.string ⟨⟨[]⟩⟩) = .string wf := by
  rcases hm with ⟨_, _, q3, _⟩ | ⟨_, _, q3, _⟩
  ·exact ⟨⟨⟨w⟩⟩, by rw [q3]; rfl⟩
  ·exact ⟨⟨⟨[]⟩⟩, by rw [q3]; rfl⟩
 obtain ⟨wb, hwb⟩ : ∃ wb : ByteArray, ((lk (99 : Int) m).map Value.string).getD (.string ⟨⟨[]⟩⟩) = .string wb := by
  rcases hm with ⟨_, _, _, q4⟩ | ⟨_, _, _, q4⟩
  ·exact ⟨⟨⟨[]⟩⟩, by rw [q4]; rfl⟩
  ·exact ⟨⟨⟨w⟩⟩, by rw [q4]; rfl⟩
 have hcat : wf ++ wb = ⟨⟨w⟩⟩ := by
  rcases hm with ⟨_, _, q3, q4⟩ | ⟨_, _, q3, q4⟩
  ·rw [q3] at hwf; rw [q4] at hwb
   injection hwf with hwf; injection hwb with hwb
   rw [<- hwf, <- hwb]; exact bytes_ext (by simp)
  ·rw [q3] at hwf; rw [q4] at hwb
   injection hwf with hwf; injection hwb with hwb
   rw [<- hwf, <- hwb]; exact bytes_ext (by simp)
 have hcz : wf.size + wb.size = w.length := by
  have := congrArg ByteArray.size hcat
  rw [ByteArray.size_append] at this; exact this
 have hd1 : (lk (100 : Int) m).isSome = isF := by rcases hm with ⟨q1, q2, _⟩ | ⟨q1, q2, _⟩ <;> rw [q1, q2] <;> rfl
 have hd2 : (lk (102 : Int) m).isSome = isF := by rcases hm with ⟨q1, _, q2, _⟩ | ⟨q1, _, q2, _⟩ <;> rw [q1, q2] <;> rfl
 have hd3 : (lk (99 : Int) m).isSome = !isF := by rcases hm with ⟨q1, _, _, q2⟩ | ⟨q1, _, _, q2⟩ <;> rw [q1, q2] <;> rfl
 rw [hsp, hd1]
 refine app_of rfl ?_
 dsimp only
 refine al_i ?_; intro b18 σ4 g4 e4 n4
 refine st_i2 e4 sz_strS (by rfl) (by rfl) ?_; intro σ5 p5
 have g45 := g4.putF p5 n4
 refine rd_G (rdM_at (kk := kk8) (f := Value.string) (hmap.gr g45) (.string ⟨⟨[]⟩⟩) true (102 : Int)) ?_
 rw [hwf, hd2]
 refine app_of rfl ?_
 dsimp only
 refine al_i ?_; intro b21 σ6 g6 e6 n6
 refine st_i2 e6 sz_boolT (by rfl) (by rfl) ?_; intro σ7 p7
 have g67 := g6.putF p7 n6
 refine rd_G (rdM_at (kk := kk8) (f := Value.string) ((hmap.gr g45).gr g67) (.string ⟨⟨[]⟩⟩) true (99 : Int)) ?_
 rw [hwb, hd3]
 refine app_of rfl ?_
 dsimp only
 have G3 := G2.trans g3
 have G7 := (G3.trans g45).trans g67
 have k18 : σ7 b18 = some (.cells ⟨[.string ⟨⟨sp⟩⟩]⟩ 9 (0, 0)) := g67.get p5.same
 have k21 : σ7 b21 = some (.cells ⟨[.bool isF]⟩ 4 (0, 0)) := p7.same
 have k6 := g67.get (g45.get (g3.get (g2.get e1)))
 have k7 := g67.get (g45.get (g3.get e2))
 refine j_i (fun j => j (some ⟨b6, 0, none⟩) (some ⟨b7, 0, none⟩) z (some ⟨b18, 0, none⟩) isF wf (some ⟨b21, 0, none⟩) wb false σ7) ?_ ?_
 case refine_2 =>
  intro j hj
  refine br_f rfl (rd_B (rdC_of k21 (by rfl)) ?_)
  cases isF with
  | true =>
   refine br_f rfl (br_t rfl (br_f rfl (rd_S (rdC_of k18 (by rfl)) ?_)))
   rw [hspc rfl]
   exact hj
  | false => exact br_f rfl (br_f rfl hj)
 refine br_f rfl (if_i (by omega) ?_)
 rw [hcat]
 refine call_i (s_txList hc hl hd hx hy hw h1 hxy fun zz σ8 g8 hzz hzzc hzf => app_of rfl ?_)
 refine al_i ?_; intro b51 σ9 g9 e9 n9
 refine st_i2 e9 sz_spanL (by rfl) (by rfl) ?_; intro σt pt
 have gt := g9.putF pt n9
 have k51 : σt b51 = some (spnC zz) := pt.same
 have hzt := hzz.gr gt
 have g8t := g8.trans gt
 have k18t := g8t.get k18
 have n18 : σ b18 = none := none_of G3 n4
 refine br_f rfl ?_
 refine j_i (fun j => ∀ τ, Gr σ τ -> τ b6 = some (toolC nm xs inn cwd (some ⟨bf, 0, none⟩)) -> τ b7 = some (.cells ⟨[.string ⟨⟨[]⟩⟩, .string ⟨⟨[]⟩⟩, .int .i64 0]⟩ 45 (0, 0)) -> (∃ sp : List UInt8, (isF = true -> sp = [c]) /\ τ b18 = some (.cells ⟨[.string ⟨⟨sp⟩⟩]⟩ 9 (0, 0))) -> τ b21 = some (.cells ⟨[.bool isF]⟩ 4 (0, 0)) -> τ b51 = some (spnC zz) -> RowsAt τ 2 [[.int .i64 x, .int .i64 y]] zz ->
  j (some ⟨b6, 0, none⟩) (some ⟨b7, 0, none⟩) z (some ⟨b18, 0, none⟩) (some ⟨b21, 0, none⟩) (some ⟨b51, 0, none⟩) τ) ?_ ?_
 case refine_2 =>
  intro j hj
  cases hh : isF with
  | true =>
   rw [hh] at hj hspc k21
   exact br_f rfl (hj σt (G7.trans g8t) (g8t.get k6) (g8t.get k7) ⟨sp, hspc, k18t⟩ (g8t.get k21) k51 hzt)
  | false =>
   rw [hh] at hj hspc k21
   refine br_t rfl (st_i2 k18t sz_strS (by rfl) (by rfl) ?_); intro τ p
   have d1 : b6 ≠ b18 := ne_fresh (g3.get (g2.get e1)) n4
   have d2 : b7 ≠ b18 := ne_fresh (g3.get e2) n4
   have d3 : b21 ≠ b18 := (ne_fresh p5.same n6).symm
   have d4 : b51 ≠ b18 := (ne_fresh (g8.get k18) n9).symm
   refine hj τ ((G7.trans g8t).putF p n18) (p.get d1 (g8t.get k6)) (p.get d2 (g8t.get k7)) ⟨[9], (fun e => by cases e), p.same⟩ (p.get d3 (g8t.get k21)) (p.get d4 k51) ?_
   refine rows_keep hzt fun g o ob hb _ hob => p.get (fun e => ?_) hob
   have := hzf g o hb
   rw [e, k18] at this; cases this
 intro τ Gτ w6 w7 ⟨sp', hsp', w18⟩ w21 w51 hzτ
 refine ptr_i (rd_G (rdA_of w6 (Nat.le_refl 5)) (app_of rfl ?_))
 refine call_i (s_txRead0 hzl (by omega) fun τ1 u1 => app_of rfl ?_)
 refine al_i ?_; intro b85 τ2 u2 v2 o2
 refine st_i2 v2 sz_done (by rfl) (by rfl) ?_; intro τ3 p3
 have u23 := u2.putF p3 o2
 have hbl : (bl inn).length = inn.size := rfl
 refine call_i (s_txLines (bl inn) (by omega) fun yl τ4 hyl => app_L ?_)
 have hll := lines_len (bl inn)
 generalize linesP (bl inn) = L at hyl hll hj hK hlz
 have hylen : yl.len = L.length := by rw [hyl.len, strRows_len]
 have Gτ3 := (Gτ.trans u1).trans u23
 have r3 : Gr τ τ3 := u1.trans u23
 refine loop_i fun R hR => ?_
 -- the end
 have fin : ∀ ω, RNew τ3 ω 9 1 (strRows (cutP isF c x y L)) yl -> R (some ⟨b7, 0, none⟩) (.func (.func 47) ⟨[]⟩ ⟨[.pointer (some ⟨b21, 0, none⟩), .pointer (some ⟨b18, 0, none⟩), .pointer (some ⟨b51, 0, none⟩)]⟩) (some ⟨b85, 0, none⟩) yl ((yl.len : Nat) : Int) (L.length : Int) ω := by
  intro ω hω
  refine hR _ _ _ _ _ _ _ (br_f (by rw [decide_eq_false_iff_not]; omega) ?_)
  refine call_i (s_txJoined hω.at hj fun ω1 a1 => app_S ?_)
  have q := hω.1.trans a1
  refine ptr_i (st_i2 (q.get p3.same) sz_strS (by rfl) (by rfl) ?_); intro ω2 a2
  refine ptr_i (rd_G (rdA_of a2.same (Nat.le_refl 3)) (app_of rfl ?_))
  have d : b7 ≠ b85 := ne_fresh (u1.get w7) o2
  refine st_i2 (a2.get d (q.get (r3.get w7))) sz_done (by rfl) (by rfl) ?_; intro ω3 a3
  refine ptr_i (rd_G (rdA_of a3.same (Nat.le_refl 3)) (app_of rfl ?_))
  exact hK ω3 (((Gτ3.trans q).putF a2 (none_of (Gτ.trans u1) o2)).putF a3 n7)
 obtain ⟨h1, ⟨h2, h3, ⟨h4, h5, h6⟩ | ⟨g, cur, h4, h5, h6, h7, h8⟩⟩, h9⟩ := id hyl
 ·have hl0 : L = [] := by simpa [strRows] using h6
  subst hl0
  exact fin τ4 hyl
 obtain ⟨xb, n, cap⟩ := yl
 simp only at hylen h4 h6 h7 h8
 subst h4
 rw [Nat.mul_one, strV_flat] at h8
 have hcur : cur = strV L ++ cur.drop n := by rw [<- h8]; exact (List.take_append_drop n cur).symm
 have hds : DS τ3 τ4 g (cur.drop n) L := ⟨h9 g rfl, h1, by rw [<- hcur]; exact h5⟩
 have key : ∀ mm k ω, L.length - k = mm -> k <= L.length -> DS τ3 ω g (cur.drop n) ((cutP isF c x y L).take k ++ L.drop k) -> R (some ⟨b7, 0, none⟩) (.func (.func 47) ⟨[]⟩ ⟨[.pointer (some ⟨b21, 0, none⟩), .pointer (some ⟨b18, 0, none⟩), .pointer (some ⟨b51, 0, none⟩)]⟩) (some ⟨b85, 0, none⟩) ⟨some ⟨g, 0, none⟩, n, cap⟩ ((n : Nat) : Int) (k : Int) ω := by
  have hcl : (cutP isF c x y L).length = L.length := by unfold cutP; rw [List.length_map]
  intro mm
  induction mm with
  | zero =>
   intro k ω hmm hk hd'
   have hkk : k = L.length := by omega
   subst hkk
   rw [List.drop_length, List.append_nil, List.take_of_length_le (by omega)] at hd'
   refine fin ω ?_
   have hv : (strV (cutP isF c x y L)).length = n := by simp [strV, hcl]; omega
   refine ⟨hd'.gr, ⟨by rw [strRows_len, hcl]; exact hylen, by intro r hr; obtain ⟨_, _, rfl⟩ := List.mem_map.1 (show r ∈ (cutP isF c x y L).map _ from hr); rfl, .inr ⟨g, _, rfl, hd'.cell, ?_, h7, ?_⟩⟩, h9⟩
   ·have e1 : (strV L ++ List.drop n cur).length = cur.length := by rw [<- hcur]
    have hv2 : (strV L).length = n := by simp [strV]; omega
    rw [List.length_append] at e1 ⊢
    rw [<- h6]; omega
   ·rw [Nat.mul_one, strV_flat]
    show List.take n _ = _
    rw [List.take_append_of_le_length (by omega), List.take_of_length_le (by omega)]
  | succ mm ih =>
   intro k ω hmm hk hd'
   obtain ⟨s, hs⟩ : ∃ s, L[k]? = some s := ⟨_, List.getElem?_eq_getElem (by omega)⟩
   have htk : ((cutP isF c x y L).take k).length = k := by rw [List.length_take]; omega
   have hget : ((cutP isF c x y L).take k ++ L.drop k)[k]? = some s := by
    rw [List.getElem?_append_right (by omega), htk, Nat.sub_self, List.getElem?_drop, Nat.add_zero]; exact hs
   have hlen' : ((cutP isF c x y L).take k ++ L.drop k).length = n := by rw [List.length_append, htk, List.length_drop]; omega
   refine hR _ _ _ _ _ _ _ (br_t (by rw [decide_eq_true_eq]; omega) ?_)
   refine ds_rd hd' (o := 0) (j := k) (k := k) rfl (by omega) hget (by show k < n; omega) (F := fun b o v => _) ?_
   have hss := hlz s (List.mem_of_getElem? hs)
   have r3ω : Gr τ ω := r3.trans hd'.gr
   refine cvalv_i (s_txCut1 (ρ := τ) (isF := isF) (c := c) hsp' w21 w18 w51 hzτ (bl s) hss r3ω fun ω1 a1 => app_S ?_)
   refine ds_st (hd'.more a1) hlen'.symm (i := (k : Int)) (k := k) rfl (by omega) fun ω2 hd2 => ?_
   rw [wS (a := k) (by omega)]
   refine ih (k + 1) ω2 (by omega) (by omega) ?_
   have : ((cutP isF c x y L).take k ++ L.drop k).set k ⟨⟨partP isF c x y (bl s)⟩⟩ = (cutP isF c x y L).take (k + 1) ++ L.drop (k + 1) := by
    have e1 : (cutP isF c x y L)[k]? = some ⟨⟨partP isF c x y (bl s)⟩⟩ := by unfold cutP; rw [List.getElem?_map, hs]; rfl
    rw [List.set_append_right _ _ (Nat.le_of_eq htk), htk, Nat.sub_self, List.take_add_one, e1]
    have e2 : L.drop k = s :: L.drop (k + 1) := by
     rw [List.drop_eq_getElem_cons (by omega)]
     rw [List.getElem?_eq_getElem (by omega)] at hs
     rw [Option.some.inj hs]
    rw [e2, List.set_cons_zero, List.append_assoc]; rfl
   rw [<- this]; exact hd2
 exact key L.length 0 τ4 (by omega) (Nat.zero_le _) (by rw [List.take_zero, List.nil_append, List.drop_zero]; exact hds)
end Go.Proofs.YtpfkfphjigcdeaaGreatDoor

