/- A part of the proof: LookLives holds. -/
import Derived.Test.YtgfiobhpipollaaGreatDoorMbb
import Derived.Sort.Walk0
import Derived.WalkKit
import Derived.ProofKit
import Derived.OpenShut
import Derived.Deep.DeepHandedRow
namespace Go.Wk
open Go Go.HL
inductive Rch (S : StP) (R : List ByteArray) : ByteArray -> Prop
 | root (r : ByteArray) (h : r ∈ R) (hi : S.is r = true) : Rch S R r
 | step (s : ByteArray) (p : PathP) (r : ByteArray) (h : Rch S R s) (hp : p ∈ S.paths) (e : p.path = s) (hr : r ∈ p.refs) (hi : S.is r = true) : Rch S R r
theorem rch_append (S : StP) (A B : List ByteArray) (s : ByteArray) : Rch S (A ++ B) s ↔ Rch S A s \/ Rch S B s := by
 constructor
 ·intro h
  induction h with
  | root r h hi => rcases List.mem_append.1 h with h | h; exact .inl (.root r h hi); exact .inr (.root r h hi)
  | step s p r h hp e hr hi ih => rcases ih with ih | ih; exact .inl (.step s p r ih hp e hr hi); exact .inr (.step s p r ih hp e hr hi)
 ·intro h
  rcases h with h | h
  ·induction h with
   | root r h hi => exact .root r (List.mem_append_left _ h) hi
   | step s p r h hp e hr hi ih => exact .step s p r ih hp e hr hi
  ·induction h with
   | root r h hi => exact .root r (List.mem_append_right _ h) hi
   | step s p r h hp e hr hi ih => exact .step s p r ih hp e hr hi
theorem dfs_sound {S : StP} {Q : ByteArray -> Prop} (hQ : ∀ s, Q s -> ∀ p ∈ S.paths, p.path = s -> ∀ r ∈ p.refs, S.is r = true -> Q r) : ∀ (f : Nat) (x : ByteArray) (L : List ByteArray), (S.is x = true -> Q x) -> (∀ u ∈ L, Q u) -> ∀ u ∈ dfs S f x L, Q u := by
 intro f
 induction f with
 | zero => intro x L _ h; exact h
 | succ f ih =>
  intro x L hx h
  unfold dfs
  split
  ·exact h
  ·rename_i hc
   have hc : (!S.is x || L.contains x) = false := by simpa using hc
   simp only [Bool.or_eq_false_iff, Bool.not_eq_false'] at hc
   have hqx := hx hc.1
   have h0 : ∀ u ∈ L ++ [x], Q u := fun u hu => by
    rcases List.mem_append.1 hu with hu | hu
    ·exact h u hu
    ·simp at hu; subst hu; exact hqx
   have key : ∀ (ps : List PathP) (M : List ByteArray), (∀ p ∈ ps, p ∈ S.paths) -> (∀ u ∈ M, Q u) -> ∀ u ∈ ps.foldl (fun L p => if p.path == x then p.refs.foldl (fun L r => dfs S f r L) L else L) M, Q u := by
    intro ps
    induction ps with
    | nil => intro M _ hM; exact hM
    | cons p ps ihp =>
     intro M hps hM
     refine ihp _ (fun q hq => hps q (List.mem_cons_of_mem _ hq)) ?_
     dsimp only
     split
     ·rename_i hpx
      have hpx := eq_of_beq hpx
      have key2 : ∀ (rs : List ByteArray) (M : List ByteArray), (∀ r ∈ rs, r ∈ p.refs) -> (∀ u ∈ M, Q u) -> ∀ u ∈ rs.foldl (fun L r => dfs S f r L) M, Q u := by
       intro rs
       induction rs with
       | nil => intro M _ hM; exact hM
       | cons r rs ihr =>
        intro M hrs hM
        exact ihr _ (fun q hq => hrs q (List.mem_cons_of_mem _ hq)) (ih r M (fun hi => hQ x hqx p (hps p (List.mem_cons_self ..)) hpx r (hrs r (List.mem_cons_self ..)) hi) hM)
      exact key2 p.refs M (fun _ h => h) hM
     ·exact hM
   exact key S.paths _ (fun _ h => h) h0
def Cl (S : StP) (M : List ByteArray) (u : ByteArray) : Prop := ∀ p ∈ S.paths, p.path = u -> ∀ r ∈ p.refs, S.is r = true -> r ∈ M
theorem Cl.mono {S : StP} {M N : List ByteArray} {u : ByteArray} (h : Cl S M u) (hs : ∀ s ∈ M, s ∈ N) : Cl S N u := fun p hp e r hr hi => hs r (h p hp e r hr hi)
theorem dfs_full {S : StP} : ∀ (f : Nat) (x : ByteArray) (L : List ByteArray), cnt S L <= f -> (S.is x = true -> x ∈ dfs S f x L) /\ ∀ u ∈ dfs S f x L, u ∉ L -> Cl S (dfs S f x L) u := by
 intro f
 induction f with
 | zero =>
  intro x L hc
  refine ⟨fun hi => ?_, fun u hu hn => absurd hu hn⟩
  cases hx : L.contains x with
  | true => simpa [dfs] using hx
  | false => have := cnt_lt hi hx; omega
 | succ f ih =>
  intro x L hc
  unfold dfs
  split
  ·rename_i hb
   refine ⟨fun hi => ?_, fun u hu hn => absurd hu hn⟩
   rw [hi] at hb
   simpa using hb
  ·rename_i hb
   have hb : (!S.is x || L.contains x) = false := by simpa using hb
   simp only [Bool.or_eq_false_iff, Bool.not_eq_false'] at hb
   have hlt := cnt_lt hb.1 hb.2
   -- over references
   have key2 : ∀ (rs : List ByteArray) (M : List ByteArray), (∀ u ∈ L ++ [x], u ∈ M) -> (∀ u ∈ M, u ∉ L ++ [x] -> Cl S M u) ->
    (∀ u ∈ rs.foldl (fun L r => dfs S f r L) M, u ∉ L ++ [x] -> Cl S (rs.foldl (fun L r => dfs S f r L) M) u) /\ (∀ r ∈ rs, S.is r = true -> r ∈ rs.foldl (fun L r => dfs S f r L) M) /\ ∀ u ∈ M, u ∈ rs.foldl (fun L r => dfs S f r L) M := by
    intro rs
    induction rs with
    | nil => intro M _ h; exact ⟨h, fun r hr => (by cases hr), fun u hu => hu⟩
    | cons r rs ihr =>
     intro M hM h
     have hcm : cnt S M <= f := Nat.le_trans (cnt_mono hM) (by omega)
     obtain ⟨a1, a2⟩ := ih r M hcm
     have hsub := dfs_sub S f r M
     obtain ⟨b1, b2, b3⟩ := ihr (dfs S f r M) (fun u hu => hsub u (hM u hu)) (fun u hu hn => by
      by_cases hm : u ∈ M
      ·exact (h u hm hn).mono hsub
      ·exact a2 u hu hm)
     refine ⟨b1, fun q hq hi => ?_, fun u hu => b3 u (hsub u hu)⟩
     rcases List.mem_cons.1 hq with rfl | hq
     ·exact b3 _ (a1 hi)
     ·exact b2 q hq hi
   have key : ∀ (ps : List PathP) (M : List ByteArray), (∀ u ∈ L ++ [x], u ∈ M) -> (∀ u ∈ M, u ∉ L ++ [x] -> Cl S M u) ->
    (∀ u ∈ ps.foldl (fun L p => if p.path == x then p.refs.foldl (fun L r => dfs S f r L) L else L) M, u ∉ L ++ [x] -> Cl S (ps.foldl (fun L p => if p.path == x then p.refs.foldl (fun L r => dfs S f r L) L else L) M) u) /\
    (∀ p ∈ ps, p.path = x -> ∀ r ∈ p.refs, S.is r = true -> r ∈ ps.foldl (fun L p => if p.path == x then p.refs.foldl (fun L r => dfs S f r L) L else L) M) /\ ∀ u ∈ M, u ∈ ps.foldl (fun L p => if p.path == x then p.refs.foldl (fun L r => dfs S f r L) L else L) M := by
    intro ps
    induction ps with
    | nil => intro M _ h; exact ⟨h, fun p hp => (by cases hp), fun u hu => hu⟩
    | cons p ps ihp =>
     intro M hM h
     simp only [List.foldl_cons]
     by_cases hpx : (p.path == x) = true
     ·rw [if_pos hpx]
      obtain ⟨a1, a2, a3⟩ := key2 p.refs M hM h
      obtain ⟨b1, b2, b3⟩ := ihp _ (fun u hu => a3 u (hM u hu)) a1
      refine ⟨b1, fun q hq e r hr hi => ?_, fun u hu => b3 u (a3 u hu)⟩
      rcases List.mem_cons.1 hq with rfl | hq
      ·exact b3 _ (a2 r hr hi)
      ·exact b2 q hq e r hr hi
     ·rw [if_neg hpx]
      obtain ⟨b1, b2, b3⟩ := ihp M hM h
      refine ⟨b1, fun q hq e r hr hi => ?_, b3⟩
      rcases List.mem_cons.1 hq with rfl | hq
      ·exact absurd (beq_iff_eq.2 e) hpx
      ·exact b2 q hq e r hr hi
   obtain ⟨c1, c2, c3⟩ := key S.paths (L ++ [x]) (fun _ h => h) (fun u hu hn => absurd hu hn)
   refine ⟨fun _ => c3 x (by simp), fun u hu hn => ?_⟩
   by_cases hux : u = x
   ·subst hux; exact fun p hp e r hr hi => c2 p hp e r hr hi
   ·exact c1 u hu (by simp [hn, hux])
theorem mem_reach (S : StP) (s : ByteArray) : s ∈ S.reach ↔ Rch S S.roots s := by
 unfold StP.reach
 constructor
 ·have key : ∀ (rs : List ByteArray) (M : List ByteArray), (∀ r ∈ rs, r ∈ S.roots) -> (∀ u ∈ M, Rch S S.roots u) -> ∀ u ∈ rs.foldl (fun L r => dfs S S.paths.length r L) M, Rch S S.roots u := by
   intro rs
   induction rs with
   | nil => intro M _ h; exact h
   | cons r rs ih =>
    intro M hrs h
    exact ih _ (fun q hq => hrs q (List.mem_cons_of_mem _ hq)) (dfs_sound (Q := Rch S S.roots) (fun s hs p hp e r hr hi => .step s p r hs hp e hr hi) _ r M (fun hi => .root r (hrs r (List.mem_cons_self ..)) hi) h)
  exact key S.roots [] (fun _ h => h) (fun u hu => by cases hu) s
 ·have key : ∀ (rs : List ByteArray) (M : List ByteArray), (∀ u ∈ M, Cl S M u) -> (∀ u ∈ rs.foldl (fun L r => dfs S S.paths.length r L) M, Cl S (rs.foldl (fun L r => dfs S S.paths.length r L) M) u) /\ (∀ r ∈ rs, S.is r = true -> r ∈ rs.foldl (fun L r => dfs S S.paths.length r L) M) /\ ∀ u ∈ M, u ∈ rs.foldl (fun L r => dfs S S.paths.length r L) M := by
   intro rs
   induction rs with
   | nil => intro M h; exact ⟨h, fun r hr => (by cases hr), fun u hu => hu⟩
   | cons r rs ih =>
    intro M h
    have hc : cnt S M <= S.paths.length := List.length_filter_le _ _
    obtain ⟨a1, a2⟩ := dfs_full S.paths.length r M hc
    have hsub := dfs_sub S S.paths.length r M
    obtain ⟨b1, b2, b3⟩ := ih (dfs S S.paths.length r M) (fun u hu => by
     by_cases hm : u ∈ M
     ·exact (h u hm).mono hsub
     ·exact a2 u hu hm)
    refine ⟨b1, fun q hq hi => ?_, fun u hu => b3 u (hsub u hu)⟩
    rcases List.mem_cons.1 hq with rfl | hq
    ·exact b3 _ (a1 hi)
    ·exact b2 q hq hi
  obtain ⟨c1, c2, _⟩ := key S.roots [] (fun u hu => by cases hu)
  intro h
  induction h with
  | root r h hi => exact c2 r h hi
  | step s p r h hp e hr hi ih => exact c1 s ih p hp e r hr hi
theorem nodup_len {l m : List ByteArray} (hl : l.Nodup) (hm : m.Nodup) (h : ∀ s, s ∈ l ↔ s ∈ m) : l.length = m.length := by
 induction l generalizing m with
 | nil =>
  cases m with
  | nil => rfl
  | cons a r => exact absurd ((h a).2 (List.mem_cons_self ..)) (by simp)
 | cons a r ih =>
  have ha : a ∈ m := (h a).1 (List.mem_cons_self ..)
  obtain ⟨h1, h2⟩ := List.nodup_cons.1 hl
  have h3 := ih (m := m.erase a) h2 (hm.erase a) fun s => by
   rw [hm.mem_erase_iff]
   constructor
   ·intro hs
    exact ⟨fun e => by subst e; exact h1 hs, (h s).1 (List.mem_cons_of_mem _ hs)⟩
   ·rintro ⟨hne, hs⟩
    rcases List.mem_cons.1 ((h s).2 hs) with e | e
    ·exact absurd e hne
    ·exact e
  rw [List.length_erase_of_mem ha] at h3
  have := List.length_pos_of_mem ha
  simp only [List.length_cons]; omega
end Go.Wk

set_option maxRecDepth 100000
namespace Go.Proofs.YtgfiobhpipollaaGreatDoor
open Go Go.HL Go.Wk
attribute [local irreducible] ptrW ifW brW andW rdT alW letJ stW muW biW vaW imW callT cvalT app callW invW callVW sizeT oW nilF oneK loopW rfW funW begW roundK exW idxW Gr Put
theorem sortK_perm (l : List ByteArray) : (sortK l).Perm l := by
 have h := (List.mergeSort_perm (l.map fun s => s.data.toList) (fun x y => decide (x <= y))).map (fun x => (⟨⟨x⟩⟩ : ByteArray))
 have e : (l.map fun s => s.data.toList).map (fun x => (⟨⟨x⟩⟩ : ByteArray)) = l := by
  rw [List.map_map]
  conv => rhs; rw [<- List.map_id l]
  exact List.map_congr_left fun s _ => ba_eta s
 rw [e] at h; exact h
theorem strLt_of {a b : ByteArray} (h : a.data.toList <= b.data.toList) (hne : a ≠ b) : strLt a b = true := by
 unfold strLt
 rw [bytesLess_eq, Lib.toList_data, Lib.toList_data, decide_eq_true_iff]
 have hne' : a.data.toList ≠ b.data.toList := fun e => hne (by rw [<- ba_eta a, <- ba_eta b, e])
 exact Decidable.byContradiction fun h1 => hne' (List.le_antisymm h (List.not_lt.1 h1))
theorem sortK_lt {l : List ByteArray} (hnd : l.Nodup) : (sortK l).Pairwise (fun a b => strLt a b = true) := by
 have h1 := List.pairwise_mergeSort (le := fun x y : List UInt8 => decide (x <= y)) (by intro a b c h1 h2; simp only [decide_eq_true_eq] at *; exact List.le_trans h1 h2) (by intro a b; simp only [Bool.or_eq_true, decide_eq_true_eq]; exact List.le_total a b) (l.map fun s => s.data.toList)
 have h2 : (sortK l).Pairwise (fun a b => a.data.toList <= b.data.toList) := by
  unfold sortK
  rw [List.pairwise_map]
  exact h1.imp (by intro a b h; simpa using h)
 have h3 : (sortK l).Nodup := (sortK_perm l).nodup_iff.2 hnd
 exact (List.Pairwise.and h2 h3).imp fun h => strLt_of h.1 h.2
def addU (M : List ByteArray) (s : ByteArray) : List ByteArray := if M.contains s then M else M ++ [s]
theorem addU_up (M : List ByteArray) (s : ByteArray) : up s 1 (ent M) = ent (addU M s) := by
 unfold addU
 cases h : M.contains s with
 | true =>
  rw [if_pos rfl]
  exact up_self (by rw [lk_ent, h]; rfl)
 | false => rw [if_neg (by simp)]; exact up_ent h
theorem addU_nodup {M : List ByteArray} (h : M.Nodup) (s : ByteArray) : (addU M s).Nodup := by
 unfold addU
 split
 ·exact h
 ·rename_i hc
  have hc : s ∉ M := by simpa using hc
  rw [List.nodup_append]
  exact ⟨h, by simp, fun u hu v hv => by simp at hv; subst hv; intro e; subst e; exact hc hu⟩
theorem addU_mem (M : List ByteArray) (s u : ByteArray) : u ∈ addU M s ↔ u ∈ M \/ u = s := by
 unfold addU
 split
 ·rename_i hc
  have hc : s ∈ M := by simpa using hc
  exact ⟨.inl, fun h => h.elim id fun e => by rw [e]; exact hc⟩
 ·simp
theorem addU_all : ∀ (l M : List ByteArray), M.Nodup -> (l.foldl addU M).Nodup /\ ∀ u, u ∈ l.foldl addU M ↔ u ∈ M \/ u ∈ l := by
 intro l
 induction l with
 | nil => intro M h; exact ⟨h, fun u => by simp⟩
 | cons a r ih =>
  intro M h
  obtain ⟨h1, h2⟩ := ih (addU M a) (addU_nodup h a)
  refine ⟨h1, fun u => ?_⟩
  rw [List.foldl_cons, h2 u, addU_mem, List.mem_cons]
  exact ⟨fun h => by rcases h with (h | h) | h; exact .inl h; exact .inr (.inl h); exact .inr (.inr h), fun h => by rcases h with h | h | h; exact .inl (.inl h); exact .inl (.inr h); exact .inr h⟩
theorem rown_ne {σ : H} {e t : TypeId} {n b : Nat} {rows : List (List Value)} {x : Sl} {c : List Value} {fz : Nat × Nat} (h : RowsOwn σ e n rows x) (hb : σ b = some (.cells ⟨c⟩ t fz)) (hne : t ≠ e) : x.base ≠ some ⟨b, 0, none⟩ := by
 intro eb
 obtain ⟨_, _, ⟨h1, _⟩ | ⟨g, cu, m1, m2, _⟩⟩ := h
 ·rw [h1] at eb; cases eb
 ·rw [m1] at eb; cases eb
  rw [hb] at m2; cases m2; exact hne rfl
theorem get_last {α : Type} {l : List α} {R : α -> α -> Prop} (h : l.Pairwise R) {i : Nat} {a b : α} (ha : l[i]? = some a) (hb : l[i + 1]? = some b) : R a b := by
 obtain ⟨h1, e1⟩ := List.getElem?_eq_some_iff.1 ha
 obtain ⟨h2, e2⟩ := List.getElem?_eq_some_iff.1 hb
 have := List.pairwise_iff_getElem.1 h i (i + 1) h1 h2 (by omega)
 rw [e1, e2] at this; exact this
theorem ra_mapPut {σ σ' : H} {n b : Nat} {rows : List (List Value)} {x : Sl} {l : List (Value × Value)} {o : Obj} (h : RowsAt σ n rows x) (hm : MapAt σ b l) (p : Put σ b o σ') : RowsAt σ' n rows x := by
 obtain ⟨es, c, h0, _⟩ := hm
 obtain ⟨h1, h2 | ⟨g, of, cur, t, fz, m1, m2, m3⟩⟩ := h
 ·exact ⟨h1, .inl h2⟩
 ·exact ⟨h1, .inr ⟨g, of, cur, t, fz, m1, p.get (fun e => by rw [e, h0] at m2; cases m2) m2, m3⟩⟩
theorem s_LookLives {σ : H} (S : StP) (x1 x2 : Sl) (hS : StAt σ S x1 x2) (ya : Sl) (na : List Int) (ha : RowsAt σ 1 (na.map fun n => [Value.int .u8 n]) ya) (wa : ∀ n ∈ na, (0 : Int) <= n /\ n <= 255) (yb : Sl) (nb : List Int) (hb : RowsAt σ 1 (nb.map fun n => [Value.int .u8 n]) yb) (wb : ∀ n ∈ nb, (0 : Int) <= n /\ n <= 255)
 {K : KH} (hK : ∀ σ', Gr σ σ' -> K (.bool true) σ') : callW Tryz.prog 4 [stV x1 x2, .slice ya.base ya.len ya.cap, .slice yb.base yb.len yb.cap] K σ := by
 refine c4 _ _ _ _ ?_
 unfold g4
 refine al_i ?_; intro b5 σ1 g1 e1 n1
 refine call_i (s_lkWorks (app_B (br_f rfl ?_)))
 refine rd_G (rdA_of' e1 (by rfl)) ?_
 (refine app_of rfl ?_; try dsimp only)
 refine call_i (s_lkCut (hS.1.gr g1) (hS.2.gr g1) ?_)
 intro a1 a2 σ2 g2 hA
 unfold stV
 (refine app_of rfl ?_; try dsimp only)
 refine call_i (s_lkOurs (x1 := a1) (x2 := a2) ?_)
 unfold stV
 (refine app_of rfl ?_; try dsimp only)
 have G2 := g1.trans g2
 have ha2 := ha.gr G2
 have hb2 := hb.gr G2
 have hps8 : S.cut.paths.length <= 8 := by simp [StP.cut]; omega
 have zA := sm_cut S
 have hsz : ∀ p ∈ S.cut.paths, p.path.size <= 60 := by
  intro p hp
  obtain ⟨q, _, rfl⟩ := List.mem_map.1 hp
  have := cutB_size (n := 60) (by decide) q.path
  show (cutB 60 q.path).size <= _; omega
 generalize S.cut = A at *
 clear hS ha hb e1
 obtain ⟨hP, hRt⟩ := hA
 refine al_i ?_; intro b13 σ3 g3 e3 n3
 refine st_i2 e3 sz_lkState (by rfl) (by rfl) ?_
 intro σ4 p4
 have G24 : Gr σ2 σ4 := g3.putF p4 n3
 refine rd_G (rdA_of' p4.same (by rfl)) ?_
 (refine app_of rfl ?_; try dsimp only)
 refine al_i ?_; intro b16 σ5 g5 e5 n5
 refine st_i2 e5 sz_lkState (by rfl) (by rfl) ?_
 intro σ6 p6
 have G46 : Gr σ4 σ6 := g5.putF p6 n5
 refine rd_G (rdA_of' (G46.get p4.same) (by rfl)) ?_
 (refine app_of rfl ?_; try dsimp only)
 refine al_i ?_; intro b19 σ7 g7 e7 n7
 refine st_i2 e7 sz_lkState (by rfl) (by rfl) ?_
 intro σ8 p8
 have G68 : Gr σ6 σ8 := g7.putF p8 n7
 have n36 : b13 ≠ b16 := ne_fresh p4.same n5
 have n39 : b13 ≠ b19 := ne_fresh (G46.get p4.same) n7
 have n69 : b16 ≠ b19 := ne_fresh p6.same n7
 have f16 : σ2 b16 = none := none_of G24 n5
 have f19 : σ2 b19 = none := none_of (G24.trans G46) n7
 refine st_i2 (G68.get (G46.get p4.same)) sz_strsL (by rfl) (by rfl) ?_
 intro σ9 p9
 refine st_i2 (p9.get n36.symm (G68.get p6.same)) sz_strsL (by rfl) (by rfl) ?_
 intro σA pA
 have q13 : σA b13 = some (.cells ⟨[.slice a1.base a1.len a1.cap, .slice none 0 0]⟩ 28 (0, 0)) := pA.get n36 p9.same
 have q16 : σA b16 = some (.cells ⟨[.slice a1.base a1.len a1.cap, .slice none 0 0]⟩ 28 (0, 0)) := pA.same
 have q19 : σA b19 = some (.cells ⟨[.slice a1.base a1.len a1.cap, .slice a2.base a2.len a2.cap]⟩ 28 (0, 0)) := pA.get n69.symm (p9.get n39.symm p8.same)
 have GA : Gr σ2 σA := (((G24.trans G46).trans G68).putF p9 n3).putF pA f16
 clear p4 p6 p8 p9 pA e3 e5 e7 G24 G46 G68 g3 g5 g7 n5 n7
 have hal : ya.len = na.length := by rw [ha2.1]; simp
 have hbl : yb.len = nb.length := by rw [hb2.1]; simp
 have hPl := hP.len
 have nest : (28 : TypeId) ≠ 9 := by decide
 -- a row of numbers
 have rdn : ∀ {l : List Int} {x : Sl} {τ : H} {i : Nat}, RowsAt τ 1 (l.map fun n => [Value.int .u8 n]) x -> i < l.length -> (∀ n ∈ l, (0 : Int) <= n /\ n <= 255) -> ∃ g o n, x.base = some ⟨g, o, none⟩ /\ rdC g (o + i * 1) τ = some (.int .u8 n) /\ 0 <= n /\ n <= 255 := by
  intro l x τ i h hi hw
  obtain ⟨n, hn⟩ : ∃ n, l[i]? = some n := ⟨_, List.getElem?_eq_getElem hi⟩
  obtain ⟨g, o, h1, _, h3⟩ := h.rdA (i := i) (r := [.int .u8 n]) (by rw [List.getElem?_map, hn]; rfl) (by decide)
  exact ⟨g, o, n, h1, by simpa using h3 0 _ rfl, hw n (List.mem_of_getElem? hn)⟩
 have hmod : ∀ n : Int, 0 <= n /\ n <= 255 -> Int.tmod (IntKind.i64.wrap n) ((a1.len : Nat) : Int) = (((n.toNat % a1.len : Nat)) : Int) := by
  intro n hn
  rw [wrap_id (by omega) (by omega)]
  obtain ⟨k, rfl⟩ : ∃ k : Nat, n = k := ⟨n.toNat, by omega⟩
  rw [Int.toNat_natCast]; rfl
 refine loop_i ?_
 intro R hR
 have step : ∀ (i : Nat) (ra : List ByteArray) (y : Sl) (τ : H), i <= 4 -> ra.length = i -> (∀ s ∈ ra, s.size <= 60) -> RNew σ2 τ 9 1 (strRows ra) y -> τ b13 = some (.cells ⟨[.slice a1.base a1.len a1.cap, .slice y.base y.len y.cap]⟩ 28 (0, 0)) -> τ b16 = some (.cells ⟨[.slice a1.base a1.len a1.cap, .slice none 0 0]⟩ 28 (0, 0)) -> τ b19 = some (.cells ⟨[.slice a1.base a1.len a1.cap, .slice a2.base a2.len a2.cap]⟩ 28 (0, 0)) ->
  (i < 4 -> ∀ ra' y' τ', ra'.length = i + 1 -> (∀ s ∈ ra', s.size <= 60) -> RNew σ2 τ' 9 1 (strRows ra') y' -> τ' b13 = some (.cells ⟨[.slice a1.base a1.len a1.cap, .slice y'.base y'.len y'.cap]⟩ 28 (0, 0)) -> τ' b16 = some (.cells ⟨[.slice a1.base a1.len a1.cap, .slice none 0 0]⟩ 28 (0, 0)) -> τ' b19 = some (.cells ⟨[.slice a1.base a1.len a1.cap, .slice a2.base a2.len a2.cap]⟩ 28 (0, 0)) -> R ya yb (some ⟨b13, 0, none⟩) (some ⟨b16, 0, none⟩) (some ⟨b19, 0, none⟩) ((i + 1 : Nat) : Int) τ') ->
  R ya yb (some ⟨b13, 0, none⟩) (some ⟨b16, 0, none⟩) (some ⟨b19, 0, none⟩) (i : Int) τ := by
  intro i ra y τ h4 hra hsa hy c13 c16 c19 hnext
  refine hR _ _ _ _ _ _ _ (j_i (fun j => ∀ b : Bool, (b = true -> i < na.length /\ i < 4 /\ 0 < a1.len) -> j ya yb (some ⟨b13, 0, none⟩) (some ⟨b16, 0, none⟩) (some ⟨b19, 0, none⟩) (i : Int) b τ) ?_ ?_)
  rotate_left
  ·intro j hj
   refine br_i (fun h1 => ?_) (fun h1 => hj _ fun h => by cases h)
   refine br_i (fun h2 => ?_) (fun h2 => hj _ fun h => by cases h)
   refine ptr_i (rd_L (rdC_of c13 (by rfl)) (hj _ fun h => ?_))
   have h1 := of_decide_eq_true h1
   have h2 := of_decide_eq_true h2
   have h3 : ((a1.len : Nat) : Int) > 0 := of_decide_eq_true h
   rw [hal] at h1
   exact ⟨by omega, by omega, by omega⟩
  intro b hbt
  refine br_i (fun ht => ?_) (fun _ => ?_)
  ·obtain ⟨h1, h2, h3⟩ := hbt ht
   obtain ⟨g, o, n, q1, q2, q3⟩ := rdn (ha2.gr hy.1) h1 wa
   refine ptr_i (rd_L (rdC_of c13 (by rfl)) (ptr_i (rd_L (rdC_of c13 (by rfl)) ?_)))
   rw [q1]
   refine ptr_i (if_i ⟨by omega, by rw [hal]; omega⟩ (rd_I (by rw [Int.toNat_natCast]; exact q2) ?_))
   refine ptr_i (rd_L (rdC_of c13 (by rfl)) (if_i (by show ((a1.len : Nat) : Int) ≠ 0; omega) ?_))
   rw [hmod n q3]
   have hlt : n.toNat % a1.len < A.paths.length := by rw [<- hPl]; exact Nat.mod_lt _ h3
   generalize n.toNat % a1.len = ix at *
   obtain ⟨p, hp⟩ : ∃ p, A.paths[ix]? = some p := ⟨_, List.getElem?_eq_getElem hlt⟩
   obtain ⟨g', o', yr, v1, v2, v3, _⟩ := (hP.gr hy.1).get hp
   have v4 : rdC g' (o' + ix * 4) τ = some (.string p.path) := by
    have := (hP.gr hy.1)
    obtain ⟨rows, hr1, hr2⟩ := this
    obtain ⟨yq, hq1, _⟩ := hr2.get hp
    obtain ⟨g2, o2, w1, _, w3⟩ := hr1.rdA hq1 (by decide)
    rw [v1] at w1; cases w1
    exact w3 0 _ rfl
   rw [v1]
   refine ptr_i (if_i ⟨by omega, by rw [hPl]; omega⟩ (rd_S (by rw [Int.toNat_natCast]; exact v4) ?_))
   refine RNew.app1 el_strsL hy (r := [.string p.path]) rfl rfl (by rw [strRows_len]; omega) ?_
   intro y2 τ2 hy2 hk _
   have w13 := hk _ _ c13 (rown_ne hy.2.1 c13 nest)
   have w16 := hk _ _ c16 (rown_ne hy.2.1 c16 nest)
   have w19 := hk _ _ c19 (rown_ne hy.2.1 c19 nest)
   refine ptr_i (st_i2 w13 sz_strsL (by rfl) (by rfl) ?_)
   intro τ3 p3
   rw [wrap_id (x := (i : Int) + 1) (by omega) (by omega), show (i : Int) + 1 = ((i + 1 : Nat) : Int) from by omega]
   refine hnext h2 (ra ++ [p.path]) y2 τ3 (by simp [hra]) (fun s hs => ?_) ?_ p3.same (p3.get n36.symm w16) (p3.get n39.symm w19)
   ·rcases List.mem_append.1 hs with hs | hs
    ·exact hsa s hs
    ·simp at hs; subst hs; exact hsz p (List.mem_of_getElem? hp)
   ·have e : strRows (ra ++ [p.path]) = strRows ra ++ [[.string p.path]] := by simp [strRows]
    rw [e]; exact hy2.putF p3 n3 (rown_ne hy2.2.1 w13 nest)
  -- the second list
  obtain ⟨ρ, hρ⟩ : ∃ ρ : H, ∀ c, ρ c = if c = b16 \/ c = b19 then none else τ c := ⟨_, fun _ => rfl⟩
  have toρ : ∀ {c : Nat} {o : Obj}, τ c = some o -> c ≠ b16 -> c ≠ b19 -> ρ c = some o := fun h h1 h2 => by rw [hρ, if_neg (by rintro (h | h); exact h1 h; exact h2 h)]; exact h
  have r16 : ρ b16 = none := by rw [hρ, if_pos (.inl rfl)]
  have r19 : ρ b19 = none := by rw [hρ, if_pos (.inr rfl)]
  have gρτ : Gr ρ τ := gr_of fun c o hc => by
   rw [hρ] at hc
   split at hc
   ·cases hc
   ·exact hc
  have gσρ : Gr σ2 ρ := gr_of fun c o hc => toρ (hy.1.get hc) (ne_fresh hc f16) (ne_fresh hc f19)
  have r13 : ρ b13 = some (.cells ⟨[.slice a1.base a1.len a1.cap, .slice y.base y.len y.cap]⟩ 28 (0, 0)) := toρ c13 n36 n39
  have ry : RowsAt ρ 1 (strRows ra) y := RowsOwn.rows (hy.2.1.keep fun g o hgz ho => toρ ho (fun e => rown_ne hy.2.1 c16 nest (by rw [hgz, e])) (fun e => rown_ne hy.2.1 c19 nest (by rw [hgz, e])))
  clear toρ hρ
  refine loop_i ?_
  intro R2 hR2
  have step2 : ∀ (k : Nat) (rb : List ByteArray) (z : Sl) (τ' : H), k <= 4 -> rb.length = k -> (∀ s ∈ rb, s.size <= 60) -> RNew ρ τ' 9 1 (strRows rb) z -> τ' b16 = some (.cells ⟨[.slice a1.base a1.len a1.cap, .slice z.base z.len z.cap]⟩ 28 (0, 0)) -> τ' b19 = some (.cells ⟨[.slice a1.base a1.len a1.cap, .slice a2.base a2.len a2.cap]⟩ 28 (0, 0)) ->
   (k < 4 -> ∀ rb' z' τ'', rb'.length = k + 1 -> (∀ s ∈ rb', s.size <= 60) -> RNew ρ τ'' 9 1 (strRows rb') z' -> τ'' b16 = some (.cells ⟨[.slice a1.base a1.len a1.cap, .slice z'.base z'.len z'.cap]⟩ 28 (0, 0)) -> τ'' b19 = some (.cells ⟨[.slice a1.base a1.len a1.cap, .slice a2.base a2.len a2.cap]⟩ 28 (0, 0)) -> R2 yb (some ⟨b13, 0, none⟩) (some ⟨b16, 0, none⟩) (some ⟨b19, 0, none⟩) ((k + 1 : Nat) : Int) τ'') ->
   R2 yb (some ⟨b13, 0, none⟩) (some ⟨b16, 0, none⟩) (some ⟨b19, 0, none⟩) (k : Int) τ' := by
   intro k rb z τ' hk4 hrb hsb hz c16 c19 hnext
   have hg' : Gr σ2 τ' := gσρ.trans hz.1
   refine hR2 _ _ _ _ _ _ (j_i (fun j => ∀ b : Bool, (b = true -> k < nb.length /\ k < 4 /\ 0 < a1.len) -> j yb (some ⟨b13, 0, none⟩) (some ⟨b16, 0, none⟩) (some ⟨b19, 0, none⟩) (k : Int) b τ') ?_ ?_)
   rotate_left
   ·intro j hj
    refine br_i (fun h1 => ?_) (fun h1 => hj _ fun h => by cases h)
    refine br_i (fun h2 => ?_) (fun h2 => hj _ fun h => by cases h)
    refine ptr_i (rd_L (rdC_of c16 (by rfl)) (hj _ fun h => ?_))
    have h1 := of_decide_eq_true h1
    have h2 := of_decide_eq_true h2
    have h3 : ((a1.len : Nat) : Int) > 0 := of_decide_eq_true h
    rw [hbl] at h1
    exact ⟨by omega, by omega, by omega⟩
   intro b hbt
   refine br_i (fun ht => ?_) (fun _ => ?_)
   ·obtain ⟨h1, h2, h3⟩ := hbt ht
    obtain ⟨g, o, n, q1, q2, q3⟩ := rdn (hb2.gr hg') h1 wb
    refine ptr_i (rd_L (rdC_of c16 (by rfl)) (ptr_i (rd_L (rdC_of c16 (by rfl)) ?_)))
    rw [q1]
    refine ptr_i (if_i ⟨by omega, by rw [hbl]; omega⟩ (rd_I (by rw [Int.toNat_natCast]; exact q2) ?_))
    refine ptr_i (rd_L (rdC_of c16 (by rfl)) (if_i (by show ((a1.len : Nat) : Int) ≠ 0; omega) ?_))
    rw [hmod n q3]
    have hlt : n.toNat % a1.len < A.paths.length := by rw [<- hPl]; exact Nat.mod_lt _ h3
    generalize n.toNat % a1.len = ix at *
    obtain ⟨p, hp⟩ : ∃ p, A.paths[ix]? = some p := ⟨_, List.getElem?_eq_getElem hlt⟩
    obtain ⟨g', o', yr, v1, v2, v3, _⟩ := (hP.gr hg').get hp
    have v4 : rdC g' (o' + ix * 4) τ' = some (.string p.path) := by
     have := (hP.gr hg')
     obtain ⟨rows, hr1, hr2⟩ := this
     obtain ⟨yq, hq1, _⟩ := hr2.get hp
     obtain ⟨g2, o2, w1, _, w3⟩ := hr1.rdA hq1 (by decide)
     rw [v1] at w1; cases w1
     exact w3 0 _ rfl
    rw [v1]
    refine ptr_i (if_i ⟨by omega, by rw [hPl]; omega⟩ (rd_S (by rw [Int.toNat_natCast]; exact v4) ?_))
    refine RNew.app1 el_strsL hz (r := [.string p.path]) rfl rfl (by rw [strRows_len]; omega) ?_
    intro z2 τ2 hz2 hk hfr
    have w16 := hk _ _ c16 (rown_ne hz.2.1 c16 nest)
    have w19 := hk _ _ c19 (rown_ne hz.2.1 c19 nest)
    refine ptr_i (st_i2 w16 sz_strsL (by rfl) (by rfl) ?_)
    intro τ3 p3
    rw [wrap_id (x := (k : Int) + 1) (by omega) (by omega), show (k : Int) + 1 = ((k + 1 : Nat) : Int) from by omega]
    refine hnext h2 (rb ++ [p.path]) z2 τ3 (by simp [hrb]) (fun s hs => ?_) ?_ p3.same (p3.get n69.symm w19)
    ·rcases List.mem_append.1 hs with hs | hs
     ·exact hsb s hs
     ·simp at hs; subst hs; exact hsz p (List.mem_of_getElem? hp)
    ·have e : strRows (rb ++ [p.path]) = strRows rb ++ [[.string p.path]] := by simp [strRows]
     rw [e]; exact hz2.putF p3 r16 (rown_ne hz2.2.1 w16 nest)
   -- what is live
   refine ptr_i (rd_L (rdC_of (hz.1.get r13) (by rfl)) (ptr_i (rd_L (rdC_of c16 (by rfl)) ?_)))
   refine al_i ?_; intro b92 τ1 k1 w1 v1
   refine RNew.apps el_strsL (rnew0 (σ0 := τ') k1 v1 w1) ((ry.gr hz.1).gr k1) (strRows_one' _) (by rw [strRows_len]; simp; omega) ?_
   intro u1 τ2 hu1 _ _
   refine and_i (rdC_of (hu1.1.get c16) (by rfl)) ?_
   refine RNew.apps el_strsL hu1 (hz.at.gr hu1.1) (strRows_one' _) (by simp [strRows_len]; omega) ?_
   intro u2 τ3 hu2 _ _
   simp only [List.nil_append] at hu2
   refine ptr_i (st_i2 (hu2.1.get c19) sz_strsL (by rfl) (by rfl) ?_)
   intro τ4 p4
   have e12 : strRows (ra ++ rb) = strRows ra ++ strRows rb := by simp [strRows]
   have ru : RowsAt τ4 1 (strRows (ra ++ rb)) u2 := by rw [e12]; exact (hu2.2.1.put p4 (rown_ne hu2.2.1 (hu2.1.get c19) nest)).rows
   have rz : RowsAt τ4 1 (strRows rb) z := ((hz.2.1.gr hu2.1).put p4 (rown_ne (hz.2.1.gr hu2.1) (hu2.1.get c19) nest)).rows
   have gρ4 : Gr ρ τ4 := (hz.1.trans hu2.1).putF p4 r19
   have d13 := gρ4.get r13
   have d16 := p4.get n69 (hu2.1.get c16)
   have d19 := p4.same
   have rya := ry.gr gρ4
   have hPa := hP.gr (gσρ.trans gρ4)
   have gG : Gr σ τ4 := G2.trans (gσρ.trans gρ4)
   clear p4 hu2 hu1 w1 v1 k1 c19 c16 hnext hz hbt
   refine al_i ?_; intro b97 τ5 k5 w5 v5
   refine ptr_i (rd_G (rdA_of' (k5.get d13) (by rfl)) ?_)
   (refine app_of rfl ?_; try dsimp only)
   refine ptr_i (rd_G (rdA_of' (k5.get d16) (by rfl)) ?_)
   (refine app_of rfl ?_; try dsimp only)
   refine ptr_i (rd_G (rdA_of' (k5.get d19) (by rfl)) ?_)
   (refine app_of rfl ?_; try dsimp only)
   have sm : ∀ l : List ByteArray, l.length <= 8 -> (∀ s ∈ l, s.size <= 60) -> Sm ⟨A.paths, l⟩ := fun l h1 h2 => ⟨zA.np, by show l.length <= _; omega, fun s hs => by have := h2 s hs; omega, zA.pa⟩
   have hsab : ∀ s ∈ ra ++ rb, s.size <= 60 := fun s hs => (List.mem_append.1 hs).elim (hsa s) (hsb s)
   refine call_i (s_lkLive (S := ⟨A.paths, ra⟩) (hPa.gr k5) (rya.gr k5) (sm ra (by omega) hsa) ?_)
   intro l1 τ6 hl1
   refine app_L (and_i (rdA_of' (hl1.1.get (k5.get d19)) (by rfl)) (and_i (rdA_of' (hl1.1.get (k5.get d16)) (by rfl)) ?_))
   have k6 := k5.trans hl1.1
   refine call_i (s_lkLive (S := ⟨A.paths, rb⟩) (hPa.gr k6) (rz.gr k6) (sm rb (by omega) hsb) ?_)
   intro l2 τ7 hl2
   have k7 := k6.trans hl2.1
   refine app_L (and_i (rdA_of' (k7.get d19) (by rfl)) ?_)
   refine call_i (s_lkLive (S := ⟨A.paths, ra ++ rb⟩) (hPa.gr k7) (ru.gr k7) (sm (ra ++ rb) (by simp; omega) hsab) ?_)
   intro l3 τ8 hl3
   refine app_L ?_
   -- counted
   obtain ⟨o1, o2, _⟩ := reach_ok ⟨A.paths, ra⟩
   obtain ⟨o3, o4, _⟩ := reach_ok ⟨A.paths, rb⟩
   obtain ⟨o5, o6, o7⟩ := reach_ok ⟨A.paths, ra ++ rb⟩
   have hm1 := mem_reach ⟨A.paths, ra⟩
   have hm2 := mem_reach ⟨A.paths, rb⟩
   have hm3 := mem_reach ⟨A.paths, ra ++ rb⟩
   have hun : ∀ s, s ∈ (StP.mk A.paths (ra ++ rb)).reach ↔ s ∈ (StP.mk A.paths ra).reach \/ s ∈ (StP.mk A.paths rb).reach := by
    intro s
    rw [hm1, hm2, hm3]
    have conv : ∀ (R1 R2 Q : List ByteArray), Rch ⟨A.paths, R1⟩ Q s ↔ Rch ⟨A.paths, R2⟩ Q s := by
     have one : ∀ (R1 R2 Q : List ByteArray) (t : ByteArray), Rch ⟨A.paths, R1⟩ Q t -> Rch ⟨A.paths, R2⟩ Q t := by
      intro R1 R2 Q t h
      induction h with
      | root r h hi => exact .root r h hi
      | step s p r h hp e hr hi ih => exact .step s p r ih hp e hr hi
     exact fun R1 R2 Q => ⟨one R1 R2 Q s, one R2 R1 Q s⟩
    show Rch _ (ra ++ rb) s ↔ Rch _ ra s \/ Rch _ rb s
    rw [rch_append, conv (ra ++ rb) ra ra, conv (ra ++ rb) rb rb]
   have hlen8 : (StP.mk A.paths (ra ++ rb)).reach.length <= 8 := by have : (StP.mk A.paths (ra ++ rb)).paths.length = A.paths.length := rfl; omega
   have hlen1 : (StP.mk A.paths ra).reach.length <= 8 := by have := (reach_ok ⟨A.paths, ra⟩).2.2; have : (StP.mk A.paths ra).paths.length = A.paths.length := rfl; omega
   have hlen2 : (StP.mk A.paths rb).reach.length <= 8 := by have := (reach_ok ⟨A.paths, rb⟩).2.2; have : (StP.mk A.paths rb).paths.length = A.paths.length := rfl; omega
   have P1 := sortK_perm (StP.mk A.paths ra).reach
   have P2 := sortK_perm (StP.mk A.paths rb).reach
   have P3 := sortK_perm (StP.mk A.paths (ra ++ rb)).reach
   have T3 := sortK_lt o6
   have N3 : (sortK (StP.mk A.paths (ra ++ rb)).reach).Nodup := P3.nodup_iff.2 o6
   have hun' : ∀ s, s ∈ sortK (StP.mk A.paths (ra ++ rb)).reach ↔ s ∈ sortK (StP.mk A.paths ra).reach \/ s ∈ sortK (StP.mk A.paths rb).reach := fun s => by rw [P1.mem_iff, P2.mem_iff, P3.mem_iff]; exact hun s
   rw [<- P1.length_eq] at hlen1
   rw [<- P2.length_eq] at hlen2
   rw [<- P3.length_eq] at hlen8
   have m8 : MapAt τ8 b97 (encL kkS valI (ent [])) := (MapAt.new w5).gr ((hl1.1.trans hl2.1).trans hl3.1)
   have y1 : RowsAt τ8 1 (strRows (sortK (StP.mk A.paths ra).reach)) l1 := hl1.at.gr (hl2.1.trans hl3.1)
   have y2 : RowsAt τ8 1 (strRows (sortK (StP.mk A.paths rb).reach)) l2 := hl2.at.gr hl3.1
   have y3 : RowsAt τ8 1 (strRows (sortK (StP.mk A.paths (ra ++ rb)).reach)) l3 := hl3.at
   have g8 : Gr σ τ8 := gG.trans (k7.trans hl3.1)
   have v8 : τ4 b97 = none := v5
   have gbase : Gr τ4 τ8 := k7.trans hl3.1
   generalize sortK (StP.mk A.paths ra).reach = L1 at *
   generalize sortK (StP.mk A.paths rb).reach = L2 at *
   generalize sortK (StP.mk A.paths (ra ++ rb)).reach = L3 at *
   have ln1 := sLen y1
   have ln2 := sLen y2
   have ln3 := sLen y3
   clear hl1 hl2 hl3 k6 k7 k5
   refine loop_i ?_
   intro RA hRA
   have keyA : ∀ (r : List ByteArray) (i : Nat) (M : List ByteArray) (τ9 : H), L1.drop i = r -> Gr τ4 τ9 -> RowsAt τ9 1 (strRows L1) l1 -> RowsAt τ9 1 (strRows L2) l2 -> RowsAt τ9 1 (strRows L3) l3 -> MapAt τ9 b97 (encL kkS valI (ent M)) -> L1.foldl addU [] = r.foldl addU M -> RA (some b97) l1 l2 l3 (i : Int) τ9 := by
    intro r
    induction r with
    | cons s r ih =>
     intro i M τ9 hd hg z1 z2 z3 hm he
     obtain ⟨t1, t2, t3⟩ := get_drop hd
     obtain ⟨g', o', v1, v2, v3⟩ := sRow z1 t1
     refine hRA _ _ _ _ _ _ (br_t (by rw [ln1]; simp only [decide_eq_true_eq]; omega) ?_)
     rw [v1]
     refine ptr_i (if_i ⟨by omega, by show _ < ((l1.len : Nat) : Int); omega⟩ (rd_S (by rw [Int.toNat_natCast]; exact v3) ?_))
     refine mu_i (kk := kkS) (f := valI) und_MSIL und_strL hm s 1 ?_
     intro oA τA pA mA
     rw [addU_up] at mA
     rw [wrap_id (x := (i : Int) + 1) (by omega) (by omega), show (i : Int) + 1 = ((i + 1 : Nat) : Int) from by omega]
     exact ih (i + 1) (addU M s) τA t3 (hg.putF pA v8) (ra_mapPut z1 hm pA) (ra_mapPut z2 hm pA) (ra_mapPut z3 hm pA) mA (by rw [he]; rfl)
    | nil =>
     intro i M τ9 hd hg z1 z2 z3 hm he
     have h5 : L1.length <= i := by simpa using hd
     refine hRA _ _ _ _ _ _ (br_f (by rw [ln1]; simp only [decide_eq_false_iff_not]; omega) ?_)
     have hM : L1.foldl addU [] = M := he
     clear hd he z1 h5
     refine loop_i ?_
     intro RB hRB
     have keyB : ∀ (r : List ByteArray) (i : Nat) (N : List ByteArray) (τ9 : H), L2.drop i = r -> Gr τ4 τ9 -> RowsAt τ9 1 (strRows L2) l2 -> RowsAt τ9 1 (strRows L3) l3 -> MapAt τ9 b97 (encL kkS valI (ent N)) -> L2.foldl addU M = r.foldl addU N -> RB (some b97) l2 l3 (i : Int) τ9 := by
      intro r
      induction r with
      | cons s r ih =>
       intro i N τ9 hd hg z2 z3 hm he
       obtain ⟨t1, t2, t3⟩ := get_drop hd
       obtain ⟨g', o', v1, v2, v3⟩ := sRow z2 t1
       refine hRB _ _ _ _ _ (br_t (by rw [ln2]; simp only [decide_eq_true_eq]; omega) ?_)
       rw [v1]
       refine ptr_i (if_i ⟨by omega, by show _ < ((l2.len : Nat) : Int); omega⟩ (rd_S (by rw [Int.toNat_natCast]; exact v3) ?_))
       refine mu_i (kk := kkS) (f := valI) und_MSIL und_strL hm s 1 ?_
       intro oA τA pA mA
       rw [addU_up] at mA
       rw [wrap_id (x := (i : Int) + 1) (by omega) (by omega), show (i : Int) + 1 = ((i + 1 : Nat) : Int) from by omega]
       exact ih (i + 1) (addU N s) τA t3 (hg.putF pA v8) (ra_mapPut z2 hm pA) (ra_mapPut z3 hm pA) mA (by rw [he]; rfl)
      | nil =>
       intro i N τ9 hd hg z2 z3 hm he
       have h5 : L2.length <= i := by simpa using hd
       refine hRB _ _ _ _ _ (br_f (by rw [ln2]; simp only [decide_eq_false_iff_not]; omega) ?_)
       have hN : L2.foldl addU M = N := he
       obtain ⟨a1', a2'⟩ := addU_all L1 [] List.nodup_nil
       rw [hM] at a1' a2'
       obtain ⟨b1', b2'⟩ := addU_all L2 M a1'
       rw [hN] at b1' b2'
       have hmem : ∀ s, s ∈ L3 ↔ s ∈ N := fun s => by rw [hun' s, b2' s, a2' s]; simp
       have hlen : L3.length = N.length := nodup_len N3 b1' hmem
       have hle : (encL kkS valI (ent N)).length = N.length := by simp [encL, ent]
       refine rd_I (rdLen_at hm) ?_
       rw [hle]
       refine br_f (by rw [ln3, hlen]; simp) ?_
       refine loop_i ?_
       intro RC hRC
       have keyC : ∀ (r : List ByteArray) (i : Nat), L3.drop i = r -> RC (some b97) l3 (i : Int) τ9 := by
        intro r
        induction r with
        | nil =>
         intro i hd
         have h5 : L3.length <= i := by simpa using hd
         exact hRC _ _ _ _ (br_f (by rw [ln3]; simp only [decide_eq_false_iff_not]; omega) (hK τ9 (gG.trans hg)))
        | cons s r ih =>
         intro i hd
         obtain ⟨t1, t2, t3⟩ := get_drop hd
         obtain ⟨g', o', v1, v2, v3⟩ := sRow z3 t1
         refine hRC _ _ _ _ (br_t (by rw [ln3]; simp only [decide_eq_true_eq]; omega) ?_)
         refine j_i (fun j => j (some b97) l3 (i : Int) false τ9) ?_ ?_
         ·refine br_f rfl ?_
          rw [wrap_id (x := (i : Int) + 1) (by omega) (by omega), show (i : Int) + 1 = ((i + 1 : Nat) : Int) from by omega]
          exact ih (i + 1) t3
         intro j hj
         rw [v1]
         refine ptr_i (if_i ⟨by omega, by show _ < ((l3.len : Nat) : Int); omega⟩ (rd_S (by rw [Int.toNat_natCast]; exact v3) ?_))
         refine rd_G (rdM_at (kk := kkS) (f := valI) hm _ false s) ?_
         have hc : N.contains s = true := by simpa using (hmem s).1 (List.mem_of_getElem? t1)
         rw [lk_ent, hc]
         refine app_I (br_f rfl ?_)
         refine br_i (fun hi => ?_) (fun _ => hj)
         have hi := of_decide_eq_true hi
         obtain ⟨k0, rfl⟩ : ∃ k0, i = k0 + 1 := ⟨i - 1, by omega⟩
         obtain ⟨s0, hs0⟩ : ∃ s0, L3[k0]? = some s0 := ⟨_, List.getElem?_eq_getElem (by omega)⟩
         obtain ⟨g0, o0, u1', u2', u3'⟩ := sRow z3 hs0
         rw [v1] at u1'; injection u1' with u1'; injection u1' with ea eb; subst ea; subst eb
         have hw : IntKind.i64.wrap (((k0 + 1 : Nat) : Int) - 1) = (k0 : Int) := by rw [wrap_id (by omega) (by omega)]; omega
         rw [hw]
         refine ptr_i (if_i ⟨by omega, by show _ < ((l3.len : Nat) : Int); omega⟩ (rd_S (by rw [Int.toNat_natCast]; exact u3') ?_))
         refine ptr_i (if_i ⟨by omega, by show _ < ((l3.len : Nat) : Int); omega⟩ (rd_S (by rw [Int.toNat_natCast]; exact v3) ?_))
         rw [get_last T3 hs0 t1]
         exact hj
       exact keyC L3 0 rfl
     exact keyB L2 0 M τ9 rfl hg z2 z3 hm rfl
   exact keyA L1 0 [] τ8 rfl gbase y1 y2 y3 m8 rfl
  have key2 : ∀ (c k : Nat) (rb : List ByteArray) (z : Sl) (τ' : H), k + c = 4 -> rb.length = k -> (∀ s ∈ rb, s.size <= 60) -> RNew ρ τ' 9 1 (strRows rb) z -> τ' b16 = some (.cells ⟨[.slice a1.base a1.len a1.cap, .slice z.base z.len z.cap]⟩ 28 (0, 0)) -> τ' b19 = some (.cells ⟨[.slice a1.base a1.len a1.cap, .slice a2.base a2.len a2.cap]⟩ 28 (0, 0)) ->
   R2 yb (some ⟨b13, 0, none⟩) (some ⟨b16, 0, none⟩) (some ⟨b19, 0, none⟩) (k : Int) τ' := by
   intro c
   induction c with
   | zero => intro k rb z τ' hc h1 h2 h3 h4 h5; exact step2 k rb z τ' (by omega) h1 h2 h3 h4 h5 fun h => by omega
   | succ c ih => intro k rb z τ' hc h1 h2 h3 h4 h5; exact step2 k rb z τ' (by omega) h1 h2 h3 h4 h5 fun _ rb' z' τ'' q1 q2 q3 q4 q5 => ih (k + 1) rb' z' τ'' (by omega) q1 q2 q3 q4 q5
  exact key2 4 0 [] ⟨none, 0, 0⟩ τ rfl rfl (fun s hs => by cases hs) (RNew.nil' gρτ _ _) c16 c19
 have key : ∀ (c i : Nat) (ra : List ByteArray) (y : Sl) (τ : H), i + c = 4 -> ra.length = i -> (∀ s ∈ ra, s.size <= 60) -> RNew σ2 τ 9 1 (strRows ra) y -> τ b13 = some (.cells ⟨[.slice a1.base a1.len a1.cap, .slice y.base y.len y.cap]⟩ 28 (0, 0)) -> τ b16 = some (.cells ⟨[.slice a1.base a1.len a1.cap, .slice none 0 0]⟩ 28 (0, 0)) -> τ b19 = some (.cells ⟨[.slice a1.base a1.len a1.cap, .slice a2.base a2.len a2.cap]⟩ 28 (0, 0)) ->
  R ya yb (some ⟨b13, 0, none⟩) (some ⟨b16, 0, none⟩) (some ⟨b19, 0, none⟩) (i : Int) τ := by
  intro c
  induction c with
  | zero => intro i ra y τ hc h1 h2 h3 h4 h5 h6; exact step i ra y τ (by omega) h1 h2 h3 h4 h5 h6 fun h => by omega
  | succ c ih => intro i ra y τ hc h1 h2 h3 h4 h5 h6; exact step i ra y τ (by omega) h1 h2 h3 h4 h5 h6 fun _ ra' y' τ' k1 k2 k3 k4 k5 k6 => ih (i + 1) ra' y' τ' (by omega) k1 k2 k3 k4 k5 k6
 exact key 4 0 [] ⟨none, 0, 0⟩ σA rfl rfl (fun s hs => by cases hs) (RNew.nil' GA _ _) q13 q16 q19
end Go.Proofs.YtgfiobhpipollaaGreatDoor

set_option maxRecDepth 100000
namespace Go.Proofs.YtgfiobhpipollaaGreatDoor
open Go Go.HL Go.Wk Go.ChangeShapes Go.WideShapes Go.ChangeAt Go.RowKit
namespace st30
theorem cu_string : Tryz.prog.cellsOf 9 = 1 := by kernel_rfl
theorem cu_strs : Tryz.prog.cellsOf 23 = 1 := by kernel_rfl
theorem cu_paths : Tryz.prog.cellsOf 22 = 1 := by kernel_rfl
theorem strs_of {D : Type} {enc : TypeId × Value -> D} {W : World} {m n : Nat} : ∀ {rows : List (List Value)}, (∀ r ∈ rows, m < n /\ ∃ d ps, DataW.trod enc Tryz.prog W 0 (fun _ => true) true m 9 r = some (d, ps)) -> ∃ l : List ByteArray, rows = strRows l := by
 intro rows
 induction rows with
 | nil => exact fun _ => ⟨[], rfl⟩
 | cons r rs ih =>
  intro hall
  obtain ⟨l, ha⟩ := ih fun r hr => hall r (List.mem_cons_of_mem _ hr)
  obtain ⟨_, d, ps, hd⟩ := hall r (List.mem_cons_self ..)
  obtain ⟨s, q, _⟩ := DataW.trod_string Tryz.underlying9 hd
  exact ⟨s :: l, by rw [ha, q]; rfl⟩
theorem path_of {D : Type} {enc : TypeId × Value -> D} {W : World} {m : Nat} {r : List Value} {x : DataW D × List MemPlace} (h : DataW.trod enc Tryz.prog W 0 (fun _ => true) true m 38 r = some x) : ∃ (p : PathP) (y : Sl), r = pRow p y /\ RowsAt (whole W) 1 (strRows p.refs) y := by
 obtain ⟨xs, n, hfu, _, hl, hlen, hf⟩ := DataW.trod_struct Tryz.underlying38 h
 have hl : r.length = 4 := hl.trans (by kernel_rfl)
 have hlen : xs.length = 4 := hlen
 obtain ⟨a0, a1, a2, a3, rfl⟩ : ∃ a0 a1 a2 a3, r = [a0, a1, a2, a3] := by
  match r, hl with
  | [a0, a1, a2, a3], _ => exact ⟨_, _, _, _, rfl⟩
 have g : ∀ i, i < 4 -> ∃ y, xs[i]? = some y := fun i hi => ⟨_, List.getElem?_eq_getElem (by omega)⟩
 have h0 := hf 0 _ rfl
 obtain ⟨y0, e0⟩ := g 0 (by decide)
 rw [e0] at h0
 obtain ⟨s0, q0, _⟩ := DataW.trod_string Tryz.underlying9 h0
 have h1 := hf 1 _ rfl
 obtain ⟨y1, e1⟩ := g 1 (by decide)
 rw [e1] at h1
 have h2 := hf 2 _ rfl
 obtain ⟨y2, e2⟩ := g 2 (by decide)
 rw [e2] at h2
 obtain ⟨s2, q2, _⟩ := DataW.trod_string Tryz.underlying9 h2
 have h3 := hf 3 _ rfl
 obtain ⟨y3, e3⟩ := g 3 (by decide)
 rw [e3] at h3
 obtain ⟨s3, q3, _⟩ := DataW.trod_string Tryz.underlying9 h3
 have q0 : List.take (Tryz.prog.cellsOf 9) (List.drop 0 [a0, a1, a2, a3]) = [.string s0] := q0
 have q2 : List.take (Tryz.prog.cellsOf 9) (List.drop 2 [a0, a1, a2, a3]) = [.string s2] := q2
 have q3 : List.take (Tryz.prog.cellsOf 9) (List.drop 3 [a0, a1, a2, a3]) = [.string s3] := q3
 have h1 : DataW.trod enc Tryz.prog W 0 (fun _ => true) true n 23 (List.take (Tryz.prog.cellsOf 23) (List.drop 1 [a0, a1, a2, a3])) = some y1 := h1
 rw [cu_string] at q0 q2 q3
 rw [cu_strs] at h1
 simp only [List.drop_succ_cons, List.drop_zero, List.take_succ_cons, List.take_zero, List.cons.injEq, and_true] at q0 q2 q3 h1
 obtain ⟨y, rows, hy, hrows, _, k, hall⟩ := rows_of Tryz.underlying23 (show Tryz.prog.cellsOf 9 = 1 by kernel_rfl) (by decide) h1
 obtain ⟨l, rfl⟩ := strs_of hall
 exact ⟨⟨s0, l, s2, s3⟩, y, by rw [q0, q2, q3, hy]; rfl, hrows⟩
theorem paths_of {D : Type} {enc : TypeId × Value -> D} {W : World} {m n : Nat} : ∀ {rows : List (List Value)}, (∀ r ∈ rows, m < n /\ ∃ d ps, DataW.trod enc Tryz.prog W 0 (fun _ => true) true m 38 r = some (d, ps)) -> ∃ l : List PathP, PsRows (whole W) l rows := by
 intro rows
 induction rows with
 | nil => exact fun _ => ⟨[], trivial⟩
 | cons r rs ih =>
  intro hall
  obtain ⟨l, ha⟩ := ih fun r hr => hall r (List.mem_cons_of_mem _ hr)
  obtain ⟨_, d, ps, hd⟩ := hall r (List.mem_cons_self ..)
  obtain ⟨p, y, hp, hy⟩ := path_of hd
  exact ⟨p :: l, ⟨y, hp, hy⟩, ha⟩
theorem state_of {D : Type} {enc : TypeId × Value -> D} {W : World} {m : Nat} {r : List Value} {x : DataW D × List MemPlace} (h : DataW.trod enc Tryz.prog W 0 (fun _ => true) true m 25 r = some x) : ∃ (S : StP) (y1 y2 : Sl), r = [.slice y1.base y1.len y1.cap, .slice y2.base y2.len y2.cap] /\ StAt (whole W) S y1 y2 := by
 obtain ⟨xs, n, hfu, _, hl, hlen, hf⟩ := DataW.trod_struct Tryz.underlying25 h
 have hl : r.length = 2 := hl.trans (by kernel_rfl)
 have hlen : xs.length = 2 := hlen
 obtain ⟨a0, a1, rfl⟩ : ∃ a0 a1, r = [a0, a1] := by
  match r, hl with
  | [a0, a1], _ => exact ⟨_, _, rfl⟩
 have g : ∀ i, i < 2 -> ∃ y, xs[i]? = some y := fun i hi => ⟨_, List.getElem?_eq_getElem (by omega)⟩
 have h0 := hf 0 _ rfl
 obtain ⟨y0, e0⟩ := g 0 (by decide)
 rw [e0] at h0
 have h1 := hf 1 _ rfl
 obtain ⟨y1, e1⟩ := g 1 (by decide)
 rw [e1] at h1
 have h0 : DataW.trod enc Tryz.prog W 0 (fun _ => true) true n 22 (List.take (Tryz.prog.cellsOf 22) (List.drop 0 [a0, a1])) = some y0 := h0
 have h1 : DataW.trod enc Tryz.prog W 0 (fun _ => true) true n 23 (List.take (Tryz.prog.cellsOf 23) (List.drop 1 [a0, a1])) = some y1 := h1
 rw [cu_paths] at h0
 rw [cu_strs] at h1
 simp only [List.drop_succ_cons, List.drop_zero, List.take_succ_cons, List.take_zero] at h0 h1
 obtain ⟨u, rows, hu, hrows, _, k, hall⟩ := rows_of Tryz.underlying22 (show Tryz.prog.cellsOf 38 = 4 by kernel_rfl) (by decide) h0
 obtain ⟨ps, hps⟩ := paths_of hall
 obtain ⟨v, rows2, hv, hrows2, _, k2, hall2⟩ := rows_of Tryz.underlying23 (show Tryz.prog.cellsOf 9 = 1 by kernel_rfl) (by decide) h1
 obtain ⟨l, rfl⟩ := strs_of hall2
 exact ⟨⟨ps, l⟩, u, v, by rw [hu, hv], ⟨rows, hrows, hps⟩, hrows2⟩
end st30
end Go.Proofs.YtgfiobhpipollaaGreatDoor

