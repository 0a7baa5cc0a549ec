/- A part of the proof: FieldRises holds. -/
import Derived.Test.YtbjbeajbckcecaaGreatDoorSba
set_option maxRecDepth 100000
namespace Go.Proofs.YtbjbeajbckcecaaGreatDoor
open Go Go.HL Go.Wk
attribute [local irreducible] ptrW ifW brW andW rdT alW letJ stW muW biW vaW imW callT cvalT app callW invW callVW sizeT oW nilF oneK loopW rfW funW begW roundK exW idxW Gr Put
theorem und_string16 : Tryz.prog.underlying 9 = some .string := by kernel_rfl
theorem und_bytes16 : Tryz.prog.underlying 56 = some (.slice 5) := by kernel_rfl
theorem und_u816 : Tryz.prog.underlying 5 = some (.int .u8) := by kernel_rfl
theorem sz_RunL : sizeT Tryz.prog 31 = some 1 := by kernel_rfl
theorem sz_RunLL : sizeT Tryz.prog 44 = some 1 := by kernel_rfl
theorem sz_arr : sizeT Tryz.prog 111 = some 256 := by kernel_rfl
theorem el_Run : ElT Tryz.prog 31 29 3 := elT_of (by kernel_rfl) (by decide) (by kernel_rfl)
theorem el_RunL : ElT Tryz.prog 44 31 1 := elT_of (by kernel_rfl) (by decide) (by kernel_rfl)
theorem brow_at {σ : H} {l : List UInt8} {x : Sl} (h : RowsAt σ 1 (brows l) x) {i : Nat} {c : UInt8} (hi : l[i]? = some c) : ∃ g o, x.base = some ⟨g, o, none⟩ /\ i < x.len /\ rdC g (o + i * 1) σ = some (.int .u8 ((c.toNat : Nat) : Int)) := by
 obtain ⟨g, o, h1, h2, h3⟩ := h.rdA (i := i) (r := [.int .u8 c.toNat]) (by unfold brows; rw [List.getElem?_map, hi]; rfl) (by decide)
 refine ⟨g, o, h1, ?_, by simpa using h3 0 _ rfl⟩
 have hl : x.len = l.length := by rw [h.1, brows_len]
 rw [hl]
 rcases Nat.lt_or_ge i l.length with h | h
 ·exact h
 ·rw [List.getElem?_eq_none h] at hi; cases hi
def ClAt (l : List Value) (k : UInt8 -> Int) : Prop := l.length = 256 /\ ∀ c : UInt8, l[c.toNat]? = some (.int .i64 (k c))
theorem ClAt.zero : ClAt (List.replicate 256 (.int .i64 0)) (fun _ => 0) := by
 refine ⟨List.length_replicate, fun c => ?_⟩
 rw [List.getElem?_replicate, if_pos c.toNat_lt]
theorem ClAt.set {l : List Value} {k : UInt8 -> Int} (h : ClAt l k) (d : UInt8) (v : Int) : ClAt (l.set d.toNat (.int .i64 v)) (fun c => if c = d then v else k c) := by
 refine ⟨by rw [List.length_set]; exact h.1, fun c => ?_⟩
 rw [List.getElem?_set]
 by_cases e : c = d
 ·subst e; rw [if_pos rfl, if_pos (by rw [h.1]; exact c.toNat_lt)]; simp
 ·have : ¬ d.toNat = c.toNat := fun h => e (UInt8.toNat_inj.1 h.symm)
  rw [if_neg this]; simp only [if_neg e]; exact h.2 c
theorem ClAt.congr {l : List Value} {k k' : UInt8 -> Int} (h : ClAt l k) (he : ∀ c, k c = k' c) : ClAt l k' := ⟨h.1, fun c => by rw [<- he]; exact h.2 c⟩
theorem hasC_snoc (c x : UInt8) (l : List UInt8) : hasC c (l ++ [x]) = (hasC c l || x == c) := by
 induction l with
 | nil => simp [hasC]
 | cons y r ih => simp only [List.cons_append, hasC, ih, Bool.or_assoc]
def classL (l : List UInt8) (c : UInt8) : Int := if hasC c l then (if c == 32 || c == 9 || c == 10 then 1 else 2) else 0
theorem s_fClasses (ifs : ByteArray) (hz : ifs.size <= 1000000) {σ : H} {K : KH} (hK : ∀ l σ', Gr σ σ' -> ClAt l (classB ifs) -> K (.agg ⟨l⟩) σ') : callW Tryz.prog 74 [.string ifs] K σ := by
 refine c74 _ ?_
 unfold g74
 refine al_i ?_; intro b2 σ1 g1 e1 n1
 have k2 : σ1 b2 = some (.cells ⟨List.replicate 256 (.int .i64 0)⟩ 111 (0, 0)) := e1
 clear e1
 refine sbytes_i und_string16 und_bytes16 und_u816 ifs ?_
 intro x σ2 g2 hx
 have k2 := g2.get k2
 have hxl : x.len = ifs.data.toList.length := by rw [hx.1, brows_len]
 have hsl : ifs.data.toList.length = ifs.size := (size_list ifs).symm
 refine loop_i ?_
 intro R hR
 have key : ∀ (c i : Nat) (l : List Value) (τ : H), c + i = ifs.data.toList.length -> ClAt l (classL (ifs.data.toList.take i)) -> Gr σ τ -> τ b2 = some (.cells ⟨l⟩ 111 (0, 0)) -> RowsAt τ 1 (brows ifs.data.toList) x -> R (some ⟨b2, 0, none⟩) x ((x.len : Nat) : Int) (i : Int) τ := by
  intro c
  induction c with
  | zero =>
   intro i l τ hc hl hg kk hx
   rw [List.take_of_length_le (by omega)] at hl
   refine hR _ _ _ _ _ ?_
   refine br_f (by simp only [decide_eq_false_iff_not]; omega) (ptr_i ?_)
   have hall : (l.drop 0).take 256 = l := by rw [List.drop_zero, List.take_of_length_le (by rw [hl.1]; exact Nat.le_refl _)]
   have hrd : ∀ τ' : H, τ' b2 = some (.cells ⟨l⟩ 111 (0, 0)) -> rdA 256 b2 0 τ' = some (.agg ⟨l⟩) := fun τ' h => by
    rw [rdA_of h (by rw [hl.1]; decide), hall]
   refine rd_R (hrd τ kk) ?_
   refine st_i kk (by rw [show (arrL (Value.agg ⟨l⟩).cells) = l from rfl, hl.1]; exact sz_arr) (by rw [show (arrL (Value.agg ⟨l⟩).cells) = l from rfl]; omega) ?_ (.inl (Nat.le_refl _)) ?_
   ·intro u hu
    have hu : u ∈ l := hu
    obtain ⟨i, hi, hu⟩ := List.getElem_of_mem hu
    have : i < 256 := by rw [<- hl.1]; exact hi
    have h2 := hl.2 (UInt8.ofNat i)
    have h3 : (UInt8.ofNat i).toNat = i := by rw [UInt8.toNat_ofNat']; omega
    rw [h3, List.getElem?_eq_getElem hi, hu] at h2
    rw [Option.some.inj h2]; rfl
   intro τ2 p2
   have p2' : Put τ b2 (.cells ⟨l⟩ 111 (0, 0)) τ2 := by
    have he : l.take 0 ++ arrL (Value.agg ⟨l⟩).cells ++ l.drop (0 + (arrL (Value.agg ⟨l⟩).cells).length) = l := by
     rw [show (arrL (Value.agg ⟨l⟩).cells) = l from rfl]; simp
    rw [he] at p2; exact p2
   refine ptr_i (rd_R (hrd τ2 p2'.same) ?_)
   refine hK l τ2 (hg.putF p2' n1) (hl.congr fun c => rfl)
  | succ c ih =>
   intro i l τ hc hl hg kk hx
   obtain ⟨ch, hch⟩ : ∃ ch, ifs.data.toList[i]? = some ch := ⟨_, List.getElem?_eq_getElem (by omega)⟩
   obtain ⟨g, o, a1, a2, a3⟩ := brow_at hx hch
   have hch256 := ch.toNat_lt
   refine hR _ _ _ _ _ ?_
   refine br_t (by simp only [decide_eq_true_eq]; omega) ?_
   have htk : ifs.data.toList.take (i + 1) = ifs.data.toList.take i ++ [ch] := by rw [List.take_add_one, hch]; rfl
   refine j_i (fun j => ∀ (l' : List Value) (τ' : H) v1 v2 v3 v4, ClAt l' (classL (ifs.data.toList.take (i + 1))) -> Gr σ τ' -> τ' b2 = some (.cells ⟨l'⟩ 111 (0, 0)) -> RowsAt τ' 1 (brows ifs.data.toList) x -> j (some ⟨b2, 0, none⟩) x ((x.len : Nat) : Int) (i : Int) v1 v2 v3 v4 τ') ?_ ?_
   ·intro l' τ' v1 v2 v3 v4 h1 h2 h3 h4
    rw [wrapS (i := i) (by omega)]
    exact ih (i + 1) l' τ' (by omega) h1 h2 h3 h4
   intro j9 h9
   rw [a1]
   refine ptr_i (if_i ⟨by omega, by show _ < ((x.len : Nat) : Int); omega⟩ (rd_I (by rw [Int.toNat_natCast]; exact a3) (ptr_i (if_i ⟨by omega, by omega⟩ ?_))))
   have eo : 0 + (((ch.toNat : Nat) : Int)).toNat * 1 = ch.toNat := by omega
   rw [eo]
   refine st_set kk sz_int rfl rfl (by rw [hl.1]; omega) ?_
   intro τ1 p1
   have hx1 : RowsAt τ1 1 (brows ifs.data.toList) x := hx.keep fun g o ob hg ho => p1.get (fun e => by
    rw [e] at ho
    rw [kk] at ho
    cases ho
    obtain ⟨_, h2 | ⟨g', o', cur, t, fz, h3, h4, h5⟩⟩ := hx
    ·have : ifs.data.toList = [] := by cases hz : ifs.data.toList with | nil => rfl | cons c r => rw [hz] at h2; simp [brows] at h2
     rw [this] at hch; cases hch
    ·rw [h3] at hg; cases hg
     rw [e, kk] at h4
     cases h4
     obtain ⟨_, h6⟩ := h5 i [.int .u8 ch.toNat] (by unfold brows; rw [List.getElem?_map, hch]; rfl)
     have h7 : ((l.drop (o + i * 1)).take 1)[0]? = some (.int .u8 ch.toNat) := by rw [h6]; rfl
     rw [List.getElem?_take, List.getElem?_drop] at h7
     have h7 : l[o + i * 1]? = some (.int .u8 ch.toNat) := by simpa using h7
     have hlt : o + i * 1 < 256 := by
      rw [<- hl.1]
      rcases Nat.lt_or_ge (o + i * 1) l.length with h | h
      ·exact h
      ·rw [List.getElem?_eq_none h] at h7; cases h7
     have h8 := hl.2 (UInt8.ofNat (o + i * 1))
     rw [UInt8.toNat_ofNat', Nat.mod_eq_of_lt hlt, h7] at h8
     cases h8) ho
   have hl1 := hl.set ch 2
   have hg1 := hg.putF p1 n1
   -- is it a blank?
   refine j_i (fun j => ∀ v1 v2 v3 v4, j (some ⟨b2, 0, none⟩) ((ch.toNat : Nat) : Int) x ((x.len : Nat) : Int) (i : Int) v1 v2 v3 v4 (ch == 32 || ch == 9 || ch == 10) τ1) ?_ ?_
   case refine_2 =>
    intro j hj
    have q32 : (((ch.toNat : Nat) : Int) == 32) = (ch == 32) := u8_beq ch 32
    have q9 : (((ch.toNat : Nat) : Int) == 9) = (ch == 9) := u8_beq ch 9
    have q10 : (((ch.toNat : Nat) : Int) == 10) = (ch == 10) := u8_beq ch 10
    cases h32 : (ch == 32) with
    | true =>
     rw [h32] at hj q32
     exact br_t q32 (hj _ _ _ _)
    | false =>
     rw [h32] at hj q32
     refine br_f q32 ?_
     cases h9' : (ch == 9) with
     | true =>
      rw [h9'] at hj q9
      exact br_t q9 (hj _ _ _ _)
     | false =>
      rw [h9'] at hj q9
      refine br_f q9 ?_
      have := hj (.int .u8 ((ch.toNat : Nat) : Int)) (.bool (((ch.toNat : Nat) : Int) == 9)) (.int .u8 ((ch.toNat : Nat) : Int)) (.bool (((ch.toNat : Nat) : Int) == 10))
      rw [show (false || false || ch == 10) = (((ch.toNat : Nat) : Int) == 10) from by rw [q10]; rfl] at this
      exact this
   intro v1 v2 v3 v4
   cases hb : (ch == 32 || ch == 9 || ch == 10) with
   | false =>
    refine br_f rfl (h9 _ τ1 _ _ _ _ (hl1.congr fun c => ?_) hg1 p1.same hx1)
    unfold classL
    rw [htk, hasC_snoc]
    by_cases e : c = ch
    ·subst e; simp [hb]
    ·have : (ch == c) = false := by simpa using fun h => e h.symm
     rw [if_neg e, this, Bool.or_false]
   | true =>
    refine br_t rfl (ptr_i (if_i ⟨by omega, by omega⟩ ?_))
    rw [eo]
    refine st_set p1.same sz_int rfl rfl (by rw [hl1.1]; omega) ?_
    intro τ2 p2
    have hl2 := hl1.set ch 1
    refine h9 _ τ2 _ _ _ _ (hl2.congr fun c => ?_) (hg1.putF p2 n1) p2.same (hx1.keep fun g o ob hg ho => p2.get (fun e => by
     rw [e, p1.same] at ho; cases ho
     obtain ⟨_, h2 | ⟨g', o', cur, t, fz, h3, h4, h5⟩⟩ := hx1
     ·have : ifs.data.toList = [] := by cases hz : ifs.data.toList with | nil => rfl | cons c r => rw [hz] at h2; simp [brows] at h2
      rw [this] at hch; cases hch
     ·rw [h3] at hg; cases hg
      rw [e, p1.same] at h4
      cases h4
      obtain ⟨_, h6⟩ := h5 i [.int .u8 ch.toNat] (by unfold brows; rw [List.getElem?_map, hch]; rfl)
      have h7 : (((l.set ch.toNat (.int .i64 2)).drop (o + i * 1)).take 1)[0]? = some (.int .u8 ch.toNat) := by rw [h6]; rfl
      rw [List.getElem?_take, List.getElem?_drop] at h7
      have h7 : (l.set ch.toNat (.int .i64 2))[o + i * 1]? = some (.int .u8 ch.toNat) := by simpa using h7
      have hlt : o + i * 1 < 256 := by
       rw [<- hl1.1]
       rcases Nat.lt_or_ge (o + i * 1) (l.set ch.toNat (.int .i64 2)).length with h | h
       ·exact h
       ·rw [List.getElem?_eq_none h] at h7; cases h7
      have h8 := hl1.2 (UInt8.ofNat (o + i * 1))
      rw [UInt8.toNat_ofNat', Nat.mod_eq_of_lt hlt, h7] at h8
      cases h8) ho)
    unfold classL
    rw [htk, hasC_snoc]
    by_cases e : c = ch
    ·subst e; simp [hb]
    ·have : (ch == c) = false := by simpa using fun h => e h.symm
     rw [if_neg e, if_neg e, this, Bool.or_false]
 exact key ifs.data.toList.length 0 _ σ2 (by omega) (ClAt.zero.congr fun c => rfl) (g1.trans g2) k2 hx
def slRow (y : Sl) : List Value := [.slice y.base y.len y.cap]
def FldsIn (ρ : H) : List (List Rn) -> List Sl -> Prop
 | [], [] => True
 | l :: L, y :: ys => RowsAt ρ 3 (rnRows l) y /\ FldsIn ρ L ys
 | _, _ => False
theorem FldsIn.gr {ρ ρ' : H} (hg : Gr ρ ρ') : ∀ {L : List (List Rn)} {ys : List Sl}, FldsIn ρ L ys -> FldsIn ρ' L ys := by
 intro L
 induction L with
 | nil => intro ys h; cases ys with | nil => trivial | cons _ _ => exact h.elim
 | cons l L ih => intro ys h; cases ys with | nil => exact h.elim | cons y ys => exact ⟨h.1.gr hg, ih h.2⟩
theorem FldsIn.app {ρ : H} {L' : List (List Rn)} {ys' : List Sl} (h' : FldsIn ρ L' ys') : ∀ {L : List (List Rn)} {ys : List Sl}, FldsIn ρ L ys -> FldsIn ρ (L ++ L') (ys ++ ys') := by
 intro L
 induction L with
 | nil => intro ys h; cases ys with | nil => exact h' | cons _ _ => exact h.elim
 | cons l L ih => intro ys h; cases ys with | nil => exact h.elim | cons y ys => exact ⟨h.1, ih h.2⟩
theorem FldsIn.len {ρ : H} : ∀ {L : List (List Rn)} {ys : List Sl}, FldsIn ρ L ys -> ys.length = L.length := by
 intro L
 induction L with
 | nil => intro ys h; cases ys with | nil => rfl | cons _ _ => exact h.elim
 | cons l L ih => intro ys h; cases ys with | nil => exact h.elim | cons y ys => simp [ih h.2]
theorem FldsIn.at {ρ : H} : ∀ {L : List (List Rn)} {ys : List Sl} {i : Nat} {l : List Rn}, FldsIn ρ L ys -> L[i]? = some l -> ∃ y, ys[i]? = some y /\ RowsAt ρ 3 (rnRows l) y := by
 intro L
 induction L with
 | nil => intro ys i l _ h; simp at h
 | cons l L ih =>
  intro ys i m h hi
  cases ys with
  | nil => exact h.elim
  | cons y ys =>
   cases i with
   | zero => simp at hi; subst hi; exact ⟨y, rfl, h.1⟩
   | succ i => simp at hi; obtain ⟨z, h1, h2⟩ := ih h.2 hi; exact ⟨z, by simpa using h1, h2⟩
def FldsAt (σ : H) (L : List (List Rn)) (x : Sl) : Prop := ∃ ys, RowsAt σ 1 (ys.map slRow) x /\ FldsIn σ L ys
theorem FldsAt.gr {σ σ' : H} {L : List (List Rn)} {x : Sl} (h : FldsAt σ L x) (hg : Gr σ σ') : FldsAt σ' L x := by
 obtain ⟨ys, h1, h2⟩ := h
 exact ⟨ys, h1.gr hg, h2.gr hg⟩
theorem FldsAt.len {σ : H} {L : List (List Rn)} {x : Sl} (h : FldsAt σ L x) : x.len = L.length := by
 obtain ⟨ys, h1, h2⟩ := h
 rw [h1.1, List.length_map, h2.len]
theorem FldsAt.at {σ : H} {L : List (List Rn)} {x : Sl} (h : FldsAt σ L x) {i : Nat} {l : List Rn} (hi : L[i]? = some l) : ∃ g o y, x.base = some ⟨g, o, none⟩ /\ i < x.len /\ rdC g (o + i * 1) σ = some (.slice y.base y.len y.cap) /\ RowsAt σ 3 (rnRows l) y := by
 have hl := h.len
 obtain ⟨ys, h1, h2⟩ := h
 obtain ⟨y, h3, h4⟩ := h2.at hi
 obtain ⟨g, o, a1, a2, a3⟩ := h1.rdA (i := i) (r := slRow y) (by rw [List.getElem?_map, h3]; rfl) (by decide)
 refine ⟨g, o, y, a1, ?_, by simpa using a3 0 _ rfl, h4⟩
 rw [hl]
 rcases Nat.lt_or_ge i L.length with h | h
 ·exact h
 ·rw [List.getElem?_eq_none h] at hi; cases hi
theorem slRows_one (ys : List Sl) : ∀ r ∈ ys.map slRow, ∀ u ∈ r, u.oneCell' = true := by
 intro r hr u hu
 obtain ⟨y, _, rfl⟩ := List.mem_map.1 hr
 simp [slRow] at hu; subst hu; rfl
structure SpIn (σ ρ τ : H) (b3 b4 b5 b6 : Nat) (yo yn : Sl) (ys : List Sl) (x : SpS) : Prop where
 g1 : Gr σ ρ
 z3 : ρ b3 = none
 z4 : ρ b4 = none
 z5 : ρ b5 = none
 z6 : ρ b6 = none
 out : RNew ρ τ 31 1 (ys.map slRow) yo
 now : RNew ρ τ 29 3 (rnRows x.now) yn
 fl : FldsIn ρ x.out ys
 k3 : τ b3 = some (.cells ⟨[.slice yo.base yo.len yo.cap]⟩ 44 (0, 0))
 k4 : τ b4 = some (.cells ⟨[.slice yn.base yn.len yn.cap]⟩ 31 (0, 0))
 k5 : τ b5 = some (.cells ⟨[.bool x.bare]⟩ 4 (0, 0))
 k6 : τ b6 = some (.cells ⟨[.bool x.behind]⟩ 4 (0, 0))
 so : ∀ g, yo.base = some ⟨g, 0, none⟩ -> g ≠ b3 /\ g ≠ b4 /\ g ≠ b5 /\ g ≠ b6 /\ yn.base ≠ some ⟨g, 0, none⟩
 sn : ∀ g, yn.base = some ⟨g, 0, none⟩ -> g ≠ b3 /\ g ≠ b4 /\ g ≠ b5 /\ g ≠ b6
def SpAt (σ τ : H) (b3 b4 b5 b6 : Nat) (x : SpS) : Prop := ∃ ρ yo yn ys, SpIn σ ρ τ b3 b4 b5 b6 yo yn ys x
structure Dis4 (b3 b4 b5 b6 : Nat) : Prop where
 n34 : b3 ≠ b4
 n35 : b3 ≠ b5
 n36 : b3 ≠ b6
 n45 : b4 ≠ b5
 n46 : b4 ≠ b6
 n56 : b5 ≠ b6
section
variable {σ τ : H} {b3 b4 b5 b6 : Nat} {x : SpS}
theorem SpAt.gr (h : SpAt σ τ b3 b4 b5 b6 x) : Gr σ τ := by
 obtain ⟨ρ, yo, yn, ys, h⟩ := h
 exact h.g1.trans h.out.1
theorem SpAt.since {σ0 : H} (hg : Gr σ0 σ) (h : SpAt σ τ b3 b4 b5 b6 x) : SpAt σ0 τ b3 b4 b5 b6 x := by
 obtain ⟨ρ, yo, yn, ys, h⟩ := h
 exact ⟨ρ, yo, yn, ys, { h with g1 := hg.trans h.g1 }⟩
theorem gr_put_both {σ ρ : H} (hg : Gr σ ρ) {b : Nat} (o : Obj) (hn : σ b = none) : Gr (σ.put b o) (ρ.put b o) := gr_of fun c oc hc => by
 by_cases e : c = b
 ·subst e; rw [H.put_same] at hc ⊢; exact hc
 ·rw [H.put_other _ _ e] at hc ⊢; exact hg.get hc
theorem none_put {ρ : H} {b c : Nat} {o : Obj} (hn : ρ c = none) (hne : c ≠ b) : (ρ.put b o) c = none := by rw [H.put_other _ _ hne]; exact hn
theorem SpAt.more {τ2 : H} {b : Nat} {o : Obj} (h : SpAt σ τ b3 b4 b5 b6 x) (hn : τ b = none) (hg : Gr τ τ2) (hb : τ2 b = some o) : SpAt (σ.put b o) τ2 b3 b4 b5 b6 x := by
 obtain ⟨ρ, yo, yn, ys, h⟩ := h
 have hρ : ρ b = none := none_of h.out.1 hn
 have hσ : σ b = none := none_of h.g1 hρ
 have ne : ∀ {c oc}, τ c = some oc -> c ≠ b := fun hc e => by rw [e, hn] at hc; cases hc
 refine ⟨ρ.put b o, yo, yn, ys, ⟨gr_put_both h.g1 o hσ, none_put h.z3 (ne h.k3), none_put h.z4 (ne h.k4), none_put h.z5 (ne h.k5), none_put h.z6 (ne h.k6), ?_, ?_, h.fl.gr (Gr.put hρ o), hg.get h.k3, hg.get h.k4, hg.get h.k5, hg.get h.k6, h.so, h.sn⟩⟩
 ·refine ⟨(h.out.1.trans hg).put_in hb, h.out.2.1.gr hg, fun g hx => none_put (h.out.2.2 g hx) fun e => ?_⟩
  rw [e] at hx; exact h.out.2.1.has hx hn
 ·refine ⟨(h.now.1.trans hg).put_in hb, h.now.2.1.gr hg, fun g hx => none_put (h.now.2.2 g hx) fun e => ?_⟩
  rw [e] at hx; exact h.now.2.1.has hx hn
theorem SpAt.behind (hd : Dis4 b3 b4 b5 b6) (h : SpAt σ τ b3 b4 b5 b6 x) {τ2 : H} {v : Bool} (hp : Put τ b6 (.cells ⟨[.bool v]⟩ 4 (0, 0)) τ2) : SpAt σ τ2 b3 b4 b5 b6 { x with behind := v } := by
 obtain ⟨ρ, yo, yn, ys, h⟩ := h
 exact ⟨ρ, yo, yn, ys, ⟨h.g1, h.z3, h.z4, h.z5, h.z6, h.out.putF hp h.z6 (fun e => (h.so _ e).2.2.2.1 rfl), h.now.putF hp h.z6 (fun e => (h.sn _ e).2.2.2 rfl), h.fl, hp.get hd.n36 h.k3, hp.get hd.n46 h.k4, hp.get hd.n56 h.k5, hp.same, h.so, h.sn⟩⟩
theorem s_gather (hd : Dis4 b3 b4 b5 b6) (h : SpAt σ τ b3 b4 b5 b6 x) (r : Rn) (hl : x.now.length < 1000000) {K : KH} (hK : ∀ τ', SpAt σ τ' b3 b4 b5 b6 (x.gather r) -> K (.tuple ⟨[]⟩) τ') : callW Tryz.prog 140 [.agg ⟨r.cells⟩, .pointer (some ⟨b4, 0, none⟩), .pointer (some ⟨b5, 0, none⟩), .pointer (some ⟨b6, 0, none⟩)] K τ := by
 obtain ⟨ρ, yo, yn, ys, h⟩ := h
 refine c140 _ _ _ _ _ _ ?_
 unfold g140
 refine al_i ?_; intro b7 τ1 g1 e1 n1
 have hO := h.out.gr g1
 have hN := h.now.gr g1
 have k3 := g1.get h.k3
 have k4 := g1.get h.k4
 have k5 := g1.get h.k5
 have k6 := g1.get h.k6
 refine ptr_i (rd_L (rdC_of k4 (by rfl)) (rd_G (rdA_of' e1 (by rfl)) ?_))
 (refine app_of rfl ?_; try dsimp only)
 refine hN.app1 el_Run rfl rfl (by unfold rnRows; rw [List.length_map]; omega) ?_
 intro yn' τ2 hN2 hkeep hb
 have n3 : yn.base ≠ some ⟨b3, 0, none⟩ := fun e => (h.sn _ e).1 rfl
 have n4 : yn.base ≠ some ⟨b4, 0, none⟩ := fun e => (h.sn _ e).2.1 rfl
 have n5 : yn.base ≠ some ⟨b5, 0, none⟩ := fun e => (h.sn _ e).2.2.1 rfl
 have n6 : yn.base ≠ some ⟨b6, 0, none⟩ := fun e => (h.sn _ e).2.2.2 rfl
 have k3 := hkeep _ _ k3 n3
 have k4' := hkeep _ _ k4 n4
 have k5' := hkeep _ _ k5 n5
 have k6' := hkeep _ _ k6 n6
 have hsn : ∀ g, yn'.base = some ⟨g, 0, none⟩ -> g ≠ b3 /\ g ≠ b4 /\ g ≠ b5 /\ g ≠ b6 := by
  intro g hg
  rcases hb g hg with e | e
  ·exact h.sn g e
  ·have z : ∀ {c o}, τ1 c = some o -> g ≠ c := fun hc e2 => by rw [e2, hc] at e; cases e
   exact ⟨z (g1.get h.k3), z k4, z k5, z k6⟩
 have hso : ∀ g, yo.base = some ⟨g, 0, none⟩ -> yn'.base ≠ some ⟨g, 0, none⟩ := by
  intro g hg e
  rcases hb g e with e2 | e2
  ·exact (h.so g hg).2.2.2.2 e2
  ·exact hO.2.1.has hg e2
 have hO2 : RNew ρ τ2 31 1 (ys.map slRow) yo := ⟨hN2.1, hO.2.1.keep fun g o hg ho => hkeep g o ho (h.so g hg).2.2.2.2, hO.2.2⟩
 refine st_i2 k4' sz_RunL (by rfl) (by rfl) ?_; intro τ3 p3
 refine st_i2 (p3.get hd.n45.symm k5') sz_bool (by rfl) (by rfl) ?_; intro τ4 p4
 refine st_i2 (p4.get hd.n56.symm (p3.get hd.n46.symm k6')) sz_bool (by rfl) (by rfl) ?_; intro τ5 p5
 have hrow : rnRows (x.gather r).now = rnRows x.now ++ [[.string r.t, .bool r.q, .bool r.s]] := by unfold SpS.gather rnRows; rw [List.map_append]; rfl
 have ob : ∀ c, c = b4 \/ c = b5 \/ c = b6 -> yo.base ≠ some ⟨c, 0, none⟩ /\ yn'.base ≠ some ⟨c, 0, none⟩ := by
  intro c hc
  refine ⟨fun e => ?_, fun e => ?_⟩
  ·obtain ⟨_, u4, u5, u6, _⟩ := h.so _ e
   rcases hc with rfl | rfl | rfl
   ·exact u4 rfl
   ·exact u5 rfl
   ·exact u6 rfl
  ·obtain ⟨_, u4, u5, u6⟩ := hsn _ e
   rcases hc with rfl | rfl | rfl
   ·exact u4 rfl
   ·exact u5 rfl
   ·exact u6 rfl
 refine hK τ5 ⟨ρ, yo, yn', ys, ⟨h.g1, h.z3, h.z4, h.z5, h.z6, ?_, ?_, h.fl, p5.get hd.n36 (p4.get hd.n35 (p3.get hd.n34 k3)), p5.get hd.n46 (p4.get hd.n45 p3.same), p5.get hd.n56 p4.same, p5.same, fun g hg => ?_, hsn⟩⟩
 ·exact ((hO2.putF p3 h.z4 (ob _ (.inl rfl)).1).putF p4 h.z5 (ob _ (.inr (.inl rfl))).1).putF p5 h.z6 (ob _ (.inr (.inr rfl))).1
 ·rw [hrow]
  exact ((hN2.putF p3 h.z4 (ob _ (.inl rfl)).2).putF p4 h.z5 (ob _ (.inr (.inl rfl))).2).putF p5 h.z6 (ob _ (.inr (.inr rfl))).2
 ·obtain ⟨u3, u4, u5, u6, _⟩ := h.so g hg
  exact ⟨u3, u4, u5, u6, hso g hg⟩
theorem s_fend (hd : Dis4 b3 b4 b5 b6) (h : SpAt σ τ b3 b4 b5 b6 x) (hl : x.out.length < 1000000) {K : KH} (hK : ∀ τ', SpAt σ τ' b3 b4 b5 b6 x.fin -> K (.tuple ⟨[]⟩) τ') : callW Tryz.prog 141 [.pointer (some ⟨b3, 0, none⟩), .pointer (some ⟨b4, 0, none⟩), .pointer (some ⟨b5, 0, none⟩)] K τ := by
 obtain ⟨ρ, yo, yn, ys, h⟩ := h
 refine c141 _ _ _ ?_
 unfold g141
 refine ptr_i (rd_L (rdC_of h.k3 (by rfl)) (ptr_i (rd_L (rdC_of h.k4 (by rfl)) ?_)))
 refine h.out.app1 el_RunL rfl rfl (by rw [List.length_map, h.fl.len]; omega) ?_
 intro yo' τ1 hO1 hkeep hb
 have m3 : yo.base ≠ some ⟨b3, 0, none⟩ := fun e => (h.so _ e).1 rfl
 have m4 : yo.base ≠ some ⟨b4, 0, none⟩ := fun e => (h.so _ e).2.1 rfl
 have m5 : yo.base ≠ some ⟨b5, 0, none⟩ := fun e => (h.so _ e).2.2.1 rfl
 have m6 : yo.base ≠ some ⟨b6, 0, none⟩ := fun e => (h.so _ e).2.2.2.1 rfl
 have k3 := hkeep _ _ h.k3 m3
 have k4 := hkeep _ _ h.k4 m4
 have k5 := hkeep _ _ h.k5 m5
 have k6 := hkeep _ _ h.k6 m6
 have hso : ∀ g, yo'.base = some ⟨g, 0, none⟩ -> g ≠ b3 /\ g ≠ b4 /\ g ≠ b5 /\ g ≠ b6 /\ yn.base ≠ some ⟨g, 0, none⟩ := by
  intro g hg
  rcases hb g hg with e | e
  ·exact h.so g e
  ·have z : ∀ {c o}, τ c = some o -> g ≠ c := fun hc e2 => by rw [e2, hc] at e; cases e
   exact ⟨z h.k3, z h.k4, z h.k5, z h.k6, fun e2 => h.now.2.1.has e2 e⟩
 have hN1 : RowsOwn τ1 29 3 (rnRows x.now) yn := h.now.2.1.keep fun g o hg ho => hkeep g o ho fun e => (h.so g e).2.2.2.2 hg
 refine st_i2 k3 sz_RunLL (by rfl) (by rfl) ?_; intro τ2 p2
 refine st_i2 (p2.get hd.n34.symm k4) sz_RunL (by rfl) (by rfl) ?_; intro τ3 p3
 refine st_i2 (p3.get hd.n45.symm (p2.get hd.n35.symm k5)) sz_bool (by rfl) (by rfl) ?_; intro τ4 p4
 have ob : ∀ c, c = b3 \/ c = b4 \/ c = b5 -> yo'.base ≠ some ⟨c, 0, none⟩ /\ yn.base ≠ some ⟨c, 0, none⟩ := by
  intro c hc
  refine ⟨fun e => ?_, fun e => ?_⟩
  ·obtain ⟨u3, u4, u5, _, _⟩ := hso _ e
   rcases hc with rfl | rfl | rfl
   ·exact u3 rfl
   ·exact u4 rfl
   ·exact u5 rfl
  ·obtain ⟨u3, u4, u5, _⟩ := h.sn _ e
   rcases hc with rfl | rfl | rfl
   ·exact u3 rfl
   ·exact u4 rfl
   ·exact u5 rfl
 have hO4 : RNew ρ τ4 31 1 (ys.map slRow ++ [[.slice yn.base yn.len yn.cap]]) yo' := ((hO1.putF p2 h.z3 (ob _ (.inl rfl)).1).putF p3 h.z4 (ob _ (.inr (.inl rfl))).1).putF p4 h.z5 (ob _ (.inr (.inr rfl))).1
 have hN4 : RowsOwn τ4 29 3 (rnRows x.now) yn := ((hN1.put p2 (ob _ (.inl rfl)).2).put p3 (ob _ (.inr (.inl rfl))).2).put p4 (ob _ (.inr (.inr rfl))).2
 -- what was gathered stays
 have hρ : ∃ ρ2 : H, Gr ρ ρ2 /\ Gr ρ2 τ4 /\ RowsAt ρ2 3 (rnRows x.now) yn /\ ∀ c, ρ c = none -> yn.base ≠ some ⟨c, 0, none⟩ -> ρ2 c = none := by
  obtain ⟨q1, q2, ⟨q3, q4, q5⟩ | ⟨g, cur, q3, q4, q5⟩⟩ := id hN4
  ·refine ⟨ρ, Gr.refl _, hO4.1, ⟨q1, .inl q5⟩, fun c hc _ => hc⟩
  ·refine ⟨ρ.put g (.cells ⟨cur⟩ 29 (0, 0)), Gr.put (h.now.2.2 g q3) _, hO4.1.put_in q4, ?_, fun c hc hne => none_put hc fun e => hne (by rw [e]; exact q3)⟩
   have : RowsOwn (ρ.put g (.cells ⟨cur⟩ 29 (0, 0))) 29 3 (rnRows x.now) yn := ⟨q1, q2, .inr ⟨g, cur, q3, H.put_same _ _ _, q5⟩⟩
   exact this.rows
 obtain ⟨ρ2, r1, r2, r3, r4⟩ := hρ
 have e3 : (ys ++ [yn]).map slRow = ys.map slRow ++ [[.slice yn.base yn.len yn.cap]] := by rw [List.map_append]; rfl
 refine hK τ4 ⟨ρ2, yo', ⟨none, 0, 0⟩, ys ++ [yn], ⟨h.g1.trans r1, r4 _ h.z3 (ob _ (.inl rfl)).2, r4 _ h.z4 (ob _ (.inr (.inl rfl))).2, r4 _ h.z5 (ob _ (.inr (.inr rfl))).2, r4 _ h.z6 (fun e => (h.sn _ e).2.2.2 rfl), ?_, RNew.nil' r2 _ _, ?_, ?_, ?_, p4.same, ?_, fun g hg => ?_, (fun g hg => by cases hg)⟩⟩
 ·rw [e3]
  exact ⟨r2, hO4.2.1, fun g hg => r4 g (hO4.2.2 g hg) (hso g hg).2.2.2.2⟩
 ·exact FldsIn.app (L' := [x.now]) (ys' := [yn]) ⟨r3, trivial⟩ (h.fl.gr r1)
 ·exact p4.get hd.n35 (p3.get hd.n34 p2.same)
 ·exact p4.get hd.n45 p3.same
 ·exact p4.get hd.n56.symm (p3.get hd.n46.symm (p2.get hd.n36.symm k6))
 ·obtain ⟨u3, u4, u5, u6, _⟩ := hso g hg
  exact ⟨u3, u4, u5, u6, fun e => by cases e⟩
end
theorem go_fsplit1 : isGo Tryz.prog 140 = true := by kernel_rfl
theorem go_fsplit2 : isGo Tryz.prog 141 = true := by kernel_rfl
theorem s_fsplit {l : List Rn} {x : Sl} {σ : H} (hx : RowsAt σ 3 (rnRows l) x) {bc : Nat} {lc : List Value} {tc : TypeId} {k : UInt8 -> Int} (hc : σ bc = some (.cells ⟨lc⟩ tc (0, 0))) (hk : ClAt lc k) (hn : l.length + (plainL l).length <= 900000) {K : KH} (hK : ∀ y σ', Gr σ σ' -> FldsAt σ' (split1 k l) y -> K (.slice y.base y.len y.cap) σ') :
 callW Tryz.prog 75 [.slice x.base x.len x.cap, .pointer (some ⟨bc, 0, none⟩)] K σ := by
 refine c75 _ _ ?_
 unfold g75
 refine al_i ?_; intro b3 σ1 g1 e1 n1
 refine al_i ?_; intro b4 σ2 g2 e2 n2
 refine al_i ?_; intro b5 σ3 g3 e3 n3
 refine al_i ?_; intro b6 σ4 g4 e4 n4
 have n34 : b3 ≠ b4 := ne_fr n2 (isSome_of e1)
 have n35 : b3 ≠ b5 := ne_fr n3 (isSome_of (g2.get e1))
 have n36 : b3 ≠ b6 := ne_fr n4 (isSome_of (g3.get (g2.get e1)))
 have n45 : b4 ≠ b5 := ne_fr n3 (isSome_of e2)
 have n46 : b4 ≠ b6 := ne_fr n4 (isSome_of (g3.get e2))
 have n56 : b5 ≠ b6 := ne_fr n4 (isSome_of e3)
 have hd : Dis4 b3 b4 b5 b6 := ⟨n34, n35, n36, n45, n46, n56⟩
 refine st_i2 (g4.get e3) sz_bool (by rfl) (by rfl) ?_; intro σ5 p5
 refine st_i2 (p5.get n56.symm e4) sz_bool (by rfl) (by rfl) ?_; intro σ6 p6
 have hS0 : SpAt σ σ6 b3 b4 b5 b6 ⟨[], [], true, false⟩ := by
  have f4 : σ b4 = none := none_of g1 n2
  have f5 : σ b5 = none := none_of (g1.trans g2) n3
  have f6 : σ b6 = none := none_of ((g1.trans g2).trans g3) n4
  have hg : Gr σ σ6 := ((((g1.trans g2).trans g3).trans g4).putF p5 f5).putF p6 f6
  exact ⟨σ, ⟨none, 0, 0⟩, ⟨none, 0, 0⟩, [], ⟨Gr.refl _, n1, f4, f5, f6, RNew.nil' hg _ _, RNew.nil' hg _ _, trivial, p6.get n36 (p5.get n35 (g4.get (g3.get (g2.get e1)))), p6.get n46 (p5.get n45 (g4.get (g3.get e2))), p6.get n56 p5.same, p6.same, (fun g h => by cases h), (fun g h => by cases h)⟩⟩
 clear p5 p6 e1 e2 e3 e4 g1 g2 g3 g4
 have hxl : x.len = l.length := by have := hx.1; simpa [rnRows] using this
 refine loop_i ?_
 intro R hR
 have key : ∀ (c i : Nat) (S : SpS) (τ : H), c + i = l.length -> S = (l.take i).foldl (spRun k) ⟨[], [], true, false⟩ -> SpAt σ τ b3 b4 b5 b6 S -> R (some ⟨bc, 0, none⟩) (some ⟨b3, 0, none⟩) (some ⟨b5, 0, none⟩) (some ⟨b6, 0, none⟩) (.func (.func 140) ⟨[]⟩ ⟨[.pointer (some ⟨b4, 0, none⟩), .pointer (some ⟨b5, 0, none⟩), .pointer (some ⟨b6, 0, none⟩)]⟩) (.func (.func 141) ⟨[]⟩ ⟨[.pointer (some ⟨b3, 0, none⟩), .pointer (some ⟨b4, 0, none⟩), .pointer (some ⟨b5, 0, none⟩)]⟩) x ((x.len : Nat) : Int) (i : Int) τ := by
  intro c
  induction c with
  | zero =>
   intro i S τ hci hS hSp
   rw [List.take_of_length_le (by omega)] at hS
   have hSn := n_runs k l ⟨[], [], true, false⟩
   rw [<- hS] at hSn
   have hz : SpS.n ⟨[], [], true, false⟩ = 0 := rfl
   have hSn2 : S.n <= 900000 := by omega
   refine hR _ _ _ _ _ _ _ _ _ _ ?_
   refine br_f (by simp only [decide_eq_false_iff_not]; omega) ?_
   refine j_i (fun j => ∀ (S' : SpS) (τ' : H), SpAt σ τ' b3 b4 b5 b6 S' -> S'.out = split1 k l -> j (some ⟨b3, 0, none⟩) τ') ?_ ?_
   ·intro S' τ' h he
    have hg := h.gr
    obtain ⟨ρ, yo, yn, ys, h⟩ := h
    refine ptr_i (rd_L (rdC_of h.k3 (by rfl)) (hK yo τ' hg ?_))
    rw [<- he]
    exact ⟨ys, h.out.at, h.fl.gr h.out.1⟩
   intro j hj
   have hk5 : τ b5 = some (.cells ⟨[.bool S.bare]⟩ 4 (0, 0)) := by obtain ⟨ρ, yo, yn, ys, h⟩ := hSp; exact h.k5
   have hsp : split1 k l = if S.bare then S.out else S.out ++ [S.now] := by unfold split1; rw [<- hS]
   refine ptr_i (rd_B (rdC_of hk5 (by rfl)) ?_)
   cases hb : S.bare with
   | true => exact br_f rfl (hj S τ hSp (by rw [hsp, hb]; rfl))
   | false =>
    refine br_t rfl (cval_i go_fsplit2 (s_fend hd hSp (by unfold SpS.n at hSn2; omega) ?_))
    intro τ' h
    exact app_U (hj S.fin τ' h (by rw [hsp, hb]; rfl))
  | succ c ih =>
   intro i S τ hci hS hSp
   obtain ⟨r, hr⟩ : ∃ r, l[i]? = some r := ⟨_, List.getElem?_eq_getElem (by omega)⟩
   obtain ⟨g, o, a1, a2, a3⟩ := rnRow_at (hx.gr hSp.gr) hr
   have htk : (l.take (i + 1)).foldl (spRun k) ⟨[], [], true, false⟩ = spRun k S r := by
    rw [List.take_add_one, hr, List.foldl_append, <- hS]; rfl
   have hrt : r.t.data.toList.length + (plainL (l.take i)).length <= (plainL l).length := by
    have h1 := plainL_take l (i + 1)
    rw [List.take_add_one, hr, plainL_app, List.length_append] at h1
    have : (plainL (some r).toList).length = r.t.data.toList.length := by simp [plainL]
    omega
   have hSn : S.n + r.t.data.toList.length + 1 <= 900000 := by
    have := n_runs k (l.take i) ⟨[], [], true, false⟩
    rw [<- hS] at this
    have hz : SpS.n ⟨[], [], true, false⟩ = 0 := rfl
    have h2 : (l.take i).length <= i := by rw [List.length_take]; omega
    omega
   refine hR _ _ _ _ _ _ _ _ _ _ ?_
   refine br_t (by simp only [decide_eq_true_eq]; omega) ?_
   refine j_i (fun j => ∀ (S' : SpS) (τ' : H) v1 v2 v3, SpAt σ τ' b3 b4 b5 b6 S' -> S' = spRun k S r -> j (some ⟨bc, 0, none⟩) (some ⟨b3, 0, none⟩) (some ⟨b5, 0, none⟩) (some ⟨b6, 0, none⟩) (.func (.func 140) ⟨[]⟩ ⟨[.pointer (some ⟨b4, 0, none⟩), .pointer (some ⟨b5, 0, none⟩), .pointer (some ⟨b6, 0, none⟩)]⟩) (.func (.func 141) ⟨[]⟩ ⟨[.pointer (some ⟨b3, 0, none⟩), .pointer (some ⟨b4, 0, none⟩), .pointer (some ⟨b5, 0, none⟩)]⟩) x ((x.len : Nat) : Int) (i : Int) v1 v2 v3 τ') ?_ ?_
   ·intro S' τ' v1 v2 v3 h he
    rw [wrapS (i := i) (by omega)]
    exact ih (i + 1) S' τ' (by omega) (by rw [he, htk]) h
   intro j17 h17
   rw [a1]
   refine ptr_i (if_i ⟨by omega, by show _ < ((x.len : Nat) : Int); omega⟩ (rd_G (by rw [Int.toNat_natCast]; exact a3) ?_))
   unfold Rn.cells
   (refine app_of rfl ?_; try dsimp only)
   refine al_i ?_; intro b35 τ1 q1 e1 m1
   refine st_i2 e1 sz_Run (by rfl) (by rfl) ?_; intro τ2 p2
   have k35 := p2.same
   have gτ2 : Gr τ τ2 := q1.putF p2 m1
   have f35 : σ b35 = none := none_of hSp.gr m1
   generalize ho35 : (Obj.cells ⟨[.string r.t, .bool r.q, .bool r.s]⟩ 29 (0, 0)) = o35
   have k35' : τ2 b35 = some o35 := by rw [<- ho35]; exact k35
   have hSp2 : SpAt (σ.put b35 o35) τ2 b3 b4 b5 b6 S := hSp.more m1 gτ2 k35'
   have hget : ∀ {τ' : H} {S' : SpS}, SpAt (σ.put b35 o35) τ' b3 b4 b5 b6 S' -> τ' b35 = some (.cells ⟨[.string r.t, .bool r.q, .bool r.s]⟩ 29 (0, 0)) := fun h => by rw [ho35]; exact h.gr.get (H.put_same _ _ _)
   have hback : ∀ {τ' : H} {S' : SpS}, SpAt (σ.put b35 o35) τ' b3 b4 b5 b6 S' -> SpAt σ τ' b3 b4 b5 b6 S' := fun h => h.since (Gr.put f35 _)
   have hcl : ∀ {τ' : H} {S' : SpS}, SpAt (σ.put b35 o35) τ' b3 b4 b5 b6 S' -> τ' bc = some (.cells ⟨lc⟩ tc (0, 0)) := fun h => (hback h).gr.get hc
   clear p2 e1
   refine j_i (fun j => ∀ v1 v2 v3, j (some ⟨bc, 0, none⟩) (some ⟨b3, 0, none⟩) (some ⟨b5, 0, none⟩) (some ⟨b6, 0, none⟩) (.func (.func 140) ⟨[]⟩ ⟨[.pointer (some ⟨b4, 0, none⟩), .pointer (some ⟨b5, 0, none⟩), .pointer (some ⟨b6, 0, none⟩)]⟩) (.func (.func 141) ⟨[]⟩ ⟨[.pointer (some ⟨b3, 0, none⟩), .pointer (some ⟨b4, 0, none⟩), .pointer (some ⟨b5, 0, none⟩)]⟩) (some ⟨b35, 0, none⟩) x ((x.len : Nat) : Int) (i : Int) v1 v2 v3 (r.q || !r.s) τ2) ?_ ?_
   case refine_2 =>
    intro j hj
    refine rd_B (rdC_of k35 (by rfl)) ?_
    cases hq : r.q with
    | true => rw [hq] at hj; exact br_t rfl (hj _ _ _)
    | false => rw [hq] at hj; exact br_f rfl (rd_B (rdC_of k35 (by rfl)) (hj _ _ _))
   intro v1 v2 v3
   have hrun : spRun k S r = if r.q || !r.s then (if r.q || !sEq r.t ⟨⟨[]⟩⟩ then S.gather r else S) else r.t.data.toList.foldl (spByte k) S := rfl
   cases hqs : (r.q || !r.s) with
   | true =>
    rw [hqs, if_pos rfl] at hrun
    refine br_t rfl ?_
    refine j_i (fun j => ∀ v1 v2 v3 w1 w2 w3, j (some ⟨bc, 0, none⟩) (some ⟨b3, 0, none⟩) (some ⟨b5, 0, none⟩) (some ⟨b6, 0, none⟩) (.func (.func 140) ⟨[]⟩ ⟨[.pointer (some ⟨b4, 0, none⟩), .pointer (some ⟨b5, 0, none⟩), .pointer (some ⟨b6, 0, none⟩)]⟩) (.func (.func 141) ⟨[]⟩ ⟨[.pointer (some ⟨b3, 0, none⟩), .pointer (some ⟨b4, 0, none⟩), .pointer (some ⟨b5, 0, none⟩)]⟩) (some ⟨b35, 0, none⟩) x ((x.len : Nat) : Int) (i : Int) v1 v2 v3 w1 w2 w3 (r.q || !sEq r.t ⟨⟨[]⟩⟩) τ2) ?_ ?_
    case refine_2 =>
     intro j hj
     refine ptr_i (rd_B (rdC_of k35 (by rfl)) ?_)
     cases hq : r.q with
     | true => rw [hq] at hj; exact br_t rfl (hj _ _ _ _ _ _)
     | false =>
      rw [hq] at hj
      refine br_f rfl (ptr_i (rd_S (rdC_of k35 (by rfl)) ?_))
      rw [<- sEq_eq]
      exact hj _ _ _ _ _ _
    intro v1 v2 v3 w1 w2 w3
    cases hqe : (r.q || !sEq r.t ⟨⟨[]⟩⟩) with
    | false =>
     rw [hqe, if_neg (by decide)] at hrun
     exact br_f rfl (h17 S τ2 _ _ _ (hback hSp2) hrun.symm)
    | true =>
     rw [hqe, if_pos rfl] at hrun
     refine br_t rfl (ptr_i (rd_G (rdA_of' k35 (by rfl)) ?_))
     (refine app_of rfl ?_; try dsimp only)
     refine cval_i go_fsplit1 (s_gather hd hSp2 r (by unfold SpS.n at hSn; omega) ?_)
     intro τ3 h3
     exact app_U (h17 _ τ3 _ _ _ (hback h3) hrun.symm)
   | false =>
    rw [hqs, if_neg (by decide)] at hrun
    refine br_f rfl (ptr_i (rd_S (rdC_of k35 (by rfl)) (loop_i ?_)))
    intro R2 hR2
    have hsz : r.t.data.toList.length = r.t.size := (size_list r.t).symm
    have key2 : ∀ (c2 m : Nat) (S' : SpS) (τ' : H), c2 + m = r.t.size -> S' = (r.t.data.toList.take m).foldl (spByte k) S -> SpAt (σ.put b35 o35) τ' b3 b4 b5 b6 S' -> R2 (some ⟨bc, 0, none⟩) (some ⟨b3, 0, none⟩) (some ⟨b5, 0, none⟩) (some ⟨b6, 0, none⟩) (.func (.func 140) ⟨[]⟩ ⟨[.pointer (some ⟨b4, 0, none⟩), .pointer (some ⟨b5, 0, none⟩), .pointer (some ⟨b6, 0, none⟩)]⟩) (.func (.func 141) ⟨[]⟩ ⟨[.pointer (some ⟨b3, 0, none⟩), .pointer (some ⟨b4, 0, none⟩), .pointer (some ⟨b5, 0, none⟩)]⟩) (some ⟨b35, 0, none⟩) x ((x.len : Nat) : Int) (i : Int) v1 v2 v3 ((r.t.size : Nat) : Int) (m : Int) τ' := by
     intro c2
     induction c2 with
     | zero =>
      intro m S' τ' hm hS' h
      refine hR2 _ _ _ _ _ _ _ _ _ _ _ _ _ _ _ _ ?_
      refine br_f (by simp only [decide_eq_false_iff_not]; omega) (h17 S' τ' _ _ _ (hback h) ?_)
      rw [hS', List.take_of_length_le (by omega), hrun]
     | succ c2 ih2 =>
      intro m S' τ' hm hS' h
      obtain ⟨ch, hch⟩ : ∃ ch, r.t.data.toList[m]? = some ch := ⟨_, List.getElem?_eq_getElem (by omega)⟩
      have h256 := ch.toNat_lt
      have hS'n : S'.n + 1 <= 900000 := by
       have := n_bytes k (r.t.data.toList.take m) S
       rw [<- hS'] at this
       have h2 : (r.t.data.toList.take m).length <= m := by rw [List.length_take]; omega
       omega
      have hnx : (r.t.data.toList.take (m + 1)).foldl (spByte k) S = spByte k S' ch := by
       rw [List.take_add_one, hch, List.foldl_append, <- hS']; rfl
      refine hR2 _ _ _ _ _ _ _ _ _ _ _ _ _ _ _ _ ?_
      refine br_t (by simp only [decide_eq_true_eq]; omega) ?_
      refine j_i (fun j => ∀ (S2 : SpS) (τ2 : H), SpAt (σ.put b35 o35) τ2 b3 b4 b5 b6 S2 -> S2 = spByte k S' ch -> j (some ⟨bc, 0, none⟩) (some ⟨b3, 0, none⟩) (some ⟨b5, 0, none⟩) (some ⟨b6, 0, none⟩) (.func (.func 140) ⟨[]⟩ ⟨[.pointer (some ⟨b4, 0, none⟩), .pointer (some ⟨b5, 0, none⟩), .pointer (some ⟨b6, 0, none⟩)]⟩) (.func (.func 141) ⟨[]⟩ ⟨[.pointer (some ⟨b3, 0, none⟩), .pointer (some ⟨b4, 0, none⟩), .pointer (some ⟨b5, 0, none⟩)]⟩) (some ⟨b35, 0, none⟩) x ((x.len : Nat) : Int) (i : Int) v1 v2 v3 ((r.t.size : Nat) : Int) (m : Int) τ2) ?_ ?_
      ·intro S2 τ2 h2 he
       rw [wrapS (i := m) (by omega)]
       exact ih2 (m + 1) S2 τ2 (by omega) (by rw [he, hnx]) h2
      intro j99 h99
      refine ptr_i (rd_S (rdC_of (hget h) (by rfl)) (idx_l (c := ch) (by omega) (by simpa using hch) (ptr_i (if_i ⟨by omega, by omega⟩ ?_))))
      have eo : 0 + (((ch.toNat : Nat) : Int)).toNat * 1 = ch.toNat := by omega
      rw [eo]
      refine rd_I (rdC_of (hcl h) (hk.2 ch)) ?_
      have hsb : spByte k S' ch = if k ch = 0 then S'.gather ⟨⟨⟨[ch]⟩⟩, false, true⟩ else if S'.bare = false then { S'.fin with behind := k ch == 1 } else if k ch = 1 then S' else if S'.behind then { S' with behind := false } else S'.fin := rfl
      by_cases k0 : k ch = 0
      ·rw [if_pos k0] at hsb
       refine br_t (by simp [k0]) (ptr_i (rd_S (rdC_of (hget h) (by rfl)) ?_))
       have e1 : IntKind.i64.wrap ((m : Int) + 1) = ((m + 1 : Nat) : Int) := by rw [wrap_id (by omega) (by omega)]; omega
       rw [e1]
       refine if_i ⟨bnd_some (by omega) (by omega), bnd_some (by omega) (by omega)⟩ ?_
       have ex : r.t.extract (m : Int).toNat ((m + 1 : Nat) : Int).toNat = ⟨⟨[ch]⟩⟩ := by
        apply bytes_ext
        rw [extract_toList, Int.toNat_natCast, Int.toNat_natCast, List.take_add_one, hch, List.drop_append, List.length_take]
        have : min m r.t.data.toList.length = m := by omega
        rw [this, Nat.sub_self, List.drop_eq_nil_of_le (by rw [List.length_take]; omega)]; rfl
       rw [ex]
       refine cval_i go_fsplit1 (s_gather hd h ⟨⟨⟨[ch]⟩⟩, false, true⟩ (by unfold SpS.n at hS'n; omega) ?_)
       intro τ3 h3
       exact app_U (h99 _ τ3 h3 hsb.symm)
      rw [if_neg k0] at hsb
      have hk5 : τ' b5 = some (.cells ⟨[.bool S'.bare]⟩ 4 (0, 0)) := by obtain ⟨ρ, yo, yn, ys, h⟩ := h; exact h.k5
      refine br_f (by simpa using k0) (ptr_i (rd_B (rdC_of hk5 (by rfl)) ?_))
      cases hb : S'.bare with
      | false =>
       rw [if_pos hb] at hsb
       refine br_t rfl (cval_i go_fsplit2 (s_fend hd h (by unfold SpS.n at hS'n; omega) ?_))
       intro τ3 h3
       refine app_U ?_
       have hk6 : τ3 b6 = some (.cells ⟨[.bool S'.fin.behind]⟩ 4 (0, 0)) := by obtain ⟨ρ, yo, yn, ys, h⟩ := h3; exact h.k6
       refine st_i2 hk6 sz_bool (by rfl) (by rfl) ?_; intro τ4 p4
       exact h99 _ τ4 (h3.behind hd p4) hsb.symm
      | true =>
       rw [if_neg (by rw [hb]; decide)] at hsb
       refine br_f rfl ?_
       by_cases k1 : k ch = 1
       ·rw [if_pos k1] at hsb
        exact br_t (by simp [k1]) (h99 _ τ' h hsb.symm)
       rw [if_neg k1] at hsb
       have hk6 : τ' b6 = some (.cells ⟨[.bool S'.behind]⟩ 4 (0, 0)) := by obtain ⟨ρ, yo, yn, ys, h⟩ := h; exact h.k6
       refine br_f (by simpa using k1) (ptr_i (rd_B (rdC_of hk6 (by rfl)) ?_))
       cases hbh : S'.behind with
       | true =>
        rw [if_pos hbh] at hsb
        refine br_t rfl ?_
        refine st_i2 hk6 sz_bool (by rfl) (by rfl) ?_; intro τ4 p4
        exact h99 _ τ4 (h.behind hd p4) hsb.symm
       | false =>
        rw [if_neg (by rw [hbh]; decide)] at hsb
        refine br_f rfl (cval_i go_fsplit2 (s_fend hd h (by unfold SpS.n at hS'n; omega) ?_))
        intro τ3 h3
        exact app_U (h99 _ τ3 h3 hsb.symm)
    exact key2 r.t.size 0 S τ2 (by omega) rfl hSp2
 exact key l.length 0 _ σ6 (by omega) rfl hS0
theorem s_fSplit {L : List (List Rn)} {x : Sl} {σ : H} (hx : FldsAt σ L x) (ifs : ByteArray) (hz : ifs.size <= 1000000) (hL : L.length <= 1000) (hn : ∀ l ∈ L, l.length + (plainL l).length <= 100000) {K : KH} (hK : ∀ y σ', Gr σ σ' -> FldsAt σ' (splitP ifs L) y -> K (.slice y.base y.len y.cap) σ') :
 callW Tryz.prog 20 [.slice x.base x.len x.cap, .string ifs] K σ := by
 refine c20 _ _ ?_
 unfold g20
 refine call_i (s_fClasses ifs hz ?_)
 intro lc σ1 g1 hcl
 refine app_R ?_
 refine al_i ?_; intro b4 σ2 g2 e2 n2
 refine st_i e2 (by rw [show (arrL (Value.agg ⟨lc⟩).cells) = lc from rfl, hcl.1]; exact sz_arr) (by rw [show (arrL (Value.agg ⟨lc⟩).cells) = lc from rfl, hcl.1]; exact Nat.le_refl _) ?_ (.inl (Nat.le_refl _)) ?_
 ·intro u hu
  have hu : u ∈ lc := hu
  obtain ⟨i, hi, hu⟩ := List.getElem_of_mem hu
  have : i < 256 := by rw [<- hcl.1]; exact hi
  have h2 := hcl.2 (UInt8.ofNat i)
  have h3 : (UInt8.ofNat i).toNat = i := by rw [UInt8.toNat_ofNat']; omega
  rw [h3, List.getElem?_eq_getElem hi, hu] at h2
  rw [Option.some.inj h2]; rfl
 intro σ3 p3
 have f4 : σ b4 = none := none_of g1 n2
 have g3 : Gr σ σ3 := (g1.trans g2).putF p3 f4
 have k4 := p3.same
 have k4 : ∃ lc', σ3 b4 = some (.cells ⟨lc'⟩ 111 (0, 0)) /\ ClAt lc' (classB ifs) := by
  refine ⟨_, k4, ?_⟩
  have he : ∀ q : List Value, q.length = 256 -> q.take 0 ++ arrL (Value.agg ⟨lc⟩).cells ++ q.drop (0 + (arrL (Value.agg ⟨lc⟩).cells).length) = lc := by
   intro q hq
   rw [show (arrL (Value.agg ⟨lc⟩).cells) = lc from rfl, hcl.1, List.drop_eq_nil_of_le (by rw [hq]; exact Nat.le_refl _)]; simp
  rw [he _ (by rfl)]; exact hcl
 obtain ⟨lc', k4, hcl'⟩ := k4
 clear p3 e2
 have hxl := hx.len
 refine loop_i ?_
 intro R hR
 have key : ∀ (c i : Nat) (out : Sl) (ys : List Sl) (ρ τ : H), c + i = L.length -> Gr σ3 ρ -> RNew ρ τ 31 1 (ys.map slRow) out -> FldsIn ρ (splitP ifs (L.take i)) ys -> ys.length <= i * 100001 -> R (some ⟨b4, 0, none⟩) out x ((x.len : Nat) : Int) (i : Int) τ := by
  intro c
  induction c with
  | zero =>
   intro i out ys ρ τ hc G1 hO hF hys
   rw [List.take_of_length_le (by omega)] at hF
   refine hR _ _ _ _ _ _ ?_
   exact br_f (by simp only [decide_eq_false_iff_not]; omega) (hK out τ (g3.trans (G1.trans hO.1)) ⟨ys, hO.at, hF.gr hO.1⟩)
  | succ c ih =>
   intro i out ys ρ τ hc G1 hO hF hys
   obtain ⟨l, hl⟩ : ∃ l, L[i]? = some l := ⟨_, List.getElem?_eq_getElem (by omega)⟩
   obtain ⟨g, o, y, a1, a2, a3, a4⟩ := (hx.gr (g3.trans G1)).at hl
   have hln := hn l (List.mem_of_getElem? hl)
   refine hR _ _ _ _ _ _ ?_
   refine br_t (by simp only [decide_eq_true_eq]; omega) ?_
   rw [a1]
   refine ptr_i (if_i ⟨by omega, by show _ < ((x.len : Nat) : Int); omega⟩ (rd_L (by rw [Int.toNat_natCast]; exact rdC_gr hO.1 a3) ?_))
   have hcall := s_fsplit a4 (G1.get k4) hcl' (by omega) (K := fun v τ' => ∃ z, v = .slice z.base z.len z.cap /\ Gr ρ τ' /\ FldsAt τ' (split1 (classB ifs) l) z) (fun z τ' h1 h2 => ⟨z, rfl, h1, h2⟩)
   refine call_from hO.1 hcall ?_
   rintro v τ2 ρ2 ⟨z, rfl, r1, zs, r2, r3⟩ m1 m2 m3
   refine app_L ?_
   have hO2 : RNew ρ2 τ2 31 1 (ys.map slRow) out := ⟨m1, hO.2.1.keep fun g o hg ho => m2 g o (hO.2.2 g hg) ho, fun g hg => m3 g (hO.2.1.has hg) (hO.2.2 g hg)⟩
   have hzl : zs.length <= 100001 := by
    rw [r3.len]
    have := split1_n (classB ifs) l
    omega
   refine hO2.apps el_RunL (r2.gr m1) (slRows_one zs) (by rw [List.length_map, List.length_map]; have : i * 100001 <= 1000 * 100001 := Nat.mul_le_mul_right _ (by omega); omega) ?_
   intro out' τ3 hO3 _ _
   rw [wrapS (i := i) (by omega)]
   refine ih (i + 1) out' (ys ++ zs) ρ2 τ3 (by omega) (G1.trans r1) (by rw [List.map_append]; exact hO3) ?_ (by rw [List.length_append]; omega)
   have : splitP ifs (L.take (i + 1)) = splitP ifs (L.take i) ++ split1 (classB ifs) l := by
    rw [List.take_add_one, hl, splitP_app]; simp [splitP]
   rw [this]
   exact FldsIn.app r3 (hF.gr r1)
 exact key L.length 0 ⟨none, 0, 0⟩ [] σ3 σ3 (by omega) (Gr.refl _) (RNew.nil _ _ _) trivial (by simp)
theorem sz_fpart : sizeT Tryz.prog 186 = some 2 := by kernel_rfl
theorem el_fpart : ElT Tryz.prog 102 186 2 := elT_of (by kernel_rfl) (by decide) (by kernel_rfl)
def ptRow (y : Sl) (st : Bool) : List Value := [.slice y.base y.len y.cap, .bool st]
def PtRows (ρ : H) (l : List Pt) (rows : List (List Value)) : Prop := rows.length = l.length /\ ∀ (i : Nat) (p : Pt), l[i]? = some p -> ∃ y, rows[i]? = some (ptRow y p.st) /\ RowsAt ρ 3 (rnRows p.runs) y
theorem PtRows.gr {ρ ρ' : H} {l : List Pt} {rows : List (List Value)} (h : PtRows ρ l rows) (hg : Gr ρ ρ') : PtRows ρ' l rows := ⟨h.1, fun i p hi => by
 obtain ⟨y, h1, h2⟩ := h.2 i p hi
 exact ⟨y, h1, h2.gr hg⟩⟩
theorem PtRows.snoc {ρ : H} {l : List Pt} {rows : List (List Value)} (h : PtRows ρ l rows) {p : Pt} {y : Sl} (hy : RowsAt ρ 3 (rnRows p.runs) y) : PtRows ρ (l ++ [p]) (rows ++ [ptRow y p.st]) := by
 refine ⟨by simp [h.1], fun i q hi => ?_⟩
 rw [List.getElem?_append] at hi
 by_cases hlt : i < l.length
 ·rw [if_pos hlt] at hi
  obtain ⟨w, h1, h2⟩ := h.2 i q hi
  exact ⟨w, by rw [List.getElem?_append_left (by rw [h.1]; exact hlt)]; exact h1, h2⟩
 ·rw [if_neg hlt] at hi
  have : i - l.length = 0 := by
   rcases Nat.eq_zero_or_pos (i - l.length) with h | h
   ·exact h
   ·rw [List.getElem?_eq_none (by simp; omega)] at hi; cases hi
  rw [this] at hi
  simp at hi; subst hi
  refine ⟨y, ?_, hy⟩
  rw [List.getElem?_append_right (by rw [h.1]; omega), h.1, this]; rfl
def PtsAt (σ : H) (l : List Pt) (x : Sl) : Prop := x.len <= x.cap /\ ∃ rows, RowsAt σ 2 rows x /\ PtRows σ l rows
theorem PtsAt.gr {σ σ' : H} {l : List Pt} {x : Sl} (h : PtsAt σ l x) (hg : Gr σ σ') : PtsAt σ' l x := by
 obtain ⟨hc, rows, h1, h2⟩ := h
 exact ⟨hc, rows, h1.gr hg, h2.gr hg⟩
theorem PtsAt.len {σ : H} {l : List Pt} {x : Sl} (h : PtsAt σ l x) : x.len = l.length := by
 obtain ⟨_, rows, h1, h2⟩ := h
 rw [h1.1, h2.1]
theorem PtsAt.at {σ : H} {l : List Pt} {x : Sl} (h : PtsAt σ l x) {i : Nat} {p : Pt} (hi : l[i]? = some p) : ∃ g o y, x.base = some ⟨g, o, none⟩ /\ i < x.len /\ rdA 2 g (o + i * 2) σ = some (.agg ⟨ptRow y p.st⟩) /\ RowsAt σ 3 (rnRows p.runs) y := by
 have hl := h.len
 obtain ⟨_, rows, h1, h2⟩ := h
 obtain ⟨y, h3, h4⟩ := h2.2 i p hi
 obtain ⟨g, o, a1, a2, a3⟩ := h1.rdA h3 (by decide)
 refine ⟨g, o, y, a1, ?_, a2, h4⟩
 rw [hl]
 rcases Nat.lt_or_ge i l.length with h | h
 ·exact h
 ·rw [List.getElem?_eq_none h] at hi; cases hi
theorem rowsOwn_cap {σ : H} {e : TypeId} {n : Nat} {rows : List (List Value)} {x : Sl} (h : RowsOwn σ e n rows x) : x.len <= x.cap := by
 obtain ⟨h1, _, ⟨_, _, h3⟩ | ⟨_, _, _, _, _, h4, _⟩⟩ := h
 ·rw [h1, h3]; exact Nat.zero_le _
 ·exact h4
inductive PtG (σ τ : H) (out : Sl) : List Pt -> Prop where
 | nil : Gr σ τ -> out = ⟨none, 0, 0⟩ -> PtG σ τ out []
 | snoc (ρ : H) (init : List Pt) (last : Pt) (rows : List (List Value)) (yn : Sl) : Gr σ ρ -> RNew ρ τ 186 2 (rows ++ [ptRow yn last.st]) out -> PtRows ρ init rows -> RNew ρ τ 29 3 (rnRows last.runs) yn -> (∀ g, out.base = some ⟨g, 0, none⟩ -> yn.base ≠ some ⟨g, 0, none⟩) -> PtG σ τ out (init ++ [last])
theorem PtG.gr {σ τ : H} {out : Sl} {l : List Pt} (h : PtG σ τ out l) : Gr σ τ := by
 cases h with
 | nil h _ => exact h
 | snoc ρ init last rows yn g1 hO _ _ _ => exact g1.trans hO.1
theorem PtG.more {σ τ τ2 : H} {out : Sl} {l : List Pt} {b : Nat} {o : Obj} (h : PtG σ τ out l) (hn : τ b = none) (hg : Gr τ τ2) (hb : τ2 b = some o) : PtG (σ.put b o) τ2 out l := by
 cases h with
 | nil h e => exact .nil ((h.trans hg).put_in hb) e
 | snoc ρ init last rows yn g1 hO hP hN hne =>
  have hρ : ρ b = none := none_of hO.1 hn
  refine .snoc (ρ.put b o) init last rows yn (gr_put_both g1 o (none_of g1 hρ)) ⟨(hO.1.trans hg).put_in hb, hO.2.1.gr hg, fun g hx => none_put (hO.2.2 g hx) fun e => ?_⟩ (hP.gr (Gr.put hρ o)) ⟨(hN.1.trans hg).put_in hb, hN.2.1.gr hg, fun g hx => none_put (hN.2.2 g hx) fun e => ?_⟩ hne
  ·rw [e] at hx; exact hO.2.1.has hx hn
  ·rw [e] at hx; exact hN.2.1.has hx hn
theorem PtG.since {σ0 σ τ : H} {out : Sl} {l : List Pt} (hg : Gr σ0 σ) (h : PtG σ τ out l) : PtG σ0 τ out l := by
 cases h with
 | nil h e => exact .nil (hg.trans h) e
 | snoc ρ init last rows yn g1 hO hP hN hne => exact .snoc ρ init last rows yn (hg.trans g1) hO hP hN hne
theorem PtG.done {σ τ : H} {out : Sl} {l : List Pt} (h : PtG σ τ out l) : PtsAt τ l out := by
 cases h with
 | nil h e => rw [e]; exact ⟨Nat.le_refl _, [], ⟨rfl, .inl rfl⟩, rfl, fun i p h => by simp at h⟩
 | snoc ρ init last rows yn g1 hO hP hN hne => exact ⟨rowsOwn_cap hO.2.1, _, hO.at, (hP.gr hO.1).snoc hN.at⟩
theorem PtG.len {σ τ : H} {out : Sl} {l : List Pt} (h : PtG σ τ out l) : out.len = l.length := h.done.len
theorem freeze_own {ρ τ : H} {e : TypeId} {n : Nat} {rows : List (List Value)} {y : Sl} (h : RNew ρ τ e n rows y) : ∃ ρ2 : H, Gr ρ ρ2 /\ Gr ρ2 τ /\ RowsAt ρ2 n rows y /\ ∀ c, ρ c = none -> y.base ≠ some ⟨c, 0, none⟩ -> ρ2 c = none := by
 obtain ⟨q1, q2, ⟨q3, q4, q5⟩ | ⟨g, cur, q3, q4, q5⟩⟩ := id h.2.1
 ·exact ⟨ρ, Gr.refl _, h.1, ⟨q1, .inl q5⟩, fun c hc _ => hc⟩
 ·refine ⟨ρ.put g (.cells ⟨cur⟩ e (0, 0)), Gr.put (h.2.2 g q3) _, h.1.put_in q4, ?_, fun c hc hne => none_put hc fun e => hne (by rw [e]; exact q3)⟩
  have : RowsOwn (ρ.put g (.cells ⟨cur⟩ e (0, 0))) e n rows y := ⟨q1, q2, .inr ⟨g, cur, q3, H.put_same _ _ _, q5⟩⟩
  exact this.rows
theorem partAdd_snoc (init : List Pt) (last : Pt) (c : Ch) : partAdd (init ++ [last]) c = if last.st == (c.1 == 47) then init ++ [⟨last.l ++ [c], last.st⟩] else init ++ [last] ++ [⟨[c], c.1 == 47⟩] := by
 induction init with
 | nil =>
  show (if (last.st == (c.1 == 47)) = true then _ else _) = _
  split <;> rfl
 | cons p r ih =>
  have : partAdd (p :: r ++ [last]) c = p :: partAdd (r ++ [last]) c := by
   cases r with
   | nil => rfl
   | cons q r => rfl
  rw [this, ih]
  split <;> rfl
def ptN (l : List Pt) : Nat := (l.map fun p => p.l.length).sum
theorem partAdd_n (l : List Pt) (c : Ch) : ptN (partAdd l c) = ptN l + 1 /\ (partAdd l c).length <= l.length + 1 := by
 induction l with
 | nil => exact ⟨rfl, Nat.le_refl _⟩
 | cons p r ih =>
  match r, ih with
  | [], _ =>
   show ptN (if (p.st == (c.1 == 47)) = true then _ else _) = _ /\ (if (p.st == (c.1 == 47)) = true then _ else _ : List Pt).length <= _
   split <;> exact ⟨by simp [ptN], by simp⟩
  | q :: r, ih =>
   have : partAdd (p :: q :: r) c = p :: partAdd (q :: r) c := rfl
   rw [this]
   refine ⟨?_, ?_⟩
   ·have h := ih.1
    unfold ptN at h ⊢
    simp only [List.map_cons, List.sum_cons] at h ⊢
    omega
   ·have := ih.2
    simp only [List.length_cons] at this ⊢
    omega
theorem parts_n (l : List Ch) (acc : List Pt) : ptN (l.foldl partAdd acc) = ptN acc + l.length /\ (l.foldl partAdd acc).length <= acc.length + l.length := by
 induction l generalizing acc with
 | nil => exact ⟨rfl, Nat.le_refl _⟩
 | cons c r ih =>
  rw [List.foldl_cons]
  obtain ⟨h1, h2⟩ := ih (partAdd acc c)
  obtain ⟨h3, h4⟩ := partAdd_n acc c
  simp only [List.length_cons]
  exact ⟨by omega, by omega⟩
theorem ptN_le {l : List Pt} {p : Pt} (h : p ∈ l) : p.l.length <= ptN l := by
 unfold ptN
 induction l with
 | nil => cases h
 | cons q r ih =>
  simp only [List.map_cons, List.sum_cons]
  rcases List.mem_cons.1 h with rfl | h
  ·omega
  ·have := ih h; omega
theorem s_fParts {p : List Rn} {x : Sl} {σ : H} (hx : RowsAt σ 3 (rnRows p) x) (hp : p.length <= 1000000) (hn : (charsR p).length <= 1000000) {K : KH} (hK : ∀ y σ', Gr σ σ' -> PtsAt σ' (partsR p) y -> K (.slice y.base y.len y.cap) σ') :
 callW Tryz.prog 68 [.slice x.base x.len x.cap] K σ := by
 refine c68 _ ?_
 unfold g68
 have hxl : x.len = p.length := by have := hx.1; simpa [rnRows] using this
 refine loop_i ?_
 intro R hR
 have key : ∀ (c i : Nat) (out : Sl) (τ : H), c + i = p.length -> PtG σ τ out ((charsR (p.take i)).foldl partAdd []) -> R out x ((x.len : Nat) : Int) (i : Int) τ := by
  intro c
  induction c with
  | zero =>
   intro i out τ hc hG
   rw [List.take_of_length_le (by omega)] at hG
   refine hR _ _ _ _ _ ?_
   exact br_f (by simp only [decide_eq_false_iff_not]; omega) (hK out τ hG.gr hG.done)
  | succ c ih =>
   intro i out τ hc hG
   obtain ⟨r, hr⟩ : ∃ r, p[i]? = some r := ⟨_, List.getElem?_eq_getElem (by omega)⟩
   obtain ⟨g, o, a1, a2, a3⟩ := rnRow_at (hx.gr hG.gr) hr
   refine hR _ _ _ _ _ ?_
   refine br_t (by simp only [decide_eq_true_eq]; omega) ?_
   rw [a1]
   refine ptr_i (if_i ⟨by omega, by show _ < ((x.len : Nat) : Int); omega⟩ (rd_G (by rw [Int.toNat_natCast]; exact a3) ?_))
   unfold Rn.cells
   (refine app_of rfl ?_; try dsimp only)
   refine al_i ?_; intro b12 τ1 q1 e1 m1
   refine st_i2 e1 sz_Run (by rfl) (by rfl) ?_; intro τ2 p2
   have k12 := p2.same
   have gτ2 : Gr τ τ2 := q1.putF p2 m1
   have f12 : σ b12 = none := none_of hG.gr m1
   generalize ho : (Obj.cells ⟨[.string r.t, .bool r.q, .bool r.s]⟩ 29 (0, 0)) = o12
   have hG2 : PtG (σ.put b12 o12) τ2 out ((charsR (p.take i)).foldl partAdd []) := hG.more m1 gτ2 (by rw [<- ho]; exact k12)
   have hget : ∀ {τ' : H} {out' : Sl} {l' : List Pt}, PtG (σ.put b12 o12) τ' out' l' -> τ' b12 = some (.cells ⟨[.string r.t, .bool r.q, .bool r.s]⟩ 29 (0, 0)) := fun h => by rw [ho]; exact h.gr.get (H.put_same _ _ _)
   clear p2 e1
   have htk : charsR (p.take (i + 1)) = charsR (p.take i) ++ r.chs := by rw [List.take_add_one, hr, charsR_app]; simp [charsR]
   have hcl : (charsR (p.take i)).length + r.t.size <= 1000000 := by
    have h1 : charsR p = charsR (p.take (i + 1)) ++ charsR (p.drop (i + 1)) := by rw [<- charsR_app, List.take_append_drop]
    rw [h1, htk, List.length_append, List.length_append, chs_len] at hn; omega
   refine rd_S (rdC_of k12 (by rfl)) (loop_i ?_)
   intro R2 hR2
   have key2 : ∀ (c2 k : Nat) (out : Sl) (τ : H), c2 + k = r.t.size -> PtG (σ.put b12 o12) τ out ((charsR (p.take i) ++ r.chs.take k).foldl partAdd []) -> R2 out (some ⟨b12, 0, none⟩) x ((x.len : Nat) : Int) (i : Int) ((r.t.size : Nat) : Int) (k : Int) τ := by
    intro c2
    induction c2 with
    | zero =>
     intro k out τ hk hG
     refine hR2 _ _ _ _ _ _ _ _ ?_
     refine br_f (by simp only [decide_eq_false_iff_not]; omega) ?_
     rw [wrapS (i := i) (by omega)]
     refine ih (i + 1) out τ (by omega) ?_
     rw [htk]
     have htr : r.chs.take k = r.chs := List.take_of_length_le (by rw [chs_len]; omega)
     rw [htr] at hG
     exact hG.since (Gr.put f12 _)
    | succ c2 ih2 =>
     intro k out τ hk hG
     have hlen : r.t.data.toList.length = r.t.size := (size_list r.t).symm
     obtain ⟨ch, hch⟩ : ∃ ch, r.t.data.toList[k]? = some ch := ⟨_, List.getElem?_eq_getElem (by omega)⟩
     have hchs : r.chs[k]? = some (ch, r.q) := by unfold Rn.chs; rw [List.getElem?_map, hch]; rfl
     have hnx : (charsR (p.take i) ++ r.chs.take (k + 1)).foldl partAdd [] = partAdd ((charsR (p.take i) ++ r.chs.take k).foldl partAdd []) (ch, r.q) := by
      rw [List.take_add_one, hchs, <- List.append_assoc, List.foldl_append]; rfl
     have hpn := parts_n (charsR (p.take i) ++ r.chs.take k) []
     have hlk : (charsR (p.take i) ++ r.chs.take k).length <= 1000000 := by rw [List.length_append, List.length_take]; omega
     generalize (charsR (p.take i) ++ r.chs.take k).foldl partAdd [] = acc at hG hnx hpn
     have hz : ptN [] = 0 := rfl
     rw [hz] at hpn
     simp only [List.length_nil] at hpn
     have hol := hG.len
     have k12 := hget hG
     refine hR2 _ _ _ _ _ _ _ _ ?_
     refine br_t (by simp only [decide_eq_true_eq]; omega) (ptr_i (rd_S (rdC_of k12 (by rfl)) (idx_l (c := ch) (by omega) (by simpa using hch) ?_)))
     have q47 : (((ch.toNat : Nat) : Int) == 47) = (ch == 47) := u8_beq ch 47
     -- it goes into the last part
     refine j_i (fun j => ∀ (out' : Sl) (τ' : H) (init : List Pt) (last : Pt) (v1 v2 v3 v4 v5 v6 v7 v8 : Value), PtG (σ.put b12 o12) τ' out' (init ++ [last]) -> init ++ [⟨last.l ++ [(ch, r.q)], last.st⟩] = partAdd acc (ch, r.q) -> last.l.length <= 1000000 -> init.length <= 1000000 -> j out' (some ⟨b12, 0, none⟩) (k : Int) x ((x.len : Nat) : Int) (i : Int) ((r.t.size : Nat) : Int) (k : Int) v1 v2 v3 v4 v5 v6 v7 v8 τ') ?_ ?_
     ·intro out' τ' init last v1 v2 v3 v4 v5 v6 v7 v8 h he hll hil
      have k12 := hget h
      have hol' := h.len
      rw [List.length_append] at hol'
      simp only [List.length_cons, List.length_nil] at hol'
      have hwl : IntKind.i64.wrap ((((out'.len : Nat) : Int)) - 1) = ((init.length : Nat) : Int) := by rw [wrap_id (by omega) (by omega)]; omega
      generalize hL : init ++ [last] = L at h
      cases h with
      | nil _ _ => simp at hL
      | snoc ρ init' last' rows yn g1 hO hP hN hne =>
       obtain ⟨e1, e2⟩ := List.append_inj' hL rfl
       injection e2 with e2 _
       subst e1; subst e2
       have hrl : (rows ++ [ptRow yn last.st])[init.length]? = some (ptRow yn last.st) := by rw [<- hP.1, List.getElem?_append_right (Nat.le_refl _), Nat.sub_self]; rfl
       obtain ⟨g, cur, w1, w2, w3, w4, w5, w6⟩ := hO.2.1.setc (k := 0) hrl (by decide)
       rw [hwl, w1]
       have hng := hO.2.2 g w1
       have hsz : ∀ q : List UInt8, q.length = r.t.size -> True := fun _ _ => trivial
       refine ptr_i (if_i ⟨by omega, by show _ < ((out'.len : Nat) : Int); omega⟩ (rd_L (rdC_of w2 (by rw [Int.toNat_natCast, Nat.zero_add]; exact w4)) (ptr_i (rd_S (rdC_of k12 (by rfl)) ?_))))
       have e1 : IntKind.i64.wrap ((k : Int) + 1) = ((k + 1 : Nat) : Int) := by rw [wrap_id (by omega) (by omega)]; omega
       rw [e1]
       refine if_i ⟨bnd_some (by omega) (by omega), bnd_some (by omega) (by omega)⟩ (ptr_i (rd_B (rdC_of k12 (by rfl)) ?_))
       have ex : r.t.extract (k : Int).toNat ((k + 1 : Nat) : Int).toNat = ⟨⟨[ch]⟩⟩ := by
        apply bytes_ext
        rw [extract_toList, Int.toNat_natCast, Int.toNat_natCast, List.take_add_one, hch, List.drop_append, List.length_take]
        have : min k r.t.data.toList.length = k := by omega
        rw [this, Nat.sub_self, List.drop_eq_nil_of_le (by rw [List.length_take]; omega)]; rfl
       rw [ex]
       refine hN.app1 el_Run rfl rfl (by unfold rnRows Pt.runs; rw [List.length_map, List.length_map]; omega) ?_
       intro yn' τ2 hN2 hkeep hb
       have w2' := hkeep g _ w2 (hne g w1)
       have hO2 : RowsOwn τ2 186 2 (rows ++ [ptRow yn last.st]) out' := hO.2.1.keep fun g' o hg' ho => by
        rw [w1] at hg'; cases hg'
        exact hkeep g o ho (hne g w1)
       obtain ⟨g2, cur2, y1, y2, y3, y4, y5, y6⟩ := hO2.setc (k := 0) hrl (by decide)
       rw [w1] at y1; cases y1
       have hofs : 0 + (((init.length : Nat) : Int)).toNat * 2 = init.length * 2 + 0 := by omega
       rw [hofs]
       refine st_set y2 sz_RunL rfl rfl y3 ?_
       intro τ3 p3
       have hgyn : yn'.base ≠ some ⟨g, 0, none⟩ := by
        intro e
        rcases hb g e with e2 | e2
        ·exact hne g w1 e2
        ·rw [w2] at e2; cases e2
       have hO3 := y6 (.slice yn'.base yn'.len yn'.cap) τ3 p3
       have hrs : (rows ++ [ptRow yn last.st]).set init.length ((ptRow yn last.st).set 0 (.slice yn'.base yn'.len yn'.cap)) = rows ++ [ptRow yn' last.st] := by
        rw [<- hP.1, List.set_append_right _ _ (Nat.le_refl _), Nat.sub_self]; rfl
       rw [hrs] at hO3
       refine ih2 (k + 1) out' τ3 (by omega) ?_
       rw [hnx, <- he]
       have hrr : rnRows (Pt.runs ⟨last.l ++ [(ch, r.q)], last.st⟩) = rnRows last.runs ++ [[.string ⟨⟨[ch]⟩⟩, .bool r.q, .bool false]] := by
        unfold rnRows Pt.runs; simp [Ch.rn, Rn.cells]
       refine .snoc ρ init ⟨last.l ++ [(ch, r.q)], last.st⟩ rows yn' g1 ⟨hN2.1.putF p3 hng, hO3, hO.2.2⟩ hP ?_ (fun g' hg' => by rw [w1] at hg'; cases hg'; exact hgyn)
       rw [hrr]
       exact hN2.putF p3 hng hgyn
     intro j26 h26
     refine j_i (fun j => ∀ (v1 v2 v3 v4 v5 v6 v7 v8 : Value) (t : Bool), (t = true -> ∀ q, acc.getLast? = some q -> (q.st == (ch == 47)) = false) -> (t = false -> ∃ q, acc.getLast? = some q /\ (q.st == (ch == 47)) = true) -> j out (some ⟨b12, 0, none⟩) (k : Int) (ch == 47) x ((x.len : Nat) : Int) (i : Int) ((r.t.size : Nat) : Int) (k : Int) v1 v2 v3 v4 v5 v6 v7 v8 t τ) ?_ ?_
     case refine_2 =>
      intro j hj
      rw [q47]
      by_cases h0 : acc = []
      ·subst h0
       exact br_t (by rw [hol]; rfl) (hj _ _ _ _ _ _ _ _ _ (fun _ q h => by cases h) (fun h => by cases h))
      ·obtain ⟨init, last, rfl⟩ : ∃ init last, acc = init ++ [last] := ⟨acc.dropLast, acc.getLast h0, (List.dropLast_concat_getLast h0).symm⟩
       rw [List.length_append] at hol
       simp only [List.length_cons, List.length_nil] at hol
       have hil : init.length + 1 <= 1000000 := by have := hpn.2; rw [List.length_append] at this; simp only [List.length_cons, List.length_nil] at this; omega
       have hwl : IntKind.i64.wrap ((((out.len : Nat) : Int)) - 1) = ((init.length : Nat) : Int) := by rw [wrap_id (by omega) (by omega)]; omega
       refine br_f (by rw [hol]; simp; omega) ?_
       rw [hwl]
       obtain ⟨g, o, y, w1, w2, w3, w4⟩ := hG.done.at (i := init.length) (p := last) (by rw [List.getElem?_append_right (Nat.le_refl _), Nat.sub_self]; rfl)
       have w5 : rdC g (o + init.length * 2 + 1) τ = some (.bool last.st) := by
        obtain ⟨_, rows, z1, z2⟩ := hG.done
        obtain ⟨y', z3, _⟩ := z2.2 init.length last (by rw [List.getElem?_append_right (Nat.le_refl _), Nat.sub_self]; rfl)
        obtain ⟨g', o', z4, _, z5⟩ := z1.rdA z3 (by decide)
        rw [w1] at z4; cases z4
        exact z5 1 _ rfl
       have ew1 := w1
       rw [w1]
       refine ptr_i (if_i ⟨by omega, by show _ < ((out.len : Nat) : Int); omega⟩ (rd_B (by rw [Int.toNat_natCast]; exact w5) ?_))
       rw [<- ew1]
       refine hj _ _ _ _ _ _ _ _ _ (fun h q hq => ?_) (fun h => ⟨last, by simp, ?_⟩)
       ·rw [List.getLast?_append] at hq
        simp at hq; subst hq
        simpa using h
       ·simpa using h
     intro v1 v2 v3 v4 v5 v6 v7 v8 t ht1 ht2
     cases t with
     | false =>
      obtain ⟨q, hq, hqs⟩ := ht2 rfl
      have h0 : acc ≠ [] := by intro e; rw [e] at hq; cases hq
      obtain ⟨init, last, rfl⟩ : ∃ init last, acc = init ++ [last] := ⟨acc.dropLast, acc.getLast h0, (List.dropLast_concat_getLast h0).symm⟩
      rw [List.getLast?_append] at hq
      simp at hq; subst hq
      have hl1 := ptN_le (l := init ++ [last]) (p := last) (by simp)
      have hl2 := hpn.2
      rw [List.length_append] at hl2
      refine br_f rfl (h26 out τ init last _ _ _ _ _ _ _ _ hG ?_ (by omega) (by omega))
      rw [partAdd_snoc, if_pos hqs]
     | true =>
      have hnew : acc ++ [⟨[(ch, r.q)], ch == 47⟩] = partAdd acc (ch, r.q) := by
       by_cases h0 : acc = []
       ·subst h0; rfl
       ·obtain ⟨init, last, rfl⟩ : ∃ init last, acc = init ++ [last] := ⟨acc.dropLast, acc.getLast h0, (List.dropLast_concat_getLast h0).symm⟩
        have := ht1 rfl last (by simp)
        rw [partAdd_snoc, if_neg (by rw [this]; decide)]
      have hal : acc.length <= 1000000 := by omega
      refine br_t rfl ?_
      cases hG with
      | nil hg e =>
       subst e
       refine (RNew.nil' hg 186 2).app1 el_fpart (r := [.slice none 0 0, .bool (ch == 47)]) rfl rfl (by simp) ?_
       intro out' τ' hO' _ _
       refine h26 out' τ' [] ⟨[], ch == 47⟩ _ _ _ _ _ _ _ _ ?_ hnew (Nat.zero_le _) (Nat.zero_le _)
       exact .snoc (σ.put b12 o12) [] ⟨[], ch == 47⟩ [] ⟨none, 0, 0⟩ (Gr.refl _) hO' ⟨rfl, fun i p h => by simp at h⟩ (RNew.nil' hO'.1 _ _) (fun g _ h => by cases h)
      | snoc ρ init last rows yn g1 hO hP hN hne =>
       obtain ⟨ρ2, r1, r2, r3, r4⟩ := freeze_own hN
       have hO2 : RNew ρ2 τ 186 2 (rows ++ [ptRow yn last.st]) out := ⟨r2, hO.2.1, fun g hg => r4 g (hO.2.2 g hg) (hne g hg)⟩
       have hrl : rows.length = init.length := hP.1
       rw [List.length_append] at hal
       refine hO2.app1 el_fpart (r := [.slice none 0 0, .bool (ch == 47)]) rfl rfl (by rw [List.length_append]; simp; omega) ?_
       intro out' τ' hO' _ _
       refine h26 out' τ' (init ++ [last]) ⟨[], ch == 47⟩ _ _ _ _ _ _ _ _ ?_ hnew (Nat.zero_le _) (by rw [List.length_append]; exact hal)
       exact .snoc ρ2 (init ++ [last]) ⟨[], ch == 47⟩ (rows ++ [ptRow yn last.st]) ⟨none, 0, 0⟩ (g1.trans r1) hO' ((hP.gr r1).snoc r3) (RNew.nil' hO'.1 _ _) (fun g _ h => by cases h)
   exact key2 r.t.size 0 out τ2 (by omega) (by simpa using hG2)
 exact key p.length 0 ⟨none, 0, 0⟩ σ (by omega) (by simpa [charsR] using PtG.nil (Gr.refl _) rfl)
def SayS (ρ : H) (v : Value) (l : List ByteArray) (f : ByteArray -> Bool) : Prop := ∀ s ∈ l, ∀ (σ' : H) (K : KH), Gr ρ σ' -> K (.bool (f s)) σ' -> callVW Tryz.prog v [.string s] K σ'
theorem strRow_at {σ : H} {l : List ByteArray} {x : Sl} (h : RowsAt σ 1 (strRows l) x) {i : Nat} {s : ByteArray} (hi : l[i]? = some s) : ∃ g o, x.base = some ⟨g, o, none⟩ /\ i < x.len /\ rdC g (o + i * 1) σ = some (.string s) := by
 obtain ⟨g, o, h1, h2, h3⟩ := h.rdA (i := i) (r := [.string s]) (by unfold strRows; rw [List.getElem?_map, hi]; rfl) (by decide)
 refine ⟨g, o, h1, ?_, by simpa using h3 0 _ rfl⟩
 have hl : x.len = l.length := by rw [h.1]; simp [strRows]
 rw [hl]
 rcases Nat.lt_or_ge i l.length with h | h
 ·exact h
 ·rw [List.getElem?_eq_none h] at hi; cases hi
def findS (f : ByteArray -> Bool) : List ByteArray -> Option Nat
 | [] => none
 | c :: r => if f c then some 0 else (findS f r).map (· + 1)
theorem findS_drop (f : ByteArray -> Bool) : ∀ (l : List ByteArray) (k : Nat), (∀ i c, i < k -> l[i]? = some c -> f c = false) -> k <= l.length -> findS f l = (findS f (l.drop k)).map (· + k) := by
 intro l
 induction l with
 | nil => intro k _ hk; have : k = 0 := by simpa using hk
          subst this; rfl
 | cons c r ih =>
  intro k h hk
  cases k with
  | zero => rw [List.drop_zero]; cases findS f (c :: r) <;> rfl
  | succ k =>
   have h0 := h 0 c (by omega) rfl
   rw [findS, h0]
   simp only [Bool.false_eq_true, if_false, List.drop_succ_cons]
   rw [ih k (fun i d hi hd => h (i + 1) d (by omega) (by simpa using hd)) (by simpa using hk)]
   cases findS f (r.drop k) <;> simp; omega
theorem findS_none {f : ByteArray -> Bool} : ∀ {l : List ByteArray}, findS f l = none -> ∀ s ∈ l, f s = false := by
 intro l
 induction l with
 | nil => intro _ s h; cases h
 | cons c r ih =>
  intro h s hs
  rw [findS] at h
  split at h
  ·cases h
  ·rename_i hc
   rcases List.mem_cons.1 hs with rfl | hs
   ·simpa using hc
   ·refine ih ?_ s hs
    cases hq : findS f r with
    | none => rfl
    | some k => rw [hq] at h; cases h
theorem findS_some {f : ByteArray -> Bool} : ∀ {l : List ByteArray} {n : Nat}, findS f l = some n -> (∀ s ∈ l.take n, f s = false) /\ ∃ s, l[n]? = some s /\ f s = true := by
 intro l
 induction l with
 | nil => intro n h; cases h
 | cons c r ih =>
  intro n h
  rw [findS] at h
  split at h
  ·rename_i hc
   cases h; exact ⟨by simp, c, rfl, hc⟩
  ·rename_i hc
   cases hq : findS f r with
   | none => rw [hq] at h; cases h
   | some k =>
    rw [hq] at h
    simp at h; subst h
    obtain ⟨h1, s, h2, h3⟩ := ih hq
    refine ⟨fun s hs => ?_, s, by simpa using h2, h3⟩
    rw [List.take_succ_cons] at hs
    rcases List.mem_cons.1 hs with rfl | hs
    ·simpa using hc
    ·exact h1 s hs
theorem s_IdxS {l : List ByteArray} {x : Sl} {σ ρ : H} {v : Value} {f : ByteArray -> Bool} (hx : RowsAt σ 1 (strRows l) x) (hv : SayS ρ v l f) (hg : Gr ρ σ) (hn : l.length <= 4000000000000000000) {K : KH} (hK : K (.int .i64 (((findS f l).map fun (n : Nat) => (n : Int)).getD (-1))) σ) :
 callW Tryz.prog 242 [.slice x.base x.len x.cap, v] K σ := by
 refine c242 _ _ ?_
 unfold g242
 have hl : x.len = l.length := by rw [hx.1]; simp [strRows]
 refine loop_i ?_
 intro R hR
 have key : ∀ (c i : Nat), c + i = l.length -> (∀ k d, k < i -> l[k]? = some d -> f d = false) -> R x v ((x.len : Nat) : Int) (i : Int) σ := by
  intro c
  induction c with
  | zero =>
   intro i hc hno
   refine hR _ _ _ _ _ ?_
   refine br_f (by simp only [decide_eq_false_iff_not]; omega) ?_
   have : findS f l = none := by
    rw [findS_drop _ l i hno (by omega), List.drop_eq_nil_of_le (by omega)]; rfl
   rw [this] at hK; exact hK
  | succ c ih =>
   intro i hc hno
   obtain ⟨d, hd⟩ : ∃ d, l[i]? = some d := ⟨_, List.getElem?_eq_getElem (by omega)⟩
   obtain ⟨g, o, h1, h2, h3⟩ := strRow_at hx hd
   refine hR _ _ _ _ _ ?_
   refine br_t (by simp only [decide_eq_true_eq]; omega) ?_
   rw [h1]
   refine ptr_i (if_i ⟨by omega, by show _ < ((x.len : Nat) : Int); omega⟩ (rd_S (by rw [Int.toNat_natCast]; exact h3) ?_))
   refine cvalv_i (hv d (List.mem_of_getElem? hd) σ _ hg (app_B ?_))
   cases hb : f d with
   | true =>
    refine br_t rfl ?_
    have : findS f l = some i := by
     rw [findS_drop _ l i hno (by omega), drop_cons hd, findS]; simp [hb]
    rw [this] at hK; exact hK
   | false =>
    refine br_f rfl ?_
    rw [wrapS (i := i) (by omega)]
    refine ih (i + 1) (by omega) fun k e hk he => ?_
    by_cases e2 : k = i
    ·subst e2; rw [hd] at he; cases he; exact hb
    ·exact hno k e (by omega) he
 exact key l.length 0 (by omega) (fun k d hk => by omega)
theorem strRows_flat (l : List ByteArray) : (strRows l).flatten = l.map Value.string := by
 induction l with
 | nil => rfl
 | cons a r ih =>
  have ih : (r.map fun s => [Value.string s]).flatten = r.map Value.string := ih
  simp [strRows, ih]
theorem und_strs16 : Tryz.prog.underlying 22 = some (.slice 9) := by kernel_rfl
theorem s_DelF {l : List ByteArray} {x : Sl} {σ ρ : H} {v : Value} {f : ByteArray -> Bool} (hx : RNew ρ σ 9 1 (strRows l) x) (hv : SayS ρ v l f) (hn : l.length <= 4000000000000000000) {K : KH} (hK : ∀ y σ', Gr ρ σ' -> RowsAt σ' 1 (strRows (l.filter fun s => !f s)) y -> (∀ c o, σ c = some o -> x.base ≠ some ⟨c, 0, none⟩ -> σ' c = some o) -> K (.slice y.base y.len y.cap) σ') :
 callW Tryz.prog 195 [.slice x.base x.len x.cap, v] K σ := by
 refine c195 _ _ ?_
 unfold g195
 refine call_i (s_IdxS hx.at hv hx.1 hn (app_I ?_))
 cases hf : findS f l with
 | none =>
  refine br_t rfl (hK x σ hx.1 ?_ (fun c o hc _ => hc))
  have : l.filter (fun s => !f s) = l := List.filter_eq_self.2 fun s hs => by rw [findS_none hf s hs]; rfl
  rw [this]; exact hx.at
 | some n =>
  obtain ⟨hno, s0, hs0, hfs0⟩ := findS_some hf
  have hnl : n < l.length := by
   rcases Nat.lt_or_ge n l.length with h | h
   ·exact h
   ·rw [List.getElem?_eq_none h] at hs0; cases hs0
  have hl : x.len = l.length := by rw [hx.len]; simp [strRows]
  have hne : ((n : Int) == (-1)) = false := by simp
  refine br_f hne ?_
  show loopW _ _ _ _
  obtain ⟨q1, q2, ⟨_, _, q3⟩ | ⟨g, cur, a1, a2, a3, a4, a5⟩⟩ := id hx.2.1
  ·have : l = [] := by simpa [strRows] using q3
   rw [this] at hnl; cases hnl
  have hgρ := hx.2.2 g a1
  rw [strRows_flat, Nat.mul_one, hl] at a5
  have hcl : l.length <= cur.length := by rw [a3, Nat.mul_one]; omega
  have hcur : ∀ (m : Nat) (s : ByteArray), l[m]? = some s -> cur[m]? = some (Value.string s) := by
   intro m s hm
   have hml : m < l.length := by
    rcases Nat.lt_or_ge m l.length with h | h
    ·exact h
    ·rw [List.getElem?_eq_none h] at hm; cases hm
   have : (cur.take l.length)[m]? = some (Value.string s) := by rw [a5, List.getElem?_map, hm]; rfl
   rw [List.getElem?_take_of_lt hml] at this; exact this
  refine loop_i ?_
  intro R hR
  have key : ∀ (c j : Nat) (cur' : List Value) (τ : H), c + j = l.length -> τ g = some (.cells ⟨cur'⟩ 9 (0, 0)) -> cur'.length = cur.length -> (∀ (m : Nat) (s : ByteArray), j <= m -> l[m]? = some s -> cur'[m]? = some (Value.string s)) -> cur'.take ((l.take j).filter fun s => !f s).length = ((l.take j).filter fun s => !f s).map Value.string -> ((l.take j).filter fun s => !f s).length < j -> (∀ c o, σ c = some o -> x.base ≠ some ⟨c, 0, none⟩ -> τ c = some o) -> Gr ρ τ -> R x v ((((l.take j).filter fun s => !f s).length : Nat) : Int) (j : Int) τ := by
   intro c
   induction c with
   | zero =>
    intro j cur' τ hc hg hcl' hcr htk hlt hkeep hgr
    have hj : j = l.length := by omega
    subst hj
    rw [List.take_length] at htk hlt ⊢
    generalize hF : l.filter (fun s => !f s) = F at htk hlt hK ⊢
    refine hR _ _ _ _ _ ?_
    refine br_f (by simp only [decide_eq_false_iff_not]; omega) (if_i ⟨bnd_none, bnd_some (by omega) (by omega)⟩ ?_)
    obtain ⟨i, z, i1, i2, i3⟩ : ∃ i z, Tryz.prog.info? 9 = some i /\ i.zero = some z /\ z = Value.string ⟨⟨[]⟩⟩ := by
     have h1 : (Tryz.prog.info? 9).map (fun i => i.zero) = some (some (Value.string ⟨⟨[]⟩⟩)) := by kernel_rfl
     cases hi : Tryz.prog.info? 9 with
     | none => rw [hi] at h1; cases h1
     | some i =>
      rw [hi] at h1
      simp only [Option.map_some, Option.some.injEq] at h1
      exact ⟨i, _, rfl, h1, rfl⟩
    subst i3
    have hb : slBase x.base ((F.length : Nat) : Int).toNat x.cap 1 = some ⟨g, F.length, none⟩ := by
     unfold slBase
     rw [if_neg (by omega), a1, Option.map_some, add_none]; simp
    rw [hb, Int.toNat_natCast]
    refine clear_i und_strs16 i1 i2 rfl rfl hg (by omega) (by omega) ?_
    intro τ2 l' p2 hl' htk'
    refine if_i ⟨bnd_some (by omega) (by omega), bnd_none⟩ ?_
    have hb0 : slBase x.base 0 x.cap 1 = some ⟨g, 0, none⟩ := by
     unfold slBase
     split
     ·exact a1
     ·rw [a1, Option.map_some, add_none]
    refine hK ⟨slBase x.base 0 x.cap 1, F.length - 0, x.cap - 0⟩ τ2 (hgr.putF p2 hgρ) ?_ ?_
    ·refine ⟨by simp [strRows], .inr ⟨g, 0, l', _, _, hb0, p2.same, fun i r hr => ?_⟩⟩
     unfold strRows at hr
     rw [List.getElem?_map] at hr
     cases hs : F[i]? with
     | none => rw [hs] at hr; cases hr
     | some s =>
      rw [hs] at hr
      have hr : [Value.string s] = r := by simpa using hr
      subst hr
      refine ⟨rfl, ?_⟩
      have hiF : i < F.length := by
       rcases Nat.lt_or_ge i F.length with h | h
       ·exact h
       ·rw [List.getElem?_eq_none h] at hs; cases hs
      have h1 : (l'.take F.length)[i]? = some (.string s) := by rw [htk', htk, List.getElem?_map, hs]; rfl
      rw [List.getElem?_take_of_lt hiF] at h1
      rw [Nat.zero_add, Nat.mul_one, drop_cons h1]; rfl
    ·intro c o hc hne
     exact p2.get (fun e => hne (by rw [e]; exact a1)) (hkeep c o hc hne)
   | succ c ih =>
    intro j cur' τ hc hg hcl' hcr htk hlt hkeep hgr
    obtain ⟨s, hs⟩ : ∃ s, l[j]? = some s := ⟨_, List.getElem?_eq_getElem (by omega)⟩
    have hcs := hcr j s (Nat.le_refl _) hs
    have hst : (l.take (j + 1)).filter (fun s => !f s) = (l.take j).filter (fun s => !f s) ++ (if f s then [] else [s]) := by
     rw [List.take_add_one, hs, List.filter_append]
     cases hfs : f s <;> simp [hfs]
    refine hR _ _ _ _ _ ?_
    refine br_t (by simp only [decide_eq_true_eq]; omega) ?_
    refine j_i (fun jj => ∀ (n' : Nat) (τ' : H), R x v (n' : Int) ((j + 1 : Nat) : Int) τ' -> jj x v (n' : Int) (j : Int) τ') ?_ ?_
    ·intro n' τ' h
     rw [wrapS (i := j) (by omega)]
     exact h
    intro j9 h9
    have ea1 := a1
    rw [a1]
    refine ptr_i (if_i ⟨by omega, by show _ < ((x.len : Nat) : Int); omega⟩ (rd_S (rdC_of hg (by rw [Int.toNat_natCast, Nat.zero_add, Nat.mul_one]; exact hcs)) ?_))
    refine cvalv_i (hv s (List.mem_of_getElem? hs) τ _ hgr (app_B ?_))
    cases hfs : f s with
    | true =>
     refine br_f rfl ?_
     refine h9 _ τ ?_
     have := ih (j + 1) cur' τ (by omega) hg hcl' (fun m s hm => hcr m s (by omega)) (by rw [hst, hfs]; simpa using htk) (by rw [hst, hfs]; simp only [if_true, List.append_nil]; omega) hkeep hgr
     rw [hst, hfs] at this
     simpa using this
    | false =>
     refine br_t rfl (ptr_i (if_i ⟨by omega, by show _ < ((x.len : Nat) : Int); omega⟩ ?_))
     generalize hF : (l.take j).filter (fun s => !f s) = F at htk hlt hst ⊢
     have eo : 0 + (((F.length : Nat) : Int)).toNat * 1 = F.length := by omega
     rw [eo]
     refine st_set hg (by kernel_rfl) rfl rfl (by omega) ?_
     intro τ2 p2
     have ew : IntKind.i64.wrap (((F.length : Nat) : Int) + 1) = ((F.length + 1 : Nat) : Int) := by rw [wrap_id (by omega) (by omega)]; omega
     rw [ew]
     refine h9 _ τ2 ?_
     have hF1 : (l.take (j + 1)).filter (fun s => !f s) = F ++ [s] := by rw [hst, hfs]; rfl
     have := ih (j + 1) (cur'.set F.length (.string s)) τ2 (by omega) p2.same (by rw [List.length_set]; exact hcl') (fun m s' hm hs' => by rw [List.getElem?_set_ne (by omega)]; exact hcr m s' (by omega) hs') ?_ (by rw [hF1, List.length_append]; simp; omega) (fun c o hc hne => p2.get (fun e => hne (by rw [e]; exact ea1)) (hkeep c o hc hne)) (hgr.putF p2 hgρ)
     ·rw [hF1, List.length_append] at this
      exact this
     ·rw [hF1, List.length_append]
      simp only [List.length_cons, List.length_nil]
      rw [List.take_add_one, List.take_set, List.getElem?_set_self (by omega), htk, List.map_append]
      rw [List.set_eq_of_length_le (by simp)]
      rfl
  have h1 : (l.take n).filter (fun s => !f s) = l.take n := List.filter_eq_self.2 fun s hs => by rw [hno s hs]; rfl
  have h2 : (l.take (n + 1)).filter (fun s => !f s) = l.take n := by rw [List.take_add_one, hs0, List.filter_append, h1]; simp [hfs0]
  have hlen : (l.take n).length = n := by rw [List.length_take]; omega
  have := key (l.length - (n + 1)) (n + 1) cur σ (by omega) a2 rfl (fun m s _ => hcur m s) (by
   rw [h2, hlen]
   have h3 := congrArg (List.take n) a5
   rw [List.take_take, Nat.min_eq_left (by omega), <- List.map_take] at h3
   exact h3) (by rw [h2, hlen]; omega) (fun c o hc _ => hc) hx.1
  rw [h2, hlen] at this
  have ew : IntKind.i64.wrap ((((some n).map fun (n : Nat) => (n : Int)).getD (-1)) + 1) = ((n + 1 : Nat) : Int) := by
   show IntKind.i64.wrap ((n : Int) + 1) = _
   rw [wrap_id (by omega) (by omega)]; omega
  rw [ew]
  exact this
end Go.Proofs.YtbjbeajbckcecaaGreatDoor

namespace Go.Wk
open Go Go.HL
variable {A : AT}
def Below (A : AT) (ino : Int) : Nat -> Int -> Prop
 | 0, k => k = ino
 | r + 1, k => k ≠ ino /\ k ≠ 1 /\ Below A ino r (A.upOf k)
end Go.Wk

namespace Go.Wk
open Go Go.HL
end Go.Wk
namespace Go.Wk
open Go Go.HL
end Go.Wk

namespace Go.Wk
open Go Go.HL
variable {A : AT}
end Go.Wk

namespace Go.Wk
open Go Go.HL
variable {A : AT}
theorem names_mem' (h : Inv A) {d : Int} {s : ByteArray} (hm : s ∈ A.names d) : ∃ j, A.find d s = some j := by
 unfold AT.names at hm
 cases hn : A.get d with
 | none => rw [hn] at hm; simp at hm
 | some n =>
  rw [hn] at hm
  simp only [sortN, List.mem_map] at hm
  obtain ⟨l, hl, rfl⟩ := hm
  have := (sortB_perm _).mem_iff.1 hl
  obtain ⟨k, hk, rfl⟩ := List.mem_map.1 this
  show ∃ j, A.find d k = some j
  unfold AT.find; rw [hn]
  cases hlk : lk k n.ents with
  | some j => exact ⟨j, hlk⟩
  | none => exact absurd hk (lk_none_iff.1 hlk)
end Go.Wk

namespace Go.Wk
open Go Go.HL
def six : List ByteArray := [⟨⟨[97]⟩⟩, ⟨⟨[98]⟩⟩, ⟨⟨[99]⟩⟩, ⟨⟨[66]⟩⟩, ⟨⟨[97, 46, 98]⟩⟩, ⟨⟨[122]⟩⟩]
def pN : ByteArray := ⟨⟨[112]⟩⟩
def qN : ByteArray := ⟨⟨[113]⟩⟩
def rN : ByteArray := ⟨⟨[114]⟩⟩
def fl (data k : ByteArray) : AN := ⟨1, 420, data ++ k, 1, 0, []⟩
def drN (es : List (ByteArray × Int)) : AN := ⟨2, 493, ⟨⟨[]⟩⟩, 1, 1, es⟩
def DD (d : Int) : Prop := d = 2 \/ d = 3 \/ d = 4
structure Ords (data : ByteArray) (A : AT) (E : Int -> List (ByteArray × Int)) (m : Nat) : Prop where
 inv : Inv A
 bd : Bd (10 + m) A
 rt : A.get 1 = some ⟨2, 493, ⟨⟨[]⟩⟩, 1, 1, [(pN, 2), (qN, 3), (rN, 4)]⟩
 nd : ∀ d, DD d -> A.get d = some (drN (E d))
 he : ∀ d, DD d -> ∀ k i, lk k (E d) = some i -> k ∈ six /\ 4 < i /\ A.get i = some (fl data k)
 dj : ∀ d d' k k' i, DD d -> DD d' -> lk k (E d) = some i -> lk k' (E d') = some i -> d = d'
 qi : A.qi = 100
 qb : A.qb = 9000
 ui : A.ui <= 4 + m
 ub : A.ub <= 63 * m
variable {A : AT} {data : ByteArray} {E : Int -> List (ByteArray × Int)} {m : Nat}
theorem Ords.find (h : Ords data A E m) {d : Int} (hd : DD d) (k : ByteArray) : A.find d k = lk k (E d) := by
 unfold AT.find; rw [h.nd d hd]; rfl
theorem Ords.kindF (h : Ords data A E m) {d : Int} (hd : DD d) {k : ByteArray} {i : Int} (hk : lk k (E d) = some i) : A.kind i = 1 := by
 unfold AT.kind; rw [(h.he d hd k i hk).2.2]; rfl
theorem Ords.same (h : Ords data A E m) {A' : AT} {m' : Nat} (hi : Inv A') (hb : Bd (10 + m') A') (hg : ∀ j, A'.get j = A.get j) (q1 : A'.qi = A.qi) (q2 : A'.qb = A.qb) (u1 : A'.ui <= 4 + m') (u2 : A'.ub <= 63 * m') : Ords data A' E m' :=
 ⟨hi, hb, by rw [hg]; exact h.rt, fun d hd => by rw [hg]; exact h.nd d hd, fun d hd k i hk => by rw [hg]; exact h.he d hd k i hk, h.dj, by rw [q1]; exact h.qi, by rw [q2]; exact h.qb, u1, u2⟩
theorem Ords.levels (h : Ords data A E m) {d : Int} (hd : DD d) {k : ByteArray} {i : Int} (hk : lk k (E d) = some i) : A.levels 14 i = 0 := by
 rw [AT.levels, if_pos (by rw [h.kindF hd hk]; decide)]
end Go.Wk

namespace Go.Wk
open Go Go.HL
theorem sortN_perm (l : List ByteArray) : (sortN l).Perm l := by
 unfold sortN
 have h := (sortB_perm (l.map fun s => s.data.toList)).map fun x => (⟨⟨x⟩⟩ : ByteArray)
 have e : ((l.map fun s => s.data.toList).map fun x => (⟨⟨x⟩⟩ : ByteArray)) = l := by
  rw [List.map_map]
  conv => rhs; rw [<- List.map_id l]
  apply List.map_congr_left
  intro s _
  rfl
 rw [e] at h
 exact h
variable {A : AT} {data : ByteArray} {E : Int -> List (ByteArray × Int)} {m : Nat}
def o0 : AT := newT 100 9000
def o1 : AT := (o0.mkdirF ⟨⟨[47]⟩⟩ pN).2
def o2 : AT := (o1.mkdirF ⟨⟨[47]⟩⟩ qN).2
def o3 : AT := (o2.mkdirF ⟨⟨[47]⟩⟩ rN).2
end Go.Wk

namespace Go.Wk
open Go Go.HL
def sumL (f : AN -> Nat) (l : List (Int × AN)) : Nat -> Nat
 | 0 => 0
 | i + 1 => sumL f l i + ((lk ((i : Int) + 1) l).map f).getD 0
theorem sumL_cons (f : AN -> Nat) {k : Int} {v : AN} {r : List (Int × AN)} (h : lk k r = none) : ∀ n : Nat, sumL f ((k, v) :: r) n = sumL f r n + if 1 <= k /\ k <= n then f v else 0 := by
 intro n
 induction n with
 | zero => simp only [sumL]; rw [if_neg (by omega)]
 | succ n ih =>
  simp only [sumL, ih]
  by_cases e : (n : Int) + 1 = k
  ·have h1 : lk ((n : Int) + 1) ((k, v) :: r) = some v := by simp [lk, e]
   have h2 : lk ((n : Int) + 1) r = none := by rw [e]; exact h
   rw [h1, h2, if_neg (by omega), if_pos (by omega)]
   simp
  ·have h1 : lk ((n : Int) + 1) ((k, v) :: r) = lk ((n : Int) + 1) r := by
    have : (((n : Int) + 1) == k) = false := by simpa using e
    simp [lk, this]
   rw [h1]
   by_cases c : 1 <= k /\ k <= n
   ·rw [if_pos c, if_pos (by omega)]; omega
   ·rw [if_neg c, if_neg (by omega)]; omega
theorem sumL_all (f : AN -> Nat) : ∀ (l : List (Int × AN)) (n : Nat), (keysL l).Nodup -> (∀ k ∈ keysL l, 1 <= k /\ k <= n) -> sumL f l n = sumF f l := by
 intro l
 induction l with
 | nil =>
  intro n _ _
  have : ∀ n : Nat, sumL f [] n = 0 := by
   intro n
   induction n with
   | zero => rfl
   | succ n ih => simp only [sumL, ih]; rfl
  rw [this]; rfl
 | cons p r ih =>
  intro n h1 h2
  obtain ⟨k, v⟩ := p
  obtain ⟨h3, h4⟩ := List.nodup_cons.1 (show (k :: keysL r).Nodup from h1)
  rw [sumL_cons f (lk_none_iff.2 h3), ih n h4 fun x hx => h2 x (List.mem_cons_of_mem _ hx)]
  have := h2 k (List.mem_cons_self ..)
  rw [if_pos this]
  simp only [sumF]; omega
theorem sumL_mono (f : AN -> Nat) (l : List (Int × AN)) : ∀ {n m : Nat}, n <= m -> sumL f l n <= sumL f l m := by
 intro n m h
 induction h with
 | refl => exact Nat.le_refl _
 | step _ ih => simp only [sumL]; omega
theorem Inv.sums {A : AT} (h : Inv A) : (sumL (fun _ => 1) A.nodes A.last.toNat : Int) = A.ui /\ (sumL (fun n => n.data.size) A.nodes A.last.toNat : Int) = A.ub := by
 have hk : ∀ k ∈ keysL A.nodes, 1 <= k /\ k <= ((A.last.toNat : Nat) : Int) := by
  intro k hk
  cases hl : A.get k with
  | none => exact absurd hk (lk_none_iff.1 hl)
  | some n => have := h.low k n hl; omega
 rw [sumL_all _ _ _ h.nodup hk, sumL_all _ _ _ h.nodup hk]
 refine ⟨?_, ?_⟩
 ·rw [sumF_len, h.ui]
 ·rw [h.ub]; rfl
def entN (name : ByteArray) : List ByteArray -> List ByteArray
 | [] => [name]
 | k :: r => if ltB name k = true then name :: k :: r else k :: entN name r
theorem entN_perm (name : ByteArray) : ∀ l, (entN name l).Perm (name :: l) := by
 intro l
 induction l with
 | nil => exact List.Perm.refl _
 | cons k r ih =>
  unfold entN
  split
  ·exact List.Perm.refl _
  ·exact (ih.cons k).trans (List.Perm.swap name k r)
def leN (a b : ByteArray) : Prop := a.data.toList <= b.data.toList
theorem entN_sorted {name : ByteArray} : ∀ {l : List ByteArray}, l.Pairwise leN -> (entN name l).Pairwise leN := by
 intro l
 induction l with
 | nil => intro _; simp [entN]
 | cons k r ih =>
  intro h
  obtain ⟨h1, h2⟩ := List.pairwise_cons.1 h
  unfold entN
  by_cases c : ltB name k = true
  ·rw [if_pos c]
   have hnk : leN name k := by
    unfold ltB at c
    cases hb : leB k.data.toList name.data.toList with
    | true => rw [hb] at c; cases c
    | false =>
     have : ¬ k.data.toList <= name.data.toList := by rw [<- leB_iff, hb]; simp
     exact (List.le_total _ _).resolve_left this
   refine List.pairwise_cons.2 ⟨fun z hz => ?_, h⟩
   rcases List.mem_cons.1 hz with e | e
   ·rw [e]; exact hnk
   ·exact List.le_trans hnk (h1 z e)
  ·rw [if_neg c]
   have hkn : leN k name := by
    unfold ltB at c
    cases hb : leB k.data.toList name.data.toList with
    | false => rw [hb] at c; exact absurd rfl c
    | true => exact (leB_iff _ _).1 hb
   refine List.pairwise_cons.2 ⟨fun z hz => ?_, ih h2⟩
   rcases List.mem_cons.1 ((entN_perm name r).mem_iff.1 hz) with e | e
   ·rw [e]; exact hkn
   ·exact h1 z e
theorem sortN_sorted (l : List ByteArray) : (sortN l).Pairwise leN := by
 unfold sortN
 rw [List.pairwise_map]
 exact (sortB_sorted _).imp fun h => h
theorem sorted_eq {a b : List ByteArray} (ha : a.Pairwise leN) (hb : b.Pairwise leN) (h : a.Perm b) : a = b :=
 List.Perm.eq_of_pairwise (le := leN) (fun x y _ _ h1 h2 => bytes_ext (List.le_antisymm h1 h2)) ha hb h
theorem sortN_snoc (l : List ByteArray) (name : ByteArray) : sortN (l ++ [name]) = entN name (sortN l) := by
 refine sorted_eq (sortN_sorted _) (entN_sorted (sortN_sorted _)) ?_
 refine (sortN_perm _).trans ?_
 refine List.Perm.trans ?_ (entN_perm name _).symm
 refine (List.perm_append_comm (l₁ := l) (l₂ := [name])).trans ?_
 exact ((sortN_perm l).symm).cons name
def entR {α : Type} (name : ByteArray) (new : α) (row : ByteArray -> α) : Bool -> List ByteArray -> List α
 | done, [] => if done then [] else [new]
 | done, k :: r => if (!done && ltB name k) = true then new :: row k :: entR name new row true r else row k :: entR name new row done r
theorem entR_done {α : Type} (name : ByteArray) (new : α) (row : ByteArray -> α) : ∀ l, entR name new row true l = l.map row := by
 intro l
 induction l with
 | nil => rfl
 | cons k r ih => unfold entR; simp [ih]
theorem entR_eq {α : Type} (name : ByteArray) (row : ByteArray -> α) : ∀ l, entR name (row name) row false l = (entN name l).map row := by
 intro l
 induction l with
 | nil => rfl
 | cons k r ih =>
  unfold entR entN
  by_cases c : ltB name k = true
  ·rw [if_pos (by simp [c]), if_pos c, entR_done]; rfl
  ·rw [if_neg (by simp [c]), if_neg c, ih]; rfl
theorem entR_congr {α : Type} (name : ByteArray) (new : α) {row row' : ByteArray -> α} : ∀ (l : List ByteArray) (d : Bool), (∀ k ∈ l, row k = row' k) -> entR name new row d l = entR name new row' d l := by
 intro l
 induction l with
 | nil => intro d _; cases d <;> rfl
 | cons k r ih =>
  intro d h
  unfold entR
  rw [h k (List.mem_cons_self ..), ih true fun x hx => h x (List.mem_cons_of_mem _ hx), ih d fun x hx => h x (List.mem_cons_of_mem _ hx)]
theorem steps_nolink {A : AT} (hI : Inv A) {go : Int -> ByteArray -> Int -> Int × Pl × Int} (hgo : ∀ d s x, A.isDir d -> (go d s x).1 = 0 -> (go d s x).2.1.there = true -> A.kind (go d s x).2.1.ino ≠ 3) : ∀ (l : List ByteArray) (p : Pl) (h : Int), (p.there = true -> A.kind p.ino ≠ 3) -> (A.steps go true l p h).1 = 0 -> (A.steps go true l p h).2.1.there = true -> A.kind (A.steps go true l p h).2.1.ino ≠ 3 := by
 intro l
 induction l with
 | nil => intro p h hp _; exact hp
 | cons n r ih =>
  intro p h hp he
  cases h1 : p.there with
  | false => rw [steps_none h1] at he; cases he
  | true =>
   by_cases h2 : A.kind p.ino = 2
   case neg => rw [steps_notdir h1 h2] at he; cases he
   have hd := kind_dir h2
   cases h3 : sEq n ⟨⟨[46, 46]⟩⟩ with
   | true =>
    rw [steps_up h1 h2 h3] at he ⊢
    exact ih _ h (fun _ => by show A.kind (A.upOf p.ino) ≠ 3; rw [dir_kind (hI.isDir_up hd)]; decide) he
   | false =>
    by_cases h4 : n.size > 56
    ·rw [steps_long h1 h2 h3 h4] at he; cases he
    by_cases h5 : (A.find p.ino n).isSome = false \/ (r.isEmpty && !true) = true \/ A.kind ((A.find p.ino n).getD 0) ≠ 3
    ·rw [steps_name h1 h2 h3 h4 h5] at he ⊢
     refine ih _ h (fun hs => ?_) he
     have hs : (A.find p.ino n).isSome = true := hs
     rcases h5 with e | e | e
     ·rw [hs] at e; cases e
     ·simp at e
     ·exact e
    by_cases h6 : h - 1 < 0
    ·rw [steps_loop h1 h2 h3 h4 h5 h6] at he; cases he
    by_cases h7 : (go p.ino (A.data ((A.find p.ino n).getD 0)) (h - 1)).1 = 0
    ·rw [steps_link h1 h2 h3 h4 h5 h6 h7] at he ⊢
     exact ih _ _ (hgo _ _ _ hd h7) he
    ·rw [steps_err h1 h2 h3 h4 h5 h6 h7] at he; exact absurd he h7
theorem walk_nolink {A : AT} (hI : Inv A) : ∀ (f : Nat) (d : Int) (s : ByteArray) (h : Int), A.isDir d -> (A.walk f d s true h).1 = 0 -> (A.walk f d s true h).2.1.there = true -> A.kind (A.walk f d s true h).2.1.ino ≠ 3 := by
 intro f
 induction f with
 | zero => intro d s h _ he; cases he
 | succ f ih =>
  intro d s h hd he
  rw [AT.walk] at he ⊢
  by_cases hm : mayE s = 0
  case neg => rw [if_pos hm] at he; exact absurd he hm
  rw [if_neg (by simpa using hm)] at he ⊢
  refine steps_nolink hI (fun d s x hd he => ih d s x hd he) _ _ _ (fun _ => ?_) he
  show A.kind (if headIs 47 s then 1 else d) ≠ 3
  cases headIs 47 s with
  | true => rw [if_pos rfl, dir_kind hI.root_dir]; decide
  | false => rw [if_neg (by decide), dir_kind hd]; decide
theorem locate_nolink {A : AT} (hI : Inv A) (cwd path : ByteArray) (he : (A.locate cwd path true).1 = 0) (ht : (A.locate cwd path true).2.there = true) : A.kind (A.locate cwd path true).2.ino ≠ 3 := by
 unfold AT.locate at he ht ⊢
 cases h1 : sEq path ⟨⟨[]⟩⟩ with
 | true => rw [h1] at he; simp at he
 | false =>
  rw [h1] at he ht
  simp only [Bool.false_eq_true, if_false] at he ht ⊢
  cases h2 : headIs 47 path with
  | true => rw [h2] at he ht; exact walk_nolink hI 10 1 path 8 hI.root_dir he ht
  | false =>
   rw [h2] at he ht
   simp only [Bool.false_eq_true, if_false] at he ht ⊢
   cases h3 : headIs 47 cwd with
   | false => rw [h3] at he; simp at he
   | true =>
    rw [h3] at he ht
    simp only [Bool.true_eq_false, if_false] at he ht ⊢
    by_cases h4 : (A.walk 10 1 cwd true 8).1 = 0
    case neg => rw [if_pos h4] at he; exact absurd he h4
    rw [if_neg (by simpa using h4)] at he ht ⊢
    cases h5 : (A.walk 10 1 cwd true 8).2.1.there with
    | false => rw [h5] at he; simp at he
    | true =>
     rw [h5] at he ht
     simp only [Bool.true_eq_false, if_false] at he ht ⊢
     by_cases h6 : A.kind (A.walk 10 1 cwd true 8).2.1.ino = 2
     case neg => rw [if_pos h6] at he; simp at he
     rw [if_neg (by simpa using h6)] at he ht ⊢
     exact walk_nolink hI 10 _ path 8 (kind_dir h6) he ht
theorem kind_cases {k m : Int} {d : ByteArray} (h : likeE k m d = 0) : k = 1 \/ k = 2 \/ k = 3 := by
 unfold likeE at h
 by_cases hk : kindOkE k d = true
 ·unfold kindOkE at hk
  simp only [lk] at hk
  by_cases e1 : k = 1
  ·exact .inl e1
  by_cases e2 : k = 2
  ·exact .inr (.inl e2)
  by_cases e3 : k = 3
  ·exact .inr (.inr e3)
  have h1 : (k == 1) = false := by simpa using e1
  have h2 : (k == 2) = false := by simpa using e2
  have h3 : (k == 3) = false := by simpa using e3
  rw [h1, h2, h3] at hk
  simp at hk
 ·have : kindOkE k d = false := by simpa using hk
  rw [this] at h; simp at h
end Go.Wk

namespace Go.Wk
open Go Go.HL
section
variable {A : AT}
def NoLink (A : AT) : Prop := ∀ i n, A.get i = some n -> n.kind ≠ 3
theorem NoLink.kind (h : NoLink A) (i : Int) : A.kind i ≠ 3 := by
 unfold AT.kind
 cases hg : A.get i with
 | none => decide
 | some n => exact h i n hg
def rootP : Pl := ⟨1, ⟨⟨[]⟩⟩, 1, true⟩
theorem walk_root (A : AT) : A.walk 10 1 ⟨⟨[47]⟩⟩ true 8 = (0, rootP, 8) := by
 rw [AT.walk]
 have h1 : mayE ⟨⟨[47]⟩⟩ = 0 := by decide +kernel
 have h2 : headIs 47 ⟨⟨[47]⟩⟩ = true := by decide +kernel
 have h3 : partsB ⟨⟨[47]⟩⟩ = [] := by decide +kernel
 rw [h1, h2, h3]
 simp [AT.steps, rootP]
theorem mayE_ne {p : ByteArray} (h : mayE p = 0) : sEq p ⟨⟨[]⟩⟩ = false := by
 unfold mayE at h
 cases hs : sEq p ⟨⟨[]⟩⟩ with
 | false => rfl
 | true => rw [hs] at h; simp at h
def AT.goN (A : AT) : List ByteArray -> Pl -> Int × Pl
 | [], p => (0, p)
 | n :: r, p => if p.there = false then (5, Pl.z) else if A.kind p.ino ≠ 2 then (8, Pl.z) else AT.goN A r ⟨p.ino, n, (A.find p.ino n).getD 0, (A.find p.ino n).isSome⟩
theorem steps_goN (hL : NoLink A) {go : Int -> ByteArray -> Int -> Int × Pl × Int} {fo : Bool} {h : Int} : ∀ (l : List ByteArray) (p : Pl), (∀ n ∈ l, stepOk n) -> A.steps go fo l p h = ((A.goN l p).1, (A.goN l p).2, h) := by
 intro l
 induction l with
 | nil => intro p _; rfl
 | cons n r ih =>
  intro p hok
  unfold AT.goN
  by_cases h1 : p.there = false
  ·rw [steps_none h1, if_pos h1]
  have h1' : p.there = true := by simpa using h1
  rw [if_neg h1]
  by_cases h2 : A.kind p.ino ≠ 2
  ·rw [steps_notdir h1' h2, if_pos h2]
  have h2' : A.kind p.ino = 2 := by simpa using h2
  rw [if_neg h2]
  obtain ⟨s1, s2⟩ := hok n (List.mem_cons_self ..)
  rw [steps_name h1' h2' (sEq_false s1) (by omega) (.inr (.inr (hL.kind _)))]
  exact ih _ fun m hm => hok m (List.mem_cons_of_mem _ hm)
theorem locate_rel (hI : Inv A) (hL : NoLink A) {p : ByteArray} {fo : Bool} (h0 : mayE p = 0) (h1 : headIs 47 p = false) (hok : ∀ n ∈ partsB p, stepOk n) : A.locate ⟨⟨[47]⟩⟩ p fo = A.goN (partsB p) rootP := by
 have h2 : headIs 47 ⟨⟨[47]⟩⟩ = true := by decide +kernel
 have hk : A.kind 1 = 2 := dir_kind hI.root_dir
 have hw : A.walk 10 1 p fo 8 = ((A.goN (partsB p) rootP).1, (A.goN (partsB p) rootP).2, 8) := by
  rw [AT.walk, h0, h1]
  simp only [ne_eq, not_true_eq_false, if_false, Bool.false_eq_true]
  exact steps_goN hL _ _ hok
 unfold AT.locate
 rw [mayE_ne h0, h1, h2, walk_root]
 simp only [rootP, hk]
 simp only [Bool.false_eq_true, if_false, ne_eq, not_true_eq_false]
 rw [hw]
 simp
 rfl
theorem with_rel (hI : Inv A) (hL : NoLink A) {p : ByteArray} {fo : Bool} {i : Int} {m : AN} (h0 : mayE p = 0) (h1 : headIs 47 p = false) (hok : ∀ n ∈ partsB p, stepOk n) (hg : (A.goN (partsB p) rootP).1 = 0) (ht : (A.goN (partsB p) rootP).2.there = true) (hi : (A.goN (partsB p) rootP).2.ino = i) (hm : A.get i = some m) :
 A.with_ ⟨⟨[47]⟩⟩ p fo = (0, i, m.inode) := by
 unfold AT.with_
 rw [locate_rel hI hL h0 h1 hok]
 simp only [hg, ht, hi, hm]
 simp
theorem stat_rel (hI : Inv A) (hL : NoLink A) {p : ByteArray} {fo : Bool} (h0 : mayE p = 0) (h1 : headIs 47 p = false) (hok : ∀ n ∈ partsB p, stepOk n) : (A.stat ⟨⟨[47]⟩⟩ p fo).1 = 0 \/ (A.stat ⟨⟨[47]⟩⟩ p fo).1 = 5 \/ (A.stat ⟨⟨[47]⟩⟩ p fo).1 = 8 := by
 have hg : ∀ (l : List ByteArray) (q : Pl), (A.goN l q).1 = 0 \/ (A.goN l q).1 = 5 \/ (A.goN l q).1 = 8 := by
  intro l
  induction l with
  | nil => intro q; exact .inl rfl
  | cons n r ih =>
   intro q
   unfold AT.goN
   split
   ·exact .inr (.inl rfl)
   ·split
    ·exact .inr (.inr rfl)
    ·exact ih _
 have hl : (A.locate ⟨⟨[47]⟩⟩ p fo).1 = 0 \/ (A.locate ⟨⟨[47]⟩⟩ p fo).1 = 5 \/ (A.locate ⟨⟨[47]⟩⟩ p fo).1 = 8 := by
  rw [locate_rel hI hL h0 h1 hok]; exact hg _ _
 unfold AT.stat AT.with_
 simp only
 split
 ·exact hl
 ·split
  ·exact .inr (.inl rfl)
  ·split
   ·exact .inr (.inl rfl)
   ·exact .inl rfl
theorem goN_one {n : ByteArray} {j : Int} (hk : A.kind 1 = 2) (hf : A.find 1 n = some j) : A.goN [n] rootP = (0, ⟨1, n, j, true⟩) := by
 simp [AT.goN, rootP, hk, hf]
theorem goN_two {n k : ByteArray} {j i : Int} (hk : A.kind 1 = 2) (hf : A.find 1 n = some j) (hj : A.kind j = 2) (hi : A.find j k = some i) : A.goN [n, k] rootP = (0, ⟨j, k, i, true⟩) := by
 simp [AT.goN, rootP, hk, hf, hj, hi]
theorem namedE_ok {s : ByteArray} (h : namedE s = 0) : nameOk s /\ stepOk s := by
 unfold namedE at h
 split at h
 ·cases h
 ·rename_i h1
  split at h
  ·rename_i h2
   simp only [Bool.and_eq_true, Bool.not_eq_true'] at h2
   obtain ⟨⟨⟨a, b⟩, c⟩, d⟩ := h2
   refine ⟨⟨?_, ?_, d⟩, ?_, by omega⟩
   ·intro e; rw [e] at a; exact absurd a (by decide)
   ·intro e; rw [e] at b; exact absurd b (by decide)
   ·intro e; rw [e] at c; exact absurd c (by decide)
  ·cases h
theorem parts_name {s : ByteArray} (h : nameOk s) : partsB s = [s] := by
 obtain ⟨b1, _⟩ := badByte_mem h.2.2
 unfold partsB
 rw [splitL_none b1]
 simp only [List.map_cons, List.map_nil, List.filter_cons, List.filter_nil]
 rw [if_pos (okPart_of h)]
theorem parts_slash {s : ByteArray} (h : nameOk s) : partsB (s ++ ⟨⟨[47]⟩⟩) = [s] := by
 obtain ⟨b1, _⟩ := badByte_mem h.2.2
 unfold partsB
 rw [show (s ++ ⟨⟨[47]⟩⟩ : ByteArray).data.toList = s.data.toList ++ 47 :: [] from app_data _ _, splitL_some b1]
 have : splitL 47 [] = [[]] := rfl
 rw [this]
 simp only [List.map_cons, List.map_nil, List.filter_cons, List.filter_nil]
 rw [if_pos (okPart_of h), if_neg (by decide)]
theorem head_name {s : ByteArray} (h : nameOk s) : headIs 47 s = false /\ ∀ t, headIs 47 (s ++ t) = false := by
 obtain ⟨b1, _⟩ := badByte_mem h.2.2
 have hne : s.data.toList ≠ [] := fun e => h.1 (by cases s with | mk d => cases d with | mk l => simp at e; rw [e])
 unfold headIs
 cases hl : s.data.toList with
 | nil => exact absurd hl hne
 | cons c r =>
  have : (c == 47) = false := by
   cases hc : (c == 47) with
   | false => rfl
   | true =>
    have := eq_of_beq hc
    rw [hl, this] at b1; simp at b1
  refine ⟨this, fun t => ?_⟩
  rw [app_data, hl]; exact this
theorem nul_name {s : ByteArray} (h : nameOk s) : hasNul s = false := by
 obtain ⟨_, b2⟩ := badByte_mem h.2.2
 unfold hasNul
 rw [List.any_eq_false]
 intro x hx
 simp only [beq_iff_eq]
 rintro rfl; exact b2 hx
theorem nul_app {a b : ByteArray} (h1 : hasNul a = false) (h2 : hasNul b = false) : hasNul (a ++ b) = false := by
 unfold hasNul at *
 rw [app_data, List.any_append, h1, h2]; rfl
theorem mayE_of {p : ByteArray} (h0 : p.data.toList ≠ []) (h1 : p.size <= 255) (h2 : hasNul p = false) : mayE p = 0 := by
 unfold mayE
 have : sEq p ⟨⟨[]⟩⟩ = false := sEq_false fun e => h0 (by rw [e])
 rw [this, h2]
 simp; omega
theorem name_ne {s : ByteArray} (h : nameOk s) : s.data.toList ≠ [] := fun e => h.1 (by cases s with | mk d => cases d with | mk l => simp at e; rw [e])
theorem app_ne {a b : ByteArray} (h : a.data.toList ≠ []) : (a ++ b).data.toList ≠ [] := by rw [app_data]; intro e; exact h (List.append_eq_nil_iff.1 e).1
variable (hI : Inv A) (hL : NoLink A)
include hI in
theorem find_name {d : Int} {s : ByteArray} {j : Int} (hf : A.find d s = some j) : nameOk s /\ stepOk s /\ ∃ m, A.get j = some m := by
 obtain ⟨n, hn, _, hl, _, m, hm, _⟩ := hI.find hf
 obtain ⟨a, b⟩ := namedE_ok (hI.ent d n s j hn hl).1
 exact ⟨a, b, m, hm⟩
include hI hL in
theorem with_one {s : ByteArray} {j : Int} {m : AN} {fo : Bool} (hf : A.find 1 s = some j) (hm : A.get j = some m) : A.with_ ⟨⟨[47]⟩⟩ s fo = (0, j, m.inode) := by
 obtain ⟨h1, h2, _⟩ := find_name hI hf
 have hp := parts_name h1
 have hg := goN_one (dir_kind hI.root_dir) hf
 refine with_rel hI hL (mayE_of (name_ne h1) (by have := h2.2; omega) (nul_name h1)) (head_name h1).1 ?_ ?_ ?_ ?_ hm
 ·rw [hp]; intro n hn; simp at hn; rw [hn]; exact h2
 ·rw [hp, hg]
 ·rw [hp, hg]
 ·rw [hp, hg]
include hI hL in
theorem with_slash {s : ByteArray} {j : Int} {m : AN} {fo : Bool} (hf : A.find 1 s = some j) (hm : A.get j = some m) : A.with_ ⟨⟨[47]⟩⟩ (s ++ ⟨⟨[47]⟩⟩) fo = (0, j, m.inode) := by
 obtain ⟨h1, h2, _⟩ := find_name hI hf
 have hp := parts_slash h1
 have hg := goN_one (dir_kind hI.root_dir) hf
 refine with_rel hI hL (mayE_of (app_ne (name_ne h1)) (by have := h2.2; rw [ByteArray.size_append]; have : (⟨⟨[47]⟩⟩ : ByteArray).size = 1 := rfl; omega) (nul_app (nul_name h1) (by decide +kernel))) ((head_name h1).2 _) ?_ ?_ ?_ ?_ hm
 ·rw [hp]; intro n hn; simp at hn; rw [hn]; exact h2
 ·rw [hp, hg]
 ·rw [hp, hg]
 ·rw [hp, hg]
include hI hL in
theorem with_two {s k : ByteArray} {j i : Int} {m : AN} {fo : Bool} (hf : A.find 1 s = some j) (hj : A.kind j = 2) (hk : A.find j k = some i) (hm : A.get i = some m) : A.with_ ⟨⟨[47]⟩⟩ ((s ++ ⟨⟨[47]⟩⟩) ++ k) fo = (0, i, m.inode) := by
 obtain ⟨h1, h2, _⟩ := find_name hI hf
 obtain ⟨k1, k2, _⟩ := find_name hI hk
 have hp : partsB ((s ++ ⟨⟨[47]⟩⟩) ++ k) = [s, k] := by
  have : ((s ++ ⟨⟨[47]⟩⟩) ++ k) = sub s k := rfl
  rw [this, parts_sub k1, parts_name h1]; rfl
 have hg := goN_two (dir_kind hI.root_dir) hf hj hk
 refine with_rel hI hL (mayE_of (app_ne (app_ne (name_ne h1))) (by have := h2.2; have := k2.2; rw [ByteArray.size_append, ByteArray.size_append]; have : (⟨⟨[47]⟩⟩ : ByteArray).size = 1 := rfl; omega) (nul_app (nul_app (nul_name h1) (by decide +kernel)) (nul_name k1))) ?_ ?_ ?_ ?_ ?_ hm
 ·have := (head_name h1).2 (⟨⟨[47]⟩⟩ ++ k)
  rw [<- ByteArray.append_assoc] at this; exact this
 ·rw [hp]; intro n hn; simp at hn; rcases hn with rfl | rfl
  ·exact h2
  ·exact k2
 ·rw [hp, hg]
 ·rw [hp, hg]
 ·rw [hp, hg]
include hI hL in
theorem list_dot : A.listF ⟨⟨[47]⟩⟩ ⟨⟨[46]⟩⟩ = (0, A.names 1) := by
 obtain ⟨m, hm, hk⟩ := hI.root_dir
 have hp : partsB ⟨⟨[46]⟩⟩ = [] := by decide +kernel
 have hw : A.with_ ⟨⟨[47]⟩⟩ ⟨⟨[46]⟩⟩ true = (0, 1, m.inode) := by
  refine with_rel hI hL (by decide +kernel) (by decide +kernel) ?_ ?_ ?_ ?_ hm
  ·rw [hp]; intro n hn; cases hn
  ·rw [hp]; rfl
  ·rw [hp]; rfl
  ·rw [hp]; rfl
 unfold AT.listF
 rw [hw]
 have : m.inode.kind = 2 := hk
 simp [this]
include hI in
theorem list_root : A.listF ⟨⟨[47]⟩⟩ ⟨⟨[47]⟩⟩ = (0, A.names 1) := by
 obtain ⟨m, hm, hk⟩ := hI.root_dir
 have h2 : headIs 47 ⟨⟨[47]⟩⟩ = true := by decide +kernel
 have h0 : sEq ⟨⟨[47]⟩⟩ ⟨⟨[]⟩⟩ = false := by decide +kernel
 unfold AT.listF AT.with_ AT.locate
 rw [h0, h2, walk_root]
 have : m.inode.kind = 2 := hk
 simp [rootP, hm, this]
include hI hL in
theorem list_slash {s : ByteArray} {j : Int} (hf : A.find 1 s = some j) (hj : A.kind j = 2) : A.listF ⟨⟨[47]⟩⟩ (s ++ ⟨⟨[47]⟩⟩) = (0, A.names j) := by
 obtain ⟨m, hm, hk⟩ := kind_dir hj
 unfold AT.listF
 rw [with_slash hI hL hf hm]
 have : m.inode.kind = 2 := hk
 simp [this]
end
theorem match_star (s : List UInt8) : matchP [.star] s = true := by
 have key : ∀ (f i : Nat), i <= s.length -> s.length < f + i -> matchF [.star] s f 1 1 i i = true := by
  intro f
  induction f with
  | zero => intro i h1 h2; omega
  | succ f ih =>
   intro i h1 h2
   rw [matchF]
   by_cases h : i < s.length
   ·rw [if_pos h]
    have := ih (i + 1) (by omega) (by omega)
    simpa [starsN, pcHit] using this
   ·rw [if_neg h]
    have : i = s.length := by omega
    simp [this, starsN]
 have he : (s.length + 2) * (s.length + 2) = ((s.length + 2) * (s.length + 1) + s.length + 1) + 1 := by
  rw [show s.length + 2 = (s.length + 1) + 1 from rfl, Nat.mul_succ]; omega
 unfold matchP
 rw [he, matchF]
 by_cases h : 0 < s.length
 ·rw [if_pos h]
  have := key ((s.length + 2) * (s.length + 1) + s.length + 1) 1 (by omega) (by omega)
  simpa [starsN, Pc.isStar, pcHit] using this
 ·rw [if_neg h]
  have : s.length = 0 := by omega
  simp [this, starsN, Pc.isStar]
def starR : Rn := ⟨⟨⟨[42]⟩⟩, false, false⟩
def deepR : Rn := ⟨⟨⟨[42, 47, 42]⟩⟩, false, false⟩
def starPt : Pt := ⟨[(42, false)], false⟩
def slashPt : Pt := ⟨[(47, false)], true⟩
theorem keep_star (s : ByteArray) : keepN starPt s = !headIs 46 s := by
 have h1 : piecesP starPt.runs = [.star] := by rfl
 have h2 : headIs 46 (plainR starPt.runs) = false := by decide +kernel
 unfold keepN
 rw [h1, h2, match_star]; simp
def nh (l : List ByteArray) : List ByteArray := l.filter fun s => !headIs 46 s
theorem filter_star (l : List ByteArray) : l.filter (keepN starPt) = nh l := by
 unfold nh; congr 1; funext s; exact keep_star s
theorem nil_app (s : ByteArray) : (⟨⟨[]⟩⟩ : ByteArray) ++ s = s := by
 apply bytes_ext; rw [app_data]; rfl
section
variable {A : AT} (hI : Inv A) (hL : NoLink A)
theorem names_sorted (d : Int) : (A.names d).Pairwise leN := by
 unfold AT.names
 cases A.get d with
 | none => exact List.Pairwise.nil
 | some n => exact sortN_sorted _
theorem sortN_id {l : List ByteArray} (h : l.Pairwise leN) : sortN l = l := sorted_eq (sortN_sorted l) h (sortN_perm l)
include hI hL in
theorem glob_star : A.globP ⟨⟨[47]⟩⟩ [starR] = (if nh (A.names 1) = [] then [⟨⟨[42]⟩⟩] else nh (A.names 1), ((A.names 1).length : Int)) := by
 have h1 : magicP [starR] = true := by decide +kernel
 have h2 : partsR [starR] = [starPt] := by rfl
 have h3 : magicP starPt.runs = true := by decide +kernel
 have h4 : plainR [starR] = ⟨⟨[42]⟩⟩ := by rfl
 have h5 : sEq ⟨⟨[]⟩⟩ ⟨⟨[]⟩⟩ = true := by decide +kernel
 have hr : A.reach ⟨⟨[47]⟩⟩ [starPt] ⟨⟨[]⟩⟩ = (nh (A.names 1), ((A.names 1).length : Int)) := by
  rw [AT.reach_cons]
  unfold AT.nextP
  rw [if_neg (by decide), if_pos h3]
  unfold AT.namesP
  rw [h5]
  simp only [if_true]
  rw [list_dot hI hL]
  simp only [ne_eq, not_true_eq_false, if_false, filter_star]
  have e1 : ∀ l : List ByteArray, (l.map fun x => (⟨⟨[]⟩⟩ : ByteArray) ++ x) = l := by
   intro l; conv => rhs; rw [<- List.map_id l]
   exact List.map_congr_left fun s _ => nil_app s
  rw [e1]
  have e2 : ∀ l : List ByteArray, (l.flatMap fun to => (AT.reach A ⟨⟨[47]⟩⟩ [] to).1) = l := by
   intro l
   induction l with
   | nil => rfl
   | cons x r ih => rw [List.flatMap_cons, ih]; simp [AT.reach]
  have e3 : ∀ l : List ByteArray, (l.map fun to => (AT.reach A ⟨⟨[47]⟩⟩ [] to).2).sum = 0 := by
   intro l
   induction l with
   | nil => rfl
   | cons x r ih => rw [List.map_cons, List.sum_cons, ih]; simp [AT.reach]
  rw [e2, e3]; simp
 unfold AT.globP
 rw [h1, h2, hr, h4]
 simp only [Bool.true_eq_false, if_false]
 by_cases h : nh (A.names 1) = []
 ·rw [if_pos h, if_pos h]
 ·rw [if_neg h, if_neg h, sortN_id]
  exact (names_sorted (A := A) 1).sublist List.filter_sublist
def AT.below1 (A : AT) : List ByteArray := (nh (A.names 1)).flatMap fun n => match A.find 1 n with
 | none => []
 | some j => if A.kind j = 2 then (nh (A.names j)).map fun m => (n ++ ⟨⟨[47]⟩⟩) ++ m else []
include hI hL in
theorem glob_deep {M : Nat} (hM : ∀ j, (A.names j).length <= M) : ∃ k : Int, 0 <= k /\ k <= (M : Int) + M * M /\ A.globP ⟨⟨[47]⟩⟩ [deepR] = (if A.below1 = [] then [⟨⟨[42, 47, 42]⟩⟩] else sortN A.below1, k) := by
 have h1 : magicP [deepR] = true := by decide +kernel
 have h2 : partsR [deepR] = [starPt, slashPt, starPt] := by rfl
 have h3 : magicP starPt.runs = true := by decide +kernel
 have h4 : plainR [deepR] = ⟨⟨[42, 47, 42]⟩⟩ := by rfl
 have h5 : sEq ⟨⟨[]⟩⟩ ⟨⟨[]⟩⟩ = true := by decide +kernel
 have h6 : plainR slashPt.runs = ⟨⟨[47]⟩⟩ := by rfl
 have e1 : ∀ l : List ByteArray, (l.map fun x => (⟨⟨[]⟩⟩ : ByteArray) ++ x) = l := by
  intro l; conv => rhs; rw [<- List.map_id l]
  exact List.map_congr_left fun s _ => nil_app s
 have e2 : ∀ l : List ByteArray, (l.flatMap fun to => (AT.reach A ⟨⟨[47]⟩⟩ [] to).1) = l := by
  intro l
  induction l with
  | nil => rfl
  | cons x r ih => rw [List.flatMap_cons, ih]; simp [AT.reach]
 have e3 : ∀ l : List ByteArray, (l.map fun to => (AT.reach A ⟨⟨[47]⟩⟩ [] to).2).sum = 0 := by
  intro l
  induction l with
  | nil => rfl
  | cons x r ih => rw [List.map_cons, List.sum_cons, ih]; simp [AT.reach]
 have hsum : ∀ l : List Int, (∀ x ∈ l, 0 <= x /\ x <= (M : Int)) -> 0 <= l.sum /\ l.sum <= (l.length : Int) * M := by
  intro l
  induction l with
  | nil => intro _; simp
  | cons x r ih =>
   intro h
   rw [List.sum_cons, List.length_cons]
   have h1 := h x (List.mem_cons_self ..)
   have h2 := ih fun y hy => h y (List.mem_cons_of_mem _ hy)
   have h3 : ((r.length + 1 : Nat) : Int) * M = (r.length : Int) * M + M := by rw [Int.natCast_add, Int.add_mul]; simp
   rw [h3]
   omega
 have hin : ∀ n ∈ nh (A.names 1), (A.reach ⟨⟨[47]⟩⟩ [slashPt, starPt] n).1 = (match A.find 1 n with
  | none => []
  | some j => if A.kind j = 2 then (nh (A.names j)).map fun m => (n ++ ⟨⟨[47]⟩⟩) ++ m else []) /\ 0 <= (A.reach ⟨⟨[47]⟩⟩ [slashPt, starPt] n).2 /\ (A.reach ⟨⟨[47]⟩⟩ [slashPt, starPt] n).2 <= (M : Int) := by
  intro n hn
  obtain ⟨j, hj⟩ := names_mem' hI ((List.mem_filter.1 hn).1)
  obtain ⟨o1, o2, m, hm⟩ := find_name hI hj
  have hne : sEq n ⟨⟨[]⟩⟩ = false := sEq_false o1.1
  have hkj : A.kind j = m.kind := by unfold AT.kind; rw [hm]; rfl
  have hst : A.stat ⟨⟨[47]⟩⟩ n true = (0, m.inode) := by unfold AT.stat; rw [with_one hI hL hj hm]
  have hik : m.inode.kind = m.kind := rfl
  rw [hj]
  rw [AT.reach_cons]
  unfold AT.nextP
  rw [if_pos (show slashPt.st = true from rfl), hne, hst, h6]
  simp only [Bool.false_or, decide_true, Bool.true_and, hik, decide_eq_true_eq, hkj]
  by_cases hk : m.kind = 2
  ·have hb : A.reach ⟨⟨[47]⟩⟩ [starPt] (n ++ ⟨⟨[47]⟩⟩) = ((nh (A.names j)).map (fun m => (n ++ ⟨⟨[47]⟩⟩) ++ m), ((A.names j).length : Int)) := by
    rw [AT.reach_cons]
    unfold AT.nextP
    rw [if_neg (by decide), if_pos h3]
    have hne2 : sEq (n ++ ⟨⟨[47]⟩⟩) ⟨⟨[]⟩⟩ = false := sEq_false fun e => app_ne (name_ne o1) (by rw [e])
    unfold AT.namesP
    rw [hne2]
    simp only [Bool.false_eq_true, if_false]
    rw [list_slash hI hL hj (by rw [hkj]; exact hk)]
    simp only [ne_eq, not_true_eq_false, if_false, filter_star, e2, e3]
    simp
   rw [if_pos hk, if_pos hk]
   simp only [List.flatMap_cons, List.flatMap_nil, List.map_cons, List.map_nil, List.sum_cons, List.sum_nil]
   rw [hb]
   have := hM j
   simp
   omega
  ·rw [if_neg hk, if_neg hk]; simp
 have hr : ∃ k : Int, 0 <= k /\ k <= (M : Int) + M * M /\ A.reach ⟨⟨[47]⟩⟩ [starPt, slashPt, starPt] ⟨⟨[]⟩⟩ = (A.below1, k) := by
  rw [AT.reach_cons]
  unfold AT.nextP
  rw [if_neg (by decide), if_pos h3]
  unfold AT.namesP
  rw [h5]
  simp only [if_true]
  rw [list_dot hI hL]
  simp only [ne_eq, not_true_eq_false, if_false, filter_star, e1]
  have hs := hsum ((nh (A.names 1)).map fun to => (AT.reach A ⟨⟨[47]⟩⟩ [slashPt, starPt] to).2) fun x hx => by
   obtain ⟨n, hn, rfl⟩ := List.mem_map.1 hx
   exact (hin n hn).2
  refine ⟨_, ?_, ?_, Prod.ext ?_ rfl⟩
  ·show (0 : Int) <= ((A.names 1).length : Int) + _
   omega
  ·show ((A.names 1).length : Int) + _ <= _
   have h1 := hM 1
   have h2 : (nh (A.names 1)).length <= (A.names 1).length := List.length_filter_le _ _
   rw [List.length_map] at hs
   have h3 : ((nh (A.names 1)).length : Int) * M <= (M : Int) * M := Int.mul_le_mul_of_nonneg_right (by omega) (by omega)
   omega
  ·simp only
   unfold AT.below1
   have : ∀ (l : List ByteArray) (f g : ByteArray -> List ByteArray), (∀ x ∈ l, f x = g x) -> l.flatMap f = l.flatMap g := by
    intro l f g
    induction l with
    | nil => intro _; rfl
    | cons x r ih => intro h; rw [List.flatMap_cons, List.flatMap_cons, h x (List.mem_cons_self ..), ih fun y hy => h y (List.mem_cons_of_mem _ hy)]
   exact this _ _ _ fun n hn => (hin n hn).1
 obtain ⟨k, hk, hk2, hr⟩ := hr
 refine ⟨k, hk, hk2, ?_⟩
 unfold AT.globP
 rw [h1, h2, hr, h4]
 simp
def noSub (a b : UInt8) (l : List UInt8) : Prop := ∀ i, l[i]? = some a -> l[i + 1]? ≠ some b
def GoodN (A : AT) (s : ByteArray) : Prop := (A.stat ⟨⟨[47]⟩⟩ s false).1 = 0 /\ s.data.toList ≠ [] /\ headIs 46 s = false /\ noSub 47 46 s.data.toList /\ s.size <= 120
theorem noSub_name {s : ByteArray} (h : nameOk s) : noSub 47 46 s.data.toList := by
 obtain ⟨b1, _⟩ := badByte_mem h.2.2
 intro i hi
 exact absurd (List.mem_of_getElem? hi) b1
theorem noSub_two {s k : ByteArray} (hs : nameOk s) (hk : nameOk k) (h : headIs 46 k = false) : noSub 47 46 ((s ++ ⟨⟨[47]⟩⟩) ++ k).data.toList := by
 obtain ⟨b1, _⟩ := badByte_mem hs.2.2
 obtain ⟨b2, _⟩ := badByte_mem hk.2.2
 have e : ((s ++ ⟨⟨[47]⟩⟩) ++ k).data.toList = s.data.toList ++ 47 :: k.data.toList := by rw [app_data, app_data]; simp
 rw [e]
 intro i hi
 rcases Nat.lt_trichotomy i s.data.toList.length with h1 | h1 | h1
 ·rw [List.getElem?_append_left h1] at hi
  exact absurd (List.mem_of_getElem? hi) b1
 ·rw [List.getElem?_append_right (by omega)]
  have : i + 1 - s.data.toList.length = 1 := by omega
  rw [this]
  intro h2
  have h2 : k.data.toList[0]? = some 46 := by simpa using h2
  unfold headIs at h
  cases hl : k.data.toList with
  | nil => rw [hl] at h2; cases h2
  | cons c r => rw [hl] at h2 h; simp at h2; subst h2; cases h
 ·rw [List.getElem?_append_right (by omega)] at hi
  obtain ⟨m, hm⟩ : ∃ m, i - s.data.toList.length = m + 1 := ⟨i - s.data.toList.length - 1, by omega⟩
  rw [hm] at hi
  have hi : k.data.toList[m]? = some 47 := by simpa using hi
  exact absurd (List.mem_of_getElem? hi) b2
include hI hL in
theorem nh_good {s : ByteArray} (h : s ∈ nh (A.names 1)) : GoodN A s := by
 unfold nh at h
 obtain ⟨h1, h2⟩ := List.mem_filter.1 h
 obtain ⟨j, hj⟩ := names_mem' hI h1
 obtain ⟨o1, o2, m, hm⟩ := find_name hI hj
 refine ⟨?_, name_ne o1, by simpa using h2, noSub_name o1, by have := o2.2; omega⟩
 unfold AT.stat; rw [with_one hI hL hj hm]
include hI in
theorem below1_mem {s : ByteArray} (h : s ∈ A.below1) : ∃ n j k i, n ∈ nh (A.names 1) /\ A.find 1 n = some j /\ A.kind j = 2 /\ k ∈ nh (A.names j) /\ A.find j k = some i /\ s = (n ++ ⟨⟨[47]⟩⟩) ++ k := by
 unfold AT.below1 at h
 obtain ⟨n, hn, hs⟩ := List.mem_flatMap.1 h
 obtain ⟨j, hj⟩ := names_mem' hI ((List.mem_filter.1 hn).1)
 rw [hj] at hs
 by_cases hk : A.kind j = 2
 ·simp only [hk, if_true] at hs
  obtain ⟨k, hk2, rfl⟩ := List.mem_map.1 hs
  obtain ⟨i, hi⟩ := names_mem' hI ((List.mem_filter.1 hk2).1)
  exact ⟨n, j, k, i, hn, hj, hk, hk2, hi, rfl⟩
 ·simp [hk] at hs
include hI hL in
theorem below1_good {s : ByteArray} (h : s ∈ A.below1) : GoodN A s := by
 obtain ⟨n, j, k, i, hn, hj, hkd, hk, hi, rfl⟩ := below1_mem hI h
 obtain ⟨o1, o2, _⟩ := find_name hI hj
 obtain ⟨k1, k2, m, hm⟩ := find_name hI hi
 have hnh : headIs 46 n = false := by have := (List.mem_filter.1 hn).2; simpa using this
 have hkh : headIs 46 k = false := by have := (List.mem_filter.1 hk).2; simpa using this
 refine ⟨?_, app_ne (app_ne (name_ne o1)), ?_, noSub_two o1 k1 hkh, ?_⟩
 ·unfold AT.stat; rw [with_two hI hL hj hkd hi hm]
 ·unfold headIs at hnh ⊢
  rw [app_data, app_data]
  cases hl : n.data.toList with
  | nil => exact absurd hl (name_ne o1)
  | cons c r => rw [hl] at hnh; exact hnh
 ·have := o2.2; have := k2.2
  rw [ByteArray.size_append, ByteArray.size_append]
  have : (⟨⟨[47]⟩⟩ : ByteArray).size = 1 := rfl
  omega
include hI in
theorem names_nodup (d : Int) : (A.names d).Nodup := by
 unfold AT.names
 cases hg : A.get d with
 | none => exact List.nodup_nil
 | some n => exact (sortN_perm _).nodup_iff.2 (hI.enod d n hg)
theorem two_inj {a b s t : ByteArray} (ha : (47 : UInt8) ∉ a.data.toList) (hb : (47 : UInt8) ∉ b.data.toList) (h : (a ++ ⟨⟨[47]⟩⟩) ++ s = (b ++ ⟨⟨[47]⟩⟩) ++ t) : a = b /\ s = t := by
 have e : a.data.toList ++ 47 :: s.data.toList = b.data.toList ++ 47 :: t.data.toList := by
  have := congrArg (fun x : ByteArray => x.data.toList) h
  simp only [app_data] at this
  simpa using this
 have key : ∀ (x y u v : List UInt8), (47 : UInt8) ∉ x -> (47 : UInt8) ∉ y -> x ++ 47 :: u = y ++ 47 :: v -> x = y /\ u = v := by
  intro x
  induction x with
  | nil =>
   intro y u v _ hy h
   cases y with
   | nil => simp at h; exact ⟨rfl, h⟩
   | cons c r => simp at h; exact absurd (h.1 ▸ List.mem_cons_self ..) hy
  | cons c r ih =>
   intro y u v hx hy h
   cases y with
   | nil => simp at h; exact absurd (h.1 ▸ List.mem_cons_self ..) hx
   | cons d q =>
    simp only [List.cons_append, List.cons.injEq] at h
    obtain ⟨h1, h2⟩ := ih q u v (fun m => hx (List.mem_cons_of_mem _ m)) (fun m => hy (List.mem_cons_of_mem _ m)) h.2
    exact ⟨by rw [h.1, h1], h2⟩
 obtain ⟨h1, h2⟩ := key _ _ _ _ ha hb e
 exact ⟨bytes_ext h1, bytes_ext h2⟩
include hI in
theorem below1_nodup : A.below1.Nodup := by
 unfold AT.below1
 have hnn : (nh (A.names 1)).Nodup := (names_nodup hI 1).sublist List.filter_sublist
 have hall : ∀ n ∈ nh (A.names 1), (47 : UInt8) ∉ n.data.toList := by
  intro n hn
  obtain ⟨j, hj⟩ := names_mem' hI ((List.mem_filter.1 hn).1)
  exact (badByte_mem (find_name hI hj).1.2.2).1
 generalize nh (A.names 1) = L at hnn hall
 induction L with
 | nil => exact List.nodup_nil
 | cons n r ih =>
  obtain ⟨h1, h2⟩ := List.nodup_cons.1 hnn
  rw [List.flatMap_cons, List.nodup_append]
  refine ⟨?_, ih h2 fun m hm => hall m (List.mem_cons_of_mem _ hm), ?_⟩
  ·cases A.find 1 n with
   | none => exact List.nodup_nil
   | some j =>
    simp only
    split
    ·have : (nh (A.names j)).Nodup := (names_nodup hI j).sublist List.filter_sublist
     generalize nh (A.names j) = Q at this
     induction Q with
     | nil => exact List.nodup_nil
     | cons k q ihq =>
      obtain ⟨k1, k2⟩ := List.nodup_cons.1 this
      rw [List.map_cons, List.nodup_cons]
      refine ⟨?_, ihq k2⟩
      intro hm
      obtain ⟨k', hk', e⟩ := List.mem_map.1 hm
      have hn := hall n (List.mem_cons_self ..)
      have := (two_inj hn hn e).2
      rw [this] at hk'; exact k1 hk'
    ·exact List.nodup_nil
  ·intro a ha b hb e
   subst e
   obtain ⟨n', hn', hb⟩ := List.mem_flatMap.1 hb
   cases hf : A.find 1 n with
   | none => rw [hf] at ha; cases ha
   | some j =>
    rw [hf] at ha
    simp only at ha
    split at ha
    ·obtain ⟨k, _, e1⟩ := List.mem_map.1 ha
     cases hf' : A.find 1 n' with
     | none => rw [hf'] at hb; cases hb
     | some j' =>
      rw [hf'] at hb
      simp only at hb
      split at hb
      ·obtain ⟨k', _, e2⟩ := List.mem_map.1 hb
       have := (two_inj (hall n (List.mem_cons_self ..)) (hall n' (List.mem_cons_of_mem _ hn')) (e1.trans e2.symm)).1
       rw [this] at h1; exact h1 hn'
      ·cases hb
    ·cases ha
def ltN (a b : ByteArray) : Prop := a.data.toList < b.data.toList
theorem lt_of_le_ne {a b : ByteArray} (h : leN a b) (hne : a ≠ b) : ltN a b := by
 unfold leN at h
 unfold ltN
 apply Classical.byContradiction
 intro hc
 exact hne (bytes_ext (List.le_antisymm h (List.not_lt.1 hc)))
theorem strict {l : List ByteArray} (h : l.Pairwise leN) (hn : l.Nodup) : l.Pairwise ltN := by
 refine (h.and hn).imp ?_
 rintro a b ⟨h1, h2⟩
 exact lt_of_le_ne h1 h2
include hI in
theorem star_strict : (nh (A.names 1)).Pairwise ltN :=
 strict ((names_sorted (A := A) 1).sublist List.filter_sublist) ((names_nodup hI 1).sublist List.filter_sublist)
include hI in
theorem deep_strict : (sortN A.below1).Pairwise ltN :=
 strict (sortN_sorted _) ((sortN_perm _).nodup_iff.2 (below1_nodup hI))
end
end Go.Wk

set_option maxRecDepth 100000
namespace Go.Proofs.YtbjbeajbckcecaaGreatDoor
open Go Go.HL Go.Wk
theorem put_eq {σ σ' : H} {b : Nat} {o : Obj} (h : Put σ b o σ') : σ' = σ.put b o := h
attribute [local irreducible] ptrW ifW brW andW rdT alW letJ stW muW biW vaW imW callT cvalT app callW invW callVW sizeT oW nilF oneK loopW rfW funW begW roundK exW idxW Gr Put
section
variable {A : AT} {B : Nat -> Prop} {σ ρ : H} {bf : Nat}
def sk (bf : Nat) (cwd : ByteArray) (n : Int) : Obj := .cells ⟨[.pointer (some ⟨bf, 0, none⟩), .string cwd, .int .i64 (IntKind.i64.wrap n)]⟩ 97 (0, 0)
theorem charsR_runs (p : Pt) : (charsR p.runs).length = p.l.length := by
 unfold charsR Pt.runs
 generalize p.l = l
 induction l with
 | nil => rfl
 | cons c r ih => rw [List.map_cons, List.flatMap_cons, List.length_append, ih]; simp [Ch.rn, Rn.chs]; omega
theorem plainL_runs (p : Pt) : plainL p.runs = p.l.map (·.1) := by
 unfold plainL Pt.runs
 generalize p.l = l
 induction l with
 | nil => rfl
 | cons c r ih => rw [List.map_cons, List.flatMap_cons, ih]; rfl
theorem wrap_add (n m : Int) : IntKind.i64.wrap (IntKind.i64.wrap n + m) = IntKind.i64.wrap (n + m) := by
 rw [IntKind.wrap_i64, IntKind.wrap_i64, IntKind.wrap_i64]; omega
theorem gr_put_put {σ τ τ' : H} {b : Nat} {o : Obj} (h : Gr σ τ) (hp : Put τ b o τ') : Gr (σ.put b o) τ' := gr_of fun c oc hc => by
 by_cases e : c = b
 ·subst e; rw [H.put_same] at hc; cases hc; exact hp.same
 ·rw [H.put_other _ _ e] at hc; exact hp.get e (h.get hc)
theorem listF_name {cwd path : ByteArray} (hI : Inv A) {s : ByteArray} (h : s ∈ (A.listF cwd path).2) : nameOk s /\ stepOk s := by
 unfold AT.listF at h
 simp only at h
 split at h
 ·cases h
 ·split at h
  ·cases h
  ·obtain ⟨j, hj⟩ := names_mem' hI h
   obtain ⟨o1, o2, _⟩ := find_name hI hj
   exact ⟨o1, o2⟩
theorem listF_len {cwd path : ByteArray} {N : Nat} (hB : Bd N A) : (A.listF cwd path).2.length <= N := by
 unfold AT.listF
 simp only
 split
 ·exact Nat.zero_le _
 ·split
  ·exact Nat.zero_le _
  ·unfold AT.names
   split
   ·exact Nat.zero_le _
   ·rename_i n hn
    have := hB.ents _ n hn
    rw [(sortN_perm _).length_eq, keysL, List.length_map]; exact this
theorem head_idx {s : ByteArray} (h : s.data.toList ≠ []) : ∃ c, s.data.toList[0]? = some c /\ headIs 46 s = (c == 46) := by
 unfold headIs
 cases hs : s.data.toList with
 | nil => exact absurd hs h
 | cons c r => exact ⟨c, rfl, rfl⟩
theorem go_fNames1 : isGo Tryz.prog 196 = true := by kernel_rfl
theorem s_names1 {p : Pt} {y : Sl} {st : Bool} {b28 b5 : Nat} (s : ByteArray) (hs : nameOk s /\ stepOk s) (h28 : σ b28 = some (.cells ⟨[.bool (headIs 46 (plainR p.runs))]⟩ 4 (0, 0))) (h5 : σ b5 = some (.cells ⟨[.slice y.base y.len y.cap, .bool st]⟩ 186 (0, 0))) (hy : RowsAt σ 3 (rnRows p.runs) y) (hp : p.l.length <= 1000000) {K : KH} (hK : K (.bool (!keepN p s)) σ) :
 callVW Tryz.prog (.func (.func 196) ⟨[]⟩ ⟨[.pointer (some ⟨b28, 0, none⟩), .pointer (some ⟨b5, 0, none⟩)]⟩) [.string s] K σ := by
 refine callVW_of go_fNames1 (c196 _ _ _ ?_)
 unfold g196
 obtain ⟨c, hc, hh⟩ := head_idx (name_ne hs.1)
 have hn1 : p.runs.length <= 1000000 := by unfold Pt.runs; rw [List.length_map]; exact hp
 have hn2 : (charsR p.runs).length <= 1000000 := by rw [charsR_runs]; exact hp
 have hsz : s.size <= 1000000 := by have := hs.2.2; omega
 refine idx_l (by omega) hc ?_
 unfold keepN at hK
 rw [hh] at hK
 have e46 : ((((c.toNat : Int) : Int) == 46) = (c == 46)) := by
  exact u8_beq c 46
 rw [e46]
 have tail : (headIs 46 s && !headIs 46 (plainR p.runs)) = false -> K (.bool (!(matchP (piecesP p.runs) s.data.toList))) σ := by
  intro h; rw [hh] at h; rw [h] at hK; simpa using hK
 cases hb : (c == 46) with
 | true =>
  refine br_t rfl (ptr_i (rd_B (rdC_of h28 (by rfl)) ?_))
  cases hd : headIs 46 (plainR p.runs) with
  | false =>
   refine br_t rfl ?_
   rw [hb, hd] at hK; simpa using hK
  | true =>
   refine br_f rfl (ptr_i (rd_L (rdC_of h5 (by rfl)) ?_))
   exact call_i (s_gMatch hy hn1 hn2 s hsz (app_B (tail (by rw [hd]; simp))))
 | false =>
  refine br_f rfl (ptr_i (rd_L (rdC_of h5 (by rfl)) ?_))
  exact call_i (s_gMatch hy hn1 hn2 s hsz (app_B (tail (by rw [hh, hb]; rfl))))
theorem s_fNames {N : Nat} (hI : Inv A) (hB : Bd N A) (hN : N <= 100000000) {p : Pt} {y : Sl} {bs : Nat} {n : Int} {cwd : ByteArray} (hg : Gr ρ σ) (hnb : ρ bs = none) (hF : FsAt ρ bf A B) (hs : σ bs = some (sk bf cwd n)) (hy : RowsAt ρ 3 (rnRows p.runs) y) (hp : p.l.length <= 1000000) (dir : ByteArray) (st : Bool) {K : KH}
 (hK : ∀ x σ', Gr (σ.put bs (sk bf cwd (n + (A.namesP cwd dir p).2))) σ' -> RowsAt σ' 1 (strRows (A.namesP cwd dir p).1) x -> K (.slice x.base x.len x.cap) σ') :
 callW Tryz.prog 136 [.pointer (some ⟨bs, 0, none⟩), .string dir, .agg ⟨[.slice y.base y.len y.cap, .bool st]⟩] K σ := by
 refine c136 _ _ _ _ ?_
 unfold g136
 have hn1 : p.runs.length <= 1000000 := by unfold Pt.runs; rw [List.length_map]; exact hp
 have hn2 : (plainL p.runs).length <= 1000000 := by rw [plainL_runs, List.length_map]; exact hp
 refine al_i ?_; intro b5 σ1 g1 e1 n1
 have nb5 : bs ≠ b5 := fun e => by rw [e, n1] at hs; cases hs
 refine j_i (fun j => ∀ d : ByteArray, d = (if sEq dir ⟨⟨[]⟩⟩ then ⟨⟨[46]⟩⟩ else dir) -> j (some ⟨bs, 0, none⟩) d (some ⟨b5, 0, none⟩) σ1) ?_ ?_
 ·intro d hd
  unfold AT.namesP at hK
  simp only [<- hd] at hK
  have hs1 := g1.get hs
  refine ptr_i (rd_P (rdC_of hs1 (by rfl)) (ptr_i (rd_S (rdC_of hs1 (by rfl)) ?_)))
  refine call_i (s_ListR hI hB (by omega) ((hF.gr hg).gr g1) cwd d ?_)
  intro x σ2 hx
  have hln : ∀ s ∈ (A.listF cwd d).2, nameOk s /\ stepOk s := fun s hs => listF_name hI hs
  have hll := listF_len (cwd := cwd) (path := d) hB
  generalize hL : A.listF cwd d = L at hx hK hln hll ⊢
  (refine app_of rfl ?_; try dsimp only)
  have hs2 := hx.1.get hs1
  by_cases he : L.1 = 0
  case neg =>
   rw [if_pos he] at hK
   refine br_t (by simpa using he) (hK ⟨none, 0, 0⟩ σ2 ?_ ⟨rfl, .inl rfl⟩)
   rw [Int.add_zero]
   exact (g1.trans hx.1).put_in hs2
  rw [if_neg (by simpa using he)] at hK
  refine br_f (by simpa using he) ?_
  refine ptr_i (rd_I (rdC_of hs2 (by rfl)) (ptr_i ?_))
  refine st_set hs2 sz_int (by rfl) (by rfl) (by show 2 < 3; omega) ?_
  intro σ3 p3
  have hxl : x.len = L.2.length := by rw [hx.len]; simp [strRows]
  have eo : (Obj.cells ⟨[Value.pointer (some ⟨bf, 0, none⟩), .string cwd, .int .i64 (IntKind.i64.wrap n)].set (0 + 2) (.int .i64 (IntKind.i64.wrap (IntKind.i64.wrap n + ((x.len : Nat) : Int))))⟩ 97 (0, 0)) = sk bf cwd (n + (L.2.length : Int)) := by
   unfold sk
   rw [hxl, wrap_add]
   rfl
  rw [eo] at p3
  have e5 : σ3 b5 = some (.cells ⟨[.slice y.base y.len y.cap, .bool st]⟩ 186 (0, 0)) := p3.get nb5.symm (hx.1.get e1)
  have hg3 : Gr ρ σ3 := ((hg.trans g1).trans hx.1).putF p3 hnb
  refine ptr_i (rd_L (rdC_of e5 (by rfl)) ?_)
  refine call_i (s_gPlain (hy.gr hg3) hn1 hn2 ?_)
  intro σ4 g4
  refine app_S ?_
  refine call_i (x_HasPrefix _ _ (app_B ?_))
  rw [show ([46].isPrefixOf (plainR p.runs).data.toList) = headIs 46 (plainR p.runs) from prefix_head _ _]
  refine al_i ?_; intro b28 σ5 g5 e5' n5
  refine st_set e5' sz_bool (by rfl) (by rfl) (by show 0 < 1; omega) ?_
  intro σ6 p6
  have hs3 : σ3 bs = some (sk bf cwd (n + (L.2.length : Int))) := p3.same
  have hbase : ∀ g, x.base = some ⟨g, 0, none⟩ -> σ2 g ≠ none := by
   intro g hgx h0
   obtain ⟨_, _, ⟨q, _⟩ | ⟨g', cur, q1, q2, _⟩⟩ := hx.2.1
   ·rw [q] at hgx; cases hgx
   ·rw [q1] at hgx; cases hgx; rw [h0] at q2; cases q2
  have f28 : σ4 b28 = none := n5
  have f28' : σ3 b28 = none := none_of g4 f28
  have f28'' : σ2 b28 = none := by
   have := f28'
   rw [put_eq p3] at this
   by_cases e : b28 = bs
   ·rw [e, H.put_same] at this; cases this
   ·rw [H.put_other _ _ e] at this; exact this
  have hne28 : x.base ≠ some ⟨b28, 0, none⟩ := fun e => hbase _ e f28''
  have hnebs : x.base ≠ some ⟨bs, 0, none⟩ := fun e => by have := hx.2.2 _ e; rw [hs1] at this; cases this
  have hk5 : Gr σ4 σ5 := g5
  let ρ' : H := (σ1.put bs (sk bf cwd (n + (L.2.length : Int)))).put b28 (.cells ⟨[.bool (headIs 46 (plainR p.runs))]⟩ 4 (0, 0))
  have f1 : σ1 b28 = none := none_of hx.1 f28''
  have f2 : (σ1.put bs (sk bf cwd (n + (L.2.length : Int)))) b28 = none := none_put f1 (fun e => by rw [e, hs1] at f1; cases f1)
  have k6 : Gr ρ' σ6 := by
   have a3 : Gr (σ1.put bs (sk bf cwd (n + (L.2.length : Int)))) σ3 := gr_put_put hx.1 p3
   have a4 : Gr (σ1.put bs (sk bf cwd (n + (L.2.length : Int)))) σ6 := ((a3.trans g4).trans hk5).putF p6 f2
   exact a4.put_in p6.same
  have kρ : Gr ρ ρ' := by
   have a1 : Gr ρ (σ1.put bs (sk bf cwd (n + (L.2.length : Int)))) := (hg.trans g1).putF (Put.intro _ _ _) hnb
   exact a1.trans (Gr.put f2 _)
  have hown : RNew ρ' σ6 9 1 (strRows L.2) x := by
   refine ⟨k6, ?_, ?_⟩
   ·exact (((hx.2.1.put p3 hnebs).gr g4).gr hk5).put p6 hne28
   ·intro g hgx
    exact none_put (none_put (hx.2.2 g hgx) (fun e => hnebs (by rw [<- e]; exact hgx))) (fun e => hne28 (by rw [<- e]; exact hgx))
  have hsay : SayS ρ' (.func (.func 196) ⟨[]⟩ ⟨[.pointer (some ⟨b28, 0, none⟩), .pointer (some ⟨b5, 0, none⟩)]⟩) L.2 (fun s => !keepN p s) := by
   intro s hs σ' K' hg' hK'
   have hn5 : b5 ≠ b28 := fun e => by rw [<- e] at f1; rw [f1] at e1; cases e1
   refine s_names1 (st := st) s (hln s hs) (hg'.get (H.put_same _ _ _)) (hg'.get ?_) (hy.gr (kρ.trans hg')) hp hK'
   show ((σ1.put bs _).put b28 _) b5 = _
   rw [H.put_other _ _ hn5, H.put_other _ _ nb5.symm]; exact e1
  refine call_i (s_DelF hown hsay (by omega) ?_)
  intro z σ7 g7 hz _
  refine app_L ?_
  have hf : (L.2.filter fun s => !(!keepN p s)) = L.2.filter (keepN p) := by congr 1; funext s; simp
  rw [hf] at hz
  refine hK z σ7 ?_ hz
  exact ((gr_put_put (b := bs) (o := sk bf cwd (n + (L.2.length : Int))) g1 (Put.intro _ _ _)).trans (Gr.put f2 _)).trans g7
 ·intro j hj
  cases hd : sEq dir ⟨⟨[]⟩⟩ with
  | true => exact br_t (by rw [<- sEq_eq]; exact hd) (hj _ (by rw [hd]; rfl))
  | false => exact br_f (by rw [<- sEq_eq]; exact hd) (hj _ (by rw [hd]; rfl))
end
end Go.Proofs.YtbjbeajbckcecaaGreatDoor

set_option maxRecDepth 100000
namespace Go.Proofs.YtbjbeajbckcecaaGreatDoor
open Go Go.HL Go.Wk
theorem put_put (σ : H) (b : Nat) (o o' : Obj) : (σ.put b o).put b o' = σ.put b o' := by
 funext k; by_cases e : k = b <;> simp [H.put, e]
theorem put_comm (σ : H) {b c : Nat} (o o' : Obj) (h : b ≠ c) : (σ.put b o).put c o' = (σ.put c o').put b o := by
 funext k; simp only [H.put]; by_cases e : k = b <;> by_cases e2 : k = c <;> simp_all
theorem del_put {σ : H} {b : Nat} {o : Obj} (h : σ b = some o) : (σ.del b).put b o = σ := by
 funext k; by_cases e : k = b <;> simp_all [H.put, H.del]
theorem del_eq {σ : H} {b c : Nat} (h : c ≠ b) : σ.del b c = σ c := by simp [H.del, h]
attribute [local irreducible] ptrW ifW brW andW rdT alW letJ stW muW biW vaW imW callT cvalT app callW invW callVW sizeT oW nilF oneK loopW rfW funW begW roundK exW idxW Gr Put
structure Ct (y : Value) (I : List ByteArray -> H -> H -> Prop) : Prop where
 fn : ∀ (g : H -> Prop) σ, g σ -> oneK y g σ
 one : y.oneCell' = true
 gr : ∀ r ρ σ, I r ρ σ -> Gr ρ σ
 adds : ∀ r ρ σ ρ' σ', I r ρ σ -> Gr σ σ' -> Gr ρ ρ' -> Gr ρ' σ' -> (∀ b, ρ' b ≠ none -> ρ b ≠ none \/ σ b = none) -> I r ρ' σ'
 set : ∀ r ρ σ b o σ', I r ρ σ -> ρ b ≠ none -> Put σ b o σ' -> I r (ρ.put b o) σ'
 call : ∀ a r ρ σ K, I (a :: r) ρ σ -> (∀ σ', I r ρ σ' -> K (.bool true) σ') -> callVW Tryz.prog y [.string a] K σ
section
variable {y : Value} {I : List ByteArray -> H -> H -> Prop}
theorem Ct.more (C : Ct y I) {r : List ByteArray} {ρ σ σ' : H} (h : I r ρ σ) (hg : Gr σ σ') : I r ρ σ' := C.adds _ _ _ _ _ h hg (Gr.refl _) ((C.gr _ _ _ h).trans hg) fun b hb => .inl hb
theorem Ct.al (C : Ct y I) {r : List ByteArray} {ρ σ σ' : H} {b : Nat} {o : Obj} (h : I r ρ σ) (hn : σ b = none) (hg : Gr σ σ') (hb : σ' b = some o) : I r (ρ.put b o) σ' := by
 refine C.adds _ _ _ _ _ h hg (Gr.put (none_of (C.gr _ _ _ h) hn) _) (((C.gr _ _ _ h).trans hg).put_in hb) fun c hc => ?_
 by_cases e : c = b
 ·subst e; exact .inr hn
 ·rw [H.put_other _ _ e] at hc; exact .inl hc
theorem Ct.from (C : Ct y I) {r : List ByteArray} {ρ σ τ' σ' : H} {bs : Nat} {o : Obj} (h : I r ρ σ) (hbs : ρ bs ≠ none) (h1 : Gr (ρ.put bs o) τ') (h2 : Gr τ' σ') (h3 : ∀ b o, ρ b = none -> σ b = some o -> σ' b = some o) (h4 : ∀ b, σ b ≠ none -> ρ b = none -> τ' b = none) : I r τ' σ' := by
 refine C.adds _ _ _ _ _ (C.set _ _ _ bs o _ h hbs (Put.intro _ _ _)) ?_ h1 h2 ?_
 ·refine gr_of fun b ob hb => ?_
  by_cases e : b = bs
  ·subst e; rw [H.put_same] at hb; cases hb; exact h2.get (h1.get (H.put_same _ _ _))
  ·rw [H.put_other _ _ e] at hb
   cases hρ : ρ b with
   | none => exact h3 b ob hρ hb
   | some o' =>
    have := (C.gr _ _ _ h).get hρ
    rw [hb] at this; cases this
    exact h2.get (h1.get (by rw [H.put_other _ _ e]; exact hρ))
 ·intro b hb
  by_cases e : b = bs
  ·subst e; left; rw [H.put_same]; simp
  ·rw [H.put_other _ _ e, H.put_other _ _ e]
   by_cases hρ : ρ b = none
   ·right
    cases hσ : σ b with
    | none => rfl
    | some o' => exact absurd (h4 b (by rw [hσ]; simp) hρ) hb
   ·exact .inl hρ
def InI (I : List ByteArray -> H -> H -> Prop) (l bY : Nat) (ol oy : Obj) (rest : List ByteArray) (r : List ByteArray) (ρ σ : H) : Prop := ρ l = none /\ ρ bY = none /\ I (r ++ rest) ((ρ.put bY oy).put l ol) σ
end
theorem el_strs : ElT Tryz.prog 22 9 1 := elT_of (by kernel_rfl) (by decide) (by kernel_rfl)
theorem go_fReach1 : isGo Tryz.prog 135 = true := by kernel_rfl
theorem own1 {σ : H} {b : Nat} {s : ByteArray} (h : σ b = some (.cells ⟨[.string s]⟩ 9 (0, 0))) : RowsOwn σ 9 1 (strRows [s]) ⟨some ⟨b, 0, none⟩, 1, 1⟩ :=
 ⟨rfl, by intro r hr; simp [strRows] at hr; subst hr; rfl, .inr ⟨b, _, rfl, h, rfl, Nat.le_refl _, rfl⟩⟩
section
variable {A : AT} {B : Nat -> Prop} {bf bs : Nat} {N : Nat} {cwd : ByteArray}
theorem inI_ct {y : Value} {I : List ByteArray -> H -> H -> Prop} (C : Ct y I) {l bY : Nat} {ty : TypeId} {obj : LoopState -> Option Code -> Obj} (hlb : bY ≠ l) {rest : List ByteArray}
 (hY : YieldOk Tryz.prog l (fun args K σ' => σ' l = some (obj .ready none) /\ runO (prjC [.sc .str] (fun (a : ByteArray) => begW l obj (ptrW (some ⟨bY, 0, none⟩) (fun (b55 o56 : Nat) => rdT (rdC b55 o56) kR (fun (x57 : Value) => cvalT Tryz.prog x57 [.string a] kB (fun (x58 : Bool) => brW (!x58) (roundK l obj K (some .ret) false .done) (roundK l obj K none true .ready)))))) args) σ')) :
 Ct (yv l) (InI I l bY (obj .ready none) (.cells ⟨[y]⟩ ty (0, 0)) rest) := by
 refine ⟨fun g σ h => one_y h, rfl, ?_, ?_, ?_, ?_⟩
 ·rintro r ρ σ ⟨h1, h2, h3⟩
  exact ((Gr.put h2 _).trans (Gr.put (none_put h1 (fun e => hlb e.symm)) _)).trans (C.gr _ _ _ h3)
 ·rintro r ρ σ ρ' σ' ⟨h1, h2, h3⟩ hg hr hg' hn
  have hG := C.gr _ _ _ h3
  have e1 : σ l = some (obj .ready none) := hG.get (H.put_same _ _ _)
  have e2 : σ bY = some (.cells ⟨[y]⟩ ty (0, 0)) := hG.get (by rw [H.put_other _ _ hlb, H.put_same])
  have f1 : ρ' l = none := by
   cases h : ρ' l with
   | none => rfl
   | some o => rcases hn l (by rw [h]; simp) with q | q
               ·exact absurd h1 q
               ·rw [e1] at q; cases q
  have f2 : ρ' bY = none := by
   cases h : ρ' bY with
   | none => rfl
   | some o => rcases hn bY (by rw [h]; simp) with q | q
               ·exact absurd h2 q
               ·rw [e2] at q; cases q
  refine ⟨f1, f2, C.adds _ _ _ _ _ h3 hg ?_ ?_ ?_⟩
  ·exact gr_put_put (gr_put_put hr (Put.intro _ _ _)) (Put.intro _ _ _)
  ·exact (hg'.put_in (hg.get e2)).put_in (hg.get e1)
  ·intro b hb
   by_cases q1 : b = l
   ·subst q1; left; rw [H.put_same]; simp
   ·by_cases q2 : b = bY
    ·subst q2; left; rw [H.put_other _ _ q1, H.put_same]; simp
    ·rw [H.put_other _ _ q1, H.put_other _ _ q2] at hb ⊢
     exact hn b hb
 ·rintro r ρ σ b o σ' ⟨h1, h2, h3⟩ hb hp
  have q1 : b ≠ l := fun e => hb (by rw [e]; exact h1)
  have q2 : b ≠ bY := fun e => hb (by rw [e]; exact h2)
  refine ⟨none_put h1 q1.symm, none_put h2 q2.symm, ?_⟩
  have := C.set _ _ _ b o _ h3 (by rw [H.put_other _ _ q1, H.put_other _ _ q2]; exact hb) hp
  rw [put_comm _ _ _ q1.symm, put_comm _ _ _ q2.symm] at this
  exact this
 ·rintro a r ρ σ K ⟨h1, h2, h3⟩ hK
  have hG := C.gr _ _ _ h3
  have e1 : σ l = some (obj .ready none) := hG.get (H.put_same _ _ _)
  have e2 : σ bY = some (.cells ⟨[y]⟩ ty (0, 0)) := hG.get (by rw [H.put_other _ _ hlb, H.put_same])
  refine yv_call (hY _ _ _ ⟨e1, ?_⟩)
  show begW l obj _ σ
  refine beg_i e1 ?_
  intro σ1 p1
  have i1 := C.set _ _ _ l _ _ h3 (by rw [H.put_same]; simp) p1
  rw [put_put] at i1
  refine ptr_i (rd_R (rdC_of (p1.get hlb e2) (by rfl)) ?_)
  refine cvalv_i (C.call a (r ++ rest) _ _ _ i1 ?_)
  intro σ2 i2
  refine app_B (br_f rfl ?_)
  refine round_i ((C.gr _ _ _ i2).get (H.put_same _ _ _)) ?_
  intro σ3 p3
  refine hK σ3 ⟨h1, h2, ?_⟩
  have := C.set _ _ _ l _ _ i2 (by rw [H.put_same]; simp) p3
  rw [put_put] at this
  exact this
end
end Go.Proofs.YtbjbeajbckcecaaGreatDoor

set_option maxRecDepth 100000
namespace Go.Proofs.YtbjbeajbckcecaaGreatDoor
open Go Go.HL Go.Wk
attribute [local irreducible] ptrW ifW brW andW rdT alW letJ stW muW biW vaW imW callT cvalT app callW invW callVW sizeT oW nilF oneK loopW rfW funW begW roundK exW idxW Gr Put
section
variable {A : AT} {B : Nat -> Prop} {bf bs : Nat} {N : Nat} {cwd : ByteArray}
theorem namesP_mem (hI : Inv A) {p : Pt} {dir s : ByteArray} (h : s ∈ (A.namesP cwd dir p).1) : s.size <= 1000000 := by
 unfold AT.namesP at h
 generalize (if sEq dir ⟨⟨[]⟩⟩ then (⟨⟨[46]⟩⟩ : ByteArray) else dir) = d at h
 simp only at h
 split at h
 ·cases h
 ·have := (listF_name hI (List.mem_filter.1 h).1).2.2
  omega
theorem namesP_len (hB : Bd N A) {p : Pt} {dir : ByteArray} : (A.namesP cwd dir p).1.length <= N := by
 unfold AT.namesP
 generalize (if sEq dir ⟨⟨[]⟩⟩ then (⟨⟨[46]⟩⟩ : ByteArray) else dir) = d
 simp only
 split
 ·exact Nat.zero_le _
 ·exact Nat.le_trans (List.length_filter_le _ _) (listF_len hB)
theorem plainR_size (p : Pt) : (plainR p.runs).size = p.l.length := by
 rw [size_list]; show (plainL p.runs).length = _; rw [plainL_runs, List.length_map]
theorem PtsAt.tail {σ : H} {p : Pt} {r : List Pt} {x : Sl} (h : PtsAt σ (p :: r) x) : PtsAt σ r ⟨slBase x.base ((1 : Int).toNat) x.cap 2, x.len - ((1 : Int).toNat), x.cap - ((1 : Int).toNat)⟩ := by
 have hl := h.len
 obtain ⟨hc, rows, h1, h2⟩ := h
 simp only [List.length_cons] at hl
 have hr : rows.length = r.length + 1 := h2.1
 refine ⟨by show x.len - 1 <= x.cap - 1; omega, rows.drop 1, ?_, by simp [hr], fun i q hi => ?_⟩
 ·have := h1.sub hc (k := 1) (e := rows.length) (by omega) (Nat.le_refl _) (x.cap - 1)
  rw [List.take_length] at this
  have e : x.len - 1 = rows.length - 1 := by omega
  show RowsAt σ 2 _ ⟨slBase x.base 1 x.cap 2, x.len - 1, x.cap - 1⟩
  rw [e]; exact this
 ·obtain ⟨y, h3, h4⟩ := h2.2 (i + 1) q (by simpa using hi)
  exact ⟨y, by rw [List.getElem?_drop, Nat.add_comm]; exact h3, h4⟩
theorem s_fReach1 (hI : Inv A) (hB : Bd N A) (hN : N <= 100000000) {ρ0 : H} (hF : FsAt ρ0 bf A B) (h0 : ρ0 bs = none) :
 ∀ (l : List Pt) (x : Sl) (base : ByteArray) (rest : List ByteArray) (ρ σ : H) (y : Value) (I : List ByteArray -> H -> H -> Prop) (n : Int) (b4 b5 b6 : Nat) (K : KH),
  Ct y I -> I ((A.reach cwd l base).1 ++ rest) ρ σ -> Gr ρ0 ρ -> PtsAt ρ0 l x -> (∀ p ∈ l, p.l.length <= 1000000) -> l.length <= 1000000 -> base.size + l.length * 1000000 <= 2000000000000 ->
  ρ b6 = some (.cells ⟨[.slice x.base x.len x.cap]⟩ 102 (0, 0)) -> ρ b5 = some (.cells ⟨[.string base]⟩ 9 (0, 0)) -> ρ b4 = some (.cells ⟨[.pointer (some ⟨bs, 0, none⟩)]⟩ 95 (0, 0)) -> ρ bs = some (sk bf cwd n) ->
  (∀ ρ' σ', I rest ρ' σ' -> Gr (ρ.put bs (sk bf cwd (n + (A.reach cwd l base).2))) ρ' -> K (.tuple ⟨[]⟩) σ') ->
  callW Tryz.prog 135 [y, .pointer (some ⟨b6, 0, none⟩), .pointer (some ⟨b5, 0, none⟩), .pointer (some ⟨b4, 0, none⟩)] K σ := by
 intro l
 induction l with
 | nil =>
  intro x base rest ρ σ y I n b4 b5 b6 K C hi hg0 hp _ _ _ h6 h5 h4 hs hK
  refine c135 _ _ _ _ ?_
  unfold g135
  refine C.fn _ _ ?_
  have hG := C.gr _ _ _ hi
  refine al_i ?_; intro bY σ1 g1 e1 n1
  have hxl := hp.len
  refine ptr_i (rd_L (rdC_of (g1.get (hG.get h6)) (by rfl)) ?_)
  refine br_t (by rw [hxl]; rfl) ?_
  refine rd_R (rdC_of e1 (by rfl)) (ptr_i (rd_S (rdC_of (g1.get (hG.get h5)) (by rfl)) ?_))
  refine cvalv_i (C.call base rest ρ σ1 _ (C.more hi g1) ?_)
  intro σ2 i2
  refine app_B (hK ρ σ2 i2 ?_)
  have : n + (A.reach cwd [] base).2 = n := Int.add_zero n
  rw [this, put_id hs]
  exact Gr.refl _
 | cons p r ih =>
  intro x base rest ρ σ y I n b4 b5 b6 K C hi hg0 hp hpl hll hsz h6 h5 h4 hs hK
  refine c135 _ _ _ _ ?_
  unfold g135
  refine C.fn _ _ ?_
  have hG := C.gr _ _ _ hi
  have hpp := hpl p (List.mem_cons_self ..)
  simp only [List.length_cons] at hll hsz
  refine al_i ?_; intro bY σ1 g1 e1 n1
  have i1 := C.al hi n1 g1 e1
  have nY : ρ bY = none := none_of hG n1
  have hxl := hp.len
  simp only [List.length_cons] at hxl
  refine ptr_i (rd_L (rdC_of (g1.get (hG.get h6)) (by rfl)) ?_)
  refine br_f (by simp only [beq_eq_false_iff_ne, ne_eq]; omega) (ptr_i (rd_L (rdC_of (g1.get (hG.get h6)) (by rfl)) ?_))
  obtain ⟨gx, ox, yp, a1, a2, a3, a4⟩ := hp.at (i := 0) (p := p) rfl
  rw [a1]
  refine ptr_i (if_i ⟨by omega, by show _ < ((x.len : Nat) : Int); omega⟩ (rd_G (rdA_gr ((hg0.trans hG).trans g1) a3) ?_))
  unfold ptRow
  (refine app_of rfl ?_; try dsimp only)
  refine al_i ?_; intro bP σ2 g2 e2 n2
  refine st_i2 e2 sz_fpart (by rfl) (by rfl) ?_; intro σ3 p3
  have nP1 : σ bP = none := none_of g1 n2
  have nP : ρ bP = none := none_of hG nP1
  have yP : bY ≠ bP := fun e => by rw [e, n2] at e1; cases e1
  have nbY : bs ≠ bY := fun e => by rw [e, nY] at hs; cases hs
  have nbP : bs ≠ bP := fun e => by rw [e, nP] at hs; cases hs
  have g3 : Gr σ1 σ3 := g2.putF p3 n2
  have i3 := C.al i1 n2 g3 p3.same
  have eP : ([Value.slice none 0 0, .bool false].take 0 ++ arrL (Value.agg ⟨[.slice yp.base yp.len yp.cap, .bool p.st]⟩).cells ++ [Value.slice none 0 0, .bool false].drop (0 + (arrL (Value.agg ⟨[.slice yp.base yp.len yp.cap, .bool p.st]⟩).cells).length)) = [Value.slice yp.base yp.len yp.cap, .bool p.st] := rfl
  have p3s := p3.same
  rw [eP] at p3s i3
  generalize hoy : Obj.cells ⟨[y]⟩ 184 (0, 0) = oy at e1 i3
  generalize hop : Obj.cells ⟨[Value.slice yp.base yp.len yp.cap, .bool p.st]⟩ 186 (0, 0) = op at p3s i3
  let ρ1 : H := (ρ.put bY oy).put bP op
  replace i3 : I ((A.reach cwd (p :: r) base).1 ++ rest) ρ1 σ3 := i3
  have q6 : ρ1 b6 = some (.cells ⟨[.slice x.base x.len x.cap]⟩ 102 (0, 0)) := by
   show ((ρ.put bY oy).put bP op) b6 = _
   rw [H.put_other _ _ (fun e => by rw [e, nP] at h6; cases h6), H.put_other _ _ (fun e => by rw [e, nY] at h6; cases h6)]; exact h6
  have q5 : ρ1 b5 = some (.cells ⟨[.string base]⟩ 9 (0, 0)) := by
   show ((ρ.put bY oy).put bP op) b5 = _
   rw [H.put_other _ _ (fun e => by rw [e, nP] at h5; cases h5), H.put_other _ _ (fun e => by rw [e, nY] at h5; cases h5)]; exact h5
  have q4 : ρ1 b4 = some (.cells ⟨[.pointer (some ⟨bs, 0, none⟩)]⟩ 95 (0, 0)) := by
   show ((ρ.put bY oy).put bP op) b4 = _
   rw [H.put_other _ _ (fun e => by rw [e, nP] at h4; cases h4), H.put_other _ _ (fun e => by rw [e, nY] at h4; cases h4)]; exact h4
  have qs : ρ1 bs = some (sk bf cwd n) := by
   show ((ρ.put bY oy).put bP op) bs = _
   rw [H.put_other _ _ nbP, H.put_other _ _ nbY]; exact hs
  have qY : ρ1 bY = some oy := by
   show ((ρ.put bY oy).put bP op) bY = _
   rw [H.put_other _ _ yP, H.put_same]
  have qP : ρ1 bP = some op := H.put_same _ _ _
  have hr1 : Gr ρ ρ1 := (Gr.put nY _).trans (Gr.put (none_put nP (fun e => yP e.symm)) _)
  have hb1 : Gr ρ0 (ρ1.del bs) := H.gr_del (hg0.trans hr1) h0
  have k6s : b6 ≠ bs := fun e => by rw [e, hs] at h6; cases h6
  have k5s : b5 ≠ bs := fun e => by rw [e, hs] at h5; cases h5
  have k4s : b4 ≠ bs := fun e => by rw [e, hs] at h4; cases h4
  have hG3 := C.gr _ _ _ i3
  clear_value ρ1
  clear i1 e2 p3 g3 g2 g1 hG hi
  refine j_i (fun j => ∀ (next : Sl) (names : List ByteArray) (ρs σs σ' : H) (m : Int), I ((names.flatMap fun to => (A.reach cwd r to).1) ++ rest) ρs σs -> Gr (ρ1.del bs) ρs -> ρs bs = some (sk bf cwd m) -> RNew σs σ' 9 1 (strRows names) next -> m + (names.map fun to => (A.reach cwd r to).2).sum = n + (A.reach cwd (p :: r) base).2 -> (∀ to ∈ names, to.size + r.length * 1000000 <= 2000000000000) -> names.length <= 100000000 -> j (some ⟨b6, 0, none⟩) (some ⟨b4, 0, none⟩) (some ⟨bY, 0, none⟩) next σ') ?_ ?_
  ·intro next names ρs σs σ' m is hgs hss hnx hcnt hnsz hnl
   have hGs := C.gr _ _ _ is
   have hnr : RNew (ρs.del bs) σ' 9 1 (strRows names) next := hnx.since ((H.del_gr ρs bs).trans hGs)
   obtain ⟨ρn, u1, u2, u3, u4⟩ := freeze_own hnr
   have hxs : next.base ≠ some ⟨bs, 0, none⟩ := fun e => by
    have := hnx.2.2 _ e
    rw [hGs.get hss] at this; cases this
   have hns : ρn bs = none := u4 bs (H.del_self _ _) hxs
   have i2 : I ((names.flatMap fun to => (A.reach cwd r to).1) ++ rest) (ρn.put bs (sk bf cwd m)) σ' := by
    refine C.adds _ _ _ _ _ is hnx.1 ?_ (u2.put_in (hnx.1.get (hGs.get hss))) ?_
    ·refine gr_of fun b o hb => ?_
     by_cases e : b = bs
     ·subst e; rw [hss] at hb; cases hb; exact H.put_same _ _ _
     ·rw [H.put_other _ _ e]; exact u1.get (H.del_get hb e)
    ·intro b hb
     by_cases e : b = bs
     ·subst e; left; rw [hss]; simp
     ·rw [H.put_other _ _ e] at hb
      by_cases h : ρs b = none
      ·right
       by_cases h2 : next.base = some ⟨b, 0, none⟩
       ·exact hnx.2.2 _ h2
       ·exact absurd (u4 b (H.del_none h) h2) hb
      ·exact .inl h
   have hbn : Gr (ρ1.del bs) ρn := by
    refine Gr.trans ?_ u1
    exact H.gr_del hgs (H.del_self _ _)
   have hnxl : next.len = names.length := by rw [hnx.len]; simp [strRows]
   clear is hGs hnr hnx u1 u2 u4 hgs hss
   refine loop_i ?_
   intro R hR
   have key : ∀ (c i : Nat) (ρ2 σ2 : H) (m : Int), c + i = names.length -> I (((names.drop i).flatMap fun to => (A.reach cwd r to).1) ++ rest) ρ2 σ2 -> Gr ρn ρ2 -> ρ2 bs = some (sk bf cwd m) -> m + ((names.drop i).map fun to => (A.reach cwd r to).2).sum = n + (A.reach cwd (p :: r) base).2 -> R (some ⟨b6, 0, none⟩) (some ⟨b4, 0, none⟩) (some ⟨bY, 0, none⟩) next ((next.len : Nat) : Int) (i : Int) σ2 := by
    intro c
    induction c with
    | zero =>
     intro i ρ2 σ2 m hc i2 hgn hsm hcnt
     refine hR _ _ _ _ _ _ _ ?_
     refine br_f (by simp only [decide_eq_false_iff_not]; omega) ?_
     rw [List.drop_eq_nil_of_le (by omega)] at i2 hcnt
     simp only [List.map_nil, List.sum_nil, Int.add_zero] at hcnt
     refine hK ρ2 σ2 i2 (gr_of fun b o hb => ?_)
     by_cases e : b = bs
     ·subst e; rw [H.put_same] at hb; cases hb; rw [<- hcnt]; exact hsm
     ·rw [H.put_other _ _ e] at hb
      exact hgn.get (hbn.get (H.del_get (hr1.get hb) e))
    | succ c ihc =>
     intro i ρ2 σ2 m hc i2 hgn hsm hcnt
     obtain ⟨to, hto⟩ : ∃ to, names[i]? = some to := ⟨_, List.getElem?_eq_getElem (by omega)⟩
     have hmem : to ∈ names := List.mem_of_getElem? hto
     rw [drop_cons hto, List.flatMap_cons, List.append_assoc] at i2
     rw [drop_cons hto, List.map_cons, List.sum_cons] at hcnt
     have hG2 := C.gr _ _ _ i2
     obtain ⟨gn, on, z1, z2, z3⟩ := strRow_at u3 hto
     refine hR _ _ _ _ _ _ _ ?_
     refine br_t (by simp only [decide_eq_true_eq]; omega) ?_
     refine j_i (fun jj => ∀ (ρ3 σ3 : H) (m : Int), I (((names.drop (i + 1)).flatMap fun to => (A.reach cwd r to).1) ++ rest) ρ3 σ3 -> Gr ρn ρ3 -> ρ3 bs = some (sk bf cwd m) -> m + ((names.drop (i + 1)).map fun to => (A.reach cwd r to).2).sum = n + (A.reach cwd (p :: r) base).2 -> jj (some ⟨b6, 0, none⟩) (some ⟨b4, 0, none⟩) (some ⟨bY, 0, none⟩) next ((next.len : Nat) : Int) (i : Int) σ3) ?_ ?_
     ·intro ρ3 σ3 m j1 j2 j3 j4
      rw [wrapS (i := i) (by omega)]
      exact ihc (i + 1) ρ3 σ3 m (by omega) j1 j2 j3 j4
     intro jj hjj
     rw [z1]
     have w6 : ρ2 b6 = some (.cells ⟨[.slice x.base x.len x.cap]⟩ 102 (0, 0)) := hgn.get (hbn.get (H.del_get q6 k6s))
     have w4 : ρ2 b4 = some (.cells ⟨[.pointer (some ⟨bs, 0, none⟩)]⟩ 95 (0, 0)) := hgn.get (hbn.get (H.del_get q4 k4s))
     have wY : ρ2 bY = some oy := hgn.get (hbn.get (H.del_get qY nbY.symm))
     refine ptr_i (if_i ⟨by omega, by show _ < ((next.len : Nat) : Int); omega⟩ (rd_S (rdC_gr (hgn.trans hG2) (by rw [Int.toNat_natCast]; exact z3)) ?_))
     refine ptr_i (rd_P (rdC_of (hG2.get w4) (by rfl)) (ptr_i (rd_L (rdC_of (hG2.get w6) (by rfl)) ?_)))
     refine if_i ⟨bnd_none, bnd_some (by omega) (by show (1 : Int) <= ((x.len : Nat) : Int); omega)⟩ ?_
     refine call_i (c67 (some ⟨bs, 0, none⟩) to ⟨slBase x.base ((1 : Int).toNat) x.cap 2, x.len - ((1 : Int).toNat), x.cap - ((1 : Int).toNat)⟩ ?_)
     unfold g67
     refine al_i ?_; intro c4 τ1 v1 f1 m1
     have y1 := C.al i2 m1 v1 f1
     refine al_i ?_; intro c5 τ2 v2 f2 m2
     have y2 := C.al y1 m2 v2 f2
     refine al_i ?_; intro c6 τ3 v3 f3 m3
     have y3 := C.al y2 m3 v3 f3
     refine app_R (fun_i ?_)
     refine rf_i go_fReach1 ?_
     intro lp obj τ4 nl pl hobj hY
     have y4 := C.al y3 nl (Gr.refl τ3 |>.putF pl nl) pl.same
     have r1 : ρ2 c4 = none := none_of hG2 m1
     have r2 : (ρ2.put c4 (.cells ⟨[.pointer (some ⟨bs, 0, none⟩)]⟩ 95 (0, 0))) c5 = none := none_of (C.gr _ _ _ y1) m2
     have r3 := none_of (C.gr _ _ _ y2) m3
     have r4 := none_of (C.gr _ _ _ y3) nl
     generalize ho4 : Obj.cells ⟨[.pointer (some ⟨bs, 0, none⟩)]⟩ 95 (0, 0) = o4 at r2 r3 r4 y1 y2 y3 y4
     generalize ho5 : Obj.cells ⟨[.string to]⟩ 9 (0, 0) = o5 at r3 r4 y2 y3 y4
     generalize ho6 : Obj.cells ⟨[.slice (slBase x.base ((1 : Int).toNat) x.cap 2) (x.len - ((1 : Int).toNat)) (x.cap - ((1 : Int).toNat))]⟩ 102 (0, 0) = o6 at r4 y3 y4
     generalize hρ3 : ((ρ2.put c4 o4).put c5 o5).put c6 o6 = ρ3 at r4 y3 y4
     have t23 : Gr ρ2 ρ3 := by rw [<- hρ3]; exact ((Gr.put r1 _).trans (Gr.put r2 _)).trans (Gr.put r3 _)
     have t4 : ρ3 c4 = some o4 := by
      rw [<- hρ3]
      exact ((Gr.put r2 _).trans (Gr.put r3 _)).get (H.put_same _ _ _)
     have t5 : ρ3 c5 = some o5 := by
      rw [<- hρ3]
      exact (Gr.put r3 _).get (H.put_same _ _ _)
     have t6 : ρ3 c6 = some o6 := by rw [<- hρ3]; exact H.put_same _ _ _
     have tY : ρ3 bY = some oy := t23.get wY
     have ts : ρ3 bs = some (sk bf cwd m) := t23.get hsm
     have d4 : c4 ≠ bY := fun e => by rw [e, wY] at r1; cases r1
     have d5 : c5 ≠ bY := fun e => by
      rw [e] at r2
      have := (Gr.put r1 o4).get wY
      rw [r2] at this; cases this
     have d6 : c6 ≠ bY := fun e => by
      rw [e] at r3
      have := ((Gr.put r1 o4).trans (Gr.put r2 o5)).get wY
      rw [r3] at this; cases this
     have dl : bY ≠ lp := fun e => by rw [<- e, tY] at r4; cases r4
     have hCt := inI_ct (ty := 184) (bY := bY) (l := lp) (rest := ((names.drop (i + 1)).flatMap fun to => (A.reach cwd r to).1) ++ rest) C (obj := obj) dl hY
     rw [hoy] at hCt
     refine ih _ to [] (ρ3.del bY) τ4 (yv lp) _ m c4 c5 c6 _ hCt ?_ ?_ hp.tail (fun q hq => hpl q (List.mem_cons_of_mem _ hq)) (by omega) (hnsz to hmem) ?_ ?_ ?_ ?_ ?_
     ·refine ⟨H.del_none r4, H.del_self _ _, ?_⟩
      rw [List.append_nil, del_put tY]
      exact y4
     ·refine H.gr_del (((hb1.trans hbn).trans hgn).trans t23) ?_
      exact none_of hg0 nY
     ·rw [del_eq d6, t6, ho6]
     ·rw [del_eq d5, t5, ho5]
     ·rw [del_eq d4, t4, ho4]
     ·rw [del_eq nbY, ts]
     ·rintro ρ' σ' ⟨j1, j2, j3⟩ hg'
      have hG' := C.gr _ _ _ j3
      refine end_n (hG'.get (H.put_same _ _ _)) (by intro h; cases h) ?_
      intro σ5 p5
      have i5 := C.set _ _ _ lp _ _ j3 (by rw [H.put_same]; simp) p5
      rw [put_put] at i5
      rw [List.nil_append] at i5
      refine hjj _ σ5 (m + (A.reach cwd r to).2) i5 (gr_of fun b o hb => ?_) ?_ (by omega)
      ·have hbs : b ≠ bs := fun e => by rw [e, hns] at hb; cases hb
       have hb3 := t23.get (hgn.get hb)
       have hbl : b ≠ lp := fun e => by rw [e, r4] at hb3; cases hb3
       rw [H.put_other _ _ hbl]
       by_cases e : b = bY
       ·subst e; rw [H.put_same, <- tY]; exact hb3.symm ▸ rfl
       ·rw [H.put_other _ _ e]
        exact hg'.get (by rw [H.put_other _ _ hbs, del_eq e]; exact hb3)
      ·have hbl : bs ≠ lp := fun e => by rw [<- e, ts] at r4; cases r4
       rw [H.put_other _ _ hbl, H.put_other _ _ nbY]
       exact hg'.get (H.put_same _ _ _)
   exact key names.length 0 (ρn.put bs (sk bf cwd m)) σ' m (by omega) (by simpa using i2) (Gr.put hns _) (H.put_same _ _ _) (by simpa using hcnt)
  ·intro j hj
   rw [AT.reach_cons] at i3 hj
   subst hop
   have hFs : ∀ {τ : H}, Gr σ3 τ -> FsAt τ bf A B := fun hg => hF.gr (((hb1.trans (H.del_gr _ _)).trans hG3).trans hg)
   have hys : ∀ {τ : H}, Gr σ3 τ -> RowsAt τ 3 (rnRows p.runs) yp := fun hg => a4.gr (((hb1.trans (H.del_gr _ _)).trans hG3).trans hg)
   have hn1 : p.runs.length <= 1000000 := by unfold Pt.runs; rw [List.length_map]; exact hpp
   have hn2 : (plainL p.runs).length <= 1000000 := by rw [plainL_runs, List.length_map]; exact hpp
   have hn3 : (charsR p.runs).length <= 1000000 := by rw [charsR_runs]; exact hpp
   have hsp := plainR_size p
   have hj' : ∀ (next : Sl) (ρs σs σ' : H), I (((A.nextP cwd p base).1.flatMap fun to => (A.reach cwd r to).1) ++ rest) ρs σs -> Gr (ρ1.del bs) ρs -> ρs bs = some (sk bf cwd (n + (A.nextP cwd p base).2)) -> RNew σs σ' 9 1 (strRows (A.nextP cwd p base).1) next -> (∀ to ∈ (A.nextP cwd p base).1, to.size + r.length * 1000000 <= 2000000000000) -> (A.nextP cwd p base).1.length <= 100000000 -> j (some ⟨b6, 0, none⟩) (some ⟨b4, 0, none⟩) (some ⟨bY, 0, none⟩) next σ' :=
    fun next ρs σs σ' k1 k2 k3 k4 k5 k6 => hj next _ ρs σs σ' _ k1 k2 k3 k4 (by show _ = n + (_ + _); omega) k5 k6
   have hone : ∀ (t : ByteArray), t.size <= 1000000 -> ∀ to ∈ [base ++ t], to.size + r.length * 1000000 <= 2000000000000 := by
    intro t ht to hto
    rw [List.mem_singleton] at hto
    subst hto
    rw [ByteArray.size_append]; omega
   clear hj
   cases hst : p.st with
   | true =>
    rw [hst] at p3s
    refine rd_B (rdC_of p3s (by rfl)) (br_t rfl ?_)
    refine ptr_i (rd_P (rdC_of (hG3.get q4) (by rfl)) (ptr_i (rd_P (rdC_of (hG3.get qs) (by rfl)) ?_)))
    refine ptr_i (rd_P (rdC_of (hG3.get q4) (by rfl)) (ptr_i (rd_S (rdC_of (hG3.get qs) (by rfl)) ?_)))
    refine ptr_i (rd_S (rdC_of (hG3.get q5) (by rfl)) ?_)
    refine call_i (s_Stat (hFs (Gr.refl _)) cwd base true ?_)
    have hNP : A.nextP cwd p base = if sEq base ⟨⟨[]⟩⟩ || (decide ((A.stat cwd base true).1 = 0) && decide ((A.stat cwd base true).2.kind = 2)) then ([base ++ plainR p.runs], 0) else ([], 0) := by
     unfold AT.nextP; rw [if_pos hst]
    generalize hX : A.stat cwd base true = X at hNP ⊢
    unfold inV
    (refine app_of rfl ?_; try dsimp only)
    refine al_i ?_; intro b85 σ4 g4 e4 n4
    refine st_i2 e4 sz_Inode (by rfl) (by rfl) ?_; intro σ5 p5
    have g5 : Gr σ3 σ5 := g4.putF p5 n4
    have k85 : σ5 b85 = some (.cells ⟨[.int .i64 X.2.kind, .int .i64 X.2.mode, .string X.2.data, .int .i64 X.2.links]⟩ 35 (0, 0)) := p5.same
    have i5 := C.more i3 g5
    refine j_i (fun jj => ∀ flag : Bool, flag = (sEq base ⟨⟨[]⟩⟩ || (decide (X.1 = 0) && decide (X.2.kind = 2))) -> jj (some ⟨b6, 0, none⟩) (some ⟨b5, 0, none⟩) (some ⟨b4, 0, none⟩) (some ⟨bY, 0, none⟩) (some ⟨bP, 0, none⟩) ⟨none, 0, 0⟩ flag σ5) ?_ ?_
    ·intro flag hf
     rw [<- hf] at hNP
     rw [hNP] at i5 hj'
     cases flag with
     | true =>
      simp only [if_true, Int.add_zero] at i5 hj'
      refine br_t rfl (ptr_i (rd_S (rdC_of (g5.get (hG3.get q5)) (by rfl)) (ptr_i (rd_L (rdC_of (g5.get p3s) (by rfl)) ?_))))
      refine call_i (s_gPlain (hys g5) hn1 hn2 ?_)
      intro σ6 g6
      refine app_S (and_i (rdC_of (g6.get (g5.get (hG3.get q5))) (by rfl)) (if_i (by omega) (al_i ?_)))
      intro b101 σ7 g7 e7 n7
      refine hj' _ ρ1 σ6 σ7 (C.more i5 g6) (H.del_gr _ _) qs ⟨g7, own1 e7, fun g h => by cases h; exact n7⟩ (hone _ (by omega)) (by simp)
     | false =>
      simp only [Bool.false_eq_true, if_false, Int.add_zero] at i5 hj'
      exact br_f rfl (hj' _ ρ1 σ5 σ5 i5 (H.del_gr _ _) qs (RNew.nil _ _ _) (fun to h => by cases h) (Nat.zero_le _))
    ·intro jj hjj
     refine ptr_i (rd_S (rdC_of (g5.get (hG3.get q5)) (by rfl)) ?_)
     cases hb : sEq base ⟨⟨[]⟩⟩ with
     | true => exact br_t (by rw [<- sEq_eq]; exact hb) (hjj _ (by rw [hb]; rfl))
     | false =>
      refine br_f (by rw [<- sEq_eq]; exact hb) ?_
      by_cases h1 : X.1 = 0
      ·refine br_t (by simpa using h1) (rd_I (rdC_of k85 (by rfl)) (hjj _ ?_))
       have e2 : (X.2.kind == 2) = decide (X.2.kind = 2) := rfl
       rw [hb, h1, e2]; simp
      ·exact br_f (by simpa using h1) (hjj _ (by rw [hb]; simp [h1]))
   | false =>
    rw [hst] at p3s qP
    refine rd_B (rdC_of p3s (by rfl)) (br_f rfl ?_)
    refine rd_L (rdC_of p3s (by rfl)) (call_i (s_gMagic (hys (Gr.refl _)) hn1 hn3 (app_B ?_)))
    cases hm : magicP p.runs with
    | true =>
     have hNP : A.nextP cwd p base = ((A.namesP cwd base p).1.map (base ++ ·), (A.namesP cwd base p).2) := by
      unfold AT.nextP; rw [if_neg (by rw [hst]; simp), if_pos hm]
     rw [hNP] at i3 hj'
     simp only at i3 hj'
     refine br_t rfl ?_
     refine ptr_i (rd_P (rdC_of (hG3.get q4) (by rfl)) (ptr_i (rd_S (rdC_of (hG3.get q5) (by rfl)) ?_)))
     refine rd_G (rdA_of' p3s (r := [.slice yp.base yp.len yp.cap, .bool false]) rfl) ?_
     (refine app_of rfl ?_; try dsimp only)
     refine call_from hG3 (s_fNames hI hB hN (H.del_gr ρ1 bs) (H.del_self _ _) (hF.gr hb1) qs (a4.gr hb1) hpp base false (K := fun v τ' => ∃ x : Sl, v = .slice x.base x.len x.cap /\ Gr (ρ1.put bs (sk bf cwd (n + (A.namesP cwd base p).2))) τ' /\ RowsAt τ' 1 (strRows (A.namesP cwd base p).1) x) fun x σ' h1 h2 => ⟨x, rfl, h1, h2⟩) ?_
     rintro v σ4 τ' ⟨x', rfl, w1, w2⟩ h2 h3 h4
     refine app_L ?_
     have i4 := C.from i3 (by rw [qs]; simp) w1 h2 h3 h4
     have hnm : ∀ s ∈ (A.namesP cwd base p).1, s.size <= 1000000 := fun s hs => namesP_mem hI hs
     have hnl : (A.namesP cwd base p).1.length <= 100000000 := Nat.le_trans (namesP_len hB) hN
     generalize A.namesP cwd base p = NN at i4 w1 w2 hnm hnl hj'
     have e5 : τ' b5 = some (.cells ⟨[.string base]⟩ 9 (0, 0)) := w1.get (by rw [H.put_other _ _ k5s]; exact q5)
     have hxl' : x'.len = NN.1.length := by rw [w2.1]; simp [strRows]
     refine loop_i ?_
     intro R hR
     have key : ∀ (c i : Nat) (next : Sl) (σ5 : H), c + i = NN.1.length -> RNew σ4 σ5 9 1 (strRows ((NN.1.take i).map (base ++ ·))) next -> R (some ⟨b6, 0, none⟩) (some ⟨b5, 0, none⟩) (some ⟨b4, 0, none⟩) (some ⟨bY, 0, none⟩) next x' ((x'.len : Nat) : Int) (i : Int) σ5 := by
      intro c
      induction c with
      | zero =>
       intro i next σ5 hc hn
       refine hR _ _ _ _ _ _ _ _ _ ?_
       refine br_f (by simp only [decide_eq_false_iff_not]; omega) ?_
       rw [List.take_of_length_le (by omega)] at hn
       refine hj' next τ' σ4 σ5 i4 ?_ (w1.get (H.put_same _ _ _)) hn ?_ (by rw [List.length_map]; exact hnl)
       ·refine gr_of fun b o hb => ?_
        by_cases e : b = bs
        ·subst e; rw [H.del_self] at hb; cases hb
        ·rw [del_eq e] at hb; exact w1.get (by rw [H.put_other _ _ e]; exact hb)
       ·intro to hto
        obtain ⟨s, hs, rfl⟩ := List.mem_map.1 hto
        exact hone s (hnm s hs) _ (List.mem_singleton.2 rfl)
      | succ c ihc =>
       intro i next σ5 hc hn
       obtain ⟨nm, hnmi⟩ : ∃ nm, NN.1[i]? = some nm := ⟨_, List.getElem?_eq_getElem (by omega)⟩
       obtain ⟨gn, on, z1, z2, z3⟩ := strRow_at ((w2.gr h2).gr hn.1) hnmi
       have hs1 := hnm nm (List.mem_of_getElem? hnmi)
       refine hR _ _ _ _ _ _ _ _ _ ?_
       refine br_t (by simp only [decide_eq_true_eq]; omega) ?_
       rw [z1]
       refine ptr_i (if_i ⟨by omega, by show _ < ((x'.len : Nat) : Int); omega⟩ (rd_S (by rw [Int.toNat_natCast]; exact z3) ?_))
       refine ptr_i (rd_S (rdC_of (hn.1.get (h2.get e5)) (by rfl)) (if_i (by omega) ?_))
       refine RNew.app1 el_strs hn rfl rfl (by simp [strRows]; omega) ?_
       intro y' σ6 hn6 _ _
       rw [wrapS (i := i) (by omega)]
       refine ihc (i + 1) y' σ6 (by omega) ?_
       have : strRows ((NN.1.take (i + 1)).map (base ++ ·)) = strRows ((NN.1.take i).map (base ++ ·)) ++ [[Value.string (base ++ nm)]] := by
        rw [List.take_add_one, hnmi, List.map_append]
        simp [strRows]
       rw [this]; exact hn6
     exact key NN.1.length 0 ⟨none, 0, 0⟩ σ4 (by omega) (RNew.nil _ _ _)
    | false =>
     have hNP : A.nextP cwd p base = if (A.stat cwd (base ++ plainR p.runs) false).1 = 0 then ([base ++ plainR p.runs], 0) else ([], 0) := by
      unfold AT.nextP; rw [if_neg (by rw [hst]; simp), if_neg (by rw [hm]; simp)]
     refine br_f rfl ?_
     refine ptr_i (rd_S (rdC_of (hG3.get q5) (by rfl)) (rd_L (rdC_of p3s (by rfl)) ?_))
     refine call_i (s_gPlain (hys (Gr.refl _)) hn1 hn2 ?_)
     intro σ4 g4
     refine app_S (and_i (rdC_of (g4.get (hG3.get q5)) (by rfl)) (if_i (by omega) ?_))
     refine ptr_i (rd_P (rdC_of (g4.get (hG3.get q4)) (by rfl)) (ptr_i (rd_P (rdC_of (g4.get (hG3.get qs)) (by rfl)) ?_)))
     refine ptr_i (rd_P (rdC_of (g4.get (hG3.get q4)) (by rfl)) (ptr_i (rd_S (rdC_of (g4.get (hG3.get qs)) (by rfl)) ?_)))
     refine call_i (s_Stat (hFs g4) cwd _ false ?_)
     generalize hX : A.stat cwd (base ++ plainR p.runs) false = X at hNP ⊢
     unfold inV
     (refine app_of rfl ?_; try dsimp only)
     refine al_i ?_; intro b85 σ5 g5 e5 n5
     refine st_i2 e5 sz_Inode (by rfl) (by rfl) ?_; intro σ6 p6
     have g6 : Gr σ3 σ6 := g4.trans (g5.putF p6 n5)
     have i6 := C.more i3 g6
     rw [hNP] at i6 hj'
     by_cases h1 : X.1 = 0
     ·simp only [h1, if_true, Int.add_zero] at i6 hj'
      refine br_t (by simpa using h1) (al_i ?_)
      intro b101 σ7 g7 e7 n7
      exact hj' _ ρ1 σ6 σ7 i6 (H.del_gr _ _) qs ⟨g7, own1 e7, fun g h => by cases h; exact n7⟩ (hone _ (by omega)) (by simp)
     ·simp only [h1, if_false, Int.add_zero] at i6 hj'
      exact br_f (by simpa using h1) (hj' _ ρ1 σ6 σ6 i6 (H.del_gr _ _) qs (RNew.nil _ _ _) (fun to h => by cases h) (Nat.zero_le _))
end
end Go.Proofs.YtbjbeajbckcecaaGreatDoor

set_option maxRecDepth 100000
namespace Go.Proofs.YtbjbeajbckcecaaGreatDoor
open Go Go.HL Go.Wk Go.RowKit Go.Maps Go.Sort Go.Shelf
theorem s_Sort {ρ σ : H} {l : List ByteArray} {x : Sl} (h : RNew ρ σ 9 1 (strRows l) x) (hn : l.length <= 4000000000000000000) {K : KH} (hK : ∀ σ', RNew ρ σ' 9 1 (strRows (sortN l)) x -> K (.tuple ⟨[]⟩) σ') :
 callW Tryz.prog 134 [.slice x.base x.len x.cap] K σ := by
 intro w hw
 have hsort : (l.map fun s => s.data.toList).mergeSort (fun x y => decide (x <= y)) = (sortN l).map fun s => s.data.toList := by
  rw [<- sortK_eq]; unfold sortK; rw [List.map_map]
  have : ((fun s : ByteArray => s.data.toList) ∘ fun x : List UInt8 => (⟨⟨x⟩⟩ : ByteArray)) = id := rfl
  rw [this, List.map_id]
 have hxl : x.len = l.length := by rw [h.len]; simp [strRows]
 obtain ⟨h1, h2, h3⟩ := h
 obtain ⟨q1, q2, ⟨q3, q4, q5⟩ | ⟨g, cur, q3, q4, q5, q6, q7⟩⟩ := id h2
 ·have hl : l = [] := by simpa [strRows] using q5
  subst hl
  have e0 : x.len = 0 := hxl
  have hsn : sortN [] = [] := rfl
  rw [e0]
  refine callsIn_wide.2 ((AnyM.slices_Sort_string_none Tryz.sort134 x.base x.cap w).mono ?_)
  rintro en w' ⟨rfl, rfl⟩
  refine ⟨_, rfl, σ, ⟨hw, Nat.le_refl _, fun b _ _ => rfl, fun b o hb hn => (by rw [hb] at hn; cases hn), rfl, rfl, rfl⟩, hK σ (by rw [hsn]; exact ⟨h1, h2, h3⟩)⟩
 ·have hwg : w.heap[g]? = some (.cells ⟨cur⟩ 9 (0, 0)) := hw g _ q4
  rw [strRows_flat, Nat.mul_one, hxl] at q7
  have hlc : l.length <= cur.length := by rw [q5, Nat.mul_one]; omega
  have hget : ∀ (j : Nat) (s : ByteArray), l[j]? = some s -> cur[j]? = some (Value.string s) := by
   intro j s hj
   have hjl : j < l.length := by
    rcases Nat.lt_or_ge j l.length with h | h
    ·exact h
    ·rw [List.getElem?_eq_none h] at hj; cases hj
   have : (cur.take l.length)[j]? = some (Value.string s) := by rw [q7, List.getElem?_map, hj]; rfl
   rw [List.getElem?_take_of_lt hjl] at this; exact this
  have hH : Holds encStr w g 0 (l.map fun s => s.data.toList).toArray := by
   intro j hj
   have hj' : j < l.length := by simpa using hj
   refine ⟨?_, ?_⟩
   ·unfold World.cell?
    simp only [hwg, Option.isSome_none, Bool.false_eq_true, if_false]
    have := hget j l[j] (List.getElem?_eq_getElem hj')
    rw [getElem!_pos _ j hj]
    simp only [Nat.zero_add, List.getElem?_toArray, this]
    simp [encStr]
   ·unfold World.frozen?
    simp only [hwg]
    simp
  rw [q3, hxl]
  have hc := AnyM.slices_Sort_string Tryz.sort134 g 0 x.cap (l.map fun s => s.data.toList) w hH (hw.lt q4) (by rw [List.length_map]; omega)
  rw [List.length_map] at hc
  refine callsIn_wide.2 (hc.mono ?_)
  rintro en w' ⟨rfl, n, os, rfl⟩
  rw [hsort]
  generalize hS : sortN l = S at hK ⊢
  have hSl : S.length = l.length := by rw [<- hS]; exact (sortN_perm l).length_eq
  let d : Array (List UInt8) := (S.map fun s => s.data.toList).toArray
  have hds : d.size = l.length := by show ((S.map fun s => s.data.toList).toArray).size = _; simp [hSl]
  have hnew : (grow (putRow encStr (Sort.ahead w n) g 0 d) os).heap[g]? = some (.cells (putCells encStr 0 d ⟨cur⟩) 9 (0, 0)) := by
   rw [heap_grow_old _ _ (by rw [size_putRow]; exact hw.lt q4)]
   show ((Sort.ahead w n).heap.modify g (onCells _))[g]? = _
   rw [Array.getElem?_modify, if_pos rfl]
   show Option.map _ w.heap[g]? = _
   rw [hwg]; rfl
  have hold : ∀ b, b < w.heap.size -> b ≠ g -> (grow (putRow encStr (Sort.ahead w n) g 0 d) os).heap[b]? = w.heap[b]? := by
   intro b hb hbg
   rw [heap_grow_old _ _ (by rw [size_putRow]; exact hb)]
   show ((Sort.ahead w n).heap.modify g (onCells _))[b]? = _
   rw [Array.getElem?_modify, if_neg (fun e => hbg e.symm)]; rfl
  have hcells : (putCells encStr 0 d ⟨cur⟩).toList.length = cur.length := by unfold putCells; simp
  have htake : (putCells encStr 0 d ⟨cur⟩).toList.take l.length = S.map Value.string := by
   refine List.ext_getElem? fun k => ?_
   by_cases hk : k < l.length
   ·rw [List.getElem?_take_of_lt hk, List.getElem?_map]
    obtain ⟨s, hs⟩ : ∃ s, S[k]? = some s := ⟨_, List.getElem?_eq_getElem (by omega)⟩
    rw [hs]
    unfold putCells
    rw [Array.getElem?_toList, Array.getElem?_mapIdx]
    have hkc : k < cur.length := by omega
    have e1 : (⟨cur⟩ : Array Value)[k]? = some cur[k] := by rw [List.getElem?_toArray]; exact List.getElem?_eq_getElem hkc
    rw [e1, Option.map_some, if_pos ⟨by omega, by omega⟩, Nat.sub_zero]
    have e2 : d[k]! = s.data.toList := by
     rw [getElem!_pos d k (by omega)]
     show ((S.map fun s => s.data.toList).toArray)[k]'_ = _
     rw [List.getElem_toArray, List.getElem_map]
     rw [List.getElem?_eq_getElem (by omega)] at hs
     rw [Option.some.inj hs]
    rw [e2]; rfl
   ·rw [List.getElem?_take_eq_none (by omega), List.getElem?_eq_none (by rw [List.length_map]; omega)]
  have hfin : RNew ρ (σ.put g (.cells (putCells encStr 0 d ⟨cur⟩) 9 (0, 0))) 9 1 (strRows S) x := by
   refine ⟨gr_of fun b o hb => ?_, ⟨by rw [hxl]; simp [strRows, hSl], ?_, .inr ⟨g, (putCells encStr 0 d ⟨cur⟩).toList, q3, H.put_same _ _ _, by rw [hcells]; exact q5, q6, ?_⟩⟩, h3⟩
   ·rw [H.put_other _ _ (fun e => by rw [e, h3 g q3] at hb; cases hb)]; exact h1.get hb
   ·intro r hr
    obtain ⟨s, _, rfl⟩ := List.mem_map.1 hr; rfl
   ·rw [strRows_flat, Nat.mul_one, hxl]; exact htake
  refine ⟨_, rfl, σ.put g (.cells (putCells encStr 0 d ⟨cur⟩) 9 (0, 0)), ⟨fun b o hb => ?_, ?_, fun b hb hn => ?_, fun b o hb hn => ?_, rfl, rfl, rfl⟩, hK _ hfin⟩
  ·by_cases e : b = g
   ·subst e; rw [H.put_same] at hb; cases hb; exact hnew
   ·rw [H.put_other _ _ e] at hb; rw [hold b (hw.lt hb) e]; exact hw b o hb
  ·show w.heap.size <= (grow (putRow encStr (Sort.ahead w n) g 0 d) os).heap.size
   show _ <= ((putRow encStr (Sort.ahead w n) g 0 d).heap ++ os).size
   rw [Array.size_append, size_putRow]; exact Nat.le_add_right _ _
  ·exact hold b hb (fun e => by rw [e, q4] at hn; cases hn)
  ·by_cases e : b = g
   ·subst e; rw [q4] at hn; cases hn
   ·rw [H.put_other _ _ e, hn] at hb; cases hb
end Go.Proofs.YtbjbeajbckcecaaGreatDoor

set_option maxRecDepth 100000
namespace Go.Proofs.YtbjbeajbckcecaaGreatDoor
open Go Go.HL Go.Wk
theorem own_ne {σ : H} {e : TypeId} {n : Nat} {rows : List (List Value)} {x : Sl} {b : Nat} {o : Obj} (h : RowsOwn σ e n rows x) (hb : σ b = some o) (ho : ∀ cur : List Value, o ≠ .cells ⟨cur⟩ e (0, 0)) : x.base ≠ some ⟨b, 0, none⟩ := by
 intro he
 obtain ⟨_, _, ⟨q, _⟩ | ⟨g, cur, q1, q2, _⟩⟩ := h
 ·rw [q] at he; cases he
 ·rw [q1] at he; cases he
  rw [hb] at q2
  exact ho cur (Option.some.inj q2)
attribute [local irreducible] ptrW ifW brW andW rdT alW letJ stW muW biW vaW imW callT cvalT app callW invW callVW sizeT oW nilF oneK loopW rfW funW begW roundK exW idxW Gr Put
def AcI (total : List ByteArray) (l b3 : Nat) (ol : Obj) (r : List ByteArray) (ρ σ : H) : Prop :=
 Gr ρ σ /\ ρ l = none /\ ρ b3 = none /\ σ l = some ol /\ ∃ (z : Sl) (acc : List ByteArray), σ b3 = some (.cells ⟨[.slice z.base z.len z.cap]⟩ 22 (0, 0)) /\ RNew ρ σ 9 1 (strRows acc) z /\ acc ++ r = total
section
variable {A : AT} {B : Nat -> Prop} {bf bs : Nat} {N : Nat} {cwd : ByteArray}
theorem acI_ct {l b3 : Nat} {obj : LoopState -> Option Code -> Obj} (hobj : LoopObj obj) (total : List ByteArray) (hlb : b3 ≠ l) (ht : total.length < 1000000000)
 (hY : YieldOk Tryz.prog l (fun args K σ' => σ' l = some (obj .ready none) /\ runO (prjC [.sc .str] (fun (x12 : ByteArray) => begW l obj (rdT (rdC b3 0) kL (fun (x13 : Sl) =>
  alW (.cells ⟨[.string x12]⟩ 9 (0, 0)) (fun (b14 : Nat) =>
   biW Tryz.prog .append #[22, 22] 22 [false, false] [.slice x13.base x13.len x13.cap, .slice (some ⟨b14, 0, none⟩) 1 1] kL (fun (x15 : Sl) =>
    stW Tryz.prog 22 (.pointer (some ⟨b3, 0, none⟩)) (.slice x15.base x15.len x15.cap) (roundK l obj K none true .ready)))))) args) σ')) :
 Ct (yv l) (AcI total l b3 (obj .ready none)) := by
 obtain ⟨lr, hlr⟩ := id hobj
 have hlo : ∀ s j (cur : List Value), obj s j ≠ .cells ⟨cur⟩ 9 (0, 0) := fun s j cur e => by rw [hlr] at e; cases e
 refine ⟨fun g σ h => one_y h, rfl, ?_, ?_, ?_, ?_⟩
 ·intro r ρ σ h; exact h.1
 ·rintro r ρ σ ρ' σ' ⟨h1, h2, h3, h4, z, acc, h5, h6, h7⟩ hg hr hg' hn
  have hno : ∀ {b : Nat} {o : Obj}, ρ b = none -> σ b = some o -> ρ' b = none := by
   intro b o q1 q2
   cases h : ρ' b with
   | none => rfl
   | some o' => rcases hn b (by rw [h]; simp) with q | q
                ·exact absurd q1 q
                ·rw [q2] at q; cases q
  refine ⟨hg', hno h2 h4, hno h3 h5, hg.get h4, z, acc, hg.get h5, ⟨hg', h6.2.1.gr hg, fun g hz => ?_⟩, h7⟩
  obtain ⟨_, _, ⟨q, _⟩ | ⟨g', cur, q1, q2, _⟩⟩ := h6.2.1
  ·rw [q] at hz; cases hz
  ·rw [q1] at hz; cases hz
   exact hno (h6.2.2 _ q1) q2
 ·rintro r ρ σ b o σ' ⟨h1, h2, h3, h4, z, acc, h5, h6, h7⟩ hb hp
  have q1 : b ≠ l := fun e => hb (by rw [e]; exact h2)
  have q2 : b ≠ b3 := fun e => hb (by rw [e]; exact h3)
  have q3 : z.base ≠ some ⟨b, 0, none⟩ := fun e => hb (h6.2.2 _ e)
  have k1 := gr_put_put h1 hp
  exact ⟨k1, none_put h2 q1.symm, none_put h3 q2.symm, hp.get q1.symm h4, z, acc, hp.get q2.symm h5, ⟨k1, h6.2.1.put hp q3, fun g hz => none_put (h6.2.2 g hz) (fun e => q3 (by rw [<- e]; exact hz))⟩, h7⟩
 ·rintro a r ρ σ K ⟨h1, h2, h3, h4, z, acc, h5, h6, h7⟩ hK
  refine yv_call (hY _ _ _ ⟨h4, ?_⟩)
  show begW l obj _ σ
  refine beg_i h4 ?_
  intro σ1 p1
  have n1 : z.base ≠ some ⟨l, 0, none⟩ := own_ne h6.2.1 h4 (hlo _ _)
  have r1 := h6.putF p1 h2 n1
  have k1 := p1.get hlb h5
  have n2 : z.base ≠ some ⟨b3, 0, none⟩ := own_ne r1.2.1 k1 (fun cur e => by injection e with _ e2; exact absurd e2 (by decide))
  refine rd_L (rdC_of k1 (by rfl)) ?_
  have hal : acc.length < 1000000000 := by
   have := congrArg List.length h7
   rw [List.length_append] at this; omega
  refine RNew.app1 el_strs r1 rfl rfl (by simpa [strRows] using hal) ?_
  intro z' σ2 r2 kp hb'
  have k2 := kp _ _ k1 n2
  have k2l := kp _ _ p1.same n1
  have n3 : z'.base ≠ some ⟨b3, 0, none⟩ := own_ne r2.2.1 k2 (fun cur e => by injection e with _ e2; exact absurd e2 (by decide))
  refine st_i2 k2 sz_strs (by rfl) (by rfl) ?_
  intro σ3 p3
  have r3 := r2.putF p3 h3 n3
  have k3l := p3.get hlb.symm k2l
  refine round_i k3l ?_
  intro σ4 p4
  have n4 : z'.base ≠ some ⟨l, 0, none⟩ := own_ne r3.2.1 k3l (hlo _ _)
  have r4 := r3.putF p4 h2 n4
  refine hK σ4 ⟨r4.1, h2, h3, p4.same, z', acc ++ [a], p4.get hlb p3.same, ?_, by rw [<- h7]; simp⟩
  have : strRows (acc ++ [a]) = strRows acc ++ [[.string a]] := by simp [strRows]
  rw [this]; exact r4
theorem s_AppSeq (hI : Inv A) (hB : Bd N A) (hN : N <= 100000000) {ρ0 σ : H} (hF : FsAt ρ0 bf A B) (h0 : ρ0 bs = none) (hg0 : Gr ρ0 σ) {l : List Pt} {x : Sl} (hp : PtsAt ρ0 l x) (hpl : ∀ p ∈ l, p.l.length <= 1000000) (hll : l.length <= 1000000) {base : ByteArray} (hsz : base.size <= 1000000) {b4 b5 b6 : Nat} {n : Int}
 (h6 : σ b6 = some (.cells ⟨[.slice x.base x.len x.cap]⟩ 102 (0, 0))) (h5 : σ b5 = some (.cells ⟨[.string base]⟩ 9 (0, 0))) (h4 : σ b4 = some (.cells ⟨[.pointer (some ⟨bs, 0, none⟩)]⟩ 95 (0, 0))) (hs : σ bs = some (sk bf cwd n)) (ht : (A.reach cwd l base).1.length < 1000000000) {K : KH}
 (hK : ∀ (z : Sl) ρ' σ', Gr (σ.put bs (sk bf cwd (n + (A.reach cwd l base).2))) ρ' -> RNew ρ' σ' 9 1 (strRows (A.reach cwd l base).1) z -> K (.slice z.base z.len z.cap) σ') :
 callW Tryz.prog 192 [.slice none 0 0, .func (.func 135) ⟨[]⟩ ⟨[.pointer (some ⟨b6, 0, none⟩), .pointer (some ⟨b5, 0, none⟩), .pointer (some ⟨b4, 0, none⟩)]⟩] K σ := by
 refine c192 ⟨none, 0, 0⟩ _ ?_
 unfold g192
 refine al_i ?_; intro b3 σ1 g1 e1 n1
 refine j_i (fun j => ∀ (z : Sl) σ' ρ', Gr (σ.put bs (sk bf cwd (n + (A.reach cwd l base).2))) ρ' -> RNew ρ' σ' 9 1 (strRows (A.reach cwd l base).1) z -> σ' b3 = some (.cells ⟨[.slice z.base z.len z.cap]⟩ 22 (0, 0)) -> j (some ⟨b3, 0, none⟩) σ') ?_ ?_
 ·intro z σ' ρ' j1 j2 j3
  exact ptr_i (rd_L (rdC_of j3 (by rfl)) (hK z ρ' σ' j1 j2))
 intro j hj
 refine fun_i (rf_i go_fReach1 ?_)
 intro lp obj σ2 nl pl hobj hY
 have nl0 : σ lp = none := none_of g1 nl
 have hbl : b3 ≠ lp := fun e => by rw [<- e, e1] at nl; cases nl
 have hC := acI_ct hobj (A.reach cwd l base).1 hbl ht hY
 refine s_fReach1 hI hB hN hF h0 l x base [] σ σ2 (yv lp) _ n b4 b5 b6 _ hC ?_ hg0 hp hpl hll (by omega) h6 h5 h4 hs ?_
 ·refine ⟨g1.putF pl nl0, nl0, n1, pl.same, ⟨none, 0, 0⟩, [], pl.get hbl e1, RNew.nil' (g1.putF pl nl0) _ _, by simp⟩
 ·rintro ρ' σ' ⟨j1, j2, j3, j4, z, acc, j5, j6, j7⟩ hg
  refine end_n j4 (by intro h; cases h) ?_
  intro σ3 p3
  obtain ⟨lr, hlr⟩ := id hobj
  have nz : z.base ≠ some ⟨lp, 0, none⟩ := own_ne j6.2.1 j4 (fun cur e => by rw [hlr] at e; cases e)
  rw [List.append_nil] at j7
  subst j7
  exact hj z σ3 ρ' hg (j6.putF p3 j2 nz) (p3.get hbl j5)
theorem s_SortSeq (hI : Inv A) (hB : Bd N A) (hN : N <= 100000000) {ρ0 σ : H} (hF : FsAt ρ0 bf A B) (h0 : ρ0 bs = none) (hg0 : Gr ρ0 σ) {l : List Pt} {x : Sl} (hp : PtsAt ρ0 l x) (hpl : ∀ p ∈ l, p.l.length <= 1000000) (hll : l.length <= 1000000) {base : ByteArray} (hsz : base.size <= 1000000) {b4 b5 b6 : Nat} {n : Int}
 (h6 : σ b6 = some (.cells ⟨[.slice x.base x.len x.cap]⟩ 102 (0, 0))) (h5 : σ b5 = some (.cells ⟨[.string base]⟩ 9 (0, 0))) (h4 : σ b4 = some (.cells ⟨[.pointer (some ⟨bs, 0, none⟩)]⟩ 95 (0, 0))) (hs : σ bs = some (sk bf cwd n)) (ht : (A.reach cwd l base).1.length < 1000000000) {K : KH}
 (hK : ∀ (z : Sl) ρ' σ', Gr (σ.put bs (sk bf cwd (n + (A.reach cwd l base).2))) ρ' -> RNew ρ' σ' 9 1 (strRows (sortN (A.reach cwd l base).1)) z -> K (.slice z.base z.len z.cap) σ') :
 callW Tryz.prog 66 [.func (.func 135) ⟨[]⟩ ⟨[.pointer (some ⟨b6, 0, none⟩), .pointer (some ⟨b5, 0, none⟩), .pointer (some ⟨b4, 0, none⟩)]⟩] K σ := by
 refine c66 _ ?_
 unfold g66
 refine call_i (c133 _ ?_)
 unfold g133
 refine call_i (s_AppSeq hI hB hN hF h0 hg0 hp hpl hll hsz h6 h5 h4 hs ht ?_)
 intro z ρ' σ' hg hz
 refine app_L (app_L (call_i (s_Sort hz (by omega) ?_)))
 intro σ2 hz2
 exact app_U (hK z ρ' σ2 hg hz2)
theorem parts_le {p : List Rn} (hn : (charsR p).length <= 1000000) : (∀ q ∈ partsR p, q.l.length <= 1000000) /\ (partsR p).length <= 1000000 := by
 obtain ⟨h1, h2⟩ := parts_n (charsR p) []
 refine ⟨fun q hq => ?_, ?_⟩
 ·have := ptN_le hq
  unfold partsR at this
  rw [h1] at this
  simp [ptN] at this
  omega
 ·unfold partsR; simp at h2; omega
theorem s_fGlob (hI : Inv A) (hB : Bd N A) (hN : N <= 100000000) {σ : H} (hF : FsAt σ bf A B) {r : List Rn} {x : Sl} (hx : RowsAt σ 3 (rnRows r) x) (hr : r.length <= 1000000) (hc : (charsR r).length <= 1000000) (hpn : (plainL r).length <= 1000000) (ht : magicP r = true -> (A.reach cwd (partsR r) ⟨⟨[]⟩⟩).1.length < 1000000000) {K : KH}
 (hK : ∀ (z : Sl) σ', RNew σ σ' 9 1 (strRows (A.globP cwd r).1) z -> K (.tuple ⟨[.slice z.base z.len z.cap, .int .i64 (IntKind.i64.wrap (A.globP cwd r).2)]⟩) σ') :
 callW Tryz.prog 14 [.pointer (some ⟨bf, 0, none⟩), .string cwd, .slice x.base x.len x.cap] K σ := by
 refine c14 _ _ _ ?_
 unfold g14
 refine call_i (s_gMagic hx hr hc (app_B ?_))
 unfold AT.globP at hK
 cases hm : magicP r with
 | false =>
  rw [hm] at hK
  refine br_t rfl (call_i (s_gPlain hx hr hpn ?_))
  intro σ1 g1
  refine app_S (al_i ?_)
  intro b6 σ2 g2 e2 n2
  exact hK ⟨some ⟨b6, 0, none⟩, 1, 1⟩ σ2 ⟨g1.trans g2, own1 e2, fun g h => by cases h; exact none_of g1 n2⟩
 | true =>
  rw [hm] at hK
  simp only [Bool.true_eq_false, if_false] at hK
  refine br_f rfl (al_i ?_)
  intro b7 σ1 g1 e1 n1
  have e1 : σ1 b7 = some (sk bf cwd 0) := e1
  refine call_from g1 (s_fParts hx hr hc (K := fun v τ' => ∃ y : Sl, v = .slice y.base y.len y.cap /\ Gr σ τ' /\ PtsAt τ' (partsR r) y) fun y σ' h1 h2 => ⟨y, rfl, h1, h2⟩) ?_
  rintro v σ2 ρ0 ⟨y, rfl, w1, w2⟩ h2 h3 h4
  have k0 : ρ0 b7 = none := h4 b7 (by rw [e1]; simp) n1
  have k7 := h3 b7 _ n1 e1
  have hF0 := hF.gr w1
  refine app_L (call_i (c67 _ _ _ ?_))
  unfold g67
  refine al_i ?_; intro c4 τ1 v1 f1 m1
  refine al_i ?_; intro c5 τ2 v2 f2 m2
  refine al_i ?_; intro c6 τ3 v3 f3 m3
  have hg3 : Gr σ2 τ3 := (v1.trans v2).trans v3
  obtain ⟨pl1, pl2⟩ := parts_le hc
  refine app_R (call_i (s_SortSeq (bs := b7) (n := 0) hI hB hN hF0 k0 (h2.trans hg3) w2 pl1 pl2 (base := ⟨⟨[]⟩⟩) (by show 0 <= 1000000; omega) f3 (v3.get f2) ((v2.trans v3).get f1) (hg3.get k7) (ht hm) ?_))
  intro z ρ' σ' hg hz
  have hgσ : Gr σ ρ' := by
   refine gr_of fun b o hb => hg.get ?_
   rw [H.put_other _ _ (fun e => by rw [e, n1] at hb; cases hb)]
   exact hg3.get (h2.get (w1.get hb))
  have k7' : ρ' b7 = some (sk bf cwd (0 + (A.reach cwd (partsR r) ⟨⟨[]⟩⟩).2)) := hg.get (H.put_same _ _ _)
  have hzl : z.len = (A.reach cwd (partsR r) ⟨⟨[]⟩⟩).1.length := by rw [hz.len]; simp [strRows, (sortN_perm _).length_eq]
  rw [Int.zero_add] at k7'
  refine app_L (j_i (fun j => ∀ (z' : Sl) σ2, RNew σ σ2 9 1 (strRows (if (A.reach cwd (partsR r) ⟨⟨[]⟩⟩).1 = [] then [plainR r] else sortN (A.reach cwd (partsR r) ⟨⟨[]⟩⟩).1)) z' -> σ2 b7 = some (sk bf cwd (A.reach cwd (partsR r) ⟨⟨[]⟩⟩).2) -> j z' (some ⟨b7, 0, none⟩) σ2) ?_ ?_)
  ·intro z' σ2 j1 j2
   exact ptr_i (rd_I (rdC_of j2 (by rfl)) (hK z' σ2 j1))
  intro j hj
  by_cases he : (A.reach cwd (partsR r) ⟨⟨[]⟩⟩).1 = []
  ·refine br_t (by rw [hzl, he]; rfl) (call_i (s_gPlain (hx.gr (hgσ.trans hz.1)) hr hpn ?_))
   intro σ3 g3
   refine app_S (al_i ?_)
   intro b18 σ4 g4 e4 n4
   have hg4 : Gr σ σ3 := (hgσ.trans hz.1).trans g3
   refine hj _ σ4 ?_ (g4.get (g3.get (hz.1.get k7')))
   rw [if_pos he]
   exact ⟨hg4.trans g4, own1 e4, fun g h => by cases h; exact none_of hg4 n4⟩
  ·have hne : (A.reach cwd (partsR r) ⟨⟨[]⟩⟩).1.length ≠ 0 := fun e => he (List.eq_nil_of_length_eq_zero e)
   refine br_f (by simp only [beq_eq_false_iff_ne, ne_eq]; omega) (hj z σ' ?_ (hz.1.get k7'))
   rw [if_neg he]
   exact hz.since hgσ
end
end Go.Proofs.YtbjbeajbckcecaaGreatDoor

set_option maxRecDepth 100000
namespace Go.Proofs.YtbjbeajbckcecaaGreatDoor
open Go Go.HL Go.Wk
attribute [local irreducible] ptrW ifW brW andW rdT alW letJ stW muW biW vaW imW callT cvalT app callW invW callVW sizeT oW nilF oneK loopW rfW funW begW roundK exW idxW Gr Put
def eRow (es : List (ByteArray × Int)) : List (List Value) := (sortN (keysL es)).map fun k => [.string k, .int .i64 ((lk k es).getD 0 - 1)]
def ptrRow (A : AT) (cb : Int -> Nat) : List (List Value) := (List.range A.last.toNat).map fun (i : Nat) => [.pointer (if (A.get ((i : Int) + 1)).isSome then some ⟨cb ((i : Int) + 1), 0, none⟩ else none)]
def upR (n : AN) : Int := if n.kind = 2 then n.up - 1 else 0
def nodeO (n : AN) (y : Sl) : Obj := .cells ⟨[.int .i64 n.kind, .int .i64 n.mode, .string n.data, .slice y.base y.len y.cap, .int .i64 (upR n)]⟩ 131 (0, 0)
structure RfM where
 x : Sl
 cb : Int -> Nat
 ey : Int -> Sl
 w : Nat -> Option (Int × Bool)
structure RfIn (σ : H) (b : Nat) (A : AT) (M : RfM) : Prop where
 top : σ b = some (.cells ⟨[.int .i64 A.qi, .int .i64 A.qb, .slice M.x.base M.x.len M.x.cap]⟩ 134 (0, 0))
 tab : RowsOwn σ 128 1 (ptrRow A M.cb) M.x
 nod : ∀ i n, A.get i = some n -> σ (M.cb i) = some (nodeO n (M.ey i))
 ent : ∀ i n, A.get i = some n -> RowsOwn σ 245 2 (eRow n.ents) (M.ey i)
 wb : M.w b = some (0, false)
 wt : ∀ g, M.x.base = some ⟨g, 0, none⟩ -> M.w g = some (0, true)
 wn : ∀ i n, A.get i = some n -> M.w (M.cb i) = some (i, false)
 we : ∀ i n g, A.get i = some n -> (M.ey i).base = some ⟨g, 0, none⟩ -> M.w g = some (i, true)
 has : ∀ c, M.w c ≠ none -> σ c ≠ none
def RfAt (σ : H) (b : Nat) (A : AT) (D : Nat -> Prop) : Prop := ∃ M, RfIn σ b A M /\ ∀ c, D c ↔ M.w c ≠ none
theorem RfIn.gr {σ σ' : H} {b : Nat} {A : AT} {M : RfM} (h : RfIn σ b A M) (hg : Gr σ σ') : RfIn σ' b A M :=
 ⟨hg.get h.top, h.tab.gr hg, fun i n hn => hg.get (h.nod i n hn), fun i n hn => (h.ent i n hn).gr hg, h.wb, h.wt, h.wn, h.we, fun c hc => by
  have := h.has c hc
  cases ho : σ c with
  | none => exact absurd ho this
  | some o => rw [hg.get ho]; simp⟩
theorem RfAt.gr {σ σ' : H} {b : Nat} {A : AT} {D : Nat -> Prop} (h : RfAt σ b A D) (hg : Gr σ σ') : RfAt σ' b A D := by
 obtain ⟨M, h1, h2⟩ := h
 exact ⟨M, h1.gr hg, h2⟩
theorem RfAt.has {σ : H} {b c : Nat} {A : AT} {D : Nat -> Prop} (h : RfAt σ b A D) (hc : D c) : σ c ≠ none := by
 obtain ⟨M, h1, h2⟩ := h
 exact h1.has c ((h2 c).1 hc)
section
variable {σ : H} {b : Nat} {A : AT} {M : RfM}
theorem RfIn.len (h : RfIn σ b A M) : M.x.len = A.last.toNat := by
 have := h.tab.1
 simpa [ptrRow] using this
theorem RfIn.slot (h : RfIn σ b A M) (hI : Inv A) {d : Int} {n : AN} (hn : A.get (d + 1) = some n) : ∃ g o, M.x.base = some ⟨g, o, none⟩ /\ (0 <= d /\ d < ((M.x.len : Nat) : Int)) /\ rdC g (o + d.toNat * 1) σ = some (.pointer (some ⟨M.cb (d + 1), 0, none⟩)) := by
 obtain ⟨l1, l2⟩ := hI.low _ _ hn
 have hl := h.len
 have hr : (ptrRow A M.cb)[d.toNat]? = some [.pointer (some ⟨M.cb (d + 1), 0, none⟩)] := by
  unfold ptrRow
  rw [List.getElem?_map, List.getElem?_range (by omega)]
  have : ((d.toNat : Nat) : Int) = d := by omega
  simp [this, hn]
 obtain ⟨g, o, h2, h3⟩ := RowsAt.rd h.tab.rows hr (by decide)
 refine ⟨g, o, h2, by omega, ?_⟩
 obtain ⟨h1, h4 | ⟨g', o', cur, t, fz, q2, q3, q4⟩⟩ := h.tab.rows
 ·rw [h4] at hr; simp at hr
 ·rw [h2] at q2
  injection q2 with q2
  injection q2 with e1 e2
  subst e1; subst e2
  refine rdC_of q3 ?_
  obtain ⟨_, h5⟩ := q4 _ _ hr
  have : ((cur.drop (o + d.toNat * 1)).take 1)[0]? = some (.pointer (some ⟨M.cb (d + 1), 0, none⟩)) := by rw [h5]; rfl
  rw [List.getElem?_take] at this
  simpa using this
theorem rf_p (h : RfIn σ b A M) (hI : Inv A) {d : Int} {n : AN} (hn : A.get (d + 1) = some n) {F : Option Addr -> H -> Prop} (hF : F (some ⟨M.cb (d + 1), 0, none⟩) σ) :
 ptrW (some ⟨b, 0, none⟩) (fun (b4 o5 : Nat) => rdT (rdC b4 (o5 + 2)) kL (fun (x6 : Sl) => ptrW x6.base (fun (b7 o8 : Nat) => ifW (0 <= d /\ d < ((x6.len : Nat) : Int)) (rdT (rdC b7 (o8 + d.toNat * 1)) kP F)))) σ := by
 obtain ⟨g, o, h1, h2, h3⟩ := h.slot hI hn
 refine ptr_i (rd_L (rdC_of h.top (by rfl)) ?_)
 rw [h1]
 exact ptr_i (if_i h2 (rd_P h3 hF))
theorem rf_at (h : RfIn σ b A M) (hI : Inv A) {d : Int} {n : AN} (hn : A.get (d + 1) = some n) {F : Nat -> Nat -> H -> Prop} (hF : F (M.cb (d + 1)) 0 σ) :
 ptrW (some ⟨b, 0, none⟩) (fun (b4 o5 : Nat) => rdT (rdC b4 (o5 + 2)) kL (fun (x6 : Sl) => ptrW x6.base (fun (b7 o8 : Nat) => ifW (0 <= d /\ d < ((x6.len : Nat) : Int)) (rdT (rdC b7 (o8 + d.toNat * 1)) kP (fun x9 => ptrW x9 F))))) σ :=
 rf_p h hI hn (ptr_i hF)
def less1 (o : Option Int) : Int := (o.map (· - 1)).getD (-1)
theorem erow_at {es : List (ByteArray × Int)} {y : Sl} (h : RowsOwn σ 245 2 (eRow es) y) {i : Nat} {k : ByteArray} (hk : (sortN (keysL es))[i]? = some k) : ∃ g o, y.base = some ⟨g, o, none⟩ /\ rdC g (o + i * 2) σ = some (.string k) /\ rdC g (o + i * 2 + 1) σ = some (.int .i64 ((lk k es).getD 0 - 1)) /\ rdA 2 g (o + i * 2) σ = some (.agg ⟨[.string k, .int .i64 ((lk k es).getD 0 - 1)]⟩) := by
 have hr : (eRow es)[i]? = some [.string k, .int .i64 ((lk k es).getD 0 - 1)] := by unfold eRow; rw [List.getElem?_map, hk]; rfl
 obtain ⟨g, o, h2, h3⟩ := RowsAt.rd h.rows hr (by decide)
 refine ⟨g, o, h2, ?_, ?_, h3⟩
 all_goals
  obtain ⟨h1, h4 | ⟨g', o', cur, t, fz, q2, q3, q4⟩⟩ := h.rows
  ·rw [h4] at hr; simp at hr
  ·rw [h2] at q2
   injection q2 with q2
   injection q2 with e1 e2
   subst e1; subst e2
   refine rdC_of q3 ?_
   obtain ⟨_, h5⟩ := q4 _ _ hr
   first
    | (have : ((cur.drop (o + i * 2)).take 2)[0]? = some (.string k) := by rw [h5]; rfl
       rw [List.getElem?_take] at this
       simpa using this)
    | (have : ((cur.drop (o + i * 2)).take 2)[1]? = some (.int .i64 ((lk k es).getD 0 - 1)) := by rw [h5]; rfl
       rw [List.getElem?_take] at this
       simpa [Nat.add_assoc] using this)
theorem s_rfFind (h : RfIn σ b A M) (hI : Inv A) {N : Nat} (hB : Bd N A) (hN : N <= 1000000000000) {d : Int} {n : AN} (hn : A.get (d + 1) = some n) (name : ByteArray) {K : KH} (hK : K (.int .i64 (less1 (A.find (d + 1) name))) σ) :
 callW Tryz.prog 250 [.pointer (some ⟨b, 0, none⟩), .int .i64 d, .string name] K σ := by
 refine c250 _ _ _ ?_
 unfold g250
 have hf : A.find (d + 1) name = lk name n.ents := by unfold AT.find; rw [hn]; rfl
 rw [hf] at hK
 refine rf_at h hI hn (rd_L (rdC_of (h.nod _ _ hn) (by rfl)) (loop_i ?_))
 intro R hR
 have he := h.ent _ _ hn
 have hlen : (M.ey (d + 1)).len = (sortN (keysL n.ents)).length := by have := he.1; simpa [eRow] using this
 have hle : (sortN (keysL n.ents)).length <= N := by
  rw [(sortN_perm _).length_eq]
  have := hB.ents _ _ hn
  simpa [keysL] using this
 have key : ∀ (c i : Nat), c + i = (sortN (keysL n.ents)).length -> name ∉ (sortN (keysL n.ents)).take i -> R name (M.ey (d + 1)) (i : Int) σ := by
  intro c
  induction c with
  | zero =>
   intro i hc hno
   refine hR _ _ _ _ ?_
   refine br_f (by simp only [decide_eq_false_iff_not]; omega) ?_
   have : lk name n.ents = none := by
    rw [lk_none_iff]
    intro hm
    apply hno
    rw [show i = (sortN (keysL n.ents)).length from by omega, List.take_length]
    exact (sortN_perm _).mem_iff.2 hm
   rw [this] at hK
   exact hK
  | succ c ih =>
   intro i hc hno
   refine hR _ _ _ _ ?_
   refine br_t (by simp only [decide_eq_true_eq]; omega) ?_
   obtain ⟨k, hk⟩ : ∃ k, (sortN (keysL n.ents))[i]? = some k := ⟨_, List.getElem?_eq_getElem (by omega)⟩
   obtain ⟨g, o, q1, q2, q3, _⟩ := erow_at he hk
   rw [q1]
   have e0 : (i : Int).toNat = i := by omega
   refine ptr_i (if_i ⟨by omega, by omega⟩ (rd_S (by rw [e0]; exact q2) ?_))
   by_cases hkn : k = name
   ·subst hkn
    refine br_t (strEq_iff.2 rfl) (ptr_i (if_i ⟨by omega, by omega⟩ (rd_I (by rw [e0]; exact q3) ?_)))
    have hm : k ∈ keysL n.ents := (sortN_perm _).mem_iff.1 (List.mem_of_getElem? hk)
    cases hl : lk k n.ents with
    | none => exact absurd hm (lk_none_iff.1 hl)
    | some v => rw [hl] at hK; exact hK
   ·refine br_f (by rw [Bool.eq_false_iff]; intro e; exact hkn (strEq_iff.1 e)) ?_
    rw [wrap_id (x := (i : Int) + 1) (by omega) (by omega)]
    refine ih (i + 1) (by omega) ?_
    rw [List.take_add_one, hk]
    simp only [Option.toList_some, List.mem_append, List.mem_singleton, not_or]
    exact ⟨hno, fun e => hkn e.symm⟩
 exact key _ 0 (by omega) (by simp)
theorem s_rfDeep (h : RfIn σ b A M) (hI : Inv A) {d : Int} (hd : A.isDir (d + 1)) {x : Int} (hx : A.deep 13 (d + 1) = some x) {K : KH} (hK : K (.int .i64 x) σ) : callW Tryz.prog 127 [.pointer (some ⟨b, 0, none⟩), .int .i64 d] K σ := by
 refine c127 _ _ ?_
 unfold g127
 refine loop_i ?_
 intro R hR
 have key : ∀ (f : Nat) (d c y : Int), f <= 13 -> A.isDir (d + 1) -> A.deep f (d + 1) = some y -> c + y - 1 = x -> 0 <= c -> c + f <= 14 -> R (some ⟨b, 0, none⟩) d c σ := by
  intro f
  induction f with
  | zero => intro d c y _ _ h; simp [AT.deep] at h
  | succ f ih =>
   intro d c y hf hd hy hc h0 h1
   refine hR _ _ _ _ ?_
   rw [AT.deep] at hy
   by_cases e : d = 0
   ·subst e
    rw [if_pos (show (0 : Int) + 1 = 1 from rfl)] at hy
    have : y = 1 := (Option.some.inj hy).symm
    refine br_f rfl ?_
    rw [show c = x from by omega]
    exact hK
   ·rw [if_neg (by omega)] at hy
    obtain ⟨n, hn, hk⟩ := hd
    have hu : A.upOf (d + 1) = n.up := by unfold AT.upOf; rw [hn]; rfl
    have hdu := hI.isDir_up ⟨n, hn, hk⟩
    rw [hu] at hy hdu
    cases hy' : A.deep f n.up with
    | none => rw [hy'] at hy; cases hy
    | some y' =>
     rw [hy'] at hy
     have hy2 : y = y' + 1 := (Option.some.inj hy).symm
     refine br_t (by simpa using e) (rf_at h hI hn (rd_I (rdC_of (h.nod _ _ hn) (by rfl)) ?_))
     rw [wrap_id (x := c + 1) (by omega) (by omega)]
     have hup : upR n = n.up - 1 := by unfold upR; rw [if_pos hk]
     rw [hup]
     exact ih (n.up - 1) (c + 1) y' (by omega) (by rw [show n.up - 1 + 1 = n.up from by omega]; exact hdu) (by rw [show n.up - 1 + 1 = n.up from by omega]; exact hy') (by omega) (by omega) (by omega)
 exact key 13 d 1 x (by omega) hd hx (by omega) (by omega) (by omega)
theorem sz_RPlace : sizeT Tryz.prog 171 = some 3 := by kernel_rfl
def plV (p : Pl) : List Value := [.int .i64 (p.dir - 1), .string p.name, .int .i64 (if p.there then p.ino - 1 else -1)]
def plZ : List Value := [.int .i64 0, .string ⟨⟨[]⟩⟩, .int .i64 0]
theorem s_rfStep (h : RfIn σ b A M) (hI : Inv A) {N : Nat} (hB : Bd N A) (hN : N <= 1000000000000) {d : Int} {n : AN} (hn : A.get (d + 1) = some n) (name : ByteArray) {K : KH}
 (hK : ∀ σ', Gr σ σ' -> K (if A.kind (d + 1) ≠ 2 then .tuple ⟨[.agg ⟨plZ⟩, .int .i64 8]⟩ else if sEq name ⟨⟨[46, 46]⟩⟩ = true then .tuple ⟨[.agg ⟨plV ⟨A.upOf (d + 1), ⟨⟨[]⟩⟩, A.upOf (d + 1), true⟩⟩, .int .i64 0]⟩ else if name.size > 56 then .tuple ⟨[.agg ⟨plZ⟩, .int .i64 3]⟩ else .tuple ⟨[.agg ⟨plV ⟨d + 1, name, (A.find (d + 1) name).getD 0, (A.find (d + 1) name).isSome⟩⟩, .int .i64 0]⟩) σ') :
 callW Tryz.prog 226 [.pointer (some ⟨b, 0, none⟩), .int .i64 d, .string name] K σ := by
 refine c226 _ _ _ ?_
 unfold g226
 refine al_i ?_; intro b4 σ1 g1 e1 n1
 have h1 := h.gr g1
 have hk : A.kind (d + 1) = n.kind := by unfold AT.kind; rw [hn]; rfl
 have hu : A.upOf (d + 1) = n.up := by unfold AT.upOf; rw [hn]; rfl
 rw [hk, hu] at hK
 refine rf_at h1 hI hn (rd_I (rdC_of (h1.nod _ _ hn) (by rfl)) ?_)
 by_cases c1 : n.kind = 2
 ·refine br_f (by simpa using c1) ?_
  rw [if_neg (by simpa using c1)] at hK
  have hup : upR n = n.up - 1 := by unfold upR; rw [if_pos c1]
  by_cases c2 : sEq name ⟨⟨[46, 46]⟩⟩ = true
  ·rw [if_pos c2] at hK
   refine br_t (by rw [<- sEq_eq]; exact c2) ?_
   refine rf_at h1 hI hn (rd_I (rdC_of (h1.nod _ _ hn) (by rfl)) ?_)
   refine rf_at h1 hI hn (rd_I (rdC_of (h1.nod _ _ hn) (by rfl)) ?_)
   refine st_i2 e1 sz_RPlace (by rfl) (by rfl) ?_; intro σ2 p2
   refine rd_G (rdA_of' p2.same (by rfl)) ?_
   (refine app_of rfl ?_; try dsimp only)
   rw [hup]
   exact hK σ2 (g1.putF p2 n1)
  ·rw [if_neg c2] at hK
   refine br_f (by rw [<- sEq_eq]; simpa using c2) ?_
   by_cases c3 : name.size > 56
   ·rw [if_pos c3] at hK
    refine br_t (by simp only [decide_eq_true_eq]; omega) ?_
    refine st_i2 e1 sz_RPlace (by rfl) (by rfl) ?_; intro σ2 p2
    refine rd_G (rdA_of' p2.same (by rfl)) ?_
    (refine app_of rfl ?_; try dsimp only)
    exact hK σ2 (g1.putF p2 n1)
   ·rw [if_neg c3] at hK
    refine br_f (by simp only [decide_eq_false_iff_not]; omega) (call_i (s_rfFind h1 hI hB hN hn name (app_I ?_)))
    refine st_i2 e1 sz_RPlace (by rfl) (by rfl) ?_; intro σ2 p2
    refine rd_G (rdA_of' p2.same (by rfl)) ?_
    (refine app_of rfl ?_; try dsimp only)
    have := hK σ2 (g1.putF p2 n1)
    have e2 : d + 1 - 1 = d := by omega
    have e3 : (if (A.find (d + 1) name).isSome then (A.find (d + 1) name).getD 0 - 1 else -1) = less1 (A.find (d + 1) name) := by
     cases A.find (d + 1) name <;> rfl
    unfold plV at this
    simp only [e2, e3] at this
    exact this
 ·refine br_t (by simpa using c1) ?_
  rw [if_pos (by simpa using c1)] at hK
  refine st_i2 e1 sz_RPlace (by rfl) (by rfl) ?_; intro σ2 p2
  refine rd_G (rdA_of' p2.same (by rfl)) ?_
  (refine app_of rfl ?_; try dsimp only)
  exact hK σ2 (g1.putF p2 n1)
end
theorem und_strs : Tryz.prog.underlying 22 = some (.slice 9) := by kernel_rfl
theorem info_strR : ∃ i, Tryz.prog.info? 9 = some i /\ i.zero = some (.string ⟨⟨[]⟩⟩) /\ i.size = 1 /\ i.bytes = 16 := by
 have h1 : (Tryz.prog.info? 9).map (fun i => (i.zero, i.size, i.bytes)) = some (some (.string ⟨⟨[]⟩⟩), 1, 16) := by kernel_rfl
 cases hi : Tryz.prog.info? 9 with
 | none => rw [hi] at h1; cases h1
 | some i =>
  rw [hi] at h1
  simp only [Option.map_some, Option.some.injEq, Prod.mk.injEq] at h1
  exact ⟨i, rfl, h1.1, h1.2.1, h1.2.2⟩
def srows (l : List ByteArray) : List (List Value) := l.map fun s => [.string s]
def StrsNew (σ0 σ : H) (l : List ByteArray) (y : Sl) : Prop := Gr σ0 σ /\ RowsOwn σ 9 1 (srows l) y /\ ∀ g, y.base = some ⟨g, 0, none⟩ -> σ0 g = none
theorem app_str {σ0 σ : H} {l : List ByteArray} {y : Sl} {s : ByteArray} {ty : TypeId} {cs : List Bool} (h : StrsNew σ0 σ l y) (hl : l.length < 1000000000) {F : Sl -> H -> Prop} (hF : ∀ y' σ', StrsNew σ0 σ' (l ++ [s]) y' -> F y' σ') :
 alW (.cells ⟨[.string s]⟩ 9 (0, 0)) (fun (b48 : Nat) => biW Tryz.prog .append #[22, 22] ty cs [.slice y.base y.len y.cap, .slice (some ⟨b48, 0, none⟩) 1 1] kL F) σ := by
 obtain ⟨h1, h2, h3⟩ := h
 refine al_i ?_; intro b48 σ1 g1 e1 n1
 obtain ⟨i, i1, i2, i3, i4⟩ := info_strR
 refine append_i und_strs i1 i2 i3 i4 rfl (by decide) (h2.gr g1) e1 rfl (by intro u hu; simp at hu; subst hu; rfl) (by simpa [srows] using hl) (by decide) ?_
 intro y' σ' hy' hcase
 refine hF y' σ' ⟨?_, by simpa [srows] using hy', ?_⟩
 ·rcases hcase with ⟨g, o, q1, q2, q3⟩ | ⟨g, q1, q2, q3⟩
  ·exact (h1.trans g1).putF q3 (h3 g q1)
  ·exact (h1.trans g1).trans q3
 ·intro g hg
  rcases hcase with ⟨g', o, q1, q2, q3⟩ | ⟨g', q1, q2, q3⟩
  ·rw [q2] at hg; exact h3 g hg
  ·rw [q1] at hg
   injection hg with hg
   injection hg with hg
   subst hg
   exact none_of (h1.trans g1) q2
theorem take_one {l : List UInt8} {i : Nat} {c : UInt8} (h : l[i]? = some c) (f : Nat) (hf : f <= i) : (l.drop f).take (i + 1 - f) = (l.drop f).take (i - f) ++ [c] := by
 rw [show i + 1 - f = (i - f) + 1 from by omega, List.take_add_one]
 congr 1
 rw [List.getElem?_drop, show f + (i - f) = i from by omega, h]; rfl
def okP (s : ByteArray) : List ByteArray := if okPart s then [s] else []
theorem parts_cons {l a b : List UInt8} (hl : l = a ++ 47 :: b) (ha : (47 : UInt8) ∉ a) : ((splitL 47 l).map fun l => (⟨⟨l⟩⟩ : ByteArray)).filter okPart = okP ⟨⟨a⟩⟩ ++ ((splitL 47 b).map fun l => (⟨⟨l⟩⟩ : ByteArray)).filter okPart := by
 rw [hl, splitL_some ha]
 simp only [List.map_cons, List.filter_cons, okP]
 split <;> simp
theorem parts_end {l : List UInt8} (ha : (47 : UInt8) ∉ l) : ((splitL 47 l).map fun l => (⟨⟨l⟩⟩ : ByteArray)).filter okPart = okP ⟨⟨l⟩⟩ := by
 rw [splitL_none ha]
 simp only [List.map_cons, List.map_nil, List.filter_cons, okP, List.filter_nil]
theorem s_rfNames (path : ByteArray) (hz : path.size <= 1000000) {σ : H} {K : KH} (hK : ∀ y σ', StrsNew σ σ' (partsB path) y -> K (.slice y.base y.len y.cap) σ') : callW Tryz.prog 225 [.string path] K σ := by
 refine c225 _ ?_
 unfold g225
 have hlen : path.data.toList.length = path.size := (size_list path).symm
 refine loop_i ?_
 intro R hR
 have fin : ∀ (y : Sl) (f : Int) (τ : H), StrsNew σ τ (partsB path) y -> R path y f ((path.size + 1 : Nat) : Int) τ := by
  intro y f τ h
  refine hR _ _ _ _ _ ?_
  exact br_f (by simp only [decide_eq_false_iff_not]; omega) (hK y τ h)
 have key : ∀ (c i f : Nat) (out : List ByteArray) (y : Sl) (τ : H), c + i = path.size -> f <= i -> out.length <= i -> StrsNew σ τ out y -> (47 : UInt8) ∉ (path.data.toList.drop f).take (i - f) -> out ++ ((splitL 47 (path.data.toList.drop f)).map fun l => (⟨⟨l⟩⟩ : ByteArray)).filter okPart = partsB path -> R path y (f : Int) (i : Int) τ := by
  intro c
  induction c with
  | zero =>
   intro i f out y τ hc hf hol hS hno hp
   have hi : i = path.size := by omega
   refine hR _ _ _ _ _ ?_
   refine br_t (by simp only [decide_eq_true_eq]; omega) ?_
   refine j_i (fun j => ∀ y' τ' v1 v2 v3 v4, StrsNew σ τ' (partsB path) y' -> j path y' (((path.size + 1 : Nat)) : Int) (i : Int) v1 v2 v3 v4 τ') ?_ ?_
   ·intro y' τ' v1 v2 v3 v4 h
    rw [wrap_id (x := (i : Int) + 1) (by omega) (by omega)]
    rw [show (i : Int) + 1 = ((path.size + 1 : Nat) : Int) from by omega]
    exact fin y' _ τ' h
   intro j7 hj7
   refine j_i (fun j => ∀ v1 v2 v3 v4, j path y (f : Int) (i : Int) v1 v2 v3 v4 false τ) ?_ ?_
   case refine_2 =>
    intro j hj
    exact br_f (by simp only [decide_eq_false_iff_not]; omega) (hj _ _ _ _)
   intro v1 v2 v3 v4
   have e0 : (i : Int).toNat = i := by omega
   have e1 : (f : Int).toNat = f := by omega
   refine br_f rfl (if_i ⟨bnd_some (by omega) (by omega), bnd_some (by omega) (by omega)⟩ ?_)
   rw [e0, e1]
   have hex : path.extract f i = ⟨⟨path.data.toList.drop f⟩⟩ := by
    apply bytes_ext
    rw [extract_toList, hi, <- hlen, List.take_length]
   rw [hex]
   have hfull : (path.data.toList.drop f).take (i - f) = path.data.toList.drop f := by
    rw [List.take_of_length_le]; rw [List.length_drop]; omega
   rw [hfull] at hno
   rw [parts_end hno] at hp
   generalize (⟨⟨path.data.toList.drop f⟩⟩ : ByteArray) = s at hp
   refine j_i (fun j => ∀ y' τ' v1 v2 v3 v4 v5 v6, StrsNew σ τ' (partsB path) y' -> j path y' (i : Int) v1 v2 v3 v4 v5 v6 τ') ?_ ?_
   ·intro y' τ' v1 v2 v3 v4 v5 v6 h
    rw [wrap_id (x := (i : Int) + 1) (by omega) (by omega)]
    rw [show (i : Int) + 1 = ((path.size + 1 : Nat) : Int) from by omega]
    exact hj7 _ _ _ _ _ _ h
   intro j26 hj26
   refine j_i (fun j => ∀ v1 v2 v3 v4 v5 v6, j path y (i : Int) s v1 v2 v3 v4 v5 v6 (okPart s) τ) ?_ ?_
   ·intro v1 v2 v3 v4 v5 v6
    unfold okP at hp
    cases ho : okPart s with
    | true =>
     rw [ho] at hp
     refine br_t rfl (app_str hS (by omega) ?_)
     intro y' σ' h'
     rw [show out ++ [s] = partsB path from hp] at h'
     exact hj26 _ _ _ _ _ _ _ _ h'
    | false =>
     rw [ho] at hp
     have hp : out = partsB path := by simpa using hp
     rw [hp] at hS
     exact br_f rfl (hj26 _ _ _ _ _ _ _ _ hS)
   ·intro j36 hj36
    have ho : okPart s = (!strEq s ⟨⟨[]⟩⟩ && !strEq s ⟨⟨[46]⟩⟩) := by unfold okPart; rw [sEq_eq, sEq_eq]
    cases hs0 : strEq s ⟨⟨[]⟩⟩ with
    | true =>
     have := hj36 v1 v2 v3 v4 (.tuple ⟨[]⟩) (.tuple ⟨[]⟩)
     rw [ho, hs0] at this
     exact br_f rfl this
    | false =>
     have := fun a b => hj36 v1 v2 v3 v4 a b
     rw [ho, hs0] at this
     exact br_t rfl (this _ _)
  | succ c ih =>
   intro i f out y τ hc hf hol hS hno hp
   refine hR _ _ _ _ _ ?_
   refine br_t (by simp only [decide_eq_true_eq]; omega) ?_
   obtain ⟨ch, hch⟩ : ∃ ch, path.data.toList[i]? = some ch := ⟨_, List.getElem?_eq_getElem (by omega)⟩
   refine j_i (fun j => ∀ (f' : Nat) out' y' τ' v1 v2 v3 v4, f' <= i + 1 -> out'.length <= i + 1 -> StrsNew σ τ' out' y' -> (47 : UInt8) ∉ (path.data.toList.drop f').take (i + 1 - f') -> out' ++ ((splitL 47 (path.data.toList.drop f')).map fun l => (⟨⟨l⟩⟩ : ByteArray)).filter okPart = partsB path -> j path y' (f' : Int) (i : Int) v1 v2 v3 v4 τ') ?_ ?_
   ·intro f' out' y' τ' v1 v2 v3 v4 a1 a2 a3 a4 a5
    rw [wrap_id (x := (i : Int) + 1) (by omega) (by omega)]
    rw [show (i : Int) + 1 = ((i + 1 : Nat) : Int) from by omega]
    exact ih (i + 1) f' out' y' τ' (by omega) a1 a2 a3 a4 a5
   intro j7 hj7
   refine j_i (fun j => ∀ v1 v2 v3 v4, j path y (f : Int) (i : Int) v1 v2 v3 v4 (((ch.toNat : Int) : Int) != 47) τ) ?_ ?_
   case refine_2 =>
    intro j hj
    refine br_t (by simp only [decide_eq_true_eq]; omega) (idx_l (c := ch) (by omega) (by simpa using hch) ?_)
    exact hj _ _ _ _
   intro v1 v2 v3 v4
   by_cases hc47 : ch = 47
   ·subst hc47
    have e0 : (i : Int).toNat = i := by omega
    have e1 : (f : Int).toNat = f := by omega
    refine br_f (by decide) (if_i ⟨bnd_some (by omega) (by omega), bnd_some (by omega) (by omega)⟩ ?_)
    rw [e0, e1]
    have hsp : path.data.toList.drop f = (path.data.toList.drop f).take (i - f) ++ 47 :: path.data.toList.drop (i + 1) := by
     have h1 : (path.data.toList.drop f).drop (i - f) = 47 :: path.data.toList.drop (i + 1) := by
      rw [List.drop_drop, show f + (i - f) = i from by omega, List.drop_eq_getElem_cons (by omega)]
      rw [List.getElem?_eq_getElem (by omega)] at hch
      rw [Option.some.inj hch]
     conv => lhs; rw [<- List.take_append_drop (i - f) (path.data.toList.drop f), h1]
    have hex : path.extract f i = ⟨⟨(path.data.toList.drop f).take (i - f)⟩⟩ := by
     apply bytes_ext
     rw [extract_toList]
     simp [List.drop_take]
    rw [hex]
    rw [parts_cons hsp hno] at hp
    generalize (⟨⟨(path.data.toList.drop f).take (i - f)⟩⟩ : ByteArray) = s at hp
    have hol2 : (okP s).length <= 1 := by unfold okP; split <;> simp
    refine j_i (fun j => ∀ y' τ' v1 v2 v3 v4 v5 v6, StrsNew σ τ' (out ++ okP s) y' -> j path y' (i : Int) v1 v2 v3 v4 v5 v6 τ') ?_ ?_
    ·intro y' τ' v1 v2 v3 v4 v5 v6 h
     rw [wrap_id (x := (i : Int) + 1) (by omega) (by omega)]
     have := hj7 (i + 1) (out ++ okP s) y' τ' v1 v2 v3 v4 (by omega) (by rw [List.length_append]; omega) h (by simp) (by rw [List.append_assoc]; exact hp)
     rw [show (i : Int) + 1 = ((i + 1 : Nat) : Int) from by omega]
     exact this
    intro j26 hj26
    refine j_i (fun j => ∀ v1 v2 v3 v4 v5 v6, j path y (i : Int) s v1 v2 v3 v4 v5 v6 (okPart s) τ) ?_ ?_
    ·intro v1 v2 v3 v4 v5 v6
     cases ho : okPart s with
     | true =>
      refine br_t rfl (app_str hS (by omega) ?_)
      intro y' σ' h'
      exact hj26 _ _ _ _ _ _ _ _ (by unfold okP; rw [ho]; exact h')
     | false =>
      refine br_f rfl (hj26 _ _ _ _ _ _ _ _ (by unfold okP; rw [ho]; simpa using hS))
    ·intro j36 hj36
     have ho : okPart s = (!strEq s ⟨⟨[]⟩⟩ && !strEq s ⟨⟨[46]⟩⟩) := by unfold okPart; rw [sEq_eq, sEq_eq]
     cases hs0 : strEq s ⟨⟨[]⟩⟩ with
     | true =>
      have := hj36 v1 v2 v3 v4 (.tuple ⟨[]⟩) (.tuple ⟨[]⟩)
      rw [ho, hs0] at this
      exact br_f rfl this
     | false =>
      have := fun a b => hj36 v1 v2 v3 v4 a b
      rw [ho, hs0] at this
      exact br_t rfl (this _ _)
   ·have hne : ¬ ((ch.toNat : Int) = 47) := by
     intro e
     apply hc47
     have : ch.toNat = 47 := by omega
     exact UInt8.toNat_inj.1 this
    refine br_t (by simpa using hne) ?_
    refine hj7 f out y τ _ _ _ _ (by omega) (by omega) hS ?_ hp
    rw [take_one hch f hf]
    simp only [List.mem_append, List.mem_singleton, not_or]
    exact ⟨hno, fun e => hc47 e.symm⟩
 exact key path.size 0 0 [] ⟨none, 0, 0⟩ σ (by omega) (by omega) (by simp) ⟨Gr.refl _, RowsOwn.nil _ _ _, by intro g h; cases h⟩ (by simp) (by simp [partsB])
theorem RfIn.keep {σ σ' : H} {b : Nat} {A : AT} {M : RfM} (h : RfIn σ b A M) (hk : ∀ c o, σ c = some o -> M.w c ≠ none -> σ' c = some o) : RfIn σ' b A M := by
 have hw : ∀ c r, M.w c = some r -> M.w c ≠ none := fun c r e => by rw [e]; simp
 refine ⟨hk _ _ h.top (hw _ _ h.wb), h.tab.keep fun g o hx hg => hk g o hg (hw _ _ (h.wt g hx)), fun i n hn => hk _ _ (h.nod i n hn) (hw _ _ (h.wn i n hn)), fun i n hn => (h.ent i n hn).keep fun g o hx hg => hk g o hg (hw _ _ (h.we i n g hn hx)), h.wb, h.wt, h.wn, h.we, fun c hc => ?_⟩
 have := h.has c hc
 cases ho : σ c with
 | none => exact absurd ho this
 | some o => rw [hk c o ho hc]; simp
def But (bh : Nat) (σ σ' : H) : Prop := ∀ c o, σ c = some o -> c ≠ bh -> σ' c = some o
theorem But.of_gr {bh : Nat} {σ σ' : H} (h : Gr σ σ') : But bh σ σ' := fun _ _ hc _ => h.get hc
theorem But.trans {bh : Nat} {σ σ' σ'' : H} (h : But bh σ σ') (k : But bh σ' σ'') : But bh σ σ'' := fun c o hc hn => k c o (h c o hc hn) hn
theorem But.put {bh b : Nat} {o : Obj} {σ σ' σ'' : H} (h : But bh σ σ') (hp : Put σ' b o σ'') (hn : σ b = none) : But bh σ σ'' := fun c o hc hne => hp.get (fun e => by rw [e, hn] at hc; cases hc) (h c o hc hne)
theorem But.puth {bh : Nat} {o : Obj} {σ σ' σ'' : H} (h : But bh σ σ') (hp : Put σ' bh o σ'') : But bh σ σ'' := fun c o hc hne => hp.get hne (h c o hc hne)
theorem RfIn.but {bh : Nat} {σ σ' : H} {b : Nat} {A : AT} {M : RfM} (h : RfIn σ b A M) (hw : M.w bh = none) (hb : But bh σ σ') : RfIn σ' b A M := h.keep fun c o hc hwc => hb c o hc (fun e => hwc (by rw [e]; exact hw))
theorem ret_pl {τ : H} {b6 : Nat} {l : List Value} {x z e : Int} {s : ByteArray} (h6 : τ b6 = some (.cells ⟨l⟩ 171 (0, 0))) (hl : l.length = 3) {K : KH} (hK : ∀ τ' o, Put τ b6 o τ' -> K (.tuple ⟨[.agg ⟨[.int .i64 x, .string s, .int .i64 z]⟩, .int .i64 e]⟩) τ') :
 stW Tryz.prog 171 (.pointer (some ⟨b6, 0, none⟩)) (.agg ⟨[.int .i64 x, .string s, .int .i64 z]⟩) (ptrW (some ⟨b6, 0, none⟩) (fun (b22 o23 : Nat) => rdT (rdA 3 b22 o23) (.one (.agg [(.int .i64), .str, (.int .i64)])) (fun (r24 : Int) (r25 : ByteArray) (r26 : Int) => K (.tuple ⟨[.agg ⟨[.int .i64 r24, .string r25, .int .i64 r26]⟩, .int .i64 e]⟩)))) τ := by
 match l, hl with
 | [l0, l1, l2], _ =>
  refine st_i2 h6 sz_RPlace (by rfl) (by rfl) ?_; intro τ' p
  refine ptr_i (rd_G (rdA_of' p.same (by rfl)) ?_)
  (refine app_of rfl ?_; try dsimp only)
  exact hK τ' _ p
theorem srow_at {τ : H} {L : List ByteArray} {y : Sl} (h : RowsOwn τ 9 1 (srows L) y) {i : Nat} {s : ByteArray} (hi : L[i]? = some s) : ∃ g o, y.base = some ⟨g, o, none⟩ /\ rdC g (o + i * 1) τ = some (.string s) := by
 have hr : (srows L)[i]? = some [.string s] := by unfold srows; rw [List.getElem?_map, hi]; rfl
 obtain ⟨h1, h2 | ⟨g, o, cur, t, fz, h2, h3, h4⟩⟩ := h.rows
 ·rw [h2] at hr; simp at hr
 ·refine ⟨g, o, h2, rdC_of h3 ?_⟩
  obtain ⟨_, h5⟩ := h4 i _ hr
  have : ((cur.drop (o + i * 1)).take 1)[0]? = some (.string s) := by rw [h5]; rfl
  rw [List.getElem?_take] at this
  simpa using this
theorem split_len (l : List UInt8) : (splitL 47 l).length <= l.length + 1 := by
 induction l with
 | nil => simp [splitL]
 | cons x r ih =>
  unfold splitL
  cases (x == 47) with
  | true => simp; exact ih
  | false =>
   cases h : splitL 47 r with
   | nil => simp
   | cons a t => rw [h] at ih; simp at ih ⊢; omega
theorem parts_len (path : ByteArray) : (partsB path).length <= path.size + 1 := by
 unfold partsB
 refine Nat.le_trans (List.length_filter_le ..) ?_
 rw [List.length_map, size_list]
 exact split_len _
def Good (A : AT) (p : Pl) : Prop := p.there = true -> ∃ n, A.get p.ino = some n
def plR (r : Int × Pl × Int) : List Value := if r.1 = 0 then plV r.2.1 else plZ
section
variable {A : AT} {N : Nat}
theorem step_case (hI : Wk.Inv A) {f : Nat} {fo : Bool} {name : ByteArray} {rest : List ByteArray} {p : Pl} {h' : Int} {r : Int × Pl × Int} {n : AN} (ht : p.there = true) (hn : A.get p.ino = some n)
 (hr : A.steps (fun d s x => A.walk f d s true x) fo (name :: rest) p h' = r) :
 (∃ e : Int, e ≠ 0 /\ (if A.kind p.ino ≠ 2 then Value.tuple ⟨[.agg ⟨plZ⟩, .int .i64 8]⟩ else if sEq name ⟨⟨[46, 46]⟩⟩ = true then .tuple ⟨[.agg ⟨plV ⟨A.upOf p.ino, ⟨⟨[]⟩⟩, A.upOf p.ino, true⟩⟩, .int .i64 0]⟩ else if name.size > 56 then .tuple ⟨[.agg ⟨plZ⟩, .int .i64 3]⟩ else .tuple ⟨[.agg ⟨plV ⟨p.ino, name, (A.find p.ino name).getD 0, (A.find p.ino name).isSome⟩⟩, .int .i64 0]⟩) = .tuple ⟨[.agg ⟨plZ⟩, .int .i64 e]⟩ /\ r = (e, Pl.z, h')) \/
 ∃ q : Pl, (if A.kind p.ino ≠ 2 then Value.tuple ⟨[.agg ⟨plZ⟩, .int .i64 8]⟩ else if sEq name ⟨⟨[46, 46]⟩⟩ = true then .tuple ⟨[.agg ⟨plV ⟨A.upOf p.ino, ⟨⟨[]⟩⟩, A.upOf p.ino, true⟩⟩, .int .i64 0]⟩ else if name.size > 56 then .tuple ⟨[.agg ⟨plZ⟩, .int .i64 3]⟩ else .tuple ⟨[.agg ⟨plV ⟨p.ino, name, (A.find p.ino name).getD 0, (A.find p.ino name).isSome⟩⟩, .int .i64 0]⟩) = .tuple ⟨[.agg ⟨plV q⟩, .int .i64 0]⟩ /\ Good A q /\
  ((((!rest.isEmpty) || fo) && (q.there && (A.kind q.ino == 3))) = false -> A.steps (fun d s x => A.walk f d s true x) fo rest q h' = r) /\
  ((((!rest.isEmpty) || fo) && (q.there && (A.kind q.ino == 3))) = true -> A.isDir q.dir /\ ((h' - 1 < 0 -> r = (9, Pl.z, h' - 1)) /\ (¬ h' - 1 < 0 -> ((A.walk f q.dir (A.data q.ino) true (h' - 1)).1 ≠ 0 -> r = ((A.walk f q.dir (A.data q.ino) true (h' - 1)).1, Pl.z, (A.walk f q.dir (A.data q.ino) true (h' - 1)).2.2)) /\ ((A.walk f q.dir (A.data q.ino) true (h' - 1)).1 = 0 -> A.steps (fun d s x => A.walk f d s true x) fo rest (A.walk f q.dir (A.data q.ino) true (h' - 1)).2.1 (A.walk f q.dir (A.data q.ino) true (h' - 1)).2.2 = r)))) := by
 by_cases h2 : A.kind p.ino = 2
 case neg => exact .inl ⟨8, by decide, by rw [if_pos h2], by rw [<- hr, steps_notdir ht h2]⟩
 have hd := kind_dir h2
 rw [if_neg (by simpa using h2)]
 cases h3 : sEq name ⟨⟨[46, 46]⟩⟩ with
 | true =>
  refine .inr ⟨⟨A.upOf p.ino, ⟨⟨[]⟩⟩, A.upOf p.ino, true⟩, by rw [if_pos rfl], ?_, ?_, ?_⟩
  ·intro _
   obtain ⟨m, hm, _⟩ := hI.isDir_up hd
   exact ⟨m, hm⟩
  ·intro _; rw [<- hr, steps_up ht h2 h3]
  ·intro hc
   have : A.kind (A.upOf p.ino) = 2 := dir_kind (hI.isDir_up hd)
   simp [this] at hc
 | false =>
  rw [if_neg (by decide)]
  by_cases h4 : name.size > 56
  ·exact .inl ⟨3, by decide, by rw [if_pos h4], by rw [<- hr, steps_long ht h2 h3 h4]⟩
  rw [if_neg h4]
  refine .inr ⟨⟨p.ino, name, (A.find p.ino name).getD 0, (A.find p.ino name).isSome⟩, rfl, ?_, ?_, ?_⟩
  ·intro hs
   obtain ⟨j, hj⟩ := Option.isSome_iff_exists.1 hs
   obtain ⟨_, _, _, _, _, m, hm, _⟩ := hI.find hj
   exact ⟨m, by rw [hj]; exact hm⟩
  ·intro hc
   have h5 : (A.find p.ino name).isSome = false \/ (rest.isEmpty && !fo) = true \/ A.kind ((A.find p.ino name).getD 0) ≠ 3 := by
    cases c1 : (A.find p.ino name).isSome with
    | false => exact .inl rfl
    | true =>
     by_cases c3 : A.kind ((A.find p.ino name).getD 0) = 3
     ·refine .inr (.inl ?_)
      simp only [c1, c3, beq_self_eq_true, Bool.and_true] at hc
      cases c4 : rest.isEmpty <;> cases c5 : fo <;> simp [c4, c5] at hc ⊢
     ·exact .inr (.inr c3)
   rw [<- hr, steps_name ht h2 h3 h4 h5]
  ·intro hc
   have h5 : ¬ ((A.find p.ino name).isSome = false \/ (rest.isEmpty && !fo) = true \/ A.kind ((A.find p.ino name).getD 0) ≠ 3) := by
    simp only [Bool.and_eq_true, Bool.or_eq_true, Bool.not_eq_true', beq_iff_eq] at hc
    obtain ⟨q1, q2, q3⟩ := hc
    rintro (e | e | e)
    ·rw [e] at q2; cases q2
    ·simp only [Bool.and_eq_true, Bool.not_eq_true'] at e
     rcases q1 with q1 | q1
     ·rw [q1] at e; cases e.1
     ·rw [q1] at e; cases e.2
    ·exact e q3
   refine ⟨hd, fun h6 => ?_, fun h6 => ⟨fun h7 => ?_, fun h7 => ?_⟩⟩
   ·rw [<- hr, steps_loop ht h2 h3 h4 h5 h6]
   ·rw [<- hr, steps_err ht h2 h3 h4 h5 h6 h7]
   ·rw [<- hr, steps_link ht h2 h3 h4 h5 h6 h7]
theorem s_rfWay (hI : Wk.Inv A) (hB : Bd N A) (hN : N <= 1000000000000) : ∀ (f : Nat) (d : Int) (path : ByteArray) (fo : Bool) (h : Int) {σ : H} {b bh : Nat} {M : RfM}, RfIn σ b A M -> A.isDir (d + 1) -> 0 <= h -> h + 2 <= f -> f <= 100 -> σ bh = some (.cells ⟨[.int .i64 h]⟩ 3 (0, 0)) -> M.w bh = none -> ∀ {K : KH}, (∀ σ', But bh σ σ' -> σ' bh = some (.cells ⟨[.int .i64 (A.walk f (d + 1) path fo h).2.2]⟩ 3 (0, 0)) -> K (.tuple ⟨[.agg ⟨plR (A.walk f (d + 1) path fo h)⟩, .int .i64 (A.walk f (d + 1) path fo h).1]⟩) σ') ->
 callW Tryz.prog 185 [.pointer (some ⟨b, 0, none⟩), .int .i64 d, .string path, .bool fo, .pointer (some ⟨bh, 0, none⟩)] K σ := by
 intro f
 induction f with
 | zero => intro d path fo h σ b bh M _ _ h0 hh; omega
 | succ f ih =>
  intro d path fo h σ b bh M hM hd h0 hh hf hbh hw K hK
  have hE : ∀ e, mayE path = e -> e ≠ 0 -> ∀ σ2, But bh σ σ2 -> σ2 bh = some (.cells ⟨[.int .i64 h]⟩ 3 (0, 0)) -> K (.tuple ⟨[.agg ⟨plZ⟩, .int .i64 e]⟩) σ2 := by
   intro e he hne σ2 hb hc
   have hwk : A.walk (f + 1) (d + 1) path fo h = (e, Pl.z, h) := by rw [AT.walk, if_pos (by rw [he]; exact hne), he]
   rw [hwk] at hK
   have := hK σ2 hb hc
   unfold plR at this
   rw [if_neg hne] at this
   exact this
  refine c185 _ _ _ _ _ ?_
  unfold g185
  refine al_i ?_; intro b6 σ1 g1 e1 n1
  have hbh1 := g1.get hbh
  have nb6 : b6 ≠ bh := by intro e; rw [e, hbh] at n1; cases n1
  cases c1 : sEq path ⟨⟨[]⟩⟩ with
  | true =>
   refine br_t (by rw [<- sEq_eq]; exact c1) ?_
   refine st_i2 e1 sz_RPlace (by rfl) (by rfl) ?_; intro σ2 p2
   refine rd_G (rdA_of' p2.same (by rfl)) ?_
   (refine app_of rfl ?_; try dsimp only)
   exact hE 5 (by unfold mayE; rw [c1]; rfl) (by decide) σ2 ((But.of_gr g1).put p2 n1) (p2.get (Ne.symm nb6) hbh1)
  | false =>
  refine br_f (by rw [<- sEq_eq]; exact c1) ?_
  by_cases c2 : path.size > 255
  ·refine br_t (by simp only [decide_eq_true_eq]; omega) ?_
   refine st_i2 e1 sz_RPlace (by rfl) (by rfl) ?_; intro σ2 p2
   refine rd_G (rdA_of' p2.same (by rfl)) ?_
   (refine app_of rfl ?_; try dsimp only)
   exact hE 3 (by unfold mayE; rw [c1, if_neg (by decide), if_pos c2]) (by decide) σ2 ((But.of_gr g1).put p2 n1) (p2.get (Ne.symm nb6) hbh1)
  refine br_f (by simp only [decide_eq_false_iff_not]; omega) (loop_i ?_)
  intro R hR
  have hlen : path.data.toList.length = path.size := (size_list path).symm
  have key : ∀ (c i : Nat), c + i = path.size -> (0 : UInt8) ∉ path.data.toList.take i -> R (some ⟨b, 0, none⟩) d path fo (some ⟨bh, 0, none⟩) (some ⟨b6, 0, none⟩) (i : Int) σ1 := by
   intro c
   induction c with
   | succ c ihc =>
    intro i hc hno
    refine hR _ _ _ _ _ _ _ _ ?_
    obtain ⟨ch, hch⟩ : ∃ ch, path.data.toList[i]? = some ch := ⟨_, List.getElem?_eq_getElem (by omega)⟩
    refine br_t (by simp only [decide_eq_true_eq]; omega) (idx_l (c := ch) (by omega) (by simpa using hch) ?_)
    by_cases hc0 : ch = 0
    ·subst hc0
     have hnul : hasNul path = true := by
      unfold hasNul
      rw [List.any_eq_true]
      exact ⟨0, List.mem_of_getElem? hch, by decide⟩
     refine br_t rfl (ret_pl e1 rfl ?_)
     intro σ2 o p2
     exact hE 2 (by unfold mayE; rw [c1, if_neg (by decide), if_neg c2, hnul]; rfl) (by decide) σ2 ((But.of_gr g1).put p2 n1) (p2.get (Ne.symm nb6) hbh1)
    ·refine br_f ?_ ?_
     ·have : ¬ ((ch.toNat : Int) = 0) := by
       intro e; apply hc0
       have : ch.toNat = 0 := by omega
       exact UInt8.toNat_inj.1 this
      simpa using this
     ·rw [wrap_id (x := (i : Int) + 1) (by omega) (by omega)]
      refine ihc (i + 1) (by omega) ?_
      rw [List.take_add_one, hch]
      simp only [Option.toList_some, List.mem_append, List.mem_singleton, not_or]
      exact ⟨hno, fun e => hc0 e.symm⟩
   | zero =>
    intro i hc hno
    have hi : i = path.size := by omega
    have hnul : hasNul path = false := by
     rw [hi, <- hlen, List.take_length] at hno
     unfold hasNul
     rw [List.any_eq_false]
     intro x hx
     simp only [beq_iff_eq]
     rintro rfl; exact hno hx
    have hm : mayE path = 0 := by unfold mayE; rw [c1, if_neg (by decide), if_neg c2, hnul]; rfl
    refine hR _ _ _ _ _ _ _ _ ?_
    refine br_f (by simp only [decide_eq_false_iff_not]; omega) ?_
    have hwk : A.walk (f + 1) (d + 1) path fo h = A.steps (fun d s h' => A.walk f d s true h') fo (partsB path) ⟨if headIs 47 path then 1 else d + 1, ⟨⟨[]⟩⟩, if headIs 47 path then 1 else d + 1, true⟩ h := by
     rw [AT.walk, if_neg (by simpa using hm)]
    generalize hr : A.walk (f + 1) (d + 1) path fo h = r at hK hwk
    refine j_i (fun j => ∀ ad : Int, ad + 1 = (if headIs 47 path then 1 else d + 1) -> j (some ⟨b, 0, none⟩) ad path fo (some ⟨bh, 0, none⟩) (some ⟨b6, 0, none⟩) σ1) ?_ ?_
    case refine_2 =>
     intro j hj
     cases hl : path.data.toList with
     | nil =>
      exfalso
      have : path = ⟨⟨[]⟩⟩ := bytes_ext hl
      rw [this] at c1; exact absurd c1 (by decide)
     | cons c0 cr =>
      have hh0 : headIs 47 path = (c0 == 47) := by unfold headIs; rw [hl]
      refine idx_l (c := c0) (by decide) (by rw [hl]; rfl) ?_
      rw [hh0] at hj
      by_cases e47 : c0 = 47
      ·subst e47
       exact br_t rfl (hj 0 (by simp))
      ·refine br_f ?_ (hj d (by simp [e47]))
       have : ¬ ((c0.toNat : Int) = 47) := by
        intro e; apply e47
        have : c0.toNat = 47 := by omega
        exact UInt8.toNat_inj.1 this
       simpa using this
    intro ad had
    rw [<- had] at hwk
    have hda : A.isDir (ad + 1) := by
     rw [had]
     cases headIs 47 path with
     | true => exact hI.root_dir
     | false => exact hd
    refine al_i ?_; intro b34 σ2 g2 e2 n2
    refine st_i2 e2 sz_RPlace (by rfl) (by rfl) ?_; intro σ3 p3
    have k34 : σ3 b34 = some (.cells ⟨plV ⟨ad + 1, ⟨⟨[]⟩⟩, ad + 1, true⟩⟩ 171 (0, 0)) := by
     have e : plV ⟨ad + 1, ⟨⟨[]⟩⟩, ad + 1, true⟩ = [.int .i64 ad, .string ⟨⟨[]⟩⟩, .int .i64 ad] := by
      unfold plV; simp
     rw [e]; exact p3.same
    have g3 : Gr σ1 σ3 := g2.putF p3 n2
    refine call_i (s_rfNames path (by omega) ?_)
    intro y σ4 hS
    obtain ⟨g4, own, fr⟩ := hS
    refine app_L (loop_i ?_)
    intro R2 hR2
    have n6 : σ b6 = none := n1
    have n34 : σ b34 = none := none_of g1 n2
    have nb34 : b34 ≠ bh := by intro e; rw [e, hbh] at n34; cases n34
    have nb34b : b34 ≠ b6 := by intro e; rw [e, e1] at n2; cases n2
    have hyb : ∀ g, y.base = some ⟨g, 0, none⟩ -> g ≠ bh /\ g ≠ b34 /\ g ≠ b6 := by
     intro g hg
     have hn := fr g hg
     refine ⟨?_, ?_, ?_⟩
     ·intro e; rw [e, g3.get hbh1] at hn; cases hn
     ·intro e; rw [e, k34] at hn; cases hn
     ·intro e; rw [e, g3.get e1] at hn; cases hn
    have hLz : (partsB path).length <= 300 := by
     have := parts_len path
     omega
    generalize partsB path = L at hwk own hLz
    have hyl : y.len = L.length := by have := own.1; simpa [srows] using this
    have key2 : ∀ (c i : Nat) (p : Pl) (h' : Int) (τ : H), c + i = L.length -> But bh σ τ -> τ b6 = some (.cells ⟨plZ⟩ 171 (0, 0)) -> τ b34 = some (.cells ⟨plV p⟩ 171 (0, 0)) -> τ bh = some (.cells ⟨[.int .i64 h']⟩ 3 (0, 0)) -> RowsOwn τ 9 1 (srows L) y -> Good A p -> 0 <= h' -> h' <= h -> A.steps (fun d s h' => A.walk f d s true h') fo (L.drop i) p h' = r -> R2 (some ⟨b, 0, none⟩) fo (some ⟨bh, 0, none⟩) (some ⟨b6, 0, none⟩) (some ⟨b34, 0, none⟩) y (i : Int) τ := by
     intro c
     induction c with
     | zero =>
      intro i p h' τ hc hBu k6 k34 kh own hG z0 z1 hs
      rw [show L.drop i = [] from List.drop_eq_nil_of_le (by omega)] at hs
      have hs : (0, p, h') = r := hs
      subst hs
      refine hR2 _ _ _ _ _ _ _ _ ?_
      unfold plV at k34
      refine br_f (by simp only [decide_eq_false_iff_not]; omega) (ptr_i (rd_G (rdA_of' k34 (by rfl)) ?_))
      (refine app_of rfl ?_; try dsimp only)
      refine ret_pl k6 rfl ?_
      intro τ' o hp
      exact hK τ' (hBu.put hp n6) (hp.get (Ne.symm nb6) kh)
     | succ c ihc =>
      intro i p h' τ hc hBu k6 k34 kh own hG z0 z1 hs
      refine hR2 _ _ _ _ _ _ _ _ ?_
      refine br_t (by simp only [decide_eq_true_eq]; omega) ?_
      have ferr : ∀ (e : Int) (h'' : Int) (τ' : H), e ≠ 0 -> r = (e, Pl.z, h'') -> But bh σ τ' -> τ' bh = some (.cells ⟨[.int .i64 h'']⟩ 3 (0, 0)) -> K (.tuple ⟨[.agg ⟨[.int .i64 0, .string ⟨⟨[]⟩⟩, .int .i64 0]⟩, .int .i64 e]⟩) τ' := by
       intro e h'' τ' he hre hb hk
       subst hre
       have := hK τ' hb hk
       unfold plR at this
       rw [if_neg he] at this
       exact this
      refine j_i (fun j => ∀ (p' : Pl) (h'' : Int) (τ' : H) v1 v2 v3 v4 v5 v6 v7 v8 v9 v10 v11 v12 v13 v14 v15 v16, But bh σ τ' -> τ' b6 = some (.cells ⟨plZ⟩ 171 (0, 0)) -> τ' b34 = some (.cells ⟨plV p'⟩ 171 (0, 0)) -> τ' bh = some (.cells ⟨[.int .i64 h'']⟩ 3 (0, 0)) -> RowsOwn τ' 9 1 (srows L) y -> Good A p' -> 0 <= h'' -> h'' <= h -> A.steps (fun d s h' => A.walk f d s true h') fo (L.drop (i + 1)) p' h'' = r -> j (some ⟨b, 0, none⟩) fo (some ⟨bh, 0, none⟩) (some ⟨b6, 0, none⟩) (some ⟨b34, 0, none⟩) y (i : Int) v1 v2 v3 v4 v5 v6 v7 v8 v9 v10 v11 v12 v13 v14 v15 v16 τ') ?_ ?_
      ·intro p' h'' τ' v1 v2 v3 v4 v5 v6 v7 v8 v9 v10 v11 v12 v13 v14 v15 v16 a1 a2 a3 a4 a5 a6 a7 a8 a9
       rw [wrap_id (x := (i : Int) + 1) (by omega) (by omega)]
       rw [show (i : Int) + 1 = ((i + 1 : Nat) : Int) from by omega]
       exact ihc (i + 1) p' h'' τ' (by omega) a1 a2 a3 a4 a5 a6 a7 a8 a9
      intro j44 h44
      obtain ⟨name, hname⟩ : ∃ name, L[i]? = some name := ⟨_, List.getElem?_eq_getElem (by omega)⟩
      have hdrop : L.drop i = name :: L.drop (i + 1) := by
       rw [List.drop_eq_getElem_cons (by omega)]
       rw [List.getElem?_eq_getElem (by omega)] at hname
       rw [Option.some.inj hname]
      rw [hdrop] at hs
      cases ht : p.there with
      | false =>
       rw [steps_none ht] at hs
       unfold plV at k34
       rw [ht] at k34
       refine ptr_i (rd_I (rdC_of k34 (by rfl)) (br_t rfl (ret_pl k6 rfl ?_)))
       intro τ' o hp
       exact ferr 5 h' τ' (by decide) hs.symm (hBu.put hp n6) (hp.get (Ne.symm nb6) kh)
      | true =>
       obtain ⟨n, hn⟩ := hG ht
       have hlow := (hI.low _ _ hn).1
       have hcase := step_case hI ht hn hs
       have hp1 : p.ino - 1 + 1 = p.ino := by omega
       unfold plV at k34
       rw [if_pos ht] at k34
       obtain ⟨gy, oy, q1, q2⟩ := srow_at own hname
       refine ptr_i (rd_I (rdC_of k34 (by rfl)) (br_f (by simp only [decide_eq_false_iff_not]; omega) (ptr_i (rd_I (rdC_of k34 (by rfl)) ?_))))
       rw [q1]
       have e0 : (i : Int).toNat = i := by omega
       refine ptr_i (if_i ⟨by omega, by omega⟩ (rd_S (by rw [e0]; exact q2) ?_))
       refine call_i (s_rfStep (hM.but hw hBu) hI hB hN (d := p.ino - 1) (n := n) (by rw [hp1]; exact hn) name ?_)
       intro τ1 gt
       rw [hp1]
       have k6 := gt.get k6
       have k34 := gt.get k34
       have kh := gt.get kh
       have own := own.gr gt
       have hBu := hBu.trans (But.of_gr gt)
       rcases hcase with ⟨e, he, hv, hre⟩ | ⟨q, hv, hGq, hq1, hq2⟩
       ·rw [hv]
        unfold plZ
        (refine app_of rfl ?_; try dsimp only)
        refine al_i ?_; intro b86 τ2 g5 e5 n5
        refine st_i2 e5 sz_RPlace (by rfl) (by rfl) ?_; intro τ3 p5
        have g6 : Gr τ1 τ3 := g5.putF p5 n5
        refine br_t (by simpa using he) (ret_pl (g6.get k6) rfl ?_)
        intro τ' o hp
        exact ferr e h' τ' he hre ((hBu.trans (But.of_gr g6)).put hp n6) (hp.get (Ne.symm nb6) (g6.get kh))
       ·rw [hv]
        unfold plV
        (refine app_of rfl ?_; try dsimp only)
        refine al_i ?_; intro b86 τ2 g5 e5 n5
        refine st_i2 e5 sz_RPlace (by rfl) (by rfl) ?_; intro τ3 p5
        have g6 : Gr τ1 τ3 := g5.putF p5 n5
        refine br_f rfl (rd_G (rdA_of' p5.same (by rfl)) ?_)
        (refine app_of rfl ?_; try dsimp only)
        refine st_i2 (g6.get k34) sz_RPlace (by rfl) (by rfl) ?_; intro τ4 p6
        have k34q : τ4 b34 = some (.cells ⟨[.int .i64 (q.dir - 1), .string q.name, .int .i64 (if q.there then q.ino - 1 else -1)]⟩ 171 (0, 0)) := p6.same
        have k6q := p6.get (Ne.symm nb34b) (g6.get k6)
        have khq := p6.get (Ne.symm nb34) (g6.get kh)
        have ownq := (own.gr g6).put p6 (fun e => (hyb b34 e).2.1 rfl)
        have hBq : But bh σ τ4 := (hBu.trans (But.of_gr g6)).put p6 n34
        have hM4 := hM.but hw hBq
        clear p5 p6 e5 k34 k6 kh own hBu
        have hmore : decide ((i : Int) + 1 < ((y.len : Nat) : Int)) = !(L.drop (i + 1)).isEmpty := by
         have hdl : (L.drop (i + 1)).length = L.length - (i + 1) := List.length_drop
         cases hD : L.drop (i + 1) with
         | nil => rw [hD] at hdl; simp at hdl; simp; omega
         | cons a r => rw [hD] at hdl; simp at hdl; simp; omega
        generalize hT : (((!(L.drop (i + 1)).isEmpty) || fo) && (q.there && (A.kind q.ino == 3))) = t at hq1 hq2
        refine j_i (fun j => ∀ v1 v2 v3 v4 v5 v6 v7 v8 v9 v10 v11 v12 v13 v14 v15 v16, j (some ⟨b, 0, none⟩) fo (some ⟨bh, 0, none⟩) (some ⟨b6, 0, none⟩) (some ⟨b34, 0, none⟩) y (i : Int) v1 v2 v3 v4 v5 v6 v7 v8 v9 v10 v11 v12 v13 v14 v15 v16 t τ4) ?_ ?_
        case refine_2 =>
         intro j95 h95
         rw [wrap_id (x := (i : Int) + 1) (by omega) (by omega), hmore]
         cases hqt : q.there with
         | false =>
          have ht0 : t = false := by rw [<- hT, hqt]; simp
          rw [ht0] at h95
          rw [if_neg (by rw [hqt]; decide)] at k34q
          cases (L.drop (i + 1)).isEmpty with
          | false => exact br_t rfl (ptr_i (rd_I (rdC_of k34q (by rfl)) (br_f rfl (h95 _ _ _ _ _ _ _ _ _ _ _ _ _ _ _ _))))
          | true =>
           refine br_f rfl ?_
           cases fo with
           | true => exact br_t rfl (ptr_i (rd_I (rdC_of k34q (by rfl)) (br_f rfl (h95 _ _ _ _ _ _ _ _ _ _ _ _ _ _ _ _))))
           | false => exact br_f rfl (h95 _ _ _ _ _ _ _ _ _ _ _ _ _ _ _ _)
         | true =>
          obtain ⟨nq, hnq⟩ := hGq hqt
          have hqlow := (hI.low _ _ hnq).1
          have hq11 : q.ino - 1 + 1 = q.ino := by omega
          have hkq : A.kind q.ino = nq.kind := by unfold AT.kind; rw [hnq]; rfl
          rw [if_pos hqt] at k34q
          obtain ⟨gs, os, s1, s2, s3⟩ := hM4.slot hI (d := q.ino - 1) (n := nq) (by rw [hq11]; exact hnq)
          rw [hq11] at s3
          rw [hkq, hqt] at hT
          cases hem : (L.drop (i + 1)).isEmpty with
          | false =>
           have ht1 : t = (nq.kind == 3) := by rw [<- hT, hem]; simp
           rw [ht1] at h95
           refine br_t rfl (ptr_i (rd_I (rdC_of k34q (by rfl)) (br_t (by simp only [decide_eq_true_eq]; omega) ?_)))
           refine ptr_i (rd_L (rdC_of hM4.top (by rfl)) (ptr_i (rd_I (rdC_of k34q (by rfl)) ?_)))
           rw [s1]
           exact ptr_i (if_i s2 (rd_P s3 (ptr_i (rd_I (rdC_of (hM4.nod _ _ hnq) (by rfl)) (h95 _ _ _ _ _ _ _ _ _ _ _ _ _ _ _ _)))))
          | true =>
           refine br_f rfl ?_
           cases fo with
           | true =>
            have ht1 : t = (nq.kind == 3) := by rw [<- hT, hem]; simp
            rw [ht1] at h95
            refine br_t rfl (ptr_i (rd_I (rdC_of k34q (by rfl)) (br_t (by simp only [decide_eq_true_eq]; omega) ?_)))
            refine ptr_i (rd_L (rdC_of hM4.top (by rfl)) (ptr_i (rd_I (rdC_of k34q (by rfl)) ?_)))
            rw [s1]
            exact ptr_i (if_i s2 (rd_P s3 (ptr_i (rd_I (rdC_of (hM4.nod _ _ hnq) (by rfl)) (h95 _ _ _ _ _ _ _ _ _ _ _ _ _ _ _ _)))))
           | false =>
            have ht1 : t = false := by rw [<- hT, hem]; simp
            rw [ht1] at h95
            exact br_f rfl (h95 _ _ _ _ _ _ _ _ _ _ _ _ _ _ _ _)
        intro v1 v2 v3 v4 v5 v6 v7 v8 v9 v10 v11 v12 v13 v14 v15 v16
        cases t with
        | false =>
         exact br_f rfl (h44 q h' τ4 _ _ _ _ _ _ _ _ _ _ _ _ _ _ _ _ hBq k6q k34q khq ownq hGq z0 z1 (hq1 rfl))
        | true =>
         obtain ⟨hqd, hq9, hqw⟩ := hq2 rfl
         have hqt : q.there = true := by
          simp only [Bool.and_eq_true] at hT
          exact hT.2.1
         obtain ⟨nq, hnq⟩ := hGq hqt
         have hqlow := (hI.low _ _ hnq).1
         have hq11 : q.ino - 1 + 1 = q.ino := by omega
         have hd11 : q.dir - 1 + 1 = q.dir := by omega
         have hdat : A.data q.ino = nq.data := by unfold AT.data; rw [hnq]; rfl
         rw [hdat] at hqw
         rw [if_pos hqt] at k34q
         refine br_t rfl (ptr_i (rd_I (rdC_of khq (by rfl)) (ptr_i ?_)))
         rw [wrap_id (x := h' - 1) (by omega) (by omega)]
         refine st_i2 khq sz_int (by rfl) (by rfl) ?_; intro τ5 p7
         have kh5 : τ5 bh = some (.cells ⟨[.int .i64 (h' - 1)]⟩ 3 (0, 0)) := p7.same
         have k65 := p7.get nb6 k6q
         have k345 := p7.get nb34 k34q
         have own5 := ownq.put p7 (fun e => (hyb bh e).1 rfl)
         have hB5 : But bh σ τ5 := hBq.puth p7
         have hM5 := hM.but hw hB5
         clear p7
         refine ptr_i (rd_I (rdC_of kh5 (by rfl)) ?_)
         by_cases h6 : h' - 1 < 0
         ·refine br_t (by simpa using h6) (ret_pl k65 rfl ?_)
          intro τ' o hp
          exact ferr 9 (h' - 1) τ' (by decide) (hq9 h6) (hB5.put hp n6) (hp.get (Ne.symm nb6) kh5)
         ·obtain ⟨hw1, hw2⟩ := hqw h6
          obtain ⟨gs, os, s1, s2, s3⟩ := hM5.slot hI (d := q.ino - 1) (n := nq) (by rw [hq11]; exact hnq)
          rw [hq11] at s3
          refine br_f (by simpa using h6) (ptr_i (rd_I (rdC_of k345 (by rfl)) ?_))
          refine ptr_i (rd_L (rdC_of hM5.top (by rfl)) (ptr_i (rd_I (rdC_of k345 (by rfl)) ?_)))
          rw [s1]
          refine ptr_i (if_i s2 (rd_P s3 (ptr_i (rd_S (rdC_of (hM5.nod _ _ hnq) (by rfl)) ?_))))
          refine call_i (ih (q.dir - 1) nq.data true (h' - 1) hM5 (by rw [hd11]; exact hqd) (by omega) (by omega) (by omega) kh5 hw ?_)
          intro τ6 hb6 kh6
          rw [hd11] at kh6 ⊢
          have hops := walk_hops A f q.dir nq.data true (h' - 1) (by omega)
          have hpl := fun e => walk_place hI f q.dir nq.data true (h' - 1) hqd e
          generalize A.walk f q.dir nq.data true (h' - 1) = W at hw1 hw2 kh6 hops hpl ⊢
          obtain ⟨w1, w2, w3⟩ := W
          have k66 := hb6 _ _ k65 nb6
          have k346 := hb6 _ _ k345 nb34
          have own6 := own5.keep fun g o hx hg => hb6 g o hg (hyb g hx).1
          have hB6 := hB5.trans hb6
          by_cases hW0 : w1 = 0
          ·subst hW0
           have hgw : Good A w2 := fun e => PlOk.get hI (hpl rfl) e
           unfold plR
           rw [if_pos rfl]
           unfold plV
           (refine app_of rfl ?_; try dsimp only)
           refine st_i2 k346 sz_RPlace (by rfl) (by rfl) ?_; intro τ7 p8
           refine br_f rfl (h44 w2 w3 τ7 _ _ _ _ _ _ _ _ _ _ _ _ _ _ _ _ (hB6.put p8 n34) (p8.get (Ne.symm nb34b) k66) p8.same (p8.get (Ne.symm nb34) kh6) (own6.put p8 (fun e => (hyb b34 e).2.1 rfl)) hgw (hops.2.2 rfl) (by have := hops.2.1; simp only at this; omega) (hw2 rfl))
          ·unfold plR
           rw [if_neg hW0]
           unfold plZ
           (refine app_of rfl ?_; try dsimp only)
           refine st_i2 k346 sz_RPlace (by rfl) (by rfl) ?_; intro τ7 p8
           refine br_t (by simpa using hW0) (ret_pl (p8.get (Ne.symm nb34b) k66) rfl ?_)
           intro τ' o hp
           exact ferr w1 w3 τ' hW0 (hw1 hW0) ((hB6.put p8 n34).put hp n6) (hp.get (Ne.symm nb6) (p8.get (Ne.symm nb34) kh6))
    refine key2 L.length 0 ⟨ad + 1, ⟨⟨[]⟩⟩, ad + 1, true⟩ h σ4 (by omega) (But.of_gr (g1.trans (g3.trans g4))) (g4.get (g3.get e1)) (g4.get k34) (g4.get (g3.get hbh1)) own ?_ h0 (Int.le_refl _) (by simpa using hwk.symm)
    intro _
    obtain ⟨n, hn, _⟩ := hda
    exact ⟨n, hn⟩
  exact key path.size 0 (by omega) (by simp)
end
end Go.Proofs.YtbjbeajbckcecaaGreatDoor

set_option maxRecDepth 100000
namespace Go.Proofs.YtbjbeajbckcecaaGreatDoor
open Go Go.HL Go.Wk
theorem But.gr {bh : Nat} {σ σ' : H} (h : But bh σ σ') (hn : σ bh = none) : Gr σ σ' := fun c o hc => h c o hc (fun e => by rw [e, hn] at hc; cases hc)
attribute [local irreducible] ptrW ifW brW andW rdT alW letJ stW muW biW vaW imW callT cvalT app callW invW callVW sizeT oW nilF oneK loopW rfW funW begW roundK exW idxW Gr Put
theorem byte_ne (c : UInt8) : (((c.toNat : Int) : Int) != 47) = !(c == 47) := by
 by_cases h : c = 47
 ·subst h; rfl
 ·have : ¬ ((c.toNat : Int) = 47) := by
   intro e; apply h
   have : c.toNat = 47 := by omega
   exact UInt8.toNat_inj.1 this
  have h1 : (((c.toNat : Int) : Int) != 47) = true := by simpa using this
  have h2 : (c == 47) = false := by simpa using h
  rw [h1, h2]; rfl
theorem head_at {s : ByteArray} (h : sEq s ⟨⟨[]⟩⟩ = false) : ∃ c, s.data.toList[(0 : Int).toNat]? = some c /\ headIs 47 s = (c == 47) := by
 cases hl : s.data.toList with
 | nil =>
  exfalso
  have : s = ⟨⟨[]⟩⟩ := bytes_ext hl
  rw [this] at h; exact absurd h (by decide)
 | cons c r => exact ⟨c, rfl, by unfold headIs; rw [hl]⟩
def plL (r : Int × Pl) : List Value := if r.1 = 0 then plV r.2 else plZ
section
variable {σ : H} {b : Nat} {A : AT} {M : RfM} {N : Nat}
theorem RfIn.new (h : RfIn σ b A M) {c : Nat} (hc : σ c = none) : M.w c = none := by
 cases hw : M.w c with
 | none => rfl
 | some r => exact absurd hc (h.has c (by rw [hw]; simp))
theorem s_rfGo (hI : Wk.Inv A) (hB : Bd N A) (hN : N <= 1000000000000) (hM : RfIn σ b A M) (cwd path : ByteArray) (fo : Bool) {K : KH} (hK : ∀ σ', Gr σ σ' -> K (.tuple ⟨[.agg ⟨plL (A.locate cwd path fo)⟩, .int .i64 (A.locate cwd path fo).1]⟩) σ') :
 callW Tryz.prog 126 [.pointer (some ⟨b, 0, none⟩), .string cwd, .string path, .bool fo] K σ := by
 refine c126 _ _ _ _ ?_
 unfold g126
 refine al_i ?_; intro b5 σ1 g1 e1 n1
 refine al_i ?_; intro b6 σ2 g2 e2 n2
 refine st_i2 e2 sz_int (by rfl) (by rfl) ?_; intro σ3 p3
 have k6 : σ3 b6 = some (.cells ⟨[.int .i64 8]⟩ 3 (0, 0)) := p3.same
 have n6 : σ b6 = none := none_of g1 n2
 have n56 : b5 ≠ b6 := by intro e; rw [<- e, e1] at n2; cases n2
 have g3 : Gr σ σ3 := (g1.trans g2).putF p3 n6
 have k5 : σ3 b5 = some (.cells ⟨plZ⟩ 171 (0, 0)) := p3.get n56 (g2.get e1)
 have hw6 := hM.new n6
 clear p3 e1 e2
 generalize hloc : A.locate cwd path fo = r at hK
 have hR : ∀ e τ, e ≠ 0 -> r.1 = e -> Gr σ τ -> K (.tuple ⟨[.agg ⟨[.int .i64 0, .string ⟨⟨[]⟩⟩, .int .i64 0]⟩, .int .i64 e]⟩) τ := by
  intro e τ he hr hg
  have := hK τ hg
  unfold plL at this
  rw [hr, if_neg he] at this
  exact this
 refine j_i (fun j => ∀ (ad : Int) τ, A.isDir (ad + 1) -> (A.walk 10 (ad + 1) path fo 8).1 = r.1 -> ((A.walk 10 (ad + 1) path fo 8).1 = 0 -> (A.walk 10 (ad + 1) path fo 8).2.1 = r.2) -> But b6 σ τ -> τ b5 = some (.cells ⟨plZ⟩ 171 (0, 0)) -> τ b6 = some (.cells ⟨[.int .i64 8]⟩ 3 (0, 0)) -> j (some ⟨b, 0, none⟩) path fo (some ⟨b5, 0, none⟩) ad (some ⟨b6, 0, none⟩) τ) ?_ ?_
 ·intro ad τ hd w1 w2 hBu k5 k6
  refine call_i (s_rfWay hI hB hN 10 ad path fo 8 (hM.but hw6 hBu) hd (by decide) (by decide) (by decide) k6 hw6 ?_)
  intro τ' hb kh
  generalize A.walk 10 (ad + 1) path fo 8 = W at w1 w2 kh ⊢
  obtain ⟨x1, x2, x3⟩ := W
  have k5' := hb _ _ k5 n56
  have hB' := hBu.trans hb
  unfold plR
  by_cases h0 : x1 = 0
  ·subst h0
   rw [if_pos rfl]
   unfold plV
   (refine app_of rfl ?_; try dsimp only)
   refine ret_pl k5' rfl ?_
   intro τ2 o hp
   have := hK τ2 ((hB'.gr n6).putF hp n1)
   unfold plL at this
   have hr1 : r.1 = 0 := w1.symm
   rw [hr1, if_pos rfl, <- w2 rfl] at this
   exact this
  ·rw [if_neg h0]
   unfold plZ
   (refine app_of rfl ?_; try dsimp only)
   refine ret_pl k5' rfl ?_
   intro τ2 o hp
   exact hR x1 τ2 h0 w1.symm ((hB'.gr n6).putF hp n1)
 intro j7 h7
 have hB3 : But b6 σ σ3 := But.of_gr g3
 refine j_i (fun j => ∀ t : Bool, (t = false -> headIs 47 path = true) -> (t = true -> headIs 47 path = false) -> j (some ⟨b, 0, none⟩) cwd path fo (some ⟨b5, 0, none⟩) 0 (some ⟨b6, 0, none⟩) t σ3) ?_ ?_
 case refine_2 =>
  intro j hj
  cases h0 : sEq path ⟨⟨[]⟩⟩ with
  | true => exact br_t (by rw [<- sEq_eq]; exact h0) (hj true (fun e => by cases e) (fun _ => by rw [sEq_iff.1 h0]; rfl))
  | false =>
   obtain ⟨c, hc, hh⟩ := head_at h0
   refine br_f (by rw [<- sEq_eq]; exact h0) (idx_l (by decide) hc ?_)
   rw [byte_ne]
   refine hj _ (fun e => ?_) (fun e => ?_)
   ·rw [hh]; simpa using e
   ·rw [hh]; simpa using e
 intro t ht1 ht2
 cases t with
 | false =>
  have hh := ht1 rfl
  have h0 : sEq path ⟨⟨[]⟩⟩ = false := headIs_ne hh
  refine br_f rfl (h7 0 σ3 hI.root_dir ?_ ?_ hB3 k5 k6)
  ·rw [<- hloc]; unfold AT.locate; rw [h0, hh]; rfl
  ·intro _; rw [<- hloc]; unfold AT.locate; rw [h0, hh]; rfl
 | true =>
  have hh := ht2 rfl
  refine br_t rfl ?_
  cases h0 : sEq path ⟨⟨[]⟩⟩ with
  | true =>
   refine br_t (by rw [<- sEq_eq]; exact h0) (ret_pl k5 rfl ?_)
   intro τ o hp
   exact hR 5 τ (by decide) (by rw [<- hloc]; unfold AT.locate; rw [h0]; rfl) (g3.putF hp n1)
  | false =>
   refine br_f (by rw [<- sEq_eq]; exact h0) ?_
   refine j_i (fun j => ∀ t : Bool, (t = false -> headIs 47 cwd = true) -> (t = true -> headIs 47 cwd = false) -> j (some ⟨b, 0, none⟩) cwd path fo (some ⟨b5, 0, none⟩) (some ⟨b6, 0, none⟩) t σ3) ?_ ?_
   case refine_2 =>
    intro j hj
    cases hc0 : sEq cwd ⟨⟨[]⟩⟩ with
    | true => exact br_t (by rw [<- sEq_eq]; exact hc0) (hj true (fun e => by cases e) (fun _ => by rw [sEq_iff.1 hc0]; rfl))
    | false =>
     obtain ⟨c, hc, hhc⟩ := head_at hc0
     refine br_f (by rw [<- sEq_eq]; exact hc0) (idx_l (by decide) hc ?_)
     rw [byte_ne]
     refine hj _ (fun e => ?_) (fun e => ?_)
     ·rw [hhc]; simpa using e
     ·rw [hhc]; simpa using e
   intro t ht1 ht2
   cases t with
   | true =>
    have hc := ht2 rfl
    refine br_t rfl (ret_pl k5 rfl ?_)
    intro τ o hp
    exact hR 5 τ (by decide) (by rw [<- hloc]; unfold AT.locate; rw [h0, hh, hc]; rfl) (g3.putF hp n1)
   | false =>
    have hc := ht1 rfl
    refine br_f rfl (call_i (s_rfWay hI hB hN 10 0 cwd true 8 (hM.but hw6 hB3) hI.root_dir (by decide) (by decide) (by decide) k6 hw6 ?_))
    intro τ hb kh
    have hl : r = (let w := A.walk 10 1 cwd true 8
     if w.1 ≠ 0 then (w.1, Pl.z) else if w.2.1.there = false then (5, Pl.z) else if A.kind w.2.1.ino ≠ 2 then (8, Pl.z) else let r' := A.walk 10 w.2.1.ino path fo 8; (r'.1, r'.2.1)) := by
     rw [<- hloc]; unfold AT.locate; rw [h0, hh, hc]; rfl
    have hpl := fun e => walk_place hI 10 1 cwd true 8 hI.root_dir e
    rw [show (0 : Int) + 1 = 1 from rfl] at kh ⊢
    generalize A.walk 10 1 cwd true 8 = W at hl kh hpl ⊢
    obtain ⟨x1, x2, x3⟩ := W
    have k5' := hb _ _ k5 n56
    have hB' := hB3.trans hb
    unfold plR
    by_cases hx : x1 = 0
    case neg =>
     rw [if_neg hx]
     have hl1 : r = (x1, Pl.z) := by rw [hl]; simp [hx]
     unfold plZ
     (refine app_of rfl ?_; try dsimp only)
     refine al_i ?_; intro b54 τ2 g4 e4 n4
     refine st_i2 e4 sz_RPlace (by rfl) (by rfl) ?_; intro τ3 p4
     have g5 : Gr τ τ3 := g4.putF p4 n4
     refine br_t (by simpa using hx) (ret_pl (g5.get k5') rfl ?_)
     intro τ4 o hp
     exact hR x1 τ4 hx (by rw [hl1]) (((hB'.gr n6).trans g5).putF hp n1)
    subst hx
    rw [if_pos rfl]
    simp only [ne_eq, not_true_eq_false, if_false] at hl
    unfold plV
    (refine app_of rfl ?_; try dsimp only)
    refine al_i ?_; intro b54 τ2 g4 e4 n4
    refine st_i2 e4 sz_RPlace (by rfl) (by rfl) ?_; intro τ3 p4
    have g5 : Gr τ τ3 := g4.putF p4 n4
    have k54 : τ3 b54 = some (.cells ⟨[.int .i64 (x2.dir - 1), .string x2.name, .int .i64 (if x2.there then x2.ino - 1 else -1)]⟩ 171 (0, 0)) := p4.same
    have hB5 : But b6 σ τ3 := hB'.trans (But.of_gr g5)
    have hM5 := hM.but hw6 hB5
    have k55 := g5.get k5'
    have kh5 := g5.get kh
    have n546 : b54 ≠ b6 := by intro e; rw [e, kh] at n4; cases n4
    clear p4 e4
    cases hxt : x2.there with
    | false =>
     rw [if_neg (by rw [hxt]; decide)] at k54
     rw [if_pos hxt] at hl
     refine br_f rfl (rd_I (rdC_of k54 (by rfl)) (br_t rfl (ret_pl k55 rfl ?_)))
     intro τ4 o hp
     exact hR 5 τ4 (by decide) (by rw [hl]) ((hB5.gr n6).putF hp n1)
    | true =>
     obtain ⟨nx, hnx⟩ := PlOk.get hI (hpl rfl) hxt
     have hlow := (hI.low _ _ hnx).1
     have h11 : x2.ino - 1 + 1 = x2.ino := by omega
     have hkx : A.kind x2.ino = nx.kind := by unfold AT.kind; rw [hnx]; rfl
     rw [if_pos hxt] at k54
     rw [if_neg (by rw [hxt]; decide)] at hl
     obtain ⟨gs, os, s1, s2, s3⟩ := hM5.slot hI (d := x2.ino - 1) (n := nx) (by rw [h11]; exact hnx)
     rw [h11] at s3
     refine br_f rfl (rd_I (rdC_of k54 (by rfl)) (br_f (by simp only [decide_eq_false_iff_not]; omega) ?_))
     refine ptr_i (rd_L (rdC_of hM5.top (by rfl)) (rd_I (rdC_of k54 (by rfl)) ?_))
     rw [s1]
     refine ptr_i (if_i s2 (rd_P s3 (ptr_i (rd_I (rdC_of (hM5.nod _ _ hnx) (by rfl)) ?_))))
     rw [hkx] at hl
     by_cases hk2 : nx.kind = 2
     ·rw [if_neg (by simpa using hk2)] at hl
      refine br_f (by simpa using hk2) (rd_I (rdC_of k54 (by rfl)) ?_)
      refine st_i2 kh5 sz_int (by rfl) (by rfl) ?_; intro τ6 p6
      refine h7 (x2.ino - 1) τ6 (by rw [h11]; exact ⟨nx, hnx, hk2⟩) ?_ ?_ (hB5.puth p6) (p6.get n56 k55) p6.same
      ·rw [h11, hl]
      ·intro _; rw [h11, hl]
     ·rw [if_pos (by simpa using hk2)] at hl
      refine br_t (by simpa using hk2) (ret_pl k55 rfl ?_)
      intro τ4 o hp
      exact hR 8 τ4 (by decide) (by rw [hl]) ((hB5.gr n6).putF hp n1)
end
end Go.Proofs.YtbjbeajbckcecaaGreatDoor

set_option maxRecDepth 100000
namespace Go.Proofs.YtbjbeajbckcecaaGreatDoor
open Go Go.HL Go.Wk
attribute [local irreducible] ptrW ifW brW andW rdT alW letJ stW muW biW vaW imW callT cvalT app callW invW callVW sizeT oW nilF oneK loopW rfW funW begW roundK exW idxW Gr Put
section
variable {σ : H} {b : Nat} {A : AT} {M : RfM} {N : Nat}
theorem RfIn.ptr (h : RfIn σ b A M) {i : Nat} (hi : i < A.last.toNat) : ∃ g o, M.x.base = some ⟨g, o, none⟩ /\ (0 <= (i : Int) /\ (i : Int) < ((M.x.len : Nat) : Int)) /\ rdC g (o + (i : Int).toNat * 1) σ = some (.pointer (if (A.get ((i : Int) + 1)).isSome then some ⟨M.cb ((i : Int) + 1), 0, none⟩ else none)) := by
 have hl := h.len
 have hr : (ptrRow A M.cb)[i]? = some [.pointer (if (A.get ((i : Int) + 1)).isSome then some ⟨M.cb ((i : Int) + 1), 0, none⟩ else none)] := by
  unfold ptrRow
  rw [List.getElem?_map, List.getElem?_range (by omega)]; rfl
 obtain ⟨h1, h4 | ⟨g, o, cur, t, fz, q2, q3, q4⟩⟩ := h.tab.rows
 ·rw [h4] at hr; simp at hr
 ·refine ⟨g, o, q2, by omega, rdC_of q3 ?_⟩
  obtain ⟨_, h5⟩ := q4 _ _ hr
  have : ((cur.drop (o + i * 1)).take 1)[0]? = some (.pointer (if (A.get ((i : Int) + 1)).isSome then some ⟨M.cb ((i : Int) + 1), 0, none⟩ else none)) := by rw [h5]; rfl
  rw [List.getElem?_take] at this
  simpa using this
theorem s_rfUsed (hI : Wk.Inv A) (hB : Bd N A) (hN : N <= 1000000000000) (hM : RfIn σ b A M) {K : KH} (hK : K (.agg ⟨[.int .i64 A.ui, .int .i64 A.ub]⟩) σ) : callW Tryz.prog 40 [.pointer (some ⟨b, 0, none⟩)] K σ := by
 refine pure_i _ hK (c40 _ ?_)
 clear hK
 unfold g40
 refine al_i ?_; intro b2 σ1 g1 e1 n1
 refine al_i ?_; intro b3 σ2 g2 e2 n2
 refine st_i2 e2 sz_Quota (by rfl) (by rfl) ?_; intro σ3 p3
 have n3 : σ b3 = none := none_of g1 n2
 have n23 : b2 ≠ b3 := by intro e; rw [<- e, e1] at n2; cases n2
 have k3 : σ3 b3 = some (.cells ⟨[.int .i64 0, .int .i64 0]⟩ 64 (0, 0)) := p3.same
 have k2 : σ3 b2 = some (.cells ⟨[.int .i64 0, .int .i64 0]⟩ 64 (0, 0)) := p3.get n23 (g2.get e1)
 have g3 : Gr σ σ3 := (g1.trans g2).putF p3 n3
 clear p3 e1 e2
 refine loop_i ?_
 intro R hR
 obtain ⟨u1, u2⟩ := hI.sums
 have hl := hM.len
 have hlast := hB.last
 have hub := hI.bq
 have huq := hI.uq
 have key : ∀ (c i : Nat) (τ : H), c + i = A.last.toNat -> Gr σ τ -> τ b2 = some (.cells ⟨[.int .i64 0, .int .i64 0]⟩ 64 (0, 0)) -> τ b3 = some (.cells ⟨[.int .i64 (sumL (fun _ => 1) A.nodes i : Int), .int .i64 (sumL (fun n => n.data.size) A.nodes i : Int)]⟩ 64 (0, 0)) ->
  R (some ⟨b, 0, none⟩) (some ⟨b2, 0, none⟩) (some ⟨b3, 0, none⟩) (i : Int) τ := by
  intro c
  induction c with
  | zero =>
   intro i τ hc hg k2 k3
   have hMt := hM.gr hg
   refine hR _ _ _ _ _ ?_
   refine ptr_i (rd_L (rdC_of hMt.top (by rfl)) (br_f (by simp only [decide_eq_false_iff_not]; omega) ?_))
   refine ptr_i (rd_G (rdA_of' k3 (by rfl)) ?_)
   (refine app_of rfl ?_; try dsimp only)
   refine st_i2 k2 sz_Quota (by rfl) (by rfl) ?_; intro τ' p
   refine ptr_i (rd_G (rdA_of' p.same (by rfl)) ?_)
   (refine app_of rfl ?_; try dsimp only)
   have hi : i = A.last.toNat := by omega
   rw [hi, u1, u2]
   exact ⟨rfl, hg.putF p n1⟩
  | succ c ih =>
   intro i τ hc hg k2 k3
   have hMt := hM.gr hg
   obtain ⟨gs, os, s1, s2, s3⟩ := hMt.ptr (i := i) (by omega)
   refine hR _ _ _ _ _ ?_
   refine ptr_i (rd_L (rdC_of hMt.top (by rfl)) (br_t (by simp only [decide_eq_true_eq]; omega) ?_))
   refine j_i (fun j => ∀ τ', Gr σ τ' -> τ' b2 = some (.cells ⟨[.int .i64 0, .int .i64 0]⟩ 64 (0, 0)) -> τ' b3 = some (.cells ⟨[.int .i64 (sumL (fun _ => 1) A.nodes (i + 1) : Int), .int .i64 (sumL (fun n => n.data.size) A.nodes (i + 1) : Int)]⟩ 64 (0, 0)) -> j (some ⟨b, 0, none⟩) (some ⟨b2, 0, none⟩) (some ⟨b3, 0, none⟩) (i : Int) τ') ?_ ?_
   ·intro τ' a1 a2 a3
    rw [wrap_id (x := (i : Int) + 1) (by omega) (by omega)]
    rw [show (i : Int) + 1 = ((i + 1 : Nat) : Int) from by omega]
    exact ih (i + 1) τ' (by omega) a1 a2 a3
   intro j hj
   refine ptr_i (rd_L (rdC_of hMt.top (by rfl)) ?_)
   rw [s1]
   refine ptr_i (if_i s2 (rd_P s3 ?_))
   have hm1 := sumL_mono (fun _ => 1) A.nodes (n := i + 1) (m := A.last.toNat) (by omega)
   have hm2 := sumL_mono (fun n => n.data.size) A.nodes (n := i + 1) (m := A.last.toNat) (by omega)
   cases hget : A.get ((i : Int) + 1) with
   | none =>
    have z1 : sumL (fun _ => 1) A.nodes (i + 1) = sumL (fun _ => 1) A.nodes i := by
     simp only [sumL]; rw [show lk ((i : Int) + 1) A.nodes = none from hget]; rfl
    have z2 : sumL (fun n => n.data.size) A.nodes (i + 1) = sumL (fun n => n.data.size) A.nodes i := by
     simp only [sumL]; rw [show lk ((i : Int) + 1) A.nodes = none from hget]; rfl
    refine br_f rfl (hj τ hg k2 ?_)
    rw [z1, z2]; exact k3
   | some n =>
    have z1 : sumL (fun _ => 1) A.nodes (i + 1) = sumL (fun _ => 1) A.nodes i + 1 := by
     simp only [sumL]; rw [show lk ((i : Int) + 1) A.nodes = some n from hget]; rfl
    have z2 : sumL (fun n => n.data.size) A.nodes (i + 1) = sumL (fun n => n.data.size) A.nodes i + n.data.size := by
     simp only [sumL]; rw [show lk ((i : Int) + 1) A.nodes = some n from hget]; rfl
    rw [z1] at hm1
    rw [z2] at hm2
    refine br_t rfl (ptr_i (rd_I (rdC_of k3 (by rfl)) (ptr_i ?_)))
    rw [wrap_id (by omega) (by omega)]
    refine st_i2 k3 sz_int (by rfl) (by rfl) ?_; intro τ1 p1
    have k31 : τ1 b3 = some (.cells ⟨[.int .i64 ((sumL (fun _ => 1) A.nodes i : Int) + 1), .int .i64 (sumL (fun n => n.data.size) A.nodes i : Int)]⟩ 64 (0, 0)) := p1.same
    have hg1 := hg.putF p1 n3
    have hM1 := hM.gr hg1
    obtain ⟨gs, os, s1, s2, s3⟩ := hM1.ptr (i := i) (by omega)
    rw [hget] at s3
    refine ptr_i (rd_I (rdC_of k31 (by rfl)) (ptr_i (rd_L (rdC_of hM1.top (by rfl)) ?_)))
    rw [s1]
    refine ptr_i (if_i s2 (rd_P s3 (ptr_i (rd_S (rdC_of (hM1.nod _ _ hget) (by rfl)) (ptr_i ?_)))))
    rw [wrap_id (by omega) (by omega)]
    refine st_i2 k31 sz_int (by rfl) (by rfl) ?_; intro τ2 p2
    refine hj τ2 (hg1.putF p2 n3) (p2.get n23 (p1.get n23 k2)) ?_
    have := p2.same
    rw [z1, z2]
    have e1 : ((sumL (fun _ => 1) A.nodes i + 1 : Nat) : Int) = (sumL (fun _ => 1) A.nodes i : Int) + 1 := by omega
    have e2 : ((sumL (fun n => n.data.size) A.nodes i + n.data.size : Nat) : Int) = (sumL (fun n => n.data.size) A.nodes i : Int) + ((n.data.size : Nat) : Int) := by omega
    rw [e1, e2]
    exact this
 exact key A.last.toNat 0 σ3 (by omega) g3 k2 k3
theorem s_rfRoom (hI : Wk.Inv A) (hB : Bd N A) (hN : N <= 1000000000000) (hM : RfIn σ b A M) (i n : Int) {K : KH} (hK : K (.bool (A.roomE i n == 0)) σ) : callW Tryz.prog 129 [.pointer (some ⟨b, 0, none⟩), .int .i64 i, .int .i64 n] K σ := by
 refine pure_i _ hK (c129 _ _ _ ?_)
 clear hK
 unfold g129
 refine call_i (s_rfUsed hI hB hN hM ?_)
 (refine app_of rfl ?_; try dsimp only)
 refine al_i ?_; intro b6 σ1 g1 e1 n1
 refine st_i2 e1 sz_Quota (by rfl) (by rfl) ?_; intro σ2 p2
 have hg : Gr σ σ2 := g1.putF p2 n1
 have hM2 := hM.gr hg
 have k6 : σ2 b6 = some (.cells ⟨[.int .i64 A.ui, .int .i64 A.ub]⟩ 64 (0, 0)) := p2.same
 refine rd_I (rdC_of k6 (by rfl)) (ptr_i (rd_I (rdC_of hM2.top (by rfl)) ?_))
 have hr : (A.roomE i n == 0) = (decide (wr (A.ui + i) <= A.qi) && decide (wr (A.ub + n) <= A.qb)) := by
  unfold AT.roomE
  by_cases h1 : wr (A.ui + i) <= A.qi <;> by_cases h2 : wr (A.ub + n) <= A.qb <;> simp [h1, h2]
 rw [hr]
 cases h1 : decide (wr (A.ui + i) <= A.qi) with
 | true =>
  refine br_t h1 (rd_I (rdC_of k6 (by rfl)) (ptr_i (rd_I (rdC_of hM2.top (by rfl)) ?_)))
  exact ⟨rfl, hg⟩
 | false => exact br_f h1 ⟨rfl, hg⟩
end
theorem s_rfNew (qi qb : Int) {σ : H} {K : KH} (hN : newOk qi qb = false -> ∀ σ', Gr σ σ' -> K (.pointer none) σ')
 (hK : newOk qi qb = true -> ∀ bf σ' D, RfAt σ' bf (newT qi qb) D -> Gr σ σ' -> (∀ c, D c -> σ c = none) -> K (.pointer (some ⟨bf, 0, none⟩)) σ') :
 callW Tryz.prog 32 [.agg ⟨[.int .i64 qi, .int .i64 qb]⟩] K σ := by
 refine c32 _ _ ?_
 unfold g32
 refine al_i ?_; intro b3 σ1 g1 e1 n1
 refine j_i (fun j => ∀ t : Bool, t = !newOk qi qb -> j (some ⟨b3, 0, none⟩) t σ1) ?_ ?_
 ·intro t ht
  cases t with
  | true => exact br_t rfl (hN (by cases h : newOk qi qb <;> simp [h] at ht ⊢) σ1 g1)
  | false =>
   refine br_f rfl (ptr_i (rd_G (rdA_of' e1 (by rfl)) ?_))
   (refine app_of rfl ?_; try dsimp only)
   refine al_i ?_; intro b11 σ2 g2 e2 n2
   refine al_i ?_; intro b12 σ3 g3 e3 n3
   refine al_i ?_; intro b13 σ4 g4 e4 n4
   have z11 : σ b11 = none := none_of g1 n2
   have z12 : σ b12 = none := none_of (g1.trans g2) n3
   have z13 : σ b13 = none := none_of ((g1.trans g2).trans g3) n4
   have d1 : b11 ≠ b12 := by intro e; rw [<- e, e2] at n3; cases n3
   have d2 : b11 ≠ b13 := by intro e; rw [<- e, g3.get e2] at n4; cases n4
   have d3 : b12 ≠ b13 := by intro e; rw [<- e, e3] at n4; cases n4
   have hget : ∀ i n, (newT qi qb).get i = some n -> i = 1 /\ n = ⟨2, 493, ⟨⟨[]⟩⟩, 1, 1, []⟩ := by
    intro i n h
    unfold AT.get newT at h
    simp only [lk] at h
    by_cases e : i = 1
    ·subst e; simp at h; exact ⟨rfl, h.symm⟩
    ·have : (i == 1) = false := by simpa using e
     rw [this] at h; simp at h
   refine hK (by cases h : newOk qi qb <;> simp [h] at ht ⊢) b13 σ4 (fun c => c = b11 \/ c = b12 \/ c = b13) ⟨⟨⟨some ⟨b12, 0, none⟩, 1, 1⟩, fun _ => b11, fun _ => ⟨none, 0, 0⟩, fun c => if c = b13 then some (0, false) else if c = b12 then some (0, true) else if c = b11 then some (1, false) else none⟩, ⟨?_, ?_, ?_, ?_, ?_, ?_, ?_, ?_, ?_⟩, ?_⟩ (((g1.trans g2).trans g3).trans g4) ?_
   ·exact e4
   ·refine ⟨rfl, by intro r hr; unfold ptrRow at hr; rw [List.mem_map] at hr; obtain ⟨_, _, rfl⟩ := hr; rfl, .inr ⟨b12, [.pointer (some ⟨b11, 0, none⟩)], rfl, g4.get e3, rfl, Nat.le_refl _, rfl⟩⟩
   ·intro i n hn
    obtain ⟨rfl, rfl⟩ := hget i n hn
    exact (g3.trans g4).get e2
   ·intro i n hn
    obtain ⟨rfl, rfl⟩ := hget i n hn
    exact RowsOwn.nil _ _ _
   ·simp
   ·intro g hg
    have hg : some (⟨b12, 0, none⟩ : Addr) = some ⟨g, 0, none⟩ := hg
    injection hg with hg
    injection hg with hg
    subst hg
    simp [d3]
   ·intro i n hn
    obtain ⟨rfl, rfl⟩ := hget i n hn
    simp [d1, d2]
   ·intro i n g _ h; cases h
   ·intro c hc
    by_cases h1 : c = b13
    ·subst h1; rw [e4]; simp
    by_cases h2 : c = b12
    ·subst h2; rw [g4.get e3]; simp
    by_cases h3 : c = b11
    ·subst h3; rw [(g3.trans g4).get e2]; simp
    ·simp [h1, h2, h3] at hc
   ·intro c
    by_cases h1 : c = b13
    ·simp [h1]
    by_cases h2 : c = b12
    ·simp [h2, d3]
    by_cases h3 : c = b11
    ·simp [h3, d1, d2]
    ·simp [h1, h2, h3]
   ·rintro c (h | h | h) <;> subst h
    ·exact z11
    ·exact z12
    ·exact z13
 ·intro j hj
  have hnew : (!newOk qi qb) = (decide (qi < 1) || (decide (qi > 1048576) || (decide (qb < 0) || decide (qb > 1073741824)))) := by unfold newOk; simp
  rw [hnew] at hj
  refine rd_I (rdC_of e1 (by rfl)) ?_
  by_cases c1 : qi < 1
  ·exact br_t (by simpa using c1) (hj true (by simp [c1]))
  refine br_f (by simpa using c1) (rd_I (rdC_of e1 (by rfl)) ?_)
  by_cases c2 : qi > 1048576
  ·exact br_t (by simpa using c2) (hj true (by simp [c2]))
  refine br_f (by simpa using c2) (rd_I (rdC_of e1 (by rfl)) ?_)
  by_cases c3 : qb < 0
  ·exact br_t (by simpa using c3) (hj true (by simp [c3]))
  refine br_f (by simpa using c3) (rd_I (rdC_of e1 (by rfl)) ?_)
  exact hj _ (by simp [c1, c2, c3])
section
variable {σ σ' : H} {b : Nat} {A : AT} {M : RfM} {N : Nat}
def RfM.setE (M : RfM) (i : Int) (y' : Sl) : RfM := ⟨M.x, M.cb, fun j => if j = i then y' else M.ey j, fun c => if y'.base = some ⟨c, 0, none⟩ then some (i, true) else M.w c⟩
theorem RfIn.low (h : RfIn σ b A M) (hL : ∀ i n, A.get i = some n -> 1 <= i) {i : Int} {n : AN} (hn : A.get i = some n) : M.cb i ≠ b /\ M.x.base ≠ some ⟨M.cb i, 0, none⟩ := by
 have h1 := h.wn i n hn
 have := hL i n hn
 refine ⟨?_, ?_⟩
 ·intro e; rw [e, h.wb] at h1; injection h1 with h1; injection h1 with h1 _; omega
 ·intro e; rw [h.wt _ e] at h1; injection h1 with h1; injection h1 with h1 _; omega
theorem RfIn.setN (h : RfIn σ b A M) (hL : ∀ i n, A.get i = some n -> 1 <= i) {i : Int} {n n' : AN} (hn : A.get i = some n) {y' : Sl} (hp : Put σ (M.cb i) (nodeO n' y') σ') (ho : RowsOwn σ 245 2 (eRow n'.ents) y') (hy : ∀ g, y'.base = some ⟨g, 0, none⟩ -> M.w g = none \/ M.w g = some (i, true)) : RfIn σ' b (A.set i n') (M.setE i y') := by
 obtain ⟨q1, q2⟩ := h.low hL hn
 have hw := h.wn i n hn
 have hi1 := hL i n hn
 have hycb : y'.base ≠ some ⟨M.cb i, 0, none⟩ := by
  intro e
  rcases hy _ e with e2 | e2 <;> rw [hw] at e2
  ·cases e2
  ·injection e2 with e2; injection e2 with _ e2; cases e2
 have hyw : ∀ c r, M.w c = some r -> r ≠ (i, true) -> y'.base ≠ some ⟨c, 0, none⟩ := by
  intro c r hc hr e
  rcases hy _ e with e2 | e2 <;> rw [hc] at e2
  ·cases e2
  ·injection e2 with e2; exact hr e2
 have hcb : ∀ j m, A.get j = some m -> j ≠ i -> M.cb j ≠ M.cb i := by
  intro j m hm hj e
  have := h.wn j m hm
  rw [e, hw] at this; injection this with this; injection this with this _; exact hj this.symm
 have hget : ∀ j m, (A.set i n').get j = some m -> (j = i /\ m = n') \/ (j ≠ i /\ A.get j = some m) := by
  intro j m hm
  rw [AT.get_set] at hm
  by_cases e : j = i
  ·rw [if_pos e] at hm; exact .inl ⟨e, (Option.some.inj hm).symm⟩
  ·rw [if_neg e] at hm; exact .inr ⟨e, hm⟩
 refine ⟨?_, ?_, ?_, ?_, ?_, ?_, ?_, ?_, ?_⟩
 ·exact hp.get (Ne.symm q1) h.top
 ·have : ptrRow (A.set i n') M.cb = ptrRow A M.cb := by
   unfold ptrRow
   apply List.map_congr_left
   intro k _
   rw [AT.get_set]
   by_cases e : (k : Int) + 1 = i
   ·rw [if_pos e, e, hn]; rfl
   ·rw [if_neg e]
  show RowsOwn σ' 128 1 (ptrRow (A.set i n') M.cb) M.x
  rw [this]
  exact h.tab.put hp q2
 ·intro j m hm
  rcases hget j m hm with ⟨e1, e2⟩ | ⟨e1, e2⟩
  ·subst e1; subst e2
   show σ' (M.cb j) = some (nodeO m (if j = j then y' else M.ey j))
   rw [if_pos rfl]; exact hp.same
  ·show σ' (M.cb j) = some (nodeO m (if j = i then y' else M.ey j))
   rw [if_neg e1]; exact hp.get (hcb j m e2 e1) (h.nod j m e2)
 ·intro j m hm
  rcases hget j m hm with ⟨e1, e2⟩ | ⟨e1, e2⟩
  ·subst e1; subst e2
   show RowsOwn σ' 245 2 (eRow m.ents) (if j = j then y' else M.ey j)
   rw [if_pos rfl]; exact ho.put hp hycb
  ·show RowsOwn σ' 245 2 (eRow m.ents) (if j = i then y' else M.ey j)
   rw [if_neg e1]
   refine (h.ent j m e2).put hp fun e => ?_
   have := h.we j m _ e2 e
   rw [hw] at this; injection this with this; injection this with _ this; cases this
 ·show (if y'.base = some ⟨b, 0, none⟩ then some (i, true) else M.w b) = _
  rw [if_neg (hyw b _ h.wb (by intro e; injection e with e _; omega))]; exact h.wb
 ·intro g hg
  show (if y'.base = some ⟨g, 0, none⟩ then some (i, true) else M.w g) = _
  have := h.wt g hg
  rw [if_neg (hyw g _ this (by intro e; injection e with e _; omega))]; exact this
 ·intro j m hm
  show (if y'.base = some ⟨M.cb j, 0, none⟩ then some (i, true) else M.w (M.cb j)) = _
  have : M.w (M.cb j) = some (j, false) := by
   rcases hget j m hm with ⟨e1, e2⟩ | ⟨e1, e2⟩
   ·rw [e1]; exact hw
   ·exact h.wn j m e2
  rw [if_neg (hyw _ _ this (by intro e; injection e with _ e; cases e))]; exact this
 ·intro j m g hm hg
  show (if y'.base = some ⟨g, 0, none⟩ then some (i, true) else M.w g) = _
  rcases hget j m hm with ⟨e1, e2⟩ | ⟨e1, e2⟩
  ·subst e1
   have hg : (if j = j then y' else M.ey j).base = some ⟨g, 0, none⟩ := hg
   rw [if_pos rfl] at hg
   rw [if_pos hg]
  ·have hg : (if j = i then y' else M.ey j).base = some ⟨g, 0, none⟩ := hg
   rw [if_neg e1] at hg
   have := h.we j m g e2 hg
   rw [if_neg (hyw g _ this (by intro e; injection e with e _; exact e1 e))]; exact this
 ·intro c hc
  have hc : (if y'.base = some ⟨c, 0, none⟩ then some (i, true) else M.w c) ≠ none := hc
  have hs : σ c ≠ none := by
   by_cases e : y'.base = some ⟨c, 0, none⟩
   ·exact ho.has e
   ·rw [if_neg e] at hc; exact h.has c hc
  cases ho2 : σ c with
  | none => exact absurd ho2 hs
  | some o =>
   by_cases e : c = M.cb i
   ·rw [e, hp.same]; simp
   ·rw [hp.get e ho2]; simp
theorem und_REnts : Tryz.prog.underlying 129 = some (.slice 245) := by kernel_rfl
theorem info_REntry : ∃ i z, Tryz.prog.info? 245 = some i /\ i.zero = some z /\ i.size = 2 /\ i.bytes = 24 /\ z.cells.size = 2 := by
 have h1 : (Tryz.prog.info? 245).map (fun i => (i.zero.map (fun z => z.cells.size), i.size, i.bytes)) = some (some 2, 2, 24) := by kernel_rfl
 cases hi : Tryz.prog.info? 245 with
 | none => rw [hi] at h1; cases h1
 | some i =>
  rw [hi] at h1
  simp only [Option.map_some, Option.some.injEq, Prod.mk.injEq] at h1
  cases hz : i.zero with
  | none => rw [hz] at h1; cases h1.1
  | some z =>
   rw [hz] at h1
   exact ⟨i, z, rfl, hz, h1.2.1, h1.2.2, by simpa using h1.1⟩
def EntNew (σ0 σ : H) (l : List (List Value)) (y : Sl) : Prop := Gr σ0 σ /\ RowsOwn σ 245 2 l y /\ ∀ g, y.base = some ⟨g, 0, none⟩ -> σ0 g = none
theorem app_ent {σ0 σ : H} {l : List (List Value)} {y : Sl} {s : ByteArray} {v : Int} {ty : TypeId} {cs : List Bool} (h : EntNew σ0 σ l y) (hl : l.length < 1000000000) {F : Sl -> H -> Prop} (hF : ∀ y' σ', EntNew σ0 σ' (l ++ [[.string s, .int .i64 v]]) y' -> (∀ c o, σ c = some o -> y.base ≠ some ⟨c, 0, none⟩ -> σ' c = some o) -> F y' σ') :
 alW (.cells ⟨[.string s, .int .i64 v]⟩ 245 (0, 0)) (fun (b48 : Nat) => biW Tryz.prog .append #[129, 129] ty cs [.slice y.base y.len y.cap, .slice (some ⟨b48, 0, none⟩) 1 1] kL F) σ := by
 obtain ⟨h1, h2, h3⟩ := h
 refine al_i ?_; intro b48 σ1 g1 e1 n1
 obtain ⟨i, z, i1, i2, i3, i4, i5⟩ := info_REntry
 refine append_i und_REnts i1 i2 i3 i4 i5 (by decide) (h2.gr g1) e1 rfl (by intro u hu; simp at hu; rcases hu with rfl | rfl <;> rfl) hl (by decide) ?_
 intro y' σ' hy' hcase
 refine hF y' σ' ⟨?_, hy', ?_⟩ ?_
 ·rcases hcase with ⟨g, o, q1, q2, q3⟩ | ⟨g, q1, q2, q3⟩
  ·exact (h1.trans g1).putF q3 (h3 g q1)
  ·exact (h1.trans g1).trans q3
 ·intro g hg
  rcases hcase with ⟨g', o, q1, q2, q3⟩ | ⟨g', q1, q2, q3⟩
  ·rw [q2] at hg; exact h3 g hg
  ·rw [q1] at hg
   injection hg with hg
   injection hg with hg
   subst hg
   exact none_of (h1.trans g1) q2
 ·intro c o hc hne
  rcases hcase with ⟨g, o', q1, q2, q3⟩ | ⟨g, q1, q2, q3⟩
  ·exact q3.get (fun e => hne (by rw [e]; exact q1)) (g1.get hc)
  ·exact q3.get (g1.get hc)
theorem sz_REntry : sizeT Tryz.prog 245 = some 2 := by kernel_rfl
theorem sz_REnts : sizeT Tryz.prog 129 = some 1 := by kernel_rfl
theorem RfIn.slot2 (h : RfIn σ b A M) (hL : ∀ i n, A.get i = some n -> 1 <= i /\ i <= A.last) {d : Int} {n : AN} (hn : A.get (d + 1) = some n) : ∃ g o, M.x.base = some ⟨g, o, none⟩ /\ (0 <= d /\ d < ((M.x.len : Nat) : Int)) /\ rdC g (o + d.toNat * 1) σ = some (.pointer (some ⟨M.cb (d + 1), 0, none⟩)) := by
 obtain ⟨l1, l2⟩ := hL _ _ hn
 obtain ⟨g, o, h1, h2, h3⟩ := h.ptr (i := d.toNat) (by omega)
 have e : ((d.toNat : Nat) : Int) = d := by omega
 rw [e, hn] at h3
 rw [e] at h2
 exact ⟨g, o, h1, h2, h3⟩
theorem rf_at2 (h : RfIn σ b A M) (hL : ∀ i n, A.get i = some n -> 1 <= i /\ i <= A.last) {d : Int} {n : AN} (hn : A.get (d + 1) = some n) {F : Nat -> Nat -> H -> Prop} (hF : F (M.cb (d + 1)) 0 σ) :
 ptrW (some ⟨b, 0, none⟩) (fun (b4 o5 : Nat) => rdT (rdC b4 (o5 + 2)) kL (fun (x6 : Sl) => ptrW x6.base (fun (b7 o8 : Nat) => ifW (0 <= d /\ d < ((x6.len : Nat) : Int)) (rdT (rdC b7 (o8 + d.toNat * 1)) kP (fun x9 => ptrW x9 F))))) σ := by
 obtain ⟨g, o, h1, h2, h3⟩ := h.slot2 hL hn
 refine ptr_i (rd_L (rdC_of h.top (by rfl)) ?_)
 rw [h1]
 exact ptr_i (if_i h2 (rd_P h3 (ptr_i hF)))
theorem RfIn.congr (h : RfIn σ b A M) {A' : AT} (q1 : A'.qi = A.qi) (q2 : A'.qb = A.qb) (q3 : A'.last = A.last) (hg : ∀ j, A'.get j = A.get j) : RfIn σ b A' M := by
 refine ⟨?_, ?_, fun i n hn => h.nod i n (by rw [<- hg]; exact hn), fun i n hn => h.ent i n (by rw [<- hg]; exact hn), h.wb, h.wt, fun i n hn => h.wn i n (by rw [<- hg]; exact hn), fun i n g hn => h.we i n g (by rw [<- hg]; exact hn), h.has⟩
 ·rw [q1, q2]; exact h.top
 ·have : ptrRow A' M.cb = ptrRow A M.cb := by unfold ptrRow; rw [q3]; apply List.map_congr_left; intro k _; rw [hg]
  rw [this]; exact h.tab
theorem s_rfEnter {dir ino : Int} {nd ni : AN} {name : ByteArray} (hM : RfIn σ b A M) (hL : ∀ i n, A.get i = some n -> 1 <= i /\ i <= A.last) (hz : A.last <= 1000000000000) (hd : A.get (dir + 1) = some nd) (hi : A.get (ino + 1) = some ni) (hne : dir ≠ ino) (hnk : lk name nd.ents = none) (hnod : (keysL nd.ents).Nodup) (hlen : nd.ents.length <= 100000000) {K : KH}
 (hK : ∀ σ' M', (∀ A' : AT, A'.qi = A.qi -> A'.qb = A.qb -> A'.last = A.last -> (∀ j, A'.get j = if j = ino + 1 then some (if ni.kind = 2 then { ni with up := dir + 1 } else ni) else if j = dir + 1 then some { nd with ents := up name (ino + 1) nd.ents } else A.get j) -> RfIn σ' b A' M') -> (∀ c o, σ c = some o -> M.w c = none -> σ' c = some o /\ M'.w c = none) -> K (.tuple ⟨[]⟩) σ') :
 callW Tryz.prog 145 [.pointer (some ⟨b, 0, none⟩), .int .i64 dir, .string name, .int .i64 ino] K σ := by
 refine c145 _ _ _ _ ?_
 unfold g145
 refine loop_i ?_
 intro R hR
 generalize hks : sortN (keysL nd.ents) = ks
 have hkl : ks.length = nd.ents.length := by rw [<- hks, (sortN_perm _).length_eq]; simp [keysL]
 have hke : ∀ {τ : H}, RfIn τ b A M -> (M.ey (dir + 1)).len = ks.length := by
  intro τ h
  have := (h.ent _ _ hd).1
  rw [<- hks]; simpa [eRow] using this
 have hnm : name ∉ ks := by rw [<- hks]; intro h; exact (lk_none_iff.1 hnk) ((sortN_perm _).mem_iff.1 h)
 have hT : entR name [.string name, .int .i64 ino] (fun k => [Value.string k, .int .i64 ((lk k nd.ents).getD 0 - 1)]) false ks = eRow (up name (ino + 1) nd.ents) := by
  unfold eRow
  rw [keys_up_none hnk, sortN_snoc, hks, <- entR_eq]
  have e1 : [Value.string name, .int .i64 ((lk name (up name (ino + 1) nd.ents)).getD 0 - 1)] = [Value.string name, .int .i64 ino] := by
   rw [lk_up]; simp
  rw [e1]
  refine entR_congr _ _ ks false fun k hk => ?_
  have : k ≠ name := fun e => hnm (by rw [<- e]; exact hk)
  rw [lk_up]
  have : (k == name) = false := by simpa using this
  rw [this]; rfl
 generalize hTe : eRow (up name (ino + 1) nd.ents) = T at hT
 have wnew : ∀ c, σ c = none -> M.w c = none := fun c hc => hM.new hc
 have key : ∀ (c i : Nat) (l : Sl) (done : Bool) (acc : List (List Value)) (τ : H), c + i = ks.length -> EntNew σ τ acc l -> acc.length <= 2 * i -> acc ++ entR name [.string name, .int .i64 ino] (fun k => [Value.string k, .int .i64 ((lk k nd.ents).getD 0 - 1)]) done (ks.drop i) = T -> R (some ⟨b, 0, none⟩) dir name ino l done (i : Int) τ := by
  intro c
  induction c with
  | zero =>
   intro i l done acc τ hc hE hal hacc
   have hMt := hM.gr hE.1
   have hlen2 := hke hMt
   rw [show ks.drop i = [] from List.drop_eq_nil_of_le (by omega)] at hacc
   refine hR _ _ _ _ _ _ _ _ ?_
   refine rf_at2 hMt hL hd (rd_L (rdC_of (hMt.nod _ _ hd) (by rfl)) (br_f (by simp only [decide_eq_false_iff_not]; omega) ?_))
   refine j_i (fun j => ∀ l' τ', EntNew σ τ' T l' -> j (some ⟨b, 0, none⟩) dir ino l' τ') ?_ ?_
   case refine_2 =>
    intro j hj
    cases done with
    | true =>
     have : acc = T := by simpa [entR] using hacc
     rw [this] at hE
     exact br_f rfl (hj l τ hE)
    | false =>
     refine br_t rfl (app_ent hE (by omega) ?_)
     intro l' τ' hE' _
     have : acc ++ [[Value.string name, .int .i64 ino]] = T := by simpa [entR] using hacc
     rw [this] at hE'
     exact hj l' τ' hE'
   intro l' τ' hE'
   have hM' := hM.gr hE'.1
   have hlow : ∀ i n, A.get i = some n -> 1 <= i := fun i n hn => (hL i n hn).1
   refine rf_at2 hM' hL hd ?_
   refine st_i2 (hM'.nod _ _ hd) sz_REnts (by rfl) (by rfl) ?_; intro τ1 p1
   have p1' : Put τ' (M.cb (dir + 1)) (nodeO { nd with ents := up name (ino + 1) nd.ents } l') τ1 := p1
   clear p1
   have hM1 := hM'.setN hlow hd (n' := { nd with ents := up name (ino + 1) nd.ents }) (y' := l') p1' (by rw [show eRow ({ nd with ents := up name (ino + 1) nd.ents } : AN).ents = T from hTe]; exact hE'.2.1) (fun g hg => .inl (wnew g (hE'.2.2 g hg)))
   have hgi : (A.set (dir + 1) { nd with ents := up name (ino + 1) nd.ents }).get (ino + 1) = some ni := by rw [AT.get_set_ne _ _ (by omega)]; exact hi
   have hL1 : ∀ i n, (A.set (dir + 1) { nd with ents := up name (ino + 1) nd.ents }).get i = some n -> 1 <= i /\ i <= (A.set (dir + 1) { nd with ents := up name (ino + 1) nd.ents }).last := by
    intro i n hn
    rw [AT.get_set] at hn
    by_cases e : i = dir + 1
    ·rw [e]; exact hL _ _ hd
    ·rw [if_neg e] at hn; exact hL _ _ hn
   have fr1 : ∀ c o, σ c = some o -> M.w c = none -> τ1 c = some o /\ (M.setE (dir + 1) l').w c = none := by
    intro c o hc hw
    have h1 := hE'.1.get hc
    have hcb : c ≠ M.cb (dir + 1) := fun e => by rw [e, hM.wn _ _ hd] at hw; cases hw
    refine ⟨p1'.get hcb h1, ?_⟩
    show (if l'.base = some ⟨c, 0, none⟩ then some (dir + 1, true) else M.w c) = none
    rw [if_neg (fun e => by rw [hE'.2.2 c e] at hc; cases hc)]; exact hw
   refine rf_at2 hM1 hL1 hgi (rd_I (rdC_of (hM1.nod _ _ hgi) (by rfl)) ?_)
   by_cases hk2 : ni.kind = 2
   ·refine br_t (by simpa using hk2) (rf_at2 hM1 hL1 hgi ?_)
    refine st_i2 (hM1.nod _ _ hgi) sz_int (by rfl) (by rfl) ?_; intro τ2 p2
    have p2' : Put τ1 ((M.setE (dir + 1) l').cb (ino + 1)) (nodeO { ni with up := dir + 1 } ((M.setE (dir + 1) l').ey (ino + 1))) τ2 := by
     have e : upR ({ ni with up := dir + 1 } : AN) = dir := by
      unfold upR
      rw [if_pos (show ({ ni with up := dir + 1 } : AN).kind = 2 from hk2)]
      show dir + 1 - 1 = dir
      omega
     unfold nodeO
     rw [e]
     exact p2
    clear p2
    have hM2 := hM1.setN (fun i n hn => (hL1 i n hn).1) hgi (n' := { ni with up := dir + 1 }) p2' (show RowsOwn τ1 245 2 (eRow ni.ents) _ from hM1.ent _ _ hgi) (fun g hg => .inr (hM1.we _ _ g hgi hg))
    refine hK τ2 _ (fun A' q1 q2 q3 hg => hM2.congr q1 q2 q3 fun j => ?_) ?_
    ·rw [hg j, AT.get_set, AT.get_set, if_pos hk2]
    ·intro c o hc hw
     obtain ⟨f1, f2⟩ := fr1 c o hc hw
     have hcb : c ≠ M.cb (ino + 1) := fun e => by rw [e, hM.wn _ _ hi] at hw; cases hw
     refine ⟨p2'.get hcb f1, ?_⟩
     show (if ((M.setE (dir + 1) l').ey (ino + 1)).base = some ⟨c, 0, none⟩ then some (ino + 1, true) else (M.setE (dir + 1) l').w c) = none
     rw [if_neg (fun e => by rw [hM1.we _ _ c hgi e] at f2; cases f2)]; exact f2
   ·refine br_f (by simpa using hk2) (hK τ1 _ (fun A' q1 q2 q3 hg => hM1.congr q1 q2 q3 fun j => ?_) fr1)
    rw [hg j, AT.get_set, if_neg hk2]
    by_cases e : j = ino + 1
    ·rw [if_pos e, e, if_neg (by omega)]; exact hi.symm
    ·rw [if_neg e]
  | succ c ih =>
   intro i l done acc τ hc hE hal hacc
   have hMt := hM.gr hE.1
   have hlen2 := hke hMt
   obtain ⟨k, hk⟩ : ∃ k, ks[i]? = some k := ⟨_, List.getElem?_eq_getElem (by omega)⟩
   have hdrop : ks.drop i = k :: ks.drop (i + 1) := by
    rw [List.drop_eq_getElem_cons (by omega)]
    rw [List.getElem?_eq_getElem (by omega)] at hk
    rw [Option.some.inj hk]
   rw [hdrop] at hacc
   obtain ⟨gy, oy, q1, _, _, q4⟩ := erow_at (hMt.ent _ _ hd) (by rw [hks]; exact hk)
   refine hR _ _ _ _ _ _ _ _ ?_
   refine rf_at2 hMt hL hd (rd_L (rdC_of (hMt.nod _ _ hd) (by rfl)) (br_t (by simp only [decide_eq_true_eq]; omega) ?_))
   refine rf_at2 hMt hL hd (rd_L (rdC_of (hMt.nod _ _ hd) (by rfl)) ?_)
   rw [q1]
   have e0 : (i : Int).toNat = i := by omega
   refine ptr_i (if_i ⟨by omega, by show (i : Int) < (((M.ey (dir + 1)).len : Nat) : Int); omega⟩ (rd_G (by rw [e0]; exact q4) ?_))
   (refine app_of rfl ?_; try dsimp only)
   refine al_i ?_; intro b35 τ1 g1 e1 n1
   refine st_i2 e1 sz_REntry (by rfl) (by rfl) ?_; intro τ2 p2
   have g2 : Gr τ τ2 := g1.putF p2 n1
   have k35 : τ2 b35 = some (.cells ⟨[.string k, .int .i64 ((lk k nd.ents).getD 0 - 1)]⟩ 245 (0, 0)) := p2.same
   clear p2 e1
   have hE2 : EntNew σ τ2 acc l := ⟨hE.1.trans g2, hE.2.1.gr g2, hE.2.2⟩
   have hlb : l.base ≠ some ⟨b35, 0, none⟩ := fun e => hE.2.1.has e n1
   refine j_i (fun j => ∀ (l' : Sl) (done' : Bool) (acc' : List (List Value)) (τ' : H) v1 v2 v3 v4, EntNew σ τ' acc' l' -> acc'.length <= 2 * i + 1 -> τ' b35 = some (.cells ⟨[.string k, .int .i64 ((lk k nd.ents).getD 0 - 1)]⟩ 245 (0, 0)) -> acc' ++ [.string k, .int .i64 ((lk k nd.ents).getD 0 - 1)] :: entR name [.string name, .int .i64 ino] (fun k => [Value.string k, .int .i64 ((lk k nd.ents).getD 0 - 1)]) done' (ks.drop (i + 1)) = T -> j (some ⟨b, 0, none⟩) dir name ino l' done' (i : Int) (some ⟨b35, 0, none⟩) v1 v2 v3 v4 τ') ?_ ?_
   ·intro l' done' acc' τ' v1 v2 v3 v4 a1 a2 a3 a4
    refine ptr_i (rd_G (rdA_of' a3 (by rfl)) ?_)
    (refine app_of rfl ?_; try dsimp only)
    refine app_ent a1 (by omega) ?_
    intro l'' τ'' hE'' _
    rw [wrap_id (x := (i : Int) + 1) (by omega) (by omega)]
    rw [show (i : Int) + 1 = ((i + 1 : Nat) : Int) from by omega]
    refine ih (i + 1) l'' done' _ τ'' (by omega) hE'' (by rw [List.length_append]; simp; omega) ?_
    rw [List.append_assoc]; exact a4
   intro j36 h36
   refine j_i (fun j => ∀ v1 v2 v3 v4, j (some ⟨b, 0, none⟩) dir name ino l done (i : Int) (some ⟨b35, 0, none⟩) v1 v2 v3 v4 (!done && ltB name k) τ2) ?_ ?_
   ·intro v1 v2 v3 v4
    cases ht : (!done && ltB name k) with
    | false =>
     refine br_f rfl (h36 l done acc τ2 _ _ _ _ hE2 (by omega) k35 ?_)
     unfold entR at hacc
     rw [if_neg (by rw [ht]; decide)] at hacc
     exact hacc
    | true =>
     refine br_t rfl (app_ent hE2 (by omega) ?_)
     intro l' τ' hE' hkeep
     refine h36 l' true _ τ' _ _ _ _ hE' (by rw [List.length_append]; simp; omega) (hkeep _ _ k35 hlb) ?_
     unfold entR at hacc
     rw [if_pos ht] at hacc
     rw [List.append_assoc]; exact hacc
   ·intro j55 h55
    cases done with
    | true => exact br_f rfl (h55 _ _ _ _)
    | false =>
     refine br_t rfl (rd_S (rdC_of k35 (by rfl)) ?_)
     rw [strLt_eq]
     exact h55 _ _ _ _
 exact key ks.length 0 ⟨none, 0, 0⟩ false [] σ (by omega) ⟨Gr.refl _, RowsOwn.nil _ _ _, fun g h => by cases h⟩ (by simp) (by simpa using hT)
end
end Go.Proofs.YtbjbeajbckcecaaGreatDoor

