/- A part of the proof: The tree that Of takes at what lies in a directory is that directory's kid: true for every tree that is handed in. -/
import Derived.Test.YtlpcehbfoogejaaGreatDoorPau
/- LAYING A TREE keeps what always holds. -/
namespace Go.Wk
open Go Go.HL
/-- nothing is lost -/
structure Grows (A A' : AT) : Prop where
  get : ∀ i n, A.get i = some n → ∃ m, A'.get i = some m ∧ m.kind = n.kind ∧ m.up = n.up ∧ m.mode = n.mode ∧ m.data = n.data ∧ m.links = n.links ∧ ∀ s j, lk s n.ents = some j → lk s m.ents = some j
  last : A.last ≤ A'.last
  qi : A'.qi = A.qi
  qb : A'.qb = A.qb
theorem Grows.refl (A : AT) : Grows A A := ⟨fun i n h => ⟨n, h, rfl, rfl, rfl, rfl, rfl, fun _ _ h => h⟩, Int.le_refl _, rfl, rfl⟩
theorem Grows.trans {A B C : AT} (h : Grows A B) (k : Grows B C) : Grows A C := by
  refine ⟨fun i n hn => ?_, Int.le_trans h.last k.last, by rw [k.qi, h.qi], by rw [k.qb, h.qb]⟩
  obtain ⟨m, h1, h2, h3, h4, h5, h6, h7⟩ := h.get i n hn
  obtain ⟨m', k1, k2, k3, k4, k5, k6, k7⟩ := k.get i m h1
  exact ⟨m', k1, by rw [k2, h2], by rw [k3, h3], by rw [k4, h4], by rw [k5, h5], by rw [k6, h6], fun s j hs => k7 s j (h7 s j hs)⟩
section
variable {A A' : AT}
theorem Grows.isDir (h : Grows A A') {k : Int} (hk : A.isDir k) : A'.isDir k := by
  obtain ⟨n, h1, h2⟩ := hk
  obtain ⟨m, h3, h4, _⟩ := h.get k n h1
  exact ⟨m, h3, by rw [h4, h2]⟩
theorem Grows.deep (h : Grows A A') (hI : Inv A) (f : Nat) {k : Int} (hk : A.isDir k) : A'.deep f k = A.deep f k := by
  refine deep_same hI ?_ f k hk
  rintro k ⟨n, h1, _⟩
  obtain ⟨m, h3, _, h5, _⟩ := h.get k n h1
  unfold AT.upOf; rw [h1, h3]; simp [h5]
theorem Grows.find (h : Grows A A') {d : Int} {s : ByteArray} {j : Int} (hf : A.find d s = some j) : A'.find d s = some j := by
  unfold AT.find at hf ⊢
  cases hn : A.get d with
  | none => rw [hn] at hf; cases hf
  | some n =>
    rw [hn] at hf
    obtain ⟨m, h1, _, _, _, _, _, h7⟩ := h.get d n hn
    rw [h1]; exact h7 s j hf
variable {dir : Int} {name : ByteArray} {kind mode : Int} {data : ByteArray}
theorem made_grows (h : Inv A) (hl : A.last < 4611686018427387904) (he : A.makeE dir name kind mode data = 0) : Grows A (A.made dir name kind mode data) := by
  obtain ⟨⟨nd, hd, hd2⟩, hnm, hlk, hfn, hrm⟩ := makeE_z he
  have hG := made_get (name := name) (kind := kind) (mode := mode) (data := data) h hl hd
  have hE := made_eq (name := name) (kind := kind) (mode := mode) (data := data) h hl hd
  have hfr : A.get (A.last + 1) = none := h.fresh (by omega)
  have hfn' : lk name nd.ents = none := by unfold AT.find at hfn; rw [hd] at hfn; exact hfn
  refine ⟨fun i n hn => ?_, by rw [hE]; show A.last ≤ A.last + 1; omega, by rw [hE]; rfl, by rw [hE]; rfl⟩
  rw [hG]
  by_cases e : i = dir
  · subst e; rw [if_pos rfl]; rw [hd] at hn; cases hn
    refine ⟨_, rfl, rfl, rfl, rfl, rfl, rfl, fun s j hs => ?_⟩
    simp only [lk_up]
    have : (s == name) = false := by
      cases hb : (s == name) with
      | false => rfl
      | true => have := eq_of_beq hb; subst this; rw [hfn'] at hs; cases hs
    rw [this]; exact hs
  · rw [if_neg e]
    by_cases e2 : i = A.last + 1
    · subst e2; rw [hfr] at hn; cases hn
    · rw [if_neg e2]; exact ⟨n, hn, rfl, rfl, rfl, rfl, rfl, fun _ _ h => h⟩
theorem makeR_z (he : A.makeE dir name kind mode data = 0) : A.makeR dir name kind mode data = (wr (A.last + 1), 0, A.made dir name kind mode data) := by unfold AT.makeR; rw [if_pos he]
theorem makeR_n (he : A.makeE dir name kind mode data ≠ 0) : A.makeR dir name kind mode data = (0, A.makeE dir name kind mode data, A) := by unfold AT.makeR; rw [if_neg he]
theorem makeR_ok {N : Nat} (h : Inv A) (hb : Bd N A) (hN : N < 4611686018427387904) (hs : data.size < 4611686018427387904) (hdp : A.isDir dir → kind = 2 → ∃ d, A.deep 11 dir = some d) :
    Inv (A.makeR dir name kind mode data).2.2 ∧ Bd (N + 1) (A.makeR dir name kind mode data).2.2 ∧ Grows A (A.makeR dir name kind mode data).2.2 := by
  by_cases he : A.makeE dir name kind mode data = 0
  · rw [makeR_z he]
    obtain ⟨h1, h2⟩ := h.made hb hN hs he (hdp (makeE_z he).1)
    exact ⟨h1, h2, made_grows h (by have := hb.last; omega) he⟩
  · rw [makeR_n he]
    exact ⟨h, hb.mono (by omega), Grows.refl A⟩
end
theorem levels_row : ∀ (l : List Tr) (a : Int), a ≤ Tr.levelsRow l a ∧ ∀ x ∈ l, x.levels ≤ Tr.levelsRow l a := by
  intro l
  induction l with
  | nil => intro a; exact ⟨Int.le_refl _, by simp⟩
  | cons y r ih =>
    intro a
    simp only [Tr.levelsRow]
    obtain ⟨h1, h2⟩ := ih (gr a y.levels)
    have hg : a ≤ gr a y.levels ∧ y.levels ≤ gr a y.levels := by unfold gr; split <;> omega
    refine ⟨by omega, fun x hx => ?_⟩
    rcases List.mem_cons.1 hx with e | e
    · subst e; omega
    · exact h2 x e
theorem levels_pos (t : Tr) : 0 ≤ t.levels := by
  obtain ⟨n, k, e, d, kids⟩ := t
  simp only [Tr.levels]
  split
  · omega
  · have := (levels_row kids 0).1; omega
theorem levels_kid {t x : Tr} (hk : t.kind = 2) (hx : x ∈ t.kids) : x.levels + 1 ≤ t.levels := by
  obtain ⟨n, k, e, d, kids⟩ := t
  have hk : k = 2 := hk
  simp only [Tr.levels, Tr.kids] at *
  rw [if_neg (by simp [hk])]
  have := (levels_row kids 0).2 x hx
  omega
theorem levels_dir {t : Tr} (hk : t.kind = 2) : 1 ≤ t.levels := by
  obtain ⟨n, k, e, d, kids⟩ := t
  have hk : k = 2 := hk
  simp only [Tr.levels]
  rw [if_neg (by simp [hk])]
  have := (levels_row kids 0).1
  omega
theorem lay_eq (dir : Int) (name : ByteArray) (t : Tr) (A : AT) : AT.lay dir name t A = AT.layRow (A.makeR dir name t.kind (modeOf t.kind t.exec) t.data).1 t.kids ((A.makeR dir name t.kind (modeOf t.kind t.exec) t.data).2.1, (A.makeR dir name t.kind (modeOf t.kind t.exec) t.data).2.2) := by
  obtain ⟨n, k, e, d, kids⟩ := t
  rw [AT.lay]; rfl
theorem layRow_err (ino : Int) : ∀ (l : List Tr) (a : Int × AT), a.1 ≠ 0 → AT.layRow ino l a = a := by
  intro l
  induction l with
  | nil => intro a _; simp [AT.layRow]
  | cons x r ih => intro a h; rw [AT.layRow, if_neg h]; exact ih a h
/-- what a row of kids asks -/
def RowD (A : AT) (ino : Int) (l : List Tr) : Prop := (∃ n, A.get ino = some n) ∧ ∀ d, A.isDir ino → A.deep 12 ino = some d → ∀ x ∈ l, d + x.levels ≤ 12
theorem made_row {A : AT} {dir : Int} {name : ByteArray} {t : Tr} (hI : Inv A) (hl : A.last < 4611686018427387904) (he : A.makeE dir name t.kind (modeOf t.kind t.exec) t.data = 0) (hd : ∀ d, A.isDir dir → A.deep 12 dir = some d → d + t.levels ≤ 12) : RowD (A.made dir name t.kind (modeOf t.kind t.exec) t.data) (A.last + 1) t.kids := by
  have hp := hI.last_pos
  obtain ⟨⟨nd, hn, hn2⟩, _⟩ := makeE_z he
  have hG := made_get (name := name) (kind := t.kind) (mode := modeOf t.kind t.exec) (data := t.data) hI hl hn
  have hne : A.last + 1 ≠ dir := by have := (hI.low dir nd hn).2; omega
  have hg : (A.made dir name t.kind (modeOf t.kind t.exec) t.data).get (A.last + 1) = some (newN dir t.kind (modeOf t.kind t.exec) t.data) := by rw [hG, if_neg hne, if_pos rfl]
  refine ⟨⟨_, hg⟩, ?_⟩
  rintro d ⟨m, hm, hm2⟩ hdp x hx
  rw [hg] at hm; cases hm
  have hk : t.kind = 2 := hm2
  obtain ⟨d0, hd0⟩ := hI.deep dir ⟨nd, hn, hn2⟩
  have h1 := hd d0 ⟨nd, hn, hn2⟩ hd0
  have h2 := levels_kid hk hx
  have hgr := made_grows hI hl he
  unfold AT.deep at hdp
  rw [if_neg (by omega)] at hdp
  have hu : (A.made dir name t.kind (modeOf t.kind t.exec) t.data).upOf (A.last + 1) = dir := by
    unfold AT.upOf; rw [hg]; simp [newN, hk]
  have hx0 := levels_pos x
  rw [hu, hgr.deep hI 11 ⟨nd, hn, hn2⟩, deep_low hd0 11 (by omega)] at hdp
  simp only [Option.map_some, Option.some.injEq] at hdp
  omega
theorem made_deep {A : AT} {dir : Int} {t : Tr} (hI : Inv A) (hd : ∀ d, A.isDir dir → A.deep 12 dir = some d → d + t.levels ≤ 12) : A.isDir dir → t.kind = 2 → ∃ d, A.deep 11 dir = some d := by
  intro h1 h2
  obtain ⟨d0, hd0⟩ := hI.deep dir h1
  have := hd d0 h1 hd0
  have := levels_dir h2
  exact ⟨d0, deep_low hd0 11 (by omega)⟩
theorem RowD.next {A A' : AT} {ino : Int} {x : Tr} {l : List Tr} (hI : Inv A) (hg : Grows A A') (h : RowD A ino (x :: l)) : RowD A' ino l := by
  obtain ⟨⟨n, hn⟩, h2⟩ := h
  obtain ⟨m, hm, hk, _⟩ := hg.get ino n hn
  refine ⟨⟨m, hm⟩, ?_⟩
  rintro d ⟨m', hm', hk'⟩ hd y hy
  rw [hm] at hm'; cases hm'
  have hD : A.isDir ino := ⟨n, hn, by rw [← hk]; exact hk'⟩
  rw [hg.deep hI 12 hD] at hd
  exact h2 d hD hd y (List.mem_cons_of_mem _ hy)
theorem RowD.head {A : AT} {ino : Int} {x : Tr} {l : List Tr} (h : RowD A ino (x :: l)) : ∀ d, A.isDir ino → A.deep 12 ino = some d → d + x.levels ≤ 12 := fun d h1 h2 => h.2 d h1 h2 x (List.mem_cons_self ..)
theorem lay_ok : ∀ (t : Tr) (A : AT) (N : Nat) (dir : Int) (name : ByteArray), Inv A → Bd N A → N + t.total < 4611686018427387904 → (∀ d, A.isDir dir → A.deep 12 dir = some d → d + t.levels ≤ 12) →
    Inv (AT.lay dir name t A).2 ∧ Bd (N + t.total) (AT.lay dir name t A).2 ∧ Grows A (AT.lay dir name t A).2 := by
  refine Tr.ind ?_
  intro t ih A N dir name hI hB hN hd
  rw [lay_eq]
  have htot : 1 + t.data.size + Tr.totalRow t.kids ≤ t.total := by obtain ⟨n, k, e, d, kids⟩ := t; simp only [Tr.total, Tr.kids, Tr.data]; omega
  obtain ⟨h1, h2, h3⟩ := makeR_ok (dir := dir) (name := name) (kind := t.kind) (mode := modeOf t.kind t.exec) (data := t.data) hI hB (by omega) (by omega) (made_deep hI hd)
  by_cases he : A.makeE dir name t.kind (modeOf t.kind t.exec) t.data = 0
  case neg =>
    rw [makeR_n he] at h1 h2 h3 ⊢
    rw [layRow_err _ _ _ he]
    exact ⟨h1, h2.mono (by omega), h3⟩
  have hl : A.last < 4611686018427387904 := by have := hB.last; omega
  have hp := hI.last_pos
  have hrow := made_row hI hl he hd
  rw [makeR_z he, wr_id (by omega) (by omega)] at *
  simp only at *
  have key : ∀ (l : List Tr) (e : Int) (A1 : AT) (M : Nat), (∀ x ∈ l, x ∈ t.kids) → Inv A1 → Bd M A1 → M + Tr.totalRow l ≤ N + t.total → Grows A A1 → (e = 0 → RowD A1 (A.last + 1) l) → Inv (AT.layRow (A.last + 1) l (e, A1)).2 ∧ Bd (N + t.total) (AT.layRow (A.last + 1) l (e, A1)).2 ∧ Grows A (AT.layRow (A.last + 1) l (e, A1)).2 := by
    intro l
    induction l with
    | nil => intro e A1 M _ a1 a2 a3 a4 _; simp only [AT.layRow]; exact ⟨a1, a2.mono (by simp only [Tr.totalRow] at a3; omega), a4⟩
    | cons x r ihl =>
      intro e A1 M hx a1 a2 a3 a4 a5
      simp only [Tr.totalRow] at a3
      rw [AT.layRow]
      by_cases he1 : e = 0
      · rw [if_pos he1]
        obtain ⟨b1, b2, b3⟩ := ih x (hx x (List.mem_cons_self ..)) A1 M (A.last + 1) x.name a1 a2 (by omega) (a5 he1).head
        exact ihl _ _ (M + x.total) (fun y hy => hx y (List.mem_cons_of_mem _ hy)) b1 b2 (by omega) (a4.trans b3) (fun _ => (a5 he1).next a1 b3)
      · rw [if_neg he1, layRow_err _ _ _ he1]
        exact ⟨a1, a2.mono (by omega), a4⟩
  exact key t.kids 0 _ (N + 1) (fun _ h => h) h1 h2 (by omega) h3 (fun _ => hrow)
end Go.Wk

/- A FILE SYSTEM: laying trees; paths from the root. -/
set_option maxRecDepth 100000
namespace Go.Proofs.YtlpcehbfoogejaaGreatDoor
open Go Go.HL Go.Wk
attribute [local irreducible] ptrW ifW brW andW rdT alW letJ stW muW biW vaW imW callT cvalT app callW invW callVW sizeT oW nilF oneK loopW rfW funW begW roundK exW idxW Gr Put
/-- a part of memory that lies beside a file system -/
def Off (τ σ : H) (B : Nat → Prop) : Prop := Gr τ σ ∧ ∀ b o, τ b = some o → ¬ B b
theorem Off.new {σ σ' : H} {B : Nat → Prop} (hg : Gr σ σ') (h : ∀ b, B b → σ b = none) : Off σ σ' B := ⟨hg, fun b o hb hB => by rw [h b hB] at hb; cases hb⟩
theorem Off.sep {τ σ σ' : H} {B B' : Nat → Prop} (h : Off τ σ B) (hs : Sep σ B σ' B') : Off τ σ' B' := by
  obtain ⟨h1, h2⟩ := h
  refine ⟨?_, fun b o hb => (hs b o (h1.get hb) (h2 b o hb)).2⟩
  unfold Gr
  intro b o hb
  exact (hs b o (h1.get hb) (h2 b o hb)).1
theorem Off.gr {τ σ σ' : H} {B : Nat → Prop} (h : Off τ σ B) (hg : Gr σ σ') : Off τ σ' B := ⟨h.1.trans hg, h.2⟩
theorem Off.get {τ σ : H} {B : Nat → Prop} (h : Off τ σ B) {b : Nat} {o : Obj} (hb : τ b = some o) : σ b = some o := h.1.get hb
theorem Off.sub {τ τ' σ : H} {B : Nat → Prop} (h : Off τ σ B) (hg : Gr τ' τ) : Off τ' σ B := ⟨hg.trans h.1, fun b o hb => h.2 b o (hg.get hb)⟩
theorem Off.put {τ σ σ' : H} {B : Nat → Prop} {b : Nat} {o : Obj} (h : Off τ σ B) (hp : Put σ b o σ') (hn : τ b = none) : Off τ σ' B := ⟨h.1.putF hp hn, h.2⟩
/-- what was made since lies beside, too -/
theorem Off.add {τ σ : H} {B : Nat → Prop} {b : Nat} {o : Obj} (h : Off τ σ B) (hb : σ b = some o) (hn : ¬ B b) : Off (τ.put b o) σ B := by
  refine ⟨?_, ?_⟩
  · unfold Gr
    intro c oc hc
    by_cases e : c = b
    · subst e; rw [H.put_same] at hc; cases hc; exact hb
    · rw [H.put_other _ _ e] at hc; exact h.1.get hc
  · intro c oc hc
    by_cases e : c = b
    · subst e; exact hn
    · rw [H.put_other _ _ e] at hc; exact h.2 c oc hc
theorem levels_total : ∀ t : Tr, t.levels ≤ t.total := by
  refine Tr.ind ?_
  intro t ih
  obtain ⟨n, k, e, d, kids⟩ := t
  have key : ∀ (l : List Tr) (a : Int) (M : Nat), (∀ x ∈ l, x.levels ≤ x.total) → a ≤ M → Tr.levelsRow l a ≤ M + Tr.totalRow l := by
    intro l
    induction l with
    | nil => intro a M _ h; simp only [Tr.levelsRow, Tr.totalRow]; omega
    | cons x r ihl =>
      intro a M hx h
      simp only [Tr.levelsRow, Tr.totalRow]
      have h1 := hx x (List.mem_cons_self ..)
      have := ihl (Wk.gr a x.levels) (M + x.total) (fun y hy => hx y (List.mem_cons_of_mem _ hy)) (by unfold Wk.gr; split <;> omega)
      omega
  have := key kids 0 0 ih (by omega)
  simp only [Tr.levels, Tr.total]
  split <;> omega
theorem s_levelsN : ∀ (t : Tr) (y : Sl) {σ : H}, SlAt σ t.kids y → t.total ≤ 1000000000000000 → ∀ {K : Value → H → Prop}, K (.int .i64 t.levels) σ → callW Tryz.prog 59 [.agg ⟨trC t y⟩] K σ := by
  refine Tr.ind (P := fun t => ∀ (y : Sl) {σ : H}, SlAt σ t.kids y → t.total ≤ 1000000000000000 → ∀ {K : Value → H → Prop}, K (.int .i64 t.levels) σ → callW Tryz.prog 59 [.agg ⟨trC t y⟩] K σ) ?_
  intro t ih y σ hs hT K hK
  refine pure_i _ hK (c59 _ _ _ _ _ ?_)
  clear hK
  unfold g59
  refine al_i ?_; intro b6 σ1 g1 e1 n1
  have hlv : t.levels = if t.kind ≠ 2 then 0 else Tr.levelsRow t.kids 0 + 1 := by obtain ⟨n, k, e, d, kids⟩ := t; rw [Tr.levels]; rfl
  have hT1 := kids_total t
  have hbd := levels_total t
  refine rd_I (rdC_of e1 (by rfl)) ?_
  by_cases hk : t.kind = 2
  case neg => rw [hlv, if_pos hk]; exact br_t (by simpa using hk) ⟨rfl, g1⟩
  rw [if_neg (by simpa using hk)] at hlv
  rw [hlv] at hbd ⊢
  refine br_f (by simpa using hk) (rd_L (rdC_of e1 (by rfl)) ?_)
  refine loop_i ?_
  intro R hR
  have key : ∀ (l : List Tr) (i : Nat) (a : Int) (τ : H), t.kids.drop i = l → Gr σ τ → Tr.levelsRow t.kids 0 = Tr.levelsRow l a → 0 ≤ a → R a y ((y.len : Nat) : Int) (i : Int) τ := by
    intro l
    induction l with
    | nil =>
      intro i a τ hd hg he h1
      have hge : t.kids.length ≤ i := by simpa using hd
      simp only [Tr.levelsRow] at he
      refine hR _ _ _ _ _ ?_
      refine br_f (by rw [hs.1]; simp only [decide_eq_false_iff_not]; omega) ⟨?_, hg⟩
      rw [wrap_id (by omega) (by omega), he]
    | cons x r ihl =>
      intro i a τ hd hg he h1
      obtain ⟨hx, hlt, hd'⟩ := drop_get hd
      obtain ⟨g, o, z, hb, hrd, hz⟩ := kid_rd (hs.gr hg) hx
      simp only [Tr.levelsRow] at he
      refine hR _ _ _ _ _ ?_
      refine br_t (by rw [hs.1]; simp only [decide_eq_true_eq]; omega) ?_
      rw [hb]
      refine ptr_i (if_i ⟨by omega, by rw [hs.1]; omega⟩ ?_)
      have hrd' : rdA 5 g (o + (i : Int).toNat * 5) τ = some (.agg ⟨trC x z⟩) := by simpa using hrd
      refine rd_G hrd' ?_
      unfold trC
      (refine app_of rfl ?_; try dsimp only)
      refine al_i ?_; intro b28 τ1 g2 e2 n2
      refine st_i2 e2 sz_Node (by rfl) (by rfl) ?_; intro τ2 p2
      have hg2 : Gr τ τ2 := g2.putF p2 n2
      refine rd_G (rdA_of' p2.same (by rfl)) ?_
      (refine app_of rfl ?_; try dsimp only)
      refine call_i (ih x (List.mem_of_getElem? hx) z (hz.gr hg2) (by have := kid_total hx; omega) (app_I ?_))
      rw [wrap_id (x := (i : Int) + 1) (by omega) (by omega)]
      exact ihl (i + 1) _ τ2 hd' (hg.trans hg2) he (by split <;> omega)
  exact key t.kids 0 0 σ1 rfl g1 rfl (by omega)
theorem und_MII : Tryz.prog.underlying 154 = some (.map 3 3) := by kernel_rfl
/-- lay -/
theorem s_lay : ∀ (t : Tr) (y : Sl) {A : AT} {N : Nat} {σ τ : H} {bf : Nat} {B : Nat → Prop} (dir : Int) (name : ByteArray), Inv A → Bd N A → N + t.total ≤ 1000000000000 → (∀ d, A.isDir dir → A.deep 12 dir = some d → d + t.levels ≤ 12) → FsAt σ bf A B → Off τ σ B → SlAt τ t.kids y → ∀ {K : Value → H → Prop},
    (∀ σ' B', FsAt σ' bf (AT.lay dir name t A).2 B' → Sep σ B σ' B' → K (.int .i64 (AT.lay dir name t A).1) σ') →
    callW Tryz.prog 60 [.pointer (some ⟨bf, 0, none⟩), .int .i64 dir, .string name, .agg ⟨trC t y⟩] K σ := by
  refine Tr.ind (P := fun t => ∀ (y : Sl) {A : AT} {N : Nat} {σ τ : H} {bf : Nat} {B : Nat → Prop} (dir : Int) (name : ByteArray), Inv A → Bd N A → N + t.total ≤ 1000000000000 → (∀ d, A.isDir dir → A.deep 12 dir = some d → d + t.levels ≤ 12) → FsAt σ bf A B → Off τ σ B → SlAt τ t.kids y → ∀ {K : Value → H → Prop},
    (∀ σ' B', FsAt σ' bf (AT.lay dir name t A).2 B' → Sep σ B σ' B' → K (.int .i64 (AT.lay dir name t A).1) σ') →
    callW Tryz.prog 60 [.pointer (some ⟨bf, 0, none⟩), .int .i64 dir, .string name, .agg ⟨trC t y⟩] K σ) ?_
  intro t ih y A N σ τ bf B dir name hI hB hN hd hF hO hs K hK
  refine c60 _ _ _ _ _ _ _ _ ?_
  unfold g60
  rw [lay_eq] at hK
  have hT1 := kids_total t
  have htot : 1 + t.data.size + Tr.totalRow t.kids ≤ t.total := by obtain ⟨n, k, e, d, kids⟩ := t; simp only [Tr.total, Tr.kids, Tr.data]; omega
  refine al_i ?_; intro b9 σ1 g1 e1 n1
  refine al_i ?_; intro b10 σ2 g2 e2 n2
  have n910 : b9 ≠ b10 := ne_fr n2 (isSome_of e1)
  have f10 : σ b10 = none := none_of g1 n2
  have m0 : MapAt σ2 b10 (encL kkI valI []) := MapAt.new e2
  refine mu_i (kk := kkI) (f := valI) und_MII und_int m0 1 420 ?_
  intro o1 σ3 p3 m1
  refine mu_i (kk := kkI) (f := valI) und_MII und_int m1 2 493 ?_
  intro o2 σ4 p4 m2
  refine mu_i (kk := kkI) (f := valI) und_MII und_int m2 3 511 ?_
  intro o3 σ5 p5 m3
  have hg5 : Lng σ σ5 := ⟨(((g1.trans g2).putF p3 f10).putF p4 f10).putF p5 f10⟩
  have k9 := p5.get n910 (p4.get n910 (p3.get n910 (g2.get e1)))
  clear p3 p4 p5 m0 m1 m2 e2
  refine rd_I (rdC_of k9 (by rfl)) ?_
  have hv : ((lk t.kind (up 3 511 (up 2 493 (up 1 420 ([] : List (Int × Int)))))).map valI).getD (.int .i64 0) = .int .i64 ((lk t.kind [((1 : Int), (420 : Int)), (2, 493), (3, 511)]).getD 0) := by
    show ((lk t.kind [((1 : Int), (420 : Int)), (2, 493), (3, 511)]).map valI).getD (.int .i64 0) = _
    cases lk t.kind [((1 : Int), (420 : Int)), (2, 493), (3, 511)] <;> rfl
  have hr := rdM_at (kk := kkI) m3 (.int .i64 0) false t.kind
  refine rd_I (n := (lk t.kind [((1 : Int), (420 : Int)), (2, 493), (3, 511)]).getD 0) (by rw [← hv]; exact hr) ?_
  have hF5 := hF.gr hg5.gr
  have hO5 := hO.gr hg5.gr
  refine j_i (fun j => j (some ⟨bf, 0, none⟩) dir name (some ⟨b9, 0, none⟩) (modeOf t.kind t.exec) σ5) ?_ ?_
  case refine_2 =>
    intro j hj
    refine rd_B (rdC_of k9 (by rfl)) ?_
    unfold modeOf at hj
    cases hx : t.exec with
    | true => rw [hx] at hj; exact br_t rfl hj
    | false => rw [hx] at hj; exact br_f rfl hj
  obtain ⟨bt, B0, q1, q2, q3, q4⟩ := id hF5
  refine ptr_i (rd_P (rdC_of q1 (by rfl)) (ptr_i (rd_I (rdC_of k9 (by rfl)) (ptr_i (rd_S (rdC_of k9 (by rfl)) ?_)))))
  have hmk := makeR_ok (dir := dir) (name := name) (kind := t.kind) (mode := modeOf t.kind t.exec) (data := t.data) hI hB (by omega) (by omega) (made_deep hI hd)
  refine call_i (f_Make hI hB (by omega) q1 q2 q3 q4 _ _ _ _ _ ?_)
  intro σ6 B6 hF6 hS6
  refine app_II ?_
  have f9 : ¬ B b9 := hF.fresh n1
  have k9' := (hS6 b9 _ k9 f9).1
  refine ptr_i (rd_L (rdC_of k9' (by rfl)) ?_)
  have hS6' : Sep σ B σ6 B6 := hS6.of_gr hg5.gr
  have hO6 := hO5.sep hS6
  have hRD : (A.makeR dir name t.kind (modeOf t.kind t.exec) t.data).2.1 = 0 → RowD (A.makeR dir name t.kind (modeOf t.kind t.exec) t.data).2.2 (A.makeR dir name t.kind (modeOf t.kind t.exec) t.data).1 t.kids := by
    intro he
    by_cases he' : A.makeE dir name t.kind (modeOf t.kind t.exec) t.data = 0
    · have hl := hB.last
      have hp := hI.last_pos
      rw [makeR_z he', wr_id (by omega) (by omega)]
      exact made_row hI (by omega) he' hd
    · rw [makeR_n he'] at he; exact absurd he he'
  generalize A.makeR dir name t.kind (modeOf t.kind t.exec) t.data = m at *
  obtain ⟨ino, e0, A0⟩ := m
  simp only at *
  refine loop_i ?_
  intro R hR
  have key : ∀ (l : List Tr) (i : Nat) (e : Int) (A1 : AT) (M : Nat) (σ7 : H) (B7 : Nat → Prop), t.kids.drop i = l → Inv A1 → Bd M A1 → M + Tr.totalRow l ≤ N + t.total → (e = 0 → RowD A1 ino l) → FsAt σ7 bf A1 B7 → Sep σ B σ7 B7 → Off τ σ7 B7 → AT.layRow ino t.kids (e0, A0) = AT.layRow ino l (e, A1) → R (some ⟨bf, 0, none⟩) ino e y ((y.len : Nat) : Int) (i : Int) σ7 := by
    intro l
    induction l with
    | nil =>
      intro i e A1 M σ7 B7 hd' a1 a2 a3 a4 a5 a6 a7 a8
      have hge : t.kids.length ≤ i := by simpa using hd'
      simp only [AT.layRow] at a8
      rw [a8] at hK
      refine hR _ _ _ _ _ _ _ ?_
      exact br_f (by rw [hs.1]; simp only [decide_eq_false_iff_not]; omega) (hK σ7 B7 a5 a6)
    | cons x r ihl =>
      intro i e A1 M σ7 B7 hd' a1 a2 a3 a4 a5 a6 a7 a8
      obtain ⟨hx, hlt, hd''⟩ := drop_get hd'
      obtain ⟨g, o, z, hb, hrd0, hzz⟩ := kid_rd hs hx
      have hrd := rdA_gr a7.1 hrd0
      rw [AT.layRow] at a8
      simp only [Tr.totalRow] at a3
      refine hR _ _ _ _ _ _ _ ?_
      refine br_t (by rw [hs.1]; simp only [decide_eq_true_eq]; omega) ?_
      refine j_i (fun j => ∀ e' A2 M2 σ8 B8, (if e = 0 then AT.lay ino x.name x A1 else (e, A1)) = (e', A2) → Inv A2 → Bd M2 A2 → M2 + Tr.totalRow r ≤ N + t.total → (e' = 0 → RowD A2 ino r) → FsAt σ8 bf A2 B8 → Sep σ B σ8 B8 → Off τ σ8 B8 → j (some ⟨bf, 0, none⟩) ino e' y ((y.len : Nat) : Int) (i : Int) σ8) ?_ ?_
      · intro e' A2 M2 σ8 B8 he' c1 c2 c3 c4 c5 c6 c7
        rw [wrap_id (x := (i : Int) + 1) (by omega) (by omega)]
        rw [he'] at a8
        exact ihl (i + 1) e' A2 M2 σ8 B8 hd'' c1 c2 c3 c4 c5 c6 c7 a8
      · intro j hj
        rw [hb]
        refine ptr_i (if_i ⟨by omega, by rw [hs.1]; omega⟩ ?_)
        have hrd' : rdA 5 g (o + (i : Int).toNat * 5) σ7 = some (.agg ⟨trC x z⟩) := by simpa using hrd
        refine rd_G hrd' ?_
        unfold trC
        (refine app_of rfl ?_; try dsimp only)
        refine al_i ?_; intro b54 σ8 g8 e8 n8
        refine st_i2 e8 sz_Node (by rfl) (by rfl) ?_; intro σ9 p9
        have hg9 : Gr σ7 σ9 := g8.putF p9 n8
        have k54 := p9.same
        have hF9 := a5.gr hg9
        have hO9 := a7.gr hg9
        have hS9 : Sep σ B σ9 B7 := a6.trans (Sep.gr hg9)
        clear p9 e8 hrd hrd'
        by_cases he1 : e = 0
        · refine br_t (by simpa using he1) (rd_S (rdC_of k54 (by rfl)) (rd_G (rdA_of' k54 (by rfl)) ?_))
          (refine app_of rfl ?_; try dsimp only)
          obtain ⟨b1, b2, b3⟩ := lay_ok x A1 M ino x.name a1 a2 (by omega) (a4 he1).head
          refine call_i (ih x (List.mem_of_getElem? hx) z ino x.name a1 a2 (by omega) (a4 he1).head hF9 hO9 hzz ?_)
          intro σ10 B10 hF10 hS10
          refine app_I (hj _ _ (M + x.total) σ10 B10 (by rw [if_pos he1]) b1 b2 (by omega) (fun _ => (a4 he1).next a1 b3) hF10 (hS9.trans hS10) (hO9.sep hS10))
        · refine br_f (by simpa using he1) (hj e A1 M σ9 B7 (by rw [if_neg he1]) a1 a2 (by omega) (fun h => absurd h he1) hF9 hS9 hO9)
  exact key t.kids 0 e0 A0 (N + 1) σ6 B6 rfl hmk.1 hmk.2.1 (by omega) hRD hF6 hS6' hO6 rfl
end Go.Proofs.YtlpcehbfoogejaaGreatDoor

/- A FILE SYSTEM: Lay, Real. -/
set_option maxRecDepth 100000
namespace Go.Proofs.YtlpcehbfoogejaaGreatDoor
open Go Go.HL Go.Wk
attribute [local irreducible] ptrW ifW brW andW rdT alW letJ stW muW biW vaW imW callT cvalT app callW invW callVW sizeT oW nilF oneK loopW rfW funW begW roundK exW idxW Gr Put
theorem go_LayF1 : isGo Tryz.prog 56 = true := by kernel_rfl
theorem sizeT_le (t : Tr) : 0 ≤ t.sizeT.1 ∧ 0 ≤ t.sizeT.2 ∧ t.sizeT.1 + t.sizeT.2 ≤ t.total := by
  unfold Tr.sizeT
  have := Tr.size_le t
  split
  · simp
  · omega
/-- Lay -/
theorem s_Lay (t : Tr) (y : Sl) {A : AT} {N : Nat} {σ τ : H} {bf : Nat} {B : Nat → Prop} (path : ByteArray) (hI : Inv A) (hB : Bd N A) (hN : N + t.total ≤ 1000000000000) (hF : FsAt σ bf A B) (hO : Off τ σ B) (hs : SlAt τ t.kids y) {K : Value → H → Prop}
    (hK : ∀ σ' B', FsAt σ' bf (A.layF path t).2 B' → Sep σ B σ' B' → K (.int .i64 (A.layF path t).1) σ') :
    callW Tryz.prog 17 [.pointer (some ⟨bf, 0, none⟩), .string path, .agg ⟨trC t y⟩] K σ := by
  refine c17 _ _ _ _ _ _ _ ?_
  unfold g17
  unfold AT.layF at hK
  simp only at hK
  refine al_i ?_; intro b8 σ1 g1 e1 n1
  refine al_i ?_; intro b9 σ2 g2 e2 n2
  have hg2 : Lng σ σ2 := ⟨g1.trans g2⟩
  have hF2 := hF.gr hg2.gr
  have hO2 := hO.gr hg2.gr
  have k8 := g2.get e1
  refine rd_P (rdC_of k8 (by rfl)) ?_
  refine call_i (s_none hF2 (app_B (br_f rfl ?_)))
  refine rd_G (rdA_of' e2 (by rfl)) ?_
  (refine app_of rfl ?_; try dsimp only)
  refine call_i (s_Check t y (hs.gr hO2.1) (by omega) (app_I ?_))
  by_cases hc : t.check = 0
  case neg =>
    rw [if_pos hc] at hK
    exact br_t (by simpa using hc) (hK σ2 B hF2 (Sep.gr hg2.gr))
  rw [if_neg (by simpa using hc)] at hK
  refine br_f (by simpa using hc) (rd_P (rdC_of k8 (by rfl)) ?_)
  refine call_i (s_fresh hF2 _ path _ ?_ ?_)
  · intro he σ3 g3
    refine app_I ?_
    rw [if_pos he] at hK
    exact hK σ3 B (hF2.gr g3) (Sep.gr (hg2.gr.trans g3))
  · intro he σ3 g3
    rw [if_neg (by simpa using he)] at hK
    obtain ⟨⟨hd, hp⟩, ht⟩ := freshP_ok hI he
    generalize (A.freshP ⟨⟨[47]⟩⟩ path).2 = p at *
    unfold plC
    refine cval_i go_LayF1 (c56 _ _ _ _ _ _ ?_)
    unfold g56
    refine al_i ?_; intro b7 σ4 g4 e4 n4
    have hg4 : Lng σ σ4 := ⟨(hg2.gr.trans g3).trans g4⟩
    have k8' := (g3.trans g4).get k8
    have k9' := (g3.trans g4).get e2
    have hF4 := hF.gr hg4.gr
    have hO4 := hO.gr hg4.gr
    refine ptr_i (rd_G (rdA_of' k9' (by rfl)) ?_)
    (refine app_of rfl ?_; try dsimp only)
    refine call_i (s_tSize t y (hs.gr hO4.1) (by omega) (app_II ?_))
    obtain ⟨bt, B0, q1, q2, q3, q4⟩ := id hF4
    refine ptr_i (rd_P (rdC_of k8' (by rfl)) (ptr_i (rd_P (rdC_of k8' (by rfl)) (ptr_i (rd_P (rdC_of q1 (by rfl)) ?_)))))
    refine call_i (s_Used hF4 ?_)
    (refine app_of rfl ?_; try dsimp only)
    refine and_i (rdC_of q1 (by rfl)) (and_i (rdC_of k8' (by rfl)) ?_)
    refine call_i (t_Quota q2 ?_)
    (refine app_of rfl ?_; try dsimp only)
    refine al_i ?_; intro b30 σ5 g5 e5 n5
    refine al_i ?_; intro b31 σ6 g6 e6 n6
    have n3031 : b30 ≠ b31 := ne_fr n6 (isSome_of e5)
    have k30 := g6.get e5
    refine st_i2 k30 sz_Quota (by rfl) (by rfl) ?_; intro σ7 p7
    have k31 := p7.get n3031.symm e6
    refine st_i2 k31 sz_Quota (by rfl) (by rfl) ?_; intro σ8 p8
    have f30 : σ4 b30 = none := n5
    have f31 : σ4 b31 = none := none_of g5 n6
    have hg48 : Lng σ4 σ8 := ⟨((g5.trans g6).putF p7 f30).putF p8 f31⟩
    have h30 := p8.get n3031 p7.same
    have h31 := p8.same
    clear p7 p8 k30 k31 e5 e6
    have hg8 : Lng σ σ8 := ⟨hg4.gr.trans hg48.gr⟩
    have hF8 := hF.gr hg8.gr
    have hO8 := hO.gr hg8.gr
    have h8 := hg48.gr.get k8'
    have h9 := hg48.gr.get k9'
    have h7 := hg48.gr.get e4
    refine ptr_i (rd_P (rdC_of h8 (by rfl)) (rd_I (rdC_of h7 (by rfl)) (ptr_i (rd_G (rdA_of' h9 (by rfl)) ?_))))
    (refine app_of rfl ?_; try dsimp only)
    obtain ⟨d, hd13, hd12, hd1, hd2⟩ := hI.deep13 hd
    rw [hd13] at hK
    simp only [Option.getD_some] at hK
    refine call_i (s_deep hF8 hd13 (by decide) (app_I ?_))
    refine and_i (rdA_of' h9 (by rfl)) ?_
    refine call_i (s_levelsN t y (hs.gr hO8.1) (by omega) (app_I ?_))
    have hlv := levels_total t
    have hl0 := levels_pos t
    rw [wrap_id (x := d + t.levels) (by omega) (by omega)]
    by_cases hdl : d + t.levels > 12
    · rw [if_pos hdl] at hK
      exact br_t (by simpa using hdl) (app_I (app_I (hK σ8 B hF8 (Sep.gr hg8.gr))))
    rw [if_neg hdl] at hK
    refine br_f (by simpa using hdl) ?_
    have hsz := sizeT_le t
    have hu1 := hI.ui_pos
    have hu2 := hI.ub_pos
    have hq1 := hI.uq
    have hq2 := hI.bq
    refine j_i (fun j => ∀ b : Bool, (b = true ↔ A.ui + t.sizeT.1 > A.qi ∨ A.ub + t.sizeT.2 > A.qb) → j (some ⟨b9, 0, none⟩) (some ⟨b8, 0, none⟩) (some ⟨b7, 0, none⟩) b σ8) ?_ ?_
    · intro b hb
      cases b with
      | true =>
        rw [if_pos (hb.1 rfl)] at hK
        exact br_t rfl (app_I (app_I (hK σ8 B hF8 (Sep.gr hg8.gr))))
      | false =>
        rw [if_neg (fun h => by have := hb.2 h; cases this)] at hK
        refine br_f rfl (ptr_i (rd_P (rdC_of h8 (by rfl)) (ptr_i (rd_I (rdC_of h7 (by rfl)) (ptr_i (rd_S (rdC_of h7 (by rfl)) (ptr_i (rd_G (rdA_of' h9 (by rfl)) ?_))))))))
        (refine app_of rfl ?_; try dsimp only)
        refine call_i (s_lay t y p.dir p.name hI hB hN ?_ hF8 hO8 hs ?_)
        · intro d' _ hd'
          rw [hd12] at hd'; cases hd'; omega
        · intro σ9 B9 hF9 hS9
          exact app_I (app_I (app_I (hK σ9 B9 hF9 (hS9.of_gr hg8.gr))))
    · intro j hj
      refine rd_I (rdC_of h30 (by rfl)) (rd_I (rdC_of h31 (by rfl)) ?_)
      rw [wrap_id (x := A.ui + t.sizeT.1) (by omega) (by omega)]
      by_cases h1 : A.ui + t.sizeT.1 > A.qi
      · exact br_t (by simpa using h1) (hj true (by simp [h1]))
      · refine br_f (by simpa using h1) (rd_I (rdC_of h30 (by rfl)) (rd_I (rdC_of h31 (by rfl)) ?_))
        rw [wrap_id (x := A.ub + t.sizeT.2) (by omega) (by omega)]
        exact hj _ (by simp [h1])
theorem StrSl.at {σ : H} {x : Sl} {l : List ByteArray} (h : StrSl σ x l) {i : Nat} {s : ByteArray} (hi : l[i]? = some s) : ∃ g cur, x.base = some ⟨g, 0, none⟩ ∧ σ g = some (.cells ⟨cur⟩ 9 (0, 0)) ∧ cur[i]? = some (.string s) := by
  obtain ⟨h1, h2 | ⟨g, cur, e1, e2, e3⟩⟩ := h
  · subst h2; simp at hi
  · refine ⟨g, cur, e1, e2, ?_⟩
    have hlt : i < l.length := by
      rcases Nat.lt_or_ge i l.length with h | h
      · exact h
      · rw [List.getElem?_eq_none h] at hi; cases hi
    have : (cur.take l.length)[i]? = some (.string s) := by rw [e3]; simp [hi]
    rw [List.getElem?_take_of_lt hlt] at this
    exact this
theorem names_len {A : AT} {d : Int} {N : Nat} (hB : Bd N A) : (A.names d).length ≤ N := by
  unfold AT.names
  cases hn : A.get d with
  | none => simp
  | some n =>
    have := hB.ents d n hn
    simp only [sortN, List.length_map]
    rw [(sortB_perm _).length_eq]
    simp [keysL]; omega
theorem names_mem {A : AT} (hI : Inv A) {d : Int} {s : ByteArray} (h : s ∈ A.names d) : ∃ j, A.find d s = some j := by
  unfold AT.names at h
  cases hn : A.get d with
  | none => rw [hn] at h; simp at h
  | some n =>
    rw [hn] at h
    simp only [sortN, List.mem_map] at h
    obtain ⟨l, hl, rfl⟩ := h
    have := (sortB_perm _).mem_iff.1 hl
    obtain ⟨k, hk, rfl⟩ := List.mem_map.1 this
    show ∃ j, A.find d k = some j
    unfold AT.find; rw [hn]
    cases hlk : lk k n.ents with
    | some j => exact ⟨j, hlk⟩
    | none => exact absurd hk (lk_none_iff.1 hlk)
end Go.Proofs.YtlpcehbfoogejaaGreatDoor

