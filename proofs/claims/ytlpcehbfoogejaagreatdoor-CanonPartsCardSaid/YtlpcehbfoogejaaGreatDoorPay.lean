/- A part of the proof: The tree that Of takes at what lies in a directory is that directory's kid: true for every tree that is handed in. -/
import Derived.Test.YtlpcehbfoogejaaGreatDoorPax
import Derived.Test.YtlpcehbfoogejaaGreatDoorCards
import Derived.Test.YtlpcehbfoogejaaGreatDoorTie
import Derived.WalkKit
import Derived.ProofKit
import Derived.OpenShut
import Derived.Deep.DeepHandedRow
import Derived.Lib.LaidTab
/- A TABLE OF INODES: writing, modes, other entries, letting go: what always holds stays so. -/
namespace Go.Wk
open Go Go.HL
variable {A : AT}
/-- an inode is changed, but not what it names, nor its kind -/
theorem Inv.mod {N : Nat} (h : Inv A) (hb : Bd N A) {i : Int} {n n' : AN} (hn : A.get i = some n) (h1 : n'.kind = n.kind) (h2 : n'.up = n.up) (h3 : n'.ents = n.ents) (h4 : likeE n'.kind n'.mode n'.data = 0) (h5 : n'.links = n.links) {ub : Int} (hub : ub = A.ub + n'.data.size - n.data.size) (hq : ub ≤ A.qb) :
    Inv { A.set i n' with ub := ub } ∧ Bd N { A.set i n' with ub := ub } := by
  have hG : ∀ j, ({ A.set i n' with ub := ub } : AT).get j = if j = i then some n' else A.get j := fun j => AT.get_set A i j n'
  have hc : ∀ j m, ({ A.set i n' with ub := ub } : AT).get j = some m → ∃ m0, A.get j = some m0 ∧ m.kind = m0.kind ∧ m.up = m0.up ∧ m.ents = m0.ents ∧ m.links = m0.links ∧ likeE m.kind m.mode m.data = 0 := by
    intro j m hm
    rw [hG] at hm
    by_cases e : j = i
    · rw [if_pos e] at hm; cases hm; subst e; exact ⟨n, hn, h1, h2, h3, h5, h4⟩
    · rw [if_neg e] at hm; exact ⟨m, hm, rfl, rfl, rfl, rfl, h.like j m hm⟩
  have hx : ∀ j m, A.get j = some m → ∃ m', ({ A.set i n' with ub := ub } : AT).get j = some m' ∧ m'.kind = m.kind ∧ m'.up = m.up ∧ m'.ents = m.ents ∧ m'.links = m.links := by
    intro j m hm
    rw [hG]
    by_cases e : j = i
    · subst e; rw [if_pos rfl]; rw [hn] at hm; cases hm; exact ⟨n', rfl, h1, h2, h3, h5⟩
    · rw [if_neg e]; exact ⟨m, hm, rfl, rfl, rfl, rfl⟩
  have hsum : ∀ f : AN → Nat, sumF f (A.set i n').nodes + f n = sumF f A.nodes + f n' := by
    intro f
    have := AT.sum_set A f i n'
    rw [hn] at this; simpa using this
  have hrefs : ∀ j, ({ A.set i n' with ub := ub } : AT).refs j = A.refs j := by
    intro j
    have := hsum (cntE j)
    have e : cntE j n' = cntE j n := by unfold cntE; rw [h3]
    show sumF (cntE j) (A.set i n').nodes = sumF (cntE j) A.nodes
    omega
  have hupO : ∀ k, A.isDir k → ({ A.set i n' with ub := ub } : AT).upOf k = A.upOf k := by
    rintro k ⟨m, hm, _⟩
    obtain ⟨m', q1, _, q3, _⟩ := hx k m hm
    unfold AT.upOf; rw [hm, q1]; simp [q3]
  refine ⟨⟨?_, ?_, ?_, ?_, ?_, ?_, ?_, ?_, ?_, ?_, ?_, ?_, ?_⟩, ⟨?_, ?_, ?_⟩⟩
  · exact nodup_up h.nodup
  · intro j m hm; obtain ⟨m0, q1, _, _, q4, _⟩ := hc j m hm; rw [q4]; exact h.enod j m0 q1
  · obtain ⟨r, r1, r2, r3⟩ := h.root
    obtain ⟨m', q1, q2, q3, _⟩ := hx 1 r r1
    exact ⟨m', q1, by rw [q2, r2], by rw [q3, r3]⟩
  · intro j m hm; obtain ⟨m0, q1, _⟩ := hc j m hm; exact h.low j m0 q1
  · intro j m hm; obtain ⟨m0, _, _, _, _, _, q⟩ := hc j m hm; exact q
  · intro j m hm hk; obtain ⟨m0, q1, q2, _, q4, _⟩ := hc j m hm; rw [q4]; exact h.file j m0 q1 (by rw [← q2]; exact hk)
  · intro j m s t hm hs
    obtain ⟨m0, q1, _, _, q4, _⟩ := hc j m hm
    rw [q4] at hs
    obtain ⟨a1, a2, m1, a3, a4⟩ := h.ent j m0 s t q1 hs
    obtain ⟨m', b1, b2, b3, _⟩ := hx t m1 a3
    exact ⟨a1, a2, m', b1, fun hk => by rw [b3]; exact a4 (by rw [← b2]; exact hk)⟩
  · intro j m hm hj
    obtain ⟨m0, q1, q2, _, _, q5, _⟩ := hc j m hm
    rw [hrefs, q2, q5]; exact h.links j m0 q1 hj
  · rintro k ⟨m, hm, hk⟩
    obtain ⟨m0, q1, q2, _⟩ := hc k m hm
    have hd : A.isDir k := ⟨m0, q1, by rw [← q2]; exact hk⟩
    rw [deep_same h hupO 12 k hd]; exact h.deep k hd
  · have := hsum (fun _ => 1)
    rw [sumF_len, sumF_len] at this
    have e := h.ui
    show A.ui = (A.set i n').nodes.length
    omega
  · have := hsum (fun n => n.data.size)
    have e := h.ub
    show ub = (sumF (fun n : AN => n.data.size) (A.set i n').nodes : Nat)
    unfold AT.bytes at e
    omega
  · exact h.uq
  · exact ⟨hq, h.bq.2⟩
  · exact hb.last
  · intro j m hm; obtain ⟨m0, q1, _, _, _, q5, _⟩ := hc j m hm; rw [q5]; exact hb.links j m0 q1
  · intro j m hm; obtain ⟨m0, q1, _, _, q4, _⟩ := hc j m hm; rw [q4]; exact hb.ents j m0 q1
/-! ### Write -/
theorem likeE_file {mode : Int} {data : ByteArray} {d : ByteArray} (h : likeE 1 mode d = 0) : likeE 1 mode data = 0 := by
  unfold likeE kindOkE at h ⊢
  simpa [lk] using h
theorem writeR_ok {N : Nat} (h : Inv A) (hb : Bd N A) (ino : Int) (data : ByteArray) (hs : data.size < 4611686018427387904) : Inv (A.writeR ino data).2 ∧ Bd N (A.writeR ino data).2 ∧ ((A.writeR ino data).1 ≠ 0 → (A.writeR ino data).2 = A) ∧ (A.writeR ino data).2.qi = A.qi ∧ (A.writeR ino data).2.qb = A.qb := by
  unfold AT.writeR
  by_cases he : A.writeE ino data = 0
  case neg => rw [if_neg he]; exact ⟨h, hb, fun _ => rfl, rfl, rfl⟩
  rw [if_pos he]
  unfold AT.writeE at he
  obtain ⟨_, he⟩ := AT.firstE_z he
  obtain ⟨h1, he⟩ := AT.firstE_z he
  obtain ⟨h2, _⟩ := AT.firstE_z he
  obtain ⟨n, hn, hk⟩ := AT.fileE_z h1
  obtain ⟨_, hr⟩ := roomE_z h2
  have hsz := h.size_le hn
  have hub := h.ub_pos
  have hq := h.bq
  rw [hn] at hr
  simp only [Option.map_some, Option.getD_some] at hr
  have e1 : A.written ino data = { A.set ino { n with data := data } with ub := wr (A.ub + wr ((data.size : Int) - n.data.size)) } := by unfold AT.written; rw [hn]
  have w1 : wr ((data.size : Int) - n.data.size) = (data.size : Int) - n.data.size := wr_id (by omega) (by omega)
  rw [w1] at hr
  have w2 : wr (A.ub + ((data.size : Int) - n.data.size)) = A.ub + data.size - n.data.size := by rw [wr_id (by omega) (by omega)]; omega
  rw [w2] at hr
  rw [e1, w1, w2]
  have hlike : likeE n.kind n.mode data = 0 := by
    have := h.like ino n hn
    rw [hk] at this ⊢
    exact likeE_file this
  obtain ⟨a, b⟩ := h.mod hb hn (n' := { n with data := data }) rfl rfl rfl hlike rfl rfl hr
  exact ⟨a, b, fun h => absurd rfl h, rfl, rfl⟩
/-! ### Chmod -/
theorem likeE_mode {k m m' : Int} {d : ByteArray} (h : likeE k m d = 0) (h1 : 0 ≤ m' ∧ m' ≤ 511) : likeE k m' d = 0 := by
  unfold likeE at h ⊢
  by_cases hk : kindOkE k d = true
  · simp [hk, h1]
  · simp [hk] at h
theorem chmodR_ok {N : Nat} (h : Inv A) (hb : Bd N A) (ino mode : Int) : Inv (A.chmodR ino mode).2 ∧ Bd N (A.chmodR ino mode).2 ∧ ((A.chmodR ino mode).1 ≠ 0 → (A.chmodR ino mode).2 = A) ∧ (A.chmodR ino mode).2.qi = A.qi ∧ (A.chmodR ino mode).2.qb = A.qb := by
  unfold AT.chmodR
  by_cases he : A.chmodE ino mode = 0
  case neg => rw [if_neg he]; exact ⟨h, hb, fun _ => rfl, rfl, rfl⟩
  rw [if_pos he]
  unfold AT.chmodE at he
  obtain ⟨_, he⟩ := AT.firstE_z he
  obtain ⟨h1, he⟩ := AT.firstE_z he
  obtain ⟨h2, _⟩ := AT.firstE_z he
  have hm : 0 ≤ mode ∧ mode ≤ 511 := by
    by_cases hm : 0 ≤ mode ∧ mode ≤ 511
    · exact hm
    · rw [if_neg hm] at h1; cases h1
  cases hn : A.get ino with
  | none => rw [hn] at h2; simp at h2
  | some n =>
    have e1 : A.chmoded ino mode = { A.set ino { n with mode := mode } with ub := A.ub } := by unfold AT.chmoded AT.mod; rw [hn]; rfl
    rw [e1]
    obtain ⟨a, b⟩ := h.mod hb hn (n' := { n with mode := mode }) (ub := A.ub) rfl rfl rfl (likeE_mode (h.like ino n hn) hm) rfl (by show A.ub = A.ub + n.data.size - n.data.size; omega) h.bq.1
    exact ⟨a, b, fun h => absurd rfl h, rfl, rfl⟩
/-! ### Unlink -/
theorem newT_ok {qi qb : Int} (h : newOk qi qb = true) : Inv (newT qi qb) ∧ Bd 1 (newT qi qb) := by
  have hq : 1 ≤ qi ∧ qi ≤ 1048576 ∧ 0 ≤ qb ∧ qb ≤ 1073741824 := by
    unfold newOk at h
    simp at h
    omega
  have hg : ∀ i n, (newT qi qb).get i = some n → i = 1 ∧ n = ⟨2, 493, ⟨⟨[]⟩⟩, 1, 1, []⟩ := by
    intro i n hn
    have hn : lk i [((1 : Int), (⟨2, 493, ⟨⟨[]⟩⟩, 1, 1, []⟩ : AN))] = some n := hn
    simp only [lk] at hn
    cases hb : (i == 1) with
    | true => rw [hb] at hn; cases hn; exact ⟨by simpa using hb, rfl⟩
    | false => rw [hb] at hn; cases hn
  refine ⟨⟨?_, ?_, ?_, ?_, ?_, ?_, ?_, ?_, ?_, rfl, rfl, ⟨hq.1, hq.2.1⟩, ⟨hq.2.2.1, hq.2.2.2⟩⟩, ⟨?_, ?_, ?_⟩⟩
  · show [(1 : Int)].Nodup; simp
  · intro i n hn; obtain ⟨_, rfl⟩ := hg i n hn; exact List.nodup_nil
  · exact ⟨_, rfl, rfl, rfl⟩
  · intro i n hn; obtain ⟨rfl, rfl⟩ := hg i n hn; show (1 : Int) ≤ 1 ∧ (1 : Int) ≤ 1; omega
  · intro i n hn; obtain ⟨_, rfl⟩ := hg i n hn; rfl
  · intro i n hn; obtain ⟨_, rfl⟩ := hg i n hn; intro _; rfl
  · intro i n s j hn hs; obtain ⟨_, rfl⟩ := hg i n hn; simp [lk] at hs
  · intro i n hn h1; exact absurd (hg i n hn).1 h1
  · rintro i ⟨n, hn, _⟩; obtain ⟨rfl, _⟩ := hg i n hn; exact ⟨1, rfl⟩
  · show (1 : Int) ≤ (1 : Nat); omega
  · intro i n hn; obtain ⟨_, rfl⟩ := hg i n hn; show (1 : Int) ≤ (1 : Nat); omega
  · intro i n hn; obtain ⟨_, rfl⟩ := hg i n hn; show (0 : Nat) ≤ 1; omega
end Go.Wk

/- LAYING A TREE that may be, where there is room: it lies there, just so. -/
namespace Go.Wk
open Go Go.HL
mutual
def Tr.count : Tr → Nat
  | .mk _ _ _ _ kids => 1 + Tr.countRow kids
def Tr.countRow : List Tr → Nat
  | [] => 0
  | t :: r => Tr.count t + Tr.countRow r
end
mutual
def Tr.bytes : Tr → Nat
  | .mk _ _ _ d kids => d.size + Tr.bytesRow kids
def Tr.bytesRow : List Tr → Nat
  | [] => 0
  | t :: r => Tr.bytes t + Tr.bytesRow r
end
theorem Tr.count_eq (t : Tr) : t.count = 1 + Tr.countRow t.kids := by obtain ⟨n, k, e, d, kids⟩ := t; simp only [Tr.count, Tr.kids]
theorem Tr.bytes_eq (t : Tr) : t.bytes = t.data.size + Tr.bytesRow t.kids := by obtain ⟨n, k, e, d, kids⟩ := t; simp only [Tr.bytes, Tr.kids, Tr.data]
theorem Tr.may_eq (t : Tr) : t.may = if t.kind = 1 then t.kids.isEmpty else if t.kind = 3 then t.kids.isEmpty && (!t.exec && linkOk t.data) else if t.kind = 2 then !t.exec && (sEq t.data ⟨⟨[]⟩⟩ && Tr.mayRow none t.kids) else false := by
  obtain ⟨n, k, e, d, kids⟩ := t
  rw [Tr.may]; rfl
theorem fold_gr (f : Tr → Int) : ∀ (l : List Tr) (d : Int), d ≤ l.foldl (fun d x => gr d (f x)) d ∧ ∀ x ∈ l, f x ≤ l.foldl (fun d x => gr d (f x)) d := by
  intro l
  induction l with
  | nil => intro d; exact ⟨Int.le_refl _, by simp⟩
  | cons y r ih =>
    intro d
    simp only [List.foldl_cons]
    obtain ⟨h1, h2⟩ := ih (gr d (f y))
    have hg : d ≤ gr d (f y) ∧ f y ≤ gr d (f y) := by unfold gr; split <;> omega
    refine ⟨by omega, fun x hx => ?_⟩
    rcases List.mem_cons.1 hx with e | e
    · subst e; omega
    · exact h2 x e
theorem deep_stays : ∀ (m : Nat) (t : Tr), t.deep m < m → t.deep (m + 1) = t.deep m := by
  intro m
  induction m with
  | zero => intro t h; simp [Tr.deep] at h
  | succ m ih =>
    intro t h
    unfold Tr.deep at h ⊢
    by_cases hk : t.kind ≠ 2
    · rw [if_pos (.inl hk), if_pos (.inl hk)]
    · by_cases hm : m = 0
      · subst hm; rw [if_pos (.inr rfl)] at h; omega
      · have c1 : ¬ (t.kind ≠ 2 ∨ m = 0) := by rintro (h | h); exact hk h; exact hm h
        have c2 : ¬ (t.kind ≠ 2 ∨ m + 1 = 0) := by rintro (h | h); exact hk h; omega
        rw [if_neg c1] at h
        rw [if_neg c2, if_neg c1]
        have hx : ∀ x ∈ t.kids, Tr.deep (m + 1) x = Tr.deep m x := by
          intro x hx
          have := (fold_gr (fun x => 1 + Tr.deep m x) t.kids 1).2 x hx
          exact ih x (by omega)
        have key : ∀ (l : List Tr) (d : Int), (∀ x ∈ l, Tr.deep (m + 1) x = Tr.deep m x) → l.foldl (fun d x => gr d (1 + Tr.deep (m + 1) x)) d = l.foldl (fun d x => gr d (1 + Tr.deep m x)) d := by
          intro l
          induction l with
          | nil => intro d _; rfl
          | cons y r ihr => intro d h; simp only [List.foldl_cons]; rw [h y (List.mem_cons_self ..)]; exact ihr _ fun x hx => h x (List.mem_cons_of_mem _ hx)
        exact key t.kids 1 hx
theorem kid_shallow {t x : Tr} (hk : t.kind = 2) (h : t.tooDeep = false) (hx : x ∈ t.kids) : x.tooDeep = false := by
  unfold Tr.tooDeep at h ⊢
  simp only [decide_eq_false_iff_not] at h ⊢
  have h2 : t.deep 14 = t.kids.foldl (fun d x => gr d (1 + Tr.deep 13 x)) 1 := by
    rw [Tr.deep, if_neg (by rintro (h | h); exact h hk; omega)]
  have := (fold_gr (fun x => 1 + Tr.deep 13 x) t.kids 1).2 x hx
  rw [h2] at h
  rw [deep_stays 13 x (by omega)]
  omega
/-- kids that may be -/
theorem may_kids {t : Tr} (h : t.may = true) : t.kids = [] ∨ (t.kind = 2 ∧ Tr.mayRow none t.kids = true) := by
  rw [Tr.may_eq] at h
  by_cases k1 : t.kind = 1
  · rw [if_pos k1] at h; exact .inl (List.isEmpty_iff.1 h)
  · rw [if_neg k1] at h
    by_cases k3 : t.kind = 3
    · rw [if_pos k3] at h; simp only [Bool.and_eq_true] at h; exact .inl (List.isEmpty_iff.1 h.1)
    · rw [if_neg k3] at h
      by_cases k2 : t.kind = 2
      · rw [if_pos k2] at h; simp only [Bool.and_eq_true] at h; exact .inr ⟨k2, h.2.2⟩
      · rw [if_neg k2] at h; cases h
theorem mayRow_all : ∀ {l : List Tr} {p : Option ByteArray}, Tr.mayRow p l = true → ∀ x ∈ l, mayName x.name = true ∧ x.may = true := by
  intro l
  induction l with
  | nil => intro p _ x hx; simp at hx
  | cons y r ih =>
    intro p h x hx
    simp only [Tr.mayRow, Bool.and_eq_true] at h
    rcases List.mem_cons.1 hx with e | e
    · subst e; exact ⟨h.1, h.2.1⟩
    · exact ih h.2.2.2 x e
theorem may_size : ∀ t : Tr, t.may = true → t.tooDeep = false → t.size = ((t.count : Int), (t.bytes : Int)) := by
  refine Tr.ind ?_
  intro t ih hm hd
  have hsz : t.size = Tr.sizeRow t.kids (1, (t.data.size : Int)) := by obtain ⟨n, k, e, d, kids⟩ := t; simp only [Tr.size, Tr.kids, Tr.data]
  have key : ∀ (l : List Tr) (a b : Nat), (∀ x ∈ l, x ∈ t.kids) → Tr.sizeRow l ((a : Int), (b : Int)) = (((a + Tr.countRow l : Nat) : Int), ((b + Tr.bytesRow l : Nat) : Int)) := by
    intro l
    induction l with
    | nil => intro a b _; simp [Tr.sizeRow, Tr.countRow, Tr.bytesRow]
    | cons x r ihl =>
      intro a b hx
      have hx0 := hx x (List.mem_cons_self ..)
      rcases may_kids hm with h0 | ⟨hk, hrow⟩
      · rw [h0] at hx0; simp at hx0
      · have hsh := kid_shallow hk hd hx0
        have := ih x hx0 (mayRow_all hrow x hx0).2 hsh
        simp only [Tr.sizeRow, hsh, Bool.false_eq_true, if_false, this, Tr.countRow, Tr.bytesRow]
        have h2 := ihl (a + x.count) (b + x.bytes) (fun y hy => hx y (List.mem_cons_of_mem _ hy))
        simp only [Int.natCast_add] at h2 ⊢
        rw [h2, Int.add_assoc, Int.add_assoc]
  have := key t.kids 1 t.data.size (fun _ h => h)
  rw [hsz, Tr.count_eq, Tr.bytes_eq]
  exact this
/-! ### What lies there -/
mutual
def Lies (A : AT) : Tr → Int → Prop
  | .mk _ k e d kids, i => ∃ n, A.get i = some n ∧ n.kind = k ∧ n.mode = modeOf k e ∧ n.data = d ∧ n.links = 1 ∧ keysL n.ents = kids.map Tr.name ∧ LiesRow A i n.ents kids
def LiesRow (A : AT) (i : Int) (es : List (ByteArray × Int)) : List Tr → Prop
  | [] => True
  | t :: r => (∃ j, i < j ∧ lk t.name es = some j ∧ Lies A t j) ∧ LiesRow A i es r
end
theorem lies_iff {A : AT} {t : Tr} {i : Int} : Lies A t i ↔ ∃ n, A.get i = some n ∧ n.kind = t.kind ∧ n.mode = modeOf t.kind t.exec ∧ n.data = t.data ∧ n.links = 1 ∧ keysL n.ents = t.kids.map Tr.name ∧ LiesRow A i n.ents t.kids := by
  obtain ⟨nm, k, e, d, kids⟩ := t
  simp only [Lies, Tr.kind, Tr.exec, Tr.data, Tr.kids]
theorem liesRow_iff {A : AT} {i : Int} {es : List (ByteArray × Int)} : ∀ {l : List Tr}, LiesRow A i es l ↔ ∀ x ∈ l, ∃ j, i < j ∧ lk x.name es = some j ∧ Lies A x j := by
  intro l
  induction l with
  | nil => simp [LiesRow]
  | cons y r ih => simp only [LiesRow, ih, List.mem_cons, forall_eq_or_imp]
theorem Lies.frame {A A' : AT} : ∀ (t : Tr) (i : Int), Lies A t i → (∀ k n, i ≤ k → A.get k = some n → A'.get k = some n) → Lies A' t i := by
  refine Tr.ind ?_
  intro t ih i h hf
  rw [lies_iff] at h ⊢
  obtain ⟨n, h1, h2, h3, h4, h5, h6, h7⟩ := h
  refine ⟨n, hf i n (Int.le_refl _) h1, h2, h3, h4, h5, h6, ?_⟩
  rw [liesRow_iff] at h7 ⊢
  intro x hx
  obtain ⟨j, q1, q2, q3⟩ := h7 x hx
  exact ⟨j, q1, q2, ih x hx j q3 fun k n hk hn => hf k n (by omega) hn⟩
theorem leB_refl (x : List UInt8) : leB x x = true := (leB_iff x x).2 (List.le_refl x)
theorem ltB_trans {a b c : ByteArray} (h1 : ltB a b = true) (h2 : ltB b c = true) : ltB a c = true := by
  unfold ltB at *
  simp only [Bool.not_eq_true'] at *
  rw [← Bool.not_eq_true, leB_iff] at *
  intro h
  have hbc : b.data.toList ≤ c.data.toList := (List.le_total _ _).resolve_right h2
  exact h1 (List.le_trans hbc h)
theorem ltB_irrefl (a : ByteArray) : ltB a a = false := by unfold ltB; rw [leB_refl]; rfl
theorem mayRow_lt : ∀ {l : List Tr} {p : ByteArray}, Tr.mayRow (some p) l = true → ∀ x ∈ l, ltB p x.name = true := by
  intro l
  induction l with
  | nil => intro p _ x hx; simp at hx
  | cons y r ih =>
    intro p h x hx
    simp only [Tr.mayRow, Bool.and_eq_true, above] at h
    rcases List.mem_cons.1 hx with e | e
    · subst e; exact h.2.2.1
    · exact ltB_trans h.2.2.1 (ih h.2.2.2 x e)
theorem mayName_named {s : ByteArray} (h : mayName s = true) : namedE s = 0 := by
  unfold mayName at h
  simp only [Bool.and_eq_true, decide_eq_true_eq, Bool.not_eq_true'] at h
  obtain ⟨h1, h2, h3, h4, h5⟩ := h
  unfold namedE
  have h0 : sEq s ⟨⟨[]⟩⟩ = false := by
    refine sEq_false ?_
    intro e; rw [e] at h1; exact absurd h1 (by decide)
  rw [if_neg (by omega), h0, h3, h4, h5]; rfl
theorem may_like {t : Tr} (h : t.may = true) : likeE t.kind (modeOf t.kind t.exec) t.data = 0 := by
  rw [Tr.may_eq] at h
  unfold likeE kindOkE modeOf
  by_cases k1 : t.kind = 1
  · rw [k1]; cases t.exec <;> rfl
  · rw [if_neg k1] at h
    by_cases k3 : t.kind = 3
    · rw [if_pos k3] at h
      simp only [Bool.and_eq_true, Bool.not_eq_true'] at h
      rw [k3, h.2.1]
      simp [lk, h.2.2]
    · rw [if_neg k3] at h
      by_cases k2 : t.kind = 2
      · rw [if_pos k2] at h
        simp only [Bool.and_eq_true, Bool.not_eq_true'] at h
        rw [k2, h.1]
        simp [lk, h.2.1]
      · rw [if_neg k2] at h; cases h
theorem room_of {A : AT} (hI : Inv A) {n : Nat} (h1 : A.ui + 1 ≤ A.qi) (h2 : A.ub + n ≤ A.qb) : A.roomE 1 (n : Int) = 0 := by
  have q1 := hI.uq
  have q2 := hI.bq
  have q3 := hI.ui_pos
  have q4 := hI.ub_pos
  unfold AT.roomE
  rw [wr_id (by omega) (by omega), wr_id (by omega) (by omega), if_pos ⟨h1, h2⟩]
/-- what laying gives -/
structure Laid (A : AT) (dir : Int) (name : ByteArray) (t : Tr) (r : Int × AT) : Prop where
  ok : r.1 = 0
  ui : r.2.ui = A.ui + t.count
  ub : r.2.ub = A.ub + t.bytes
  last : r.2.last = A.last + t.count
  lies : Lies r.2 t (A.last + 1)
  atDir : ∀ nd, A.get dir = some nd → r.2.get dir = some { nd with ents := up name (A.last + 1) nd.ents }
  old : ∀ k n, A.get k = some n → k ≠ dir → r.2.get k = some n
theorem lay_done : ∀ (t : Tr) (A : AT) (N : Nat) (dir : Int) (name : ByteArray), Inv A → Bd N A → N + t.total < 4611686018427387904 → (∀ d, A.isDir dir → A.deep 12 dir = some d → d + t.levels ≤ 12) → A.isDir dir → namedE name = 0 → A.find dir name = none → t.may = true → A.ui + t.count ≤ A.qi → A.ub + t.bytes ≤ A.qb →
    Laid A dir name t (AT.lay dir name t A) := by
  refine Tr.ind ?_
  intro t ih A N dir name hI hB hN hd hdir hnm hfn hmay hq1 hq2
  have htot : 1 + t.data.size + Tr.totalRow t.kids ≤ t.total := by obtain ⟨n, k, e, d, kids⟩ := t; simp only [Tr.total, Tr.kids, Tr.data]; omega
  have hce := t.count_eq
  have hbe := t.bytes_eq
  have hl : A.last < 4611686018427387904 := by have := hB.last; omega
  have hp := hI.last_pos
  have u1 := hI.ui_pos
  have u2 := hI.ub_pos
  have u3 := hI.uq
  have u4 := hI.bq
  have he : A.makeE dir name t.kind (modeOf t.kind t.exec) t.data = 0 := makeE_of hdir hnm (may_like hmay) hfn (room_of hI (by omega) (by omega))
  obtain ⟨h1, h2, h3⟩ := makeR_ok (dir := dir) (name := name) (kind := t.kind) (mode := modeOf t.kind t.exec) (data := t.data) hI hB (by omega) (by omega) (made_deep hI hd)
  have hrow := made_row hI hl he hd
  obtain ⟨nd, hnd, hnd2⟩ := hdir
  have hG := made_get (name := name) (kind := t.kind) (mode := modeOf t.kind t.exec) (data := t.data) hI hl hnd
  have hE := made_eq (name := name) (kind := t.kind) (mode := modeOf t.kind t.exec) (data := t.data) hI hl hnd
  have hdl := hI.low dir nd hnd
  rw [lay_eq]
  rw [makeR_z he] at h1 h2 h3 ⊢
  rw [wr_id (x := A.last + 1) (by omega) (by omega)]
  simp only at *
  have hA1 : (A.made dir name t.kind (modeOf t.kind t.exec) t.data).ui = A.ui + 1 ∧ (A.made dir name t.kind (modeOf t.kind t.exec) t.data).ub = A.ub + t.data.size ∧ (A.made dir name t.kind (modeOf t.kind t.exec) t.data).last = A.last + 1 ∧ (A.made dir name t.kind (modeOf t.kind t.exec) t.data).qi = A.qi ∧ (A.made dir name t.kind (modeOf t.kind t.exec) t.data).qb = A.qb := by
    rw [hE]
    exact ⟨wr_id (by omega) (by omega), wr_id (by omega) (by omega), rfl, rfl, rfl⟩
  have key : ∀ (l dn : List Tr) (A1 : AT) (M : Nat) (es : List (ByteArray × Int)), t.kids = dn ++ l → Inv A1 → Bd M A1 → M + Tr.totalRow l ≤ N + t.total → RowD A1 (A.last + 1) l → Grows A A1 →
      A1.get (A.last + 1) = some { newN dir t.kind (modeOf t.kind t.exec) t.data with ents := es } → keysL es = dn.map Tr.name → LiesRow A1 (A.last + 1) es dn → A.last + 1 ≤ A1.last →
      A1.last + Tr.countRow l = A.last + t.count → A1.ui + Tr.countRow l = A.ui + t.count → A1.ub + Tr.bytesRow l = A.ub + t.bytes → A1.qi = A.qi → A1.qb = A.qb →
      (∀ k n, A.get k = some n → k ≠ dir → A1.get k = some n) → A1.get dir = some { nd with ents := up name (A.last + 1) nd.ents } →
      (∃ p, Tr.mayRow p l = true) → (∀ x ∈ dn, ∀ y ∈ l, ltB x.name y.name = true) → (l ≠ [] → t.kind = 2) → Laid A dir name t (AT.layRow (A.last + 1) l (0, A1)) := by
    intro l
    induction l with
    | nil =>
      intro dn A1 M es e1 a1 a2 a3 a4 a5 a6 a7 a8 a9 a10 a11 a12 a13 a14 a15 a16 a17 a18 a19
      simp only [AT.layRow, Tr.countRow, Tr.bytesRow, List.append_nil] at *
      subst e1
      refine ⟨rfl, by show A1.ui = _; omega, by show A1.ub = _; omega, by show A1.last = _; omega, ?_, ?_, a15⟩
      · rw [lies_iff]
        exact ⟨_, a6, rfl, rfl, rfl, rfl, a7, a8⟩
      · intro nd' hnd'; rw [hnd] at hnd'; cases hnd'; exact a16
    | cons x r ihl =>
      intro dn A1 M es e1 a1 a2 a3 a4 a5 a6 a7 a8 a9 a10 a11 a12 a13 a14 a15 a16 a17 a18 a19
      simp only [Tr.countRow, Tr.bytesRow, Tr.totalRow] at *
      obtain ⟨p, hp'⟩ := a17
      simp only [Tr.mayRow, Bool.and_eq_true] at hp'
      have hk2 := a19 (by simp)
      have hxin : x ∈ t.kids := by rw [e1]; simp
      have hdirI : A1.isDir (A.last + 1) := ⟨_, a6, hk2⟩
      have hnotin : x.name ∉ keysL es := by
        rw [a7]
        intro hm
        obtain ⟨y, hy, hyn⟩ := List.mem_map.1 hm
        have := a18 y hy x (List.mem_cons_self ..)
        rw [hyn, ltB_irrefl] at this; cases this
      have hlkn : lk x.name es = none := lk_none_iff.2 hnotin
      have hfx : A1.find (A.last + 1) x.name = none := by unfold AT.find; rw [a6]; exact hlkn
      have hc1 := Tr.count_eq x
      have L := ih x hxin A1 M (A.last + 1) x.name a1 a2 (by omega) a4.head hdirI (mayName_named hp'.1) hfx hp'.2.1 (by omega) (by omega)
      obtain ⟨b1, b2, b3⟩ := lay_ok x A1 M (A.last + 1) x.name a1 a2 (by omega) a4.head
      rw [AT.layRow, if_pos rfl]
      generalize hres : AT.lay (A.last + 1) x.name x A1 = res at *
      obtain ⟨re, A2⟩ := res
      have h0 : re = 0 := L.ok
      subst h0
      have L2 : A2.ui = A1.ui + x.count := L.ui
      have L3 : A2.ub = A1.ub + x.bytes := L.ub
      have L4 : A2.last = A1.last + x.count := L.last
      have L5 : Lies A2 x (A1.last + 1) := L.lies
      have L6 : A2.get (A.last + 1) = some { newN dir t.kind (modeOf t.kind t.exec) t.data with ents := up x.name (A1.last + 1) es } := L.atDir _ a6
      have L7 : ∀ k n, A1.get k = some n → k ≠ A.last + 1 → A2.get k = some n := L.old
      have hgr2 : Grows A1 A2 := b3
      refine ihl (dn ++ [x]) A2 (M + x.total) (up x.name (A1.last + 1) es) (by rw [e1]; simp) b1 b2 (by omega) (a4.next a1 b3) (a5.trans b3) L6 ?_ ?_ (by omega) (by omega) (by omega) (by omega) (by rw [hgr2.qi]; exact a13) (by rw [hgr2.qb]; exact a14) ?_ ?_ ⟨some x.name, hp'.2.2.2⟩ ?_ (fun _ => hk2)
      · rw [keys_up_none hlkn, a7]; simp
      · rw [liesRow_iff] at a8 ⊢
        intro z hz
        rcases List.mem_append.1 hz with hz | hz
        · obtain ⟨j, q1, q2, q3⟩ := a8 z hz
          refine ⟨j, q1, ?_, q3.frame z j fun k n hk hn => L7 k n hn (by omega)⟩
          rw [lk_up]
          have : (z.name == x.name) = false := by
            cases hb : (z.name == x.name) with
            | false => rfl
            | true => rw [eq_of_beq hb, hlkn] at q2; cases q2
          rw [this]; exact q2
        · simp at hz; subst hz
          exact ⟨A1.last + 1, by omega, by rw [lk_up]; simp, L5⟩
      · intro k n hk hkd
        refine L7 k n (a15 k n hk hkd) ?_
        have := (hI.low k n hk).2; omega
      · exact L7 dir _ a16 (by omega)
      · intro y hy z hz
        rcases List.mem_append.1 hy with hy | hy
        · exact a18 y hy z (List.mem_cons_of_mem _ hz)
        · simp at hy; subst hy; exact mayRow_lt hp'.2.2.2 z hz
  have hne : A.last + 1 ≠ dir := by omega
  refine key t.kids [] (A.made dir name t.kind (modeOf t.kind t.exec) t.data) (N + 1) [] rfl h1 h2 (by omega) hrow h3 ?_ rfl ?_ (by rw [hA1.2.2.1]; omega) (by rw [hA1.2.2.1]; omega) (by rw [hA1.1]; omega) (by rw [hA1.2.1]; omega) hA1.2.2.2.1 hA1.2.2.2.2 ?_ ?_ ?_ (by simp) ?_
  · rw [hG, if_neg hne, if_pos rfl]; rfl
  · simp [LiesRow]
  · intro k n hk hkd
    rw [hG, if_neg hkd]
    have := (hI.low k n hk).2
    rw [if_neg (by omega)]; exact hk
  · rw [hG, if_pos rfl]
  · rcases may_kids hmay with h0 | ⟨_, h0⟩
    · exact ⟨none, by rw [h0]; rfl⟩
    · exact ⟨none, h0⟩
  · intro hne
    rcases may_kids hmay with h0 | ⟨h0, _⟩
    · exact absurd h0 hne
    · exact h0
end Go.Wk

/- A FILE SYSTEM's OPERATIONS keep what always holds; what fails changes nothing. -/
namespace Go.Wk
open Go Go.HL
structure OpOk (N : Nat) (A : AT) (r : Int × AT) : Prop where
  inv : Inv r.2
  bd : Bd N r.2
  same : r.1 ≠ 0 → r.2 = A
  qi : r.2.qi = A.qi
  qb : r.2.qb = A.qb
variable {A : AT} {N : Nat}
theorem OpOk.self (h : Inv A) (hb : Bd N A) (e : Int) : OpOk N A (e, A) := ⟨h, hb, fun _ => rfl, rfl, rfl⟩
theorem OpOk.mono {M : Nat} {r : Int × AT} (h : OpOk N A r) (hl : N ≤ M) : OpOk M A r := ⟨h.inv, h.bd.mono hl, h.same, h.qi, h.qb⟩
theorem make_op (h : Inv A) (hb : Bd N A) (hN : N < 4611686018427387904) {dir : Int} {name : ByteArray} {kind mode : Int} {data : ByteArray} (hs : data.size < 4611686018427387904) (hdp : A.isDir dir → kind = 2 → ∃ d, A.deep 11 dir = some d) : OpOk (N + 1) A ((A.makeR dir name kind mode data).2.1, (A.makeR dir name kind mode data).2.2) := by
  obtain ⟨h1, h2, h3⟩ := makeR_ok (dir := dir) (name := name) (kind := kind) (mode := mode) (data := data) h hb hN hs hdp
  refine ⟨h1, h2, fun he => ?_, h3.qi, h3.qb⟩
  by_cases he' : A.makeE dir name kind mode data = 0
  · rw [makeR_z he'] at he; exact absurd rfl he
  · rw [makeR_n he']
theorem mkdirF_ok (h : Inv A) (hb : Bd N A) (hN : N < 4611686018427387904) (cwd path : ByteArray) : OpOk (N + 1) A (A.mkdirF cwd path) := by
  unfold AT.mkdirF
  simp only
  by_cases h1 : (A.freshP cwd path).1 ≠ 0
  · rw [if_pos h1]; exact OpOk.self h (hb.mono (by omega)) _
  rw [if_neg h1]
  by_cases h2 : (A.deep 13 (A.freshP cwd path).2.dir).getD 0 ≥ 12
  · rw [if_pos h2]; exact OpOk.self h (hb.mono (by omega)) _
  rw [if_neg h2]
  refine make_op h hb hN (by decide) fun hd _ => ?_
  obtain ⟨d, hd13, hd12, _⟩ := h.deep13 hd
  rw [hd13] at h2
  simp only [Option.getD_some] at h2
  exact ⟨d, deep_low hd12 11 (by omega)⟩
theorem symlinkF_ok (h : Inv A) (hb : Bd N A) (hN : N < 4611686018427387904) (cwd target path : ByteArray) : OpOk (N + 1) A (A.symlinkF cwd target path) := by
  unfold AT.symlinkF
  simp only
  cases hl : linkOk target with
  | false => exact OpOk.self h (hb.mono (by omega)) _
  | true =>
    simp only [Bool.true_eq_false, if_false]
    by_cases h1 : (A.freshP cwd path).1 ≠ 0
    · rw [if_pos h1]; exact OpOk.self h (hb.mono (by omega)) _
    rw [if_neg h1]
    refine make_op h hb hN ?_ (fun _ hk => by cases hk)
    unfold linkOk at hl
    simp only [Bool.and_eq_true, decide_eq_true_eq] at hl
    omega
theorem writeF_ok (h : Inv A) (hb : Bd N A) (hN : N < 4611686018427387904) (cwd path data : ByteArray) (more : Bool) (hs : data.size < 2305843009213693952) : OpOk (N + 1) A (A.writeF cwd path data more) := by
  unfold AT.writeF
  simp only
  by_cases h1 : (A.locate cwd path true).1 ≠ 0
  · rw [if_pos h1]; exact OpOk.self h (hb.mono (by omega)) _
  rw [if_neg h1]
  by_cases h2 : (A.locate cwd path true).2.there = false
  · rw [if_pos h2]; exact make_op h hb hN (by omega) (fun _ hk => by cases hk)
  rw [if_neg h2]
  by_cases h3 : A.kind (A.locate cwd path true).2.ino = 2
  · rw [if_pos h3]; exact OpOk.self h (hb.mono (by omega)) _
  rw [if_neg h3]
  obtain ⟨a, b, c, d, e⟩ := writeR_ok h hb (A.locate cwd path true).2.ino (if more then A.data (A.locate cwd path true).2.ino ++ data else data) (by
    have hq := h.bq
    cases more with
    | false => simp only [Bool.false_eq_true, if_false]; omega
    | true =>
      simp only [if_true, ByteArray.size_append]
      have : (A.data (A.locate cwd path true).2.ino).size ≤ 1073741824 := by
        unfold AT.data
        cases hg : A.get (A.locate cwd path true).2.ino with
        | none => decide
        | some n => have := h.size_le hg; show n.data.size ≤ _; omega
      omega)
  exact ⟨a, b.mono (by omega), c, d, e⟩
theorem chmodF_ok (h : Inv A) (hb : Bd N A) (cwd path : ByteArray) (mode : Int) : OpOk N A (A.chmodF cwd path mode) := by
  unfold AT.chmodF
  simp only
  split
  · exact OpOk.self h hb _
  split
  · exact OpOk.self h hb _
  obtain ⟨a, b, c, d, e⟩ := chmodR_ok h hb (A.with_ cwd path true).2.1 mode
  exact ⟨a, b, c, d, e⟩
theorem check_z {t : Tr} (h : t.check = 0) : t.tooDeep = false ∧ t.name = ⟨⟨[]⟩⟩ ∧ t.may = true ∧ t.sizeT = ((t.count : Int), (t.bytes : Int)) ∧ t.count ≤ 2000 ∧ t.bytes ≤ 100000 := by
  unfold Tr.check at h
  cases h1 : t.tooDeep with
  | true => rw [h1] at h; simp at h
  | false =>
    rw [h1] at h
    simp only [Bool.false_eq_true, if_false] at h
    by_cases h2 : sEq t.name ⟨⟨[]⟩⟩ = false ∨ t.may = false
    · rw [if_pos h2] at h; cases h
    rw [if_neg h2] at h
    have hm : t.may = true := by
      cases hm : t.may with
      | true => rfl
      | false => exact absurd (.inr hm) h2
    have hn : t.name = ⟨⟨[]⟩⟩ := by
      cases hn : sEq t.name ⟨⟨[]⟩⟩ with
      | true => exact sEq_iff.1 hn
      | false => exact absurd (.inl hn) h2
    have hs : t.sizeT = ((t.count : Int), (t.bytes : Int)) := by
      unfold Tr.sizeT; rw [h1]; simp only [Bool.false_eq_true, if_false]; exact may_size t hm h1
    by_cases h3 : t.sizeT.1 > 2000 ∨ t.sizeT.2 > 100000
    · rw [if_pos h3] at h; cases h
    rw [hs] at h3
    simp only at h3
    refine ⟨rfl, hn, hm, hs, ?_, ?_⟩ <;> omega
theorem freshP_place (hI : Inv A) {cwd path : ByteArray} (h : (A.freshP cwd path).1 = 0) : PlOk A (A.freshP cwd path).2 ∧ (A.freshP cwd path).2.there = false := by
  unfold AT.freshP at h ⊢
  simp only at h ⊢
  by_cases he : (A.locate cwd path false).1 = 0
  case neg => rw [if_pos he] at h; exact absurd h he
  rw [if_neg (by simpa using he)] at h ⊢
  cases ht : (A.locate cwd path false).2.there with
  | true => rw [ht] at h; simp at h
  | false => exact ⟨locate_place hI _ _ _ he, ht⟩
/-- Lay: either nothing, or all -/
theorem layF_cases (h : Inv A) (hb : Bd N A) (path : ByteArray) (t : Tr) (hN : N + t.total < 4611686018427387904) : ((A.layF path t).1 ≠ 0 ∧ (A.layF path t).2 = A) ∨
    (t.check = 0 ∧ (A.freshP ⟨⟨[47]⟩⟩ path).1 = 0 ∧ A.layF path t = AT.lay (A.freshP ⟨⟨[47]⟩⟩ path).2.dir (A.freshP ⟨⟨[47]⟩⟩ path).2.name t A ∧ (∀ d, A.isDir (A.freshP ⟨⟨[47]⟩⟩ path).2.dir → A.deep 12 (A.freshP ⟨⟨[47]⟩⟩ path).2.dir = some d → d + t.levels ≤ 12) ∧
      Laid A (A.freshP ⟨⟨[47]⟩⟩ path).2.dir (A.freshP ⟨⟨[47]⟩⟩ path).2.name t (A.layF path t)) := by
  generalize hr : A.layF path t = r
  unfold AT.layF at hr
  simp only at hr
  by_cases h1 : t.check ≠ 0
  · rw [if_pos h1] at hr; subst hr; exact .inl ⟨h1, rfl⟩
  rw [if_neg h1] at hr
  by_cases h2 : (A.freshP ⟨⟨[47]⟩⟩ path).1 ≠ 0
  · rw [if_pos h2] at hr; subst hr; exact .inl ⟨h2, rfl⟩
  rw [if_neg h2] at hr
  have hc : t.check = 0 := by simpa using h1
  have hf : (A.freshP ⟨⟨[47]⟩⟩ path).1 = 0 := by simpa using h2
  obtain ⟨hp, ht⟩ := freshP_place h hf
  have hnn := hp.notThere ht
  obtain ⟨hnm, hfd⟩ := hp.named hnn
  rw [ht] at hfd
  obtain ⟨d, hd13, hd12, _⟩ := h.deep13 hp.1
  rw [hd13] at hr
  simp only [Option.getD_some] at hr
  by_cases h3 : d + t.levels > 12
  · rw [if_pos h3] at hr; subst hr; exact .inl ⟨(by show (3 : Int) ≠ 0; decide), rfl⟩
  rw [if_neg h3] at hr
  by_cases h4 : A.ui + t.sizeT.1 > A.qi ∨ A.ub + t.sizeT.2 > A.qb
  · rw [if_pos h4] at hr; subst hr; exact .inl ⟨(by show (10 : Int) ≠ 0; decide), rfl⟩
  rw [if_neg h4] at hr
  obtain ⟨c1, c2, c3, c4, c5, c6⟩ := check_z hc
  rw [c4] at h4
  simp only at h4
  have hdeep : ∀ d, A.isDir (A.freshP ⟨⟨[47]⟩⟩ path).2.dir → A.deep 12 (A.freshP ⟨⟨[47]⟩⟩ path).2.dir = some d → d + t.levels ≤ 12 := by
    intro d' _ hd'
    rw [hd12] at hd'; cases hd'; omega
  have L := lay_done t A N _ _ h hb hN hdeep hp.1 hnm hfd c3 (by omega) (by omega)
  rw [hr] at L
  exact .inr ⟨hc, hf, hr.symm, hdeep, L⟩
theorem layF_ok (h : Inv A) (hb : Bd N A) (path : ByteArray) (t : Tr) (hN : N + t.total < 4611686018427387904) : OpOk (N + t.total) A (A.layF path t) := by
  rcases layF_cases h hb path t hN with ⟨h1, h2⟩ | ⟨_, _, h3, h4, h5⟩
  · refine ⟨by rw [h2]; exact h, by rw [h2]; exact hb.mono (by omega), fun _ => h2, by rw [h2], by rw [h2]⟩
  · obtain ⟨a, b, c⟩ := lay_ok t A N (A.freshP ⟨⟨[47]⟩⟩ path).2.dir (A.freshP ⟨⟨[47]⟩⟩ path).2.name h hb hN h4
    rw [← h3] at a b c
    exact ⟨a, b, fun he => absurd h5.ok he, c.qi, c.qb⟩
end Go.Wk

/- PATHS THAT ARE GONE along directories; what lies at them. -/
namespace Go.Wk
open Go Go.HL
theorem splitL_app {c : UInt8} {b : List UInt8} : ∀ a : List UInt8, splitL c (a ++ c :: b) = splitL c a ++ splitL c b := by
  intro a
  induction a with
  | nil => simp [splitL]
  | cons x a ih =>
    simp only [List.cons_append, splitL]
    cases (x == c) with
    | true => simp [ih]
    | false =>
      simp only [ih]
      cases hs : splitL c a with
      | nil => exact absurd hs (splitL_ne a)
      | cons h t => simp
theorem app_data (a b : ByteArray) : (a ++ b).data.toList = a.data.toList ++ b.data.toList := by rw [ByteArray.data_append, Array.toList_append]
theorem badByte_mem {s : ByteArray} (h : badByte s = false) : (47 : UInt8) ∉ s.data.toList ∧ (0 : UInt8) ∉ s.data.toList := by
  unfold badByte at h
  rw [List.any_eq_false] at h
  exact ⟨fun hm => h 47 hm (by decide), fun hm => h 0 hm (by decide)⟩
theorem okPart_of {n : ByteArray} (h : nameOk n) : okPart n = true := by
  unfold okPart; rw [sEq_false h.1, sEq_false h.2.1]; rfl
/-- one name more -/
def sub (p n : ByteArray) : ByteArray := (p ++ ⟨⟨[47]⟩⟩) ++ n
theorem sub_data (p n : ByteArray) : (sub p n).data.toList = p.data.toList ++ 47 :: n.data.toList := by
  unfold sub; rw [app_data, app_data, List.append_assoc]; rfl
theorem parts_sub {p n : ByteArray} (h : nameOk n) : partsB (sub p n) = partsB p ++ [n] := by
  have h47 := (badByte_mem h.2.2).1
  unfold partsB
  rw [sub_data, splitL_app, splitL_none h47, List.map_append, List.filter_append]
  congr 1
  show List.filter okPart [n] = [n]
  simp [okPart_of h]
theorem nul_sub {p n : ByteArray} (h : nameOk n) (hp : hasNul p = false) : hasNul (sub p n) = false := by
  have h0 := (badByte_mem h.2.2).2
  unfold hasNul at hp ⊢
  rw [sub_data, List.any_append, hp, List.any_cons, Bool.false_or]
  rw [Bool.or_eq_false_iff]
  refine ⟨by decide, ?_⟩
  rw [List.any_eq_false]
  intro x hx hb
  have : x = 0 := by simpa using hb
  subst this; exact h0 hx
theorem head_sub {p n : ByteArray} {c : UInt8} (hp : headIs c p = true) : headIs c (sub p n) = true := by
  unfold headIs at hp ⊢
  rw [sub_data]
  cases hl : p.data.toList with
  | nil => rw [hl] at hp; cases hp
  | cons x r => rw [hl] at hp; exact hp
theorem sub_size (p n : ByteArray) : (sub p n).size = p.size + 1 + n.size := by
  unfold sub; rw [ByteArray.size_append, ByteArray.size_append]; rfl
/-- along directories -/
def Chain (A : AT) : Int → List ByteArray → Int → Prop
  | d, [], i => d = i
  | d, n :: r, i => A.kind d = 2 ∧ ∃ j, A.find d n = some j ∧ Chain A j r i
theorem Chain.snoc {A : AT} {n : ByteArray} {i j : Int} : ∀ {l : List ByteArray} {d : Int}, Chain A d l i → A.kind i = 2 → A.find i n = some j → Chain A d (l ++ [n]) j := by
  intro l
  induction l with
  | nil => intro d h h1 h2; have h : d = i := h; subst h; exact ⟨h1, j, h2, rfl⟩
  | cons x r ih =>
    intro d h h1 h2
    obtain ⟨a, k, b, c⟩ := h
    exact ⟨a, k, b, ih c h1 h2⟩
def stepOk (n : ByteArray) : Prop := n ≠ ⟨⟨[46, 46]⟩⟩ ∧ n.size ≤ 56
/-- a path that leads to an inode -/
structure PathTo (A : AT) (p : ByteArray) (i : Int) : Prop where
  head : headIs 47 p = true
  nul : hasNul p = false
  chain : Chain A 1 (partsB p) i
  names : ∀ n ∈ partsB p, stepOk n
theorem PathTo.sub {A : AT} {p n : ByteArray} {i j : Int} (h : PathTo A p i) (hk : A.kind i = 2) (hf : A.find i n = some j) (hn : mayName n = true) : PathTo A (Wk.sub p n) j := by
  unfold mayName at hn
  simp only [Bool.and_eq_true, decide_eq_true_eq, Bool.not_eq_true'] at hn
  obtain ⟨h1, h2, h3, h4, h5⟩ := hn
  have hne : n ≠ ⟨⟨[]⟩⟩ := by intro e; rw [e] at h1; exact absurd h1 (by decide)
  have hne2 : n ≠ ⟨⟨[46]⟩⟩ := by intro e; rw [e] at h4; exact absurd h4 (by decide)
  have hne3 : n ≠ ⟨⟨[46, 46]⟩⟩ := by intro e; rw [e] at h5; exact absurd h5 (by decide)
  have hok : nameOk n := ⟨hne, hne2, h3⟩
  refine ⟨head_sub h.head, nul_sub hok h.nul, ?_, ?_⟩
  · rw [parts_sub hok]; exact h.chain.snoc hk hf
  · rw [parts_sub hok]
    intro m hm
    rcases List.mem_append.1 hm with hm | hm
    · exact h.names m hm
    · simp at hm; subst hm; exact ⟨hne3, h2⟩
theorem headIs_ne {p : ByteArray} {c : UInt8} (h : headIs c p = true) : sEq p ⟨⟨[]⟩⟩ = false := by
  refine sEq_false ?_
  intro e; rw [e] at h; cases h
/-! ### Cutting trees -/
def tk (k : Nat) (s : ByteArray) : ByteArray := s.extract 0 (min s.size k)
theorem tk_size (k : Nat) (s : ByteArray) : (tk k s).size ≤ k := by unfold tk; rw [ByteArray.size_extract]; omega
def cutRow (f : Tr → Nat → Tr × Nat) : Nat → List Tr → Nat → List Tr × Nat
  | 0, _, left => ([], left)
  | _ + 1, [], left => ([], left)
  | k + 1, t :: r, left => if left = 0 then ([], left) else
      let x := f t (left - 1)
      let y := cutRow f k r x.2
      (x.1 :: y.1, y.2)
def cutT (kk nn dd : Nat) : Nat → Tr → Nat → Tr × Nat
  | 0, t, left => (.mk (tk nn t.name) t.kind t.exec (tk dd t.data) [], left)
  | lv + 1, t, left => let r := cutRow (cutT kk nn dd lv) kk t.kids left; (.mk (tk nn t.name) t.kind t.exec (tk dd t.data) r.1, r.2)
/-- the row that is left to cut -/
def cutG (kk nn dd lv k : Nat) (l : List Tr) (left : Nat) : List Tr × Nat := match lv with
  | 0 => ([], left)
  | lv + 1 => cutRow (cutT kk nn dd lv) k l left
theorem cutT_eq (kk nn dd lv : Nat) (t : Tr) (left : Nat) : cutT kk nn dd lv t left = (.mk (tk nn t.name) t.kind t.exec (tk dd t.data) (cutG kk nn dd lv kk t.kids left).1, (cutG kk nn dd lv kk t.kids left).2) := by
  cases lv <;> rfl
theorem cutG_stop {kk nn dd lv k : Nat} {l : List Tr} {left : Nat} (h : lv = 0 ∨ k = 0 ∨ l = [] ∨ left = 0) : cutG kk nn dd lv k l left = ([], left) := by
  cases lv with
  | zero => rfl
  | succ lv =>
    show cutRow _ k l left = _
    cases k with
    | zero => rfl
    | succ k =>
      cases l with
      | nil => rfl
      | cons t r =>
        rcases h with h | h | h | h
        · omega
        · omega
        · cases h
        · unfold cutRow; rw [if_pos h]
theorem cutG_go {kk nn dd lv k : Nat} {t : Tr} {r : List Tr} {left : Nat} (h : 0 < left) : cutG kk nn dd (lv + 1) (k + 1) (t :: r) left = ((cutT kk nn dd lv t (left - 1)).1 :: (cutG kk nn dd (lv + 1) k r (cutT kk nn dd lv t (left - 1)).2).1, (cutG kk nn dd (lv + 1) k r (cutT kk nn dd lv t (left - 1)).2).2) := by
  show cutRow _ (k + 1) (t :: r) left = _
  rw [cutRow, if_neg (by omega)]; rfl
theorem cut_total (kk nn dd : Nat) : ∀ (lv : Nat) (t : Tr) (left : Nat), (cutT kk nn dd lv t left).2 ≤ left ∧ (cutT kk nn dd lv t left).1.total ≤ (1 + nn + dd) * (1 + left - (cutT kk nn dd lv t left).2) := by
  intro lv
  induction lv with
  | zero =>
    intro t left
    simp only [cutT, Tr.total, Tr.totalRow]
    have h1 := tk_size nn t.name
    have h2 := tk_size dd t.data
    refine ⟨Nat.le_refl _, ?_⟩
    rw [show 1 + left - left = 1 by omega, Nat.mul_one]; omega
  | succ lv ih =>
    intro t left
    have key : ∀ (k : Nat) (l : List Tr) (left : Nat), (cutRow (cutT kk nn dd lv) k l left).2 ≤ left ∧ Tr.totalRow (cutRow (cutT kk nn dd lv) k l left).1 ≤ (1 + nn + dd) * (left - (cutRow (cutT kk nn dd lv) k l left).2) := by
      intro k
      induction k with
      | zero => intro l left; simp [cutRow, Tr.totalRow]
      | succ k ihk =>
        intro l left
        cases l with
        | nil => simp [cutRow, Tr.totalRow]
        | cons x r =>
          unfold cutRow
          by_cases h0 : left = 0
          · rw [if_pos h0]; simp [Tr.totalRow]
          · rw [if_neg h0]
            simp only [Tr.totalRow]
            obtain ⟨a1, a2⟩ := ih x (left - 1)
            obtain ⟨b1, b2⟩ := ihk r (cutT kk nn dd lv x (left - 1)).2
            generalize (cutT kk nn dd lv x (left - 1)) = u at *
            generalize (cutRow (cutT kk nn dd lv) k r u.2) = v at *
            refine ⟨by omega, ?_⟩
            have e : left - v.2 = (1 + (left - 1) - u.2) + (u.2 - v.2) := by omega
            rw [e, Nat.mul_add]; omega
    obtain ⟨a1, a2⟩ := key kk t.kids left
    simp only [cutT, Tr.total]
    have h1 := tk_size nn t.name
    have h2 := tk_size dd t.data
    generalize cutRow (cutT kk nn dd lv) kk t.kids left = v at *
    refine ⟨a1, ?_⟩
    rw [show 1 + left - v.2 = 1 + (left - v.2) by omega, Nat.mul_add, Nat.mul_one]
    omega
def Tr.noName : Tr → Tr
  | .mk _ k e d kids => .mk ⟨⟨[]⟩⟩ k e d kids
end Go.Wk

/- A SLICE of trees that is made here. -/
set_option maxRecDepth 100000
namespace Go.Proofs.YtlpcehbfoogejaaGreatDoor
open Go Go.HL Go.Wk
attribute [local irreducible] ptrW ifW brW andW rdT alW letJ stW muW biW vaW imW callT cvalT app callW invW callVW sizeT oW nilF oneK loopW rfW funW begW roundK exW idxW Gr Put
theorem sz_Nodes : sizeT Tryz.prog 22 = some 1 := by kernel_rfl
theorem und_Nodes : Tryz.prog.underlying 22 = some (.slice 24) := by kernel_rfl
theorem info_Node : ∃ i z, Tryz.prog.info? 24 = some i ∧ i.zero = some z ∧ i.size = 5 ∧ i.bytes ≤ 100000 ∧ z.cells.size = 5 := by
  have h1 : ((Tryz.prog.info? 24).bind fun i => i.zero.map fun z => (i.size, z.cells.size, decide (i.bytes ≤ 100000))) = some (5, 5, true) := by kernel_rfl
  cases hi : Tryz.prog.info? 24 with
  | none => rw [hi] at h1; cases h1
  | some i =>
    rw [hi] at h1
    cases hz : i.zero with
    | none => simp [hz] at h1
    | some z => simp [hz] at h1; exact ⟨i, z, rfl, hz, h1.1, h1.2.2, h1.2.1⟩
def RowsTr (τ : H) : List Tr → List (List Value) → Prop
  | [], [] => True
  | t :: ts, r :: rows => TrAt τ t r ∧ RowsTr τ ts rows
  | _, _ => False
theorem RowsTr.gr {τ τ' : H} (hg : Gr τ τ') : ∀ {ts : List Tr} {rows : List (List Value)}, RowsTr τ ts rows → RowsTr τ' ts rows := by
  intro ts
  induction ts with
  | nil => intro rows h; cases rows <;> exact h
  | cons t ts ih =>
    intro rows h
    cases rows with
    | nil => exact h.elim
    | cons r rows => exact ⟨gr_both hg t r h.1, ih h.2⟩
theorem RowsTr.snoc {τ : H} {t : Tr} {r : List Value} (ht : TrAt τ t r) : ∀ {ts : List Tr} {rows : List (List Value)}, RowsTr τ ts rows → RowsTr τ (ts ++ [t]) (rows ++ [r]) := by
  intro ts
  induction ts with
  | nil => intro rows h; cases rows with
    | nil => exact ⟨ht, trivial⟩
    | cons r rows => exact h.elim
  | cons t ts ih =>
    intro rows h
    cases rows with
    | nil => exact h.elim
    | cons r rows => exact ⟨h.1, ih h.2⟩
theorem RowsTr.len {τ : H} : ∀ {ts : List Tr} {rows : List (List Value)}, RowsTr τ ts rows → rows.length = ts.length := by
  intro ts
  induction ts with
  | nil => intro rows h; cases rows with
    | nil => rfl
    | cons r rows => exact h.elim
  | cons t ts ih =>
    intro rows h
    cases rows with
    | nil => exact h.elim
    | cons r rows => simp [ih h.2]
theorem rowAt_of {τ : H} {rest : List Value} : ∀ {ts : List Tr} {rows : List (List Value)}, RowsTr τ ts rows → (∀ r ∈ rows, r.length = 5) → RowAt τ ts (rows.flatten ++ rest) := by
  intro ts
  induction ts with
  | nil => intro rows _ _; trivial
  | cons t ts ih =>
    intro rows h hl
    cases rows with
    | nil => exact h.elim
    | cons r rows =>
      have hr := hl r (List.mem_cons_self ..)
      simp only [RowAt, List.flatten_cons, List.append_assoc]
      refine ⟨?_, ?_⟩
      · rw [← hr, List.take_left]; exact h.1
      · rw [← hr, List.drop_left]; exact ih h.2 fun q hq => hl q (List.mem_cons_of_mem _ hq)
theorem slAt_own {σ τ : H} {rows : List (List Value)} {ts : List Tr} {x : Sl} (h : RowsOwn σ 24 5 rows x) (ht : RowsTr τ ts rows) (hg : Gr τ σ) (hn : ∀ g, x.base = some ⟨g, 0, none⟩ → τ g = none) :
    ∃ τ', Gr τ τ' ∧ Gr τ' σ ∧ SlAt τ' ts x ∧ ∀ b, x.base ≠ some ⟨b, 0, none⟩ → τ b = none → τ' b = none := by
  obtain ⟨h1, h2, ⟨h3, h4, h5⟩ | ⟨g, cur, a1, a2, a3, a4, a5⟩⟩ := h
  · subst h5
    refine ⟨τ, Gr.refl _, hg, ⟨by rw [h1, ht.len], ?_⟩, fun b _ hb => hb⟩
    have := ht.len
    simp at this
    exact .inl (List.eq_nil_of_length_eq_zero this.symm)
  · have hgn := hn g a1
    have g1 : Gr τ (τ.put g (.cells ⟨cur⟩ 24 (0, 0))) := Gr.put hgn _
    refine ⟨τ.put g (.cells ⟨cur⟩ 24 (0, 0)), g1, ?_, ⟨by rw [h1, ht.len], .inr ⟨g, 0, cur, 24, (0, 0), a1, H.put_same _ _ _, ?_⟩⟩, ?_⟩
    · unfold Gr
      intro c oc hc
      by_cases e : c = g
      · subst e; rw [H.put_same] at hc; cases hc; exact a2
      · rw [H.put_other _ _ e] at hc; exact hg.get hc
    · have e1 : cur = rows.flatten ++ cur.drop (x.len * 5) := by rw [← a5, List.take_append_drop]
      have := rowAt_of (rest := cur.drop (x.len * 5)) (ht.gr g1) h2
      rw [← e1] at this
      exact this
    · intro b hb hτ
      have e : b ≠ g := fun e => hb (by rw [e, a1])
      rw [H.put_other _ _ e]; exact hτ
theorem trC_one (t : Tr) (y : Sl) : ∀ u ∈ trC t y, u.oneCell' = true := by
  intro u hu
  unfold trC at hu
  simp only [List.mem_cons, List.mem_nil_iff, or_false] at hu
  rcases hu with rfl | rfl | rfl | rfl | rfl <;> rfl
end Go.Proofs.YtlpcehbfoogejaaGreatDoor

/- THE CARDS: what they have in common. -/
set_option maxRecDepth 100000
namespace Go.Proofs.YtlpcehbfoogejaaGreatDoor
open Go Go.HL Go.Wk Go.ChangeShapes Go.WideShapes Go.ChangeAt Go.RowKit
theorem own : ownKnob Tryz.prog.godebug = none := by kernel_rfl
theorem laidOut : laidOutB Tryz.prog = true := by kernel_rfl
def accCells : Array Value := #[.int .u8 128, .int .u8 191, .int .u8 160, .int .u8 191, .int .u8 128, .int .u8 159, .int .u8 144, .int .u8 191, .int .u8 128, .int .u8 143, .int .u8 0, .int .u8 0, .int .u8 0, .int .u8 0, .int .u8 0, .int .u8 0, .int .u8 0, .int .u8 0, .int .u8 0, .int .u8 0, .int .u8 0, .int .u8 0, .int .u8 0, .int .u8 0, .int .u8 0, .int .u8 0, .int .u8 0, .int .u8 0, .int .u8 0, .int .u8 0, .int .u8 0, .int .u8 0]
def firstCells : Array Value := ⟨Go.Pinned.utf8FirstZ.map fun (n : Nat) => .int .u8 (n : Int)⟩
def setC (cs : Array Value) : Obj → Obj
  | .cells _ t frozen => .cells cs t frozen
  | o => o
/-- a world for the witness: the two tables hold what they must -/
noncomputable def laidWorld (os : Os) : World :=
  { World.holding Tryz.prog os ⟨#[], #[], []⟩ with heap := ((World.holding Tryz.prog os ⟨#[], #[], []⟩).heap.modify 1 (setC firstCells)).modify 2 (setC accCells) }
end Go.Proofs.YtlpcehbfoogejaaGreatDoor

/- A TREE THAT WAS READ as an argument. -/
set_option maxRecDepth 100000
namespace Go.Proofs.YtlpcehbfoogejaaGreatDoor
open Go Go.HL Go.Wk Go.ChangeShapes Go.WideShapes Go.ChangeAt Go.RowKit
theorem csn_string : Tryz.prog.cellsOf 9 = 1 := by kernel_rfl
theorem csn_int : Tryz.prog.cellsOf 3 = 1 := by kernel_rfl
theorem csn_bool : Tryz.prog.cellsOf 4 = 1 := by kernel_rfl
theorem csn_Nodes : Tryz.prog.cellsOf 22 = 1 := by kernel_rfl
/-- a tree that was read -/
theorem node_of {D : Type} {enc : TypeId × Value → D} {W : World} : ∀ (m : Nat) {r : List Value} {x : DataW D × List MemPlace}, DataW.trod enc Tryz.prog W 0 (fun _ => true) true m 24 r = some x → ∃ (t : Tr) (y : Sl), r = trC t y ∧ SlAt (whole W) t.kids y := by
  intro m
  induction m using Nat.strongRecOn with
  | _ m ih =>
  intro r x h
  obtain ⟨xs, n, hfu, _, hl, hlen, hf⟩ := DataW.trod_struct Tryz.underlying24 h
  have hl : r.length = 5 := hl.trans (by kernel_rfl)
  have hlen : xs.length = 5 := hlen
  obtain ⟨a0, a1, a2, a3, a4, rfl⟩ : ∃ a0 a1 a2 a3 a4, r = [a0, a1, a2, a3, a4] := by
    match r, hl with
    | [a0, a1, a2, a3, a4], _ => exact ⟨_, _, _, _, _, rfl⟩
  have g : ∀ i, i < 5 → ∃ y, xs[i]? = some y := fun i hi => ⟨_, List.getElem?_eq_getElem (by omega)⟩
  have h0 := hf 0 _ rfl
  obtain ⟨y0, e0⟩ := g 0 (by decide)
  rw [e0] at h0
  obtain ⟨s0, q0, _⟩ := DataW.trod_string Tryz.underlying9 h0
  have h1 := hf 1 _ rfl
  obtain ⟨y1, e1⟩ := g 1 (by decide)
  rw [e1] at h1
  obtain ⟨n1, q1, _⟩ := DataW.trod_int (k := .i64) Tryz.underlying3 h1
  have h2 := hf 2 _ rfl
  obtain ⟨y2, e2⟩ := g 2 (by decide)
  rw [e2] at h2
  obtain ⟨b2, q2, _⟩ := DataW.trod_bool Tryz.underlying4 h2
  have h3 := hf 3 _ rfl
  obtain ⟨y3, e3⟩ := g 3 (by decide)
  rw [e3] at h3
  obtain ⟨s3, q3, _⟩ := DataW.trod_string Tryz.underlying9 h3
  have h4 := hf 4 _ rfl
  obtain ⟨y4, e4⟩ := g 4 (by decide)
  rw [e4] at h4
  have q0 : List.take (Tryz.prog.cellsOf 9) (List.drop 0 [a0, a1, a2, a3, a4]) = [.string s0] := q0
  have q1 : List.take (Tryz.prog.cellsOf 3) (List.drop 1 [a0, a1, a2, a3, a4]) = [.int .i64 n1] := q1
  have q2 : List.take (Tryz.prog.cellsOf 4) (List.drop 2 [a0, a1, a2, a3, a4]) = [.bool b2] := q2
  have q3 : List.take (Tryz.prog.cellsOf 9) (List.drop 3 [a0, a1, a2, a3, a4]) = [.string s3] := q3
  have h4 : DataW.trod enc Tryz.prog W 0 (fun _ => true) true n 22 (List.take (Tryz.prog.cellsOf 22) (List.drop 4 [a0, a1, a2, a3, a4])) = some y4 := h4
  rw [csn_string] at q0 q3
  rw [csn_int] at q1
  rw [csn_bool] at q2
  rw [csn_Nodes] at h4
  simp only [List.drop_succ_cons, List.drop_zero, List.take_succ_cons, List.take_zero, List.cons.injEq, and_true] at q0 q1 q2 q3 h4
  obtain ⟨y, rows, hy, hrows, _, k, hall⟩ := rows_of Tryz.underlying22 (show Tryz.prog.cellsOf 24 = 5 by kernel_rfl) (by decide) h4
  have hkids : ∃ ts : List Tr, RowsTr (whole W) ts rows := by
    clear hrows
    induction rows with
    | nil => exact ⟨[], trivial⟩
    | cons r rs ihr =>
      obtain ⟨ts, ha⟩ := ihr fun r hr => hall r (List.mem_cons_of_mem _ hr)
      obtain ⟨hk, d, ps, hd⟩ := hall r (List.mem_cons_self ..)
      obtain ⟨t, z, hr, hz⟩ := ih k (by omega) hd
      exact ⟨t :: ts, trAt_iff.2 ⟨z, hr, hz⟩, ha⟩
  obtain ⟨ts, hts⟩ := hkids
  refine ⟨.mk s0 n1 b2 s3 ts, y, by rw [q0, q1, q2, q3, hy]; rfl, ?_⟩
  obtain ⟨r1, r2⟩ := hrows
  refine ⟨by show y.len = ts.length; rw [r1, hts.len], ?_⟩
  rcases r2 with r2 | ⟨g, o, cur, ty, fz, r3, r4, r5⟩
  · subst r2
    have := hts.len
    simp at this
    exact .inl (List.eq_nil_of_length_eq_zero this.symm)
  · refine .inr ⟨g, o, cur, ty, fz, r3, r4, ?_⟩
    clear ih h hf
    have key : ∀ (ts : List Tr) (rows : List (List Value)) (cs : List Value), RowsTr (whole W) ts rows → (∀ i r, rows[i]? = some r → (cs.drop (i * 5)).take 5 = r) → RowAt (whole W) ts cs := by
      intro ts
      induction ts with
      | nil => intro _ _ _ _; trivial
      | cons t ts iht =>
        intro rows cs hr hc
        cases rows with
        | nil => exact hr.elim
        | cons r rs =>
          refine ⟨?_, iht rs (cs.drop 5) hr.2 fun i q hq => ?_⟩
          · have := hc 0 r rfl
            simp at this
            rw [this]; exact hr.1
          · have := hc (i + 1) q (by simpa using hq)
            rw [List.drop_drop, show 5 + i * 5 = (i + 1) * 5 by omega]; exact this
    refine key ts rows _ hts fun i r hr => ?_
    rw [List.drop_drop]
    exact (r5 i r hr).2
end Go.Proofs.YtlpcehbfoogejaaGreatDoor

/- WHAT LIES SOMEWHERE, as a tree in its one form; whether two trees are alike. -/
namespace Go.Wk
open Go Go.HL
def Tr.z : Tr := .mk ⟨⟨[]⟩⟩ 0 false ⟨⟨[]⟩⟩ []
def Tr.named (s : ByteArray) : Tr → Tr
  | .mk _ k e d kids => .mk s k e d kids
def trimL : List UInt8 → List UInt8
  | [] => []
  | x :: r => match r with
    | [] => (match x == 47 with | true => [] | false => [x])
    | _ :: _ => x :: trimL r
def trimS (p : ByteArray) : ByteArray := ⟨⟨trimL p.data.toList⟩⟩
def kidP (p n : ByteArray) : ByteArray := sub (trimS p) n
def takeRow (g : ByteArray → Int × Tr) (path : ByteArray) : List ByteArray → Int × List Tr
  | [] => (0, [])
  | n :: r => let x := g (kidP path n)
    if x.1 ≠ 0 then (x.1, []) else
      let y := takeRow g path r
      (y.1, x.2.named n :: y.2)
def xOf (k m : Int) : Bool := k == 1 && (bitV .and .i64 m 73 : Int) != 0
/-- the tree at a path -/
def AT.take (A : AT) : Nat → ByteArray → Int × Tr
  | 0, _ => (3, Tr.z)
  | f + 1, path =>
    let x := A.stat ⟨⟨[47]⟩⟩ path false
    if x.1 ≠ 0 then (x.1, Tr.z)
    else if x.2.kind = 2 then
      let l := A.listF ⟨⟨[47]⟩⟩ path
      if l.1 ≠ 0 then (l.1, Tr.z)
      else
        let r := takeRow (AT.take A f) path l.2
        (r.1, .mk ⟨⟨[]⟩⟩ 2 false x.2.data r.2)
    else (0, .mk ⟨⟨[]⟩⟩ x.2.kind (xOf x.2.kind x.2.mode) x.2.data [])
def AT.canonF (A : AT) (path : ByteArray) : Int × Tr :=
  let x := A.take 300 path
  if x.1 ≠ 0 then (x.1, Tr.z) else if x.2.check ≠ 0 then (x.2.check, Tr.z) else (0, x.2)
mutual
def Tr.same : Tr → Tr → Bool
  | .mk n k e d kids, u => !(Tr.mk n k e d kids).tooDeep && (!u.tooDeep && (sEq n u.name && ((k == u.kind) && ((e == u.exec) && (sEq d u.data && (Nat.beq kids.length u.kids.length && Tr.sameRow kids u.kids))))))
def Tr.sameRow : List Tr → List Tr → Bool
  | [], _ => true
  | t :: r, l => match l with
    | [] => false
    | u :: s => Tr.same t u && Tr.sameRow r s
end
theorem Tr.same_eq (t u : Tr) : t.same u = (!t.tooDeep && (!u.tooDeep && (sEq t.name u.name && ((t.kind == u.kind) && ((t.exec == u.exec) && (sEq t.data u.data && (Nat.beq t.kids.length u.kids.length && Tr.sameRow t.kids u.kids))))))) := by
  obtain ⟨n, k, e, d, kids⟩ := t
  rw [Tr.same]; rfl
theorem sEq_self (s : ByteArray) : sEq s s = true := sEq_iff.2 rfl
theorem same_refl : ∀ t : Tr, t.tooDeep = false → t.may = true → t.same t = true := by
  refine Tr.ind ?_
  intro t ih hd hm
  rw [Tr.same_eq, hd, sEq_self, sEq_self]
  have key : ∀ l : List Tr, (∀ x ∈ l, x ∈ t.kids) → Tr.sameRow l l = true := by
    intro l
    induction l with
    | nil => intro _; rfl
    | cons x r ihl =>
      intro h
      have hx := h x (List.mem_cons_self ..)
      rcases may_kids hm with h0 | ⟨hk, hrow⟩
      · rw [h0] at hx; simp at hx
      · rw [Tr.sameRow, ih x hx (kid_shallow hk hd hx) (mayRow_all hrow x hx).2, ihl fun y hy => h y (List.mem_cons_of_mem _ hy)]; rfl
  rw [key t.kids (fun _ h => h)]
  simp [Nat.beq_refl]
/-! ### Paths of kids -/
theorem trimL_cases : ∀ l : List UInt8, trimL l = l ∨ l = trimL l ++ [47] := by
  intro l
  induction l with
  | nil => exact .inl rfl
  | cons x r ih =>
    cases r with
    | nil =>
      unfold trimL
      cases hx : (x == 47) with
      | true => right; simp at hx; subst hx; rfl
      | false => left; simp only
    | cons y r =>
      have e : trimL (x :: y :: r) = x :: trimL (y :: r) := by rw [trimL]
      rw [e]
      rcases ih with h | h
      · left; rw [h]
      · right; rw [List.cons_append, ← h]
theorem trimS_data (p : ByteArray) : (trimS p).data.toList = trimL p.data.toList := rfl
theorem size_list (s : ByteArray) : s.size = s.data.toList.length := by cases s with | mk d => simp [ByteArray.size]
theorem trimS_size (p : ByteArray) : (trimS p).size ≤ p.size ∧ p.size ≤ (trimS p).size + 1 := by
  rw [size_list, size_list, trimS_data]
  rcases trimL_cases p.data.toList with h | h
  · rw [h]; omega
  · have := congrArg List.length h
    rw [List.length_append, List.length_singleton] at this
    omega
theorem kidP_size (p n : ByteArray) : (kidP p n).size ≤ p.size + 1 + n.size ∧ p.size + n.size ≤ (kidP p n).size := by
  have h1 := sub_size (trimS p) n
  have h2 := trimS_size p
  unfold kidP; omega
theorem bytes_ext {a b : ByteArray} (h : a.data.toList = b.data.toList) : a = b := by
  obtain ⟨⟨a⟩⟩ := a; obtain ⟨⟨b⟩⟩ := b
  have h : a = b := h
  rw [h]
theorem parts_kid {p n : ByteArray} (h : nameOk n) : partsB (kidP p n) = partsB p ++ [n] := by
  unfold kidP
  rw [parts_sub h]
  rcases trimL_cases p.data.toList with e | e
  · rw [show trimS p = p from bytes_ext e]
  · congr 1
    unfold partsB
    rw [trimS_data]
    generalize trimL p.data.toList = q at e
    rw [e, splitL_app]
    show _ = List.filter okPart (List.map _ (splitL 47 q ++ [[]]))
    rw [List.map_append, List.filter_append]
    have : List.filter okPart (List.map (fun l => (⟨⟨l⟩⟩ : ByteArray)) [[]]) = [] := by decide
    rw [this, List.append_nil]
theorem nul_trim {p : ByteArray} (h : hasNul p = false) : hasNul (trimS p) = false := by
  unfold hasNul at h ⊢
  rw [trimS_data]
  rcases trimL_cases p.data.toList with e | e
  · rw [e]; exact h
  · rw [e, List.any_append, Bool.or_eq_false_iff] at h; exact h.1
theorem head_kid {p n : ByteArray} (hp : headIs 47 p = true) : headIs 47 (kidP p n) = true := by
  unfold kidP headIs
  rw [sub_data, trimS_data]
  unfold headIs at hp
  rcases trimL_cases p.data.toList with e | e
  · rw [e]
    cases hl : p.data.toList with
    | nil => rfl
    | cons x r => rw [hl] at hp; exact hp
  · cases hq : trimL p.data.toList with
    | nil => rfl
    | cons x r => rw [e, hq] at hp; exact hp
theorem mayName_ok {n : ByteArray} (hn : mayName n = true) : nameOk n ∧ stepOk n ∧ 1 ≤ n.size := by
  unfold mayName at hn
  simp only [Bool.and_eq_true, decide_eq_true_eq, Bool.not_eq_true'] at hn
  obtain ⟨h1, h2, h3, h4, h5⟩ := hn
  have hne : n ≠ ⟨⟨[]⟩⟩ := by intro e; rw [e] at h1; exact absurd h1 (by decide)
  have hne2 : n ≠ ⟨⟨[46]⟩⟩ := by intro e; rw [e] at h4; exact absurd h4 (by decide)
  have hne3 : n ≠ ⟨⟨[46, 46]⟩⟩ := by intro e; rw [e] at h5; exact absurd h5 (by decide)
  exact ⟨⟨hne, hne2, h3⟩, ⟨hne3, h2⟩, h1⟩
theorem PathTo.kid {A : AT} {p n : ByteArray} {i j : Int} (h : PathTo A p i) (hk : A.kind i = 2) (hf : A.find i n = some j) (hn : mayName n = true) : PathTo A (kidP p n) j := by
  obtain ⟨hok, hst, _⟩ := mayName_ok hn
  refine ⟨head_kid h.head, nul_sub hok (nul_trim h.nul), ?_, ?_⟩
  · rw [parts_kid hok]; exact h.chain.snoc hk hf
  · rw [parts_kid hok]
    intro m hm
    rcases List.mem_append.1 hm with hm | hm
    · exact h.names m hm
    · simp at hm; subst hm; exact hst
theorem steps_chain2 {A : AT} {go : Int → ByteArray → Int → Int × Pl × Int} {fo : Bool} {i h : Int} (hk : fo = true → A.kind i ≠ 3) : ∀ {l : List ByteArray} {p : Pl}, Chain A p.ino l i → (∀ n ∈ l, stepOk n) → p.there = true → ∃ q : Pl, A.steps go fo l p h = (0, q, h) ∧ q.ino = i ∧ q.there = true := by
  intro l
  induction l with
  | nil => intro p hc _ ht; exact ⟨p, rfl, hc, ht⟩
  | cons n r ih =>
    intro p hc hok ht
    obtain ⟨h1, j, h2, h3⟩ := hc
    obtain ⟨o1, o2⟩ := hok n (List.mem_cons_self ..)
    have h5 : (A.find p.ino n).isSome = false ∨ (r.isEmpty && !fo) = true ∨ A.kind ((A.find p.ino n).getD 0) ≠ 3 := by
      cases r with
      | nil =>
        cases fo with
        | false => exact .inr (.inl rfl)
        | true => right; right; rw [h2]; have h3 : j = i := h3; show A.kind j ≠ 3; rw [h3]; exact hk rfl
      | cons m r' =>
        refine .inr (.inr ?_)
        rw [h2]
        have := h3.1
        show A.kind j ≠ 3
        omega
    rw [steps_name ht h1 (sEq_false o1) (by omega) h5]
    refine ih ?_ (fun m hm => hok m (List.mem_cons_of_mem _ hm)) ?_
    · show Chain A ((A.find p.ino n).getD 0) r i
      rw [h2]; exact h3
    · show (A.find p.ino n).isSome = true
      rw [h2]; rfl
theorem with_at {A : AT} {p cwd : ByteArray} {i : Int} {n : AN} {fo : Bool} (h : PathTo A p i) (hk : fo = true → A.kind i ≠ 3) (hs : p.size ≤ 255) (hn : A.get i = some n) : A.with_ cwd p fo = (0, i, n.inode) := by
  have hne := headIs_ne h.head
  have hw : A.walk 10 1 p fo 8 = A.steps (fun d s h' => A.walk 9 d s true h') fo (partsB p) ⟨1, ⟨⟨[]⟩⟩, 1, true⟩ 8 := by
    rw [AT.walk]
    unfold mayE
    rw [hne, h.nul, h.head]
    have hs : ¬ p.size > 255 := by omega
    simp [hs]
  unfold AT.with_ AT.locate
  rw [hne, h.head, hw]
  obtain ⟨q, h1, h2, h3⟩ := steps_chain2 (A := A) (go := fun d s h' => A.walk 9 d s true h') (h := 8) (p := ⟨1, ⟨⟨[]⟩⟩, 1, true⟩) hk h.chain h.names rfl
  rw [h1]
  simp [h2, h3, hn]
/-! ### Names that rise -/
theorem leB_of_ltB {a b : ByteArray} (h : ltB a b = true) : leB a.data.toList b.data.toList = true := by
  unfold ltB at h
  rw [leB_iff]
  have : ¬ b.data.toList ≤ a.data.toList := by rw [← leB_iff]; simpa using h
  exact (List.le_total _ _).resolve_right this
theorem sortB_id : ∀ {l : List (List UInt8)}, l.Pairwise (fun x y => leB x y = true) → sortB l = l := by
  intro l
  induction l with
  | nil => intro _; rfl
  | cons x r ih =>
    intro h
    obtain ⟨h1, h2⟩ := List.pairwise_cons.1 h
    rw [sortB, ih h2]
    cases r with
    | nil => rfl
    | cons y r => rw [insB, h1 y (List.mem_cons_self ..)]
theorem mayRow_pair : ∀ {l : List Tr} {p : Option ByteArray}, Tr.mayRow p l = true → l.Pairwise fun x y => ltB x.name y.name = true := by
  intro l
  induction l with
  | nil => intro p _; exact .nil
  | cons x r ih =>
    intro p h
    simp only [Tr.mayRow, Bool.and_eq_true] at h
    exact .cons (fun y hy => mayRow_lt h.2.2.2 y hy) (ih h.2.2.2)
theorem sortN_kids {l : List Tr} {p : Option ByteArray} (h : Tr.mayRow p l = true) : sortN (l.map Tr.name) = l.map Tr.name := by
  unfold sortN
  rw [sortB_id]
  · rw [List.map_map, List.map_map]
    refine List.map_congr_left fun x _ => ?_
    exact bytes_ext rfl
  · rw [List.map_map, List.pairwise_map]
    exact (mayRow_pair h).imp fun h => leB_of_ltB h
/-! ### What was laid is taken just so -/
def Tr.fits (c : Nat) : Nat → Tr → Prop
  | 0, t => t.kids = []
  | k + 1, t => ∀ x ∈ t.kids, x.name.size ≤ c ∧ Tr.fits c k x
theorem modeOf_x {t : Tr} (h : t.may = true) : xOf t.kind (modeOf t.kind t.exec) = t.exec := by
  rw [Tr.may_eq] at h
  unfold xOf
  by_cases k1 : t.kind = 1
  · rw [k1]; cases t.exec <;> decide +kernel
  · rw [if_neg k1] at h
    have : (t.kind == 1) = false := by simpa using k1
    rw [this]
    by_cases k3 : t.kind = 3
    · rw [if_pos k3] at h
      simp only [Bool.and_eq_true, Bool.not_eq_true'] at h
      rw [h.2.1]; rfl
    · rw [if_neg k3] at h
      by_cases k2 : t.kind = 2
      · rw [if_pos k2] at h
        simp only [Bool.and_eq_true, Bool.not_eq_true'] at h
        rw [h.1]; rfl
      · rw [if_neg k2] at h; cases h
theorem named_noName (t : Tr) : t.noName.named t.name = t := by obtain ⟨n, k, e, d, kids⟩ := t; rfl
theorem fits_kid {c k : Nat} {t x : Tr} (h : t.fits c k) (hx : x ∈ t.kids) : ∃ k', k = k' + 1 ∧ x.name.size ≤ c ∧ x.fits c k' := by
  cases k with
  | zero => have h : t.kids = [] := h; rw [h] at hx; simp at hx
  | succ k => exact ⟨k, rfl, h x hx⟩
theorem take_lies {A : AT} {c : Nat} : ∀ (t : Tr) (p : ByteArray) (i : Int) (f k : Nat), PathTo A p i → Lies A t i → t.may = true → t.fits c k → p.size + (c + 1) * k ≤ 255 → k < f → A.take f p = (0, t.noName) := by
  refine Tr.ind ?_
  intro t ih p i f k hp hl hmay hfit hsz hkf
  rw [lies_iff] at hl
  obtain ⟨n, hn, l1, l2, l3, l4, l5, l6⟩ := hl
  rw [liesRow_iff] at l6
  obtain ⟨f, rfl⟩ : ∃ g, f = g + 1 := ⟨f - 1, by omega⟩
  have hps : p.size ≤ 255 := by omega
  have hx := modeOf_x hmay
  have htr : t.noName = .mk ⟨⟨[]⟩⟩ t.kind t.exec t.data t.kids := by obtain ⟨n, k, e, d, kids⟩ := t; rfl
  rw [htr, AT.take]
  unfold AT.stat
  rw [with_at hp (fun h => by cases h) hps hn]
  simp only [ne_eq, not_true_eq_false, if_false]
  unfold AN.inode
  simp only
  rw [l1, l2, l3, hx]
  by_cases hk : t.kind = 2
  · rw [if_pos hk]
    have hk2 : A.kind i = 2 := by unfold AT.kind; rw [hn]; show n.kind = 2; rw [l1, hk]
    have hrow : Tr.mayRow none t.kids = true ∧ t.exec = false := by
      rw [Tr.may_eq, if_neg (by omega), if_neg (by omega), if_pos hk] at hmay
      simp only [Bool.and_eq_true, Bool.not_eq_true'] at hmay
      exact ⟨hmay.2.2, hmay.1⟩
    have hlist : A.listF ⟨⟨[47]⟩⟩ p = (0, t.kids.map Tr.name) := by
      unfold AT.listF
      rw [with_at hp (fun _ => by rw [hk2]; decide) hps hn]
      simp only [ne_eq, not_true_eq_false, if_false]
      unfold AN.inode
      simp only
      rw [if_neg (by omega)]
      unfold AT.names
      rw [hn]
      show (0, sortN (keysL n.ents)) = _
      rw [l5, sortN_kids hrow.1]
    rw [hlist]
    simp only [ne_eq, not_true_eq_false, if_false]
    have key : ∀ l : List Tr, (∀ x ∈ l, x ∈ t.kids) → takeRow (AT.take A f) p (l.map Tr.name) = (0, l) := by
      intro l
      induction l with
      | nil => intro _; rfl
      | cons x r ihl =>
        intro h
        have hx := h x (List.mem_cons_self ..)
        obtain ⟨j, j1, j2, j3⟩ := l6 x hx
        obtain ⟨hmn, hmx⟩ := mayRow_all hrow.1 x hx
        obtain ⟨k', rfl, f1, f2⟩ := fits_kid hfit hx
        have hks := kidP_size p x.name
        have hm : (c + 1) * (k' + 1) = (c + 1) * k' + (c + 1) := Nat.mul_succ _ _
        have hsub : PathTo A (kidP p x.name) j := hp.kid hk2 (by unfold AT.find; rw [hn]; exact j2) hmn
        rw [List.map_cons, takeRow, ih x hx _ j f k' hsub j3 hmx f2 (by omega) (by omega), ihl fun y hy => h y (List.mem_cons_of_mem _ hy)]
        simp [named_noName]
    rw [key t.kids (fun _ h => h), hk, hrow.2]
  · rw [if_neg hk]
    rcases may_kids hmay with h0 | ⟨h0, _⟩
    · rw [h0]
    · exact absurd h0 hk
theorem cut_fits (kk nn dd : Nat) : ∀ (lv : Nat) (t : Tr) (left : Nat), (cutT kk nn dd lv t left).1.fits nn lv ∧ (cutT kk nn dd lv t left).1.name.size ≤ nn := by
  intro lv
  induction lv with
  | zero => intro t left; exact ⟨rfl, tk_size nn t.name⟩
  | succ lv ih =>
    intro t left
    refine ⟨?_, tk_size nn t.name⟩
    have key : ∀ (k : Nat) (l : List Tr) (left : Nat), ∀ x ∈ (cutRow (cutT kk nn dd lv) k l left).1, x.name.size ≤ nn ∧ x.fits nn lv := by
      intro k
      induction k with
      | zero => intro l left x hx; simp [cutRow] at hx
      | succ k ihk =>
        intro l left x hx
        cases l with
        | nil => simp [cutRow] at hx
        | cons y r =>
          unfold cutRow at hx
          by_cases h0 : left = 0
          · rw [if_pos h0] at hx; simp at hx
          · rw [if_neg h0] at hx
            rcases List.mem_cons.1 hx with e | e
            · subst e; exact ⟨(ih y (left - 1)).2, (ih y (left - 1)).1⟩
            · exact ihk _ _ x e
    exact key kk t.kids left
theorem noName_fits {c k : Nat} {t : Tr} (h : t.fits c k) : t.noName.fits c k := by
  obtain ⟨n, kd, e, d, kids⟩ := t
  cases k with
  | zero => exact h
  | succ k => exact h
/-- how many nodes, how many bytes -/
theorem cut_count (kk nn dd : Nat) : ∀ (lv : Nat) (t : Tr) (left : Nat), (cutT kk nn dd lv t left).1.count + (cutT kk nn dd lv t left).2 ≤ 1 + left ∧ (cutT kk nn dd lv t left).1.bytes ≤ dd * (cutT kk nn dd lv t left).1.count := by
  intro lv
  induction lv with
  | zero =>
    intro t left
    have := tk_size dd t.data
    simp only [cutT, Tr.count, Tr.countRow, Tr.bytes, Tr.bytesRow]
    omega
  | succ lv ih =>
    intro t left
    have key : ∀ (k : Nat) (l : List Tr) (left : Nat), Tr.countRow (cutRow (cutT kk nn dd lv) k l left).1 + (cutRow (cutT kk nn dd lv) k l left).2 ≤ left ∧ Tr.bytesRow (cutRow (cutT kk nn dd lv) k l left).1 ≤ dd * Tr.countRow (cutRow (cutT kk nn dd lv) k l left).1 := by
      intro k
      induction k with
      | zero => intro l left; simp [cutRow, Tr.countRow, Tr.bytesRow]
      | succ k ihk =>
        intro l left
        cases l with
        | nil => simp [cutRow, Tr.countRow, Tr.bytesRow]
        | cons x r =>
          unfold cutRow
          by_cases h0 : left = 0
          · rw [if_pos h0]; simp [Tr.countRow, Tr.bytesRow]
          · rw [if_neg h0]
            simp only [Tr.countRow, Tr.bytesRow]
            obtain ⟨a1, a2⟩ := ih x (left - 1)
            obtain ⟨b1, b2⟩ := ihk r (cutT kk nn dd lv x (left - 1)).2
            generalize (cutT kk nn dd lv x (left - 1)) = u at *
            generalize (cutRow (cutT kk nn dd lv) k r u.2) = v at *
            rw [Nat.mul_add]
            omega
    obtain ⟨a1, a2⟩ := key kk t.kids left
    have := tk_size dd t.data
    simp only [cutT, Tr.count, Tr.bytes]
    generalize cutRow (cutT kk nn dd lv) kk t.kids left = v at *
    rw [Nat.mul_add, Nat.mul_one]
    omega
theorem noName_count (t : Tr) : t.noName.count = t.count ∧ t.noName.bytes = t.bytes ∧ t.noName.kids = t.kids ∧ t.noName.kind = t.kind ∧ t.noName.may = t.may ∧ t.noName.tooDeep = t.tooDeep ∧ t.noName.levels = t.levels := by
  obtain ⟨n, k, e, d, kids⟩ := t
  refine ⟨rfl, rfl, rfl, rfl, ?_, ?_, ?_⟩
  · simp only [Tr.noName, Tr.may]
  · simp only [Tr.noName, Tr.tooDeep, Tr.deep, Tr.kind, Tr.kids]
  · simp only [Tr.noName, Tr.levels]
theorem check_of {t : Tr} (h1 : t.tooDeep = false) (h2 : t.name = ⟨⟨[]⟩⟩) (h3 : t.may = true) (h4 : t.count ≤ 2000) (h5 : t.bytes ≤ 100000) : t.check = 0 := by
  unfold Tr.check
  have hs : t.sizeT = ((t.count : Int), (t.bytes : Int)) := by
    unfold Tr.sizeT; rw [h1]; simp only [Bool.false_eq_true, if_false]; exact may_size t h3 h1
  rw [h1, h2, h3, hs]
  simp only [Bool.false_eq_true, if_false, Bool.true_eq_false, or_false, sEq_self]
  rw [if_neg (by omega)]
end Go.Wk

