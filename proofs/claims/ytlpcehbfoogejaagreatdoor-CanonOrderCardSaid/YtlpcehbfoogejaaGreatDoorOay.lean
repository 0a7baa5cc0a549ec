/- A part of the proof: In which order things are made, and where they lay ahead, changes nothing of the tree. -/
import Derived.Test.YtlpcehbfoogejaaGreatDoorOax
import Derived.Test.YtlpcehbfoogejaaGreatDoorCards
import Derived.Test.YtlpcehbfoogejaaGreatDoorTie
import Derived.WalkKit
import Derived.ProofKit
import Derived.OpenShut
import Derived.Deep.DeepHandedRow
import Derived.Lib.LaidTab
/- A TABLE OF INODES: writing, modes, other entries, letting go: what always holds stays so. -/
namespace Go.Wk
open Go Go.HL
variable {A : AT}
/-- an inode is changed, but not what it names, nor its kind -/
theorem Inv.mod {N : Nat} (h : Inv A) (hb : Bd N A) {i : Int} {n n' : AN} (hn : A.get i = some n) (h1 : n'.kind = n.kind) (h2 : n'.up = n.up) (h3 : n'.ents = n.ents) (h4 : likeE n'.kind n'.mode n'.data = 0) (h5 : n'.links = n.links) {ub : Int} (hub : ub = A.ub + n'.data.size - n.data.size) (hq : ub ≤ A.qb) :
    Inv { A.set i n' with ub := ub } ∧ Bd N { A.set i n' with ub := ub } := by
  have hG : ∀ j, ({ A.set i n' with ub := ub } : AT).get j = if j = i then some n' else A.get j := fun j => AT.get_set A i j n'
  have hc : ∀ j m, ({ A.set i n' with ub := ub } : AT).get j = some m → ∃ m0, A.get j = some m0 ∧ m.kind = m0.kind ∧ m.up = m0.up ∧ m.ents = m0.ents ∧ m.links = m0.links ∧ likeE m.kind m.mode m.data = 0 := by
    intro j m hm
    rw [hG] at hm
    by_cases e : j = i
    · rw [if_pos e] at hm; cases hm; subst e; exact ⟨n, hn, h1, h2, h3, h5, h4⟩
    · rw [if_neg e] at hm; exact ⟨m, hm, rfl, rfl, rfl, rfl, h.like j m hm⟩
  have hx : ∀ j m, A.get j = some m → ∃ m', ({ A.set i n' with ub := ub } : AT).get j = some m' ∧ m'.kind = m.kind ∧ m'.up = m.up ∧ m'.ents = m.ents ∧ m'.links = m.links := by
    intro j m hm
    rw [hG]
    by_cases e : j = i
    · subst e; rw [if_pos rfl]; rw [hn] at hm; cases hm; exact ⟨n', rfl, h1, h2, h3, h5⟩
    · rw [if_neg e]; exact ⟨m, hm, rfl, rfl, rfl, rfl⟩
  have hsum : ∀ f : AN → Nat, sumF f (A.set i n').nodes + f n = sumF f A.nodes + f n' := by
    intro f
    have := AT.sum_set A f i n'
    rw [hn] at this; simpa using this
  have hrefs : ∀ j, ({ A.set i n' with ub := ub } : AT).refs j = A.refs j := by
    intro j
    have := hsum (cntE j)
    have e : cntE j n' = cntE j n := by unfold cntE; rw [h3]
    show sumF (cntE j) (A.set i n').nodes = sumF (cntE j) A.nodes
    omega
  have hupO : ∀ k, A.isDir k → ({ A.set i n' with ub := ub } : AT).upOf k = A.upOf k := by
    rintro k ⟨m, hm, _⟩
    obtain ⟨m', q1, _, q3, _⟩ := hx k m hm
    unfold AT.upOf; rw [hm, q1]; simp [q3]
  refine ⟨⟨?_, ?_, ?_, ?_, ?_, ?_, ?_, ?_, ?_, ?_, ?_, ?_, ?_⟩, ⟨?_, ?_, ?_⟩⟩
  · exact nodup_up h.nodup
  · intro j m hm; obtain ⟨m0, q1, _, _, q4, _⟩ := hc j m hm; rw [q4]; exact h.enod j m0 q1
  · obtain ⟨r, r1, r2, r3⟩ := h.root
    obtain ⟨m', q1, q2, q3, _⟩ := hx 1 r r1
    exact ⟨m', q1, by rw [q2, r2], by rw [q3, r3]⟩
  · intro j m hm; obtain ⟨m0, q1, _⟩ := hc j m hm; exact h.low j m0 q1
  · intro j m hm; obtain ⟨m0, _, _, _, _, _, q⟩ := hc j m hm; exact q
  · intro j m hm hk; obtain ⟨m0, q1, q2, _, q4, _⟩ := hc j m hm; rw [q4]; exact h.file j m0 q1 (by rw [← q2]; exact hk)
  · intro j m s t hm hs
    obtain ⟨m0, q1, _, _, q4, _⟩ := hc j m hm
    rw [q4] at hs
    obtain ⟨a1, a2, m1, a3, a4⟩ := h.ent j m0 s t q1 hs
    obtain ⟨m', b1, b2, b3, _⟩ := hx t m1 a3
    exact ⟨a1, a2, m', b1, fun hk => by rw [b3]; exact a4 (by rw [← b2]; exact hk)⟩
  · intro j m hm hj
    obtain ⟨m0, q1, q2, _, _, q5, _⟩ := hc j m hm
    rw [hrefs, q2, q5]; exact h.links j m0 q1 hj
  · rintro k ⟨m, hm, hk⟩
    obtain ⟨m0, q1, q2, _⟩ := hc k m hm
    have hd : A.isDir k := ⟨m0, q1, by rw [← q2]; exact hk⟩
    rw [deep_same h hupO 12 k hd]; exact h.deep k hd
  · have := hsum (fun _ => 1)
    rw [sumF_len, sumF_len] at this
    have e := h.ui
    show A.ui = (A.set i n').nodes.length
    omega
  · have := hsum (fun n => n.data.size)
    have e := h.ub
    show ub = (sumF (fun n : AN => n.data.size) (A.set i n').nodes : Nat)
    unfold AT.bytes at e
    omega
  · exact h.uq
  · exact ⟨hq, h.bq.2⟩
  · exact hb.last
  · intro j m hm; obtain ⟨m0, q1, _, _, _, q5, _⟩ := hc j m hm; rw [q5]; exact hb.links j m0 q1
  · intro j m hm; obtain ⟨m0, q1, _, _, q4, _⟩ := hc j m hm; rw [q4]; exact hb.ents j m0 q1
/-! ### Write -/
theorem likeE_file {mode : Int} {data : ByteArray} {d : ByteArray} (h : likeE 1 mode d = 0) : likeE 1 mode data = 0 := by
  unfold likeE kindOkE at h ⊢
  simpa [lk] using h
theorem writeR_ok {N : Nat} (h : Inv A) (hb : Bd N A) (ino : Int) (data : ByteArray) (hs : data.size < 4611686018427387904) : Inv (A.writeR ino data).2 ∧ Bd N (A.writeR ino data).2 ∧ ((A.writeR ino data).1 ≠ 0 → (A.writeR ino data).2 = A) ∧ (A.writeR ino data).2.qi = A.qi ∧ (A.writeR ino data).2.qb = A.qb := by
  unfold AT.writeR
  by_cases he : A.writeE ino data = 0
  case neg => rw [if_neg he]; exact ⟨h, hb, fun _ => rfl, rfl, rfl⟩
  rw [if_pos he]
  unfold AT.writeE at he
  obtain ⟨_, he⟩ := AT.firstE_z he
  obtain ⟨h1, he⟩ := AT.firstE_z he
  obtain ⟨h2, _⟩ := AT.firstE_z he
  obtain ⟨n, hn, hk⟩ := AT.fileE_z h1
  obtain ⟨_, hr⟩ := roomE_z h2
  have hsz := h.size_le hn
  have hub := h.ub_pos
  have hq := h.bq
  rw [hn] at hr
  simp only [Option.map_some, Option.getD_some] at hr
  have e1 : A.written ino data = { A.set ino { n with data := data } with ub := wr (A.ub + wr ((data.size : Int) - n.data.size)) } := by unfold AT.written; rw [hn]
  have w1 : wr ((data.size : Int) - n.data.size) = (data.size : Int) - n.data.size := wr_id (by omega) (by omega)
  rw [w1] at hr
  have w2 : wr (A.ub + ((data.size : Int) - n.data.size)) = A.ub + data.size - n.data.size := by rw [wr_id (by omega) (by omega)]; omega
  rw [w2] at hr
  rw [e1, w1, w2]
  have hlike : likeE n.kind n.mode data = 0 := by
    have := h.like ino n hn
    rw [hk] at this ⊢
    exact likeE_file this
  obtain ⟨a, b⟩ := h.mod hb hn (n' := { n with data := data }) rfl rfl rfl hlike rfl rfl hr
  exact ⟨a, b, fun h => absurd rfl h, rfl, rfl⟩
/-! ### Chmod -/
theorem likeE_mode {k m m' : Int} {d : ByteArray} (h : likeE k m d = 0) (h1 : 0 ≤ m' ∧ m' ≤ 511) : likeE k m' d = 0 := by
  unfold likeE at h ⊢
  by_cases hk : kindOkE k d = true
  · simp [hk, h1]
  · simp [hk] at h
theorem chmodR_ok {N : Nat} (h : Inv A) (hb : Bd N A) (ino mode : Int) : Inv (A.chmodR ino mode).2 ∧ Bd N (A.chmodR ino mode).2 ∧ ((A.chmodR ino mode).1 ≠ 0 → (A.chmodR ino mode).2 = A) ∧ (A.chmodR ino mode).2.qi = A.qi ∧ (A.chmodR ino mode).2.qb = A.qb := by
  unfold AT.chmodR
  by_cases he : A.chmodE ino mode = 0
  case neg => rw [if_neg he]; exact ⟨h, hb, fun _ => rfl, rfl, rfl⟩
  rw [if_pos he]
  unfold AT.chmodE at he
  obtain ⟨_, he⟩ := AT.firstE_z he
  obtain ⟨h1, he⟩ := AT.firstE_z he
  obtain ⟨h2, _⟩ := AT.firstE_z he
  have hm : 0 ≤ mode ∧ mode ≤ 511 := by
    by_cases hm : 0 ≤ mode ∧ mode ≤ 511
    · exact hm
    · rw [if_neg hm] at h1; cases h1
  cases hn : A.get ino with
  | none => rw [hn] at h2; simp at h2
  | some n =>
    have e1 : A.chmoded ino mode = { A.set ino { n with mode := mode } with ub := A.ub } := by unfold AT.chmoded AT.mod; rw [hn]; rfl
    rw [e1]
    obtain ⟨a, b⟩ := h.mod hb hn (n' := { n with mode := mode }) (ub := A.ub) rfl rfl rfl (likeE_mode (h.like ino n hn) hm) rfl (by show A.ub = A.ub + n.data.size - n.data.size; omega) h.bq.1
    exact ⟨a, b, fun h => absurd rfl h, rfl, rfl⟩
/-! ### Unlink -/
theorem unlinkE_z {dir : Int} {name : ByteArray} (he : A.unlinkE dir name = 0) : A.isDir dir ∧ ∃ j, A.find dir name = some j ∧ ∀ m, A.get j = some m → m.ents = [] := by
  unfold AT.unlinkE at he
  obtain ⟨_, he⟩ := AT.firstE_z he
  obtain ⟨h1, he⟩ := AT.firstE_z he
  obtain ⟨h2, he⟩ := AT.firstE_z he
  obtain ⟨h3, _⟩ := AT.firstE_z he
  refine ⟨AT.dirE_z h1, ?_⟩
  cases hf : A.find dir name with
  | none => rw [hf] at h2; simp at h2
  | some j =>
    refine ⟨j, rfl, fun m hm => ?_⟩
    rw [hf] at h3
    simp only [Option.getD_some, hm, Option.map_some] at h3
    by_cases hl : m.ents.length = 0
    · exact List.eq_nil_of_length_eq_zero hl
    · rw [if_neg hl] at h3; cases h3
theorem unlinkR_ok {N : Nat} (h : Inv A) (hb : Bd N A) (hN : N < 4611686018427387904) (dir : Int) (name : ByteArray) : Inv (A.unlinkR dir name).2 ∧ Bd N (A.unlinkR dir name).2 ∧ ((A.unlinkR dir name).1 ≠ 0 → (A.unlinkR dir name).2 = A) ∧ (A.unlinkR dir name).2.qi = A.qi ∧ (A.unlinkR dir name).2.qb = A.qb := by
  unfold AT.unlinkR
  by_cases he : A.unlinkE dir name = 0
  case neg => rw [if_neg he]; exact ⟨h, hb, fun _ => rfl, rfl, rfl⟩
  rw [if_pos he]
  obtain ⟨⟨nd, hd, hd2⟩, ino, hf, hem⟩ := unlinkE_z he
  obtain ⟨nd', hd', _, hlk, hi1, nn, hnn, hup⟩ := h.find hf
  rw [hd] at hd'; cases hd'
  have hens := hem nn hnn
  have hne : ino ≠ dir := by
    intro e; subst e; rw [hd] at hnn; cases hnn
    rw [hens] at hlk; simp [lk] at hlk
  obtain ⟨hl1, hl2, hl3⟩ := h.links ino nn hnn hi1
  -- the table with the entry gone and one link less
  have e1 : A.ent dir (rm name) = A.set dir { nd with ents := rm name nd.ents } := by unfold AT.ent; rw [hd]
  have g1 : (A.set dir { nd with ents := rm name nd.ents }).get ino = some nn := by rw [AT.get_set_ne _ _ hne]; exact hnn
  have hlb : nn.links ≤ N := hb.links ino nn hnn
  have wl : wr (nn.links - 1) = nn.links - 1 := wr_id (by omega) (by omega)
  let A1 : AT := (A.set dir { nd with ents := rm name nd.ents }).set ino { nn with links := nn.links - 1 }
  have e2 : A.unlinked dir name = if nn.links - 1 = 0 then { A1 with nodes := rm ino A1.nodes, ui := wr (A.ui - 1), ub := wr (A.ub - nn.data.size) } else A1 := by
    unfold AT.unlinked
    rw [hf]
    simp only [Option.getD_some]
    rw [e1]
    unfold AT.mod
    rw [g1]
    simp only
    rw [AT.get_set_self, wl]
    by_cases hz : nn.links - 1 = 0
    · rw [if_pos hz]
      have : (nn.links - 1 == 0) = true := by simpa using hz
      simp only [this]; rfl
    · rw [if_neg hz]
      have : (nn.links - 1 == 0) = false := by simpa using hz
      simp only [this]; rfl
  have hG1 : ∀ j, A1.get j = if j = ino then some { nn with links := nn.links - 1 } else if j = dir then some { nd with ents := rm name nd.ents } else A.get j := by
    intro j; show ((A.set dir _).set ino _).get j = _; rw [AT.get_set, AT.get_set]
  have hsum : ∀ f : AN → Nat, sumF f A1.nodes + f nd + f nn = sumF f A.nodes + f { nd with ents := rm name nd.ents } + f { nn with links := nn.links - 1 } := by
    intro f
    have q1 := AT.sum_set (A.set dir { nd with ents := rm name nd.ents }) f ino { nn with links := nn.links - 1 }
    have q2 := AT.sum_set A f dir { nd with ents := rm name nd.ents }
    rw [g1] at q1; rw [hd] at q2
    simp only [Option.map_some, Option.getD_some] at q1 q2
    show sumF f ((A.set dir { nd with ents := rm name nd.ents }).set ino { nn with links := nn.links - 1 }).nodes + f nd + f nn = _
    omega
  have hcE : ∀ j, cntE j { nd with ents := rm name nd.ents } + one j ino = cntE j nd := by
    intro j
    have := sumF_rm (one j) name nd.ents
    rw [hlk] at this
    simpa [cntE] using this
  have hrefs : ∀ j, A1.refs j + one j ino = A.refs j := by
    intro j
    have := hsum (cntE j)
    have e : cntE j { nn with links := nn.links - 1 } = cntE j nn := rfl
    have := hcE j
    unfold AT.refs
    omega
  have hN1 : (keysL A1.nodes).Nodup := nodup_up (nodup_up h.nodup)
  -- the end result's inodes
  let Z := A.unlinked dir name
  have hZ : ∀ j m, Z.get j = some m → (j = ino ∧ m = { nn with links := nn.links - 1 } ∧ nn.links - 1 ≠ 0) ∨ (j = dir ∧ m = { nd with ents := rm name nd.ents }) ∨ (j ≠ ino ∧ j ≠ dir ∧ A.get j = some m) := by
    intro j m hm
    have hm : (A.unlinked dir name).get j = some m := hm
    rw [e2] at hm
    by_cases hz : nn.links - 1 = 0
    · rw [if_pos hz] at hm
      have hm : lk j (rm ino A1.nodes) = some m := hm
      rw [lk_rm hN1] at hm
      by_cases e : j = ino
      · subst e; simp at hm
      · have : (j == ino) = false := by simpa using e
        rw [this] at hm
        have hm : A1.get j = some m := hm
        rw [hG1, if_neg e] at hm
        by_cases e' : j = dir
        · rw [if_pos e'] at hm; cases hm; exact .inr (.inl ⟨e', rfl⟩)
        · rw [if_neg e'] at hm; exact .inr (.inr ⟨e, e', hm⟩)
    · rw [if_neg hz] at hm
      rw [hG1] at hm
      by_cases e : j = ino
      · rw [if_pos e] at hm; cases hm; exact .inl ⟨e, rfl, hz⟩
      · rw [if_neg e] at hm
        by_cases e' : j = dir
        · rw [if_pos e'] at hm; cases hm; exact .inr (.inl ⟨e', rfl⟩)
        · rw [if_neg e'] at hm; exact .inr (.inr ⟨e, e', hm⟩)
  have hXn : ∀ j m, A.get j = some m → j ≠ ino → ∃ m', Z.get j = some m' ∧ m'.kind = m.kind ∧ m'.up = m.up ∧ m'.links = m.links := by
    intro j m hm hj
    show ∃ m', (A.unlinked dir name).get j = some m' ∧ _
    have key : ∃ m', A1.get j = some m' ∧ m'.kind = m.kind ∧ m'.up = m.up ∧ m'.links = m.links := by
      rw [hG1, if_neg hj]
      by_cases e' : j = dir
      · subst e'; rw [if_pos rfl]; rw [hd] at hm; cases hm; exact ⟨_, rfl, rfl, rfl, rfl⟩
      · rw [if_neg e']; exact ⟨m, hm, rfl, rfl, rfl⟩
    obtain ⟨m', q1, q2⟩ := key
    refine ⟨m', ?_, q2⟩
    rw [e2]
    by_cases hz : nn.links - 1 = 0
    · rw [if_pos hz]
      show lk j (rm ino A1.nodes) = some m'
      rw [lk_rm hN1]
      have : (j == ino) = false := by simpa using hj
      rw [this]; exact q1
    · rw [if_neg hz]; exact q1
  have hlz : nn.links - 1 = 0 ↔ A.refs ino = 1 := by omega
  have hone : one ino ino = 1 := by unfold one; simp
  have hZr : ∀ j, Z.refs j + one j ino = A.refs j := by
    intro j
    show (A.unlinked dir name).refs j + _ = _
    rw [e2]
    by_cases hz : nn.links - 1 = 0
    · rw [if_pos hz]
      have q := sumF_rm (cntE j) ino A1.nodes
      have g2 : lk ino A1.nodes = some { nn with links := nn.links - 1 } := by have := hG1 ino; rw [if_pos rfl] at this; exact this
      rw [g2] at q
      have e0 : cntE j { nn with links := nn.links - 1 } = 0 := by unfold cntE; simp only; rw [hens]; rfl
      simp only [Option.map_some, Option.getD_some, e0] at q
      have := hrefs j
      unfold AT.refs at this ⊢
      show sumF (cntE j) (rm ino A1.nodes) + _ = _
      omega
    · rw [if_neg hz]; exact hrefs j
  -- nothing that stays names what goes
  have hgone : nn.links - 1 = 0 → ∀ j m s, Z.get j = some m → lk s m.ents ≠ some ino := by
    intro hz j m s hm hs
    have h0 : Z.refs ino = 0 := by have := hZr ino; rw [hone] at this; omega
    have hnd : (keysL Z.nodes).Nodup := by
      show (keysL (A.unlinked dir name).nodes).Nodup
      rw [e2, if_pos hz]; exact nodup_rm hN1
    have a := sumF_ge (f := cntE ino) (show lk j Z.nodes = some m from hm)
    have b := sumF_ge (f := one ino) hs
    unfold AT.refs at h0
    have : one ino ino ≤ cntE ino m := b
    omega
  have hnokid : ∀ k, A.isDir k → k ≠ 1 → A.upOf k ≠ ino := by
    intro k hk hk1 e
    obtain ⟨s, hs⟩ := h.named hk hk1
    rw [e] at hs
    unfold AT.find at hs; rw [hnn] at hs
    have hs : lk s nn.ents = some k := hs
    rw [hens] at hs; simp [lk] at hs
  have hq := h.uq
  have hq2 := h.bq
  have hui := h.ui_pos
  have hub := h.ub_pos
  have hszl := h.size_le hnn
  have hqs : Z.qi = A.qi ∧ Z.qb = A.qb ∧ Z.last = A.last := by
    show (A.unlinked dir name).qi = _ ∧ (A.unlinked dir name).qb = _ ∧ (A.unlinked dir name).last = _
    rw [e2]; split <;> exact ⟨rfl, rfl, rfl⟩
  have huse : (nn.links - 1 = 0 → Z.ui = A.ui - 1 ∧ Z.ub = A.ub - nn.data.size) ∧ (nn.links - 1 ≠ 0 → Z.ui = A.ui ∧ Z.ub = A.ub) := by
    refine ⟨fun hz => ?_, fun hz => ?_⟩
    · show (A.unlinked dir name).ui = _ ∧ (A.unlinked dir name).ub = _
      rw [e2, if_pos hz]
      exact ⟨wr_id (by omega) (by omega), wr_id (by omega) (by omega)⟩
    · show (A.unlinked dir name).ui = _ ∧ (A.unlinked dir name).ub = _
      rw [e2, if_neg hz]; exact ⟨rfl, rfl⟩
  have hZsum : ∀ f : AN → Nat, (f { nd with ents := rm name nd.ents } = f nd) → f { nn with links := nn.links - 1 } = f nn → (nn.links - 1 = 0 → sumF f Z.nodes + f nn = sumF f A.nodes) ∧ (nn.links - 1 ≠ 0 → sumF f Z.nodes = sumF f A.nodes) := by
    intro f hf1 hf2
    have q := hsum f
    rw [hf1, hf2] at q
    refine ⟨fun hz => ?_, fun hz => ?_⟩
    · show sumF f (A.unlinked dir name).nodes + _ = _
      rw [e2, if_pos hz]
      have q2 := sumF_rm f ino A1.nodes
      have g2 : lk ino A1.nodes = some { nn with links := nn.links - 1 } := by have := hG1 ino; rw [if_pos rfl] at this; exact this
      rw [g2] at q2
      simp only [Option.map_some, Option.getD_some, hf2] at q2
      show sumF f (rm ino A1.nodes) + _ = _
      omega
    · show sumF f (A.unlinked dir name).nodes = _
      rw [e2, if_neg hz]; omega
  show Inv Z ∧ Bd N Z ∧ ((0 : Int) ≠ 0 → Z = A) ∧ Z.qi = A.qi ∧ Z.qb = A.qb
  refine ⟨⟨?_, ?_, ?_, ?_, ?_, ?_, ?_, ?_, ?_, ?_, ?_, ?_, ?_⟩, ⟨?_, ?_, ?_⟩, fun h => absurd rfl h, hqs.1, hqs.2.1⟩
  · show (keysL (A.unlinked dir name).nodes).Nodup
    rw [e2]
    split
    · exact nodup_rm hN1
    · exact hN1
  · intro j m hm
    rcases hZ j m hm with ⟨_, rfl, _⟩ | ⟨_, rfl⟩ | ⟨_, _, hm⟩
    · exact h.enod ino nn hnn
    · exact nodup_rm (h.enod dir nd hd)
    · exact h.enod j m hm
  · obtain ⟨r, r1, r2, r3⟩ := h.root
    obtain ⟨m', q1, q2, q3, _⟩ := hXn 1 r r1 (fun e => hi1 e.symm)
    exact ⟨m', q1, by rw [q2, r2], by rw [q3, r3]⟩
  · intro j m hm
    rw [hqs.2.2]
    rcases hZ j m hm with ⟨rfl, _, _⟩ | ⟨rfl, _⟩ | ⟨_, _, hm⟩
    · exact h.low _ nn hnn
    · exact h.low _ nd hd
    · exact h.low j m hm
  · intro j m hm
    rcases hZ j m hm with ⟨_, rfl, _⟩ | ⟨_, rfl⟩ | ⟨_, _, hm⟩
    · exact h.like ino nn hnn
    · exact h.like dir nd hd
    · exact h.like j m hm
  · intro j m hm hk
    rcases hZ j m hm with ⟨_, rfl, _⟩ | ⟨_, rfl⟩ | ⟨_, _, hm⟩
    · exact hens
    · exact absurd hd2 hk
    · exact h.file j m hm hk
  · intro j m s t hm hs
    have hold : ∃ m0, A.get j = some m0 ∧ lk s m0.ents = some t := by
      rcases hZ j m hm with ⟨rfl, rfl, _⟩ | ⟨rfl, rfl⟩ | ⟨_, _, hm⟩
      · exact ⟨nn, hnn, hs⟩
      · simp only [lk_rm (h.enod j nd hd)] at hs
        by_cases e : (s == name) = true
        · rw [if_pos e] at hs; cases hs
        · rw [if_neg e] at hs; exact ⟨nd, hd, hs⟩
      · exact ⟨m, hm, hs⟩
    obtain ⟨m0, q1, q2⟩ := hold
    obtain ⟨a1, a2, m1, a3, a4⟩ := h.ent j m0 s t q1 q2
    refine ⟨a1, a2, ?_⟩
    by_cases e : t = ino
    · subst e
      by_cases hz : nn.links - 1 = 0
      · exact absurd hs (hgone hz j m s hm)
      · rw [hnn] at a3; cases a3
        have : Z.get t = some { nn with links := nn.links - 1 } := by
          show (A.unlinked dir name).get t = _
          rw [e2, if_neg hz, hG1, if_pos rfl]
        exact ⟨_, this, a4⟩
    · obtain ⟨m', b1, b2, b3, _⟩ := hXn t m1 a3 e
      exact ⟨m', b1, fun hk => by rw [b3]; exact a4 (by rw [← b2]; exact hk)⟩
  · intro j m hm hj
    have hr := hZr j
    rcases hZ j m hm with ⟨rfl, rfl, hz⟩ | ⟨rfl, rfl⟩ | ⟨hji, _, hm⟩
    · rw [hone] at hr
      refine ⟨?_, by omega, fun hk => ?_⟩
      · show nn.links - 1 = _; omega
      · have := hl3 hk; omega
    · have : one j ino = 0 := by unfold one; rw [if_neg hne]
      rw [this] at hr
      have := h.links j nd hd hj
      simp only at this ⊢
      rw [← hr] at this; exact this
    · have : one j ino = 0 := by unfold one; rw [if_neg (fun e => hji e.symm)]
      rw [this] at hr
      have := h.links j m hm hj
      rw [← hr] at this; exact this
  · rintro k ⟨m, hm, hk⟩
    have hkd : A.isDir k ∧ (k ≠ ino) := by
      rcases hZ k m hm with ⟨rfl, rfl, hz⟩ | ⟨rfl, rfl⟩ | ⟨hji, _, hm⟩
      · exfalso; exact hz (hlz.2 (hl3 hk))
      · exact ⟨⟨nd, hd, hk⟩, hne.symm⟩
      · exact ⟨⟨m, hm, hk⟩, hji⟩
    have hdd : Z.deep 12 k = A.deep 12 k := by
      refine deep_on (S := fun k => A.isDir k ∧ k ≠ ino) (fun k hk h1 => ⟨h.isDir_up hk.1, hnokid k hk.1 h1⟩) (fun k hk h1 => ?_) 12 k hkd
      obtain ⟨⟨m, hm, _⟩, hki⟩ := hk
      obtain ⟨m', q1, _, q3, _⟩ := hXn k m hm hki
      unfold AT.upOf; rw [hm, q1]; simp [q3]
    rw [hdd]; exact h.deep k hkd.1
  · have q := hZsum (fun _ => 1) rfl rfl
    rw [sumF_len, sumF_len] at q
    have e := h.ui
    by_cases hz : nn.links - 1 = 0
    · rw [(huse.1 hz).1]; have := q.1 hz; omega
    · rw [(huse.2 hz).1]; have := q.2 hz; omega
  · have q := hZsum (fun n => n.data.size) rfl rfl
    have e := h.ub
    unfold AT.bytes at e
    show Z.ub = (sumF (fun n : AN => n.data.size) Z.nodes : Nat)
    by_cases hz : nn.links - 1 = 0
    · rw [(huse.1 hz).2]; have := q.1 hz; omega
    · rw [(huse.2 hz).2]; have := q.2 hz; omega
  · rw [hqs.1]
    by_cases hz : nn.links - 1 = 0
    · rw [(huse.1 hz).1]; omega
    · rw [(huse.2 hz).1]; exact hq
  · rw [hqs.2.1]
    by_cases hz : nn.links - 1 = 0
    · rw [(huse.1 hz).2]; omega
    · rw [(huse.2 hz).2]; exact hq2
  · rw [hqs.2.2]; exact hb.last
  · intro j m hm
    rcases hZ j m hm with ⟨_, rfl, _⟩ | ⟨rfl, rfl⟩ | ⟨_, _, hm⟩
    · show nn.links - 1 ≤ N; omega
    · exact hb.links _ nd hd
    · exact hb.links j m hm
  · intro j m hm
    rcases hZ j m hm with ⟨_, rfl, _⟩ | ⟨rfl, rfl⟩ | ⟨_, _, hm⟩
    · exact hb.ents _ nn hnn
    · have := hb.ents _ nd hd
      have := (rm_sub (k := name) (l := nd.ents)).length_le
      show (rm name nd.ents).length ≤ N; omega
    · exact hb.ents j m hm
theorem newT_ok {qi qb : Int} (h : newOk qi qb = true) : Inv (newT qi qb) ∧ Bd 1 (newT qi qb) := by
  have hq : 1 ≤ qi ∧ qi ≤ 1048576 ∧ 0 ≤ qb ∧ qb ≤ 1073741824 := by
    unfold newOk at h
    simp at h
    omega
  have hg : ∀ i n, (newT qi qb).get i = some n → i = 1 ∧ n = ⟨2, 493, ⟨⟨[]⟩⟩, 1, 1, []⟩ := by
    intro i n hn
    have hn : lk i [((1 : Int), (⟨2, 493, ⟨⟨[]⟩⟩, 1, 1, []⟩ : AN))] = some n := hn
    simp only [lk] at hn
    cases hb : (i == 1) with
    | true => rw [hb] at hn; cases hn; exact ⟨by simpa using hb, rfl⟩
    | false => rw [hb] at hn; cases hn
  refine ⟨⟨?_, ?_, ?_, ?_, ?_, ?_, ?_, ?_, ?_, rfl, rfl, ⟨hq.1, hq.2.1⟩, ⟨hq.2.2.1, hq.2.2.2⟩⟩, ⟨?_, ?_, ?_⟩⟩
  · show [(1 : Int)].Nodup; simp
  · intro i n hn; obtain ⟨_, rfl⟩ := hg i n hn; exact List.nodup_nil
  · exact ⟨_, rfl, rfl, rfl⟩
  · intro i n hn; obtain ⟨rfl, rfl⟩ := hg i n hn; show (1 : Int) ≤ 1 ∧ (1 : Int) ≤ 1; omega
  · intro i n hn; obtain ⟨_, rfl⟩ := hg i n hn; rfl
  · intro i n hn; obtain ⟨_, rfl⟩ := hg i n hn; intro _; rfl
  · intro i n s j hn hs; obtain ⟨_, rfl⟩ := hg i n hn; simp [lk] at hs
  · intro i n hn h1; exact absurd (hg i n hn).1 h1
  · rintro i ⟨n, hn, _⟩; obtain ⟨rfl, _⟩ := hg i n hn; exact ⟨1, rfl⟩
  · show (1 : Int) ≤ (1 : Nat); omega
  · intro i n hn; obtain ⟨_, rfl⟩ := hg i n hn; show (1 : Int) ≤ (1 : Nat); omega
  · intro i n hn; obtain ⟨_, rfl⟩ := hg i n hn; show (0 : Nat) ≤ 1; omega
end Go.Wk

/- LAYING A TREE that may be, where there is room: it lies there, just so. -/
namespace Go.Wk
open Go Go.HL
mutual
def Tr.count : Tr → Nat
  | .mk _ _ _ _ kids => 1 + Tr.countRow kids
def Tr.countRow : List Tr → Nat
  | [] => 0
  | t :: r => Tr.count t + Tr.countRow r
end
mutual
def Tr.bytes : Tr → Nat
  | .mk _ _ _ d kids => d.size + Tr.bytesRow kids
def Tr.bytesRow : List Tr → Nat
  | [] => 0
  | t :: r => Tr.bytes t + Tr.bytesRow r
end
theorem Tr.count_eq (t : Tr) : t.count = 1 + Tr.countRow t.kids := by obtain ⟨n, k, e, d, kids⟩ := t; simp only [Tr.count, Tr.kids]
theorem Tr.bytes_eq (t : Tr) : t.bytes = t.data.size + Tr.bytesRow t.kids := by obtain ⟨n, k, e, d, kids⟩ := t; simp only [Tr.bytes, Tr.kids, Tr.data]
theorem Tr.may_eq (t : Tr) : t.may = if t.kind = 1 then t.kids.isEmpty else if t.kind = 3 then t.kids.isEmpty && (!t.exec && linkOk t.data) else if t.kind = 2 then !t.exec && (sEq t.data ⟨⟨[]⟩⟩ && Tr.mayRow none t.kids) else false := by
  obtain ⟨n, k, e, d, kids⟩ := t
  rw [Tr.may]; rfl
theorem fold_gr (f : Tr → Int) : ∀ (l : List Tr) (d : Int), d ≤ l.foldl (fun d x => gr d (f x)) d ∧ ∀ x ∈ l, f x ≤ l.foldl (fun d x => gr d (f x)) d := by
  intro l
  induction l with
  | nil => intro d; exact ⟨Int.le_refl _, by simp⟩
  | cons y r ih =>
    intro d
    simp only [List.foldl_cons]
    obtain ⟨h1, h2⟩ := ih (gr d (f y))
    have hg : d ≤ gr d (f y) ∧ f y ≤ gr d (f y) := by unfold gr; split <;> omega
    refine ⟨by omega, fun x hx => ?_⟩
    rcases List.mem_cons.1 hx with e | e
    · subst e; omega
    · exact h2 x e
theorem deep_stays : ∀ (m : Nat) (t : Tr), t.deep m < m → t.deep (m + 1) = t.deep m := by
  intro m
  induction m with
  | zero => intro t h; simp [Tr.deep] at h
  | succ m ih =>
    intro t h
    unfold Tr.deep at h ⊢
    by_cases hk : t.kind ≠ 2
    · rw [if_pos (.inl hk), if_pos (.inl hk)]
    · by_cases hm : m = 0
      · subst hm; rw [if_pos (.inr rfl)] at h; omega
      · have c1 : ¬ (t.kind ≠ 2 ∨ m = 0) := by rintro (h | h); exact hk h; exact hm h
        have c2 : ¬ (t.kind ≠ 2 ∨ m + 1 = 0) := by rintro (h | h); exact hk h; omega
        rw [if_neg c1] at h
        rw [if_neg c2, if_neg c1]
        have hx : ∀ x ∈ t.kids, Tr.deep (m + 1) x = Tr.deep m x := by
          intro x hx
          have := (fold_gr (fun x => 1 + Tr.deep m x) t.kids 1).2 x hx
          exact ih x (by omega)
        have key : ∀ (l : List Tr) (d : Int), (∀ x ∈ l, Tr.deep (m + 1) x = Tr.deep m x) → l.foldl (fun d x => gr d (1 + Tr.deep (m + 1) x)) d = l.foldl (fun d x => gr d (1 + Tr.deep m x)) d := by
          intro l
          induction l with
          | nil => intro d _; rfl
          | cons y r ihr => intro d h; simp only [List.foldl_cons]; rw [h y (List.mem_cons_self ..)]; exact ihr _ fun x hx => h x (List.mem_cons_of_mem _ hx)
        exact key t.kids 1 hx
theorem kid_shallow {t x : Tr} (hk : t.kind = 2) (h : t.tooDeep = false) (hx : x ∈ t.kids) : x.tooDeep = false := by
  unfold Tr.tooDeep at h ⊢
  simp only [decide_eq_false_iff_not] at h ⊢
  have h2 : t.deep 14 = t.kids.foldl (fun d x => gr d (1 + Tr.deep 13 x)) 1 := by
    rw [Tr.deep, if_neg (by rintro (h | h); exact h hk; omega)]
  have := (fold_gr (fun x => 1 + Tr.deep 13 x) t.kids 1).2 x hx
  rw [h2] at h
  rw [deep_stays 13 x (by omega)]
  omega
/-- kids that may be -/
theorem may_kids {t : Tr} (h : t.may = true) : t.kids = [] ∨ (t.kind = 2 ∧ Tr.mayRow none t.kids = true) := by
  rw [Tr.may_eq] at h
  by_cases k1 : t.kind = 1
  · rw [if_pos k1] at h; exact .inl (List.isEmpty_iff.1 h)
  · rw [if_neg k1] at h
    by_cases k3 : t.kind = 3
    · rw [if_pos k3] at h; simp only [Bool.and_eq_true] at h; exact .inl (List.isEmpty_iff.1 h.1)
    · rw [if_neg k3] at h
      by_cases k2 : t.kind = 2
      · rw [if_pos k2] at h; simp only [Bool.and_eq_true] at h; exact .inr ⟨k2, h.2.2⟩
      · rw [if_neg k2] at h; cases h
theorem mayRow_all : ∀ {l : List Tr} {p : Option ByteArray}, Tr.mayRow p l = true → ∀ x ∈ l, mayName x.name = true ∧ x.may = true := by
  intro l
  induction l with
  | nil => intro p _ x hx; simp at hx
  | cons y r ih =>
    intro p h x hx
    simp only [Tr.mayRow, Bool.and_eq_true] at h
    rcases List.mem_cons.1 hx with e | e
    · subst e; exact ⟨h.1, h.2.1⟩
    · exact ih h.2.2.2 x e
theorem may_size : ∀ t : Tr, t.may = true → t.tooDeep = false → t.size = ((t.count : Int), (t.bytes : Int)) := by
  refine Tr.ind ?_
  intro t ih hm hd
  have hsz : t.size = Tr.sizeRow t.kids (1, (t.data.size : Int)) := by obtain ⟨n, k, e, d, kids⟩ := t; simp only [Tr.size, Tr.kids, Tr.data]
  have key : ∀ (l : List Tr) (a b : Nat), (∀ x ∈ l, x ∈ t.kids) → Tr.sizeRow l ((a : Int), (b : Int)) = (((a + Tr.countRow l : Nat) : Int), ((b + Tr.bytesRow l : Nat) : Int)) := by
    intro l
    induction l with
    | nil => intro a b _; simp [Tr.sizeRow, Tr.countRow, Tr.bytesRow]
    | cons x r ihl =>
      intro a b hx
      have hx0 := hx x (List.mem_cons_self ..)
      rcases may_kids hm with h0 | ⟨hk, hrow⟩
      · rw [h0] at hx0; simp at hx0
      · have hsh := kid_shallow hk hd hx0
        have := ih x hx0 (mayRow_all hrow x hx0).2 hsh
        simp only [Tr.sizeRow, hsh, Bool.false_eq_true, if_false, this, Tr.countRow, Tr.bytesRow]
        have h2 := ihl (a + x.count) (b + x.bytes) (fun y hy => hx y (List.mem_cons_of_mem _ hy))
        simp only [Int.natCast_add] at h2 ⊢
        rw [h2, Int.add_assoc, Int.add_assoc]
  have := key t.kids 1 t.data.size (fun _ h => h)
  rw [hsz, Tr.count_eq, Tr.bytes_eq]
  exact this
/-! ### What lies there -/
mutual
def Lies (A : AT) : Tr → Int → Prop
  | .mk _ k e d kids, i => ∃ n, A.get i = some n ∧ n.kind = k ∧ n.mode = modeOf k e ∧ n.data = d ∧ n.links = 1 ∧ keysL n.ents = kids.map Tr.name ∧ LiesRow A i n.ents kids
def LiesRow (A : AT) (i : Int) (es : List (ByteArray × Int)) : List Tr → Prop
  | [] => True
  | t :: r => (∃ j, i < j ∧ lk t.name es = some j ∧ Lies A t j) ∧ LiesRow A i es r
end
theorem lies_iff {A : AT} {t : Tr} {i : Int} : Lies A t i ↔ ∃ n, A.get i = some n ∧ n.kind = t.kind ∧ n.mode = modeOf t.kind t.exec ∧ n.data = t.data ∧ n.links = 1 ∧ keysL n.ents = t.kids.map Tr.name ∧ LiesRow A i n.ents t.kids := by
  obtain ⟨nm, k, e, d, kids⟩ := t
  simp only [Lies, Tr.kind, Tr.exec, Tr.data, Tr.kids]
theorem liesRow_iff {A : AT} {i : Int} {es : List (ByteArray × Int)} : ∀ {l : List Tr}, LiesRow A i es l ↔ ∀ x ∈ l, ∃ j, i < j ∧ lk x.name es = some j ∧ Lies A x j := by
  intro l
  induction l with
  | nil => simp [LiesRow]
  | cons y r ih => simp only [LiesRow, ih, List.mem_cons, forall_eq_or_imp]
theorem Lies.frame {A A' : AT} : ∀ (t : Tr) (i : Int), Lies A t i → (∀ k n, i ≤ k → A.get k = some n → A'.get k = some n) → Lies A' t i := by
  refine Tr.ind ?_
  intro t ih i h hf
  rw [lies_iff] at h ⊢
  obtain ⟨n, h1, h2, h3, h4, h5, h6, h7⟩ := h
  refine ⟨n, hf i n (Int.le_refl _) h1, h2, h3, h4, h5, h6, ?_⟩
  rw [liesRow_iff] at h7 ⊢
  intro x hx
  obtain ⟨j, q1, q2, q3⟩ := h7 x hx
  exact ⟨j, q1, q2, ih x hx j q3 fun k n hk hn => hf k n (by omega) hn⟩
end Go.Wk

/- A FILE SYSTEM's OPERATIONS keep what always holds; what fails changes nothing. -/
namespace Go.Wk
open Go Go.HL
structure OpOk (N : Nat) (A : AT) (r : Int × AT) : Prop where
  inv : Inv r.2
  bd : Bd N r.2
  same : r.1 ≠ 0 → r.2 = A
  qi : r.2.qi = A.qi
  qb : r.2.qb = A.qb
variable {A : AT} {N : Nat}
theorem OpOk.self (h : Inv A) (hb : Bd N A) (e : Int) : OpOk N A (e, A) := ⟨h, hb, fun _ => rfl, rfl, rfl⟩
theorem OpOk.mono {M : Nat} {r : Int × AT} (h : OpOk N A r) (hl : N ≤ M) : OpOk M A r := ⟨h.inv, h.bd.mono hl, h.same, h.qi, h.qb⟩
theorem make_op (h : Inv A) (hb : Bd N A) (hN : N < 4611686018427387904) {dir : Int} {name : ByteArray} {kind mode : Int} {data : ByteArray} (hs : data.size < 4611686018427387904) (hdp : A.isDir dir → kind = 2 → ∃ d, A.deep 11 dir = some d) : OpOk (N + 1) A ((A.makeR dir name kind mode data).2.1, (A.makeR dir name kind mode data).2.2) := by
  obtain ⟨h1, h2, h3⟩ := makeR_ok (dir := dir) (name := name) (kind := kind) (mode := mode) (data := data) h hb hN hs hdp
  refine ⟨h1, h2, fun he => ?_, h3.qi, h3.qb⟩
  by_cases he' : A.makeE dir name kind mode data = 0
  · rw [makeR_z he'] at he; exact absurd rfl he
  · rw [makeR_n he']
theorem mkdirF_ok (h : Inv A) (hb : Bd N A) (hN : N < 4611686018427387904) (cwd path : ByteArray) : OpOk (N + 1) A (A.mkdirF cwd path) := by
  unfold AT.mkdirF
  simp only
  by_cases h1 : (A.freshP cwd path).1 ≠ 0
  · rw [if_pos h1]; exact OpOk.self h (hb.mono (by omega)) _
  rw [if_neg h1]
  by_cases h2 : (A.deep 13 (A.freshP cwd path).2.dir).getD 0 ≥ 12
  · rw [if_pos h2]; exact OpOk.self h (hb.mono (by omega)) _
  rw [if_neg h2]
  refine make_op h hb hN (by decide) fun hd _ => ?_
  obtain ⟨d, hd13, hd12, _⟩ := h.deep13 hd
  rw [hd13] at h2
  simp only [Option.getD_some] at h2
  exact ⟨d, deep_low hd12 11 (by omega)⟩
theorem symlinkF_ok (h : Inv A) (hb : Bd N A) (hN : N < 4611686018427387904) (cwd target path : ByteArray) : OpOk (N + 1) A (A.symlinkF cwd target path) := by
  unfold AT.symlinkF
  simp only
  cases hl : linkOk target with
  | false => exact OpOk.self h (hb.mono (by omega)) _
  | true =>
    simp only [Bool.true_eq_false, if_false]
    by_cases h1 : (A.freshP cwd path).1 ≠ 0
    · rw [if_pos h1]; exact OpOk.self h (hb.mono (by omega)) _
    rw [if_neg h1]
    refine make_op h hb hN ?_ (fun _ hk => by cases hk)
    unfold linkOk at hl
    simp only [Bool.and_eq_true, decide_eq_true_eq] at hl
    omega
theorem writeF_ok (h : Inv A) (hb : Bd N A) (hN : N < 4611686018427387904) (cwd path data : ByteArray) (more : Bool) (hs : data.size < 2305843009213693952) : OpOk (N + 1) A (A.writeF cwd path data more) := by
  unfold AT.writeF
  simp only
  by_cases h1 : (A.locate cwd path true).1 ≠ 0
  · rw [if_pos h1]; exact OpOk.self h (hb.mono (by omega)) _
  rw [if_neg h1]
  by_cases h2 : (A.locate cwd path true).2.there = false
  · rw [if_pos h2]; exact make_op h hb hN (by omega) (fun _ hk => by cases hk)
  rw [if_neg h2]
  by_cases h3 : A.kind (A.locate cwd path true).2.ino = 2
  · rw [if_pos h3]; exact OpOk.self h (hb.mono (by omega)) _
  rw [if_neg h3]
  obtain ⟨a, b, c, d, e⟩ := writeR_ok h hb (A.locate cwd path true).2.ino (if more then A.data (A.locate cwd path true).2.ino ++ data else data) (by
    have hq := h.bq
    cases more with
    | false => simp only [Bool.false_eq_true, if_false]; omega
    | true =>
      simp only [if_true, ByteArray.size_append]
      have : (A.data (A.locate cwd path true).2.ino).size ≤ 1073741824 := by
        unfold AT.data
        cases hg : A.get (A.locate cwd path true).2.ino with
        | none => decide
        | some n => have := h.size_le hg; show n.data.size ≤ _; omega
      omega)
  exact ⟨a, b.mono (by omega), c, d, e⟩
theorem chmodF_ok (h : Inv A) (hb : Bd N A) (cwd path : ByteArray) (mode : Int) : OpOk N A (A.chmodF cwd path mode) := by
  unfold AT.chmodF
  simp only
  split
  · exact OpOk.self h hb _
  split
  · exact OpOk.self h hb _
  obtain ⟨a, b, c, d, e⟩ := chmodR_ok h hb (A.with_ cwd path true).2.1 mode
  exact ⟨a, b, c, d, e⟩
end Go.Wk

/- PATHS THAT ARE GONE along directories; what lies at them. -/
namespace Go.Wk
open Go Go.HL
theorem splitL_app {c : UInt8} {b : List UInt8} : ∀ a : List UInt8, splitL c (a ++ c :: b) = splitL c a ++ splitL c b := by
  intro a
  induction a with
  | nil => simp [splitL]
  | cons x a ih =>
    simp only [List.cons_append, splitL]
    cases (x == c) with
    | true => simp [ih]
    | false =>
      simp only [ih]
      cases hs : splitL c a with
      | nil => exact absurd hs (splitL_ne a)
      | cons h t => simp
theorem app_data (a b : ByteArray) : (a ++ b).data.toList = a.data.toList ++ b.data.toList := by rw [ByteArray.data_append, Array.toList_append]
theorem badByte_mem {s : ByteArray} (h : badByte s = false) : (47 : UInt8) ∉ s.data.toList ∧ (0 : UInt8) ∉ s.data.toList := by
  unfold badByte at h
  rw [List.any_eq_false] at h
  exact ⟨fun hm => h 47 hm (by decide), fun hm => h 0 hm (by decide)⟩
theorem okPart_of {n : ByteArray} (h : nameOk n) : okPart n = true := by
  unfold okPart; rw [sEq_false h.1, sEq_false h.2.1]; rfl
/-- one name more -/
def sub (p n : ByteArray) : ByteArray := (p ++ ⟨⟨[47]⟩⟩) ++ n
theorem sub_data (p n : ByteArray) : (sub p n).data.toList = p.data.toList ++ 47 :: n.data.toList := by
  unfold sub; rw [app_data, app_data, List.append_assoc]; rfl
theorem parts_sub {p n : ByteArray} (h : nameOk n) : partsB (sub p n) = partsB p ++ [n] := by
  have h47 := (badByte_mem h.2.2).1
  unfold partsB
  rw [sub_data, splitL_app, splitL_none h47, List.map_append, List.filter_append]
  congr 1
  show List.filter okPart [n] = [n]
  simp [okPart_of h]
theorem nul_sub {p n : ByteArray} (h : nameOk n) (hp : hasNul p = false) : hasNul (sub p n) = false := by
  have h0 := (badByte_mem h.2.2).2
  unfold hasNul at hp ⊢
  rw [sub_data, List.any_append, hp, List.any_cons, Bool.false_or]
  rw [Bool.or_eq_false_iff]
  refine ⟨by decide, ?_⟩
  rw [List.any_eq_false]
  intro x hx hb
  have : x = 0 := by simpa using hb
  subst this; exact h0 hx
theorem head_sub {p n : ByteArray} {c : UInt8} (hp : headIs c p = true) : headIs c (sub p n) = true := by
  unfold headIs at hp ⊢
  rw [sub_data]
  cases hl : p.data.toList with
  | nil => rw [hl] at hp; cases hp
  | cons x r => rw [hl] at hp; exact hp
theorem sub_size (p n : ByteArray) : (sub p n).size = p.size + 1 + n.size := by
  unfold sub; rw [ByteArray.size_append, ByteArray.size_append]; rfl
/-- along directories -/
def Chain (A : AT) : Int → List ByteArray → Int → Prop
  | d, [], i => d = i
  | d, n :: r, i => A.kind d = 2 ∧ ∃ j, A.find d n = some j ∧ Chain A j r i
theorem Chain.snoc {A : AT} {n : ByteArray} {i j : Int} : ∀ {l : List ByteArray} {d : Int}, Chain A d l i → A.kind i = 2 → A.find i n = some j → Chain A d (l ++ [n]) j := by
  intro l
  induction l with
  | nil => intro d h h1 h2; have h : d = i := h; subst h; exact ⟨h1, j, h2, rfl⟩
  | cons x r ih =>
    intro d h h1 h2
    obtain ⟨a, k, b, c⟩ := h
    exact ⟨a, k, b, ih c h1 h2⟩
def stepOk (n : ByteArray) : Prop := n ≠ ⟨⟨[46, 46]⟩⟩ ∧ n.size ≤ 56
/-- a path that leads to an inode -/
structure PathTo (A : AT) (p : ByteArray) (i : Int) : Prop where
  head : headIs 47 p = true
  nul : hasNul p = false
  chain : Chain A 1 (partsB p) i
  names : ∀ n ∈ partsB p, stepOk n
theorem PathTo.sub {A : AT} {p n : ByteArray} {i j : Int} (h : PathTo A p i) (hk : A.kind i = 2) (hf : A.find i n = some j) (hn : mayName n = true) : PathTo A (Wk.sub p n) j := by
  unfold mayName at hn
  simp only [Bool.and_eq_true, decide_eq_true_eq, Bool.not_eq_true'] at hn
  obtain ⟨h1, h2, h3, h4, h5⟩ := hn
  have hne : n ≠ ⟨⟨[]⟩⟩ := by intro e; rw [e] at h1; exact absurd h1 (by decide)
  have hne2 : n ≠ ⟨⟨[46]⟩⟩ := by intro e; rw [e] at h4; exact absurd h4 (by decide)
  have hne3 : n ≠ ⟨⟨[46, 46]⟩⟩ := by intro e; rw [e] at h5; exact absurd h5 (by decide)
  have hok : nameOk n := ⟨hne, hne2, h3⟩
  refine ⟨head_sub h.head, nul_sub hok h.nul, ?_, ?_⟩
  · rw [parts_sub hok]; exact h.chain.snoc hk hf
  · rw [parts_sub hok]
    intro m hm
    rcases List.mem_append.1 hm with hm | hm
    · exact h.names m hm
    · simp at hm; subst hm; exact ⟨hne3, h2⟩
theorem headIs_ne {p : ByteArray} {c : UInt8} (h : headIs c p = true) : sEq p ⟨⟨[]⟩⟩ = false := by
  refine sEq_false ?_
  intro e; rw [e] at h; cases h
/-! ### Cutting trees -/
def tk (k : Nat) (s : ByteArray) : ByteArray := s.extract 0 (min s.size k)
theorem tk_size (k : Nat) (s : ByteArray) : (tk k s).size ≤ k := by unfold tk; rw [ByteArray.size_extract]; omega
end Go.Wk

/- A SLICE of trees that is made here. -/
set_option maxRecDepth 100000
namespace Go.Proofs.YtlpcehbfoogejaaGreatDoor
open Go Go.HL Go.Wk
attribute [local irreducible] ptrW ifW brW andW rdT alW letJ stW muW biW vaW imW callT cvalT app callW invW callVW sizeT oW nilF oneK loopW rfW funW begW roundK exW idxW Gr Put
theorem sz_Nodes : sizeT Tryz.prog 22 = some 1 := by kernel_rfl
theorem und_Nodes : Tryz.prog.underlying 22 = some (.slice 24) := by kernel_rfl
theorem info_Node : ∃ i z, Tryz.prog.info? 24 = some i ∧ i.zero = some z ∧ i.size = 5 ∧ i.bytes ≤ 100000 ∧ z.cells.size = 5 := by
  have h1 : ((Tryz.prog.info? 24).bind fun i => i.zero.map fun z => (i.size, z.cells.size, decide (i.bytes ≤ 100000))) = some (5, 5, true) := by kernel_rfl
  cases hi : Tryz.prog.info? 24 with
  | none => rw [hi] at h1; cases h1
  | some i =>
    rw [hi] at h1
    cases hz : i.zero with
    | none => simp [hz] at h1
    | some z => simp [hz] at h1; exact ⟨i, z, rfl, hz, h1.1, h1.2.2, h1.2.1⟩
def RowsTr (τ : H) : List Tr → List (List Value) → Prop
  | [], [] => True
  | t :: ts, r :: rows => TrAt τ t r ∧ RowsTr τ ts rows
  | _, _ => False
theorem RowsTr.gr {τ τ' : H} (hg : Gr τ τ') : ∀ {ts : List Tr} {rows : List (List Value)}, RowsTr τ ts rows → RowsTr τ' ts rows := by
  intro ts
  induction ts with
  | nil => intro rows h; cases rows <;> exact h
  | cons t ts ih =>
    intro rows h
    cases rows with
    | nil => exact h.elim
    | cons r rows => exact ⟨gr_both hg t r h.1, ih h.2⟩
theorem RowsTr.snoc {τ : H} {t : Tr} {r : List Value} (ht : TrAt τ t r) : ∀ {ts : List Tr} {rows : List (List Value)}, RowsTr τ ts rows → RowsTr τ (ts ++ [t]) (rows ++ [r]) := by
  intro ts
  induction ts with
  | nil => intro rows h; cases rows with
    | nil => exact ⟨ht, trivial⟩
    | cons r rows => exact h.elim
  | cons t ts ih =>
    intro rows h
    cases rows with
    | nil => exact h.elim
    | cons r rows => exact ⟨h.1, ih h.2⟩
theorem RowsTr.len {τ : H} : ∀ {ts : List Tr} {rows : List (List Value)}, RowsTr τ ts rows → rows.length = ts.length := by
  intro ts
  induction ts with
  | nil => intro rows h; cases rows with
    | nil => rfl
    | cons r rows => exact h.elim
  | cons t ts ih =>
    intro rows h
    cases rows with
    | nil => exact h.elim
    | cons r rows => simp [ih h.2]
theorem rowAt_of {τ : H} {rest : List Value} : ∀ {ts : List Tr} {rows : List (List Value)}, RowsTr τ ts rows → (∀ r ∈ rows, r.length = 5) → RowAt τ ts (rows.flatten ++ rest) := by
  intro ts
  induction ts with
  | nil => intro rows _ _; trivial
  | cons t ts ih =>
    intro rows h hl
    cases rows with
    | nil => exact h.elim
    | cons r rows =>
      have hr := hl r (List.mem_cons_self ..)
      simp only [RowAt, List.flatten_cons, List.append_assoc]
      refine ⟨?_, ?_⟩
      · rw [← hr, List.take_left]; exact h.1
      · rw [← hr, List.drop_left]; exact ih h.2 fun q hq => hl q (List.mem_cons_of_mem _ hq)
theorem slAt_own {σ τ : H} {rows : List (List Value)} {ts : List Tr} {x : Sl} (h : RowsOwn σ 24 5 rows x) (ht : RowsTr τ ts rows) (hg : Gr τ σ) (hn : ∀ g, x.base = some ⟨g, 0, none⟩ → τ g = none) :
    ∃ τ', Gr τ τ' ∧ Gr τ' σ ∧ SlAt τ' ts x ∧ ∀ b, x.base ≠ some ⟨b, 0, none⟩ → τ b = none → τ' b = none := by
  obtain ⟨h1, h2, ⟨h3, h4, h5⟩ | ⟨g, cur, a1, a2, a3, a4, a5⟩⟩ := h
  · subst h5
    refine ⟨τ, Gr.refl _, hg, ⟨by rw [h1, ht.len], ?_⟩, fun b _ hb => hb⟩
    have := ht.len
    simp at this
    exact .inl (List.eq_nil_of_length_eq_zero this.symm)
  · have hgn := hn g a1
    have g1 : Gr τ (τ.put g (.cells ⟨cur⟩ 24 (0, 0))) := Gr.put hgn _
    refine ⟨τ.put g (.cells ⟨cur⟩ 24 (0, 0)), g1, ?_, ⟨by rw [h1, ht.len], .inr ⟨g, 0, cur, 24, (0, 0), a1, H.put_same _ _ _, ?_⟩⟩, ?_⟩
    · unfold Gr
      intro c oc hc
      by_cases e : c = g
      · subst e; rw [H.put_same] at hc; cases hc; exact a2
      · rw [H.put_other _ _ e] at hc; exact hg.get hc
    · have e1 : cur = rows.flatten ++ cur.drop (x.len * 5) := by rw [← a5, List.take_append_drop]
      have := rowAt_of (rest := cur.drop (x.len * 5)) (ht.gr g1) h2
      rw [← e1] at this
      exact this
    · intro b hb hτ
      have e : b ≠ g := fun e => hb (by rw [e, a1])
      rw [H.put_other _ _ e]; exact hτ
end Go.Proofs.YtlpcehbfoogejaaGreatDoor

/- THE CARDS: what they have in common. -/
set_option maxRecDepth 100000
namespace Go.Proofs.YtlpcehbfoogejaaGreatDoor
open Go Go.HL Go.Wk Go.ChangeShapes Go.WideShapes Go.ChangeAt Go.RowKit
theorem own : ownKnob Tryz.prog.godebug = none := by kernel_rfl
theorem laidOut : laidOutB Tryz.prog = true := by kernel_rfl
def accCells : Array Value := #[.int .u8 128, .int .u8 191, .int .u8 160, .int .u8 191, .int .u8 128, .int .u8 159, .int .u8 144, .int .u8 191, .int .u8 128, .int .u8 143, .int .u8 0, .int .u8 0, .int .u8 0, .int .u8 0, .int .u8 0, .int .u8 0, .int .u8 0, .int .u8 0, .int .u8 0, .int .u8 0, .int .u8 0, .int .u8 0, .int .u8 0, .int .u8 0, .int .u8 0, .int .u8 0, .int .u8 0, .int .u8 0, .int .u8 0, .int .u8 0, .int .u8 0, .int .u8 0]
def firstCells : Array Value := ⟨Go.Pinned.utf8FirstZ.map fun (n : Nat) => .int .u8 (n : Int)⟩
def setC (cs : Array Value) : Obj → Obj
  | .cells _ t frozen => .cells cs t frozen
  | o => o
/-- a world for the witness: the two tables hold what they must -/
noncomputable def laidWorld (os : Os) : World :=
  { World.holding Tryz.prog os ⟨#[], #[], []⟩ with heap := ((World.holding Tryz.prog os ⟨#[], #[], []⟩).heap.modify 1 (setC firstCells)).modify 2 (setC accCells) }
end Go.Proofs.YtlpcehbfoogejaaGreatDoor

/- WHAT LIES SOMEWHERE, as a tree in its one form; whether two trees are alike. -/
namespace Go.Wk
open Go Go.HL
def Tr.z : Tr := .mk ⟨⟨[]⟩⟩ 0 false ⟨⟨[]⟩⟩ []
def Tr.named (s : ByteArray) : Tr → Tr
  | .mk _ k e d kids => .mk s k e d kids
def trimL : List UInt8 → List UInt8
  | [] => []
  | x :: r => match r with
    | [] => (match x == 47 with | true => [] | false => [x])
    | _ :: _ => x :: trimL r
def trimS (p : ByteArray) : ByteArray := ⟨⟨trimL p.data.toList⟩⟩
def kidP (p n : ByteArray) : ByteArray := sub (trimS p) n
def takeRow (g : ByteArray → Int × Tr) (path : ByteArray) : List ByteArray → Int × List Tr
  | [] => (0, [])
  | n :: r => let x := g (kidP path n)
    if x.1 ≠ 0 then (x.1, []) else
      let y := takeRow g path r
      (y.1, x.2.named n :: y.2)
def xOf (k m : Int) : Bool := k == 1 && (bitV .and .i64 m 73 : Int) != 0
/-- the tree at a path -/
def AT.take (A : AT) : Nat → ByteArray → Int × Tr
  | 0, _ => (3, Tr.z)
  | f + 1, path =>
    let x := A.stat ⟨⟨[47]⟩⟩ path false
    if x.1 ≠ 0 then (x.1, Tr.z)
    else if x.2.kind = 2 then
      let l := A.listF ⟨⟨[47]⟩⟩ path
      if l.1 ≠ 0 then (l.1, Tr.z)
      else
        let r := takeRow (AT.take A f) path l.2
        (r.1, .mk ⟨⟨[]⟩⟩ 2 false x.2.data r.2)
    else (0, .mk ⟨⟨[]⟩⟩ x.2.kind (xOf x.2.kind x.2.mode) x.2.data [])
def AT.canonF (A : AT) (path : ByteArray) : Int × Tr :=
  let x := A.take 300 path
  if x.1 ≠ 0 then (x.1, Tr.z) else if x.2.check ≠ 0 then (x.2.check, Tr.z) else (0, x.2)
mutual
def Tr.same : Tr → Tr → Bool
  | .mk n k e d kids, u => !(Tr.mk n k e d kids).tooDeep && (!u.tooDeep && (sEq n u.name && ((k == u.kind) && ((e == u.exec) && (sEq d u.data && (Nat.beq kids.length u.kids.length && Tr.sameRow kids u.kids))))))
def Tr.sameRow : List Tr → List Tr → Bool
  | [], _ => true
  | t :: r, l => match l with
    | [] => false
    | u :: s => Tr.same t u && Tr.sameRow r s
end
theorem Tr.same_eq (t u : Tr) : t.same u = (!t.tooDeep && (!u.tooDeep && (sEq t.name u.name && ((t.kind == u.kind) && ((t.exec == u.exec) && (sEq t.data u.data && (Nat.beq t.kids.length u.kids.length && Tr.sameRow t.kids u.kids))))))) := by
  obtain ⟨n, k, e, d, kids⟩ := t
  rw [Tr.same]; rfl
theorem sEq_self (s : ByteArray) : sEq s s = true := sEq_iff.2 rfl
theorem same_refl : ∀ t : Tr, t.tooDeep = false → t.may = true → t.same t = true := by
  refine Tr.ind ?_
  intro t ih hd hm
  rw [Tr.same_eq, hd, sEq_self, sEq_self]
  have key : ∀ l : List Tr, (∀ x ∈ l, x ∈ t.kids) → Tr.sameRow l l = true := by
    intro l
    induction l with
    | nil => intro _; rfl
    | cons x r ihl =>
      intro h
      have hx := h x (List.mem_cons_self ..)
      rcases may_kids hm with h0 | ⟨hk, hrow⟩
      · rw [h0] at hx; simp at hx
      · rw [Tr.sameRow, ih x hx (kid_shallow hk hd hx) (mayRow_all hrow x hx).2, ihl fun y hy => h y (List.mem_cons_of_mem _ hy)]; rfl
  rw [key t.kids (fun _ h => h)]
  simp [Nat.beq_refl]
/-! ### Paths of kids -/
theorem trimL_cases : ∀ l : List UInt8, trimL l = l ∨ l = trimL l ++ [47] := by
  intro l
  induction l with
  | nil => exact .inl rfl
  | cons x r ih =>
    cases r with
    | nil =>
      unfold trimL
      cases hx : (x == 47) with
      | true => right; simp at hx; subst hx; rfl
      | false => left; simp only
    | cons y r =>
      have e : trimL (x :: y :: r) = x :: trimL (y :: r) := by rw [trimL]
      rw [e]
      rcases ih with h | h
      · left; rw [h]
      · right; rw [List.cons_append, ← h]
theorem trimS_data (p : ByteArray) : (trimS p).data.toList = trimL p.data.toList := rfl
theorem size_list (s : ByteArray) : s.size = s.data.toList.length := by cases s with | mk d => simp [ByteArray.size]
theorem trimS_size (p : ByteArray) : (trimS p).size ≤ p.size ∧ p.size ≤ (trimS p).size + 1 := by
  rw [size_list, size_list, trimS_data]
  rcases trimL_cases p.data.toList with h | h
  · rw [h]; omega
  · have := congrArg List.length h
    rw [List.length_append, List.length_singleton] at this
    omega
theorem kidP_size (p n : ByteArray) : (kidP p n).size ≤ p.size + 1 + n.size ∧ p.size + n.size ≤ (kidP p n).size := by
  have h1 := sub_size (trimS p) n
  have h2 := trimS_size p
  unfold kidP; omega
theorem bytes_ext {a b : ByteArray} (h : a.data.toList = b.data.toList) : a = b := by
  obtain ⟨⟨a⟩⟩ := a; obtain ⟨⟨b⟩⟩ := b
  have h : a = b := h
  rw [h]
theorem parts_kid {p n : ByteArray} (h : nameOk n) : partsB (kidP p n) = partsB p ++ [n] := by
  unfold kidP
  rw [parts_sub h]
  rcases trimL_cases p.data.toList with e | e
  · rw [show trimS p = p from bytes_ext e]
  · congr 1
    unfold partsB
    rw [trimS_data]
    generalize trimL p.data.toList = q at e
    rw [e, splitL_app]
    show _ = List.filter okPart (List.map _ (splitL 47 q ++ [[]]))
    rw [List.map_append, List.filter_append]
    have : List.filter okPart (List.map (fun l => (⟨⟨l⟩⟩ : ByteArray)) [[]]) = [] := by decide
    rw [this, List.append_nil]
theorem nul_trim {p : ByteArray} (h : hasNul p = false) : hasNul (trimS p) = false := by
  unfold hasNul at h ⊢
  rw [trimS_data]
  rcases trimL_cases p.data.toList with e | e
  · rw [e]; exact h
  · rw [e, List.any_append, Bool.or_eq_false_iff] at h; exact h.1
theorem head_kid {p n : ByteArray} (hp : headIs 47 p = true) : headIs 47 (kidP p n) = true := by
  unfold kidP headIs
  rw [sub_data, trimS_data]
  unfold headIs at hp
  rcases trimL_cases p.data.toList with e | e
  · rw [e]
    cases hl : p.data.toList with
    | nil => rfl
    | cons x r => rw [hl] at hp; exact hp
  · cases hq : trimL p.data.toList with
    | nil => rfl
    | cons x r => rw [e, hq] at hp; exact hp
theorem mayName_ok {n : ByteArray} (hn : mayName n = true) : nameOk n ∧ stepOk n ∧ 1 ≤ n.size := by
  unfold mayName at hn
  simp only [Bool.and_eq_true, decide_eq_true_eq, Bool.not_eq_true'] at hn
  obtain ⟨h1, h2, h3, h4, h5⟩ := hn
  have hne : n ≠ ⟨⟨[]⟩⟩ := by intro e; rw [e] at h1; exact absurd h1 (by decide)
  have hne2 : n ≠ ⟨⟨[46]⟩⟩ := by intro e; rw [e] at h4; exact absurd h4 (by decide)
  have hne3 : n ≠ ⟨⟨[46, 46]⟩⟩ := by intro e; rw [e] at h5; exact absurd h5 (by decide)
  exact ⟨⟨hne, hne2, h3⟩, ⟨hne3, h2⟩, h1⟩
theorem PathTo.kid {A : AT} {p n : ByteArray} {i j : Int} (h : PathTo A p i) (hk : A.kind i = 2) (hf : A.find i n = some j) (hn : mayName n = true) : PathTo A (kidP p n) j := by
  obtain ⟨hok, hst, _⟩ := mayName_ok hn
  refine ⟨head_kid h.head, nul_sub hok (nul_trim h.nul), ?_, ?_⟩
  · rw [parts_kid hok]; exact h.chain.snoc hk hf
  · rw [parts_kid hok]
    intro m hm
    rcases List.mem_append.1 hm with hm | hm
    · exact h.names m hm
    · simp at hm; subst hm; exact hst
theorem steps_chain2 {A : AT} {go : Int → ByteArray → Int → Int × Pl × Int} {fo : Bool} {i h : Int} (hk : fo = true → A.kind i ≠ 3) : ∀ {l : List ByteArray} {p : Pl}, Chain A p.ino l i → (∀ n ∈ l, stepOk n) → p.there = true → ∃ q : Pl, A.steps go fo l p h = (0, q, h) ∧ q.ino = i ∧ q.there = true := by
  intro l
  induction l with
  | nil => intro p hc _ ht; exact ⟨p, rfl, hc, ht⟩
  | cons n r ih =>
    intro p hc hok ht
    obtain ⟨h1, j, h2, h3⟩ := hc
    obtain ⟨o1, o2⟩ := hok n (List.mem_cons_self ..)
    have h5 : (A.find p.ino n).isSome = false ∨ (r.isEmpty && !fo) = true ∨ A.kind ((A.find p.ino n).getD 0) ≠ 3 := by
      cases r with
      | nil =>
        cases fo with
        | false => exact .inr (.inl rfl)
        | true => right; right; rw [h2]; have h3 : j = i := h3; show A.kind j ≠ 3; rw [h3]; exact hk rfl
      | cons m r' =>
        refine .inr (.inr ?_)
        rw [h2]
        have := h3.1
        show A.kind j ≠ 3
        omega
    rw [steps_name ht h1 (sEq_false o1) (by omega) h5]
    refine ih ?_ (fun m hm => hok m (List.mem_cons_of_mem _ hm)) ?_
    · show Chain A ((A.find p.ino n).getD 0) r i
      rw [h2]; exact h3
    · show (A.find p.ino n).isSome = true
      rw [h2]; rfl
theorem with_at {A : AT} {p cwd : ByteArray} {i : Int} {n : AN} {fo : Bool} (h : PathTo A p i) (hk : fo = true → A.kind i ≠ 3) (hs : p.size ≤ 255) (hn : A.get i = some n) : A.with_ cwd p fo = (0, i, n.inode) := by
  have hne := headIs_ne h.head
  have hw : A.walk 10 1 p fo 8 = A.steps (fun d s h' => A.walk 9 d s true h') fo (partsB p) ⟨1, ⟨⟨[]⟩⟩, 1, true⟩ 8 := by
    rw [AT.walk]
    unfold mayE
    rw [hne, h.nul, h.head]
    have hs : ¬ p.size > 255 := by omega
    simp [hs]
  unfold AT.with_ AT.locate
  rw [hne, h.head, hw]
  obtain ⟨q, h1, h2, h3⟩ := steps_chain2 (A := A) (go := fun d s h' => A.walk 9 d s true h') (h := 8) (p := ⟨1, ⟨⟨[]⟩⟩, 1, true⟩) hk h.chain h.names rfl
  rw [h1]
  simp [h2, h3, hn]
/-! ### Names that rise -/
/-! ### What was laid is taken just so -/
def Tr.fits (c : Nat) : Nat → Tr → Prop
  | 0, t => t.kids = []
  | k + 1, t => ∀ x ∈ t.kids, x.name.size ≤ c ∧ Tr.fits c k x
theorem check_of {t : Tr} (h1 : t.tooDeep = false) (h2 : t.name = ⟨⟨[]⟩⟩) (h3 : t.may = true) (h4 : t.count ≤ 2000) (h5 : t.bytes ≤ 100000) : t.check = 0 := by
  unfold Tr.check
  have hs : t.sizeT = ((t.count : Int), (t.bytes : Int)) := by
    unfold Tr.sizeT; rw [h1]; simp only [Bool.false_eq_true, if_false]; exact may_size t h3 h1
  rw [h1, h2, h3, hs]
  simp only [Bool.false_eq_true, if_false, Bool.true_eq_false, or_false, sEq_self]
  rw [if_neg (by omega)]
end Go.Wk

