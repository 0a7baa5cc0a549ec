/- A part of the proof: What is renamed, and renamed back, is as it was. -/
import Derived.Test.YtlpcehbfoogejaaGreatDoorFax
import Derived.Test.YtlpcehbfoogejaaGreatDoorCards
import Derived.Test.YtlpcehbfoogejaaGreatDoorTie
import Derived.WalkKit
import Derived.ProofKit
import Derived.OpenShut
import Derived.Deep.DeepHandedRow
import Derived.Lib.LaidTab
/- A TABLE OF INODES: writing, modes, other entries, letting go: what always holds stays so. -/
namespace Go.Wk
open Go Go.HL
variable {A : AT}
/-- an inode is changed, but not what it names, nor its kind -/
theorem Inv.mod {N : Nat} (h : Inv A) (hb : Bd N A) {i : Int} {n n' : AN} (hn : A.get i = some n) (h1 : n'.kind = n.kind) (h2 : n'.up = n.up) (h3 : n'.ents = n.ents) (h4 : likeE n'.kind n'.mode n'.data = 0) (h5 : n'.links = n.links) {ub : Int} (hub : ub = A.ub + n'.data.size - n.data.size) (hq : ub ≤ A.qb) :
    Inv { A.set i n' with ub := ub } ∧ Bd N { A.set i n' with ub := ub } := by
  have hG : ∀ j, ({ A.set i n' with ub := ub } : AT).get j = if j = i then some n' else A.get j := fun j => AT.get_set A i j n'
  have hc : ∀ j m, ({ A.set i n' with ub := ub } : AT).get j = some m → ∃ m0, A.get j = some m0 ∧ m.kind = m0.kind ∧ m.up = m0.up ∧ m.ents = m0.ents ∧ m.links = m0.links ∧ likeE m.kind m.mode m.data = 0 := by
    intro j m hm
    rw [hG] at hm
    by_cases e : j = i
    · rw [if_pos e] at hm; cases hm; subst e; exact ⟨n, hn, h1, h2, h3, h5, h4⟩
    · rw [if_neg e] at hm; exact ⟨m, hm, rfl, rfl, rfl, rfl, h.like j m hm⟩
  have hx : ∀ j m, A.get j = some m → ∃ m', ({ A.set i n' with ub := ub } : AT).get j = some m' ∧ m'.kind = m.kind ∧ m'.up = m.up ∧ m'.ents = m.ents ∧ m'.links = m.links := by
    intro j m hm
    rw [hG]
    by_cases e : j = i
    · subst e; rw [if_pos rfl]; rw [hn] at hm; cases hm; exact ⟨n', rfl, h1, h2, h3, h5⟩
    · rw [if_neg e]; exact ⟨m, hm, rfl, rfl, rfl, rfl⟩
  have hsum : ∀ f : AN → Nat, sumF f (A.set i n').nodes + f n = sumF f A.nodes + f n' := by
    intro f
    have := AT.sum_set A f i n'
    rw [hn] at this; simpa using this
  have hrefs : ∀ j, ({ A.set i n' with ub := ub } : AT).refs j = A.refs j := by
    intro j
    have := hsum (cntE j)
    have e : cntE j n' = cntE j n := by unfold cntE; rw [h3]
    show sumF (cntE j) (A.set i n').nodes = sumF (cntE j) A.nodes
    omega
  have hupO : ∀ k, A.isDir k → ({ A.set i n' with ub := ub } : AT).upOf k = A.upOf k := by
    rintro k ⟨m, hm, _⟩
    obtain ⟨m', q1, _, q3, _⟩ := hx k m hm
    unfold AT.upOf; rw [hm, q1]; simp [q3]
  refine ⟨⟨?_, ?_, ?_, ?_, ?_, ?_, ?_, ?_, ?_, ?_, ?_, ?_, ?_⟩, ⟨?_, ?_, ?_⟩⟩
  · exact nodup_up h.nodup
  · intro j m hm; obtain ⟨m0, q1, _, _, q4, _⟩ := hc j m hm; rw [q4]; exact h.enod j m0 q1
  · obtain ⟨r, r1, r2, r3⟩ := h.root
    obtain ⟨m', q1, q2, q3, _⟩ := hx 1 r r1
    exact ⟨m', q1, by rw [q2, r2], by rw [q3, r3]⟩
  · intro j m hm; obtain ⟨m0, q1, _⟩ := hc j m hm; exact h.low j m0 q1
  · intro j m hm; obtain ⟨m0, _, _, _, _, _, q⟩ := hc j m hm; exact q
  · intro j m hm hk; obtain ⟨m0, q1, q2, _, q4, _⟩ := hc j m hm; rw [q4]; exact h.file j m0 q1 (by rw [← q2]; exact hk)
  · intro j m s t hm hs
    obtain ⟨m0, q1, _, _, q4, _⟩ := hc j m hm
    rw [q4] at hs
    obtain ⟨a1, a2, m1, a3, a4⟩ := h.ent j m0 s t q1 hs
    obtain ⟨m', b1, b2, b3, _⟩ := hx t m1 a3
    exact ⟨a1, a2, m', b1, fun hk => by rw [b3]; exact a4 (by rw [← b2]; exact hk)⟩
  · intro j m hm hj
    obtain ⟨m0, q1, q2, _, _, q5, _⟩ := hc j m hm
    rw [hrefs, q2, q5]; exact h.links j m0 q1 hj
  · rintro k ⟨m, hm, hk⟩
    obtain ⟨m0, q1, q2, _⟩ := hc k m hm
    have hd : A.isDir k := ⟨m0, q1, by rw [← q2]; exact hk⟩
    rw [deep_same h hupO 12 k hd]; exact h.deep k hd
  · have := hsum (fun _ => 1)
    rw [sumF_len, sumF_len] at this
    have e := h.ui
    show A.ui = (A.set i n').nodes.length
    omega
  · have := hsum (fun n => n.data.size)
    have e := h.ub
    show ub = (sumF (fun n : AN => n.data.size) (A.set i n').nodes : Nat)
    unfold AT.bytes at e
    omega
  · exact h.uq
  · exact ⟨hq, h.bq.2⟩
  · exact hb.last
  · intro j m hm; obtain ⟨m0, q1, _, _, _, q5, _⟩ := hc j m hm; rw [q5]; exact hb.links j m0 q1
  · intro j m hm; obtain ⟨m0, q1, _, _, q4, _⟩ := hc j m hm; rw [q4]; exact hb.ents j m0 q1
/-! ### Write -/
theorem likeE_file {mode : Int} {data : ByteArray} {d : ByteArray} (h : likeE 1 mode d = 0) : likeE 1 mode data = 0 := by
  unfold likeE kindOkE at h ⊢
  simpa [lk] using h
theorem writeR_ok {N : Nat} (h : Inv A) (hb : Bd N A) (ino : Int) (data : ByteArray) (hs : data.size < 4611686018427387904) : Inv (A.writeR ino data).2 ∧ Bd N (A.writeR ino data).2 ∧ ((A.writeR ino data).1 ≠ 0 → (A.writeR ino data).2 = A) ∧ (A.writeR ino data).2.qi = A.qi ∧ (A.writeR ino data).2.qb = A.qb := by
  unfold AT.writeR
  by_cases he : A.writeE ino data = 0
  case neg => rw [if_neg he]; exact ⟨h, hb, fun _ => rfl, rfl, rfl⟩
  rw [if_pos he]
  unfold AT.writeE at he
  obtain ⟨_, he⟩ := AT.firstE_z he
  obtain ⟨h1, he⟩ := AT.firstE_z he
  obtain ⟨h2, _⟩ := AT.firstE_z he
  obtain ⟨n, hn, hk⟩ := AT.fileE_z h1
  obtain ⟨_, hr⟩ := roomE_z h2
  have hsz := h.size_le hn
  have hub := h.ub_pos
  have hq := h.bq
  rw [hn] at hr
  simp only [Option.map_some, Option.getD_some] at hr
  have e1 : A.written ino data = { A.set ino { n with data := data } with ub := wr (A.ub + wr ((data.size : Int) - n.data.size)) } := by unfold AT.written; rw [hn]
  have w1 : wr ((data.size : Int) - n.data.size) = (data.size : Int) - n.data.size := wr_id (by omega) (by omega)
  rw [w1] at hr
  have w2 : wr (A.ub + ((data.size : Int) - n.data.size)) = A.ub + data.size - n.data.size := by rw [wr_id (by omega) (by omega)]; omega
  rw [w2] at hr
  rw [e1, w1, w2]
  have hlike : likeE n.kind n.mode data = 0 := by
    have := h.like ino n hn
    rw [hk] at this ⊢
    exact likeE_file this
  obtain ⟨a, b⟩ := h.mod hb hn (n' := { n with data := data }) rfl rfl rfl hlike rfl rfl hr
  exact ⟨a, b, fun h => absurd rfl h, rfl, rfl⟩
/-! ### Chmod -/
theorem likeE_mode {k m m' : Int} {d : ByteArray} (h : likeE k m d = 0) (h1 : 0 ≤ m' ∧ m' ≤ 511) : likeE k m' d = 0 := by
  unfold likeE at h ⊢
  by_cases hk : kindOkE k d = true
  · simp [hk, h1]
  · simp [hk] at h
theorem chmodR_ok {N : Nat} (h : Inv A) (hb : Bd N A) (ino mode : Int) : Inv (A.chmodR ino mode).2 ∧ Bd N (A.chmodR ino mode).2 ∧ ((A.chmodR ino mode).1 ≠ 0 → (A.chmodR ino mode).2 = A) ∧ (A.chmodR ino mode).2.qi = A.qi ∧ (A.chmodR ino mode).2.qb = A.qb := by
  unfold AT.chmodR
  by_cases he : A.chmodE ino mode = 0
  case neg => rw [if_neg he]; exact ⟨h, hb, fun _ => rfl, rfl, rfl⟩
  rw [if_pos he]
  unfold AT.chmodE at he
  obtain ⟨_, he⟩ := AT.firstE_z he
  obtain ⟨h1, he⟩ := AT.firstE_z he
  obtain ⟨h2, _⟩ := AT.firstE_z he
  have hm : 0 ≤ mode ∧ mode ≤ 511 := by
    by_cases hm : 0 ≤ mode ∧ mode ≤ 511
    · exact hm
    · rw [if_neg hm] at h1; cases h1
  cases hn : A.get ino with
  | none => rw [hn] at h2; simp at h2
  | some n =>
    have e1 : A.chmoded ino mode = { A.set ino { n with mode := mode } with ub := A.ub } := by unfold AT.chmoded AT.mod; rw [hn]; rfl
    rw [e1]
    obtain ⟨a, b⟩ := h.mod hb hn (n' := { n with mode := mode }) (ub := A.ub) rfl rfl rfl (likeE_mode (h.like ino n hn) hm) rfl (by show A.ub = A.ub + n.data.size - n.data.size; omega) h.bq.1
    exact ⟨a, b, fun h => absurd rfl h, rfl, rfl⟩
/-! ### Unlink -/
theorem unlinkE_z {dir : Int} {name : ByteArray} (he : A.unlinkE dir name = 0) : A.isDir dir ∧ ∃ j, A.find dir name = some j ∧ ∀ m, A.get j = some m → m.ents = [] := by
  unfold AT.unlinkE at he
  obtain ⟨_, he⟩ := AT.firstE_z he
  obtain ⟨h1, he⟩ := AT.firstE_z he
  obtain ⟨h2, he⟩ := AT.firstE_z he
  obtain ⟨h3, _⟩ := AT.firstE_z he
  refine ⟨AT.dirE_z h1, ?_⟩
  cases hf : A.find dir name with
  | none => rw [hf] at h2; simp at h2
  | some j =>
    refine ⟨j, rfl, fun m hm => ?_⟩
    rw [hf] at h3
    simp only [Option.getD_some, hm, Option.map_some] at h3
    by_cases hl : m.ents.length = 0
    · exact List.eq_nil_of_length_eq_zero hl
    · rw [if_neg hl] at h3; cases h3
theorem unlinkR_ok {N : Nat} (h : Inv A) (hb : Bd N A) (hN : N < 4611686018427387904) (dir : Int) (name : ByteArray) : Inv (A.unlinkR dir name).2 ∧ Bd N (A.unlinkR dir name).2 ∧ ((A.unlinkR dir name).1 ≠ 0 → (A.unlinkR dir name).2 = A) ∧ (A.unlinkR dir name).2.qi = A.qi ∧ (A.unlinkR dir name).2.qb = A.qb := by
  unfold AT.unlinkR
  by_cases he : A.unlinkE dir name = 0
  case neg => rw [if_neg he]; exact ⟨h, hb, fun _ => rfl, rfl, rfl⟩
  rw [if_pos he]
  obtain ⟨⟨nd, hd, hd2⟩, ino, hf, hem⟩ := unlinkE_z he
  obtain ⟨nd', hd', _, hlk, hi1, nn, hnn, hup⟩ := h.find hf
  rw [hd] at hd'; cases hd'
  have hens := hem nn hnn
  have hne : ino ≠ dir := by
    intro e; subst e; rw [hd] at hnn; cases hnn
    rw [hens] at hlk; simp [lk] at hlk
  obtain ⟨hl1, hl2, hl3⟩ := h.links ino nn hnn hi1
  -- the table with the entry gone and one link less
  have e1 : A.ent dir (rm name) = A.set dir { nd with ents := rm name nd.ents } := by unfold AT.ent; rw [hd]
  have g1 : (A.set dir { nd with ents := rm name nd.ents }).get ino = some nn := by rw [AT.get_set_ne _ _ hne]; exact hnn
  have hlb : nn.links ≤ N := hb.links ino nn hnn
  have wl : wr (nn.links - 1) = nn.links - 1 := wr_id (by omega) (by omega)
  let A1 : AT := (A.set dir { nd with ents := rm name nd.ents }).set ino { nn with links := nn.links - 1 }
  have e2 : A.unlinked dir name = if nn.links - 1 = 0 then { A1 with nodes := rm ino A1.nodes, ui := wr (A.ui - 1), ub := wr (A.ub - nn.data.size) } else A1 := by
    unfold AT.unlinked
    rw [hf]
    simp only [Option.getD_some]
    rw [e1]
    unfold AT.mod
    rw [g1]
    simp only
    rw [AT.get_set_self, wl]
    by_cases hz : nn.links - 1 = 0
    · rw [if_pos hz]
      have : (nn.links - 1 == 0) = true := by simpa using hz
      simp only [this]; rfl
    · rw [if_neg hz]
      have : (nn.links - 1 == 0) = false := by simpa using hz
      simp only [this]; rfl
  have hG1 : ∀ j, A1.get j = if j = ino then some { nn with links := nn.links - 1 } else if j = dir then some { nd with ents := rm name nd.ents } else A.get j := by
    intro j; show ((A.set dir _).set ino _).get j = _; rw [AT.get_set, AT.get_set]
  have hsum : ∀ f : AN → Nat, sumF f A1.nodes + f nd + f nn = sumF f A.nodes + f { nd with ents := rm name nd.ents } + f { nn with links := nn.links - 1 } := by
    intro f
    have q1 := AT.sum_set (A.set dir { nd with ents := rm name nd.ents }) f ino { nn with links := nn.links - 1 }
    have q2 := AT.sum_set A f dir { nd with ents := rm name nd.ents }
    rw [g1] at q1; rw [hd] at q2
    simp only [Option.map_some, Option.getD_some] at q1 q2
    show sumF f ((A.set dir { nd with ents := rm name nd.ents }).set ino { nn with links := nn.links - 1 }).nodes + f nd + f nn = _
    omega
  have hcE : ∀ j, cntE j { nd with ents := rm name nd.ents } + one j ino = cntE j nd := by
    intro j
    have := sumF_rm (one j) name nd.ents
    rw [hlk] at this
    simpa [cntE] using this
  have hrefs : ∀ j, A1.refs j + one j ino = A.refs j := by
    intro j
    have := hsum (cntE j)
    have e : cntE j { nn with links := nn.links - 1 } = cntE j nn := rfl
    have := hcE j
    unfold AT.refs
    omega
  have hN1 : (keysL A1.nodes).Nodup := nodup_up (nodup_up h.nodup)
  -- the end result's inodes
  let Z := A.unlinked dir name
  have hZ : ∀ j m, Z.get j = some m → (j = ino ∧ m = { nn with links := nn.links - 1 } ∧ nn.links - 1 ≠ 0) ∨ (j = dir ∧ m = { nd with ents := rm name nd.ents }) ∨ (j ≠ ino ∧ j ≠ dir ∧ A.get j = some m) := by
    intro j m hm
    have hm : (A.unlinked dir name).get j = some m := hm
    rw [e2] at hm
    by_cases hz : nn.links - 1 = 0
    · rw [if_pos hz] at hm
      have hm : lk j (rm ino A1.nodes) = some m := hm
      rw [lk_rm hN1] at hm
      by_cases e : j = ino
      · subst e; simp at hm
      · have : (j == ino) = false := by simpa using e
        rw [this] at hm
        have hm : A1.get j = some m := hm
        rw [hG1, if_neg e] at hm
        by_cases e' : j = dir
        · rw [if_pos e'] at hm; cases hm; exact .inr (.inl ⟨e', rfl⟩)
        · rw [if_neg e'] at hm; exact .inr (.inr ⟨e, e', hm⟩)
    · rw [if_neg hz] at hm
      rw [hG1] at hm
      by_cases e : j = ino
      · rw [if_pos e] at hm; cases hm; exact .inl ⟨e, rfl, hz⟩
      · rw [if_neg e] at hm
        by_cases e' : j = dir
        · rw [if_pos e'] at hm; cases hm; exact .inr (.inl ⟨e', rfl⟩)
        · rw [if_neg e'] at hm; exact .inr (.inr ⟨e, e', hm⟩)
  have hXn : ∀ j m, A.get j = some m → j ≠ ino → ∃ m', Z.get j = some m' ∧ m'.kind = m.kind ∧ m'.up = m.up ∧ m'.links = m.links := by
    intro j m hm hj
    show ∃ m', (A.unlinked dir name).get j = some m' ∧ _
    have key : ∃ m', A1.get j = some m' ∧ m'.kind = m.kind ∧ m'.up = m.up ∧ m'.links = m.links := by
      rw [hG1, if_neg hj]
      by_cases e' : j = dir
      · subst e'; rw [if_pos rfl]; rw [hd] at hm; cases hm; exact ⟨_, rfl, rfl, rfl, rfl⟩
      · rw [if_neg e']; exact ⟨m, hm, rfl, rfl, rfl⟩
    obtain ⟨m', q1, q2⟩ := key
    refine ⟨m', ?_, q2⟩
    rw [e2]
    by_cases hz : nn.links - 1 = 0
    · rw [if_pos hz]
      show lk j (rm ino A1.nodes) = some m'
      rw [lk_rm hN1]
      have : (j == ino) = false := by simpa using hj
      rw [this]; exact q1
    · rw [if_neg hz]; exact q1
  have hlz : nn.links - 1 = 0 ↔ A.refs ino = 1 := by omega
  have hone : one ino ino = 1 := by unfold one; simp
  have hZr : ∀ j, Z.refs j + one j ino = A.refs j := by
    intro j
    show (A.unlinked dir name).refs j + _ = _
    rw [e2]
    by_cases hz : nn.links - 1 = 0
    · rw [if_pos hz]
      have q := sumF_rm (cntE j) ino A1.nodes
      have g2 : lk ino A1.nodes = some { nn with links := nn.links - 1 } := by have := hG1 ino; rw [if_pos rfl] at this; exact this
      rw [g2] at q
      have e0 : cntE j { nn with links := nn.links - 1 } = 0 := by unfold cntE; simp only; rw [hens]; rfl
      simp only [Option.map_some, Option.getD_some, e0] at q
      have := hrefs j
      unfold AT.refs at this ⊢
      show sumF (cntE j) (rm ino A1.nodes) + _ = _
      omega
    · rw [if_neg hz]; exact hrefs j
  -- nothing that stays names what goes
  have hgone : nn.links - 1 = 0 → ∀ j m s, Z.get j = some m → lk s m.ents ≠ some ino := by
    intro hz j m s hm hs
    have h0 : Z.refs ino = 0 := by have := hZr ino; rw [hone] at this; omega
    have hnd : (keysL Z.nodes).Nodup := by
      show (keysL (A.unlinked dir name).nodes).Nodup
      rw [e2, if_pos hz]; exact nodup_rm hN1
    have a := sumF_ge (f := cntE ino) (show lk j Z.nodes = some m from hm)
    have b := sumF_ge (f := one ino) hs
    unfold AT.refs at h0
    have : one ino ino ≤ cntE ino m := b
    omega
  have hnokid : ∀ k, A.isDir k → k ≠ 1 → A.upOf k ≠ ino := by
    intro k hk hk1 e
    obtain ⟨s, hs⟩ := h.named hk hk1
    rw [e] at hs
    unfold AT.find at hs; rw [hnn] at hs
    have hs : lk s nn.ents = some k := hs
    rw [hens] at hs; simp [lk] at hs
  have hq := h.uq
  have hq2 := h.bq
  have hui := h.ui_pos
  have hub := h.ub_pos
  have hszl := h.size_le hnn
  have hqs : Z.qi = A.qi ∧ Z.qb = A.qb ∧ Z.last = A.last := by
    show (A.unlinked dir name).qi = _ ∧ (A.unlinked dir name).qb = _ ∧ (A.unlinked dir name).last = _
    rw [e2]; split <;> exact ⟨rfl, rfl, rfl⟩
  have huse : (nn.links - 1 = 0 → Z.ui = A.ui - 1 ∧ Z.ub = A.ub - nn.data.size) ∧ (nn.links - 1 ≠ 0 → Z.ui = A.ui ∧ Z.ub = A.ub) := by
    refine ⟨fun hz => ?_, fun hz => ?_⟩
    · show (A.unlinked dir name).ui = _ ∧ (A.unlinked dir name).ub = _
      rw [e2, if_pos hz]
      exact ⟨wr_id (by omega) (by omega), wr_id (by omega) (by omega)⟩
    · show (A.unlinked dir name).ui = _ ∧ (A.unlinked dir name).ub = _
      rw [e2, if_neg hz]; exact ⟨rfl, rfl⟩
  have hZsum : ∀ f : AN → Nat, (f { nd with ents := rm name nd.ents } = f nd) → f { nn with links := nn.links - 1 } = f nn → (nn.links - 1 = 0 → sumF f Z.nodes + f nn = sumF f A.nodes) ∧ (nn.links - 1 ≠ 0 → sumF f Z.nodes = sumF f A.nodes) := by
    intro f hf1 hf2
    have q := hsum f
    rw [hf1, hf2] at q
    refine ⟨fun hz => ?_, fun hz => ?_⟩
    · show sumF f (A.unlinked dir name).nodes + _ = _
      rw [e2, if_pos hz]
      have q2 := sumF_rm f ino A1.nodes
      have g2 : lk ino A1.nodes = some { nn with links := nn.links - 1 } := by have := hG1 ino; rw [if_pos rfl] at this; exact this
      rw [g2] at q2
      simp only [Option.map_some, Option.getD_some, hf2] at q2
      show sumF f (rm ino A1.nodes) + _ = _
      omega
    · show sumF f (A.unlinked dir name).nodes = _
      rw [e2, if_neg hz]; omega
  show Inv Z ∧ Bd N Z ∧ ((0 : Int) ≠ 0 → Z = A) ∧ Z.qi = A.qi ∧ Z.qb = A.qb
  refine ⟨⟨?_, ?_, ?_, ?_, ?_, ?_, ?_, ?_, ?_, ?_, ?_, ?_, ?_⟩, ⟨?_, ?_, ?_⟩, fun h => absurd rfl h, hqs.1, hqs.2.1⟩
  · show (keysL (A.unlinked dir name).nodes).Nodup
    rw [e2]
    split
    · exact nodup_rm hN1
    · exact hN1
  · intro j m hm
    rcases hZ j m hm with ⟨_, rfl, _⟩ | ⟨_, rfl⟩ | ⟨_, _, hm⟩
    · exact h.enod ino nn hnn
    · exact nodup_rm (h.enod dir nd hd)
    · exact h.enod j m hm
  · obtain ⟨r, r1, r2, r3⟩ := h.root
    obtain ⟨m', q1, q2, q3, _⟩ := hXn 1 r r1 (fun e => hi1 e.symm)
    exact ⟨m', q1, by rw [q2, r2], by rw [q3, r3]⟩
  · intro j m hm
    rw [hqs.2.2]
    rcases hZ j m hm with ⟨rfl, _, _⟩ | ⟨rfl, _⟩ | ⟨_, _, hm⟩
    · exact h.low _ nn hnn
    · exact h.low _ nd hd
    · exact h.low j m hm
  · intro j m hm
    rcases hZ j m hm with ⟨_, rfl, _⟩ | ⟨_, rfl⟩ | ⟨_, _, hm⟩
    · exact h.like ino nn hnn
    · exact h.like dir nd hd
    · exact h.like j m hm
  · intro j m hm hk
    rcases hZ j m hm with ⟨_, rfl, _⟩ | ⟨_, rfl⟩ | ⟨_, _, hm⟩
    · exact hens
    · exact absurd hd2 hk
    · exact h.file j m hm hk
  · intro j m s t hm hs
    have hold : ∃ m0, A.get j = some m0 ∧ lk s m0.ents = some t := by
      rcases hZ j m hm with ⟨rfl, rfl, _⟩ | ⟨rfl, rfl⟩ | ⟨_, _, hm⟩
      · exact ⟨nn, hnn, hs⟩
      · simp only [lk_rm (h.enod j nd hd)] at hs
        by_cases e : (s == name) = true
        · rw [if_pos e] at hs; cases hs
        · rw [if_neg e] at hs; exact ⟨nd, hd, hs⟩
      · exact ⟨m, hm, hs⟩
    obtain ⟨m0, q1, q2⟩ := hold
    obtain ⟨a1, a2, m1, a3, a4⟩ := h.ent j m0 s t q1 q2
    refine ⟨a1, a2, ?_⟩
    by_cases e : t = ino
    · subst e
      by_cases hz : nn.links - 1 = 0
      · exact absurd hs (hgone hz j m s hm)
      · rw [hnn] at a3; cases a3
        have : Z.get t = some { nn with links := nn.links - 1 } := by
          show (A.unlinked dir name).get t = _
          rw [e2, if_neg hz, hG1, if_pos rfl]
        exact ⟨_, this, a4⟩
    · obtain ⟨m', b1, b2, b3, _⟩ := hXn t m1 a3 e
      exact ⟨m', b1, fun hk => by rw [b3]; exact a4 (by rw [← b2]; exact hk)⟩
  · intro j m hm hj
    have hr := hZr j
    rcases hZ j m hm with ⟨rfl, rfl, hz⟩ | ⟨rfl, rfl⟩ | ⟨hji, _, hm⟩
    · rw [hone] at hr
      refine ⟨?_, by omega, fun hk => ?_⟩
      · show nn.links - 1 = _; omega
      · have := hl3 hk; omega
    · have : one j ino = 0 := by unfold one; rw [if_neg hne]
      rw [this] at hr
      have := h.links j nd hd hj
      simp only at this ⊢
      rw [← hr] at this; exact this
    · have : one j ino = 0 := by unfold one; rw [if_neg (fun e => hji e.symm)]
      rw [this] at hr
      have := h.links j m hm hj
      rw [← hr] at this; exact this
  · rintro k ⟨m, hm, hk⟩
    have hkd : A.isDir k ∧ (k ≠ ino) := by
      rcases hZ k m hm with ⟨rfl, rfl, hz⟩ | ⟨rfl, rfl⟩ | ⟨hji, _, hm⟩
      · exfalso; exact hz (hlz.2 (hl3 hk))
      · exact ⟨⟨nd, hd, hk⟩, hne.symm⟩
      · exact ⟨⟨m, hm, hk⟩, hji⟩
    have hdd : Z.deep 12 k = A.deep 12 k := by
      refine deep_on (S := fun k => A.isDir k ∧ k ≠ ino) (fun k hk h1 => ⟨h.isDir_up hk.1, hnokid k hk.1 h1⟩) (fun k hk h1 => ?_) 12 k hkd
      obtain ⟨⟨m, hm, _⟩, hki⟩ := hk
      obtain ⟨m', q1, _, q3, _⟩ := hXn k m hm hki
      unfold AT.upOf; rw [hm, q1]; simp [q3]
    rw [hdd]; exact h.deep k hkd.1
  · have q := hZsum (fun _ => 1) rfl rfl
    rw [sumF_len, sumF_len] at q
    have e := h.ui
    by_cases hz : nn.links - 1 = 0
    · rw [(huse.1 hz).1]; have := q.1 hz; omega
    · rw [(huse.2 hz).1]; have := q.2 hz; omega
  · have q := hZsum (fun n => n.data.size) rfl rfl
    have e := h.ub
    unfold AT.bytes at e
    show Z.ub = (sumF (fun n : AN => n.data.size) Z.nodes : Nat)
    by_cases hz : nn.links - 1 = 0
    · rw [(huse.1 hz).2]; have := q.1 hz; omega
    · rw [(huse.2 hz).2]; have := q.2 hz; omega
  · rw [hqs.1]
    by_cases hz : nn.links - 1 = 0
    · rw [(huse.1 hz).1]; omega
    · rw [(huse.2 hz).1]; exact hq
  · rw [hqs.2.1]
    by_cases hz : nn.links - 1 = 0
    · rw [(huse.1 hz).2]; omega
    · rw [(huse.2 hz).2]; exact hq2
  · rw [hqs.2.2]; exact hb.last
  · intro j m hm
    rcases hZ j m hm with ⟨_, rfl, _⟩ | ⟨rfl, rfl⟩ | ⟨_, _, hm⟩
    · show nn.links - 1 ≤ N; omega
    · exact hb.links _ nd hd
    · exact hb.links j m hm
  · intro j m hm
    rcases hZ j m hm with ⟨_, rfl, _⟩ | ⟨rfl, rfl⟩ | ⟨_, _, hm⟩
    · exact hb.ents _ nn hnn
    · have := hb.ents _ nd hd
      have := (rm_sub (k := name) (l := nd.ents)).length_le
      show (rm name nd.ents).length ≤ N; omega
    · exact hb.ents j m hm
theorem newT_ok {qi qb : Int} (h : newOk qi qb = true) : Inv (newT qi qb) ∧ Bd 1 (newT qi qb) := by
  have hq : 1 ≤ qi ∧ qi ≤ 1048576 ∧ 0 ≤ qb ∧ qb ≤ 1073741824 := by
    unfold newOk at h
    simp at h
    omega
  have hg : ∀ i n, (newT qi qb).get i = some n → i = 1 ∧ n = ⟨2, 493, ⟨⟨[]⟩⟩, 1, 1, []⟩ := by
    intro i n hn
    have hn : lk i [((1 : Int), (⟨2, 493, ⟨⟨[]⟩⟩, 1, 1, []⟩ : AN))] = some n := hn
    simp only [lk] at hn
    cases hb : (i == 1) with
    | true => rw [hb] at hn; cases hn; exact ⟨by simpa using hb, rfl⟩
    | false => rw [hb] at hn; cases hn
  refine ⟨⟨?_, ?_, ?_, ?_, ?_, ?_, ?_, ?_, ?_, rfl, rfl, ⟨hq.1, hq.2.1⟩, ⟨hq.2.2.1, hq.2.2.2⟩⟩, ⟨?_, ?_, ?_⟩⟩
  · show [(1 : Int)].Nodup; simp
  · intro i n hn; obtain ⟨_, rfl⟩ := hg i n hn; exact List.nodup_nil
  · exact ⟨_, rfl, rfl, rfl⟩
  · intro i n hn; obtain ⟨rfl, rfl⟩ := hg i n hn; show (1 : Int) ≤ 1 ∧ (1 : Int) ≤ 1; omega
  · intro i n hn; obtain ⟨_, rfl⟩ := hg i n hn; rfl
  · intro i n hn; obtain ⟨_, rfl⟩ := hg i n hn; intro _; rfl
  · intro i n s j hn hs; obtain ⟨_, rfl⟩ := hg i n hn; simp [lk] at hs
  · intro i n hn h1; exact absurd (hg i n hn).1 h1
  · rintro i ⟨n, hn, _⟩; obtain ⟨rfl, _⟩ := hg i n hn; exact ⟨1, rfl⟩
  · show (1 : Int) ≤ (1 : Nat); omega
  · intro i n hn; obtain ⟨_, rfl⟩ := hg i n hn; show (1 : Int) ≤ (1 : Nat); omega
  · intro i n hn; obtain ⟨_, rfl⟩ := hg i n hn; show (0 : Nat) ≤ 1; omega
end Go.Wk

/- LAYING A TREE that may be, where there is room: it lies there, just so. -/
namespace Go.Wk
open Go Go.HL
mutual
def Tr.count : Tr → Nat
  | .mk _ _ _ _ kids => 1 + Tr.countRow kids
def Tr.countRow : List Tr → Nat
  | [] => 0
  | t :: r => Tr.count t + Tr.countRow r
end
mutual
def Tr.bytes : Tr → Nat
  | .mk _ _ _ d kids => d.size + Tr.bytesRow kids
def Tr.bytesRow : List Tr → Nat
  | [] => 0
  | t :: r => Tr.bytes t + Tr.bytesRow r
end
/-! ### What lies there -/
mutual
def Lies (A : AT) : Tr → Int → Prop
  | .mk _ k e d kids, i => ∃ n, A.get i = some n ∧ n.kind = k ∧ n.mode = modeOf k e ∧ n.data = d ∧ n.links = 1 ∧ keysL n.ents = kids.map Tr.name ∧ LiesRow A i n.ents kids
def LiesRow (A : AT) (i : Int) (es : List (ByteArray × Int)) : List Tr → Prop
  | [] => True
  | t :: r => (∃ j, i < j ∧ lk t.name es = some j ∧ Lies A t j) ∧ LiesRow A i es r
end
theorem lies_iff {A : AT} {t : Tr} {i : Int} : Lies A t i ↔ ∃ n, A.get i = some n ∧ n.kind = t.kind ∧ n.mode = modeOf t.kind t.exec ∧ n.data = t.data ∧ n.links = 1 ∧ keysL n.ents = t.kids.map Tr.name ∧ LiesRow A i n.ents t.kids := by
  obtain ⟨nm, k, e, d, kids⟩ := t
  simp only [Lies, Tr.kind, Tr.exec, Tr.data, Tr.kids]
theorem liesRow_iff {A : AT} {i : Int} {es : List (ByteArray × Int)} : ∀ {l : List Tr}, LiesRow A i es l ↔ ∀ x ∈ l, ∃ j, i < j ∧ lk x.name es = some j ∧ Lies A x j := by
  intro l
  induction l with
  | nil => simp [LiesRow]
  | cons y r ih => simp only [LiesRow, ih, List.mem_cons, forall_eq_or_imp]
theorem Lies.frame {A A' : AT} : ∀ (t : Tr) (i : Int), Lies A t i → (∀ k n, i ≤ k → A.get k = some n → A'.get k = some n) → Lies A' t i := by
  refine Tr.ind ?_
  intro t ih i h hf
  rw [lies_iff] at h ⊢
  obtain ⟨n, h1, h2, h3, h4, h5, h6, h7⟩ := h
  refine ⟨n, hf i n (Int.le_refl _) h1, h2, h3, h4, h5, h6, ?_⟩
  rw [liesRow_iff] at h7 ⊢
  intro x hx
  obtain ⟨j, q1, q2, q3⟩ := h7 x hx
  exact ⟨j, q1, q2, ih x hx j q3 fun k n hk hn => hf k n (by omega) hn⟩
end Go.Wk

/- A FILE SYSTEM's OPERATIONS keep what always holds; what fails changes nothing. -/
namespace Go.Wk
open Go Go.HL
structure OpOk (N : Nat) (A : AT) (r : Int × AT) : Prop where
  inv : Inv r.2
  bd : Bd N r.2
  same : r.1 ≠ 0 → r.2 = A
  qi : r.2.qi = A.qi
  qb : r.2.qb = A.qb
variable {A : AT} {N : Nat}
theorem OpOk.self (h : Inv A) (hb : Bd N A) (e : Int) : OpOk N A (e, A) := ⟨h, hb, fun _ => rfl, rfl, rfl⟩
theorem OpOk.mono {M : Nat} {r : Int × AT} (h : OpOk N A r) (hl : N ≤ M) : OpOk M A r := ⟨h.inv, h.bd.mono hl, h.same, h.qi, h.qb⟩
theorem make_op (h : Inv A) (hb : Bd N A) (hN : N < 4611686018427387904) {dir : Int} {name : ByteArray} {kind mode : Int} {data : ByteArray} (hs : data.size < 4611686018427387904) (hdp : A.isDir dir → kind = 2 → ∃ d, A.deep 11 dir = some d) : OpOk (N + 1) A ((A.makeR dir name kind mode data).2.1, (A.makeR dir name kind mode data).2.2) := by
  obtain ⟨h1, h2, h3⟩ := makeR_ok (dir := dir) (name := name) (kind := kind) (mode := mode) (data := data) h hb hN hs hdp
  refine ⟨h1, h2, fun he => ?_, h3.qi, h3.qb⟩
  by_cases he' : A.makeE dir name kind mode data = 0
  · rw [makeR_z he'] at he; exact absurd rfl he
  · rw [makeR_n he']
theorem mkdirF_ok (h : Inv A) (hb : Bd N A) (hN : N < 4611686018427387904) (cwd path : ByteArray) : OpOk (N + 1) A (A.mkdirF cwd path) := by
  unfold AT.mkdirF
  simp only
  by_cases h1 : (A.freshP cwd path).1 ≠ 0
  · rw [if_pos h1]; exact OpOk.self h (hb.mono (by omega)) _
  rw [if_neg h1]
  by_cases h2 : (A.deep 13 (A.freshP cwd path).2.dir).getD 0 ≥ 12
  · rw [if_pos h2]; exact OpOk.self h (hb.mono (by omega)) _
  rw [if_neg h2]
  refine make_op h hb hN (by decide) fun hd _ => ?_
  obtain ⟨d, hd13, hd12, _⟩ := h.deep13 hd
  rw [hd13] at h2
  simp only [Option.getD_some] at h2
  exact ⟨d, deep_low hd12 11 (by omega)⟩
theorem symlinkF_ok (h : Inv A) (hb : Bd N A) (hN : N < 4611686018427387904) (cwd target path : ByteArray) : OpOk (N + 1) A (A.symlinkF cwd target path) := by
  unfold AT.symlinkF
  simp only
  cases hl : linkOk target with
  | false => exact OpOk.self h (hb.mono (by omega)) _
  | true =>
    simp only [Bool.true_eq_false, if_false]
    by_cases h1 : (A.freshP cwd path).1 ≠ 0
    · rw [if_pos h1]; exact OpOk.self h (hb.mono (by omega)) _
    rw [if_neg h1]
    refine make_op h hb hN ?_ (fun _ hk => by cases hk)
    unfold linkOk at hl
    simp only [Bool.and_eq_true, decide_eq_true_eq] at hl
    omega
theorem writeF_ok (h : Inv A) (hb : Bd N A) (hN : N < 4611686018427387904) (cwd path data : ByteArray) (more : Bool) (hs : data.size < 2305843009213693952) : OpOk (N + 1) A (A.writeF cwd path data more) := by
  unfold AT.writeF
  simp only
  by_cases h1 : (A.locate cwd path true).1 ≠ 0
  · rw [if_pos h1]; exact OpOk.self h (hb.mono (by omega)) _
  rw [if_neg h1]
  by_cases h2 : (A.locate cwd path true).2.there = false
  · rw [if_pos h2]; exact make_op h hb hN (by omega) (fun _ hk => by cases hk)
  rw [if_neg h2]
  by_cases h3 : A.kind (A.locate cwd path true).2.ino = 2
  · rw [if_pos h3]; exact OpOk.self h (hb.mono (by omega)) _
  rw [if_neg h3]
  obtain ⟨a, b, c, d, e⟩ := writeR_ok h hb (A.locate cwd path true).2.ino (if more then A.data (A.locate cwd path true).2.ino ++ data else data) (by
    have hq := h.bq
    cases more with
    | false => simp only [Bool.false_eq_true, if_false]; omega
    | true =>
      simp only [if_true, ByteArray.size_append]
      have : (A.data (A.locate cwd path true).2.ino).size ≤ 1073741824 := by
        unfold AT.data
        cases hg : A.get (A.locate cwd path true).2.ino with
        | none => decide
        | some n => have := h.size_le hg; show n.data.size ≤ _; omega
      omega)
  exact ⟨a, b.mono (by omega), c, d, e⟩
theorem chmodF_ok (h : Inv A) (hb : Bd N A) (cwd path : ByteArray) (mode : Int) : OpOk N A (A.chmodF cwd path mode) := by
  unfold AT.chmodF
  simp only
  split
  · exact OpOk.self h hb _
  split
  · exact OpOk.self h hb _
  obtain ⟨a, b, c, d, e⟩ := chmodR_ok h hb (A.with_ cwd path true).2.1 mode
  exact ⟨a, b, c, d, e⟩
theorem removeF_ok (h : Inv A) (hb : Bd N A) (hN : N < 4611686018427387904) (cwd path : ByteArray) : OpOk N A (A.removeF cwd path) := by
  unfold AT.removeF
  simp only
  split
  · exact OpOk.self h hb _
  split
  · exact OpOk.self h hb _
  split
  · exact OpOk.self h hb _
  split
  · exact OpOk.self h hb _
  obtain ⟨a, b, c, d, e⟩ := unlinkR_ok h hb hN (A.locate cwd path false).2.dir (A.locate cwd path false).2.name
  exact ⟨a, b, c, d, e⟩
end Go.Wk

/- PATHS THAT ARE GONE along directories; what lies at them. -/
namespace Go.Wk
open Go Go.HL
theorem splitL_app {c : UInt8} {b : List UInt8} : ∀ a : List UInt8, splitL c (a ++ c :: b) = splitL c a ++ splitL c b := by
  intro a
  induction a with
  | nil => simp [splitL]
  | cons x a ih =>
    simp only [List.cons_append, splitL]
    cases (x == c) with
    | true => simp [ih]
    | false =>
      simp only [ih]
      cases hs : splitL c a with
      | nil => exact absurd hs (splitL_ne a)
      | cons h t => simp
theorem app_data (a b : ByteArray) : (a ++ b).data.toList = a.data.toList ++ b.data.toList := by rw [ByteArray.data_append, Array.toList_append]
theorem badByte_mem {s : ByteArray} (h : badByte s = false) : (47 : UInt8) ∉ s.data.toList ∧ (0 : UInt8) ∉ s.data.toList := by
  unfold badByte at h
  rw [List.any_eq_false] at h
  exact ⟨fun hm => h 47 hm (by decide), fun hm => h 0 hm (by decide)⟩
theorem okPart_of {n : ByteArray} (h : nameOk n) : okPart n = true := by
  unfold okPart; rw [sEq_false h.1, sEq_false h.2.1]; rfl
/-- one name more -/
def sub (p n : ByteArray) : ByteArray := (p ++ ⟨⟨[47]⟩⟩) ++ n
theorem sub_data (p n : ByteArray) : (sub p n).data.toList = p.data.toList ++ 47 :: n.data.toList := by
  unfold sub; rw [app_data, app_data, List.append_assoc]; rfl
theorem parts_sub {p n : ByteArray} (h : nameOk n) : partsB (sub p n) = partsB p ++ [n] := by
  have h47 := (badByte_mem h.2.2).1
  unfold partsB
  rw [sub_data, splitL_app, splitL_none h47, List.map_append, List.filter_append]
  congr 1
  show List.filter okPart [n] = [n]
  simp [okPart_of h]
theorem nul_sub {p n : ByteArray} (h : nameOk n) (hp : hasNul p = false) : hasNul (sub p n) = false := by
  have h0 := (badByte_mem h.2.2).2
  unfold hasNul at hp ⊢
  rw [sub_data, List.any_append, hp, List.any_cons, Bool.false_or]
  rw [Bool.or_eq_false_iff]
  refine ⟨by decide, ?_⟩
  rw [List.any_eq_false]
  intro x hx hb
  have : x = 0 := by simpa using hb
  subst this; exact h0 hx
theorem head_sub {p n : ByteArray} {c : UInt8} (hp : headIs c p = true) : headIs c (sub p n) = true := by
  unfold headIs at hp ⊢
  rw [sub_data]
  cases hl : p.data.toList with
  | nil => rw [hl] at hp; cases hp
  | cons x r => rw [hl] at hp; exact hp
/-- along directories -/
def Chain (A : AT) : Int → List ByteArray → Int → Prop
  | d, [], i => d = i
  | d, n :: r, i => A.kind d = 2 ∧ ∃ j, A.find d n = some j ∧ Chain A j r i
theorem Chain.snoc {A : AT} {n : ByteArray} {i j : Int} : ∀ {l : List ByteArray} {d : Int}, Chain A d l i → A.kind i = 2 → A.find i n = some j → Chain A d (l ++ [n]) j := by
  intro l
  induction l with
  | nil => intro d h h1 h2; have h : d = i := h; subst h; exact ⟨h1, j, h2, rfl⟩
  | cons x r ih =>
    intro d h h1 h2
    obtain ⟨a, k, b, c⟩ := h
    exact ⟨a, k, b, ih c h1 h2⟩
def stepOk (n : ByteArray) : Prop := n ≠ ⟨⟨[46, 46]⟩⟩ ∧ n.size ≤ 56
/-- a path that leads to an inode -/
structure PathTo (A : AT) (p : ByteArray) (i : Int) : Prop where
  head : headIs 47 p = true
  nul : hasNul p = false
  chain : Chain A 1 (partsB p) i
  names : ∀ n ∈ partsB p, stepOk n
theorem PathTo.sub {A : AT} {p n : ByteArray} {i j : Int} (h : PathTo A p i) (hk : A.kind i = 2) (hf : A.find i n = some j) (hn : mayName n = true) : PathTo A (Wk.sub p n) j := by
  unfold mayName at hn
  simp only [Bool.and_eq_true, decide_eq_true_eq, Bool.not_eq_true'] at hn
  obtain ⟨h1, h2, h3, h4, h5⟩ := hn
  have hne : n ≠ ⟨⟨[]⟩⟩ := by intro e; rw [e] at h1; exact absurd h1 (by decide)
  have hne2 : n ≠ ⟨⟨[46]⟩⟩ := by intro e; rw [e] at h4; exact absurd h4 (by decide)
  have hne3 : n ≠ ⟨⟨[46, 46]⟩⟩ := by intro e; rw [e] at h5; exact absurd h5 (by decide)
  have hok : nameOk n := ⟨hne, hne2, h3⟩
  refine ⟨head_sub h.head, nul_sub hok h.nul, ?_, ?_⟩
  · rw [parts_sub hok]; exact h.chain.snoc hk hf
  · rw [parts_sub hok]
    intro m hm
    rcases List.mem_append.1 hm with hm | hm
    · exact h.names m hm
    · simp at hm; subst hm; exact ⟨hne3, h2⟩
/-! ### Cutting trees -/
end Go.Wk

/- A SLICE of trees that is made here. -/
set_option maxRecDepth 100000
namespace Go.Proofs.YtlpcehbfoogejaaGreatDoor
open Go Go.HL Go.Wk
attribute [local irreducible] ptrW ifW brW andW rdT alW letJ stW muW biW vaW imW callT cvalT app callW invW callVW sizeT oW nilF oneK loopW rfW funW begW roundK exW idxW Gr Put
def RowsTr (τ : H) : List Tr → List (List Value) → Prop
  | [], [] => True
  | t :: ts, r :: rows => TrAt τ t r ∧ RowsTr τ ts rows
  | _, _ => False
theorem RowsTr.gr {τ τ' : H} (hg : Gr τ τ') : ∀ {ts : List Tr} {rows : List (List Value)}, RowsTr τ ts rows → RowsTr τ' ts rows := by
  intro ts
  induction ts with
  | nil => intro rows h; cases rows <;> exact h
  | cons t ts ih =>
    intro rows h
    cases rows with
    | nil => exact h.elim
    | cons r rows => exact ⟨gr_both hg t r h.1, ih h.2⟩
theorem RowsTr.snoc {τ : H} {t : Tr} {r : List Value} (ht : TrAt τ t r) : ∀ {ts : List Tr} {rows : List (List Value)}, RowsTr τ ts rows → RowsTr τ (ts ++ [t]) (rows ++ [r]) := by
  intro ts
  induction ts with
  | nil => intro rows h; cases rows with
    | nil => exact ⟨ht, trivial⟩
    | cons r rows => exact h.elim
  | cons t ts ih =>
    intro rows h
    cases rows with
    | nil => exact h.elim
    | cons r rows => exact ⟨h.1, ih h.2⟩
theorem RowsTr.len {τ : H} : ∀ {ts : List Tr} {rows : List (List Value)}, RowsTr τ ts rows → rows.length = ts.length := by
  intro ts
  induction ts with
  | nil => intro rows h; cases rows with
    | nil => rfl
    | cons r rows => exact h.elim
  | cons t ts ih =>
    intro rows h
    cases rows with
    | nil => exact h.elim
    | cons r rows => simp [ih h.2]
end Go.Proofs.YtlpcehbfoogejaaGreatDoor

/- THE CARDS: what they have in common. -/
set_option maxRecDepth 100000
namespace Go.Proofs.YtlpcehbfoogejaaGreatDoor
open Go Go.HL Go.Wk Go.ChangeShapes Go.WideShapes Go.ChangeAt Go.RowKit
theorem own : ownKnob Tryz.prog.godebug = none := by kernel_rfl
theorem laidOut : laidOutB Tryz.prog = true := by kernel_rfl
def accCells : Array Value := #[.int .u8 128, .int .u8 191, .int .u8 160, .int .u8 191, .int .u8 128, .int .u8 159, .int .u8 144, .int .u8 191, .int .u8 128, .int .u8 143, .int .u8 0, .int .u8 0, .int .u8 0, .int .u8 0, .int .u8 0, .int .u8 0, .int .u8 0, .int .u8 0, .int .u8 0, .int .u8 0, .int .u8 0, .int .u8 0, .int .u8 0, .int .u8 0, .int .u8 0, .int .u8 0, .int .u8 0, .int .u8 0, .int .u8 0, .int .u8 0, .int .u8 0, .int .u8 0]
def firstCells : Array Value := ⟨Go.Pinned.utf8FirstZ.map fun (n : Nat) => .int .u8 (n : Int)⟩
def setC (cs : Array Value) : Obj → Obj
  | .cells _ t frozen => .cells cs t frozen
  | o => o
/-- a world for the witness: the two tables hold what they must -/
noncomputable def laidWorld (os : Os) : World :=
  { World.holding Tryz.prog os ⟨#[], #[], []⟩ with heap := ((World.holding Tryz.prog os ⟨#[], #[], []⟩).heap.modify 1 (setC firstCells)).modify 2 (setC accCells) }
end Go.Proofs.YtlpcehbfoogejaaGreatDoor

/- THE STATEMENTS OF LAYER 8: the chapter's rows. -/
set_option maxRecDepth 100000
namespace Go.Proofs.YtlpcehbfoogejaaGreatDoor
open Go Go.HL Go.Wk
attribute [local irreducible] ptrW ifW brW andW rdT alW letJ stW muW biW vaW imW callT cvalT app callW invW callVW sizeT oW nilF oneK loopW rfW funW begW roundK exW idxW Gr Put
def bl (l : List UInt8) : ByteArray := ⟨⟨l⟩⟩
/-- the chapter's file system, step by step -/
def w0 : AT := newT 60 2000
def w1 : AT := (w0.mkdirF (bl [47]) (bl [97])).2
def w2 : AT := (w1.writeF (bl [47, 97]) (bl [102]) (bl [104, 105]) false).2
def w3 : AT := (w2.symlinkF (bl [47]) (bl [97, 47, 102]) (bl [108])).2
def w4 : AT := (w3.symlinkF (bl [47]) (bl [109]) (bl [109])).2
def w5 : AT := (w4.writeF (bl [47]) (bl [108]) (bl [33]) true).2
theorem w0_ok : Inv w0 ∧ Bd 1 w0 := newT_ok rfl
theorem w1_ok : OpOk 2 w0 (w0.mkdirF (bl [47]) (bl [97])) := mkdirF_ok w0_ok.1 w0_ok.2 (by decide) _ _
theorem w2_ok : OpOk 3 w1 (w1.writeF (bl [47, 97]) (bl [102]) (bl [104, 105]) false) := writeF_ok w1_ok.inv w1_ok.bd (by decide) _ _ _ _ (by decide)
theorem w3_ok : OpOk 4 w2 (w2.symlinkF (bl [47]) (bl [97, 47, 102]) (bl [108])) := symlinkF_ok w2_ok.inv w2_ok.bd (by decide) _ _ _
theorem w4_ok : OpOk 5 w3 (w3.symlinkF (bl [47]) (bl [109]) (bl [109])) := symlinkF_ok w3_ok.inv w3_ok.bd (by decide) _ _ _
theorem w5_ok : OpOk 6 w4 (w4.writeF (bl [47]) (bl [108]) (bl [33]) true) := writeF_ok w4_ok.inv w4_ok.bd (by decide) _ _ _ _ (by decide)
theorem i1 : Inv w1 := w1_ok.inv
theorem d1 : Bd 2 w1 := w1_ok.bd
theorem i2 : Inv w2 := w2_ok.inv
theorem d2 : Bd 3 w2 := w2_ok.bd
theorem i3 : Inv w3 := w3_ok.inv
theorem d3 : Bd 4 w3 := w3_ok.bd
theorem i4 : Inv w4 := w4_ok.inv
theorem d4 : Bd 5 w4 := w4_ok.bd
theorem i5 : Inv w5 := w5_ok.inv
theorem d5 : Bd 6 w5 := w5_ok.bd
theorem v1 : (w0.mkdirF (bl [47]) (bl [97])).1 = 0 := by decide +kernel
theorem v2 : (w1.writeF (bl [47, 97]) (bl [102]) (bl [104, 105]) false).1 = 0 := by decide +kernel
theorem v3 : (w2.symlinkF (bl [47]) (bl [97, 47, 102]) (bl [108])).1 = 0 := by decide +kernel
theorem v4 : (w3.symlinkF (bl [47]) (bl [109]) (bl [109])).1 = 0 := by decide +kernel
theorem v5 : (w4.writeF (bl [47]) (bl [108]) (bl [33]) true).1 = 0 := by decide +kernel
theorem r1 : w4.read (bl [47]) (bl [108]) = (0, bl [104, 105]) := by decide +kernel
theorem r2 : w4.read (bl [47, 97]) (bl [46, 46, 47, 46, 46, 47, 97, 47, 46, 47, 102]) = (0, bl [104, 105]) := by decide +kernel
theorem r3 : w4.read (bl [47]) (bl [109]) = (9, bl []) := by decide +kernel
theorem r4 : w4.read (bl [47]) (bl [97]) = (7, bl []) := by decide +kernel
theorem r5 : w5.read (bl [47, 97]) (bl [102]) = (0, bl [104, 105, 33]) := by decide +kernel
theorem x1 : (w5.stat (bl [47]) (bl [108]) false).1 = 0 ∧ (w5.stat (bl [47]) (bl [108]) false).2.kind = 3 := by decide +kernel
theorem x2 : w5.realF (bl [47, 97]) (bl [46, 46, 47, 108]) = (0, bl [47, 97, 47, 102]) := by decide +kernel
theorem x3 : w5.realF (bl [47]) (bl [46, 46]) = (0, bl [47]) := by decide +kernel
theorem x4 : (w5.mkdirF (bl [47]) (bl [97, 47, 102, 47, 120])).1 = 8 := by decide +kernel
theorem x5 : (w5.removeF (bl [47]) (bl [97])).1 = 20 := by decide +kernel
theorem s_quota8 {σ : H} {K : Value → H → Prop} (hK : K (.agg ⟨[.int .i64 60, .int .i64 2000]⟩) σ) : callW Tryz.prog 97 [] K σ := by
  refine pure_i _ hK (c97 ?_)
  unfold g97
  refine al_i ?_; intro b1 σ1 g1 e1 n1
  refine st_i2 e1 sz_Quota (by rfl) (by rfl) ?_; intro σ2 p2
  refine rd_G (rdA_of' p2.same (by rfl)) ?_
  (refine app_of rfl ?_; try dsimp only)
  exact ⟨rfl, g1.putF p2 n1⟩
theorem s_small8 {σ : H} {K : Value → H → Prop} (hK : ∀ bf σ' B', FsAt σ' bf w4 B' → Off σ σ' B' → K (.pointer (some ⟨bf, 0, none⟩)) σ') : callW Tryz.prog 43 [] K σ := by
  refine c43 ?_
  unfold g43
  refine call_i (s_quota8 ?_)
  (refine app_of rfl ?_; try dsimp only)
  refine call_i (s_New 60 2000 (fun h => by cases h) ?_)
  intro _ bf σ1 B1 F1 g1 hf1
  have O1 := Off.new g1 hf1
  refine app_P ?_
  refine j_d ?_
  refine br_f rfl ?_
  refine call_i (s_Mkdir w0_ok.1 w0_ok.2 (by decide) F1 _ _ ?_)
  intro σ2 B2 F2 S2
  have O2 := O1.sep S2
  refine app_I ?_
  have e := v1
  unfold bl at e
  show brW ((w0.mkdirF ⟨⟨[47]⟩⟩ ⟨⟨[97]⟩⟩).1 != 0) _ _ _
  rw [e]
  refine br_f rfl ?_
  refine call_i (s_Write (A := w1) i1 d1 (by decide) F2 _ _ _ _ (by decide) ?_)
  intro σ3 B3 F3 S3
  have O3 := O2.sep S3
  refine app_I ?_
  have e := v2
  unfold bl at e
  rw [e]
  refine br_f rfl ?_
  refine call_i (s_Symlink (A := w2) i2 d2 (by decide) F3 _ _ _ ?_)
  intro σ4 B4 F4 S4
  have O4 := O3.sep S4
  refine app_I ?_
  have e := v3
  unfold bl at e
  rw [e]
  refine br_f rfl ?_
  refine call_i (s_Symlink (A := w3) i3 d3 (by decide) F4 _ _ _ ?_)
  intro σ5 B5 F5 S5
  have O5 := O4.sep S5
  refine app_I ?_
  have e := v4
  unfold bl at e
  rw [e]
  exact br_f rfl (hK bf σ5 B5 F5 O5)
theorem s_reads8 {A : AT} {σ : H} {bf : Nat} {B : Nat → Prop} (hF : FsAt σ bf A B) (cwd path want : ByteArray) (e : Int) {K : Value → H → Prop} (hK : K (.bool (strEq (A.read cwd path).2 want && ((A.read cwd path).1 == e))) σ) :
    callW Tryz.prog 44 [.pointer (some ⟨bf, 0, none⟩), .string cwd, .string path, .string want, .int .i64 e] K σ := by
  refine c44 _ _ _ _ _ ?_
  unfold g44
  refine call_i (s_Read hF cwd path ?_)
  (refine app_of rfl ?_; try dsimp only)
  cases h : strEq (A.read cwd path).2 want with
  | true => rw [h] at hK; exact br_t rfl hK
  | false => rw [h] at hK; exact br_f rfl hK
theorem strEq_self (s : ByteArray) : strEq s s = true := strEq_iff.2 rfl
theorem s_works8 {σ : H} {K : Value → H → Prop} (hK : K (.bool true) σ) : callW Tryz.prog 13 [] K σ := by
  refine pure_i _ hK (c13 ?_)
  clear hK
  unfold g13
  refine call_i (s_small8 ?_)
  intro bf σ1 B1 F1 O1
  refine app_P ?_
  refine j_i (fun j => ∀ σ2 B2, FsAt σ2 bf w5 B2 → Off σ σ2 B2 → j (some ⟨bf, 0, none⟩) false σ2) ?_ ?_
  · intro σ2 B2 F2 O2
    refine br_f rfl ?_
    refine call_i (s_Stat F2 _ _ _ ?_)
    have e := x1
    unfold bl at e
    obtain ⟨ea, eb⟩ := e
    rw [ea]
    unfold inV
    (refine app_of rfl ?_; try dsimp only)
    refine al_i ?_; intro b10 σ3 g3 e3 n3
    refine st_i2 e3 sz_Inode (by rfl) (by rfl) ?_; intro σ4 p4
    have hg4 : Gr σ2 σ4 := g3.putF p4 n3
    have F4 := F2.gr hg4
    have O4 := O2.gr hg4
    have k10 := p4.same
    refine call_i (s_Real i5 d5 (by decide) F4 _ _ ?_)
    have e := x2
    unfold bl at e
    rw [e]
    (refine app_of rfl ?_; try dsimp only)
    refine call_i (s_Real i5 d5 (by decide) F4 _ _ ?_)
    have e := x3
    unfold bl at e
    rw [e]
    (refine app_of rfl ?_; try dsimp only)
    refine br_t rfl (rd_I (rdC_of k10 (by rfl)) ?_)
    rw [eb]
    refine br_t rfl (br_t rfl (br_t (strEq_self _) (br_t rfl (br_t (strEq_self _) ?_))))
    refine call_i (s_Mkdir i5 d5 (by decide) F4 _ _ ?_)
    intro σ5 B5 F5 S5
    refine app_I ?_
    have hsame := (mkdirF_ok i5 d5 (by decide) (bl [47]) (bl [97, 47, 102, 47, 120])).same (by rw [x4]; decide)
    have e := x4
    unfold bl at e hsame
    rw [e]
    have F5' : FsAt σ5 bf w5 B5 := by have := F5; rw [show (w5.mkdirF ⟨⟨[47]⟩⟩ ⟨⟨[97, 47, 102, 47, 120]⟩⟩).2 = w5 from hsame] at this; exact this
    refine br_t rfl ?_
    refine call_i (s_Remove i5 d5 (by decide) F5' _ _ ?_)
    intro σ6 B6 F6 S6
    refine app_I ?_
    have e := x5
    unfold bl at e
    show (fun u σ' => u = Value.bool true ∧ Gr σ σ') (.bool ((w5.removeF ⟨⟨[47]⟩⟩ ⟨⟨[97]⟩⟩).1 == 20)) σ6
    rw [e]
    exact ⟨rfl, ((O4.sep S5).sep S6).1⟩
  · intro j hj
    refine br_f rfl ?_
    refine call_i (s_reads8 F1 _ _ _ _ (app_B ?_))
    have e := r1
    unfold bl at e
    rw [e]
    refine br_f (by rw [strEq_self]; rfl) ?_
    refine call_i (s_reads8 F1 _ _ _ _ (app_B ?_))
    have e := r2
    unfold bl at e
    rw [e]
    refine br_f (by rw [strEq_self]; rfl) ?_
    refine call_i (s_reads8 F1 _ _ _ _ (app_B ?_))
    have e := r3
    unfold bl at e
    rw [e]
    refine br_f (by rw [strEq_self]; rfl) ?_
    refine call_i (s_reads8 F1 _ _ _ _ (app_B ?_))
    have e := r4
    unfold bl at e
    rw [e]
    refine br_f (by rw [strEq_self]; rfl) ?_
    refine call_i (s_Write i4 d4 (by decide) F1 _ _ _ _ (by decide) ?_)
    intro σ2 B2 F2 S2
    refine app_I ?_
    have e := v5
    unfold bl at e
    show brW ((w4.writeF ⟨⟨[47]⟩⟩ ⟨⟨[108]⟩⟩ ⟨⟨[33]⟩⟩ true).1 != 0) _ _ _
    rw [e]
    refine br_f rfl ?_
    refine call_i (s_reads8 (A := w5) F2 _ _ _ _ (app_B ?_))
    have e := r5
    unfold bl at e
    rw [e, strEq_self]
    exact hj σ2 B2 F2 (O1.sep S2)
theorem s_text8 (s : ByteArray) {σ : H} {K : Value → H → Prop} (hK : K (.string (s.extract 0 (min s.size 300))) σ) : callW Tryz.prog 20 [.string s] K σ := by
  refine c20 _ ?_
  unfold g20
  have e : (if 300 < ((s.size : Nat) : Int) then (300 : Int) else ((s.size : Nat) : Int)).toNat = min s.size 300 := by split <;> omega
  rw [e]
  refine if_i ⟨bnd_some (by split <;> omega) (by split <;> omega), bnd_none⟩ hK
end Go.Proofs.YtlpcehbfoogejaaGreatDoor

/- FsQuota: the walk. -/
set_option maxRecDepth 100000
namespace Go.Proofs.YtlpcehbfoogejaaGreatDoor
open Go Go.HL Go.Wk
attribute [local irreducible] ptrW ifW brW andW rdT alW letJ stW muW biW vaW imW callT cvalT app callW invW callVW sizeT oW nilF oneK loopW rfW funW begW roundK exW idxW Gr Put
structure Act where
  what : Int
  cwd : ByteArray
  a : ByteArray
  b : ByteArray
  mode : Int
  flag : Bool
def Act.cells (a : Act) : List Value := [.int .u8 a.what, .string a.cwd, .string a.a, .string a.b, .int .i64 a.mode, .bool a.flag]
def ActsAt (σ : H) (l : List Act) (x : Sl) : Prop := RowsAt σ 6 (l.map Act.cells) x
theorem ActsAt.rd {σ : H} {l : List Act} {x : Sl} (h : ActsAt σ l x) {i : Nat} {a : Act} (hi : l[i]? = some a) : ∃ g o, x.base = some ⟨g, o, none⟩ ∧ rdA 6 g (o + i * 6) σ = some (.agg ⟨a.cells⟩) := RowsAt.rd h (by simp [hi]) (by decide)
theorem ActsAt.len {σ : H} {l : List Act} {x : Sl} (h : ActsAt σ l x) : x.len = l.length := by have := h.1; simpa using this
theorem sz_Act8 : sizeT Tryz.prog 40 = some 6 := by kernel_rfl
def tx (s : ByteArray) : ByteArray := s.extract 0 (min s.size 300)
theorem tx_size (s : ByteArray) : (tx s).size ≤ 300 := by unfold tx; rw [ByteArray.size_extract]; omega
end Go.Proofs.YtlpcehbfoogejaaGreatDoor

/- WHAT LIES SOMEWHERE, as a tree in its one form; whether two trees are alike. -/
namespace Go.Wk
open Go Go.HL
def Tr.z : Tr := .mk ⟨⟨[]⟩⟩ 0 false ⟨⟨[]⟩⟩ []
def Tr.named (s : ByteArray) : Tr → Tr
  | .mk _ k e d kids => .mk s k e d kids
def trimL : List UInt8 → List UInt8
  | [] => []
  | x :: r => match r with
    | [] => (match x == 47 with | true => [] | false => [x])
    | _ :: _ => x :: trimL r
def trimS (p : ByteArray) : ByteArray := ⟨⟨trimL p.data.toList⟩⟩
def kidP (p n : ByteArray) : ByteArray := sub (trimS p) n
def takeRow (g : ByteArray → Int × Tr) (path : ByteArray) : List ByteArray → Int × List Tr
  | [] => (0, [])
  | n :: r => let x := g (kidP path n)
    if x.1 ≠ 0 then (x.1, []) else
      let y := takeRow g path r
      (y.1, x.2.named n :: y.2)
def xOf (k m : Int) : Bool := k == 1 && (bitV .and .i64 m 73 : Int) != 0
/-- the tree at a path -/
def AT.take (A : AT) : Nat → ByteArray → Int × Tr
  | 0, _ => (3, Tr.z)
  | f + 1, path =>
    let x := A.stat ⟨⟨[47]⟩⟩ path false
    if x.1 ≠ 0 then (x.1, Tr.z)
    else if x.2.kind = 2 then
      let l := A.listF ⟨⟨[47]⟩⟩ path
      if l.1 ≠ 0 then (l.1, Tr.z)
      else
        let r := takeRow (AT.take A f) path l.2
        (r.1, .mk ⟨⟨[]⟩⟩ 2 false x.2.data r.2)
    else (0, .mk ⟨⟨[]⟩⟩ x.2.kind (xOf x.2.kind x.2.mode) x.2.data [])
mutual
def Tr.same : Tr → Tr → Bool
  | .mk n k e d kids, u => !(Tr.mk n k e d kids).tooDeep && (!u.tooDeep && (sEq n u.name && ((k == u.kind) && ((e == u.exec) && (sEq d u.data && (Nat.beq kids.length u.kids.length && Tr.sameRow kids u.kids))))))
def Tr.sameRow : List Tr → List Tr → Bool
  | [], _ => true
  | t :: r, l => match l with
    | [] => false
    | u :: s => Tr.same t u && Tr.sameRow r s
end
/-! ### Paths of kids -/
/-! ### Names that rise -/
/-! ### What was laid is taken just so -/
def Tr.fits (c : Nat) : Nat → Tr → Prop
  | 0, t => t.kids = []
  | k + 1, t => ∀ x ∈ t.kids, x.name.size ≤ c ∧ Tr.fits c k x
end Go.Wk

/- A TABLE OF INODES: another entry of a file; an entry moves: what always holds stays so. -/
namespace Go.Wk
open Go Go.HL
variable {A : AT}
/-! ### Link -/
theorem linkE_z {dir : Int} {name : ByteArray} {ino : Int} (he : A.linkE dir name ino = 0) : A.isDir dir ∧ namedE name = 0 ∧ (∃ n, A.get ino = some n ∧ n.kind = 1) ∧ A.find dir name = none := by
  unfold AT.linkE at he
  obtain ⟨_, he⟩ := AT.firstE_z he
  obtain ⟨h1, he⟩ := AT.firstE_z he
  obtain ⟨h2, he⟩ := AT.firstE_z he
  obtain ⟨h3, he⟩ := AT.firstE_z he
  obtain ⟨h4, _⟩ := AT.firstE_z he
  refine ⟨AT.dirE_z h1, h2, AT.fileE_z h3, ?_⟩
  cases hf : A.find dir name with
  | none => rfl
  | some j => rw [hf] at h4; simp at h4
theorem linkR_ok {N : Nat} (h : Inv A) (hb : Bd N A) (hN : N < 4611686018427387904) (dir : Int) (name : ByteArray) (ino : Int) : Inv (A.linkR dir name ino).2 ∧ Bd (N + 1) (A.linkR dir name ino).2 ∧ ((A.linkR dir name ino).1 ≠ 0 → (A.linkR dir name ino).2 = A) ∧ (A.linkR dir name ino).2.qi = A.qi ∧ (A.linkR dir name ino).2.qb = A.qb := by
  unfold AT.linkR
  by_cases he : A.linkE dir name ino = 0
  case neg => rw [if_neg he]; exact ⟨h, hb.mono (by omega), fun _ => rfl, rfl, rfl⟩
  rw [if_pos he]
  obtain ⟨⟨nd, hd, hd2⟩, hnm, ⟨nn, hnn, hk1⟩, hfn⟩ := linkE_z he
  have hne : ino ≠ dir := by intro e; subst e; rw [hd] at hnn; cases hnn; omega
  have hfn' : lk name nd.ents = none := by unfold AT.find at hfn; rw [hd] at hfn; exact hfn
  have hlb : nn.links ≤ N := hb.links ino nn hnn
  have hi1 : ino ≠ 1 := by
    intro e; subst e
    obtain ⟨r, r1, r2, _⟩ := h.root
    rw [hnn] at r1; cases r1; omega
  have hl0 := h.links ino nn hnn hi1
  have wl : wr (nn.links + 1) = nn.links + 1 := wr_id (by omega) (by omega)
  have e1 : A.ent dir (up name ino) = A.set dir { nd with ents := up name ino nd.ents } := by unfold AT.ent; rw [hd]
  have g1 : (A.set dir { nd with ents := up name ino nd.ents }).get ino = some nn := by rw [AT.get_set_ne _ _ hne]; exact hnn
  have e2 : A.linked dir name ino = (A.set dir { nd with ents := up name ino nd.ents }).set ino { nn with links := nn.links + 1 } := by
    unfold AT.linked AT.mod; rw [e1, g1]; simp only; rw [wl]
  have hG : ∀ j, (A.linked dir name ino).get j = if j = ino then some { nn with links := nn.links + 1 } else if j = dir then some { nd with ents := up name ino nd.ents } else A.get j := by
    intro j; rw [e2, AT.get_set, AT.get_set]
  have hsum : ∀ f : AN → Nat, sumF f (A.linked dir name ino).nodes + f nd + f nn = sumF f A.nodes + f { nd with ents := up name ino nd.ents } + f { nn with links := nn.links + 1 } := by
    intro f
    have q1 := AT.sum_set (A.set dir { nd with ents := up name ino nd.ents }) f ino { nn with links := nn.links + 1 }
    have q2 := AT.sum_set A f dir { nd with ents := up name ino nd.ents }
    rw [g1] at q1; rw [hd] at q2
    simp only [Option.map_some, Option.getD_some] at q1 q2
    rw [e2]; omega
  have hcE : ∀ j, cntE j { nd with ents := up name ino nd.ents } = cntE j nd + one j ino := by
    intro j
    have := sumF_up (one j) name ino nd.ents
    rw [hfn'] at this
    simpa [cntE] using this
  have hrefs : ∀ j, (A.linked dir name ino).refs j = A.refs j + one j ino := by
    intro j
    have := hsum (cntE j)
    rw [hcE j] at this
    have e : cntE j { nn with links := nn.links + 1 } = cntE j nn := rfl
    unfold AT.refs; omega
  have hcase : ∀ j m, (A.linked dir name ino).get j = some m → (j = ino ∧ m = { nn with links := nn.links + 1 }) ∨ (j = dir ∧ m = { nd with ents := up name ino nd.ents }) ∨ (j ≠ ino ∧ j ≠ dir ∧ A.get j = some m) := by
    intro j m hm
    rw [hG] at hm
    by_cases e : j = ino
    · rw [if_pos e] at hm; cases hm; exact .inl ⟨e, rfl⟩
    · rw [if_neg e] at hm
      by_cases e' : j = dir
      · rw [if_pos e'] at hm; cases hm; exact .inr (.inl ⟨e', rfl⟩)
      · rw [if_neg e'] at hm; exact .inr (.inr ⟨e, e', hm⟩)
  have hx : ∀ j m, A.get j = some m → ∃ m', (A.linked dir name ino).get j = some m' ∧ m'.kind = m.kind ∧ m'.up = m.up := by
    intro j m hm
    rw [hG]
    by_cases e : j = ino
    · subst e; rw [if_pos rfl]; rw [hnn] at hm; cases hm; exact ⟨_, rfl, rfl, rfl⟩
    · rw [if_neg e]
      by_cases e' : j = dir
      · subst e'; rw [if_pos rfl]; rw [hd] at hm; cases hm; exact ⟨_, rfl, rfl, rfl⟩
      · rw [if_neg e']; exact ⟨m, hm, rfl, rfl⟩
  have hupO : ∀ k, A.isDir k → (A.linked dir name ino).upOf k = A.upOf k := by
    rintro k ⟨m, hm, _⟩
    obtain ⟨m', q1, _, q3⟩ := hx k m hm
    unfold AT.upOf; rw [hm, q1]; simp [q3]
  have hu : (A.linked dir name ino).ui = A.ui ∧ (A.linked dir name ino).ub = A.ub ∧ (A.linked dir name ino).qi = A.qi ∧ (A.linked dir name ino).qb = A.qb ∧ (A.linked dir name ino).last = A.last := by rw [e2]; exact ⟨rfl, rfl, rfl, rfl, rfl⟩
  have hone : one ino ino = 1 := by unfold one; simp
  show Inv (A.linked dir name ino) ∧ Bd (N + 1) (A.linked dir name ino) ∧ ((0 : Int) ≠ 0 → _) ∧ _ ∧ _
  refine ⟨⟨?_, ?_, ?_, ?_, ?_, ?_, ?_, ?_, ?_, ?_, ?_, ?_, ?_⟩, ⟨?_, ?_, ?_⟩, fun h => absurd rfl h, hu.2.2.1, hu.2.2.2.1⟩
  · rw [e2]; exact nodup_up (nodup_up h.nodup)
  · intro j m hm
    rcases hcase j m hm with ⟨_, rfl⟩ | ⟨_, rfl⟩ | ⟨_, _, hm⟩
    · exact h.enod ino nn hnn
    · exact nodup_up (h.enod dir nd hd)
    · exact h.enod j m hm
  · obtain ⟨r, r1, r2, r3⟩ := h.root
    obtain ⟨m', q1, q2, q3⟩ := hx 1 r r1
    exact ⟨m', q1, by rw [q2, r2], by rw [q3, r3]⟩
  · intro j m hm
    rw [hu.2.2.2.2]
    rcases hcase j m hm with ⟨rfl, _⟩ | ⟨rfl, _⟩ | ⟨_, _, hm⟩
    · exact h.low _ nn hnn
    · exact h.low _ nd hd
    · exact h.low j m hm
  · intro j m hm
    rcases hcase j m hm with ⟨_, rfl⟩ | ⟨_, rfl⟩ | ⟨_, _, hm⟩
    · exact h.like ino nn hnn
    · exact h.like dir nd hd
    · exact h.like j m hm
  · intro j m hm hk
    rcases hcase j m hm with ⟨_, rfl⟩ | ⟨_, rfl⟩ | ⟨_, _, hm⟩
    · exact h.file ino nn hnn hk
    · exact absurd hd2 hk
    · exact h.file j m hm hk
  · intro j m s t hm hs
    have fin : ∀ t m1, A.get t = some m1 → (m1.kind = 2 → m1.up = j) → ∃ m', (A.linked dir name ino).get t = some m' ∧ (m'.kind = 2 → m'.up = j) := by
      intro t m1 a3 a4
      obtain ⟨m', b1, b2, b3⟩ := hx t m1 a3
      exact ⟨m', b1, fun hk => by rw [b3]; exact a4 (by rw [← b2]; exact hk)⟩
    rcases hcase j m hm with ⟨rfl, rfl⟩ | ⟨rfl, rfl⟩ | ⟨_, _, hm⟩
    · obtain ⟨a1, a2, m1, a3, a4⟩ := h.ent j nn s t hnn hs
      exact ⟨a1, a2, fin t m1 a3 a4⟩
    · simp only [lk_up] at hs
      by_cases e : s = name
      · subst e
        simp at hs; subst hs
        exact ⟨hnm, hi1, fin ino nn hnn (fun hk => by omega)⟩
      · have e' : (s == name) = false := by simpa using e
        rw [e'] at hs
        obtain ⟨a1, a2, m1, a3, a4⟩ := h.ent j nd s t hd hs
        exact ⟨a1, a2, fin t m1 a3 a4⟩
    · obtain ⟨a1, a2, m1, a3, a4⟩ := h.ent j m s t hm hs
      exact ⟨a1, a2, fin t m1 a3 a4⟩
  · intro j m hm hj
    rw [hrefs]
    rcases hcase j m hm with ⟨rfl, rfl⟩ | ⟨rfl, rfl⟩ | ⟨hji, _, hm⟩
    · rw [hone]
      refine ⟨by show nn.links + 1 = _; omega, by omega, fun hk => ?_⟩
      have hk : nn.kind = 2 := hk
      omega
    · have : one j ino = 0 := by unfold one; rw [if_neg hne]
      rw [this]; exact h.links j nd hd hj
    · have : one j ino = 0 := by unfold one; rw [if_neg (fun e => hji e.symm)]
      rw [this]; exact h.links j m hm hj
  · rintro k ⟨m, hm, hk⟩
    have hkd : A.isDir k := by
      rcases hcase k m hm with ⟨rfl, rfl⟩ | ⟨rfl, rfl⟩ | ⟨_, _, hm⟩
      · have hk : nn.kind = 2 := hk
        omega
      · exact ⟨nd, hd, hk⟩
      · exact ⟨m, hm, hk⟩
    rw [deep_same h hupO 12 k hkd]; exact h.deep k hkd
  · have := hsum (fun _ => 1)
    rw [sumF_len, sumF_len] at this
    rw [hu.1, h.ui]; omega
  · have := hsum (fun n => n.data.size)
    rw [hu.2.1, h.ub]; unfold AT.bytes; simp only at this; omega
  · rw [hu.1, hu.2.2.1]; exact h.uq
  · rw [hu.2.1, hu.2.2.2.1]; exact h.bq
  · rw [hu.2.2.2.2]; have := hb.last; omega
  · intro j m hm
    rcases hcase j m hm with ⟨_, rfl⟩ | ⟨rfl, rfl⟩ | ⟨_, _, hm⟩
    · show nn.links + 1 ≤ _; omega
    · have := hb.links _ nd hd; simp only; omega
    · have := hb.links j m hm; omega
  · intro j m hm
    rcases hcase j m hm with ⟨_, rfl⟩ | ⟨rfl, rfl⟩ | ⟨_, _, hm⟩
    · have := hb.ents _ nn hnn; simp only; omega
    · have := hb.ents _ nd hd
      simp only
      rw [enc_up_new nd.ents name _ hfn']; simp; omega
    · have := hb.ents j m hm; omega
theorem hardF_ok {N : Nat} (h : Inv A) (hb : Bd N A) (hN : N < 4611686018427387904) (cwd src to : ByteArray) : OpOk (N + 1) A (A.hardF cwd src to) := by
  unfold AT.hardF
  simp only
  split
  · exact OpOk.self h (hb.mono (by omega)) _
  split
  · exact OpOk.self h (hb.mono (by omega)) _
  split
  · exact OpOk.self h (hb.mono (by omega)) _
  split
  · exact OpOk.self h (hb.mono (by omega)) _
  split
  · exact OpOk.self h (hb.mono (by omega)) _
  obtain ⟨a, b, c, d, e⟩ := linkR_ok h hb hN (A.both cwd src to).2.2.dir (A.both cwd src to).2.2.name (A.both cwd src to).2.1.ino
  exact ⟨a, b, c, d, e⟩
/-! ### Move -/
/-- so many steps up, a directory is reached for the first time -/
def Below (A : AT) (ino : Int) : Nat → Int → Prop
  | 0, k => k = ino
  | r + 1, k => k ≠ ino ∧ k ≠ 1 ∧ Below A ino r (A.upOf k)
theorem no_loop (h : Inv A) {k : Int} (hk : A.isDir k) (h1 : k ≠ 1) : A.upOf k ≠ k := by
  intro e
  obtain ⟨d, hd⟩ := h.deep k hk
  have : ∀ f, A.deep f k = none := by
    intro f
    induction f with
    | zero => rfl
    | succ f ih => unfold AT.deep; rw [if_neg h1, e, ih]; rfl
  rw [this] at hd; cases hd
theorem within_some (ino : Int) : ∀ {f : Nat} {d x : Int}, A.deep f d = some x → ∃ b, A.within ino f d = some b := by
  intro f
  induction f with
  | zero => intro d x h; cases h
  | succ f ih =>
    intro d x h
    unfold AT.deep at h
    unfold AT.within
    by_cases e : d = ino
    · rw [if_pos e]; exact ⟨_, rfl⟩
    · rw [if_neg e]
      by_cases e1 : d = 1
      · rw [if_pos e1]; exact ⟨_, rfl⟩
      · rw [if_neg e1] at h ⊢
        cases hd : A.deep f (A.upOf d) with
        | none => rw [hd] at h; cases h
        | some y => exact ih hd
theorem apart_some (h : Inv A) (ino : Int) : ∀ {f : Nat} {d x : Int}, A.isDir d → A.deep f d = some x → ∃ b, A.apart ino f d = some b := by
  intro f
  induction f with
  | zero => intro d x _ h; cases h
  | succ f ih =>
    intro d x hdir hd
    unfold AT.deep at hd
    unfold AT.apart
    by_cases e1 : d = 1
    · rw [if_pos e1]; exact ⟨_, rfl⟩
    · rw [if_neg e1] at hd ⊢
      by_cases e : d = ino
      · rw [if_pos e]; exact ⟨_, rfl⟩
      · rw [if_neg e]
        have hu := h.isDir_up hdir
        obtain ⟨n, hn, _⟩ := hdir
        have hup : A.upOf d = n.up := by unfold AT.upOf; rw [hn]; rfl
        rw [hup] at hd hu
        rw [hn]
        cases hd2 : A.deep f n.up with
        | none => rw [hd2] at hd; cases hd
        | some y => exact ih hu hd2
theorem apart_not (h : Inv A) {ino : Int} (hi : ino ≠ 1) : ∀ {f : Nat} {d : Int}, A.isDir d → A.apart ino f d = some true → ∀ r, ¬ Below A ino r d := by
  intro f
  induction f with
  | zero => intro d _ h; cases h
  | succ f ih =>
    intro d hdir hd r hr
    unfold AT.apart at hd
    by_cases e1 : d = 1
    · cases r with
      | zero => have hr : d = ino := hr; exact hi (by omega)
      | succ r => exact hr.2.1 e1
    · rw [if_neg e1] at hd
      by_cases e : d = ino
      · rw [if_pos e] at hd; cases hd
      · rw [if_neg e] at hd
        cases r with
        | zero => exact e hr
        | succ r =>
          have hu := h.isDir_up hdir
          obtain ⟨n, hn, _⟩ := hdir
          have hup : A.upOf d = n.up := by unfold AT.upOf; rw [hn]; rfl
          rw [hn] at hd
          have hd : A.apart ino f n.up = some true := hd
          rw [hup] at hu
          have := hr.2.2
          rw [hup] at this
          exact ih hu hd r this
theorem below_top (h : Inv A) {ino : Int} : ∀ {r : Nat} {k : Int}, A.isDir k → Below A ino (r + 1) k → ∃ c, A.isDir c ∧ c ≠ 1 ∧ c ≠ ino ∧ A.upOf c = ino ∧ Below A c r k := by
  intro r
  induction r with
  | zero => intro k hk hb; obtain ⟨h1, h2, h3⟩ := hb; exact ⟨k, hk, h2, h1, h3, rfl⟩
  | succ r ih =>
    intro k hk hb
    obtain ⟨h1, h2, h3⟩ := hb
    obtain ⟨c, c1, c2, c3, c4, c5⟩ := ih (h.isDir_up hk) h3
    refine ⟨c, c1, c2, c3, c4, ?_, h2, c5⟩
    intro e; subst e
    exact h3.1 c4
theorem names_of {d : Int} {s : ByteArray} {j : Int} (hf : A.find d s = some j) : s ∈ A.names d := by
  unfold AT.find at hf
  unfold AT.names
  cases hn : A.get d with
  | none => rw [hn] at hf; cases hf
  | some n =>
    rw [hn] at hf
    have hf : lk s n.ents = some j := hf
    have hm : s ∈ keysL n.ents := by
      apply Classical.byContradiction
      intro hc
      rw [lk_none_iff.2 hc] at hf; cases hf
    simp only [sortN, List.mem_map]
    refine ⟨s.data.toList, (sortB_perm _).mem_iff.2 (List.mem_map.2 ⟨s, hm, rfl⟩), ?_⟩
    cases s with | mk d => cases d; rfl
theorem fold_mx (f : ByteArray → Int) : ∀ (l : List ByteArray) (n : Int), n ≤ l.foldl (fun n s => let x := f s; if x > n then x else n) n ∧ ∀ s ∈ l, f s ≤ l.foldl (fun n s => let x := f s; if x > n then x else n) n := by
  intro l
  induction l with
  | nil => intro n; exact ⟨Int.le_refl _, by simp⟩
  | cons y r ih =>
    intro n
    simp only [List.foldl_cons]
    obtain ⟨h1, h2⟩ := ih (if f y > n then f y else n)
    have hg : n ≤ (if f y > n then f y else n) ∧ f y ≤ (if f y > n then f y else n) := by split <;> omega
    simp only at h1 h2 ⊢
    refine ⟨by omega, fun x hx => ?_⟩
    rcases List.mem_cons.1 hx with e | e
    · subst e; omega
    · exact h2 x e
theorem levels_below (h : Inv A) : ∀ (r : Nat) (f : Nat) (ino k : Int), A.isDir k → A.isDir ino → Below A ino r k → r + 1 ≤ f → (r : Int) + 1 ≤ A.levels f ino := by
  intro r
  induction r with
  | zero =>
    intro f ino k _ hi _ hf
    obtain ⟨f, rfl⟩ : ∃ g, f = g + 1 := ⟨f - 1, by omega⟩
    unfold AT.levels
    have hk : A.kind ino = 2 := dir_kind hi
    rw [if_neg (by omega)]
    have := (fold_mx (fun s => A.levels f ((A.find ino s).getD 0)) (A.names ino) 0).1
    simp only at this ⊢; omega
  | succ r ih =>
    intro f ino k hk hi hb hf
    obtain ⟨f, rfl⟩ : ∃ g, f = g + 1 := ⟨f - 1, by omega⟩
    obtain ⟨c, c1, c2, c3, c4, c5⟩ := below_top h hk hb
    obtain ⟨s, hs⟩ := h.named c1 c2
    rw [c4] at hs
    unfold AT.levels
    have hk2 : A.kind ino = 2 := dir_kind hi
    rw [if_neg (by omega)]
    have h1 := (fold_mx (fun s => A.levels f ((A.find ino s).getD 0)) (A.names ino) 0).2 s (names_of hs)
    have h2 := ih f c k hk c1 c5 (by omega)
    simp only [hs, Option.getD_some] at h1 ⊢; omega
theorem named_once (h : Inv A) {i k : Int} {n m : AN} {s s' : ByteArray} (hn : A.get i = some n) (hm : A.get k = some m) (hk2 : m.kind = 2) (hk1 : k ≠ 1) (h1 : lk s n.ents = some k) (h2 : lk s' n.ents = some k) : s = s' := by
  apply Classical.byContradiction
  intro hne
  have hr := (h.links k m hm hk1).2.2 hk2
  have a := sumF_two (f := one k) (h.enod i n hn) h1 h2 hne
  have b := sumF_ge (f := cntE k) (show lk i A.nodes = some n from hn)
  have e : one k k = 1 := by unfold one; simp
  rw [e] at a
  unfold AT.refs at hr
  have : sumF (one k) n.ents ≤ sumF (cntE k) A.nodes := b
  omega
structure Moved (A : AT) (src : Int) (name : ByteArray) (to : Int) (as_ : ByteArray) (ino : Int) (nn ns nt' : AN) (M : AT) : Prop where
  get : ∀ j, M.get j = if j = ino then some (if nn.kind == 2 then { nn with up := to } else nn) else if j = to then some { nt' with ents := up as_ ino nt'.ents } else if j = src then some { ns with ents := rm name ns.ents } else A.get j
  ui : M.ui = A.ui
  ub : M.ub = A.ub
  qi : M.qi = A.qi
  qb : M.qb = A.qb
  last : M.last = A.last
theorem moved_ok {N : Nat} (h : Inv A) (hb : Bd N A) {src to ino : Int} {name as_ : ByteArray} {nn : AN} (hs : A.isDir src) (ht : A.isDir to) (hnm : namedE as_ = 0) (hf : A.find src name = some ino) (hfr : A.find to as_ = none) (hn : A.get ino = some nn)
    (hnb : nn.kind = 2 → ∀ r, ¬ Below A ino r to) (hdp : nn.kind = 2 → ∀ dt r k, A.deep 12 to = some dt → A.isDir k → Below A ino r k → dt + 1 + (r : Int) ≤ 12) :
    Inv (A.moved src name to as_) ∧ Bd (N + 1) (A.moved src name to as_) ∧ ∃ ns nt' : AN, A.get src = some ns ∧ lk as_ nt'.ents = none ∧ (nt' = if to = src then { ns with ents := rm name ns.ents } else (A.get to).getD nt') ∧ Moved A src name to as_ ino nn ns nt' (A.moved src name to as_) := by
  obtain ⟨ns, hns, hns2⟩ := hs
  obtain ⟨nt, hnt, hnt2⟩ := ht
  have hlk : lk name ns.ents = some ino := by unfold AT.find at hf; rw [hns] at hf; exact hf
  have hlt : lk as_ nt.ents = none := by unfold AT.find at hfr; rw [hnt] at hfr; exact hfr
  obtain ⟨_, hi1, nn', hnn', hup⟩ := h.ent src ns name ino hns hlk
  rw [hn] at hnn'; cases hnn'
  have hit : ino ≠ to := by
    intro e; subst e
    rw [hn] at hnt; cases hnt
    exact hnb hnt2 0 rfl
  have his : ino ≠ src := by
    intro e; subst e
    rw [hn] at hns; cases hns
    have := no_loop h ⟨nn, hn, hns2⟩ hi1
    unfold AT.upOf at this; rw [hn] at this
    exact this (hup hns2)
  -- the three changes
  have e1 : A.ent src (rm name) = A.set src { ns with ents := rm name ns.ents } := by unfold AT.ent; rw [hns]
  have hnd := h.enod src ns hns
  obtain ⟨nt', g1, t1, t2, t3, t4, t5, t6, t7, t8, t9, t10⟩ : ∃ nt', (A.set src { ns with ents := rm name ns.ents }).get to = some nt' ∧ nt'.kind = nt.kind ∧ nt'.up = nt.up ∧ nt'.mode = nt.mode ∧ nt'.data = nt.data ∧ nt'.links = nt.links ∧ (keysL nt'.ents).Nodup ∧ lk as_ nt'.ents = none ∧ (∀ s j, lk s nt'.ents = some j → lk s nt.ents = some j ∧ (to = src → s ≠ name)) ∧ nt'.ents.length ≤ nt.ents.length ∧ (nt' = if to = src then { ns with ents := rm name ns.ents } else (A.get to).getD nt') := by
    by_cases e : to = src
    · subst e
      rw [hns] at hnt; cases hnt
      refine ⟨{ ns with ents := rm name ns.ents }, AT.get_set_self _ _ _, rfl, rfl, rfl, rfl, rfl, nodup_rm hnd, ?_, ?_, rm_sub.length_le, by rw [if_pos rfl]⟩
      · simp only [lk_rm hnd]; split
        · rfl
        · exact hlt
      · intro s j hs
        simp only [lk_rm hnd] at hs
        by_cases e : (s == name) = true
        · rw [if_pos e] at hs; cases hs
        · rw [if_neg e] at hs; exact ⟨hs, fun _ he => e (by simpa using he)⟩
    · refine ⟨nt, by rw [AT.get_set_ne _ _ e]; exact hnt, rfl, rfl, rfl, rfl, rfl, h.enod to nt hnt, hlt, fun s j hs => ⟨hs, fun he => absurd he e⟩, Nat.le_refl _, by rw [if_neg e, hnt]; rfl⟩
  have g2 : ((A.set src { ns with ents := rm name ns.ents }).set to { nt' with ents := up as_ ino nt'.ents }).get ino = some nn := by
    rw [AT.get_set_ne _ _ hit, AT.get_set_ne _ _ his]; exact hn
  have e2 : A.moved src name to as_ = ((A.set src { ns with ents := rm name ns.ents }).set to { nt' with ents := up as_ ino nt'.ents }).set ino (if nn.kind == 2 then { nn with up := to } else nn) := by
    unfold AT.moved
    rw [hf]
    simp only [Option.getD_some]
    rw [e1]
    have : (A.set src { ns with ents := rm name ns.ents }).ent to (up as_ ino) = (A.set src { ns with ents := rm name ns.ents }).set to { nt' with ents := up as_ ino nt'.ents } := by unfold AT.ent; rw [g1]
    rw [this]
    unfold AT.mod; rw [g2]
  generalize hM : A.moved src name to as_ = M at *
  have hG : ∀ j, M.get j = if j = ino then some (if nn.kind == 2 then { nn with up := to } else nn) else if j = to then some { nt' with ents := up as_ ino nt'.ents } else if j = src then some { ns with ents := rm name ns.ents } else A.get j := by
    intro j; rw [e2, AT.get_set, AT.get_set, AT.get_set]
  have hnk : ∀ (P : AN → Prop), P nn → P { nn with up := to } → P (if nn.kind == 2 then { nn with up := to } else nn) := by
    intro P h1 h2; split
    · exact h2
    · exact h1
  have hsum : ∀ f : AN → Nat, sumF f M.nodes + f nn + f nt' + f ns = sumF f A.nodes + f { ns with ents := rm name ns.ents } + f { nt' with ents := up as_ ino nt'.ents } + f (if nn.kind == 2 then { nn with up := to } else nn) := by
    intro f
    have q1 := AT.sum_set A f src { ns with ents := rm name ns.ents }
    have q2 := AT.sum_set (A.set src { ns with ents := rm name ns.ents }) f to { nt' with ents := up as_ ino nt'.ents }
    have q3 := AT.sum_set ((A.set src { ns with ents := rm name ns.ents }).set to { nt' with ents := up as_ ino nt'.ents }) f ino (if nn.kind == 2 then { nn with up := to } else nn)
    rw [hns] at q1; rw [g1] at q2; rw [g2] at q3
    simp only [Option.map_some, Option.getD_some] at q1 q2 q3
    rw [e2]; omega
  have hc1 : ∀ j, cntE j { ns with ents := rm name ns.ents } + one j ino = cntE j ns := by
    intro j
    have := sumF_rm (one j) name ns.ents
    rw [hlk] at this
    simpa [cntE] using this
  have hc2 : ∀ j, cntE j { nt' with ents := up as_ ino nt'.ents } = cntE j nt' + one j ino := by
    intro j
    have := sumF_up (one j) as_ ino nt'.ents
    rw [t7] at this
    simpa [cntE] using this
  have hrefs : ∀ j, M.refs j = A.refs j := by
    intro j
    have q := hsum (cntE j)
    have e : cntE j (if nn.kind == 2 then { nn with up := to } else nn) = cntE j nn := hnk (fun m => cntE j m = cntE j nn) rfl rfl
    have := hc1 j
    have := hc2 j
    unfold AT.refs; omega
  have hx : ∀ j m, A.get j = some m → ∃ m', M.get j = some m' ∧ m'.kind = m.kind ∧ (j ≠ ino → m'.up = m.up) ∧ m'.mode = m.mode ∧ m'.data = m.data ∧ m'.links = m.links := by
    intro j m hm
    rw [hG]
    by_cases a : j = ino
    · subst a; rw [if_pos rfl]; rw [hn] at hm; cases hm
      exact ⟨_, rfl, hnk (fun m => m.kind = nn.kind) rfl rfl, fun h => absurd rfl h, hnk (fun m => m.mode = nn.mode) rfl rfl, hnk (fun m => m.data = nn.data) rfl rfl, hnk (fun m => m.links = nn.links) rfl rfl⟩
    · rw [if_neg a]
      by_cases b : j = to
      · subst b; rw [if_pos rfl]; rw [hnt] at hm; cases hm
        exact ⟨_, rfl, t1, fun _ => t2, t3, t4, t5⟩
      · rw [if_neg b]
        by_cases c : j = src
        · subst c; rw [if_pos rfl]; rw [hns] at hm; cases hm
          exact ⟨_, rfl, rfl, fun _ => rfl, rfl, rfl, rfl⟩
        · rw [if_neg c]; exact ⟨m, hm, rfl, fun _ => rfl, rfl, rfl, rfl⟩
  have hcase : ∀ j m, M.get j = some m → (j = ino ∧ m = (if nn.kind == 2 then { nn with up := to } else nn)) ∨ (j = to ∧ m = { nt' with ents := up as_ ino nt'.ents }) ∨ (j = src ∧ j ≠ to ∧ m = { ns with ents := rm name ns.ents }) ∨ (j ≠ ino ∧ j ≠ to ∧ j ≠ src ∧ A.get j = some m) := by
    intro j m hm
    rw [hG] at hm
    by_cases a : j = ino
    · rw [if_pos a] at hm; cases hm; exact .inl ⟨a, rfl⟩
    · rw [if_neg a] at hm
      by_cases b : j = to
      · rw [if_pos b] at hm; cases hm; exact .inr (.inl ⟨b, rfl⟩)
      · rw [if_neg b] at hm
        by_cases c : j = src
        · rw [if_pos c] at hm; cases hm; exact .inr (.inr (.inl ⟨c, b, rfl⟩))
        · rw [if_neg c] at hm; exact .inr (.inr (.inr ⟨a, b, c, hm⟩))
  have hback : ∀ j m, M.get j = some m → ∃ m0, A.get j = some m0 ∧ m.kind = m0.kind ∧ m.mode = m0.mode ∧ m.data = m0.data ∧ m.links = m0.links := by
    intro j m hm
    have : ∃ m0, A.get j = some m0 := by
      rcases hcase j m hm with ⟨rfl, _⟩ | ⟨rfl, _⟩ | ⟨rfl, _, _⟩ | ⟨_, _, _, hm⟩
      · exact ⟨_, hn⟩
      · exact ⟨_, hnt⟩
      · exact ⟨_, hns⟩
      · exact ⟨_, hm⟩
    obtain ⟨m0, hm0⟩ := this
    obtain ⟨m', q1, q2, _, q4, q5, q6⟩ := hx j m0 hm0
    rw [hm] at q1; cases q1
    exact ⟨m0, hm0, q2, q4, q5, q6⟩
  have hupO : ∀ k, k ≠ ino → A.isDir k → M.upOf k = A.upOf k := by
    rintro k hki ⟨m, hm, _⟩
    obtain ⟨m', q1, _, q3, _⟩ := hx k m hm
    unfold AT.upOf; rw [hm, q1]; simp [q3 hki]
  have hu : M.ui = A.ui ∧ M.ub = A.ub ∧ M.qi = A.qi ∧ M.qb = A.qb ∧ M.last = A.last := by rw [e2]; exact ⟨rfl, rfl, rfl, rfl, rfl⟩
  refine ⟨⟨?_, ?_, ?_, ?_, ?_, ?_, ?_, ?_, ?_, ?_, ?_, ?_, ?_⟩, ⟨?_, ?_, ?_⟩, ns, nt', hns, t7, t10, ⟨hG, hu.1, hu.2.1, hu.2.2.1, hu.2.2.2.1, hu.2.2.2.2⟩⟩
  · rw [e2]; exact nodup_up (nodup_up (nodup_up h.nodup))
  · intro j m hm
    rcases hcase j m hm with ⟨_, rfl⟩ | ⟨_, rfl⟩ | ⟨_, _, rfl⟩ | ⟨_, _, _, hm⟩
    · exact hnk (fun m => (keysL m.ents).Nodup) (h.enod ino nn hn) (h.enod ino nn hn)
    · exact nodup_up t6
    · exact nodup_rm hnd
    · exact h.enod j m hm
  · obtain ⟨r, r1, r2, r3⟩ := h.root
    obtain ⟨m', q1, q2, q3, _⟩ := hx 1 r r1
    exact ⟨m', q1, by rw [q2, r2], by rw [q3 (fun e => hi1 e.symm), r3]⟩
  · intro j m hm
    rw [hu.2.2.2.2]
    obtain ⟨m0, q, _⟩ := hback j m hm
    exact h.low j m0 q
  · intro j m hm
    obtain ⟨m0, q, q2, q3, q4, _⟩ := hback j m hm
    rw [q2, q3, q4]; exact h.like j m0 q
  · intro j m hm hk
    rcases hcase j m hm with ⟨_, rfl⟩ | ⟨_, rfl⟩ | ⟨_, _, rfl⟩ | ⟨_, _, _, hm⟩
    · have e : (if nn.kind == 2 then { nn with up := to } else nn).kind = nn.kind := hnk (fun m => m.kind = nn.kind) rfl rfl
      have e' : (if nn.kind == 2 then { nn with up := to } else nn).ents = nn.ents := hnk (fun m => m.ents = nn.ents) rfl rfl
      rw [e'] ; rw [e] at hk; exact h.file ino nn hn hk
    · exact absurd (by show nt'.kind = 2; rw [t1]; exact hnt2) hk
    · exact absurd hns2 hk
    · exact h.file j m hm hk
  · intro j m s t hm hs
    -- an entry of old
    have old : ∀ m1, A.get t = some m1 → (m1.kind = 2 → m1.up = j) → (t = ino → nn.kind = 2 → False) → ∃ m', M.get t = some m' ∧ (m'.kind = 2 → m'.up = j) := by
      intro m1 a3 a4 a5
      obtain ⟨m', b1, b2, b3, _⟩ := hx t m1 a3
      refine ⟨m', b1, fun hk => ?_⟩
      have hti : t ≠ ino := by
        intro e; subst e
        rw [hn] at a3; cases a3
        exact a5 rfl (by rw [← b2]; exact hk)
      rw [b3 hti]; exact a4 (by rw [← b2]; exact hk)
    rcases hcase j m hm with ⟨rfl, rfl⟩ | ⟨rfl, rfl⟩ | ⟨rfl, hjt, rfl⟩ | ⟨hji, hjt, hjs, hm⟩
    · have e' : (if nn.kind == 2 then { nn with up := to } else nn).ents = nn.ents := hnk (fun m => m.ents = nn.ents) rfl rfl
      rw [e'] at hs
      obtain ⟨a1, a2, m1, a3, a4⟩ := h.ent j nn s t hn hs
      refine ⟨a1, a2, old m1 a3 a4 fun e hk => ?_⟩
      subst e
      rw [hn] at a3; cases a3
      have := no_loop h ⟨nn, hn, hk⟩ a2
      unfold AT.upOf at this; rw [hn] at this
      exact this (a4 hk)
    · simp only [lk_up] at hs
      by_cases e : s = as_
      · subst e
        simp at hs; subst hs
        refine ⟨hnm, hi1, _, by rw [hG, if_pos rfl], fun hk => ?_⟩
        have e : (if nn.kind == 2 then { nn with up := j } else nn).kind = nn.kind := hnk (fun m => m.kind = nn.kind) rfl rfl
        rw [e] at hk
        have : (nn.kind == 2) = true := by simpa using hk
        rw [this]; rfl
      · have e' : (s == as_) = false := by simpa using e
        rw [e'] at hs
        obtain ⟨hs', hne⟩ := t8 s t hs
        obtain ⟨a1, a2, m1, a3, a4⟩ := h.ent j nt s t hnt hs'
        refine ⟨a1, a2, old m1 a3 a4 fun e hk => ?_⟩
        subst e
        rw [hn] at a3; cases a3
        have hjs : j = src := by rw [← a4 hk, hup hk]
        have hntns : nt = ns := by subst hjs; rw [hns] at hnt; cases hnt; rfl
        subst hntns
        exact hne hjs (named_once h hns hn hk hi1 hs' hlk)
    · simp only [lk_rm hnd] at hs
      by_cases e : (s == name) = true
      · rw [if_pos e] at hs; cases hs
      · rw [if_neg e] at hs
        obtain ⟨a1, a2, m1, a3, a4⟩ := h.ent j ns s t hns hs
        refine ⟨a1, a2, old m1 a3 a4 fun e' hk => ?_⟩
        subst e'
        exact e (by simpa using named_once h hns hn hk hi1 hs hlk)
    · obtain ⟨a1, a2, m1, a3, a4⟩ := h.ent j m s t hm hs
      refine ⟨a1, a2, old m1 a3 a4 fun e hk => ?_⟩
      subst e
      rw [hn] at a3; cases a3
      exact hjs (by rw [← a4 hk, hup hk])
  · intro j m hm hj
    rw [hrefs]
    obtain ⟨m0, q, q2, _, _, q5⟩ := hback j m hm
    rw [q2, q5]; exact h.links j m0 q hj
  · rintro k ⟨m, hm, hk⟩
    obtain ⟨m0, q, q2, _⟩ := hback k m hm
    have hkd : A.isDir k := ⟨m0, q, by rw [← q2]; exact hk⟩
    by_cases hnk2 : nn.kind = 2
    case neg =>
      have hne : ∀ k, A.isDir k → k ≠ ino := by
        rintro k ⟨m, hm, hk⟩ e; subst e; rw [hn] at hm; cases hm; exact hnk2 hk
      rw [deep_same h (fun k hk => hupO k (hne k hk) hk) 12 k hkd]; exact h.deep k hkd
    have hS : ∀ (f : Nat) (k : Int), (A.isDir k ∧ ∀ r, ¬ Below A ino r k) → M.deep f k = A.deep f k :=
      deep_on (S := fun k => A.isDir k ∧ ∀ r, ¬ Below A ino r k) (fun k hk h1 => ⟨h.isDir_up hk.1, fun r hr => hk.2 (r + 1) ⟨fun e => hk.2 0 e, h1, hr⟩⟩) (fun k hk _ => hupO k (fun e => hk.2 0 e) hk.1)
    by_cases hbl : ∃ r, Below A ino r k
    case neg =>
      rw [hS 12 k ⟨hkd, fun r hr => hbl ⟨r, hr⟩⟩]; exact h.deep k hkd
    obtain ⟨r, hr⟩ := hbl
    obtain ⟨dt, hdt⟩ := h.deep to ⟨nt, hnt, hnt2⟩
    have hle := hdp hnk2 dt r k hdt hkd hr
    have hdb := deep_bound hdt
    have hD : A.deep dt.toNat to = some dt := deep_low hdt _ (by omega)
    have key : ∀ (r : Nat) (k : Int), A.isDir k → Below A ino r k → M.deep (dt.toNat + 1 + r) k = some (dt + 1 + r) := by
      intro r
      induction r with
      | zero =>
        intro k hkd hb
        have hb : k = ino := hb
        subst hb
        have hu' : M.upOf k = to := by
          unfold AT.upOf; rw [hG, if_pos rfl]
          have : (nn.kind == 2) = true := by simpa using hnk2
          rw [this]; rfl
        rw [Nat.add_zero, AT.deep, if_neg hi1, hu', hS _ to ⟨⟨nt, hnt, hnt2⟩, hnb hnk2⟩, hD]
        simp
      | succ r ih =>
        intro k hkd hb
        obtain ⟨b1, b2, b3⟩ := hb
        rw [show dt.toNat + 1 + (r + 1) = (dt.toNat + 1 + r) + 1 by omega, AT.deep, if_neg b2, hupO k b1 hkd, ih _ (h.isDir_up hkd) b3]
        simp; omega
    have := key r k hkd hr
    exact ⟨_, deep_low this 12 (by omega)⟩
  · have q := hsum (fun _ => 1)
    rw [sumF_len, sumF_len] at q
    rw [hu.1, h.ui]; omega
  · have q := hsum (fun n => n.data.size)
    have e : (if nn.kind == 2 then { nn with up := to } else nn).data = nn.data := hnk (fun m => m.data = nn.data) rfl rfl
    rw [hu.2.1, h.ub]; unfold AT.bytes; simp only [e] at q; omega
  · rw [hu.1, hu.2.2.1]; exact h.uq
  · rw [hu.2.1, hu.2.2.2.1]; exact h.bq
  · rw [hu.2.2.2.2]; have := hb.last; omega
  · intro j m hm
    obtain ⟨m0, q, _, _, _, q5⟩ := hback j m hm
    have := hb.links j m0 q
    omega
  · intro j m hm
    rcases hcase j m hm with ⟨_, rfl⟩ | ⟨_, rfl⟩ | ⟨_, _, rfl⟩ | ⟨_, _, _, hm⟩
    · have e' : (if nn.kind == 2 then { nn with up := to } else nn).ents = nn.ents := hnk (fun m => m.ents = nn.ents) rfl rfl
      rw [e']; have := hb.ents _ nn hn; omega
    · have := hb.ents _ nt hnt
      simp only
      rw [enc_up_new nt'.ents as_ _ t7]; simp; omega
    · have := hb.ents _ ns hns
      have := (rm_sub (k := name) (l := ns.ents)).length_le
      simp only; omega
    · have := hb.ents j m hm; omega
end Go.Wk

/- A TREE that is laid in the root, and taken again. -/
namespace Go.Wk
open Go Go.HL
end Go.Wk
namespace Go.Wk
open Go Go.HL
end Go.Wk

/- RENAMING keeps what always holds; what is renamed, and renamed back. -/
namespace Go.Wk
open Go Go.HL
variable {A : AT}
theorem below_deep {ino : Int} : ∀ {r f : Nat} {k d : Int}, Below A ino r k → A.deep f k = some d → (r : Int) < d := by
  intro r
  induction r with
  | zero => intro f k d _ hd; have := deep_bound hd; omega
  | succ r ih =>
    intro f k d hb hd
    obtain ⟨h1, h2, h3⟩ := hb
    cases f with
    | zero => cases hd
    | succ f =>
      unfold AT.deep at hd
      rw [if_neg h2] at hd
      cases he : A.deep f (A.upOf k) with
      | none => rw [he] at hd; cases hd
      | some x =>
        rw [he] at hd
        simp only [Option.map_some, Option.some.injEq] at hd
        have := ih h3 he
        omega
theorem moveE1_z {src to : Int} {name as_ : ByteArray} (he : A.moveE1 src name to as_ = 0) : A.isDir src ∧ A.isDir to ∧ namedE as_ = 0 ∧ ∃ j, A.find src name = some j := by
  unfold AT.moveE1 at he
  obtain ⟨_, he⟩ := AT.firstE_z he
  obtain ⟨h1, he⟩ := AT.firstE_z he
  obtain ⟨h2, he⟩ := AT.firstE_z he
  obtain ⟨h3, he⟩ := AT.firstE_z he
  obtain ⟨h4, _⟩ := AT.firstE_z he
  refine ⟨AT.dirE_z h1, AT.dirE_z h2, h3, ?_⟩
  cases hf : A.find src name with
  | none => rw [hf] at h4; simp at h4
  | some j => exact ⟨j, rfl⟩
/-- Move: either nothing, or the entry moved -/
theorem moveR_cases (h : Inv A) {src to : Int} {name as_ : ByteArray} {f : Nat} : (A.moveR src name to as_ f).2 = A ∨ ((A.moveR src name to as_ f) = (0, A.moved src name to as_) ∧ A.isDir src ∧ A.isDir to ∧ namedE as_ = 0 ∧ A.find to as_ = none ∧ ∃ ino, A.find src name = some ino ∧ ∀ r, ¬ Below A ino r to) := by
  unfold AT.moveR
  by_cases c1 : A.moveE1 src name to as_ ≠ 0 ∨ (src = to ∧ name = as_)
  · rw [if_pos c1]; exact .inl rfl
  rw [if_neg c1]
  simp only
  by_cases c2 : firstE [if (A.find to as_).isSome then 6 else 0, if (A.apart ((A.find src name).getD 0) f to).getD false then 0 else 2] ≠ 0
  · rw [if_pos c2]; exact .inl rfl
  rw [if_neg c2]
  refine .inr ⟨rfl, ?_⟩
  obtain ⟨h1, h2, h3, ino, h4⟩ := moveE1_z (A := A) (src := src) (to := to) (name := name) (as_ := as_) (by
    apply Classical.byContradiction
    intro hc; exact c1 (.inl hc))
  obtain ⟨q1, q2⟩ := AT.firstE_z (show firstE _ = 0 by simpa using c2)
  obtain ⟨q2, _⟩ := AT.firstE_z q2
  obtain ⟨_, _, _, _, hi1, _⟩ := h.find h4
  refine ⟨h1, h2, h3, ?_, ino, h4, ?_⟩
  · cases hf : A.find to as_ with
    | none => rfl
    | some j => rw [hf] at q1; simp at q1
  · have hino : (A.find src name).getD 0 = ino := by rw [h4]; rfl
    simp only [hino] at q2
    by_cases hb : (A.apart ino f to).getD false = true
    · cases ha : A.apart ino f to with
      | none => rw [ha] at hb; cases hb
      | some b =>
        rw [ha] at hb
        have hb : b = true := hb
        subst hb
        exact apart_not h hi1 h2 ha
    · rw [if_neg hb] at q2; cases q2
theorem moveR_inv {N : Nat} (h : Inv A) (hb : Bd N A) {src to : Int} {name as_ : ByteArray} {f : Nat} (hdp : ∀ ino nn, A.find src name = some ino → A.get ino = some nn → nn.kind = 2 → ∀ dt r k, A.deep 12 to = some dt → A.isDir k → Below A ino r k → dt + 1 + (r : Int) ≤ 12) :
    Inv (A.moveR src name to as_ f).2 ∧ Bd (N + 1) (A.moveR src name to as_ f).2 ∧ (A.moveR src name to as_ f).2.qi = A.qi ∧ (A.moveR src name to as_ f).2.qb = A.qb := by
  rcases moveR_cases h (src := src) (to := to) (name := name) (as_ := as_) (f := f) with e | ⟨e, h1, h2, h3, h4, ino, h5, h6⟩
  · rw [e]; exact ⟨h, hb.mono (by omega), rfl, rfl⟩
  · rw [e]
    obtain ⟨_, _, _, _, _, nn, hnn, _⟩ := h.find h5
    obtain ⟨a, b, _, _, _, _, _, c⟩ := moved_ok h hb h1 h2 h3 h5 h4 hnn (fun _ => h6) (fun hk => hdp ino nn h5 hnn hk)
    exact ⟨a, b, c.qi, c.qb⟩
theorem unlinkR_back (h : Inv A) {dir : Int} {name : ByteArray} : ∀ j m, (A.unlinkR dir name).2.get j = some m → ∃ m0, A.get j = some m0 ∧ m.kind = m0.kind ∧ m.up = m0.up ∧ ∀ s t, lk s m.ents = some t → lk s m0.ents = some t := by
  intro j m hm
  unfold AT.unlinkR at hm
  by_cases he : A.unlinkE dir name = 0
  case neg => rw [if_neg he] at hm; exact ⟨m, hm, rfl, rfl, fun _ _ h => h⟩
  rw [if_pos he] at hm
  have ent_b : ∀ j m, (A.ent dir (rm name)).get j = some m → ∃ m0, A.get j = some m0 ∧ m.kind = m0.kind ∧ m.up = m0.up ∧ ∀ s t, lk s m.ents = some t → lk s m0.ents = some t := by
    intro j m hm
    unfold AT.ent at hm
    cases hd : A.get dir with
    | none => rw [hd] at hm; exact ⟨m, hm, rfl, rfl, fun _ _ h => h⟩
    | some nd =>
      rw [hd] at hm
      simp only at hm
      rw [AT.get_set] at hm
      by_cases e : j = dir
      · rw [if_pos e] at hm; cases hm; subst e
        refine ⟨nd, hd, rfl, rfl, fun s t hs => ?_⟩
        simp only [lk_rm (h.enod j nd hd)] at hs
        by_cases e : (s == name) = true
        · rw [if_pos e] at hs; cases hs
        · rw [if_neg e] at hs; exact hs
      · rw [if_neg e] at hm; exact ⟨m, hm, rfl, rfl, fun _ _ h => h⟩
  have nd1 : (keysL (A.ent dir (rm name)).nodes).Nodup := by
    unfold AT.ent
    cases A.get dir with
    | none => exact h.nodup
    | some nd => exact nodup_up h.nodup
  generalize hX : A.ent dir (rm name) = X at *
  have mod_b : ∀ i j m, (X.mod i fun n => { n with links := wr (n.links - 1) }).get j = some m → ∃ m0, X.get j = some m0 ∧ m.kind = m0.kind ∧ m.up = m0.up ∧ m.ents = m0.ents := by
    intro i j m hm
    unfold AT.mod at hm
    cases hd : X.get i with
    | none => rw [hd] at hm; exact ⟨m, hm, rfl, rfl, rfl⟩
    | some nd =>
      rw [hd] at hm
      simp only at hm
      rw [AT.get_set] at hm
      by_cases e : j = i
      · rw [if_pos e] at hm; cases hm; subst e; exact ⟨nd, hd, rfl, rfl, rfl⟩
      · rw [if_neg e] at hm; exact ⟨m, hm, rfl, rfl, rfl⟩
  have nd2 : ∀ i, (keysL (X.mod i fun n => { n with links := wr (n.links - 1) }).nodes).Nodup := by
    intro i
    unfold AT.mod
    cases X.get i with
    | none => exact nd1
    | some nd => exact nodup_up nd1
  have fin : ∀ i, (X.mod i fun n => { n with links := wr (n.links - 1) }).get j = some m → ∃ m0, A.get j = some m0 ∧ m.kind = m0.kind ∧ m.up = m0.up ∧ ∀ s t, lk s m.ents = some t → lk s m0.ents = some t := by
    intro i hm
    obtain ⟨m1, a1, a2, a3, a4⟩ := mod_b i j m hm
    obtain ⟨m0, b1, b2, b3, b4⟩ := ent_b j m1 a1
    exact ⟨m0, b1, by rw [a2, b2], by rw [a3, b3], fun s t hs => b4 s t (by rw [← a4]; exact hs)⟩
  unfold AT.unlinked at hm
  simp only [hX] at hm
  generalize (A.find dir name).getD 0 = i at hm
  cases hg : (X.mod i fun n => { n with links := wr (n.links - 1) }).get i with
  | none => rw [hg] at hm; exact fin i hm
  | some n =>
    rw [hg] at hm
    simp only at hm
    cases hz : (n.links == 0) with
    | false => rw [hz] at hm; exact fin i hm
    | true =>
      rw [hz] at hm
      have hm : lk j (rm i (X.mod i fun n => { n with links := wr (n.links - 1) }).nodes) = some m := hm
      rw [lk_rm (nd2 i)] at hm
      by_cases e : (j == i) = true
      · rw [if_pos e] at hm; cases hm
      · rw [if_neg e] at hm; exact fin i hm
theorem below_same {A' : AT} (h : Inv A') (hu : ∀ k, A'.isDir k → A.upOf k = A'.upOf k) {ino : Int} : ∀ {r : Nat} {k : Int}, A'.isDir k → Below A' ino r k → Below A ino r k := by
  intro r
  induction r with
  | zero => intro k _ hb; exact hb
  | succ r ih =>
    intro k hk hb
    obtain ⟨h1, h2, h3⟩ := hb
    refine ⟨h1, h2, ?_⟩
    rw [hu k hk]
    exact ih (h.isDir_up hk) h3
/-- what may come there -/
theorem over_room (h : Inv A) {p q : Pl} (hq : A.isDir q.dir) (ho : A.overE p q = 0) : ∀ dt r k, A.deep 12 q.dir = some dt → A.isDir p.ino → A.isDir k → Below A p.ino r k → dt + 1 + (r : Int) ≤ 12 := by
  intro dt r k hdt hp hk hb
  obtain ⟨x, hx13, hx12, _⟩ := h.deep13 hq
  rw [hdt] at hx12; cases hx12
  obtain ⟨d, hd⟩ := h.deep k hk
  have hr := below_deep hb hd
  have hdb := deep_bound hd
  have hl := levels_below h r 14 p.ino k hk hp hb (by omega)
  have key : ∀ (e : Int) (c c' : Prop) [Decidable c] [Decidable c'], (if e ≠ 0 then e else if c then 2 else if c' then 3 else 0) = (0 : Int) → ¬ c' := by
    intro e c c' _ _ h hc
    by_cases he : e ≠ 0
    · rw [if_pos he] at h; exact he h
    · rw [if_neg he] at h
      by_cases h2 : c
      · rw [if_pos h2] at h; cases h
      · rw [if_neg h2, if_pos hc] at h; cases h
  have hn := key _ _ _ ho
  rw [hx13] at hn
  simp only [Option.getD_some] at hn
  omega
structure OpInv (N : Nat) (A : AT) (r : Int × AT) : Prop where
  inv : Inv r.2
  bd : Bd N r.2
  qi : r.2.qi = A.qi
  qb : r.2.qb = A.qb
theorem OpOk.toInv {N : Nat} {r : Int × AT} (h : OpOk N A r) : OpInv N A r := ⟨h.inv, h.bd, h.qi, h.qb⟩
theorem both_z {cwd src to : ByteArray} (h : (A.both cwd src to).1 = 0) : (A.locate cwd src false).1 = 0 ∧ (A.locate cwd to false).1 = 0 ∧ (A.both cwd src to).2.1 = (A.locate cwd src false).2 ∧ (A.both cwd src to).2.2 = (A.locate cwd to false).2 := by
  unfold AT.both at h ⊢
  simp only at h ⊢
  by_cases he : (A.locate cwd src false).1 = 0
  case neg => rw [if_pos he] at h; exact absurd h he
  rw [if_neg (by simpa using he)] at h ⊢
  exact ⟨he, h, rfl, rfl⟩
theorem renameF_inv {N : Nat} (h : Inv A) (hb : Bd N A) (hN : N < 4611686018427387904) (cwd src to : ByteArray) : OpInv (N + 1) A (A.renameF cwd src to) := by
  have self : ∀ e : Int, OpInv (N + 1) A (e, A) := fun e => ⟨h, hb.mono (by omega), rfl, rfl⟩
  unfold AT.renameF
  simp only
  by_cases c1 : (A.both cwd src to).1 ≠ 0
  · rw [if_pos c1]; exact self _
  rw [if_neg c1]
  obtain ⟨l1, l2, e1, e2⟩ := both_z (A := A) (cwd := cwd) (src := src) (to := to) (by simpa using c1)
  have P := locate_place h cwd src false l1
  have Q := locate_place h cwd to false l2
  rw [e1, e2]
  generalize (A.locate cwd src false).2 = p at *
  generalize (A.locate cwd to false).2 = q at *
  by_cases c2 : sEq p.name ⟨⟨[]⟩⟩ = true ∨ sEq q.name ⟨⟨[]⟩⟩ = true
  · rw [if_pos c2]; exact self _
  rw [if_neg c2]
  by_cases c3 : p.there = false
  · rw [if_pos c3]; exact self _
  rw [if_neg c3]
  by_cases c4 : q.there = true ∧ p.ino = q.ino
  · rw [if_pos c4]; exact self _
  rw [if_neg c4]
  by_cases c5 : A.overE p q ≠ 0
  · rw [if_pos c5]; exact self _
  rw [if_neg c5]
  have c5 : A.overE p q = 0 := by simpa using c5
  have hpn : p.name ≠ ⟨⟨[]⟩⟩ := fun e => c2 (.inl (by rw [e]; rfl))
  have hpt : p.there = true := by simpa using c3
  obtain ⟨_, hpf⟩ := P.named hpn
  rw [hpt] at hpf
  simp only [if_true] at hpf
  have room := over_room h Q.1 c5
  by_cases c6 : q.there = true
  case neg =>
    rw [if_neg c6]
    obtain ⟨a, b, c, d⟩ := moveR_inv h hb (src := p.dir) (to := q.dir) (name := p.name) (as_ := q.name) (f := 14) (fun ino nn hf hg hk dt r k h1 h2 h3 => by
      rw [hpf] at hf; cases hf
      exact room dt r k h1 ⟨nn, hg, hk⟩ h2 h3)
    exact ⟨a, b, c, d⟩
  rw [if_pos c6]
  obtain ⟨u1, u2, u3, u4, u5⟩ := unlinkR_ok h hb hN q.dir q.name
  by_cases c7 : (A.unlinkR q.dir q.name).1 ≠ 0
  · rw [if_pos c7]; rw [show A.unlinkR q.dir q.name = ((A.unlinkR q.dir q.name).1, (A.unlinkR q.dir q.name).2) from rfl, u3 c7]; exact self _
  rw [if_neg c7]
  have back := unlinkR_back h (dir := q.dir) (name := q.name)
  generalize (A.unlinkR q.dir q.name).2 = U at *
  have hu : ∀ k, U.isDir k → A.upOf k = U.upOf k := by
    rintro k ⟨m, hm, _⟩
    obtain ⟨m0, b1, _, b3, _⟩ := back k m hm
    unfold AT.upOf; rw [hm, b1]; simp [b3]
  have hdir : ∀ k, U.isDir k → A.isDir k := by
    rintro k ⟨m, hm, hk⟩
    obtain ⟨m0, b1, b2, _⟩ := back k m hm
    exact ⟨m0, b1, by rw [← b2]; exact hk⟩
  obtain ⟨a, b, c, d⟩ := moveR_inv u1 u2 (src := p.dir) (to := q.dir) (name := p.name) (as_ := q.name) (f := 14) (fun ino nn hf hg hk dt r k h1 h2 h3 => by
    have hfa : ino = p.ino := by
      unfold AT.find at hf
      cases hn : U.get p.dir with
      | none => rw [hn] at hf; cases hf
      | some m =>
        rw [hn] at hf
        obtain ⟨m0, b1, _, _, b4⟩ := back p.dir m hn
        have := b4 _ _ hf
        unfold AT.find at hpf
        rw [b1] at hpf
        have hpf : lk p.name m0.ents = some p.ino := hpf
        rw [this] at hpf; cases hpf; rfl
    subst hfa
    have hqd : U.isDir q.dir := by
      -- going up needs a directory: else nothing lies there
      apply Classical.byContradiction
      intro hc
      have hm : (U.moveR p.dir p.name q.dir q.name 14) = (U.moveR p.dir p.name q.dir q.name 14) := rfl
      cases hg : U.get q.dir with
      | none =>
        have : U.upOf q.dir = 0 := by unfold AT.upOf; rw [hg]; rfl
        have h0 : U.get 0 = none := by
          cases h0 : U.get 0 with
          | none => rfl
          | some n => have := u1.low 0 n h0; omega
        have hz : U.upOf 0 = 0 := by unfold AT.upOf; rw [h0]; rfl
        have hz2 : ∀ f, U.deep f 0 = none := by
          intro f
          induction f with
          | zero => rfl
          | succ f ih => unfold AT.deep; rw [if_neg (by omega), hz, ih]; rfl
        have h11 : q.dir ≠ 1 := by
          intro e; rw [e] at hc; exact hc u1.root_dir
        rw [AT.deep, if_neg h11, this, hz2] at h1; cases h1
      | some n =>
        obtain ⟨m0, b1, b2, _⟩ := back q.dir n hg
        obtain ⟨m1, d1, d2⟩ := Q.1
        rw [d1] at b1; cases b1
        exact hc ⟨n, hg, by rw [b2]; exact d2⟩
    have hdt : A.deep 12 q.dir = some dt := by
      rw [deep_same u1 hu 12 q.dir hqd]; exact h1
    exact room dt r k hdt (hdir _ ⟨nn, hg, hk⟩) (hdir _ h2) (below_same u1 hu h2 h3))
  exact ⟨a, b, by rw [c, u4], by rw [d, u5]⟩
end Go.Wk

/- A FILE SYSTEM: renaming. -/
set_option maxRecDepth 100000
namespace Go.Proofs.YtlpcehbfoogejaaGreatDoor
open Go Go.HL Go.Wk
attribute [local irreducible] ptrW ifW brW andW rdT alW letJ stW muW biW vaW imW callT cvalT app callW invW callVW sizeT oW nilF oneK loopW rfW funW begW roundK exW idxW Gr Put
theorem levels_le (A : AT) : ∀ (f : Nat) (i : Int), 0 ≤ A.levels f i ∧ A.levels f i ≤ f := by
  intro f
  induction f with
  | zero => intro i; simp [AT.levels]
  | succ f ih =>
    intro i
    unfold AT.levels
    by_cases hk : A.kind i ≠ 2
    · rw [if_pos hk]; omega
    rw [if_neg hk]
    have key : ∀ (l : List ByteArray) (n : Int), 0 ≤ n → n ≤ f → 0 ≤ l.foldl (fun n s => let x := AT.levels A f ((A.find i s).getD 0); if x > n then x else n) n ∧ l.foldl (fun n s => let x := AT.levels A f ((A.find i s).getD 0); if x > n then x else n) n ≤ f := by
      intro l
      induction l with
      | nil => intro n h1 h2; exact ⟨h1, h2⟩
      | cons s r ihl =>
        intro n h1 h2
        simp only [List.foldl_cons]
        have := ih ((A.find i s).getD 0)
        refine ihl _ ?_ ?_ <;> (split <;> omega)
    have := key (A.names i) 0 (by omega) (by omega)
    omega
section
variable {σ : H} {bf : Nat} {A : AT} {B : Nat → Prop}
theorem s_levelsF {N : Nat} (hI : Inv A) (hB : Bd N A) (hN : N ≤ 1000000000000) (hF : FsAt σ bf A B) : ∀ (f : Nat) (i : Int), f ≤ 100 → (∀ d, A.isDir i → A.deep 12 i = some d → 13 ≤ f + d) → ∀ {τ : H}, Gr σ τ → ∀ {K : Value → H → Prop}, (∀ τ', Gr τ τ' → K (.int .i64 (A.levels f i)) τ') → callW Tryz.prog 133 [.pointer (some ⟨bf, 0, none⟩), .int .i64 i] K τ := by
  intro f
  induction f with
  | zero =>
    intro i _ hd τ hg K hK
    refine c133 _ _ ?_
    unfold g133
    refine call_i (s_kind (hF.gr hg) i (app_I ?_))
    have hk : A.kind i ≠ 2 := by
      intro hk
      have hdir := kind_dir hk
      obtain ⟨d, hdd⟩ := hI.deep i hdir
      have := hd d hdir hdd
      have := deep_bound hdd
      omega
    exact br_t (by simpa using hk) (hK τ (Gr.refl _))
  | succ f ih =>
    intro i hf hd τ hg K hK
    have hll := levels_le A f
    refine c133 _ _ ?_
    unfold g133
    refine call_i (s_kind (hF.gr hg) i (app_I ?_))
    unfold AT.levels at hK
    by_cases hk : A.kind i ≠ 2
    · rw [if_pos hk] at hK
      exact br_t (by simpa using hk) (hK τ (Gr.refl _))
    rw [if_neg hk] at hK
    have hk2 : A.kind i = 2 := by simpa using hk
    have hdir := kind_dir hk2
    obtain ⟨di, hdi⟩ := hI.deep i hdir
    refine br_f (by simpa using hk2) ?_
    obtain ⟨bt, B0, q1, q2, q3, q4⟩ := id (hF.gr hg)
    refine ptr_i (rd_P (rdC_of q1 (by rfl)) ?_)
    refine call_i (s_Names q2 _ (names_ok hI hB hN _) ?_)
    intro x τ1 g1 hx
    refine app_L (loop_i ?_)
    intro R hR
    have hlen := hx.1
    have hnl := names_len (A := A) (d := i) hB
    have key : ∀ (l : List ByteArray) (k : Nat) (n : Int) (τ2 : H), (A.names i).drop k = l → 0 ≤ n → n ≤ f → Gr τ1 τ2 → (A.names i).foldl (fun n s => let x := AT.levels A f ((A.find i s).getD 0); if x > n then x else n) 0 = l.foldl (fun n s => let x := AT.levels A f ((A.find i s).getD 0); if x > n then x else n) n → R (some ⟨bf, 0, none⟩) i n x ((x.len : Nat) : Int) (k : Int) τ2 := by
      intro l
      induction l with
      | nil =>
        intro k n τ2 hdr h1 h2 hg2 he
        have hge : (A.names i).length ≤ k := by simpa using hdr
        refine hR _ _ _ _ _ _ _ ?_
        refine br_f (by rw [hlen]; simp only [decide_eq_false_iff_not]; omega) ?_
        rw [wrap_id (x := n + 1) (by omega) (by omega)]
        rw [he] at hK
        exact hK τ2 (g1.trans hg2)
      | cons s r ihl =>
        intro k n τ2 hdr h1 h2 hg2 he
        obtain ⟨hs, hlt, hd'⟩ := drop_get hdr
        obtain ⟨g, cur, x1, x2, x3⟩ := hx.at hs
        refine hR _ _ _ _ _ _ _ ?_
        refine br_t (by rw [hlen]; simp only [decide_eq_true_eq]; omega) ?_
        rw [x1]
        refine ptr_i (if_i ⟨by omega, by rw [hlen]; omega⟩ ?_)
        have hrd : rdC g (0 + (k : Int).toNat * 1) τ2 = some (.string s) := rdC_of (hg2.get x2) (by simpa using x3)
        obtain ⟨bt', B0', r1, r2, r3, r4⟩ := id (hF.gr ((hg.trans g1).trans hg2))
        refine rd_S hrd (ptr_i (rd_P (rdC_of r1 (by rfl)) ?_))
        refine call_i (t_Find r2 _ _ (app_IB ?_))
        refine call_i (ih ((A.find i s).getD 0) (by omega) ?_ ((hg.trans g1).trans hg2) ?_)
        · intro d' hdj hd12
          obtain ⟨j, hj⟩ := names_mem hI (List.mem_of_getElem? hs)
          rw [hj] at hdj hd12
          simp only [Option.getD_some] at hdj hd12
          obtain ⟨nd, hnd, _, hl, hj1, m, hm, hup⟩ := hI.find hj
          obtain ⟨m', hm', hk'⟩ := hdj
          rw [hm] at hm'; cases hm'
          have hu : A.upOf j = i := by unfold AT.upOf; rw [hm]; exact hup hk'
          rw [AT.deep, if_neg hj1, hu] at hd12
          cases he11 : A.deep 11 i with
          | none => rw [he11] at hd12; cases hd12
          | some y =>
            rw [he11] at hd12
            simp only [Option.map_some, Option.some.injEq] at hd12
            have := deep_mono he11
            rw [hdi] at this; cases this
            have := hd di hdir hdi
            omega
        · intro τ3 g3
          refine app_I ?_
          have hb := hll ((A.find i s).getD 0)
          rw [wrap_id (x := (k : Int) + 1) (by omega) (by omega)]
          have hgt : (if A.levels f ((A.find i s).getD 0) > n then A.levels f ((A.find i s).getD 0) else n) = (let x := AT.levels A f ((A.find i s).getD 0); if x > n then x else n) := rfl
          refine ihl (k + 1) _ τ3 hd' ?_ ?_ (hg2.trans g3) ?_
          · split <;> omega
          · split <;> omega
          · rw [he]; rfl
    exact key (A.names i) 0 0 τ1 rfl (by omega) (by omega) (Gr.refl _) rfl
theorem s_withinF (hF : FsAt σ bf A B) {ino : Int} : ∀ (f : Nat) {d : Int} {b : Bool}, A.within ino f d = some b → ∀ {K : Value → H → Prop}, K (.bool b) σ → callW Tryz.prog 132 [.pointer (some ⟨bf, 0, none⟩), .int .i64 d, .int .i64 ino] K σ := by
  intro f d b hw K hK
  obtain ⟨bt, B0, q1, q2, q3, q4⟩ := id hF
  refine c132 _ _ _ ?_
  unfold g132
  refine loop_i ?_
  intro R hR
  have key : ∀ (f : Nat) (d : Int), A.within ino f d = some b → R (some ⟨bf, 0, none⟩) d ino σ := by
    intro f
    induction f with
    | zero => intro d h; cases h
    | succ f ih =>
      intro d h
      unfold AT.within at h
      refine hR _ _ _ _ ?_
      refine j_d ?_
      by_cases e : d = ino
      · rw [if_pos e] at h; cases h
        refine br_f (by simpa using e) (br_f rfl ?_)
        have : (d == ino) = true := by simpa using e
        rw [this]; exact hK
      rw [if_neg e] at h
      refine br_t (by simpa using e) (ptr_i (rd_P (rdC_of q1 (by rfl)) (call_i (s_Root _ (app_I ?_)))))
      by_cases e1 : d = 1
      · rw [if_pos e1] at h; cases h
        refine br_f (by simpa using e1) ?_
        have : (d == ino) = false := by simpa using e
        rw [this]; exact hK
      rw [if_neg e1] at h
      refine br_t (by simpa using e1) (ptr_i (rd_P (rdC_of q1 (by rfl)) (call_i (t_Up q2 _ (app_I ?_)))))
      exact ih _ h
  exact key f d hw
theorem s_over {N : Nat} (hI : Inv A) (hB : Bd N A) (hN : N ≤ 1000000000000) (hF : FsAt σ bf A B) (p q : Pl) (hq : A.isDir q.dir) {K : Value → H → Prop} (hK : ∀ σ', Gr σ σ' → K (.int .i64 (A.overE p q)) σ') :
    callW Tryz.prog 80 [.pointer (some ⟨bf, 0, none⟩), .agg ⟨plC p⟩, .agg ⟨plC q⟩] K σ := by
  unfold plC
  refine c80 _ _ _ _ _ _ _ _ _ ?_
  unfold g80
  refine al_i ?_; intro b10 σ1 g1 e1 n1
  refine al_i ?_; intro b11 σ2 g2 e2 n2
  have k10 := g2.get e1
  have hg2 : Gr σ σ2 := g1.trans g2
  have F2 := hF.gr hg2
  refine rd_I (rdC_of k10 (by rfl)) (rd_I (rdC_of e2 (by rfl)) ?_)
  refine call_i (s_kind F2 _ (app_I (and_i (rdC_of e2 (by rfl)) (call_i (s_kind F2 _ (app_I ?_))))))
  unfold AT.overE at hK
  simp only at hK
  obtain ⟨x, hx13, hx12, hx1, hx2⟩ := hI.deep13 hq
  obtain ⟨wb, hwb⟩ := within_some p.ino hx13
  -- behind the first questions
  refine j_i (fun j => ∀ τ, Gr σ2 τ → (if q.there = false then (0 : Int) else if A.kind q.ino = 2 ∧ A.kind p.ino ≠ 2 then 7 else if A.kind p.ino = 2 ∧ A.kind q.ino ≠ 2 then 8 else if (A.names q.ino).length > 0 then 20 else 0) = 0 → j (some ⟨bf, 0, none⟩) (some ⟨b10, 0, none⟩) (some ⟨b11, 0, none⟩) (A.kind p.ino == 2) τ) ?_ ?_
  · intro τ hg he
    rw [he] at hK
    simp only [ne_eq, not_true_eq_false, if_false] at hK
    have hgσ : Gr σ τ := hg2.trans hg
    have F := hF.gr hgσ
    have h10 := hg.get k10
    have h11 := hg.get e2
    refine j_i (fun j => ∀ b : Bool, b = decide (A.kind p.ino = 2 ∧ (A.within p.ino 13 q.dir).getD false = true) → j (some ⟨bf, 0, none⟩) (some ⟨b10, 0, none⟩) (some ⟨b11, 0, none⟩) b τ) ?_ ?_
    · intro b hb
      by_cases hc : A.kind p.ino = 2 ∧ (A.within p.ino 13 q.dir).getD false = true
      · rw [if_pos hc] at hK
        exact br_t (by rw [hb]; simpa using hc) (hK τ hgσ)
      · rw [if_neg hc] at hK
        refine br_f (by rw [hb]; simpa using hc) (ptr_i (rd_I (rdC_of h11 (by rfl)) (ptr_i (rd_I (rdC_of h10 (by rfl)) ?_))))
        refine call_i (s_deep F hx13 (by omega) (app_I (and_i (rdC_of h10 (by rfl)) ?_)))
        refine call_i (s_levelsF hI hB hN hF 14 p.ino (by omega) (fun d _ hd => by have := deep_bound hd; omega) hgσ ?_)
        intro τ' g'
        refine app_I ?_
        have hl := levels_le A 14 p.ino
        rw [wrap_id (x := x + A.levels 14 p.ino) (by omega) (by omega)]
        rw [hx13] at hK
        simp only [Option.getD_some] at hK
        by_cases h12 : x + A.levels 14 p.ino > 12
        · rw [if_pos h12] at hK; exact br_t (by simpa using h12) (hK τ' (hgσ.trans g'))
        · rw [if_neg h12] at hK; exact br_f (by simpa using h12) (hK τ' (hgσ.trans g'))
    · intro j hj
      by_cases hk : A.kind p.ino = 2
      · refine br_t (by simpa using hk) (ptr_i (rd_I (rdC_of h11 (by rfl)) (ptr_i (rd_I (rdC_of h10 (by rfl)) ?_))))
        refine call_i (s_withinF F 13 hwb (app_B (hj wb ?_)))
        rw [hwb]; simp [hk]
      · exact br_f (by simpa using hk) (hj false (by simp [hk]))
  · intro j hj
    refine rd_B (rdC_of e2 (by rfl)) ?_
    cases hth : q.there with
    | false => exact br_t rfl (hj σ2 (Gr.refl _) (by rw [hth]; rfl))
    | true =>
      rw [hth] at hK hj
      simp only [Bool.true_eq_false, if_false] at hK hj
      refine br_f rfl ?_
      refine j_i (fun j' => ∀ b : Bool, b = decide (A.kind q.ino = 2 ∧ A.kind p.ino ≠ 2) → j' (some ⟨bf, 0, none⟩) (some ⟨b10, 0, none⟩) (some ⟨b11, 0, none⟩) (A.kind p.ino == 2) (A.kind q.ino == 2) b σ2) ?_ ?_
      · intro b hb
        by_cases h7 : A.kind q.ino = 2 ∧ A.kind p.ino ≠ 2
        · rw [if_pos h7] at hK
          exact br_t (by rw [hb]; simpa using h7) (hK σ2 hg2)
        rw [if_neg h7] at hK hj
        refine br_f (by rw [hb]; simpa using h7) ?_
        refine j_i (fun j' => ∀ b : Bool, b = decide (A.kind p.ino = 2 ∧ A.kind q.ino ≠ 2) → j' (some ⟨bf, 0, none⟩) (some ⟨b10, 0, none⟩) (some ⟨b11, 0, none⟩) (A.kind p.ino == 2) b σ2) ?_ ?_
        · intro b hb
          by_cases h8 : A.kind p.ino = 2 ∧ A.kind q.ino ≠ 2
          · rw [if_pos h8] at hK
            exact br_t (by rw [hb]; simpa using h8) (hK σ2 hg2)
          rw [if_neg h8] at hK hj
          refine br_f (by rw [hb]; simpa using h8) ?_
          obtain ⟨bt, B0, q1, q2, q3, q4⟩ := id F2
          refine ptr_i (rd_P (rdC_of q1 (by rfl)) (ptr_i (rd_I (rdC_of e2 (by rfl)) ?_)))
          refine call_i (s_Names q2 _ (names_ok hI hB hN _) ?_)
          intro x' σ3 g3 hx'
          refine app_L ?_
          have hlen : x'.len = (A.names q.ino).length := hx'.1
          by_cases hl : (A.names q.ino).length > 0
          · rw [if_pos hl] at hK
            exact br_t (by rw [hlen]; simp only [decide_eq_true_eq]; omega) (hK σ3 (hg2.trans g3))
          · rw [if_neg hl] at hj
            exact br_f (by rw [hlen]; simp only [decide_eq_false_iff_not]; omega) (hj σ3 g3 rfl)
        · intro j' hj'
          by_cases hk : A.kind p.ino = 2
          · exact br_t (by simpa using hk) (hj' _ (by by_cases hq2 : A.kind q.ino = 2 <;> simp [hk, hq2]))
          · exact br_f (by simpa using hk) (hj' _ (by simp [hk]))
      · intro j' hj'
        by_cases hk : A.kind q.ino = 2
        · exact br_t (by simpa using hk) (hj' _ (by by_cases hp2 : A.kind p.ino = 2 <;> simp [hk, hp2]))
        · exact br_f (by simpa using hk) (hj' _ (by simp [hk]))
/-- Rename -/
theorem s_Rename {N : Nat} (hI : Inv A) (hB : Bd N A) (hN : N ≤ 1000000000000) (hF : FsAt σ bf A B) (cwd src to : ByteArray) {K : Value → H → Prop}
    (hK : ∀ σ' B', FsAt σ' bf (A.renameF cwd src to).2 B' → Sep σ B σ' B' → K (.int .i64 (A.renameF cwd src to).1) σ') :
    callW Tryz.prog 33 [.pointer (some ⟨bf, 0, none⟩), .string cwd, .string src, .string to] K σ := by
  refine c33 _ _ _ _ ?_
  unfold g33
  refine call_i (s_both hF cwd src to ?_)
  unfold AT.renameF at hK
  simp only at hK
  have hbz := both_z (A := A) (cwd := cwd) (src := src) (to := to)
  have hpl := fun he => locate_place hI cwd to false he
  generalize A.both cwd src to = r at hK hbz ⊢
  obtain ⟨re, p, q⟩ := r
  simp only at hK hbz ⊢
  unfold plC
  (refine app_of rfl ?_; try dsimp only)
  refine al_i ?_; intro b14 σ1 g1 e1 n1
  refine al_i ?_; intro b15 σ2 g2 e2 n2
  have n1415 : b14 ≠ b15 := ne_fr n2 (isSome_of e1)
  refine st_i2 (g2.get e1) sz_place (by rfl) (by rfl) ?_; intro σ3 p3
  refine st_i2 (p3.get n1415.symm e2) sz_place (by rfl) (by rfl) ?_; intro σ4 p4
  have f15 : σ b15 = none := none_of g1 n2
  have hg4 : Lng σ σ4 := ⟨((g1.trans g2).putF p3 n1).putF p4 f15⟩
  have k14 := p4.get n1415 p3.same
  have k15 := p4.same
  have F4 := hF.gr hg4.gr
  clear p3 p4 e1 e2 g1 g2
  by_cases he : re = 0
  case neg =>
    rw [if_pos he] at hK
    exact br_t (by simpa using he) (hK σ4 B F4 (Sep.gr hg4.gr))
  subst he
  simp only [ne_eq, not_true_eq_false, if_false] at hK
  obtain ⟨_, z2, _, z4⟩ := hbz rfl
  have Q := hpl z2
  rw [← z4] at Q
  refine br_f rfl ?_
  refine j_i (fun j => ∀ b : Bool, b = (strEq p.name ⟨⟨[]⟩⟩ || strEq q.name ⟨⟨[]⟩⟩) → j (some ⟨bf, 0, none⟩) (some ⟨b14, 0, none⟩) (some ⟨b15, 0, none⟩) b σ4) ?_ ?_
  case refine_2 =>
    intro j hj
    refine rd_S (rdC_of k14 (by rfl)) ?_
    cases h1 : strEq p.name ⟨⟨[]⟩⟩ with
    | true => exact br_t rfl (hj true (by rw [h1]; rfl))
    | false => exact br_f rfl (rd_S (rdC_of k15 (by rfl)) (hj _ (by rw [h1]; rfl)))
  intro b hb
  by_cases c2 : sEq p.name ⟨⟨[]⟩⟩ = true ∨ sEq q.name ⟨⟨[]⟩⟩ = true
  · rw [if_pos c2] at hK
    exact br_t (by rw [hb, ← sEq_eq, ← sEq_eq]; simpa using c2) (hK σ4 B F4 (Sep.gr hg4.gr))
  rw [if_neg c2] at hK
  refine br_f (by
    rw [hb, ← sEq_eq, ← sEq_eq]
    cases h1 : sEq p.name ⟨⟨[]⟩⟩ with
    | true => exact absurd (.inl h1) c2
    | false =>
      cases h2 : sEq q.name ⟨⟨[]⟩⟩ with
      | true => exact absurd (.inr h2) c2
      | false => rfl) ?_
  refine ptr_i (rd_B (rdC_of k14 (by rfl)) ?_)
  by_cases c3 : p.there = false
  · rw [if_pos c3] at hK
    exact br_t (by rw [c3]; rfl) (hK σ4 B F4 (Sep.gr hg4.gr))
  rw [if_neg c3] at hK
  have c3' : p.there = true := by simpa using c3
  refine br_f (by rw [c3']; rfl) ?_
  refine j_i (fun j => ∀ b : Bool, b = decide (q.there = true ∧ p.ino = q.ino) → j (some ⟨bf, 0, none⟩) (some ⟨b14, 0, none⟩) (some ⟨b15, 0, none⟩) b σ4) ?_ ?_
  case refine_2 =>
    intro j hj
    refine ptr_i (rd_B (rdC_of k15 (by rfl)) ?_)
    cases h1 : q.there with
    | true =>
      refine br_t rfl (ptr_i (rd_I (rdC_of k14 (by rfl)) (ptr_i (rd_I (rdC_of k15 (by rfl)) (hj _ ?_)))))
      by_cases h2 : p.ino = q.ino <;> simp [h1, h2]
    | false => exact br_f rfl (hj false (by simp [h1]))
  intro b hb
  by_cases c4 : q.there = true ∧ p.ino = q.ino
  · rw [if_pos c4] at hK
    exact br_t (by rw [hb]; simpa using c4) (hK σ4 B F4 (Sep.gr hg4.gr))
  rw [if_neg c4] at hK
  refine br_f (by rw [hb]; simpa using c4) (ptr_i (rd_G (rdA_of' k14 (by rfl)) ?_))
  (refine app_of rfl ?_; try dsimp only)
  refine ptr_i (rd_G (rdA_of' k15 (by rfl)) ?_)
  (refine app_of rfl ?_; try dsimp only)
  refine call_i (s_over hI hB hN F4 p q Q.1 ?_)
  intro σ5 g5
  refine app_I ?_
  have hg5 : Lng σ σ5 := ⟨hg4.gr.trans g5⟩
  have k14' := g5.get k14
  have k15' := g5.get k15
  have F5 := hF.gr hg5.gr
  by_cases c5 : A.overE p q ≠ 0
  · rw [if_pos c5] at hK
    exact br_t (by simpa using c5) (hK σ5 B F5 (Sep.gr hg5.gr))
  rw [if_neg c5] at hK
  refine br_f (by simpa using c5) ?_
  -- the entry moves
  have mv : ∀ (A' : AT) (σ6 : H) (B6 : Nat → Prop), Inv A' → FsAt σ6 bf A' B6 → Sep σ B σ6 B6 → σ6 b14 = some (.cells ⟨[.int .i64 p.dir, .string p.name, .int .i64 p.ino, .bool p.there]⟩ 86 (0, 0)) → σ6 b15 = some (.cells ⟨[.int .i64 q.dir, .string q.name, .int .i64 q.ino, .bool q.there]⟩ 86 (0, 0)) →
      (∀ σ' B', FsAt σ' bf (A'.moveR p.dir p.name q.dir q.name 14).2 B' → Sep σ B σ' B' → K (.int .i64 (A'.moveR p.dir p.name q.dir q.name 14).1) σ') →
      (ptrW (some ⟨bf, 0, none⟩) (fun (b46 o47 : Nat) => rdT (rdC b46 o47) kP (fun (x48 : Option Addr) => ptrW (some ⟨b14, 0, none⟩) (fun (b49 o50 : Nat) => rdT (rdC b49 o50) kI (fun (x51 : Int) => ptrW (some ⟨b14, 0, none⟩) (fun (b52 o53 : Nat) => rdT (rdC b52 (o53 + 1)) kS (fun (x54 : ByteArray) => ptrW (some ⟨b15, 0, none⟩) (fun (b55 o56 : Nat) => rdT (rdC b55 o56) kI (fun (x57 : Int) => ptrW (some ⟨b15, 0, none⟩) (fun (b58 o59 : Nat) => rdT (rdC b58 (o59 + 1)) kS (fun (x60 : ByteArray) =>
        callT Tryz.prog 81 [.pointer x48, .int .i64 x51, .string x54, .int .i64 x57, .string x60] kI (fun (x61 : Int) => K (.int .i64 x61))))))))))))) σ6 := by
    intro A' σ6 B6 hI' F6 S6 h14 h15 hK'
    obtain ⟨bt, B0, q1, q2, q3, q4⟩ := id F6
    refine ptr_i (rd_P (rdC_of q1 (by rfl)) (ptr_i (rd_I (rdC_of h14 (by rfl)) (ptr_i (rd_S (rdC_of h14 (by rfl)) (ptr_i (rd_I (rdC_of h15 (by rfl)) (ptr_i (rd_S (rdC_of h15 (by rfl)) ?_)))))))))
    refine call_i (s_Move cAny q2 _ _ _ _ ?_ 14 ?_ ?_)
    · intro j hj
      obtain ⟨_, _, _, _, _, m, hm, _⟩ := hI'.find hj
      rw [hm]; rfl
    · intro hz
      obtain ⟨_, ht, _, _⟩ := moveE1_z hz
      obtain ⟨d, hd⟩ := hI'.deep q.dir ht
      obtain ⟨b', hb'⟩ := apart_some hI' ((A'.find p.dir p.name).getD 0) ht (deep_mono (deep_mono hd))
      rw [hb']; rfl
    · intro σ7 B7 hT hS
      obtain ⟨B8, h1, h2⟩ := FsAt.lift q1 q3 q4 hT hS
      exact app_I (hK' σ7 B8 h1 (S6.trans h2))
  refine j_d (ptr_i (rd_B (rdC_of k15' (by rfl)) ?_))
  by_cases c6 : q.there = true
  case neg =>
    rw [if_neg c6] at hK
    exact br_f (by simpa using c6) (mv _ _ _ hI F5 (Sep.gr hg5.gr) k14' k15' hK)
  rw [if_pos c6] at hK
  obtain ⟨bt, B0, q1, q2, q3, q4⟩ := id F5
  refine br_t c6 (ptr_i (rd_P (rdC_of q1 (by rfl)) (ptr_i (rd_I (rdC_of k15' (by rfl)) (ptr_i (rd_S (rdC_of k15' (by rfl)) ?_))))))
  refine call_i (s_Unlink q2 _ _ ?_ hI.nodup ?_)
  · intro j hj
    obtain ⟨_, _, _, _, _, m, hm, _⟩ := hI.find hj
    rw [hm]; rfl
  · intro σ6 B6 hT hS
    obtain ⟨B7, h1, h2⟩ := FsAt.lift q1 q3 q4 hT hS
    have S7 : Sep σ B σ6 B7 := h2.of_gr hg5.gr
    refine app_I ?_
    by_cases c7 : (A.unlinkR q.dir q.name).1 ≠ 0
    · rw [if_pos c7] at hK
      exact br_t (by simpa using c7) (hK σ6 B7 h1 S7)
    rw [if_neg c7] at hK
    have hB14 : ¬ B b14 := hF.fresh n1
    have hB15 : ¬ B b15 := hF.fresh f15
    exact br_f (by simpa using c7) (mv _ _ _ (unlinkR_ok hI hB (by omega) q.dir q.name).1 h1 S7 (h2 b14 _ k14' hB14).1 (h2 b15 _ k15' hB15).1 hK)
end
end Go.Proofs.YtlpcehbfoogejaaGreatDoor

