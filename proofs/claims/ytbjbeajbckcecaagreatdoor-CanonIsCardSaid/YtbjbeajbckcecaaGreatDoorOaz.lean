/- A part of the proof: CanonIs holds. -/
import Derived.Test.YtbjbeajbckcecaaGreatDoorOay
namespace Go.Wk
open Go Go.HL
variable {A : AT}
theorem linkE_z {dir : Int} {name : ByteArray} {ino : Int} (he : A.linkE dir name ino = 0) : A.isDir dir /\ namedE name = 0 /\ (∃ n, A.get ino = some n /\ n.kind = 1) /\ A.find dir name = none := by
 unfold AT.linkE at he
 obtain ⟨_, he⟩ := AT.firstE_z he
 obtain ⟨h1, he⟩ := AT.firstE_z he
 obtain ⟨h2, he⟩ := AT.firstE_z he
 obtain ⟨h3, he⟩ := AT.firstE_z he
 obtain ⟨h4, _⟩ := AT.firstE_z he
 refine ⟨AT.dirE_z h1, h2, AT.fileE_z h3, ?_⟩
 cases hf : A.find dir name with
 | none => rfl
 | some j => rw [hf] at h4; simp at h4
theorem linkR_ok {N : Nat} (h : Inv A) (hb : Bd N A) (hN : N < 4611686018427387904) (dir : Int) (name : ByteArray) (ino : Int) : Inv (A.linkR dir name ino).2 /\ Bd (N + 1) (A.linkR dir name ino).2 /\ ((A.linkR dir name ino).1 ≠ 0 -> (A.linkR dir name ino).2 = A) /\ (A.linkR dir name ino).2.qi = A.qi /\ (A.linkR dir name ino).2.qb = A.qb := by
 unfold AT.linkR
 by_cases he : A.linkE dir name ino = 0
 case neg => rw [if_neg he]; exact ⟨h, hb.mono (by omega), fun _ => rfl, rfl, rfl⟩
 rw [if_pos he]
 obtain ⟨⟨nd, hd, hd2⟩, hnm, ⟨nn, hnn, hk1⟩, hfn⟩ := linkE_z he
 have hne : ino ≠ dir := by intro e; subst e; rw [hd] at hnn; cases hnn; omega
 have hfn' : lk name nd.ents = none := by unfold AT.find at hfn; rw [hd] at hfn; exact hfn
 have hlb : nn.links <= N := hb.links ino nn hnn
 have hi1 : ino ≠ 1 := by
  intro e; subst e
  obtain ⟨r, r1, r2, _⟩ := h.root
  rw [hnn] at r1; cases r1; omega
 have hl0 := h.links ino nn hnn hi1
 have wl : wr (nn.links + 1) = nn.links + 1 := wr_id (by omega) (by omega)
 have e1 : A.ent dir (up name ino) = A.set dir { nd with ents := up name ino nd.ents } := by unfold AT.ent; rw [hd]
 have g1 : (A.set dir { nd with ents := up name ino nd.ents }).get ino = some nn := by rw [AT.get_set_ne _ _ hne]; exact hnn
 have e2 : A.linked dir name ino = (A.set dir { nd with ents := up name ino nd.ents }).set ino { nn with links := nn.links + 1 } := by
  unfold AT.linked AT.mod; rw [e1, g1]; simp only; rw [wl]
 have hG : ∀ j, (A.linked dir name ino).get j = if j = ino then some { nn with links := nn.links + 1 } else if j = dir then some { nd with ents := up name ino nd.ents } else A.get j := by
  intro j; rw [e2, AT.get_set, AT.get_set]
 have hsum : ∀ f : AN -> Nat, sumF f (A.linked dir name ino).nodes + f nd + f nn = sumF f A.nodes + f { nd with ents := up name ino nd.ents } + f { nn with links := nn.links + 1 } := by
  intro f
  have q1 := AT.sum_set (A.set dir { nd with ents := up name ino nd.ents }) f ino { nn with links := nn.links + 1 }
  have q2 := AT.sum_set A f dir { nd with ents := up name ino nd.ents }
  rw [g1] at q1; rw [hd] at q2
  simp only [Option.map_some, Option.getD_some] at q1 q2
  rw [e2]; omega
 have hcE : ∀ j, cntE j { nd with ents := up name ino nd.ents } = cntE j nd + one j ino := by
  intro j
  have := sumF_up (one j) name ino nd.ents
  rw [hfn'] at this
  simpa [cntE] using this
 have hrefs : ∀ j, (A.linked dir name ino).refs j = A.refs j + one j ino := by
  intro j
  have := hsum (cntE j)
  rw [hcE j] at this
  have e : cntE j { nn with links := nn.links + 1 } = cntE j nn := rfl
  unfold AT.refs; omega
 have hcase : ∀ j m, (A.linked dir name ino).get j = some m -> (j = ino /\ m = { nn with links := nn.links + 1 }) \/ (j = dir /\ m = { nd with ents := up name ino nd.ents }) \/ (j ≠ ino /\ j ≠ dir /\ A.get j = some m) := by
  intro j m hm
  rw [hG] at hm
  by_cases e : j = ino
  ·rw [if_pos e] at hm; cases hm; exact .inl ⟨e, rfl⟩
  ·rw [if_neg e] at hm
   by_cases e' : j = dir
   ·rw [if_pos e'] at hm; cases hm; exact .inr (.inl ⟨e', rfl⟩)
   ·rw [if_neg e'] at hm; exact .inr (.inr ⟨e, e', hm⟩)
 have hx : ∀ j m, A.get j = some m -> ∃ m', (A.linked dir name ino).get j = some m' /\ m'.kind = m.kind /\ m'.up = m.up := by
  intro j m hm
  rw [hG]
  by_cases e : j = ino
  ·subst e; rw [if_pos rfl]; rw [hnn] at hm; cases hm; exact ⟨_, rfl, rfl, rfl⟩
  ·rw [if_neg e]
   by_cases e' : j = dir
   ·subst e'; rw [if_pos rfl]; rw [hd] at hm; cases hm; exact ⟨_, rfl, rfl, rfl⟩
   ·rw [if_neg e']; exact ⟨m, hm, rfl, rfl⟩
 have hupO : ∀ k, A.isDir k -> (A.linked dir name ino).upOf k = A.upOf k := by
  rintro k ⟨m, hm, _⟩
  obtain ⟨m', q1, _, q3⟩ := hx k m hm
  unfold AT.upOf; rw [hm, q1]; simp [q3]
 have hu : (A.linked dir name ino).ui = A.ui /\ (A.linked dir name ino).ub = A.ub /\ (A.linked dir name ino).qi = A.qi /\ (A.linked dir name ino).qb = A.qb /\ (A.linked dir name ino).last = A.last := by rw [e2]; exact ⟨rfl, rfl, rfl, rfl, rfl⟩
 have hone : one ino ino = 1 := by unfold one; simp
 show Inv (A.linked dir name ino) /\ Bd (N + 1) (A.linked dir name ino) /\ ((0 : Int) ≠ 0 -> _) /\ _ /\ _
 refine ⟨⟨?_, ?_, ?_, ?_, ?_, ?_, ?_, ?_, ?_, ?_, ?_, ?_, ?_⟩, ⟨?_, ?_, ?_⟩, fun h => absurd rfl h, hu.2.2.1, hu.2.2.2.1⟩
 ·rw [e2]; exact nodup_up (nodup_up h.nodup)
 ·intro j m hm
  rcases hcase j m hm with ⟨_, rfl⟩ | ⟨_, rfl⟩ | ⟨_, _, hm⟩
  ·exact h.enod ino nn hnn
  ·exact nodup_up (h.enod dir nd hd)
  ·exact h.enod j m hm
 ·obtain ⟨r, r1, r2, r3⟩ := h.root
  obtain ⟨m', q1, q2, q3⟩ := hx 1 r r1
  exact ⟨m', q1, by rw [q2, r2], by rw [q3, r3]⟩
 ·intro j m hm
  rw [hu.2.2.2.2]
  rcases hcase j m hm with ⟨rfl, _⟩ | ⟨rfl, _⟩ | ⟨_, _, hm⟩
  ·exact h.low _ nn hnn
  ·exact h.low _ nd hd
  ·exact h.low j m hm
 ·intro j m hm
  rcases hcase j m hm with ⟨_, rfl⟩ | ⟨_, rfl⟩ | ⟨_, _, hm⟩
  ·exact h.like ino nn hnn
  ·exact h.like dir nd hd
  ·exact h.like j m hm
 ·intro j m hm hk
  rcases hcase j m hm with ⟨_, rfl⟩ | ⟨_, rfl⟩ | ⟨_, _, hm⟩
  ·exact h.file ino nn hnn hk
  ·exact absurd hd2 hk
  ·exact h.file j m hm hk
 ·intro j m s t hm hs
  have fin : ∀ t m1, A.get t = some m1 -> (m1.kind = 2 -> m1.up = j) -> ∃ m', (A.linked dir name ino).get t = some m' /\ (m'.kind = 2 -> m'.up = j) := by
   intro t m1 a3 a4
   obtain ⟨m', b1, b2, b3⟩ := hx t m1 a3
   exact ⟨m', b1, fun hk => by rw [b3]; exact a4 (by rw [<- b2]; exact hk)⟩
  rcases hcase j m hm with ⟨rfl, rfl⟩ | ⟨rfl, rfl⟩ | ⟨_, _, hm⟩
  ·obtain ⟨a1, a2, m1, a3, a4⟩ := h.ent j nn s t hnn hs
   exact ⟨a1, a2, fin t m1 a3 a4⟩
  ·simp only [lk_up] at hs
   by_cases e : s = name
   ·subst e
    simp at hs; subst hs
    exact ⟨hnm, hi1, fin ino nn hnn (fun hk => by omega)⟩
   ·have e' : (s == name) = false := by simpa using e
    rw [e'] at hs
    obtain ⟨a1, a2, m1, a3, a4⟩ := h.ent j nd s t hd hs
    exact ⟨a1, a2, fin t m1 a3 a4⟩
  ·obtain ⟨a1, a2, m1, a3, a4⟩ := h.ent j m s t hm hs
   exact ⟨a1, a2, fin t m1 a3 a4⟩
 ·intro j m hm hj
  rw [hrefs]
  rcases hcase j m hm with ⟨rfl, rfl⟩ | ⟨rfl, rfl⟩ | ⟨hji, _, hm⟩
  ·rw [hone]
   refine ⟨by show nn.links + 1 = _; omega, by omega, fun hk => ?_⟩
   have hk : nn.kind = 2 := hk
   omega
  ·have : one j ino = 0 := by unfold one; rw [if_neg hne]
   rw [this]; exact h.links j nd hd hj
  ·have : one j ino = 0 := by unfold one; rw [if_neg (fun e => hji e.symm)]
   rw [this]; exact h.links j m hm hj
 ·rintro k ⟨m, hm, hk⟩
  have hkd : A.isDir k := by
   rcases hcase k m hm with ⟨rfl, rfl⟩ | ⟨rfl, rfl⟩ | ⟨_, _, hm⟩
   ·have hk : nn.kind = 2 := hk
    omega
   ·exact ⟨nd, hd, hk⟩
   ·exact ⟨m, hm, hk⟩
  rw [deep_same h hupO 12 k hkd]; exact h.deep k hkd
 ·have := hsum (fun _ => 1)
  rw [sumF_len, sumF_len] at this
  rw [hu.1, h.ui]; omega
 ·have := hsum (fun n => n.data.size)
  rw [hu.2.1, h.ub]; unfold AT.bytes; simp only at this; omega
 ·rw [hu.1, hu.2.2.1]; exact h.uq
 ·rw [hu.2.1, hu.2.2.2.1]; exact h.bq
 ·rw [hu.2.2.2.2]; have := hb.last; omega
 ·intro j m hm
  rcases hcase j m hm with ⟨_, rfl⟩ | ⟨rfl, rfl⟩ | ⟨_, _, hm⟩
  ·show nn.links + 1 <= _; omega
  ·have := hb.links _ nd hd; simp only; omega
  ·have := hb.links j m hm; omega
 ·intro j m hm
  rcases hcase j m hm with ⟨_, rfl⟩ | ⟨rfl, rfl⟩ | ⟨_, _, hm⟩
  ·have := hb.ents _ nn hnn; simp only; omega
  ·have := hb.ents _ nd hd
   simp only
   rw [enc_up_new nd.ents name _ hfn']; simp; omega
  ·have := hb.ents j m hm; omega
theorem hardF_ok {N : Nat} (h : Inv A) (hb : Bd N A) (hN : N < 4611686018427387904) (cwd src to : ByteArray) : OpOk (N + 1) A (A.hardF cwd src to) := by
 unfold AT.hardF
 simp only
 split
 ·exact OpOk.self h (hb.mono (by omega)) _
 split
 ·exact OpOk.self h (hb.mono (by omega)) _
 split
 ·exact OpOk.self h (hb.mono (by omega)) _
 split
 ·exact OpOk.self h (hb.mono (by omega)) _
 split
 ·exact OpOk.self h (hb.mono (by omega)) _
 obtain ⟨a, b, c, d, e⟩ := linkR_ok h hb hN (A.both cwd src to).2.2.dir (A.both cwd src to).2.2.name (A.both cwd src to).2.1.ino
 exact ⟨a, b, c, d, e⟩
def Below (A : AT) (ino : Int) : Nat -> Int -> Prop
 | 0, k => k = ino
 | r + 1, k => k ≠ ino /\ k ≠ 1 /\ Below A ino r (A.upOf k)
theorem no_loop (h : Inv A) {k : Int} (hk : A.isDir k) (h1 : k ≠ 1) : A.upOf k ≠ k := by
 intro e
 obtain ⟨d, hd⟩ := h.deep k hk
 have : ∀ f, A.deep f k = none := by
  intro f
  induction f with
  | zero => rfl
  | succ f ih => unfold AT.deep; rw [if_neg h1, e, ih]; rfl
 rw [this] at hd; cases hd
theorem within_some (ino : Int) : ∀ {f : Nat} {d x : Int}, A.deep f d = some x -> ∃ b, A.within ino f d = some b := by
 intro f
 induction f with
 | zero => intro d x h; cases h
 | succ f ih =>
  intro d x h
  unfold AT.deep at h
  unfold AT.within
  by_cases e : d = ino
  ·rw [if_pos e]; exact ⟨_, rfl⟩
  ·rw [if_neg e]
   by_cases e1 : d = 1
   ·rw [if_pos e1]; exact ⟨_, rfl⟩
   ·rw [if_neg e1] at h ⊢
    cases hd : A.deep f (A.upOf d) with
    | none => rw [hd] at h; cases h
    | some y => exact ih hd
theorem apart_some (h : Inv A) (ino : Int) : ∀ {f : Nat} {d x : Int}, A.isDir d -> A.deep f d = some x -> ∃ b, A.apart ino f d = some b := by
 intro f
 induction f with
 | zero => intro d x _ h; cases h
 | succ f ih =>
  intro d x hdir hd
  unfold AT.deep at hd
  unfold AT.apart
  by_cases e1 : d = 1
  ·rw [if_pos e1]; exact ⟨_, rfl⟩
  ·rw [if_neg e1] at hd ⊢
   by_cases e : d = ino
   ·rw [if_pos e]; exact ⟨_, rfl⟩
   ·rw [if_neg e]
    have hu := h.isDir_up hdir
    obtain ⟨n, hn, _⟩ := hdir
    have hup : A.upOf d = n.up := by unfold AT.upOf; rw [hn]; rfl
    rw [hup] at hd hu
    rw [hn]
    cases hd2 : A.deep f n.up with
    | none => rw [hd2] at hd; cases hd
    | some y => exact ih hu hd2
theorem apart_not (h : Inv A) {ino : Int} (hi : ino ≠ 1) : ∀ {f : Nat} {d : Int}, A.isDir d -> A.apart ino f d = some true -> ∀ r, ¬ Below A ino r d := by
 intro f
 induction f with
 | zero => intro d _ h; cases h
 | succ f ih =>
  intro d hdir hd r hr
  unfold AT.apart at hd
  by_cases e1 : d = 1
  ·cases r with
   | zero => have hr : d = ino := hr; exact hi (by omega)
   | succ r => exact hr.2.1 e1
  ·rw [if_neg e1] at hd
   by_cases e : d = ino
   ·rw [if_pos e] at hd; cases hd
   ·rw [if_neg e] at hd
    cases r with
    | zero => exact e hr
    | succ r =>
     have hu := h.isDir_up hdir
     obtain ⟨n, hn, _⟩ := hdir
     have hup : A.upOf d = n.up := by unfold AT.upOf; rw [hn]; rfl
     rw [hn] at hd
     have hd : A.apart ino f n.up = some true := hd
     rw [hup] at hu
     have := hr.2.2
     rw [hup] at this
     exact ih hu hd r this
theorem below_top (h : Inv A) {ino : Int} : ∀ {r : Nat} {k : Int}, A.isDir k -> Below A ino (r + 1) k -> ∃ c, A.isDir c /\ c ≠ 1 /\ c ≠ ino /\ A.upOf c = ino /\ Below A c r k := by
 intro r
 induction r with
 | zero => intro k hk hb; obtain ⟨h1, h2, h3⟩ := hb; exact ⟨k, hk, h2, h1, h3, rfl⟩
 | succ r ih =>
  intro k hk hb
  obtain ⟨h1, h2, h3⟩ := hb
  obtain ⟨c, c1, c2, c3, c4, c5⟩ := ih (h.isDir_up hk) h3
  refine ⟨c, c1, c2, c3, c4, ?_, h2, c5⟩
  intro e; subst e
  exact h3.1 c4
theorem names_of {d : Int} {s : ByteArray} {j : Int} (hf : A.find d s = some j) : s ∈ A.names d := by
 unfold AT.find at hf
 unfold AT.names
 cases hn : A.get d with
 | none => rw [hn] at hf; cases hf
 | some n =>
  rw [hn] at hf
  have hf : lk s n.ents = some j := hf
  have hm : s ∈ keysL n.ents := by
   apply Classical.byContradiction
   intro hc
   rw [lk_none_iff.2 hc] at hf; cases hf
  simp only [sortN, List.mem_map]
  refine ⟨s.data.toList, (sortB_perm _).mem_iff.2 (List.mem_map.2 ⟨s, hm, rfl⟩), ?_⟩
  cases s with | mk d => cases d; rfl
theorem fold_mx (f : ByteArray -> Int) : ∀ (l : List ByteArray) (n : Int), n <= l.foldl (fun n s => let x := f s; if x > n then x else n) n /\ ∀ s ∈ l, f s <= l.foldl (fun n s => let x := f s; if x > n then x else n) n := by
 intro l
 induction l with
 | nil => intro n; exact ⟨Int.le_refl _, by simp⟩
 | cons y r ih =>
  intro n
  simp only [List.foldl_cons]
  obtain ⟨h1, h2⟩ := ih (if f y > n then f y else n)
  have hg : n <= (if f y > n then f y else n) /\ f y <= (if f y > n then f y else n) := by split <;> omega
  simp only at h1 h2 ⊢
  refine ⟨by omega, fun x hx => ?_⟩
  rcases List.mem_cons.1 hx with e | e
  ·subst e; omega
  ·exact h2 x e
theorem levels_below (h : Inv A) : ∀ (r : Nat) (f : Nat) (ino k : Int), A.isDir k -> A.isDir ino -> Below A ino r k -> r + 1 <= f -> (r : Int) + 1 <= A.levels f ino := by
 intro r
 induction r with
 | zero =>
  intro f ino k _ hi _ hf
  obtain ⟨f, rfl⟩ : ∃ g, f = g + 1 := ⟨f - 1, by omega⟩
  unfold AT.levels
  have hk : A.kind ino = 2 := dir_kind hi
  rw [if_neg (by omega)]
  have := (fold_mx (fun s => A.levels f ((A.find ino s).getD 0)) (A.names ino) 0).1
  simp only at this ⊢; omega
 | succ r ih =>
  intro f ino k hk hi hb hf
  obtain ⟨f, rfl⟩ : ∃ g, f = g + 1 := ⟨f - 1, by omega⟩
  obtain ⟨c, c1, c2, c3, c4, c5⟩ := below_top h hk hb
  obtain ⟨s, hs⟩ := h.named c1 c2
  rw [c4] at hs
  unfold AT.levels
  have hk2 : A.kind ino = 2 := dir_kind hi
  rw [if_neg (by omega)]
  have h1 := (fold_mx (fun s => A.levels f ((A.find ino s).getD 0)) (A.names ino) 0).2 s (names_of hs)
  have h2 := ih f c k hk c1 c5 (by omega)
  simp only [hs, Option.getD_some] at h1 ⊢; omega
theorem named_once (h : Inv A) {i k : Int} {n m : AN} {s s' : ByteArray} (hn : A.get i = some n) (hm : A.get k = some m) (hk2 : m.kind = 2) (hk1 : k ≠ 1) (h1 : lk s n.ents = some k) (h2 : lk s' n.ents = some k) : s = s' := by
 apply Classical.byContradiction
 intro hne
 have hr := (h.links k m hm hk1).2.2 hk2
 have a := sumF_two (f := one k) (h.enod i n hn) h1 h2 hne
 have b := sumF_ge (f := cntE k) (show lk i A.nodes = some n from hn)
 have e : one k k = 1 := by unfold one; simp
 rw [e] at a
 unfold AT.refs at hr
 have : sumF (one k) n.ents <= sumF (cntE k) A.nodes := b
 omega
structure Moved (A : AT) (src : Int) (name : ByteArray) (to : Int) (as_ : ByteArray) (ino : Int) (nn ns nt' : AN) (M : AT) : Prop where
 get : ∀ j, M.get j = if j = ino then some (if nn.kind == 2 then { nn with up := to } else nn) else if j = to then some { nt' with ents := up as_ ino nt'.ents } else if j = src then some { ns with ents := rm name ns.ents } else A.get j
 ui : M.ui = A.ui
 ub : M.ub = A.ub
 qi : M.qi = A.qi
 qb : M.qb = A.qb
 last : M.last = A.last
theorem moved_ok {N : Nat} (h : Inv A) (hb : Bd N A) {src to ino : Int} {name as_ : ByteArray} {nn : AN} (hs : A.isDir src) (ht : A.isDir to) (hnm : namedE as_ = 0) (hf : A.find src name = some ino) (hfr : A.find to as_ = none) (hn : A.get ino = some nn)
 (hnb : nn.kind = 2 -> ∀ r, ¬ Below A ino r to) (hdp : nn.kind = 2 -> ∀ dt r k, A.deep 12 to = some dt -> A.isDir k -> Below A ino r k -> dt + 1 + (r : Int) <= 12) :
 Inv (A.moved src name to as_) /\ Bd (N + 1) (A.moved src name to as_) /\ ∃ ns nt' : AN, A.get src = some ns /\ lk as_ nt'.ents = none /\ (nt' = if to = src then { ns with ents := rm name ns.ents } else (A.get to).getD nt') /\ Moved A src name to as_ ino nn ns nt' (A.moved src name to as_) := by
 obtain ⟨ns, hns, hns2⟩ := hs
 obtain ⟨nt, hnt, hnt2⟩ := ht
 have hlk : lk name ns.ents = some ino := by unfold AT.find at hf; rw [hns] at hf; exact hf
 have hlt : lk as_ nt.ents = none := by unfold AT.find at hfr; rw [hnt] at hfr; exact hfr
 obtain ⟨_, hi1, nn', hnn', hup⟩ := h.ent src ns name ino hns hlk
 rw [hn] at hnn'; cases hnn'
 have hit : ino ≠ to := by
  intro e; subst e
  rw [hn] at hnt; cases hnt
  exact hnb hnt2 0 rfl
 have his : ino ≠ src := by
  intro e; subst e
  rw [hn] at hns; cases hns
  have := no_loop h ⟨nn, hn, hns2⟩ hi1
  unfold AT.upOf at this; rw [hn] at this
  exact this (hup hns2)
 -- the three changes
 have e1 : A.ent src (rm name) = A.set src { ns with ents := rm name ns.ents } := by unfold AT.ent; rw [hns]
 have hnd := h.enod src ns hns
 obtain ⟨nt', g1, t1, t2, t3, t4, t5, t6, t7, t8, t9, t10⟩ : ∃ nt', (A.set src { ns with ents := rm name ns.ents }).get to = some nt' /\ nt'.kind = nt.kind /\ nt'.up = nt.up /\ nt'.mode = nt.mode /\ nt'.data = nt.data /\ nt'.links = nt.links /\ (keysL nt'.ents).Nodup /\ lk as_ nt'.ents = none /\ (∀ s j, lk s nt'.ents = some j -> lk s nt.ents = some j /\ (to = src -> s ≠ name)) /\ nt'.ents.length <= nt.ents.length /\ (nt' = if to = src then { ns with ents := rm name ns.ents } else (A.get to).getD nt') := by
  by_cases e : to = src
  ·subst e
   rw [hns] at hnt; cases hnt
   refine ⟨{ ns with ents := rm name ns.ents }, AT.get_set_self _ _ _, rfl, rfl, rfl, rfl, rfl, nodup_rm hnd, ?_, ?_, rm_sub.length_le, by rw [if_pos rfl]⟩
   ·simp only [lk_rm hnd]; split
    ·rfl
    ·exact hlt
   ·intro s j hs
    simp only [lk_rm hnd] at hs
    by_cases e : (s == name) = true
    ·rw [if_pos e] at hs; cases hs
    ·rw [if_neg e] at hs; exact ⟨hs, fun _ he => e (by simpa using he)⟩
  ·refine ⟨nt, by rw [AT.get_set_ne _ _ e]; exact hnt, rfl, rfl, rfl, rfl, rfl, h.enod to nt hnt, hlt, fun s j hs => ⟨hs, fun he => absurd he e⟩, Nat.le_refl _, by rw [if_neg e, hnt]; rfl⟩
 have g2 : ((A.set src { ns with ents := rm name ns.ents }).set to { nt' with ents := up as_ ino nt'.ents }).get ino = some nn := by
  rw [AT.get_set_ne _ _ hit, AT.get_set_ne _ _ his]; exact hn
 have e2 : A.moved src name to as_ = ((A.set src { ns with ents := rm name ns.ents }).set to { nt' with ents := up as_ ino nt'.ents }).set ino (if nn.kind == 2 then { nn with up := to } else nn) := by
  unfold AT.moved
  rw [hf]
  simp only [Option.getD_some]
  rw [e1]
  have : (A.set src { ns with ents := rm name ns.ents }).ent to (up as_ ino) = (A.set src { ns with ents := rm name ns.ents }).set to { nt' with ents := up as_ ino nt'.ents } := by unfold AT.ent; rw [g1]
  rw [this]
  unfold AT.mod; rw [g2]
 generalize hM : A.moved src name to as_ = M at *
 have hG : ∀ j, M.get j = if j = ino then some (if nn.kind == 2 then { nn with up := to } else nn) else if j = to then some { nt' with ents := up as_ ino nt'.ents } else if j = src then some { ns with ents := rm name ns.ents } else A.get j := by
  intro j; rw [e2, AT.get_set, AT.get_set, AT.get_set]
 have hnk : ∀ (P : AN -> Prop), P nn -> P { nn with up := to } -> P (if nn.kind == 2 then { nn with up := to } else nn) := by
  intro P h1 h2; split
  ·exact h2
  ·exact h1
 have hsum : ∀ f : AN -> Nat, sumF f M.nodes + f nn + f nt' + f ns = sumF f A.nodes + f { ns with ents := rm name ns.ents } + f { nt' with ents := up as_ ino nt'.ents } + f (if nn.kind == 2 then { nn with up := to } else nn) := by
  intro f
  have q1 := AT.sum_set A f src { ns with ents := rm name ns.ents }
  have q2 := AT.sum_set (A.set src { ns with ents := rm name ns.ents }) f to { nt' with ents := up as_ ino nt'.ents }
  have q3 := AT.sum_set ((A.set src { ns with ents := rm name ns.ents }).set to { nt' with ents := up as_ ino nt'.ents }) f ino (if nn.kind == 2 then { nn with up := to } else nn)
  rw [hns] at q1; rw [g1] at q2; rw [g2] at q3
  simp only [Option.map_some, Option.getD_some] at q1 q2 q3
  rw [e2]; omega
 have hc1 : ∀ j, cntE j { ns with ents := rm name ns.ents } + one j ino = cntE j ns := by
  intro j
  have := sumF_rm (one j) name ns.ents
  rw [hlk] at this
  simpa [cntE] using this
 have hc2 : ∀ j, cntE j { nt' with ents := up as_ ino nt'.ents } = cntE j nt' + one j ino := by
  intro j
  have := sumF_up (one j) as_ ino nt'.ents
  rw [t7] at this
  simpa [cntE] using this
 have hrefs : ∀ j, M.refs j = A.refs j := by
  intro j
  have q := hsum (cntE j)
  have e : cntE j (if nn.kind == 2 then { nn with up := to } else nn) = cntE j nn := hnk (fun m => cntE j m = cntE j nn) rfl rfl
  have := hc1 j
  have := hc2 j
  unfold AT.refs; omega
 have hx : ∀ j m, A.get j = some m -> ∃ m', M.get j = some m' /\ m'.kind = m.kind /\ (j ≠ ino -> m'.up = m.up) /\ m'.mode = m.mode /\ m'.data = m.data /\ m'.links = m.links := by
  intro j m hm
  rw [hG]
  by_cases a : j = ino
  ·subst a; rw [if_pos rfl]; rw [hn] at hm; cases hm
   exact ⟨_, rfl, hnk (fun m => m.kind = nn.kind) rfl rfl, fun h => absurd rfl h, hnk (fun m => m.mode = nn.mode) rfl rfl, hnk (fun m => m.data = nn.data) rfl rfl, hnk (fun m => m.links = nn.links) rfl rfl⟩
  ·rw [if_neg a]
   by_cases b : j = to
   ·subst b; rw [if_pos rfl]; rw [hnt] at hm; cases hm
    exact ⟨_, rfl, t1, fun _ => t2, t3, t4, t5⟩
   ·rw [if_neg b]
    by_cases c : j = src
    ·subst c; rw [if_pos rfl]; rw [hns] at hm; cases hm
     exact ⟨_, rfl, rfl, fun _ => rfl, rfl, rfl, rfl⟩
    ·rw [if_neg c]; exact ⟨m, hm, rfl, fun _ => rfl, rfl, rfl, rfl⟩
 have hcase : ∀ j m, M.get j = some m -> (j = ino /\ m = (if nn.kind == 2 then { nn with up := to } else nn)) \/ (j = to /\ m = { nt' with ents := up as_ ino nt'.ents }) \/ (j = src /\ j ≠ to /\ m = { ns with ents := rm name ns.ents }) \/ (j ≠ ino /\ j ≠ to /\ j ≠ src /\ A.get j = some m) := by
  intro j m hm
  rw [hG] at hm
  by_cases a : j = ino
  ·rw [if_pos a] at hm; cases hm; exact .inl ⟨a, rfl⟩
  ·rw [if_neg a] at hm
   by_cases b : j = to
   ·rw [if_pos b] at hm; cases hm; exact .inr (.inl ⟨b, rfl⟩)
   ·rw [if_neg b] at hm
    by_cases c : j = src
    ·rw [if_pos c] at hm; cases hm; exact .inr (.inr (.inl ⟨c, b, rfl⟩))
    ·rw [if_neg c] at hm; exact .inr (.inr (.inr ⟨a, b, c, hm⟩))
 have hback : ∀ j m, M.get j = some m -> ∃ m0, A.get j = some m0 /\ m.kind = m0.kind /\ m.mode = m0.mode /\ m.data = m0.data /\ m.links = m0.links := by
  intro j m hm
  have : ∃ m0, A.get j = some m0 := by
   rcases hcase j m hm with ⟨rfl, _⟩ | ⟨rfl, _⟩ | ⟨rfl, _, _⟩ | ⟨_, _, _, hm⟩
   ·exact ⟨_, hn⟩
   ·exact ⟨_, hnt⟩
   ·exact ⟨_, hns⟩
   ·exact ⟨_, hm⟩
  obtain ⟨m0, hm0⟩ := this
  obtain ⟨m', q1, q2, _, q4, q5, q6⟩ := hx j m0 hm0
  rw [hm] at q1; cases q1
  exact ⟨m0, hm0, q2, q4, q5, q6⟩
 have hupO : ∀ k, k ≠ ino -> A.isDir k -> M.upOf k = A.upOf k := by
  rintro k hki ⟨m, hm, _⟩
  obtain ⟨m', q1, _, q3, _⟩ := hx k m hm
  unfold AT.upOf; rw [hm, q1]; simp [q3 hki]
 have hu : M.ui = A.ui /\ M.ub = A.ub /\ M.qi = A.qi /\ M.qb = A.qb /\ M.last = A.last := by rw [e2]; exact ⟨rfl, rfl, rfl, rfl, rfl⟩
 refine ⟨⟨?_, ?_, ?_, ?_, ?_, ?_, ?_, ?_, ?_, ?_, ?_, ?_, ?_⟩, ⟨?_, ?_, ?_⟩, ns, nt', hns, t7, t10, ⟨hG, hu.1, hu.2.1, hu.2.2.1, hu.2.2.2.1, hu.2.2.2.2⟩⟩
 ·rw [e2]; exact nodup_up (nodup_up (nodup_up h.nodup))
 ·intro j m hm
  rcases hcase j m hm with ⟨_, rfl⟩ | ⟨_, rfl⟩ | ⟨_, _, rfl⟩ | ⟨_, _, _, hm⟩
  ·exact hnk (fun m => (keysL m.ents).Nodup) (h.enod ino nn hn) (h.enod ino nn hn)
  ·exact nodup_up t6
  ·exact nodup_rm hnd
  ·exact h.enod j m hm
 ·obtain ⟨r, r1, r2, r3⟩ := h.root
  obtain ⟨m', q1, q2, q3, _⟩ := hx 1 r r1
  exact ⟨m', q1, by rw [q2, r2], by rw [q3 (fun e => hi1 e.symm), r3]⟩
 ·intro j m hm
  rw [hu.2.2.2.2]
  obtain ⟨m0, q, _⟩ := hback j m hm
  exact h.low j m0 q
 ·intro j m hm
  obtain ⟨m0, q, q2, q3, q4, _⟩ := hback j m hm
  rw [q2, q3, q4]; exact h.like j m0 q
 ·intro j m hm hk
  rcases hcase j m hm with ⟨_, rfl⟩ | ⟨_, rfl⟩ | ⟨_, _, rfl⟩ | ⟨_, _, _, hm⟩
  ·have e : (if nn.kind == 2 then { nn with up := to } else nn).kind = nn.kind := hnk (fun m => m.kind = nn.kind) rfl rfl
   have e' : (if nn.kind == 2 then { nn with up := to } else nn).ents = nn.ents := hnk (fun m => m.ents = nn.ents) rfl rfl
   rw [e'] ; rw [e] at hk; exact h.file ino nn hn hk
  ·exact absurd (by show nt'.kind = 2; rw [t1]; exact hnt2) hk
  ·exact absurd hns2 hk
  ·exact h.file j m hm hk
 ·intro j m s t hm hs
  -- an entry of old
  have old : ∀ m1, A.get t = some m1 -> (m1.kind = 2 -> m1.up = j) -> (t = ino -> nn.kind = 2 -> False) -> ∃ m', M.get t = some m' /\ (m'.kind = 2 -> m'.up = j) := by
   intro m1 a3 a4 a5
   obtain ⟨m', b1, b2, b3, _⟩ := hx t m1 a3
   refine ⟨m', b1, fun hk => ?_⟩
   have hti : t ≠ ino := by
    intro e; subst e
    rw [hn] at a3; cases a3
    exact a5 rfl (by rw [<- b2]; exact hk)
   rw [b3 hti]; exact a4 (by rw [<- b2]; exact hk)
  rcases hcase j m hm with ⟨rfl, rfl⟩ | ⟨rfl, rfl⟩ | ⟨rfl, hjt, rfl⟩ | ⟨hji, hjt, hjs, hm⟩
  ·have e' : (if nn.kind == 2 then { nn with up := to } else nn).ents = nn.ents := hnk (fun m => m.ents = nn.ents) rfl rfl
   rw [e'] at hs
   obtain ⟨a1, a2, m1, a3, a4⟩ := h.ent j nn s t hn hs
   refine ⟨a1, a2, old m1 a3 a4 fun e hk => ?_⟩
   subst e
   rw [hn] at a3; cases a3
   have := no_loop h ⟨nn, hn, hk⟩ a2
   unfold AT.upOf at this; rw [hn] at this
   exact this (a4 hk)
  ·simp only [lk_up] at hs
   by_cases e : s = as_
   ·subst e
    simp at hs; subst hs
    refine ⟨hnm, hi1, _, by rw [hG, if_pos rfl], fun hk => ?_⟩
    have e : (if nn.kind == 2 then { nn with up := j } else nn).kind = nn.kind := hnk (fun m => m.kind = nn.kind) rfl rfl
    rw [e] at hk
    have : (nn.kind == 2) = true := by simpa using hk
    rw [this]; rfl
   ·have e' : (s == as_) = false := by simpa using e
    rw [e'] at hs
    obtain ⟨hs', hne⟩ := t8 s t hs
    obtain ⟨a1, a2, m1, a3, a4⟩ := h.ent j nt s t hnt hs'
    refine ⟨a1, a2, old m1 a3 a4 fun e hk => ?_⟩
    subst e
    rw [hn] at a3; cases a3
    have hjs : j = src := by rw [<- a4 hk, hup hk]
    have hntns : nt = ns := by subst hjs; rw [hns] at hnt; cases hnt; rfl
    subst hntns
    exact hne hjs (named_once h hns hn hk hi1 hs' hlk)
  ·simp only [lk_rm hnd] at hs
   by_cases e : (s == name) = true
   ·rw [if_pos e] at hs; cases hs
   ·rw [if_neg e] at hs
    obtain ⟨a1, a2, m1, a3, a4⟩ := h.ent j ns s t hns hs
    refine ⟨a1, a2, old m1 a3 a4 fun e' hk => ?_⟩
    subst e'
    exact e (by simpa using named_once h hns hn hk hi1 hs hlk)
  ·obtain ⟨a1, a2, m1, a3, a4⟩ := h.ent j m s t hm hs
   refine ⟨a1, a2, old m1 a3 a4 fun e hk => ?_⟩
   subst e
   rw [hn] at a3; cases a3
   exact hjs (by rw [<- a4 hk, hup hk])
 ·intro j m hm hj
  rw [hrefs]
  obtain ⟨m0, q, q2, _, _, q5⟩ := hback j m hm
  rw [q2, q5]; exact h.links j m0 q hj
 ·rintro k ⟨m, hm, hk⟩
  obtain ⟨m0, q, q2, _⟩ := hback k m hm
  have hkd : A.isDir k := ⟨m0, q, by rw [<- q2]; exact hk⟩
  by_cases hnk2 : nn.kind = 2
  case neg =>
   have hne : ∀ k, A.isDir k -> k ≠ ino := by
    rintro k ⟨m, hm, hk⟩ e; subst e; rw [hn] at hm; cases hm; exact hnk2 hk
   rw [deep_same h (fun k hk => hupO k (hne k hk) hk) 12 k hkd]; exact h.deep k hkd
  have hS : ∀ (f : Nat) (k : Int), (A.isDir k /\ ∀ r, ¬ Below A ino r k) -> M.deep f k = A.deep f k :=
   deep_on (S := fun k => A.isDir k /\ ∀ r, ¬ Below A ino r k) (fun k hk h1 => ⟨h.isDir_up hk.1, fun r hr => hk.2 (r + 1) ⟨fun e => hk.2 0 e, h1, hr⟩⟩) (fun k hk _ => hupO k (fun e => hk.2 0 e) hk.1)
  by_cases hbl : ∃ r, Below A ino r k
  case neg =>
   rw [hS 12 k ⟨hkd, fun r hr => hbl ⟨r, hr⟩⟩]; exact h.deep k hkd
  obtain ⟨r, hr⟩ := hbl
  obtain ⟨dt, hdt⟩ := h.deep to ⟨nt, hnt, hnt2⟩
  have hle := hdp hnk2 dt r k hdt hkd hr
  have hdb := deep_bound hdt
  have hD : A.deep dt.toNat to = some dt := deep_low hdt _ (by omega)
  have key : ∀ (r : Nat) (k : Int), A.isDir k -> Below A ino r k -> M.deep (dt.toNat + 1 + r) k = some (dt + 1 + r) := by
   intro r
   induction r with
   | zero =>
    intro k hkd hb
    have hb : k = ino := hb
    subst hb
    have hu' : M.upOf k = to := by
     unfold AT.upOf; rw [hG, if_pos rfl]
     have : (nn.kind == 2) = true := by simpa using hnk2
     rw [this]; rfl
    rw [Nat.add_zero, AT.deep, if_neg hi1, hu', hS _ to ⟨⟨nt, hnt, hnt2⟩, hnb hnk2⟩, hD]
    simp
   | succ r ih =>
    intro k hkd hb
    obtain ⟨b1, b2, b3⟩ := hb
    rw [show dt.toNat + 1 + (r + 1) = (dt.toNat + 1 + r) + 1 by omega, AT.deep, if_neg b2, hupO k b1 hkd, ih _ (h.isDir_up hkd) b3]
    simp; omega
  have := key r k hkd hr
  exact ⟨_, deep_low this 12 (by omega)⟩
 ·have q := hsum (fun _ => 1)
  rw [sumF_len, sumF_len] at q
  rw [hu.1, h.ui]; omega
 ·have q := hsum (fun n => n.data.size)
  have e : (if nn.kind == 2 then { nn with up := to } else nn).data = nn.data := hnk (fun m => m.data = nn.data) rfl rfl
  rw [hu.2.1, h.ub]; unfold AT.bytes; simp only [e] at q; omega
 ·rw [hu.1, hu.2.2.1]; exact h.uq
 ·rw [hu.2.1, hu.2.2.2.1]; exact h.bq
 ·rw [hu.2.2.2.2]; have := hb.last; omega
 ·intro j m hm
  obtain ⟨m0, q, _, _, _, q5⟩ := hback j m hm
  have := hb.links j m0 q
  omega
 ·intro j m hm
  rcases hcase j m hm with ⟨_, rfl⟩ | ⟨_, rfl⟩ | ⟨_, _, rfl⟩ | ⟨_, _, _, hm⟩
  ·have e' : (if nn.kind == 2 then { nn with up := to } else nn).ents = nn.ents := hnk (fun m => m.ents = nn.ents) rfl rfl
   rw [e']; have := hb.ents _ nn hn; omega
  ·have := hb.ents _ nt hnt
   simp only
   rw [enc_up_new nt'.ents as_ _ t7]; simp; omega
  ·have := hb.ents _ ns hns
   have := (rm_sub (k := name) (l := ns.ents)).length_le
   simp only; omega
  ·have := hb.ents j m hm; omega
end Go.Wk

namespace Go.Wk
open Go Go.HL
end Go.Wk
namespace Go.Wk
open Go Go.HL
end Go.Wk

namespace Go.Wk
open Go Go.HL
variable {A : AT}
theorem below_deep {ino : Int} : ∀ {r f : Nat} {k d : Int}, Below A ino r k -> A.deep f k = some d -> (r : Int) < d := by
 intro r
 induction r with
 | zero => intro f k d _ hd; have := deep_bound hd; omega
 | succ r ih =>
  intro f k d hb hd
  obtain ⟨h1, h2, h3⟩ := hb
  cases f with
  | zero => cases hd
  | succ f =>
   unfold AT.deep at hd
   rw [if_neg h2] at hd
   cases he : A.deep f (A.upOf k) with
   | none => rw [he] at hd; cases hd
   | some x =>
    rw [he] at hd
    simp only [Option.map_some, Option.some.injEq] at hd
    have := ih h3 he
    omega
theorem moveE1_z {src to : Int} {name as_ : ByteArray} (he : A.moveE1 src name to as_ = 0) : A.isDir src /\ A.isDir to /\ namedE as_ = 0 /\ ∃ j, A.find src name = some j := by
 unfold AT.moveE1 at he
 obtain ⟨_, he⟩ := AT.firstE_z he
 obtain ⟨h1, he⟩ := AT.firstE_z he
 obtain ⟨h2, he⟩ := AT.firstE_z he
 obtain ⟨h3, he⟩ := AT.firstE_z he
 obtain ⟨h4, _⟩ := AT.firstE_z he
 refine ⟨AT.dirE_z h1, AT.dirE_z h2, h3, ?_⟩
 cases hf : A.find src name with
 | none => rw [hf] at h4; simp at h4
 | some j => exact ⟨j, rfl⟩
theorem moveR_cases (h : Inv A) {src to : Int} {name as_ : ByteArray} {f : Nat} : (A.moveR src name to as_ f).2 = A \/ ((A.moveR src name to as_ f) = (0, A.moved src name to as_) /\ A.isDir src /\ A.isDir to /\ namedE as_ = 0 /\ A.find to as_ = none /\ ∃ ino, A.find src name = some ino /\ ∀ r, ¬ Below A ino r to) := by
 unfold AT.moveR
 by_cases c1 : A.moveE1 src name to as_ ≠ 0 \/ (src = to /\ name = as_)
 ·rw [if_pos c1]; exact .inl rfl
 rw [if_neg c1]
 simp only
 by_cases c2 : firstE [if (A.find to as_).isSome then 6 else 0, if (A.apart ((A.find src name).getD 0) f to).getD false then 0 else 2] ≠ 0
 ·rw [if_pos c2]; exact .inl rfl
 rw [if_neg c2]
 refine .inr ⟨rfl, ?_⟩
 obtain ⟨h1, h2, h3, ino, h4⟩ := moveE1_z (A := A) (src := src) (to := to) (name := name) (as_ := as_) (by
  apply Classical.byContradiction
  intro hc; exact c1 (.inl hc))
 obtain ⟨q1, q2⟩ := AT.firstE_z (show firstE _ = 0 by simpa using c2)
 obtain ⟨q2, _⟩ := AT.firstE_z q2
 obtain ⟨_, _, _, _, hi1, _⟩ := h.find h4
 refine ⟨h1, h2, h3, ?_, ino, h4, ?_⟩
 ·cases hf : A.find to as_ with
  | none => rfl
  | some j => rw [hf] at q1; simp at q1
 ·have hino : (A.find src name).getD 0 = ino := by rw [h4]; rfl
  simp only [hino] at q2
  by_cases hb : (A.apart ino f to).getD false = true
  ·cases ha : A.apart ino f to with
   | none => rw [ha] at hb; cases hb
   | some b =>
    rw [ha] at hb
    have hb : b = true := hb
    subst hb
    exact apart_not h hi1 h2 ha
  ·rw [if_neg hb] at q2; cases q2
theorem moveR_inv {N : Nat} (h : Inv A) (hb : Bd N A) {src to : Int} {name as_ : ByteArray} {f : Nat} (hdp : ∀ ino nn, A.find src name = some ino -> A.get ino = some nn -> nn.kind = 2 -> ∀ dt r k, A.deep 12 to = some dt -> A.isDir k -> Below A ino r k -> dt + 1 + (r : Int) <= 12) :
 Inv (A.moveR src name to as_ f).2 /\ Bd (N + 1) (A.moveR src name to as_ f).2 /\ (A.moveR src name to as_ f).2.qi = A.qi /\ (A.moveR src name to as_ f).2.qb = A.qb := by
 rcases moveR_cases h (src := src) (to := to) (name := name) (as_ := as_) (f := f) with e | ⟨e, h1, h2, h3, h4, ino, h5, h6⟩
 ·rw [e]; exact ⟨h, hb.mono (by omega), rfl, rfl⟩
 ·rw [e]
  obtain ⟨_, _, _, _, _, nn, hnn, _⟩ := h.find h5
  obtain ⟨a, b, _, _, _, _, _, c⟩ := moved_ok h hb h1 h2 h3 h5 h4 hnn (fun _ => h6) (fun hk => hdp ino nn h5 hnn hk)
  exact ⟨a, b, c.qi, c.qb⟩
theorem unlinkR_back (h : Inv A) {dir : Int} {name : ByteArray} : ∀ j m, (A.unlinkR dir name).2.get j = some m -> ∃ m0, A.get j = some m0 /\ m.kind = m0.kind /\ m.up = m0.up /\ ∀ s t, lk s m.ents = some t -> lk s m0.ents = some t := by
 intro j m hm
 unfold AT.unlinkR at hm
 by_cases he : A.unlinkE dir name = 0
 case neg => rw [if_neg he] at hm; exact ⟨m, hm, rfl, rfl, fun _ _ h => h⟩
 rw [if_pos he] at hm
 have ent_b : ∀ j m, (A.ent dir (rm name)).get j = some m -> ∃ m0, A.get j = some m0 /\ m.kind = m0.kind /\ m.up = m0.up /\ ∀ s t, lk s m.ents = some t -> lk s m0.ents = some t := by
  intro j m hm
  unfold AT.ent at hm
  cases hd : A.get dir with
  | none => rw [hd] at hm; exact ⟨m, hm, rfl, rfl, fun _ _ h => h⟩
  | some nd =>
   rw [hd] at hm
   simp only at hm
   rw [AT.get_set] at hm
   by_cases e : j = dir
   ·rw [if_pos e] at hm; cases hm; subst e
    refine ⟨nd, hd, rfl, rfl, fun s t hs => ?_⟩
    simp only [lk_rm (h.enod j nd hd)] at hs
    by_cases e : (s == name) = true
    ·rw [if_pos e] at hs; cases hs
    ·rw [if_neg e] at hs; exact hs
   ·rw [if_neg e] at hm; exact ⟨m, hm, rfl, rfl, fun _ _ h => h⟩
 have nd1 : (keysL (A.ent dir (rm name)).nodes).Nodup := by
  unfold AT.ent
  cases A.get dir with
  | none => exact h.nodup
  | some nd => exact nodup_up h.nodup
 generalize hX : A.ent dir (rm name) = X at *
 have mod_b : ∀ i j m, (X.mod i fun n => { n with links := wr (n.links - 1) }).get j = some m -> ∃ m0, X.get j = some m0 /\ m.kind = m0.kind /\ m.up = m0.up /\ m.ents = m0.ents := by
  intro i j m hm
  unfold AT.mod at hm
  cases hd : X.get i with
  | none => rw [hd] at hm; exact ⟨m, hm, rfl, rfl, rfl⟩
  | some nd =>
   rw [hd] at hm
   simp only at hm
   rw [AT.get_set] at hm
   by_cases e : j = i
   ·rw [if_pos e] at hm; cases hm; subst e; exact ⟨nd, hd, rfl, rfl, rfl⟩
   ·rw [if_neg e] at hm; exact ⟨m, hm, rfl, rfl, rfl⟩
 have nd2 : ∀ i, (keysL (X.mod i fun n => { n with links := wr (n.links - 1) }).nodes).Nodup := by
  intro i
  unfold AT.mod
  cases X.get i with
  | none => exact nd1
  | some nd => exact nodup_up nd1
 have fin : ∀ i, (X.mod i fun n => { n with links := wr (n.links - 1) }).get j = some m -> ∃ m0, A.get j = some m0 /\ m.kind = m0.kind /\ m.up = m0.up /\ ∀ s t, lk s m.ents = some t -> lk s m0.ents = some t := by
  intro i hm
  obtain ⟨m1, a1, a2, a3, a4⟩ := mod_b i j m hm
  obtain ⟨m0, b1, b2, b3, b4⟩ := ent_b j m1 a1
  exact ⟨m0, b1, by rw [a2, b2], by rw [a3, b3], fun s t hs => b4 s t (by rw [<- a4]; exact hs)⟩
 unfold AT.unlinked at hm
 simp only [hX] at hm
 generalize (A.find dir name).getD 0 = i at hm
 cases hg : (X.mod i fun n => { n with links := wr (n.links - 1) }).get i with
 | none => rw [hg] at hm; exact fin i hm
 | some n =>
  rw [hg] at hm
  simp only at hm
  cases hz : (n.links == 0) with
  | false => rw [hz] at hm; exact fin i hm
  | true =>
   rw [hz] at hm
   have hm : lk j (rm i (X.mod i fun n => { n with links := wr (n.links - 1) }).nodes) = some m := hm
   rw [lk_rm (nd2 i)] at hm
   by_cases e : (j == i) = true
   ·rw [if_pos e] at hm; cases hm
   ·rw [if_neg e] at hm; exact fin i hm
theorem below_same {A' : AT} (h : Inv A') (hu : ∀ k, A'.isDir k -> A.upOf k = A'.upOf k) {ino : Int} : ∀ {r : Nat} {k : Int}, A'.isDir k -> Below A' ino r k -> Below A ino r k := by
 intro r
 induction r with
 | zero => intro k _ hb; exact hb
 | succ r ih =>
  intro k hk hb
  obtain ⟨h1, h2, h3⟩ := hb
  refine ⟨h1, h2, ?_⟩
  rw [hu k hk]
  exact ih (h.isDir_up hk) h3
theorem over_room (h : Inv A) {p q : Pl} (hq : A.isDir q.dir) (ho : A.overE p q = 0) : ∀ dt r k, A.deep 12 q.dir = some dt -> A.isDir p.ino -> A.isDir k -> Below A p.ino r k -> dt + 1 + (r : Int) <= 12 := by
 intro dt r k hdt hp hk hb
 obtain ⟨x, hx13, hx12, _⟩ := h.deep13 hq
 rw [hdt] at hx12; cases hx12
 obtain ⟨d, hd⟩ := h.deep k hk
 have hr := below_deep hb hd
 have hdb := deep_bound hd
 have hl := levels_below h r 14 p.ino k hk hp hb (by omega)
 have key : ∀ (e : Int) (c c' : Prop) [Decidable c] [Decidable c'], (if e ≠ 0 then e else if c then 2 else if c' then 3 else 0) = (0 : Int) -> ¬ c' := by
  intro e c c' _ _ h hc
  by_cases he : e ≠ 0
  ·rw [if_pos he] at h; exact he h
  ·rw [if_neg he] at h
   by_cases h2 : c
   ·rw [if_pos h2] at h; cases h
   ·rw [if_neg h2, if_pos hc] at h; cases h
 have hn := key _ _ _ ho
 rw [hx13] at hn
 simp only [Option.getD_some] at hn
 omega
structure OpInv (N : Nat) (A : AT) (r : Int × AT) : Prop where
 inv : Inv r.2
 bd : Bd N r.2
 qi : r.2.qi = A.qi
 qb : r.2.qb = A.qb
theorem OpOk.toInv {N : Nat} {r : Int × AT} (h : OpOk N A r) : OpInv N A r := ⟨h.inv, h.bd, h.qi, h.qb⟩
theorem both_z {cwd src to : ByteArray} (h : (A.both cwd src to).1 = 0) : (A.locate cwd src false).1 = 0 /\ (A.locate cwd to false).1 = 0 /\ (A.both cwd src to).2.1 = (A.locate cwd src false).2 /\ (A.both cwd src to).2.2 = (A.locate cwd to false).2 := by
 unfold AT.both at h ⊢
 simp only at h ⊢
 by_cases he : (A.locate cwd src false).1 = 0
 case neg => rw [if_pos he] at h; exact absurd h he
 rw [if_neg (by simpa using he)] at h ⊢
 exact ⟨he, h, rfl, rfl⟩
theorem renameF_inv {N : Nat} (h : Inv A) (hb : Bd N A) (hN : N < 4611686018427387904) (cwd src to : ByteArray) : OpInv (N + 1) A (A.renameF cwd src to) := by
 have self : ∀ e : Int, OpInv (N + 1) A (e, A) := fun e => ⟨h, hb.mono (by omega), rfl, rfl⟩
 unfold AT.renameF
 simp only
 by_cases c1 : (A.both cwd src to).1 ≠ 0
 ·rw [if_pos c1]; exact self _
 rw [if_neg c1]
 obtain ⟨l1, l2, e1, e2⟩ := both_z (A := A) (cwd := cwd) (src := src) (to := to) (by simpa using c1)
 have P := locate_place h cwd src false l1
 have Q := locate_place h cwd to false l2
 rw [e1, e2]
 generalize (A.locate cwd src false).2 = p at *
 generalize (A.locate cwd to false).2 = q at *
 by_cases c2 : sEq p.name ⟨⟨[]⟩⟩ = true \/ sEq q.name ⟨⟨[]⟩⟩ = true
 ·rw [if_pos c2]; exact self _
 rw [if_neg c2]
 by_cases c3 : p.there = false
 ·rw [if_pos c3]; exact self _
 rw [if_neg c3]
 by_cases c4 : q.there = true /\ p.ino = q.ino
 ·rw [if_pos c4]; exact self _
 rw [if_neg c4]
 by_cases c5 : A.overE p q ≠ 0
 ·rw [if_pos c5]; exact self _
 rw [if_neg c5]
 have c5 : A.overE p q = 0 := by simpa using c5
 have hpn : p.name ≠ ⟨⟨[]⟩⟩ := fun e => c2 (.inl (by rw [e]; rfl))
 have hpt : p.there = true := by simpa using c3
 obtain ⟨_, hpf⟩ := P.named hpn
 rw [hpt] at hpf
 simp only [if_true] at hpf
 have room := over_room h Q.1 c5
 by_cases c6 : q.there = true
 case neg =>
  rw [if_neg c6]
  obtain ⟨a, b, c, d⟩ := moveR_inv h hb (src := p.dir) (to := q.dir) (name := p.name) (as_ := q.name) (f := 14) (fun ino nn hf hg hk dt r k h1 h2 h3 => by
   rw [hpf] at hf; cases hf
   exact room dt r k h1 ⟨nn, hg, hk⟩ h2 h3)
  exact ⟨a, b, c, d⟩
 rw [if_pos c6]
 obtain ⟨u1, u2, u3, u4, u5⟩ := unlinkR_ok h hb hN q.dir q.name
 by_cases c7 : (A.unlinkR q.dir q.name).1 ≠ 0
 ·rw [if_pos c7]; rw [show A.unlinkR q.dir q.name = ((A.unlinkR q.dir q.name).1, (A.unlinkR q.dir q.name).2) from rfl, u3 c7]; exact self _
 rw [if_neg c7]
 have back := unlinkR_back h (dir := q.dir) (name := q.name)
 generalize (A.unlinkR q.dir q.name).2 = U at *
 have hu : ∀ k, U.isDir k -> A.upOf k = U.upOf k := by
  rintro k ⟨m, hm, _⟩
  obtain ⟨m0, b1, _, b3, _⟩ := back k m hm
  unfold AT.upOf; rw [hm, b1]; simp [b3]
 have hdir : ∀ k, U.isDir k -> A.isDir k := by
  rintro k ⟨m, hm, hk⟩
  obtain ⟨m0, b1, b2, _⟩ := back k m hm
  exact ⟨m0, b1, by rw [<- b2]; exact hk⟩
 obtain ⟨a, b, c, d⟩ := moveR_inv u1 u2 (src := p.dir) (to := q.dir) (name := p.name) (as_ := q.name) (f := 14) (fun ino nn hf hg hk dt r k h1 h2 h3 => by
  have hfa : ino = p.ino := by
   unfold AT.find at hf
   cases hn : U.get p.dir with
   | none => rw [hn] at hf; cases hf
   | some m =>
    rw [hn] at hf
    obtain ⟨m0, b1, _, _, b4⟩ := back p.dir m hn
    have := b4 _ _ hf
    unfold AT.find at hpf
    rw [b1] at hpf
    have hpf : lk p.name m0.ents = some p.ino := hpf
    rw [this] at hpf; cases hpf; rfl
  subst hfa
  have hqd : U.isDir q.dir := by
   -- going up needs a directory: else nothing lies there
   apply Classical.byContradiction
   intro hc
   have hm : (U.moveR p.dir p.name q.dir q.name 14) = (U.moveR p.dir p.name q.dir q.name 14) := rfl
   cases hg : U.get q.dir with
   | none =>
    have : U.upOf q.dir = 0 := by unfold AT.upOf; rw [hg]; rfl
    have h0 : U.get 0 = none := by
     cases h0 : U.get 0 with
     | none => rfl
     | some n => have := u1.low 0 n h0; omega
    have hz : U.upOf 0 = 0 := by unfold AT.upOf; rw [h0]; rfl
    have hz2 : ∀ f, U.deep f 0 = none := by
     intro f
     induction f with
     | zero => rfl
     | succ f ih => unfold AT.deep; rw [if_neg (by omega), hz, ih]; rfl
    have h11 : q.dir ≠ 1 := by
     intro e; rw [e] at hc; exact hc u1.root_dir
    rw [AT.deep, if_neg h11, this, hz2] at h1; cases h1
   | some n =>
    obtain ⟨m0, b1, b2, _⟩ := back q.dir n hg
    obtain ⟨m1, d1, d2⟩ := Q.1
    rw [d1] at b1; cases b1
    exact hc ⟨n, hg, by rw [b2]; exact d2⟩
  have hdt : A.deep 12 q.dir = some dt := by
   rw [deep_same u1 hu 12 q.dir hqd]; exact h1
  exact room dt r k hdt (hdir _ ⟨nn, hg, hk⟩) (hdir _ h2) (below_same u1 hu h2 h3))
 exact ⟨a, b, by rw [c, u4], by rw [d, u5]⟩
end Go.Wk

namespace Go.Wk
open Go Go.HL
variable {A : AT}
theorem names_mem' (h : Inv A) {d : Int} {s : ByteArray} (hm : s ∈ A.names d) : ∃ j, A.find d s = some j := by
 unfold AT.names at hm
 cases hn : A.get d with
 | none => rw [hn] at hm; simp at hm
 | some n =>
  rw [hn] at hm
  simp only [sortN, List.mem_map] at hm
  obtain ⟨l, hl, rfl⟩ := hm
  have := (sortB_perm _).mem_iff.1 hl
  obtain ⟨k, hk, rfl⟩ := List.mem_map.1 this
  show ∃ j, A.find d k = some j
  unfold AT.find; rw [hn]
  cases hlk : lk k n.ents with
  | some j => exact ⟨j, hlk⟩
  | none => exact absurd hk (lk_none_iff.1 hlk)
end Go.Wk

namespace Go.Wk
open Go Go.HL
def six : List ByteArray := [⟨⟨[97]⟩⟩, ⟨⟨[98]⟩⟩, ⟨⟨[99]⟩⟩, ⟨⟨[66]⟩⟩, ⟨⟨[97, 46, 98]⟩⟩, ⟨⟨[122]⟩⟩]
def pN : ByteArray := ⟨⟨[112]⟩⟩
def qN : ByteArray := ⟨⟨[113]⟩⟩
def rN : ByteArray := ⟨⟨[114]⟩⟩
def fl (data k : ByteArray) : AN := ⟨1, 420, data ++ k, 1, 0, []⟩
def drN (es : List (ByteArray × Int)) : AN := ⟨2, 493, ⟨⟨[]⟩⟩, 1, 1, es⟩
def DD (d : Int) : Prop := d = 2 \/ d = 3 \/ d = 4
structure Ords (data : ByteArray) (A : AT) (E : Int -> List (ByteArray × Int)) (m : Nat) : Prop where
 inv : Inv A
 bd : Bd (10 + m) A
 rt : A.get 1 = some ⟨2, 493, ⟨⟨[]⟩⟩, 1, 1, [(pN, 2), (qN, 3), (rN, 4)]⟩
 nd : ∀ d, DD d -> A.get d = some (drN (E d))
 he : ∀ d, DD d -> ∀ k i, lk k (E d) = some i -> k ∈ six /\ 4 < i /\ A.get i = some (fl data k)
 dj : ∀ d d' k k' i, DD d -> DD d' -> lk k (E d) = some i -> lk k' (E d') = some i -> d = d'
 qi : A.qi = 100
 qb : A.qb = 9000
 ui : A.ui <= 4 + m
 ub : A.ub <= 63 * m
variable {A : AT} {data : ByteArray} {E : Int -> List (ByteArray × Int)} {m : Nat}
theorem Ords.find (h : Ords data A E m) {d : Int} (hd : DD d) (k : ByteArray) : A.find d k = lk k (E d) := by
 unfold AT.find; rw [h.nd d hd]; rfl
theorem Ords.same (h : Ords data A E m) {A' : AT} {m' : Nat} (hi : Inv A') (hb : Bd (10 + m') A') (hg : ∀ j, A'.get j = A.get j) (q1 : A'.qi = A.qi) (q2 : A'.qb = A.qb) (u1 : A'.ui <= 4 + m') (u2 : A'.ub <= 63 * m') : Ords data A' E m' :=
 ⟨hi, hb, by rw [hg]; exact h.rt, fun d hd => by rw [hg]; exact h.nd d hd, fun d hd k i hk => by rw [hg]; exact h.he d hd k i hk, h.dj, by rw [q1]; exact h.qi, by rw [q2]; exact h.qb, u1, u2⟩
end Go.Wk

namespace Go.Wk
open Go Go.HL
theorem sortN_perm (l : List ByteArray) : (sortN l).Perm l := by
 unfold sortN
 have h := (sortB_perm (l.map fun s => s.data.toList)).map fun x => (⟨⟨x⟩⟩ : ByteArray)
 have e : ((l.map fun s => s.data.toList).map fun x => (⟨⟨x⟩⟩ : ByteArray)) = l := by
  rw [List.map_map]
  conv => rhs; rw [<- List.map_id l]
  apply List.map_congr_left
  intro s _
  rfl
 rw [e] at h
 exact h
variable {A : AT} {data : ByteArray} {E : Int -> List (ByteArray × Int)} {m : Nat}
def o0 : AT := newT 100 9000
def o1 : AT := (o0.mkdirF ⟨⟨[47]⟩⟩ pN).2
def o2 : AT := (o1.mkdirF ⟨⟨[47]⟩⟩ qN).2
def o3 : AT := (o2.mkdirF ⟨⟨[47]⟩⟩ rN).2
end Go.Wk

set_option maxRecDepth 100000
namespace Go.Proofs.YtbjbeajbckcecaaGreatDoor
open Go Go.HL Go.Wk
attribute [local irreducible] ptrW ifW brW andW rdT alW letJ stW muW biW vaW imW callT cvalT app callW invW callVW sizeT oW nilF oneK loopW rfW funW begW roundK exW idxW Gr Put
def eRow (es : List (ByteArray × Int)) : List (List Value) := (sortN (keysL es)).map fun k => [.string k, .int .i64 ((lk k es).getD 0 - 1)]
def ptrRow (A : AT) (cb : Int -> Nat) : List (List Value) := (List.range A.last.toNat).map fun (i : Nat) => [.pointer (if (A.get ((i : Int) + 1)).isSome then some ⟨cb ((i : Int) + 1), 0, none⟩ else none)]
def upR (n : AN) : Int := if n.kind = 2 then n.up - 1 else 0
def nodeO (n : AN) (y : Sl) : Obj := .cells ⟨[.int .i64 n.kind, .int .i64 n.mode, .string n.data, .slice y.base y.len y.cap, .int .i64 (upR n)]⟩ 131 (0, 0)
structure RfM where
 x : Sl
 cb : Int -> Nat
 ey : Int -> Sl
 w : Nat -> Option (Int × Bool)
structure RfIn (σ : H) (b : Nat) (A : AT) (M : RfM) : Prop where
 top : σ b = some (.cells ⟨[.int .i64 A.qi, .int .i64 A.qb, .slice M.x.base M.x.len M.x.cap]⟩ 134 (0, 0))
 tab : RowsOwn σ 128 1 (ptrRow A M.cb) M.x
 nod : ∀ i n, A.get i = some n -> σ (M.cb i) = some (nodeO n (M.ey i))
 ent : ∀ i n, A.get i = some n -> RowsOwn σ 245 2 (eRow n.ents) (M.ey i)
 wb : M.w b = some (0, false)
 wt : ∀ g, M.x.base = some ⟨g, 0, none⟩ -> M.w g = some (0, true)
 wn : ∀ i n, A.get i = some n -> M.w (M.cb i) = some (i, false)
 we : ∀ i n g, A.get i = some n -> (M.ey i).base = some ⟨g, 0, none⟩ -> M.w g = some (i, true)
 has : ∀ c, M.w c ≠ none -> σ c ≠ none
def RfAt (σ : H) (b : Nat) (A : AT) (D : Nat -> Prop) : Prop := ∃ M, RfIn σ b A M /\ ∀ c, D c ↔ M.w c ≠ none
theorem RfIn.gr {σ σ' : H} {b : Nat} {A : AT} {M : RfM} (h : RfIn σ b A M) (hg : Gr σ σ') : RfIn σ' b A M :=
 ⟨hg.get h.top, h.tab.gr hg, fun i n hn => hg.get (h.nod i n hn), fun i n hn => (h.ent i n hn).gr hg, h.wb, h.wt, h.wn, h.we, fun c hc => by
  have := h.has c hc
  cases ho : σ c with
  | none => exact absurd ho this
  | some o => rw [hg.get ho]; simp⟩
theorem RfAt.gr {σ σ' : H} {b : Nat} {A : AT} {D : Nat -> Prop} (h : RfAt σ b A D) (hg : Gr σ σ') : RfAt σ' b A D := by
 obtain ⟨M, h1, h2⟩ := h
 exact ⟨M, h1.gr hg, h2⟩
section
variable {σ : H} {b : Nat} {A : AT} {M : RfM}
theorem RfIn.len (h : RfIn σ b A M) : M.x.len = A.last.toNat := by
 have := h.tab.1
 simpa [ptrRow] using this
theorem RfIn.slot (h : RfIn σ b A M) (hI : Inv A) {d : Int} {n : AN} (hn : A.get (d + 1) = some n) : ∃ g o, M.x.base = some ⟨g, o, none⟩ /\ (0 <= d /\ d < ((M.x.len : Nat) : Int)) /\ rdC g (o + d.toNat * 1) σ = some (.pointer (some ⟨M.cb (d + 1), 0, none⟩)) := by
 obtain ⟨l1, l2⟩ := hI.low _ _ hn
 have hl := h.len
 have hr : (ptrRow A M.cb)[d.toNat]? = some [.pointer (some ⟨M.cb (d + 1), 0, none⟩)] := by
  unfold ptrRow
  rw [List.getElem?_map, List.getElem?_range (by omega)]
  have : ((d.toNat : Nat) : Int) = d := by omega
  simp [this, hn]
 obtain ⟨g, o, h2, h3⟩ := RowsAt.rd h.tab.rows hr (by decide)
 refine ⟨g, o, h2, by omega, ?_⟩
 obtain ⟨h1, h4 | ⟨g', o', cur, t, fz, q2, q3, q4⟩⟩ := h.tab.rows
 ·rw [h4] at hr; simp at hr
 ·rw [h2] at q2
  injection q2 with q2
  injection q2 with e1 e2
  subst e1; subst e2
  refine rdC_of q3 ?_
  obtain ⟨_, h5⟩ := q4 _ _ hr
  have : ((cur.drop (o + d.toNat * 1)).take 1)[0]? = some (.pointer (some ⟨M.cb (d + 1), 0, none⟩)) := by rw [h5]; rfl
  rw [List.getElem?_take] at this
  simpa using this
theorem rf_p (h : RfIn σ b A M) (hI : Inv A) {d : Int} {n : AN} (hn : A.get (d + 1) = some n) {F : Option Addr -> H -> Prop} (hF : F (some ⟨M.cb (d + 1), 0, none⟩) σ) :
 ptrW (some ⟨b, 0, none⟩) (fun (b4 o5 : Nat) => rdT (rdC b4 (o5 + 2)) kL (fun (x6 : Sl) => ptrW x6.base (fun (b7 o8 : Nat) => ifW (0 <= d /\ d < ((x6.len : Nat) : Int)) (rdT (rdC b7 (o8 + d.toNat * 1)) kP F)))) σ := by
 obtain ⟨g, o, h1, h2, h3⟩ := h.slot hI hn
 refine ptr_i (rd_L (rdC_of h.top (by rfl)) ?_)
 rw [h1]
 exact ptr_i (if_i h2 (rd_P h3 hF))
theorem rf_at (h : RfIn σ b A M) (hI : Inv A) {d : Int} {n : AN} (hn : A.get (d + 1) = some n) {F : Nat -> Nat -> H -> Prop} (hF : F (M.cb (d + 1)) 0 σ) :
 ptrW (some ⟨b, 0, none⟩) (fun (b4 o5 : Nat) => rdT (rdC b4 (o5 + 2)) kL (fun (x6 : Sl) => ptrW x6.base (fun (b7 o8 : Nat) => ifW (0 <= d /\ d < ((x6.len : Nat) : Int)) (rdT (rdC b7 (o8 + d.toNat * 1)) kP (fun x9 => ptrW x9 F))))) σ :=
 rf_p h hI hn (ptr_i hF)
def less1 (o : Option Int) : Int := (o.map (· - 1)).getD (-1)
theorem erow_at {es : List (ByteArray × Int)} {y : Sl} (h : RowsOwn σ 245 2 (eRow es) y) {i : Nat} {k : ByteArray} (hk : (sortN (keysL es))[i]? = some k) : ∃ g o, y.base = some ⟨g, o, none⟩ /\ rdC g (o + i * 2) σ = some (.string k) /\ rdC g (o + i * 2 + 1) σ = some (.int .i64 ((lk k es).getD 0 - 1)) /\ rdA 2 g (o + i * 2) σ = some (.agg ⟨[.string k, .int .i64 ((lk k es).getD 0 - 1)]⟩) := by
 have hr : (eRow es)[i]? = some [.string k, .int .i64 ((lk k es).getD 0 - 1)] := by unfold eRow; rw [List.getElem?_map, hk]; rfl
 obtain ⟨g, o, h2, h3⟩ := RowsAt.rd h.rows hr (by decide)
 refine ⟨g, o, h2, ?_, ?_, h3⟩
 all_goals
  obtain ⟨h1, h4 | ⟨g', o', cur, t, fz, q2, q3, q4⟩⟩ := h.rows
  ·rw [h4] at hr; simp at hr
  ·rw [h2] at q2
   injection q2 with q2
   injection q2 with e1 e2
   subst e1; subst e2
   refine rdC_of q3 ?_
   obtain ⟨_, h5⟩ := q4 _ _ hr
   first
    | (have : ((cur.drop (o + i * 2)).take 2)[0]? = some (.string k) := by rw [h5]; rfl
       rw [List.getElem?_take] at this
       simpa using this)
    | (have : ((cur.drop (o + i * 2)).take 2)[1]? = some (.int .i64 ((lk k es).getD 0 - 1)) := by rw [h5]; rfl
       rw [List.getElem?_take] at this
       simpa [Nat.add_assoc] using this)
theorem s_rfFind (h : RfIn σ b A M) (hI : Inv A) {N : Nat} (hB : Bd N A) (hN : N <= 1000000000000) {d : Int} {n : AN} (hn : A.get (d + 1) = some n) (name : ByteArray) {K : KH} (hK : K (.int .i64 (less1 (A.find (d + 1) name))) σ) :
 callW Tryz.prog 250 [.pointer (some ⟨b, 0, none⟩), .int .i64 d, .string name] K σ := by
 refine c250 _ _ _ ?_
 unfold g250
 have hf : A.find (d + 1) name = lk name n.ents := by unfold AT.find; rw [hn]; rfl
 rw [hf] at hK
 refine rf_at h hI hn (rd_L (rdC_of (h.nod _ _ hn) (by rfl)) (loop_i ?_))
 intro R hR
 have he := h.ent _ _ hn
 have hlen : (M.ey (d + 1)).len = (sortN (keysL n.ents)).length := by have := he.1; simpa [eRow] using this
 have hle : (sortN (keysL n.ents)).length <= N := by
  rw [(sortN_perm _).length_eq]
  have := hB.ents _ _ hn
  simpa [keysL] using this
 have key : ∀ (c i : Nat), c + i = (sortN (keysL n.ents)).length -> name ∉ (sortN (keysL n.ents)).take i -> R name (M.ey (d + 1)) (i : Int) σ := by
  intro c
  induction c with
  | zero =>
   intro i hc hno
   refine hR _ _ _ _ ?_
   refine br_f (by simp only [decide_eq_false_iff_not]; omega) ?_
   have : lk name n.ents = none := by
    rw [lk_none_iff]
    intro hm
    apply hno
    rw [show i = (sortN (keysL n.ents)).length from by omega, List.take_length]
    exact (sortN_perm _).mem_iff.2 hm
   rw [this] at hK
   exact hK
  | succ c ih =>
   intro i hc hno
   refine hR _ _ _ _ ?_
   refine br_t (by simp only [decide_eq_true_eq]; omega) ?_
   obtain ⟨k, hk⟩ : ∃ k, (sortN (keysL n.ents))[i]? = some k := ⟨_, List.getElem?_eq_getElem (by omega)⟩
   obtain ⟨g, o, q1, q2, q3, _⟩ := erow_at he hk
   rw [q1]
   have e0 : (i : Int).toNat = i := by omega
   refine ptr_i (if_i ⟨by omega, by omega⟩ (rd_S (by rw [e0]; exact q2) ?_))
   by_cases hkn : k = name
   ·subst hkn
    refine br_t (strEq_iff.2 rfl) (ptr_i (if_i ⟨by omega, by omega⟩ (rd_I (by rw [e0]; exact q3) ?_)))
    have hm : k ∈ keysL n.ents := (sortN_perm _).mem_iff.1 (List.mem_of_getElem? hk)
    cases hl : lk k n.ents with
    | none => exact absurd hm (lk_none_iff.1 hl)
    | some v => rw [hl] at hK; exact hK
   ·refine br_f (by rw [Bool.eq_false_iff]; intro e; exact hkn (strEq_iff.1 e)) ?_
    rw [wrap_id (x := (i : Int) + 1) (by omega) (by omega)]
    refine ih (i + 1) (by omega) ?_
    rw [List.take_add_one, hk]
    simp only [Option.toList_some, List.mem_append, List.mem_singleton, not_or]
    exact ⟨hno, fun e => hkn e.symm⟩
 exact key _ 0 (by omega) (by simp)
theorem s_rfDeep (h : RfIn σ b A M) (hI : Inv A) {d : Int} (hd : A.isDir (d + 1)) {x : Int} (hx : A.deep 13 (d + 1) = some x) {K : KH} (hK : K (.int .i64 x) σ) : callW Tryz.prog 127 [.pointer (some ⟨b, 0, none⟩), .int .i64 d] K σ := by
 refine c127 _ _ ?_
 unfold g127
 refine loop_i ?_
 intro R hR
 have key : ∀ (f : Nat) (d c y : Int), f <= 13 -> A.isDir (d + 1) -> A.deep f (d + 1) = some y -> c + y - 1 = x -> 0 <= c -> c + f <= 14 -> R (some ⟨b, 0, none⟩) d c σ := by
  intro f
  induction f with
  | zero => intro d c y _ _ h; simp [AT.deep] at h
  | succ f ih =>
   intro d c y hf hd hy hc h0 h1
   refine hR _ _ _ _ ?_
   rw [AT.deep] at hy
   by_cases e : d = 0
   ·subst e
    rw [if_pos (show (0 : Int) + 1 = 1 from rfl)] at hy
    have : y = 1 := (Option.some.inj hy).symm
    refine br_f rfl ?_
    rw [show c = x from by omega]
    exact hK
   ·rw [if_neg (by omega)] at hy
    obtain ⟨n, hn, hk⟩ := hd
    have hu : A.upOf (d + 1) = n.up := by unfold AT.upOf; rw [hn]; rfl
    have hdu := hI.isDir_up ⟨n, hn, hk⟩
    rw [hu] at hy hdu
    cases hy' : A.deep f n.up with
    | none => rw [hy'] at hy; cases hy
    | some y' =>
     rw [hy'] at hy
     have hy2 : y = y' + 1 := (Option.some.inj hy).symm
     refine br_t (by simpa using e) (rf_at h hI hn (rd_I (rdC_of (h.nod _ _ hn) (by rfl)) ?_))
     rw [wrap_id (x := c + 1) (by omega) (by omega)]
     have hup : upR n = n.up - 1 := by unfold upR; rw [if_pos hk]
     rw [hup]
     exact ih (n.up - 1) (c + 1) y' (by omega) (by rw [show n.up - 1 + 1 = n.up from by omega]; exact hdu) (by rw [show n.up - 1 + 1 = n.up from by omega]; exact hy') (by omega) (by omega) (by omega)
 exact key 13 d 1 x (by omega) hd hx (by omega) (by omega) (by omega)
theorem sz_RPlace : sizeT Tryz.prog 171 = some 3 := by kernel_rfl
def plV (p : Pl) : List Value := [.int .i64 (p.dir - 1), .string p.name, .int .i64 (if p.there then p.ino - 1 else -1)]
def plZ : List Value := [.int .i64 0, .string ⟨⟨[]⟩⟩, .int .i64 0]
theorem s_rfStep (h : RfIn σ b A M) (hI : Inv A) {N : Nat} (hB : Bd N A) (hN : N <= 1000000000000) {d : Int} {n : AN} (hn : A.get (d + 1) = some n) (name : ByteArray) {K : KH}
 (hK : ∀ σ', Gr σ σ' -> K (if A.kind (d + 1) ≠ 2 then .tuple ⟨[.agg ⟨plZ⟩, .int .i64 8]⟩ else if sEq name ⟨⟨[46, 46]⟩⟩ = true then .tuple ⟨[.agg ⟨plV ⟨A.upOf (d + 1), ⟨⟨[]⟩⟩, A.upOf (d + 1), true⟩⟩, .int .i64 0]⟩ else if name.size > 56 then .tuple ⟨[.agg ⟨plZ⟩, .int .i64 3]⟩ else .tuple ⟨[.agg ⟨plV ⟨d + 1, name, (A.find (d + 1) name).getD 0, (A.find (d + 1) name).isSome⟩⟩, .int .i64 0]⟩) σ') :
 callW Tryz.prog 226 [.pointer (some ⟨b, 0, none⟩), .int .i64 d, .string name] K σ := by
 refine c226 _ _ _ ?_
 unfold g226
 refine al_i ?_; intro b4 σ1 g1 e1 n1
 have h1 := h.gr g1
 have hk : A.kind (d + 1) = n.kind := by unfold AT.kind; rw [hn]; rfl
 have hu : A.upOf (d + 1) = n.up := by unfold AT.upOf; rw [hn]; rfl
 rw [hk, hu] at hK
 refine rf_at h1 hI hn (rd_I (rdC_of (h1.nod _ _ hn) (by rfl)) ?_)
 by_cases c1 : n.kind = 2
 ·refine br_f (by simpa using c1) ?_
  rw [if_neg (by simpa using c1)] at hK
  have hup : upR n = n.up - 1 := by unfold upR; rw [if_pos c1]
  by_cases c2 : sEq name ⟨⟨[46, 46]⟩⟩ = true
  ·rw [if_pos c2] at hK
   refine br_t (by rw [<- sEq_eq]; exact c2) ?_
   refine rf_at h1 hI hn (rd_I (rdC_of (h1.nod _ _ hn) (by rfl)) ?_)
   refine rf_at h1 hI hn (rd_I (rdC_of (h1.nod _ _ hn) (by rfl)) ?_)
   refine st_i2 e1 sz_RPlace (by rfl) (by rfl) ?_; intro σ2 p2
   refine rd_G (rdA_of' p2.same (by rfl)) ?_
   (refine app_of rfl ?_; try dsimp only)
   rw [hup]
   exact hK σ2 (g1.putF p2 n1)
  ·rw [if_neg c2] at hK
   refine br_f (by rw [<- sEq_eq]; simpa using c2) ?_
   by_cases c3 : name.size > 56
   ·rw [if_pos c3] at hK
    refine br_t (by simp only [decide_eq_true_eq]; omega) ?_
    refine st_i2 e1 sz_RPlace (by rfl) (by rfl) ?_; intro σ2 p2
    refine rd_G (rdA_of' p2.same (by rfl)) ?_
    (refine app_of rfl ?_; try dsimp only)
    exact hK σ2 (g1.putF p2 n1)
   ·rw [if_neg c3] at hK
    refine br_f (by simp only [decide_eq_false_iff_not]; omega) (call_i (s_rfFind h1 hI hB hN hn name (app_I ?_)))
    refine st_i2 e1 sz_RPlace (by rfl) (by rfl) ?_; intro σ2 p2
    refine rd_G (rdA_of' p2.same (by rfl)) ?_
    (refine app_of rfl ?_; try dsimp only)
    have := hK σ2 (g1.putF p2 n1)
    have e2 : d + 1 - 1 = d := by omega
    have e3 : (if (A.find (d + 1) name).isSome then (A.find (d + 1) name).getD 0 - 1 else -1) = less1 (A.find (d + 1) name) := by
     cases A.find (d + 1) name <;> rfl
    unfold plV at this
    simp only [e2, e3] at this
    exact this
 ·refine br_t (by simpa using c1) ?_
  rw [if_pos (by simpa using c1)] at hK
  refine st_i2 e1 sz_RPlace (by rfl) (by rfl) ?_; intro σ2 p2
  refine rd_G (rdA_of' p2.same (by rfl)) ?_
  (refine app_of rfl ?_; try dsimp only)
  exact hK σ2 (g1.putF p2 n1)
end
theorem und_strs : Tryz.prog.underlying 22 = some (.slice 9) := by kernel_rfl
theorem info_strR : ∃ i, Tryz.prog.info? 9 = some i /\ i.zero = some (.string ⟨⟨[]⟩⟩) /\ i.size = 1 /\ i.bytes = 16 := by
 have h1 : (Tryz.prog.info? 9).map (fun i => (i.zero, i.size, i.bytes)) = some (some (.string ⟨⟨[]⟩⟩), 1, 16) := by kernel_rfl
 cases hi : Tryz.prog.info? 9 with
 | none => rw [hi] at h1; cases h1
 | some i =>
  rw [hi] at h1
  simp only [Option.map_some, Option.some.injEq, Prod.mk.injEq] at h1
  exact ⟨i, rfl, h1.1, h1.2.1, h1.2.2⟩
def srows (l : List ByteArray) : List (List Value) := l.map fun s => [.string s]
def StrsNew (σ0 σ : H) (l : List ByteArray) (y : Sl) : Prop := Gr σ0 σ /\ RowsOwn σ 9 1 (srows l) y /\ ∀ g, y.base = some ⟨g, 0, none⟩ -> σ0 g = none
theorem app_str {σ0 σ : H} {l : List ByteArray} {y : Sl} {s : ByteArray} {ty : TypeId} {cs : List Bool} (h : StrsNew σ0 σ l y) (hl : l.length < 1000000000) {F : Sl -> H -> Prop} (hF : ∀ y' σ', StrsNew σ0 σ' (l ++ [s]) y' -> F y' σ') :
 alW (.cells ⟨[.string s]⟩ 9 (0, 0)) (fun (b48 : Nat) => biW Tryz.prog .append #[22, 22] ty cs [.slice y.base y.len y.cap, .slice (some ⟨b48, 0, none⟩) 1 1] kL F) σ := by
 obtain ⟨h1, h2, h3⟩ := h
 refine al_i ?_; intro b48 σ1 g1 e1 n1
 obtain ⟨i, i1, i2, i3, i4⟩ := info_strR
 refine append_i und_strs i1 i2 i3 i4 rfl (by decide) (h2.gr g1) e1 rfl (by intro u hu; simp at hu; subst hu; rfl) (by simpa [srows] using hl) (by decide) ?_
 intro y' σ' hy' hcase
 refine hF y' σ' ⟨?_, by simpa [srows] using hy', ?_⟩
 ·rcases hcase with ⟨g, o, q1, q2, q3⟩ | ⟨g, q1, q2, q3⟩
  ·exact (h1.trans g1).putF q3 (h3 g q1)
  ·exact (h1.trans g1).trans q3
 ·intro g hg
  rcases hcase with ⟨g', o, q1, q2, q3⟩ | ⟨g', q1, q2, q3⟩
  ·rw [q2] at hg; exact h3 g hg
  ·rw [q1] at hg
   injection hg with hg
   injection hg with hg
   subst hg
   exact none_of (h1.trans g1) q2
theorem take_one {l : List UInt8} {i : Nat} {c : UInt8} (h : l[i]? = some c) (f : Nat) (hf : f <= i) : (l.drop f).take (i + 1 - f) = (l.drop f).take (i - f) ++ [c] := by
 rw [show i + 1 - f = (i - f) + 1 from by omega, List.take_add_one]
 congr 1
 rw [List.getElem?_drop, show f + (i - f) = i from by omega, h]; rfl
def okP (s : ByteArray) : List ByteArray := if okPart s then [s] else []
theorem parts_cons {l a b : List UInt8} (hl : l = a ++ 47 :: b) (ha : (47 : UInt8) ∉ a) : ((splitL 47 l).map fun l => (⟨⟨l⟩⟩ : ByteArray)).filter okPart = okP ⟨⟨a⟩⟩ ++ ((splitL 47 b).map fun l => (⟨⟨l⟩⟩ : ByteArray)).filter okPart := by
 rw [hl, splitL_some ha]
 simp only [List.map_cons, List.filter_cons, okP]
 split <;> simp
theorem parts_end {l : List UInt8} (ha : (47 : UInt8) ∉ l) : ((splitL 47 l).map fun l => (⟨⟨l⟩⟩ : ByteArray)).filter okPart = okP ⟨⟨l⟩⟩ := by
 rw [splitL_none ha]
 simp only [List.map_cons, List.map_nil, List.filter_cons, okP, List.filter_nil]
theorem s_rfNames (path : ByteArray) (hz : path.size <= 1000000) {σ : H} {K : KH} (hK : ∀ y σ', StrsNew σ σ' (partsB path) y -> K (.slice y.base y.len y.cap) σ') : callW Tryz.prog 225 [.string path] K σ := by
 refine c225 _ ?_
 unfold g225
 have hlen : path.data.toList.length = path.size := (size_list path).symm
 refine loop_i ?_
 intro R hR
 have fin : ∀ (y : Sl) (f : Int) (τ : H), StrsNew σ τ (partsB path) y -> R path y f ((path.size + 1 : Nat) : Int) τ := by
  intro y f τ h
  refine hR _ _ _ _ _ ?_
  exact br_f (by simp only [decide_eq_false_iff_not]; omega) (hK y τ h)
 have key : ∀ (c i f : Nat) (out : List ByteArray) (y : Sl) (τ : H), c + i = path.size -> f <= i -> out.length <= i -> StrsNew σ τ out y -> (47 : UInt8) ∉ (path.data.toList.drop f).take (i - f) -> out ++ ((splitL 47 (path.data.toList.drop f)).map fun l => (⟨⟨l⟩⟩ : ByteArray)).filter okPart = partsB path -> R path y (f : Int) (i : Int) τ := by
  intro c
  induction c with
  | zero =>
   intro i f out y τ hc hf hol hS hno hp
   have hi : i = path.size := by omega
   refine hR _ _ _ _ _ ?_
   refine br_t (by simp only [decide_eq_true_eq]; omega) ?_
   refine j_i (fun j => ∀ y' τ' v1 v2 v3 v4, StrsNew σ τ' (partsB path) y' -> j path y' (((path.size + 1 : Nat)) : Int) (i : Int) v1 v2 v3 v4 τ') ?_ ?_
   ·intro y' τ' v1 v2 v3 v4 h
    rw [wrap_id (x := (i : Int) + 1) (by omega) (by omega)]
    rw [show (i : Int) + 1 = ((path.size + 1 : Nat) : Int) from by omega]
    exact fin y' _ τ' h
   intro j7 hj7
   refine j_i (fun j => ∀ v1 v2 v3 v4, j path y (f : Int) (i : Int) v1 v2 v3 v4 false τ) ?_ ?_
   case refine_2 =>
    intro j hj
    exact br_f (by simp only [decide_eq_false_iff_not]; omega) (hj _ _ _ _)
   intro v1 v2 v3 v4
   have e0 : (i : Int).toNat = i := by omega
   have e1 : (f : Int).toNat = f := by omega
   refine br_f rfl (if_i ⟨bnd_some (by omega) (by omega), bnd_some (by omega) (by omega)⟩ ?_)
   rw [e0, e1]
   have hex : path.extract f i = ⟨⟨path.data.toList.drop f⟩⟩ := by
    apply bytes_ext
    rw [extract_toList, hi, <- hlen, List.take_length]
   rw [hex]
   have hfull : (path.data.toList.drop f).take (i - f) = path.data.toList.drop f := by
    rw [List.take_of_length_le]; rw [List.length_drop]; omega
   rw [hfull] at hno
   rw [parts_end hno] at hp
   generalize (⟨⟨path.data.toList.drop f⟩⟩ : ByteArray) = s at hp
   refine j_i (fun j => ∀ y' τ' v1 v2 v3 v4 v5 v6, StrsNew σ τ' (partsB path) y' -> j path y' (i : Int) v1 v2 v3 v4 v5 v6 τ') ?_ ?_
   ·intro y' τ' v1 v2 v3 v4 v5 v6 h
    rw [wrap_id (x := (i : Int) + 1) (by omega) (by omega)]
    rw [show (i : Int) + 1 = ((path.size + 1 : Nat) : Int) from by omega]
    exact hj7 _ _ _ _ _ _ h
   intro j26 hj26
   refine j_i (fun j => ∀ v1 v2 v3 v4 v5 v6, j path y (i : Int) s v1 v2 v3 v4 v5 v6 (okPart s) τ) ?_ ?_
   ·intro v1 v2 v3 v4 v5 v6
    unfold okP at hp
    cases ho : okPart s with
    | true =>
     rw [ho] at hp
     refine br_t rfl (app_str hS (by omega) ?_)
     intro y' σ' h'
     rw [show out ++ [s] = partsB path from hp] at h'
     exact hj26 _ _ _ _ _ _ _ _ h'
    | false =>
     rw [ho] at hp
     have hp : out = partsB path := by simpa using hp
     rw [hp] at hS
     exact br_f rfl (hj26 _ _ _ _ _ _ _ _ hS)
   ·intro j36 hj36
    have ho : okPart s = (!strEq s ⟨⟨[]⟩⟩ && !strEq s ⟨⟨[46]⟩⟩) := by unfold okPart; rw [sEq_eq, sEq_eq]
    cases hs0 : strEq s ⟨⟨[]⟩⟩ with
    | true =>
     have := hj36 v1 v2 v3 v4 (.tuple ⟨[]⟩) (.tuple ⟨[]⟩)
     rw [ho, hs0] at this
     exact br_f rfl this
    | false =>
     have := fun a b => hj36 v1 v2 v3 v4 a b
     rw [ho, hs0] at this
     exact br_t rfl (this _ _)
  | succ c ih =>
   intro i f out y τ hc hf hol hS hno hp
   refine hR _ _ _ _ _ ?_
   refine br_t (by simp only [decide_eq_true_eq]; omega) ?_
   obtain ⟨ch, hch⟩ : ∃ ch, path.data.toList[i]? = some ch := ⟨_, List.getElem?_eq_getElem (by omega)⟩
   refine j_i (fun j => ∀ (f' : Nat) out' y' τ' v1 v2 v3 v4, f' <= i + 1 -> out'.length <= i + 1 -> StrsNew σ τ' out' y' -> (47 : UInt8) ∉ (path.data.toList.drop f').take (i + 1 - f') -> out' ++ ((splitL 47 (path.data.toList.drop f')).map fun l => (⟨⟨l⟩⟩ : ByteArray)).filter okPart = partsB path -> j path y' (f' : Int) (i : Int) v1 v2 v3 v4 τ') ?_ ?_
   ·intro f' out' y' τ' v1 v2 v3 v4 a1 a2 a3 a4 a5
    rw [wrap_id (x := (i : Int) + 1) (by omega) (by omega)]
    rw [show (i : Int) + 1 = ((i + 1 : Nat) : Int) from by omega]
    exact ih (i + 1) f' out' y' τ' (by omega) a1 a2 a3 a4 a5
   intro j7 hj7
   refine j_i (fun j => ∀ v1 v2 v3 v4, j path y (f : Int) (i : Int) v1 v2 v3 v4 (((ch.toNat : Int) : Int) != 47) τ) ?_ ?_
   case refine_2 =>
    intro j hj
    refine br_t (by simp only [decide_eq_true_eq]; omega) (idx_l (c := ch) (by omega) (by simpa using hch) ?_)
    exact hj _ _ _ _
   intro v1 v2 v3 v4
   by_cases hc47 : ch = 47
   ·subst hc47
    have e0 : (i : Int).toNat = i := by omega
    have e1 : (f : Int).toNat = f := by omega
    refine br_f (by decide) (if_i ⟨bnd_some (by omega) (by omega), bnd_some (by omega) (by omega)⟩ ?_)
    rw [e0, e1]
    have hsp : path.data.toList.drop f = (path.data.toList.drop f).take (i - f) ++ 47 :: path.data.toList.drop (i + 1) := by
     have h1 : (path.data.toList.drop f).drop (i - f) = 47 :: path.data.toList.drop (i + 1) := by
      rw [List.drop_drop, show f + (i - f) = i from by omega, List.drop_eq_getElem_cons (by omega)]
      rw [List.getElem?_eq_getElem (by omega)] at hch
      rw [Option.some.inj hch]
     conv => lhs; rw [<- List.take_append_drop (i - f) (path.data.toList.drop f), h1]
    have hex : path.extract f i = ⟨⟨(path.data.toList.drop f).take (i - f)⟩⟩ := by
     apply bytes_ext
     rw [extract_toList]
     simp [List.drop_take]
    rw [hex]
    rw [parts_cons hsp hno] at hp
    generalize (⟨⟨(path.data.toList.drop f).take (i - f)⟩⟩ : ByteArray) = s at hp
    have hol2 : (okP s).length <= 1 := by unfold okP; split <;> simp
    refine j_i (fun j => ∀ y' τ' v1 v2 v3 v4 v5 v6, StrsNew σ τ' (out ++ okP s) y' -> j path y' (i : Int) v1 v2 v3 v4 v5 v6 τ') ?_ ?_
    ·intro y' τ' v1 v2 v3 v4 v5 v6 h
     rw [wrap_id (x := (i : Int) + 1) (by omega) (by omega)]
     have := hj7 (i + 1) (out ++ okP s) y' τ' v1 v2 v3 v4 (by omega) (by rw [List.length_append]; omega) h (by simp) (by rw [List.append_assoc]; exact hp)
     rw [show (i : Int) + 1 = ((i + 1 : Nat) : Int) from by omega]
     exact this
    intro j26 hj26
    refine j_i (fun j => ∀ v1 v2 v3 v4 v5 v6, j path y (i : Int) s v1 v2 v3 v4 v5 v6 (okPart s) τ) ?_ ?_
    ·intro v1 v2 v3 v4 v5 v6
     cases ho : okPart s with
     | true =>
      refine br_t rfl (app_str hS (by omega) ?_)
      intro y' σ' h'
      exact hj26 _ _ _ _ _ _ _ _ (by unfold okP; rw [ho]; exact h')
     | false =>
      refine br_f rfl (hj26 _ _ _ _ _ _ _ _ (by unfold okP; rw [ho]; simpa using hS))
    ·intro j36 hj36
     have ho : okPart s = (!strEq s ⟨⟨[]⟩⟩ && !strEq s ⟨⟨[46]⟩⟩) := by unfold okPart; rw [sEq_eq, sEq_eq]
     cases hs0 : strEq s ⟨⟨[]⟩⟩ with
     | true =>
      have := hj36 v1 v2 v3 v4 (.tuple ⟨[]⟩) (.tuple ⟨[]⟩)
      rw [ho, hs0] at this
      exact br_f rfl this
     | false =>
      have := fun a b => hj36 v1 v2 v3 v4 a b
      rw [ho, hs0] at this
      exact br_t rfl (this _ _)
   ·have hne : ¬ ((ch.toNat : Int) = 47) := by
     intro e
     apply hc47
     have : ch.toNat = 47 := by omega
     exact UInt8.toNat_inj.1 this
    refine br_t (by simpa using hne) ?_
    refine hj7 f out y τ _ _ _ _ (by omega) (by omega) hS ?_ hp
    rw [take_one hch f hf]
    simp only [List.mem_append, List.mem_singleton, not_or]
    exact ⟨hno, fun e => hc47 e.symm⟩
 exact key path.size 0 0 [] ⟨none, 0, 0⟩ σ (by omega) (by omega) (by simp) ⟨Gr.refl _, RowsOwn.nil _ _ _, by intro g h; cases h⟩ (by simp) (by simp [partsB])
theorem RfIn.keep {σ σ' : H} {b : Nat} {A : AT} {M : RfM} (h : RfIn σ b A M) (hk : ∀ c o, σ c = some o -> M.w c ≠ none -> σ' c = some o) : RfIn σ' b A M := by
 have hw : ∀ c r, M.w c = some r -> M.w c ≠ none := fun c r e => by rw [e]; simp
 refine ⟨hk _ _ h.top (hw _ _ h.wb), h.tab.keep fun g o hx hg => hk g o hg (hw _ _ (h.wt g hx)), fun i n hn => hk _ _ (h.nod i n hn) (hw _ _ (h.wn i n hn)), fun i n hn => (h.ent i n hn).keep fun g o hx hg => hk g o hg (hw _ _ (h.we i n g hn hx)), h.wb, h.wt, h.wn, h.we, fun c hc => ?_⟩
 have := h.has c hc
 cases ho : σ c with
 | none => exact absurd ho this
 | some o => rw [hk c o ho hc]; simp
def But (bh : Nat) (σ σ' : H) : Prop := ∀ c o, σ c = some o -> c ≠ bh -> σ' c = some o
theorem But.of_gr {bh : Nat} {σ σ' : H} (h : Gr σ σ') : But bh σ σ' := fun _ _ hc _ => h.get hc
theorem But.trans {bh : Nat} {σ σ' σ'' : H} (h : But bh σ σ') (k : But bh σ' σ'') : But bh σ σ'' := fun c o hc hn => k c o (h c o hc hn) hn
theorem But.put {bh b : Nat} {o : Obj} {σ σ' σ'' : H} (h : But bh σ σ') (hp : Put σ' b o σ'') (hn : σ b = none) : But bh σ σ'' := fun c o hc hne => hp.get (fun e => by rw [e, hn] at hc; cases hc) (h c o hc hne)
theorem But.puth {bh : Nat} {o : Obj} {σ σ' σ'' : H} (h : But bh σ σ') (hp : Put σ' bh o σ'') : But bh σ σ'' := fun c o hc hne => hp.get hne (h c o hc hne)
theorem RfIn.but {bh : Nat} {σ σ' : H} {b : Nat} {A : AT} {M : RfM} (h : RfIn σ b A M) (hw : M.w bh = none) (hb : But bh σ σ') : RfIn σ' b A M := h.keep fun c o hc hwc => hb c o hc (fun e => hwc (by rw [e]; exact hw))
theorem ret_pl {τ : H} {b6 : Nat} {l : List Value} {x z e : Int} {s : ByteArray} (h6 : τ b6 = some (.cells ⟨l⟩ 171 (0, 0))) (hl : l.length = 3) {K : KH} (hK : ∀ τ' o, Put τ b6 o τ' -> K (.tuple ⟨[.agg ⟨[.int .i64 x, .string s, .int .i64 z]⟩, .int .i64 e]⟩) τ') :
 stW Tryz.prog 171 (.pointer (some ⟨b6, 0, none⟩)) (.agg ⟨[.int .i64 x, .string s, .int .i64 z]⟩) (ptrW (some ⟨b6, 0, none⟩) (fun (b22 o23 : Nat) => rdT (rdA 3 b22 o23) (.one (.agg [(.int .i64), .str, (.int .i64)])) (fun (r24 : Int) (r25 : ByteArray) (r26 : Int) => K (.tuple ⟨[.agg ⟨[.int .i64 r24, .string r25, .int .i64 r26]⟩, .int .i64 e]⟩)))) τ := by
 match l, hl with
 | [l0, l1, l2], _ =>
  refine st_i2 h6 sz_RPlace (by rfl) (by rfl) ?_; intro τ' p
  refine ptr_i (rd_G (rdA_of' p.same (by rfl)) ?_)
  (refine app_of rfl ?_; try dsimp only)
  exact hK τ' _ p
theorem srow_at {τ : H} {L : List ByteArray} {y : Sl} (h : RowsOwn τ 9 1 (srows L) y) {i : Nat} {s : ByteArray} (hi : L[i]? = some s) : ∃ g o, y.base = some ⟨g, o, none⟩ /\ rdC g (o + i * 1) τ = some (.string s) := by
 have hr : (srows L)[i]? = some [.string s] := by unfold srows; rw [List.getElem?_map, hi]; rfl
 obtain ⟨h1, h2 | ⟨g, o, cur, t, fz, h2, h3, h4⟩⟩ := h.rows
 ·rw [h2] at hr; simp at hr
 ·refine ⟨g, o, h2, rdC_of h3 ?_⟩
  obtain ⟨_, h5⟩ := h4 i _ hr
  have : ((cur.drop (o + i * 1)).take 1)[0]? = some (.string s) := by rw [h5]; rfl
  rw [List.getElem?_take] at this
  simpa using this
theorem split_len (l : List UInt8) : (splitL 47 l).length <= l.length + 1 := by
 induction l with
 | nil => simp [splitL]
 | cons x r ih =>
  unfold splitL
  cases (x == 47) with
  | true => simp; exact ih
  | false =>
   cases h : splitL 47 r with
   | nil => simp
   | cons a t => rw [h] at ih; simp at ih ⊢; omega
theorem parts_len (path : ByteArray) : (partsB path).length <= path.size + 1 := by
 unfold partsB
 refine Nat.le_trans (List.length_filter_le ..) ?_
 rw [List.length_map, size_list]
 exact split_len _
def Good (A : AT) (p : Pl) : Prop := p.there = true -> ∃ n, A.get p.ino = some n
def plR (r : Int × Pl × Int) : List Value := if r.1 = 0 then plV r.2.1 else plZ
section
variable {A : AT} {N : Nat}
theorem step_case (hI : Wk.Inv A) {f : Nat} {fo : Bool} {name : ByteArray} {rest : List ByteArray} {p : Pl} {h' : Int} {r : Int × Pl × Int} {n : AN} (ht : p.there = true) (hn : A.get p.ino = some n)
 (hr : A.steps (fun d s x => A.walk f d s true x) fo (name :: rest) p h' = r) :
 (∃ e : Int, e ≠ 0 /\ (if A.kind p.ino ≠ 2 then Value.tuple ⟨[.agg ⟨plZ⟩, .int .i64 8]⟩ else if sEq name ⟨⟨[46, 46]⟩⟩ = true then .tuple ⟨[.agg ⟨plV ⟨A.upOf p.ino, ⟨⟨[]⟩⟩, A.upOf p.ino, true⟩⟩, .int .i64 0]⟩ else if name.size > 56 then .tuple ⟨[.agg ⟨plZ⟩, .int .i64 3]⟩ else .tuple ⟨[.agg ⟨plV ⟨p.ino, name, (A.find p.ino name).getD 0, (A.find p.ino name).isSome⟩⟩, .int .i64 0]⟩) = .tuple ⟨[.agg ⟨plZ⟩, .int .i64 e]⟩ /\ r = (e, Pl.z, h')) \/
 ∃ q : Pl, (if A.kind p.ino ≠ 2 then Value.tuple ⟨[.agg ⟨plZ⟩, .int .i64 8]⟩ else if sEq name ⟨⟨[46, 46]⟩⟩ = true then .tuple ⟨[.agg ⟨plV ⟨A.upOf p.ino, ⟨⟨[]⟩⟩, A.upOf p.ino, true⟩⟩, .int .i64 0]⟩ else if name.size > 56 then .tuple ⟨[.agg ⟨plZ⟩, .int .i64 3]⟩ else .tuple ⟨[.agg ⟨plV ⟨p.ino, name, (A.find p.ino name).getD 0, (A.find p.ino name).isSome⟩⟩, .int .i64 0]⟩) = .tuple ⟨[.agg ⟨plV q⟩, .int .i64 0]⟩ /\ Good A q /\
  ((((!rest.isEmpty) || fo) && (q.there && (A.kind q.ino == 3))) = false -> A.steps (fun d s x => A.walk f d s true x) fo rest q h' = r) /\
  ((((!rest.isEmpty) || fo) && (q.there && (A.kind q.ino == 3))) = true -> A.isDir q.dir /\ ((h' - 1 < 0 -> r = (9, Pl.z, h' - 1)) /\ (¬ h' - 1 < 0 -> ((A.walk f q.dir (A.data q.ino) true (h' - 1)).1 ≠ 0 -> r = ((A.walk f q.dir (A.data q.ino) true (h' - 1)).1, Pl.z, (A.walk f q.dir (A.data q.ino) true (h' - 1)).2.2)) /\ ((A.walk f q.dir (A.data q.ino) true (h' - 1)).1 = 0 -> A.steps (fun d s x => A.walk f d s true x) fo rest (A.walk f q.dir (A.data q.ino) true (h' - 1)).2.1 (A.walk f q.dir (A.data q.ino) true (h' - 1)).2.2 = r)))) := by
 by_cases h2 : A.kind p.ino = 2
 case neg => exact .inl ⟨8, by decide, by rw [if_pos h2], by rw [<- hr, steps_notdir ht h2]⟩
 have hd := kind_dir h2
 rw [if_neg (by simpa using h2)]
 cases h3 : sEq name ⟨⟨[46, 46]⟩⟩ with
 | true =>
  refine .inr ⟨⟨A.upOf p.ino, ⟨⟨[]⟩⟩, A.upOf p.ino, true⟩, by rw [if_pos rfl], ?_, ?_, ?_⟩
  ·intro _
   obtain ⟨m, hm, _⟩ := hI.isDir_up hd
   exact ⟨m, hm⟩
  ·intro _; rw [<- hr, steps_up ht h2 h3]
  ·intro hc
   have : A.kind (A.upOf p.ino) = 2 := dir_kind (hI.isDir_up hd)
   simp [this] at hc
 | false =>
  rw [if_neg (by decide)]
  by_cases h4 : name.size > 56
  ·exact .inl ⟨3, by decide, by rw [if_pos h4], by rw [<- hr, steps_long ht h2 h3 h4]⟩
  rw [if_neg h4]
  refine .inr ⟨⟨p.ino, name, (A.find p.ino name).getD 0, (A.find p.ino name).isSome⟩, rfl, ?_, ?_, ?_⟩
  ·intro hs
   obtain ⟨j, hj⟩ := Option.isSome_iff_exists.1 hs
   obtain ⟨_, _, _, _, _, m, hm, _⟩ := hI.find hj
   exact ⟨m, by rw [hj]; exact hm⟩
  ·intro hc
   have h5 : (A.find p.ino name).isSome = false \/ (rest.isEmpty && !fo) = true \/ A.kind ((A.find p.ino name).getD 0) ≠ 3 := by
    cases c1 : (A.find p.ino name).isSome with
    | false => exact .inl rfl
    | true =>
     by_cases c3 : A.kind ((A.find p.ino name).getD 0) = 3
     ·refine .inr (.inl ?_)
      simp only [c1, c3, beq_self_eq_true, Bool.and_true] at hc
      cases c4 : rest.isEmpty <;> cases c5 : fo <;> simp [c4, c5] at hc ⊢
     ·exact .inr (.inr c3)
   rw [<- hr, steps_name ht h2 h3 h4 h5]
  ·intro hc
   have h5 : ¬ ((A.find p.ino name).isSome = false \/ (rest.isEmpty && !fo) = true \/ A.kind ((A.find p.ino name).getD 0) ≠ 3) := by
    simp only [Bool.and_eq_true, Bool.or_eq_true, Bool.not_eq_true', beq_iff_eq] at hc
    obtain ⟨q1, q2, q3⟩ := hc
    rintro (e | e | e)
    ·rw [e] at q2; cases q2
    ·simp only [Bool.and_eq_true, Bool.not_eq_true'] at e
     rcases q1 with q1 | q1
     ·rw [q1] at e; cases e.1
     ·rw [q1] at e; cases e.2
    ·exact e q3
   refine ⟨hd, fun h6 => ?_, fun h6 => ⟨fun h7 => ?_, fun h7 => ?_⟩⟩
   ·rw [<- hr, steps_loop ht h2 h3 h4 h5 h6]
   ·rw [<- hr, steps_err ht h2 h3 h4 h5 h6 h7]
   ·rw [<- hr, steps_link ht h2 h3 h4 h5 h6 h7]
theorem s_rfWay (hI : Wk.Inv A) (hB : Bd N A) (hN : N <= 1000000000000) : ∀ (f : Nat) (d : Int) (path : ByteArray) (fo : Bool) (h : Int) {σ : H} {b bh : Nat} {M : RfM}, RfIn σ b A M -> A.isDir (d + 1) -> 0 <= h -> h + 2 <= f -> f <= 100 -> σ bh = some (.cells ⟨[.int .i64 h]⟩ 3 (0, 0)) -> M.w bh = none -> ∀ {K : KH}, (∀ σ', But bh σ σ' -> σ' bh = some (.cells ⟨[.int .i64 (A.walk f (d + 1) path fo h).2.2]⟩ 3 (0, 0)) -> K (.tuple ⟨[.agg ⟨plR (A.walk f (d + 1) path fo h)⟩, .int .i64 (A.walk f (d + 1) path fo h).1]⟩) σ') ->
 callW Tryz.prog 185 [.pointer (some ⟨b, 0, none⟩), .int .i64 d, .string path, .bool fo, .pointer (some ⟨bh, 0, none⟩)] K σ := by
 intro f
 induction f with
 | zero => intro d path fo h σ b bh M _ _ h0 hh; omega
 | succ f ih =>
  intro d path fo h σ b bh M hM hd h0 hh hf hbh hw K hK
  have hE : ∀ e, mayE path = e -> e ≠ 0 -> ∀ σ2, But bh σ σ2 -> σ2 bh = some (.cells ⟨[.int .i64 h]⟩ 3 (0, 0)) -> K (.tuple ⟨[.agg ⟨plZ⟩, .int .i64 e]⟩) σ2 := by
   intro e he hne σ2 hb hc
   have hwk : A.walk (f + 1) (d + 1) path fo h = (e, Pl.z, h) := by rw [AT.walk, if_pos (by rw [he]; exact hne), he]
   rw [hwk] at hK
   have := hK σ2 hb hc
   unfold plR at this
   rw [if_neg hne] at this
   exact this
  refine c185 _ _ _ _ _ ?_
  unfold g185
  refine al_i ?_; intro b6 σ1 g1 e1 n1
  have hbh1 := g1.get hbh
  have nb6 : b6 ≠ bh := by intro e; rw [e, hbh] at n1; cases n1
  cases c1 : sEq path ⟨⟨[]⟩⟩ with
  | true =>
   refine br_t (by rw [<- sEq_eq]; exact c1) ?_
   refine st_i2 e1 sz_RPlace (by rfl) (by rfl) ?_; intro σ2 p2
   refine rd_G (rdA_of' p2.same (by rfl)) ?_
   (refine app_of rfl ?_; try dsimp only)
   exact hE 5 (by unfold mayE; rw [c1]; rfl) (by decide) σ2 ((But.of_gr g1).put p2 n1) (p2.get (Ne.symm nb6) hbh1)
  | false =>
  refine br_f (by rw [<- sEq_eq]; exact c1) ?_
  by_cases c2 : path.size > 255
  ·refine br_t (by simp only [decide_eq_true_eq]; omega) ?_
   refine st_i2 e1 sz_RPlace (by rfl) (by rfl) ?_; intro σ2 p2
   refine rd_G (rdA_of' p2.same (by rfl)) ?_
   (refine app_of rfl ?_; try dsimp only)
   exact hE 3 (by unfold mayE; rw [c1, if_neg (by decide), if_pos c2]) (by decide) σ2 ((But.of_gr g1).put p2 n1) (p2.get (Ne.symm nb6) hbh1)
  refine br_f (by simp only [decide_eq_false_iff_not]; omega) (loop_i ?_)
  intro R hR
  have hlen : path.data.toList.length = path.size := (size_list path).symm
  have key : ∀ (c i : Nat), c + i = path.size -> (0 : UInt8) ∉ path.data.toList.take i -> R (some ⟨b, 0, none⟩) d path fo (some ⟨bh, 0, none⟩) (some ⟨b6, 0, none⟩) (i : Int) σ1 := by
   intro c
   induction c with
   | succ c ihc =>
    intro i hc hno
    refine hR _ _ _ _ _ _ _ _ ?_
    obtain ⟨ch, hch⟩ : ∃ ch, path.data.toList[i]? = some ch := ⟨_, List.getElem?_eq_getElem (by omega)⟩
    refine br_t (by simp only [decide_eq_true_eq]; omega) (idx_l (c := ch) (by omega) (by simpa using hch) ?_)
    by_cases hc0 : ch = 0
    ·subst hc0
     have hnul : hasNul path = true := by
      unfold hasNul
      rw [List.any_eq_true]
      exact ⟨0, List.mem_of_getElem? hch, by decide⟩
     refine br_t rfl (ret_pl e1 rfl ?_)
     intro σ2 o p2
     exact hE 2 (by unfold mayE; rw [c1, if_neg (by decide), if_neg c2, hnul]; rfl) (by decide) σ2 ((But.of_gr g1).put p2 n1) (p2.get (Ne.symm nb6) hbh1)
    ·refine br_f ?_ ?_
     ·have : ¬ ((ch.toNat : Int) = 0) := by
       intro e; apply hc0
       have : ch.toNat = 0 := by omega
       exact UInt8.toNat_inj.1 this
      simpa using this
     ·rw [wrap_id (x := (i : Int) + 1) (by omega) (by omega)]
      refine ihc (i + 1) (by omega) ?_
      rw [List.take_add_one, hch]
      simp only [Option.toList_some, List.mem_append, List.mem_singleton, not_or]
      exact ⟨hno, fun e => hc0 e.symm⟩
   | zero =>
    intro i hc hno
    have hi : i = path.size := by omega
    have hnul : hasNul path = false := by
     rw [hi, <- hlen, List.take_length] at hno
     unfold hasNul
     rw [List.any_eq_false]
     intro x hx
     simp only [beq_iff_eq]
     rintro rfl; exact hno hx
    have hm : mayE path = 0 := by unfold mayE; rw [c1, if_neg (by decide), if_neg c2, hnul]; rfl
    refine hR _ _ _ _ _ _ _ _ ?_
    refine br_f (by simp only [decide_eq_false_iff_not]; omega) ?_
    have hwk : A.walk (f + 1) (d + 1) path fo h = A.steps (fun d s h' => A.walk f d s true h') fo (partsB path) ⟨if headIs 47 path then 1 else d + 1, ⟨⟨[]⟩⟩, if headIs 47 path then 1 else d + 1, true⟩ h := by
     rw [AT.walk, if_neg (by simpa using hm)]
    generalize hr : A.walk (f + 1) (d + 1) path fo h = r at hK hwk
    refine j_i (fun j => ∀ ad : Int, ad + 1 = (if headIs 47 path then 1 else d + 1) -> j (some ⟨b, 0, none⟩) ad path fo (some ⟨bh, 0, none⟩) (some ⟨b6, 0, none⟩) σ1) ?_ ?_
    case refine_2 =>
     intro j hj
     cases hl : path.data.toList with
     | nil =>
      exfalso
      have : path = ⟨⟨[]⟩⟩ := bytes_ext hl
      rw [this] at c1; exact absurd c1 (by decide)
     | cons c0 cr =>
      have hh0 : headIs 47 path = (c0 == 47) := by unfold headIs; rw [hl]
      refine idx_l (c := c0) (by decide) (by rw [hl]; rfl) ?_
      rw [hh0] at hj
      by_cases e47 : c0 = 47
      ·subst e47
       exact br_t rfl (hj 0 (by simp))
      ·refine br_f ?_ (hj d (by simp [e47]))
       have : ¬ ((c0.toNat : Int) = 47) := by
        intro e; apply e47
        have : c0.toNat = 47 := by omega
        exact UInt8.toNat_inj.1 this
       simpa using this
    intro ad had
    rw [<- had] at hwk
    have hda : A.isDir (ad + 1) := by
     rw [had]
     cases headIs 47 path with
     | true => exact hI.root_dir
     | false => exact hd
    refine al_i ?_; intro b34 σ2 g2 e2 n2
    refine st_i2 e2 sz_RPlace (by rfl) (by rfl) ?_; intro σ3 p3
    have k34 : σ3 b34 = some (.cells ⟨plV ⟨ad + 1, ⟨⟨[]⟩⟩, ad + 1, true⟩⟩ 171 (0, 0)) := by
     have e : plV ⟨ad + 1, ⟨⟨[]⟩⟩, ad + 1, true⟩ = [.int .i64 ad, .string ⟨⟨[]⟩⟩, .int .i64 ad] := by
      unfold plV; simp
     rw [e]; exact p3.same
    have g3 : Gr σ1 σ3 := g2.putF p3 n2
    refine call_i (s_rfNames path (by omega) ?_)
    intro y σ4 hS
    obtain ⟨g4, own, fr⟩ := hS
    refine app_L (loop_i ?_)
    intro R2 hR2
    have n6 : σ b6 = none := n1
    have n34 : σ b34 = none := none_of g1 n2
    have nb34 : b34 ≠ bh := by intro e; rw [e, hbh] at n34; cases n34
    have nb34b : b34 ≠ b6 := by intro e; rw [e, e1] at n2; cases n2
    have hyb : ∀ g, y.base = some ⟨g, 0, none⟩ -> g ≠ bh /\ g ≠ b34 /\ g ≠ b6 := by
     intro g hg
     have hn := fr g hg
     refine ⟨?_, ?_, ?_⟩
     ·intro e; rw [e, g3.get hbh1] at hn; cases hn
     ·intro e; rw [e, k34] at hn; cases hn
     ·intro e; rw [e, g3.get e1] at hn; cases hn
    have hLz : (partsB path).length <= 300 := by
     have := parts_len path
     omega
    generalize partsB path = L at hwk own hLz
    have hyl : y.len = L.length := by have := own.1; simpa [srows] using this
    have key2 : ∀ (c i : Nat) (p : Pl) (h' : Int) (τ : H), c + i = L.length -> But bh σ τ -> τ b6 = some (.cells ⟨plZ⟩ 171 (0, 0)) -> τ b34 = some (.cells ⟨plV p⟩ 171 (0, 0)) -> τ bh = some (.cells ⟨[.int .i64 h']⟩ 3 (0, 0)) -> RowsOwn τ 9 1 (srows L) y -> Good A p -> 0 <= h' -> h' <= h -> A.steps (fun d s h' => A.walk f d s true h') fo (L.drop i) p h' = r -> R2 (some ⟨b, 0, none⟩) fo (some ⟨bh, 0, none⟩) (some ⟨b6, 0, none⟩) (some ⟨b34, 0, none⟩) y (i : Int) τ := by
     intro c
     induction c with
     | zero =>
      intro i p h' τ hc hBu k6 k34 kh own hG z0 z1 hs
      rw [show L.drop i = [] from List.drop_eq_nil_of_le (by omega)] at hs
      have hs : (0, p, h') = r := hs
      subst hs
      refine hR2 _ _ _ _ _ _ _ _ ?_
      unfold plV at k34
      refine br_f (by simp only [decide_eq_false_iff_not]; omega) (ptr_i (rd_G (rdA_of' k34 (by rfl)) ?_))
      (refine app_of rfl ?_; try dsimp only)
      refine ret_pl k6 rfl ?_
      intro τ' o hp
      exact hK τ' (hBu.put hp n6) (hp.get (Ne.symm nb6) kh)
     | succ c ihc =>
      intro i p h' τ hc hBu k6 k34 kh own hG z0 z1 hs
      refine hR2 _ _ _ _ _ _ _ _ ?_
      refine br_t (by simp only [decide_eq_true_eq]; omega) ?_
      have ferr : ∀ (e : Int) (h'' : Int) (τ' : H), e ≠ 0 -> r = (e, Pl.z, h'') -> But bh σ τ' -> τ' bh = some (.cells ⟨[.int .i64 h'']⟩ 3 (0, 0)) -> K (.tuple ⟨[.agg ⟨[.int .i64 0, .string ⟨⟨[]⟩⟩, .int .i64 0]⟩, .int .i64 e]⟩) τ' := by
       intro e h'' τ' he hre hb hk
       subst hre
       have := hK τ' hb hk
       unfold plR at this
       rw [if_neg he] at this
       exact this
      refine j_i (fun j => ∀ (p' : Pl) (h'' : Int) (τ' : H) v1 v2 v3 v4 v5 v6 v7 v8 v9 v10 v11 v12 v13 v14 v15 v16, But bh σ τ' -> τ' b6 = some (.cells ⟨plZ⟩ 171 (0, 0)) -> τ' b34 = some (.cells ⟨plV p'⟩ 171 (0, 0)) -> τ' bh = some (.cells ⟨[.int .i64 h'']⟩ 3 (0, 0)) -> RowsOwn τ' 9 1 (srows L) y -> Good A p' -> 0 <= h'' -> h'' <= h -> A.steps (fun d s h' => A.walk f d s true h') fo (L.drop (i + 1)) p' h'' = r -> j (some ⟨b, 0, none⟩) fo (some ⟨bh, 0, none⟩) (some ⟨b6, 0, none⟩) (some ⟨b34, 0, none⟩) y (i : Int) v1 v2 v3 v4 v5 v6 v7 v8 v9 v10 v11 v12 v13 v14 v15 v16 τ') ?_ ?_
      ·intro p' h'' τ' v1 v2 v3 v4 v5 v6 v7 v8 v9 v10 v11 v12 v13 v14 v15 v16 a1 a2 a3 a4 a5 a6 a7 a8 a9
       rw [wrap_id (x := (i : Int) + 1) (by omega) (by omega)]
       rw [show (i : Int) + 1 = ((i + 1 : Nat) : Int) from by omega]
       exact ihc (i + 1) p' h'' τ' (by omega) a1 a2 a3 a4 a5 a6 a7 a8 a9
      intro j44 h44
      obtain ⟨name, hname⟩ : ∃ name, L[i]? = some name := ⟨_, List.getElem?_eq_getElem (by omega)⟩
      have hdrop : L.drop i = name :: L.drop (i + 1) := by
       rw [List.drop_eq_getElem_cons (by omega)]
       rw [List.getElem?_eq_getElem (by omega)] at hname
       rw [Option.some.inj hname]
      rw [hdrop] at hs
      cases ht : p.there with
      | false =>
       rw [steps_none ht] at hs
       unfold plV at k34
       rw [ht] at k34
       refine ptr_i (rd_I (rdC_of k34 (by rfl)) (br_t rfl (ret_pl k6 rfl ?_)))
       intro τ' o hp
       exact ferr 5 h' τ' (by decide) hs.symm (hBu.put hp n6) (hp.get (Ne.symm nb6) kh)
      | true =>
       obtain ⟨n, hn⟩ := hG ht
       have hlow := (hI.low _ _ hn).1
       have hcase := step_case hI ht hn hs
       have hp1 : p.ino - 1 + 1 = p.ino := by omega
       unfold plV at k34
       rw [if_pos ht] at k34
       obtain ⟨gy, oy, q1, q2⟩ := srow_at own hname
       refine ptr_i (rd_I (rdC_of k34 (by rfl)) (br_f (by simp only [decide_eq_false_iff_not]; omega) (ptr_i (rd_I (rdC_of k34 (by rfl)) ?_))))
       rw [q1]
       have e0 : (i : Int).toNat = i := by omega
       refine ptr_i (if_i ⟨by omega, by omega⟩ (rd_S (by rw [e0]; exact q2) ?_))
       refine call_i (s_rfStep (hM.but hw hBu) hI hB hN (d := p.ino - 1) (n := n) (by rw [hp1]; exact hn) name ?_)
       intro τ1 gt
       rw [hp1]
       have k6 := gt.get k6
       have k34 := gt.get k34
       have kh := gt.get kh
       have own := own.gr gt
       have hBu := hBu.trans (But.of_gr gt)
       rcases hcase with ⟨e, he, hv, hre⟩ | ⟨q, hv, hGq, hq1, hq2⟩
       ·rw [hv]
        unfold plZ
        (refine app_of rfl ?_; try dsimp only)
        refine al_i ?_; intro b86 τ2 g5 e5 n5
        refine st_i2 e5 sz_RPlace (by rfl) (by rfl) ?_; intro τ3 p5
        have g6 : Gr τ1 τ3 := g5.putF p5 n5
        refine br_t (by simpa using he) (ret_pl (g6.get k6) rfl ?_)
        intro τ' o hp
        exact ferr e h' τ' he hre ((hBu.trans (But.of_gr g6)).put hp n6) (hp.get (Ne.symm nb6) (g6.get kh))
       ·rw [hv]
        unfold plV
        (refine app_of rfl ?_; try dsimp only)
        refine al_i ?_; intro b86 τ2 g5 e5 n5
        refine st_i2 e5 sz_RPlace (by rfl) (by rfl) ?_; intro τ3 p5
        have g6 : Gr τ1 τ3 := g5.putF p5 n5
        refine br_f rfl (rd_G (rdA_of' p5.same (by rfl)) ?_)
        (refine app_of rfl ?_; try dsimp only)
        refine st_i2 (g6.get k34) sz_RPlace (by rfl) (by rfl) ?_; intro τ4 p6
        have k34q : τ4 b34 = some (.cells ⟨[.int .i64 (q.dir - 1), .string q.name, .int .i64 (if q.there then q.ino - 1 else -1)]⟩ 171 (0, 0)) := p6.same
        have k6q := p6.get (Ne.symm nb34b) (g6.get k6)
        have khq := p6.get (Ne.symm nb34) (g6.get kh)
        have ownq := (own.gr g6).put p6 (fun e => (hyb b34 e).2.1 rfl)
        have hBq : But bh σ τ4 := (hBu.trans (But.of_gr g6)).put p6 n34
        have hM4 := hM.but hw hBq
        clear p5 p6 e5 k34 k6 kh own hBu
        have hmore : decide ((i : Int) + 1 < ((y.len : Nat) : Int)) = !(L.drop (i + 1)).isEmpty := by
         have hdl : (L.drop (i + 1)).length = L.length - (i + 1) := List.length_drop
         cases hD : L.drop (i + 1) with
         | nil => rw [hD] at hdl; simp at hdl; simp; omega
         | cons a r => rw [hD] at hdl; simp at hdl; simp; omega
        generalize hT : (((!(L.drop (i + 1)).isEmpty) || fo) && (q.there && (A.kind q.ino == 3))) = t at hq1 hq2
        refine j_i (fun j => ∀ v1 v2 v3 v4 v5 v6 v7 v8 v9 v10 v11 v12 v13 v14 v15 v16, j (some ⟨b, 0, none⟩) fo (some ⟨bh, 0, none⟩) (some ⟨b6, 0, none⟩) (some ⟨b34, 0, none⟩) y (i : Int) v1 v2 v3 v4 v5 v6 v7 v8 v9 v10 v11 v12 v13 v14 v15 v16 t τ4) ?_ ?_
        case refine_2 =>
         intro j95 h95
         rw [wrap_id (x := (i : Int) + 1) (by omega) (by omega), hmore]
         cases hqt : q.there with
         | false =>
          have ht0 : t = false := by rw [<- hT, hqt]; simp
          rw [ht0] at h95
          rw [if_neg (by rw [hqt]; decide)] at k34q
          cases (L.drop (i + 1)).isEmpty with
          | false => exact br_t rfl (ptr_i (rd_I (rdC_of k34q (by rfl)) (br_f rfl (h95 _ _ _ _ _ _ _ _ _ _ _ _ _ _ _ _))))
          | true =>
           refine br_f rfl ?_
           cases fo with
           | true => exact br_t rfl (ptr_i (rd_I (rdC_of k34q (by rfl)) (br_f rfl (h95 _ _ _ _ _ _ _ _ _ _ _ _ _ _ _ _))))
           | false => exact br_f rfl (h95 _ _ _ _ _ _ _ _ _ _ _ _ _ _ _ _)
         | true =>
          obtain ⟨nq, hnq⟩ := hGq hqt
          have hqlow := (hI.low _ _ hnq).1
          have hq11 : q.ino - 1 + 1 = q.ino := by omega
          have hkq : A.kind q.ino = nq.kind := by unfold AT.kind; rw [hnq]; rfl
          rw [if_pos hqt] at k34q
          obtain ⟨gs, os, s1, s2, s3⟩ := hM4.slot hI (d := q.ino - 1) (n := nq) (by rw [hq11]; exact hnq)
          rw [hq11] at s3
          rw [hkq, hqt] at hT
          cases hem : (L.drop (i + 1)).isEmpty with
          | false =>
           have ht1 : t = (nq.kind == 3) := by rw [<- hT, hem]; simp
           rw [ht1] at h95
           refine br_t rfl (ptr_i (rd_I (rdC_of k34q (by rfl)) (br_t (by simp only [decide_eq_true_eq]; omega) ?_)))
           refine ptr_i (rd_L (rdC_of hM4.top (by rfl)) (ptr_i (rd_I (rdC_of k34q (by rfl)) ?_)))
           rw [s1]
           exact ptr_i (if_i s2 (rd_P s3 (ptr_i (rd_I (rdC_of (hM4.nod _ _ hnq) (by rfl)) (h95 _ _ _ _ _ _ _ _ _ _ _ _ _ _ _ _)))))
          | true =>
           refine br_f rfl ?_
           cases fo with
           | true =>
            have ht1 : t = (nq.kind == 3) := by rw [<- hT, hem]; simp
            rw [ht1] at h95
            refine br_t rfl (ptr_i (rd_I (rdC_of k34q (by rfl)) (br_t (by simp only [decide_eq_true_eq]; omega) ?_)))
            refine ptr_i (rd_L (rdC_of hM4.top (by rfl)) (ptr_i (rd_I (rdC_of k34q (by rfl)) ?_)))
            rw [s1]
            exact ptr_i (if_i s2 (rd_P s3 (ptr_i (rd_I (rdC_of (hM4.nod _ _ hnq) (by rfl)) (h95 _ _ _ _ _ _ _ _ _ _ _ _ _ _ _ _)))))
           | false =>
            have ht1 : t = false := by rw [<- hT, hem]; simp
            rw [ht1] at h95
            exact br_f rfl (h95 _ _ _ _ _ _ _ _ _ _ _ _ _ _ _ _)
        intro v1 v2 v3 v4 v5 v6 v7 v8 v9 v10 v11 v12 v13 v14 v15 v16
        cases t with
        | false =>
         exact br_f rfl (h44 q h' τ4 _ _ _ _ _ _ _ _ _ _ _ _ _ _ _ _ hBq k6q k34q khq ownq hGq z0 z1 (hq1 rfl))
        | true =>
         obtain ⟨hqd, hq9, hqw⟩ := hq2 rfl
         have hqt : q.there = true := by
          simp only [Bool.and_eq_true] at hT
          exact hT.2.1
         obtain ⟨nq, hnq⟩ := hGq hqt
         have hqlow := (hI.low _ _ hnq).1
         have hq11 : q.ino - 1 + 1 = q.ino := by omega
         have hd11 : q.dir - 1 + 1 = q.dir := by omega
         have hdat : A.data q.ino = nq.data := by unfold AT.data; rw [hnq]; rfl
         rw [hdat] at hqw
         rw [if_pos hqt] at k34q
         refine br_t rfl (ptr_i (rd_I (rdC_of khq (by rfl)) (ptr_i ?_)))
         rw [wrap_id (x := h' - 1) (by omega) (by omega)]
         refine st_i2 khq sz_int (by rfl) (by rfl) ?_; intro τ5 p7
         have kh5 : τ5 bh = some (.cells ⟨[.int .i64 (h' - 1)]⟩ 3 (0, 0)) := p7.same
         have k65 := p7.get nb6 k6q
         have k345 := p7.get nb34 k34q
         have own5 := ownq.put p7 (fun e => (hyb bh e).1 rfl)
         have hB5 : But bh σ τ5 := hBq.puth p7
         have hM5 := hM.but hw hB5
         clear p7
         refine ptr_i (rd_I (rdC_of kh5 (by rfl)) ?_)
         by_cases h6 : h' - 1 < 0
         ·refine br_t (by simpa using h6) (ret_pl k65 rfl ?_)
          intro τ' o hp
          exact ferr 9 (h' - 1) τ' (by decide) (hq9 h6) (hB5.put hp n6) (hp.get (Ne.symm nb6) kh5)
         ·obtain ⟨hw1, hw2⟩ := hqw h6
          obtain ⟨gs, os, s1, s2, s3⟩ := hM5.slot hI (d := q.ino - 1) (n := nq) (by rw [hq11]; exact hnq)
          rw [hq11] at s3
          refine br_f (by simpa using h6) (ptr_i (rd_I (rdC_of k345 (by rfl)) ?_))
          refine ptr_i (rd_L (rdC_of hM5.top (by rfl)) (ptr_i (rd_I (rdC_of k345 (by rfl)) ?_)))
          rw [s1]
          refine ptr_i (if_i s2 (rd_P s3 (ptr_i (rd_S (rdC_of (hM5.nod _ _ hnq) (by rfl)) ?_))))
          refine call_i (ih (q.dir - 1) nq.data true (h' - 1) hM5 (by rw [hd11]; exact hqd) (by omega) (by omega) (by omega) kh5 hw ?_)
          intro τ6 hb6 kh6
          rw [hd11] at kh6 ⊢
          have hops := walk_hops A f q.dir nq.data true (h' - 1) (by omega)
          have hpl := fun e => walk_place hI f q.dir nq.data true (h' - 1) hqd e
          generalize A.walk f q.dir nq.data true (h' - 1) = W at hw1 hw2 kh6 hops hpl ⊢
          obtain ⟨w1, w2, w3⟩ := W
          have k66 := hb6 _ _ k65 nb6
          have k346 := hb6 _ _ k345 nb34
          have own6 := own5.keep fun g o hx hg => hb6 g o hg (hyb g hx).1
          have hB6 := hB5.trans hb6
          by_cases hW0 : w1 = 0
          ·subst hW0
           have hgw : Good A w2 := fun e => PlOk.get hI (hpl rfl) e
           unfold plR
           rw [if_pos rfl]
           unfold plV
           (refine app_of rfl ?_; try dsimp only)
           refine st_i2 k346 sz_RPlace (by rfl) (by rfl) ?_; intro τ7 p8
           refine br_f rfl (h44 w2 w3 τ7 _ _ _ _ _ _ _ _ _ _ _ _ _ _ _ _ (hB6.put p8 n34) (p8.get (Ne.symm nb34b) k66) p8.same (p8.get (Ne.symm nb34) kh6) (own6.put p8 (fun e => (hyb b34 e).2.1 rfl)) hgw (hops.2.2 rfl) (by have := hops.2.1; simp only at this; omega) (hw2 rfl))
          ·unfold plR
           rw [if_neg hW0]
           unfold plZ
           (refine app_of rfl ?_; try dsimp only)
           refine st_i2 k346 sz_RPlace (by rfl) (by rfl) ?_; intro τ7 p8
           refine br_t (by simpa using hW0) (ret_pl (p8.get (Ne.symm nb34b) k66) rfl ?_)
           intro τ' o hp
           exact ferr w1 w3 τ' hW0 (hw1 hW0) ((hB6.put p8 n34).put hp n6) (hp.get (Ne.symm nb6) (p8.get (Ne.symm nb34) kh6))
    refine key2 L.length 0 ⟨ad + 1, ⟨⟨[]⟩⟩, ad + 1, true⟩ h σ4 (by omega) (But.of_gr (g1.trans (g3.trans g4))) (g4.get (g3.get e1)) (g4.get k34) (g4.get (g3.get hbh1)) own ?_ h0 (Int.le_refl _) (by simpa using hwk.symm)
    intro _
    obtain ⟨n, hn, _⟩ := hda
    exact ⟨n, hn⟩
  exact key path.size 0 (by omega) (by simp)
end
end Go.Proofs.YtbjbeajbckcecaaGreatDoor

set_option maxRecDepth 100000
namespace Go.Proofs.YtbjbeajbckcecaaGreatDoor
open Go Go.HL Go.Wk
theorem But.gr {bh : Nat} {σ σ' : H} (h : But bh σ σ') (hn : σ bh = none) : Gr σ σ' := fun c o hc => h c o hc (fun e => by rw [e, hn] at hc; cases hc)
attribute [local irreducible] ptrW ifW brW andW rdT alW letJ stW muW biW vaW imW callT cvalT app callW invW callVW sizeT oW nilF oneK loopW rfW funW begW roundK exW idxW Gr Put
theorem byte_ne (c : UInt8) : (((c.toNat : Int) : Int) != 47) = !(c == 47) := by
 by_cases h : c = 47
 ·subst h; rfl
 ·have : ¬ ((c.toNat : Int) = 47) := by
   intro e; apply h
   have : c.toNat = 47 := by omega
   exact UInt8.toNat_inj.1 this
  have h1 : (((c.toNat : Int) : Int) != 47) = true := by simpa using this
  have h2 : (c == 47) = false := by simpa using h
  rw [h1, h2]; rfl
theorem head_at {s : ByteArray} (h : sEq s ⟨⟨[]⟩⟩ = false) : ∃ c, s.data.toList[(0 : Int).toNat]? = some c /\ headIs 47 s = (c == 47) := by
 cases hl : s.data.toList with
 | nil =>
  exfalso
  have : s = ⟨⟨[]⟩⟩ := bytes_ext hl
  rw [this] at h; exact absurd h (by decide)
 | cons c r => exact ⟨c, rfl, by unfold headIs; rw [hl]⟩
def plL (r : Int × Pl) : List Value := if r.1 = 0 then plV r.2 else plZ
section
variable {σ : H} {b : Nat} {A : AT} {M : RfM} {N : Nat}
theorem RfIn.new (h : RfIn σ b A M) {c : Nat} (hc : σ c = none) : M.w c = none := by
 cases hw : M.w c with
 | none => rfl
 | some r => exact absurd hc (h.has c (by rw [hw]; simp))
theorem s_rfGo (hI : Wk.Inv A) (hB : Bd N A) (hN : N <= 1000000000000) (hM : RfIn σ b A M) (cwd path : ByteArray) (fo : Bool) {K : KH} (hK : ∀ σ', Gr σ σ' -> K (.tuple ⟨[.agg ⟨plL (A.locate cwd path fo)⟩, .int .i64 (A.locate cwd path fo).1]⟩) σ') :
 callW Tryz.prog 126 [.pointer (some ⟨b, 0, none⟩), .string cwd, .string path, .bool fo] K σ := by
 refine c126 _ _ _ _ ?_
 unfold g126
 refine al_i ?_; intro b5 σ1 g1 e1 n1
 refine al_i ?_; intro b6 σ2 g2 e2 n2
 refine st_i2 e2 sz_int (by rfl) (by rfl) ?_; intro σ3 p3
 have k6 : σ3 b6 = some (.cells ⟨[.int .i64 8]⟩ 3 (0, 0)) := p3.same
 have n6 : σ b6 = none := none_of g1 n2
 have n56 : b5 ≠ b6 := by intro e; rw [<- e, e1] at n2; cases n2
 have g3 : Gr σ σ3 := (g1.trans g2).putF p3 n6
 have k5 : σ3 b5 = some (.cells ⟨plZ⟩ 171 (0, 0)) := p3.get n56 (g2.get e1)
 have hw6 := hM.new n6
 clear p3 e1 e2
 generalize hloc : A.locate cwd path fo = r at hK
 have hR : ∀ e τ, e ≠ 0 -> r.1 = e -> Gr σ τ -> K (.tuple ⟨[.agg ⟨[.int .i64 0, .string ⟨⟨[]⟩⟩, .int .i64 0]⟩, .int .i64 e]⟩) τ := by
  intro e τ he hr hg
  have := hK τ hg
  unfold plL at this
  rw [hr, if_neg he] at this
  exact this
 refine j_i (fun j => ∀ (ad : Int) τ, A.isDir (ad + 1) -> (A.walk 10 (ad + 1) path fo 8).1 = r.1 -> ((A.walk 10 (ad + 1) path fo 8).1 = 0 -> (A.walk 10 (ad + 1) path fo 8).2.1 = r.2) -> But b6 σ τ -> τ b5 = some (.cells ⟨plZ⟩ 171 (0, 0)) -> τ b6 = some (.cells ⟨[.int .i64 8]⟩ 3 (0, 0)) -> j (some ⟨b, 0, none⟩) path fo (some ⟨b5, 0, none⟩) ad (some ⟨b6, 0, none⟩) τ) ?_ ?_
 ·intro ad τ hd w1 w2 hBu k5 k6
  refine call_i (s_rfWay hI hB hN 10 ad path fo 8 (hM.but hw6 hBu) hd (by decide) (by decide) (by decide) k6 hw6 ?_)
  intro τ' hb kh
  generalize A.walk 10 (ad + 1) path fo 8 = W at w1 w2 kh ⊢
  obtain ⟨x1, x2, x3⟩ := W
  have k5' := hb _ _ k5 n56
  have hB' := hBu.trans hb
  unfold plR
  by_cases h0 : x1 = 0
  ·subst h0
   rw [if_pos rfl]
   unfold plV
   (refine app_of rfl ?_; try dsimp only)
   refine ret_pl k5' rfl ?_
   intro τ2 o hp
   have := hK τ2 ((hB'.gr n6).putF hp n1)
   unfold plL at this
   have hr1 : r.1 = 0 := w1.symm
   rw [hr1, if_pos rfl, <- w2 rfl] at this
   exact this
  ·rw [if_neg h0]
   unfold plZ
   (refine app_of rfl ?_; try dsimp only)
   refine ret_pl k5' rfl ?_
   intro τ2 o hp
   exact hR x1 τ2 h0 w1.symm ((hB'.gr n6).putF hp n1)
 intro j7 h7
 have hB3 : But b6 σ σ3 := But.of_gr g3
 refine j_i (fun j => ∀ t : Bool, (t = false -> headIs 47 path = true) -> (t = true -> headIs 47 path = false) -> j (some ⟨b, 0, none⟩) cwd path fo (some ⟨b5, 0, none⟩) 0 (some ⟨b6, 0, none⟩) t σ3) ?_ ?_
 case refine_2 =>
  intro j hj
  cases h0 : sEq path ⟨⟨[]⟩⟩ with
  | true => exact br_t (by rw [<- sEq_eq]; exact h0) (hj true (fun e => by cases e) (fun _ => by rw [sEq_iff.1 h0]; rfl))
  | false =>
   obtain ⟨c, hc, hh⟩ := head_at h0
   refine br_f (by rw [<- sEq_eq]; exact h0) (idx_l (by decide) hc ?_)
   rw [byte_ne]
   refine hj _ (fun e => ?_) (fun e => ?_)
   ·rw [hh]; simpa using e
   ·rw [hh]; simpa using e
 intro t ht1 ht2
 cases t with
 | false =>
  have hh := ht1 rfl
  have h0 : sEq path ⟨⟨[]⟩⟩ = false := headIs_ne hh
  refine br_f rfl (h7 0 σ3 hI.root_dir ?_ ?_ hB3 k5 k6)
  ·rw [<- hloc]; unfold AT.locate; rw [h0, hh]; rfl
  ·intro _; rw [<- hloc]; unfold AT.locate; rw [h0, hh]; rfl
 | true =>
  have hh := ht2 rfl
  refine br_t rfl ?_
  cases h0 : sEq path ⟨⟨[]⟩⟩ with
  | true =>
   refine br_t (by rw [<- sEq_eq]; exact h0) (ret_pl k5 rfl ?_)
   intro τ o hp
   exact hR 5 τ (by decide) (by rw [<- hloc]; unfold AT.locate; rw [h0]; rfl) (g3.putF hp n1)
  | false =>
   refine br_f (by rw [<- sEq_eq]; exact h0) ?_
   refine j_i (fun j => ∀ t : Bool, (t = false -> headIs 47 cwd = true) -> (t = true -> headIs 47 cwd = false) -> j (some ⟨b, 0, none⟩) cwd path fo (some ⟨b5, 0, none⟩) (some ⟨b6, 0, none⟩) t σ3) ?_ ?_
   case refine_2 =>
    intro j hj
    cases hc0 : sEq cwd ⟨⟨[]⟩⟩ with
    | true => exact br_t (by rw [<- sEq_eq]; exact hc0) (hj true (fun e => by cases e) (fun _ => by rw [sEq_iff.1 hc0]; rfl))
    | false =>
     obtain ⟨c, hc, hhc⟩ := head_at hc0
     refine br_f (by rw [<- sEq_eq]; exact hc0) (idx_l (by decide) hc ?_)
     rw [byte_ne]
     refine hj _ (fun e => ?_) (fun e => ?_)
     ·rw [hhc]; simpa using e
     ·rw [hhc]; simpa using e
   intro t ht1 ht2
   cases t with
   | true =>
    have hc := ht2 rfl
    refine br_t rfl (ret_pl k5 rfl ?_)
    intro τ o hp
    exact hR 5 τ (by decide) (by rw [<- hloc]; unfold AT.locate; rw [h0, hh, hc]; rfl) (g3.putF hp n1)
   | false =>
    have hc := ht1 rfl
    refine br_f rfl (call_i (s_rfWay hI hB hN 10 0 cwd true 8 (hM.but hw6 hB3) hI.root_dir (by decide) (by decide) (by decide) k6 hw6 ?_))
    intro τ hb kh
    have hl : r = (let w := A.walk 10 1 cwd true 8
     if w.1 ≠ 0 then (w.1, Pl.z) else if w.2.1.there = false then (5, Pl.z) else if A.kind w.2.1.ino ≠ 2 then (8, Pl.z) else let r' := A.walk 10 w.2.1.ino path fo 8; (r'.1, r'.2.1)) := by
     rw [<- hloc]; unfold AT.locate; rw [h0, hh, hc]; rfl
    have hpl := fun e => walk_place hI 10 1 cwd true 8 hI.root_dir e
    rw [show (0 : Int) + 1 = 1 from rfl] at kh ⊢
    generalize A.walk 10 1 cwd true 8 = W at hl kh hpl ⊢
    obtain ⟨x1, x2, x3⟩ := W
    have k5' := hb _ _ k5 n56
    have hB' := hB3.trans hb
    unfold plR
    by_cases hx : x1 = 0
    case neg =>
     rw [if_neg hx]
     have hl1 : r = (x1, Pl.z) := by rw [hl]; simp [hx]
     unfold plZ
     (refine app_of rfl ?_; try dsimp only)
     refine al_i ?_; intro b54 τ2 g4 e4 n4
     refine st_i2 e4 sz_RPlace (by rfl) (by rfl) ?_; intro τ3 p4
     have g5 : Gr τ τ3 := g4.putF p4 n4
     refine br_t (by simpa using hx) (ret_pl (g5.get k5') rfl ?_)
     intro τ4 o hp
     exact hR x1 τ4 hx (by rw [hl1]) (((hB'.gr n6).trans g5).putF hp n1)
    subst hx
    rw [if_pos rfl]
    simp only [ne_eq, not_true_eq_false, if_false] at hl
    unfold plV
    (refine app_of rfl ?_; try dsimp only)
    refine al_i ?_; intro b54 τ2 g4 e4 n4
    refine st_i2 e4 sz_RPlace (by rfl) (by rfl) ?_; intro τ3 p4
    have g5 : Gr τ τ3 := g4.putF p4 n4
    have k54 : τ3 b54 = some (.cells ⟨[.int .i64 (x2.dir - 1), .string x2.name, .int .i64 (if x2.there then x2.ino - 1 else -1)]⟩ 171 (0, 0)) := p4.same
    have hB5 : But b6 σ τ3 := hB'.trans (But.of_gr g5)
    have hM5 := hM.but hw6 hB5
    have k55 := g5.get k5'
    have kh5 := g5.get kh
    have n546 : b54 ≠ b6 := by intro e; rw [e, kh] at n4; cases n4
    clear p4 e4
    cases hxt : x2.there with
    | false =>
     rw [if_neg (by rw [hxt]; decide)] at k54
     rw [if_pos hxt] at hl
     refine br_f rfl (rd_I (rdC_of k54 (by rfl)) (br_t rfl (ret_pl k55 rfl ?_)))
     intro τ4 o hp
     exact hR 5 τ4 (by decide) (by rw [hl]) ((hB5.gr n6).putF hp n1)
    | true =>
     obtain ⟨nx, hnx⟩ := PlOk.get hI (hpl rfl) hxt
     have hlow := (hI.low _ _ hnx).1
     have h11 : x2.ino - 1 + 1 = x2.ino := by omega
     have hkx : A.kind x2.ino = nx.kind := by unfold AT.kind; rw [hnx]; rfl
     rw [if_pos hxt] at k54
     rw [if_neg (by rw [hxt]; decide)] at hl
     obtain ⟨gs, os, s1, s2, s3⟩ := hM5.slot hI (d := x2.ino - 1) (n := nx) (by rw [h11]; exact hnx)
     rw [h11] at s3
     refine br_f rfl (rd_I (rdC_of k54 (by rfl)) (br_f (by simp only [decide_eq_false_iff_not]; omega) ?_))
     refine ptr_i (rd_L (rdC_of hM5.top (by rfl)) (rd_I (rdC_of k54 (by rfl)) ?_))
     rw [s1]
     refine ptr_i (if_i s2 (rd_P s3 (ptr_i (rd_I (rdC_of (hM5.nod _ _ hnx) (by rfl)) ?_))))
     rw [hkx] at hl
     by_cases hk2 : nx.kind = 2
     ·rw [if_neg (by simpa using hk2)] at hl
      refine br_f (by simpa using hk2) (rd_I (rdC_of k54 (by rfl)) ?_)
      refine st_i2 kh5 sz_int (by rfl) (by rfl) ?_; intro τ6 p6
      refine h7 (x2.ino - 1) τ6 (by rw [h11]; exact ⟨nx, hnx, hk2⟩) ?_ ?_ (hB5.puth p6) (p6.get n56 k55) p6.same
      ·rw [h11, hl]
      ·intro _; rw [h11, hl]
     ·rw [if_pos (by simpa using hk2)] at hl
      refine br_t (by simpa using hk2) (ret_pl k55 rfl ?_)
      intro τ4 o hp
      exact hR 8 τ4 (by decide) (by rw [hl]) ((hB5.gr n6).putF hp n1)
end
end Go.Proofs.YtbjbeajbckcecaaGreatDoor

namespace Go.Wk
open Go Go.HL
def sumL (f : AN -> Nat) (l : List (Int × AN)) : Nat -> Nat
 | 0 => 0
 | i + 1 => sumL f l i + ((lk ((i : Int) + 1) l).map f).getD 0
theorem sumL_cons (f : AN -> Nat) {k : Int} {v : AN} {r : List (Int × AN)} (h : lk k r = none) : ∀ n : Nat, sumL f ((k, v) :: r) n = sumL f r n + if 1 <= k /\ k <= n then f v else 0 := by
 intro n
 induction n with
 | zero => simp only [sumL]; rw [if_neg (by omega)]
 | succ n ih =>
  simp only [sumL, ih]
  by_cases e : (n : Int) + 1 = k
  ·have h1 : lk ((n : Int) + 1) ((k, v) :: r) = some v := by simp [lk, e]
   have h2 : lk ((n : Int) + 1) r = none := by rw [e]; exact h
   rw [h1, h2, if_neg (by omega), if_pos (by omega)]
   simp
  ·have h1 : lk ((n : Int) + 1) ((k, v) :: r) = lk ((n : Int) + 1) r := by
    have : (((n : Int) + 1) == k) = false := by simpa using e
    simp [lk, this]
   rw [h1]
   by_cases c : 1 <= k /\ k <= n
   ·rw [if_pos c, if_pos (by omega)]; omega
   ·rw [if_neg c, if_neg (by omega)]; omega
theorem sumL_all (f : AN -> Nat) : ∀ (l : List (Int × AN)) (n : Nat), (keysL l).Nodup -> (∀ k ∈ keysL l, 1 <= k /\ k <= n) -> sumL f l n = sumF f l := by
 intro l
 induction l with
 | nil =>
  intro n _ _
  have : ∀ n : Nat, sumL f [] n = 0 := by
   intro n
   induction n with
   | zero => rfl
   | succ n ih => simp only [sumL, ih]; rfl
  rw [this]; rfl
 | cons p r ih =>
  intro n h1 h2
  obtain ⟨k, v⟩ := p
  obtain ⟨h3, h4⟩ := List.nodup_cons.1 (show (k :: keysL r).Nodup from h1)
  rw [sumL_cons f (lk_none_iff.2 h3), ih n h4 fun x hx => h2 x (List.mem_cons_of_mem _ hx)]
  have := h2 k (List.mem_cons_self ..)
  rw [if_pos this]
  simp only [sumF]; omega
theorem sumL_mono (f : AN -> Nat) (l : List (Int × AN)) : ∀ {n m : Nat}, n <= m -> sumL f l n <= sumL f l m := by
 intro n m h
 induction h with
 | refl => exact Nat.le_refl _
 | step _ ih => simp only [sumL]; omega
theorem Inv.sums {A : AT} (h : Inv A) : (sumL (fun _ => 1) A.nodes A.last.toNat : Int) = A.ui /\ (sumL (fun n => n.data.size) A.nodes A.last.toNat : Int) = A.ub := by
 have hk : ∀ k ∈ keysL A.nodes, 1 <= k /\ k <= ((A.last.toNat : Nat) : Int) := by
  intro k hk
  cases hl : A.get k with
  | none => exact absurd hk (lk_none_iff.1 hl)
  | some n => have := h.low k n hl; omega
 rw [sumL_all _ _ _ h.nodup hk, sumL_all _ _ _ h.nodup hk]
 refine ⟨?_, ?_⟩
 ·rw [sumF_len, h.ui]
 ·rw [h.ub]; rfl
def entN (name : ByteArray) : List ByteArray -> List ByteArray
 | [] => [name]
 | k :: r => if ltB name k = true then name :: k :: r else k :: entN name r
theorem entN_perm (name : ByteArray) : ∀ l, (entN name l).Perm (name :: l) := by
 intro l
 induction l with
 | nil => exact List.Perm.refl _
 | cons k r ih =>
  unfold entN
  split
  ·exact List.Perm.refl _
  ·exact (ih.cons k).trans (List.Perm.swap name k r)
def leN (a b : ByteArray) : Prop := a.data.toList <= b.data.toList
theorem entN_sorted {name : ByteArray} : ∀ {l : List ByteArray}, l.Pairwise leN -> (entN name l).Pairwise leN := by
 intro l
 induction l with
 | nil => intro _; simp [entN]
 | cons k r ih =>
  intro h
  obtain ⟨h1, h2⟩ := List.pairwise_cons.1 h
  unfold entN
  by_cases c : ltB name k = true
  ·rw [if_pos c]
   have hnk : leN name k := by
    unfold ltB at c
    cases hb : leB k.data.toList name.data.toList with
    | true => rw [hb] at c; cases c
    | false =>
     have : ¬ k.data.toList <= name.data.toList := by rw [<- leB_iff, hb]; simp
     exact (List.le_total _ _).resolve_left this
   refine List.pairwise_cons.2 ⟨fun z hz => ?_, h⟩
   rcases List.mem_cons.1 hz with e | e
   ·rw [e]; exact hnk
   ·exact List.le_trans hnk (h1 z e)
  ·rw [if_neg c]
   have hkn : leN k name := by
    unfold ltB at c
    cases hb : leB k.data.toList name.data.toList with
    | false => rw [hb] at c; exact absurd rfl c
    | true => exact (leB_iff _ _).1 hb
   refine List.pairwise_cons.2 ⟨fun z hz => ?_, ih h2⟩
   rcases List.mem_cons.1 ((entN_perm name r).mem_iff.1 hz) with e | e
   ·rw [e]; exact hkn
   ·exact h1 z e
theorem sortN_sorted (l : List ByteArray) : (sortN l).Pairwise leN := by
 unfold sortN
 rw [List.pairwise_map]
 exact (sortB_sorted _).imp fun h => h
theorem sorted_eq {a b : List ByteArray} (ha : a.Pairwise leN) (hb : b.Pairwise leN) (h : a.Perm b) : a = b :=
 List.Perm.eq_of_pairwise (le := leN) (fun x y _ _ h1 h2 => bytes_ext (List.le_antisymm h1 h2)) ha hb h
theorem sortN_snoc (l : List ByteArray) (name : ByteArray) : sortN (l ++ [name]) = entN name (sortN l) := by
 refine sorted_eq (sortN_sorted _) (entN_sorted (sortN_sorted _)) ?_
 refine (sortN_perm _).trans ?_
 refine List.Perm.trans ?_ (entN_perm name _).symm
 refine (List.perm_append_comm (l₁ := l) (l₂ := [name])).trans ?_
 exact ((sortN_perm l).symm).cons name
def entR {α : Type} (name : ByteArray) (new : α) (row : ByteArray -> α) : Bool -> List ByteArray -> List α
 | done, [] => if done then [] else [new]
 | done, k :: r => if (!done && ltB name k) = true then new :: row k :: entR name new row true r else row k :: entR name new row done r
theorem entR_done {α : Type} (name : ByteArray) (new : α) (row : ByteArray -> α) : ∀ l, entR name new row true l = l.map row := by
 intro l
 induction l with
 | nil => rfl
 | cons k r ih => unfold entR; simp [ih]
theorem entR_eq {α : Type} (name : ByteArray) (row : ByteArray -> α) : ∀ l, entR name (row name) row false l = (entN name l).map row := by
 intro l
 induction l with
 | nil => rfl
 | cons k r ih =>
  unfold entR entN
  by_cases c : ltB name k = true
  ·rw [if_pos (by simp [c]), if_pos c, entR_done]; rfl
  ·rw [if_neg (by simp [c]), if_neg c, ih]; rfl
theorem entR_congr {α : Type} (name : ByteArray) (new : α) {row row' : ByteArray -> α} : ∀ (l : List ByteArray) (d : Bool), (∀ k ∈ l, row k = row' k) -> entR name new row d l = entR name new row' d l := by
 intro l
 induction l with
 | nil => intro d _; cases d <;> rfl
 | cons k r ih =>
  intro d h
  unfold entR
  rw [h k (List.mem_cons_self ..), ih true fun x hx => h x (List.mem_cons_of_mem _ hx), ih d fun x hx => h x (List.mem_cons_of_mem _ hx)]
theorem steps_nolink {A : AT} (hI : Inv A) {go : Int -> ByteArray -> Int -> Int × Pl × Int} (hgo : ∀ d s x, A.isDir d -> (go d s x).1 = 0 -> (go d s x).2.1.there = true -> A.kind (go d s x).2.1.ino ≠ 3) : ∀ (l : List ByteArray) (p : Pl) (h : Int), (p.there = true -> A.kind p.ino ≠ 3) -> (A.steps go true l p h).1 = 0 -> (A.steps go true l p h).2.1.there = true -> A.kind (A.steps go true l p h).2.1.ino ≠ 3 := by
 intro l
 induction l with
 | nil => intro p h hp _; exact hp
 | cons n r ih =>
  intro p h hp he
  cases h1 : p.there with
  | false => rw [steps_none h1] at he; cases he
  | true =>
   by_cases h2 : A.kind p.ino = 2
   case neg => rw [steps_notdir h1 h2] at he; cases he
   have hd := kind_dir h2
   cases h3 : sEq n ⟨⟨[46, 46]⟩⟩ with
   | true =>
    rw [steps_up h1 h2 h3] at he ⊢
    exact ih _ h (fun _ => by show A.kind (A.upOf p.ino) ≠ 3; rw [dir_kind (hI.isDir_up hd)]; decide) he
   | false =>
    by_cases h4 : n.size > 56
    ·rw [steps_long h1 h2 h3 h4] at he; cases he
    by_cases h5 : (A.find p.ino n).isSome = false \/ (r.isEmpty && !true) = true \/ A.kind ((A.find p.ino n).getD 0) ≠ 3
    ·rw [steps_name h1 h2 h3 h4 h5] at he ⊢
     refine ih _ h (fun hs => ?_) he
     have hs : (A.find p.ino n).isSome = true := hs
     rcases h5 with e | e | e
     ·rw [hs] at e; cases e
     ·simp at e
     ·exact e
    by_cases h6 : h - 1 < 0
    ·rw [steps_loop h1 h2 h3 h4 h5 h6] at he; cases he
    by_cases h7 : (go p.ino (A.data ((A.find p.ino n).getD 0)) (h - 1)).1 = 0
    ·rw [steps_link h1 h2 h3 h4 h5 h6 h7] at he ⊢
     exact ih _ _ (hgo _ _ _ hd h7) he
    ·rw [steps_err h1 h2 h3 h4 h5 h6 h7] at he; exact absurd he h7
theorem walk_nolink {A : AT} (hI : Inv A) : ∀ (f : Nat) (d : Int) (s : ByteArray) (h : Int), A.isDir d -> (A.walk f d s true h).1 = 0 -> (A.walk f d s true h).2.1.there = true -> A.kind (A.walk f d s true h).2.1.ino ≠ 3 := by
 intro f
 induction f with
 | zero => intro d s h _ he; cases he
 | succ f ih =>
  intro d s h hd he
  rw [AT.walk] at he ⊢
  by_cases hm : mayE s = 0
  case neg => rw [if_pos hm] at he; exact absurd he hm
  rw [if_neg (by simpa using hm)] at he ⊢
  refine steps_nolink hI (fun d s x hd he => ih d s x hd he) _ _ _ (fun _ => ?_) he
  show A.kind (if headIs 47 s then 1 else d) ≠ 3
  cases headIs 47 s with
  | true => rw [if_pos rfl, dir_kind hI.root_dir]; decide
  | false => rw [if_neg (by decide), dir_kind hd]; decide
theorem locate_nolink {A : AT} (hI : Inv A) (cwd path : ByteArray) (he : (A.locate cwd path true).1 = 0) (ht : (A.locate cwd path true).2.there = true) : A.kind (A.locate cwd path true).2.ino ≠ 3 := by
 unfold AT.locate at he ht ⊢
 cases h1 : sEq path ⟨⟨[]⟩⟩ with
 | true => rw [h1] at he; simp at he
 | false =>
  rw [h1] at he ht
  simp only [Bool.false_eq_true, if_false] at he ht ⊢
  cases h2 : headIs 47 path with
  | true => rw [h2] at he ht; exact walk_nolink hI 10 1 path 8 hI.root_dir he ht
  | false =>
   rw [h2] at he ht
   simp only [Bool.false_eq_true, if_false] at he ht ⊢
   cases h3 : headIs 47 cwd with
   | false => rw [h3] at he; simp at he
   | true =>
    rw [h3] at he ht
    simp only [Bool.true_eq_false, if_false] at he ht ⊢
    by_cases h4 : (A.walk 10 1 cwd true 8).1 = 0
    case neg => rw [if_pos h4] at he; exact absurd he h4
    rw [if_neg (by simpa using h4)] at he ht ⊢
    cases h5 : (A.walk 10 1 cwd true 8).2.1.there with
    | false => rw [h5] at he; simp at he
    | true =>
     rw [h5] at he ht
     simp only [Bool.true_eq_false, if_false] at he ht ⊢
     by_cases h6 : A.kind (A.walk 10 1 cwd true 8).2.1.ino = 2
     case neg => rw [if_pos h6] at he; simp at he
     rw [if_neg (by simpa using h6)] at he ht ⊢
     exact walk_nolink hI 10 _ path 8 (kind_dir h6) he ht
theorem kind_cases {k m : Int} {d : ByteArray} (h : likeE k m d = 0) : k = 1 \/ k = 2 \/ k = 3 := by
 unfold likeE at h
 by_cases hk : kindOkE k d = true
 ·unfold kindOkE at hk
  simp only [lk] at hk
  by_cases e1 : k = 1
  ·exact .inl e1
  by_cases e2 : k = 2
  ·exact .inr (.inl e2)
  by_cases e3 : k = 3
  ·exact .inr (.inr e3)
  have h1 : (k == 1) = false := by simpa using e1
  have h2 : (k == 2) = false := by simpa using e2
  have h3 : (k == 3) = false := by simpa using e3
  rw [h1, h2, h3] at hk
  simp at hk
 ·have : kindOkE k d = false := by simpa using hk
  rw [this] at h; simp at h
theorem mem_keysL {k : ByteArray} {es : List (ByteArray × Int)} : k ∈ keysL es ↔ ∃ v, lk k es = some v := by
 constructor
 ·intro h
  cases hl : lk k es with
  | none => exact absurd h (lk_none_iff.1 hl)
  | some v => exact ⟨v, rfl⟩
 ·rintro ⟨v, hv⟩
  apply Classical.byContradiction
  intro h; rw [lk_none_iff.2 h] at hv; cases hv
theorem sortN_rm {es : List (ByteArray × Int)} (h : (keysL es).Nodup) (name : ByteArray) : sortN (keysL (rm name es)) = (sortN (keysL es)).filter fun k => !strEq k name := by
 refine sorted_eq (sortN_sorted _) ((sortN_sorted _).filter _) ?_
 refine (sortN_perm _).trans (List.Perm.trans ?_ ((sortN_perm (keysL es)).filter _).symm)
 rw [List.perm_ext_iff_of_nodup (nodup_rm h) (h.filter _)]
 intro k
 rw [List.mem_filter, mem_keysL, mem_keysL]
 simp only [lk_rm h]
 have hs : (!strEq k name) = true ↔ k ≠ name := by
  cases e : strEq k name with
  | true => simp [strEq_iff.1 e]
  | false => simp; intro e2; rw [strEq_iff.2 e2] at e; cases e
 rw [hs]
 by_cases e : k = name
 ·subst e; simp
 ·have : (k == name) = false := by simpa using e
  simp [this, e]
def cntR (es : List (ByteArray × Int)) (j : Int) : List ByteArray -> Nat
 | [] => 0
 | k :: r => one j ((lk k es).getD 0) + cntR es j r
theorem cntR_perm (es : List (ByteArray × Int)) (j : Int) {l l' : List ByteArray} (h : l.Perm l') : cntR es j l = cntR es j l' := by
 induction h with
 | nil => rfl
 | cons x _ ih => simp only [cntR, ih]
 | swap x y l => simp only [cntR]; omega
 | trans _ _ h1 h2 => rw [h1, h2]
theorem cntR_app (es : List (ByteArray × Int)) (j : Int) (a b : List ByteArray) : cntR es j (a ++ b) = cntR es j a + cntR es j b := by
 induction a with
 | nil => simp [cntR]
 | cons x a ih => simp only [List.cons_append, cntR, ih]; omega
theorem cntR_keys {es : List (ByteArray × Int)} (j : Int) (h : (keysL es).Nodup) : cntR es j (keysL es) = sumF (one j) es := by
 have key : ∀ l : List (ByteArray × Int), (∀ p ∈ l, lk p.1 es = some p.2) -> cntR es j (keysL l) = sumF (one j) l := by
  intro l
  induction l with
  | nil => intro _; rfl
  | cons p r ih =>
   intro hl
   obtain ⟨k, v⟩ := p
   have h1 := hl (k, v) (List.mem_cons_self ..)
   show one j ((lk k es).getD 0) + cntR es j (keysL r) = one j v + sumF (one j) r
   rw [ih fun q hq => hl q (List.mem_cons_of_mem _ hq)]
   have h1 : lk k es = some v := h1
   rw [h1]; rfl
 exact key es fun p hp => lk_of_mem h hp
theorem cntR_sorted {es : List (ByteArray × Int)} (j : Int) (h : (keysL es).Nodup) : cntR es j (sortN (keysL es)) = sumF (one j) es := by
 rw [cntR_perm es j (sortN_perm _), cntR_keys j h]
end Go.Wk

set_option maxRecDepth 100000
namespace Go.Proofs.YtbjbeajbckcecaaGreatDoor
open Go Go.HL Go.Wk
attribute [local irreducible] ptrW ifW brW andW rdT alW letJ stW muW biW vaW imW callT cvalT app callW invW callVW sizeT oW nilF oneK loopW rfW funW begW roundK exW idxW Gr Put
section
variable {σ : H} {b : Nat} {A : AT} {M : RfM} {N : Nat}
theorem RfIn.ptr (h : RfIn σ b A M) {i : Nat} (hi : i < A.last.toNat) : ∃ g o, M.x.base = some ⟨g, o, none⟩ /\ (0 <= (i : Int) /\ (i : Int) < ((M.x.len : Nat) : Int)) /\ rdC g (o + (i : Int).toNat * 1) σ = some (.pointer (if (A.get ((i : Int) + 1)).isSome then some ⟨M.cb ((i : Int) + 1), 0, none⟩ else none)) := by
 have hl := h.len
 have hr : (ptrRow A M.cb)[i]? = some [.pointer (if (A.get ((i : Int) + 1)).isSome then some ⟨M.cb ((i : Int) + 1), 0, none⟩ else none)] := by
  unfold ptrRow
  rw [List.getElem?_map, List.getElem?_range (by omega)]; rfl
 obtain ⟨h1, h4 | ⟨g, o, cur, t, fz, q2, q3, q4⟩⟩ := h.tab.rows
 ·rw [h4] at hr; simp at hr
 ·refine ⟨g, o, q2, by omega, rdC_of q3 ?_⟩
  obtain ⟨_, h5⟩ := q4 _ _ hr
  have : ((cur.drop (o + i * 1)).take 1)[0]? = some (.pointer (if (A.get ((i : Int) + 1)).isSome then some ⟨M.cb ((i : Int) + 1), 0, none⟩ else none)) := by rw [h5]; rfl
  rw [List.getElem?_take] at this
  simpa using this
theorem s_rfUsed (hI : Wk.Inv A) (hB : Bd N A) (hN : N <= 1000000000000) (hM : RfIn σ b A M) {K : KH} (hK : K (.agg ⟨[.int .i64 A.ui, .int .i64 A.ub]⟩) σ) : callW Tryz.prog 40 [.pointer (some ⟨b, 0, none⟩)] K σ := by
 refine pure_i _ hK (c40 _ ?_)
 clear hK
 unfold g40
 refine al_i ?_; intro b2 σ1 g1 e1 n1
 refine al_i ?_; intro b3 σ2 g2 e2 n2
 refine st_i2 e2 sz_Quota (by rfl) (by rfl) ?_; intro σ3 p3
 have n3 : σ b3 = none := none_of g1 n2
 have n23 : b2 ≠ b3 := by intro e; rw [<- e, e1] at n2; cases n2
 have k3 : σ3 b3 = some (.cells ⟨[.int .i64 0, .int .i64 0]⟩ 64 (0, 0)) := p3.same
 have k2 : σ3 b2 = some (.cells ⟨[.int .i64 0, .int .i64 0]⟩ 64 (0, 0)) := p3.get n23 (g2.get e1)
 have g3 : Gr σ σ3 := (g1.trans g2).putF p3 n3
 clear p3 e1 e2
 refine loop_i ?_
 intro R hR
 obtain ⟨u1, u2⟩ := hI.sums
 have hl := hM.len
 have hlast := hB.last
 have hub := hI.bq
 have huq := hI.uq
 have key : ∀ (c i : Nat) (τ : H), c + i = A.last.toNat -> Gr σ τ -> τ b2 = some (.cells ⟨[.int .i64 0, .int .i64 0]⟩ 64 (0, 0)) -> τ b3 = some (.cells ⟨[.int .i64 (sumL (fun _ => 1) A.nodes i : Int), .int .i64 (sumL (fun n => n.data.size) A.nodes i : Int)]⟩ 64 (0, 0)) ->
  R (some ⟨b, 0, none⟩) (some ⟨b2, 0, none⟩) (some ⟨b3, 0, none⟩) (i : Int) τ := by
  intro c
  induction c with
  | zero =>
   intro i τ hc hg k2 k3
   have hMt := hM.gr hg
   refine hR _ _ _ _ _ ?_
   refine ptr_i (rd_L (rdC_of hMt.top (by rfl)) (br_f (by simp only [decide_eq_false_iff_not]; omega) ?_))
   refine ptr_i (rd_G (rdA_of' k3 (by rfl)) ?_)
   (refine app_of rfl ?_; try dsimp only)
   refine st_i2 k2 sz_Quota (by rfl) (by rfl) ?_; intro τ' p
   refine ptr_i (rd_G (rdA_of' p.same (by rfl)) ?_)
   (refine app_of rfl ?_; try dsimp only)
   have hi : i = A.last.toNat := by omega
   rw [hi, u1, u2]
   exact ⟨rfl, hg.putF p n1⟩
  | succ c ih =>
   intro i τ hc hg k2 k3
   have hMt := hM.gr hg
   obtain ⟨gs, os, s1, s2, s3⟩ := hMt.ptr (i := i) (by omega)
   refine hR _ _ _ _ _ ?_
   refine ptr_i (rd_L (rdC_of hMt.top (by rfl)) (br_t (by simp only [decide_eq_true_eq]; omega) ?_))
   refine j_i (fun j => ∀ τ', Gr σ τ' -> τ' b2 = some (.cells ⟨[.int .i64 0, .int .i64 0]⟩ 64 (0, 0)) -> τ' b3 = some (.cells ⟨[.int .i64 (sumL (fun _ => 1) A.nodes (i + 1) : Int), .int .i64 (sumL (fun n => n.data.size) A.nodes (i + 1) : Int)]⟩ 64 (0, 0)) -> j (some ⟨b, 0, none⟩) (some ⟨b2, 0, none⟩) (some ⟨b3, 0, none⟩) (i : Int) τ') ?_ ?_
   ·intro τ' a1 a2 a3
    rw [wrap_id (x := (i : Int) + 1) (by omega) (by omega)]
    rw [show (i : Int) + 1 = ((i + 1 : Nat) : Int) from by omega]
    exact ih (i + 1) τ' (by omega) a1 a2 a3
   intro j hj
   refine ptr_i (rd_L (rdC_of hMt.top (by rfl)) ?_)
   rw [s1]
   refine ptr_i (if_i s2 (rd_P s3 ?_))
   have hm1 := sumL_mono (fun _ => 1) A.nodes (n := i + 1) (m := A.last.toNat) (by omega)
   have hm2 := sumL_mono (fun n => n.data.size) A.nodes (n := i + 1) (m := A.last.toNat) (by omega)
   cases hget : A.get ((i : Int) + 1) with
   | none =>
    have z1 : sumL (fun _ => 1) A.nodes (i + 1) = sumL (fun _ => 1) A.nodes i := by
     simp only [sumL]; rw [show lk ((i : Int) + 1) A.nodes = none from hget]; rfl
    have z2 : sumL (fun n => n.data.size) A.nodes (i + 1) = sumL (fun n => n.data.size) A.nodes i := by
     simp only [sumL]; rw [show lk ((i : Int) + 1) A.nodes = none from hget]; rfl
    refine br_f rfl (hj τ hg k2 ?_)
    rw [z1, z2]; exact k3
   | some n =>
    have z1 : sumL (fun _ => 1) A.nodes (i + 1) = sumL (fun _ => 1) A.nodes i + 1 := by
     simp only [sumL]; rw [show lk ((i : Int) + 1) A.nodes = some n from hget]; rfl
    have z2 : sumL (fun n => n.data.size) A.nodes (i + 1) = sumL (fun n => n.data.size) A.nodes i + n.data.size := by
     simp only [sumL]; rw [show lk ((i : Int) + 1) A.nodes = some n from hget]; rfl
    rw [z1] at hm1
    rw [z2] at hm2
    refine br_t rfl (ptr_i (rd_I (rdC_of k3 (by rfl)) (ptr_i ?_)))
    rw [wrap_id (by omega) (by omega)]
    refine st_i2 k3 sz_int (by rfl) (by rfl) ?_; intro τ1 p1
    have k31 : τ1 b3 = some (.cells ⟨[.int .i64 ((sumL (fun _ => 1) A.nodes i : Int) + 1), .int .i64 (sumL (fun n => n.data.size) A.nodes i : Int)]⟩ 64 (0, 0)) := p1.same
    have hg1 := hg.putF p1 n3
    have hM1 := hM.gr hg1
    obtain ⟨gs, os, s1, s2, s3⟩ := hM1.ptr (i := i) (by omega)
    rw [hget] at s3
    refine ptr_i (rd_I (rdC_of k31 (by rfl)) (ptr_i (rd_L (rdC_of hM1.top (by rfl)) ?_)))
    rw [s1]
    refine ptr_i (if_i s2 (rd_P s3 (ptr_i (rd_S (rdC_of (hM1.nod _ _ hget) (by rfl)) (ptr_i ?_)))))
    rw [wrap_id (by omega) (by omega)]
    refine st_i2 k31 sz_int (by rfl) (by rfl) ?_; intro τ2 p2
    refine hj τ2 (hg1.putF p2 n3) (p2.get n23 (p1.get n23 k2)) ?_
    have := p2.same
    rw [z1, z2]
    have e1 : ((sumL (fun _ => 1) A.nodes i + 1 : Nat) : Int) = (sumL (fun _ => 1) A.nodes i : Int) + 1 := by omega
    have e2 : ((sumL (fun n => n.data.size) A.nodes i + n.data.size : Nat) : Int) = (sumL (fun n => n.data.size) A.nodes i : Int) + ((n.data.size : Nat) : Int) := by omega
    rw [e1, e2]
    exact this
 exact key A.last.toNat 0 σ3 (by omega) g3 k2 k3
theorem s_rfRoom (hI : Wk.Inv A) (hB : Bd N A) (hN : N <= 1000000000000) (hM : RfIn σ b A M) (i n : Int) {K : KH} (hK : K (.bool (A.roomE i n == 0)) σ) : callW Tryz.prog 129 [.pointer (some ⟨b, 0, none⟩), .int .i64 i, .int .i64 n] K σ := by
 refine pure_i _ hK (c129 _ _ _ ?_)
 clear hK
 unfold g129
 refine call_i (s_rfUsed hI hB hN hM ?_)
 (refine app_of rfl ?_; try dsimp only)
 refine al_i ?_; intro b6 σ1 g1 e1 n1
 refine st_i2 e1 sz_Quota (by rfl) (by rfl) ?_; intro σ2 p2
 have hg : Gr σ σ2 := g1.putF p2 n1
 have hM2 := hM.gr hg
 have k6 : σ2 b6 = some (.cells ⟨[.int .i64 A.ui, .int .i64 A.ub]⟩ 64 (0, 0)) := p2.same
 refine rd_I (rdC_of k6 (by rfl)) (ptr_i (rd_I (rdC_of hM2.top (by rfl)) ?_))
 have hr : (A.roomE i n == 0) = (decide (wr (A.ui + i) <= A.qi) && decide (wr (A.ub + n) <= A.qb)) := by
  unfold AT.roomE
  by_cases h1 : wr (A.ui + i) <= A.qi <;> by_cases h2 : wr (A.ub + n) <= A.qb <;> simp [h1, h2]
 rw [hr]
 cases h1 : decide (wr (A.ui + i) <= A.qi) with
 | true =>
  refine br_t h1 (rd_I (rdC_of k6 (by rfl)) (ptr_i (rd_I (rdC_of hM2.top (by rfl)) ?_)))
  exact ⟨rfl, hg⟩
 | false => exact br_f h1 ⟨rfl, hg⟩
end
theorem s_rfNew (qi qb : Int) {σ : H} {K : KH} (hN : newOk qi qb = false -> ∀ σ', Gr σ σ' -> K (.pointer none) σ')
 (hK : newOk qi qb = true -> ∀ bf σ' D, RfAt σ' bf (newT qi qb) D -> Gr σ σ' -> (∀ c, D c -> σ c = none) -> K (.pointer (some ⟨bf, 0, none⟩)) σ') :
 callW Tryz.prog 32 [.agg ⟨[.int .i64 qi, .int .i64 qb]⟩] K σ := by
 refine c32 _ _ ?_
 unfold g32
 refine al_i ?_; intro b3 σ1 g1 e1 n1
 refine j_i (fun j => ∀ t : Bool, t = !newOk qi qb -> j (some ⟨b3, 0, none⟩) t σ1) ?_ ?_
 ·intro t ht
  cases t with
  | true => exact br_t rfl (hN (by cases h : newOk qi qb <;> simp [h] at ht ⊢) σ1 g1)
  | false =>
   refine br_f rfl (ptr_i (rd_G (rdA_of' e1 (by rfl)) ?_))
   (refine app_of rfl ?_; try dsimp only)
   refine al_i ?_; intro b11 σ2 g2 e2 n2
   refine al_i ?_; intro b12 σ3 g3 e3 n3
   refine al_i ?_; intro b13 σ4 g4 e4 n4
   have z11 : σ b11 = none := none_of g1 n2
   have z12 : σ b12 = none := none_of (g1.trans g2) n3
   have z13 : σ b13 = none := none_of ((g1.trans g2).trans g3) n4
   have d1 : b11 ≠ b12 := by intro e; rw [<- e, e2] at n3; cases n3
   have d2 : b11 ≠ b13 := by intro e; rw [<- e, g3.get e2] at n4; cases n4
   have d3 : b12 ≠ b13 := by intro e; rw [<- e, e3] at n4; cases n4
   have hget : ∀ i n, (newT qi qb).get i = some n -> i = 1 /\ n = ⟨2, 493, ⟨⟨[]⟩⟩, 1, 1, []⟩ := by
    intro i n h
    unfold AT.get newT at h
    simp only [lk] at h
    by_cases e : i = 1
    ·subst e; simp at h; exact ⟨rfl, h.symm⟩
    ·have : (i == 1) = false := by simpa using e
     rw [this] at h; simp at h
   refine hK (by cases h : newOk qi qb <;> simp [h] at ht ⊢) b13 σ4 (fun c => c = b11 \/ c = b12 \/ c = b13) ⟨⟨⟨some ⟨b12, 0, none⟩, 1, 1⟩, fun _ => b11, fun _ => ⟨none, 0, 0⟩, fun c => if c = b13 then some (0, false) else if c = b12 then some (0, true) else if c = b11 then some (1, false) else none⟩, ⟨?_, ?_, ?_, ?_, ?_, ?_, ?_, ?_, ?_⟩, ?_⟩ (((g1.trans g2).trans g3).trans g4) ?_
   ·exact e4
   ·refine ⟨rfl, by intro r hr; unfold ptrRow at hr; rw [List.mem_map] at hr; obtain ⟨_, _, rfl⟩ := hr; rfl, .inr ⟨b12, [.pointer (some ⟨b11, 0, none⟩)], rfl, g4.get e3, rfl, Nat.le_refl _, rfl⟩⟩
   ·intro i n hn
    obtain ⟨rfl, rfl⟩ := hget i n hn
    exact (g3.trans g4).get e2
   ·intro i n hn
    obtain ⟨rfl, rfl⟩ := hget i n hn
    exact RowsOwn.nil _ _ _
   ·simp
   ·intro g hg
    have hg : some (⟨b12, 0, none⟩ : Addr) = some ⟨g, 0, none⟩ := hg
    injection hg with hg
    injection hg with hg
    subst hg
    simp [d3]
   ·intro i n hn
    obtain ⟨rfl, rfl⟩ := hget i n hn
    simp [d1, d2]
   ·intro i n g _ h; cases h
   ·intro c hc
    by_cases h1 : c = b13
    ·subst h1; rw [e4]; simp
    by_cases h2 : c = b12
    ·subst h2; rw [g4.get e3]; simp
    by_cases h3 : c = b11
    ·subst h3; rw [(g3.trans g4).get e2]; simp
    ·simp [h1, h2, h3] at hc
   ·intro c
    by_cases h1 : c = b13
    ·simp [h1]
    by_cases h2 : c = b12
    ·simp [h2, d3]
    by_cases h3 : c = b11
    ·simp [h3, d1, d2]
    ·simp [h1, h2, h3]
   ·rintro c (h | h | h) <;> subst h
    ·exact z11
    ·exact z12
    ·exact z13
 ·intro j hj
  have hnew : (!newOk qi qb) = (decide (qi < 1) || (decide (qi > 1048576) || (decide (qb < 0) || decide (qb > 1073741824)))) := by unfold newOk; simp
  rw [hnew] at hj
  refine rd_I (rdC_of e1 (by rfl)) ?_
  by_cases c1 : qi < 1
  ·exact br_t (by simpa using c1) (hj true (by simp [c1]))
  refine br_f (by simpa using c1) (rd_I (rdC_of e1 (by rfl)) ?_)
  by_cases c2 : qi > 1048576
  ·exact br_t (by simpa using c2) (hj true (by simp [c2]))
  refine br_f (by simpa using c2) (rd_I (rdC_of e1 (by rfl)) ?_)
  by_cases c3 : qb < 0
  ·exact br_t (by simpa using c3) (hj true (by simp [c3]))
  refine br_f (by simpa using c3) (rd_I (rdC_of e1 (by rfl)) ?_)
  exact hj _ (by simp [c1, c2, c3])
section
variable {σ σ' : H} {b : Nat} {A : AT} {M : RfM} {N : Nat}
def RfM.setE (M : RfM) (i : Int) (y' : Sl) : RfM := ⟨M.x, M.cb, fun j => if j = i then y' else M.ey j, fun c => if y'.base = some ⟨c, 0, none⟩ then some (i, true) else M.w c⟩
theorem RfIn.low (h : RfIn σ b A M) (hL : ∀ i n, A.get i = some n -> 1 <= i) {i : Int} {n : AN} (hn : A.get i = some n) : M.cb i ≠ b /\ M.x.base ≠ some ⟨M.cb i, 0, none⟩ := by
 have h1 := h.wn i n hn
 have := hL i n hn
 refine ⟨?_, ?_⟩
 ·intro e; rw [e, h.wb] at h1; injection h1 with h1; injection h1 with h1 _; omega
 ·intro e; rw [h.wt _ e] at h1; injection h1 with h1; injection h1 with h1 _; omega
theorem RfIn.setN (h : RfIn σ b A M) (hL : ∀ i n, A.get i = some n -> 1 <= i) {i : Int} {n n' : AN} (hn : A.get i = some n) {y' : Sl} (hp : Put σ (M.cb i) (nodeO n' y') σ') (ho : RowsOwn σ 245 2 (eRow n'.ents) y') (hy : ∀ g, y'.base = some ⟨g, 0, none⟩ -> M.w g = none \/ M.w g = some (i, true)) : RfIn σ' b (A.set i n') (M.setE i y') := by
 obtain ⟨q1, q2⟩ := h.low hL hn
 have hw := h.wn i n hn
 have hi1 := hL i n hn
 have hycb : y'.base ≠ some ⟨M.cb i, 0, none⟩ := by
  intro e
  rcases hy _ e with e2 | e2 <;> rw [hw] at e2
  ·cases e2
  ·injection e2 with e2; injection e2 with _ e2; cases e2
 have hyw : ∀ c r, M.w c = some r -> r ≠ (i, true) -> y'.base ≠ some ⟨c, 0, none⟩ := by
  intro c r hc hr e
  rcases hy _ e with e2 | e2 <;> rw [hc] at e2
  ·cases e2
  ·injection e2 with e2; exact hr e2
 have hcb : ∀ j m, A.get j = some m -> j ≠ i -> M.cb j ≠ M.cb i := by
  intro j m hm hj e
  have := h.wn j m hm
  rw [e, hw] at this; injection this with this; injection this with this _; exact hj this.symm
 have hget : ∀ j m, (A.set i n').get j = some m -> (j = i /\ m = n') \/ (j ≠ i /\ A.get j = some m) := by
  intro j m hm
  rw [AT.get_set] at hm
  by_cases e : j = i
  ·rw [if_pos e] at hm; exact .inl ⟨e, (Option.some.inj hm).symm⟩
  ·rw [if_neg e] at hm; exact .inr ⟨e, hm⟩
 refine ⟨?_, ?_, ?_, ?_, ?_, ?_, ?_, ?_, ?_⟩
 ·exact hp.get (Ne.symm q1) h.top
 ·have : ptrRow (A.set i n') M.cb = ptrRow A M.cb := by
   unfold ptrRow
   apply List.map_congr_left
   intro k _
   rw [AT.get_set]
   by_cases e : (k : Int) + 1 = i
   ·rw [if_pos e, e, hn]; rfl
   ·rw [if_neg e]
  show RowsOwn σ' 128 1 (ptrRow (A.set i n') M.cb) M.x
  rw [this]
  exact h.tab.put hp q2
 ·intro j m hm
  rcases hget j m hm with ⟨e1, e2⟩ | ⟨e1, e2⟩
  ·subst e1; subst e2
   show σ' (M.cb j) = some (nodeO m (if j = j then y' else M.ey j))
   rw [if_pos rfl]; exact hp.same
  ·show σ' (M.cb j) = some (nodeO m (if j = i then y' else M.ey j))
   rw [if_neg e1]; exact hp.get (hcb j m e2 e1) (h.nod j m e2)
 ·intro j m hm
  rcases hget j m hm with ⟨e1, e2⟩ | ⟨e1, e2⟩
  ·subst e1; subst e2
   show RowsOwn σ' 245 2 (eRow m.ents) (if j = j then y' else M.ey j)
   rw [if_pos rfl]; exact ho.put hp hycb
  ·show RowsOwn σ' 245 2 (eRow m.ents) (if j = i then y' else M.ey j)
   rw [if_neg e1]
   refine (h.ent j m e2).put hp fun e => ?_
   have := h.we j m _ e2 e
   rw [hw] at this; injection this with this; injection this with _ this; cases this
 ·show (if y'.base = some ⟨b, 0, none⟩ then some (i, true) else M.w b) = _
  rw [if_neg (hyw b _ h.wb (by intro e; injection e with e _; omega))]; exact h.wb
 ·intro g hg
  show (if y'.base = some ⟨g, 0, none⟩ then some (i, true) else M.w g) = _
  have := h.wt g hg
  rw [if_neg (hyw g _ this (by intro e; injection e with e _; omega))]; exact this
 ·intro j m hm
  show (if y'.base = some ⟨M.cb j, 0, none⟩ then some (i, true) else M.w (M.cb j)) = _
  have : M.w (M.cb j) = some (j, false) := by
   rcases hget j m hm with ⟨e1, e2⟩ | ⟨e1, e2⟩
   ·rw [e1]; exact hw
   ·exact h.wn j m e2
  rw [if_neg (hyw _ _ this (by intro e; injection e with _ e; cases e))]; exact this
 ·intro j m g hm hg
  show (if y'.base = some ⟨g, 0, none⟩ then some (i, true) else M.w g) = _
  rcases hget j m hm with ⟨e1, e2⟩ | ⟨e1, e2⟩
  ·subst e1
   have hg : (if j = j then y' else M.ey j).base = some ⟨g, 0, none⟩ := hg
   rw [if_pos rfl] at hg
   rw [if_pos hg]
  ·have hg : (if j = i then y' else M.ey j).base = some ⟨g, 0, none⟩ := hg
   rw [if_neg e1] at hg
   have := h.we j m g e2 hg
   rw [if_neg (hyw g _ this (by intro e; injection e with e _; exact e1 e))]; exact this
 ·intro c hc
  have hc : (if y'.base = some ⟨c, 0, none⟩ then some (i, true) else M.w c) ≠ none := hc
  have hs : σ c ≠ none := by
   by_cases e : y'.base = some ⟨c, 0, none⟩
   ·exact ho.has e
   ·rw [if_neg e] at hc; exact h.has c hc
  cases ho2 : σ c with
  | none => exact absurd ho2 hs
  | some o =>
   by_cases e : c = M.cb i
   ·rw [e, hp.same]; simp
   ·rw [hp.get e ho2]; simp
theorem und_REnts : Tryz.prog.underlying 129 = some (.slice 245) := by kernel_rfl
theorem info_REntry : ∃ i z, Tryz.prog.info? 245 = some i /\ i.zero = some z /\ i.size = 2 /\ i.bytes = 24 /\ z.cells.size = 2 := by
 have h1 : (Tryz.prog.info? 245).map (fun i => (i.zero.map (fun z => z.cells.size), i.size, i.bytes)) = some (some 2, 2, 24) := by kernel_rfl
 cases hi : Tryz.prog.info? 245 with
 | none => rw [hi] at h1; cases h1
 | some i =>
  rw [hi] at h1
  simp only [Option.map_some, Option.some.injEq, Prod.mk.injEq] at h1
  cases hz : i.zero with
  | none => rw [hz] at h1; cases h1.1
  | some z =>
   rw [hz] at h1
   exact ⟨i, z, rfl, hz, h1.2.1, h1.2.2, by simpa using h1.1⟩
def EntNew (σ0 σ : H) (l : List (List Value)) (y : Sl) : Prop := Gr σ0 σ /\ RowsOwn σ 245 2 l y /\ ∀ g, y.base = some ⟨g, 0, none⟩ -> σ0 g = none
theorem app_ent {σ0 σ : H} {l : List (List Value)} {y : Sl} {s : ByteArray} {v : Int} {ty : TypeId} {cs : List Bool} (h : EntNew σ0 σ l y) (hl : l.length < 1000000000) {F : Sl -> H -> Prop} (hF : ∀ y' σ', EntNew σ0 σ' (l ++ [[.string s, .int .i64 v]]) y' -> (∀ c o, σ c = some o -> y.base ≠ some ⟨c, 0, none⟩ -> σ' c = some o) -> F y' σ') :
 alW (.cells ⟨[.string s, .int .i64 v]⟩ 245 (0, 0)) (fun (b48 : Nat) => biW Tryz.prog .append #[129, 129] ty cs [.slice y.base y.len y.cap, .slice (some ⟨b48, 0, none⟩) 1 1] kL F) σ := by
 obtain ⟨h1, h2, h3⟩ := h
 refine al_i ?_; intro b48 σ1 g1 e1 n1
 obtain ⟨i, z, i1, i2, i3, i4, i5⟩ := info_REntry
 refine append_i und_REnts i1 i2 i3 i4 i5 (by decide) (h2.gr g1) e1 rfl (by intro u hu; simp at hu; rcases hu with rfl | rfl <;> rfl) hl (by decide) ?_
 intro y' σ' hy' hcase
 refine hF y' σ' ⟨?_, hy', ?_⟩ ?_
 ·rcases hcase with ⟨g, o, q1, q2, q3⟩ | ⟨g, q1, q2, q3⟩
  ·exact (h1.trans g1).putF q3 (h3 g q1)
  ·exact (h1.trans g1).trans q3
 ·intro g hg
  rcases hcase with ⟨g', o, q1, q2, q3⟩ | ⟨g', q1, q2, q3⟩
  ·rw [q2] at hg; exact h3 g hg
  ·rw [q1] at hg
   injection hg with hg
   injection hg with hg
   subst hg
   exact none_of (h1.trans g1) q2
 ·intro c o hc hne
  rcases hcase with ⟨g, o', q1, q2, q3⟩ | ⟨g, q1, q2, q3⟩
  ·exact q3.get (fun e => hne (by rw [e]; exact q1)) (g1.get hc)
  ·exact q3.get (g1.get hc)
theorem sz_REntry : sizeT Tryz.prog 245 = some 2 := by kernel_rfl
theorem sz_REnts : sizeT Tryz.prog 129 = some 1 := by kernel_rfl
theorem RfIn.slot2 (h : RfIn σ b A M) (hL : ∀ i n, A.get i = some n -> 1 <= i /\ i <= A.last) {d : Int} {n : AN} (hn : A.get (d + 1) = some n) : ∃ g o, M.x.base = some ⟨g, o, none⟩ /\ (0 <= d /\ d < ((M.x.len : Nat) : Int)) /\ rdC g (o + d.toNat * 1) σ = some (.pointer (some ⟨M.cb (d + 1), 0, none⟩)) := by
 obtain ⟨l1, l2⟩ := hL _ _ hn
 obtain ⟨g, o, h1, h2, h3⟩ := h.ptr (i := d.toNat) (by omega)
 have e : ((d.toNat : Nat) : Int) = d := by omega
 rw [e, hn] at h3
 rw [e] at h2
 exact ⟨g, o, h1, h2, h3⟩
theorem rf_at2 (h : RfIn σ b A M) (hL : ∀ i n, A.get i = some n -> 1 <= i /\ i <= A.last) {d : Int} {n : AN} (hn : A.get (d + 1) = some n) {F : Nat -> Nat -> H -> Prop} (hF : F (M.cb (d + 1)) 0 σ) :
 ptrW (some ⟨b, 0, none⟩) (fun (b4 o5 : Nat) => rdT (rdC b4 (o5 + 2)) kL (fun (x6 : Sl) => ptrW x6.base (fun (b7 o8 : Nat) => ifW (0 <= d /\ d < ((x6.len : Nat) : Int)) (rdT (rdC b7 (o8 + d.toNat * 1)) kP (fun x9 => ptrW x9 F))))) σ := by
 obtain ⟨g, o, h1, h2, h3⟩ := h.slot2 hL hn
 refine ptr_i (rd_L (rdC_of h.top (by rfl)) ?_)
 rw [h1]
 exact ptr_i (if_i h2 (rd_P h3 (ptr_i hF)))
theorem RfIn.congr (h : RfIn σ b A M) {A' : AT} (q1 : A'.qi = A.qi) (q2 : A'.qb = A.qb) (q3 : A'.last = A.last) (hg : ∀ j, A'.get j = A.get j) : RfIn σ b A' M := by
 refine ⟨?_, ?_, fun i n hn => h.nod i n (by rw [<- hg]; exact hn), fun i n hn => h.ent i n (by rw [<- hg]; exact hn), h.wb, h.wt, fun i n hn => h.wn i n (by rw [<- hg]; exact hn), fun i n g hn => h.we i n g (by rw [<- hg]; exact hn), h.has⟩
 ·rw [q1, q2]; exact h.top
 ·have : ptrRow A' M.cb = ptrRow A M.cb := by unfold ptrRow; rw [q3]; apply List.map_congr_left; intro k _; rw [hg]
  rw [this]; exact h.tab
theorem s_rfEnter {dir ino : Int} {nd ni : AN} {name : ByteArray} (hM : RfIn σ b A M) (hL : ∀ i n, A.get i = some n -> 1 <= i /\ i <= A.last) (hz : A.last <= 1000000000000) (hd : A.get (dir + 1) = some nd) (hi : A.get (ino + 1) = some ni) (hne : dir ≠ ino) (hnk : lk name nd.ents = none) (hnod : (keysL nd.ents).Nodup) (hlen : nd.ents.length <= 100000000) {K : KH}
 (hK : ∀ σ' M', (∀ A' : AT, A'.qi = A.qi -> A'.qb = A.qb -> A'.last = A.last -> (∀ j, A'.get j = if j = ino + 1 then some (if ni.kind = 2 then { ni with up := dir + 1 } else ni) else if j = dir + 1 then some { nd with ents := up name (ino + 1) nd.ents } else A.get j) -> RfIn σ' b A' M') -> (∀ c o, σ c = some o -> M.w c = none -> σ' c = some o /\ M'.w c = none) -> K (.tuple ⟨[]⟩) σ') :
 callW Tryz.prog 145 [.pointer (some ⟨b, 0, none⟩), .int .i64 dir, .string name, .int .i64 ino] K σ := by
 refine c145 _ _ _ _ ?_
 unfold g145
 refine loop_i ?_
 intro R hR
 generalize hks : sortN (keysL nd.ents) = ks
 have hkl : ks.length = nd.ents.length := by rw [<- hks, (sortN_perm _).length_eq]; simp [keysL]
 have hke : ∀ {τ : H}, RfIn τ b A M -> (M.ey (dir + 1)).len = ks.length := by
  intro τ h
  have := (h.ent _ _ hd).1
  rw [<- hks]; simpa [eRow] using this
 have hnm : name ∉ ks := by rw [<- hks]; intro h; exact (lk_none_iff.1 hnk) ((sortN_perm _).mem_iff.1 h)
 have hT : entR name [.string name, .int .i64 ino] (fun k => [Value.string k, .int .i64 ((lk k nd.ents).getD 0 - 1)]) false ks = eRow (up name (ino + 1) nd.ents) := by
  unfold eRow
  rw [keys_up_none hnk, sortN_snoc, hks, <- entR_eq]
  have e1 : [Value.string name, .int .i64 ((lk name (up name (ino + 1) nd.ents)).getD 0 - 1)] = [Value.string name, .int .i64 ino] := by
   rw [lk_up]; simp
  rw [e1]
  refine entR_congr _ _ ks false fun k hk => ?_
  have : k ≠ name := fun e => hnm (by rw [<- e]; exact hk)
  rw [lk_up]
  have : (k == name) = false := by simpa using this
  rw [this]; rfl
 generalize hTe : eRow (up name (ino + 1) nd.ents) = T at hT
 have wnew : ∀ c, σ c = none -> M.w c = none := fun c hc => hM.new hc
 have key : ∀ (c i : Nat) (l : Sl) (done : Bool) (acc : List (List Value)) (τ : H), c + i = ks.length -> EntNew σ τ acc l -> acc.length <= 2 * i -> acc ++ entR name [.string name, .int .i64 ino] (fun k => [Value.string k, .int .i64 ((lk k nd.ents).getD 0 - 1)]) done (ks.drop i) = T -> R (some ⟨b, 0, none⟩) dir name ino l done (i : Int) τ := by
  intro c
  induction c with
  | zero =>
   intro i l done acc τ hc hE hal hacc
   have hMt := hM.gr hE.1
   have hlen2 := hke hMt
   rw [show ks.drop i = [] from List.drop_eq_nil_of_le (by omega)] at hacc
   refine hR _ _ _ _ _ _ _ _ ?_
   refine rf_at2 hMt hL hd (rd_L (rdC_of (hMt.nod _ _ hd) (by rfl)) (br_f (by simp only [decide_eq_false_iff_not]; omega) ?_))
   refine j_i (fun j => ∀ l' τ', EntNew σ τ' T l' -> j (some ⟨b, 0, none⟩) dir ino l' τ') ?_ ?_
   case refine_2 =>
    intro j hj
    cases done with
    | true =>
     have : acc = T := by simpa [entR] using hacc
     rw [this] at hE
     exact br_f rfl (hj l τ hE)
    | false =>
     refine br_t rfl (app_ent hE (by omega) ?_)
     intro l' τ' hE' _
     have : acc ++ [[Value.string name, .int .i64 ino]] = T := by simpa [entR] using hacc
     rw [this] at hE'
     exact hj l' τ' hE'
   intro l' τ' hE'
   have hM' := hM.gr hE'.1
   have hlow : ∀ i n, A.get i = some n -> 1 <= i := fun i n hn => (hL i n hn).1
   refine rf_at2 hM' hL hd ?_
   refine st_i2 (hM'.nod _ _ hd) sz_REnts (by rfl) (by rfl) ?_; intro τ1 p1
   have p1' : Put τ' (M.cb (dir + 1)) (nodeO { nd with ents := up name (ino + 1) nd.ents } l') τ1 := p1
   clear p1
   have hM1 := hM'.setN hlow hd (n' := { nd with ents := up name (ino + 1) nd.ents }) (y' := l') p1' (by rw [show eRow ({ nd with ents := up name (ino + 1) nd.ents } : AN).ents = T from hTe]; exact hE'.2.1) (fun g hg => .inl (wnew g (hE'.2.2 g hg)))
   have hgi : (A.set (dir + 1) { nd with ents := up name (ino + 1) nd.ents }).get (ino + 1) = some ni := by rw [AT.get_set_ne _ _ (by omega)]; exact hi
   have hL1 : ∀ i n, (A.set (dir + 1) { nd with ents := up name (ino + 1) nd.ents }).get i = some n -> 1 <= i /\ i <= (A.set (dir + 1) { nd with ents := up name (ino + 1) nd.ents }).last := by
    intro i n hn
    rw [AT.get_set] at hn
    by_cases e : i = dir + 1
    ·rw [e]; exact hL _ _ hd
    ·rw [if_neg e] at hn; exact hL _ _ hn
   have fr1 : ∀ c o, σ c = some o -> M.w c = none -> τ1 c = some o /\ (M.setE (dir + 1) l').w c = none := by
    intro c o hc hw
    have h1 := hE'.1.get hc
    have hcb : c ≠ M.cb (dir + 1) := fun e => by rw [e, hM.wn _ _ hd] at hw; cases hw
    refine ⟨p1'.get hcb h1, ?_⟩
    show (if l'.base = some ⟨c, 0, none⟩ then some (dir + 1, true) else M.w c) = none
    rw [if_neg (fun e => by rw [hE'.2.2 c e] at hc; cases hc)]; exact hw
   refine rf_at2 hM1 hL1 hgi (rd_I (rdC_of (hM1.nod _ _ hgi) (by rfl)) ?_)
   by_cases hk2 : ni.kind = 2
   ·refine br_t (by simpa using hk2) (rf_at2 hM1 hL1 hgi ?_)
    refine st_i2 (hM1.nod _ _ hgi) sz_int (by rfl) (by rfl) ?_; intro τ2 p2
    have p2' : Put τ1 ((M.setE (dir + 1) l').cb (ino + 1)) (nodeO { ni with up := dir + 1 } ((M.setE (dir + 1) l').ey (ino + 1))) τ2 := by
     have e : upR ({ ni with up := dir + 1 } : AN) = dir := by
      unfold upR
      rw [if_pos (show ({ ni with up := dir + 1 } : AN).kind = 2 from hk2)]
      show dir + 1 - 1 = dir
      omega
     unfold nodeO
     rw [e]
     exact p2
    clear p2
    have hM2 := hM1.setN (fun i n hn => (hL1 i n hn).1) hgi (n' := { ni with up := dir + 1 }) p2' (show RowsOwn τ1 245 2 (eRow ni.ents) _ from hM1.ent _ _ hgi) (fun g hg => .inr (hM1.we _ _ g hgi hg))
    refine hK τ2 _ (fun A' q1 q2 q3 hg => hM2.congr q1 q2 q3 fun j => ?_) ?_
    ·rw [hg j, AT.get_set, AT.get_set, if_pos hk2]
    ·intro c o hc hw
     obtain ⟨f1, f2⟩ := fr1 c o hc hw
     have hcb : c ≠ M.cb (ino + 1) := fun e => by rw [e, hM.wn _ _ hi] at hw; cases hw
     refine ⟨p2'.get hcb f1, ?_⟩
     show (if ((M.setE (dir + 1) l').ey (ino + 1)).base = some ⟨c, 0, none⟩ then some (ino + 1, true) else (M.setE (dir + 1) l').w c) = none
     rw [if_neg (fun e => by rw [hM1.we _ _ c hgi e] at f2; cases f2)]; exact f2
   ·refine br_f (by simpa using hk2) (hK τ1 _ (fun A' q1 q2 q3 hg => hM1.congr q1 q2 q3 fun j => ?_) fr1)
    rw [hg j, AT.get_set, if_neg hk2]
    by_cases e : j = ino + 1
    ·rw [if_pos e, e, if_neg (by omega)]; exact hi.symm
    ·rw [if_neg e]
  | succ c ih =>
   intro i l done acc τ hc hE hal hacc
   have hMt := hM.gr hE.1
   have hlen2 := hke hMt
   obtain ⟨k, hk⟩ : ∃ k, ks[i]? = some k := ⟨_, List.getElem?_eq_getElem (by omega)⟩
   have hdrop : ks.drop i = k :: ks.drop (i + 1) := by
    rw [List.drop_eq_getElem_cons (by omega)]
    rw [List.getElem?_eq_getElem (by omega)] at hk
    rw [Option.some.inj hk]
   rw [hdrop] at hacc
   obtain ⟨gy, oy, q1, _, _, q4⟩ := erow_at (hMt.ent _ _ hd) (by rw [hks]; exact hk)
   refine hR _ _ _ _ _ _ _ _ ?_
   refine rf_at2 hMt hL hd (rd_L (rdC_of (hMt.nod _ _ hd) (by rfl)) (br_t (by simp only [decide_eq_true_eq]; omega) ?_))
   refine rf_at2 hMt hL hd (rd_L (rdC_of (hMt.nod _ _ hd) (by rfl)) ?_)
   rw [q1]
   have e0 : (i : Int).toNat = i := by omega
   refine ptr_i (if_i ⟨by omega, by show (i : Int) < (((M.ey (dir + 1)).len : Nat) : Int); omega⟩ (rd_G (by rw [e0]; exact q4) ?_))
   (refine app_of rfl ?_; try dsimp only)
   refine al_i ?_; intro b35 τ1 g1 e1 n1
   refine st_i2 e1 sz_REntry (by rfl) (by rfl) ?_; intro τ2 p2
   have g2 : Gr τ τ2 := g1.putF p2 n1
   have k35 : τ2 b35 = some (.cells ⟨[.string k, .int .i64 ((lk k nd.ents).getD 0 - 1)]⟩ 245 (0, 0)) := p2.same
   clear p2 e1
   have hE2 : EntNew σ τ2 acc l := ⟨hE.1.trans g2, hE.2.1.gr g2, hE.2.2⟩
   have hlb : l.base ≠ some ⟨b35, 0, none⟩ := fun e => hE.2.1.has e n1
   refine j_i (fun j => ∀ (l' : Sl) (done' : Bool) (acc' : List (List Value)) (τ' : H) v1 v2 v3 v4, EntNew σ τ' acc' l' -> acc'.length <= 2 * i + 1 -> τ' b35 = some (.cells ⟨[.string k, .int .i64 ((lk k nd.ents).getD 0 - 1)]⟩ 245 (0, 0)) -> acc' ++ [.string k, .int .i64 ((lk k nd.ents).getD 0 - 1)] :: entR name [.string name, .int .i64 ino] (fun k => [Value.string k, .int .i64 ((lk k nd.ents).getD 0 - 1)]) done' (ks.drop (i + 1)) = T -> j (some ⟨b, 0, none⟩) dir name ino l' done' (i : Int) (some ⟨b35, 0, none⟩) v1 v2 v3 v4 τ') ?_ ?_
   ·intro l' done' acc' τ' v1 v2 v3 v4 a1 a2 a3 a4
    refine ptr_i (rd_G (rdA_of' a3 (by rfl)) ?_)
    (refine app_of rfl ?_; try dsimp only)
    refine app_ent a1 (by omega) ?_
    intro l'' τ'' hE'' _
    rw [wrap_id (x := (i : Int) + 1) (by omega) (by omega)]
    rw [show (i : Int) + 1 = ((i + 1 : Nat) : Int) from by omega]
    refine ih (i + 1) l'' done' _ τ'' (by omega) hE'' (by rw [List.length_append]; simp; omega) ?_
    rw [List.append_assoc]; exact a4
   intro j36 h36
   refine j_i (fun j => ∀ v1 v2 v3 v4, j (some ⟨b, 0, none⟩) dir name ino l done (i : Int) (some ⟨b35, 0, none⟩) v1 v2 v3 v4 (!done && ltB name k) τ2) ?_ ?_
   ·intro v1 v2 v3 v4
    cases ht : (!done && ltB name k) with
    | false =>
     refine br_f rfl (h36 l done acc τ2 _ _ _ _ hE2 (by omega) k35 ?_)
     unfold entR at hacc
     rw [if_neg (by rw [ht]; decide)] at hacc
     exact hacc
    | true =>
     refine br_t rfl (app_ent hE2 (by omega) ?_)
     intro l' τ' hE' hkeep
     refine h36 l' true _ τ' _ _ _ _ hE' (by rw [List.length_append]; simp; omega) (hkeep _ _ k35 hlb) ?_
     unfold entR at hacc
     rw [if_pos ht] at hacc
     rw [List.append_assoc]; exact hacc
   ·intro j55 h55
    cases done with
    | true => exact br_f rfl (h55 _ _ _ _)
    | false =>
     refine br_t rfl (rd_S (rdC_of k35 (by rfl)) ?_)
     rw [strLt_eq]
     exact h55 _ _ _ _
 exact key ks.length 0 ⟨none, 0, 0⟩ false [] σ (by omega) ⟨Gr.refl _, RowsOwn.nil _ _ _, fun g h => by cases h⟩ (by simp) (by simpa using hT)
end
section
variable {σ σ' : H} {b : Nat} {A : AT} {M : RfM} {N : Nat}
theorem und_RNodes : Tryz.prog.underlying 132 = some (.slice 128) := by kernel_rfl
theorem sz_RNodes : sizeT Tryz.prog 132 = some 1 := by kernel_rfl
theorem info_PRNode : ∃ i z, Tryz.prog.info? 128 = some i /\ i.zero = some z /\ i.size = 1 /\ i.bytes = 8 /\ z.cells.size = 1 := by
 have h1 : (Tryz.prog.info? 128).map (fun i => (i.zero.map (fun z => z.cells.size), i.size, i.bytes)) = some (some 1, 1, 8) := by kernel_rfl
 cases hi : Tryz.prog.info? 128 with
 | none => rw [hi] at h1; cases h1
 | some i =>
  rw [hi] at h1
  simp only [Option.map_some, Option.some.injEq, Prod.mk.injEq] at h1
  cases hz : i.zero with
  | none => rw [hz] at h1; cases h1.1
  | some z =>
   rw [hz] at h1
   exact ⟨i, z, rfl, hz, h1.2.1, h1.2.2, by simpa using h1.1⟩
def AT.plus (A : AT) (n : AN) : AT := { A with last := A.last + 1, nodes := up (A.last + 1) n A.nodes }
theorem plus_get (A : AT) (n : AN) (j : Int) : (AT.plus A n).get j = if j = A.last + 1 then some n else A.get j := by
 unfold AT.plus AT.get; simp only [lk_up]
 by_cases h : j = A.last + 1 <;> simp [h]
def RfM.plus (M : RfM) (l : Int) (x' : Sl) (c13 : Nat) : RfM := ⟨x', fun j => if j = l then c13 else M.cb j, fun j => if j = l then ⟨none, 0, 0⟩ else M.ey j, fun c => if c = c13 then some (l, false) else if x'.base = some ⟨c, 0, none⟩ then some (0, true) else M.w c⟩
theorem RfIn.plus (h : RfIn σ b A M) (hI : Wk.Inv A) {n : AN} (hne : n.ents = []) {c13 : Nat} {x' : Sl} {τ1 τ2 : H} (hg : Gr σ σ') (hn13 : σ c13 = none) (h13 : σ' c13 = some (nodeO n ⟨none, 0, 0⟩))
 (hx : RowsOwn τ1 128 1 (ptrRow A M.cb ++ [[.pointer (some ⟨c13, 0, none⟩)]]) x') (hcase : (∃ g o, M.x.base = some ⟨g, 0, none⟩ /\ x'.base = M.x.base /\ Put σ' g o τ1) \/ (∃ g, x'.base = some ⟨g, 0, none⟩ /\ σ' g = none /\ Gr σ' τ1))
 (hp : Put τ1 b (.cells ⟨[.int .i64 A.qi, .int .i64 A.qb, .slice x'.base x'.len x'.cap]⟩ 134 (0, 0)) τ2) :
 RfIn τ2 b (AT.plus A n) (M.plus (A.last + 1) x' c13) /\ (∀ c o, σ c = some o -> M.w c = none -> τ2 c = some o /\ (M.plus (A.last + 1) x' c13).w c = none) := by
 have hlow : ∀ i n, A.get i = some n -> 1 <= i /\ i <= A.last := hI.low
 have hl0 := hI.last_pos
 have w13 : M.w c13 = none := h.new hn13
 have hcb13 : c13 ≠ b := fun e => by rw [e, h.wb] at w13; cases w13
 -- the new row's block
 have hxw : ∀ g, x'.base = some ⟨g, 0, none⟩ -> M.w g = some (0, true) \/ (σ' g = none /\ M.w g = none) := by
  intro g hg2
  rcases hcase with ⟨g', o, q1, q2, q3⟩ | ⟨g', q1, q2, q3⟩
  ·rw [q2] at hg2; exact .inl (h.wt g hg2)
  ·rw [q1] at hg2
   injection hg2 with hg2
   injection hg2 with hg2
   subst hg2
   exact .inr ⟨q2, h.new (none_of hg q2)⟩
 have hxb : x'.base ≠ some ⟨b, 0, none⟩ := by
  intro e
  rcases hxw b e with e2 | ⟨_, e2⟩ <;> rw [h.wb] at e2 <;> cases e2
 have hx13 : x'.base ≠ some ⟨c13, 0, none⟩ := by
  intro e
  rcases hxw c13 e with e2 | ⟨e2, _⟩
  ·rw [w13] at e2; cases e2
  ·rw [h13] at e2; cases e2
 have keep : ∀ c o, σ' c = some o -> M.w c ≠ some (0, true) -> c ≠ b -> τ2 c = some o := by
  intro c o hc hw hb
  refine hp.get hb ?_
  rcases hcase with ⟨g', o', q1, q2, q3⟩ | ⟨g', q1, q2, q3⟩
  ·exact q3.get (fun e => hw (by rw [e]; exact h.wt g' q1)) hc
  ·exact q3.get hc
 have keepR : ∀ i n, A.get i = some n -> RowsOwn τ2 245 2 (eRow n.ents) (M.ey i) := by
  intro i m hm
  refine (h.ent i m hm).keep fun g o hg2 ho => keep g o (hg.get ho) ?_ ?_
  ·rw [h.we i m g hm hg2]
   intro e; injection e with e; injection e with e _; have := (hlow i m hm).1; omega
  ·intro e; have := h.we i m g hm hg2; rw [e, h.wb] at this; injection this with this; injection this with _ this; cases this
 have hget : ∀ j m, (AT.plus A n).get j = some m -> (j = A.last + 1 /\ m = n) \/ (j ≠ A.last + 1 /\ A.get j = some m) := by
  intro j m hm
  rw [plus_get] at hm
  by_cases e : j = A.last + 1
  ·rw [if_pos e] at hm; exact .inl ⟨e, (Option.some.inj hm).symm⟩
  ·rw [if_neg e] at hm; exact .inr ⟨e, hm⟩
 have h13' : τ2 c13 = some (nodeO n ⟨none, 0, 0⟩) := keep c13 _ h13 (by rw [w13]; simp) hcb13
 refine ⟨⟨?_, ?_, ?_, ?_, ?_, ?_, ?_, ?_, ?_⟩, ?_⟩
 ·exact hp.same
 ·have : ptrRow (AT.plus A n) (M.plus (A.last + 1) x' c13).cb = ptrRow A M.cb ++ [[.pointer (some ⟨c13, 0, none⟩)]] := by
   unfold ptrRow
   have e1 : (AT.plus A n).last.toNat = A.last.toNat + 1 := by show (A.last + 1).toNat = _; omega
   rw [e1, List.range_succ, List.map_append]
   congr 1
   ·apply List.map_congr_left
    intro k hk
    have hk : k < A.last.toNat := List.mem_range.1 hk
    rw [plus_get, if_neg (show ¬ ((k : Int) + 1 = A.last + 1) by omega)]
    show [Value.pointer (if (A.get ((k : Int) + 1)).isSome then some ⟨(if (k : Int) + 1 = A.last + 1 then c13 else M.cb ((k : Int) + 1)), 0, none⟩ else none)] = _
    rw [if_neg (show ¬ ((k : Int) + 1 = A.last + 1) by omega)]
   ·have e2 : ((A.last.toNat : Nat) : Int) + 1 = A.last + 1 := by omega
    simp only [List.map_cons, List.map_nil, e2, plus_get, if_true]
    show [[Value.pointer (some ⟨(if A.last + 1 = A.last + 1 then c13 else M.cb (A.last + 1)), 0, none⟩)]] = _
    rw [if_pos rfl]
  show RowsOwn τ2 128 1 (ptrRow (AT.plus A n) (M.plus (A.last + 1) x' c13).cb) x'
  rw [this]
  exact hx.put hp hxb
 ·intro j m hm
  rcases hget j m hm with ⟨e1, e2⟩ | ⟨e1, e2⟩
  ·subst e1; subst e2
   show τ2 (if A.last + 1 = A.last + 1 then c13 else M.cb (A.last + 1)) = some (nodeO m (if A.last + 1 = A.last + 1 then ⟨none, 0, 0⟩ else M.ey (A.last + 1)))
   rw [if_pos rfl, if_pos rfl]; exact h13'
  ·show τ2 (if j = A.last + 1 then c13 else M.cb j) = some (nodeO m (if j = A.last + 1 then ⟨none, 0, 0⟩ else M.ey j))
   rw [if_neg e1, if_neg e1]
   obtain ⟨l1, _⟩ := h.low (fun i n hn => (hlow i n hn).1) e2
   refine keep _ _ (hg.get (h.nod j m e2)) ?_ l1
   rw [h.wn j m e2]
   intro e; injection e with e; injection e with _ e; cases e
 ·intro j m hm
  rcases hget j m hm with ⟨e1, e2⟩ | ⟨e1, e2⟩
  ·subst e1; subst e2
   show RowsOwn τ2 245 2 (eRow m.ents) (if A.last + 1 = A.last + 1 then ⟨none, 0, 0⟩ else M.ey (A.last + 1))
   rw [if_pos rfl, hne]; exact RowsOwn.nil _ _ _
  ·show RowsOwn τ2 245 2 (eRow m.ents) (if j = A.last + 1 then ⟨none, 0, 0⟩ else M.ey j)
   rw [if_neg e1]; exact keepR j m e2
 ·show (if b = c13 then _ else if x'.base = some ⟨b, 0, none⟩ then _ else M.w b) = _
  rw [if_neg (Ne.symm hcb13), if_neg hxb]; exact h.wb
 ·intro g hg2
  have hg2 : x'.base = some ⟨g, 0, none⟩ := hg2
  show (if g = c13 then _ else if x'.base = some ⟨g, 0, none⟩ then _ else M.w g) = _
  rw [if_neg (fun e => hx13 (by rw [<- e]; exact hg2)), if_pos hg2]
 ·intro j m hm
  rcases hget j m hm with ⟨e1, e2⟩ | ⟨e1, e2⟩
  ·subst e1
   show (if (if A.last + 1 = A.last + 1 then c13 else M.cb (A.last + 1)) = c13 then _ else _) = _
   rw [if_pos rfl, if_pos rfl]
  ·have hwj := h.wn j m e2
   show (if (if j = A.last + 1 then c13 else M.cb j) = c13 then _ else if x'.base = some ⟨(if j = A.last + 1 then c13 else M.cb j), 0, none⟩ then _ else M.w (if j = A.last + 1 then c13 else M.cb j)) = _
   rw [if_neg e1, if_neg (fun e => by rw [e, w13] at hwj; cases hwj), if_neg (fun e => by
    rcases hxw _ e with e3 | ⟨_, e3⟩ <;> rw [hwj] at e3
    ·injection e3 with e3; injection e3 with _ e3; cases e3
    ·cases e3)]
   exact hwj
 ·intro j m g hm hg2
  rcases hget j m hm with ⟨e1, e2⟩ | ⟨e1, e2⟩
  ·subst e1
   have hg2 : (if A.last + 1 = A.last + 1 then (⟨none, 0, 0⟩ : Sl) else M.ey (A.last + 1)).base = some ⟨g, 0, none⟩ := hg2
   rw [if_pos rfl] at hg2; cases hg2
  ·have hg2 : (if j = A.last + 1 then (⟨none, 0, 0⟩ : Sl) else M.ey j).base = some ⟨g, 0, none⟩ := hg2
   rw [if_neg e1] at hg2
   have hwj := h.we j m g e2 hg2
   have hj1 := (hlow j m e2).1
   show (if g = c13 then _ else if x'.base = some ⟨g, 0, none⟩ then _ else M.w g) = _
   rw [if_neg (fun e => by rw [e, w13] at hwj; cases hwj), if_neg (fun e => by
    rcases hxw _ e with e3 | ⟨_, e3⟩ <;> rw [hwj] at e3
    ·injection e3 with e3; injection e3 with e3 _; omega
    ·cases e3)]
   exact hwj
 ·intro c hc
  have hc : (if c = c13 then some (A.last + 1, false) else if x'.base = some ⟨c, 0, none⟩ then some (0, true) else M.w c) ≠ none := hc
  by_cases e1 : c = c13
  ·rw [e1, h13']; simp
  by_cases e2 : c = b
  ·rw [e2, hp.same]; simp
  by_cases e3 : x'.base = some ⟨c, 0, none⟩
  ·exact (hx.put hp hxb).has e3
  ·rw [if_neg e1, if_neg e3] at hc
   have := h.has c hc
   cases ho : σ c with
   | none => exact absurd ho this
   | some o =>
    by_cases e4 : M.w c = some (0, true)
    ·-- the old row: it stays, or it was the same block
     rcases hcase with ⟨g', o', q1, q2, q3⟩ | ⟨g', q1, q2, q3⟩
     ·by_cases e5 : c = g'
      ·exfalso; apply e3; rw [q2, q1, e5]
      ·rw [hp.get e2 (q3.get e5 (hg.get ho))]; simp
     ·rw [hp.get e2 (q3.get (hg.get ho))]; simp
    ·rw [keep c o (hg.get ho) e4 e2]; simp
 ·intro c o hc hw
  refine ⟨keep c o (hg.get hc) (by rw [hw]; simp) (fun e => by rw [e, h.wb] at hw; cases hw), ?_⟩
  show (if c = c13 then some (A.last + 1, false) else if x'.base = some ⟨c, 0, none⟩ then some (0, true) else M.w c) = none
  rw [if_neg (fun e => by rw [e, hn13] at hc; cases hc), if_neg (fun e => by
   rcases hxw _ e with e3 | ⟨e3, _⟩
   ·rw [hw] at e3; cases e3
   ·rw [hg.get hc] at e3; cases e3)]
  exact hw
end
section
variable {σ σ' : H} {b : Nat} {A : AT} {M : RfM} {N : Nat}
theorem s_rfMade (hI : Wk.Inv A) (hB : Bd N A) (hN : N <= 100000000) (hM : RfIn σ b A M) {d : Int} {name data : ByteArray} {kind mode px : Int} (hdir : A.isDir (d + 1)) (hnm : namedE name = 0) (hlk : likeE kind mode data = 0) (hf : A.find (d + 1) name = none) {K : KH}
 (hK : ∀ σ' M', RfIn σ' b (A.makeR (d + 1) name kind mode data).2.2 M' -> (∀ c o, σ c = some o -> M.w c = none -> σ' c = some o /\ M'.w c = none) -> K (.int .i64 (A.makeR (d + 1) name kind mode data).2.1) σ') :
 callW Tryz.prog 128 [.pointer (some ⟨b, 0, none⟩), .agg ⟨[.int .i64 d, .string name, .int .i64 px]⟩, .int .i64 kind, .int .i64 mode, .string data] K σ := by
 have hmk : A.makeE (d + 1) name kind mode data = A.roomE 1 (data.size : Int) := by
  unfold AT.makeE
  simp only [firstE, AT.dirE_of hdir, hnm, hlk, hf, Option.isSome_none, Bool.false_eq_true, if_false, if_true]
  by_cases h : A.roomE 1 (data.size : Int) = 0
  ·rw [if_pos h, h]
  ·rw [if_neg h]
 refine c128 _ _ _ _ _ _ _ ?_
 unfold g128
 refine al_i ?_; intro b8 σ1 g1 e1 n1
 refine call_i (s_rfRoom hI hB (by omega) (hM.gr g1) 1 (data.size : Int) (app_B ?_))
 by_cases hr : A.roomE 1 (data.size : Int) = 0
 case neg =>
  have h10 : A.roomE 1 (data.size : Int) = 10 := by
   unfold AT.roomE at hr ⊢
   split at hr
   ·exact absurd rfl hr
   ·rename_i h; rw [if_neg h]
  refine br_t (by simp [h10]) ?_
  have hmr : A.makeR (d + 1) name kind mode data = (0, 10, A) := by
   rw [makeR_n (by rw [hmk, h10]; decide), hmk, h10]
  have := hK σ1 M (by rw [hmr]; exact hM.gr g1) (fun c o hc hw => ⟨g1.get hc, hw⟩)
  rw [hmr] at this
  exact this
 refine br_f (by simp [hr]) ?_
 have hmz : A.makeE (d + 1) name kind mode data = 0 := by rw [hmk, hr]
 have hlast := hB.last
 have hl0 := hI.last_pos
 obtain ⟨nd, hnd, hnd2⟩ := hdir
 have hM1 := hM.gr g1
 refine ptr_i (rd_L (rdC_of hM1.top (by rfl)) ?_)
 refine al_i ?_; intro b13 σ2 g2 e2 n2
 refine al_i ?_; intro b14 σ3 g3 e3 n3
 obtain ⟨i, z, i1, i2, i3, i4, i5⟩ := info_PRNode
 have hM3 := hM1.gr (g2.trans g3)
 have hplen : (ptrRow A M.cb).length = A.last.toNat := by simp [ptrRow]
 refine append_i und_RNodes i1 i2 i3 i4 i5 (by decide) hM3.tab e3 rfl (by intro u hu; simp at hu; subst hu; rfl) (by omega) (by decide) ?_
 intro x' τ1 hx hcase
 refine ptr_i ?_
 have htop1 : τ1 b = some (.cells ⟨[.int .i64 A.qi, .int .i64 A.qb, .slice M.x.base M.x.len M.x.cap]⟩ 134 (0, 0)) := by
  rcases hcase with ⟨g, o, q1, q2, q3⟩ | ⟨g, q1, q2, q3⟩
  ·refine q3.get (fun e => ?_) hM3.top
   have := hM3.wt g q1
   rw [<- e, hM3.wb] at this; injection this with this; injection this with _ this; cases this
  ·exact q3.get hM3.top
 refine st_i2 htop1 sz_RNodes (by rfl) (by rfl) ?_; intro τ2 p2
 have p2' : Put τ1 b (.cells ⟨[.int .i64 A.qi, .int .i64 A.qb, .slice x'.base x'.len x'.cap]⟩ 134 (0, 0)) τ2 := p2
 clear p2
 have hup : upR (⟨kind, mode, data, 1, if kind = 2 then 1 else 0, []⟩ : AN) = 0 := by
  unfold upR
  by_cases h : kind = 2
  ·rw [if_pos h]; show (if kind = 2 then (1 : Int) else 0) - 1 = 0; rw [if_pos h]; rfl
  ·rw [if_neg h]
 have h13 : σ3 b13 = some (nodeO ⟨kind, mode, data, 1, if kind = 2 then 1 else 0, []⟩ ⟨none, 0, 0⟩) := by
  unfold nodeO
  rw [hup]
  exact g3.get e2
 obtain ⟨hP, hPf⟩ := RfIn.plus (n := ⟨kind, mode, data, 1, if kind = 2 then 1 else 0, []⟩) hM hI rfl ((g1.trans g2).trans g3) (none_of g1 n2) h13 hx hcase p2'
 -- the place is still there
 have k8 : τ2 b8 = some (.cells ⟨[.int .i64 d, .string name, .int .i64 px]⟩ 171 (0, 0)) := by
  have h3 := (g2.trans g3).get e1
  have hb8 : b8 ≠ b := by intro e; rw [e, hM.top] at n1; cases n1
  refine p2'.get hb8 ?_
  rcases hcase with ⟨g, o, q1, q2, q3⟩ | ⟨g, q1, q2, q3⟩
  ·exact q3.get (fun e => by rw [e] at n1; exact hM.tab.has q1 n1) h3
  ·exact q3.get h3
 refine rd_I (rdC_of k8 (by rfl)) (rd_S (rdC_of k8 (by rfl)) (ptr_i (rd_L (rdC_of p2'.same (by rfl)) ?_)))
 have hxl : x'.len = A.last.toNat + 1 := by
  have := hx.1
  rw [List.length_append, hplen] at this
  simpa using this
 have ew : IntKind.i64.wrap (((x'.len : Nat) : Int) - 1) = A.last := by
  rw [wrap_id (by omega) (by omega)]; omega
 show callT _ _ [_, _, _, .int .i64 (IntKind.i64.wrap (((x'.len : Nat) : Int) - 1))] _ _ _
 rw [ew]
 have hdl := hI.low _ _ hnd
 have hd1 : (AT.plus A ⟨kind, mode, data, 1, if kind = 2 then 1 else 0, []⟩).get (d + 1) = some nd := by rw [plus_get, if_neg (by omega)]; exact hnd
 have hd2 : (AT.plus A ⟨kind, mode, data, 1, if kind = 2 then 1 else 0, []⟩).get (A.last + 1) = some ⟨kind, mode, data, 1, if kind = 2 then 1 else 0, []⟩ := by rw [plus_get, if_pos rfl]
 have hL2 : ∀ i n, (AT.plus A ⟨kind, mode, data, 1, if kind = 2 then 1 else 0, []⟩).get i = some n -> 1 <= i /\ i <= (AT.plus A ⟨kind, mode, data, 1, if kind = 2 then 1 else 0, []⟩).last := by
  intro i n hn
  rw [plus_get] at hn
  show 1 <= i /\ i <= A.last + 1
  by_cases e : i = A.last + 1
  ·omega
  ·rw [if_neg e] at hn; have := hI.low _ _ hn; omega
 have hfl : lk name nd.ents = none := by unfold AT.find at hf; rw [hnd] at hf; exact hf
 refine call_i (s_rfEnter hP hL2 (by show A.last + 1 <= _; omega) hd1 hd2 (by omega) hfl (hI.enod _ _ hnd) (by have := hB.ents _ _ hnd; omega) ?_)
 intro σ' M' hR hfr
 refine app_U ?_
 have hmr : A.makeR (d + 1) name kind mode data = (wr (A.last + 1), 0, A.made (d + 1) name kind mode data) := makeR_z hmz
 have hL62 : A.last < 4611686018427387904 := by omega
 have := hK σ' M' (by
  rw [hmr]
  refine hR _ ?_ ?_ ?_ fun j => ?_
  ·show (A.made (d + 1) name kind mode data).qi = A.qi; rw [made_eq hI hL62 hnd]; rfl
  ·show (A.made (d + 1) name kind mode data).qb = A.qb; rw [made_eq hI hL62 hnd]; rfl
  ·show (A.made (d + 1) name kind mode data).last = A.last + 1; rw [made_eq hI hL62 hnd]; rfl
  ·show (A.made (d + 1) name kind mode data).get j = _
   rw [made_get hI hL62 hnd]
   by_cases e1 : j = d + 1
   ·rw [if_pos e1, if_neg (by omega), if_pos e1]
   ·rw [if_neg e1]
    by_cases e2 : j = A.last + 1
    ·rw [if_pos e2, if_pos e2]
     unfold newN
     by_cases h : kind = 2
     ·rw [if_pos h]; simp [h]
     ·rw [if_neg h]
      have : (kind == 2) = false := by simpa using h
      simp [this, h]
    ·rw [if_neg e2, if_neg e2, if_neg e1, plus_get, if_neg e2]) (fun c o hc hw => by
  obtain ⟨q1, q2⟩ := hPf c o hc hw
  exact hfr c o q1 q2)
 rw [hmr] at this
 exact this
theorem s_rfMkdir (hI : Wk.Inv A) (hB : Bd N A) (hN : N <= 100000000) {D : Nat -> Prop} (hA : RfAt σ b A D) (cwd path : ByteArray) {K : KH}
 (hK : ∀ σ' D', RfAt σ' b (A.mkdirF cwd path).2 D' -> Sep σ D σ' D' -> K (.int .i64 (A.mkdirF cwd path).1) σ') :
 callW Tryz.prog 63 [.pointer (some ⟨b, 0, none⟩), .string cwd, .string path] K σ := by
 obtain ⟨M, hM, hD⟩ := hA
 refine c63 _ _ _ ?_
 unfold g63
 refine call_i (s_rfGo hI hB (by omega) hM cwd path false ?_)
 intro σ1 g1
 have hpl := fun e => locate_place hI cwd path false e
 have hmk : A.mkdirF cwd path = (let r := A.locate cwd path false
  if r.1 ≠ 0 then (r.1, A) else if r.2.there = true then (6, A) else if (A.deep 13 r.2.dir).getD 0 >= 12 then (3, A) else let m := A.makeR r.2.dir r.2.name 2 493 ⟨⟨[]⟩⟩; (m.2.1, m.2.2)) := by
  unfold AT.mkdirF AT.freshP
  simp only
  by_cases h : (A.locate cwd path false).1 = 0
  ·simp only [h, ne_eq, not_true_eq_false, if_false]
   cases h2 : (A.locate cwd path false).2.there <;> simp
  ·simp [h]
 generalize A.locate cwd path false = r at hpl hmk ⊢
 obtain ⟨e, p⟩ := r
 simp only at hmk
 have same : ∀ (τ : H) (x : Int), A.mkdirF cwd path = (x, A) -> Gr σ τ -> K (.int .i64 x) τ := by
  intro τ x hx hg
  rw [hx] at hK
  exact hK τ D ⟨M, hM.gr hg, hD⟩ (Sep.gr hg)
 unfold plL
 by_cases he : e = 0
 case neg =>
  rw [if_neg he]
  unfold plZ
  (refine app_of rfl ?_; try dsimp only)
  refine al_i ?_; intro b8 σ2 g2 e2 n2
  refine st_i2 e2 sz_RPlace (by rfl) (by rfl) ?_; intro σ3 p3
  refine br_t (by simpa using he) (same σ3 e (by rw [hmk, if_pos he]) (g1.trans (g2.putF p3 n2)))
 subst he
 rw [if_pos rfl]
 rw [if_neg (by decide)] at hmk
 unfold plV
 (refine app_of rfl ?_; try dsimp only)
 refine al_i ?_; intro b8 σ2 g2 e2 n2
 refine st_i2 e2 sz_RPlace (by rfl) (by rfl) ?_; intro σ3 p3
 have hg3 : Gr σ σ3 := g1.trans (g2.putF p3 n2)
 have k8 : σ3 b8 = some (.cells ⟨[.int .i64 (p.dir - 1), .string p.name, .int .i64 (if p.there then p.ino - 1 else -1)]⟩ 171 (0, 0)) := p3.same
 have hM3 := hM.gr hg3
 have hP : PlOk A p := hpl rfl
 refine br_f rfl (rd_I (rdC_of k8 (by rfl)) ?_)
 cases ht : p.there with
 | true =>
  obtain ⟨n, hn⟩ := PlOk.get hI hP ht
  have hlow := (hI.low _ _ hn).1
  rw [if_pos ht] at hmk
  refine br_t (by simp; omega) (same σ3 6 hmk hg3)
 | false =>
  rw [if_neg (by rw [ht]; decide)] at hmk
  have hdir : A.isDir p.dir := hP.1
  obtain ⟨x, x1, _, x3, x4⟩ := hI.deep13 hdir
  have hd11 : p.dir - 1 + 1 = p.dir := by omega
  refine br_f rfl (rd_I (rdC_of k8 (by rfl)) (call_i (s_rfDeep hM3 hI (d := p.dir - 1) (by rw [hd11]; exact hdir) (by rw [hd11]; exact x1) (app_I ?_))))
  rw [x1] at hmk
  simp only [Option.getD_some] at hmk
  by_cases hx : x >= 12
  ·rw [if_pos hx] at hmk
   exact br_t (by simpa using hx) (same σ3 3 hmk hg3)
  ·rw [if_neg hx] at hmk
   refine br_f (by simpa using hx) (rd_G (rdA_of' k8 (by rfl)) ?_)
   (refine app_of rfl ?_; try dsimp only)
   obtain ⟨nm, fd⟩ := hP.named (hP.notThere ht)
   rw [if_neg (by rw [ht]; decide)] at fd
   refine call_i (s_rfMade hI hB hN hM3 (d := p.dir - 1) (by rw [hd11]; exact hdir) nm (by unfold likeE kindOkE; simp [lk, sEq_self]) (by rw [hd11]; exact fd) ?_)
   intro σ' M' hR hfr
   rw [hd11] at hR ⊢
   rw [hmk] at hK
   refine app_I (hK σ' (fun c => M'.w c ≠ none) ⟨M', hR, fun c => Iff.rfl⟩ ?_)
   intro c o hc hn
   have hw : M.w c = none := by
    cases h : M.w c with
    | none => rfl
    | some r => exact absurd ((hD c).2 (by rw [h]; simp)) hn
   obtain ⟨q1, q2⟩ := hfr c o (hg3.get hc) hw
   exact ⟨q1, fun h => h q2⟩
end
section
variable {σ σ' : H} {b : Nat} {A : AT} {M : RfM} {N : Nat}
theorem Sep.of_frame {D : Nat -> Prop} {M M' : RfM} (hD : ∀ c, D c ↔ M.w c ≠ none) (h : ∀ c o, σ c = some o -> M.w c = none -> σ' c = some o /\ M'.w c = none) : Sep σ D σ' (fun c => M'.w c ≠ none) := by
 intro c o hc hn
 have hw : M.w c = none := by
  cases h : M.w c with
  | none => rfl
  | some r => exact absurd ((hD c).2 (by rw [h]; simp)) hn
 obtain ⟨q1, q2⟩ := h c o hc hw
 exact ⟨q1, fun h => h q2⟩
theorem s_rfWrite (hI : Wk.Inv A) (hB : Bd N A) (hN : N <= 100000000) {D : Nat -> Prop} (hA : RfAt σ b A D) (cwd path data : ByteArray) (more : Bool) (hz : data.size <= 1000000000000000) {K : KH}
 (hK : ∀ σ' D', RfAt σ' b (A.writeF cwd path data more).2 D' -> Sep σ D σ' D' -> K (.int .i64 (A.writeF cwd path data more).1) σ') :
 callW Tryz.prog 64 [.pointer (some ⟨b, 0, none⟩), .string cwd, .string path, .string data, .bool more] K σ := by
 obtain ⟨M, hM, hD⟩ := hA
 refine c64 _ _ _ _ _ ?_
 unfold g64
 refine call_i (s_rfGo hI hB (by omega) hM cwd path true ?_)
 intro σ1 g1
 have hpl := fun e => locate_place hI cwd path true e
 have hnl := fun e t => locate_nolink hI cwd path e t
 have hmk : A.writeF cwd path data more = (let r := A.locate cwd path true
  if r.1 ≠ 0 then (r.1, A) else if r.2.there = false then (let m := A.makeR r.2.dir r.2.name 1 420 data; (m.2.1, m.2.2)) else if A.kind r.2.ino = 2 then (7, A) else A.writeR r.2.ino (if more then A.data r.2.ino ++ data else data)) := rfl
 generalize A.locate cwd path true = r at hpl hmk hnl ⊢
 obtain ⟨e, p⟩ := r
 simp only at hmk
 have same : ∀ (τ : H) (x : Int), A.writeF cwd path data more = (x, A) -> Gr σ τ -> K (.int .i64 x) τ := by
  intro τ x hx hg
  rw [hx] at hK
  exact hK τ D ⟨M, hM.gr hg, hD⟩ (Sep.gr hg)
 unfold plL
 by_cases he : e = 0
 case neg =>
  rw [if_neg he]
  unfold plZ
  (refine app_of rfl ?_; try dsimp only)
  refine al_i ?_; intro b8 σ2 g2 e2 n2
  refine st_i2 e2 sz_RPlace (by rfl) (by rfl) ?_; intro σ3 p3
  refine br_t (by simpa using he) (same σ3 e (by rw [hmk, if_pos he]) (g1.trans (g2.putF p3 n2)))
 subst he
 rw [if_pos rfl]
 rw [if_neg (by decide)] at hmk
 unfold plV
 (refine app_of rfl ?_; try dsimp only)
 refine al_i ?_; intro b8 σ2 g2 e2 n2
 refine st_i2 e2 sz_RPlace (by rfl) (by rfl) ?_; intro σ3 p3
 have hg3 : Gr σ σ3 := g1.trans (g2.putF p3 n2)
 have k8 : σ3 b8 = some (.cells ⟨[.int .i64 (p.dir - 1), .string p.name, .int .i64 (if p.there then p.ino - 1 else -1)]⟩ 171 (0, 0)) := p3.same
 have hM3 := hM.gr hg3
 have hP : PlOk A p := hpl rfl
 refine br_f rfl (rd_I (rdC_of k8 (by rfl)) ?_)
 cases ht : p.there with
 | false =>
  rw [if_pos ht] at hmk
  have hdir : A.isDir p.dir := hP.1
  have hd11 : p.dir - 1 + 1 = p.dir := by omega
  refine br_t rfl (rd_G (rdA_of' k8 (by rfl)) ?_)
  (refine app_of rfl ?_; try dsimp only)
  obtain ⟨nm, fd⟩ := hP.named (hP.notThere ht)
  rw [if_neg (by rw [ht]; decide)] at fd
  refine call_i (s_rfMade hI hB hN hM3 (d := p.dir - 1) (by rw [hd11]; exact hdir) nm (by unfold likeE kindOkE; simp [lk]) (by rw [hd11]; exact fd) ?_)
  intro σ' M' hR hfr
  rw [hd11] at hR ⊢
  rw [hmk] at hK
  refine app_I (hK σ' (fun c => M'.w c ≠ none) ⟨M', hR, fun c => Iff.rfl⟩ (Sep.of_frame hD fun c o hc hw => hfr c o (hg3.get hc) hw))
 | true =>
  obtain ⟨n, hn⟩ := PlOk.get hI hP ht
  have hlow := (hI.low _ _ hn).1
  have hkn : A.kind p.ino = n.kind := by unfold AT.kind; rw [hn]; rfl
  have hdat : A.data p.ino = n.data := by unfold AT.data; rw [hn]; rfl
  have hnl := hnl rfl ht
  rw [if_neg (by rw [ht]; decide), hkn, hdat] at hmk
  rw [hkn] at hnl
  rw [if_pos ht] at k8
  have h11 : p.ino - 1 + 1 = p.ino := by omega
  obtain ⟨gs, os, s1, s2, s3⟩ := hM3.slot hI (d := p.ino - 1) (n := n) (by rw [h11]; exact hn)
  rw [h11] at s3
  rw [if_pos rfl]
  refine br_f (by simp only [decide_eq_false_iff_not]; omega) (ptr_i (rd_L (rdC_of hM3.top (by rfl)) (rd_I (rdC_of k8 (by rfl)) ?_)))
  rw [s1]
  refine ptr_i (if_i s2 (rd_P s3 (ptr_i (rd_I (rdC_of (hM3.nod _ _ hn) (by rfl)) ?_))))
  by_cases hk2 : n.kind = 2
  ·rw [if_pos hk2] at hmk
   exact br_t (by simpa using hk2) (same σ3 7 hmk hg3)
  rw [if_neg hk2] at hmk
  have hk1 : n.kind = 1 := by
   rcases kind_cases (hI.like _ _ hn) with h | h | h
   ·exact h
   ·exact absurd h hk2
   ·exact absurd h hnl
  have hsz := hI.size_le hn
  have hbq := hI.bq
  refine br_f (by simpa using hk2) ?_
  refine j_i (fun j => ∀ s : ByteArray, s = (if more then n.data ++ data else data) -> j (some ⟨b, 0, none⟩) s (some ⟨M.cb p.ino, 0, none⟩) σ3) ?_ ?_
  case refine_2 =>
   intro j hj
   cases more with
   | true =>
    refine br_t rfl (ptr_i (rd_S (rdC_of (hM3.nod _ _ hn) (by rfl)) (if_i (by omega) (hj _ rfl))))
   | false => exact br_f rfl (hj _ rfl)
  intro s hs
  rw [<- hs] at hmk
  have hss : s.size <= 2000000000000000 := by
   rw [hs]
   cases more with
   | true => rw [if_pos rfl, ByteArray.size_append]; omega
   | false => rw [if_neg (by decide)]; omega
  refine ptr_i (rd_S (rdC_of (hM3.nod _ _ hn) (by rfl)) ?_)
  refine call_i (s_rfRoom hI hB (by omega) hM3 0 _ (app_B ?_))
  have hwe : A.writeE p.ino s = A.roomE 0 (IntKind.i64.wrap (((s.size : Nat) : Int) - ((n.data.size : Nat) : Int))) := by
   have hfe : A.fileE p.ino = 0 := by unfold AT.fileE; rw [hn]; simp [hk1]
   unfold AT.writeE
   rw [hn]
   simp only [firstE, hfe, if_true, Option.map_some, Option.getD_some]
   show (if A.roomE 0 (wr (((s.size : Nat) : Int) - ((n.data.size : Nat) : Int))) = 0 then 0 else A.roomE 0 (wr (((s.size : Nat) : Int) - ((n.data.size : Nat) : Int)))) = _
   by_cases h : A.roomE 0 (wr (((s.size : Nat) : Int) - ((n.data.size : Nat) : Int))) = 0
   ·rw [if_pos h]; exact h.symm
   ·rw [if_neg h]; rfl
  by_cases hr : A.roomE 0 (IntKind.i64.wrap (((s.size : Nat) : Int) - ((n.data.size : Nat) : Int))) = 0
  case neg =>
   have h10 : A.roomE 0 (IntKind.i64.wrap (((s.size : Nat) : Int) - ((n.data.size : Nat) : Int))) = 10 := by
    unfold AT.roomE at hr ⊢
    split at hr
    ·exact absurd rfl hr
    ·rename_i h; rw [if_neg h]
   refine br_t (by simp [h10]) (same σ3 10 ?_ hg3)
   rw [hmk]; unfold AT.writeR
   rw [if_neg (by rw [hwe]; exact hr), hwe, h10]
  ·refine br_f (by simp [hr]) (ptr_i ?_)
   refine st_i2 (hM3.nod _ _ hn) sz_string (by rfl) (by rfl) ?_; intro σ4 p4
   have p4' : Put σ3 (M.cb p.ino) (nodeO { n with data := s } (M.ey p.ino)) σ4 := p4
   have hlow2 : ∀ i n, A.get i = some n -> 1 <= i := fun i n hn => (hI.low i n hn).1
   have hM4 := hM3.setN hlow2 hn (n' := { n with data := s }) (y' := M.ey p.ino) p4' (show RowsOwn σ3 245 2 (eRow n.ents) _ from hM3.ent _ _ hn) (fun g hg => .inr (hM3.we _ _ g hn hg))
   have hw0 : A.writeF cwd path data more = (0, A.written p.ino s) := by
    rw [hmk]; unfold AT.writeR; rw [if_pos (by rw [hwe]; exact hr)]
   rw [hw0] at hK
   refine hK σ4 (fun c => (M.setE p.ino (M.ey p.ino)).w c ≠ none) ⟨_, hM4.congr ?_ ?_ ?_ ?_, fun c => Iff.rfl⟩ (Sep.of_frame hD fun c o hc hw => ?_)
   ·unfold AT.written; rw [hn]
   ·unfold AT.written; rw [hn]
   ·unfold AT.written; rw [hn]
   ·intro j; unfold AT.written; rw [hn]; rfl
   ·have hcb : c ≠ M.cb p.ino := fun e => by rw [e, hM.wn _ _ hn] at hw; cases hw
    refine ⟨p4'.get hcb (hg3.get hc), ?_⟩
    show (if (M.ey p.ino).base = some ⟨c, 0, none⟩ then some (p.ino, true) else M.w c) = none
    rw [if_neg (fun e => by rw [hM.we _ _ c hn e] at hw; cases hw)]; exact hw
end
section
variable {σ σ' : H} {b : Nat} {A : AT} {M : RfM} {N : Nat}
theorem s_rfThere (hI : Wk.Inv A) (hB : Bd N A) (hN : N <= 1000000000000) (hM : RfIn σ b A M) (cwd path : ByteArray) (fo : Bool) {K : KH}
 (hK : ∀ σ', Gr σ σ' -> K (.tuple ⟨[.int .i64 (if (A.with_ cwd path fo).1 = 0 then (A.with_ cwd path fo).2.1 - 1 else 0), .int .i64 (A.with_ cwd path fo).1]⟩) σ') :
 callW Tryz.prog 150 [.pointer (some ⟨b, 0, none⟩), .string cwd, .string path, .bool fo] K σ := by
 refine c150 _ _ _ _ ?_
 unfold g150
 refine call_i (s_rfGo hI hB hN hM cwd path fo ?_)
 intro σ1 g1
 have hpl := fun e => locate_place hI cwd path fo e
 have hmk : A.with_ cwd path fo = (let r := A.locate cwd path fo
  if r.1 ≠ 0 then (r.1, 0, IN.z) else if r.2.there = false then (5, 0, IN.z) else match A.get r.2.ino with
   | none => (5, 0, IN.z)
   | some n => (0, r.2.ino, n.inode)) := rfl
 generalize A.locate cwd path fo = r at hpl hmk ⊢
 obtain ⟨e, p⟩ := r
 simp only at hmk
 unfold plL
 by_cases he : e = 0
 case neg =>
  rw [if_neg he]
  rw [if_pos he] at hmk
  unfold plZ
  (refine app_of rfl ?_; try dsimp only)
  refine al_i ?_; intro b8 σ2 g2 e2 n2
  refine st_i2 e2 sz_RPlace (by rfl) (by rfl) ?_; intro σ3 p3
  have hg3 : Gr σ σ3 := g1.trans (g2.putF p3 n2)
  refine j_i (fun j => j (some ⟨b8, 0, none⟩) e false σ3) ?_ (fun j hj => br_f (by simpa using he) hj)
  refine br_f rfl (ptr_i (rd_I (rdC_of p3.same (by rfl)) ?_))
  have := hK σ3 hg3
  rw [hmk] at this
  simp only [he, if_false] at this
  exact this
 subst he
 rw [if_pos rfl]
 rw [if_neg (by decide)] at hmk
 unfold plV
 (refine app_of rfl ?_; try dsimp only)
 refine al_i ?_; intro b8 σ2 g2 e2 n2
 refine st_i2 e2 sz_RPlace (by rfl) (by rfl) ?_; intro σ3 p3
 have hg3 : Gr σ σ3 := g1.trans (g2.putF p3 n2)
 have k8 : σ3 b8 = some (.cells ⟨[.int .i64 (p.dir - 1), .string p.name, .int .i64 (if p.there then p.ino - 1 else -1)]⟩ 171 (0, 0)) := p3.same
 have hP : PlOk A p := hpl rfl
 have := hK σ3 hg3
 cases ht : p.there with
 | false =>
  rw [if_pos ht] at hmk
  rw [hmk] at this
  rw [if_neg (by rw [ht]; decide)] at k8
  refine j_i (fun j => j (some ⟨b8, 0, none⟩) 0 true σ3) (br_t rfl this) ?_
  intro j hj
  refine br_t rfl (rd_I (rdC_of k8 (by rfl)) ?_)
  exact hj
 | true =>
  obtain ⟨n, hn⟩ := PlOk.get hI hP ht
  have hlow := (hI.low _ _ hn).1
  rw [if_neg (by rw [ht]; decide), hn] at hmk
  rw [hmk] at this
  rw [if_pos ht] at k8
  refine j_i (fun j => j (some ⟨b8, 0, none⟩) 0 false σ3) ?_ (fun j hj => br_t rfl (rd_I (rdC_of k8 (by rfl)) ?_))
  ·exact br_f rfl (ptr_i (rd_I (rdC_of k8 (by rfl)) this))
  ·have : decide (p.ino - 1 < 0) = false := by simp only [decide_eq_false_iff_not]; omega
   rw [this]; exact hj
theorem s_rfChmod (hI : Wk.Inv A) (hB : Bd N A) (hN : N <= 100000000) {D : Nat -> Prop} (hA : RfAt σ b A D) (cwd path : ByteArray) (mode : Int) {K : KH}
 (hK : ∀ σ' D', RfAt σ' b (A.chmodF cwd path mode).2 D' -> Sep σ D σ' D' -> K (.int .i64 (A.chmodF cwd path mode).1) σ') :
 callW Tryz.prog 86 [.pointer (some ⟨b, 0, none⟩), .string cwd, .string path, .int .i64 mode] K σ := by
 obtain ⟨M, hM, hD⟩ := hA
 refine c86 _ _ _ _ ?_
 unfold g86
 have same : ∀ (τ : H) (x : Int), A.chmodF cwd path mode = (x, A) -> Gr σ τ -> K (.int .i64 x) τ := by
  intro τ x hx hg
  rw [hx] at hK
  exact hK τ D ⟨M, hM.gr hg, hD⟩ (Sep.gr hg)
 refine j_i (fun j => j (some ⟨b, 0, none⟩) cwd path mode (decide (mode < 0 \/ mode > 511)) σ) ?_ ?_
 case refine_2 =>
  intro j hj
  by_cases c1 : mode < 0
  ·refine br_t (by simpa using c1) ?_
   have : decide (mode < 0 \/ mode > 511) = true := by simp [c1]
   rw [this] at hj; exact hj
  ·refine br_f (by simpa using c1) ?_
   have : decide (mode < 0 \/ mode > 511) = decide (mode > 511) := by simp [c1]
   rw [this] at hj; exact hj
 by_cases hm : mode < 0 \/ mode > 511
 ·refine br_t (by simpa using hm) (same σ 2 (by unfold AT.chmodF; rw [if_pos hm]) (Gr.refl _))
 refine br_f (by simpa using hm) (call_i (s_rfThere hI hB (by omega) hM cwd path true ?_))
 intro σ1 g1
 have hmk : A.chmodF cwd path mode = (if (A.with_ cwd path true).1 ≠ 0 then ((A.with_ cwd path true).1, A) else A.chmodR (A.with_ cwd path true).2.1 mode) := by
  unfold AT.chmodF; rw [if_neg hm]
 have hw : (A.with_ cwd path true).1 = 0 -> ∃ n, A.get (A.with_ cwd path true).2.1 = some n := by
  unfold AT.with_
  simp only
  intro h
  split at h
  ·rename_i h2; exact absurd h h2
  ·rename_i h2
   rw [if_neg h2]
   split at h
   ·cases h
   ·rename_i h3
    rw [if_neg h3]
    cases hg : A.get (A.locate cwd path true).2.ino with
    | none => rw [hg] at h; cases h
    | some n => exact ⟨n, hg⟩
 generalize A.with_ cwd path true = w at hmk hw ⊢
 obtain ⟨e, ino, x⟩ := w
 simp only at hmk hw
 by_cases he : e = 0
 case neg =>
  (refine app_of rfl ?_; try dsimp only)
  refine j_i (fun j => j e σ1) ?_ (fun j hj => br_f (by simpa using he) hj)
  exact same σ1 e (by rw [hmk, if_pos he]) g1
 subst he
 obtain ⟨n, hn⟩ := hw rfl
 rw [if_neg (by decide)] at hmk
 rw [if_pos rfl]
 (refine app_of rfl ?_; try dsimp only)
 have hlow := (hI.low _ _ hn).1
 have h11 : ino - 1 + 1 = ino := by omega
 have hM1 := hM.gr g1
 have hc : A.chmodF cwd path mode = (0, A.chmoded ino mode) := by
  rw [hmk]; unfold AT.chmodR AT.chmodE
  rw [if_pos (show 0 <= mode /\ mode <= 511 by omega), hn]; rfl
 refine j_i (fun j => ∀ τ M', RfIn τ b (A.chmoded ino mode) M' -> (∀ c o, σ c = some o -> M.w c = none -> τ c = some o /\ M'.w c = none) -> j 0 τ) ?_ ?_
 ·intro τ M' h1 h2
  rw [hc] at hK
  exact hK τ (fun c => M'.w c ≠ none) ⟨M', h1, fun c => Iff.rfl⟩ (Sep.of_frame hD h2)
 intro j hj
 refine br_t rfl (rf_at hM1 hI (d := ino - 1) (n := n) (by rw [h11]; exact hn) ?_)
 rw [h11]
 refine st_i2 (hM1.nod _ _ hn) sz_int (by rfl) (by rfl) ?_; intro σ4 p4
 have p4' : Put σ1 (M.cb ino) (nodeO { n with mode := mode } (M.ey ino)) σ4 := p4
 have hM4 := hM1.setN (fun i n hn => (hI.low i n hn).1) hn (n' := { n with mode := mode }) (y' := M.ey ino) p4' (show RowsOwn σ1 245 2 (eRow n.ents) _ from hM1.ent _ _ hn) (fun g hg => .inr (hM1.we _ _ g hn hg))
 have hch : A.chmoded ino mode = A.set ino { n with mode := mode } := by unfold AT.chmoded AT.mod; rw [hn]
 rw [hch] at hj
 refine hj σ4 _ hM4 fun c o hc hw => ?_
 have hcb : c ≠ M.cb ino := fun e => by rw [e, hM.wn _ _ hn] at hw; cases hw
 refine ⟨p4'.get hcb (g1.get hc), ?_⟩
 show (if (M.ey ino).base = some ⟨c, 0, none⟩ then some (ino, true) else M.w c) = none
 rw [if_neg (fun e => by rw [hM.we _ _ c hn e] at hw; cases hw)]; exact hw
theorem s_rfSymlink (hI : Wk.Inv A) (hB : Bd N A) (hN : N <= 100000000) {D : Nat -> Prop} (hA : RfAt σ b A D) (cwd target path : ByteArray) (hz : target.size <= 1000000000000) {K : KH}
 (hK : ∀ σ' D', RfAt σ' b (A.symlinkF cwd target path).2 D' -> Sep σ D σ' D' -> K (.int .i64 (A.symlinkF cwd target path).1) σ') :
 callW Tryz.prog 83 [.pointer (some ⟨b, 0, none⟩), .string cwd, .string target, .string path] K σ := by
 obtain ⟨M, hM, hD⟩ := hA
 refine c83 _ _ _ _ ?_
 unfold g83
 have same : ∀ (τ : H) (x : Int), A.symlinkF cwd target path = (x, A) -> Gr σ τ -> K (.int .i64 x) τ := by
  intro τ x hx hg
  rw [hx] at hK
  exact hK τ D ⟨M, hM.gr hg, hD⟩ (Sep.gr hg)
 have hlen : target.data.toList.length = target.size := (size_list target).symm
 refine loop_i ?_
 intro R hR
 have key : ∀ (c i : Nat), c + i = target.size -> (0 : UInt8) ∉ target.data.toList.take i -> R (some ⟨b, 0, none⟩) cwd target path (i : Int) σ := by
  intro c
  induction c with
  | succ c ihc =>
   intro i hc hno
   refine hR _ _ _ _ _ _ ?_
   obtain ⟨ch, hch⟩ : ∃ ch, target.data.toList[i]? = some ch := ⟨_, List.getElem?_eq_getElem (by omega)⟩
   refine br_t (by simp only [decide_eq_true_eq]; omega) (idx_l (c := ch) (by omega) (by simpa using hch) ?_)
   by_cases hc0 : ch = 0
   ·subst hc0
    have hnul : hasNul target = true := by
     unfold hasNul
     rw [List.any_eq_true]
     exact ⟨0, List.mem_of_getElem? hch, by decide⟩
    refine br_t rfl (same σ 2 ?_ (Gr.refl _))
    unfold AT.symlinkF
    rw [if_pos (by unfold linkOk; rw [hnul]; simp)]
   ·refine br_f ?_ ?_
    ·have : ¬ ((ch.toNat : Int) = 0) := by
      intro e; apply hc0
      have : ch.toNat = 0 := by omega
      exact UInt8.toNat_inj.1 this
     simpa using this
    ·rw [wrap_id (x := (i : Int) + 1) (by omega) (by omega)]
     refine ihc (i + 1) (by omega) ?_
     rw [List.take_add_one, hch]
     simp only [Option.toList_some, List.mem_append, List.mem_singleton, not_or]
     exact ⟨hno, fun e => hc0 e.symm⟩
  | zero =>
   intro i hc hno
   have hi : i = target.size := by omega
   have hnul : hasNul target = false := by
    rw [hi, <- hlen, List.take_length] at hno
    unfold hasNul
    rw [List.any_eq_false]
    intro x hx
    simp only [beq_iff_eq]
    rintro rfl; exact hno hx
   refine hR _ _ _ _ _ _ ?_
   refine br_f (by simp only [decide_eq_false_iff_not]; omega) ?_
   have hlk : linkOk target = !(decide (target.size < 1 \/ target.size > 255)) := by
    unfold linkOk
    rw [hnul]
    cases h0 : sEq target ⟨⟨[]⟩⟩ with
    | true =>
     have : target.size = 0 := by rw [sEq_iff.1 h0]; rfl
     simp [this]
    | false =>
     have : target.size ≠ 0 := by
      intro e
      have : target = ⟨⟨[]⟩⟩ := bytes_ext (List.length_eq_zero_iff.1 (by rw [hlen, e]))
      rw [this] at h0; exact absurd h0 (by decide)
     by_cases h2 : target.size > 255
     ·simp [h2]
     ·have h3 : target.size <= 255 := by omega
      have h4 : ¬ (target.size < 1 \/ target.size > 255) := by omega
      have e1 : decide (target.size <= 255) = true := by simpa using h3
      have e2 : decide (target.size < 1 \/ target.size > 255) = false := by simp only [decide_eq_false_iff_not]; exact h4
      rw [e1, e2]; rfl
   refine j_i (fun j => j (some ⟨b, 0, none⟩) cwd target path (!linkOk target) σ) ?_ ?_
   case refine_2 =>
    intro j hj
    rw [hlk, Bool.not_not] at hj
    by_cases c1 : target.size < 1
    ·refine br_t (by simp only [decide_eq_true_eq]; omega) ?_
     have : decide (target.size < 1 \/ target.size > 255) = true := by simp [c1]
     rw [this] at hj; exact hj
    ·refine br_f (by simp only [decide_eq_false_iff_not]; omega) ?_
     have : decide (target.size < 1 \/ target.size > 255) = decide ((((target.size : Nat) : Int)) > 255) := by
      by_cases h2 : target.size > 255
      ·have : ((target.size : Nat) : Int) > 255 := by omega
       simp [h2, this]
      ·have h3 : ¬ ((target.size : Nat) : Int) > 255 := by omega
       have h4 : ¬ (target.size < 1 \/ target.size > 255) := by omega
       simp only [h3, h4]
     rw [this] at hj; exact hj
   cases hl : linkOk target with
   | false => exact br_t rfl (same σ 2 (by unfold AT.symlinkF; rw [if_pos hl]) (Gr.refl _))
   | true =>
    refine br_f rfl (call_i (s_rfGo hI hB (by omega) hM cwd path false ?_))
    intro σ1 g1
    have hpl := fun e => locate_place hI cwd path false e
    have hmk : A.symlinkF cwd target path = (let r := A.locate cwd path false
     if r.1 ≠ 0 then (r.1, A) else if r.2.there = true then (6, A) else let m := A.makeR r.2.dir r.2.name 3 511 target; (m.2.1, m.2.2)) := by
     unfold AT.symlinkF AT.freshP
     rw [if_neg (by rw [hl]; decide)]
     simp only
     by_cases h : (A.locate cwd path false).1 = 0
     ·simp only [h, ne_eq, not_true_eq_false, if_false]
      cases h2 : (A.locate cwd path false).2.there <;> simp
     ·simp [h]
    generalize A.locate cwd path false = r at hpl hmk ⊢
    obtain ⟨e, p⟩ := r
    simp only at hmk
    unfold plL
    by_cases he : e = 0
    case neg =>
     rw [if_neg he]
     unfold plZ
     (refine app_of rfl ?_; try dsimp only)
     refine al_i ?_; intro b8 σ2 g2 e2 n2
     refine st_i2 e2 sz_RPlace (by rfl) (by rfl) ?_; intro σ3 p3
     refine br_t (by simpa using he) (same σ3 e (by rw [hmk, if_pos he]) (g1.trans (g2.putF p3 n2)))
    subst he
    rw [if_pos rfl]
    rw [if_neg (by decide)] at hmk
    unfold plV
    (refine app_of rfl ?_; try dsimp only)
    refine al_i ?_; intro b8 σ2 g2 e2 n2
    refine st_i2 e2 sz_RPlace (by rfl) (by rfl) ?_; intro σ3 p3
    have hg3 : Gr σ σ3 := g1.trans (g2.putF p3 n2)
    have k8 : σ3 b8 = some (.cells ⟨[.int .i64 (p.dir - 1), .string p.name, .int .i64 (if p.there then p.ino - 1 else -1)]⟩ 171 (0, 0)) := p3.same
    have hM3 := hM.gr hg3
    have hP : PlOk A p := hpl rfl
    refine br_f rfl (rd_I (rdC_of k8 (by rfl)) ?_)
    cases ht : p.there with
    | true =>
     obtain ⟨n, hn⟩ := PlOk.get hI hP ht
     have hlow := (hI.low _ _ hn).1
     rw [if_pos ht] at hmk
     exact br_t (by simp; omega) (same σ3 6 hmk hg3)
    | false =>
     rw [if_neg (by rw [ht]; decide)] at hmk
     have hdir : A.isDir p.dir := hP.1
     have hd11 : p.dir - 1 + 1 = p.dir := by omega
     refine br_f rfl (rd_G (rdA_of' k8 (by rfl)) ?_)
     (refine app_of rfl ?_; try dsimp only)
     obtain ⟨nm, fd⟩ := hP.named (hP.notThere ht)
     rw [if_neg (by rw [ht]; decide)] at fd
     refine call_i (s_rfMade hI hB hN hM3 (d := p.dir - 1) (by rw [hd11]; exact hdir) nm (by unfold likeE kindOkE; simp [lk, hl]) (by rw [hd11]; exact fd) ?_)
     intro σ' M' hR hfr
     rw [hd11] at hR ⊢
     rw [hmk] at hK
     exact app_I (hK σ' (fun c => M'.w c ≠ none) ⟨M', hR, fun c => Iff.rfl⟩ (Sep.of_frame hD fun c o hc hw => hfr c o (hg3.get hc) hw))
 exact key target.size 0 (by omega) (by simp)
end
section
variable {σ σ' : H} {b : Nat} {A : AT} {M : RfM} {N : Nat}
theorem s_rfLeave {dir : Int} {nd : AN} {name : ByteArray} (hM : RfIn σ b A M) (hL : ∀ i n, A.get i = some n -> 1 <= i /\ i <= A.last) (hd : A.get (dir + 1) = some nd) (hnod : (keysL nd.ents).Nodup) (hlen : nd.ents.length <= 100000000) {K : KH}
 (hK : ∀ σ' M', RfIn σ' b (A.set (dir + 1) { nd with ents := rm name nd.ents }) M' -> (∀ c o, σ c = some o -> M.w c = none -> σ' c = some o /\ M'.w c = none) -> K (.tuple ⟨[]⟩) σ') :
 callW Tryz.prog 148 [.pointer (some ⟨b, 0, none⟩), .int .i64 dir, .string name] K σ := by
 refine c148 _ _ _ ?_
 unfold g148
 refine loop_i ?_
 intro R hR
 have hT : eRow (rm name nd.ents) = ((sortN (keysL nd.ents)).filter fun k => !strEq k name).map fun k => [Value.string k, .int .i64 ((lk k nd.ents).getD 0 - 1)] := by
  unfold eRow
  rw [sortN_rm hnod]
  apply List.map_congr_left
  intro k hk
  have hfk : (!strEq k name) = true := (List.mem_filter.1 hk).2
  have hne : (k == name) = false := by
   cases e : (k == name) with
   | false => rfl
   | true =>
    have : k = name := by simpa using e
    rw [strEq_iff.2 this] at hfk; cases hfk
  rw [lk_rm hnod, hne]; rfl
 generalize hks : sortN (keysL nd.ents) = ks at hT
 have hkl : ks.length = nd.ents.length := by rw [<- hks, (sortN_perm _).length_eq]; simp [keysL]
 have hke : ∀ {τ : H}, RfIn τ b A M -> (M.ey (dir + 1)).len = ks.length := by
  intro τ h
  have := (h.ent _ _ hd).1
  rw [<- hks]; simpa [eRow] using this
 have wnew : ∀ c, σ c = none -> M.w c = none := fun c hc => hM.new hc
 have key : ∀ (c i : Nat) (l : Sl) (τ : H), c + i = ks.length -> EntNew σ τ (((ks.take i).filter fun k => !strEq k name).map fun k => [Value.string k, .int .i64 ((lk k nd.ents).getD 0 - 1)]) l -> R (some ⟨b, 0, none⟩) dir name l (i : Int) τ := by
  intro c
  induction c with
  | zero =>
   intro i l τ hc hE
   have hMt := hM.gr hE.1
   have hlen2 := hke hMt
   rw [show ks.take i = ks from List.take_of_length_le (by omega), <- hT] at hE
   refine hR _ _ _ _ _ _ ?_
   refine rf_at2 hMt hL hd (rd_L (rdC_of (hMt.nod _ _ hd) (by rfl)) (br_f (by simp only [decide_eq_false_iff_not]; omega) ?_))
   have hlow : ∀ i n, A.get i = some n -> 1 <= i := fun i n hn => (hL i n hn).1
   refine rf_at2 hMt hL hd ?_
   refine st_i2 (hMt.nod _ _ hd) sz_REnts (by rfl) (by rfl) ?_; intro τ1 p1
   have p1' : Put τ (M.cb (dir + 1)) (nodeO { nd with ents := rm name nd.ents } l) τ1 := p1
   have hM1 := hMt.setN hlow hd (n' := { nd with ents := rm name nd.ents }) (y' := l) p1' hE.2.1 (fun g hg => .inl (wnew g (hE.2.2 g hg)))
   refine hK τ1 _ hM1 fun c o hc hw => ?_
   have hcb : c ≠ M.cb (dir + 1) := fun e => by rw [e, hM.wn _ _ hd] at hw; cases hw
   refine ⟨p1'.get hcb (hE.1.get hc), ?_⟩
   show (if l.base = some ⟨c, 0, none⟩ then some (dir + 1, true) else M.w c) = none
   rw [if_neg (fun e => by rw [hE.2.2 c e] at hc; cases hc)]; exact hw
  | succ c ih =>
   intro i l τ hc hE
   have hMt := hM.gr hE.1
   have hlen2 := hke hMt
   obtain ⟨k, hk⟩ : ∃ k, ks[i]? = some k := ⟨_, List.getElem?_eq_getElem (by omega)⟩
   obtain ⟨gy, oy, q1, q2, _, q4⟩ := erow_at (hMt.ent _ _ hd) (by rw [hks]; exact hk)
   have e0 : (i : Int).toNat = i := by omega
   have hb2 : (i : Int) < (((M.ey (dir + 1)).len : Nat) : Int) := by omega
   have htk : ks.take (i + 1) = ks.take i ++ [k] := by rw [List.take_add_one, hk]; rfl
   refine hR _ _ _ _ _ _ ?_
   refine rf_at2 hMt hL hd (rd_L (rdC_of (hMt.nod _ _ hd) (by rfl)) (br_t (by simp only [decide_eq_true_eq]; omega) ?_))
   refine j_i (fun j => ∀ (l' : Sl) (τ' : H), EntNew σ τ' (((ks.take (i + 1)).filter fun k => !strEq k name).map fun k => [Value.string k, .int .i64 ((lk k nd.ents).getD 0 - 1)]) l' -> j (some ⟨b, 0, none⟩) dir name l' (i : Int) τ') ?_ ?_
   ·intro l' τ' hE'
    rw [wrap_id (x := (i : Int) + 1) (by omega) (by omega)]
    rw [show (i : Int) + 1 = ((i + 1 : Nat) : Int) from by omega]
    exact ih (i + 1) l' τ' (by omega) hE'
   intro j hj
   rw [htk, List.filter_append, List.map_append] at hj
   refine rf_at2 hMt hL hd (rd_L (rdC_of (hMt.nod _ _ hd) (by rfl)) ?_)
   rw [q1]
   refine ptr_i (if_i ⟨by omega, hb2⟩ (rd_S (by rw [e0]; exact q2) ?_))
   cases hs : strEq k name with
   | true =>
    refine br_f rfl (hj l τ ?_)
    have : List.filter (fun k => !strEq k name) [k] = [] := by simp [hs]
    rw [this]; simpa using hE
   | false =>
    have hf1 : List.filter (fun k => !strEq k name) [k] = [k] := by simp [hs]
    rw [hf1] at hj
    refine br_t rfl (rf_at2 hMt hL hd (rd_L (rdC_of (hMt.nod _ _ hd) (by rfl)) ?_))
    rw [q1]
    refine ptr_i (if_i ⟨by omega, hb2⟩ (rd_G (by rw [e0]; exact q4) ?_))
    (refine app_of rfl ?_; try dsimp only)
    refine app_ent hE ?_ ?_
    ·rw [List.length_map]
     refine Nat.lt_of_le_of_lt (List.length_filter_le ..) ?_
     rw [List.length_take]; omega
    ·intro l' τ' hE' _
     exact hj l' τ' hE'
 exact key ks.length 0 ⟨none, 0, 0⟩ σ (by omega) ⟨Gr.refl _, RowsOwn.nil _ _ _, fun g h => by cases h⟩
theorem RfIn.links {X : AT} {i : Int} {n : AN} {k : Int} (h : RfIn σ b (X.set i n) M) (_ : (X.set i n).get i = some n) : RfIn σ b (X.set i { n with links := k }) M := by
 have hget : ∀ j m, (X.set i { n with links := k }).get j = some m -> ∃ m0, (X.set i n).get j = some m0 /\ m0.kind = m.kind /\ m0.mode = m.mode /\ m0.data = m.data /\ m0.up = m.up /\ m0.ents = m.ents := by
  intro j m hm
  rw [AT.get_set] at hm ⊢
  by_cases e : j = i
  ·rw [if_pos e] at hm ⊢
   cases hm
   exact ⟨n, rfl, rfl, rfl, rfl, rfl, rfl⟩
  ·rw [if_neg e] at hm ⊢
   exact ⟨m, hm, rfl, rfl, rfl, rfl, rfl⟩
 refine ⟨h.top, ?_, ?_, ?_, h.wb, h.wt, ?_, ?_, h.has⟩
 ·have : ptrRow (X.set i { n with links := k }) M.cb = ptrRow (X.set i n) M.cb := by
   unfold ptrRow
   apply List.map_congr_left
   intro t _
   rw [AT.get_set, AT.get_set]
   by_cases e : (t : Int) + 1 = i
   ·rw [if_pos e, if_pos e]; rfl
   ·rw [if_neg e, if_neg e]
  rw [this]; exact h.tab
 ·intro j m hm
  obtain ⟨m0, q1, q2, q3, q4, q5, q6⟩ := hget j m hm
  have := h.nod j m0 q1
  unfold nodeO upR at this ⊢
  rw [q2, q3, q4, q5] at this
  exact this
 ·intro j m hm
  obtain ⟨m0, q1, q2, q3, q4, q5, q6⟩ := hget j m hm
  have := h.ent j m0 q1
  rw [q6] at this
  exact this
 ·intro j m hm
  obtain ⟨m0, q1, _⟩ := hget j m hm
  exact h.wn j m0 q1
 ·intro j m g hm hg
  obtain ⟨m0, q1, _⟩ := hget j m hm
  exact h.we j m0 g q1 hg
theorem s_rfHard (hI : Wk.Inv A) (hB : Bd N A) (hN : N <= 100000000) {D : Nat -> Prop} (hA : RfAt σ b A D) (cwd src to : ByteArray) {K : KH}
 (hK : ∀ σ' D', RfAt σ' b (A.hardF cwd src to).2 D' -> Sep σ D σ' D' -> K (.int .i64 (A.hardF cwd src to).1) σ') :
 callW Tryz.prog 84 [.pointer (some ⟨b, 0, none⟩), .string cwd, .string src, .string to] K σ := by
 obtain ⟨M, hM, hD⟩ := hA
 refine c84 _ _ _ _ ?_
 unfold g84
 have same : ∀ (τ : H) (x : Int), A.hardF cwd src to = (x, A) -> Gr σ τ -> K (.int .i64 x) τ := by
  intro τ x hx hg
  rw [hx] at hK
  exact hK τ D ⟨M, hM.gr hg, hD⟩ (Sep.gr hg)
 refine call_i (s_rfGo hI hB (by omega) hM cwd src false ?_)
 intro σ1 g1
 have hpl := fun e => locate_place hI cwd src false e
 have hql := fun e => locate_place hI cwd to false e
 have hmk : A.hardF cwd src to = (let r := A.locate cwd src false
  if r.1 ≠ 0 then (r.1, A) else
   let q := A.locate cwd to false
   if q.1 ≠ 0 then (q.1, A) else if r.2.there = false then (5, A) else if A.kind r.2.ino = 2 then (7, A) else if A.kind r.2.ino = 3 then (2, A) else if q.2.there = true then (6, A) else A.linkR q.2.dir q.2.name r.2.ino) := by
  unfold AT.hardF AT.both
  simp only
  by_cases h : (A.locate cwd src false).1 = 0
  ·simp only [h, ne_eq, not_true_eq_false, if_false]
  ·simp [h]
 generalize A.locate cwd src false = r at hpl hmk ⊢
 obtain ⟨e, p⟩ := r
 simp only at hmk
 unfold plL
 by_cases he : e = 0
 case neg =>
  rw [if_neg he]
  unfold plZ
  (refine app_of rfl ?_; try dsimp only)
  refine al_i ?_; intro b8 σ2 g2 e2 n2
  refine st_i2 e2 sz_RPlace (by rfl) (by rfl) ?_; intro σ3 p3
  refine br_t (by simpa using he) (same σ3 e (by rw [hmk, if_pos he]) (g1.trans (g2.putF p3 n2)))
 subst he
 rw [if_pos rfl]
 rw [if_neg (by decide)] at hmk
 unfold plV
 (refine app_of rfl ?_; try dsimp only)
 refine al_i ?_; intro b8 σ2 g2 e2 n2
 refine st_i2 e2 sz_RPlace (by rfl) (by rfl) ?_; intro σ3 p3
 have hg3 : Gr σ σ3 := g1.trans (g2.putF p3 n2)
 have k8 : σ3 b8 = some (.cells ⟨[.int .i64 (p.dir - 1), .string p.name, .int .i64 (if p.there then p.ino - 1 else -1)]⟩ 171 (0, 0)) := p3.same
 have hM3 := hM.gr hg3
 have hP : PlOk A p := hpl rfl
 clear p3 e2
 refine br_f rfl (call_i (s_rfGo hI hB (by omega) hM3 cwd to false ?_))
 intro σ4 g4
 generalize A.locate cwd to false = r at hql hmk ⊢
 obtain ⟨e, q⟩ := r
 simp only at hmk
 unfold plL
 by_cases he : e = 0
 case neg =>
  rw [if_neg he]
  unfold plZ
  (refine app_of rfl ?_; try dsimp only)
  refine al_i ?_; intro b9 σ5 g5 e5 n5
  refine st_i2 e5 sz_RPlace (by rfl) (by rfl) ?_; intro σ6 p6
  refine br_t (by simpa using he) (same σ6 e (by rw [hmk, if_pos he]) ((hg3.trans g4).trans (g5.putF p6 n5)))
 subst he
 rw [if_pos rfl]
 rw [if_neg (by decide)] at hmk
 unfold plV
 (refine app_of rfl ?_; try dsimp only)
 refine al_i ?_; intro b9 σ5 g5 e5 n5
 refine st_i2 e5 sz_RPlace (by rfl) (by rfl) ?_; intro σ6 p6
 have hg6 : Gr σ σ6 := (hg3.trans g4).trans (g5.putF p6 n5)
 have k9 : σ6 b9 = some (.cells ⟨[.int .i64 (q.dir - 1), .string q.name, .int .i64 (if q.there then q.ino - 1 else -1)]⟩ 171 (0, 0)) := p6.same
 have k8 := (g4.trans (g5.putF p6 n5)).get k8
 have hM6 := hM.gr hg6
 have hQ : PlOk A q := hql rfl
 clear p6 e5
 refine br_f rfl (rd_I (rdC_of k8 (by rfl)) ?_)
 cases ht : p.there with
 | false =>
  rw [if_pos ht] at hmk
  exact br_t rfl (same σ6 5 hmk hg6)
 | true =>
  obtain ⟨n, hn⟩ := PlOk.get hI hP ht
  have hlow := hI.low _ _ hn
  have hkn : A.kind p.ino = n.kind := by unfold AT.kind; rw [hn]; rfl
  rw [if_neg (by rw [ht]; decide), hkn] at hmk
  rw [if_pos ht] at k8
  have h11 : p.ino - 1 + 1 = p.ino := by omega
  obtain ⟨gs, os, s1, s2, s3⟩ := hM6.slot hI (d := p.ino - 1) (n := n) (by rw [h11]; exact hn)
  rw [h11] at s3
  rw [if_pos rfl]
  refine br_f (by simp only [decide_eq_false_iff_not]; omega) (ptr_i (rd_L (rdC_of hM6.top (by rfl)) (rd_I (rdC_of k8 (by rfl)) ?_)))
  rw [s1]
  refine ptr_i (if_i s2 (rd_P s3 (ptr_i (rd_I (rdC_of (hM6.nod _ _ hn) (by rfl)) ?_))))
  by_cases hk2 : n.kind = 2
  ·rw [if_pos hk2] at hmk
   exact br_t (by simpa using hk2) (same σ6 7 hmk hg6)
  rw [if_neg hk2] at hmk
  refine br_f (by simpa using hk2) (ptr_i (rd_L (rdC_of hM6.top (by rfl)) (rd_I (rdC_of k8 (by rfl)) ?_)))
  rw [s1]
  refine ptr_i (if_i s2 (rd_P s3 (ptr_i (rd_I (rdC_of (hM6.nod _ _ hn) (by rfl)) ?_))))
  by_cases hk3 : n.kind = 3
  ·rw [if_pos hk3] at hmk
   exact br_t (by simpa using hk3) (same σ6 2 hmk hg6)
  rw [if_neg hk3] at hmk
  have hk1 : n.kind = 1 := by
   rcases kind_cases (hI.like _ _ hn) with h | h | h
   ·exact h
   ·exact absurd h hk2
   ·exact absurd h hk3
  refine br_f (by simpa using hk3) (rd_I (rdC_of k9 (by rfl)) ?_)
  cases hqt : q.there with
  | true =>
   obtain ⟨nq, hnq⟩ := PlOk.get hI hQ hqt
   have hlq := hI.low _ _ hnq
   rw [if_pos hqt] at hmk
   exact br_t (by simp; omega) (same σ6 6 hmk hg6)
  | false =>
   rw [if_neg (by rw [hqt]; decide)] at hmk
   obtain ⟨nm, fd⟩ := hQ.named (hQ.notThere hqt)
   rw [if_neg (by rw [hqt]; decide)] at fd
   obtain ⟨nd, hnd, hnd2⟩ := hQ.1
   have hd11 : q.dir - 1 + 1 = q.dir := by omega
   have hne : q.dir ≠ p.ino := by intro e; rw [e, hn] at hnd; cases hnd; omega
   have hlkE : A.linkE q.dir q.name p.ino = 0 := by
    have hfe : A.fileE p.ino = 0 := by unfold AT.fileE; rw [hn]; simp [hk1]
    unfold AT.linkE
    simp [firstE, AT.dirE_of ⟨nd, hnd, hnd2⟩, nm, hfe, fd]
   have hlR : A.hardF cwd src to = (0, A.linked q.dir q.name p.ino) := by rw [hmk]; unfold AT.linkR; rw [if_pos hlkE]
   have hfl : lk q.name nd.ents = none := by unfold AT.find at fd; rw [hnd] at fd; exact fd
   have hlast := hB.last
   refine br_f rfl (rd_I (rdC_of k9 (by rfl)) (rd_S (rdC_of k9 (by rfl)) (rd_I (rdC_of k8 (by rfl)) ?_)))
   refine call_i (s_rfEnter hM6 hI.low (by omega) (by rw [hd11]; exact hnd) (by rw [h11]; exact hn) (by omega) hfl (hI.enod _ _ hnd) (by have := hB.ents _ _ hnd; omega) ?_)
   intro σ' M' hR hfr
   refine app_U ?_
   rw [hlR] at hK
   rw [h11, hd11, if_neg hk2] at hR
   have hent : A.ent q.dir (up q.name p.ino) = A.set q.dir { nd with ents := up q.name p.ino nd.ents } := by unfold AT.ent; rw [hnd]
   have hlk2 : A.linked q.dir q.name p.ino = (A.set q.dir { nd with ents := up q.name p.ino nd.ents }).set p.ino { n with links := wr (n.links + 1) } := by
    unfold AT.linked
    rw [hent]
    unfold AT.mod
    rw [AT.get_set_ne _ _ (Ne.symm hne), hn]
   have hR1 := hR ((A.set q.dir { nd with ents := up q.name p.ino nd.ents }).set p.ino n) rfl rfl rfl (fun j => by rw [AT.get_set, AT.get_set])
   refine hK σ' (fun c => M'.w c ≠ none) ⟨M', ?_, fun c => Iff.rfl⟩ (Sep.of_frame hD fun c o hc hw => hfr c o (hg6.get hc) hw)
   show RfIn σ' b (A.linked q.dir q.name p.ino) M'
   rw [hlk2]
   exact hR1.links (by rw [AT.get_set_self]) 
end
section
variable {σ σ' : H} {b : Nat} {A : AT} {M : RfM} {N : Nat}
theorem cntR_le (es : List (ByteArray × Int)) (j : Int) : ∀ l : List ByteArray, cntR es j l <= l.length := by
 intro l
 induction l with
 | nil => exact Nat.le_refl _
 | cons k r ih => simp only [cntR, List.length_cons, Wk.one]; split <;> omega
theorem sumL_le {f : AN -> Nat} {l : List (Int × AN)} {L : Nat} (h : ∀ i n, lk i l = some n -> f n <= L) : ∀ i : Nat, sumL f l i <= i * L := by
 intro i
 induction i with
 | zero => simp [sumL]
 | succ i ih =>
  simp only [sumL]
  rw [Nat.succ_mul]
  cases hl : lk ((i : Int) + 1) l with
  | none => simp; omega
  | some n => have := h _ n hl; simp; omega
theorem s_rfLinks (hM : RfIn σ b A M) (hL : ∀ i n, A.get i = some n -> 1 <= i /\ i <= A.last) (hz : A.last <= 100000000) (hnod : ∀ i n, A.get i = some n -> (keysL n.ents).Nodup) (hlen : ∀ i n, A.get i = some n -> n.ents.length <= 100000000) (ino : Int) {K : KH}
 (hK : K (.int .i64 ((if ino = 0 then 1 else 0) + (sumL (cntE (ino + 1)) A.nodes A.last.toNat : Int))) σ) : callW Tryz.prog 203 [.pointer (some ⟨b, 0, none⟩), .int .i64 ino] K σ := by
 refine c203 _ _ ?_
 unfold g203
 have hsum : ∀ i : Nat, sumL (cntE (ino + 1)) A.nodes i <= i * 100000000 := sumL_le fun i n hn => by
  have h1 : cntE (ino + 1) n = cntR n.ents (ino + 1) (keysL n.ents) := (cntR_keys _ (hnod i n hn)).symm
  have h2 := cntR_le n.ents (ino + 1) (keysL n.ents)
  have h3 : (keysL n.ents).length = n.ents.length := by simp [keysL]
  have := hlen i n hn
  omega
 have hxl := hM.len
 refine j_i (fun j => ∀ s : Int, s = (if ino = 0 then 1 else 0) -> j (some ⟨b, 0, none⟩) ino s σ) ?_ ?_
 case refine_2 =>
  intro j hj
  by_cases h : ino = 0
  ·exact br_t (by simpa using h) (hj 1 (by rw [if_pos h]))
  ·exact br_f (by simpa using h) (hj 0 (by rw [if_neg h]))
 intro s hs
 rw [<- hs] at hK
 have hs01 : 0 <= s /\ s <= 1 := by rw [hs]; split <;> omega
 refine loop_i ?_
 intro R hR
 have key : ∀ (c i : Nat), c + i = A.last.toNat -> R (some ⟨b, 0, none⟩) ino (s + (sumL (cntE (ino + 1)) A.nodes i : Int)) (i : Int) σ := by
  intro c
  induction c with
  | zero =>
   intro i hc
   have hi : i = A.last.toNat := by omega
   refine hR _ _ _ _ _ ?_
   refine ptr_i (rd_L (rdC_of hM.top (by rfl)) (br_f (by simp only [decide_eq_false_iff_not]; omega) ?_))
   rw [hi]; exact hK
  | succ c ih =>
   intro i hc
   have hi8 : i < 100000000 := by omega
   have hsi := hsum i
   have hnext : ∀ t : Int, t = s + (sumL (cntE (ino + 1)) A.nodes (i + 1) : Int) -> R (some ⟨b, 0, none⟩) ino t (IntKind.i64.wrap ((i : Int) + 1)) σ := by
    intro t ht
    rw [ht, wrap_id (x := (i : Int) + 1) (by omega) (by omega), show (i : Int) + 1 = ((i + 1 : Nat) : Int) from by omega]
    exact ih (i + 1) (by omega)
   refine hR _ _ _ _ _ ?_
   refine ptr_i (rd_L (rdC_of hM.top (by rfl)) (br_t (by simp only [decide_eq_true_eq]; omega) (loop_i ?_)))
   intro R2 hR2
   obtain ⟨gs, os, s1, s2, s3⟩ := hM.ptr (i := i) (by omega)
   cases hget : A.get ((i : Int) + 1) with
   | none =>
    rw [hget] at s3
    have z1 : sumL (cntE (ino + 1)) A.nodes (i + 1) = sumL (cntE (ino + 1)) A.nodes i := by
     simp only [sumL]; rw [show lk ((i : Int) + 1) A.nodes = none from hget]; rfl
    refine hR2 _ _ _ _ _ _ ?_
    refine j_i (fun j => ∀ v1 v2 v3 v4 v5 v6 v7 v8 v9 v10 v11 v12 v13, j (some ⟨b, 0, none⟩) ino (s + (sumL (cntE (ino + 1)) A.nodes i : Int)) (i : Int) 0 v1 v2 v3 v4 v5 v6 v7 v8 v9 v10 v11 v12 v13 false σ) ?_ ?_
    ·intro v1 v2 v3 v4 v5 v6 v7 v8 v9 v10 v11 v12 v13
     exact br_f rfl (hnext _ (by rw [z1]))
    ·intro j hj
     refine ptr_i (rd_L (rdC_of hM.top (by rfl)) ?_)
     rw [s1]
     refine ptr_i (if_i s2 (rd_P s3 (br_f rfl ?_)))
     exact hj _ _ _ _ _ _ _ _ _ _ _ _ _
   | some n =>
    rw [hget] at s3
    have he := hM.ent _ _ hget
    have hkl : (sortN (keysL n.ents)).length = n.ents.length := by rw [(sortN_perm _).length_eq]; simp [keysL]
    have hyl : (M.ey ((i : Int) + 1)).len = (sortN (keysL n.ents)).length := by have := he.1; simpa [eRow] using this
    have hl8 := hlen _ _ hget
    have z1 : sumL (cntE (ino + 1)) A.nodes (i + 1) = sumL (cntE (ino + 1)) A.nodes i + cntR n.ents (ino + 1) (sortN (keysL n.ents)) := by
     simp only [sumL]; rw [show lk ((i : Int) + 1) A.nodes = some n from hget, cntR_sorted _ (hnod _ _ hget)]; rfl
    have key2 : ∀ (c2 k : Nat), c2 + k = (sortN (keysL n.ents)).length -> R2 (some ⟨b, 0, none⟩) ino (s + (sumL (cntE (ino + 1)) A.nodes i : Int) + (cntR n.ents (ino + 1) ((sortN (keysL n.ents)).take k) : Int)) (i : Int) (k : Int) σ := by
     intro c2
     induction c2 with
     | zero =>
      intro k hk
      refine hR2 _ _ _ _ _ _ ?_
      refine j_i (fun j => ∀ v1 v2 v3 v4 v5 v6 v7 v8 v9 v10 v11 v12 v13, j (some ⟨b, 0, none⟩) ino (s + (sumL (cntE (ino + 1)) A.nodes i : Int) + (cntR n.ents (ino + 1) ((sortN (keysL n.ents)).take k) : Int)) (i : Int) (k : Int) v1 v2 v3 v4 v5 v6 v7 v8 v9 v10 v11 v12 v13 false σ) ?_ ?_
      ·intro v1 v2 v3 v4 v5 v6 v7 v8 v9 v10 v11 v12 v13
       refine br_f rfl (hnext _ ?_)
       rw [z1, List.take_of_length_le (by omega)]; omega
      ·intro j hj
       refine ptr_i (rd_L (rdC_of hM.top (by rfl)) ?_)
       rw [s1]
       refine ptr_i (if_i s2 (rd_P s3 (br_t rfl ?_)))
       refine ptr_i (rd_L (rdC_of hM.top (by rfl)) ?_)
       rw [s1]
       refine ptr_i (if_i s2 (rd_P s3 (ptr_i (rd_L (rdC_of (hM.nod _ _ hget) (by rfl)) ?_))))
       have hf : decide ((k : Int) < (((M.ey ((i : Int) + 1)).len : Nat) : Int)) = false := by simp only [decide_eq_false_iff_not]; omega
       have := hj (.int .i64 (k : Int))
       simp only [hf]
       exact this _ _ _ _ _ _ _ _ _ _ _ _
     | succ c2 ih2 =>
      intro k hk
      obtain ⟨nm, hnm⟩ : ∃ nm, (sortN (keysL n.ents))[k]? = some nm := ⟨_, List.getElem?_eq_getElem (by omega)⟩
      obtain ⟨gy, oy, q1, _, q3, _⟩ := erow_at he hnm
      have hcl := cntR_le n.ents (ino + 1) ((sortN (keysL n.ents)).take k)
      rw [List.length_take] at hcl
      have htk : cntR n.ents (ino + 1) ((sortN (keysL n.ents)).take (k + 1)) = cntR n.ents (ino + 1) ((sortN (keysL n.ents)).take k) + Wk.one (ino + 1) ((lk nm n.ents).getD 0) := by
       rw [List.take_add_one, hnm, cntR_app]; simp [cntR]
      refine hR2 _ _ _ _ _ _ ?_
      refine j_i (fun j => ∀ v1 v2 v3 v4 v5 v6 v7 v8 v9 v10 v11 v12 v13, j (some ⟨b, 0, none⟩) ino (s + (sumL (cntE (ino + 1)) A.nodes i : Int) + (cntR n.ents (ino + 1) ((sortN (keysL n.ents)).take k) : Int)) (i : Int) (k : Int) v1 v2 v3 v4 v5 v6 v7 v8 v9 v10 v11 v12 v13 true σ) ?_ ?_
      ·intro v1 v2 v3 v4 v5 v6 v7 v8 v9 v10 v11 v12 v13
       refine br_t rfl ?_
       refine j_i (fun j => ∀ t : Int, t = s + (sumL (cntE (ino + 1)) A.nodes i : Int) + (cntR n.ents (ino + 1) ((sortN (keysL n.ents)).take (k + 1)) : Int) -> j (some ⟨b, 0, none⟩) ino t (i : Int) (k : Int) v1 v2 v3 v4 v5 v6 v7 v8 v9 v10 v11 v12 v13 σ) ?_ ?_
       ·intro t ht
        rw [ht, wrap_id (x := (k : Int) + 1) (by omega) (by omega), show (k : Int) + 1 = ((k + 1 : Nat) : Int) from by omega]
        exact ih2 (k + 1) (by omega)
       intro j hj
       refine rf_at2 hM hL hget (rd_L (rdC_of (hM.nod _ _ hget) (by rfl)) ?_)
       rw [q1]
       have e0 : (k : Int).toNat = k := by omega
       refine ptr_i (if_i ⟨by omega, by show (k : Int) < (((M.ey ((i : Int) + 1)).len : Nat) : Int); omega⟩ (rd_I (by rw [e0]; exact q3) ?_))
       by_cases hv : (lk nm n.ents).getD 0 = ino + 1
       ·refine br_t (by simp [hv]) (hj _ ?_)
        rw [htk, wrap_id (by omega) (by omega)]
        unfold Wk.one; rw [if_pos hv]; omega
       ·refine br_f (by simp; omega) (hj _ ?_)
        rw [htk]
        unfold Wk.one; rw [if_neg hv]; omega
      ·intro j hj
       refine ptr_i (rd_L (rdC_of hM.top (by rfl)) ?_)
       rw [s1]
       refine ptr_i (if_i s2 (rd_P s3 (br_t rfl ?_)))
       refine ptr_i (rd_L (rdC_of hM.top (by rfl)) ?_)
       rw [s1]
       refine ptr_i (if_i s2 (rd_P s3 (ptr_i (rd_L (rdC_of (hM.nod _ _ hget) (by rfl)) ?_))))
       have hf : decide ((k : Int) < (((M.ey ((i : Int) + 1)).len : Nat) : Int)) = true := by simp only [decide_eq_true_eq]; omega
       have := hj (.int .i64 (k : Int))
       simp only [hf]
       exact this _ _ _ _ _ _ _ _ _ _ _ _
    have := key2 (sortN (keysL n.ents)).length 0 (by omega)
    simpa [cntR] using this
 have := key A.last.toNat 0 (by omega)
 simpa [sumL] using this
end
section
variable {σ σ' : H} {b : Nat} {A : AT} {M : RfM} {N : Nat}
def ptrL (A : AT) (cb : Int -> Nat) : List Value := (List.range A.last.toNat).map fun (i : Nat) => .pointer (if (A.get ((i : Int) + 1)).isSome then some ⟨cb ((i : Int) + 1), 0, none⟩ else none)
theorem ptr_flat (A : AT) (cb : Int -> Nat) : (ptrRow A cb).flatten = ptrL A cb := by
 unfold ptrRow ptrL
 induction List.range A.last.toNat with
 | nil => rfl
 | cons i r ih => rw [List.map_cons, List.map_cons, List.flatten_cons, ih]; rfl
theorem sz_PRNode : sizeT Tryz.prog 128 = some 1 := by kernel_rfl
def AT.minus (A : AT) (i : Int) : AT := { A with nodes := rm i A.nodes }
theorem minus_get (A : AT) (h : (keysL A.nodes).Nodup) (i j : Int) : (AT.minus A i).get j = if j = i then none else A.get j := by
 unfold AT.minus AT.get
 simp only [lk_rm h]
 by_cases e : j = i <;> simp [e]
theorem rf_nil (h : RfIn σ b A M) (hL : ∀ i n, A.get i = some n -> 1 <= i /\ i <= A.last) (hnd : (keysL A.nodes).Nodup) {d : Int} {n : AN} (hn : A.get (d + 1) = some n) {F : H -> Prop}
 (hF : ∀ σ', RfIn σ' b (AT.minus A (d + 1)) M -> (∀ c o, σ c = some o -> M.w c = none -> σ' c = some o /\ M.w c = none) -> F σ') :
 ptrW (some ⟨b, 0, none⟩) (fun (b4 o5 : Nat) => rdT (rdC b4 (o5 + 2)) kL (fun (x6 : Sl) => ptrW x6.base (fun (b7 o8 : Nat) => ifW (0 <= d /\ d < ((x6.len : Nat) : Int)) (stW Tryz.prog 128 (.pointer (some ⟨b7, o8 + d.toNat * 1, none⟩)) (.pointer none) F)))) σ := by
 obtain ⟨l1, l2⟩ := hL _ _ hn
 have hl := h.len
 obtain ⟨t1, t2, ⟨q0, q00, q000⟩ | ⟨g, cur, q1, q2, q3, q4, q5⟩⟩ := id h.tab
 ·have : (ptrRow A M.cb).length = A.last.toNat := by simp [ptrRow]
  rw [q000] at this; simp at this; omega
 refine ptr_i (rd_L (rdC_of h.top (by rfl)) ?_)
 rw [q1]
 have hdl : d.toNat < cur.length := by rw [Nat.mul_one] at q3; omega
 refine ptr_i (if_i ⟨by omega, by show d < ((M.x.len : Nat) : Int); omega⟩ ?_)
 have eo : 0 + d.toNat * 1 = d.toNat := by omega
 rw [eo]
 refine st_i2 q2 sz_PRNode (by show Nat.ble (d.toNat + 1) cur.length = true; exact Nat.ble_eq_true_of_le hdl) (by rfl) ?_
 intro σ' hp
 have hgw := h.wt g q1
 have hcur : cur.take d.toNat ++ arrL (Value.pointer none).cells ++ cur.drop (d.toNat + (arrL (Value.pointer none).cells).length) = cur.set d.toNat (.pointer none) := by
  show cur.take d.toNat ++ [Value.pointer none] ++ cur.drop (d.toNat + 1) = _
  rw [List.set_eq_take_append_cons_drop, if_pos hdl]; simp
 rw [hcur] at hp
 have keep : ∀ c o, σ c = some o -> M.w c ≠ some (0, true) -> σ' c = some o := fun c o hc hw => hp.get (fun e => hw (by rw [e]; exact hgw)) hc
 have hget : ∀ j m, (AT.minus A (d + 1)).get j = some m -> A.get j = some m := by
  intro j m hm
  rw [minus_get A hnd] at hm
  by_cases e : j = d + 1
  ·rw [if_pos e] at hm; cases hm
  ·rw [if_neg e] at hm; exact hm
 refine hF σ' ⟨?_, ?_, ?_, ?_, h.wb, h.wt, fun i n hn => h.wn i n (hget i n hn), fun i n g hn => h.we i n g (hget i n hn), ?_⟩ ?_
 ·exact keep _ _ h.top (by rw [h.wb]; intro e; injection e with e; injection e with _ e; cases e)
 ·refine ⟨?_, ?_, .inr ⟨g, cur.set d.toNat (.pointer none), q1, hp.same, by rw [List.length_set]; exact q3, q4, ?_⟩⟩
  ·rw [hl]; simp [ptrRow, AT.minus]
  ·intro r hr; unfold ptrRow at hr; rw [List.mem_map] at hr; obtain ⟨_, _, rfl⟩ := hr; rfl
  ·rw [List.take_set, q5, ptr_flat, ptr_flat]
   apply List.ext_getElem?
   intro k
   rw [List.getElem?_set]
   unfold ptrL
   have el : (AT.minus A (d + 1)).last = A.last := rfl
   rw [el, List.getElem?_map, List.getElem?_map, List.length_map, List.length_range]
   by_cases hk : k < A.last.toNat
   ·rw [List.getElem?_range hk]
    simp only [Option.map_some, minus_get A hnd]
    by_cases e : d.toNat = k
    ·have e2 : (k : Int) + 1 = d + 1 := by omega
     rw [if_pos e, if_pos (by omega), if_pos e2]; rfl
    ·have e2 : ¬ ((k : Int) + 1 = d + 1) := by omega
     rw [if_neg e, if_neg e2]
   ·have : (List.range A.last.toNat)[k]? = none := by rw [List.getElem?_eq_none_iff]; simp; omega
    rw [this]
    by_cases e : d.toNat = k
    ·exfalso; omega
    ·rw [if_neg e]; rfl
 ·intro i n hn
  refine keep _ _ (h.nod i n (hget i n hn)) ?_
  rw [h.wn i n (hget i n hn)]; intro e; injection e with e; injection e with _ e; cases e
 ·intro i n hn
  refine (h.ent i n (hget i n hn)).keep fun g2 o hx hg => keep g2 o hg ?_
  rw [h.we i n g2 (hget i n hn) hx]
  intro e; injection e with e; injection e with e _
  have := (hL i n (hget i n hn)).1; omega
 ·intro c hc
  by_cases e : c = g
  ·rw [e, hp.same]; simp
  ·have := h.has c hc
   cases ho : σ c with
   | none => exact absurd ho this
   | some o => rw [hp.get e ho]; simp
 ·intro c o hc hw
  exact ⟨keep c o hc (by rw [hw]; simp), hw⟩
theorem s_rfGone (hM : RfIn σ b A M) (hL : ∀ i n, A.get i = some n -> 1 <= i /\ i <= A.last) (hz : A.last <= 100000000) (hnd : (keysL A.nodes).Nodup) (hnod : ∀ i n, A.get i = some n -> (keysL n.ents).Nodup) (hlen : ∀ i n, A.get i = some n -> n.ents.length <= 100000000) {ino : Int} {n : AN} (hn : A.get (ino + 1) = some n) (h0 : ino ≠ 0) {K : KH}
 (hK : ∀ σ', RfIn σ' b (if sumL (cntE (ino + 1)) A.nodes A.last.toNat = 0 then AT.minus A (ino + 1) else A) M -> (∀ c o, σ c = some o -> M.w c = none -> σ' c = some o /\ M.w c = none) -> K (.tuple ⟨[]⟩) σ') :
 callW Tryz.prog 149 [.pointer (some ⟨b, 0, none⟩), .int .i64 ino] K σ := by
 refine c149 _ _ ?_
 unfold g149
 refine call_i (s_rfLinks hM hL hz hnod hlen ino (app_I ?_))
 rw [if_neg h0]
 by_cases hs : sumL (cntE (ino + 1)) A.nodes A.last.toNat = 0
 ·rw [if_pos hs] at hK
  refine br_t (by simp [hs]) (rf_nil hM hL hnd hn ?_)
  exact hK
 ·rw [if_neg hs] at hK
  exact br_f (by simp; omega) (hK σ hM fun c o hc hw => ⟨hc, hw⟩)
end
theorem levels_le (A : AT) : ∀ (f : Nat) (i : Int), 0 <= A.levels f i /\ A.levels f i <= f := by
 intro f
 induction f with
 | zero => intro i; simp [AT.levels]
 | succ f ih =>
  intro i
  unfold AT.levels
  by_cases hk : A.kind i ≠ 2
  ·rw [if_pos hk]; omega
  rw [if_neg hk]
  have key : ∀ (l : List ByteArray) (n : Int), 0 <= n -> n <= f -> 0 <= l.foldl (fun n s => let x := AT.levels A f ((A.find i s).getD 0); if x > n then x else n) n /\ l.foldl (fun n s => let x := AT.levels A f ((A.find i s).getD 0); if x > n then x else n) n <= f := by
   intro l
   induction l with
   | nil => intro n h1 h2; exact ⟨h1, h2⟩
   | cons s r ihl =>
    intro n h1 h2
    simp only [List.foldl_cons]
    have := ih ((A.find i s).getD 0)
    refine ihl _ ?_ ?_ <;> (split <;> omega)
  have := key (A.names i) 0 (by omega) (by omega)
  omega
section
variable {σ : H} {bf : Nat} {A : AT} {B : Nat -> Prop}
theorem s_levelsF {N : Nat} (hI : Inv A) (hB : Bd N A) (hN : N <= 1000000000000) (hF : FsAt σ bf A B) : ∀ (f : Nat) (i : Int), f <= 100 -> (∀ d, A.isDir i -> A.deep 12 i = some d -> 13 <= f + d) -> ∀ {τ : H}, Gr σ τ -> ∀ {K : KH}, (∀ τ', Gr τ τ' -> K (.int .i64 (A.levels f i)) τ') -> callW Tryz.prog 180 [.pointer (some ⟨bf, 0, none⟩), .int .i64 i] K τ := by
 intro f
 induction f with
 | zero =>
  intro i _ hd τ hg K hK
  refine c180 _ _ ?_
  unfold g180
  refine call_i (s_kind (hF.gr hg) i (app_I ?_))
  have hk : A.kind i ≠ 2 := by
   intro hk
   have hdir := kind_dir hk
   obtain ⟨d, hdd⟩ := hI.deep i hdir
   have := hd d hdir hdd
   have := deep_bound hdd
   omega
  exact br_t (by simpa using hk) (hK τ (Gr.refl _))
 | succ f ih =>
  intro i hf hd τ hg K hK
  have hll := levels_le A f
  refine c180 _ _ ?_
  unfold g180
  refine call_i (s_kind (hF.gr hg) i (app_I ?_))
  unfold AT.levels at hK
  by_cases hk : A.kind i ≠ 2
  ·rw [if_pos hk] at hK
   exact br_t (by simpa using hk) (hK τ (Gr.refl _))
  rw [if_neg hk] at hK
  have hk2 : A.kind i = 2 := by simpa using hk
  have hdir := kind_dir hk2
  obtain ⟨di, hdi⟩ := hI.deep i hdir
  refine br_f (by simpa using hk2) ?_
  obtain ⟨bt, B0, q1, q2, q3, q4⟩ := id (hF.gr hg)
  refine ptr_i (rd_P (rdC_of q1 (by rfl)) ?_)
  refine call_i (s_Names q2 _ (names_ok hI hB hN _) ?_)
  intro x τ1 g1 hx
  refine app_L (loop_i ?_)
  intro R hR
  have hlen := hx.1
  have hnl := names_len (A := A) (d := i) hB
  have key : ∀ (l : List ByteArray) (k : Nat) (n : Int) (τ2 : H), (A.names i).drop k = l -> 0 <= n -> n <= f -> Gr τ1 τ2 -> (A.names i).foldl (fun n s => let x := AT.levels A f ((A.find i s).getD 0); if x > n then x else n) 0 = l.foldl (fun n s => let x := AT.levels A f ((A.find i s).getD 0); if x > n then x else n) n -> R (some ⟨bf, 0, none⟩) i n x ((x.len : Nat) : Int) (k : Int) τ2 := by
   intro l
   induction l with
   | nil =>
    intro k n τ2 hdr h1 h2 hg2 he
    have hge : (A.names i).length <= k := by simpa using hdr
    refine hR _ _ _ _ _ _ _ ?_
    refine br_f (by rw [hlen]; simp only [decide_eq_false_iff_not]; omega) ?_
    rw [wrap_id (x := n + 1) (by omega) (by omega)]
    rw [he] at hK
    exact hK τ2 (g1.trans hg2)
   | cons s r ihl =>
    intro k n τ2 hdr h1 h2 hg2 he
    obtain ⟨hs, hlt, hd'⟩ := drop_get hdr
    obtain ⟨g, cur, x1, x2, x3⟩ := hx.at hs
    refine hR _ _ _ _ _ _ _ ?_
    refine br_t (by rw [hlen]; simp only [decide_eq_true_eq]; omega) ?_
    rw [x1]
    refine ptr_i (if_i ⟨by omega, by rw [hlen]; omega⟩ ?_)
    have hrd : rdC g (0 + (k : Int).toNat * 1) τ2 = some (.string s) := rdC_of (hg2.get x2) (by simpa using x3)
    obtain ⟨bt', B0', r1, r2, r3, r4⟩ := id (hF.gr ((hg.trans g1).trans hg2))
    refine rd_S hrd (ptr_i (rd_P (rdC_of r1 (by rfl)) ?_))
    refine call_i (t_Find r2 _ _ (app_IB ?_))
    refine call_i (ih ((A.find i s).getD 0) (by omega) ?_ ((hg.trans g1).trans hg2) ?_)
    ·intro d' hdj hd12
     obtain ⟨j, hj⟩ := names_mem hI (List.mem_of_getElem? hs)
     rw [hj] at hdj hd12
     simp only [Option.getD_some] at hdj hd12
     obtain ⟨nd, hnd, _, hl, hj1, m, hm, hup⟩ := hI.find hj
     obtain ⟨m', hm', hk'⟩ := hdj
     rw [hm] at hm'; cases hm'
     have hu : A.upOf j = i := by unfold AT.upOf; rw [hm]; exact hup hk'
     rw [AT.deep, if_neg hj1, hu] at hd12
     cases he11 : A.deep 11 i with
     | none => rw [he11] at hd12; cases hd12
     | some y =>
      rw [he11] at hd12
      simp only [Option.map_some, Option.some.injEq] at hd12
      have := deep_mono he11
      rw [hdi] at this; cases this
      have := hd di hdir hdi
      omega
    ·intro τ3 g3
     refine app_I ?_
     have hb := hll ((A.find i s).getD 0)
     rw [wrap_id (x := (k : Int) + 1) (by omega) (by omega)]
     have hgt : (if A.levels f ((A.find i s).getD 0) > n then A.levels f ((A.find i s).getD 0) else n) = (let x := AT.levels A f ((A.find i s).getD 0); if x > n then x else n) := rfl
     refine ihl (k + 1) _ τ3 hd' ?_ ?_ (hg2.trans g3) ?_
     ·split <;> omega
     ·split <;> omega
     ·rw [he]; rfl
  exact key (A.names i) 0 0 τ1 rfl (by omega) (by omega) (Gr.refl _) rfl
theorem s_withinF (hF : FsAt σ bf A B) {ino : Int} : ∀ (f : Nat) {d : Int} {b : Bool}, A.within ino f d = some b -> ∀ {K : KH}, K (.bool b) σ -> callW Tryz.prog 179 [.pointer (some ⟨bf, 0, none⟩), .int .i64 d, .int .i64 ino] K σ := by
 intro f d b hw K hK
 obtain ⟨bt, B0, q1, q2, q3, q4⟩ := id hF
 refine c179 _ _ _ ?_
 unfold g179
 refine loop_i ?_
 intro R hR
 have key : ∀ (f : Nat) (d : Int), A.within ino f d = some b -> R (some ⟨bf, 0, none⟩) d ino σ := by
  intro f
  induction f with
  | zero => intro d h; cases h
  | succ f ih =>
   intro d h
   unfold AT.within at h
   refine hR _ _ _ _ ?_
   refine j_d ?_
   by_cases e : d = ino
   ·rw [if_pos e] at h; cases h
    refine br_f (by simpa using e) (br_f rfl ?_)
    have : (d == ino) = true := by simpa using e
    rw [this]; exact hK
   rw [if_neg e] at h
   refine br_t (by simpa using e) (ptr_i (rd_P (rdC_of q1 (by rfl)) (call_i (s_Root _ (app_I ?_)))))
   by_cases e1 : d = 1
   ·rw [if_pos e1] at h; cases h
    refine br_f (by simpa using e1) ?_
    have : (d == ino) = false := by simpa using e
    rw [this]; exact hK
   rw [if_neg e1] at h
   refine br_t (by simpa using e1) (ptr_i (rd_P (rdC_of q1 (by rfl)) (call_i (t_Up q2 _ (app_I ?_)))))
   exact ih _ h
 exact key f d hw
theorem s_over {N : Nat} (hI : Inv A) (hB : Bd N A) (hN : N <= 1000000000000) (hF : FsAt σ bf A B) (p q : Pl) (hq : A.isDir q.dir) {K : KH} (hK : ∀ σ', Gr σ σ' -> K (.int .i64 (A.overE p q)) σ') :
 callW Tryz.prog 113 [.pointer (some ⟨bf, 0, none⟩), .agg ⟨plC p⟩, .agg ⟨plC q⟩] K σ := by
 unfold plC
 refine c113 _ _ _ _ _ _ _ _ _ ?_
 unfold g113
 refine al_i ?_; intro b10 σ1 g1 e1 n1
 refine al_i ?_; intro b11 σ2 g2 e2 n2
 have k10 := g2.get e1
 have hg2 : Gr σ σ2 := g1.trans g2
 have F2 := hF.gr hg2
 refine rd_I (rdC_of k10 (by rfl)) (rd_I (rdC_of e2 (by rfl)) ?_)
 refine call_i (s_kind F2 _ (app_I (and_i (rdC_of e2 (by rfl)) (call_i (s_kind F2 _ (app_I ?_))))))
 unfold AT.overE at hK
 simp only at hK
 obtain ⟨x, hx13, hx12, hx1, hx2⟩ := hI.deep13 hq
 obtain ⟨wb, hwb⟩ := within_some p.ino hx13
 -- behind the first questions
 refine j_i (fun j => ∀ τ, Gr σ2 τ -> (if q.there = false then (0 : Int) else if A.kind q.ino = 2 /\ A.kind p.ino ≠ 2 then 7 else if A.kind p.ino = 2 /\ A.kind q.ino ≠ 2 then 8 else if (A.names q.ino).length > 0 then 20 else 0) = 0 -> j (some ⟨bf, 0, none⟩) (some ⟨b10, 0, none⟩) (some ⟨b11, 0, none⟩) (A.kind p.ino == 2) τ) ?_ ?_
 ·intro τ hg he
  rw [he] at hK
  simp only [ne_eq, not_true_eq_false, if_false] at hK
  have hgσ : Gr σ τ := hg2.trans hg
  have F := hF.gr hgσ
  have h10 := hg.get k10
  have h11 := hg.get e2
  refine j_i (fun j => ∀ b : Bool, b = decide (A.kind p.ino = 2 /\ (A.within p.ino 13 q.dir).getD false = true) -> j (some ⟨bf, 0, none⟩) (some ⟨b10, 0, none⟩) (some ⟨b11, 0, none⟩) b τ) ?_ ?_
  ·intro b hb
   by_cases hc : A.kind p.ino = 2 /\ (A.within p.ino 13 q.dir).getD false = true
   ·rw [if_pos hc] at hK
    exact br_t (by rw [hb]; simpa using hc) (hK τ hgσ)
   ·rw [if_neg hc] at hK
    refine br_f (by rw [hb]; simpa using hc) (ptr_i (rd_I (rdC_of h11 (by rfl)) (ptr_i (rd_I (rdC_of h10 (by rfl)) ?_))))
    refine call_i (s_deep F hx13 (by omega) (app_I (and_i (rdC_of h10 (by rfl)) ?_)))
    refine call_i (s_levelsF hI hB hN hF 14 p.ino (by omega) (fun d _ hd => by have := deep_bound hd; omega) hgσ ?_)
    intro τ' g'
    refine app_I ?_
    have hl := levels_le A 14 p.ino
    rw [wrap_id (x := x + A.levels 14 p.ino) (by omega) (by omega)]
    rw [hx13] at hK
    simp only [Option.getD_some] at hK
    by_cases h12 : x + A.levels 14 p.ino > 12
    ·rw [if_pos h12] at hK; exact br_t (by simpa using h12) (hK τ' (hgσ.trans g'))
    ·rw [if_neg h12] at hK; exact br_f (by simpa using h12) (hK τ' (hgσ.trans g'))
  ·intro j hj
   by_cases hk : A.kind p.ino = 2
   ·refine br_t (by simpa using hk) (ptr_i (rd_I (rdC_of h11 (by rfl)) (ptr_i (rd_I (rdC_of h10 (by rfl)) ?_))))
    refine call_i (s_withinF F 13 hwb (app_B (hj wb ?_)))
    rw [hwb]; simp [hk]
   ·exact br_f (by simpa using hk) (hj false (by simp [hk]))
 ·intro j hj
  refine rd_B (rdC_of e2 (by rfl)) ?_
  cases hth : q.there with
  | false => exact br_t rfl (hj σ2 (Gr.refl _) (by rw [hth]; rfl))
  | true =>
   rw [hth] at hK hj
   simp only [Bool.true_eq_false, if_false] at hK hj
   refine br_f rfl ?_
   refine j_i (fun j' => ∀ b : Bool, b = decide (A.kind q.ino = 2 /\ A.kind p.ino ≠ 2) -> j' (some ⟨bf, 0, none⟩) (some ⟨b10, 0, none⟩) (some ⟨b11, 0, none⟩) (A.kind p.ino == 2) (A.kind q.ino == 2) b σ2) ?_ ?_
   ·intro b hb
    by_cases h7 : A.kind q.ino = 2 /\ A.kind p.ino ≠ 2
    ·rw [if_pos h7] at hK
     exact br_t (by rw [hb]; simpa using h7) (hK σ2 hg2)
    rw [if_neg h7] at hK hj
    refine br_f (by rw [hb]; simpa using h7) ?_
    refine j_i (fun j' => ∀ b : Bool, b = decide (A.kind p.ino = 2 /\ A.kind q.ino ≠ 2) -> j' (some ⟨bf, 0, none⟩) (some ⟨b10, 0, none⟩) (some ⟨b11, 0, none⟩) (A.kind p.ino == 2) b σ2) ?_ ?_
    ·intro b hb
     by_cases h8 : A.kind p.ino = 2 /\ A.kind q.ino ≠ 2
     ·rw [if_pos h8] at hK
      exact br_t (by rw [hb]; simpa using h8) (hK σ2 hg2)
     rw [if_neg h8] at hK hj
     refine br_f (by rw [hb]; simpa using h8) ?_
     obtain ⟨bt, B0, q1, q2, q3, q4⟩ := id F2
     refine ptr_i (rd_P (rdC_of q1 (by rfl)) (ptr_i (rd_I (rdC_of e2 (by rfl)) ?_)))
     refine call_i (s_Names q2 _ (names_ok hI hB hN _) ?_)
     intro x' σ3 g3 hx'
     refine app_L ?_
     have hlen : x'.len = (A.names q.ino).length := hx'.1
     by_cases hl : (A.names q.ino).length > 0
     ·rw [if_pos hl] at hK
      exact br_t (by rw [hlen]; simp only [decide_eq_true_eq]; omega) (hK σ3 (hg2.trans g3))
     ·rw [if_neg hl] at hj
      exact br_f (by rw [hlen]; simp only [decide_eq_false_iff_not]; omega) (hj σ3 g3 rfl)
    ·intro j' hj'
     by_cases hk : A.kind p.ino = 2
     ·exact br_t (by simpa using hk) (hj' _ (by by_cases hq2 : A.kind q.ino = 2 <;> simp [hk, hq2]))
     ·exact br_f (by simpa using hk) (hj' _ (by simp [hk]))
   ·intro j' hj'
    by_cases hk : A.kind q.ino = 2
    ·exact br_t (by simpa using hk) (hj' _ (by by_cases hp2 : A.kind p.ino = 2 <;> simp [hk, hp2]))
    ·exact br_f (by simpa using hk) (hj' _ (by simp [hk]))
theorem s_Rename {N : Nat} (hI : Inv A) (hB : Bd N A) (hN : N <= 1000000000000) (hF : FsAt σ bf A B) (cwd src to : ByteArray) {K : KH}
 (hK : ∀ σ' B', FsAt σ' bf (A.renameF cwd src to).2 B' -> Sep σ B σ' B' -> K (.int .i64 (A.renameF cwd src to).1) σ') :
 callW Tryz.prog 57 [.pointer (some ⟨bf, 0, none⟩), .string cwd, .string src, .string to] K σ := by
 refine c57 _ _ _ _ ?_
 unfold g57
 refine call_i (s_both hF cwd src to ?_)
 unfold AT.renameF at hK
 simp only at hK
 have hbz := both_z (A := A) (cwd := cwd) (src := src) (to := to)
 have hpl := fun he => locate_place hI cwd to false he
 generalize A.both cwd src to = r at hK hbz ⊢
 obtain ⟨re, p, q⟩ := r
 simp only at hK hbz ⊢
 unfold plC
 (refine app_of rfl ?_; try dsimp only)
 refine al_i ?_; intro b14 σ1 g1 e1 n1
 refine al_i ?_; intro b15 σ2 g2 e2 n2
 have n1415 : b14 ≠ b15 := ne_fr n2 (isSome_of e1)
 refine st_i2 (g2.get e1) sz_place (by rfl) (by rfl) ?_; intro σ3 p3
 refine st_i2 (p3.get n1415.symm e2) sz_place (by rfl) (by rfl) ?_; intro σ4 p4
 have f15 : σ b15 = none := none_of g1 n2
 have hg4 : Lng σ σ4 := ⟨((g1.trans g2).putF p3 n1).putF p4 f15⟩
 have k14 := p4.get n1415 p3.same
 have k15 := p4.same
 have F4 := hF.gr hg4.gr
 clear p3 p4 e1 e2 g1 g2
 by_cases he : re = 0
 case neg =>
  rw [if_pos he] at hK
  exact br_t (by simpa using he) (hK σ4 B F4 (Sep.gr hg4.gr))
 subst he
 simp only [ne_eq, not_true_eq_false, if_false] at hK
 obtain ⟨_, z2, _, z4⟩ := hbz rfl
 have Q := hpl z2
 rw [<- z4] at Q
 refine br_f rfl ?_
 refine j_i (fun j => ∀ b : Bool, b = (strEq p.name ⟨⟨[]⟩⟩ || strEq q.name ⟨⟨[]⟩⟩) -> j (some ⟨bf, 0, none⟩) (some ⟨b14, 0, none⟩) (some ⟨b15, 0, none⟩) b σ4) ?_ ?_
 case refine_2 =>
  intro j hj
  refine rd_S (rdC_of k14 (by rfl)) ?_
  cases h1 : strEq p.name ⟨⟨[]⟩⟩ with
  | true => exact br_t rfl (hj true (by rw [h1]; rfl))
  | false => exact br_f rfl (rd_S (rdC_of k15 (by rfl)) (hj _ (by rw [h1]; rfl)))
 intro b hb
 by_cases c2 : sEq p.name ⟨⟨[]⟩⟩ = true \/ sEq q.name ⟨⟨[]⟩⟩ = true
 ·rw [if_pos c2] at hK
  exact br_t (by rw [hb, <- sEq_eq, <- sEq_eq]; simpa using c2) (hK σ4 B F4 (Sep.gr hg4.gr))
 rw [if_neg c2] at hK
 refine br_f (by
  rw [hb, <- sEq_eq, <- sEq_eq]
  cases h1 : sEq p.name ⟨⟨[]⟩⟩ with
  | true => exact absurd (.inl h1) c2
  | false =>
   cases h2 : sEq q.name ⟨⟨[]⟩⟩ with
   | true => exact absurd (.inr h2) c2
   | false => rfl) ?_
 refine ptr_i (rd_B (rdC_of k14 (by rfl)) ?_)
 by_cases c3 : p.there = false
 ·rw [if_pos c3] at hK
  exact br_t (by rw [c3]; rfl) (hK σ4 B F4 (Sep.gr hg4.gr))
 rw [if_neg c3] at hK
 have c3' : p.there = true := by simpa using c3
 refine br_f (by rw [c3']; rfl) ?_
 refine j_i (fun j => ∀ b : Bool, b = decide (q.there = true /\ p.ino = q.ino) -> j (some ⟨bf, 0, none⟩) (some ⟨b14, 0, none⟩) (some ⟨b15, 0, none⟩) b σ4) ?_ ?_
 case refine_2 =>
  intro j hj
  refine ptr_i (rd_B (rdC_of k15 (by rfl)) ?_)
  cases h1 : q.there with
  | true =>
   refine br_t rfl (ptr_i (rd_I (rdC_of k14 (by rfl)) (ptr_i (rd_I (rdC_of k15 (by rfl)) (hj _ ?_)))))
   by_cases h2 : p.ino = q.ino <;> simp [h1, h2]
  | false => exact br_f rfl (hj false (by simp [h1]))
 intro b hb
 by_cases c4 : q.there = true /\ p.ino = q.ino
 ·rw [if_pos c4] at hK
  exact br_t (by rw [hb]; simpa using c4) (hK σ4 B F4 (Sep.gr hg4.gr))
 rw [if_neg c4] at hK
 refine br_f (by rw [hb]; simpa using c4) (ptr_i (rd_G (rdA_of' k14 (by rfl)) ?_))
 (refine app_of rfl ?_; try dsimp only)
 refine ptr_i (rd_G (rdA_of' k15 (by rfl)) ?_)
 (refine app_of rfl ?_; try dsimp only)
 refine call_i (s_over hI hB hN F4 p q Q.1 ?_)
 intro σ5 g5
 refine app_I ?_
 have hg5 : Lng σ σ5 := ⟨hg4.gr.trans g5⟩
 have k14' := g5.get k14
 have k15' := g5.get k15
 have F5 := hF.gr hg5.gr
 by_cases c5 : A.overE p q ≠ 0
 ·rw [if_pos c5] at hK
  exact br_t (by simpa using c5) (hK σ5 B F5 (Sep.gr hg5.gr))
 rw [if_neg c5] at hK
 refine br_f (by simpa using c5) ?_
 -- the entry moves
 have mv : ∀ (A' : AT) (σ6 : H) (B6 : Nat -> Prop), Inv A' -> FsAt σ6 bf A' B6 -> Sep σ B σ6 B6 -> σ6 b14 = some (.cells ⟨[.int .i64 p.dir, .string p.name, .int .i64 p.ino, .bool p.there]⟩ 142 (0, 0)) -> σ6 b15 = some (.cells ⟨[.int .i64 q.dir, .string q.name, .int .i64 q.ino, .bool q.there]⟩ 142 (0, 0)) ->
  (∀ σ' B', FsAt σ' bf (A'.moveR p.dir p.name q.dir q.name 14).2 B' -> Sep σ B σ' B' -> K (.int .i64 (A'.moveR p.dir p.name q.dir q.name 14).1) σ') ->
  (ptrW (some ⟨bf, 0, none⟩) (fun (b46 o47 : Nat) => rdT (rdC b46 o47) kP (fun (x48 : Option Addr) => ptrW (some ⟨b14, 0, none⟩) (fun (b49 o50 : Nat) => rdT (rdC b49 o50) kI (fun (x51 : Int) => ptrW (some ⟨b14, 0, none⟩) (fun (b52 o53 : Nat) => rdT (rdC b52 (o53 + 1)) kS (fun (x54 : ByteArray) => ptrW (some ⟨b15, 0, none⟩) (fun (b55 o56 : Nat) => rdT (rdC b55 o56) kI (fun (x57 : Int) => ptrW (some ⟨b15, 0, none⟩) (fun (b58 o59 : Nat) => rdT (rdC b58 (o59 + 1)) kS (fun (x60 : ByteArray) =>
   callT Tryz.prog 114 [.pointer x48, .int .i64 x51, .string x54, .int .i64 x57, .string x60] kI (fun (x61 : Int) => K (.int .i64 x61))))))))))))) σ6 := by
  intro A' σ6 B6 hI' F6 S6 h14 h15 hK'
  obtain ⟨bt, B0, q1, q2, q3, q4⟩ := id F6
  refine ptr_i (rd_P (rdC_of q1 (by rfl)) (ptr_i (rd_I (rdC_of h14 (by rfl)) (ptr_i (rd_S (rdC_of h14 (by rfl)) (ptr_i (rd_I (rdC_of h15 (by rfl)) (ptr_i (rd_S (rdC_of h15 (by rfl)) ?_)))))))))
  refine call_i (s_Move cAny q2 _ _ _ _ ?_ 14 ?_ ?_)
  ·intro j hj
   obtain ⟨_, _, _, _, _, m, hm, _⟩ := hI'.find hj
   rw [hm]; rfl
  ·intro hz
   obtain ⟨_, ht, _, _⟩ := moveE1_z hz
   obtain ⟨d, hd⟩ := hI'.deep q.dir ht
   obtain ⟨b', hb'⟩ := apart_some hI' ((A'.find p.dir p.name).getD 0) ht (deep_mono (deep_mono hd))
   rw [hb']; rfl
  ·intro σ7 B7 hT hS
   obtain ⟨B8, h1, h2⟩ := FsAt.lift q1 q3 q4 hT hS
   exact app_I (hK' σ7 B8 h1 (S6.trans h2))
 refine j_d (ptr_i (rd_B (rdC_of k15' (by rfl)) ?_))
 by_cases c6 : q.there = true
 case neg =>
  rw [if_neg c6] at hK
  exact br_f (by simpa using c6) (mv _ _ _ hI F5 (Sep.gr hg5.gr) k14' k15' hK)
 rw [if_pos c6] at hK
 obtain ⟨bt, B0, q1, q2, q3, q4⟩ := id F5
 refine br_t c6 (ptr_i (rd_P (rdC_of q1 (by rfl)) (ptr_i (rd_I (rdC_of k15' (by rfl)) (ptr_i (rd_S (rdC_of k15' (by rfl)) ?_))))))
 refine call_i (s_Unlink q2 _ _ ?_ hI.nodup ?_)
 ·intro j hj
  obtain ⟨_, _, _, _, _, m, hm, _⟩ := hI.find hj
  rw [hm]; rfl
 ·intro σ6 B6 hT hS
  obtain ⟨B7, h1, h2⟩ := FsAt.lift q1 q3 q4 hT hS
  have S7 : Sep σ B σ6 B7 := h2.of_gr hg5.gr
  refine app_I ?_
  by_cases c7 : (A.unlinkR q.dir q.name).1 ≠ 0
  ·rw [if_pos c7] at hK
   exact br_t (by simpa using c7) (hK σ6 B7 h1 S7)
  rw [if_neg c7] at hK
  have hB14 : ¬ B b14 := hF.fresh n1
  have hB15 : ¬ B b15 := hF.fresh f15
  exact br_f (by simpa using c7) (mv _ _ _ (unlinkR_ok hI hB (by omega) q.dir q.name).1 h1 S7 (h2 b14 _ k14' hB14).1 (h2 b15 _ k15' hB15).1 hK)
end
section
variable {σ σ' : H} {b : Nat} {A : AT} {M : RfM} {N : Nat}
theorem s_rfWithin (hM : RfIn σ b A M) (hI : Wk.Inv A) {d ino : Int} (hd : A.isDir (d + 1)) {x : Bool} (hx : A.within (ino + 1) 13 (d + 1) = some x) {K : KH} (hK : K (.bool x) σ) : callW Tryz.prog 146 [.pointer (some ⟨b, 0, none⟩), .int .i64 d, .int .i64 ino] K σ := by
 refine c146 _ _ _ ?_
 unfold g146
 refine loop_i ?_
 intro R hR
 have key : ∀ (f : Nat) (d : Int), A.isDir (d + 1) -> A.within (ino + 1) f (d + 1) = some x -> R (some ⟨b, 0, none⟩) d ino σ := by
  intro f
  induction f with
  | zero => intro d _ h; cases h
  | succ f ih =>
   intro d hd hw
   rw [AT.within] at hw
   refine hR _ _ _ _ ?_
   refine j_i (fun j => ∀ v1 v2 (t : Bool), t = (d != ino && d != 0) -> j (some ⟨b, 0, none⟩) d ino v1 v2 t σ) ?_ ?_
   case refine_2 =>
    intro j hj
    cases h : (d != ino) with
    | true => exact br_t rfl (hj _ _ _ (by rw [h]; rfl))
    | false => exact br_f rfl (hj _ _ _ (by rw [h]; rfl))
   intro v1 v2 t ht
   by_cases e1 : d = ino
   ·subst e1
    rw [if_pos rfl] at hw
    have : t = false := by rw [ht]; simp
    subst this
    refine br_f rfl ?_
    have hx1 : x = true := (Option.some.inj hw).symm
    have : (d == d) = x := by rw [hx1]; simp
    rw [this]; exact hK
   ·rw [if_neg (by omega)] at hw
    by_cases e2 : d = 0
    ·subst e2
     rw [if_pos (show (0 : Int) + 1 = 1 from rfl)] at hw
     have : t = false := by rw [ht]; simp
     subst this
     refine br_f rfl ?_
     have hx1 : x = false := (Option.some.inj hw).symm
     have : ((0 : Int) == ino) = x := by rw [hx1]; simpa using e1
     rw [this]; exact hK
    ·rw [if_neg (by omega)] at hw
     have : t = true := by rw [ht]; simp [e1, e2]
     subst this
     obtain ⟨n, hn, hk⟩ := hd
     have hu : A.upOf (d + 1) = n.up := by unfold AT.upOf; rw [hn]; rfl
     have hdu := hI.isDir_up ⟨n, hn, hk⟩
     rw [hu] at hw hdu
     have hup : upR n = n.up - 1 := by unfold upR; rw [if_pos hk]
     refine br_t rfl (rf_at hM hI hn (rd_I (rdC_of (hM.nod _ _ hn) (by rfl)) ?_))
     rw [hup]
     have e3 : n.up - 1 + 1 = n.up := by omega
     exact ih (n.up - 1) (by rw [e3]; exact hdu) (by rw [e3]; exact hw)
 exact key 13 d hd hx
theorem s_rfLevels (hM : RfIn σ b A M) (hI : Wk.Inv A) (hB : Bd N A) (hN : N <= 1000000000) : ∀ (f : Nat) (ino : Int) (n : AN), A.get (ino + 1) = some n -> f <= 100 -> (∀ d, A.isDir (ino + 1) -> A.deep 12 (ino + 1) = some d -> 13 <= f + d) -> ∀ {K : KH}, K (.int .i64 (A.levels f (ino + 1))) σ -> callW Tryz.prog 147 [.pointer (some ⟨b, 0, none⟩), .int .i64 ino] K σ := by
 intro f
 induction f with
 | zero =>
  intro ino n hn _ hd K hK
  refine c147 _ _ ?_
  unfold g147
  have hk : n.kind ≠ 2 := by
   intro hk
   obtain ⟨d, hdd⟩ := hI.deep _ ⟨n, hn, hk⟩
   have := hd d ⟨n, hn, hk⟩ hdd
   have := deep_bound hdd
   omega
  exact rf_at hM hI hn (rd_I (rdC_of (hM.nod _ _ hn) (by rfl)) (br_t (by simpa using hk) hK))
 | succ f ih =>
  intro ino n hn hf hd K hK
  have hll := levels_le A f
  have hkk : A.kind (ino + 1) = n.kind := by unfold AT.kind; rw [hn]; rfl
  refine c147 _ _ ?_
  unfold g147
  unfold AT.levels at hK
  rw [hkk] at hK
  refine rf_at hM hI hn (rd_I (rdC_of (hM.nod _ _ hn) (by rfl)) ?_)
  by_cases hk : n.kind ≠ 2
  ·rw [if_pos hk] at hK
   exact br_t (by simpa using hk) hK
  rw [if_neg hk] at hK
  have hk2 : n.kind = 2 := by simpa using hk
  have hdir : A.isDir (ino + 1) := ⟨n, hn, hk2⟩
  obtain ⟨di, hdi⟩ := hI.deep _ hdir
  refine br_f (by simpa using hk2) (loop_i ?_)
  intro R hR
  have hnm : A.names (ino + 1) = sortN (keysL n.ents) := by unfold AT.names; rw [hn]
  have he := hM.ent _ _ hn
  have hlen : (M.ey (ino + 1)).len = (A.names (ino + 1)).length := by rw [hnm]; have := he.1; simpa [eRow] using this
  have hnl : (A.names (ino + 1)).length <= N := by
   rw [hnm, (sortN_perm _).length_eq]
   have := hB.ents _ _ hn
   simpa [keysL] using this
  have key : ∀ (l : List ByteArray) (k : Nat) (x : Int), (A.names (ino + 1)).drop k = l -> 0 <= x -> x <= f -> (A.names (ino + 1)).foldl (fun n s => let x := AT.levels A f ((A.find (ino + 1) s).getD 0); if x > n then x else n) 0 = l.foldl (fun n s => let x := AT.levels A f ((A.find (ino + 1) s).getD 0); if x > n then x else n) x -> R (some ⟨b, 0, none⟩) ino x (k : Int) σ := by
   intro l
   induction l with
   | nil =>
    intro k x hdr h1 h2 hfo
    have hge : (A.names (ino + 1)).length <= k := by simpa using hdr
    refine hR _ _ _ _ _ ?_
    refine rf_at hM hI hn (rd_L (rdC_of (hM.nod _ _ hn) (by rfl)) (br_f (by simp only [decide_eq_false_iff_not]; omega) ?_))
    rw [wrap_id (x := 1 + x) (by omega) (by omega), Int.add_comm]
    rw [hfo] at hK
    exact hK
   | cons s r ihl =>
    intro k x hdr h1 h2 hfo
    obtain ⟨hs, hlt, hd'⟩ := drop_get hdr
    obtain ⟨gy, oy, q1, _, q3, _⟩ := erow_at he (by rw [<- hnm]; exact hs)
    have hfi : A.find (ino + 1) s = lk s n.ents := by unfold AT.find; rw [hn]; rfl
    obtain ⟨j, hj⟩ := names_mem hI (List.mem_of_getElem? hs)
    obtain ⟨nd, hnd, _, hl, hj1, m, hm, hup⟩ := hI.find hj
    rw [hn] at hnd; cases hnd
    rw [hl] at q3
    refine hR _ _ _ _ _ ?_
    refine rf_at hM hI hn (rd_L (rdC_of (hM.nod _ _ hn) (by rfl)) (br_t (by simp only [decide_eq_true_eq]; omega) ?_))
    refine rf_at hM hI hn (rd_L (rdC_of (hM.nod _ _ hn) (by rfl)) ?_)
    rw [q1]
    have e0 : (k : Int).toNat = k := by omega
    refine ptr_i (if_i ⟨by omega, by show (k : Int) < (((M.ey (ino + 1)).len : Nat) : Int); omega⟩ (rd_I (by rw [e0]; exact q3) ?_))
    have ej : (some j).getD 0 - 1 + 1 = j := by simp
    refine call_i (ih ((some j).getD 0 - 1) m (by rw [ej]; exact hm) (by omega) ?_ (app_I ?_))
    ·intro d' hdj hd12
     rw [ej] at hdj hd12
     obtain ⟨m', hm', hk'⟩ := hdj
     rw [hm] at hm'; cases hm'
     have hu : A.upOf j = ino + 1 := by unfold AT.upOf; rw [hm]; exact hup hk'
     rw [AT.deep, if_neg hj1, hu] at hd12
     cases he11 : A.deep 11 (ino + 1) with
     | none => rw [he11] at hd12; cases hd12
     | some y =>
      rw [he11] at hd12
      simp only [Option.map_some, Option.some.injEq] at hd12
      have := deep_mono he11
      rw [hdi] at this; cases this
      have := hd di hdir hdi
      omega
    ·rw [ej]
     have hb := hll j
     rw [wrapS (i := k) (by omega)]
     refine ihl (k + 1) _ hd' (by split <;> omega) (by split <;> omega) ?_
     rw [hfo, List.foldl_cons, hj]
     rfl
  exact key _ 0 0 rfl (by omega) (by omega) rfl
end
section
variable {σ σ' : H} {b : Nat} {A : AT} {M : RfM} {N : Nat}
theorem with_some {cwd path : ByteArray} {fo : Bool} (h : (A.with_ cwd path fo).1 = 0) : ∃ n, A.get (A.with_ cwd path fo).2.1 = some n /\ (A.with_ cwd path fo).2.2 = n.inode := by
 unfold AT.with_ at h ⊢
 simp only at h ⊢
 split at h
 ·rename_i h2; exact absurd h h2
 ·rename_i h2
  rw [if_neg h2]
  split at h
  ·cases h
  ·rename_i h3
   rw [if_neg h3]
   cases hg : A.get (A.locate cwd path fo).2.ino with
   | none => rw [hg] at h; cases h
   | some n => exact ⟨n, hg, rfl⟩
theorem with_none {cwd path : ByteArray} {fo : Bool} (h : (A.with_ cwd path fo).1 ≠ 0) : (A.with_ cwd path fo).2.2 = IN.z := by
 unfold AT.with_ at h ⊢
 simp only at h ⊢
 split at h
 ·rename_i h2; rw [if_pos h2]
 ·rename_i h2
  rw [if_neg h2]
  split at h
  ·rename_i h3; rw [if_pos h3]
  ·rename_i h3
   rw [if_neg h3]
   cases hg : A.get (A.locate cwd path fo).2.ino with
   | none => rfl
   | some n => rw [hg] at h; exact absurd rfl h
theorem s_rfStat (hI : Wk.Inv A) (hB : Bd N A) (hN : N <= 100000000) (hM : RfIn σ b A M) (cwd path : ByteArray) (fo : Bool) {K : KH}
 (hK : ∀ σ' L, Gr σ σ' -> K (.tuple ⟨[.agg ⟨[.int .i64 (A.stat cwd path fo).2.kind, .int .i64 (A.stat cwd path fo).2.mode, .string (A.stat cwd path fo).2.data, .int .i64 L]⟩, .int .i64 (A.stat cwd path fo).1]⟩) σ') :
 callW Tryz.prog 155 [.pointer (some ⟨b, 0, none⟩), .string cwd, .string path, .bool fo] K σ := by
 refine c155 _ _ _ _ ?_
 unfold g155
 unfold AT.stat at hK
 refine al_i ?_; intro b5 σ1 g1 e1 n1
 refine call_i (s_rfThere hI hB (by omega) (hM.gr g1) cwd path fo ?_)
 intro σ2 g2
 have hw := fun h => with_some (A := A) (cwd := cwd) (path := path) (fo := fo) h
 have hwn := fun h => with_none (A := A) (cwd := cwd) (path := path) (fo := fo) h
 generalize A.with_ cwd path fo = w at hK hw hwn ⊢
 obtain ⟨e, ino, x⟩ := w
 simp only at hK hw hwn
 have k5 := g2.get e1
 by_cases he : e = 0
 case neg =>
  have hx := hwn he
  subst hx
  (refine app_of rfl ?_; try dsimp only)
  refine br_t (by simpa using he) ?_
  refine st_i2 k5 sz_Inode (by rfl) (by rfl) ?_; intro σ3 p3
  refine rd_G (rdA_of' p3.same (by rfl)) ?_
  (refine app_of rfl ?_; try dsimp only)
  exact hK σ3 0 ((g1.trans g2).putF p3 n1)
 subst he
 obtain ⟨n, hn, hx⟩ := hw rfl
 subst hx
 have hlow := (hI.low _ _ hn).1
 have h11 : ino - 1 + 1 = ino := by omega
 have hM2 := hM.gr (g1.trans g2)
 rw [if_pos rfl]
 (refine app_of rfl ?_; try dsimp only)
 refine br_f rfl (rf_p hM2 hI (d := ino - 1) (n := n) (by rw [h11]; exact hn) ?_)
 rw [h11]
 have hnod := hM2.nod _ _ hn
 have hlast := hB.last
 refine ptr_i (rd_I (rdC_of hnod (by rfl)) (ptr_i (rd_I (rdC_of hnod (by rfl)) (ptr_i (rd_S (rdC_of hnod (by rfl)) ?_)))))
 refine call_i (s_rfLinks hM2 hI.low (by omega) hI.enod (fun i n hn => by have := hB.ents i n hn; omega) (ino - 1) (app_I ?_))
 refine and_i (rdC_of hnod (by rfl)) (and_i (rdC_of hnod (by rfl)) (and_i (rdC_of hnod (by rfl)) ?_))
 refine st_i2 k5 sz_Inode (by rfl) (by rfl) ?_; intro σ3 p3
 refine rd_G (rdA_of' p3.same (by rfl)) ?_
 (refine app_of rfl ?_; try dsimp only)
 exact hK σ3 _ ((g1.trans g2).putF p3 n1)
theorem s_rfList (hI : Wk.Inv A) (hB : Bd N A) (hN : N <= 100000000) (hM : RfIn σ b A M) (cwd path : ByteArray) {K : KH}
 (hK : ∀ y σ', StrsNew σ σ' (A.listF cwd path).2 y -> K (.tuple ⟨[.slice y.base y.len y.cap, .int .i64 (A.listF cwd path).1]⟩) σ') :
 callW Tryz.prog 156 [.pointer (some ⟨b, 0, none⟩), .string cwd, .string path] K σ := by
 refine c156 _ _ _ ?_
 unfold g156
 unfold AT.listF at hK
 refine call_i (s_rfThere hI hB (by omega) hM cwd path true ?_)
 intro σ1 g1
 have hw := fun h => with_some (A := A) (cwd := cwd) (path := path) (fo := true) h
 generalize A.with_ cwd path true = w at hK hw ⊢
 obtain ⟨e, ino, x⟩ := w
 simp only at hK hw
 have nil : ∀ τ : H, Gr σ τ -> StrsNew σ τ [] ⟨none, 0, 0⟩ := fun τ hg => ⟨hg, RowsOwn.nil _ _ _, fun g h => by cases h⟩
 by_cases he : e = 0
 case neg =>
  rw [if_pos he] at hK
  (refine app_of rfl ?_; try dsimp only)
  exact br_t (by simpa using he) (hK ⟨none, 0, 0⟩ σ1 (nil σ1 g1))
 subst he
 obtain ⟨n, hn, hx⟩ := hw rfl
 subst hx
 rw [if_neg (by decide)] at hK
 have hlow := (hI.low _ _ hn).1
 have h11 : ino - 1 + 1 = ino := by omega
 have hM1 := hM.gr g1
 have hn' : A.get (ino - 1 + 1) = some n := by rw [h11]; exact hn
 rw [if_pos rfl]
 (refine app_of rfl ?_; try dsimp only)
 refine br_f rfl (rf_at hM1 hI hn' (rd_I (rdC_of (hM1.nod _ _ hn') (by rfl)) ?_))
 have hki : n.inode.kind = n.kind := rfl
 rw [hki] at hK
 by_cases hk : n.kind = 2
 case neg =>
  rw [if_pos hk] at hK
  exact br_t (by simpa using hk) (hK ⟨none, 0, 0⟩ σ1 (nil σ1 g1))
 rw [if_neg (by simpa using hk)] at hK
 refine br_f (by simpa using hk) (loop_i ?_)
 intro R hR
 have hnm : A.names ino = sortN (keysL n.ents) := by unfold AT.names; rw [hn]
 rw [hnm] at hK
 have hnl : (sortN (keysL n.ents)).length <= N := by
  rw [(sortN_perm _).length_eq]
  have := hB.ents _ _ hn
  simpa [keysL] using this
 have key : ∀ (c i : Nat) (y : Sl) (τ : H), c + i = (sortN (keysL n.ents)).length -> StrsNew σ τ ((sortN (keysL n.ents)).take i) y -> R (some ⟨b, 0, none⟩) (ino - 1) y (i : Int) τ := by
  intro c
  induction c with
  | zero =>
   intro i y τ hc hS
   have hMt := hM.gr hS.1
   have hyl : (M.ey (ino - 1 + 1)).len = (sortN (keysL n.ents)).length := by have := (hMt.ent _ _ hn').1; simpa [eRow] using this
   refine hR _ _ _ _ _ ?_
   refine rf_at hMt hI hn' (rd_L (rdC_of (hMt.nod _ _ hn') (by rfl)) (br_f (by simp only [decide_eq_false_iff_not]; omega) ?_))
   rw [List.take_of_length_le (by omega)] at hS
   exact hK y τ hS
  | succ c ih =>
   intro i y τ hc hS
   have hMt := hM.gr hS.1
   have he := hMt.ent _ _ hn'
   have hyl : (M.ey (ino - 1 + 1)).len = (sortN (keysL n.ents)).length := by have := he.1; simpa [eRow] using this
   obtain ⟨k, hk⟩ : ∃ k, (sortN (keysL n.ents))[i]? = some k := ⟨_, List.getElem?_eq_getElem (by omega)⟩
   obtain ⟨gy, oy, q1, q2, _, _⟩ := erow_at he hk
   refine hR _ _ _ _ _ ?_
   refine rf_at hMt hI hn' (rd_L (rdC_of (hMt.nod _ _ hn') (by rfl)) (br_t (by simp only [decide_eq_true_eq]; omega) ?_))
   refine rf_at hMt hI hn' (rd_L (rdC_of (hMt.nod _ _ hn') (by rfl)) ?_)
   rw [q1]
   have e0 : (i : Int).toNat = i := by omega
   refine ptr_i (if_i ⟨by omega, by show (i : Int) < (((M.ey (ino - 1 + 1)).len : Nat) : Int); omega⟩ (rd_S (by rw [e0]; exact q2) ?_))
   refine app_str hS (by rw [List.length_take]; omega) ?_
   intro y' τ' hS'
   rw [wrapS (i := i) (by omega)]
   refine ih (i + 1) y' τ' (by omega) ?_
   rw [List.take_add_one, hk]; exact hS'
 exact key _ 0 ⟨none, 0, 0⟩ σ1 rfl (by simpa using nil σ1 g1)
end
theorem srowsAt {τ : H} {L : List ByteArray} {y : Sl} (h : RowsAt τ 1 (srows L) y) {i : Nat} {s : ByteArray} (hi : L[i]? = some s) : ∃ g o, y.base = some ⟨g, o, none⟩ /\ rdC g (o + i * 1) τ = some (.string s) := by
 have hr : (srows L)[i]? = some [.string s] := by unfold srows; rw [List.getElem?_map, hi]; rfl
 obtain ⟨h1, h2 | ⟨g, o, cur, t, fz, h2, h3, h4⟩⟩ := h
 ·rw [h2] at hr; simp at hr
 ·refine ⟨g, o, h2, rdC_of h3 ?_⟩
  obtain ⟨_, h5⟩ := h4 i _ hr
  have : ((cur.drop (o + i * 1)).take 1)[0]? = some (.string s) := by rw [h5]; rfl
  rw [List.getElem?_take] at this
  simpa using this
theorem s_rfName (s : ByteArray) (hz : s.size <= 1000000000000) {σ : H} {K : KH} (hK : K (.bool (mayName s)) σ) : callW Tryz.prog 213 [.string s] K σ := by
 refine c213 _ ?_
 unfold g213
 have hlen : s.data.toList.length = s.size := (size_list s).symm
 refine loop_i ?_
 intro R hR
 have key : ∀ (n i : Nat), n + i = s.size -> (∀ c ∈ s.data.toList.take i, (c == 47 || c == 0) = false) -> R s (i : Int) σ := by
  intro n
  induction n with
  | zero =>
   intro i hn hno
   have hb : badByte s = false := by
    rw [List.take_of_length_le (by omega)] at hno
    unfold badByte
    rw [List.any_eq_false]
    intro x hx
    rw [hno x hx]; decide
   refine hR _ _ _ ?_
   refine br_f (by simp only [decide_eq_false_iff_not]; omega) ?_
   have hm : mayName s = (decide (1 <= s.size) && (decide (s.size <= 56) && (!strEq s ⟨⟨[46]⟩⟩ && !strEq s ⟨⟨[46, 46]⟩⟩))) := by
    unfold mayName; rw [hb, sEq_eq, sEq_eq]; rfl
   rw [hm] at hK
   by_cases h1 : 1 <= s.size
   ·have e1 : decide (1 <= s.size) = true := by simpa using h1
    rw [e1] at hK
    refine br_t (by simp; omega) ?_
    by_cases h2 : s.size <= 56
    ·have e2 : decide (s.size <= 56) = true := by simpa using h2
     rw [e2] at hK
     refine br_t (by simp; omega) ?_
     cases h3 : strEq s ⟨⟨[46]⟩⟩ with
     | true => rw [h3] at hK; exact br_f rfl hK
     | false => rw [h3] at hK; exact br_t rfl hK
    ·have e2 : decide (s.size <= 56) = false := by simpa using h2
     rw [e2] at hK
     exact br_f (by simp; omega) hK
   ·have e1 : decide (1 <= s.size) = false := by simpa using h1
    rw [e1] at hK
    exact br_f (by simp; omega) hK
  | succ n ih =>
   intro i hn hno
   obtain ⟨ch, hch⟩ : ∃ ch, s.data.toList[i]? = some ch := ⟨_, List.getElem?_eq_getElem (by omega)⟩
   have hb0 : (((ch.toNat : Int) : Int) == 0) = (ch == 0) := by
    by_cases h : ch = 0
    ·subst h; rfl
    ·have : ¬ ((ch.toNat : Int) = 0) := by
      intro e; apply h
      have : ch.toNat = 0 := by omega
      exact UInt8.toNat_inj.1 this
     have h1 : (((ch.toNat : Int) : Int) == 0) = false := by simpa using this
     have h2 : (ch == 0) = false := by simpa using h
     rw [h1, h2]
   have hb47 : (((ch.toNat : Int) : Int) == 47) = (ch == 47) := by
    have := byte_ne ch
    unfold bne at this
    cases h1 : (((ch.toNat : Int) : Int) == 47) <;> cases h2 : (ch == 47) <;> simp [h1, h2] at this ⊢
   refine hR _ _ _ ?_
   refine br_t (by simp only [decide_eq_true_eq]; omega) ?_
   refine j_i (fun j => ∀ v1 v2 v3 v4, j s (i : Int) v1 v2 v3 v4 (ch == 47 || ch == 0) σ) ?_ ?_
   case refine_2 =>
    intro j hj
    refine idx_l (c := ch) (by omega) (by simpa using hch) ?_
    rw [hb47]
    cases h47 : (ch == 47) with
    | true =>
     have := fun a b c d => hj a b c d
     rw [h47] at this
     exact br_t rfl (this _ _ _ _)
    | false =>
     refine br_f rfl (idx_l (c := ch) (by omega) (by simpa using hch) ?_)
     have := fun a b c d => hj a b c d
     rw [h47] at this
     rw [hb0]
     exact this _ _ _ _
   intro v1 v2 v3 v4
   cases hbad : (ch == 47 || ch == 0) with
   | true =>
    have hb : badByte s = true := by
     unfold badByte
     rw [List.any_eq_true]
     exact ⟨ch, List.mem_of_getElem? hch, hbad⟩
    have hm : mayName s = false := by unfold mayName; rw [hb]; simp
    rw [hm] at hK
    exact br_t rfl hK
   | false =>
    refine br_f rfl ?_
    rw [wrapS (i := i) (by omega)]
    refine ih (i + 1) (by omega) fun x hx => ?_
    rw [List.take_add_one, hch] at hx
    rcases List.mem_append.1 hx with h | h
    ·exact hno x h
    ·simp at h; rw [h]; exact hbad
 exact key s.size 0 (by omega) (by simp)
theorem s_rtdeep : ∀ (m : Nat), m <= 100 -> ∀ (t : Tr) (y : Sl) {σ : H}, SlAt σ t.kids y -> t.total <= 1000000000000000 -> ∀ {K : KH}, K (.int .i64 (t.deep (m + 1))) σ -> callW Tryz.prog 159 [.agg ⟨trC t y⟩, .int .i64 ((m + 1 : Nat) : Int)] K σ := by
 intro m
 induction m with
 | zero =>
  intro _ t y σ hs hT K hK
  refine pure_i _ hK (c159 _ _ _ _ _ _ ?_)
  clear hK
  unfold g159
  refine al_i ?_; intro b7 σ1 g1 e1 n1
  refine j_i (fun j => j (((0 + 1 : Nat) : Nat) : Int) (some ⟨b7, 0, none⟩) true σ1) ?_ ?_
  ·refine br_t rfl ⟨?_, g1⟩
   unfold Tr.deep; rw [if_pos (.inr rfl)]
  ·intro j hj
   refine rd_I (rdC_of e1 (by rfl)) ?_
   by_cases hk : t.kind = 2
   ·exact br_f (by simpa using hk) hj
   ·exact br_t (by simpa using hk) hj
 | succ m ih =>
  intro hm t y σ hs hT K hK
  refine pure_i _ hK (c159 _ _ _ _ _ _ ?_)
  clear hK
  unfold g159
  refine al_i ?_; intro b7 σ1 g1 e1 n1
  unfold Tr.deep
  refine j_i (fun j => ∀ b : Bool, (b = true ↔ t.kind ≠ 2) -> j (((m + 1 + 1 : Nat) : Nat) : Int) (some ⟨b7, 0, none⟩) b σ1) ?_ ?_
  ·intro b hb
   by_cases hk : t.kind = 2
   case neg =>
    rw [if_pos (.inl hk)]
    refine br_t (hb.2 hk) ⟨rfl, g1⟩
   have hbf : b = false := by
    cases b with
    | false => rfl
    | true => exact absurd hk (hb.1 rfl)
   rw [if_neg (by rintro (h | h); exact h hk; omega)]
   refine br_f hbf (loop_i ?_)
   intro R hR
   have hlen := kids_total t
   have key : ∀ (l : List Tr) (i : Nat) (d : Int), t.kids.drop i = l -> 1 <= d -> d <= 200 -> t.kids.foldl (fun d x => Wk.gr d (1 + Tr.deep (m + 1) x)) 1 = l.foldl (fun d x => Wk.gr d (1 + Tr.deep (m + 1) x)) d -> R (((m + 1 + 1 : Nat) : Nat) : Int) (some ⟨b7, 0, none⟩) d (i : Int) σ1 := by
    intro l
    induction l with
    | nil =>
     intro i d hd h1 h2 he
     have hge : t.kids.length <= i := by simpa using hd
     refine hR _ _ _ _ _ ?_
     refine ptr_i (rd_L (rdC_of e1 (by rfl)) (br_f (by rw [hs.1]; simp only [decide_eq_false_iff_not]; omega) ⟨?_, g1⟩))
     rw [he]; rfl
    | cons x r ihl =>
     intro i d hd h1 h2 he
     have hx : t.kids[i]? = some x := by
      have : (t.kids.drop i)[0]? = some x := by rw [hd]; rfl
      simpa using this
     have hlt : i < t.kids.length := by
      rcases Nat.lt_or_ge i t.kids.length with h | h
      ·exact h
      ·rw [List.drop_eq_nil_of_le h] at hd; cases hd
     obtain ⟨g, o, z, hb, hrd, hz⟩ := kid_rd (hs.gr g1) hx
     refine hR _ _ _ _ _ ?_
     refine ptr_i (rd_L (rdC_of e1 (by rfl)) (br_t (by rw [hs.1]; simp only [decide_eq_true_eq]; omega) (ptr_i (rd_L (rdC_of e1 (by rfl)) ?_))))
     rw [hb]
     refine ptr_i (if_i ⟨by omega, by show (i : Int) < ((y.len : Nat) : Int); rw [hs.1]; omega⟩ ?_)
     have hrd' : rdA 5 g (o + (i : Int).toNat * 5) σ1 = some (.agg ⟨trC x z⟩) := by simpa using hrd
     refine rd_G hrd' ?_
     unfold trC
     (refine app_of rfl ?_; try dsimp only)
     have w1 : IntKind.i64.wrap ((((m + 1 + 1 : Nat) : Nat) : Int) - 1) = ((m + 1 : Nat) : Int) := by rw [wrap_id (by omega) (by omega)]; omega
     rw [w1]
     refine call_i (ih (by omega) x z hz (by have := kid_total hx; omega) (app_I ?_))
     have hdl := deep_le (m + 1) x
     rw [wrap_id (x := 1 + Tr.deep (m + 1) x) (by omega) (by omega), wrap_id (x := (i : Int) + 1) (by omega) (by omega)]
     have h2' : t.kids.drop (i + 1) = r := by rw [<- List.drop_drop, hd]; rfl
     refine ihl (i + 1) _ h2' ?_ ?_ ?_
     ·split <;> omega
     ·split <;> omega
     ·rw [he]; rfl
   exact key t.kids 0 1 rfl (by omega) (by omega) rfl
  ·intro j hj
   refine rd_I (rdC_of e1 (by rfl)) ?_
   by_cases hk : t.kind = 2
   ·refine br_f (by simpa using hk) (hj _ ?_)
    have : ((((m + 1 + 1 : Nat) : Int)) == 1) = false := by
     simp only [beq_eq_false_iff_ne]; omega
    rw [this]; simp [hk]
   ·exact br_t (by simpa using hk) (hj true (by simp [hk]))
theorem s_rtDeep (t : Tr) (y : Sl) {σ : H} (hs : SlAt σ t.kids y) (hT : t.total <= 1000000000000000) {K : KH} (hK : K (.int .i64 (t.deep 14)) σ) : callW Tryz.prog 91 [.agg ⟨trC t y⟩] K σ := by
 refine pure_i _ hK (c91 _ _ _ _ _ ?_)
 clear hK
 unfold g91
 refine al_i ?_; intro b6 σ1 g1 e1 n1
 refine rd_G (rdA_of' e1 (by rfl)) ?_
 (refine app_of rfl ?_; try dsimp only)
 exact call_i (s_rtdeep 13 (by omega) t y (hs.gr g1) hT (app_I ⟨rfl, g1⟩))
attribute [local irreducible] bothW
theorem trimL_snoc : ∀ q : List UInt8, trimL (q ++ [47]) = q := by
 intro q
 induction q with
 | nil => rfl
 | cons x r ih =>
  cases r with
  | nil => rfl
  | cons y r => rw [List.cons_append, List.cons_append, trimL, <- List.cons_append, ih]
theorem trimL_id : ∀ l : List UInt8, (∀ q, l ≠ q ++ [47]) -> trimL l = l := by
 intro l h
 rcases trimL_cases l with e | e
 ·exact e
 ·exact absurd e (h _)
theorem x_Trim (s : ByteArray) (hs : s.size <= 1000000000) {σ : H} {K : KH} (hK : K (.string (trimS s)) σ) : callW Tryz.prog 205 [.string s, .string ⟨⟨[47]⟩⟩] K σ := by
 have q1 : (⟨⟨[47]⟩⟩ : ByteArray).size = 1 := rfl
 have hls := size_list s
 refine c205 _ _ ?_
 unfold g205
 refine call_i (c244 _ _ ?_)
 unfold g244
 refine call_i (c257 _ _ ?_)
 unfold g257
 have w : ∀ n : Nat, n <= 1000000000 -> IntKind.i64.wrap (((n : Nat) : Int) - ((1 : Nat) : Int)) = (n : Int) - 1 := fun n hn => wrap_id (by omega) (by omega)
 rw [q1, w s.size hs]
 by_cases h : 1 <= s.size
 ·have e : ((s.size : Int) - 1).toNat = s.size - 1 := by omega
  refine br_t (by simp only [decide_eq_true_eq]; omega) (if_i ⟨bnd_none, bnd_some (by omega) (by omega)⟩ (app_B ?_))
  rw [e]
  have he : strEq (s.extract (s.size - 1) s.size) ⟨⟨[47]⟩⟩ = (s.data.toList.drop (s.size - 1) == [47]) := by
   unfold strEq
   rw [ByteArray.toList_eq, ByteArray.toList_eq, extract_toList]
   rw [hls, List.take_length]
  rw [he]
  cases hd : (s.data.toList.drop (s.size - 1) == [47]) with
  | true =>
   have hd := eq_of_beq hd
   have hq : s.data.toList = s.data.toList.take (s.size - 1) ++ [47] := by
    have := List.take_append_drop (s.size - 1) s.data.toList
    rw [hd] at this; exact this.symm
   refine br_t rfl (if_i ⟨bnd_some (by omega) (by omega), bnd_none⟩ (app_S ?_))
   have : trimS s = s.extract 0 (s.size - 1) := by
    refine bytes_ext ?_
    rw [trimS_data, extract_toList, List.drop_zero]
    generalize List.take (s.size - 1) s.data.toList = q at hq
    rw [hq, trimL_snoc]
   rw [this] at hK; exact hK
  | false =>
   refine br_f rfl (app_S ?_)
   have : trimS s = s := by
    refine bytes_ext ?_
    rw [trimS_data]
    refine trimL_id _ fun q hq => ?_
    have h2 : s.data.toList.drop (s.size - 1) = [47] := by
     rw [hls, hq]
     simp
    rw [h2] at hd; cases hd
   rw [this] at hK; exact hK
 ·refine br_f (by simp only [decide_eq_false_iff_not]; omega) (app_B (br_f rfl (app_S ?_)))
  have : s.data.toList = [] := List.eq_nil_of_length_eq_zero (by omega)
  have : trimS s = s := by refine bytes_ext ?_; rw [trimS_data, this]; rfl
  rw [this] at hK; exact hK
theorem go_Same : isGo Tryz.prog 49 = true := by kernel_rfl
theorem x_EqF {σ : H} {ts us : List Tr} {y z : Sl} (hs : SlAt σ ts y) (hz : SlAt σ us z) (hl : ts.length <= 1000000000000000)
 (ih : ∀ x ∈ ts, ∀ v ∈ us, ∀ (y z : Sl) (σ' : H), SlAt σ' x.kids y -> SlAt σ' v.kids z -> ∀ {K : KH}, K (.bool (x.same v)) σ' -> callW Tryz.prog 49 [.agg ⟨trC x y⟩, .agg ⟨trC v z⟩] K σ')
 {K : KH} (hK : K (.bool (Nat.beq ts.length us.length && Tr.sameRow ts us)) σ) : callW Tryz.prog 104 [.slice y.base y.len y.cap, .slice z.base z.len z.cap, .func (.func 49) ⟨[]⟩ ⟨[]⟩] K σ := by
 have hlt := hs.1
 have hlu := hz.1
 refine pure_i _ hK (c104 _ _ _ ?_)
 clear hK
 unfold g104
 by_cases hne : ts.length = us.length
 case neg =>
  refine br_t (by simp only [bne_iff_ne, ne_eq]; omega) ⟨?_, Gr.refl _⟩
  have : Nat.beq ts.length us.length = false := by rw [<- Bool.not_eq_true]; intro h; exact hne (Nat.eq_of_beq_eq_true h)
  rw [this]; rfl
 have e0 : Nat.beq ts.length us.length = true := by rw [hne]; exact Nat.beq_refl _
 rw [e0, Bool.true_and]
 refine br_f (by simp only [bne_eq_false_iff_eq]; omega) (loop_i ?_)
 intro R hR
 have key : ∀ (l m : List Tr) (i : Nat) (τ : H), ts.drop i = l -> us.drop i = m -> Gr σ τ -> Tr.sameRow ts us = Tr.sameRow l m -> R z (.func (.func 49) ⟨[]⟩ ⟨[]⟩) y ((y.len : Nat) : Int) (i : Int) τ := by
  intro l
  induction l with
  | nil =>
   intro m i τ hd hm hg he
   have hge : ts.length <= i := by simpa using hd
   refine hR _ _ _ _ _ _ ?_
   refine br_f (by rw [hs.1]; simp only [decide_eq_false_iff_not]; omega) ⟨?_, hg⟩
   rw [he]; rfl
  | cons x r ihl =>
   intro m i τ hd hm hg he
   obtain ⟨hx, hlt', hd'⟩ := drop_get hd
   obtain ⟨v, s, rfl⟩ : ∃ v s, m = v :: s := by
    cases m with
    | nil => have : us.length <= i := by simpa using hm
             omega
    | cons v s => exact ⟨v, s, rfl⟩
   obtain ⟨hv, hlt2, hm'⟩ := drop_get hm
   obtain ⟨g, o, a, hb, hrd, ha⟩ := kid_rd (hs.gr hg) hx
   obtain ⟨g', o', a', hb', hrd', ha'⟩ := kid_rd (hz.gr hg) hv
   refine hR _ _ _ _ _ _ ?_
   refine br_t (by rw [hs.1]; simp only [decide_eq_true_eq]; omega) ?_
   rw [hb]
   refine ptr_i (if_i ⟨by omega, by rw [hs.1]; omega⟩ ?_)
   have hrd1 : rdA 5 g (o + (i : Int).toNat * 5) τ = some (.agg ⟨trC x a⟩) := by simpa using hrd
   refine rd_G hrd1 ?_
   unfold trC
   (refine app_of rfl ?_; try dsimp only)
   refine al_i ?_; intro b17 τ1 g1 e1 n1
   refine st_i2 e1 sz_Node (by rfl) (by rfl) ?_; intro τ2 p2
   have hg2 : Gr τ τ2 := g1.putF p2 n1
   rw [hb']
   refine ptr_i (if_i ⟨by omega, by rw [hz.1]; omega⟩ ?_)
   have hrd2 : rdA 5 g' (o' + (i : Int).toNat * 5) τ2 = some (.agg ⟨trC v a'⟩) := by have := rdA_gr hg2 hrd'; simpa using this
   refine rd_G hrd2 ?_
   unfold trC
   (refine app_of rfl ?_; try dsimp only)
   refine al_i ?_; intro b25 τ3 g3 e3 n3
   have n1725 : b17 ≠ b25 := ne_fr n3 (isSome_of p2.same)
   refine st_i2 e3 sz_Node (by rfl) (by rfl) ?_; intro τ4 p4
   have hg4 : Gr τ τ4 := hg2.trans (g3.putF p4 n3)
   refine rd_G (rdA_of' (p4.get n1725 (g3.get p2.same)) (by rfl)) ?_
   (refine app_of rfl ?_; try dsimp only)
   refine rd_G (rdA_of' p4.same (by rfl)) ?_
   (refine app_of rfl ?_; try dsimp only)
   refine cval_i go_Same (ih x (List.mem_of_getElem? hx) v (List.mem_of_getElem? hv) a a' τ4 (ha.gr hg4) (ha'.gr hg4) (app_B ?_))
   rw [Tr.sameRow] at he
   cases hsm : x.same v with
   | false =>
    refine br_t rfl ⟨?_, hg.trans hg4⟩
    rw [he, hsm]; rfl
   | true =>
    refine br_f rfl ?_
    rw [wrap_id (x := (i : Int) + 1) (by omega) (by omega)]
    refine ihl s (i + 1) τ4 hd' hm' (hg.trans hg4) ?_
    rw [he, hsm]; rfl
 exact key ts us 0 σ rfl rfl (Gr.refl _) rfl
theorem s_Same : ∀ (t : Tr) (y : Sl) (u : Tr) (z : Sl) {σ : H}, SlAt σ t.kids y -> SlAt σ u.kids z -> t.total <= 1000000000000000 -> u.total <= 1000000000000000 -> ∀ {K : KH}, K (.bool (t.same u)) σ -> callW Tryz.prog 49 [.agg ⟨trC t y⟩, .agg ⟨trC u z⟩] K σ := by
 refine Tr.ind (P := fun t => ∀ (y : Sl) (u : Tr) (z : Sl) {σ : H}, SlAt σ t.kids y -> SlAt σ u.kids z -> t.total <= 1000000000000000 -> u.total <= 1000000000000000 -> ∀ {K : KH}, K (.bool (t.same u)) σ -> callW Tryz.prog 49 [.agg ⟨trC t y⟩, .agg ⟨trC u z⟩] K σ) ?_
 intro t ih y u z σ hs hz hT hU K hK
 refine pure_i _ hK (c49 _ _ _ _ _ _ _ _ _ _ ?_)
 clear hK
 unfold g49
 refine al_i ?_; intro b11 σ1 g1 e1 n1
 refine al_i ?_; intro b12 σ2 g2 e2 n2
 have k11 := g2.get e1
 have hg : Gr σ σ2 := g1.trans g2
 rw [Tr.same_eq]
 refine j_i (fun j => ∀ b : Bool, b = (t.tooDeep || u.tooDeep) -> j (some ⟨b11, 0, none⟩) (some ⟨b12, 0, none⟩) b σ2) ?_ ?_
 case refine_2 =>
  intro j hj
  refine rd_G (rdA_of' k11 (by rfl)) ?_
  (refine app_of rfl ?_; try dsimp only)
  refine call_i (s_tooDeep t y (hs.gr hg) hT (app_B ?_))
  cases h : t.tooDeep with
  | true => exact br_t rfl (hj true (by rw [h]; rfl))
  | false =>
   refine br_f rfl (rd_G (rdA_of' e2 (by rfl)) ?_)
   (refine app_of rfl ?_; try dsimp only)
   exact call_i (s_tooDeep u z (hz.gr hg) hU (app_B (hj _ (by rw [h]; rfl))))
 intro b hb
 cases b with
 | true =>
  refine br_t rfl ⟨?_, hg⟩
  have : (!t.tooDeep && !u.tooDeep) = false := by rw [<- Bool.not_or, <- hb]; rfl
  rw [<- Bool.and_assoc, this]; rfl
 | false =>
  have h2 : t.tooDeep = false /\ u.tooDeep = false := by rw [<- Bool.or_eq_false_iff]; exact hb.symm
  rw [h2.1, h2.2]
  refine br_f rfl (ptr_i (rd_S (rdC_of k11 (by rfl)) (ptr_i (rd_S (rdC_of e2 (by rfl)) ?_))))
  rw [<- sEq_eq]
  cases c1 : sEq t.name u.name with
  | false => exact br_f rfl ⟨rfl, hg⟩
  | true =>
   refine br_t rfl (ptr_i (rd_I (rdC_of k11 (by rfl)) (ptr_i (rd_I (rdC_of e2 (by rfl)) ?_))))
   cases c2 : (t.kind == u.kind) with
   | false => exact br_f rfl ⟨rfl, hg⟩
   | true =>
    refine br_t rfl (ptr_i (rd_B (rdC_of k11 (by rfl)) (ptr_i (rd_B (rdC_of e2 (by rfl)) ?_))))
    cases c3 : (t.exec == u.exec) with
    | false => exact br_f rfl ⟨rfl, hg⟩
    | true =>
     refine br_t rfl (ptr_i (rd_S (rdC_of k11 (by rfl)) (ptr_i (rd_S (rdC_of e2 (by rfl)) ?_))))
     rw [<- sEq_eq]
     cases c4 : sEq t.data u.data with
     | false => exact br_f rfl ⟨rfl, hg⟩
     | true =>
      refine br_t rfl (ptr_i (rd_L (rdC_of k11 (by rfl)) (ptr_i (rd_L (rdC_of e2 (by rfl)) ?_))))
      have := kids_total t
      refine call_i (x_EqF (hs.gr hg) (hz.gr hg) (by omega) ?_ (app_B ⟨rfl, hg⟩))
      intro x hx v hv y' z' σ' h1 h2 K' hK'
      exact ih x hx y' v z' h1 h2 (by have := Tr.total_kid hx; omega) (by have := Tr.total_kid hv; omega) hK'
end Go.Proofs.YtbjbeajbckcecaaGreatDoor

namespace Go.Wk
open Go Go.HL
structure Rn where
 t : ByteArray
 q : Bool
 s : Bool
abbrev Ch := UInt8 × Bool
def Rn.cells (r : Rn) : List Value := [.string r.t, .bool r.q, .bool r.s]
def hasC (c : UInt8) : List UInt8 -> Bool
 | [] => false
 | x :: r => x == c || hasC c r
def chIs (c : Ch) (l : List UInt8) : Bool := !c.2 && hasC c.1 l
def leC8 (a b : UInt8) : Bool := Nat.ble a.toNat b.toNat
def inSet (b : UInt8) : Nat -> List Ch -> Bool
 | 0, _ => false
 | _ + 1, [] => false
 | f + 1, a :: r => match r with
  | d :: c :: r' => if chIs d [45] then (leC8 a.1 b && leC8 b c.1) || inSet b f r' else (b == a.1) || inSet b f r
  | _ => (b == a.1) || inSet b f r
inductive Pc where
 | star | set (nt : Bool) (l : List Ch) | any | one (b : UInt8)
def Pc.odd : Pc -> Bool
 | .one _ => false
 | _ => true
def Pc.isStar : Pc -> Bool
 | .star => true
 | _ => false
def Pc.f : Pc -> UInt8 -> Bool
 | .star, _ => false
 | .set nt l, b => inSet b l.length l != nt
 | .any, _ => true
 | .one c, b => b == c
structure SpS where
 out : List (List Rn)
 now : List Rn
 bare : Bool
 behind : Bool
structure Pt where
 l : List Ch
 st : Bool
def Ch.rn (c : Ch) : Rn := ⟨⟨⟨[c.1]⟩⟩, c.2, false⟩
def Pt.runs (p : Pt) : List Rn := p.l.map Ch.rn
def SpS.n (x : SpS) : Nat := x.out.length + x.now.length
end Go.Wk

set_option maxRecDepth 100000
namespace Go.Proofs.YtbjbeajbckcecaaGreatDoor
open Go Go.HL Go.Wk
attribute [local irreducible] ptrW ifW brW andW rdT alW letJ stW muW biW vaW imW callT cvalT app callW invW callVW sizeT oW nilF oneK loopW rfW funW begW roundK exW idxW Gr Put
def rnRows (l : List Rn) : List (List Value) := l.map Rn.cells
theorem u8_beq (a b : UInt8) : ((((a.toNat : Nat) : Int) : Int) == ((b.toNat : Nat) : Int)) = (a == b) := by
 by_cases h : a = b
 ·subst h; simp
 ·have h1 : (a == b) = false := by simpa using h
  have h2 : ¬ (((a.toNat : Nat) : Int) = ((b.toNat : Nat) : Int)) := by
   intro e; apply h
   exact UInt8.toNat_inj.1 (by omega)
  rw [h1]; simpa using h2
end Go.Proofs.YtbjbeajbckcecaaGreatDoor

