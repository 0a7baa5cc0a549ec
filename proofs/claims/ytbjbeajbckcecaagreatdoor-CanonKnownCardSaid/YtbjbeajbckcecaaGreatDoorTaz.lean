/- A part of the proof: CanonKnown holds. -/
import Derived.Test.YtbjbeajbckcecaaGreatDoorTay
import Derived.Shelf.Strings.Repeat
import Derived.Ground.NamesProg
import Derived.Test.YtbjbeajbckcecaaGreatDoorProg
namespace Go.Wk
open Go Go.HL
variable {A : AT}
theorem linkE_z {dir : Int} {name : ByteArray} {ino : Int} (he : A.linkE dir name ino = 0) : A.isDir dir /\ namedE name = 0 /\ (∃ n, A.get ino = some n /\ n.kind = 1) /\ A.find dir name = none := by
 unfold AT.linkE at he
 obtain ⟨_, he⟩ := AT.firstE_z he
 obtain ⟨h1, he⟩ := AT.firstE_z he
 obtain ⟨h2, he⟩ := AT.firstE_z he
 obtain ⟨h3, he⟩ := AT.firstE_z he
 obtain ⟨h4, _⟩ := AT.firstE_z he
 refine ⟨AT.dirE_z h1, h2, AT.fileE_z h3, ?_⟩
 cases hf : A.find dir name with
 | none => rfl
 | some j => rw [hf] at h4; simp at h4
theorem linkR_ok {N : Nat} (h : Inv A) (hb : Bd N A) (hN : N < 4611686018427387904) (dir : Int) (name : ByteArray) (ino : Int) : Inv (A.linkR dir name ino).2 /\ Bd (N + 1) (A.linkR dir name ino).2 /\ ((A.linkR dir name ino).1 ≠ 0 -> (A.linkR dir name ino).2 = A) /\ (A.linkR dir name ino).2.qi = A.qi /\ (A.linkR dir name ino).2.qb = A.qb := by
 unfold AT.linkR
 by_cases he : A.linkE dir name ino = 0
 case neg => rw [if_neg he]; exact ⟨h, hb.mono (by omega), fun _ => rfl, rfl, rfl⟩
 rw [if_pos he]
 obtain ⟨⟨nd, hd, hd2⟩, hnm, ⟨nn, hnn, hk1⟩, hfn⟩ := linkE_z he
 have hne : ino ≠ dir := by intro e; subst e; rw [hd] at hnn; cases hnn; omega
 have hfn' : lk name nd.ents = none := by unfold AT.find at hfn; rw [hd] at hfn; exact hfn
 have hlb : nn.links <= N := hb.links ino nn hnn
 have hi1 : ino ≠ 1 := by
  intro e; subst e
  obtain ⟨r, r1, r2, _⟩ := h.root
  rw [hnn] at r1; cases r1; omega
 have hl0 := h.links ino nn hnn hi1
 have wl : wr (nn.links + 1) = nn.links + 1 := wr_id (by omega) (by omega)
 have e1 : A.ent dir (up name ino) = A.set dir { nd with ents := up name ino nd.ents } := by unfold AT.ent; rw [hd]
 have g1 : (A.set dir { nd with ents := up name ino nd.ents }).get ino = some nn := by rw [AT.get_set_ne _ _ hne]; exact hnn
 have e2 : A.linked dir name ino = (A.set dir { nd with ents := up name ino nd.ents }).set ino { nn with links := nn.links + 1 } := by
  unfold AT.linked AT.mod; rw [e1, g1]; simp only; rw [wl]
 have hG : ∀ j, (A.linked dir name ino).get j = if j = ino then some { nn with links := nn.links + 1 } else if j = dir then some { nd with ents := up name ino nd.ents } else A.get j := by
  intro j; rw [e2, AT.get_set, AT.get_set]
 have hsum : ∀ f : AN -> Nat, sumF f (A.linked dir name ino).nodes + f nd + f nn = sumF f A.nodes + f { nd with ents := up name ino nd.ents } + f { nn with links := nn.links + 1 } := by
  intro f
  have q1 := AT.sum_set (A.set dir { nd with ents := up name ino nd.ents }) f ino { nn with links := nn.links + 1 }
  have q2 := AT.sum_set A f dir { nd with ents := up name ino nd.ents }
  rw [g1] at q1; rw [hd] at q2
  simp only [Option.map_some, Option.getD_some] at q1 q2
  rw [e2]; omega
 have hcE : ∀ j, cntE j { nd with ents := up name ino nd.ents } = cntE j nd + one j ino := by
  intro j
  have := sumF_up (one j) name ino nd.ents
  rw [hfn'] at this
  simpa [cntE] using this
 have hrefs : ∀ j, (A.linked dir name ino).refs j = A.refs j + one j ino := by
  intro j
  have := hsum (cntE j)
  rw [hcE j] at this
  have e : cntE j { nn with links := nn.links + 1 } = cntE j nn := rfl
  unfold AT.refs; omega
 have hcase : ∀ j m, (A.linked dir name ino).get j = some m -> (j = ino /\ m = { nn with links := nn.links + 1 }) \/ (j = dir /\ m = { nd with ents := up name ino nd.ents }) \/ (j ≠ ino /\ j ≠ dir /\ A.get j = some m) := by
  intro j m hm
  rw [hG] at hm
  by_cases e : j = ino
  ·rw [if_pos e] at hm; cases hm; exact .inl ⟨e, rfl⟩
  ·rw [if_neg e] at hm
   by_cases e' : j = dir
   ·rw [if_pos e'] at hm; cases hm; exact .inr (.inl ⟨e', rfl⟩)
   ·rw [if_neg e'] at hm; exact .inr (.inr ⟨e, e', hm⟩)
 have hx : ∀ j m, A.get j = some m -> ∃ m', (A.linked dir name ino).get j = some m' /\ m'.kind = m.kind /\ m'.up = m.up := by
  intro j m hm
  rw [hG]
  by_cases e : j = ino
  ·subst e; rw [if_pos rfl]; rw [hnn] at hm; cases hm; exact ⟨_, rfl, rfl, rfl⟩
  ·rw [if_neg e]
   by_cases e' : j = dir
   ·subst e'; rw [if_pos rfl]; rw [hd] at hm; cases hm; exact ⟨_, rfl, rfl, rfl⟩
   ·rw [if_neg e']; exact ⟨m, hm, rfl, rfl⟩
 have hupO : ∀ k, A.isDir k -> (A.linked dir name ino).upOf k = A.upOf k := by
  rintro k ⟨m, hm, _⟩
  obtain ⟨m', q1, _, q3⟩ := hx k m hm
  unfold AT.upOf; rw [hm, q1]; simp [q3]
 have hu : (A.linked dir name ino).ui = A.ui /\ (A.linked dir name ino).ub = A.ub /\ (A.linked dir name ino).qi = A.qi /\ (A.linked dir name ino).qb = A.qb /\ (A.linked dir name ino).last = A.last := by rw [e2]; exact ⟨rfl, rfl, rfl, rfl, rfl⟩
 have hone : one ino ino = 1 := by unfold one; simp
 show Inv (A.linked dir name ino) /\ Bd (N + 1) (A.linked dir name ino) /\ ((0 : Int) ≠ 0 -> _) /\ _ /\ _
 refine ⟨⟨?_, ?_, ?_, ?_, ?_, ?_, ?_, ?_, ?_, ?_, ?_, ?_, ?_⟩, ⟨?_, ?_, ?_⟩, fun h => absurd rfl h, hu.2.2.1, hu.2.2.2.1⟩
 ·rw [e2]; exact nodup_up (nodup_up h.nodup)
 ·intro j m hm
  rcases hcase j m hm with ⟨_, rfl⟩ | ⟨_, rfl⟩ | ⟨_, _, hm⟩
  ·exact h.enod ino nn hnn
  ·exact nodup_up (h.enod dir nd hd)
  ·exact h.enod j m hm
 ·obtain ⟨r, r1, r2, r3⟩ := h.root
  obtain ⟨m', q1, q2, q3⟩ := hx 1 r r1
  exact ⟨m', q1, by rw [q2, r2], by rw [q3, r3]⟩
 ·intro j m hm
  rw [hu.2.2.2.2]
  rcases hcase j m hm with ⟨rfl, _⟩ | ⟨rfl, _⟩ | ⟨_, _, hm⟩
  ·exact h.low _ nn hnn
  ·exact h.low _ nd hd
  ·exact h.low j m hm
 ·intro j m hm
  rcases hcase j m hm with ⟨_, rfl⟩ | ⟨_, rfl⟩ | ⟨_, _, hm⟩
  ·exact h.like ino nn hnn
  ·exact h.like dir nd hd
  ·exact h.like j m hm
 ·intro j m hm hk
  rcases hcase j m hm with ⟨_, rfl⟩ | ⟨_, rfl⟩ | ⟨_, _, hm⟩
  ·exact h.file ino nn hnn hk
  ·exact absurd hd2 hk
  ·exact h.file j m hm hk
 ·intro j m s t hm hs
  have fin : ∀ t m1, A.get t = some m1 -> (m1.kind = 2 -> m1.up = j) -> ∃ m', (A.linked dir name ino).get t = some m' /\ (m'.kind = 2 -> m'.up = j) := by
   intro t m1 a3 a4
   obtain ⟨m', b1, b2, b3⟩ := hx t m1 a3
   exact ⟨m', b1, fun hk => by rw [b3]; exact a4 (by rw [<- b2]; exact hk)⟩
  rcases hcase j m hm with ⟨rfl, rfl⟩ | ⟨rfl, rfl⟩ | ⟨_, _, hm⟩
  ·obtain ⟨a1, a2, m1, a3, a4⟩ := h.ent j nn s t hnn hs
   exact ⟨a1, a2, fin t m1 a3 a4⟩
  ·simp only [lk_up] at hs
   by_cases e : s = name
   ·subst e
    simp at hs; subst hs
    exact ⟨hnm, hi1, fin ino nn hnn (fun hk => by omega)⟩
   ·have e' : (s == name) = false := by simpa using e
    rw [e'] at hs
    obtain ⟨a1, a2, m1, a3, a4⟩ := h.ent j nd s t hd hs
    exact ⟨a1, a2, fin t m1 a3 a4⟩
  ·obtain ⟨a1, a2, m1, a3, a4⟩ := h.ent j m s t hm hs
   exact ⟨a1, a2, fin t m1 a3 a4⟩
 ·intro j m hm hj
  rw [hrefs]
  rcases hcase j m hm with ⟨rfl, rfl⟩ | ⟨rfl, rfl⟩ | ⟨hji, _, hm⟩
  ·rw [hone]
   refine ⟨by show nn.links + 1 = _; omega, by omega, fun hk => ?_⟩
   have hk : nn.kind = 2 := hk
   omega
  ·have : one j ino = 0 := by unfold one; rw [if_neg hne]
   rw [this]; exact h.links j nd hd hj
  ·have : one j ino = 0 := by unfold one; rw [if_neg (fun e => hji e.symm)]
   rw [this]; exact h.links j m hm hj
 ·rintro k ⟨m, hm, hk⟩
  have hkd : A.isDir k := by
   rcases hcase k m hm with ⟨rfl, rfl⟩ | ⟨rfl, rfl⟩ | ⟨_, _, hm⟩
   ·have hk : nn.kind = 2 := hk
    omega
   ·exact ⟨nd, hd, hk⟩
   ·exact ⟨m, hm, hk⟩
  rw [deep_same h hupO 12 k hkd]; exact h.deep k hkd
 ·have := hsum (fun _ => 1)
  rw [sumF_len, sumF_len] at this
  rw [hu.1, h.ui]; omega
 ·have := hsum (fun n => n.data.size)
  rw [hu.2.1, h.ub]; unfold AT.bytes; simp only at this; omega
 ·rw [hu.1, hu.2.2.1]; exact h.uq
 ·rw [hu.2.1, hu.2.2.2.1]; exact h.bq
 ·rw [hu.2.2.2.2]; have := hb.last; omega
 ·intro j m hm
  rcases hcase j m hm with ⟨_, rfl⟩ | ⟨rfl, rfl⟩ | ⟨_, _, hm⟩
  ·show nn.links + 1 <= _; omega
  ·have := hb.links _ nd hd; simp only; omega
  ·have := hb.links j m hm; omega
 ·intro j m hm
  rcases hcase j m hm with ⟨_, rfl⟩ | ⟨rfl, rfl⟩ | ⟨_, _, hm⟩
  ·have := hb.ents _ nn hnn; simp only; omega
  ·have := hb.ents _ nd hd
   simp only
   rw [enc_up_new nd.ents name _ hfn']; simp; omega
  ·have := hb.ents j m hm; omega
theorem hardF_ok {N : Nat} (h : Inv A) (hb : Bd N A) (hN : N < 4611686018427387904) (cwd src tq : ByteArray) : OpOk (N + 1) A (A.hardF cwd src tq) := by
 unfold AT.hardF
 simp only
 split
 ·exact OpOk.self h (hb.mono (by omega)) _
 split
 ·exact OpOk.self h (hb.mono (by omega)) _
 split
 ·exact OpOk.self h (hb.mono (by omega)) _
 split
 ·exact OpOk.self h (hb.mono (by omega)) _
 split
 ·exact OpOk.self h (hb.mono (by omega)) _
 obtain ⟨a, b, c, d, e⟩ := linkR_ok h hb hN (A.both cwd src tq).2.2.dir (A.both cwd src tq).2.2.name (A.both cwd src tq).2.1.ino
 exact ⟨a, b, c, d, e⟩
def Below (A : AT) (ino : Int) : Nat -> Int -> Prop
 | 0, k => k = ino
 | r + 1, k => k ≠ ino /\ k ≠ 1 /\ Below A ino r (A.upOf k)
end Go.Wk

set_option maxRecDepth 100000
namespace Go.Proofs.YtbjbeajbckcecaaGreatDoor
open Go Go.HL Go.Wk
attribute [local irreducible] ptrW ifW brW andW rdT alW letJ stW muW biW vaW imW callT cvalT app callW invW callVW sizeT oW nilF oneK loopW rfW funW begW roundK exW idxW Gr Put
attribute [local irreducible] bothW
theorem canonF_eq (A : AT) (path : ByteArray) : A.canonF path = if (A.take 300 path).1 ≠ 0 then ((A.take 300 path).1, Tr.z) else if (A.take 300 path).2.check ≠ 0 then ((A.take 300 path).2.check, Tr.z) else (0, (A.take 300 path).2) := rfl
theorem s_Of {A : AT} {N : Nat} {σ : H} {bf : Nat} {B : Nat -> Prop} (hI : Inv A) (hB : Bd N A) (hN : N <= 1000000000) (hF : FsAt σ bf A B) (path : ByteArray) (hp : path.size <= 100000) (hT : (A.take 300 path).1 = 0 -> (A.take 300 path).2.total <= 1000000000000000) {K : KH}
 (hK : ∀ y σ' ρ, Gr σ σ' -> Gr ρ σ' -> (∀ b, σ b ≠ none -> ρ b = none) -> SlAt ρ (A.canonF path).2.kids y -> K (.tuple ⟨[.agg ⟨trC (A.canonF path).2 y⟩, .int .i64 (A.canonF path).1]⟩) σ') : callW Tryz.prog 35 [.pointer (some ⟨bf, 0, none⟩), .string path] K σ := by
 refine c35 _ _ ?_
 unfold g35
 refine al_i ?_; intro b3 σ1 g1 e1 n1
 refine call_from g1 (s_at hI hB hN 300 path (by omega) hp hF (K := fun v τ' => ∃ t y ρ, v = .tuple ⟨[.agg ⟨trC t y⟩, .int .i64 (A.take 300 path).1]⟩ /\ Gr σ τ' /\ Gr ρ τ' /\ (∀ b, σ b ≠ none -> ρ b = none) /\ ((A.take 300 path).1 = 0 -> t = (A.take 300 path).2 /\ SlAt ρ t.kids y)) (fun t y τ' ρ h1 h3 h4 h2 => ⟨t, y, ρ, rfl, h1, h3, h4, h2⟩)) ?_
 rintro v σ2 τ2 ⟨t, y, ρ, rfl, m1, mρ, mρ2, m2⟩ m3 m4 m5
 have k3 := m4 b3 _ n1 e1
 have t3 : τ2 b3 = none := m5 b3 (by rw [e1]; simp) n1
 rw [canonF_eq] at hK
 generalize A.take 300 path = T at hK hT m2 ⊢
 obtain ⟨te, tt⟩ := T
 simp only at hK hT m2 ⊢
 unfold trC
 (refine app_of rfl ?_; try dsimp only)
 refine al_i ?_; intro b10 σ3 g3 e3 n3
 have n310 : b3 ≠ b10 := ne_fr n3 (isSome_of k3)
 refine st_i2 e3 sz_Node (by rfl) (by rfl) ?_; intro σ4 p4
 have k3' := p4.get n310 (g3.get k3)
 have k10 : σ4 b10 = some (.cells ⟨trC t y⟩ 73 (0, 0)) := p4.same
 have G4 : Gr τ2 σ4 := m3.trans (g3.putF p4 n3)
 clear p4 g3 e3
 unfold trC at k10
 have bad : ∀ e : Int, (∀ y σ' ρ, Gr σ σ' -> Gr ρ σ' -> (∀ b, σ b ≠ none -> ρ b = none) -> SlAt ρ Tr.z.kids y -> K (.tuple ⟨[.agg ⟨trC Tr.z y⟩, .int .i64 e]⟩) σ') -> ∀ (F : ByteArray -> Int -> Bool -> ByteArray -> Sl -> H -> Prop), (∀ σ', K (.tuple ⟨[.agg ⟨[.string ⟨⟨[]⟩⟩, .int .i64 0, .bool false, .string ⟨⟨[]⟩⟩, .slice none 0 0]⟩, .int .i64 e]⟩) σ' -> F ⟨⟨[]⟩⟩ 0 false ⟨⟨[]⟩⟩ ⟨none, 0, 0⟩ σ') -> stW Tryz.prog 73 (.pointer (some ⟨b3, 0, none⟩)) (.agg ⟨[.string ⟨⟨[]⟩⟩, .int .i64 0, .bool false, .string ⟨⟨[]⟩⟩, .slice none 0 0]⟩) (ptrW (some ⟨b3, 0, none⟩) fun b o => rdT (rdA 5 b o) (.one (.agg [.str, (.int .i64), .bool, .str, .slc])) F) σ4 := by
  intro e hK F hF
  refine st_i2 k3' sz_Node (by rfl) (by rfl) ?_; intro σ5 p5
  refine ptr_i (rd_G (rdA_of' p5.same (by rfl)) ?_)
  (refine app_of rfl ?_; try dsimp only)
  exact hF σ5 (hK ⟨none, 0, 0⟩ σ5 (fun _ => none) (m1.trans (G4.putF p5 t3)) (gr_empty _) (fun _ _ => rfl) SlAt.nil)
 by_cases he : te = 0
 case neg =>
  rw [if_pos he] at hK
  refine j_d (br_f (by simpa using he) (br_t (by simpa using he) (bad te hK _ fun σ' h => h)))
 subst he
 rw [if_neg (by simp)] at hK
 obtain ⟨rfl, hs⟩ := m2 rfl
 refine j_d (br_t rfl (rd_G (rdA_of' k10 (by rfl)) ?_))
 (refine app_of rfl ?_; try dsimp only)
 refine call_i (s_Check t y (hs.gr (mρ.trans G4)) (hT rfl) (app_I ?_))
 by_cases hc : t.check = 0
 case neg =>
  rw [if_pos hc] at hK
  refine br_t (by simpa using hc) (bad t.check hK _ fun σ' h => h)
 rw [if_neg (by simpa using hc)] at hK
 rw [hc]
 refine br_f rfl (ptr_i (rd_G (rdA_of' k10 (by rfl)) ?_))
 (refine app_of rfl ?_; try dsimp only)
 refine st_i2 k3' sz_Node (by rfl) (by rfl) ?_; intro σ5 p5
 refine ptr_i (rd_G (rdA_of' p5.same (by rfl)) ?_)
 (refine app_of rfl ?_; try dsimp only)
 exact hK y σ5 ρ (m1.trans (G4.putF p5 t3)) (mρ.trans (G4.putF p5 t3)) mρ2 hs
@[reducible] def bs (l : List UInt8) : ByteArray := ⟨⟨l⟩⟩
def u0 : AT := newT 20 200
def u1 : AT := (u0.mkdirF (bs [47]) (bs [111])).2
def u2 : AT := (u1.writeF (bs [47, 111]) (bs [120]) (bs [49]) false).2
def u3 : AT := (u2.chmodF (bs [47, 111]) (bs [120]) 448).2
def u4 : AT := (u3.symlinkF (bs [47, 111]) (bs [120]) (bs [108])).2
def u5 : AT := (u4.hardF (bs [47, 111]) (bs [120]) (bs [104])).2
theorem u0_ok : Inv u0 /\ Bd 1 u0 := newT_ok rfl
theorem u1_ok : OpOk 2 u0 (u0.mkdirF (bs [47]) (bs [111])) := mkdirF_ok u0_ok.1 u0_ok.2 (by decide) _ _
theorem u2_ok : OpOk 3 u1 (u1.writeF (bs [47, 111]) (bs [120]) (bs [49]) false) := writeF_ok u1_ok.inv u1_ok.bd (by decide) _ _ _ _ (by decide)
theorem u3_ok : OpOk 3 u2 (u2.chmodF (bs [47, 111]) (bs [120]) 448) := chmodF_ok u2_ok.inv u2_ok.bd _ _ _
theorem u4_ok : OpOk 4 u3 (u3.symlinkF (bs [47, 111]) (bs [120]) (bs [108])) := symlinkF_ok u3_ok.inv u3_ok.bd (by decide) _ _ _
theorem u5_ok : OpOk 5 u4 (u4.hardF (bs [47, 111]) (bs [120]) (bs [104])) := hardF_ok u4_ok.inv u4_ok.bd (by decide) _ _ _
theorem uv1 : (u0.mkdirF (bs [47]) (bs [111])).1 = 0 := by decide +kernel
theorem uv2 : (u1.writeF (bs [47, 111]) (bs [120]) (bs [49]) false).1 = 0 := by decide +kernel
theorem uv3 : (u2.chmodF (bs [47, 111]) (bs [120]) 448).1 = 0 := by decide +kernel
theorem uv4 : (u3.symlinkF (bs [47, 111]) (bs [120]) (bs [108])).1 = 0 := by decide +kernel
theorem uv5 : (u4.hardF (bs [47, 111]) (bs [120]) (bs [104])).1 = 0 := by decide +kernel
def uT : Tr := .mk ⟨⟨[]⟩⟩ 2 false ⟨⟨[]⟩⟩ [.mk ⟨⟨[104]⟩⟩ 1 true ⟨⟨[49]⟩⟩ [], .mk ⟨⟨[108]⟩⟩ 3 false ⟨⟨[120]⟩⟩ [], .mk ⟨⟨[120]⟩⟩ 1 true ⟨⟨[49]⟩⟩ []]
theorem ut1 : u5.take 300 (bs [47, 111]) = (0, uT) := by kernel_rfl
theorem ut2 : u5.take 300 (bs [47, 112]) = (5, Tr.z) := by kernel_rfl
theorem uc1 : u5.canonF (bs [47, 111]) = (0, uT) := by kernel_rfl
theorem uc2 : u5.canonF (bs [47, 112]) = (5, Tr.z) := by kernel_rfl
theorem uT_total : uT.total <= 100 := by decide +kernel
theorem uT_same : uT.same uT = true := by decide +kernel
theorem x_file (name data : ByteArray) (exec : Bool) {σ : H} {K : KH} (hK : K (.agg ⟨[.string name, .int .i64 1, .bool exec, .string data, .slice none 0 0]⟩) σ) : callW Tryz.prog 50 [.string name, .string data, .bool exec] K σ := by
 refine pure_i _ hK (c50 _ _ _ ?_)
 unfold g50
 first
 | exact ⟨rfl, Gr.refl _⟩
 | (refine al_i ?_; intro b σ1 g1 e1 n1
    first
    | (refine st_i2 e1 sz_Node (by rfl) (by rfl) ?_; intro σ2 p2
       refine rd_G (rdA_of' p2.same (by rfl)) ?_
       (refine app_of rfl ?_; try dsimp only)
       exact ⟨rfl, g1.putF p2 n1⟩)
    | (refine rd_G (rdA_of' e1 (by rfl)) ?_
       (refine app_of rfl ?_; try dsimp only)
       exact ⟨rfl, g1⟩))
theorem x_link (name data : ByteArray) {σ : H} {K : KH} (hK : K (.agg ⟨[.string name, .int .i64 3, .bool false, .string data, .slice none 0 0]⟩) σ) : callW Tryz.prog 51 [.string name, .string data] K σ := by
 refine pure_i _ hK (c51 _ _ ?_)
 unfold g51
 first
 | exact ⟨rfl, Gr.refl _⟩
 | (refine al_i ?_; intro b σ1 g1 e1 n1
    first
    | (refine st_i2 e1 sz_Node (by rfl) (by rfl) ?_; intro σ2 p2
       refine rd_G (rdA_of' p2.same (by rfl)) ?_
       (refine app_of rfl ?_; try dsimp only)
       exact ⟨rfl, g1.putF p2 n1⟩)
    | (refine rd_G (rdA_of' e1 (by rfl)) ?_
       (refine app_of rfl ?_; try dsimp only)
       exact ⟨rfl, g1⟩))
end Go.Proofs.YtbjbeajbckcecaaGreatDoor

namespace Go.Wk
open Go Go.HL
end Go.Wk
namespace Go.Wk
open Go Go.HL
end Go.Wk

set_option maxRecDepth 100000
namespace Go.Proofs.YtbjbeajbckcecaaGreatDoor
open Go Go.HL Go.Wk
attribute [local irreducible] ptrW ifW brW andW rdT alW letJ stW muW biW vaW imW callT cvalT app callW invW callVW sizeT oW nilF oneK loopW rfW funW begW roundK exW idxW Gr Put
attribute [local irreducible] bothW
section
variable {σ : H} {bf N : Nat} {A : AT} {B : Nat -> Prop} {F : Int -> H -> Prop} {e : Int}
theorem k_Mkdir (hI : Inv A) (hB : Bd N A) (hN : N <= 1000000000000) (hF : FsAt σ bf A B) {cwd path : ByteArray} (he : (A.mkdirF cwd path).1 = e) (h : ∀ σ' B', FsAt σ' bf (A.mkdirF cwd path).2 B' -> Sep σ B σ' B' -> F e σ') : callT Tryz.prog 48 [.pointer (some ⟨bf, 0, none⟩), .string cwd, .string path] kI F σ :=
 call_i (s_Mkdir hI hB hN hF cwd path fun σ' B' h1 h2 => by rw [he]; exact app_I (h σ' B' h1 h2))
theorem k_Symlink (hI : Inv A) (hB : Bd N A) (hN : N <= 1000000000000) (hF : FsAt σ bf A B) {cwd target path : ByteArray} (he : (A.symlinkF cwd target path).1 = e) (h : ∀ σ' B', FsAt σ' bf (A.symlinkF cwd target path).2 B' -> Sep σ B σ' B' -> F e σ') : callT Tryz.prog 41 [.pointer (some ⟨bf, 0, none⟩), .string cwd, .string target, .string path] kI F σ :=
 call_i (s_Symlink hI hB hN hF cwd target path fun σ' B' h1 h2 => by rw [he]; exact app_I (h σ' B' h1 h2))
theorem k_Write (hI : Inv A) (hB : Bd N A) (hN : N <= 1000000000000) (hF : FsAt σ bf A B) {cwd path data : ByteArray} {more : Bool} (hd : data.size <= 1000000000000000) (he : (A.writeF cwd path data more).1 = e) (h : ∀ σ' B', FsAt σ' bf (A.writeF cwd path data more).2 B' -> Sep σ B σ' B' -> F e σ') : callT Tryz.prog 47 [.pointer (some ⟨bf, 0, none⟩), .string cwd, .string path, .string data, .bool more] kI F σ :=
 call_i (s_Write hI hB hN hF cwd path data more hd fun σ' B' h1 h2 => by rw [he]; exact app_I (h σ' B' h1 h2))
theorem k_Chmod (hF : FsAt σ bf A B) {cwd path : ByteArray} {mode : Int} (he : (A.chmodF cwd path mode).1 = e) (h : ∀ σ' B', FsAt σ' bf (A.chmodF cwd path mode).2 B' -> Sep σ B σ' B' -> F e σ') : callT Tryz.prog 58 [.pointer (some ⟨bf, 0, none⟩), .string cwd, .string path, .int .i64 mode] kI F σ :=
 call_i (s_Chmod hF cwd path mode fun σ' B' h1 h2 => by rw [he]; exact app_I (h σ' B' h1 h2))
theorem k_Hard (hF : FsAt σ bf A B) {cwd src tq : ByteArray} (he : (A.hardF cwd src tq).1 = e) (h : ∀ σ' B', FsAt σ' bf (A.hardF cwd src tq).2 B' -> Sep σ B σ' B' -> F e σ') : callT Tryz.prog 55 [.pointer (some ⟨bf, 0, none⟩), .string cwd, .string src, .string tq] kI F σ :=
 call_i (s_Hard hF cwd src tq fun σ' B' h1 h2 => by rw [he]; exact app_I (h σ' B' h1 h2))
theorem k_Of (hI : Inv A) (hB : Bd N A) (hN : N <= 1000000000) (hF : FsAt σ bf A B) {path : ByteArray} (hp : path.size <= 100000) {T : Tr} (hc : A.canonF path = (e, T)) (hT : (A.take 300 path).1 = 0 -> (A.take 300 path).2.total <= 1000000000000000) {G : Nat -> Int -> H -> Prop}
 (h : ∀ b y σ' ρ, Gr σ σ' -> σ b = none -> σ' b = some (.cells ⟨trC T y⟩ 73 (0, 0)) -> Gr ρ σ' -> ρ b = none -> (∀ c, σ c ≠ none -> ρ c = none) -> SlAt ρ T.kids y -> G b e σ') :
 callT Tryz.prog 35 [.pointer (some ⟨bf, 0, none⟩), .string path] (.tup [.agg [.str, (.int .i64), .bool, .str, .slc], .sc (.int .i64)]) (fun (x1 : ByteArray) (x2 : Int) (x3 : Bool) (x4 : ByteArray) (x5 : Sl) (x6 : Int) =>
  alW (.cells ⟨[.string (⟨⟨[]⟩⟩ : ByteArray), .int .i64 0, .bool false, .string (⟨⟨[]⟩⟩ : ByteArray), .slice none 0 0]⟩ 73 (0, 0)) (fun (b : Nat) => stW Tryz.prog 73 (.pointer (some ⟨b, 0, none⟩)) (.agg ⟨[.string x1, .int .i64 x2, .bool x3, .string x4, .slice x5.base x5.len x5.cap]⟩) (G b x6))) σ := by
 refine call_i (s_Of hI hB hN hF path hp hT ?_)
 intro y σ1 ρ g1 r1 r2 r3
 rw [hc] at r3 ⊢
 unfold trC
 (refine app_of rfl ?_; try dsimp only)
 refine al_i ?_; intro b σ2 g2 e2 n2
 refine st_i2 e2 sz_Node (by rfl) (by rfl) ?_; intro σ3 p3
 exact h b y σ3 ρ (g1.trans (g2.putF p3 n2)) (none_of g1 n2) p3.same (r1.trans (g2.putF p3 n2)) (none_of r1 n2) r2 r3
end
theorem uT_at {σ : H} {b : Nat} {ty : TypeId} {fz : Nat × Nat} (h : σ b = some (.cells ⟨[.string ⟨⟨[104]⟩⟩, .int .i64 1, .bool true, .string ⟨⟨[49]⟩⟩, .slice none 0 0, .string ⟨⟨[108]⟩⟩, .int .i64 3, .bool false, .string ⟨⟨[120]⟩⟩, .slice none 0 0, .string ⟨⟨[120]⟩⟩, .int .i64 1, .bool true, .string ⟨⟨[49]⟩⟩, .slice none 0 0]⟩ ty fz)) : SlAt σ uT.kids ⟨some ⟨b, 0, none⟩, 3, 3⟩ := by
 refine ⟨rfl, .inr ⟨b, 0, _, _, _, rfl, h, ?_⟩⟩
 refine ⟨trAt_iff.2 ⟨⟨none, 0, 0⟩, rfl, SlAt.nil⟩, trAt_iff.2 ⟨⟨none, 0, 0⟩, rfl, SlAt.nil⟩, trAt_iff.2 ⟨⟨none, 0, 0⟩, rfl, SlAt.nil⟩, trivial⟩
theorem s_works10 {σ : H} {K : KH} (hK : K (.bool true) σ) : callW Tryz.prog 36 [] K σ := by
 refine pure_i _ hK (c36 ?_)
 clear hK
 unfold g36
 refine call_i (s_New 20 200 (fun h => by cases h) ?_)
 intro _ bf σ1 B1 F1 g1 hf1
 have O1 := Off.new g1 hf1
 refine app_P ?_
 refine j_i (fun j => ∀ σ2 B2, FsAt σ2 bf u5 B2 -> Off σ σ2 B2 -> j (some ⟨bf, 0, none⟩) false σ2) ?_ ?_
 case refine_2 =>
  intro j hj
  refine br_f rfl (k_Mkdir u0_ok.1 u0_ok.2 (by decide) F1 uv1 ?_); intro σ2 B2 F2 S2
  refine br_f rfl (k_Write u1_ok.inv u1_ok.bd (by decide) F2 (by decide) uv2 ?_); intro σ3 B3 F3 S3
  refine br_f rfl (k_Chmod (A := u2) F3 uv3 ?_); intro σ4 B4 F4 S4
  refine br_f rfl (k_Symlink u3_ok.inv u3_ok.bd (by decide) F4 uv4 ?_); intro σ5 B5 F5 S5
  refine br_f rfl (k_Hard (A := u4) F5 uv5 ?_); intro σ6 B6 F6 S6
  exact hj σ6 B6 F6 (((((O1.sep S2).sep S3).sep S4).sep S5).sep S6)
 intro σ2 B2 F2 O2
 refine br_f rfl (k_Of (A := u5) u5_ok.inv u5_ok.bd (by decide) F2 (by decide) uc1 (fun _ => by rw [ut1]; exact Nat.le_trans uT_total (by decide)) ?_)
 intro b11 y σ3 ρ g3 n3 e3 r3 _ _ hs
 refine k_Of (A := u5) u5_ok.inv u5_ok.bd (by decide) (F2.gr g3) (by decide) uc2 (fun h => by rw [ut2] at h; cases h) ?_
 intro b18 y2 σ4 ρ2 g4 n4 e4 r4 _ _ _
 have k11 := g4.get e3
 unfold trC at k11
 refine br_t rfl (br_t rfl (rd_G (rdA_of' k11 (by rfl)) ?_))
 (refine app_of rfl ?_; try dsimp only)
 refine call_i (x_file _ _ _ ?_)
 (refine app_of rfl ?_; try dsimp only)
 refine and_i (rdA_of' k11 (by rfl)) (call_i (x_link _ _ ?_))
 (refine app_of rfl ?_; try dsimp only)
 refine and_i (rdA_of' k11 (by rfl)) (call_i (x_file _ _ _ ?_))
 (refine app_of rfl ?_; try dsimp only)
 refine and_i (rdA_of' k11 (by rfl)) ?_
 refine al_i ?_; intro b39 σ5 g5 e5 n5
 refine call_i (s_Same uT y uT ⟨some ⟨b39, 0, none⟩, 3, 3⟩ (hs.gr ((r3.trans g4).trans g5)) (uT_at e5) (Nat.le_trans uT_total (by decide)) (Nat.le_trans uT_total (by decide)) ?_)
 rw [uT_same]
 exact app_B ⟨rfl, ((O2.1.trans g3).trans g4).trans g5⟩
section
variable {σ : H}
theorem s_noneNil {K : KH} (hK : K (.bool true) σ) : callW Tryz.prog 92 [.pointer none] K σ := by
 refine c92 _ ?_
 unfold g92
 exact br_t rfl hK
theorem s_locateNil (cwd path : ByteArray) (follow : Bool) {K : KH} (hK : ∀ σ', Gr σ σ' -> K (.tuple ⟨[.agg ⟨[.int .i64 0, .string ⟨⟨[]⟩⟩, .int .i64 0, .bool false]⟩, .int .i64 1]⟩) σ') : callW Tryz.prog 98 [.pointer none, .string cwd, .string path, .bool follow] K σ := by
 refine c98 _ _ _ _ ?_
 unfold g98
 refine al_i ?_; intro b5 σ1 g1 e1 n1
 refine call_i (s_noneNil (app_B (br_t rfl ?_)))
 refine st_i2 e1 sz_place (by rfl) (by rfl) ?_; intro σ2 p2
 refine rd_G (rdA_of' p2.same (by rfl)) ?_
 (refine app_of rfl ?_; try dsimp only)
 exact hK σ2 (g1.putF p2 n1)
theorem s_withNil (cwd path : ByteArray) (follow : Bool) (f : Value) {K : KH} (hK : ∀ σ', Gr σ σ' -> K (.int .i64 1) σ') : callW Tryz.prog 69 [.pointer none, .string cwd, .string path, .bool follow, f] K σ := by
 refine c69 _ _ _ _ _ ?_
 unfold g69
 refine call_i (s_locateNil cwd path follow ?_)
 intro σ1 g1
 (refine app_of rfl ?_; try dsimp only)
 refine al_i ?_; intro b11 σ2 g2 e2 n2
 refine st_i2 e2 sz_place (by rfl) (by rfl) ?_; intro σ3 p3
 exact br_t rfl (hK σ3 ((g1.trans g2).putF p3 (none_of g1 n2)))
theorem s_StatNil (cwd path : ByteArray) (follow : Bool) {K : KH} (hK : ∀ σ', Gr σ σ' -> K (.tuple ⟨[.agg ⟨[.int .i64 0, .int .i64 0, .string ⟨⟨[]⟩⟩, .int .i64 0]⟩, .int .i64 1]⟩) σ') : callW Tryz.prog 15 [.pointer none, .string cwd, .string path, .bool follow] K σ := by
 refine c15 _ _ _ _ ?_
 unfold g15
 refine al_i ?_; intro b5 σ1 g1 e1 n1
 refine call_i (s_withNil cwd path follow _ ?_)
 intro σ2 g2
 have k5 := g2.get e1
 refine app_I (rd_G (rdA_of' k5 (by rfl)) ?_)
 (refine app_of rfl ?_; try dsimp only)
 refine st_i2 k5 sz_Inode (by rfl) (by rfl) ?_; intro σ3 p3
 refine rd_G (rdA_of' p3.same (by rfl)) ?_
 (refine app_of rfl ?_; try dsimp only)
 exact hK σ3 ((g1.trans g2).putF p3 n1)
theorem s_OfNil (path : ByteArray) {K : KH} (hK : ∀ σ', Gr σ σ' -> K (.tuple ⟨[.agg ⟨[.string ⟨⟨[]⟩⟩, .int .i64 0, .bool false, .string ⟨⟨[]⟩⟩, .slice none 0 0]⟩, .int .i64 1]⟩) σ') : callW Tryz.prog 35 [.pointer none, .string path] K σ := by
 refine c35 _ _ ?_
 unfold g35
 refine al_i ?_; intro b3 σ1 g1 e1 n1
 refine call_i ?_
 refine c87 _ _ ?_
 unfold g87
 refine al_i ?_; intro c3 σ2 g2 e2 n2
 refine al_i ?_; intro c4 σ3 g3 e3 n3
 refine al_i ?_; intro c5 σ4 g4 e4 n4
 refine rd_P (rdC_of (g4.get (g3.get e2)) (by rfl)) (rd_S (rdC_of (g4.get e3) (by rfl)) ?_)
 refine call_i (s_StatNil _ _ _ ?_)
 intro σ5 g5
 (refine app_of rfl ?_; try dsimp only)
 refine al_i ?_; intro c13 σ6 g6 e6 n6
 refine st_i2 e6 sz_Inode (by rfl) (by rfl) ?_; intro σ7 p7
 have k5 := p7.get (ne_fr n6 (isSome_of (g5.get e4))) (g6.get (g5.get e4))
 have G4 : Gr σ σ4 := ((g1.trans g2).trans g3).trans g4
 have G7 : Gr σ σ7 := ((G4.trans g5).trans g6).putF p7 (none_of (G4.trans g5) n6)
 have G47 : Gr σ4 σ7 := (g5.trans g6).putF p7 (none_of g5 n6)
 refine br_t rfl ?_
 refine st_i2 k5 sz_Node (by rfl) (by rfl) ?_; intro σ8 p8
 refine rd_G (rdA_of' p8.same (by rfl)) ?_
 (refine app_of rfl ?_; try dsimp only)
 (refine app_of rfl ?_; try dsimp only)
 have f5 : σ c5 = none := none_of ((g1.trans g2).trans g3) n4
 have G8 : Gr σ σ8 := G7.putF p8 f5
 have k3 : σ8 b3 = some (.cells ⟨[.string ⟨⟨[]⟩⟩, .int .i64 0, .bool false, .string ⟨⟨[]⟩⟩, .slice none 0 0]⟩ 73 (0, 0)) := p8.get (ne_fr n4 (isSome_of (g3.get (g2.get e1)))) (G47.get (g4.get (g3.get (g2.get e1))))
 refine al_i ?_; intro b10 σ9 g9 e9 n9
 refine st_i2 e9 sz_Node (by rfl) (by rfl) ?_; intro σ10 p10
 have k3' := p10.get (ne_fr n9 (isSome_of k3)) (g9.get k3)
 have G10 : Gr σ σ10 := (G8.trans g9).putF p10 (none_of G8 n9)
 refine j_d (br_f rfl (br_t rfl ?_))
 refine st_i2 k3' sz_Node (by rfl) (by rfl) ?_; intro σ11 p11
 refine ptr_i (rd_G (rdA_of' p11.same (by rfl)) ?_)
 (refine app_of rfl ?_; try dsimp only)
 exact hK σ11 (G10.putF p11 n1)
end
end Go.Proofs.YtbjbeajbckcecaaGreatDoor

namespace Go.Proofs
open Go.Shelf
def Tryz.lays105_ren : Go.Shelf.Ren := ⟨fun | 105 => 52 | 212 => 105 | 99 => 106 | 165 => 97 | 166 => 80 | 170 => 107 | 169 => 81 | 263 => 174 | 264 => 175 | 206 => 176 | 240 => 144 | 241 => 169 | 276 => 202 | 277 => 219 | n => n, fun | 9 => 9 | 3 => 3 | 4 => 4 | 20 => 20 | 0 => 0 | 46 => 155 | 109 => 156 | 5 => 5 | 72 => 121 | 76 => 124 | 51 => 220 | 146 => 221 | 53 => 223 | 148 => 224 | 70 => 119 | 37 => 56 | 75 => 123 | 127 => 197 | 164 => 242 | 80 => 126 | n => n, fun | n => n⟩
theorem Tryz.lays105 : Go.Proofs.Lays.n105 Tryz.prog Tryz.lays105_ren := {
 mixed := by kernel_rfl
 f99 := Tryz.func106.trans (congrArg some (by kernel_rfl))
 f105 := Tryz.func52.trans (congrArg some (by kernel_rfl))
 f165 := Tryz.func97.trans (congrArg some (by kernel_rfl))
 f166 := Tryz.func80.trans (congrArg some (by kernel_rfl))
 f169 := Tryz.func81.trans (congrArg some (by kernel_rfl))
 f170 := Tryz.func107.trans (congrArg some (by kernel_rfl))
 f206 := Tryz.func176.trans (congrArg some (by kernel_rfl))
 f212 := Tryz.func105.trans (congrArg some (by kernel_rfl))
 f240 := Tryz.func144.trans (congrArg some (by kernel_rfl))
 f241 := Tryz.func169.trans (congrArg some (by kernel_rfl))
 f263 := Tryz.func174.trans (congrArg some (by kernel_rfl))
 f264 := Tryz.func175.trans (congrArg some (by kernel_rfl))
 f276 := Tryz.func202.trans (congrArg some (by kernel_rfl))
 f277 := Tryz.func219.trans (congrArg some (by kernel_rfl))
 t0 := Tryz.underlying0
 a0 := Tryz.isAgg0
 z0 := Tryz.sizeOf0
 v0 := Tryz.zeroValue0
 t3 := Tryz.underlying3
 a3 := Tryz.isAgg3
 z3 := Tryz.sizeOf3
 v3 := Tryz.zeroValue3
 t4 := Tryz.underlying4
 a4 := Tryz.isAgg4
 z4 := Tryz.sizeOf4
 v4 := Tryz.zeroValue4
 t5 := Tryz.underlying5
 a5 := Tryz.isAgg5
 z5 := Tryz.sizeOf5
 v5 := Tryz.zeroValue5
 t9 := Tryz.underlying9
 a9 := Tryz.isAgg9
 z9 := Tryz.sizeOf9
 v9 := Tryz.zeroValue9
 t20 := Tryz.underlying20
 a20 := Tryz.isAgg20
 z20 := Tryz.sizeOf20
 v20 := Tryz.zeroValue20
 t37 := Tryz.underlying56
 a37 := Tryz.isAgg56
 z37 := Tryz.sizeOf56
 v37 := Tryz.zeroValue56
 t46 := Tryz.underlying155
 a46 := Tryz.isAgg155
 z46 := Tryz.sizeOf155
 v46 := Tryz.zeroValue155
 t51 := Tryz.underlying220
 a51 := Tryz.isAgg220
 z51 := Tryz.sizeOf220
 v51 := Tryz.zeroValue220
 t53 := Tryz.underlying223
 a53 := Tryz.isAgg223
 z53 := Tryz.sizeOf223
 v53 := Tryz.zeroValue223
 t70 := Tryz.underlying119
 a70 := Tryz.isAgg119
 z70 := Tryz.sizeOf119
 v70 := Tryz.zeroValue119
 t72 := Tryz.underlying121
 a72 := Tryz.isAgg121
 z72 := Tryz.sizeOf121
 v72 := Tryz.zeroValue121
 t75 := Tryz.underlying123
 a75 := Tryz.isAgg123
 z75 := Tryz.sizeOf123
 v75 := Tryz.zeroValue123
 t76 := Tryz.underlying124
 a76 := Tryz.isAgg124
 z76 := Tryz.sizeOf124
 v76 := Tryz.zeroValue124
 t109 := Tryz.underlying156
 a109 := Tryz.isAgg156
 z109 := Tryz.sizeOf156
 v109 := Tryz.zeroValue156
 t127 := Tryz.underlying197
 a127 := Tryz.isAgg197
 z127 := Tryz.sizeOf197
 v127 := Tryz.zeroValue197
 t146 := Tryz.underlying221
 a146 := Tryz.isAgg221
 z146 := Tryz.sizeOf221
 v146 := Tryz.zeroValue221
 t148 := Tryz.underlying224
 a148 := Tryz.isAgg224
 z148 := Tryz.sizeOf224
 v148 := Tryz.zeroValue224
 t164 := Tryz.underlying242
 a164 := Tryz.isAgg242
 z164 := Tryz.sizeOf242
 v164 := Tryz.zeroValue242 }
end Go.Proofs

set_option maxRecDepth 100000
namespace Go.Proofs.YtbjbeajbckcecaaGreatDoor
open Go Go.HL Go.Wk
theorem rep_extra : Go.Proofs.Builder.Extra Tryz.prog Tryz.lays105_ren := { sizeBuilder := by kernel_rfl, liesBuilder := by kernel_rfl, t5 := Tryz.underlying5, a5 := Tryz.isAgg5, z5 := Tryz.sizeOf5, v5 := Tryz.zeroValue5, infoByte := by kernel_rfl, cellsByte := by kernel_rfl, sizeByte := by kernel_rfl, neB5 := by decide }
theorem s_Repeat (s : ByteArray) (c : Nat) (hc : c <= 1000000) (hs : s.size * c <= 1000000) {σ : H} {K : KH} (hK : K (.string ⟨⟨Lib.repeatL s.data.toList c⟩⟩) σ) : callW Tryz.prog 52 [.string s, .int .i64 (c : Int)] K σ := by
 intro w hw
 refine callsIn_wide.2 ((Any.strings_Repeat Tryz.lays105 rep_extra s c w (by omega) (by omega)).mono ?_)
 rintro en w' ⟨rfl, hb⟩
 exact ⟨_, rfl, σ, ext_below hw hb, hK⟩
end Go.Proofs.YtbjbeajbckcecaaGreatDoor

namespace Go.Wk
open Go Go.HL
structure Rn where
 t : ByteArray
 q : Bool
 s : Bool
def Rn.cells (r : Rn) : List Value := [.string r.t, .bool r.q, .bool r.s]
structure SpS where
 out : List (List Rn)
 now : List Rn
 bare : Bool
 behind : Bool
def SpS.n (x : SpS) : Nat := x.out.length + x.now.length
end Go.Wk

namespace Go.Wk
open Go Go.HL
variable {A : AT}
end Go.Wk

namespace Go.Wk
open Go Go.HL
variable {A : AT}
theorem names_mem' (h : Inv A) {d : Int} {s : ByteArray} (hm : s ∈ A.names d) : ∃ j, A.find d s = some j := by
 unfold AT.names at hm
 cases hn : A.get d with
 | none => rw [hn] at hm; simp at hm
 | some n =>
  rw [hn] at hm
  simp only [sortN, List.mem_map] at hm
  obtain ⟨l, hl, rfl⟩ := hm
  have := (sortB_perm _).mem_iff.1 hl
  obtain ⟨k, hk, rfl⟩ := List.mem_map.1 this
  show ∃ j, A.find d k = some j
  unfold AT.find; rw [hn]
  cases hlk : lk k n.ents with
  | some j => exact ⟨j, hlk⟩
  | none => exact absurd hk (lk_none_iff.1 hlk)
end Go.Wk

namespace Go.Wk
open Go Go.HL
def six : List ByteArray := [⟨⟨[97]⟩⟩, ⟨⟨[98]⟩⟩, ⟨⟨[99]⟩⟩, ⟨⟨[66]⟩⟩, ⟨⟨[97, 46, 98]⟩⟩, ⟨⟨[122]⟩⟩]
def pN : ByteArray := ⟨⟨[112]⟩⟩
def qN : ByteArray := ⟨⟨[113]⟩⟩
def rN : ByteArray := ⟨⟨[114]⟩⟩
def fl (data k : ByteArray) : AN := ⟨1, 420, data ++ k, 1, 0, []⟩
def drN (es : List (ByteArray × Int)) : AN := ⟨2, 493, ⟨⟨[]⟩⟩, 1, 1, es⟩
def DD (d : Int) : Prop := d = 2 \/ d = 3 \/ d = 4
structure Ords (data : ByteArray) (A : AT) (E : Int -> List (ByteArray × Int)) (m : Nat) : Prop where
 inv : Inv A
 bd : Bd (10 + m) A
 rt : A.get 1 = some ⟨2, 493, ⟨⟨[]⟩⟩, 1, 1, [(pN, 2), (qN, 3), (rN, 4)]⟩
 nd : ∀ d, DD d -> A.get d = some (drN (E d))
 he : ∀ d, DD d -> ∀ k i, lk k (E d) = some i -> k ∈ six /\ 4 < i /\ A.get i = some (fl data k)
 dj : ∀ d d' k k' i, DD d -> DD d' -> lk k (E d) = some i -> lk k' (E d') = some i -> d = d'
 qi : A.qi = 100
 qb : A.qb = 9000
 ui : A.ui <= 4 + m
 ub : A.ub <= 63 * m
variable {A : AT} {data : ByteArray} {E : Int -> List (ByteArray × Int)} {m : Nat}
theorem Ords.find (h : Ords data A E m) {d : Int} (hd : DD d) (k : ByteArray) : A.find d k = lk k (E d) := by
 unfold AT.find; rw [h.nd d hd]; rfl
theorem Ords.same (h : Ords data A E m) {A' : AT} {m' : Nat} (hi : Inv A') (hb : Bd (10 + m') A') (hg : ∀ j, A'.get j = A.get j) (q1 : A'.qi = A.qi) (q2 : A'.qb = A.qb) (u1 : A'.ui <= 4 + m') (u2 : A'.ub <= 63 * m') : Ords data A' E m' :=
 ⟨hi, hb, by rw [hg]; exact h.rt, fun d hd => by rw [hg]; exact h.nd d hd, fun d hd k i hk => by rw [hg]; exact h.he d hd k i hk, h.dj, by rw [q1]; exact h.qi, by rw [q2]; exact h.qb, u1, u2⟩
end Go.Wk

namespace Go.Wk
open Go Go.HL
theorem sortN_perm (l : List ByteArray) : (sortN l).Perm l := by
 unfold sortN
 have h := (sortB_perm (l.map fun s => s.data.toList)).map fun x => (⟨⟨x⟩⟩ : ByteArray)
 have e : ((l.map fun s => s.data.toList).map fun x => (⟨⟨x⟩⟩ : ByteArray)) = l := by
  rw [List.map_map]
  conv => rhs; rw [<- List.map_id l]
  apply List.map_congr_left
  intro s _
  rfl
 rw [e] at h
 exact h
variable {A : AT} {data : ByteArray} {E : Int -> List (ByteArray × Int)} {m : Nat}
def o0 : AT := newT 100 9000
def o1 : AT := (o0.mkdirF ⟨⟨[47]⟩⟩ pN).2
def o2 : AT := (o1.mkdirF ⟨⟨[47]⟩⟩ qN).2
def o3 : AT := (o2.mkdirF ⟨⟨[47]⟩⟩ rN).2
end Go.Wk

namespace Go.Wk
open Go Go.HL
end Go.Wk

namespace Go.Wk
open Go Go.HL
section
variable {A : AT}
def NoLink (A : AT) : Prop := ∀ i n, A.get i = some n -> n.kind ≠ 3
theorem NoLink.kind (h : NoLink A) (i : Int) : A.kind i ≠ 3 := by
 unfold AT.kind
 cases hg : A.get i with
 | none => decide
 | some n => exact h i n hg
def rootP : Pl := ⟨1, ⟨⟨[]⟩⟩, 1, true⟩
theorem walk_root (A : AT) : A.walk 10 1 ⟨⟨[47]⟩⟩ true 8 = (0, rootP, 8) := by
 rw [AT.walk]
 have h1 : mayE ⟨⟨[47]⟩⟩ = 0 := by decide +kernel
 have h2 : headIs 47 ⟨⟨[47]⟩⟩ = true := by decide +kernel
 have h3 : partsB ⟨⟨[47]⟩⟩ = [] := by decide +kernel
 rw [h1, h2, h3]
 simp [AT.steps, rootP]
theorem namedE_ok {s : ByteArray} (h : namedE s = 0) : nameOk s /\ stepOk s := by
 unfold namedE at h
 split at h
 ·cases h
 ·rename_i h1
  split at h
  ·rename_i h2
   simp only [Bool.and_eq_true, Bool.not_eq_true'] at h2
   obtain ⟨⟨⟨a, b⟩, c⟩, d⟩ := h2
   refine ⟨⟨?_, ?_, d⟩, ?_, by omega⟩
   ·intro e; rw [e] at a; exact absurd a (by decide)
   ·intro e; rw [e] at b; exact absurd b (by decide)
   ·intro e; rw [e] at c; exact absurd c (by decide)
  ·cases h
variable (hI : Inv A) (hL : NoLink A)
include hI in
theorem find_name {d : Int} {s : ByteArray} {j : Int} (hf : A.find d s = some j) : nameOk s /\ stepOk s /\ ∃ m, A.get j = some m := by
 obtain ⟨n, hn, _, hl, _, m, hm, _⟩ := hI.find hf
 obtain ⟨a, b⟩ := namedE_ok (hI.ent d n s j hn hl).1
 exact ⟨a, b, m, hm⟩
end
section
variable {A : AT} (hI : Inv A) (hL : NoLink A)
include hI in
theorem names_nodup (d : Int) : (A.names d).Nodup := by
 unfold AT.names
 cases hg : A.get d with
 | none => exact List.nodup_nil
 | some n => exact (sortN_perm _).nodup_iff.2 (hI.enod d n hg)
end
end Go.Wk

namespace Go.Wk
open Go Go.HL
section
variable {A : AT}
theorem steps_more {go : Int -> ByteArray -> Int -> Int × Pl × Int} (fo : Bool) (more : List ByteArray) : ∀ (l : List ByteArray) (p q : Pl) (h h' : Int), A.steps go false l p h = (0, q, h') -> q.there = true -> A.kind q.ino ≠ 3 -> A.steps go fo (l ++ more) p h = A.steps go fo more q h' := by
 intro l
 induction l with
 | nil =>
  intro p q h h' e _ _
  simp only [AT.steps, Prod.mk.injEq, true_and] at e
  obtain ⟨rfl, rfl⟩ := e; rfl
 | cons name rest ih =>
  intro p q h h' e hq hk
  rw [AT.steps] at e
  rw [List.cons_append, AT.steps]
  by_cases h1 : p.there = false
  ·rw [if_pos h1] at e; simp at e
  rw [if_neg h1] at e ⊢
  by_cases h2 : A.kind p.ino ≠ 2
  ·rw [if_pos h2] at e; simp at e
  rw [if_neg h2] at e ⊢
  by_cases h3 : sEq name ⟨⟨[46, 46]⟩⟩ = true
  ·rw [if_pos h3] at e ⊢; exact ih _ _ _ _ e hq hk
  rw [if_neg h3] at e ⊢
  by_cases h4 : name.size > 56
  ·rw [if_pos h4] at e; simp at e
  rw [if_neg h4] at e ⊢
  simp only at e ⊢
  cases rest with
  | nil =>
   rw [if_pos (.inr (.inl rfl))] at e
   simp only [AT.steps, Prod.mk.injEq, true_and] at e
   obtain ⟨rfl, rfl⟩ := e
   rw [if_pos (.inr (.inr hk))]; rfl
  | cons r rs =>
   by_cases hC : (A.find p.ino name).isSome = false \/ A.kind ((A.find p.ino name).getD 0) ≠ 3
   ·rw [if_pos (by rcases hC with h | h; exact .inl h; exact .inr (.inr h))] at e
    rw [if_pos (by rcases hC with h | h; exact .inl h; exact .inr (.inr h))]
    exact ih _ _ _ _ e hq hk
   ·rw [if_neg (by rintro (h | h | h); exact hC (.inl h); simp at h; exact hC (.inr h))] at e
    rw [if_neg (by rintro (h | h | h); exact hC (.inl h); simp at h; exact hC (.inr h))]
    by_cases h5 : h - 1 < 0
    ·rw [if_pos h5] at e; simp at e
    rw [if_neg h5] at e ⊢
    by_cases h6 : (go p.ino (A.data ((A.find p.ino name).getD 0)) (h - 1)).1 ≠ 0
    ·rw [if_pos h6] at e
     exact absurd (congrArg Prod.fst e) h6
    rw [if_neg h6] at e ⊢
    exact ih _ _ _ _ e hq hk
theorem Inv.kind1 (hI : Inv A) : A.kind 1 = 2 := by
 obtain ⟨n, h1, h2, _⟩ := hI.root
 unfold AT.kind; rw [h1]; exact h2
theorem loc_slash (hI : Inv A) {p : ByteArray} (hp : sEq p ⟨⟨[]⟩⟩ = false) (fo : Bool) : A.locate ⟨⟨[47]⟩⟩ p fo = ((A.walk 10 1 p fo 8).1, (A.walk 10 1 p fo 8).2.1) := by
 unfold AT.locate
 rw [hp, walk_root]
 have h1 : headIs 47 ⟨⟨[47]⟩⟩ = true := by decide
 have h2 : A.kind rootP.ino = 2 := hI.kind1
 cases hh : headIs 47 p with
 | true => simp
 | false => simp only [h1, h2]; simp [rootP]
theorem walk_steps {p : ByteArray} (h0 : mayE p = 0) (fo : Bool) : A.walk 10 1 p fo 8 = A.steps (fun d s h' => A.walk 9 d s true h') fo (partsB p) rootP 8 := by
 rw [AT.walk, if_neg (by rw [h0]; simp)]
 have : (if headIs 47 p = true then (1 : Int) else 1) = 1 := by split <;> rfl
 simp only [this]; rfl
theorem with_inv (hI : Inv A) {p : ByteArray} {fo : Bool} (h : (A.with_ ⟨⟨[47]⟩⟩ p fo).1 = 0) : mayE p = 0 /\ sEq p ⟨⟨[]⟩⟩ = false /\ ∃ (q : Pl) (h' : Int) (n : AN), A.steps (fun d s h' => A.walk 9 d s true h') fo (partsB p) rootP 8 = (0, q, h') /\ q.there = true /\ A.get q.ino = some n /\ A.with_ ⟨⟨[47]⟩⟩ p fo = (0, q.ino, n.inode) := by
 unfold AT.with_ at h ⊢
 have hp : sEq p ⟨⟨[]⟩⟩ = false := by
  cases e : sEq p ⟨⟨[]⟩⟩ with
  | false => rfl
  | true =>
   have : A.locate ⟨⟨[47]⟩⟩ p fo = (5, Pl.z) := by unfold AT.locate; rw [e]; rfl
   rw [this] at h; simp at h
 rw [loc_slash hI hp fo] at h ⊢
 have h0 : mayE p = 0 := by
  apply Classical.byContradiction
  intro hc
  have : A.walk 10 1 p fo 8 = (mayE p, Pl.z, 8) := by rw [AT.walk, if_pos hc]
  rw [this] at h
  simp only [if_pos hc] at h
  exact hc h
 refine ⟨h0, hp, ?_⟩
 rw [walk_steps h0] at h ⊢
 generalize A.steps (fun d s h' => A.walk 9 d s true h') fo (partsB p) rootP 8 = r at h ⊢
 obtain ⟨e, q, h'⟩ := r
 simp only at h ⊢
 by_cases he : e ≠ 0
 ·rw [if_pos he] at h; exact absurd h he
 ·have he : e = 0 := by simpa using he
  subst he
  rw [if_neg (by simp)] at h
  by_cases ht : q.there = false
  ·rw [if_pos ht] at h; simp at h
  ·rw [if_neg ht] at h
   cases hg : A.get q.ino with
   | none => rw [hg] at h; simp at h
   | some n => exact ⟨q, h', n, rfl, by simpa using ht, hg, by rw [if_neg (by simp), if_neg ht]⟩
theorem with_of (hI : Inv A) {p : ByteArray} {fo : Bool} {q : Pl} {h' : Int} (h0 : mayE p = 0) (hp : sEq p ⟨⟨[]⟩⟩ = false) (h : A.steps (fun d s h' => A.walk 9 d s true h') fo (partsB p) rootP 8 = (0, q, h')) : A.with_ ⟨⟨[47]⟩⟩ p fo = if q.there = false then ((5 : Int), (0 : Int), IN.z) else match A.get q.ino with
 | none => ((5 : Int), (0 : Int), IN.z)
 | some n => ((0 : Int), q.ino, n.inode) := by
 unfold AT.with_
 rw [loc_slash hI hp fo, walk_steps h0, h]
 cases ht : q.there <;> cases hg : A.get q.ino <;> simp [ht, hg]
theorem kid_with (hI : Inv A) {p n : ByteArray} {d : Int} {m : AN} (h : A.with_ ⟨⟨[47]⟩⟩ p false = (0, d, m.inode)) (hg : A.get d = some m) (hk : m.kind = 2) (hn : nameOk n) (hs : stepOk n) (he : (A.with_ ⟨⟨[47]⟩⟩ (kidP p n) false).1 = 0) :
 ∃ j k, A.find d n = some j /\ A.get j = some k /\ A.with_ ⟨⟨[47]⟩⟩ (kidP p n) false = (0, j, k.inode) := by
 obtain ⟨h0, hp, q, h', n1, e1, e2, e3, e4⟩ := with_inv hI (by rw [h])
 rw [h] at e4
 simp only [Prod.mk.injEq, true_and] at e4
 obtain ⟨e4, _⟩ := e4
 have hkd : A.kind q.ino = 2 := by unfold AT.kind; rw [<- e4, hg]; exact hk
 obtain ⟨k0, kp, q2, h2, n2, f1, f2, f3, f4⟩ := with_inv hI he
 rw [parts_kid hn, steps_more false [n] _ _ _ _ _ e1 e2 (by omega)] at f1
 rw [AT.steps, if_neg (by rw [e2]; simp), if_neg (by omega), if_neg (by rw [sEq_false hs.1]; simp), if_neg (by have := hs.2; omega)] at f1
 simp only at f1
 rw [if_pos (.inr (.inl rfl))] at f1
 simp only [AT.steps, Prod.mk.injEq, true_and] at f1
 obtain ⟨rfl, _⟩ := f1
 simp only at f2 f3 f4
 cases hf : A.find q.ino n with
 | none => rw [hf] at f2; simp at f2
 | some j =>
  rw [hf] at f3 f4
  exact ⟨j, n2, by rw [e4]; exact hf, f3, f4⟩
theorem list_with (hI : Inv A) {p : ByteArray} {d : Int} {m : AN} (h : A.with_ ⟨⟨[47]⟩⟩ p false = (0, d, m.inode)) (hg : A.get d = some m) (hk : m.kind = 2) : A.listF ⟨⟨[47]⟩⟩ p = (0, A.names d) := by
 obtain ⟨h0, hp, q, h', n1, e1, e2, e3, e4⟩ := with_inv hI (by rw [h])
 rw [h] at e4
 simp only [Prod.mk.injEq, true_and] at e4
 obtain ⟨e4, _⟩ := e4
 have hkd : A.kind q.ino = 2 := by unfold AT.kind; rw [<- e4, hg]; exact hk
 have e5 := steps_more true [] _ _ _ _ _ e1 e2 (by omega)
 rw [List.append_nil] at e5
 have e6 := with_of hI h0 hp (q := q) (h' := h') e5
 rw [if_neg (by rw [e2]; simp), <- e4, hg] at e6
 unfold AT.listF
 rw [e6]
 have : m.inode.kind = 2 := hk
 simp [this]
def AT.cnt (A : AT) (D : Nat) : Nat -> Int -> Nat
 | 0, _ => 1
 | f + 1, d => 1 + D + ((A.names d).map fun n => 56 + AT.cnt A D f ((A.find d n).getD 0)).sum
theorem named_total (n : ByteArray) (t : Tr) : (t.named n).total <= n.size + t.total := by
 obtain ⟨nm, k, e, d, kids⟩ := t
 simp only [Tr.named, Tr.total]; omega
theorem z_total : Tr.z.total = 1 := rfl
theorem names_find (hI : Inv A) {d : Int} {n : ByteArray} (h : n ∈ A.names d) : ∃ j, A.find d n = some j /\ nameOk n /\ stepOk n /\ n.size <= 56 := by
 obtain ⟨j, hj⟩ := names_mem' hI h
 obtain ⟨o1, o2, _⟩ := find_name hI hj
 exact ⟨j, hj, o1, o2, by have := o2.2; omega⟩
theorem take_cnt (hI : Inv A) {D : Nat} (hD : A.ub <= D) : ∀ (f : Nat) (p : ByteArray) (d : Int) (m : AN), A.with_ ⟨⟨[47]⟩⟩ p false = (0, d, m.inode) -> A.get d = some m -> (A.take f p).2.total <= A.cnt D f d := by
 intro f
 induction f with
 | zero => intro p d m _ _; exact Nat.le_refl _
 | succ f ih =>
  intro p d m h hg
  have hsz := hI.size_le hg
  have hst : A.stat ⟨⟨[47]⟩⟩ p false = (0, m.inode) := by unfold AT.stat; rw [h]
  unfold AT.take AT.cnt
  rw [hst]
  simp only [ne_eq, not_true_eq_false, if_false]
  by_cases hk : m.kind = 2
  ·have hk' : m.inode.kind = 2 := hk
   rw [if_pos hk', list_with hI h hg hk]
   simp only [not_true_eq_false, if_false]
   have key : ∀ l : List ByteArray, (∀ n ∈ l, n ∈ A.names d) -> Tr.totalRow (takeRow (A.take f) p l).2 <= (l.map fun n => 56 + A.cnt D f ((A.find d n).getD 0)).sum := by
    intro l
    induction l with
    | nil => intro _; simp [takeRow, Tr.totalRow]
    | cons n r ihl =>
     intro hl
     obtain ⟨j, hj, o1, o2, o3⟩ := names_find hI (hl n (List.mem_cons_self ..))
     have ihr := ihl fun x hx => hl x (List.mem_cons_of_mem _ hx)
     rw [takeRow, List.map_cons, List.sum_cons]
     simp only
     split
     ·simp [Tr.totalRow]
     ·rename_i h0
      have h0 : (A.take f (kidP p n)).1 = 0 := by simpa using h0
      have ht : (A.take f (kidP p n)).2.total <= A.cnt D f ((A.find d n).getD 0) := by
       cases f with
       | zero => exact Nat.le_refl _
       | succ f =>
        have hw : (A.with_ ⟨⟨[47]⟩⟩ (kidP p n) false).1 = 0 := by
         apply Classical.byContradiction
         intro hc
         rw [AT.take] at h0
         have : (A.stat ⟨⟨[47]⟩⟩ (kidP p n) false).1 ≠ 0 := hc
         simp only [if_pos this] at h0
         exact this h0
        obtain ⟨j', k, q1, q2, q3⟩ := kid_with hI h hg hk o1 o2 hw
        rw [q1]
        exact ih _ _ _ q3 q2
      have := named_total n (A.take f (kidP p n)).2
      simp only [Tr.totalRow]
      omega
   have := key (A.names d) fun _ h => h
   have hd : m.inode.data.size = m.data.size := rfl
   simp only [Tr.total]
   have he : (⟨⟨[]⟩⟩ : ByteArray).size = 0 := rfl
   omega
  ·have hk' : ¬ m.inode.kind = 2 := hk
   rw [if_neg hk']
   have hd : m.inode.data.size = m.data.size := rfl
   have he : (⟨⟨[]⟩⟩ : ByteArray).size = 0 := rfl
   simp only [Tr.total, Tr.totalRow]
   omega
def AT.subs (A : AT) (d : Int) : List Int := ((A.names d).map fun n => (A.find d n).getD 0).filter fun j => A.kind j == 2
theorem refs_two {es : List (ByteArray × Int)} (hn : (keysL es).Nodup) {s t : ByteArray} {j : Int} (h1 : lk s es = some j) (h2 : lk t es = some j) (hne : s ≠ t) : 2 <= sumF (one j) es := by
 have := sumF_two (f := one j) hn h1 h2 hne
 unfold one at this ⊢
 simp at this
 exact this
theorem subs_mem (hI : Inv A) {d j : Int} (h : j ∈ A.subs d) : ∃ n, A.find d n = some j /\ A.kind j = 2 := by
 unfold AT.subs at h
 obtain ⟨h1, h2⟩ := List.mem_filter.1 h
 obtain ⟨n, hn, rfl⟩ := List.mem_map.1 h1
 obtain ⟨j, hj, _⟩ := names_find hI hn
 rw [hj] at h2 ⊢
 exact ⟨n, hj, by simpa using h2⟩
theorem subs_up (hI : Inv A) {d j : Int} (h : j ∈ A.subs d) : A.upOf j = d := by
 obtain ⟨n, hn, hk⟩ := subs_mem hI h
 obtain ⟨_, _, _, _, _, m, hm, hu⟩ := hI.find hn
 unfold AT.kind at hk
 rw [hm] at hk
 unfold AT.upOf; rw [hm]; exact hu hk
theorem find_inj (hI : Inv A) {d j : Int} {s t : ByteArray} (h1 : A.find d s = some j) (h2 : A.find d t = some j) (hk : A.kind j = 2) : s = t := by
 apply Classical.byContradiction
 intro hne
 obtain ⟨n, hn, _, hl, hj1, m, hm, _⟩ := hI.find h1
 obtain ⟨n', hn', _, hl', _⟩ := hI.find h2
 rw [hn] at hn'; cases hn'
 have h3 := refs_two (hI.enod d n hn) hl hl' hne
 have h4 := sumF_ge (f := fun n : AN => sumF (one j) n.ents) (l := A.nodes) (k := d) (v := n) hn
 have h5 := (hI.links j m hm hj1).2.2 (by unfold AT.kind at hk; rw [hm] at hk; exact hk)
 have h6 : A.refs j = sumF (fun n : AN => sumF (one j) n.ents) A.nodes := rfl
 omega
theorem subs_nodup (hI : Inv A) (d : Int) : (A.subs d).Nodup := by
 unfold AT.subs
 have hn := names_nodup hI d
 have hm : ∀ n ∈ A.names d, ∃ j, A.find d n = some j := fun n h => let ⟨j, hj, _⟩ := names_find hI h; ⟨j, hj⟩
 generalize A.names d = l at hn hm
 induction l with
 | nil => exact List.nodup_nil
 | cons n r ih =>
  obtain ⟨h1, h2⟩ := List.nodup_cons.1 hn
  have ih := ih h2 fun x hx => hm x (List.mem_cons_of_mem _ hx)
  rw [List.map_cons, List.filter_cons]
  obtain ⟨j, hj⟩ := hm n (List.mem_cons_self ..)
  rw [hj]
  split
  ·rename_i hk
   refine List.nodup_cons.2 ⟨fun hc => ?_, ih⟩
   obtain ⟨c1, _⟩ := List.mem_filter.1 hc
   obtain ⟨n', hn', e⟩ := List.mem_map.1 c1
   obtain ⟨j', hj'⟩ := hm n' (List.mem_cons_of_mem _ hn')
   rw [hj'] at e
   have e : j' = j := e
   subst e
   have := find_inj hI hj hj' (by simpa using hk)
   subst this; exact h1 hn'
  ·exact ih
theorem next_nodup (hI : Inv A) : ∀ {l : List Int}, l.Nodup -> (l.flatMap A.subs).Nodup := by
 intro l
 induction l with
 | nil => intro _; exact List.nodup_nil
 | cons d r ih =>
  intro h
  obtain ⟨h1, h2⟩ := List.nodup_cons.1 h
  rw [List.flatMap_cons, List.nodup_append]
  refine ⟨subs_nodup hI d, ih h2, ?_⟩
  intro a ha b hb e
  subst e
  obtain ⟨d', hd', hb⟩ := List.mem_flatMap.1 hb
  have := subs_up hI ha
  have := subs_up hI hb
  have e : d = d' := by omega
  subst e; exact h1 hd'
theorem nodup_len : ∀ (N : Nat) {l : List Int}, l.Nodup -> (∀ x ∈ l, 1 <= x /\ x <= (N : Int)) -> l.length <= N := by
 intro N
 induction N with
 | zero =>
  intro l _ h
  cases l with
  | nil => exact Nat.le_refl _
  | cons x r => have := h x (List.mem_cons_self ..); omega
 | succ N ih =>
  intro l hn h
  have h1 := ih (l := l.filter fun x => x != ((N + 1 : Nat) : Int)) (hn.sublist List.filter_sublist) (fun x hx => by
   obtain ⟨a, b⟩ := List.mem_filter.1 hx
   have := h x a
   simp at b
   omega)
  have h2 : l.length <= (l.filter fun x => x != ((N + 1 : Nat) : Int)).length + 1 := by
   clear h1 h ih
   induction l with
   | nil => simp
   | cons x r ihr =>
    obtain ⟨n1, n2⟩ := List.nodup_cons.1 hn
    have := ihr n2
    rw [List.filter_cons]
    by_cases e : x = ((N + 1 : Nat) : Int)
    ·have hf : (r.filter fun x => x != ((N + 1 : Nat) : Int)) = r := by
      rw [List.filter_eq_self]
      intro y hy
      have : y ≠ x := fun e => n1 (e ▸ hy)
      rw [e] at this
      simpa using this
     rw [hf]
     have : (x != ((N + 1 : Nat) : Int)) = false := by simp [e]
     rw [this]; simp
    ·have : (x != ((N + 1 : Nat) : Int)) = true := by simpa using e
     rw [this]; simp only [if_true, List.length_cons]; omega
  omega
theorem level_len (hI : Inv A) {N : Nat} (hB : Bd N A) {l : List Int} (hn : l.Nodup) (hl : ∀ d ∈ l, A.kind d = 2) : l.length <= N := by
 refine nodup_len N hn fun x hx => ?_
 have := hl x hx
 unfold AT.kind at this
 cases hg : A.get x with
 | none => rw [hg] at this; cases this
 | some m =>
  have h1 := hI.low x m hg
  have := hB.last
  omega
theorem names_len {N : Nat} (hB : Bd N A) (d : Int) : (A.names d).length <= N := by
 unfold AT.names
 cases hg : A.get d with
 | none => simp
 | some n =>
  have h1 := (sortN_perm (keysL n.ents)).length_eq
  have h2 := hB.ents d n hg
  show (sortN (keysL n.ents)).length <= N; rw [h1]; unfold keysL; rw [List.length_map]; exact h2
theorem leaf_cnt (hI : Inv A) (D f : Nat) {j : Int} (h : A.kind j ≠ 2) : A.cnt D f j <= 1 + D := by
 cases f with
 | zero => unfold AT.cnt; omega
 | succ f =>
  have : A.names j = [] := by
   unfold AT.names
   cases hg : A.get j with
   | none => rfl
   | some n =>
    have := hI.file j n hg (by unfold AT.kind at h; rw [hg] at h; exact h)
    simp only [this]; rfl
  unfold AT.cnt; rw [this]; simp
theorem row_cnt (hI : Inv A) (D f : Nat) : ∀ l : List Int, (l.map fun j => 56 + A.cnt D f j).sum <= l.length * (57 + D) + ((l.filter fun j => A.kind j == 2).map (A.cnt D f)).sum := by
 intro l
 induction l with
 | nil => simp
 | cons j r ih =>
  rw [List.map_cons, List.sum_cons, List.length_cons, Nat.succ_mul, List.filter_cons]
  by_cases h : A.kind j = 2
  ·have : (A.kind j == 2) = true := by simpa using h
   rw [this]; simp only [if_true, List.map_cons, List.sum_cons]; omega
  ·have : (A.kind j == 2) = false := by simpa using h
   have h2 := leaf_cnt hI D f h
   rw [this]; simp only [Bool.false_eq_true, if_false]; omega
theorem level_cnt (hI : Inv A) {N : Nat} (hB : Bd N A) (D f : Nat) : ∀ l : List Int, (l.map (A.cnt D (f + 1))).sum <= l.length * (1 + D + N * (57 + D)) + ((l.flatMap A.subs).map (A.cnt D f)).sum := by
 intro l
 induction l with
 | nil => simp
 | cons d r ih =>
  rw [List.map_cons, List.sum_cons, List.length_cons, Nat.succ_mul, List.flatMap_cons, List.map_append, List.sum_append]
  have h1 := row_cnt hI D f ((A.names d).map fun n => (A.find d n).getD 0)
  rw [List.map_map, List.length_map] at h1
  have h2 : (A.names d).length * (57 + D) <= N * (57 + D) := Nat.mul_le_mul_right _ (names_len hB d)
  have h3 : A.cnt D (f + 1) d = 1 + D + ((A.names d).map ((fun j => 56 + A.cnt D f j) ∘ fun n => (A.find d n).getD 0)).sum := rfl
  rw [h3]
  have h4 : (((A.names d).map fun n => (A.find d n).getD 0).filter fun j => A.kind j == 2) = A.subs d := rfl
  rw [h4] at h1
  omega
theorem levels_cnt (hI : Inv A) {N : Nat} (hB : Bd N A) (D : Nat) : ∀ (f : Nat) (l : List Int), l.Nodup -> (∀ d ∈ l, A.kind d = 2) -> (l.map (A.cnt D f)).sum <= (f + 1) * (N * (1 + D + N * (57 + D))) + N := by
 intro f
 induction f with
 | zero =>
  intro l hn hl
  have h1 := level_len hI hB hn hl
  have h2 : (l.map (A.cnt D 0)).sum <= l.length := by
   clear h1 hn hl
   induction l with
   | nil => simp
   | cons d r ih => rw [List.map_cons, List.sum_cons, List.length_cons]; unfold AT.cnt at ih ⊢; omega
  omega
 | succ f ih =>
  intro l hn hl
  have h1 := level_len hI hB hn hl
  have h2 := level_cnt hI hB D f l
  have h3 := ih (l.flatMap A.subs) (next_nodup hI hn) (fun d hd => by
   obtain ⟨d', _, hd⟩ := List.mem_flatMap.1 hd
   obtain ⟨_, _, h⟩ := subs_mem hI hd; exact h)
  have h4 : l.length * (1 + D + N * (57 + D)) <= N * (1 + D + N * (57 + D)) := Nat.mul_le_mul_right _ h1
  rw [Nat.succ_mul (f + 1)]
  omega
theorem take_small (hI : Inv A) {N : Nat} (hB : Bd N A) (hN : N <= 100) (hq : A.qb <= 10000) (p : ByteArray) : (A.take 300 p).2.total <= 1000000000000 := by
 have hub := hI.bq
 by_cases h0 : (A.with_ ⟨⟨[47]⟩⟩ p false).1 = 0
 ·obtain ⟨_, _, q, h', m, _, _, hg, hw⟩ := with_inv hI h0
  have h1 := take_cnt hI (D := 10000) (by omega) 300 p q.ino m hw hg
  by_cases hk : A.kind q.ino = 2
  ·have h2 := levels_cnt hI hB 10000 300 [q.ino] (by simp) (by intro d hd; simp at hd; rw [hd]; exact hk)
   have h3 : N * (1 + 10000 + N * (57 + 10000)) <= 100 * (1 + 10000 + 100 * (57 + 10000)) := Nat.mul_le_mul hN (by have : N * (57 + 10000) <= 100 * (57 + 10000) := Nat.mul_le_mul_right _ hN; omega)
   simp only [List.map_cons, List.map_nil, List.sum_cons, List.sum_nil] at h2
   omega
  ·have := leaf_cnt hI 10000 300 hk
   omega
 ·have : A.take 300 p = ((A.with_ ⟨⟨[47]⟩⟩ p false).1, Tr.z) := by
   rw [AT.take]
   have : (A.stat ⟨⟨[47]⟩⟩ p false).1 ≠ 0 := h0
   simp only [if_pos this]; rfl
  rw [this, z_total]; omega
end
end Go.Wk

set_option maxRecDepth 100000
namespace Go.Wk
open Go Go.HL
def ck0 : AT := newT 60 2000
def ck1 : AT := (ck0.writeF ⟨⟨[47]⟩⟩ ⟨⟨[102]⟩⟩ ⟨⟨[100, 97, 116, 97]⟩⟩ false).2
def ck2 : AT := (ck1.symlinkF ⟨⟨[47]⟩⟩ ⟨⟨[102]⟩⟩ ⟨⟨[108]⟩⟩).2
def ck3 : AT := (ck2.mkdirF ⟨⟨[47]⟩⟩ ⟨⟨[101]⟩⟩).2
def dP (i : Nat) : ByteArray := ⟨⟨(List.replicate i [47, 100]).flatten⟩⟩
def dA : Nat -> AT
 | 0 => ck3
 | i + 1 => ((dA i).mkdirF ⟨⟨[47]⟩⟩ (dP (i + 1))).2
def ck4 : AT := ((dA 11).writeF ⟨⟨[47]⟩⟩ (dP 11 ++ ⟨⟨[47, 102]⟩⟩) ⟨⟨[120]⟩⟩ false).2
def nQ (i : Nat) : ByteArray := ⟨⟨(List.replicate i (47 :: List.replicate 24 110)).flatten⟩⟩
def nA : Nat -> AT
 | 0 => ck4
 | i + 1 => ((nA i).mkdirF ⟨⟨[47]⟩⟩ (nQ (i + 1))).2
def mm : ByteArray := ⟨⟨List.replicate 24 109⟩⟩
def ck5 : AT := ((nA 9).mkdirF (nQ 9) mm).2
def ck6 : AT := (ck5.mkdirF ((nQ 9 ++ ⟨⟨[47]⟩⟩) ++ mm) ⟨⟨[122]⟩⟩).2
theorem ck_1 : (ck0.writeF ⟨⟨[47]⟩⟩ ⟨⟨[102]⟩⟩ ⟨⟨[100, 97, 116, 97]⟩⟩ false).1 = 0 := by decide +kernel
theorem ck_2 : (ck1.symlinkF ⟨⟨[47]⟩⟩ ⟨⟨[102]⟩⟩ ⟨⟨[108]⟩⟩).1 = 0 := by decide +kernel
theorem ck_3 : (ck2.mkdirF ⟨⟨[47]⟩⟩ ⟨⟨[101]⟩⟩).1 = 0 := by decide +kernel
def tF : Tr := .mk ⟨⟨[]⟩⟩ 1 false ⟨⟨[100, 97, 116, 97]⟩⟩ []
def tL : Tr := .mk ⟨⟨[]⟩⟩ 3 false ⟨⟨[102]⟩⟩ []
def tE : Tr := .mk ⟨⟨[]⟩⟩ 2 false ⟨⟨[]⟩⟩ []
theorem ck_f : ck3.canonF ⟨⟨[47, 102]⟩⟩ = (0, tF) := by rfl
theorem ck_l : ck3.canonF ⟨⟨[47, 108]⟩⟩ = (0, tL) := by rfl
theorem ck_e : ck3.canonF ⟨⟨[47, 101]⟩⟩ = (0, tE) := by rfl
theorem ck_r : (ck3.canonF ⟨⟨[47]⟩⟩).1 = 0 := by decide +kernel
theorem ck_k : (ck3.canonF ⟨⟨[47]⟩⟩).2.kids.map (fun t => t.name.data.toList) = [[101], [102], [108]] := by decide +kernel
theorem ck_s : tF.same tF = true /\ tL.same tL = true /\ tE.same tE = true := by decide +kernel
theorem ck_d : ∀ i, i < 11 -> ((dA i).mkdirF ⟨⟨[47]⟩⟩ (dP (i + 1))).1 = 0 := by decide +kernel
theorem ck_d2 : ((dA 11).canonF ⟨⟨[47]⟩⟩).1 = 0 := by decide +kernel
theorem ck_4 : ((dA 11).writeF ⟨⟨[47]⟩⟩ (dP 11 ++ ⟨⟨[47, 102]⟩⟩) ⟨⟨[120]⟩⟩ false).1 = 0 := by decide +kernel
theorem ck_4a : (ck4.canonF ⟨⟨[47]⟩⟩).1 = 3 := by decide +kernel
theorem ck_4b : (ck4.canonF ⟨⟨[47, 100]⟩⟩).1 = 0 := by decide +kernel
theorem ck_n : ∀ i, i < 9 -> ((nA i).mkdirF ⟨⟨[47]⟩⟩ (nQ (i + 1))).1 = 0 := by decide +kernel
theorem ck_5 : ((nA 9).mkdirF (nQ 9) mm).1 = 0 := by decide +kernel
theorem ck_6 : (ck5.mkdirF ((nQ 9 ++ ⟨⟨[47]⟩⟩) ++ mm) ⟨⟨[122]⟩⟩).1 = 0 := by decide +kernel
theorem ck_7 : (ck6.canonF (nQ 1)).1 = 0 := by decide +kernel
end Go.Wk

set_option maxRecDepth 100000
namespace Go.Proofs.YtbjbeajbckcecaaGreatDoor
open Go Go.HL Go.Wk
attribute [local irreducible] ptrW ifW brW andW rdT alW letJ stW muW biW vaW imW callT cvalT app callW invW callVW sizeT oW nilF oneK loopW rfW funW begW roundK exW idxW Gr Put
theorem ck0_ok : Inv ck0 /\ Bd 1 ck0 := newT_ok rfl
theorem ck1_ok : OpOk 2 ck0 (ck0.writeF ⟨⟨[47]⟩⟩ ⟨⟨[102]⟩⟩ ⟨⟨[100, 97, 116, 97]⟩⟩ false) := writeF_ok ck0_ok.1 ck0_ok.2 (by decide) _ _ _ _ (by decide)
theorem ck2_ok : OpOk 3 ck1 (ck1.symlinkF ⟨⟨[47]⟩⟩ ⟨⟨[102]⟩⟩ ⟨⟨[108]⟩⟩) := symlinkF_ok ck1_ok.inv ck1_ok.bd (by decide) _ _ _
theorem ck3_ok : OpOk 4 ck2 (ck2.mkdirF ⟨⟨[47]⟩⟩ ⟨⟨[101]⟩⟩) := mkdirF_ok ck2_ok.inv ck2_ok.bd (by decide) _ _
theorem ck3_in : Inv ck3 /\ Bd 4 ck3 /\ ck3.qb = 2000 := ⟨ck3_ok.inv, ck3_ok.bd, ck3_ok.qb.trans (ck2_ok.qb.trans (ck1_ok.qb.trans rfl))⟩
theorem dA_in : ∀ i, i <= 20 -> Inv (dA i) /\ Bd (4 + i) (dA i) /\ (dA i).qb = 2000 := by
 intro i
 induction i with
 | zero => intro _; exact ck3_in
 | succ i ih =>
  intro h
  obtain ⟨h1, h2, h3⟩ := ih (by omega)
  have := mkdirF_ok h1 h2 (by omega) ⟨⟨[47]⟩⟩ (dP (i + 1))
  exact ⟨this.inv, this.bd, this.qb.trans h3⟩
theorem ck4_in : Inv ck4 /\ Bd 16 ck4 /\ ck4.qb = 2000 := by
 obtain ⟨h1, h2, h3⟩ := dA_in 11 (by decide)
 have := writeF_ok h1 h2 (by decide) ⟨⟨[47]⟩⟩ (dP 11 ++ ⟨⟨[47, 102]⟩⟩) ⟨⟨[120]⟩⟩ false (by decide)
 exact ⟨this.inv, this.bd, this.qb.trans h3⟩
theorem nA_in : ∀ i, i <= 20 -> Inv (nA i) /\ Bd (16 + i) (nA i) /\ (nA i).qb = 2000 := by
 intro i
 induction i with
 | zero => intro _; exact ck4_in
 | succ i ih =>
  intro h
  obtain ⟨h1, h2, h3⟩ := ih (by omega)
  have := mkdirF_ok h1 h2 (by omega) ⟨⟨[47]⟩⟩ (nQ (i + 1))
  exact ⟨this.inv, this.bd, this.qb.trans h3⟩
theorem ck5_in : Inv ck5 /\ Bd 26 ck5 /\ ck5.qb = 2000 := by
 obtain ⟨h1, h2, h3⟩ := nA_in 9 (by decide)
 have := mkdirF_ok h1 h2 (by decide) (nQ 9) mm
 exact ⟨this.inv, this.bd, this.qb.trans h3⟩
theorem ck6_in : Inv ck6 /\ Bd 27 ck6 /\ ck6.qb = 2000 := by
 obtain ⟨h1, h2, h3⟩ := ck5_in
 have := mkdirF_ok h1 h2 (by decide) ((nQ 9 ++ ⟨⟨[47]⟩⟩) ++ mm) ⟨⟨[122]⟩⟩
 exact ⟨this.inv, this.bd, this.qb.trans h3⟩
theorem ck_total {A : AT} {N : Nat} (h : Inv A /\ Bd N A /\ A.qb = 2000) (hN : N <= 100) (p : ByteArray) : (A.take 300 p).1 = 0 -> (A.take 300 p).2.total <= 1000000000000000 := fun _ => Nat.le_trans (take_small h.1 h.2.1 hN (by rw [h.2.2]; decide) p) (by decide)
theorem canon_e {A : AT} {p : ByteArray} {e : Int} (h : (A.canonF p).1 = e) : A.canonF p = (e, (A.canonF p).2) := Prod.ext h rfl
theorem nil_path0 {A : AT} : A.canonF ⟨⟨[]⟩⟩ = (5, Tr.z) := by
 have hs : (A.stat ⟨⟨[47]⟩⟩ ⟨⟨[]⟩⟩ false).1 = 5 := rfl
 have h : A.take 300 ⟨⟨[]⟩⟩ = (5, Tr.z) := by
  rw [AT.take]
  simp only [hs]
  simp
 unfold AT.canonF
 rw [h]; rfl
theorem dP_succ (i : Nat) : dP i ++ ⟨⟨[47, 100]⟩⟩ = dP (i + 1) := by
 refine bytes_ext ?_
 rw [app_data]
 show (List.replicate i [47, 100]).flatten ++ [47, 100] = (List.replicate (i + 1) [47, 100]).flatten
 rw [List.replicate_succ', List.flatten_append]; rfl
theorem rep_succ (x : List UInt8) (i : Nat) : (List.replicate i x).flatten ++ (List.replicate 1 x).flatten = (List.replicate (i + 1) x).flatten := by
 rw [<- List.flatten_append, List.replicate_append_replicate]
theorem nQ_succ (i : Nat) : nQ i ++ nQ 1 = nQ (i + 1) := by
 refine bytes_ext ?_
 rw [app_data]
 exact rep_succ _ i
theorem dP_size (i : Nat) : (dP i).size = i * 2 := by
 rw [size_list]
 show ((List.replicate i [47, 100]).flatten : List UInt8).length = _
 rw [List.length_flatten, List.map_replicate, List.sum_replicate_nat]; rfl
theorem nQ_size (i : Nat) : (nQ i).size = i * 25 := by
 rw [size_list]
 show ((List.replicate i (47 :: List.replicate 24 110)).flatten : List UInt8).length = _
 rw [List.length_flatten, List.map_replicate, List.sum_replicate_nat]; rfl
theorem rep_n : (⟨⟨Lib.repeatL (⟨⟨[110]⟩⟩ : ByteArray).data.toList 24⟩⟩ : ByteArray) = ⟨⟨List.replicate 24 110⟩⟩ := by rfl
theorem rep_m : (⟨⟨Lib.repeatL (⟨⟨[109]⟩⟩ : ByteArray).data.toList 24⟩⟩ : ByteArray) = mm := by rfl
theorem long_eq : (⟨⟨[47]⟩⟩ : ByteArray) ++ ⟨⟨List.replicate 24 110⟩⟩ = nQ 1 := by
 refine bytes_ext ?_
 rw [app_data]; rfl
theorem mm_size : mm.size = 24 := by rfl
theorem s_CanonKnown {σ : H} {K : KH} (hK : ∀ σ', Gr σ σ' -> K (.bool true) σ') : callW Tryz.prog 9 [] K σ := by
 refine c9 ?_
 unfold g9
 refine call_i (s_New 60 2000 (fun h => by cases h) ?_)
 intro _ bf σ1 B1 F1 g1 hf1
 have O1 := Off.new g1 hf1
 refine app_P ?_
 refine j_i (fun j => ∀ σ2 B2, FsAt σ2 bf ck3 B2 -> Off σ σ2 B2 -> j (some ⟨bf, 0, none⟩) false σ2) ?_ ?_
 case refine_2 =>
  intro j hj
  refine br_f rfl (k_Write (A := ck0) ck0_ok.1 ck0_ok.2 (by decide) F1 (by decide) ck_1 ?_); intro σ2 B2 F2 S2
  refine br_f rfl (k_Symlink (A := ck1) ck1_ok.inv ck1_ok.bd (by decide) F2 ck_2 ?_); intro σ3 B3 F3 S3
  refine br_f rfl (k_Mkdir (A := ck2) ck2_ok.inv ck2_ok.bd (by decide) F3 ck_3 ?_); intro σ4 B4 F4 S4
  exact hj σ4 B4 F4 (((O1.sep S2).sep S3).sep S4)
 intro σ2 B2 F2 O2
 refine br_f rfl (k_Of (A := ck3) ck3_in.1 ck3_in.2.1 (by decide) F2 (by decide) ck_f (ck_total ck3_in (by decide) _) ?_)
 intro b11 y1 σ3 ρ1 g3 n3 e3 r3 _ _ hs1
 refine k_Of (A := ck3) ck3_in.1 ck3_in.2.1 (by decide) (F2.gr g3) (by decide) ck_l (ck_total ck3_in (by decide) _) ?_
 intro b18 y2 σ4 ρ2 g4 n4 e4 r4 _ _ hs2
 refine k_Of (A := ck3) ck3_in.1 ck3_in.2.1 (by decide) ((F2.gr g3).gr g4) (by decide) ck_e (ck_total ck3_in (by decide) _) ?_
 intro b25 y3 σ5 ρ3 g5 n5 e5 r5 _ _ hs3
 refine k_Of (A := ck3) ck3_in.1 ck3_in.2.1 (by decide) (((F2.gr g3).gr g4).gr g5) (by decide) (canon_e ck_r) (ck_total ck3_in (by decide) _) ?_
 intro b32 y4 σ6 ρ4 g6 n6 e6 r6 _ _ hs4
 have F6 := (((F2.gr g3).gr g4).gr g5).gr g6
 have O6 := (((O2.gr g3).gr g4).gr g5).gr g6
 refine j_i (fun j => ∀ τ, Gr σ6 τ -> j (some ⟨bf, 0, none⟩) true τ) ?_ ?_
 case refine_2 =>
  intro j hj
  have k11 := (g4.trans (g5.trans g6)).get e3
  have k18 := (g5.trans g6).get e4
  have k25 := g6.get e5
  unfold trC at k11 k18 k25 e6
  refine br_t rfl (rd_G (rdA_of' k11 (by rfl)) ?_)
  (refine app_of rfl ?_; try dsimp only)
  refine call_i (x_file _ _ _ ?_)
  (refine app_of rfl ?_; try dsimp only)
  refine and_i (rdA_of' k11 (by rfl)) ?_
  refine call_i (s_Same tF y1 tF ⟨none, 0, 0⟩ (hs1.gr ((r3.trans g4).trans (g5.trans g6))) SlAt.nil (by decide) (by decide) ?_)
  rw [ck_s.1]
  refine app_B (br_t rfl (br_t rfl (rd_G (rdA_of' k18 (by rfl)) ?_)))
  (refine app_of rfl ?_; try dsimp only)
  refine call_i (x_link _ _ ?_)
  (refine app_of rfl ?_; try dsimp only)
  refine and_i (rdA_of' k18 (by rfl)) ?_
  refine call_i (s_Same tL y2 tL ⟨none, 0, 0⟩ (hs2.gr ((r4.trans g5).trans g6)) SlAt.nil (by decide) (by decide) ?_)
  rw [ck_s.2.1]
  refine app_B (br_t rfl (br_t rfl (rd_G (rdA_of' k25 (by rfl)) ?_)))
  (refine app_of rfl ?_; try dsimp only)
  refine call_i (s_Same tE y3 tE ⟨none, 0, 0⟩ (hs3.gr (r5.trans g6)) SlAt.nil (by decide) (by decide) ?_)
  rw [ck_s.2.2]
  refine app_B (br_t rfl (br_t rfl (rd_L (rdC_of e6 (by rfl)) ?_)))
  have hs4' := hs4.gr r6
  have hk3 : (ck3.canonF ⟨⟨[47]⟩⟩).2.kids.length = 3 := by
   have := congrArg List.length ck_k
   rw [List.length_map] at this; exact this
  have hy4 : y4.len = 3 := by rw [hs4'.1]; exact hk3
  refine br_t (by simp only [beq_iff_eq]; omega) (rd_L (rdC_of e6 (by rfl)) ?_)
  obtain ⟨k0, hk0⟩ : ∃ k0, (ck3.canonF ⟨⟨[47]⟩⟩).2.kids[0]? = some k0 := ⟨_, List.getElem?_eq_getElem (by omega)⟩
  have hn0 : k0.name = ⟨⟨[101]⟩⟩ := by
   refine bytes_ext ?_
   have := congrArg (fun l => l[0]?) ck_k
   simp only [List.getElem?_map, hk0] at this
   exact Option.some.inj this
  obtain ⟨g, o, a1, a2⟩ := kid_name hs4' hk0
  show ptrW y4.base _ _
  rw [a1]
  refine ptr_i (if_i ⟨by decide, by show (0 : Int) < ((y4.len : Nat) : Int); omega⟩ (rd_S a2 ?_))
  rw [hn0]
  have hse : strEq (⟨⟨[101]⟩⟩ : ByteArray) ⟨⟨[101]⟩⟩ = true := strEq_iff.2 rfl
  rw [hse]
  exact hj σ6 (Gr.refl _)
 intro τ hτ
 have F7 := F6.gr hτ
 have O7 := O6.gr hτ
 clear hs1 hs2 hs3 hs4 r3 r4 r5 r6 e3 e4 e5 e6
 refine loop_i ?_
 intro R hR
 have key : ∀ (c i : Nat) (τ : H) (B : Nat -> Prop), c + i = 11 -> FsAt τ bf (dA i) B -> Off σ τ B -> R (some ⟨bf, 0, none⟩) true (dP i) (i : Int) τ := by
  intro c
  induction c with
  | succ c ih =>
   intro i τ B hc hF hO
   obtain ⟨h1, h2, _⟩ := dA_in i (by omega)
   refine hR _ _ _ _ _ ?_
   refine br_t (by simp only [decide_eq_true_eq]; omega) ?_
   refine j_i (fun j => ∀ τ' B' v1 v2 v3 v4, FsAt τ' bf (dA (i + 1)) B' -> Off σ τ' B' -> j (some ⟨bf, 0, none⟩) true (dP (i + 1)) (i : Int) v1 v2 v3 v4 τ') ?_ ?_
   ·intro τ' B' v1 v2 v3 v4 q1 q2
    show R _ _ _ _ _
    rw [wrapS (i := i) (by omega)]
    exact ih (i + 1) τ' B' (by omega) q1 q2
   intro j hj
   have hsz := dP_size i
   refine if_i (by show (dP i).size + 2 <= _; omega) ?_
   rw [dP_succ]
   refine br_t rfl (k_Mkdir (A := dA i) h1 h2 (by omega) hF (ck_d i (by omega)) ?_)
   intro τ' B' F' S'
   exact hj τ' B' _ _ _ _ F' (hO.sep S')
  | zero =>
   intro i τ B hc hF hO
   have hi : i = 11 := by omega
   subst hi
   have hin := dA_in 11 (by decide)
   refine hR _ _ _ _ _ ?_
   refine br_f (by decide) ?_
   refine k_Of (A := dA 11) hin.1 hin.2.1 (by decide) hF (by decide) (canon_e ck_d2) (ck_total hin (by decide) _) ?_
   intro b57 y5 σ8 ρ5 g8 n8 e8 _ _ _ _
   have F8 := hF.gr g8
   have O8 := hO.gr g8
   refine j_i (fun j => ∀ τ' B', FsAt τ' bf ck4 B' -> Off σ τ' B' -> j (some ⟨bf, 0, none⟩) true τ') ?_ ?_
   case refine_2 =>
    intro j hj
    refine br_t rfl (br_t rfl (if_i (by rw [dP_size]; decide) ?_))
    refine k_Write (A := dA 11) hin.1 hin.2.1 (by decide) F8 (by decide) ck_4 ?_
    intro τ' B' F' S'
    exact hj τ' B' F' (O8.sep S')
   intro τ9 B9 F9 O9
   refine k_Of (A := ck4) ck4_in.1 ck4_in.2.1 (by decide) F9 (by decide) (canon_e ck_4a) (ck_total ck4_in (by decide) _) ?_
   intro b67 y6 σ10 ρ6 g10 n10 e10 _ _ _ _
   refine k_Of (A := ck4) ck4_in.1 ck4_in.2.1 (by decide) (F9.gr g10) (by decide) (canon_e ck_4b) (ck_total ck4_in (by decide) _) ?_
   intro b74 y7 σ11 ρ7 g11 n11 e11 _ _ _ _
   refine call_i (s_Repeat ⟨⟨[110]⟩⟩ 24 (by decide) (by decide) (app_S ?_))
   rw [rep_n, long_eq]
   refine if_i (by decide) ?_
   refine loop_i ?_
   intro R2 hR2
   have key2 : ∀ (c i : Nat) (τ : H) (B : Nat -> Prop), c + i = 9 -> FsAt τ bf (nA i) B -> Off σ τ B -> R2 (some ⟨bf, 0, none⟩) true 3 0 (nQ 1) (nQ i) (i : Int) τ := by
    intro c
    induction c with
    | succ c ih =>
     intro i τ B hc hF hO
     obtain ⟨h1, h2, _⟩ := nA_in i (by omega)
     refine hR2 _ _ _ _ _ _ _ _ ?_
     refine br_t (by simp only [decide_eq_true_eq]; omega) ?_
     refine j_i (fun j => ∀ τ' B' v1 v2 v3 v4, FsAt τ' bf (nA (i + 1)) B' -> Off σ τ' B' -> j (some ⟨bf, 0, none⟩) true 3 0 (nQ 1) (nQ (i + 1)) (i : Int) v1 v2 v3 v4 τ') ?_ ?_
     ·intro τ' B' v1 v2 v3 v4 q1 q2
      show R2 _ _ _ _ _ _ _ _
      rw [wrapS (i := i) (by omega)]
      exact ih (i + 1) τ' B' (by omega) q1 q2
     intro j hj
     have hsz := nQ_size i
     have hs1 := nQ_size 1
     refine if_i (by omega) ?_
     rw [nQ_succ]
     refine br_t rfl (k_Mkdir (A := nA i) h1 h2 (by omega) hF (ck_n i (by omega)) ?_)
     intro τ' B' F' S'
     exact hj τ' B' _ _ _ _ F' (hO.sep S')
    | zero =>
     intro i τ B hc hF hO
     have hi : i = 9 := by omega
     subst hi
     have hin := nA_in 9 (by decide)
     refine hR2 _ _ _ _ _ _ _ _ ?_
     refine br_f (by decide) ?_
     refine j_i (fun j => ∀ τ' B', FsAt τ' bf ck6 B' -> Off σ τ' B' -> j (some ⟨bf, 0, none⟩) true 3 0 (nQ 1) τ') ?_ ?_
     case refine_2 =>
      intro j hj
      refine br_t rfl (call_i (s_Repeat ⟨⟨[109]⟩⟩ 24 (by decide) (by decide) (app_S ?_)))
      rw [rep_m]
      refine k_Mkdir (A := nA 9) hin.1 hin.2.1 (by decide) hF ck_5 ?_
      intro τ1 B1 F1 S1
      refine br_t rfl (if_i (by rw [nQ_size]; decide) ?_)
      refine call_i (s_Repeat ⟨⟨[109]⟩⟩ 24 (by decide) (by decide) (app_S ?_))
      rw [rep_m]
      refine if_i (by rw [ByteArray.size_append, nQ_size, mm_size]; decide) ?_
      refine k_Mkdir (A := ck5) ck5_in.1 ck5_in.2.1 (by decide) F1 ck_6 ?_
      intro τ2 B2 F2 S2
      exact hj τ2 B2 F2 ((hO.sep S1).sep S2)
     intro τ1 B1 F1 O1
     refine k_Of (A := ck6) ck6_in.1 ck6_in.2.1 (by decide) F1 (by rw [nQ_size]; decide) (canon_e ck_7) (ck_total ck6_in (by decide) _) ?_
     intro b109 y8 σ12 ρ8 g12 n12 e12 _ _ _ _
     refine call_i (s_OfNil _ ?_)
     intro σ13 g13
     (refine app_of rfl ?_; try dsimp only)
     refine al_i ?_; intro b116 σ14 g14 e14 n14
     refine st_i2 e14 sz_Node (by rfl) (by rfl) ?_; intro σ15 p15
     have G15 : Gr τ1 σ15 := ((g12.trans g13).trans g14).putF p15 (none_of (g12.trans g13) n14)
     refine k_Of (A := ck6) ck6_in.1 ck6_in.2.1 (by decide) (F1.gr G15) (by decide) (nil_path0 (A := ck6)) (ck_total ck6_in (by decide) _) ?_
     intro b123 y9 σ16 ρ9 g16 n16 e16 _ _ _ _
     refine call_i (s_works10 (app_B (br_t rfl (br_t rfl (br_t rfl (br_t rfl (br_t rfl (br_t rfl ?_))))))))
     exact hK σ16 (O1.1.trans (G15.trans g16))
   exact key2 9 0 σ11 B9 (by omega) ((F9.gr g10).gr g11) ((O9.gr g10).gr g11)
 exact key 11 0 τ B2 (by omega) F7 O7
end Go.Proofs.YtbjbeajbckcecaaGreatDoor

