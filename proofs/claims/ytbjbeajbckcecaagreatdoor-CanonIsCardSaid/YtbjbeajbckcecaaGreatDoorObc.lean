/- A part of the proof: CanonIs holds. -/
import Derived.Test.YtbjbeajbckcecaaGreatDoorObb
set_option maxRecDepth 100000
namespace Go.Proofs.YtbjbeajbckcecaaGreatDoor
open Go Go.HL Go.Wk
attribute [local irreducible] ptrW ifW brW andW rdT alW letJ stW muW biW vaW imW callT cvalT app callW invW callVW sizeT oW nilF oneK loopW rfW funW begW roundK exW idxW Gr Put
def ClAt (l : List Value) (k : UInt8 -> Int) : Prop := l.length = 256 /\ ∀ c : UInt8, l[c.toNat]? = some (.int .i64 (k c))
theorem ClAt.zero : ClAt (List.replicate 256 (.int .i64 0)) (fun _ => 0) := by
 refine ⟨List.length_replicate, fun c => ?_⟩
 rw [List.getElem?_replicate, if_pos c.toNat_lt]
theorem ClAt.set {l : List Value} {k : UInt8 -> Int} (h : ClAt l k) (d : UInt8) (v : Int) : ClAt (l.set d.toNat (.int .i64 v)) (fun c => if c = d then v else k c) := by
 refine ⟨by rw [List.length_set]; exact h.1, fun c => ?_⟩
 rw [List.getElem?_set]
 by_cases e : c = d
 ·subst e; rw [if_pos rfl, if_pos (by rw [h.1]; exact c.toNat_lt)]; simp
 ·have : ¬ d.toNat = c.toNat := fun h => e (UInt8.toNat_inj.1 h.symm)
  rw [if_neg this]; simp only [if_neg e]; exact h.2 c
def slRow (y : Sl) : List Value := [.slice y.base y.len y.cap]
def FldsIn (ρ : H) : List (List Rn) -> List Sl -> Prop
 | [], [] => True
 | l :: L, y :: ys => RowsAt ρ 3 (rnRows l) y /\ FldsIn ρ L ys
 | _, _ => False
theorem FldsIn.gr {ρ ρ' : H} (hg : Gr ρ ρ') : ∀ {L : List (List Rn)} {ys : List Sl}, FldsIn ρ L ys -> FldsIn ρ' L ys := by
 intro L
 induction L with
 | nil => intro ys h; cases ys with | nil => trivial | cons _ _ => exact h.elim
 | cons l L ih => intro ys h; cases ys with | nil => exact h.elim | cons y ys => exact ⟨h.1.gr hg, ih h.2⟩
theorem FldsIn.app {ρ : H} {L' : List (List Rn)} {ys' : List Sl} (h' : FldsIn ρ L' ys') : ∀ {L : List (List Rn)} {ys : List Sl}, FldsIn ρ L ys -> FldsIn ρ (L ++ L') (ys ++ ys') := by
 intro L
 induction L with
 | nil => intro ys h; cases ys with | nil => exact h' | cons _ _ => exact h.elim
 | cons l L ih => intro ys h; cases ys with | nil => exact h.elim | cons y ys => exact ⟨h.1, ih h.2⟩
theorem FldsIn.len {ρ : H} : ∀ {L : List (List Rn)} {ys : List Sl}, FldsIn ρ L ys -> ys.length = L.length := by
 intro L
 induction L with
 | nil => intro ys h; cases ys with | nil => rfl | cons _ _ => exact h.elim
 | cons l L ih => intro ys h; cases ys with | nil => exact h.elim | cons y ys => simp [ih h.2]
theorem FldsIn.at {ρ : H} : ∀ {L : List (List Rn)} {ys : List Sl} {i : Nat} {l : List Rn}, FldsIn ρ L ys -> L[i]? = some l -> ∃ y, ys[i]? = some y /\ RowsAt ρ 3 (rnRows l) y := by
 intro L
 induction L with
 | nil => intro ys i l _ h; simp at h
 | cons l L ih =>
  intro ys i m h hi
  cases ys with
  | nil => exact h.elim
  | cons y ys =>
   cases i with
   | zero => simp at hi; subst hi; exact ⟨y, rfl, h.1⟩
   | succ i => simp at hi; obtain ⟨z, h1, h2⟩ := ih h.2 hi; exact ⟨z, by simpa using h1, h2⟩
def FldsAt (σ : H) (L : List (List Rn)) (x : Sl) : Prop := ∃ ys, RowsAt σ 1 (ys.map slRow) x /\ FldsIn σ L ys
theorem FldsAt.gr {σ σ' : H} {L : List (List Rn)} {x : Sl} (h : FldsAt σ L x) (hg : Gr σ σ') : FldsAt σ' L x := by
 obtain ⟨ys, h1, h2⟩ := h
 exact ⟨ys, h1.gr hg, h2.gr hg⟩
theorem FldsAt.len {σ : H} {L : List (List Rn)} {x : Sl} (h : FldsAt σ L x) : x.len = L.length := by
 obtain ⟨ys, h1, h2⟩ := h
 rw [h1.1, List.length_map, h2.len]
theorem FldsAt.at {σ : H} {L : List (List Rn)} {x : Sl} (h : FldsAt σ L x) {i : Nat} {l : List Rn} (hi : L[i]? = some l) : ∃ g o y, x.base = some ⟨g, o, none⟩ /\ i < x.len /\ rdC g (o + i * 1) σ = some (.slice y.base y.len y.cap) /\ RowsAt σ 3 (rnRows l) y := by
 have hl := h.len
 obtain ⟨ys, h1, h2⟩ := h
 obtain ⟨y, h3, h4⟩ := h2.at hi
 obtain ⟨g, o, a1, a2, a3⟩ := h1.rdA (i := i) (r := slRow y) (by rw [List.getElem?_map, h3]; rfl) (by decide)
 refine ⟨g, o, y, a1, ?_, by simpa using a3 0 _ rfl, h4⟩
 rw [hl]
 rcases Nat.lt_or_ge i L.length with h | h
 ·exact h
 ·rw [List.getElem?_eq_none h] at hi; cases hi
structure SpIn (σ ρ τ : H) (b3 b4 b5 b6 : Nat) (yo yn : Sl) (ys : List Sl) (x : SpS) : Prop where
 g1 : Gr σ ρ
 z3 : ρ b3 = none
 z4 : ρ b4 = none
 z5 : ρ b5 = none
 z6 : ρ b6 = none
 out : RNew ρ τ 31 1 (ys.map slRow) yo
 now : RNew ρ τ 29 3 (rnRows x.now) yn
 fl : FldsIn ρ x.out ys
 k3 : τ b3 = some (.cells ⟨[.slice yo.base yo.len yo.cap]⟩ 44 (0, 0))
 k4 : τ b4 = some (.cells ⟨[.slice yn.base yn.len yn.cap]⟩ 31 (0, 0))
 k5 : τ b5 = some (.cells ⟨[.bool x.bare]⟩ 4 (0, 0))
 k6 : τ b6 = some (.cells ⟨[.bool x.behind]⟩ 4 (0, 0))
 so : ∀ g, yo.base = some ⟨g, 0, none⟩ -> g ≠ b3 /\ g ≠ b4 /\ g ≠ b5 /\ g ≠ b6 /\ yn.base ≠ some ⟨g, 0, none⟩
 sn : ∀ g, yn.base = some ⟨g, 0, none⟩ -> g ≠ b3 /\ g ≠ b4 /\ g ≠ b5 /\ g ≠ b6
def SpAt (σ τ : H) (b3 b4 b5 b6 : Nat) (x : SpS) : Prop := ∃ ρ yo yn ys, SpIn σ ρ τ b3 b4 b5 b6 yo yn ys x
structure Dis4 (b3 b4 b5 b6 : Nat) : Prop where
 n34 : b3 ≠ b4
 n35 : b3 ≠ b5
 n36 : b3 ≠ b6
 n45 : b4 ≠ b5
 n46 : b4 ≠ b6
 n56 : b5 ≠ b6
section
variable {σ τ : H} {b3 b4 b5 b6 : Nat} {x : SpS}
theorem SpAt.gr (h : SpAt σ τ b3 b4 b5 b6 x) : Gr σ τ := by
 obtain ⟨ρ, yo, yn, ys, h⟩ := h
 exact h.g1.trans h.out.1
theorem SpAt.behind (hd : Dis4 b3 b4 b5 b6) (h : SpAt σ τ b3 b4 b5 b6 x) {τ2 : H} {v : Bool} (hp : Put τ b6 (.cells ⟨[.bool v]⟩ 4 (0, 0)) τ2) : SpAt σ τ2 b3 b4 b5 b6 { x with behind := v } := by
 obtain ⟨ρ, yo, yn, ys, h⟩ := h
 exact ⟨ρ, yo, yn, ys, ⟨h.g1, h.z3, h.z4, h.z5, h.z6, h.out.putF hp h.z6 (fun e => (h.so _ e).2.2.2.1 rfl), h.now.putF hp h.z6 (fun e => (h.sn _ e).2.2.2 rfl), h.fl, hp.get hd.n36 h.k3, hp.get hd.n46 h.k4, hp.get hd.n56 h.k5, hp.same, h.so, h.sn⟩⟩
end
def ptRow (y : Sl) (st : Bool) : List Value := [.slice y.base y.len y.cap, .bool st]
def PtRows (ρ : H) (l : List Pt) (rows : List (List Value)) : Prop := rows.length = l.length /\ ∀ (i : Nat) (p : Pt), l[i]? = some p -> ∃ y, rows[i]? = some (ptRow y p.st) /\ RowsAt ρ 3 (rnRows p.runs) y
theorem PtRows.gr {ρ ρ' : H} {l : List Pt} {rows : List (List Value)} (h : PtRows ρ l rows) (hg : Gr ρ ρ') : PtRows ρ' l rows := ⟨h.1, fun i p hi => by
 obtain ⟨y, h1, h2⟩ := h.2 i p hi
 exact ⟨y, h1, h2.gr hg⟩⟩
theorem PtRows.snoc {ρ : H} {l : List Pt} {rows : List (List Value)} (h : PtRows ρ l rows) {p : Pt} {y : Sl} (hy : RowsAt ρ 3 (rnRows p.runs) y) : PtRows ρ (l ++ [p]) (rows ++ [ptRow y p.st]) := by
 refine ⟨by simp [h.1], fun i q hi => ?_⟩
 rw [List.getElem?_append] at hi
 by_cases hlt : i < l.length
 ·rw [if_pos hlt] at hi
  obtain ⟨w, h1, h2⟩ := h.2 i q hi
  exact ⟨w, by rw [List.getElem?_append_left (by rw [h.1]; exact hlt)]; exact h1, h2⟩
 ·rw [if_neg hlt] at hi
  have : i - l.length = 0 := by
   rcases Nat.eq_zero_or_pos (i - l.length) with h | h
   ·exact h
   ·rw [List.getElem?_eq_none (by simp; omega)] at hi; cases hi
  rw [this] at hi
  simp at hi; subst hi
  refine ⟨y, ?_, hy⟩
  rw [List.getElem?_append_right (by rw [h.1]; omega), h.1, this]; rfl
def PtsAt (σ : H) (l : List Pt) (x : Sl) : Prop := x.len <= x.cap /\ ∃ rows, RowsAt σ 2 rows x /\ PtRows σ l rows
theorem PtsAt.gr {σ σ' : H} {l : List Pt} {x : Sl} (h : PtsAt σ l x) (hg : Gr σ σ') : PtsAt σ' l x := by
 obtain ⟨hc, rows, h1, h2⟩ := h
 exact ⟨hc, rows, h1.gr hg, h2.gr hg⟩
theorem PtsAt.len {σ : H} {l : List Pt} {x : Sl} (h : PtsAt σ l x) : x.len = l.length := by
 obtain ⟨_, rows, h1, h2⟩ := h
 rw [h1.1, h2.1]
theorem PtsAt.at {σ : H} {l : List Pt} {x : Sl} (h : PtsAt σ l x) {i : Nat} {p : Pt} (hi : l[i]? = some p) : ∃ g o y, x.base = some ⟨g, o, none⟩ /\ i < x.len /\ rdA 2 g (o + i * 2) σ = some (.agg ⟨ptRow y p.st⟩) /\ RowsAt σ 3 (rnRows p.runs) y := by
 have hl := h.len
 obtain ⟨_, rows, h1, h2⟩ := h
 obtain ⟨y, h3, h4⟩ := h2.2 i p hi
 obtain ⟨g, o, a1, a2, a3⟩ := h1.rdA h3 (by decide)
 refine ⟨g, o, y, a1, ?_, a2, h4⟩
 rw [hl]
 rcases Nat.lt_or_ge i l.length with h | h
 ·exact h
 ·rw [List.getElem?_eq_none h] at hi; cases hi
theorem rowsOwn_cap {σ : H} {e : TypeId} {n : Nat} {rows : List (List Value)} {x : Sl} (h : RowsOwn σ e n rows x) : x.len <= x.cap := by
 obtain ⟨h1, _, ⟨_, _, h3⟩ | ⟨_, _, _, _, _, h4, _⟩⟩ := h
 ·rw [h1, h3]; exact Nat.zero_le _
 ·exact h4
inductive PtG (σ τ : H) (out : Sl) : List Pt -> Prop where
 | nil : Gr σ τ -> out = ⟨none, 0, 0⟩ -> PtG σ τ out []
 | snoc (ρ : H) (init : List Pt) (last : Pt) (rows : List (List Value)) (yn : Sl) : Gr σ ρ -> RNew ρ τ 186 2 (rows ++ [ptRow yn last.st]) out -> PtRows ρ init rows -> RNew ρ τ 29 3 (rnRows last.runs) yn -> (∀ g, out.base = some ⟨g, 0, none⟩ -> yn.base ≠ some ⟨g, 0, none⟩) -> PtG σ τ out (init ++ [last])
theorem PtG.gr {σ τ : H} {out : Sl} {l : List Pt} (h : PtG σ τ out l) : Gr σ τ := by
 cases h with
 | nil h _ => exact h
 | snoc ρ init last rows yn g1 hO _ _ _ => exact g1.trans hO.1
theorem PtG.done {σ τ : H} {out : Sl} {l : List Pt} (h : PtG σ τ out l) : PtsAt τ l out := by
 cases h with
 | nil h e => rw [e]; exact ⟨Nat.le_refl _, [], ⟨rfl, .inl rfl⟩, rfl, fun i p h => by simp at h⟩
 | snoc ρ init last rows yn g1 hO hP hN hne => exact ⟨rowsOwn_cap hO.2.1, _, hO.at, (hP.gr hO.1).snoc hN.at⟩
theorem PtG.len {σ τ : H} {out : Sl} {l : List Pt} (h : PtG σ τ out l) : out.len = l.length := h.done.len
end Go.Proofs.YtbjbeajbckcecaaGreatDoor

namespace Go.Wk
open Go Go.HL
section
variable {A : AT}
def NoLink (A : AT) : Prop := ∀ i n, A.get i = some n -> n.kind ≠ 3
theorem NoLink.kind (h : NoLink A) (i : Int) : A.kind i ≠ 3 := by
 unfold AT.kind
 cases hg : A.get i with
 | none => decide
 | some n => exact h i n hg
def rootP : Pl := ⟨1, ⟨⟨[]⟩⟩, 1, true⟩
theorem walk_root (A : AT) : A.walk 10 1 ⟨⟨[47]⟩⟩ true 8 = (0, rootP, 8) := by
 rw [AT.walk]
 have h1 : mayE ⟨⟨[47]⟩⟩ = 0 := by decide +kernel
 have h2 : headIs 47 ⟨⟨[47]⟩⟩ = true := by decide +kernel
 have h3 : partsB ⟨⟨[47]⟩⟩ = [] := by decide +kernel
 rw [h1, h2, h3]
 simp [AT.steps, rootP]
theorem namedE_ok {s : ByteArray} (h : namedE s = 0) : nameOk s /\ stepOk s := by
 unfold namedE at h
 split at h
 ·cases h
 ·rename_i h1
  split at h
  ·rename_i h2
   simp only [Bool.and_eq_true, Bool.not_eq_true'] at h2
   obtain ⟨⟨⟨a, b⟩, c⟩, d⟩ := h2
   refine ⟨⟨?_, ?_, d⟩, ?_, by omega⟩
   ·intro e; rw [e] at a; exact absurd a (by decide)
   ·intro e; rw [e] at b; exact absurd b (by decide)
   ·intro e; rw [e] at c; exact absurd c (by decide)
  ·cases h
variable (hI : Inv A) (hL : NoLink A)
include hI in
theorem find_name {d : Int} {s : ByteArray} {j : Int} (hf : A.find d s = some j) : nameOk s /\ stepOk s /\ ∃ m, A.get j = some m := by
 obtain ⟨n, hn, _, hl, _, m, hm, _⟩ := hI.find hf
 obtain ⟨a, b⟩ := namedE_ok (hI.ent d n s j hn hl).1
 exact ⟨a, b, m, hm⟩
end
section
variable {A : AT} (hI : Inv A) (hL : NoLink A)
include hI in
theorem names_nodup (d : Int) : (A.names d).Nodup := by
 unfold AT.names
 cases hg : A.get d with
 | none => exact List.nodup_nil
 | some n => exact (sortN_perm _).nodup_iff.2 (hI.enod d n hg)
end
end Go.Wk

set_option maxRecDepth 100000
namespace Go.Proofs.YtbjbeajbckcecaaGreatDoor
open Go Go.HL Go.Wk
attribute [local irreducible] ptrW ifW brW andW rdT alW letJ stW muW biW vaW imW callT cvalT app callW invW callVW sizeT oW nilF oneK loopW rfW funW begW roundK exW idxW Gr Put
section
variable {A : AT} {B : Nat -> Prop} {σ ρ : H} {bf : Nat}
end
section
variable {y : Value} {I : List ByteArray -> H -> H -> Prop}
end
theorem own1 {σ : H} {b : Nat} {s : ByteArray} (h : σ b = some (.cells ⟨[.string s]⟩ 9 (0, 0))) : RowsOwn σ 9 1 (strRows [s]) ⟨some ⟨b, 0, none⟩, 1, 1⟩ :=
 ⟨rfl, by intro r hr; simp [strRows] at hr; subst hr; rfl, .inr ⟨b, _, rfl, h, rfl, Nat.le_refl _, rfl⟩⟩
section
variable {A : AT} {B : Nat -> Prop} {bf bs : Nat} {N : Nat} {cwd : ByteArray}
end
section
variable {A : AT} {B : Nat -> Prop} {bf bs : Nat} {N : Nat} {cwd : ByteArray}
end
end Go.Proofs.YtbjbeajbckcecaaGreatDoor

set_option maxRecDepth 100000
namespace Go.Proofs.YtbjbeajbckcecaaGreatDoor
open Go Go.HL Go.Wk Go.RowKit Go.Maps Go.Sort Go.Shelf
end Go.Proofs.YtbjbeajbckcecaaGreatDoor

set_option maxRecDepth 100000
namespace Go.Proofs.YtbjbeajbckcecaaGreatDoor
open Go Go.HL Go.Wk
attribute [local irreducible] ptrW ifW brW andW rdT alW letJ stW muW biW vaW imW callT cvalT app callW invW callVW sizeT oW nilF oneK loopW rfW funW begW roundK exW idxW Gr Put
section
variable {A : AT} {B : Nat -> Prop} {bf bs : Nat} {N : Nat} {cwd : ByteArray}
end
end Go.Proofs.YtbjbeajbckcecaaGreatDoor

namespace Go.Wk
open Go Go.HL
def SpS.r (x : SpS) : Nat := (x.out.map List.length).sum + x.now.length
end Go.Wk

set_option maxRecDepth 100000
namespace Go.Proofs.YtbjbeajbckcecaaGreatDoor
open Go Go.HL Go.Wk
attribute [local irreducible] ptrW ifW brW andW rdT alW letJ stW muW biW vaW imW callT cvalT app callW invW callVW sizeT oW nilF oneK loopW rfW funW begW roundK exW idxW Gr Put
section
variable {σ : H}
end
end Go.Proofs.YtbjbeajbckcecaaGreatDoor

set_option maxRecDepth 100000
namespace Go.Proofs.YtbjbeajbckcecaaGreatDoor
open Go Go.HL Go.Wk
def sumS (l : List ByteArray) : Nat := (l.map ByteArray.size).sum
theorem sumS_cons (a : ByteArray) (l : List ByteArray) : sumS (a :: l) = a.size + sumS l := by simp [sumS]
theorem flat_len (sep : List UInt8) (hs : sep.length = 1) (l : List ByteArray) : (l.flatMap fun x => sep ++ x.data.toList).length = l.length + sumS l := by
 induction l with
 | nil => rfl
 | cons a r ih => rw [List.flatMap_cons, List.length_append, ih, List.length_append, sumS_cons, List.length_cons, hs, <- size_list]; omega
attribute [local irreducible] ptrW ifW brW andW rdT alW letJ stW muW biW vaW imW callT cvalT app callW invW callVW sizeT oW nilF oneK loopW rfW funW begW roundK exW idxW Gr Put
section
variable {σ : H}
end
end Go.Proofs.YtbjbeajbckcecaaGreatDoor

set_option maxRecDepth 100000
namespace Go.Proofs.YtbjbeajbckcecaaGreatDoor
open Go Go.HL Go.Wk
attribute [local irreducible] ptrW ifW brW andW rdT alW letJ stW muW biW vaW imW callT cvalT app callW invW callVW sizeT oW nilF oneK loopW rfW funW begW roundK exW idxW Gr Put
section
variable {σ : H}
theorem gr_sub {ρ σ σ' τ' : H} (h1 : Gr τ' σ') (h3 : ∀ b o, ρ b = none -> σ b = some o -> σ' b = some o) {θ : H} (hg : Gr θ σ) (hd : ∀ b, θ b ≠ none -> ρ b = none) : Gr θ σ' := gr_of fun b o hb => h3 b o (hd b (by rw [hb]; simp)) (hg.get hb)
end
theorem el_Node : ElT Tryz.prog 71 73 5 := elT_of (by kernel_rfl) (by decide) (by kernel_rfl)
theorem kid_end {p s : ByteArray} {c : UInt8} (h : p.data.toList[p.size - 1]? = some c) : kidP p s = if c = 47 then p ++ s else (p ++ ⟨⟨[47]⟩⟩) ++ s := by
 have hl := size_list p
 have hne : p.data.toList ≠ [] := by intro e; rw [e] at h; simp at h
 have hlast : p.data.toList = p.data.toList.dropLast ++ [c] := by
  have h1 := List.dropLast_concat_getLast hne
  have h2 : p.data.toList.getLast hne = c := by
   have : p.data.toList[p.data.toList.length - 1]? = some c := by rw [<- hl]; exact h
   rw [List.getLast_eq_getElem]
   rw [List.getElem?_eq_getElem (by have := List.length_pos_iff.2 hne; omega)] at this
   exact Option.some.inj this
  rw [h2] at h1; exact h1.symm
 refine bytes_ext ?_
 have hk : (kidP p s).data.toList = trimL p.data.toList ++ 47 :: s.data.toList := by unfold kidP; rw [sub_data, trimS_data]
 rw [hk]
 by_cases hc : c = 47
 ·rw [if_pos hc, app_data]
  subst hc
  conv => lhs; rw [hlast, trimL_snoc]
  conv => rhs; rw [hlast]
  simp
 ·rw [if_neg hc, app_data, app_data, trimL_id _ fun q e => ?_]
  ·show _ = p.data.toList ++ [47] ++ s.data.toList
   simp
  ·rw [hlast] at e
   have := congrArg List.getLast? e
   simp at this
   exact hc this
theorem stat_nil {A : AT} {c : ByteArray} {fo : Bool} {p : ByteArray} (h : p.size = 0) : (A.stat c p fo).1 = 5 := by
 have hp : p = ⟨⟨[]⟩⟩ := bytes_ext (List.eq_nil_of_length_eq_zero (by rw [<- size_list]; exact h))
 subst hp; rfl
theorem s_rtAt {A : AT} {N : Nat} {bf : Nat} {M : RfM} (hI : Wk.Inv A) (hB : Bd N A) (hN : N <= 100000000) : ∀ (f : Nat) (path : ByteArray), 256 <= f + path.size -> path.size <= 100000 -> ∀ {σ : H}, RfIn σ bf A M -> ∀ {K : KH},
 (∀ t y σ' ρ, Gr σ σ' -> Gr ρ σ' -> (∀ b, σ b ≠ none -> ρ b = none) -> ((A.take f path).1 = 0 -> t = (A.take f path).2 /\ SlAt ρ t.kids y) -> K (.tuple ⟨[.agg ⟨trC t y⟩, .int .i64 (A.take f path).1]⟩) σ') ->
 callW Tryz.prog 89 [.pointer (some ⟨bf, 0, none⟩), .string path] K σ := by
 intro f
 induction f with
 | zero =>
  intro path hf hp σ hM K hK
  refine c89 _ _ ?_
  unfold g89
  refine al_i ?_; intro b3 σ1 g1 e1 n1
  refine call_i (s_rfStat hI hB hN (hM.gr g1) _ _ _ ?_)
  rw [stat_long hI (by omega)]
  intro σ2 L g2
  (refine app_of rfl ?_; try dsimp only)
  refine al_i ?_; intro b9 σ3 g3 e3 n3
  refine st_i2 e3 sz_Inode (by rfl) (by rfl) ?_; intro σ4 p4
  have n39 : b3 ≠ b9 := ne_fr n3 (isSome_of (g2.get e1))
  have k3 := p4.get n39 (g3.get (g2.get e1))
  have f9 : σ b9 = none := none_of (g1.trans g2) n3
  refine br_t rfl ?_
  refine st_i2 k3 sz_Node (by rfl) (by rfl) ?_; intro σ5 p5
  refine rd_G (rdA_of' p5.same (by rfl)) ?_
  (refine app_of rfl ?_; try dsimp only)
  exact hK Tr.z ⟨none, 0, 0⟩ σ5 (fun _ => none) ((((g1.trans g2).trans g3).putF p4 f9).putF p5 n1) (gr_empty _) (fun _ _ => rfl) (fun h => by rw [AT.take] at h; cases h)
 | succ f ih =>
  intro path hf hp σ hM K hK
  refine c89 _ _ ?_
  unfold g89
  refine al_i ?_; intro b3 σ1 g1 e1 n1
  refine call_i (s_rfStat hI hB hN (hM.gr g1) _ _ _ ?_)
  have hTk : A.take (f + 1) path = (let x := A.stat ⟨⟨[47]⟩⟩ path false
   if x.1 ≠ 0 then (x.1, Tr.z)
   else if x.2.kind = 2 then
    let l := A.listF ⟨⟨[47]⟩⟩ path
    if l.1 ≠ 0 then (l.1, Tr.z)
    else
     let r := takeRow (AT.take A f) path l.2
     (r.1, .mk ⟨⟨[]⟩⟩ 2 false x.2.data r.2)
   else (0, .mk ⟨⟨[]⟩⟩ x.2.kind (xOf x.2.kind x.2.mode) x.2.data [])) := by rw [AT.take]
  simp only at hTk
  have hX : (A.stat ⟨⟨[47]⟩⟩ path false).1 = 0 -> 1 <= path.size /\ path.size <= 255 := by
   intro h0
   refine ⟨?_, ?_⟩
   ·rcases Nat.eq_zero_or_pos path.size with h | h
    ·rw [stat_nil h] at h0; cases h0
    ·exact h
   ·rcases Nat.lt_or_ge path.size 256 with h | h
    ·omega
    ·rw [stat_long hI h] at h0; cases h0
  generalize A.stat ⟨⟨[47]⟩⟩ path false = X at hTk hX ⊢
  obtain ⟨xe, xk, xm, xd, xl⟩ := X
  simp only at hTk hX ⊢
  intro σ2 L g2
  (refine app_of rfl ?_; try dsimp only)
  refine al_i ?_; intro b9 σ3 g3 e3 n3
  refine st_i2 e3 sz_Inode (by rfl) (by rfl) ?_; intro σ4 p4
  have n39 : b3 ≠ b9 := ne_fr n3 (isSome_of (g2.get e1))
  have k3 := p4.get n39 (g3.get (g2.get e1))
  have k9 := p4.same
  have f3 : σ b3 = none := n1
  have f9 : σ b9 = none := none_of (g1.trans g2) n3
  have hg4 : Lng σ σ4 := ⟨((g1.trans g2).trans g3).putF p4 f9⟩
  clear p4 e3 g3 g2 e1 g1
  by_cases hx : xe = 0
  case neg =>
   rw [if_pos hx] at hTk
   rw [hTk] at hK
   refine br_t (by simpa using hx) ?_
   refine st_i2 k3 sz_Node (by rfl) (by rfl) ?_; intro σ5 p5
   refine rd_G (rdA_of' p5.same (by rfl)) ?_
   (refine app_of rfl ?_; try dsimp only)
   exact hK Tr.z ⟨none, 0, 0⟩ σ5 (fun _ => none) (hg4.gr.putF p5 f3) (gr_empty _) (fun _ _ => rfl) (fun h => absurd h hx)
  subst hx
  rw [if_neg (by simp)] at hTk
  obtain ⟨hp1, hp2⟩ := hX rfl
  refine br_f rfl (rd_I (rdC_of k9 (by rfl)) (rd_S (rdC_of k9 (by rfl)) ?_))
  refine al_i ?_; intro b17 σ5 g5 e5 n5
  refine st_i2 e5 sz_Node (by rfl) (by rfl) ?_; intro σ6 p6
  have f17 : σ b17 = none := none_of hg4.gr n5
  have n317 : b3 ≠ b17 := ne_fr n5 (isSome_of k3)
  have n917 : b9 ≠ b17 := ne_fr n5 (isSome_of k9)
  have q3 := p6.get n317 (g5.get k3)
  have q9 := p6.get n917 (g5.get k9)
  have q17 := p6.same
  have hg6 : Lng σ σ6 := ⟨(hg4.gr.trans g5).putF p6 f17⟩
  clear p6 e5 g5 k3 k9 hg4
  refine j_i (fun j => ∀ τ (ex : Bool), Gr σ τ -> ex = xOf xk xm -> τ b3 = some (.cells ⟨[.string ⟨⟨[]⟩⟩, .int .i64 0, .bool false, .string ⟨⟨[]⟩⟩, .slice none 0 0]⟩ 73 (0, 0)) -> τ b9 = some (.cells ⟨[.int .i64 xk, .int .i64 xm, .string xd, .int .i64 L]⟩ 35 (0, 0)) -> τ b17 = some (.cells ⟨[.string ⟨⟨[]⟩⟩, .int .i64 xk, .bool ex, .string xd, .slice none 0 0]⟩ 73 (0, 0)) -> j (some ⟨bf, 0, none⟩) path (some ⟨b3, 0, none⟩) (some ⟨b9, 0, none⟩) (some ⟨b17, 0, none⟩) τ) ?_ ?_
  case refine_2 =>
   intro j hj
   refine rd_I (rdC_of q9 (by rfl)) ?_
   by_cases k1 : xk = 1
   ·refine br_t (by simpa using k1) (rd_I (rdC_of q9 (by rfl)) ?_)
    refine st_i2 q17 sz_bool (by rfl) (by rfl) ?_; intro σ7 p7
    exact hj σ7 _ (hg6.gr.putF p7 f17) (by unfold xOf; rw [k1]; rfl) (p7.get n317 q3) (p7.get n917 q9) p7.same
   ·refine br_f (by simpa using k1) (hj σ6 false hg6.gr ?_ q3 q9 q17)
    have : (xk == 1) = false := by simpa using k1
    unfold xOf; rw [this]; rfl
  clear q3 q9 q17 hg6
  intro τ ex hgτ hex k3 k9 k17
  have hgτ : Lng σ τ := ⟨hgτ⟩
  refine ptr_i (rd_I (rdC_of k9 (by rfl)) ?_)
  by_cases k2 : xk = 2
  case neg =>
   rw [if_neg k2] at hTk
   refine br_t (by simpa using k2) (ptr_i (rd_G (rdA_of' k17 (by rfl)) ?_))
   (refine app_of rfl ?_; try dsimp only)
   refine st_i2 k3 sz_Node (by rfl) (by rfl) ?_; intro σ7 p7
   refine ptr_i (rd_G (rdA_of' p7.same (by rfl)) ?_)
   (refine app_of rfl ?_; try dsimp only)
   have := hK (.mk ⟨⟨[]⟩⟩ xk ex xd []) ⟨none, 0, 0⟩ σ7 (fun _ => none) (hgτ.gr.putF p7 f3) (gr_empty _) (fun _ _ => rfl) (fun _ => ⟨by rw [hTk, hex], SlAt.nil⟩)
   rw [hTk] at this; exact this
  subst k2
  rw [if_pos rfl] at hTk
  have hex : ex = false := hex
  subst hex
  refine br_f rfl ?_
  refine call_i (s_rfList hI hB hN (hM.gr hgτ.gr) _ _ ?_)
  intro x σL hx
  have hLsz : (A.listF ⟨⟨[47]⟩⟩ path).1 = 0 -> ∀ s ∈ (A.listF ⟨⟨[47]⟩⟩ path).2, 1 <= s.size /\ s.size <= 56 := by
   intro _ s hs
   unfold AT.listF at hs
   simp only at hs
   split at hs
   ·simp at hs
   split at hs
   ·simp at hs
   obtain ⟨j', hj'⟩ := names_mem hI hs
   obtain ⟨n, hn, _, hl, _⟩ := hI.find hj'
   have hnm := (hI.ent _ n s j' hn hl).1
   refine ⟨?_, namedE_size hnm⟩
   rcases Nat.lt_or_ge 0 s.size with h | h
   ·exact h
   ·exfalso
    have h0 : s.data.toList = [] := List.eq_nil_of_length_eq_zero (by rw [<- size_list]; omega)
    have : s = ⟨⟨[]⟩⟩ := bytes_ext h0
    rw [this] at hnm; exact absurd hnm (by decide +kernel)
  have hLln : (A.listF ⟨⟨[47]⟩⟩ path).2.length <= N := by
   unfold AT.listF
   simp only
   split
   ·simp
   split
   ·simp
   exact names_len hB
  generalize A.listF ⟨⟨[47]⟩⟩ path = LL at *
  obtain ⟨le, ln⟩ := LL
  simp only at *
  (refine app_of rfl ?_; try dsimp only)
  have y3 := hx.1.get k3
  have y17 := hx.1.get k17
  have hgL : Lng σ σL := ⟨hgτ.gr.trans hx.1⟩
  by_cases hle : le = 0
  case neg =>
   rw [if_pos hle] at hTk
   rw [hTk] at hK
   refine br_t (by simpa using hle) ?_
   refine st_i2 y3 sz_Node (by rfl) (by rfl) ?_; intro σ7 p7
   refine ptr_i (rd_G (rdA_of' p7.same (by rfl)) ?_)
   (refine app_of rfl ?_; try dsimp only)
   exact hK Tr.z ⟨none, 0, 0⟩ σ7 (fun _ => none) (hgL.gr.putF p7 f3) (gr_empty _) (fun _ _ => rfl) (fun h => absurd h hle)
  subst hle
  rw [if_neg (by simp)] at hTk
  have hnm := hLsz rfl
  have hxr : RowsAt σL 1 (srows ln) x := hx.2.1.rows
  have hxl : x.len = ln.length := by rw [hxr.1]; simp [srows]
  have hx17 : ∀ g o ob, x.base = some ⟨g, o, none⟩ -> σL g = some ob -> g ≠ b17 /\ σ g = none := by
   intro g o ob hg _
   obtain ⟨_, _, ⟨q, _⟩ | ⟨g', cur, q1, q2, _⟩⟩ := hx.2.1
   ·rw [q] at hg; cases hg
   ·have hn := hx.2.2 g' q1
    rw [q1] at hg; cases hg
    refine ⟨fun e => ?_, none_of hgτ.gr hn⟩
    rw [e, k17] at hn; cases hn
  refine br_f rfl (loop_i ?_)
  intro R hR
  have key : ∀ (rest : List ByteArray) (i : Nat) (acc : List Tr) (σi τi ρi : H) (z : Sl) (rows : List (List Value)), ln.drop i = rest -> acc.length = i -> Gr σ τi -> Gr τi σi -> (∀ b, σL b ≠ none -> σ b = none -> τi b = none) -> (∀ b o, σL b = some o -> b ≠ b17 -> σi b = some o) ->
   σi b17 = some (.cells ⟨trC (.mk ⟨⟨[]⟩⟩ 2 false xd acc) z⟩ 73 (0, 0)) -> RowsOwn σi 73 5 rows z -> RowsTr ρi acc rows -> Gr ρi τi -> (∀ b, σ b ≠ none -> ρi b = none) -> (∀ g, z.base = some ⟨g, 0, none⟩ -> σL g = none /\ τi g = none) ->
   (takeRow (AT.take A f) path ln).1 = (takeRow (AT.take A f) path rest).1 -> ((takeRow (AT.take A f) path rest).1 = 0 -> (takeRow (AT.take A f) path ln).2 = acc ++ (takeRow (AT.take A f) path rest).2) ->
   R (some ⟨bf, 0, none⟩) path (some ⟨b3, 0, none⟩) (some ⟨b17, 0, none⟩) x (i : Int) σi := by
   intro rest
   induction rest with
   | nil =>
    intro i acc σi τi ρi z rows hd hacc G1 G2 hnew hkeep h17 hown hrt hρ1 hρ2 hgf r1 r2
    have hge : ln.length <= i := by simpa using hd
    refine hR _ _ _ _ _ _ _ ?_
    refine br_f (by rw [hxl]; simp only [decide_eq_false_iff_not]; omega) ?_
    obtain ⟨ρ', t1, t2, t3, t4⟩ := slAt_own hown hrt (hρ1.trans G2) fun g hx => none_of hρ1 (hgf g hx).2
    have hs' : ∀ b, σ b ≠ none -> ρ' b = none := fun b hb => t4 b (fun h => hb (none_of hgL.gr (hgf b h).1)) (hρ2 b hb)
    have hn3 : ρ' b3 = none := t4 b3 (fun h => by have := (hgf b3 h).1; rw [y3] at this; cases this) (none_of hρ1 (hnew b3 (by rw [y3]; simp) f3))
    have z3 := hkeep b3 _ y3 n317
    unfold trC at h17
    refine ptr_i (rd_G (rdA_of' h17 (by rfl)) ?_)
    (refine app_of rfl ?_; try dsimp only)
    refine st_i2 z3 sz_Node (by rfl) (by rfl) ?_; intro σ7 p7
    refine ptr_i (rd_G (rdA_of' p7.same (by rfl)) ?_)
    (refine app_of rfl ?_; try dsimp only)
    have := hK (.mk ⟨⟨[]⟩⟩ 2 false xd acc) z σ7 ρ' ((G1.trans G2).putF p7 f3) (t2.putF p7 hn3) hs' (fun _ => ⟨?_, t3⟩)
    ·rw [hTk] at this
     simp only at this
     rw [r1] at this
     exact this
    ·rw [hTk]; simp only; rw [r2 rfl]; simp [takeRow]
   | cons s rest ihr =>
    intro i acc σi τi ρi z rows hd hacc G1 G2 hnew hkeep h17 hown hrt hρ1 hρ2 hgf r1 r2
    obtain ⟨hsi, hlt, hd'⟩ := drop_get hd
    have hsmem := List.mem_of_getElem? hsi
    obtain ⟨hs1, hs2⟩ := hnm s hsmem
    have hxi : RowsAt σi 1 (srows ln) x := hxr.keep fun g o ob hg hob => hkeep g ob hob (hx17 g o ob hg hob).1
    obtain ⟨gx, ox, x1, x2⟩ := srowsAt hxi hsi
    refine hR _ _ _ _ _ _ _ ?_
    refine br_t (by rw [hxl]; simp only [decide_eq_true_eq]; omega) ?_
    have q1 : (⟨⟨[47]⟩⟩ : ByteArray).size = 1 := rfl
    refine if_i (by rw [q1]; omega) ?_
    rw [x1]
    refine ptr_i (if_i ⟨by omega, by rw [hxl]; omega⟩ (rd_S (by rw [Int.toNat_natCast]; exact x2) ?_))
    refine if_i (by rw [ByteArray.size_append, q1]; omega) ?_
    have hks := kidP_size path s
    obtain ⟨c, hc⟩ : ∃ c, path.data.toList[path.size - 1]? = some c := ⟨_, List.getElem?_eq_getElem (by rw [<- size_list]; omega)⟩
    have hke := kid_end (s := s) hc
    refine j_i (fun j => j (some ⟨bf, 0, none⟩) path (some ⟨b3, 0, none⟩) (some ⟨b17, 0, none⟩) x (i : Int) (kidP path s) σi) ?_ ?_
    case refine_2 =>
     intro j hj
     have ew : IntKind.i64.wrap (((path.size : Nat) : Int) - 1) = ((path.size - 1 : Nat) : Int) := by rw [wrap_id (by omega) (by omega)]; omega
     rw [ew]
     refine idx_l (c := c) (by omega) (by rw [Int.toNat_natCast]; exact hc) ?_
     have e47 : ((((c.toNat : Nat) : Int) : Int) == 47) = (c == 47) := u8_beq c 47
     rw [e47]
     by_cases h47 : c = 47
     ·rw [if_pos h47] at hke
      refine br_t (by simpa using h47) ?_
      refine ptr_i (if_i ⟨by omega, by rw [hxl]; omega⟩ (rd_S (by rw [Int.toNat_natCast]; exact x2) (if_i (by omega) ?_)))
      rw [<- hke]; exact hj
     ·rw [if_neg h47] at hke
      refine br_f (by simpa using h47) ?_
      rw [<- hke]; exact hj
    have hcall := ih (kidP path s) (by omega) (by omega) (hM.gr G1) (K := fun v τ' => ∃ t y ρ, v = .tuple ⟨[.agg ⟨trC t y⟩, .int .i64 (A.take f (kidP path s)).1]⟩ /\ Gr τi τ' /\ Gr ρ τ' /\ (∀ b, τi b ≠ none -> ρ b = none) /\ ((A.take f (kidP path s)).1 = 0 -> t = (A.take f (kidP path s)).2 /\ SlAt ρ t.kids y)) (fun t y τ' ρ h1 h3 h4 h2 => ⟨t, y, ρ, rfl, h1, h3, h4, h2⟩)
    refine call_from G2 hcall ?_
    rintro v σ16 τ16 ⟨t, y, ρ, rfl, m1, mρ, mρ2, m2⟩ m3 m4 m5
    rw [takeRow] at r1 r2
    simp only at r1 r2
    generalize A.take f (kidP path s) = tk at m2 r1 r2 ⊢
    obtain ⟨te, tt⟩ := tk
    simp only at m2 r1 r2 ⊢
    unfold trC
    (refine app_of rfl ?_; try dsimp only)
    have t17 : τi b17 = none := hnew b17 (by rw [y17]; simp) f17
    have T17 : τ16 b17 = none := m5 b17 (by rw [h17]; simp) t17
    have u17 := m4 b17 _ t17 h17
    have kp16 : ∀ b o, σL b = some o -> b ≠ b17 -> σ b = none -> σ16 b = some o := fun b o h1 h2 h3 => m4 b o (hnew b (by rw [h1]; simp) h3) (hkeep b o h1 h2)
    have u3 := kp16 b3 _ y3 n317 f3
    have T3 : τ16 b3 = none := m5 b3 (by rw [hkeep b3 _ y3 n317]; simp) (hnew b3 (by rw [y3]; simp) f3)
    refine al_i ?_; intro b74 σ17 g17 e17 n17
    have m74 : τ16 b74 = none := none_of m3 n17
    refine st_i2 e17 sz_Node (by rfl) (by rfl) ?_; intro σ18 p18
    have st18 : ∀ b o, σ16 b = some o -> σ18 b = some o := fun b o hb => p18.get (ne_fr n17 (isSome_of hb)) (g17.get hb)
    have k74 : σ18 b74 = some (.cells ⟨trC t y⟩ 73 (0, 0)) := p18.same
    have G18 : Gr τ16 σ18 := (m3.trans g17).putF p18 m74
    clear p18 e17 g17
    by_cases hte : te = 0
    case neg =>
     rw [if_pos hte] at r1
     refine br_t (by simpa using hte) ?_
     refine st_i2 (st18 b3 _ u3) sz_Node (by rfl) (by rfl) ?_; intro σ19 p19
     refine ptr_i (rd_G (rdA_of' p19.same (by rfl)) ?_)
     (refine app_of rfl ?_; try dsimp only)
     have := hK Tr.z ⟨none, 0, 0⟩ σ19 (fun _ => none) (((G1.trans m1).trans G18).putF p19 f3) (gr_empty _) (fun _ _ => rfl) (fun h => by rw [hTk] at h; simp only at h; rw [r1] at h; exact absurd h hte)
     rw [hTk] at this
     simp only at this
     rw [r1] at this
     exact this
    subst hte
    obtain ⟨rfl, hsl⟩ := m2 rfl
    rw [if_neg (by simp)] at r1 r2
    simp only at r1 r2
    have hx18 : RowsAt σ18 1 (srows ln) x := hxr.keep fun g o ob hg hob => st18 g ob (kp16 g ob hob (hx17 g o ob hg hob).1 (hx17 g o ob hg hob).2)
    obtain ⟨gx', ox', x1', x2'⟩ := srowsAt hx18 hsi
    refine br_f rfl ?_
    rw [x1']
    refine ptr_i (if_i ⟨by omega, by rw [hxl]; omega⟩ (rd_S (by rw [Int.toNat_natCast]; exact x2') ?_))
    unfold trC at k74
    refine st_i2 k74 sz_string (by rfl) (by rfl) ?_; intro σ19 p19
    have n1774 : b17 ≠ b74 := ne_fr n17 (isSome_of u17)
    have st19 : ∀ b o, σ16 b = some o -> σ19 b = some o := fun b o hb => p19.get (ne_fr n17 (isSome_of hb)) (st18 b o hb)
    have k19 : σ19 b74 = some (.cells ⟨trC (t.named s) y⟩ 73 (0, 0)) := by
     have := p19.same
     obtain ⟨tn, tkd, tex, td, tks⟩ := t
     exact this
    have G19 : Gr τ16 σ19 := G18.putF p19 m74
    clear p19
    have u17' := st19 b17 _ u17
    unfold trC at u17' k19
    refine ptr_i (rd_L (rdC_of u17' (by rfl)) (rd_G (rdA_of' k19 (by rfl)) ?_))
    (refine app_of rfl ?_; try dsimp only)
    have hN19 : RNew τ16 σ19 73 5 rows z := ⟨G19, hown.keep fun g o hgz ho => st19 g o (m4 g o (hgf g hgz).2 ho), fun g hgz => m5 g (hown.has hgz) (hgf g hgz).2⟩
    have hal : acc.length <= N := by omega
    refine RNew.app1 el_Node hN19 (r := trC (t.named s) y) rfl rfl (by rw [hrt.len]; omega) ?_
    intro z' σ21 hN21 hk hdd
    have hz17 : z.base ≠ some ⟨b17, 0, none⟩ := fun e => by have := (hgf b17 e).1; rw [y17] at this; cases this
    have hz17' : z'.base ≠ some ⟨b17, 0, none⟩ := fun e => by
     rcases hdd b17 e with q | q
     ·exact hz17 q
     ·rw [u17'] at q; cases q
    refine ptr_i ?_
    refine st_i2 (hk b17 _ u17' hz17) sz_Nodes (by rfl) (by rfl) ?_; intro σ22 p22
    have hN22 := hN21.putF p22 T17 hz17'
    have hnk : (t.named s).kids = t.kids := by obtain ⟨tn, tkd, tex, td, tks⟩ := t; rfl
    rw [wrapS (i := i) (by omega)]
    have hgo : ∀ b o, σL b = some o -> z.base ≠ some ⟨b, 0, none⟩ := fun b o hb e => by have := (hgf b e).1; rw [hb] at this; cases this
    refine ihr (i + 1) (acc ++ [t.named s]) σ22 τ16 (ρi.union ρ) z' (rows ++ [trC (t.named s) y]) hd' (by simp [hacc]) (G1.trans m1) hN22.1 ?_ ?_ p22.same hN22.2.1 ?_ (gr_union (hρ1.trans m1) mρ) ?_ ?_ r1 ?_
    ·intro b hb hs
     by_cases e1 : b = b17
     ·rw [e1]; exact T17
     ·refine m5 b ?_ (hnew b hb hs)
      cases h : σL b with
      | none => exact absurd h hb
      | some o => rw [hkeep b o h e1]; simp
    ·intro b o hb h1
     refine p22.get h1 ?_
     cases hs : σ b with
     | none => exact hk b o (st19 b o (kp16 b o hb h1 hs)) (hgo b o hb)
     | some o' =>
      have h3 := hgL.gr.get hs
      rw [h3] at hb; cases hb
      exact hN21.1.get (m1.get (G1.get hs))
    ·have hdis : ∀ b, ρi b ≠ none -> ρ b = none := fun b hb => mρ2 b (fun h => hb (none_of hρ1 h))
     exact (hrt.gr (gr_left _ _)).snoc (trAt_iff.2 ⟨y, rfl, by rw [hnk]; exact hsl.gr (gr_right hdis)⟩)
    ·intro b hb
     exact union_none (hρ2 b hb) (mρ2 b (fun h => hb (none_of G1 h)))
    ·intro g hgz
     refine ⟨?_, hN22.2.2 g hgz⟩
     rcases hdd g hgz with q | q
     ·exact (hgf g q).1
     ·cases h : σL g with
      | none => rfl
      | some o =>
       by_cases e : g = b17
       ·rw [e, u17'] at q; cases q
       ·cases hs : σ g with
        | none => rw [st19 g o (kp16 g o h e hs)] at q; cases q
        | some o' => rw [G19.get (m1.get (G1.get hs))] at q; cases q
    ·intro h0
     rw [r2 h0]; simp
  refine key ln 0 [] σL σ (fun _ => none) ⟨none, 0, 0⟩ [] rfl rfl (Gr.refl _) hgL.gr (fun b _ h => h) (fun b o h _ => h) y17 (RowsOwn.nil _ _ _) trivial (gr_empty _) (fun _ _ => rfl) (fun g h => by cases h) rfl (fun _ => by simp)
theorem s_rtOf {A : AT} {N : Nat} {σ : H} {bf : Nat} {M : RfM} (hI : Wk.Inv A) (hB : Bd N A) (hN : N <= 100000000) (hM : RfIn σ bf A M) (path : ByteArray) (hp : path.size <= 100000) (hT : (A.take 300 path).1 = 0 -> (A.take 300 path).2.total <= 1000000000000) {K : KH}
 (hK : ∀ y σ' ρ, Gr σ σ' -> Gr ρ σ' -> (∀ b, σ b ≠ none -> ρ b = none) -> SlAt ρ (A.canonF path).2.kids y -> K (.tuple ⟨[.agg ⟨trC (A.canonF path).2 y⟩, .int .i64 (A.canonF path).1]⟩) σ') : callW Tryz.prog 37 [.pointer (some ⟨bf, 0, none⟩), .string path] K σ := by
 refine c37 _ _ ?_
 unfold g37
 refine al_i ?_; intro b3 σ1 g1 e1 n1
 refine call_from g1 (s_rtAt hI hB hN 300 path (by omega) hp hM (K := fun v τ' => ∃ t y ρ, v = .tuple ⟨[.agg ⟨trC t y⟩, .int .i64 (A.take 300 path).1]⟩ /\ Gr σ τ' /\ Gr ρ τ' /\ (∀ b, σ b ≠ none -> ρ b = none) /\ ((A.take 300 path).1 = 0 -> t = (A.take 300 path).2 /\ SlAt ρ t.kids y)) (fun t y τ' ρ h1 h3 h4 h2 => ⟨t, y, ρ, rfl, h1, h3, h4, h2⟩)) ?_
 rintro v σ2 τ2 ⟨t, y, ρ, rfl, m1, mρ, mρ2, m2⟩ m3 m4 m5
 have k3 := m4 b3 _ n1 e1
 have t3 : τ2 b3 = none := m5 b3 (by rw [e1]; simp) n1
 have canonE : A.canonF path = if (A.take 300 path).1 ≠ 0 then ((A.take 300 path).1, Tr.z) else if (A.take 300 path).2.check ≠ 0 then ((A.take 300 path).2.check, Tr.z) else (0, (A.take 300 path).2) := rfl
 rw [canonE] at hK
 clear canonE
 generalize A.take 300 path = T at hK hT m2 ⊢
 obtain ⟨te, tt⟩ := T
 simp only at hK hT m2 ⊢
 unfold trC
 (refine app_of rfl ?_; try dsimp only)
 refine al_i ?_; intro b10 σ3 g3 e3 n3
 have n310 : b3 ≠ b10 := ne_fr n3 (isSome_of k3)
 refine st_i2 e3 sz_Node (by rfl) (by rfl) ?_; intro σ4 p4
 have k3' := p4.get n310 (g3.get k3)
 have k10 : σ4 b10 = some (.cells ⟨trC t y⟩ 73 (0, 0)) := p4.same
 have G4 : Gr τ2 σ4 := m3.trans (g3.putF p4 n3)
 clear p4 g3 e3
 unfold trC at k10
 have bad : ∀ e : Int, (∀ y σ' ρ, Gr σ σ' -> Gr ρ σ' -> (∀ b, σ b ≠ none -> ρ b = none) -> SlAt ρ Tr.z.kids y -> K (.tuple ⟨[.agg ⟨trC Tr.z y⟩, .int .i64 e]⟩) σ') -> ∀ (F : ByteArray -> Int -> Bool -> ByteArray -> Sl -> H -> Prop), (∀ σ', K (.tuple ⟨[.agg ⟨[.string ⟨⟨[]⟩⟩, .int .i64 0, .bool false, .string ⟨⟨[]⟩⟩, .slice none 0 0]⟩, .int .i64 e]⟩) σ' -> F ⟨⟨[]⟩⟩ 0 false ⟨⟨[]⟩⟩ ⟨none, 0, 0⟩ σ') -> stW Tryz.prog 73 (.pointer (some ⟨b3, 0, none⟩)) (.agg ⟨[.string ⟨⟨[]⟩⟩, .int .i64 0, .bool false, .string ⟨⟨[]⟩⟩, .slice none 0 0]⟩) (ptrW (some ⟨b3, 0, none⟩) fun b o => rdT (rdA 5 b o) (.one (.agg [.str, (.int .i64), .bool, .str, .slc])) F) σ4 := by
  intro e hK F hF
  refine st_i2 k3' sz_Node (by rfl) (by rfl) ?_; intro σ5 p5
  refine ptr_i (rd_G (rdA_of' p5.same (by rfl)) ?_)
  (refine app_of rfl ?_; try dsimp only)
  exact hF σ5 (hK ⟨none, 0, 0⟩ σ5 (fun _ => none) (m1.trans (G4.putF p5 t3)) (gr_empty _) (fun _ _ => rfl) SlAt.nil)
 by_cases he : te = 0
 case neg =>
  rw [if_pos he] at hK
  refine j_d (br_f (by simpa using he) (br_t (by simpa using he) (bad te hK _ fun σ' h => h)))
 subst he
 rw [if_neg (by simp)] at hK
 obtain ⟨rfl, hs⟩ := m2 rfl
 refine j_d (br_t rfl (rd_G (rdA_of' k10 (by rfl)) ?_))
 (refine app_of rfl ?_; try dsimp only)
 refine call_i (s_rtCheck t y (hs.gr (mρ.trans G4)) (hT rfl) (app_I ?_))
 by_cases hc : t.check = 0
 case neg =>
  rw [if_pos hc] at hK
  refine br_t (by simpa using hc) (bad t.check hK _ fun σ' h => h)
 rw [if_neg (by simpa using hc)] at hK
 rw [hc]
 refine br_f rfl (ptr_i (rd_G (rdA_of' k10 (by rfl)) ?_))
 (refine app_of rfl ?_; try dsimp only)
 refine st_i2 k3' sz_Node (by rfl) (by rfl) ?_; intro σ5 p5
 refine ptr_i (rd_G (rdA_of' p5.same (by rfl)) ?_)
 (refine app_of rfl ?_; try dsimp only)
 exact hK y σ5 ρ (m1.trans (G4.putF p5 t3)) (mρ.trans (G4.putF p5 t3)) mρ2 hs
end Go.Proofs.YtbjbeajbckcecaaGreatDoor

namespace Go.Wk
open Go Go.HL
def AN.unl (n : AN) : AN := { n with links := 0 }
theorem unl_of {n m : AN} (h : n.unl = m.unl) : n.kind = m.kind /\ n.mode = m.mode /\ n.data = m.data /\ n.up = m.up /\ n.ents = m.ents := by
 cases n; cases m; simp only [AN.unl, AN.mk.injEq] at h; exact ⟨h.1, h.2.1, h.2.2.1, h.2.2.2.2.1, h.2.2.2.2.2⟩
theorem unl_some {o : Option AN} {n : AN} (h : o.map AN.unl = (some n).map AN.unl) : ∃ m, o = some m /\ m.unl = n.unl := by
 cases o with
 | none => cases h
 | some m => exact ⟨m, rfl, by simpa using h⟩
theorem keys_low {A : AT} (h : Inv A) {dir : Int} {nd nd' : AN} (hd : A.get dir = some nd) : ∀ k ∈ keysL (A.set dir nd').nodes, 1 <= k /\ k <= ((A.last.toNat : Nat) : Int) := by
 intro k hk
 cases hg : (A.set dir nd').get k with
 | none => exact absurd hk (lk_none_iff.1 hg)
 | some m =>
  rw [AT.get_set] at hg
  by_cases e : k = dir
  ·subst e; have := h.low k nd hd; omega
  ·rw [if_neg e] at hg; have := h.low k m hg; omega
theorem unlinked_like {A : AT} {N : Nat} (h : Inv A) (hb : Bd N A) (hN : N < 4611686018427387904) {dir ino : Int} {name : ByteArray} {nd nn : AN} (he : A.unlinkE dir name = 0) (hd : A.get dir = some nd) (hf : A.find dir name = some ino) (hnn : A.get ino = some nn) :
 ino ≠ dir /\ ino ≠ 1 /\ (A.unlinked dir name).qi = A.qi /\ (A.unlinked dir name).qb = A.qb /\ (A.unlinked dir name).last = A.last /\
 ∀ j, ((A.unlinked dir name).get j).map AN.unl = (if j = ino /\ sumL (cntE ino) (A.set dir { nd with ents := rm name nd.ents }).nodes A.last.toNat = 0 then none else (A.set dir { nd with ents := rm name nd.ents }).get j).map AN.unl := by
 obtain ⟨_, ino', hf', hem⟩ := unlinkE_z he
 rw [hf] at hf'; cases hf'
 obtain ⟨nd', hd', _, hlk, hi1, nn', hnn', hup⟩ := h.find hf
 rw [hd] at hd'; cases hd'
 rw [hnn] at hnn'; cases hnn'
 have hens := hem nn hnn
 have hne : ino ≠ dir := by
  intro e; subst e; rw [hd] at hnn; cases hnn
  rw [hens] at hlk; simp [lk] at hlk
 obtain ⟨hl1, hl2, hl3⟩ := h.links ino nn hnn hi1
 have e1 : A.ent dir (rm name) = A.set dir { nd with ents := rm name nd.ents } := by unfold AT.ent; rw [hd]
 have g1 : (A.set dir { nd with ents := rm name nd.ents }).get ino = some nn := by rw [AT.get_set_ne _ _ hne]; exact hnn
 have hlb : nn.links <= N := hb.links ino nn hnn
 have wl : wr (nn.links - 1) = nn.links - 1 := wr_id (by omega) (by omega)
 have hX : sumL (cntE ino) (A.set dir { nd with ents := rm name nd.ents }).nodes A.last.toNat + 1 = A.refs ino := by
  have q1 : sumL (cntE ino) (A.set dir { nd with ents := rm name nd.ents }).nodes A.last.toNat = sumF (cntE ino) (A.set dir { nd with ents := rm name nd.ents }).nodes := sumL_all _ _ _ (nodup_up h.nodup) (keys_low h hd)
  rw [q1]
  have q2 := AT.sum_set A (cntE ino) dir { nd with ents := rm name nd.ents }
  rw [hd] at q2
  simp only [Option.map_some, Option.getD_some] at q2
  have q3 := sumF_rm (one ino) name nd.ents
  rw [hlk] at q3
  have q4 : cntE ino { nd with ents := rm name nd.ents } + 1 = cntE ino nd := by simpa [cntE, one] using q3
  unfold AT.refs
  omega
 generalize hXX : A.set dir { nd with ents := rm name nd.ents } = X at *
 have xq : X.qi = A.qi /\ X.qb = A.qb /\ X.last = A.last := by rw [<- hXX]; exact ⟨rfl, rfl, rfl⟩
 have xn : (keysL X.nodes).Nodup := by rw [<- hXX]; exact nodup_up h.nodup
 have e2 : A.unlinked dir name = if nn.links - 1 = 0 then { X.set ino { nn with links := nn.links - 1 } with nodes := rm ino (X.set ino { nn with links := nn.links - 1 }).nodes, ui := wr (A.ui - 1), ub := wr (A.ub - nn.data.size) } else X.set ino { nn with links := nn.links - 1 } := by
  unfold AT.unlinked
  rw [hf]
  simp only [Option.getD_some]
  rw [e1]
  unfold AT.mod
  rw [g1]
  simp only
  rw [AT.get_set_self, wl]
  by_cases hz : nn.links - 1 = 0
  ·rw [if_pos hz]
   have : (nn.links - 1 == 0) = true := by simpa using hz
   simp only [this]; rfl
  ·rw [if_neg hz]
   have : (nn.links - 1 == 0) = false := by simpa using hz
   simp only [this]; rfl
 refine ⟨hne, hi1, ?_, ?_, ?_, fun j => ?_⟩
 ·rw [e2]; split <;> exact xq.1
 ·rw [e2]; split <;> exact xq.2.1
 ·rw [e2]; split <;> exact xq.2.2
 rw [e2]
 by_cases hz : nn.links - 1 = 0
 ·have hs : sumL (cntE ino) X.nodes A.last.toNat = 0 := by omega
  rw [if_pos hz]
  show (lk j (rm ino (up ino _ X.nodes))).map AN.unl = _
  rw [lk_rm (nodup_up xn), lk_up]
  by_cases e : j = ino
  ·have hc : (j == ino) = true := by simpa using e
   simp only [hc, if_true]
   rw [if_pos ⟨e, hs⟩]
  ·have : (j == ino) = false := by simpa using e
   simp only [this, Bool.false_eq_true, if_false]
   rw [if_neg (fun h => e h.1)]; rfl
 ·have hs : sumL (cntE ino) X.nodes A.last.toNat ≠ 0 := by omega
  rw [if_neg hz, if_neg (fun h => hs h.2), AT.get_set]
  by_cases e : j = ino
  ·rw [if_pos e, e, g1]; rfl
  ·rw [if_neg e]
theorem apart_within {A : AT} (h : Inv A) {ino : Int} (hi : ino ≠ 1) : ∀ (f : Nat) (d : Int) (b : Bool), A.isDir d -> A.within ino f d = some b -> A.apart ino f d = some (!b) := by
 intro f
 induction f with
 | zero => intro d b _ hw; cases hw
 | succ f ih =>
  intro d b hd hw
  rw [AT.within] at hw
  rw [AT.apart]
  by_cases e1 : d = ino
  ·rw [if_pos e1] at hw; cases hw
   rw [if_neg (by omega), if_pos e1]; rfl
  ·rw [if_neg e1] at hw
   by_cases e2 : d = 1
   ·rw [if_pos e2] at hw; cases hw
    rw [if_pos e2]; rfl
   ·rw [if_neg e2] at hw
    rw [if_neg e2, if_neg e1]
    have hd' := h.isDir_up hd
    obtain ⟨n, hn, hk⟩ := hd
    have hu : A.upOf d = n.up := by unfold AT.upOf; rw [hn]; rfl
    rw [hu] at hw hd'
    rw [hn]
    exact ih n.up b hd' hw
theorem within_dir {A : AT} (h : Inv A) {ino : Int} : ∀ (f : Nat) (d : Int), A.isDir d -> A.within ino f d = some true -> A.isDir ino := by
 intro f
 induction f with
 | zero => intro d _ hw; cases hw
 | succ f ih =>
  intro d hd hw
  rw [AT.within] at hw
  by_cases e1 : d = ino
  ·rw [<- e1]; exact hd
  ·rw [if_neg e1] at hw
   by_cases e2 : d = 1
   ·rw [if_pos e2] at hw; cases hw
   ·rw [if_neg e2] at hw; exact ih _ (h.isDir_up hd) hw
theorem within_same {A U : AT} (h : Inv U) (hu : ∀ k, U.isDir k -> A.upOf k = U.upOf k) {ino : Int} : ∀ (f : Nat) (d : Int), U.isDir d -> U.within ino f d = A.within ino f d := by
 intro f
 induction f with
 | zero => intro d _; rfl
 | succ f ih =>
  intro d hd
  rw [AT.within, AT.within, hu d hd, ih _ (h.isDir_up hd)]
theorem apart_mono {A : AT} {ino : Int} : ∀ {f : Nat} {d : Int} {b : Bool}, A.apart ino f d = some b -> A.apart ino (f + 1) d = some b := by
 intro f
 induction f with
 | zero => intro d b h; cases h
 | succ f ih =>
  intro d b h
  rw [AT.apart] at h ⊢
  by_cases e1 : d = 1
  ·rw [if_pos e1] at h ⊢; exact h
  ·rw [if_neg e1] at h ⊢
   by_cases e2 : d = ino
   ·rw [if_pos e2] at h ⊢; exact h
   ·rw [if_neg e2] at h ⊢
    cases hg : A.get d with
    | none => rw [hg] at h; cases h
    | some n => rw [hg] at h; exact ih h
structure MoveGo (A : AT) (src : Int) (name : ByteArray) (to : Int) (as_ : ByteArray) (ino : Int) (ns nt nn : AN) : Prop where
 hsrc : A.get src = some ns
 nod : A.get ino = some nn
 i1 : ino ≠ 1
 is : ino ≠ src
 it : ino ≠ to
 hto : (A.set src { ns with ents := rm name ns.ents }).get to = some nt
 free : lk as_ nt.ents = none
 enod : (keysL nt.ents).Nodup
 go : A.moveR src name to as_ 14 = (0, A.moved src name to as_)
 get : ∀ j, (A.moved src name to as_).get j = if j = ino then some (if nn.kind = 2 then { nn with up := to } else nn) else if j = to then some { nt with ents := up as_ ino nt.ents } else (A.set src { ns with ents := rm name ns.ents }).get j
 qi : (A.moved src name to as_).qi = A.qi
 qb : (A.moved src name to as_).qb = A.qb
 last : (A.moved src name to as_).last = A.last
theorem rm_len {κ α : Type} [BEq κ] (k : κ) (l : List (κ × α)) : (rm k l).length <= l.length := rm_sub.length_le
theorem move_go {A : AT} {N : Nat} (h : Inv A) (hb : Bd N A) {src to ino : Int} {name as_ : ByteArray} (hs : A.isDir src) (ht : A.isDir to) (hnm : namedE as_ = 0) (hf : A.find src name = some ino) (hfr : A.find to as_ = none) (hw : A.within ino 13 to = some false) :
 ∃ ns nt nn, MoveGo A src name to as_ ino ns nt nn /\ nt.ents.length <= N := by
 obtain ⟨ns, hns, hk, hlk, hi1, nn, hnn, hup⟩ := h.find hf
 have his : ino ≠ src := by
  intro e; subst e
  have hd : A.isDir ino := hs
  have := no_loop h hd hi1
  obtain ⟨m, hm, hm2⟩ := hd
  rw [hnn] at hm; cases hm
  apply this
  unfold AT.upOf; rw [hnn]; exact hup hm2
 have hit : ino ≠ to := by
  intro e; subst e
  rw [AT.within, if_pos rfl] at hw; cases hw
 obtain ⟨nt0, hnt0, hk0⟩ := ht
 have hfr0 : lk as_ nt0.ents = none := by unfold AT.find at hfr; rw [hnt0] at hfr; exact hfr
 have hgo : A.moveR src name to as_ 14 = (0, A.moved src name to as_) := by
  have h1 : A.moveE1 src name to as_ = 0 := by
   unfold AT.moveE1
   rw [AT.dirE_of hs, AT.dirE_of ⟨nt0, hnt0, hk0⟩, hnm, hf]; rfl
  have h2 : ¬ (A.moveE1 src name to as_ ≠ 0 \/ (src = to /\ name = as_)) := by
   rintro (h2 | ⟨e1, e2⟩)
   ·exact h2 h1
   ·subst e1; subst e2; rw [hf] at hfr; cases hfr
  have h3 : A.apart ino 13 to = some true := apart_within h hi1 13 to false ⟨nt0, hnt0, hk0⟩ hw
  have h4 : A.apart ino 14 to = some true := apart_mono h3
  unfold AT.moveR
  rw [if_neg h2, hfr, hf]
  simp [h4, firstE]
 have hset : A.ent src (rm name) = A.set src { ns with ents := rm name ns.ents } := by unfold AT.ent; rw [hns]
 have key : ∀ nt, (A.set src { ns with ents := rm name ns.ents }).get to = some nt -> A.moved src name to as_ = ((A.set src { ns with ents := rm name ns.ents }).set to { nt with ents := up as_ ino nt.ents }).set ino (if nn.kind = 2 then { nn with up := to } else nn) := by
  intro nt hnt
  unfold AT.moved
  rw [hf]
  simp only [Option.getD_some]
  rw [hset]
  have e2 : (A.set src { ns with ents := rm name ns.ents }).ent to (up as_ ino) = (A.set src { ns with ents := rm name ns.ents }).set to { nt with ents := up as_ ino nt.ents } := by unfold AT.ent; rw [hnt]
  rw [e2]
  unfold AT.mod
  rw [AT.get_set_ne _ _ hit, AT.get_set_ne _ _ his, hnn]
  simp only
  by_cases hk : nn.kind = 2 <;> simp [hk]
 have fin : ∀ nt, (A.set src { ns with ents := rm name ns.ents }).get to = some nt -> lk as_ nt.ents = none -> (keysL nt.ents).Nodup -> MoveGo A src name to as_ ino ns nt nn := by
  intro nt hnt h1 h2
  refine ⟨hns, hnn, hi1, his, hit, hnt, h1, h2, hgo, fun j => ?_, ?_, ?_, ?_⟩
  ·rw [key nt hnt, AT.get_set, AT.get_set]
  ·rw [key nt hnt]; rfl
  ·rw [key nt hnt]; rfl
  ·rw [key nt hnt]; rfl
 by_cases e : to = src
 ·subst e
  rw [hns] at hnt0; cases hnt0
  refine ⟨ns, { ns with ents := rm name ns.ents }, nn, fin _ (AT.get_set_self _ _ _) ?_ (nodup_rm (h.enod _ _ hns)), ?_⟩
  ·show lk as_ (rm name ns.ents) = none
   rw [lk_rm (h.enod _ _ hns), hfr0]; split <;> rfl
  ·show (rm name ns.ents).length <= N
   have h1 := rm_len name ns.ents
   have := hb.ents _ _ hns
   omega
 ·refine ⟨ns, nt0, nn, fin _ (by rw [AT.get_set_ne _ _ e]; exact hnt0) hfr0 (h.enod _ _ hnt0), hb.ents _ _ hnt0⟩
end Go.Wk

set_option maxRecDepth 100000
namespace Go.Proofs.YtbjbeajbckcecaaGreatDoor
open Go Go.HL Go.Wk
attribute [local irreducible] ptrW ifW brW andW rdT alW letJ stW muW biW vaW imW callT cvalT app callW invW callVW sizeT oW nilF oneK loopW rfW funW begW roundK exW idxW Gr Put
section
variable {σ σ' : H} {b : Nat} {A : AT} {M : RfM} {N : Nat}
theorem RfIn.like (h : RfIn σ b A M) {A' : AT} (q1 : A'.qi = A.qi) (q2 : A'.qb = A.qb) (q3 : A'.last = A.last) (hg : ∀ j, (A'.get j).map AN.unl = (A.get j).map AN.unl) : RfIn σ b A' M := by
 have hget : ∀ j m, A'.get j = some m -> ∃ m0, A.get j = some m0 /\ m0.kind = m.kind /\ m0.mode = m.mode /\ m0.data = m.data /\ m0.up = m.up /\ m0.ents = m.ents := by
  intro j m hm
  have := hg j
  rw [hm] at this
  obtain ⟨m0, h0, he⟩ := unl_some this.symm
  exact ⟨m0, h0, unl_of he⟩
 refine ⟨?_, ?_, ?_, ?_, h.wb, h.wt, ?_, ?_, h.has⟩
 ·rw [q1, q2]; exact h.top
 ·have : ptrRow A' M.cb = ptrRow A M.cb := by
   unfold ptrRow
   rw [q3]
   apply List.map_congr_left
   intro t _
   have := congrArg Option.isSome (hg ((t : Int) + 1))
   rw [Option.isSome_map, Option.isSome_map] at this
   rw [this]
  rw [this]; exact h.tab
 ·intro j m hm
  obtain ⟨m0, q1, q2, q3, q4, q5, q6⟩ := hget j m hm
  have := h.nod j m0 q1
  unfold nodeO upR at this ⊢
  rw [q2, q3, q4, q5] at this
  exact this
 ·intro j m hm
  obtain ⟨m0, q1, q2, q3, q4, q5, q6⟩ := hget j m hm
  have := h.ent j m0 q1
  rw [q6] at this
  exact this
 ·intro j m hm
  obtain ⟨m0, q1, _⟩ := hget j m hm
  exact h.wn j m0 q1
 ·intro j m g hm hg
  obtain ⟨m0, q1, _⟩ := hget j m hm
  exact h.we j m0 g q1 hg
theorem set_low (hL : ∀ i n, A.get i = some n -> 1 <= i /\ i <= A.last) {d : Int} {n n' : AN} (hn : A.get d = some n) : ∀ i m, (A.set d n').get i = some m -> 1 <= i /\ i <= (A.set d n').last := by
 intro i m hm
 rw [AT.get_set] at hm
 by_cases e : i = d
 ·rw [e]; exact hL _ _ hn
 ·rw [if_neg e] at hm; exact hL _ _ hm
theorem s_rfRename (hI : Wk.Inv A) (hB : Bd N A) (hN : N <= 100000000) {D : Nat -> Prop} (hA : RfAt σ b A D) (cwd src to : ByteArray) {K : KH}
 (hK : ∀ σ' D', RfAt σ' b (A.renameF cwd src to).2 D' -> Sep σ D σ' D' -> K (.int .i64 (A.renameF cwd src to).1) σ') :
 callW Tryz.prog 85 [.pointer (some ⟨b, 0, none⟩), .string cwd, .string src, .string to] K σ := by
 obtain ⟨M, hM, hD⟩ := hA
 refine c85 _ _ _ _ ?_
 unfold g85
 have same : ∀ (τ : H) (x : Int), A.renameF cwd src to = (x, A) -> Gr σ τ -> K (.int .i64 x) τ := by
  intro τ x hx hg
  rw [hx] at hK
  exact hK τ D ⟨M, hM.gr hg, hD⟩ (Sep.gr hg)
 refine call_i (s_rfGo hI hB (by omega) hM cwd src false ?_)
 intro σ1 g1
 have hpl := fun e => locate_place hI cwd src false e
 have hql := fun e => locate_place hI cwd to false e
 have hmk : A.renameF cwd src to = (let r := A.locate cwd src false
  if r.1 ≠ 0 then (r.1, A) else
   let s := A.locate cwd to false
   if s.1 ≠ 0 then (s.1, A) else if sEq r.2.name ⟨⟨[]⟩⟩ = true \/ sEq s.2.name ⟨⟨[]⟩⟩ = true then (2, A) else if r.2.there = false then (5, A) else if s.2.there = true /\ r.2.ino = s.2.ino then (0, A) else if A.overE r.2 s.2 ≠ 0 then (A.overE r.2 s.2, A) else if s.2.there = true then (let u := A.unlinkR s.2.dir s.2.name; if u.1 ≠ 0 then u else u.2.moveR r.2.dir r.2.name s.2.dir s.2.name 14) else A.moveR r.2.dir r.2.name s.2.dir s.2.name 14) := by
  unfold AT.renameF AT.both
  simp only
  by_cases h : (A.locate cwd src false).1 = 0
  ·simp only [h, ne_eq, not_true_eq_false, if_false]
  ·simp [h]
 generalize A.locate cwd src false = r at hpl hmk ⊢
 obtain ⟨e, p⟩ := r
 simp only at hmk
 unfold plL
 by_cases he : e = 0
 case neg =>
  rw [if_neg he]
  unfold plZ
  (refine app_of rfl ?_; try dsimp only)
  refine al_i ?_; intro b8 σ2 g2 e2 n2
  refine st_i2 e2 sz_RPlace (by rfl) (by rfl) ?_; intro σ3 p3
  refine br_t (by simpa using he) (same σ3 e (by rw [hmk, if_pos he]) (g1.trans (g2.putF p3 n2)))
 subst he
 rw [if_pos rfl]
 rw [if_neg (by decide)] at hmk
 unfold plV
 (refine app_of rfl ?_; try dsimp only)
 refine al_i ?_; intro b8 σ2 g2 e2 n2
 refine st_i2 e2 sz_RPlace (by rfl) (by rfl) ?_; intro σ3 p3
 have hg3 : Gr σ σ3 := g1.trans (g2.putF p3 n2)
 have k8 : σ3 b8 = some (.cells ⟨[.int .i64 (p.dir - 1), .string p.name, .int .i64 (if p.there then p.ino - 1 else -1)]⟩ 171 (0, 0)) := p3.same
 have f8 : σ b8 = none := none_of g1 n2
 have hM3 := hM.gr hg3
 have P : PlOk A p := hpl rfl
 clear p3 e2
 refine br_f rfl (call_i (s_rfGo hI hB (by omega) hM3 cwd to false ?_))
 intro σ4 g4
 generalize A.locate cwd to false = r at hql hmk ⊢
 obtain ⟨e, q⟩ := r
 simp only at hmk
 unfold plL
 by_cases he : e = 0
 case neg =>
  rw [if_neg he]
  unfold plZ
  (refine app_of rfl ?_; try dsimp only)
  refine al_i ?_; intro b9 σ5 g5 e5 n5
  refine st_i2 e5 sz_RPlace (by rfl) (by rfl) ?_; intro σ6 p6
  refine br_t (by simpa using he) (same σ6 e (by rw [hmk, if_pos he]) ((hg3.trans g4).trans (g5.putF p6 n5)))
 subst he
 rw [if_pos rfl]
 rw [if_neg (by decide)] at hmk
 unfold plV
 (refine app_of rfl ?_; try dsimp only)
 refine al_i ?_; intro b9 σ5 g5 e5 n5
 refine st_i2 e5 sz_RPlace (by rfl) (by rfl) ?_; intro σ6 p6
 have hg6 : Gr σ σ6 := (hg3.trans g4).trans (g5.putF p6 n5)
 have k9 : σ6 b9 = some (.cells ⟨[.int .i64 (q.dir - 1), .string q.name, .int .i64 (if q.there then q.ino - 1 else -1)]⟩ 171 (0, 0)) := p6.same
 have f9 : σ b9 = none := none_of (hg3.trans g4) n5
 have k8 := (g4.trans (g5.putF p6 n5)).get k8
 have hM6 := hM.gr hg6
 have Q : PlOk A q := hql rfl
 clear p6 e5
 have hw8 := hM.new f8
 have hw9 := hM.new f9
 refine br_f rfl ?_
 refine j_i (fun j => ∀ t : Bool, t = (sEq p.name ⟨⟨[]⟩⟩ || sEq q.name ⟨⟨[]⟩⟩) -> j (some ⟨b, 0, none⟩) (some ⟨b8, 0, none⟩) (some ⟨b9, 0, none⟩) t σ6) ?_ ?_
 case refine_2 =>
  intro j hj
  refine rd_S (rdC_of k8 (by rfl)) ?_
  rw [<- sEq_eq]
  cases h1 : sEq p.name ⟨⟨[]⟩⟩ with
  | true => exact br_t rfl (hj true (by rw [h1]; rfl))
  | false =>
   refine br_f rfl (rd_S (rdC_of k9 (by rfl)) ?_)
   rw [<- sEq_eq]
   exact hj _ (by rw [h1]; rfl)
 intro t ht
 by_cases c2 : sEq p.name ⟨⟨[]⟩⟩ = true \/ sEq q.name ⟨⟨[]⟩⟩ = true
 ·rw [if_pos c2] at hmk
  exact br_t (by rw [ht]; simpa using c2) (same σ6 2 hmk hg6)
 rw [if_neg c2] at hmk
 have c2' : (sEq p.name ⟨⟨[]⟩⟩ || sEq q.name ⟨⟨[]⟩⟩) = false := by
  cases h1 : sEq p.name ⟨⟨[]⟩⟩ with
  | true => exact absurd (.inl h1) c2
  | false =>
   cases h2 : sEq q.name ⟨⟨[]⟩⟩ with
   | true => exact absurd (.inr h2) c2
   | false => rfl
 have hpn : p.name ≠ ⟨⟨[]⟩⟩ := fun e => c2 (.inl (by rw [e]; rfl))
 have hqn : q.name ≠ ⟨⟨[]⟩⟩ := fun e => c2 (.inr (by rw [e]; rfl))
 refine br_f (by rw [ht]; exact c2') (ptr_i (rd_I (rdC_of k8 (by rfl)) ?_))
 cases hpt : p.there with
 | false =>
  rw [if_pos hpt] at hmk
  exact br_t rfl (same σ6 5 hmk hg6)
 | true =>
 rw [if_neg (by rw [hpt]; decide)] at hmk
 obtain ⟨n, hn⟩ := PlOk.get hI P hpt
 have hlow := hI.low _ _ hn
 have hkn : A.kind p.ino = n.kind := by unfold AT.kind; rw [hn]; rfl
 rw [if_pos hpt] at k8
 have h11 : p.ino - 1 + 1 = p.ino := by omega
 have d11 : q.dir - 1 + 1 = q.dir := by omega
 rw [if_pos rfl]
 refine br_f (by simp only [decide_eq_false_iff_not]; omega) (ptr_i (rd_I (rdC_of k8 (by rfl)) (ptr_i (rd_I (rdC_of k9 (by rfl)) ?_))))
 have hqlow : q.there = true -> 1 <= q.ino := fun h => by
  obtain ⟨m, hm⟩ := PlOk.get hI Q h
  exact (hI.low _ _ hm).1
 by_cases c4 : q.there = true /\ p.ino = q.ino
 ·rw [if_pos c4] at hmk
  refine br_t ?_ (same σ6 0 hmk hg6)
  rw [if_pos c4.1, c4.2]; simp
 rw [if_neg c4] at hmk
 refine br_f ?_ ?_
 ·cases hqt : q.there with
  | true => rw [if_pos rfl]; have : p.ino ≠ q.ino := fun e => c4 ⟨hqt, e⟩; simp; omega
  | false => rw [if_neg (by decide)]; simp; omega
 obtain ⟨gs, os, s1, s2, s3⟩ := hM6.slot hI (d := p.ino - 1) (n := n) (by rw [h11]; exact hn)
 rw [h11] at s3
 refine ptr_i (rd_L (rdC_of hM6.top (by rfl)) (ptr_i (rd_I (rdC_of k8 (by rfl)) ?_)))
 rw [s1]
 refine ptr_i (if_i s2 (rd_P s3 (ptr_i (rd_I (rdC_of (hM6.nod _ _ hn) (by rfl)) ?_))))
 have hover : A.overE p q = (let e := if q.there = false then 0 else if A.kind q.ino = 2 /\ A.kind p.ino ≠ 2 then 7 else if A.kind p.ino = 2 /\ A.kind q.ino ≠ 2 then 8 else if (A.names q.ino).length > 0 then 20 else 0; if e ≠ 0 then e else if A.kind p.ino = 2 /\ (A.within p.ino 13 q.dir).getD false = true then 2 else if (A.deep 13 q.dir).getD 0 + A.levels 14 p.ino > 12 then 3 else 0):= rfl
 simp only [hkn] at hover
 generalize he1 : (if q.there = false then (0 : Int)
  else if A.kind q.ino = 2 /\ n.kind ≠ 2 then 7
  else if n.kind = 2 /\ A.kind q.ino ≠ 2 then 8
  else if (A.names q.ino).length > 0 then 20 else 0) = e1 at hover
 obtain ⟨dq, hdq, hdq12, hdq1, hdq2⟩ := hI.deep13 Q.1
 have hdirq : A.isDir (q.dir - 1 + 1) := by rw [d11]; exact Q.1
 obtain ⟨wi, hwi⟩ := within_some p.ino hdq
 have hll := levels_le A 14 p.ino
 refine j_i (fun j => e1 = 0 -> j (some ⟨b, 0, none⟩) (some ⟨b8, 0, none⟩) (some ⟨b9, 0, none⟩) (n.kind == 2) σ6) ?_ ?_
 case refine_2 =>
  intro j hj
  refine ptr_i (rd_I (rdC_of k9 (by rfl)) ?_)
  cases hqt : q.there with
  | false =>
   rw [if_neg (by decide)]
   rw [if_pos hqt] at he1
   exact br_f rfl (hj he1.symm)
  | true =>
   obtain ⟨m, hm⟩ := PlOk.get hI Q hqt
   have hmlow := hI.low _ _ hm
   have hkm : A.kind q.ino = m.kind := by unfold AT.kind; rw [hm]; rfl
   have hnm : A.names q.ino = sortN (keysL m.ents) := by unfold AT.names; rw [hm]
   have i11 : q.ino - 1 + 1 = q.ino := by omega
   rw [if_neg (by rw [hqt]; decide), hkm, hnm] at he1
   have k9' := k9
   rw [if_pos hqt] at k9'
   rw [if_pos rfl]
   have key : e1 ≠ 0 -> A.renameF cwd src to = (e1, A) := by
    intro h
    rw [hmk, hover]; simp [h]
   obtain ⟨gt, ot, t1, t2, t3⟩ := hM6.slot hI (d := q.ino - 1) (n := m) (by rw [i11]; exact hm)
   rw [i11] at t3
   refine br_t (by simp only [decide_eq_true_eq]; omega) (ptr_i (rd_L (rdC_of hM6.top (by rfl)) (ptr_i (rd_I (rdC_of k9' (by rfl)) ?_))))
   rw [t1]
   refine ptr_i (if_i t2 (rd_P t3 (ptr_i (rd_I (rdC_of (hM6.nod _ _ hm) (by rfl)) ?_))))
   refine j_i (fun j => j (some ⟨b, 0, none⟩) (some ⟨b8, 0, none⟩) (some ⟨b9, 0, none⟩) (n.kind == 2) (m.kind == 2) ((m.kind == 2) && !(n.kind == 2)) σ6) ?_ ?_
   case refine_2 =>
    intro j' hj'
    cases hmk2 : (m.kind == 2) with
    | true => rw [hmk2] at hj'; exact br_t rfl hj'
    | false => rw [hmk2] at hj'; exact br_f rfl hj'
   by_cases c7 : m.kind = 2 /\ n.kind ≠ 2
   ·rw [if_pos c7] at he1
    refine br_t (by simp [c7]) ?_
    have := same σ6 e1 (key (by rw [<- he1]; decide)) hg6
    rw [<- he1] at this; exact this
   rw [if_neg c7] at he1
   refine br_f ?_ ?_
   ·by_cases h : m.kind = 2
    ·have : n.kind = 2 := by
      apply Classical.byContradiction
      intro hc; exact c7 ⟨h, hc⟩
     simp [h, this]
    ·simp [h]
   refine j_i (fun j => j (some ⟨b, 0, none⟩) (some ⟨b8, 0, none⟩) (some ⟨b9, 0, none⟩) (n.kind == 2) ((n.kind == 2) && !(m.kind == 2)) σ6) ?_ ?_
   case refine_2 =>
    intro j' hj'
    cases hnk2 : (n.kind == 2) with
    | true => rw [hnk2] at hj'; exact br_t rfl hj'
    | false => rw [hnk2] at hj'; exact br_f rfl hj'
   by_cases c8 : n.kind = 2 /\ m.kind ≠ 2
   ·rw [if_pos c8] at he1
    refine br_t (by simp [c8]) ?_
    have := same σ6 e1 (key (by rw [<- he1]; decide)) hg6
    rw [<- he1] at this; exact this
   rw [if_neg c8] at he1
   refine br_f ?_ ?_
   ·by_cases h : n.kind = 2
    ·have : m.kind = 2 := by
      apply Classical.byContradiction
      intro hc; exact c8 ⟨h, hc⟩
     simp [h, this]
    ·simp [h]
   refine ptr_i (rd_L (rdC_of hM6.top (by rfl)) (ptr_i (rd_I (rdC_of k9' (by rfl)) ?_)))
   rw [t1]
   refine ptr_i (if_i t2 (rd_P t3 (ptr_i (rd_L (rdC_of (hM6.nod _ _ hm) (by rfl)) ?_))))
   have hyl : (M.ey q.ino).len = (sortN (keysL m.ents)).length := by have := (hM6.ent _ _ hm).1; simpa [eRow] using this
   by_cases c20 : (sortN (keysL m.ents)).length > 0
   ·rw [if_pos c20] at he1
    refine br_t (by simp only [decide_eq_true_eq]; omega) ?_
    have := same σ6 e1 (key (by rw [<- he1]; decide)) hg6
    rw [<- he1] at this; exact this
   rw [if_neg c20] at he1
   exact br_f (by simp only [decide_eq_false_iff_not]; omega) (hj he1.symm)
 intro he0
 subst he0
 simp only [ne_eq, not_true_eq_false, if_false] at hover
 refine j_i (fun j => ∀ t : Bool, t = ((n.kind == 2) && wi) -> j (some ⟨b, 0, none⟩) (some ⟨b8, 0, none⟩) (some ⟨b9, 0, none⟩) t σ6) ?_ ?_
 case refine_2 =>
  intro j hj
  cases hnk2 : (n.kind == 2) with
  | false => exact br_f rfl (hj false (by rw [hnk2]; rfl))
  | true =>
   refine br_t rfl (ptr_i (rd_I (rdC_of k9 (by rfl)) (ptr_i (rd_I (rdC_of k8 (by rfl)) (call_i (s_rfWithin hM6 hI hdirq (x := wi) (by rw [h11, d11]; exact hwi) (app_B ?_)))))))
   exact hj wi (by rw [hnk2]; rfl)
 intro t ht
 rw [hwi, hdq] at hover
 simp only [Option.getD_some] at hover
 by_cases c9 : n.kind = 2 /\ wi = true
 ·rw [if_pos c9] at hover
  refine br_t (by rw [ht]; simp [c9]) (same σ6 2 ?_ hg6)
  rw [hmk, hover]; rfl
 rw [if_neg c9] at hover
 refine br_f ?_ ?_
 ·rw [ht]
  by_cases h : n.kind = 2
  ·have : wi = false := by
    cases hw : wi with
    | false => rfl
    | true => exact absurd ⟨h, hw⟩ c9
   rw [this]; simp
  ·simp [h]
 refine ptr_i (rd_I (rdC_of k9 (by rfl)) (ptr_i (rd_I (rdC_of k8 (by rfl)) ?_)))
 refine call_i (s_rfDeep hM6 hI hdirq (x := dq) (by rw [d11]; exact hdq) (app_I ?_))
 refine and_i (rdC_of k8 (by rfl)) ?_
 refine call_i (s_rfLevels hM6 hI hB (by omega) 14 (p.ino - 1) n (by rw [h11]; exact hn) (by decide) (fun d _ hd => by have := deep_bound hd; omega) (app_I ?_))
 rw [h11, wrap_id (x := dq + A.levels 14 p.ino) (by omega) (by omega)]
 by_cases c12 : dq + A.levels 14 p.ino > 12
 ·rw [if_pos c12] at hover
  refine br_t (by simpa using c12) (same σ6 3 ?_ hg6)
  rw [hmk, hover]; rfl
 rw [if_neg c12] at hover
 refine br_f (by simpa using c12) ?_
 rw [if_neg (by rw [hover]; decide)] at hmk
 have hwf : A.within p.ino 13 q.dir = some false := by
  rw [hwi]
  cases hw : wi with
  | false => rfl
  | true =>
   exfalso
   rw [hw] at hwi
   obtain ⟨m, hm, hm2⟩ := within_dir hI 13 q.dir Q.1 hwi
   rw [hn] at hm; cases hm
   exact c9 ⟨hm2, hw⟩
 obtain ⟨hpnm, hpf⟩ := P.named hpn
 rw [if_pos hpt] at hpf
 obtain ⟨hqnm, hqf⟩ := Q.named hqn
 refine j_i (fun j => ∀ (U : AT) (τ : H) (M' : RfM), Wk.Inv U -> Bd N U -> RfIn τ b U M' -> (∀ c o, σ6 c = some o -> M.w c = none -> τ c = some o /\ M'.w c = none) -> U.isDir p.dir -> U.find p.dir p.name = some p.ino -> U.isDir q.dir -> U.find q.dir q.name = none -> U.within p.ino 13 q.dir = some false -> A.renameF cwd src to = U.moveR p.dir p.name q.dir q.name 14 -> j (some ⟨b, 0, none⟩) (some ⟨b8, 0, none⟩) (some ⟨b9, 0, none⟩) τ) ?_ ?_
 ·intro U τ M' hIU hBU hMU fr u1 u2 u3 u4 u5 u6
  obtain ⟨ns, nt, nn, G, hlen⟩ := move_go hIU hBU u1 u3 hqnm u2 u4 u5
  have hlastU := hBU.last
  obtain ⟨z8, w8⟩ := fr _ _ k8 hw8
  obtain ⟨z9, w9⟩ := fr _ _ k9 hw9
  have pd : p.dir - 1 + 1 = p.dir := by omega
  refine ptr_i (rd_I (rdC_of z8 (by rfl)) (ptr_i (rd_S (rdC_of z8 (by rfl)) ?_)))
  refine call_i (s_rfLeave hMU hIU.low (by rw [pd]; exact G.hsrc) (hIU.enod _ _ G.hsrc) (by have := hBU.ents _ _ G.hsrc; omega) ?_)
  intro τ1 M1 h1 fr1
  rw [pd] at h1
  refine app_U ?_
  obtain ⟨z8, w8⟩ := fr1 _ _ z8 w8
  obtain ⟨z9, w9⟩ := fr1 _ _ z9 w9
  refine ptr_i (rd_I (rdC_of z9 (by rfl)) (ptr_i (rd_S (rdC_of z9 (by rfl)) (ptr_i (rd_I (rdC_of z8 (by rfl)) ?_)))))
  refine call_i (s_rfEnter h1 (set_low hIU.low G.hsrc) (by show U.last <= _; omega) (by rw [d11]; exact G.hto) (by rw [h11, AT.get_set_ne _ _ G.is]; exact G.nod) (by have := G.it; omega) G.free G.enod (by omega) ?_)
  intro τ2 M2 hR fr2
  refine app_U ?_
  rw [h11, d11] at hR
  have h2 := hR (U.moved p.dir p.name q.dir q.name) G.qi G.qb G.last fun j => by rw [G.get j]
  rw [u6, G.go] at hK
  refine hK τ2 (fun c => M2.w c ≠ none) ⟨M2, h2, fun c => Iff.rfl⟩ (Sep.of_frame hD fun c o hc hw => ?_)
  obtain ⟨y1, y2⟩ := fr c o (hg6.get hc) hw
  obtain ⟨y3, y4⟩ := fr1 c o y1 y2
  exact fr2 c o y3 y4
 intro j hj
 refine ptr_i (rd_I (rdC_of k9 (by rfl)) ?_)
 cases hqt : q.there with
 | false =>
  rw [if_neg (by decide)]
  rw [if_neg (by rw [hqt]; decide)] at hmk
  rw [if_neg (by rw [hqt]; decide)] at hqf
  exact br_f rfl (hj A σ6 M hI hB hM6 (fun c o hc hw => ⟨hc, hw⟩) P.1 hpf Q.1 hqf hwf hmk)
 | true =>
  rw [if_pos hqt] at hmk hqf k9
  rw [if_pos rfl]
  have := hqlow hqt
  have i11 : q.ino - 1 + 1 = q.ino := by omega
  obtain ⟨m, hm⟩ := PlOk.get hI Q hqt
  obtain ⟨nd, hnd, hnd2⟩ := id Q.1
  have hmem : m.ents = [] := by
   rw [if_neg (by rw [hqt]; decide)] at he1
   have hnm : A.names q.ino = sortN (keysL m.ents) := by unfold AT.names; rw [hm]
   have hz : ¬ (A.names q.ino).length > 0 := by
    intro h
    have : ∀ (c c' : Prop) [Decidable c] [Decidable c'], (if c then (7 : Int) else if c' then 8 else if (A.names q.ino).length > 0 then 20 else 0) ≠ 0 := by
     intro c c' _ _
     rw [if_pos h]
     split
     ·decide
     ·split <;> decide
    exact this _ _ he1
   rw [hnm, (sortN_perm _).length_eq] at hz
   have : m.ents.length = 0 := by simp [keysL] at hz; simp [hz]
   exact List.eq_nil_of_length_eq_zero this
  have hue : A.unlinkE q.dir q.name = 0 := by
   unfold AT.unlinkE
   rw [AT.dirE_of Q.1, hqf]
   simp [firstE, hm, hmem]
  have hur : A.unlinkR q.dir q.name = (0, A.unlinked q.dir q.name) := by unfold AT.unlinkR; rw [if_pos hue]
  obtain ⟨U1, U2, _, _, _⟩ := unlinkR_ok hI hB (by omega) q.dir q.name
  rw [hur] at U1 U2 hmk
  simp only [ne_eq, not_true_eq_false, if_false] at hmk U1 U2
  obtain ⟨L1, L2, L3, L4, L5, L6⟩ := unlinked_like hI hB (by omega) hue hnd hqf hm
  have hnl : nd.ents.length <= N := hB.ents _ _ hnd
  have hlastA := hB.last
  refine br_t (by simp only [decide_eq_true_eq]; omega) (ptr_i (rd_I (rdC_of k9 (by rfl)) (ptr_i (rd_S (rdC_of k9 (by rfl)) ?_))))
  refine call_i (s_rfLeave hM6 hI.low (by rw [d11]; exact hnd) (hI.enod _ _ hnd) (by omega) ?_)
  intro τ1 M1 h1 fr1
  rw [d11] at h1
  refine app_U ?_
  obtain ⟨z8, w8⟩ := fr1 _ _ k8 hw8
  obtain ⟨z9, w9⟩ := fr1 _ _ k9 hw9
  refine ptr_i (rd_I (rdC_of z9 (by rfl)) ?_)
  have hXn : (A.set q.dir { nd with ents := rm q.name nd.ents }).get q.ino = some m := by rw [AT.get_set_ne _ _ L1]; exact hm
  refine call_i (s_rfGone h1 (set_low hI.low hnd) (by show A.last <= _; omega) (nodup_up hI.nodup) ?_ ?_ (by rw [i11]; exact hXn) (by omega) ?_)
  ·intro i k hk
   rw [AT.get_set] at hk
   by_cases e : i = q.dir
   ·rw [if_pos e] at hk; cases hk; exact nodup_rm (hI.enod _ _ hnd)
   ·rw [if_neg e] at hk; exact hI.enod _ _ hk
  ·intro i k hk
   rw [AT.get_set] at hk
   by_cases e : i = q.dir
   ·rw [if_pos e] at hk; cases hk
    have := rm_len q.name nd.ents
    show (rm q.name nd.ents).length <= _
    omega
   ·rw [if_neg e] at hk
    have := hB.ents _ _ hk; omega
  intro τ2 h2 fr2
  refine app_U ?_
  rw [i11] at h2
  have el : (A.set q.dir { nd with ents := rm q.name nd.ents }).last = A.last := rfl
  rw [el] at h2
  have hsp : RfIn τ2 b (A.unlinked q.dir q.name) M1 := by
   by_cases hs : sumL (cntE q.ino) (A.set q.dir { nd with ents := rm q.name nd.ents }).nodes A.last.toNat = 0
   ·rw [if_pos hs] at h2
    refine h2.like (by rw [L3]; rfl) (by rw [L4]; rfl) (by rw [L5]; rfl) fun j => ?_
    rw [L6 j, minus_get _ (nodup_up hI.nodup)]
    by_cases e : j = q.ino
    ·rw [if_pos ⟨e, hs⟩, if_pos e]
    ·rw [if_neg (fun h => e h.1), if_neg e]
   ·rw [if_neg hs] at h2
    refine h2.like (by rw [L3]; rfl) (by rw [L4]; rfl) (by rw [L5]; rfl) fun j => ?_
    rw [L6 j, if_neg (fun h => hs h.2)]
  have hpq : p.ino ≠ q.ino := fun e => c4 ⟨hqt, e⟩
  -- what is left behind it
  have back : ∀ j k, j ≠ q.ino -> (A.set q.dir { nd with ents := rm q.name nd.ents }).get j = some k -> ∃ k', (A.unlinked q.dir q.name).get j = some k' /\ k'.kind = k.kind /\ k'.ents = k.ents /\ k'.up = k.up := by
   intro j k hj hk
   have := L6 j
   rw [if_neg (fun h => hj h.1), hk] at this
   obtain ⟨k', hk', he⟩ := unl_some this
   obtain ⟨a1, _, _, a4, a5⟩ := unl_of he
   exact ⟨k', hk', a1, a5, a4⟩
  have hqd : (A.unlinked q.dir q.name).isDir q.dir /\ (A.unlinked q.dir q.name).find q.dir q.name = none := by
   obtain ⟨k', a1, a2, a3, _⟩ := back q.dir _ (Ne.symm L1) (AT.get_set_self _ _ _)
   refine ⟨⟨k', a1, by rw [a2]; exact hnd2⟩, ?_⟩
   unfold AT.find; rw [a1]
   show lk q.name k'.ents = none
   rw [a3]
   show lk q.name (rm q.name nd.ents) = none
   rw [lk_rm (hI.enod _ _ hnd)]; simp
  obtain ⟨np, hnp, hnp2, hplk, _, _, _, _⟩ := hI.find hpf
  have hpd : (A.unlinked q.dir q.name).isDir p.dir /\ (A.unlinked q.dir q.name).find p.dir p.name = some p.ino := by
   have hne : p.dir ≠ q.ino := by
    intro e; rw [e, hm] at hnp; cases hnp
    rw [hmem] at hplk; simp [lk] at hplk
   by_cases e : p.dir = q.dir
   ·rw [e] at hnp ⊢
    rw [hnd] at hnp; cases hnp
    obtain ⟨k', a1, a2, a3, _⟩ := back q.dir _ (Ne.symm L1) (AT.get_set_self _ _ _)
    refine ⟨⟨k', a1, by rw [a2]; exact hnd2⟩, ?_⟩
    unfold AT.find; rw [a1]
    show lk p.name k'.ents = some p.ino
    rw [a3]
    show lk p.name (rm q.name nd.ents) = some p.ino
    rw [lk_rm (hI.enod _ _ hnd)]
    have : (p.name == q.name) = false := by
     cases hb : (p.name == q.name) with
     | false => rfl
     | true =>
      have := eq_of_beq hb
      unfold AT.find at hqf
      rw [hnd] at hqf
      have hqf : lk q.name nd.ents = some q.ino := hqf
      rw [<- this, hplk] at hqf; injection hqf with hqf; exact absurd hqf hpq
    rw [this]; exact hplk
   ·obtain ⟨k', a1, a2, a3, _⟩ := back p.dir np hne (by rw [AT.get_set_ne _ _ e]; exact hnp)
    refine ⟨⟨k', a1, by rw [a2]; exact hnp2⟩, ?_⟩
    unfold AT.find; rw [a1]
    show lk p.name k'.ents = some p.ino
    rw [a3]; exact hplk
  have hup : ∀ k, (A.unlinked q.dir q.name).isDir k -> A.upOf k = (A.unlinked q.dir q.name).upOf k := by
   have bk := unlinkR_back hI (dir := q.dir) (name := q.name)
   rw [hur] at bk
   rintro k ⟨m', hm', _⟩
   obtain ⟨m0, b1, _, b3, _⟩ := bk k m' hm'
   unfold AT.upOf; rw [hm', b1]; simp [b3]
  refine hj (A.unlinked q.dir q.name) τ2 M1 U1 U2 hsp (fun c o hc hw => ?_) hpd.1 hpd.2 hqd.1 hqd.2 (by rw [within_same U1 hup 13 q.dir hqd.1]; exact hwf) hmk
  obtain ⟨y1, y2⟩ := fr1 c o hc hw
  exact fr2 c o y1 y2
end
attribute [local irreducible] bothW
theorem canonF_eq (A : AT) (path : ByteArray) : A.canonF path = if (A.take 300 path).1 ≠ 0 then ((A.take 300 path).1, Tr.z) else if (A.take 300 path).2.check ≠ 0 then ((A.take 300 path).2.check, Tr.z) else (0, (A.take 300 path).2) := rfl
theorem s_Of {A : AT} {N : Nat} {σ : H} {bf : Nat} {B : Nat -> Prop} (hI : Inv A) (hB : Bd N A) (hN : N <= 1000000000) (hF : FsAt σ bf A B) (path : ByteArray) (hp : path.size <= 100000) (hT : (A.take 300 path).1 = 0 -> (A.take 300 path).2.total <= 1000000000000000) {K : KH}
 (hK : ∀ y σ' ρ, Gr σ σ' -> Gr ρ σ' -> (∀ b, σ b ≠ none -> ρ b = none) -> SlAt ρ (A.canonF path).2.kids y -> K (.tuple ⟨[.agg ⟨trC (A.canonF path).2 y⟩, .int .i64 (A.canonF path).1]⟩) σ') : callW Tryz.prog 35 [.pointer (some ⟨bf, 0, none⟩), .string path] K σ := by
 refine c35 _ _ ?_
 unfold g35
 refine al_i ?_; intro b3 σ1 g1 e1 n1
 refine call_from g1 (s_at hI hB hN 300 path (by omega) hp hF (K := fun v τ' => ∃ t y ρ, v = .tuple ⟨[.agg ⟨trC t y⟩, .int .i64 (A.take 300 path).1]⟩ /\ Gr σ τ' /\ Gr ρ τ' /\ (∀ b, σ b ≠ none -> ρ b = none) /\ ((A.take 300 path).1 = 0 -> t = (A.take 300 path).2 /\ SlAt ρ t.kids y)) (fun t y τ' ρ h1 h3 h4 h2 => ⟨t, y, ρ, rfl, h1, h3, h4, h2⟩)) ?_
 rintro v σ2 τ2 ⟨t, y, ρ, rfl, m1, mρ, mρ2, m2⟩ m3 m4 m5
 have k3 := m4 b3 _ n1 e1
 have t3 : τ2 b3 = none := m5 b3 (by rw [e1]; simp) n1
 rw [canonF_eq] at hK
 generalize A.take 300 path = T at hK hT m2 ⊢
 obtain ⟨te, tt⟩ := T
 simp only at hK hT m2 ⊢
 unfold trC
 (refine app_of rfl ?_; try dsimp only)
 refine al_i ?_; intro b10 σ3 g3 e3 n3
 have n310 : b3 ≠ b10 := ne_fr n3 (isSome_of k3)
 refine st_i2 e3 sz_Node (by rfl) (by rfl) ?_; intro σ4 p4
 have k3' := p4.get n310 (g3.get k3)
 have k10 : σ4 b10 = some (.cells ⟨trC t y⟩ 73 (0, 0)) := p4.same
 have G4 : Gr τ2 σ4 := m3.trans (g3.putF p4 n3)
 clear p4 g3 e3
 unfold trC at k10
 have bad : ∀ e : Int, (∀ y σ' ρ, Gr σ σ' -> Gr ρ σ' -> (∀ b, σ b ≠ none -> ρ b = none) -> SlAt ρ Tr.z.kids y -> K (.tuple ⟨[.agg ⟨trC Tr.z y⟩, .int .i64 e]⟩) σ') -> ∀ (F : ByteArray -> Int -> Bool -> ByteArray -> Sl -> H -> Prop), (∀ σ', K (.tuple ⟨[.agg ⟨[.string ⟨⟨[]⟩⟩, .int .i64 0, .bool false, .string ⟨⟨[]⟩⟩, .slice none 0 0]⟩, .int .i64 e]⟩) σ' -> F ⟨⟨[]⟩⟩ 0 false ⟨⟨[]⟩⟩ ⟨none, 0, 0⟩ σ') -> stW Tryz.prog 73 (.pointer (some ⟨b3, 0, none⟩)) (.agg ⟨[.string ⟨⟨[]⟩⟩, .int .i64 0, .bool false, .string ⟨⟨[]⟩⟩, .slice none 0 0]⟩) (ptrW (some ⟨b3, 0, none⟩) fun b o => rdT (rdA 5 b o) (.one (.agg [.str, (.int .i64), .bool, .str, .slc])) F) σ4 := by
  intro e hK F hF
  refine st_i2 k3' sz_Node (by rfl) (by rfl) ?_; intro σ5 p5
  refine ptr_i (rd_G (rdA_of' p5.same (by rfl)) ?_)
  (refine app_of rfl ?_; try dsimp only)
  exact hF σ5 (hK ⟨none, 0, 0⟩ σ5 (fun _ => none) (m1.trans (G4.putF p5 t3)) (gr_empty _) (fun _ _ => rfl) SlAt.nil)
 by_cases he : te = 0
 case neg =>
  rw [if_pos he] at hK
  refine j_d (br_f (by simpa using he) (br_t (by simpa using he) (bad te hK _ fun σ' h => h)))
 subst he
 rw [if_neg (by simp)] at hK
 obtain ⟨rfl, hs⟩ := m2 rfl
 refine j_d (br_t rfl (rd_G (rdA_of' k10 (by rfl)) ?_))
 (refine app_of rfl ?_; try dsimp only)
 refine call_i (s_Check t y (hs.gr (mρ.trans G4)) (hT rfl) (app_I ?_))
 by_cases hc : t.check = 0
 case neg =>
  rw [if_pos hc] at hK
  refine br_t (by simpa using hc) (bad t.check hK _ fun σ' h => h)
 rw [if_neg (by simpa using hc)] at hK
 rw [hc]
 refine br_f rfl (ptr_i (rd_G (rdA_of' k10 (by rfl)) ?_))
 (refine app_of rfl ?_; try dsimp only)
 refine st_i2 k3' sz_Node (by rfl) (by rfl) ?_; intro σ5 p5
 refine ptr_i (rd_G (rdA_of' p5.same (by rfl)) ?_)
 (refine app_of rfl ?_; try dsimp only)
 exact hK y σ5 ρ (m1.trans (G4.putF p5 t3)) (mρ.trans (G4.putF p5 t3)) mρ2 hs
@[reducible] def bs (l : List UInt8) : ByteArray := ⟨⟨l⟩⟩
def u0 : AT := newT 20 200
def u1 : AT := (u0.mkdirF (bs [47]) (bs [111])).2
def u2 : AT := (u1.writeF (bs [47, 111]) (bs [120]) (bs [49]) false).2
def u3 : AT := (u2.chmodF (bs [47, 111]) (bs [120]) 448).2
def u4 : AT := (u3.symlinkF (bs [47, 111]) (bs [120]) (bs [108])).2
def u5 : AT := (u4.hardF (bs [47, 111]) (bs [120]) (bs [104])).2
theorem u0_ok : Inv u0 /\ Bd 1 u0 := newT_ok rfl
theorem u1_ok : OpOk 2 u0 (u0.mkdirF (bs [47]) (bs [111])) := mkdirF_ok u0_ok.1 u0_ok.2 (by decide) _ _
theorem u2_ok : OpOk 3 u1 (u1.writeF (bs [47, 111]) (bs [120]) (bs [49]) false) := writeF_ok u1_ok.inv u1_ok.bd (by decide) _ _ _ _ (by decide)
theorem u3_ok : OpOk 3 u2 (u2.chmodF (bs [47, 111]) (bs [120]) 448) := chmodF_ok u2_ok.inv u2_ok.bd _ _ _
theorem u4_ok : OpOk 4 u3 (u3.symlinkF (bs [47, 111]) (bs [120]) (bs [108])) := symlinkF_ok u3_ok.inv u3_ok.bd (by decide) _ _ _
theorem u5_ok : OpOk 5 u4 (u4.hardF (bs [47, 111]) (bs [120]) (bs [104])) := hardF_ok u4_ok.inv u4_ok.bd (by decide) _ _ _
theorem uv1 : (u0.mkdirF (bs [47]) (bs [111])).1 = 0 := by decide +kernel
theorem uv2 : (u1.writeF (bs [47, 111]) (bs [120]) (bs [49]) false).1 = 0 := by decide +kernel
theorem uv3 : (u2.chmodF (bs [47, 111]) (bs [120]) 448).1 = 0 := by decide +kernel
theorem uv4 : (u3.symlinkF (bs [47, 111]) (bs [120]) (bs [108])).1 = 0 := by decide +kernel
theorem uv5 : (u4.hardF (bs [47, 111]) (bs [120]) (bs [104])).1 = 0 := by decide +kernel
def uT : Tr := .mk ⟨⟨[]⟩⟩ 2 false ⟨⟨[]⟩⟩ [.mk ⟨⟨[104]⟩⟩ 1 true ⟨⟨[49]⟩⟩ [], .mk ⟨⟨[108]⟩⟩ 3 false ⟨⟨[120]⟩⟩ [], .mk ⟨⟨[120]⟩⟩ 1 true ⟨⟨[49]⟩⟩ []]
theorem ut1 : u5.take 300 (bs [47, 111]) = (0, uT) := by kernel_rfl
theorem ut2 : u5.take 300 (bs [47, 112]) = (5, Tr.z) := by kernel_rfl
theorem uc1 : u5.canonF (bs [47, 111]) = (0, uT) := by kernel_rfl
theorem uc2 : u5.canonF (bs [47, 112]) = (5, Tr.z) := by kernel_rfl
theorem uT_total : uT.total <= 100 := by decide +kernel
theorem uT_same : uT.same uT = true := by decide +kernel
theorem x_file (name data : ByteArray) (exec : Bool) {σ : H} {K : KH} (hK : K (.agg ⟨[.string name, .int .i64 1, .bool exec, .string data, .slice none 0 0]⟩) σ) : callW Tryz.prog 50 [.string name, .string data, .bool exec] K σ := by
 refine pure_i _ hK (c50 _ _ _ ?_)
 unfold g50
 first
 | exact ⟨rfl, Gr.refl _⟩
 | (refine al_i ?_; intro b σ1 g1 e1 n1
    first
    | (refine st_i2 e1 sz_Node (by rfl) (by rfl) ?_; intro σ2 p2
       refine rd_G (rdA_of' p2.same (by rfl)) ?_
       (refine app_of rfl ?_; try dsimp only)
       exact ⟨rfl, g1.putF p2 n1⟩)
    | (refine rd_G (rdA_of' e1 (by rfl)) ?_
       (refine app_of rfl ?_; try dsimp only)
       exact ⟨rfl, g1⟩))
theorem x_link (name data : ByteArray) {σ : H} {K : KH} (hK : K (.agg ⟨[.string name, .int .i64 3, .bool false, .string data, .slice none 0 0]⟩) σ) : callW Tryz.prog 51 [.string name, .string data] K σ := by
 refine pure_i _ hK (c51 _ _ ?_)
 unfold g51
 first
 | exact ⟨rfl, Gr.refl _⟩
 | (refine al_i ?_; intro b σ1 g1 e1 n1
    first
    | (refine st_i2 e1 sz_Node (by rfl) (by rfl) ?_; intro σ2 p2
       refine rd_G (rdA_of' p2.same (by rfl)) ?_
       (refine app_of rfl ?_; try dsimp only)
       exact ⟨rfl, g1.putF p2 n1⟩)
    | (refine rd_G (rdA_of' e1 (by rfl)) ?_
       (refine app_of rfl ?_; try dsimp only)
       exact ⟨rfl, g1⟩))
section
variable {σ : H} {bf N : Nat} {A : AT} {B : Nat -> Prop} {F : Int -> H -> Prop} {e : Int}
theorem k_Mkdir (hI : Inv A) (hB : Bd N A) (hN : N <= 1000000000000) (hF : FsAt σ bf A B) {cwd path : ByteArray} (he : (A.mkdirF cwd path).1 = e) (h : ∀ σ' B', FsAt σ' bf (A.mkdirF cwd path).2 B' -> Sep σ B σ' B' -> F e σ') : callT Tryz.prog 48 [.pointer (some ⟨bf, 0, none⟩), .string cwd, .string path] kI F σ :=
 call_i (s_Mkdir hI hB hN hF cwd path fun σ' B' h1 h2 => by rw [he]; exact app_I (h σ' B' h1 h2))
theorem k_Symlink (hI : Inv A) (hB : Bd N A) (hN : N <= 1000000000000) (hF : FsAt σ bf A B) {cwd target path : ByteArray} (he : (A.symlinkF cwd target path).1 = e) (h : ∀ σ' B', FsAt σ' bf (A.symlinkF cwd target path).2 B' -> Sep σ B σ' B' -> F e σ') : callT Tryz.prog 41 [.pointer (some ⟨bf, 0, none⟩), .string cwd, .string target, .string path] kI F σ :=
 call_i (s_Symlink hI hB hN hF cwd target path fun σ' B' h1 h2 => by rw [he]; exact app_I (h σ' B' h1 h2))
theorem k_Write (hI : Inv A) (hB : Bd N A) (hN : N <= 1000000000000) (hF : FsAt σ bf A B) {cwd path data : ByteArray} {more : Bool} (hd : data.size <= 1000000000000000) (he : (A.writeF cwd path data more).1 = e) (h : ∀ σ' B', FsAt σ' bf (A.writeF cwd path data more).2 B' -> Sep σ B σ' B' -> F e σ') : callT Tryz.prog 47 [.pointer (some ⟨bf, 0, none⟩), .string cwd, .string path, .string data, .bool more] kI F σ :=
 call_i (s_Write hI hB hN hF cwd path data more hd fun σ' B' h1 h2 => by rw [he]; exact app_I (h σ' B' h1 h2))
theorem k_Chmod (hF : FsAt σ bf A B) {cwd path : ByteArray} {mode : Int} (he : (A.chmodF cwd path mode).1 = e) (h : ∀ σ' B', FsAt σ' bf (A.chmodF cwd path mode).2 B' -> Sep σ B σ' B' -> F e σ') : callT Tryz.prog 58 [.pointer (some ⟨bf, 0, none⟩), .string cwd, .string path, .int .i64 mode] kI F σ :=
 call_i (s_Chmod hF cwd path mode fun σ' B' h1 h2 => by rw [he]; exact app_I (h σ' B' h1 h2))
theorem k_Hard (hF : FsAt σ bf A B) {cwd src to : ByteArray} (he : (A.hardF cwd src to).1 = e) (h : ∀ σ' B', FsAt σ' bf (A.hardF cwd src to).2 B' -> Sep σ B σ' B' -> F e σ') : callT Tryz.prog 55 [.pointer (some ⟨bf, 0, none⟩), .string cwd, .string src, .string to] kI F σ :=
 call_i (s_Hard hF cwd src to fun σ' B' h1 h2 => by rw [he]; exact app_I (h σ' B' h1 h2))
theorem k_Of (hI : Inv A) (hB : Bd N A) (hN : N <= 1000000000) (hF : FsAt σ bf A B) {path : ByteArray} (hp : path.size <= 100000) {T : Tr} (hc : A.canonF path = (e, T)) (hT : (A.take 300 path).1 = 0 -> (A.take 300 path).2.total <= 1000000000000000) {G : Nat -> Int -> H -> Prop}
 (h : ∀ b y σ' ρ, Gr σ σ' -> σ b = none -> σ' b = some (.cells ⟨trC T y⟩ 73 (0, 0)) -> Gr ρ σ' -> ρ b = none -> (∀ c, σ c ≠ none -> ρ c = none) -> SlAt ρ T.kids y -> G b e σ') :
 callT Tryz.prog 35 [.pointer (some ⟨bf, 0, none⟩), .string path] (.tup [.agg [.str, (.int .i64), .bool, .str, .slc], .sc (.int .i64)]) (fun (x1 : ByteArray) (x2 : Int) (x3 : Bool) (x4 : ByteArray) (x5 : Sl) (x6 : Int) =>
  alW (.cells ⟨[.string (⟨⟨[]⟩⟩ : ByteArray), .int .i64 0, .bool false, .string (⟨⟨[]⟩⟩ : ByteArray), .slice none 0 0]⟩ 73 (0, 0)) (fun (b : Nat) => stW Tryz.prog 73 (.pointer (some ⟨b, 0, none⟩)) (.agg ⟨[.string x1, .int .i64 x2, .bool x3, .string x4, .slice x5.base x5.len x5.cap]⟩) (G b x6))) σ := by
 refine call_i (s_Of hI hB hN hF path hp hT ?_)
 intro y σ1 ρ g1 r1 r2 r3
 rw [hc] at r3 ⊢
 unfold trC
 (refine app_of rfl ?_; try dsimp only)
 refine al_i ?_; intro b σ2 g2 e2 n2
 refine st_i2 e2 sz_Node (by rfl) (by rfl) ?_; intro σ3 p3
 exact h b y σ3 ρ (g1.trans (g2.putF p3 n2)) (none_of g1 n2) p3.same (r1.trans (g2.putF p3 n2)) (none_of r1 n2) r2 r3
end
theorem uT_at {σ : H} {b : Nat} {ty : TypeId} {fz : Nat × Nat} (h : σ b = some (.cells ⟨[.string ⟨⟨[104]⟩⟩, .int .i64 1, .bool true, .string ⟨⟨[49]⟩⟩, .slice none 0 0, .string ⟨⟨[108]⟩⟩, .int .i64 3, .bool false, .string ⟨⟨[120]⟩⟩, .slice none 0 0, .string ⟨⟨[120]⟩⟩, .int .i64 1, .bool true, .string ⟨⟨[49]⟩⟩, .slice none 0 0]⟩ ty fz)) : SlAt σ uT.kids ⟨some ⟨b, 0, none⟩, 3, 3⟩ := by
 refine ⟨rfl, .inr ⟨b, 0, _, _, _, rfl, h, ?_⟩⟩
 refine ⟨trAt_iff.2 ⟨⟨none, 0, 0⟩, rfl, SlAt.nil⟩, trAt_iff.2 ⟨⟨none, 0, 0⟩, rfl, SlAt.nil⟩, trAt_iff.2 ⟨⟨none, 0, 0⟩, rfl, SlAt.nil⟩, trivial⟩
theorem s_works10 {σ : H} {K : KH} (hK : K (.bool true) σ) : callW Tryz.prog 36 [] K σ := by
 refine pure_i _ hK (c36 ?_)
 clear hK
 unfold g36
 refine call_i (s_New 20 200 (fun h => by cases h) ?_)
 intro _ bf σ1 B1 F1 g1 hf1
 have O1 := Off.new g1 hf1
 refine app_P ?_
 refine j_i (fun j => ∀ σ2 B2, FsAt σ2 bf u5 B2 -> Off σ σ2 B2 -> j (some ⟨bf, 0, none⟩) false σ2) ?_ ?_
 case refine_2 =>
  intro j hj
  refine br_f rfl (k_Mkdir u0_ok.1 u0_ok.2 (by decide) F1 uv1 ?_); intro σ2 B2 F2 S2
  refine br_f rfl (k_Write u1_ok.inv u1_ok.bd (by decide) F2 (by decide) uv2 ?_); intro σ3 B3 F3 S3
  refine br_f rfl (k_Chmod (A := u2) F3 uv3 ?_); intro σ4 B4 F4 S4
  refine br_f rfl (k_Symlink u3_ok.inv u3_ok.bd (by decide) F4 uv4 ?_); intro σ5 B5 F5 S5
  refine br_f rfl (k_Hard (A := u4) F5 uv5 ?_); intro σ6 B6 F6 S6
  exact hj σ6 B6 F6 (((((O1.sep S2).sep S3).sep S4).sep S5).sep S6)
 intro σ2 B2 F2 O2
 refine br_f rfl (k_Of (A := u5) u5_ok.inv u5_ok.bd (by decide) F2 (by decide) uc1 (fun _ => by rw [ut1]; exact Nat.le_trans uT_total (by decide)) ?_)
 intro b11 y σ3 ρ g3 n3 e3 r3 _ _ hs
 refine k_Of (A := u5) u5_ok.inv u5_ok.bd (by decide) (F2.gr g3) (by decide) uc2 (fun h => by rw [ut2] at h; cases h) ?_
 intro b18 y2 σ4 ρ2 g4 n4 e4 r4 _ _ _
 have k11 := g4.get e3
 unfold trC at k11
 refine br_t rfl (br_t rfl (rd_G (rdA_of' k11 (by rfl)) ?_))
 (refine app_of rfl ?_; try dsimp only)
 refine call_i (x_file _ _ _ ?_)
 (refine app_of rfl ?_; try dsimp only)
 refine and_i (rdA_of' k11 (by rfl)) (call_i (x_link _ _ ?_))
 (refine app_of rfl ?_; try dsimp only)
 refine and_i (rdA_of' k11 (by rfl)) (call_i (x_file _ _ _ ?_))
 (refine app_of rfl ?_; try dsimp only)
 refine and_i (rdA_of' k11 (by rfl)) ?_
 refine al_i ?_; intro b39 σ5 g5 e5 n5
 refine call_i (s_Same uT y uT ⟨some ⟨b39, 0, none⟩, 3, 3⟩ (hs.gr ((r3.trans g4).trans g5)) (uT_at e5) (Nat.le_trans uT_total (by decide)) (Nat.le_trans uT_total (by decide)) ?_)
 rw [uT_same]
 exact app_B ⟨rfl, ((O2.1.trans g3).trans g4).trans g5⟩
end Go.Proofs.YtbjbeajbckcecaaGreatDoor

namespace Go.Wk
open Go Go.HL
section
variable {A : AT}
theorem steps_more {go : Int -> ByteArray -> Int -> Int × Pl × Int} (fo : Bool) (more : List ByteArray) : ∀ (l : List ByteArray) (p q : Pl) (h h' : Int), A.steps go false l p h = (0, q, h') -> q.there = true -> A.kind q.ino ≠ 3 -> A.steps go fo (l ++ more) p h = A.steps go fo more q h' := by
 intro l
 induction l with
 | nil =>
  intro p q h h' e _ _
  simp only [AT.steps, Prod.mk.injEq, true_and] at e
  obtain ⟨rfl, rfl⟩ := e; rfl
 | cons name rest ih =>
  intro p q h h' e hq hk
  rw [AT.steps] at e
  rw [List.cons_append, AT.steps]
  by_cases h1 : p.there = false
  ·rw [if_pos h1] at e; simp at e
  rw [if_neg h1] at e ⊢
  by_cases h2 : A.kind p.ino ≠ 2
  ·rw [if_pos h2] at e; simp at e
  rw [if_neg h2] at e ⊢
  by_cases h3 : sEq name ⟨⟨[46, 46]⟩⟩ = true
  ·rw [if_pos h3] at e ⊢; exact ih _ _ _ _ e hq hk
  rw [if_neg h3] at e ⊢
  by_cases h4 : name.size > 56
  ·rw [if_pos h4] at e; simp at e
  rw [if_neg h4] at e ⊢
  simp only at e ⊢
  cases rest with
  | nil =>
   rw [if_pos (.inr (.inl rfl))] at e
   simp only [AT.steps, Prod.mk.injEq, true_and] at e
   obtain ⟨rfl, rfl⟩ := e
   rw [if_pos (.inr (.inr hk))]; rfl
  | cons r rs =>
   by_cases hC : (A.find p.ino name).isSome = false \/ A.kind ((A.find p.ino name).getD 0) ≠ 3
   ·rw [if_pos (by rcases hC with h | h; exact .inl h; exact .inr (.inr h))] at e
    rw [if_pos (by rcases hC with h | h; exact .inl h; exact .inr (.inr h))]
    exact ih _ _ _ _ e hq hk
   ·rw [if_neg (by rintro (h | h | h); exact hC (.inl h); simp at h; exact hC (.inr h))] at e
    rw [if_neg (by rintro (h | h | h); exact hC (.inl h); simp at h; exact hC (.inr h))]
    by_cases h5 : h - 1 < 0
    ·rw [if_pos h5] at e; simp at e
    rw [if_neg h5] at e ⊢
    by_cases h6 : (go p.ino (A.data ((A.find p.ino name).getD 0)) (h - 1)).1 ≠ 0
    ·rw [if_pos h6] at e
     exact absurd (congrArg Prod.fst e) h6
    rw [if_neg h6] at e ⊢
    exact ih _ _ _ _ e hq hk
theorem Inv.kind1 (hI : Inv A) : A.kind 1 = 2 := by
 obtain ⟨n, h1, h2, _⟩ := hI.root
 unfold AT.kind; rw [h1]; exact h2
theorem loc_slash (hI : Inv A) {p : ByteArray} (hp : sEq p ⟨⟨[]⟩⟩ = false) (fo : Bool) : A.locate ⟨⟨[47]⟩⟩ p fo = ((A.walk 10 1 p fo 8).1, (A.walk 10 1 p fo 8).2.1) := by
 unfold AT.locate
 rw [hp, walk_root]
 have h1 : headIs 47 ⟨⟨[47]⟩⟩ = true := by decide
 have h2 : A.kind rootP.ino = 2 := hI.kind1
 cases hh : headIs 47 p with
 | true => simp
 | false => simp only [h1, h2]; simp [rootP]
theorem walk_steps {p : ByteArray} (h0 : mayE p = 0) (fo : Bool) : A.walk 10 1 p fo 8 = A.steps (fun d s h' => A.walk 9 d s true h') fo (partsB p) rootP 8 := by
 rw [AT.walk, if_neg (by rw [h0]; simp)]
 have : (if headIs 47 p = true then (1 : Int) else 1) = 1 := by split <;> rfl
 simp only [this]; rfl
theorem with_inv (hI : Inv A) {p : ByteArray} {fo : Bool} (h : (A.with_ ⟨⟨[47]⟩⟩ p fo).1 = 0) : mayE p = 0 /\ sEq p ⟨⟨[]⟩⟩ = false /\ ∃ (q : Pl) (h' : Int) (n : AN), A.steps (fun d s h' => A.walk 9 d s true h') fo (partsB p) rootP 8 = (0, q, h') /\ q.there = true /\ A.get q.ino = some n /\ A.with_ ⟨⟨[47]⟩⟩ p fo = (0, q.ino, n.inode) := by
 unfold AT.with_ at h ⊢
 have hp : sEq p ⟨⟨[]⟩⟩ = false := by
  cases e : sEq p ⟨⟨[]⟩⟩ with
  | false => rfl
  | true =>
   have : A.locate ⟨⟨[47]⟩⟩ p fo = (5, Pl.z) := by unfold AT.locate; rw [e]; rfl
   rw [this] at h; simp at h
 rw [loc_slash hI hp fo] at h ⊢
 have h0 : mayE p = 0 := by
  apply Classical.byContradiction
  intro hc
  have : A.walk 10 1 p fo 8 = (mayE p, Pl.z, 8) := by rw [AT.walk, if_pos hc]
  rw [this] at h
  simp only [if_pos hc] at h
  exact hc h
 refine ⟨h0, hp, ?_⟩
 rw [walk_steps h0] at h ⊢
 generalize A.steps (fun d s h' => A.walk 9 d s true h') fo (partsB p) rootP 8 = r at h ⊢
 obtain ⟨e, q, h'⟩ := r
 simp only at h ⊢
 by_cases he : e ≠ 0
 ·rw [if_pos he] at h; exact absurd h he
 ·have he : e = 0 := by simpa using he
  subst he
  rw [if_neg (by simp)] at h
  by_cases ht : q.there = false
  ·rw [if_pos ht] at h; simp at h
  ·rw [if_neg ht] at h
   cases hg : A.get q.ino with
   | none => rw [hg] at h; simp at h
   | some n => exact ⟨q, h', n, rfl, by simpa using ht, hg, by rw [if_neg (by simp), if_neg ht]⟩
theorem with_of (hI : Inv A) {p : ByteArray} {fo : Bool} {q : Pl} {h' : Int} (h0 : mayE p = 0) (hp : sEq p ⟨⟨[]⟩⟩ = false) (h : A.steps (fun d s h' => A.walk 9 d s true h') fo (partsB p) rootP 8 = (0, q, h')) : A.with_ ⟨⟨[47]⟩⟩ p fo = if q.there = false then ((5 : Int), (0 : Int), IN.z) else match A.get q.ino with
 | none => ((5 : Int), (0 : Int), IN.z)
 | some n => ((0 : Int), q.ino, n.inode) := by
 unfold AT.with_
 rw [loc_slash hI hp fo, walk_steps h0, h]
 cases ht : q.there <;> cases hg : A.get q.ino <;> simp [ht, hg]
theorem kid_with (hI : Inv A) {p n : ByteArray} {d : Int} {m : AN} (h : A.with_ ⟨⟨[47]⟩⟩ p false = (0, d, m.inode)) (hg : A.get d = some m) (hk : m.kind = 2) (hn : nameOk n) (hs : stepOk n) (he : (A.with_ ⟨⟨[47]⟩⟩ (kidP p n) false).1 = 0) :
 ∃ j k, A.find d n = some j /\ A.get j = some k /\ A.with_ ⟨⟨[47]⟩⟩ (kidP p n) false = (0, j, k.inode) := by
 obtain ⟨h0, hp, q, h', n1, e1, e2, e3, e4⟩ := with_inv hI (by rw [h])
 rw [h] at e4
 simp only [Prod.mk.injEq, true_and] at e4
 obtain ⟨e4, _⟩ := e4
 have hkd : A.kind q.ino = 2 := by unfold AT.kind; rw [<- e4, hg]; exact hk
 obtain ⟨k0, kp, q2, h2, n2, f1, f2, f3, f4⟩ := with_inv hI he
 rw [parts_kid hn, steps_more false [n] _ _ _ _ _ e1 e2 (by omega)] at f1
 rw [AT.steps, if_neg (by rw [e2]; simp), if_neg (by omega), if_neg (by rw [sEq_false hs.1]; simp), if_neg (by have := hs.2; omega)] at f1
 simp only at f1
 rw [if_pos (.inr (.inl rfl))] at f1
 simp only [AT.steps, Prod.mk.injEq, true_and] at f1
 obtain ⟨rfl, _⟩ := f1
 simp only at f2 f3 f4
 cases hf : A.find q.ino n with
 | none => rw [hf] at f2; simp at f2
 | some j =>
  rw [hf] at f3 f4
  exact ⟨j, n2, by rw [e4]; exact hf, f3, f4⟩
theorem list_with (hI : Inv A) {p : ByteArray} {d : Int} {m : AN} (h : A.with_ ⟨⟨[47]⟩⟩ p false = (0, d, m.inode)) (hg : A.get d = some m) (hk : m.kind = 2) : A.listF ⟨⟨[47]⟩⟩ p = (0, A.names d) := by
 obtain ⟨h0, hp, q, h', n1, e1, e2, e3, e4⟩ := with_inv hI (by rw [h])
 rw [h] at e4
 simp only [Prod.mk.injEq, true_and] at e4
 obtain ⟨e4, _⟩ := e4
 have hkd : A.kind q.ino = 2 := by unfold AT.kind; rw [<- e4, hg]; exact hk
 have e5 := steps_more true [] _ _ _ _ _ e1 e2 (by omega)
 rw [List.append_nil] at e5
 have e6 := with_of hI h0 hp (q := q) (h' := h') e5
 rw [if_neg (by rw [e2]; simp), <- e4, hg] at e6
 unfold AT.listF
 rw [e6]
 have : m.inode.kind = 2 := hk
 simp [this]
def AT.cnt (A : AT) (D : Nat) : Nat -> Int -> Nat
 | 0, _ => 1
 | f + 1, d => 1 + D + ((A.names d).map fun n => 56 + AT.cnt A D f ((A.find d n).getD 0)).sum
theorem named_total (n : ByteArray) (t : Tr) : (t.named n).total <= n.size + t.total := by
 obtain ⟨nm, k, e, d, kids⟩ := t
 simp only [Tr.named, Tr.total]; omega
theorem z_total : Tr.z.total = 1 := rfl
theorem names_find (hI : Inv A) {d : Int} {n : ByteArray} (h : n ∈ A.names d) : ∃ j, A.find d n = some j /\ nameOk n /\ stepOk n /\ n.size <= 56 := by
 obtain ⟨j, hj⟩ := names_mem' hI h
 obtain ⟨o1, o2, _⟩ := find_name hI hj
 exact ⟨j, hj, o1, o2, by have := o2.2; omega⟩
theorem take_cnt (hI : Inv A) {D : Nat} (hD : A.ub <= D) : ∀ (f : Nat) (p : ByteArray) (d : Int) (m : AN), A.with_ ⟨⟨[47]⟩⟩ p false = (0, d, m.inode) -> A.get d = some m -> (A.take f p).2.total <= A.cnt D f d := by
 intro f
 induction f with
 | zero => intro p d m _ _; exact Nat.le_refl _
 | succ f ih =>
  intro p d m h hg
  have hsz := hI.size_le hg
  have hst : A.stat ⟨⟨[47]⟩⟩ p false = (0, m.inode) := by unfold AT.stat; rw [h]
  unfold AT.take AT.cnt
  rw [hst]
  simp only [ne_eq, not_true_eq_false, if_false]
  by_cases hk : m.kind = 2
  ·have hk' : m.inode.kind = 2 := hk
   rw [if_pos hk', list_with hI h hg hk]
   simp only [not_true_eq_false, if_false]
   have key : ∀ l : List ByteArray, (∀ n ∈ l, n ∈ A.names d) -> Tr.totalRow (takeRow (A.take f) p l).2 <= (l.map fun n => 56 + A.cnt D f ((A.find d n).getD 0)).sum := by
    intro l
    induction l with
    | nil => intro _; simp [takeRow, Tr.totalRow]
    | cons n r ihl =>
     intro hl
     obtain ⟨j, hj, o1, o2, o3⟩ := names_find hI (hl n (List.mem_cons_self ..))
     have ihr := ihl fun x hx => hl x (List.mem_cons_of_mem _ hx)
     rw [takeRow, List.map_cons, List.sum_cons]
     simp only
     split
     ·simp [Tr.totalRow]
     ·rename_i h0
      have h0 : (A.take f (kidP p n)).1 = 0 := by simpa using h0
      have ht : (A.take f (kidP p n)).2.total <= A.cnt D f ((A.find d n).getD 0) := by
       cases f with
       | zero => exact Nat.le_refl _
       | succ f =>
        have hw : (A.with_ ⟨⟨[47]⟩⟩ (kidP p n) false).1 = 0 := by
         apply Classical.byContradiction
         intro hc
         rw [AT.take] at h0
         have : (A.stat ⟨⟨[47]⟩⟩ (kidP p n) false).1 ≠ 0 := hc
         simp only [if_pos this] at h0
         exact this h0
        obtain ⟨j', k, q1, q2, q3⟩ := kid_with hI h hg hk o1 o2 hw
        rw [q1]
        exact ih _ _ _ q3 q2
      have := named_total n (A.take f (kidP p n)).2
      simp only [Tr.totalRow]
      omega
   have := key (A.names d) fun _ h => h
   have hd : m.inode.data.size = m.data.size := rfl
   simp only [Tr.total]
   have he : (⟨⟨[]⟩⟩ : ByteArray).size = 0 := rfl
   omega
  ·have hk' : ¬ m.inode.kind = 2 := hk
   rw [if_neg hk']
   have hd : m.inode.data.size = m.data.size := rfl
   have he : (⟨⟨[]⟩⟩ : ByteArray).size = 0 := rfl
   simp only [Tr.total, Tr.totalRow]
   omega
def AT.subs (A : AT) (d : Int) : List Int := ((A.names d).map fun n => (A.find d n).getD 0).filter fun j => A.kind j == 2
theorem refs_two {es : List (ByteArray × Int)} (hn : (keysL es).Nodup) {s t : ByteArray} {j : Int} (h1 : lk s es = some j) (h2 : lk t es = some j) (hne : s ≠ t) : 2 <= sumF (one j) es := by
 have := sumF_two (f := one j) hn h1 h2 hne
 unfold one at this ⊢
 simp at this
 exact this
theorem subs_mem (hI : Inv A) {d j : Int} (h : j ∈ A.subs d) : ∃ n, A.find d n = some j /\ A.kind j = 2 := by
 unfold AT.subs at h
 obtain ⟨h1, h2⟩ := List.mem_filter.1 h
 obtain ⟨n, hn, rfl⟩ := List.mem_map.1 h1
 obtain ⟨j, hj, _⟩ := names_find hI hn
 rw [hj] at h2 ⊢
 exact ⟨n, hj, by simpa using h2⟩
theorem subs_up (hI : Inv A) {d j : Int} (h : j ∈ A.subs d) : A.upOf j = d := by
 obtain ⟨n, hn, hk⟩ := subs_mem hI h
 obtain ⟨_, _, _, _, _, m, hm, hu⟩ := hI.find hn
 unfold AT.kind at hk
 rw [hm] at hk
 unfold AT.upOf; rw [hm]; exact hu hk
theorem find_inj (hI : Inv A) {d j : Int} {s t : ByteArray} (h1 : A.find d s = some j) (h2 : A.find d t = some j) (hk : A.kind j = 2) : s = t := by
 apply Classical.byContradiction
 intro hne
 obtain ⟨n, hn, _, hl, hj1, m, hm, _⟩ := hI.find h1
 obtain ⟨n', hn', _, hl', _⟩ := hI.find h2
 rw [hn] at hn'; cases hn'
 have h3 := refs_two (hI.enod d n hn) hl hl' hne
 have h4 := sumF_ge (f := fun n : AN => sumF (one j) n.ents) (l := A.nodes) (k := d) (v := n) hn
 have h5 := (hI.links j m hm hj1).2.2 (by unfold AT.kind at hk; rw [hm] at hk; exact hk)
 have h6 : A.refs j = sumF (fun n : AN => sumF (one j) n.ents) A.nodes := rfl
 omega
theorem subs_nodup (hI : Inv A) (d : Int) : (A.subs d).Nodup := by
 unfold AT.subs
 have hn := names_nodup hI d
 have hm : ∀ n ∈ A.names d, ∃ j, A.find d n = some j := fun n h => let ⟨j, hj, _⟩ := names_find hI h; ⟨j, hj⟩
 generalize A.names d = l at hn hm
 induction l with
 | nil => exact List.nodup_nil
 | cons n r ih =>
  obtain ⟨h1, h2⟩ := List.nodup_cons.1 hn
  have ih := ih h2 fun x hx => hm x (List.mem_cons_of_mem _ hx)
  rw [List.map_cons, List.filter_cons]
  obtain ⟨j, hj⟩ := hm n (List.mem_cons_self ..)
  rw [hj]
  split
  ·rename_i hk
   refine List.nodup_cons.2 ⟨fun hc => ?_, ih⟩
   obtain ⟨c1, _⟩ := List.mem_filter.1 hc
   obtain ⟨n', hn', e⟩ := List.mem_map.1 c1
   obtain ⟨j', hj'⟩ := hm n' (List.mem_cons_of_mem _ hn')
   rw [hj'] at e
   have e : j' = j := e
   subst e
   have := find_inj hI hj hj' (by simpa using hk)
   subst this; exact h1 hn'
  ·exact ih
theorem next_nodup (hI : Inv A) : ∀ {l : List Int}, l.Nodup -> (l.flatMap A.subs).Nodup := by
 intro l
 induction l with
 | nil => intro _; exact List.nodup_nil
 | cons d r ih =>
  intro h
  obtain ⟨h1, h2⟩ := List.nodup_cons.1 h
  rw [List.flatMap_cons, List.nodup_append]
  refine ⟨subs_nodup hI d, ih h2, ?_⟩
  intro a ha b hb e
  subst e
  obtain ⟨d', hd', hb⟩ := List.mem_flatMap.1 hb
  have := subs_up hI ha
  have := subs_up hI hb
  have e : d = d' := by omega
  subst e; exact h1 hd'
theorem nodup_len : ∀ (N : Nat) {l : List Int}, l.Nodup -> (∀ x ∈ l, 1 <= x /\ x <= (N : Int)) -> l.length <= N := by
 intro N
 induction N with
 | zero =>
  intro l _ h
  cases l with
  | nil => exact Nat.le_refl _
  | cons x r => have := h x (List.mem_cons_self ..); omega
 | succ N ih =>
  intro l hn h
  have h1 := ih (l := l.filter fun x => x != ((N + 1 : Nat) : Int)) (hn.sublist List.filter_sublist) (fun x hx => by
   obtain ⟨a, b⟩ := List.mem_filter.1 hx
   have := h x a
   simp at b
   omega)
  have h2 : l.length <= (l.filter fun x => x != ((N + 1 : Nat) : Int)).length + 1 := by
   clear h1 h ih
   induction l with
   | nil => simp
   | cons x r ihr =>
    obtain ⟨n1, n2⟩ := List.nodup_cons.1 hn
    have := ihr n2
    rw [List.filter_cons]
    by_cases e : x = ((N + 1 : Nat) : Int)
    ·have hf : (r.filter fun x => x != ((N + 1 : Nat) : Int)) = r := by
      rw [List.filter_eq_self]
      intro y hy
      have : y ≠ x := fun e => n1 (e ▸ hy)
      rw [e] at this
      simpa using this
     rw [hf]
     have : (x != ((N + 1 : Nat) : Int)) = false := by simp [e]
     rw [this]; simp
    ·have : (x != ((N + 1 : Nat) : Int)) = true := by simpa using e
     rw [this]; simp only [if_true, List.length_cons]; omega
  omega
theorem level_len (hI : Inv A) {N : Nat} (hB : Bd N A) {l : List Int} (hn : l.Nodup) (hl : ∀ d ∈ l, A.kind d = 2) : l.length <= N := by
 refine nodup_len N hn fun x hx => ?_
 have := hl x hx
 unfold AT.kind at this
 cases hg : A.get x with
 | none => rw [hg] at this; cases this
 | some m =>
  have h1 := hI.low x m hg
  have := hB.last
  omega
theorem names_len {N : Nat} (hB : Bd N A) (d : Int) : (A.names d).length <= N := by
 unfold AT.names
 cases hg : A.get d with
 | none => simp
 | some n =>
  have h1 := (sortN_perm (keysL n.ents)).length_eq
  have h2 := hB.ents d n hg
  show (sortN (keysL n.ents)).length <= N; rw [h1]; unfold keysL; rw [List.length_map]; exact h2
theorem leaf_cnt (hI : Inv A) (D f : Nat) {j : Int} (h : A.kind j ≠ 2) : A.cnt D f j <= 1 + D := by
 cases f with
 | zero => unfold AT.cnt; omega
 | succ f =>
  have : A.names j = [] := by
   unfold AT.names
   cases hg : A.get j with
   | none => rfl
   | some n =>
    have := hI.file j n hg (by unfold AT.kind at h; rw [hg] at h; exact h)
    simp only [this]; rfl
  unfold AT.cnt; rw [this]; simp
theorem row_cnt (hI : Inv A) (D f : Nat) : ∀ l : List Int, (l.map fun j => 56 + A.cnt D f j).sum <= l.length * (57 + D) + ((l.filter fun j => A.kind j == 2).map (A.cnt D f)).sum := by
 intro l
 induction l with
 | nil => simp
 | cons j r ih =>
  rw [List.map_cons, List.sum_cons, List.length_cons, Nat.succ_mul, List.filter_cons]
  by_cases h : A.kind j = 2
  ·have : (A.kind j == 2) = true := by simpa using h
   rw [this]; simp only [if_true, List.map_cons, List.sum_cons]; omega
  ·have : (A.kind j == 2) = false := by simpa using h
   have h2 := leaf_cnt hI D f h
   rw [this]; simp only [Bool.false_eq_true, if_false]; omega
theorem level_cnt (hI : Inv A) {N : Nat} (hB : Bd N A) (D f : Nat) : ∀ l : List Int, (l.map (A.cnt D (f + 1))).sum <= l.length * (1 + D + N * (57 + D)) + ((l.flatMap A.subs).map (A.cnt D f)).sum := by
 intro l
 induction l with
 | nil => simp
 | cons d r ih =>
  rw [List.map_cons, List.sum_cons, List.length_cons, Nat.succ_mul, List.flatMap_cons, List.map_append, List.sum_append]
  have h1 := row_cnt hI D f ((A.names d).map fun n => (A.find d n).getD 0)
  rw [List.map_map, List.length_map] at h1
  have h2 : (A.names d).length * (57 + D) <= N * (57 + D) := Nat.mul_le_mul_right _ (names_len hB d)
  have h3 : A.cnt D (f + 1) d = 1 + D + ((A.names d).map ((fun j => 56 + A.cnt D f j) ∘ fun n => (A.find d n).getD 0)).sum := rfl
  rw [h3]
  have h4 : (((A.names d).map fun n => (A.find d n).getD 0).filter fun j => A.kind j == 2) = A.subs d := rfl
  rw [h4] at h1
  omega
theorem levels_cnt (hI : Inv A) {N : Nat} (hB : Bd N A) (D : Nat) : ∀ (f : Nat) (l : List Int), l.Nodup -> (∀ d ∈ l, A.kind d = 2) -> (l.map (A.cnt D f)).sum <= (f + 1) * (N * (1 + D + N * (57 + D))) + N := by
 intro f
 induction f with
 | zero =>
  intro l hn hl
  have h1 := level_len hI hB hn hl
  have h2 : (l.map (A.cnt D 0)).sum <= l.length := by
   clear h1 hn hl
   induction l with
   | nil => simp
   | cons d r ih => rw [List.map_cons, List.sum_cons, List.length_cons]; unfold AT.cnt at ih ⊢; omega
  omega
 | succ f ih =>
  intro l hn hl
  have h1 := level_len hI hB hn hl
  have h2 := level_cnt hI hB D f l
  have h3 := ih (l.flatMap A.subs) (next_nodup hI hn) (fun d hd => by
   obtain ⟨d', _, hd⟩ := List.mem_flatMap.1 hd
   obtain ⟨_, _, h⟩ := subs_mem hI hd; exact h)
  have h4 : l.length * (1 + D + N * (57 + D)) <= N * (1 + D + N * (57 + D)) := Nat.mul_le_mul_right _ h1
  rw [Nat.succ_mul (f + 1)]
  omega
theorem take_small (hI : Inv A) {N : Nat} (hB : Bd N A) (hN : N <= 100) (hq : A.qb <= 10000) (p : ByteArray) : (A.take 300 p).2.total <= 1000000000000 := by
 have hub := hI.bq
 by_cases h0 : (A.with_ ⟨⟨[47]⟩⟩ p false).1 = 0
 ·obtain ⟨_, _, q, h', m, _, _, hg, hw⟩ := with_inv hI h0
  have h1 := take_cnt hI (D := 10000) (by omega) 300 p q.ino m hw hg
  by_cases hk : A.kind q.ino = 2
  ·have h2 := levels_cnt hI hB 10000 300 [q.ino] (by simp) (by intro d hd; simp at hd; rw [hd]; exact hk)
   have h3 : N * (1 + 10000 + N * (57 + 10000)) <= 100 * (1 + 10000 + 100 * (57 + 10000)) := Nat.mul_le_mul hN (by have : N * (57 + 10000) <= 100 * (57 + 10000) := Nat.mul_le_mul_right _ hN; omega)
   simp only [List.map_cons, List.map_nil, List.sum_cons, List.sum_nil] at h2
   omega
  ·have := leaf_cnt hI 10000 300 hk
   omega
 ·have : A.take 300 p = ((A.with_ ⟨⟨[47]⟩⟩ p false).1, Tr.z) := by
   rw [AT.take]
   have : (A.stat ⟨⟨[47]⟩⟩ p false).1 ≠ 0 := h0
   simp only [if_pos this]; rfl
  rw [this, z_total]; omega
end
end Go.Wk

namespace Go.Wk
open Go Go.HL
structure CAct where
 w : Int
 a : ByteArray
 b : ByteArray
 m : Int
def CAct.cells (x : CAct) : List Value := [.int .u8 x.w, .string x.a, .string x.b, .int .i64 x.m]
def c270 (s : ByteArray) : ByteArray := s.extract 0 (min s.size 270)
theorem c270_size (s : ByteArray) : (c270 s).size <= 270 := by unfold c270; rw [ByteArray.size_extract]; omega
def AT.ciR (A : AT) (x : CAct) : Int × AT :=
 if Int.tmod x.w 6 = 0 then A.mkdirF ⟨⟨[47]⟩⟩ (c270 x.a)
 else if Int.tmod x.w 6 = 1 then A.writeF ⟨⟨[47]⟩⟩ (c270 x.a) (c270 x.b) false
 else if Int.tmod x.w 6 = 2 then A.symlinkF ⟨⟨[47]⟩⟩ (c270 x.b) (c270 x.a)
 else if Int.tmod x.w 6 = 3 then A.hardF ⟨⟨[47]⟩⟩ (c270 x.a) (c270 x.b)
 else if Int.tmod x.w 6 = 4 then A.renameF ⟨⟨[47]⟩⟩ (c270 x.a) (c270 x.b)
 else A.chmodF ⟨⟨[47]⟩⟩ (c270 x.a) x.m
theorem ciR_ok {A : AT} {N : Nat} (h : Inv A) (hb : Bd N A) (hN : N <= 1000000) (x : CAct) : OpInv (N + 1) A (A.ciR x) := by
 have hz := c270_size x.b
 unfold AT.ciR
 split
 ·exact (mkdirF_ok h hb (by omega) _ _).toInv
 split
 ·exact (writeF_ok h hb (by omega) _ _ _ _ (by omega)).toInv
 split
 ·exact (symlinkF_ok h hb (by omega) _ _ _).toInv
 split
 ·exact (hardF_ok h hb (by omega) _ _ _).toInv
 split
 ·exact renameF_inv h hb (by omega) _ _ _
 ·exact ((chmodF_ok h hb _ _ _).mono (by omega)).toInv
end Go.Wk

set_option maxRecDepth 100000
namespace Go.Proofs.YtbjbeajbckcecaaGreatDoor
open Go Go.HL Go.Wk
attribute [local irreducible] ptrW ifW brW andW rdT alW letJ stW muW biW vaW imW callT cvalT app callW invW callVW sizeT oW nilF oneK loopW rfW funW begW roundK exW idxW Gr Put
def BothAt (σ0 τ : H) (bf br : Nat) (A : AT) : Prop := ∃ (ρF ρR : H) (B D : Nat -> Prop), FsAt ρF bf A B /\ RfAt ρR br A D /\ Gr ρF τ /\ Gr ρR τ /\ Gr σ0 τ /\ (∀ b, σ0 b ≠ none -> ρF b = none) /\ (∀ b, σ0 b ≠ none -> ρR b = none) /\ (∀ b, ρF b ≠ none -> ρR b = none)
section
variable {σ0 τ τ' : H} {bf br : Nat} {A A' : AT}
theorem BothAt.gr (h : BothAt σ0 τ bf br A) (hg : Gr τ τ') : BothAt σ0 τ' bf br A := by
 obtain ⟨ρF, ρR, B, D, h1, h2, h3, h4, h5, h6⟩ := h
 exact ⟨ρF, ρR, B, D, h1, h2, h3.trans hg, h4.trans hg, h5.trans hg, h6⟩
theorem BothAt.up (h : BothAt σ0 τ bf br A) : Gr σ0 τ := by
 obtain ⟨ρF, ρR, B, D, h1, h2, h3, h4, h5, h6⟩ := h; exact h5
theorem BothAt.more (h : BothAt σ0 τ bf br A) {b : Nat} {o : Obj} (hn : τ b = none) (hg : Gr τ τ') (hb : τ' b = some o) : BothAt (σ0.put b o) τ' bf br A := by
 obtain ⟨ρF, ρR, B, D, h1, h2, h3, h4, h5, h6, h7, h8⟩ := h
 refine ⟨ρF, ρR, B, D, h1, h2, h3.trans hg, h4.trans hg, (h5.trans hg).put_in hb, fun c hc => ?_, fun c hc => ?_, h8⟩
 ·by_cases e : c = b
  ·rw [e]; exact none_of h3 hn
  ·rw [H.put_other _ _ e] at hc; exact h6 c hc
 ·by_cases e : c = b
  ·rw [e]; exact none_of h4 hn
  ·rw [H.put_other _ _ e] at hc; exact h7 c hc
theorem BothAt.less {σ1 : H} (h : BothAt σ0 τ bf br A) (hg : Gr σ1 σ0) : BothAt σ1 τ bf br A := by
 obtain ⟨ρF, ρR, B, D, h1, h2, h3, h4, h5, h6, h7, h8⟩ := h
 have hs : ∀ b, σ1 b ≠ none -> σ0 b ≠ none := fun b hb => by
  cases h : σ1 b with
  | none => exact absurd h hb
  | some o => rw [hg.get h]; simp
 exact ⟨ρF, ρR, B, D, h1, h2, h3, h4, hg.trans h5, fun b hb => h6 b (hs b hb), fun b hb => h7 b (hs b hb), h8⟩
theorem BothAt.fs (h : BothAt σ0 τ bf br A) : ∃ B, FsAt τ bf A B := by
 obtain ⟨ρF, ρR, B, D, h1, h2, h3, _⟩ := h; exact ⟨B, h1.gr h3⟩
theorem BothAt.rf (h : BothAt σ0 τ bf br A) : ∃ M, RfIn τ br A M := by
 obtain ⟨ρF, ρR, B, D, h1, h2, h3, h4, _⟩ := h
 obtain ⟨M, m1, _⟩ := h2
 exact ⟨M, m1.gr h4⟩
theorem BothAt.step {e : Int} (h : BothAt σ0 τ bf br A) {fF fR : FuncId} {xs ys : List Value}
 (hf : ∀ {σ : H} {B : Nat -> Prop} {K : KH}, FsAt σ bf A B -> (∀ σ' B', FsAt σ' bf A' B' -> K (.int .i64 e) σ') -> callW Tryz.prog fF xs K σ)
 (hr : ∀ {σ : H} {D : Nat -> Prop} {K : KH}, RfAt σ br A D -> (∀ σ' D', RfAt σ' br A' D' -> K (.int .i64 e) σ') -> callW Tryz.prog fR ys K σ)
 {F : Int -> H -> Prop} {Q : Int -> H -> Prop} (hF : ∀ σ5, Gr σ0 σ5 -> callT Tryz.prog fR ys kI Q σ5 -> F e σ5) (hQ : ∀ τ', BothAt σ0 τ' bf br A' -> Q e τ') : callT Tryz.prog fF xs kI F τ := by
 obtain ⟨ρF, ρR, B, D, h1, h2, gF, gR, gσ, dF, dR, dFR⟩ := h
 refine call_from gF (hf (K := fun v τ' => ∃ B', v = .int .i64 e /\ FsAt τ' bf A' B') h1 fun σ' B' h1 => ⟨B', rfl, h1⟩) ?_
 rintro v σ5 ρF5 ⟨B5, rfl, F5⟩ f1 f2 f3
 have gR5 : Gr ρR σ5 := gr_sub f1 f2 gR (fun b hb => by
  cases h : ρF b with
  | none => rfl
  | some o => exact absurd (dFR b (by rw [h]; simp)) hb)
 have gσ5 : Gr σ0 σ5 := gr_sub f1 f2 gσ dF
 have dF5 : ∀ b, σ0 b ≠ none -> ρF5 b = none := fun b hb => f3 b (by
  cases h : σ0 b with
  | none => exact absurd h hb
  | some o => rw [gσ.get h]; simp) (dF b hb)
 have dFR5 : ∀ b, ρF5 b ≠ none -> ρR b = none := fun b hb => by
  cases h : ρR b with
  | none => rfl
  | some o =>
   refine absurd (f3 b (by rw [gR.get h]; simp) ?_) hb
   cases h2 : ρF b with
   | none => rfl
   | some o2 => have := dFR b (by rw [h2]; simp); rw [h] at this; cases this
 refine app_I (hF σ5 gσ5 ?_)
 refine call_from gR5 (hr (K := fun v τ' => ∃ B', v = .int .i64 e /\ RfAt τ' br A' B') h2 fun σ' B' h1 => ⟨B', rfl, h1⟩) ?_
 rintro v σ6 ρR6 ⟨D6, rfl, R6⟩ h1 h2 h3
 refine app_I (hQ σ6 ⟨ρF5, ρR6, B5, D6, F5, R6, gr_sub h1 h2 f1 dFR5, h1, gr_sub h1 h2 gσ5 dR, dF5, ?_, ?_⟩)
 ·intro b hb
  exact h3 b (by
   cases h : σ0 b with
   | none => exact absurd h hb
   | some o => rw [gσ5.get h]; simp) (dR b hb)
 ·intro b hb
  exact h3 b (by
   cases h : ρF5 b with
   | none => exact absurd h hb
   | some o => rw [f1.get h]; simp) (dFR5 b hb)
end
theorem cut270 (s : ByteArray) : (if 270 < ((s.size : Nat) : Int) then (270 : Int) else ((s.size : Nat) : Int)).toNat = min s.size 270 := by split <;> omega
theorem s_text10 (s : ByteArray) {σ : H} {K : KH} (hK : K (.string (c270 s)) σ) : callW Tryz.prog 34 [.string s] K σ := by
 refine c34 _ ?_
 unfold g34
 rw [cut270]
 exact if_i ⟨⟨by split <;> omega, by split <;> omega⟩, bnd_none⟩ hK
theorem s_done10 {σ0 τ : H} {bf br N : Nat} {A : AT} (hI : Wk.Inv A) (hB : Bd N A) (hN : N <= 1000000) (x : CAct) (h : BothAt σ0 τ bf br A) {K : KH} (hK : ∀ τ', BothAt σ0 τ' bf br (A.ciR x).2 -> K (.bool true) τ') :
 callW Tryz.prog 33 [.pointer (some ⟨bf, 0, none⟩), .pointer (some ⟨br, 0, none⟩), .agg ⟨x.cells⟩] K τ := by
 refine c33 _ _ _ _ _ _ ?_
 unfold g33
 refine al_i ?_; intro b7 σ1 g1 e1 n1
 have h1 := h.more n1 g1 e1
 have kb : ∀ {τ'}, Gr (σ0.put b7 (.cells ⟨[.int .u8 x.w, .string x.a, .string x.b, .int .i64 x.m]⟩ 69 (0, 0))) τ' -> τ' b7 = some (.cells ⟨[.int .u8 x.w, .string x.a, .string x.b, .int .i64 x.m]⟩ 69 (0, 0)) := fun hg => hg.get (H.put_same _ _ _)
 have hgl : Gr σ0 (σ0.put b7 (.cells ⟨[.int .u8 x.w, .string x.a, .string x.b, .int .i64 x.m]⟩ 69 (0, 0))) := Gr.put (none_of h.up n1) _
 refine rd_S (rdC_of e1 (by rfl)) (rd_S (rdC_of e1 (by rfl)) ?_)
 refine call_i (s_text10 _ (app_S (and_i (rdC_of e1 (by rfl)) ?_)))
 refine call_i (s_text10 _ (app_S ?_))
 refine rd_I (rdC_of e1 (by rfl)) (if_i (by decide) ?_)
 have hz := c270_size x.b
 have fin : ∀ (e : Int) τ', BothAt (σ0.put b7 (.cells ⟨[.int .u8 x.w, .string x.a, .string x.b, .int .i64 x.m]⟩ 69 (0, 0))) τ' bf br (A.ciR x).2 -> K (.bool (e == e)) τ' := fun e τ' h' => by
  rw [beq_self_eq_true]; exact hK τ' (h'.less hgl)
 unfold AT.ciR at fin
 clear hK
 show brW ((Int.tmod x.w 6 : Int) == 0) _ _ _
 by_cases c0 : Int.tmod x.w 6 = 0
 ·rw [if_pos c0] at fin
  exact br_t (by simpa using c0) (h1.step (fun hF hk => s_Mkdir hI hB (by omega) hF _ _ fun σ' B' a _ => hk σ' B' a) (fun hR hk => s_rfMkdir hI hB (by omega) hR _ _ fun σ' B' a _ => hk σ' B' a) (fun _ _ q => q) (fin _))
 rw [if_neg c0] at fin
 refine br_f (by simpa using c0) ?_
 by_cases c1 : Int.tmod x.w 6 = 1
 ·rw [if_pos c1] at fin
  exact br_t (by simpa using c1) (h1.step (fun hF hk => s_Write hI hB (by omega) hF _ _ _ _ (by omega) fun σ' B' a _ => hk σ' B' a) (fun hR hk => s_rfWrite hI hB (by omega) hR _ _ _ _ (by omega) fun σ' B' a _ => hk σ' B' a) (fun _ _ q => q) (fin _))
 rw [if_neg c1] at fin
 refine br_f (by simpa using c1) ?_
 by_cases c2 : Int.tmod x.w 6 = 2
 ·rw [if_pos c2] at fin
  exact br_t (by simpa using c2) (h1.step (fun hF hk => s_Symlink hI hB (by omega) hF _ _ _ fun σ' B' a _ => hk σ' B' a) (fun hR hk => s_rfSymlink hI hB (by omega) hR _ _ _ (by omega) fun σ' B' a _ => hk σ' B' a) (fun _ _ q => q) (fin _))
 rw [if_neg c2] at fin
 refine br_f (by simpa using c2) ?_
 by_cases c3 : Int.tmod x.w 6 = 3
 ·rw [if_pos c3] at fin
  exact br_t (by simpa using c3) (h1.step (fun hF hk => s_Hard hF _ _ _ fun σ' B' a _ => hk σ' B' a) (fun hR hk => s_rfHard hI hB (by omega) hR _ _ _ fun σ' B' a _ => hk σ' B' a) (fun _ _ q => q) (fin _))
 rw [if_neg c3] at fin
 refine br_f (by simpa using c3) ?_
 by_cases c4 : Int.tmod x.w 6 = 4
 ·rw [if_pos c4] at fin
  exact br_t (by simpa using c4) (h1.step (fun hF hk => s_Rename hI hB (by omega) hF _ _ _ fun σ' B' a _ => hk σ' B' a) (fun hR hk => s_rfRename hI hB (by omega) hR _ _ _ fun σ' B' a _ => hk σ' B' a) (fun _ _ q => q) (fin _))
 rw [if_neg c4] at fin
 refine br_f (by simpa using c4) (rd_I (rdC_of e1 (by rfl)) (rd_I (rdC_of e1 (by rfl)) ?_))
 exact h1.step (fun hF hk => s_Chmod hF _ _ _ fun σ' B' a _ => hk σ' B' a) (fun hR hk => s_rfChmod hI hB (by omega) hR _ _ _ fun σ' B' a _ => hk σ' B' a) (fun σ5 g q => and_i (rdC_of (kb g) (by rfl)) q) (fin _)
theorem nil_path {A : AT} : A.take 300 ⟨⟨[]⟩⟩ = (5, Tr.z) /\ A.canonF ⟨⟨[]⟩⟩ = (5, Tr.z) := by
 have h : A.take 300 ⟨⟨[]⟩⟩ = (5, Tr.z) := by
  have hs : (A.stat ⟨⟨[47]⟩⟩ ⟨⟨[]⟩⟩ false).1 = 5 := stat_nil rfl
  rw [AT.take]
  simp only [hs]
  simp
 refine ⟨h, ?_⟩
 unfold AT.canonF
 rw [h]; rfl
theorem canon_cases (A : AT) (p : ByteArray) : ((A.canonF p).1 ≠ 0 /\ (A.canonF p).2 = Tr.z) \/ ((A.canonF p).1 = 0 /\ (A.canonF p).2 = (A.take 300 p).2 /\ (A.canonF p).2.check = 0) := by
 unfold AT.canonF
 simp only
 split
 ·rename_i h; exact .inl ⟨h, rfl⟩
 ·split
  ·rename_i h; exact .inl ⟨h, rfl⟩
  ·rename_i h; exact .inr ⟨rfl, rfl, by simpa using h⟩
theorem s_CanonIs {σ : H} (y : Sl) (acts : List CAct) (hy : RowsAt σ 4 (acts.map CAct.cells) y) (path : ByteArray) {K : KH} (hK : ∀ σ', Gr σ σ' -> K (.bool true) σ') :
 callW Tryz.prog 7 [.slice y.base y.len y.cap, .string path] K σ := by
 refine c7 _ _ ?_
 unfold g7
 have hyl : y.len = acts.length := by rw [hy.1]; simp
 refine al_i ?_; intro b2 σ1 g1 e1 n1
 refine st_i2 e1 sz_Quota (by rfl) (by rfl) ?_; intro σ2 p2
 have g2 : Gr σ σ2 := g1.putF p2 n1
 have k2 : σ2 b2 = some (.cells ⟨[.int .i64 80, .int .i64 3000]⟩ 64 (0, 0)) := p2.same
 refine rd_G (rdA_of' k2 (by rfl)) ?_
 (refine app_of rfl ?_; try dsimp only)
 refine rd_G (rdA_of' k2 (by rfl)) ?_
 (refine app_of rfl ?_; try dsimp only)
 refine call_from (gr_empty σ2) (s_New 80 3000 (K := fun v τ => ∃ bf B, v = .pointer (some ⟨bf, 0, none⟩) /\ FsAt τ bf (newT 80 3000) B) (fun h => by cases h) fun _ bf σ' B' h1 _ _ => ⟨bf, B', rfl, h1⟩) ?_
 rintro v σ3 ρF ⟨bf, B, rfl, hF⟩ w1 w2 w3
 have g3 : Gr σ2 σ3 := gr_of fun b o hb => w2 b o rfl hb
 have dF : ∀ b, σ2 b ≠ none -> ρF b = none := fun b hb => w3 b hb rfl
 refine app_P (and_i (rdA_of' (g3.get k2) (by rfl)) ?_)
 refine call_from (gr_empty σ3) (s_rfNew 80 3000 (K := fun v τ => ∃ br D, v = .pointer (some ⟨br, 0, none⟩) /\ RfAt τ br (newT 80 3000) D) (fun h => by cases h) fun _ bf σ' B' h1 _ _ => ⟨bf, B', rfl, h1⟩) ?_
 rintro v σ4 ρR ⟨br, D, rfl, hR⟩ y1 y2 y3
 have g4 : Gr σ3 σ4 := gr_of fun b o hb => y2 b o rfl hb
 have dR : ∀ b, σ3 b ≠ none -> ρR b = none := fun b hb => y3 b hb rfl
 have g23 : Gr σ σ3 := g2.trans g3
 have H0 : BothAt σ σ4 bf br (newT 80 3000) := ⟨ρF, ρR, B, D, hF, hR, w1.trans g4, y1, g23.trans g4, fun b hb => dF b (by
  cases h : σ b with
  | none => exact absurd h hb
  | some o => rw [g2.get h]; simp), fun b hb => dR b (by
  cases h : σ b with
  | none => exact absurd h hb
  | some o => rw [g23.get h]; simp), fun b hb => dR b (by
  cases h : ρF b with
  | none => exact absurd h hb
  | some o => rw [w1.get h]; simp)⟩
 refine app_P ?_
 clear w1 w2 w3 y1 y2 y3 dF dR g3 g4 g23 k2 p2 g1 e1 n1 g2 hF hR
 refine j_i (fun j => j y path (some ⟨bf, 0, none⟩) (some ⟨br, 0, none⟩) false σ4) ?_ ?_
 case refine_2 =>
  intro j hj
  exact br_f rfl hj
 refine br_f rfl ?_
 refine loop_i ?_
 intro R hRR
 have key : ∀ (c i : Nat) (A : AT) (N : Nat) (τ : H), c + i = min 50 acts.length -> Wk.Inv A -> Bd N A -> N <= 1 + i -> A.qb = 3000 -> BothAt σ τ bf br A -> R y path (some ⟨bf, 0, none⟩) (some ⟨br, 0, none⟩) (i : Int) τ := by
  intro c
  induction c with
  | succ c ih =>
   intro i A N τ hc hI hB hN hq hH
   obtain ⟨x, hx⟩ : ∃ x, acts[i]? = some x := ⟨_, List.getElem?_eq_getElem (by omega)⟩
   refine hRR _ _ _ _ _ _ ?_
   refine j_i (fun j => ∀ v1 v2, j y path (some ⟨bf, 0, none⟩) (some ⟨br, 0, none⟩) (i : Int) v1 v2 true τ) ?_ ?_
   case refine_2 =>
    intro j hj
    refine br_t (decide_eq_true (by omega)) ?_
    have : decide ((i : Int) < 50) = true := by simp only [decide_eq_true_eq]; omega
    rw [this]; exact hj _ _
   intro v1 v2
   refine br_t rfl ?_
   obtain ⟨g, o, a1, a2⟩ := (hy.gr hH.up).rd (i := i) (r := x.cells) (by rw [List.getElem?_map, hx]; rfl) (by decide)
   rw [a1]
   refine ptr_i (if_i ⟨by omega, by show _ < ((y.len : Nat) : Int); omega⟩ (rd_G (by rw [Int.toNat_natCast]; exact a2) ?_))
   unfold CAct.cells
   (refine app_of rfl ?_; try dsimp only)
   have hok := ciR_ok hI hB (by omega) x
   refine call_i (s_done10 hI hB (by omega) x hH ?_)
   intro τ' hH'
   refine app_B (br_f rfl ?_)
   rw [wrapS (i := i) (by omega)]
   exact ih (i + 1) _ (N + 1) τ' (by omega) hok.inv hok.bd (by omega) (by rw [hok.qb]; exact hq) hH'
  | zero =>
   intro i A N τ hc hI hB hN hq hH
   refine hRR _ _ _ _ _ _ ?_
   refine j_i (fun j => ∀ v1 v2, j y path (some ⟨bf, 0, none⟩) (some ⟨br, 0, none⟩) (i : Int) v1 v2 false τ) ?_ ?_
   case refine_2 =>
    intro j hj
    by_cases h : (i : Int) < ((y.len : Nat) : Int)
    ·refine br_t (decide_eq_true h) ?_
     have : decide ((i : Int) < 50) = false := by simp only [decide_eq_false_iff_not]; omega
     rw [this]; exact hj _ _
    ·exact br_f (decide_eq_false h) (hj _ _)
   intro v1 v2
   refine br_f rfl ?_
   have hsm := take_small hI hB (by omega) (by omega)
   have hps := c270_size path
   obtain ⟨B1, F1⟩ := hH.fs
   obtain ⟨M1, R1⟩ := hH.rf
   have hup := hH.up
   refine call_i (s_text10 path (app_S ?_))
   generalize hpe : c270 path = p at hps ⊢
   cases hp : strEq p ⟨⟨[]⟩⟩ with
   | true =>
    refine br_t rfl ?_
    refine call_i (s_Of (A := A) hI hB (by omega) F1 ⟨⟨[]⟩⟩ (by decide) (fun h => by rw [nil_path.1] at h; cases h) ?_)
    intro z τ2 ρ k1 _ _ _
    rw [nil_path.2]
    unfold trC
    (refine app_of rfl ?_; try dsimp only)
    refine al_i ?_; intro b45 τ3 k3 e3 n3
    refine st_i2 e3 sz_Node (by rfl) (by rfl) ?_; intro τ4 p4
    refine br_t rfl (call_i (s_works10 (app_B (hK τ4 ?_))))
    exact ((hup.trans k1).trans k3).putF p4 (none_of (hup.trans k1) n3)
   | false =>
    refine br_f rfl (call_i (s_text10 path (app_S ?_)))
    rw [hpe]
    refine call_i (s_Of hI hB (by omega) F1 p (by omega) (fun _ => Nat.le_trans (hsm p) (by decide)) ?_)
    intro z1 τ2 ρ1 k1 r1 _ s1
    have hcc := canon_cases A p
    have htot : (A.canonF p).2.total <= 1000000000000 := by
     rcases hcc with ⟨_, h⟩ | ⟨_, h, _⟩
     ·rw [h, z_total]; decide
     ·rw [h]; exact hsm p
    cases hC : A.canonF p with
    | mk ce ct =>
    rw [hC] at hcc htot s1
    simp only at hcc htot s1 ⊢
    unfold trC
    (refine app_of rfl ?_; try dsimp only)
    refine al_i ?_; intro b54 τ3 k3 e3 n3
    refine st_i2 e3 sz_Node (by rfl) (by rfl) ?_; intro τ4 p4
    have k54 : τ4 b54 = some (.cells ⟨trC ct z1⟩ 73 (0, 0)) := p4.same
    have G4 : Gr τ2 τ4 := k3.putF p4 n3
    clear p4 e3 k3
    refine call_i (s_text10 path (app_S ?_))
    rw [hpe]
    refine call_i (s_rtOf hI hB (by omega) (R1.gr (k1.trans G4)) p (by omega) (fun _ => hsm p) ?_)
    intro z2 τ5 ρ2 k5 r3 _ s2
    rw [hC] at s2 ⊢
    simp only at s2 ⊢
    unfold trC
    (refine app_of rfl ?_; try dsimp only)
    refine al_i ?_; intro b62 τ6 k6 e6 n6
    refine st_i2 e6 sz_Node (by rfl) (by rfl) ?_; intro τ7 p7
    have k62 : τ7 b62 = some (.cells ⟨trC ct z2⟩ 73 (0, 0)) := p7.same
    have G7 : Gr τ5 τ7 := k6.putF p7 n6
    have k54' := (k5.trans G7).get k54
    have Gall : Gr σ τ7 := (((hup.trans k1).trans G4).trans k5).trans G7
    clear p7 e6 k6
    unfold trC at k54' k62
    refine br_f (by simp) ?_
    rcases hcc with ⟨h1, h2⟩ | ⟨h1, _, h3⟩
    ·subst h2
     refine br_t (by simpa using h1) (rd_I (rdC_of k54' (by rfl)) (br_t rfl (rd_L (rdC_of k54' (by rfl)) ?_)))
     refine br_t (by rw [s1.1]; rfl) (call_i (s_works10 (app_B (hK τ7 Gall))))
    ·subst h1
     obtain ⟨d1, _, d3, _⟩ := check_z h3
     refine br_f rfl (rd_G (rdA_of' k54' (by rfl)) ?_)
     (refine app_of rfl ?_; try dsimp only)
     refine rd_G (rdA_of' k62 (by rfl)) ?_
     (refine app_of rfl ?_; try dsimp only)
     refine call_i (s_rtSame ct z1 ct z2 (s1.gr (((r1.trans G4).trans k5).trans G7)) (s2.gr (r3.trans G7)) (by omega) (by omega) ?_)
     rw [same_refl ct d1 d3]
     refine app_B (br_t rfl ?_)
     refine call_i (s_Used ((((F1.gr k1).gr G4).gr k5).gr G7) ?_)
     (refine app_of rfl ?_; try dsimp only)
     refine call_i (s_rfUsed hI hB (by omega) ((((R1.gr k1).gr G4).gr k5).gr G7) ?_)
     (refine app_of rfl ?_; try dsimp only)
     exact br_t (by simp) (call_i (s_works10 (app_B (hK τ7 Gall))))
 obtain ⟨i0, i1⟩ := newT_ok (qi := 80) (qb := 3000) rfl
 exact key (min 50 acts.length) 0 (newT 80 3000) 1 σ4 (by omega) i0 i1 (by omega) rfl H0
end Go.Proofs.YtbjbeajbckcecaaGreatDoor

set_option maxRecDepth 100000
namespace Go.Proofs.YtbjbeajbckcecaaGreatDoor
open Go Go.HL Go.Wk Go.ChangeShapes Go.WideShapes Go.ChangeAt Go.RowKit
namespace act10
theorem cs_uint8 : Tryz.prog.cellsOf 5 = 1 := by kernel_rfl
theorem cs_string : Tryz.prog.cellsOf 9 = 1 := by kernel_rfl
theorem cs_int : Tryz.prog.cellsOf 3 = 1 := by kernel_rfl
theorem act_of {D : Type} {enc : TypeId × Value -> D} {W : World} {m : Nat} {r : List Value} {x : DataW D × List MemPlace} (h : DataW.trod enc Tryz.prog W 0 (fun _ => true) true m 69 r = some x) : ∃ a : CAct, r = a.cells := by
 obtain ⟨xs, n, _, _, hl, hlen, hf⟩ := DataW.trod_struct Tryz.underlying69 h
 have hl : r.length = 4 := hl.trans (by kernel_rfl)
 have hlen : xs.length = 4 := hlen
 obtain ⟨a0, a1, a2, a3, rfl⟩ : ∃ a0 a1 a2 a3, r = [a0, a1, a2, a3] := by
  match r, hl with
  | [a0, a1, a2, a3], _ => exact ⟨_, _, _, _, rfl⟩
 have g : ∀ i, i < 4 -> ∃ y, xs[i]? = some y := fun i hi => ⟨_, List.getElem?_eq_getElem (by omega)⟩
 have h0 := hf 0 _ rfl
 obtain ⟨y0, e0⟩ := g 0 (by decide)
 rw [e0] at h0
 obtain ⟨n0, q0, _⟩ := DataW.trod_int (k := .u8) Tryz.underlying5 h0
 have h1 := hf 1 _ rfl
 obtain ⟨y1, e1⟩ := g 1 (by decide)
 rw [e1] at h1
 obtain ⟨s1, q1, _⟩ := DataW.trod_string Tryz.underlying9 h1
 have h2 := hf 2 _ rfl
 obtain ⟨y2, e2⟩ := g 2 (by decide)
 rw [e2] at h2
 obtain ⟨s2, q2, _⟩ := DataW.trod_string Tryz.underlying9 h2
 have h3 := hf 3 _ rfl
 obtain ⟨y3, e3⟩ := g 3 (by decide)
 rw [e3] at h3
 obtain ⟨n3, q3, _⟩ := DataW.trod_int (k := .i64) Tryz.underlying3 h3
 have q0 : List.take (Tryz.prog.cellsOf 5) (List.drop 0 [a0, a1, a2, a3]) = [.int .u8 n0] := q0
 have q1 : List.take (Tryz.prog.cellsOf 9) (List.drop 1 [a0, a1, a2, a3]) = [.string s1] := q1
 have q2 : List.take (Tryz.prog.cellsOf 9) (List.drop 2 [a0, a1, a2, a3]) = [.string s2] := q2
 have q3 : List.take (Tryz.prog.cellsOf 3) (List.drop 3 [a0, a1, a2, a3]) = [.int .i64 n3] := q3
 rw [cs_uint8] at q0
 rw [cs_string] at q1 q2
 rw [cs_int] at q3
 simp only [List.drop_succ_cons, List.drop_zero, List.take_succ_cons, List.take_zero, List.cons.injEq, and_true] at q0 q1 q2 q3
 exact ⟨⟨n0, s1, s2, n3⟩, by rw [q0, q1, q2, q3]; rfl⟩
theorem acts_of {D : Type} {enc : TypeId × Value -> D} {W : World} {m n : Nat} : ∀ {rows : List (List Value)}, (∀ r ∈ rows, m < n /\ ∃ d ps, DataW.trod enc Tryz.prog W 0 (fun _ => true) true m 69 r = some (d, ps)) -> ∃ acts : List CAct, rows = acts.map CAct.cells := by
 intro rows
 induction rows with
 | nil => exact fun _ => ⟨[], rfl⟩
 | cons r rs ih =>
  intro hall
  obtain ⟨acts, ha⟩ := ih fun r hr => hall r (List.mem_cons_of_mem _ hr)
  obtain ⟨_, d, ps, hd⟩ := hall r (List.mem_cons_self ..)
  obtain ⟨a, ha'⟩ := act_of hd
  exact ⟨a :: acts, by rw [ha, ha']; rfl⟩
end act10
end Go.Proofs.YtbjbeajbckcecaaGreatDoor

