/- A part of the proof: FsKnown holds. -/
import Derived.Test.YtbjbeajbckcecaaGreatDoorUay
import Derived.Test.YtbjbeajbckcecaaGreatDoorCards
import Derived.Test.YtbjbeajbckcecaaGreatDoorTie
import Derived.WalkKit
import Derived.ProofKit
import Derived.OpenShut
import Derived.Deep.DeepHandedRow
import Derived.Lib.LaidTab
import Derived.Shelf.Strings.Repeat
import Derived.Ground.NamesProg
import Derived.Test.YtbjbeajbckcecaaGreatDoorProg
namespace Go.Wk
open Go Go.HL
mutual
def Tr.count : Tr -> Nat
 | .mk _ _ _ _ kids => 1 + Tr.countRow kids
def Tr.countRow : List Tr -> Nat
 | [] => 0
 | t :: r => Tr.count t + Tr.countRow r
end
mutual
def Tr.bytes : Tr -> Nat
 | .mk _ _ _ d kids => d.size + Tr.bytesRow kids
def Tr.bytesRow : List Tr -> Nat
 | [] => 0
 | t :: r => Tr.bytes t + Tr.bytesRow r
end
theorem Tr.count_eq (t : Tr) : t.count = 1 + Tr.countRow t.kids := by obtain ⟨n, k, e, d, kids⟩ := t; simp only [Tr.count, Tr.kids]
theorem Tr.bytes_eq (t : Tr) : t.bytes = t.data.size + Tr.bytesRow t.kids := by obtain ⟨n, k, e, d, kids⟩ := t; simp only [Tr.bytes, Tr.kids, Tr.data]
theorem Tr.may_eq (t : Tr) : t.may = if t.kind = 1 then t.kids.isEmpty else if t.kind = 3 then t.kids.isEmpty && (!t.exec && linkOk t.data) else if t.kind = 2 then !t.exec && (sEq t.data ⟨⟨[]⟩⟩ && Tr.mayRow none t.kids) else false := by
 obtain ⟨n, k, e, d, kids⟩ := t
 rw [Tr.may]; rfl
theorem fold_gr (f : Tr -> Int) : ∀ (l : List Tr) (d : Int), d <= l.foldl (fun d x => gr d (f x)) d /\ ∀ x ∈ l, f x <= l.foldl (fun d x => gr d (f x)) d := by
 intro l
 induction l with
 | nil => intro d; exact ⟨Int.le_refl _, by simp⟩
 | cons y r ih =>
  intro d
  simp only [List.foldl_cons]
  obtain ⟨h1, h2⟩ := ih (gr d (f y))
  have hg : d <= gr d (f y) /\ f y <= gr d (f y) := by unfold gr; split <;> omega
  refine ⟨by omega, fun x hx => ?_⟩
  rcases List.mem_cons.1 hx with e | e
  ·subst e; omega
  ·exact h2 x e
theorem deep_stays : ∀ (m : Nat) (t : Tr), t.deep m < m -> t.deep (m + 1) = t.deep m := by
 intro m
 induction m with
 | zero => intro t h; simp [Tr.deep] at h
 | succ m ih =>
  intro t h
  unfold Tr.deep at h ⊢
  by_cases hk : t.kind ≠ 2
  ·rw [if_pos (.inl hk), if_pos (.inl hk)]
  ·by_cases hm : m = 0
   ·subst hm; rw [if_pos (.inr rfl)] at h; omega
   ·have c1 : ¬ (t.kind ≠ 2 \/ m = 0) := by rintro (h | h); exact hk h; exact hm h
    have c2 : ¬ (t.kind ≠ 2 \/ m + 1 = 0) := by rintro (h | h); exact hk h; omega
    rw [if_neg c1] at h
    rw [if_neg c2, if_neg c1]
    have hx : ∀ x ∈ t.kids, Tr.deep (m + 1) x = Tr.deep m x := by
     intro x hx
     have := (fold_gr (fun x => 1 + Tr.deep m x) t.kids 1).2 x hx
     exact ih x (by omega)
    have key : ∀ (l : List Tr) (d : Int), (∀ x ∈ l, Tr.deep (m + 1) x = Tr.deep m x) -> l.foldl (fun d x => gr d (1 + Tr.deep (m + 1) x)) d = l.foldl (fun d x => gr d (1 + Tr.deep m x)) d := by
     intro l
     induction l with
     | nil => intro d _; rfl
     | cons y r ihr => intro d h; simp only [List.foldl_cons]; rw [h y (List.mem_cons_self ..)]; exact ihr _ fun x hx => h x (List.mem_cons_of_mem _ hx)
    exact key t.kids 1 hx
theorem kid_shallow {t x : Tr} (hk : t.kind = 2) (h : t.tooDeep = false) (hx : x ∈ t.kids) : x.tooDeep = false := by
 unfold Tr.tooDeep at h ⊢
 simp only [decide_eq_false_iff_not] at h ⊢
 have h2 : t.deep 14 = t.kids.foldl (fun d x => gr d (1 + Tr.deep 13 x)) 1 := by
  rw [Tr.deep, if_neg (by rintro (h | h); exact h hk; omega)]
 have := (fold_gr (fun x => 1 + Tr.deep 13 x) t.kids 1).2 x hx
 rw [h2] at h
 rw [deep_stays 13 x (by omega)]
 omega
theorem may_kids {t : Tr} (h : t.may = true) : t.kids = [] \/ (t.kind = 2 /\ Tr.mayRow none t.kids = true) := by
 rw [Tr.may_eq] at h
 by_cases k1 : t.kind = 1
 ·rw [if_pos k1] at h; exact .inl (List.isEmpty_iff.1 h)
 ·rw [if_neg k1] at h
  by_cases k3 : t.kind = 3
  ·rw [if_pos k3] at h; simp only [Bool.and_eq_true] at h; exact .inl (List.isEmpty_iff.1 h.1)
  ·rw [if_neg k3] at h
   by_cases k2 : t.kind = 2
   ·rw [if_pos k2] at h; simp only [Bool.and_eq_true] at h; exact .inr ⟨k2, h.2.2⟩
   ·rw [if_neg k2] at h; cases h
theorem mayRow_all : ∀ {l : List Tr} {p : Option ByteArray}, Tr.mayRow p l = true -> ∀ x ∈ l, mayName x.name = true /\ x.may = true := by
 intro l
 induction l with
 | nil => intro p _ x hx; simp at hx
 | cons y r ih =>
  intro p h x hx
  simp only [Tr.mayRow, Bool.and_eq_true] at h
  rcases List.mem_cons.1 hx with e | e
  ·subst e; exact ⟨h.1, h.2.1⟩
  ·exact ih h.2.2.2 x e
theorem may_size : ∀ t : Tr, t.may = true -> t.tooDeep = false -> t.size = ((t.count : Int), (t.bytes : Int)) := by
 refine Tr.ind ?_
 intro t ih hm hd
 have hsz : t.size = Tr.sizeRow t.kids (1, (t.data.size : Int)) := by obtain ⟨n, k, e, d, kids⟩ := t; simp only [Tr.size, Tr.kids, Tr.data]
 have key : ∀ (l : List Tr) (a b : Nat), (∀ x ∈ l, x ∈ t.kids) -> Tr.sizeRow l ((a : Int), (b : Int)) = (((a + Tr.countRow l : Nat) : Int), ((b + Tr.bytesRow l : Nat) : Int)) := by
  intro l
  induction l with
  | nil => intro a b _; simp [Tr.sizeRow, Tr.countRow, Tr.bytesRow]
  | cons x r ihl =>
   intro a b hx
   have hx0 := hx x (List.mem_cons_self ..)
   rcases may_kids hm with h0 | ⟨hk, hrow⟩
   ·rw [h0] at hx0; simp at hx0
   ·have hsh := kid_shallow hk hd hx0
    have := ih x hx0 (mayRow_all hrow x hx0).2 hsh
    simp only [Tr.sizeRow, hsh, Bool.false_eq_true, if_false, this, Tr.countRow, Tr.bytesRow]
    have h2 := ihl (a + x.count) (b + x.bytes) (fun y hy => hx y (List.mem_cons_of_mem _ hy))
    simp only [Int.natCast_add] at h2 ⊢
    rw [h2, Int.add_assoc, Int.add_assoc]
 have := key t.kids 1 t.data.size (fun _ h => h)
 rw [hsz, Tr.count_eq, Tr.bytes_eq]
 exact this
mutual
def Lies (A : AT) : Tr -> Int -> Prop
 | .mk _ k e d kids, i => ∃ n, A.get i = some n /\ n.kind = k /\ n.mode = modeOf k e /\ n.data = d /\ n.links = 1 /\ keysL n.ents = kids.map Tr.name /\ LiesRow A i n.ents kids
def LiesRow (A : AT) (i : Int) (es : List (ByteArray × Int)) : List Tr -> Prop
 | [] => True
 | t :: r => (∃ j, i < j /\ lk t.name es = some j /\ Lies A t j) /\ LiesRow A i es r
end
theorem lies_iff {A : AT} {t : Tr} {i : Int} : Lies A t i ↔ ∃ n, A.get i = some n /\ n.kind = t.kind /\ n.mode = modeOf t.kind t.exec /\ n.data = t.data /\ n.links = 1 /\ keysL n.ents = t.kids.map Tr.name /\ LiesRow A i n.ents t.kids := by
 obtain ⟨nm, k, e, d, kids⟩ := t
 simp only [Lies, Tr.kind, Tr.exec, Tr.data, Tr.kids]
theorem liesRow_iff {A : AT} {i : Int} {es : List (ByteArray × Int)} : ∀ {l : List Tr}, LiesRow A i es l ↔ ∀ x ∈ l, ∃ j, i < j /\ lk x.name es = some j /\ Lies A x j := by
 intro l
 induction l with
 | nil => simp [LiesRow]
 | cons y r ih => simp only [LiesRow, ih, List.mem_cons, forall_eq_or_imp]
theorem Lies.frame {A A' : AT} : ∀ (t : Tr) (i : Int), Lies A t i -> (∀ k n, i <= k -> A.get k = some n -> A'.get k = some n) -> Lies A' t i := by
 refine Tr.ind ?_
 intro t ih i h hf
 rw [lies_iff] at h ⊢
 obtain ⟨n, h1, h2, h3, h4, h5, h6, h7⟩ := h
 refine ⟨n, hf i n (Int.le_refl _) h1, h2, h3, h4, h5, h6, ?_⟩
 rw [liesRow_iff] at h7 ⊢
 intro x hx
 obtain ⟨j, q1, q2, q3⟩ := h7 x hx
 exact ⟨j, q1, q2, ih x hx j q3 fun k n hk hn => hf k n (by omega) hn⟩
theorem leB_refl (x : List UInt8) : leB x x = true := (leB_iff x x).2 (List.le_refl x)
theorem ltB_trans {a b c : ByteArray} (h1 : ltB a b = true) (h2 : ltB b c = true) : ltB a c = true := by
 unfold ltB at *
 simp only [Bool.not_eq_true'] at *
 rw [<- Bool.not_eq_true, leB_iff] at *
 intro h
 have hbc : b.data.toList <= c.data.toList := (List.le_total _ _).resolve_right h2
 exact h1 (List.le_trans hbc h)
theorem ltB_irrefl (a : ByteArray) : ltB a a = false := by unfold ltB; rw [leB_refl]; rfl
theorem mayRow_lt : ∀ {l : List Tr} {p : ByteArray}, Tr.mayRow (some p) l = true -> ∀ x ∈ l, ltB p x.name = true := by
 intro l
 induction l with
 | nil => intro p _ x hx; simp at hx
 | cons y r ih =>
  intro p h x hx
  simp only [Tr.mayRow, Bool.and_eq_true, above] at h
  rcases List.mem_cons.1 hx with e | e
  ·subst e; exact h.2.2.1
  ·exact ltB_trans h.2.2.1 (ih h.2.2.2 x e)
theorem mayName_named {s : ByteArray} (h : mayName s = true) : namedE s = 0 := by
 unfold mayName at h
 simp only [Bool.and_eq_true, decide_eq_true_eq, Bool.not_eq_true'] at h
 obtain ⟨h1, h2, h3, h4, h5⟩ := h
 unfold namedE
 have h0 : sEq s ⟨⟨[]⟩⟩ = false := by
  refine sEq_false ?_
  intro e; rw [e] at h1; exact absurd h1 (by decide)
 rw [if_neg (by omega), h0, h3, h4, h5]; rfl
theorem may_like {t : Tr} (h : t.may = true) : likeE t.kind (modeOf t.kind t.exec) t.data = 0 := by
 rw [Tr.may_eq] at h
 unfold likeE kindOkE modeOf
 by_cases k1 : t.kind = 1
 ·rw [k1]; cases t.exec <;> rfl
 ·rw [if_neg k1] at h
  by_cases k3 : t.kind = 3
  ·rw [if_pos k3] at h
   simp only [Bool.and_eq_true, Bool.not_eq_true'] at h
   rw [k3, h.2.1]
   simp [lk, h.2.2]
  ·rw [if_neg k3] at h
   by_cases k2 : t.kind = 2
   ·rw [if_pos k2] at h
    simp only [Bool.and_eq_true, Bool.not_eq_true'] at h
    rw [k2, h.1]
    simp [lk, h.2.1]
   ·rw [if_neg k2] at h; cases h
theorem room_of {A : AT} (hI : Inv A) {n : Nat} (h1 : A.ui + 1 <= A.qi) (h2 : A.ub + n <= A.qb) : A.roomE 1 (n : Int) = 0 := by
 have q1 := hI.uq
 have q2 := hI.bq
 have q3 := hI.ui_pos
 have q4 := hI.ub_pos
 unfold AT.roomE
 rw [wr_id (by omega) (by omega), wr_id (by omega) (by omega), if_pos ⟨h1, h2⟩]
structure Laid (A : AT) (dir : Int) (name : ByteArray) (t : Tr) (r : Int × AT) : Prop where
 ok : r.1 = 0
 ui : r.2.ui = A.ui + t.count
 ub : r.2.ub = A.ub + t.bytes
 last : r.2.last = A.last + t.count
 lies : Lies r.2 t (A.last + 1)
 atDir : ∀ nd, A.get dir = some nd -> r.2.get dir = some { nd with ents := up name (A.last + 1) nd.ents }
 old : ∀ k n, A.get k = some n -> k ≠ dir -> r.2.get k = some n
theorem lay_done : ∀ (t : Tr) (A : AT) (N : Nat) (dir : Int) (name : ByteArray), Inv A -> Bd N A -> N + t.total < 4611686018427387904 -> (∀ d, A.isDir dir -> A.deep 12 dir = some d -> d + t.levels <= 12) -> A.isDir dir -> namedE name = 0 -> A.find dir name = none -> t.may = true -> A.ui + t.count <= A.qi -> A.ub + t.bytes <= A.qb ->
 Laid A dir name t (AT.lay dir name t A) := by
 refine Tr.ind ?_
 intro t ih A N dir name hI hB hN hd hdir hnm hfn hmay hq1 hq2
 have htot : 1 + t.data.size + Tr.totalRow t.kids <= t.total := by obtain ⟨n, k, e, d, kids⟩ := t; simp only [Tr.total, Tr.kids, Tr.data]; omega
 have hce := t.count_eq
 have hbe := t.bytes_eq
 have hl : A.last < 4611686018427387904 := by have := hB.last; omega
 have hp := hI.last_pos
 have u1 := hI.ui_pos
 have u2 := hI.ub_pos
 have u3 := hI.uq
 have u4 := hI.bq
 have he : A.makeE dir name t.kind (modeOf t.kind t.exec) t.data = 0 := makeE_of hdir hnm (may_like hmay) hfn (room_of hI (by omega) (by omega))
 obtain ⟨h1, h2, h3⟩ := makeR_ok (dir := dir) (name := name) (kind := t.kind) (mode := modeOf t.kind t.exec) (data := t.data) hI hB (by omega) (by omega) (made_deep hI hd)
 have hrow := made_row hI hl he hd
 obtain ⟨nd, hnd, hnd2⟩ := hdir
 have hG := made_get (name := name) (kind := t.kind) (mode := modeOf t.kind t.exec) (data := t.data) hI hl hnd
 have hE := made_eq (name := name) (kind := t.kind) (mode := modeOf t.kind t.exec) (data := t.data) hI hl hnd
 have hdl := hI.low dir nd hnd
 rw [lay_eq]
 rw [makeR_z he] at h1 h2 h3 ⊢
 rw [wr_id (x := A.last + 1) (by omega) (by omega)]
 simp only at *
 have hA1 : (A.made dir name t.kind (modeOf t.kind t.exec) t.data).ui = A.ui + 1 /\ (A.made dir name t.kind (modeOf t.kind t.exec) t.data).ub = A.ub + t.data.size /\ (A.made dir name t.kind (modeOf t.kind t.exec) t.data).last = A.last + 1 /\ (A.made dir name t.kind (modeOf t.kind t.exec) t.data).qi = A.qi /\ (A.made dir name t.kind (modeOf t.kind t.exec) t.data).qb = A.qb := by
  rw [hE]
  exact ⟨wr_id (by omega) (by omega), wr_id (by omega) (by omega), rfl, rfl, rfl⟩
 have key : ∀ (l dn : List Tr) (A1 : AT) (M : Nat) (es : List (ByteArray × Int)), t.kids = dn ++ l -> Inv A1 -> Bd M A1 -> M + Tr.totalRow l <= N + t.total -> RowD A1 (A.last + 1) l -> Grows A A1 ->
  A1.get (A.last + 1) = some { newN dir t.kind (modeOf t.kind t.exec) t.data with ents := es } -> keysL es = dn.map Tr.name -> LiesRow A1 (A.last + 1) es dn -> A.last + 1 <= A1.last ->
  A1.last + Tr.countRow l = A.last + t.count -> A1.ui + Tr.countRow l = A.ui + t.count -> A1.ub + Tr.bytesRow l = A.ub + t.bytes -> A1.qi = A.qi -> A1.qb = A.qb ->
  (∀ k n, A.get k = some n -> k ≠ dir -> A1.get k = some n) -> A1.get dir = some { nd with ents := up name (A.last + 1) nd.ents } ->
  (∃ p, Tr.mayRow p l = true) -> (∀ x ∈ dn, ∀ y ∈ l, ltB x.name y.name = true) -> (l ≠ [] -> t.kind = 2) -> Laid A dir name t (AT.layRow (A.last + 1) l (0, A1)) := by
  intro l
  induction l with
  | nil =>
   intro dn A1 M es e1 a1 a2 a3 a4 a5 a6 a7 a8 a9 a10 a11 a12 a13 a14 a15 a16 a17 a18 a19
   simp only [AT.layRow, Tr.countRow, Tr.bytesRow, List.append_nil] at *
   subst e1
   refine ⟨rfl, by show A1.ui = _; omega, by show A1.ub = _; omega, by show A1.last = _; omega, ?_, ?_, a15⟩
   ·rw [lies_iff]
    exact ⟨_, a6, rfl, rfl, rfl, rfl, a7, a8⟩
   ·intro nd' hnd'; rw [hnd] at hnd'; cases hnd'; exact a16
  | cons x r ihl =>
   intro dn A1 M es e1 a1 a2 a3 a4 a5 a6 a7 a8 a9 a10 a11 a12 a13 a14 a15 a16 a17 a18 a19
   simp only [Tr.countRow, Tr.bytesRow, Tr.totalRow] at *
   obtain ⟨p, hp'⟩ := a17
   simp only [Tr.mayRow, Bool.and_eq_true] at hp'
   have hk2 := a19 (by simp)
   have hxin : x ∈ t.kids := by rw [e1]; simp
   have hdirI : A1.isDir (A.last + 1) := ⟨_, a6, hk2⟩
   have hnotin : x.name ∉ keysL es := by
    rw [a7]
    intro hm
    obtain ⟨y, hy, hyn⟩ := List.mem_map.1 hm
    have := a18 y hy x (List.mem_cons_self ..)
    rw [hyn, ltB_irrefl] at this; cases this
   have hlkn : lk x.name es = none := lk_none_iff.2 hnotin
   have hfx : A1.find (A.last + 1) x.name = none := by unfold AT.find; rw [a6]; exact hlkn
   have hc1 := Tr.count_eq x
   have L := ih x hxin A1 M (A.last + 1) x.name a1 a2 (by omega) a4.head hdirI (mayName_named hp'.1) hfx hp'.2.1 (by omega) (by omega)
   obtain ⟨b1, b2, b3⟩ := lay_ok x A1 M (A.last + 1) x.name a1 a2 (by omega) a4.head
   rw [AT.layRow, if_pos rfl]
   generalize hres : AT.lay (A.last + 1) x.name x A1 = res at *
   obtain ⟨re, A2⟩ := res
   have h0 : re = 0 := L.ok
   subst h0
   have L2 : A2.ui = A1.ui + x.count := L.ui
   have L3 : A2.ub = A1.ub + x.bytes := L.ub
   have L4 : A2.last = A1.last + x.count := L.last
   have L5 : Lies A2 x (A1.last + 1) := L.lies
   have L6 : A2.get (A.last + 1) = some { newN dir t.kind (modeOf t.kind t.exec) t.data with ents := up x.name (A1.last + 1) es } := L.atDir _ a6
   have L7 : ∀ k n, A1.get k = some n -> k ≠ A.last + 1 -> A2.get k = some n := L.old
   have hgr2 : Grows A1 A2 := b3
   refine ihl (dn ++ [x]) A2 (M + x.total) (up x.name (A1.last + 1) es) (by rw [e1]; simp) b1 b2 (by omega) (a4.next a1 b3) (a5.trans b3) L6 ?_ ?_ (by omega) (by omega) (by omega) (by omega) (by rw [hgr2.qi]; exact a13) (by rw [hgr2.qb]; exact a14) ?_ ?_ ⟨some x.name, hp'.2.2.2⟩ ?_ (fun _ => hk2)
   ·rw [keys_up_none hlkn, a7]; simp
   ·rw [liesRow_iff] at a8 ⊢
    intro z hz
    rcases List.mem_append.1 hz with hz | hz
    ·obtain ⟨j, q1, q2, q3⟩ := a8 z hz
     refine ⟨j, q1, ?_, q3.frame z j fun k n hk hn => L7 k n hn (by omega)⟩
     rw [lk_up]
     have : (z.name == x.name) = false := by
      cases hb : (z.name == x.name) with
      | false => rfl
      | true => rw [eq_of_beq hb, hlkn] at q2; cases q2
     rw [this]; exact q2
    ·simp at hz; subst hz
     exact ⟨A1.last + 1, by omega, by rw [lk_up]; simp, L5⟩
   ·intro k n hk hkd
    refine L7 k n (a15 k n hk hkd) ?_
    have := (hI.low k n hk).2; omega
   ·exact L7 dir _ a16 (by omega)
   ·intro y hy z hz
    rcases List.mem_append.1 hy with hy | hy
    ·exact a18 y hy z (List.mem_cons_of_mem _ hz)
    ·simp at hy; subst hy; exact mayRow_lt hp'.2.2.2 z hz
 have hne : A.last + 1 ≠ dir := by omega
 refine key t.kids [] (A.made dir name t.kind (modeOf t.kind t.exec) t.data) (N + 1) [] rfl h1 h2 (by omega) hrow h3 ?_ rfl ?_ (by rw [hA1.2.2.1]; omega) (by rw [hA1.2.2.1]; omega) (by rw [hA1.1]; omega) (by rw [hA1.2.1]; omega) hA1.2.2.2.1 hA1.2.2.2.2 ?_ ?_ ?_ (by simp) ?_
 ·rw [hG, if_neg hne, if_pos rfl]; rfl
 ·simp [LiesRow]
 ·intro k n hk hkd
  rw [hG, if_neg hkd]
  have := (hI.low k n hk).2
  rw [if_neg (by omega)]; exact hk
 ·rw [hG, if_pos rfl]
 ·rcases may_kids hmay with h0 | ⟨_, h0⟩
  ·exact ⟨none, by rw [h0]; rfl⟩
  ·exact ⟨none, h0⟩
 ·intro hne
  rcases may_kids hmay with h0 | ⟨h0, _⟩
  ·exact absurd h0 hne
  ·exact h0
end Go.Wk

namespace Go.Wk
open Go Go.HL
structure OpOk (N : Nat) (A : AT) (r : Int × AT) : Prop where
 inv : Inv r.2
 bd : Bd N r.2
 same : r.1 ≠ 0 -> r.2 = A
 qi : r.2.qi = A.qi
 qb : r.2.qb = A.qb
variable {A : AT} {N : Nat}
theorem OpOk.self (h : Inv A) (hb : Bd N A) (e : Int) : OpOk N A (e, A) := ⟨h, hb, fun _ => rfl, rfl, rfl⟩
theorem OpOk.mono {M : Nat} {r : Int × AT} (h : OpOk N A r) (hl : N <= M) : OpOk M A r := ⟨h.inv, h.bd.mono hl, h.same, h.qi, h.qb⟩
theorem make_op (h : Inv A) (hb : Bd N A) (hN : N < 4611686018427387904) {dir : Int} {name : ByteArray} {kind mode : Int} {data : ByteArray} (hs : data.size < 4611686018427387904) (hdp : A.isDir dir -> kind = 2 -> ∃ d, A.deep 11 dir = some d) : OpOk (N + 1) A ((A.makeR dir name kind mode data).2.1, (A.makeR dir name kind mode data).2.2) := by
 obtain ⟨h1, h2, h3⟩ := makeR_ok (dir := dir) (name := name) (kind := kind) (mode := mode) (data := data) h hb hN hs hdp
 refine ⟨h1, h2, fun he => ?_, h3.qi, h3.qb⟩
 by_cases he' : A.makeE dir name kind mode data = 0
 ·rw [makeR_z he'] at he; exact absurd rfl he
 ·rw [makeR_n he']
theorem mkdirF_ok (h : Inv A) (hb : Bd N A) (hN : N < 4611686018427387904) (cwd path : ByteArray) : OpOk (N + 1) A (A.mkdirF cwd path) := by
 unfold AT.mkdirF
 simp only
 by_cases h1 : (A.freshP cwd path).1 ≠ 0
 ·rw [if_pos h1]; exact OpOk.self h (hb.mono (by omega)) _
 rw [if_neg h1]
 by_cases h2 : (A.deep 13 (A.freshP cwd path).2.dir).getD 0 >= 12
 ·rw [if_pos h2]; exact OpOk.self h (hb.mono (by omega)) _
 rw [if_neg h2]
 refine make_op h hb hN (by decide) fun hd _ => ?_
 obtain ⟨d, hd13, hd12, _⟩ := h.deep13 hd
 rw [hd13] at h2
 simp only [Option.getD_some] at h2
 exact ⟨d, deep_low hd12 11 (by omega)⟩
theorem symlinkF_ok (h : Inv A) (hb : Bd N A) (hN : N < 4611686018427387904) (cwd target path : ByteArray) : OpOk (N + 1) A (A.symlinkF cwd target path) := by
 unfold AT.symlinkF
 simp only
 cases hl : linkOk target with
 | false => exact OpOk.self h (hb.mono (by omega)) _
 | true =>
  simp only [Bool.true_eq_false, if_false]
  by_cases h1 : (A.freshP cwd path).1 ≠ 0
  ·rw [if_pos h1]; exact OpOk.self h (hb.mono (by omega)) _
  rw [if_neg h1]
  refine make_op h hb hN ?_ (fun _ hk => by cases hk)
  unfold linkOk at hl
  simp only [Bool.and_eq_true, decide_eq_true_eq] at hl
  omega
theorem writeF_ok (h : Inv A) (hb : Bd N A) (hN : N < 4611686018427387904) (cwd path data : ByteArray) (more : Bool) (hs : data.size < 2305843009213693952) : OpOk (N + 1) A (A.writeF cwd path data more) := by
 unfold AT.writeF
 simp only
 by_cases h1 : (A.locate cwd path true).1 ≠ 0
 ·rw [if_pos h1]; exact OpOk.self h (hb.mono (by omega)) _
 rw [if_neg h1]
 by_cases h2 : (A.locate cwd path true).2.there = false
 ·rw [if_pos h2]; exact make_op h hb hN (by omega) (fun _ hk => by cases hk)
 rw [if_neg h2]
 by_cases h3 : A.kind (A.locate cwd path true).2.ino = 2
 ·rw [if_pos h3]; exact OpOk.self h (hb.mono (by omega)) _
 rw [if_neg h3]
 obtain ⟨a, b, c, d, e⟩ := writeR_ok h hb (A.locate cwd path true).2.ino (if more then A.data (A.locate cwd path true).2.ino ++ data else data) (by
  have hq := h.bq
  cases more with
  | false => simp only [Bool.false_eq_true, if_false]; omega
  | true =>
   simp only [if_true, ByteArray.size_append]
   have : (A.data (A.locate cwd path true).2.ino).size <= 1073741824 := by
    unfold AT.data
    cases hg : A.get (A.locate cwd path true).2.ino with
    | none => decide
    | some n => have := h.size_le hg; show n.data.size <= _; omega
   omega)
 exact ⟨a, b.mono (by omega), c, d, e⟩
theorem chmodF_ok (h : Inv A) (hb : Bd N A) (cwd path : ByteArray) (mode : Int) : OpOk N A (A.chmodF cwd path mode) := by
 unfold AT.chmodF
 simp only
 split
 ·exact OpOk.self h hb _
 split
 ·exact OpOk.self h hb _
 obtain ⟨a, b, c, d, e⟩ := chmodR_ok h hb (A.with_ cwd path true).2.1 mode
 exact ⟨a, b, c, d, e⟩
theorem removeF_ok (h : Inv A) (hb : Bd N A) (hN : N < 4611686018427387904) (cwd path : ByteArray) : OpOk N A (A.removeF cwd path) := by
 unfold AT.removeF
 simp only
 split
 ·exact OpOk.self h hb _
 split
 ·exact OpOk.self h hb _
 split
 ·exact OpOk.self h hb _
 split
 ·exact OpOk.self h hb _
 obtain ⟨a, b, c, d, e⟩ := unlinkR_ok h hb hN (A.locate cwd path false).2.dir (A.locate cwd path false).2.name
 exact ⟨a, b, c, d, e⟩
theorem check_z {t : Tr} (h : t.check = 0) : t.tooDeep = false /\ t.name = ⟨⟨[]⟩⟩ /\ t.may = true /\ t.sizeT = ((t.count : Int), (t.bytes : Int)) /\ t.count <= 2000 /\ t.bytes <= 100000 := by
 unfold Tr.check at h
 cases h1 : t.tooDeep with
 | true => rw [h1] at h; simp at h
 | false =>
  rw [h1] at h
  simp only [Bool.false_eq_true, if_false] at h
  by_cases h2 : sEq t.name ⟨⟨[]⟩⟩ = false \/ t.may = false
  ·rw [if_pos h2] at h; cases h
  rw [if_neg h2] at h
  have hm : t.may = true := by
   cases hm : t.may with
   | true => rfl
   | false => exact absurd (.inr hm) h2
  have hn : t.name = ⟨⟨[]⟩⟩ := by
   cases hn : sEq t.name ⟨⟨[]⟩⟩ with
   | true => exact sEq_iff.1 hn
   | false => exact absurd (.inl hn) h2
  have hs : t.sizeT = ((t.count : Int), (t.bytes : Int)) := by
   unfold Tr.sizeT; rw [h1]; simp only [Bool.false_eq_true, if_false]; exact may_size t hm h1
  by_cases h3 : t.sizeT.1 > 2000 \/ t.sizeT.2 > 100000
  ·rw [if_pos h3] at h; cases h
  rw [hs] at h3
  simp only at h3
  refine ⟨rfl, hn, hm, hs, ?_, ?_⟩ <;> omega
theorem freshP_place (hI : Inv A) {cwd path : ByteArray} (h : (A.freshP cwd path).1 = 0) : PlOk A (A.freshP cwd path).2 /\ (A.freshP cwd path).2.there = false := by
 unfold AT.freshP at h ⊢
 simp only at h ⊢
 by_cases he : (A.locate cwd path false).1 = 0
 case neg => rw [if_pos he] at h; exact absurd h he
 rw [if_neg (by simpa using he)] at h ⊢
 cases ht : (A.locate cwd path false).2.there with
 | true => rw [ht] at h; simp at h
 | false => exact ⟨locate_place hI _ _ _ he, ht⟩
theorem layF_cases (h : Inv A) (hb : Bd N A) (path : ByteArray) (t : Tr) (hN : N + t.total < 4611686018427387904) : ((A.layF path t).1 ≠ 0 /\ (A.layF path t).2 = A) \/
 (t.check = 0 /\ (A.freshP ⟨⟨[47]⟩⟩ path).1 = 0 /\ A.layF path t = AT.lay (A.freshP ⟨⟨[47]⟩⟩ path).2.dir (A.freshP ⟨⟨[47]⟩⟩ path).2.name t A /\ (∀ d, A.isDir (A.freshP ⟨⟨[47]⟩⟩ path).2.dir -> A.deep 12 (A.freshP ⟨⟨[47]⟩⟩ path).2.dir = some d -> d + t.levels <= 12) /\
  Laid A (A.freshP ⟨⟨[47]⟩⟩ path).2.dir (A.freshP ⟨⟨[47]⟩⟩ path).2.name t (A.layF path t)) := by
 generalize hr : A.layF path t = r
 unfold AT.layF at hr
 simp only at hr
 by_cases h1 : t.check ≠ 0
 ·rw [if_pos h1] at hr; subst hr; exact .inl ⟨h1, rfl⟩
 rw [if_neg h1] at hr
 by_cases h2 : (A.freshP ⟨⟨[47]⟩⟩ path).1 ≠ 0
 ·rw [if_pos h2] at hr; subst hr; exact .inl ⟨h2, rfl⟩
 rw [if_neg h2] at hr
 have hc : t.check = 0 := by simpa using h1
 have hf : (A.freshP ⟨⟨[47]⟩⟩ path).1 = 0 := by simpa using h2
 obtain ⟨hp, ht⟩ := freshP_place h hf
 have hnn := hp.notThere ht
 obtain ⟨hnm, hfd⟩ := hp.named hnn
 rw [ht] at hfd
 obtain ⟨d, hd13, hd12, _⟩ := h.deep13 hp.1
 rw [hd13] at hr
 simp only [Option.getD_some] at hr
 by_cases h3 : d + t.levels > 12
 ·rw [if_pos h3] at hr; subst hr; exact .inl ⟨(by show (3 : Int) ≠ 0; decide), rfl⟩
 rw [if_neg h3] at hr
 by_cases h4 : A.ui + t.sizeT.1 > A.qi \/ A.ub + t.sizeT.2 > A.qb
 ·rw [if_pos h4] at hr; subst hr; exact .inl ⟨(by show (10 : Int) ≠ 0; decide), rfl⟩
 rw [if_neg h4] at hr
 obtain ⟨c1, c2, c3, c4, c5, c6⟩ := check_z hc
 rw [c4] at h4
 simp only at h4
 have hdeep : ∀ d, A.isDir (A.freshP ⟨⟨[47]⟩⟩ path).2.dir -> A.deep 12 (A.freshP ⟨⟨[47]⟩⟩ path).2.dir = some d -> d + t.levels <= 12 := by
  intro d' _ hd'
  rw [hd12] at hd'; cases hd'; omega
 have L := lay_done t A N _ _ h hb hN hdeep hp.1 hnm hfd c3 (by omega) (by omega)
 rw [hr] at L
 exact .inr ⟨hc, hf, hr.symm, hdeep, L⟩
theorem layF_ok (h : Inv A) (hb : Bd N A) (path : ByteArray) (t : Tr) (hN : N + t.total < 4611686018427387904) : OpOk (N + t.total) A (A.layF path t) := by
 rcases layF_cases h hb path t hN with ⟨h1, h2⟩ | ⟨_, _, h3, h4, h5⟩
 ·refine ⟨by rw [h2]; exact h, by rw [h2]; exact hb.mono (by omega), fun _ => h2, by rw [h2], by rw [h2]⟩
 ·obtain ⟨a, b, c⟩ := lay_ok t A N (A.freshP ⟨⟨[47]⟩⟩ path).2.dir (A.freshP ⟨⟨[47]⟩⟩ path).2.name h hb hN h4
  rw [<- h3] at a b c
  exact ⟨a, b, fun he => absurd h5.ok he, c.qi, c.qb⟩
end Go.Wk

namespace Go.Wk
open Go Go.HL
theorem splitL_app {c : UInt8} {b : List UInt8} : ∀ a : List UInt8, splitL c (a ++ c :: b) = splitL c a ++ splitL c b := by
 intro a
 induction a with
 | nil => simp [splitL]
 | cons x a ih =>
  simp only [List.cons_append, splitL]
  cases (x == c) with
  | true => simp [ih]
  | false =>
   simp only [ih]
   cases hs : splitL c a with
   | nil => exact absurd hs (splitL_ne a)
   | cons h t => simp
theorem app_data (a b : ByteArray) : (a ++ b).data.toList = a.data.toList ++ b.data.toList := by rw [ByteArray.data_append, Array.toList_append]
theorem badByte_mem {s : ByteArray} (h : badByte s = false) : (47 : UInt8) ∉ s.data.toList /\ (0 : UInt8) ∉ s.data.toList := by
 unfold badByte at h
 rw [List.any_eq_false] at h
 exact ⟨fun hm => h 47 hm (by decide), fun hm => h 0 hm (by decide)⟩
theorem okPart_of {n : ByteArray} (h : nameOk n) : okPart n = true := by
 unfold okPart; rw [sEq_false h.1, sEq_false h.2.1]; rfl
def sub (p n : ByteArray) : ByteArray := (p ++ ⟨⟨[47]⟩⟩) ++ n
theorem sub_data (p n : ByteArray) : (sub p n).data.toList = p.data.toList ++ 47 :: n.data.toList := by
 unfold sub; rw [app_data, app_data, List.append_assoc]; rfl
theorem parts_sub {p n : ByteArray} (h : nameOk n) : partsB (sub p n) = partsB p ++ [n] := by
 have h47 := (badByte_mem h.2.2).1
 unfold partsB
 rw [sub_data, splitL_app, splitL_none h47, List.map_append, List.filter_append]
 congr 1
 show List.filter okPart [n] = [n]
 simp [okPart_of h]
theorem nul_sub {p n : ByteArray} (h : nameOk n) (hp : hasNul p = false) : hasNul (sub p n) = false := by
 have h0 := (badByte_mem h.2.2).2
 unfold hasNul at hp ⊢
 rw [sub_data, List.any_append, hp, List.any_cons, Bool.false_or]
 rw [Bool.or_eq_false_iff]
 refine ⟨by decide, ?_⟩
 rw [List.any_eq_false]
 intro x hx hb
 have : x = 0 := by simpa using hb
 subst this; exact h0 hx
theorem head_sub {p n : ByteArray} {c : UInt8} (hp : headIs c p = true) : headIs c (sub p n) = true := by
 unfold headIs at hp ⊢
 rw [sub_data]
 cases hl : p.data.toList with
 | nil => rw [hl] at hp; cases hp
 | cons x r => rw [hl] at hp; exact hp
def Chain (A : AT) : Int -> List ByteArray -> Int -> Prop
 | d, [], i => d = i
 | d, n :: r, i => A.kind d = 2 /\ ∃ j, A.find d n = some j /\ Chain A j r i
theorem Chain.snoc {A : AT} {n : ByteArray} {i j : Int} : ∀ {l : List ByteArray} {d : Int}, Chain A d l i -> A.kind i = 2 -> A.find i n = some j -> Chain A d (l ++ [n]) j := by
 intro l
 induction l with
 | nil => intro d h h1 h2; have h : d = i := h; subst h; exact ⟨h1, j, h2, rfl⟩
 | cons x r ih =>
  intro d h h1 h2
  obtain ⟨a, k, b, c⟩ := h
  exact ⟨a, k, b, ih c h1 h2⟩
def stepOk (n : ByteArray) : Prop := n ≠ ⟨⟨[46, 46]⟩⟩ /\ n.size <= 56
structure PathTo (A : AT) (p : ByteArray) (i : Int) : Prop where
 head : headIs 47 p = true
 nul : hasNul p = false
 chain : Chain A 1 (partsB p) i
 names : ∀ n ∈ partsB p, stepOk n
theorem PathTo.sub {A : AT} {p n : ByteArray} {i j : Int} (h : PathTo A p i) (hk : A.kind i = 2) (hf : A.find i n = some j) (hn : mayName n = true) : PathTo A (Wk.sub p n) j := by
 unfold mayName at hn
 simp only [Bool.and_eq_true, decide_eq_true_eq, Bool.not_eq_true'] at hn
 obtain ⟨h1, h2, h3, h4, h5⟩ := hn
 have hne : n ≠ ⟨⟨[]⟩⟩ := by intro e; rw [e] at h1; exact absurd h1 (by decide)
 have hne2 : n ≠ ⟨⟨[46]⟩⟩ := by intro e; rw [e] at h4; exact absurd h4 (by decide)
 have hne3 : n ≠ ⟨⟨[46, 46]⟩⟩ := by intro e; rw [e] at h5; exact absurd h5 (by decide)
 have hok : nameOk n := ⟨hne, hne2, h3⟩
 refine ⟨head_sub h.head, nul_sub hok h.nul, ?_, ?_⟩
 ·rw [parts_sub hok]; exact h.chain.snoc hk hf
 ·rw [parts_sub hok]
  intro m hm
  rcases List.mem_append.1 hm with hm | hm
  ·exact h.names m hm
  ·simp at hm; subst hm; exact ⟨hne3, h2⟩
end Go.Wk

set_option maxRecDepth 100000
namespace Go.Proofs.YtbjbeajbckcecaaGreatDoor
open Go Go.HL Go.Wk
attribute [local irreducible] ptrW ifW brW andW rdT alW letJ stW muW biW vaW imW callT cvalT app callW invW callVW sizeT oW nilF oneK loopW rfW funW begW roundK exW idxW Gr Put
def RowsTr (τ : H) : List Tr -> List (List Value) -> Prop
 | [], [] => True
 | t :: ts, r :: rows => TrAt τ t r /\ RowsTr τ ts rows
 | _, _ => False
theorem RowsTr.snoc {τ : H} {t : Tr} {r : List Value} (ht : TrAt τ t r) : ∀ {ts : List Tr} {rows : List (List Value)}, RowsTr τ ts rows -> RowsTr τ (ts ++ [t]) (rows ++ [r]) := by
 intro ts
 induction ts with
 | nil => intro rows h; cases rows with
  | nil => exact ⟨ht, trivial⟩
  | cons r rows => exact h.elim
 | cons t ts ih =>
  intro rows h
  cases rows with
  | nil => exact h.elim
  | cons r rows => exact ⟨h.1, ih h.2⟩
theorem RowsTr.len {τ : H} : ∀ {ts : List Tr} {rows : List (List Value)}, RowsTr τ ts rows -> rows.length = ts.length := by
 intro ts
 induction ts with
 | nil => intro rows h; cases rows with
  | nil => rfl
  | cons r rows => exact h.elim
 | cons t ts ih =>
  intro rows h
  cases rows with
  | nil => exact h.elim
  | cons r rows => simp [ih h.2]
end Go.Proofs.YtbjbeajbckcecaaGreatDoor

set_option maxRecDepth 100000
namespace Go.Proofs.YtbjbeajbckcecaaGreatDoor
open Go Go.HL Go.Wk Go.ChangeShapes Go.WideShapes Go.ChangeAt Go.RowKit
theorem own : ownKnob Tryz.prog.godebug = none := by kernel_rfl
theorem laidOut : laidOutB Tryz.prog = true := by kernel_rfl
def accCells : Array Value := #[.int .u8 128, .int .u8 191, .int .u8 160, .int .u8 191, .int .u8 128, .int .u8 159, .int .u8 144, .int .u8 191, .int .u8 128, .int .u8 143, .int .u8 0, .int .u8 0, .int .u8 0, .int .u8 0, .int .u8 0, .int .u8 0, .int .u8 0, .int .u8 0, .int .u8 0, .int .u8 0, .int .u8 0, .int .u8 0, .int .u8 0, .int .u8 0, .int .u8 0, .int .u8 0, .int .u8 0, .int .u8 0, .int .u8 0, .int .u8 0, .int .u8 0, .int .u8 0]
def firstCells : Array Value := ⟨Go.Pinned.utf8FirstZ.map fun (n : Nat) => .int .u8 (n : Int)⟩
def setC (cs : Array Value) : Obj -> Obj
 | .cells _ t frozen => .cells cs t frozen
 | o => o
noncomputable def laidWorld (os : Os) : World :=
 { World.holding Tryz.prog os ⟨#[], #[], []⟩ with heap := ((World.holding Tryz.prog os ⟨#[], #[], []⟩).heap.modify 1 (setC firstCells)).modify 2 (setC accCells) }
end Go.Proofs.YtbjbeajbckcecaaGreatDoor

set_option maxRecDepth 100000
namespace Go.Proofs.YtbjbeajbckcecaaGreatDoor
open Go Go.HL Go.Wk
attribute [local irreducible] ptrW ifW brW andW rdT alW letJ stW muW biW vaW imW callT cvalT app callW invW callVW sizeT oW nilF oneK loopW rfW funW begW roundK exW idxW Gr Put
def bl (l : List UInt8) : ByteArray := ⟨⟨l⟩⟩
def w0 : AT := newT 60 2000
def w1 : AT := (w0.mkdirF (bl [47]) (bl [97])).2
def w2 : AT := (w1.writeF (bl [47, 97]) (bl [102]) (bl [104, 105]) false).2
def w3 : AT := (w2.symlinkF (bl [47]) (bl [97, 47, 102]) (bl [108])).2
def w4 : AT := (w3.symlinkF (bl [47]) (bl [109]) (bl [109])).2
def w5 : AT := (w4.writeF (bl [47]) (bl [108]) (bl [33]) true).2
theorem w0_ok : Inv w0 /\ Bd 1 w0 := newT_ok rfl
theorem w1_ok : OpOk 2 w0 (w0.mkdirF (bl [47]) (bl [97])) := mkdirF_ok w0_ok.1 w0_ok.2 (by decide) _ _
theorem w2_ok : OpOk 3 w1 (w1.writeF (bl [47, 97]) (bl [102]) (bl [104, 105]) false) := writeF_ok w1_ok.inv w1_ok.bd (by decide) _ _ _ _ (by decide)
theorem w3_ok : OpOk 4 w2 (w2.symlinkF (bl [47]) (bl [97, 47, 102]) (bl [108])) := symlinkF_ok w2_ok.inv w2_ok.bd (by decide) _ _ _
theorem w4_ok : OpOk 5 w3 (w3.symlinkF (bl [47]) (bl [109]) (bl [109])) := symlinkF_ok w3_ok.inv w3_ok.bd (by decide) _ _ _
theorem w5_ok : OpOk 6 w4 (w4.writeF (bl [47]) (bl [108]) (bl [33]) true) := writeF_ok w4_ok.inv w4_ok.bd (by decide) _ _ _ _ (by decide)
theorem i1 : Inv w1 := w1_ok.inv
theorem d1 : Bd 2 w1 := w1_ok.bd
theorem i2 : Inv w2 := w2_ok.inv
theorem d2 : Bd 3 w2 := w2_ok.bd
theorem i3 : Inv w3 := w3_ok.inv
theorem d3 : Bd 4 w3 := w3_ok.bd
theorem i4 : Inv w4 := w4_ok.inv
theorem d4 : Bd 5 w4 := w4_ok.bd
theorem i5 : Inv w5 := w5_ok.inv
theorem d5 : Bd 6 w5 := w5_ok.bd
theorem v1 : (w0.mkdirF (bl [47]) (bl [97])).1 = 0 := by decide +kernel
theorem v2 : (w1.writeF (bl [47, 97]) (bl [102]) (bl [104, 105]) false).1 = 0 := by decide +kernel
theorem v3 : (w2.symlinkF (bl [47]) (bl [97, 47, 102]) (bl [108])).1 = 0 := by decide +kernel
theorem v4 : (w3.symlinkF (bl [47]) (bl [109]) (bl [109])).1 = 0 := by decide +kernel
theorem v5 : (w4.writeF (bl [47]) (bl [108]) (bl [33]) true).1 = 0 := by decide +kernel
theorem r1 : w4.read (bl [47]) (bl [108]) = (0, bl [104, 105]) := by decide +kernel
theorem r2 : w4.read (bl [47, 97]) (bl [46, 46, 47, 46, 46, 47, 97, 47, 46, 47, 102]) = (0, bl [104, 105]) := by decide +kernel
theorem r3 : w4.read (bl [47]) (bl [109]) = (9, bl []) := by decide +kernel
theorem r4 : w4.read (bl [47]) (bl [97]) = (7, bl []) := by decide +kernel
theorem r5 : w5.read (bl [47, 97]) (bl [102]) = (0, bl [104, 105, 33]) := by decide +kernel
theorem x1 : (w5.stat (bl [47]) (bl [108]) false).1 = 0 /\ (w5.stat (bl [47]) (bl [108]) false).2.kind = 3 := by decide +kernel
theorem x2 : w5.realF (bl [47, 97]) (bl [46, 46, 47, 108]) = (0, bl [47, 97, 47, 102]) := by decide +kernel
theorem x3 : w5.realF (bl [47]) (bl [46, 46]) = (0, bl [47]) := by decide +kernel
theorem x4 : (w5.mkdirF (bl [47]) (bl [97, 47, 102, 47, 120])).1 = 8 := by decide +kernel
theorem x5 : (w5.removeF (bl [47]) (bl [97])).1 = 20 := by decide +kernel
theorem s_quota8 {σ : H} {K : KH} (hK : K (.agg ⟨[.int .i64 60, .int .i64 2000]⟩) σ) : callW Tryz.prog 108 [] K σ := by
 refine pure_i _ hK (c108 ?_)
 unfold g108
 refine al_i ?_; intro b1 σ1 g1 e1 n1
 refine st_i2 e1 sz_Quota (by rfl) (by rfl) ?_; intro σ2 p2
 refine rd_G (rdA_of' p2.same (by rfl)) ?_
 (refine app_of rfl ?_; try dsimp only)
 exact ⟨rfl, g1.putF p2 n1⟩
theorem s_small8 {σ : H} {K : KH} (hK : ∀ bf σ' B', FsAt σ' bf w4 B' -> Off σ σ' B' -> K (.pointer (some ⟨bf, 0, none⟩)) σ') : callW Tryz.prog 53 [] K σ := by
 refine c53 ?_
 unfold g53
 refine call_i (s_quota8 ?_)
 (refine app_of rfl ?_; try dsimp only)
 refine call_i (s_New 60 2000 (fun h => by cases h) ?_)
 intro _ bf σ1 B1 F1 g1 hf1
 have O1 := Off.new g1 hf1
 refine app_P ?_
 refine j_d ?_
 refine br_f rfl ?_
 refine call_i (s_Mkdir w0_ok.1 w0_ok.2 (by decide) F1 _ _ ?_)
 intro σ2 B2 F2 S2
 have O2 := O1.sep S2
 refine app_I ?_
 have e := v1
 unfold bl at e
 show brW ((w0.mkdirF ⟨⟨[47]⟩⟩ ⟨⟨[97]⟩⟩).1 != 0) _ _ _
 rw [e]
 refine br_f rfl ?_
 refine call_i (s_Write (A := w1) i1 d1 (by decide) F2 _ _ _ _ (by decide) ?_)
 intro σ3 B3 F3 S3
 have O3 := O2.sep S3
 refine app_I ?_
 have e := v2
 unfold bl at e
 rw [e]
 refine br_f rfl ?_
 refine call_i (s_Symlink (A := w2) i2 d2 (by decide) F3 _ _ _ ?_)
 intro σ4 B4 F4 S4
 have O4 := O3.sep S4
 refine app_I ?_
 have e := v3
 unfold bl at e
 rw [e]
 refine br_f rfl ?_
 refine call_i (s_Symlink (A := w3) i3 d3 (by decide) F4 _ _ _ ?_)
 intro σ5 B5 F5 S5
 have O5 := O4.sep S5
 refine app_I ?_
 have e := v4
 unfold bl at e
 rw [e]
 exact br_f rfl (hK bf σ5 B5 F5 O5)
theorem s_reads8 {A : AT} {σ : H} {bf : Nat} {B : Nat -> Prop} (hF : FsAt σ bf A B) (cwd path want : ByteArray) (e : Int) {K : KH} (hK : K (.bool (strEq (A.read cwd path).2 want && ((A.read cwd path).1 == e))) σ) :
 callW Tryz.prog 54 [.pointer (some ⟨bf, 0, none⟩), .string cwd, .string path, .string want, .int .i64 e] K σ := by
 refine c54 _ _ _ _ _ ?_
 unfold g54
 refine call_i (s_Read hF cwd path ?_)
 (refine app_of rfl ?_; try dsimp only)
 cases h : strEq (A.read cwd path).2 want with
 | true => rw [h] at hK; exact br_t rfl hK
 | false => rw [h] at hK; exact br_f rfl hK
theorem strEq_self (s : ByteArray) : strEq s s = true := strEq_iff.2 rfl
theorem s_works8 {σ : H} {K : KH} (hK : K (.bool true) σ) : callW Tryz.prog 62 [] K σ := by
 refine pure_i _ hK (c62 ?_)
 clear hK
 unfold g62
 refine call_i (s_small8 ?_)
 intro bf σ1 B1 F1 O1
 refine app_P ?_
 refine j_i (fun j => ∀ σ2 B2, FsAt σ2 bf w5 B2 -> Off σ σ2 B2 -> j (some ⟨bf, 0, none⟩) false σ2) ?_ ?_
 ·intro σ2 B2 F2 O2
  refine br_f rfl ?_
  refine call_i (s_Stat F2 _ _ _ ?_)
  have e := x1
  unfold bl at e
  obtain ⟨ea, eb⟩ := e
  rw [ea]
  unfold inV
  (refine app_of rfl ?_; try dsimp only)
  refine al_i ?_; intro b10 σ3 g3 e3 n3
  refine st_i2 e3 sz_Inode (by rfl) (by rfl) ?_; intro σ4 p4
  have hg4 : Gr σ2 σ4 := g3.putF p4 n3
  have F4 := F2.gr hg4
  have O4 := O2.gr hg4
  have k10 := p4.same
  refine call_i (s_Real i5 d5 (by decide) F4 _ _ ?_)
  have e := x2
  unfold bl at e
  rw [e]
  (refine app_of rfl ?_; try dsimp only)
  refine call_i (s_Real i5 d5 (by decide) F4 _ _ ?_)
  have e := x3
  unfold bl at e
  rw [e]
  (refine app_of rfl ?_; try dsimp only)
  refine br_t rfl (rd_I (rdC_of k10 (by rfl)) ?_)
  rw [eb]
  refine br_t rfl (br_t rfl (br_t (strEq_self _) (br_t rfl (br_t (strEq_self _) ?_))))
  refine call_i (s_Mkdir i5 d5 (by decide) F4 _ _ ?_)
  intro σ5 B5 F5 S5
  refine app_I ?_
  have hsame := (mkdirF_ok i5 d5 (by decide) (bl [47]) (bl [97, 47, 102, 47, 120])).same (by rw [x4]; decide)
  have e := x4
  unfold bl at e hsame
  rw [e]
  have F5' : FsAt σ5 bf w5 B5 := by have := F5; rw [show (w5.mkdirF ⟨⟨[47]⟩⟩ ⟨⟨[97, 47, 102, 47, 120]⟩⟩).2 = w5 from hsame] at this; exact this
  refine br_t rfl ?_
  refine call_i (s_Remove i5 d5 (by decide) F5' _ _ ?_)
  intro σ6 B6 F6 S6
  refine app_I ?_
  have e := x5
  unfold bl at e
  show (fun u σ' => u = Value.bool true /\ Gr σ σ') (.bool ((w5.removeF ⟨⟨[47]⟩⟩ ⟨⟨[97]⟩⟩).1 == 20)) σ6
  rw [e]
  exact ⟨rfl, ((O4.sep S5).sep S6).1⟩
 ·intro j hj
  refine br_f rfl ?_
  refine call_i (s_reads8 F1 _ _ _ _ (app_B ?_))
  have e := r1
  unfold bl at e
  rw [e]
  refine br_f (by rw [strEq_self]; rfl) ?_
  refine call_i (s_reads8 F1 _ _ _ _ (app_B ?_))
  have e := r2
  unfold bl at e
  rw [e]
  refine br_f (by rw [strEq_self]; rfl) ?_
  refine call_i (s_reads8 F1 _ _ _ _ (app_B ?_))
  have e := r3
  unfold bl at e
  rw [e]
  refine br_f (by rw [strEq_self]; rfl) ?_
  refine call_i (s_reads8 F1 _ _ _ _ (app_B ?_))
  have e := r4
  unfold bl at e
  rw [e]
  refine br_f (by rw [strEq_self]; rfl) ?_
  refine call_i (s_Write i4 d4 (by decide) F1 _ _ _ _ (by decide) ?_)
  intro σ2 B2 F2 S2
  refine app_I ?_
  have e := v5
  unfold bl at e
  show brW ((w4.writeF ⟨⟨[47]⟩⟩ ⟨⟨[108]⟩⟩ ⟨⟨[33]⟩⟩ true).1 != 0) _ _ _
  rw [e]
  refine br_f rfl ?_
  refine call_i (s_reads8 (A := w5) F2 _ _ _ _ (app_B ?_))
  have e := r5
  unfold bl at e
  rw [e, strEq_self]
  exact hj σ2 B2 F2 (O1.sep S2)
end Go.Proofs.YtbjbeajbckcecaaGreatDoor

namespace Go.Wk
open Go Go.HL
def Tr.z : Tr := .mk ⟨⟨[]⟩⟩ 0 false ⟨⟨[]⟩⟩ []
def Tr.named (s : ByteArray) : Tr -> Tr
 | .mk _ k e d kids => .mk s k e d kids
def trimL : List UInt8 -> List UInt8
 | [] => []
 | x :: r => match r with
  | [] => (match x == 47 with | true => [] | false => [x])
  | _ :: _ => x :: trimL r
def trimS (p : ByteArray) : ByteArray := ⟨⟨trimL p.data.toList⟩⟩
def kidP (p n : ByteArray) : ByteArray := sub (trimS p) n
def takeRow (g : ByteArray -> Int × Tr) (path : ByteArray) : List ByteArray -> Int × List Tr
 | [] => (0, [])
 | n :: r => let x := g (kidP path n)
  if x.1 ≠ 0 then (x.1, []) else
   let y := takeRow g path r
   (y.1, x.2.named n :: y.2)
def xOf (k m : Int) : Bool := k == 1 && (bitV .and .i64 m 73 : Int) != 0
def AT.take (A : AT) : Nat -> ByteArray -> Int × Tr
 | 0, _ => (3, Tr.z)
 | f + 1, path =>
  let x := A.stat ⟨⟨[47]⟩⟩ path false
  if x.1 ≠ 0 then (x.1, Tr.z)
  else if x.2.kind = 2 then
   let l := A.listF ⟨⟨[47]⟩⟩ path
   if l.1 ≠ 0 then (l.1, Tr.z)
   else
    let r := takeRow (AT.take A f) path l.2
    (r.1, .mk ⟨⟨[]⟩⟩ 2 false x.2.data r.2)
  else (0, .mk ⟨⟨[]⟩⟩ x.2.kind (xOf x.2.kind x.2.mode) x.2.data [])
mutual
def Tr.same : Tr -> Tr -> Bool
 | .mk n k e d kids, u => !(Tr.mk n k e d kids).tooDeep && (!u.tooDeep && (sEq n u.name && ((k == u.kind) && ((e == u.exec) && (sEq d u.data && (Nat.beq kids.length u.kids.length && Tr.sameRow kids u.kids))))))
def Tr.sameRow : List Tr -> List Tr -> Bool
 | [], _ => true
 | t :: r, l => match l with
  | [] => false
  | u :: s => Tr.same t u && Tr.sameRow r s
end
theorem size_list (s : ByteArray) : s.size = s.data.toList.length := by cases s with | mk d => simp [ByteArray.size]
theorem bytes_ext {a b : ByteArray} (h : a.data.toList = b.data.toList) : a = b := by
 obtain ⟨⟨a⟩⟩ := a; obtain ⟨⟨b⟩⟩ := b
 have h : a = b := h
 rw [h]
end Go.Wk

set_option maxRecDepth 100000
namespace Go.Proofs.YtbjbeajbckcecaaGreatDoor
open Go Go.HL Go.Wk
attribute [local irreducible] ptrW ifW brW andW rdT alW letJ stW muW biW vaW imW callT cvalT app callW invW callVW sizeT oW nilF oneK loopW rfW funW begW roundK exW idxW Gr Put
attribute [local irreducible] bothW
end Go.Proofs.YtbjbeajbckcecaaGreatDoor

namespace Go.Wk
open Go Go.HL
variable {A : AT}
theorem linkE_z {dir : Int} {name : ByteArray} {ino : Int} (he : A.linkE dir name ino = 0) : A.isDir dir /\ namedE name = 0 /\ (∃ n, A.get ino = some n /\ n.kind = 1) /\ A.find dir name = none := by
 unfold AT.linkE at he
 obtain ⟨_, he⟩ := AT.firstE_z he
 obtain ⟨h1, he⟩ := AT.firstE_z he
 obtain ⟨h2, he⟩ := AT.firstE_z he
 obtain ⟨h3, he⟩ := AT.firstE_z he
 obtain ⟨h4, _⟩ := AT.firstE_z he
 refine ⟨AT.dirE_z h1, h2, AT.fileE_z h3, ?_⟩
 cases hf : A.find dir name with
 | none => rfl
 | some j => rw [hf] at h4; simp at h4
theorem linkR_ok {N : Nat} (h : Inv A) (hb : Bd N A) (hN : N < 4611686018427387904) (dir : Int) (name : ByteArray) (ino : Int) : Inv (A.linkR dir name ino).2 /\ Bd (N + 1) (A.linkR dir name ino).2 /\ ((A.linkR dir name ino).1 ≠ 0 -> (A.linkR dir name ino).2 = A) /\ (A.linkR dir name ino).2.qi = A.qi /\ (A.linkR dir name ino).2.qb = A.qb := by
 unfold AT.linkR
 by_cases he : A.linkE dir name ino = 0
 case neg => rw [if_neg he]; exact ⟨h, hb.mono (by omega), fun _ => rfl, rfl, rfl⟩
 rw [if_pos he]
 obtain ⟨⟨nd, hd, hd2⟩, hnm, ⟨nn, hnn, hk1⟩, hfn⟩ := linkE_z he
 have hne : ino ≠ dir := by intro e; subst e; rw [hd] at hnn; cases hnn; omega
 have hfn' : lk name nd.ents = none := by unfold AT.find at hfn; rw [hd] at hfn; exact hfn
 have hlb : nn.links <= N := hb.links ino nn hnn
 have hi1 : ino ≠ 1 := by
  intro e; subst e
  obtain ⟨r, r1, r2, _⟩ := h.root
  rw [hnn] at r1; cases r1; omega
 have hl0 := h.links ino nn hnn hi1
 have wl : wr (nn.links + 1) = nn.links + 1 := wr_id (by omega) (by omega)
 have e1 : A.ent dir (up name ino) = A.set dir { nd with ents := up name ino nd.ents } := by unfold AT.ent; rw [hd]
 have g1 : (A.set dir { nd with ents := up name ino nd.ents }).get ino = some nn := by rw [AT.get_set_ne _ _ hne]; exact hnn
 have e2 : A.linked dir name ino = (A.set dir { nd with ents := up name ino nd.ents }).set ino { nn with links := nn.links + 1 } := by
  unfold AT.linked AT.mod; rw [e1, g1]; simp only; rw [wl]
 have hG : ∀ j, (A.linked dir name ino).get j = if j = ino then some { nn with links := nn.links + 1 } else if j = dir then some { nd with ents := up name ino nd.ents } else A.get j := by
  intro j; rw [e2, AT.get_set, AT.get_set]
 have hsum : ∀ f : AN -> Nat, sumF f (A.linked dir name ino).nodes + f nd + f nn = sumF f A.nodes + f { nd with ents := up name ino nd.ents } + f { nn with links := nn.links + 1 } := by
  intro f
  have q1 := AT.sum_set (A.set dir { nd with ents := up name ino nd.ents }) f ino { nn with links := nn.links + 1 }
  have q2 := AT.sum_set A f dir { nd with ents := up name ino nd.ents }
  rw [g1] at q1; rw [hd] at q2
  simp only [Option.map_some, Option.getD_some] at q1 q2
  rw [e2]; omega
 have hcE : ∀ j, cntE j { nd with ents := up name ino nd.ents } = cntE j nd + one j ino := by
  intro j
  have := sumF_up (one j) name ino nd.ents
  rw [hfn'] at this
  simpa [cntE] using this
 have hrefs : ∀ j, (A.linked dir name ino).refs j = A.refs j + one j ino := by
  intro j
  have := hsum (cntE j)
  rw [hcE j] at this
  have e : cntE j { nn with links := nn.links + 1 } = cntE j nn := rfl
  unfold AT.refs; omega
 have hcase : ∀ j m, (A.linked dir name ino).get j = some m -> (j = ino /\ m = { nn with links := nn.links + 1 }) \/ (j = dir /\ m = { nd with ents := up name ino nd.ents }) \/ (j ≠ ino /\ j ≠ dir /\ A.get j = some m) := by
  intro j m hm
  rw [hG] at hm
  by_cases e : j = ino
  ·rw [if_pos e] at hm; cases hm; exact .inl ⟨e, rfl⟩
  ·rw [if_neg e] at hm
   by_cases e' : j = dir
   ·rw [if_pos e'] at hm; cases hm; exact .inr (.inl ⟨e', rfl⟩)
   ·rw [if_neg e'] at hm; exact .inr (.inr ⟨e, e', hm⟩)
 have hx : ∀ j m, A.get j = some m -> ∃ m', (A.linked dir name ino).get j = some m' /\ m'.kind = m.kind /\ m'.up = m.up := by
  intro j m hm
  rw [hG]
  by_cases e : j = ino
  ·subst e; rw [if_pos rfl]; rw [hnn] at hm; cases hm; exact ⟨_, rfl, rfl, rfl⟩
  ·rw [if_neg e]
   by_cases e' : j = dir
   ·subst e'; rw [if_pos rfl]; rw [hd] at hm; cases hm; exact ⟨_, rfl, rfl, rfl⟩
   ·rw [if_neg e']; exact ⟨m, hm, rfl, rfl⟩
 have hupO : ∀ k, A.isDir k -> (A.linked dir name ino).upOf k = A.upOf k := by
  rintro k ⟨m, hm, _⟩
  obtain ⟨m', q1, _, q3⟩ := hx k m hm
  unfold AT.upOf; rw [hm, q1]; simp [q3]
 have hu : (A.linked dir name ino).ui = A.ui /\ (A.linked dir name ino).ub = A.ub /\ (A.linked dir name ino).qi = A.qi /\ (A.linked dir name ino).qb = A.qb /\ (A.linked dir name ino).last = A.last := by rw [e2]; exact ⟨rfl, rfl, rfl, rfl, rfl⟩
 have hone : one ino ino = 1 := by unfold one; simp
 show Inv (A.linked dir name ino) /\ Bd (N + 1) (A.linked dir name ino) /\ ((0 : Int) ≠ 0 -> _) /\ _ /\ _
 refine ⟨⟨?_, ?_, ?_, ?_, ?_, ?_, ?_, ?_, ?_, ?_, ?_, ?_, ?_⟩, ⟨?_, ?_, ?_⟩, fun h => absurd rfl h, hu.2.2.1, hu.2.2.2.1⟩
 ·rw [e2]; exact nodup_up (nodup_up h.nodup)
 ·intro j m hm
  rcases hcase j m hm with ⟨_, rfl⟩ | ⟨_, rfl⟩ | ⟨_, _, hm⟩
  ·exact h.enod ino nn hnn
  ·exact nodup_up (h.enod dir nd hd)
  ·exact h.enod j m hm
 ·obtain ⟨r, r1, r2, r3⟩ := h.root
  obtain ⟨m', q1, q2, q3⟩ := hx 1 r r1
  exact ⟨m', q1, by rw [q2, r2], by rw [q3, r3]⟩
 ·intro j m hm
  rw [hu.2.2.2.2]
  rcases hcase j m hm with ⟨rfl, _⟩ | ⟨rfl, _⟩ | ⟨_, _, hm⟩
  ·exact h.low _ nn hnn
  ·exact h.low _ nd hd
  ·exact h.low j m hm
 ·intro j m hm
  rcases hcase j m hm with ⟨_, rfl⟩ | ⟨_, rfl⟩ | ⟨_, _, hm⟩
  ·exact h.like ino nn hnn
  ·exact h.like dir nd hd
  ·exact h.like j m hm
 ·intro j m hm hk
  rcases hcase j m hm with ⟨_, rfl⟩ | ⟨_, rfl⟩ | ⟨_, _, hm⟩
  ·exact h.file ino nn hnn hk
  ·exact absurd hd2 hk
  ·exact h.file j m hm hk
 ·intro j m s t hm hs
  have fin : ∀ t m1, A.get t = some m1 -> (m1.kind = 2 -> m1.up = j) -> ∃ m', (A.linked dir name ino).get t = some m' /\ (m'.kind = 2 -> m'.up = j) := by
   intro t m1 a3 a4
   obtain ⟨m', b1, b2, b3⟩ := hx t m1 a3
   exact ⟨m', b1, fun hk => by rw [b3]; exact a4 (by rw [<- b2]; exact hk)⟩
  rcases hcase j m hm with ⟨rfl, rfl⟩ | ⟨rfl, rfl⟩ | ⟨_, _, hm⟩
  ·obtain ⟨a1, a2, m1, a3, a4⟩ := h.ent j nn s t hnn hs
   exact ⟨a1, a2, fin t m1 a3 a4⟩
  ·simp only [lk_up] at hs
   by_cases e : s = name
   ·subst e
    simp at hs; subst hs
    exact ⟨hnm, hi1, fin ino nn hnn (fun hk => by omega)⟩
   ·have e' : (s == name) = false := by simpa using e
    rw [e'] at hs
    obtain ⟨a1, a2, m1, a3, a4⟩ := h.ent j nd s t hd hs
    exact ⟨a1, a2, fin t m1 a3 a4⟩
  ·obtain ⟨a1, a2, m1, a3, a4⟩ := h.ent j m s t hm hs
   exact ⟨a1, a2, fin t m1 a3 a4⟩
 ·intro j m hm hj
  rw [hrefs]
  rcases hcase j m hm with ⟨rfl, rfl⟩ | ⟨rfl, rfl⟩ | ⟨hji, _, hm⟩
  ·rw [hone]
   refine ⟨by show nn.links + 1 = _; omega, by omega, fun hk => ?_⟩
   have hk : nn.kind = 2 := hk
   omega
  ·have : one j ino = 0 := by unfold one; rw [if_neg hne]
   rw [this]; exact h.links j nd hd hj
  ·have : one j ino = 0 := by unfold one; rw [if_neg (fun e => hji e.symm)]
   rw [this]; exact h.links j m hm hj
 ·rintro k ⟨m, hm, hk⟩
  have hkd : A.isDir k := by
   rcases hcase k m hm with ⟨rfl, rfl⟩ | ⟨rfl, rfl⟩ | ⟨_, _, hm⟩
   ·have hk : nn.kind = 2 := hk
    omega
   ·exact ⟨nd, hd, hk⟩
   ·exact ⟨m, hm, hk⟩
  rw [deep_same h hupO 12 k hkd]; exact h.deep k hkd
 ·have := hsum (fun _ => 1)
  rw [sumF_len, sumF_len] at this
  rw [hu.1, h.ui]; omega
 ·have := hsum (fun n => n.data.size)
  rw [hu.2.1, h.ub]; unfold AT.bytes; simp only at this; omega
 ·rw [hu.1, hu.2.2.1]; exact h.uq
 ·rw [hu.2.1, hu.2.2.2.1]; exact h.bq
 ·rw [hu.2.2.2.2]; have := hb.last; omega
 ·intro j m hm
  rcases hcase j m hm with ⟨_, rfl⟩ | ⟨rfl, rfl⟩ | ⟨_, _, hm⟩
  ·show nn.links + 1 <= _; omega
  ·have := hb.links _ nd hd; simp only; omega
  ·have := hb.links j m hm; omega
 ·intro j m hm
  rcases hcase j m hm with ⟨_, rfl⟩ | ⟨rfl, rfl⟩ | ⟨_, _, hm⟩
  ·have := hb.ents _ nn hnn; simp only; omega
  ·have := hb.ents _ nd hd
   simp only
   rw [enc_up_new nd.ents name _ hfn']; simp; omega
  ·have := hb.ents j m hm; omega
theorem hardF_ok {N : Nat} (h : Inv A) (hb : Bd N A) (hN : N < 4611686018427387904) (cwd src tq : ByteArray) : OpOk (N + 1) A (A.hardF cwd src tq) := by
 unfold AT.hardF
 simp only
 split
 ·exact OpOk.self h (hb.mono (by omega)) _
 split
 ·exact OpOk.self h (hb.mono (by omega)) _
 split
 ·exact OpOk.self h (hb.mono (by omega)) _
 split
 ·exact OpOk.self h (hb.mono (by omega)) _
 split
 ·exact OpOk.self h (hb.mono (by omega)) _
 obtain ⟨a, b, c, d, e⟩ := linkR_ok h hb hN (A.both cwd src tq).2.2.dir (A.both cwd src tq).2.2.name (A.both cwd src tq).2.1.ino
 exact ⟨a, b, c, d, e⟩
def Below (A : AT) (ino : Int) : Nat -> Int -> Prop
 | 0, k => k = ino
 | r + 1, k => k ≠ ino /\ k ≠ 1 /\ Below A ino r (A.upOf k)
theorem no_loop (h : Inv A) {k : Int} (hk : A.isDir k) (h1 : k ≠ 1) : A.upOf k ≠ k := by
 intro e
 obtain ⟨d, hd⟩ := h.deep k hk
 have : ∀ f, A.deep f k = none := by
  intro f
  induction f with
  | zero => rfl
  | succ f ih => unfold AT.deep; rw [if_neg h1, e, ih]; rfl
 rw [this] at hd; cases hd
theorem within_some (ino : Int) : ∀ {f : Nat} {d x : Int}, A.deep f d = some x -> ∃ b, A.within ino f d = some b := by
 intro f
 induction f with
 | zero => intro d x h; cases h
 | succ f ih =>
  intro d x h
  unfold AT.deep at h
  unfold AT.within
  by_cases e : d = ino
  ·rw [if_pos e]; exact ⟨_, rfl⟩
  ·rw [if_neg e]
   by_cases e1 : d = 1
   ·rw [if_pos e1]; exact ⟨_, rfl⟩
   ·rw [if_neg e1] at h ⊢
    cases hd : A.deep f (A.upOf d) with
    | none => rw [hd] at h; cases h
    | some y => exact ih hd
theorem apart_some (h : Inv A) (ino : Int) : ∀ {f : Nat} {d x : Int}, A.isDir d -> A.deep f d = some x -> ∃ b, A.apart ino f d = some b := by
 intro f
 induction f with
 | zero => intro d x _ h; cases h
 | succ f ih =>
  intro d x hdir hd
  unfold AT.deep at hd
  unfold AT.apart
  by_cases e1 : d = 1
  ·rw [if_pos e1]; exact ⟨_, rfl⟩
  ·rw [if_neg e1] at hd ⊢
   by_cases e : d = ino
   ·rw [if_pos e]; exact ⟨_, rfl⟩
   ·rw [if_neg e]
    have hu := h.isDir_up hdir
    obtain ⟨n, hn, _⟩ := hdir
    have hup : A.upOf d = n.up := by unfold AT.upOf; rw [hn]; rfl
    rw [hup] at hd hu
    rw [hn]
    cases hd2 : A.deep f n.up with
    | none => rw [hd2] at hd; cases hd
    | some y => exact ih hu hd2
theorem apart_not (h : Inv A) {ino : Int} (hi : ino ≠ 1) : ∀ {f : Nat} {d : Int}, A.isDir d -> A.apart ino f d = some true -> ∀ r, ¬ Below A ino r d := by
 intro f
 induction f with
 | zero => intro d _ h; cases h
 | succ f ih =>
  intro d hdir hd r hr
  unfold AT.apart at hd
  by_cases e1 : d = 1
  ·cases r with
   | zero => have hr : d = ino := hr; exact hi (by omega)
   | succ r => exact hr.2.1 e1
  ·rw [if_neg e1] at hd
   by_cases e : d = ino
   ·rw [if_pos e] at hd; cases hd
   ·rw [if_neg e] at hd
    cases r with
    | zero => exact e hr
    | succ r =>
     have hu := h.isDir_up hdir
     obtain ⟨n, hn, _⟩ := hdir
     have hup : A.upOf d = n.up := by unfold AT.upOf; rw [hn]; rfl
     rw [hn] at hd
     have hd : A.apart ino f n.up = some true := hd
     rw [hup] at hu
     have := hr.2.2
     rw [hup] at this
     exact ih hu hd r this
theorem below_top (h : Inv A) {ino : Int} : ∀ {r : Nat} {k : Int}, A.isDir k -> Below A ino (r + 1) k -> ∃ c, A.isDir c /\ c ≠ 1 /\ c ≠ ino /\ A.upOf c = ino /\ Below A c r k := by
 intro r
 induction r with
 | zero => intro k hk hb; obtain ⟨h1, h2, h3⟩ := hb; exact ⟨k, hk, h2, h1, h3, rfl⟩
 | succ r ih =>
  intro k hk hb
  obtain ⟨h1, h2, h3⟩ := hb
  obtain ⟨c, c1, c2, c3, c4, c5⟩ := ih (h.isDir_up hk) h3
  refine ⟨c, c1, c2, c3, c4, ?_, h2, c5⟩
  intro e; subst e
  exact h3.1 c4
theorem names_of {d : Int} {s : ByteArray} {j : Int} (hf : A.find d s = some j) : s ∈ A.names d := by
 unfold AT.find at hf
 unfold AT.names
 cases hn : A.get d with
 | none => rw [hn] at hf; cases hf
 | some n =>
  rw [hn] at hf
  have hf : lk s n.ents = some j := hf
  have hm : s ∈ keysL n.ents := by
   apply Classical.byContradiction
   intro hc
   rw [lk_none_iff.2 hc] at hf; cases hf
  simp only [sortN, List.mem_map]
  refine ⟨s.data.toList, (sortB_perm _).mem_iff.2 (List.mem_map.2 ⟨s, hm, rfl⟩), ?_⟩
  cases s with | mk d => cases d; rfl
theorem fold_mx (f : ByteArray -> Int) : ∀ (l : List ByteArray) (n : Int), n <= l.foldl (fun n s => let x := f s; if x > n then x else n) n /\ ∀ s ∈ l, f s <= l.foldl (fun n s => let x := f s; if x > n then x else n) n := by
 intro l
 induction l with
 | nil => intro n; exact ⟨Int.le_refl _, by simp⟩
 | cons y r ih =>
  intro n
  simp only [List.foldl_cons]
  obtain ⟨h1, h2⟩ := ih (if f y > n then f y else n)
  have hg : n <= (if f y > n then f y else n) /\ f y <= (if f y > n then f y else n) := by split <;> omega
  simp only at h1 h2 ⊢
  refine ⟨by omega, fun x hx => ?_⟩
  rcases List.mem_cons.1 hx with e | e
  ·subst e; omega
  ·exact h2 x e
theorem levels_below (h : Inv A) : ∀ (r : Nat) (f : Nat) (ino k : Int), A.isDir k -> A.isDir ino -> Below A ino r k -> r + 1 <= f -> (r : Int) + 1 <= A.levels f ino := by
 intro r
 induction r with
 | zero =>
  intro f ino k _ hi _ hf
  obtain ⟨f, rfl⟩ : ∃ g, f = g + 1 := ⟨f - 1, by omega⟩
  unfold AT.levels
  have hk : A.kind ino = 2 := dir_kind hi
  rw [if_neg (by omega)]
  have := (fold_mx (fun s => A.levels f ((A.find ino s).getD 0)) (A.names ino) 0).1
  simp only at this ⊢; omega
 | succ r ih =>
  intro f ino k hk hi hb hf
  obtain ⟨f, rfl⟩ : ∃ g, f = g + 1 := ⟨f - 1, by omega⟩
  obtain ⟨c, c1, c2, c3, c4, c5⟩ := below_top h hk hb
  obtain ⟨s, hs⟩ := h.named c1 c2
  rw [c4] at hs
  unfold AT.levels
  have hk2 : A.kind ino = 2 := dir_kind hi
  rw [if_neg (by omega)]
  have h1 := (fold_mx (fun s => A.levels f ((A.find ino s).getD 0)) (A.names ino) 0).2 s (names_of hs)
  have h2 := ih f c k hk c1 c5 (by omega)
  simp only [hs, Option.getD_some] at h1 ⊢; omega
theorem named_once (h : Inv A) {i k : Int} {n m : AN} {s s' : ByteArray} (hn : A.get i = some n) (hm : A.get k = some m) (hk2 : m.kind = 2) (hk1 : k ≠ 1) (h1 : lk s n.ents = some k) (h2 : lk s' n.ents = some k) : s = s' := by
 apply Classical.byContradiction
 intro hne
 have hr := (h.links k m hm hk1).2.2 hk2
 have a := sumF_two (f := one k) (h.enod i n hn) h1 h2 hne
 have b := sumF_ge (f := cntE k) (show lk i A.nodes = some n from hn)
 have e : one k k = 1 := by unfold one; simp
 rw [e] at a
 unfold AT.refs at hr
 have : sumF (one k) n.ents <= sumF (cntE k) A.nodes := b
 omega
structure Moved (A : AT) (src : Int) (name : ByteArray) (tq : Int) (as_ : ByteArray) (ino : Int) (nn ns nt' : AN) (M : AT) : Prop where
 get : ∀ j, M.get j = if j = ino then some (if nn.kind == 2 then { nn with up := tq } else nn) else if j = tq then some { nt' with ents := up as_ ino nt'.ents } else if j = src then some { ns with ents := rm name ns.ents } else A.get j
 ui : M.ui = A.ui
 ub : M.ub = A.ub
 qi : M.qi = A.qi
 qb : M.qb = A.qb
 last : M.last = A.last
theorem moved_ok {N : Nat} (h : Inv A) (hb : Bd N A) {src tq ino : Int} {name as_ : ByteArray} {nn : AN} (hs : A.isDir src) (ht : A.isDir tq) (hnm : namedE as_ = 0) (hf : A.find src name = some ino) (hfr : A.find tq as_ = none) (hn : A.get ino = some nn)
 (hnb : nn.kind = 2 -> ∀ r, ¬ Below A ino r tq) (hdp : nn.kind = 2 -> ∀ dt r k, A.deep 12 tq = some dt -> A.isDir k -> Below A ino r k -> dt + 1 + (r : Int) <= 12) :
 Inv (A.moved src name tq as_) /\ Bd (N + 1) (A.moved src name tq as_) /\ ∃ ns nt' : AN, A.get src = some ns /\ lk as_ nt'.ents = none /\ (nt' = if tq = src then { ns with ents := rm name ns.ents } else (A.get tq).getD nt') /\ Moved A src name tq as_ ino nn ns nt' (A.moved src name tq as_) := by
 obtain ⟨ns, hns, hns2⟩ := hs
 obtain ⟨nt, hnt, hnt2⟩ := ht
 have hlk : lk name ns.ents = some ino := by unfold AT.find at hf; rw [hns] at hf; exact hf
 have hlt : lk as_ nt.ents = none := by unfold AT.find at hfr; rw [hnt] at hfr; exact hfr
 obtain ⟨_, hi1, nn', hnn', hup⟩ := h.ent src ns name ino hns hlk
 rw [hn] at hnn'; cases hnn'
 have hit : ino ≠ tq := by
  intro e; subst e
  rw [hn] at hnt; cases hnt
  exact hnb hnt2 0 rfl
 have his : ino ≠ src := by
  intro e; subst e
  rw [hn] at hns; cases hns
  have := no_loop h ⟨nn, hn, hns2⟩ hi1
  unfold AT.upOf at this; rw [hn] at this
  exact this (hup hns2)
 -- the three changes
 have e1 : A.ent src (rm name) = A.set src { ns with ents := rm name ns.ents } := by unfold AT.ent; rw [hns]
 have hnd := h.enod src ns hns
 obtain ⟨nt', g1, t1, t2, t3, t4, t5, t6, t7, t8, t9, t10⟩ : ∃ nt', (A.set src { ns with ents := rm name ns.ents }).get tq = some nt' /\ nt'.kind = nt.kind /\ nt'.up = nt.up /\ nt'.mode = nt.mode /\ nt'.data = nt.data /\ nt'.links = nt.links /\ (keysL nt'.ents).Nodup /\ lk as_ nt'.ents = none /\ (∀ s j, lk s nt'.ents = some j -> lk s nt.ents = some j /\ (tq = src -> s ≠ name)) /\ nt'.ents.length <= nt.ents.length /\ (nt' = if tq = src then { ns with ents := rm name ns.ents } else (A.get tq).getD nt') := by
  by_cases e : tq = src
  ·subst e
   rw [hns] at hnt; cases hnt
   refine ⟨{ ns with ents := rm name ns.ents }, AT.get_set_self _ _ _, rfl, rfl, rfl, rfl, rfl, nodup_rm hnd, ?_, ?_, rm_sub.length_le, by rw [if_pos rfl]⟩
   ·simp only [lk_rm hnd]; split
    ·rfl
    ·exact hlt
   ·intro s j hs
    simp only [lk_rm hnd] at hs
    by_cases e : (s == name) = true
    ·rw [if_pos e] at hs; cases hs
    ·rw [if_neg e] at hs; exact ⟨hs, fun _ he => e (by simpa using he)⟩
  ·refine ⟨nt, by rw [AT.get_set_ne _ _ e]; exact hnt, rfl, rfl, rfl, rfl, rfl, h.enod tq nt hnt, hlt, fun s j hs => ⟨hs, fun he => absurd he e⟩, Nat.le_refl _, by rw [if_neg e, hnt]; rfl⟩
 have g2 : ((A.set src { ns with ents := rm name ns.ents }).set tq { nt' with ents := up as_ ino nt'.ents }).get ino = some nn := by
  rw [AT.get_set_ne _ _ hit, AT.get_set_ne _ _ his]; exact hn
 have e2 : A.moved src name tq as_ = ((A.set src { ns with ents := rm name ns.ents }).set tq { nt' with ents := up as_ ino nt'.ents }).set ino (if nn.kind == 2 then { nn with up := tq } else nn) := by
  unfold AT.moved
  rw [hf]
  simp only [Option.getD_some]
  rw [e1]
  have : (A.set src { ns with ents := rm name ns.ents }).ent tq (up as_ ino) = (A.set src { ns with ents := rm name ns.ents }).set tq { nt' with ents := up as_ ino nt'.ents } := by unfold AT.ent; rw [g1]
  rw [this]
  unfold AT.mod; rw [g2]
 generalize hM : A.moved src name tq as_ = M at *
 have hG : ∀ j, M.get j = if j = ino then some (if nn.kind == 2 then { nn with up := tq } else nn) else if j = tq then some { nt' with ents := up as_ ino nt'.ents } else if j = src then some { ns with ents := rm name ns.ents } else A.get j := by
  intro j; rw [e2, AT.get_set, AT.get_set, AT.get_set]
 have hnk : ∀ (P : AN -> Prop), P nn -> P { nn with up := tq } -> P (if nn.kind == 2 then { nn with up := tq } else nn) := by
  intro P h1 h2; split
  ·exact h2
  ·exact h1
 have hsum : ∀ f : AN -> Nat, sumF f M.nodes + f nn + f nt' + f ns = sumF f A.nodes + f { ns with ents := rm name ns.ents } + f { nt' with ents := up as_ ino nt'.ents } + f (if nn.kind == 2 then { nn with up := tq } else nn) := by
  intro f
  have q1 := AT.sum_set A f src { ns with ents := rm name ns.ents }
  have q2 := AT.sum_set (A.set src { ns with ents := rm name ns.ents }) f tq { nt' with ents := up as_ ino nt'.ents }
  have q3 := AT.sum_set ((A.set src { ns with ents := rm name ns.ents }).set tq { nt' with ents := up as_ ino nt'.ents }) f ino (if nn.kind == 2 then { nn with up := tq } else nn)
  rw [hns] at q1; rw [g1] at q2; rw [g2] at q3
  simp only [Option.map_some, Option.getD_some] at q1 q2 q3
  rw [e2]; omega
 have hc1 : ∀ j, cntE j { ns with ents := rm name ns.ents } + one j ino = cntE j ns := by
  intro j
  have := sumF_rm (one j) name ns.ents
  rw [hlk] at this
  simpa [cntE] using this
 have hc2 : ∀ j, cntE j { nt' with ents := up as_ ino nt'.ents } = cntE j nt' + one j ino := by
  intro j
  have := sumF_up (one j) as_ ino nt'.ents
  rw [t7] at this
  simpa [cntE] using this
 have hrefs : ∀ j, M.refs j = A.refs j := by
  intro j
  have q := hsum (cntE j)
  have e : cntE j (if nn.kind == 2 then { nn with up := tq } else nn) = cntE j nn := hnk (fun m => cntE j m = cntE j nn) rfl rfl
  have := hc1 j
  have := hc2 j
  unfold AT.refs; omega
 have hx : ∀ j m, A.get j = some m -> ∃ m', M.get j = some m' /\ m'.kind = m.kind /\ (j ≠ ino -> m'.up = m.up) /\ m'.mode = m.mode /\ m'.data = m.data /\ m'.links = m.links := by
  intro j m hm
  rw [hG]
  by_cases a : j = ino
  ·subst a; rw [if_pos rfl]; rw [hn] at hm; cases hm
   exact ⟨_, rfl, hnk (fun m => m.kind = nn.kind) rfl rfl, fun h => absurd rfl h, hnk (fun m => m.mode = nn.mode) rfl rfl, hnk (fun m => m.data = nn.data) rfl rfl, hnk (fun m => m.links = nn.links) rfl rfl⟩
  ·rw [if_neg a]
   by_cases b : j = tq
   ·subst b; rw [if_pos rfl]; rw [hnt] at hm; cases hm
    exact ⟨_, rfl, t1, fun _ => t2, t3, t4, t5⟩
   ·rw [if_neg b]
    by_cases c : j = src
    ·subst c; rw [if_pos rfl]; rw [hns] at hm; cases hm
     exact ⟨_, rfl, rfl, fun _ => rfl, rfl, rfl, rfl⟩
    ·rw [if_neg c]; exact ⟨m, hm, rfl, fun _ => rfl, rfl, rfl, rfl⟩
 have hcase : ∀ j m, M.get j = some m -> (j = ino /\ m = (if nn.kind == 2 then { nn with up := tq } else nn)) \/ (j = tq /\ m = { nt' with ents := up as_ ino nt'.ents }) \/ (j = src /\ j ≠ tq /\ m = { ns with ents := rm name ns.ents }) \/ (j ≠ ino /\ j ≠ tq /\ j ≠ src /\ A.get j = some m) := by
  intro j m hm
  rw [hG] at hm
  by_cases a : j = ino
  ·rw [if_pos a] at hm; cases hm; exact .inl ⟨a, rfl⟩
  ·rw [if_neg a] at hm
   by_cases b : j = tq
   ·rw [if_pos b] at hm; cases hm; exact .inr (.inl ⟨b, rfl⟩)
   ·rw [if_neg b] at hm
    by_cases c : j = src
    ·rw [if_pos c] at hm; cases hm; exact .inr (.inr (.inl ⟨c, b, rfl⟩))
    ·rw [if_neg c] at hm; exact .inr (.inr (.inr ⟨a, b, c, hm⟩))
 have hback : ∀ j m, M.get j = some m -> ∃ m0, A.get j = some m0 /\ m.kind = m0.kind /\ m.mode = m0.mode /\ m.data = m0.data /\ m.links = m0.links := by
  intro j m hm
  have : ∃ m0, A.get j = some m0 := by
   rcases hcase j m hm with ⟨rfl, _⟩ | ⟨rfl, _⟩ | ⟨rfl, _, _⟩ | ⟨_, _, _, hm⟩
   ·exact ⟨_, hn⟩
   ·exact ⟨_, hnt⟩
   ·exact ⟨_, hns⟩
   ·exact ⟨_, hm⟩
  obtain ⟨m0, hm0⟩ := this
  obtain ⟨m', q1, q2, _, q4, q5, q6⟩ := hx j m0 hm0
  rw [hm] at q1; cases q1
  exact ⟨m0, hm0, q2, q4, q5, q6⟩
 have hupO : ∀ k, k ≠ ino -> A.isDir k -> M.upOf k = A.upOf k := by
  rintro k hki ⟨m, hm, _⟩
  obtain ⟨m', q1, _, q3, _⟩ := hx k m hm
  unfold AT.upOf; rw [hm, q1]; simp [q3 hki]
 have hu : M.ui = A.ui /\ M.ub = A.ub /\ M.qi = A.qi /\ M.qb = A.qb /\ M.last = A.last := by rw [e2]; exact ⟨rfl, rfl, rfl, rfl, rfl⟩
 refine ⟨⟨?_, ?_, ?_, ?_, ?_, ?_, ?_, ?_, ?_, ?_, ?_, ?_, ?_⟩, ⟨?_, ?_, ?_⟩, ns, nt', hns, t7, t10, ⟨hG, hu.1, hu.2.1, hu.2.2.1, hu.2.2.2.1, hu.2.2.2.2⟩⟩
 ·rw [e2]; exact nodup_up (nodup_up (nodup_up h.nodup))
 ·intro j m hm
  rcases hcase j m hm with ⟨_, rfl⟩ | ⟨_, rfl⟩ | ⟨_, _, rfl⟩ | ⟨_, _, _, hm⟩
  ·exact hnk (fun m => (keysL m.ents).Nodup) (h.enod ino nn hn) (h.enod ino nn hn)
  ·exact nodup_up t6
  ·exact nodup_rm hnd
  ·exact h.enod j m hm
 ·obtain ⟨r, r1, r2, r3⟩ := h.root
  obtain ⟨m', q1, q2, q3, _⟩ := hx 1 r r1
  exact ⟨m', q1, by rw [q2, r2], by rw [q3 (fun e => hi1 e.symm), r3]⟩
 ·intro j m hm
  rw [hu.2.2.2.2]
  obtain ⟨m0, q, _⟩ := hback j m hm
  exact h.low j m0 q
 ·intro j m hm
  obtain ⟨m0, q, q2, q3, q4, _⟩ := hback j m hm
  rw [q2, q3, q4]; exact h.like j m0 q
 ·intro j m hm hk
  rcases hcase j m hm with ⟨_, rfl⟩ | ⟨_, rfl⟩ | ⟨_, _, rfl⟩ | ⟨_, _, _, hm⟩
  ·have e : (if nn.kind == 2 then { nn with up := tq } else nn).kind = nn.kind := hnk (fun m => m.kind = nn.kind) rfl rfl
   have e' : (if nn.kind == 2 then { nn with up := tq } else nn).ents = nn.ents := hnk (fun m => m.ents = nn.ents) rfl rfl
   rw [e'] ; rw [e] at hk; exact h.file ino nn hn hk
  ·exact absurd (by show nt'.kind = 2; rw [t1]; exact hnt2) hk
  ·exact absurd hns2 hk
  ·exact h.file j m hm hk
 ·intro j m s t hm hs
  -- an entry of old
  have old : ∀ m1, A.get t = some m1 -> (m1.kind = 2 -> m1.up = j) -> (t = ino -> nn.kind = 2 -> False) -> ∃ m', M.get t = some m' /\ (m'.kind = 2 -> m'.up = j) := by
   intro m1 a3 a4 a5
   obtain ⟨m', b1, b2, b3, _⟩ := hx t m1 a3
   refine ⟨m', b1, fun hk => ?_⟩
   have hti : t ≠ ino := by
    intro e; subst e
    rw [hn] at a3; cases a3
    exact a5 rfl (by rw [<- b2]; exact hk)
   rw [b3 hti]; exact a4 (by rw [<- b2]; exact hk)
  rcases hcase j m hm with ⟨rfl, rfl⟩ | ⟨rfl, rfl⟩ | ⟨rfl, hjt, rfl⟩ | ⟨hji, hjt, hjs, hm⟩
  ·have e' : (if nn.kind == 2 then { nn with up := tq } else nn).ents = nn.ents := hnk (fun m => m.ents = nn.ents) rfl rfl
   rw [e'] at hs
   obtain ⟨a1, a2, m1, a3, a4⟩ := h.ent j nn s t hn hs
   refine ⟨a1, a2, old m1 a3 a4 fun e hk => ?_⟩
   subst e
   rw [hn] at a3; cases a3
   have := no_loop h ⟨nn, hn, hk⟩ a2
   unfold AT.upOf at this; rw [hn] at this
   exact this (a4 hk)
  ·simp only [lk_up] at hs
   by_cases e : s = as_
   ·subst e
    simp at hs; subst hs
    refine ⟨hnm, hi1, _, by rw [hG, if_pos rfl], fun hk => ?_⟩
    have e : (if nn.kind == 2 then { nn with up := j } else nn).kind = nn.kind := hnk (fun m => m.kind = nn.kind) rfl rfl
    rw [e] at hk
    have : (nn.kind == 2) = true := by simpa using hk
    rw [this]; rfl
   ·have e' : (s == as_) = false := by simpa using e
    rw [e'] at hs
    obtain ⟨hs', hne⟩ := t8 s t hs
    obtain ⟨a1, a2, m1, a3, a4⟩ := h.ent j nt s t hnt hs'
    refine ⟨a1, a2, old m1 a3 a4 fun e hk => ?_⟩
    subst e
    rw [hn] at a3; cases a3
    have hjs : j = src := by rw [<- a4 hk, hup hk]
    have hntns : nt = ns := by subst hjs; rw [hns] at hnt; cases hnt; rfl
    subst hntns
    exact hne hjs (named_once h hns hn hk hi1 hs' hlk)
  ·simp only [lk_rm hnd] at hs
   by_cases e : (s == name) = true
   ·rw [if_pos e] at hs; cases hs
   ·rw [if_neg e] at hs
    obtain ⟨a1, a2, m1, a3, a4⟩ := h.ent j ns s t hns hs
    refine ⟨a1, a2, old m1 a3 a4 fun e' hk => ?_⟩
    subst e'
    exact e (by simpa using named_once h hns hn hk hi1 hs hlk)
  ·obtain ⟨a1, a2, m1, a3, a4⟩ := h.ent j m s t hm hs
   refine ⟨a1, a2, old m1 a3 a4 fun e hk => ?_⟩
   subst e
   rw [hn] at a3; cases a3
   exact hjs (by rw [<- a4 hk, hup hk])
 ·intro j m hm hj
  rw [hrefs]
  obtain ⟨m0, q, q2, _, _, q5⟩ := hback j m hm
  rw [q2, q5]; exact h.links j m0 q hj
 ·rintro k ⟨m, hm, hk⟩
  obtain ⟨m0, q, q2, _⟩ := hback k m hm
  have hkd : A.isDir k := ⟨m0, q, by rw [<- q2]; exact hk⟩
  by_cases hnk2 : nn.kind = 2
  case neg =>
   have hne : ∀ k, A.isDir k -> k ≠ ino := by
    rintro k ⟨m, hm, hk⟩ e; subst e; rw [hn] at hm; cases hm; exact hnk2 hk
   rw [deep_same h (fun k hk => hupO k (hne k hk) hk) 12 k hkd]; exact h.deep k hkd
  have hS : ∀ (f : Nat) (k : Int), (A.isDir k /\ ∀ r, ¬ Below A ino r k) -> M.deep f k = A.deep f k :=
   deep_on (S := fun k => A.isDir k /\ ∀ r, ¬ Below A ino r k) (fun k hk h1 => ⟨h.isDir_up hk.1, fun r hr => hk.2 (r + 1) ⟨fun e => hk.2 0 e, h1, hr⟩⟩) (fun k hk _ => hupO k (fun e => hk.2 0 e) hk.1)
  by_cases hbl : ∃ r, Below A ino r k
  case neg =>
   rw [hS 12 k ⟨hkd, fun r hr => hbl ⟨r, hr⟩⟩]; exact h.deep k hkd
  obtain ⟨r, hr⟩ := hbl
  obtain ⟨dt, hdt⟩ := h.deep tq ⟨nt, hnt, hnt2⟩
  have hle := hdp hnk2 dt r k hdt hkd hr
  have hdb := deep_bound hdt
  have hD : A.deep dt.toNat tq = some dt := deep_low hdt _ (by omega)
  have key : ∀ (r : Nat) (k : Int), A.isDir k -> Below A ino r k -> M.deep (dt.toNat + 1 + r) k = some (dt + 1 + r) := by
   intro r
   induction r with
   | zero =>
    intro k hkd hb
    have hb : k = ino := hb
    subst hb
    have hu' : M.upOf k = tq := by
     unfold AT.upOf; rw [hG, if_pos rfl]
     have : (nn.kind == 2) = true := by simpa using hnk2
     rw [this]; rfl
    rw [Nat.add_zero, AT.deep, if_neg hi1, hu', hS _ tq ⟨⟨nt, hnt, hnt2⟩, hnb hnk2⟩, hD]
    simp
   | succ r ih =>
    intro k hkd hb
    obtain ⟨b1, b2, b3⟩ := hb
    rw [show dt.toNat + 1 + (r + 1) = (dt.toNat + 1 + r) + 1 by omega, AT.deep, if_neg b2, hupO k b1 hkd, ih _ (h.isDir_up hkd) b3]
    simp; omega
  have := key r k hkd hr
  exact ⟨_, deep_low this 12 (by omega)⟩
 ·have q := hsum (fun _ => 1)
  rw [sumF_len, sumF_len] at q
  rw [hu.1, h.ui]; omega
 ·have q := hsum (fun n => n.data.size)
  have e : (if nn.kind == 2 then { nn with up := tq } else nn).data = nn.data := hnk (fun m => m.data = nn.data) rfl rfl
  rw [hu.2.1, h.ub]; unfold AT.bytes; simp only [e] at q; omega
 ·rw [hu.1, hu.2.2.1]; exact h.uq
 ·rw [hu.2.1, hu.2.2.2.1]; exact h.bq
 ·rw [hu.2.2.2.2]; have := hb.last; omega
 ·intro j m hm
  obtain ⟨m0, q, _, _, _, q5⟩ := hback j m hm
  have := hb.links j m0 q
  omega
 ·intro j m hm
  rcases hcase j m hm with ⟨_, rfl⟩ | ⟨_, rfl⟩ | ⟨_, _, rfl⟩ | ⟨_, _, _, hm⟩
  ·have e' : (if nn.kind == 2 then { nn with up := tq } else nn).ents = nn.ents := hnk (fun m => m.ents = nn.ents) rfl rfl
   rw [e']; have := hb.ents _ nn hn; omega
  ·have := hb.ents _ nt hnt
   simp only
   rw [enc_up_new nt'.ents as_ _ t7]; simp; omega
  ·have := hb.ents _ ns hns
   have := (rm_sub (k := name) (l := ns.ents)).length_le
   simp only; omega
  ·have := hb.ents j m hm; omega
end Go.Wk

set_option maxRecDepth 100000
namespace Go.Proofs.YtbjbeajbckcecaaGreatDoor
open Go Go.HL Go.Wk
attribute [local irreducible] ptrW ifW brW andW rdT alW letJ stW muW biW vaW imW callT cvalT app callW invW callVW sizeT oW nilF oneK loopW rfW funW begW roundK exW idxW Gr Put
attribute [local irreducible] bothW
@[reducible] def bs (l : List UInt8) : ByteArray := ⟨⟨l⟩⟩
def u0 : AT := newT 20 200
def u1 : AT := (u0.mkdirF (bs [47]) (bs [111])).2
def u2 : AT := (u1.writeF (bs [47, 111]) (bs [120]) (bs [49]) false).2
def u3 : AT := (u2.chmodF (bs [47, 111]) (bs [120]) 448).2
def u4 : AT := (u3.symlinkF (bs [47, 111]) (bs [120]) (bs [108])).2
def u5 : AT := (u4.hardF (bs [47, 111]) (bs [120]) (bs [104])).2
end Go.Proofs.YtbjbeajbckcecaaGreatDoor

namespace Go.Wk
open Go Go.HL
end Go.Wk
namespace Go.Wk
open Go Go.HL
end Go.Wk

set_option maxRecDepth 100000
namespace Go.Proofs.YtbjbeajbckcecaaGreatDoor
open Go Go.HL Go.Wk
attribute [local irreducible] ptrW ifW brW andW rdT alW letJ stW muW biW vaW imW callT cvalT app callW invW callVW sizeT oW nilF oneK loopW rfW funW begW roundK exW idxW Gr Put
attribute [local irreducible] bothW
section
variable {σ : H} {bf N : Nat} {A : AT} {B : Nat -> Prop} {F : Int -> H -> Prop} {e : Int}
end
section
variable {σ : H}
theorem s_noneNil {K : KH} (hK : K (.bool true) σ) : callW Tryz.prog 92 [.pointer none] K σ := by
 refine c92 _ ?_
 unfold g92
 exact br_t rfl hK
theorem s_locateNil (cwd path : ByteArray) (follow : Bool) {K : KH} (hK : ∀ σ', Gr σ σ' -> K (.tuple ⟨[.agg ⟨[.int .i64 0, .string ⟨⟨[]⟩⟩, .int .i64 0, .bool false]⟩, .int .i64 1]⟩) σ') : callW Tryz.prog 98 [.pointer none, .string cwd, .string path, .bool follow] K σ := by
 refine c98 _ _ _ _ ?_
 unfold g98
 refine al_i ?_; intro b5 σ1 g1 e1 n1
 refine call_i (s_noneNil (app_B (br_t rfl ?_)))
 refine st_i2 e1 sz_place (by rfl) (by rfl) ?_; intro σ2 p2
 refine rd_G (rdA_of' p2.same (by rfl)) ?_
 (refine app_of rfl ?_; try dsimp only)
 exact hK σ2 (g1.putF p2 n1)
theorem s_withNil (cwd path : ByteArray) (follow : Bool) (f : Value) {K : KH} (hK : ∀ σ', Gr σ σ' -> K (.int .i64 1) σ') : callW Tryz.prog 69 [.pointer none, .string cwd, .string path, .bool follow, f] K σ := by
 refine c69 _ _ _ _ _ ?_
 unfold g69
 refine call_i (s_locateNil cwd path follow ?_)
 intro σ1 g1
 (refine app_of rfl ?_; try dsimp only)
 refine al_i ?_; intro b11 σ2 g2 e2 n2
 refine st_i2 e2 sz_place (by rfl) (by rfl) ?_; intro σ3 p3
 exact br_t rfl (hK σ3 ((g1.trans g2).putF p3 (none_of g1 n2)))
theorem s_StatNil (cwd path : ByteArray) (follow : Bool) {K : KH} (hK : ∀ σ', Gr σ σ' -> K (.tuple ⟨[.agg ⟨[.int .i64 0, .int .i64 0, .string ⟨⟨[]⟩⟩, .int .i64 0]⟩, .int .i64 1]⟩) σ') : callW Tryz.prog 15 [.pointer none, .string cwd, .string path, .bool follow] K σ := by
 refine c15 _ _ _ _ ?_
 unfold g15
 refine al_i ?_; intro b5 σ1 g1 e1 n1
 refine call_i (s_withNil cwd path follow _ ?_)
 intro σ2 g2
 have k5 := g2.get e1
 refine app_I (rd_G (rdA_of' k5 (by rfl)) ?_)
 (refine app_of rfl ?_; try dsimp only)
 refine st_i2 k5 sz_Inode (by rfl) (by rfl) ?_; intro σ3 p3
 refine rd_G (rdA_of' p3.same (by rfl)) ?_
 (refine app_of rfl ?_; try dsimp only)
 exact hK σ3 ((g1.trans g2).putF p3 n1)
end
end Go.Proofs.YtbjbeajbckcecaaGreatDoor

namespace Go.Wk
open Go Go.HL
variable {A : AT}
theorem below_deep {ino : Int} : ∀ {r f : Nat} {k d : Int}, Below A ino r k -> A.deep f k = some d -> (r : Int) < d := by
 intro r
 induction r with
 | zero => intro f k d _ hd; have := deep_bound hd; omega
 | succ r ih =>
  intro f k d hb hd
  obtain ⟨h1, h2, h3⟩ := hb
  cases f with
  | zero => cases hd
  | succ f =>
   unfold AT.deep at hd
   rw [if_neg h2] at hd
   cases he : A.deep f (A.upOf k) with
   | none => rw [he] at hd; cases hd
   | some x =>
    rw [he] at hd
    simp only [Option.map_some, Option.some.injEq] at hd
    have := ih h3 he
    omega
theorem moveE1_z {src tq : Int} {name as_ : ByteArray} (he : A.moveE1 src name tq as_ = 0) : A.isDir src /\ A.isDir tq /\ namedE as_ = 0 /\ ∃ j, A.find src name = some j := by
 unfold AT.moveE1 at he
 obtain ⟨_, he⟩ := AT.firstE_z he
 obtain ⟨h1, he⟩ := AT.firstE_z he
 obtain ⟨h2, he⟩ := AT.firstE_z he
 obtain ⟨h3, he⟩ := AT.firstE_z he
 obtain ⟨h4, _⟩ := AT.firstE_z he
 refine ⟨AT.dirE_z h1, AT.dirE_z h2, h3, ?_⟩
 cases hf : A.find src name with
 | none => rw [hf] at h4; simp at h4
 | some j => exact ⟨j, rfl⟩
theorem moveR_cases (h : Inv A) {src tq : Int} {name as_ : ByteArray} {f : Nat} : (A.moveR src name tq as_ f).2 = A \/ ((A.moveR src name tq as_ f) = (0, A.moved src name tq as_) /\ A.isDir src /\ A.isDir tq /\ namedE as_ = 0 /\ A.find tq as_ = none /\ ∃ ino, A.find src name = some ino /\ ∀ r, ¬ Below A ino r tq) := by
 unfold AT.moveR
 by_cases c1 : A.moveE1 src name tq as_ ≠ 0 \/ (src = tq /\ name = as_)
 ·rw [if_pos c1]; exact .inl rfl
 rw [if_neg c1]
 simp only
 by_cases c2 : firstE [if (A.find tq as_).isSome then 6 else 0, if (A.apart ((A.find src name).getD 0) f tq).getD false then 0 else 2] ≠ 0
 ·rw [if_pos c2]; exact .inl rfl
 rw [if_neg c2]
 refine .inr ⟨rfl, ?_⟩
 obtain ⟨h1, h2, h3, ino, h4⟩ := moveE1_z (A := A) (src := src) (tq := tq) (name := name) (as_ := as_) (by
  apply Classical.byContradiction
  intro hc; exact c1 (.inl hc))
 obtain ⟨q1, q2⟩ := AT.firstE_z (show firstE _ = 0 by simpa using c2)
 obtain ⟨q2, _⟩ := AT.firstE_z q2
 obtain ⟨_, _, _, _, hi1, _⟩ := h.find h4
 refine ⟨h1, h2, h3, ?_, ino, h4, ?_⟩
 ·cases hf : A.find tq as_ with
  | none => rfl
  | some j => rw [hf] at q1; simp at q1
 ·have hino : (A.find src name).getD 0 = ino := by rw [h4]; rfl
  simp only [hino] at q2
  by_cases hb : (A.apart ino f tq).getD false = true
  ·cases ha : A.apart ino f tq with
   | none => rw [ha] at hb; cases hb
   | some b =>
    rw [ha] at hb
    have hb : b = true := hb
    subst hb
    exact apart_not h hi1 h2 ha
  ·rw [if_neg hb] at q2; cases q2
theorem moveR_inv {N : Nat} (h : Inv A) (hb : Bd N A) {src tq : Int} {name as_ : ByteArray} {f : Nat} (hdp : ∀ ino nn, A.find src name = some ino -> A.get ino = some nn -> nn.kind = 2 -> ∀ dt r k, A.deep 12 tq = some dt -> A.isDir k -> Below A ino r k -> dt + 1 + (r : Int) <= 12) :
 Inv (A.moveR src name tq as_ f).2 /\ Bd (N + 1) (A.moveR src name tq as_ f).2 /\ (A.moveR src name tq as_ f).2.qi = A.qi /\ (A.moveR src name tq as_ f).2.qb = A.qb := by
 rcases moveR_cases h (src := src) (tq := tq) (name := name) (as_ := as_) (f := f) with e | ⟨e, h1, h2, h3, h4, ino, h5, h6⟩
 ·rw [e]; exact ⟨h, hb.mono (by omega), rfl, rfl⟩
 ·rw [e]
  obtain ⟨_, _, _, _, _, nn, hnn, _⟩ := h.find h5
  obtain ⟨a, b, _, _, _, _, _, c⟩ := moved_ok h hb h1 h2 h3 h5 h4 hnn (fun _ => h6) (fun hk => hdp ino nn h5 hnn hk)
  exact ⟨a, b, c.qi, c.qb⟩
theorem unlinkR_back (h : Inv A) {dir : Int} {name : ByteArray} : ∀ j m, (A.unlinkR dir name).2.get j = some m -> ∃ m0, A.get j = some m0 /\ m.kind = m0.kind /\ m.up = m0.up /\ ∀ s t, lk s m.ents = some t -> lk s m0.ents = some t := by
 intro j m hm
 unfold AT.unlinkR at hm
 by_cases he : A.unlinkE dir name = 0
 case neg => rw [if_neg he] at hm; exact ⟨m, hm, rfl, rfl, fun _ _ h => h⟩
 rw [if_pos he] at hm
 have ent_b : ∀ j m, (A.ent dir (rm name)).get j = some m -> ∃ m0, A.get j = some m0 /\ m.kind = m0.kind /\ m.up = m0.up /\ ∀ s t, lk s m.ents = some t -> lk s m0.ents = some t := by
  intro j m hm
  unfold AT.ent at hm
  cases hd : A.get dir with
  | none => rw [hd] at hm; exact ⟨m, hm, rfl, rfl, fun _ _ h => h⟩
  | some nd =>
   rw [hd] at hm
   simp only at hm
   rw [AT.get_set] at hm
   by_cases e : j = dir
   ·rw [if_pos e] at hm; cases hm; subst e
    refine ⟨nd, hd, rfl, rfl, fun s t hs => ?_⟩
    simp only [lk_rm (h.enod j nd hd)] at hs
    by_cases e : (s == name) = true
    ·rw [if_pos e] at hs; cases hs
    ·rw [if_neg e] at hs; exact hs
   ·rw [if_neg e] at hm; exact ⟨m, hm, rfl, rfl, fun _ _ h => h⟩
 have nd1 : (keysL (A.ent dir (rm name)).nodes).Nodup := by
  unfold AT.ent
  cases A.get dir with
  | none => exact h.nodup
  | some nd => exact nodup_up h.nodup
 generalize hX : A.ent dir (rm name) = X at *
 have mod_b : ∀ i j m, (X.mod i fun n => { n with links := wr (n.links - 1) }).get j = some m -> ∃ m0, X.get j = some m0 /\ m.kind = m0.kind /\ m.up = m0.up /\ m.ents = m0.ents := by
  intro i j m hm
  unfold AT.mod at hm
  cases hd : X.get i with
  | none => rw [hd] at hm; exact ⟨m, hm, rfl, rfl, rfl⟩
  | some nd =>
   rw [hd] at hm
   simp only at hm
   rw [AT.get_set] at hm
   by_cases e : j = i
   ·rw [if_pos e] at hm; cases hm; subst e; exact ⟨nd, hd, rfl, rfl, rfl⟩
   ·rw [if_neg e] at hm; exact ⟨m, hm, rfl, rfl, rfl⟩
 have nd2 : ∀ i, (keysL (X.mod i fun n => { n with links := wr (n.links - 1) }).nodes).Nodup := by
  intro i
  unfold AT.mod
  cases X.get i with
  | none => exact nd1
  | some nd => exact nodup_up nd1
 have fin : ∀ i, (X.mod i fun n => { n with links := wr (n.links - 1) }).get j = some m -> ∃ m0, A.get j = some m0 /\ m.kind = m0.kind /\ m.up = m0.up /\ ∀ s t, lk s m.ents = some t -> lk s m0.ents = some t := by
  intro i hm
  obtain ⟨m1, a1, a2, a3, a4⟩ := mod_b i j m hm
  obtain ⟨m0, b1, b2, b3, b4⟩ := ent_b j m1 a1
  exact ⟨m0, b1, by rw [a2, b2], by rw [a3, b3], fun s t hs => b4 s t (by rw [<- a4]; exact hs)⟩
 unfold AT.unlinked at hm
 simp only [hX] at hm
 generalize (A.find dir name).getD 0 = i at hm
 cases hg : (X.mod i fun n => { n with links := wr (n.links - 1) }).get i with
 | none => rw [hg] at hm; exact fin i hm
 | some n =>
  rw [hg] at hm
  simp only at hm
  cases hz : (n.links == 0) with
  | false => rw [hz] at hm; exact fin i hm
  | true =>
   rw [hz] at hm
   have hm : lk j (rm i (X.mod i fun n => { n with links := wr (n.links - 1) }).nodes) = some m := hm
   rw [lk_rm (nd2 i)] at hm
   by_cases e : (j == i) = true
   ·rw [if_pos e] at hm; cases hm
   ·rw [if_neg e] at hm; exact fin i hm
theorem below_same {A' : AT} (h : Inv A') (hu : ∀ k, A'.isDir k -> A.upOf k = A'.upOf k) {ino : Int} : ∀ {r : Nat} {k : Int}, A'.isDir k -> Below A' ino r k -> Below A ino r k := by
 intro r
 induction r with
 | zero => intro k _ hb; exact hb
 | succ r ih =>
  intro k hk hb
  obtain ⟨h1, h2, h3⟩ := hb
  refine ⟨h1, h2, ?_⟩
  rw [hu k hk]
  exact ih (h.isDir_up hk) h3
theorem over_room (h : Inv A) {p q : Pl} (hq : A.isDir q.dir) (ho : A.overE p q = 0) : ∀ dt r k, A.deep 12 q.dir = some dt -> A.isDir p.ino -> A.isDir k -> Below A p.ino r k -> dt + 1 + (r : Int) <= 12 := by
 intro dt r k hdt hp hk hb
 obtain ⟨x, hx13, hx12, _⟩ := h.deep13 hq
 rw [hdt] at hx12; cases hx12
 obtain ⟨d, hd⟩ := h.deep k hk
 have hr := below_deep hb hd
 have hdb := deep_bound hd
 have hl := levels_below h r 14 p.ino k hk hp hb (by omega)
 have key : ∀ (e : Int) (c c' : Prop) [Decidable c] [Decidable c'], (if e ≠ 0 then e else if c then 2 else if c' then 3 else 0) = (0 : Int) -> ¬ c' := by
  intro e c c' _ _ h hc
  by_cases he : e ≠ 0
  ·rw [if_pos he] at h; exact he h
  ·rw [if_neg he] at h
   by_cases h2 : c
   ·rw [if_pos h2] at h; cases h
   ·rw [if_neg h2, if_pos hc] at h; cases h
 have hn := key _ _ _ ho
 rw [hx13] at hn
 simp only [Option.getD_some] at hn
 omega
structure OpInv (N : Nat) (A : AT) (r : Int × AT) : Prop where
 inv : Inv r.2
 bd : Bd N r.2
 qi : r.2.qi = A.qi
 qb : r.2.qb = A.qb
theorem both_z {cwd src tq : ByteArray} (h : (A.both cwd src tq).1 = 0) : (A.locate cwd src false).1 = 0 /\ (A.locate cwd tq false).1 = 0 /\ (A.both cwd src tq).2.1 = (A.locate cwd src false).2 /\ (A.both cwd src tq).2.2 = (A.locate cwd tq false).2 := by
 unfold AT.both at h ⊢
 simp only at h ⊢
 by_cases he : (A.locate cwd src false).1 = 0
 case neg => rw [if_pos he] at h; exact absurd h he
 rw [if_neg (by simpa using he)] at h ⊢
 exact ⟨he, h, rfl, rfl⟩
theorem renameF_inv {N : Nat} (h : Inv A) (hb : Bd N A) (hN : N < 4611686018427387904) (cwd src tq : ByteArray) : OpInv (N + 1) A (A.renameF cwd src tq) := by
 have self : ∀ e : Int, OpInv (N + 1) A (e, A) := fun e => ⟨h, hb.mono (by omega), rfl, rfl⟩
 unfold AT.renameF
 simp only
 by_cases c1 : (A.both cwd src tq).1 ≠ 0
 ·rw [if_pos c1]; exact self _
 rw [if_neg c1]
 obtain ⟨l1, l2, e1, e2⟩ := both_z (A := A) (cwd := cwd) (src := src) (tq := tq) (by simpa using c1)
 have P := locate_place h cwd src false l1
 have Q := locate_place h cwd tq false l2
 rw [e1, e2]
 generalize (A.locate cwd src false).2 = p at *
 generalize (A.locate cwd tq false).2 = q at *
 by_cases c2 : sEq p.name ⟨⟨[]⟩⟩ = true \/ sEq q.name ⟨⟨[]⟩⟩ = true
 ·rw [if_pos c2]; exact self _
 rw [if_neg c2]
 by_cases c3 : p.there = false
 ·rw [if_pos c3]; exact self _
 rw [if_neg c3]
 by_cases c4 : q.there = true /\ p.ino = q.ino
 ·rw [if_pos c4]; exact self _
 rw [if_neg c4]
 by_cases c5 : A.overE p q ≠ 0
 ·rw [if_pos c5]; exact self _
 rw [if_neg c5]
 have c5 : A.overE p q = 0 := by simpa using c5
 have hpn : p.name ≠ ⟨⟨[]⟩⟩ := fun e => c2 (.inl (by rw [e]; rfl))
 have hpt : p.there = true := by simpa using c3
 obtain ⟨_, hpf⟩ := P.named hpn
 rw [hpt] at hpf
 simp only [if_true] at hpf
 have room := over_room h Q.1 c5
 by_cases c6 : q.there = true
 case neg =>
  rw [if_neg c6]
  obtain ⟨a, b, c, d⟩ := moveR_inv h hb (src := p.dir) (tq := q.dir) (name := p.name) (as_ := q.name) (f := 14) (fun ino nn hf hg hk dt r k h1 h2 h3 => by
   rw [hpf] at hf; cases hf
   exact room dt r k h1 ⟨nn, hg, hk⟩ h2 h3)
  exact ⟨a, b, c, d⟩
 rw [if_pos c6]
 obtain ⟨u1, u2, u3, u4, u5⟩ := unlinkR_ok h hb hN q.dir q.name
 by_cases c7 : (A.unlinkR q.dir q.name).1 ≠ 0
 ·rw [if_pos c7]; rw [show A.unlinkR q.dir q.name = ((A.unlinkR q.dir q.name).1, (A.unlinkR q.dir q.name).2) from rfl, u3 c7]; exact self _
 rw [if_neg c7]
 have back := unlinkR_back h (dir := q.dir) (name := q.name)
 generalize (A.unlinkR q.dir q.name).2 = U at *
 have hu : ∀ k, U.isDir k -> A.upOf k = U.upOf k := by
  rintro k ⟨m, hm, _⟩
  obtain ⟨m0, b1, _, b3, _⟩ := back k m hm
  unfold AT.upOf; rw [hm, b1]; simp [b3]
 have hdir : ∀ k, U.isDir k -> A.isDir k := by
  rintro k ⟨m, hm, hk⟩
  obtain ⟨m0, b1, b2, _⟩ := back k m hm
  exact ⟨m0, b1, by rw [<- b2]; exact hk⟩
 obtain ⟨a, b, c, d⟩ := moveR_inv u1 u2 (src := p.dir) (tq := q.dir) (name := p.name) (as_ := q.name) (f := 14) (fun ino nn hf hg hk dt r k h1 h2 h3 => by
  have hfa : ino = p.ino := by
   unfold AT.find at hf
   cases hn : U.get p.dir with
   | none => rw [hn] at hf; cases hf
   | some m =>
    rw [hn] at hf
    obtain ⟨m0, b1, _, _, b4⟩ := back p.dir m hn
    have := b4 _ _ hf
    unfold AT.find at hpf
    rw [b1] at hpf
    have hpf : lk p.name m0.ents = some p.ino := hpf
    rw [this] at hpf; cases hpf; rfl
  subst hfa
  have hqd : U.isDir q.dir := by
   -- going up needs a directory: else nothing lies there
   apply Classical.byContradiction
   intro hc
   have hm : (U.moveR p.dir p.name q.dir q.name 14) = (U.moveR p.dir p.name q.dir q.name 14) := rfl
   cases hg : U.get q.dir with
   | none =>
    have : U.upOf q.dir = 0 := by unfold AT.upOf; rw [hg]; rfl
    have h0 : U.get 0 = none := by
     cases h0 : U.get 0 with
     | none => rfl
     | some n => have := u1.low 0 n h0; omega
    have hz : U.upOf 0 = 0 := by unfold AT.upOf; rw [h0]; rfl
    have hz2 : ∀ f, U.deep f 0 = none := by
     intro f
     induction f with
     | zero => rfl
     | succ f ih => unfold AT.deep; rw [if_neg (by omega), hz, ih]; rfl
    have h11 : q.dir ≠ 1 := by
     intro e; rw [e] at hc; exact hc u1.root_dir
    rw [AT.deep, if_neg h11, this, hz2] at h1; cases h1
   | some n =>
    obtain ⟨m0, b1, b2, _⟩ := back q.dir n hg
    obtain ⟨m1, d1, d2⟩ := Q.1
    rw [d1] at b1; cases b1
    exact hc ⟨n, hg, by rw [b2]; exact d2⟩
  have hdt : A.deep 12 q.dir = some dt := by
   rw [deep_same u1 hu 12 q.dir hqd]; exact h1
  exact room dt r k hdt (hdir _ ⟨nn, hg, hk⟩) (hdir _ h2) (below_same u1 hu h2 h3))
 exact ⟨a, b, by rw [c, u4], by rw [d, u5]⟩
end Go.Wk

set_option maxRecDepth 100000
namespace Go.Proofs.YtbjbeajbckcecaaGreatDoor
open Go Go.HL Go.Wk
attribute [local irreducible] ptrW ifW brW andW rdT alW letJ stW muW biW vaW imW callT cvalT app callW invW callVW sizeT oW nilF oneK loopW rfW funW begW roundK exW idxW Gr Put
theorem levels_le (A : AT) : ∀ (f : Nat) (i : Int), 0 <= A.levels f i /\ A.levels f i <= f := by
 intro f
 induction f with
 | zero => intro i; simp [AT.levels]
 | succ f ih =>
  intro i
  unfold AT.levels
  by_cases hk : A.kind i ≠ 2
  ·rw [if_pos hk]; omega
  rw [if_neg hk]
  have key : ∀ (l : List ByteArray) (n : Int), 0 <= n -> n <= f -> 0 <= l.foldl (fun n s => let x := AT.levels A f ((A.find i s).getD 0); if x > n then x else n) n /\ l.foldl (fun n s => let x := AT.levels A f ((A.find i s).getD 0); if x > n then x else n) n <= f := by
   intro l
   induction l with
   | nil => intro n h1 h2; exact ⟨h1, h2⟩
   | cons s r ihl =>
    intro n h1 h2
    simp only [List.foldl_cons]
    have := ih ((A.find i s).getD 0)
    refine ihl _ ?_ ?_ <;> (split <;> omega)
  have := key (A.names i) 0 (by omega) (by omega)
  omega
section
variable {σ : H} {bf : Nat} {A : AT} {B : Nat -> Prop}
theorem s_levelsF {N : Nat} (hI : Inv A) (hB : Bd N A) (hN : N <= 1000000000000) (hF : FsAt σ bf A B) : ∀ (f : Nat) (i : Int), f <= 100 -> (∀ d, A.isDir i -> A.deep 12 i = some d -> 13 <= f + d) -> ∀ {τ : H}, Gr σ τ -> ∀ {K : KH}, (∀ τ', Gr τ τ' -> K (.int .i64 (A.levels f i)) τ') -> callW Tryz.prog 180 [.pointer (some ⟨bf, 0, none⟩), .int .i64 i] K τ := by
 intro f
 induction f with
 | zero =>
  intro i _ hd τ hg K hK
  refine c180 _ _ ?_
  unfold g180
  refine call_i (s_kind (hF.gr hg) i (app_I ?_))
  have hk : A.kind i ≠ 2 := by
   intro hk
   have hdir := kind_dir hk
   obtain ⟨d, hdd⟩ := hI.deep i hdir
   have := hd d hdir hdd
   have := deep_bound hdd
   omega
  exact br_t (by simpa using hk) (hK τ (Gr.refl _))
 | succ f ih =>
  intro i hf hd τ hg K hK
  have hll := levels_le A f
  refine c180 _ _ ?_
  unfold g180
  refine call_i (s_kind (hF.gr hg) i (app_I ?_))
  unfold AT.levels at hK
  by_cases hk : A.kind i ≠ 2
  ·rw [if_pos hk] at hK
   exact br_t (by simpa using hk) (hK τ (Gr.refl _))
  rw [if_neg hk] at hK
  have hk2 : A.kind i = 2 := by simpa using hk
  have hdir := kind_dir hk2
  obtain ⟨di, hdi⟩ := hI.deep i hdir
  refine br_f (by simpa using hk2) ?_
  obtain ⟨bt, B0, q1, q2, q3, q4⟩ := id (hF.gr hg)
  refine ptr_i (rd_P (rdC_of q1 (by rfl)) ?_)
  refine call_i (s_Names q2 _ (names_ok hI hB hN _) ?_)
  intro x τ1 g1 hx
  refine app_L (loop_i ?_)
  intro R hR
  have hlen := hx.1
  have hnl := names_len (A := A) (d := i) hB
  have key : ∀ (l : List ByteArray) (k : Nat) (n : Int) (τ2 : H), (A.names i).drop k = l -> 0 <= n -> n <= f -> Gr τ1 τ2 -> (A.names i).foldl (fun n s => let x := AT.levels A f ((A.find i s).getD 0); if x > n then x else n) 0 = l.foldl (fun n s => let x := AT.levels A f ((A.find i s).getD 0); if x > n then x else n) n -> R (some ⟨bf, 0, none⟩) i n x ((x.len : Nat) : Int) (k : Int) τ2 := by
   intro l
   induction l with
   | nil =>
    intro k n τ2 hdr h1 h2 hg2 he
    have hge : (A.names i).length <= k := by simpa using hdr
    refine hR _ _ _ _ _ _ _ ?_
    refine br_f (by rw [hlen]; simp only [decide_eq_false_iff_not]; omega) ?_
    rw [wrap_id (x := n + 1) (by omega) (by omega)]
    rw [he] at hK
    exact hK τ2 (g1.trans hg2)
   | cons s r ihl =>
    intro k n τ2 hdr h1 h2 hg2 he
    obtain ⟨hs, hlt, hd'⟩ := drop_get hdr
    obtain ⟨g, cur, x1, x2, x3⟩ := hx.at hs
    refine hR _ _ _ _ _ _ _ ?_
    refine br_t (by rw [hlen]; simp only [decide_eq_true_eq]; omega) ?_
    rw [x1]
    refine ptr_i (if_i ⟨by omega, by rw [hlen]; omega⟩ ?_)
    have hrd : rdC g (0 + (k : Int).toNat * 1) τ2 = some (.string s) := rdC_of (hg2.get x2) (by simpa using x3)
    obtain ⟨bt', B0', r1, r2, r3, r4⟩ := id (hF.gr ((hg.trans g1).trans hg2))
    refine rd_S hrd (ptr_i (rd_P (rdC_of r1 (by rfl)) ?_))
    refine call_i (t_Find r2 _ _ (app_IB ?_))
    refine call_i (ih ((A.find i s).getD 0) (by omega) ?_ ((hg.trans g1).trans hg2) ?_)
    ·intro d' hdj hd12
     obtain ⟨j, hj⟩ := names_mem hI (List.mem_of_getElem? hs)
     rw [hj] at hdj hd12
     simp only [Option.getD_some] at hdj hd12
     obtain ⟨nd, hnd, _, hl, hj1, m, hm, hup⟩ := hI.find hj
     obtain ⟨m', hm', hk'⟩ := hdj
     rw [hm] at hm'; cases hm'
     have hu : A.upOf j = i := by unfold AT.upOf; rw [hm]; exact hup hk'
     rw [AT.deep, if_neg hj1, hu] at hd12
     cases he11 : A.deep 11 i with
     | none => rw [he11] at hd12; cases hd12
     | some y =>
      rw [he11] at hd12
      simp only [Option.map_some, Option.some.injEq] at hd12
      have := deep_mono he11
      rw [hdi] at this; cases this
      have := hd di hdir hdi
      omega
    ·intro τ3 g3
     refine app_I ?_
     have hb := hll ((A.find i s).getD 0)
     rw [wrap_id (x := (k : Int) + 1) (by omega) (by omega)]
     have hgt : (if A.levels f ((A.find i s).getD 0) > n then A.levels f ((A.find i s).getD 0) else n) = (let x := AT.levels A f ((A.find i s).getD 0); if x > n then x else n) := rfl
     refine ihl (k + 1) _ τ3 hd' ?_ ?_ (hg2.trans g3) ?_
     ·split <;> omega
     ·split <;> omega
     ·rw [he]; rfl
  exact key (A.names i) 0 0 τ1 rfl (by omega) (by omega) (Gr.refl _) rfl
theorem s_withinF (hF : FsAt σ bf A B) {ino : Int} : ∀ (f : Nat) {d : Int} {b : Bool}, A.within ino f d = some b -> ∀ {K : KH}, K (.bool b) σ -> callW Tryz.prog 179 [.pointer (some ⟨bf, 0, none⟩), .int .i64 d, .int .i64 ino] K σ := by
 intro f d b hw K hK
 obtain ⟨bt, B0, q1, q2, q3, q4⟩ := id hF
 refine c179 _ _ _ ?_
 unfold g179
 refine loop_i ?_
 intro R hR
 have key : ∀ (f : Nat) (d : Int), A.within ino f d = some b -> R (some ⟨bf, 0, none⟩) d ino σ := by
  intro f
  induction f with
  | zero => intro d h; cases h
  | succ f ih =>
   intro d h
   unfold AT.within at h
   refine hR _ _ _ _ ?_
   refine j_d ?_
   by_cases e : d = ino
   ·rw [if_pos e] at h; cases h
    refine br_f (by simpa using e) (br_f rfl ?_)
    have : (d == ino) = true := by simpa using e
    rw [this]; exact hK
   rw [if_neg e] at h
   refine br_t (by simpa using e) (ptr_i (rd_P (rdC_of q1 (by rfl)) (call_i (s_Root _ (app_I ?_)))))
   by_cases e1 : d = 1
   ·rw [if_pos e1] at h; cases h
    refine br_f (by simpa using e1) ?_
    have : (d == ino) = false := by simpa using e
    rw [this]; exact hK
   rw [if_neg e1] at h
   refine br_t (by simpa using e1) (ptr_i (rd_P (rdC_of q1 (by rfl)) (call_i (t_Up q2 _ (app_I ?_)))))
   exact ih _ h
 exact key f d hw
theorem s_over {N : Nat} (hI : Inv A) (hB : Bd N A) (hN : N <= 1000000000000) (hF : FsAt σ bf A B) (p q : Pl) (hq : A.isDir q.dir) {K : KH} (hK : ∀ σ', Gr σ σ' -> K (.int .i64 (A.overE p q)) σ') :
 callW Tryz.prog 113 [.pointer (some ⟨bf, 0, none⟩), .agg ⟨plC p⟩, .agg ⟨plC q⟩] K σ := by
 unfold plC
 refine c113 _ _ _ _ _ _ _ _ _ ?_
 unfold g113
 refine al_i ?_; intro b10 σ1 g1 e1 n1
 refine al_i ?_; intro b11 σ2 g2 e2 n2
 have k10 := g2.get e1
 have hg2 : Gr σ σ2 := g1.trans g2
 have F2 := hF.gr hg2
 refine rd_I (rdC_of k10 (by rfl)) (rd_I (rdC_of e2 (by rfl)) ?_)
 refine call_i (s_kind F2 _ (app_I (and_i (rdC_of e2 (by rfl)) (call_i (s_kind F2 _ (app_I ?_))))))
 unfold AT.overE at hK
 simp only at hK
 obtain ⟨x, hx13, hx12, hx1, hx2⟩ := hI.deep13 hq
 obtain ⟨wb, hwb⟩ := within_some p.ino hx13
 -- behind the first questions
 refine j_i (fun j => ∀ τ, Gr σ2 τ -> (if q.there = false then (0 : Int) else if A.kind q.ino = 2 /\ A.kind p.ino ≠ 2 then 7 else if A.kind p.ino = 2 /\ A.kind q.ino ≠ 2 then 8 else if (A.names q.ino).length > 0 then 20 else 0) = 0 -> j (some ⟨bf, 0, none⟩) (some ⟨b10, 0, none⟩) (some ⟨b11, 0, none⟩) (A.kind p.ino == 2) τ) ?_ ?_
 ·intro τ hg he
  rw [he] at hK
  simp only [ne_eq, not_true_eq_false, if_false] at hK
  have hgσ : Gr σ τ := hg2.trans hg
  have F := hF.gr hgσ
  have h10 := hg.get k10
  have h11 := hg.get e2
  refine j_i (fun j => ∀ b : Bool, b = decide (A.kind p.ino = 2 /\ (A.within p.ino 13 q.dir).getD false = true) -> j (some ⟨bf, 0, none⟩) (some ⟨b10, 0, none⟩) (some ⟨b11, 0, none⟩) b τ) ?_ ?_
  ·intro b hb
   by_cases hc : A.kind p.ino = 2 /\ (A.within p.ino 13 q.dir).getD false = true
   ·rw [if_pos hc] at hK
    exact br_t (by rw [hb]; simpa using hc) (hK τ hgσ)
   ·rw [if_neg hc] at hK
    refine br_f (by rw [hb]; simpa using hc) (ptr_i (rd_I (rdC_of h11 (by rfl)) (ptr_i (rd_I (rdC_of h10 (by rfl)) ?_))))
    refine call_i (s_deep F hx13 (by omega) (app_I (and_i (rdC_of h10 (by rfl)) ?_)))
    refine call_i (s_levelsF hI hB hN hF 14 p.ino (by omega) (fun d _ hd => by have := deep_bound hd; omega) hgσ ?_)
    intro τ' g'
    refine app_I ?_
    have hl := levels_le A 14 p.ino
    rw [wrap_id (x := x + A.levels 14 p.ino) (by omega) (by omega)]
    rw [hx13] at hK
    simp only [Option.getD_some] at hK
    by_cases h12 : x + A.levels 14 p.ino > 12
    ·rw [if_pos h12] at hK; exact br_t (by simpa using h12) (hK τ' (hgσ.trans g'))
    ·rw [if_neg h12] at hK; exact br_f (by simpa using h12) (hK τ' (hgσ.trans g'))
  ·intro j hj
   by_cases hk : A.kind p.ino = 2
   ·refine br_t (by simpa using hk) (ptr_i (rd_I (rdC_of h11 (by rfl)) (ptr_i (rd_I (rdC_of h10 (by rfl)) ?_))))
    refine call_i (s_withinF F 13 hwb (app_B (hj wb ?_)))
    rw [hwb]; simp [hk]
   ·exact br_f (by simpa using hk) (hj false (by simp [hk]))
 ·intro j hj
  refine rd_B (rdC_of e2 (by rfl)) ?_
  cases hth : q.there with
  | false => exact br_t rfl (hj σ2 (Gr.refl _) (by rw [hth]; rfl))
  | true =>
   rw [hth] at hK hj
   simp only [Bool.true_eq_false, if_false] at hK hj
   refine br_f rfl ?_
   refine j_i (fun j' => ∀ b : Bool, b = decide (A.kind q.ino = 2 /\ A.kind p.ino ≠ 2) -> j' (some ⟨bf, 0, none⟩) (some ⟨b10, 0, none⟩) (some ⟨b11, 0, none⟩) (A.kind p.ino == 2) (A.kind q.ino == 2) b σ2) ?_ ?_
   ·intro b hb
    by_cases h7 : A.kind q.ino = 2 /\ A.kind p.ino ≠ 2
    ·rw [if_pos h7] at hK
     exact br_t (by rw [hb]; simpa using h7) (hK σ2 hg2)
    rw [if_neg h7] at hK hj
    refine br_f (by rw [hb]; simpa using h7) ?_
    refine j_i (fun j' => ∀ b : Bool, b = decide (A.kind p.ino = 2 /\ A.kind q.ino ≠ 2) -> j' (some ⟨bf, 0, none⟩) (some ⟨b10, 0, none⟩) (some ⟨b11, 0, none⟩) (A.kind p.ino == 2) b σ2) ?_ ?_
    ·intro b hb
     by_cases h8 : A.kind p.ino = 2 /\ A.kind q.ino ≠ 2
     ·rw [if_pos h8] at hK
      exact br_t (by rw [hb]; simpa using h8) (hK σ2 hg2)
     rw [if_neg h8] at hK hj
     refine br_f (by rw [hb]; simpa using h8) ?_
     obtain ⟨bt, B0, q1, q2, q3, q4⟩ := id F2
     refine ptr_i (rd_P (rdC_of q1 (by rfl)) (ptr_i (rd_I (rdC_of e2 (by rfl)) ?_)))
     refine call_i (s_Names q2 _ (names_ok hI hB hN _) ?_)
     intro x' σ3 g3 hx'
     refine app_L ?_
     have hlen : x'.len = (A.names q.ino).length := hx'.1
     by_cases hl : (A.names q.ino).length > 0
     ·rw [if_pos hl] at hK
      exact br_t (by rw [hlen]; simp only [decide_eq_true_eq]; omega) (hK σ3 (hg2.trans g3))
     ·rw [if_neg hl] at hj
      exact br_f (by rw [hlen]; simp only [decide_eq_false_iff_not]; omega) (hj σ3 g3 rfl)
    ·intro j' hj'
     by_cases hk : A.kind p.ino = 2
     ·exact br_t (by simpa using hk) (hj' _ (by by_cases hq2 : A.kind q.ino = 2 <;> simp [hk, hq2]))
     ·exact br_f (by simpa using hk) (hj' _ (by simp [hk]))
   ·intro j' hj'
    by_cases hk : A.kind q.ino = 2
    ·exact br_t (by simpa using hk) (hj' _ (by by_cases hp2 : A.kind p.ino = 2 <;> simp [hk, hp2]))
    ·exact br_f (by simpa using hk) (hj' _ (by simp [hk]))
theorem s_Rename {N : Nat} (hI : Inv A) (hB : Bd N A) (hN : N <= 1000000000000) (hF : FsAt σ bf A B) (cwd src tq : ByteArray) {K : KH}
 (hK : ∀ σ' B', FsAt σ' bf (A.renameF cwd src tq).2 B' -> Sep σ B σ' B' -> K (.int .i64 (A.renameF cwd src tq).1) σ') :
 callW Tryz.prog 57 [.pointer (some ⟨bf, 0, none⟩), .string cwd, .string src, .string tq] K σ := by
 refine c57 _ _ _ _ ?_
 unfold g57
 refine call_i (s_both hF cwd src tq ?_)
 unfold AT.renameF at hK
 simp only at hK
 have hbz := both_z (A := A) (cwd := cwd) (src := src) (tq := tq)
 have hpl := fun he => locate_place hI cwd tq false he
 generalize A.both cwd src tq = r at hK hbz ⊢
 obtain ⟨re, p, q⟩ := r
 simp only at hK hbz ⊢
 unfold plC
 (refine app_of rfl ?_; try dsimp only)
 refine al_i ?_; intro b14 σ1 g1 e1 n1
 refine al_i ?_; intro b15 σ2 g2 e2 n2
 have n1415 : b14 ≠ b15 := ne_fr n2 (isSome_of e1)
 refine st_i2 (g2.get e1) sz_place (by rfl) (by rfl) ?_; intro σ3 p3
 refine st_i2 (p3.get n1415.symm e2) sz_place (by rfl) (by rfl) ?_; intro σ4 p4
 have f15 : σ b15 = none := none_of g1 n2
 have hg4 : Lng σ σ4 := ⟨((g1.trans g2).putF p3 n1).putF p4 f15⟩
 have k14 := p4.get n1415 p3.same
 have k15 := p4.same
 have F4 := hF.gr hg4.gr
 clear p3 p4 e1 e2 g1 g2
 by_cases he : re = 0
 case neg =>
  rw [if_pos he] at hK
  exact br_t (by simpa using he) (hK σ4 B F4 (Sep.gr hg4.gr))
 subst he
 simp only [ne_eq, not_true_eq_false, if_false] at hK
 obtain ⟨_, z2, _, z4⟩ := hbz rfl
 have Q := hpl z2
 rw [<- z4] at Q
 refine br_f rfl ?_
 refine j_i (fun j => ∀ b : Bool, b = (strEq p.name ⟨⟨[]⟩⟩ || strEq q.name ⟨⟨[]⟩⟩) -> j (some ⟨bf, 0, none⟩) (some ⟨b14, 0, none⟩) (some ⟨b15, 0, none⟩) b σ4) ?_ ?_
 case refine_2 =>
  intro j hj
  refine rd_S (rdC_of k14 (by rfl)) ?_
  cases h1 : strEq p.name ⟨⟨[]⟩⟩ with
  | true => exact br_t rfl (hj true (by rw [h1]; rfl))
  | false => exact br_f rfl (rd_S (rdC_of k15 (by rfl)) (hj _ (by rw [h1]; rfl)))
 intro b hb
 by_cases c2 : sEq p.name ⟨⟨[]⟩⟩ = true \/ sEq q.name ⟨⟨[]⟩⟩ = true
 ·rw [if_pos c2] at hK
  exact br_t (by rw [hb, <- sEq_eq, <- sEq_eq]; simpa using c2) (hK σ4 B F4 (Sep.gr hg4.gr))
 rw [if_neg c2] at hK
 refine br_f (by
  rw [hb, <- sEq_eq, <- sEq_eq]
  cases h1 : sEq p.name ⟨⟨[]⟩⟩ with
  | true => exact absurd (.inl h1) c2
  | false =>
   cases h2 : sEq q.name ⟨⟨[]⟩⟩ with
   | true => exact absurd (.inr h2) c2
   | false => rfl) ?_
 refine ptr_i (rd_B (rdC_of k14 (by rfl)) ?_)
 by_cases c3 : p.there = false
 ·rw [if_pos c3] at hK
  exact br_t (by rw [c3]; rfl) (hK σ4 B F4 (Sep.gr hg4.gr))
 rw [if_neg c3] at hK
 have c3' : p.there = true := by simpa using c3
 refine br_f (by rw [c3']; rfl) ?_
 refine j_i (fun j => ∀ b : Bool, b = decide (q.there = true /\ p.ino = q.ino) -> j (some ⟨bf, 0, none⟩) (some ⟨b14, 0, none⟩) (some ⟨b15, 0, none⟩) b σ4) ?_ ?_
 case refine_2 =>
  intro j hj
  refine ptr_i (rd_B (rdC_of k15 (by rfl)) ?_)
  cases h1 : q.there with
  | true =>
   refine br_t rfl (ptr_i (rd_I (rdC_of k14 (by rfl)) (ptr_i (rd_I (rdC_of k15 (by rfl)) (hj _ ?_)))))
   by_cases h2 : p.ino = q.ino <;> simp [h1, h2]
  | false => exact br_f rfl (hj false (by simp [h1]))
 intro b hb
 by_cases c4 : q.there = true /\ p.ino = q.ino
 ·rw [if_pos c4] at hK
  exact br_t (by rw [hb]; simpa using c4) (hK σ4 B F4 (Sep.gr hg4.gr))
 rw [if_neg c4] at hK
 refine br_f (by rw [hb]; simpa using c4) (ptr_i (rd_G (rdA_of' k14 (by rfl)) ?_))
 (refine app_of rfl ?_; try dsimp only)
 refine ptr_i (rd_G (rdA_of' k15 (by rfl)) ?_)
 (refine app_of rfl ?_; try dsimp only)
 refine call_i (s_over hI hB hN F4 p q Q.1 ?_)
 intro σ5 g5
 refine app_I ?_
 have hg5 : Lng σ σ5 := ⟨hg4.gr.trans g5⟩
 have k14' := g5.get k14
 have k15' := g5.get k15
 have F5 := hF.gr hg5.gr
 by_cases c5 : A.overE p q ≠ 0
 ·rw [if_pos c5] at hK
  exact br_t (by simpa using c5) (hK σ5 B F5 (Sep.gr hg5.gr))
 rw [if_neg c5] at hK
 refine br_f (by simpa using c5) ?_
 -- the entry moves
 have mv : ∀ (A' : AT) (σ6 : H) (B6 : Nat -> Prop), Inv A' -> FsAt σ6 bf A' B6 -> Sep σ B σ6 B6 -> σ6 b14 = some (.cells ⟨[.int .i64 p.dir, .string p.name, .int .i64 p.ino, .bool p.there]⟩ 142 (0, 0)) -> σ6 b15 = some (.cells ⟨[.int .i64 q.dir, .string q.name, .int .i64 q.ino, .bool q.there]⟩ 142 (0, 0)) ->
  (∀ σ' B', FsAt σ' bf (A'.moveR p.dir p.name q.dir q.name 14).2 B' -> Sep σ B σ' B' -> K (.int .i64 (A'.moveR p.dir p.name q.dir q.name 14).1) σ') ->
  (ptrW (some ⟨bf, 0, none⟩) (fun (b46 o47 : Nat) => rdT (rdC b46 o47) kP (fun (x48 : Option Addr) => ptrW (some ⟨b14, 0, none⟩) (fun (b49 o50 : Nat) => rdT (rdC b49 o50) kI (fun (x51 : Int) => ptrW (some ⟨b14, 0, none⟩) (fun (b52 o53 : Nat) => rdT (rdC b52 (o53 + 1)) kS (fun (x54 : ByteArray) => ptrW (some ⟨b15, 0, none⟩) (fun (b55 o56 : Nat) => rdT (rdC b55 o56) kI (fun (x57 : Int) => ptrW (some ⟨b15, 0, none⟩) (fun (b58 o59 : Nat) => rdT (rdC b58 (o59 + 1)) kS (fun (x60 : ByteArray) =>
   callT Tryz.prog 114 [.pointer x48, .int .i64 x51, .string x54, .int .i64 x57, .string x60] kI (fun (x61 : Int) => K (.int .i64 x61))))))))))))) σ6 := by
  intro A' σ6 B6 hI' F6 S6 h14 h15 hK'
  obtain ⟨bt, B0, q1, q2, q3, q4⟩ := id F6
  refine ptr_i (rd_P (rdC_of q1 (by rfl)) (ptr_i (rd_I (rdC_of h14 (by rfl)) (ptr_i (rd_S (rdC_of h14 (by rfl)) (ptr_i (rd_I (rdC_of h15 (by rfl)) (ptr_i (rd_S (rdC_of h15 (by rfl)) ?_)))))))))
  refine call_i (s_Move cAny q2 _ _ _ _ ?_ 14 ?_ ?_)
  ·intro j hj
   obtain ⟨_, _, _, _, _, m, hm, _⟩ := hI'.find hj
   rw [hm]; rfl
  ·intro hz
   obtain ⟨_, ht, _, _⟩ := moveE1_z hz
   obtain ⟨d, hd⟩ := hI'.deep q.dir ht
   obtain ⟨b', hb'⟩ := apart_some hI' ((A'.find p.dir p.name).getD 0) ht (deep_mono (deep_mono hd))
   rw [hb']; rfl
  ·intro σ7 B7 hT hS
   obtain ⟨B8, h1, h2⟩ := FsAt.lift q1 q3 q4 hT hS
   exact app_I (hK' σ7 B8 h1 (S6.trans h2))
 refine j_d (ptr_i (rd_B (rdC_of k15' (by rfl)) ?_))
 by_cases c6 : q.there = true
 case neg =>
  rw [if_neg c6] at hK
  exact br_f (by simpa using c6) (mv _ _ _ hI F5 (Sep.gr hg5.gr) k14' k15' hK)
 rw [if_pos c6] at hK
 obtain ⟨bt, B0, q1, q2, q3, q4⟩ := id F5
 refine br_t c6 (ptr_i (rd_P (rdC_of q1 (by rfl)) (ptr_i (rd_I (rdC_of k15' (by rfl)) (ptr_i (rd_S (rdC_of k15' (by rfl)) ?_))))))
 refine call_i (s_Unlink q2 _ _ ?_ hI.nodup ?_)
 ·intro j hj
  obtain ⟨_, _, _, _, _, m, hm, _⟩ := hI.find hj
  rw [hm]; rfl
 ·intro σ6 B6 hT hS
  obtain ⟨B7, h1, h2⟩ := FsAt.lift q1 q3 q4 hT hS
  have S7 : Sep σ B σ6 B7 := h2.of_gr hg5.gr
  refine app_I ?_
  by_cases c7 : (A.unlinkR q.dir q.name).1 ≠ 0
  ·rw [if_pos c7] at hK
   exact br_t (by simpa using c7) (hK σ6 B7 h1 S7)
  rw [if_neg c7] at hK
  have hB14 : ¬ B b14 := hF.fresh n1
  have hB15 : ¬ B b15 := hF.fresh f15
  exact br_f (by simpa using c7) (mv _ _ _ (unlinkR_ok hI hB (by omega) q.dir q.name).1 h1 S7 (h2 b14 _ k14' hB14).1 (h2 b15 _ k15' hB15).1 hK)
end
section
variable {σ : H}
theorem s_WriteNil (cwd path data : ByteArray) (more : Bool) {K : KH} (hK : ∀ σ', Gr σ σ' -> K (.int .i64 1) σ') : callW Tryz.prog 47 [.pointer none, .string cwd, .string path, .string data, .bool more] K σ := by
 refine c47 _ _ _ _ _ ?_
 unfold g47
 refine call_i (s_locateNil _ _ _ ?_); intro σ1 g1
 (refine app_of rfl ?_; try dsimp only)
 refine al_i ?_; intro b σ2 g2 e2 n2
 refine st_i2 e2 sz_place (by rfl) (by rfl) ?_; intro σ3 p3
 exact br_t rfl (hK σ3 ((g1.trans g2).putF p3 (none_of g1 n2)))
theorem s_RemoveNil (cwd path : ByteArray) {K : KH} (hK : ∀ σ', Gr σ σ' -> K (.int .i64 1) σ') : callW Tryz.prog 56 [.pointer none, .string cwd, .string path] K σ := by
 refine c56 _ _ _ ?_
 unfold g56
 refine call_i (s_locateNil _ _ _ ?_); intro σ1 g1
 (refine app_of rfl ?_; try dsimp only)
 refine al_i ?_; intro b σ2 g2 e2 n2
 refine st_i2 e2 sz_place (by rfl) (by rfl) ?_; intro σ3 p3
 exact br_t rfl (hK σ3 ((g1.trans g2).putF p3 (none_of g1 n2)))
theorem s_RealNil (cwd path : ByteArray) {K : KH} (hK : ∀ σ', Gr σ σ' -> K (.tuple ⟨[.string ⟨⟨[]⟩⟩, .int .i64 1]⟩) σ') : callW Tryz.prog 61 [.pointer none, .string cwd, .string path] K σ := by
 refine c61 _ _ _ ?_
 unfold g61
 refine call_i (s_locateNil _ _ _ ?_); intro σ1 g1
 (refine app_of rfl ?_; try dsimp only)
 refine al_i ?_; intro b σ2 g2 e2 n2
 refine st_i2 e2 sz_place (by rfl) (by rfl) ?_; intro σ3 p3
 exact br_t rfl (hK σ3 ((g1.trans g2).putF p3 (none_of g1 n2)))
theorem s_freshNil (cwd path : ByteArray) (f : Value) {K : KH} (hK : ∀ σ', Gr σ σ' -> K (.int .i64 1) σ') : callW Tryz.prog 94 [.pointer none, .string cwd, .string path, f] K σ := by
 refine c94 _ _ _ _ ?_
 unfold g94
 refine call_i (s_locateNil _ _ _ ?_); intro σ1 g1
 (refine app_of rfl ?_; try dsimp only)
 refine al_i ?_; intro b σ2 g2 e2 n2
 refine st_i2 e2 sz_place (by rfl) (by rfl) ?_; intro σ3 p3
 exact br_t rfl (hK σ3 ((g1.trans g2).putF p3 (none_of g1 n2)))
theorem s_MkdirNil (cwd path : ByteArray) {K : KH} (hK : ∀ σ', Gr σ σ' -> K (.int .i64 1) σ') : callW Tryz.prog 48 [.pointer none, .string cwd, .string path] K σ := by
 refine c48 _ _ _ ?_
 unfold g48
 refine al_i ?_; intro b σ1 g1 e1 n1
 refine rd_P (rdC_of e1 (by rfl)) (call_i (s_freshNil _ _ _ ?_)); intro σ2 g2
 exact app_I (hK σ2 (g1.trans g2))
theorem s_SymlinkNil (cwd target path : ByteArray) {K : KH} (hK : ∀ σ', Gr σ σ' -> K (.int .i64 1) σ') : callW Tryz.prog 41 [.pointer none, .string cwd, .string target, .string path] K σ := by
 refine c41 _ _ _ _ ?_
 unfold g41
 refine al_i ?_; intro b σ1 g1 e1 n1
 refine al_i ?_; intro b2 σ2 g2 e2 n2
 exact rd_P (rdC_of (g2.get e1) (by rfl)) (call_i (s_noneNil (app_B (br_t rfl (hK σ2 (g1.trans g2))))))
theorem s_ChmodNil (cwd path : ByteArray) (mode : Int) {K : KH} (hK : ∀ σ', Gr σ σ' -> K (.int .i64 1) σ') : callW Tryz.prog 58 [.pointer none, .string cwd, .string path, .int .i64 mode] K σ := by
 refine c58 _ _ _ _ ?_
 unfold g58
 refine al_i ?_; intro b σ1 g1 e1 n1
 refine al_i ?_; intro b2 σ2 g2 e2 n2
 exact rd_P (rdC_of (g2.get e1) (by rfl)) (call_i (s_noneNil (app_B (br_t rfl (hK σ2 (g1.trans g2))))))
theorem s_LayNil (path : ByteArray) (t : Tr) (y : Sl) {K : KH} (hK : ∀ σ', Gr σ σ' -> K (.int .i64 1) σ') : callW Tryz.prog 59 [.pointer none, .string path, .agg ⟨trC t y⟩] K σ := by
 refine c59 _ _ _ _ _ _ _ ?_
 unfold g59
 refine al_i ?_; intro b σ1 g1 e1 n1
 refine al_i ?_; intro b2 σ2 g2 e2 n2
 exact rd_P (rdC_of (g2.get e1) (by rfl)) (call_i (s_noneNil (app_B (br_t rfl (hK σ2 (g1.trans g2))))))
theorem s_UsedNil {K : KH} (hK : ∀ σ', Gr σ σ' -> K (.agg ⟨[.int .i64 0, .int .i64 0]⟩) σ') : callW Tryz.prog 39 [.pointer none] K σ := by
 refine c39 _ ?_
 unfold g39
 refine al_i ?_; intro b σ1 g1 e1 n1
 refine call_i (s_noneNil (app_B (br_t rfl ?_)))
 refine st_i2 e1 sz_Quota (by rfl) (by rfl) ?_; intro σ2 p2
 refine rd_G (rdA_of' p2.same (by rfl)) ?_
 (refine app_of rfl ?_; try dsimp only)
 exact hK σ2 (g1.putF p2 n1)
theorem s_ReadNil (cwd path : ByteArray) {K : KH} (hK : ∀ σ', Gr σ σ' -> K (.tuple ⟨[.string ⟨⟨[]⟩⟩, .int .i64 1]⟩) σ') : callW Tryz.prog 60 [.pointer none, .string cwd, .string path] K σ := by
 refine c60 _ _ _ ?_
 unfold g60
 refine al_i ?_; intro b σ1 g1 e1 n1
 refine call_i (s_withNil _ _ _ _ ?_); intro σ2 g2
 have k := g2.get e1
 refine app_I (rd_S (rdC_of k (by rfl)) ?_)
 refine st_i2 k sz_string (by rfl) (by rfl) ?_; intro σ3 p3
 refine rd_S (rdC_of p3.same (by rfl)) ?_
 exact hK σ3 ((g1.trans g2).putF p3 n1)
theorem s_ListNil (cwd path : ByteArray) {K : KH} (hK : ∀ σ', Gr σ σ' -> K (.tuple ⟨[.slice none 0 0, .int .i64 1]⟩) σ') : callW Tryz.prog 17 [.pointer none, .string cwd, .string path] K σ := by
 refine c17 _ _ _ ?_
 unfold g17
 refine al_i ?_; intro b σ1 g1 e1 n1
 refine al_i ?_; intro b2 σ2 g2 e2 n2
 refine rd_P (rdC_of (g2.get e1) (by rfl)) (call_i (s_withNil _ _ _ _ ?_)); intro σ3 g3
 have k := g3.get e2
 refine app_I (rd_L (rdC_of k (by rfl)) ?_)
 refine st_i2 k sz_strs (by rfl) (by rfl) ?_; intro σ4 p4
 refine rd_L (rdC_of p4.same (by rfl)) ?_
 exact hK σ4 (((g1.trans g2).trans g3).putF p4 (none_of g1 n2))
theorem s_bothNil (cwd src tq : ByteArray) {K : KH} (hK : ∀ σ', Gr σ σ' -> K (.tuple ⟨[.agg ⟨[.int .i64 0, .string ⟨⟨[]⟩⟩, .int .i64 0, .bool false]⟩, .agg ⟨[.int .i64 0, .string ⟨⟨[]⟩⟩, .int .i64 0, .bool false]⟩, .int .i64 1]⟩) σ') : callW Tryz.prog 109 [.pointer none, .string cwd, .string src, .string tq] K σ := by
 refine c109 _ _ _ _ ?_
 unfold g109
 refine al_i ?_; intro b5 σ1 g1 e1 n1
 refine al_i ?_; intro b6 σ2 g2 e2 n2
 refine j_d ?_
 refine call_i (s_locateNil _ _ _ ?_); intro σ3 g3
 (refine app_of rfl ?_; try dsimp only)
 have h56 : b6 ≠ b5 := Ne.symm (ne_fr n2 (isSome_of e1))
 have k5 := g3.get (g2.get e1)
 have k6 := g3.get e2
 have G3 : Gr σ σ3 := (g1.trans g2).trans g3
 have f6 : σ b6 = none := none_of g1 n2
 refine st_i2 k5 sz_place (by rfl) (by rfl) ?_; intro σ4 p4
 have q6 := p4.get h56 k6
 refine br_f rfl (ptr_i (rd_G (rdA_of' p4.same (by rfl)) ?_))
 (refine app_of rfl ?_; try dsimp only)
 refine ptr_i (rd_G (rdA_of' q6 (by rfl)) ?_)
 (refine app_of rfl ?_; try dsimp only)
 refine st_i2 p4.same sz_place (by rfl) (by rfl) ?_; intro σ5 p5
 have r6 := p5.get h56 q6
 refine and_i (rdA_of' r6 (by rfl)) ?_
 refine st_i2 r6 sz_place (by rfl) (by rfl) ?_; intro σ6 p6
 refine ptr_i (rd_G (rdA_of' (p6.get (Ne.symm h56) p5.same) (by rfl)) ?_)
 (refine app_of rfl ?_; try dsimp only)
 refine ptr_i (rd_G (rdA_of' p6.same (by rfl)) ?_)
 (refine app_of rfl ?_; try dsimp only)
 exact hK σ6 (((G3.putF p4 n1).putF p5 n1).putF p6 f6)
theorem s_RenameNil (cwd src tq : ByteArray) {K : KH} (hK : ∀ σ', Gr σ σ' -> K (.int .i64 1) σ') : callW Tryz.prog 57 [.pointer none, .string cwd, .string src, .string tq] K σ := by
 refine c57 _ _ _ _ ?_
 unfold g57
 refine call_i (s_bothNil _ _ _ ?_); intro σ1 g1
 (refine app_of rfl ?_; try dsimp only)
 refine al_i ?_; intro b σ2 g2 e2 n2
 refine al_i ?_; intro b2 σ3 g3 e3 n3
 refine st_i2 (g3.get e2) sz_place (by rfl) (by rfl) ?_; intro σ4 p4
 have k3 := p4.get (Ne.symm (ne_fr n3 (isSome_of e2))) e3
 refine st_i2 k3 sz_place (by rfl) (by rfl) ?_; intro σ5 p5
 exact br_t rfl (hK σ5 ((((g1.trans g2).trans g3).putF p4 (none_of g1 n2)).putF p5 (none_of (g1.trans g2) n3)))
theorem s_HardNil (cwd src tq : ByteArray) {K : KH} (hK : ∀ σ', Gr σ σ' -> K (.int .i64 1) σ') : callW Tryz.prog 55 [.pointer none, .string cwd, .string src, .string tq] K σ := by
 refine c55 _ _ _ _ ?_
 unfold g55
 refine call_i (s_bothNil _ _ _ ?_); intro σ1 g1
 (refine app_of rfl ?_; try dsimp only)
 refine al_i ?_; intro b σ2 g2 e2 n2
 refine al_i ?_; intro b2 σ3 g3 e3 n3
 refine st_i2 (g3.get e2) sz_place (by rfl) (by rfl) ?_; intro σ4 p4
 have k3 := p4.get (Ne.symm (ne_fr n3 (isSome_of e2))) e3
 refine st_i2 k3 sz_place (by rfl) (by rfl) ?_; intro σ5 p5
 exact br_t rfl (hK σ5 ((((g1.trans g2).trans g3).putF p4 (none_of g1 n2)).putF p5 (none_of (g1.trans g2) n3)))
end
end Go.Proofs.YtbjbeajbckcecaaGreatDoor

namespace Go.Proofs
open Go.Shelf
def Tryz.lays105_ren : Go.Shelf.Ren := ⟨fun | 105 => 52 | 212 => 105 | 99 => 106 | 165 => 97 | 166 => 80 | 170 => 107 | 169 => 81 | 263 => 174 | 264 => 175 | 206 => 176 | 240 => 144 | 241 => 169 | 276 => 202 | 277 => 219 | n => n, fun | 9 => 9 | 3 => 3 | 4 => 4 | 20 => 20 | 0 => 0 | 46 => 155 | 109 => 156 | 5 => 5 | 72 => 121 | 76 => 124 | 51 => 220 | 146 => 221 | 53 => 223 | 148 => 224 | 70 => 119 | 37 => 56 | 75 => 123 | 127 => 197 | 164 => 242 | 80 => 126 | n => n, fun | n => n⟩
theorem Tryz.lays105 : Go.Proofs.Lays.n105 Tryz.prog Tryz.lays105_ren := {
 mixed := by kernel_rfl
 f99 := Tryz.func106.trans (congrArg some (by kernel_rfl))
 f105 := Tryz.func52.trans (congrArg some (by kernel_rfl))
 f165 := Tryz.func97.trans (congrArg some (by kernel_rfl))
 f166 := Tryz.func80.trans (congrArg some (by kernel_rfl))
 f169 := Tryz.func81.trans (congrArg some (by kernel_rfl))
 f170 := Tryz.func107.trans (congrArg some (by kernel_rfl))
 f206 := Tryz.func176.trans (congrArg some (by kernel_rfl))
 f212 := Tryz.func105.trans (congrArg some (by kernel_rfl))
 f240 := Tryz.func144.trans (congrArg some (by kernel_rfl))
 f241 := Tryz.func169.trans (congrArg some (by kernel_rfl))
 f263 := Tryz.func174.trans (congrArg some (by kernel_rfl))
 f264 := Tryz.func175.trans (congrArg some (by kernel_rfl))
 f276 := Tryz.func202.trans (congrArg some (by kernel_rfl))
 f277 := Tryz.func219.trans (congrArg some (by kernel_rfl))
 t0 := Tryz.underlying0
 a0 := Tryz.isAgg0
 z0 := Tryz.sizeOf0
 v0 := Tryz.zeroValue0
 t3 := Tryz.underlying3
 a3 := Tryz.isAgg3
 z3 := Tryz.sizeOf3
 v3 := Tryz.zeroValue3
 t4 := Tryz.underlying4
 a4 := Tryz.isAgg4
 z4 := Tryz.sizeOf4
 v4 := Tryz.zeroValue4
 t5 := Tryz.underlying5
 a5 := Tryz.isAgg5
 z5 := Tryz.sizeOf5
 v5 := Tryz.zeroValue5
 t9 := Tryz.underlying9
 a9 := Tryz.isAgg9
 z9 := Tryz.sizeOf9
 v9 := Tryz.zeroValue9
 t20 := Tryz.underlying20
 a20 := Tryz.isAgg20
 z20 := Tryz.sizeOf20
 v20 := Tryz.zeroValue20
 t37 := Tryz.underlying56
 a37 := Tryz.isAgg56
 z37 := Tryz.sizeOf56
 v37 := Tryz.zeroValue56
 t46 := Tryz.underlying155
 a46 := Tryz.isAgg155
 z46 := Tryz.sizeOf155
 v46 := Tryz.zeroValue155
 t51 := Tryz.underlying220
 a51 := Tryz.isAgg220
 z51 := Tryz.sizeOf220
 v51 := Tryz.zeroValue220
 t53 := Tryz.underlying223
 a53 := Tryz.isAgg223
 z53 := Tryz.sizeOf223
 v53 := Tryz.zeroValue223
 t70 := Tryz.underlying119
 a70 := Tryz.isAgg119
 z70 := Tryz.sizeOf119
 v70 := Tryz.zeroValue119
 t72 := Tryz.underlying121
 a72 := Tryz.isAgg121
 z72 := Tryz.sizeOf121
 v72 := Tryz.zeroValue121
 t75 := Tryz.underlying123
 a75 := Tryz.isAgg123
 z75 := Tryz.sizeOf123
 v75 := Tryz.zeroValue123
 t76 := Tryz.underlying124
 a76 := Tryz.isAgg124
 z76 := Tryz.sizeOf124
 v76 := Tryz.zeroValue124
 t109 := Tryz.underlying156
 a109 := Tryz.isAgg156
 z109 := Tryz.sizeOf156
 v109 := Tryz.zeroValue156
 t127 := Tryz.underlying197
 a127 := Tryz.isAgg197
 z127 := Tryz.sizeOf197
 v127 := Tryz.zeroValue197
 t146 := Tryz.underlying221
 a146 := Tryz.isAgg221
 z146 := Tryz.sizeOf221
 v146 := Tryz.zeroValue221
 t148 := Tryz.underlying224
 a148 := Tryz.isAgg224
 z148 := Tryz.sizeOf224
 v148 := Tryz.zeroValue224
 t164 := Tryz.underlying242
 a164 := Tryz.isAgg242
 z164 := Tryz.sizeOf242
 v164 := Tryz.zeroValue242 }
end Go.Proofs

set_option maxRecDepth 100000
namespace Go.Proofs.YtbjbeajbckcecaaGreatDoor
open Go Go.HL Go.Wk
theorem rep_extra : Go.Proofs.Builder.Extra Tryz.prog Tryz.lays105_ren := { sizeBuilder := by kernel_rfl, liesBuilder := by kernel_rfl, t5 := Tryz.underlying5, a5 := Tryz.isAgg5, z5 := Tryz.sizeOf5, v5 := Tryz.zeroValue5, infoByte := by kernel_rfl, cellsByte := by kernel_rfl, sizeByte := by kernel_rfl, neB5 := by decide }
theorem s_Repeat (s : ByteArray) (c : Nat) (hc : c <= 1000000) (hs : s.size * c <= 1000000) {σ : H} {K : KH} (hK : K (.string ⟨⟨Lib.repeatL s.data.toList c⟩⟩) σ) : callW Tryz.prog 52 [.string s, .int .i64 (c : Int)] K σ := by
 intro w hw
 refine callsIn_wide.2 ((Any.strings_Repeat Tryz.lays105 rep_extra s c w (by omega) (by omega)).mono ?_)
 rintro en w' ⟨rfl, hb⟩
 exact ⟨_, rfl, σ, ext_below hw hb, hK⟩
end Go.Proofs.YtbjbeajbckcecaaGreatDoor

namespace Go.Wk
open Go Go.HL
variable {A : AT}
end Go.Wk

namespace Go.Wk
open Go Go.HL
def six : List ByteArray := [⟨⟨[97]⟩⟩, ⟨⟨[98]⟩⟩, ⟨⟨[99]⟩⟩, ⟨⟨[66]⟩⟩, ⟨⟨[97, 46, 98]⟩⟩, ⟨⟨[122]⟩⟩]
def pN : ByteArray := ⟨⟨[112]⟩⟩
def qN : ByteArray := ⟨⟨[113]⟩⟩
def rN : ByteArray := ⟨⟨[114]⟩⟩
def fl (data k : ByteArray) : AN := ⟨1, 420, data ++ k, 1, 0, []⟩
def drN (es : List (ByteArray × Int)) : AN := ⟨2, 493, ⟨⟨[]⟩⟩, 1, 1, es⟩
def DD (d : Int) : Prop := d = 2 \/ d = 3 \/ d = 4
structure Ords (data : ByteArray) (A : AT) (E : Int -> List (ByteArray × Int)) (m : Nat) : Prop where
 inv : Inv A
 bd : Bd (10 + m) A
 rt : A.get 1 = some ⟨2, 493, ⟨⟨[]⟩⟩, 1, 1, [(pN, 2), (qN, 3), (rN, 4)]⟩
 nd : ∀ d, DD d -> A.get d = some (drN (E d))
 he : ∀ d, DD d -> ∀ k i, lk k (E d) = some i -> k ∈ six /\ 4 < i /\ A.get i = some (fl data k)
 dj : ∀ d d' k k' i, DD d -> DD d' -> lk k (E d) = some i -> lk k' (E d') = some i -> d = d'
 qi : A.qi = 100
 qb : A.qb = 9000
 ui : A.ui <= 4 + m
 ub : A.ub <= 63 * m
variable {A : AT} {data : ByteArray} {E : Int -> List (ByteArray × Int)} {m : Nat}
theorem Ords.find (h : Ords data A E m) {d : Int} (hd : DD d) (k : ByteArray) : A.find d k = lk k (E d) := by
 unfold AT.find; rw [h.nd d hd]; rfl
theorem Ords.same (h : Ords data A E m) {A' : AT} {m' : Nat} (hi : Inv A') (hb : Bd (10 + m') A') (hg : ∀ j, A'.get j = A.get j) (q1 : A'.qi = A.qi) (q2 : A'.qb = A.qb) (u1 : A'.ui <= 4 + m') (u2 : A'.ub <= 63 * m') : Ords data A' E m' :=
 ⟨hi, hb, by rw [hg]; exact h.rt, fun d hd => by rw [hg]; exact h.nd d hd, fun d hd k i hk => by rw [hg]; exact h.he d hd k i hk, h.dj, by rw [q1]; exact h.qi, by rw [q2]; exact h.qb, u1, u2⟩
end Go.Wk

namespace Go.Wk
open Go Go.HL
variable {A : AT} {data : ByteArray} {E : Int -> List (ByteArray × Int)} {m : Nat}
def o0 : AT := newT 100 9000
def o1 : AT := (o0.mkdirF ⟨⟨[47]⟩⟩ pN).2
def o2 : AT := (o1.mkdirF ⟨⟨[47]⟩⟩ qN).2
def o3 : AT := (o2.mkdirF ⟨⟨[47]⟩⟩ rN).2
end Go.Wk

set_option maxRecDepth 100000
namespace Go.Proofs.YtbjbeajbckcecaaGreatDoor
open Go Go.HL Go.Wk
attribute [local irreducible] ptrW ifW brW andW rdT alW letJ stW muW biW vaW imW callT cvalT app callW invW callVW sizeT oW nilF oneK loopW rfW funW begW roundK exW idxW Gr Put
def eRow (es : List (ByteArray × Int)) : List (List Value) := (sortN (keysL es)).map fun k => [.string k, .int .i64 ((lk k es).getD 0 - 1)]
def ptrRow (A : AT) (cb : Int -> Nat) : List (List Value) := (List.range A.last.toNat).map fun (i : Nat) => [.pointer (if (A.get ((i : Int) + 1)).isSome then some ⟨cb ((i : Int) + 1), 0, none⟩ else none)]
def upR (n : AN) : Int := if n.kind = 2 then n.up - 1 else 0
def nodeO (n : AN) (y : Sl) : Obj := .cells ⟨[.int .i64 n.kind, .int .i64 n.mode, .string n.data, .slice y.base y.len y.cap, .int .i64 (upR n)]⟩ 131 (0, 0)
structure RfM where
 x : Sl
 cb : Int -> Nat
 ey : Int -> Sl
 w : Nat -> Option (Int × Bool)
structure RfIn (σ : H) (b : Nat) (A : AT) (M : RfM) : Prop where
 top : σ b = some (.cells ⟨[.int .i64 A.qi, .int .i64 A.qb, .slice M.x.base M.x.len M.x.cap]⟩ 134 (0, 0))
 tab : RowsOwn σ 128 1 (ptrRow A M.cb) M.x
 nod : ∀ i n, A.get i = some n -> σ (M.cb i) = some (nodeO n (M.ey i))
 ent : ∀ i n, A.get i = some n -> RowsOwn σ 245 2 (eRow n.ents) (M.ey i)
 wb : M.w b = some (0, false)
 wt : ∀ g, M.x.base = some ⟨g, 0, none⟩ -> M.w g = some (0, true)
 wn : ∀ i n, A.get i = some n -> M.w (M.cb i) = some (i, false)
 we : ∀ i n g, A.get i = some n -> (M.ey i).base = some ⟨g, 0, none⟩ -> M.w g = some (i, true)
 has : ∀ c, M.w c ≠ none -> σ c ≠ none
def RfAt (σ : H) (b : Nat) (A : AT) (D : Nat -> Prop) : Prop := ∃ M, RfIn σ b A M /\ ∀ c, D c ↔ M.w c ≠ none
theorem RfAt.has {σ : H} {b c : Nat} {A : AT} {D : Nat -> Prop} (h : RfAt σ b A D) (hc : D c) : σ c ≠ none := by
 obtain ⟨M, h1, h2⟩ := h
 exact h1.has c ((h2 c).1 hc)
section
variable {σ : H} {b : Nat} {A : AT} {M : RfM}
theorem RfIn.len (h : RfIn σ b A M) : M.x.len = A.last.toNat := by
 have := h.tab.1
 simpa [ptrRow] using this
end
def srows (l : List ByteArray) : List (List Value) := l.map fun s => [.string s]
theorem RfIn.keep {σ σ' : H} {b : Nat} {A : AT} {M : RfM} (h : RfIn σ b A M) (hk : ∀ c o, σ c = some o -> M.w c ≠ none -> σ' c = some o) : RfIn σ' b A M := by
 have hw : ∀ c r, M.w c = some r -> M.w c ≠ none := fun c r e => by rw [e]; simp
 refine ⟨hk _ _ h.top (hw _ _ h.wb), h.tab.keep fun g o hx hg => hk g o hg (hw _ _ (h.wt g hx)), fun i n hn => hk _ _ (h.nod i n hn) (hw _ _ (h.wn i n hn)), fun i n hn => (h.ent i n hn).keep fun g o hx hg => hk g o hg (hw _ _ (h.we i n g hn hx)), h.wb, h.wt, h.wn, h.we, fun c hc => ?_⟩
 have := h.has c hc
 cases ho : σ c with
 | none => exact absurd ho this
 | some o => rw [hk c o ho hc]; simp
def But (bh : Nat) (σ σ' : H) : Prop := ∀ c o, σ c = some o -> c ≠ bh -> σ' c = some o
theorem But.trans {bh : Nat} {σ σ' σ'' : H} (h : But bh σ σ') (k : But bh σ' σ'') : But bh σ σ'' := fun c o hc hn => k c o (h c o hc hn) hn
theorem But.put {bh b : Nat} {o : Obj} {σ σ' σ'' : H} (h : But bh σ σ') (hp : Put σ' b o σ'') (hn : σ b = none) : But bh σ σ'' := fun c o hc hne => hp.get (fun e => by rw [e, hn] at hc; cases hc) (h c o hc hne)
section
variable {A : AT} {N : Nat}
end
section
variable {σ : H} {b : Nat} {A : AT} {M : RfM} {N : Nat}
end
end Go.Proofs.YtbjbeajbckcecaaGreatDoor

namespace Go.Wk
open Go Go.HL
end Go.Wk

set_option maxRecDepth 100000
namespace Go.Proofs.YtbjbeajbckcecaaGreatDoor
open Go Go.HL Go.Wk
attribute [local irreducible] ptrW ifW brW andW rdT alW letJ stW muW biW vaW imW callT cvalT app callW invW callVW sizeT oW nilF oneK loopW rfW funW begW roundK exW idxW Gr Put
section
variable {σ : H} {b : Nat} {A : AT} {M : RfM} {N : Nat}
end
section
variable {σ σ' : H} {b : Nat} {A : AT} {M : RfM} {N : Nat}
theorem RfIn.congr (h : RfIn σ b A M) {A' : AT} (q1 : A'.qi = A.qi) (q2 : A'.qb = A.qb) (q3 : A'.last = A.last) (hg : ∀ j, A'.get j = A.get j) : RfIn σ b A' M := by
 refine ⟨?_, ?_, fun i n hn => h.nod i n (by rw [<- hg]; exact hn), fun i n hn => h.ent i n (by rw [<- hg]; exact hn), h.wb, h.wt, fun i n hn => h.wn i n (by rw [<- hg]; exact hn), fun i n g hn => h.we i n g (by rw [<- hg]; exact hn), h.has⟩
 ·rw [q1, q2]; exact h.top
 ·have : ptrRow A' M.cb = ptrRow A M.cb := by unfold ptrRow; rw [q3]; apply List.map_congr_left; intro k _; rw [hg]
  rw [this]; exact h.tab
end
section
variable {σ σ' : H} {b : Nat} {A : AT} {M : RfM} {N : Nat}
end
section
variable {σ σ' : H} {b : Nat} {A : AT} {M : RfM} {N : Nat}
end
section
variable {σ σ' : H} {b : Nat} {A : AT} {M : RfM} {N : Nat}
end
section
variable {σ σ' : H} {b : Nat} {A : AT} {M : RfM} {N : Nat}
end
section
variable {σ σ' : H} {b : Nat} {A : AT} {M : RfM} {N : Nat}
end
section
variable {σ σ' : H} {b : Nat} {A : AT} {M : RfM} {N : Nat}
end
section
variable {σ σ' : H} {b : Nat} {A : AT} {M : RfM} {N : Nat}
end
section
variable {σ σ' : H} {b : Nat} {A : AT} {M : RfM} {N : Nat}
end
section
variable {σ σ' : H} {b : Nat} {A : AT} {M : RfM} {N : Nat}
end
theorem srowsAt {τ : H} {L : List ByteArray} {y : Sl} (h : RowsAt τ 1 (srows L) y) {i : Nat} {s : ByteArray} (hi : L[i]? = some s) : ∃ g o, y.base = some ⟨g, o, none⟩ /\ rdC g (o + i * 1) τ = some (.string s) := by
 have hr : (srows L)[i]? = some [.string s] := by unfold srows; rw [List.getElem?_map, hi]; rfl
 obtain ⟨h1, h2 | ⟨g, o, cur, t, fz, h2, h3, h4⟩⟩ := h
 ·rw [h2] at hr; simp at hr
 ·refine ⟨g, o, h2, rdC_of h3 ?_⟩
  obtain ⟨_, h5⟩ := h4 i _ hr
  have : ((cur.drop (o + i * 1)).take 1)[0]? = some (.string s) := by rw [h5]; rfl
  rw [List.getElem?_take] at this
  simpa using this
theorem s_rfTexts {σ : H} {a c : List ByteArray} {x y : Sl} (ha : RowsAt σ 1 (srows a) x) (hc : RowsAt σ 1 (srows c) y) (hl : a.length <= 1000000000000) {K : KH} (hK : K (.bool (decide (a = c))) σ) :
 callW Tryz.prog 18 [.slice x.base x.len x.cap, .slice y.base y.len y.cap] K σ := by
 refine c18 _ _ ?_
 unfold g18
 have l1 : x.len = a.length := by have := ha.1; simpa [srows] using this
 have l2 : y.len = c.length := by have := hc.1; simpa [srows] using this
 by_cases hlen : a.length = c.length
 case neg =>
  have : decide (a = c) = false := by simp only [decide_eq_false_iff_not]; intro e; exact hlen (by rw [e])
  rw [this] at hK
  exact br_t (by simp; omega) hK
 refine br_f (by simp; omega) (loop_i ?_)
 intro R hR
 have key : ∀ (n i : Nat), n + i = a.length -> a.take i = c.take i -> R x y (i : Int) σ := by
  intro n
  induction n with
  | zero =>
   intro i hn ht
   refine hR _ _ _ _ ?_
   refine br_f (by simp only [decide_eq_false_iff_not]; omega) ?_
   rw [List.take_of_length_le (by omega), List.take_of_length_le (by omega)] at ht
   have : decide (a = c) = true := by simpa using ht
   rw [this] at hK; exact hK
  | succ n ih =>
   intro i hn ht
   obtain ⟨s, hs⟩ : ∃ s, a[i]? = some s := ⟨_, List.getElem?_eq_getElem (by omega)⟩
   obtain ⟨u, hu⟩ : ∃ u, c[i]? = some u := ⟨_, List.getElem?_eq_getElem (by omega)⟩
   obtain ⟨g1, o1, q1, q2⟩ := srowsAt ha hs
   obtain ⟨g2, o2, r1, r2⟩ := srowsAt hc hu
   have e0 : (i : Int).toNat = i := by omega
   refine hR _ _ _ _ ?_
   refine br_t (by simp only [decide_eq_true_eq]; omega) ?_
   rw [q1]
   refine ptr_i (if_i ⟨by omega, by omega⟩ (rd_S (by rw [e0]; exact q2) ?_))
   rw [r1]
   refine ptr_i (if_i ⟨by omega, by omega⟩ (rd_S (by rw [e0]; exact r2) ?_))
   by_cases e : s = u
   ·subst e
    refine br_f (by rw [strEq_iff.2 rfl]; rfl) ?_
    rw [wrapS (i := i) (by omega)]
    exact ih (i + 1) (by omega) (by rw [List.take_add_one, List.take_add_one, hs, hu, ht])
   ·have hne : strEq s u = false := by rw [Bool.eq_false_iff]; intro h; exact e (strEq_iff.1 h)
    refine br_t (by rw [hne]; rfl) ?_
    have : decide (a = c) = false := by
     simp only [decide_eq_false_iff_not]
     intro h; rw [h, hu] at hs; exact e (Option.some.inj hs).symm
    rw [this] at hK; exact hK
 exact key a.length 0 (by omega) (by simp)
end Go.Proofs.YtbjbeajbckcecaaGreatDoor

set_option maxRecDepth 100000
namespace Go.Wk
open Go Go.HL
def sl : ByteArray := ⟨⟨[47]⟩⟩
inductive FO
 | mk (c p : ByteArray) | wt (c p d : ByteArray) (m : Bool) | sy (t p : ByteArray) | hd (s t : ByteArray) | rv (p : ByteArray) | rn (s t : ByteArray) | ch (p : ByteArray) (m : Int) | ly (p : ByteArray) (t : Tr)
 | rd (p w : ByteArray) | us (i b : Int) | st (p : ByteArray) (n : Int) | li (p : ByteArray) (l : List ByteArray)
def FO.run (A : AT) : FO -> Int × AT
 | .mk c p => A.mkdirF c p
 | .wt c p d m => A.writeF c p d m
 | .sy t p => A.symlinkF sl t p
 | .hd s t => A.hardF sl s t
 | .rv p => A.removeF sl p
 | .rn s t => A.renameF sl s t
 | .ch p m => A.chmodF sl p m
 | .ly p t => A.layF p t
 | .rd p w => (if sEq (A.read sl p).2 w then (A.read sl p).1 else 99, A)
 | .us i b => (if A.ui = i /\ (b = -1 \/ A.ub = b) then 0 else 99, A)
 | .st p n => (if (A.stat sl p true).2.links = n then 0 else 99, A)
 | .li p l => (if (A.listF sl p).1 = 0 /\ (A.listF sl p).2.map (fun b => b.data.toList) = l.map (fun b => b.data.toList) then 0 else 99, A)
def FO.cost : FO -> Nat
 | .ly _ t => t.total + 1
 | _ => 1
def FO.okA : FO -> Prop
 | .wt _ _ d _ => d.size <= 1000
 | .ly _ t => t.total <= 100
 | _ => True
def gP (j : Nat) : ByteArray := ⟨⟨[47, 103] ++ (List.replicate j [47, 120]).flatten⟩⟩
def kLn : Nat -> ByteArray
 | 0 => ⟨⟨[100, 47, 102]⟩⟩
 | j + 1 => ⟨⟨[107, 48 + UInt8.ofNat j]⟩⟩
def tDir : Tr := .mk ⟨⟨[]⟩⟩ 2 false ⟨⟨[]⟩⟩ []
def tFil : Tr := .mk ⟨⟨[]⟩⟩ 1 false ⟨⟨[116]⟩⟩ []
def tF0 : Tr := .mk ⟨⟨[]⟩⟩ 1 false ⟨⟨[]⟩⟩ []
def tN0 : Tr := .mk ⟨⟨[]⟩⟩ 0 false ⟨⟨[]⟩⟩ []
def scrA (A : AT) : List (FO × Int) -> Nat -> AT
 | _, 0 => A
 | [], _ => A
 | x :: l, i + 1 => scrA (x.1.run A).2 l i
def scrOk : List (FO × Int) -> AT -> Bool
 | [], _ => true
 | x :: l, A => decide ((x.1.run A).1 = x.2) && scrOk l (x.1.run A).2
theorem scr_at : ∀ {l : List (FO × Int)} {A : AT} {i : Nat} {o : FO} {e : Int}, scrOk l A = true -> l[i]? = some (o, e) -> (o.run (scrA A l i)).1 = e /\ scrA A l (i + 1) = (o.run (scrA A l i)).2 := by
 intro l
 induction l with
 | nil => intro A i o e _ h; simp at h
 | cons x l ih =>
  intro A i o e h hi
  simp only [scrOk, Bool.and_eq_true, decide_eq_true_eq] at h
  cases i with
  | zero => simp at hi; subst hi; exact ⟨by simpa [scrA] using h.1, by simp [scrA]⟩
  | succ i => exact ih h.2 (by simpa using hi)
theorem run_ok {A : AT} {N : Nat} (h : Inv A) (hb : Bd N A) (hN : N <= 1000000) {o : FO} (ho : o.okA) : Inv (o.run A).2 /\ Bd (N + o.cost) (o.run A).2 := by
 have self : ∀ m, Inv A /\ Bd (N + m) A := fun m => ⟨h, hb.mono (by omega)⟩
 cases o with
 | mk c p => exact ⟨(mkdirF_ok h hb (by omega) c p).inv, (mkdirF_ok h hb (by omega) c p).bd⟩
 | wt c p d m => have := writeF_ok h hb (by omega) c p d m (by unfold FO.okA at ho; omega); exact ⟨this.inv, this.bd⟩
 | sy t p => exact ⟨(symlinkF_ok h hb (by omega) _ t p).inv, (symlinkF_ok h hb (by omega) _ t p).bd⟩
 | hd s t => exact ⟨(hardF_ok h hb (by omega) _ s t).inv, (hardF_ok h hb (by omega) _ s t).bd⟩
 | rv p => exact ⟨(removeF_ok h hb (by omega) _ p).inv, (removeF_ok h hb (by omega) _ p).bd.mono (by omega)⟩
 | rn s t => exact ⟨(renameF_inv h hb (by omega) _ s t).inv, (renameF_inv h hb (by omega) _ s t).bd⟩
 | ch p m => exact ⟨(chmodF_ok h hb _ p m).inv, (chmodF_ok h hb _ p m).bd.mono (by omega)⟩
 | ly p t => have := layF_ok h hb p t (by unfold FO.okA at ho; omega); exact ⟨this.inv, this.bd.mono (by simp only [FO.cost]; omega)⟩
 | rd p w => exact self _
 | us i b => exact self _
 | st p n => exact self _
 | li p l => exact self _
theorem scr_inv : ∀ {l : List (FO × Int)} {A : AT} {N : Nat}, Inv A -> Bd N A -> (∀ x ∈ l, x.1.okA /\ x.1.cost <= 100) -> l.length <= 500 -> N + 100 * l.length <= 1000000 -> ∀ i, Inv (scrA A l i) /\ Bd (N + 100 * l.length) (scrA A l i) := by
 intro l
 induction l with
 | nil => intro A N h hb _ _ hN i; cases i <;> exact ⟨h, hb.mono (by simp)⟩
 | cons x l ih =>
  intro A N h hb hx hl hN i
  simp only [List.length_cons] at hN hl ⊢
  cases i with
  | zero => exact ⟨h, hb.mono (by omega)⟩
  | succ i =>
   obtain ⟨h1, h2⟩ := hx x (List.mem_cons_self ..)
   obtain ⟨h3, h4⟩ := run_ok h hb (by omega) h1
   have := ih h3 (h4.mono (by omega : N + x.1.cost <= N + 100)) (fun y hy => hx y (List.mem_cons_of_mem _ hy)) (by omega) (by omega) i
   exact ⟨this.1, this.2.mono (by omega)⟩
def scr1 : List (FO × Int) := [
 (.mk ⟨⟨[47]⟩⟩ ⟨⟨[97]⟩⟩, 0),
 (.wt ⟨⟨[47, 97]⟩⟩ ⟨⟨[102]⟩⟩ ⟨⟨[104, 105]⟩⟩ false, 0),
 (.sy ⟨⟨[97, 47, 102]⟩⟩ ⟨⟨[108]⟩⟩, 0),
 (.sy ⟨⟨[109]⟩⟩ ⟨⟨[109]⟩⟩, 0),
 (.sy ⟨⟨[110, 101, 119]⟩⟩ ⟨⟨[110]⟩⟩, 0),
 (.wt ⟨⟨[47]⟩⟩ ⟨⟨[110]⟩⟩ ⟨⟨[120]⟩⟩ false, 0),
 (.rd ⟨⟨[110, 101, 119]⟩⟩ ⟨⟨[120]⟩⟩, 0),
 (.hd ⟨⟨[110, 101, 119]⟩⟩ ⟨⟨[97, 47, 104]⟩⟩, 0),
 (.wt ⟨⟨[47]⟩⟩ ⟨⟨[97, 47, 104]⟩⟩ ⟨⟨[121, 122]⟩⟩ false, 0),
 (.rd ⟨⟨[110]⟩⟩ ⟨⟨[121, 122]⟩⟩, 0),
 (.st ⟨⟨[97, 47, 104]⟩⟩ 2, 0),
 (.us 7 (11), 0),
 (.rv ⟨⟨[110, 101, 119]⟩⟩, 0),
 (.rd ⟨⟨[97, 47, 104]⟩⟩ ⟨⟨[121, 122]⟩⟩, 0),
 (.us 7 (-1), 0),
 (.rv ⟨⟨[97, 47, 104]⟩⟩, 0),
 (.us 6 (-1), 0),
 (.mk ⟨⟨[47]⟩⟩ ⟨⟨[100]⟩⟩, 0),
 (.mk ⟨⟨[47]⟩⟩ ⟨⟨[100, 47, 101]⟩⟩, 0),
 (.rn ⟨⟨[100]⟩⟩ ⟨⟨[100, 47, 101, 47, 120]⟩⟩, 2),
 (.rn ⟨⟨[97, 47, 102]⟩⟩ ⟨⟨[100]⟩⟩, 7),
 (.rn ⟨⟨[100]⟩⟩ ⟨⟨[97, 47, 102]⟩⟩, 8),
 (.rn ⟨⟨[100]⟩⟩ ⟨⟨[97]⟩⟩, 20),
 (.rn ⟨⟨[100, 47, 101]⟩⟩ ⟨⟨[103]⟩⟩, 0),
 (.rn ⟨⟨[97]⟩⟩ ⟨⟨[100]⟩⟩, 0),
 (.rd ⟨⟨[100, 47, 102]⟩⟩ ⟨⟨[104, 105]⟩⟩, 0),
 (.rd ⟨⟨[108]⟩⟩ ⟨⟨[]⟩⟩, 5),
 (.rn ⟨⟨[122, 122]⟩⟩ ⟨⟨[121]⟩⟩, 5),
 (.rn ⟨⟨[100]⟩⟩ ⟨⟨[100]⟩⟩, 0),
 (.rn ⟨⟨[47]⟩⟩ ⟨⟨[121]⟩⟩, 2),
 (.rn ⟨⟨[100]⟩⟩ ⟨⟨[46, 46]⟩⟩, 2),
 (.li ⟨⟨[47]⟩⟩ [⟨⟨[100]⟩⟩, ⟨⟨[103]⟩⟩, ⟨⟨[108]⟩⟩, ⟨⟨[109]⟩⟩, ⟨⟨[110]⟩⟩], 0),
 (.mk ⟨⟨[47]⟩⟩ ⟨⟨[100]⟩⟩, 6),
 (.mk ⟨⟨[47]⟩⟩ ⟨⟨[113, 47, 114]⟩⟩, 5),
 (.mk ⟨⟨[47]⟩⟩ ⟨⟨[]⟩⟩, 5),
 (.mk ⟨⟨[120]⟩⟩ ⟨⟨[121]⟩⟩, 5),
 (.mk ⟨⟨[47]⟩⟩ ⟨⟨List.replicate 57 110⟩⟩, 3),
 (.mk ⟨⟨[47]⟩⟩ ⟨⟨(List.replicate 128 [47, 97]).flatten⟩⟩, 3),
 (.mk ⟨⟨[47]⟩⟩ ⟨⟨[97, 0]⟩⟩, 2),
 (.rv ⟨⟨[46]⟩⟩, 2),
 (.rv ⟨⟨[100, 47, 46, 46]⟩⟩, 2),
 (.rv ⟨⟨[122, 122]⟩⟩, 5),
 (.sy ⟨⟨[]⟩⟩ ⟨⟨[115]⟩⟩, 2),
 (.hd ⟨⟨[100]⟩⟩ ⟨⟨[115]⟩⟩, 7),
 (.hd ⟨⟨[108]⟩⟩ ⟨⟨[115]⟩⟩, 2),
 (.ch ⟨⟨[100, 47, 102]⟩⟩ 512, 2),
 (.ch ⟨⟨[100, 47, 102]⟩⟩ 0, 0),
 (.ch ⟨⟨[122, 122]⟩⟩ 0, 5),
 (.mk ⟨⟨[47]⟩⟩ (gP 1), 0),
 (.mk ⟨⟨[47]⟩⟩ (gP 2), 0),
 (.mk ⟨⟨[47]⟩⟩ (gP 3), 0),
 (.mk ⟨⟨[47]⟩⟩ (gP 4), 0),
 (.mk ⟨⟨[47]⟩⟩ (gP 5), 0),
 (.mk ⟨⟨[47]⟩⟩ (gP 6), 0),
 (.mk ⟨⟨[47]⟩⟩ (gP 7), 0),
 (.mk ⟨⟨[47]⟩⟩ (gP 8), 0),
 (.mk ⟨⟨[47]⟩⟩ (gP 9), 0),
 (.mk ⟨⟨[47]⟩⟩ (gP 10), 0),
 (.mk ⟨⟨[47]⟩⟩ (gP 11), 3),
 (.rn ⟨⟨[103]⟩⟩ ⟨⟨[100, 47, 103]⟩⟩, 3),
 (.ly (gP 10 ++ ⟨⟨[47, 121]⟩⟩) tDir, 3),
 (.ly (gP 10 ++ ⟨⟨[47, 121]⟩⟩) tFil, 0),
 (.sy (kLn 0) (kLn 1), 0),
 (.sy (kLn 1) (kLn 2), 0),
 (.sy (kLn 2) (kLn 3), 0),
 (.sy (kLn 3) (kLn 4), 0),
 (.sy (kLn 4) (kLn 5), 0),
 (.sy (kLn 5) (kLn 6), 0),
 (.sy (kLn 6) (kLn 7), 0),
 (.sy (kLn 7) (kLn 8), 0),
 (.sy (kLn 8) (kLn 9), 0),
 (.rd ⟨⟨[107, 55]⟩⟩ ⟨⟨[104, 105]⟩⟩, 0),
 (.rd ⟨⟨[107, 56]⟩⟩ ⟨⟨[]⟩⟩, 9)]
def scr2 : List (FO × Int) := [
 (.wt ⟨⟨[47]⟩⟩ ⟨⟨[97]⟩⟩ ⟨⟨[97, 98, 99, 100]⟩⟩ false, 10),
 (.wt ⟨⟨[47]⟩⟩ ⟨⟨[97]⟩⟩ ⟨⟨[97, 98, 99]⟩⟩ false, 0),
 (.wt ⟨⟨[47]⟩⟩ ⟨⟨[97]⟩⟩ ⟨⟨[100]⟩⟩ true, 10),
 (.mk ⟨⟨[47]⟩⟩ ⟨⟨[98]⟩⟩, 10),
 (.rd ⟨⟨[97]⟩⟩ ⟨⟨[97, 98, 99]⟩⟩, 0),
 (.wt ⟨⟨[47]⟩⟩ ⟨⟨[97]⟩⟩ ⟨⟨[]⟩⟩ false, 0),
 (.ly ⟨⟨[47, 98]⟩⟩ tF0, 10),
 (.ly ⟨⟨[47, 97]⟩⟩ tF0, 6),
 (.ly ⟨⟨[47]⟩⟩ tF0, 6),
 (.ly ⟨⟨[47, 99]⟩⟩ tN0, 2)]
theorem scr1_ok : scrOk scr1 (newT 60 2000) = true := by decide +kernel
theorem scr2_ok : scrOk scr2 (newT 2 3) = true := by decide +kernel
def fA (i : Nat) : AT := scrA (newT 60 2000) scr1 i
def fB (i : Nat) : AT := scrA (newT 2 3) scr2 i
theorem okA_of {l : List (FO × Int)} (h : l.all (fun x => match x.1 with | .wt _ _ d _ => decide (d.size <= 1000) | .ly _ t => decide (t.total <= 99) | _ => true) = true) : ∀ x ∈ l, x.1.okA /\ x.1.cost <= 100 := by
 intro x hx
 have := List.all_eq_true.1 h x hx
 obtain ⟨o, e⟩ := x
 cases o with
 | wt c p d m => exact ⟨of_decide_eq_true (p := d.size <= 1000) this, by show (1 : Nat) <= 100; decide⟩
 | ly p t => have h := of_decide_eq_true (p := t.total <= 99) this; exact ⟨Nat.le_trans h (by decide), Nat.succ_le_succ h⟩
 | _ => exact ⟨trivial, by show (1 : Nat) <= 100; decide⟩
theorem fA_in (i : Nat) : Inv (fA i) /\ Bd (1 + 100 * scr1.length) (fA i) := scr_inv (newT_ok rfl).1 (newT_ok rfl).2 (okA_of (by decide +kernel)) (by decide +kernel) (by decide +kernel) i
theorem fB_in (i : Nat) : Inv (fB i) /\ Bd (1 + 100 * scr2.length) (fB i) := scr_inv (newT_ok rfl).1 (newT_ok rfl).2 (okA_of (by decide +kernel)) (by decide +kernel) (by decide +kernel) i
theorem scr_g : ∀ j, j < 10 -> scr1[48 + j]? = some (.mk sl (gP (j + 1)), 0)
 | 0, _ => rfl
 | 1, _ => rfl
 | 2, _ => rfl
 | 3, _ => rfl
 | 4, _ => rfl
 | 5, _ => rfl
 | 6, _ => rfl
 | 7, _ => rfl
 | 8, _ => rfl
 | 9, _ => rfl
theorem scr_k : ∀ j, j < 9 -> scr1[62 + j]? = some (.sy (kLn j) (kLn (j + 1)), 0)
 | 0, _ => rfl
 | 1, _ => rfl
 | 2, _ => rfl
 | 3, _ => rfl
 | 4, _ => rfl
 | 5, _ => rfl
 | 6, _ => rfl
 | 7, _ => rfl
 | 8, _ => rfl
end Go.Wk

set_option maxRecDepth 100000
namespace Go.Proofs.YtbjbeajbckcecaaGreatDoor
open Go Go.HL Go.Wk
attribute [local irreducible] ptrW ifW brW andW rdT alW letJ stW muW biW vaW imW callT cvalT app callW invW callVW sizeT oW nilF oneK loopW rfW funW begW roundK exW idxW Gr Put
structure Scr (l : List (FO × Int)) (A0 : AT) : Prop where
 ok : scrOk l A0 = true
 inv : ∀ i, Inv (scrA A0 l i) /\ Bd 1000000 (scrA A0 l i)
section
variable {l : List (FO × Int)} {A0 : AT} {σ : H} {bf : Nat} {B : Nat -> Prop} {e : Int}
theorem q_Mkdir (S : Scr l A0) (i : Nat) {c p : ByteArray} {F : Int -> H -> Prop} (hF : FsAt σ bf (scrA A0 l i) B) (h : l[i]? = some (.mk c p, e)) (hK : ∀ σ' B', FsAt σ' bf (scrA A0 l (i + 1)) B' -> Sep σ B σ' B' -> F e σ') : callT Tryz.prog 48 [.pointer (some ⟨bf, 0, none⟩), .string c, .string p] kI F σ := by
 obtain ⟨h3, h4⟩ := scr_at S.ok h
 replace h3 : ((scrA A0 l i).mkdirF c p).1 = e := h3
 exact call_i (s_Mkdir (S.inv i).1 (S.inv i).2 (by decide) hF c p fun σ' B' h1 h2 => by rw [h3]; exact app_I (hK σ' B' (by rw [h4]; exact h1) h2))
theorem q_Write (S : Scr l A0) (i : Nat) {c p d : ByteArray} {m : Bool} {F : Int -> H -> Prop} (hF : FsAt σ bf (scrA A0 l i) B) (h : l[i]? = some (.wt c p d m, e)) (hd : d.size <= 1000) (hK : ∀ σ' B', FsAt σ' bf (scrA A0 l (i + 1)) B' -> Sep σ B σ' B' -> F e σ') : callT Tryz.prog 47 [.pointer (some ⟨bf, 0, none⟩), .string c, .string p, .string d, .bool m] kI F σ := by
 obtain ⟨h3, h4⟩ := scr_at S.ok h
 replace h3 : ((scrA A0 l i).writeF c p d m).1 = e := h3
 exact call_i (s_Write (S.inv i).1 (S.inv i).2 (by decide) hF c p d m (by omega) fun σ' B' h1 h2 => by rw [h3]; exact app_I (hK σ' B' (by rw [h4]; exact h1) h2))
theorem q_Symlink (S : Scr l A0) (i : Nat) {t p : ByteArray} {F : Int -> H -> Prop} (hF : FsAt σ bf (scrA A0 l i) B) (h : l[i]? = some (.sy t p, e)) (hK : ∀ σ' B', FsAt σ' bf (scrA A0 l (i + 1)) B' -> Sep σ B σ' B' -> F e σ') : callT Tryz.prog 41 [.pointer (some ⟨bf, 0, none⟩), .string ⟨⟨[47]⟩⟩, .string t, .string p] kI F σ := by
 obtain ⟨h3, h4⟩ := scr_at S.ok h
 replace h3 : ((scrA A0 l i).symlinkF ⟨⟨[47]⟩⟩ t p).1 = e := h3
 exact call_i (s_Symlink (S.inv i).1 (S.inv i).2 (by decide) hF _ t p fun σ' B' h1 h2 => by rw [h3]; exact app_I (hK σ' B' (by rw [h4]; exact h1) h2))
theorem q_Hard (S : Scr l A0) (i : Nat) {t p : ByteArray} {F : Int -> H -> Prop} (hF : FsAt σ bf (scrA A0 l i) B) (h : l[i]? = some (.hd t p, e)) (hK : ∀ σ' B', FsAt σ' bf (scrA A0 l (i + 1)) B' -> Sep σ B σ' B' -> F e σ') : callT Tryz.prog 55 [.pointer (some ⟨bf, 0, none⟩), .string ⟨⟨[47]⟩⟩, .string t, .string p] kI F σ := by
 obtain ⟨h3, h4⟩ := scr_at S.ok h
 replace h3 : ((scrA A0 l i).hardF ⟨⟨[47]⟩⟩ t p).1 = e := h3
 exact call_i (s_Hard hF _ t p fun σ' B' h1 h2 => by rw [h3]; exact app_I (hK σ' B' (by rw [h4]; exact h1) h2))
theorem q_Remove (S : Scr l A0) (i : Nat) {p : ByteArray} {F : Int -> H -> Prop} (hF : FsAt σ bf (scrA A0 l i) B) (h : l[i]? = some (.rv p, e)) (hK : ∀ σ' B', FsAt σ' bf (scrA A0 l (i + 1)) B' -> Sep σ B σ' B' -> F e σ') : callT Tryz.prog 56 [.pointer (some ⟨bf, 0, none⟩), .string ⟨⟨[47]⟩⟩, .string p] kI F σ := by
 obtain ⟨h3, h4⟩ := scr_at S.ok h
 replace h3 : ((scrA A0 l i).removeF ⟨⟨[47]⟩⟩ p).1 = e := h3
 exact call_i (s_Remove (S.inv i).1 (S.inv i).2 (by decide) hF _ p fun σ' B' h1 h2 => by rw [h3]; exact app_I (hK σ' B' (by rw [h4]; exact h1) h2))
theorem q_Rename (S : Scr l A0) (i : Nat) {t p : ByteArray} {F : Int -> H -> Prop} (hF : FsAt σ bf (scrA A0 l i) B) (h : l[i]? = some (.rn t p, e)) (hK : ∀ σ' B', FsAt σ' bf (scrA A0 l (i + 1)) B' -> Sep σ B σ' B' -> F e σ') : callT Tryz.prog 57 [.pointer (some ⟨bf, 0, none⟩), .string ⟨⟨[47]⟩⟩, .string t, .string p] kI F σ := by
 obtain ⟨h3, h4⟩ := scr_at S.ok h
 replace h3 : ((scrA A0 l i).renameF ⟨⟨[47]⟩⟩ t p).1 = e := h3
 exact call_i (s_Rename (S.inv i).1 (S.inv i).2 (by decide) hF _ t p fun σ' B' h1 h2 => by rw [h3]; exact app_I (hK σ' B' (by rw [h4]; exact h1) h2))
theorem q_Chmod (S : Scr l A0) (i : Nat) {p : ByteArray} {m : Int} {F : Int -> H -> Prop} (hF : FsAt σ bf (scrA A0 l i) B) (h : l[i]? = some (.ch p m, e)) (hK : ∀ σ' B', FsAt σ' bf (scrA A0 l (i + 1)) B' -> Sep σ B σ' B' -> F e σ') : callT Tryz.prog 58 [.pointer (some ⟨bf, 0, none⟩), .string ⟨⟨[47]⟩⟩, .string p, .int .i64 m] kI F σ := by
 obtain ⟨h3, h4⟩ := scr_at S.ok h
 replace h3 : ((scrA A0 l i).chmodF ⟨⟨[47]⟩⟩ p m).1 = e := h3
 exact call_i (s_Chmod hF _ p m fun σ' B' h1 h2 => by rw [h3]; exact app_I (hK σ' B' (by rw [h4]; exact h1) h2))
theorem q_Lay (S : Scr l A0) (i : Nat) {p n d : ByteArray} {k : Int} {x : Bool} {F : Int -> H -> Prop} (hF : FsAt σ bf (scrA A0 l i) B) (h : l[i]? = some (.ly p (.mk n k x d []), e)) (hd : d.size + n.size <= 1000) (hK : ∀ σ' B', FsAt σ' bf (scrA A0 l (i + 1)) B' -> Sep σ B σ' B' -> F e σ') : callT Tryz.prog 59 [.pointer (some ⟨bf, 0, none⟩), .string p, .agg ⟨[.string n, .int .i64 k, .bool x, .string d, .slice none 0 0]⟩] kI F σ := by
 obtain ⟨h3, h4⟩ := scr_at S.ok h
 replace h3 : ((scrA A0 l i).layF p (.mk n k x d [])).1 = e := h3
 refine call_i (s_Lay (.mk n k x d []) ⟨none, 0, 0⟩ (τ := fun _ => none) p (S.inv i).1 (S.inv i).2 ?_ hF ⟨gr_empty σ, fun b o hb => (by cases hb)⟩ SlAt.nil fun σ' B' h1 h2 => by rw [h3]; exact app_I (hK σ' B' (by rw [h4]; exact h1) h2))
 simp only [Tr.total, Tr.totalRow]; omega
theorem q_reads (S : Scr l A0) (i : Nat) {p w : ByteArray} {F : Bool -> H -> Prop} (hF : FsAt σ bf (scrA A0 l i) B) (h : l[i]? = some (.rd p w, e)) (he : e ≠ 99) (hK : FsAt σ bf (scrA A0 l (i + 1)) B -> F true σ) : callT Tryz.prog 54 [.pointer (some ⟨bf, 0, none⟩), .string ⟨⟨[47]⟩⟩, .string p, .string w, .int .i64 e] kB F σ := by
 obtain ⟨h3, h4⟩ := scr_at S.ok h
 refine call_i (s_reads8 hF _ p w e (app_B ?_))
 have h3' : (if sEq ((scrA A0 l i).read sl p).2 w then ((scrA A0 l i).read sl p).1 else 99) = e := h3
 cases hs : sEq ((scrA A0 l i).read sl p).2 w with
 | false => rw [hs] at h3'; exact absurd h3'.symm he
 | true =>
  rw [hs, if_pos rfl] at h3'
  rw [sEq_eq] at hs
  unfold sl at h3' hs
  rw [hs, h3', beq_self_eq_true]
  exact hK (by rw [h4]; exact hF)
theorem q_Used (S : Scr l A0) (i : Nat) {a b : Int} {F : Int -> Int -> H -> Prop} (hF : FsAt σ bf (scrA A0 l i) B) (h : l[i]? = some (.us a b, 0)) (hK : ∀ c, (b = -1 \/ c = b) -> FsAt σ bf (scrA A0 l (i + 1)) B -> F a c σ) : callT Tryz.prog 39 [.pointer (some ⟨bf, 0, none⟩)] (.one (.agg [(.int .i64), (.int .i64)])) F σ := by
 obtain ⟨h3, h4⟩ := scr_at S.ok h
 refine call_i (s_Used hF ?_)
 have h3' : (if (scrA A0 l i).ui = a /\ (b = -1 \/ (scrA A0 l i).ub = b) then (0 : Int) else 99) = 0 := h3
 by_cases hc : (scrA A0 l i).ui = a /\ (b = -1 \/ (scrA A0 l i).ub = b)
 ·rw [hc.1]
  (refine app_of rfl ?_; try dsimp only)
  exact hK _ hc.2 (by rw [h4]; exact hF)
 ·rw [if_neg hc] at h3'; cases h3'
end
theorem scrF : Scr scr1 (newT 60 2000) := ⟨scr1_ok, fun i => ⟨(fA_in i).1, (fA_in i).2.mono (by decide +kernel)⟩⟩
theorem scrG : Scr scr2 (newT 2 3) := ⟨scr2_ok, fun i => ⟨(fB_in i).1, (fB_in i).2.mono (by decide +kernel)⟩⟩
theorem w4_scr : w4 = scrA (newT 60 2000) scr1 4 := by rfl
theorem rep57 : (⟨⟨Lib.repeatL (⟨⟨[110]⟩⟩ : ByteArray).data.toList 57⟩⟩ : ByteArray) = ⟨⟨List.replicate 57 110⟩⟩ := by rfl
theorem rep128 : (⟨⟨Lib.repeatL (⟨⟨[47, 97]⟩⟩ : ByteArray).data.toList 128⟩⟩ : ByteArray) = ⟨⟨(List.replicate 128 [47, 97]).flatten⟩⟩ := by rfl
theorem gP_succ (j : Nat) : gP j ++ ⟨⟨[47, 120]⟩⟩ = gP (j + 1) := by
 refine bytes_ext ?_
 rw [app_data]
 show ([47, 103] ++ (List.replicate j [47, 120]).flatten) ++ [47, 120] = [47, 103] ++ (List.replicate (j + 1) [47, 120]).flatten
 rw [List.replicate_succ', List.flatten_append, List.append_assoc]; rfl
theorem gP_size (j : Nat) : (gP j).size = 2 + j * 2 := by
 rw [size_list]
 show ([47, 103] ++ (List.replicate j [47, 120]).flatten : List UInt8).length = _
 rw [List.length_append, List.length_flatten, List.map_replicate, List.sum_replicate_nat]; rfl
end Go.Proofs.YtbjbeajbckcecaaGreatDoor

