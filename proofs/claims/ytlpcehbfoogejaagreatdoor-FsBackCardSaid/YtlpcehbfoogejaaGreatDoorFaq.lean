/- A part of the proof: What is renamed, and renamed back, is as it was. -/
import Derived.Test.YtlpcehbfoogejaaGreatDoorFap
/- A FILE SYSTEM over a table of inodes, as plain data: no program in sight. -/
namespace Go.Wk
open Go Go.HL
def leB : List UInt8 → List UInt8 → Bool
  | [], _ => true
  | _ :: _, [] => false
  | a :: r, b :: s => match Nat.blt a.toNat b.toNat with
    | true => true
    | false => match Nat.blt b.toNat a.toNat with
      | true => false
      | false => leB r s
def insB (x : List UInt8) : List (List UInt8) → List (List UInt8)
  | [] => [x]
  | y :: r => match leB x y with
    | true => x :: y :: r
    | false => y :: insB x r
def sortB : List (List UInt8) → List (List UInt8)
  | [] => []
  | x :: r => insB x (sortB r)
def sortN (l : List ByteArray) : List ByteArray := (sortB (l.map fun s => s.data.toList)).map fun x => (⟨⟨x⟩⟩ : ByteArray)
theorem leB_iff : ∀ x y : List UInt8, leB x y = true ↔ x ≤ y := by
  intro x
  induction x with
  | nil => intro y; simp [leB]
  | cons a r ih =>
    intro y
    cases y with
    | nil => simp [leB]
    | cons b s =>
      rw [List.cons_le_cons_iff]
      unfold leB
      cases h1 : Nat.blt a.toNat b.toNat with
      | true =>
        have : a < b := UInt8.lt_iff_toNat_lt.2 (by simpa [Nat.blt_eq] using h1)
        simp [this]
      | false =>
        have h1' : ¬ a < b := by
          intro h; have : Nat.blt a.toNat b.toNat = true := by rw [Nat.blt_eq]; exact h
          rw [h1] at this; cases this
        cases h2 : Nat.blt b.toNat a.toNat with
        | true =>
          have : b < a := UInt8.lt_iff_toNat_lt.2 (by simpa [Nat.blt_eq] using h2)
          simp only [Bool.false_eq_true, false_iff, not_or, not_and]
          refine ⟨h1', fun e => ?_⟩
          subst e; exact absurd this (UInt8.lt_irrefl _)
        | false =>
          have h2' : ¬ b < a := by
            intro h; have : Nat.blt b.toNat a.toNat = true := by rw [Nat.blt_eq]; exact h
            rw [h2] at this; cases this
          have : a = b := UInt8.le_antisymm (UInt8.not_lt.1 h2') (UInt8.not_lt.1 h1')
          simp [this, ih]
theorem insB_perm (x : List UInt8) : ∀ l, (insB x l).Perm (x :: l) := by
  intro l
  induction l with
  | nil => exact List.Perm.refl _
  | cons y r ih =>
    unfold insB
    cases leB x y with
    | true => exact List.Perm.refl _
    | false => exact (ih.cons y).trans (List.Perm.swap x y r)
theorem sortB_perm : ∀ l, (sortB l).Perm l := by
  intro l
  induction l with
  | nil => exact List.Perm.refl _
  | cons x r ih => exact (insB_perm x _).trans (ih.cons x)
theorem insB_sorted {x : List UInt8} : ∀ {l : List (List UInt8)}, l.Pairwise (· ≤ ·) → (insB x l).Pairwise (· ≤ ·) := by
  intro l
  induction l with
  | nil => intro _; simp [insB]
  | cons y r ih =>
    intro h
    obtain ⟨h1, h2⟩ := List.pairwise_cons.1 h
    unfold insB
    cases hb : leB x y with
    | true =>
      have hxy := (leB_iff x y).1 hb
      refine List.pairwise_cons.2 ⟨fun z hz => ?_, h⟩
      rcases List.mem_cons.1 hz with e | e
      · rw [e]; exact hxy
      · exact List.le_trans hxy (h1 z e)
    | false =>
      have hyx : y ≤ x := by
        have : ¬ x ≤ y := by rw [← leB_iff, hb]; simp
        exact (List.le_total x y).resolve_left this
      refine List.pairwise_cons.2 ⟨fun z hz => ?_, ih h2⟩
      rcases List.mem_cons.1 ((insB_perm x r).mem_iff.1 hz) with e | e
      · rw [e]; exact hyx
      · exact h1 z e
theorem sortB_sorted : ∀ l, (sortB l).Pairwise (· ≤ ·) := by
  intro l
  induction l with
  | nil => exact List.Pairwise.nil
  | cons x r ih => exact insB_sorted ih
theorem sortB_merge (l : List (List UInt8)) : l.mergeSort (fun x y => decide (x ≤ y)) = sortB l := by
  have h1 := List.pairwise_mergeSort (le := fun x y : List UInt8 => decide (x ≤ y)) (by intro a b c h1 h2; simp only [decide_eq_true_eq] at *; exact List.le_trans h1 h2) (by intro a b; simp only [Bool.or_eq_true, decide_eq_true_eq]; exact List.le_total a b) l
  have h1' : (l.mergeSort (fun x y => decide (x ≤ y))).Pairwise (· ≤ ·) := h1.imp (by intro a b h; simpa using h)
  refine List.Perm.eq_of_pairwise (le := (· ≤ ·)) ?_ h1' (sortB_sorted l) ((List.mergeSort_perm l _).trans (sortB_perm l).symm)
  intro a b _ _ h1 h2; exact List.le_antisymm h1 h2
/-- the names in a directory, rising -/
def AT.names (A : AT) (dir : Int) : List ByteArray := match A.get dir with
  | none => []
  | some n => sortN (keysL n.ents)
/-- a place -/
structure Pl where
  dir : Int
  name : ByteArray
  ino : Int
  there : Bool
def Pl.z : Pl := ⟨0, ⟨⟨[]⟩⟩, 0, false⟩
/-- the parts between strokes -/
def splitL (c : UInt8) : List UInt8 → List (List UInt8)
  | [] => [[]]
  | x :: r => match x == c with
    | true => [] :: splitL c r
    | false => match splitL c r with
      | [] => [[x]]
      | h :: t => (x :: h) :: t
def okPart (s : ByteArray) : Bool := !sEq s ⟨⟨[]⟩⟩ && !sEq s ⟨⟨[46]⟩⟩
def partsB (path : ByteArray) : List ByteArray := ((splitL 47 path.data.toList).map fun l => (⟨⟨l⟩⟩ : ByteArray)).filter okPart
def mayE (path : ByteArray) : Int := if sEq path ⟨⟨[]⟩⟩ then 5 else if path.size > 255 then 3 else if hasNul path then 2 else 0
def headIs (c : UInt8) (s : ByteArray) : Bool := match s.data.toList with
  | [] => false
  | x :: _ => x == c
def AT.data (A : AT) (i : Int) : ByteArray := ((A.get i).map (·.data)).getD ⟨⟨[]⟩⟩
/-- the names of a path, one behind the other -/
def AT.steps (A : AT) (go : Int → ByteArray → Int → Int × Pl × Int) (follow : Bool) : List ByteArray → Pl → Int → Int × Pl × Int
  | [], p, h => (0, p, h)
  | name :: rest, p, h =>
    if p.there = false then (5, Pl.z, h)
    else if A.kind p.ino ≠ 2 then (8, Pl.z, h)
    else if sEq name ⟨⟨[46, 46]⟩⟩ = true then AT.steps A go follow rest ⟨A.upOf p.ino, ⟨⟨[]⟩⟩, A.upOf p.ino, true⟩ h
    else if name.size > 56 then (3, Pl.z, h)
    else
      let o := A.find p.ino name
      let q : Pl := ⟨p.ino, name, o.getD 0, o.isSome⟩
      if o.isSome = false ∨ (rest.isEmpty && !follow) = true ∨ A.kind q.ino ≠ 3 then AT.steps A go follow rest q h
      else if h - 1 < 0 then (9, Pl.z, h - 1)
      else
        let r := go q.dir (A.data q.ino) (h - 1)
        if r.1 ≠ 0 then (r.1, Pl.z, r.2.2) else AT.steps A go follow rest r.2.1 r.2.2
def AT.walk (A : AT) : Nat → Int → ByteArray → Bool → Int → Int × Pl × Int
  | 0, _, _, _, h => (9, Pl.z, h)
  | f + 1, at_, path, follow, h =>
    if mayE path ≠ 0 then (mayE path, Pl.z, h)
    else
      let a := if headIs 47 path then 1 else at_
      A.steps (fun d s h' => AT.walk A f d s true h') follow (partsB path) ⟨a, ⟨⟨[]⟩⟩, a, true⟩ h
def AT.locate (A : AT) (cwd path : ByteArray) (follow : Bool) : Int × Pl :=
  if sEq path ⟨⟨[]⟩⟩ then (5, Pl.z)
  else if headIs 47 path then let r := A.walk 10 1 path follow 8; (r.1, r.2.1)
  else if headIs 47 cwd = false then (5, Pl.z)
  else
    let r := A.walk 10 1 cwd true 8
    if r.1 ≠ 0 then (r.1, Pl.z)
    else if r.2.1.there = false then (5, Pl.z)
    else if A.kind r.2.1.ino ≠ 2 then (8, Pl.z)
    else let r' := A.walk 10 r.2.1.ino path follow 8; (r'.1, r'.2.1)
/-- what is known of an inode -/
structure IN where
  kind : Int
  mode : Int
  data : ByteArray
  links : Int
def IN.z : IN := ⟨0, 0, ⟨⟨[]⟩⟩, 0⟩
def AN.inode (n : AN) : IN := ⟨n.kind, n.mode, n.data, n.links⟩
def AT.ino (A : AT) (i : Int) : IN := ((A.get i).map AN.inode).getD IN.z
/-- what lies somewhere -/
def AT.with_ (A : AT) (cwd path : ByteArray) (follow : Bool) : Int × Int × IN :=
  let r := A.locate cwd path follow
  if r.1 ≠ 0 then (r.1, 0, IN.z)
  else if r.2.there = false then (5, 0, IN.z)
  else match A.get r.2.ino with
    | none => (5, 0, IN.z)
    | some n => (0, r.2.ino, n.inode)
def AT.stat (A : AT) (cwd path : ByteArray) (follow : Bool) : Int × IN := let r := A.with_ cwd path follow; (r.1, r.2.2)
def AT.read (A : AT) (cwd path : ByteArray) : Int × ByteArray :=
  let r := A.with_ cwd path true
  if r.1 ≠ 0 then (r.1, ⟨⟨[]⟩⟩) else if r.2.2.kind = 2 then (7, ⟨⟨[]⟩⟩) else (0, r.2.2.data)
/-- how deep a directory lies -/
def AT.deep (A : AT) : Nat → Int → Option Int
  | 0, _ => none
  | f + 1, d => if d = 1 then some 1 else (AT.deep A f (A.upOf d)).map (· + 1)
def AT.within (A : AT) (ino : Int) : Nat → Int → Option Bool
  | 0, _ => none
  | f + 1, d => if d = ino then some true else if d = 1 then some false else AT.within A ino f (A.upOf d)
def AT.writeF (A : AT) (cwd path data : ByteArray) (more : Bool) : Int × AT :=
  let r := A.locate cwd path true
  if r.1 ≠ 0 then (r.1, A)
  else if r.2.there = false then let m := A.makeR r.2.dir r.2.name 1 420 data; (m.2.1, m.2.2)
  else if A.kind r.2.ino = 2 then (7, A)
  else A.writeR r.2.ino (if more then A.data r.2.ino ++ data else data)
/-- a place where nothing lies -/
def AT.freshP (A : AT) (cwd path : ByteArray) : Int × Pl :=
  let r := A.locate cwd path false
  if r.1 ≠ 0 then (r.1, Pl.z) else if r.2.there = true then (6, Pl.z) else (0, r.2)
def AT.mkdirF (A : AT) (cwd path : ByteArray) : Int × AT :=
  let r := A.freshP cwd path
  if r.1 ≠ 0 then (r.1, A)
  else if (A.deep 13 r.2.dir).getD 0 ≥ 12 then (3, A)
  else let m := A.makeR r.2.dir r.2.name 2 493 ⟨⟨[]⟩⟩; (m.2.1, m.2.2)
def AT.symlinkF (A : AT) (cwd target path : ByteArray) : Int × AT :=
  if linkOk target = false then (2, A)
  else
    let r := A.freshP cwd path
    if r.1 ≠ 0 then (r.1, A)
    else let m := A.makeR r.2.dir r.2.name 3 511 target; (m.2.1, m.2.2)
def AT.chmodF (A : AT) (cwd path : ByteArray) (mode : Int) : Int × AT :=
  if mode < 0 ∨ mode > 511 then (2, A)
  else
    let r := A.with_ cwd path true
    if r.1 ≠ 0 then (r.1, A)
    else A.chmodR r.2.1 mode
def AT.listF (A : AT) (cwd path : ByteArray) : Int × List ByteArray :=
  let r := A.with_ cwd path true
  if r.1 ≠ 0 then (r.1, []) else if r.2.2.kind ≠ 2 then (8, []) else (0, A.names r.2.1)
def AT.removeF (A : AT) (cwd path : ByteArray) : Int × AT :=
  let r := A.locate cwd path false
  if r.1 ≠ 0 then (r.1, A)
  else if r.2.there = false then (5, A)
  else if sEq r.2.name ⟨⟨[]⟩⟩ = true then (2, A)
  else if (A.names r.2.ino).length > 0 then (20, A)
  else A.unlinkR r.2.dir r.2.name
def AT.both (A : AT) (cwd src to : ByteArray) : Int × Pl × Pl :=
  let p := A.locate cwd src false
  if p.1 ≠ 0 then (p.1, p.2, Pl.z) else let q := A.locate cwd to false; (q.1, p.2, q.2)
def AT.hardF (A : AT) (cwd src to : ByteArray) : Int × AT :=
  let r := A.both cwd src to
  if r.1 ≠ 0 then (r.1, A)
  else if r.2.1.there = false then (5, A)
  else if A.kind r.2.1.ino = 2 then (7, A)
  else if A.kind r.2.1.ino = 3 then (2, A)
  else if r.2.2.there = true then (6, A)
  else A.linkR r.2.2.dir r.2.2.name r.2.1.ino
def AT.levels (A : AT) : Nat → Int → Int
  | 0, _ => 0
  | f + 1, i => if A.kind i ≠ 2 then 0 else (A.names i).foldl (fun n s => let x := AT.levels A f ((A.find i s).getD 0); if x > n then x else n) 0 + 1
def AT.overE (A : AT) (p q : Pl) : Int :=
  let e := if q.there = false then 0
    else if A.kind q.ino = 2 ∧ A.kind p.ino ≠ 2 then 7
    else if A.kind p.ino = 2 ∧ A.kind q.ino ≠ 2 then 8
    else if (A.names q.ino).length > 0 then 20 else 0
  if e ≠ 0 then e
  else if A.kind p.ino = 2 ∧ (A.within p.ino 13 q.dir).getD false = true then 2
  else if (A.deep 13 q.dir).getD 0 + A.levels 14 p.ino > 12 then 3
  else 0
def AT.renameF (A : AT) (cwd src to : ByteArray) : Int × AT :=
  let r := A.both cwd src to
  let p := r.2.1
  let q := r.2.2
  if r.1 ≠ 0 then (r.1, A)
  else if sEq p.name ⟨⟨[]⟩⟩ = true ∨ sEq q.name ⟨⟨[]⟩⟩ = true then (2, A)
  else if p.there = false then (5, A)
  else if q.there = true ∧ p.ino = q.ino then (0, A)
  else if A.overE p q ≠ 0 then (A.overE p q, A)
  else if q.there = true then
    let u := A.unlinkR q.dir q.name
    if u.1 ≠ 0 then u else u.2.moveR p.dir p.name q.dir q.name 14
  else A.moveR p.dir p.name q.dir q.name 14
end Go.Wk

