/- A PART OF WHAT FOLLOWS: ModelKnown, called in any world that the card allows, answers true, and what its variables hold stays. -/
import Derived.Test.YtccjhlheamiehaaGreatDoorPf
import Derived.LaidOnce
set_option maxRecDepth 100000
namespace Go.Ev
open Go Go.HL Go.Proofs
noncomputable section
theorem hk_nil {P : Program} {fx : Nat → Option Obj} : ∀ x ∈ ([] : List (Nat × Nat × Nat)), HkAt P fx x.1 x.2.1 x.2.2 := fun x h => by cases h
theorem hk_cons {P : Program} {fx : Nat → Option Obj} {g c t : Nat} {r : List (Nat × Nat × Nat)} (h : HkAt P fx g c t) (hr : ∀ x ∈ r, HkAt P fx x.1 x.2.1 x.2.2) : ∀ x ∈ (g, c, t) :: r, HkAt P fx x.1 x.2.1 x.2.2 := by
  intro x hx
  rcases List.mem_cons.1 hx with rfl | hx
  · exact h
  · exact hr x hx
def fx0 (_ : Nat) : Option Obj := none
theorem hkok1 : HkOk Tryz.prog hk1 fx0 := hkok_mk (hs := hs1) (hk_cons (c := 9) x9 hk_nil)
def ctA : SV := match ctV with | .t [a, _] => a | _ => .e0
def ctB : SV := match ctV with | .t [_, b] => b | _ => .e0
def tstC (x : SV) : Bool := asT x fun l => ar2 l fun u v => smG u ctA (smG v ctB true)
def ctW : Value := (val (rm0 ⟨fun _ _ _ _ _ _ => False, fx0⟩) ctV).getD undef
theorem run1 : enter T1 (go T1 (fun _ _ _ _ => false) 100000000) 182 [] [.tp tstC] hp0 = true := by kernel_rfl
theorem x10 : CtAt Tryz.prog 182 := by
  refine ⟨by kernel_rfl, ctW, fun ρ => by kernel_rfl, fun σ => ?_⟩
  refine callW.any (Q := fun V => V = ctW) ?_ σ
  refine (run_closed (set1 hkok1) (fun b ob h => by cases h) rfl run1).mono fun V σ' ⟨⟨ρ', x, hx, hp⟩, hgr⟩ => ?_
  obtain ⟨l, rfl, h1⟩ := asT_true hp
  obtain ⟨u, v, rfl, h2⟩ := ar2_true h1
  obtain ⟨rfl, h3⟩ := smG_true h2
  obtain ⟨rfl, _⟩ := smG_true h3
  have e : val ρ' (.t [ctA, ctB]) = some ctW := by kernel_rfl
  exact Option.some.inj (hx.symm.trans e)
theorem hkok2 : HkOk Tryz.prog hk2 fx0 := hkok_mk (hs := hs2) (hk_cons (c := 9) x9 (hk_cons (c := 10) x10 hk_nil))
def tstS (y : Nat) (x : SV) : Bool := smV x (.s 32 y) true
theorem sum_of {a b y : Nat} (h1 : Nat.ble a mxL = true) (h2 : Nat.blt b (Nat.pow 256 a) = true) (h3 : Nat.blt y (Nat.pow 256 32) = true) (hr : enter T2 (go T2 (fun _ _ _ _ => false) 100000000) 133 [.s a b] [.tp (tstS y)] hp0 = true) : a ≤ mxL ∧ y < 256 ^ 32 ∧ ∀ σ, callW Tryz.prog 133 [.string (unp a b)] (fun V σ' => V = .string (unp 32 y) ∧ σ' = σ) σ := by
  have h1 := Nat.le_of_ble_eq_true h1
  have h2 : b < 256 ^ a := blt_lt h2
  have h3 : y < 256 ^ 32 := blt_lt h3
  refine ⟨h1, h3, fun σ => ?_⟩
  refine callW.any (Q := fun V => V = .string (unp 32 y)) ?_ σ
  refine (run_closed (set2 hkok2) (vs := [.string (unp a b)]) (fun b ob h => by cases h) ?_ hr).mono fun V σ' ⟨⟨ρ', x, hx, hp⟩, hgr⟩ => ?_
  · refine vals_of ?_ rfl
    simp only [val]
    rw [if_pos ⟨h1, h2⟩]
  · obtain ⟨rfl, _⟩ := smV_true hp
    exact (s_some hx).2.2
theorem sum_0 : enter T2 (go T2 (fun _ _ _ _ => false) 100000000) 133 [.s 29 2708048904182643801051980305841527902800929837424522952619550464898058] [.tp (tstS 92735700340679631519914254352451164780290699417387175522107105631203844309454)] hp0 = true := by kernel_rfl
theorem sum_1 : enter T2 (go T2 (fun _ _ _ _ => false) 100000000) 133 [.s 30 693260519470756813069306958295431140448434607132499795700839698384566026] [.tp (tstS 94479179501139843709652977464214413139689964095523383737268059294828823849912)] hp0 = true := by kernel_rfl
theorem sum_2 : enter T2 (go T2 (fun _ _ _ _ => false) 100000000) 133 [.s 57 73008854028799810034293850788070837283221877972648249100600594157009681952382665702687886359485203750494290137343778840477137044810065162] [.tp (tstS 82273133693973010878938093164779449056390478510091434730916850376905072285830)] hp0 = true := by kernel_rfl
theorem sum_3 : enter T2 (go T2 (fun _ _ _ _ => false) 100000000) 133 [.s 19 2240045551385354648050377039319531504673318154] [.tp (tstS 25166412583665845349881721518389537037264874054501279993745985003871168471362)] hp0 = true := by kernel_rfl
theorem x4 : ShAt Tryz.prog 133 := by
  refine ⟨by kernel_rfl, fun a b y h => ?_⟩
  unfold shaTab at h
  rcases List.mem_cons.1 h with h | h
  · cases h; exact sum_of (by kernel_rfl) (by kernel_rfl) (by kernel_rfl) sum_0
  rcases List.mem_cons.1 h with h | h
  · cases h; exact sum_of (by kernel_rfl) (by kernel_rfl) (by kernel_rfl) sum_1
  rcases List.mem_cons.1 h with h | h
  · cases h; exact sum_of (by kernel_rfl) (by kernel_rfl) (by kernel_rfl) sum_2
  rcases List.mem_cons.1 h with h | h
  · cases h; exact sum_of (by kernel_rfl) (by kernel_rfl) (by kernel_rfl) sum_3
  cases h
end
end Go.Ev

set_option maxRecDepth 100000
namespace Go.Ev
open Go Go.HL Go.Proofs
noncomputable section
def tstT (x : SV) : Bool := asB x fun b => b
theorem run3 : enter T3 (go T3 (fun _ _ _ _ => false) 100000000000) 3 [] [.tp tstT] hp0 = true := by kernel_rfl
theorem hkok3 {fx : Nat → Option Obj} {m : Int} {T : Nat} {fz : Nat × Nat} (hm : fx 1 = some (.cells ⟨[.int .i64 m]⟩ T fz)) {T' : Nat} {fz' : Nat × Nat} (he : fx 0 = some (.cells ⟨[.iface 233 (.agg #[.pointer (some ⟨18, 52, none⟩)])]⟩ T' fz')) : HkOk Tryz.prog hk3 fx :=
  hkok_mk (hs := hs3) (hk_cons (c := 0) x0 (hk_cons (c := 1) x1 (hk_cons (c := 2) (x2 hm) (hk_cons (c := 3) ⟨_, _, x3, by kernel_rfl⟩ (hk_cons (c := 4) x4 (hk_cons (c := 5) Cc.x5 (hk_cons (c := 6) x6 (hk_cons (c := 7) (x7 he) (hk_cons (c := 8) x8 hk_nil)))))))))
/-- the law answers true -/
theorem law_true {σ : H} {m : Int} {T : Nat} {fz : Nat × Nat} (hm : σ 1 = some (.cells ⟨[.int .i64 m]⟩ T fz)) {T' : Nat} {fz' : Nat × Nat} (he : σ 0 = some (.cells ⟨[.iface 233 (.agg #[.pointer (some ⟨18, 52, none⟩)])]⟩ T' fz')) : callW Tryz.prog 3 [] (fun V σ' => V = .bool true ∧ Gr σ σ') σ := by
  refine (run_closed (σ := σ) (set3 (fx := σ) (hkok3 hm he)) (fun b ob h => h) rfl run3).mono fun V σ' ⟨⟨ρ', x, hx, hp⟩, hgr⟩ => ?_
  obtain ⟨b, rfl, h1⟩ := asB_true hp
  cases h1
  exact ⟨(Option.some.inj hx).symm, hgr⟩
end
end Go.Ev

namespace Go.Ev
open Go
/-- the places of what answers -/
def idxs {α : Type} (q : α → Bool) : List α → Nat → List Nat
  | [], _ => []
  | x :: r, i => match q x with
    | true => i :: idxs q r (i + 1)
    | false => idxs q r (i + 1)
theorem idxs_map {α : Type} (q : α → Bool) : ∀ (l : List α) (i : Nat), idxs q l i = (idxs q l 0).map (· + i) := by
  intro l
  induction l with
  | nil => intro i; rfl
  | cons x r ih =>
    intro i
    simp only [idxs]
    cases q x with
    | true =>
      simp only [List.map_cons, Nat.zero_add]
      rw [ih (i + 1), ih 1, List.map_map]
      congr 1
      refine List.map_congr_left fun k _ => ?_
      simp only [Function.comp]; omega
    | false =>
      simp only [Nat.zero_add]
      rw [ih (i + 1), ih 1, List.map_map]
      refine List.map_congr_left fun k _ => ?_
      simp only [Function.comp]; omega
theorem idxs_range {α : Type} (q : α → Bool) : ∀ (l : List α), (List.range l.length).filter (fun i => (l[i]?).any q) = idxs q l 0 := by
  intro l
  induction l with
  | nil => rfl
  | cons x r ih =>
    rw [List.length_cons, List.range_succ_eq_map, List.filter_cons, List.filter_map]
    have h1 : (fun i => ((x :: r)[i]?).any q) ∘ Nat.succ = fun i => (r[i]?).any q := by
      funext i; simp
    rw [h1, ih]
    have h2 : ((x :: r)[0]?).any q = q x := by simp
    rw [h2]
    simp only [idxs]
    cases q x with
    | true => simp only [if_true, Nat.zero_add]; rw [idxs_map q r 1]
    | false => simp only [Bool.false_eq_true, if_false, Nat.zero_add]; rw [idxs_map q r 1]
theorem named_of {P : Program} {name : String} {k : Nat} (h : idxs (fun f : Func => f.name == name) P.funcs.toList 0 = [k]) : P.funcNamed name = some k := by
  have h1 := idxs_range (fun f : Func => f.name == name) P.funcs.toList
  rw [h] at h1
  have h2 : (List.range P.funcs.size).filter (fun i => (P.funcs[i]?).any (·.name == name)) = [k] := by
    rw [← h1, Array.length_toList]
    refine List.filter_congr fun i _ => ?_
    rw [Array.getElem?_toList]
  unfold Program.funcNamed
  rw [h2]
theorem worded_of {P : Program} {w : String} {b : Bool} (h : (P.funcs.toList.any fun fn => fn.body.isNone && fn.name == w) = b) : P.worded w = b := by
  unfold Program.worded
  rw [← h, Array.any_toList]
/-- what a function leads to, with what was seen as bits -/
def closB (P : Program) : Nat → List FuncId → Nat → List FuncId → List FuncId
  | 0, _, _, seen => seen.reverse
  | _, [], _, seen => seen.reverse
  | n + 1, f :: todo, m, seen => match Nat.beq (Nat.land (Nat.shiftRight m f) 1) 1 with
    | true => closB P n todo m seen
    | false => closB P n ((P.funcs[f]?).elim [] P.leadsTo ++ todo) (Nat.lor m (Nat.shiftLeft 1 f)) (f :: seen)
theorem bit_eq (m f : Nat) : Nat.beq (Nat.land (Nat.shiftRight m f) 1) 1 = m.testBit f := by
  have h1 : Nat.land (Nat.shiftRight m f) 1 = (m >>> f) &&& 1 := rfl
  rw [h1, Nat.and_one_is_mod]
  unfold Nat.testBit
  rw [Nat.and_comm, Nat.and_one_is_mod]
  have : (m >>> f) % 2 = 0 ∨ (m >>> f) % 2 = 1 := by omega
  rcases this with h | h <;> rw [h] <;> rfl
theorem bit_set (m f g : Nat) : (Nat.lor m (Nat.shiftLeft 1 f)).testBit g = (m.testBit g || decide (g = f)) := by
  have h1 : Nat.lor m (Nat.shiftLeft 1 f) = m ||| (1 <<< f) := rfl
  rw [h1, Nat.testBit_or, Nat.shiftLeft_eq, Nat.one_mul, Nat.testBit_two_pow]
  congr 1
  by_cases e : f = g
  · subst e; simp
  · simp [e, Ne.symm e]
theorem clos_eq {P : Program} : ∀ (n : Nat) (todo : List FuncId) (m : Nat) (seen : List FuncId), (∀ g, m.testBit g = seen.contains g) → P.closureVia n todo seen = closB P n todo m seen := by
  intro n
  induction n with
  | zero => intro todo m seen _; cases todo <;> rfl
  | succ n ih =>
    intro todo m seen h
    cases todo with
    | nil => rfl
    | cons f todo =>
      unfold Program.closureVia closB
      rw [bit_eq, h f]
      cases hc : seen.contains f with
      | true => simp only [if_true]; exact ih todo m seen h
      | false =>
        simp only [Bool.false_eq_true, if_false]
        refine ih _ _ _ fun g => ?_
        rw [bit_set, h g, List.contains_cons]
        by_cases e : g = f
        · subst e; simp
        · simp [e, beq_eq_false_iff_ne.2 e]
theorem closure_of {P : Program} {f : FuncId} {L : List FuncId} (h : closB P (1 + (P.funcs.toList.map fun g => (P.leadsTo g).length + 1).sum) [f] 0 [] = L) : P.closure f = L := by
  unfold Program.closure
  rw [clos_eq _ _ 0 [] (by intro g; simp), h]
/-- so many steps -/
def closS (P : Program) : Nat → List FuncId × Nat × List FuncId → List FuncId × Nat × List FuncId
  | 0, s => s
  | _ + 1, ([], m, seen) => ([], m, seen)
  | n + 1, (f :: todo, m, seen) => match Nat.beq (Nat.land (Nat.shiftRight m f) 1) 1 with
    | true => closS P n (todo, m, seen)
    | false => closS P n ((P.funcs[f]?).elim [] P.leadsTo ++ todo, Nat.lor m (Nat.shiftLeft 1 f), f :: seen)
theorem closB_S {P : Program} : ∀ (k n : Nat) (s : List FuncId × Nat × List FuncId), closB P (n + k) s.1 s.2.1 s.2.2 = closB P n (closS P k s).1 (closS P k s).2.1 (closS P k s).2.2 := by
  intro k
  induction k with
  | zero => intro n s; rfl
  | succ k ih =>
    intro n s
    obtain ⟨todo, m, seen⟩ := s
    cases todo with
    | nil => cases n <;> rfl
    | cons f todo =>
      have e1 : closB P ((n + k) + 1) (f :: todo) m seen = match Nat.beq (Nat.land (Nat.shiftRight m f) 1) 1 with
        | true => closB P (n + k) todo m seen
        | false => closB P (n + k) ((P.funcs[f]?).elim [] P.leadsTo ++ todo) (Nat.lor m (Nat.shiftLeft 1 f)) (f :: seen) := rfl
      have e2 : closS P (k + 1) (f :: todo, m, seen) = match Nat.beq (Nat.land (Nat.shiftRight m f) 1) 1 with
        | true => closS P k (todo, m, seen)
        | false => closS P k ((P.funcs[f]?).elim [] P.leadsTo ++ todo, Nat.lor m (Nat.shiftLeft 1 f), f :: seen) := rfl
      show closB P ((n + k) + 1) (f :: todo) m seen = _
      rw [e1, e2]
      cases Nat.beq (Nat.land (Nat.shiftRight m f) 1) 1 with
      | true => exact ih n (todo, m, seen)
      | false => exact ih n (_, _, _)
theorem closB_two {P : Program} {N n k : Nat} {todo L todo' seen seen' : List FuncId} {m m' : Nat} (hN : N = n + k) (h1 : closS P k (todo, m, seen) = (todo', m', seen')) (h2 : closB P n todo' m' seen' = L) : closB P N todo m seen = L := by
  subst hN
  have := closB_S (P := P) k n (todo, m, seen)
  rw [h1] at this
  exact this.trans h2
theorem any_cut {α : Type} {p : α → Bool} {l : List α} (k : Nat) (h1 : (l.take k).any p = false) (h2 : (l.drop k).any p = false) : l.any p = false := by
  rw [← List.take_append_drop k l, List.any_append, h1, h2]; rfl
end Go.Ev
