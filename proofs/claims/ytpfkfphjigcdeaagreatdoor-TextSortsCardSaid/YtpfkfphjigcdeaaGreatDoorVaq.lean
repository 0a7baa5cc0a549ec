/- A part of a proof. -/
import Derived.Test.YtpfkfphjigcdeaaGreatDoorVap
import Derived.Carry
import Derived.Deep.Slices
import Derived.ChangeSame
namespace Go.HL
open Go Go.RowKit
def whole (W : World) : H := fun b => W.heap[b]?
theorem whole_le (W : World) : (whole W).le W := fun _ _ h => h
theorem calls_of {P : Program} {f : FuncId} {args : List Value} {W : World} {v : Value} (h : callW P f args (fun u σ' => u = v /\ Gr (whole W) σ') (whole W)) :
 Calls P f args.toArray W fun e W' => e = .returned v /\ Below W.heap.size W W' := by
 refine callsIn_wide.1 ((h W (whole_le W)).mono ?_)
 rintro e W' ⟨u, he, σ', hx, hu, hg⟩
 subst hu
 refine ⟨he, ⟨hx.os, hx.tape, hx.output, hx.size, fun k hk => ?_⟩⟩
 have : W.heap[k]? = some W.heap[k] := Array.getElem?_eq_getElem hk
 rw [this]
 exact hx.le k _ (hg.get this)
def RowsAt (σ : H) (n : Nat) (rows : List (List Value)) (x : Sl) : Prop := x.len = rows.length /\ (rows = [] \/ ∃ g o cur t fz, x.base = some ⟨g, o, none⟩ /\ σ g = some (.cells ⟨cur⟩ t fz) /\ ∀ i r, rows[i]? = some r -> r.length = n /\ (cur.drop (o + i * n)).take n = r)
theorem RowsAt.gr {σ σ' : H} {n : Nat} {rows : List (List Value)} {x : Sl} (h : RowsAt σ n rows x) (hg : Gr σ σ') : RowsAt σ' n rows x := by
 obtain ⟨h1, h2 | ⟨g, o, cur, t, fz, h3, h4, h5⟩⟩ := h
 ·exact ⟨h1, .inl h2⟩
 ·exact ⟨h1, .inr ⟨g, o, cur, t, fz, h3, hg.get h4, h5⟩⟩
theorem RowsAt.rd {σ : H} {n : Nat} {rows : List (List Value)} {x : Sl} (h : RowsAt σ n rows x) {i : Nat} {r : List Value} (hi : rows[i]? = some r) (hn : 0 < n) : ∃ g o, x.base = some ⟨g, o, none⟩ /\ rdA n g (o + i * n) σ = some (.agg ⟨r⟩) := by
 obtain ⟨h1, h2 | ⟨g, o, cur, t, fz, h3, h4, h5⟩⟩ := h
 ·subst h2; simp at hi
 ·obtain ⟨h6, h7⟩ := h5 i r hi
  refine ⟨g, o, h3, ?_⟩
  have hlen : o + i * n + n <= cur.length := by
   have := congrArg List.length h7
   simp at this
   omega
  rw [rdA_of h4 hlen, h7]
section
variable {D : Type} {enc : TypeId × Value -> D} {P : Program} {W : World}
theorem rows_of {t e : TypeId} {n fuel : Nat} {v : Value} {x : DataW D × List MemPlace} (ht : P.underlying t = some (.slice e)) (hc : P.cellsOf e = n) (hn : 0 < n) (h : DataW.trod enc P W 0 (fun _ => true) true fuel t [v] = some x) :
 ∃ (y : Sl) (rows : List (List Value)), v = .slice y.base y.len y.cap /\ RowsAt (whole W) n rows y /\ y.len <= maxLen /\ ∃ m, ∀ r ∈ rows, m < fuel /\ ∃ d ps, DataW.trod enc P W 0 (fun _ => true) true m e r = some (d, ps) := by
 rcases DataW.trod_slice ht h with ⟨h0, _⟩ | ⟨a, len, cap, elems, rest, k, hfu, h0, -, -, hl, hm, hlen, hall, -, -⟩
 ·refine ⟨⟨none, 0, 0⟩, [], by simpa using h0, ⟨rfl, .inl rfl⟩, Nat.zero_le _, 0, fun r hr => by simp at hr⟩
 ·have hv : v = .slice (some a) len cap := by simpa using h0
  subst hv
  rw [hc] at hall
  have hch : ∀ i, i < len -> ∃ cs, W.cells? 0 (a.add (i * n)) n = some cs /\ ∃ d ps, DataW.trod enc P W 0 (fun _ => true) true k e cs = some (d, ps) := by
   intro i hi
   have h1 := hall i hi
   rw [List.getElem?_eq_getElem (show i < elems.length by omega)] at h1
   cases hcs : W.cells? 0 (a.add (i * n)) n with
   | none => rw [hcs] at h1; cases h1
   | some cs => rw [hcs] at h1; exact ⟨cs, rfl, _, _, h1⟩
  have hrows : ∃ rows : List (List Value), rows.length = len /\ ∀ i r, rows[i]? = some r -> W.cells? 0 (a.add (i * n)) n = some r /\ ∃ d ps, DataW.trod enc P W 0 (fun _ => true) true k e r = some (d, ps) := by
   clear hall hm hl h0 h hlen hfu
   induction len with
   | zero => exact ⟨[], rfl, fun i r hr => by simp at hr⟩
   | succ j ih =>
    obtain ⟨rows, h1, h2⟩ := ih (fun i hi => hch i (by omega))
    obtain ⟨cs, h3, h4⟩ := hch j (by omega)
    refine ⟨rows ++ [cs], by simp [h1], fun i r hr => ?_⟩
    rw [List.getElem?_append] at hr
    split at hr
    ·exact h2 i r hr
    ·rename_i hge
     have : i - rows.length = 0 := by
      rcases Nat.eq_zero_or_pos (i - rows.length) with h | h
      ·exact h
      ·rw [List.getElem?_eq_none (by simp; omega)] at hr; cases hr
     rw [this] at hr
     have hij : i = j := by omega
     subst hij
     simp at hr; subst hr
     exact ⟨h3, h4⟩
  obtain ⟨rows, hlen, hr⟩ := hrows
  refine ⟨⟨some a, len, cap⟩, rows, rfl, ⟨hlen.symm, ?_⟩, by show len <= maxLen; omega, k, fun r hrr => ?_⟩
  ·cases len with
   | zero => exact .inl (List.eq_nil_of_length_eq_zero hlen)
   | succ j =>
    right
    obtain ⟨r0, hr0⟩ : ∃ r0, rows[0]? = some r0 := ⟨_, List.getElem?_eq_getElem (by omega)⟩
    obtain ⟨hc0, _⟩ := hr 0 r0 hr0
    obtain ⟨_, hl0, hg0⟩ := World.cells?_some hc0
    have h00 := hg0 0 hn
    rw [Nat.zero_mul] at h00
    have ha0 : (a.add 0).add 0 = a := by unfold Addr.add; simp
    rw [ha0] at h00
    obtain ⟨u, hu⟩ : ∃ u, r0[0]? = some u := ⟨_, List.getElem?_eq_getElem (by omega)⟩
    rw [hu] at h00
    unfold World.cell? at h00
    cases hb : W.heap[a.block]? with
    | none => rw [hb] at h00; cases h00
    | some ob =>
     rw [hb] at h00
     cases ob with
     | cells c ty fz =>
      simp only at h00
      have hsp : a.spot = none := by
       cases hs : a.spot with
       | none => rfl
       | some q => rw [hs] at h00; simp at h00
      obtain ⟨l⟩ := c
      have hae : a = ⟨a.block, a.off, none⟩ := by cases a; simp at hsp; simp [hsp]
      refine ⟨a.block, a.off, l, ty, fz, by rw [<- hae], hb, fun i r hir => ?_⟩
      obtain ⟨hci, _⟩ := hr i r hir
      obtain ⟨_, hli, hgi⟩ := World.cells?_some hci
      refine ⟨hli, ?_⟩
      apply List.ext_getElem?
      intro q
      by_cases hq : q < n
      ·have h5 := hgi q hq
       rw [hae, add_none, add_none] at h5
       rw [<- h5, List.getElem?_take_of_lt hq, List.getElem?_drop]
       simp [World.cell?, hb]
      ·rw [List.getElem?_eq_none (by simp; omega), List.getElem?_eq_none (by omega)]
     | _ => cases h00
  ·obtain ⟨i, hi⟩ := List.getElem?_of_mem hrr
   exact ⟨by omega, (hr i r hi).2⟩
theorem law_post {s : ChangeSpec} {f : Func} {W' : World} {args : Array Value} {ds gs : List (DataW D)} {before : List MemPlace} {tb : TypeId} (hW : DataW.Whole enc P f.params.toList s.vars false W args.toList ds gs before) (hv : s.vars = [])
 (hfn : s.fn D (ds ++ gs) = { results := [.lit (.bool true)], args := ds }) (hl : laidOutB P = true) (hr : ∀ t ∈ f.params.toList, P.readableRec t = true /\ t < P.types.size) (hres : f.resultTypes = #[tb]) (hb : P.underlying tb = some .bool) (hbel : Below W.heap.size W W') :
 s.post enc P f false true false false W args (.bool true) W' := by
 have hlt := hW.lt
 have hW0 := hW
 obtain ⟨p, q, hA, hV, hps, hz, hn⟩ := hW
 rw [hv] at hV
 have hgq : gs = [] /\ q = [] := by
  cases gs with
  | nil => exact ⟨rfl, hV⟩
  | cons g gs => exact hV.elim
 obtain ⟨rfl, rfl⟩ := hgq
 have hps : before = p := by simpa using hps
 subst hps
 have hargs : ∀ sp : Nat -> Bool, (∀ x ∈ before, sp x.block = true) -> DataW.TrodAll enc P W' 0 sp true f.params.toList args.toList ds before := by
  intro sp hsp
  have key : ∀ (ts : List TypeId) (vs : List Value) (ds : List (DataW D)) (ps : List MemPlace), (∀ t ∈ ts, P.readableRec t = true /\ t < P.types.size) -> (∀ x ∈ ps, x.block < W.heap.size /\ sp x.block = true) -> DataW.TrodAll enc P W 0 (fun _ => true) true ts vs ds ps -> DataW.TrodAll enc P W' 0 sp true ts vs ds ps := by
   intro ts
   induction ts with
   | nil =>
    intro vs ds ps _ _ h
    cases vs <;> cases ds <;> first | exact h | exact h.elim
   | cons t ts ih =>
    intro vs ds ps ht hx h
    cases vs with
    | nil => exact h.elim
    | cons v vs =>
     cases ds with
     | nil => exact h.elim
     | cons d ds =>
      obtain ⟨p, q, h1, h2, rfl⟩ := h
      obtain ⟨r1, r2⟩ := ht t (List.mem_cons_self ..)
      exact ⟨p, q, WideElems.Trod_stays hl r1 r2 h1 (fun x hx' => hbel.same (hx x (List.mem_append_left _ hx')).1) (fun x hx' => (hx x (List.mem_append_left _ hx')).2), ih vs ds q (fun t h => ht t (List.mem_cons_of_mem _ h)) (fun x hx' => hx x (List.mem_append_right _ hx')) h2, rfl⟩
  exact key _ _ _ _ hr (fun x hx => ⟨hlt x hx, hsp x hx⟩) hA
 have hresT : ∀ (b : Nat) (sp : Nat -> Bool) (hd : Bool), DataW.TrodAll enc P W' b sp hd f.resultTypes.toList ((Value.bool true).resultList f.resultTypes.size) [.lit (.bool true)] [] := by
  intro b sp hd
  rw [hres]
  exact ⟨[], [], shut_bool hb true, rfl, rfl⟩
 have hold : ∀ p ∈ before, (fun b => decide (b < W.heap.size)) p.block = true := fun p hp => by simpa using hlt p hp
 have hvars : ∀ sp : Nat -> Bool, DataW.TrodVars enc P W' sp s.vars [] [] := by intro sp; rw [hv]; rfl
 refine ⟨ds, [], before, [], before, [], hW0, ?_, ?_, ?_, World.keptBut_mono (fun p hp => ⟨hp, .inr (.inl hp)⟩) (hbel.frame _), fun h => by cases h⟩
 ·rw [hfn]; exact hresT _ _ _
 ·rw [hfn]; exact hargs _ hold
 ·rw [hfn]; exact hvars _
end
end Go.HL

