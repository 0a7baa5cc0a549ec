/- A part of the proof: LookKnown holds. -/
import Derived.Test.YtgfiobhpipollaaGreatDoorNar
import Derived.Carry
import Derived.Deep.Slices
import Derived.ChangeSame
namespace Go.HL
open Go Go.RowKit
def whole (W : World) : H := fun b => W.heap[b]?
theorem whole_le (W : World) : (whole W).le W := fun _ _ h => h
theorem calls_of {P : Program} {f : FuncId} {args : List Value} {W : World} {v : Value} (h : callW P f args (fun u σ' => u = v /\ Gr (whole W) σ') (whole W)) :
 Calls P f args.toArray W fun e W' => e = .returned v /\ Below W.heap.size W W' := by
 refine callsIn_wide.1 ((h W (whole_le W)).mono ?_)
 rintro e W' ⟨u, he, σ', hx, hu, hg⟩
 subst hu
 refine ⟨he, ⟨hx.os, hx.tape, hx.output, hx.size, fun k hk => ?_⟩⟩
 have : W.heap[k]? = some W.heap[k] := Array.getElem?_eq_getElem hk
 rw [this]
 exact hx.le k _ (hg.get this)
def RowsAt (σ : H) (n : Nat) (rows : List (List Value)) (x : Sl) : Prop := x.len = rows.length /\ (rows = [] \/ ∃ g o cur t fz, x.base = some ⟨g, o, none⟩ /\ σ g = some (.cells ⟨cur⟩ t fz) /\ ∀ i r, rows[i]? = some r -> r.length = n /\ (cur.drop (o + i * n)).take n = r)
theorem RowsAt.gr {σ σ' : H} {n : Nat} {rows : List (List Value)} {x : Sl} (h : RowsAt σ n rows x) (hg : Gr σ σ') : RowsAt σ' n rows x := by
 obtain ⟨h1, h2 | ⟨g, o, cur, t, fz, h3, h4, h5⟩⟩ := h
 ·exact ⟨h1, .inl h2⟩
 ·exact ⟨h1, .inr ⟨g, o, cur, t, fz, h3, hg.get h4, h5⟩⟩
theorem RowsAt.rd {σ : H} {n : Nat} {rows : List (List Value)} {x : Sl} (h : RowsAt σ n rows x) {i : Nat} {r : List Value} (hi : rows[i]? = some r) (hn : 0 < n) : ∃ g o, x.base = some ⟨g, o, none⟩ /\ rdA n g (o + i * n) σ = some (.agg ⟨r⟩) := by
 obtain ⟨h1, h2 | ⟨g, o, cur, t, fz, h3, h4, h5⟩⟩ := h
 ·subst h2; simp at hi
 ·obtain ⟨h6, h7⟩ := h5 i r hi
  refine ⟨g, o, h3, ?_⟩
  have hlen : o + i * n + n <= cur.length := by
   have := congrArg List.length h7
   simp at this
   omega
  rw [rdA_of h4 hlen, h7]
section
variable {D : Type} {enc : TypeId × Value -> D} {P : Program} {W : World}
theorem law_post {s : ChangeSpec} {f : Func} {W' : World} {args : Array Value} {ds gs : List (DataW D)} {before : List MemPlace} {tb : TypeId} (hW : DataW.Whole enc P f.params.toList s.vars false W args.toList ds gs before) (hv : s.vars = [])
 (hfn : s.fn D (ds ++ gs) = { results := [.lit (.bool true)], args := ds }) (hl : laidOutB P = true) (hr : ∀ t ∈ f.params.toList, P.readableRec t = true /\ t < P.types.size) (hres : f.resultTypes = #[tb]) (hb : P.underlying tb = some .bool) (hbel : Below W.heap.size W W') :
 s.post enc P f false true false false W args (.bool true) W' := by
 have hlt := hW.lt
 have hW0 := hW
 obtain ⟨p, q, hA, hV, hps, hz, hn⟩ := hW
 rw [hv] at hV
 have hgq : gs = [] /\ q = [] := by
  cases gs with
  | nil => exact ⟨rfl, hV⟩
  | cons g gs => exact hV.elim
 obtain ⟨rfl, rfl⟩ := hgq
 have hps : before = p := by simpa using hps
 subst hps
 have hargs : ∀ sp : Nat -> Bool, (∀ x ∈ before, sp x.block = true) -> DataW.TrodAll enc P W' 0 sp true f.params.toList args.toList ds before := by
  intro sp hsp
  have key : ∀ (ts : List TypeId) (vs : List Value) (ds : List (DataW D)) (ps : List MemPlace), (∀ t ∈ ts, P.readableRec t = true /\ t < P.types.size) -> (∀ x ∈ ps, x.block < W.heap.size /\ sp x.block = true) -> DataW.TrodAll enc P W 0 (fun _ => true) true ts vs ds ps -> DataW.TrodAll enc P W' 0 sp true ts vs ds ps := by
   intro ts
   induction ts with
   | nil =>
    intro vs ds ps _ _ h
    cases vs <;> cases ds <;> first | exact h | exact h.elim
   | cons t ts ih =>
    intro vs ds ps ht hx h
    cases vs with
    | nil => exact h.elim
    | cons v vs =>
     cases ds with
     | nil => exact h.elim
     | cons d ds =>
      obtain ⟨p, q, h1, h2, rfl⟩ := h
      obtain ⟨r1, r2⟩ := ht t (List.mem_cons_self ..)
      exact ⟨p, q, WideElems.Trod_stays hl r1 r2 h1 (fun x hx' => hbel.same (hx x (List.mem_append_left _ hx')).1) (fun x hx' => (hx x (List.mem_append_left _ hx')).2), ih vs ds q (fun t h => ht t (List.mem_cons_of_mem _ h)) (fun x hx' => hx x (List.mem_append_right _ hx')) h2, rfl⟩
  exact key _ _ _ _ hr (fun x hx => ⟨hlt x hx, hsp x hx⟩) hA
 have hresT : ∀ (b : Nat) (sp : Nat -> Bool) (hd : Bool), DataW.TrodAll enc P W' b sp hd f.resultTypes.toList ((Value.bool true).resultList f.resultTypes.size) [.lit (.bool true)] [] := by
  intro b sp hd
  rw [hres]
  exact ⟨[], [], shut_bool hb true, rfl, rfl⟩
 have hold : ∀ p ∈ before, (fun b => decide (b < W.heap.size)) p.block = true := fun p hp => by simpa using hlt p hp
 have hvars : ∀ sp : Nat -> Bool, DataW.TrodVars enc P W' sp s.vars [] [] := by intro sp; rw [hv]; rfl
 refine ⟨ds, [], before, [], before, [], hW0, ?_, ?_, ?_, World.keptBut_mono (fun p hp => ⟨hp, .inr (.inl hp)⟩) (hbel.frame _), fun h => by cases h⟩
 ·rw [hfn]; exact hresT _ _ _
 ·rw [hfn]; exact hargs _ hold
 ·rw [hfn]; exact hvars _
end
end Go.HL

