/- A part of a proof. -/
import Derived.Test.YtpfkfphjigcdeaaGreatDoorVak
namespace Go.HL
open Go

def Gr (σ σ' : H) : Prop := ∀ b o, σ b = some o -> σ' b = some o
theorem Gr.refl (σ : H) : Gr σ σ := fun _ _ h => h
theorem Gr.trans {σ₁ σ₂ σ₃ : H} (h : Gr σ₁ σ₂) (k : Gr σ₂ σ₃) : Gr σ₁ σ₃ := fun b o hb => k b o (h b o hb)
theorem Gr.get {σ σ' : H} (h : Gr σ σ') {b : Nat} {o : Obj} (hb : σ b = some o) : σ' b = some o := h b o hb
theorem Gr.put {σ : H} {b : Nat} (hb : σ b = none) (o : Obj) : Gr σ (σ.put b o) := by
 intro c oc hc
 rw [H.put_other]
 ·exact hc
 ·intro e; subst e; rw [hb] at hc; cases hc
def Put (σ : H) (b : Nat) (o : Obj) (σ' : H) : Prop := σ' = σ.put b o
theorem Put.same {σ σ' : H} {b : Nat} {o : Obj} (h : Put σ b o σ') : σ' b = some o := by rw [h, H.put_same]
theorem Put.get {σ σ' : H} {b c : Nat} {o oc : Obj} (h : Put σ b o σ') (hne : c ≠ b) (hc : σ c = some oc) : σ' c = some oc := by rw [h, H.put_other _ _ hne]; exact hc
theorem ne_fresh {σ : H} {b c : Nat} {o : Obj} (hb : σ b = some o) (hc : σ c = none) : b ≠ c := by
 intro e; subst e; rw [hb] at hc; cases hc

theorem Ext.drop {σ σ' σ'' : H} {w w' : World} (h : Ext σ w σ' w') (hg : Gr σ'' σ') : Ext σ w σ'' w' :=
 ⟨fun b o hb => h.le b o (hg b o hb), h.size, h.keep, fun b o hb hn => h.own b o (hg b o hb) hn, h.os, h.tape, h.output⟩
section
variable {P : Program}
theorem callW.drop {f : FuncId} {args : List Value} {K K' : KH} {σ : H} (h : callW P f args K' σ) (hk : ∀ v σ', K' v σ' -> ∃ σ'', Gr σ'' σ' /\ K v σ'') : callW P f args K σ := by
 intro w hw
 refine (h w hw).mono fun e w' ⟨v, he, σ', hx, hk'⟩ => ?_
 obtain ⟨σ'', hg, hk''⟩ := hk v σ' hk'
 exact ⟨v, he, σ'', hx.drop hg, hk''⟩
theorem invW.drop {s : Sem Next} {K K' : KH} {σ : H} (h : invW P s K' σ) (hk : ∀ v σ', K' v σ' -> ∃ σ'', Gr σ'' σ' /\ K v σ'') : invW P s K σ := by
 intro w hw
 refine (h w hw).mono fun v w' ⟨σ', hx, hk'⟩ => ?_
 obtain ⟨σ'', hg, hk''⟩ := hk v σ' hk'
 exact ⟨σ'', hx.drop hg, hk''⟩
theorem callW.pure {f : FuncId} {args : List Value} {K : KH} {σ : H} {v : Value} (h : callW P f args (fun u σ' => u = v /\ Gr σ σ') σ) (hk : K v σ) : callW P f args K σ :=
 h.drop fun _ _ ⟨hu, hg⟩ => ⟨σ, hg, hu ▸ hk⟩
theorem al_i {obj : Obj} {g : Nat -> H -> Prop} {σ : H} (h : ∀ b σ', Gr σ σ' -> σ' b = some obj -> σ b = none -> g b σ') : alW obj g σ :=
 fun b hb => h b _ (Gr.put hb obj) (H.put_same _ _ _) hb
theorem ptr_i {b o : Nat} {g : Nat -> Nat -> H -> Prop} {σ : H} (h : g b o σ) : ptrW (some ⟨b, o, none⟩) g σ := h
theorem if_i {c : Prop} {g : H -> Prop} {σ : H} (hc : c) (h : g σ) : ifW c g σ := ⟨hc, h⟩
theorem br_t {t : Bool} {A B : H -> Prop} {σ : H} (ht : t = true) (h : A σ) : brW t A B σ := by subst ht; exact h
theorem br_f {t : Bool} {A B : H -> Prop} {σ : H} (ht : t = false) (h : B σ) : brW t A B σ := by subst ht; exact h
theorem br_i {t : Bool} {A B : H -> Prop} {σ : H} (h1 : t = true -> A σ) (h2 : t = false -> B σ) : brW t A B σ := by cases t <;> simp_all [brW]
theorem and_i {c g : H -> Prop} {σ : H} (h1 : c σ) (h2 : g σ) : andW c g σ := ⟨h1, h2⟩
theorem j_d {T : Type} {j : T} {f : T -> H -> Prop} {σ : H} (h : f j σ) : letJ j f σ := h
theorem j_i {T : Type} {j : T} {f : T -> H -> Prop} {σ : H} (Q : T -> Prop) (h1 : Q j) (h2 : ∀ j, Q j -> f j σ) : letJ j f σ := h2 j h1
theorem loop_i {ks : List CK} {F : FnC ks (H -> Prop) -> FnC ks (H -> Prop)} {st : FnC ks (H -> Prop) -> H -> Prop} {σ : H} (h : ∀ R : FnC ks (H -> Prop), leC ks (F R) R -> st R σ) : loopW ks F st σ := h
theorem rdC_of {σ : H} {b o : Nat} {l : List Value} {t : TypeId} {fz : Nat × Nat} {v : Value} (h : σ b = some (.cells ⟨l⟩ t fz)) (hv : l[o]? = some v) : rdC b o σ = some v := by
 simp [rdC, h, hv]
theorem rdA_of {σ : H} {n b o : Nat} {l : List Value} {t : TypeId} {fz : Nat × Nat} (h : σ b = some (.cells ⟨l⟩ t fz)) (hv : o + n <= l.length) : rdA n b o σ = some (.agg ⟨(l.drop o).take n⟩) := by
 simp [rdA, h, hv]
section
variable {σ : H} {r : H -> Option Value}
theorem rd_I {n : Int} {k : IntKind} {F : Int -> H -> Prop} (h : r σ = some (.int k n)) (h2 : F n σ) : rdT r (.one (.sc (.int k))) F σ := ⟨_, h, by simp only [app, TK.prj, CK.prj, SK.prj, prjInt, sameK_self]; exact h2⟩
theorem rd_B {x : Bool} {F : Bool -> H -> Prop} (h : r σ = some (.bool x)) (h2 : F x σ) : rdT r (.one (.sc .bool)) F σ := ⟨_, h, h2⟩
theorem rd_S {x : ByteArray} {F : ByteArray -> H -> Prop} (h : r σ = some (.string x)) (h2 : F x σ) : rdT r (.one (.sc .str)) F σ := ⟨_, h, h2⟩
theorem rd_P {x : Option Addr} {F : Option Addr -> H -> Prop} (h : r σ = some (.pointer x)) (h2 : F x σ) : rdT r (.one (.sc .ptr)) F σ := ⟨_, h, h2⟩
theorem rd_L {x : Option Addr} {n c : Nat} {F : Sl -> H -> Prop} (h : r σ = some (.slice x n c)) (h2 : F ⟨x, n, c⟩ σ) : rdT r (.one (.sc .slc)) F σ := ⟨_, h, h2⟩
theorem rd_M {x : Option Nat} {F : Option Nat -> H -> Prop} (h : r σ = some (.map x)) (h2 : F x σ) : rdT r (.one (.sc .map)) F σ := ⟨_, h, h2⟩
theorem rd_R {x : Value} {F : Value -> H -> Prop} (h : r σ = some x) (h2 : F x σ) : rdT r (.one (.sc .raw)) F σ := ⟨_, h, h2⟩
theorem rd_G {t : TK} {F : t.Fn (H -> Prop)} {v : Value} (h : r σ = some v) (h2 : app t F v σ) : rdT r t F σ := ⟨_, h, h2⟩
theorem app_I {n : Int} {k : IntKind} {F : Int -> H -> Prop} (h2 : F n σ) : app (.one (.sc (.int k))) F (.int k n) σ := by simp only [app, TK.prj, CK.prj, SK.prj, prjInt, sameK_self]; exact h2
theorem app_B {x : Bool} {F : Bool -> H -> Prop} (h2 : F x σ) : app (.one (.sc .bool)) F (.bool x) σ := h2
theorem app_S {x : ByteArray} {F : ByteArray -> H -> Prop} (h2 : F x σ) : app (.one (.sc .str)) F (.string x) σ := h2
theorem app_P {x : Option Addr} {F : Option Addr -> H -> Prop} (h2 : F x σ) : app (.one (.sc .ptr)) F (.pointer x) σ := h2
theorem app_L {x : Option Addr} {n c : Nat} {F : Sl -> H -> Prop} (h2 : F ⟨x, n, c⟩ σ) : app (.one (.sc .slc)) F (.slice x n c) σ := h2
theorem app_M {x : Option Nat} {F : Option Nat -> H -> Prop} (h2 : F x σ) : app (.one (.sc .map)) F (.map x) σ := h2
theorem app_R {x : Value} {F : Value -> H -> Prop} (h2 : F x σ) : app (.one (.sc .raw)) F x σ := h2
theorem app_U {F : H -> Prop} (h2 : F σ) : app (.tup []) F (.tuple ⟨[]⟩) σ := h2
theorem app_IB {a : Int} {b : Bool} {k : IntKind} {F : Int -> Bool -> H -> Prop} (h2 : F a b σ) : app (.tup [.sc (.int k), .sc .bool]) F (.tuple ⟨[.int k a, .bool b]⟩) σ := by
 simp only [app, TK.prj, CK.prj, SK.prj, prjInt, sameK_self, tupOf, prjC, prjBool]; exact h2
end
theorem call_i {f : FuncId} {args : List Value} {t : TK} {F : t.Fn (H -> Prop)} {σ : H} (h : callW P f args (app t F) σ) : callT P f args t F σ := h
theorem cval_i {g : FuncId} {as0 cs vs : List Value} {t : TK} {F : t.Fn (H -> Prop)} {σ : H} (hg : isGo P g = true) (h : callW P g (as0 ++ vs ++ cs) (app t F) σ) : cvalT P (.func (.func g) ⟨as0⟩ ⟨cs⟩) vs t F σ := by
 unfold cvalT callVW; simp only [hg]; exact h

theorem cvalv_i {fv : Value} {vs : List Value} {t : TK} {F : t.Fn (H -> Prop)} {σ : H} (h : callVW P fv vs (app t F) σ) : cvalT P fv vs t F σ := h

theorem run_storeCells_at {b : Nat} {t : TypeId} {fz : Nat × Nat} {o : Nat} : ∀ (vs : List Value) (i : Nat) (l : List Value) (w : World), w.heap[b]? = some (.cells ⟨l⟩ t fz) -> o + i + vs.length <= l.length -> (∀ v ∈ vs, v.oneCell' = true) -> (fz.2 <= fz.1 \/ l.length <= fz.1) ->
 (storeCells ⟨b, o, none⟩ vs i).run P w = .ok () { w with heap := w.heap.setIfInBounds b (.cells ⟨l.take (o + i) ++ vs ++ l.drop (o + i + vs.length)⟩ t fz) } := by
 intro vs
 induction vs with
 | nil =>
  intro i l w hb _ _ _
  have : (w.heap.setIfInBounds b (.cells ⟨l.take (o + i) ++ [] ++ l.drop (o + i + 0)⟩ t fz)) = w.heap := by
   simp only [List.append_nil, Nat.add_zero, List.take_append_drop]
   have hlt : b < w.heap.size := (Array.getElem?_eq_some_iff.1 hb).1
   apply Array.ext_getElem?
   intro k
   rw [Array.getElem?_setIfInBounds]
   split
   ·rename_i e; subst e; rw [hb]
   ·rfl
  simp only [List.length_nil, this, storeCells]
  rfl
 | cons v vs ih =>
  intro i l w hb hlen h1 hfz
  simp only [List.length_cons] at hlen
  have hi : o + i < l.length := by omega
  have hcell : w.cell? ⟨b, o + i, none⟩ = some l[o + i] := by simp [World.cell?, hb, hi]
  have hfro : w.frozen? ⟨b, o + i, none⟩ = false := by
   simp only [World.frozen?, hb, Bool.and_eq_false_iff, decide_eq_false_iff_not]
   obtain ⟨lo, hi'⟩ := fz
   simp only at hfz ⊢
   omega
  have hset : w.setCell ⟨b, o + i, none⟩ v = { w with heap := w.heap.setIfInBounds b (.cells ⟨l.set (o + i) v⟩ t fz) } := by
   have hlt : b < w.heap.size := (Array.getElem?_eq_some_iff.1 hb).1
   unfold World.setCell
   congr 1
   apply Array.ext_getElem?
   intro k
   rw [Array.getElem?_setIfInBounds, Array.getElem?_modify]
   split
   ·rename_i e; subst e; rw [hb]; simp
   ·rfl
  have hst : (store ((⟨b, o, none⟩ : Addr).add i) v).run P w = .ok () { w with heap := w.heap.setIfInBounds b (.cells ⟨l.set (o + i) v⟩ t fz) } := by
   rw [add_none, run_store P w _ v _ (h1 v (by simp)), hcell]
   simp [hfro, hset]
  have hlt : b < w.heap.size := (Array.getElem?_eq_some_iff.1 hb).1
  have := ih (i + 1) (l.set (o + i) v) { w with heap := w.heap.setIfInBounds b (.cells ⟨l.set (o + i) v⟩ t fz) } (by simp [hlt]) (by simp; omega) (fun x hx => h1 x (by simp [hx])) (by simpa using hfz)
  simp only [storeCells, Sem.run_bind, hst, Result.andThen_ok, this]
  congr 2
  have e1 : ∀ (x y : Obj), (w.heap.setIfInBounds b x).setIfInBounds b y = w.heap.setIfInBounds b y := by intro x y; simp
  rw [e1]
  congr 2
  congr 1
  have e2 : l.set (o + i) v = l.take (o + i) ++ v :: l.drop (o + i + 1) := by
   rw [List.set_eq_take_append_cons_drop, if_pos hi]
  have e3 : (l.take (o + i)).length = o + i := by simp; omega
  have e4 : (l.set (o + i) v).take (o + (i + 1)) = l.take (o + i) ++ [v] := by
   rw [e2, show o + (i + 1) = (l.take (o + i)).length + 1 by omega, List.take_length_add_append]; simp
  have e5 : (l.set (o + i) v).drop (o + (i + 1) + vs.length) = l.drop (o + i + (vs.length + 1)) := by
   rw [e2, show o + (i + 1) + vs.length = (l.take (o + i)).length + (vs.length + 1) by omega, List.drop_length_add_append]
   simp only [List.drop_succ_cons, List.drop_drop]
   congr 1; omega
  rw [e4, e5]; simp
theorem st_i {t : TypeId} {b o : Nat} {v : Value} {g : H -> Prop} {σ : H} {l : List Value} {e : TypeId} {fz : Nat × Nat} (hb : σ b = some (.cells ⟨l⟩ e fz)) (hs : sizeT P t = some (arrL v.cells).length) (ho : o + (arrL v.cells).length <= l.length)
 (h1 : ∀ x ∈ arrL v.cells, x.oneCell' = true) (hfz : fz.2 <= fz.1 \/ l.length <= fz.1) (h : ∀ σ', Put σ b (.cells ⟨l.take o ++ arrL v.cells ++ l.drop (o + (arrL v.cells).length)⟩ e fz) σ' -> g σ') : stW P t (.pointer (some ⟨b, o, none⟩)) v g σ := by
 intro w hw
 have hrun : (doS (Instr.storeAt t (.pointer (some ⟨b, o, none⟩)) v)).run P w = .ok .skip { w with heap := w.heap.setIfInBounds b (.cells ⟨l.take o ++ arrL v.cells ++ l.drop (o + (arrL v.cells).length)⟩ e fz) } := by
  have hsz : v.cells.size = (arrL v.cells).length := by cases hc : v.cells; simp [arrL]
  have hl : v.cells.toList = arrL v.cells := by cases hc : v.cells; simp [arrL]
  have := run_storeCells_at (P := P) (o := o) (arrL v.cells) 0 l w (hw b _ hb) (by simpa using ho) h1 hfz
  simp only [Nat.add_zero] at this
  simp only [doS, Instr.storeAt, Sem.run_bind, run_sureAddr, Result.andThen_ok, storeVar, run_sizeOf hs, hsz, ne_eq, not_true_eq_false, if_false, hl, this]
  rfl
 rw [hrun]
 exact ⟨_, Ext.set hw hb rfl rfl rfl rfl, h _ rfl⟩
theorem st_i2 {t : TypeId} {b o : Nat} {v : Value} {g : H -> Prop} {σ : H} {l : List Value} {e : TypeId} (hb : σ b = some (.cells ⟨l⟩ e (0, 0))) (hs : sizeT P t = some (arrL v.cells).length) (ho : Nat.ble (o + (arrL v.cells).length) l.length = true)
 (h1 : (arrL v.cells).all (·.oneCell') = true) (h : ∀ σ', Put σ b (.cells ⟨l.take o ++ arrL v.cells ++ l.drop (o + (arrL v.cells).length)⟩ e (0, 0)) σ' -> g σ') : stW P t (.pointer (some ⟨b, o, none⟩)) v g σ :=
 st_i hb hs (Nat.le_of_ble_eq_true ho) (fun x hx => List.all_eq_true.1 h1 x hx) (.inl (Nat.le_refl _)) h
end
theorem rdA_of' {σ : H} {n b o : Nat} {l r : List Value} {t : TypeId} {fz : Nat × Nat} (h : σ b = some (.cells ⟨l⟩ t fz)) (hv : (bif Nat.ble (o + n) l.length then some ((l.drop o).take n) else none) = some r) : rdA n b o σ = some (.agg ⟨r⟩) := by
 cases hb : Nat.ble (o + n) l.length with
 | false => rw [hb] at hv; cases hv
 | true =>
  rw [hb] at hv; cases hv
  exact rdA_of h (Nat.le_of_ble_eq_true hb)
theorem none_of {σ σ' : H} {b : Nat} (hg : Gr σ σ') (h : σ' b = none) : σ b = none := by
 cases hc : σ b with
 | none => rfl
 | some o => rw [hg b o hc] at h; cases h
theorem Gr.putF {σ σ1 σ2 : H} {b : Nat} {o : Obj} (hg : Gr σ σ1) (hp : Put σ1 b o σ2) (hn : σ b = none) : Gr σ σ2 := by
 intro c oc hc
 exact hp.get (ne_fresh hc hn) (hg c oc hc)
theorem pure_i {P : Program} {f : FuncId} {args : List Value} {K : KH} {σ : H} (v : Value) (hk : K v σ) (h : callW P f args (fun u σ' => u = v /\ Gr σ σ') σ) : callW P f args K σ := callW.pure h hk
end Go.HL

