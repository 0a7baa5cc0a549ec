/- A part of a proof. -/
import Derived.Test.YtpfkfphjigcdeaaGreatDoorVam
namespace Go.HL
open Go
instance : LawfulBEq ByteArray where
 eq_of_beq h := by rw [beq_toListBytes] at h; exact ba_ext (eq_of_beq h)
 rfl := by intro a; rw [beq_toListBytes]; simp
theorem strEq_iff {a b : ByteArray} : strEq a b = true ↔ a = b := by
 constructor
 ·intro h; exact ba_ext (eq_of_beq h)
 ·intro h; subst h; simp [strEq]
section
variable {κ α β : Type} [BEq κ] [LawfulBEq κ]
def keysL (l : List (κ × α)) : List κ := l.map (·.1)
theorem lk_up (k j : κ) (v : α) : ∀ l : List (κ × α), lk j (up k v l) = if j == k then some v else lk j l := by
 intro l
 induction l with
 | nil => simp only [up, lk]; cases h : (j == k) <;> simp
 | cons x l ih =>
  obtain ⟨i, u⟩ := x
  simp only [up]
  cases h : (k == i) with
  | true =>
   have := eq_of_beq h; subst this
   simp only [lk]
   cases (j == k) <;> simp
  | false =>
   simp only [lk]
   cases h2 : (j == i) with
   | true =>
    have := eq_of_beq h2; subst this
    have : (j == k) = false := by
     cases h3 : (j == k) with
     | false => rfl
     | true => have := eq_of_beq h3; subst this; simp at h
    simp [this]
   | false => simp [ih]
omit [LawfulBEq κ] in
theorem lk_map (f : α -> β) (k : κ) : ∀ l : List (κ × α), lk k (l.map fun p => (p.1, f p.2)) = (lk k l).map f := by
 intro l
 induction l with
 | nil => rfl
 | cons x l ih => obtain ⟨i, u⟩ := x; simp only [List.map_cons, lk]; cases (k == i) <;> simp [ih]
end
theorem ne_fr {σ : H} {b c : Nat} (hc : σ c = none) (hb : (σ b).isSome = true) : b ≠ c := by
 intro e; subst e; rw [hc] at hb; cases hb
theorem isSome_of {σ : H} {b : Nat} {o : Obj} (h : σ b = some o) : (σ b).isSome = true := by rw [h]; rfl
theorem Gr.isSome {σ σ' : H} {b : Nat} (hg : Gr σ σ') (h : (σ b).isSome = true) : (σ' b).isSome = true := by
 cases hb : σ b with
 | none => rw [hb] at h; cases h
 | some o => exact isSome_of (hg b o hb)
theorem Put.isSome {σ σ' : H} {b c : Nat} {o : Obj} (hp : Put σ c o σ') (h : (σ b).isSome = true) : (σ' b).isSome = true := by
 by_cases e : b = c
 ·subst e; exact isSome_of hp.same
 ·cases hb : σ b with
  | none => rw [hb] at h; cases h
  | some o => exact isSome_of (hp.get e hb)
theorem MapAt.isSome {σ : H} {b : Nat} {l : List (Value × Value)} (h : MapAt σ b l) : (σ b).isSome = true := by
 obtain ⟨_, _, h, _⟩ := h; exact isSome_of h
theorem io {σ : H} {b : Nat} {o : Obj} (h : σ b = some o) : (σ b).isSome = true := isSome_of h
theorem mS {σ : H} {b : Nat} {l : List (Value × Value)} (h : MapAt σ b l) : (σ b).isSome = true := h.isSome
theorem gS {σ σ' : H} {b : Nat} (hg : Gr σ σ') (h : (σ b).isSome = true) : (σ' b).isSome = true := hg.isSome h
theorem pS {σ σ' : H} {b c : Nat} {o : Obj} (hp : Put σ c o σ') (h : (σ b).isSome = true) : (σ' b).isSome = true := hp.isSome h
theorem gG {σ σ' : H} {b : Nat} {o : Obj} (hg : Gr σ σ') (h : σ b = some o) : σ' b = some o := hg.get h
theorem pE {σ σ' : H} {b : Nat} {o : Obj} (h : Put σ b o σ') : σ' b = some o := h.same
theorem pG {σ σ' : H} {b c : Nat} {o oc : Obj} (h : Put σ b o σ') (hne : c ≠ b) (hc : σ c = some oc) : σ' c = some oc := h.get hne hc
theorem nA {p : Prop} (h : p := by first | assumption | exact Ne.symm ‹_› | exact ne_fr ‹_› (by repeat (first | exact io ‹_› | exact mS ‹_› | refine gS ‹_› ?_ | refine pS ‹_› ?_)) | exact Ne.symm (ne_fr ‹_› (by repeat (first | exact io ‹_› | exact mS ‹_› | refine gS ‹_› ?_ | refine pS ‹_› ?_)))) : p := h
theorem gA {p : Prop} (h : p := by repeat (first | assumption | refine gG ‹_› ?_ | exact pE ‹_› | refine pG ‹_› (by exact nA) ?_)) : p := h
theorem szA {p : Prop} (h : p := by first | exact sz_int | exact sz_string | exact sz_bool | exact sz_Inode | exact sz_Quota | exact sz_MSI | exact sz_place | exact sz_Errno) : p := h
theorem app_of {t : TK} {F : t.Fn (H -> Prop)} {v : Value} {g : H -> Prop} {σ : H} (h : t.prj F v = some g) (hg : g σ) : app t F v σ := by
 unfold app runO; rw [h]; exact hg
theorem rdT_of {σ : H} {b o : Nat} {t : TK} {F : t.Fn (H -> Prop)} {l : List Value} {ty : TypeId} {fz : Nat × Nat} {v : Value} (h : σ b = some (.cells ⟨l⟩ ty fz)) (hv : l[o]? = some v) (h2 : app t F v σ) : rdT (rdC b o) t F σ := ⟨v, rdC_of h hv, h2⟩
theorem rdA_i {σ : H} {n b o : Nat} {t : TK} {F : t.Fn (H -> Prop)} {l r : List Value} {ty : TypeId} {fz : Nat × Nat} (h : σ b = some (.cells ⟨l⟩ ty fz)) (hv : (bif Nat.ble (o + n) l.length then some ((l.drop o).take n) else none) = some r) (h2 : app t F (.agg ⟨r⟩) σ) : rdT (rdA n b o) t F σ := ⟨_, rdA_of' h hv, h2⟩
theorem z2 {σ : H} {b o : Nat} {t : TK} {F : t.Fn (H -> Prop)} {l : List Value} {ty : TypeId} {fz : Nat × Nat} {v : Value} (h2 : app t F v σ) (h : σ b = some (.cells ⟨l⟩ ty fz) := by exact gA) (hv : l[o]? = some v := by rfl) : rdT (rdC b o) t F σ := ⟨v, rdC_of h hv, h2⟩
theorem z4 {σ : H} {g : H -> Prop} {b o : Nat} {l : List Value} {ty : TypeId} {fz : Nat × Nat} {v : Value} (h2 : g σ) (h : σ b = some (.cells ⟨l⟩ ty fz) := by exact gA) (hv : l[o]? = some v := by rfl) : andW (fun σ => rdC b o σ = some v) g σ := and_i (rdC_of h hv) h2
theorem z5 {σ : H} {n b o : Nat} {t : TK} {F : t.Fn (H -> Prop)} {l r : List Value} {ty : TypeId} {fz : Nat × Nat} (h2 : app t F (.agg ⟨r⟩) σ) (h : σ b = some (.cells ⟨l⟩ ty fz) := by exact gA) (hv : (bif Nat.ble (o + n) l.length then some ((l.drop o).take n) else none) = some r := by rfl) : rdT (rdA n b o) t F σ := ⟨_, rdA_of' h hv, h2⟩
theorem z6 {P : Program} {t : TypeId} {b o : Nat} {v : Value} {g : H -> Prop} {σ : H} {l : List Value} {e : TypeId} (h : ∀ σ', Put σ b (.cells ⟨l.take o ++ arrL v.cells ++ l.drop (o + (arrL v.cells).length)⟩ e (0, 0)) σ' -> g σ') (hb : σ b = some (.cells ⟨l⟩ e (0, 0)) := by exact gA) (hs : sizeT P t = some (arrL v.cells).length := by exact szA) (ho : Nat.ble (o + (arrL v.cells).length) l.length = true := by rfl) (h1 : (arrL v.cells).all (·.oneCell') = true := by rfl) : stW P t (.pointer (some ⟨b, o, none⟩)) v g σ := st_i2 hb hs ho h1 h
def Sep (σ : H) (B : Nat -> Prop) (σ' : H) (B' : Nat -> Prop) : Prop := ∀ b o, σ b = some o -> ¬ B b -> σ' b = some o /\ ¬ B' b
theorem Sep.refl (σ : H) (B : Nat -> Prop) : Sep σ B σ B := fun _ _ h k => ⟨h, k⟩
theorem Sep.trans {σ σ' σ'' : H} {B B' B'' : Nat -> Prop} (h : Sep σ B σ' B') (k : Sep σ' B' σ'' B'') : Sep σ B σ'' B'' := fun b o hb hn => k b o (h b o hb hn).1 (h b o hb hn).2
theorem Sep.gr {σ σ' : H} {B : Nat -> Prop} (h : Gr σ σ') : Sep σ B σ' B := fun b o hb hn => ⟨h.get hb, hn⟩
end Go.HL

