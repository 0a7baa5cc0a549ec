/- A part of the proof: LookKnown holds. -/
import Derived.Test.YtgfiobhpipollaaGreatDoorNaq
namespace Go.HL
open Go
def OwnK (D : Nat -> Prop) (σ σ' : H) : Prop := ∀ b o, D b -> σ b = some o -> σ' b = some o
theorem OwnK.trans {D : Nat -> Prop} {σ σ' σ'' : H} (h : OwnK D σ σ') (k : OwnK D σ' σ'') : OwnK D σ σ'' := fun b o hd hb => k b o hd (h b o hd hb)
theorem OwnK.gr {D : Nat -> Prop} {σ σ' : H} (h : Gr σ σ') : OwnK D σ σ' := fun _ _ _ hb => h.get hb
theorem yv_call {P : Program} {l : Nat} {args : List Value} {K : KH} {σ : H} (h : invW P (callS (yv l) args) K σ) : callVW P (yv l) args K σ := h
theorem at_toList {s : ByteArray} {i : Nat} {c : UInt8} (h : s.data.toList[i]? = some c) : s[i]? = some c := by
 have hl : s.data.toList.length = s.size := rfl
 have hi : i < s.size := by
  rcases Nat.lt_or_ge i s.data.toList.length with h' | h'
  ·omega
  ·rw [List.getElem?_eq_none h'] at h; cases h
 rw [getElem?_pos s i hi]
 rw [List.getElem?_eq_getElem (by omega)] at h
 have : s[i] = s.data.toList[i] := by simp [ByteArray.getElem_eq_getElem_data]
 rw [this]; exact h
theorem idx_l {s : ByteArray} {i : Int} {g : UInt8 -> H -> Prop} {σ : H} {c : UInt8} (h0 : 0 <= i) (h : s.data.toList[i.toNat]? = some c) (hg : g c σ) : idxW s i g σ := by
 unfold idxW; rw [if_pos h0, at_toList h]; exact hg
theorem bnd_none {m : Nat} : bndOk none m := trivial
theorem bnd_some {x : Int} {m : Nat} (h0 : 0 <= x) (h1 : x <= m) : bndOk (some x) m := ⟨h0, h1⟩

section
variable {P : Program}
theorem fun_i {g : FuncId} {as_ cs : List Value} {F : FuncId -> List Value -> List Value -> H -> Prop} {σ : H} (h : F g as_ cs σ) : funW (.func (.func g) ⟨as_⟩ ⟨cs⟩) F σ := h
theorem rf_i {g : FuncId} {as_ cs : List Value} {ks : List CK} {body : (l : Nat) -> (LoopState -> Option Code -> Obj) -> (Value -> H -> Prop) -> FnC ks (H -> Prop)} {Kn : H -> Prop} {Kx : Nat -> H -> Prop} {Kr : H -> Prop} {σ : H} (hg : isGo P g = true)
 (h : ∀ l obj σ', σ l = none -> Put σ l (obj .ready none) σ' -> LoopObj obj -> YieldOk P l (fun args K σ' => σ' l = some (obj .ready none) /\ runO (prjC ks (body l obj K) args) σ') -> callW P g (as_ ++ [yv l] ++ cs) (fun _ => endK l obj Kn Kx Kr) σ') : rfW P none g as_ cs ks body Kn Kx Kr σ :=
 ⟨hg, (fun _ h => by cases h), fun l obj h1 h2 h3 => h l obj _ h1 rfl h2 h3⟩
theorem beg_i {l : Nat} {obj : LoopState -> Option Code -> Obj} {g : H -> Prop} {σ : H} (h : σ l = some (obj .ready none)) (hg : ∀ σ', Put σ l (obj .busy none) σ' -> g σ') : begW l obj g σ := ⟨h, hg _ rfl⟩
theorem round_i {l : Nat} {obj : LoopState -> Option Code -> Obj} {K : KH} {j : Option Code} {b : Bool} {s : LoopState} {σ : H} (h : σ l = some (obj .busy none)) (hk : ∀ σ', Put σ l (obj s j) σ' -> K (.bool b) σ') : roundK l obj K j b s σ := ⟨h, hk _ rfl⟩
theorem end_n {l : Nat} {obj : LoopState -> Option Code -> Obj} {Kn : H -> Prop} {Kx : Nat -> H -> Prop} {Kr : H -> Prop} {σ : H} {s : LoopState} (h : σ l = some (obj s none)) (hs : s ≠ .busy) (hk : ∀ σ', Put σ l (obj .exhausted none) σ' -> Kn σ') : endK l obj Kn Kx Kr σ := ⟨s, none, h, hs, hk _ rfl⟩
end
theorem rdA_gr {τ σ : H} (hg : Gr τ σ) {n b o : Nat} {v : Value} (h : rdA n b o τ = some v) : rdA n b o σ = some v := by
 unfold rdA at h ⊢
 cases hb : τ b with
 | none => rw [hb] at h; cases h
 | some ob => rw [hg.get hb]; rw [hb] at h; exact h
end Go.HL

