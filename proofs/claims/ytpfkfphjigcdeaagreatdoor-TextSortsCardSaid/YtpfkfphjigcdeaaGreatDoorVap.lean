/- A part of a proof. -/
import Derived.Test.YtpfkfphjigcdeaaGreatDoorVao
namespace Go.HL
open Go
def OwnK (D : Nat -> Prop) (σ σ' : H) : Prop := ∀ b o, D b -> σ b = some o -> σ' b = some o
theorem OwnK.refl (D : Nat -> Prop) (σ : H) : OwnK D σ σ := fun _ _ _ h => h
theorem OwnK.trans {D : Nat -> Prop} {σ σ' σ'' : H} (h : OwnK D σ σ') (k : OwnK D σ' σ'') : OwnK D σ σ'' := fun b o hd hb => k b o hd (h b o hd hb)
theorem OwnK.gr {D : Nat -> Prop} {σ σ' : H} (h : Gr σ σ') : OwnK D σ σ' := fun _ _ _ hb => h.get hb
theorem OwnK.put {D : Nat -> Prop} {σ σ' σ'' : H} {b : Nat} {o : Obj} (h : OwnK D σ σ') (hp : Put σ' b o σ'') (hd : ¬ D b) : OwnK D σ σ'' :=
 fun c oc hc hb => hp.get (fun e => hd (e ▸ hc)) (h c oc hc hb)
structure Cl {ι : Type} (P : Program) (y : Value) (D : Nat -> Prop) (R : ι -> List Value -> H -> Prop) (I : List ι -> H -> Prop) (S : H -> Prop) : Prop where
 put : ∀ r σ b o σ', I r σ -> D b -> Put σ b o σ' -> I r σ'
 putS : ∀ σ b o σ', S σ -> D b -> Put σ b o σ' -> S σ'
 gr : ∀ r σ σ', I r σ -> Gr σ σ' -> I r σ'
 grS : ∀ σ σ', S σ -> Gr σ σ' -> S σ'
 call : ∀ a r args σ K, I (a :: r) σ -> R a args σ -> (∀ σ', I r σ' -> OwnK D σ σ' -> K (.bool true) σ') -> (∀ σ', S σ' -> OwnK D σ σ' -> K (.bool false) σ') -> callVW P y args K σ
theorem yv_call {P : Program} {l : Nat} {args : List Value} {K : KH} {σ : H} (h : invW P (callS (yv l) args) K σ) : callVW P (yv l) args K σ := h
theorem callW.pureP {P : Program} {f : FuncId} {args : List Value} {K : KH} {σ : H} {b : Nat} {o : Obj} {v : Value} (h : callW P f args (fun u σ' => u = v /\ Gr (σ.put b o) σ') σ) (hk : ∀ σ', Put σ b o σ' -> K v σ') : callW P f args K σ :=
 h.drop fun _ _ ⟨hu, hg⟩ => ⟨σ.put b o, hg, hu ▸ hk _ rfl⟩
theorem at_toList {s : ByteArray} {i : Nat} {c : UInt8} (h : s.data.toList[i]? = some c) : s[i]? = some c := by
 have hl : s.data.toList.length = s.size := rfl
 have hi : i < s.size := by
  rcases Nat.lt_or_ge i s.data.toList.length with h' | h'
  ·omega
  ·rw [List.getElem?_eq_none h'] at h; cases h
 rw [getElem?_pos s i hi]
 rw [List.getElem?_eq_getElem (by omega)] at h
 have : s[i] = s.data.toList[i] := by simp [ByteArray.getElem_eq_getElem_data]
 rw [this]; exact h
theorem idx_l {s : ByteArray} {i : Int} {g : UInt8 -> H -> Prop} {σ : H} {c : UInt8} (h0 : 0 <= i) (h : s.data.toList[i.toNat]? = some c) (hg : g c σ) : idxW s i g σ := by
 unfold idxW; rw [if_pos h0, at_toList h]; exact hg
theorem bnd_none {m : Nat} : bndOk none m := trivial
theorem bnd_some {x : Int} {m : Nat} (h0 : 0 <= x) (h1 : x <= m) : bndOk (some x) m := ⟨h0, h1⟩

section
variable {P : Program}
theorem fun_i {g : FuncId} {as_ cs : List Value} {F : FuncId -> List Value -> List Value -> H -> Prop} {σ : H} (h : F g as_ cs σ) : funW (.func (.func g) ⟨as_⟩ ⟨cs⟩) F σ := h
theorem rf_i {g : FuncId} {as_ cs : List Value} {ks : List CK} {body : (l : Nat) -> (LoopState -> Option Code -> Obj) -> (Value -> H -> Prop) -> FnC ks (H -> Prop)} {Kn : H -> Prop} {Kx : Nat -> H -> Prop} {Kr : H -> Prop} {σ : H} (hg : isGo P g = true)
 (h : ∀ l obj σ', σ l = none -> Put σ l (obj .ready none) σ' -> LoopObj obj -> YieldOk P l (fun args K σ' => σ' l = some (obj .ready none) /\ runO (prjC ks (body l obj K) args) σ') -> callW P g (as_ ++ [yv l] ++ cs) (fun _ => endK l obj Kn Kx Kr) σ') : rfW P none g as_ cs ks body Kn Kx Kr σ :=
 ⟨hg, (fun _ h => by cases h), fun l obj h1 h2 h3 => h l obj _ h1 rfl h2 h3⟩
theorem beg_i {l : Nat} {obj : LoopState -> Option Code -> Obj} {g : H -> Prop} {σ : H} (h : σ l = some (obj .ready none)) (hg : ∀ σ', Put σ l (obj .busy none) σ' -> g σ') : begW l obj g σ := ⟨h, hg _ rfl⟩
theorem round_i {l : Nat} {obj : LoopState -> Option Code -> Obj} {K : KH} {j : Option Code} {b : Bool} {s : LoopState} {σ : H} (h : σ l = some (obj .busy none)) (hk : ∀ σ', Put σ l (obj s j) σ' -> K (.bool b) σ') : roundK l obj K j b s σ := ⟨h, hk _ rfl⟩
theorem end_n {l : Nat} {obj : LoopState -> Option Code -> Obj} {Kn : H -> Prop} {Kx : Nat -> H -> Prop} {Kr : H -> Prop} {σ : H} {s : LoopState} (h : σ l = some (obj s none)) (hs : s ≠ .busy) (hk : ∀ σ', Put σ l (obj .exhausted none) σ' -> Kn σ') : endK l obj Kn Kx Kr σ := ⟨s, none, h, hs, hk _ rfl⟩
theorem end_r {l : Nat} {obj : LoopState -> Option Code -> Obj} {Kn : H -> Prop} {Kx : Nat -> H -> Prop} {Kr : H -> Prop} {σ : H} {s : LoopState} (h : σ l = some (obj s (some .ret))) (hs : s ≠ .busy) (hk : ∀ σ', Put σ l (obj .exhausted (some .ret)) σ' -> Kr σ') : endK l obj Kn Kx Kr σ := ⟨s, _, h, hs, hk _ rfl⟩
end
theorem rdC_gr {τ σ : H} (hg : Gr τ σ) {b o : Nat} {v : Value} (h : rdC b o τ = some v) : rdC b o σ = some v := by
 unfold rdC at h ⊢
 cases hb : τ b with
 | none => rw [hb] at h; cases h
 | some ob => rw [hg.get hb]; rw [hb] at h; exact h
end Go.HL

