/- A part of the proof: In which order things are made, and where they lay ahead, changes nothing of the tree. -/
import Derived.Test.YtlpcehbfoogejaaGreatDoorOap
import Derived.Laws.StandIn
/- THE TABLE OF INODES: Move, New. -/
set_option maxRecDepth 100000
namespace Go.Proofs.YtlpcehbfoogejaaGreatDoor
open Go Go.HL Go.Wk
attribute [local irreducible] ptrW ifW brW andW rdT alW letJ stW muW biW vaW imW callT cvalT app callW invW callVW sizeT oW nilF oneK loopW rfW funW begW roundK exW idxW Gr Put
theorem s_Move1 {σ : H} {bt : Nat} {T : Tb} (hT : TAt σ bt T) {b1 b2 b3 : Nat} {to ino : Int} {t1 t2 t3 : TypeId} (h1 : σ b1 = some (.cells ⟨[.int .i64 to]⟩ t1 (0, 0))) (h2 : σ b2 = some (.cells ⟨[.pointer (some ⟨bt, 0, none⟩)]⟩ t2 (0, 0))) (h3 : σ b3 = some (.cells ⟨[.int .i64 ino]⟩ t3 (0, 0))) {f : Nat} {r : Bool} (hr : T.abs.apart ino f to = some r) {K : Value → H → Prop}
    (hK : K (.int .i64 (if r then 0 else 2)) σ) : callW Tryz.prog 134 [.pointer (some ⟨b1, 0, none⟩), .pointer (some ⟨b2, 0, none⟩), .pointer (some ⟨b3, 0, none⟩)] K σ := by
  refine c134 _ _ _ ?_
  unfold g134
  have hc := hT.cells
  unfold Tb.cells at hc
  (repeat (first | refine ptr_i ?_ | refine rdT_of (by repeat (first | assumption | refine gG ‹_› ?_ | exact pE ‹_› | refine pG ‹_› (by first | assumption | exact Ne.symm ‹_› | exact ne_fr ‹_› (by repeat (first | exact io ‹_› | exact mS ‹_› | refine gS ‹_› ?_ | refine pS ‹_› ?_)) | exact Ne.symm (ne_fr ‹_› (by repeat (first | exact io ‹_› | exact mS ‹_› | refine gS ‹_› ?_ | refine pS ‹_› ?_)))) ?_)) (by rfl) ?_ | (refine al_i ?_; intro _ _ _ _ _) | refine and_i (rdC_of (by repeat (first | assumption | refine gG ‹_› ?_ | exact pE ‹_› | refine pG ‹_› (by first | assumption | exact Ne.symm ‹_› | exact ne_fr ‹_› (by repeat (first | exact io ‹_› | exact mS ‹_› | refine gS ‹_› ?_ | refine pS ‹_› ?_)) | exact Ne.symm (ne_fr ‹_› (by repeat (first | exact io ‹_› | exact mS ‹_› | refine gS ‹_› ?_ | refine pS ‹_› ?_)))) ?_)) (by rfl)) ?_ | refine rdA_i (by repeat (first | assumption | refine gG ‹_› ?_ | exact pE ‹_› | refine pG ‹_› (by first | assumption | exact Ne.symm ‹_› | exact ne_fr ‹_› (by repeat (first | exact io ‹_› | exact mS ‹_› | refine gS ‹_› ?_ | refine pS ‹_› ?_)) | exact Ne.symm (ne_fr ‹_› (by repeat (first | exact io ‹_› | exact mS ‹_› | refine gS ‹_› ?_ | refine pS ‹_› ?_)))) ?_)) (by rfl) ?_ | (refine st_i2 (by repeat (first | assumption | refine gG ‹_› ?_ | exact pE ‹_› | refine pG ‹_› (by first | assumption | exact Ne.symm ‹_› | exact ne_fr ‹_› (by repeat (first | exact io ‹_› | exact mS ‹_› | refine gS ‹_› ?_ | refine pS ‹_› ?_)) | exact Ne.symm (ne_fr ‹_› (by repeat (first | exact io ‹_› | exact mS ‹_› | refine gS ‹_› ?_ | refine pS ‹_› ?_)))) ?_)) (by first | exact sz_int | exact sz_string | exact sz_bool | exact sz_Inode | exact sz_Quota | exact sz_MSI | exact sz_place | exact sz_Errno) (by rfl) (by rfl) ?_; intro _ _) | refine app_P ?_ | refine app_I ?_ | refine app_S ?_ | refine app_B ?_ | refine app_M ?_ | refine app_L ?_ | refine app_U ?_ | refine app_R ?_ | (refine app_of rfl ?_; try dsimp only)))
  refine loop_i ?_
  intro R hR
  have key : ∀ f at_, T.abs.apart ino f at_ = some r → R (some ⟨b2, 0, none⟩) (some ⟨b3, 0, none⟩) at_ σ := by
    intro f
    induction f with
    | zero => intro at_ h; cases h
    | succ f ih =>
      intro at_ h
      refine hR _ _ _ _ ?_
      unfold AT.apart at h
      by_cases ha : at_ = 1
      · rw [if_pos ha] at h; cases h
        exact br_f (by simp [ha]) hK
      rw [if_neg ha] at h
      refine br_t (by simpa using ha) ?_
      (repeat (first | refine ptr_i ?_ | refine rdT_of (by repeat (first | assumption | refine gG ‹_› ?_ | exact pE ‹_› | refine pG ‹_› (by first | assumption | exact Ne.symm ‹_› | exact ne_fr ‹_› (by repeat (first | exact io ‹_› | exact mS ‹_› | refine gS ‹_› ?_ | refine pS ‹_› ?_)) | exact Ne.symm (ne_fr ‹_› (by repeat (first | exact io ‹_› | exact mS ‹_› | refine gS ‹_› ?_ | refine pS ‹_› ?_)))) ?_)) (by rfl) ?_ | (refine al_i ?_; intro _ _ _ _ _) | refine and_i (rdC_of (by repeat (first | assumption | refine gG ‹_› ?_ | exact pE ‹_› | refine pG ‹_› (by first | assumption | exact Ne.symm ‹_› | exact ne_fr ‹_› (by repeat (first | exact io ‹_› | exact mS ‹_› | refine gS ‹_› ?_ | refine pS ‹_› ?_)) | exact Ne.symm (ne_fr ‹_› (by repeat (first | exact io ‹_› | exact mS ‹_› | refine gS ‹_› ?_ | refine pS ‹_› ?_)))) ?_)) (by rfl)) ?_ | refine rdA_i (by repeat (first | assumption | refine gG ‹_› ?_ | exact pE ‹_› | refine pG ‹_› (by first | assumption | exact Ne.symm ‹_› | exact ne_fr ‹_› (by repeat (first | exact io ‹_› | exact mS ‹_› | refine gS ‹_› ?_ | refine pS ‹_› ?_)) | exact Ne.symm (ne_fr ‹_› (by repeat (first | exact io ‹_› | exact mS ‹_› | refine gS ‹_› ?_ | refine pS ‹_› ?_)))) ?_)) (by rfl) ?_ | (refine st_i2 (by repeat (first | assumption | refine gG ‹_› ?_ | exact pE ‹_› | refine pG ‹_› (by first | assumption | exact Ne.symm ‹_› | exact ne_fr ‹_› (by repeat (first | exact io ‹_› | exact mS ‹_› | refine gS ‹_› ?_ | refine pS ‹_› ?_)) | exact Ne.symm (ne_fr ‹_› (by repeat (first | exact io ‹_› | exact mS ‹_› | refine gS ‹_› ?_ | refine pS ‹_› ?_)))) ?_)) (by first | exact sz_int | exact sz_string | exact sz_bool | exact sz_Inode | exact sz_Quota | exact sz_MSI | exact sz_place | exact sz_Errno) (by rfl) (by rfl) ?_; intro _ _) | refine app_P ?_ | refine app_I ?_ | refine app_S ?_ | refine app_B ?_ | refine app_M ?_ | refine app_L ?_ | refine app_U ?_ | refine app_R ?_ | (refine app_of rfl ?_; try dsimp only)))
      by_cases hi : at_ = ino
      · rw [if_pos hi] at h; cases h
        exact br_t (by simpa using hi) hK
      rw [if_neg hi] at h
      refine br_f (by simpa using hi) ?_
      (repeat (first | refine ptr_i ?_ | refine rdT_of (by repeat (first | assumption | refine gG ‹_› ?_ | exact pE ‹_› | refine pG ‹_› (by first | assumption | exact Ne.symm ‹_› | exact ne_fr ‹_› (by repeat (first | exact io ‹_› | exact mS ‹_› | refine gS ‹_› ?_ | refine pS ‹_› ?_)) | exact Ne.symm (ne_fr ‹_› (by repeat (first | exact io ‹_› | exact mS ‹_› | refine gS ‹_› ?_ | refine pS ‹_› ?_)))) ?_)) (by rfl) ?_ | (refine al_i ?_; intro _ _ _ _ _) | refine and_i (rdC_of (by repeat (first | assumption | refine gG ‹_› ?_ | exact pE ‹_› | refine pG ‹_› (by first | assumption | exact Ne.symm ‹_› | exact ne_fr ‹_› (by repeat (first | exact io ‹_› | exact mS ‹_› | refine gS ‹_› ?_ | refine pS ‹_› ?_)) | exact Ne.symm (ne_fr ‹_› (by repeat (first | exact io ‹_› | exact mS ‹_› | refine gS ‹_› ?_ | refine pS ‹_› ?_)))) ?_)) (by rfl)) ?_ | refine rdA_i (by repeat (first | assumption | refine gG ‹_› ?_ | exact pE ‹_› | refine pG ‹_› (by first | assumption | exact Ne.symm ‹_› | exact ne_fr ‹_› (by repeat (first | exact io ‹_› | exact mS ‹_› | refine gS ‹_› ?_ | refine pS ‹_› ?_)) | exact Ne.symm (ne_fr ‹_› (by repeat (first | exact io ‹_› | exact mS ‹_› | refine gS ‹_› ?_ | refine pS ‹_› ?_)))) ?_)) (by rfl) ?_ | (refine st_i2 (by repeat (first | assumption | refine gG ‹_› ?_ | exact pE ‹_› | refine pG ‹_› (by first | assumption | exact Ne.symm ‹_› | exact ne_fr ‹_› (by repeat (first | exact io ‹_› | exact mS ‹_› | refine gS ‹_› ?_ | refine pS ‹_› ?_)) | exact Ne.symm (ne_fr ‹_› (by repeat (first | exact io ‹_› | exact mS ‹_› | refine gS ‹_› ?_ | refine pS ‹_› ?_)))) ?_)) (by first | exact sz_int | exact sz_string | exact sz_bool | exact sz_Inode | exact sz_Quota | exact sz_MSI | exact sz_place | exact sz_Errno) (by rfl) (by rfl) ?_; intro _ _) | refine app_P ?_ | refine app_I ?_ | refine app_S ?_ | refine app_B ?_ | refine app_M ?_ | refine app_L ?_ | refine app_U ?_ | refine app_R ?_ | (refine app_of rfl ?_; try dsimp only)))
      rw [abs_get] at h
      cases hn : T.get at_ with
      | none => rw [hn] at h; cases h
      | some n =>
        rw [hn] at h
        refine rdN hT hn ?_
        have cN := (hT.get hn).cells
        unfold Nd.cells at cN
        (repeat (first | refine ptr_i ?_ | refine rdT_of (by repeat (first | assumption | refine gG ‹_› ?_ | exact pE ‹_› | refine pG ‹_› (by first | assumption | exact Ne.symm ‹_› | exact ne_fr ‹_› (by repeat (first | exact io ‹_› | exact mS ‹_› | refine gS ‹_› ?_ | refine pS ‹_› ?_)) | exact Ne.symm (ne_fr ‹_› (by repeat (first | exact io ‹_› | exact mS ‹_› | refine gS ‹_› ?_ | refine pS ‹_› ?_)))) ?_)) (by rfl) ?_ | (refine al_i ?_; intro _ _ _ _ _) | refine and_i (rdC_of (by repeat (first | assumption | refine gG ‹_› ?_ | exact pE ‹_› | refine pG ‹_› (by first | assumption | exact Ne.symm ‹_› | exact ne_fr ‹_› (by repeat (first | exact io ‹_› | exact mS ‹_› | refine gS ‹_› ?_ | refine pS ‹_› ?_)) | exact Ne.symm (ne_fr ‹_› (by repeat (first | exact io ‹_› | exact mS ‹_› | refine gS ‹_› ?_ | refine pS ‹_› ?_)))) ?_)) (by rfl)) ?_ | refine rdA_i (by repeat (first | assumption | refine gG ‹_› ?_ | exact pE ‹_› | refine pG ‹_› (by first | assumption | exact Ne.symm ‹_› | exact ne_fr ‹_› (by repeat (first | exact io ‹_› | exact mS ‹_› | refine gS ‹_› ?_ | refine pS ‹_› ?_)) | exact Ne.symm (ne_fr ‹_› (by repeat (first | exact io ‹_› | exact mS ‹_› | refine gS ‹_› ?_ | refine pS ‹_› ?_)))) ?_)) (by rfl) ?_ | (refine st_i2 (by repeat (first | assumption | refine gG ‹_› ?_ | exact pE ‹_› | refine pG ‹_› (by first | assumption | exact Ne.symm ‹_› | exact ne_fr ‹_› (by repeat (first | exact io ‹_› | exact mS ‹_› | refine gS ‹_› ?_ | refine pS ‹_› ?_)) | exact Ne.symm (ne_fr ‹_› (by repeat (first | exact io ‹_› | exact mS ‹_› | refine gS ‹_› ?_ | refine pS ‹_› ?_)))) ?_)) (by first | exact sz_int | exact sz_string | exact sz_bool | exact sz_Inode | exact sz_Quota | exact sz_MSI | exact sz_place | exact sz_Errno) (by rfl) (by rfl) ?_; intro _ _) | refine app_P ?_ | refine app_I ?_ | refine app_S ?_ | refine app_B ?_ | refine app_M ?_ | refine app_L ?_ | refine app_U ?_ | refine app_R ?_ | (refine app_of rfl ?_; try dsimp only)))
        exact ih _ h
  exact key f to hr
/-- Move: what it answers, and what comes of it; fuel: how far up is gone -/
theorem s_Move (hC : CAny) {σ : H} {bt : Nat} {A : AT} {B : Nat → Prop} (hA : TabAt σ bt A B) (src : Int) (name : ByteArray) (to : Int) (as_ : ByteArray) (hd : ∀ j, A.find src name = some j → (A.get j).isSome = true) (f : Nat)
    (hf : A.moveE1 src name to as_ = 0 → (A.apart ((A.find src name).getD 0) f to).isSome = true) {K : Value → H → Prop}
    (hK : ∀ σ' B', TabAt σ' bt (AT.moveR A src name to as_ f).2 B' → Sep σ B σ' B' → K (.int .i64 (AT.moveR A src name to as_ f).1) σ') :
    callW Tryz.prog 81 [.pointer (some ⟨bt, 0, none⟩), .int .i64 src, .string name, .int .i64 to, .string as_] K σ := by
  obtain ⟨T, hT, hO, rfl, hB⟩ := hA
  have hc0 := hT.cells
  refine c81 _ _ _ _ _ ?_
  unfold g81
  refine al_i ?_; intro b6 σ1 g1 e1 n1
  refine al_i ?_; intro b7 σ2 g2 e2 n2
  (repeat (first | refine ptr_i ?_ | refine rdT_of (by repeat (first | assumption | refine gG ‹_› ?_ | exact pE ‹_› | refine pG ‹_› (by first | assumption | exact Ne.symm ‹_› | exact ne_fr ‹_› (by repeat (first | exact io ‹_› | exact mS ‹_› | refine gS ‹_› ?_ | refine pS ‹_› ?_)) | exact Ne.symm (ne_fr ‹_› (by repeat (first | exact io ‹_› | exact mS ‹_› | refine gS ‹_› ?_ | refine pS ‹_› ?_)))) ?_)) (by rfl) ?_ | (refine al_i ?_; intro _ _ _ _ _) | refine and_i (rdC_of (by repeat (first | assumption | refine gG ‹_› ?_ | exact pE ‹_› | refine pG ‹_› (by first | assumption | exact Ne.symm ‹_› | exact ne_fr ‹_› (by repeat (first | exact io ‹_› | exact mS ‹_› | refine gS ‹_› ?_ | refine pS ‹_› ?_)) | exact Ne.symm (ne_fr ‹_› (by repeat (first | exact io ‹_› | exact mS ‹_› | refine gS ‹_› ?_ | refine pS ‹_› ?_)))) ?_)) (by rfl)) ?_ | refine rdA_i (by repeat (first | assumption | refine gG ‹_› ?_ | exact pE ‹_› | refine pG ‹_› (by first | assumption | exact Ne.symm ‹_› | exact ne_fr ‹_› (by repeat (first | exact io ‹_› | exact mS ‹_› | refine gS ‹_› ?_ | refine pS ‹_› ?_)) | exact Ne.symm (ne_fr ‹_› (by repeat (first | exact io ‹_› | exact mS ‹_› | refine gS ‹_› ?_ | refine pS ‹_› ?_)))) ?_)) (by rfl) ?_ | (refine st_i2 (by repeat (first | assumption | refine gG ‹_› ?_ | exact pE ‹_› | refine pG ‹_› (by first | assumption | exact Ne.symm ‹_› | exact ne_fr ‹_› (by repeat (first | exact io ‹_› | exact mS ‹_› | refine gS ‹_› ?_ | refine pS ‹_› ?_)) | exact Ne.symm (ne_fr ‹_› (by repeat (first | exact io ‹_› | exact mS ‹_› | refine gS ‹_› ?_ | refine pS ‹_› ?_)))) ?_)) (by first | exact sz_int | exact sz_string | exact sz_bool | exact sz_Inode | exact sz_Quota | exact sz_MSI | exact sz_place | exact sz_Errno) (by rfl) (by rfl) ?_; intro _ _) | refine app_P ?_ | refine app_I ?_ | refine app_S ?_ | refine app_B ?_ | refine app_M ?_ | refine app_L ?_ | refine app_U ?_ | refine app_R ?_ | (refine app_of rfl ?_; try dsimp only)))
  refine call_i (s_dir _ _ ?_)
  intro c1 c2 σ5 g5 f1 f2
  refine app_R ?_
  (repeat (first | refine ptr_i ?_ | refine rdT_of (by repeat (first | assumption | refine gG ‹_› ?_ | exact pE ‹_› | refine pG ‹_› (by first | assumption | exact Ne.symm ‹_› | exact ne_fr ‹_› (by repeat (first | exact io ‹_› | exact mS ‹_› | refine gS ‹_› ?_ | refine pS ‹_› ?_)) | exact Ne.symm (ne_fr ‹_› (by repeat (first | exact io ‹_› | exact mS ‹_› | refine gS ‹_› ?_ | refine pS ‹_› ?_)))) ?_)) (by rfl) ?_ | (refine al_i ?_; intro _ _ _ _ _) | refine and_i (rdC_of (by repeat (first | assumption | refine gG ‹_› ?_ | exact pE ‹_› | refine pG ‹_› (by first | assumption | exact Ne.symm ‹_› | exact ne_fr ‹_› (by repeat (first | exact io ‹_› | exact mS ‹_› | refine gS ‹_› ?_ | refine pS ‹_› ?_)) | exact Ne.symm (ne_fr ‹_› (by repeat (first | exact io ‹_› | exact mS ‹_› | refine gS ‹_› ?_ | refine pS ‹_› ?_)))) ?_)) (by rfl)) ?_ | refine rdA_i (by repeat (first | assumption | refine gG ‹_› ?_ | exact pE ‹_› | refine pG ‹_› (by first | assumption | exact Ne.symm ‹_› | exact ne_fr ‹_› (by repeat (first | exact io ‹_› | exact mS ‹_› | refine gS ‹_› ?_ | refine pS ‹_› ?_)) | exact Ne.symm (ne_fr ‹_› (by repeat (first | exact io ‹_› | exact mS ‹_› | refine gS ‹_› ?_ | refine pS ‹_› ?_)))) ?_)) (by rfl) ?_ | (refine st_i2 (by repeat (first | assumption | refine gG ‹_› ?_ | exact pE ‹_› | refine pG ‹_› (by first | assumption | exact Ne.symm ‹_› | exact ne_fr ‹_› (by repeat (first | exact io ‹_› | exact mS ‹_› | refine gS ‹_› ?_ | refine pS ‹_› ?_)) | exact Ne.symm (ne_fr ‹_› (by repeat (first | exact io ‹_› | exact mS ‹_› | refine gS ‹_› ?_ | refine pS ‹_› ?_)))) ?_)) (by first | exact sz_int | exact sz_string | exact sz_bool | exact sz_Inode | exact sz_Quota | exact sz_MSI | exact sz_place | exact sz_Errno) (by rfl) (by rfl) ?_; intro _ _) | refine app_P ?_ | refine app_I ?_ | refine app_S ?_ | refine app_B ?_ | refine app_M ?_ | refine app_L ?_ | refine app_U ?_ | refine app_R ?_ | (refine app_of rfl ?_; try dsimp only)))
  refine call_i (s_dir _ _ ?_)
  intro d1 d2 σ6 g6 f3 f4
  refine app_R ?_
  (repeat (first | refine ptr_i ?_ | refine rdT_of (by repeat (first | assumption | refine gG ‹_› ?_ | exact pE ‹_› | refine pG ‹_› (by first | assumption | exact Ne.symm ‹_› | exact ne_fr ‹_› (by repeat (first | exact io ‹_› | exact mS ‹_› | refine gS ‹_› ?_ | refine pS ‹_› ?_)) | exact Ne.symm (ne_fr ‹_› (by repeat (first | exact io ‹_› | exact mS ‹_› | refine gS ‹_› ?_ | refine pS ‹_› ?_)))) ?_)) (by rfl) ?_ | (refine al_i ?_; intro _ _ _ _ _) | refine and_i (rdC_of (by repeat (first | assumption | refine gG ‹_› ?_ | exact pE ‹_› | refine pG ‹_› (by first | assumption | exact Ne.symm ‹_› | exact ne_fr ‹_› (by repeat (first | exact io ‹_› | exact mS ‹_› | refine gS ‹_› ?_ | refine pS ‹_› ?_)) | exact Ne.symm (ne_fr ‹_› (by repeat (first | exact io ‹_› | exact mS ‹_› | refine gS ‹_› ?_ | refine pS ‹_› ?_)))) ?_)) (by rfl)) ?_ | refine rdA_i (by repeat (first | assumption | refine gG ‹_› ?_ | exact pE ‹_› | refine pG ‹_› (by first | assumption | exact Ne.symm ‹_› | exact ne_fr ‹_› (by repeat (first | exact io ‹_› | exact mS ‹_› | refine gS ‹_› ?_ | refine pS ‹_› ?_)) | exact Ne.symm (ne_fr ‹_› (by repeat (first | exact io ‹_› | exact mS ‹_› | refine gS ‹_› ?_ | refine pS ‹_› ?_)))) ?_)) (by rfl) ?_ | (refine st_i2 (by repeat (first | assumption | refine gG ‹_› ?_ | exact pE ‹_› | refine pG ‹_› (by first | assumption | exact Ne.symm ‹_› | exact ne_fr ‹_› (by repeat (first | exact io ‹_› | exact mS ‹_› | refine gS ‹_› ?_ | refine pS ‹_› ?_)) | exact Ne.symm (ne_fr ‹_› (by repeat (first | exact io ‹_› | exact mS ‹_› | refine gS ‹_› ?_ | refine pS ‹_› ?_)))) ?_)) (by first | exact sz_int | exact sz_string | exact sz_bool | exact sz_Inode | exact sz_Quota | exact sz_MSI | exact sz_place | exact sz_Errno) (by rfl) (by rfl) ?_; intro _ _) | refine app_P ?_ | refine app_I ?_ | refine app_S ?_ | refine app_B ?_ | refine app_M ?_ | refine app_L ?_ | refine app_U ?_ | refine app_R ?_ | (refine app_of rfl ?_; try dsimp only)))
  refine call_i (s_named _ ?_)
  intro c3 σ7 g7 f5
  refine app_R ?_
  (repeat (first | refine ptr_i ?_ | refine rdT_of (by repeat (first | assumption | refine gG ‹_› ?_ | exact pE ‹_› | refine pG ‹_› (by first | assumption | exact Ne.symm ‹_› | exact ne_fr ‹_› (by repeat (first | exact io ‹_› | exact mS ‹_› | refine gS ‹_› ?_ | refine pS ‹_› ?_)) | exact Ne.symm (ne_fr ‹_› (by repeat (first | exact io ‹_› | exact mS ‹_› | refine gS ‹_› ?_ | refine pS ‹_› ?_)))) ?_)) (by rfl) ?_ | (refine al_i ?_; intro _ _ _ _ _) | refine and_i (rdC_of (by repeat (first | assumption | refine gG ‹_› ?_ | exact pE ‹_› | refine pG ‹_› (by first | assumption | exact Ne.symm ‹_› | exact ne_fr ‹_› (by repeat (first | exact io ‹_› | exact mS ‹_› | refine gS ‹_› ?_ | refine pS ‹_› ?_)) | exact Ne.symm (ne_fr ‹_› (by repeat (first | exact io ‹_› | exact mS ‹_› | refine gS ‹_› ?_ | refine pS ‹_› ?_)))) ?_)) (by rfl)) ?_ | refine rdA_i (by repeat (first | assumption | refine gG ‹_› ?_ | exact pE ‹_› | refine pG ‹_› (by first | assumption | exact Ne.symm ‹_› | exact ne_fr ‹_› (by repeat (first | exact io ‹_› | exact mS ‹_› | refine gS ‹_› ?_ | refine pS ‹_› ?_)) | exact Ne.symm (ne_fr ‹_› (by repeat (first | exact io ‹_› | exact mS ‹_› | refine gS ‹_› ?_ | refine pS ‹_› ?_)))) ?_)) (by rfl) ?_ | (refine st_i2 (by repeat (first | assumption | refine gG ‹_› ?_ | exact pE ‹_› | refine pG ‹_› (by first | assumption | exact Ne.symm ‹_› | exact ne_fr ‹_› (by repeat (first | exact io ‹_› | exact mS ‹_› | refine gS ‹_› ?_ | refine pS ‹_› ?_)) | exact Ne.symm (ne_fr ‹_› (by repeat (first | exact io ‹_› | exact mS ‹_› | refine gS ‹_› ?_ | refine pS ‹_› ?_)))) ?_)) (by first | exact sz_int | exact sz_string | exact sz_bool | exact sz_Inode | exact sz_Quota | exact sz_MSI | exact sz_place | exact sz_Errno) (by rfl) (by rfl) ?_; intro _ _) | refine app_P ?_ | refine app_I ?_ | refine app_S ?_ | refine app_B ?_ | refine app_M ?_ | refine app_L ?_ | refine app_U ?_ | refine app_R ?_ | (refine app_of rfl ?_; try dsimp only)))
  refine call_i (s_entry _ _ _ ?_)
  intro c4 c5 c6 σ7' g7' f6 f7 f8
  refine app_R ?_
  (repeat (first | refine ptr_i ?_ | refine rdT_of (by repeat (first | assumption | refine gG ‹_› ?_ | exact pE ‹_› | refine pG ‹_› (by first | assumption | exact Ne.symm ‹_› | exact ne_fr ‹_› (by repeat (first | exact io ‹_› | exact mS ‹_› | refine gS ‹_› ?_ | refine pS ‹_› ?_)) | exact Ne.symm (ne_fr ‹_› (by repeat (first | exact io ‹_› | exact mS ‹_› | refine gS ‹_› ?_ | refine pS ‹_› ?_)))) ?_)) (by rfl) ?_ | (refine al_i ?_; intro _ _ _ _ _) | refine and_i (rdC_of (by repeat (first | assumption | refine gG ‹_› ?_ | exact pE ‹_› | refine pG ‹_› (by first | assumption | exact Ne.symm ‹_› | exact ne_fr ‹_› (by repeat (first | exact io ‹_› | exact mS ‹_› | refine gS ‹_› ?_ | refine pS ‹_› ?_)) | exact Ne.symm (ne_fr ‹_› (by repeat (first | exact io ‹_› | exact mS ‹_› | refine gS ‹_› ?_ | refine pS ‹_› ?_)))) ?_)) (by rfl)) ?_ | refine rdA_i (by repeat (first | assumption | refine gG ‹_› ?_ | exact pE ‹_› | refine pG ‹_› (by first | assumption | exact Ne.symm ‹_› | exact ne_fr ‹_› (by repeat (first | exact io ‹_› | exact mS ‹_› | refine gS ‹_› ?_ | refine pS ‹_› ?_)) | exact Ne.symm (ne_fr ‹_› (by repeat (first | exact io ‹_› | exact mS ‹_› | refine gS ‹_› ?_ | refine pS ‹_› ?_)))) ?_)) (by rfl) ?_ | (refine st_i2 (by repeat (first | assumption | refine gG ‹_› ?_ | exact pE ‹_› | refine pG ‹_› (by first | assumption | exact Ne.symm ‹_› | exact ne_fr ‹_› (by repeat (first | exact io ‹_› | exact mS ‹_› | refine gS ‹_› ?_ | refine pS ‹_› ?_)) | exact Ne.symm (ne_fr ‹_› (by repeat (first | exact io ‹_› | exact mS ‹_› | refine gS ‹_› ?_ | refine pS ‹_› ?_)))) ?_)) (by first | exact sz_int | exact sz_string | exact sz_bool | exact sz_Inode | exact sz_Quota | exact sz_MSI | exact sz_place | exact sz_Errno) (by rfl) (by rfl) ?_; intro _ _) | refine app_P ?_ | refine app_I ?_ | refine app_S ?_ | refine app_B ?_ | refine app_M ?_ | refine app_L ?_ | refine app_U ?_ | refine app_R ?_ | (refine app_of rfl ?_; try dsimp only)))
  refine one_f (one_f (one_f (one_f ?_)))
  refine al_i ?_; intro b17 σ8 g8 e8 n8
  have hgr : Lng σ σ8 := ⟨by repeat (first | exact Gr.refl _ | assumption | refine Gr.trans ?_ ‹_› | refine Gr.putF ?_ ‹_› (none_of ?_ ‹_›))⟩
  have hT8 := hT.gr hgr.gr
  refine call_i (s_first (es := [0, T.dirE src, T.dirE to, namedE as_, if (T.find src name).isSome then 0 else 5]) e8 ?_ (by simp) (app_I ?_))
  · exact ⟨pu_of go_there fun K hk => s_there _ hk, fun _ => ⟨pu_of go_dir1 fun K hk => s_dir1 hT8 (by repeat (first | assumption | refine gG ‹_› ?_ | exact pE ‹_› | refine pG ‹_› (by first | assumption | exact Ne.symm ‹_› | exact ne_fr ‹_› (by repeat (first | exact io ‹_› | exact mS ‹_› | refine gS ‹_› ?_ | refine pS ‹_› ?_)) | exact Ne.symm (ne_fr ‹_› (by repeat (first | exact io ‹_› | exact mS ‹_› | refine gS ‹_› ?_ | refine pS ‹_› ?_)))) ?_)) (by repeat (first | assumption | refine gG ‹_› ?_ | exact pE ‹_› | refine pG ‹_› (by first | assumption | exact Ne.symm ‹_› | exact ne_fr ‹_› (by repeat (first | exact io ‹_› | exact mS ‹_› | refine gS ‹_› ?_ | refine pS ‹_› ?_)) | exact Ne.symm (ne_fr ‹_› (by repeat (first | exact io ‹_› | exact mS ‹_› | refine gS ‹_› ?_ | refine pS ‹_› ?_)))) ?_)) hk, fun _ => ⟨pu_of go_dir1 fun K hk => s_dir1 hT8 (by repeat (first | assumption | refine gG ‹_› ?_ | exact pE ‹_› | refine pG ‹_› (by first | assumption | exact Ne.symm ‹_› | exact ne_fr ‹_› (by repeat (first | exact io ‹_› | exact mS ‹_› | refine gS ‹_› ?_ | refine pS ‹_› ?_)) | exact Ne.symm (ne_fr ‹_› (by repeat (first | exact io ‹_› | exact mS ‹_› | refine gS ‹_› ?_ | refine pS ‹_› ?_)))) ?_)) (by repeat (first | assumption | refine gG ‹_› ?_ | exact pE ‹_› | refine pG ‹_› (by first | assumption | exact Ne.symm ‹_› | exact ne_fr ‹_› (by repeat (first | exact io ‹_› | exact mS ‹_› | refine gS ‹_› ?_ | refine pS ‹_› ?_)) | exact Ne.symm (ne_fr ‹_› (by repeat (first | exact io ‹_› | exact mS ‹_› | refine gS ‹_› ?_ | refine pS ‹_› ?_)))) ?_)) hk, fun _ => ⟨pu_of go_named1 fun K hk => s_named1 hC (by repeat (first | assumption | refine gG ‹_› ?_ | exact pE ‹_› | refine pG ‹_› (by first | assumption | exact Ne.symm ‹_› | exact ne_fr ‹_› (by repeat (first | exact io ‹_› | exact mS ‹_› | refine gS ‹_› ?_ | refine pS ‹_› ?_)) | exact Ne.symm (ne_fr ‹_› (by repeat (first | exact io ‹_› | exact mS ‹_› | refine gS ‹_› ?_ | refine pS ‹_› ?_)))) ?_)) hk, fun _ => ⟨pu_of go_entry1 fun K hk => s_entry1 hT8 (by repeat (first | assumption | refine gG ‹_› ?_ | exact pE ‹_› | refine pG ‹_› (by first | assumption | exact Ne.symm ‹_› | exact ne_fr ‹_› (by repeat (first | exact io ‹_› | exact mS ‹_› | refine gS ‹_› ?_ | refine pS ‹_› ?_)) | exact Ne.symm (ne_fr ‹_› (by repeat (first | exact io ‹_› | exact mS ‹_› | refine gS ‹_› ?_ | refine pS ‹_› ?_)))) ?_)) (by repeat (first | assumption | refine gG ‹_› ?_ | exact pE ‹_› | refine pG ‹_› (by first | assumption | exact Ne.symm ‹_› | exact ne_fr ‹_› (by repeat (first | exact io ‹_› | exact mS ‹_› | refine gS ‹_› ?_ | refine pS ‹_› ?_)) | exact Ne.symm (ne_fr ‹_› (by repeat (first | exact io ‹_› | exact mS ‹_› | refine gS ‹_› ?_ | refine pS ‹_› ?_)))) ?_)) (by repeat (first | assumption | refine gG ‹_› ?_ | exact pE ‹_› | refine pG ‹_› (by first | assumption | exact Ne.symm ‹_› | exact ne_fr ‹_› (by repeat (first | exact io ‹_› | exact mS ‹_› | refine gS ‹_› ?_ | refine pS ‹_› ?_)) | exact Ne.symm (ne_fr ‹_› (by repeat (first | exact io ‹_› | exact mS ‹_› | refine gS ‹_› ?_ | refine pS ‹_› ?_)))) ?_)) hk, fun _ => trivial⟩⟩⟩⟩⟩
  have hE : firstE [0, T.dirE src, T.dirE to, namedE as_, if (T.find src name).isSome then 0 else 5] = T.abs.moveE1 src name to as_ := by
    unfold AT.moveE1; rw [abs_dirE, abs_dirE, abs_find]
  rw [hE]
  have k6 : σ8 b6 = some (.cells ⟨[.pointer (some ⟨bt, 0, none⟩)]⟩ 80 (0, 0)) := by repeat (first | assumption | refine gG ‹_› ?_ | exact pE ‹_› | refine pG ‹_› (by first | assumption | exact Ne.symm ‹_› | exact ne_fr ‹_› (by repeat (first | exact io ‹_› | exact mS ‹_› | refine gS ‹_› ?_ | refine pS ‹_› ?_)) | exact Ne.symm (ne_fr ‹_› (by repeat (first | exact io ‹_› | exact mS ‹_› | refine gS ‹_› ?_ | refine pS ‹_› ?_)))) ?_)
  have k7 : σ8 b7 = some (.cells ⟨[.int .i64 to]⟩ 3 (0, 0)) := by repeat (first | assumption | refine gG ‹_› ?_ | exact pE ‹_› | refine pG ‹_› (by first | assumption | exact Ne.symm ‹_› | exact ne_fr ‹_› (by repeat (first | exact io ‹_› | exact mS ‹_› | refine gS ‹_› ?_ | refine pS ‹_› ?_)) | exact Ne.symm (ne_fr ‹_› (by repeat (first | exact io ‹_› | exact mS ‹_› | refine gS ‹_› ?_ | refine pS ‹_› ?_)))) ?_)
  refine j_i (fun j => ∀ x : Bool, (x = true ↔ (T.abs.moveE1 src name to as_ ≠ 0 ∨ (src = to ∧ name = as_))) → j src name as_ (some ⟨b6, 0, none⟩) (some ⟨b7, 0, none⟩) (T.abs.moveE1 src name to as_) x σ8) ?_ ?_
  case refine_2 =>
    intro j hj
    by_cases h0 : T.abs.moveE1 src name to as_ = 0
    · refine br_f (by simpa using h0) ?_
      refine rd_I (rdC_of k7 (by rfl)) ?_
      by_cases hs : src = to
      · refine br_t (by simpa using hs) (hj _ ?_)
        rw [strEq_iff]; exact ⟨fun h => .inr ⟨hs, h⟩, fun h => h.elim (fun h => absurd h0 h) (·.2)⟩
      · refine br_f (by simpa using hs) (hj _ ?_)
        simp [h0, hs]
    · refine br_t (by simpa using h0) (hj _ (by simp [h0]))
  intro x hx
  unfold AT.moveR at hK
  by_cases hq : T.abs.moveE1 src name to as_ ≠ 0 ∨ (src = to ∧ name = as_)
  · rw [if_pos hq] at hK
    exact br_t (hx.2 hq) (hK σ8 B ⟨T, hT8, hO, rfl, hB⟩ (Sep.gr hgr.gr))
  rw [if_neg hq] at hK
  refine br_f (by cases x with | false => rfl | true => exact absurd (hx.1 rfl) hq) ?_
  have h0 : T.abs.moveE1 src name to as_ = 0 := Classical.byContradiction fun h => hq (.inl h)
  have hst : ¬ (src = to ∧ name = as_) := fun h => hq (.inr h)
  have hap := hf h0
  rw [← hE] at h0
  obtain ⟨ns, hns, hks⟩ := dirE_z (firstE_z (firstE_z h0).2).1
  obtain ⟨nt, hnt, hkt⟩ := dirE_z (firstE_z (firstE_z (firstE_z h0).2).2).1
  have hz := (firstE_z (firstE_z (firstE_z (firstE_z (firstE_z h0).2).2).2).2).1
  cases hj : T.find src name with
  | none => rw [hj] at hz; cases hz
  | some j =>
  have hj' : (T.abs.find src name).getD 0 = j := by rw [abs_find, hj]; rfl
  rw [hj'] at hap hK
  obtain ⟨r, hr⟩ := Option.isSome_iff_exists.1 hap
  rw [hr] at hK
  have hgj := hd j (by rw [abs_find]; exact hj)
  rw [abs_get] at hgj
  cases hnj : T.get j with
  | none => rw [hnj] at hgj; cases hgj
  | some nj =>
  (repeat (first | refine ptr_i ?_ | refine rdT_of (by repeat (first | assumption | refine gG ‹_› ?_ | exact pE ‹_› | refine pG ‹_› (by first | assumption | exact Ne.symm ‹_› | exact ne_fr ‹_› (by repeat (first | exact io ‹_› | exact mS ‹_› | refine gS ‹_› ?_ | refine pS ‹_› ?_)) | exact Ne.symm (ne_fr ‹_› (by repeat (first | exact io ‹_› | exact mS ‹_› | refine gS ‹_› ?_ | refine pS ‹_› ?_)))) ?_)) (by rfl) ?_ | (refine al_i ?_; intro _ _ _ _ _) | refine and_i (rdC_of (by repeat (first | assumption | refine gG ‹_› ?_ | exact pE ‹_› | refine pG ‹_› (by first | assumption | exact Ne.symm ‹_› | exact ne_fr ‹_› (by repeat (first | exact io ‹_› | exact mS ‹_› | refine gS ‹_› ?_ | refine pS ‹_› ?_)) | exact Ne.symm (ne_fr ‹_› (by repeat (first | exact io ‹_› | exact mS ‹_› | refine gS ‹_› ?_ | refine pS ‹_› ?_)))) ?_)) (by rfl)) ?_ | refine rdA_i (by repeat (first | assumption | refine gG ‹_› ?_ | exact pE ‹_› | refine pG ‹_› (by first | assumption | exact Ne.symm ‹_› | exact ne_fr ‹_› (by repeat (first | exact io ‹_› | exact mS ‹_› | refine gS ‹_› ?_ | refine pS ‹_› ?_)) | exact Ne.symm (ne_fr ‹_› (by repeat (first | exact io ‹_› | exact mS ‹_› | refine gS ‹_› ?_ | refine pS ‹_› ?_)))) ?_)) (by rfl) ?_ | (refine st_i2 (by repeat (first | assumption | refine gG ‹_› ?_ | exact pE ‹_› | refine pG ‹_› (by first | assumption | exact Ne.symm ‹_› | exact ne_fr ‹_› (by repeat (first | exact io ‹_› | exact mS ‹_› | refine gS ‹_› ?_ | refine pS ‹_› ?_)) | exact Ne.symm (ne_fr ‹_› (by repeat (first | exact io ‹_› | exact mS ‹_› | refine gS ‹_› ?_ | refine pS ‹_› ?_)))) ?_)) (by first | exact sz_int | exact sz_string | exact sz_bool | exact sz_Inode | exact sz_Quota | exact sz_MSI | exact sz_place | exact sz_Errno) (by rfl) (by rfl) ?_; intro _ _) | refine app_P ?_ | refine app_I ?_ | refine app_S ?_ | refine app_B ?_ | refine app_M ?_ | refine app_L ?_ | refine app_U ?_ | refine app_R ?_ | (refine app_of rfl ?_; try dsimp only)))
  refine call_i (s_Find hT8 src name (app_IB ?_))
  rw [hj]
  simp only [Option.getD_some]
  refine al_i ?_; intro b32 σ9 g9 e9 n9
  refine st_i2 e9 sz_int (by rfl) (by rfl) ?_
  intro σ10 p10
  have e10 := p10.same
  have g10 : Gr σ8 σ10 := g9.putF p10 n9
  clear p10 e9 g9
  have hT10 := hT8.gr g10
  (repeat (first | refine ptr_i ?_ | refine rdT_of (by repeat (first | assumption | refine gG ‹_› ?_ | exact pE ‹_› | refine pG ‹_› (by first | assumption | exact Ne.symm ‹_› | exact ne_fr ‹_› (by repeat (first | exact io ‹_› | exact mS ‹_› | refine gS ‹_› ?_ | refine pS ‹_› ?_)) | exact Ne.symm (ne_fr ‹_› (by repeat (first | exact io ‹_› | exact mS ‹_› | refine gS ‹_› ?_ | refine pS ‹_› ?_)))) ?_)) (by rfl) ?_ | (refine al_i ?_; intro _ _ _ _ _) | refine and_i (rdC_of (by repeat (first | assumption | refine gG ‹_› ?_ | exact pE ‹_› | refine pG ‹_› (by first | assumption | exact Ne.symm ‹_› | exact ne_fr ‹_› (by repeat (first | exact io ‹_› | exact mS ‹_› | refine gS ‹_› ?_ | refine pS ‹_› ?_)) | exact Ne.symm (ne_fr ‹_› (by repeat (first | exact io ‹_› | exact mS ‹_› | refine gS ‹_› ?_ | refine pS ‹_› ?_)))) ?_)) (by rfl)) ?_ | refine rdA_i (by repeat (first | assumption | refine gG ‹_› ?_ | exact pE ‹_› | refine pG ‹_› (by first | assumption | exact Ne.symm ‹_› | exact ne_fr ‹_› (by repeat (first | exact io ‹_› | exact mS ‹_› | refine gS ‹_› ?_ | refine pS ‹_› ?_)) | exact Ne.symm (ne_fr ‹_› (by repeat (first | exact io ‹_› | exact mS ‹_› | refine gS ‹_› ?_ | refine pS ‹_› ?_)))) ?_)) (by rfl) ?_ | (refine st_i2 (by repeat (first | assumption | refine gG ‹_› ?_ | exact pE ‹_› | refine pG ‹_› (by first | assumption | exact Ne.symm ‹_› | exact ne_fr ‹_› (by repeat (first | exact io ‹_› | exact mS ‹_› | refine gS ‹_› ?_ | refine pS ‹_› ?_)) | exact Ne.symm (ne_fr ‹_› (by repeat (first | exact io ‹_› | exact mS ‹_› | refine gS ‹_› ?_ | refine pS ‹_› ?_)))) ?_)) (by first | exact sz_int | exact sz_string | exact sz_bool | exact sz_Inode | exact sz_Quota | exact sz_MSI | exact sz_place | exact sz_Errno) (by rfl) (by rfl) ?_; intro _ _) | refine app_P ?_ | refine app_I ?_ | refine app_S ?_ | refine app_B ?_ | refine app_M ?_ | refine app_L ?_ | refine app_U ?_ | refine app_R ?_ | (refine app_of rfl ?_; try dsimp only)))
  refine call_i (s_free _ _ _ ?_)
  intro h1 h2 h3 σ11 g11 e11 e12 e13
  refine app_R ?_
  refine one_f ?_
  refine al_i ?_; intro b40 σ12 g12 e14 n12
  have hT12 := (hT10.gr g11).gr g12
  have hgr' : Lng σ σ12 := ⟨((hgr.gr.trans g10).trans g11).trans g12⟩
  refine call_i (s_first (es := [if (T.find to as_).isSome then 6 else 0, if r then 0 else 2]) e14 ?_ (by simp) (app_I ?_))
  · exact ⟨pu_of go_free1 fun K hk => s_free1 hT12 (by repeat (first | assumption | refine gG ‹_› ?_ | exact pE ‹_› | refine pG ‹_› (by first | assumption | exact Ne.symm ‹_› | exact ne_fr ‹_› (by repeat (first | exact io ‹_› | exact mS ‹_› | refine gS ‹_› ?_ | refine pS ‹_› ?_)) | exact Ne.symm (ne_fr ‹_› (by repeat (first | exact io ‹_› | exact mS ‹_› | refine gS ‹_› ?_ | refine pS ‹_› ?_)))) ?_)) (by repeat (first | assumption | refine gG ‹_› ?_ | exact pE ‹_› | refine pG ‹_› (by first | assumption | exact Ne.symm ‹_› | exact ne_fr ‹_› (by repeat (first | exact io ‹_› | exact mS ‹_› | refine gS ‹_› ?_ | refine pS ‹_› ?_)) | exact Ne.symm (ne_fr ‹_› (by repeat (first | exact io ‹_› | exact mS ‹_› | refine gS ‹_› ?_ | refine pS ‹_› ?_)))) ?_)) (by repeat (first | assumption | refine gG ‹_› ?_ | exact pE ‹_› | refine pG ‹_› (by first | assumption | exact Ne.symm ‹_› | exact ne_fr ‹_› (by repeat (first | exact io ‹_› | exact mS ‹_› | refine gS ‹_› ?_ | refine pS ‹_› ?_)) | exact Ne.symm (ne_fr ‹_› (by repeat (first | exact io ‹_› | exact mS ‹_› | refine gS ‹_› ?_ | refine pS ‹_› ?_)))) ?_)) hk, fun _ => ⟨pu_of go_Move1 fun K hk => s_Move1 hT12 (by repeat (first | assumption | refine gG ‹_› ?_ | exact pE ‹_› | refine pG ‹_› (by first | assumption | exact Ne.symm ‹_› | exact ne_fr ‹_› (by repeat (first | exact io ‹_› | exact mS ‹_› | refine gS ‹_› ?_ | refine pS ‹_› ?_)) | exact Ne.symm (ne_fr ‹_› (by repeat (first | exact io ‹_› | exact mS ‹_› | refine gS ‹_› ?_ | refine pS ‹_› ?_)))) ?_)) (by repeat (first | assumption | refine gG ‹_› ?_ | exact pE ‹_› | refine pG ‹_› (by first | assumption | exact Ne.symm ‹_› | exact ne_fr ‹_› (by repeat (first | exact io ‹_› | exact mS ‹_› | refine gS ‹_› ?_ | refine pS ‹_› ?_)) | exact Ne.symm (ne_fr ‹_› (by repeat (first | exact io ‹_› | exact mS ‹_› | refine gS ‹_› ?_ | refine pS ‹_› ?_)))) ?_)) (by repeat (first | assumption | refine gG ‹_› ?_ | exact pE ‹_› | refine pG ‹_› (by first | assumption | exact Ne.symm ‹_› | exact ne_fr ‹_› (by repeat (first | exact io ‹_› | exact mS ‹_› | refine gS ‹_› ?_ | refine pS ‹_› ?_)) | exact Ne.symm (ne_fr ‹_› (by repeat (first | exact io ‹_› | exact mS ‹_› | refine gS ‹_› ?_ | refine pS ‹_› ?_)))) ?_)) hr hk, fun _ => trivial⟩⟩
  simp only [abs_find, Option.getD_some] at hK
  by_cases hz2 : firstE [if (T.find to as_).isSome then 6 else 0, if r then 0 else 2] = 0
  case neg =>
    rw [if_pos hz2] at hK
    refine br_t (by simpa using hz2) ?_
    exact hK σ12 B ⟨T, hT12, hO, rfl, hB⟩ (Sep.gr hgr'.gr)
  rw [if_neg (by simpa using hz2)] at hK
  refine br_f (by simpa using hz2) ?_
  have k6 : σ12 b6 = some (.cells ⟨[.pointer (some ⟨bt, 0, none⟩)]⟩ 80 (0, 0)) := by repeat (first | assumption | refine gG ‹_› ?_ | exact pE ‹_› | refine pG ‹_› (by first | assumption | exact Ne.symm ‹_› | exact ne_fr ‹_› (by repeat (first | exact io ‹_› | exact mS ‹_› | refine gS ‹_› ?_ | refine pS ‹_› ?_)) | exact Ne.symm (ne_fr ‹_› (by repeat (first | exact io ‹_› | exact mS ‹_› | refine gS ‹_› ?_ | refine pS ‹_› ?_)))) ?_)
  have k7 : σ12 b7 = some (.cells ⟨[.int .i64 to]⟩ 3 (0, 0)) := by repeat (first | assumption | refine gG ‹_› ?_ | exact pE ‹_› | refine pG ‹_› (by first | assumption | exact Ne.symm ‹_› | exact ne_fr ‹_› (by repeat (first | exact io ‹_› | exact mS ‹_› | refine gS ‹_› ?_ | refine pS ‹_› ?_)) | exact Ne.symm (ne_fr ‹_› (by repeat (first | exact io ‹_› | exact mS ‹_› | refine gS ‹_› ?_ | refine pS ‹_› ?_)))) ?_)
  have k32 : σ12 b32 = some (.cells ⟨[.int .i64 j]⟩ 3 (0, 0)) := by repeat (first | assumption | refine gG ‹_› ?_ | exact pE ‹_› | refine pG ‹_› (by first | assumption | exact Ne.symm ‹_› | exact ne_fr ‹_› (by repeat (first | exact io ‹_› | exact mS ‹_› | refine gS ‹_› ?_ | refine pS ‹_› ?_)) | exact Ne.symm (ne_fr ‹_› (by repeat (first | exact io ‹_› | exact mS ‹_› | refine gS ‹_› ?_ | refine pS ‹_› ?_)))) ?_)
  clear g1 g2 g5 g6 g7 g7' g8 g10 g11 g12
  have hc := hT12.cells
  unfold Tb.cells at hc
  (repeat (first | refine ptr_i ?_ | refine rdT_of (by repeat (first | assumption | refine gG ‹_› ?_ | exact pE ‹_› | refine pG ‹_› (by first | assumption | exact Ne.symm ‹_› | exact ne_fr ‹_› (by repeat (first | exact io ‹_› | exact mS ‹_› | refine gS ‹_› ?_ | refine pS ‹_› ?_)) | exact Ne.symm (ne_fr ‹_› (by repeat (first | exact io ‹_› | exact mS ‹_› | refine gS ‹_› ?_ | refine pS ‹_› ?_)))) ?_)) (by rfl) ?_ | (refine al_i ?_; intro _ _ _ _ _) | refine and_i (rdC_of (by repeat (first | assumption | refine gG ‹_› ?_ | exact pE ‹_› | refine pG ‹_› (by first | assumption | exact Ne.symm ‹_› | exact ne_fr ‹_› (by repeat (first | exact io ‹_› | exact mS ‹_› | refine gS ‹_› ?_ | refine pS ‹_› ?_)) | exact Ne.symm (ne_fr ‹_› (by repeat (first | exact io ‹_› | exact mS ‹_› | refine gS ‹_› ?_ | refine pS ‹_› ?_)))) ?_)) (by rfl)) ?_ | refine rdA_i (by repeat (first | assumption | refine gG ‹_› ?_ | exact pE ‹_› | refine pG ‹_› (by first | assumption | exact Ne.symm ‹_› | exact ne_fr ‹_› (by repeat (first | exact io ‹_› | exact mS ‹_› | refine gS ‹_› ?_ | refine pS ‹_› ?_)) | exact Ne.symm (ne_fr ‹_› (by repeat (first | exact io ‹_› | exact mS ‹_› | refine gS ‹_› ?_ | refine pS ‹_› ?_)))) ?_)) (by rfl) ?_ | (refine st_i2 (by repeat (first | assumption | refine gG ‹_› ?_ | exact pE ‹_› | refine pG ‹_› (by first | assumption | exact Ne.symm ‹_› | exact ne_fr ‹_› (by repeat (first | exact io ‹_› | exact mS ‹_› | refine gS ‹_› ?_ | refine pS ‹_› ?_)) | exact Ne.symm (ne_fr ‹_› (by repeat (first | exact io ‹_› | exact mS ‹_› | refine gS ‹_› ?_ | refine pS ‹_› ?_)))) ?_)) (by first | exact sz_int | exact sz_string | exact sz_bool | exact sz_Inode | exact sz_Quota | exact sz_MSI | exact sz_place | exact sz_Errno) (by rfl) (by rfl) ?_; intro _ _) | refine app_P ?_ | refine app_I ?_ | refine app_S ?_ | refine app_B ?_ | refine app_M ?_ | refine app_L ?_ | refine app_U ?_ | refine app_R ?_ | (refine app_of rfl ?_; try dsimp only)))
  refine rdN hT12 hns ?_
  obtain ⟨es, hes⟩ := hT12.dir hns hks
  have cS := (hT12.get hns).cells
  unfold Nd.cells at cS
  rw [hes] at cS
  (repeat (first | refine ptr_i ?_ | refine rdT_of (by repeat (first | assumption | refine gG ‹_› ?_ | exact pE ‹_› | refine pG ‹_› (by first | assumption | exact Ne.symm ‹_› | exact ne_fr ‹_› (by repeat (first | exact io ‹_› | exact mS ‹_› | refine gS ‹_› ?_ | refine pS ‹_› ?_)) | exact Ne.symm (ne_fr ‹_› (by repeat (first | exact io ‹_› | exact mS ‹_› | refine gS ‹_› ?_ | refine pS ‹_› ?_)))) ?_)) (by rfl) ?_ | (refine al_i ?_; intro _ _ _ _ _) | refine and_i (rdC_of (by repeat (first | assumption | refine gG ‹_› ?_ | exact pE ‹_› | refine pG ‹_› (by first | assumption | exact Ne.symm ‹_› | exact ne_fr ‹_› (by repeat (first | exact io ‹_› | exact mS ‹_› | refine gS ‹_› ?_ | refine pS ‹_› ?_)) | exact Ne.symm (ne_fr ‹_› (by repeat (first | exact io ‹_› | exact mS ‹_› | refine gS ‹_› ?_ | refine pS ‹_› ?_)))) ?_)) (by rfl)) ?_ | refine rdA_i (by repeat (first | assumption | refine gG ‹_› ?_ | exact pE ‹_› | refine pG ‹_› (by first | assumption | exact Ne.symm ‹_› | exact ne_fr ‹_› (by repeat (first | exact io ‹_› | exact mS ‹_› | refine gS ‹_› ?_ | refine pS ‹_› ?_)) | exact Ne.symm (ne_fr ‹_› (by repeat (first | exact io ‹_› | exact mS ‹_› | refine gS ‹_› ?_ | refine pS ‹_› ?_)))) ?_)) (by rfl) ?_ | (refine st_i2 (by repeat (first | assumption | refine gG ‹_› ?_ | exact pE ‹_› | refine pG ‹_› (by first | assumption | exact Ne.symm ‹_› | exact ne_fr ‹_› (by repeat (first | exact io ‹_› | exact mS ‹_› | refine gS ‹_› ?_ | refine pS ‹_› ?_)) | exact Ne.symm (ne_fr ‹_› (by repeat (first | exact io ‹_› | exact mS ‹_› | refine gS ‹_› ?_ | refine pS ‹_› ?_)))) ?_)) (by first | exact sz_int | exact sz_string | exact sz_bool | exact sz_Inode | exact sz_Quota | exact sz_MSI | exact sz_place | exact sz_Errno) (by rfl) (by rfl) ?_; intro _ _) | refine app_P ?_ | refine app_I ?_ | refine app_S ?_ | refine app_B ?_ | refine app_M ?_ | refine app_L ?_ | refine app_U ?_ | refine app_R ?_ | (refine app_of rfl ?_; try dsimp only)))
  have mE := (hT12.get hns).ents es hes
  refine del_i (kk := kkS) (f := valI) und_MSI und_string mE name ?_
  intro o13 σ13 p13 m13
  have hT13 := hT12.putE hO hns hes p13 m13
  let T13 := T.set src { ns with ents := HL.rm name ns.ents }
  have hO13 : Own T13 := hO.set hns rfl rfl
  have k6 := p13.get (ne_cm k6 mE) k6
  have k7 := p13.get (ne_cm k7 mE) k7
  have k32 := p13.get (ne_cm k32 mE) k32
  have hc13 := hT13.cells
  unfold Tb.cells at hc13
  (repeat (first | refine ptr_i ?_ | refine rdT_of (by repeat (first | assumption | refine gG ‹_› ?_ | exact pE ‹_› | refine pG ‹_› (by first | assumption | exact Ne.symm ‹_› | exact ne_fr ‹_› (by repeat (first | exact io ‹_› | exact mS ‹_› | refine gS ‹_› ?_ | refine pS ‹_› ?_)) | exact Ne.symm (ne_fr ‹_› (by repeat (first | exact io ‹_› | exact mS ‹_› | refine gS ‹_› ?_ | refine pS ‹_› ?_)))) ?_)) (by rfl) ?_ | (refine al_i ?_; intro _ _ _ _ _) | refine and_i (rdC_of (by repeat (first | assumption | refine gG ‹_› ?_ | exact pE ‹_› | refine pG ‹_› (by first | assumption | exact Ne.symm ‹_› | exact ne_fr ‹_› (by repeat (first | exact io ‹_› | exact mS ‹_› | refine gS ‹_› ?_ | refine pS ‹_› ?_)) | exact Ne.symm (ne_fr ‹_› (by repeat (first | exact io ‹_› | exact mS ‹_› | refine gS ‹_› ?_ | refine pS ‹_› ?_)))) ?_)) (by rfl)) ?_ | refine rdA_i (by repeat (first | assumption | refine gG ‹_› ?_ | exact pE ‹_› | refine pG ‹_› (by first | assumption | exact Ne.symm ‹_› | exact ne_fr ‹_› (by repeat (first | exact io ‹_› | exact mS ‹_› | refine gS ‹_› ?_ | refine pS ‹_› ?_)) | exact Ne.symm (ne_fr ‹_› (by repeat (first | exact io ‹_› | exact mS ‹_› | refine gS ‹_› ?_ | refine pS ‹_› ?_)))) ?_)) (by rfl) ?_ | (refine st_i2 (by repeat (first | assumption | refine gG ‹_› ?_ | exact pE ‹_› | refine pG ‹_› (by first | assumption | exact Ne.symm ‹_› | exact ne_fr ‹_› (by repeat (first | exact io ‹_› | exact mS ‹_› | refine gS ‹_› ?_ | refine pS ‹_› ?_)) | exact Ne.symm (ne_fr ‹_› (by repeat (first | exact io ‹_› | exact mS ‹_› | refine gS ‹_› ?_ | refine pS ‹_› ?_)))) ?_)) (by first | exact sz_int | exact sz_string | exact sz_bool | exact sz_Inode | exact sz_Quota | exact sz_MSI | exact sz_place | exact sz_Errno) (by rfl) (by rfl) ?_; intro _ _) | refine app_P ?_ | refine app_I ?_ | refine app_S ?_ | refine app_B ?_ | refine app_M ?_ | refine app_L ?_ | refine app_U ?_ | refine app_R ?_ | (refine app_of rfl ?_; try dsimp only)))
  obtain ⟨nt1, hnt1, a1, a2, a3⟩ : ∃ n1, T13.get to = some n1 ∧ n1.blk = nt.blk ∧ n1.eb = nt.eb ∧ n1.kind = 2 := by
    show ∃ n1, (T.set src { ns with ents := HL.rm name ns.ents }).get to = some n1 ∧ _
    rw [get_set]
    by_cases e : to = src
    · subst e; rw [hns] at hnt; cases hnt; rw [if_pos rfl]; exact ⟨_, rfl, rfl, rfl, hks⟩
    · rw [if_neg e]; exact ⟨nt, hnt, rfl, rfl, hkt⟩
  refine rdN hT13 hnt1 ?_
  obtain ⟨et, het⟩ := hT13.dir hnt1 a3
  have cT := (hT13.get hnt1).cells
  unfold Nd.cells at cT
  rw [het] at cT
  (repeat (first | refine ptr_i ?_ | refine rdT_of (by repeat (first | assumption | refine gG ‹_› ?_ | exact pE ‹_› | refine pG ‹_› (by first | assumption | exact Ne.symm ‹_› | exact ne_fr ‹_› (by repeat (first | exact io ‹_› | exact mS ‹_› | refine gS ‹_› ?_ | refine pS ‹_› ?_)) | exact Ne.symm (ne_fr ‹_› (by repeat (first | exact io ‹_› | exact mS ‹_› | refine gS ‹_› ?_ | refine pS ‹_› ?_)))) ?_)) (by rfl) ?_ | (refine al_i ?_; intro _ _ _ _ _) | refine and_i (rdC_of (by repeat (first | assumption | refine gG ‹_› ?_ | exact pE ‹_› | refine pG ‹_› (by first | assumption | exact Ne.symm ‹_› | exact ne_fr ‹_› (by repeat (first | exact io ‹_› | exact mS ‹_› | refine gS ‹_› ?_ | refine pS ‹_› ?_)) | exact Ne.symm (ne_fr ‹_› (by repeat (first | exact io ‹_› | exact mS ‹_› | refine gS ‹_› ?_ | refine pS ‹_› ?_)))) ?_)) (by rfl)) ?_ | refine rdA_i (by repeat (first | assumption | refine gG ‹_› ?_ | exact pE ‹_› | refine pG ‹_› (by first | assumption | exact Ne.symm ‹_› | exact ne_fr ‹_› (by repeat (first | exact io ‹_› | exact mS ‹_› | refine gS ‹_› ?_ | refine pS ‹_› ?_)) | exact Ne.symm (ne_fr ‹_› (by repeat (first | exact io ‹_› | exact mS ‹_› | refine gS ‹_› ?_ | refine pS ‹_› ?_)))) ?_)) (by rfl) ?_ | (refine st_i2 (by repeat (first | assumption | refine gG ‹_› ?_ | exact pE ‹_› | refine pG ‹_› (by first | assumption | exact Ne.symm ‹_› | exact ne_fr ‹_› (by repeat (first | exact io ‹_› | exact mS ‹_› | refine gS ‹_› ?_ | refine pS ‹_› ?_)) | exact Ne.symm (ne_fr ‹_› (by repeat (first | exact io ‹_› | exact mS ‹_› | refine gS ‹_› ?_ | refine pS ‹_› ?_)))) ?_)) (by first | exact sz_int | exact sz_string | exact sz_bool | exact sz_Inode | exact sz_Quota | exact sz_MSI | exact sz_place | exact sz_Errno) (by rfl) (by rfl) ?_; intro _ _) | refine app_P ?_ | refine app_I ?_ | refine app_S ?_ | refine app_B ?_ | refine app_M ?_ | refine app_L ?_ | refine app_U ?_ | refine app_R ?_ | (refine app_of rfl ?_; try dsimp only)))
  have mT := (hT13.get hnt1).ents et het
  refine mu_i (kk := kkS) (f := valI) und_MSI und_string mT as_ j ?_
  intro o14 σ14 p14 m14
  have hT14 := hT13.putE hO13 hnt1 het p14 m14
  let T14 := T13.set to { nt1 with ents := HL.up as_ j nt1.ents }
  have hO14 : Own T14 := hO13.set hnt1 rfl rfl
  have k6 := p14.get (ne_cm k6 mT) k6
  have k7 := p14.get (ne_cm k7 mT) k7
  have k32 := p14.get (ne_cm k32 mT) k32
  have hc14 := hT14.cells
  unfold Tb.cells at hc14
  refine j_d ?_
  (repeat (first | refine ptr_i ?_ | refine rdT_of (by repeat (first | assumption | refine gG ‹_› ?_ | exact pE ‹_› | refine pG ‹_› (by first | assumption | exact Ne.symm ‹_› | exact ne_fr ‹_› (by repeat (first | exact io ‹_› | exact mS ‹_› | refine gS ‹_› ?_ | refine pS ‹_› ?_)) | exact Ne.symm (ne_fr ‹_› (by repeat (first | exact io ‹_› | exact mS ‹_› | refine gS ‹_› ?_ | refine pS ‹_› ?_)))) ?_)) (by rfl) ?_ | (refine al_i ?_; intro _ _ _ _ _) | refine and_i (rdC_of (by repeat (first | assumption | refine gG ‹_› ?_ | exact pE ‹_› | refine pG ‹_› (by first | assumption | exact Ne.symm ‹_› | exact ne_fr ‹_› (by repeat (first | exact io ‹_› | exact mS ‹_› | refine gS ‹_› ?_ | refine pS ‹_› ?_)) | exact Ne.symm (ne_fr ‹_› (by repeat (first | exact io ‹_› | exact mS ‹_› | refine gS ‹_› ?_ | refine pS ‹_› ?_)))) ?_)) (by rfl)) ?_ | refine rdA_i (by repeat (first | assumption | refine gG ‹_› ?_ | exact pE ‹_› | refine pG ‹_› (by first | assumption | exact Ne.symm ‹_› | exact ne_fr ‹_› (by repeat (first | exact io ‹_› | exact mS ‹_› | refine gS ‹_› ?_ | refine pS ‹_› ?_)) | exact Ne.symm (ne_fr ‹_› (by repeat (first | exact io ‹_› | exact mS ‹_› | refine gS ‹_› ?_ | refine pS ‹_› ?_)))) ?_)) (by rfl) ?_ | (refine st_i2 (by repeat (first | assumption | refine gG ‹_› ?_ | exact pE ‹_› | refine pG ‹_› (by first | assumption | exact Ne.symm ‹_› | exact ne_fr ‹_› (by repeat (first | exact io ‹_› | exact mS ‹_› | refine gS ‹_› ?_ | refine pS ‹_› ?_)) | exact Ne.symm (ne_fr ‹_› (by repeat (first | exact io ‹_› | exact mS ‹_› | refine gS ‹_› ?_ | refine pS ‹_› ?_)))) ?_)) (by first | exact sz_int | exact sz_string | exact sz_bool | exact sz_Inode | exact sz_Quota | exact sz_MSI | exact sz_place | exact sz_Errno) (by rfl) (by rfl) ?_; intro _ _) | refine app_P ?_ | refine app_I ?_ | refine app_S ?_ | refine app_B ?_ | refine app_M ?_ | refine app_L ?_ | refine app_U ?_ | refine app_R ?_ | (refine app_of rfl ?_; try dsimp only)))
  obtain ⟨nj1, hnj1, c1, c2, c3⟩ : ∃ n1, T14.get j = some n1 ∧ n1.blk = nj.blk ∧ n1.eb = nj.eb ∧ n1.kind = nj.kind := by
    have h13 : ∃ n1, T13.get j = some n1 ∧ n1.blk = nj.blk ∧ n1.eb = nj.eb ∧ n1.kind = nj.kind := by
      show ∃ n1, (T.set src { ns with ents := HL.rm name ns.ents }).get j = some n1 ∧ _
      rw [get_set]
      by_cases e : j = src
      · subst e; rw [hns] at hnj; cases hnj; rw [if_pos rfl]; exact ⟨_, rfl, rfl, rfl, rfl⟩
      · rw [if_neg e]; exact ⟨nj, hnj, rfl, rfl, rfl⟩
    obtain ⟨m, hm, q1, q2, q3⟩ := h13
    show ∃ n1, (T13.set to { nt1 with ents := HL.up as_ j nt1.ents }).get j = some n1 ∧ _
    rw [get_set]
    by_cases e : j = to
    · subst e; rw [hnt1] at hm; cases hm; rw [if_pos rfl]; exact ⟨_, rfl, q1, q2, q3⟩
    · rw [if_neg e]; exact ⟨m, hm, q1, q2, q3⟩
  refine rdN hT14 hnj1 ?_
  have cJ := (hT14.get hnj1).cells
  unfold Nd.cells at cJ
  refine ptr_i (rd_I (rdC_of cJ (by rfl)) ?_)
  have o14' : ∀ b, T14.own bt b ↔ B b := fun b => (own_set (n' := { nt1 with ents := HL.up as_ j nt1.ents }) hnt1 rfl rfl b).trans ((own_set (n' := { ns with ents := HL.rm name ns.ents }) hns rfl rfl b).trans (hB b))
  have s14 : Sep σ B σ14 B := by
    intro b o hb hn
    have hn' : ¬ T.own bt b := fun h => hn ((hB b).1 h)
    have q1 : b ≠ es := by intro e; subst e; exact ((hT.ne hn').2.2 src ns hns).2 hes
    have q2 : b ≠ et := by intro e; subst e; exact ((hT.ne hn').2.2 to nt hnt).2 (by rw [← a2]; exact het)
    exact ⟨p14.get q2 (p13.get q1 (hgr'.gr.get hb)), hn⟩
  have habs : T14.abs = (T.abs.ent src (HL.rm name)).ent to (HL.up as_ j) := by
    have e1 : T.abs.ent src (HL.rm name) = T13.abs := by
      unfold AT.ent
      rw [abs_get, hns]
      exact (abs_set T src { ns with ents := HL.rm name ns.ents }).symm
    rw [e1]
    unfold AT.ent
    rw [abs_get, hnt1]
    exact abs_set T13 to { nt1 with ents := HL.up as_ j nt1.ents }
  have hmv : T.abs.moved src name to as_ = T14.abs.mod j fun n => if n.kind == 2 then { n with up := to } else n := by
    unfold AT.moved; simp only [hj']; rw [habs]
  have hg14 : T14.abs.get j = some nj1.abs := by rw [abs_get, hnj1]; rfl
  rw [hmv] at hK
  unfold AT.mod at hK
  rw [hg14] at hK
  simp only at hK
  cases hk2 : (nj1.kind == 2) with
  | false =>
    refine br_f rfl ?_
    have hk3 : (nj1.abs.kind == 2) = false := hk2
    refine hK σ14 B ⟨T14, hT14, hO14, ?_, o14'⟩ s14
    rw [hk3]
    show _ = T14.abs.set j nj1.abs
    unfold AT.set
    rw [up_self hg14]
  | true =>
    refine br_t rfl ?_
    (repeat (first | refine ptr_i ?_ | refine rdT_of (by repeat (first | assumption | refine gG ‹_› ?_ | exact pE ‹_› | refine pG ‹_› (by first | assumption | exact Ne.symm ‹_› | exact ne_fr ‹_› (by repeat (first | exact io ‹_› | exact mS ‹_› | refine gS ‹_› ?_ | refine pS ‹_› ?_)) | exact Ne.symm (ne_fr ‹_› (by repeat (first | exact io ‹_› | exact mS ‹_› | refine gS ‹_› ?_ | refine pS ‹_› ?_)))) ?_)) (by rfl) ?_ | (refine al_i ?_; intro _ _ _ _ _) | refine and_i (rdC_of (by repeat (first | assumption | refine gG ‹_› ?_ | exact pE ‹_› | refine pG ‹_› (by first | assumption | exact Ne.symm ‹_› | exact ne_fr ‹_› (by repeat (first | exact io ‹_› | exact mS ‹_› | refine gS ‹_› ?_ | refine pS ‹_› ?_)) | exact Ne.symm (ne_fr ‹_› (by repeat (first | exact io ‹_› | exact mS ‹_› | refine gS ‹_› ?_ | refine pS ‹_› ?_)))) ?_)) (by rfl)) ?_ | refine rdA_i (by repeat (first | assumption | refine gG ‹_› ?_ | exact pE ‹_› | refine pG ‹_› (by first | assumption | exact Ne.symm ‹_› | exact ne_fr ‹_› (by repeat (first | exact io ‹_› | exact mS ‹_› | refine gS ‹_› ?_ | refine pS ‹_› ?_)) | exact Ne.symm (ne_fr ‹_› (by repeat (first | exact io ‹_› | exact mS ‹_› | refine gS ‹_› ?_ | refine pS ‹_› ?_)))) ?_)) (by rfl) ?_ | (refine st_i2 (by repeat (first | assumption | refine gG ‹_› ?_ | exact pE ‹_› | refine pG ‹_› (by first | assumption | exact Ne.symm ‹_› | exact ne_fr ‹_› (by repeat (first | exact io ‹_› | exact mS ‹_› | refine gS ‹_› ?_ | refine pS ‹_› ?_)) | exact Ne.symm (ne_fr ‹_› (by repeat (first | exact io ‹_› | exact mS ‹_› | refine gS ‹_› ?_ | refine pS ‹_› ?_)))) ?_)) (by first | exact sz_int | exact sz_string | exact sz_bool | exact sz_Inode | exact sz_Quota | exact sz_MSI | exact sz_place | exact sz_Errno) (by rfl) (by rfl) ?_; intro _ _) | refine app_P ?_ | refine app_I ?_ | refine app_S ?_ | refine app_B ?_ | refine app_M ?_ | refine app_L ?_ | refine app_U ?_ | refine app_R ?_ | (refine app_of rfl ?_; try dsimp only)))
    rename_i σ15 p15
    have hk3 : (nj1.abs.kind == 2) = true := hk2
    have hT15 := hT14.putN hO14 (n' := { nj1 with up := to }) hnj1 p15 rfl rfl rfl rfl
    refine hK σ15 B ⟨_, hT15, hO14.set (n' := { nj1 with up := to }) hnj1 rfl rfl, ?_, fun b => (own_set (n' := { nj1 with up := to }) hnj1 rfl rfl b).trans (o14' b)⟩ ?_
    · rw [hk3]; exact abs_set T14 j { nj1 with up := to }
    · intro b o hb hn
      have hn' : ¬ T.own bt b := fun h => hn ((hB b).1 h)
      exact ⟨p15.get (by rw [c1]; exact ((hT.ne hn').2.2 j nj hnj).1) (s14 b o hb hn).1, hn⟩
/-- New -/
theorem s_NewT (qi qb : Int) {σ : H} {K : Value → H → Prop} (hN : newOk qi qb = false → K (.pointer none) σ)
    (hK : newOk qi qb = true → ∀ bt σ' B', σ bt = none → TabAt σ' bt (newT qi qb) B' → Gr σ σ' → (∀ b, B' b → σ b = none) → K (.pointer (some ⟨bt, 0, none⟩)) σ') :
    callW Tryz.prog 49 [.agg ⟨[.int .i64 qi, .int .i64 qb]⟩] K σ := by
  refine callW.drop (K' := fun v σ' => (newOk qi qb = false ∧ v = .pointer none ∧ Gr σ σ') ∨ (newOk qi qb = true ∧ K v σ')) ?_ ?_
  case refine_2 =>
    rintro v σ' (⟨h1, h2, h3⟩ | ⟨h1, h2⟩)
    · exact ⟨σ, h3, h2 ▸ hN h1⟩
    · exact ⟨σ', Gr.refl _, h2⟩
  refine c49 _ _ ?_
  unfold g49
  refine al_i ?_; intro b3 σ1 g1 e1 n1
  refine j_i (fun j => ∀ x : Bool, x = !newOk qi qb → j (some ⟨b3, 0, none⟩) x σ1) ?_ ?_
  case refine_2 =>
    intro j hj
    (repeat (first | refine ptr_i ?_ | refine rdT_of (by repeat (first | assumption | refine gG ‹_› ?_ | exact pE ‹_› | refine pG ‹_› (by first | assumption | exact Ne.symm ‹_› | exact ne_fr ‹_› (by repeat (first | exact io ‹_› | exact mS ‹_› | refine gS ‹_› ?_ | refine pS ‹_› ?_)) | exact Ne.symm (ne_fr ‹_› (by repeat (first | exact io ‹_› | exact mS ‹_› | refine gS ‹_› ?_ | refine pS ‹_› ?_)))) ?_)) (by rfl) ?_ | (refine al_i ?_; intro _ _ _ _ _) | refine and_i (rdC_of (by repeat (first | assumption | refine gG ‹_› ?_ | exact pE ‹_› | refine pG ‹_› (by first | assumption | exact Ne.symm ‹_› | exact ne_fr ‹_› (by repeat (first | exact io ‹_› | exact mS ‹_› | refine gS ‹_› ?_ | refine pS ‹_› ?_)) | exact Ne.symm (ne_fr ‹_› (by repeat (first | exact io ‹_› | exact mS ‹_› | refine gS ‹_› ?_ | refine pS ‹_› ?_)))) ?_)) (by rfl)) ?_ | refine rdA_i (by repeat (first | assumption | refine gG ‹_› ?_ | exact pE ‹_› | refine pG ‹_› (by first | assumption | exact Ne.symm ‹_› | exact ne_fr ‹_› (by repeat (first | exact io ‹_› | exact mS ‹_› | refine gS ‹_› ?_ | refine pS ‹_› ?_)) | exact Ne.symm (ne_fr ‹_› (by repeat (first | exact io ‹_› | exact mS ‹_› | refine gS ‹_› ?_ | refine pS ‹_› ?_)))) ?_)) (by rfl) ?_ | (refine st_i2 (by repeat (first | assumption | refine gG ‹_› ?_ | exact pE ‹_› | refine pG ‹_› (by first | assumption | exact Ne.symm ‹_› | exact ne_fr ‹_› (by repeat (first | exact io ‹_› | exact mS ‹_› | refine gS ‹_› ?_ | refine pS ‹_› ?_)) | exact Ne.symm (ne_fr ‹_› (by repeat (first | exact io ‹_› | exact mS ‹_› | refine gS ‹_› ?_ | refine pS ‹_› ?_)))) ?_)) (by first | exact sz_int | exact sz_string | exact sz_bool | exact sz_Inode | exact sz_Quota | exact sz_MSI | exact sz_place | exact sz_Errno) (by rfl) (by rfl) ?_; intro _ _) | refine app_P ?_ | refine app_I ?_ | refine app_S ?_ | refine app_B ?_ | refine app_M ?_ | refine app_L ?_ | refine app_U ?_ | refine app_R ?_ | (refine app_of rfl ?_; try dsimp only)))
    by_cases h1 : qi < 1
    · exact br_t (by simpa using h1) (hj _ (by simp [newOk, h1]))
    refine br_f (by simpa using h1) ?_
    (repeat (first | refine ptr_i ?_ | refine rdT_of (by repeat (first | assumption | refine gG ‹_› ?_ | exact pE ‹_› | refine pG ‹_› (by first | assumption | exact Ne.symm ‹_› | exact ne_fr ‹_› (by repeat (first | exact io ‹_› | exact mS ‹_› | refine gS ‹_› ?_ | refine pS ‹_› ?_)) | exact Ne.symm (ne_fr ‹_› (by repeat (first | exact io ‹_› | exact mS ‹_› | refine gS ‹_› ?_ | refine pS ‹_› ?_)))) ?_)) (by rfl) ?_ | (refine al_i ?_; intro _ _ _ _ _) | refine and_i (rdC_of (by repeat (first | assumption | refine gG ‹_› ?_ | exact pE ‹_› | refine pG ‹_› (by first | assumption | exact Ne.symm ‹_› | exact ne_fr ‹_› (by repeat (first | exact io ‹_› | exact mS ‹_› | refine gS ‹_› ?_ | refine pS ‹_› ?_)) | exact Ne.symm (ne_fr ‹_› (by repeat (first | exact io ‹_› | exact mS ‹_› | refine gS ‹_› ?_ | refine pS ‹_› ?_)))) ?_)) (by rfl)) ?_ | refine rdA_i (by repeat (first | assumption | refine gG ‹_› ?_ | exact pE ‹_› | refine pG ‹_› (by first | assumption | exact Ne.symm ‹_› | exact ne_fr ‹_› (by repeat (first | exact io ‹_› | exact mS ‹_› | refine gS ‹_› ?_ | refine pS ‹_› ?_)) | exact Ne.symm (ne_fr ‹_› (by repeat (first | exact io ‹_› | exact mS ‹_› | refine gS ‹_› ?_ | refine pS ‹_› ?_)))) ?_)) (by rfl) ?_ | (refine st_i2 (by repeat (first | assumption | refine gG ‹_› ?_ | exact pE ‹_› | refine pG ‹_› (by first | assumption | exact Ne.symm ‹_› | exact ne_fr ‹_› (by repeat (first | exact io ‹_› | exact mS ‹_› | refine gS ‹_› ?_ | refine pS ‹_› ?_)) | exact Ne.symm (ne_fr ‹_› (by repeat (first | exact io ‹_› | exact mS ‹_› | refine gS ‹_› ?_ | refine pS ‹_› ?_)))) ?_)) (by first | exact sz_int | exact sz_string | exact sz_bool | exact sz_Inode | exact sz_Quota | exact sz_MSI | exact sz_place | exact sz_Errno) (by rfl) (by rfl) ?_; intro _ _) | refine app_P ?_ | refine app_I ?_ | refine app_S ?_ | refine app_B ?_ | refine app_M ?_ | refine app_L ?_ | refine app_U ?_ | refine app_R ?_ | (refine app_of rfl ?_; try dsimp only)))
    by_cases h2 : qi > 1048576
    · exact br_t (by simpa using h2) (hj _ (by simp [newOk, h2]))
    refine br_f (by simpa using h2) ?_
    (repeat (first | refine ptr_i ?_ | refine rdT_of (by repeat (first | assumption | refine gG ‹_› ?_ | exact pE ‹_› | refine pG ‹_› (by first | assumption | exact Ne.symm ‹_› | exact ne_fr ‹_› (by repeat (first | exact io ‹_› | exact mS ‹_› | refine gS ‹_› ?_ | refine pS ‹_› ?_)) | exact Ne.symm (ne_fr ‹_› (by repeat (first | exact io ‹_› | exact mS ‹_› | refine gS ‹_› ?_ | refine pS ‹_› ?_)))) ?_)) (by rfl) ?_ | (refine al_i ?_; intro _ _ _ _ _) | refine and_i (rdC_of (by repeat (first | assumption | refine gG ‹_› ?_ | exact pE ‹_› | refine pG ‹_› (by first | assumption | exact Ne.symm ‹_› | exact ne_fr ‹_› (by repeat (first | exact io ‹_› | exact mS ‹_› | refine gS ‹_› ?_ | refine pS ‹_› ?_)) | exact Ne.symm (ne_fr ‹_› (by repeat (first | exact io ‹_› | exact mS ‹_› | refine gS ‹_› ?_ | refine pS ‹_› ?_)))) ?_)) (by rfl)) ?_ | refine rdA_i (by repeat (first | assumption | refine gG ‹_› ?_ | exact pE ‹_› | refine pG ‹_› (by first | assumption | exact Ne.symm ‹_› | exact ne_fr ‹_› (by repeat (first | exact io ‹_› | exact mS ‹_› | refine gS ‹_› ?_ | refine pS ‹_› ?_)) | exact Ne.symm (ne_fr ‹_› (by repeat (first | exact io ‹_› | exact mS ‹_› | refine gS ‹_› ?_ | refine pS ‹_› ?_)))) ?_)) (by rfl) ?_ | (refine st_i2 (by repeat (first | assumption | refine gG ‹_› ?_ | exact pE ‹_› | refine pG ‹_› (by first | assumption | exact Ne.symm ‹_› | exact ne_fr ‹_› (by repeat (first | exact io ‹_› | exact mS ‹_› | refine gS ‹_› ?_ | refine pS ‹_› ?_)) | exact Ne.symm (ne_fr ‹_› (by repeat (first | exact io ‹_› | exact mS ‹_› | refine gS ‹_› ?_ | refine pS ‹_› ?_)))) ?_)) (by first | exact sz_int | exact sz_string | exact sz_bool | exact sz_Inode | exact sz_Quota | exact sz_MSI | exact sz_place | exact sz_Errno) (by rfl) (by rfl) ?_; intro _ _) | refine app_P ?_ | refine app_I ?_ | refine app_S ?_ | refine app_B ?_ | refine app_M ?_ | refine app_L ?_ | refine app_U ?_ | refine app_R ?_ | (refine app_of rfl ?_; try dsimp only)))
    by_cases h3 : qb < 0
    · exact br_t (by simpa using h3) (hj _ (by simp [newOk, h3]))
    refine br_f (by simpa using h3) ?_
    (repeat (first | refine ptr_i ?_ | refine rdT_of (by repeat (first | assumption | refine gG ‹_› ?_ | exact pE ‹_› | refine pG ‹_› (by first | assumption | exact Ne.symm ‹_› | exact ne_fr ‹_› (by repeat (first | exact io ‹_› | exact mS ‹_› | refine gS ‹_› ?_ | refine pS ‹_› ?_)) | exact Ne.symm (ne_fr ‹_› (by repeat (first | exact io ‹_› | exact mS ‹_› | refine gS ‹_› ?_ | refine pS ‹_› ?_)))) ?_)) (by rfl) ?_ | (refine al_i ?_; intro _ _ _ _ _) | refine and_i (rdC_of (by repeat (first | assumption | refine gG ‹_› ?_ | exact pE ‹_› | refine pG ‹_› (by first | assumption | exact Ne.symm ‹_› | exact ne_fr ‹_› (by repeat (first | exact io ‹_› | exact mS ‹_› | refine gS ‹_› ?_ | refine pS ‹_› ?_)) | exact Ne.symm (ne_fr ‹_› (by repeat (first | exact io ‹_› | exact mS ‹_› | refine gS ‹_› ?_ | refine pS ‹_› ?_)))) ?_)) (by rfl)) ?_ | refine rdA_i (by repeat (first | assumption | refine gG ‹_› ?_ | exact pE ‹_› | refine pG ‹_› (by first | assumption | exact Ne.symm ‹_› | exact ne_fr ‹_› (by repeat (first | exact io ‹_› | exact mS ‹_› | refine gS ‹_› ?_ | refine pS ‹_› ?_)) | exact Ne.symm (ne_fr ‹_› (by repeat (first | exact io ‹_› | exact mS ‹_› | refine gS ‹_› ?_ | refine pS ‹_› ?_)))) ?_)) (by rfl) ?_ | (refine st_i2 (by repeat (first | assumption | refine gG ‹_› ?_ | exact pE ‹_› | refine pG ‹_› (by first | assumption | exact Ne.symm ‹_› | exact ne_fr ‹_› (by repeat (first | exact io ‹_› | exact mS ‹_› | refine gS ‹_› ?_ | refine pS ‹_› ?_)) | exact Ne.symm (ne_fr ‹_› (by repeat (first | exact io ‹_› | exact mS ‹_› | refine gS ‹_› ?_ | refine pS ‹_› ?_)))) ?_)) (by first | exact sz_int | exact sz_string | exact sz_bool | exact sz_Inode | exact sz_Quota | exact sz_MSI | exact sz_place | exact sz_Errno) (by rfl) (by rfl) ?_; intro _ _) | refine app_P ?_ | refine app_I ?_ | refine app_S ?_ | refine app_B ?_ | refine app_M ?_ | refine app_L ?_ | refine app_U ?_ | refine app_R ?_ | (refine app_of rfl ?_; try dsimp only)))
    exact hj _ (by simp [newOk, h1, h2, h3])
  intro x hx
  cases hx2 : newOk qi qb with
  | false =>
    rw [hx2] at hx; subst hx
    exact br_t rfl (.inl ⟨rfl, rfl, g1⟩)
  | true =>
    rw [hx2] at hx; subst hx
    refine br_f rfl ?_
    refine al_i ?_; intro b7 σ2 g2 e2 n2
    refine al_i ?_; intro b8 σ3 g3 e3 n3
    (repeat (first | refine ptr_i ?_ | refine rdT_of (by repeat (first | assumption | refine gG ‹_› ?_ | exact pE ‹_› | refine pG ‹_› (by first | assumption | exact Ne.symm ‹_› | exact ne_fr ‹_› (by repeat (first | exact io ‹_› | exact mS ‹_› | refine gS ‹_› ?_ | refine pS ‹_› ?_)) | exact Ne.symm (ne_fr ‹_› (by repeat (first | exact io ‹_› | exact mS ‹_› | refine gS ‹_› ?_ | refine pS ‹_› ?_)))) ?_)) (by rfl) ?_ | (refine al_i ?_; intro _ _ _ _ _) | refine and_i (rdC_of (by repeat (first | assumption | refine gG ‹_› ?_ | exact pE ‹_› | refine pG ‹_› (by first | assumption | exact Ne.symm ‹_› | exact ne_fr ‹_› (by repeat (first | exact io ‹_› | exact mS ‹_› | refine gS ‹_› ?_ | refine pS ‹_› ?_)) | exact Ne.symm (ne_fr ‹_› (by repeat (first | exact io ‹_› | exact mS ‹_› | refine gS ‹_› ?_ | refine pS ‹_› ?_)))) ?_)) (by rfl)) ?_ | refine rdA_i (by repeat (first | assumption | refine gG ‹_› ?_ | exact pE ‹_› | refine pG ‹_› (by first | assumption | exact Ne.symm ‹_› | exact ne_fr ‹_› (by repeat (first | exact io ‹_› | exact mS ‹_› | refine gS ‹_› ?_ | refine pS ‹_› ?_)) | exact Ne.symm (ne_fr ‹_› (by repeat (first | exact io ‹_› | exact mS ‹_› | refine gS ‹_› ?_ | refine pS ‹_› ?_)))) ?_)) (by rfl) ?_ | (refine st_i2 (by repeat (first | assumption | refine gG ‹_› ?_ | exact pE ‹_› | refine pG ‹_› (by first | assumption | exact Ne.symm ‹_› | exact ne_fr ‹_› (by repeat (first | exact io ‹_› | exact mS ‹_› | refine gS ‹_› ?_ | refine pS ‹_› ?_)) | exact Ne.symm (ne_fr ‹_› (by repeat (first | exact io ‹_› | exact mS ‹_› | refine gS ‹_› ?_ | refine pS ‹_› ?_)))) ?_)) (by first | exact sz_int | exact sz_string | exact sz_bool | exact sz_Inode | exact sz_Quota | exact sz_MSI | exact sz_place | exact sz_Errno) (by rfl) (by rfl) ?_; intro _ _) | refine app_P ?_ | refine app_I ?_ | refine app_S ?_ | refine app_B ?_ | refine app_M ?_ | refine app_L ?_ | refine app_U ?_ | refine app_R ?_ | (refine app_of rfl ?_; try dsimp only)))
    rename_i b13 σ4 g4 e4 n4
    let nr : Nd := ⟨b8, 2, 493, ⟨⟨[]⟩⟩, 1, 1, some b7, []⟩
    have m0 : MapAt σ4 b13 (encL kkI Nd.ptr []) := MapAt.new e4
    refine mu_i (kk := kkI) (f := Nd.ptr) und_MIN und_int m0 1 nr ?_
    intro o5 σ5 p5 m5
    refine al_i ?_; intro b14 σ6 g6 e6 n6
    refine .inr ⟨rfl, ?_⟩
    let T : Tb := ⟨qi, qb, 1, 0, 1, b13, [(1, nr)]⟩
    have q8 : b8 ≠ b13 := ne_fresh e3 n4
    have q7 : b7 ≠ b13 := ne_fr n4 (by repeat (first | exact io ‹_› | exact mS ‹_› | refine gS ‹_› ?_ | refine pS ‹_› ?_))
    have hget : ∀ i n, T.get i = some n → i = 1 ∧ n = nr := by
      intro i n h
      unfold Tb.get at h
      simp only [T, lk] at h
      cases hi : (i == 1) with
      | true => rw [hi] at h; cases h; exact ⟨by simpa using hi, rfl⟩
      | false => rw [hi] at h; cases h
    have hT : TAt σ6 b14 T := by
      refine ⟨e6, m5.gr g6, ?_⟩
      intro i n h
      obtain ⟨_, rfl⟩ := hget i n h
      refine ⟨?_, ?_, fun h => (by cases h), fun _ h => (by cases h)⟩
      · exact g6.get (p5.get q8 (g4.get e3))
      · intro e he
        cases he
        exact MapAt.new (g6.get (p5.get q7 (g4.get (g3.get e2))))
    have hO : Own T := by
      refine ⟨?_, ?_, ?_⟩
      · intro i j n m hi hj _; rw [(hget i n hi).1, (hget j m hj).1]
      · intro i j n m e hi hj _ _; rw [(hget i n hi).1, (hget j m hj).1]
      · intro i n hi; rw [(hget i n hi).2]; intro h; exact q7 (Option.some.inj h)
    have gg : Gr σ σ4 := by repeat (first | exact Gr.refl _ | assumption | refine Gr.trans ?_ ‹_› | refine Gr.putF ?_ ‹_› (none_of ?_ ‹_›))
    have g5 : Gr σ σ5 := gg.putF p5 (none_of (by repeat (first | exact Gr.refl _ | assumption | refine Gr.trans ?_ ‹_› | refine Gr.putF ?_ ‹_› (none_of ?_ ‹_›))) n4)
    refine hK hx2 b14 σ6 (T.own b14) (none_of g5 n6) ⟨T, hT, hO, rfl, fun _ => Iff.rfl⟩ (g5.trans g6) ?_
    rintro b (e | e | ⟨i, n, hn, hb⟩)
    · subst e; exact none_of g5 n6
    · subst e; exact none_of ((g1.trans g2).trans g3) n4
    · obtain ⟨_, rfl⟩ := hget i n hn
      rcases hb with e | e
      · subst e; exact none_of (g1.trans g2) n3
      · cases e; exact none_of g1 n2
end Go.Proofs.YtlpcehbfoogejaaGreatDoor

/- WHAT IS ASKED OF THE LIBRARY: IndexByte. -/
set_option maxRecDepth 100000
namespace Go.Proofs.YtlpcehbfoogejaaGreatDoor
open Go Go.HL Go.Wk
theorem go_IBS : isGo Tryz.prog 170 = false := by kernel_rfl
theorem fn_IBS : (Tryz.prog.funcs[170]?).map (fun fn => ((fn.name == "runtime.NumGoroutine"), fn.body.isNone)) = some (false, true) := by kernel_rfl
theorem ex_IBS : (Tryz.prog.funcs[170]?).bind (fun fn => Extern.find fn) = some Extern.BytealgIndexByte.indexByte := by kernel_rfl
theorem en_IBS : (Tryz.prog.funcs[170]?).map (fun fn => (Extern.findNext fn).isNone) = some true := by kernel_rfl
theorem x_IBS (s : ByteArray) (c : Int) {σ : H} {F : Int → H → Prop} (hF : F (firstIdx s c.toNat.toUInt8) σ) : cvalT Tryz.prog (.func (.func 170) ⟨[]⟩ ⟨[]⟩) [.string s, .int .u8 c] kI F σ := by
  unfold cvalT callVW
  simp only [go_IBS]
  intro w hw
  have h1 := fn_IBS
  have h2 := ex_IBS
  have h3 := en_IBS
  cases hf : Tryz.prog.funcs[170]? with
  | none => rw [hf] at h1; cases h1
  | some fn =>
    rw [hf] at h1 h2 h3
    simp only [Option.map_some, Option.some.injEq, Prod.mk.injEq, Option.bind_some] at h1 h2 h3
    have hr := run_callFunc_indexByte hf h1.1 h1.2 (Option.isNone_iff_eq_none.1 h3) h2 #[.string s, .int .u8 c] w
    rw [run_indexByte_string] at hr
    have : (callS (.func (.func 170) ⟨[]⟩ ⟨[]⟩) [.string s, .int .u8 c]).run Tryz.prog w = .ok (.value (.int .i64 (firstIdx s c.toNat.toUInt8))) w := by
      refine Eq.trans ?_ hr
      simp [callS, Deferred.ofValue, invoke]
    rw [this]
    exact ⟨σ, Ext.refl hw, app_I hF⟩
theorem firstIdx_lt (s : ByteArray) (c : UInt8) : decide (firstIdx s c < 0) = !(s.toList.any fun x => x == c) := by
  have key : (∃ i, i < s.size ∧ s[i]! = c) ↔ c ∈ s.toList := by
    rw [ByteArray.toList_eq]
    constructor
    · rintro ⟨i, hi, he⟩
      rw [getElem!_pos s i hi] at he
      rw [← he]
      exact Array.getElem_mem_toList (xs := s.data) hi
    · intro h
      obtain ⟨i, hi, he⟩ := List.getElem_of_mem h
      have hi' : i < s.data.size := by simpa using hi
      refine ⟨i, hi', ?_⟩
      rw [getElem!_pos s i hi', ← he]
      simp [ByteArray.getElem_eq_getElem_data]
  unfold firstIdx
  cases hf : (List.range s.size).find? fun i => s[i]! == c with
  | some i =>
    have h1 := List.find?_some hf
    have h2 := List.mem_of_find?_eq_some hf
    have : c ∈ s.toList := key.1 ⟨i, by simpa using h2, by simpa using h1⟩
    have h3 : (s.toList.any fun x => x == c) = true := List.any_eq_true.2 ⟨c, this, by simp⟩
    rw [h3]
    simp
  | none =>
    have h1 := List.find?_eq_none.1 hf
    have h3 : (s.toList.any fun x => x == c) = false := by
      rw [List.any_eq_false]
      intro x hx hxc
      have : x = c := by simpa using hxc
      subst this
      obtain ⟨i, hi, he⟩ := key.2 hx
      exact h1 i (by simpa using hi) (by simpa using he)
    rw [h3]; rfl
theorem x_IndexByte (s : ByteArray) (c : Int) {σ : H} {K : Value → H → Prop} (hK : K (.int .i64 (firstIdx s c.toNat.toUInt8)) σ) : callW Tryz.prog 65 [.string s, .int .u8 c] K σ := by
  refine c65 _ _ ?_
  unfold g65
  refine call_i ?_
  refine c118 _ _ ?_
  unfold g118
  exact x_IBS s c (app_I hK)
theorem iByte : IByte := by
  intro s σ K hK
  refine x_IndexByte s 0 (hK _ ?_)
  have := firstIdx_lt s 0
  rw [ByteArray.toList_eq] at this
  exact this
end Go.Proofs.YtlpcehbfoogejaaGreatDoor

/- A FILE SYSTEM over a table of inodes, as plain data: no program in sight. -/
namespace Go.Wk
open Go Go.HL
def leB : List UInt8 → List UInt8 → Bool
  | [], _ => true
  | _ :: _, [] => false
  | a :: r, b :: s => match Nat.blt a.toNat b.toNat with
    | true => true
    | false => match Nat.blt b.toNat a.toNat with
      | true => false
      | false => leB r s
def insB (x : List UInt8) : List (List UInt8) → List (List UInt8)
  | [] => [x]
  | y :: r => match leB x y with
    | true => x :: y :: r
    | false => y :: insB x r
def sortB : List (List UInt8) → List (List UInt8)
  | [] => []
  | x :: r => insB x (sortB r)
def sortN (l : List ByteArray) : List ByteArray := (sortB (l.map fun s => s.data.toList)).map fun x => (⟨⟨x⟩⟩ : ByteArray)
theorem leB_iff : ∀ x y : List UInt8, leB x y = true ↔ x ≤ y := by
  intro x
  induction x with
  | nil => intro y; simp [leB]
  | cons a r ih =>
    intro y
    cases y with
    | nil => simp [leB]
    | cons b s =>
      rw [List.cons_le_cons_iff]
      unfold leB
      cases h1 : Nat.blt a.toNat b.toNat with
      | true =>
        have : a < b := UInt8.lt_iff_toNat_lt.2 (by simpa [Nat.blt_eq] using h1)
        simp [this]
      | false =>
        have h1' : ¬ a < b := by
          intro h; have : Nat.blt a.toNat b.toNat = true := by rw [Nat.blt_eq]; exact h
          rw [h1] at this; cases this
        cases h2 : Nat.blt b.toNat a.toNat with
        | true =>
          have : b < a := UInt8.lt_iff_toNat_lt.2 (by simpa [Nat.blt_eq] using h2)
          simp only [Bool.false_eq_true, false_iff, not_or, not_and]
          refine ⟨h1', fun e => ?_⟩
          subst e; exact absurd this (UInt8.lt_irrefl _)
        | false =>
          have h2' : ¬ b < a := by
            intro h; have : Nat.blt b.toNat a.toNat = true := by rw [Nat.blt_eq]; exact h
            rw [h2] at this; cases this
          have : a = b := UInt8.le_antisymm (UInt8.not_lt.1 h2') (UInt8.not_lt.1 h1')
          simp [this, ih]
theorem insB_perm (x : List UInt8) : ∀ l, (insB x l).Perm (x :: l) := by
  intro l
  induction l with
  | nil => exact List.Perm.refl _
  | cons y r ih =>
    unfold insB
    cases leB x y with
    | true => exact List.Perm.refl _
    | false => exact (ih.cons y).trans (List.Perm.swap x y r)
theorem sortB_perm : ∀ l, (sortB l).Perm l := by
  intro l
  induction l with
  | nil => exact List.Perm.refl _
  | cons x r ih => exact (insB_perm x _).trans (ih.cons x)
theorem insB_sorted {x : List UInt8} : ∀ {l : List (List UInt8)}, l.Pairwise (· ≤ ·) → (insB x l).Pairwise (· ≤ ·) := by
  intro l
  induction l with
  | nil => intro _; simp [insB]
  | cons y r ih =>
    intro h
    obtain ⟨h1, h2⟩ := List.pairwise_cons.1 h
    unfold insB
    cases hb : leB x y with
    | true =>
      have hxy := (leB_iff x y).1 hb
      refine List.pairwise_cons.2 ⟨fun z hz => ?_, h⟩
      rcases List.mem_cons.1 hz with e | e
      · rw [e]; exact hxy
      · exact List.le_trans hxy (h1 z e)
    | false =>
      have hyx : y ≤ x := by
        have : ¬ x ≤ y := by rw [← leB_iff, hb]; simp
        exact (List.le_total x y).resolve_left this
      refine List.pairwise_cons.2 ⟨fun z hz => ?_, ih h2⟩
      rcases List.mem_cons.1 ((insB_perm x r).mem_iff.1 hz) with e | e
      · rw [e]; exact hyx
      · exact h1 z e
theorem sortB_sorted : ∀ l, (sortB l).Pairwise (· ≤ ·) := by
  intro l
  induction l with
  | nil => exact List.Pairwise.nil
  | cons x r ih => exact insB_sorted ih
theorem sortB_merge (l : List (List UInt8)) : l.mergeSort (fun x y => decide (x ≤ y)) = sortB l := by
  have h1 := List.pairwise_mergeSort (le := fun x y : List UInt8 => decide (x ≤ y)) (by intro a b c h1 h2; simp only [decide_eq_true_eq] at *; exact List.le_trans h1 h2) (by intro a b; simp only [Bool.or_eq_true, decide_eq_true_eq]; exact List.le_total a b) l
  have h1' : (l.mergeSort (fun x y => decide (x ≤ y))).Pairwise (· ≤ ·) := h1.imp (by intro a b h; simpa using h)
  refine List.Perm.eq_of_pairwise (le := (· ≤ ·)) ?_ h1' (sortB_sorted l) ((List.mergeSort_perm l _).trans (sortB_perm l).symm)
  intro a b _ _ h1 h2; exact List.le_antisymm h1 h2
/-- the names in a directory, rising -/
def AT.names (A : AT) (dir : Int) : List ByteArray := match A.get dir with
  | none => []
  | some n => sortN (keysL n.ents)
/-- a place -/
structure Pl where
  dir : Int
  name : ByteArray
  ino : Int
  there : Bool
def Pl.z : Pl := ⟨0, ⟨⟨[]⟩⟩, 0, false⟩
/-- the parts between strokes -/
def splitL (c : UInt8) : List UInt8 → List (List UInt8)
  | [] => [[]]
  | x :: r => match x == c with
    | true => [] :: splitL c r
    | false => match splitL c r with
      | [] => [[x]]
      | h :: t => (x :: h) :: t
def okPart (s : ByteArray) : Bool := !sEq s ⟨⟨[]⟩⟩ && !sEq s ⟨⟨[46]⟩⟩
def partsB (path : ByteArray) : List ByteArray := ((splitL 47 path.data.toList).map fun l => (⟨⟨l⟩⟩ : ByteArray)).filter okPart
def mayE (path : ByteArray) : Int := if sEq path ⟨⟨[]⟩⟩ then 5 else if path.size > 255 then 3 else if hasNul path then 2 else 0
def headIs (c : UInt8) (s : ByteArray) : Bool := match s.data.toList with
  | [] => false
  | x :: _ => x == c
def AT.data (A : AT) (i : Int) : ByteArray := ((A.get i).map (·.data)).getD ⟨⟨[]⟩⟩
/-- the names of a path, one behind the other -/
def AT.steps (A : AT) (go : Int → ByteArray → Int → Int × Pl × Int) (follow : Bool) : List ByteArray → Pl → Int → Int × Pl × Int
  | [], p, h => (0, p, h)
  | name :: rest, p, h =>
    if p.there = false then (5, Pl.z, h)
    else if A.kind p.ino ≠ 2 then (8, Pl.z, h)
    else if sEq name ⟨⟨[46, 46]⟩⟩ = true then AT.steps A go follow rest ⟨A.upOf p.ino, ⟨⟨[]⟩⟩, A.upOf p.ino, true⟩ h
    else if name.size > 56 then (3, Pl.z, h)
    else
      let o := A.find p.ino name
      let q : Pl := ⟨p.ino, name, o.getD 0, o.isSome⟩
      if o.isSome = false ∨ (rest.isEmpty && !follow) = true ∨ A.kind q.ino ≠ 3 then AT.steps A go follow rest q h
      else if h - 1 < 0 then (9, Pl.z, h - 1)
      else
        let r := go q.dir (A.data q.ino) (h - 1)
        if r.1 ≠ 0 then (r.1, Pl.z, r.2.2) else AT.steps A go follow rest r.2.1 r.2.2
def AT.walk (A : AT) : Nat → Int → ByteArray → Bool → Int → Int × Pl × Int
  | 0, _, _, _, h => (9, Pl.z, h)
  | f + 1, at_, path, follow, h =>
    if mayE path ≠ 0 then (mayE path, Pl.z, h)
    else
      let a := if headIs 47 path then 1 else at_
      A.steps (fun d s h' => AT.walk A f d s true h') follow (partsB path) ⟨a, ⟨⟨[]⟩⟩, a, true⟩ h
def AT.locate (A : AT) (cwd path : ByteArray) (follow : Bool) : Int × Pl :=
  if sEq path ⟨⟨[]⟩⟩ then (5, Pl.z)
  else if headIs 47 path then let r := A.walk 10 1 path follow 8; (r.1, r.2.1)
  else if headIs 47 cwd = false then (5, Pl.z)
  else
    let r := A.walk 10 1 cwd true 8
    if r.1 ≠ 0 then (r.1, Pl.z)
    else if r.2.1.there = false then (5, Pl.z)
    else if A.kind r.2.1.ino ≠ 2 then (8, Pl.z)
    else let r' := A.walk 10 r.2.1.ino path follow 8; (r'.1, r'.2.1)
/-- what is known of an inode -/
structure IN where
  kind : Int
  mode : Int
  data : ByteArray
  links : Int
def IN.z : IN := ⟨0, 0, ⟨⟨[]⟩⟩, 0⟩
def AN.inode (n : AN) : IN := ⟨n.kind, n.mode, n.data, n.links⟩
def AT.ino (A : AT) (i : Int) : IN := ((A.get i).map AN.inode).getD IN.z
/-- what lies somewhere -/
def AT.with_ (A : AT) (cwd path : ByteArray) (follow : Bool) : Int × Int × IN :=
  let r := A.locate cwd path follow
  if r.1 ≠ 0 then (r.1, 0, IN.z)
  else if r.2.there = false then (5, 0, IN.z)
  else match A.get r.2.ino with
    | none => (5, 0, IN.z)
    | some n => (0, r.2.ino, n.inode)
def AT.stat (A : AT) (cwd path : ByteArray) (follow : Bool) : Int × IN := let r := A.with_ cwd path follow; (r.1, r.2.2)
/-- how deep a directory lies -/
def AT.deep (A : AT) : Nat → Int → Option Int
  | 0, _ => none
  | f + 1, d => if d = 1 then some 1 else (AT.deep A f (A.upOf d)).map (· + 1)
def AT.within (A : AT) (ino : Int) : Nat → Int → Option Bool
  | 0, _ => none
  | f + 1, d => if d = ino then some true else if d = 1 then some false else AT.within A ino f (A.upOf d)
def AT.writeF (A : AT) (cwd path data : ByteArray) (more : Bool) : Int × AT :=
  let r := A.locate cwd path true
  if r.1 ≠ 0 then (r.1, A)
  else if r.2.there = false then let m := A.makeR r.2.dir r.2.name 1 420 data; (m.2.1, m.2.2)
  else if A.kind r.2.ino = 2 then (7, A)
  else A.writeR r.2.ino (if more then A.data r.2.ino ++ data else data)
/-- a place where nothing lies -/
def AT.freshP (A : AT) (cwd path : ByteArray) : Int × Pl :=
  let r := A.locate cwd path false
  if r.1 ≠ 0 then (r.1, Pl.z) else if r.2.there = true then (6, Pl.z) else (0, r.2)
def AT.mkdirF (A : AT) (cwd path : ByteArray) : Int × AT :=
  let r := A.freshP cwd path
  if r.1 ≠ 0 then (r.1, A)
  else if (A.deep 13 r.2.dir).getD 0 ≥ 12 then (3, A)
  else let m := A.makeR r.2.dir r.2.name 2 493 ⟨⟨[]⟩⟩; (m.2.1, m.2.2)
def AT.symlinkF (A : AT) (cwd target path : ByteArray) : Int × AT :=
  if linkOk target = false then (2, A)
  else
    let r := A.freshP cwd path
    if r.1 ≠ 0 then (r.1, A)
    else let m := A.makeR r.2.dir r.2.name 3 511 target; (m.2.1, m.2.2)
def AT.chmodF (A : AT) (cwd path : ByteArray) (mode : Int) : Int × AT :=
  if mode < 0 ∨ mode > 511 then (2, A)
  else
    let r := A.with_ cwd path true
    if r.1 ≠ 0 then (r.1, A)
    else A.chmodR r.2.1 mode
def AT.listF (A : AT) (cwd path : ByteArray) : Int × List ByteArray :=
  let r := A.with_ cwd path true
  if r.1 ≠ 0 then (r.1, []) else if r.2.2.kind ≠ 2 then (8, []) else (0, A.names r.2.1)
def AT.both (A : AT) (cwd src to : ByteArray) : Int × Pl × Pl :=
  let p := A.locate cwd src false
  if p.1 ≠ 0 then (p.1, p.2, Pl.z) else let q := A.locate cwd to false; (q.1, p.2, q.2)
def AT.hardF (A : AT) (cwd src to : ByteArray) : Int × AT :=
  let r := A.both cwd src to
  if r.1 ≠ 0 then (r.1, A)
  else if r.2.1.there = false then (5, A)
  else if A.kind r.2.1.ino = 2 then (7, A)
  else if A.kind r.2.1.ino = 3 then (2, A)
  else if r.2.2.there = true then (6, A)
  else A.linkR r.2.2.dir r.2.2.name r.2.1.ino
def AT.levels (A : AT) : Nat → Int → Int
  | 0, _ => 0
  | f + 1, i => if A.kind i ≠ 2 then 0 else (A.names i).foldl (fun n s => let x := AT.levels A f ((A.find i s).getD 0); if x > n then x else n) 0 + 1
def AT.overE (A : AT) (p q : Pl) : Int :=
  let e := if q.there = false then 0
    else if A.kind q.ino = 2 ∧ A.kind p.ino ≠ 2 then 7
    else if A.kind p.ino = 2 ∧ A.kind q.ino ≠ 2 then 8
    else if (A.names q.ino).length > 0 then 20 else 0
  if e ≠ 0 then e
  else if A.kind p.ino = 2 ∧ (A.within p.ino 13 q.dir).getD false = true then 2
  else if (A.deep 13 q.dir).getD 0 + A.levels 14 p.ino > 12 then 3
  else 0
def AT.renameF (A : AT) (cwd src to : ByteArray) : Int × AT :=
  let r := A.both cwd src to
  let p := r.2.1
  let q := r.2.2
  if r.1 ≠ 0 then (r.1, A)
  else if sEq p.name ⟨⟨[]⟩⟩ = true ∨ sEq q.name ⟨⟨[]⟩⟩ = true then (2, A)
  else if p.there = false then (5, A)
  else if q.there = true ∧ p.ino = q.ino then (0, A)
  else if A.overE p q ≠ 0 then (A.overE p q, A)
  else if q.there = true then
    let u := A.unlinkR q.dir q.name
    if u.1 ≠ 0 then u else u.2.moveR p.dir p.name q.dir q.name 14
  else A.moveR p.dir p.name q.dir q.name 14
end Go.Wk

