/- A part of the proof: FsQuota returns true for every input and leaves its arguments as they were; no condition beside the row's own (the two tables of unicode/utf8 hold what the program's text lays). -/
import Derived.Test.YtlpcehbfoogejaaGreatDoorQac
/- THE TABLE OF INODES: Link, Write, Chmod, New. -/
set_option maxRecDepth 100000
namespace Go.Proofs.YtlpcehbfoogejaaGreatDoor
open Go Go.HL Go.Wk
attribute [local irreducible] ptrW ifW brW andW rdT alW letJ stW muW biW vaW imW callT cvalT app callW invW callVW sizeT oW nilF oneK loopW rfW funW begW roundK exW idxW Gr Put
theorem fileE_z {T : Tb} {d : Int} (h : T.fileE d = 0) : ∃ n, T.get d = some n ∧ n.kind = 1 := by
  unfold Tb.fileE at h
  cases hn : T.get d with
  | none => rw [hn] at h; cases h
  | some n =>
    rw [hn] at h
    refine ⟨n, rfl, ?_⟩
    cases hk : (n.kind == 2) with
    | true => simp [hk] at h
    | false =>
      simp only [hk] at h
      cases hk1 : (n.kind == 1) with
      | true => simpa using hk1
      | false => simp [hk1] at h
/-- what is not the table's is none of its blocks -/
theorem TAt.ne {σ : H} {bt : Nat} {T : Tb} (_hT : TAt σ bt T) {b : Nat} (hb : ¬ T.own bt b) : b ≠ bt ∧ b ≠ T.mb ∧ (∀ i n, T.get i = some n → b ≠ n.blk ∧ n.eb ≠ some b) :=
  ⟨fun e => hb (.inl e), fun e => hb (.inr (.inl e)), fun i n hn => ⟨fun e => hb (.inr (.inr ⟨i, n, hn, .inl e⟩)), fun e => hb (.inr (.inr ⟨i, n, hn, .inr e⟩))⟩⟩
theorem s_Link (hC : CAny) {σ : H} {bt : Nat} {A : AT} {B : Nat → Prop} (hA : TabAt σ bt A B) (dir : Int) (name : ByteArray) (ino : Int) {K : Value → H → Prop}
    (hK : ∀ σ' B', TabAt σ' bt (AT.linkR A dir name ino).2 B' → Sep σ B σ' B' → K (.int .i64 (AT.linkR A dir name ino).1) σ') :
    callW Tryz.prog 71 [.pointer (some ⟨bt, 0, none⟩), .int .i64 dir, .string name, .int .i64 ino] K σ := by
  obtain ⟨T, hT, hO, rfl, hB⟩ := hA
  have hc0 := hT.cells
  refine c71 _ _ _ _ ?_
  unfold g71
  refine call_i (s_dir _ _ ?_)
  intro c1 c2 σ5 g5 f1 f2
  refine app_R ?_
  refine call_i (s_named _ ?_)
  intro c3 σ6 g6 f3
  refine app_R ?_
  refine call_i (s_file _ _ ?_)
  intro c7 c8 σ6' g6' f7 f8
  refine app_R ?_
  refine call_i (s_free _ _ _ ?_)
  intro c4 c5 c6 σ7 g7 f4 f5 f6
  refine app_R ?_
  refine one_f (one_f (one_f (one_f ?_)))
  refine al_i ?_; intro b17 σ8 g8 e8 n8
  have hgr : Lng σ σ8 := ⟨by repeat (first | exact Gr.refl _ | assumption | refine Gr.trans ?_ ‹_› | refine Gr.putF ?_ ‹_› (none_of ?_ ‹_›))⟩
  have hT8 := hT.gr hgr.gr
  refine call_i (s_first (es := [0, T.dirE dir, namedE name, T.fileE ino, if (T.find dir name).isSome then 6 else 0]) e8 ?_ (by simp) (app_I ?_))
  · refine ⟨pu_of go_there fun K hk => s_there _ hk, fun _ => ⟨pu_of go_dir1 fun K hk => s_dir1 hT8 (by repeat (first | assumption | refine gG ‹_› ?_ | exact pE ‹_› | refine pG ‹_› (by first | assumption | exact Ne.symm ‹_› | exact ne_fr ‹_› (by repeat (first | exact io ‹_› | exact mS ‹_› | refine gS ‹_› ?_ | refine pS ‹_› ?_)) | exact Ne.symm (ne_fr ‹_› (by repeat (first | exact io ‹_› | exact mS ‹_› | refine gS ‹_› ?_ | refine pS ‹_› ?_)))) ?_)) (by repeat (first | assumption | refine gG ‹_› ?_ | exact pE ‹_› | refine pG ‹_› (by first | assumption | exact Ne.symm ‹_› | exact ne_fr ‹_› (by repeat (first | exact io ‹_› | exact mS ‹_› | refine gS ‹_› ?_ | refine pS ‹_› ?_)) | exact Ne.symm (ne_fr ‹_› (by repeat (first | exact io ‹_› | exact mS ‹_› | refine gS ‹_› ?_ | refine pS ‹_› ?_)))) ?_)) hk, fun _ => ⟨pu_of go_named1 fun K hk => s_named1 hC (by repeat (first | assumption | refine gG ‹_› ?_ | exact pE ‹_› | refine pG ‹_› (by first | assumption | exact Ne.symm ‹_› | exact ne_fr ‹_› (by repeat (first | exact io ‹_› | exact mS ‹_› | refine gS ‹_› ?_ | refine pS ‹_› ?_)) | exact Ne.symm (ne_fr ‹_› (by repeat (first | exact io ‹_› | exact mS ‹_› | refine gS ‹_› ?_ | refine pS ‹_› ?_)))) ?_)) hk, fun _ => ⟨pu_of go_file1 fun K hk => s_file1 hT8 (by repeat (first | assumption | refine gG ‹_› ?_ | exact pE ‹_› | refine pG ‹_› (by first | assumption | exact Ne.symm ‹_› | exact ne_fr ‹_› (by repeat (first | exact io ‹_› | exact mS ‹_› | refine gS ‹_› ?_ | refine pS ‹_› ?_)) | exact Ne.symm (ne_fr ‹_› (by repeat (first | exact io ‹_› | exact mS ‹_› | refine gS ‹_› ?_ | refine pS ‹_› ?_)))) ?_)) (by repeat (first | assumption | refine gG ‹_› ?_ | exact pE ‹_› | refine pG ‹_› (by first | assumption | exact Ne.symm ‹_› | exact ne_fr ‹_› (by repeat (first | exact io ‹_› | exact mS ‹_› | refine gS ‹_› ?_ | refine pS ‹_› ?_)) | exact Ne.symm (ne_fr ‹_› (by repeat (first | exact io ‹_› | exact mS ‹_› | refine gS ‹_› ?_ | refine pS ‹_› ?_)))) ?_)) hk, fun _ => ⟨pu_of go_free1 fun K hk => s_free1 hT8 (by repeat (first | assumption | refine gG ‹_› ?_ | exact pE ‹_› | refine pG ‹_› (by first | assumption | exact Ne.symm ‹_› | exact ne_fr ‹_› (by repeat (first | exact io ‹_› | exact mS ‹_› | refine gS ‹_› ?_ | refine pS ‹_› ?_)) | exact Ne.symm (ne_fr ‹_› (by repeat (first | exact io ‹_› | exact mS ‹_› | refine gS ‹_› ?_ | refine pS ‹_› ?_)))) ?_)) (by repeat (first | assumption | refine gG ‹_› ?_ | exact pE ‹_› | refine pG ‹_› (by first | assumption | exact Ne.symm ‹_› | exact ne_fr ‹_› (by repeat (first | exact io ‹_› | exact mS ‹_› | refine gS ‹_› ?_ | refine pS ‹_› ?_)) | exact Ne.symm (ne_fr ‹_› (by repeat (first | exact io ‹_› | exact mS ‹_› | refine gS ‹_› ?_ | refine pS ‹_› ?_)))) ?_)) (by repeat (first | assumption | refine gG ‹_› ?_ | exact pE ‹_› | refine pG ‹_› (by first | assumption | exact Ne.symm ‹_› | exact ne_fr ‹_› (by repeat (first | exact io ‹_› | exact mS ‹_› | refine gS ‹_› ?_ | refine pS ‹_› ?_)) | exact Ne.symm (ne_fr ‹_› (by repeat (first | exact io ‹_› | exact mS ‹_› | refine gS ‹_› ?_ | refine pS ‹_› ?_)))) ?_)) hk, fun _ => trivial⟩⟩⟩⟩⟩
  have hE : firstE [0, T.dirE dir, namedE name, T.fileE ino, if (T.find dir name).isSome then 6 else 0] = T.abs.linkE dir name ino := by
    unfold AT.linkE; rw [abs_dirE, abs_find, abs_fileE]
  rw [hE]
  unfold AT.linkR at hK
  by_cases h0 : T.abs.linkE dir name ino = 0
  case neg =>
    rw [if_neg h0] at hK
    refine br_t (by simpa using h0) ?_
    exact hK σ8 B ⟨T, hT8, hO, rfl, hB⟩ (Sep.gr hgr.gr)
  rw [if_pos h0] at hK
  refine br_f (by simpa using h0) ?_
  rw [← hE] at h0
  have hd := (firstE_z (firstE_z h0).2).1
  obtain ⟨nd, hnd, hkd⟩ := dirE_z hd
  have hf := (firstE_z (firstE_z (firstE_z (firstE_z h0).2).2).2).1
  obtain ⟨nf, hnf, hkf⟩ := fileE_z hf
  have hne : ino ≠ dir := by intro e; subst e; rw [hnd] at hnf; cases hnf; omega
  have hc := hT8.cells
  unfold Tb.cells at hc
  (repeat (first | refine ptr_i ?_ | refine rdT_of (by repeat (first | assumption | refine gG ‹_› ?_ | exact pE ‹_› | refine pG ‹_› (by first | assumption | exact Ne.symm ‹_› | exact ne_fr ‹_› (by repeat (first | exact io ‹_› | exact mS ‹_› | refine gS ‹_› ?_ | refine pS ‹_› ?_)) | exact Ne.symm (ne_fr ‹_› (by repeat (first | exact io ‹_› | exact mS ‹_› | refine gS ‹_› ?_ | refine pS ‹_› ?_)))) ?_)) (by rfl) ?_ | (refine al_i ?_; intro _ _ _ _ _) | refine and_i (rdC_of (by repeat (first | assumption | refine gG ‹_› ?_ | exact pE ‹_› | refine pG ‹_› (by first | assumption | exact Ne.symm ‹_› | exact ne_fr ‹_› (by repeat (first | exact io ‹_› | exact mS ‹_› | refine gS ‹_› ?_ | refine pS ‹_› ?_)) | exact Ne.symm (ne_fr ‹_› (by repeat (first | exact io ‹_› | exact mS ‹_› | refine gS ‹_› ?_ | refine pS ‹_› ?_)))) ?_)) (by rfl)) ?_ | refine rdA_i (by repeat (first | assumption | refine gG ‹_› ?_ | exact pE ‹_› | refine pG ‹_› (by first | assumption | exact Ne.symm ‹_› | exact ne_fr ‹_› (by repeat (first | exact io ‹_› | exact mS ‹_› | refine gS ‹_› ?_ | refine pS ‹_› ?_)) | exact Ne.symm (ne_fr ‹_› (by repeat (first | exact io ‹_› | exact mS ‹_› | refine gS ‹_› ?_ | refine pS ‹_› ?_)))) ?_)) (by rfl) ?_ | (refine st_i2 (by repeat (first | assumption | refine gG ‹_› ?_ | exact pE ‹_› | refine pG ‹_› (by first | assumption | exact Ne.symm ‹_› | exact ne_fr ‹_› (by repeat (first | exact io ‹_› | exact mS ‹_› | refine gS ‹_› ?_ | refine pS ‹_› ?_)) | exact Ne.symm (ne_fr ‹_› (by repeat (first | exact io ‹_› | exact mS ‹_› | refine gS ‹_› ?_ | refine pS ‹_› ?_)))) ?_)) (by first | exact sz_int | exact sz_string | exact sz_bool | exact sz_Inode | exact sz_Quota | exact sz_MSI | exact sz_place | exact sz_Errno) (by rfl) (by rfl) ?_; intro _ _) | refine app_P ?_ | refine app_I ?_ | refine app_S ?_ | refine app_B ?_ | refine app_M ?_ | refine app_L ?_ | refine app_U ?_ | refine app_R ?_ | (refine app_of rfl ?_; try dsimp only)))
  refine rdN hT8 hnd ?_
  obtain ⟨ed, hed⟩ := hT8.dir hnd hkd
  have cD := (hT8.get hnd).cells
  unfold Nd.cells at cD
  rw [hed] at cD
  (repeat (first | refine ptr_i ?_ | refine rdT_of (by repeat (first | assumption | refine gG ‹_› ?_ | exact pE ‹_› | refine pG ‹_› (by first | assumption | exact Ne.symm ‹_› | exact ne_fr ‹_› (by repeat (first | exact io ‹_› | exact mS ‹_› | refine gS ‹_› ?_ | refine pS ‹_› ?_)) | exact Ne.symm (ne_fr ‹_› (by repeat (first | exact io ‹_› | exact mS ‹_› | refine gS ‹_› ?_ | refine pS ‹_› ?_)))) ?_)) (by rfl) ?_ | (refine al_i ?_; intro _ _ _ _ _) | refine and_i (rdC_of (by repeat (first | assumption | refine gG ‹_› ?_ | exact pE ‹_› | refine pG ‹_› (by first | assumption | exact Ne.symm ‹_› | exact ne_fr ‹_› (by repeat (first | exact io ‹_› | exact mS ‹_› | refine gS ‹_› ?_ | refine pS ‹_› ?_)) | exact Ne.symm (ne_fr ‹_› (by repeat (first | exact io ‹_› | exact mS ‹_› | refine gS ‹_› ?_ | refine pS ‹_› ?_)))) ?_)) (by rfl)) ?_ | refine rdA_i (by repeat (first | assumption | refine gG ‹_› ?_ | exact pE ‹_› | refine pG ‹_› (by first | assumption | exact Ne.symm ‹_› | exact ne_fr ‹_› (by repeat (first | exact io ‹_› | exact mS ‹_› | refine gS ‹_› ?_ | refine pS ‹_› ?_)) | exact Ne.symm (ne_fr ‹_› (by repeat (first | exact io ‹_› | exact mS ‹_› | refine gS ‹_› ?_ | refine pS ‹_› ?_)))) ?_)) (by rfl) ?_ | (refine st_i2 (by repeat (first | assumption | refine gG ‹_› ?_ | exact pE ‹_› | refine pG ‹_› (by first | assumption | exact Ne.symm ‹_› | exact ne_fr ‹_› (by repeat (first | exact io ‹_› | exact mS ‹_› | refine gS ‹_› ?_ | refine pS ‹_› ?_)) | exact Ne.symm (ne_fr ‹_› (by repeat (first | exact io ‹_› | exact mS ‹_› | refine gS ‹_› ?_ | refine pS ‹_› ?_)))) ?_)) (by first | exact sz_int | exact sz_string | exact sz_bool | exact sz_Inode | exact sz_Quota | exact sz_MSI | exact sz_place | exact sz_Errno) (by rfl) (by rfl) ?_; intro _ _) | refine app_P ?_ | refine app_I ?_ | refine app_S ?_ | refine app_B ?_ | refine app_M ?_ | refine app_L ?_ | refine app_U ?_ | refine app_R ?_ | (refine app_of rfl ?_; try dsimp only)))
  have mE := (hT8.get hnd).ents ed hed
  refine mu_i (kk := kkS) (f := valI) und_MSI und_string mE name ino ?_
  intro o12 σ12 p12 m12
  have hT12 := hT8.putE hO hnd hed p12 m12
  have hO12 : Own (T.set dir { nd with ents := HL.up name ino nd.ents }) := hO.set hnd rfl rfl
  have hf12 : (T.set dir { nd with ents := HL.up name ino nd.ents }).get ino = some nf := by rw [get_set, if_neg hne]; exact hnf
  have hc12 := hT12.cells
  unfold Tb.cells at hc12
  (repeat (first | refine ptr_i ?_ | refine rdT_of (by repeat (first | assumption | refine gG ‹_› ?_ | exact pE ‹_› | refine pG ‹_› (by first | assumption | exact Ne.symm ‹_› | exact ne_fr ‹_› (by repeat (first | exact io ‹_› | exact mS ‹_› | refine gS ‹_› ?_ | refine pS ‹_› ?_)) | exact Ne.symm (ne_fr ‹_› (by repeat (first | exact io ‹_› | exact mS ‹_› | refine gS ‹_› ?_ | refine pS ‹_› ?_)))) ?_)) (by rfl) ?_ | (refine al_i ?_; intro _ _ _ _ _) | refine and_i (rdC_of (by repeat (first | assumption | refine gG ‹_› ?_ | exact pE ‹_› | refine pG ‹_› (by first | assumption | exact Ne.symm ‹_› | exact ne_fr ‹_› (by repeat (first | exact io ‹_› | exact mS ‹_› | refine gS ‹_› ?_ | refine pS ‹_› ?_)) | exact Ne.symm (ne_fr ‹_› (by repeat (first | exact io ‹_› | exact mS ‹_› | refine gS ‹_› ?_ | refine pS ‹_› ?_)))) ?_)) (by rfl)) ?_ | refine rdA_i (by repeat (first | assumption | refine gG ‹_› ?_ | exact pE ‹_› | refine pG ‹_› (by first | assumption | exact Ne.symm ‹_› | exact ne_fr ‹_› (by repeat (first | exact io ‹_› | exact mS ‹_› | refine gS ‹_› ?_ | refine pS ‹_› ?_)) | exact Ne.symm (ne_fr ‹_› (by repeat (first | exact io ‹_› | exact mS ‹_› | refine gS ‹_› ?_ | refine pS ‹_› ?_)))) ?_)) (by rfl) ?_ | (refine st_i2 (by repeat (first | assumption | refine gG ‹_› ?_ | exact pE ‹_› | refine pG ‹_› (by first | assumption | exact Ne.symm ‹_› | exact ne_fr ‹_› (by repeat (first | exact io ‹_› | exact mS ‹_› | refine gS ‹_› ?_ | refine pS ‹_› ?_)) | exact Ne.symm (ne_fr ‹_› (by repeat (first | exact io ‹_› | exact mS ‹_› | refine gS ‹_› ?_ | refine pS ‹_› ?_)))) ?_)) (by first | exact sz_int | exact sz_string | exact sz_bool | exact sz_Inode | exact sz_Quota | exact sz_MSI | exact sz_place | exact sz_Errno) (by rfl) (by rfl) ?_; intro _ _) | refine app_P ?_ | refine app_I ?_ | refine app_S ?_ | refine app_B ?_ | refine app_M ?_ | refine app_L ?_ | refine app_U ?_ | refine app_R ?_ | (refine app_of rfl ?_; try dsimp only)))
  refine rdN hT12 hf12 ?_
  have cF := (hT12.get hf12).cells
  unfold Nd.cells at cF
  (repeat (first | refine ptr_i ?_ | refine rdT_of (by repeat (first | assumption | refine gG ‹_› ?_ | exact pE ‹_› | refine pG ‹_› (by first | assumption | exact Ne.symm ‹_› | exact ne_fr ‹_› (by repeat (first | exact io ‹_› | exact mS ‹_› | refine gS ‹_› ?_ | refine pS ‹_› ?_)) | exact Ne.symm (ne_fr ‹_› (by repeat (first | exact io ‹_› | exact mS ‹_› | refine gS ‹_› ?_ | refine pS ‹_› ?_)))) ?_)) (by rfl) ?_ | (refine al_i ?_; intro _ _ _ _ _) | refine and_i (rdC_of (by repeat (first | assumption | refine gG ‹_› ?_ | exact pE ‹_› | refine pG ‹_› (by first | assumption | exact Ne.symm ‹_› | exact ne_fr ‹_› (by repeat (first | exact io ‹_› | exact mS ‹_› | refine gS ‹_› ?_ | refine pS ‹_› ?_)) | exact Ne.symm (ne_fr ‹_› (by repeat (first | exact io ‹_› | exact mS ‹_› | refine gS ‹_› ?_ | refine pS ‹_› ?_)))) ?_)) (by rfl)) ?_ | refine rdA_i (by repeat (first | assumption | refine gG ‹_› ?_ | exact pE ‹_› | refine pG ‹_› (by first | assumption | exact Ne.symm ‹_› | exact ne_fr ‹_› (by repeat (first | exact io ‹_› | exact mS ‹_› | refine gS ‹_› ?_ | refine pS ‹_› ?_)) | exact Ne.symm (ne_fr ‹_› (by repeat (first | exact io ‹_› | exact mS ‹_› | refine gS ‹_› ?_ | refine pS ‹_› ?_)))) ?_)) (by rfl) ?_ | (refine st_i2 (by repeat (first | assumption | refine gG ‹_› ?_ | exact pE ‹_› | refine pG ‹_› (by first | assumption | exact Ne.symm ‹_› | exact ne_fr ‹_› (by repeat (first | exact io ‹_› | exact mS ‹_› | refine gS ‹_› ?_ | refine pS ‹_› ?_)) | exact Ne.symm (ne_fr ‹_› (by repeat (first | exact io ‹_› | exact mS ‹_› | refine gS ‹_› ?_ | refine pS ‹_› ?_)))) ?_)) (by first | exact sz_int | exact sz_string | exact sz_bool | exact sz_Inode | exact sz_Quota | exact sz_MSI | exact sz_place | exact sz_Errno) (by rfl) (by rfl) ?_; intro _ _) | refine app_P ?_ | refine app_I ?_ | refine app_S ?_ | refine app_B ?_ | refine app_M ?_ | refine app_L ?_ | refine app_U ?_ | refine app_R ?_ | (refine app_of rfl ?_; try dsimp only)))
  rename_i σ13 p13
  have hT13 := hT12.putN hO12 (n' := { nf with links := wr (nf.links + 1) }) hf12 p13 rfl rfl rfl rfl
  have hO13 := hO12.set (n' := { nf with links := wr (nf.links + 1) }) hf12 rfl rfl
  refine hK σ13 B ⟨_, hT13, hO13, ?_, fun b => (own_set (n' := { nf with links := wr (nf.links + 1) }) hf12 rfl rfl b).trans ((own_set (n' := { nd with ents := HL.up name ino nd.ents }) hnd rfl rfl b).trans (hB b))⟩ ?_
  · rw [abs_set]
    unfold AT.linked AT.ent AT.mod
    rw [abs_get, hnd]
    simp only [Option.map_some]
    have h5 : T.abs.set dir { nd.abs with ents := HL.up name ino nd.abs.ents } = (T.set dir { nd with ents := HL.up name ino nd.ents }).abs := (abs_set T dir { nd with ents := HL.up name ino nd.ents }).symm
    rw [h5, abs_get, hf12]
    rfl
  · intro b o hb hn
    have hn' : ¬ T.own bt b := fun h => hn ((hB b).1 h)
    have q1 : b ≠ ed := by intro e; subst e; exact ((hT.ne hn').2.2 dir nd hnd).2 hed
    have q2 : b ≠ nf.blk := ((hT.ne hn').2.2 ino nf hnf).1
    exact ⟨p13.get q2 (p12.get q1 (hgr.gr.get hb)), hn⟩

theorem s_WriteT1 {σ : H} {bt : Nat} {T : Tb} (hT : TAt σ bt T) {b1 b2 b3 : Nat} {data : ByteArray} {ino : Int} {t1 t2 t3 : TypeId} (h1 : σ b1 = some (.cells ⟨[.pointer (some ⟨bt, 0, none⟩)]⟩ t1 (0, 0))) (h2 : σ b2 = some (.cells ⟨[.string data]⟩ t2 (0, 0))) (h3 : σ b3 = some (.cells ⟨[.int .i64 ino]⟩ t3 (0, 0))) {n : Nd} (hn : T.get ino = some n) {K : Value → H → Prop}
    (hK : K (.int .i64 (T.roomE 0 (wr ((data.size : Int) - n.data.size)))) σ) : callW Tryz.prog 116 [.pointer (some ⟨b1, 0, none⟩), .pointer (some ⟨b2, 0, none⟩), .pointer (some ⟨b3, 0, none⟩)] K σ := by
  refine pure_i _ hK (c116 _ _ _ ?_)
  unfold g116
  have hc := hT.cells
  unfold Tb.cells at hc
  (repeat (first | refine ptr_i ?_ | refine rdT_of (by repeat (first | assumption | refine gG ‹_› ?_ | exact pE ‹_› | refine pG ‹_› (by first | assumption | exact Ne.symm ‹_› | exact ne_fr ‹_› (by repeat (first | exact io ‹_› | exact mS ‹_› | refine gS ‹_› ?_ | refine pS ‹_› ?_)) | exact Ne.symm (ne_fr ‹_› (by repeat (first | exact io ‹_› | exact mS ‹_› | refine gS ‹_› ?_ | refine pS ‹_› ?_)))) ?_)) (by rfl) ?_ | (refine al_i ?_; intro _ _ _ _ _) | refine and_i (rdC_of (by repeat (first | assumption | refine gG ‹_› ?_ | exact pE ‹_› | refine pG ‹_› (by first | assumption | exact Ne.symm ‹_› | exact ne_fr ‹_› (by repeat (first | exact io ‹_› | exact mS ‹_› | refine gS ‹_› ?_ | refine pS ‹_› ?_)) | exact Ne.symm (ne_fr ‹_› (by repeat (first | exact io ‹_› | exact mS ‹_› | refine gS ‹_› ?_ | refine pS ‹_› ?_)))) ?_)) (by rfl)) ?_ | refine rdA_i (by repeat (first | assumption | refine gG ‹_› ?_ | exact pE ‹_› | refine pG ‹_› (by first | assumption | exact Ne.symm ‹_› | exact ne_fr ‹_› (by repeat (first | exact io ‹_› | exact mS ‹_› | refine gS ‹_› ?_ | refine pS ‹_› ?_)) | exact Ne.symm (ne_fr ‹_› (by repeat (first | exact io ‹_› | exact mS ‹_› | refine gS ‹_› ?_ | refine pS ‹_› ?_)))) ?_)) (by rfl) ?_ | (refine st_i2 (by repeat (first | assumption | refine gG ‹_› ?_ | exact pE ‹_› | refine pG ‹_› (by first | assumption | exact Ne.symm ‹_› | exact ne_fr ‹_› (by repeat (first | exact io ‹_› | exact mS ‹_› | refine gS ‹_› ?_ | refine pS ‹_› ?_)) | exact Ne.symm (ne_fr ‹_› (by repeat (first | exact io ‹_› | exact mS ‹_› | refine gS ‹_› ?_ | refine pS ‹_› ?_)))) ?_)) (by first | exact sz_int | exact sz_string | exact sz_bool | exact sz_Inode | exact sz_Quota | exact sz_MSI | exact sz_place | exact sz_Errno) (by rfl) (by rfl) ?_; intro _ _) | refine app_P ?_ | refine app_I ?_ | refine app_S ?_ | refine app_B ?_ | refine app_M ?_ | refine app_L ?_ | refine app_U ?_ | refine app_R ?_ | (refine app_of rfl ?_; try dsimp only)))
  refine rdN hT hn ?_
  have hN := (hT.get hn).cells
  unfold Nd.cells at hN
  (repeat (first | refine ptr_i ?_ | refine rdT_of (by repeat (first | assumption | refine gG ‹_› ?_ | exact pE ‹_› | refine pG ‹_› (by first | assumption | exact Ne.symm ‹_› | exact ne_fr ‹_› (by repeat (first | exact io ‹_› | exact mS ‹_› | refine gS ‹_› ?_ | refine pS ‹_› ?_)) | exact Ne.symm (ne_fr ‹_› (by repeat (first | exact io ‹_› | exact mS ‹_› | refine gS ‹_› ?_ | refine pS ‹_› ?_)))) ?_)) (by rfl) ?_ | (refine al_i ?_; intro _ _ _ _ _) | refine and_i (rdC_of (by repeat (first | assumption | refine gG ‹_› ?_ | exact pE ‹_› | refine pG ‹_› (by first | assumption | exact Ne.symm ‹_› | exact ne_fr ‹_› (by repeat (first | exact io ‹_› | exact mS ‹_› | refine gS ‹_› ?_ | refine pS ‹_› ?_)) | exact Ne.symm (ne_fr ‹_› (by repeat (first | exact io ‹_› | exact mS ‹_› | refine gS ‹_› ?_ | refine pS ‹_› ?_)))) ?_)) (by rfl)) ?_ | refine rdA_i (by repeat (first | assumption | refine gG ‹_› ?_ | exact pE ‹_› | refine pG ‹_› (by first | assumption | exact Ne.symm ‹_› | exact ne_fr ‹_› (by repeat (first | exact io ‹_› | exact mS ‹_› | refine gS ‹_› ?_ | refine pS ‹_› ?_)) | exact Ne.symm (ne_fr ‹_› (by repeat (first | exact io ‹_› | exact mS ‹_› | refine gS ‹_› ?_ | refine pS ‹_› ?_)))) ?_)) (by rfl) ?_ | (refine st_i2 (by repeat (first | assumption | refine gG ‹_› ?_ | exact pE ‹_› | refine pG ‹_› (by first | assumption | exact Ne.symm ‹_› | exact ne_fr ‹_› (by repeat (first | exact io ‹_› | exact mS ‹_› | refine gS ‹_› ?_ | refine pS ‹_› ?_)) | exact Ne.symm (ne_fr ‹_› (by repeat (first | exact io ‹_› | exact mS ‹_› | refine gS ‹_› ?_ | refine pS ‹_› ?_)))) ?_)) (by first | exact sz_int | exact sz_string | exact sz_bool | exact sz_Inode | exact sz_Quota | exact sz_MSI | exact sz_place | exact sz_Errno) (by rfl) (by rfl) ?_; intro _ _) | refine app_P ?_ | refine app_I ?_ | refine app_S ?_ | refine app_B ?_ | refine app_M ?_ | refine app_L ?_ | refine app_U ?_ | refine app_R ?_ | (refine app_of rfl ?_; try dsimp only)))
  refine call_i (s_room _ _ _ ?_)
  intro c1 c2 c3 σ' hg e1 e2 e3
  refine app_R ?_
  refine cval_i go_room1 ?_
  exact s_room1 (hT.gr hg) e1 e2 e3 (app_I ⟨rfl, hg⟩)
theorem s_WriteT {σ : H} {bt : Nat} {A : AT} {B : Nat → Prop} (hA : TabAt σ bt A B) (ino : Int) (data : ByteArray) {K : Value → H → Prop}
    (hK : ∀ σ' B', TabAt σ' bt (AT.writeR A ino data).2 B' → Sep σ B σ' B' → K (.int .i64 (AT.writeR A ino data).1) σ') :
    callW Tryz.prog 64 [.pointer (some ⟨bt, 0, none⟩), .int .i64 ino, .string data] K σ := by
  obtain ⟨T, hT, hO, rfl, hB⟩ := hA
  have hc0 := hT.cells
  refine c64 _ _ _ ?_
  unfold g64
  refine al_i ?_; intro b4 σ1 g1 e1 n1
  refine al_i ?_; intro b5 σ2 g2 e2 n2
  refine al_i ?_; intro b6 σ3 g3 e3 n3
  (repeat (first | refine ptr_i ?_ | refine rdT_of (by repeat (first | assumption | refine gG ‹_› ?_ | exact pE ‹_› | refine pG ‹_› (by first | assumption | exact Ne.symm ‹_› | exact ne_fr ‹_› (by repeat (first | exact io ‹_› | exact mS ‹_› | refine gS ‹_› ?_ | refine pS ‹_› ?_)) | exact Ne.symm (ne_fr ‹_› (by repeat (first | exact io ‹_› | exact mS ‹_› | refine gS ‹_› ?_ | refine pS ‹_› ?_)))) ?_)) (by rfl) ?_ | (refine al_i ?_; intro _ _ _ _ _) | refine and_i (rdC_of (by repeat (first | assumption | refine gG ‹_› ?_ | exact pE ‹_› | refine pG ‹_› (by first | assumption | exact Ne.symm ‹_› | exact ne_fr ‹_› (by repeat (first | exact io ‹_› | exact mS ‹_› | refine gS ‹_› ?_ | refine pS ‹_› ?_)) | exact Ne.symm (ne_fr ‹_› (by repeat (first | exact io ‹_› | exact mS ‹_› | refine gS ‹_› ?_ | refine pS ‹_› ?_)))) ?_)) (by rfl)) ?_ | refine rdA_i (by repeat (first | assumption | refine gG ‹_› ?_ | exact pE ‹_› | refine pG ‹_› (by first | assumption | exact Ne.symm ‹_› | exact ne_fr ‹_› (by repeat (first | exact io ‹_› | exact mS ‹_› | refine gS ‹_› ?_ | refine pS ‹_› ?_)) | exact Ne.symm (ne_fr ‹_› (by repeat (first | exact io ‹_› | exact mS ‹_› | refine gS ‹_› ?_ | refine pS ‹_› ?_)))) ?_)) (by rfl) ?_ | (refine st_i2 (by repeat (first | assumption | refine gG ‹_› ?_ | exact pE ‹_› | refine pG ‹_› (by first | assumption | exact Ne.symm ‹_› | exact ne_fr ‹_› (by repeat (first | exact io ‹_› | exact mS ‹_› | refine gS ‹_› ?_ | refine pS ‹_› ?_)) | exact Ne.symm (ne_fr ‹_› (by repeat (first | exact io ‹_› | exact mS ‹_› | refine gS ‹_› ?_ | refine pS ‹_› ?_)))) ?_)) (by first | exact sz_int | exact sz_string | exact sz_bool | exact sz_Inode | exact sz_Quota | exact sz_MSI | exact sz_place | exact sz_Errno) (by rfl) (by rfl) ?_; intro _ _) | refine app_P ?_ | refine app_I ?_ | refine app_S ?_ | refine app_B ?_ | refine app_M ?_ | refine app_L ?_ | refine app_U ?_ | refine app_R ?_ | (refine app_of rfl ?_; try dsimp only)))
  refine call_i (s_file _ _ ?_)
  intro c7 c8 σ6' g6' f7 f8
  refine app_R ?_
  (repeat (first | refine ptr_i ?_ | refine rdT_of (by repeat (first | assumption | refine gG ‹_› ?_ | exact pE ‹_› | refine pG ‹_› (by first | assumption | exact Ne.symm ‹_› | exact ne_fr ‹_› (by repeat (first | exact io ‹_› | exact mS ‹_› | refine gS ‹_› ?_ | refine pS ‹_› ?_)) | exact Ne.symm (ne_fr ‹_› (by repeat (first | exact io ‹_› | exact mS ‹_› | refine gS ‹_› ?_ | refine pS ‹_› ?_)))) ?_)) (by rfl) ?_ | (refine al_i ?_; intro _ _ _ _ _) | refine and_i (rdC_of (by repeat (first | assumption | refine gG ‹_› ?_ | exact pE ‹_› | refine pG ‹_› (by first | assumption | exact Ne.symm ‹_› | exact ne_fr ‹_› (by repeat (first | exact io ‹_› | exact mS ‹_› | refine gS ‹_› ?_ | refine pS ‹_› ?_)) | exact Ne.symm (ne_fr ‹_› (by repeat (first | exact io ‹_› | exact mS ‹_› | refine gS ‹_› ?_ | refine pS ‹_› ?_)))) ?_)) (by rfl)) ?_ | refine rdA_i (by repeat (first | assumption | refine gG ‹_› ?_ | exact pE ‹_› | refine pG ‹_› (by first | assumption | exact Ne.symm ‹_› | exact ne_fr ‹_› (by repeat (first | exact io ‹_› | exact mS ‹_› | refine gS ‹_› ?_ | refine pS ‹_› ?_)) | exact Ne.symm (ne_fr ‹_› (by repeat (first | exact io ‹_› | exact mS ‹_› | refine gS ‹_› ?_ | refine pS ‹_› ?_)))) ?_)) (by rfl) ?_ | (refine st_i2 (by repeat (first | assumption | refine gG ‹_› ?_ | exact pE ‹_› | refine pG ‹_› (by first | assumption | exact Ne.symm ‹_› | exact ne_fr ‹_› (by repeat (first | exact io ‹_› | exact mS ‹_› | refine gS ‹_› ?_ | refine pS ‹_› ?_)) | exact Ne.symm (ne_fr ‹_› (by repeat (first | exact io ‹_› | exact mS ‹_› | refine gS ‹_› ?_ | refine pS ‹_› ?_)))) ?_)) (by first | exact sz_int | exact sz_string | exact sz_bool | exact sz_Inode | exact sz_Quota | exact sz_MSI | exact sz_place | exact sz_Errno) (by rfl) (by rfl) ?_; intro _ _) | refine app_P ?_ | refine app_I ?_ | refine app_S ?_ | refine app_B ?_ | refine app_M ?_ | refine app_L ?_ | refine app_U ?_ | refine app_R ?_ | (refine app_of rfl ?_; try dsimp only)))
  refine one_f ?_
  refine al_i ?_; intro b17 σ8 g8 e8 n8
  have hgr : Lng σ σ8 := ⟨by repeat (first | exact Gr.refl _ | assumption | refine Gr.trans ?_ ‹_› | refine Gr.putF ?_ ‹_› (none_of ?_ ‹_›))⟩
  have hT8 := hT.gr hgr.gr
  refine call_i (s_first (es := [0, T.fileE ino, T.roomE 0 (wr ((data.size : Int) - ((T.abs.get ino).map (·.data.size)).getD 0))]) e8 ?_ (by simp) (app_I ?_))
  · refine ⟨pu_of go_there fun K hk => s_there _ hk, fun _ => ⟨pu_of go_file1 fun K hk => s_file1 hT8 (by repeat (first | assumption | refine gG ‹_› ?_ | exact pE ‹_› | refine pG ‹_› (by first | assumption | exact Ne.symm ‹_› | exact ne_fr ‹_› (by repeat (first | exact io ‹_› | exact mS ‹_› | refine gS ‹_› ?_ | refine pS ‹_› ?_)) | exact Ne.symm (ne_fr ‹_› (by repeat (first | exact io ‹_› | exact mS ‹_› | refine gS ‹_› ?_ | refine pS ‹_› ?_)))) ?_)) (by repeat (first | assumption | refine gG ‹_› ?_ | exact pE ‹_› | refine pG ‹_› (by first | assumption | exact Ne.symm ‹_› | exact ne_fr ‹_› (by repeat (first | exact io ‹_› | exact mS ‹_› | refine gS ‹_› ?_ | refine pS ‹_› ?_)) | exact Ne.symm (ne_fr ‹_› (by repeat (first | exact io ‹_› | exact mS ‹_› | refine gS ‹_› ?_ | refine pS ‹_› ?_)))) ?_)) hk, fun hz => ⟨pu_of go_WriteT1 fun K hk => ?_, fun _ => trivial⟩⟩⟩
    obtain ⟨nf, hnf, hkf⟩ := fileE_z hz
    refine s_WriteT1 hT8 (b1 := b4) (b2 := b6) (b3 := b5) (by repeat (first | assumption | refine gG ‹_› ?_ | exact pE ‹_› | refine pG ‹_› (by first | assumption | exact Ne.symm ‹_› | exact ne_fr ‹_› (by repeat (first | exact io ‹_› | exact mS ‹_› | refine gS ‹_› ?_ | refine pS ‹_› ?_)) | exact Ne.symm (ne_fr ‹_› (by repeat (first | exact io ‹_› | exact mS ‹_› | refine gS ‹_› ?_ | refine pS ‹_› ?_)))) ?_)) (by repeat (first | assumption | refine gG ‹_› ?_ | exact pE ‹_› | refine pG ‹_› (by first | assumption | exact Ne.symm ‹_› | exact ne_fr ‹_› (by repeat (first | exact io ‹_› | exact mS ‹_› | refine gS ‹_› ?_ | refine pS ‹_› ?_)) | exact Ne.symm (ne_fr ‹_› (by repeat (first | exact io ‹_› | exact mS ‹_› | refine gS ‹_› ?_ | refine pS ‹_› ?_)))) ?_)) (by repeat (first | assumption | refine gG ‹_› ?_ | exact pE ‹_› | refine pG ‹_› (by first | assumption | exact Ne.symm ‹_› | exact ne_fr ‹_› (by repeat (first | exact io ‹_› | exact mS ‹_› | refine gS ‹_› ?_ | refine pS ‹_› ?_)) | exact Ne.symm (ne_fr ‹_› (by repeat (first | exact io ‹_› | exact mS ‹_› | refine gS ‹_› ?_ | refine pS ‹_› ?_)))) ?_)) hnf ?_
    rw [abs_get, hnf] at hk
    exact hk
  have hE : firstE [0, T.fileE ino, T.roomE 0 (wr ((data.size : Int) - ((T.abs.get ino).map (·.data.size)).getD 0))] = T.abs.writeE ino data := by
    unfold AT.writeE; rw [abs_fileE, abs_roomE]
  rw [hE]
  unfold AT.writeR at hK
  by_cases h0 : T.abs.writeE ino data = 0
  case neg =>
    rw [if_neg h0] at hK
    refine br_t (by simpa using h0) ?_
    exact hK σ8 B ⟨T, hT8, hO, rfl, hB⟩ (Sep.gr hgr.gr)
  rw [if_pos h0] at hK
  refine br_f (by simpa using h0) ?_
  rw [← hE] at h0
  obtain ⟨nf, hnf, hkf⟩ := fileE_z (firstE_z (firstE_z h0).2).1
  have hc := hT8.cells
  unfold Tb.cells at hc
  (repeat (first | refine ptr_i ?_ | refine rdT_of (by repeat (first | assumption | refine gG ‹_› ?_ | exact pE ‹_› | refine pG ‹_› (by first | assumption | exact Ne.symm ‹_› | exact ne_fr ‹_› (by repeat (first | exact io ‹_› | exact mS ‹_› | refine gS ‹_› ?_ | refine pS ‹_› ?_)) | exact Ne.symm (ne_fr ‹_› (by repeat (first | exact io ‹_› | exact mS ‹_› | refine gS ‹_› ?_ | refine pS ‹_› ?_)))) ?_)) (by rfl) ?_ | (refine al_i ?_; intro _ _ _ _ _) | refine and_i (rdC_of (by repeat (first | assumption | refine gG ‹_› ?_ | exact pE ‹_› | refine pG ‹_› (by first | assumption | exact Ne.symm ‹_› | exact ne_fr ‹_› (by repeat (first | exact io ‹_› | exact mS ‹_› | refine gS ‹_› ?_ | refine pS ‹_› ?_)) | exact Ne.symm (ne_fr ‹_› (by repeat (first | exact io ‹_› | exact mS ‹_› | refine gS ‹_› ?_ | refine pS ‹_› ?_)))) ?_)) (by rfl)) ?_ | refine rdA_i (by repeat (first | assumption | refine gG ‹_› ?_ | exact pE ‹_› | refine pG ‹_› (by first | assumption | exact Ne.symm ‹_› | exact ne_fr ‹_› (by repeat (first | exact io ‹_› | exact mS ‹_› | refine gS ‹_› ?_ | refine pS ‹_› ?_)) | exact Ne.symm (ne_fr ‹_› (by repeat (first | exact io ‹_› | exact mS ‹_› | refine gS ‹_› ?_ | refine pS ‹_› ?_)))) ?_)) (by rfl) ?_ | (refine st_i2 (by repeat (first | assumption | refine gG ‹_› ?_ | exact pE ‹_› | refine pG ‹_› (by first | assumption | exact Ne.symm ‹_› | exact ne_fr ‹_› (by repeat (first | exact io ‹_› | exact mS ‹_› | refine gS ‹_› ?_ | refine pS ‹_› ?_)) | exact Ne.symm (ne_fr ‹_› (by repeat (first | exact io ‹_› | exact mS ‹_› | refine gS ‹_› ?_ | refine pS ‹_› ?_)))) ?_)) (by first | exact sz_int | exact sz_string | exact sz_bool | exact sz_Inode | exact sz_Quota | exact sz_MSI | exact sz_place | exact sz_Errno) (by rfl) (by rfl) ?_; intro _ _) | refine app_P ?_ | refine app_I ?_ | refine app_S ?_ | refine app_B ?_ | refine app_M ?_ | refine app_L ?_ | refine app_U ?_ | refine app_R ?_ | (refine app_of rfl ?_; try dsimp only)))
  refine rdN hT8 hnf ?_
  have cF := (hT8.get hnf).cells
  unfold Nd.cells at cF
  have q0 : nf.blk ≠ bt := hT8.blk_bt hnf
  have q6 : b6 ≠ nf.blk := by
    intro e
    have h6 : σ8 b6 = some (.cells ⟨[.string data]⟩ 9 (0, 0)) := by repeat (first | assumption | refine gG ‹_› ?_ | exact pE ‹_› | refine pG ‹_› (by first | assumption | exact Ne.symm ‹_› | exact ne_fr ‹_› (by repeat (first | exact io ‹_› | exact mS ‹_› | refine gS ‹_› ?_ | refine pS ‹_› ?_)) | exact Ne.symm (ne_fr ‹_› (by repeat (first | exact io ‹_› | exact mS ‹_› | refine gS ‹_› ?_ | refine pS ‹_› ?_)))) ?_)
    rw [e, cF] at h6; simp at h6
  (repeat (first | refine ptr_i ?_ | refine rdT_of (by repeat (first | assumption | refine gG ‹_› ?_ | exact pE ‹_› | refine pG ‹_› (by first | assumption | exact Ne.symm ‹_› | exact ne_fr ‹_› (by repeat (first | exact io ‹_› | exact mS ‹_› | refine gS ‹_› ?_ | refine pS ‹_› ?_)) | exact Ne.symm (ne_fr ‹_› (by repeat (first | exact io ‹_› | exact mS ‹_› | refine gS ‹_› ?_ | refine pS ‹_› ?_)))) ?_)) (by rfl) ?_ | (refine al_i ?_; intro _ _ _ _ _) | refine and_i (rdC_of (by repeat (first | assumption | refine gG ‹_› ?_ | exact pE ‹_› | refine pG ‹_› (by first | assumption | exact Ne.symm ‹_› | exact ne_fr ‹_› (by repeat (first | exact io ‹_› | exact mS ‹_› | refine gS ‹_› ?_ | refine pS ‹_› ?_)) | exact Ne.symm (ne_fr ‹_› (by repeat (first | exact io ‹_› | exact mS ‹_› | refine gS ‹_› ?_ | refine pS ‹_› ?_)))) ?_)) (by rfl)) ?_ | refine rdA_i (by repeat (first | assumption | refine gG ‹_› ?_ | exact pE ‹_› | refine pG ‹_› (by first | assumption | exact Ne.symm ‹_› | exact ne_fr ‹_› (by repeat (first | exact io ‹_› | exact mS ‹_› | refine gS ‹_› ?_ | refine pS ‹_› ?_)) | exact Ne.symm (ne_fr ‹_› (by repeat (first | exact io ‹_› | exact mS ‹_› | refine gS ‹_› ?_ | refine pS ‹_› ?_)))) ?_)) (by rfl) ?_ | (refine st_i2 (by repeat (first | assumption | refine gG ‹_› ?_ | exact pE ‹_› | refine pG ‹_› (by first | assumption | exact Ne.symm ‹_› | exact ne_fr ‹_› (by repeat (first | exact io ‹_› | exact mS ‹_› | refine gS ‹_› ?_ | refine pS ‹_› ?_)) | exact Ne.symm (ne_fr ‹_› (by repeat (first | exact io ‹_› | exact mS ‹_› | refine gS ‹_› ?_ | refine pS ‹_› ?_)))) ?_)) (by first | exact sz_int | exact sz_string | exact sz_bool | exact sz_Inode | exact sz_Quota | exact sz_MSI | exact sz_place | exact sz_Errno) (by rfl) (by rfl) ?_; intro _ _) | refine app_P ?_ | refine app_I ?_ | refine app_S ?_ | refine app_B ?_ | refine app_M ?_ | refine app_L ?_ | refine app_U ?_ | refine app_R ?_ | (refine app_of rfl ?_; try dsimp only)))
  rename_i σ13 p13 σ14 p14
  have hT13 := hT8.putT (T' := { T with ub := wr (T.ub + wr ((data.size : Int) - nf.data.size)) }) p13 rfl rfl
  have hO13 : Own { T with ub := wr (T.ub + wr ((data.size : Int) - nf.data.size)) } := hO.same rfl rfl
  have hT14 := hT13.putN hO13 (n' := { nf with data := data }) (i := ino) hnf p14 rfl rfl rfl rfl
  have hO14 := hO13.set (n' := { nf with data := data }) (i := ino) hnf rfl rfl
  refine hK σ14 B ⟨_, hT14, hO14, ?_, fun b => (own_set (T := { T with ub := wr (T.ub + wr ((data.size : Int) - nf.data.size)) }) (i := ino) (n' := { nf with data := data }) hnf rfl rfl b).trans ((own_same rfl rfl b).trans (hB b))⟩ ?_
  · rw [abs_set]
    unfold AT.written
    rw [abs_get, hnf]
    rfl
  · intro b o hb hn
    have hn' : ¬ T.own bt b := fun h => hn ((hB b).1 h)
    exact ⟨p14.get ((hT.ne hn').2.2 ino nf hnf).1 (p13.get (hT.ne hn').1 (hgr.gr.get hb)), hn⟩
theorem s_ChmodT1 {σ : H} {b1 : Nat} {mode : Int} {t1 : TypeId} (h1 : σ b1 = some (.cells ⟨[.int .i64 mode]⟩ t1 (0, 0))) {K : Value → H → Prop}
    (hK : K (.int .i64 (if 0 ≤ mode ∧ mode ≤ 511 then 0 else 2)) σ) : callW Tryz.prog 123 [.pointer (some ⟨b1, 0, none⟩)] K σ := by
  refine c123 _ ?_
  unfold g123
  (repeat (first | refine ptr_i ?_ | refine rdT_of (by repeat (first | assumption | refine gG ‹_› ?_ | exact pE ‹_› | refine pG ‹_› (by first | assumption | exact Ne.symm ‹_› | exact ne_fr ‹_› (by repeat (first | exact io ‹_› | exact mS ‹_› | refine gS ‹_› ?_ | refine pS ‹_› ?_)) | exact Ne.symm (ne_fr ‹_› (by repeat (first | exact io ‹_› | exact mS ‹_› | refine gS ‹_› ?_ | refine pS ‹_› ?_)))) ?_)) (by rfl) ?_ | (refine al_i ?_; intro _ _ _ _ _) | refine and_i (rdC_of (by repeat (first | assumption | refine gG ‹_› ?_ | exact pE ‹_› | refine pG ‹_› (by first | assumption | exact Ne.symm ‹_› | exact ne_fr ‹_› (by repeat (first | exact io ‹_› | exact mS ‹_› | refine gS ‹_› ?_ | refine pS ‹_› ?_)) | exact Ne.symm (ne_fr ‹_› (by repeat (first | exact io ‹_› | exact mS ‹_› | refine gS ‹_› ?_ | refine pS ‹_› ?_)))) ?_)) (by rfl)) ?_ | refine rdA_i (by repeat (first | assumption | refine gG ‹_› ?_ | exact pE ‹_› | refine pG ‹_› (by first | assumption | exact Ne.symm ‹_› | exact ne_fr ‹_› (by repeat (first | exact io ‹_› | exact mS ‹_› | refine gS ‹_› ?_ | refine pS ‹_› ?_)) | exact Ne.symm (ne_fr ‹_› (by repeat (first | exact io ‹_› | exact mS ‹_› | refine gS ‹_› ?_ | refine pS ‹_› ?_)))) ?_)) (by rfl) ?_ | (refine st_i2 (by repeat (first | assumption | refine gG ‹_› ?_ | exact pE ‹_› | refine pG ‹_› (by first | assumption | exact Ne.symm ‹_› | exact ne_fr ‹_› (by repeat (first | exact io ‹_› | exact mS ‹_› | refine gS ‹_› ?_ | refine pS ‹_› ?_)) | exact Ne.symm (ne_fr ‹_› (by repeat (first | exact io ‹_› | exact mS ‹_› | refine gS ‹_› ?_ | refine pS ‹_› ?_)))) ?_)) (by first | exact sz_int | exact sz_string | exact sz_bool | exact sz_Inode | exact sz_Quota | exact sz_MSI | exact sz_place | exact sz_Errno) (by rfl) (by rfl) ?_; intro _ _) | refine app_P ?_ | refine app_I ?_ | refine app_S ?_ | refine app_B ?_ | refine app_M ?_ | refine app_L ?_ | refine app_U ?_ | refine app_R ?_ | (refine app_of rfl ?_; try dsimp only)))
  by_cases ha : 0 ≤ mode
  · refine br_t (by simpa using ha) ?_
    (repeat (first | refine ptr_i ?_ | refine rdT_of (by repeat (first | assumption | refine gG ‹_› ?_ | exact pE ‹_› | refine pG ‹_› (by first | assumption | exact Ne.symm ‹_› | exact ne_fr ‹_› (by repeat (first | exact io ‹_› | exact mS ‹_› | refine gS ‹_› ?_ | refine pS ‹_› ?_)) | exact Ne.symm (ne_fr ‹_› (by repeat (first | exact io ‹_› | exact mS ‹_› | refine gS ‹_› ?_ | refine pS ‹_› ?_)))) ?_)) (by rfl) ?_ | (refine al_i ?_; intro _ _ _ _ _) | refine and_i (rdC_of (by repeat (first | assumption | refine gG ‹_› ?_ | exact pE ‹_› | refine pG ‹_› (by first | assumption | exact Ne.symm ‹_› | exact ne_fr ‹_› (by repeat (first | exact io ‹_› | exact mS ‹_› | refine gS ‹_› ?_ | refine pS ‹_› ?_)) | exact Ne.symm (ne_fr ‹_› (by repeat (first | exact io ‹_› | exact mS ‹_› | refine gS ‹_› ?_ | refine pS ‹_› ?_)))) ?_)) (by rfl)) ?_ | refine rdA_i (by repeat (first | assumption | refine gG ‹_› ?_ | exact pE ‹_› | refine pG ‹_› (by first | assumption | exact Ne.symm ‹_› | exact ne_fr ‹_› (by repeat (first | exact io ‹_› | exact mS ‹_› | refine gS ‹_› ?_ | refine pS ‹_› ?_)) | exact Ne.symm (ne_fr ‹_› (by repeat (first | exact io ‹_› | exact mS ‹_› | refine gS ‹_› ?_ | refine pS ‹_› ?_)))) ?_)) (by rfl) ?_ | (refine st_i2 (by repeat (first | assumption | refine gG ‹_› ?_ | exact pE ‹_› | refine pG ‹_› (by first | assumption | exact Ne.symm ‹_› | exact ne_fr ‹_› (by repeat (first | exact io ‹_› | exact mS ‹_› | refine gS ‹_› ?_ | refine pS ‹_› ?_)) | exact Ne.symm (ne_fr ‹_› (by repeat (first | exact io ‹_› | exact mS ‹_› | refine gS ‹_› ?_ | refine pS ‹_› ?_)))) ?_)) (by first | exact sz_int | exact sz_string | exact sz_bool | exact sz_Inode | exact sz_Quota | exact sz_MSI | exact sz_place | exact sz_Errno) (by rfl) (by rfl) ?_; intro _ _) | refine app_P ?_ | refine app_I ?_ | refine app_S ?_ | refine app_B ?_ | refine app_M ?_ | refine app_L ?_ | refine app_U ?_ | refine app_R ?_ | (refine app_of rfl ?_; try dsimp only)))
    exact call_i (s_must _ _ (app_I (by simpa [ha] using hK)))
  · refine br_f (by simpa using ha) ?_
    exact call_i (s_must _ _ (app_I (by simpa [ha] using hK)))
theorem s_ChmodT2 {σ : H} {bt : Nat} {T : Tb} (hT : TAt σ bt T) {b1 b2 : Nat} {ino : Int} {t1 t2 : TypeId} (h1 : σ b1 = some (.cells ⟨[.pointer (some ⟨bt, 0, none⟩)]⟩ t1 (0, 0))) (h2 : σ b2 = some (.cells ⟨[.int .i64 ino]⟩ t2 (0, 0))) {K : Value → H → Prop}
    (hK : K (.int .i64 (if (T.get ino).isSome then 0 else 5)) σ) : callW Tryz.prog 124 [.pointer (some ⟨b1, 0, none⟩), .pointer (some ⟨b2, 0, none⟩)] K σ := by
  refine c124 _ _ ?_
  unfold g124
  (repeat (first | refine ptr_i ?_ | refine rdT_of (by repeat (first | assumption | refine gG ‹_› ?_ | exact pE ‹_› | refine pG ‹_› (by first | assumption | exact Ne.symm ‹_› | exact ne_fr ‹_› (by repeat (first | exact io ‹_› | exact mS ‹_› | refine gS ‹_› ?_ | refine pS ‹_› ?_)) | exact Ne.symm (ne_fr ‹_› (by repeat (first | exact io ‹_› | exact mS ‹_› | refine gS ‹_› ?_ | refine pS ‹_› ?_)))) ?_)) (by rfl) ?_ | (refine al_i ?_; intro _ _ _ _ _) | refine and_i (rdC_of (by repeat (first | assumption | refine gG ‹_› ?_ | exact pE ‹_› | refine pG ‹_› (by first | assumption | exact Ne.symm ‹_› | exact ne_fr ‹_› (by repeat (first | exact io ‹_› | exact mS ‹_› | refine gS ‹_› ?_ | refine pS ‹_› ?_)) | exact Ne.symm (ne_fr ‹_› (by repeat (first | exact io ‹_› | exact mS ‹_› | refine gS ‹_› ?_ | refine pS ‹_› ?_)))) ?_)) (by rfl)) ?_ | refine rdA_i (by repeat (first | assumption | refine gG ‹_› ?_ | exact pE ‹_› | refine pG ‹_› (by first | assumption | exact Ne.symm ‹_› | exact ne_fr ‹_› (by repeat (first | exact io ‹_› | exact mS ‹_› | refine gS ‹_› ?_ | refine pS ‹_› ?_)) | exact Ne.symm (ne_fr ‹_› (by repeat (first | exact io ‹_› | exact mS ‹_› | refine gS ‹_› ?_ | refine pS ‹_› ?_)))) ?_)) (by rfl) ?_ | (refine st_i2 (by repeat (first | assumption | refine gG ‹_› ?_ | exact pE ‹_› | refine pG ‹_› (by first | assumption | exact Ne.symm ‹_› | exact ne_fr ‹_› (by repeat (first | exact io ‹_› | exact mS ‹_› | refine gS ‹_› ?_ | refine pS ‹_› ?_)) | exact Ne.symm (ne_fr ‹_› (by repeat (first | exact io ‹_› | exact mS ‹_› | refine gS ‹_› ?_ | refine pS ‹_› ?_)))) ?_)) (by first | exact sz_int | exact sz_string | exact sz_bool | exact sz_Inode | exact sz_Quota | exact sz_MSI | exact sz_place | exact sz_Errno) (by rfl) (by rfl) ?_; intro _ _) | refine app_P ?_ | refine app_I ?_ | refine app_S ?_ | refine app_B ?_ | refine app_M ?_ | refine app_L ?_ | refine app_U ?_ | refine app_R ?_ | (refine app_of rfl ?_; try dsimp only)))
  refine call_i (s_get hT ino (app_P ?_))
  refine call_i (s_must _ _ (app_I ?_))
  cases h : T.get ino <;> simpa [h] using hK
theorem s_ChmodT {σ : H} {bt : Nat} {A : AT} {B : Nat → Prop} (hA : TabAt σ bt A B) (ino mode : Int) {K : Value → H → Prop}
    (hK : ∀ σ' B', TabAt σ' bt (AT.chmodR A ino mode).2 B' → Sep σ B σ' B' → K (.int .i64 (AT.chmodR A ino mode).1) σ') :
    callW Tryz.prog 74 [.pointer (some ⟨bt, 0, none⟩), .int .i64 ino, .int .i64 mode] K σ := by
  obtain ⟨T, hT, hO, rfl, hB⟩ := hA
  have hc0 := hT.cells
  refine c74 _ _ _ ?_
  unfold g74
  refine al_i ?_; intro b4 σ1 g1 e1 n1
  refine al_i ?_; intro b5 σ2 g2 e2 n2
  refine al_i ?_; intro b6 σ3 g3 e3 n3
  refine rd_P (rdC_of (by repeat (first | assumption | refine gG ‹_› ?_ | exact pE ‹_› | refine pG ‹_› (by first | assumption | exact Ne.symm ‹_› | exact ne_fr ‹_› (by repeat (first | exact io ‹_› | exact mS ‹_› | refine gS ‹_› ?_ | refine pS ‹_› ?_)) | exact Ne.symm (ne_fr ‹_› (by repeat (first | exact io ‹_› | exact mS ‹_› | refine gS ‹_› ?_ | refine pS ‹_› ?_)))) ?_)) (by rfl)) ?_
  refine al_i ?_; intro b17 σ8 g8 e8 n8
  have hgr : Lng σ σ8 := ⟨by repeat (first | exact Gr.refl _ | assumption | refine Gr.trans ?_ ‹_› | refine Gr.putF ?_ ‹_› (none_of ?_ ‹_›))⟩
  have hT8 := hT.gr hgr.gr
  refine call_i (s_first (es := [0, if 0 ≤ mode ∧ mode ≤ 511 then 0 else 2, if (T.get ino).isSome then 0 else 5]) e8 ?_ (by simp) (app_I ?_))
  · exact ⟨pu_of go_there fun K hk => s_there _ hk, fun _ => ⟨pu_of go_ChmodT1 fun K hk => s_ChmodT1 (by repeat (first | assumption | refine gG ‹_› ?_ | exact pE ‹_› | refine pG ‹_› (by first | assumption | exact Ne.symm ‹_› | exact ne_fr ‹_› (by repeat (first | exact io ‹_› | exact mS ‹_› | refine gS ‹_› ?_ | refine pS ‹_› ?_)) | exact Ne.symm (ne_fr ‹_› (by repeat (first | exact io ‹_› | exact mS ‹_› | refine gS ‹_› ?_ | refine pS ‹_› ?_)))) ?_)) hk, fun hz => ⟨pu_of go_ChmodT2 fun K hk => s_ChmodT2 hT8 (by repeat (first | assumption | refine gG ‹_› ?_ | exact pE ‹_› | refine pG ‹_› (by first | assumption | exact Ne.symm ‹_› | exact ne_fr ‹_› (by repeat (first | exact io ‹_› | exact mS ‹_› | refine gS ‹_› ?_ | refine pS ‹_› ?_)) | exact Ne.symm (ne_fr ‹_› (by repeat (first | exact io ‹_› | exact mS ‹_› | refine gS ‹_› ?_ | refine pS ‹_› ?_)))) ?_)) (by repeat (first | assumption | refine gG ‹_› ?_ | exact pE ‹_› | refine pG ‹_› (by first | assumption | exact Ne.symm ‹_› | exact ne_fr ‹_› (by repeat (first | exact io ‹_› | exact mS ‹_› | refine gS ‹_› ?_ | refine pS ‹_› ?_)) | exact Ne.symm (ne_fr ‹_› (by repeat (first | exact io ‹_› | exact mS ‹_› | refine gS ‹_› ?_ | refine pS ‹_› ?_)))) ?_)) hk, fun _ => trivial⟩⟩⟩
  have hE : firstE [0, if 0 ≤ mode ∧ mode ≤ 511 then 0 else 2, if (T.get ino).isSome then 0 else 5] = T.abs.chmodE ino mode := by
    unfold AT.chmodE; rw [abs_get]; cases T.get ino <;> rfl
  rw [hE]
  unfold AT.chmodR at hK
  by_cases h0 : T.abs.chmodE ino mode = 0
  case neg =>
    rw [if_neg h0] at hK
    refine br_t (by simpa using h0) ?_
    exact hK σ8 B ⟨T, hT8, hO, rfl, hB⟩ (Sep.gr hgr.gr)
  rw [if_pos h0] at hK
  refine br_f (by simpa using h0) ?_
  rw [← hE] at h0
  have hz := (firstE_z (firstE_z (firstE_z h0).2).2).1
  cases hnf : T.get ino with
  | none => rw [hnf] at hz; cases hz
  | some nf =>
  have hc := hT8.cells
  unfold Tb.cells at hc
  (repeat (first | refine ptr_i ?_ | refine rdT_of (by repeat (first | assumption | refine gG ‹_› ?_ | exact pE ‹_› | refine pG ‹_› (by first | assumption | exact Ne.symm ‹_› | exact ne_fr ‹_› (by repeat (first | exact io ‹_› | exact mS ‹_› | refine gS ‹_› ?_ | refine pS ‹_› ?_)) | exact Ne.symm (ne_fr ‹_› (by repeat (first | exact io ‹_› | exact mS ‹_› | refine gS ‹_› ?_ | refine pS ‹_› ?_)))) ?_)) (by rfl) ?_ | (refine al_i ?_; intro _ _ _ _ _) | refine and_i (rdC_of (by repeat (first | assumption | refine gG ‹_› ?_ | exact pE ‹_› | refine pG ‹_› (by first | assumption | exact Ne.symm ‹_› | exact ne_fr ‹_› (by repeat (first | exact io ‹_› | exact mS ‹_› | refine gS ‹_› ?_ | refine pS ‹_› ?_)) | exact Ne.symm (ne_fr ‹_› (by repeat (first | exact io ‹_› | exact mS ‹_› | refine gS ‹_› ?_ | refine pS ‹_› ?_)))) ?_)) (by rfl)) ?_ | refine rdA_i (by repeat (first | assumption | refine gG ‹_› ?_ | exact pE ‹_› | refine pG ‹_› (by first | assumption | exact Ne.symm ‹_› | exact ne_fr ‹_› (by repeat (first | exact io ‹_› | exact mS ‹_› | refine gS ‹_› ?_ | refine pS ‹_› ?_)) | exact Ne.symm (ne_fr ‹_› (by repeat (first | exact io ‹_› | exact mS ‹_› | refine gS ‹_› ?_ | refine pS ‹_› ?_)))) ?_)) (by rfl) ?_ | (refine st_i2 (by repeat (first | assumption | refine gG ‹_› ?_ | exact pE ‹_› | refine pG ‹_› (by first | assumption | exact Ne.symm ‹_› | exact ne_fr ‹_› (by repeat (first | exact io ‹_› | exact mS ‹_› | refine gS ‹_› ?_ | refine pS ‹_› ?_)) | exact Ne.symm (ne_fr ‹_› (by repeat (first | exact io ‹_› | exact mS ‹_› | refine gS ‹_› ?_ | refine pS ‹_› ?_)))) ?_)) (by first | exact sz_int | exact sz_string | exact sz_bool | exact sz_Inode | exact sz_Quota | exact sz_MSI | exact sz_place | exact sz_Errno) (by rfl) (by rfl) ?_; intro _ _) | refine app_P ?_ | refine app_I ?_ | refine app_S ?_ | refine app_B ?_ | refine app_M ?_ | refine app_L ?_ | refine app_U ?_ | refine app_R ?_ | (refine app_of rfl ?_; try dsimp only)))
  refine rdN hT8 hnf ?_
  have cF := (hT8.get hnf).cells
  unfold Nd.cells at cF
  (repeat (first | refine ptr_i ?_ | refine rdT_of (by repeat (first | assumption | refine gG ‹_› ?_ | exact pE ‹_› | refine pG ‹_› (by first | assumption | exact Ne.symm ‹_› | exact ne_fr ‹_› (by repeat (first | exact io ‹_› | exact mS ‹_› | refine gS ‹_› ?_ | refine pS ‹_› ?_)) | exact Ne.symm (ne_fr ‹_› (by repeat (first | exact io ‹_› | exact mS ‹_› | refine gS ‹_› ?_ | refine pS ‹_› ?_)))) ?_)) (by rfl) ?_ | (refine al_i ?_; intro _ _ _ _ _) | refine and_i (rdC_of (by repeat (first | assumption | refine gG ‹_› ?_ | exact pE ‹_› | refine pG ‹_› (by first | assumption | exact Ne.symm ‹_› | exact ne_fr ‹_› (by repeat (first | exact io ‹_› | exact mS ‹_› | refine gS ‹_› ?_ | refine pS ‹_› ?_)) | exact Ne.symm (ne_fr ‹_› (by repeat (first | exact io ‹_› | exact mS ‹_› | refine gS ‹_› ?_ | refine pS ‹_› ?_)))) ?_)) (by rfl)) ?_ | refine rdA_i (by repeat (first | assumption | refine gG ‹_› ?_ | exact pE ‹_› | refine pG ‹_› (by first | assumption | exact Ne.symm ‹_› | exact ne_fr ‹_› (by repeat (first | exact io ‹_› | exact mS ‹_› | refine gS ‹_› ?_ | refine pS ‹_› ?_)) | exact Ne.symm (ne_fr ‹_› (by repeat (first | exact io ‹_› | exact mS ‹_› | refine gS ‹_› ?_ | refine pS ‹_› ?_)))) ?_)) (by rfl) ?_ | (refine st_i2 (by repeat (first | assumption | refine gG ‹_› ?_ | exact pE ‹_› | refine pG ‹_› (by first | assumption | exact Ne.symm ‹_› | exact ne_fr ‹_› (by repeat (first | exact io ‹_› | exact mS ‹_› | refine gS ‹_› ?_ | refine pS ‹_› ?_)) | exact Ne.symm (ne_fr ‹_› (by repeat (first | exact io ‹_› | exact mS ‹_› | refine gS ‹_› ?_ | refine pS ‹_› ?_)))) ?_)) (by first | exact sz_int | exact sz_string | exact sz_bool | exact sz_Inode | exact sz_Quota | exact sz_MSI | exact sz_place | exact sz_Errno) (by rfl) (by rfl) ?_; intro _ _) | refine app_P ?_ | refine app_I ?_ | refine app_S ?_ | refine app_B ?_ | refine app_M ?_ | refine app_L ?_ | refine app_U ?_ | refine app_R ?_ | (refine app_of rfl ?_; try dsimp only)))
  rename_i σ14 p14
  have hT14 := hT8.putN hO (n' := { nf with mode := mode }) (i := ino) hnf p14 rfl rfl rfl rfl
  have hO14 := hO.set (n' := { nf with mode := mode }) (i := ino) hnf rfl rfl
  refine hK σ14 B ⟨_, hT14, hO14, ?_, fun b => (own_set (i := ino) (n' := { nf with mode := mode }) hnf rfl rfl b).trans (hB b)⟩ ?_
  · rw [abs_set]
    unfold AT.chmoded AT.mod
    rw [abs_get, hnf]
    rfl
  · intro b o hb hn
    have hn' : ¬ T.own bt b := fun h => hn ((hB b).1 h)
    exact ⟨p14.get ((hT.ne hn').2.2 ino nf hnf).1 (hgr.gr.get hb), hn⟩
end Go.Proofs.YtlpcehbfoogejaaGreatDoor

/- THE TABLE OF INODES: Unlink, Move, New. -/
set_option maxRecDepth 100000
namespace Go.Proofs.YtlpcehbfoogejaaGreatDoor
open Go Go.HL Go.Wk
attribute [local irreducible] ptrW ifW brW andW rdT alW letJ stW muW biW vaW imW callT cvalT app callW invW callVW sizeT oW nilF oneK loopW rfW funW begW roundK exW idxW Gr Put
theorem s_Unlink1 {σ : H} {bt : Nat} {T : Tb} (hT : TAt σ bt T) {b1 b2 b3 : Nat} {dir : Int} {name : ByteArray} {t1 t2 t3 : TypeId} (h1 : σ b1 = some (.cells ⟨[.pointer (some ⟨bt, 0, none⟩)]⟩ t1 (0, 0))) (h2 : σ b2 = some (.cells ⟨[.int .i64 dir]⟩ t2 (0, 0))) (h3 : σ b3 = some (.cells ⟨[.string name]⟩ t3 (0, 0))) {n : Nd} (hn : T.get ((T.find dir name).getD 0) = some n) {K : Value → H → Prop}
    (hK : K (.int .i64 (if n.ents.length = 0 then 0 else 20)) σ) : callW Tryz.prog 121 [.pointer (some ⟨b1, 0, none⟩), .pointer (some ⟨b2, 0, none⟩), .pointer (some ⟨b3, 0, none⟩)] K σ := by
  refine c121 _ _ _ ?_
  unfold g121
  have hc := hT.cells
  unfold Tb.cells at hc
  (repeat (first | refine ptr_i ?_ | refine rdT_of (by repeat (first | assumption | refine gG ‹_› ?_ | exact pE ‹_› | refine pG ‹_› (by first | assumption | exact Ne.symm ‹_› | exact ne_fr ‹_› (by repeat (first | exact io ‹_› | exact mS ‹_› | refine gS ‹_› ?_ | refine pS ‹_› ?_)) | exact Ne.symm (ne_fr ‹_› (by repeat (first | exact io ‹_› | exact mS ‹_› | refine gS ‹_› ?_ | refine pS ‹_› ?_)))) ?_)) (by rfl) ?_ | (refine al_i ?_; intro _ _ _ _ _) | refine and_i (rdC_of (by repeat (first | assumption | refine gG ‹_› ?_ | exact pE ‹_› | refine pG ‹_› (by first | assumption | exact Ne.symm ‹_› | exact ne_fr ‹_› (by repeat (first | exact io ‹_› | exact mS ‹_› | refine gS ‹_› ?_ | refine pS ‹_› ?_)) | exact Ne.symm (ne_fr ‹_› (by repeat (first | exact io ‹_› | exact mS ‹_› | refine gS ‹_› ?_ | refine pS ‹_› ?_)))) ?_)) (by rfl)) ?_ | refine rdA_i (by repeat (first | assumption | refine gG ‹_› ?_ | exact pE ‹_› | refine pG ‹_› (by first | assumption | exact Ne.symm ‹_› | exact ne_fr ‹_› (by repeat (first | exact io ‹_› | exact mS ‹_› | refine gS ‹_› ?_ | refine pS ‹_› ?_)) | exact Ne.symm (ne_fr ‹_› (by repeat (first | exact io ‹_› | exact mS ‹_› | refine gS ‹_› ?_ | refine pS ‹_› ?_)))) ?_)) (by rfl) ?_ | (refine st_i2 (by repeat (first | assumption | refine gG ‹_› ?_ | exact pE ‹_› | refine pG ‹_› (by first | assumption | exact Ne.symm ‹_› | exact ne_fr ‹_› (by repeat (first | exact io ‹_› | exact mS ‹_› | refine gS ‹_› ?_ | refine pS ‹_› ?_)) | exact Ne.symm (ne_fr ‹_› (by repeat (first | exact io ‹_› | exact mS ‹_› | refine gS ‹_› ?_ | refine pS ‹_› ?_)))) ?_)) (by first | exact sz_int | exact sz_string | exact sz_bool | exact sz_Inode | exact sz_Quota | exact sz_MSI | exact sz_place | exact sz_Errno) (by rfl) (by rfl) ?_; intro _ _) | refine app_P ?_ | refine app_I ?_ | refine app_S ?_ | refine app_B ?_ | refine app_M ?_ | refine app_L ?_ | refine app_U ?_ | refine app_R ?_ | (refine app_of rfl ?_; try dsimp only)))
  refine call_i (s_Find hT dir name (app_IB ?_))
  (repeat (first | refine ptr_i ?_ | refine rdT_of (by repeat (first | assumption | refine gG ‹_› ?_ | exact pE ‹_› | refine pG ‹_› (by first | assumption | exact Ne.symm ‹_› | exact ne_fr ‹_› (by repeat (first | exact io ‹_› | exact mS ‹_› | refine gS ‹_› ?_ | refine pS ‹_› ?_)) | exact Ne.symm (ne_fr ‹_› (by repeat (first | exact io ‹_› | exact mS ‹_› | refine gS ‹_› ?_ | refine pS ‹_› ?_)))) ?_)) (by rfl) ?_ | (refine al_i ?_; intro _ _ _ _ _) | refine and_i (rdC_of (by repeat (first | assumption | refine gG ‹_› ?_ | exact pE ‹_› | refine pG ‹_› (by first | assumption | exact Ne.symm ‹_› | exact ne_fr ‹_› (by repeat (first | exact io ‹_› | exact mS ‹_› | refine gS ‹_› ?_ | refine pS ‹_› ?_)) | exact Ne.symm (ne_fr ‹_› (by repeat (first | exact io ‹_› | exact mS ‹_› | refine gS ‹_› ?_ | refine pS ‹_› ?_)))) ?_)) (by rfl)) ?_ | refine rdA_i (by repeat (first | assumption | refine gG ‹_› ?_ | exact pE ‹_› | refine pG ‹_› (by first | assumption | exact Ne.symm ‹_› | exact ne_fr ‹_› (by repeat (first | exact io ‹_› | exact mS ‹_› | refine gS ‹_› ?_ | refine pS ‹_› ?_)) | exact Ne.symm (ne_fr ‹_› (by repeat (first | exact io ‹_› | exact mS ‹_› | refine gS ‹_› ?_ | refine pS ‹_› ?_)))) ?_)) (by rfl) ?_ | (refine st_i2 (by repeat (first | assumption | refine gG ‹_› ?_ | exact pE ‹_› | refine pG ‹_› (by first | assumption | exact Ne.symm ‹_› | exact ne_fr ‹_› (by repeat (first | exact io ‹_› | exact mS ‹_› | refine gS ‹_› ?_ | refine pS ‹_› ?_)) | exact Ne.symm (ne_fr ‹_› (by repeat (first | exact io ‹_› | exact mS ‹_› | refine gS ‹_› ?_ | refine pS ‹_› ?_)))) ?_)) (by first | exact sz_int | exact sz_string | exact sz_bool | exact sz_Inode | exact sz_Quota | exact sz_MSI | exact sz_place | exact sz_Errno) (by rfl) (by rfl) ?_; intro _ _) | refine app_P ?_ | refine app_I ?_ | refine app_S ?_ | refine app_B ?_ | refine app_M ?_ | refine app_L ?_ | refine app_U ?_ | refine app_R ?_ | (refine app_of rfl ?_; try dsimp only)))
  refine rdN hT hn ?_
  have hN := (hT.get hn)
  have cN := hN.cells
  unfold Nd.cells at cN
  (repeat (first | refine ptr_i ?_ | refine rdT_of (by repeat (first | assumption | refine gG ‹_› ?_ | exact pE ‹_› | refine pG ‹_› (by first | assumption | exact Ne.symm ‹_› | exact ne_fr ‹_› (by repeat (first | exact io ‹_› | exact mS ‹_› | refine gS ‹_› ?_ | refine pS ‹_› ?_)) | exact Ne.symm (ne_fr ‹_› (by repeat (first | exact io ‹_› | exact mS ‹_› | refine gS ‹_› ?_ | refine pS ‹_› ?_)))) ?_)) (by rfl) ?_ | (refine al_i ?_; intro _ _ _ _ _) | refine and_i (rdC_of (by repeat (first | assumption | refine gG ‹_› ?_ | exact pE ‹_› | refine pG ‹_› (by first | assumption | exact Ne.symm ‹_› | exact ne_fr ‹_› (by repeat (first | exact io ‹_› | exact mS ‹_› | refine gS ‹_› ?_ | refine pS ‹_› ?_)) | exact Ne.symm (ne_fr ‹_› (by repeat (first | exact io ‹_› | exact mS ‹_› | refine gS ‹_› ?_ | refine pS ‹_› ?_)))) ?_)) (by rfl)) ?_ | refine rdA_i (by repeat (first | assumption | refine gG ‹_› ?_ | exact pE ‹_› | refine pG ‹_› (by first | assumption | exact Ne.symm ‹_› | exact ne_fr ‹_› (by repeat (first | exact io ‹_› | exact mS ‹_› | refine gS ‹_› ?_ | refine pS ‹_› ?_)) | exact Ne.symm (ne_fr ‹_› (by repeat (first | exact io ‹_› | exact mS ‹_› | refine gS ‹_› ?_ | refine pS ‹_› ?_)))) ?_)) (by rfl) ?_ | (refine st_i2 (by repeat (first | assumption | refine gG ‹_› ?_ | exact pE ‹_› | refine pG ‹_› (by first | assumption | exact Ne.symm ‹_› | exact ne_fr ‹_› (by repeat (first | exact io ‹_› | exact mS ‹_› | refine gS ‹_› ?_ | refine pS ‹_› ?_)) | exact Ne.symm (ne_fr ‹_› (by repeat (first | exact io ‹_› | exact mS ‹_› | refine gS ‹_› ?_ | refine pS ‹_› ?_)))) ?_)) (by first | exact sz_int | exact sz_string | exact sz_bool | exact sz_Inode | exact sz_Quota | exact sz_MSI | exact sz_place | exact sz_Errno) (by rfl) (by rfl) ?_; intro _ _) | refine app_P ?_ | refine app_I ?_ | refine app_S ?_ | refine app_B ?_ | refine app_M ?_ | refine app_L ?_ | refine app_U ?_ | refine app_R ?_ | (refine app_of rfl ?_; try dsimp only)))
  cases he : n.eb with
  | none =>
    have h0 := hN.none he
    refine rd_I (n := 0) rfl ?_
    refine call_i (s_must _ _ (app_I ?_))
    simpa [h0] using hK
  | some e =>
    refine rd_I (rdLen_at (hN.ents e he)) ?_
    refine call_i (s_must _ _ (app_I ?_))
    have : (encL kkS valI n.ents).length = n.ents.length := by simp [encL]
    rw [this]
    by_cases h0 : n.ents.length = 0
    · rw [if_pos h0] at hK; simpa [h0] using hK
    · rw [if_neg h0] at hK
      have : (((n.ents.length : Nat) : Int) == 0) = false := by
        simp; intro e; exact h0 (by rw [e]; rfl)
      rw [this]; exact hK
theorem s_Unlink {σ : H} {bt : Nat} {A : AT} {B : Nat → Prop} (hA : TabAt σ bt A B) (dir : Int) (name : ByteArray) (hd : ∀ j, A.find dir name = some j → (A.get j).isSome = true) (hk : (keysL A.nodes).Nodup) {K : Value → H → Prop}
    (hK : ∀ σ' B', TabAt σ' bt (AT.unlinkR A dir name).2 B' → Sep σ B σ' B' → K (.int .i64 (AT.unlinkR A dir name).1) σ') :
    callW Tryz.prog 68 [.pointer (some ⟨bt, 0, none⟩), .int .i64 dir, .string name] K σ := by
  obtain ⟨T, hT, hO, rfl, hB⟩ := hA
  have hc0 := hT.cells
  refine c68 _ _ _ ?_
  unfold g68
  refine al_i ?_; intro b4 σ1 g1 e1 n1
  refine al_i ?_; intro b5 σ2 g2 e2 n2
  refine al_i ?_; intro b6 σ3 g3 e3 n3
  (repeat (first | refine ptr_i ?_ | refine rdT_of (by repeat (first | assumption | refine gG ‹_› ?_ | exact pE ‹_› | refine pG ‹_› (by first | assumption | exact Ne.symm ‹_› | exact ne_fr ‹_› (by repeat (first | exact io ‹_› | exact mS ‹_› | refine gS ‹_› ?_ | refine pS ‹_› ?_)) | exact Ne.symm (ne_fr ‹_› (by repeat (first | exact io ‹_› | exact mS ‹_› | refine gS ‹_› ?_ | refine pS ‹_› ?_)))) ?_)) (by rfl) ?_ | (refine al_i ?_; intro _ _ _ _ _) | refine and_i (rdC_of (by repeat (first | assumption | refine gG ‹_› ?_ | exact pE ‹_› | refine pG ‹_› (by first | assumption | exact Ne.symm ‹_› | exact ne_fr ‹_› (by repeat (first | exact io ‹_› | exact mS ‹_› | refine gS ‹_› ?_ | refine pS ‹_› ?_)) | exact Ne.symm (ne_fr ‹_› (by repeat (first | exact io ‹_› | exact mS ‹_› | refine gS ‹_› ?_ | refine pS ‹_› ?_)))) ?_)) (by rfl)) ?_ | refine rdA_i (by repeat (first | assumption | refine gG ‹_› ?_ | exact pE ‹_› | refine pG ‹_› (by first | assumption | exact Ne.symm ‹_› | exact ne_fr ‹_› (by repeat (first | exact io ‹_› | exact mS ‹_› | refine gS ‹_› ?_ | refine pS ‹_› ?_)) | exact Ne.symm (ne_fr ‹_› (by repeat (first | exact io ‹_› | exact mS ‹_› | refine gS ‹_› ?_ | refine pS ‹_› ?_)))) ?_)) (by rfl) ?_ | (refine st_i2 (by repeat (first | assumption | refine gG ‹_› ?_ | exact pE ‹_› | refine pG ‹_› (by first | assumption | exact Ne.symm ‹_› | exact ne_fr ‹_› (by repeat (first | exact io ‹_› | exact mS ‹_› | refine gS ‹_› ?_ | refine pS ‹_› ?_)) | exact Ne.symm (ne_fr ‹_› (by repeat (first | exact io ‹_› | exact mS ‹_› | refine gS ‹_› ?_ | refine pS ‹_› ?_)))) ?_)) (by first | exact sz_int | exact sz_string | exact sz_bool | exact sz_Inode | exact sz_Quota | exact sz_MSI | exact sz_place | exact sz_Errno) (by rfl) (by rfl) ?_; intro _ _) | refine app_P ?_ | refine app_I ?_ | refine app_S ?_ | refine app_B ?_ | refine app_M ?_ | refine app_L ?_ | refine app_U ?_ | refine app_R ?_ | (refine app_of rfl ?_; try dsimp only)))
  refine call_i (s_dir _ _ ?_)
  intro c1 c2 σ5 g5 f1 f2
  refine app_R ?_
  (repeat (first | refine ptr_i ?_ | refine rdT_of (by repeat (first | assumption | refine gG ‹_› ?_ | exact pE ‹_› | refine pG ‹_› (by first | assumption | exact Ne.symm ‹_› | exact ne_fr ‹_› (by repeat (first | exact io ‹_› | exact mS ‹_› | refine gS ‹_› ?_ | refine pS ‹_› ?_)) | exact Ne.symm (ne_fr ‹_› (by repeat (first | exact io ‹_› | exact mS ‹_› | refine gS ‹_› ?_ | refine pS ‹_› ?_)))) ?_)) (by rfl) ?_ | (refine al_i ?_; intro _ _ _ _ _) | refine and_i (rdC_of (by repeat (first | assumption | refine gG ‹_› ?_ | exact pE ‹_› | refine pG ‹_› (by first | assumption | exact Ne.symm ‹_› | exact ne_fr ‹_› (by repeat (first | exact io ‹_› | exact mS ‹_› | refine gS ‹_› ?_ | refine pS ‹_› ?_)) | exact Ne.symm (ne_fr ‹_› (by repeat (first | exact io ‹_› | exact mS ‹_› | refine gS ‹_› ?_ | refine pS ‹_› ?_)))) ?_)) (by rfl)) ?_ | refine rdA_i (by repeat (first | assumption | refine gG ‹_› ?_ | exact pE ‹_› | refine pG ‹_› (by first | assumption | exact Ne.symm ‹_› | exact ne_fr ‹_› (by repeat (first | exact io ‹_› | exact mS ‹_› | refine gS ‹_› ?_ | refine pS ‹_› ?_)) | exact Ne.symm (ne_fr ‹_› (by repeat (first | exact io ‹_› | exact mS ‹_› | refine gS ‹_› ?_ | refine pS ‹_› ?_)))) ?_)) (by rfl) ?_ | (refine st_i2 (by repeat (first | assumption | refine gG ‹_› ?_ | exact pE ‹_› | refine pG ‹_› (by first | assumption | exact Ne.symm ‹_› | exact ne_fr ‹_› (by repeat (first | exact io ‹_› | exact mS ‹_› | refine gS ‹_› ?_ | refine pS ‹_› ?_)) | exact Ne.symm (ne_fr ‹_› (by repeat (first | exact io ‹_› | exact mS ‹_› | refine gS ‹_› ?_ | refine pS ‹_› ?_)))) ?_)) (by first | exact sz_int | exact sz_string | exact sz_bool | exact sz_Inode | exact sz_Quota | exact sz_MSI | exact sz_place | exact sz_Errno) (by rfl) (by rfl) ?_; intro _ _) | refine app_P ?_ | refine app_I ?_ | refine app_S ?_ | refine app_B ?_ | refine app_M ?_ | refine app_L ?_ | refine app_U ?_ | refine app_R ?_ | (refine app_of rfl ?_; try dsimp only)))
  refine call_i (s_entry _ _ _ ?_)
  intro c4 c5 c6 σ7 g7 f4 f5 f6
  refine app_R ?_
  (repeat (first | refine ptr_i ?_ | refine rdT_of (by repeat (first | assumption | refine gG ‹_› ?_ | exact pE ‹_› | refine pG ‹_› (by first | assumption | exact Ne.symm ‹_› | exact ne_fr ‹_› (by repeat (first | exact io ‹_› | exact mS ‹_› | refine gS ‹_› ?_ | refine pS ‹_› ?_)) | exact Ne.symm (ne_fr ‹_› (by repeat (first | exact io ‹_› | exact mS ‹_› | refine gS ‹_› ?_ | refine pS ‹_› ?_)))) ?_)) (by rfl) ?_ | (refine al_i ?_; intro _ _ _ _ _) | refine and_i (rdC_of (by repeat (first | assumption | refine gG ‹_› ?_ | exact pE ‹_› | refine pG ‹_› (by first | assumption | exact Ne.symm ‹_› | exact ne_fr ‹_› (by repeat (first | exact io ‹_› | exact mS ‹_› | refine gS ‹_› ?_ | refine pS ‹_› ?_)) | exact Ne.symm (ne_fr ‹_› (by repeat (first | exact io ‹_› | exact mS ‹_› | refine gS ‹_› ?_ | refine pS ‹_› ?_)))) ?_)) (by rfl)) ?_ | refine rdA_i (by repeat (first | assumption | refine gG ‹_› ?_ | exact pE ‹_› | refine pG ‹_› (by first | assumption | exact Ne.symm ‹_› | exact ne_fr ‹_› (by repeat (first | exact io ‹_› | exact mS ‹_› | refine gS ‹_› ?_ | refine pS ‹_› ?_)) | exact Ne.symm (ne_fr ‹_› (by repeat (first | exact io ‹_› | exact mS ‹_› | refine gS ‹_› ?_ | refine pS ‹_› ?_)))) ?_)) (by rfl) ?_ | (refine st_i2 (by repeat (first | assumption | refine gG ‹_› ?_ | exact pE ‹_› | refine pG ‹_› (by first | assumption | exact Ne.symm ‹_› | exact ne_fr ‹_› (by repeat (first | exact io ‹_› | exact mS ‹_› | refine gS ‹_› ?_ | refine pS ‹_› ?_)) | exact Ne.symm (ne_fr ‹_› (by repeat (first | exact io ‹_› | exact mS ‹_› | refine gS ‹_› ?_ | refine pS ‹_› ?_)))) ?_)) (by first | exact sz_int | exact sz_string | exact sz_bool | exact sz_Inode | exact sz_Quota | exact sz_MSI | exact sz_place | exact sz_Errno) (by rfl) (by rfl) ?_; intro _ _) | refine app_P ?_ | refine app_I ?_ | refine app_S ?_ | refine app_B ?_ | refine app_M ?_ | refine app_L ?_ | refine app_U ?_ | refine app_R ?_ | (refine app_of rfl ?_; try dsimp only)))
  refine one_f (one_f ?_)
  refine al_i ?_; intro b17 σ8 g8 e8 n8
  have hgr : Lng σ σ8 := ⟨by repeat (first | exact Gr.refl _ | assumption | refine Gr.trans ?_ ‹_› | refine Gr.putF ?_ ‹_› (none_of ?_ ‹_›))⟩
  have hT8 := hT.gr hgr.gr
  have hnn : ∀ j, T.find dir name = some j → ∃ n, T.get j = some n := by
    intro j hj
    have := hd j (by rw [abs_find]; exact hj)
    rw [abs_get] at this
    cases h : T.get j with
    | none => rw [h] at this; cases this
    | some n => exact ⟨n, rfl⟩
  refine call_i (s_first (es := [0, T.dirE dir, if (T.find dir name).isSome then 0 else 5, if ((T.abs.get ((T.find dir name).getD 0)).map (·.ents.length)).getD 0 = 0 then 0 else 20]) e8 ?_ (by simp) (app_I ?_))
  · refine ⟨pu_of go_there fun K hk => s_there _ hk, fun _ => ⟨pu_of go_dir1 fun K hk => s_dir1 hT8 (by repeat (first | assumption | refine gG ‹_› ?_ | exact pE ‹_› | refine pG ‹_› (by first | assumption | exact Ne.symm ‹_› | exact ne_fr ‹_› (by repeat (first | exact io ‹_› | exact mS ‹_› | refine gS ‹_› ?_ | refine pS ‹_› ?_)) | exact Ne.symm (ne_fr ‹_› (by repeat (first | exact io ‹_› | exact mS ‹_› | refine gS ‹_› ?_ | refine pS ‹_› ?_)))) ?_)) (by repeat (first | assumption | refine gG ‹_› ?_ | exact pE ‹_› | refine pG ‹_› (by first | assumption | exact Ne.symm ‹_› | exact ne_fr ‹_› (by repeat (first | exact io ‹_› | exact mS ‹_› | refine gS ‹_› ?_ | refine pS ‹_› ?_)) | exact Ne.symm (ne_fr ‹_› (by repeat (first | exact io ‹_› | exact mS ‹_› | refine gS ‹_› ?_ | refine pS ‹_› ?_)))) ?_)) hk, fun _ => ⟨pu_of go_entry1 fun K hk => s_entry1 hT8 (by repeat (first | assumption | refine gG ‹_› ?_ | exact pE ‹_› | refine pG ‹_› (by first | assumption | exact Ne.symm ‹_› | exact ne_fr ‹_› (by repeat (first | exact io ‹_› | exact mS ‹_› | refine gS ‹_› ?_ | refine pS ‹_› ?_)) | exact Ne.symm (ne_fr ‹_› (by repeat (first | exact io ‹_› | exact mS ‹_› | refine gS ‹_› ?_ | refine pS ‹_› ?_)))) ?_)) (by repeat (first | assumption | refine gG ‹_› ?_ | exact pE ‹_› | refine pG ‹_› (by first | assumption | exact Ne.symm ‹_› | exact ne_fr ‹_› (by repeat (first | exact io ‹_› | exact mS ‹_› | refine gS ‹_› ?_ | refine pS ‹_› ?_)) | exact Ne.symm (ne_fr ‹_› (by repeat (first | exact io ‹_› | exact mS ‹_› | refine gS ‹_› ?_ | refine pS ‹_› ?_)))) ?_)) (by repeat (first | assumption | refine gG ‹_› ?_ | exact pE ‹_› | refine pG ‹_› (by first | assumption | exact Ne.symm ‹_› | exact ne_fr ‹_› (by repeat (first | exact io ‹_› | exact mS ‹_› | refine gS ‹_› ?_ | refine pS ‹_› ?_)) | exact Ne.symm (ne_fr ‹_› (by repeat (first | exact io ‹_› | exact mS ‹_› | refine gS ‹_› ?_ | refine pS ‹_› ?_)))) ?_)) hk, fun hz => ⟨pu_of go_Unlink1 fun K hk => ?_, fun _ => trivial⟩⟩⟩⟩
    cases hj : T.find dir name with
    | none => rw [hj] at hz; cases hz
    | some j =>
      obtain ⟨n, hn⟩ := hnn j hj
      refine s_Unlink1 hT8 (b1 := b4) (b2 := b5) (b3 := b6) (by repeat (first | assumption | refine gG ‹_› ?_ | exact pE ‹_› | refine pG ‹_› (by first | assumption | exact Ne.symm ‹_› | exact ne_fr ‹_› (by repeat (first | exact io ‹_› | exact mS ‹_› | refine gS ‹_› ?_ | refine pS ‹_› ?_)) | exact Ne.symm (ne_fr ‹_› (by repeat (first | exact io ‹_› | exact mS ‹_› | refine gS ‹_› ?_ | refine pS ‹_› ?_)))) ?_)) (by repeat (first | assumption | refine gG ‹_› ?_ | exact pE ‹_› | refine pG ‹_› (by first | assumption | exact Ne.symm ‹_› | exact ne_fr ‹_› (by repeat (first | exact io ‹_› | exact mS ‹_› | refine gS ‹_› ?_ | refine pS ‹_› ?_)) | exact Ne.symm (ne_fr ‹_› (by repeat (first | exact io ‹_› | exact mS ‹_› | refine gS ‹_› ?_ | refine pS ‹_› ?_)))) ?_)) (by repeat (first | assumption | refine gG ‹_› ?_ | exact pE ‹_› | refine pG ‹_› (by first | assumption | exact Ne.symm ‹_› | exact ne_fr ‹_› (by repeat (first | exact io ‹_› | exact mS ‹_› | refine gS ‹_› ?_ | refine pS ‹_› ?_)) | exact Ne.symm (ne_fr ‹_› (by repeat (first | exact io ‹_› | exact mS ‹_› | refine gS ‹_› ?_ | refine pS ‹_› ?_)))) ?_)) (n := n) (by rw [hj]; exact hn) ?_
      rw [abs_get, hj] at hk
      simp only [Option.getD_some, hn] at hk
      exact hk
  have hE : firstE [0, T.dirE dir, if (T.find dir name).isSome then 0 else 5, if ((T.abs.get ((T.find dir name).getD 0)).map (·.ents.length)).getD 0 = 0 then 0 else 20] = T.abs.unlinkE dir name := by
    unfold AT.unlinkE; rw [abs_dirE, abs_find]
  rw [hE]
  unfold AT.unlinkR at hK
  by_cases h0 : T.abs.unlinkE dir name = 0
  case neg =>
    rw [if_neg h0] at hK
    refine br_t (by simpa using h0) ?_
    exact hK σ8 B ⟨T, hT8, hO, rfl, hB⟩ (Sep.gr hgr.gr)
  rw [if_pos h0] at hK
  refine br_f (by simpa using h0) ?_
  rw [← hE] at h0
  obtain ⟨nd, hnd, hkd⟩ := dirE_z (firstE_z (firstE_z h0).2).1
  have hz := (firstE_z (firstE_z (firstE_z h0).2).2).1
  cases hj : T.find dir name with
  | none => rw [hj] at hz; cases hz
  | some j =>
  obtain ⟨n0, hn0⟩ := hnn j hj
  have hc := hT8.cells
  unfold Tb.cells at hc
  (repeat (first | refine ptr_i ?_ | refine rdT_of (by repeat (first | assumption | refine gG ‹_› ?_ | exact pE ‹_› | refine pG ‹_› (by first | assumption | exact Ne.symm ‹_› | exact ne_fr ‹_› (by repeat (first | exact io ‹_› | exact mS ‹_› | refine gS ‹_› ?_ | refine pS ‹_› ?_)) | exact Ne.symm (ne_fr ‹_› (by repeat (first | exact io ‹_› | exact mS ‹_› | refine gS ‹_› ?_ | refine pS ‹_› ?_)))) ?_)) (by rfl) ?_ | (refine al_i ?_; intro _ _ _ _ _) | refine and_i (rdC_of (by repeat (first | assumption | refine gG ‹_› ?_ | exact pE ‹_› | refine pG ‹_› (by first | assumption | exact Ne.symm ‹_› | exact ne_fr ‹_› (by repeat (first | exact io ‹_› | exact mS ‹_› | refine gS ‹_› ?_ | refine pS ‹_› ?_)) | exact Ne.symm (ne_fr ‹_› (by repeat (first | exact io ‹_› | exact mS ‹_› | refine gS ‹_› ?_ | refine pS ‹_› ?_)))) ?_)) (by rfl)) ?_ | refine rdA_i (by repeat (first | assumption | refine gG ‹_› ?_ | exact pE ‹_› | refine pG ‹_› (by first | assumption | exact Ne.symm ‹_› | exact ne_fr ‹_› (by repeat (first | exact io ‹_› | exact mS ‹_› | refine gS ‹_› ?_ | refine pS ‹_› ?_)) | exact Ne.symm (ne_fr ‹_› (by repeat (first | exact io ‹_› | exact mS ‹_› | refine gS ‹_› ?_ | refine pS ‹_› ?_)))) ?_)) (by rfl) ?_ | (refine st_i2 (by repeat (first | assumption | refine gG ‹_› ?_ | exact pE ‹_› | refine pG ‹_› (by first | assumption | exact Ne.symm ‹_› | exact ne_fr ‹_› (by repeat (first | exact io ‹_› | exact mS ‹_› | refine gS ‹_› ?_ | refine pS ‹_› ?_)) | exact Ne.symm (ne_fr ‹_› (by repeat (first | exact io ‹_› | exact mS ‹_› | refine gS ‹_› ?_ | refine pS ‹_› ?_)))) ?_)) (by first | exact sz_int | exact sz_string | exact sz_bool | exact sz_Inode | exact sz_Quota | exact sz_MSI | exact sz_place | exact sz_Errno) (by rfl) (by rfl) ?_; intro _ _) | refine app_P ?_ | refine app_I ?_ | refine app_S ?_ | refine app_B ?_ | refine app_M ?_ | refine app_L ?_ | refine app_U ?_ | refine app_R ?_ | (refine app_of rfl ?_; try dsimp only)))
  refine call_i (s_Find hT8 dir name (app_IB ?_))
  rw [hj]
  simp only [Option.getD_some]
  (repeat (first | refine ptr_i ?_ | refine rdT_of (by repeat (first | assumption | refine gG ‹_› ?_ | exact pE ‹_› | refine pG ‹_› (by first | assumption | exact Ne.symm ‹_› | exact ne_fr ‹_› (by repeat (first | exact io ‹_› | exact mS ‹_› | refine gS ‹_› ?_ | refine pS ‹_› ?_)) | exact Ne.symm (ne_fr ‹_› (by repeat (first | exact io ‹_› | exact mS ‹_› | refine gS ‹_› ?_ | refine pS ‹_› ?_)))) ?_)) (by rfl) ?_ | (refine al_i ?_; intro _ _ _ _ _) | refine and_i (rdC_of (by repeat (first | assumption | refine gG ‹_› ?_ | exact pE ‹_› | refine pG ‹_› (by first | assumption | exact Ne.symm ‹_› | exact ne_fr ‹_› (by repeat (first | exact io ‹_› | exact mS ‹_› | refine gS ‹_› ?_ | refine pS ‹_› ?_)) | exact Ne.symm (ne_fr ‹_› (by repeat (first | exact io ‹_› | exact mS ‹_› | refine gS ‹_› ?_ | refine pS ‹_› ?_)))) ?_)) (by rfl)) ?_ | refine rdA_i (by repeat (first | assumption | refine gG ‹_› ?_ | exact pE ‹_› | refine pG ‹_› (by first | assumption | exact Ne.symm ‹_› | exact ne_fr ‹_› (by repeat (first | exact io ‹_› | exact mS ‹_› | refine gS ‹_› ?_ | refine pS ‹_› ?_)) | exact Ne.symm (ne_fr ‹_› (by repeat (first | exact io ‹_› | exact mS ‹_› | refine gS ‹_› ?_ | refine pS ‹_› ?_)))) ?_)) (by rfl) ?_ | (refine st_i2 (by repeat (first | assumption | refine gG ‹_› ?_ | exact pE ‹_› | refine pG ‹_› (by first | assumption | exact Ne.symm ‹_› | exact ne_fr ‹_› (by repeat (first | exact io ‹_› | exact mS ‹_› | refine gS ‹_› ?_ | refine pS ‹_› ?_)) | exact Ne.symm (ne_fr ‹_› (by repeat (first | exact io ‹_› | exact mS ‹_› | refine gS ‹_› ?_ | refine pS ‹_› ?_)))) ?_)) (by first | exact sz_int | exact sz_string | exact sz_bool | exact sz_Inode | exact sz_Quota | exact sz_MSI | exact sz_place | exact sz_Errno) (by rfl) (by rfl) ?_; intro _ _) | refine app_P ?_ | refine app_I ?_ | refine app_S ?_ | refine app_B ?_ | refine app_M ?_ | refine app_L ?_ | refine app_U ?_ | refine app_R ?_ | (refine app_of rfl ?_; try dsimp only)))
  refine rdN hT8 hnd ?_
  obtain ⟨ed, hed⟩ := hT8.dir hnd hkd
  have cD := (hT8.get hnd).cells
  unfold Nd.cells at cD
  rw [hed] at cD
  (repeat (first | refine ptr_i ?_ | refine rdT_of (by repeat (first | assumption | refine gG ‹_› ?_ | exact pE ‹_› | refine pG ‹_› (by first | assumption | exact Ne.symm ‹_› | exact ne_fr ‹_› (by repeat (first | exact io ‹_› | exact mS ‹_› | refine gS ‹_› ?_ | refine pS ‹_› ?_)) | exact Ne.symm (ne_fr ‹_› (by repeat (first | exact io ‹_› | exact mS ‹_› | refine gS ‹_› ?_ | refine pS ‹_› ?_)))) ?_)) (by rfl) ?_ | (refine al_i ?_; intro _ _ _ _ _) | refine and_i (rdC_of (by repeat (first | assumption | refine gG ‹_› ?_ | exact pE ‹_› | refine pG ‹_› (by first | assumption | exact Ne.symm ‹_› | exact ne_fr ‹_› (by repeat (first | exact io ‹_› | exact mS ‹_› | refine gS ‹_› ?_ | refine pS ‹_› ?_)) | exact Ne.symm (ne_fr ‹_› (by repeat (first | exact io ‹_› | exact mS ‹_› | refine gS ‹_› ?_ | refine pS ‹_› ?_)))) ?_)) (by rfl)) ?_ | refine rdA_i (by repeat (first | assumption | refine gG ‹_› ?_ | exact pE ‹_› | refine pG ‹_› (by first | assumption | exact Ne.symm ‹_› | exact ne_fr ‹_› (by repeat (first | exact io ‹_› | exact mS ‹_› | refine gS ‹_› ?_ | refine pS ‹_› ?_)) | exact Ne.symm (ne_fr ‹_› (by repeat (first | exact io ‹_› | exact mS ‹_› | refine gS ‹_› ?_ | refine pS ‹_› ?_)))) ?_)) (by rfl) ?_ | (refine st_i2 (by repeat (first | assumption | refine gG ‹_› ?_ | exact pE ‹_› | refine pG ‹_› (by first | assumption | exact Ne.symm ‹_› | exact ne_fr ‹_› (by repeat (first | exact io ‹_› | exact mS ‹_› | refine gS ‹_› ?_ | refine pS ‹_› ?_)) | exact Ne.symm (ne_fr ‹_› (by repeat (first | exact io ‹_› | exact mS ‹_› | refine gS ‹_› ?_ | refine pS ‹_› ?_)))) ?_)) (by first | exact sz_int | exact sz_string | exact sz_bool | exact sz_Inode | exact sz_Quota | exact sz_MSI | exact sz_place | exact sz_Errno) (by rfl) (by rfl) ?_; intro _ _) | refine app_P ?_ | refine app_I ?_ | refine app_S ?_ | refine app_B ?_ | refine app_M ?_ | refine app_L ?_ | refine app_U ?_ | refine app_R ?_ | (refine app_of rfl ?_; try dsimp only)))
  have mE := (hT8.get hnd).ents ed hed
  have k4 : σ8 b4 = some (.cells ⟨[.pointer (some ⟨bt, 0, none⟩)]⟩ 80 (0, 0)) := by repeat (first | assumption | refine gG ‹_› ?_ | exact pE ‹_› | refine pG ‹_› (by first | assumption | exact Ne.symm ‹_› | exact ne_fr ‹_› (by repeat (first | exact io ‹_› | exact mS ‹_› | refine gS ‹_› ?_ | refine pS ‹_› ?_)) | exact Ne.symm (ne_fr ‹_› (by repeat (first | exact io ‹_› | exact mS ‹_› | refine gS ‹_› ?_ | refine pS ‹_› ?_)))) ?_)
  refine del_i (kk := kkS) (f := valI) und_MSI und_string mE name ?_
  intro o12 σ12 p12 m12
  have hT12 := hT8.putE hO hnd hed p12 m12
  have hO12 : Own (T.set dir { nd with ents := HL.rm name nd.ents }) := hO.set hnd rfl rfl
  have n4e : b4 ≠ ed := ne_cm k4 mE
  have nte : bt ≠ ed := ne_cm hT8.cells mE
  have k4' := p12.get n4e k4
  have hc12 := hT12.cells
  unfold Tb.cells at hc12
  (repeat (first | refine ptr_i ?_ | refine rdT_of (by repeat (first | assumption | refine gG ‹_› ?_ | exact pE ‹_› | refine pG ‹_› (by first | assumption | exact Ne.symm ‹_› | exact ne_fr ‹_› (by repeat (first | exact io ‹_› | exact mS ‹_› | refine gS ‹_› ?_ | refine pS ‹_› ?_)) | exact Ne.symm (ne_fr ‹_› (by repeat (first | exact io ‹_› | exact mS ‹_› | refine gS ‹_› ?_ | refine pS ‹_› ?_)))) ?_)) (by rfl) ?_ | (refine al_i ?_; intro _ _ _ _ _) | refine and_i (rdC_of (by repeat (first | assumption | refine gG ‹_› ?_ | exact pE ‹_› | refine pG ‹_› (by first | assumption | exact Ne.symm ‹_› | exact ne_fr ‹_› (by repeat (first | exact io ‹_› | exact mS ‹_› | refine gS ‹_› ?_ | refine pS ‹_› ?_)) | exact Ne.symm (ne_fr ‹_› (by repeat (first | exact io ‹_› | exact mS ‹_› | refine gS ‹_› ?_ | refine pS ‹_› ?_)))) ?_)) (by rfl)) ?_ | refine rdA_i (by repeat (first | assumption | refine gG ‹_› ?_ | exact pE ‹_› | refine pG ‹_› (by first | assumption | exact Ne.symm ‹_› | exact ne_fr ‹_› (by repeat (first | exact io ‹_› | exact mS ‹_› | refine gS ‹_› ?_ | refine pS ‹_› ?_)) | exact Ne.symm (ne_fr ‹_› (by repeat (first | exact io ‹_› | exact mS ‹_› | refine gS ‹_› ?_ | refine pS ‹_› ?_)))) ?_)) (by rfl) ?_ | (refine st_i2 (by repeat (first | assumption | refine gG ‹_› ?_ | exact pE ‹_› | refine pG ‹_› (by first | assumption | exact Ne.symm ‹_› | exact ne_fr ‹_› (by repeat (first | exact io ‹_› | exact mS ‹_› | refine gS ‹_› ?_ | refine pS ‹_› ?_)) | exact Ne.symm (ne_fr ‹_› (by repeat (first | exact io ‹_› | exact mS ‹_› | refine gS ‹_› ?_ | refine pS ‹_› ?_)))) ?_)) (by first | exact sz_int | exact sz_string | exact sz_bool | exact sz_Inode | exact sz_Quota | exact sz_MSI | exact sz_place | exact sz_Errno) (by rfl) (by rfl) ?_; intro _ _) | refine app_P ?_ | refine app_I ?_ | refine app_S ?_ | refine app_B ?_ | refine app_M ?_ | refine app_L ?_ | refine app_U ?_ | refine app_R ?_ | (refine app_of rfl ?_; try dsimp only)))
  -- what it named, as it is now
  obtain ⟨n1, hn1, a1, a2, a3, a4⟩ : ∃ n1, (T.set dir { nd with ents := HL.rm name nd.ents }).get j = some n1 ∧ n1.blk = n0.blk ∧ n1.eb = n0.eb ∧ n1.data = n0.data ∧ n1.links = n0.links := by
    rw [get_set]
    by_cases e : j = dir
    · subst e; rw [hnd] at hn0; cases hn0; rw [if_pos rfl]; exact ⟨_, rfl, rfl, rfl, rfl, rfl⟩
    · rw [if_neg e]; exact ⟨n0, hn0, rfl, rfl, rfl, rfl⟩
  refine rdN hT12 hn1 ?_
  refine j_d ?_
  have cF := (hT12.get hn1).cells
  unfold Nd.cells at cF
  refine ptr_i ?_
  refine rd_I (rdC_of cF (by rfl)) (ptr_i ?_)
  refine st_i2 cF sz_int (by rfl) (by rfl) ?_
  intro σ13 p13
  let T12 := T.set dir { nd with ents := HL.rm name nd.ents }
  let n2 : Nd := { n1 with links := wr (n1.links - 1) }
  have hT13 : TAt σ13 bt (T12.set j n2) := hT12.putN hO12 hn1 p13 rfl rfl rfl rfl
  have hO13 : Own (T12.set j n2) := hO12.set hn1 rfl rfl
  have o13 : ∀ b, (T12.set j n2).own bt b ↔ B b := fun b => (own_set (n' := n2) hn1 rfl rfl b).trans ((own_set (n' := { nd with ents := HL.rm name nd.ents }) hnd rfl rfl b).trans (hB b))
  have habs : (T12.set j n2).abs = (T.abs.ent dir (HL.rm name)).mod j fun n => { n with links := wr (n.links - 1) } := by
    rw [abs_set]
    unfold AT.ent AT.mod
    rw [abs_get, hnd]
    simp only [Option.map_some]
    have h5 : T.abs.set dir { nd.abs with ents := HL.rm name nd.abs.ents } = T12.abs := (abs_set T dir { nd with ents := HL.rm name nd.ents }).symm
    rw [h5, abs_get, hn1]
    rfl
  have s13 : Sep σ B σ13 B := by
    intro b o hb hn
    have hn' : ¬ T.own bt b := fun h => hn ((hB b).1 h)
    have q1 : b ≠ ed := by intro e; subst e; exact ((hT.ne hn').2.2 dir nd hnd).2 hed
    have q2 : b ≠ n1.blk := by rw [a1]; exact ((hT.ne hn').2.2 j n0 hn0).1
    exact ⟨p13.get q2 (p12.get q1 (hgr.gr.get hb)), hn⟩
  have hj' : (T.abs.find dir name).getD 0 = j := by rw [abs_find, hj]; rfl
  have hg2 : (T12.set j n2).abs.get j = some n2.abs := by rw [abs_get, get_set_self]; rfl
  have n4b : b4 ≠ n1.blk := by
    intro e; rw [e, cF] at k4'; simp at k4'
  have ntb : bt ≠ n1.blk := (hT12.blk_bt hn1).symm
  refine ptr_i ?_
  refine rd_I (rdC_of p13.same (by rfl)) ?_
  by_cases hl : wr (n1.links - 1) = 0
  case neg =>
    refine br_f (by simpa [wr] using hl) ?_
    refine hK σ13 B ⟨_, hT13, hO13, ?_, o13⟩ s13
    unfold AT.unlinked
    simp only [hj']
    rw [← habs, hg2]
    have : (n2.abs.links == 0) = false := by show ((wr (n1.links - 1)) == 0) = false; simpa using hl
    simp only [this]; rfl
  refine br_t (by simpa [wr] using hl) ?_
  have k4'' := p13.get n4b k4'
  have hc13 := hT13.cells
  unfold Tb.cells at hc13
  (repeat (first | refine ptr_i ?_ | refine rdT_of (by repeat (first | assumption | refine gG ‹_› ?_ | exact pE ‹_› | refine pG ‹_› (by first | assumption | exact Ne.symm ‹_› | exact ne_fr ‹_› (by repeat (first | exact io ‹_› | exact mS ‹_› | refine gS ‹_› ?_ | refine pS ‹_› ?_)) | exact Ne.symm (ne_fr ‹_› (by repeat (first | exact io ‹_› | exact mS ‹_› | refine gS ‹_› ?_ | refine pS ‹_› ?_)))) ?_)) (by rfl) ?_ | (refine al_i ?_; intro _ _ _ _ _) | refine and_i (rdC_of (by repeat (first | assumption | refine gG ‹_› ?_ | exact pE ‹_› | refine pG ‹_› (by first | assumption | exact Ne.symm ‹_› | exact ne_fr ‹_› (by repeat (first | exact io ‹_› | exact mS ‹_› | refine gS ‹_› ?_ | refine pS ‹_› ?_)) | exact Ne.symm (ne_fr ‹_› (by repeat (first | exact io ‹_› | exact mS ‹_› | refine gS ‹_› ?_ | refine pS ‹_› ?_)))) ?_)) (by rfl)) ?_ | refine rdA_i (by repeat (first | assumption | refine gG ‹_› ?_ | exact pE ‹_› | refine pG ‹_› (by first | assumption | exact Ne.symm ‹_› | exact ne_fr ‹_› (by repeat (first | exact io ‹_› | exact mS ‹_› | refine gS ‹_› ?_ | refine pS ‹_› ?_)) | exact Ne.symm (ne_fr ‹_› (by repeat (first | exact io ‹_› | exact mS ‹_› | refine gS ‹_› ?_ | refine pS ‹_› ?_)))) ?_)) (by rfl) ?_ | (refine st_i2 (by repeat (first | assumption | refine gG ‹_› ?_ | exact pE ‹_› | refine pG ‹_› (by first | assumption | exact Ne.symm ‹_› | exact ne_fr ‹_› (by repeat (first | exact io ‹_› | exact mS ‹_› | refine gS ‹_› ?_ | refine pS ‹_› ?_)) | exact Ne.symm (ne_fr ‹_› (by repeat (first | exact io ‹_› | exact mS ‹_› | refine gS ‹_› ?_ | refine pS ‹_› ?_)))) ?_)) (by first | exact sz_int | exact sz_string | exact sz_bool | exact sz_Inode | exact sz_Quota | exact sz_MSI | exact sz_place | exact sz_Errno) (by rfl) (by rfl) ?_; intro _ _) | refine app_P ?_ | refine app_I ?_ | refine app_S ?_ | refine app_B ?_ | refine app_M ?_ | refine app_L ?_ | refine app_U ?_ | refine app_R ?_ | (refine app_of rfl ?_; try dsimp only)))
  have m13 := hT13.nodes
  refine del_i (kk := kkI) (f := Nd.ptr) und_MIN und_int m13 j ?_
  intro o14 σ14 p14 m14
  have hk13 : (keysL (T12.set j n2).nodes).Nodup := nodup_up (nodup_up (by rw [keys_abs] at hk; exact hk))
  have hT14 := hT13.putD hO13 hk13 p14 m14
  have hO14 := hO13.del hk13 j
  have n4m : b4 ≠ (T12.set j n2).mb := ne_cm k4'' m13
  have ntm : bt ≠ (T12.set j n2).mb := hT13.bt_mb
  have nbm : n1.blk ≠ (T12.set j n2).mb := ne_cm p13.same m13
  have k4' := p14.get n4m k4''
  have hc14 := hT14.cells
  unfold Tb.cells at hc14
  have cF' := p14.get nbm p13.same
  have n4t : b4 ≠ bt := by first | assumption | exact Ne.symm ‹_› | exact ne_fr ‹_› (by repeat (first | exact io ‹_› | exact mS ‹_› | refine gS ‹_› ?_ | refine pS ‹_› ?_)) | exact Ne.symm (ne_fr ‹_› (by repeat (first | exact io ‹_› | exact mS ‹_› | refine gS ‹_› ?_ | refine pS ‹_› ?_)))
  (repeat (first | refine ptr_i ?_ | refine rdT_of (by repeat (first | assumption | refine gG ‹_› ?_ | exact pE ‹_› | refine pG ‹_› (by first | assumption | exact Ne.symm ‹_› | exact ne_fr ‹_› (by repeat (first | exact io ‹_› | exact mS ‹_› | refine gS ‹_› ?_ | refine pS ‹_› ?_)) | exact Ne.symm (ne_fr ‹_› (by repeat (first | exact io ‹_› | exact mS ‹_› | refine gS ‹_› ?_ | refine pS ‹_› ?_)))) ?_)) (by rfl) ?_ | (refine al_i ?_; intro _ _ _ _ _) | refine and_i (rdC_of (by repeat (first | assumption | refine gG ‹_› ?_ | exact pE ‹_› | refine pG ‹_› (by first | assumption | exact Ne.symm ‹_› | exact ne_fr ‹_› (by repeat (first | exact io ‹_› | exact mS ‹_› | refine gS ‹_› ?_ | refine pS ‹_› ?_)) | exact Ne.symm (ne_fr ‹_› (by repeat (first | exact io ‹_› | exact mS ‹_› | refine gS ‹_› ?_ | refine pS ‹_› ?_)))) ?_)) (by rfl)) ?_ | refine rdA_i (by repeat (first | assumption | refine gG ‹_› ?_ | exact pE ‹_› | refine pG ‹_› (by first | assumption | exact Ne.symm ‹_› | exact ne_fr ‹_› (by repeat (first | exact io ‹_› | exact mS ‹_› | refine gS ‹_› ?_ | refine pS ‹_› ?_)) | exact Ne.symm (ne_fr ‹_› (by repeat (first | exact io ‹_› | exact mS ‹_› | refine gS ‹_› ?_ | refine pS ‹_› ?_)))) ?_)) (by rfl) ?_ | (refine st_i2 (by repeat (first | assumption | refine gG ‹_› ?_ | exact pE ‹_› | refine pG ‹_› (by first | assumption | exact Ne.symm ‹_› | exact ne_fr ‹_› (by repeat (first | exact io ‹_› | exact mS ‹_› | refine gS ‹_› ?_ | refine pS ‹_› ?_)) | exact Ne.symm (ne_fr ‹_› (by repeat (first | exact io ‹_› | exact mS ‹_› | refine gS ‹_› ?_ | refine pS ‹_› ?_)))) ?_)) (by first | exact sz_int | exact sz_string | exact sz_bool | exact sz_Inode | exact sz_Quota | exact sz_MSI | exact sz_place | exact sz_Errno) (by rfl) (by rfl) ?_; intro _ _) | refine app_P ?_ | refine app_I ?_ | refine app_S ?_ | refine app_B ?_ | refine app_M ?_ | refine app_L ?_ | refine app_U ?_ | refine app_R ?_ | (refine app_of rfl ?_; try dsimp only)))
  rename_i σ15 p15 σ16 p16
  have hT15 := hT14.putT (T' := { (T12.set j n2).del j with ui := wr (T.ui - 1) }) p15 rfl rfl
  have hT16 := hT15.putT (T' := { (T12.set j n2).del j with ui := wr (T.ui - 1), ub := wr (T.ub - n1.data.size) }) p16 rfl rfl
  refine hK σ16 (Tb.own bt { (T12.set j n2).del j with ui := wr (T.ui - 1), ub := wr (T.ub - n1.data.size) }) ⟨_, hT16, hO14.same rfl rfl, ?_, fun _ => Iff.rfl⟩ ?_
  · unfold AT.unlinked
    simp only [hj']
    rw [← habs, hg2]
    have : (n2.abs.links == 0) = true := by show ((wr (n1.links - 1)) == 0) = true; simpa using hl
    simp only [this]
    have h5 := abs_del (T12.set j n2) j
    show ({ ((T12.set j n2).del j).abs with ui := wr (T.ui - 1), ub := wr (T.ub - n1.data.size) } : AT) = _
    rw [h5]; rfl
  · intro b o hb hn
    have hn' : ¬ T.own bt b := fun h => hn ((hB b).1 h)
    refine ⟨p16.get (hT.ne hn').1 (p15.get (hT.ne hn').1 (p14.get (hT.ne hn').2.1 (s13 b o hb hn).1)), ?_⟩
    intro h
    have h1 := (own_same (T := (T12.set j n2).del j) rfl rfl b).1 h
    exact hn ((o13 b).1 (own_del hk13 h1))
end Go.Proofs.YtlpcehbfoogejaaGreatDoor

/- THE TABLE OF INODES: Move, New. -/
set_option maxRecDepth 100000
namespace Go.Proofs.YtlpcehbfoogejaaGreatDoor
open Go Go.HL Go.Wk
attribute [local irreducible] ptrW ifW brW andW rdT alW letJ stW muW biW vaW imW callT cvalT app callW invW callVW sizeT oW nilF oneK loopW rfW funW begW roundK exW idxW Gr Put
theorem s_Move1 {σ : H} {bt : Nat} {T : Tb} (hT : TAt σ bt T) {b1 b2 b3 : Nat} {to ino : Int} {t1 t2 t3 : TypeId} (h1 : σ b1 = some (.cells ⟨[.int .i64 to]⟩ t1 (0, 0))) (h2 : σ b2 = some (.cells ⟨[.pointer (some ⟨bt, 0, none⟩)]⟩ t2 (0, 0))) (h3 : σ b3 = some (.cells ⟨[.int .i64 ino]⟩ t3 (0, 0))) {f : Nat} {r : Bool} (hr : T.abs.apart ino f to = some r) {K : Value → H → Prop}
    (hK : K (.int .i64 (if r then 0 else 2)) σ) : callW Tryz.prog 134 [.pointer (some ⟨b1, 0, none⟩), .pointer (some ⟨b2, 0, none⟩), .pointer (some ⟨b3, 0, none⟩)] K σ := by
  refine c134 _ _ _ ?_
  unfold g134
  have hc := hT.cells
  unfold Tb.cells at hc
  (repeat (first | refine ptr_i ?_ | refine rdT_of (by repeat (first | assumption | refine gG ‹_› ?_ | exact pE ‹_› | refine pG ‹_› (by first | assumption | exact Ne.symm ‹_› | exact ne_fr ‹_› (by repeat (first | exact io ‹_› | exact mS ‹_› | refine gS ‹_› ?_ | refine pS ‹_› ?_)) | exact Ne.symm (ne_fr ‹_› (by repeat (first | exact io ‹_› | exact mS ‹_› | refine gS ‹_› ?_ | refine pS ‹_› ?_)))) ?_)) (by rfl) ?_ | (refine al_i ?_; intro _ _ _ _ _) | refine and_i (rdC_of (by repeat (first | assumption | refine gG ‹_› ?_ | exact pE ‹_› | refine pG ‹_› (by first | assumption | exact Ne.symm ‹_› | exact ne_fr ‹_› (by repeat (first | exact io ‹_› | exact mS ‹_› | refine gS ‹_› ?_ | refine pS ‹_› ?_)) | exact Ne.symm (ne_fr ‹_› (by repeat (first | exact io ‹_› | exact mS ‹_› | refine gS ‹_› ?_ | refine pS ‹_› ?_)))) ?_)) (by rfl)) ?_ | refine rdA_i (by repeat (first | assumption | refine gG ‹_› ?_ | exact pE ‹_› | refine pG ‹_› (by first | assumption | exact Ne.symm ‹_› | exact ne_fr ‹_› (by repeat (first | exact io ‹_› | exact mS ‹_› | refine gS ‹_› ?_ | refine pS ‹_› ?_)) | exact Ne.symm (ne_fr ‹_› (by repeat (first | exact io ‹_› | exact mS ‹_› | refine gS ‹_› ?_ | refine pS ‹_› ?_)))) ?_)) (by rfl) ?_ | (refine st_i2 (by repeat (first | assumption | refine gG ‹_› ?_ | exact pE ‹_› | refine pG ‹_› (by first | assumption | exact Ne.symm ‹_› | exact ne_fr ‹_› (by repeat (first | exact io ‹_› | exact mS ‹_› | refine gS ‹_› ?_ | refine pS ‹_› ?_)) | exact Ne.symm (ne_fr ‹_› (by repeat (first | exact io ‹_› | exact mS ‹_› | refine gS ‹_› ?_ | refine pS ‹_› ?_)))) ?_)) (by first | exact sz_int | exact sz_string | exact sz_bool | exact sz_Inode | exact sz_Quota | exact sz_MSI | exact sz_place | exact sz_Errno) (by rfl) (by rfl) ?_; intro _ _) | refine app_P ?_ | refine app_I ?_ | refine app_S ?_ | refine app_B ?_ | refine app_M ?_ | refine app_L ?_ | refine app_U ?_ | refine app_R ?_ | (refine app_of rfl ?_; try dsimp only)))
  refine loop_i ?_
  intro R hR
  have key : ∀ f at_, T.abs.apart ino f at_ = some r → R (some ⟨b2, 0, none⟩) (some ⟨b3, 0, none⟩) at_ σ := by
    intro f
    induction f with
    | zero => intro at_ h; cases h
    | succ f ih =>
      intro at_ h
      refine hR _ _ _ _ ?_
      unfold AT.apart at h
      by_cases ha : at_ = 1
      · rw [if_pos ha] at h; cases h
        exact br_f (by simp [ha]) hK
      rw [if_neg ha] at h
      refine br_t (by simpa using ha) ?_
      (repeat (first | refine ptr_i ?_ | refine rdT_of (by repeat (first | assumption | refine gG ‹_› ?_ | exact pE ‹_› | refine pG ‹_› (by first | assumption | exact Ne.symm ‹_› | exact ne_fr ‹_› (by repeat (first | exact io ‹_› | exact mS ‹_› | refine gS ‹_› ?_ | refine pS ‹_› ?_)) | exact Ne.symm (ne_fr ‹_› (by repeat (first | exact io ‹_› | exact mS ‹_› | refine gS ‹_› ?_ | refine pS ‹_› ?_)))) ?_)) (by rfl) ?_ | (refine al_i ?_; intro _ _ _ _ _) | refine and_i (rdC_of (by repeat (first | assumption | refine gG ‹_› ?_ | exact pE ‹_› | refine pG ‹_› (by first | assumption | exact Ne.symm ‹_› | exact ne_fr ‹_› (by repeat (first | exact io ‹_› | exact mS ‹_› | refine gS ‹_› ?_ | refine pS ‹_› ?_)) | exact Ne.symm (ne_fr ‹_› (by repeat (first | exact io ‹_› | exact mS ‹_› | refine gS ‹_› ?_ | refine pS ‹_› ?_)))) ?_)) (by rfl)) ?_ | refine rdA_i (by repeat (first | assumption | refine gG ‹_› ?_ | exact pE ‹_› | refine pG ‹_› (by first | assumption | exact Ne.symm ‹_› | exact ne_fr ‹_› (by repeat (first | exact io ‹_› | exact mS ‹_› | refine gS ‹_› ?_ | refine pS ‹_› ?_)) | exact Ne.symm (ne_fr ‹_› (by repeat (first | exact io ‹_› | exact mS ‹_› | refine gS ‹_› ?_ | refine pS ‹_› ?_)))) ?_)) (by rfl) ?_ | (refine st_i2 (by repeat (first | assumption | refine gG ‹_› ?_ | exact pE ‹_› | refine pG ‹_› (by first | assumption | exact Ne.symm ‹_› | exact ne_fr ‹_› (by repeat (first | exact io ‹_› | exact mS ‹_› | refine gS ‹_› ?_ | refine pS ‹_› ?_)) | exact Ne.symm (ne_fr ‹_› (by repeat (first | exact io ‹_› | exact mS ‹_› | refine gS ‹_› ?_ | refine pS ‹_› ?_)))) ?_)) (by first | exact sz_int | exact sz_string | exact sz_bool | exact sz_Inode | exact sz_Quota | exact sz_MSI | exact sz_place | exact sz_Errno) (by rfl) (by rfl) ?_; intro _ _) | refine app_P ?_ | refine app_I ?_ | refine app_S ?_ | refine app_B ?_ | refine app_M ?_ | refine app_L ?_ | refine app_U ?_ | refine app_R ?_ | (refine app_of rfl ?_; try dsimp only)))
      by_cases hi : at_ = ino
      · rw [if_pos hi] at h; cases h
        exact br_t (by simpa using hi) hK
      rw [if_neg hi] at h
      refine br_f (by simpa using hi) ?_
      (repeat (first | refine ptr_i ?_ | refine rdT_of (by repeat (first | assumption | refine gG ‹_› ?_ | exact pE ‹_› | refine pG ‹_› (by first | assumption | exact Ne.symm ‹_› | exact ne_fr ‹_› (by repeat (first | exact io ‹_› | exact mS ‹_› | refine gS ‹_› ?_ | refine pS ‹_› ?_)) | exact Ne.symm (ne_fr ‹_› (by repeat (first | exact io ‹_› | exact mS ‹_› | refine gS ‹_› ?_ | refine pS ‹_› ?_)))) ?_)) (by rfl) ?_ | (refine al_i ?_; intro _ _ _ _ _) | refine and_i (rdC_of (by repeat (first | assumption | refine gG ‹_› ?_ | exact pE ‹_› | refine pG ‹_› (by first | assumption | exact Ne.symm ‹_› | exact ne_fr ‹_› (by repeat (first | exact io ‹_› | exact mS ‹_› | refine gS ‹_› ?_ | refine pS ‹_› ?_)) | exact Ne.symm (ne_fr ‹_› (by repeat (first | exact io ‹_› | exact mS ‹_› | refine gS ‹_› ?_ | refine pS ‹_› ?_)))) ?_)) (by rfl)) ?_ | refine rdA_i (by repeat (first | assumption | refine gG ‹_› ?_ | exact pE ‹_› | refine pG ‹_› (by first | assumption | exact Ne.symm ‹_› | exact ne_fr ‹_› (by repeat (first | exact io ‹_› | exact mS ‹_› | refine gS ‹_› ?_ | refine pS ‹_› ?_)) | exact Ne.symm (ne_fr ‹_› (by repeat (first | exact io ‹_› | exact mS ‹_› | refine gS ‹_› ?_ | refine pS ‹_› ?_)))) ?_)) (by rfl) ?_ | (refine st_i2 (by repeat (first | assumption | refine gG ‹_› ?_ | exact pE ‹_› | refine pG ‹_› (by first | assumption | exact Ne.symm ‹_› | exact ne_fr ‹_› (by repeat (first | exact io ‹_› | exact mS ‹_› | refine gS ‹_› ?_ | refine pS ‹_› ?_)) | exact Ne.symm (ne_fr ‹_› (by repeat (first | exact io ‹_› | exact mS ‹_› | refine gS ‹_› ?_ | refine pS ‹_› ?_)))) ?_)) (by first | exact sz_int | exact sz_string | exact sz_bool | exact sz_Inode | exact sz_Quota | exact sz_MSI | exact sz_place | exact sz_Errno) (by rfl) (by rfl) ?_; intro _ _) | refine app_P ?_ | refine app_I ?_ | refine app_S ?_ | refine app_B ?_ | refine app_M ?_ | refine app_L ?_ | refine app_U ?_ | refine app_R ?_ | (refine app_of rfl ?_; try dsimp only)))
      rw [abs_get] at h
      cases hn : T.get at_ with
      | none => rw [hn] at h; cases h
      | some n =>
        rw [hn] at h
        refine rdN hT hn ?_
        have cN := (hT.get hn).cells
        unfold Nd.cells at cN
        (repeat (first | refine ptr_i ?_ | refine rdT_of (by repeat (first | assumption | refine gG ‹_› ?_ | exact pE ‹_› | refine pG ‹_› (by first | assumption | exact Ne.symm ‹_› | exact ne_fr ‹_› (by repeat (first | exact io ‹_› | exact mS ‹_› | refine gS ‹_› ?_ | refine pS ‹_› ?_)) | exact Ne.symm (ne_fr ‹_› (by repeat (first | exact io ‹_› | exact mS ‹_› | refine gS ‹_› ?_ | refine pS ‹_› ?_)))) ?_)) (by rfl) ?_ | (refine al_i ?_; intro _ _ _ _ _) | refine and_i (rdC_of (by repeat (first | assumption | refine gG ‹_› ?_ | exact pE ‹_› | refine pG ‹_› (by first | assumption | exact Ne.symm ‹_› | exact ne_fr ‹_› (by repeat (first | exact io ‹_› | exact mS ‹_› | refine gS ‹_› ?_ | refine pS ‹_› ?_)) | exact Ne.symm (ne_fr ‹_› (by repeat (first | exact io ‹_› | exact mS ‹_› | refine gS ‹_› ?_ | refine pS ‹_› ?_)))) ?_)) (by rfl)) ?_ | refine rdA_i (by repeat (first | assumption | refine gG ‹_› ?_ | exact pE ‹_› | refine pG ‹_› (by first | assumption | exact Ne.symm ‹_› | exact ne_fr ‹_› (by repeat (first | exact io ‹_› | exact mS ‹_› | refine gS ‹_› ?_ | refine pS ‹_› ?_)) | exact Ne.symm (ne_fr ‹_› (by repeat (first | exact io ‹_› | exact mS ‹_› | refine gS ‹_› ?_ | refine pS ‹_› ?_)))) ?_)) (by rfl) ?_ | (refine st_i2 (by repeat (first | assumption | refine gG ‹_› ?_ | exact pE ‹_› | refine pG ‹_› (by first | assumption | exact Ne.symm ‹_› | exact ne_fr ‹_› (by repeat (first | exact io ‹_› | exact mS ‹_› | refine gS ‹_› ?_ | refine pS ‹_› ?_)) | exact Ne.symm (ne_fr ‹_› (by repeat (first | exact io ‹_› | exact mS ‹_› | refine gS ‹_› ?_ | refine pS ‹_› ?_)))) ?_)) (by first | exact sz_int | exact sz_string | exact sz_bool | exact sz_Inode | exact sz_Quota | exact sz_MSI | exact sz_place | exact sz_Errno) (by rfl) (by rfl) ?_; intro _ _) | refine app_P ?_ | refine app_I ?_ | refine app_S ?_ | refine app_B ?_ | refine app_M ?_ | refine app_L ?_ | refine app_U ?_ | refine app_R ?_ | (refine app_of rfl ?_; try dsimp only)))
        exact ih _ h
  exact key f to hr
/-- Move: what it answers, and what comes of it; fuel: how far up is gone -/
theorem s_Move (hC : CAny) {σ : H} {bt : Nat} {A : AT} {B : Nat → Prop} (hA : TabAt σ bt A B) (src : Int) (name : ByteArray) (to : Int) (as_ : ByteArray) (hd : ∀ j, A.find src name = some j → (A.get j).isSome = true) (f : Nat)
    (hf : A.moveE1 src name to as_ = 0 → (A.apart ((A.find src name).getD 0) f to).isSome = true) {K : Value → H → Prop}
    (hK : ∀ σ' B', TabAt σ' bt (AT.moveR A src name to as_ f).2 B' → Sep σ B σ' B' → K (.int .i64 (AT.moveR A src name to as_ f).1) σ') :
    callW Tryz.prog 81 [.pointer (some ⟨bt, 0, none⟩), .int .i64 src, .string name, .int .i64 to, .string as_] K σ := by
  obtain ⟨T, hT, hO, rfl, hB⟩ := hA
  have hc0 := hT.cells
  refine c81 _ _ _ _ _ ?_
  unfold g81
  refine al_i ?_; intro b6 σ1 g1 e1 n1
  refine al_i ?_; intro b7 σ2 g2 e2 n2
  (repeat (first | refine ptr_i ?_ | refine rdT_of (by repeat (first | assumption | refine gG ‹_› ?_ | exact pE ‹_› | refine pG ‹_› (by first | assumption | exact Ne.symm ‹_› | exact ne_fr ‹_› (by repeat (first | exact io ‹_› | exact mS ‹_› | refine gS ‹_› ?_ | refine pS ‹_› ?_)) | exact Ne.symm (ne_fr ‹_› (by repeat (first | exact io ‹_› | exact mS ‹_› | refine gS ‹_› ?_ | refine pS ‹_› ?_)))) ?_)) (by rfl) ?_ | (refine al_i ?_; intro _ _ _ _ _) | refine and_i (rdC_of (by repeat (first | assumption | refine gG ‹_› ?_ | exact pE ‹_› | refine pG ‹_› (by first | assumption | exact Ne.symm ‹_› | exact ne_fr ‹_› (by repeat (first | exact io ‹_› | exact mS ‹_› | refine gS ‹_› ?_ | refine pS ‹_› ?_)) | exact Ne.symm (ne_fr ‹_› (by repeat (first | exact io ‹_› | exact mS ‹_› | refine gS ‹_› ?_ | refine pS ‹_› ?_)))) ?_)) (by rfl)) ?_ | refine rdA_i (by repeat (first | assumption | refine gG ‹_› ?_ | exact pE ‹_› | refine pG ‹_› (by first | assumption | exact Ne.symm ‹_› | exact ne_fr ‹_› (by repeat (first | exact io ‹_› | exact mS ‹_› | refine gS ‹_› ?_ | refine pS ‹_› ?_)) | exact Ne.symm (ne_fr ‹_› (by repeat (first | exact io ‹_› | exact mS ‹_› | refine gS ‹_› ?_ | refine pS ‹_› ?_)))) ?_)) (by rfl) ?_ | (refine st_i2 (by repeat (first | assumption | refine gG ‹_› ?_ | exact pE ‹_› | refine pG ‹_› (by first | assumption | exact Ne.symm ‹_› | exact ne_fr ‹_› (by repeat (first | exact io ‹_› | exact mS ‹_› | refine gS ‹_› ?_ | refine pS ‹_› ?_)) | exact Ne.symm (ne_fr ‹_› (by repeat (first | exact io ‹_› | exact mS ‹_› | refine gS ‹_› ?_ | refine pS ‹_› ?_)))) ?_)) (by first | exact sz_int | exact sz_string | exact sz_bool | exact sz_Inode | exact sz_Quota | exact sz_MSI | exact sz_place | exact sz_Errno) (by rfl) (by rfl) ?_; intro _ _) | refine app_P ?_ | refine app_I ?_ | refine app_S ?_ | refine app_B ?_ | refine app_M ?_ | refine app_L ?_ | refine app_U ?_ | refine app_R ?_ | (refine app_of rfl ?_; try dsimp only)))
  refine call_i (s_dir _ _ ?_)
  intro c1 c2 σ5 g5 f1 f2
  refine app_R ?_
  (repeat (first | refine ptr_i ?_ | refine rdT_of (by repeat (first | assumption | refine gG ‹_› ?_ | exact pE ‹_› | refine pG ‹_› (by first | assumption | exact Ne.symm ‹_› | exact ne_fr ‹_› (by repeat (first | exact io ‹_› | exact mS ‹_› | refine gS ‹_› ?_ | refine pS ‹_› ?_)) | exact Ne.symm (ne_fr ‹_› (by repeat (first | exact io ‹_› | exact mS ‹_› | refine gS ‹_› ?_ | refine pS ‹_› ?_)))) ?_)) (by rfl) ?_ | (refine al_i ?_; intro _ _ _ _ _) | refine and_i (rdC_of (by repeat (first | assumption | refine gG ‹_› ?_ | exact pE ‹_› | refine pG ‹_› (by first | assumption | exact Ne.symm ‹_› | exact ne_fr ‹_› (by repeat (first | exact io ‹_› | exact mS ‹_› | refine gS ‹_› ?_ | refine pS ‹_› ?_)) | exact Ne.symm (ne_fr ‹_› (by repeat (first | exact io ‹_› | exact mS ‹_› | refine gS ‹_› ?_ | refine pS ‹_› ?_)))) ?_)) (by rfl)) ?_ | refine rdA_i (by repeat (first | assumption | refine gG ‹_› ?_ | exact pE ‹_› | refine pG ‹_› (by first | assumption | exact Ne.symm ‹_› | exact ne_fr ‹_› (by repeat (first | exact io ‹_› | exact mS ‹_› | refine gS ‹_› ?_ | refine pS ‹_› ?_)) | exact Ne.symm (ne_fr ‹_› (by repeat (first | exact io ‹_› | exact mS ‹_› | refine gS ‹_› ?_ | refine pS ‹_› ?_)))) ?_)) (by rfl) ?_ | (refine st_i2 (by repeat (first | assumption | refine gG ‹_› ?_ | exact pE ‹_› | refine pG ‹_› (by first | assumption | exact Ne.symm ‹_› | exact ne_fr ‹_› (by repeat (first | exact io ‹_› | exact mS ‹_› | refine gS ‹_› ?_ | refine pS ‹_› ?_)) | exact Ne.symm (ne_fr ‹_› (by repeat (first | exact io ‹_› | exact mS ‹_› | refine gS ‹_› ?_ | refine pS ‹_› ?_)))) ?_)) (by first | exact sz_int | exact sz_string | exact sz_bool | exact sz_Inode | exact sz_Quota | exact sz_MSI | exact sz_place | exact sz_Errno) (by rfl) (by rfl) ?_; intro _ _) | refine app_P ?_ | refine app_I ?_ | refine app_S ?_ | refine app_B ?_ | refine app_M ?_ | refine app_L ?_ | refine app_U ?_ | refine app_R ?_ | (refine app_of rfl ?_; try dsimp only)))
  refine call_i (s_dir _ _ ?_)
  intro d1 d2 σ6 g6 f3 f4
  refine app_R ?_
  (repeat (first | refine ptr_i ?_ | refine rdT_of (by repeat (first | assumption | refine gG ‹_› ?_ | exact pE ‹_› | refine pG ‹_› (by first | assumption | exact Ne.symm ‹_› | exact ne_fr ‹_› (by repeat (first | exact io ‹_› | exact mS ‹_› | refine gS ‹_› ?_ | refine pS ‹_› ?_)) | exact Ne.symm (ne_fr ‹_› (by repeat (first | exact io ‹_› | exact mS ‹_› | refine gS ‹_› ?_ | refine pS ‹_› ?_)))) ?_)) (by rfl) ?_ | (refine al_i ?_; intro _ _ _ _ _) | refine and_i (rdC_of (by repeat (first | assumption | refine gG ‹_› ?_ | exact pE ‹_› | refine pG ‹_› (by first | assumption | exact Ne.symm ‹_› | exact ne_fr ‹_› (by repeat (first | exact io ‹_› | exact mS ‹_› | refine gS ‹_› ?_ | refine pS ‹_› ?_)) | exact Ne.symm (ne_fr ‹_› (by repeat (first | exact io ‹_› | exact mS ‹_› | refine gS ‹_› ?_ | refine pS ‹_› ?_)))) ?_)) (by rfl)) ?_ | refine rdA_i (by repeat (first | assumption | refine gG ‹_› ?_ | exact pE ‹_› | refine pG ‹_› (by first | assumption | exact Ne.symm ‹_› | exact ne_fr ‹_› (by repeat (first | exact io ‹_› | exact mS ‹_› | refine gS ‹_› ?_ | refine pS ‹_› ?_)) | exact Ne.symm (ne_fr ‹_› (by repeat (first | exact io ‹_› | exact mS ‹_› | refine gS ‹_› ?_ | refine pS ‹_› ?_)))) ?_)) (by rfl) ?_ | (refine st_i2 (by repeat (first | assumption | refine gG ‹_› ?_ | exact pE ‹_› | refine pG ‹_› (by first | assumption | exact Ne.symm ‹_› | exact ne_fr ‹_› (by repeat (first | exact io ‹_› | exact mS ‹_› | refine gS ‹_› ?_ | refine pS ‹_› ?_)) | exact Ne.symm (ne_fr ‹_› (by repeat (first | exact io ‹_› | exact mS ‹_› | refine gS ‹_› ?_ | refine pS ‹_› ?_)))) ?_)) (by first | exact sz_int | exact sz_string | exact sz_bool | exact sz_Inode | exact sz_Quota | exact sz_MSI | exact sz_place | exact sz_Errno) (by rfl) (by rfl) ?_; intro _ _) | refine app_P ?_ | refine app_I ?_ | refine app_S ?_ | refine app_B ?_ | refine app_M ?_ | refine app_L ?_ | refine app_U ?_ | refine app_R ?_ | (refine app_of rfl ?_; try dsimp only)))
  refine call_i (s_named _ ?_)
  intro c3 σ7 g7 f5
  refine app_R ?_
  (repeat (first | refine ptr_i ?_ | refine rdT_of (by repeat (first | assumption | refine gG ‹_› ?_ | exact pE ‹_› | refine pG ‹_› (by first | assumption | exact Ne.symm ‹_› | exact ne_fr ‹_› (by repeat (first | exact io ‹_› | exact mS ‹_› | refine gS ‹_› ?_ | refine pS ‹_› ?_)) | exact Ne.symm (ne_fr ‹_› (by repeat (first | exact io ‹_› | exact mS ‹_› | refine gS ‹_› ?_ | refine pS ‹_› ?_)))) ?_)) (by rfl) ?_ | (refine al_i ?_; intro _ _ _ _ _) | refine and_i (rdC_of (by repeat (first | assumption | refine gG ‹_› ?_ | exact pE ‹_› | refine pG ‹_› (by first | assumption | exact Ne.symm ‹_› | exact ne_fr ‹_› (by repeat (first | exact io ‹_› | exact mS ‹_› | refine gS ‹_› ?_ | refine pS ‹_› ?_)) | exact Ne.symm (ne_fr ‹_› (by repeat (first | exact io ‹_› | exact mS ‹_› | refine gS ‹_› ?_ | refine pS ‹_› ?_)))) ?_)) (by rfl)) ?_ | refine rdA_i (by repeat (first | assumption | refine gG ‹_› ?_ | exact pE ‹_› | refine pG ‹_› (by first | assumption | exact Ne.symm ‹_› | exact ne_fr ‹_› (by repeat (first | exact io ‹_› | exact mS ‹_› | refine gS ‹_› ?_ | refine pS ‹_› ?_)) | exact Ne.symm (ne_fr ‹_› (by repeat (first | exact io ‹_› | exact mS ‹_› | refine gS ‹_› ?_ | refine pS ‹_› ?_)))) ?_)) (by rfl) ?_ | (refine st_i2 (by repeat (first | assumption | refine gG ‹_› ?_ | exact pE ‹_› | refine pG ‹_› (by first | assumption | exact Ne.symm ‹_› | exact ne_fr ‹_› (by repeat (first | exact io ‹_› | exact mS ‹_› | refine gS ‹_› ?_ | refine pS ‹_› ?_)) | exact Ne.symm (ne_fr ‹_› (by repeat (first | exact io ‹_› | exact mS ‹_› | refine gS ‹_› ?_ | refine pS ‹_› ?_)))) ?_)) (by first | exact sz_int | exact sz_string | exact sz_bool | exact sz_Inode | exact sz_Quota | exact sz_MSI | exact sz_place | exact sz_Errno) (by rfl) (by rfl) ?_; intro _ _) | refine app_P ?_ | refine app_I ?_ | refine app_S ?_ | refine app_B ?_ | refine app_M ?_ | refine app_L ?_ | refine app_U ?_ | refine app_R ?_ | (refine app_of rfl ?_; try dsimp only)))
  refine call_i (s_entry _ _ _ ?_)
  intro c4 c5 c6 σ7' g7' f6 f7 f8
  refine app_R ?_
  (repeat (first | refine ptr_i ?_ | refine rdT_of (by repeat (first | assumption | refine gG ‹_› ?_ | exact pE ‹_› | refine pG ‹_› (by first | assumption | exact Ne.symm ‹_› | exact ne_fr ‹_› (by repeat (first | exact io ‹_› | exact mS ‹_› | refine gS ‹_› ?_ | refine pS ‹_› ?_)) | exact Ne.symm (ne_fr ‹_› (by repeat (first | exact io ‹_› | exact mS ‹_› | refine gS ‹_› ?_ | refine pS ‹_› ?_)))) ?_)) (by rfl) ?_ | (refine al_i ?_; intro _ _ _ _ _) | refine and_i (rdC_of (by repeat (first | assumption | refine gG ‹_› ?_ | exact pE ‹_› | refine pG ‹_› (by first | assumption | exact Ne.symm ‹_› | exact ne_fr ‹_› (by repeat (first | exact io ‹_› | exact mS ‹_› | refine gS ‹_› ?_ | refine pS ‹_› ?_)) | exact Ne.symm (ne_fr ‹_› (by repeat (first | exact io ‹_› | exact mS ‹_› | refine gS ‹_› ?_ | refine pS ‹_› ?_)))) ?_)) (by rfl)) ?_ | refine rdA_i (by repeat (first | assumption | refine gG ‹_› ?_ | exact pE ‹_› | refine pG ‹_› (by first | assumption | exact Ne.symm ‹_› | exact ne_fr ‹_› (by repeat (first | exact io ‹_› | exact mS ‹_› | refine gS ‹_› ?_ | refine pS ‹_› ?_)) | exact Ne.symm (ne_fr ‹_› (by repeat (first | exact io ‹_› | exact mS ‹_› | refine gS ‹_› ?_ | refine pS ‹_› ?_)))) ?_)) (by rfl) ?_ | (refine st_i2 (by repeat (first | assumption | refine gG ‹_› ?_ | exact pE ‹_› | refine pG ‹_› (by first | assumption | exact Ne.symm ‹_› | exact ne_fr ‹_› (by repeat (first | exact io ‹_› | exact mS ‹_› | refine gS ‹_› ?_ | refine pS ‹_› ?_)) | exact Ne.symm (ne_fr ‹_› (by repeat (first | exact io ‹_› | exact mS ‹_› | refine gS ‹_› ?_ | refine pS ‹_› ?_)))) ?_)) (by first | exact sz_int | exact sz_string | exact sz_bool | exact sz_Inode | exact sz_Quota | exact sz_MSI | exact sz_place | exact sz_Errno) (by rfl) (by rfl) ?_; intro _ _) | refine app_P ?_ | refine app_I ?_ | refine app_S ?_ | refine app_B ?_ | refine app_M ?_ | refine app_L ?_ | refine app_U ?_ | refine app_R ?_ | (refine app_of rfl ?_; try dsimp only)))
  refine one_f (one_f (one_f (one_f ?_)))
  refine al_i ?_; intro b17 σ8 g8 e8 n8
  have hgr : Lng σ σ8 := ⟨by repeat (first | exact Gr.refl _ | assumption | refine Gr.trans ?_ ‹_› | refine Gr.putF ?_ ‹_› (none_of ?_ ‹_›))⟩
  have hT8 := hT.gr hgr.gr
  refine call_i (s_first (es := [0, T.dirE src, T.dirE to, namedE as_, if (T.find src name).isSome then 0 else 5]) e8 ?_ (by simp) (app_I ?_))
  · exact ⟨pu_of go_there fun K hk => s_there _ hk, fun _ => ⟨pu_of go_dir1 fun K hk => s_dir1 hT8 (by repeat (first | assumption | refine gG ‹_› ?_ | exact pE ‹_› | refine pG ‹_› (by first | assumption | exact Ne.symm ‹_› | exact ne_fr ‹_› (by repeat (first | exact io ‹_› | exact mS ‹_› | refine gS ‹_› ?_ | refine pS ‹_› ?_)) | exact Ne.symm (ne_fr ‹_› (by repeat (first | exact io ‹_› | exact mS ‹_› | refine gS ‹_› ?_ | refine pS ‹_› ?_)))) ?_)) (by repeat (first | assumption | refine gG ‹_› ?_ | exact pE ‹_› | refine pG ‹_› (by first | assumption | exact Ne.symm ‹_› | exact ne_fr ‹_› (by repeat (first | exact io ‹_› | exact mS ‹_› | refine gS ‹_› ?_ | refine pS ‹_› ?_)) | exact Ne.symm (ne_fr ‹_› (by repeat (first | exact io ‹_› | exact mS ‹_› | refine gS ‹_› ?_ | refine pS ‹_› ?_)))) ?_)) hk, fun _ => ⟨pu_of go_dir1 fun K hk => s_dir1 hT8 (by repeat (first | assumption | refine gG ‹_› ?_ | exact pE ‹_› | refine pG ‹_› (by first | assumption | exact Ne.symm ‹_› | exact ne_fr ‹_› (by repeat (first | exact io ‹_› | exact mS ‹_› | refine gS ‹_› ?_ | refine pS ‹_› ?_)) | exact Ne.symm (ne_fr ‹_› (by repeat (first | exact io ‹_› | exact mS ‹_› | refine gS ‹_› ?_ | refine pS ‹_› ?_)))) ?_)) (by repeat (first | assumption | refine gG ‹_› ?_ | exact pE ‹_› | refine pG ‹_› (by first | assumption | exact Ne.symm ‹_› | exact ne_fr ‹_› (by repeat (first | exact io ‹_› | exact mS ‹_› | refine gS ‹_› ?_ | refine pS ‹_› ?_)) | exact Ne.symm (ne_fr ‹_› (by repeat (first | exact io ‹_› | exact mS ‹_› | refine gS ‹_› ?_ | refine pS ‹_› ?_)))) ?_)) hk, fun _ => ⟨pu_of go_named1 fun K hk => s_named1 hC (by repeat (first | assumption | refine gG ‹_› ?_ | exact pE ‹_› | refine pG ‹_› (by first | assumption | exact Ne.symm ‹_› | exact ne_fr ‹_› (by repeat (first | exact io ‹_› | exact mS ‹_› | refine gS ‹_› ?_ | refine pS ‹_› ?_)) | exact Ne.symm (ne_fr ‹_› (by repeat (first | exact io ‹_› | exact mS ‹_› | refine gS ‹_› ?_ | refine pS ‹_› ?_)))) ?_)) hk, fun _ => ⟨pu_of go_entry1 fun K hk => s_entry1 hT8 (by repeat (first | assumption | refine gG ‹_› ?_ | exact pE ‹_› | refine pG ‹_› (by first | assumption | exact Ne.symm ‹_› | exact ne_fr ‹_› (by repeat (first | exact io ‹_› | exact mS ‹_› | refine gS ‹_› ?_ | refine pS ‹_› ?_)) | exact Ne.symm (ne_fr ‹_› (by repeat (first | exact io ‹_› | exact mS ‹_› | refine gS ‹_› ?_ | refine pS ‹_› ?_)))) ?_)) (by repeat (first | assumption | refine gG ‹_› ?_ | exact pE ‹_› | refine pG ‹_› (by first | assumption | exact Ne.symm ‹_› | exact ne_fr ‹_› (by repeat (first | exact io ‹_› | exact mS ‹_› | refine gS ‹_› ?_ | refine pS ‹_› ?_)) | exact Ne.symm (ne_fr ‹_› (by repeat (first | exact io ‹_› | exact mS ‹_› | refine gS ‹_› ?_ | refine pS ‹_› ?_)))) ?_)) (by repeat (first | assumption | refine gG ‹_› ?_ | exact pE ‹_› | refine pG ‹_› (by first | assumption | exact Ne.symm ‹_› | exact ne_fr ‹_› (by repeat (first | exact io ‹_› | exact mS ‹_› | refine gS ‹_› ?_ | refine pS ‹_› ?_)) | exact Ne.symm (ne_fr ‹_› (by repeat (first | exact io ‹_› | exact mS ‹_› | refine gS ‹_› ?_ | refine pS ‹_› ?_)))) ?_)) hk, fun _ => trivial⟩⟩⟩⟩⟩
  have hE : firstE [0, T.dirE src, T.dirE to, namedE as_, if (T.find src name).isSome then 0 else 5] = T.abs.moveE1 src name to as_ := by
    unfold AT.moveE1; rw [abs_dirE, abs_dirE, abs_find]
  rw [hE]
  have k6 : σ8 b6 = some (.cells ⟨[.pointer (some ⟨bt, 0, none⟩)]⟩ 80 (0, 0)) := by repeat (first | assumption | refine gG ‹_› ?_ | exact pE ‹_› | refine pG ‹_› (by first | assumption | exact Ne.symm ‹_› | exact ne_fr ‹_› (by repeat (first | exact io ‹_› | exact mS ‹_› | refine gS ‹_› ?_ | refine pS ‹_› ?_)) | exact Ne.symm (ne_fr ‹_› (by repeat (first | exact io ‹_› | exact mS ‹_› | refine gS ‹_› ?_ | refine pS ‹_› ?_)))) ?_)
  have k7 : σ8 b7 = some (.cells ⟨[.int .i64 to]⟩ 3 (0, 0)) := by repeat (first | assumption | refine gG ‹_› ?_ | exact pE ‹_› | refine pG ‹_› (by first | assumption | exact Ne.symm ‹_› | exact ne_fr ‹_› (by repeat (first | exact io ‹_› | exact mS ‹_› | refine gS ‹_› ?_ | refine pS ‹_› ?_)) | exact Ne.symm (ne_fr ‹_› (by repeat (first | exact io ‹_› | exact mS ‹_› | refine gS ‹_› ?_ | refine pS ‹_› ?_)))) ?_)
  refine j_i (fun j => ∀ x : Bool, (x = true ↔ (T.abs.moveE1 src name to as_ ≠ 0 ∨ (src = to ∧ name = as_))) → j src name as_ (some ⟨b6, 0, none⟩) (some ⟨b7, 0, none⟩) (T.abs.moveE1 src name to as_) x σ8) ?_ ?_
  case refine_2 =>
    intro j hj
    by_cases h0 : T.abs.moveE1 src name to as_ = 0
    · refine br_f (by simpa using h0) ?_
      refine rd_I (rdC_of k7 (by rfl)) ?_
      by_cases hs : src = to
      · refine br_t (by simpa using hs) (hj _ ?_)
        rw [strEq_iff]; exact ⟨fun h => .inr ⟨hs, h⟩, fun h => h.elim (fun h => absurd h0 h) (·.2)⟩
      · refine br_f (by simpa using hs) (hj _ ?_)
        simp [h0, hs]
    · refine br_t (by simpa using h0) (hj _ (by simp [h0]))
  intro x hx
  unfold AT.moveR at hK
  by_cases hq : T.abs.moveE1 src name to as_ ≠ 0 ∨ (src = to ∧ name = as_)
  · rw [if_pos hq] at hK
    exact br_t (hx.2 hq) (hK σ8 B ⟨T, hT8, hO, rfl, hB⟩ (Sep.gr hgr.gr))
  rw [if_neg hq] at hK
  refine br_f (by cases x with | false => rfl | true => exact absurd (hx.1 rfl) hq) ?_
  have h0 : T.abs.moveE1 src name to as_ = 0 := Classical.byContradiction fun h => hq (.inl h)
  have hst : ¬ (src = to ∧ name = as_) := fun h => hq (.inr h)
  have hap := hf h0
  rw [← hE] at h0
  obtain ⟨ns, hns, hks⟩ := dirE_z (firstE_z (firstE_z h0).2).1
  obtain ⟨nt, hnt, hkt⟩ := dirE_z (firstE_z (firstE_z (firstE_z h0).2).2).1
  have hz := (firstE_z (firstE_z (firstE_z (firstE_z (firstE_z h0).2).2).2).2).1
  cases hj : T.find src name with
  | none => rw [hj] at hz; cases hz
  | some j =>
  have hj' : (T.abs.find src name).getD 0 = j := by rw [abs_find, hj]; rfl
  rw [hj'] at hap hK
  obtain ⟨r, hr⟩ := Option.isSome_iff_exists.1 hap
  rw [hr] at hK
  have hgj := hd j (by rw [abs_find]; exact hj)
  rw [abs_get] at hgj
  cases hnj : T.get j with
  | none => rw [hnj] at hgj; cases hgj
  | some nj =>
  (repeat (first | refine ptr_i ?_ | refine rdT_of (by repeat (first | assumption | refine gG ‹_› ?_ | exact pE ‹_› | refine pG ‹_› (by first | assumption | exact Ne.symm ‹_› | exact ne_fr ‹_› (by repeat (first | exact io ‹_› | exact mS ‹_› | refine gS ‹_› ?_ | refine pS ‹_› ?_)) | exact Ne.symm (ne_fr ‹_› (by repeat (first | exact io ‹_› | exact mS ‹_› | refine gS ‹_› ?_ | refine pS ‹_› ?_)))) ?_)) (by rfl) ?_ | (refine al_i ?_; intro _ _ _ _ _) | refine and_i (rdC_of (by repeat (first | assumption | refine gG ‹_› ?_ | exact pE ‹_› | refine pG ‹_› (by first | assumption | exact Ne.symm ‹_› | exact ne_fr ‹_› (by repeat (first | exact io ‹_› | exact mS ‹_› | refine gS ‹_› ?_ | refine pS ‹_› ?_)) | exact Ne.symm (ne_fr ‹_› (by repeat (first | exact io ‹_› | exact mS ‹_› | refine gS ‹_› ?_ | refine pS ‹_› ?_)))) ?_)) (by rfl)) ?_ | refine rdA_i (by repeat (first | assumption | refine gG ‹_› ?_ | exact pE ‹_› | refine pG ‹_› (by first | assumption | exact Ne.symm ‹_› | exact ne_fr ‹_› (by repeat (first | exact io ‹_› | exact mS ‹_› | refine gS ‹_› ?_ | refine pS ‹_› ?_)) | exact Ne.symm (ne_fr ‹_› (by repeat (first | exact io ‹_› | exact mS ‹_› | refine gS ‹_› ?_ | refine pS ‹_› ?_)))) ?_)) (by rfl) ?_ | (refine st_i2 (by repeat (first | assumption | refine gG ‹_› ?_ | exact pE ‹_› | refine pG ‹_› (by first | assumption | exact Ne.symm ‹_› | exact ne_fr ‹_› (by repeat (first | exact io ‹_› | exact mS ‹_› | refine gS ‹_› ?_ | refine pS ‹_› ?_)) | exact Ne.symm (ne_fr ‹_› (by repeat (first | exact io ‹_› | exact mS ‹_› | refine gS ‹_› ?_ | refine pS ‹_› ?_)))) ?_)) (by first | exact sz_int | exact sz_string | exact sz_bool | exact sz_Inode | exact sz_Quota | exact sz_MSI | exact sz_place | exact sz_Errno) (by rfl) (by rfl) ?_; intro _ _) | refine app_P ?_ | refine app_I ?_ | refine app_S ?_ | refine app_B ?_ | refine app_M ?_ | refine app_L ?_ | refine app_U ?_ | refine app_R ?_ | (refine app_of rfl ?_; try dsimp only)))
  refine call_i (s_Find hT8 src name (app_IB ?_))
  rw [hj]
  simp only [Option.getD_some]
  refine al_i ?_; intro b32 σ9 g9 e9 n9
  refine st_i2 e9 sz_int (by rfl) (by rfl) ?_
  intro σ10 p10
  have e10 := p10.same
  have g10 : Gr σ8 σ10 := g9.putF p10 n9
  clear p10 e9 g9
  have hT10 := hT8.gr g10
  (repeat (first | refine ptr_i ?_ | refine rdT_of (by repeat (first | assumption | refine gG ‹_› ?_ | exact pE ‹_› | refine pG ‹_› (by first | assumption | exact Ne.symm ‹_› | exact ne_fr ‹_› (by repeat (first | exact io ‹_› | exact mS ‹_› | refine gS ‹_› ?_ | refine pS ‹_› ?_)) | exact Ne.symm (ne_fr ‹_› (by repeat (first | exact io ‹_› | exact mS ‹_› | refine gS ‹_› ?_ | refine pS ‹_› ?_)))) ?_)) (by rfl) ?_ | (refine al_i ?_; intro _ _ _ _ _) | refine and_i (rdC_of (by repeat (first | assumption | refine gG ‹_› ?_ | exact pE ‹_› | refine pG ‹_› (by first | assumption | exact Ne.symm ‹_› | exact ne_fr ‹_› (by repeat (first | exact io ‹_› | exact mS ‹_› | refine gS ‹_› ?_ | refine pS ‹_› ?_)) | exact Ne.symm (ne_fr ‹_› (by repeat (first | exact io ‹_› | exact mS ‹_› | refine gS ‹_› ?_ | refine pS ‹_› ?_)))) ?_)) (by rfl)) ?_ | refine rdA_i (by repeat (first | assumption | refine gG ‹_› ?_ | exact pE ‹_› | refine pG ‹_› (by first | assumption | exact Ne.symm ‹_› | exact ne_fr ‹_› (by repeat (first | exact io ‹_› | exact mS ‹_› | refine gS ‹_› ?_ | refine pS ‹_› ?_)) | exact Ne.symm (ne_fr ‹_› (by repeat (first | exact io ‹_› | exact mS ‹_› | refine gS ‹_› ?_ | refine pS ‹_› ?_)))) ?_)) (by rfl) ?_ | (refine st_i2 (by repeat (first | assumption | refine gG ‹_› ?_ | exact pE ‹_› | refine pG ‹_› (by first | assumption | exact Ne.symm ‹_› | exact ne_fr ‹_› (by repeat (first | exact io ‹_› | exact mS ‹_› | refine gS ‹_› ?_ | refine pS ‹_› ?_)) | exact Ne.symm (ne_fr ‹_› (by repeat (first | exact io ‹_› | exact mS ‹_› | refine gS ‹_› ?_ | refine pS ‹_› ?_)))) ?_)) (by first | exact sz_int | exact sz_string | exact sz_bool | exact sz_Inode | exact sz_Quota | exact sz_MSI | exact sz_place | exact sz_Errno) (by rfl) (by rfl) ?_; intro _ _) | refine app_P ?_ | refine app_I ?_ | refine app_S ?_ | refine app_B ?_ | refine app_M ?_ | refine app_L ?_ | refine app_U ?_ | refine app_R ?_ | (refine app_of rfl ?_; try dsimp only)))
  refine call_i (s_free _ _ _ ?_)
  intro h1 h2 h3 σ11 g11 e11 e12 e13
  refine app_R ?_
  refine one_f ?_
  refine al_i ?_; intro b40 σ12 g12 e14 n12
  have hT12 := (hT10.gr g11).gr g12
  have hgr' : Lng σ σ12 := ⟨((hgr.gr.trans g10).trans g11).trans g12⟩
  refine call_i (s_first (es := [if (T.find to as_).isSome then 6 else 0, if r then 0 else 2]) e14 ?_ (by simp) (app_I ?_))
  · exact ⟨pu_of go_free1 fun K hk => s_free1 hT12 (by repeat (first | assumption | refine gG ‹_› ?_ | exact pE ‹_› | refine pG ‹_› (by first | assumption | exact Ne.symm ‹_› | exact ne_fr ‹_› (by repeat (first | exact io ‹_› | exact mS ‹_› | refine gS ‹_› ?_ | refine pS ‹_› ?_)) | exact Ne.symm (ne_fr ‹_› (by repeat (first | exact io ‹_› | exact mS ‹_› | refine gS ‹_› ?_ | refine pS ‹_› ?_)))) ?_)) (by repeat (first | assumption | refine gG ‹_› ?_ | exact pE ‹_› | refine pG ‹_› (by first | assumption | exact Ne.symm ‹_› | exact ne_fr ‹_› (by repeat (first | exact io ‹_› | exact mS ‹_› | refine gS ‹_› ?_ | refine pS ‹_› ?_)) | exact Ne.symm (ne_fr ‹_› (by repeat (first | exact io ‹_› | exact mS ‹_› | refine gS ‹_› ?_ | refine pS ‹_› ?_)))) ?_)) (by repeat (first | assumption | refine gG ‹_› ?_ | exact pE ‹_› | refine pG ‹_› (by first | assumption | exact Ne.symm ‹_› | exact ne_fr ‹_› (by repeat (first | exact io ‹_› | exact mS ‹_› | refine gS ‹_› ?_ | refine pS ‹_› ?_)) | exact Ne.symm (ne_fr ‹_› (by repeat (first | exact io ‹_› | exact mS ‹_› | refine gS ‹_› ?_ | refine pS ‹_› ?_)))) ?_)) hk, fun _ => ⟨pu_of go_Move1 fun K hk => s_Move1 hT12 (by repeat (first | assumption | refine gG ‹_› ?_ | exact pE ‹_› | refine pG ‹_› (by first | assumption | exact Ne.symm ‹_› | exact ne_fr ‹_› (by repeat (first | exact io ‹_› | exact mS ‹_› | refine gS ‹_› ?_ | refine pS ‹_› ?_)) | exact Ne.symm (ne_fr ‹_› (by repeat (first | exact io ‹_› | exact mS ‹_› | refine gS ‹_› ?_ | refine pS ‹_› ?_)))) ?_)) (by repeat (first | assumption | refine gG ‹_› ?_ | exact pE ‹_› | refine pG ‹_› (by first | assumption | exact Ne.symm ‹_› | exact ne_fr ‹_› (by repeat (first | exact io ‹_› | exact mS ‹_› | refine gS ‹_› ?_ | refine pS ‹_› ?_)) | exact Ne.symm (ne_fr ‹_› (by repeat (first | exact io ‹_› | exact mS ‹_› | refine gS ‹_› ?_ | refine pS ‹_› ?_)))) ?_)) (by repeat (first | assumption | refine gG ‹_› ?_ | exact pE ‹_› | refine pG ‹_› (by first | assumption | exact Ne.symm ‹_› | exact ne_fr ‹_› (by repeat (first | exact io ‹_› | exact mS ‹_› | refine gS ‹_› ?_ | refine pS ‹_› ?_)) | exact Ne.symm (ne_fr ‹_› (by repeat (first | exact io ‹_› | exact mS ‹_› | refine gS ‹_› ?_ | refine pS ‹_› ?_)))) ?_)) hr hk, fun _ => trivial⟩⟩
  simp only [abs_find, Option.getD_some] at hK
  by_cases hz2 : firstE [if (T.find to as_).isSome then 6 else 0, if r then 0 else 2] = 0
  case neg =>
    rw [if_pos hz2] at hK
    refine br_t (by simpa using hz2) ?_
    exact hK σ12 B ⟨T, hT12, hO, rfl, hB⟩ (Sep.gr hgr'.gr)
  rw [if_neg (by simpa using hz2)] at hK
  refine br_f (by simpa using hz2) ?_
  have k6 : σ12 b6 = some (.cells ⟨[.pointer (some ⟨bt, 0, none⟩)]⟩ 80 (0, 0)) := by repeat (first | assumption | refine gG ‹_› ?_ | exact pE ‹_› | refine pG ‹_› (by first | assumption | exact Ne.symm ‹_› | exact ne_fr ‹_› (by repeat (first | exact io ‹_› | exact mS ‹_› | refine gS ‹_› ?_ | refine pS ‹_› ?_)) | exact Ne.symm (ne_fr ‹_› (by repeat (first | exact io ‹_› | exact mS ‹_› | refine gS ‹_› ?_ | refine pS ‹_› ?_)))) ?_)
  have k7 : σ12 b7 = some (.cells ⟨[.int .i64 to]⟩ 3 (0, 0)) := by repeat (first | assumption | refine gG ‹_› ?_ | exact pE ‹_› | refine pG ‹_› (by first | assumption | exact Ne.symm ‹_› | exact ne_fr ‹_› (by repeat (first | exact io ‹_› | exact mS ‹_› | refine gS ‹_› ?_ | refine pS ‹_› ?_)) | exact Ne.symm (ne_fr ‹_› (by repeat (first | exact io ‹_› | exact mS ‹_› | refine gS ‹_› ?_ | refine pS ‹_› ?_)))) ?_)
  have k32 : σ12 b32 = some (.cells ⟨[.int .i64 j]⟩ 3 (0, 0)) := by repeat (first | assumption | refine gG ‹_› ?_ | exact pE ‹_› | refine pG ‹_› (by first | assumption | exact Ne.symm ‹_› | exact ne_fr ‹_› (by repeat (first | exact io ‹_› | exact mS ‹_› | refine gS ‹_› ?_ | refine pS ‹_› ?_)) | exact Ne.symm (ne_fr ‹_› (by repeat (first | exact io ‹_› | exact mS ‹_› | refine gS ‹_› ?_ | refine pS ‹_› ?_)))) ?_)
  clear g1 g2 g5 g6 g7 g7' g8 g10 g11 g12
  have hc := hT12.cells
  unfold Tb.cells at hc
  (repeat (first | refine ptr_i ?_ | refine rdT_of (by repeat (first | assumption | refine gG ‹_› ?_ | exact pE ‹_› | refine pG ‹_› (by first | assumption | exact Ne.symm ‹_› | exact ne_fr ‹_› (by repeat (first | exact io ‹_› | exact mS ‹_› | refine gS ‹_› ?_ | refine pS ‹_› ?_)) | exact Ne.symm (ne_fr ‹_› (by repeat (first | exact io ‹_› | exact mS ‹_› | refine gS ‹_› ?_ | refine pS ‹_› ?_)))) ?_)) (by rfl) ?_ | (refine al_i ?_; intro _ _ _ _ _) | refine and_i (rdC_of (by repeat (first | assumption | refine gG ‹_› ?_ | exact pE ‹_› | refine pG ‹_› (by first | assumption | exact Ne.symm ‹_› | exact ne_fr ‹_› (by repeat (first | exact io ‹_› | exact mS ‹_› | refine gS ‹_› ?_ | refine pS ‹_› ?_)) | exact Ne.symm (ne_fr ‹_› (by repeat (first | exact io ‹_› | exact mS ‹_› | refine gS ‹_› ?_ | refine pS ‹_› ?_)))) ?_)) (by rfl)) ?_ | refine rdA_i (by repeat (first | assumption | refine gG ‹_› ?_ | exact pE ‹_› | refine pG ‹_› (by first | assumption | exact Ne.symm ‹_› | exact ne_fr ‹_› (by repeat (first | exact io ‹_› | exact mS ‹_› | refine gS ‹_› ?_ | refine pS ‹_› ?_)) | exact Ne.symm (ne_fr ‹_› (by repeat (first | exact io ‹_› | exact mS ‹_› | refine gS ‹_› ?_ | refine pS ‹_› ?_)))) ?_)) (by rfl) ?_ | (refine st_i2 (by repeat (first | assumption | refine gG ‹_› ?_ | exact pE ‹_› | refine pG ‹_› (by first | assumption | exact Ne.symm ‹_› | exact ne_fr ‹_› (by repeat (first | exact io ‹_› | exact mS ‹_› | refine gS ‹_› ?_ | refine pS ‹_› ?_)) | exact Ne.symm (ne_fr ‹_› (by repeat (first | exact io ‹_› | exact mS ‹_› | refine gS ‹_› ?_ | refine pS ‹_› ?_)))) ?_)) (by first | exact sz_int | exact sz_string | exact sz_bool | exact sz_Inode | exact sz_Quota | exact sz_MSI | exact sz_place | exact sz_Errno) (by rfl) (by rfl) ?_; intro _ _) | refine app_P ?_ | refine app_I ?_ | refine app_S ?_ | refine app_B ?_ | refine app_M ?_ | refine app_L ?_ | refine app_U ?_ | refine app_R ?_ | (refine app_of rfl ?_; try dsimp only)))
  refine rdN hT12 hns ?_
  obtain ⟨es, hes⟩ := hT12.dir hns hks
  have cS := (hT12.get hns).cells
  unfold Nd.cells at cS
  rw [hes] at cS
  (repeat (first | refine ptr_i ?_ | refine rdT_of (by repeat (first | assumption | refine gG ‹_› ?_ | exact pE ‹_› | refine pG ‹_› (by first | assumption | exact Ne.symm ‹_› | exact ne_fr ‹_› (by repeat (first | exact io ‹_› | exact mS ‹_› | refine gS ‹_› ?_ | refine pS ‹_› ?_)) | exact Ne.symm (ne_fr ‹_› (by repeat (first | exact io ‹_› | exact mS ‹_› | refine gS ‹_› ?_ | refine pS ‹_› ?_)))) ?_)) (by rfl) ?_ | (refine al_i ?_; intro _ _ _ _ _) | refine and_i (rdC_of (by repeat (first | assumption | refine gG ‹_› ?_ | exact pE ‹_› | refine pG ‹_› (by first | assumption | exact Ne.symm ‹_› | exact ne_fr ‹_› (by repeat (first | exact io ‹_› | exact mS ‹_› | refine gS ‹_› ?_ | refine pS ‹_› ?_)) | exact Ne.symm (ne_fr ‹_› (by repeat (first | exact io ‹_› | exact mS ‹_› | refine gS ‹_› ?_ | refine pS ‹_› ?_)))) ?_)) (by rfl)) ?_ | refine rdA_i (by repeat (first | assumption | refine gG ‹_› ?_ | exact pE ‹_› | refine pG ‹_› (by first | assumption | exact Ne.symm ‹_› | exact ne_fr ‹_› (by repeat (first | exact io ‹_› | exact mS ‹_› | refine gS ‹_› ?_ | refine pS ‹_› ?_)) | exact Ne.symm (ne_fr ‹_› (by repeat (first | exact io ‹_› | exact mS ‹_› | refine gS ‹_› ?_ | refine pS ‹_› ?_)))) ?_)) (by rfl) ?_ | (refine st_i2 (by repeat (first | assumption | refine gG ‹_› ?_ | exact pE ‹_› | refine pG ‹_› (by first | assumption | exact Ne.symm ‹_› | exact ne_fr ‹_› (by repeat (first | exact io ‹_› | exact mS ‹_› | refine gS ‹_› ?_ | refine pS ‹_› ?_)) | exact Ne.symm (ne_fr ‹_› (by repeat (first | exact io ‹_› | exact mS ‹_› | refine gS ‹_› ?_ | refine pS ‹_› ?_)))) ?_)) (by first | exact sz_int | exact sz_string | exact sz_bool | exact sz_Inode | exact sz_Quota | exact sz_MSI | exact sz_place | exact sz_Errno) (by rfl) (by rfl) ?_; intro _ _) | refine app_P ?_ | refine app_I ?_ | refine app_S ?_ | refine app_B ?_ | refine app_M ?_ | refine app_L ?_ | refine app_U ?_ | refine app_R ?_ | (refine app_of rfl ?_; try dsimp only)))
  have mE := (hT12.get hns).ents es hes
  refine del_i (kk := kkS) (f := valI) und_MSI und_string mE name ?_
  intro o13 σ13 p13 m13
  have hT13 := hT12.putE hO hns hes p13 m13
  let T13 := T.set src { ns with ents := HL.rm name ns.ents }
  have hO13 : Own T13 := hO.set hns rfl rfl
  have k6 := p13.get (ne_cm k6 mE) k6
  have k7 := p13.get (ne_cm k7 mE) k7
  have k32 := p13.get (ne_cm k32 mE) k32
  have hc13 := hT13.cells
  unfold Tb.cells at hc13
  (repeat (first | refine ptr_i ?_ | refine rdT_of (by repeat (first | assumption | refine gG ‹_› ?_ | exact pE ‹_› | refine pG ‹_› (by first | assumption | exact Ne.symm ‹_› | exact ne_fr ‹_› (by repeat (first | exact io ‹_› | exact mS ‹_› | refine gS ‹_› ?_ | refine pS ‹_› ?_)) | exact Ne.symm (ne_fr ‹_› (by repeat (first | exact io ‹_› | exact mS ‹_› | refine gS ‹_› ?_ | refine pS ‹_› ?_)))) ?_)) (by rfl) ?_ | (refine al_i ?_; intro _ _ _ _ _) | refine and_i (rdC_of (by repeat (first | assumption | refine gG ‹_› ?_ | exact pE ‹_› | refine pG ‹_› (by first | assumption | exact Ne.symm ‹_› | exact ne_fr ‹_› (by repeat (first | exact io ‹_› | exact mS ‹_› | refine gS ‹_› ?_ | refine pS ‹_› ?_)) | exact Ne.symm (ne_fr ‹_› (by repeat (first | exact io ‹_› | exact mS ‹_› | refine gS ‹_› ?_ | refine pS ‹_› ?_)))) ?_)) (by rfl)) ?_ | refine rdA_i (by repeat (first | assumption | refine gG ‹_› ?_ | exact pE ‹_› | refine pG ‹_› (by first | assumption | exact Ne.symm ‹_› | exact ne_fr ‹_› (by repeat (first | exact io ‹_› | exact mS ‹_› | refine gS ‹_› ?_ | refine pS ‹_› ?_)) | exact Ne.symm (ne_fr ‹_› (by repeat (first | exact io ‹_› | exact mS ‹_› | refine gS ‹_› ?_ | refine pS ‹_› ?_)))) ?_)) (by rfl) ?_ | (refine st_i2 (by repeat (first | assumption | refine gG ‹_› ?_ | exact pE ‹_› | refine pG ‹_› (by first | assumption | exact Ne.symm ‹_› | exact ne_fr ‹_› (by repeat (first | exact io ‹_› | exact mS ‹_› | refine gS ‹_› ?_ | refine pS ‹_› ?_)) | exact Ne.symm (ne_fr ‹_› (by repeat (first | exact io ‹_› | exact mS ‹_› | refine gS ‹_› ?_ | refine pS ‹_› ?_)))) ?_)) (by first | exact sz_int | exact sz_string | exact sz_bool | exact sz_Inode | exact sz_Quota | exact sz_MSI | exact sz_place | exact sz_Errno) (by rfl) (by rfl) ?_; intro _ _) | refine app_P ?_ | refine app_I ?_ | refine app_S ?_ | refine app_B ?_ | refine app_M ?_ | refine app_L ?_ | refine app_U ?_ | refine app_R ?_ | (refine app_of rfl ?_; try dsimp only)))
  obtain ⟨nt1, hnt1, a1, a2, a3⟩ : ∃ n1, T13.get to = some n1 ∧ n1.blk = nt.blk ∧ n1.eb = nt.eb ∧ n1.kind = 2 := by
    show ∃ n1, (T.set src { ns with ents := HL.rm name ns.ents }).get to = some n1 ∧ _
    rw [get_set]
    by_cases e : to = src
    · subst e; rw [hns] at hnt; cases hnt; rw [if_pos rfl]; exact ⟨_, rfl, rfl, rfl, hks⟩
    · rw [if_neg e]; exact ⟨nt, hnt, rfl, rfl, hkt⟩
  refine rdN hT13 hnt1 ?_
  obtain ⟨et, het⟩ := hT13.dir hnt1 a3
  have cT := (hT13.get hnt1).cells
  unfold Nd.cells at cT
  rw [het] at cT
  (repeat (first | refine ptr_i ?_ | refine rdT_of (by repeat (first | assumption | refine gG ‹_› ?_ | exact pE ‹_› | refine pG ‹_› (by first | assumption | exact Ne.symm ‹_› | exact ne_fr ‹_› (by repeat (first | exact io ‹_› | exact mS ‹_› | refine gS ‹_› ?_ | refine pS ‹_› ?_)) | exact Ne.symm (ne_fr ‹_› (by repeat (first | exact io ‹_› | exact mS ‹_› | refine gS ‹_› ?_ | refine pS ‹_› ?_)))) ?_)) (by rfl) ?_ | (refine al_i ?_; intro _ _ _ _ _) | refine and_i (rdC_of (by repeat (first | assumption | refine gG ‹_› ?_ | exact pE ‹_› | refine pG ‹_› (by first | assumption | exact Ne.symm ‹_› | exact ne_fr ‹_› (by repeat (first | exact io ‹_› | exact mS ‹_› | refine gS ‹_› ?_ | refine pS ‹_› ?_)) | exact Ne.symm (ne_fr ‹_› (by repeat (first | exact io ‹_› | exact mS ‹_› | refine gS ‹_› ?_ | refine pS ‹_› ?_)))) ?_)) (by rfl)) ?_ | refine rdA_i (by repeat (first | assumption | refine gG ‹_› ?_ | exact pE ‹_› | refine pG ‹_› (by first | assumption | exact Ne.symm ‹_› | exact ne_fr ‹_› (by repeat (first | exact io ‹_› | exact mS ‹_› | refine gS ‹_› ?_ | refine pS ‹_› ?_)) | exact Ne.symm (ne_fr ‹_› (by repeat (first | exact io ‹_› | exact mS ‹_› | refine gS ‹_› ?_ | refine pS ‹_› ?_)))) ?_)) (by rfl) ?_ | (refine st_i2 (by repeat (first | assumption | refine gG ‹_› ?_ | exact pE ‹_› | refine pG ‹_› (by first | assumption | exact Ne.symm ‹_› | exact ne_fr ‹_› (by repeat (first | exact io ‹_› | exact mS ‹_› | refine gS ‹_› ?_ | refine pS ‹_› ?_)) | exact Ne.symm (ne_fr ‹_› (by repeat (first | exact io ‹_› | exact mS ‹_› | refine gS ‹_› ?_ | refine pS ‹_› ?_)))) ?_)) (by first | exact sz_int | exact sz_string | exact sz_bool | exact sz_Inode | exact sz_Quota | exact sz_MSI | exact sz_place | exact sz_Errno) (by rfl) (by rfl) ?_; intro _ _) | refine app_P ?_ | refine app_I ?_ | refine app_S ?_ | refine app_B ?_ | refine app_M ?_ | refine app_L ?_ | refine app_U ?_ | refine app_R ?_ | (refine app_of rfl ?_; try dsimp only)))
  have mT := (hT13.get hnt1).ents et het
  refine mu_i (kk := kkS) (f := valI) und_MSI und_string mT as_ j ?_
  intro o14 σ14 p14 m14
  have hT14 := hT13.putE hO13 hnt1 het p14 m14
  let T14 := T13.set to { nt1 with ents := HL.up as_ j nt1.ents }
  have hO14 : Own T14 := hO13.set hnt1 rfl rfl
  have k6 := p14.get (ne_cm k6 mT) k6
  have k7 := p14.get (ne_cm k7 mT) k7
  have k32 := p14.get (ne_cm k32 mT) k32
  have hc14 := hT14.cells
  unfold Tb.cells at hc14
  refine j_d ?_
  (repeat (first | refine ptr_i ?_ | refine rdT_of (by repeat (first | assumption | refine gG ‹_› ?_ | exact pE ‹_› | refine pG ‹_› (by first | assumption | exact Ne.symm ‹_› | exact ne_fr ‹_› (by repeat (first | exact io ‹_› | exact mS ‹_› | refine gS ‹_› ?_ | refine pS ‹_› ?_)) | exact Ne.symm (ne_fr ‹_› (by repeat (first | exact io ‹_› | exact mS ‹_› | refine gS ‹_› ?_ | refine pS ‹_› ?_)))) ?_)) (by rfl) ?_ | (refine al_i ?_; intro _ _ _ _ _) | refine and_i (rdC_of (by repeat (first | assumption | refine gG ‹_› ?_ | exact pE ‹_› | refine pG ‹_› (by first | assumption | exact Ne.symm ‹_› | exact ne_fr ‹_› (by repeat (first | exact io ‹_› | exact mS ‹_› | refine gS ‹_› ?_ | refine pS ‹_› ?_)) | exact Ne.symm (ne_fr ‹_› (by repeat (first | exact io ‹_› | exact mS ‹_› | refine gS ‹_› ?_ | refine pS ‹_› ?_)))) ?_)) (by rfl)) ?_ | refine rdA_i (by repeat (first | assumption | refine gG ‹_› ?_ | exact pE ‹_› | refine pG ‹_› (by first | assumption | exact Ne.symm ‹_› | exact ne_fr ‹_› (by repeat (first | exact io ‹_› | exact mS ‹_› | refine gS ‹_› ?_ | refine pS ‹_› ?_)) | exact Ne.symm (ne_fr ‹_› (by repeat (first | exact io ‹_› | exact mS ‹_› | refine gS ‹_› ?_ | refine pS ‹_› ?_)))) ?_)) (by rfl) ?_ | (refine st_i2 (by repeat (first | assumption | refine gG ‹_› ?_ | exact pE ‹_› | refine pG ‹_› (by first | assumption | exact Ne.symm ‹_› | exact ne_fr ‹_› (by repeat (first | exact io ‹_› | exact mS ‹_› | refine gS ‹_› ?_ | refine pS ‹_› ?_)) | exact Ne.symm (ne_fr ‹_› (by repeat (first | exact io ‹_› | exact mS ‹_› | refine gS ‹_› ?_ | refine pS ‹_› ?_)))) ?_)) (by first | exact sz_int | exact sz_string | exact sz_bool | exact sz_Inode | exact sz_Quota | exact sz_MSI | exact sz_place | exact sz_Errno) (by rfl) (by rfl) ?_; intro _ _) | refine app_P ?_ | refine app_I ?_ | refine app_S ?_ | refine app_B ?_ | refine app_M ?_ | refine app_L ?_ | refine app_U ?_ | refine app_R ?_ | (refine app_of rfl ?_; try dsimp only)))
  obtain ⟨nj1, hnj1, c1, c2, c3⟩ : ∃ n1, T14.get j = some n1 ∧ n1.blk = nj.blk ∧ n1.eb = nj.eb ∧ n1.kind = nj.kind := by
    have h13 : ∃ n1, T13.get j = some n1 ∧ n1.blk = nj.blk ∧ n1.eb = nj.eb ∧ n1.kind = nj.kind := by
      show ∃ n1, (T.set src { ns with ents := HL.rm name ns.ents }).get j = some n1 ∧ _
      rw [get_set]
      by_cases e : j = src
      · subst e; rw [hns] at hnj; cases hnj; rw [if_pos rfl]; exact ⟨_, rfl, rfl, rfl, rfl⟩
      · rw [if_neg e]; exact ⟨nj, hnj, rfl, rfl, rfl⟩
    obtain ⟨m, hm, q1, q2, q3⟩ := h13
    show ∃ n1, (T13.set to { nt1 with ents := HL.up as_ j nt1.ents }).get j = some n1 ∧ _
    rw [get_set]
    by_cases e : j = to
    · subst e; rw [hnt1] at hm; cases hm; rw [if_pos rfl]; exact ⟨_, rfl, q1, q2, q3⟩
    · rw [if_neg e]; exact ⟨m, hm, q1, q2, q3⟩
  refine rdN hT14 hnj1 ?_
  have cJ := (hT14.get hnj1).cells
  unfold Nd.cells at cJ
  refine ptr_i (rd_I (rdC_of cJ (by rfl)) ?_)
  have o14' : ∀ b, T14.own bt b ↔ B b := fun b => (own_set (n' := { nt1 with ents := HL.up as_ j nt1.ents }) hnt1 rfl rfl b).trans ((own_set (n' := { ns with ents := HL.rm name ns.ents }) hns rfl rfl b).trans (hB b))
  have s14 : Sep σ B σ14 B := by
    intro b o hb hn
    have hn' : ¬ T.own bt b := fun h => hn ((hB b).1 h)
    have q1 : b ≠ es := by intro e; subst e; exact ((hT.ne hn').2.2 src ns hns).2 hes
    have q2 : b ≠ et := by intro e; subst e; exact ((hT.ne hn').2.2 to nt hnt).2 (by rw [← a2]; exact het)
    exact ⟨p14.get q2 (p13.get q1 (hgr'.gr.get hb)), hn⟩
  have habs : T14.abs = (T.abs.ent src (HL.rm name)).ent to (HL.up as_ j) := by
    have e1 : T.abs.ent src (HL.rm name) = T13.abs := by
      unfold AT.ent
      rw [abs_get, hns]
      exact (abs_set T src { ns with ents := HL.rm name ns.ents }).symm
    rw [e1]
    unfold AT.ent
    rw [abs_get, hnt1]
    exact abs_set T13 to { nt1 with ents := HL.up as_ j nt1.ents }
  have hmv : T.abs.moved src name to as_ = T14.abs.mod j fun n => if n.kind == 2 then { n with up := to } else n := by
    unfold AT.moved; simp only [hj']; rw [habs]
  have hg14 : T14.abs.get j = some nj1.abs := by rw [abs_get, hnj1]; rfl
  rw [hmv] at hK
  unfold AT.mod at hK
  rw [hg14] at hK
  simp only at hK
  cases hk2 : (nj1.kind == 2) with
  | false =>
    refine br_f rfl ?_
    have hk3 : (nj1.abs.kind == 2) = false := hk2
    refine hK σ14 B ⟨T14, hT14, hO14, ?_, o14'⟩ s14
    rw [hk3]
    show _ = T14.abs.set j nj1.abs
    unfold AT.set
    rw [up_self hg14]
  | true =>
    refine br_t rfl ?_
    (repeat (first | refine ptr_i ?_ | refine rdT_of (by repeat (first | assumption | refine gG ‹_› ?_ | exact pE ‹_› | refine pG ‹_› (by first | assumption | exact Ne.symm ‹_› | exact ne_fr ‹_› (by repeat (first | exact io ‹_› | exact mS ‹_› | refine gS ‹_› ?_ | refine pS ‹_› ?_)) | exact Ne.symm (ne_fr ‹_› (by repeat (first | exact io ‹_› | exact mS ‹_› | refine gS ‹_› ?_ | refine pS ‹_› ?_)))) ?_)) (by rfl) ?_ | (refine al_i ?_; intro _ _ _ _ _) | refine and_i (rdC_of (by repeat (first | assumption | refine gG ‹_› ?_ | exact pE ‹_› | refine pG ‹_› (by first | assumption | exact Ne.symm ‹_› | exact ne_fr ‹_› (by repeat (first | exact io ‹_› | exact mS ‹_› | refine gS ‹_› ?_ | refine pS ‹_› ?_)) | exact Ne.symm (ne_fr ‹_› (by repeat (first | exact io ‹_› | exact mS ‹_› | refine gS ‹_› ?_ | refine pS ‹_› ?_)))) ?_)) (by rfl)) ?_ | refine rdA_i (by repeat (first | assumption | refine gG ‹_› ?_ | exact pE ‹_› | refine pG ‹_› (by first | assumption | exact Ne.symm ‹_› | exact ne_fr ‹_› (by repeat (first | exact io ‹_› | exact mS ‹_› | refine gS ‹_› ?_ | refine pS ‹_› ?_)) | exact Ne.symm (ne_fr ‹_› (by repeat (first | exact io ‹_› | exact mS ‹_› | refine gS ‹_› ?_ | refine pS ‹_› ?_)))) ?_)) (by rfl) ?_ | (refine st_i2 (by repeat (first | assumption | refine gG ‹_› ?_ | exact pE ‹_› | refine pG ‹_› (by first | assumption | exact Ne.symm ‹_› | exact ne_fr ‹_› (by repeat (first | exact io ‹_› | exact mS ‹_› | refine gS ‹_› ?_ | refine pS ‹_› ?_)) | exact Ne.symm (ne_fr ‹_› (by repeat (first | exact io ‹_› | exact mS ‹_› | refine gS ‹_› ?_ | refine pS ‹_› ?_)))) ?_)) (by first | exact sz_int | exact sz_string | exact sz_bool | exact sz_Inode | exact sz_Quota | exact sz_MSI | exact sz_place | exact sz_Errno) (by rfl) (by rfl) ?_; intro _ _) | refine app_P ?_ | refine app_I ?_ | refine app_S ?_ | refine app_B ?_ | refine app_M ?_ | refine app_L ?_ | refine app_U ?_ | refine app_R ?_ | (refine app_of rfl ?_; try dsimp only)))
    rename_i σ15 p15
    have hk3 : (nj1.abs.kind == 2) = true := hk2
    have hT15 := hT14.putN hO14 (n' := { nj1 with up := to }) hnj1 p15 rfl rfl rfl rfl
    refine hK σ15 B ⟨_, hT15, hO14.set (n' := { nj1 with up := to }) hnj1 rfl rfl, ?_, fun b => (own_set (n' := { nj1 with up := to }) hnj1 rfl rfl b).trans (o14' b)⟩ ?_
    · rw [hk3]; exact abs_set T14 j { nj1 with up := to }
    · intro b o hb hn
      have hn' : ¬ T.own bt b := fun h => hn ((hB b).1 h)
      exact ⟨p15.get (by rw [c1]; exact ((hT.ne hn').2.2 j nj hnj).1) (s14 b o hb hn).1, hn⟩
/-- New -/
theorem s_NewT (qi qb : Int) {σ : H} {K : Value → H → Prop} (hN : newOk qi qb = false → K (.pointer none) σ)
    (hK : newOk qi qb = true → ∀ bt σ' B', σ bt = none → TabAt σ' bt (newT qi qb) B' → Gr σ σ' → (∀ b, B' b → σ b = none) → K (.pointer (some ⟨bt, 0, none⟩)) σ') :
    callW Tryz.prog 49 [.agg ⟨[.int .i64 qi, .int .i64 qb]⟩] K σ := by
  refine callW.drop (K' := fun v σ' => (newOk qi qb = false ∧ v = .pointer none ∧ Gr σ σ') ∨ (newOk qi qb = true ∧ K v σ')) ?_ ?_
  case refine_2 =>
    rintro v σ' (⟨h1, h2, h3⟩ | ⟨h1, h2⟩)
    · exact ⟨σ, h3, h2 ▸ hN h1⟩
    · exact ⟨σ', Gr.refl _, h2⟩
  refine c49 _ _ ?_
  unfold g49
  refine al_i ?_; intro b3 σ1 g1 e1 n1
  refine j_i (fun j => ∀ x : Bool, x = !newOk qi qb → j (some ⟨b3, 0, none⟩) x σ1) ?_ ?_
  case refine_2 =>
    intro j hj
    (repeat (first | refine ptr_i ?_ | refine rdT_of (by repeat (first | assumption | refine gG ‹_› ?_ | exact pE ‹_› | refine pG ‹_› (by first | assumption | exact Ne.symm ‹_› | exact ne_fr ‹_› (by repeat (first | exact io ‹_› | exact mS ‹_› | refine gS ‹_› ?_ | refine pS ‹_› ?_)) | exact Ne.symm (ne_fr ‹_› (by repeat (first | exact io ‹_› | exact mS ‹_› | refine gS ‹_› ?_ | refine pS ‹_› ?_)))) ?_)) (by rfl) ?_ | (refine al_i ?_; intro _ _ _ _ _) | refine and_i (rdC_of (by repeat (first | assumption | refine gG ‹_› ?_ | exact pE ‹_› | refine pG ‹_› (by first | assumption | exact Ne.symm ‹_› | exact ne_fr ‹_› (by repeat (first | exact io ‹_› | exact mS ‹_› | refine gS ‹_› ?_ | refine pS ‹_› ?_)) | exact Ne.symm (ne_fr ‹_› (by repeat (first | exact io ‹_› | exact mS ‹_› | refine gS ‹_› ?_ | refine pS ‹_› ?_)))) ?_)) (by rfl)) ?_ | refine rdA_i (by repeat (first | assumption | refine gG ‹_› ?_ | exact pE ‹_› | refine pG ‹_› (by first | assumption | exact Ne.symm ‹_› | exact ne_fr ‹_› (by repeat (first | exact io ‹_› | exact mS ‹_› | refine gS ‹_› ?_ | refine pS ‹_› ?_)) | exact Ne.symm (ne_fr ‹_› (by repeat (first | exact io ‹_› | exact mS ‹_› | refine gS ‹_› ?_ | refine pS ‹_› ?_)))) ?_)) (by rfl) ?_ | (refine st_i2 (by repeat (first | assumption | refine gG ‹_› ?_ | exact pE ‹_› | refine pG ‹_› (by first | assumption | exact Ne.symm ‹_› | exact ne_fr ‹_› (by repeat (first | exact io ‹_› | exact mS ‹_› | refine gS ‹_› ?_ | refine pS ‹_› ?_)) | exact Ne.symm (ne_fr ‹_› (by repeat (first | exact io ‹_› | exact mS ‹_› | refine gS ‹_› ?_ | refine pS ‹_› ?_)))) ?_)) (by first | exact sz_int | exact sz_string | exact sz_bool | exact sz_Inode | exact sz_Quota | exact sz_MSI | exact sz_place | exact sz_Errno) (by rfl) (by rfl) ?_; intro _ _) | refine app_P ?_ | refine app_I ?_ | refine app_S ?_ | refine app_B ?_ | refine app_M ?_ | refine app_L ?_ | refine app_U ?_ | refine app_R ?_ | (refine app_of rfl ?_; try dsimp only)))
    by_cases h1 : qi < 1
    · exact br_t (by simpa using h1) (hj _ (by simp [newOk, h1]))
    refine br_f (by simpa using h1) ?_
    (repeat (first | refine ptr_i ?_ | refine rdT_of (by repeat (first | assumption | refine gG ‹_› ?_ | exact pE ‹_› | refine pG ‹_› (by first | assumption | exact Ne.symm ‹_› | exact ne_fr ‹_› (by repeat (first | exact io ‹_› | exact mS ‹_› | refine gS ‹_› ?_ | refine pS ‹_› ?_)) | exact Ne.symm (ne_fr ‹_› (by repeat (first | exact io ‹_› | exact mS ‹_› | refine gS ‹_› ?_ | refine pS ‹_› ?_)))) ?_)) (by rfl) ?_ | (refine al_i ?_; intro _ _ _ _ _) | refine and_i (rdC_of (by repeat (first | assumption | refine gG ‹_› ?_ | exact pE ‹_› | refine pG ‹_› (by first | assumption | exact Ne.symm ‹_› | exact ne_fr ‹_› (by repeat (first | exact io ‹_› | exact mS ‹_› | refine gS ‹_› ?_ | refine pS ‹_› ?_)) | exact Ne.symm (ne_fr ‹_› (by repeat (first | exact io ‹_› | exact mS ‹_› | refine gS ‹_› ?_ | refine pS ‹_› ?_)))) ?_)) (by rfl)) ?_ | refine rdA_i (by repeat (first | assumption | refine gG ‹_› ?_ | exact pE ‹_› | refine pG ‹_› (by first | assumption | exact Ne.symm ‹_› | exact ne_fr ‹_› (by repeat (first | exact io ‹_› | exact mS ‹_› | refine gS ‹_› ?_ | refine pS ‹_› ?_)) | exact Ne.symm (ne_fr ‹_› (by repeat (first | exact io ‹_› | exact mS ‹_› | refine gS ‹_› ?_ | refine pS ‹_› ?_)))) ?_)) (by rfl) ?_ | (refine st_i2 (by repeat (first | assumption | refine gG ‹_› ?_ | exact pE ‹_› | refine pG ‹_› (by first | assumption | exact Ne.symm ‹_› | exact ne_fr ‹_› (by repeat (first | exact io ‹_› | exact mS ‹_› | refine gS ‹_› ?_ | refine pS ‹_› ?_)) | exact Ne.symm (ne_fr ‹_› (by repeat (first | exact io ‹_› | exact mS ‹_› | refine gS ‹_› ?_ | refine pS ‹_› ?_)))) ?_)) (by first | exact sz_int | exact sz_string | exact sz_bool | exact sz_Inode | exact sz_Quota | exact sz_MSI | exact sz_place | exact sz_Errno) (by rfl) (by rfl) ?_; intro _ _) | refine app_P ?_ | refine app_I ?_ | refine app_S ?_ | refine app_B ?_ | refine app_M ?_ | refine app_L ?_ | refine app_U ?_ | refine app_R ?_ | (refine app_of rfl ?_; try dsimp only)))
    by_cases h2 : qi > 1048576
    · exact br_t (by simpa using h2) (hj _ (by simp [newOk, h2]))
    refine br_f (by simpa using h2) ?_
    (repeat (first | refine ptr_i ?_ | refine rdT_of (by repeat (first | assumption | refine gG ‹_› ?_ | exact pE ‹_› | refine pG ‹_› (by first | assumption | exact Ne.symm ‹_› | exact ne_fr ‹_› (by repeat (first | exact io ‹_› | exact mS ‹_› | refine gS ‹_› ?_ | refine pS ‹_› ?_)) | exact Ne.symm (ne_fr ‹_› (by repeat (first | exact io ‹_› | exact mS ‹_› | refine gS ‹_› ?_ | refine pS ‹_› ?_)))) ?_)) (by rfl) ?_ | (refine al_i ?_; intro _ _ _ _ _) | refine and_i (rdC_of (by repeat (first | assumption | refine gG ‹_› ?_ | exact pE ‹_› | refine pG ‹_› (by first | assumption | exact Ne.symm ‹_› | exact ne_fr ‹_› (by repeat (first | exact io ‹_› | exact mS ‹_› | refine gS ‹_› ?_ | refine pS ‹_› ?_)) | exact Ne.symm (ne_fr ‹_› (by repeat (first | exact io ‹_› | exact mS ‹_› | refine gS ‹_› ?_ | refine pS ‹_› ?_)))) ?_)) (by rfl)) ?_ | refine rdA_i (by repeat (first | assumption | refine gG ‹_› ?_ | exact pE ‹_› | refine pG ‹_› (by first | assumption | exact Ne.symm ‹_› | exact ne_fr ‹_› (by repeat (first | exact io ‹_› | exact mS ‹_› | refine gS ‹_› ?_ | refine pS ‹_› ?_)) | exact Ne.symm (ne_fr ‹_› (by repeat (first | exact io ‹_› | exact mS ‹_› | refine gS ‹_› ?_ | refine pS ‹_› ?_)))) ?_)) (by rfl) ?_ | (refine st_i2 (by repeat (first | assumption | refine gG ‹_› ?_ | exact pE ‹_› | refine pG ‹_› (by first | assumption | exact Ne.symm ‹_› | exact ne_fr ‹_› (by repeat (first | exact io ‹_› | exact mS ‹_› | refine gS ‹_› ?_ | refine pS ‹_› ?_)) | exact Ne.symm (ne_fr ‹_› (by repeat (first | exact io ‹_› | exact mS ‹_› | refine gS ‹_› ?_ | refine pS ‹_› ?_)))) ?_)) (by first | exact sz_int | exact sz_string | exact sz_bool | exact sz_Inode | exact sz_Quota | exact sz_MSI | exact sz_place | exact sz_Errno) (by rfl) (by rfl) ?_; intro _ _) | refine app_P ?_ | refine app_I ?_ | refine app_S ?_ | refine app_B ?_ | refine app_M ?_ | refine app_L ?_ | refine app_U ?_ | refine app_R ?_ | (refine app_of rfl ?_; try dsimp only)))
    by_cases h3 : qb < 0
    · exact br_t (by simpa using h3) (hj _ (by simp [newOk, h3]))
    refine br_f (by simpa using h3) ?_
    (repeat (first | refine ptr_i ?_ | refine rdT_of (by repeat (first | assumption | refine gG ‹_› ?_ | exact pE ‹_› | refine pG ‹_› (by first | assumption | exact Ne.symm ‹_› | exact ne_fr ‹_› (by repeat (first | exact io ‹_› | exact mS ‹_› | refine gS ‹_› ?_ | refine pS ‹_› ?_)) | exact Ne.symm (ne_fr ‹_› (by repeat (first | exact io ‹_› | exact mS ‹_› | refine gS ‹_› ?_ | refine pS ‹_› ?_)))) ?_)) (by rfl) ?_ | (refine al_i ?_; intro _ _ _ _ _) | refine and_i (rdC_of (by repeat (first | assumption | refine gG ‹_› ?_ | exact pE ‹_› | refine pG ‹_› (by first | assumption | exact Ne.symm ‹_› | exact ne_fr ‹_› (by repeat (first | exact io ‹_› | exact mS ‹_› | refine gS ‹_› ?_ | refine pS ‹_› ?_)) | exact Ne.symm (ne_fr ‹_› (by repeat (first | exact io ‹_› | exact mS ‹_› | refine gS ‹_› ?_ | refine pS ‹_› ?_)))) ?_)) (by rfl)) ?_ | refine rdA_i (by repeat (first | assumption | refine gG ‹_› ?_ | exact pE ‹_› | refine pG ‹_› (by first | assumption | exact Ne.symm ‹_› | exact ne_fr ‹_› (by repeat (first | exact io ‹_› | exact mS ‹_› | refine gS ‹_› ?_ | refine pS ‹_› ?_)) | exact Ne.symm (ne_fr ‹_› (by repeat (first | exact io ‹_› | exact mS ‹_› | refine gS ‹_› ?_ | refine pS ‹_› ?_)))) ?_)) (by rfl) ?_ | (refine st_i2 (by repeat (first | assumption | refine gG ‹_› ?_ | exact pE ‹_› | refine pG ‹_› (by first | assumption | exact Ne.symm ‹_› | exact ne_fr ‹_› (by repeat (first | exact io ‹_› | exact mS ‹_› | refine gS ‹_› ?_ | refine pS ‹_› ?_)) | exact Ne.symm (ne_fr ‹_› (by repeat (first | exact io ‹_› | exact mS ‹_› | refine gS ‹_› ?_ | refine pS ‹_› ?_)))) ?_)) (by first | exact sz_int | exact sz_string | exact sz_bool | exact sz_Inode | exact sz_Quota | exact sz_MSI | exact sz_place | exact sz_Errno) (by rfl) (by rfl) ?_; intro _ _) | refine app_P ?_ | refine app_I ?_ | refine app_S ?_ | refine app_B ?_ | refine app_M ?_ | refine app_L ?_ | refine app_U ?_ | refine app_R ?_ | (refine app_of rfl ?_; try dsimp only)))
    exact hj _ (by simp [newOk, h1, h2, h3])
  intro x hx
  cases hx2 : newOk qi qb with
  | false =>
    rw [hx2] at hx; subst hx
    exact br_t rfl (.inl ⟨rfl, rfl, g1⟩)
  | true =>
    rw [hx2] at hx; subst hx
    refine br_f rfl ?_
    refine al_i ?_; intro b7 σ2 g2 e2 n2
    refine al_i ?_; intro b8 σ3 g3 e3 n3
    (repeat (first | refine ptr_i ?_ | refine rdT_of (by repeat (first | assumption | refine gG ‹_› ?_ | exact pE ‹_› | refine pG ‹_› (by first | assumption | exact Ne.symm ‹_› | exact ne_fr ‹_› (by repeat (first | exact io ‹_› | exact mS ‹_› | refine gS ‹_› ?_ | refine pS ‹_› ?_)) | exact Ne.symm (ne_fr ‹_› (by repeat (first | exact io ‹_› | exact mS ‹_› | refine gS ‹_› ?_ | refine pS ‹_› ?_)))) ?_)) (by rfl) ?_ | (refine al_i ?_; intro _ _ _ _ _) | refine and_i (rdC_of (by repeat (first | assumption | refine gG ‹_› ?_ | exact pE ‹_› | refine pG ‹_› (by first | assumption | exact Ne.symm ‹_› | exact ne_fr ‹_› (by repeat (first | exact io ‹_› | exact mS ‹_› | refine gS ‹_› ?_ | refine pS ‹_› ?_)) | exact Ne.symm (ne_fr ‹_› (by repeat (first | exact io ‹_› | exact mS ‹_› | refine gS ‹_› ?_ | refine pS ‹_› ?_)))) ?_)) (by rfl)) ?_ | refine rdA_i (by repeat (first | assumption | refine gG ‹_› ?_ | exact pE ‹_› | refine pG ‹_› (by first | assumption | exact Ne.symm ‹_› | exact ne_fr ‹_› (by repeat (first | exact io ‹_› | exact mS ‹_› | refine gS ‹_› ?_ | refine pS ‹_› ?_)) | exact Ne.symm (ne_fr ‹_› (by repeat (first | exact io ‹_› | exact mS ‹_› | refine gS ‹_› ?_ | refine pS ‹_› ?_)))) ?_)) (by rfl) ?_ | (refine st_i2 (by repeat (first | assumption | refine gG ‹_› ?_ | exact pE ‹_› | refine pG ‹_› (by first | assumption | exact Ne.symm ‹_› | exact ne_fr ‹_› (by repeat (first | exact io ‹_› | exact mS ‹_› | refine gS ‹_› ?_ | refine pS ‹_› ?_)) | exact Ne.symm (ne_fr ‹_› (by repeat (first | exact io ‹_› | exact mS ‹_› | refine gS ‹_› ?_ | refine pS ‹_› ?_)))) ?_)) (by first | exact sz_int | exact sz_string | exact sz_bool | exact sz_Inode | exact sz_Quota | exact sz_MSI | exact sz_place | exact sz_Errno) (by rfl) (by rfl) ?_; intro _ _) | refine app_P ?_ | refine app_I ?_ | refine app_S ?_ | refine app_B ?_ | refine app_M ?_ | refine app_L ?_ | refine app_U ?_ | refine app_R ?_ | (refine app_of rfl ?_; try dsimp only)))
    rename_i b13 σ4 g4 e4 n4
    let nr : Nd := ⟨b8, 2, 493, ⟨⟨[]⟩⟩, 1, 1, some b7, []⟩
    have m0 : MapAt σ4 b13 (encL kkI Nd.ptr []) := MapAt.new e4
    refine mu_i (kk := kkI) (f := Nd.ptr) und_MIN und_int m0 1 nr ?_
    intro o5 σ5 p5 m5
    refine al_i ?_; intro b14 σ6 g6 e6 n6
    refine .inr ⟨rfl, ?_⟩
    let T : Tb := ⟨qi, qb, 1, 0, 1, b13, [(1, nr)]⟩
    have q8 : b8 ≠ b13 := ne_fresh e3 n4
    have q7 : b7 ≠ b13 := ne_fr n4 (by repeat (first | exact io ‹_› | exact mS ‹_› | refine gS ‹_› ?_ | refine pS ‹_› ?_))
    have hget : ∀ i n, T.get i = some n → i = 1 ∧ n = nr := by
      intro i n h
      unfold Tb.get at h
      simp only [T, lk] at h
      cases hi : (i == 1) with
      | true => rw [hi] at h; cases h; exact ⟨by simpa using hi, rfl⟩
      | false => rw [hi] at h; cases h
    have hT : TAt σ6 b14 T := by
      refine ⟨e6, m5.gr g6, ?_⟩
      intro i n h
      obtain ⟨_, rfl⟩ := hget i n h
      refine ⟨?_, ?_, fun h => (by cases h), fun _ h => (by cases h)⟩
      · exact g6.get (p5.get q8 (g4.get e3))
      · intro e he
        cases he
        exact MapAt.new (g6.get (p5.get q7 (g4.get (g3.get e2))))
    have hO : Own T := by
      refine ⟨?_, ?_, ?_⟩
      · intro i j n m hi hj _; rw [(hget i n hi).1, (hget j m hj).1]
      · intro i j n m e hi hj _ _; rw [(hget i n hi).1, (hget j m hj).1]
      · intro i n hi; rw [(hget i n hi).2]; intro h; exact q7 (Option.some.inj h)
    have gg : Gr σ σ4 := by repeat (first | exact Gr.refl _ | assumption | refine Gr.trans ?_ ‹_› | refine Gr.putF ?_ ‹_› (none_of ?_ ‹_›))
    have g5 : Gr σ σ5 := gg.putF p5 (none_of (by repeat (first | exact Gr.refl _ | assumption | refine Gr.trans ?_ ‹_› | refine Gr.putF ?_ ‹_› (none_of ?_ ‹_›))) n4)
    refine hK hx2 b14 σ6 (T.own b14) (none_of g5 n6) ⟨T, hT, hO, rfl, fun _ => Iff.rfl⟩ (g5.trans g6) ?_
    rintro b (e | e | ⟨i, n, hn, hb⟩)
    · subst e; exact none_of g5 n6
    · subst e; exact none_of ((g1.trans g2).trans g3) n4
    · obtain ⟨_, rfl⟩ := hget i n hn
      rcases hb with e | e
      · subst e; exact none_of (g1.trans g2) n3
      · cases e; exact none_of g1 n2
end Go.Proofs.YtlpcehbfoogejaaGreatDoor

/- WHAT IS ASKED OF THE LIBRARY: IndexByte. -/
set_option maxRecDepth 100000
namespace Go.Proofs.YtlpcehbfoogejaaGreatDoor
open Go Go.HL Go.Wk
theorem go_IBS : isGo Tryz.prog 170 = false := by kernel_rfl
theorem fn_IBS : (Tryz.prog.funcs[170]?).map (fun fn => ((fn.name == "runtime.NumGoroutine"), fn.body.isNone)) = some (false, true) := by kernel_rfl
theorem ex_IBS : (Tryz.prog.funcs[170]?).bind (fun fn => Extern.find fn) = some Extern.BytealgIndexByte.indexByte := by kernel_rfl
theorem en_IBS : (Tryz.prog.funcs[170]?).map (fun fn => (Extern.findNext fn).isNone) = some true := by kernel_rfl
theorem x_IBS (s : ByteArray) (c : Int) {σ : H} {F : Int → H → Prop} (hF : F (firstIdx s c.toNat.toUInt8) σ) : cvalT Tryz.prog (.func (.func 170) ⟨[]⟩ ⟨[]⟩) [.string s, .int .u8 c] kI F σ := by
  unfold cvalT callVW
  simp only [go_IBS]
  intro w hw
  have h1 := fn_IBS
  have h2 := ex_IBS
  have h3 := en_IBS
  cases hf : Tryz.prog.funcs[170]? with
  | none => rw [hf] at h1; cases h1
  | some fn =>
    rw [hf] at h1 h2 h3
    simp only [Option.map_some, Option.some.injEq, Prod.mk.injEq, Option.bind_some] at h1 h2 h3
    have hr := run_callFunc_indexByte hf h1.1 h1.2 (Option.isNone_iff_eq_none.1 h3) h2 #[.string s, .int .u8 c] w
    rw [run_indexByte_string] at hr
    have : (callS (.func (.func 170) ⟨[]⟩ ⟨[]⟩) [.string s, .int .u8 c]).run Tryz.prog w = .ok (.value (.int .i64 (firstIdx s c.toNat.toUInt8))) w := by
      refine Eq.trans ?_ hr
      simp [callS, Deferred.ofValue, invoke]
    rw [this]
    exact ⟨σ, Ext.refl hw, app_I hF⟩
theorem firstIdx_lt (s : ByteArray) (c : UInt8) : decide (firstIdx s c < 0) = !(s.toList.any fun x => x == c) := by
  have key : (∃ i, i < s.size ∧ s[i]! = c) ↔ c ∈ s.toList := by
    rw [ByteArray.toList_eq]
    constructor
    · rintro ⟨i, hi, he⟩
      rw [getElem!_pos s i hi] at he
      rw [← he]
      exact Array.getElem_mem_toList (xs := s.data) hi
    · intro h
      obtain ⟨i, hi, he⟩ := List.getElem_of_mem h
      have hi' : i < s.data.size := by simpa using hi
      refine ⟨i, hi', ?_⟩
      rw [getElem!_pos s i hi', ← he]
      simp [ByteArray.getElem_eq_getElem_data]
  unfold firstIdx
  cases hf : (List.range s.size).find? fun i => s[i]! == c with
  | some i =>
    have h1 := List.find?_some hf
    have h2 := List.mem_of_find?_eq_some hf
    have : c ∈ s.toList := key.1 ⟨i, by simpa using h2, by simpa using h1⟩
    have h3 : (s.toList.any fun x => x == c) = true := List.any_eq_true.2 ⟨c, this, by simp⟩
    rw [h3]
    simp
  | none =>
    have h1 := List.find?_eq_none.1 hf
    have h3 : (s.toList.any fun x => x == c) = false := by
      rw [List.any_eq_false]
      intro x hx hxc
      have : x = c := by simpa using hxc
      subst this
      obtain ⟨i, hi, he⟩ := key.2 hx
      exact h1 i (by simpa using hi) (by simpa using he)
    rw [h3]; rfl
theorem x_IndexByte (s : ByteArray) (c : Int) {σ : H} {K : Value → H → Prop} (hK : K (.int .i64 (firstIdx s c.toNat.toUInt8)) σ) : callW Tryz.prog 65 [.string s, .int .u8 c] K σ := by
  refine c65 _ _ ?_
  unfold g65
  refine call_i ?_
  refine c118 _ _ ?_
  unfold g118
  exact x_IBS s c (app_I hK)
theorem iByte : IByte := by
  intro s σ K hK
  refine x_IndexByte s 0 (hK _ ?_)
  have := firstIdx_lt s 0
  rw [ByteArray.toList_eq] at this
  exact this
end Go.Proofs.YtlpcehbfoogejaaGreatDoor

/- A FILE SYSTEM over a table of inodes, as plain data: no program in sight. -/
namespace Go.Wk
open Go Go.HL
def leB : List UInt8 → List UInt8 → Bool
  | [], _ => true
  | _ :: _, [] => false
  | a :: r, b :: s => match Nat.blt a.toNat b.toNat with
    | true => true
    | false => match Nat.blt b.toNat a.toNat with
      | true => false
      | false => leB r s
def insB (x : List UInt8) : List (List UInt8) → List (List UInt8)
  | [] => [x]
  | y :: r => match leB x y with
    | true => x :: y :: r
    | false => y :: insB x r
def sortB : List (List UInt8) → List (List UInt8)
  | [] => []
  | x :: r => insB x (sortB r)
def sortN (l : List ByteArray) : List ByteArray := (sortB (l.map fun s => s.data.toList)).map fun x => (⟨⟨x⟩⟩ : ByteArray)
theorem leB_iff : ∀ x y : List UInt8, leB x y = true ↔ x ≤ y := by
  intro x
  induction x with
  | nil => intro y; simp [leB]
  | cons a r ih =>
    intro y
    cases y with
    | nil => simp [leB]
    | cons b s =>
      rw [List.cons_le_cons_iff]
      unfold leB
      cases h1 : Nat.blt a.toNat b.toNat with
      | true =>
        have : a < b := UInt8.lt_iff_toNat_lt.2 (by simpa [Nat.blt_eq] using h1)
        simp [this]
      | false =>
        have h1' : ¬ a < b := by
          intro h; have : Nat.blt a.toNat b.toNat = true := by rw [Nat.blt_eq]; exact h
          rw [h1] at this; cases this
        cases h2 : Nat.blt b.toNat a.toNat with
        | true =>
          have : b < a := UInt8.lt_iff_toNat_lt.2 (by simpa [Nat.blt_eq] using h2)
          simp only [Bool.false_eq_true, false_iff, not_or, not_and]
          refine ⟨h1', fun e => ?_⟩
          subst e; exact absurd this (UInt8.lt_irrefl _)
        | false =>
          have h2' : ¬ b < a := by
            intro h; have : Nat.blt b.toNat a.toNat = true := by rw [Nat.blt_eq]; exact h
            rw [h2] at this; cases this
          have : a = b := UInt8.le_antisymm (UInt8.not_lt.1 h2') (UInt8.not_lt.1 h1')
          simp [this, ih]
theorem insB_perm (x : List UInt8) : ∀ l, (insB x l).Perm (x :: l) := by
  intro l
  induction l with
  | nil => exact List.Perm.refl _
  | cons y r ih =>
    unfold insB
    cases leB x y with
    | true => exact List.Perm.refl _
    | false => exact (ih.cons y).trans (List.Perm.swap x y r)
theorem sortB_perm : ∀ l, (sortB l).Perm l := by
  intro l
  induction l with
  | nil => exact List.Perm.refl _
  | cons x r ih => exact (insB_perm x _).trans (ih.cons x)
theorem insB_sorted {x : List UInt8} : ∀ {l : List (List UInt8)}, l.Pairwise (· ≤ ·) → (insB x l).Pairwise (· ≤ ·) := by
  intro l
  induction l with
  | nil => intro _; simp [insB]
  | cons y r ih =>
    intro h
    obtain ⟨h1, h2⟩ := List.pairwise_cons.1 h
    unfold insB
    cases hb : leB x y with
    | true =>
      have hxy := (leB_iff x y).1 hb
      refine List.pairwise_cons.2 ⟨fun z hz => ?_, h⟩
      rcases List.mem_cons.1 hz with e | e
      · rw [e]; exact hxy
      · exact List.le_trans hxy (h1 z e)
    | false =>
      have hyx : y ≤ x := by
        have : ¬ x ≤ y := by rw [← leB_iff, hb]; simp
        exact (List.le_total x y).resolve_left this
      refine List.pairwise_cons.2 ⟨fun z hz => ?_, ih h2⟩
      rcases List.mem_cons.1 ((insB_perm x r).mem_iff.1 hz) with e | e
      · rw [e]; exact hyx
      · exact h1 z e
theorem sortB_sorted : ∀ l, (sortB l).Pairwise (· ≤ ·) := by
  intro l
  induction l with
  | nil => exact List.Pairwise.nil
  | cons x r ih => exact insB_sorted ih
theorem sortB_merge (l : List (List UInt8)) : l.mergeSort (fun x y => decide (x ≤ y)) = sortB l := by
  have h1 := List.pairwise_mergeSort (le := fun x y : List UInt8 => decide (x ≤ y)) (by intro a b c h1 h2; simp only [decide_eq_true_eq] at *; exact List.le_trans h1 h2) (by intro a b; simp only [Bool.or_eq_true, decide_eq_true_eq]; exact List.le_total a b) l
  have h1' : (l.mergeSort (fun x y => decide (x ≤ y))).Pairwise (· ≤ ·) := h1.imp (by intro a b h; simpa using h)
  refine List.Perm.eq_of_pairwise (le := (· ≤ ·)) ?_ h1' (sortB_sorted l) ((List.mergeSort_perm l _).trans (sortB_perm l).symm)
  intro a b _ _ h1 h2; exact List.le_antisymm h1 h2
/-- the names in a directory, rising -/
def AT.names (A : AT) (dir : Int) : List ByteArray := match A.get dir with
  | none => []
  | some n => sortN (keysL n.ents)
/-- a place -/
structure Pl where
  dir : Int
  name : ByteArray
  ino : Int
  there : Bool
def Pl.z : Pl := ⟨0, ⟨⟨[]⟩⟩, 0, false⟩
/-- the parts between strokes -/
def splitL (c : UInt8) : List UInt8 → List (List UInt8)
  | [] => [[]]
  | x :: r => match x == c with
    | true => [] :: splitL c r
    | false => match splitL c r with
      | [] => [[x]]
      | h :: t => (x :: h) :: t
def okPart (s : ByteArray) : Bool := !sEq s ⟨⟨[]⟩⟩ && !sEq s ⟨⟨[46]⟩⟩
def partsB (path : ByteArray) : List ByteArray := ((splitL 47 path.data.toList).map fun l => (⟨⟨l⟩⟩ : ByteArray)).filter okPart
def mayE (path : ByteArray) : Int := if sEq path ⟨⟨[]⟩⟩ then 5 else if path.size > 255 then 3 else if hasNul path then 2 else 0
def headIs (c : UInt8) (s : ByteArray) : Bool := match s.data.toList with
  | [] => false
  | x :: _ => x == c
def AT.data (A : AT) (i : Int) : ByteArray := ((A.get i).map (·.data)).getD ⟨⟨[]⟩⟩
/-- the names of a path, one behind the other -/
def AT.steps (A : AT) (go : Int → ByteArray → Int → Int × Pl × Int) (follow : Bool) : List ByteArray → Pl → Int → Int × Pl × Int
  | [], p, h => (0, p, h)
  | name :: rest, p, h =>
    if p.there = false then (5, Pl.z, h)
    else if A.kind p.ino ≠ 2 then (8, Pl.z, h)
    else if sEq name ⟨⟨[46, 46]⟩⟩ = true then AT.steps A go follow rest ⟨A.upOf p.ino, ⟨⟨[]⟩⟩, A.upOf p.ino, true⟩ h
    else if name.size > 56 then (3, Pl.z, h)
    else
      let o := A.find p.ino name
      let q : Pl := ⟨p.ino, name, o.getD 0, o.isSome⟩
      if o.isSome = false ∨ (rest.isEmpty && !follow) = true ∨ A.kind q.ino ≠ 3 then AT.steps A go follow rest q h
      else if h - 1 < 0 then (9, Pl.z, h - 1)
      else
        let r := go q.dir (A.data q.ino) (h - 1)
        if r.1 ≠ 0 then (r.1, Pl.z, r.2.2) else AT.steps A go follow rest r.2.1 r.2.2
def AT.walk (A : AT) : Nat → Int → ByteArray → Bool → Int → Int × Pl × Int
  | 0, _, _, _, h => (9, Pl.z, h)
  | f + 1, at_, path, follow, h =>
    if mayE path ≠ 0 then (mayE path, Pl.z, h)
    else
      let a := if headIs 47 path then 1 else at_
      A.steps (fun d s h' => AT.walk A f d s true h') follow (partsB path) ⟨a, ⟨⟨[]⟩⟩, a, true⟩ h
def AT.locate (A : AT) (cwd path : ByteArray) (follow : Bool) : Int × Pl :=
  if sEq path ⟨⟨[]⟩⟩ then (5, Pl.z)
  else if headIs 47 path then let r := A.walk 10 1 path follow 8; (r.1, r.2.1)
  else if headIs 47 cwd = false then (5, Pl.z)
  else
    let r := A.walk 10 1 cwd true 8
    if r.1 ≠ 0 then (r.1, Pl.z)
    else if r.2.1.there = false then (5, Pl.z)
    else if A.kind r.2.1.ino ≠ 2 then (8, Pl.z)
    else let r' := A.walk 10 r.2.1.ino path follow 8; (r'.1, r'.2.1)
/-- what is known of an inode -/
structure IN where
  kind : Int
  mode : Int
  data : ByteArray
  links : Int
def IN.z : IN := ⟨0, 0, ⟨⟨[]⟩⟩, 0⟩
def AN.inode (n : AN) : IN := ⟨n.kind, n.mode, n.data, n.links⟩
def AT.ino (A : AT) (i : Int) : IN := ((A.get i).map AN.inode).getD IN.z
/-- what lies somewhere -/
def AT.with_ (A : AT) (cwd path : ByteArray) (follow : Bool) : Int × Int × IN :=
  let r := A.locate cwd path follow
  if r.1 ≠ 0 then (r.1, 0, IN.z)
  else if r.2.there = false then (5, 0, IN.z)
  else match A.get r.2.ino with
    | none => (5, 0, IN.z)
    | some n => (0, r.2.ino, n.inode)
def AT.stat (A : AT) (cwd path : ByteArray) (follow : Bool) : Int × IN := let r := A.with_ cwd path follow; (r.1, r.2.2)
def AT.read (A : AT) (cwd path : ByteArray) : Int × ByteArray :=
  let r := A.with_ cwd path true
  if r.1 ≠ 0 then (r.1, ⟨⟨[]⟩⟩) else if r.2.2.kind = 2 then (7, ⟨⟨[]⟩⟩) else (0, r.2.2.data)
/-- how deep a directory lies -/
def AT.deep (A : AT) : Nat → Int → Option Int
  | 0, _ => none
  | f + 1, d => if d = 1 then some 1 else (AT.deep A f (A.upOf d)).map (· + 1)
def AT.within (A : AT) (ino : Int) : Nat → Int → Option Bool
  | 0, _ => none
  | f + 1, d => if d = ino then some true else if d = 1 then some false else AT.within A ino f (A.upOf d)
def AT.writeF (A : AT) (cwd path data : ByteArray) (more : Bool) : Int × AT :=
  let r := A.locate cwd path true
  if r.1 ≠ 0 then (r.1, A)
  else if r.2.there = false then let m := A.makeR r.2.dir r.2.name 1 420 data; (m.2.1, m.2.2)
  else if A.kind r.2.ino = 2 then (7, A)
  else A.writeR r.2.ino (if more then A.data r.2.ino ++ data else data)
/-- a place where nothing lies -/
def AT.freshP (A : AT) (cwd path : ByteArray) : Int × Pl :=
  let r := A.locate cwd path false
  if r.1 ≠ 0 then (r.1, Pl.z) else if r.2.there = true then (6, Pl.z) else (0, r.2)
def AT.mkdirF (A : AT) (cwd path : ByteArray) : Int × AT :=
  let r := A.freshP cwd path
  if r.1 ≠ 0 then (r.1, A)
  else if (A.deep 13 r.2.dir).getD 0 ≥ 12 then (3, A)
  else let m := A.makeR r.2.dir r.2.name 2 493 ⟨⟨[]⟩⟩; (m.2.1, m.2.2)
def AT.symlinkF (A : AT) (cwd target path : ByteArray) : Int × AT :=
  if linkOk target = false then (2, A)
  else
    let r := A.freshP cwd path
    if r.1 ≠ 0 then (r.1, A)
    else let m := A.makeR r.2.dir r.2.name 3 511 target; (m.2.1, m.2.2)
def AT.chmodF (A : AT) (cwd path : ByteArray) (mode : Int) : Int × AT :=
  if mode < 0 ∨ mode > 511 then (2, A)
  else
    let r := A.with_ cwd path true
    if r.1 ≠ 0 then (r.1, A)
    else A.chmodR r.2.1 mode
def AT.listF (A : AT) (cwd path : ByteArray) : Int × List ByteArray :=
  let r := A.with_ cwd path true
  if r.1 ≠ 0 then (r.1, []) else if r.2.2.kind ≠ 2 then (8, []) else (0, A.names r.2.1)
def AT.removeF (A : AT) (cwd path : ByteArray) : Int × AT :=
  let r := A.locate cwd path false
  if r.1 ≠ 0 then (r.1, A)
  else if r.2.there = false then (5, A)
  else if sEq r.2.name ⟨⟨[]⟩⟩ = true then (2, A)
  else if (A.names r.2.ino).length > 0 then (20, A)
  else A.unlinkR r.2.dir r.2.name
def AT.both (A : AT) (cwd src to : ByteArray) : Int × Pl × Pl :=
  let p := A.locate cwd src false
  if p.1 ≠ 0 then (p.1, p.2, Pl.z) else let q := A.locate cwd to false; (q.1, p.2, q.2)
def AT.hardF (A : AT) (cwd src to : ByteArray) : Int × AT :=
  let r := A.both cwd src to
  if r.1 ≠ 0 then (r.1, A)
  else if r.2.1.there = false then (5, A)
  else if A.kind r.2.1.ino = 2 then (7, A)
  else if A.kind r.2.1.ino = 3 then (2, A)
  else if r.2.2.there = true then (6, A)
  else A.linkR r.2.2.dir r.2.2.name r.2.1.ino
def AT.levels (A : AT) : Nat → Int → Int
  | 0, _ => 0
  | f + 1, i => if A.kind i ≠ 2 then 0 else (A.names i).foldl (fun n s => let x := AT.levels A f ((A.find i s).getD 0); if x > n then x else n) 0 + 1
def AT.overE (A : AT) (p q : Pl) : Int :=
  let e := if q.there = false then 0
    else if A.kind q.ino = 2 ∧ A.kind p.ino ≠ 2 then 7
    else if A.kind p.ino = 2 ∧ A.kind q.ino ≠ 2 then 8
    else if (A.names q.ino).length > 0 then 20 else 0
  if e ≠ 0 then e
  else if A.kind p.ino = 2 ∧ (A.within p.ino 13 q.dir).getD false = true then 2
  else if (A.deep 13 q.dir).getD 0 + A.levels 14 p.ino > 12 then 3
  else 0
def AT.renameF (A : AT) (cwd src to : ByteArray) : Int × AT :=
  let r := A.both cwd src to
  let p := r.2.1
  let q := r.2.2
  if r.1 ≠ 0 then (r.1, A)
  else if sEq p.name ⟨⟨[]⟩⟩ = true ∨ sEq q.name ⟨⟨[]⟩⟩ = true then (2, A)
  else if p.there = false then (5, A)
  else if q.there = true ∧ p.ino = q.ino then (0, A)
  else if A.overE p q ≠ 0 then (A.overE p q, A)
  else if q.there = true then
    let u := A.unlinkR q.dir q.name
    if u.1 ≠ 0 then u else u.2.moveR p.dir p.name q.dir q.name 14
  else A.moveR p.dir p.name q.dir q.name 14
end Go.Wk

/-
  DERIVED. MADE BY PROGRAM (lay-iter.mjs) off ytlpcehbfoogejaagreatdoor.cut.gsa: THE SHELF's CONTRACTS ON 'slices.Sorted(maps.Keys(m))' LAID AT THIS DUMP: 1 map type. NO WALK OF THE LIBRARY's TEXT: each is one application of a contract over any P and ρ (Derived/Shelf/SlIter/, Derived/Shelf/SortM/).
-/
namespace Go.Proofs
open Go.RowKit Go.Maps Go.Sort Go.Shelf

-- maps.Keys[map[string]int,string,int] (function 120; its iterator 173) · slices.Sorted[string] (119) · slices.Sort[[]string,string] (172) · the map's type 140, the keys' 9
shelf_lay_g SlLaysZ.n7 Ggz 7 at Tryz 120 as Tryz.keys120
shelf_lay_g SlLaysZ.n6 Ggz 6 at Tryz 119 as Tryz.sorted119
shelf_lay_g SlLaysM.n6 Slgm 6 at Tryz 172 as Tryz.sort172

/-- slices.Sort's two contracts at this dump, at the fence that asks nothing. -/
theorem Tryz.sorts119 (m : Nat) : AnyZ.SortsIn Tryz.prog Tryz.sorted119_ren Fence.wide m :=
  ⟨fun blk off cap ss W hH hblk hsz => callsIn_wide.2 (AnyM.slices_Sort_string Tryz.sort172 blk off cap ss W hH hblk hsz),
   fun p cap W => callsIn_wide.2 (AnyM.slices_Sort_string_none Tryz.sort172 p cap W)⟩

/-- **maps.Keys[map[string]int,string,int], at whatever map, the nil one too:** a function value over ONE NEW BLOCK, which holds the map. -/
theorem Tryz.maps_Keys_120 (mb : Option Nat) (W : World) : CallsIn Fence.wide 5 Tryz.prog 120 #[.map mb] W fun e w' => e = .returned (.func (.func 173) #[] #[.pointer (some ⟨W.heap.size, 0, none⟩)]) ∧ w' = W.alloc (.cells #[.map mb] 140) :=
  AnyZ.keys_in Tryz.keys120 Fence.wide 5 trivial rfl mb W

set_option maxHeartbeats 1000000 in
/-- **slices.Sorted[string] AT WHAT maps.Keys[map[string]int,string,int] HANDED BACK FOR A MAP THAT IS NOT nil** ('w': the world AHEAD of maps.Keys' call): A NEW SLICE THAT HOLDS THE MAP's KEYS, SORTED; nil just where it has none; nothing that lay before has turned. -/
theorem Tryz.slices_Sorted_keys_119_120 {H : Type} (b nn : Nat) (D0 : DataW H) (R : Value → Option (DataW H × List MemPlace)) (w : World) (hown : w.ownsMap Tryz.prog 9 R b nn D0) (hmax : Maps.size D0 ≤ maxLen) (hbytes : Maps.size D0 * 16 ≤ 140737488355328) :
    CallsIn Fence.wide 5 Tryz.prog 119 #[.func (.func 173) #[] #[.pointer (some ⟨w.heap.size, 0, none⟩)]] (w.alloc (.cells #[.map (some b)] 140)) fun e w' => ∃ (v : Value) (ss : List (List UInt8)), e = .returned v ∧ ss.Perm (strKeys D0) ∧
      w'.ownsRow (w.alloc (.cells #[.map (some b)] 140)).heap.size 9 1 v ss.length ((ss.mergeSort (fun x y => decide (x ≤ y))).map encStr) ∧ (v = .slice none 0 0 ↔ ss = []) ∧ Below (w.alloc (.cells #[.map (some b)] 140)).heap.size (w.alloc (.cells #[.map (some b)] 140)) w' := by
  have hbl := hown.lt
  have hseq : SeqGives Fence.wide 2 Tryz.prog 173 #[.pointer (some ⟨w.heap.size, 0, none⟩)] encStr (fun ss => ss.Perm (strKeys D0)) (Maps.size D0) (w.alloc (.cells #[.map (some b)] 140)) :=
    AnyZ.keys_gives (ρ := Tryz.keys120_ren) { Tryz.keys120 with } Fence.wide _ trivial rfl (by omega) w.heap.size b nn D0 _ (by simp) (by simp) (by
      obtain ⟨es, clock, hb, Ft, hs, hD⟩ := hown
      exact ⟨es, clock, (Below.heap_alloc _ _ b hbl).trans hb, Ft, hs, hD⟩)
  exact AnyZ.sorted_in Tryz.sorted119 Fence.wide 5 trivial trivial trivial trivial rfl (by omega) (Tryz.sorts119 _) (enters_of Tryz.func172 (by kernel_rfl) rfl) 173 #[.pointer (some ⟨w.heap.size, 0, none⟩)] trivial (enters_of Tryz.func173 (by kernel_rfl) rfl) _ _ hmax hbytes _ hseq

set_option maxHeartbeats 1000000 in
/-- **.. AND FOR THE nil MAP: nil.** -/
theorem Tryz.slices_Sorted_keys_nil_119_120 (w : World) :
    CallsIn Fence.wide 5 Tryz.prog 119 #[.func (.func 173) #[] #[.pointer (some ⟨w.heap.size, 0, none⟩)]] (w.alloc (.cells #[.map none] 140)) fun e w' => ∃ (v : Value) (ss : List (List UInt8)), e = .returned v ∧ ss = [] ∧
      w'.ownsRow (w.alloc (.cells #[.map none] 140)).heap.size 9 1 v ss.length ((ss.mergeSort (fun x y => decide (x ≤ y))).map encStr) ∧ (v = .slice none 0 0 ↔ ss = []) ∧ Below (w.alloc (.cells #[.map none] 140)).heap.size (w.alloc (.cells #[.map none] 140)) w' := by
  have hseq : SeqGives Fence.wide 2 Tryz.prog 173 #[.pointer (some ⟨w.heap.size, 0, none⟩)] encStr (fun ss : List (List UInt8) => ss = []) 0 (w.alloc (.cells #[.map none] 140)) :=
    AnyZ.keys_gives_nil (ρ := Tryz.keys120_ren) { Tryz.keys120 with } Fence.wide _ trivial rfl w.heap.size _ (by simp) (by simp)
  exact AnyZ.sorted_in Tryz.sorted119 Fence.wide 5 trivial trivial trivial trivial rfl (by omega) (Tryz.sorts119 _) (enters_of Tryz.func172 (by kernel_rfl) rfl) 173 #[.pointer (some ⟨w.heap.size, 0, none⟩)] trivial (enters_of Tryz.func173 (by kernel_rfl) rfl) _ 0 (Nat.zero_le _) (by omega) _ hseq

-- THE CALLER's WALK over 'slices.Sorted(maps.Keys(m))' (inside '(callsIn_wide (n := 6)).1'; 'have hfK : Fence.wide.fn 120 := trivial', 'have hfS : Fence.wide.fn 119 := trivial' ahead): THE TWO ARMS TO PASTE:
--   gi_wp2_with (first
--     | (gi_at_call 120; refine (Tryz.maps_Keys_120 _ _).mono ?_; rintro e w' ⟨rfl, rfl⟩)
--     | (gi_at_call 119; refine (Tryz.slices_Sorted_keys_119_120 b nn D0 R w hown hmax hbytes).mono ?_; rintro e w' ⟨v, ss, rfl, hS, hrow, hnil, hb⟩))


end Go.Proofs

/- WHAT IS ASKED OF THE LIBRARY: slices.Sorted(maps.Keys(m)). -/
set_option maxRecDepth 100000
namespace Go.Proofs.YtlpcehbfoogejaaGreatDoor
open Go Go.HL Go.Wk Go.RowKit Go.Maps Go.Sort Go.Shelf
theorem ext_below {σ : H} {w w' : World} (hw : σ.le w) (hb : Below w.heap.size w w') : Ext σ w σ w' :=
  ⟨fun b o h => (hb.block b (hw.lt h)).trans (hw b o h), hb.size, fun b hlt _ => hb.block b hlt, fun b o h hn => by rw [h] at hn; (cases hn), hb.os, hb.tape, hb.output⟩
theorem ext_below_put {σ : H} {w w' : World} {g : Nat} {o : Obj} (hw : σ.le w) (hb : Below w.heap.size w w') (hg : w.heap.size ≤ g) (ho : w'.heap[g]? = some o) : Ext σ w (σ.put g o) w' := by
  refine ⟨fun b o' h => ?_, hb.size, fun b hlt _ => hb.block b hlt, fun b o' h hn => ?_, hb.os, hb.tape, hb.output⟩
  · by_cases e : b = g
    · subst e; rw [H.put_same] at h; cases h; exact ho
    · rw [H.put_other _ _ e] at h; exact (hb.block b (hw.lt h)).trans (hw b o' h)
  · by_cases e : b = g
    · subst e; exact hg
    · rw [H.put_other _ _ e] at h; rw [h] at hn; cases hn
/-- a slice of strings -/
def StrSl (σ : H) (x : Sl) (l : List ByteArray) : Prop := x.len = l.length ∧ (l = [] ∨ ∃ g cur, x.base = some ⟨g, 0, none⟩ ∧ σ g = some (.cells ⟨cur⟩ 9 (0, 0)) ∧ cur.take l.length = l.map Value.string)
/-- the keys, rising -/
def sortK (l : List ByteArray) : List ByteArray := ((l.map fun s => s.data.toList).mergeSort (fun x y => decide (x ≤ y))).map fun x => ⟨⟨x⟩⟩
theorem x_Sorted {σ : H} {b2 e : Nat} {ents : List (ByteArray × Int)} {t : TypeId} (h2 : σ b2 = some (.cells ⟨[.map (some e)]⟩ t (0, 0))) (hm : MapAt σ e (encL kkS valI ents)) (hk : ∀ s ∈ keysL ents, s.size ≤ maxLen) (hn : ents.length * 16 ≤ 140737488355328) {K : Value → H → Prop}
    (hK : ∀ x σ', Gr σ σ' → StrSl σ' x (sortK (keysL ents)) → K (.slice x.base x.len x.cap) σ') : callW Tryz.prog 119 [.func (.func 173) ⟨[]⟩ ⟨[.pointer (some ⟨b2, 0, none⟩)]⟩] K σ := by
  obtain ⟨es, c, he, hl, hst⟩ := hm
  intro w hw
  let R : Value → Option (DataW Unit × List MemPlace) := fun _ => some (.nil, [])
  have hsz : es.size = ents.length := by
    have := congrArg List.length hl
    simpa [encL] using this
  have hkey : ∀ x ∈ es.toList, ∃ s ∈ keysL ents, x.key = .string s := by
    intro x hx
    have : (x.key, x.val) ∈ encL kkS valI ents := by rw [← hl]; exact List.mem_map.2 ⟨x, hx, rfl⟩
    obtain ⟨⟨s, v⟩, h1, h3⟩ := List.mem_map.1 this
    refine ⟨s, List.mem_map.2 ⟨_, h1, rfl⟩, ?_⟩
    exact (Prod.mk.inj h3).1.symm
  have hrd : ∀ x ∈ es.toList, ∀ s, x.key = .string s → s.size ≤ maxLen → Go.WideElems.rd Tryz.prog 9 R x = some (.string s.data.toList, .nil) := by
    intro x _ s hs hle
    unfold Go.WideElems.rd keyOf mapKey
    rw [hs, und_string]
    simp [hle, R]
  have hown : w.ownsMap Tryz.prog 9 R e es.size (.map ((es.toList.map (Go.WideElems.rg Tryz.prog 9 R)).foldr DataW.insert [])) := by
    refine ⟨es, c, hw e _ he, ⟨?_, hst, ?_⟩, Nat.le_refl _, rfl⟩
    · rw [hsz]; unfold maxLen; omega
    · intro x hx
      obtain ⟨s, h1, h3⟩ := hkey x hx
      exact ⟨_, hrd x hx s h3 (hk s h1)⟩
  have hms : Maps.size (.map ((es.toList.map (Go.WideElems.rg Tryz.prog 9 R)).foldr DataW.insert [])) = ents.length := by
    rw [Maps.size_eq, (Go.WideShapes.sorted_perm _).length_eq]; simp [hsz]
  have hperm : (strKeys (.map ((es.toList.map (Go.WideElems.rg Tryz.prog 9 R)).foldr DataW.insert []))).Perm ((keysL ents).map fun s => s.data.toList) := by
    have h1 : (strKeys (.map ((es.toList.map (Go.WideElems.rg Tryz.prog 9 R)).foldr DataW.insert []))).Perm ((es.toList.map (Go.WideElems.rg Tryz.prog 9 R)).map fun p => strOf p.1) := (Go.WideShapes.sorted_perm _).map _
    have h3 : ((es.toList.map (Go.WideElems.rg Tryz.prog 9 R)).map fun p => strOf p.1) = (keysL ents).map fun s => s.data.toList := by
      have h4 : es.toList.map (fun e => e.key) = (keysL ents).map Value.string := by
        have := congrArg (List.map Prod.fst) hl
        simp only [List.map_map, encL] at this
        rw [keysL, List.map_map]
        exact this
      have h5 : ((es.toList.map (Go.WideElems.rg Tryz.prog 9 R)).map fun p => strOf p.1) = (es.toList.map (fun e => e.key)).map fun v => (match v with | .string s => s.data.toList | _ => []) := by
        rw [List.map_map, List.map_map]
        refine List.map_congr_left ?_
        intro x hx
        obtain ⟨s, h1, h3⟩ := hkey x hx
        simp only [Function.comp]
        rw [h3, Go.WideElems.rg_of (hrd x hx s h3 (hk s h1))]
        rfl
      rw [h5, h4, List.map_map]
      rfl
    rw [← h3]; exact h1
  have hcell : w.cell? ⟨b2, 0, none⟩ = some (.map (some e)) := by simp [World.cell?, hw b2 _ h2]
  have hseq := AnyZ.keys_gives (ρ := Tryz.keys120_ren) { Tryz.keys120 with } Fence.wide 2 trivial rfl (by omega) b2 e es.size (.map ((es.toList.map (Go.WideElems.rg Tryz.prog 9 R)).foldr DataW.insert [])) (R := R) w (hw.lt h2) hcell hown
  have hcall := AnyZ.sorted_in Tryz.sorted119 Fence.wide 5 trivial trivial trivial trivial rfl (by omega) (Tryz.sorts119 _) (enters_of Tryz.func172 (by kernel_rfl) rfl) 173 #[.pointer (some ⟨b2, 0, none⟩)] trivial (enters_of Tryz.func173 (by kernel_rfl) rfl) _ _ (by rw [hms]; unfold maxLen; omega) (by rw [hms]; exact hn) w hseq
  refine callsIn_wide.2 ((callsIn_wide.1 hcall).mono ?_)
  rintro en w' ⟨v, ss, rfl, hS, hrow, hnil, hbel⟩
  have hsrt : ss.mergeSort (fun x y => decide (x ≤ y)) = ((keysL ents).map fun s => s.data.toList).mergeSort (fun x y => decide (x ≤ y)) := mergeSort_of_perm (hS.trans hperm)
  have henc : (ss.mergeSort (fun x y => decide (x ≤ y))).map encStr = (sortK (keysL ents)).map Value.string := by
    rw [hsrt]; unfold sortK; rw [List.map_map]; rfl
  have hlen : ss.length = (sortK (keysL ents)).length := by
    have := congrArg List.length henc
    simpa using this
  obtain ⟨_, ⟨rfl, hz⟩ | ⟨g, cap, cur, rfl, hbg, hcur, _, _, _, htake⟩⟩ := hrow
  · refine ⟨_, rfl, σ, ext_below hw hbel, hK ⟨none, 0, 0⟩ σ (Gr.refl _) ⟨by rw [← hlen, hz], .inl ?_⟩⟩
    apply List.eq_nil_of_length_eq_zero; rw [← hlen, hz]
  · refine ⟨_, rfl, σ.put g (.cells cur 9 (0, 0)), ext_below_put hw hbel hbg hcur, hK ⟨some ⟨g, 0, none⟩, ss.length, cap⟩ _ (Gr.put ?_ _) ⟨hlen, .inr ⟨g, cur.toList, rfl, H.put_same _ _ _, ?_⟩⟩⟩
    · cases hg : σ g with
      | none => rfl
      | some o => have := hw.lt hg; omega
    · rw [← henc, ← hlen]; simpa using htake
theorem x_Sorted_nil {σ : H} {b2 : Nat} {t : TypeId} (h2 : σ b2 = some (.cells ⟨[.map none]⟩ t (0, 0))) {K : Value → H → Prop}
    (hK : K (.slice none 0 0) σ) : callW Tryz.prog 119 [.func (.func 173) ⟨[]⟩ ⟨[.pointer (some ⟨b2, 0, none⟩)]⟩] K σ := by
  intro w hw
  have hcell : w.cell? ⟨b2, 0, none⟩ = some (.map none) := by simp [World.cell?, hw b2 _ h2]
  have hseq := AnyZ.keys_gives_nil (ρ := Tryz.keys120_ren) { Tryz.keys120 with } Fence.wide 2 trivial rfl b2 w (hw.lt h2) hcell
  have hcall := AnyZ.sorted_in Tryz.sorted119 Fence.wide 5 trivial trivial trivial trivial rfl (by omega) (Tryz.sorts119 _) (enters_of Tryz.func172 (by kernel_rfl) rfl) 173 #[.pointer (some ⟨b2, 0, none⟩)] trivial (enters_of Tryz.func173 (by kernel_rfl) rfl) _ 0 (Nat.zero_le _) (by omega) w hseq
  refine callsIn_wide.2 ((callsIn_wide.1 hcall).mono ?_)
  rintro en w' ⟨v, ss, rfl, hS, hrow, hnil, hbel⟩
  have : v = .slice none 0 0 := hnil.2 hS
  subst this
  exact ⟨_, rfl, σ, ext_below hw hbel, hK⟩
theorem sortK_eq (l : List ByteArray) : sortK l = sortN l := by unfold sortK sortN; rw [sortB_merge]
attribute [local irreducible] ptrW ifW brW andW rdT alW letJ stW muW biW vaW imW callT cvalT app callW invW callVW sizeT oW nilF oneK loopW rfW funW begW roundK exW idxW Gr Put
theorem s_Keys (m : Option Nat) {σ : H} {K : Value → H → Prop} (hK : ∀ b σ', Gr σ σ' → σ' b = some (.cells ⟨[.map m]⟩ 140 (0, 0)) → K (.func (.func 173) ⟨[]⟩ ⟨[.pointer (some ⟨b, 0, none⟩)]⟩) σ') : callW Tryz.prog 120 [.map m] K σ := by
  refine c120 _ ?_
  unfold g120
  refine al_i ?_
  intro b σ' hg hb _
  exact hK b σ' hg hb
theorem s_Names {σ : H} {bt : Nat} {A : AT} {B : Nat → Prop} (hA : TabAt σ bt A B) (dir : Int) (hk : ∀ n, A.get dir = some n → (∀ s ∈ keysL n.ents, s.size ≤ 1000) ∧ n.ents.length ≤ 1099511627776) {K : Value → H → Prop}
    (hK : ∀ x σ', Gr σ σ' → StrSl σ' x (AT.names A dir) → K (.slice x.base x.len x.cap) σ') : callW Tryz.prog 67 [.pointer (some ⟨bt, 0, none⟩), .int .i64 dir] K σ := by
  obtain ⟨T, hT, hO, rfl, hB⟩ := hA
  refine c67 _ _ ?_
  unfold g67
  refine call_i (s_get hT dir (app_P ?_))
  unfold AT.names at hK
  simp only [← sortK_eq] at hK
  rw [abs_get] at hK hk
  cases hn : T.get dir with
  | none =>
    rw [hn] at hK
    exact br_t rfl (hK ⟨none, 0, 0⟩ σ (Gr.refl _) ⟨rfl, .inl rfl⟩)
  | some n =>
    rw [hn] at hK hk
    obtain ⟨hk1, hk2⟩ := hk _ rfl
    have hN := hT.get hn
    have cN := hN.cells
    unfold Nd.cells at cN
    refine br_f rfl ?_
    (repeat (first | refine ptr_i ?_ | refine rdT_of (by repeat (first | assumption | refine gG ‹_› ?_ | exact pE ‹_› | refine pG ‹_› (by first | assumption | exact Ne.symm ‹_› | exact ne_fr ‹_› (by repeat (first | exact io ‹_› | exact mS ‹_› | refine gS ‹_› ?_ | refine pS ‹_› ?_)) | exact Ne.symm (ne_fr ‹_› (by repeat (first | exact io ‹_› | exact mS ‹_› | refine gS ‹_› ?_ | refine pS ‹_› ?_)))) ?_)) (by rfl) ?_ | (refine al_i ?_; intro _ _ _ _ _) | refine and_i (rdC_of (by repeat (first | assumption | refine gG ‹_› ?_ | exact pE ‹_› | refine pG ‹_› (by first | assumption | exact Ne.symm ‹_› | exact ne_fr ‹_› (by repeat (first | exact io ‹_› | exact mS ‹_› | refine gS ‹_› ?_ | refine pS ‹_› ?_)) | exact Ne.symm (ne_fr ‹_› (by repeat (first | exact io ‹_› | exact mS ‹_› | refine gS ‹_› ?_ | refine pS ‹_› ?_)))) ?_)) (by rfl)) ?_ | refine rdA_i (by repeat (first | assumption | refine gG ‹_› ?_ | exact pE ‹_› | refine pG ‹_› (by first | assumption | exact Ne.symm ‹_› | exact ne_fr ‹_› (by repeat (first | exact io ‹_› | exact mS ‹_› | refine gS ‹_› ?_ | refine pS ‹_› ?_)) | exact Ne.symm (ne_fr ‹_› (by repeat (first | exact io ‹_› | exact mS ‹_› | refine gS ‹_› ?_ | refine pS ‹_› ?_)))) ?_)) (by rfl) ?_ | (refine st_i2 (by repeat (first | assumption | refine gG ‹_› ?_ | exact pE ‹_› | refine pG ‹_› (by first | assumption | exact Ne.symm ‹_› | exact ne_fr ‹_› (by repeat (first | exact io ‹_› | exact mS ‹_› | refine gS ‹_› ?_ | refine pS ‹_› ?_)) | exact Ne.symm (ne_fr ‹_› (by repeat (first | exact io ‹_› | exact mS ‹_› | refine gS ‹_› ?_ | refine pS ‹_› ?_)))) ?_)) (by first | exact sz_int | exact sz_string | exact sz_bool | exact sz_Inode | exact sz_Quota | exact sz_MSI | exact sz_place | exact sz_Errno) (by rfl) (by rfl) ?_; intro _ _) | refine app_P ?_ | refine app_I ?_ | refine app_S ?_ | refine app_B ?_ | refine app_M ?_ | refine app_L ?_ | refine app_U ?_ | refine app_R ?_ | (refine app_of rfl ?_; try dsimp only)))
    refine call_i (s_Keys _ ?_)
    intro b2 σ1 g1 e1
    refine app_R ?_
    cases he : n.eb with
    | none =>
      rw [he] at e1
      refine call_i (x_Sorted_nil e1 ?_)
      refine app_L ?_
      refine hK ⟨none, 0, 0⟩ σ1 g1 ⟨?_, .inl ?_⟩
      · have : n.abs.ents = [] := hN.none he
        simp [sortK, keysL, this]
      · have : n.abs.ents = [] := hN.none he
        simp [sortK, keysL, this]
    | some e =>
      rw [he] at e1
      refine call_i (x_Sorted e1 ((hN.ents e he).gr g1) (fun s hs => ?_) ?_ ?_)
      · have := hk1 s hs
        unfold maxLen; omega
      · have : n.ents.length ≤ 1099511627776 := hk2
        omega
      · intro x σ2 g2 hx
        refine app_L ?_
        exact hK x σ2 (g1.trans g2) hx
end Go.Proofs.YtlpcehbfoogejaaGreatDoor

/- RANGES OVER STRINGS in a heaplet. -/
namespace Go.HL
open Go
variable {P : Program}
theorem range_str {t : TypeId} (ht : P.underlying t = some .string) (s : ByteArray) {F : Option Addr → H → Prop} {σ : H} (h : ∀ b σ', Gr σ σ' → σ' b = some (.stringIter s 0) → σ b = none → F (some ⟨b, 0, none⟩) σ') : vaW P (Instr.range t (.string s)) (.one (.sc .ptr)) F σ := by
  intro w hw
  have hrun : (valS (Instr.range t (.string s))).run P w = .ok (.value (.pointer (some ⟨w.heap.size, 0, none⟩))) (w.alloc (.stringIter s 0)) := by
    simp [valS, Instr.range, run_underlying ht]
  rw [hrun]
  have hn : σ w.heap.size = none := by
    cases hg : σ w.heap.size with
    | none => rfl
    | some o => have := hw.lt hg; omega
  refine ⟨_, (Ext.alloc hw _).2, app_P (h w.heap.size _ (Gr.put hn _) (H.put_same _ _ _) hn)⟩
theorem next_str {ty : TypeId} {b : Nat} {s : ByteArray} {pos : Nat} {A : H → Prop} {F : Int → Int → H → Prop} {σ : H} (hb : σ b = some (.stringIter s pos))
    (h1 : ¬ pos < s.size → A σ) (h2 : pos < s.size → ∀ σ', Put σ b (.stringIter s (pos + (Utf8.decode s pos).2)) σ' → F pos (Utf8.decode s pos).1 σ') :
    vaW P (Instr.next (.pointer (some ⟨b, 0, none⟩)) true ty) (.opt [.sc (.int .i64), .sc (.int .i32)]) (A, F) σ := by
  intro w hw
  have hg : (getObj b).run P w = .ok (.stringIter s pos) w := by simp [getObj, Sem.run, hw b _ hb]
  by_cases hp : pos < s.size
  · have hs : (setObj b (.stringIter s (pos + (Utf8.decode s pos).2))).run P w = .ok () { w with heap := w.heap.setIfInBounds b (.stringIter s (pos + (Utf8.decode s pos).2)) } := by simp [setObj, Sem.run, hw b _ hb]
    have hrun : (valS (Instr.next (.pointer (some ⟨b, 0, none⟩)) true ty)).run P w = .ok (.value (.tuple ⟨[.bool true, .int .i64 pos, .int .i32 ((Utf8.decode s pos).1 : Nat)]⟩)) { w with heap := w.heap.setIfInBounds b (.stringIter s (pos + (Utf8.decode s pos).2)) } := by
      simp [valS, Instr.next, hg, hp, hs, goInt]
    rw [hrun]
    refine ⟨_, Ext.set hw hb rfl rfl rfl rfl, ?_⟩
    have := h2 hp _ rfl
    simp only [app, TK.prj, optOf, prjC, CK.prj, SK.prj, prjInt, sameK_self, runO]
    exact this
  · have hrun : (valS (Instr.next (.pointer (some ⟨b, 0, none⟩)) true ty)).run P w = .ok (.value (.tuple ⟨[.bool false]⟩)) w := by
      simp [valS, Instr.next, hg, hp]
    rw [hrun]
    exact ⟨σ, Ext.refl hw, h1 hp⟩
end Go.HL

/- WHAT IS ASKED OF THE LIBRARY: strings.ContainsAny at "/\x00". -/
set_option maxRecDepth 100000
namespace Go.Proofs.YtlpcehbfoogejaaGreatDoor
open Go Go.HL Go.Wk
attribute [local irreducible] ptrW ifW brW andW rdT alW letJ stW muW biW vaW imW callT cvalT app callW invW callVW sizeT oW nilF oneK loopW rfW funW begW roundK exW idxW Gr Put
def sl0 : ByteArray := ⟨⟨[47, 0]⟩⟩
theorem idx_i {s : ByteArray} {i : Nat} {c : UInt8} {g : UInt8 → H → Prop} {σ : H} (h : s[i]? = some c) (hg : g c σ) : idxW s (i : Int) g σ := by
  unfold idxW
  rw [if_pos (by omega)]
  have : ((i : Int)).toNat = i := by omega
  rw [this, h]
  exact hg
theorem x_ValidRune (r : Int) {σ : H} {K : Value → H → Prop} (hK : K (.bool (Utf8.valid r)) σ) : callW Tryz.prog 221 [.int .i32 r] K σ := by
  refine c221 _ ?_
  unfold g221
  refine j_i (fun j => ∀ x : Bool, x = decide (0 ≤ r ∧ r < 55296) → j r x σ) ?_ ?_
  · intro x hx
    by_cases h : 0 ≤ r ∧ r < 55296
    · refine br_t (by simp [hx, h]) ?_
      have : Utf8.valid r = true := by simp [Utf8.valid, h]
      rw [this] at hK; exact hK
    · refine br_f (by simp [hx, h]) ?_
      refine j_i (fun j => ∀ y : Bool, y = Utf8.valid r → j y σ) ?_ ?_
      · intro y hy
        cases hv : Utf8.valid r with
        | true => rw [hv] at hK hy; exact br_t hy hK
        | false => rw [hv] at hK hy; exact br_f hy hK
      · intro j hj
        by_cases h2 : 57343 < r
        · refine br_t (by simpa using h2) (hj _ ?_)
          by_cases h3 : r ≤ 1114111
          · have : Utf8.valid r = true := by simp [Utf8.valid, h3]; omega
            rw [this]; simpa using h3
          · have : Utf8.valid r = false := by simp [Utf8.valid]; omega
            rw [this]; simpa using h3
        · refine br_f (by simpa using h2) (hj _ ?_)
          have : Utf8.valid r = false := by simp [Utf8.valid]; omega
          rw [this]
  · intro j hj
    by_cases h : 0 ≤ r
    · exact br_t (by simpa using h) (hj _ (by simp [h]))
    · exact br_f (by simpa using h) (hj _ (by simp [h]))
theorem und_i32 : Tryz.prog.underlying 21 = some (.int .i32) := by kernel_rfl
theorem conv_i (r : Int) {F : ByteArray → H → Prop} {σ : H} (h : F (Utf8.encode r) σ) : vaW Tryz.prog (convert 21 9 (.int .i32 r)) kS F σ := by
  unfold vaW invW
  intro w hw
  have := run_convert_int_string (P := Tryz.prog) w 21 9 .i32 r (by rw [und_i32]; rfl) und_string
  simp only [valS, Sem.run_bind, this, Result.andThen_ok, Sem.run_pure]
  exact ⟨σ, Ext.refl hw, app_S h⟩
theorem ascii_ok : ∀ n : Fin 128, decide (firstIdx sl0 (IntKind.u8.wrap ((n.val : Nat) : Int)).toNat.toUInt8 ≥ 0) = (((n.val : Nat) : Int) == 47 || ((n.val : Nat) : Int) == 0) := by decide
/-- IndexRune in "/\\x00" -/
theorem x_IndexRune (r : Int) {σ : H} {K : Value → H → Prop} (hK : ∀ n : Int, (decide (n ≥ 0) = (r == 47 || r == 0)) → K (.int .i64 n) σ) : callW Tryz.prog 201 [.string sl0, .int .i32 r] K σ := by
  refine callW.drop (K' := fun v σ' => ∃ n : Int, v = .int .i64 n ∧ decide (n ≥ 0) = (r == 47 || r == 0) ∧ Gr σ σ') ?_ (fun v σ' ⟨n, hv, hn, hg⟩ => ⟨σ, hg, hv ▸ hK n hn⟩)
  refine c201 _ _ ?_
  unfold g201
  refine j_i (fun j => ∀ x : Bool, x = decide (0 ≤ r ∧ r < 128) → j sl0 r x σ) ?_ ?_
  case refine_2 =>
    intro j hj
    by_cases h : 0 ≤ r
    · exact br_t (by simpa using h) (hj _ (by simp [h]))
    · exact br_f (by simpa using h) (hj _ (by simp [h]))
  intro x hx
  by_cases h : 0 ≤ r ∧ r < 128
  · refine br_t (by simp [hx, h]) ?_
    refine call_i (x_IndexByte _ _ (app_I ⟨_, rfl, ?_, Gr.refl _⟩))
    obtain ⟨n, rfl⟩ : ∃ n : Nat, r = n := ⟨r.toNat, by omega⟩
    exact ascii_ok ⟨n, by omega⟩
  refine br_f (by simp [hx, h]) ?_
  have hno : (r == 47 || r == 0) = false := by simp; omega
  have hm1 : decide ((-1 : Int) ≥ 0) = (r == 47 || r == 0) := by rw [hno]; decide
  by_cases h5 : r = 65533
  · refine br_t (by simpa using h5) ?_
    refine range_str und_string sl0 ?_
    intro b σ1 g1 e1 n1
    refine loop_i ?_
    intro R hR
    have k2 : ∀ σ', Gr σ σ' → σ' b = some (.stringIter sl0 2) → R (some ⟨b, 0, none⟩) σ' := by
      intro σ' hg hb
      refine hR _ _ (next_str hb (fun _ => ⟨_, rfl, hm1, hg⟩) (fun hlt => absurd hlt (by decide)))
    have k1 : ∀ σ', Gr σ σ' → σ' b = some (.stringIter sl0 1) → R (some ⟨b, 0, none⟩) σ' := by
      intro σ' hg hb
      refine hR _ _ (next_str hb (fun hlt => absurd (by decide) hlt) (fun _ σ2 hp => ?_))
      refine br_f (by decide) ?_
      exact k2 σ2 (hg.putF hp n1) hp.same
    refine hR _ _ (next_str e1 (fun hlt => absurd (by decide) hlt) (fun _ σ2 hp => ?_))
    refine br_f (by decide) ?_
    exact k1 σ2 (g1.putF hp n1) hp.same
  refine br_f (by simpa using h5) ?_
  refine call_i (x_ValidRune r (app_B ?_))
  cases hv : Utf8.valid r with
  | false => exact br_t rfl ⟨_, rfl, hm1, Gr.refl _⟩
  | true =>
    refine br_f rfl (conv_i r ?_)
    have h128 : 128 ≤ r := by
      simp [Utf8.valid] at hv; omega
    obtain ⟨f1, f2, f3⟩ := encode_facts r hv h128
    have hl : IntKind.i64.wrap (((Utf8.encode r).size : Int) - 1) = (((Utf8.encode r).size - 1 : Nat) : Int) := by
      rw [wrap_id (by omega) (by omega)]; omega
    rw [hl]
    refine loop_i ?_
    intro R hR
    refine hR _ _ _ _ _ ?_
    by_cases h2 : (Utf8.encode r).size = 2
    · refine br_t (by rw [h2]; decide) ?_
      refine j_i (fun _ => True) trivial ?_
      intro j _
      have hf := f3 (by omega)
      have hget : (Utf8.encode r)[(Utf8.encode r).size - 1]? = some ((Utf8.encode r)[(Utf8.encode r).size - 1]'(by omega)) := by simp
      have hi1 : sl0[(Utf8.encode r).size - 1]? = some 0 := by rw [h2]; decide
      refine idx_i hi1 (idx_i hget ?_)
      refine br_t (by simp; omega) ?_
      refine if_i ?_ ?_
      · simp only [h2]; exact ⟨trivial, by unfold bndOk; decide⟩
      refine idx_i hget ?_
      refine call_i (x_IndexByte _ _ (app_I ?_))
      have he : sl0.extract (IntKind.i64.wrap ((((Utf8.encode r).size - 1 : Nat) : Int) + 1)).toNat sl0.size = ⟨⟨[]⟩⟩ := by simp only [h2]; decide
      rw [he]
      exact br_t rfl ⟨_, rfl, hm1, Gr.refl _⟩
    · have hs2 : sl0.size = 2 := rfl
      refine br_f (by rw [hs2]; simp; omega) ⟨_, rfl, hm1, Gr.refl _⟩
/-- one round of a range: what is decoded is '/' or nul just where the byte is -/
theorem dec_step (s : ByteArray) (i : Nat) (hi : i < s.size) : 1 ≤ (Utf8.decode s i).2 ∧ i + (Utf8.decode s i).2 ≤ s.size ∧
    ((((Utf8.decode s i).1 : Nat) : Int) == 47 || (((Utf8.decode s i).1 : Nat) : Int) == 0) = ((s.toList.drop i).take (Utf8.decode s i).2).any fun c => c == 47 || c == 0 := by
  have hget : ∀ k, i + k < s.size → s.toList[i + k]? = some (s.get! (i + k)) := by
    intro k hk
    rw [ByteArray.toList_eq]
    have : s.get! (i + k) = s.data[i + k]'hk := by
      show s.data[i + k]! = _
      exact getElem!_pos s.data (i + k) hk
    rw [this]
    simp [hk]
  have hlen : s.toList.length = s.size := by rw [ByteArray.toList_eq]; simp
  have taken : ∀ w, i + w ≤ s.size → (s.toList.drop i).take w = (List.range w).map fun k => s.get! (i + k) := by
    intro w hw
    apply List.ext_getElem?
    intro k
    by_cases hk : k < w
    · rw [List.getElem?_take, if_pos hk, List.getElem?_drop, hget k (by omega)]
      simp [hk]
    · rw [List.getElem?_take, if_neg hk]
      simp [hk]
  have hbig : ∀ k, 128 ≤ (s.get! (i + k)).toNat → ((s.get! (i + k)) == 47 || (s.get! (i + k)) == 0) = false := by
    intro k hk
    cases hc : ((s.get! (i + k)) == 47 || (s.get! (i + k)) == 0) with
    | false => rfl
    | true =>
      simp only [Bool.or_eq_true, beq_iff_eq] at hc
      rcases hc with hc | hc <;> (rw [hc] at hk; exact absurd hk (by decide))
  have hall : ∀ w, i + w ≤ s.size → (∀ k, k < w → 128 ≤ (s.get! (i + k)).toNat) → ((s.toList.drop i).take w).any (fun c => c == 47 || c == 0) = false := by
    intro w hw hk
    rw [taken w hw, List.any_map, List.any_eq_false]
    intro k hkm
    have := hbig k (hk k (List.mem_range.1 hkm))
    simp only [Function.comp]
    rw [this]; simp
  have hcont : ∀ k, (decide (i + k < s.size) && (s.get! (i + k)).toNat / 64 == 2) = true → i + k < s.size ∧ 128 ≤ (s.get! (i + k)).toNat := by
    intro k h
    simp only [Bool.and_eq_true, decide_eq_true_eq, beq_iff_eq] at h
    exact ⟨h.1, by omega⟩
  unfold Utf8.decode
  simp only
  by_cases h0 : (s.get! (i + 0)).toNat < 128
  · rw [if_pos h0]
    refine ⟨by simp, by simp; omega, ?_⟩
    simp only
    rw [taken 1 (by omega)]
    simp only [List.range_one, List.map_cons, List.map_nil, List.any_cons, List.any_nil, Bool.or_false]
    have e1 : ((((s.get! (i + 0)).toNat : Nat) : Int) == 47) = (s.get! (i + 0) == 47) := by
      rw [Bool.eq_iff_iff]; simp only [beq_iff_eq]
      constructor
      · intro h; apply UInt8.toNat_inj.1; show (s.get! (i + 0)).toNat = 47; omega
      · intro h; rw [h]; rfl
    have e2 : ((((s.get! (i + 0)).toNat : Nat) : Int) == 0) = (s.get! (i + 0) == 0) := by
      rw [Bool.eq_iff_iff]; simp only [beq_iff_eq]
      constructor
      · intro h; apply UInt8.toNat_inj.1; show (s.get! (i + 0)).toNat = 0; omega
      · intro h; rw [h]; rfl
    rw [e1, e2]
  rw [if_neg h0]
  have h0' : 128 ≤ (s.get! (i + 0)).toNat := by omega
  have one : ∀ c : Nat, 128 ≤ c → 1 ≤ ((c, 1) : Nat × Nat).2 ∧ i + ((c, 1) : Nat × Nat).2 ≤ s.size ∧ ((((((c, 1) : Nat × Nat).1 : Nat) : Int) == 47 || ((((c, 1) : Nat × Nat).1 : Nat) : Int) == 0) = ((s.toList.drop i).take ((c, 1) : Nat × Nat).2).any fun c => c == 47 || c == 0) := by
    intro c hc
    refine ⟨by simp, by simp; omega, ?_⟩
    rw [hall 1 (by omega) (fun k hk => by have : k = 0 := by omega
                                          subst this; exact h0')]
    simp; omega
  have many : ∀ c w : Nat, 128 ≤ c → 1 ≤ w → i + w ≤ s.size → (∀ k, k < w → 128 ≤ (s.get! (i + k)).toNat) → 1 ≤ ((c, w) : Nat × Nat).2 ∧ i + ((c, w) : Nat × Nat).2 ≤ s.size ∧ ((((((c, w) : Nat × Nat).1 : Nat) : Int) == 47 || ((((c, w) : Nat × Nat).1 : Nat) : Int) == 0) = ((s.toList.drop i).take ((c, w) : Nat × Nat).2).any fun c => c == 47 || c == 0) := by
    intro c w hc hw1 hw hk
    refine ⟨hw1, hw, ?_⟩
    rw [hall w hw hk]
    simp; omega
  split
  · rename_i h1
    simp only [Bool.and_eq_true] at h1
    have c1 := hcont 1 (by simpa using h1.2)
    split
    · rename_i h2
      exact many _ 2 h2 (by omega) (by omega) (fun k hk => by
        rcases (by omega : k = 0 ∨ k = 1) with e | e <;> subst e
        · exact h0'
        · exact c1.2)
    · exact one _ (by decide)
  · split
    · rename_i h1
      simp only [Bool.and_eq_true] at h1
      have c1 := hcont 1 (by simpa using h1.1.2)
      have c2 := hcont 2 (by simpa using h1.2)
      split
      · rename_i h2
        simp only [Bool.and_eq_true, decide_eq_true_eq] at h2
        exact many _ 3 (by omega) (by omega) (by omega) (fun k hk => by
          rcases (by omega : k = 0 ∨ k = 1 ∨ k = 2) with e | e | e <;> subst e
          · exact h0'
          · exact c1.2
          · exact c2.2)
      · exact one _ (by decide)
    · split
      · rename_i h1
        simp only [Bool.and_eq_true] at h1
        have c1 := hcont 1 (by simpa using h1.1.1.2)
        have c2 := hcont 2 (by simpa using h1.1.2)
        have c3 := hcont 3 (by simpa using h1.2)
        split
        · rename_i h2
          simp only [Bool.and_eq_true, decide_eq_true_eq] at h2
          exact many _ 4 (by omega) (by omega) (by omega) (fun k hk => by
            rcases (by omega : k = 0 ∨ k = 1 ∨ k = 2 ∨ k = 3) with e | e | e | e <;> subst e
            · exact h0'
            · exact c1.2
            · exact c2.2
            · exact c3.2)
        · exact one _ (by decide)
      · exact one _ (by decide)
theorem app_RB {v : Value} {x : Bool} {F : Value → Bool → H → Prop} {σ : H} (h2 : F v x σ) : HL.app (.tup [.sc .raw, .sc .bool]) F (.tuple ⟨[v, .bool x]⟩) σ := by
  unfold HL.app; exact h2
def setL : List Value := (List.range 256).map fun i => .bool (i == 47 || i == 0)
theorem sz_set : sizeT Tryz.prog 220 = some 256 := by kernel_rfl
theorem x_makeSet {σ : H} {K : Value → H → Prop} (hK : K (.tuple ⟨[.agg ⟨setL⟩, .bool true]⟩) σ) : callW Tryz.prog 203 [.string sl0] K σ := by
  refine pure_i _ hK (c203 _ ?_)
  unfold g203
  refine al_i ?_
  intro b σ1 g1 e1 n1
  refine loop_i ?_
  intro R hR
  refine hR _ _ _ _ (br_t (by decide) (idx_i (i := 0) (c := 47) (by decide) (br_f (by decide) (ptr_i (if_i (by decide) ?_)))))
  refine st_i2 e1 sz_bool (by rfl) (by rfl) ?_
  intro σ2 p2
  refine hR _ _ _ _ (br_t (by decide) (idx_i (i := 1) (c := 0) (by decide) (br_f (by decide) (ptr_i (if_i (by decide) ?_)))))
  refine st_i2 p2.same sz_bool (by rfl) (by rfl) ?_
  intro σ3 p3
  have e3 : σ3 b = some (.cells ⟨setL⟩ 220 (0, 0)) := by rw [p3.same]; rfl
  have g3 : Gr σ σ3 := (g1.putF p2 n1).putF p3 n1
  refine hR _ _ _ _ (br_f (by decide) (ptr_i ?_))
  refine rd_R (rdA_of' e3 (by rfl)) ?_
  refine st_i2 e3 sz_set (by rfl) (by rfl) ?_
  intro σ4 p4
  have e4 : σ4 b = some (.cells ⟨setL⟩ 220 (0, 0)) := by rw [p4.same]; rfl
  refine ptr_i (rd_R (rdA_of' e4 (by rfl)) ?_)
  exact ⟨rfl, g3.putF p4 n1⟩
theorem x_IndexAny (s : ByteArray) (hs : s.size ≤ 1000000) {σ : H} {K : Value → H → Prop} (hK : ∀ n : Int, decide (n ≥ 0) = badByte s → K (.int .i64 n) σ) : callW Tryz.prog 187 [.string s, .string sl0] K σ := by
  refine callW.drop (K' := fun v σ' => ∃ n : Int, v = .int .i64 n ∧ decide (n ≥ 0) = badByte s ∧ Gr σ σ') ?_ (fun v σ' ⟨n, hv, hn, hg⟩ => ⟨σ, hg, hv ▸ hK n hn⟩)
  refine c187 _ _ ?_
  unfold g187
  refine br_f (by rw [strEq, ByteArray.toList_eq, ByteArray.toList_eq]; rfl) (br_f (by decide) ?_)
  refine j_i (fun j => ∀ σ', Gr σ σ' → j s sl0 σ') ?_ ?_
  · intro σ0 g0
    refine range_str und_string s ?_
    intro b σ1 g1 e1 n1
    refine loop_i ?_
    intro R hR
    have key : ∀ k i σ', s.size - i ≤ k → i ≤ s.size → Gr σ0 σ' → σ' b = some (.stringIter s i) → ((s.toList.take i).any fun c => c == 47 || c == 0) = false → R sl0 (some ⟨b, 0, none⟩) σ' := by
      intro k
      induction k with
      | zero =>
        intro i σ' hk hi hg hb hf
        refine hR _ _ _ (next_str hb (fun _ => ⟨_, rfl, ?_, g0.trans hg⟩) (fun hlt => by omega))
        have : s.toList.take i = s.toList := by rw [List.take_of_length_le]; rw [ByteArray.toList_eq]; simp; omega
        rw [this] at hf
        unfold badByte; rw [← ByteArray.toList_eq]; rw [hf]; decide
      | succ k ih =>
        intro i σ' hk hi hg hb hf
        refine hR _ _ _ (next_str hb (fun hlt => ⟨_, rfl, ?_, g0.trans hg⟩) (fun hlt σ2 hp => ?_))
        · have : s.toList.take i = s.toList := by rw [List.take_of_length_le]; rw [ByteArray.toList_eq]; simp; omega
          rw [this] at hf
          unfold badByte; rw [← ByteArray.toList_eq]; rw [hf]; decide
        · obtain ⟨d1, d2, d3⟩ := dec_step s i hlt
          have hg2 : Gr σ0 σ2 := hg.putF hp n1
          refine call_i (x_IndexRune _ ?_)
          intro n hn
          refine app_I ?_
          cases hc : ((((Utf8.decode s i).1 : Nat) : Int) == 47 || (((Utf8.decode s i).1 : Nat) : Int) == 0) with
          | true =>
            rw [hc] at hn d3
            refine br_t hn ⟨_, rfl, ?_, g0.trans hg2⟩
            have hb : badByte s = true := by
              unfold badByte; rw [← ByteArray.toList_eq]
              obtain ⟨c, h1, h2⟩ := List.any_eq_true.1 d3.symm
              exact List.any_eq_true.2 ⟨c, List.mem_of_mem_drop (List.mem_of_mem_take h1), h2⟩
            rw [hb]; simp
          | false =>
            rw [hc] at hn d3
            refine br_f hn ?_
            refine ih (i + (Utf8.decode s i).2) σ2 (by omega) d2 hg2 hp.same ?_
            rw [List.take_add, List.any_append, hf, ← d3]; rfl
    exact key _ 0 σ1 (Nat.le_refl _) (by omega) g1 e1 rfl
  · intro j hj
    refine call_i ?_
    refine c202 _ ?_
    unfold g202
    refine app_B ?_
    by_cases h8 : 8 < s.size
    · refine br_t (by simp; omega) ?_
      refine call_i (x_makeSet ?_)
      refine app_RB ?_
      refine al_i ?_
      intro b σ1 g1 e1 n1
      refine st_i2 e1 sz_set (by rfl) (by rfl) ?_
      intro σ2 p2
      have e2 : σ2 b = some (.cells ⟨setL⟩ 220 (0, 0)) := by rw [p2.same]; rfl
      have g2 : Gr σ σ2 := g1.putF p2 n1
      refine br_t rfl ?_
      refine loop_i ?_
      intro R hR
      have hlen : s.toList.length = s.size := by rw [ByteArray.toList_eq]; simp
      have key : ∀ k i : Nat, s.size - i ≤ k → i ≤ s.size → ((s.toList.take i).any fun c => c == 47 || c == 0) = false → R s (some ⟨b, 0, none⟩) (i : Int) σ2 := by
        intro k
        induction k with
        | zero =>
          intro i hk hi hf
          refine hR _ _ _ _ (br_f (by simp; omega) ⟨_, rfl, ?_, g2⟩)
          have : s.toList.take i = s.toList := by rw [List.take_of_length_le]; omega
          rw [this] at hf
          unfold badByte; rw [← ByteArray.toList_eq]; rw [hf]; decide
        | succ k ih =>
          intro i hk hi hf
          by_cases hlt : i < s.size
          · refine hR _ _ _ _ (br_t (by simp; omega) ?_)
            have hget : s[i]? = some s[i] := by simp [hlt]
            refine idx_i hget ?_
            refine call_i ?_
            refine c204 _ _ ?_
            unfold g204
            have hb256 : (s[i]).toNat < 256 := UInt8.toNat_lt _
            refine ptr_i (if_i ⟨by omega, by omega⟩ ?_)
            refine rd_B (x := (s[i].toNat == 47 || s[i].toNat == 0)) (rdC_of e2 ?_) (app_B ?_)
            · have : (0 + (((s[i]).toNat : Int)).toNat * 1) = (s[i]).toNat := by omega
              rw [this]
              simp [setL, hb256]
            · have hc : (s[i].toNat == 47 || s[i].toNat == 0) = (s[i] == 47 || s[i] == 0) := by
                have q : ∀ n : UInt8, (s[i].toNat == n.toNat) = (s[i] == n) := by
                  intro n; rw [Bool.eq_iff_iff]; simp only [beq_iff_eq]; exact UInt8.toNat_inj
                have q1 := q 47
                have q2 := q 0
                rw [← q1, ← q2]; rfl
              rw [hc]
              have hli : s.toList[i]? = some s[i] := by
                rw [ByteArray.toList_eq]; simp [hlt, ByteArray.getElem_eq_getElem_data]
              cases hv : (s[i] == 47 || s[i] == 0) with
              | true =>
                refine br_t rfl ⟨_, rfl, ?_, g2⟩
                have hb : badByte s = true := by
                  unfold badByte; rw [← ByteArray.toList_eq]
                  exact List.any_eq_true.2 ⟨s[i], List.mem_of_getElem? hli, hv⟩
                rw [hb]; simp
              | false =>
                refine br_f rfl ?_
                rw [wrap_id (by omega) (by omega)]
                refine ih (i + 1) (by omega) (by omega) ?_
                rw [List.take_add_one, List.any_append, hf, hli]
                simpa using hv
          · refine hR _ _ _ _ (br_f (by simp; omega) ⟨_, rfl, ?_, g2⟩)
            have : s.toList.take i = s.toList := by rw [List.take_of_length_le]; omega
            rw [this] at hf
            unfold badByte; rw [← ByteArray.toList_eq]; rw [hf]; decide
      exact key _ 0 (Nat.le_refl _) (by omega) rfl
    · exact br_f (by simp; omega) (hj σ (Gr.refl _))
theorem cAny : CAny := by
  intro s hs σ K hK
  refine c157 _ _ ?_
  unfold g157
  refine call_i (x_IndexAny s hs ?_)
  intro n hn
  refine app_I ?_
  rw [hn]
  exact hK
end Go.Proofs.YtlpcehbfoogejaaGreatDoor

/- ITERATORS: what a loop's body must give, told apart from what calls it. -/
namespace Go.HL
open Go
/-- blocks that stay -/
def OwnK (D : Nat → Prop) (σ σ' : H) : Prop := ∀ b o, D b → σ b = some o → σ' b = some o
theorem OwnK.refl (D : Nat → Prop) (σ : H) : OwnK D σ σ := fun _ _ _ h => h
theorem OwnK.trans {D : Nat → Prop} {σ σ' σ'' : H} (h : OwnK D σ σ') (k : OwnK D σ' σ'') : OwnK D σ σ'' := fun b o hd hb => k b o hd (h b o hd hb)
theorem OwnK.gr {D : Nat → Prop} {σ σ' : H} (h : Gr σ σ') : OwnK D σ σ' := fun _ _ _ hb => h.get hb
theorem OwnK.put {D : Nat → Prop} {σ σ' σ'' : H} {b : Nat} {o : Obj} (h : OwnK D σ σ') (hp : Put σ' b o σ'') (hd : ¬ D b) : OwnK D σ σ'' :=
  fun c oc hc hb => hp.get (fun e => hd (e ▸ hc)) (h c oc hc hb)
/-- a client of an iterator: y is called with one item behind the other; D: the iterator's own blocks; I: ahead of these items; S: it has said 'stop' -/
structure Cl {ι : Type} (P : Program) (y : Value) (D : Nat → Prop) (R : ι → List Value → H → Prop) (I : List ι → H → Prop) (S : H → Prop) : Prop where
  put : ∀ r σ b o σ', I r σ → D b → Put σ b o σ' → I r σ'
  putS : ∀ σ b o σ', S σ → D b → Put σ b o σ' → S σ'
  gr : ∀ r σ σ', I r σ → Gr σ σ' → I r σ'
  grS : ∀ σ σ', S σ → Gr σ σ' → S σ'
  call : ∀ a r args σ K, I (a :: r) σ → R a args σ → (∀ σ', I r σ' → OwnK D σ σ' → K (.bool true) σ') → (∀ σ', S σ' → OwnK D σ σ' → K (.bool false) σ') → callVW P y args K σ
theorem yv_call {P : Program} {l : Nat} {args : List Value} {K : Value → H → Prop} {σ : H} (h : invW P (callS (yv l) args) K σ) : callVW P (yv l) args K σ := h
theorem one_y {l : Nat} {g : H → Prop} {σ : H} (h : g σ) : oneK (yv l) g σ := by unfold oneK yv; exact h
/-- a function that sets one block and nothing else -/
theorem callW.pureP {P : Program} {f : FuncId} {args : List Value} {K : Value → H → Prop} {σ : H} {b : Nat} {o : Obj} {v : Value} (h : callW P f args (fun u σ' => u = v ∧ Gr (σ.put b o) σ') σ) (hk : ∀ σ', Put σ b o σ' → K v σ') : callW P f args K σ :=
  h.drop fun _ _ ⟨hu, hg⟩ => ⟨σ.put b o, hg, hu ▸ hk _ rfl⟩
theorem LoopObj.state {obj : LoopState → Option Code → Obj} (h : LoopObj obj) {s s' : LoopState} {j j' : Option Code} (he : obj s j = obj s' j') : s = s' ∧ j = j' := by
  obtain ⟨r, hr⟩ := h
  rw [hr, hr] at he
  simp only [Obj.loop.injEq, Loop.mk.injEq] at he
  exact ⟨he.1, he.2.1⟩

theorem at_toList {s : ByteArray} {i : Nat} {c : UInt8} (h : s.data.toList[i]? = some c) : s[i]? = some c := by
  have hl : s.data.toList.length = s.size := rfl
  have hi : i < s.size := by
    rcases Nat.lt_or_ge i s.data.toList.length with h' | h'
    · omega
    · rw [List.getElem?_eq_none h'] at h; cases h
  rw [getElem?_pos s i hi]
  rw [List.getElem?_eq_getElem (by omega)] at h
  have : s[i] = s.data.toList[i] := by simp [ByteArray.getElem_eq_getElem_data]
  rw [this]; exact h
theorem idx_l {s : ByteArray} {i : Int} {g : UInt8 → H → Prop} {σ : H} {c : UInt8} (h0 : 0 ≤ i) (h : s.data.toList[i.toNat]? = some c) (hg : g c σ) : idxW s i g σ := by
  unfold idxW; rw [if_pos h0, at_toList h]; exact hg
theorem bnd_none {m : Nat} : bndOk none m := trivial
theorem bnd_some {x : Int} {m : Nat} (h0 : 0 ≤ x) (h1 : x ≤ m) : bndOk (some x) m := ⟨h0, h1⟩

section
variable {P : Program}
theorem fun_i {g : FuncId} {as_ cs : List Value} {F : FuncId → List Value → List Value → H → Prop} {σ : H} (h : F g as_ cs σ) : funW (.func (.func g) ⟨as_⟩ ⟨cs⟩) F σ := h
theorem rf_i {g : FuncId} {as_ cs : List Value} {ks : List CK} {body : (l : Nat) → (LoopState → Option Code → Obj) → (Value → H → Prop) → FnC ks (H → Prop)} {Kn : H → Prop} {Kx : Nat → H → Prop} {Kr : H → Prop} {σ : H} (hg : isGo P g = true)
    (h : ∀ l obj σ', σ l = none → Put σ l (obj .ready none) σ' → LoopObj obj → YieldOk P l (fun args K σ' => σ' l = some (obj .ready none) ∧ runO (prjC ks (body l obj K) args) σ') → callW P g (as_ ++ [yv l] ++ cs) (fun _ => endK l obj Kn Kx Kr) σ') : rfW P none g as_ cs ks body Kn Kx Kr σ :=
  ⟨hg, (fun _ h => by cases h), fun l obj h1 h2 h3 => h l obj _ h1 rfl h2 h3⟩
/-- in a loop's body -/
theorem rf_in {l0 : Nat} {r0 : Loop} {g : FuncId} {as_ cs : List Value} {ks : List CK} {body : (l : Nat) → (LoopState → Option Code → Obj) → (Value → H → Prop) → FnC ks (H → Prop)} {Kn : H → Prop} {Kx : Nat → H → Prop} {Kr : H → Prop} {σ : H} (hl0 : σ l0 = some (.loop r0)) (hg : isGo P g = true)
    (h : ∀ l obj σ', σ l = none → Put σ l (obj .ready none) σ' → LoopObj obj → YieldOk P l (fun args K σ' => σ' l = some (obj .ready none) ∧ runO (prjC ks (body l obj K) args) σ') → callW P g (as_ ++ [yv l] ++ cs) (fun _ => endK l obj Kn Kx Kr) σ') : rfW P (some l0) g as_ cs ks body Kn Kx Kr σ :=
  ⟨hg, (fun _ h => by cases h; exact ⟨_, hl0⟩), fun l obj h1 h2 h3 => h l obj _ h1 rfl h2 h3⟩
theorem beg_i {l : Nat} {obj : LoopState → Option Code → Obj} {g : H → Prop} {σ : H} (h : σ l = some (obj .ready none)) (hg : ∀ σ', Put σ l (obj .busy none) σ' → g σ') : begW l obj g σ := ⟨h, hg _ rfl⟩
theorem round_i {l : Nat} {obj : LoopState → Option Code → Obj} {K : Value → H → Prop} {j : Option Code} {b : Bool} {s : LoopState} {σ : H} (h : σ l = some (obj .busy none)) (hk : ∀ σ', Put σ l (obj s j) σ' → K (.bool b) σ') : roundK l obj K j b s σ := ⟨h, hk _ rfl⟩
theorem end_n {l : Nat} {obj : LoopState → Option Code → Obj} {Kn : H → Prop} {Kx : Nat → H → Prop} {Kr : H → Prop} {σ : H} {s : LoopState} (h : σ l = some (obj s none)) (hs : s ≠ .busy) (hk : ∀ σ', Put σ l (obj .exhausted none) σ' → Kn σ') : endK l obj Kn Kx Kr σ := ⟨s, none, h, hs, hk _ rfl⟩
theorem end_r {l : Nat} {obj : LoopState → Option Code → Obj} {Kn : H → Prop} {Kx : Nat → H → Prop} {Kr : H → Prop} {σ : H} {s : LoopState} (h : σ l = some (obj s (some .ret))) (hs : s ≠ .busy) (hk : ∀ σ', Put σ l (obj .exhausted (some .ret)) σ' → Kr σ') : endK l obj Kn Kx Kr σ := ⟨s, _, h, hs, hk _ rfl⟩
theorem end_x {l : Nat} {obj : LoopState → Option Code → Obj} {Kn : H → Prop} {Kx : Nat → H → Prop} {Kr : H → Prop} {σ : H} {s : LoopState} {i : Nat} (h : σ l = some (obj s (some (.exit i)))) (hs : s ≠ .busy) (hk : ∀ σ', Put σ l (obj .exhausted (some (.exit i))) σ' → Kx i σ') : endK l obj Kn Kx Kr σ := ⟨s, _, h, hs, hk _ rfl⟩
end
theorem rdA_gr {τ σ : H} (hg : Gr τ σ) {n b o : Nat} {v : Value} (h : rdA n b o τ = some v) : rdA n b o σ = some v := by
  unfold rdA at h ⊢
  cases hb : τ b with
  | none => rw [hb] at h; cases h
  | some ob => rw [hg.get hb]; rw [hb] at h; exact h
theorem rdC_gr {τ σ : H} (hg : Gr τ σ) {b o : Nat} {v : Value} (h : rdC b o τ = some v) : rdC b o σ = some v := by
  unfold rdC at h ⊢
  cases hb : τ b with
  | none => rw [hb] at h; cases h
  | some ob => rw [hg.get hb]; rw [hb] at h; exact h
end Go.HL

/- PATHS: parts between strokes. -/
namespace Go.Wk
open Go Go.HL
theorem splitL_none {c : UInt8} : ∀ {l : List UInt8}, c ∉ l → splitL c l = [l] := by
  intro l
  induction l with
  | nil => intro _; rfl
  | cons x l ih =>
    intro h
    simp only [List.mem_cons, not_or] at h
    have hx : (x == c) = false := by simpa using fun e => h.1 e.symm
    simp only [splitL, hx, ih h.2]
theorem splitL_some {c : UInt8} {b : List UInt8} : ∀ {a : List UInt8}, c ∉ a → splitL c (a ++ c :: b) = a :: splitL c b := by
  intro a
  induction a with
  | nil => intro _; simp [splitL]
  | cons x a ih =>
    intro h
    simp only [List.mem_cons, not_or] at h
    have hx : (x == c) = false := by simpa using fun e => h.1 e.symm
    simp only [List.cons_append, splitL, hx, ih h.2]
theorem splitL_ne {c : UInt8} : ∀ l : List UInt8, splitL c l ≠ [] := by
  intro l
  induction l with
  | nil => simp [splitL]
  | cons x l ih =>
    simp only [splitL]
    cases (x == c) with
    | true => simp
    | false =>
      cases h : splitL c l with
      | nil => simp
      | cons => simp
theorem toList_at (s : ByteArray) (i : Nat) (h : i < s.size) : s.data.toList[i]? = some s[i]! := by
  rw [getElem!_pos s i h]
  have : s[i] = s.data[i] := rfl
  rw [this]; simp
theorem firstIdx_split (s : ByteArray) (c : UInt8) : (firstIdx s c = -1 ∧ c ∉ s.data.toList) ∨ ∃ i : Nat, firstIdx s c = (i : Int) ∧ i < s.size ∧ c ∉ s.data.toList.take i ∧ s.data.toList = s.data.toList.take i ++ c :: s.data.toList.drop (i + 1) := by
  have hlen : s.data.toList.length = s.size := rfl
  unfold firstIdx
  cases hf : (List.range s.size).find? fun i => s[i]! == c with
  | none =>
    refine .inl ⟨rfl, fun hm => ?_⟩
    obtain ⟨i, hi, he⟩ := List.getElem_of_mem hm
    have h1 := List.find?_eq_none.1 hf i (by simpa [hlen] using hi)
    have h2 := toList_at s i (by omega)
    rw [List.getElem?_eq_getElem hi, he] at h2
    simp at h2
    exact h1 (by simp [h2])
  | some i =>
    rw [List.find?_range_eq_some] at hf
    obtain ⟨h1, h2, h3⟩ := hf
    have hi : i < s.size := by simpa using h2
    refine .inr ⟨i, rfl, hi, fun hm => ?_, ?_⟩
    · obtain ⟨j, hj, he⟩ := List.getElem_of_mem hm
      have hj' : j < i := by have := hj; simp at this; omega
      have h4 := h3 j hj'
      have h5 := toList_at s j (by omega)
      rw [List.getElem_take] at he
      rw [List.getElem?_eq_getElem (by omega), he] at h5
      simp at h5
      simp [h5] at h4
    · have h5 := toList_at s i hi
      have hc : s[i]! = c := by simpa using h1
      rw [hc] at h5
      have h6 : s.data.toList.drop i = c :: s.data.toList.drop (i + 1) := by
        rw [List.drop_eq_getElem_cons (by omega)]
        rw [List.getElem?_eq_getElem (by omega)] at h5
        simp only [Option.some.injEq] at h5
        rw [h5]
      rw [← h6, List.take_append_drop]
def partsOf (c : UInt8) (s : ByteArray) : List ByteArray := (splitL c s.data.toList).map fun l => (⟨⟨l⟩⟩ : ByteArray)
theorem partsOf_none {c : UInt8} {s : ByteArray} (h : firstIdx s c < 0) : partsOf c s = [s] := by
  rcases firstIdx_split s c with ⟨_, h1⟩ | ⟨i, h1, _⟩
  · unfold partsOf; rw [splitL_none h1]; rfl
  · omega
theorem extract_toList (s : ByteArray) (a b : Nat) : (s.extract a b).data.toList = (s.data.toList.take b).drop a := by
  rw [ByteArray.data_extract, Array.toList_extract, List.extract_eq_drop_take']
theorem partsOf_some {c : UInt8} {s : ByteArray} (h : 0 ≤ firstIdx s c) : (firstIdx s c).toNat < s.size ∧ partsOf c s = s.extract 0 (firstIdx s c).toNat :: partsOf c (s.extract ((firstIdx s c).toNat + 1) s.size) := by
  rcases firstIdx_split s c with ⟨h0, _⟩ | ⟨i, h1, h2, h3, h4⟩
  · omega
  · have : (firstIdx s c).toNat = i := by omega
    rw [this]
    refine ⟨h2, ?_⟩
    have hl : s.data.toList.length = s.size := rfl
    unfold partsOf
    rw [extract_toList, show s.data.toList.take s.size = s.data.toList by rw [← hl, List.take_length]]
    conv => lhs; rw [h4]
    rw [splitL_some h3]
    simp only [List.map_cons, List.cons.injEq, and_true]
    have : (s.extract 0 i) = ⟨⟨(s.extract 0 i).data.toList⟩⟩ := rfl
    rw [this, extract_toList]; rfl
def lasts : List ByteArray → List (ByteArray × Bool)
  | [] => []
  | x :: r => (x, r.isEmpty) :: lasts r
theorem partsB_eq (s : ByteArray) : partsB s = (partsOf 47 s).filter okPart := rfl

/-! ### A step of a walk -/
section
variable {A : AT} {go : Int → ByteArray → Int → Int × Pl × Int} {follow : Bool} {name : ByteArray} {rest : List ByteArray} {p : Pl} {h : Int}
theorem steps_none (h1 : p.there = false) : A.steps go follow (name :: rest) p h = (5, Pl.z, h) := by rw [AT.steps, if_pos h1]
theorem steps_notdir (h1 : p.there = true) (h2 : A.kind p.ino ≠ 2) : A.steps go follow (name :: rest) p h = (8, Pl.z, h) := by rw [AT.steps, if_neg (by simp [h1]), if_pos h2]
theorem steps_up (h1 : p.there = true) (h2 : A.kind p.ino = 2) (h3 : sEq name ⟨⟨[46, 46]⟩⟩ = true) : A.steps go follow (name :: rest) p h = A.steps go follow rest ⟨A.upOf p.ino, ⟨⟨[]⟩⟩, A.upOf p.ino, true⟩ h := by
  rw [AT.steps, if_neg (by simp [h1]), if_neg (by simp [h2]), if_pos h3]
theorem steps_long (h1 : p.there = true) (h2 : A.kind p.ino = 2) (h3 : sEq name ⟨⟨[46, 46]⟩⟩ = false) (h4 : name.size > 56) : A.steps go follow (name :: rest) p h = (3, Pl.z, h) := by
  rw [AT.steps, if_neg (by simp [h1]), if_neg (by simp [h2]), if_neg (by simp [h3]), if_pos h4]
theorem steps_name (h1 : p.there = true) (h2 : A.kind p.ino = 2) (h3 : sEq name ⟨⟨[46, 46]⟩⟩ = false) (h4 : ¬ name.size > 56) (h5 : (A.find p.ino name).isSome = false ∨ (rest.isEmpty && !follow) = true ∨ A.kind ((A.find p.ino name).getD 0) ≠ 3) :
    A.steps go follow (name :: rest) p h = A.steps go follow rest ⟨p.ino, name, (A.find p.ino name).getD 0, (A.find p.ino name).isSome⟩ h := by
  rw [AT.steps, if_neg (by simp [h1]), if_neg (by simp [h2]), if_neg (by simp [h3]), if_neg h4]
  simp only
  rw [if_pos h5]
theorem steps_loop (h1 : p.there = true) (h2 : A.kind p.ino = 2) (h3 : sEq name ⟨⟨[46, 46]⟩⟩ = false) (h4 : ¬ name.size > 56) (h5 : ¬ ((A.find p.ino name).isSome = false ∨ (rest.isEmpty && !follow) = true ∨ A.kind ((A.find p.ino name).getD 0) ≠ 3)) (h6 : h - 1 < 0) :
    A.steps go follow (name :: rest) p h = (9, Pl.z, h - 1) := by
  rw [AT.steps, if_neg (by simp [h1]), if_neg (by simp [h2]), if_neg (by simp [h3]), if_neg h4]
  simp only
  rw [if_neg h5, if_pos h6]
theorem steps_err (h1 : p.there = true) (h2 : A.kind p.ino = 2) (h3 : sEq name ⟨⟨[46, 46]⟩⟩ = false) (h4 : ¬ name.size > 56) (h5 : ¬ ((A.find p.ino name).isSome = false ∨ (rest.isEmpty && !follow) = true ∨ A.kind ((A.find p.ino name).getD 0) ≠ 3)) (h6 : ¬ h - 1 < 0)
    (h7 : (go p.ino (A.data ((A.find p.ino name).getD 0)) (h - 1)).1 ≠ 0) :
    A.steps go follow (name :: rest) p h = ((go p.ino (A.data ((A.find p.ino name).getD 0)) (h - 1)).1, Pl.z, (go p.ino (A.data ((A.find p.ino name).getD 0)) (h - 1)).2.2) := by
  rw [AT.steps, if_neg (by simp [h1]), if_neg (by simp [h2]), if_neg (by simp [h3]), if_neg h4]
  simp only
  rw [if_neg h5, if_neg h6, if_pos h7]
theorem steps_link (h1 : p.there = true) (h2 : A.kind p.ino = 2) (h3 : sEq name ⟨⟨[46, 46]⟩⟩ = false) (h4 : ¬ name.size > 56) (h5 : ¬ ((A.find p.ino name).isSome = false ∨ (rest.isEmpty && !follow) = true ∨ A.kind ((A.find p.ino name).getD 0) ≠ 3)) (h6 : ¬ h - 1 < 0)
    (h7 : (go p.ino (A.data ((A.find p.ino name).getD 0)) (h - 1)).1 = 0) :
    A.steps go follow (name :: rest) p h = A.steps go follow rest (go p.ino (A.data ((A.find p.ino name).getD 0)) (h - 1)).2.1 (go p.ino (A.data ((A.find p.ino name).getD 0)) (h - 1)).2.2 := by
  rw [AT.steps, if_neg (by simp [h1]), if_neg (by simp [h2]), if_neg (by simp [h3]), if_neg h4]
  simp only
  rw [if_neg h5, if_neg h6, if_neg (by simp [h7])]
end
/-- links that may be followed grow no more -/
theorem steps_hops {A : AT} {go : Int → ByteArray → Int → Int × Pl × Int} {follow : Bool} (hgo : ∀ d s x, 0 ≤ x → -1 ≤ (go d s x).2.2 ∧ (go d s x).2.2 ≤ x ∧ ((go d s x).1 = 0 → 0 ≤ (go d s x).2.2)) : ∀ (l : List ByteArray) (p : Pl) (h : Int), 0 ≤ h → -1 ≤ (A.steps go follow l p h).2.2 ∧ (A.steps go follow l p h).2.2 ≤ h ∧ ((A.steps go follow l p h).1 = 0 → 0 ≤ (A.steps go follow l p h).2.2) := by
  intro l
  induction l with
  | nil => intro p h hh; simp [AT.steps]; omega
  | cons n r ih =>
    intro p h hh
    cases h1 : p.there with
    | false => rw [steps_none h1]; exact ⟨by show (-1 : Int) ≤ h; omega, Int.le_refl _, fun _ => hh⟩
    | true =>
      by_cases h2 : A.kind p.ino = 2
      case neg => rw [steps_notdir h1 h2]; exact ⟨by show (-1 : Int) ≤ h; omega, Int.le_refl _, fun _ => hh⟩
      cases h3 : sEq n ⟨⟨[46, 46]⟩⟩ with
      | true => rw [steps_up h1 h2 h3]; exact ih _ h hh
      | false =>
        by_cases h4 : n.size > 56
        · rw [steps_long h1 h2 h3 h4]; exact ⟨by show (-1 : Int) ≤ h; omega, Int.le_refl _, fun _ => hh⟩
        by_cases h5 : (A.find p.ino n).isSome = false ∨ (r.isEmpty && !follow) = true ∨ A.kind ((A.find p.ino n).getD 0) ≠ 3
        · rw [steps_name h1 h2 h3 h4 h5]; exact ih _ h hh
        by_cases h6 : h - 1 < 0
        · rw [steps_loop h1 h2 h3 h4 h5 h6]; exact ⟨by show (-1 : Int) ≤ h - 1; omega, by show h - 1 ≤ h; omega, fun e => by cases e⟩
        have hg := hgo p.ino (A.data ((A.find p.ino n).getD 0)) (h - 1) (by omega)
        by_cases h7 : (go p.ino (A.data ((A.find p.ino n).getD 0)) (h - 1)).1 = 0
        · rw [steps_link h1 h2 h3 h4 h5 h6 h7]
          have := ih (go p.ino (A.data ((A.find p.ino n).getD 0)) (h - 1)).2.1 _ (hg.2.2 h7)
          exact ⟨this.1, by omega, this.2.2⟩
        · rw [steps_err h1 h2 h3 h4 h5 h6 h7]; exact ⟨hg.1, Int.le_trans hg.2.1 (by omega), fun e => absurd e h7⟩
theorem walk_hops (A : AT) : ∀ (f : Nat) (d : Int) (s : ByteArray) (fo : Bool) (h : Int), 0 ≤ h → -1 ≤ (A.walk f d s fo h).2.2 ∧ (A.walk f d s fo h).2.2 ≤ h ∧ ((A.walk f d s fo h).1 = 0 → 0 ≤ (A.walk f d s fo h).2.2) := by
  intro f
  induction f with
  | zero => intro d s fo h hh; exact ⟨by show (-1 : Int) ≤ h; omega, Int.le_refl _, fun e => by cases e⟩
  | succ f ih =>
    intro d s fo h hh
    rw [AT.walk]
    by_cases hm : mayE s ≠ 0
    · rw [if_pos hm]; exact ⟨by show (-1 : Int) ≤ h; omega, Int.le_refl _, fun _ => hh⟩
    · rw [if_neg hm]
      exact steps_hops (fun d s x hx => ih d s true x hx) _ _ _ hh
end Go.Wk

/- THE NAMES OF A PATH: strings.SplitSeq and names. -/
set_option maxRecDepth 100000
namespace Go.Proofs.YtlpcehbfoogejaaGreatDoor
open Go Go.HL Go.Wk
attribute [local irreducible] ptrW ifW brW andW rdT alW letJ stW muW biW vaW imW callT cvalT app callW invW callVW sizeT oW nilF oneK loopW rfW funW begW roundK exW idxW Gr Put
theorem x_sliIndexByte (s : ByteArray) (c : UInt8) {σ : H} {K : Value → H → Prop} (hK : K (.int .i64 (firstIdx s c)) σ) : callW Tryz.prog 118 [.string s, .int .u8 (c.toNat : Int)] K σ := by
  refine c118 _ _ ?_
  unfold g118
  refine x_IBS s _ ?_
  have : ((c.toNat : Int)).toNat.toUInt8 = c := by simp
  rw [this]; exact hK
theorem firstIdx_self (c : UInt8) : firstIdx ⟨⟨[c]⟩⟩ c = 0 := by
  rcases firstIdx_split ⟨⟨[c]⟩⟩ c with ⟨_, h⟩ | ⟨i, h, h2, _⟩
  · simp at h
  · have : i < 1 := h2
    omega
/-- strings.Index of one byte -/
theorem x_Index1 (s : ByteArray) (c : UInt8) {σ : H} {K : Value → H → Prop} (hK : K (.int .i64 (firstIdx s c)) σ) : callW Tryz.prog 130 [.string s, .string ⟨⟨[c]⟩⟩] K σ := by
  refine c130 _ _ ?_
  unfold g130
  refine call_i (c180 _ _ ?_)
  unfold g180
  refine j_i (fun j => ∀ b : Bool, (b = true → s = ⟨⟨[c]⟩⟩) → j s ⟨⟨[c]⟩⟩ (((⟨⟨[c]⟩⟩ : ByteArray).size : Nat) : Int) b σ) ?_ ?_
  · intro b hb
    cases b with
    | true =>
      refine br_t rfl (app_I ?_)
      have := hb rfl
      subst this
      rw [firstIdx_self] at hK; exact hK
    | false =>
      refine br_f rfl (br_t rfl (idx_l (c := c) (by decide) rfl ?_))
      exact call_i (x_sliIndexByte s c (app_I (app_I hK)))
  · intro j hj
    refine br_f rfl (hj _ ?_)
    intro h; exact (strEq_iff.1 h).symm
section
variable {ι : Type}
/-- the iterator of SplitSeq -/
theorem x_split1 {c : UInt8} {y : Value} {b5 b4 b6 : Nat} {t5 t4 t6 : TypeId} {D : Nat → Prop} {I : List ByteArray → H → Prop} {S : H → Prop} (C : Cl Tryz.prog y D (fun (a : ByteArray) args _ => args = [.string a]) I S) (d4 : D b4) (d5 : D b5) (d6 : D b6) (n45 : b5 ≠ b4) (n46 : b6 ≠ b4) {K : Value → H → Prop} (hK1 : ∀ σ', I [] σ' → K (.tuple ⟨[]⟩) σ') (hK2 : ∀ σ', S σ' → K (.tuple ⟨[]⟩) σ')
    {σ : H} {s : ByteArray} (h5 : σ b5 = some (.cells ⟨[.string ⟨⟨[c]⟩⟩]⟩ t5 (0, 0))) (h4 : σ b4 = some (.cells ⟨[.string s]⟩ t4 (0, 0))) (h6 : σ b6 = some (.cells ⟨[.int .i64 0]⟩ t6 (0, 0))) (hs : s.size ≤ 1000000000) (hI : I (partsOf c s) σ) :
    callW Tryz.prog 222 [y, .pointer (some ⟨b5, 0, none⟩), .pointer (some ⟨b4, 0, none⟩), .pointer (some ⟨b6, 0, none⟩)] K σ := by
  refine c222 _ _ _ _ ?_
  unfold g222
  (repeat (first | refine ptr_i ?_ | refine rdT_of (by repeat (first | assumption | refine gG ‹_› ?_ | exact pE ‹_› | refine pG ‹_› (by first | assumption | exact Ne.symm ‹_› | exact ne_fr ‹_› (by repeat (first | exact io ‹_› | exact mS ‹_› | refine gS ‹_› ?_ | refine pS ‹_› ?_)) | exact Ne.symm (ne_fr ‹_› (by repeat (first | exact io ‹_› | exact mS ‹_› | refine gS ‹_› ?_ | refine pS ‹_› ?_)))) ?_)) (by rfl) ?_ | (refine al_i ?_; intro _ _ _ _ _) | refine and_i (rdC_of (by repeat (first | assumption | refine gG ‹_› ?_ | exact pE ‹_› | refine pG ‹_› (by first | assumption | exact Ne.symm ‹_› | exact ne_fr ‹_› (by repeat (first | exact io ‹_› | exact mS ‹_› | refine gS ‹_› ?_ | refine pS ‹_› ?_)) | exact Ne.symm (ne_fr ‹_› (by repeat (first | exact io ‹_› | exact mS ‹_› | refine gS ‹_› ?_ | refine pS ‹_› ?_)))) ?_)) (by rfl)) ?_ | refine rdA_i (by repeat (first | assumption | refine gG ‹_› ?_ | exact pE ‹_› | refine pG ‹_› (by first | assumption | exact Ne.symm ‹_› | exact ne_fr ‹_› (by repeat (first | exact io ‹_› | exact mS ‹_› | refine gS ‹_› ?_ | refine pS ‹_› ?_)) | exact Ne.symm (ne_fr ‹_› (by repeat (first | exact io ‹_› | exact mS ‹_› | refine gS ‹_› ?_ | refine pS ‹_› ?_)))) ?_)) (by rfl) ?_ | (refine st_i2 (by repeat (first | assumption | refine gG ‹_› ?_ | exact pE ‹_› | refine pG ‹_› (by first | assumption | exact Ne.symm ‹_› | exact ne_fr ‹_› (by repeat (first | exact io ‹_› | exact mS ‹_› | refine gS ‹_› ?_ | refine pS ‹_› ?_)) | exact Ne.symm (ne_fr ‹_› (by repeat (first | exact io ‹_› | exact mS ‹_› | refine gS ‹_› ?_ | refine pS ‹_› ?_)))) ?_)) (by first | exact sz_int | exact sz_string | exact sz_bool | exact sz_Inode | exact sz_Quota | exact sz_MSI | exact sz_place | exact sz_Errno) (by rfl) (by rfl) ?_; intro _ _) | refine app_P ?_ | refine app_I ?_ | refine app_S ?_ | refine app_B ?_ | refine app_M ?_ | refine app_L ?_ | refine app_U ?_ | refine app_R ?_ | (refine app_of rfl ?_; try dsimp only)))
  refine br_f rfl ?_
  refine loop_i ?_
  intro R hR
  have key : ∀ (n : Nat) (s : ByteArray) (σ : H), s.size ≤ n → s.size ≤ 1000000000 → σ b5 = some (.cells ⟨[.string ⟨⟨[c]⟩⟩]⟩ t5 (0, 0)) → σ b4 = some (.cells ⟨[.string s]⟩ t4 (0, 0)) → σ b6 = some (.cells ⟨[.int .i64 0]⟩ t6 (0, 0)) → I (partsOf c s) σ →
      R y (some ⟨b5, 0, none⟩) (some ⟨b4, 0, none⟩) (some ⟨b6, 0, none⟩) σ := by
    intro n
    induction n with
    | zero =>
      intro s σ hn hs h5 h4 h6 hI
      refine hR _ _ _ _ _ ?_
      (repeat (first | refine ptr_i ?_ | refine rdT_of (by repeat (first | assumption | refine gG ‹_› ?_ | exact pE ‹_› | refine pG ‹_› (by first | assumption | exact Ne.symm ‹_› | exact ne_fr ‹_› (by repeat (first | exact io ‹_› | exact mS ‹_› | refine gS ‹_› ?_ | refine pS ‹_› ?_)) | exact Ne.symm (ne_fr ‹_› (by repeat (first | exact io ‹_› | exact mS ‹_› | refine gS ‹_› ?_ | refine pS ‹_› ?_)))) ?_)) (by rfl) ?_ | (refine al_i ?_; intro _ _ _ _ _) | refine and_i (rdC_of (by repeat (first | assumption | refine gG ‹_› ?_ | exact pE ‹_› | refine pG ‹_› (by first | assumption | exact Ne.symm ‹_› | exact ne_fr ‹_› (by repeat (first | exact io ‹_› | exact mS ‹_› | refine gS ‹_› ?_ | refine pS ‹_› ?_)) | exact Ne.symm (ne_fr ‹_› (by repeat (first | exact io ‹_› | exact mS ‹_› | refine gS ‹_› ?_ | refine pS ‹_› ?_)))) ?_)) (by rfl)) ?_ | refine rdA_i (by repeat (first | assumption | refine gG ‹_› ?_ | exact pE ‹_› | refine pG ‹_› (by first | assumption | exact Ne.symm ‹_› | exact ne_fr ‹_› (by repeat (first | exact io ‹_› | exact mS ‹_› | refine gS ‹_› ?_ | refine pS ‹_› ?_)) | exact Ne.symm (ne_fr ‹_› (by repeat (first | exact io ‹_› | exact mS ‹_› | refine gS ‹_› ?_ | refine pS ‹_› ?_)))) ?_)) (by rfl) ?_ | (refine st_i2 (by repeat (first | assumption | refine gG ‹_› ?_ | exact pE ‹_› | refine pG ‹_› (by first | assumption | exact Ne.symm ‹_› | exact ne_fr ‹_› (by repeat (first | exact io ‹_› | exact mS ‹_› | refine gS ‹_› ?_ | refine pS ‹_› ?_)) | exact Ne.symm (ne_fr ‹_› (by repeat (first | exact io ‹_› | exact mS ‹_› | refine gS ‹_› ?_ | refine pS ‹_› ?_)))) ?_)) (by first | exact sz_int | exact sz_string | exact sz_bool | exact sz_Inode | exact sz_Quota | exact sz_MSI | exact sz_place | exact sz_Errno) (by rfl) (by rfl) ?_; intro _ _) | refine app_P ?_ | refine app_I ?_ | refine app_S ?_ | refine app_B ?_ | refine app_M ?_ | refine app_L ?_ | refine app_U ?_ | refine app_R ?_ | (refine app_of rfl ?_; try dsimp only)))
      refine call_i (x_Index1 s c (app_I ?_))
      by_cases hi : firstIdx s c < 0
      · refine br_t (by simpa using hi) ?_
        (repeat (first | refine ptr_i ?_ | refine rdT_of (by repeat (first | assumption | refine gG ‹_› ?_ | exact pE ‹_› | refine pG ‹_› (by first | assumption | exact Ne.symm ‹_› | exact ne_fr ‹_› (by repeat (first | exact io ‹_› | exact mS ‹_› | refine gS ‹_› ?_ | refine pS ‹_› ?_)) | exact Ne.symm (ne_fr ‹_› (by repeat (first | exact io ‹_› | exact mS ‹_› | refine gS ‹_› ?_ | refine pS ‹_› ?_)))) ?_)) (by rfl) ?_ | (refine al_i ?_; intro _ _ _ _ _) | refine and_i (rdC_of (by repeat (first | assumption | refine gG ‹_› ?_ | exact pE ‹_› | refine pG ‹_› (by first | assumption | exact Ne.symm ‹_› | exact ne_fr ‹_› (by repeat (first | exact io ‹_› | exact mS ‹_› | refine gS ‹_› ?_ | refine pS ‹_› ?_)) | exact Ne.symm (ne_fr ‹_› (by repeat (first | exact io ‹_› | exact mS ‹_› | refine gS ‹_› ?_ | refine pS ‹_› ?_)))) ?_)) (by rfl)) ?_ | refine rdA_i (by repeat (first | assumption | refine gG ‹_› ?_ | exact pE ‹_› | refine pG ‹_› (by first | assumption | exact Ne.symm ‹_› | exact ne_fr ‹_› (by repeat (first | exact io ‹_› | exact mS ‹_› | refine gS ‹_› ?_ | refine pS ‹_› ?_)) | exact Ne.symm (ne_fr ‹_› (by repeat (first | exact io ‹_› | exact mS ‹_› | refine gS ‹_› ?_ | refine pS ‹_› ?_)))) ?_)) (by rfl) ?_ | (refine st_i2 (by repeat (first | assumption | refine gG ‹_› ?_ | exact pE ‹_› | refine pG ‹_› (by first | assumption | exact Ne.symm ‹_› | exact ne_fr ‹_› (by repeat (first | exact io ‹_› | exact mS ‹_› | refine gS ‹_› ?_ | refine pS ‹_› ?_)) | exact Ne.symm (ne_fr ‹_› (by repeat (first | exact io ‹_› | exact mS ‹_› | refine gS ‹_› ?_ | refine pS ‹_› ?_)))) ?_)) (by first | exact sz_int | exact sz_string | exact sz_bool | exact sz_Inode | exact sz_Quota | exact sz_MSI | exact sz_place | exact sz_Errno) (by rfl) (by rfl) ?_; intro _ _) | refine app_P ?_ | refine app_I ?_ | refine app_S ?_ | refine app_B ?_ | refine app_M ?_ | refine app_L ?_ | refine app_U ?_ | refine app_R ?_ | (refine app_of rfl ?_; try dsimp only)))
        rw [partsOf_none hi] at hI
        refine cvalv_i (C.call s [] _ σ _ hI rfl ?_ ?_)
        · intro σ' h _; exact app_B (hK1 σ' h)
        · intro σ' h _; exact app_B (hK2 σ' h)
      · have := (partsOf_some (c := c) (s := s) (by omega)).1
        omega
    | succ n ih =>
      intro s σ hn hs h5 h4 h6 hI
      refine hR _ _ _ _ _ ?_
      (repeat (first | refine ptr_i ?_ | refine rdT_of (by repeat (first | assumption | refine gG ‹_› ?_ | exact pE ‹_› | refine pG ‹_› (by first | assumption | exact Ne.symm ‹_› | exact ne_fr ‹_› (by repeat (first | exact io ‹_› | exact mS ‹_› | refine gS ‹_› ?_ | refine pS ‹_› ?_)) | exact Ne.symm (ne_fr ‹_› (by repeat (first | exact io ‹_› | exact mS ‹_› | refine gS ‹_› ?_ | refine pS ‹_› ?_)))) ?_)) (by rfl) ?_ | (refine al_i ?_; intro _ _ _ _ _) | refine and_i (rdC_of (by repeat (first | assumption | refine gG ‹_› ?_ | exact pE ‹_› | refine pG ‹_› (by first | assumption | exact Ne.symm ‹_› | exact ne_fr ‹_› (by repeat (first | exact io ‹_› | exact mS ‹_› | refine gS ‹_› ?_ | refine pS ‹_› ?_)) | exact Ne.symm (ne_fr ‹_› (by repeat (first | exact io ‹_› | exact mS ‹_› | refine gS ‹_› ?_ | refine pS ‹_› ?_)))) ?_)) (by rfl)) ?_ | refine rdA_i (by repeat (first | assumption | refine gG ‹_› ?_ | exact pE ‹_› | refine pG ‹_› (by first | assumption | exact Ne.symm ‹_› | exact ne_fr ‹_› (by repeat (first | exact io ‹_› | exact mS ‹_› | refine gS ‹_› ?_ | refine pS ‹_› ?_)) | exact Ne.symm (ne_fr ‹_› (by repeat (first | exact io ‹_› | exact mS ‹_› | refine gS ‹_› ?_ | refine pS ‹_› ?_)))) ?_)) (by rfl) ?_ | (refine st_i2 (by repeat (first | assumption | refine gG ‹_› ?_ | exact pE ‹_› | refine pG ‹_› (by first | assumption | exact Ne.symm ‹_› | exact ne_fr ‹_› (by repeat (first | exact io ‹_› | exact mS ‹_› | refine gS ‹_› ?_ | refine pS ‹_› ?_)) | exact Ne.symm (ne_fr ‹_› (by repeat (first | exact io ‹_› | exact mS ‹_› | refine gS ‹_› ?_ | refine pS ‹_› ?_)))) ?_)) (by first | exact sz_int | exact sz_string | exact sz_bool | exact sz_Inode | exact sz_Quota | exact sz_MSI | exact sz_place | exact sz_Errno) (by rfl) (by rfl) ?_; intro _ _) | refine app_P ?_ | refine app_I ?_ | refine app_S ?_ | refine app_B ?_ | refine app_M ?_ | refine app_L ?_ | refine app_U ?_ | refine app_R ?_ | (refine app_of rfl ?_; try dsimp only)))
      refine call_i (x_Index1 s c (app_I ?_))
      by_cases hi : firstIdx s c < 0
      · refine br_t (by simpa using hi) ?_
        (repeat (first | refine ptr_i ?_ | refine rdT_of (by repeat (first | assumption | refine gG ‹_› ?_ | exact pE ‹_› | refine pG ‹_› (by first | assumption | exact Ne.symm ‹_› | exact ne_fr ‹_› (by repeat (first | exact io ‹_› | exact mS ‹_› | refine gS ‹_› ?_ | refine pS ‹_› ?_)) | exact Ne.symm (ne_fr ‹_› (by repeat (first | exact io ‹_› | exact mS ‹_› | refine gS ‹_› ?_ | refine pS ‹_› ?_)))) ?_)) (by rfl) ?_ | (refine al_i ?_; intro _ _ _ _ _) | refine and_i (rdC_of (by repeat (first | assumption | refine gG ‹_› ?_ | exact pE ‹_› | refine pG ‹_› (by first | assumption | exact Ne.symm ‹_› | exact ne_fr ‹_› (by repeat (first | exact io ‹_› | exact mS ‹_› | refine gS ‹_› ?_ | refine pS ‹_› ?_)) | exact Ne.symm (ne_fr ‹_› (by repeat (first | exact io ‹_› | exact mS ‹_› | refine gS ‹_› ?_ | refine pS ‹_› ?_)))) ?_)) (by rfl)) ?_ | refine rdA_i (by repeat (first | assumption | refine gG ‹_› ?_ | exact pE ‹_› | refine pG ‹_› (by first | assumption | exact Ne.symm ‹_› | exact ne_fr ‹_› (by repeat (first | exact io ‹_› | exact mS ‹_› | refine gS ‹_› ?_ | refine pS ‹_› ?_)) | exact Ne.symm (ne_fr ‹_› (by repeat (first | exact io ‹_› | exact mS ‹_› | refine gS ‹_› ?_ | refine pS ‹_› ?_)))) ?_)) (by rfl) ?_ | (refine st_i2 (by repeat (first | assumption | refine gG ‹_› ?_ | exact pE ‹_› | refine pG ‹_› (by first | assumption | exact Ne.symm ‹_› | exact ne_fr ‹_› (by repeat (first | exact io ‹_› | exact mS ‹_› | refine gS ‹_› ?_ | refine pS ‹_› ?_)) | exact Ne.symm (ne_fr ‹_› (by repeat (first | exact io ‹_› | exact mS ‹_› | refine gS ‹_› ?_ | refine pS ‹_› ?_)))) ?_)) (by first | exact sz_int | exact sz_string | exact sz_bool | exact sz_Inode | exact sz_Quota | exact sz_MSI | exact sz_place | exact sz_Errno) (by rfl) (by rfl) ?_; intro _ _) | refine app_P ?_ | refine app_I ?_ | refine app_S ?_ | refine app_B ?_ | refine app_M ?_ | refine app_L ?_ | refine app_U ?_ | refine app_R ?_ | (refine app_of rfl ?_; try dsimp only)))
        rw [partsOf_none hi] at hI
        refine cvalv_i (C.call s [] _ σ _ hI rfl ?_ ?_)
        · intro σ' h _; exact app_B (hK1 σ' h)
        · intro σ' h _; exact app_B (hK2 σ' h)
      · obtain ⟨hlt, hp⟩ := partsOf_some (c := c) (s := s) (by omega)
        rw [hp] at hI
        refine br_f (by simpa using hi) ?_
        (repeat (first | refine ptr_i ?_ | refine rdT_of (by repeat (first | assumption | refine gG ‹_› ?_ | exact pE ‹_› | refine pG ‹_› (by first | assumption | exact Ne.symm ‹_› | exact ne_fr ‹_› (by repeat (first | exact io ‹_› | exact mS ‹_› | refine gS ‹_› ?_ | refine pS ‹_› ?_)) | exact Ne.symm (ne_fr ‹_› (by repeat (first | exact io ‹_› | exact mS ‹_› | refine gS ‹_› ?_ | refine pS ‹_› ?_)))) ?_)) (by rfl) ?_ | (refine al_i ?_; intro _ _ _ _ _) | refine and_i (rdC_of (by repeat (first | assumption | refine gG ‹_› ?_ | exact pE ‹_› | refine pG ‹_› (by first | assumption | exact Ne.symm ‹_› | exact ne_fr ‹_› (by repeat (first | exact io ‹_› | exact mS ‹_› | refine gS ‹_› ?_ | refine pS ‹_› ?_)) | exact Ne.symm (ne_fr ‹_› (by repeat (first | exact io ‹_› | exact mS ‹_› | refine gS ‹_› ?_ | refine pS ‹_› ?_)))) ?_)) (by rfl)) ?_ | refine rdA_i (by repeat (first | assumption | refine gG ‹_› ?_ | exact pE ‹_› | refine pG ‹_› (by first | assumption | exact Ne.symm ‹_› | exact ne_fr ‹_› (by repeat (first | exact io ‹_› | exact mS ‹_› | refine gS ‹_› ?_ | refine pS ‹_› ?_)) | exact Ne.symm (ne_fr ‹_› (by repeat (first | exact io ‹_› | exact mS ‹_› | refine gS ‹_› ?_ | refine pS ‹_› ?_)))) ?_)) (by rfl) ?_ | (refine st_i2 (by repeat (first | assumption | refine gG ‹_› ?_ | exact pE ‹_› | refine pG ‹_› (by first | assumption | exact Ne.symm ‹_› | exact ne_fr ‹_› (by repeat (first | exact io ‹_› | exact mS ‹_› | refine gS ‹_› ?_ | refine pS ‹_› ?_)) | exact Ne.symm (ne_fr ‹_› (by repeat (first | exact io ‹_› | exact mS ‹_› | refine gS ‹_› ?_ | refine pS ‹_› ?_)))) ?_)) (by first | exact sz_int | exact sz_string | exact sz_bool | exact sz_Inode | exact sz_Quota | exact sz_MSI | exact sz_place | exact sz_Errno) (by rfl) (by rfl) ?_; intro _ _) | refine app_P ?_ | refine app_I ?_ | refine app_S ?_ | refine app_B ?_ | refine app_M ?_ | refine app_L ?_ | refine app_U ?_ | refine app_R ?_ | (refine app_of rfl ?_; try dsimp only)))
        have w0 : IntKind.i64.wrap (firstIdx s c + 0) = firstIdx s c := by rw [wrap_id (by omega) (by omega)]; omega
        have w1 : IntKind.i64.wrap (firstIdx s c + (((⟨⟨[c]⟩⟩ : ByteArray).size : Nat) : Int)) = firstIdx s c + 1 := by
          show IntKind.i64.wrap (firstIdx s c + 1) = _
          rw [wrap_id (by omega) (by omega)]
        rw [w0]
        refine if_i ⟨bnd_some (by omega) (by omega), bnd_none⟩ ?_
        refine cvalv_i (C.call _ _ _ σ _ hI rfl ?_ ?_)
        · intro σ' h ho
          refine app_B (br_f rfl ?_)
          have h5' := ho _ _ d5 h5
          have h4' := ho _ _ d4 h4
          have h6' := ho _ _ d6 h6
          (repeat (first | refine ptr_i ?_ | refine rdT_of (by repeat (first | assumption | refine gG ‹_› ?_ | exact pE ‹_› | refine pG ‹_› (by first | assumption | exact Ne.symm ‹_› | exact ne_fr ‹_› (by repeat (first | exact io ‹_› | exact mS ‹_› | refine gS ‹_› ?_ | refine pS ‹_› ?_)) | exact Ne.symm (ne_fr ‹_› (by repeat (first | exact io ‹_› | exact mS ‹_› | refine gS ‹_› ?_ | refine pS ‹_› ?_)))) ?_)) (by rfl) ?_ | (refine al_i ?_; intro _ _ _ _ _) | refine and_i (rdC_of (by repeat (first | assumption | refine gG ‹_› ?_ | exact pE ‹_› | refine pG ‹_› (by first | assumption | exact Ne.symm ‹_› | exact ne_fr ‹_› (by repeat (first | exact io ‹_› | exact mS ‹_› | refine gS ‹_› ?_ | refine pS ‹_› ?_)) | exact Ne.symm (ne_fr ‹_› (by repeat (first | exact io ‹_› | exact mS ‹_› | refine gS ‹_› ?_ | refine pS ‹_› ?_)))) ?_)) (by rfl)) ?_ | refine rdA_i (by repeat (first | assumption | refine gG ‹_› ?_ | exact pE ‹_› | refine pG ‹_› (by first | assumption | exact Ne.symm ‹_› | exact ne_fr ‹_› (by repeat (first | exact io ‹_› | exact mS ‹_› | refine gS ‹_› ?_ | refine pS ‹_› ?_)) | exact Ne.symm (ne_fr ‹_› (by repeat (first | exact io ‹_› | exact mS ‹_› | refine gS ‹_› ?_ | refine pS ‹_› ?_)))) ?_)) (by rfl) ?_ | (refine st_i2 (by repeat (first | assumption | refine gG ‹_› ?_ | exact pE ‹_› | refine pG ‹_› (by first | assumption | exact Ne.symm ‹_› | exact ne_fr ‹_› (by repeat (first | exact io ‹_› | exact mS ‹_› | refine gS ‹_› ?_ | refine pS ‹_› ?_)) | exact Ne.symm (ne_fr ‹_› (by repeat (first | exact io ‹_› | exact mS ‹_› | refine gS ‹_› ?_ | refine pS ‹_› ?_)))) ?_)) (by first | exact sz_int | exact sz_string | exact sz_bool | exact sz_Inode | exact sz_Quota | exact sz_MSI | exact sz_place | exact sz_Errno) (by rfl) (by rfl) ?_; intro _ _) | refine app_P ?_ | refine app_I ?_ | refine app_S ?_ | refine app_B ?_ | refine app_M ?_ | refine app_L ?_ | refine app_U ?_ | refine app_R ?_ | (refine app_of rfl ?_; try dsimp only)))
          rw [w1]
          refine if_i ⟨bnd_none, bnd_some (by omega) (by omega)⟩ ?_
          (repeat (first | refine ptr_i ?_ | refine rdT_of (by repeat (first | assumption | refine gG ‹_› ?_ | exact pE ‹_› | refine pG ‹_› (by first | assumption | exact Ne.symm ‹_› | exact ne_fr ‹_› (by repeat (first | exact io ‹_› | exact mS ‹_› | refine gS ‹_› ?_ | refine pS ‹_› ?_)) | exact Ne.symm (ne_fr ‹_› (by repeat (first | exact io ‹_› | exact mS ‹_› | refine gS ‹_› ?_ | refine pS ‹_› ?_)))) ?_)) (by rfl) ?_ | (refine al_i ?_; intro _ _ _ _ _) | refine and_i (rdC_of (by repeat (first | assumption | refine gG ‹_› ?_ | exact pE ‹_› | refine pG ‹_› (by first | assumption | exact Ne.symm ‹_› | exact ne_fr ‹_› (by repeat (first | exact io ‹_› | exact mS ‹_› | refine gS ‹_› ?_ | refine pS ‹_› ?_)) | exact Ne.symm (ne_fr ‹_› (by repeat (first | exact io ‹_› | exact mS ‹_› | refine gS ‹_› ?_ | refine pS ‹_› ?_)))) ?_)) (by rfl)) ?_ | refine rdA_i (by repeat (first | assumption | refine gG ‹_› ?_ | exact pE ‹_› | refine pG ‹_› (by first | assumption | exact Ne.symm ‹_› | exact ne_fr ‹_› (by repeat (first | exact io ‹_› | exact mS ‹_› | refine gS ‹_› ?_ | refine pS ‹_› ?_)) | exact Ne.symm (ne_fr ‹_› (by repeat (first | exact io ‹_› | exact mS ‹_› | refine gS ‹_› ?_ | refine pS ‹_› ?_)))) ?_)) (by rfl) ?_ | (refine st_i2 (by repeat (first | assumption | refine gG ‹_› ?_ | exact pE ‹_› | refine pG ‹_› (by first | assumption | exact Ne.symm ‹_› | exact ne_fr ‹_› (by repeat (first | exact io ‹_› | exact mS ‹_› | refine gS ‹_› ?_ | refine pS ‹_› ?_)) | exact Ne.symm (ne_fr ‹_› (by repeat (first | exact io ‹_› | exact mS ‹_› | refine gS ‹_› ?_ | refine pS ‹_› ?_)))) ?_)) (by first | exact sz_int | exact sz_string | exact sz_bool | exact sz_Inode | exact sz_Quota | exact sz_MSI | exact sz_place | exact sz_Errno) (by rfl) (by rfl) ?_; intro _ _) | refine app_P ?_ | refine app_I ?_ | refine app_S ?_ | refine app_B ?_ | refine app_M ?_ | refine app_L ?_ | refine app_U ?_ | refine app_R ?_ | (refine app_of rfl ?_; try dsimp only)))
          rename_i σ2 p2
          have e1 : (firstIdx s c + 1).toNat = (firstIdx s c).toNat + 1 := by omega
          rw [e1] at p2
          have hsz : (s.extract ((firstIdx s c).toNat + 1) s.size).size = s.size - ((firstIdx s c).toNat + 1) := by rw [ByteArray.size_extract]; omega
          refine ih _ σ2 (by rw [hsz]; omega) (by rw [hsz]; omega) (p2.get n45 h5') p2.same (p2.get n46 h6') (C.put _ _ _ _ _ h d4 p2)
        · intro σ' h _; exact app_B (br_t rfl (hK2 σ' h))
  exact key s.size s σ (Nat.le_refl _) hs h5 h4 h6 hI
end
theorem x_SplitSeq (s sep : ByteArray) {σ : H} {K : Value → H → Prop} (hK : ∀ b4 b5 b6 σ', Gr σ σ' → σ b4 = none → σ b5 = none → σ b6 = none → b5 ≠ b4 → b6 ≠ b4 → σ' b4 = some (.cells ⟨[.string s]⟩ 9 (0, 0)) → σ' b5 = some (.cells ⟨[.string sep]⟩ 9 (0, 0)) → σ' b6 = some (.cells ⟨[.int .i64 0]⟩ 3 (0, 0)) → K (.func (.func 222) ⟨[]⟩ ⟨[.pointer (some ⟨b5, 0, none⟩), .pointer (some ⟨b4, 0, none⟩), .pointer (some ⟨b6, 0, none⟩)]⟩) σ') :
    callW Tryz.prog 191 [.string s, .string sep] K σ := by
  refine c191 _ _ ?_
  unfold g191
  refine call_i (c206 _ _ _ ?_)
  unfold g206
  refine al_i ?_; intro b4 σ1 g1 e1 n1
  refine al_i ?_; intro b5 σ2 g2 e2 n2
  refine al_i ?_; intro b6 σ3 g3 e3 n3
  refine app_R ?_
  exact hK b4 b5 b6 σ3 (by repeat (first | exact Gr.refl _ | assumption | refine Gr.trans ?_ ‹_› | refine Gr.putF ?_ ‹_› (none_of ?_ ‹_›))) n1 (none_of g1 n2) (none_of (g1.trans g2) n3) (ne_fr n2 (by repeat (first | exact io ‹_› | exact mS ‹_› | refine gS ‹_› ?_ | refine pS ‹_› ?_))).symm (ne_fr n3 (by repeat (first | exact io ‹_› | exact mS ‹_› | refine gS ‹_› ?_ | refine pS ‹_› ?_))).symm (by repeat (first | assumption | refine gG ‹_› ?_ | exact pE ‹_› | refine pG ‹_› (by first | assumption | exact Ne.symm ‹_› | exact ne_fr ‹_› (by repeat (first | exact io ‹_› | exact mS ‹_› | refine gS ‹_› ?_ | refine pS ‹_› ?_)) | exact Ne.symm (ne_fr ‹_› (by repeat (first | exact io ‹_› | exact mS ‹_› | refine gS ‹_› ?_ | refine pS ‹_› ?_)))) ?_)) (by repeat (first | assumption | refine gG ‹_› ?_ | exact pE ‹_› | refine pG ‹_› (by first | assumption | exact Ne.symm ‹_› | exact ne_fr ‹_› (by repeat (first | exact io ‹_› | exact mS ‹_› | refine gS ‹_› ?_ | refine pS ‹_› ?_)) | exact Ne.symm (ne_fr ‹_› (by repeat (first | exact io ‹_› | exact mS ‹_› | refine gS ‹_› ?_ | refine pS ‹_› ?_)))) ?_)) (by repeat (first | assumption | refine gG ‹_› ?_ | exact pE ‹_› | refine pG ‹_› (by first | assumption | exact Ne.symm ‹_› | exact ne_fr ‹_› (by repeat (first | exact io ‹_› | exact mS ‹_› | refine gS ‹_› ?_ | refine pS ‹_› ?_)) | exact Ne.symm (ne_fr ‹_› (by repeat (first | exact io ‹_› | exact mS ‹_› | refine gS ‹_› ?_ | refine pS ‹_› ?_)))) ?_))
theorem go_split1 : isGo Tryz.prog 222 = true := by kernel_rfl
theorem go_names1 : isGo Tryz.prog 190 = true := by kernel_rfl
/-- names -/
theorem x_names (path : ByteArray) {σ : H} {K : Value → H → Prop} (hK : ∀ b2 σ', Gr σ σ' → σ b2 = none → σ' b2 = some (.cells ⟨[.string path]⟩ 9 (0, 0)) → K (.func (.func 190) ⟨[]⟩ ⟨[.pointer (some ⟨b2, 0, none⟩)]⟩) σ') : callW Tryz.prog 168 [.string path] K σ := by
  refine c168 _ ?_
  unfold g168
  refine al_i ?_; intro b2 σ1 g1 e1 n1
  exact hK b2 σ1 g1 n1 e1
end Go.Proofs.YtlpcehbfoogejaaGreatDoor

