/- A part of the proof: In which order things are made, and where they lay ahead, changes nothing of the tree. -/
import Derived.Test.YtlpcehbfoogejaaGreatDoorOao
import Derived.IntWalk
/- THE TABLE OF INODES: how it lies in memory; what is read of it. -/
set_option maxRecDepth 100000
namespace Go.Proofs.YtlpcehbfoogejaaGreatDoor
open Go Go.HL Go.Wk
attribute [local irreducible] ptrW ifW brW andW rdT alW letJ stW muW biW vaW imW callT cvalT app callW invW callVW sizeT oW nilF oneK loopW rfW funW begW roundK exW idxW Gr Put
/-- an inode, with where it lies -/
structure Nd where
  blk : Nat
  kind : Int
  mode : Int
  data : ByteArray
  links : Int
  up : Int
  eb : Option Nat
  ents : List (ByteArray × Int)
structure Tb where
  qi : Int
  qb : Int
  ui : Int
  ub : Int
  last : Int
  mb : Nat
  nodes : List (Int × Nd)
def Nd.cells (n : Nd) : Obj := .cells ⟨[.int .i64 n.kind, .int .i64 n.mode, .string n.data, .int .i64 n.links, .int .i64 n.up, .map n.eb]⟩ 142 (0, 0)
def Nd.ptr (n : Nd) : Value := .pointer (some ⟨n.blk, 0, none⟩)
def Tb.cells (T : Tb) : Obj := .cells ⟨[.int .i64 T.qi, .int .i64 T.qb, .int .i64 T.ui, .int .i64 T.ub, .map (some T.mb), .int .i64 T.last]⟩ 145 (0, 0)
def valI (n : Int) : Value := .int .i64 n
structure NdAt (σ : H) (n : Nd) : Prop where
  cells : σ n.blk = some n.cells
  ents : ∀ e, n.eb = some e → MapAt σ e (encL kkS valI n.ents)
  none : n.eb = none → n.ents = []
  dir : n.kind = 2 → n.eb ≠ Option.none
def Tb.get (T : Tb) (ino : Int) : Option Nd := lk ino T.nodes
structure TAt (σ : H) (bt : Nat) (T : Tb) : Prop where
  cells : σ bt = some T.cells
  nodes : MapAt σ T.mb (encL kkI Nd.ptr T.nodes)
  each : ∀ i n, T.get i = some n → NdAt σ n
theorem NdAt.gr {σ σ' : H} {n : Nd} (h : NdAt σ n) (hg : Gr σ σ') : NdAt σ' n := ⟨hg.get h.cells, fun e he => (h.ents e he).gr hg, h.none, h.dir⟩
theorem TAt.gr {σ σ' : H} {bt : Nat} {T : Tb} (h : TAt σ bt T) (hg : Gr σ σ') : TAt σ' bt T := ⟨hg.get h.cells, h.nodes.gr hg, fun i n hn => (h.each i n hn).gr hg⟩
theorem TAt.get {σ : H} {bt : Nat} {T : Tb} (h : TAt σ bt T) {ino : Int} {n : Nd} (hn : T.get ino = some n) : NdAt σ n := h.each ino n hn
theorem get_ptr (o : Option Nd) : (o.map Nd.ptr).getD (.pointer none) = .pointer (o.map fun n => ⟨n.blk, 0, none⟩) := by cases o <;> rfl

/-- get -/
theorem s_get {σ : H} {bt : Nat} {T : Tb} (hT : TAt σ bt T) (ino : Int) {K : Value → H → Prop} (hK : K (.pointer ((T.get ino).map fun n => ⟨n.blk, 0, none⟩)) σ) : callW Tryz.prog 115 [.pointer (some ⟨bt, 0, none⟩), .int .i64 ino] K σ := by
  refine c115 _ _ ?_
  unfold g115
  refine br_f rfl ?_
  refine ptr_i ?_
  refine rd_M (rdC_of hT.cells (by rfl)) ?_
  refine rd_P (x := (T.get ino).map fun n => ⟨n.blk, 0, none⟩) ?_ hK
  rw [← get_ptr]
  exact rdM_at (kk := kkI) hT.nodes _ false ino
def Tb.find (T : Tb) (dir : Int) (name : ByteArray) : Option Int := (T.get dir).bind fun n => lk name n.ents
/-- Find -/
theorem s_Find {σ : H} {bt : Nat} {T : Tb} (hT : TAt σ bt T) (dir : Int) (name : ByteArray) {K : Value → H → Prop} (hK : K (.tuple ⟨[.int .i64 ((T.find dir name).getD 0), .bool (T.find dir name).isSome]⟩) σ) :
    callW Tryz.prog 102 [.pointer (some ⟨bt, 0, none⟩), .int .i64 dir, .string name] K σ := by
  refine c102 _ _ _ ?_
  unfold g102
  refine call_i (s_get hT dir ?_)
  refine app_P ?_
  unfold Tb.find at hK
  cases hn : T.get dir with
  | none => rw [hn] at hK; exact br_t rfl hK
  | some n =>
    rw [hn] at hK
    have hN := hT.get hn
    refine br_f rfl (ptr_i ?_)
    refine rd_M (rdC_of hN.cells (by rfl)) ?_
    cases he : n.eb with
    | none =>
      have := hN.none he
      simp only [Option.bind_some, this] at hK
      exact rd_G rfl (app_IB hK)
    | some e =>
      refine rd_G (rdM_at (kk := kkS) (hN.ents e he) _ true name) ?_
      have hv : ((lk name n.ents).map valI).getD (.int .i64 0) = .int .i64 ((lk name n.ents).getD 0) := by cases lk name n.ents <;> rfl
      rw [hv]
      exact app_IB hK
/-- must -/
theorem s_must (is : Bool) (e : Int) {σ : H} {K : Value → H → Prop} (hK : K (.int .i64 (if is then 0 else e)) σ) : callW Tryz.prog 104 [.bool is, .int .i64 e] K σ := by
  refine c104 _ _ ?_
  unfold g104
  cases is
  · exact br_t rfl hK
  · exact br_f rfl hK
/-- there -/
theorem s_there (t : Option Addr) {σ : H} {K : Value → H → Prop} (hK : K (.int .i64 (if t.isSome then 0 else 1)) σ) : callW Tryz.prog 106 [.pointer t] K σ := by
  refine c106 _ ?_
  unfold g106
  refine call_i (s_must _ _ ?_)
  refine app_I ?_
  cases t <;> exact hK
/-- Up -/
def Tb.up (T : Tb) (dir : Int) : Int := ((T.get dir).map (·.up)).getD 0
theorem s_Up {σ : H} {bt : Nat} {T : Tb} (hT : TAt σ bt T) (dir : Int) {K : Value → H → Prop} (hK : K (.int .i64 (T.up dir)) σ) : callW Tryz.prog 101 [.pointer (some ⟨bt, 0, none⟩), .int .i64 dir] K σ := by
  refine c101 _ _ ?_
  unfold g101
  refine call_i (s_get hT dir (app_P ?_))
  unfold Tb.up at hK
  cases hn : T.get dir with
  | none => rw [hn] at hK; exact br_t rfl hK
  | some n =>
    rw [hn] at hK
    have hN := hT.get hn
    refine br_f rfl (ptr_i ?_)
    exact rd_I (rdC_of hN.cells (by rfl)) hK
/-- Root -/
theorem s_Root (bt : Addr) {σ : H} {K : Value → H → Prop} (hK : K (.int .i64 1) σ) : callW Tryz.prog 100 [.pointer (some bt)] K σ := by
  refine c100 _ ?_
  unfold g100
  exact br_f rfl hK

/-- dir: a directory? -/
def Tb.dirE (T : Tb) (ino : Int) : Int := match T.get ino with
  | none => 5
  | some n => if n.kind == 2 then 0 else 8
theorem s_dir1 {σ : H} {bt : Nat} {T : Tb} (hT : TAt σ bt T) {b1 b2 : Nat} {ino : Int} {t1 t2 : TypeId} (h1 : σ b1 = some (.cells ⟨[.pointer (some ⟨bt, 0, none⟩)]⟩ t1 (0, 0))) (h2 : σ b2 = some (.cells ⟨[.int .i64 ino]⟩ t2 (0, 0))) {K : Value → H → Prop}
    (hK : K (.int .i64 (T.dirE ino)) σ) : callW Tryz.prog 155 [.pointer (some ⟨b1, 0, none⟩), .pointer (some ⟨b2, 0, none⟩)] K σ := by
  refine c155 _ _ ?_
  unfold g155
  (repeat (first | refine ptr_i ?_ | refine rdT_of (by repeat (first | assumption | refine gG ‹_› ?_ | exact pE ‹_› | refine pG ‹_› (by first | assumption | exact Ne.symm ‹_› | exact ne_fr ‹_› (by repeat (first | exact io ‹_› | exact mS ‹_› | refine gS ‹_› ?_ | refine pS ‹_› ?_)) | exact Ne.symm (ne_fr ‹_› (by repeat (first | exact io ‹_› | exact mS ‹_› | refine gS ‹_› ?_ | refine pS ‹_› ?_)))) ?_)) (by rfl) ?_ | (refine al_i ?_; intro _ _ _ _ _) | refine and_i (rdC_of (by repeat (first | assumption | refine gG ‹_› ?_ | exact pE ‹_› | refine pG ‹_› (by first | assumption | exact Ne.symm ‹_› | exact ne_fr ‹_› (by repeat (first | exact io ‹_› | exact mS ‹_› | refine gS ‹_› ?_ | refine pS ‹_› ?_)) | exact Ne.symm (ne_fr ‹_› (by repeat (first | exact io ‹_› | exact mS ‹_› | refine gS ‹_› ?_ | refine pS ‹_› ?_)))) ?_)) (by rfl)) ?_ | refine rdA_i (by repeat (first | assumption | refine gG ‹_› ?_ | exact pE ‹_› | refine pG ‹_› (by first | assumption | exact Ne.symm ‹_› | exact ne_fr ‹_› (by repeat (first | exact io ‹_› | exact mS ‹_› | refine gS ‹_› ?_ | refine pS ‹_› ?_)) | exact Ne.symm (ne_fr ‹_› (by repeat (first | exact io ‹_› | exact mS ‹_› | refine gS ‹_› ?_ | refine pS ‹_› ?_)))) ?_)) (by rfl) ?_ | (refine st_i2 (by repeat (first | assumption | refine gG ‹_› ?_ | exact pE ‹_› | refine pG ‹_› (by first | assumption | exact Ne.symm ‹_› | exact ne_fr ‹_› (by repeat (first | exact io ‹_› | exact mS ‹_› | refine gS ‹_› ?_ | refine pS ‹_› ?_)) | exact Ne.symm (ne_fr ‹_› (by repeat (first | exact io ‹_› | exact mS ‹_› | refine gS ‹_› ?_ | refine pS ‹_› ?_)))) ?_)) (by first | exact sz_int | exact sz_string | exact sz_bool | exact sz_Inode | exact sz_Quota | exact sz_MSI | exact sz_place | exact sz_Errno) (by rfl) (by rfl) ?_; intro _ _) | refine app_P ?_ | refine app_I ?_ | refine app_S ?_ | refine app_B ?_ | refine app_M ?_ | refine app_L ?_ | refine app_U ?_ | refine app_R ?_ | (refine app_of rfl ?_; try dsimp only)))
  refine call_i (s_get hT ino (app_P ?_))
  unfold Tb.dirE at hK
  cases hn : T.get ino with
  | none => rw [hn] at hK; exact br_t rfl hK
  | some n =>
    rw [hn] at hK
    have hN := hT.get hn
    refine br_f rfl (ptr_i ?_)
    refine rd_I (rdC_of hN.cells (by rfl)) ?_
    exact call_i (s_must _ _ (app_I hK))
theorem s_free1 {σ : H} {bt : Nat} {T : Tb} (hT : TAt σ bt T) {b1 b2 b3 : Nat} {dir : Int} {name : ByteArray} {t1 t2 t3 : TypeId} (h1 : σ b1 = some (.cells ⟨[.pointer (some ⟨bt, 0, none⟩)]⟩ t1 (0, 0))) (h2 : σ b2 = some (.cells ⟨[.int .i64 dir]⟩ t2 (0, 0))) (h3 : σ b3 = some (.cells ⟨[.string name]⟩ t3 (0, 0))) {K : Value → H → Prop}
    (hK : K (.int .i64 (if (T.find dir name).isSome then 6 else 0)) σ) : callW Tryz.prog 158 [.pointer (some ⟨b1, 0, none⟩), .pointer (some ⟨b2, 0, none⟩), .pointer (some ⟨b3, 0, none⟩)] K σ := by
  refine c158 _ _ _ ?_
  unfold g158
  (repeat (first | refine ptr_i ?_ | refine rdT_of (by repeat (first | assumption | refine gG ‹_› ?_ | exact pE ‹_› | refine pG ‹_› (by first | assumption | exact Ne.symm ‹_› | exact ne_fr ‹_› (by repeat (first | exact io ‹_› | exact mS ‹_› | refine gS ‹_› ?_ | refine pS ‹_› ?_)) | exact Ne.symm (ne_fr ‹_› (by repeat (first | exact io ‹_› | exact mS ‹_› | refine gS ‹_› ?_ | refine pS ‹_› ?_)))) ?_)) (by rfl) ?_ | (refine al_i ?_; intro _ _ _ _ _) | refine and_i (rdC_of (by repeat (first | assumption | refine gG ‹_› ?_ | exact pE ‹_› | refine pG ‹_› (by first | assumption | exact Ne.symm ‹_› | exact ne_fr ‹_› (by repeat (first | exact io ‹_› | exact mS ‹_› | refine gS ‹_› ?_ | refine pS ‹_› ?_)) | exact Ne.symm (ne_fr ‹_› (by repeat (first | exact io ‹_› | exact mS ‹_› | refine gS ‹_› ?_ | refine pS ‹_› ?_)))) ?_)) (by rfl)) ?_ | refine rdA_i (by repeat (first | assumption | refine gG ‹_› ?_ | exact pE ‹_› | refine pG ‹_› (by first | assumption | exact Ne.symm ‹_› | exact ne_fr ‹_› (by repeat (first | exact io ‹_› | exact mS ‹_› | refine gS ‹_› ?_ | refine pS ‹_› ?_)) | exact Ne.symm (ne_fr ‹_› (by repeat (first | exact io ‹_› | exact mS ‹_› | refine gS ‹_› ?_ | refine pS ‹_› ?_)))) ?_)) (by rfl) ?_ | (refine st_i2 (by repeat (first | assumption | refine gG ‹_› ?_ | exact pE ‹_› | refine pG ‹_› (by first | assumption | exact Ne.symm ‹_› | exact ne_fr ‹_› (by repeat (first | exact io ‹_› | exact mS ‹_› | refine gS ‹_› ?_ | refine pS ‹_› ?_)) | exact Ne.symm (ne_fr ‹_› (by repeat (first | exact io ‹_› | exact mS ‹_› | refine gS ‹_› ?_ | refine pS ‹_› ?_)))) ?_)) (by first | exact sz_int | exact sz_string | exact sz_bool | exact sz_Inode | exact sz_Quota | exact sz_MSI | exact sz_place | exact sz_Errno) (by rfl) (by rfl) ?_; intro _ _) | refine app_P ?_ | refine app_I ?_ | refine app_S ?_ | refine app_B ?_ | refine app_M ?_ | refine app_L ?_ | refine app_U ?_ | refine app_R ?_ | (refine app_of rfl ?_; try dsimp only)))
  refine call_i (s_Find hT dir name (app_IB ?_))
  refine call_i (s_must _ _ (app_I ?_))
  cases h : (T.find dir name).isSome <;> simpa [h] using hK
theorem s_entry1 {σ : H} {bt : Nat} {T : Tb} (hT : TAt σ bt T) {b1 b2 b3 : Nat} {dir : Int} {name : ByteArray} {t1 t2 t3 : TypeId} (h1 : σ b1 = some (.cells ⟨[.pointer (some ⟨bt, 0, none⟩)]⟩ t1 (0, 0))) (h2 : σ b2 = some (.cells ⟨[.int .i64 dir]⟩ t2 (0, 0))) (h3 : σ b3 = some (.cells ⟨[.string name]⟩ t3 (0, 0))) {K : Value → H → Prop}
    (hK : K (.int .i64 (if (T.find dir name).isSome then 0 else 5)) σ) : callW Tryz.prog 174 [.pointer (some ⟨b1, 0, none⟩), .pointer (some ⟨b2, 0, none⟩), .pointer (some ⟨b3, 0, none⟩)] K σ := by
  refine c174 _ _ _ ?_
  unfold g174
  (repeat (first | refine ptr_i ?_ | refine rdT_of (by repeat (first | assumption | refine gG ‹_› ?_ | exact pE ‹_› | refine pG ‹_› (by first | assumption | exact Ne.symm ‹_› | exact ne_fr ‹_› (by repeat (first | exact io ‹_› | exact mS ‹_› | refine gS ‹_› ?_ | refine pS ‹_› ?_)) | exact Ne.symm (ne_fr ‹_› (by repeat (first | exact io ‹_› | exact mS ‹_› | refine gS ‹_› ?_ | refine pS ‹_› ?_)))) ?_)) (by rfl) ?_ | (refine al_i ?_; intro _ _ _ _ _) | refine and_i (rdC_of (by repeat (first | assumption | refine gG ‹_› ?_ | exact pE ‹_› | refine pG ‹_› (by first | assumption | exact Ne.symm ‹_› | exact ne_fr ‹_› (by repeat (first | exact io ‹_› | exact mS ‹_› | refine gS ‹_› ?_ | refine pS ‹_› ?_)) | exact Ne.symm (ne_fr ‹_› (by repeat (first | exact io ‹_› | exact mS ‹_› | refine gS ‹_› ?_ | refine pS ‹_› ?_)))) ?_)) (by rfl)) ?_ | refine rdA_i (by repeat (first | assumption | refine gG ‹_› ?_ | exact pE ‹_› | refine pG ‹_› (by first | assumption | exact Ne.symm ‹_› | exact ne_fr ‹_› (by repeat (first | exact io ‹_› | exact mS ‹_› | refine gS ‹_› ?_ | refine pS ‹_› ?_)) | exact Ne.symm (ne_fr ‹_› (by repeat (first | exact io ‹_› | exact mS ‹_› | refine gS ‹_› ?_ | refine pS ‹_› ?_)))) ?_)) (by rfl) ?_ | (refine st_i2 (by repeat (first | assumption | refine gG ‹_› ?_ | exact pE ‹_› | refine pG ‹_› (by first | assumption | exact Ne.symm ‹_› | exact ne_fr ‹_› (by repeat (first | exact io ‹_› | exact mS ‹_› | refine gS ‹_› ?_ | refine pS ‹_› ?_)) | exact Ne.symm (ne_fr ‹_› (by repeat (first | exact io ‹_› | exact mS ‹_› | refine gS ‹_› ?_ | refine pS ‹_› ?_)))) ?_)) (by first | exact sz_int | exact sz_string | exact sz_bool | exact sz_Inode | exact sz_Quota | exact sz_MSI | exact sz_place | exact sz_Errno) (by rfl) (by rfl) ?_; intro _ _) | refine app_P ?_ | refine app_I ?_ | refine app_S ?_ | refine app_B ?_ | refine app_M ?_ | refine app_L ?_ | refine app_U ?_ | refine app_R ?_ | (refine app_of rfl ?_; try dsimp only)))
  refine call_i (s_Find hT dir name (app_IB ?_))
  exact call_i (s_must _ _ (app_I hK))
def Tb.fileE (T : Tb) (ino : Int) : Int := match T.get ino with
  | none => 5
  | some n => if n.kind == 2 then 7 else if n.kind == 1 then 0 else 2
theorem s_file1 {σ : H} {bt : Nat} {T : Tb} (hT : TAt σ bt T) {b1 b2 : Nat} {ino : Int} {t1 t2 : TypeId} (h1 : σ b1 = some (.cells ⟨[.pointer (some ⟨bt, 0, none⟩)]⟩ t1 (0, 0))) (h2 : σ b2 = some (.cells ⟨[.int .i64 ino]⟩ t2 (0, 0))) {K : Value → H → Prop}
    (hK : K (.int .i64 (T.fileE ino)) σ) : callW Tryz.prog 169 [.pointer (some ⟨b1, 0, none⟩), .pointer (some ⟨b2, 0, none⟩)] K σ := by
  refine c169 _ _ ?_
  unfold g169
  (repeat (first | refine ptr_i ?_ | refine rdT_of (by repeat (first | assumption | refine gG ‹_› ?_ | exact pE ‹_› | refine pG ‹_› (by first | assumption | exact Ne.symm ‹_› | exact ne_fr ‹_› (by repeat (first | exact io ‹_› | exact mS ‹_› | refine gS ‹_› ?_ | refine pS ‹_› ?_)) | exact Ne.symm (ne_fr ‹_› (by repeat (first | exact io ‹_› | exact mS ‹_› | refine gS ‹_› ?_ | refine pS ‹_› ?_)))) ?_)) (by rfl) ?_ | (refine al_i ?_; intro _ _ _ _ _) | refine and_i (rdC_of (by repeat (first | assumption | refine gG ‹_› ?_ | exact pE ‹_› | refine pG ‹_› (by first | assumption | exact Ne.symm ‹_› | exact ne_fr ‹_› (by repeat (first | exact io ‹_› | exact mS ‹_› | refine gS ‹_› ?_ | refine pS ‹_› ?_)) | exact Ne.symm (ne_fr ‹_› (by repeat (first | exact io ‹_› | exact mS ‹_› | refine gS ‹_› ?_ | refine pS ‹_› ?_)))) ?_)) (by rfl)) ?_ | refine rdA_i (by repeat (first | assumption | refine gG ‹_› ?_ | exact pE ‹_› | refine pG ‹_› (by first | assumption | exact Ne.symm ‹_› | exact ne_fr ‹_› (by repeat (first | exact io ‹_› | exact mS ‹_› | refine gS ‹_› ?_ | refine pS ‹_› ?_)) | exact Ne.symm (ne_fr ‹_› (by repeat (first | exact io ‹_› | exact mS ‹_› | refine gS ‹_› ?_ | refine pS ‹_› ?_)))) ?_)) (by rfl) ?_ | (refine st_i2 (by repeat (first | assumption | refine gG ‹_› ?_ | exact pE ‹_› | refine pG ‹_› (by first | assumption | exact Ne.symm ‹_› | exact ne_fr ‹_› (by repeat (first | exact io ‹_› | exact mS ‹_› | refine gS ‹_› ?_ | refine pS ‹_› ?_)) | exact Ne.symm (ne_fr ‹_› (by repeat (first | exact io ‹_› | exact mS ‹_› | refine gS ‹_› ?_ | refine pS ‹_› ?_)))) ?_)) (by first | exact sz_int | exact sz_string | exact sz_bool | exact sz_Inode | exact sz_Quota | exact sz_MSI | exact sz_place | exact sz_Errno) (by rfl) (by rfl) ?_; intro _ _) | refine app_P ?_ | refine app_I ?_ | refine app_S ?_ | refine app_B ?_ | refine app_M ?_ | refine app_L ?_ | refine app_U ?_ | refine app_R ?_ | (refine app_of rfl ?_; try dsimp only)))
  refine call_i (s_get hT ino (app_P ?_))
  unfold Tb.fileE at hK
  cases hn : T.get ino with
  | none => rw [hn] at hK; exact br_t rfl hK
  | some n =>
    rw [hn] at hK
    have hN := hT.get hn
    refine br_f rfl (ptr_i ?_)
    refine rd_I (rdC_of hN.cells (by rfl)) ?_
    cases hk : (n.kind == 2) with
    | true => simp only [hk] at hK; exact br_t rfl hK
    | false =>
      simp only [hk] at hK
      refine br_f rfl (ptr_i ?_)
      refine rd_I (rdC_of hN.cells (by rfl)) ?_
      exact call_i (s_must _ _ (app_I hK))
theorem sz_int : sizeT Tryz.prog 3 = some 1 := by kernel_rfl
theorem sz_string : sizeT Tryz.prog 9 = some 1 := by kernel_rfl
theorem sz_bool : sizeT Tryz.prog 4 = some 1 := by kernel_rfl
theorem sz_Inode : sizeT Tryz.prog 54 = some 4 := by kernel_rfl
theorem sz_Quota : sizeT Tryz.prog 31 = some 2 := by kernel_rfl
theorem sz_MSI : sizeT Tryz.prog 140 = some 1 := by kernel_rfl
/-- Node -/
def Tb.node (T : Tb) (ino : Int) : List Value := match T.get ino with
  | none => [.int .i64 0, .int .i64 0, .string ⟨⟨[]⟩⟩, .int .i64 0]
  | some n => [.int .i64 n.kind, .int .i64 n.mode, .string n.data, .int .i64 n.links]
theorem s_Node {σ : H} {bt : Nat} {T : Tb} (hT : TAt σ bt T) (ino : Int) {K : Value → H → Prop} (hK : K (.tuple ⟨[.agg ⟨T.node ino⟩, .bool (T.get ino).isSome]⟩) σ) : callW Tryz.prog 63 [.pointer (some ⟨bt, 0, none⟩), .int .i64 ino] K σ := by
  refine pure_i _ hK (c63 _ _ ?_)
  unfold g63
  refine al_i ?_
  intro b σ1 hg hb hn
  refine call_i (s_get (hT.gr hg) ino (app_P ?_))
  unfold Tb.node
  cases hnn : T.get ino with
  | none =>
    refine br_t rfl ?_
    (repeat (first | refine ptr_i ?_ | refine rdT_of (by repeat (first | assumption | refine gG ‹_› ?_ | exact pE ‹_› | refine pG ‹_› (by first | assumption | exact Ne.symm ‹_› | exact ne_fr ‹_› (by repeat (first | exact io ‹_› | exact mS ‹_› | refine gS ‹_› ?_ | refine pS ‹_› ?_)) | exact Ne.symm (ne_fr ‹_› (by repeat (first | exact io ‹_› | exact mS ‹_› | refine gS ‹_› ?_ | refine pS ‹_› ?_)))) ?_)) (by rfl) ?_ | (refine al_i ?_; intro _ _ _ _ _) | refine and_i (rdC_of (by repeat (first | assumption | refine gG ‹_› ?_ | exact pE ‹_› | refine pG ‹_› (by first | assumption | exact Ne.symm ‹_› | exact ne_fr ‹_› (by repeat (first | exact io ‹_› | exact mS ‹_› | refine gS ‹_› ?_ | refine pS ‹_› ?_)) | exact Ne.symm (ne_fr ‹_› (by repeat (first | exact io ‹_› | exact mS ‹_› | refine gS ‹_› ?_ | refine pS ‹_› ?_)))) ?_)) (by rfl)) ?_ | refine rdA_i (by repeat (first | assumption | refine gG ‹_› ?_ | exact pE ‹_› | refine pG ‹_› (by first | assumption | exact Ne.symm ‹_› | exact ne_fr ‹_› (by repeat (first | exact io ‹_› | exact mS ‹_› | refine gS ‹_› ?_ | refine pS ‹_› ?_)) | exact Ne.symm (ne_fr ‹_› (by repeat (first | exact io ‹_› | exact mS ‹_› | refine gS ‹_› ?_ | refine pS ‹_› ?_)))) ?_)) (by rfl) ?_ | (refine st_i2 (by repeat (first | assumption | refine gG ‹_› ?_ | exact pE ‹_› | refine pG ‹_› (by first | assumption | exact Ne.symm ‹_› | exact ne_fr ‹_› (by repeat (first | exact io ‹_› | exact mS ‹_› | refine gS ‹_› ?_ | refine pS ‹_› ?_)) | exact Ne.symm (ne_fr ‹_› (by repeat (first | exact io ‹_› | exact mS ‹_› | refine gS ‹_› ?_ | refine pS ‹_› ?_)))) ?_)) (by first | exact sz_int | exact sz_string | exact sz_bool | exact sz_Inode | exact sz_Quota | exact sz_MSI | exact sz_place | exact sz_Errno) (by rfl) (by rfl) ?_; intro _ _) | refine app_P ?_ | refine app_I ?_ | refine app_S ?_ | refine app_B ?_ | refine app_M ?_ | refine app_L ?_ | refine app_U ?_ | refine app_R ?_ | (refine app_of rfl ?_; try dsimp only)))
    exact ⟨rfl, by repeat (first | exact Gr.refl _ | assumption | refine Gr.trans ?_ ‹_› | refine Gr.putF ?_ ‹_› (none_of ?_ ‹_›))⟩
  | some n =>
    have hN := ((hT.gr hg).get hnn).cells
    unfold Nd.cells at hN
    refine br_f rfl (ptr_i ?_)
    (repeat (first | refine ptr_i ?_ | refine rdT_of (by repeat (first | assumption | refine gG ‹_› ?_ | exact pE ‹_› | refine pG ‹_› (by first | assumption | exact Ne.symm ‹_› | exact ne_fr ‹_› (by repeat (first | exact io ‹_› | exact mS ‹_› | refine gS ‹_› ?_ | refine pS ‹_› ?_)) | exact Ne.symm (ne_fr ‹_› (by repeat (first | exact io ‹_› | exact mS ‹_› | refine gS ‹_› ?_ | refine pS ‹_› ?_)))) ?_)) (by rfl) ?_ | (refine al_i ?_; intro _ _ _ _ _) | refine and_i (rdC_of (by repeat (first | assumption | refine gG ‹_› ?_ | exact pE ‹_› | refine pG ‹_› (by first | assumption | exact Ne.symm ‹_› | exact ne_fr ‹_› (by repeat (first | exact io ‹_› | exact mS ‹_› | refine gS ‹_› ?_ | refine pS ‹_› ?_)) | exact Ne.symm (ne_fr ‹_› (by repeat (first | exact io ‹_› | exact mS ‹_› | refine gS ‹_› ?_ | refine pS ‹_› ?_)))) ?_)) (by rfl)) ?_ | refine rdA_i (by repeat (first | assumption | refine gG ‹_› ?_ | exact pE ‹_› | refine pG ‹_› (by first | assumption | exact Ne.symm ‹_› | exact ne_fr ‹_› (by repeat (first | exact io ‹_› | exact mS ‹_› | refine gS ‹_› ?_ | refine pS ‹_› ?_)) | exact Ne.symm (ne_fr ‹_› (by repeat (first | exact io ‹_› | exact mS ‹_› | refine gS ‹_› ?_ | refine pS ‹_› ?_)))) ?_)) (by rfl) ?_ | (refine st_i2 (by repeat (first | assumption | refine gG ‹_› ?_ | exact pE ‹_› | refine pG ‹_› (by first | assumption | exact Ne.symm ‹_› | exact ne_fr ‹_› (by repeat (first | exact io ‹_› | exact mS ‹_› | refine gS ‹_› ?_ | refine pS ‹_› ?_)) | exact Ne.symm (ne_fr ‹_› (by repeat (first | exact io ‹_› | exact mS ‹_› | refine gS ‹_› ?_ | refine pS ‹_› ?_)))) ?_)) (by first | exact sz_int | exact sz_string | exact sz_bool | exact sz_Inode | exact sz_Quota | exact sz_MSI | exact sz_place | exact sz_Errno) (by rfl) (by rfl) ?_; intro _ _) | refine app_P ?_ | refine app_I ?_ | refine app_S ?_ | refine app_B ?_ | refine app_M ?_ | refine app_L ?_ | refine app_U ?_ | refine app_R ?_ | (refine app_of rfl ?_; try dsimp only)))
    exact ⟨rfl, by repeat (first | exact Gr.refl _ | assumption | refine Gr.trans ?_ ‹_› | refine Gr.putF ?_ ‹_› (none_of ?_ ‹_›))⟩
end Go.Proofs.YtlpcehbfoogejaaGreatDoor

/- THE TABLE OF INODES: what is asked ahead of a change. -/
set_option maxRecDepth 100000
namespace Go.Proofs.YtlpcehbfoogejaaGreatDoor
open Go Go.HL Go.Wk
attribute [local irreducible] ptrW ifW brW andW rdT alW letJ stW muW biW vaW imW callT cvalT app callW invW callVW sizeT oW nilF oneK loopW rfW funW begW roundK exW idxW Gr Put
theorem wrap_id {x : Int} (h1 : -9223372036854775808 ≤ x) (h2 : x ≤ 9223372036854775807) : IntKind.i64.wrap x = x := by
  rw [IntKind.wrap_i64]; omega
/-- a closure that tells a number and changes nothing -/
def Pu (σ : H) (f : Value) (e : Int) : Prop := ∀ K : Value → H → Prop, K (.int .i64 e) σ → callVW Tryz.prog f [] K σ
def FirstOk (σ : H) : List Value → List Int → Prop
  | [], [] => True
  | f :: fs, e :: es => Pu σ f e ∧ (e = 0 → FirstOk σ fs es)
  | _, _ => False
theorem s_first {σ : H} {b : Nat} {fs : List Value} {es : List Int} {t : TypeId} (hb : σ b = some (.cells ⟨fs⟩ t (0, 0))) (h : FirstOk σ fs es) (hn : fs.length ≤ 1000) {K : Value → H → Prop} (hK : K (.int .i64 (firstE es)) σ) :
    callW Tryz.prog 105 [.slice (some ⟨b, 0, none⟩) fs.length fs.length] K σ := by
  refine c105 ⟨some ⟨b, 0, none⟩, _, _⟩ ?_
  unfold g105
  refine loop_i ?_
  intro R hR
  have key : ∀ (gs : List Value) (ds : List Int) (i : Nat), fs.drop i = gs → FirstOk σ gs ds → K (.int .i64 (firstE ds)) σ → R ⟨some ⟨b, 0, none⟩, fs.length, fs.length⟩ ((fs.length : Nat) : Int) (i : Int) σ := by
    intro gs
    induction gs with
    | nil =>
      intro ds i hd hok hk
      have hge : fs.length ≤ i := by simpa using hd
      refine hR _ _ _ _ ?_
      cases ds with
      | cons d ds => exact hok.elim
      | nil => exact br_f (by simp; omega) hk
    | cons f gs ih =>
      intro ds i hd hok hk
      cases ds with
      | nil => exact hok.elim
      | cons d ds =>
        obtain ⟨hp, hok⟩ := hok
        have hlt : i < fs.length := by
          rcases Nat.lt_or_ge i fs.length with h | h
          · exact h
          · rw [List.drop_eq_nil_of_le h] at hd; cases hd
        have hf : fs[i]? = some f := by
          have : (fs.drop i)[0]? = some f := by rw [hd]; rfl
          simpa using this
        refine hR _ _ _ _ ?_
        refine br_t (by simpa using hlt) ?_
        refine ptr_i (if_i ⟨by omega, by show (i : Int) < (fs.length : Int); omega⟩ ?_)
        refine rd_R (rdC_of (v := f) hb (by simpa using hf)) ?_
        refine cvalv_i (hp _ (app_I ?_))
        by_cases he : d = 0
        · subst he
          refine br_f rfl ?_
          rw [wrap_id (by omega) (by omega)]
          have h2 : fs.drop (i + 1) = gs := by rw [← List.drop_drop, hd]; rfl
          exact ih ds (i + 1) h2 (hok rfl) (by simpa [firstE] using hk)
        · refine br_t (by simpa using he) ?_
          simpa [firstE, he] using hk
  exact key fs es 0 rfl h hK
theorem pu_of {σ : H} {g : FuncId} {as_ cs : List Value} {e : Int} (hg : isGo Tryz.prog g = true) (h : ∀ K : Value → H → Prop, K (.int .i64 e) σ → callW Tryz.prog g (as_ ++ cs) K σ) : Pu σ (.func (.func g) ⟨as_⟩ ⟨cs⟩) e := by
  intro K hk
  unfold callVW
  simp only [hg]
  simpa using h K hk
theorem go_there : isGo Tryz.prog 106 = true := by kernel_rfl
theorem go_dir1 : isGo Tryz.prog 155 = true := by kernel_rfl
theorem go_named1 : isGo Tryz.prog 156 = true := by kernel_rfl
theorem go_free1 : isGo Tryz.prog 158 = true := by kernel_rfl
theorem go_room1 : isGo Tryz.prog 159 = true := by kernel_rfl
theorem go_Make1 : isGo Tryz.prog 103 = true := by kernel_rfl
theorem go_Make2 : isGo Tryz.prog 110 = true := by kernel_rfl
theorem go_file1 : isGo Tryz.prog 169 = true := by kernel_rfl
theorem go_entry1 : isGo Tryz.prog 174 = true := by kernel_rfl
theorem go_Unlink1 : isGo Tryz.prog 121 = true := by kernel_rfl
theorem go_Move1 : isGo Tryz.prog 134 = true := by kernel_rfl
theorem go_WriteT1 : isGo Tryz.prog 116 = true := by kernel_rfl
theorem go_ChmodT1 : isGo Tryz.prog 123 = true := by kernel_rfl
theorem go_ChmodT2 : isGo Tryz.prog 124 = true := by kernel_rfl

/-! ### The makers of closures -/
theorem s_dir {σ : H} (t : Option Addr) (ino : Int) {K : Value → H → Prop} (hK : ∀ b1 b2 σ', Gr σ σ' → σ' b1 = some (.cells ⟨[.pointer t]⟩ 80 (0, 0)) → σ' b2 = some (.cells ⟨[.int .i64 ino]⟩ 3 (0, 0)) → K (.func (.func 155) ⟨[]⟩ ⟨[.pointer (some ⟨b1, 0, none⟩), .pointer (some ⟨b2, 0, none⟩)]⟩) σ') :
    callW Tryz.prog 107 [.pointer t, .int .i64 ino] K σ := by
  refine c107 _ _ ?_
  unfold g107
  (repeat (first | refine ptr_i ?_ | refine rdT_of (by repeat (first | assumption | refine gG ‹_› ?_ | exact pE ‹_› | refine pG ‹_› (by first | assumption | exact Ne.symm ‹_› | exact ne_fr ‹_› (by repeat (first | exact io ‹_› | exact mS ‹_› | refine gS ‹_› ?_ | refine pS ‹_› ?_)) | exact Ne.symm (ne_fr ‹_› (by repeat (first | exact io ‹_› | exact mS ‹_› | refine gS ‹_› ?_ | refine pS ‹_› ?_)))) ?_)) (by rfl) ?_ | (refine al_i ?_; intro _ _ _ _ _) | refine and_i (rdC_of (by repeat (first | assumption | refine gG ‹_› ?_ | exact pE ‹_› | refine pG ‹_› (by first | assumption | exact Ne.symm ‹_› | exact ne_fr ‹_› (by repeat (first | exact io ‹_› | exact mS ‹_› | refine gS ‹_› ?_ | refine pS ‹_› ?_)) | exact Ne.symm (ne_fr ‹_› (by repeat (first | exact io ‹_› | exact mS ‹_› | refine gS ‹_› ?_ | refine pS ‹_› ?_)))) ?_)) (by rfl)) ?_ | refine rdA_i (by repeat (first | assumption | refine gG ‹_› ?_ | exact pE ‹_› | refine pG ‹_› (by first | assumption | exact Ne.symm ‹_› | exact ne_fr ‹_› (by repeat (first | exact io ‹_› | exact mS ‹_› | refine gS ‹_› ?_ | refine pS ‹_› ?_)) | exact Ne.symm (ne_fr ‹_› (by repeat (first | exact io ‹_› | exact mS ‹_› | refine gS ‹_› ?_ | refine pS ‹_› ?_)))) ?_)) (by rfl) ?_ | (refine st_i2 (by repeat (first | assumption | refine gG ‹_› ?_ | exact pE ‹_› | refine pG ‹_› (by first | assumption | exact Ne.symm ‹_› | exact ne_fr ‹_› (by repeat (first | exact io ‹_› | exact mS ‹_› | refine gS ‹_› ?_ | refine pS ‹_› ?_)) | exact Ne.symm (ne_fr ‹_› (by repeat (first | exact io ‹_› | exact mS ‹_› | refine gS ‹_› ?_ | refine pS ‹_› ?_)))) ?_)) (by first | exact sz_int | exact sz_string | exact sz_bool | exact sz_Inode | exact sz_Quota | exact sz_MSI | exact sz_place | exact sz_Errno) (by rfl) (by rfl) ?_; intro _ _) | refine app_P ?_ | refine app_I ?_ | refine app_S ?_ | refine app_B ?_ | refine app_M ?_ | refine app_L ?_ | refine app_U ?_ | refine app_R ?_ | (refine app_of rfl ?_; try dsimp only)))
  exact hK _ _ _ (by repeat (first | exact Gr.refl _ | assumption | refine Gr.trans ?_ ‹_› | refine Gr.putF ?_ ‹_› (none_of ?_ ‹_›))) (by repeat (first | assumption | refine gG ‹_› ?_ | exact pE ‹_› | refine pG ‹_› (by first | assumption | exact Ne.symm ‹_› | exact ne_fr ‹_› (by repeat (first | exact io ‹_› | exact mS ‹_› | refine gS ‹_› ?_ | refine pS ‹_› ?_)) | exact Ne.symm (ne_fr ‹_› (by repeat (first | exact io ‹_› | exact mS ‹_› | refine gS ‹_› ?_ | refine pS ‹_› ?_)))) ?_)) (by repeat (first | assumption | refine gG ‹_› ?_ | exact pE ‹_› | refine pG ‹_› (by first | assumption | exact Ne.symm ‹_› | exact ne_fr ‹_› (by repeat (first | exact io ‹_› | exact mS ‹_› | refine gS ‹_› ?_ | refine pS ‹_› ?_)) | exact Ne.symm (ne_fr ‹_› (by repeat (first | exact io ‹_› | exact mS ‹_› | refine gS ‹_› ?_ | refine pS ‹_› ?_)))) ?_))
theorem s_file {σ : H} (t : Option Addr) (ino : Int) {K : Value → H → Prop} (hK : ∀ b1 b2 σ', Gr σ σ' → σ' b1 = some (.cells ⟨[.pointer t]⟩ 80 (0, 0)) → σ' b2 = some (.cells ⟨[.int .i64 ino]⟩ 3 (0, 0)) → K (.func (.func 169) ⟨[]⟩ ⟨[.pointer (some ⟨b1, 0, none⟩), .pointer (some ⟨b2, 0, none⟩)]⟩) σ') :
    callW Tryz.prog 117 [.pointer t, .int .i64 ino] K σ := by
  refine c117 _ _ ?_
  unfold g117
  (repeat (first | refine ptr_i ?_ | refine rdT_of (by repeat (first | assumption | refine gG ‹_› ?_ | exact pE ‹_› | refine pG ‹_› (by first | assumption | exact Ne.symm ‹_› | exact ne_fr ‹_› (by repeat (first | exact io ‹_› | exact mS ‹_› | refine gS ‹_› ?_ | refine pS ‹_› ?_)) | exact Ne.symm (ne_fr ‹_› (by repeat (first | exact io ‹_› | exact mS ‹_› | refine gS ‹_› ?_ | refine pS ‹_› ?_)))) ?_)) (by rfl) ?_ | (refine al_i ?_; intro _ _ _ _ _) | refine and_i (rdC_of (by repeat (first | assumption | refine gG ‹_› ?_ | exact pE ‹_› | refine pG ‹_› (by first | assumption | exact Ne.symm ‹_› | exact ne_fr ‹_› (by repeat (first | exact io ‹_› | exact mS ‹_› | refine gS ‹_› ?_ | refine pS ‹_› ?_)) | exact Ne.symm (ne_fr ‹_› (by repeat (first | exact io ‹_› | exact mS ‹_› | refine gS ‹_› ?_ | refine pS ‹_› ?_)))) ?_)) (by rfl)) ?_ | refine rdA_i (by repeat (first | assumption | refine gG ‹_› ?_ | exact pE ‹_› | refine pG ‹_› (by first | assumption | exact Ne.symm ‹_› | exact ne_fr ‹_› (by repeat (first | exact io ‹_› | exact mS ‹_› | refine gS ‹_› ?_ | refine pS ‹_› ?_)) | exact Ne.symm (ne_fr ‹_› (by repeat (first | exact io ‹_› | exact mS ‹_› | refine gS ‹_› ?_ | refine pS ‹_› ?_)))) ?_)) (by rfl) ?_ | (refine st_i2 (by repeat (first | assumption | refine gG ‹_› ?_ | exact pE ‹_› | refine pG ‹_› (by first | assumption | exact Ne.symm ‹_› | exact ne_fr ‹_› (by repeat (first | exact io ‹_› | exact mS ‹_› | refine gS ‹_› ?_ | refine pS ‹_› ?_)) | exact Ne.symm (ne_fr ‹_› (by repeat (first | exact io ‹_› | exact mS ‹_› | refine gS ‹_› ?_ | refine pS ‹_› ?_)))) ?_)) (by first | exact sz_int | exact sz_string | exact sz_bool | exact sz_Inode | exact sz_Quota | exact sz_MSI | exact sz_place | exact sz_Errno) (by rfl) (by rfl) ?_; intro _ _) | refine app_P ?_ | refine app_I ?_ | refine app_S ?_ | refine app_B ?_ | refine app_M ?_ | refine app_L ?_ | refine app_U ?_ | refine app_R ?_ | (refine app_of rfl ?_; try dsimp only)))
  exact hK _ _ _ (by repeat (first | exact Gr.refl _ | assumption | refine Gr.trans ?_ ‹_› | refine Gr.putF ?_ ‹_› (none_of ?_ ‹_›))) (by repeat (first | assumption | refine gG ‹_› ?_ | exact pE ‹_› | refine pG ‹_› (by first | assumption | exact Ne.symm ‹_› | exact ne_fr ‹_› (by repeat (first | exact io ‹_› | exact mS ‹_› | refine gS ‹_› ?_ | refine pS ‹_› ?_)) | exact Ne.symm (ne_fr ‹_› (by repeat (first | exact io ‹_› | exact mS ‹_› | refine gS ‹_› ?_ | refine pS ‹_› ?_)))) ?_)) (by repeat (first | assumption | refine gG ‹_› ?_ | exact pE ‹_› | refine pG ‹_› (by first | assumption | exact Ne.symm ‹_› | exact ne_fr ‹_› (by repeat (first | exact io ‹_› | exact mS ‹_› | refine gS ‹_› ?_ | refine pS ‹_› ?_)) | exact Ne.symm (ne_fr ‹_› (by repeat (first | exact io ‹_› | exact mS ‹_› | refine gS ‹_› ?_ | refine pS ‹_› ?_)))) ?_))
theorem s_named {σ : H} (name : ByteArray) {K : Value → H → Prop} (hK : ∀ b1 σ', Gr σ σ' → σ' b1 = some (.cells ⟨[.string name]⟩ 9 (0, 0)) → K (.func (.func 156) ⟨[]⟩ ⟨[.pointer (some ⟨b1, 0, none⟩)]⟩) σ') :
    callW Tryz.prog 108 [.string name] K σ := by
  refine c108 _ ?_
  unfold g108
  (repeat (first | refine ptr_i ?_ | refine rdT_of (by repeat (first | assumption | refine gG ‹_› ?_ | exact pE ‹_› | refine pG ‹_› (by first | assumption | exact Ne.symm ‹_› | exact ne_fr ‹_› (by repeat (first | exact io ‹_› | exact mS ‹_› | refine gS ‹_› ?_ | refine pS ‹_› ?_)) | exact Ne.symm (ne_fr ‹_› (by repeat (first | exact io ‹_› | exact mS ‹_› | refine gS ‹_› ?_ | refine pS ‹_› ?_)))) ?_)) (by rfl) ?_ | (refine al_i ?_; intro _ _ _ _ _) | refine and_i (rdC_of (by repeat (first | assumption | refine gG ‹_› ?_ | exact pE ‹_› | refine pG ‹_› (by first | assumption | exact Ne.symm ‹_› | exact ne_fr ‹_› (by repeat (first | exact io ‹_› | exact mS ‹_› | refine gS ‹_› ?_ | refine pS ‹_› ?_)) | exact Ne.symm (ne_fr ‹_› (by repeat (first | exact io ‹_› | exact mS ‹_› | refine gS ‹_› ?_ | refine pS ‹_› ?_)))) ?_)) (by rfl)) ?_ | refine rdA_i (by repeat (first | assumption | refine gG ‹_› ?_ | exact pE ‹_› | refine pG ‹_› (by first | assumption | exact Ne.symm ‹_› | exact ne_fr ‹_› (by repeat (first | exact io ‹_› | exact mS ‹_› | refine gS ‹_› ?_ | refine pS ‹_› ?_)) | exact Ne.symm (ne_fr ‹_› (by repeat (first | exact io ‹_› | exact mS ‹_› | refine gS ‹_› ?_ | refine pS ‹_› ?_)))) ?_)) (by rfl) ?_ | (refine st_i2 (by repeat (first | assumption | refine gG ‹_› ?_ | exact pE ‹_› | refine pG ‹_› (by first | assumption | exact Ne.symm ‹_› | exact ne_fr ‹_› (by repeat (first | exact io ‹_› | exact mS ‹_› | refine gS ‹_› ?_ | refine pS ‹_› ?_)) | exact Ne.symm (ne_fr ‹_› (by repeat (first | exact io ‹_› | exact mS ‹_› | refine gS ‹_› ?_ | refine pS ‹_› ?_)))) ?_)) (by first | exact sz_int | exact sz_string | exact sz_bool | exact sz_Inode | exact sz_Quota | exact sz_MSI | exact sz_place | exact sz_Errno) (by rfl) (by rfl) ?_; intro _ _) | refine app_P ?_ | refine app_I ?_ | refine app_S ?_ | refine app_B ?_ | refine app_M ?_ | refine app_L ?_ | refine app_U ?_ | refine app_R ?_ | (refine app_of rfl ?_; try dsimp only)))
  exact hK _ _ (by repeat (first | exact Gr.refl _ | assumption | refine Gr.trans ?_ ‹_› | refine Gr.putF ?_ ‹_› (none_of ?_ ‹_›))) (by repeat (first | assumption | refine gG ‹_› ?_ | exact pE ‹_› | refine pG ‹_› (by first | assumption | exact Ne.symm ‹_› | exact ne_fr ‹_› (by repeat (first | exact io ‹_› | exact mS ‹_› | refine gS ‹_› ?_ | refine pS ‹_› ?_)) | exact Ne.symm (ne_fr ‹_› (by repeat (first | exact io ‹_› | exact mS ‹_› | refine gS ‹_› ?_ | refine pS ‹_› ?_)))) ?_))
theorem s_free {σ : H} (t : Option Addr) (dir : Int) (name : ByteArray) {K : Value → H → Prop} (hK : ∀ b1 b2 b3 σ', Gr σ σ' → σ' b1 = some (.cells ⟨[.pointer t]⟩ 80 (0, 0)) → σ' b2 = some (.cells ⟨[.int .i64 dir]⟩ 3 (0, 0)) → σ' b3 = some (.cells ⟨[.string name]⟩ 9 (0, 0)) → K (.func (.func 158) ⟨[]⟩ ⟨[.pointer (some ⟨b1, 0, none⟩), .pointer (some ⟨b2, 0, none⟩), .pointer (some ⟨b3, 0, none⟩)]⟩) σ') :
    callW Tryz.prog 109 [.pointer t, .int .i64 dir, .string name] K σ := by
  refine c109 _ _ _ ?_
  unfold g109
  (repeat (first | refine ptr_i ?_ | refine rdT_of (by repeat (first | assumption | refine gG ‹_› ?_ | exact pE ‹_› | refine pG ‹_› (by first | assumption | exact Ne.symm ‹_› | exact ne_fr ‹_› (by repeat (first | exact io ‹_› | exact mS ‹_› | refine gS ‹_› ?_ | refine pS ‹_› ?_)) | exact Ne.symm (ne_fr ‹_› (by repeat (first | exact io ‹_› | exact mS ‹_› | refine gS ‹_› ?_ | refine pS ‹_› ?_)))) ?_)) (by rfl) ?_ | (refine al_i ?_; intro _ _ _ _ _) | refine and_i (rdC_of (by repeat (first | assumption | refine gG ‹_› ?_ | exact pE ‹_› | refine pG ‹_› (by first | assumption | exact Ne.symm ‹_› | exact ne_fr ‹_› (by repeat (first | exact io ‹_› | exact mS ‹_› | refine gS ‹_› ?_ | refine pS ‹_› ?_)) | exact Ne.symm (ne_fr ‹_› (by repeat (first | exact io ‹_› | exact mS ‹_› | refine gS ‹_› ?_ | refine pS ‹_› ?_)))) ?_)) (by rfl)) ?_ | refine rdA_i (by repeat (first | assumption | refine gG ‹_› ?_ | exact pE ‹_› | refine pG ‹_› (by first | assumption | exact Ne.symm ‹_› | exact ne_fr ‹_› (by repeat (first | exact io ‹_› | exact mS ‹_› | refine gS ‹_› ?_ | refine pS ‹_› ?_)) | exact Ne.symm (ne_fr ‹_› (by repeat (first | exact io ‹_› | exact mS ‹_› | refine gS ‹_› ?_ | refine pS ‹_› ?_)))) ?_)) (by rfl) ?_ | (refine st_i2 (by repeat (first | assumption | refine gG ‹_› ?_ | exact pE ‹_› | refine pG ‹_› (by first | assumption | exact Ne.symm ‹_› | exact ne_fr ‹_› (by repeat (first | exact io ‹_› | exact mS ‹_› | refine gS ‹_› ?_ | refine pS ‹_› ?_)) | exact Ne.symm (ne_fr ‹_› (by repeat (first | exact io ‹_› | exact mS ‹_› | refine gS ‹_› ?_ | refine pS ‹_› ?_)))) ?_)) (by first | exact sz_int | exact sz_string | exact sz_bool | exact sz_Inode | exact sz_Quota | exact sz_MSI | exact sz_place | exact sz_Errno) (by rfl) (by rfl) ?_; intro _ _) | refine app_P ?_ | refine app_I ?_ | refine app_S ?_ | refine app_B ?_ | refine app_M ?_ | refine app_L ?_ | refine app_U ?_ | refine app_R ?_ | (refine app_of rfl ?_; try dsimp only)))
  exact hK _ _ _ _ (by repeat (first | exact Gr.refl _ | assumption | refine Gr.trans ?_ ‹_› | refine Gr.putF ?_ ‹_› (none_of ?_ ‹_›))) (by repeat (first | assumption | refine gG ‹_› ?_ | exact pE ‹_› | refine pG ‹_› (by first | assumption | exact Ne.symm ‹_› | exact ne_fr ‹_› (by repeat (first | exact io ‹_› | exact mS ‹_› | refine gS ‹_› ?_ | refine pS ‹_› ?_)) | exact Ne.symm (ne_fr ‹_› (by repeat (first | exact io ‹_› | exact mS ‹_› | refine gS ‹_› ?_ | refine pS ‹_› ?_)))) ?_)) (by repeat (first | assumption | refine gG ‹_› ?_ | exact pE ‹_› | refine pG ‹_› (by first | assumption | exact Ne.symm ‹_› | exact ne_fr ‹_› (by repeat (first | exact io ‹_› | exact mS ‹_› | refine gS ‹_› ?_ | refine pS ‹_› ?_)) | exact Ne.symm (ne_fr ‹_› (by repeat (first | exact io ‹_› | exact mS ‹_› | refine gS ‹_› ?_ | refine pS ‹_› ?_)))) ?_)) (by repeat (first | assumption | refine gG ‹_› ?_ | exact pE ‹_› | refine pG ‹_› (by first | assumption | exact Ne.symm ‹_› | exact ne_fr ‹_› (by repeat (first | exact io ‹_› | exact mS ‹_› | refine gS ‹_› ?_ | refine pS ‹_› ?_)) | exact Ne.symm (ne_fr ‹_› (by repeat (first | exact io ‹_› | exact mS ‹_› | refine gS ‹_› ?_ | refine pS ‹_› ?_)))) ?_))
theorem s_entry {σ : H} (t : Option Addr) (dir : Int) (name : ByteArray) {K : Value → H → Prop} (hK : ∀ b1 b2 b3 σ', Gr σ σ' → σ' b1 = some (.cells ⟨[.pointer t]⟩ 80 (0, 0)) → σ' b2 = some (.cells ⟨[.int .i64 dir]⟩ 3 (0, 0)) → σ' b3 = some (.cells ⟨[.string name]⟩ 9 (0, 0)) → K (.func (.func 174) ⟨[]⟩ ⟨[.pointer (some ⟨b1, 0, none⟩), .pointer (some ⟨b2, 0, none⟩), .pointer (some ⟨b3, 0, none⟩)]⟩) σ') :
    callW Tryz.prog 122 [.pointer t, .int .i64 dir, .string name] K σ := by
  refine c122 _ _ _ ?_
  unfold g122
  (repeat (first | refine ptr_i ?_ | refine rdT_of (by repeat (first | assumption | refine gG ‹_› ?_ | exact pE ‹_› | refine pG ‹_› (by first | assumption | exact Ne.symm ‹_› | exact ne_fr ‹_› (by repeat (first | exact io ‹_› | exact mS ‹_› | refine gS ‹_› ?_ | refine pS ‹_› ?_)) | exact Ne.symm (ne_fr ‹_› (by repeat (first | exact io ‹_› | exact mS ‹_› | refine gS ‹_› ?_ | refine pS ‹_› ?_)))) ?_)) (by rfl) ?_ | (refine al_i ?_; intro _ _ _ _ _) | refine and_i (rdC_of (by repeat (first | assumption | refine gG ‹_› ?_ | exact pE ‹_› | refine pG ‹_› (by first | assumption | exact Ne.symm ‹_› | exact ne_fr ‹_› (by repeat (first | exact io ‹_› | exact mS ‹_› | refine gS ‹_› ?_ | refine pS ‹_› ?_)) | exact Ne.symm (ne_fr ‹_› (by repeat (first | exact io ‹_› | exact mS ‹_› | refine gS ‹_› ?_ | refine pS ‹_› ?_)))) ?_)) (by rfl)) ?_ | refine rdA_i (by repeat (first | assumption | refine gG ‹_› ?_ | exact pE ‹_› | refine pG ‹_› (by first | assumption | exact Ne.symm ‹_› | exact ne_fr ‹_› (by repeat (first | exact io ‹_› | exact mS ‹_› | refine gS ‹_› ?_ | refine pS ‹_› ?_)) | exact Ne.symm (ne_fr ‹_› (by repeat (first | exact io ‹_› | exact mS ‹_› | refine gS ‹_› ?_ | refine pS ‹_› ?_)))) ?_)) (by rfl) ?_ | (refine st_i2 (by repeat (first | assumption | refine gG ‹_› ?_ | exact pE ‹_› | refine pG ‹_› (by first | assumption | exact Ne.symm ‹_› | exact ne_fr ‹_› (by repeat (first | exact io ‹_› | exact mS ‹_› | refine gS ‹_› ?_ | refine pS ‹_› ?_)) | exact Ne.symm (ne_fr ‹_› (by repeat (first | exact io ‹_› | exact mS ‹_› | refine gS ‹_› ?_ | refine pS ‹_› ?_)))) ?_)) (by first | exact sz_int | exact sz_string | exact sz_bool | exact sz_Inode | exact sz_Quota | exact sz_MSI | exact sz_place | exact sz_Errno) (by rfl) (by rfl) ?_; intro _ _) | refine app_P ?_ | refine app_I ?_ | refine app_S ?_ | refine app_B ?_ | refine app_M ?_ | refine app_L ?_ | refine app_U ?_ | refine app_R ?_ | (refine app_of rfl ?_; try dsimp only)))
  exact hK _ _ _ _ (by repeat (first | exact Gr.refl _ | assumption | refine Gr.trans ?_ ‹_› | refine Gr.putF ?_ ‹_› (none_of ?_ ‹_›))) (by repeat (first | assumption | refine gG ‹_› ?_ | exact pE ‹_› | refine pG ‹_› (by first | assumption | exact Ne.symm ‹_› | exact ne_fr ‹_› (by repeat (first | exact io ‹_› | exact mS ‹_› | refine gS ‹_› ?_ | refine pS ‹_› ?_)) | exact Ne.symm (ne_fr ‹_› (by repeat (first | exact io ‹_› | exact mS ‹_› | refine gS ‹_› ?_ | refine pS ‹_› ?_)))) ?_)) (by repeat (first | assumption | refine gG ‹_› ?_ | exact pE ‹_› | refine pG ‹_› (by first | assumption | exact Ne.symm ‹_› | exact ne_fr ‹_› (by repeat (first | exact io ‹_› | exact mS ‹_› | refine gS ‹_› ?_ | refine pS ‹_› ?_)) | exact Ne.symm (ne_fr ‹_› (by repeat (first | exact io ‹_› | exact mS ‹_› | refine gS ‹_› ?_ | refine pS ‹_› ?_)))) ?_)) (by repeat (first | assumption | refine gG ‹_› ?_ | exact pE ‹_› | refine pG ‹_› (by first | assumption | exact Ne.symm ‹_› | exact ne_fr ‹_› (by repeat (first | exact io ‹_› | exact mS ‹_› | refine gS ‹_› ?_ | refine pS ‹_› ?_)) | exact Ne.symm (ne_fr ‹_› (by repeat (first | exact io ‹_› | exact mS ‹_› | refine gS ‹_› ?_ | refine pS ‹_› ?_)))) ?_))
theorem s_room {σ : H} (t : Option Addr) (i n : Int) {K : Value → H → Prop} (hK : ∀ b1 b2 b3 σ', Gr σ σ' → σ' b1 = some (.cells ⟨[.pointer t]⟩ 80 (0, 0)) → σ' b2 = some (.cells ⟨[.int .i64 i]⟩ 3 (0, 0)) → σ' b3 = some (.cells ⟨[.int .i64 n]⟩ 3 (0, 0)) → K (.func (.func 159) ⟨[]⟩ ⟨[.pointer (some ⟨b1, 0, none⟩), .pointer (some ⟨b2, 0, none⟩), .pointer (some ⟨b3, 0, none⟩)]⟩) σ') :
    callW Tryz.prog 111 [.pointer t, .int .i64 i, .int .i64 n] K σ := by
  refine c111 _ _ _ ?_
  unfold g111
  (repeat (first | refine ptr_i ?_ | refine rdT_of (by repeat (first | assumption | refine gG ‹_› ?_ | exact pE ‹_› | refine pG ‹_› (by first | assumption | exact Ne.symm ‹_› | exact ne_fr ‹_› (by repeat (first | exact io ‹_› | exact mS ‹_› | refine gS ‹_› ?_ | refine pS ‹_› ?_)) | exact Ne.symm (ne_fr ‹_› (by repeat (first | exact io ‹_› | exact mS ‹_› | refine gS ‹_› ?_ | refine pS ‹_› ?_)))) ?_)) (by rfl) ?_ | (refine al_i ?_; intro _ _ _ _ _) | refine and_i (rdC_of (by repeat (first | assumption | refine gG ‹_› ?_ | exact pE ‹_› | refine pG ‹_› (by first | assumption | exact Ne.symm ‹_› | exact ne_fr ‹_› (by repeat (first | exact io ‹_› | exact mS ‹_› | refine gS ‹_› ?_ | refine pS ‹_› ?_)) | exact Ne.symm (ne_fr ‹_› (by repeat (first | exact io ‹_› | exact mS ‹_› | refine gS ‹_› ?_ | refine pS ‹_› ?_)))) ?_)) (by rfl)) ?_ | refine rdA_i (by repeat (first | assumption | refine gG ‹_› ?_ | exact pE ‹_› | refine pG ‹_› (by first | assumption | exact Ne.symm ‹_› | exact ne_fr ‹_› (by repeat (first | exact io ‹_› | exact mS ‹_› | refine gS ‹_› ?_ | refine pS ‹_› ?_)) | exact Ne.symm (ne_fr ‹_› (by repeat (first | exact io ‹_› | exact mS ‹_› | refine gS ‹_› ?_ | refine pS ‹_› ?_)))) ?_)) (by rfl) ?_ | (refine st_i2 (by repeat (first | assumption | refine gG ‹_› ?_ | exact pE ‹_› | refine pG ‹_› (by first | assumption | exact Ne.symm ‹_› | exact ne_fr ‹_› (by repeat (first | exact io ‹_› | exact mS ‹_› | refine gS ‹_› ?_ | refine pS ‹_› ?_)) | exact Ne.symm (ne_fr ‹_› (by repeat (first | exact io ‹_› | exact mS ‹_› | refine gS ‹_› ?_ | refine pS ‹_› ?_)))) ?_)) (by first | exact sz_int | exact sz_string | exact sz_bool | exact sz_Inode | exact sz_Quota | exact sz_MSI | exact sz_place | exact sz_Errno) (by rfl) (by rfl) ?_; intro _ _) | refine app_P ?_ | refine app_I ?_ | refine app_S ?_ | refine app_B ?_ | refine app_M ?_ | refine app_L ?_ | refine app_U ?_ | refine app_R ?_ | (refine app_of rfl ?_; try dsimp only)))
  exact hK _ _ _ _ (by repeat (first | exact Gr.refl _ | assumption | refine Gr.trans ?_ ‹_› | refine Gr.putF ?_ ‹_› (none_of ?_ ‹_›))) (by repeat (first | assumption | refine gG ‹_› ?_ | exact pE ‹_› | refine pG ‹_› (by first | assumption | exact Ne.symm ‹_› | exact ne_fr ‹_› (by repeat (first | exact io ‹_› | exact mS ‹_› | refine gS ‹_› ?_ | refine pS ‹_› ?_)) | exact Ne.symm (ne_fr ‹_› (by repeat (first | exact io ‹_› | exact mS ‹_› | refine gS ‹_› ?_ | refine pS ‹_› ?_)))) ?_)) (by repeat (first | assumption | refine gG ‹_› ?_ | exact pE ‹_› | refine pG ‹_› (by first | assumption | exact Ne.symm ‹_› | exact ne_fr ‹_› (by repeat (first | exact io ‹_› | exact mS ‹_› | refine gS ‹_› ?_ | refine pS ‹_› ?_)) | exact Ne.symm (ne_fr ‹_› (by repeat (first | exact io ‹_› | exact mS ‹_› | refine gS ‹_› ?_ | refine pS ‹_› ?_)))) ?_)) (by repeat (first | assumption | refine gG ‹_› ?_ | exact pE ‹_› | refine pG ‹_› (by first | assumption | exact Ne.symm ‹_› | exact ne_fr ‹_› (by repeat (first | exact io ‹_› | exact mS ‹_› | refine gS ‹_› ?_ | refine pS ‹_› ?_)) | exact Ne.symm (ne_fr ‹_› (by repeat (first | exact io ‹_› | exact mS ‹_› | refine gS ‹_› ?_ | refine pS ‹_› ?_)))) ?_))
/-- room -/
def Tb.roomE (T : Tb) (i n : Int) : Int := if IntKind.i64.wrap (T.ui + i) ≤ T.qi ∧ IntKind.i64.wrap (T.ub + n) ≤ T.qb then 0 else 10
theorem s_room1 {σ : H} {bt : Nat} {T : Tb} (hT : TAt σ bt T) {b1 b2 b3 : Nat} {i n : Int} {t1 t2 t3 : TypeId} (h1 : σ b1 = some (.cells ⟨[.pointer (some ⟨bt, 0, none⟩)]⟩ t1 (0, 0))) (h2 : σ b2 = some (.cells ⟨[.int .i64 i]⟩ t2 (0, 0))) (h3 : σ b3 = some (.cells ⟨[.int .i64 n]⟩ t3 (0, 0))) {K : Value → H → Prop}
    (hK : K (.int .i64 (T.roomE i n)) σ) : callW Tryz.prog 159 [.pointer (some ⟨b1, 0, none⟩), .pointer (some ⟨b2, 0, none⟩), .pointer (some ⟨b3, 0, none⟩)] K σ := by
  refine c159 _ _ _ ?_
  unfold g159
  have hc := hT.cells
  unfold Tb.cells at hc
  (repeat (first | refine ptr_i ?_ | refine rdT_of (by repeat (first | assumption | refine gG ‹_› ?_ | exact pE ‹_› | refine pG ‹_› (by first | assumption | exact Ne.symm ‹_› | exact ne_fr ‹_› (by repeat (first | exact io ‹_› | exact mS ‹_› | refine gS ‹_› ?_ | refine pS ‹_› ?_)) | exact Ne.symm (ne_fr ‹_› (by repeat (first | exact io ‹_› | exact mS ‹_› | refine gS ‹_› ?_ | refine pS ‹_› ?_)))) ?_)) (by rfl) ?_ | (refine al_i ?_; intro _ _ _ _ _) | refine and_i (rdC_of (by repeat (first | assumption | refine gG ‹_› ?_ | exact pE ‹_› | refine pG ‹_› (by first | assumption | exact Ne.symm ‹_› | exact ne_fr ‹_› (by repeat (first | exact io ‹_› | exact mS ‹_› | refine gS ‹_› ?_ | refine pS ‹_› ?_)) | exact Ne.symm (ne_fr ‹_› (by repeat (first | exact io ‹_› | exact mS ‹_› | refine gS ‹_› ?_ | refine pS ‹_› ?_)))) ?_)) (by rfl)) ?_ | refine rdA_i (by repeat (first | assumption | refine gG ‹_› ?_ | exact pE ‹_› | refine pG ‹_› (by first | assumption | exact Ne.symm ‹_› | exact ne_fr ‹_› (by repeat (first | exact io ‹_› | exact mS ‹_› | refine gS ‹_› ?_ | refine pS ‹_› ?_)) | exact Ne.symm (ne_fr ‹_› (by repeat (first | exact io ‹_› | exact mS ‹_› | refine gS ‹_› ?_ | refine pS ‹_› ?_)))) ?_)) (by rfl) ?_ | (refine st_i2 (by repeat (first | assumption | refine gG ‹_› ?_ | exact pE ‹_› | refine pG ‹_› (by first | assumption | exact Ne.symm ‹_› | exact ne_fr ‹_› (by repeat (first | exact io ‹_› | exact mS ‹_› | refine gS ‹_› ?_ | refine pS ‹_› ?_)) | exact Ne.symm (ne_fr ‹_› (by repeat (first | exact io ‹_› | exact mS ‹_› | refine gS ‹_› ?_ | refine pS ‹_› ?_)))) ?_)) (by first | exact sz_int | exact sz_string | exact sz_bool | exact sz_Inode | exact sz_Quota | exact sz_MSI | exact sz_place | exact sz_Errno) (by rfl) (by rfl) ?_; intro _ _) | refine app_P ?_ | refine app_I ?_ | refine app_S ?_ | refine app_B ?_ | refine app_M ?_ | refine app_L ?_ | refine app_U ?_ | refine app_R ?_ | (refine app_of rfl ?_; try dsimp only)))
  unfold Tb.roomE at hK
  by_cases ha : IntKind.i64.wrap (T.ui + i) ≤ T.qi
  · refine br_t (by simpa using ha) ?_
    (repeat (first | refine ptr_i ?_ | refine rdT_of (by repeat (first | assumption | refine gG ‹_› ?_ | exact pE ‹_› | refine pG ‹_› (by first | assumption | exact Ne.symm ‹_› | exact ne_fr ‹_› (by repeat (first | exact io ‹_› | exact mS ‹_› | refine gS ‹_› ?_ | refine pS ‹_› ?_)) | exact Ne.symm (ne_fr ‹_› (by repeat (first | exact io ‹_› | exact mS ‹_› | refine gS ‹_› ?_ | refine pS ‹_› ?_)))) ?_)) (by rfl) ?_ | (refine al_i ?_; intro _ _ _ _ _) | refine and_i (rdC_of (by repeat (first | assumption | refine gG ‹_› ?_ | exact pE ‹_› | refine pG ‹_› (by first | assumption | exact Ne.symm ‹_› | exact ne_fr ‹_› (by repeat (first | exact io ‹_› | exact mS ‹_› | refine gS ‹_› ?_ | refine pS ‹_› ?_)) | exact Ne.symm (ne_fr ‹_› (by repeat (first | exact io ‹_› | exact mS ‹_› | refine gS ‹_› ?_ | refine pS ‹_› ?_)))) ?_)) (by rfl)) ?_ | refine rdA_i (by repeat (first | assumption | refine gG ‹_› ?_ | exact pE ‹_› | refine pG ‹_› (by first | assumption | exact Ne.symm ‹_› | exact ne_fr ‹_› (by repeat (first | exact io ‹_› | exact mS ‹_› | refine gS ‹_› ?_ | refine pS ‹_› ?_)) | exact Ne.symm (ne_fr ‹_› (by repeat (first | exact io ‹_› | exact mS ‹_› | refine gS ‹_› ?_ | refine pS ‹_› ?_)))) ?_)) (by rfl) ?_ | (refine st_i2 (by repeat (first | assumption | refine gG ‹_› ?_ | exact pE ‹_› | refine pG ‹_› (by first | assumption | exact Ne.symm ‹_› | exact ne_fr ‹_› (by repeat (first | exact io ‹_› | exact mS ‹_› | refine gS ‹_› ?_ | refine pS ‹_› ?_)) | exact Ne.symm (ne_fr ‹_› (by repeat (first | exact io ‹_› | exact mS ‹_› | refine gS ‹_› ?_ | refine pS ‹_› ?_)))) ?_)) (by first | exact sz_int | exact sz_string | exact sz_bool | exact sz_Inode | exact sz_Quota | exact sz_MSI | exact sz_place | exact sz_Errno) (by rfl) (by rfl) ?_; intro _ _) | refine app_P ?_ | refine app_I ?_ | refine app_S ?_ | refine app_B ?_ | refine app_M ?_ | refine app_L ?_ | refine app_U ?_ | refine app_R ?_ | (refine app_of rfl ?_; try dsimp only)))
    refine call_i (s_must _ _ (app_I ?_))
    simpa [ha] using hK
  · refine br_f (by simpa using ha) ?_
    refine call_i (s_must _ _ (app_I ?_))
    simpa [ha] using hK
theorem und_MIB : Tryz.prog.underlying 146 = some (.map 3 4) := by kernel_rfl
theorem und_int : Tryz.prog.underlying 3 = some (.int .i64) := by kernel_rfl
theorem und_string : Tryz.prog.underlying 9 = some .string := by kernel_rfl
/-- what is asked of strings.IndexByte: is that byte there? -/
def IByte : Prop := ∀ (s : ByteArray) (σ : H) (K : Value → H → Prop), (∀ n : Int, (decide (n < 0) = !hasNul s) → K (.int .i64 n) σ) → callW Tryz.prog 65 [.string s, .int .u8 0] K σ
def CAny : Prop := ∀ (s : ByteArray) (_ : s.size ≤ 1000000) (σ : H) (K : Value → H → Prop), K (.bool (badByte s)) σ → callW Tryz.prog 157 [.string s, .string ⟨⟨[47, 0]⟩⟩] K σ
theorem s_Make1 (hI : IByte) {σ : H} {b1 b2 b3 : Nat} {data : ByteArray} {kind mode : Int} {t1 t2 t3 : TypeId} (h1 : σ b1 = some (.cells ⟨[.string data]⟩ t1 (0, 0))) (h2 : σ b2 = some (.cells ⟨[.int .i64 kind]⟩ t2 (0, 0))) (h3 : σ b3 = some (.cells ⟨[.int .i64 mode]⟩ t3 (0, 0))) {K : Value → H → Prop}
    (hK : K (.int .i64 (likeE kind mode data)) σ) : callW Tryz.prog 103 [.pointer (some ⟨b1, 0, none⟩), .pointer (some ⟨b2, 0, none⟩), .pointer (some ⟨b3, 0, none⟩)] K σ := by
  have hsE : sEq data ⟨⟨[]⟩⟩ = strEq data ⟨⟨[]⟩⟩ := sEq_eq _ _
  refine pure_i _ hK (c103 _ _ _ ?_)
  unfold g103
  refine j_i (fun j => ∀ σ', Gr σ σ' → j (some ⟨b1, 0, none⟩) (some ⟨b2, 0, none⟩) (some ⟨b3, 0, none⟩) (linkOk data) σ') ?_ ?_
  · intro σ' hg
    refine al_i ?_
    intro b σ1 hg1 hb hn
    have m0 : MapAt σ1 b (encL kkI Value.bool []) := MapAt.new hb
    refine mu_i (kk := kkI) (f := Value.bool) und_MIB und_int m0 1 true ?_
    intro o1 σ2 hp1 m1
    have hne1 : b1 ≠ b := ne_fresh (hg.get h1) hn
    have hne2 : b2 ≠ b := ne_fresh (hg.get h2) hn
    have hne3 : b3 ≠ b := ne_fresh (hg.get h3) hn
    refine ptr_i (rd_S (rdC_of (by repeat (first | assumption | refine gG ‹_› ?_ | exact pE ‹_› | refine pG ‹_› (by first | assumption | exact Ne.symm ‹_› | exact ne_fr ‹_› (by repeat (first | exact io ‹_› | exact mS ‹_› | refine gS ‹_› ?_ | refine pS ‹_› ?_)) | exact Ne.symm (ne_fr ‹_› (by repeat (first | exact io ‹_› | exact mS ‹_› | refine gS ‹_› ?_ | refine pS ‹_› ?_)))) ?_)) (by rfl)) ?_)
    refine mu_i (kk := kkI) (f := Value.bool) und_MIB und_int m1 2 _ ?_
    intro o2 σ3 hp2 m2
    refine mu_i (kk := kkI) (f := Value.bool) und_MIB und_int m2 3 _ ?_
    intro o3 σ4 hp3 m3
    refine ptr_i (rd_I (rdC_of (by repeat (first | assumption | refine gG ‹_› ?_ | exact pE ‹_› | refine pG ‹_› (by first | assumption | exact Ne.symm ‹_› | exact ne_fr ‹_› (by repeat (first | exact io ‹_› | exact mS ‹_› | refine gS ‹_› ?_ | refine pS ‹_› ?_)) | exact Ne.symm (ne_fr ‹_› (by repeat (first | exact io ‹_› | exact mS ‹_› | refine gS ‹_› ?_ | refine pS ‹_› ?_)))) ?_)) (by rfl)) ?_)
    have hv : ((lk kind (up 3 (linkOk data) (up 2 (strEq data ⟨⟨[]⟩⟩) (up 1 true [])))).map Value.bool).getD (.bool false) = .bool (kindOkE kind data) := by
      show ((lk kind [((1 : Int), true), (2, strEq data ⟨⟨[]⟩⟩), (3, linkOk data)]).map Value.bool).getD (.bool false) = _
      unfold kindOkE
      rw [hsE]
      cases lk kind [((1 : Int), true), (2, strEq data ⟨⟨[]⟩⟩), (3, linkOk data)] <;> rfl
    have hr := rdM_at (kk := kkI) m3 (.bool false) false kind
    refine rd_B (x := kindOkE kind data) (by rw [← hv]; exact hr) ?_
    have hgr : Gr σ σ4 := by repeat (first | exact Gr.refl _ | assumption | refine Gr.trans ?_ ‹_› | refine Gr.putF ?_ ‹_› (none_of ?_ ‹_›))
    unfold likeE
    cases hk : kindOkE kind data with
    | false =>
      refine br_f rfl (call_i (s_must _ _ (app_I ⟨rfl, hgr⟩)))
    | true =>
      refine br_t rfl (ptr_i (rd_I (rdC_of (by repeat (first | assumption | refine gG ‹_› ?_ | exact pE ‹_› | refine pG ‹_› (by first | assumption | exact Ne.symm ‹_› | exact ne_fr ‹_› (by repeat (first | exact io ‹_› | exact mS ‹_› | refine gS ‹_› ?_ | refine pS ‹_› ?_)) | exact Ne.symm (ne_fr ‹_› (by repeat (first | exact io ‹_› | exact mS ‹_› | refine gS ‹_› ?_ | refine pS ‹_› ?_)))) ?_)) (by rfl)) ?_))
      by_cases hm : 0 ≤ mode
      · refine br_t (by simpa using hm) (ptr_i (rd_I (rdC_of (by repeat (first | assumption | refine gG ‹_› ?_ | exact pE ‹_› | refine pG ‹_› (by first | assumption | exact Ne.symm ‹_› | exact ne_fr ‹_› (by repeat (first | exact io ‹_› | exact mS ‹_› | refine gS ‹_› ?_ | refine pS ‹_› ?_)) | exact Ne.symm (ne_fr ‹_› (by repeat (first | exact io ‹_› | exact mS ‹_› | refine gS ‹_› ?_ | refine pS ‹_› ?_)))) ?_)) (by rfl)) ?_))
        refine call_i (s_must _ _ (app_I ⟨?_, hgr⟩))
        simp [hm]
      · refine br_f (by simpa using hm) (call_i (s_must _ _ (app_I ⟨?_, hgr⟩)))
        simp [hm]
  · intro j hj
    refine ptr_i (rd_S (rdC_of (by repeat (first | assumption | refine gG ‹_› ?_ | exact pE ‹_› | refine pG ‹_› (by first | assumption | exact Ne.symm ‹_› | exact ne_fr ‹_› (by repeat (first | exact io ‹_› | exact mS ‹_› | refine gS ‹_› ?_ | refine pS ‹_› ?_)) | exact Ne.symm (ne_fr ‹_› (by repeat (first | exact io ‹_› | exact mS ‹_› | refine gS ‹_› ?_ | refine pS ‹_› ?_)))) ?_)) (by rfl)) ?_)
    unfold linkOk at hj
    rw [hsE] at hj
    cases he : strEq data ⟨⟨[]⟩⟩ with
    | true => refine br_f rfl ?_; rw [he] at hj; exact hj σ (Gr.refl _)
    | false =>
      rw [he] at hj
      refine br_t rfl (ptr_i (rd_S (rdC_of (by repeat (first | assumption | refine gG ‹_› ?_ | exact pE ‹_› | refine pG ‹_› (by first | assumption | exact Ne.symm ‹_› | exact ne_fr ‹_› (by repeat (first | exact io ‹_› | exact mS ‹_› | refine gS ‹_› ?_ | refine pS ‹_› ?_)) | exact Ne.symm (ne_fr ‹_› (by repeat (first | exact io ‹_› | exact mS ‹_› | refine gS ‹_› ?_ | refine pS ‹_› ?_)))) ?_)) (by rfl)) ?_))
      by_cases hl : data.size ≤ 255
      · refine br_t (by simp; omega) (ptr_i (rd_S (rdC_of (by repeat (first | assumption | refine gG ‹_› ?_ | exact pE ‹_› | refine pG ‹_› (by first | assumption | exact Ne.symm ‹_› | exact ne_fr ‹_› (by repeat (first | exact io ‹_› | exact mS ‹_› | refine gS ‹_› ?_ | refine pS ‹_› ?_)) | exact Ne.symm (ne_fr ‹_› (by repeat (first | exact io ‹_› | exact mS ‹_› | refine gS ‹_› ?_ | refine pS ‹_› ?_)))) ?_)) (by rfl)) ?_))
        refine call_i (hI data σ _ ?_)
        intro n hn
        refine app_I ?_
        rw [hn]
        simpa [hl] using hj σ (Gr.refl _)
      · refine br_f (by simp; omega) ?_
        simpa [hl] using hj σ (Gr.refl _)
end Go.Proofs.YtlpcehbfoogejaaGreatDoor

/- THE TABLE OF INODES: how it is changed in memory. -/
set_option maxRecDepth 100000
namespace Go.Proofs.YtlpcehbfoogejaaGreatDoor
open Go Go.HL Go.Wk
attribute [local irreducible] ptrW ifW brW andW rdT alW letJ stW muW biW vaW imW callT cvalT app callW invW callVW sizeT oW nilF oneK loopW rfW funW begW roundK exW idxW Gr Put
def Nd.abs (n : Nd) : AN := ⟨n.kind, n.mode, n.data, n.links, n.up, n.ents⟩
def Tb.abs (T : Tb) : AT := ⟨T.qi, T.qb, T.ui, T.ub, T.last, T.nodes.map fun p => (p.1, p.2.abs)⟩
theorem abs_get (T : Tb) (i : Int) : T.abs.get i = (T.get i).map Nd.abs := lk_map _ _ _
theorem abs_find (T : Tb) (d : Int) (s : ByteArray) : T.abs.find d s = T.find d s := by
  unfold AT.find Tb.find; rw [abs_get]; cases T.get d <;> rfl
theorem abs_dirE (T : Tb) (d : Int) : T.abs.dirE d = T.dirE d := by
  unfold AT.dirE Tb.dirE; rw [abs_get]; cases T.get d <;> rfl
theorem abs_fileE (T : Tb) (d : Int) : T.abs.fileE d = T.fileE d := by
  unfold AT.fileE Tb.fileE; rw [abs_get]; cases T.get d <;> rfl
theorem abs_up (T : Tb) (d : Int) : T.abs.upOf d = T.up d := by
  unfold AT.upOf Tb.up; rw [abs_get]; cases T.get d <;> rfl
theorem abs_roomE (T : Tb) (i n : Int) : T.abs.roomE i n = T.roomE i n := rfl
/-- no block serves twice -/
structure Own (T : Tb) : Prop where
  blk : ∀ i j n m, T.get i = some n → T.get j = some m → n.blk = m.blk → i = j
  eb : ∀ i j n m e, T.get i = some n → T.get j = some m → n.eb = some e → m.eb = some e → i = j
  mb : ∀ i n, T.get i = some n → n.eb ≠ some T.mb
def Tb.own (bt : Nat) (T : Tb) (b : Nat) : Prop := b = bt ∨ b = T.mb ∨ ∃ i n, T.get i = some n ∧ (b = n.blk ∨ n.eb = some b)
def Tb.set (T : Tb) (i : Int) (n : Nd) : Tb := { T with nodes := HL.up i n T.nodes }
theorem get_set (T : Tb) (i j : Int) (n : Nd) : (T.set i n).get j = if j = i then some n else T.get j := by
  unfold Tb.set Tb.get; simp only [lk_up]
  by_cases h : j = i <;> simp [h]
theorem get_set_self (T : Tb) (i : Int) (n : Nd) : (T.set i n).get i = some n := by rw [get_set]; simp
theorem abs_set (T : Tb) (i : Int) (n : Nd) : (T.set i n).abs = T.abs.set i n.abs := by
  unfold Tb.set Tb.abs AT.set; simp only [up_map]
section
variable {σ σ' : H} {bt : Nat} {T : Tb} {b : Nat} {o : Obj}
theorem NdAt.put {m : Nd} (h : NdAt σ m) (hp : Put σ b o σ') (h1 : m.blk ≠ b) (h2 : m.eb ≠ some b) : NdAt σ' m :=
  ⟨hp.get h1 h.cells, fun e he => (h.ents e he).put hp (by intro e'; subst e'; exact h2 he), h.none, h.dir⟩
theorem ne_cm {c d : Nat} {l : List (Value × Value)} {es : Array Value} {t : TypeId} {fz : Nat × Nat} (hc : σ c = some (.cells es t fz)) (hd : MapAt σ d l) : c ≠ d := by
  obtain ⟨es', k, hd, _⟩ := hd
  intro e; subst e; rw [hc] at hd; cases hd
theorem TAt.bt_mb (h : TAt σ bt T) : bt ≠ T.mb := ne_cm h.cells h.nodes
theorem TAt.blk_bt (h : TAt σ bt T) {i : Int} {n : Nd} (hn : T.get i = some n) : n.blk ≠ bt := by
  intro e
  have h1 := (h.get hn).cells
  have h2 := h.cells
  rw [e, h2] at h1
  unfold Tb.cells Nd.cells at h1
  simp at h1
theorem TAt.blk_mb (h : TAt σ bt T) {i : Int} {n : Nd} (hn : T.get i = some n) : n.blk ≠ T.mb := ne_cm (h.get hn).cells h.nodes
theorem TAt.eb_bt (h : TAt σ bt T) {i : Int} {n : Nd} (hn : T.get i = some n) : n.eb ≠ some bt := by
  intro e; exact ne_cm h.cells ((h.get hn).ents _ e) rfl
theorem TAt.eb_blk (h : TAt σ bt T) {i j : Int} {n m : Nd} (hn : T.get i = some n) (hm : T.get j = some m) : n.eb ≠ some m.blk := by
  intro e; exact ne_cm (h.get hm).cells ((h.get hn).ents _ e) rfl
theorem TAt.own_some (h : TAt σ bt T) (hb : T.own bt b) : ∃ o, σ b = some o := by
  rcases hb with e | e | ⟨i, n, hn, e | e⟩
  · subst e; exact ⟨_, h.cells⟩
  · subst e; obtain ⟨_, _, h1, _⟩ := h.nodes; exact ⟨_, h1⟩
  · subst e; exact ⟨_, (h.get hn).cells⟩
  · obtain ⟨_, _, h1, _⟩ := (h.get hn).ents _ e; exact ⟨_, h1⟩
/-- a block elsewhere is set -/
theorem TAt.put (h : TAt σ bt T) (hp : Put σ b o σ') (hn : ¬ T.own bt b) : TAt σ' bt T := by
  refine ⟨hp.get ?_ h.cells, h.nodes.put hp ?_, fun i n hg => (h.get hg).put hp ?_ ?_⟩
  · intro e; exact hn (.inl e.symm)
  · intro e; exact hn (.inr (.inl e.symm))
  · intro e; exact hn (.inr (.inr ⟨i, n, hg, .inl e.symm⟩))
  · intro e; exact hn (.inr (.inr ⟨i, n, hg, .inr e⟩))
/-- the table's own cells are set -/
theorem TAt.putT {T' : Tb} (h : TAt σ bt T) (hp : Put σ bt T'.cells σ') (h1 : T'.mb = T.mb) (h2 : T'.nodes = T.nodes) : TAt σ' bt T' := by
  have hg : ∀ i, T'.get i = T.get i := by intro i; unfold Tb.get; rw [h2]
  refine ⟨hp.same, ?_, fun i n hn => ?_⟩
  · rw [h1, h2]; exact h.nodes.put hp (h.bt_mb).symm
  · rw [hg] at hn
    exact (h.get hn).put hp (h.blk_bt hn) (h.eb_bt hn)
theorem Own.same {T' : Tb} (h : Own T) (h1 : T'.mb = T.mb) (h2 : T'.nodes = T.nodes) : Own T' := by
  have hg : ∀ i, T'.get i = T.get i := by intro i; unfold Tb.get; rw [h2]
  refine ⟨?_, ?_, ?_⟩
  · intro i j n m; rw [hg, hg]; exact h.blk i j n m
  · intro i j n m e; rw [hg, hg]; exact h.eb i j n m e
  · intro i n; rw [hg, h1]; exact h.mb i n
theorem own_same {T' : Tb} (h1 : T'.mb = T.mb) (h2 : T'.nodes = T.nodes) (b : Nat) : T'.own bt b ↔ T.own bt b := by
  have hg : ∀ i, T'.get i = T.get i := by intro i; unfold Tb.get; rw [h2]
  unfold Tb.own; simp only [hg, h1]
/-- an inode's cells are set -/
theorem TAt.putN (h : TAt σ bt T) (ho : Own T) {i : Int} {n n' : Nd} (hn : T.get i = some n) (hp : Put σ n.blk n'.cells σ') (h1 : n'.blk = n.blk) (h2 : n'.eb = n.eb) (h3 : n'.ents = n.ents) (h4 : n'.kind = n.kind) : TAt σ' bt (T.set i n') := by
  refine ⟨hp.get (h.blk_bt hn).symm h.cells, ?_, fun j m hm => ?_⟩
  · have := enc_up_same (kk := kkI) (f := Nd.ptr) (k := i) (v := n') (u := n) (l := T.nodes) hn (by unfold Nd.ptr; rw [h1])
    show MapAt σ' T.mb (encL kkI Nd.ptr (up i n' T.nodes))
    rw [this]
    exact h.nodes.put hp (h.blk_mb hn).symm
  · rw [get_set] at hm
    by_cases e : j = i
    · rw [if_pos e] at hm; cases hm
      have hN := h.get hn
      refine ⟨by rw [h1]; exact hp.same, fun e he => ?_, fun he => ?_, fun hk => ?_⟩
      · rw [h2] at he; rw [h3]
        exact (hN.ents e he).put hp (ne_cm hN.cells (hN.ents e he)).symm
      · rw [h2] at he; rw [h3]; exact hN.none he
      · rw [h2]; rw [h4] at hk; exact hN.dir hk
    · rw [if_neg e] at hm
      exact (h.get hm).put hp (fun e' => e (ho.blk j i m n hm hn e')) (h.eb_blk hm hn)
theorem Own.set (ho : Own T) {i : Int} {n n' : Nd} (hn : T.get i = some n) (h1 : n'.blk = n.blk) (h2 : n'.eb = n.eb) : Own (T.set i n') := by
  have key : ∀ j m, (T.set i n').get j = some m → ∃ m', T.get j = some m' ∧ m.blk = m'.blk ∧ m.eb = m'.eb := by
    intro j m hm
    rw [get_set] at hm
    by_cases e : j = i
    · rw [if_pos e] at hm; cases hm; subst e; exact ⟨n, hn, h1, h2⟩
    · rw [if_neg e] at hm; exact ⟨m, hm, rfl, rfl⟩
  refine ⟨?_, ?_, ?_⟩
  · intro a c x y hx hy hb
    obtain ⟨x', hx', e1, _⟩ := key a x hx
    obtain ⟨y', hy', e2, _⟩ := key c y hy
    exact ho.blk a c x' y' hx' hy' (by rw [← e1, ← e2]; exact hb)
  · intro a c x y e hx hy h3 h4
    obtain ⟨x', hx', _, e1⟩ := key a x hx
    obtain ⟨y', hy', _, e2⟩ := key c y hy
    exact ho.eb a c x' y' e hx' hy' (by rw [← e1]; exact h3) (by rw [← e2]; exact h4)
  · intro a x hx
    obtain ⟨x', hx', _, e1⟩ := key a x hx
    rw [e1]; exact ho.mb a x' hx'
theorem own_set {i : Int} {n n' : Nd} (hn : T.get i = some n) (h1 : n'.blk = n.blk) (h2 : n'.eb = n.eb) (b : Nat) : (T.set i n').own bt b ↔ T.own bt b := by
  unfold Tb.own
  have : (T.set i n').mb = T.mb := rfl
  rw [this]
  refine or_congr_right (or_congr_right ⟨?_, ?_⟩)
  · rintro ⟨j, m, hm, hb⟩
    rw [get_set] at hm
    by_cases e : j = i
    · rw [if_pos e] at hm; cases hm; exact ⟨i, n, hn, by rw [← h1, ← h2]; exact hb⟩
    · rw [if_neg e] at hm; exact ⟨j, m, hm, hb⟩
  · rintro ⟨j, m, hm, hb⟩
    by_cases e : j = i
    · subst e; rw [hn] at hm; cases hm; exact ⟨j, n', get_set_self .., by rw [h1, h2]; exact hb⟩
    · exact ⟨j, m, by rw [get_set, if_neg e]; exact hm, hb⟩
/-- what a directory names is set -/
theorem TAt.putE (h : TAt σ bt T) (ho : Own T) {i : Int} {n : Nd} {e : Nat} {l : List (ByteArray × Int)} (hn : T.get i = some n) (he : n.eb = some e) (hp : Put σ e o σ') (hm : MapAt σ' e (encL kkS valI l)) : TAt σ' bt (T.set i { n with ents := l }) := by
  have hE := (h.get hn).ents e he
  refine ⟨hp.get (ne_cm h.cells hE) h.cells, ?_, fun j m hj => ?_⟩
  · have := enc_up_same (kk := kkI) (f := Nd.ptr) (k := i) (v := { n with ents := l }) (u := n) (l := T.nodes) hn rfl
    show MapAt σ' T.mb (encL kkI Nd.ptr (up i _ T.nodes))
    rw [this]
    exact h.nodes.put hp (by intro e'; exact ho.mb i n hn (by rw [he, e']))
  · rw [get_set] at hj
    by_cases e' : j = i
    · rw [if_pos e'] at hj; cases hj
      have hN := h.get hn
      refine ⟨hp.get (ne_cm hN.cells hE) hN.cells, fun e2 he2 => ?_, fun h0 => ?_, hN.dir⟩
      · have : e2 = e := by have := he2.symm.trans he; cases this; rfl
        subst this; exact hm
      · have := he.symm.trans h0; cases this
    · rw [if_neg e'] at hj
      have hN := h.get hj
      exact hN.put hp (ne_cm hN.cells hE) (fun h2 => e' (ho.eb j i m n e hj hn h2 he))
/-- another inode -/
theorem TAt.putA (h : TAt σ bt T) (ho : Own T) {i : Int} {n : Nd} (hN : NdAt σ n) (hp : Put σ T.mb o σ') (hm : MapAt σ' T.mb (encL kkI Nd.ptr (up i n T.nodes))) (hf : n.eb ≠ some T.mb) : TAt σ' bt (T.set i n) := by
  refine ⟨hp.get h.bt_mb h.cells, hm, fun j m hj => ?_⟩
  rw [get_set] at hj
  by_cases e : j = i
  · rw [if_pos e] at hj; cases hj
    exact hN.put hp (ne_cm hN.cells h.nodes) hf
  · rw [if_neg e] at hj
    exact (h.get hj).put hp (h.blk_mb hj) (ho.mb j m hj)
theorem Own.add (ho : Own T) {i : Int} {n : Nd} (h1 : ¬ T.own bt n.blk) (h2 : ∀ e, n.eb = some e → ¬ T.own bt e) : Own (T.set i n) := by
  have hb : ∀ j m, T.get j = some m → m.blk ≠ n.blk := fun j m hm e => h1 (.inr (.inr ⟨j, m, hm, .inl e.symm⟩))
  have he : ∀ j m e, T.get j = some m → n.eb = some e → m.eb ≠ some e := fun j m e hm hn h => h2 e hn (.inr (.inr ⟨j, m, hm, .inr h⟩))
  refine ⟨?_, ?_, ?_⟩
  · intro a c x y hx hy hxy
    rw [get_set] at hx hy
    by_cases ea : a = i <;> by_cases ec : c = i
    · rw [ea, ec]
    · rw [if_pos ea] at hx; rw [if_neg ec] at hy; cases hx; exact absurd hxy.symm (hb c y hy)
    · rw [if_neg ea] at hx; rw [if_pos ec] at hy; cases hy; exact absurd hxy (hb a x hx)
    · rw [if_neg ea] at hx; rw [if_neg ec] at hy; exact ho.blk a c x y hx hy hxy
  · intro a c x y e hx hy h3 h4
    rw [get_set] at hx hy
    by_cases ea : a = i <;> by_cases ec : c = i
    · rw [ea, ec]
    · rw [if_pos ea] at hx; rw [if_neg ec] at hy; cases hx; exact absurd h4 (he c y e hy h3)
    · rw [if_neg ea] at hx; rw [if_pos ec] at hy; cases hy; exact absurd h3 (he a x e hx h4)
    · rw [if_neg ea] at hx; rw [if_neg ec] at hy; exact ho.eb a c x y e hx hy h3 h4
  · intro a x hx
    rw [get_set] at hx
    by_cases ea : a = i
    · rw [if_pos ea] at hx; cases hx
      intro h; exact h2 _ h (.inr (.inl rfl))
    · rw [if_neg ea] at hx; exact ho.mb a x hx
theorem own_add {i : Int} {n : Nd} (b : Nat) (h : (T.set i n).own bt b) : T.own bt b ∨ b = n.blk ∨ n.eb = some b := by
  rcases h with e | e | ⟨j, m, hm, hb⟩
  · exact .inl (.inl e)
  · exact .inl (.inr (.inl e))
  · rw [get_set] at hm
    by_cases e : j = i
    · rw [if_pos e] at hm; cases hm; exact .inr hb
    · rw [if_neg e] at hm; exact .inl (.inr (.inr ⟨j, m, hm, hb⟩))
/-- an inode goes -/
def Tb.del (T : Tb) (i : Int) : Tb := { T with nodes := rm i T.nodes }
theorem get_del (hk : (keysL T.nodes).Nodup) (i j : Int) : (T.del i).get j = if j = i then none else T.get j := by
  unfold Tb.del Tb.get; simp only [lk_rm hk]; by_cases h : j = i <;> simp [h]
theorem get_del_some (hk : (keysL T.nodes).Nodup) {i j : Int} {m : Nd} (h : (T.del i).get j = some m) : T.get j = some m := by
  rw [get_del hk] at h
  by_cases e : j = i
  · rw [if_pos e] at h; cases h
  · rw [if_neg e] at h; exact h
theorem TAt.putD (h : TAt σ bt T) (ho : Own T) (hk : (keysL T.nodes).Nodup) {i : Int} (hp : Put σ T.mb o σ') (hm : MapAt σ' T.mb (encL kkI Nd.ptr (rm i T.nodes))) : TAt σ' bt (T.del i) := by
  refine ⟨hp.get h.bt_mb h.cells, hm, fun j m hj => ?_⟩
  have := get_del_some hk hj
  exact (h.get this).put hp (h.blk_mb this) (ho.mb j m this)
theorem Own.del (ho : Own T) (hk : (keysL T.nodes).Nodup) (i : Int) : Own (T.del i) :=
  ⟨fun a c x y hx hy => ho.blk a c x y (get_del_some hk hx) (get_del_some hk hy), fun a c x y e hx hy => ho.eb a c x y e (get_del_some hk hx) (get_del_some hk hy), fun a x hx => ho.mb a x (get_del_some hk hx)⟩
theorem own_del (hk : (keysL T.nodes).Nodup) {i : Int} {b : Nat} (h : (T.del i).own bt b) : T.own bt b := by
  rcases h with e | e | ⟨j, m, hm, hb⟩
  · exact .inl e
  · exact .inr (.inl e)
  · exact .inr (.inr ⟨j, m, get_del_some hk hm, hb⟩)
theorem abs_del (T : Tb) (i : Int) : (T.del i).abs = { T.abs with nodes := rm i T.abs.nodes } := by
  unfold Tb.del Tb.abs; simp only [rm_map]
theorem keys_abs (T : Tb) : keysL T.abs.nodes = keysL T.nodes := keys_map _ _
end
/-- what is there stays there, hidden from searches -/
structure Lng (σ σ' : H) : Prop where
  gr : Gr σ σ'
/-! ### A table with a foot -/
/-- a table lies there; B: its blocks -/
def TabAt (σ : H) (bt : Nat) (A : AT) (B : Nat → Prop) : Prop := ∃ T, TAt σ bt T ∧ Own T ∧ T.abs = A ∧ ∀ b, T.own bt b ↔ B b
/-- what lies elsewhere stays, and stays elsewhere -/
theorem TabAt.gr {σ σ' : H} {bt : Nat} {A : AT} {B : Nat → Prop} (h : TabAt σ bt A B) (hg : Gr σ σ') : TabAt σ' bt A B := by
  obtain ⟨T, h1, h2⟩ := h; exact ⟨T, h1.gr hg, h2⟩
theorem TabAt.put {σ σ' : H} {bt b : Nat} {A : AT} {B : Nat → Prop} {o : Obj} (h : TabAt σ bt A B) (hp : Put σ b o σ') (hn : ¬ B b) : TabAt σ' bt A B := by
  obtain ⟨T, h1, h2, h3, h4⟩ := h; exact ⟨T, h1.put hp (by rw [h4]; exact hn), h2, h3, h4⟩
theorem TabAt.some {σ : H} {bt b : Nat} {A : AT} {B : Nat → Prop} (h : TabAt σ bt A B) (hb : B b) : ∃ o, σ b = some o := by
  obtain ⟨T, h1, h2, h3, h4⟩ := h; exact h1.own_some ((h4 b).2 hb)
theorem TabAt.fresh {σ : H} {bt b : Nat} {A : AT} {B : Nat → Prop} (h : TabAt σ bt A B) (hb : σ b = none) : ¬ B b := by
  intro hB; obtain ⟨o, ho⟩ := h.some hB; rw [hb] at ho; cases ho
end Go.Proofs.YtlpcehbfoogejaaGreatDoor

/- THE TABLE OF INODES: closures; Make. -/
set_option maxRecDepth 100000
namespace Go.Proofs.YtlpcehbfoogejaaGreatDoor
open Go Go.HL Go.Wk
attribute [local irreducible] ptrW ifW brW andW rdT alW letJ stW muW biW vaW imW callT cvalT app callW invW callVW sizeT oW nilF oneK loopW rfW funW begW roundK exW idxW Gr Put
theorem s_named1 (hC : CAny) {σ : H} {b1 : Nat} {name : ByteArray} {t1 : TypeId} (h1 : σ b1 = some (.cells ⟨[.string name]⟩ t1 (0, 0))) {K : Value → H → Prop}
    (hK : K (.int .i64 (namedE name)) σ) : callW Tryz.prog 156 [.pointer (some ⟨b1, 0, none⟩)] K σ := by
  refine c156 _ ?_
  unfold g156
  (repeat (first | refine ptr_i ?_ | refine rdT_of (by repeat (first | assumption | refine gG ‹_› ?_ | exact pE ‹_› | refine pG ‹_› (by first | assumption | exact Ne.symm ‹_› | exact ne_fr ‹_› (by repeat (first | exact io ‹_› | exact mS ‹_› | refine gS ‹_› ?_ | refine pS ‹_› ?_)) | exact Ne.symm (ne_fr ‹_› (by repeat (first | exact io ‹_› | exact mS ‹_› | refine gS ‹_› ?_ | refine pS ‹_› ?_)))) ?_)) (by rfl) ?_ | (refine al_i ?_; intro _ _ _ _ _) | refine and_i (rdC_of (by repeat (first | assumption | refine gG ‹_› ?_ | exact pE ‹_› | refine pG ‹_› (by first | assumption | exact Ne.symm ‹_› | exact ne_fr ‹_› (by repeat (first | exact io ‹_› | exact mS ‹_› | refine gS ‹_› ?_ | refine pS ‹_› ?_)) | exact Ne.symm (ne_fr ‹_› (by repeat (first | exact io ‹_› | exact mS ‹_› | refine gS ‹_› ?_ | refine pS ‹_› ?_)))) ?_)) (by rfl)) ?_ | refine rdA_i (by repeat (first | assumption | refine gG ‹_› ?_ | exact pE ‹_› | refine pG ‹_› (by first | assumption | exact Ne.symm ‹_› | exact ne_fr ‹_› (by repeat (first | exact io ‹_› | exact mS ‹_› | refine gS ‹_› ?_ | refine pS ‹_› ?_)) | exact Ne.symm (ne_fr ‹_› (by repeat (first | exact io ‹_› | exact mS ‹_› | refine gS ‹_› ?_ | refine pS ‹_› ?_)))) ?_)) (by rfl) ?_ | (refine st_i2 (by repeat (first | assumption | refine gG ‹_› ?_ | exact pE ‹_› | refine pG ‹_› (by first | assumption | exact Ne.symm ‹_› | exact ne_fr ‹_› (by repeat (first | exact io ‹_› | exact mS ‹_› | refine gS ‹_› ?_ | refine pS ‹_› ?_)) | exact Ne.symm (ne_fr ‹_› (by repeat (first | exact io ‹_› | exact mS ‹_› | refine gS ‹_› ?_ | refine pS ‹_› ?_)))) ?_)) (by first | exact sz_int | exact sz_string | exact sz_bool | exact sz_Inode | exact sz_Quota | exact sz_MSI | exact sz_place | exact sz_Errno) (by rfl) (by rfl) ?_; intro _ _) | refine app_P ?_ | refine app_I ?_ | refine app_S ?_ | refine app_B ?_ | refine app_M ?_ | refine app_L ?_ | refine app_U ?_ | refine app_R ?_ | (refine app_of rfl ?_; try dsimp only)))
  unfold namedE at hK
  simp only [sEq_eq] at hK
  by_cases hl : name.size > 56
  · rw [if_pos hl] at hK; exact br_t (by simp; omega) hK
  rw [if_neg hl] at hK
  refine br_f (by simp; omega) ?_
  (repeat (first | refine ptr_i ?_ | refine rdT_of (by repeat (first | assumption | refine gG ‹_› ?_ | exact pE ‹_› | refine pG ‹_› (by first | assumption | exact Ne.symm ‹_› | exact ne_fr ‹_› (by repeat (first | exact io ‹_› | exact mS ‹_› | refine gS ‹_› ?_ | refine pS ‹_› ?_)) | exact Ne.symm (ne_fr ‹_› (by repeat (first | exact io ‹_› | exact mS ‹_› | refine gS ‹_› ?_ | refine pS ‹_› ?_)))) ?_)) (by rfl) ?_ | (refine al_i ?_; intro _ _ _ _ _) | refine and_i (rdC_of (by repeat (first | assumption | refine gG ‹_› ?_ | exact pE ‹_› | refine pG ‹_› (by first | assumption | exact Ne.symm ‹_› | exact ne_fr ‹_› (by repeat (first | exact io ‹_› | exact mS ‹_› | refine gS ‹_› ?_ | refine pS ‹_› ?_)) | exact Ne.symm (ne_fr ‹_› (by repeat (first | exact io ‹_› | exact mS ‹_› | refine gS ‹_› ?_ | refine pS ‹_› ?_)))) ?_)) (by rfl)) ?_ | refine rdA_i (by repeat (first | assumption | refine gG ‹_› ?_ | exact pE ‹_› | refine pG ‹_› (by first | assumption | exact Ne.symm ‹_› | exact ne_fr ‹_› (by repeat (first | exact io ‹_› | exact mS ‹_› | refine gS ‹_› ?_ | refine pS ‹_› ?_)) | exact Ne.symm (ne_fr ‹_› (by repeat (first | exact io ‹_› | exact mS ‹_› | refine gS ‹_› ?_ | refine pS ‹_› ?_)))) ?_)) (by rfl) ?_ | (refine st_i2 (by repeat (first | assumption | refine gG ‹_› ?_ | exact pE ‹_› | refine pG ‹_› (by first | assumption | exact Ne.symm ‹_› | exact ne_fr ‹_› (by repeat (first | exact io ‹_› | exact mS ‹_› | refine gS ‹_› ?_ | refine pS ‹_› ?_)) | exact Ne.symm (ne_fr ‹_› (by repeat (first | exact io ‹_› | exact mS ‹_› | refine gS ‹_› ?_ | refine pS ‹_› ?_)))) ?_)) (by first | exact sz_int | exact sz_string | exact sz_bool | exact sz_Inode | exact sz_Quota | exact sz_MSI | exact sz_place | exact sz_Errno) (by rfl) (by rfl) ?_; intro _ _) | refine app_P ?_ | refine app_I ?_ | refine app_S ?_ | refine app_B ?_ | refine app_M ?_ | refine app_L ?_ | refine app_U ?_ | refine app_R ?_ | (refine app_of rfl ?_; try dsimp only)))
  cases ha : strEq name ⟨⟨[]⟩⟩ with
  | true => rw [ha] at hK; exact br_f rfl (call_i (s_must _ _ (app_I hK)))
  | false =>
    rw [ha] at hK
    refine br_t rfl ?_
    (repeat (first | refine ptr_i ?_ | refine rdT_of (by repeat (first | assumption | refine gG ‹_› ?_ | exact pE ‹_› | refine pG ‹_› (by first | assumption | exact Ne.symm ‹_› | exact ne_fr ‹_› (by repeat (first | exact io ‹_› | exact mS ‹_› | refine gS ‹_› ?_ | refine pS ‹_› ?_)) | exact Ne.symm (ne_fr ‹_› (by repeat (first | exact io ‹_› | exact mS ‹_› | refine gS ‹_› ?_ | refine pS ‹_› ?_)))) ?_)) (by rfl) ?_ | (refine al_i ?_; intro _ _ _ _ _) | refine and_i (rdC_of (by repeat (first | assumption | refine gG ‹_› ?_ | exact pE ‹_› | refine pG ‹_› (by first | assumption | exact Ne.symm ‹_› | exact ne_fr ‹_› (by repeat (first | exact io ‹_› | exact mS ‹_› | refine gS ‹_› ?_ | refine pS ‹_› ?_)) | exact Ne.symm (ne_fr ‹_› (by repeat (first | exact io ‹_› | exact mS ‹_› | refine gS ‹_› ?_ | refine pS ‹_› ?_)))) ?_)) (by rfl)) ?_ | refine rdA_i (by repeat (first | assumption | refine gG ‹_› ?_ | exact pE ‹_› | refine pG ‹_› (by first | assumption | exact Ne.symm ‹_› | exact ne_fr ‹_› (by repeat (first | exact io ‹_› | exact mS ‹_› | refine gS ‹_› ?_ | refine pS ‹_› ?_)) | exact Ne.symm (ne_fr ‹_› (by repeat (first | exact io ‹_› | exact mS ‹_› | refine gS ‹_› ?_ | refine pS ‹_› ?_)))) ?_)) (by rfl) ?_ | (refine st_i2 (by repeat (first | assumption | refine gG ‹_› ?_ | exact pE ‹_› | refine pG ‹_› (by first | assumption | exact Ne.symm ‹_› | exact ne_fr ‹_› (by repeat (first | exact io ‹_› | exact mS ‹_› | refine gS ‹_› ?_ | refine pS ‹_› ?_)) | exact Ne.symm (ne_fr ‹_› (by repeat (first | exact io ‹_› | exact mS ‹_› | refine gS ‹_› ?_ | refine pS ‹_› ?_)))) ?_)) (by first | exact sz_int | exact sz_string | exact sz_bool | exact sz_Inode | exact sz_Quota | exact sz_MSI | exact sz_place | exact sz_Errno) (by rfl) (by rfl) ?_; intro _ _) | refine app_P ?_ | refine app_I ?_ | refine app_S ?_ | refine app_B ?_ | refine app_M ?_ | refine app_L ?_ | refine app_U ?_ | refine app_R ?_ | (refine app_of rfl ?_; try dsimp only)))
    cases hb : strEq name ⟨⟨[46]⟩⟩ with
    | true => rw [hb] at hK; exact br_f rfl (call_i (s_must _ _ (app_I hK)))
    | false =>
      rw [hb] at hK
      refine br_t rfl ?_
      (repeat (first | refine ptr_i ?_ | refine rdT_of (by repeat (first | assumption | refine gG ‹_› ?_ | exact pE ‹_› | refine pG ‹_› (by first | assumption | exact Ne.symm ‹_› | exact ne_fr ‹_› (by repeat (first | exact io ‹_› | exact mS ‹_› | refine gS ‹_› ?_ | refine pS ‹_› ?_)) | exact Ne.symm (ne_fr ‹_› (by repeat (first | exact io ‹_› | exact mS ‹_› | refine gS ‹_› ?_ | refine pS ‹_› ?_)))) ?_)) (by rfl) ?_ | (refine al_i ?_; intro _ _ _ _ _) | refine and_i (rdC_of (by repeat (first | assumption | refine gG ‹_› ?_ | exact pE ‹_› | refine pG ‹_› (by first | assumption | exact Ne.symm ‹_› | exact ne_fr ‹_› (by repeat (first | exact io ‹_› | exact mS ‹_› | refine gS ‹_› ?_ | refine pS ‹_› ?_)) | exact Ne.symm (ne_fr ‹_› (by repeat (first | exact io ‹_› | exact mS ‹_› | refine gS ‹_› ?_ | refine pS ‹_› ?_)))) ?_)) (by rfl)) ?_ | refine rdA_i (by repeat (first | assumption | refine gG ‹_› ?_ | exact pE ‹_› | refine pG ‹_› (by first | assumption | exact Ne.symm ‹_› | exact ne_fr ‹_› (by repeat (first | exact io ‹_› | exact mS ‹_› | refine gS ‹_› ?_ | refine pS ‹_› ?_)) | exact Ne.symm (ne_fr ‹_› (by repeat (first | exact io ‹_› | exact mS ‹_› | refine gS ‹_› ?_ | refine pS ‹_› ?_)))) ?_)) (by rfl) ?_ | (refine st_i2 (by repeat (first | assumption | refine gG ‹_› ?_ | exact pE ‹_› | refine pG ‹_› (by first | assumption | exact Ne.symm ‹_› | exact ne_fr ‹_› (by repeat (first | exact io ‹_› | exact mS ‹_› | refine gS ‹_› ?_ | refine pS ‹_› ?_)) | exact Ne.symm (ne_fr ‹_› (by repeat (first | exact io ‹_› | exact mS ‹_› | refine gS ‹_› ?_ | refine pS ‹_› ?_)))) ?_)) (by first | exact sz_int | exact sz_string | exact sz_bool | exact sz_Inode | exact sz_Quota | exact sz_MSI | exact sz_place | exact sz_Errno) (by rfl) (by rfl) ?_; intro _ _) | refine app_P ?_ | refine app_I ?_ | refine app_S ?_ | refine app_B ?_ | refine app_M ?_ | refine app_L ?_ | refine app_U ?_ | refine app_R ?_ | (refine app_of rfl ?_; try dsimp only)))
      cases hc : strEq name ⟨⟨[46, 46]⟩⟩ with
      | true => rw [hc] at hK; exact br_f rfl (call_i (s_must _ _ (app_I hK)))
      | false =>
        rw [hc] at hK
        refine br_t rfl ?_
        (repeat (first | refine ptr_i ?_ | refine rdT_of (by repeat (first | assumption | refine gG ‹_› ?_ | exact pE ‹_› | refine pG ‹_› (by first | assumption | exact Ne.symm ‹_› | exact ne_fr ‹_› (by repeat (first | exact io ‹_› | exact mS ‹_› | refine gS ‹_› ?_ | refine pS ‹_› ?_)) | exact Ne.symm (ne_fr ‹_› (by repeat (first | exact io ‹_› | exact mS ‹_› | refine gS ‹_› ?_ | refine pS ‹_› ?_)))) ?_)) (by rfl) ?_ | (refine al_i ?_; intro _ _ _ _ _) | refine and_i (rdC_of (by repeat (first | assumption | refine gG ‹_› ?_ | exact pE ‹_› | refine pG ‹_› (by first | assumption | exact Ne.symm ‹_› | exact ne_fr ‹_› (by repeat (first | exact io ‹_› | exact mS ‹_› | refine gS ‹_› ?_ | refine pS ‹_› ?_)) | exact Ne.symm (ne_fr ‹_› (by repeat (first | exact io ‹_› | exact mS ‹_› | refine gS ‹_› ?_ | refine pS ‹_› ?_)))) ?_)) (by rfl)) ?_ | refine rdA_i (by repeat (first | assumption | refine gG ‹_› ?_ | exact pE ‹_› | refine pG ‹_› (by first | assumption | exact Ne.symm ‹_› | exact ne_fr ‹_› (by repeat (first | exact io ‹_› | exact mS ‹_› | refine gS ‹_› ?_ | refine pS ‹_› ?_)) | exact Ne.symm (ne_fr ‹_› (by repeat (first | exact io ‹_› | exact mS ‹_› | refine gS ‹_› ?_ | refine pS ‹_› ?_)))) ?_)) (by rfl) ?_ | (refine st_i2 (by repeat (first | assumption | refine gG ‹_› ?_ | exact pE ‹_› | refine pG ‹_› (by first | assumption | exact Ne.symm ‹_› | exact ne_fr ‹_› (by repeat (first | exact io ‹_› | exact mS ‹_› | refine gS ‹_› ?_ | refine pS ‹_› ?_)) | exact Ne.symm (ne_fr ‹_› (by repeat (first | exact io ‹_› | exact mS ‹_› | refine gS ‹_› ?_ | refine pS ‹_› ?_)))) ?_)) (by first | exact sz_int | exact sz_string | exact sz_bool | exact sz_Inode | exact sz_Quota | exact sz_MSI | exact sz_place | exact sz_Errno) (by rfl) (by rfl) ?_; intro _ _) | refine app_P ?_ | refine app_I ?_ | refine app_S ?_ | refine app_B ?_ | refine app_M ?_ | refine app_L ?_ | refine app_U ?_ | refine app_R ?_ | (refine app_of rfl ?_; try dsimp only)))
        refine call_i (hC _ (by omega) _ _ (app_B ?_))
        exact call_i (s_must _ _ (app_I (by simpa using hK)))
theorem s_Make2 {σ : H} {bt : Nat} {T : Tb} (hT : TAt σ bt T) {b1 b2 : Nat} {data : ByteArray} {t1 t2 : TypeId} (h1 : σ b1 = some (.cells ⟨[.pointer (some ⟨bt, 0, none⟩)]⟩ t1 (0, 0))) (h2 : σ b2 = some (.cells ⟨[.string data]⟩ t2 (0, 0))) {K : Value → H → Prop}
    (hK : K (.int .i64 (T.roomE 1 data.size)) σ) : callW Tryz.prog 110 [.pointer (some ⟨b1, 0, none⟩), .pointer (some ⟨b2, 0, none⟩)] K σ := by
  refine pure_i _ hK (c110 _ _ ?_)
  unfold g110
  (repeat (first | refine ptr_i ?_ | refine rdT_of (by repeat (first | assumption | refine gG ‹_› ?_ | exact pE ‹_› | refine pG ‹_› (by first | assumption | exact Ne.symm ‹_› | exact ne_fr ‹_› (by repeat (first | exact io ‹_› | exact mS ‹_› | refine gS ‹_› ?_ | refine pS ‹_› ?_)) | exact Ne.symm (ne_fr ‹_› (by repeat (first | exact io ‹_› | exact mS ‹_› | refine gS ‹_› ?_ | refine pS ‹_› ?_)))) ?_)) (by rfl) ?_ | (refine al_i ?_; intro _ _ _ _ _) | refine and_i (rdC_of (by repeat (first | assumption | refine gG ‹_› ?_ | exact pE ‹_› | refine pG ‹_› (by first | assumption | exact Ne.symm ‹_› | exact ne_fr ‹_› (by repeat (first | exact io ‹_› | exact mS ‹_› | refine gS ‹_› ?_ | refine pS ‹_› ?_)) | exact Ne.symm (ne_fr ‹_› (by repeat (first | exact io ‹_› | exact mS ‹_› | refine gS ‹_› ?_ | refine pS ‹_› ?_)))) ?_)) (by rfl)) ?_ | refine rdA_i (by repeat (first | assumption | refine gG ‹_› ?_ | exact pE ‹_› | refine pG ‹_› (by first | assumption | exact Ne.symm ‹_› | exact ne_fr ‹_› (by repeat (first | exact io ‹_› | exact mS ‹_› | refine gS ‹_› ?_ | refine pS ‹_› ?_)) | exact Ne.symm (ne_fr ‹_› (by repeat (first | exact io ‹_› | exact mS ‹_› | refine gS ‹_› ?_ | refine pS ‹_› ?_)))) ?_)) (by rfl) ?_ | (refine st_i2 (by repeat (first | assumption | refine gG ‹_› ?_ | exact pE ‹_› | refine pG ‹_› (by first | assumption | exact Ne.symm ‹_› | exact ne_fr ‹_› (by repeat (first | exact io ‹_› | exact mS ‹_› | refine gS ‹_› ?_ | refine pS ‹_› ?_)) | exact Ne.symm (ne_fr ‹_› (by repeat (first | exact io ‹_› | exact mS ‹_› | refine gS ‹_› ?_ | refine pS ‹_› ?_)))) ?_)) (by first | exact sz_int | exact sz_string | exact sz_bool | exact sz_Inode | exact sz_Quota | exact sz_MSI | exact sz_place | exact sz_Errno) (by rfl) (by rfl) ?_; intro _ _) | refine app_P ?_ | refine app_I ?_ | refine app_S ?_ | refine app_B ?_ | refine app_M ?_ | refine app_L ?_ | refine app_U ?_ | refine app_R ?_ | (refine app_of rfl ?_; try dsimp only)))
  refine call_i (s_room _ _ _ ?_)
  intro c1 c2 c3 σ' hg e1 e2 e3
  refine app_R ?_
  refine cval_i go_room1 ?_
  exact s_room1 (hT.gr hg) e1 e2 e3 (app_I ⟨rfl, hg⟩)
theorem one_f {f : Fn} {as_ cs : Array Value} {g : H → Prop} {σ : H} (h : g σ) : oneK (.func f as_ cs) g σ := by unfold oneK; exact h
theorem und_MSI : Tryz.prog.underlying 140 = some (.map 9 3) := by kernel_rfl
theorem und_MIN : Tryz.prog.underlying 143 = some (.map 3 139) := by kernel_rfl
theorem firstE_z {e : Int} {es : List Int} (h : firstE (e :: es) = 0) : e = 0 ∧ firstE es = 0 := by
  unfold firstE at h
  by_cases he : e = 0
  · rw [if_pos he] at h; exact ⟨he, h⟩
  · rw [if_neg he] at h; exact absurd h he
theorem dirE_z {T : Tb} {d : Int} (h : T.dirE d = 0) : ∃ n, T.get d = some n ∧ n.kind = 2 := by
  unfold Tb.dirE at h
  cases hn : T.get d with
  | none => rw [hn] at h; cases h
  | some n =>
    rw [hn] at h
    refine ⟨n, rfl, ?_⟩
    cases hk : (n.kind == 2) with
    | true => simpa using hk
    | false => simp [hk] at h
theorem TAt.dir {σ : H} {bt : Nat} {T : Tb} (hT : TAt σ bt T) {d : Int} {n : Nd} (hn : T.get d = some n) (hk : n.kind = 2) : ∃ e, n.eb = some e := by
  have := (hT.get hn).dir hk
  cases he : n.eb with
  | none => exact absurd he this
  | some e => exact ⟨e, rfl⟩
theorem rdN {σ : H} {bt : Nat} {T : Tb} (hT : TAt σ bt T) {i : Int} {n : Nd} (hn : T.get i = some n) {F : Option Addr → H → Prop} (h : F (some ⟨n.blk, 0, none⟩) σ) : rdT (rdM (.int .i64) (.pointer none) false (some T.mb) (.int .i64 i)) kP F σ := by
  refine rd_P (x := some ⟨n.blk, 0, none⟩) ?_ h
  have := rdM_at (kk := kkI) hT.nodes (.pointer none) false i
  unfold Tb.get at hn
  rw [hn] at this
  exact this
theorem s_Make (hI : IByte) (hC : CAny) {σ : H} {bt : Nat} {A : AT} {B : Nat → Prop} (hA : TabAt σ bt A B) (dir : Int) (name : ByteArray) (kind mode : Int) (data : ByteArray) (hL : A.get (wr (A.last + 1)) = none) {K : Value → H → Prop}
    (hK : ∀ σ' B', TabAt σ' bt (AT.makeR A dir name kind mode data).2.2 B' → Sep σ B σ' B' → K (.tuple ⟨[.int .i64 (AT.makeR A dir name kind mode data).1, .int .i64 (AT.makeR A dir name kind mode data).2.1]⟩) σ') :
    callW Tryz.prog 53 [.pointer (some ⟨bt, 0, none⟩), .int .i64 dir, .string name, .int .i64 kind, .int .i64 mode, .string data] K σ := by
  obtain ⟨T, hT, hO, rfl, hB⟩ := hA
  have hc0 := hT.cells
  refine c53 _ _ _ _ _ _ ?_
  unfold g53
  refine al_i ?_; intro b7 σ1 g1 e1 n1
  refine al_i ?_; intro b8 σ2 g2 e2 n2
  refine al_i ?_; intro b9 σ3 g3 e3 n3
  refine al_i ?_; intro b10 σ4 g4 e4 n4
  (repeat (first | refine ptr_i ?_ | refine rdT_of (by repeat (first | assumption | refine gG ‹_› ?_ | exact pE ‹_› | refine pG ‹_› (by first | assumption | exact Ne.symm ‹_› | exact ne_fr ‹_› (by repeat (first | exact io ‹_› | exact mS ‹_› | refine gS ‹_› ?_ | refine pS ‹_› ?_)) | exact Ne.symm (ne_fr ‹_› (by repeat (first | exact io ‹_› | exact mS ‹_› | refine gS ‹_› ?_ | refine pS ‹_› ?_)))) ?_)) (by rfl) ?_ | (refine al_i ?_; intro _ _ _ _ _) | refine and_i (rdC_of (by repeat (first | assumption | refine gG ‹_› ?_ | exact pE ‹_› | refine pG ‹_› (by first | assumption | exact Ne.symm ‹_› | exact ne_fr ‹_› (by repeat (first | exact io ‹_› | exact mS ‹_› | refine gS ‹_› ?_ | refine pS ‹_› ?_)) | exact Ne.symm (ne_fr ‹_› (by repeat (first | exact io ‹_› | exact mS ‹_› | refine gS ‹_› ?_ | refine pS ‹_› ?_)))) ?_)) (by rfl)) ?_ | refine rdA_i (by repeat (first | assumption | refine gG ‹_› ?_ | exact pE ‹_› | refine pG ‹_› (by first | assumption | exact Ne.symm ‹_› | exact ne_fr ‹_› (by repeat (first | exact io ‹_› | exact mS ‹_› | refine gS ‹_› ?_ | refine pS ‹_› ?_)) | exact Ne.symm (ne_fr ‹_› (by repeat (first | exact io ‹_› | exact mS ‹_› | refine gS ‹_› ?_ | refine pS ‹_› ?_)))) ?_)) (by rfl) ?_ | (refine st_i2 (by repeat (first | assumption | refine gG ‹_› ?_ | exact pE ‹_› | refine pG ‹_› (by first | assumption | exact Ne.symm ‹_› | exact ne_fr ‹_› (by repeat (first | exact io ‹_› | exact mS ‹_› | refine gS ‹_› ?_ | refine pS ‹_› ?_)) | exact Ne.symm (ne_fr ‹_› (by repeat (first | exact io ‹_› | exact mS ‹_› | refine gS ‹_› ?_ | refine pS ‹_› ?_)))) ?_)) (by first | exact sz_int | exact sz_string | exact sz_bool | exact sz_Inode | exact sz_Quota | exact sz_MSI | exact sz_place | exact sz_Errno) (by rfl) (by rfl) ?_; intro _ _) | refine app_P ?_ | refine app_I ?_ | refine app_S ?_ | refine app_B ?_ | refine app_M ?_ | refine app_L ?_ | refine app_U ?_ | refine app_R ?_ | (refine app_of rfl ?_; try dsimp only)))
  refine call_i (s_dir _ _ ?_)
  intro c1 c2 σ5 g5 f1 f2
  refine app_R ?_
  (repeat (first | refine ptr_i ?_ | refine rdT_of (by repeat (first | assumption | refine gG ‹_› ?_ | exact pE ‹_› | refine pG ‹_› (by first | assumption | exact Ne.symm ‹_› | exact ne_fr ‹_› (by repeat (first | exact io ‹_› | exact mS ‹_› | refine gS ‹_› ?_ | refine pS ‹_› ?_)) | exact Ne.symm (ne_fr ‹_› (by repeat (first | exact io ‹_› | exact mS ‹_› | refine gS ‹_› ?_ | refine pS ‹_› ?_)))) ?_)) (by rfl) ?_ | (refine al_i ?_; intro _ _ _ _ _) | refine and_i (rdC_of (by repeat (first | assumption | refine gG ‹_› ?_ | exact pE ‹_› | refine pG ‹_› (by first | assumption | exact Ne.symm ‹_› | exact ne_fr ‹_› (by repeat (first | exact io ‹_› | exact mS ‹_› | refine gS ‹_› ?_ | refine pS ‹_› ?_)) | exact Ne.symm (ne_fr ‹_› (by repeat (first | exact io ‹_› | exact mS ‹_› | refine gS ‹_› ?_ | refine pS ‹_› ?_)))) ?_)) (by rfl)) ?_ | refine rdA_i (by repeat (first | assumption | refine gG ‹_› ?_ | exact pE ‹_› | refine pG ‹_› (by first | assumption | exact Ne.symm ‹_› | exact ne_fr ‹_› (by repeat (first | exact io ‹_› | exact mS ‹_› | refine gS ‹_› ?_ | refine pS ‹_› ?_)) | exact Ne.symm (ne_fr ‹_› (by repeat (first | exact io ‹_› | exact mS ‹_› | refine gS ‹_› ?_ | refine pS ‹_› ?_)))) ?_)) (by rfl) ?_ | (refine st_i2 (by repeat (first | assumption | refine gG ‹_› ?_ | exact pE ‹_› | refine pG ‹_› (by first | assumption | exact Ne.symm ‹_› | exact ne_fr ‹_› (by repeat (first | exact io ‹_› | exact mS ‹_› | refine gS ‹_› ?_ | refine pS ‹_› ?_)) | exact Ne.symm (ne_fr ‹_› (by repeat (first | exact io ‹_› | exact mS ‹_› | refine gS ‹_› ?_ | refine pS ‹_› ?_)))) ?_)) (by first | exact sz_int | exact sz_string | exact sz_bool | exact sz_Inode | exact sz_Quota | exact sz_MSI | exact sz_place | exact sz_Errno) (by rfl) (by rfl) ?_; intro _ _) | refine app_P ?_ | refine app_I ?_ | refine app_S ?_ | refine app_B ?_ | refine app_M ?_ | refine app_L ?_ | refine app_U ?_ | refine app_R ?_ | (refine app_of rfl ?_; try dsimp only)))
  refine call_i (s_named _ ?_)
  intro c3 σ6 g6 f3
  refine app_R ?_
  (repeat (first | refine ptr_i ?_ | refine rdT_of (by repeat (first | assumption | refine gG ‹_› ?_ | exact pE ‹_› | refine pG ‹_› (by first | assumption | exact Ne.symm ‹_› | exact ne_fr ‹_› (by repeat (first | exact io ‹_› | exact mS ‹_› | refine gS ‹_› ?_ | refine pS ‹_› ?_)) | exact Ne.symm (ne_fr ‹_› (by repeat (first | exact io ‹_› | exact mS ‹_› | refine gS ‹_› ?_ | refine pS ‹_› ?_)))) ?_)) (by rfl) ?_ | (refine al_i ?_; intro _ _ _ _ _) | refine and_i (rdC_of (by repeat (first | assumption | refine gG ‹_› ?_ | exact pE ‹_› | refine pG ‹_› (by first | assumption | exact Ne.symm ‹_› | exact ne_fr ‹_› (by repeat (first | exact io ‹_› | exact mS ‹_› | refine gS ‹_› ?_ | refine pS ‹_› ?_)) | exact Ne.symm (ne_fr ‹_› (by repeat (first | exact io ‹_› | exact mS ‹_› | refine gS ‹_› ?_ | refine pS ‹_› ?_)))) ?_)) (by rfl)) ?_ | refine rdA_i (by repeat (first | assumption | refine gG ‹_› ?_ | exact pE ‹_› | refine pG ‹_› (by first | assumption | exact Ne.symm ‹_› | exact ne_fr ‹_› (by repeat (first | exact io ‹_› | exact mS ‹_› | refine gS ‹_› ?_ | refine pS ‹_› ?_)) | exact Ne.symm (ne_fr ‹_› (by repeat (first | exact io ‹_› | exact mS ‹_› | refine gS ‹_› ?_ | refine pS ‹_› ?_)))) ?_)) (by rfl) ?_ | (refine st_i2 (by repeat (first | assumption | refine gG ‹_› ?_ | exact pE ‹_› | refine pG ‹_› (by first | assumption | exact Ne.symm ‹_› | exact ne_fr ‹_› (by repeat (first | exact io ‹_› | exact mS ‹_› | refine gS ‹_› ?_ | refine pS ‹_› ?_)) | exact Ne.symm (ne_fr ‹_› (by repeat (first | exact io ‹_› | exact mS ‹_› | refine gS ‹_› ?_ | refine pS ‹_› ?_)))) ?_)) (by first | exact sz_int | exact sz_string | exact sz_bool | exact sz_Inode | exact sz_Quota | exact sz_MSI | exact sz_place | exact sz_Errno) (by rfl) (by rfl) ?_; intro _ _) | refine app_P ?_ | refine app_I ?_ | refine app_S ?_ | refine app_B ?_ | refine app_M ?_ | refine app_L ?_ | refine app_U ?_ | refine app_R ?_ | (refine app_of rfl ?_; try dsimp only)))
  refine call_i (s_free _ _ _ ?_)
  intro c4 c5 c6 σ7 g7 f4 f5 f6
  refine app_R ?_
  (repeat (first | refine ptr_i ?_ | refine rdT_of (by repeat (first | assumption | refine gG ‹_› ?_ | exact pE ‹_› | refine pG ‹_› (by first | assumption | exact Ne.symm ‹_› | exact ne_fr ‹_› (by repeat (first | exact io ‹_› | exact mS ‹_› | refine gS ‹_› ?_ | refine pS ‹_› ?_)) | exact Ne.symm (ne_fr ‹_› (by repeat (first | exact io ‹_› | exact mS ‹_› | refine gS ‹_› ?_ | refine pS ‹_› ?_)))) ?_)) (by rfl) ?_ | (refine al_i ?_; intro _ _ _ _ _) | refine and_i (rdC_of (by repeat (first | assumption | refine gG ‹_› ?_ | exact pE ‹_› | refine pG ‹_› (by first | assumption | exact Ne.symm ‹_› | exact ne_fr ‹_› (by repeat (first | exact io ‹_› | exact mS ‹_› | refine gS ‹_› ?_ | refine pS ‹_› ?_)) | exact Ne.symm (ne_fr ‹_› (by repeat (first | exact io ‹_› | exact mS ‹_› | refine gS ‹_› ?_ | refine pS ‹_› ?_)))) ?_)) (by rfl)) ?_ | refine rdA_i (by repeat (first | assumption | refine gG ‹_› ?_ | exact pE ‹_› | refine pG ‹_› (by first | assumption | exact Ne.symm ‹_› | exact ne_fr ‹_› (by repeat (first | exact io ‹_› | exact mS ‹_› | refine gS ‹_› ?_ | refine pS ‹_› ?_)) | exact Ne.symm (ne_fr ‹_› (by repeat (first | exact io ‹_› | exact mS ‹_› | refine gS ‹_› ?_ | refine pS ‹_› ?_)))) ?_)) (by rfl) ?_ | (refine st_i2 (by repeat (first | assumption | refine gG ‹_› ?_ | exact pE ‹_› | refine pG ‹_› (by first | assumption | exact Ne.symm ‹_› | exact ne_fr ‹_› (by repeat (first | exact io ‹_› | exact mS ‹_› | refine gS ‹_› ?_ | refine pS ‹_› ?_)) | exact Ne.symm (ne_fr ‹_› (by repeat (first | exact io ‹_› | exact mS ‹_› | refine gS ‹_› ?_ | refine pS ‹_› ?_)))) ?_)) (by first | exact sz_int | exact sz_string | exact sz_bool | exact sz_Inode | exact sz_Quota | exact sz_MSI | exact sz_place | exact sz_Errno) (by rfl) (by rfl) ?_; intro _ _) | refine app_P ?_ | refine app_I ?_ | refine app_S ?_ | refine app_B ?_ | refine app_M ?_ | refine app_L ?_ | refine app_U ?_ | refine app_R ?_ | (refine app_of rfl ?_; try dsimp only)))
  refine one_f (one_f (one_f ?_))
  refine al_i ?_; intro b17 σ8 g8 e8 n8
  have hgr : Lng σ σ8 := ⟨by repeat (first | exact Gr.refl _ | assumption | refine Gr.trans ?_ ‹_› | refine Gr.putF ?_ ‹_› (none_of ?_ ‹_›))⟩
  have hT8 := hT.gr hgr.gr
  refine call_i (s_first (es := [0, T.dirE dir, namedE name, likeE kind mode data, if (T.find dir name).isSome then 6 else 0, T.roomE 1 data.size]) e8 ?_ (by simp) (app_I ?_))
  · refine ⟨pu_of go_there fun K hk => s_there _ hk, fun _ => ⟨pu_of go_dir1 fun K hk => s_dir1 hT8 (by repeat (first | assumption | refine gG ‹_› ?_ | exact pE ‹_› | refine pG ‹_› (by first | assumption | exact Ne.symm ‹_› | exact ne_fr ‹_› (by repeat (first | exact io ‹_› | exact mS ‹_› | refine gS ‹_› ?_ | refine pS ‹_› ?_)) | exact Ne.symm (ne_fr ‹_› (by repeat (first | exact io ‹_› | exact mS ‹_› | refine gS ‹_› ?_ | refine pS ‹_› ?_)))) ?_)) (by repeat (first | assumption | refine gG ‹_› ?_ | exact pE ‹_› | refine pG ‹_› (by first | assumption | exact Ne.symm ‹_› | exact ne_fr ‹_› (by repeat (first | exact io ‹_› | exact mS ‹_› | refine gS ‹_› ?_ | refine pS ‹_› ?_)) | exact Ne.symm (ne_fr ‹_› (by repeat (first | exact io ‹_› | exact mS ‹_› | refine gS ‹_› ?_ | refine pS ‹_› ?_)))) ?_)) hk, fun _ => ⟨pu_of go_named1 fun K hk => s_named1 hC (by repeat (first | assumption | refine gG ‹_› ?_ | exact pE ‹_› | refine pG ‹_› (by first | assumption | exact Ne.symm ‹_› | exact ne_fr ‹_› (by repeat (first | exact io ‹_› | exact mS ‹_› | refine gS ‹_› ?_ | refine pS ‹_› ?_)) | exact Ne.symm (ne_fr ‹_› (by repeat (first | exact io ‹_› | exact mS ‹_› | refine gS ‹_› ?_ | refine pS ‹_› ?_)))) ?_)) hk, fun _ => ⟨pu_of go_Make1 fun K hk => s_Make1 hI (by repeat (first | assumption | refine gG ‹_› ?_ | exact pE ‹_› | refine pG ‹_› (by first | assumption | exact Ne.symm ‹_› | exact ne_fr ‹_› (by repeat (first | exact io ‹_› | exact mS ‹_› | refine gS ‹_› ?_ | refine pS ‹_› ?_)) | exact Ne.symm (ne_fr ‹_› (by repeat (first | exact io ‹_› | exact mS ‹_› | refine gS ‹_› ?_ | refine pS ‹_› ?_)))) ?_)) (by repeat (first | assumption | refine gG ‹_› ?_ | exact pE ‹_› | refine pG ‹_› (by first | assumption | exact Ne.symm ‹_› | exact ne_fr ‹_› (by repeat (first | exact io ‹_› | exact mS ‹_› | refine gS ‹_› ?_ | refine pS ‹_› ?_)) | exact Ne.symm (ne_fr ‹_› (by repeat (first | exact io ‹_› | exact mS ‹_› | refine gS ‹_› ?_ | refine pS ‹_› ?_)))) ?_)) (by repeat (first | assumption | refine gG ‹_› ?_ | exact pE ‹_› | refine pG ‹_› (by first | assumption | exact Ne.symm ‹_› | exact ne_fr ‹_› (by repeat (first | exact io ‹_› | exact mS ‹_› | refine gS ‹_› ?_ | refine pS ‹_› ?_)) | exact Ne.symm (ne_fr ‹_› (by repeat (first | exact io ‹_› | exact mS ‹_› | refine gS ‹_› ?_ | refine pS ‹_› ?_)))) ?_)) hk, fun _ => ⟨pu_of go_free1 fun K hk => s_free1 hT8 (by repeat (first | assumption | refine gG ‹_› ?_ | exact pE ‹_› | refine pG ‹_› (by first | assumption | exact Ne.symm ‹_› | exact ne_fr ‹_› (by repeat (first | exact io ‹_› | exact mS ‹_› | refine gS ‹_› ?_ | refine pS ‹_› ?_)) | exact Ne.symm (ne_fr ‹_› (by repeat (first | exact io ‹_› | exact mS ‹_› | refine gS ‹_› ?_ | refine pS ‹_› ?_)))) ?_)) (by repeat (first | assumption | refine gG ‹_› ?_ | exact pE ‹_› | refine pG ‹_› (by first | assumption | exact Ne.symm ‹_› | exact ne_fr ‹_› (by repeat (first | exact io ‹_› | exact mS ‹_› | refine gS ‹_› ?_ | refine pS ‹_› ?_)) | exact Ne.symm (ne_fr ‹_› (by repeat (first | exact io ‹_› | exact mS ‹_› | refine gS ‹_› ?_ | refine pS ‹_› ?_)))) ?_)) (by repeat (first | assumption | refine gG ‹_› ?_ | exact pE ‹_› | refine pG ‹_› (by first | assumption | exact Ne.symm ‹_› | exact ne_fr ‹_› (by repeat (first | exact io ‹_› | exact mS ‹_› | refine gS ‹_› ?_ | refine pS ‹_› ?_)) | exact Ne.symm (ne_fr ‹_› (by repeat (first | exact io ‹_› | exact mS ‹_› | refine gS ‹_› ?_ | refine pS ‹_› ?_)))) ?_)) hk, fun _ => ⟨pu_of go_Make2 fun K hk => s_Make2 hT8 (by repeat (first | assumption | refine gG ‹_› ?_ | exact pE ‹_› | refine pG ‹_› (by first | assumption | exact Ne.symm ‹_› | exact ne_fr ‹_› (by repeat (first | exact io ‹_› | exact mS ‹_› | refine gS ‹_› ?_ | refine pS ‹_› ?_)) | exact Ne.symm (ne_fr ‹_› (by repeat (first | exact io ‹_› | exact mS ‹_› | refine gS ‹_› ?_ | refine pS ‹_› ?_)))) ?_)) (by repeat (first | assumption | refine gG ‹_› ?_ | exact pE ‹_› | refine pG ‹_› (by first | assumption | exact Ne.symm ‹_› | exact ne_fr ‹_› (by repeat (first | exact io ‹_› | exact mS ‹_› | refine gS ‹_› ?_ | refine pS ‹_› ?_)) | exact Ne.symm (ne_fr ‹_› (by repeat (first | exact io ‹_› | exact mS ‹_› | refine gS ‹_› ?_ | refine pS ‹_› ?_)))) ?_)) hk, fun _ => trivial⟩⟩⟩⟩⟩⟩
  have hE : firstE [0, T.dirE dir, namedE name, likeE kind mode data, if (T.find dir name).isSome then 6 else 0, T.roomE 1 data.size] = T.abs.makeE dir name kind mode data := by
    unfold AT.makeE; rw [abs_dirE, abs_find, abs_roomE]
  rw [hE]
  have hK' := hK; clear hK
  unfold AT.makeR at hK'
  by_cases h0 : T.abs.makeE dir name kind mode data = 0
  case neg =>
    rw [if_neg h0] at hK'
    refine br_t (by simpa using h0) ?_
    exact hK' σ8 B ⟨T, hT8, hO, rfl, hB⟩ (Sep.gr hgr.gr)
  rw [if_pos h0] at hK'
  refine br_f (by simpa using h0) ?_
  rw [← hE] at h0
  have hd := (firstE_z (firstE_z h0).2).1
  obtain ⟨nd, hnd, hkd⟩ := dirE_z hd
  have hc := hT8.cells
  unfold Tb.cells at hc
  have hb7 : ¬ T.own bt b7 := by rw [hB]; intro h; obtain ⟨o, ho⟩ := hT.own_some ((hB _).2 h); exact ne_fresh ho n1 rfl
  (repeat (first | refine ptr_i ?_ | refine rdT_of (by repeat (first | assumption | refine gG ‹_› ?_ | exact pE ‹_› | refine pG ‹_› (by first | assumption | exact Ne.symm ‹_› | exact ne_fr ‹_› (by repeat (first | exact io ‹_› | exact mS ‹_› | refine gS ‹_› ?_ | refine pS ‹_› ?_)) | exact Ne.symm (ne_fr ‹_› (by repeat (first | exact io ‹_› | exact mS ‹_› | refine gS ‹_› ?_ | refine pS ‹_› ?_)))) ?_)) (by rfl) ?_ | (refine al_i ?_; intro _ _ _ _ _) | refine and_i (rdC_of (by repeat (first | assumption | refine gG ‹_› ?_ | exact pE ‹_› | refine pG ‹_› (by first | assumption | exact Ne.symm ‹_› | exact ne_fr ‹_› (by repeat (first | exact io ‹_› | exact mS ‹_› | refine gS ‹_› ?_ | refine pS ‹_› ?_)) | exact Ne.symm (ne_fr ‹_› (by repeat (first | exact io ‹_› | exact mS ‹_› | refine gS ‹_› ?_ | refine pS ‹_› ?_)))) ?_)) (by rfl)) ?_ | refine rdA_i (by repeat (first | assumption | refine gG ‹_› ?_ | exact pE ‹_› | refine pG ‹_› (by first | assumption | exact Ne.symm ‹_› | exact ne_fr ‹_› (by repeat (first | exact io ‹_› | exact mS ‹_› | refine gS ‹_› ?_ | refine pS ‹_› ?_)) | exact Ne.symm (ne_fr ‹_› (by repeat (first | exact io ‹_› | exact mS ‹_› | refine gS ‹_› ?_ | refine pS ‹_› ?_)))) ?_)) (by rfl) ?_ | (refine st_i2 (by repeat (first | assumption | refine gG ‹_› ?_ | exact pE ‹_› | refine pG ‹_› (by first | assumption | exact Ne.symm ‹_› | exact ne_fr ‹_› (by repeat (first | exact io ‹_› | exact mS ‹_› | refine gS ‹_› ?_ | refine pS ‹_› ?_)) | exact Ne.symm (ne_fr ‹_› (by repeat (first | exact io ‹_› | exact mS ‹_› | refine gS ‹_› ?_ | refine pS ‹_› ?_)))) ?_)) (by first | exact sz_int | exact sz_string | exact sz_bool | exact sz_Inode | exact sz_Quota | exact sz_MSI | exact sz_place | exact sz_Errno) (by rfl) (by rfl) ?_; intro _ _) | refine app_P ?_ | refine app_I ?_ | refine app_S ?_ | refine app_B ?_ | refine app_M ?_ | refine app_L ?_ | refine app_U ?_ | refine app_R ?_ | (refine app_of rfl ?_; try dsimp only)))
  rename_i σ9 p9 b28 σ10 g10 e10 n10
  let T1 : Tb := { T with last := wr (T.last + 1) }
  have hT9 : TAt σ9 bt T1 := hT8.putT p9 rfl rfl
  have hT10 := hT9.gr g10
  have hO1 : Own T1 := hO.same rfl rfl
  have o1 : ∀ b, T1.own bt b ↔ B b := fun b => (own_same rfl rfl b).trans (hB b)
  have s10 : Sep σ B σ10 B := by
    intro b o hb hn
    refine ⟨g10.get (p9.get ?_ (hgr.gr.get hb)), hn⟩
    intro e; subst e; exact hn ((hB _).1 (.inl rfl))
  have k7 : σ10 b7 = some (.cells ⟨[.pointer (some ⟨bt, 0, none⟩)]⟩ 80 (0, 0)) := by repeat (first | assumption | refine gG ‹_› ?_ | exact pE ‹_› | refine pG ‹_› (by first | assumption | exact Ne.symm ‹_› | exact ne_fr ‹_› (by repeat (first | exact io ‹_› | exact mS ‹_› | refine gS ‹_› ?_ | refine pS ‹_› ?_)) | exact Ne.symm (ne_fr ‹_› (by repeat (first | exact io ‹_› | exact mS ‹_› | refine gS ‹_› ?_ | refine pS ‹_› ?_)))) ?_)
  have k8 : σ10 b8 = some (.cells ⟨[.int .i64 kind]⟩ 3 (0, 0)) := by repeat (first | assumption | refine gG ‹_› ?_ | exact pE ‹_› | refine pG ‹_› (by first | assumption | exact Ne.symm ‹_› | exact ne_fr ‹_› (by repeat (first | exact io ‹_› | exact mS ‹_› | refine gS ‹_› ?_ | refine pS ‹_› ?_)) | exact Ne.symm (ne_fr ‹_› (by repeat (first | exact io ‹_› | exact mS ‹_› | refine gS ‹_› ?_ | refine pS ‹_› ?_)))) ?_)
  have k10 : σ10 b10 = some (.cells ⟨[.string data]⟩ 9 (0, 0)) := by repeat (first | assumption | refine gG ‹_› ?_ | exact pE ‹_› | refine pG ‹_› (by first | assumption | exact Ne.symm ‹_› | exact ne_fr ‹_› (by repeat (first | exact io ‹_› | exact mS ‹_› | refine gS ‹_› ?_ | refine pS ‹_› ?_)) | exact Ne.symm (ne_fr ‹_› (by repeat (first | exact io ‹_› | exact mS ‹_› | refine gS ‹_› ?_ | refine pS ‹_› ?_)))) ?_)
  have nb : ∀ b, T1.own bt b → ∃ o, σ b = some o := by
    intro b hb; exact hT.own_some ((own_same rfl rfl b).1 hb)
  have q7 : b7 ≠ b28 := ne_fr n10 (by repeat (first | exact io ‹_› | exact mS ‹_› | refine gS ‹_› ?_ | refine pS ‹_› ?_))
  have q10 : b10 ≠ b28 := ne_fr n10 (by repeat (first | exact io ‹_› | exact mS ‹_› | refine gS ‹_› ?_ | refine pS ‹_› ?_))
  have f28 : σ b28 = none := none_of hgr.gr (by
    cases hx : σ8 b28 with
    | none => rfl
    | some o' =>
      exfalso
      have : b28 ≠ bt := ne_fr n10 (by repeat (first | exact io ‹_› | exact mS ‹_› | refine gS ‹_› ?_ | refine pS ‹_› ?_)) |>.symm
      exact ne_fresh (p9.get this hx) n10 rfl)
  have hfr : ¬ T1.own bt b28 := by
    intro h; obtain ⟨o, ho⟩ := nb _ h
    rw [f28] at ho; cases ho
  refine j_i (fun j => ∀ σ' eb, NdAt σ' ⟨b28, kind, mode, data, 1, if kind == 2 then dir else 0, eb, []⟩ → TAt σ' bt T1 → (∀ e, eb = some e → σ e = none) → σ' b7 = some (.cells ⟨[.pointer (some ⟨bt, 0, none⟩)]⟩ 80 (0, 0)) → σ' b10 = some (.cells ⟨[.string data]⟩ 9 (0, 0)) → Sep σ B σ' B → j dir name (some ⟨b7, 0, none⟩) (some ⟨b10, 0, none⟩) (some ⟨b28, 0, none⟩) σ') ?_ ?_
  · intro σ' eb hN hT' heb h7 h10 hs
    have hcT := hT'.cells
    unfold Tb.cells at hcT
    have hm := hT'.nodes
    have e28 := hN.cells
    have nm : bt ≠ T1.mb := hT'.bt_mb
    have n7m : b7 ≠ T1.mb := ne_cm h7 hm
    have n10m : b10 ≠ T1.mb := ne_cm h10 hm
    have n7t : b7 ≠ bt := by first | assumption | exact Ne.symm ‹_› | exact ne_fr ‹_› (by repeat (first | exact io ‹_› | exact mS ‹_› | refine gS ‹_› ?_ | refine pS ‹_› ?_)) | exact Ne.symm (ne_fr ‹_› (by repeat (first | exact io ‹_› | exact mS ‹_› | refine gS ‹_› ?_ | refine pS ‹_› ?_)))
    have n10t : b10 ≠ bt := by first | assumption | exact Ne.symm ‹_› | exact ne_fr ‹_› (by repeat (first | exact io ‹_› | exact mS ‹_› | refine gS ‹_› ?_ | refine pS ‹_› ?_)) | exact Ne.symm (ne_fr ‹_› (by repeat (first | exact io ‹_› | exact mS ‹_› | refine gS ‹_› ?_ | refine pS ‹_› ?_)))
    let nn : Nd := ⟨b28, kind, mode, data, 1, if kind == 2 then dir else 0, eb, []⟩
    have hfe : ∀ e, eb = some e → ¬ T1.own bt e := by
      intro e he h; obtain ⟨o, ho⟩ := nb _ h; rw [heb e he] at ho; cases ho
    (repeat (first | refine ptr_i ?_ | refine rdT_of (by repeat (first | assumption | refine gG ‹_› ?_ | exact pE ‹_› | refine pG ‹_› (by first | assumption | exact Ne.symm ‹_› | exact ne_fr ‹_› (by repeat (first | exact io ‹_› | exact mS ‹_› | refine gS ‹_› ?_ | refine pS ‹_› ?_)) | exact Ne.symm (ne_fr ‹_› (by repeat (first | exact io ‹_› | exact mS ‹_› | refine gS ‹_› ?_ | refine pS ‹_› ?_)))) ?_)) (by rfl) ?_ | (refine al_i ?_; intro _ _ _ _ _) | refine and_i (rdC_of (by repeat (first | assumption | refine gG ‹_› ?_ | exact pE ‹_› | refine pG ‹_› (by first | assumption | exact Ne.symm ‹_› | exact ne_fr ‹_› (by repeat (first | exact io ‹_› | exact mS ‹_› | refine gS ‹_› ?_ | refine pS ‹_› ?_)) | exact Ne.symm (ne_fr ‹_› (by repeat (first | exact io ‹_› | exact mS ‹_› | refine gS ‹_› ?_ | refine pS ‹_› ?_)))) ?_)) (by rfl)) ?_ | refine rdA_i (by repeat (first | assumption | refine gG ‹_› ?_ | exact pE ‹_› | refine pG ‹_› (by first | assumption | exact Ne.symm ‹_› | exact ne_fr ‹_› (by repeat (first | exact io ‹_› | exact mS ‹_› | refine gS ‹_› ?_ | refine pS ‹_› ?_)) | exact Ne.symm (ne_fr ‹_› (by repeat (first | exact io ‹_› | exact mS ‹_› | refine gS ‹_› ?_ | refine pS ‹_› ?_)))) ?_)) (by rfl) ?_ | (refine st_i2 (by repeat (first | assumption | refine gG ‹_› ?_ | exact pE ‹_› | refine pG ‹_› (by first | assumption | exact Ne.symm ‹_› | exact ne_fr ‹_› (by repeat (first | exact io ‹_› | exact mS ‹_› | refine gS ‹_› ?_ | refine pS ‹_› ?_)) | exact Ne.symm (ne_fr ‹_› (by repeat (first | exact io ‹_› | exact mS ‹_› | refine gS ‹_› ?_ | refine pS ‹_› ?_)))) ?_)) (by first | exact sz_int | exact sz_string | exact sz_bool | exact sz_Inode | exact sz_Quota | exact sz_MSI | exact sz_place | exact sz_Errno) (by rfl) (by rfl) ?_; intro _ _) | refine app_P ?_ | refine app_I ?_ | refine app_S ?_ | refine app_B ?_ | refine app_M ?_ | refine app_L ?_ | refine app_U ?_ | refine app_R ?_ | (refine app_of rfl ?_; try dsimp only)))
    refine mu_i (kk := kkI) (f := Nd.ptr) und_MIN und_int hm (wr (T.last + 1)) nn ?_
    intro o11 σ11 p11 m11
    have hT11 : TAt σ11 bt (T1.set (wr (T.last + 1)) nn) := hT'.putA hO1 hN p11 m11 (by intro h; exact hfe _ h (.inr (.inl rfl)))
    have hO11 : Own (T1.set (wr (T.last + 1)) nn) := hO1.add hfr hfe
    (repeat (first | refine ptr_i ?_ | refine rdT_of (by repeat (first | assumption | refine gG ‹_› ?_ | exact pE ‹_› | refine pG ‹_› (by first | assumption | exact Ne.symm ‹_› | exact ne_fr ‹_› (by repeat (first | exact io ‹_› | exact mS ‹_› | refine gS ‹_› ?_ | refine pS ‹_› ?_)) | exact Ne.symm (ne_fr ‹_› (by repeat (first | exact io ‹_› | exact mS ‹_› | refine gS ‹_› ?_ | refine pS ‹_› ?_)))) ?_)) (by rfl) ?_ | (refine al_i ?_; intro _ _ _ _ _) | refine and_i (rdC_of (by repeat (first | assumption | refine gG ‹_› ?_ | exact pE ‹_› | refine pG ‹_› (by first | assumption | exact Ne.symm ‹_› | exact ne_fr ‹_› (by repeat (first | exact io ‹_› | exact mS ‹_› | refine gS ‹_› ?_ | refine pS ‹_› ?_)) | exact Ne.symm (ne_fr ‹_› (by repeat (first | exact io ‹_› | exact mS ‹_› | refine gS ‹_› ?_ | refine pS ‹_› ?_)))) ?_)) (by rfl)) ?_ | refine rdA_i (by repeat (first | assumption | refine gG ‹_› ?_ | exact pE ‹_› | refine pG ‹_› (by first | assumption | exact Ne.symm ‹_› | exact ne_fr ‹_› (by repeat (first | exact io ‹_› | exact mS ‹_› | refine gS ‹_› ?_ | refine pS ‹_› ?_)) | exact Ne.symm (ne_fr ‹_› (by repeat (first | exact io ‹_› | exact mS ‹_› | refine gS ‹_› ?_ | refine pS ‹_› ?_)))) ?_)) (by rfl) ?_ | (refine st_i2 (by repeat (first | assumption | refine gG ‹_› ?_ | exact pE ‹_› | refine pG ‹_› (by first | assumption | exact Ne.symm ‹_› | exact ne_fr ‹_› (by repeat (first | exact io ‹_› | exact mS ‹_› | refine gS ‹_› ?_ | refine pS ‹_› ?_)) | exact Ne.symm (ne_fr ‹_› (by repeat (first | exact io ‹_› | exact mS ‹_› | refine gS ‹_› ?_ | refine pS ‹_› ?_)))) ?_)) (by first | exact sz_int | exact sz_string | exact sz_bool | exact sz_Inode | exact sz_Quota | exact sz_MSI | exact sz_place | exact sz_Errno) (by rfl) (by rfl) ?_; intro _ _) | refine app_P ?_ | refine app_I ?_ | refine app_S ?_ | refine app_B ?_ | refine app_M ?_ | refine app_L ?_ | refine app_U ?_ | refine app_R ?_ | (refine app_of rfl ?_; try dsimp only)))
    have hL' : T1.get (wr (T.last + 1)) = none := by
      rw [abs_get] at hL
      exact Option.map_eq_none_iff.1 hL
    have hdl : dir ≠ wr (T.last + 1) := by
      intro e; rw [← e] at hL'; have : T1.get dir = T.get dir := rfl; rw [this, hnd] at hL'; cases hL'
    have hd11 : (T1.set (wr (T.last + 1)) nn).get dir = some nd := by rw [get_set, if_neg hdl]; exact hnd
    refine rdN hT11 hd11 ?_
    obtain ⟨ed, hed⟩ := hT11.dir hd11 hkd
    have cD := (hT11.get hd11).cells
    unfold Nd.cells at cD
    rw [hed] at cD
    (repeat (first | refine ptr_i ?_ | refine rdT_of (by repeat (first | assumption | refine gG ‹_› ?_ | exact pE ‹_› | refine pG ‹_› (by first | assumption | exact Ne.symm ‹_› | exact ne_fr ‹_› (by repeat (first | exact io ‹_› | exact mS ‹_› | refine gS ‹_› ?_ | refine pS ‹_› ?_)) | exact Ne.symm (ne_fr ‹_› (by repeat (first | exact io ‹_› | exact mS ‹_› | refine gS ‹_› ?_ | refine pS ‹_› ?_)))) ?_)) (by rfl) ?_ | (refine al_i ?_; intro _ _ _ _ _) | refine and_i (rdC_of (by repeat (first | assumption | refine gG ‹_› ?_ | exact pE ‹_› | refine pG ‹_› (by first | assumption | exact Ne.symm ‹_› | exact ne_fr ‹_› (by repeat (first | exact io ‹_› | exact mS ‹_› | refine gS ‹_› ?_ | refine pS ‹_› ?_)) | exact Ne.symm (ne_fr ‹_› (by repeat (first | exact io ‹_› | exact mS ‹_› | refine gS ‹_› ?_ | refine pS ‹_› ?_)))) ?_)) (by rfl)) ?_ | refine rdA_i (by repeat (first | assumption | refine gG ‹_› ?_ | exact pE ‹_› | refine pG ‹_› (by first | assumption | exact Ne.symm ‹_› | exact ne_fr ‹_› (by repeat (first | exact io ‹_› | exact mS ‹_› | refine gS ‹_› ?_ | refine pS ‹_› ?_)) | exact Ne.symm (ne_fr ‹_› (by repeat (first | exact io ‹_› | exact mS ‹_› | refine gS ‹_› ?_ | refine pS ‹_› ?_)))) ?_)) (by rfl) ?_ | (refine st_i2 (by repeat (first | assumption | refine gG ‹_› ?_ | exact pE ‹_› | refine pG ‹_› (by first | assumption | exact Ne.symm ‹_› | exact ne_fr ‹_› (by repeat (first | exact io ‹_› | exact mS ‹_› | refine gS ‹_› ?_ | refine pS ‹_› ?_)) | exact Ne.symm (ne_fr ‹_› (by repeat (first | exact io ‹_› | exact mS ‹_› | refine gS ‹_› ?_ | refine pS ‹_› ?_)))) ?_)) (by first | exact sz_int | exact sz_string | exact sz_bool | exact sz_Inode | exact sz_Quota | exact sz_MSI | exact sz_place | exact sz_Errno) (by rfl) (by rfl) ?_; intro _ _) | refine app_P ?_ | refine app_I ?_ | refine app_S ?_ | refine app_B ?_ | refine app_M ?_ | refine app_L ?_ | refine app_U ?_ | refine app_R ?_ | (refine app_of rfl ?_; try dsimp only)))
    have mE := (hT11.get hd11).ents ed hed
    refine mu_i (kk := kkS) (f := valI) und_MSI und_string mE name (wr (T.last + 1)) ?_
    intro o12 σ12 p12 m12
    have hT12 := hT11.putE hO11 hd11 hed p12 m12
    have hO12 : Own ((T1.set (wr (T.last + 1)) nn).set dir { nd with ents := HL.up name (wr (T.last + 1)) nd.ents }) := hO11.set hd11 rfl rfl
    have n7e : b7 ≠ ed := ne_cm (p11.get n7m h7) mE
    have n10e : b10 ≠ ed := ne_cm (p11.get n10m h10) mE
    have nte : bt ≠ ed := ne_cm hT11.cells mE
    (repeat (first | refine ptr_i ?_ | refine rdT_of (by repeat (first | assumption | refine gG ‹_› ?_ | exact pE ‹_› | refine pG ‹_› (by first | assumption | exact Ne.symm ‹_› | exact ne_fr ‹_› (by repeat (first | exact io ‹_› | exact mS ‹_› | refine gS ‹_› ?_ | refine pS ‹_› ?_)) | exact Ne.symm (ne_fr ‹_› (by repeat (first | exact io ‹_› | exact mS ‹_› | refine gS ‹_› ?_ | refine pS ‹_› ?_)))) ?_)) (by rfl) ?_ | (refine al_i ?_; intro _ _ _ _ _) | refine and_i (rdC_of (by repeat (first | assumption | refine gG ‹_› ?_ | exact pE ‹_› | refine pG ‹_› (by first | assumption | exact Ne.symm ‹_› | exact ne_fr ‹_› (by repeat (first | exact io ‹_› | exact mS ‹_› | refine gS ‹_› ?_ | refine pS ‹_› ?_)) | exact Ne.symm (ne_fr ‹_› (by repeat (first | exact io ‹_› | exact mS ‹_› | refine gS ‹_› ?_ | refine pS ‹_› ?_)))) ?_)) (by rfl)) ?_ | refine rdA_i (by repeat (first | assumption | refine gG ‹_› ?_ | exact pE ‹_› | refine pG ‹_› (by first | assumption | exact Ne.symm ‹_› | exact ne_fr ‹_› (by repeat (first | exact io ‹_› | exact mS ‹_› | refine gS ‹_› ?_ | refine pS ‹_› ?_)) | exact Ne.symm (ne_fr ‹_› (by repeat (first | exact io ‹_› | exact mS ‹_› | refine gS ‹_› ?_ | refine pS ‹_› ?_)))) ?_)) (by rfl) ?_ | (refine st_i2 (by repeat (first | assumption | refine gG ‹_› ?_ | exact pE ‹_› | refine pG ‹_› (by first | assumption | exact Ne.symm ‹_› | exact ne_fr ‹_› (by repeat (first | exact io ‹_› | exact mS ‹_› | refine gS ‹_› ?_ | refine pS ‹_› ?_)) | exact Ne.symm (ne_fr ‹_› (by repeat (first | exact io ‹_› | exact mS ‹_› | refine gS ‹_› ?_ | refine pS ‹_› ?_)))) ?_)) (by first | exact sz_int | exact sz_string | exact sz_bool | exact sz_Inode | exact sz_Quota | exact sz_MSI | exact sz_place | exact sz_Errno) (by rfl) (by rfl) ?_; intro _ _) | refine app_P ?_ | refine app_I ?_ | refine app_S ?_ | refine app_B ?_ | refine app_M ?_ | refine app_L ?_ | refine app_U ?_ | refine app_R ?_ | (refine app_of rfl ?_; try dsimp only)))
    rename_i σ13 p13 σ14 p14
    have hT13 := hT12.putT (T' := { ((T1.set (wr (T.last + 1)) nn).set dir { nd with ents := HL.up name (wr (T.last + 1)) nd.ents }) with ui := wr (T.ui + 1) }) p13 rfl rfl
    have hT14 := hT13.putT (T' := { ((T1.set (wr (T.last + 1)) nn).set dir { nd with ents := HL.up name (wr (T.last + 1)) nd.ents }) with ui := wr (T.ui + 1), ub := wr (T.ub + data.size) }) p14 rfl rfl
    refine hK' σ14 (Tb.own bt { ((T1.set (wr (T.last + 1)) nn).set dir { nd with ents := HL.up name (wr (T.last + 1)) nd.ents }) with ui := wr (T.ui + 1), ub := wr (T.ub + data.size) }) ⟨_, hT14, hO12.same rfl rfl, ?_, fun _ => Iff.rfl⟩ ?_
    · have hA1 : (T1.set (wr (T.last + 1)) nn).abs = { T.abs with last := wr (T.abs.last + 1), nodes := HL.up (wr (T.abs.last + 1)) ⟨kind, mode, data, 1, if kind == 2 then dir else 0, []⟩ T.abs.nodes } := abs_set ..
      have hg1 : (T1.set (wr (T.last + 1)) nn).abs.get dir = some nd.abs := by rw [abs_get, hd11]; rfl
      unfold AT.made AT.ent
      simp only
      rw [← hA1, hg1]
      simp only
      have h5 := abs_set (T1.set (wr (T.last + 1)) nn) dir { nd with ents := HL.up name (wr (T.last + 1)) nd.ents }
      show ({ ((T1.set (wr (T.last + 1)) nn).set dir { nd with ents := HL.up name (wr (T.last + 1)) nd.ents }).abs with ui := wr (T.ui + 1), ub := wr (T.ub + data.size) } : AT) = _
      rw [h5]; rfl
    · intro b o hb hn
      obtain ⟨hb', _⟩ := hs b o hb hn
      have q1 : b ≠ bt := by intro e; subst e; exact hn ((o1 _).1 (.inl rfl))
      have q2 : b ≠ T1.mb := by intro e; subst e; exact hn ((o1 _).1 (.inr (.inl rfl)))
      have q3 : b ≠ ed := by intro e; subst e; exact hn ((o1 _).1 (.inr (.inr ⟨dir, nd, hnd, .inr hed⟩)))
      refine ⟨p14.get q1 (p13.get q1 (p12.get q3 (p11.get q2 hb'))), ?_⟩
      intro hown
      have h1 := (own_same (T := (T1.set (wr (T.last + 1)) nn).set dir { nd with ents := HL.up name (wr (T.last + 1)) nd.ents }) rfl rfl b).1 hown
      have h2 := (own_set (n' := { nd with ents := HL.up name (wr (T.last + 1)) nd.ents }) hd11 rfl rfl b).1 h1
      rcases own_add b h2 with h3 | h3 | h3
      · exact hn ((o1 _).1 h3)
      · exact ne_fresh hb f28 h3
      · exact ne_fresh hb (heb b h3) rfl
  · intro j hj
    (repeat (first | refine ptr_i ?_ | refine rdT_of (by repeat (first | assumption | refine gG ‹_› ?_ | exact pE ‹_› | refine pG ‹_› (by first | assumption | exact Ne.symm ‹_› | exact ne_fr ‹_› (by repeat (first | exact io ‹_› | exact mS ‹_› | refine gS ‹_› ?_ | refine pS ‹_› ?_)) | exact Ne.symm (ne_fr ‹_› (by repeat (first | exact io ‹_› | exact mS ‹_› | refine gS ‹_› ?_ | refine pS ‹_› ?_)))) ?_)) (by rfl) ?_ | (refine al_i ?_; intro _ _ _ _ _) | refine and_i (rdC_of (by repeat (first | assumption | refine gG ‹_› ?_ | exact pE ‹_› | refine pG ‹_› (by first | assumption | exact Ne.symm ‹_› | exact ne_fr ‹_› (by repeat (first | exact io ‹_› | exact mS ‹_› | refine gS ‹_› ?_ | refine pS ‹_› ?_)) | exact Ne.symm (ne_fr ‹_› (by repeat (first | exact io ‹_› | exact mS ‹_› | refine gS ‹_› ?_ | refine pS ‹_› ?_)))) ?_)) (by rfl)) ?_ | refine rdA_i (by repeat (first | assumption | refine gG ‹_› ?_ | exact pE ‹_› | refine pG ‹_› (by first | assumption | exact Ne.symm ‹_› | exact ne_fr ‹_› (by repeat (first | exact io ‹_› | exact mS ‹_› | refine gS ‹_› ?_ | refine pS ‹_› ?_)) | exact Ne.symm (ne_fr ‹_› (by repeat (first | exact io ‹_› | exact mS ‹_› | refine gS ‹_› ?_ | refine pS ‹_› ?_)))) ?_)) (by rfl) ?_ | (refine st_i2 (by repeat (first | assumption | refine gG ‹_› ?_ | exact pE ‹_› | refine pG ‹_› (by first | assumption | exact Ne.symm ‹_› | exact ne_fr ‹_› (by repeat (first | exact io ‹_› | exact mS ‹_› | refine gS ‹_› ?_ | refine pS ‹_› ?_)) | exact Ne.symm (ne_fr ‹_› (by repeat (first | exact io ‹_› | exact mS ‹_› | refine gS ‹_› ?_ | refine pS ‹_› ?_)))) ?_)) (by first | exact sz_int | exact sz_string | exact sz_bool | exact sz_Inode | exact sz_Quota | exact sz_MSI | exact sz_place | exact sz_Errno) (by rfl) (by rfl) ?_; intro _ _) | refine app_P ?_ | refine app_I ?_ | refine app_S ?_ | refine app_B ?_ | refine app_M ?_ | refine app_L ?_ | refine app_U ?_ | refine app_R ?_ | (refine app_of rfl ?_; try dsimp only)))
    cases hk2 : (kind == 2) with
    | false =>
      refine br_f rfl ?_
      refine hj σ10 none ⟨by rw [hk2]; exact e10, fun _ h => (by cases h), fun _ => rfl, fun h => ?_⟩ hT10 (fun _ h => (by cases h)) k7 k10 s10
      exfalso; simp at hk2; exact hk2 h
    | true =>
      refine br_t rfl ?_
      (repeat (first | refine ptr_i ?_ | refine rdT_of (by repeat (first | assumption | refine gG ‹_› ?_ | exact pE ‹_› | refine pG ‹_› (by first | assumption | exact Ne.symm ‹_› | exact ne_fr ‹_› (by repeat (first | exact io ‹_› | exact mS ‹_› | refine gS ‹_› ?_ | refine pS ‹_› ?_)) | exact Ne.symm (ne_fr ‹_› (by repeat (first | exact io ‹_› | exact mS ‹_› | refine gS ‹_› ?_ | refine pS ‹_› ?_)))) ?_)) (by rfl) ?_ | (refine al_i ?_; intro _ _ _ _ _) | refine and_i (rdC_of (by repeat (first | assumption | refine gG ‹_› ?_ | exact pE ‹_› | refine pG ‹_› (by first | assumption | exact Ne.symm ‹_› | exact ne_fr ‹_› (by repeat (first | exact io ‹_› | exact mS ‹_› | refine gS ‹_› ?_ | refine pS ‹_› ?_)) | exact Ne.symm (ne_fr ‹_› (by repeat (first | exact io ‹_› | exact mS ‹_› | refine gS ‹_› ?_ | refine pS ‹_› ?_)))) ?_)) (by rfl)) ?_ | refine rdA_i (by repeat (first | assumption | refine gG ‹_› ?_ | exact pE ‹_› | refine pG ‹_› (by first | assumption | exact Ne.symm ‹_› | exact ne_fr ‹_› (by repeat (first | exact io ‹_› | exact mS ‹_› | refine gS ‹_› ?_ | refine pS ‹_› ?_)) | exact Ne.symm (ne_fr ‹_› (by repeat (first | exact io ‹_› | exact mS ‹_› | refine gS ‹_› ?_ | refine pS ‹_› ?_)))) ?_)) (by rfl) ?_ | (refine st_i2 (by repeat (first | assumption | refine gG ‹_› ?_ | exact pE ‹_› | refine pG ‹_› (by first | assumption | exact Ne.symm ‹_› | exact ne_fr ‹_› (by repeat (first | exact io ‹_› | exact mS ‹_› | refine gS ‹_› ?_ | refine pS ‹_› ?_)) | exact Ne.symm (ne_fr ‹_› (by repeat (first | exact io ‹_› | exact mS ‹_› | refine gS ‹_› ?_ | refine pS ‹_› ?_)))) ?_)) (by first | exact sz_int | exact sz_string | exact sz_bool | exact sz_Inode | exact sz_Quota | exact sz_MSI | exact sz_place | exact sz_Errno) (by rfl) (by rfl) ?_; intro _ _) | refine app_P ?_ | refine app_I ?_ | refine app_S ?_ | refine app_B ?_ | refine app_M ?_ | refine app_L ?_ | refine app_U ?_ | refine app_R ?_ | (refine app_of rfl ?_; try dsimp only)))
      rename_i b89 σ11 g11 e11 n11 σ12 p12 σ13 p13
      have n89 : ∀ b o, σ10 b = some o → b ≠ b89 := fun b o hb => ne_fresh hb n11
      have hf89 : ¬ T1.own bt b89 := by
        intro h; obtain ⟨o, ho⟩ := hT10.own_some h; exact n89 _ _ ho rfl
      have f89 : σ b89 = none := by
        cases hx : σ b89 with
        | none => rfl
        | some o => exfalso; exact hf89 ((o1 _).2 (Classical.byContradiction fun h => n89 _ _ (s10 _ _ hx h).1 rfl))
      refine hj σ13 (some b89) ⟨by rw [hk2]; exact p13.same, fun e he => ?_, fun h => (by cases h), fun _ h => (by cases h)⟩ (((hT10.gr g11).put p12 hfr).put p13 hfr) (fun e he => by cases he; exact f89) (by repeat (first | assumption | refine gG ‹_› ?_ | exact pE ‹_› | refine pG ‹_› (by first | assumption | exact Ne.symm ‹_› | exact ne_fr ‹_› (by repeat (first | exact io ‹_› | exact mS ‹_› | refine gS ‹_› ?_ | refine pS ‹_› ?_)) | exact Ne.symm (ne_fr ‹_› (by repeat (first | exact io ‹_› | exact mS ‹_› | refine gS ‹_› ?_ | refine pS ‹_› ?_)))) ?_)) (by repeat (first | assumption | refine gG ‹_› ?_ | exact pE ‹_› | refine pG ‹_› (by first | assumption | exact Ne.symm ‹_› | exact ne_fr ‹_› (by repeat (first | exact io ‹_› | exact mS ‹_› | refine gS ‹_› ?_ | refine pS ‹_› ?_)) | exact Ne.symm (ne_fr ‹_› (by repeat (first | exact io ‹_› | exact mS ‹_› | refine gS ‹_› ?_ | refine pS ‹_› ?_)))) ?_)) ?_
      · cases he
        refine MapAt.new ?_
        have : b89 ≠ b28 := (n89 _ _ e10).symm
        exact p13.get this (p12.get this e11)
      · intro b o hb hn
        have q : b ≠ b28 := ne_fresh hb f28
        exact ⟨p13.get q (p12.get q (g11.get (s10 b o hb hn).1)), hn⟩
end Go.Proofs.YtlpcehbfoogejaaGreatDoor

/- THE TABLE OF INODES: Link, Write, Chmod, New. -/
set_option maxRecDepth 100000
namespace Go.Proofs.YtlpcehbfoogejaaGreatDoor
open Go Go.HL Go.Wk
attribute [local irreducible] ptrW ifW brW andW rdT alW letJ stW muW biW vaW imW callT cvalT app callW invW callVW sizeT oW nilF oneK loopW rfW funW begW roundK exW idxW Gr Put
theorem fileE_z {T : Tb} {d : Int} (h : T.fileE d = 0) : ∃ n, T.get d = some n ∧ n.kind = 1 := by
  unfold Tb.fileE at h
  cases hn : T.get d with
  | none => rw [hn] at h; cases h
  | some n =>
    rw [hn] at h
    refine ⟨n, rfl, ?_⟩
    cases hk : (n.kind == 2) with
    | true => simp [hk] at h
    | false =>
      simp only [hk] at h
      cases hk1 : (n.kind == 1) with
      | true => simpa using hk1
      | false => simp [hk1] at h
/-- what is not the table's is none of its blocks -/
theorem TAt.ne {σ : H} {bt : Nat} {T : Tb} (_hT : TAt σ bt T) {b : Nat} (hb : ¬ T.own bt b) : b ≠ bt ∧ b ≠ T.mb ∧ (∀ i n, T.get i = some n → b ≠ n.blk ∧ n.eb ≠ some b) :=
  ⟨fun e => hb (.inl e), fun e => hb (.inr (.inl e)), fun i n hn => ⟨fun e => hb (.inr (.inr ⟨i, n, hn, .inl e⟩)), fun e => hb (.inr (.inr ⟨i, n, hn, .inr e⟩))⟩⟩
theorem s_Link (hC : CAny) {σ : H} {bt : Nat} {A : AT} {B : Nat → Prop} (hA : TabAt σ bt A B) (dir : Int) (name : ByteArray) (ino : Int) {K : Value → H → Prop}
    (hK : ∀ σ' B', TabAt σ' bt (AT.linkR A dir name ino).2 B' → Sep σ B σ' B' → K (.int .i64 (AT.linkR A dir name ino).1) σ') :
    callW Tryz.prog 71 [.pointer (some ⟨bt, 0, none⟩), .int .i64 dir, .string name, .int .i64 ino] K σ := by
  obtain ⟨T, hT, hO, rfl, hB⟩ := hA
  have hc0 := hT.cells
  refine c71 _ _ _ _ ?_
  unfold g71
  refine call_i (s_dir _ _ ?_)
  intro c1 c2 σ5 g5 f1 f2
  refine app_R ?_
  refine call_i (s_named _ ?_)
  intro c3 σ6 g6 f3
  refine app_R ?_
  refine call_i (s_file _ _ ?_)
  intro c7 c8 σ6' g6' f7 f8
  refine app_R ?_
  refine call_i (s_free _ _ _ ?_)
  intro c4 c5 c6 σ7 g7 f4 f5 f6
  refine app_R ?_
  refine one_f (one_f (one_f (one_f ?_)))
  refine al_i ?_; intro b17 σ8 g8 e8 n8
  have hgr : Lng σ σ8 := ⟨by repeat (first | exact Gr.refl _ | assumption | refine Gr.trans ?_ ‹_› | refine Gr.putF ?_ ‹_› (none_of ?_ ‹_›))⟩
  have hT8 := hT.gr hgr.gr
  refine call_i (s_first (es := [0, T.dirE dir, namedE name, T.fileE ino, if (T.find dir name).isSome then 6 else 0]) e8 ?_ (by simp) (app_I ?_))
  · refine ⟨pu_of go_there fun K hk => s_there _ hk, fun _ => ⟨pu_of go_dir1 fun K hk => s_dir1 hT8 (by repeat (first | assumption | refine gG ‹_› ?_ | exact pE ‹_› | refine pG ‹_› (by first | assumption | exact Ne.symm ‹_› | exact ne_fr ‹_› (by repeat (first | exact io ‹_› | exact mS ‹_› | refine gS ‹_› ?_ | refine pS ‹_› ?_)) | exact Ne.symm (ne_fr ‹_› (by repeat (first | exact io ‹_› | exact mS ‹_› | refine gS ‹_› ?_ | refine pS ‹_› ?_)))) ?_)) (by repeat (first | assumption | refine gG ‹_› ?_ | exact pE ‹_› | refine pG ‹_› (by first | assumption | exact Ne.symm ‹_› | exact ne_fr ‹_› (by repeat (first | exact io ‹_› | exact mS ‹_› | refine gS ‹_› ?_ | refine pS ‹_› ?_)) | exact Ne.symm (ne_fr ‹_› (by repeat (first | exact io ‹_› | exact mS ‹_› | refine gS ‹_› ?_ | refine pS ‹_› ?_)))) ?_)) hk, fun _ => ⟨pu_of go_named1 fun K hk => s_named1 hC (by repeat (first | assumption | refine gG ‹_› ?_ | exact pE ‹_› | refine pG ‹_› (by first | assumption | exact Ne.symm ‹_› | exact ne_fr ‹_› (by repeat (first | exact io ‹_› | exact mS ‹_› | refine gS ‹_› ?_ | refine pS ‹_› ?_)) | exact Ne.symm (ne_fr ‹_› (by repeat (first | exact io ‹_› | exact mS ‹_› | refine gS ‹_› ?_ | refine pS ‹_› ?_)))) ?_)) hk, fun _ => ⟨pu_of go_file1 fun K hk => s_file1 hT8 (by repeat (first | assumption | refine gG ‹_› ?_ | exact pE ‹_› | refine pG ‹_› (by first | assumption | exact Ne.symm ‹_› | exact ne_fr ‹_› (by repeat (first | exact io ‹_› | exact mS ‹_› | refine gS ‹_› ?_ | refine pS ‹_› ?_)) | exact Ne.symm (ne_fr ‹_› (by repeat (first | exact io ‹_› | exact mS ‹_› | refine gS ‹_› ?_ | refine pS ‹_› ?_)))) ?_)) (by repeat (first | assumption | refine gG ‹_› ?_ | exact pE ‹_› | refine pG ‹_› (by first | assumption | exact Ne.symm ‹_› | exact ne_fr ‹_› (by repeat (first | exact io ‹_› | exact mS ‹_› | refine gS ‹_› ?_ | refine pS ‹_› ?_)) | exact Ne.symm (ne_fr ‹_› (by repeat (first | exact io ‹_› | exact mS ‹_› | refine gS ‹_› ?_ | refine pS ‹_› ?_)))) ?_)) hk, fun _ => ⟨pu_of go_free1 fun K hk => s_free1 hT8 (by repeat (first | assumption | refine gG ‹_› ?_ | exact pE ‹_› | refine pG ‹_› (by first | assumption | exact Ne.symm ‹_› | exact ne_fr ‹_› (by repeat (first | exact io ‹_› | exact mS ‹_› | refine gS ‹_› ?_ | refine pS ‹_› ?_)) | exact Ne.symm (ne_fr ‹_› (by repeat (first | exact io ‹_› | exact mS ‹_› | refine gS ‹_› ?_ | refine pS ‹_› ?_)))) ?_)) (by repeat (first | assumption | refine gG ‹_› ?_ | exact pE ‹_› | refine pG ‹_› (by first | assumption | exact Ne.symm ‹_› | exact ne_fr ‹_› (by repeat (first | exact io ‹_› | exact mS ‹_› | refine gS ‹_› ?_ | refine pS ‹_› ?_)) | exact Ne.symm (ne_fr ‹_› (by repeat (first | exact io ‹_› | exact mS ‹_› | refine gS ‹_› ?_ | refine pS ‹_› ?_)))) ?_)) (by repeat (first | assumption | refine gG ‹_› ?_ | exact pE ‹_› | refine pG ‹_› (by first | assumption | exact Ne.symm ‹_› | exact ne_fr ‹_› (by repeat (first | exact io ‹_› | exact mS ‹_› | refine gS ‹_› ?_ | refine pS ‹_› ?_)) | exact Ne.symm (ne_fr ‹_› (by repeat (first | exact io ‹_› | exact mS ‹_› | refine gS ‹_› ?_ | refine pS ‹_› ?_)))) ?_)) hk, fun _ => trivial⟩⟩⟩⟩⟩
  have hE : firstE [0, T.dirE dir, namedE name, T.fileE ino, if (T.find dir name).isSome then 6 else 0] = T.abs.linkE dir name ino := by
    unfold AT.linkE; rw [abs_dirE, abs_find, abs_fileE]
  rw [hE]
  unfold AT.linkR at hK
  by_cases h0 : T.abs.linkE dir name ino = 0
  case neg =>
    rw [if_neg h0] at hK
    refine br_t (by simpa using h0) ?_
    exact hK σ8 B ⟨T, hT8, hO, rfl, hB⟩ (Sep.gr hgr.gr)
  rw [if_pos h0] at hK
  refine br_f (by simpa using h0) ?_
  rw [← hE] at h0
  have hd := (firstE_z (firstE_z h0).2).1
  obtain ⟨nd, hnd, hkd⟩ := dirE_z hd
  have hf := (firstE_z (firstE_z (firstE_z (firstE_z h0).2).2).2).1
  obtain ⟨nf, hnf, hkf⟩ := fileE_z hf
  have hne : ino ≠ dir := by intro e; subst e; rw [hnd] at hnf; cases hnf; omega
  have hc := hT8.cells
  unfold Tb.cells at hc
  (repeat (first | refine ptr_i ?_ | refine rdT_of (by repeat (first | assumption | refine gG ‹_› ?_ | exact pE ‹_› | refine pG ‹_› (by first | assumption | exact Ne.symm ‹_› | exact ne_fr ‹_› (by repeat (first | exact io ‹_› | exact mS ‹_› | refine gS ‹_› ?_ | refine pS ‹_› ?_)) | exact Ne.symm (ne_fr ‹_› (by repeat (first | exact io ‹_› | exact mS ‹_› | refine gS ‹_› ?_ | refine pS ‹_› ?_)))) ?_)) (by rfl) ?_ | (refine al_i ?_; intro _ _ _ _ _) | refine and_i (rdC_of (by repeat (first | assumption | refine gG ‹_› ?_ | exact pE ‹_› | refine pG ‹_› (by first | assumption | exact Ne.symm ‹_› | exact ne_fr ‹_› (by repeat (first | exact io ‹_› | exact mS ‹_› | refine gS ‹_› ?_ | refine pS ‹_› ?_)) | exact Ne.symm (ne_fr ‹_› (by repeat (first | exact io ‹_› | exact mS ‹_› | refine gS ‹_› ?_ | refine pS ‹_› ?_)))) ?_)) (by rfl)) ?_ | refine rdA_i (by repeat (first | assumption | refine gG ‹_› ?_ | exact pE ‹_› | refine pG ‹_› (by first | assumption | exact Ne.symm ‹_› | exact ne_fr ‹_› (by repeat (first | exact io ‹_› | exact mS ‹_› | refine gS ‹_› ?_ | refine pS ‹_› ?_)) | exact Ne.symm (ne_fr ‹_› (by repeat (first | exact io ‹_› | exact mS ‹_› | refine gS ‹_› ?_ | refine pS ‹_› ?_)))) ?_)) (by rfl) ?_ | (refine st_i2 (by repeat (first | assumption | refine gG ‹_› ?_ | exact pE ‹_› | refine pG ‹_› (by first | assumption | exact Ne.symm ‹_› | exact ne_fr ‹_› (by repeat (first | exact io ‹_› | exact mS ‹_› | refine gS ‹_› ?_ | refine pS ‹_› ?_)) | exact Ne.symm (ne_fr ‹_› (by repeat (first | exact io ‹_› | exact mS ‹_› | refine gS ‹_› ?_ | refine pS ‹_› ?_)))) ?_)) (by first | exact sz_int | exact sz_string | exact sz_bool | exact sz_Inode | exact sz_Quota | exact sz_MSI | exact sz_place | exact sz_Errno) (by rfl) (by rfl) ?_; intro _ _) | refine app_P ?_ | refine app_I ?_ | refine app_S ?_ | refine app_B ?_ | refine app_M ?_ | refine app_L ?_ | refine app_U ?_ | refine app_R ?_ | (refine app_of rfl ?_; try dsimp only)))
  refine rdN hT8 hnd ?_
  obtain ⟨ed, hed⟩ := hT8.dir hnd hkd
  have cD := (hT8.get hnd).cells
  unfold Nd.cells at cD
  rw [hed] at cD
  (repeat (first | refine ptr_i ?_ | refine rdT_of (by repeat (first | assumption | refine gG ‹_› ?_ | exact pE ‹_› | refine pG ‹_› (by first | assumption | exact Ne.symm ‹_› | exact ne_fr ‹_› (by repeat (first | exact io ‹_› | exact mS ‹_› | refine gS ‹_› ?_ | refine pS ‹_› ?_)) | exact Ne.symm (ne_fr ‹_› (by repeat (first | exact io ‹_› | exact mS ‹_› | refine gS ‹_› ?_ | refine pS ‹_› ?_)))) ?_)) (by rfl) ?_ | (refine al_i ?_; intro _ _ _ _ _) | refine and_i (rdC_of (by repeat (first | assumption | refine gG ‹_› ?_ | exact pE ‹_› | refine pG ‹_› (by first | assumption | exact Ne.symm ‹_› | exact ne_fr ‹_› (by repeat (first | exact io ‹_› | exact mS ‹_› | refine gS ‹_› ?_ | refine pS ‹_› ?_)) | exact Ne.symm (ne_fr ‹_› (by repeat (first | exact io ‹_› | exact mS ‹_› | refine gS ‹_› ?_ | refine pS ‹_› ?_)))) ?_)) (by rfl)) ?_ | refine rdA_i (by repeat (first | assumption | refine gG ‹_› ?_ | exact pE ‹_› | refine pG ‹_› (by first | assumption | exact Ne.symm ‹_› | exact ne_fr ‹_› (by repeat (first | exact io ‹_› | exact mS ‹_› | refine gS ‹_› ?_ | refine pS ‹_› ?_)) | exact Ne.symm (ne_fr ‹_› (by repeat (first | exact io ‹_› | exact mS ‹_› | refine gS ‹_› ?_ | refine pS ‹_› ?_)))) ?_)) (by rfl) ?_ | (refine st_i2 (by repeat (first | assumption | refine gG ‹_› ?_ | exact pE ‹_› | refine pG ‹_› (by first | assumption | exact Ne.symm ‹_› | exact ne_fr ‹_› (by repeat (first | exact io ‹_› | exact mS ‹_› | refine gS ‹_› ?_ | refine pS ‹_› ?_)) | exact Ne.symm (ne_fr ‹_› (by repeat (first | exact io ‹_› | exact mS ‹_› | refine gS ‹_› ?_ | refine pS ‹_› ?_)))) ?_)) (by first | exact sz_int | exact sz_string | exact sz_bool | exact sz_Inode | exact sz_Quota | exact sz_MSI | exact sz_place | exact sz_Errno) (by rfl) (by rfl) ?_; intro _ _) | refine app_P ?_ | refine app_I ?_ | refine app_S ?_ | refine app_B ?_ | refine app_M ?_ | refine app_L ?_ | refine app_U ?_ | refine app_R ?_ | (refine app_of rfl ?_; try dsimp only)))
  have mE := (hT8.get hnd).ents ed hed
  refine mu_i (kk := kkS) (f := valI) und_MSI und_string mE name ino ?_
  intro o12 σ12 p12 m12
  have hT12 := hT8.putE hO hnd hed p12 m12
  have hO12 : Own (T.set dir { nd with ents := HL.up name ino nd.ents }) := hO.set hnd rfl rfl
  have hf12 : (T.set dir { nd with ents := HL.up name ino nd.ents }).get ino = some nf := by rw [get_set, if_neg hne]; exact hnf
  have hc12 := hT12.cells
  unfold Tb.cells at hc12
  (repeat (first | refine ptr_i ?_ | refine rdT_of (by repeat (first | assumption | refine gG ‹_› ?_ | exact pE ‹_› | refine pG ‹_› (by first | assumption | exact Ne.symm ‹_› | exact ne_fr ‹_› (by repeat (first | exact io ‹_› | exact mS ‹_› | refine gS ‹_› ?_ | refine pS ‹_› ?_)) | exact Ne.symm (ne_fr ‹_› (by repeat (first | exact io ‹_› | exact mS ‹_› | refine gS ‹_› ?_ | refine pS ‹_› ?_)))) ?_)) (by rfl) ?_ | (refine al_i ?_; intro _ _ _ _ _) | refine and_i (rdC_of (by repeat (first | assumption | refine gG ‹_› ?_ | exact pE ‹_› | refine pG ‹_› (by first | assumption | exact Ne.symm ‹_› | exact ne_fr ‹_› (by repeat (first | exact io ‹_› | exact mS ‹_› | refine gS ‹_› ?_ | refine pS ‹_› ?_)) | exact Ne.symm (ne_fr ‹_› (by repeat (first | exact io ‹_› | exact mS ‹_› | refine gS ‹_› ?_ | refine pS ‹_› ?_)))) ?_)) (by rfl)) ?_ | refine rdA_i (by repeat (first | assumption | refine gG ‹_› ?_ | exact pE ‹_› | refine pG ‹_› (by first | assumption | exact Ne.symm ‹_› | exact ne_fr ‹_› (by repeat (first | exact io ‹_› | exact mS ‹_› | refine gS ‹_› ?_ | refine pS ‹_› ?_)) | exact Ne.symm (ne_fr ‹_› (by repeat (first | exact io ‹_› | exact mS ‹_› | refine gS ‹_› ?_ | refine pS ‹_› ?_)))) ?_)) (by rfl) ?_ | (refine st_i2 (by repeat (first | assumption | refine gG ‹_› ?_ | exact pE ‹_› | refine pG ‹_› (by first | assumption | exact Ne.symm ‹_› | exact ne_fr ‹_› (by repeat (first | exact io ‹_› | exact mS ‹_› | refine gS ‹_› ?_ | refine pS ‹_› ?_)) | exact Ne.symm (ne_fr ‹_› (by repeat (first | exact io ‹_› | exact mS ‹_› | refine gS ‹_› ?_ | refine pS ‹_› ?_)))) ?_)) (by first | exact sz_int | exact sz_string | exact sz_bool | exact sz_Inode | exact sz_Quota | exact sz_MSI | exact sz_place | exact sz_Errno) (by rfl) (by rfl) ?_; intro _ _) | refine app_P ?_ | refine app_I ?_ | refine app_S ?_ | refine app_B ?_ | refine app_M ?_ | refine app_L ?_ | refine app_U ?_ | refine app_R ?_ | (refine app_of rfl ?_; try dsimp only)))
  refine rdN hT12 hf12 ?_
  have cF := (hT12.get hf12).cells
  unfold Nd.cells at cF
  (repeat (first | refine ptr_i ?_ | refine rdT_of (by repeat (first | assumption | refine gG ‹_› ?_ | exact pE ‹_› | refine pG ‹_› (by first | assumption | exact Ne.symm ‹_› | exact ne_fr ‹_› (by repeat (first | exact io ‹_› | exact mS ‹_› | refine gS ‹_› ?_ | refine pS ‹_› ?_)) | exact Ne.symm (ne_fr ‹_› (by repeat (first | exact io ‹_› | exact mS ‹_› | refine gS ‹_› ?_ | refine pS ‹_› ?_)))) ?_)) (by rfl) ?_ | (refine al_i ?_; intro _ _ _ _ _) | refine and_i (rdC_of (by repeat (first | assumption | refine gG ‹_› ?_ | exact pE ‹_› | refine pG ‹_› (by first | assumption | exact Ne.symm ‹_› | exact ne_fr ‹_› (by repeat (first | exact io ‹_› | exact mS ‹_› | refine gS ‹_› ?_ | refine pS ‹_› ?_)) | exact Ne.symm (ne_fr ‹_› (by repeat (first | exact io ‹_› | exact mS ‹_› | refine gS ‹_› ?_ | refine pS ‹_› ?_)))) ?_)) (by rfl)) ?_ | refine rdA_i (by repeat (first | assumption | refine gG ‹_› ?_ | exact pE ‹_› | refine pG ‹_› (by first | assumption | exact Ne.symm ‹_› | exact ne_fr ‹_› (by repeat (first | exact io ‹_› | exact mS ‹_› | refine gS ‹_› ?_ | refine pS ‹_› ?_)) | exact Ne.symm (ne_fr ‹_› (by repeat (first | exact io ‹_› | exact mS ‹_› | refine gS ‹_› ?_ | refine pS ‹_› ?_)))) ?_)) (by rfl) ?_ | (refine st_i2 (by repeat (first | assumption | refine gG ‹_› ?_ | exact pE ‹_› | refine pG ‹_› (by first | assumption | exact Ne.symm ‹_› | exact ne_fr ‹_› (by repeat (first | exact io ‹_› | exact mS ‹_› | refine gS ‹_› ?_ | refine pS ‹_› ?_)) | exact Ne.symm (ne_fr ‹_› (by repeat (first | exact io ‹_› | exact mS ‹_› | refine gS ‹_› ?_ | refine pS ‹_› ?_)))) ?_)) (by first | exact sz_int | exact sz_string | exact sz_bool | exact sz_Inode | exact sz_Quota | exact sz_MSI | exact sz_place | exact sz_Errno) (by rfl) (by rfl) ?_; intro _ _) | refine app_P ?_ | refine app_I ?_ | refine app_S ?_ | refine app_B ?_ | refine app_M ?_ | refine app_L ?_ | refine app_U ?_ | refine app_R ?_ | (refine app_of rfl ?_; try dsimp only)))
  rename_i σ13 p13
  have hT13 := hT12.putN hO12 (n' := { nf with links := wr (nf.links + 1) }) hf12 p13 rfl rfl rfl rfl
  have hO13 := hO12.set (n' := { nf with links := wr (nf.links + 1) }) hf12 rfl rfl
  refine hK σ13 B ⟨_, hT13, hO13, ?_, fun b => (own_set (n' := { nf with links := wr (nf.links + 1) }) hf12 rfl rfl b).trans ((own_set (n' := { nd with ents := HL.up name ino nd.ents }) hnd rfl rfl b).trans (hB b))⟩ ?_
  · rw [abs_set]
    unfold AT.linked AT.ent AT.mod
    rw [abs_get, hnd]
    simp only [Option.map_some]
    have h5 : T.abs.set dir { nd.abs with ents := HL.up name ino nd.abs.ents } = (T.set dir { nd with ents := HL.up name ino nd.ents }).abs := (abs_set T dir { nd with ents := HL.up name ino nd.ents }).symm
    rw [h5, abs_get, hf12]
    rfl
  · intro b o hb hn
    have hn' : ¬ T.own bt b := fun h => hn ((hB b).1 h)
    have q1 : b ≠ ed := by intro e; subst e; exact ((hT.ne hn').2.2 dir nd hnd).2 hed
    have q2 : b ≠ nf.blk := ((hT.ne hn').2.2 ino nf hnf).1
    exact ⟨p13.get q2 (p12.get q1 (hgr.gr.get hb)), hn⟩

theorem s_WriteT1 {σ : H} {bt : Nat} {T : Tb} (hT : TAt σ bt T) {b1 b2 b3 : Nat} {data : ByteArray} {ino : Int} {t1 t2 t3 : TypeId} (h1 : σ b1 = some (.cells ⟨[.pointer (some ⟨bt, 0, none⟩)]⟩ t1 (0, 0))) (h2 : σ b2 = some (.cells ⟨[.string data]⟩ t2 (0, 0))) (h3 : σ b3 = some (.cells ⟨[.int .i64 ino]⟩ t3 (0, 0))) {n : Nd} (hn : T.get ino = some n) {K : Value → H → Prop}
    (hK : K (.int .i64 (T.roomE 0 (wr ((data.size : Int) - n.data.size)))) σ) : callW Tryz.prog 116 [.pointer (some ⟨b1, 0, none⟩), .pointer (some ⟨b2, 0, none⟩), .pointer (some ⟨b3, 0, none⟩)] K σ := by
  refine pure_i _ hK (c116 _ _ _ ?_)
  unfold g116
  have hc := hT.cells
  unfold Tb.cells at hc
  (repeat (first | refine ptr_i ?_ | refine rdT_of (by repeat (first | assumption | refine gG ‹_› ?_ | exact pE ‹_› | refine pG ‹_› (by first | assumption | exact Ne.symm ‹_› | exact ne_fr ‹_› (by repeat (first | exact io ‹_› | exact mS ‹_› | refine gS ‹_› ?_ | refine pS ‹_› ?_)) | exact Ne.symm (ne_fr ‹_› (by repeat (first | exact io ‹_› | exact mS ‹_› | refine gS ‹_› ?_ | refine pS ‹_› ?_)))) ?_)) (by rfl) ?_ | (refine al_i ?_; intro _ _ _ _ _) | refine and_i (rdC_of (by repeat (first | assumption | refine gG ‹_› ?_ | exact pE ‹_› | refine pG ‹_› (by first | assumption | exact Ne.symm ‹_› | exact ne_fr ‹_› (by repeat (first | exact io ‹_› | exact mS ‹_› | refine gS ‹_› ?_ | refine pS ‹_› ?_)) | exact Ne.symm (ne_fr ‹_› (by repeat (first | exact io ‹_› | exact mS ‹_› | refine gS ‹_› ?_ | refine pS ‹_› ?_)))) ?_)) (by rfl)) ?_ | refine rdA_i (by repeat (first | assumption | refine gG ‹_› ?_ | exact pE ‹_› | refine pG ‹_› (by first | assumption | exact Ne.symm ‹_› | exact ne_fr ‹_› (by repeat (first | exact io ‹_› | exact mS ‹_› | refine gS ‹_› ?_ | refine pS ‹_› ?_)) | exact Ne.symm (ne_fr ‹_› (by repeat (first | exact io ‹_› | exact mS ‹_› | refine gS ‹_› ?_ | refine pS ‹_› ?_)))) ?_)) (by rfl) ?_ | (refine st_i2 (by repeat (first | assumption | refine gG ‹_› ?_ | exact pE ‹_› | refine pG ‹_› (by first | assumption | exact Ne.symm ‹_› | exact ne_fr ‹_› (by repeat (first | exact io ‹_› | exact mS ‹_› | refine gS ‹_› ?_ | refine pS ‹_› ?_)) | exact Ne.symm (ne_fr ‹_› (by repeat (first | exact io ‹_› | exact mS ‹_› | refine gS ‹_› ?_ | refine pS ‹_› ?_)))) ?_)) (by first | exact sz_int | exact sz_string | exact sz_bool | exact sz_Inode | exact sz_Quota | exact sz_MSI | exact sz_place | exact sz_Errno) (by rfl) (by rfl) ?_; intro _ _) | refine app_P ?_ | refine app_I ?_ | refine app_S ?_ | refine app_B ?_ | refine app_M ?_ | refine app_L ?_ | refine app_U ?_ | refine app_R ?_ | (refine app_of rfl ?_; try dsimp only)))
  refine rdN hT hn ?_
  have hN := (hT.get hn).cells
  unfold Nd.cells at hN
  (repeat (first | refine ptr_i ?_ | refine rdT_of (by repeat (first | assumption | refine gG ‹_› ?_ | exact pE ‹_› | refine pG ‹_› (by first | assumption | exact Ne.symm ‹_› | exact ne_fr ‹_› (by repeat (first | exact io ‹_› | exact mS ‹_› | refine gS ‹_› ?_ | refine pS ‹_› ?_)) | exact Ne.symm (ne_fr ‹_› (by repeat (first | exact io ‹_› | exact mS ‹_› | refine gS ‹_› ?_ | refine pS ‹_› ?_)))) ?_)) (by rfl) ?_ | (refine al_i ?_; intro _ _ _ _ _) | refine and_i (rdC_of (by repeat (first | assumption | refine gG ‹_› ?_ | exact pE ‹_› | refine pG ‹_› (by first | assumption | exact Ne.symm ‹_› | exact ne_fr ‹_› (by repeat (first | exact io ‹_› | exact mS ‹_› | refine gS ‹_› ?_ | refine pS ‹_› ?_)) | exact Ne.symm (ne_fr ‹_› (by repeat (first | exact io ‹_› | exact mS ‹_› | refine gS ‹_› ?_ | refine pS ‹_› ?_)))) ?_)) (by rfl)) ?_ | refine rdA_i (by repeat (first | assumption | refine gG ‹_› ?_ | exact pE ‹_› | refine pG ‹_› (by first | assumption | exact Ne.symm ‹_› | exact ne_fr ‹_› (by repeat (first | exact io ‹_› | exact mS ‹_› | refine gS ‹_› ?_ | refine pS ‹_› ?_)) | exact Ne.symm (ne_fr ‹_› (by repeat (first | exact io ‹_› | exact mS ‹_› | refine gS ‹_› ?_ | refine pS ‹_› ?_)))) ?_)) (by rfl) ?_ | (refine st_i2 (by repeat (first | assumption | refine gG ‹_› ?_ | exact pE ‹_› | refine pG ‹_› (by first | assumption | exact Ne.symm ‹_› | exact ne_fr ‹_› (by repeat (first | exact io ‹_› | exact mS ‹_› | refine gS ‹_› ?_ | refine pS ‹_› ?_)) | exact Ne.symm (ne_fr ‹_› (by repeat (first | exact io ‹_› | exact mS ‹_› | refine gS ‹_› ?_ | refine pS ‹_› ?_)))) ?_)) (by first | exact sz_int | exact sz_string | exact sz_bool | exact sz_Inode | exact sz_Quota | exact sz_MSI | exact sz_place | exact sz_Errno) (by rfl) (by rfl) ?_; intro _ _) | refine app_P ?_ | refine app_I ?_ | refine app_S ?_ | refine app_B ?_ | refine app_M ?_ | refine app_L ?_ | refine app_U ?_ | refine app_R ?_ | (refine app_of rfl ?_; try dsimp only)))
  refine call_i (s_room _ _ _ ?_)
  intro c1 c2 c3 σ' hg e1 e2 e3
  refine app_R ?_
  refine cval_i go_room1 ?_
  exact s_room1 (hT.gr hg) e1 e2 e3 (app_I ⟨rfl, hg⟩)
theorem s_WriteT {σ : H} {bt : Nat} {A : AT} {B : Nat → Prop} (hA : TabAt σ bt A B) (ino : Int) (data : ByteArray) {K : Value → H → Prop}
    (hK : ∀ σ' B', TabAt σ' bt (AT.writeR A ino data).2 B' → Sep σ B σ' B' → K (.int .i64 (AT.writeR A ino data).1) σ') :
    callW Tryz.prog 64 [.pointer (some ⟨bt, 0, none⟩), .int .i64 ino, .string data] K σ := by
  obtain ⟨T, hT, hO, rfl, hB⟩ := hA
  have hc0 := hT.cells
  refine c64 _ _ _ ?_
  unfold g64
  refine al_i ?_; intro b4 σ1 g1 e1 n1
  refine al_i ?_; intro b5 σ2 g2 e2 n2
  refine al_i ?_; intro b6 σ3 g3 e3 n3
  (repeat (first | refine ptr_i ?_ | refine rdT_of (by repeat (first | assumption | refine gG ‹_› ?_ | exact pE ‹_› | refine pG ‹_› (by first | assumption | exact Ne.symm ‹_› | exact ne_fr ‹_› (by repeat (first | exact io ‹_› | exact mS ‹_› | refine gS ‹_› ?_ | refine pS ‹_› ?_)) | exact Ne.symm (ne_fr ‹_› (by repeat (first | exact io ‹_› | exact mS ‹_› | refine gS ‹_› ?_ | refine pS ‹_› ?_)))) ?_)) (by rfl) ?_ | (refine al_i ?_; intro _ _ _ _ _) | refine and_i (rdC_of (by repeat (first | assumption | refine gG ‹_› ?_ | exact pE ‹_› | refine pG ‹_› (by first | assumption | exact Ne.symm ‹_› | exact ne_fr ‹_› (by repeat (first | exact io ‹_› | exact mS ‹_› | refine gS ‹_› ?_ | refine pS ‹_› ?_)) | exact Ne.symm (ne_fr ‹_› (by repeat (first | exact io ‹_› | exact mS ‹_› | refine gS ‹_› ?_ | refine pS ‹_› ?_)))) ?_)) (by rfl)) ?_ | refine rdA_i (by repeat (first | assumption | refine gG ‹_› ?_ | exact pE ‹_› | refine pG ‹_› (by first | assumption | exact Ne.symm ‹_› | exact ne_fr ‹_› (by repeat (first | exact io ‹_› | exact mS ‹_› | refine gS ‹_› ?_ | refine pS ‹_› ?_)) | exact Ne.symm (ne_fr ‹_› (by repeat (first | exact io ‹_› | exact mS ‹_› | refine gS ‹_› ?_ | refine pS ‹_› ?_)))) ?_)) (by rfl) ?_ | (refine st_i2 (by repeat (first | assumption | refine gG ‹_› ?_ | exact pE ‹_› | refine pG ‹_› (by first | assumption | exact Ne.symm ‹_› | exact ne_fr ‹_› (by repeat (first | exact io ‹_› | exact mS ‹_› | refine gS ‹_› ?_ | refine pS ‹_› ?_)) | exact Ne.symm (ne_fr ‹_› (by repeat (first | exact io ‹_› | exact mS ‹_› | refine gS ‹_› ?_ | refine pS ‹_› ?_)))) ?_)) (by first | exact sz_int | exact sz_string | exact sz_bool | exact sz_Inode | exact sz_Quota | exact sz_MSI | exact sz_place | exact sz_Errno) (by rfl) (by rfl) ?_; intro _ _) | refine app_P ?_ | refine app_I ?_ | refine app_S ?_ | refine app_B ?_ | refine app_M ?_ | refine app_L ?_ | refine app_U ?_ | refine app_R ?_ | (refine app_of rfl ?_; try dsimp only)))
  refine call_i (s_file _ _ ?_)
  intro c7 c8 σ6' g6' f7 f8
  refine app_R ?_
  (repeat (first | refine ptr_i ?_ | refine rdT_of (by repeat (first | assumption | refine gG ‹_› ?_ | exact pE ‹_› | refine pG ‹_› (by first | assumption | exact Ne.symm ‹_› | exact ne_fr ‹_› (by repeat (first | exact io ‹_› | exact mS ‹_› | refine gS ‹_› ?_ | refine pS ‹_› ?_)) | exact Ne.symm (ne_fr ‹_› (by repeat (first | exact io ‹_› | exact mS ‹_› | refine gS ‹_› ?_ | refine pS ‹_› ?_)))) ?_)) (by rfl) ?_ | (refine al_i ?_; intro _ _ _ _ _) | refine and_i (rdC_of (by repeat (first | assumption | refine gG ‹_› ?_ | exact pE ‹_› | refine pG ‹_› (by first | assumption | exact Ne.symm ‹_› | exact ne_fr ‹_› (by repeat (first | exact io ‹_› | exact mS ‹_› | refine gS ‹_› ?_ | refine pS ‹_› ?_)) | exact Ne.symm (ne_fr ‹_› (by repeat (first | exact io ‹_› | exact mS ‹_› | refine gS ‹_› ?_ | refine pS ‹_› ?_)))) ?_)) (by rfl)) ?_ | refine rdA_i (by repeat (first | assumption | refine gG ‹_› ?_ | exact pE ‹_› | refine pG ‹_› (by first | assumption | exact Ne.symm ‹_› | exact ne_fr ‹_› (by repeat (first | exact io ‹_› | exact mS ‹_› | refine gS ‹_› ?_ | refine pS ‹_› ?_)) | exact Ne.symm (ne_fr ‹_› (by repeat (first | exact io ‹_› | exact mS ‹_› | refine gS ‹_› ?_ | refine pS ‹_› ?_)))) ?_)) (by rfl) ?_ | (refine st_i2 (by repeat (first | assumption | refine gG ‹_› ?_ | exact pE ‹_› | refine pG ‹_› (by first | assumption | exact Ne.symm ‹_› | exact ne_fr ‹_› (by repeat (first | exact io ‹_› | exact mS ‹_› | refine gS ‹_› ?_ | refine pS ‹_› ?_)) | exact Ne.symm (ne_fr ‹_› (by repeat (first | exact io ‹_› | exact mS ‹_› | refine gS ‹_› ?_ | refine pS ‹_› ?_)))) ?_)) (by first | exact sz_int | exact sz_string | exact sz_bool | exact sz_Inode | exact sz_Quota | exact sz_MSI | exact sz_place | exact sz_Errno) (by rfl) (by rfl) ?_; intro _ _) | refine app_P ?_ | refine app_I ?_ | refine app_S ?_ | refine app_B ?_ | refine app_M ?_ | refine app_L ?_ | refine app_U ?_ | refine app_R ?_ | (refine app_of rfl ?_; try dsimp only)))
  refine one_f ?_
  refine al_i ?_; intro b17 σ8 g8 e8 n8
  have hgr : Lng σ σ8 := ⟨by repeat (first | exact Gr.refl _ | assumption | refine Gr.trans ?_ ‹_› | refine Gr.putF ?_ ‹_› (none_of ?_ ‹_›))⟩
  have hT8 := hT.gr hgr.gr
  refine call_i (s_first (es := [0, T.fileE ino, T.roomE 0 (wr ((data.size : Int) - ((T.abs.get ino).map (·.data.size)).getD 0))]) e8 ?_ (by simp) (app_I ?_))
  · refine ⟨pu_of go_there fun K hk => s_there _ hk, fun _ => ⟨pu_of go_file1 fun K hk => s_file1 hT8 (by repeat (first | assumption | refine gG ‹_› ?_ | exact pE ‹_› | refine pG ‹_› (by first | assumption | exact Ne.symm ‹_› | exact ne_fr ‹_› (by repeat (first | exact io ‹_› | exact mS ‹_› | refine gS ‹_› ?_ | refine pS ‹_› ?_)) | exact Ne.symm (ne_fr ‹_› (by repeat (first | exact io ‹_› | exact mS ‹_› | refine gS ‹_› ?_ | refine pS ‹_› ?_)))) ?_)) (by repeat (first | assumption | refine gG ‹_› ?_ | exact pE ‹_› | refine pG ‹_› (by first | assumption | exact Ne.symm ‹_› | exact ne_fr ‹_› (by repeat (first | exact io ‹_› | exact mS ‹_› | refine gS ‹_› ?_ | refine pS ‹_› ?_)) | exact Ne.symm (ne_fr ‹_› (by repeat (first | exact io ‹_› | exact mS ‹_› | refine gS ‹_› ?_ | refine pS ‹_› ?_)))) ?_)) hk, fun hz => ⟨pu_of go_WriteT1 fun K hk => ?_, fun _ => trivial⟩⟩⟩
    obtain ⟨nf, hnf, hkf⟩ := fileE_z hz
    refine s_WriteT1 hT8 (b1 := b4) (b2 := b6) (b3 := b5) (by repeat (first | assumption | refine gG ‹_› ?_ | exact pE ‹_› | refine pG ‹_› (by first | assumption | exact Ne.symm ‹_› | exact ne_fr ‹_› (by repeat (first | exact io ‹_› | exact mS ‹_› | refine gS ‹_› ?_ | refine pS ‹_› ?_)) | exact Ne.symm (ne_fr ‹_› (by repeat (first | exact io ‹_› | exact mS ‹_› | refine gS ‹_› ?_ | refine pS ‹_› ?_)))) ?_)) (by repeat (first | assumption | refine gG ‹_› ?_ | exact pE ‹_› | refine pG ‹_› (by first | assumption | exact Ne.symm ‹_› | exact ne_fr ‹_› (by repeat (first | exact io ‹_› | exact mS ‹_› | refine gS ‹_› ?_ | refine pS ‹_› ?_)) | exact Ne.symm (ne_fr ‹_› (by repeat (first | exact io ‹_› | exact mS ‹_› | refine gS ‹_› ?_ | refine pS ‹_› ?_)))) ?_)) (by repeat (first | assumption | refine gG ‹_› ?_ | exact pE ‹_› | refine pG ‹_› (by first | assumption | exact Ne.symm ‹_› | exact ne_fr ‹_› (by repeat (first | exact io ‹_› | exact mS ‹_› | refine gS ‹_› ?_ | refine pS ‹_› ?_)) | exact Ne.symm (ne_fr ‹_› (by repeat (first | exact io ‹_› | exact mS ‹_› | refine gS ‹_› ?_ | refine pS ‹_› ?_)))) ?_)) hnf ?_
    rw [abs_get, hnf] at hk
    exact hk
  have hE : firstE [0, T.fileE ino, T.roomE 0 (wr ((data.size : Int) - ((T.abs.get ino).map (·.data.size)).getD 0))] = T.abs.writeE ino data := by
    unfold AT.writeE; rw [abs_fileE, abs_roomE]
  rw [hE]
  unfold AT.writeR at hK
  by_cases h0 : T.abs.writeE ino data = 0
  case neg =>
    rw [if_neg h0] at hK
    refine br_t (by simpa using h0) ?_
    exact hK σ8 B ⟨T, hT8, hO, rfl, hB⟩ (Sep.gr hgr.gr)
  rw [if_pos h0] at hK
  refine br_f (by simpa using h0) ?_
  rw [← hE] at h0
  obtain ⟨nf, hnf, hkf⟩ := fileE_z (firstE_z (firstE_z h0).2).1
  have hc := hT8.cells
  unfold Tb.cells at hc
  (repeat (first | refine ptr_i ?_ | refine rdT_of (by repeat (first | assumption | refine gG ‹_› ?_ | exact pE ‹_› | refine pG ‹_› (by first | assumption | exact Ne.symm ‹_› | exact ne_fr ‹_› (by repeat (first | exact io ‹_› | exact mS ‹_› | refine gS ‹_› ?_ | refine pS ‹_› ?_)) | exact Ne.symm (ne_fr ‹_› (by repeat (first | exact io ‹_› | exact mS ‹_› | refine gS ‹_› ?_ | refine pS ‹_› ?_)))) ?_)) (by rfl) ?_ | (refine al_i ?_; intro _ _ _ _ _) | refine and_i (rdC_of (by repeat (first | assumption | refine gG ‹_› ?_ | exact pE ‹_› | refine pG ‹_› (by first | assumption | exact Ne.symm ‹_› | exact ne_fr ‹_› (by repeat (first | exact io ‹_› | exact mS ‹_› | refine gS ‹_› ?_ | refine pS ‹_› ?_)) | exact Ne.symm (ne_fr ‹_› (by repeat (first | exact io ‹_› | exact mS ‹_› | refine gS ‹_› ?_ | refine pS ‹_› ?_)))) ?_)) (by rfl)) ?_ | refine rdA_i (by repeat (first | assumption | refine gG ‹_› ?_ | exact pE ‹_› | refine pG ‹_› (by first | assumption | exact Ne.symm ‹_› | exact ne_fr ‹_› (by repeat (first | exact io ‹_› | exact mS ‹_› | refine gS ‹_› ?_ | refine pS ‹_› ?_)) | exact Ne.symm (ne_fr ‹_› (by repeat (first | exact io ‹_› | exact mS ‹_› | refine gS ‹_› ?_ | refine pS ‹_› ?_)))) ?_)) (by rfl) ?_ | (refine st_i2 (by repeat (first | assumption | refine gG ‹_› ?_ | exact pE ‹_› | refine pG ‹_› (by first | assumption | exact Ne.symm ‹_› | exact ne_fr ‹_› (by repeat (first | exact io ‹_› | exact mS ‹_› | refine gS ‹_› ?_ | refine pS ‹_› ?_)) | exact Ne.symm (ne_fr ‹_› (by repeat (first | exact io ‹_› | exact mS ‹_› | refine gS ‹_› ?_ | refine pS ‹_› ?_)))) ?_)) (by first | exact sz_int | exact sz_string | exact sz_bool | exact sz_Inode | exact sz_Quota | exact sz_MSI | exact sz_place | exact sz_Errno) (by rfl) (by rfl) ?_; intro _ _) | refine app_P ?_ | refine app_I ?_ | refine app_S ?_ | refine app_B ?_ | refine app_M ?_ | refine app_L ?_ | refine app_U ?_ | refine app_R ?_ | (refine app_of rfl ?_; try dsimp only)))
  refine rdN hT8 hnf ?_
  have cF := (hT8.get hnf).cells
  unfold Nd.cells at cF
  have q0 : nf.blk ≠ bt := hT8.blk_bt hnf
  have q6 : b6 ≠ nf.blk := by
    intro e
    have h6 : σ8 b6 = some (.cells ⟨[.string data]⟩ 9 (0, 0)) := by repeat (first | assumption | refine gG ‹_› ?_ | exact pE ‹_› | refine pG ‹_› (by first | assumption | exact Ne.symm ‹_› | exact ne_fr ‹_› (by repeat (first | exact io ‹_› | exact mS ‹_› | refine gS ‹_› ?_ | refine pS ‹_› ?_)) | exact Ne.symm (ne_fr ‹_› (by repeat (first | exact io ‹_› | exact mS ‹_› | refine gS ‹_› ?_ | refine pS ‹_› ?_)))) ?_)
    rw [e, cF] at h6; simp at h6
  (repeat (first | refine ptr_i ?_ | refine rdT_of (by repeat (first | assumption | refine gG ‹_› ?_ | exact pE ‹_› | refine pG ‹_› (by first | assumption | exact Ne.symm ‹_› | exact ne_fr ‹_› (by repeat (first | exact io ‹_› | exact mS ‹_› | refine gS ‹_› ?_ | refine pS ‹_› ?_)) | exact Ne.symm (ne_fr ‹_› (by repeat (first | exact io ‹_› | exact mS ‹_› | refine gS ‹_› ?_ | refine pS ‹_› ?_)))) ?_)) (by rfl) ?_ | (refine al_i ?_; intro _ _ _ _ _) | refine and_i (rdC_of (by repeat (first | assumption | refine gG ‹_› ?_ | exact pE ‹_› | refine pG ‹_› (by first | assumption | exact Ne.symm ‹_› | exact ne_fr ‹_› (by repeat (first | exact io ‹_› | exact mS ‹_› | refine gS ‹_› ?_ | refine pS ‹_› ?_)) | exact Ne.symm (ne_fr ‹_› (by repeat (first | exact io ‹_› | exact mS ‹_› | refine gS ‹_› ?_ | refine pS ‹_› ?_)))) ?_)) (by rfl)) ?_ | refine rdA_i (by repeat (first | assumption | refine gG ‹_› ?_ | exact pE ‹_› | refine pG ‹_› (by first | assumption | exact Ne.symm ‹_› | exact ne_fr ‹_› (by repeat (first | exact io ‹_› | exact mS ‹_› | refine gS ‹_› ?_ | refine pS ‹_› ?_)) | exact Ne.symm (ne_fr ‹_› (by repeat (first | exact io ‹_› | exact mS ‹_› | refine gS ‹_› ?_ | refine pS ‹_› ?_)))) ?_)) (by rfl) ?_ | (refine st_i2 (by repeat (first | assumption | refine gG ‹_› ?_ | exact pE ‹_› | refine pG ‹_› (by first | assumption | exact Ne.symm ‹_› | exact ne_fr ‹_› (by repeat (first | exact io ‹_› | exact mS ‹_› | refine gS ‹_› ?_ | refine pS ‹_› ?_)) | exact Ne.symm (ne_fr ‹_› (by repeat (first | exact io ‹_› | exact mS ‹_› | refine gS ‹_› ?_ | refine pS ‹_› ?_)))) ?_)) (by first | exact sz_int | exact sz_string | exact sz_bool | exact sz_Inode | exact sz_Quota | exact sz_MSI | exact sz_place | exact sz_Errno) (by rfl) (by rfl) ?_; intro _ _) | refine app_P ?_ | refine app_I ?_ | refine app_S ?_ | refine app_B ?_ | refine app_M ?_ | refine app_L ?_ | refine app_U ?_ | refine app_R ?_ | (refine app_of rfl ?_; try dsimp only)))
  rename_i σ13 p13 σ14 p14
  have hT13 := hT8.putT (T' := { T with ub := wr (T.ub + wr ((data.size : Int) - nf.data.size)) }) p13 rfl rfl
  have hO13 : Own { T with ub := wr (T.ub + wr ((data.size : Int) - nf.data.size)) } := hO.same rfl rfl
  have hT14 := hT13.putN hO13 (n' := { nf with data := data }) (i := ino) hnf p14 rfl rfl rfl rfl
  have hO14 := hO13.set (n' := { nf with data := data }) (i := ino) hnf rfl rfl
  refine hK σ14 B ⟨_, hT14, hO14, ?_, fun b => (own_set (T := { T with ub := wr (T.ub + wr ((data.size : Int) - nf.data.size)) }) (i := ino) (n' := { nf with data := data }) hnf rfl rfl b).trans ((own_same rfl rfl b).trans (hB b))⟩ ?_
  · rw [abs_set]
    unfold AT.written
    rw [abs_get, hnf]
    rfl
  · intro b o hb hn
    have hn' : ¬ T.own bt b := fun h => hn ((hB b).1 h)
    exact ⟨p14.get ((hT.ne hn').2.2 ino nf hnf).1 (p13.get (hT.ne hn').1 (hgr.gr.get hb)), hn⟩
theorem s_ChmodT1 {σ : H} {b1 : Nat} {mode : Int} {t1 : TypeId} (h1 : σ b1 = some (.cells ⟨[.int .i64 mode]⟩ t1 (0, 0))) {K : Value → H → Prop}
    (hK : K (.int .i64 (if 0 ≤ mode ∧ mode ≤ 511 then 0 else 2)) σ) : callW Tryz.prog 123 [.pointer (some ⟨b1, 0, none⟩)] K σ := by
  refine c123 _ ?_
  unfold g123
  (repeat (first | refine ptr_i ?_ | refine rdT_of (by repeat (first | assumption | refine gG ‹_› ?_ | exact pE ‹_› | refine pG ‹_› (by first | assumption | exact Ne.symm ‹_› | exact ne_fr ‹_› (by repeat (first | exact io ‹_› | exact mS ‹_› | refine gS ‹_› ?_ | refine pS ‹_› ?_)) | exact Ne.symm (ne_fr ‹_› (by repeat (first | exact io ‹_› | exact mS ‹_› | refine gS ‹_› ?_ | refine pS ‹_› ?_)))) ?_)) (by rfl) ?_ | (refine al_i ?_; intro _ _ _ _ _) | refine and_i (rdC_of (by repeat (first | assumption | refine gG ‹_› ?_ | exact pE ‹_› | refine pG ‹_› (by first | assumption | exact Ne.symm ‹_› | exact ne_fr ‹_› (by repeat (first | exact io ‹_› | exact mS ‹_› | refine gS ‹_› ?_ | refine pS ‹_› ?_)) | exact Ne.symm (ne_fr ‹_› (by repeat (first | exact io ‹_› | exact mS ‹_› | refine gS ‹_› ?_ | refine pS ‹_› ?_)))) ?_)) (by rfl)) ?_ | refine rdA_i (by repeat (first | assumption | refine gG ‹_› ?_ | exact pE ‹_› | refine pG ‹_› (by first | assumption | exact Ne.symm ‹_› | exact ne_fr ‹_› (by repeat (first | exact io ‹_› | exact mS ‹_› | refine gS ‹_› ?_ | refine pS ‹_› ?_)) | exact Ne.symm (ne_fr ‹_› (by repeat (first | exact io ‹_› | exact mS ‹_› | refine gS ‹_› ?_ | refine pS ‹_› ?_)))) ?_)) (by rfl) ?_ | (refine st_i2 (by repeat (first | assumption | refine gG ‹_› ?_ | exact pE ‹_› | refine pG ‹_› (by first | assumption | exact Ne.symm ‹_› | exact ne_fr ‹_› (by repeat (first | exact io ‹_› | exact mS ‹_› | refine gS ‹_› ?_ | refine pS ‹_› ?_)) | exact Ne.symm (ne_fr ‹_› (by repeat (first | exact io ‹_› | exact mS ‹_› | refine gS ‹_› ?_ | refine pS ‹_› ?_)))) ?_)) (by first | exact sz_int | exact sz_string | exact sz_bool | exact sz_Inode | exact sz_Quota | exact sz_MSI | exact sz_place | exact sz_Errno) (by rfl) (by rfl) ?_; intro _ _) | refine app_P ?_ | refine app_I ?_ | refine app_S ?_ | refine app_B ?_ | refine app_M ?_ | refine app_L ?_ | refine app_U ?_ | refine app_R ?_ | (refine app_of rfl ?_; try dsimp only)))
  by_cases ha : 0 ≤ mode
  · refine br_t (by simpa using ha) ?_
    (repeat (first | refine ptr_i ?_ | refine rdT_of (by repeat (first | assumption | refine gG ‹_› ?_ | exact pE ‹_› | refine pG ‹_› (by first | assumption | exact Ne.symm ‹_› | exact ne_fr ‹_› (by repeat (first | exact io ‹_› | exact mS ‹_› | refine gS ‹_› ?_ | refine pS ‹_› ?_)) | exact Ne.symm (ne_fr ‹_› (by repeat (first | exact io ‹_› | exact mS ‹_› | refine gS ‹_› ?_ | refine pS ‹_› ?_)))) ?_)) (by rfl) ?_ | (refine al_i ?_; intro _ _ _ _ _) | refine and_i (rdC_of (by repeat (first | assumption | refine gG ‹_› ?_ | exact pE ‹_› | refine pG ‹_› (by first | assumption | exact Ne.symm ‹_› | exact ne_fr ‹_› (by repeat (first | exact io ‹_› | exact mS ‹_› | refine gS ‹_› ?_ | refine pS ‹_› ?_)) | exact Ne.symm (ne_fr ‹_› (by repeat (first | exact io ‹_› | exact mS ‹_› | refine gS ‹_› ?_ | refine pS ‹_› ?_)))) ?_)) (by rfl)) ?_ | refine rdA_i (by repeat (first | assumption | refine gG ‹_› ?_ | exact pE ‹_› | refine pG ‹_› (by first | assumption | exact Ne.symm ‹_› | exact ne_fr ‹_› (by repeat (first | exact io ‹_› | exact mS ‹_› | refine gS ‹_› ?_ | refine pS ‹_› ?_)) | exact Ne.symm (ne_fr ‹_› (by repeat (first | exact io ‹_› | exact mS ‹_› | refine gS ‹_› ?_ | refine pS ‹_› ?_)))) ?_)) (by rfl) ?_ | (refine st_i2 (by repeat (first | assumption | refine gG ‹_› ?_ | exact pE ‹_› | refine pG ‹_› (by first | assumption | exact Ne.symm ‹_› | exact ne_fr ‹_› (by repeat (first | exact io ‹_› | exact mS ‹_› | refine gS ‹_› ?_ | refine pS ‹_› ?_)) | exact Ne.symm (ne_fr ‹_› (by repeat (first | exact io ‹_› | exact mS ‹_› | refine gS ‹_› ?_ | refine pS ‹_› ?_)))) ?_)) (by first | exact sz_int | exact sz_string | exact sz_bool | exact sz_Inode | exact sz_Quota | exact sz_MSI | exact sz_place | exact sz_Errno) (by rfl) (by rfl) ?_; intro _ _) | refine app_P ?_ | refine app_I ?_ | refine app_S ?_ | refine app_B ?_ | refine app_M ?_ | refine app_L ?_ | refine app_U ?_ | refine app_R ?_ | (refine app_of rfl ?_; try dsimp only)))
    exact call_i (s_must _ _ (app_I (by simpa [ha] using hK)))
  · refine br_f (by simpa using ha) ?_
    exact call_i (s_must _ _ (app_I (by simpa [ha] using hK)))
theorem s_ChmodT2 {σ : H} {bt : Nat} {T : Tb} (hT : TAt σ bt T) {b1 b2 : Nat} {ino : Int} {t1 t2 : TypeId} (h1 : σ b1 = some (.cells ⟨[.pointer (some ⟨bt, 0, none⟩)]⟩ t1 (0, 0))) (h2 : σ b2 = some (.cells ⟨[.int .i64 ino]⟩ t2 (0, 0))) {K : Value → H → Prop}
    (hK : K (.int .i64 (if (T.get ino).isSome then 0 else 5)) σ) : callW Tryz.prog 124 [.pointer (some ⟨b1, 0, none⟩), .pointer (some ⟨b2, 0, none⟩)] K σ := by
  refine c124 _ _ ?_
  unfold g124
  (repeat (first | refine ptr_i ?_ | refine rdT_of (by repeat (first | assumption | refine gG ‹_› ?_ | exact pE ‹_› | refine pG ‹_› (by first | assumption | exact Ne.symm ‹_› | exact ne_fr ‹_› (by repeat (first | exact io ‹_› | exact mS ‹_› | refine gS ‹_› ?_ | refine pS ‹_› ?_)) | exact Ne.symm (ne_fr ‹_› (by repeat (first | exact io ‹_› | exact mS ‹_› | refine gS ‹_› ?_ | refine pS ‹_› ?_)))) ?_)) (by rfl) ?_ | (refine al_i ?_; intro _ _ _ _ _) | refine and_i (rdC_of (by repeat (first | assumption | refine gG ‹_› ?_ | exact pE ‹_› | refine pG ‹_› (by first | assumption | exact Ne.symm ‹_› | exact ne_fr ‹_› (by repeat (first | exact io ‹_› | exact mS ‹_› | refine gS ‹_› ?_ | refine pS ‹_› ?_)) | exact Ne.symm (ne_fr ‹_› (by repeat (first | exact io ‹_› | exact mS ‹_› | refine gS ‹_› ?_ | refine pS ‹_› ?_)))) ?_)) (by rfl)) ?_ | refine rdA_i (by repeat (first | assumption | refine gG ‹_› ?_ | exact pE ‹_› | refine pG ‹_› (by first | assumption | exact Ne.symm ‹_› | exact ne_fr ‹_› (by repeat (first | exact io ‹_› | exact mS ‹_› | refine gS ‹_› ?_ | refine pS ‹_› ?_)) | exact Ne.symm (ne_fr ‹_› (by repeat (first | exact io ‹_› | exact mS ‹_› | refine gS ‹_› ?_ | refine pS ‹_› ?_)))) ?_)) (by rfl) ?_ | (refine st_i2 (by repeat (first | assumption | refine gG ‹_› ?_ | exact pE ‹_› | refine pG ‹_› (by first | assumption | exact Ne.symm ‹_› | exact ne_fr ‹_› (by repeat (first | exact io ‹_› | exact mS ‹_› | refine gS ‹_› ?_ | refine pS ‹_› ?_)) | exact Ne.symm (ne_fr ‹_› (by repeat (first | exact io ‹_› | exact mS ‹_› | refine gS ‹_› ?_ | refine pS ‹_› ?_)))) ?_)) (by first | exact sz_int | exact sz_string | exact sz_bool | exact sz_Inode | exact sz_Quota | exact sz_MSI | exact sz_place | exact sz_Errno) (by rfl) (by rfl) ?_; intro _ _) | refine app_P ?_ | refine app_I ?_ | refine app_S ?_ | refine app_B ?_ | refine app_M ?_ | refine app_L ?_ | refine app_U ?_ | refine app_R ?_ | (refine app_of rfl ?_; try dsimp only)))
  refine call_i (s_get hT ino (app_P ?_))
  refine call_i (s_must _ _ (app_I ?_))
  cases h : T.get ino <;> simpa [h] using hK
theorem s_ChmodT {σ : H} {bt : Nat} {A : AT} {B : Nat → Prop} (hA : TabAt σ bt A B) (ino mode : Int) {K : Value → H → Prop}
    (hK : ∀ σ' B', TabAt σ' bt (AT.chmodR A ino mode).2 B' → Sep σ B σ' B' → K (.int .i64 (AT.chmodR A ino mode).1) σ') :
    callW Tryz.prog 74 [.pointer (some ⟨bt, 0, none⟩), .int .i64 ino, .int .i64 mode] K σ := by
  obtain ⟨T, hT, hO, rfl, hB⟩ := hA
  have hc0 := hT.cells
  refine c74 _ _ _ ?_
  unfold g74
  refine al_i ?_; intro b4 σ1 g1 e1 n1
  refine al_i ?_; intro b5 σ2 g2 e2 n2
  refine al_i ?_; intro b6 σ3 g3 e3 n3
  refine rd_P (rdC_of (by repeat (first | assumption | refine gG ‹_› ?_ | exact pE ‹_› | refine pG ‹_› (by first | assumption | exact Ne.symm ‹_› | exact ne_fr ‹_› (by repeat (first | exact io ‹_› | exact mS ‹_› | refine gS ‹_› ?_ | refine pS ‹_› ?_)) | exact Ne.symm (ne_fr ‹_› (by repeat (first | exact io ‹_› | exact mS ‹_› | refine gS ‹_› ?_ | refine pS ‹_› ?_)))) ?_)) (by rfl)) ?_
  refine al_i ?_; intro b17 σ8 g8 e8 n8
  have hgr : Lng σ σ8 := ⟨by repeat (first | exact Gr.refl _ | assumption | refine Gr.trans ?_ ‹_› | refine Gr.putF ?_ ‹_› (none_of ?_ ‹_›))⟩
  have hT8 := hT.gr hgr.gr
  refine call_i (s_first (es := [0, if 0 ≤ mode ∧ mode ≤ 511 then 0 else 2, if (T.get ino).isSome then 0 else 5]) e8 ?_ (by simp) (app_I ?_))
  · exact ⟨pu_of go_there fun K hk => s_there _ hk, fun _ => ⟨pu_of go_ChmodT1 fun K hk => s_ChmodT1 (by repeat (first | assumption | refine gG ‹_› ?_ | exact pE ‹_› | refine pG ‹_› (by first | assumption | exact Ne.symm ‹_› | exact ne_fr ‹_› (by repeat (first | exact io ‹_› | exact mS ‹_› | refine gS ‹_› ?_ | refine pS ‹_› ?_)) | exact Ne.symm (ne_fr ‹_› (by repeat (first | exact io ‹_› | exact mS ‹_› | refine gS ‹_› ?_ | refine pS ‹_› ?_)))) ?_)) hk, fun hz => ⟨pu_of go_ChmodT2 fun K hk => s_ChmodT2 hT8 (by repeat (first | assumption | refine gG ‹_› ?_ | exact pE ‹_› | refine pG ‹_› (by first | assumption | exact Ne.symm ‹_› | exact ne_fr ‹_› (by repeat (first | exact io ‹_› | exact mS ‹_› | refine gS ‹_› ?_ | refine pS ‹_› ?_)) | exact Ne.symm (ne_fr ‹_› (by repeat (first | exact io ‹_› | exact mS ‹_› | refine gS ‹_› ?_ | refine pS ‹_› ?_)))) ?_)) (by repeat (first | assumption | refine gG ‹_› ?_ | exact pE ‹_› | refine pG ‹_› (by first | assumption | exact Ne.symm ‹_› | exact ne_fr ‹_› (by repeat (first | exact io ‹_› | exact mS ‹_› | refine gS ‹_› ?_ | refine pS ‹_› ?_)) | exact Ne.symm (ne_fr ‹_› (by repeat (first | exact io ‹_› | exact mS ‹_› | refine gS ‹_› ?_ | refine pS ‹_› ?_)))) ?_)) hk, fun _ => trivial⟩⟩⟩
  have hE : firstE [0, if 0 ≤ mode ∧ mode ≤ 511 then 0 else 2, if (T.get ino).isSome then 0 else 5] = T.abs.chmodE ino mode := by
    unfold AT.chmodE; rw [abs_get]; cases T.get ino <;> rfl
  rw [hE]
  unfold AT.chmodR at hK
  by_cases h0 : T.abs.chmodE ino mode = 0
  case neg =>
    rw [if_neg h0] at hK
    refine br_t (by simpa using h0) ?_
    exact hK σ8 B ⟨T, hT8, hO, rfl, hB⟩ (Sep.gr hgr.gr)
  rw [if_pos h0] at hK
  refine br_f (by simpa using h0) ?_
  rw [← hE] at h0
  have hz := (firstE_z (firstE_z (firstE_z h0).2).2).1
  cases hnf : T.get ino with
  | none => rw [hnf] at hz; cases hz
  | some nf =>
  have hc := hT8.cells
  unfold Tb.cells at hc
  (repeat (first | refine ptr_i ?_ | refine rdT_of (by repeat (first | assumption | refine gG ‹_› ?_ | exact pE ‹_› | refine pG ‹_› (by first | assumption | exact Ne.symm ‹_› | exact ne_fr ‹_› (by repeat (first | exact io ‹_› | exact mS ‹_› | refine gS ‹_› ?_ | refine pS ‹_› ?_)) | exact Ne.symm (ne_fr ‹_› (by repeat (first | exact io ‹_› | exact mS ‹_› | refine gS ‹_› ?_ | refine pS ‹_› ?_)))) ?_)) (by rfl) ?_ | (refine al_i ?_; intro _ _ _ _ _) | refine and_i (rdC_of (by repeat (first | assumption | refine gG ‹_› ?_ | exact pE ‹_› | refine pG ‹_› (by first | assumption | exact Ne.symm ‹_› | exact ne_fr ‹_› (by repeat (first | exact io ‹_› | exact mS ‹_› | refine gS ‹_› ?_ | refine pS ‹_› ?_)) | exact Ne.symm (ne_fr ‹_› (by repeat (first | exact io ‹_› | exact mS ‹_› | refine gS ‹_› ?_ | refine pS ‹_› ?_)))) ?_)) (by rfl)) ?_ | refine rdA_i (by repeat (first | assumption | refine gG ‹_› ?_ | exact pE ‹_› | refine pG ‹_› (by first | assumption | exact Ne.symm ‹_› | exact ne_fr ‹_› (by repeat (first | exact io ‹_› | exact mS ‹_› | refine gS ‹_› ?_ | refine pS ‹_› ?_)) | exact Ne.symm (ne_fr ‹_› (by repeat (first | exact io ‹_› | exact mS ‹_› | refine gS ‹_› ?_ | refine pS ‹_› ?_)))) ?_)) (by rfl) ?_ | (refine st_i2 (by repeat (first | assumption | refine gG ‹_› ?_ | exact pE ‹_› | refine pG ‹_› (by first | assumption | exact Ne.symm ‹_› | exact ne_fr ‹_› (by repeat (first | exact io ‹_› | exact mS ‹_› | refine gS ‹_› ?_ | refine pS ‹_› ?_)) | exact Ne.symm (ne_fr ‹_› (by repeat (first | exact io ‹_› | exact mS ‹_› | refine gS ‹_› ?_ | refine pS ‹_› ?_)))) ?_)) (by first | exact sz_int | exact sz_string | exact sz_bool | exact sz_Inode | exact sz_Quota | exact sz_MSI | exact sz_place | exact sz_Errno) (by rfl) (by rfl) ?_; intro _ _) | refine app_P ?_ | refine app_I ?_ | refine app_S ?_ | refine app_B ?_ | refine app_M ?_ | refine app_L ?_ | refine app_U ?_ | refine app_R ?_ | (refine app_of rfl ?_; try dsimp only)))
  refine rdN hT8 hnf ?_
  have cF := (hT8.get hnf).cells
  unfold Nd.cells at cF
  (repeat (first | refine ptr_i ?_ | refine rdT_of (by repeat (first | assumption | refine gG ‹_› ?_ | exact pE ‹_› | refine pG ‹_› (by first | assumption | exact Ne.symm ‹_› | exact ne_fr ‹_› (by repeat (first | exact io ‹_› | exact mS ‹_› | refine gS ‹_› ?_ | refine pS ‹_› ?_)) | exact Ne.symm (ne_fr ‹_› (by repeat (first | exact io ‹_› | exact mS ‹_› | refine gS ‹_› ?_ | refine pS ‹_› ?_)))) ?_)) (by rfl) ?_ | (refine al_i ?_; intro _ _ _ _ _) | refine and_i (rdC_of (by repeat (first | assumption | refine gG ‹_› ?_ | exact pE ‹_› | refine pG ‹_› (by first | assumption | exact Ne.symm ‹_› | exact ne_fr ‹_› (by repeat (first | exact io ‹_› | exact mS ‹_› | refine gS ‹_› ?_ | refine pS ‹_› ?_)) | exact Ne.symm (ne_fr ‹_› (by repeat (first | exact io ‹_› | exact mS ‹_› | refine gS ‹_› ?_ | refine pS ‹_› ?_)))) ?_)) (by rfl)) ?_ | refine rdA_i (by repeat (first | assumption | refine gG ‹_› ?_ | exact pE ‹_› | refine pG ‹_› (by first | assumption | exact Ne.symm ‹_› | exact ne_fr ‹_› (by repeat (first | exact io ‹_› | exact mS ‹_› | refine gS ‹_› ?_ | refine pS ‹_› ?_)) | exact Ne.symm (ne_fr ‹_› (by repeat (first | exact io ‹_› | exact mS ‹_› | refine gS ‹_› ?_ | refine pS ‹_› ?_)))) ?_)) (by rfl) ?_ | (refine st_i2 (by repeat (first | assumption | refine gG ‹_› ?_ | exact pE ‹_› | refine pG ‹_› (by first | assumption | exact Ne.symm ‹_› | exact ne_fr ‹_› (by repeat (first | exact io ‹_› | exact mS ‹_› | refine gS ‹_› ?_ | refine pS ‹_› ?_)) | exact Ne.symm (ne_fr ‹_› (by repeat (first | exact io ‹_› | exact mS ‹_› | refine gS ‹_› ?_ | refine pS ‹_› ?_)))) ?_)) (by first | exact sz_int | exact sz_string | exact sz_bool | exact sz_Inode | exact sz_Quota | exact sz_MSI | exact sz_place | exact sz_Errno) (by rfl) (by rfl) ?_; intro _ _) | refine app_P ?_ | refine app_I ?_ | refine app_S ?_ | refine app_B ?_ | refine app_M ?_ | refine app_L ?_ | refine app_U ?_ | refine app_R ?_ | (refine app_of rfl ?_; try dsimp only)))
  rename_i σ14 p14
  have hT14 := hT8.putN hO (n' := { nf with mode := mode }) (i := ino) hnf p14 rfl rfl rfl rfl
  have hO14 := hO.set (n' := { nf with mode := mode }) (i := ino) hnf rfl rfl
  refine hK σ14 B ⟨_, hT14, hO14, ?_, fun b => (own_set (i := ino) (n' := { nf with mode := mode }) hnf rfl rfl b).trans (hB b)⟩ ?_
  · rw [abs_set]
    unfold AT.chmoded AT.mod
    rw [abs_get, hnf]
    rfl
  · intro b o hb hn
    have hn' : ¬ T.own bt b := fun h => hn ((hB b).1 h)
    exact ⟨p14.get ((hT.ne hn').2.2 ino nf hnf).1 (hgr.gr.get hb), hn⟩
end Go.Proofs.YtlpcehbfoogejaaGreatDoor

/- THE TABLE OF INODES: Unlink, Move, New. -/
set_option maxRecDepth 100000
namespace Go.Proofs.YtlpcehbfoogejaaGreatDoor
open Go Go.HL Go.Wk
attribute [local irreducible] ptrW ifW brW andW rdT alW letJ stW muW biW vaW imW callT cvalT app callW invW callVW sizeT oW nilF oneK loopW rfW funW begW roundK exW idxW Gr Put
theorem s_Unlink1 {σ : H} {bt : Nat} {T : Tb} (hT : TAt σ bt T) {b1 b2 b3 : Nat} {dir : Int} {name : ByteArray} {t1 t2 t3 : TypeId} (h1 : σ b1 = some (.cells ⟨[.pointer (some ⟨bt, 0, none⟩)]⟩ t1 (0, 0))) (h2 : σ b2 = some (.cells ⟨[.int .i64 dir]⟩ t2 (0, 0))) (h3 : σ b3 = some (.cells ⟨[.string name]⟩ t3 (0, 0))) {n : Nd} (hn : T.get ((T.find dir name).getD 0) = some n) {K : Value → H → Prop}
    (hK : K (.int .i64 (if n.ents.length = 0 then 0 else 20)) σ) : callW Tryz.prog 121 [.pointer (some ⟨b1, 0, none⟩), .pointer (some ⟨b2, 0, none⟩), .pointer (some ⟨b3, 0, none⟩)] K σ := by
  refine c121 _ _ _ ?_
  unfold g121
  have hc := hT.cells
  unfold Tb.cells at hc
  (repeat (first | refine ptr_i ?_ | refine rdT_of (by repeat (first | assumption | refine gG ‹_› ?_ | exact pE ‹_› | refine pG ‹_› (by first | assumption | exact Ne.symm ‹_› | exact ne_fr ‹_› (by repeat (first | exact io ‹_› | exact mS ‹_› | refine gS ‹_› ?_ | refine pS ‹_› ?_)) | exact Ne.symm (ne_fr ‹_› (by repeat (first | exact io ‹_› | exact mS ‹_› | refine gS ‹_› ?_ | refine pS ‹_› ?_)))) ?_)) (by rfl) ?_ | (refine al_i ?_; intro _ _ _ _ _) | refine and_i (rdC_of (by repeat (first | assumption | refine gG ‹_› ?_ | exact pE ‹_› | refine pG ‹_› (by first | assumption | exact Ne.symm ‹_› | exact ne_fr ‹_› (by repeat (first | exact io ‹_› | exact mS ‹_› | refine gS ‹_› ?_ | refine pS ‹_› ?_)) | exact Ne.symm (ne_fr ‹_› (by repeat (first | exact io ‹_› | exact mS ‹_› | refine gS ‹_› ?_ | refine pS ‹_› ?_)))) ?_)) (by rfl)) ?_ | refine rdA_i (by repeat (first | assumption | refine gG ‹_› ?_ | exact pE ‹_› | refine pG ‹_› (by first | assumption | exact Ne.symm ‹_› | exact ne_fr ‹_› (by repeat (first | exact io ‹_› | exact mS ‹_› | refine gS ‹_› ?_ | refine pS ‹_› ?_)) | exact Ne.symm (ne_fr ‹_› (by repeat (first | exact io ‹_› | exact mS ‹_› | refine gS ‹_› ?_ | refine pS ‹_› ?_)))) ?_)) (by rfl) ?_ | (refine st_i2 (by repeat (first | assumption | refine gG ‹_› ?_ | exact pE ‹_› | refine pG ‹_› (by first | assumption | exact Ne.symm ‹_› | exact ne_fr ‹_› (by repeat (first | exact io ‹_› | exact mS ‹_› | refine gS ‹_› ?_ | refine pS ‹_› ?_)) | exact Ne.symm (ne_fr ‹_› (by repeat (first | exact io ‹_› | exact mS ‹_› | refine gS ‹_› ?_ | refine pS ‹_› ?_)))) ?_)) (by first | exact sz_int | exact sz_string | exact sz_bool | exact sz_Inode | exact sz_Quota | exact sz_MSI | exact sz_place | exact sz_Errno) (by rfl) (by rfl) ?_; intro _ _) | refine app_P ?_ | refine app_I ?_ | refine app_S ?_ | refine app_B ?_ | refine app_M ?_ | refine app_L ?_ | refine app_U ?_ | refine app_R ?_ | (refine app_of rfl ?_; try dsimp only)))
  refine call_i (s_Find hT dir name (app_IB ?_))
  (repeat (first | refine ptr_i ?_ | refine rdT_of (by repeat (first | assumption | refine gG ‹_› ?_ | exact pE ‹_› | refine pG ‹_› (by first | assumption | exact Ne.symm ‹_› | exact ne_fr ‹_› (by repeat (first | exact io ‹_› | exact mS ‹_› | refine gS ‹_› ?_ | refine pS ‹_› ?_)) | exact Ne.symm (ne_fr ‹_› (by repeat (first | exact io ‹_› | exact mS ‹_› | refine gS ‹_› ?_ | refine pS ‹_› ?_)))) ?_)) (by rfl) ?_ | (refine al_i ?_; intro _ _ _ _ _) | refine and_i (rdC_of (by repeat (first | assumption | refine gG ‹_› ?_ | exact pE ‹_› | refine pG ‹_› (by first | assumption | exact Ne.symm ‹_› | exact ne_fr ‹_› (by repeat (first | exact io ‹_› | exact mS ‹_› | refine gS ‹_› ?_ | refine pS ‹_› ?_)) | exact Ne.symm (ne_fr ‹_› (by repeat (first | exact io ‹_› | exact mS ‹_› | refine gS ‹_› ?_ | refine pS ‹_› ?_)))) ?_)) (by rfl)) ?_ | refine rdA_i (by repeat (first | assumption | refine gG ‹_› ?_ | exact pE ‹_› | refine pG ‹_› (by first | assumption | exact Ne.symm ‹_› | exact ne_fr ‹_› (by repeat (first | exact io ‹_› | exact mS ‹_› | refine gS ‹_› ?_ | refine pS ‹_› ?_)) | exact Ne.symm (ne_fr ‹_› (by repeat (first | exact io ‹_› | exact mS ‹_› | refine gS ‹_› ?_ | refine pS ‹_› ?_)))) ?_)) (by rfl) ?_ | (refine st_i2 (by repeat (first | assumption | refine gG ‹_› ?_ | exact pE ‹_› | refine pG ‹_› (by first | assumption | exact Ne.symm ‹_› | exact ne_fr ‹_› (by repeat (first | exact io ‹_› | exact mS ‹_› | refine gS ‹_› ?_ | refine pS ‹_› ?_)) | exact Ne.symm (ne_fr ‹_› (by repeat (first | exact io ‹_› | exact mS ‹_› | refine gS ‹_› ?_ | refine pS ‹_› ?_)))) ?_)) (by first | exact sz_int | exact sz_string | exact sz_bool | exact sz_Inode | exact sz_Quota | exact sz_MSI | exact sz_place | exact sz_Errno) (by rfl) (by rfl) ?_; intro _ _) | refine app_P ?_ | refine app_I ?_ | refine app_S ?_ | refine app_B ?_ | refine app_M ?_ | refine app_L ?_ | refine app_U ?_ | refine app_R ?_ | (refine app_of rfl ?_; try dsimp only)))
  refine rdN hT hn ?_
  have hN := (hT.get hn)
  have cN := hN.cells
  unfold Nd.cells at cN
  (repeat (first | refine ptr_i ?_ | refine rdT_of (by repeat (first | assumption | refine gG ‹_› ?_ | exact pE ‹_› | refine pG ‹_› (by first | assumption | exact Ne.symm ‹_› | exact ne_fr ‹_› (by repeat (first | exact io ‹_› | exact mS ‹_› | refine gS ‹_› ?_ | refine pS ‹_› ?_)) | exact Ne.symm (ne_fr ‹_› (by repeat (first | exact io ‹_› | exact mS ‹_› | refine gS ‹_› ?_ | refine pS ‹_› ?_)))) ?_)) (by rfl) ?_ | (refine al_i ?_; intro _ _ _ _ _) | refine and_i (rdC_of (by repeat (first | assumption | refine gG ‹_› ?_ | exact pE ‹_› | refine pG ‹_› (by first | assumption | exact Ne.symm ‹_› | exact ne_fr ‹_› (by repeat (first | exact io ‹_› | exact mS ‹_› | refine gS ‹_› ?_ | refine pS ‹_› ?_)) | exact Ne.symm (ne_fr ‹_› (by repeat (first | exact io ‹_› | exact mS ‹_› | refine gS ‹_› ?_ | refine pS ‹_› ?_)))) ?_)) (by rfl)) ?_ | refine rdA_i (by repeat (first | assumption | refine gG ‹_› ?_ | exact pE ‹_› | refine pG ‹_› (by first | assumption | exact Ne.symm ‹_› | exact ne_fr ‹_› (by repeat (first | exact io ‹_› | exact mS ‹_› | refine gS ‹_› ?_ | refine pS ‹_› ?_)) | exact Ne.symm (ne_fr ‹_› (by repeat (first | exact io ‹_› | exact mS ‹_› | refine gS ‹_› ?_ | refine pS ‹_› ?_)))) ?_)) (by rfl) ?_ | (refine st_i2 (by repeat (first | assumption | refine gG ‹_› ?_ | exact pE ‹_› | refine pG ‹_› (by first | assumption | exact Ne.symm ‹_› | exact ne_fr ‹_› (by repeat (first | exact io ‹_› | exact mS ‹_› | refine gS ‹_› ?_ | refine pS ‹_› ?_)) | exact Ne.symm (ne_fr ‹_› (by repeat (first | exact io ‹_› | exact mS ‹_› | refine gS ‹_› ?_ | refine pS ‹_› ?_)))) ?_)) (by first | exact sz_int | exact sz_string | exact sz_bool | exact sz_Inode | exact sz_Quota | exact sz_MSI | exact sz_place | exact sz_Errno) (by rfl) (by rfl) ?_; intro _ _) | refine app_P ?_ | refine app_I ?_ | refine app_S ?_ | refine app_B ?_ | refine app_M ?_ | refine app_L ?_ | refine app_U ?_ | refine app_R ?_ | (refine app_of rfl ?_; try dsimp only)))
  cases he : n.eb with
  | none =>
    have h0 := hN.none he
    refine rd_I (n := 0) rfl ?_
    refine call_i (s_must _ _ (app_I ?_))
    simpa [h0] using hK
  | some e =>
    refine rd_I (rdLen_at (hN.ents e he)) ?_
    refine call_i (s_must _ _ (app_I ?_))
    have : (encL kkS valI n.ents).length = n.ents.length := by simp [encL]
    rw [this]
    by_cases h0 : n.ents.length = 0
    · rw [if_pos h0] at hK; simpa [h0] using hK
    · rw [if_neg h0] at hK
      have : (((n.ents.length : Nat) : Int) == 0) = false := by
        simp; intro e; exact h0 (by rw [e]; rfl)
      rw [this]; exact hK
theorem s_Unlink {σ : H} {bt : Nat} {A : AT} {B : Nat → Prop} (hA : TabAt σ bt A B) (dir : Int) (name : ByteArray) (hd : ∀ j, A.find dir name = some j → (A.get j).isSome = true) (hk : (keysL A.nodes).Nodup) {K : Value → H → Prop}
    (hK : ∀ σ' B', TabAt σ' bt (AT.unlinkR A dir name).2 B' → Sep σ B σ' B' → K (.int .i64 (AT.unlinkR A dir name).1) σ') :
    callW Tryz.prog 68 [.pointer (some ⟨bt, 0, none⟩), .int .i64 dir, .string name] K σ := by
  obtain ⟨T, hT, hO, rfl, hB⟩ := hA
  have hc0 := hT.cells
  refine c68 _ _ _ ?_
  unfold g68
  refine al_i ?_; intro b4 σ1 g1 e1 n1
  refine al_i ?_; intro b5 σ2 g2 e2 n2
  refine al_i ?_; intro b6 σ3 g3 e3 n3
  (repeat (first | refine ptr_i ?_ | refine rdT_of (by repeat (first | assumption | refine gG ‹_› ?_ | exact pE ‹_› | refine pG ‹_› (by first | assumption | exact Ne.symm ‹_› | exact ne_fr ‹_› (by repeat (first | exact io ‹_› | exact mS ‹_› | refine gS ‹_› ?_ | refine pS ‹_› ?_)) | exact Ne.symm (ne_fr ‹_› (by repeat (first | exact io ‹_› | exact mS ‹_› | refine gS ‹_› ?_ | refine pS ‹_› ?_)))) ?_)) (by rfl) ?_ | (refine al_i ?_; intro _ _ _ _ _) | refine and_i (rdC_of (by repeat (first | assumption | refine gG ‹_› ?_ | exact pE ‹_› | refine pG ‹_› (by first | assumption | exact Ne.symm ‹_› | exact ne_fr ‹_› (by repeat (first | exact io ‹_› | exact mS ‹_› | refine gS ‹_› ?_ | refine pS ‹_› ?_)) | exact Ne.symm (ne_fr ‹_› (by repeat (first | exact io ‹_› | exact mS ‹_› | refine gS ‹_› ?_ | refine pS ‹_› ?_)))) ?_)) (by rfl)) ?_ | refine rdA_i (by repeat (first | assumption | refine gG ‹_› ?_ | exact pE ‹_› | refine pG ‹_› (by first | assumption | exact Ne.symm ‹_› | exact ne_fr ‹_› (by repeat (first | exact io ‹_› | exact mS ‹_› | refine gS ‹_› ?_ | refine pS ‹_› ?_)) | exact Ne.symm (ne_fr ‹_› (by repeat (first | exact io ‹_› | exact mS ‹_› | refine gS ‹_› ?_ | refine pS ‹_› ?_)))) ?_)) (by rfl) ?_ | (refine st_i2 (by repeat (first | assumption | refine gG ‹_› ?_ | exact pE ‹_› | refine pG ‹_› (by first | assumption | exact Ne.symm ‹_› | exact ne_fr ‹_› (by repeat (first | exact io ‹_› | exact mS ‹_› | refine gS ‹_› ?_ | refine pS ‹_› ?_)) | exact Ne.symm (ne_fr ‹_› (by repeat (first | exact io ‹_› | exact mS ‹_› | refine gS ‹_› ?_ | refine pS ‹_› ?_)))) ?_)) (by first | exact sz_int | exact sz_string | exact sz_bool | exact sz_Inode | exact sz_Quota | exact sz_MSI | exact sz_place | exact sz_Errno) (by rfl) (by rfl) ?_; intro _ _) | refine app_P ?_ | refine app_I ?_ | refine app_S ?_ | refine app_B ?_ | refine app_M ?_ | refine app_L ?_ | refine app_U ?_ | refine app_R ?_ | (refine app_of rfl ?_; try dsimp only)))
  refine call_i (s_dir _ _ ?_)
  intro c1 c2 σ5 g5 f1 f2
  refine app_R ?_
  (repeat (first | refine ptr_i ?_ | refine rdT_of (by repeat (first | assumption | refine gG ‹_› ?_ | exact pE ‹_› | refine pG ‹_› (by first | assumption | exact Ne.symm ‹_› | exact ne_fr ‹_› (by repeat (first | exact io ‹_› | exact mS ‹_› | refine gS ‹_› ?_ | refine pS ‹_› ?_)) | exact Ne.symm (ne_fr ‹_› (by repeat (first | exact io ‹_› | exact mS ‹_› | refine gS ‹_› ?_ | refine pS ‹_› ?_)))) ?_)) (by rfl) ?_ | (refine al_i ?_; intro _ _ _ _ _) | refine and_i (rdC_of (by repeat (first | assumption | refine gG ‹_› ?_ | exact pE ‹_› | refine pG ‹_› (by first | assumption | exact Ne.symm ‹_› | exact ne_fr ‹_› (by repeat (first | exact io ‹_› | exact mS ‹_› | refine gS ‹_› ?_ | refine pS ‹_› ?_)) | exact Ne.symm (ne_fr ‹_› (by repeat (first | exact io ‹_› | exact mS ‹_› | refine gS ‹_› ?_ | refine pS ‹_› ?_)))) ?_)) (by rfl)) ?_ | refine rdA_i (by repeat (first | assumption | refine gG ‹_› ?_ | exact pE ‹_› | refine pG ‹_› (by first | assumption | exact Ne.symm ‹_› | exact ne_fr ‹_› (by repeat (first | exact io ‹_› | exact mS ‹_› | refine gS ‹_› ?_ | refine pS ‹_› ?_)) | exact Ne.symm (ne_fr ‹_› (by repeat (first | exact io ‹_› | exact mS ‹_› | refine gS ‹_› ?_ | refine pS ‹_› ?_)))) ?_)) (by rfl) ?_ | (refine st_i2 (by repeat (first | assumption | refine gG ‹_› ?_ | exact pE ‹_› | refine pG ‹_› (by first | assumption | exact Ne.symm ‹_› | exact ne_fr ‹_› (by repeat (first | exact io ‹_› | exact mS ‹_› | refine gS ‹_› ?_ | refine pS ‹_› ?_)) | exact Ne.symm (ne_fr ‹_› (by repeat (first | exact io ‹_› | exact mS ‹_› | refine gS ‹_› ?_ | refine pS ‹_› ?_)))) ?_)) (by first | exact sz_int | exact sz_string | exact sz_bool | exact sz_Inode | exact sz_Quota | exact sz_MSI | exact sz_place | exact sz_Errno) (by rfl) (by rfl) ?_; intro _ _) | refine app_P ?_ | refine app_I ?_ | refine app_S ?_ | refine app_B ?_ | refine app_M ?_ | refine app_L ?_ | refine app_U ?_ | refine app_R ?_ | (refine app_of rfl ?_; try dsimp only)))
  refine call_i (s_entry _ _ _ ?_)
  intro c4 c5 c6 σ7 g7 f4 f5 f6
  refine app_R ?_
  (repeat (first | refine ptr_i ?_ | refine rdT_of (by repeat (first | assumption | refine gG ‹_› ?_ | exact pE ‹_› | refine pG ‹_› (by first | assumption | exact Ne.symm ‹_› | exact ne_fr ‹_› (by repeat (first | exact io ‹_› | exact mS ‹_› | refine gS ‹_› ?_ | refine pS ‹_› ?_)) | exact Ne.symm (ne_fr ‹_› (by repeat (first | exact io ‹_› | exact mS ‹_› | refine gS ‹_› ?_ | refine pS ‹_› ?_)))) ?_)) (by rfl) ?_ | (refine al_i ?_; intro _ _ _ _ _) | refine and_i (rdC_of (by repeat (first | assumption | refine gG ‹_› ?_ | exact pE ‹_› | refine pG ‹_› (by first | assumption | exact Ne.symm ‹_› | exact ne_fr ‹_› (by repeat (first | exact io ‹_› | exact mS ‹_› | refine gS ‹_› ?_ | refine pS ‹_› ?_)) | exact Ne.symm (ne_fr ‹_› (by repeat (first | exact io ‹_› | exact mS ‹_› | refine gS ‹_› ?_ | refine pS ‹_› ?_)))) ?_)) (by rfl)) ?_ | refine rdA_i (by repeat (first | assumption | refine gG ‹_› ?_ | exact pE ‹_› | refine pG ‹_› (by first | assumption | exact Ne.symm ‹_› | exact ne_fr ‹_› (by repeat (first | exact io ‹_› | exact mS ‹_› | refine gS ‹_› ?_ | refine pS ‹_› ?_)) | exact Ne.symm (ne_fr ‹_› (by repeat (first | exact io ‹_› | exact mS ‹_› | refine gS ‹_› ?_ | refine pS ‹_› ?_)))) ?_)) (by rfl) ?_ | (refine st_i2 (by repeat (first | assumption | refine gG ‹_› ?_ | exact pE ‹_› | refine pG ‹_› (by first | assumption | exact Ne.symm ‹_› | exact ne_fr ‹_› (by repeat (first | exact io ‹_› | exact mS ‹_› | refine gS ‹_› ?_ | refine pS ‹_› ?_)) | exact Ne.symm (ne_fr ‹_› (by repeat (first | exact io ‹_› | exact mS ‹_› | refine gS ‹_› ?_ | refine pS ‹_› ?_)))) ?_)) (by first | exact sz_int | exact sz_string | exact sz_bool | exact sz_Inode | exact sz_Quota | exact sz_MSI | exact sz_place | exact sz_Errno) (by rfl) (by rfl) ?_; intro _ _) | refine app_P ?_ | refine app_I ?_ | refine app_S ?_ | refine app_B ?_ | refine app_M ?_ | refine app_L ?_ | refine app_U ?_ | refine app_R ?_ | (refine app_of rfl ?_; try dsimp only)))
  refine one_f (one_f ?_)
  refine al_i ?_; intro b17 σ8 g8 e8 n8
  have hgr : Lng σ σ8 := ⟨by repeat (first | exact Gr.refl _ | assumption | refine Gr.trans ?_ ‹_› | refine Gr.putF ?_ ‹_› (none_of ?_ ‹_›))⟩
  have hT8 := hT.gr hgr.gr
  have hnn : ∀ j, T.find dir name = some j → ∃ n, T.get j = some n := by
    intro j hj
    have := hd j (by rw [abs_find]; exact hj)
    rw [abs_get] at this
    cases h : T.get j with
    | none => rw [h] at this; cases this
    | some n => exact ⟨n, rfl⟩
  refine call_i (s_first (es := [0, T.dirE dir, if (T.find dir name).isSome then 0 else 5, if ((T.abs.get ((T.find dir name).getD 0)).map (·.ents.length)).getD 0 = 0 then 0 else 20]) e8 ?_ (by simp) (app_I ?_))
  · refine ⟨pu_of go_there fun K hk => s_there _ hk, fun _ => ⟨pu_of go_dir1 fun K hk => s_dir1 hT8 (by repeat (first | assumption | refine gG ‹_› ?_ | exact pE ‹_› | refine pG ‹_› (by first | assumption | exact Ne.symm ‹_› | exact ne_fr ‹_› (by repeat (first | exact io ‹_› | exact mS ‹_› | refine gS ‹_› ?_ | refine pS ‹_› ?_)) | exact Ne.symm (ne_fr ‹_› (by repeat (first | exact io ‹_› | exact mS ‹_› | refine gS ‹_› ?_ | refine pS ‹_› ?_)))) ?_)) (by repeat (first | assumption | refine gG ‹_› ?_ | exact pE ‹_› | refine pG ‹_› (by first | assumption | exact Ne.symm ‹_› | exact ne_fr ‹_› (by repeat (first | exact io ‹_› | exact mS ‹_› | refine gS ‹_› ?_ | refine pS ‹_› ?_)) | exact Ne.symm (ne_fr ‹_› (by repeat (first | exact io ‹_› | exact mS ‹_› | refine gS ‹_› ?_ | refine pS ‹_› ?_)))) ?_)) hk, fun _ => ⟨pu_of go_entry1 fun K hk => s_entry1 hT8 (by repeat (first | assumption | refine gG ‹_› ?_ | exact pE ‹_› | refine pG ‹_› (by first | assumption | exact Ne.symm ‹_› | exact ne_fr ‹_› (by repeat (first | exact io ‹_› | exact mS ‹_› | refine gS ‹_› ?_ | refine pS ‹_› ?_)) | exact Ne.symm (ne_fr ‹_› (by repeat (first | exact io ‹_› | exact mS ‹_› | refine gS ‹_› ?_ | refine pS ‹_› ?_)))) ?_)) (by repeat (first | assumption | refine gG ‹_› ?_ | exact pE ‹_› | refine pG ‹_› (by first | assumption | exact Ne.symm ‹_› | exact ne_fr ‹_› (by repeat (first | exact io ‹_› | exact mS ‹_› | refine gS ‹_› ?_ | refine pS ‹_› ?_)) | exact Ne.symm (ne_fr ‹_› (by repeat (first | exact io ‹_› | exact mS ‹_› | refine gS ‹_› ?_ | refine pS ‹_› ?_)))) ?_)) (by repeat (first | assumption | refine gG ‹_› ?_ | exact pE ‹_› | refine pG ‹_› (by first | assumption | exact Ne.symm ‹_› | exact ne_fr ‹_› (by repeat (first | exact io ‹_› | exact mS ‹_› | refine gS ‹_› ?_ | refine pS ‹_› ?_)) | exact Ne.symm (ne_fr ‹_› (by repeat (first | exact io ‹_› | exact mS ‹_› | refine gS ‹_› ?_ | refine pS ‹_› ?_)))) ?_)) hk, fun hz => ⟨pu_of go_Unlink1 fun K hk => ?_, fun _ => trivial⟩⟩⟩⟩
    cases hj : T.find dir name with
    | none => rw [hj] at hz; cases hz
    | some j =>
      obtain ⟨n, hn⟩ := hnn j hj
      refine s_Unlink1 hT8 (b1 := b4) (b2 := b5) (b3 := b6) (by repeat (first | assumption | refine gG ‹_› ?_ | exact pE ‹_› | refine pG ‹_› (by first | assumption | exact Ne.symm ‹_› | exact ne_fr ‹_› (by repeat (first | exact io ‹_› | exact mS ‹_› | refine gS ‹_› ?_ | refine pS ‹_› ?_)) | exact Ne.symm (ne_fr ‹_› (by repeat (first | exact io ‹_› | exact mS ‹_› | refine gS ‹_› ?_ | refine pS ‹_› ?_)))) ?_)) (by repeat (first | assumption | refine gG ‹_› ?_ | exact pE ‹_› | refine pG ‹_› (by first | assumption | exact Ne.symm ‹_› | exact ne_fr ‹_› (by repeat (first | exact io ‹_› | exact mS ‹_› | refine gS ‹_› ?_ | refine pS ‹_› ?_)) | exact Ne.symm (ne_fr ‹_› (by repeat (first | exact io ‹_› | exact mS ‹_› | refine gS ‹_› ?_ | refine pS ‹_› ?_)))) ?_)) (by repeat (first | assumption | refine gG ‹_› ?_ | exact pE ‹_› | refine pG ‹_› (by first | assumption | exact Ne.symm ‹_› | exact ne_fr ‹_› (by repeat (first | exact io ‹_› | exact mS ‹_› | refine gS ‹_› ?_ | refine pS ‹_› ?_)) | exact Ne.symm (ne_fr ‹_› (by repeat (first | exact io ‹_› | exact mS ‹_› | refine gS ‹_› ?_ | refine pS ‹_› ?_)))) ?_)) (n := n) (by rw [hj]; exact hn) ?_
      rw [abs_get, hj] at hk
      simp only [Option.getD_some, hn] at hk
      exact hk
  have hE : firstE [0, T.dirE dir, if (T.find dir name).isSome then 0 else 5, if ((T.abs.get ((T.find dir name).getD 0)).map (·.ents.length)).getD 0 = 0 then 0 else 20] = T.abs.unlinkE dir name := by
    unfold AT.unlinkE; rw [abs_dirE, abs_find]
  rw [hE]
  unfold AT.unlinkR at hK
  by_cases h0 : T.abs.unlinkE dir name = 0
  case neg =>
    rw [if_neg h0] at hK
    refine br_t (by simpa using h0) ?_
    exact hK σ8 B ⟨T, hT8, hO, rfl, hB⟩ (Sep.gr hgr.gr)
  rw [if_pos h0] at hK
  refine br_f (by simpa using h0) ?_
  rw [← hE] at h0
  obtain ⟨nd, hnd, hkd⟩ := dirE_z (firstE_z (firstE_z h0).2).1
  have hz := (firstE_z (firstE_z (firstE_z h0).2).2).1
  cases hj : T.find dir name with
  | none => rw [hj] at hz; cases hz
  | some j =>
  obtain ⟨n0, hn0⟩ := hnn j hj
  have hc := hT8.cells
  unfold Tb.cells at hc
  (repeat (first | refine ptr_i ?_ | refine rdT_of (by repeat (first | assumption | refine gG ‹_› ?_ | exact pE ‹_› | refine pG ‹_› (by first | assumption | exact Ne.symm ‹_› | exact ne_fr ‹_› (by repeat (first | exact io ‹_› | exact mS ‹_› | refine gS ‹_› ?_ | refine pS ‹_› ?_)) | exact Ne.symm (ne_fr ‹_› (by repeat (first | exact io ‹_› | exact mS ‹_› | refine gS ‹_› ?_ | refine pS ‹_› ?_)))) ?_)) (by rfl) ?_ | (refine al_i ?_; intro _ _ _ _ _) | refine and_i (rdC_of (by repeat (first | assumption | refine gG ‹_› ?_ | exact pE ‹_› | refine pG ‹_› (by first | assumption | exact Ne.symm ‹_› | exact ne_fr ‹_› (by repeat (first | exact io ‹_› | exact mS ‹_› | refine gS ‹_› ?_ | refine pS ‹_› ?_)) | exact Ne.symm (ne_fr ‹_› (by repeat (first | exact io ‹_› | exact mS ‹_› | refine gS ‹_› ?_ | refine pS ‹_› ?_)))) ?_)) (by rfl)) ?_ | refine rdA_i (by repeat (first | assumption | refine gG ‹_› ?_ | exact pE ‹_› | refine pG ‹_› (by first | assumption | exact Ne.symm ‹_› | exact ne_fr ‹_› (by repeat (first | exact io ‹_› | exact mS ‹_› | refine gS ‹_› ?_ | refine pS ‹_› ?_)) | exact Ne.symm (ne_fr ‹_› (by repeat (first | exact io ‹_› | exact mS ‹_› | refine gS ‹_› ?_ | refine pS ‹_› ?_)))) ?_)) (by rfl) ?_ | (refine st_i2 (by repeat (first | assumption | refine gG ‹_› ?_ | exact pE ‹_› | refine pG ‹_› (by first | assumption | exact Ne.symm ‹_› | exact ne_fr ‹_› (by repeat (first | exact io ‹_› | exact mS ‹_› | refine gS ‹_› ?_ | refine pS ‹_› ?_)) | exact Ne.symm (ne_fr ‹_› (by repeat (first | exact io ‹_› | exact mS ‹_› | refine gS ‹_› ?_ | refine pS ‹_› ?_)))) ?_)) (by first | exact sz_int | exact sz_string | exact sz_bool | exact sz_Inode | exact sz_Quota | exact sz_MSI | exact sz_place | exact sz_Errno) (by rfl) (by rfl) ?_; intro _ _) | refine app_P ?_ | refine app_I ?_ | refine app_S ?_ | refine app_B ?_ | refine app_M ?_ | refine app_L ?_ | refine app_U ?_ | refine app_R ?_ | (refine app_of rfl ?_; try dsimp only)))
  refine call_i (s_Find hT8 dir name (app_IB ?_))
  rw [hj]
  simp only [Option.getD_some]
  (repeat (first | refine ptr_i ?_ | refine rdT_of (by repeat (first | assumption | refine gG ‹_› ?_ | exact pE ‹_› | refine pG ‹_› (by first | assumption | exact Ne.symm ‹_› | exact ne_fr ‹_› (by repeat (first | exact io ‹_› | exact mS ‹_› | refine gS ‹_› ?_ | refine pS ‹_› ?_)) | exact Ne.symm (ne_fr ‹_› (by repeat (first | exact io ‹_› | exact mS ‹_› | refine gS ‹_› ?_ | refine pS ‹_› ?_)))) ?_)) (by rfl) ?_ | (refine al_i ?_; intro _ _ _ _ _) | refine and_i (rdC_of (by repeat (first | assumption | refine gG ‹_› ?_ | exact pE ‹_› | refine pG ‹_› (by first | assumption | exact Ne.symm ‹_› | exact ne_fr ‹_› (by repeat (first | exact io ‹_› | exact mS ‹_› | refine gS ‹_› ?_ | refine pS ‹_› ?_)) | exact Ne.symm (ne_fr ‹_› (by repeat (first | exact io ‹_› | exact mS ‹_› | refine gS ‹_› ?_ | refine pS ‹_› ?_)))) ?_)) (by rfl)) ?_ | refine rdA_i (by repeat (first | assumption | refine gG ‹_› ?_ | exact pE ‹_› | refine pG ‹_› (by first | assumption | exact Ne.symm ‹_› | exact ne_fr ‹_› (by repeat (first | exact io ‹_› | exact mS ‹_› | refine gS ‹_› ?_ | refine pS ‹_› ?_)) | exact Ne.symm (ne_fr ‹_› (by repeat (first | exact io ‹_› | exact mS ‹_› | refine gS ‹_› ?_ | refine pS ‹_› ?_)))) ?_)) (by rfl) ?_ | (refine st_i2 (by repeat (first | assumption | refine gG ‹_› ?_ | exact pE ‹_› | refine pG ‹_› (by first | assumption | exact Ne.symm ‹_› | exact ne_fr ‹_› (by repeat (first | exact io ‹_› | exact mS ‹_› | refine gS ‹_› ?_ | refine pS ‹_› ?_)) | exact Ne.symm (ne_fr ‹_› (by repeat (first | exact io ‹_› | exact mS ‹_› | refine gS ‹_› ?_ | refine pS ‹_› ?_)))) ?_)) (by first | exact sz_int | exact sz_string | exact sz_bool | exact sz_Inode | exact sz_Quota | exact sz_MSI | exact sz_place | exact sz_Errno) (by rfl) (by rfl) ?_; intro _ _) | refine app_P ?_ | refine app_I ?_ | refine app_S ?_ | refine app_B ?_ | refine app_M ?_ | refine app_L ?_ | refine app_U ?_ | refine app_R ?_ | (refine app_of rfl ?_; try dsimp only)))
  refine rdN hT8 hnd ?_
  obtain ⟨ed, hed⟩ := hT8.dir hnd hkd
  have cD := (hT8.get hnd).cells
  unfold Nd.cells at cD
  rw [hed] at cD
  (repeat (first | refine ptr_i ?_ | refine rdT_of (by repeat (first | assumption | refine gG ‹_› ?_ | exact pE ‹_› | refine pG ‹_› (by first | assumption | exact Ne.symm ‹_› | exact ne_fr ‹_› (by repeat (first | exact io ‹_› | exact mS ‹_› | refine gS ‹_› ?_ | refine pS ‹_› ?_)) | exact Ne.symm (ne_fr ‹_› (by repeat (first | exact io ‹_› | exact mS ‹_› | refine gS ‹_› ?_ | refine pS ‹_› ?_)))) ?_)) (by rfl) ?_ | (refine al_i ?_; intro _ _ _ _ _) | refine and_i (rdC_of (by repeat (first | assumption | refine gG ‹_› ?_ | exact pE ‹_› | refine pG ‹_› (by first | assumption | exact Ne.symm ‹_› | exact ne_fr ‹_› (by repeat (first | exact io ‹_› | exact mS ‹_› | refine gS ‹_› ?_ | refine pS ‹_› ?_)) | exact Ne.symm (ne_fr ‹_› (by repeat (first | exact io ‹_› | exact mS ‹_› | refine gS ‹_› ?_ | refine pS ‹_› ?_)))) ?_)) (by rfl)) ?_ | refine rdA_i (by repeat (first | assumption | refine gG ‹_› ?_ | exact pE ‹_› | refine pG ‹_› (by first | assumption | exact Ne.symm ‹_› | exact ne_fr ‹_› (by repeat (first | exact io ‹_› | exact mS ‹_› | refine gS ‹_› ?_ | refine pS ‹_› ?_)) | exact Ne.symm (ne_fr ‹_› (by repeat (first | exact io ‹_› | exact mS ‹_› | refine gS ‹_› ?_ | refine pS ‹_› ?_)))) ?_)) (by rfl) ?_ | (refine st_i2 (by repeat (first | assumption | refine gG ‹_› ?_ | exact pE ‹_› | refine pG ‹_› (by first | assumption | exact Ne.symm ‹_› | exact ne_fr ‹_› (by repeat (first | exact io ‹_› | exact mS ‹_› | refine gS ‹_› ?_ | refine pS ‹_› ?_)) | exact Ne.symm (ne_fr ‹_› (by repeat (first | exact io ‹_› | exact mS ‹_› | refine gS ‹_› ?_ | refine pS ‹_› ?_)))) ?_)) (by first | exact sz_int | exact sz_string | exact sz_bool | exact sz_Inode | exact sz_Quota | exact sz_MSI | exact sz_place | exact sz_Errno) (by rfl) (by rfl) ?_; intro _ _) | refine app_P ?_ | refine app_I ?_ | refine app_S ?_ | refine app_B ?_ | refine app_M ?_ | refine app_L ?_ | refine app_U ?_ | refine app_R ?_ | (refine app_of rfl ?_; try dsimp only)))
  have mE := (hT8.get hnd).ents ed hed
  have k4 : σ8 b4 = some (.cells ⟨[.pointer (some ⟨bt, 0, none⟩)]⟩ 80 (0, 0)) := by repeat (first | assumption | refine gG ‹_› ?_ | exact pE ‹_› | refine pG ‹_› (by first | assumption | exact Ne.symm ‹_› | exact ne_fr ‹_› (by repeat (first | exact io ‹_› | exact mS ‹_› | refine gS ‹_› ?_ | refine pS ‹_› ?_)) | exact Ne.symm (ne_fr ‹_› (by repeat (first | exact io ‹_› | exact mS ‹_› | refine gS ‹_› ?_ | refine pS ‹_› ?_)))) ?_)
  refine del_i (kk := kkS) (f := valI) und_MSI und_string mE name ?_
  intro o12 σ12 p12 m12
  have hT12 := hT8.putE hO hnd hed p12 m12
  have hO12 : Own (T.set dir { nd with ents := HL.rm name nd.ents }) := hO.set hnd rfl rfl
  have n4e : b4 ≠ ed := ne_cm k4 mE
  have nte : bt ≠ ed := ne_cm hT8.cells mE
  have k4' := p12.get n4e k4
  have hc12 := hT12.cells
  unfold Tb.cells at hc12
  (repeat (first | refine ptr_i ?_ | refine rdT_of (by repeat (first | assumption | refine gG ‹_› ?_ | exact pE ‹_› | refine pG ‹_› (by first | assumption | exact Ne.symm ‹_› | exact ne_fr ‹_› (by repeat (first | exact io ‹_› | exact mS ‹_› | refine gS ‹_› ?_ | refine pS ‹_› ?_)) | exact Ne.symm (ne_fr ‹_› (by repeat (first | exact io ‹_› | exact mS ‹_› | refine gS ‹_› ?_ | refine pS ‹_› ?_)))) ?_)) (by rfl) ?_ | (refine al_i ?_; intro _ _ _ _ _) | refine and_i (rdC_of (by repeat (first | assumption | refine gG ‹_› ?_ | exact pE ‹_› | refine pG ‹_› (by first | assumption | exact Ne.symm ‹_› | exact ne_fr ‹_› (by repeat (first | exact io ‹_› | exact mS ‹_› | refine gS ‹_› ?_ | refine pS ‹_› ?_)) | exact Ne.symm (ne_fr ‹_› (by repeat (first | exact io ‹_› | exact mS ‹_› | refine gS ‹_› ?_ | refine pS ‹_› ?_)))) ?_)) (by rfl)) ?_ | refine rdA_i (by repeat (first | assumption | refine gG ‹_› ?_ | exact pE ‹_› | refine pG ‹_› (by first | assumption | exact Ne.symm ‹_› | exact ne_fr ‹_› (by repeat (first | exact io ‹_› | exact mS ‹_› | refine gS ‹_› ?_ | refine pS ‹_› ?_)) | exact Ne.symm (ne_fr ‹_› (by repeat (first | exact io ‹_› | exact mS ‹_› | refine gS ‹_› ?_ | refine pS ‹_› ?_)))) ?_)) (by rfl) ?_ | (refine st_i2 (by repeat (first | assumption | refine gG ‹_› ?_ | exact pE ‹_› | refine pG ‹_› (by first | assumption | exact Ne.symm ‹_› | exact ne_fr ‹_› (by repeat (first | exact io ‹_› | exact mS ‹_› | refine gS ‹_› ?_ | refine pS ‹_› ?_)) | exact Ne.symm (ne_fr ‹_› (by repeat (first | exact io ‹_› | exact mS ‹_› | refine gS ‹_› ?_ | refine pS ‹_› ?_)))) ?_)) (by first | exact sz_int | exact sz_string | exact sz_bool | exact sz_Inode | exact sz_Quota | exact sz_MSI | exact sz_place | exact sz_Errno) (by rfl) (by rfl) ?_; intro _ _) | refine app_P ?_ | refine app_I ?_ | refine app_S ?_ | refine app_B ?_ | refine app_M ?_ | refine app_L ?_ | refine app_U ?_ | refine app_R ?_ | (refine app_of rfl ?_; try dsimp only)))
  -- what it named, as it is now
  obtain ⟨n1, hn1, a1, a2, a3, a4⟩ : ∃ n1, (T.set dir { nd with ents := HL.rm name nd.ents }).get j = some n1 ∧ n1.blk = n0.blk ∧ n1.eb = n0.eb ∧ n1.data = n0.data ∧ n1.links = n0.links := by
    rw [get_set]
    by_cases e : j = dir
    · subst e; rw [hnd] at hn0; cases hn0; rw [if_pos rfl]; exact ⟨_, rfl, rfl, rfl, rfl, rfl⟩
    · rw [if_neg e]; exact ⟨n0, hn0, rfl, rfl, rfl, rfl⟩
  refine rdN hT12 hn1 ?_
  refine j_d ?_
  have cF := (hT12.get hn1).cells
  unfold Nd.cells at cF
  refine ptr_i ?_
  refine rd_I (rdC_of cF (by rfl)) (ptr_i ?_)
  refine st_i2 cF sz_int (by rfl) (by rfl) ?_
  intro σ13 p13
  let T12 := T.set dir { nd with ents := HL.rm name nd.ents }
  let n2 : Nd := { n1 with links := wr (n1.links - 1) }
  have hT13 : TAt σ13 bt (T12.set j n2) := hT12.putN hO12 hn1 p13 rfl rfl rfl rfl
  have hO13 : Own (T12.set j n2) := hO12.set hn1 rfl rfl
  have o13 : ∀ b, (T12.set j n2).own bt b ↔ B b := fun b => (own_set (n' := n2) hn1 rfl rfl b).trans ((own_set (n' := { nd with ents := HL.rm name nd.ents }) hnd rfl rfl b).trans (hB b))
  have habs : (T12.set j n2).abs = (T.abs.ent dir (HL.rm name)).mod j fun n => { n with links := wr (n.links - 1) } := by
    rw [abs_set]
    unfold AT.ent AT.mod
    rw [abs_get, hnd]
    simp only [Option.map_some]
    have h5 : T.abs.set dir { nd.abs with ents := HL.rm name nd.abs.ents } = T12.abs := (abs_set T dir { nd with ents := HL.rm name nd.ents }).symm
    rw [h5, abs_get, hn1]
    rfl
  have s13 : Sep σ B σ13 B := by
    intro b o hb hn
    have hn' : ¬ T.own bt b := fun h => hn ((hB b).1 h)
    have q1 : b ≠ ed := by intro e; subst e; exact ((hT.ne hn').2.2 dir nd hnd).2 hed
    have q2 : b ≠ n1.blk := by rw [a1]; exact ((hT.ne hn').2.2 j n0 hn0).1
    exact ⟨p13.get q2 (p12.get q1 (hgr.gr.get hb)), hn⟩
  have hj' : (T.abs.find dir name).getD 0 = j := by rw [abs_find, hj]; rfl
  have hg2 : (T12.set j n2).abs.get j = some n2.abs := by rw [abs_get, get_set_self]; rfl
  have n4b : b4 ≠ n1.blk := by
    intro e; rw [e, cF] at k4'; simp at k4'
  have ntb : bt ≠ n1.blk := (hT12.blk_bt hn1).symm
  refine ptr_i ?_
  refine rd_I (rdC_of p13.same (by rfl)) ?_
  by_cases hl : wr (n1.links - 1) = 0
  case neg =>
    refine br_f (by simpa [wr] using hl) ?_
    refine hK σ13 B ⟨_, hT13, hO13, ?_, o13⟩ s13
    unfold AT.unlinked
    simp only [hj']
    rw [← habs, hg2]
    have : (n2.abs.links == 0) = false := by show ((wr (n1.links - 1)) == 0) = false; simpa using hl
    simp only [this]; rfl
  refine br_t (by simpa [wr] using hl) ?_
  have k4'' := p13.get n4b k4'
  have hc13 := hT13.cells
  unfold Tb.cells at hc13
  (repeat (first | refine ptr_i ?_ | refine rdT_of (by repeat (first | assumption | refine gG ‹_› ?_ | exact pE ‹_› | refine pG ‹_› (by first | assumption | exact Ne.symm ‹_› | exact ne_fr ‹_› (by repeat (first | exact io ‹_› | exact mS ‹_› | refine gS ‹_› ?_ | refine pS ‹_› ?_)) | exact Ne.symm (ne_fr ‹_› (by repeat (first | exact io ‹_› | exact mS ‹_› | refine gS ‹_› ?_ | refine pS ‹_› ?_)))) ?_)) (by rfl) ?_ | (refine al_i ?_; intro _ _ _ _ _) | refine and_i (rdC_of (by repeat (first | assumption | refine gG ‹_› ?_ | exact pE ‹_› | refine pG ‹_› (by first | assumption | exact Ne.symm ‹_› | exact ne_fr ‹_› (by repeat (first | exact io ‹_› | exact mS ‹_› | refine gS ‹_› ?_ | refine pS ‹_› ?_)) | exact Ne.symm (ne_fr ‹_› (by repeat (first | exact io ‹_› | exact mS ‹_› | refine gS ‹_› ?_ | refine pS ‹_› ?_)))) ?_)) (by rfl)) ?_ | refine rdA_i (by repeat (first | assumption | refine gG ‹_› ?_ | exact pE ‹_› | refine pG ‹_› (by first | assumption | exact Ne.symm ‹_› | exact ne_fr ‹_› (by repeat (first | exact io ‹_› | exact mS ‹_› | refine gS ‹_› ?_ | refine pS ‹_› ?_)) | exact Ne.symm (ne_fr ‹_› (by repeat (first | exact io ‹_› | exact mS ‹_› | refine gS ‹_› ?_ | refine pS ‹_› ?_)))) ?_)) (by rfl) ?_ | (refine st_i2 (by repeat (first | assumption | refine gG ‹_› ?_ | exact pE ‹_› | refine pG ‹_› (by first | assumption | exact Ne.symm ‹_› | exact ne_fr ‹_› (by repeat (first | exact io ‹_› | exact mS ‹_› | refine gS ‹_› ?_ | refine pS ‹_› ?_)) | exact Ne.symm (ne_fr ‹_› (by repeat (first | exact io ‹_› | exact mS ‹_› | refine gS ‹_› ?_ | refine pS ‹_› ?_)))) ?_)) (by first | exact sz_int | exact sz_string | exact sz_bool | exact sz_Inode | exact sz_Quota | exact sz_MSI | exact sz_place | exact sz_Errno) (by rfl) (by rfl) ?_; intro _ _) | refine app_P ?_ | refine app_I ?_ | refine app_S ?_ | refine app_B ?_ | refine app_M ?_ | refine app_L ?_ | refine app_U ?_ | refine app_R ?_ | (refine app_of rfl ?_; try dsimp only)))
  have m13 := hT13.nodes
  refine del_i (kk := kkI) (f := Nd.ptr) und_MIN und_int m13 j ?_
  intro o14 σ14 p14 m14
  have hk13 : (keysL (T12.set j n2).nodes).Nodup := nodup_up (nodup_up (by rw [keys_abs] at hk; exact hk))
  have hT14 := hT13.putD hO13 hk13 p14 m14
  have hO14 := hO13.del hk13 j
  have n4m : b4 ≠ (T12.set j n2).mb := ne_cm k4'' m13
  have ntm : bt ≠ (T12.set j n2).mb := hT13.bt_mb
  have nbm : n1.blk ≠ (T12.set j n2).mb := ne_cm p13.same m13
  have k4' := p14.get n4m k4''
  have hc14 := hT14.cells
  unfold Tb.cells at hc14
  have cF' := p14.get nbm p13.same
  have n4t : b4 ≠ bt := by first | assumption | exact Ne.symm ‹_› | exact ne_fr ‹_› (by repeat (first | exact io ‹_› | exact mS ‹_› | refine gS ‹_› ?_ | refine pS ‹_› ?_)) | exact Ne.symm (ne_fr ‹_› (by repeat (first | exact io ‹_› | exact mS ‹_› | refine gS ‹_› ?_ | refine pS ‹_› ?_)))
  (repeat (first | refine ptr_i ?_ | refine rdT_of (by repeat (first | assumption | refine gG ‹_› ?_ | exact pE ‹_› | refine pG ‹_› (by first | assumption | exact Ne.symm ‹_› | exact ne_fr ‹_› (by repeat (first | exact io ‹_› | exact mS ‹_› | refine gS ‹_› ?_ | refine pS ‹_› ?_)) | exact Ne.symm (ne_fr ‹_› (by repeat (first | exact io ‹_› | exact mS ‹_› | refine gS ‹_› ?_ | refine pS ‹_› ?_)))) ?_)) (by rfl) ?_ | (refine al_i ?_; intro _ _ _ _ _) | refine and_i (rdC_of (by repeat (first | assumption | refine gG ‹_› ?_ | exact pE ‹_› | refine pG ‹_› (by first | assumption | exact Ne.symm ‹_› | exact ne_fr ‹_› (by repeat (first | exact io ‹_› | exact mS ‹_› | refine gS ‹_› ?_ | refine pS ‹_› ?_)) | exact Ne.symm (ne_fr ‹_› (by repeat (first | exact io ‹_› | exact mS ‹_› | refine gS ‹_› ?_ | refine pS ‹_› ?_)))) ?_)) (by rfl)) ?_ | refine rdA_i (by repeat (first | assumption | refine gG ‹_› ?_ | exact pE ‹_› | refine pG ‹_› (by first | assumption | exact Ne.symm ‹_› | exact ne_fr ‹_› (by repeat (first | exact io ‹_› | exact mS ‹_› | refine gS ‹_› ?_ | refine pS ‹_› ?_)) | exact Ne.symm (ne_fr ‹_› (by repeat (first | exact io ‹_› | exact mS ‹_› | refine gS ‹_› ?_ | refine pS ‹_› ?_)))) ?_)) (by rfl) ?_ | (refine st_i2 (by repeat (first | assumption | refine gG ‹_› ?_ | exact pE ‹_› | refine pG ‹_› (by first | assumption | exact Ne.symm ‹_› | exact ne_fr ‹_› (by repeat (first | exact io ‹_› | exact mS ‹_› | refine gS ‹_› ?_ | refine pS ‹_› ?_)) | exact Ne.symm (ne_fr ‹_› (by repeat (first | exact io ‹_› | exact mS ‹_› | refine gS ‹_› ?_ | refine pS ‹_› ?_)))) ?_)) (by first | exact sz_int | exact sz_string | exact sz_bool | exact sz_Inode | exact sz_Quota | exact sz_MSI | exact sz_place | exact sz_Errno) (by rfl) (by rfl) ?_; intro _ _) | refine app_P ?_ | refine app_I ?_ | refine app_S ?_ | refine app_B ?_ | refine app_M ?_ | refine app_L ?_ | refine app_U ?_ | refine app_R ?_ | (refine app_of rfl ?_; try dsimp only)))
  rename_i σ15 p15 σ16 p16
  have hT15 := hT14.putT (T' := { (T12.set j n2).del j with ui := wr (T.ui - 1) }) p15 rfl rfl
  have hT16 := hT15.putT (T' := { (T12.set j n2).del j with ui := wr (T.ui - 1), ub := wr (T.ub - n1.data.size) }) p16 rfl rfl
  refine hK σ16 (Tb.own bt { (T12.set j n2).del j with ui := wr (T.ui - 1), ub := wr (T.ub - n1.data.size) }) ⟨_, hT16, hO14.same rfl rfl, ?_, fun _ => Iff.rfl⟩ ?_
  · unfold AT.unlinked
    simp only [hj']
    rw [← habs, hg2]
    have : (n2.abs.links == 0) = true := by show ((wr (n1.links - 1)) == 0) = true; simpa using hl
    simp only [this]
    have h5 := abs_del (T12.set j n2) j
    show ({ ((T12.set j n2).del j).abs with ui := wr (T.ui - 1), ub := wr (T.ub - n1.data.size) } : AT) = _
    rw [h5]; rfl
  · intro b o hb hn
    have hn' : ¬ T.own bt b := fun h => hn ((hB b).1 h)
    refine ⟨p16.get (hT.ne hn').1 (p15.get (hT.ne hn').1 (p14.get (hT.ne hn').2.1 (s13 b o hb hn).1)), ?_⟩
    intro h
    have h1 := (own_same (T := (T12.set j n2).del j) rfl rfl b).1 h
    exact hn ((o13 b).1 (own_del hk13 h1))
end Go.Proofs.YtlpcehbfoogejaaGreatDoor

