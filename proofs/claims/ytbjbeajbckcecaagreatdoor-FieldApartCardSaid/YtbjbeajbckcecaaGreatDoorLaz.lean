/- A part of the proof: FieldApart holds. -/
import Derived.Test.YtbjbeajbckcecaaGreatDoorLay
set_option maxRecDepth 100000
namespace Go.Proofs.YtbjbeajbckcecaaGreatDoor
open Go Go.HL Go.Wk
theorem go_NE : isGo Tryz.prog 202 = false := by kernel_rfl
theorem fn_NE : (Tryz.prog.funcs[202]?).map (fun fn => ((fn.name == "runtime.NumGoroutine"), fn.body.isNone)) = some (false, true) := by kernel_rfl
theorem ex_NE : (Tryz.prog.funcs[202]?).bind (fun fn => Extern.find fn) = some Extern.AbiNoEscape.same := by kernel_rfl
theorem en_NE : (Tryz.prog.funcs[202]?).map (fun fn => (Extern.findNext fn).isNone) = some true := by kernel_rfl
theorem x_ext {f : FuncId} {e : Array Value -> Sem Value} {args : List Value} {t : TK} {F : t.Fn (H -> Prop)} {σ : H} (hg : isGo Tryz.prog f = false) (h1 : (Tryz.prog.funcs[f]?).map (fun fn => ((fn.name == "runtime.NumGoroutine"), fn.body.isNone)) = some (false, true))
    (h2 : (Tryz.prog.funcs[f]?).bind (fun fn => Extern.find fn) = some e) (h3 : (Tryz.prog.funcs[f]?).map (fun fn => (Extern.findNext fn).isNone) = some true)
    (h : ∀ w, σ.le w -> ∃ v w' σ', (e ⟨args⟩).run Tryz.prog w = .ok v w' /\ Ext σ w σ' w' /\ app t F v σ') : cvalT Tryz.prog (.func (.func f) ⟨[]⟩ ⟨[]⟩) args t F σ := by
  unfold cvalT callVW
  simp only [hg]
  intro w hw
  obtain ⟨v, w', σ', hr, hx, ha⟩ := h w hw
  cases hf : Tryz.prog.funcs[f]? with
  | none => rw [hf] at h1; cases h1
  | some fn =>
    rw [hf] at h1 h2 h3
    simp only [Option.map_some, Option.some.injEq, Prod.mk.injEq, Option.bind_some] at h1 h2 h3
    have hc := run_callFunc_standIn hf h1.1 h1.2 (Option.isNone_iff_eq_none.1 h3) h2 ⟨args⟩ w
    have : (callS (.func (.func f) ⟨[]⟩ ⟨[]⟩) args).run Tryz.prog w = .ok (.value v) w' := by
      simp [callS, Deferred.ofValue, invoke, hc, hr]
    rw [this]
    exact ⟨σ', hx, ha⟩
theorem x_NoEsc {v : Value} {F : Value -> H -> Prop} {σ : H} (hF : F v σ) : cvalT Tryz.prog (.func (.func 202) ⟨[]⟩ ⟨[]⟩) [v] kR F σ :=
  x_ext go_NE fn_NE ex_NE en_NE fun w hw => ⟨v, w, σ, Lib.run_noEscape w v, Ext.refl hw, app_R hF⟩
theorem go_MZ : isGo Tryz.prog 219 = false := by kernel_rfl
theorem fn_MZ : (Tryz.prog.funcs[219]?).map (fun fn => ((fn.name == "runtime.NumGoroutine"), fn.body.isNone)) = some (false, true) := by kernel_rfl
theorem ex_MZ : (Tryz.prog.funcs[219]?).bind (fun fn => Extern.find fn) = some (Extern.BytealgMakeNoZero.makeNoZero #[3] #[56]) := by kernel_rfl
theorem en_MZ : (Tryz.prog.funcs[219]?).map (fun fn => (Extern.findNext fn).isNone) = some true := by kernel_rfl
theorem und_bytes : Tryz.prog.underlying 56 = some (.slice 5) := by kernel_rfl
theorem und_str : Tryz.prog.underlying 9 = some .string := by kernel_rfl
theorem und_Pu8 : Tryz.prog.underlying 197 = some (.pointer 5) := by kernel_rfl
theorem und_PBu : Tryz.prog.underlying 119 = some (.pointer 121) := by kernel_rfl
theorem und_up : Tryz.prog.underlying 242 = some .unsafePointer := by kernel_rfl
theorem cells_u8 : Tryz.prog.cellsOf 5 = 1 := by kernel_rfl
theorem info_u8 : ∃ i, Tryz.prog.info? 5 = some i /\ i.zero = some (.int .u8 0) /\ i.size = 1 /\ i.bytes = 1 := by
  have h1 : (Tryz.prog.info? 5).map (fun i => (i.zero, i.size, i.bytes)) = some (some (.int .u8 0), 1, 1) := by kernel_rfl
  cases hi : Tryz.prog.info? 5 with
  | none => rw [hi] at h1; cases h1
  | some i =>
    rw [hi] at h1
    simp only [Option.map_some, Option.some.injEq, Prod.mk.injEq] at h1
    exact ⟨i, rfl, h1.1, h1.2.1, h1.2.2⟩
theorem info_Bu : ∃ i, Tryz.prog.info? 121 = some i /\ i.size ≠ 0 := by
  have h1 : (Tryz.prog.info? 121).map (·.size) = some 2 := by kernel_rfl
  cases hi : Tryz.prog.info? 121 with
  | none => rw [hi] at h1; cases h1
  | some i =>
    rw [hi] at h1
    simp only [Option.map_some, Option.some.injEq] at h1
    exact ⟨i, rfl, by omega⟩
theorem lies_Bu : liesAt Tryz.prog Tryz.prog.depth 121 (2 / Tryz.prog.cellsOf 121) 0 121 1 = true := by kernel_rfl
theorem szb_bytes : sizeT Tryz.prog 56 = some 1 := by kernel_rfl
theorem szb_PBu : sizeT Tryz.prog 119 = some 1 := by kernel_rfl
theorem x_MZ {n : Nat} (hn : n <= 281474976710656) {F : Sl -> H -> Prop} {σ : H} (hF : ∀ g cur σ', σ g = none -> σ' g = some (.cells ⟨cur⟩ 5 (0, 0)) -> Gr σ σ' -> n <= cur.length -> F ⟨some ⟨g, 0, none⟩, n, cur.length⟩ σ') : cvalT Tryz.prog (.func (.func 219) ⟨[]⟩ ⟨[]⟩) [.int .i64 (n : Int)] kL F σ := by
  refine x_ext go_MZ fn_MZ ex_MZ en_MZ fun w hw => ?_
  obtain ⟨⟨cs⟩, hr, h1, _⟩ := Lib.run_makeNoZero (P := Tryz.prog) w #[3] 56 5 und_bytes n hn
  obtain ⟨hn', he⟩ := Ext.alloc (σ := σ) (w := w.drew.drew) hw (.cells ⟨cs⟩ 5 (0, 0))
  exact ⟨_, _, _, hr, ⟨he.le, he.size, he.keep, he.own, he.os, he.tape, he.output⟩, app_L (hF w.heap.size cs _ hn' (H.put_same _ _ _) (Gr.put hn' _) h1)⟩
def BuAt (σ : H) (b : Nat) (l : List UInt8) (D : Nat -> Prop) : Prop := ∃ (p : Option Addr) (x : Sl), σ b = some (.cells ⟨[.pointer p, .slice x.base x.len x.cap]⟩ 121 (0, 0)) /\ (p = none \/ p = some ⟨b, 0, none⟩) /\ RowsOwn σ 5 1 (brows l) x /\ (∀ g, x.base = some ⟨g, 0, none⟩ -> g ≠ b) /\ (x.base ≠ none -> x.cap ≠ 0) /\ ∀ c, D c ↔ (c = b \/ x.base = some ⟨c, 0, none⟩)
theorem BuAt.gr {σ σ' : H} {b : Nat} {l : List UInt8} {D : Nat -> Prop} (h : BuAt σ b l D) (hg : Gr σ σ') : BuAt σ' b l D := by
  obtain ⟨p, x, h1, h2, h3, h4⟩ := h
  exact ⟨p, x, hg.get h1, h2, h3.gr hg, h4⟩
theorem BuAt.has {σ : H} {b : Nat} {l : List UInt8} {D : Nat -> Prop} (h : BuAt σ b l D) {c : Nat} (hc : D c) : σ c ≠ none := by
  obtain ⟨p, x, h1, h2, h3, h4, h5, h6⟩ := h
  rcases (h6 c).1 hc with rfl | e
  · rw [h1]; simp
  · exact h3.has e
theorem BuAt.put {σ σ' : H} {b c : Nat} {o : Obj} {l : List UInt8} {D : Nat -> Prop} (h : BuAt σ b l D) (hp : Put σ c o σ') (hc : ¬ D c) : BuAt σ' b l D := by
  obtain ⟨p, x, h1, h2, h3, h4, h5, h6⟩ := h
  exact ⟨p, x, hp.get (fun e => hc ((h6 c).2 (.inl e.symm))) h1, h2, h3.put hp (fun e => hc ((h6 c).2 (.inr e))), h4, h5, h6⟩
theorem BuAt.new {σ : H} {b : Nat} (h : σ b = some (.cells ⟨[.pointer none, .slice none 0 0]⟩ 121 (0, 0))) : BuAt σ b [] (fun c => c = b) :=
  ⟨none, ⟨none, 0, 0⟩, h, .inl rfl, RowsOwn.nil _ _ _, (fun g h => by cases h), (fun h => absurd rfl h), fun c => ⟨fun h => .inl h, fun h => h.resolve_right (by intro e; cases e)⟩⟩
attribute [local irreducible] ptrW ifW brW andW rdT alW letJ stW muW biW vaW imW callT cvalT app callW invW callVW sizeT oW nilF oneK loopW rfW funW begW roundK exW idxW Gr Put
section
variable {σ : H} {b : Nat} {l : List UInt8} {D : Nat -> Prop}
theorem s_BuCheck (h : BuAt σ b l D) {K : KH} (hK : ∀ σ', BuAt σ' b l D -> Sep σ D σ' D -> K (.tuple ⟨[]⟩) σ') : callW Tryz.prog 144 [.pointer (some ⟨b, 0, none⟩)] K σ := by
  obtain ⟨p, x, h1, h2, h3, h4, h5, h6⟩ := id h
  obtain ⟨i, hi, hi0⟩ := info_Bu
  refine c144 _ ?_
  unfold g144
  refine ptr_i (rd_P (rdC_of h1 (by rfl)) ?_)
  rcases h2 with rfl | rfl
  · refine br_t rfl ?_
    refine toUp_i und_PBu und_up hi hi0 h1 (by simp) ?_
    refine x_NoEsc (fromUp_i und_up und_PBu hi h1 lies_Bu (ptr_i ?_))
    refine st_i2 h1 szb_PBu (by rfl) (by rfl) ?_; intro σ' hp
    refine hK σ' ⟨some ⟨b, 0, none⟩, x, hp.same, .inr rfl, h3.put hp (fun e => h4 b e rfl), h4, h5, h6⟩ ?_
    intro c o hc hn
    exact ⟨hp.get (fun e => hn ((h6 c).2 (.inl e))) hc, hn⟩
  · refine br_f rfl (ptr_i (rd_P (rdC_of h1 (by rfl)) ?_))
    exact neqp_i und_PBu hi (br_f rfl (hK σ h (Sep.refl _ _)))
theorem key_BuWr (hb : BuAt σ b l D) {p : Option Addr} {x x' : Sl} {l' : List UInt8} {τ : H} (h1 : σ b = some (.cells ⟨[.pointer p, .slice x.base x.len x.cap]⟩ 121 (0, 0))) (h2 : p = none \/ p = some ⟨b, 0, none⟩) (h4 : ∀ g, x.base = some ⟨g, 0, none⟩ -> g ≠ b) (h5 : x.base ≠ none -> x.cap ≠ 0) (h6 : ∀ c, D c ↔ (c = b \/ x.base = some ⟨c, 0, none⟩))
    (hx' : RowsOwn τ 5 1 (brows l') x') (hcap : (x.base ≠ none -> x.cap ≠ 0) -> (x'.base ≠ none -> x'.cap ≠ 0)) (hcase : (∃ g o, x.base = some ⟨g, 0, none⟩ /\ x'.base = x.base /\ Put σ g o τ) \/ (((∃ g, x'.base = some ⟨g, 0, none⟩ /\ σ g = none) \/ x'.base = none) /\ Gr σ τ))
    {F : H -> Prop} (hK : ∀ σ' D', BuAt σ' b l' D' -> Sep σ D σ' D' -> F σ') : stW Tryz.prog 56 (.pointer (some ⟨b, 0 + 1, none⟩)) (.slice x'.base x'.len x'.cap) F τ := by
  have hbb : D b := (h6 b).2 (.inl rfl)
  have h1' : τ b = some (.cells ⟨[.pointer p, .slice x.base x.len x.cap]⟩ 121 (0, 0)) := by
    rcases hcase with ⟨g, o, z1, _, hp⟩ | ⟨_, hg⟩
    · exact hp.get (Ne.symm (h4 g z1)) h1
    · exact hg.get h1
  have n4 : ∀ g, x'.base = some ⟨g, 0, none⟩ -> g ≠ b := by
    intro g' e
    rcases hcase with ⟨g, o, z1, z2, hp⟩ | ⟨⟨g, y1, y2⟩ | y, hg⟩
    · exact h4 g' (by rw [<- z2]; exact e)
    · rw [y1] at e
      have : g = g' := by injection e with e; injection e
      subst this
      intro e2
      rw [e2, h1] at y2; cases y2
    · rw [y] at e; cases e
  have S2 : ∀ c o, σ c = some o -> ¬ D c -> τ c = some o /\ x'.base ≠ some ⟨c, 0, none⟩ := by
    intro c o hc hn
    rcases hcase with ⟨g, o', z1, z2, hp⟩ | ⟨z, hg⟩
    · have hcg : c ≠ g := fun e => hn ((h6 c).2 (.inr (by rw [e]; exact z1)))
      exact ⟨hp.get hcg hc, fun e => hn ((h6 c).2 (.inr (by rw [<- z2]; exact e)))⟩
    · refine ⟨hg.get hc, fun e => ?_⟩
      rcases z with ⟨g, y1, y2⟩ | y
      · rw [y1] at e
        have : g = c := by injection e with e; injection e
        subst this
        rw [hc] at y2; cases y2
      · rw [y] at e; cases e
  refine st_i2 h1' szb_bytes (by rfl) (by rfl) ?_; intro σ3 p3
  refine hK σ3 (fun c => c = b \/ x'.base = some ⟨c, 0, none⟩) ⟨p, x', p3.same, h2, hx'.put p3 (fun e => n4 b e rfl), n4, hcap h5, fun c => Iff.rfl⟩ ?_
  intro c o hc hn
  obtain ⟨q1, q2⟩ := S2 c o hc hn
  have hcb : c ≠ b := fun e => hn ((h6 c).2 (.inl e))
  exact ⟨p3.get hcb q1, fun hd => hd.elim hcb q2⟩
theorem s_BuWrS (h : BuAt σ b l D) (s : ByteArray) (hl : l.length + s.size <= 100000000000) {K : KH} (hK : ∀ σ' D', BuAt σ' b (l ++ s.data.toList) D' -> Sep σ D σ' D' -> K (.tuple ⟨[.int .i64 ((s.size : Nat) : Int), .nilIface]⟩) σ') : callW Tryz.prog 80 [.pointer (some ⟨b, 0, none⟩), .string s] K σ := by
  refine c80 _ _ ?_
  unfold g80
  refine call_i (s_BuCheck h ?_)
  intro σ1 hb1 S1
  refine app_U ?_
  obtain ⟨p, x, h1, h2, h3, h4, h5, h6⟩ := id hb1
  refine ptr_i (rd_L (rdC_of h1 (by rfl)) ?_)
  obtain ⟨i, i1, i2, i3, i4⟩ := info_u8
  refine app_str_i und_bytes und_str i1 i2 i3 i4 h3 hl ?_
  intro x' σ2 hx' hcap hcase
  refine ptr_i ?_
  exact key_BuWr hb1 h1 h2 h4 h5 h6 hx' hcap hcase fun σ' D' B S => hK σ' D' B (S1.trans S)
theorem s_BuStr (h : BuAt σ b l D) (hl : l.length <= 100000000000) {K : KH} (hK : ∀ σ', (∀ c o, σ c = some o -> ¬ D c -> σ' c = some o) -> K (.string ⟨⟨l⟩⟩) σ') : callW Tryz.prog 81 [.pointer (some ⟨b, 0, none⟩)] K σ := by
  refine c81 _ ?_
  unfold g81
  obtain ⟨p, x, h1, h2, h3, h4, h5, h6⟩ := id h
  refine ptr_i (rd_L (rdC_of h1 (by rfl)) (ptr_i (rd_L (rdC_of h1 (by rfl)) ?_)))
  refine sdata_i h5 (and_i (rdC_of h1 (by rfl)) ?_)
  refine ustr_i und_Pu8 cells_u8 h3 (by omega) ?_ ?_
  · intro e; rw [e] at hK; exact hK σ (fun c o hc _ => hc)
  · intro g cur o σ' e hg hp
    refine hK σ' fun c o' hc hn => hp.get (fun e2 => hn ((h6 c).2 (.inr (by rw [e2]; exact e)))) hc
theorem s_Bugrow (hb : σ b = some (.cells ⟨[.pointer none, .slice none 0 0]⟩ 121 (0, 0))) {p : Option Addr} {n : Nat} (hn : n <= 100000000000) (h0 : n ≠ 0) {τ : H} (h1 : τ b = some (.cells ⟨[.pointer p, .slice none 0 0]⟩ 121 (0, 0))) (h2 : p = none \/ p = some ⟨b, 0, none⟩) {K : KH} (hK : ∀ σ' D', BuAt σ' b [] D' -> Sep τ (fun c => c = b) σ' D' -> K (.tuple ⟨[]⟩) σ') : callW Tryz.prog 169 [.pointer (some ⟨b, 0, none⟩), .int .i64 (n : Int)] K τ := by
  refine c169 _ _ ?_
  unfold g169
  refine ptr_i (rd_L (rdC_of h1 (by rfl)) (ptr_i (rd_L (rdC_of h1 (by rfl)) ?_)))
  have e : IntKind.i64.wrap (IntKind.i64.wrap (2 * (((0 : Nat) : Nat) : Int)) + (n : Int)) = (n : Int) := by
    rw [show (2 * (((0 : Nat) : Nat) : Int)) = 0 from rfl, wrap_id (x := 0) (by omega) (by omega), wrap_id (by omega) (by omega)]; omega
  show cvalT _ _ [.int .i64 (IntKind.i64.wrap (IntKind.i64.wrap (2 * (((0 : Nat) : Nat) : Int)) + (n : Int)))] _ _ _
  rw [e]
  refine x_MZ (by omega) ?_
  intro g cur σ1 hn1 hg1 hgr hlen
  have h1' := hgr.get h1
  refine and_i (rdC_of h1' (by rfl)) (if_i ⟨bnd_some (by simp) (by simp), bnd_none⟩ ?_)
  refine ptr_i (rd_L (rdC_of h1' (by rfl)) ?_)
  refine copy0_i und_bytes (by kernel_rfl) ?_
  refine ptr_i ?_
  have hgb : g ≠ b := by intro e; rw [e, h1] at hn1; cases hn1
  refine st_i2 h1' szb_bytes (by rfl) (by rfl) ?_; intro σ3 p3
  have hbase : slBase (some ⟨g, 0, none⟩) 0 cur.length 1 = some ⟨g, 0, none⟩ := by unfold slBase; split <;> rfl
  refine hK σ3 (fun c => c = b \/ c = g) ⟨p, ⟨some ⟨g, 0, none⟩, 0, cur.length⟩, ?_, h2, ?_, ?_, ?_, ?_⟩ ?_
  · have := p3.same
    simp only [hbase] at this
    exact this
  · exact ⟨rfl, by simp [brows], .inr ⟨g, cur, rfl, p3.get hgb hg1, by simp, Nat.zero_le _, by simp [brows]⟩⟩
  · intro g' e
    have : g = g' := by injection e with e; injection e
    rw [<- this]; exact hgb
  · intro _ ; show cur.length ≠ 0; omega
  · intro c
    constructor
    · rintro (h | h)
      · exact .inl h
      · exact .inr (by rw [h])
    · rintro (h | h)
      · exact .inl h
      · exact .inr (by injection h with e; injection e with e; exact e.symm)
  · intro c o hc hn
    refine ⟨p3.get hn (hgr.get hc), fun hd => hd.elim hn ?_⟩
    intro e; rw [e, hn1] at hc; cases hc
theorem s_BuGrow (hb : σ b = some (.cells ⟨[.pointer none, .slice none 0 0]⟩ 121 (0, 0))) {n : Nat} (hn : n <= 100000000000) {K : KH} (hK : ∀ σ' D', BuAt σ' b [] D' -> Sep σ (fun c => c = b) σ' D' -> K (.tuple ⟨[]⟩) σ') : callW Tryz.prog 97 [.pointer (some ⟨b, 0, none⟩), .int .i64 (n : Int)] K σ := by
  refine c97 _ _ ?_
  unfold g97
  refine call_i (s_BuCheck (BuAt.new hb) ?_)
  intro σ1 hb1 S1
  refine app_U (br_f (by simp only [decide_eq_false_iff_not]; omega) ?_)
  obtain ⟨p, x, h1, h2, h3, h4, h5, h6⟩ := id hb1
  have hx : x = ⟨none, 0, 0⟩ := by
    obtain ⟨q1, _, ⟨q3, q4, _⟩ | ⟨g, cur, q3, _⟩⟩ := h3
    · cases x; simp only at q1 q3 q4; simp [brows] at q1; subst q1; subst q3; subst q4; rfl
    · exact absurd ((h6 g).2 (.inr q3)) (h4 g q3)
  subst hx
  refine ptr_i (rd_L (rdC_of h1 (by rfl)) (ptr_i (rd_L (rdC_of h1 (by rfl)) ?_)))
  show brW (decide (IntKind.i64.wrap ((((0 : Nat) : Nat) : Int) - (((0 : Nat) : Nat) : Int)) < (n : Int))) _ _ _
  rw [show IntKind.i64.wrap ((((0 : Nat) : Nat) : Int) - (((0 : Nat) : Nat) : Int)) = 0 from by decide]
  by_cases h0 : n = 0
  · refine br_f (by simp only [decide_eq_false_iff_not]; omega) (hK σ1 _ hb1 S1)
  · refine br_t (by simp only [decide_eq_true_eq]; omega) (call_i (s_Bugrow hb hn h0 h1 h2 ?_))
    intro σ' D' B S
    exact app_U (hK σ' D' B (S1.trans S))
end
end Go.Proofs.YtbjbeajbckcecaaGreatDoor

set_option maxRecDepth 100000
namespace Go.Proofs.YtbjbeajbckcecaaGreatDoor
open Go Go.HL Go.Wk
attribute [local irreducible] ptrW ifW brW andW rdT alW letJ stW muW biW vaW imW callT cvalT app callW invW callVW sizeT oW nilF oneK loopW rfW funW begW roundK exW idxW Gr Put
theorem go_gMagic1 : isGo Tryz.prog 132 = true := by kernel_rfl
theorem pc_at {σ : H} {l : List Pc} {x : Sl} (h : PcsAt σ l x) {i : Nat} {p : Pc} (hi : l[i]? = some p) : ∃ g o v, x.base = some ⟨g, o, none⟩ /\ i < x.len /\ rdA 3 g (o + i * 3) σ = some (.agg ⟨pcRow p v⟩) /\ rdC g (o + i * 3) σ = some (.bool p.isStar) /\ rdC g (o + i * 3 + 1) σ = some v /\ PcFn σ p v := by
  have hl := h.len
  obtain ⟨rows, h1, h2⟩ := h
  obtain ⟨v, h3, h4⟩ := h2.2 i p hi
  obtain ⟨g, o, a1, a2, a3⟩ := h1.rdA h3 (by decide)
  refine ⟨g, o, v, a1, ?_, a2, by simpa using a3 0 _ rfl, a3 1 _ rfl, h4⟩
  rw [hl]
  rcases Nat.lt_or_ge i l.length with h | h
  · exact h
  · rw [List.getElem?_eq_none h] at hi; cases hi
theorem piecesF_len : ∀ (f : Nat) (l : List Ch), (piecesF f l).length <= l.length := by
  intro f
  induction f with
  | zero => intro l; exact Nat.zero_le _
  | succ f ih =>
    intro l
    cases l with
    | nil => exact Nat.zero_le _
    | cons c r =>
      rw [piecesF]
      cases hs : setP (c :: r) with
      | none => have := ih r; simp only [List.length_cons]; omega
      | some q =>
        obtain ⟨nt, ins, n⟩ := q
        obtain ⟨h1, h2⟩ := setP_len hs
        have := ih ((c :: r).drop n)
        rw [List.length_drop] at this
        simp only [List.length_cons] at *
        omega
theorem pieces_len (p : List Rn) : (piecesP p).length <= (charsR p).length := piecesF_len _ _
theorem s_gMagic {p : List Rn} {x : Sl} {σ : H} (hx : RowsAt σ 3 (rnRows p) x) (hp : p.length <= 1000000) (hn : (charsR p).length <= 1000000) {K : KH} (hK : K (.bool (magicP p)) σ) : callW Tryz.prog 65 [.slice x.base x.len x.cap] K σ := by
  refine pure_i _ hK (c65 _ ?_)
  clear hK
  unfold g65
  refine call_i (s_gPieces hx hp hn ?_)
  intro y τ hg hy
  refine app_L (call_i (c130 _ _ ?_))
  unfold g130
  refine call_i (c186 _ _ ?_)
  unfold g186
  unfold magicP
  have hpl := pieces_len p
  generalize piecesP p = l at hy hpl ⊢
  have hl := hy.len
  refine loop_i ?_
  intro R hR
  have key : ∀ (c i : Nat), c + i = l.length -> (l.take i).any Pc.odd = false -> R y (.func (.func 132) ⟨[]⟩ ⟨[]⟩) ((y.len : Nat) : Int) (i : Int) τ := by
    intro c
    induction c with
    | zero =>
      intro i hc hno
      refine hR _ _ _ _ _ ?_
      refine br_f (by simp only [decide_eq_false_iff_not]; omega) (app_I (app_B ⟨?_, hg⟩))
      rw [List.take_of_length_le (by omega)] at hno
      rw [hno]; rfl
    | succ c ih =>
      intro i hc hno
      obtain ⟨q, hq⟩ : ∃ q, l[i]? = some q := ⟨_, List.getElem?_eq_getElem (by omega)⟩
      obtain ⟨g, o, v, a1, a2, a3, _, _, _⟩ := pc_at hy hq
      refine hR _ _ _ _ _ ?_
      refine br_t (by simp only [decide_eq_true_eq]; omega) ?_
      rw [a1]
      refine ptr_i (if_i ⟨by omega, by show _ < ((y.len : Nat) : Int); omega⟩ (rd_G (by rw [Int.toNat_natCast]; exact a3) ?_))
      unfold pcRow
      (refine app_of rfl ?_; try dsimp only)
      refine cval_i go_gMagic1 (callW.pure (v := .bool q.odd) (c132 _ _ _ ?_) (app_B ?_))
      · unfold g132
        refine al_i ?_; intro b4 τ1 q1 e1 n1
        exact rd_B (rdC_of e1 (by rfl)) ⟨rfl, q1⟩
      cases ho : q.odd with
      | true =>
        refine br_t rfl (app_I (app_B ⟨?_, hg⟩))
        have : l.any Pc.odd = true := List.any_eq_true.2 ⟨q, List.mem_of_getElem? hq, ho⟩
        rw [this]; simp
      | false =>
        refine br_f rfl ?_
        rw [wrapS (i := i) (by omega)]
        refine ih (i + 1) (by omega) ?_
        rw [List.take_add_one, hq, List.any_append, hno]; simp [ho]
  exact key l.length 0 (by omega) rfl
theorem starsN_le (l : List Pc) : starsN l <= l.length := by
  induction l with
  | nil => exact Nat.le_refl _
  | cons p r ih => unfold starsN; split <;> simp <;> omega
theorem starsN_cons (p : Pc) (r : List Pc) : starsN (p :: r) = if p.isStar then starsN r + 1 else 0 := rfl
theorem starsN_pos {l : List Pc} {a : Nat} (h : 0 < starsN (l.drop a)) : ∃ p, l[a]? = some p /\ p.isStar = true /\ starsN (l.drop a) = starsN (l.drop (a + 1)) + 1 := by
  cases hp : l[a]? with
  | none =>
    have : l.drop a = [] := List.drop_eq_nil_of_le (List.getElem?_eq_none_iff.1 hp)
    rw [this] at h; cases h
  | some p =>
    rw [drop_cons hp, starsN_cons] at h ⊢
    cases hs : p.isStar with
    | true => exact ⟨p, rfl, hs, by rw [if_pos rfl]⟩
    | false => rw [hs] at h; cases h
theorem starsN_zero {l : List Pc} {a : Nat} (h : starsN (l.drop a) = 0) : ∀ p, l[a]? = some p -> p.isStar = false := by
  intro p hp
  rw [drop_cons hp, starsN_cons] at h
  cases hs : p.isStar with
  | false => rfl
  | true => rw [hs] at h; simp at h
theorem not_star {σ : H} {p : Pc} {v : Value} (h : PcFn σ p v) (hs : p.isStar = false) : ∀ (σ' : H) (b : UInt8) (K : KH), Gr σ σ' -> K (.bool (p.f b)) σ' -> callVW Tryz.prog v [.int .u8 ((b.toNat : Nat) : Int)] K σ' := by
  rcases h with ⟨rfl, _⟩ | ⟨_, h⟩
  · cases hs
  · exact h
theorem s_gMatch {p : List Rn} {x : Sl} {σ : H} (hx : RowsAt σ 3 (rnRows p) x) (hp : p.length <= 1000000) (hn : (charsR p).length <= 1000000) (s : ByteArray) (hs : s.size <= 1000000) {K : KH} (hK : K (.bool (matchP (piecesP p) s.data.toList)) σ) : callW Tryz.prog 197 [.slice x.base x.len x.cap, .string s] K σ := by
  refine pure_i _ hK (c197 _ _ ?_)
  clear hK
  unfold g197
  refine call_i (s_gPieces hx hp hn ?_)
  intro y τ hg hy
  refine app_L ?_
  have hpl := pieces_len p
  generalize piecesP p = l at hy hpl ⊢
  have hl := hy.len
  have hsl : s.data.toList.length = s.size := (size_list s).symm
  generalize hres : matchP l s.data.toList = res
  have hfin : ∀ b : Bool, b = res -> (fun u σ' => u = Value.bool res /\ Gr σ σ') (.bool b) τ := fun b hb => ⟨by rw [hb], hg⟩
  refine j_i (fun j => ∀ (a i : Nat), a <= l.length -> i <= s.size -> ((i == s.size) && (a + starsN (l.drop a) == l.length)) = res -> j s y (a : Int) (i : Int) τ) ?_ ?_
  · intro a i ha hi he
    refine loop_i ?_
    intro R hR
    have key : ∀ (c b : Nat), b <= l.length -> starsN (l.drop b) = c -> b + c = a + starsN (l.drop a) -> R s y (b : Int) (i : Int) τ := by
      intro c
      induction c with
      | zero =>
        intro b hb hc hbc
        refine hR _ _ _ _ _ ?_
        refine j_i (fun j => ∀ v1 v2 v3 v4 v5, j s y (b : Int) (i : Int) v1 v2 v3 v4 v5 false τ) ?_ ?_
        · intro v1 v2 v3 v4 v5
          refine br_f rfl ?_
          by_cases h1 : i = s.size
          · refine br_t (by simp [h1]) (hfin _ ?_)
            rw [<- he, hl]
            simp only [h1, beq_self_eq_true, Bool.true_and]
            by_cases h2 : b = l.length
            · have : a + starsN (l.drop a) = l.length := by omega
              simp [h2, this]
            · have : ¬ a + starsN (l.drop a) = l.length := by omega
              have h3 : ¬ (b : Int) = ((l.length : Nat) : Int) := by omega
              have h4 : ((b : Int) == ((l.length : Nat) : Int)) = false := by simpa using h3
              rw [h4]; simp [this]
          · refine br_f ?_ (hfin _ ?_)
            · have : ¬ (i : Int) = ((s.size : Nat) : Int) := by omega
              simpa using this
            · rw [<- he]; simp [h1]
        · intro j hj
          by_cases hlt : b < l.length
          · obtain ⟨q, hq⟩ : ∃ q, l[b]? = some q := ⟨_, List.getElem?_eq_getElem hlt⟩
            obtain ⟨g, o, v, a1, a2, _, a4, _, _⟩ := pc_at hy hq
            rw [starsN_zero hc q hq] at a4
            refine br_t (by simp only [decide_eq_true_eq]; omega) ?_
            have ea1 := a1
            rw [a1]
            refine ptr_i (if_i ⟨by omega, by show _ < ((y.len : Nat) : Int); omega⟩ (rd_B (by rw [Int.toNat_natCast]; exact a4) ?_))
            rw [<- ea1]; exact hj _ _ _ _ _
          · exact br_f (by simp only [decide_eq_false_iff_not]; omega) (hj _ _ _ _ _)
      | succ c ih =>
        intro b hb hc hbc
        obtain ⟨q, hq, hst, hsn⟩ := starsN_pos (l := l) (a := b) (by omega)
        have hlt : b < l.length := by
          rcases Nat.lt_or_ge b l.length with h | h
          · exact h
          · rw [List.getElem?_eq_none h] at hq; cases hq
        obtain ⟨g, o, v, a1, a2, _, a4, _, _⟩ := pc_at hy hq
        rw [hst] at a4
        refine hR _ _ _ _ _ ?_
        refine j_i (fun j => ∀ v1 v2 v3 v4 v5, j s y (b : Int) (i : Int) v1 v2 v3 v4 v5 true τ) ?_ ?_
        · intro v1 v2 v3 v4 v5
          refine br_t rfl ?_
          rw [wrapS (i := b) (by omega)]
          exact ih (b + 1) (by omega) (by omega) (by omega)
        · intro j hj
          refine br_t (by simp only [decide_eq_true_eq]; omega) ?_
          have ea1 := a1
          rw [a1]
          refine ptr_i (if_i ⟨by omega, by show _ < ((y.len : Nat) : Int); omega⟩ (rd_B (by rw [Int.toNat_natCast]; exact a4) ?_))
          rw [<- ea1]; exact hj _ _ _ _ _
    exact key (starsN (l.drop a)) a ha rfl rfl
  intro j4 h4
  refine loop_i ?_
  intro R hR
  have key : ∀ (f a : Nat) (back : Int) (fr i : Nat), (s.size + 1 - fr) * (s.size + 2) + (s.size - i) < f -> a <= l.length -> fr <= i -> i <= s.size -> back <= (l.length : Int) -> -1 <= back -> matchF l s.data.toList f a back fr i = res -> R s y (a : Int) back (fr : Int) (i : Int) τ := by
    intro f
    induction f with
    | zero => intro a back fr i hm; omega
    | succ f ih =>
      intro a back fr i hm ha hfi hi hb1 hb2 he
      rw [matchF] at he
      rw [hsl] at he
      refine hR _ _ _ _ _ _ _ ?_
      by_cases hlt : i < s.size
      case neg =>
        rw [if_neg hlt] at he
        refine br_f (by simp only [decide_eq_false_iff_not]; omega) (h4 a i ha hi he)
      rw [if_pos hlt] at he
      refine br_t (by simp only [decide_eq_true_eq]; omega) (loop_i ?_)
      intro R2 hR2
      generalize hk : starsN (l.drop a) = k at he
      simp only at he
      have hak : a + k <= l.length := by have := starsN_le (l.drop a); rw [List.length_drop] at this; omega
      have key2 : ∀ (c j : Nat), c + j = k -> starsN (l.drop (a + j)) = c -> R2 s y ((a + j : Nat) : Int) (if 0 < j then ((a + j : Nat) : Int) else back) (((if 0 < j then i else fr : Nat) : Nat) : Int) (i : Int) τ := by
        intro c
        induction c with
        | succ c ihc =>
          intro j hcj hst
          obtain ⟨q, hq, hqs, hsn⟩ := starsN_pos (l := l) (a := a + j) (by omega)
          obtain ⟨g, o, v, a1, a2, _, a4, _, _⟩ := pc_at hy hq
          rw [hqs] at a4
          refine hR2 _ _ _ _ _ _ _ ?_
          refine j_i (fun jj => ∀ v1 v2 v3 v4 v5, jj s y ((a + j : Nat) : Int) (if 0 < j then ((a + j : Nat) : Int) else back) (((if 0 < j then i else fr : Nat) : Nat) : Int) (i : Int) v1 v2 v3 v4 v5 true τ) ?_ ?_
          · intro v1 v2 v3 v4 v5
            refine br_t rfl ?_
            rw [wrap_id (x := ((a + j : Nat) : Int) + 1) (by omega) (by omega), show ((a + j : Nat) : Int) + 1 = ((a + (j + 1) : Nat) : Int) from by omega]
            have := ihc (j + 1) (by omega) (by rw [show a + (j + 1) = a + j + 1 by omega]; omega)
            rw [if_pos (by omega), if_pos (by omega)] at this
            exact this
          · intro jj hj
            refine br_t (by simp only [decide_eq_true_eq]; omega) ?_
            have ea1 := a1
            rw [a1]
            refine ptr_i (if_i ⟨by omega, by show _ < ((y.len : Nat) : Int); omega⟩ (rd_B (by rw [Int.toNat_natCast]; exact a4) ?_))
            rw [<- ea1]; exact hj _ _ _ _ _
        | zero =>
          intro j hcj hst
          have hjk : j = k := by omega
          subst hjk
          generalize hback : (if 0 < j then ((a + j : Nat) : Int) else back) = back' at he ⊢
          generalize hfr : (if 0 < j then i else fr : Nat) = fr' at he ⊢
          have hb1' : back' <= (l.length : Int) := by rw [<- hback]; split <;> omega
          have hb2' : -1 <= back' := by rw [<- hback]; split <;> omega
          have hfr1 : fr <= fr' := by rw [<- hfr]; split <;> omega
          have hfr2 : fr' <= i := by rw [<- hfr]; split <;> omega
          have hmul : (s.size + 1 - fr') * (s.size + 2) <= (s.size + 1 - fr) * (s.size + 2) := Nat.mul_le_mul_right _ (by omega)
          have hmul2 : (s.size + 1 - fr') * (s.size + 2) = (s.size + 1 - (fr' + 1)) * (s.size + 2) + (s.size + 2) := by
            rw [show s.size + 1 - fr' = (s.size + 1 - (fr' + 1)) + 1 by omega, Nat.succ_mul]
          obtain ⟨ch, hch⟩ : ∃ ch, s.data.toList[i]? = some ch := ⟨_, List.getElem?_eq_getElem (by omega)⟩
          have hgd : s.data.toList.getD i 0 = ch := by rw [List.getD_eq_getElem?_getD, hch]; rfl
          rw [hgd] at he
          refine hR2 _ _ _ _ _ _ _ ?_
          refine j_i (fun jj => ∀ v1 v2 v3 v4 v5, jj s y ((a + j : Nat) : Int) back' (fr' : Int) (i : Int) v1 v2 v3 v4 v5 false τ) ?_ ?_
          case refine_2 =>
            intro jj hj
            by_cases hlt2 : a + j < l.length
            · obtain ⟨q, hq⟩ : ∃ q, l[a + j]? = some q := ⟨_, List.getElem?_eq_getElem hlt2⟩
              obtain ⟨g, o, v, a1, a2, _, a4, _, _⟩ := pc_at hy hq
              rw [starsN_zero hst q hq] at a4
              refine br_t (by simp only [decide_eq_true_eq]; omega) ?_
              have ea1 := a1
              rw [a1]
              refine ptr_i (if_i ⟨by omega, by show _ < ((y.len : Nat) : Int); omega⟩ (rd_B (by rw [Int.toNat_natCast]; exact a4) ?_))
              rw [<- ea1]; exact hj _ _ _ _ _
            · exact br_f (by simp only [decide_eq_false_iff_not]; omega) (hj _ _ _ _ _)
          intro v1 v2 v3 v4 v5
          refine br_f rfl ?_
          refine j_i (fun jj => ∀ v1 v2 v3 v4 v5 (t : Bool) w1 w2 w3 w4 w5 w6 w7 w8 w9, t = pcHit l[a + j]? ch -> jj s y ((a + j : Nat) : Int) back' (fr' : Int) (i : Int) v1 v2 v3 v4 v5 t w1 w2 w3 w4 w5 w6 w7 w8 w9 τ) ?_ ?_
          case refine_2 =>
            intro jj hj
            by_cases hlt2 : a + j < l.length
            · obtain ⟨q, hq⟩ : ∃ q, l[a + j]? = some q := ⟨_, List.getElem?_eq_getElem hlt2⟩
              obtain ⟨g, o, v, a1, a2, _, _, a5, a6⟩ := pc_at hy hq
              refine br_t (by simp only [decide_eq_true_eq]; omega) ?_
              have ea1 := a1
              rw [a1]
              refine ptr_i (if_i ⟨by omega, by show _ < ((y.len : Nat) : Int); omega⟩ (rd_R (by rw [Int.toNat_natCast]; exact a5) (idx_l (c := ch) (by omega) (by simpa using hch) ?_)))
              refine cvalv_i (not_star a6 (starsN_zero hst q hq) τ ch _ (Gr.refl _) (app_B ?_))
              rw [<- ea1]
              exact hj _ _ _ _ _ _ _ _ _ _ _ _ _ _ _ (by simp [pcHit, hq])
            · have hnone : l[a + j]? = none := List.getElem?_eq_none (by omega)
              exact br_f (by simp only [decide_eq_false_iff_not]; omega) (hj _ _ _ _ _ false _ _ _ _ _ _ _ _ _ (by simp [pcHit, hnone]))
          intro v1 v2 v3 v4 v5 t w1 w2 w3 w4 w5 w6 w7 w8 w9 ht
          rw [<- ht] at he
          cases t with
          | true =>
            have hlt2 : a + j < l.length := by
              rcases Nat.lt_or_ge (a + j) l.length with h | h
              · exact h
              · rw [List.getElem?_eq_none h] at ht; cases ht
            rw [if_pos rfl] at he
            refine br_t rfl ?_
            rw [wrap_id (x := ((a + j : Nat) : Int) + 1) (by omega) (by omega), wrap_id (x := (i : Int) + 1) (by omega) (by omega), show ((a + j : Nat) : Int) + 1 = ((a + j + 1 : Nat) : Int) from by omega, show (i : Int) + 1 = ((i + 1 : Nat) : Int) from by omega]
            exact ih (a + j + 1) back' fr' (i + 1) (by omega) (by omega) (by omega) (by omega) hb1' hb2' he
          | false =>
            rw [if_neg (by decide)] at he
            refine br_f rfl ?_
            by_cases hb0 : back' < 0
            · rw [if_pos hb0] at he
              exact br_t (by simpa using hb0) (h4 (a + j) i hak hi he)
            · rw [if_neg hb0] at he
              refine br_f (by simpa using hb0) ?_
              rw [wrap_id (x := (fr' : Int) + 1) (by omega) (by omega), show (fr' : Int) + 1 = ((fr' + 1 : Nat) : Int) from by omega]
              have hbb : ((back'.toNat : Nat) : Int) = back' := by omega
              have := ih back'.toNat back' (fr' + 1) (fr' + 1) (by omega) (by omega) (by omega) (by omega) hb1' hb2' he
              rw [hbb] at this
              exact this
      have := key2 k 0 (by omega) (by simpa using hk)
      simpa using this
  have hm2 : (s.size + 2) * (s.size + 2) = (s.size + 1) * (s.size + 2) + (s.size + 2) := by rw [show s.size + 2 = (s.size + 1) + 1 from rfl, Nat.succ_mul]
  unfold matchP at hres
  rw [hsl] at hres
  exact key ((s.size + 2) * (s.size + 2)) 0 (-1) 0 0 (by rw [hm2]; simp only [Nat.sub_zero]; omega) (Nat.zero_le _) (Nat.le_refl _) (Nat.zero_le _) (by omega) (by omega) hres
theorem s_gPlain {p : List Rn} {x : Sl} {σ : H} (hx : RowsAt σ 3 (rnRows p) x) (hp : p.length <= 1000000) (hn : (plainL p).length <= 1000000) {K : KH} (hK : ∀ σ', Gr σ σ' -> K (.string (plainR p)) σ') : callW Tryz.prog 27 [.slice x.base x.len x.cap] K σ := by
  refine c27 _ ?_
  unfold g27
  refine al_i ?_; intro b2 σ1 g1 e1 n1
  refine loop_i ?_
  intro R hR
  have hxl : x.len = p.length := by have := hx.1; simpa [rnRows] using this
  have key : ∀ (c i : Nat) (τ : H) (D : Nat -> Prop), c + i = p.length -> BuAt τ b2 (plainL (p.take i)) D -> Gr σ τ -> (∀ b, D b -> σ b = none) -> R (some ⟨b2, 0, none⟩) x ((x.len : Nat) : Int) (i : Int) τ := by
    intro c
    induction c with
    | zero =>
      intro i τ D hc hB hg hD
      rw [List.take_of_length_le (by omega)] at hB
      refine hR _ _ _ _ _ ?_
      refine br_f (by simp only [decide_eq_false_iff_not]; omega) (call_i (s_BuStr hB (by omega) ?_))
      intro σ' hkeep
      refine app_S (hK σ' ?_)
      exact gr_of fun b o hb => hkeep b o (hg.get hb) (fun hd => by rw [hD b hd] at hb; cases hb)
    | succ c ih =>
      intro i τ D hc hB hg hD
      obtain ⟨r, hr⟩ : ∃ r, p[i]? = some r := ⟨_, List.getElem?_eq_getElem (by omega)⟩
      obtain ⟨g, o, a1, a2, a3⟩ := rnRow_at (hx.gr hg) hr
      refine hR _ _ _ _ _ ?_
      refine br_t (by simp only [decide_eq_true_eq]; omega) ?_
      rw [a1]
      refine ptr_i (if_i ⟨by omega, by show _ < ((x.len : Nat) : Int); omega⟩ (rd_G (by rw [Int.toNat_natCast]; exact a3) ?_))
      unfold Rn.cells
      (refine app_of rfl ?_; try dsimp only)
      refine al_i ?_; intro b13 τ1 q1 e2 n2
      refine st_i2 e2 sz_Run (by rfl) (by rfl) ?_; intro τ2 p2
      have hB2 : BuAt τ2 b2 (plainL (p.take i)) D := (hB.gr q1).put p2 (fun hd => hB.has hd n2)
      have htk : plainL (p.take (i + 1)) = plainL (p.take i) ++ r.t.data.toList := by
        rw [List.take_add_one, hr, plainL_app]; simp [plainL]
      have hlen : (plainL (p.take i)).length + r.t.size <= 1000000 := by
        have : plainL p = plainL (p.take (i + 1)) ++ plainL (p.drop (i + 1)) := by rw [<- plainL_app, List.take_append_drop]
        rw [this, htk, List.length_append, List.length_append, <- size_list] at hn
        omega
      refine rd_S (rdC_of p2.same (by rfl)) (call_i (s_BuWrS hB2 r.t (by omega) ?_))
      intro τ3 D3 hB3 S3
      refine app_of rfl ?_
      rw [wrapS (i := i) (by omega)]
      have hg2 : Gr σ τ2 := (hg.trans q1).putF p2 (none_of hg n2)
      refine ih (i + 1) τ3 D3 (by omega) (by rw [htk]; exact hB3) (gr_of fun b o hb => (S3 b o (hg2.get hb) (fun hd => by rw [hD b hd] at hb; cases hb)).1) ?_
      intro b hd
      cases hb : σ b with
      | none => rfl
      | some o => exact absurd hd (S3 b o (hg2.get hb) (fun hd => by rw [hD b hd] at hb; cases hb)).2
  exact key p.length 0 σ1 (fun c => c = b2) (by omega) (by simpa [plainL] using BuAt.new e1) g1 (fun b hb => by rw [hb]; exact n1)
end Go.Proofs.YtbjbeajbckcecaaGreatDoor

