/- A part of the proof: What is renamed, and renamed back, is as it was. -/
import Derived.Test.YtlpcehbfoogejaaGreatDoorFba
import Derived.Lib.Bytealg
/- strings.Builder. -/
set_option maxRecDepth 100000
namespace Go.Proofs.YtlpcehbfoogejaaGreatDoor
open Go Go.HL Go.Wk
theorem go_NE : isGo Tryz.prog 185 = false := by kernel_rfl
theorem fn_NE : (Tryz.prog.funcs[185]?).map (fun fn => ((fn.name == "runtime.NumGoroutine"), fn.body.isNone)) = some (false, true) := by kernel_rfl
theorem ex_NE : (Tryz.prog.funcs[185]?).bind (fun fn => Extern.find fn) = some Extern.AbiNoEscape.same := by kernel_rfl
theorem en_NE : (Tryz.prog.funcs[185]?).map (fun fn => (Extern.findNext fn).isNone) = some true := by kernel_rfl
theorem x_ext {f : FuncId} {e : Array Value → Sem Value} {args : List Value} {t : TK} {F : t.Fn (H → Prop)} {σ : H} (hg : isGo Tryz.prog f = false) (h1 : (Tryz.prog.funcs[f]?).map (fun fn => ((fn.name == "runtime.NumGoroutine"), fn.body.isNone)) = some (false, true))
    (h2 : (Tryz.prog.funcs[f]?).bind (fun fn => Extern.find fn) = some e) (h3 : (Tryz.prog.funcs[f]?).map (fun fn => (Extern.findNext fn).isNone) = some true)
    (h : ∀ w, σ.le w → ∃ v w' σ', (e ⟨args⟩).run Tryz.prog w = .ok v w' ∧ Ext σ w σ' w' ∧ app t F v σ') : cvalT Tryz.prog (.func (.func f) ⟨[]⟩ ⟨[]⟩) args t F σ := by
  unfold cvalT callVW
  simp only [hg]
  intro w hw
  obtain ⟨v, w', σ', hr, hx, ha⟩ := h w hw
  cases hf : Tryz.prog.funcs[f]? with
  | none => rw [hf] at h1; cases h1
  | some fn =>
    rw [hf] at h1 h2 h3
    simp only [Option.map_some, Option.some.injEq, Prod.mk.injEq, Option.bind_some] at h1 h2 h3
    have hc := run_callFunc_standIn hf h1.1 h1.2 (Option.isNone_iff_eq_none.1 h3) h2 ⟨args⟩ w
    have : (callS (.func (.func f) ⟨[]⟩ ⟨[]⟩) args).run Tryz.prog w = .ok (.value v) w' := by
      simp [callS, Deferred.ofValue, invoke, hc, hr]
    rw [this]
    exact ⟨σ', hx, ha⟩
theorem x_NoEsc {v : Value} {F : Value → H → Prop} {σ : H} (hF : F v σ) : cvalT Tryz.prog (.func (.func 185) ⟨[]⟩ ⟨[]⟩) [v] kR F σ :=
  x_ext go_NE fn_NE ex_NE en_NE fun w hw => ⟨v, w, σ, Lib.run_noEscape w v, Ext.refl hw, app_R hF⟩
theorem go_MZ : isGo Tryz.prog 186 = false := by kernel_rfl
theorem fn_MZ : (Tryz.prog.funcs[186]?).map (fun fn => ((fn.name == "runtime.NumGoroutine"), fn.body.isNone)) = some (false, true) := by kernel_rfl
theorem ex_MZ : (Tryz.prog.funcs[186]?).bind (fun fn => Extern.find fn) = some (Extern.BytealgMakeNoZero.makeNoZero #[3] #[58]) := by kernel_rfl
theorem en_MZ : (Tryz.prog.funcs[186]?).map (fun fn => (Extern.findNext fn).isNone) = some true := by kernel_rfl
theorem und_bytes : Tryz.prog.underlying 58 = some (.slice 5) := by kernel_rfl
theorem und_str : Tryz.prog.underlying 9 = some .string := by kernel_rfl
theorem und_Pu8 : Tryz.prog.underlying 185 = some (.pointer 5) := by kernel_rfl
theorem und_PBu : Tryz.prog.underlying 127 = some (.pointer 129) := by kernel_rfl
theorem und_up : Tryz.prog.underlying 200 = some .unsafePointer := by kernel_rfl
theorem cells_u8 : Tryz.prog.cellsOf 5 = 1 := by kernel_rfl
theorem info_u8 : ∃ i, Tryz.prog.info? 5 = some i ∧ i.zero = some (.int .u8 0) ∧ i.size = 1 ∧ i.bytes = 1 := by
  have h1 : (Tryz.prog.info? 5).map (fun i => (i.zero, i.size, i.bytes)) = some (some (.int .u8 0), 1, 1) := by kernel_rfl
  cases hi : Tryz.prog.info? 5 with
  | none => rw [hi] at h1; cases h1
  | some i =>
    rw [hi] at h1
    simp only [Option.map_some, Option.some.injEq, Prod.mk.injEq] at h1
    exact ⟨i, rfl, h1.1, h1.2.1, h1.2.2⟩
theorem info_Bu : ∃ i, Tryz.prog.info? 129 = some i ∧ i.size ≠ 0 := by
  have h1 : (Tryz.prog.info? 129).map (·.size) = some 2 := by kernel_rfl
  cases hi : Tryz.prog.info? 129 with
  | none => rw [hi] at h1; cases h1
  | some i =>
    rw [hi] at h1
    simp only [Option.map_some, Option.some.injEq] at h1
    exact ⟨i, rfl, by omega⟩
theorem lies_Bu : liesAt Tryz.prog Tryz.prog.depth 129 (2 / Tryz.prog.cellsOf 129) 0 129 1 = true := by kernel_rfl
theorem szb_bytes : sizeT Tryz.prog 58 = some 1 := by kernel_rfl
theorem szb_PBu : sizeT Tryz.prog 127 = some 1 := by kernel_rfl
theorem x_MZ {n : Nat} (hn : n ≤ 281474976710656) {F : Sl → H → Prop} {σ : H} (hF : ∀ g cur σ', σ g = none → σ' g = some (.cells ⟨cur⟩ 5 (0, 0)) → Gr σ σ' → n ≤ cur.length → F ⟨some ⟨g, 0, none⟩, n, cur.length⟩ σ') : cvalT Tryz.prog (.func (.func 186) ⟨[]⟩ ⟨[]⟩) [.int .i64 (n : Int)] kL F σ := by
  refine x_ext go_MZ fn_MZ ex_MZ en_MZ fun w hw => ?_
  obtain ⟨⟨cs⟩, hr, h1, _⟩ := Lib.run_makeNoZero (P := Tryz.prog) w #[3] 58 5 und_bytes n hn
  obtain ⟨hn', he⟩ := Ext.alloc (σ := σ) (w := w.drew.drew) hw (.cells ⟨cs⟩ 5 (0, 0))
  exact ⟨_, _, _, hr, ⟨he.le, he.size, he.keep, he.own, he.os, he.tape, he.output⟩, app_L (hF w.heap.size cs _ hn' (H.put_same _ _ _) (Gr.put hn' _) h1)⟩
/-- a builder holds these bytes; D: its blocks -/
def BuAt (σ : H) (b : Nat) (l : List UInt8) (D : Nat → Prop) : Prop := ∃ (p : Option Addr) (x : Sl), σ b = some (.cells ⟨[.pointer p, .slice x.base x.len x.cap]⟩ 129 (0, 0)) ∧ (p = none ∨ p = some ⟨b, 0, none⟩) ∧ RowsOwn σ 5 1 (brows l) x ∧ (∀ g, x.base = some ⟨g, 0, none⟩ → g ≠ b) ∧ (x.base ≠ none → x.cap ≠ 0) ∧ ∀ c, D c ↔ (c = b ∨ x.base = some ⟨c, 0, none⟩)
theorem BuAt.gr {σ σ' : H} {b : Nat} {l : List UInt8} {D : Nat → Prop} (h : BuAt σ b l D) (hg : Gr σ σ') : BuAt σ' b l D := by
  obtain ⟨p, x, h1, h2, h3, h4⟩ := h
  exact ⟨p, x, hg.get h1, h2, h3.gr hg, h4⟩
theorem BuAt.has {σ : H} {b : Nat} {l : List UInt8} {D : Nat → Prop} (h : BuAt σ b l D) {c : Nat} (hc : D c) : σ c ≠ none := by
  obtain ⟨p, x, h1, h2, h3, h4, h5, h6⟩ := h
  rcases (h6 c).1 hc with rfl | e
  · rw [h1]; simp
  · exact h3.has e
theorem BuAt.put {σ σ' : H} {b c : Nat} {o : Obj} {l : List UInt8} {D : Nat → Prop} (h : BuAt σ b l D) (hp : Put σ c o σ') (hc : ¬ D c) : BuAt σ' b l D := by
  obtain ⟨p, x, h1, h2, h3, h4, h5, h6⟩ := h
  exact ⟨p, x, hp.get (fun e => hc ((h6 c).2 (.inl e.symm))) h1, h2, h3.put hp (fun e => hc ((h6 c).2 (.inr e))), h4, h5, h6⟩
theorem BuAt.new {σ : H} {b : Nat} (h : σ b = some (.cells ⟨[.pointer none, .slice none 0 0]⟩ 129 (0, 0))) : BuAt σ b [] (fun c => c = b) :=
  ⟨none, ⟨none, 0, 0⟩, h, .inl rfl, RowsOwn.nil _ _ _, (fun g h => by cases h), (fun h => absurd rfl h), fun c => ⟨fun h => .inl h, fun h => h.resolve_right (by intro e; cases e)⟩⟩
attribute [local irreducible] ptrW ifW brW andW rdT alW letJ stW muW biW vaW imW callT cvalT app callW invW callVW sizeT oW nilF oneK loopW rfW funW begW roundK exW idxW Gr Put
section
variable {σ : H} {b : Nat} {l : List UInt8} {D : Nat → Prop}
theorem s_BuCheck (h : BuAt σ b l D) {K : Value → H → Prop} (hK : ∀ σ', BuAt σ' b l D → Sep σ D σ' D → K (.tuple ⟨[]⟩) σ') : callW Tryz.prog 153 [.pointer (some ⟨b, 0, none⟩)] K σ := by
  obtain ⟨p, x, h1, h2, h3, h4, h5, h6⟩ := id h
  obtain ⟨i, hi, hi0⟩ := info_Bu
  refine c153 _ ?_
  unfold g153
  refine ptr_i (rd_P (rdC_of h1 (by rfl)) ?_)
  rcases h2 with rfl | rfl
  · refine br_t rfl ?_
    refine toUp_i und_PBu und_up hi hi0 h1 (by simp) ?_
    refine x_NoEsc (fromUp_i und_up und_PBu hi h1 lies_Bu (ptr_i ?_))
    refine st_i2 h1 szb_PBu (by rfl) (by rfl) ?_; intro σ' hp
    refine hK σ' ⟨some ⟨b, 0, none⟩, x, hp.same, .inr rfl, h3.put hp (fun e => h4 b e rfl), h4, h5, h6⟩ ?_
    intro c o hc hn
    exact ⟨hp.get (fun e => hn ((h6 c).2 (.inl e))) hc, hn⟩
  · refine br_f rfl (ptr_i (rd_P (rdC_of h1 (by rfl)) ?_))
    exact neqp_i und_PBu hi (br_f rfl (hK σ h (Sep.refl _ _)))
theorem key_BuWr (hb : BuAt σ b l D) {p : Option Addr} {x x' : Sl} {l' : List UInt8} {τ : H} (h1 : σ b = some (.cells ⟨[.pointer p, .slice x.base x.len x.cap]⟩ 129 (0, 0))) (h2 : p = none ∨ p = some ⟨b, 0, none⟩) (h4 : ∀ g, x.base = some ⟨g, 0, none⟩ → g ≠ b) (h5 : x.base ≠ none → x.cap ≠ 0) (h6 : ∀ c, D c ↔ (c = b ∨ x.base = some ⟨c, 0, none⟩))
    (hx' : RowsOwn τ 5 1 (brows l') x') (hcap : (x.base ≠ none → x.cap ≠ 0) → (x'.base ≠ none → x'.cap ≠ 0)) (hcase : (∃ g o, x.base = some ⟨g, 0, none⟩ ∧ x'.base = x.base ∧ Put σ g o τ) ∨ (((∃ g, x'.base = some ⟨g, 0, none⟩ ∧ σ g = none) ∨ x'.base = none) ∧ Gr σ τ))
    {F : H → Prop} (hK : ∀ σ' D', BuAt σ' b l' D' → Sep σ D σ' D' → F σ') : stW Tryz.prog 58 (.pointer (some ⟨b, 0 + 1, none⟩)) (.slice x'.base x'.len x'.cap) F τ := by
  have hbb : D b := (h6 b).2 (.inl rfl)
  have h1' : τ b = some (.cells ⟨[.pointer p, .slice x.base x.len x.cap]⟩ 129 (0, 0)) := by
    rcases hcase with ⟨g, o, z1, _, hp⟩ | ⟨_, hg⟩
    · exact hp.get (Ne.symm (h4 g z1)) h1
    · exact hg.get h1
  have n4 : ∀ g, x'.base = some ⟨g, 0, none⟩ → g ≠ b := by
    intro g' e
    rcases hcase with ⟨g, o, z1, z2, hp⟩ | ⟨⟨g, y1, y2⟩ | y, hg⟩
    · exact h4 g' (by rw [← z2]; exact e)
    · rw [y1] at e
      have : g = g' := by injection e with e; injection e
      subst this
      intro e2
      rw [e2, h1] at y2; cases y2
    · rw [y] at e; cases e
  have S2 : ∀ c o, σ c = some o → ¬ D c → τ c = some o ∧ x'.base ≠ some ⟨c, 0, none⟩ := by
    intro c o hc hn
    rcases hcase with ⟨g, o', z1, z2, hp⟩ | ⟨z, hg⟩
    · have hcg : c ≠ g := fun e => hn ((h6 c).2 (.inr (by rw [e]; exact z1)))
      exact ⟨hp.get hcg hc, fun e => hn ((h6 c).2 (.inr (by rw [← z2]; exact e)))⟩
    · refine ⟨hg.get hc, fun e => ?_⟩
      rcases z with ⟨g, y1, y2⟩ | y
      · rw [y1] at e
        have : g = c := by injection e with e; injection e
        subst this
        rw [hc] at y2; cases y2
      · rw [y] at e; cases e
  refine st_i2 h1' szb_bytes (by rfl) (by rfl) ?_; intro σ3 p3
  refine hK σ3 (fun c => c = b ∨ x'.base = some ⟨c, 0, none⟩) ⟨p, x', p3.same, h2, hx'.put p3 (fun e => n4 b e rfl), n4, hcap h5, fun c => Iff.rfl⟩ ?_
  intro c o hc hn
  obtain ⟨q1, q2⟩ := S2 c o hc hn
  have hcb : c ≠ b := fun e => hn ((h6 c).2 (.inl e))
  exact ⟨p3.get hcb q1, fun hd => hd.elim hcb q2⟩
theorem s_BuWrS (h : BuAt σ b l D) (s : ByteArray) (hl : l.length + s.size ≤ 100000000000) {K : Value → H → Prop} (hK : ∀ σ' D', BuAt σ' b (l ++ s.data.toList) D' → Sep σ D σ' D' → K (.tuple ⟨[.int .i64 ((s.size : Nat) : Int), .nilIface]⟩) σ') : callW Tryz.prog 94 [.pointer (some ⟨b, 0, none⟩), .string s] K σ := by
  refine c94 _ _ ?_
  unfold g94
  refine call_i (s_BuCheck h ?_)
  intro σ1 hb1 S1
  refine app_U ?_
  obtain ⟨p, x, h1, h2, h3, h4, h5, h6⟩ := id hb1
  refine ptr_i (rd_L (rdC_of h1 (by rfl)) ?_)
  obtain ⟨i, i1, i2, i3, i4⟩ := info_u8
  refine app_str_i und_bytes und_str i1 i2 i3 i4 h3 hl ?_
  intro x' σ2 hx' hcap hcase
  refine ptr_i ?_
  exact key_BuWr hb1 h1 h2 h4 h5 h6 hx' hcap hcase fun σ' D' B S => hK σ' D' B (S1.trans S)
theorem s_BuStr (h : BuAt σ b l D) (hl : l.length ≤ 100000000000) {K : Value → H → Prop} (hK : ∀ σ', (∀ c o, σ c = some o → ¬ D c → σ' c = some o) → K (.string ⟨⟨l⟩⟩) σ') : callW Tryz.prog 96 [.pointer (some ⟨b, 0, none⟩)] K σ := by
  refine c96 _ ?_
  unfold g96
  obtain ⟨p, x, h1, h2, h3, h4, h5, h6⟩ := id h
  refine ptr_i (rd_L (rdC_of h1 (by rfl)) (ptr_i (rd_L (rdC_of h1 (by rfl)) ?_)))
  refine sdata_i h5 (and_i (rdC_of h1 (by rfl)) ?_)
  refine ustr_i und_Pu8 cells_u8 h3 (by omega) ?_ ?_
  · intro e; rw [e] at hK; exact hK σ (fun c o hc _ => hc)
  · intro g cur o σ' e hg hp
    refine hK σ' fun c o' hc hn => hp.get (fun e2 => hn ((h6 c).2 (.inr (by rw [e2]; exact e)))) hc
theorem s_Bugrow (hb : σ b = some (.cells ⟨[.pointer none, .slice none 0 0]⟩ 129 (0, 0))) {p : Option Addr} {n : Nat} (hn : n ≤ 100000000000) (h0 : n ≠ 0) {τ : H} (h1 : τ b = some (.cells ⟨[.pointer p, .slice none 0 0]⟩ 129 (0, 0))) (h2 : p = none ∨ p = some ⟨b, 0, none⟩) {K : Value → H → Prop} (hK : ∀ σ' D', BuAt σ' b [] D' → Sep τ (fun c => c = b) σ' D' → K (.tuple ⟨[]⟩) σ') : callW Tryz.prog 154 [.pointer (some ⟨b, 0, none⟩), .int .i64 (n : Int)] K τ := by
  refine c154 _ _ ?_
  unfold g154
  refine ptr_i (rd_L (rdC_of h1 (by rfl)) (ptr_i (rd_L (rdC_of h1 (by rfl)) ?_)))
  have e : IntKind.i64.wrap (IntKind.i64.wrap (2 * (((0 : Nat) : Nat) : Int)) + (n : Int)) = (n : Int) := by
    rw [show (2 * (((0 : Nat) : Nat) : Int)) = 0 from rfl, wrap_id (x := 0) (by omega) (by omega), wrap_id (by omega) (by omega)]; omega
  show cvalT _ _ [.int .i64 (IntKind.i64.wrap (IntKind.i64.wrap (2 * (((0 : Nat) : Nat) : Int)) + (n : Int)))] _ _ _
  rw [e]
  refine x_MZ (by omega) ?_
  intro g cur σ1 hn1 hg1 hgr hlen
  have h1' := hgr.get h1
  refine and_i (rdC_of h1' (by rfl)) (if_i ⟨bnd_some (by simp) (by simp), bnd_none⟩ ?_)
  refine ptr_i (rd_L (rdC_of h1' (by rfl)) ?_)
  refine copy0_i und_bytes (by kernel_rfl) ?_
  refine ptr_i ?_
  have hgb : g ≠ b := by intro e; rw [e, h1] at hn1; cases hn1
  refine st_i2 h1' szb_bytes (by rfl) (by rfl) ?_; intro σ3 p3
  have hbase : slBase (some ⟨g, 0, none⟩) 0 cur.length 1 = some ⟨g, 0, none⟩ := by unfold slBase; split <;> rfl
  refine hK σ3 (fun c => c = b ∨ c = g) ⟨p, ⟨some ⟨g, 0, none⟩, 0, cur.length⟩, ?_, h2, ?_, ?_, ?_, ?_⟩ ?_
  · have := p3.same
    simp only [hbase] at this
    exact this
  · exact ⟨rfl, by simp [brows], .inr ⟨g, cur, rfl, p3.get hgb hg1, by simp, Nat.zero_le _, by simp [brows]⟩⟩
  · intro g' e
    have : g = g' := by injection e with e; injection e
    rw [← this]; exact hgb
  · intro _ ; show cur.length ≠ 0; omega
  · intro c
    constructor
    · rintro (h | h)
      · exact .inl h
      · exact .inr (by rw [h])
    · rintro (h | h)
      · exact .inl h
      · exact .inr (by injection h with e; injection e with e; exact e.symm)
  · intro c o hc hn
    refine ⟨p3.get hn (hgr.get hc), fun hd => hd.elim hn ?_⟩
    intro e; rw [e, hn1] at hc; cases hc
/-- Grow of a builder that is new -/
theorem s_BuGrow (hb : σ b = some (.cells ⟨[.pointer none, .slice none 0 0]⟩ 129 (0, 0))) {n : Nat} (hn : n ≤ 100000000000) {K : Value → H → Prop} (hK : ∀ σ' D', BuAt σ' b [] D' → Sep σ (fun c => c = b) σ' D' → K (.tuple ⟨[]⟩) σ') : callW Tryz.prog 93 [.pointer (some ⟨b, 0, none⟩), .int .i64 (n : Int)] K σ := by
  refine c93 _ _ ?_
  unfold g93
  refine call_i (s_BuCheck (BuAt.new hb) ?_)
  intro σ1 hb1 S1
  refine app_U (br_f (by simp only [decide_eq_false_iff_not]; omega) ?_)
  obtain ⟨p, x, h1, h2, h3, h4, h5, h6⟩ := id hb1
  have hx : x = ⟨none, 0, 0⟩ := by
    obtain ⟨q1, _, ⟨q3, q4, _⟩ | ⟨g, cur, q3, _⟩⟩ := h3
    · cases x; simp only at q1 q3 q4; simp [brows] at q1; subst q1; subst q3; subst q4; rfl
    · exact absurd ((h6 g).2 (.inr q3)) (h4 g q3)
  subst hx
  refine ptr_i (rd_L (rdC_of h1 (by rfl)) (ptr_i (rd_L (rdC_of h1 (by rfl)) ?_)))
  show brW (decide (IntKind.i64.wrap ((((0 : Nat) : Nat) : Int) - (((0 : Nat) : Nat) : Int)) < (n : Int))) _ _ _
  rw [show IntKind.i64.wrap ((((0 : Nat) : Nat) : Int) - (((0 : Nat) : Nat) : Int)) = 0 from by decide]
  by_cases h0 : n = 0
  · refine br_f (by simp only [decide_eq_false_iff_not]; omega) (hK σ1 _ hb1 S1)
  · refine br_t (by simp only [decide_eq_true_eq]; omega) (call_i (s_Bugrow hb hn h0 h1 h2 ?_))
    intro σ' D' B S
    exact app_U (hK σ' D' B (S1.trans S))
end
end Go.Proofs.YtlpcehbfoogejaaGreatDoor

/- strings.ReplaceAll of one byte by nothing. -/
set_option maxRecDepth 100000
namespace Go.Proofs.YtlpcehbfoogejaaGreatDoor
open Go Go.HL Go.Wk
theorem go_Cnt : isGo Tryz.prog 179 = false := by kernel_rfl
theorem fn_Cnt : (Tryz.prog.funcs[179]?).map (fun fn => ((fn.name == "runtime.NumGoroutine"), fn.body.isNone)) = some (false, true) := by kernel_rfl
theorem ex_Cnt : (Tryz.prog.funcs[179]?).bind (fun fn => Extern.find fn) = some Extern.BytealgCount.count := by kernel_rfl
theorem en_Cnt : (Tryz.prog.funcs[179]?).map (fun fn => (Extern.findNext fn).isNone) = some true := by kernel_rfl
theorem x_Cnt (s : ByteArray) (c : UInt8) {F : Int → H → Prop} {σ : H} (hF : F ((s.data.toList.count c : Nat) : Int) σ) : cvalT Tryz.prog (.func (.func 179) ⟨[]⟩ ⟨[]⟩) [.string s, .int .u8 (c.toNat : Int)] kI F σ :=
  x_ext go_Cnt fn_Cnt ex_Cnt en_Cnt fun w hw => by
    refine ⟨_, w, σ, Lib.run_countString s _ w, Ext.refl hw, app_I ?_⟩
    have : ((c.toNat : Int)).toNat.toUInt8 = c := by simp
    rw [this]
    exact hF
theorem Off.keep {σ σ4 σ5 : H} {D : Nat → Prop} (h : Off σ σ4 D) (h5 : ∀ c o, σ4 c = some o → ¬ D c → σ5 c = some o) : Gr σ σ5 := fun x o hx => h5 x o (h.get hx) (h.2 x o hx)
attribute [local irreducible] ptrW ifW brW andW rdT alW letJ stW muW biW vaW imW callT cvalT app callW invW callVW sizeT oW nilF oneK loopW rfW funW begW roundK exW idxW Gr Put
theorem x_Count1 (s : ByteArray) (c : UInt8) {σ : H} {K : Value → H → Prop} (hK : K (.int .i64 ((s.data.toList.count c : Nat) : Int)) σ) : callW Tryz.prog 129 [.string s, .string ⟨⟨[c]⟩⟩] K σ := by
  refine c129 _ _ ?_
  unfold g129
  refine br_f rfl (br_t rfl (idx_l (c := c) (by decide) rfl ?_))
  exact x_Cnt s c hK
/-- a text without this byte -/
def strip (c : UInt8) (s : ByteArray) : ByteArray := ⟨⟨s.data.toList.filter fun x => x != c⟩⟩
theorem strip_none {c : UInt8} {l : List UInt8} (h : c ∉ l) : l.filter (fun x => x != c) = l := by
  rw [List.filter_eq_self]
  intro x hx
  simp only [bne_iff_ne, ne_eq]
  rintro rfl; exact h hx
theorem strip_not (c : UInt8) (s : ByteArray) : c ∉ (strip c s).data.toList := by
  show c ∉ s.data.toList.filter _
  simp
theorem strip_size (c : UInt8) (s : ByteArray) : (strip c s).size ≤ s.size := List.length_filter_le ..
theorem s_RepAll (c : UInt8) (s : ByteArray) (hs : s.size ≤ 1000000000) {σ : H} {K : Value → H → Prop} (hK : ∀ σ', Gr σ σ' → K (.string (strip c s)) σ') : callW Tryz.prog 31 [.string s, .string ⟨⟨[c]⟩⟩, .string ⟨⟨[]⟩⟩] K σ := by
  refine c31 _ _ _ ?_
  unfold g31
  refine call_i (c78 _ _ _ _ ?_)
  unfold g78
  have hlen : s.data.toList.length = s.size := by cases s with | mk d => simp [ByteArray.size]
  refine j_i (fun j => j s ⟨⟨[c]⟩⟩ ⟨⟨[]⟩⟩ (-1) false σ) ?_ ?_
  case refine_2 =>
    intro j hj
    exact br_f (by rw [Bool.eq_false_iff]; intro e; have := strEq_iff.1 e; cases this) hj
  refine br_f rfl ?_
  have hcs : s.data.toList.count c ≤ s.size := by rw [← hlen]; exact List.count_le_length
  refine j_i (fun j => j s ⟨⟨[c]⟩⟩ ⟨⟨[]⟩⟩ ((s.data.toList.count c : Nat) : Int) σ) ?_ ?_
  case refine_2 =>
    intro j hj
    refine call_i (x_Count1 s c (app_I ?_))
    by_cases h0 : s.data.toList.count c = 0
    · rw [h0]
      refine br_t rfl ?_
      have : strip c s = s := by
        unfold strip
        rw [strip_none (List.count_eq_zero.1 h0)]
      rw [← this]
      exact app_S (hK σ (Gr.refl _))
    · refine br_f (by simp only [beq_eq_false_iff_ne, ne_eq]; omega) ?_
      exact j_i (fun j => j s ⟨⟨[c]⟩⟩ ⟨⟨[]⟩⟩ (-1) ((s.data.toList.count c : Nat) : Int) true σ) (br_t rfl hj) (fun j hj => br_t rfl hj)
  refine al_i ?_; intro b σ1 g1 e1 n1
  have ew : IntKind.i64.wrap (((s.size : Nat) : Int) + IntKind.i64.wrap (((s.data.toList.count c : Nat) : Int) * IntKind.i64.wrap ((((⟨⟨[]⟩⟩ : ByteArray).size : Nat) : Int) - (((⟨⟨[c]⟩⟩ : ByteArray).size : Nat) : Int)))) = ((s.size - s.data.toList.count c : Nat) : Int) := by
    show IntKind.i64.wrap (((s.size : Nat) : Int) + IntKind.i64.wrap (((s.data.toList.count c : Nat) : Int) * IntKind.i64.wrap (0 - 1))) = _
    rw [wrap_id (x := (0 : Int) - 1) (by omega) (by omega), wrap_id (x := _ * _) (by omega) (by omega), wrap_id (by omega) (by omega)]
    omega
  rw [ew]
  have O1 : Off σ σ1 (fun c => c = b) := Off.new g1 (fun x hx => by rw [hx]; exact n1)
  refine call_i (s_BuGrow e1 (by omega) ?_)
  intro σ2 D2 B2 S2
  have O2 := O1.sep S2
  refine app_U ?_
  refine j_i (fun j => ∀ (st : Nat) σ3 D3, st ≤ s.size → BuAt σ3 b ((s.data.toList.take st).filter fun x => x != c) D3 → Off σ σ3 D3 → c ∉ s.data.toList.drop st → j s (some ⟨b, 0, none⟩) (st : Int) σ3) ?_ ?_
  · intro st σ3 D3 hst B3 O3 hd
    refine if_i ⟨bnd_none, bnd_some (by omega) (by omega)⟩ ?_
    have hf : ((s.data.toList.take st).filter fun x => x != c).length ≤ s.size := by
      have := List.length_filter_le (fun x => x != c) (s.data.toList.take st)
      rw [List.length_take] at this; omega
    refine call_i (s_BuWrS B3 _ (by rw [ByteArray.size_extract]; omega) ?_)
    intro σ4 D4 B4 S4
    have O4 := O3.sep S4
    (refine app_of rfl ?_; try dsimp only)
    have he : (s.data.toList.take st).filter (fun x => x != c) ++ (s.extract (st : Int).toNat s.size).data.toList = (strip c s).data.toList := by
      show _ = s.data.toList.filter _
      conv => rhs; rw [← List.take_append_drop st s.data.toList, List.filter_append, strip_none hd]
      rw [extract_toList]
      congr 1
      have : (st : Int).toNat = st := by omega
      rw [this, ← hlen, List.take_length]
    rw [he] at B4
    have h5 := strip_size c s
    have h6 : (strip c s).data.toList.length = (strip c s).size := by cases strip c s with | mk d => simp [ByteArray.size]
    refine call_i (s_BuStr B4 (by omega) ?_)
    intro σ5 h5
    have hg5 : Gr σ σ5 := Off.keep O4 h5
    exact app_S (app_S (hK σ5 hg5))
  · intro j hj
    refine br_t rfl (loop_i ?_)
    intro R hR
    have key : ∀ (k st : Nat) σ3 D3, st ≤ s.size → (s.data.toList.drop st).count c = k → k ≤ s.data.toList.count c → BuAt σ3 b ((s.data.toList.take st).filter fun x => x != c) D3 → Off σ σ3 D3 → R s ⟨⟨[c]⟩⟩ ⟨⟨[]⟩⟩ (some ⟨b, 0, none⟩) (st : Int) ((s.data.toList.count c : Nat) : Int) ((s.data.toList.count c - k : Nat) : Int) σ3 := by
      intro k
      induction k with
      | zero =>
        intro st σ3 D3 hst hc hk B3 O3
        refine hR _ _ _ _ _ _ _ _ ?_
        refine br_f (by simp only [decide_eq_false_iff_not]; omega) ?_
        exact hj st σ3 D3 hst B3 O3 (List.count_eq_zero.1 hc)
      | succ k ih =>
        intro st σ3 D3 hst hc hk B3 O3
        refine hR _ _ _ _ _ _ _ _ ?_
        refine br_t (by simp only [decide_eq_true_eq]; omega) (if_i ⟨bnd_none, bnd_some (by omega) (by omega)⟩ ?_)
        have e0 : (st : Int).toNat = st := by omega
        rw [e0]
        refine call_i (x_Index1 _ c (app_I ?_))
        have hx : (s.extract st s.size).data.toList = s.data.toList.drop st := by rw [extract_toList, ← hlen, List.take_length]
        have hxs : (s.extract st s.size).size = s.size - st := by rw [ByteArray.size_extract]; omega
        rcases firstIdx_split (s.extract st s.size) c with ⟨_, h⟩ | ⟨i, h1, h2, h3, h4⟩
        · rw [hx, ← List.count_eq_zero] at h
          omega
        · rw [h1]
          rw [hx] at h3 h4
          rw [hxs] at h2
          rw [wrap_id (x := (st : Int) + (i : Int)) (by omega) (by omega)]
          refine if_i ⟨bnd_some (by omega) (by omega), bnd_some (by omega) (by omega)⟩ ?_
          have hf : ((s.data.toList.take st).filter fun x => x != c).length ≤ s.size := by
            have := List.length_filter_le (fun x => x != c) (s.data.toList.take st)
            rw [List.length_take] at this; omega
          refine call_i (s_BuWrS B3 _ (by rw [ByteArray.size_extract]; omega) ?_)
          intro σ4 D4 B4 S4
          have O4 := O3.sep S4
          (refine app_of rfl ?_; try dsimp only)
          have he : (s.data.toList.take st).filter (fun x => x != c) ++ (s.extract st ((st : Int) + (i : Int)).toNat).data.toList = (s.data.toList.take (st + i + 1)).filter fun x => x != c := by
            have t1 : s.data.toList.take (st + i + 1) = s.data.toList.take st ++ ((s.data.toList.drop st).take i ++ [c]) := by
              rw [show st + i + 1 = st + (i + 1) from by omega, List.take_add]
              congr 1
              have hl : ((s.data.toList.drop st).take i).length = i := by rw [List.length_take, List.length_drop]; omega
              conv => lhs; rw [h4]
              generalize (s.data.toList.drop st).take i = u at hl ⊢
              subst hl
              rw [List.take_append]
              simp
              exact List.take_of_length_le (by omega)
            rw [t1, List.filter_append, List.filter_append, strip_none h3, extract_toList]
            have : ((st : Int) + (i : Int)).toNat = st + i := by omega
            rw [this]
            simp [List.drop_take]
          rw [he] at B4
          have hf2 : ((s.data.toList.take (st + i + 1)).filter fun x => x != c).length ≤ s.size := by
            have := List.length_filter_le (fun x => x != c) (s.data.toList.take (st + i + 1))
            rw [List.length_take] at this; omega
          refine call_i (s_BuWrS B4 _ (by show _ + 0 ≤ _; omega) ?_)
          intro σ5 D5 B5 S5
          have O5 := O4.sep S5
          (refine app_of rfl ?_; try dsimp only)
          have e1 : (((⟨⟨[c]⟩⟩ : ByteArray).size : Nat) : Int) = 1 := rfl
          rw [e1, wrap_id (x := (st : Int) + (i : Int) + 1) (by omega) (by omega), wrap_id (by omega) (by omega)]
          have e2 : (st : Int) + (i : Int) + 1 = ((st + i + 1 : Nat) : Int) := by omega
          have e3 : ((s.data.toList.count c - (k + 1) : Nat) : Int) + 1 = ((s.data.toList.count c - k : Nat) : Int) := by omega
          rw [e2, e3]
          refine ih (st + i + 1) σ5 D5 (by omega) ?_ (by omega) ?_ O5
          · have : (s.data.toList.drop st).count c = ((s.data.toList.drop st).take i).count c + (((s.data.toList.drop st).drop (i + 1)).count c + 1) := by
              conv => lhs; rw [h4]
              rw [List.count_append, List.count_cons_self]
            rw [List.drop_drop, List.count_eq_zero.2 h3] at this
            rw [show st + i + 1 = st + (i + 1) from by omega]
            omega
          · have := B5
            simpa using this
    have := key (s.data.toList.count c) 0 σ2 D2 (by omega) (by simp) (by omega) (by simpa using B2) O2
    rw [Nat.sub_self] at this
    exact this
end Go.Proofs.YtlpcehbfoogejaaGreatDoor

/- WHAT IS RENAMED in the root, and renamed back, is as it was. -/
namespace Go.Wk
open Go Go.HL
variable {A : AT}
theorem root_walk (h : Inv A) : A.walk 10 1 ⟨⟨[47]⟩⟩ true 8 = (0, ⟨1, ⟨⟨[]⟩⟩, 1, true⟩, 8) := by
  rw [AT.walk]
  have h1 : mayE ⟨⟨[47]⟩⟩ = 0 := by decide +kernel
  have h2 : headIs 47 ⟨⟨[47]⟩⟩ = true := by decide +kernel
  have h3 : partsB ⟨⟨[47]⟩⟩ = [] := by decide +kernel
  rw [h1, h2, h3]
  simp [AT.steps]
/-- a name alone, in the root -/
def locOne (A : AT) (s : ByteArray) : Int × Pl :=
  if sEq s ⟨⟨[]⟩⟩ = true then (5, Pl.z) else if hasNul s = true then (2, Pl.z)
  else if sEq s ⟨⟨[46]⟩⟩ = true ∨ sEq s ⟨⟨[46, 46]⟩⟩ = true then (0, ⟨1, ⟨⟨[]⟩⟩, 1, true⟩)
  else if s.size > 56 then (3, Pl.z) else (0, ⟨1, s, (A.find 1 s).getD 0, (A.find 1 s).isSome⟩)
theorem loc_one (h : Inv A) {s : ByteArray} (hs : (47 : UInt8) ∉ s.data.toList) (hz : s.size ≤ 60) : A.locate ⟨⟨[47]⟩⟩ s false = locOne A s := by
  have hk : A.kind 1 = 2 := dir_kind h.root_dir
  have hu : A.upOf 1 = 1 := by
    obtain ⟨n, h1, _, h3⟩ := h.root
    unfold AT.upOf; rw [h1]; exact h3
  have h2 : headIs 47 ⟨⟨[47]⟩⟩ = true := by decide +kernel
  unfold AT.locate locOne
  cases h0 : sEq s ⟨⟨[]⟩⟩ with
  | true => simp
  | false =>
    have hh : headIs 47 s = false := by
      unfold headIs
      cases hl : s.data.toList with
      | nil => rfl
      | cons x r =>
        simp only
        cases hx : (x == 47) with
        | false => rfl
        | true => exfalso; apply hs; rw [hl]; simp at hx; subst hx; simp
    rw [hh, h2, root_walk h]
    simp only [Bool.false_eq_true, if_false, Bool.true_eq_false, ne_eq, not_true_eq_false, hk]
    rw [AT.walk]
    unfold mayE
    rw [h0]
    have hsz : ¬ s.size > 255 := by omega
    simp only [hsz, if_false, Bool.false_eq_true]
    cases hn : hasNul s with
    | true => simp
    | false =>
      simp only [Bool.false_eq_true, if_false, ne_eq, not_true_eq_false, hh]
      have hp : partsB s = if sEq s ⟨⟨[46]⟩⟩ = true then [] else [s] := by
        unfold partsB
        rw [splitL_none hs]
        show List.filter okPart [s] = _
        have : okPart s = !sEq s ⟨⟨[46]⟩⟩ := by unfold okPart; rw [h0]; rfl
        cases hd : sEq s ⟨⟨[46]⟩⟩ with
        | true => simp [this, hd]
        | false => simp [this, hd]
      rw [hp]
      cases hd : sEq s ⟨⟨[46]⟩⟩ with
      | true => simp [AT.steps]
      | false =>
        simp only [Bool.false_eq_true, if_false, false_or]
        cases hdd : sEq s ⟨⟨[46, 46]⟩⟩ with
        | true =>
          simp only [if_true]
          rw [steps_up rfl hk hdd]
          show ((A.steps _ false [] ⟨A.upOf 1, ⟨⟨[]⟩⟩, A.upOf 1, true⟩ 8).1, _) = _
          rw [hu]; simp [AT.steps]
        | false =>
          simp only [Bool.false_eq_true, if_false]
          by_cases h56 : s.size > 56
          · rw [if_pos h56, steps_long rfl hk hdd h56]
          · rw [if_neg h56, steps_name rfl hk hdd h56 (.inr (.inl rfl))]
            simp [AT.steps]
theorem names_mem' (h : Inv A) {d : Int} {s : ByteArray} (hm : s ∈ A.names d) : ∃ j, A.find d s = some j := by
  unfold AT.names at hm
  cases hn : A.get d with
  | none => rw [hn] at hm; simp at hm
  | some n =>
    rw [hn] at hm
    simp only [sortN, List.mem_map] at hm
    obtain ⟨l, hl, rfl⟩ := hm
    have := (sortB_perm _).mem_iff.1 hl
    obtain ⟨k, hk, rfl⟩ := List.mem_map.1 this
    show ∃ j, A.find d k = some j
    unfold AT.find; rw [hn]
    cases hlk : lk k n.ents with
    | some j => exact ⟨j, hlk⟩
    | none => exact absurd hk (lk_none_iff.1 hlk)
theorem levels_same {M : AT} (h : Inv A) (hM : ∀ j, j ≠ 1 → M.get j = A.get j) : ∀ (f : Nat) (j : Int), j ≠ 1 → M.levels f j = A.levels f j := by
  intro f
  induction f with
  | zero => intro j _; rfl
  | succ f ih =>
    intro j hj
    unfold AT.levels
    have hk : M.kind j = A.kind j := by unfold AT.kind; rw [hM j hj]
    have hn : M.names j = A.names j := by unfold AT.names; rw [hM j hj]
    have hf : ∀ s, M.find j s = A.find j s := by intro s; unfold AT.find; rw [hM j hj]
    rw [hk, hn]
    by_cases hd : A.kind j ≠ 2
    · rw [if_pos hd, if_pos hd]
    rw [if_neg hd, if_neg hd]
    congr 1
    have key : ∀ (l : List ByteArray) (n : Int), (∀ s ∈ l, s ∈ A.names j) → l.foldl (fun n s => let x := AT.levels M f ((M.find j s).getD 0); if x > n then x else n) n = l.foldl (fun n s => let x := AT.levels A f ((A.find j s).getD 0); if x > n then x else n) n := by
      intro l
      induction l with
      | nil => intro n _; rfl
      | cons s r ihl =>
        intro n hl
        obtain ⟨k, hk⟩ := names_mem' h (hl s (List.mem_cons_self ..))
        obtain ⟨_, _, _, _, hk1, _⟩ := h.find hk
        simp only [List.foldl_cons]
        rw [hf s, hk]
        simp only [Option.getD_some]
        rw [ih k hk1]
        exact ihl _ fun s hs => hl s (List.mem_cons_of_mem _ hs)
    exact key _ 0 (fun _ h => h)
/-- an entry of the root has another name -/
structure Ren (A : AT) (a b : ByteArray) (i : Int) (M : AT) : Prop where
  inv : Inv M
  new : M.find 1 b = some i
  old : M.find 1 a = none
  same : ∀ j, j ≠ 1 → M.get j = A.get j
  ui : M.ui = A.ui
  ub : M.ub = A.ub
theorem ren_step {N : Nat} (h : Inv A) (hb : Bd N A) {a b : ByteArray} {i : Int} (hfa : A.find 1 a = some i) (hfb : A.find 1 b = none) (hnb : namedE b = 0) (hdp : ∀ r k, A.isDir k → Below A i r k → 2 + (r : Int) ≤ 12) :
    A.moveR 1 a 1 b 14 = (0, A.moved 1 a 1 b) ∧ Ren A a b i (A.moved 1 a 1 b) ∧ Bd (N + 1) (A.moved 1 a 1 b) := by
  have hd1 := h.root_dir
  obtain ⟨_, _, _, hlk0, hi1, nn, hnn, hup⟩ := h.find hfa
  have hne : a ≠ b := by intro e; rw [e, hfb] at hfa; cases hfa
  have hnb1 : nn.kind = 2 → ∀ r, ¬ Below A i r 1 := by
    intro _ r hr
    cases r with
    | zero => exact hi1 hr.symm
    | succ r => exact hr.2.1 rfl
  have hd12 : A.deep 12 1 = some 1 := by unfold AT.deep; rw [if_pos rfl]
  obtain ⟨q1, q2, ns, nt', q3, q4, q5, q6⟩ := moved_ok h hb hd1 hd1 hnb hfa hfb hnn hnb1 (fun _ dt r k hdt hk hbl => by
    rw [hd12] at hdt; cases hdt
    have := hdp r k hk hbl; omega)
  rw [if_pos rfl] at q5
  have hlk : lk a ns.ents = some i := by unfold AT.find at hfa; rw [q3] at hfa; exact hfa
  have hnd := h.enod 1 ns q3
  have g1 : (A.moved 1 a 1 b).get 1 = some { nt' with ents := up b i nt'.ents } := by
    rw [q6.get, if_neg (fun e => hi1 e.symm), if_pos rfl]
  refine ⟨?_, ⟨q1, ?_, ?_, ?_, q6.ui, q6.ub⟩, q2⟩
  · unfold AT.moveR
    have e1 : A.moveE1 1 a 1 b = 0 := by unfold AT.moveE1; simp [firstE, AT.dirE_of hd1, hnb, hfa]
    rw [if_neg (by rintro (h | h); exact h e1; exact hne h.2)]
    simp only
    have e2 : A.apart ((A.find 1 a).getD 0) 14 1 = some true := by unfold AT.apart; rw [if_pos rfl]
    rw [e2, hfb]
    rfl
  · unfold AT.find; rw [g1]
    show lk b (up b i nt'.ents) = some i
    rw [lk_up]; simp
  · unfold AT.find; rw [g1]
    show lk a (up b i nt'.ents) = none
    rw [lk_up]
    have : (a == b) = false := by simpa using hne
    rw [this, q5]
    show lk a (rm a ns.ents) = none
    rw [lk_rm hnd]; simp
  · intro j hj
    rw [q6.get]
    by_cases e : j = i
    · subst e
      rw [if_pos rfl, hnn]
      cases hk : (nn.kind == 2) with
      | false => rfl
      | true =>
        have hu : nn.up = 1 := hup (by simpa using hk)
        obtain ⟨k, m, d, l, u, es⟩ := nn
        have hu : u = 1 := hu
        subst hu; rfl
    · rw [if_neg e, if_neg hj, if_neg hj]
theorem find_ino (h : Inv A) {s : ByteArray} {i : Int} (hf : A.find 1 s = some i) : ∃ nn, A.get i = some nn := by
  obtain ⟨_, _, _, _, _, nn, hnn, _⟩ := h.find hf
  exact ⟨nn, hnn⟩
/-- a name that may be, or its place has none -/
def plain1 (s : ByteArray) : Prop := sEq s ⟨⟨[]⟩⟩ = false ∧ hasNul s = false ∧ sEq s ⟨⟨[46]⟩⟩ = false ∧ sEq s ⟨⟨[46, 46]⟩⟩ = false ∧ s.size ≤ 56
theorem plain1_named {s : ByteArray} (hs : (47 : UInt8) ∉ s.data.toList) (h : plain1 s) : namedE s = 0 := by
  obtain ⟨h1, h2, h3, h4, h5⟩ := h
  have hb : badByte s = false := by
    unfold badByte; rw [List.any_eq_false]
    intro x hx
    unfold hasNul at h2; rw [List.any_eq_false] at h2
    have := h2 x hx
    simp only [Bool.or_eq_true, not_or]
    refine ⟨fun e => ?_, this⟩
    simp at e; subst e; exact hs hx
  unfold namedE
  rw [if_neg (by omega), h1, h3, h4, hb]; rfl
theorem locOne_plain {s : ByteArray} (h : plain1 s) : locOne A s = (0, ⟨1, s, (A.find 1 s).getD 0, (A.find 1 s).isSome⟩) := by
  obtain ⟨h1, h2, h3, h4, h5⟩ := h
  unfold locOne
  rw [if_neg (by rw [h1]; simp), if_neg (by rw [h2]; simp), if_neg (by rw [h3, h4]; simp), if_neg (by omega)]
theorem locOne_cases (s : ByteArray) : plain1 s ∨ (locOne A s).1 ≠ 0 ∨ (locOne A s) = (0, ⟨1, ⟨⟨[]⟩⟩, 1, true⟩) := by
  unfold locOne plain1
  cases h1 : sEq s ⟨⟨[]⟩⟩ with
  | true => right; left; simp
  | false =>
    cases h2 : hasNul s with
    | true => right; left; simp
    | false =>
      cases h3 : sEq s ⟨⟨[46]⟩⟩ with
      | true => right; right; simp
      | false =>
        cases h4 : sEq s ⟨⟨[46, 46]⟩⟩ with
        | true => right; right; simp
        | false =>
          by_cases h5 : s.size > 56
          · right; left; simp [h5]
          · left; exact ⟨rfl, rfl, rfl, rfl, by omega⟩
theorem stat_plain (h : Inv A) {s : ByteArray} (hs : (47 : UInt8) ∉ s.data.toList) (hz : s.size ≤ 60) (hp : plain1 s) : A.stat ⟨⟨[47]⟩⟩ s false = match A.find 1 s with
    | none => (5, IN.z)
    | some i => (0, A.ino i) := by
  unfold AT.stat AT.with_
  rw [loc_one h hs hz, locOne_plain hp]
  cases hf : A.find 1 s with
  | none => simp
  | some i =>
    obtain ⟨nn, hnn⟩ := find_ino h hf
    simp only [Option.getD_some, Option.isSome_some, ne_eq, not_true_eq_false, if_false, Bool.true_eq_false]
    rw [hnn]
    unfold AT.ino; rw [hnn]; rfl
theorem renameF_plain (h : Inv A) {a b : ByteArray} (ha : (47 : UInt8) ∉ a.data.toList) (hb : (47 : UInt8) ∉ b.data.toList) (za : a.size ≤ 60) (zb : b.size ≤ 60) (he : (A.renameF ⟨⟨[47]⟩⟩ a b).1 = 0) : plain1 a ∧ plain1 b ∧ (A.find 1 a).isSome = true := by
  unfold AT.renameF AT.both at he
  rw [loc_one h ha za, loc_one h hb zb] at he
  simp only at he
  rcases locOne_cases (A := A) a with pa | pa | pa
  · rcases locOne_cases (A := A) b with pb | pb | pb
    · refine ⟨pa, pb, ?_⟩
      rw [locOne_plain pa, locOne_plain pb] at he
      simp only [ne_eq, not_true_eq_false, if_false, pa.1, pb.1, Bool.false_eq_true, or_self] at he
      cases hf : A.find 1 a with
      | some i => rfl
      | none => rw [hf] at he; simp at he
    · exfalso
      rw [locOne_plain pa] at he
      simp only [ne_eq, not_true_eq_false, if_false] at he
      rw [if_pos pb] at he; exact pb he
    · exfalso
      rw [locOne_plain pa, pb] at he
      simp only [ne_eq, not_true_eq_false, if_false] at he
      rw [if_pos (.inr (by rfl))] at he; cases he
  · exfalso
    rw [if_pos pa] at he
    simp only at he
    rw [if_pos pa] at he; exact pa he
  · exfalso
    rw [pa] at he
    simp only [ne_eq, not_true_eq_false, if_false] at he
    by_cases hq : (locOne A b).1 = 0
    · rw [if_neg (by simpa using hq), if_pos (.inl (by rfl))] at he; cases he
    · rw [if_pos hq] at he; exact hq he
theorem mod_ui (X : AT) (i : Int) (f : AN → AN) : (X.mod i f).ui = X.ui := by unfold AT.mod; split <;> rfl
theorem ent_ui (X : AT) (i : Int) (f : List (ByteArray × Int) → List (ByteArray × Int)) : (X.ent i f).ui = X.ui := by unfold AT.ent; split <;> rfl
theorem moved_ui (X : AT) (s : Int) (n : ByteArray) (t : Int) (m : ByteArray) : (X.moved s n t m).ui = X.ui := by
  unfold AT.moved; simp only; rw [mod_ui, ent_ui, ent_ui]
theorem moveR_ui (X : AT) (s : Int) (n : ByteArray) (t : Int) (m : ByteArray) (f : Nat) : (X.moveR s n t m f).2.ui = X.ui := by
  unfold AT.moveR
  by_cases c1 : X.moveE1 s n t m ≠ 0 ∨ (s = t ∧ n = m)
  · rw [if_pos c1]
  rw [if_neg c1]
  simp only
  by_cases c2 : firstE [if (X.find t m).isSome then 6 else 0, if (X.apart ((X.find s n).getD 0) f t).getD false then 0 else 2] ≠ 0
  · rw [if_pos c2]
  rw [if_neg c2]
  exact moved_ui X s n t m
theorem unlinkR_ui (h : Inv A) (d : Int) (n : ByteArray) : (A.unlinkR d n).2.ui ≤ A.ui := by
  have h1 := h.ui_pos
  have h2 := h.uq
  unfold AT.unlinkR
  split
  · unfold AT.unlinked
    simp only
    split
    · rw [mod_ui, ent_ui]; exact Int.le_refl _
    · split
      · show wr (A.ui - 1) ≤ A.ui
        rw [wr_id (by omega) (by omega)]; omega
      · rw [mod_ui, ent_ui]; exact Int.le_refl _
  · exact Int.le_refl _
theorem renameF_ui (h : Inv A) (c a b : ByteArray) : (A.renameF c a b).2.ui ≤ A.ui := by
  unfold AT.renameF
  simp only
  split
  · exact Int.le_refl _
  split
  · exact Int.le_refl _
  split
  · exact Int.le_refl _
  split
  · exact Int.le_refl _
  split
  · exact Int.le_refl _
  split
  · split
    · exact unlinkR_ui h _ _
    · rw [moveR_ui]; exact unlinkR_ui h _ _
  · rw [moveR_ui]; exact Int.le_refl _
/-- one renaming, where nothing is in its way -/
theorem rename_one {N : Nat} (h : Inv A) (hB : Bd N A) {a b : ByteArray} {i : Int} (ha : (47 : UInt8) ∉ a.data.toList) (hb : (47 : UInt8) ∉ b.data.toList) (za : a.size ≤ 60) (zb : b.size ≤ 60) (pa : plain1 a) (pb : plain1 b) (hfa : A.find 1 a = some i) (hfb : A.find 1 b = none) :
    A.renameF ⟨⟨[47]⟩⟩ a b = if 1 + A.levels 14 i > 12 then (3, A) else A.moveR 1 a 1 b 14 := by
  obtain ⟨_, _, _, _, hi1, _⟩ := h.find hfa
  unfold AT.renameF AT.both
  rw [loc_one h ha za, loc_one h hb zb, locOne_plain pa, locOne_plain pb]
  simp only [ne_eq, not_true_eq_false, if_false, pa.1, pb.1, Bool.false_eq_true, or_self, hfa, hfb, Option.isSome_some, Option.isSome_none, Bool.true_eq_false, false_and, Option.getD_some, Option.getD_none]
  have ho : A.overE ⟨1, a, i, true⟩ ⟨1, b, 0, false⟩ = if 1 + A.levels 14 i > 12 then 3 else 0 := by
    unfold AT.overE
    have hw : A.within i 13 1 = some false := by unfold AT.within; rw [if_neg (fun e => hi1 e.symm), if_pos rfl]
    have hd : A.deep 13 1 = some 1 := by unfold AT.deep; rw [if_pos rfl]
    simp only [if_true, ne_eq, not_true_eq_false, if_false, hw, hd, Option.getD_some, Bool.false_eq_true, and_false]
  rw [ho]
  by_cases hc : 1 + A.levels 14 i > 12
  · rw [if_pos hc, if_pos hc, if_pos (by decide)]
  · rw [if_neg hc, if_neg hc, if_neg (by decide)]
theorem levels_room (h : Inv A) {i : Int} (hl : ¬ (1 + A.levels 14 i > 12)) : ∀ r k, A.isDir k → Below A i r k → 2 + (r : Int) ≤ 12 := by
  intro r k hk hb
  obtain ⟨d, hd⟩ := h.deep k hk
  have hr := below_deep hb hd
  have hdb := deep_bound hd
  by_cases hi : A.isDir i
  · have := levels_below h r 14 i k hk hi hb (by omega); omega
  · exfalso
    have : ∀ r k, A.isDir k → Below A i r k → A.isDir i := by
      intro r
      induction r with
      | zero => intro k hk hb; have hb : k = i := hb; rw [← hb]; exact hk
      | succ r ih => intro k hk hb; exact ih _ (h.isDir_up hk) hb.2.2
    exact hi (this r k hk hb)
/-- THE LAW -/
theorem back_law {N : Nat} (h : Inv A) (hB : Bd N A) {a b : ByteArray} (ha : (47 : UInt8) ∉ a.data.toList) (hb : (47 : UInt8) ∉ b.data.toList) (za : a.size ≤ 60) (zb : b.size ≤ 60) (he : (A.renameF ⟨⟨[47]⟩⟩ a b).1 = 0) (hx : (A.stat ⟨⟨[47]⟩⟩ a false).1 = 0) (hg : (A.stat ⟨⟨[47]⟩⟩ b false).1 ≠ 0) :
    (A.renameF ⟨⟨[47]⟩⟩ a b).2.stat ⟨⟨[47]⟩⟩ b false = (0, (A.stat ⟨⟨[47]⟩⟩ a false).2) ∧ (A.renameF ⟨⟨[47]⟩⟩ a b).2.ui = A.ui ∧ (A.renameF ⟨⟨[47]⟩⟩ a b).2.ub = A.ub ∧
    ((A.renameF ⟨⟨[47]⟩⟩ a b).2.renameF ⟨⟨[47]⟩⟩ b a).1 = 0 ∧ ((A.renameF ⟨⟨[47]⟩⟩ a b).2.renameF ⟨⟨[47]⟩⟩ b a).2.stat ⟨⟨[47]⟩⟩ a false = (0, (A.stat ⟨⟨[47]⟩⟩ a false).2) ∧ (((A.renameF ⟨⟨[47]⟩⟩ a b).2.renameF ⟨⟨[47]⟩⟩ b a).2.stat ⟨⟨[47]⟩⟩ b false).1 ≠ 0 ∧
    ((A.renameF ⟨⟨[47]⟩⟩ a b).2.renameF ⟨⟨[47]⟩⟩ b a).2.ui = A.ui ∧ ((A.renameF ⟨⟨[47]⟩⟩ a b).2.renameF ⟨⟨[47]⟩⟩ b a).2.ub = A.ub := by
  obtain ⟨pa, pb, hf⟩ := renameF_plain h ha hb za zb he
  obtain ⟨i, hfa⟩ := Option.isSome_iff_exists.1 hf
  have hfb : A.find 1 b = none := by
    cases hfb : A.find 1 b with
    | none => rfl
    | some j => rw [stat_plain h hb zb pb, hfb] at hg; exact absurd rfl hg
  have e1 := rename_one h hB ha hb za zb pa pb hfa hfb
  have hl : ¬ (1 + A.levels 14 i > 12) := by
    intro hc; rw [e1, if_pos hc] at he; cases he
  rw [if_neg hl] at e1
  obtain ⟨s1, R, hB1⟩ := ren_step h hB hfa hfb (plain1_named hb pb) (levels_room h hl)
  rw [s1] at e1
  rw [e1]
  simp only
  generalize A.moved 1 a 1 b = M at *
  obtain ⟨_, _, _, _, hi1, _⟩ := h.find hfa
  have hl2 : M.levels 14 i = A.levels 14 i := levels_same h R.same 14 i hi1
  have e2 := rename_one R.inv hB1 hb ha zb za pb pa R.new R.old
  rw [hl2, if_neg hl] at e2
  obtain ⟨s2, R2, _⟩ := ren_step R.inv hB1 R.new R.old (plain1_named ha pa) (levels_room R.inv (by rw [hl2]; exact hl))
  rw [s2] at e2
  rw [e2]
  simp only
  generalize M.moved 1 b 1 a = M2 at *
  have i1 : M.ino i = A.ino i := by unfold AT.ino; rw [R.same i hi1]
  have i2 : M2.ino i = A.ino i := by unfold AT.ino; rw [R2.same i hi1, R.same i hi1]
  rw [stat_plain h ha za pa, hfa, stat_plain R.inv hb zb pb, R.new, stat_plain R2.inv ha za pa, R2.new, stat_plain R2.inv hb zb pb, R2.old]
  simp only [i1, i2]
  exact ⟨trivial, R.ui, R.ub, trivial, trivial, by decide, by rw [R2.ui, R.ui], by rw [R2.ub, R.ub]⟩
theorem back_first (h : Inv A) {a b : ByteArray} (ha : (47 : UInt8) ∉ a.data.toList) (hb : (47 : UInt8) ∉ b.data.toList) (za : a.size ≤ 60) (zb : b.size ≤ 60) (he : (A.renameF ⟨⟨[47]⟩⟩ a b).1 = 0) : (A.stat ⟨⟨[47]⟩⟩ a false).1 = 0 ∧ (A.renameF ⟨⟨[47]⟩⟩ a b).2.ui ≤ A.ui := by
  obtain ⟨pa, pb, hf⟩ := renameF_plain h ha hb za zb he
  obtain ⟨i, hfa⟩ := Option.isSome_iff_exists.1 hf
  exact ⟨by rw [stat_plain h ha za pa, hfa], renameF_ui h _ _ _⟩
end Go.Wk

/- FsBack: the walk. -/
set_option maxRecDepth 100000
namespace Go.Proofs.YtlpcehbfoogejaaGreatDoor
open Go Go.HL Go.Wk
attribute [local irreducible] ptrW ifW brW andW rdT alW letJ stW muW biW vaW imW callT cvalT app callW invW callVW sizeT oW nilF oneK loopW rfW funW begW roundK exW idxW Gr Put
theorem s_played8 {σ : H} (x : Sl) (acts : List Act) (hx : ActsAt σ acts x) {K : Value → H → Prop} (hK : ∀ bf σ' A N B, Wk.Inv A → Bd N A → N ≤ 1000 → FsAt σ' bf A B → Off σ σ' B → K (.pointer (some ⟨bf, 0, none⟩)) σ') : callW Tryz.prog 30 [.slice x.base x.len x.cap] K σ := by
  refine c30 _ ?_
  unfold g30
  refine call_i (s_small8 ?_)
  intro bf σ3 B3 F3 O3
  refine app_P (loop_i ?_)
  intro R hR
  have key : ∀ (k i : Nat) (A : AT) (N : Nat) (τ : H) (B : Nat → Prop), k + i = 60 → Wk.Inv A → Bd N A → N ≤ 5 + i → FsAt τ bf A B → Off σ τ B → R x (some ⟨bf, 0, none⟩) (i : Int) τ := by
    intro k
    induction k with
    | zero =>
      intro i A N τ B hki hI hB hN hF hO
      refine hR _ _ _ _ ?_
      refine j_i (fun j => ∀ v1 v2 v3 v4, j x (some ⟨bf, 0, none⟩) (i : Int) v1 v2 v3 v4 false τ) ?_ ?_
      · intro v1 v2 v3 v4
        exact br_f rfl (hK bf τ A N B hI hB (by omega) hF hO)
      · intro j hj
        by_cases hl : (i : Int) < ((x.len : Nat) : Int)
        · refine br_t (by simpa using hl) ?_
          exact br_f (by simp only [decide_eq_false_iff_not]; omega) (hj _ _ _ _)
        · exact br_f (by simpa using hl) (hj _ _ _ _)
    | succ k ih =>
      intro i A N τ B hki hI hB hN hF hO
      refine hR _ _ _ _ ?_
      refine j_i (fun j => ∀ v1 v2 v3 v4 (b : Bool), (b = true → i < acts.length) → j x (some ⟨bf, 0, none⟩) (i : Int) v1 v2 v3 v4 b τ) ?_ ?_
      case refine_2 =>
        intro j hj
        have hlen := hx.len
        by_cases hl : (i : Int) < ((x.len : Nat) : Int)
        · refine br_t (by simpa using hl) (br_t (by simp only [decide_eq_true_eq]; omega) (hj _ _ _ _ _ (fun _ => by omega)))
        · exact br_f (by simpa using hl) (hj _ _ _ _ _ (fun h => by cases h))
      intro v1 v2 v3 v4 b hb
      cases b with
      | false => exact br_f rfl (hK bf τ A N B hI hB (by omega) hF hO)
      | true =>
        have hlt := hb rfl
        refine br_t rfl ?_
        refine j_i (fun j => ∀ (r : Int × AT) τ5 B5 w1 w2 w3 w4, OpInv (N + 1) A r → FsAt τ5 bf r.2 B5 → Off σ τ5 B5 → j x (some ⟨bf, 0, none⟩) (i : Int) w1 w2 w3 w4 τ5) ?_ ?_
        · intro r τ5 B5 w1 w2 w3 w4 hop F5 O5
          rw [wrap_id (x := (i : Int) + 1) (by omega) (by omega)]
          exact ih (i + 1) r.2 (N + 1) τ5 B5 (by omega) hop.inv hop.bd (by omega) F5 O5
        intro j hj
        obtain ⟨ac, hac⟩ : ∃ ac, acts[i]? = some ac := ⟨_, List.getElem?_eq_getElem hlt⟩
        obtain ⟨g, o, hbs, hrd⟩ := ActsAt.rd (show ActsAt τ acts x from RowsAt.gr hx hO.1) hac
        rw [hbs]
        have hrd' : rdA 6 g (o + (i : Int).toNat * 6) τ = some (.agg ⟨ac.cells⟩) := by simpa using hrd
        refine ptr_i (if_i ⟨by omega, by have := hx.len; omega⟩ (rd_G hrd' ?_))
        unfold Act.cells
        (refine app_of rfl ?_; try dsimp only)
        refine al_i ?_; intro b30 τ1 g4 e4 n4
        refine st_i2 e4 sz_Act8 (by rfl) (by rfl) ?_; intro τ2 p4
        have hg4 : Gr τ τ2 := g4.putF p4 n4
        have k30 : τ2 b30 = some (.cells ⟨[.int .u8 ac.what, .string ac.cwd, .string ac.a, .string ac.b, .int .i64 ac.mode, .bool ac.flag]⟩ 40 (0, 0)) := p4.same
        clear p4 e4
        have F4 := hF.gr hg4
        have O4 := hO.gr hg4
        refine rd_S (rdC_of k30 (by rfl)) (rd_S (rdC_of k30 (by rfl)) (rd_S (rdC_of k30 (by rfl)) ?_))
        refine call_i (s_text8 _ (app_S (and_i (rdC_of k30 (by rfl)) (and_i (rdC_of k30 (by rfl)) ?_))))
        refine call_i (s_text8 _ (app_S (and_i (rdC_of k30 (by rfl)) ?_)))
        refine call_i (s_text8 _ (app_S ?_))
        have hj' : ∀ (r : Int × AT) τ5 B5, OpInv (N + 1) A r → FsAt τ5 bf r.2 B5 → Sep τ2 B τ5 B5 → j x (some ⟨bf, 0, none⟩) (i : Int) v1 v2 v3 v4 τ5 := fun r τ5 B5 h1 h2 h3 => hj r τ5 B5 _ _ _ _ h1 h2 (O4.sep h3)
        clear hj
        refine rd_I (rdC_of k30 (by rfl)) (if_i (by decide) ?_)
        show brW ((Int.tmod ac.what 7 : Int) == 0) _ _ _
        have hN1 : N ≤ 1000000000000 := by omega
        by_cases c0 : Int.tmod ac.what 7 = 0
        · refine br_t (by simpa using c0) (rd_B (rdC_of k30 (by rfl)) ?_)
          refine call_i (s_Write hI hB hN1 F4 _ _ _ _ (by have := tx_size ac.b; unfold tx at this; omega) ?_)
          intro τ5 B5 F5 S5
          exact app_I (hj' _ τ5 B5 ((writeF_ok hI hB (by omega) _ _ _ _ (by have := tx_size ac.b; unfold tx at this; omega)).toInv) F5 S5)
        refine br_f (by simpa using c0) ?_
        by_cases c1 : Int.tmod ac.what 7 = 1
        · refine br_t (by simpa using c1) (call_i (s_Mkdir hI hB hN1 F4 _ _ ?_))
          intro τ5 B5 F5 S5
          exact app_I (hj' _ τ5 B5 ((mkdirF_ok hI hB (by omega) _ _).toInv) F5 S5)
        refine br_f (by simpa using c1) ?_
        by_cases c2 : Int.tmod ac.what 7 = 2
        · refine br_t (by simpa using c2) (call_i (s_Remove hI hB hN1 F4 _ _ ?_))
          intro τ5 B5 F5 S5
          exact app_I (hj' _ τ5 B5 (((removeF_ok hI hB (by omega) _ _).mono (by omega)).toInv) F5 S5)
        refine br_f (by simpa using c2) ?_
        by_cases c3 : Int.tmod ac.what 7 = 3
        · refine br_t (by simpa using c3) (call_i (s_Rename hI hB hN1 F4 _ _ _ ?_))
          intro τ5 B5 F5 S5
          exact app_I (hj' _ τ5 B5 (renameF_inv hI hB (by omega) _ _ _) F5 S5)
        refine br_f (by simpa using c3) ?_
        by_cases c4 : Int.tmod ac.what 7 = 4
        · refine br_t (by simpa using c4) (call_i (s_Symlink hI hB hN1 F4 _ _ _ ?_))
          intro τ5 B5 F5 S5
          exact app_I (hj' _ τ5 B5 ((symlinkF_ok hI hB (by omega) _ _ _).toInv) F5 S5)
        refine br_f (by simpa using c4) ?_
        by_cases c5 : Int.tmod ac.what 7 = 5
        · refine br_t (by simpa using c5) (call_i (s_Hard F4 _ _ _ ?_))
          intro τ5 B5 F5 S5
          exact app_I (hj' _ τ5 B5 ((hardF_ok hI hB (by omega) _ _ _).toInv) F5 S5)
        · refine br_f (by simpa using c5) (rd_I (rdC_of k30 (by rfl)) (call_i (s_Chmod F4 _ _ _ ?_)))
          intro τ5 B5 F5 S5
          exact app_I (hj' _ τ5 B5 (((chmodF_ok hI hB _ _ _).mono (by omega)).toInv) F5 S5)
  exact key 60 0 w4 5 σ3 B3 rfl i4 d4 (by omega) F3 O3
theorem cut60 (s : ByteArray) : (if 60 < ((s.size : Nat) : Int) then (60 : Int) else ((s.size : Nat) : Int)).toNat = min s.size 60 := by split <;> omega
theorem inV_eq (n : IN) : ((n.kind == n.kind) && ((n.mode == n.mode) && (strEq n.data n.data && ((n.links == n.links) && true)))) = true := by simp [strEq_self]
theorem s_FsBack {σ : H} (x : Sl) (acts : List Act) (hx : ActsAt σ acts x) (src to : ByteArray) {K : Value → H → Prop} (hK : ∀ σ', Gr σ σ' → K (.bool true) σ') :
    callW Tryz.prog 8 [.slice x.base x.len x.cap, .string src, .string to] K σ := by
  refine c8 _ _ _ ?_
  unfold g8
  refine call_i (s_works8 (app_B (br_f rfl ?_)))
  refine call_i (s_played8 x acts hx ?_)
  intro bf σ1 A N B hI hB hN F1 O1
  refine app_P (br_f rfl ?_)
  rw [cut60, cut60]
  refine if_i ⟨bnd_some (by split <;> omega) (by split <;> omega), bnd_none⟩ ?_
  have hz1 : (src.extract 0 (min src.size 60)).size ≤ 60 := by rw [ByteArray.size_extract]; omega
  have hz2 : (to.extract 0 (min to.size 60)).size ≤ 60 := by rw [ByteArray.size_extract]; omega
  generalize src.extract 0 (min src.size 60) = s1 at hz1 ⊢
  generalize to.extract 0 (min to.size 60) = s2 at hz2 ⊢
  refine call_i (s_RepAll 47 s1 (by omega) ?_)
  intro σ2 g2
  refine app_S (if_i ⟨bnd_some (by split <;> omega) (by split <;> omega), bnd_none⟩ ?_)
  refine call_i (s_RepAll 47 s2 (by omega) ?_)
  intro σ3 g3
  refine app_S ?_
  have ha : (47 : UInt8) ∉ (strip 47 s1).data.toList := strip_not 47 s1
  have hb : (47 : UInt8) ∉ (strip 47 s2).data.toList := strip_not 47 s2
  have za : (strip 47 s1).size ≤ 60 := by have := strip_size 47 s1; omega
  have zb : (strip 47 s2).size ≤ 60 := by have := strip_size 47 s2; omega
  generalize strip 47 s1 = a at ha za ⊢
  generalize strip 47 s2 = b at hb zb ⊢
  have O3 := (O1.gr g2).gr g3
  have F3 := (F1.gr g2).gr g3
  clear F1 O1 g2 g3
  refine call_i (s_Stat F3 _ _ _ ?_)
  have law := back_law hI hB ha hb za zb
  have first := back_first hI ha hb za zb
  generalize hX : A.stat ⟨⟨[47]⟩⟩ a false = X at law first ⊢
  unfold inV
  (refine app_of rfl ?_; try dsimp only)
  refine al_i ?_; intro b13 σ4 g4 e4 n4
  refine st_i2 e4 sz_Inode (by rfl) (by rfl) ?_; intro σ5 p5
  have hg5 : Gr σ3 σ5 := g4.putF p5 n4
  have k13 : σ5 b13 = some (.cells ⟨inV X.2⟩ 54 (0, 0)) := p5.same
  have F5 := F3.gr hg5
  have O5 := O3.gr hg5
  have n13 : ¬ B b13 := F3.fresh n4
  clear p5 e4
  refine call_i (s_Stat F5 _ _ _ ?_)
  generalize hY : A.stat ⟨⟨[47]⟩⟩ b false = Y at law ⊢
  unfold inV
  (refine app_of rfl ?_; try dsimp only)
  refine al_i ?_; intro b19 σ6 g6 e6 n6
  refine st_i2 e6 sz_Inode (by rfl) (by rfl) ?_; intro σ7 p7
  have hg7 : Gr σ5 σ7 := g6.putF p7 n6
  have F7 := F5.gr hg7
  have O7 := O5.gr hg7
  have k13 := hg7.get k13
  clear p7 e6
  refine call_i (s_Used F7 ?_)
  (refine app_of rfl ?_; try dsimp only)
  refine al_i ?_; intro b22 σ8 g8 e8 n8
  refine st_i2 e8 sz_Quota (by rfl) (by rfl) ?_; intro σ9 p9
  have hg9 : Gr σ7 σ9 := g8.putF p9 n8
  have k22 : σ9 b22 = some (.cells ⟨[.int .i64 A.ui, .int .i64 A.ub]⟩ 31 (0, 0)) := p9.same
  have F9 := F7.gr hg9
  have O9 := O7.gr hg9
  have k13 := hg9.get k13
  have n22 : ¬ B b22 := F7.fresh n8
  clear p9 e8
  refine call_i (s_Rename hI hB (by omega) F9 _ _ _ ?_)
  intro σ10 B10 F10 S10
  have O10 := O9.sep S10
  obtain ⟨k13, m13⟩ := S10 _ _ k13 n13
  obtain ⟨k22, m22⟩ := S10 _ _ k22 n22
  have R1 := renameF_inv hI hB (by omega) ⟨⟨[47]⟩⟩ a b
  generalize hR1 : A.renameF ⟨⟨[47]⟩⟩ a b = r1 at law first R1 F10 ⊢
  obtain ⟨h, A1⟩ := r1
  clear S10
  refine app_I ?_
  refine j_i (fun j => ∀ t : Bool, (t = true → h ≠ 0 ∨ X.1 ≠ 0 ∨ Y.1 = 0) → (t = false → h = 0 ∧ X.1 = 0 ∧ Y.1 ≠ 0) → j a b (some ⟨bf, 0, none⟩) (some ⟨b13, 0, none⟩) X.1 (some ⟨b22, 0, none⟩) h t σ10) ?_ ?_
  case refine_2 =>
    intro j hj
    by_cases c1 : h = 0
    · refine br_f (by simpa using c1) ?_
      by_cases c2 : X.1 = 0
      · refine br_f (by simpa using c2) (hj _ ?_ ?_)
        · intro e; exact .inr (.inr (by simpa using e))
        · intro e; exact ⟨c1, c2, by simpa using e⟩
      · exact br_t (by simpa using c2) (hj _ (fun _ => .inr (.inl c2)) (fun e => by cases e))
    · exact br_t (by simpa using c1) (hj _ (fun _ => .inl c1) (fun e => by cases e))
  intro t h1 h2
  cases t with
  | true =>
    have h1 := h1 rfl
    refine br_t rfl ?_
    by_cases c1 : h = 0
    · obtain ⟨f1, f2⟩ := first c1
      refine br_f (by simpa using c1) (br_t (by simpa using f1) (ptr_i (rd_I (rdC_of k22 (by rfl)) ?_)))
      refine call_i (s_Used F10 ?_)
      (refine app_of rfl ?_; try dsimp only)
      refine and_i (rdC_of k22 (by rfl)) ?_
      have : decide (A1.ui ≤ A.ui) = true := by simpa using f2
      rw [this]
      exact hK σ10 O10.1
    · exact br_t (by simpa using c1) (hK σ10 O10.1)
  | false =>
    obtain ⟨c1, c2, c3⟩ := h2 rfl
    obtain ⟨l1, l2, l3, l4, l5, l6, l7, l8⟩ := law c1 c2 c3
    refine br_f rfl ?_
    refine call_i (s_Stat F10 _ _ _ ?_)
    rw [l1]
    unfold inV at k13 ⊢
    (refine app_of rfl ?_; try dsimp only)
    refine al_i ?_; intro b43 σ11 g11 e11 n11
    refine st_i2 e11 sz_Inode (by rfl) (by rfl) ?_; intro σ12 p12
    have hg12 : Gr σ10 σ12 := g11.putF p12 n11
    have k43 : σ12 b43 = some (.cells ⟨inV X.2⟩ 54 (0, 0)) := p12.same
    unfold inV at k43
    have F12 := F10.gr hg12
    have O12 := O10.gr hg12
    have k13 := hg12.get k13
    have k22 := hg12.get k22
    clear p12 e11
    have R2 := renameF_inv R1.inv R1.bd (by omega) ⟨⟨[47]⟩⟩ b a
    refine j_i (fun j => ∀ σ13 B13, FsAt σ13 bf (A1.renameF ⟨⟨[47]⟩⟩ b a).2 B13 → Sep σ12 B10 σ13 B13 → j a b (some ⟨bf, 0, none⟩) (some ⟨b13, 0, none⟩) (some ⟨b22, 0, none⟩) false σ13) ?_ ?_
    case refine_2 =>
      intro j hj
      refine br_f rfl (ptr_i (rd_G (rdA_of' k13 (by rfl)) ?_))
      (refine app_of rfl ?_; try dsimp only)
      refine rd_G (rdA_of' k43 (by rfl)) ?_
      (refine app_of rfl ?_; try dsimp only)
      rw [inV_eq]
      refine br_f rfl (ptr_i (rd_G (rdA_of' k22 (by rfl)) ?_))
      (refine app_of rfl ?_; try dsimp only)
      refine call_i (s_Used F12 ?_)
      (refine app_of rfl ?_; try dsimp only)
      refine and_i (rdA_of' k22 (by rfl)) ?_
      have : (!((A1.ui == A.ui) && ((A1.ub == A.ub) && true))) = false := by
        have l2 : A1.ui = A.ui := l2
        have l3 : A1.ub = A.ub := l3
        rw [l2, l3]; simp
      rw [this]
      refine br_f rfl (call_i (s_Rename R1.inv R1.bd (by omega) F12 _ _ _ ?_))
      intro σ13 B13 F13 S13
      refine app_I ?_
      have l4 : (A1.renameF ⟨⟨[47]⟩⟩ b a).1 = 0 := l4
      rw [l4]
      exact hj σ13 B13 F13 S13
    intro σ13 B13 F13 S13
    have O13 := O12.sep S13
    obtain ⟨k13, m13⟩ := S13 _ _ k13 m13
    obtain ⟨k22, m22⟩ := S13 _ _ k22 m22
    clear S13
    refine br_f rfl ?_
    generalize hA2 : (A1.renameF ⟨⟨[47]⟩⟩ b a).2 = A2 at l5 l6 l7 l8 F13
    refine call_i (s_Stat F13 _ _ _ ?_)
    rw [l5]
    unfold inV
    (refine app_of rfl ?_; try dsimp only)
    refine al_i ?_; intro b56 σ14 g14 e14 n14
    refine st_i2 e14 sz_Inode (by rfl) (by rfl) ?_; intro σ15 p15
    have hg15 : Gr σ13 σ15 := g14.putF p15 n14
    have k56 : σ15 b56 = some (.cells ⟨inV X.2⟩ 54 (0, 0)) := p15.same
    unfold inV at k56
    have F15 := F13.gr hg15
    have O15 := O13.gr hg15
    have k13 := hg15.get k13
    have k22 := hg15.get k22
    clear p15 e14
    refine call_i (s_Stat F15 _ _ _ ?_)
    generalize A2.stat ⟨⟨[47]⟩⟩ b false = Z at l6 ⊢
    unfold inV
    (refine app_of rfl ?_; try dsimp only)
    refine al_i ?_; intro b62 σ16 g16 e16 n16
    refine st_i2 e16 sz_Inode (by rfl) (by rfl) ?_; intro σ17 p17
    have hg17 : Gr σ15 σ17 := g16.putF p17 n16
    have F17 := F15.gr hg17
    have O17 := O15.gr hg17
    have k13 := hg17.get k13
    have k22 := hg17.get k22
    have k56 := hg17.get k56
    clear p17 e16
    refine br_t rfl (rd_G (rdA_of' k56 (by rfl)) ?_)
    (refine app_of rfl ?_; try dsimp only)
    refine ptr_i (rd_G (rdA_of' k13 (by rfl)) ?_)
    (refine app_of rfl ?_; try dsimp only)
    rw [inV_eq]
    refine br_t rfl (br_t (by simpa using l6) (ptr_i (rd_G (rdA_of' k22 (by rfl)) ?_)))
    (refine app_of rfl ?_; try dsimp only)
    refine call_i (s_Used F17 ?_)
    (refine app_of rfl ?_; try dsimp only)
    refine and_i (rdA_of' k22 (by rfl)) ?_
    rw [l7, l8]
    have : ((A.ui == A.ui) && ((A.ub == A.ub) && true)) = true := by simp
    rw [this]
    exact hK σ17 O17.1
end Go.Proofs.YtlpcehbfoogejaaGreatDoor

/- Slices of acts, read as an argument. -/
set_option maxRecDepth 100000
namespace Go.Proofs.YtlpcehbfoogejaaGreatDoor
open Go Go.HL Go.Wk Go.ChangeShapes Go.WideShapes Go.ChangeAt Go.RowKit
namespace act8
theorem cs_uint8 : Tryz.prog.cellsOf 5 = 1 := by kernel_rfl
theorem cs_string : Tryz.prog.cellsOf 9 = 1 := by kernel_rfl
theorem cs_int : Tryz.prog.cellsOf 3 = 1 := by kernel_rfl
theorem cs_bool : Tryz.prog.cellsOf 4 = 1 := by kernel_rfl
theorem act_of {D : Type} {enc : TypeId × Value → D} {W : World} {m : Nat} {r : List Value} {x : DataW D × List MemPlace} (h : DataW.trod enc Tryz.prog W 0 (fun _ => true) true m 40 r = some x) : ∃ a : Act, r = a.cells := by
  obtain ⟨xs, n, _, _, hl, hlen, hf⟩ := DataW.trod_struct Tryz.underlying40 h
  have hl : r.length = 6 := hl.trans (by kernel_rfl)
  have hlen : xs.length = 6 := hlen
  obtain ⟨a0, a1, a2, a3, a4, a5, rfl⟩ : ∃ a0 a1 a2 a3 a4 a5, r = [a0, a1, a2, a3, a4, a5] := by
    match r, hl with
    | [a0, a1, a2, a3, a4, a5], _ => exact ⟨_, _, _, _, _, _, rfl⟩
  have g : ∀ i, i < 6 → ∃ y, xs[i]? = some y := fun i hi => ⟨_, List.getElem?_eq_getElem (by omega)⟩
  have h0 := hf 0 _ rfl
  obtain ⟨y0, e0⟩ := g 0 (by decide)
  rw [e0] at h0
  obtain ⟨n0, q0, _⟩ := DataW.trod_int (k := .u8) Tryz.underlying5 h0
  have h1 := hf 1 _ rfl
  obtain ⟨y1, e1⟩ := g 1 (by decide)
  rw [e1] at h1
  obtain ⟨s1, q1, _⟩ := DataW.trod_string Tryz.underlying9 h1
  have h2 := hf 2 _ rfl
  obtain ⟨y2, e2⟩ := g 2 (by decide)
  rw [e2] at h2
  obtain ⟨s2, q2, _⟩ := DataW.trod_string Tryz.underlying9 h2
  have h3 := hf 3 _ rfl
  obtain ⟨y3, e3⟩ := g 3 (by decide)
  rw [e3] at h3
  obtain ⟨s3, q3, _⟩ := DataW.trod_string Tryz.underlying9 h3
  have h4 := hf 4 _ rfl
  obtain ⟨y4, e4⟩ := g 4 (by decide)
  rw [e4] at h4
  obtain ⟨n4, q4, _⟩ := DataW.trod_int (k := .i64) Tryz.underlying3 h4
  have h5 := hf 5 _ rfl
  obtain ⟨y5, e5⟩ := g 5 (by decide)
  rw [e5] at h5
  obtain ⟨b5, q5, _⟩ := DataW.trod_bool Tryz.underlying4 h5
  have q0 : List.take (Tryz.prog.cellsOf 5) (List.drop 0 [a0, a1, a2, a3, a4, a5]) = [.int .u8 n0] := q0
  have q1 : List.take (Tryz.prog.cellsOf 9) (List.drop 1 [a0, a1, a2, a3, a4, a5]) = [.string s1] := q1
  have q2 : List.take (Tryz.prog.cellsOf 9) (List.drop 2 [a0, a1, a2, a3, a4, a5]) = [.string s2] := q2
  have q3 : List.take (Tryz.prog.cellsOf 9) (List.drop 3 [a0, a1, a2, a3, a4, a5]) = [.string s3] := q3
  have q4 : List.take (Tryz.prog.cellsOf 3) (List.drop 4 [a0, a1, a2, a3, a4, a5]) = [.int .i64 n4] := q4
  have q5 : List.take (Tryz.prog.cellsOf 4) (List.drop 5 [a0, a1, a2, a3, a4, a5]) = [.bool b5] := q5
  rw [cs_uint8] at q0
  rw [cs_string] at q1 q2 q3
  rw [cs_int] at q4
  rw [cs_bool] at q5
  simp only [List.drop_succ_cons, List.drop_zero, List.take_succ_cons, List.take_zero, List.cons.injEq, and_true] at q0 q1 q2 q3 q4 q5
  exact ⟨⟨n0, s1, s2, s3, n4, b5⟩, by rw [q0, q1, q2, q3, q4, q5]; rfl⟩
theorem acts_of {D : Type} {enc : TypeId × Value → D} {W : World} {m n : Nat} : ∀ {rows : List (List Value)}, (∀ r ∈ rows, m < n ∧ ∃ d ps, DataW.trod enc Tryz.prog W 0 (fun _ => true) true m 40 r = some (d, ps)) → ∃ acts : List Act, rows = acts.map Act.cells := by
  intro rows
  induction rows with
  | nil => exact fun _ => ⟨[], rfl⟩
  | cons r rs ih =>
    intro hall
    obtain ⟨acts, ha⟩ := ih fun r hr => hall r (List.mem_cons_of_mem _ hr)
    obtain ⟨_, d, ps, hd⟩ := hall r (List.mem_cons_self ..)
    obtain ⟨a, ha'⟩ := act_of hd
    exact ⟨a :: acts, by rw [ha, ha']; rfl⟩
end act8
end Go.Proofs.YtlpcehbfoogejaaGreatDoor

