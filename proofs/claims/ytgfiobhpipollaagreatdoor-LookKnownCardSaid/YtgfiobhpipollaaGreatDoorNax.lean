/- A part of the proof: LookKnown holds. -/
import Derived.Test.YtgfiobhpipollaaGreatDoorNaw
import Derived.Laws.Runes
import Derived.Test.YtgfiobhpipollaaGreatDoorCards
import Derived.Test.YtgfiobhpipollaaGreatDoorTie
import Derived.WalkKit
import Derived.ProofKit
import Derived.OpenShut
import Derived.Deep.DeepHandedRow
import Derived.Lib.LaidTab
set_option maxRecDepth 100000
namespace Go.Proofs.YtgfiobhpipollaaGreatDoor
open Go Go.HL Go.Wk Go.RowKit Go.Maps Go.Sort Go.Shelf
theorem ext_below {σ : H} {w w' : World} (hw : σ.le w) (hb : Below w.heap.size w w') : Ext σ w σ w' :=
 ⟨fun b o h => (hb.block b (hw.lt h)).trans (hw b o h), hb.size, fun b hlt _ => hb.block b hlt, fun b o h hn => by rw [h] at hn; (cases hn), hb.os, hb.tape, hb.output⟩
theorem ext_below_put {σ : H} {w w' : World} {g : Nat} {o : Obj} (hw : σ.le w) (hb : Below w.heap.size w w') (hg : w.heap.size <= g) (ho : w'.heap[g]? = some o) : Ext σ w (σ.put g o) w' := by
 refine ⟨fun b o' h => ?_, hb.size, fun b hlt _ => hb.block b hlt, fun b o' h hn => ?_, hb.os, hb.tape, hb.output⟩
 ·by_cases e : b = g
  ·subst e; rw [H.put_same] at h; cases h; exact ho
  ·rw [H.put_other _ _ e] at h; exact (hb.block b (hw.lt h)).trans (hw b o' h)
 ·by_cases e : b = g
  ·subst e; exact hg
  ·rw [H.put_other _ _ e] at h; rw [h] at hn; cases hn
def StrSl (σ : H) (x : Sl) (l : List ByteArray) : Prop := x.len = l.length /\ (l = [] \/ ∃ g cur, x.base = some ⟨g, 0, none⟩ /\ σ g = some (.cells ⟨cur⟩ 9 (0, 0)) /\ cur.take l.length = l.map Value.string)
def sortK (l : List ByteArray) : List ByteArray := ((l.map fun s => s.data.toList).mergeSort (fun x y => decide (x <= y))).map fun x => ⟨⟨x⟩⟩
theorem x_Sorted {σ : H} {b2 e : Nat} {ents : List (ByteArray × Int)} {t : TypeId} (h2 : σ b2 = some (.cells ⟨[.map (some e)]⟩ t (0, 0))) (hm : MapAt σ e (encL kkS valI ents)) (hk : ∀ s ∈ keysL ents, s.size <= maxLen) (hn : ents.length * 16 <= 140737488355328) {K : KH}
 (hK : ∀ x σ', RNew σ σ' 9 1 (strRows (sortK (keysL ents))) x -> K (.slice x.base x.len x.cap) σ') : callW Tryz.prog 34 [.func (.func 68) ⟨[]⟩ ⟨[.pointer (some ⟨b2, 0, none⟩)]⟩] K σ := by
 obtain ⟨es, c, he, hl, hst⟩ := hm
 intro w hw
 let R : Value -> Option (DataW Unit × List MemPlace) := fun _ => some (.nil, [])
 have hsz : es.size = ents.length := by
  have := congrArg List.length hl
  simpa [encL] using this
 have hkey : ∀ x ∈ es.toList, ∃ s ∈ keysL ents, x.key = .string s := by
  intro x hx
  have : (x.key, x.val) ∈ encL kkS valI ents := by rw [<- hl]; exact List.mem_map.2 ⟨x, hx, rfl⟩
  obtain ⟨⟨s, v⟩, h1, h3⟩ := List.mem_map.1 this
  refine ⟨s, List.mem_map.2 ⟨_, h1, rfl⟩, ?_⟩
  exact (Prod.mk.inj h3).1.symm
 have hrd : ∀ x ∈ es.toList, ∀ s, x.key = .string s -> s.size <= maxLen -> Go.WideElems.rd Tryz.prog 9 R x = some (.string s.data.toList, .nil) := by
  intro x _ s hs hle
  unfold Go.WideElems.rd keyOf mapKey
  rw [hs, und_string]
  simp [hle, R]
 have hown : w.ownsMap Tryz.prog 9 R e es.size (.map ((es.toList.map (Go.WideElems.rg Tryz.prog 9 R)).foldr DataW.insert [])) := by
  refine ⟨es, c, hw e _ he, ⟨?_, hst, ?_⟩, Nat.le_refl _, rfl⟩
  ·rw [hsz]; unfold maxLen; omega
  ·intro x hx
   obtain ⟨s, h1, h3⟩ := hkey x hx
   exact ⟨_, hrd x hx s h3 (hk s h1)⟩
 have hms : Maps.size (.map ((es.toList.map (Go.WideElems.rg Tryz.prog 9 R)).foldr DataW.insert [])) = ents.length := by
  rw [Maps.size_eq, (Go.WideShapes.sorted_perm _).length_eq]; simp [hsz]
 have hperm : (strKeys (.map ((es.toList.map (Go.WideElems.rg Tryz.prog 9 R)).foldr DataW.insert []))).Perm ((keysL ents).map fun s => s.data.toList) := by
  have h1 : (strKeys (.map ((es.toList.map (Go.WideElems.rg Tryz.prog 9 R)).foldr DataW.insert []))).Perm ((es.toList.map (Go.WideElems.rg Tryz.prog 9 R)).map fun p => strOf p.1) := (Go.WideShapes.sorted_perm _).map _
  have h3 : ((es.toList.map (Go.WideElems.rg Tryz.prog 9 R)).map fun p => strOf p.1) = (keysL ents).map fun s => s.data.toList := by
   have h4 : es.toList.map (fun e => e.key) = (keysL ents).map Value.string := by
    have := congrArg (List.map Prod.fst) hl
    simp only [List.map_map, encL] at this
    rw [keysL, List.map_map]
    exact this
   have h5 : ((es.toList.map (Go.WideElems.rg Tryz.prog 9 R)).map fun p => strOf p.1) = (es.toList.map (fun e => e.key)).map fun v => (match v with | .string s => s.data.toList | _ => []) := by
    rw [List.map_map, List.map_map]
    refine List.map_congr_left ?_
    intro x hx
    obtain ⟨s, h1, h3⟩ := hkey x hx
    simp only [Function.comp]
    rw [h3, Go.WideElems.rg_of (hrd x hx s h3 (hk s h1))]
    rfl
   rw [h5, h4, List.map_map]
   rfl
  rw [<- h3]; exact h1
 have hcell : w.cell? ⟨b2, 0, none⟩ = some (.map (some e)) := by simp [World.cell?, hw b2 _ h2]
 have hseq := AnyZ.keys_gives (ρ := Tryz.keys35_ren) { Tryz.keys35 with } Fence.wide 2 trivial rfl (by omega) b2 e es.size (.map ((es.toList.map (Go.WideElems.rg Tryz.prog 9 R)).foldr DataW.insert [])) (R := R) w (hw.lt h2) hcell hown
 have hcall := AnyZ.sorted_in Tryz.sorted34 Fence.wide 5 trivial trivial trivial trivial rfl (by omega) (Tryz.sorts34 _) (enters_of Tryz.func67 (by kernel_rfl) rfl) 68 #[.pointer (some ⟨b2, 0, none⟩)] trivial (enters_of Tryz.func68 (by kernel_rfl) rfl) _ _ (by rw [hms]; unfold maxLen; omega) (by rw [hms]; exact hn) w hseq
 refine callsIn_wide.2 ((callsIn_wide.1 hcall).mono ?_)
 rintro en w' ⟨v, ss, rfl, hS, hrow, hnil, hbel⟩
 have hsrt : ss.mergeSort (fun x y => decide (x <= y)) = ((keysL ents).map fun s => s.data.toList).mergeSort (fun x y => decide (x <= y)) := mergeSort_of_perm (hS.trans hperm)
 have henc : (ss.mergeSort (fun x y => decide (x <= y))).map encStr = (sortK (keysL ents)).map Value.string := by
  rw [hsrt]; unfold sortK; rw [List.map_map]; rfl
 have hlen : ss.length = (sortK (keysL ents)).length := by
  have := congrArg List.length henc
  simpa using this
 have hflat : ∀ l : List ByteArray, (strRows l).flatten = l.map Value.string := by
  intro l
  induction l with
  | nil => rfl
  | cons a r ih =>
   have ih : (r.map fun s => [Value.string s]).flatten = r.map Value.string := ih
   simp [strRows, ih]
 have hone : ∀ l : List ByteArray, ∀ r ∈ strRows l, r.length = 1 := by
  intro l r hr
  obtain ⟨s, _, rfl⟩ := List.mem_map.1 hr; rfl
 obtain ⟨_, ⟨rfl, hz⟩ | ⟨g, cap, cur, rfl, hbg, hcur, hnc, _, hcs, htake⟩⟩ := hrow
 ·have : sortK (keysL ents) = [] := by apply List.eq_nil_of_length_eq_zero; rw [<- hlen, hz]
  rw [this] at hK
  exact ⟨_, rfl, σ, ext_below hw hbel, hK ⟨none, 0, 0⟩ σ (RNew.nil _ _ _)⟩
 ·have hng : σ g = none := by
   cases hg : σ g with
   | none => rfl
   | some o => have := hw.lt hg; omega
  refine ⟨_, rfl, σ.put g (.cells cur 9 (0, 0)), ext_below_put hw hbel hbg hcur, hK ⟨some ⟨g, 0, none⟩, ss.length, cap⟩ _ ⟨Gr.put hng _, ⟨by show ss.length = _; rw [hlen]; simp [strRows], hone _, .inr ⟨g, cur.toList, rfl, H.put_same _ _ _, by rw [Array.length_toList]; exact hcs, hnc, ?_⟩⟩, fun g' hg' => by cases hg'; exact hng⟩⟩
  rw [hflat, <- henc]; simpa using htake
theorem sortK_eq (l : List ByteArray) : sortK l = sortN l := by unfold sortK sortN; rw [sortB_merge]
attribute [local irreducible] ptrW ifW brW andW rdT alW letJ stW muW biW vaW imW callT cvalT app callW invW callVW sizeT oW nilF oneK loopW rfW funW begW roundK exW idxW Gr Put
end Go.Proofs.YtgfiobhpipollaaGreatDoor

set_option maxRecDepth 100000
namespace Go.Proofs.YtgfiobhpipollaaGreatDoor
open Go Go.HL Go.Wk
attribute [local irreducible] ptrW ifW brW andW rdT alW letJ stW muW biW vaW imW callT cvalT app callW invW callVW sizeT oW nilF oneK loopW rfW funW begW roundK exW idxW Gr Put
def sl0 : ByteArray := ⟨⟨[47, 0]⟩⟩
theorem idx_i {s : ByteArray} {i : Nat} {c : UInt8} {g : UInt8 -> H -> Prop} {σ : H} (h : s[i]? = some c) (hg : g c σ) : idxW s (i : Int) g σ := by
 unfold idxW
 rw [if_pos (by omega)]
 have : ((i : Int)).toNat = i := by omega
 rw [this, h]
 exact hg
theorem x_ValidRune (r : Int) {σ : H} {K : KH} (hK : K (.bool (Utf8.valid r)) σ) : callW Tryz.prog 278 [.int .i32 r] K σ := by
 refine c278 _ ?_
 unfold g278
 refine j_i (fun j => ∀ x : Bool, x = decide (0 <= r /\ r < 55296) -> j r x σ) ?_ ?_
 ·intro x hx
  by_cases h : 0 <= r /\ r < 55296
  ·refine br_t (by simp [hx, h]) ?_
   have : Utf8.valid r = true := by simp [Utf8.valid, h]
   rw [this] at hK; exact hK
  ·refine br_f (by simp [hx, h]) ?_
   refine j_i (fun j => ∀ y : Bool, y = Utf8.valid r -> j y σ) ?_ ?_
   ·intro y hy
    cases hv : Utf8.valid r with
    | true => rw [hv] at hK hy; exact br_t hy hK
    | false => rw [hv] at hK hy; exact br_f hy hK
   ·intro j hj
    by_cases h2 : 57343 < r
    ·refine br_t (by simpa using h2) (hj _ ?_)
     by_cases h3 : r <= 1114111
     ·have : Utf8.valid r = true := by simp [Utf8.valid, h3]; omega
      rw [this]; simpa using h3
     ·have : Utf8.valid r = false := by simp [Utf8.valid]; omega
      rw [this]; simpa using h3
    ·refine br_f (by simpa using h2) (hj _ ?_)
     have : Utf8.valid r = false := by simp [Utf8.valid]; omega
     rw [this]
 ·intro j hj
  by_cases h : 0 <= r
  ·exact br_t (by simpa using h) (hj _ (by simp [h]))
  ·exact br_f (by simpa using h) (hj _ (by simp [h]))
theorem und_i32 : Tryz.prog.underlying 21 = some (.int .i32) := by kernel_rfl
theorem conv_i (r : Int) {F : ByteArray -> H -> Prop} {σ : H} (h : F (Utf8.encode r) σ) : vaW Tryz.prog (convert 21 9 (.int .i32 r)) kS F σ := by
 unfold vaW invW
 intro w hw
 have := run_convert_int_string (P := Tryz.prog) w 21 9 .i32 r (by rw [und_i32]; rfl) und_string
 simp only [valS, Sem.run_bind, this, Result.andThen_ok, Sem.run_pure]
 exact ⟨σ, Ext.refl hw, app_S h⟩
theorem ascii_ok : ∀ n : Fin 128, decide (firstIdx sl0 (IntKind.u8.wrap ((n.val : Nat) : Int)).toNat.toUInt8 >= 0) = (((n.val : Nat) : Int) == 47 || ((n.val : Nat) : Int) == 0) := by decide
theorem x_IndexRune (r : Int) {σ : H} {K : KH} (hK : ∀ n : Int, (decide (n >= 0) = (r == 47 || r == 0)) -> K (.int .i64 n) σ) : callW Tryz.prog 270 [.string sl0, .int .i32 r] K σ := by
 refine callW.drop (K' := fun v σ' => ∃ n : Int, v = .int .i64 n /\ decide (n >= 0) = (r == 47 || r == 0) /\ Gr σ σ') ?_ (fun v σ' ⟨n, hv, hn, hg⟩ => ⟨σ, hg, hv ▸ hK n hn⟩)
 refine c270 _ _ ?_
 unfold g270
 refine j_i (fun j => ∀ x : Bool, x = decide (0 <= r /\ r < 128) -> j sl0 r x σ) ?_ ?_
 case refine_2 =>
  intro j hj
  by_cases h : 0 <= r
  ·exact br_t (by simpa using h) (hj _ (by simp [h]))
  ·exact br_f (by simpa using h) (hj _ (by simp [h]))
 intro x hx
 by_cases h : 0 <= r /\ r < 128
 ·refine br_t (by simp [hx, h]) ?_
  refine call_i (x_IndexByte _ _ (app_I ⟨_, rfl, ?_, Gr.refl _⟩))
  obtain ⟨n, rfl⟩ : ∃ n : Nat, r = n := ⟨r.toNat, by omega⟩
  exact ascii_ok ⟨n, by omega⟩
 refine br_f (by simp [hx, h]) ?_
 have hno : (r == 47 || r == 0) = false := by simp; omega
 have hm1 : decide ((-1 : Int) >= 0) = (r == 47 || r == 0) := by rw [hno]; decide
 by_cases h5 : r = 65533
 ·refine br_t (by simpa using h5) ?_
  refine range_str und_string sl0 ?_
  intro b σ1 g1 e1 n1
  refine loop_i ?_
  intro R hR
  have k2 : ∀ σ', Gr σ σ' -> σ' b = some (.stringIter sl0 2) -> R (some ⟨b, 0, none⟩) σ' := by
   intro σ' hg hb
   refine hR _ _ (next_str hb (fun _ => ⟨_, rfl, hm1, hg⟩) (fun hlt => absurd hlt (by decide)))
  have k1 : ∀ σ', Gr σ σ' -> σ' b = some (.stringIter sl0 1) -> R (some ⟨b, 0, none⟩) σ' := by
   intro σ' hg hb
   refine hR _ _ (next_str hb (fun hlt => absurd (by decide) hlt) (fun _ σ2 hp => ?_))
   refine br_f (by decide) ?_
   exact k2 σ2 (hg.putF hp n1) hp.same
  refine hR _ _ (next_str e1 (fun hlt => absurd (by decide) hlt) (fun _ σ2 hp => ?_))
  refine br_f (by decide) ?_
  exact k1 σ2 (g1.putF hp n1) hp.same
 refine br_f (by simpa using h5) ?_
 refine call_i (x_ValidRune r (app_B ?_))
 cases hv : Utf8.valid r with
 | false => exact br_t rfl ⟨_, rfl, hm1, Gr.refl _⟩
 | true =>
  refine br_f rfl (conv_i r ?_)
  have h128 : 128 <= r := by
   simp [Utf8.valid] at hv; omega
  obtain ⟨f1, f2, f3⟩ := encode_facts r hv h128
  have hl : IntKind.i64.wrap (((Utf8.encode r).size : Int) - 1) = (((Utf8.encode r).size - 1 : Nat) : Int) := by
   rw [wrap_id (by omega) (by omega)]; omega
  rw [hl]
  refine loop_i ?_
  intro R hR
  refine hR _ _ _ _ _ ?_
  by_cases h2 : (Utf8.encode r).size = 2
  ·refine br_t (by rw [h2]; decide) ?_
   refine j_i (fun _ => True) trivial ?_
   intro j _
   have hf := f3 (by omega)
   have hget : (Utf8.encode r)[(Utf8.encode r).size - 1]? = some ((Utf8.encode r)[(Utf8.encode r).size - 1]'(by omega)) := by simp
   have hi1 : sl0[(Utf8.encode r).size - 1]? = some 0 := by rw [h2]; decide
   refine idx_i hi1 (idx_i hget ?_)
   refine br_t (by simp; omega) ?_
   refine if_i ?_ ?_
   ·simp only [h2]; exact ⟨trivial, by unfold bndOk; decide⟩
   refine idx_i hget ?_
   refine call_i (x_IndexByte _ _ (app_I ?_))
   have he : sl0.extract (IntKind.i64.wrap ((((Utf8.encode r).size - 1 : Nat) : Int) + 1)).toNat sl0.size = ⟨⟨[]⟩⟩ := by simp only [h2]; decide
   rw [he]
   exact br_t rfl ⟨_, rfl, hm1, Gr.refl _⟩
  ·have hs2 : sl0.size = 2 := rfl
   refine br_f (by rw [hs2]; simp; omega) ⟨_, rfl, hm1, Gr.refl _⟩
theorem dec_step (s : ByteArray) (i : Nat) (hi : i < s.size) : 1 <= (Utf8.decode s i).2 /\ i + (Utf8.decode s i).2 <= s.size /\
 ((((Utf8.decode s i).1 : Nat) : Int) == 47 || (((Utf8.decode s i).1 : Nat) : Int) == 0) = ((s.toList.drop i).take (Utf8.decode s i).2).any fun c => c == 47 || c == 0 := by
 have hget : ∀ k, i + k < s.size -> s.toList[i + k]? = some (s.get! (i + k)) := by
  intro k hk
  rw [ByteArray.toList_eq]
  have : s.get! (i + k) = s.data[i + k]'hk := by
   show s.data[i + k]! = _
   exact getElem!_pos s.data (i + k) hk
  rw [this]
  simp [hk]
 have hlen : s.toList.length = s.size := by rw [ByteArray.toList_eq]; simp
 have taken : ∀ w, i + w <= s.size -> (s.toList.drop i).take w = (List.range w).map fun k => s.get! (i + k) := by
  intro w hw
  apply List.ext_getElem?
  intro k
  by_cases hk : k < w
  ·rw [List.getElem?_take, if_pos hk, List.getElem?_drop, hget k (by omega)]
   simp [hk]
  ·rw [List.getElem?_take, if_neg hk]
   simp [hk]
 have hbig : ∀ k, 128 <= (s.get! (i + k)).toNat -> ((s.get! (i + k)) == 47 || (s.get! (i + k)) == 0) = false := by
  intro k hk
  cases hc : ((s.get! (i + k)) == 47 || (s.get! (i + k)) == 0) with
  | false => rfl
  | true =>
   simp only [Bool.or_eq_true, beq_iff_eq] at hc
   rcases hc with hc | hc <;> (rw [hc] at hk; exact absurd hk (by decide))
 have hall : ∀ w, i + w <= s.size -> (∀ k, k < w -> 128 <= (s.get! (i + k)).toNat) -> ((s.toList.drop i).take w).any (fun c => c == 47 || c == 0) = false := by
  intro w hw hk
  rw [taken w hw, List.any_map, List.any_eq_false]
  intro k hkm
  have := hbig k (hk k (List.mem_range.1 hkm))
  simp only [Function.comp]
  rw [this]; simp
 have hcont : ∀ k, (decide (i + k < s.size) && (s.get! (i + k)).toNat / 64 == 2) = true -> i + k < s.size /\ 128 <= (s.get! (i + k)).toNat := by
  intro k h
  simp only [Bool.and_eq_true, decide_eq_true_eq, beq_iff_eq] at h
  exact ⟨h.1, by omega⟩
 unfold Utf8.decode
 simp only
 by_cases h0 : (s.get! (i + 0)).toNat < 128
 ·rw [if_pos h0]
  refine ⟨by simp, by simp; omega, ?_⟩
  simp only
  rw [taken 1 (by omega)]
  simp only [List.range_one, List.map_cons, List.map_nil, List.any_cons, List.any_nil, Bool.or_false]
  have e1 : ((((s.get! (i + 0)).toNat : Nat) : Int) == 47) = (s.get! (i + 0) == 47) := by
   rw [Bool.eq_iff_iff]; simp only [beq_iff_eq]
   constructor
   ·intro h; apply UInt8.toNat_inj.1; show (s.get! (i + 0)).toNat = 47; omega
   ·intro h; rw [h]; rfl
  have e2 : ((((s.get! (i + 0)).toNat : Nat) : Int) == 0) = (s.get! (i + 0) == 0) := by
   rw [Bool.eq_iff_iff]; simp only [beq_iff_eq]
   constructor
   ·intro h; apply UInt8.toNat_inj.1; show (s.get! (i + 0)).toNat = 0; omega
   ·intro h; rw [h]; rfl
  rw [e1, e2]
 rw [if_neg h0]
 have h0' : 128 <= (s.get! (i + 0)).toNat := by omega
 have one : ∀ c : Nat, 128 <= c -> 1 <= ((c, 1) : Nat × Nat).2 /\ i + ((c, 1) : Nat × Nat).2 <= s.size /\ ((((((c, 1) : Nat × Nat).1 : Nat) : Int) == 47 || ((((c, 1) : Nat × Nat).1 : Nat) : Int) == 0) = ((s.toList.drop i).take ((c, 1) : Nat × Nat).2).any fun c => c == 47 || c == 0) := by
  intro c hc
  refine ⟨by simp, by simp; omega, ?_⟩
  rw [hall 1 (by omega) (fun k hk => by have : k = 0 := by omega
                                        subst this; exact h0')]
  simp; omega
 have many : ∀ c w : Nat, 128 <= c -> 1 <= w -> i + w <= s.size -> (∀ k, k < w -> 128 <= (s.get! (i + k)).toNat) -> 1 <= ((c, w) : Nat × Nat).2 /\ i + ((c, w) : Nat × Nat).2 <= s.size /\ ((((((c, w) : Nat × Nat).1 : Nat) : Int) == 47 || ((((c, w) : Nat × Nat).1 : Nat) : Int) == 0) = ((s.toList.drop i).take ((c, w) : Nat × Nat).2).any fun c => c == 47 || c == 0) := by
  intro c w hc hw1 hw hk
  refine ⟨hw1, hw, ?_⟩
  rw [hall w hw hk]
  simp; omega
 split
 ·rename_i h1
  simp only [Bool.and_eq_true] at h1
  have c1 := hcont 1 (by simpa using h1.2)
  split
  ·rename_i h2
   exact many _ 2 h2 (by omega) (by omega) (fun k hk => by
    rcases (by omega : k = 0 \/ k = 1) with e | e <;> subst e
    ·exact h0'
    ·exact c1.2)
  ·exact one _ (by decide)
 ·split
  ·rename_i h1
   simp only [Bool.and_eq_true] at h1
   have c1 := hcont 1 (by simpa using h1.1.2)
   have c2 := hcont 2 (by simpa using h1.2)
   split
   ·rename_i h2
    simp only [Bool.and_eq_true, decide_eq_true_eq] at h2
    exact many _ 3 (by omega) (by omega) (by omega) (fun k hk => by
     rcases (by omega : k = 0 \/ k = 1 \/ k = 2) with e | e | e <;> subst e
     ·exact h0'
     ·exact c1.2
     ·exact c2.2)
   ·exact one _ (by decide)
  ·split
   ·rename_i h1
    simp only [Bool.and_eq_true] at h1
    have c1 := hcont 1 (by simpa using h1.1.1.2)
    have c2 := hcont 2 (by simpa using h1.1.2)
    have c3 := hcont 3 (by simpa using h1.2)
    split
    ·rename_i h2
     simp only [Bool.and_eq_true, decide_eq_true_eq] at h2
     exact many _ 4 (by omega) (by omega) (by omega) (fun k hk => by
      rcases (by omega : k = 0 \/ k = 1 \/ k = 2 \/ k = 3) with e | e | e | e <;> subst e
      ·exact h0'
      ·exact c1.2
      ·exact c2.2
      ·exact c3.2)
    ·exact one _ (by decide)
   ·exact one _ (by decide)
theorem app_RB {v : Value} {x : Bool} {F : Value -> Bool -> H -> Prop} {σ : H} (h2 : F v x σ) : HL.app (.tup [.sc .raw, .sc .bool]) F (.tuple ⟨[v, .bool x]⟩) σ := by
 unfold HL.app; exact h2
def setL : List Value := (List.range 256).map fun i => .bool (i == 47 || i == 0)
theorem sz_set : sizeT Tryz.prog 251 = some 256 := by kernel_rfl
theorem x_makeSet {σ : H} {K : KH} (hK : K (.tuple ⟨[.agg ⟨setL⟩, .bool true]⟩) σ) : callW Tryz.prog 253 [.string sl0] K σ := by
 refine pure_i _ hK (c253 _ ?_)
 unfold g253
 refine al_i ?_
 intro b σ1 g1 e1 n1
 refine loop_i ?_
 intro R hR
 refine hR _ _ _ _ (br_t (by decide) (idx_i (i := 0) (c := 47) (by decide) (br_f (by decide) (ptr_i (if_i (by decide) ?_)))))
 refine st_i2 e1 sz_bool (by rfl) (by rfl) ?_
 intro σ2 p2
 refine hR _ _ _ _ (br_t (by decide) (idx_i (i := 1) (c := 0) (by decide) (br_f (by decide) (ptr_i (if_i (by decide) ?_)))))
 refine st_i2 p2.same sz_bool (by rfl) (by rfl) ?_
 intro σ3 p3
 have e3 : σ3 b = some (.cells ⟨setL⟩ 251 (0, 0)) := by rw [p3.same]; rfl
 have g3 : Gr σ σ3 := (g1.putF p2 n1).putF p3 n1
 refine hR _ _ _ _ (br_f (by decide) (ptr_i ?_))
 refine rd_R (rdA_of' e3 (by rfl)) ?_
 refine st_i2 e3 sz_set (by rfl) (by rfl) ?_
 intro σ4 p4
 have e4 : σ4 b = some (.cells ⟨setL⟩ 251 (0, 0)) := by rw [p4.same]; rfl
 refine ptr_i (rd_R (rdA_of' e4 (by rfl)) ?_)
 exact ⟨rfl, g3.putF p4 n1⟩
theorem x_IndexAny (s : ByteArray) (hs : s.size <= 1000000) {σ : H} {K : KH} (hK : ∀ n : Int, decide (n >= 0) = badByte s -> K (.int .i64 n) σ) : callW Tryz.prog 247 [.string s, .string sl0] K σ := by
 refine callW.drop (K' := fun v σ' => ∃ n : Int, v = .int .i64 n /\ decide (n >= 0) = badByte s /\ Gr σ σ') ?_ (fun v σ' ⟨n, hv, hn, hg⟩ => ⟨σ, hg, hv ▸ hK n hn⟩)
 refine c247 _ _ ?_
 unfold g247
 refine br_f (by rw [strEq, ByteArray.toList_eq, ByteArray.toList_eq]; rfl) (br_f (by decide) ?_)
 refine j_i (fun j => ∀ σ', Gr σ σ' -> j s sl0 σ') ?_ ?_
 ·intro σ0 g0
  refine range_str und_string s ?_
  intro b σ1 g1 e1 n1
  refine loop_i ?_
  intro R hR
  have key : ∀ k i σ', s.size - i <= k -> i <= s.size -> Gr σ0 σ' -> σ' b = some (.stringIter s i) -> ((s.toList.take i).any fun c => c == 47 || c == 0) = false -> R sl0 (some ⟨b, 0, none⟩) σ' := by
   intro k
   induction k with
   | zero =>
    intro i σ' hk hi hg hb hf
    refine hR _ _ _ (next_str hb (fun _ => ⟨_, rfl, ?_, g0.trans hg⟩) (fun hlt => by omega))
    have : s.toList.take i = s.toList := by rw [List.take_of_length_le]; rw [ByteArray.toList_eq]; simp; omega
    rw [this] at hf
    unfold badByte; rw [<- ByteArray.toList_eq]; rw [hf]; decide
   | succ k ih =>
    intro i σ' hk hi hg hb hf
    refine hR _ _ _ (next_str hb (fun hlt => ⟨_, rfl, ?_, g0.trans hg⟩) (fun hlt σ2 hp => ?_))
    ·have : s.toList.take i = s.toList := by rw [List.take_of_length_le]; rw [ByteArray.toList_eq]; simp; omega
     rw [this] at hf
     unfold badByte; rw [<- ByteArray.toList_eq]; rw [hf]; decide
    ·obtain ⟨d1, d2, d3⟩ := dec_step s i hlt
     have hg2 : Gr σ0 σ2 := hg.putF hp n1
     refine call_i (x_IndexRune _ ?_)
     intro n hn
     refine app_I ?_
     cases hc : ((((Utf8.decode s i).1 : Nat) : Int) == 47 || (((Utf8.decode s i).1 : Nat) : Int) == 0) with
     | true =>
      rw [hc] at hn d3
      refine br_t hn ⟨_, rfl, ?_, g0.trans hg2⟩
      have hb : badByte s = true := by
       unfold badByte; rw [<- ByteArray.toList_eq]
       obtain ⟨c, h1, h2⟩ := List.any_eq_true.1 d3.symm
       exact List.any_eq_true.2 ⟨c, List.mem_of_mem_drop (List.mem_of_mem_take h1), h2⟩
      rw [hb]; simp
     | false =>
      rw [hc] at hn d3
      refine br_f hn ?_
      refine ih (i + (Utf8.decode s i).2) σ2 (by omega) d2 hg2 hp.same ?_
      rw [List.take_add, List.any_append, hf, <- d3]; rfl
  exact key _ 0 σ1 (Nat.le_refl _) (by omega) g1 e1 rfl
 ·intro j hj
  refine call_i ?_
  refine c271 _ ?_
  unfold g271
  refine app_B ?_
  by_cases h8 : 8 < s.size
  ·refine br_t (by simp; omega) ?_
   refine call_i (x_makeSet ?_)
   refine app_RB ?_
   refine al_i ?_
   intro b σ1 g1 e1 n1
   refine st_i2 e1 sz_set (by rfl) (by rfl) ?_
   intro σ2 p2
   have e2 : σ2 b = some (.cells ⟨setL⟩ 251 (0, 0)) := by rw [p2.same]; rfl
   have g2 : Gr σ σ2 := g1.putF p2 n1
   refine br_t rfl ?_
   refine loop_i ?_
   intro R hR
   have hlen : s.toList.length = s.size := by rw [ByteArray.toList_eq]; simp
   have key : ∀ k i : Nat, s.size - i <= k -> i <= s.size -> ((s.toList.take i).any fun c => c == 47 || c == 0) = false -> R s (some ⟨b, 0, none⟩) (i : Int) σ2 := by
    intro k
    induction k with
    | zero =>
     intro i hk hi hf
     refine hR _ _ _ _ (br_f (by simp; omega) ⟨_, rfl, ?_, g2⟩)
     have : s.toList.take i = s.toList := by rw [List.take_of_length_le]; omega
     rw [this] at hf
     unfold badByte; rw [<- ByteArray.toList_eq]; rw [hf]; decide
    | succ k ih =>
     intro i hk hi hf
     by_cases hlt : i < s.size
     ·refine hR _ _ _ _ (br_t (by simp; omega) ?_)
      have hget : s[i]? = some s[i] := by simp [hlt]
      refine idx_i hget ?_
      refine call_i ?_
      refine c272 _ _ ?_
      unfold g272
      have hb256 : (s[i]).toNat < 256 := UInt8.toNat_lt _
      refine ptr_i (if_i ⟨by omega, by omega⟩ ?_)
      refine rd_B (x := (s[i].toNat == 47 || s[i].toNat == 0)) (rdC_of e2 ?_) (app_B ?_)
      ·have : (0 + (((s[i]).toNat : Int)).toNat * 1) = (s[i]).toNat := by omega
       rw [this]
       simp [setL, hb256]
      ·have hc : (s[i].toNat == 47 || s[i].toNat == 0) = (s[i] == 47 || s[i] == 0) := by
        have q : ∀ n : UInt8, (s[i].toNat == n.toNat) = (s[i] == n) := by
         intro n; rw [Bool.eq_iff_iff]; simp only [beq_iff_eq]; exact UInt8.toNat_inj
        have q1 := q 47
        have q2 := q 0
        rw [<- q1, <- q2]; rfl
       rw [hc]
       have hli : s.toList[i]? = some s[i] := by
        rw [ByteArray.toList_eq]; simp [hlt, ByteArray.getElem_eq_getElem_data]
       cases hv : (s[i] == 47 || s[i] == 0) with
       | true =>
        refine br_t rfl ⟨_, rfl, ?_, g2⟩
        have hb : badByte s = true := by
         unfold badByte; rw [<- ByteArray.toList_eq]
         exact List.any_eq_true.2 ⟨s[i], List.mem_of_getElem? hli, hv⟩
        rw [hb]; simp
       | false =>
        refine br_f rfl ?_
        rw [wrap_id (by omega) (by omega)]
        refine ih (i + 1) (by omega) (by omega) ?_
        rw [List.take_add_one, List.any_append, hf, hli]
        simpa using hv
     ·refine hR _ _ _ _ (br_f (by simp; omega) ⟨_, rfl, ?_, g2⟩)
      have : s.toList.take i = s.toList := by rw [List.take_of_length_le]; omega
      rw [this] at hf
      unfold badByte; rw [<- ByteArray.toList_eq]; rw [hf]; decide
   exact key _ 0 (Nat.le_refl _) (by omega) rfl
  ·exact br_f (by simp; omega) (hj σ (Gr.refl _))
theorem cAny : CAny := by
 intro s hs σ K hK
 refine c212 _ _ ?_
 unfold g212
 refine call_i (x_IndexAny s hs ?_)
 intro n hn
 refine app_I ?_
 rw [hn]
 exact hK
end Go.Proofs.YtgfiobhpipollaaGreatDoor

namespace Go.Wk
open Go Go.HL
theorem splitL_none {c : UInt8} : ∀ {l : List UInt8}, c ∉ l -> splitL c l = [l] := by
 intro l
 induction l with
 | nil => intro _; rfl
 | cons x l ih =>
  intro h
  simp only [List.mem_cons, not_or] at h
  have hx : (x == c) = false := by simpa using fun e => h.1 e.symm
  simp only [splitL, hx, ih h.2]
theorem splitL_some {c : UInt8} {b : List UInt8} : ∀ {a : List UInt8}, c ∉ a -> splitL c (a ++ c :: b) = a :: splitL c b := by
 intro a
 induction a with
 | nil => intro _; simp [splitL]
 | cons x a ih =>
  intro h
  simp only [List.mem_cons, not_or] at h
  have hx : (x == c) = false := by simpa using fun e => h.1 e.symm
  simp only [List.cons_append, splitL, hx, ih h.2]
theorem splitL_ne {c : UInt8} : ∀ l : List UInt8, splitL c l ≠ [] := by
 intro l
 induction l with
 | nil => simp [splitL]
 | cons x l ih =>
  simp only [splitL]
  cases (x == c) with
  | true => simp
  | false =>
   cases h : splitL c l with
   | nil => simp
   | cons => simp
theorem toList_at (s : ByteArray) (i : Nat) (h : i < s.size) : s.data.toList[i]? = some s[i]! := by
 rw [getElem!_pos s i h]
 have : s[i] = s.data[i] := rfl
 rw [this]; simp
theorem firstIdx_split (s : ByteArray) (c : UInt8) : (firstIdx s c = -1 /\ c ∉ s.data.toList) \/ ∃ i : Nat, firstIdx s c = (i : Int) /\ i < s.size /\ c ∉ s.data.toList.take i /\ s.data.toList = s.data.toList.take i ++ c :: s.data.toList.drop (i + 1) := by
 have hlen : s.data.toList.length = s.size := rfl
 unfold firstIdx
 cases hf : (List.range s.size).find? fun i => s[i]! == c with
 | none =>
  refine .inl ⟨rfl, fun hm => ?_⟩
  obtain ⟨i, hi, he⟩ := List.getElem_of_mem hm
  have h1 := List.find?_eq_none.1 hf i (by simpa [hlen] using hi)
  have h2 := toList_at s i (by omega)
  rw [List.getElem?_eq_getElem hi, he] at h2
  simp at h2
  exact h1 (by simp [h2])
 | some i =>
  rw [List.find?_range_eq_some] at hf
  obtain ⟨h1, h2, h3⟩ := hf
  have hi : i < s.size := by simpa using h2
  refine .inr ⟨i, rfl, hi, fun hm => ?_, ?_⟩
  ·obtain ⟨j, hj, he⟩ := List.getElem_of_mem hm
   have hj' : j < i := by have := hj; simp at this; omega
   have h4 := h3 j hj'
   have h5 := toList_at s j (by omega)
   rw [List.getElem_take] at he
   rw [List.getElem?_eq_getElem (by omega), he] at h5
   simp at h5
   simp [h5] at h4
  ·have h5 := toList_at s i hi
   have hc : s[i]! = c := by simpa using h1
   rw [hc] at h5
   have h6 : s.data.toList.drop i = c :: s.data.toList.drop (i + 1) := by
    rw [List.drop_eq_getElem_cons (by omega)]
    rw [List.getElem?_eq_getElem (by omega)] at h5
    simp only [Option.some.injEq] at h5
    rw [h5]
   rw [<- h6, List.take_append_drop]
def partsOf (c : UInt8) (s : ByteArray) : List ByteArray := (splitL c s.data.toList).map fun l => (⟨⟨l⟩⟩ : ByteArray)
theorem partsOf_none {c : UInt8} {s : ByteArray} (h : firstIdx s c < 0) : partsOf c s = [s] := by
 rcases firstIdx_split s c with ⟨_, h1⟩ | ⟨i, h1, _⟩
 ·unfold partsOf; rw [splitL_none h1]; rfl
 ·omega
theorem extract_toList (s : ByteArray) (a b : Nat) : (s.extract a b).data.toList = (s.data.toList.take b).drop a := by
 rw [ByteArray.data_extract, Array.toList_extract, List.extract_eq_drop_take']
theorem partsOf_some {c : UInt8} {s : ByteArray} (h : 0 <= firstIdx s c) : (firstIdx s c).toNat < s.size /\ partsOf c s = s.extract 0 (firstIdx s c).toNat :: partsOf c (s.extract ((firstIdx s c).toNat + 1) s.size) := by
 rcases firstIdx_split s c with ⟨h0, _⟩ | ⟨i, h1, h2, h3, h4⟩
 ·omega
 ·have : (firstIdx s c).toNat = i := by omega
  rw [this]
  refine ⟨h2, ?_⟩
  have hl : s.data.toList.length = s.size := rfl
  unfold partsOf
  rw [extract_toList, show s.data.toList.take s.size = s.data.toList by rw [<- hl, List.take_length]]
  conv => lhs; rw [h4]
  rw [splitL_some h3]
  simp only [List.map_cons, List.cons.injEq, and_true]
  have : (s.extract 0 i) = ⟨⟨(s.extract 0 i).data.toList⟩⟩ := rfl
  rw [this, extract_toList]; rfl
section
variable {A : AT} {go : Int -> ByteArray -> Int -> Int × Pl × Int} {follow : Bool} {name : ByteArray} {rest : List ByteArray} {p : Pl} {h : Int}
end
end Go.Wk

set_option maxRecDepth 100000
namespace Go.Proofs.YtgfiobhpipollaaGreatDoor
open Go Go.HL Go.Wk
attribute [local irreducible] ptrW ifW brW andW rdT alW letJ stW muW biW vaW imW callT cvalT app callW invW callVW sizeT oW nilF oneK loopW rfW funW begW roundK exW idxW Gr Put
theorem x_sliIndexByte (s : ByteArray) (c : UInt8) {σ : H} {K : KH} (hK : K (.int .i64 (firstIdx s c)) σ) : callW Tryz.prog 176 [.string s, .int .u8 (c.toNat : Int)] K σ := by
 refine c176 _ _ ?_
 unfold g176
 refine x_IBS s _ ?_
 have : ((c.toNat : Int)).toNat.toUInt8 = c := by simp
 rw [this]; exact hK
theorem firstIdx_self (c : UInt8) : firstIdx ⟨⟨[c]⟩⟩ c = 0 := by
 rcases firstIdx_split ⟨⟨[c]⟩⟩ c with ⟨_, h⟩ | ⟨i, h, h2, _⟩
 ·simp at h
 ·have : i < 1 := h2
  omega
theorem s_sliIndex1 (s : ByteArray) (c : UInt8) {σ : H} {K : KH} (hK : K (.int .i64 (firstIdx s c)) σ) : g224 s ⟨⟨[c]⟩⟩ K σ := by
 unfold g224
 refine j_i (fun j => ∀ b : Bool, (b = true -> s = ⟨⟨[c]⟩⟩) -> j s ⟨⟨[c]⟩⟩ (((⟨⟨[c]⟩⟩ : ByteArray).size : Nat) : Int) b σ) ?_ ?_
 ·intro b hb
  cases b with
  | true =>
   refine br_t rfl ?_
   have := hb rfl
   subst this
   rw [firstIdx_self] at hK; exact hK
  | false =>
   refine br_f rfl (br_t rfl (idx_l (c := c) (by decide) rfl ?_))
   exact call_i (x_sliIndexByte s c (app_I hK))
 ·intro j hj
  refine br_f rfl (hj _ ?_)
  intro h; exact (strEq_iff.1 h).symm
theorem x_Index1 (s : ByteArray) (c : UInt8) {σ : H} {K : KH} (hK : K (.int .i64 (firstIdx s c)) σ) : callW Tryz.prog 227 [.string s, .string ⟨⟨[c]⟩⟩] K σ := by
 refine c227 _ _ ?_
 unfold g227
 exact call_i (c224 _ _ (s_sliIndex1 s c (app_I hK)))
section
variable {ι : Type}
end
section
variable {σ σ' : H} {bf : Nat} {A : AT} {B : Nat -> Prop} {b : Nat} {o : Obj}
end
section
variable {σ : H} {bt : Nat} {A : AT} {B : Nat -> Prop}
end
section
variable {σ : H} {bf : Nat} {A : AT} {B : Nat -> Prop}
end
section
variable {σ τ τ' : H} {bf bh b6 b7 b8 b9 b10 : Nat} {A : AT} {B : Nat -> Prop} {follow : Bool} {b : Nat} {o : Obj}
end
end Go.Proofs.YtgfiobhpipollaaGreatDoor

namespace Go.Wk
open Go Go.HL
section
variable {κ α : Type}
def sumF (f : α -> Nat) : List (κ × α) -> Nat
 | [] => 0
 | (_, v) :: r => f v + sumF f r
theorem lk_of_mem [BEq κ] [LawfulBEq κ] {k : κ} {v : α} : ∀ {l : List (κ × α)}, (keysL l).Nodup -> (k, v) ∈ l -> lk k l = some v := by
 intro l
 induction l with
 | nil => intro _ h; simp at h
 | cons x l ih =>
  obtain ⟨i, u⟩ := x
  intro hn h
  simp only [keysL, List.map_cons, List.nodup_cons] at hn
  simp only [lk]
  rcases List.mem_cons.1 h with e | e
  ·cases e; simp
  ·have : (k == i) = false := by
    cases hb : (k == i) with
    | false => rfl
    | true =>
     have := eq_of_beq hb; subst this
     exact absurd (List.mem_map.2 ⟨_, e, rfl⟩) hn.1
   simp only [this]
   exact ih hn.2 e
theorem sumF_pos {f : α -> Nat} {l : List (κ × α)} (h : 0 < sumF f l) : ∃ k v, (k, v) ∈ l /\ 0 < f v := by
 induction l with
 | nil => simp [sumF] at h
 | cons x l ih =>
  obtain ⟨i, u⟩ := x
  simp only [sumF] at h
  by_cases hu : 0 < f u
  ·exact ⟨i, u, by simp, hu⟩
  ·obtain ⟨k, v, h1, h2⟩ := ih (by omega)
   exact ⟨k, v, List.mem_cons_of_mem _ h1, h2⟩
theorem sumF_pos_lk [BEq κ] [LawfulBEq κ] {f : α -> Nat} {l : List (κ × α)} (hn : (keysL l).Nodup) (h : 0 < sumF f l) : ∃ k v, lk k l = some v /\ 0 < f v := by
 obtain ⟨k, v, h1, h2⟩ := sumF_pos h
 exact ⟨k, v, lk_of_mem hn h1, h2⟩
end
def one (j : Int) (v : Int) : Nat := if v = j then 1 else 0
def cntE (j : Int) (n : AN) : Nat := sumF (one j) n.ents
def AT.refs (A : AT) (j : Int) : Nat := sumF (cntE j) A.nodes
def AT.bytes (A : AT) : Nat := sumF (fun n => n.data.size) A.nodes
def AT.isDir (A : AT) (k : Int) : Prop := ∃ n, A.get k = some n /\ n.kind = 2
structure Inv (A : AT) : Prop where
 nodup : (keysL A.nodes).Nodup
 enod : ∀ i n, A.get i = some n -> (keysL n.ents).Nodup
 root : ∃ n, A.get 1 = some n /\ n.kind = 2 /\ n.up = 1
 low : ∀ i n, A.get i = some n -> 1 <= i /\ i <= A.last
 like : ∀ i n, A.get i = some n -> likeE n.kind n.mode n.data = 0
 file : ∀ i n, A.get i = some n -> n.kind ≠ 2 -> n.ents = []
 ent : ∀ i n s j, A.get i = some n -> lk s n.ents = some j -> namedE s = 0 /\ j ≠ 1 /\ ∃ m, A.get j = some m /\ (m.kind = 2 -> m.up = i)
 links : ∀ i n, A.get i = some n -> i ≠ 1 -> n.links = A.refs i /\ 0 < A.refs i /\ (n.kind = 2 -> A.refs i = 1)
 deep : ∀ i, A.isDir i -> ∃ d, A.deep 12 i = some d
 ui : A.ui = A.nodes.length
 ub : A.ub = A.bytes
 uq : A.ui <= A.qi /\ A.qi <= 1048576
 bq : A.ub <= A.qb /\ A.qb <= 1073741824
theorem AT.get_set (A : AT) (i j : Int) (n : AN) : (A.set i n).get j = if j = i then some n else A.get j := by
 unfold AT.set AT.get; simp only [lk_up]
 by_cases h : j = i <;> simp [h]
section
variable {A : AT}
theorem Inv.find (h : Inv A) {d : Int} {s : ByteArray} {j : Int} (hf : A.find d s = some j) : ∃ n, A.get d = some n /\ n.kind = 2 /\ lk s n.ents = some j /\ j ≠ 1 /\ ∃ m, A.get j = some m /\ (m.kind = 2 -> m.up = d) := by
 unfold AT.find at hf
 cases hn : A.get d with
 | none => rw [hn] at hf; cases hf
 | some n =>
  rw [hn] at hf
  have hf : lk s n.ents = some j := hf
  have h2 : n.kind = 2 := by
   apply Classical.byContradiction
   intro hk
   rw [h.file d n hn hk] at hf; simp [lk] at hf
  obtain ⟨_, h3, h4⟩ := h.ent d n s j hn hf
  exact ⟨n, rfl, h2, hf, h3, h4⟩
theorem Inv.isDir_up (h : Inv A) {k : Int} (hk : A.isDir k) : A.isDir (A.upOf k) := by
 obtain ⟨n, hn, h2⟩ := hk
 have hu : A.upOf k = n.up := by unfold AT.upOf; rw [hn]; rfl
 rw [hu]
 by_cases h1 : k = 1
 ·subst h1
  obtain ⟨r, hr, hr2, hr3⟩ := h.root
  rw [hn] at hr; cases hr
  rw [hr3]; exact ⟨n, hn, h2⟩
 ·obtain ⟨_, hpos, _⟩ := h.links k n hn h1
  obtain ⟨p, m, hp, hc⟩ := sumF_pos_lk h.nodup hpos
  have hp : A.get p = some m := hp
  obtain ⟨s, v, hs, hv⟩ := sumF_pos_lk (h.enod p m hp) hc
  have hv : v = k := by
   unfold one at hv
   by_cases e : v = k
   ·exact e
   ·simp [e] at hv
  subst hv
  obtain ⟨_, _, m', hm', hup⟩ := h.ent p m s v hp hs
  rw [hn] at hm'; cases hm'
  rw [hup h2]
  refine ⟨m, hp, ?_⟩
  apply Classical.byContradiction
  intro hk
  rw [h.file p m hp hk] at hs; simp [lk] at hs
theorem Inv.named (h : Inv A) {k : Int} (hk : A.isDir k) (h1 : k ≠ 1) : ∃ s, A.find (A.upOf k) s = some k := by
 obtain ⟨n, hn, h2⟩ := hk
 have hu : A.upOf k = n.up := by unfold AT.upOf; rw [hn]; rfl
 rw [hu]
 obtain ⟨_, hpos, _⟩ := h.links k n hn h1
 obtain ⟨p, m, hp, hc⟩ := sumF_pos_lk h.nodup hpos
 have hp : A.get p = some m := hp
 obtain ⟨s, v, hs, hv⟩ := sumF_pos_lk (h.enod p m hp) hc
 have hv : v = k := by
  unfold one at hv
  by_cases e : v = k
  ·exact e
  ·simp [e] at hv
 subst hv
 obtain ⟨_, _, m', hm', hup⟩ := h.ent p m s v hp hs
 rw [hn] at hm'; cases hm'
 rw [hup h2]
 exact ⟨s, by unfold AT.find; rw [hp]; exact hs⟩
theorem deep_same {A' : AT} (h : Inv A) (hu : ∀ k, A.isDir k -> A'.upOf k = A.upOf k) : ∀ (f : Nat) (k : Int), A.isDir k -> A'.deep f k = A.deep f k := by
 intro f
 induction f with
 | zero => intro k _; rfl
 | succ f ih =>
  intro k hk
  unfold AT.deep
  rw [hu k hk, ih _ (h.isDir_up hk)]
end
end Go.Wk

namespace Go.Wk
open Go Go.HL
variable {A : AT}
section
variable {dir : Int} {name : ByteArray} {kind mode : Int} {data : ByteArray}
end
end Go.Wk

set_option maxRecDepth 100000
namespace Go.Proofs.YtgfiobhpipollaaGreatDoor
open Go Go.HL Go.Wk
attribute [local irreducible] ptrW ifW brW andW rdT alW letJ stW muW biW vaW imW callT cvalT app callW invW callVW sizeT oW nilF oneK loopW rfW funW begW roundK exW idxW Gr Put
section
variable {σ : H} {bf : Nat} {A : AT} {B : Nat -> Prop}
theorem StrSl.gr {σ σ' : H} {x : Sl} {l : List ByteArray} (h : StrSl σ x l) (hg : Gr σ σ') : StrSl σ' x l := by
 obtain ⟨h1, h2⟩ := h
 refine ⟨h1, ?_⟩
 rcases h2 with h2 | ⟨g, cur, e1, e2, e3⟩
 ·exact .inl h2
 ·exact .inr ⟨g, cur, e1, hg.get e2, e3⟩
end
end Go.Proofs.YtgfiobhpipollaaGreatDoor

namespace Go.Wk
open Go Go.HL
def nameOk (s : ByteArray) : Prop := s ≠ ⟨⟨[]⟩⟩ /\ s ≠ ⟨⟨[46]⟩⟩ /\ badByte s = false
theorem sEq_false {a b : ByteArray} (h : a ≠ b) : sEq a b = false := by
 cases hs : sEq a b with
 | false => rfl
 | true => exact absurd (sEq_iff.1 hs) h
def PlOk (A : AT) (p : Pl) : Prop := A.isDir p.dir /\ ((p.name = ⟨⟨[]⟩⟩ /\ p.there = true /\ p.ino = p.dir) \/ (nameOk p.name /\ p.name ≠ ⟨⟨[46, 46]⟩⟩ /\ p.name.size <= 56 /\ A.find p.dir p.name = if p.there then some p.ino else none))
theorem PlOk.named {A : AT} {p : Pl} (h : PlOk A p) (hn : p.name ≠ ⟨⟨[]⟩⟩) : namedE p.name = 0 /\ A.find p.dir p.name = if p.there then some p.ino else none := by
 obtain ⟨_, h | ⟨⟨a1, a2, a3⟩, a4, a5, a6⟩⟩ := h
 ·exact absurd h.1 hn
 ·refine ⟨?_, a6⟩
  unfold namedE
  rw [if_neg (by omega), sEq_false a1, sEq_false a2, sEq_false a4, a3]; rfl
theorem PlOk.get {A : AT} (hI : Inv A) {p : Pl} (h : PlOk A p) (ht : p.there = true) : ∃ n, A.get p.ino = some n := by
 obtain ⟨hd, h | ⟨_, _, _, h⟩⟩ := h
 ·obtain ⟨n, hn, _⟩ := hd; rw [h.2.2]; exact ⟨n, hn⟩
 ·rw [ht] at h
  obtain ⟨_, _, _, _, _, m, hm, _⟩ := hI.find h
  exact ⟨m, hm⟩
end Go.Wk

set_option maxRecDepth 100000
namespace Go.Proofs.YtgfiobhpipollaaGreatDoor
open Go Go.HL Go.Wk
attribute [local irreducible] ptrW ifW brW andW rdT alW letJ stW muW biW vaW imW callT cvalT app callW invW callVW sizeT oW nilF oneK loopW rfW funW begW roundK exW idxW Gr Put
section
variable {σ : H} {bf : Nat} {A : AT} {B : Nat -> Prop}
end
end Go.Proofs.YtgfiobhpipollaaGreatDoor

namespace Go.Wk
open Go Go.HL
inductive Tr where
 | mk (name : ByteArray) (kind : Int) (exec : Bool) (data : ByteArray) (kids : List Tr)
def Tr.name : Tr -> ByteArray | .mk n _ _ _ _ => n
def Tr.kind : Tr -> Int | .mk _ k _ _ _ => k
def Tr.exec : Tr -> Bool | .mk _ _ e _ _ => e
def Tr.data : Tr -> ByteArray | .mk _ _ _ d _ => d
def Tr.kids : Tr -> List Tr | .mk _ _ _ _ l => l
def gr (d x : Int) : Int := if x > d then x else d
def Tr.deep : Nat -> Tr -> Int
 | 0, _ => 1
 | m + 1, t => if t.kind ≠ 2 \/ m = 0 then 1 else t.kids.foldl (fun d x => gr d (1 + Tr.deep m x)) 1
def Tr.tooDeep (t : Tr) : Bool := decide (t.deep 14 > 12)
def mayName (s : ByteArray) : Bool := decide (1 <= s.size) && (decide (s.size <= 56) && (!badByte s && (!sEq s ⟨⟨[46]⟩⟩ && !sEq s ⟨⟨[46, 46]⟩⟩)))
def ltB (a b : ByteArray) : Bool := !leB b.data.toList a.data.toList
def above (prev : Option ByteArray) (s : ByteArray) : Bool := match prev with
 | none => true
 | some p => ltB p s
mutual
def Tr.may : Tr -> Bool
 | .mk _ k e d kids => if k = 1 then kids.isEmpty else if k = 3 then kids.isEmpty && (!e && linkOk d) else if k = 2 then !e && (sEq d ⟨⟨[]⟩⟩ && Tr.mayRow none kids) else false
def Tr.mayRow : Option ByteArray -> List Tr -> Bool
 | _, [] => true
 | prev, t :: r => mayName t.name && (Tr.may t && (above prev t.name && Tr.mayRow (some t.name) r))
end
mutual
def Tr.size : Tr -> Int × Int
 | .mk _ _ _ d kids => Tr.sizeRow kids (1, d.size)
def Tr.sizeRow : List Tr -> Int × Int -> Int × Int
 | [], a => a
 | t :: r, a => Tr.sizeRow r (if t.tooDeep = true then a else (a.1 + (Tr.size t).1, a.2 + (Tr.size t).2))
end
def Tr.sizeT (t : Tr) : Int × Int := if t.tooDeep = true then (0, 0) else t.size
mutual
def Tr.total : Tr -> Nat
 | .mk n _ _ d kids => 1 + n.size + d.size + Tr.totalRow kids
def Tr.totalRow : List Tr -> Nat
 | [] => 0
 | t :: r => Tr.total t + Tr.totalRow r
end
def Tr.check (t : Tr) : Int :=
 if t.tooDeep = true then 3
 else if sEq t.name ⟨⟨[]⟩⟩ = false \/ t.may = false then 2
 else if t.sizeT.1 > 2000 \/ t.sizeT.2 > 100000 then 3 else 0
mutual
def Tr.levels : Tr -> Int
 | .mk _ k _ _ kids => if k ≠ 2 then 0 else Tr.levelsRow kids 0 + 1
def Tr.levelsRow : List Tr -> Int -> Int
 | [], a => a
 | t :: r, a => Tr.levelsRow r (gr a (Tr.levels t))
end
theorem Tr.total_kid {t : Tr} {x : Tr} (h : x ∈ t.kids) : x.total < t.total := by
 obtain ⟨nm, k, e, d, kids⟩ := t
 have key : ∀ l : List Tr, x ∈ l -> x.total <= Tr.totalRow l := by
  intro l
  induction l with
  | nil => intro h; simp at h
  | cons y r ih =>
   intro h
   simp only [Tr.totalRow]
   rcases List.mem_cons.1 h with e | e
   ·subst e; omega
   ·have := ih e; omega
 have := key kids h
 simp only [Tr.total]; omega
theorem Tr.ind {P : Tr -> Prop} (h : ∀ t, (∀ x ∈ t.kids, P x) -> P t) (t : Tr) : P t := by
 have key : ∀ (n : Nat) (t : Tr), t.total < n -> P t := by
  intro n
  induction n with
  | zero => intro t h; omega
  | succ n ih => intro t ht; exact h t fun x hx => ih x (by have := Tr.total_kid hx; omega)
 exact key _ t (Nat.lt_succ_self _)
theorem Tr.size_le : ∀ t : Tr, 1 <= t.size.1 /\ 0 <= t.size.2 /\ t.size.1 + t.size.2 <= t.total := by
 refine Tr.ind ?_
 intro t ih
 obtain ⟨nm, k, e, d, kids⟩ := t
 have key : ∀ (l : List Tr) (a : Int × Int), (∀ x ∈ l, 1 <= x.size.1 /\ 0 <= x.size.2 /\ x.size.1 + x.size.2 <= x.total) -> 1 <= a.1 -> 0 <= a.2 -> 1 <= (Tr.sizeRow l a).1 /\ 0 <= (Tr.sizeRow l a).2 /\ (Tr.sizeRow l a).1 + (Tr.sizeRow l a).2 <= a.1 + a.2 + Tr.totalRow l := by
  intro l
  induction l with
  | nil => intro a _ h1 h2; simp [Tr.sizeRow, Tr.totalRow]; omega
  | cons x r ihl =>
   intro a hx h1 h2
   have hx' : ∀ y ∈ r, 1 <= y.size.1 /\ 0 <= y.size.2 /\ y.size.1 + y.size.2 <= y.total := fun y hy => hx y (List.mem_cons_of_mem _ hy)
   have := hx x (List.mem_cons_self ..)
   simp only [Tr.sizeRow, Tr.totalRow]
   cases ht : x.tooDeep with
   | true =>
    have := ihl a hx' h1 h2
    simp only [if_true]
    omega
   | false =>
    have := ihl (a.1 + x.size.1, a.2 + x.size.2) hx' (by show 1 <= a.1 + x.size.1; omega) (by show 0 <= a.2 + x.size.2; omega)
    simp only [Bool.false_eq_true, if_false] at this ⊢
    omega
 have := key kids (1, d.size) ih (Int.le_refl _) (by show (0 : Int) <= d.size; omega)
 simp only [Tr.size, Tr.total] at this ⊢
 omega
end Go.Wk

set_option maxRecDepth 100000
namespace Go.Proofs.YtgfiobhpipollaaGreatDoor
open Go Go.HL Go.Wk
attribute [local irreducible] ptrW ifW brW andW rdT alW letJ stW muW biW vaW imW callT cvalT app callW invW callVW sizeT oW nilF oneK loopW rfW funW begW roundK exW idxW Gr Put
mutual
def TrAt (σ : H) : Tr -> List Value -> Prop
 | .mk n k e d kids, cs => ∃ x : Sl, cs = [.string n, .int .i64 k, .bool e, .string d, .slice x.base x.len x.cap] /\ x.len = kids.length /\ (kids = [] \/ ∃ g o cur t fz, x.base = some ⟨g, o, none⟩ /\ σ g = some (.cells ⟨cur⟩ t fz) /\ RowAt σ kids (cur.drop o))
def RowAt (σ : H) : List Tr -> List Value -> Prop
 | [], _ => True
 | t :: r, cs => TrAt σ t (cs.take 5) /\ RowAt σ r (cs.drop 5)
end
def SlAt (σ : H) (kids : List Tr) (x : Sl) : Prop := x.len = kids.length /\ (kids = [] \/ ∃ g o cur t fz, x.base = some ⟨g, o, none⟩ /\ σ g = some (.cells ⟨cur⟩ t fz) /\ RowAt σ kids (cur.drop o))
def trC (t : Tr) (x : Sl) : List Value := [.string t.name, .int .i64 t.kind, .bool t.exec, .string t.data, .slice x.base x.len x.cap]
theorem trAt_iff {σ : H} {t : Tr} {cs : List Value} : TrAt σ t cs ↔ ∃ x, cs = trC t x /\ SlAt σ t.kids x := by
 obtain ⟨n, k, e, d, kids⟩ := t
 simp only [TrAt, trC, SlAt, Tr.name, Tr.kind, Tr.exec, Tr.data, Tr.kids]
theorem rowAt_get {σ : H} : ∀ {l : List Tr} {cs : List Value} {i : Nat} {t : Tr}, RowAt σ l cs -> l[i]? = some t -> TrAt σ t ((cs.drop (i * 5)).take 5) := by
 intro l
 induction l with
 | nil => intro cs i t _ h; simp at h
 | cons x r ih =>
  intro cs i t h hi
  simp only [RowAt] at h
  cases i with
  | zero => simp at hi; subst hi; simpa using h.1
  | succ i =>
   simp at hi
   have := ih h.2 hi
   rw [List.drop_drop] at this
   rw [show (i + 1) * 5 = 5 + i * 5 by omega]; exact this
theorem kid_rd {σ : H} {kids : List Tr} {x : Sl} (h : SlAt σ kids x) {i : Nat} {t : Tr} (hi : kids[i]? = some t) : ∃ g o y, x.base = some ⟨g, o, none⟩ /\ rdA 5 g (o + i * 5) σ = some (.agg ⟨trC t y⟩) /\ SlAt σ t.kids y := by
 obtain ⟨h1, h2 | ⟨g, o, cur, ty, fz, h3, h4, h5⟩⟩ := h
 ·subst h2; simp at hi
 ·have := rowAt_get h5 hi
  obtain ⟨y, hy, hs⟩ := trAt_iff.1 this
  refine ⟨g, o, y, h3, ?_, hs⟩
  rw [List.drop_drop] at hy
  have hlen : o + i * 5 + 5 <= cur.length := by
   have := congrArg List.length hy
   simp [trC] at this
   omega
  rw [rdA_of h4 hlen, hy]
theorem kid_name {σ : H} {kids : List Tr} {x : Sl} (h : SlAt σ kids x) {i : Nat} {t : Tr} (hi : kids[i]? = some t) : ∃ g o, x.base = some ⟨g, o, none⟩ /\ rdC g (o + i * 5) σ = some (.string t.name) := by
 obtain ⟨h1, h2 | ⟨g, o, cur, ty, fz, h3, h4, h5⟩⟩ := h
 ·subst h2; simp at hi
 ·have := rowAt_get h5 hi
  obtain ⟨y, hy, hs⟩ := trAt_iff.1 this
  refine ⟨g, o, h3, rdC_of h4 ?_⟩
  rw [List.drop_drop] at hy
  have h0 : ((cur.drop (o + i * 5)).take 5)[0]? = some (.string t.name) := by rw [hy]; rfl
  simpa using h0
theorem gr_both {σ σ' : H} (hg : Gr σ σ') : ∀ t : Tr, ∀ cs, TrAt σ t cs -> TrAt σ' t cs := by
 refine Tr.ind ?_
 intro t ih cs h
 rw [trAt_iff] at h ⊢
 obtain ⟨x, h1, h2, h3⟩ := h
 refine ⟨x, h1, h2, ?_⟩
 rcases h3 with h3 | ⟨g, o, cur, ty, fz, h3, h4, h5⟩
 ·exact .inl h3
 ·refine .inr ⟨g, o, cur, ty, fz, h3, hg.get h4, ?_⟩
  generalize cur.drop o = cs at h5
  clear h4 h3 h2 h1
  generalize t.kids = l at *
  induction l generalizing cs with
  | nil => trivial
  | cons y r ihr =>
   simp only [RowAt] at h5 ⊢
   exact ⟨ih y (List.mem_cons_self ..) _ h5.1, ihr _ (fun z hz => ih z (List.mem_cons_of_mem _ hz)) h5.2⟩
theorem rowAt_gr {σ σ' : H} (hg : Gr σ σ') : ∀ {l : List Tr} {cs : List Value}, RowAt σ l cs -> RowAt σ' l cs := by
 intro l
 induction l with
 | nil => intro _ _; trivial
 | cons y r ih => intro cs h; simp only [RowAt] at h ⊢; exact ⟨gr_both hg y _ h.1, ih h.2⟩
theorem SlAt.gr {σ σ' : H} {kids : List Tr} {x : Sl} (h : SlAt σ kids x) (hg : Gr σ σ') : SlAt σ' kids x := by
 obtain ⟨h1, h2 | ⟨g, o, cur, ty, fz, h3, h4, h5⟩⟩ := h
 ·exact ⟨h1, .inl h2⟩
 ·exact ⟨h1, .inr ⟨g, o, cur, ty, fz, h3, hg.get h4, rowAt_gr hg h5⟩⟩
theorem SlAt.nil {σ : H} {b : Option Addr} {c : Nat} : SlAt σ [] ⟨b, 0, c⟩ := ⟨rfl, .inl rfl⟩
theorem sz_Node : sizeT Tryz.prog 75 = some 5 := by kernel_rfl
theorem deep_le : ∀ (m : Nat) (t : Tr), 1 <= t.deep m /\ t.deep m <= m + 1 := by
 intro m
 induction m with
 | zero => intro t; simp [Tr.deep]
 | succ m ih =>
  intro t
  unfold Tr.deep
  by_cases h : t.kind ≠ 2 \/ m = 0
  ·rw [if_pos h]; omega
  ·rw [if_neg h]
   have key : ∀ (l : List Tr) (d : Int), 1 <= d -> d <= m + 2 -> 1 <= l.foldl (fun d x => gr d (1 + Tr.deep m x)) d /\ l.foldl (fun d x => gr d (1 + Tr.deep m x)) d <= m + 2 := by
    intro l
    induction l with
    | nil => intro d h1 h2; exact ⟨h1, h2⟩
    | cons x r ihl =>
     intro d h1 h2
     have := ih x
     simp only [List.foldl_cons]
     refine ihl _ ?_ ?_ <;> (unfold Wk.gr; split <;> omega)
   have := key t.kids 1 (by omega) (by omega)
   omega
theorem len_total : ∀ l : List Tr, l.length <= Tr.totalRow l := by
 intro l
 induction l with
 | nil => simp [Tr.totalRow]
 | cons x r ih =>
  simp only [Tr.totalRow, List.length_cons]
  have : 1 <= x.total := by obtain ⟨n, k, e, d, kids⟩ := x; simp only [Tr.total]; omega
  omega
theorem kids_total (t : Tr) : t.kids.length + 1 <= t.total := by
 have := len_total t.kids
 obtain ⟨n, k, e, d, kids⟩ := t
 simp only [Tr.total, Tr.kids] at *; omega
theorem kid_total {t x : Tr} {i : Nat} (h : t.kids[i]? = some x) : x.total < t.total := Tr.total_kid (List.mem_of_getElem? h)
theorem s_tdeep : ∀ (m : Nat), m <= 100 -> ∀ (t : Tr) (y : Sl) {σ : H}, SlAt σ t.kids y -> t.total <= 1000000000000000 -> ∀ {K : KH}, K (.int .i64 (t.deep (m + 1))) σ -> callW Tryz.prog 209 [.agg ⟨trC t y⟩, .int .i64 ((m + 1 : Nat) : Int)] K σ := by
 intro m
 induction m with
 | zero =>
  intro _ t y σ hs hT K hK
  refine pure_i _ hK (c209 _ _ _ _ _ _ ?_)
  clear hK
  unfold g209
  refine al_i ?_; intro b7 σ1 g1 e1 n1
  refine j_i (fun j => j (((0 + 1 : Nat) : Nat) : Int) (some ⟨b7, 0, none⟩) 1 true σ1) ?_ ?_
  ·refine br_t rfl ⟨?_, g1⟩
   unfold Tr.deep; rw [if_pos (.inr rfl)]
  ·intro j hj
   refine rd_I (rdC_of e1 (by rfl)) ?_
   by_cases hk : t.kind = 2
   ·exact br_f (by simpa using hk) hj
   ·exact br_t (by simpa using hk) hj
 | succ m ih =>
  intro hm t y σ hs hT K hK
  refine pure_i _ hK (c209 _ _ _ _ _ _ ?_)
  clear hK
  unfold g209
  refine al_i ?_; intro b7 σ1 g1 e1 n1
  unfold Tr.deep
  refine j_i (fun j => ∀ b : Bool, (b = true ↔ t.kind ≠ 2) -> j (((m + 1 + 1 : Nat) : Nat) : Int) (some ⟨b7, 0, none⟩) 1 b σ1) ?_ ?_
  ·intro b hb
   by_cases hk : t.kind = 2
   case neg =>
    rw [if_pos (.inl hk)]
    refine br_t (hb.2 hk) ⟨rfl, g1⟩
   have hbf : b = false := by
    cases b with
    | false => rfl
    | true => exact absurd hk (hb.1 rfl)
   rw [if_neg (by rintro (h | h); exact h hk; omega)]
   refine br_f hbf (ptr_i (rd_L (rdC_of e1 (by rfl)) ?_))
   refine loop_i ?_
   intro R hR
   have hlen := kids_total t
   have key : ∀ (l : List Tr) (i : Nat) (d : Int) (τ : H), t.kids.drop i = l -> 1 <= d -> d <= 200 -> Gr σ τ -> R (((m + 1 + 1 : Nat) : Nat) : Int) d ⟨y.base, y.len, y.cap⟩ ((y.len : Nat) : Int) (i : Int) τ -> True := fun _ _ _ _ _ _ _ _ _ => trivial
   clear key
   have key : ∀ (l : List Tr) (i : Nat) (d : Int) (τ : H), t.kids.drop i = l -> 1 <= d -> d <= 200 -> Gr σ τ -> t.kids.foldl (fun d x => Wk.gr d (1 + Tr.deep (m + 1) x)) 1 = l.foldl (fun d x => Wk.gr d (1 + Tr.deep (m + 1) x)) d -> R (((m + 1 + 1 : Nat) : Nat) : Int) d y ((y.len : Nat) : Int) (i : Int) τ := by
    intro l
    induction l with
    | nil =>
     intro i d τ hd h1 h2 hg he
     have hge : t.kids.length <= i := by simpa using hd
     refine hR _ _ _ _ _ _ ?_
     refine br_f (by rw [hs.1]; simp only [decide_eq_false_iff_not]; omega) ⟨?_, hg⟩
     rw [he]; rfl
    | cons x r ihl =>
     intro i d τ hd h1 h2 hg he
     have hx : t.kids[i]? = some x := by
      have : (t.kids.drop i)[0]? = some x := by rw [hd]; rfl
      simpa using this
     have hlt : i < t.kids.length := by
      rcases Nat.lt_or_ge i t.kids.length with h | h
      ·exact h
      ·rw [List.drop_eq_nil_of_le h] at hd; cases hd
     obtain ⟨g, o, z, hb, hrd, hz⟩ := kid_rd (hs.gr hg) hx
     refine hR _ _ _ _ _ _ ?_
     refine br_t (by rw [hs.1]; simp only [decide_eq_true_eq]; omega) ?_
     rw [hb]
     refine ptr_i (if_i ⟨by omega, by rw [hs.1]; omega⟩ ?_)
     have hrd' : rdA 5 g (o + (i : Int).toNat * 5) τ = some (.agg ⟨trC x z⟩) := by simpa using hrd
     refine rd_G hrd' ?_
     unfold trC
     (refine app_of rfl ?_; try dsimp only)
     refine al_i ?_; intro b29 τ1 g2 e2 n2
     refine st_i2 e2 sz_Node (by rfl) (by rfl) ?_; intro τ2 p2
     refine rd_G (rdA_of' p2.same (by rfl)) ?_
     (refine app_of rfl ?_; try dsimp only)
     have hg2 : Gr τ τ2 := g2.putF p2 n2
     have w1 : IntKind.i64.wrap ((((m + 1 + 1 : Nat) : Nat) : Int) - 1) = ((m + 1 : Nat) : Int) := by rw [wrap_id (by omega) (by omega)]; omega
     rw [w1]
     refine call_i (ih (by omega) x z (hz.gr hg2) (by have := kid_total hx; omega) (app_I ?_))
     have hdl := deep_le (m + 1) x
     rw [wrap_id (x := 1 + Tr.deep (m + 1) x) (by omega) (by omega), wrap_id (x := (i : Int) + 1) (by omega) (by omega)]
     have h2' : t.kids.drop (i + 1) = r := by rw [<- List.drop_drop, hd]; rfl
     refine ihl (i + 1) _ τ2 h2' ?_ ?_ (hg.trans hg2) ?_
     ·split <;> omega
     ·split <;> omega
     ·rw [he]; rfl
   exact key t.kids 0 1 σ1 rfl (by omega) (by omega) g1 rfl
  ·intro j hj
   refine rd_I (rdC_of e1 (by rfl)) ?_
   by_cases hk : t.kind = 2
   ·refine br_f (by simpa using hk) (hj _ ?_)
    have : ((((m + 1 + 1 : Nat) : Int)) == 1) = false := by
     simp only [beq_eq_false_iff_ne]; omega
    rw [this]; simp [hk]
   ·exact br_t (by simpa using hk) (hj true (by simp [hk]))
theorem s_tDeep (t : Tr) (y : Sl) {σ : H} (hs : SlAt σ t.kids y) (hT : t.total <= 1000000000000000) {K : KH} (hK : K (.int .i64 (t.deep 14)) σ) : callW Tryz.prog 167 [.agg ⟨trC t y⟩] K σ := by
 refine pure_i _ hK (c167 _ _ _ _ _ ?_)
 clear hK
 unfold g167
 refine al_i ?_; intro b6 σ1 g1 e1 n1
 refine rd_G (rdA_of' e1 (by rfl)) ?_
 (refine app_of rfl ?_; try dsimp only)
 exact call_i (s_tdeep 13 (by omega) t y (hs.gr g1) hT (app_I ⟨rfl, g1⟩))
theorem s_tooDeep (t : Tr) (y : Sl) {σ : H} (hs : SlAt σ t.kids y) (hT : t.total <= 1000000000000000) {K : KH} (hK : K (.bool t.tooDeep) σ) : callW Tryz.prog 105 [.agg ⟨trC t y⟩] K σ := by
 refine pure_i _ hK (c105 _ _ _ _ _ ?_)
 clear hK
 unfold g105
 refine al_i ?_; intro b6 σ1 g1 e1 n1
 refine rd_G (rdA_of' e1 (by rfl)) ?_
 (refine app_of rfl ?_; try dsimp only)
 exact call_i (s_tDeep t y (hs.gr g1) hT (app_I ⟨rfl, g1⟩))
theorem drop_get {α : Type} {l r : List α} {x : α} {i : Nat} (h : l.drop i = x :: r) : l[i]? = some x /\ i < l.length /\ l.drop (i + 1) = r := by
 refine ⟨?_, ?_, ?_⟩
 ·have : (l.drop i)[0]? = some x := by rw [h]; rfl
  simpa using this
 ·rcases Nat.lt_or_ge i l.length with h' | h'
  ·exact h'
  ·rw [List.drop_eq_nil_of_le h'] at h; cases h
 ·rw [<- List.drop_drop, h]; rfl
def Pb (σ : H) (f : Value) (b : Bool) : Prop := ∀ K : Value -> H -> Prop, K (.bool b) σ -> callVW Tryz.prog f [] K σ
theorem pb_of {σ : H} {g : FuncId} {as_ cs : List Value} {e : Bool} (hg : isGo Tryz.prog g = true) (h : ∀ K : Value -> H -> Prop, K (.bool e) σ -> callW Tryz.prog g (as_ ++ cs) K σ) : Pb σ (.func (.func g) ⟨as_⟩ ⟨cs⟩) e := by
 intro K hk
 unfold callVW
 simp only [hg]
 simpa using h K hk
def AllOk (σ : H) : List Value -> List Bool -> Prop
 | [], [] => True
 | f :: fs, b :: bs => Pb σ f b /\ (b = true -> AllOk σ fs bs)
 | _, _ => False
def allB : List Bool -> Bool
 | [] => true
 | b :: r => b && allB r
theorem go_all1 : isGo Tryz.prog 211 = true := by kernel_rfl
theorem x_IdxF {σ : H} {b : Nat} {fs : List Value} {bs : List Bool} {t : TypeId} (hb : σ b = some (.cells ⟨fs⟩ t (0, 0))) (h : AllOk σ fs bs) (hn : fs.length <= 1000) {K : KH} (hK : ∀ n : Int, decide (n >= 0) = !allB bs -> K (.int .i64 n) σ) :
 callW Tryz.prog 246 [.slice (some ⟨b, 0, none⟩) fs.length fs.length, .func (.func 211) ⟨[]⟩ ⟨[]⟩] K σ := by
 refine c246 ⟨some ⟨b, 0, none⟩, _, _⟩ _ ?_
 unfold g246
 refine loop_i ?_
 intro R hR
 have key : ∀ (gs : List Value) (ds : List Bool) (i : Nat), fs.drop i = gs -> AllOk σ gs ds -> allB bs = allB ds -> R ⟨some ⟨b, 0, none⟩, fs.length, fs.length⟩ (.func (.func 211) ⟨[]⟩ ⟨[]⟩) ((fs.length : Nat) : Int) (i : Int) σ := by
  intro gs
  induction gs with
  | nil =>
   intro ds i hd hok he
   have hge : fs.length <= i := by simpa using hd
   refine hR _ _ _ _ _ ?_
   cases ds with
   | cons d ds => exact hok.elim
   | nil => exact br_f (by simp; omega) (hK _ (by rw [he]; rfl))
  | cons f gs ih =>
   intro ds i hd hok he
   cases ds with
   | nil => exact hok.elim
   | cons d ds =>
    obtain ⟨hp, hok⟩ := hok
    obtain ⟨hf, hlt, hd'⟩ := drop_get hd
    refine hR _ _ _ _ _ ?_
    refine br_t (by simpa using hlt) ?_
    refine ptr_i (if_i ⟨by omega, by show (i : Int) < (fs.length : Int); omega⟩ ?_)
    refine rd_R (rdC_of (v := f) hb (by simpa using hf)) ?_
    refine cval_i go_all1 (c211 _ ?_)
    unfold g211
    refine cvalv_i (hp _ (app_B (app_B ?_)))
    cases d with
    | false =>
     refine br_t rfl (hK _ ?_)
     rw [he]; simp [allB]
    | true =>
     refine br_f rfl ?_
     rw [wrap_id (by omega) (by omega)]
     exact ih ds (i + 1) hd' (hok rfl) (by rw [he]; simp [allB])
 exact key fs bs 0 rfl h rfl
theorem x_all {σ : H} {b : Nat} {fs : List Value} {bs : List Bool} {t : TypeId} (hb : σ b = some (.cells ⟨fs⟩ t (0, 0))) (h : AllOk σ fs bs) (hn : fs.length <= 1000) {K : KH} (hK : K (.bool (allB bs)) σ) :
 callW Tryz.prog 170 [.slice (some ⟨b, 0, none⟩) fs.length fs.length] K σ := by
 refine c170 ⟨some ⟨b, 0, none⟩, _, _⟩ ?_
 unfold g170
 refine call_i (c210 ⟨some ⟨b, 0, none⟩, _, _⟩ _ ?_)
 unfold g210
 refine call_i (x_IdxF hb h hn ?_)
 intro n hn
 refine app_I (app_B ?_)
 rw [hn]; simpa using hK
theorem strLt_eq (a b : ByteArray) : strLt a b = ltB a b := by
 unfold strLt ltB
 rw [ByteArray.toList_eq, ByteArray.toList_eq]
 generalize a.data.toList = x
 generalize b.data.toList = y
 induction x generalizing y with
 | nil => cases y <;> simp [Op.bytesLess, Wk.leB]
 | cons c r ih =>
  cases y with
  | nil => simp [Op.bytesLess, Wk.leB]
  | cons d s =>
   simp only [Op.bytesLess, Wk.leB, ih s]
   by_cases h1 : c < d
   ·have : Nat.blt c.toNat d.toNat = true := by rw [Nat.blt_eq]; exact h1
    have h2 : Nat.blt d.toNat c.toNat = false := by
     rw [<- Bool.not_eq_true, Nat.blt_eq]; have : c.toNat < d.toNat := h1; omega
    simp [h1, this, h2]
   ·have n1 : Nat.blt c.toNat d.toNat = false := by rw [<- Bool.not_eq_true, Nat.blt_eq]; exact h1
    by_cases h2 : d < c
    ·have : Nat.blt d.toNat c.toNat = true := by rw [Nat.blt_eq]; exact h2
     have h3 : (c == d) = false := by
      simp only [beq_eq_false_iff_ne]; intro e; subst e; exact h1 h2
     simp [h1, this, h3]
    ·have n2 : Nat.blt d.toNat c.toNat = false := by rw [<- Bool.not_eq_true, Nat.blt_eq]; exact h2
     have : c = d := UInt8.le_antisymm (UInt8.not_lt.1 h2) (UInt8.not_lt.1 h1)
     subst this
     simp [n1]
theorem s_mayName (s : ByteArray) {σ : H} {K : KH} (hK : K (.bool (mayName s)) σ) : callW Tryz.prog 174 [.string s] K σ := by
 refine c174 _ ?_
 unfold g174
 unfold mayName at hK
 simp only [sEq_eq] at hK
 by_cases h1 : 1 <= s.size
 case neg => exact br_f (by simp; omega) (by simpa [h1] using hK)
 refine br_t (by simp; omega) ?_
 by_cases h2 : s.size <= 56
 case neg => exact br_f (by simp; omega) (by simpa [h1, h2] using hK)
 refine br_t (by simp; omega) (call_i (cAny _ (by omega) _ _ (app_B ?_)))
 simp only [h1, h2, decide_true, Bool.true_and] at hK
 cases h3 : badByte s with
 | true => rw [h3] at hK; exact br_f rfl hK
 | false =>
  rw [h3] at hK
  refine br_t rfl ?_
  cases h4 : strEq s ⟨⟨[46]⟩⟩ with
  | true => rw [h4] at hK; exact br_f rfl hK
  | false => rw [h4] at hK; exact br_t rfl hK
theorem go_mayT1 : isGo Tryz.prog 168 = true := by kernel_rfl
theorem go_mayT2 : isGo Tryz.prog 169 = true := by kernel_rfl
theorem go_mayT3 : isGo Tryz.prog 171 = true := by kernel_rfl
theorem go_mayT4 : isGo Tryz.prog 172 = true := by kernel_rfl
theorem go_mayT5 : isGo Tryz.prog 173 = true := by kernel_rfl
section
variable {σ : H} {b6 : Nat} {t : Tr} {y : Sl} {ty : TypeId}
theorem s_mayT1 (h6 : σ b6 = some (.cells ⟨trC t y⟩ ty (0, 0))) (hs : SlAt σ t.kids y) {K : KH} (hK : K (.bool t.kids.isEmpty) σ) : callW Tryz.prog 168 [.pointer (some ⟨b6, 0, none⟩)] K σ := by
 refine c168 _ ?_
 unfold g168
 unfold trC at h6
 refine ptr_i (rd_L (rdC_of h6 (by rfl)) ?_)
 have : ((((y.len : Nat) : Int) : Int) == 0) = t.kids.isEmpty := by
  rw [hs.1]; cases t.kids <;> simp; omega
 rw [this]; exact hK
theorem s_mayT2 (h6 : σ b6 = some (.cells ⟨trC t y⟩ ty (0, 0))) {K : KH} (hK : K (.bool (!t.exec)) σ) : callW Tryz.prog 169 [.pointer (some ⟨b6, 0, none⟩)] K σ := by
 refine c169 _ ?_
 unfold g169
 unfold trC at h6
 exact ptr_i (rd_B (rdC_of h6 (by rfl)) hK)
theorem s_mayT3 (h6 : σ b6 = some (.cells ⟨trC t y⟩ ty (0, 0))) {K : KH} (hK : K (.bool (linkOk t.data)) σ) : callW Tryz.prog 171 [.pointer (some ⟨b6, 0, none⟩)] K σ := by
 refine c171 _ ?_
 unfold g171
 unfold trC at h6
 have hne : sEq t.data ⟨⟨[]⟩⟩ = decide (t.data.size < 1) := by
  rw [Bool.eq_iff_iff, sEq_iff, decide_eq_true_eq]
  constructor
  ·intro e; rw [e]; decide
  ·intro h
   have hl : t.data.data.toList.length = t.data.size := rfl
   have : t.data.data.toList = [] := List.eq_nil_of_length_eq_zero (by omega)
   show (⟨⟨t.data.data.toList⟩⟩ : ByteArray) = _
   rw [this]
 unfold linkOk at hK
 rw [hne] at hK
 refine ptr_i (rd_S (rdC_of h6 (by rfl)) ?_)
 by_cases h1 : 1 <= t.data.size
 case neg => exact br_f (by simp; omega) (by simpa [show t.data.size < 1 by omega] using hK)
 refine br_t (by simp; omega) (ptr_i (rd_S (rdC_of h6 (by rfl)) ?_))
 have h1' : decide (t.data.size < 1) = false := by simp only [decide_eq_false_iff_not]; omega
 rw [h1'] at hK
 by_cases h2 : t.data.size <= 255
 case neg => exact br_f (by simp; omega) (by simpa [h2] using hK)
 refine br_t (by simp; omega) (ptr_i (rd_S (rdC_of h6 (by rfl)) (call_i (iByte _ _ _ ?_))))
 intro n hn
 refine app_I ?_
 rw [hn]; simpa [h2] using hK
theorem s_mayT4 (h6 : σ b6 = some (.cells ⟨trC t y⟩ ty (0, 0))) {K : KH} (hK : K (.bool (sEq t.data ⟨⟨[]⟩⟩)) σ) : callW Tryz.prog 172 [.pointer (some ⟨b6, 0, none⟩)] K σ := by
 refine c172 _ ?_
 unfold g172
 unfold trC at h6
 rw [sEq_eq] at hK
 exact ptr_i (rd_S (rdC_of h6 (by rfl)) hK)
end
theorem s_may_tree : ∀ (t : Tr) (y : Sl) {σ : H}, SlAt σ t.kids y -> t.total <= 1000000000000000 -> ∀ {K : KH}, K (.bool t.may) σ -> callW Tryz.prog 106 [.agg ⟨trC t y⟩] K σ := by
 refine Tr.ind (P := fun t => ∀ (y : Sl) {σ : H}, SlAt σ t.kids y -> t.total <= 1000000000000000 -> ∀ {K : KH}, K (.bool t.may) σ -> callW Tryz.prog 106 [.agg ⟨trC t y⟩] K σ) ?_
 intro t ih y σ hs hT K hK
 refine pure_i _ hK (c106 _ _ _ _ _ ?_)
 clear hK
 unfold g106
 refine al_i ?_; intro b6 σ1 g1 e1 n1
 have hs1 := hs.gr g1
 have e1' : σ1 b6 = some (.cells ⟨trC t y⟩ 75 (0, 0)) := e1
 refine rd_I (rdC_of e1 (by rfl)) ?_
 have hmay : t.may = if t.kind = 1 then t.kids.isEmpty else if t.kind = 3 then t.kids.isEmpty && (!t.exec && linkOk t.data) else if t.kind = 2 then !t.exec && (sEq t.data ⟨⟨[]⟩⟩ && Tr.mayRow none t.kids) else false := by
  obtain ⟨n, k, e, d, kids⟩ := t
  rw [Tr.may]; rfl
 rw [hmay]
 by_cases k1 : t.kind = 1
 ·rw [if_pos k1]
  refine br_t (by simpa using k1) (call_i (s_mayT1 e1' hs1 (app_B ⟨rfl, g1⟩)))
 rw [if_neg k1]
 refine br_f (by simpa using k1) ?_
 by_cases k3 : t.kind = 3
 ·rw [if_pos k3]
  refine br_t (by simpa using k3) ?_
  refine al_i ?_; intro b9 σ2 g2 e2 n2
  have e1'' := g2.get e1'
  refine call_i (x_all (bs := [t.kids.isEmpty, !t.exec, linkOk t.data]) e2 ⟨pb_of go_mayT1 fun K hk => s_mayT1 e1'' (hs1.gr g2) hk, fun _ => ⟨pb_of go_mayT2 fun K hk => s_mayT2 e1'' hk, fun _ => ⟨pb_of go_mayT3 fun K hk => s_mayT3 e1'' hk, fun _ => trivial⟩⟩⟩ (by simp) (app_B ⟨?_, g1.trans g2⟩))
  simp [allB]
 rw [if_neg k3]
 refine br_f (by simpa using k3) ?_
 by_cases k2 : t.kind = 2
 case neg => rw [if_neg k2]; exact br_f (by simpa using k2) ⟨rfl, g1⟩
 rw [if_pos k2]
 refine br_t (by simpa using k2) ?_
 refine al_i ?_; intro b11 σ2 g2 e2 n2
 have e1'' := g2.get e1'
 have hs2 := hs1.gr g2
 refine call_i (x_all (bs := [!t.exec, sEq t.data ⟨⟨[]⟩⟩, Tr.mayRow none t.kids]) e2 ⟨pb_of go_mayT2 fun K hk => s_mayT2 e1'' hk, fun _ => ⟨pb_of go_mayT4 fun K hk => s_mayT4 e1'' hk, fun _ => ⟨pb_of go_mayT5 fun K hk => ?_, fun _ => trivial⟩⟩⟩ (by simp) (app_B ⟨by simp [allB], g1.trans g2⟩))
 clear e2 n2 g1 e1 n1
 refine pure_i _ hk ?_
 clear hk
 refine c173 _ ?_
 unfold g173
 have hT1 := kids_total t
 unfold trC at e1''
 refine ptr_i (rd_L (rdC_of e1'' (by rfl)) ?_)
 refine loop_i ?_
 intro R hR
 have key : ∀ (l : List Tr) (i : Nat) (τ : H), t.kids.drop i = l -> Gr σ2 τ -> Tr.mayRow none t.kids = Tr.mayRow (if i = 0 then none else (t.kids[i - 1]?).map Tr.name) l -> R (some ⟨b6, 0, none⟩) y ((y.len : Nat) : Int) (i : Int) τ := by
  intro l
  induction l with
  | nil =>
   intro i τ hd hg he
   have hge : t.kids.length <= i := by simpa using hd
   refine hR _ _ _ _ _ ?_
   refine br_f (by rw [hs.1]; simp only [decide_eq_false_iff_not]; omega) ⟨?_, hg⟩
   rw [he]; simp [Tr.mayRow]
  | cons x r ihl =>
   intro i τ hd hg he
   obtain ⟨hx, hlt, hd'⟩ := drop_get hd
   obtain ⟨g, o, z, hb, hrd, hz⟩ := kid_rd (hs2.gr hg) hx
   refine hR _ _ _ _ _ ?_
   refine br_t (by rw [hs.1]; simp only [decide_eq_true_eq]; omega) ?_
   rw [hb]
   refine ptr_i (if_i ⟨by omega, by rw [hs.1]; omega⟩ ?_)
   have hrd' : rdA 5 g (o + (i : Int).toNat * 5) τ = some (.agg ⟨trC x z⟩) := by simpa using hrd
   refine rd_G hrd' ?_
   unfold trC
   (refine app_of rfl ?_; try dsimp only)
   refine al_i ?_; intro b17 τ1 g2 e2 n2
   refine st_i2 e2 sz_Node (by rfl) (by rfl) ?_; intro τ2 p2
   have hg2 : Gr τ τ2 := g2.putF p2 n2
   have k17 : τ2 b17 = some (.cells ⟨[.string x.name, .int .i64 x.kind, .bool x.exec, .string x.data, .slice z.base z.len z.cap]⟩ 75 (0, 0)) := p2.same
   clear p2 e2
   simp only [Tr.mayRow] at he
   refine j_i (fun j => ∀ (v1 v2 v3 v4 v5 v6 v7 v8 v9 v10 v11 v12 v13 v14 v15 v16 v17 : Value) (b : Bool), (b = true -> Tr.mayRow none t.kids = false) -> (b = false -> Tr.mayRow none t.kids = Tr.mayRow (some x.name) r) -> j (some ⟨b6, 0, none⟩) y ((y.len : Nat) : Int) (i : Int) v1 v2 v3 v4 v5 v6 v7 v8 v9 v10 v11 v12 v13 v14 v15 v16 v17 b τ2) ?_ ?_
   ·intro v1 v2 v3 v4 v5 v6 v7 v8 v9 v10 v11 v12 v13 v14 v15 v16 v17 b h1 h2
    cases b with
    | true => rw [h1 rfl]; exact br_t rfl ⟨rfl, hg.trans hg2⟩
    | false =>
     refine br_f rfl ?_
     rw [wrap_id (by omega) (by omega)]
     refine ihl (i + 1) τ2 hd' (hg.trans hg2) ?_
     rw [h2 rfl]
     have : i + 1 - 1 = i := by omega
     rw [if_neg (by omega), this, hx]; rfl
   ·intro j hj
    refine rd_S (rdC_of k17 (by rfl)) (call_i (s_mayName _ (app_B ?_)))
    cases hmn : mayName x.name with
    | false =>
     rw [hmn] at he
     exact br_t rfl (hj _ _ _ _ _ _ _ _ _ _ _ _ _ _ _ _ _ true (fun _ => by rw [he]; rfl) (fun h => by cases h))
    | true =>
     rw [hmn] at he
     simp only [Bool.true_and] at he
     refine br_f rfl (rd_G (rdA_of' k17 (by rfl)) ?_)
     (refine app_of rfl ?_; try dsimp only)
     refine call_i (ih x (List.mem_of_getElem? hx) z (hz.gr hg2) (by have := kid_total hx; omega) (app_B ?_))
     cases hmx : x.may with
     | false =>
      rw [hmx] at he
      exact br_t rfl (hj _ _ _ _ _ _ _ _ _ _ _ _ _ _ _ _ _ true (fun _ => by rw [he]; rfl) (fun h => by cases h))
     | true =>
      rw [hmx] at he
      simp only [Bool.true_and] at he
      refine br_f rfl ?_
      cases i with
      | zero =>
       refine br_f (by simp) (hj _ _ _ _ _ _ _ _ _ _ _ _ _ _ _ _ _ false (fun h => by cases h) (fun _ => ?_))
       rw [he]; simp [above]
      | succ i =>
       have hi1 : i < t.kids.length := by omega
       obtain ⟨pv, hpv⟩ : ∃ pv, t.kids[i]? = some pv := ⟨_, List.getElem?_eq_getElem hi1⟩
       have : i + 1 - 1 = i := by omega
       rw [if_neg (by omega), this, hpv] at he
       have he : Tr.mayRow none t.kids = (ltB pv.name x.name && Tr.mayRow (some x.name) r) := he
       refine br_t (by simp only [decide_eq_true_eq]; omega) ?_
       have e1q := (hg.trans hg2).get e1''
       refine ptr_i (rd_L (rdC_of e1q (by rfl)) ?_)
       obtain ⟨g', o', hb', hnm⟩ := kid_name (hs2.gr (hg.trans hg2)) hpv
       show ptrW y.base _ τ2
       rw [hb']
       have w1 : IntKind.i64.wrap (((i + 1 : Nat) : Int) - 1) = (i : Int) := by rw [wrap_id (by omega) (by omega)]; omega
       rw [w1]
       have hnm' : rdC g' (o' + (i : Int).toNat * 5) τ2 = some (.string pv.name) := by simpa using hnm
       refine ptr_i (if_i ⟨by omega, by rw [hs.1]; omega⟩ (rd_S hnm' (rd_S (rdC_of k17 (by rfl)) ?_)))
       refine hj _ _ _ _ _ _ _ _ _ _ _ _ _ _ _ _ _ _ ?_ ?_
       ·intro h
        rw [strLt_eq] at h
        have : ltB pv.name x.name = false := by simpa using h
        rw [he, this]; rfl
       ·intro h
        rw [strLt_eq] at h
        have : ltB pv.name x.name = true := by simpa using h
        rw [he, this]; rfl
 exact key t.kids 0 σ2 rfl (Gr.refl _) rfl
theorem s_tsize : ∀ (t : Tr) (y : Sl) {σ : H}, SlAt σ t.kids y -> t.total <= 1000000000000000 -> ∀ {K : KH}, K (.tuple ⟨[.int .i64 t.size.1, .int .i64 t.size.2]⟩) σ -> callW Tryz.prog 175 [.agg ⟨trC t y⟩] K σ := by
 refine Tr.ind (P := fun t => ∀ (y : Sl) {σ : H}, SlAt σ t.kids y -> t.total <= 1000000000000000 -> ∀ {K : KH}, K (.tuple ⟨[.int .i64 t.size.1, .int .i64 t.size.2]⟩) σ -> callW Tryz.prog 175 [.agg ⟨trC t y⟩] K σ) ?_
 intro t ih y σ hs hT K hK
 refine pure_i _ hK (c175 _ _ _ _ _ ?_)
 clear hK
 unfold g175
 refine al_i ?_; intro b6 σ1 g1 e1 n1
 refine rd_S (rdC_of e1 (by rfl)) (rd_L (rdC_of e1 (by rfl)) ?_)
 have hT1 := kids_total t
 have hsz : t.size = Tr.sizeRow t.kids (1, (t.data.size : Int)) := by obtain ⟨n, k, e, d, kids⟩ := t; simp only [Tr.size, Tr.kids, Tr.data]
 have htot : 1 + t.data.size + Tr.totalRow t.kids <= t.total := by obtain ⟨n, k, e, d, kids⟩ := t; simp only [Tr.total, Tr.kids, Tr.data]; omega
 refine loop_i ?_
 intro R hR
 have key : ∀ (l : List Tr) (i : Nat) (a : Int × Int) (τ : H), t.kids.drop i = l -> Gr σ τ -> t.size = Tr.sizeRow l a -> 1 <= a.1 -> 0 <= a.2 -> a.1 + a.2 + Tr.totalRow l <= 1000000000000000 -> R a.1 a.2 y ((y.len : Nat) : Int) (i : Int) τ := by
  intro l
  induction l with
  | nil =>
   intro i a τ hd hg he h1 h2 h3
   have hge : t.kids.length <= i := by simpa using hd
   refine hR _ _ _ _ _ _ ?_
   refine br_f (by rw [hs.1]; simp only [decide_eq_false_iff_not]; omega) ⟨?_, hg⟩
   rw [he]; rfl
  | cons x r ihl =>
   intro i a τ hd hg he h1 h2 h3
   obtain ⟨hx, hlt, hd'⟩ := drop_get hd
   obtain ⟨g, o, z, hb, hrd, hz⟩ := kid_rd (hs.gr hg) hx
   simp only [Tr.totalRow] at h3
   have hxs := Tr.size_le x
   simp only [Tr.sizeRow] at he
   refine hR _ _ _ _ _ _ ?_
   refine br_t (by rw [hs.1]; simp only [decide_eq_true_eq]; omega) ?_
   refine j_i (fun j => ∀ τ2, Gr σ τ2 -> j (if x.tooDeep = true then a else (a.1 + x.size.1, a.2 + x.size.2)).1 (if x.tooDeep = true then a else (a.1 + x.size.1, a.2 + x.size.2)).2 y ((y.len : Nat) : Int) (i : Int) τ2) ?_ ?_
   ·intro τ2 hg2
    rw [wrap_id (x := (i : Int) + 1) (by omega) (by omega)]
    refine ihl (i + 1) _ τ2 hd' hg2 he ?_ ?_ ?_
    ·split <;> (try simp only) <;> omega
    ·split <;> (try simp only) <;> omega
    ·split <;> (try simp only) <;> omega
   ·intro j hj
    rw [hb]
    refine ptr_i (if_i ⟨by omega, by rw [hs.1]; omega⟩ ?_)
    have hrd' : rdA 5 g (o + (i : Int).toNat * 5) τ = some (.agg ⟨trC x z⟩) := by simpa using hrd
    refine rd_G hrd' ?_
    unfold trC
    (refine app_of rfl ?_; try dsimp only)
    refine al_i ?_; intro b28 τ1 g2 e2 n2
    refine st_i2 e2 sz_Node (by rfl) (by rfl) ?_; intro τ2 p2
    have hg2 : Gr τ τ2 := g2.putF p2 n2
    refine rd_G (rdA_of' p2.same (by rfl)) ?_
    (refine app_of rfl ?_; try dsimp only)
    have hxt : x.total <= 1000000000000000 := by have := kid_total hx; omega
    refine call_i (s_tooDeep x z (hz.gr hg2) hxt (app_B ?_))
    cases htd : x.tooDeep with
    | true =>
     have := hj τ2 (hg.trans hg2)
     simp only [htd, if_true] at this
     exact br_t rfl this
    | false =>
     have hjj := hj τ2 (hg.trans hg2)
     simp only [htd, Bool.false_eq_true, if_false] at hjj
     refine br_f rfl (rd_G (rdA_of' p2.same (by rfl)) ?_)
     (refine app_of rfl ?_; try dsimp only)
     refine call_i (ih x (List.mem_of_getElem? hx) z (hz.gr hg2) hxt (app_II ?_))
     rw [wrap_id (x := a.1 + x.size.1) (by omega) (by omega), wrap_id (x := a.2 + x.size.2) (by omega) (by omega)]
     exact hjj
 exact key t.kids 0 (1, (t.data.size : Int)) σ1 rfl g1 hsz (Int.le_refl _) (by show (0 : Int) <= t.data.size; omega) (by show (1 : Int) + t.data.size + Tr.totalRow t.kids <= 1000000000000000; omega)
theorem s_tSize (t : Tr) (y : Sl) {σ : H} (hs : SlAt σ t.kids y) (hT : t.total <= 1000000000000000) {K : KH} (hK : K (.tuple ⟨[.int .i64 t.sizeT.1, .int .i64 t.sizeT.2]⟩) σ) : callW Tryz.prog 107 [.agg ⟨trC t y⟩] K σ := by
 refine pure_i _ hK (c107 _ _ _ _ _ ?_)
 clear hK
 unfold g107
 refine al_i ?_; intro b6 σ1 g1 e1 n1
 refine rd_G (rdA_of' e1 (by rfl)) ?_
 (refine app_of rfl ?_; try dsimp only)
 refine call_i (s_tooDeep t y (hs.gr g1) hT (app_B ?_))
 unfold Tr.sizeT
 cases htd : t.tooDeep with
 | true => exact br_t rfl ⟨rfl, g1⟩
 | false =>
  refine br_f rfl (rd_G (rdA_of' e1 (by rfl)) ?_)
  (refine app_of rfl ?_; try dsimp only)
  exact call_i (s_tsize t y (hs.gr g1) hT (app_II ⟨rfl, g1⟩))
theorem s_Check (t : Tr) (y : Sl) {σ : H} (hs : SlAt σ t.kids y) (hT : t.total <= 1000000000000000) {K : KH} (hK : K (.int .i64 t.check) σ) : callW Tryz.prog 70 [.agg ⟨trC t y⟩] K σ := by
 generalize hres : t.check = res at hK
 unfold Tr.check at hres
 refine pure_i _ hK (c70 _ _ _ _ _ ?_)
 clear hK
 unfold g70
 refine al_i ?_; intro b6 σ1 g1 e1 n1
 have hs1 := hs.gr g1
 refine rd_G (rdA_of' e1 (by rfl)) ?_
 (refine app_of rfl ?_; try dsimp only)
 refine call_i (s_tooDeep t y hs1 hT (app_B ?_))
 cases htd : t.tooDeep with
 | true => rw [htd] at hres; simp only [if_true] at hres; exact br_t rfl ⟨by rw [<- hres], g1⟩
 | false =>
  rw [htd] at hres
  simp only [Bool.false_eq_true, if_false] at hres
  refine br_f rfl ?_
  refine j_i (fun j => ∀ b : Bool, (b = true ↔ sEq t.name ⟨⟨[]⟩⟩ = false \/ t.may = false) -> j (some ⟨b6, 0, none⟩) b σ1) ?_ ?_
  ·intro b hb
   cases b with
   | true => rw [if_pos (hb.1 rfl)] at hres; exact br_t rfl ⟨by rw [<- hres], g1⟩
   | false =>
    rw [if_neg (fun h => by have := hb.2 h; cases this)] at hres
    refine br_f rfl (ptr_i (rd_G (rdA_of' e1 (by rfl)) ?_))
    (refine app_of rfl ?_; try dsimp only)
    refine call_i (s_tSize t y hs1 hT (app_II ?_))
    refine j_i (fun j => ∀ b : Bool, (b = true ↔ t.sizeT.1 > 2000 \/ t.sizeT.2 > 100000) -> j b σ1) ?_ ?_
    ·intro b hb
     cases b with
     | true => rw [if_pos (hb.1 rfl)] at hres; exact br_t rfl ⟨by rw [<- hres], g1⟩
     | false => rw [if_neg (fun h => by have := hb.2 h; cases this)] at hres; exact br_f rfl ⟨by rw [<- hres], g1⟩
    ·intro j hj
     by_cases h1 : t.sizeT.1 > 2000
     ·exact br_t (by simpa using h1) (hj true (by simp [h1]))
     ·exact br_f (by simpa using h1) (hj _ (by simp [h1]))
  ·intro j hj
   rw [sEq_eq] at hj
   refine rd_S (rdC_of e1 (by rfl)) ?_
   cases hn : strEq t.name ⟨⟨[]⟩⟩ with
   | false => exact br_t rfl (hj true (by simp [hn]))
   | true =>
    refine br_f rfl (rd_G (rdA_of' e1 (by rfl)) ?_)
    (refine app_of rfl ?_; try dsimp only)
    refine call_i (s_may_tree t y hs1 hT (app_B (hj _ ?_)))
    rw [hn]; cases t.may <;> simp
end Go.Proofs.YtgfiobhpipollaaGreatDoor

namespace Go.Wk
open Go Go.HL
structure Grows (A A' : AT) : Prop where
 get : ∀ i n, A.get i = some n -> ∃ m, A'.get i = some m /\ m.kind = n.kind /\ m.up = n.up /\ m.mode = n.mode /\ m.data = n.data /\ m.links = n.links /\ ∀ s j, lk s n.ents = some j -> lk s m.ents = some j
 last : A.last <= A'.last
 qi : A'.qi = A.qi
 qb : A'.qb = A.qb
theorem Grows.trans {A B C : AT} (h : Grows A B) (k : Grows B C) : Grows A C := by
 refine ⟨fun i n hn => ?_, Int.le_trans h.last k.last, by rw [k.qi, h.qi], by rw [k.qb, h.qb]⟩
 obtain ⟨m, h1, h2, h3, h4, h5, h6, h7⟩ := h.get i n hn
 obtain ⟨m', k1, k2, k3, k4, k5, k6, k7⟩ := k.get i m h1
 exact ⟨m', k1, by rw [k2, h2], by rw [k3, h3], by rw [k4, h4], by rw [k5, h5], by rw [k6, h6], fun s j hs => k7 s j (h7 s j hs)⟩
section
variable {A A' : AT}
theorem Grows.isDir (h : Grows A A') {k : Int} (hk : A.isDir k) : A'.isDir k := by
 obtain ⟨n, h1, h2⟩ := hk
 obtain ⟨m, h3, h4, _⟩ := h.get k n h1
 exact ⟨m, h3, by rw [h4, h2]⟩
theorem Grows.deep (h : Grows A A') (hI : Inv A) (f : Nat) {k : Int} (hk : A.isDir k) : A'.deep f k = A.deep f k := by
 refine deep_same hI ?_ f k hk
 rintro k ⟨n, h1, _⟩
 obtain ⟨m, h3, _, h5, _⟩ := h.get k n h1
 unfold AT.upOf; rw [h1, h3]; simp [h5]
theorem Grows.find (h : Grows A A') {d : Int} {s : ByteArray} {j : Int} (hf : A.find d s = some j) : A'.find d s = some j := by
 unfold AT.find at hf ⊢
 cases hn : A.get d with
 | none => rw [hn] at hf; cases hf
 | some n =>
  rw [hn] at hf
  obtain ⟨m, h1, _, _, _, _, _, h7⟩ := h.get d n hn
  rw [h1]; exact h7 s j hf
variable {dir : Int} {name : ByteArray} {kind mode : Int} {data : ByteArray}
end
def RowD (A : AT) (ino : Int) (l : List Tr) : Prop := (∃ n, A.get ino = some n) /\ ∀ d, A.isDir ino -> A.deep 12 ino = some d -> ∀ x ∈ l, d + x.levels <= 12
theorem RowD.head {A : AT} {ino : Int} {x : Tr} {l : List Tr} (h : RowD A ino (x :: l)) : ∀ d, A.isDir ino -> A.deep 12 ino = some d -> d + x.levels <= 12 := fun d h1 h2 => h.2 d h1 h2 x (List.mem_cons_self ..)
end Go.Wk

set_option maxRecDepth 100000
namespace Go.Proofs.YtgfiobhpipollaaGreatDoor
open Go Go.HL Go.Wk
attribute [local irreducible] ptrW ifW brW andW rdT alW letJ stW muW biW vaW imW callT cvalT app callW invW callVW sizeT oW nilF oneK loopW rfW funW begW roundK exW idxW Gr Put
def Off (τ σ : H) (B : Nat -> Prop) : Prop := Gr τ σ /\ ∀ b o, τ b = some o -> ¬ B b
theorem Off.gr {τ σ σ' : H} {B : Nat -> Prop} (h : Off τ σ B) (hg : Gr σ σ') : Off τ σ' B := ⟨h.1.trans hg, h.2⟩
theorem Off.get {τ σ : H} {B : Nat -> Prop} (h : Off τ σ B) {b : Nat} {o : Obj} (hb : τ b = some o) : σ b = some o := h.1.get hb
theorem Off.sub {τ τ' σ : H} {B : Nat -> Prop} (h : Off τ σ B) (hg : Gr τ' τ) : Off τ' σ B := ⟨hg.trans h.1, fun b o hb => h.2 b o (hg.get hb)⟩
theorem StrSl.at {σ : H} {x : Sl} {l : List ByteArray} (h : StrSl σ x l) {i : Nat} {s : ByteArray} (hi : l[i]? = some s) : ∃ g cur, x.base = some ⟨g, 0, none⟩ /\ σ g = some (.cells ⟨cur⟩ 9 (0, 0)) /\ cur[i]? = some (.string s) := by
 obtain ⟨h1, h2 | ⟨g, cur, e1, e2, e3⟩⟩ := h
 ·subst h2; simp at hi
 ·refine ⟨g, cur, e1, e2, ?_⟩
  have hlt : i < l.length := by
   rcases Nat.lt_or_ge i l.length with h | h
   ·exact h
   ·rw [List.getElem?_eq_none h] at hi; cases hi
  have : (cur.take l.length)[i]? = some (.string s) := by rw [e3]; simp [hi]
  rw [List.getElem?_take_of_lt hlt] at this
  exact this
end Go.Proofs.YtgfiobhpipollaaGreatDoor

namespace Go.Wk
open Go Go.HL
variable {A : AT}
end Go.Wk

namespace Go.Wk
open Go Go.HL
mutual
def Tr.bytes : Tr -> Nat
 | .mk _ _ _ d kids => d.size + Tr.bytesRow kids
def Tr.bytesRow : List Tr -> Nat
 | [] => 0
 | t :: r => Tr.bytes t + Tr.bytesRow r
end
end Go.Wk

namespace Go.Wk
open Go Go.HL
variable {A : AT} {N : Nat}
end Go.Wk

namespace Go.Wk
open Go Go.HL
theorem splitL_app {c : UInt8} {b : List UInt8} : ∀ a : List UInt8, splitL c (a ++ c :: b) = splitL c a ++ splitL c b := by
 intro a
 induction a with
 | nil => simp [splitL]
 | cons x a ih =>
  simp only [List.cons_append, splitL]
  cases (x == c) with
  | true => simp [ih]
  | false =>
   simp only [ih]
   cases hs : splitL c a with
   | nil => exact absurd hs (splitL_ne a)
   | cons h t => simp
theorem app_data (a b : ByteArray) : (a ++ b).data.toList = a.data.toList ++ b.data.toList := by rw [ByteArray.data_append, Array.toList_append]
theorem badByte_mem {s : ByteArray} (h : badByte s = false) : (47 : UInt8) ∉ s.data.toList /\ (0 : UInt8) ∉ s.data.toList := by
 unfold badByte at h
 rw [List.any_eq_false] at h
 exact ⟨fun hm => h 47 hm (by decide), fun hm => h 0 hm (by decide)⟩
theorem okPart_of {n : ByteArray} (h : nameOk n) : okPart n = true := by
 unfold okPart; rw [sEq_false h.1, sEq_false h.2.1]; rfl
def sub (p n : ByteArray) : ByteArray := (p ++ ⟨⟨[47]⟩⟩) ++ n
theorem sub_data (p n : ByteArray) : (sub p n).data.toList = p.data.toList ++ 47 :: n.data.toList := by
 unfold sub; rw [app_data, app_data, List.append_assoc]; rfl
theorem parts_sub {p n : ByteArray} (h : nameOk n) : partsB (sub p n) = partsB p ++ [n] := by
 have h47 := (badByte_mem h.2.2).1
 unfold partsB
 rw [sub_data, splitL_app, splitL_none h47, List.map_append, List.filter_append]
 congr 1
 show List.filter okPart [n] = [n]
 simp [okPart_of h]
theorem nul_sub {p n : ByteArray} (h : nameOk n) (hp : hasNul p = false) : hasNul (sub p n) = false := by
 have h0 := (badByte_mem h.2.2).2
 unfold hasNul at hp ⊢
 rw [sub_data, List.any_append, hp, List.any_cons, Bool.false_or]
 rw [Bool.or_eq_false_iff]
 refine ⟨by decide, ?_⟩
 rw [List.any_eq_false]
 intro x hx hb
 have : x = 0 := by simpa using hb
 subst this; exact h0 hx
theorem head_sub {p n : ByteArray} {c : UInt8} (hp : headIs c p = true) : headIs c (sub p n) = true := by
 unfold headIs at hp ⊢
 rw [sub_data]
 cases hl : p.data.toList with
 | nil => rw [hl] at hp; cases hp
 | cons x r => rw [hl] at hp; exact hp
def Chain (A : AT) : Int -> List ByteArray -> Int -> Prop
 | d, [], i => d = i
 | d, n :: r, i => A.kind d = 2 /\ ∃ j, A.find d n = some j /\ Chain A j r i
theorem Chain.snoc {A : AT} {n : ByteArray} {i j : Int} : ∀ {l : List ByteArray} {d : Int}, Chain A d l i -> A.kind i = 2 -> A.find i n = some j -> Chain A d (l ++ [n]) j := by
 intro l
 induction l with
 | nil => intro d h h1 h2; have h : d = i := h; subst h; exact ⟨h1, j, h2, rfl⟩
 | cons x r ih =>
  intro d h h1 h2
  obtain ⟨a, k, b, c⟩ := h
  exact ⟨a, k, b, ih c h1 h2⟩
def stepOk (n : ByteArray) : Prop := n ≠ ⟨⟨[46, 46]⟩⟩ /\ n.size <= 56
structure PathTo (A : AT) (p : ByteArray) (i : Int) : Prop where
 head : headIs 47 p = true
 nul : hasNul p = false
 chain : Chain A 1 (partsB p) i
 names : ∀ n ∈ partsB p, stepOk n
theorem PathTo.sub {A : AT} {p n : ByteArray} {i j : Int} (h : PathTo A p i) (hk : A.kind i = 2) (hf : A.find i n = some j) (hn : mayName n = true) : PathTo A (Wk.sub p n) j := by
 unfold mayName at hn
 simp only [Bool.and_eq_true, decide_eq_true_eq, Bool.not_eq_true'] at hn
 obtain ⟨h1, h2, h3, h4, h5⟩ := hn
 have hne : n ≠ ⟨⟨[]⟩⟩ := by intro e; rw [e] at h1; exact absurd h1 (by decide)
 have hne2 : n ≠ ⟨⟨[46]⟩⟩ := by intro e; rw [e] at h4; exact absurd h4 (by decide)
 have hne3 : n ≠ ⟨⟨[46, 46]⟩⟩ := by intro e; rw [e] at h5; exact absurd h5 (by decide)
 have hok : nameOk n := ⟨hne, hne2, h3⟩
 refine ⟨head_sub h.head, nul_sub hok h.nul, ?_, ?_⟩
 ·rw [parts_sub hok]; exact h.chain.snoc hk hf
 ·rw [parts_sub hok]
  intro m hm
  rcases List.mem_append.1 hm with hm | hm
  ·exact h.names m hm
  ·simp at hm; subst hm; exact ⟨hne3, h2⟩
def tk (k : Nat) (s : ByteArray) : ByteArray := s.extract 0 (min s.size k)
end Go.Wk

set_option maxRecDepth 100000
namespace Go.Proofs.YtgfiobhpipollaaGreatDoor
open Go Go.HL Go.Wk
attribute [local irreducible] ptrW ifW brW andW rdT alW letJ stW muW biW vaW imW callT cvalT app callW invW callVW sizeT oW nilF oneK loopW rfW funW begW roundK exW idxW Gr Put
theorem sz_Nodes : sizeT Tryz.prog 73 = some 1 := by kernel_rfl
theorem und_Nodes : Tryz.prog.underlying 73 = some (.slice 75) := by kernel_rfl
theorem info_Node : ∃ i z, Tryz.prog.info? 75 = some i /\ i.zero = some z /\ i.size = 5 /\ i.bytes <= 100000 /\ z.cells.size = 5 := by
 have h1 : ((Tryz.prog.info? 75).bind fun i => i.zero.map fun z => (i.size, z.cells.size, decide (i.bytes <= 100000))) = some (5, 5, true) := by kernel_rfl
 cases hi : Tryz.prog.info? 75 with
 | none => rw [hi] at h1; cases h1
 | some i =>
  rw [hi] at h1
  cases hz : i.zero with
  | none => simp [hz] at h1
  | some z => simp [hz] at h1; exact ⟨i, z, rfl, hz, h1.1, h1.2.2, h1.2.1⟩
def RowsTr (τ : H) : List Tr -> List (List Value) -> Prop
 | [], [] => True
 | t :: ts, r :: rows => TrAt τ t r /\ RowsTr τ ts rows
 | _, _ => False
theorem RowsTr.gr {τ τ' : H} (hg : Gr τ τ') : ∀ {ts : List Tr} {rows : List (List Value)}, RowsTr τ ts rows -> RowsTr τ' ts rows := by
 intro ts
 induction ts with
 | nil => intro rows h; cases rows <;> exact h
 | cons t ts ih =>
  intro rows h
  cases rows with
  | nil => exact h.elim
  | cons r rows => exact ⟨gr_both hg t r h.1, ih h.2⟩
theorem RowsTr.snoc {τ : H} {t : Tr} {r : List Value} (ht : TrAt τ t r) : ∀ {ts : List Tr} {rows : List (List Value)}, RowsTr τ ts rows -> RowsTr τ (ts ++ [t]) (rows ++ [r]) := by
 intro ts
 induction ts with
 | nil => intro rows h; cases rows with
  | nil => exact ⟨ht, trivial⟩
  | cons r rows => exact h.elim
 | cons t ts ih =>
  intro rows h
  cases rows with
  | nil => exact h.elim
  | cons r rows => exact ⟨h.1, ih h.2⟩
theorem RowsTr.len {τ : H} : ∀ {ts : List Tr} {rows : List (List Value)}, RowsTr τ ts rows -> rows.length = ts.length := by
 intro ts
 induction ts with
 | nil => intro rows h; cases rows with
  | nil => rfl
  | cons r rows => exact h.elim
 | cons t ts ih =>
  intro rows h
  cases rows with
  | nil => exact h.elim
  | cons r rows => simp [ih h.2]
theorem rowAt_of {τ : H} {rest : List Value} : ∀ {ts : List Tr} {rows : List (List Value)}, RowsTr τ ts rows -> (∀ r ∈ rows, r.length = 5) -> RowAt τ ts (rows.flatten ++ rest) := by
 intro ts
 induction ts with
 | nil => intro rows _ _; trivial
 | cons t ts ih =>
  intro rows h hl
  cases rows with
  | nil => exact h.elim
  | cons r rows =>
   have hr := hl r (List.mem_cons_self ..)
   simp only [RowAt, List.flatten_cons, List.append_assoc]
   refine ⟨?_, ?_⟩
   ·rw [<- hr, List.take_left]; exact h.1
   ·rw [<- hr, List.drop_left]; exact ih h.2 fun q hq => hl q (List.mem_cons_of_mem _ hq)
theorem slAt_own {σ τ : H} {rows : List (List Value)} {ts : List Tr} {x : Sl} (h : RowsOwn σ 75 5 rows x) (ht : RowsTr τ ts rows) (hg : Gr τ σ) (hn : ∀ g, x.base = some ⟨g, 0, none⟩ -> τ g = none) :
 ∃ τ', Gr τ τ' /\ Gr τ' σ /\ SlAt τ' ts x /\ ∀ b, x.base ≠ some ⟨b, 0, none⟩ -> τ b = none -> τ' b = none := by
 obtain ⟨h1, h2, ⟨h3, h4, h5⟩ | ⟨g, cur, a1, a2, a3, a4, a5⟩⟩ := h
 ·subst h5
  refine ⟨τ, Gr.refl _, hg, ⟨by rw [h1, ht.len], ?_⟩, fun b _ hb => hb⟩
  have := ht.len
  simp at this
  exact .inl (List.eq_nil_of_length_eq_zero this.symm)
 ·have hgn := hn g a1
  have g1 : Gr τ (τ.put g (.cells ⟨cur⟩ 75 (0, 0))) := Gr.put hgn _
  refine ⟨τ.put g (.cells ⟨cur⟩ 75 (0, 0)), g1, ?_, ⟨by rw [h1, ht.len], .inr ⟨g, 0, cur, 75, (0, 0), a1, H.put_same _ _ _, ?_⟩⟩, ?_⟩
  ·unfold Gr
   intro c oc hc
   by_cases e : c = g
   ·subst e; rw [H.put_same] at hc; cases hc; exact a2
   ·rw [H.put_other _ _ e] at hc; exact hg.get hc
  ·have e1 : cur = rows.flatten ++ cur.drop (x.len * 5) := by rw [<- a5, List.take_append_drop]
   have := rowAt_of (rest := cur.drop (x.len * 5)) (ht.gr g1) h2
   rw [<- e1] at this
   exact this
  ·intro b hb hτ
   have e : b ≠ g := fun e => hb (by rw [e, a1])
   rw [H.put_other _ _ e]; exact hτ
end Go.Proofs.YtgfiobhpipollaaGreatDoor


set_option maxRecDepth 100000
namespace Go.Proofs.YtgfiobhpipollaaGreatDoor
open Go Go.HL Go.Wk Go.ChangeShapes Go.WideShapes Go.ChangeAt Go.RowKit
theorem own : ownKnob Tryz.prog.godebug = none := by kernel_rfl
theorem laidOut : laidOutB Tryz.prog = true := by kernel_rfl
def accCells : Array Value := #[.int .u8 128, .int .u8 191, .int .u8 160, .int .u8 191, .int .u8 128, .int .u8 159, .int .u8 144, .int .u8 191, .int .u8 128, .int .u8 143, .int .u8 0, .int .u8 0, .int .u8 0, .int .u8 0, .int .u8 0, .int .u8 0, .int .u8 0, .int .u8 0, .int .u8 0, .int .u8 0, .int .u8 0, .int .u8 0, .int .u8 0, .int .u8 0, .int .u8 0, .int .u8 0, .int .u8 0, .int .u8 0, .int .u8 0, .int .u8 0, .int .u8 0, .int .u8 0]
def firstCells : Array Value := ⟨Go.Pinned.utf8FirstZ.map fun (n : Nat) => .int .u8 (n : Int)⟩
def setC (cs : Array Value) : Obj -> Obj
 | .cells _ t frozen => .cells cs t frozen
 | o => o
noncomputable def laidWorld (os : Os) : World :=
 { World.holding Tryz.prog os ⟨#[], #[], []⟩ with heap := ((World.holding Tryz.prog os ⟨#[], #[], []⟩).heap.modify 1 (setC firstCells)).modify 2 (setC accCells) }
end Go.Proofs.YtgfiobhpipollaaGreatDoor

