/- A part of the proof: FieldRises holds. -/
import Derived.Test.YtbjbeajbckcecaaGreatDoorSax
import Derived.Laws.Runes
import Derived.Test.YtbjbeajbckcecaaGreatDoorCards
import Derived.Test.YtbjbeajbckcecaaGreatDoorTie
import Derived.WalkKit
import Derived.ProofKit
import Derived.OpenShut
import Derived.Deep.DeepHandedRow
import Derived.Lib.LaidTab
set_option maxRecDepth 100000
namespace Go.Proofs.YtbjbeajbckcecaaGreatDoor
open Go Go.HL Go.Wk Go.RowKit Go.Maps Go.Sort Go.Shelf
theorem ext_below {σ : H} {w w' : World} (hw : σ.le w) (hb : Below w.heap.size w w') : Ext σ w σ w' :=
 ⟨fun b o h => (hb.block b (hw.lt h)).trans (hw b o h), hb.size, fun b hlt _ => hb.block b hlt, fun b o h hn => by rw [h] at hn; (cases hn), hb.os, hb.tape, hb.output⟩
theorem ext_below_put {σ : H} {w w' : World} {g : Nat} {o : Obj} (hw : σ.le w) (hb : Below w.heap.size w w') (hg : w.heap.size <= g) (ho : w'.heap[g]? = some o) : Ext σ w (σ.put g o) w' := by
 refine ⟨fun b o' h => ?_, hb.size, fun b hlt _ => hb.block b hlt, fun b o' h hn => ?_, hb.os, hb.tape, hb.output⟩
 ·by_cases e : b = g
  ·subst e; rw [H.put_same] at h; cases h; exact ho
  ·rw [H.put_other _ _ e] at h; exact (hb.block b (hw.lt h)).trans (hw b o' h)
 ·by_cases e : b = g
  ·subst e; exact hg
  ·rw [H.put_other _ _ e] at h; rw [h] at hn; cases hn
def StrSl (σ : H) (x : Sl) (l : List ByteArray) : Prop := x.len = l.length /\ (l = [] \/ ∃ g cur, x.base = some ⟨g, 0, none⟩ /\ σ g = some (.cells ⟨cur⟩ 9 (0, 0)) /\ cur.take l.length = l.map Value.string)
def sortK (l : List ByteArray) : List ByteArray := ((l.map fun s => s.data.toList).mergeSort (fun x y => decide (x <= y))).map fun x => ⟨⟨x⟩⟩
theorem x_Sorted {σ : H} {b2 e : Nat} {ents : List (ByteArray × Int)} {t : TypeId} (h2 : σ b2 = some (.cells ⟨[.map (some e)]⟩ t (0, 0))) (hm : MapAt σ e (encL kkS valI ents)) (hk : ∀ s ∈ keysL ents, s.size <= maxLen) (hn : ents.length * 16 <= 140737488355328) {K : KH}
 (hK : ∀ x σ', RNew σ σ' 9 1 (strRows (sortK (keysL ents))) x -> K (.slice x.base x.len x.cap) σ') : callW Tryz.prog 66 [.func (.func 201) ⟨[]⟩ ⟨[.pointer (some ⟨b2, 0, none⟩)]⟩] K σ := by
 obtain ⟨es, c, he, hl, hst⟩ := hm
 intro w hw
 let R : Value -> Option (DataW Unit × List MemPlace) := fun _ => some (.nil, [])
 have hsz : es.size = ents.length := by
  have := congrArg List.length hl
  simpa [encL] using this
 have hkey : ∀ x ∈ es.toList, ∃ s ∈ keysL ents, x.key = .string s := by
  intro x hx
  have : (x.key, x.val) ∈ encL kkS valI ents := by rw [<- hl]; exact List.mem_map.2 ⟨x, hx, rfl⟩
  obtain ⟨⟨s, v⟩, h1, h3⟩ := List.mem_map.1 this
  refine ⟨s, List.mem_map.2 ⟨_, h1, rfl⟩, ?_⟩
  exact (Prod.mk.inj h3).1.symm
 have hrd : ∀ x ∈ es.toList, ∀ s, x.key = .string s -> s.size <= maxLen -> Go.WideElems.rd Tryz.prog 9 R x = some (.string s.data.toList, .nil) := by
  intro x _ s hs hle
  unfold Go.WideElems.rd keyOf mapKey
  rw [hs, und_string]
  simp [hle, R]
 have hown : w.ownsMap Tryz.prog 9 R e es.size (.map ((es.toList.map (Go.WideElems.rg Tryz.prog 9 R)).foldr DataW.insert [])) := by
  refine ⟨es, c, hw e _ he, ⟨?_, hst, ?_⟩, Nat.le_refl _, rfl⟩
  ·rw [hsz]; unfold maxLen; omega
  ·intro x hx
   obtain ⟨s, h1, h3⟩ := hkey x hx
   exact ⟨_, hrd x hx s h3 (hk s h1)⟩
 have hms : Maps.size (.map ((es.toList.map (Go.WideElems.rg Tryz.prog 9 R)).foldr DataW.insert [])) = ents.length := by
  rw [Maps.size_eq, (Go.WideShapes.sorted_perm _).length_eq]; simp [hsz]
 have hperm : (strKeys (.map ((es.toList.map (Go.WideElems.rg Tryz.prog 9 R)).foldr DataW.insert []))).Perm ((keysL ents).map fun s => s.data.toList) := by
  have h1 : (strKeys (.map ((es.toList.map (Go.WideElems.rg Tryz.prog 9 R)).foldr DataW.insert []))).Perm ((es.toList.map (Go.WideElems.rg Tryz.prog 9 R)).map fun p => strOf p.1) := (Go.WideShapes.sorted_perm _).map _
  have h3 : ((es.toList.map (Go.WideElems.rg Tryz.prog 9 R)).map fun p => strOf p.1) = (keysL ents).map fun s => s.data.toList := by
   have h4 : es.toList.map (fun e => e.key) = (keysL ents).map Value.string := by
    have := congrArg (List.map Prod.fst) hl
    simp only [List.map_map, encL] at this
    rw [keysL, List.map_map]
    exact this
   have h5 : ((es.toList.map (Go.WideElems.rg Tryz.prog 9 R)).map fun p => strOf p.1) = (es.toList.map (fun e => e.key)).map fun v => (match v with | .string s => s.data.toList | _ => []) := by
    rw [List.map_map, List.map_map]
    refine List.map_congr_left ?_
    intro x hx
    obtain ⟨s, h1, h3⟩ := hkey x hx
    simp only [Function.comp]
    rw [h3, Go.WideElems.rg_of (hrd x hx s h3 (hk s h1))]
    rfl
   rw [h5, h4, List.map_map]
   rfl
  rw [<- h3]; exact h1
 have hcell : w.cell? ⟨b2, 0, none⟩ = some (.map (some e)) := by simp [World.cell?, hw b2 _ h2]
 have hseq := AnyZ.keys_gives (ρ := Tryz.keys139_ren) { Tryz.keys139 with } Fence.wide 2 trivial rfl (by omega) b2 e es.size (.map ((es.toList.map (Go.WideElems.rg Tryz.prog 9 R)).foldr DataW.insert [])) (R := R) w (hw.lt h2) hcell hown
 have hcall := AnyZ.sorted_in Tryz.sorted66 Fence.wide 5 trivial trivial trivial trivial rfl (by omega) (Tryz.sorts66 _) (enters_of Tryz.func134 (by kernel_rfl) rfl) 201 #[.pointer (some ⟨b2, 0, none⟩)] trivial (enters_of Tryz.func201 (by kernel_rfl) rfl) _ _ (by rw [hms]; unfold maxLen; omega) (by rw [hms]; exact hn) w hseq
 refine callsIn_wide.2 ((callsIn_wide.1 hcall).mono ?_)
 rintro en w' ⟨v, ss, rfl, hS, hrow, hnil, hbel⟩
 have hsrt : ss.mergeSort (fun x y => decide (x <= y)) = ((keysL ents).map fun s => s.data.toList).mergeSort (fun x y => decide (x <= y)) := mergeSort_of_perm (hS.trans hperm)
 have henc : (ss.mergeSort (fun x y => decide (x <= y))).map encStr = (sortK (keysL ents)).map Value.string := by
  rw [hsrt]; unfold sortK; rw [List.map_map]; rfl
 have hlen : ss.length = (sortK (keysL ents)).length := by
  have := congrArg List.length henc
  simpa using this
 have hflat : ∀ l : List ByteArray, (strRows l).flatten = l.map Value.string := by
  intro l
  induction l with
  | nil => rfl
  | cons a r ih =>
   have ih : (r.map fun s => [Value.string s]).flatten = r.map Value.string := ih
   simp [strRows, ih]
 have hone : ∀ l : List ByteArray, ∀ r ∈ strRows l, r.length = 1 := by
  intro l r hr
  obtain ⟨s, _, rfl⟩ := List.mem_map.1 hr; rfl
 obtain ⟨_, ⟨rfl, hz⟩ | ⟨g, cap, cur, rfl, hbg, hcur, hnc, _, hcs, htake⟩⟩ := hrow
 ·have : sortK (keysL ents) = [] := by apply List.eq_nil_of_length_eq_zero; rw [<- hlen, hz]
  rw [this] at hK
  exact ⟨_, rfl, σ, ext_below hw hbel, hK ⟨none, 0, 0⟩ σ (RNew.nil _ _ _)⟩
 ·have hng : σ g = none := by
   cases hg : σ g with
   | none => rfl
   | some o => have := hw.lt hg; omega
  refine ⟨_, rfl, σ.put g (.cells cur 9 (0, 0)), ext_below_put hw hbel hbg hcur, hK ⟨some ⟨g, 0, none⟩, ss.length, cap⟩ _ ⟨Gr.put hng _, ⟨by show ss.length = _; rw [hlen]; simp [strRows], hone _, .inr ⟨g, cur.toList, rfl, H.put_same _ _ _, by rw [Array.length_toList]; exact hcs, hnc, ?_⟩⟩, fun g' hg' => by cases hg'; exact hng⟩⟩
  rw [hflat, <- henc]; simpa using htake
theorem x_Sorted_nil {σ : H} {b2 : Nat} {t : TypeId} (h2 : σ b2 = some (.cells ⟨[.map none]⟩ t (0, 0))) {K : KH}
 (hK : K (.slice none 0 0) σ) : callW Tryz.prog 66 [.func (.func 201) ⟨[]⟩ ⟨[.pointer (some ⟨b2, 0, none⟩)]⟩] K σ := by
 intro w hw
 have hcell : w.cell? ⟨b2, 0, none⟩ = some (.map none) := by simp [World.cell?, hw b2 _ h2]
 have hseq := AnyZ.keys_gives_nil (ρ := Tryz.keys139_ren) { Tryz.keys139 with } Fence.wide 2 trivial rfl b2 w (hw.lt h2) hcell
 have hcall := AnyZ.sorted_in Tryz.sorted66 Fence.wide 5 trivial trivial trivial trivial rfl (by omega) (Tryz.sorts66 _) (enters_of Tryz.func134 (by kernel_rfl) rfl) 201 #[.pointer (some ⟨b2, 0, none⟩)] trivial (enters_of Tryz.func201 (by kernel_rfl) rfl) _ 0 (Nat.zero_le _) (by omega) w hseq
 refine callsIn_wide.2 ((callsIn_wide.1 hcall).mono ?_)
 rintro en w' ⟨v, ss, rfl, hS, hrow, hnil, hbel⟩
 have : v = .slice none 0 0 := hnil.2 hS
 subst this
 exact ⟨_, rfl, σ, ext_below hw hbel, hK⟩
theorem sortK_eq (l : List ByteArray) : sortK l = sortN l := by unfold sortK sortN; rw [sortB_merge]
attribute [local irreducible] ptrW ifW brW andW rdT alW letJ stW muW biW vaW imW callT cvalT app callW invW callVW sizeT oW nilF oneK loopW rfW funW begW roundK exW idxW Gr Put
theorem s_Keys (m : Option Nat) {σ : H} {K : KH} (hK : ∀ b σ', Gr σ σ' -> σ' b = some (.cells ⟨[.map m]⟩ 192 (0, 0)) -> K (.func (.func 201) ⟨[]⟩ ⟨[.pointer (some ⟨b, 0, none⟩)]⟩) σ') : callW Tryz.prog 139 [.map m] K σ := by
 refine c139 _ ?_
 unfold g139
 refine al_i ?_
 intro b σ' hg hb _
 exact hK b σ' hg hb
theorem s_NamesR {σ : H} {bt : Nat} {A : AT} {B : Nat -> Prop} (hA : TabAt σ bt A B) (dir : Int) (hk : ∀ n, A.get dir = some n -> (∀ s ∈ keysL n.ents, s.size <= 1000) /\ n.ents.length <= 1099511627776) {K : KH}
 (hK : ∀ x σ', RNew σ σ' 9 1 (strRows (AT.names A dir)) x -> K (.slice x.base x.len x.cap) σ') : callW Tryz.prog 73 [.pointer (some ⟨bt, 0, none⟩), .int .i64 dir] K σ := by
 obtain ⟨T, hT, hO, rfl, hB⟩ := hA
 refine c73 _ _ ?_
 unfold g73
 refine call_i (s_get hT dir (app_P ?_))
 unfold AT.names at hK
 simp only [<- sortK_eq] at hK
 rw [abs_get] at hK hk
 cases hn : T.get dir with
 | none =>
  rw [hn] at hK
  exact br_t rfl (hK ⟨none, 0, 0⟩ σ (RNew.nil _ _ _))
 | some n =>
  rw [hn] at hK hk
  obtain ⟨hk1, hk2⟩ := hk _ rfl
  have hN := hT.get hn
  have cN := hN.cells
  unfold Nd.cells at cN
  refine br_f rfl ?_
  (repeat (first|refine ptr_i ?_|refine z2 ?_|(refine al_i ?_;intro _ _ _ _ _)|refine z4 ?_|refine z5 ?_|(refine z6 ?_;intro _ _)|refine app_P ?_|refine app_I ?_|refine app_S ?_|refine app_B ?_|refine app_M ?_|refine app_L ?_|refine app_U ?_|refine app_R ?_|(refine app_of rfl ?_;try dsimp only)))
  refine call_i (s_Keys _ ?_)
  intro b2 σ1 g1 e1
  refine app_R ?_
  cases he : n.eb with
  | none =>
   rw [he] at e1
   refine call_i (x_Sorted_nil e1 ?_)
   refine app_L ?_
   have : sortK (keysL n.abs.ents) = [] := by
    have : n.abs.ents = [] := hN.none he
    simp [sortK, keysL, this]
   refine hK ⟨none, 0, 0⟩ σ1 ?_
   show RNew σ σ1 9 1 (strRows (sortK (keysL n.abs.ents))) ⟨none, 0, 0⟩
   rw [this]
   exact RNew.nil' g1 _ _
  | some e =>
   rw [he] at e1
   refine call_i (x_Sorted e1 ((hN.ents e he).gr g1) (fun s hs => ?_) ?_ ?_)
   ·have := hk1 s hs
    unfold maxLen; omega
   ·have : n.ents.length <= 1099511627776 := hk2
    omega
   ·intro x σ2 hx
    refine app_L ?_
    exact hK x σ2 (hx.since g1)
end Go.Proofs.YtbjbeajbckcecaaGreatDoor

set_option maxRecDepth 100000
namespace Go.Proofs.YtbjbeajbckcecaaGreatDoor
open Go Go.HL Go.Wk
attribute [local irreducible] ptrW ifW brW andW rdT alW letJ stW muW biW vaW imW callT cvalT app callW invW callVW sizeT oW nilF oneK loopW rfW funW begW roundK exW idxW Gr Put
def sl0 : ByteArray := ⟨⟨[47, 0]⟩⟩
theorem idx_i {s : ByteArray} {i : Nat} {c : UInt8} {g : UInt8 -> H -> Prop} {σ : H} (h : s[i]? = some c) (hg : g c σ) : idxW s (i : Int) g σ := by
 unfold idxW
 rw [if_pos (by omega)]
 have : ((i : Int)).toNat = i := by omega
 rw [this, h]
 exact hg
theorem x_ValidRune (r : Int) {σ : H} {K : KH} (hK : K (.bool (Utf8.valid r)) σ) : callW Tryz.prog 265 [.int .i32 r] K σ := by
 refine c265 _ ?_
 unfold g265
 refine j_i (fun j => ∀ x : Bool, x = decide (0 <= r /\ r < 55296) -> j r x σ) ?_ ?_
 ·intro x hx
  by_cases h : 0 <= r /\ r < 55296
  ·refine br_t (by simp [hx, h]) ?_
   have : Utf8.valid r = true := by simp [Utf8.valid, h]
   rw [this] at hK; exact hK
  ·refine br_f (by simp [hx, h]) ?_
   refine j_i (fun j => ∀ y : Bool, y = Utf8.valid r -> j y σ) ?_ ?_
   ·intro y hy
    cases hv : Utf8.valid r with
    | true => rw [hv] at hK hy; exact br_t hy hK
    | false => rw [hv] at hK hy; exact br_f hy hK
   ·intro j hj
    by_cases h2 : 57343 < r
    ·refine br_t (by simpa using h2) (hj _ ?_)
     by_cases h3 : r <= 1114111
     ·have : Utf8.valid r = true := by simp [Utf8.valid, h3]; omega
      rw [this]; simpa using h3
     ·have : Utf8.valid r = false := by simp [Utf8.valid]; omega
      rw [this]; simpa using h3
    ·refine br_f (by simpa using h2) (hj _ ?_)
     have : Utf8.valid r = false := by simp [Utf8.valid]; omega
     rw [this]
 ·intro j hj
  by_cases h : 0 <= r
  ·exact br_t (by simpa using h) (hj _ (by simp [h]))
  ·exact br_f (by simpa using h) (hj _ (by simp [h]))
theorem und_i32 : Tryz.prog.underlying 21 = some (.int .i32) := by kernel_rfl
theorem conv_i (r : Int) {F : ByteArray -> H -> Prop} {σ : H} (h : F (Utf8.encode r) σ) : vaW Tryz.prog (convert 21 9 (.int .i32 r)) kS F σ := by
 unfold vaW invW
 intro w hw
 have := run_convert_int_string (P := Tryz.prog) w 21 9 .i32 r (by rw [und_i32]; rfl) und_string
 simp only [valS, Sem.run_bind, this, Result.andThen_ok, Sem.run_pure]
 exact ⟨σ, Ext.refl hw, app_S h⟩
theorem ascii_ok : ∀ n : Fin 128, decide (firstIdx sl0 (IntKind.u8.wrap ((n.val : Nat) : Int)).toNat.toUInt8 >= 0) = (((n.val : Nat) : Int) == 47 || ((n.val : Nat) : Int) == 0) := by decide
theorem x_IndexRune (r : Int) {σ : H} {K : KH} (hK : ∀ n : Int, (decide (n >= 0) = (r == 47 || r == 0)) -> K (.int .i64 n) σ) : callW Tryz.prog 259 [.string sl0, .int .i32 r] K σ := by
 refine callW.drop (K' := fun v σ' => ∃ n : Int, v = .int .i64 n /\ decide (n >= 0) = (r == 47 || r == 0) /\ Gr σ σ') ?_ (fun v σ' ⟨n, hv, hn, hg⟩ => ⟨σ, hg, hv ▸ hK n hn⟩)
 refine c259 _ _ ?_
 unfold g259
 refine j_i (fun j => ∀ x : Bool, x = decide (0 <= r /\ r < 128) -> j sl0 r x σ) ?_ ?_
 case refine_2 =>
  intro j hj
  by_cases h : 0 <= r
  ·exact br_t (by simpa using h) (hj _ (by simp [h]))
  ·exact br_f (by simpa using h) (hj _ (by simp [h]))
 intro x hx
 by_cases h : 0 <= r /\ r < 128
 ·refine br_t (by simp [hx, h]) ?_
  refine call_i (x_IndexByte _ _ (app_I ⟨_, rfl, ?_, Gr.refl _⟩))
  obtain ⟨n, rfl⟩ : ∃ n : Nat, r = n := ⟨r.toNat, by omega⟩
  exact ascii_ok ⟨n, by omega⟩
 refine br_f (by simp [hx, h]) ?_
 have hno : (r == 47 || r == 0) = false := by simp; omega
 have hm1 : decide ((-1 : Int) >= 0) = (r == 47 || r == 0) := by rw [hno]; decide
 by_cases h5 : r = 65533
 ·refine br_t (by simpa using h5) ?_
  refine range_str und_string sl0 ?_
  intro b σ1 g1 e1 n1
  refine loop_i ?_
  intro R hR
  have k2 : ∀ σ', Gr σ σ' -> σ' b = some (.stringIter sl0 2) -> R (some ⟨b, 0, none⟩) σ' := by
   intro σ' hg hb
   refine hR _ _ (next_str hb (fun _ => ⟨_, rfl, hm1, hg⟩) (fun hlt => absurd hlt (by decide)))
  have k1 : ∀ σ', Gr σ σ' -> σ' b = some (.stringIter sl0 1) -> R (some ⟨b, 0, none⟩) σ' := by
   intro σ' hg hb
   refine hR _ _ (next_str hb (fun hlt => absurd (by decide) hlt) (fun _ σ2 hp => ?_))
   refine br_f (by decide) ?_
   exact k2 σ2 (hg.putF hp n1) hp.same
  refine hR _ _ (next_str e1 (fun hlt => absurd (by decide) hlt) (fun _ σ2 hp => ?_))
  refine br_f (by decide) ?_
  exact k1 σ2 (g1.putF hp n1) hp.same
 refine br_f (by simpa using h5) ?_
 refine call_i (x_ValidRune r (app_B ?_))
 cases hv : Utf8.valid r with
 | false => exact br_t rfl ⟨_, rfl, hm1, Gr.refl _⟩
 | true =>
  refine br_f rfl (conv_i r ?_)
  have h128 : 128 <= r := by
   simp [Utf8.valid] at hv; omega
  obtain ⟨f1, f2, f3⟩ := encode_facts r hv h128
  have hl : IntKind.i64.wrap (((Utf8.encode r).size : Int) - 1) = (((Utf8.encode r).size - 1 : Nat) : Int) := by
   rw [wrap_id (by omega) (by omega)]; omega
  rw [hl]
  refine loop_i ?_
  intro R hR
  refine hR _ _ _ _ _ ?_
  by_cases h2 : (Utf8.encode r).size = 2
  ·refine br_t (by rw [h2]; decide) ?_
   refine j_i (fun _ => True) trivial ?_
   intro j _
   have hf := f3 (by omega)
   have hget : (Utf8.encode r)[(Utf8.encode r).size - 1]? = some ((Utf8.encode r)[(Utf8.encode r).size - 1]'(by omega)) := by simp
   have hi1 : sl0[(Utf8.encode r).size - 1]? = some 0 := by rw [h2]; decide
   refine idx_i hi1 (idx_i hget ?_)
   refine br_t (by simp; omega) ?_
   refine if_i ?_ ?_
   ·simp only [h2]; exact ⟨trivial, by unfold bndOk; decide⟩
   refine idx_i hget ?_
   refine call_i (x_IndexByte _ _ (app_I ?_))
   have he : sl0.extract (IntKind.i64.wrap ((((Utf8.encode r).size - 1 : Nat) : Int) + 1)).toNat sl0.size = ⟨⟨[]⟩⟩ := by simp only [h2]; decide
   rw [he]
   exact br_t rfl ⟨_, rfl, hm1, Gr.refl _⟩
  ·have hs2 : sl0.size = 2 := rfl
   refine br_f (by rw [hs2]; simp; omega) ⟨_, rfl, hm1, Gr.refl _⟩
theorem dec_step (s : ByteArray) (i : Nat) (hi : i < s.size) : 1 <= (Utf8.decode s i).2 /\ i + (Utf8.decode s i).2 <= s.size /\
 ((((Utf8.decode s i).1 : Nat) : Int) == 47 || (((Utf8.decode s i).1 : Nat) : Int) == 0) = ((s.toList.drop i).take (Utf8.decode s i).2).any fun c => c == 47 || c == 0 := by
 have hget : ∀ k, i + k < s.size -> s.toList[i + k]? = some (s.get! (i + k)) := by
  intro k hk
  rw [ByteArray.toList_eq]
  have : s.get! (i + k) = s.data[i + k]'hk := by
   show s.data[i + k]! = _
   exact getElem!_pos s.data (i + k) hk
  rw [this]
  simp [hk]
 have hlen : s.toList.length = s.size := by rw [ByteArray.toList_eq]; simp
 have taken : ∀ w, i + w <= s.size -> (s.toList.drop i).take w = (List.range w).map fun k => s.get! (i + k) := by
  intro w hw
  apply List.ext_getElem?
  intro k
  by_cases hk : k < w
  ·rw [List.getElem?_take, if_pos hk, List.getElem?_drop, hget k (by omega)]
   simp [hk]
  ·rw [List.getElem?_take, if_neg hk]
   simp [hk]
 have hbig : ∀ k, 128 <= (s.get! (i + k)).toNat -> ((s.get! (i + k)) == 47 || (s.get! (i + k)) == 0) = false := by
  intro k hk
  cases hc : ((s.get! (i + k)) == 47 || (s.get! (i + k)) == 0) with
  | false => rfl
  | true =>
   simp only [Bool.or_eq_true, beq_iff_eq] at hc
   rcases hc with hc | hc <;> (rw [hc] at hk; exact absurd hk (by decide))
 have hall : ∀ w, i + w <= s.size -> (∀ k, k < w -> 128 <= (s.get! (i + k)).toNat) -> ((s.toList.drop i).take w).any (fun c => c == 47 || c == 0) = false := by
  intro w hw hk
  rw [taken w hw, List.any_map, List.any_eq_false]
  intro k hkm
  have := hbig k (hk k (List.mem_range.1 hkm))
  simp only [Function.comp]
  rw [this]; simp
 have hcont : ∀ k, (decide (i + k < s.size) && (s.get! (i + k)).toNat / 64 == 2) = true -> i + k < s.size /\ 128 <= (s.get! (i + k)).toNat := by
  intro k h
  simp only [Bool.and_eq_true, decide_eq_true_eq, beq_iff_eq] at h
  exact ⟨h.1, by omega⟩
 unfold Utf8.decode
 simp only
 by_cases h0 : (s.get! (i + 0)).toNat < 128
 ·rw [if_pos h0]
  refine ⟨by simp, by simp; omega, ?_⟩
  simp only
  rw [taken 1 (by omega)]
  simp only [List.range_one, List.map_cons, List.map_nil, List.any_cons, List.any_nil, Bool.or_false]
  have e1 : ((((s.get! (i + 0)).toNat : Nat) : Int) == 47) = (s.get! (i + 0) == 47) := by
   rw [Bool.eq_iff_iff]; simp only [beq_iff_eq]
   constructor
   ·intro h; apply UInt8.toNat_inj.1; show (s.get! (i + 0)).toNat = 47; omega
   ·intro h; rw [h]; rfl
  have e2 : ((((s.get! (i + 0)).toNat : Nat) : Int) == 0) = (s.get! (i + 0) == 0) := by
   rw [Bool.eq_iff_iff]; simp only [beq_iff_eq]
   constructor
   ·intro h; apply UInt8.toNat_inj.1; show (s.get! (i + 0)).toNat = 0; omega
   ·intro h; rw [h]; rfl
  rw [e1, e2]
 rw [if_neg h0]
 have h0' : 128 <= (s.get! (i + 0)).toNat := by omega
 have one : ∀ c : Nat, 128 <= c -> 1 <= ((c, 1) : Nat × Nat).2 /\ i + ((c, 1) : Nat × Nat).2 <= s.size /\ ((((((c, 1) : Nat × Nat).1 : Nat) : Int) == 47 || ((((c, 1) : Nat × Nat).1 : Nat) : Int) == 0) = ((s.toList.drop i).take ((c, 1) : Nat × Nat).2).any fun c => c == 47 || c == 0) := by
  intro c hc
  refine ⟨by simp, by simp; omega, ?_⟩
  rw [hall 1 (by omega) (fun k hk => by have : k = 0 := by omega
                                        subst this; exact h0')]
  simp; omega
 have many : ∀ c w : Nat, 128 <= c -> 1 <= w -> i + w <= s.size -> (∀ k, k < w -> 128 <= (s.get! (i + k)).toNat) -> 1 <= ((c, w) : Nat × Nat).2 /\ i + ((c, w) : Nat × Nat).2 <= s.size /\ ((((((c, w) : Nat × Nat).1 : Nat) : Int) == 47 || ((((c, w) : Nat × Nat).1 : Nat) : Int) == 0) = ((s.toList.drop i).take ((c, w) : Nat × Nat).2).any fun c => c == 47 || c == 0) := by
  intro c w hc hw1 hw hk
  refine ⟨hw1, hw, ?_⟩
  rw [hall w hw hk]
  simp; omega
 split
 ·rename_i h1
  simp only [Bool.and_eq_true] at h1
  have c1 := hcont 1 (by simpa using h1.2)
  split
  ·rename_i h2
   exact many _ 2 h2 (by omega) (by omega) (fun k hk => by
    rcases (by omega : k = 0 \/ k = 1) with e | e <;> subst e
    ·exact h0'
    ·exact c1.2)
  ·exact one _ (by decide)
 ·split
  ·rename_i h1
   simp only [Bool.and_eq_true] at h1
   have c1 := hcont 1 (by simpa using h1.1.2)
   have c2 := hcont 2 (by simpa using h1.2)
   split
   ·rename_i h2
    simp only [Bool.and_eq_true, decide_eq_true_eq] at h2
    exact many _ 3 (by omega) (by omega) (by omega) (fun k hk => by
     rcases (by omega : k = 0 \/ k = 1 \/ k = 2) with e | e | e <;> subst e
     ·exact h0'
     ·exact c1.2
     ·exact c2.2)
   ·exact one _ (by decide)
  ·split
   ·rename_i h1
    simp only [Bool.and_eq_true] at h1
    have c1 := hcont 1 (by simpa using h1.1.1.2)
    have c2 := hcont 2 (by simpa using h1.1.2)
    have c3 := hcont 3 (by simpa using h1.2)
    split
    ·rename_i h2
     simp only [Bool.and_eq_true, decide_eq_true_eq] at h2
     exact many _ 4 (by omega) (by omega) (by omega) (fun k hk => by
      rcases (by omega : k = 0 \/ k = 1 \/ k = 2 \/ k = 3) with e | e | e | e <;> subst e
      ·exact h0'
      ·exact c1.2
      ·exact c2.2
      ·exact c3.2)
    ·exact one _ (by decide)
   ·exact one _ (by decide)
theorem app_RB {v : Value} {x : Bool} {F : Value -> Bool -> H -> Prop} {σ : H} (h2 : F v x σ) : HL.app (.tup [.sc .raw, .sc .bool]) F (.tuple ⟨[v, .bool x]⟩) σ := by
 unfold HL.app; exact h2
def setL : List Value := (List.range 256).map fun i => .bool (i == 47 || i == 0)
theorem sz_set : sizeT Tryz.prog 285 = some 256 := by kernel_rfl
theorem x_makeSet {σ : H} {K : KH} (hK : K (.tuple ⟨[.agg ⟨setL⟩, .bool true]⟩) σ) : callW Tryz.prog 261 [.string sl0] K σ := by
 refine pure_i _ hK (c261 _ ?_)
 unfold g261
 refine al_i ?_
 intro b σ1 g1 e1 n1
 refine loop_i ?_
 intro R hR
 refine hR _ _ _ _ (br_t (by decide) (idx_i (i := 0) (c := 47) (by decide) (br_f (by decide) (ptr_i (if_i (by decide) ?_)))))
 refine st_i2 e1 sz_bool (by rfl) (by rfl) ?_
 intro σ2 p2
 refine hR _ _ _ _ (br_t (by decide) (idx_i (i := 1) (c := 0) (by decide) (br_f (by decide) (ptr_i (if_i (by decide) ?_)))))
 refine st_i2 p2.same sz_bool (by rfl) (by rfl) ?_
 intro σ3 p3
 have e3 : σ3 b = some (.cells ⟨setL⟩ 285 (0, 0)) := by rw [p3.same]; rfl
 have g3 : Gr σ σ3 := (g1.putF p2 n1).putF p3 n1
 refine hR _ _ _ _ (br_f (by decide) (ptr_i ?_))
 refine rd_R (rdA_of' e3 (by rfl)) ?_
 refine st_i2 e3 sz_set (by rfl) (by rfl) ?_
 intro σ4 p4
 have e4 : σ4 b = some (.cells ⟨setL⟩ 285 (0, 0)) := by rw [p4.same]; rfl
 refine ptr_i (rd_R (rdA_of' e4 (by rfl)) ?_)
 exact ⟨rfl, g3.putF p4 n1⟩
theorem x_IndexAny (s : ByteArray) (hs : s.size <= 1000000) {σ : H} {K : KH} (hK : ∀ n : Int, decide (n >= 0) = badByte s -> K (.int .i64 n) σ) : callW Tryz.prog 247 [.string s, .string sl0] K σ := by
 refine callW.drop (K' := fun v σ' => ∃ n : Int, v = .int .i64 n /\ decide (n >= 0) = badByte s /\ Gr σ σ') ?_ (fun v σ' ⟨n, hv, hn, hg⟩ => ⟨σ, hg, hv ▸ hK n hn⟩)
 refine c247 _ _ ?_
 unfold g247
 refine br_f (by rw [strEq, ByteArray.toList_eq, ByteArray.toList_eq]; rfl) (br_f (by decide) ?_)
 refine j_i (fun j => ∀ σ', Gr σ σ' -> j s sl0 σ') ?_ ?_
 ·intro σ0 g0
  refine range_str und_string s ?_
  intro b σ1 g1 e1 n1
  refine loop_i ?_
  intro R hR
  have key : ∀ k i σ', s.size - i <= k -> i <= s.size -> Gr σ0 σ' -> σ' b = some (.stringIter s i) -> ((s.toList.take i).any fun c => c == 47 || c == 0) = false -> R sl0 (some ⟨b, 0, none⟩) σ' := by
   intro k
   induction k with
   | zero =>
    intro i σ' hk hi hg hb hf
    refine hR _ _ _ (next_str hb (fun _ => ⟨_, rfl, ?_, g0.trans hg⟩) (fun hlt => by omega))
    have : s.toList.take i = s.toList := by rw [List.take_of_length_le]; rw [ByteArray.toList_eq]; simp; omega
    rw [this] at hf
    unfold badByte; rw [<- ByteArray.toList_eq]; rw [hf]; decide
   | succ k ih =>
    intro i σ' hk hi hg hb hf
    refine hR _ _ _ (next_str hb (fun hlt => ⟨_, rfl, ?_, g0.trans hg⟩) (fun hlt σ2 hp => ?_))
    ·have : s.toList.take i = s.toList := by rw [List.take_of_length_le]; rw [ByteArray.toList_eq]; simp; omega
     rw [this] at hf
     unfold badByte; rw [<- ByteArray.toList_eq]; rw [hf]; decide
    ·obtain ⟨d1, d2, d3⟩ := dec_step s i hlt
     have hg2 : Gr σ0 σ2 := hg.putF hp n1
     refine call_i (x_IndexRune _ ?_)
     intro n hn
     refine app_I ?_
     cases hc : ((((Utf8.decode s i).1 : Nat) : Int) == 47 || (((Utf8.decode s i).1 : Nat) : Int) == 0) with
     | true =>
      rw [hc] at hn d3
      refine br_t hn ⟨_, rfl, ?_, g0.trans hg2⟩
      have hb : badByte s = true := by
       unfold badByte; rw [<- ByteArray.toList_eq]
       obtain ⟨c, h1, h2⟩ := List.any_eq_true.1 d3.symm
       exact List.any_eq_true.2 ⟨c, List.mem_of_mem_drop (List.mem_of_mem_take h1), h2⟩
      rw [hb]; simp
     | false =>
      rw [hc] at hn d3
      refine br_f hn ?_
      refine ih (i + (Utf8.decode s i).2) σ2 (by omega) d2 hg2 hp.same ?_
      rw [List.take_add, List.any_append, hf, <- d3]; rfl
  exact key _ 0 σ1 (Nat.le_refl _) (by omega) g1 e1 rfl
 ·intro j hj
  refine call_i ?_
  refine c260 _ ?_
  unfold g260
  refine app_B ?_
  by_cases h8 : 8 < s.size
  ·refine br_t (by simp; omega) ?_
   refine call_i (x_makeSet ?_)
   refine app_RB ?_
   refine al_i ?_
   intro b σ1 g1 e1 n1
   refine st_i2 e1 sz_set (by rfl) (by rfl) ?_
   intro σ2 p2
   have e2 : σ2 b = some (.cells ⟨setL⟩ 285 (0, 0)) := by rw [p2.same]; rfl
   have g2 : Gr σ σ2 := g1.putF p2 n1
   refine br_t rfl ?_
   refine loop_i ?_
   intro R hR
   have hlen : s.toList.length = s.size := by rw [ByteArray.toList_eq]; simp
   have key : ∀ k i : Nat, s.size - i <= k -> i <= s.size -> ((s.toList.take i).any fun c => c == 47 || c == 0) = false -> R s (some ⟨b, 0, none⟩) (i : Int) σ2 := by
    intro k
    induction k with
    | zero =>
     intro i hk hi hf
     refine hR _ _ _ _ (br_f (by simp; omega) ⟨_, rfl, ?_, g2⟩)
     have : s.toList.take i = s.toList := by rw [List.take_of_length_le]; omega
     rw [this] at hf
     unfold badByte; rw [<- ByteArray.toList_eq]; rw [hf]; decide
    | succ k ih =>
     intro i hk hi hf
     by_cases hlt : i < s.size
     ·refine hR _ _ _ _ (br_t (by simp; omega) ?_)
      have hget : s[i]? = some s[i] := by simp [hlt]
      refine idx_i hget ?_
      refine call_i ?_
      refine c262 _ _ ?_
      unfold g262
      have hb256 : (s[i]).toNat < 256 := UInt8.toNat_lt _
      refine ptr_i (if_i ⟨by omega, by omega⟩ ?_)
      refine rd_B (x := (s[i].toNat == 47 || s[i].toNat == 0)) (rdC_of e2 ?_) (app_B ?_)
      ·have : (0 + (((s[i]).toNat : Int)).toNat * 1) = (s[i]).toNat := by omega
       rw [this]
       simp [setL, hb256]
      ·have hc : (s[i].toNat == 47 || s[i].toNat == 0) = (s[i] == 47 || s[i] == 0) := by
        have q : ∀ n : UInt8, (s[i].toNat == n.toNat) = (s[i] == n) := by
         intro n; rw [Bool.eq_iff_iff]; simp only [beq_iff_eq]; exact UInt8.toNat_inj
        have q1 := q 47
        have q2 := q 0
        rw [<- q1, <- q2]; rfl
       rw [hc]
       have hli : s.toList[i]? = some s[i] := by
        rw [ByteArray.toList_eq]; simp [hlt, ByteArray.getElem_eq_getElem_data]
       cases hv : (s[i] == 47 || s[i] == 0) with
       | true =>
        refine br_t rfl ⟨_, rfl, ?_, g2⟩
        have hb : badByte s = true := by
         unfold badByte; rw [<- ByteArray.toList_eq]
         exact List.any_eq_true.2 ⟨s[i], List.mem_of_getElem? hli, hv⟩
        rw [hb]; simp
       | false =>
        refine br_f rfl ?_
        rw [wrap_id (by omega) (by omega)]
        refine ih (i + 1) (by omega) (by omega) ?_
        rw [List.take_add_one, List.any_append, hf, hli]
        simpa using hv
     ·refine hR _ _ _ _ (br_f (by simp; omega) ⟨_, rfl, ?_, g2⟩)
      have : s.toList.take i = s.toList := by rw [List.take_of_length_le]; omega
      rw [this] at hf
      unfold badByte; rw [<- ByteArray.toList_eq]; rw [hf]; decide
   exact key _ 0 (Nat.le_refl _) (by omega) rfl
  ·exact br_f (by simp; omega) (hj σ (Gr.refl _))
theorem cAny : CAny := by
 intro s hs σ K hK
 refine c216 _ _ ?_
 unfold g216
 refine call_i (x_IndexAny s hs ?_)
 intro n hn
 refine app_I ?_
 rw [hn]
 exact hK
end Go.Proofs.YtbjbeajbckcecaaGreatDoor

namespace Go.Wk
open Go Go.HL
theorem splitL_none {c : UInt8} : ∀ {l : List UInt8}, c ∉ l -> splitL c l = [l] := by
 intro l
 induction l with
 | nil => intro _; rfl
 | cons x l ih =>
  intro h
  simp only [List.mem_cons, not_or] at h
  have hx : (x == c) = false := by simpa using fun e => h.1 e.symm
  simp only [splitL, hx, ih h.2]
theorem splitL_some {c : UInt8} {b : List UInt8} : ∀ {a : List UInt8}, c ∉ a -> splitL c (a ++ c :: b) = a :: splitL c b := by
 intro a
 induction a with
 | nil => intro _; simp [splitL]
 | cons x a ih =>
  intro h
  simp only [List.mem_cons, not_or] at h
  have hx : (x == c) = false := by simpa using fun e => h.1 e.symm
  simp only [List.cons_append, splitL, hx, ih h.2]
theorem splitL_ne {c : UInt8} : ∀ l : List UInt8, splitL c l ≠ [] := by
 intro l
 induction l with
 | nil => simp [splitL]
 | cons x l ih =>
  simp only [splitL]
  cases (x == c) with
  | true => simp
  | false =>
   cases h : splitL c l with
   | nil => simp
   | cons => simp
theorem toList_at (s : ByteArray) (i : Nat) (h : i < s.size) : s.data.toList[i]? = some s[i]! := by
 rw [getElem!_pos s i h]
 have : s[i] = s.data[i] := rfl
 rw [this]; simp
theorem firstIdx_split (s : ByteArray) (c : UInt8) : (firstIdx s c = -1 /\ c ∉ s.data.toList) \/ ∃ i : Nat, firstIdx s c = (i : Int) /\ i < s.size /\ c ∉ s.data.toList.take i /\ s.data.toList = s.data.toList.take i ++ c :: s.data.toList.drop (i + 1) := by
 have hlen : s.data.toList.length = s.size := rfl
 unfold firstIdx
 cases hf : (List.range s.size).find? fun i => s[i]! == c with
 | none =>
  refine .inl ⟨rfl, fun hm => ?_⟩
  obtain ⟨i, hi, he⟩ := List.getElem_of_mem hm
  have h1 := List.find?_eq_none.1 hf i (by simpa [hlen] using hi)
  have h2 := toList_at s i (by omega)
  rw [List.getElem?_eq_getElem hi, he] at h2
  simp at h2
  exact h1 (by simp [h2])
 | some i =>
  rw [List.find?_range_eq_some] at hf
  obtain ⟨h1, h2, h3⟩ := hf
  have hi : i < s.size := by simpa using h2
  refine .inr ⟨i, rfl, hi, fun hm => ?_, ?_⟩
  ·obtain ⟨j, hj, he⟩ := List.getElem_of_mem hm
   have hj' : j < i := by have := hj; simp at this; omega
   have h4 := h3 j hj'
   have h5 := toList_at s j (by omega)
   rw [List.getElem_take] at he
   rw [List.getElem?_eq_getElem (by omega), he] at h5
   simp at h5
   simp [h5] at h4
  ·have h5 := toList_at s i hi
   have hc : s[i]! = c := by simpa using h1
   rw [hc] at h5
   have h6 : s.data.toList.drop i = c :: s.data.toList.drop (i + 1) := by
    rw [List.drop_eq_getElem_cons (by omega)]
    rw [List.getElem?_eq_getElem (by omega)] at h5
    simp only [Option.some.injEq] at h5
    rw [h5]
   rw [<- h6, List.take_append_drop]
def partsOf (c : UInt8) (s : ByteArray) : List ByteArray := (splitL c s.data.toList).map fun l => (⟨⟨l⟩⟩ : ByteArray)
theorem partsOf_none {c : UInt8} {s : ByteArray} (h : firstIdx s c < 0) : partsOf c s = [s] := by
 rcases firstIdx_split s c with ⟨_, h1⟩ | ⟨i, h1, _⟩
 ·unfold partsOf; rw [splitL_none h1]; rfl
 ·omega
theorem extract_toList (s : ByteArray) (a b : Nat) : (s.extract a b).data.toList = (s.data.toList.take b).drop a := by
 rw [ByteArray.data_extract, Array.toList_extract, List.extract_eq_drop_take']
theorem partsOf_some {c : UInt8} {s : ByteArray} (h : 0 <= firstIdx s c) : (firstIdx s c).toNat < s.size /\ partsOf c s = s.extract 0 (firstIdx s c).toNat :: partsOf c (s.extract ((firstIdx s c).toNat + 1) s.size) := by
 rcases firstIdx_split s c with ⟨h0, _⟩ | ⟨i, h1, h2, h3, h4⟩
 ·omega
 ·have : (firstIdx s c).toNat = i := by omega
  rw [this]
  refine ⟨h2, ?_⟩
  have hl : s.data.toList.length = s.size := rfl
  unfold partsOf
  rw [extract_toList, show s.data.toList.take s.size = s.data.toList by rw [<- hl, List.take_length]]
  conv => lhs; rw [h4]
  rw [splitL_some h3]
  simp only [List.map_cons, List.cons.injEq, and_true]
  have : (s.extract 0 i) = ⟨⟨(s.extract 0 i).data.toList⟩⟩ := rfl
  rw [this, extract_toList]; rfl
def lasts : List ByteArray -> List (ByteArray × Bool)
 | [] => []
 | x :: r => (x, r.isEmpty) :: lasts r
theorem partsB_eq (s : ByteArray) : partsB s = (partsOf 47 s).filter okPart := rfl

section
variable {A : AT} {go : Int -> ByteArray -> Int -> Int × Pl × Int} {follow : Bool} {name : ByteArray} {rest : List ByteArray} {p : Pl} {h : Int}
theorem steps_none (h1 : p.there = false) : A.steps go follow (name :: rest) p h = (5, Pl.z, h) := by rw [AT.steps, if_pos h1]
theorem steps_notdir (h1 : p.there = true) (h2 : A.kind p.ino ≠ 2) : A.steps go follow (name :: rest) p h = (8, Pl.z, h) := by rw [AT.steps, if_neg (by simp [h1]), if_pos h2]
theorem steps_up (h1 : p.there = true) (h2 : A.kind p.ino = 2) (h3 : sEq name ⟨⟨[46, 46]⟩⟩ = true) : A.steps go follow (name :: rest) p h = A.steps go follow rest ⟨A.upOf p.ino, ⟨⟨[]⟩⟩, A.upOf p.ino, true⟩ h := by
 rw [AT.steps, if_neg (by simp [h1]), if_neg (by simp [h2]), if_pos h3]
theorem steps_long (h1 : p.there = true) (h2 : A.kind p.ino = 2) (h3 : sEq name ⟨⟨[46, 46]⟩⟩ = false) (h4 : name.size > 56) : A.steps go follow (name :: rest) p h = (3, Pl.z, h) := by
 rw [AT.steps, if_neg (by simp [h1]), if_neg (by simp [h2]), if_neg (by simp [h3]), if_pos h4]
theorem steps_name (h1 : p.there = true) (h2 : A.kind p.ino = 2) (h3 : sEq name ⟨⟨[46, 46]⟩⟩ = false) (h4 : ¬ name.size > 56) (h5 : (A.find p.ino name).isSome = false \/ (rest.isEmpty && !follow) = true \/ A.kind ((A.find p.ino name).getD 0) ≠ 3) :
 A.steps go follow (name :: rest) p h = A.steps go follow rest ⟨p.ino, name, (A.find p.ino name).getD 0, (A.find p.ino name).isSome⟩ h := by
 rw [AT.steps, if_neg (by simp [h1]), if_neg (by simp [h2]), if_neg (by simp [h3]), if_neg h4]
 simp only
 rw [if_pos h5]
theorem steps_loop (h1 : p.there = true) (h2 : A.kind p.ino = 2) (h3 : sEq name ⟨⟨[46, 46]⟩⟩ = false) (h4 : ¬ name.size > 56) (h5 : ¬ ((A.find p.ino name).isSome = false \/ (rest.isEmpty && !follow) = true \/ A.kind ((A.find p.ino name).getD 0) ≠ 3)) (h6 : h - 1 < 0) :
 A.steps go follow (name :: rest) p h = (9, Pl.z, h - 1) := by
 rw [AT.steps, if_neg (by simp [h1]), if_neg (by simp [h2]), if_neg (by simp [h3]), if_neg h4]
 simp only
 rw [if_neg h5, if_pos h6]
theorem steps_err (h1 : p.there = true) (h2 : A.kind p.ino = 2) (h3 : sEq name ⟨⟨[46, 46]⟩⟩ = false) (h4 : ¬ name.size > 56) (h5 : ¬ ((A.find p.ino name).isSome = false \/ (rest.isEmpty && !follow) = true \/ A.kind ((A.find p.ino name).getD 0) ≠ 3)) (h6 : ¬ h - 1 < 0)
 (h7 : (go p.ino (A.data ((A.find p.ino name).getD 0)) (h - 1)).1 ≠ 0) :
 A.steps go follow (name :: rest) p h = ((go p.ino (A.data ((A.find p.ino name).getD 0)) (h - 1)).1, Pl.z, (go p.ino (A.data ((A.find p.ino name).getD 0)) (h - 1)).2.2) := by
 rw [AT.steps, if_neg (by simp [h1]), if_neg (by simp [h2]), if_neg (by simp [h3]), if_neg h4]
 simp only
 rw [if_neg h5, if_neg h6, if_pos h7]
theorem steps_link (h1 : p.there = true) (h2 : A.kind p.ino = 2) (h3 : sEq name ⟨⟨[46, 46]⟩⟩ = false) (h4 : ¬ name.size > 56) (h5 : ¬ ((A.find p.ino name).isSome = false \/ (rest.isEmpty && !follow) = true \/ A.kind ((A.find p.ino name).getD 0) ≠ 3)) (h6 : ¬ h - 1 < 0)
 (h7 : (go p.ino (A.data ((A.find p.ino name).getD 0)) (h - 1)).1 = 0) :
 A.steps go follow (name :: rest) p h = A.steps go follow rest (go p.ino (A.data ((A.find p.ino name).getD 0)) (h - 1)).2.1 (go p.ino (A.data ((A.find p.ino name).getD 0)) (h - 1)).2.2 := by
 rw [AT.steps, if_neg (by simp [h1]), if_neg (by simp [h2]), if_neg (by simp [h3]), if_neg h4]
 simp only
 rw [if_neg h5, if_neg h6, if_neg (by simp [h7])]
end
theorem steps_hops {A : AT} {go : Int -> ByteArray -> Int -> Int × Pl × Int} {follow : Bool} (hgo : ∀ d s x, 0 <= x -> -1 <= (go d s x).2.2 /\ (go d s x).2.2 <= x /\ ((go d s x).1 = 0 -> 0 <= (go d s x).2.2)) : ∀ (l : List ByteArray) (p : Pl) (h : Int), 0 <= h -> -1 <= (A.steps go follow l p h).2.2 /\ (A.steps go follow l p h).2.2 <= h /\ ((A.steps go follow l p h).1 = 0 -> 0 <= (A.steps go follow l p h).2.2) := by
 intro l
 induction l with
 | nil => intro p h hh; simp [AT.steps]; omega
 | cons n r ih =>
  intro p h hh
  cases h1 : p.there with
  | false => rw [steps_none h1]; exact ⟨by show (-1 : Int) <= h; omega, Int.le_refl _, fun _ => hh⟩
  | true =>
   by_cases h2 : A.kind p.ino = 2
   case neg => rw [steps_notdir h1 h2]; exact ⟨by show (-1 : Int) <= h; omega, Int.le_refl _, fun _ => hh⟩
   cases h3 : sEq n ⟨⟨[46, 46]⟩⟩ with
   | true => rw [steps_up h1 h2 h3]; exact ih _ h hh
   | false =>
    by_cases h4 : n.size > 56
    ·rw [steps_long h1 h2 h3 h4]; exact ⟨by show (-1 : Int) <= h; omega, Int.le_refl _, fun _ => hh⟩
    by_cases h5 : (A.find p.ino n).isSome = false \/ (r.isEmpty && !follow) = true \/ A.kind ((A.find p.ino n).getD 0) ≠ 3
    ·rw [steps_name h1 h2 h3 h4 h5]; exact ih _ h hh
    by_cases h6 : h - 1 < 0
    ·rw [steps_loop h1 h2 h3 h4 h5 h6]; exact ⟨by show (-1 : Int) <= h - 1; omega, by show h - 1 <= h; omega, fun e => by cases e⟩
    have hg := hgo p.ino (A.data ((A.find p.ino n).getD 0)) (h - 1) (by omega)
    by_cases h7 : (go p.ino (A.data ((A.find p.ino n).getD 0)) (h - 1)).1 = 0
    ·rw [steps_link h1 h2 h3 h4 h5 h6 h7]
     have := ih (go p.ino (A.data ((A.find p.ino n).getD 0)) (h - 1)).2.1 _ (hg.2.2 h7)
     exact ⟨this.1, by omega, this.2.2⟩
    ·rw [steps_err h1 h2 h3 h4 h5 h6 h7]; exact ⟨hg.1, Int.le_trans hg.2.1 (by omega), fun e => absurd e h7⟩
theorem walk_hops (A : AT) : ∀ (f : Nat) (d : Int) (s : ByteArray) (fo : Bool) (h : Int), 0 <= h -> -1 <= (A.walk f d s fo h).2.2 /\ (A.walk f d s fo h).2.2 <= h /\ ((A.walk f d s fo h).1 = 0 -> 0 <= (A.walk f d s fo h).2.2) := by
 intro f
 induction f with
 | zero => intro d s fo h hh; exact ⟨by show (-1 : Int) <= h; omega, Int.le_refl _, fun e => by cases e⟩
 | succ f ih =>
  intro d s fo h hh
  rw [AT.walk]
  by_cases hm : mayE s ≠ 0
  ·rw [if_pos hm]; exact ⟨by show (-1 : Int) <= h; omega, Int.le_refl _, fun _ => hh⟩
  ·rw [if_neg hm]
   exact steps_hops (fun d s x hx => ih d s true x hx) _ _ _ hh
end Go.Wk

set_option maxRecDepth 100000
namespace Go.Proofs.YtbjbeajbckcecaaGreatDoor
open Go Go.HL Go.Wk
attribute [local irreducible] ptrW ifW brW andW rdT alW letJ stW muW biW vaW imW callT cvalT app callW invW callVW sizeT oW nilF oneK loopW rfW funW begW roundK exW idxW Gr Put
theorem x_sliIndexByte (s : ByteArray) (c : UInt8) {σ : H} {K : KH} (hK : K (.int .i64 (firstIdx s c)) σ) : callW Tryz.prog 79 [.string s, .int .u8 (c.toNat : Int)] K σ := by
 refine c79 _ _ ?_
 unfold g79
 refine x_IBS s _ ?_
 have : ((c.toNat : Int)).toNat.toUInt8 = c := by simp
 rw [this]; exact hK
theorem firstIdx_self (c : UInt8) : firstIdx ⟨⟨[c]⟩⟩ c = 0 := by
 rcases firstIdx_split ⟨⟨[c]⟩⟩ c with ⟨_, h⟩ | ⟨i, h, h2, _⟩
 ·simp at h
 ·have : i < 1 := h2
  omega
theorem x_Index1 (s : ByteArray) (c : UInt8) {σ : H} {K : KH} (hK : K (.int .i64 (firstIdx s c)) σ) : callW Tryz.prog 71 [.string s, .string ⟨⟨[c]⟩⟩] K σ := by
 refine c71 _ _ ?_
 unfold g71
 refine call_i (c137 _ _ ?_)
 unfold g137
 refine j_i (fun j => ∀ b : Bool, (b = true -> s = ⟨⟨[c]⟩⟩) -> j s ⟨⟨[c]⟩⟩ (((⟨⟨[c]⟩⟩ : ByteArray).size : Nat) : Int) b σ) ?_ ?_
 ·intro b hb
  cases b with
  | true =>
   refine br_t rfl (app_I ?_)
   have := hb rfl
   subst this
   rw [firstIdx_self] at hK; exact hK
  | false =>
   refine br_f rfl (br_t rfl (idx_l (c := c) (by decide) rfl ?_))
   exact call_i (x_sliIndexByte s c (app_I (app_I hK)))
 ·intro j hj
  refine br_f rfl (hj _ ?_)
  intro h; exact (strEq_iff.1 h).symm
section
variable {ι : Type}
theorem x_split1 {c : UInt8} {y : Value} {b5 b4 b6 : Nat} {t5 t4 t6 : TypeId} {D : Nat -> Prop} {I : List ByteArray -> H -> Prop} {S : H -> Prop} (C : Cl Tryz.prog y D (fun (a : ByteArray) args _ => args = [.string a]) I S) (d4 : D b4) (d5 : D b5) (d6 : D b6) (n45 : b5 ≠ b4) (n46 : b6 ≠ b4) {K : KH} (hK1 : ∀ σ', I [] σ' -> K (.tuple ⟨[]⟩) σ') (hK2 : ∀ σ', S σ' -> K (.tuple ⟨[]⟩) σ')
 {σ : H} {s : ByteArray} (h5 : σ b5 = some (.cells ⟨[.string ⟨⟨[c]⟩⟩]⟩ t5 (0, 0))) (h4 : σ b4 = some (.cells ⟨[.string s]⟩ t4 (0, 0))) (h6 : σ b6 = some (.cells ⟨[.int .i64 0]⟩ t6 (0, 0))) (hs : s.size <= 1000000000) (hI : I (partsOf c s) σ) :
 callW Tryz.prog 266 [y, .pointer (some ⟨b5, 0, none⟩), .pointer (some ⟨b4, 0, none⟩), .pointer (some ⟨b6, 0, none⟩)] K σ := by
 refine c266 _ _ _ _ ?_
 unfold g266
 (repeat (first|refine ptr_i ?_|refine z2 ?_|(refine al_i ?_;intro _ _ _ _ _)|refine z4 ?_|refine z5 ?_|(refine z6 ?_;intro _ _)|refine app_P ?_|refine app_I ?_|refine app_S ?_|refine app_B ?_|refine app_M ?_|refine app_L ?_|refine app_U ?_|refine app_R ?_|(refine app_of rfl ?_;try dsimp only)))
 refine br_f rfl ?_
 refine loop_i ?_
 intro R hR
 have key : ∀ (n : Nat) (s : ByteArray) (σ : H), s.size <= n -> s.size <= 1000000000 -> σ b5 = some (.cells ⟨[.string ⟨⟨[c]⟩⟩]⟩ t5 (0, 0)) -> σ b4 = some (.cells ⟨[.string s]⟩ t4 (0, 0)) -> σ b6 = some (.cells ⟨[.int .i64 0]⟩ t6 (0, 0)) -> I (partsOf c s) σ ->
  R y (some ⟨b5, 0, none⟩) (some ⟨b4, 0, none⟩) (some ⟨b6, 0, none⟩) σ := by
  intro n
  induction n with
  | zero =>
   intro s σ hn hs h5 h4 h6 hI
   refine hR _ _ _ _ _ ?_
   (repeat (first|refine ptr_i ?_|refine z2 ?_|(refine al_i ?_;intro _ _ _ _ _)|refine z4 ?_|refine z5 ?_|(refine z6 ?_;intro _ _)|refine app_P ?_|refine app_I ?_|refine app_S ?_|refine app_B ?_|refine app_M ?_|refine app_L ?_|refine app_U ?_|refine app_R ?_|(refine app_of rfl ?_;try dsimp only)))
   refine call_i (x_Index1 s c (app_I ?_))
   by_cases hi : firstIdx s c < 0
   ·refine br_t (by simpa using hi) ?_
    (repeat (first|refine ptr_i ?_|refine z2 ?_|(refine al_i ?_;intro _ _ _ _ _)|refine z4 ?_|refine z5 ?_|(refine z6 ?_;intro _ _)|refine app_P ?_|refine app_I ?_|refine app_S ?_|refine app_B ?_|refine app_M ?_|refine app_L ?_|refine app_U ?_|refine app_R ?_|(refine app_of rfl ?_;try dsimp only)))
    rw [partsOf_none hi] at hI
    refine cvalv_i (C.call s [] _ σ _ hI rfl ?_ ?_)
    ·intro σ' h _; exact app_B (hK1 σ' h)
    ·intro σ' h _; exact app_B (hK2 σ' h)
   ·have := (partsOf_some (c := c) (s := s) (by omega)).1
    omega
  | succ n ih =>
   intro s σ hn hs h5 h4 h6 hI
   refine hR _ _ _ _ _ ?_
   (repeat (first|refine ptr_i ?_|refine z2 ?_|(refine al_i ?_;intro _ _ _ _ _)|refine z4 ?_|refine z5 ?_|(refine z6 ?_;intro _ _)|refine app_P ?_|refine app_I ?_|refine app_S ?_|refine app_B ?_|refine app_M ?_|refine app_L ?_|refine app_U ?_|refine app_R ?_|(refine app_of rfl ?_;try dsimp only)))
   refine call_i (x_Index1 s c (app_I ?_))
   by_cases hi : firstIdx s c < 0
   ·refine br_t (by simpa using hi) ?_
    (repeat (first|refine ptr_i ?_|refine z2 ?_|(refine al_i ?_;intro _ _ _ _ _)|refine z4 ?_|refine z5 ?_|(refine z6 ?_;intro _ _)|refine app_P ?_|refine app_I ?_|refine app_S ?_|refine app_B ?_|refine app_M ?_|refine app_L ?_|refine app_U ?_|refine app_R ?_|(refine app_of rfl ?_;try dsimp only)))
    rw [partsOf_none hi] at hI
    refine cvalv_i (C.call s [] _ σ _ hI rfl ?_ ?_)
    ·intro σ' h _; exact app_B (hK1 σ' h)
    ·intro σ' h _; exact app_B (hK2 σ' h)
   ·obtain ⟨hlt, hp⟩ := partsOf_some (c := c) (s := s) (by omega)
    rw [hp] at hI
    refine br_f (by simpa using hi) ?_
    (repeat (first|refine ptr_i ?_|refine z2 ?_|(refine al_i ?_;intro _ _ _ _ _)|refine z4 ?_|refine z5 ?_|(refine z6 ?_;intro _ _)|refine app_P ?_|refine app_I ?_|refine app_S ?_|refine app_B ?_|refine app_M ?_|refine app_L ?_|refine app_U ?_|refine app_R ?_|(refine app_of rfl ?_;try dsimp only)))
    have w0 : IntKind.i64.wrap (firstIdx s c + 0) = firstIdx s c := by rw [wrap_id (by omega) (by omega)]; omega
    have w1 : IntKind.i64.wrap (firstIdx s c + (((⟨⟨[c]⟩⟩ : ByteArray).size : Nat) : Int)) = firstIdx s c + 1 := by
     show IntKind.i64.wrap (firstIdx s c + 1) = _
     rw [wrap_id (by omega) (by omega)]
    rw [w0]
    refine if_i ⟨bnd_some (by omega) (by omega), bnd_none⟩ ?_
    refine cvalv_i (C.call _ _ _ σ _ hI rfl ?_ ?_)
    ·intro σ' h ho
     refine app_B (br_f rfl ?_)
     have h5' := ho _ _ d5 h5
     have h4' := ho _ _ d4 h4
     have h6' := ho _ _ d6 h6
     (repeat (first|refine ptr_i ?_|refine z2 ?_|(refine al_i ?_;intro _ _ _ _ _)|refine z4 ?_|refine z5 ?_|(refine z6 ?_;intro _ _)|refine app_P ?_|refine app_I ?_|refine app_S ?_|refine app_B ?_|refine app_M ?_|refine app_L ?_|refine app_U ?_|refine app_R ?_|(refine app_of rfl ?_;try dsimp only)))
     rw [w1]
     refine if_i ⟨bnd_none, bnd_some (by omega) (by omega)⟩ ?_
     (repeat (first|refine ptr_i ?_|refine z2 ?_|(refine al_i ?_;intro _ _ _ _ _)|refine z4 ?_|refine z5 ?_|(refine z6 ?_;intro _ _)|refine app_P ?_|refine app_I ?_|refine app_S ?_|refine app_B ?_|refine app_M ?_|refine app_L ?_|refine app_U ?_|refine app_R ?_|(refine app_of rfl ?_;try dsimp only)))
     rename_i σ2 p2
     have e1 : (firstIdx s c + 1).toNat = (firstIdx s c).toNat + 1 := by omega
     rw [e1] at p2
     have hsz : (s.extract ((firstIdx s c).toNat + 1) s.size).size = s.size - ((firstIdx s c).toNat + 1) := by rw [ByteArray.size_extract]; omega
     refine ih _ σ2 (by rw [hsz]; omega) (by rw [hsz]; omega) (p2.get n45 h5') p2.same (p2.get n46 h6') (C.put _ _ _ _ _ h d4 p2)
    ·intro σ' h _; exact app_B (br_t rfl (hK2 σ' h))
 exact key s.size s σ (Nat.le_refl _) hs h5 h4 h6 hI
end
theorem x_SplitSeq (s sep : ByteArray) {σ : H} {K : KH} (hK : ∀ b4 b5 b6 σ', Gr σ σ' -> σ b4 = none -> σ b5 = none -> σ b6 = none -> b5 ≠ b4 -> b6 ≠ b4 -> σ' b4 = some (.cells ⟨[.string s]⟩ 9 (0, 0)) -> σ' b5 = some (.cells ⟨[.string sep]⟩ 9 (0, 0)) -> σ' b6 = some (.cells ⟨[.int .i64 0]⟩ 3 (0, 0)) -> K (.func (.func 266) ⟨[]⟩ ⟨[.pointer (some ⟨b5, 0, none⟩), .pointer (some ⟨b4, 0, none⟩), .pointer (some ⟨b6, 0, none⟩)]⟩) σ') :
 callW Tryz.prog 249 [.string s, .string sep] K σ := by
 refine c249 _ _ ?_
 unfold g249
 refine call_i (c263 _ _ _ ?_)
 unfold g263
 refine al_i ?_; intro b4 σ1 g1 e1 n1
 refine al_i ?_; intro b5 σ2 g2 e2 n2
 refine al_i ?_; intro b6 σ3 g3 e3 n3
 refine app_R ?_
 exact hK b4 b5 b6 σ3 (by repeat (first | exact Gr.refl _ | assumption | refine Gr.trans ?_ ‹_› | refine Gr.putF ?_ ‹_› (none_of ?_ ‹_›))) n1 (none_of g1 n2) (none_of (g1.trans g2) n3) (ne_fr n2 (by repeat (first | exact io ‹_› | exact mS ‹_› | refine gS ‹_› ?_ | refine pS ‹_› ?_))).symm (ne_fr n3 (by repeat (first | exact io ‹_› | exact mS ‹_› | refine gS ‹_› ?_ | refine pS ‹_› ?_))).symm (by exact gA) (by exact gA) (by exact gA)
theorem go_split1 : isGo Tryz.prog 266 = true := by kernel_rfl
theorem go_names1 : isGo Tryz.prog 248 = true := by kernel_rfl
theorem x_names (path : ByteArray) {σ : H} {K : KH} (hK : ∀ b2 σ', Gr σ σ' -> σ b2 = none -> σ' b2 = some (.cells ⟨[.string path]⟩ 9 (0, 0)) -> K (.func (.func 248) ⟨[]⟩ ⟨[.pointer (some ⟨b2, 0, none⟩)]⟩) σ') : callW Tryz.prog 221 [.string path] K σ := by
 refine c221 _ ?_
 unfold g221
 refine al_i ?_; intro b2 σ1 g1 e1 n1
 exact hK b2 σ1 g1 n1 e1
def pendOk (σ : H) (b4 b5 : Nat) : Option ByteArray -> Prop
 | none => σ b5 = some (.cells ⟨[.bool false]⟩ 4 (0, 0)) /\ ∃ x, σ b4 = some (.cells ⟨[.string x]⟩ 9 (0, 0))
 | some a => σ b5 = some (.cells ⟨[.bool true]⟩ 4 (0, 0)) /\ σ b4 = some (.cells ⟨[.string a]⟩ 9 (0, 0))
def pendL : Option ByteArray -> List ByteArray
 | none => []
 | some a => [a]
theorem pendOk.keep {σ σ' : H} {b4 b5 : Nat} {p : Option ByteArray} (h : pendOk σ b4 b5 p) (h4 : ∀ o, σ b4 = some o -> σ' b4 = some o) (h5 : ∀ o, σ b5 = some o -> σ' b5 = some o) : pendOk σ' b4 b5 p := by
 cases p with
 | none => obtain ⟨h1, x, h2⟩ := h; exact ⟨h5 _ h1, x, h4 _ h2⟩
 | some a => exact ⟨h5 _ h.1, h4 _ h.2⟩
theorem okPart_eq (a : ByteArray) : okPart a = !(strEq a ⟨⟨[]⟩⟩ || strEq a ⟨⟨[46]⟩⟩) := by unfold okPart; rw [sEq_eq, sEq_eq]; simp
theorem x_names1 {σ : H} {fy : Fn} {ay cy : Array Value} {b2 : Nat} {path : ByteArray} {t : TypeId} (h2 : σ b2 = some (.cells ⟨[.string path]⟩ t (0, 0))) (hs : path.size <= 1000000000) {K : KH}
 (hC : ∀ D : Nat -> Prop, (∀ b, D b -> σ b = none) -> ∃ I S, Cl Tryz.prog (.func fy ay cy) D (fun (a : ByteArray × Bool) args _ => args = [.string a.1, .bool a.2]) I S /\ (∀ σ', Gr σ σ' -> (∀ b, D b -> (σ' b).isSome = true) -> I (lasts (partsB path)) σ') /\ (∀ σ', I [] σ' -> K (.tuple ⟨[]⟩) σ') /\ (∀ σ', S σ' -> K (.tuple ⟨[]⟩) σ')) :
 callW Tryz.prog 248 [.func fy ay cy, .pointer (some ⟨b2, 0, none⟩)] K σ := by
 refine c248 _ _ ?_
 unfold g248
 refine one_f ?_
 refine al_i ?_; intro b3 σ1 g1 e1 n1
 refine al_i ?_; intro b4 σ2 g2 e2 n2
 refine al_i ?_; intro b5 σ3 g3 e3 n3
 have n43 : b4 ≠ b3 := (ne_fr n2 (by repeat (first | exact io ‹_› | exact mS ‹_› | refine gS ‹_› ?_ | refine pS ‹_› ?_))).symm
 have n53 : b5 ≠ b3 := (ne_fr n3 (by repeat (first | exact io ‹_› | exact mS ‹_› | refine gS ‹_› ?_ | refine pS ‹_› ?_))).symm
 have n54 : b5 ≠ b4 := (ne_fr n3 (by repeat (first | exact io ‹_› | exact mS ‹_› | refine gS ‹_› ?_ | refine pS ‹_› ?_))).symm
 have f4 : σ b4 = none := none_of g1 n2
 have f5 : σ b5 = none := none_of (g1.trans g2) n3
 have hg3 : Lng σ σ3 := ⟨by repeat (first | exact Gr.refl _ | assumption | refine Gr.trans ?_ ‹_› | refine Gr.putF ?_ ‹_› (none_of ?_ ‹_›))⟩
 have k2 := hg3.gr.get h2
 (refine st_i2 (by exact gA) szA (by rfl) (by rfl) ?_; intro _ _)
 rename_i σ4 p4
 (refine st_i2 (by exact gA) szA (by rfl) (by rfl) ?_; intro _ _)
 rename_i σ5 p5
 have hg5 : Lng σ σ5 := ⟨(hg3.gr.putF p4 f4).putF p5 f5⟩
 have k5 : σ5 b5 = some (.cells ⟨[.bool false]⟩ 4 (0, 0)) := p5.same
 have k4 : σ5 b4 = some (.cells ⟨[.string ⟨⟨[]⟩⟩]⟩ 9 (0, 0)) := p5.get n54.symm p4.same
 have k3 : σ5 b3 = some (.cells ⟨[.func fy ay cy]⟩ 273 (0, 0)) := p5.get n53.symm (p4.get n43.symm (by exact gA))
 have k2q := hg5.gr.get h2
 clear p4 p5 e2 e3 k2 hg3
 refine j_i (fun j => ∀ (I : List (ByteArray × Bool) -> H -> Prop) (S : H -> Prop) (D : Nat -> Prop), Cl Tryz.prog (.func fy ay cy) D (fun (a : ByteArray × Bool) args _ => args = [.string a.1, .bool a.2]) I S -> (∀ σ', I [] σ' -> K (.tuple ⟨[]⟩) σ') -> (∀ σ', S σ' -> K (.tuple ⟨[]⟩) σ') -> ∀ σ' p, σ' b3 = some (.cells ⟨[.func fy ay cy]⟩ 273 (0, 0)) -> pendOk σ' b4 b5 p -> I (lasts (pendL p)) σ' -> j (some ⟨b3, 0, none⟩) (some ⟨b4, 0, none⟩) (some ⟨b5, 0, none⟩) σ') ?_ ?_
 ·intro I S D C hK1 hK2 σ' p h3 hp hI
  cases p with
  | none =>
   obtain ⟨h5, x, h4⟩ := hp
   (repeat (first|refine ptr_i ?_|refine z2 ?_|(refine al_i ?_;intro _ _ _ _ _)|refine z4 ?_|refine z5 ?_|(refine z6 ?_;intro _ _)|refine app_P ?_|refine app_I ?_|refine app_S ?_|refine app_B ?_|refine app_M ?_|refine app_L ?_|refine app_U ?_|refine app_R ?_|(refine app_of rfl ?_;try dsimp only)))
   exact br_f rfl (hK1 σ' hI)
  | some a =>
   obtain ⟨h5, h4⟩ := hp
   (repeat (first|refine ptr_i ?_|refine z2 ?_|(refine al_i ?_;intro _ _ _ _ _)|refine z4 ?_|refine z5 ?_|(refine z6 ?_;intro _ _)|refine app_P ?_|refine app_I ?_|refine app_S ?_|refine app_B ?_|refine app_M ?_|refine app_L ?_|refine app_U ?_|refine app_R ?_|(refine app_of rfl ?_;try dsimp only)))
   refine br_t rfl ?_
   (repeat (first|refine ptr_i ?_|refine z2 ?_|(refine al_i ?_;intro _ _ _ _ _)|refine z4 ?_|refine z5 ?_|(refine z6 ?_;intro _ _)|refine app_P ?_|refine app_I ?_|refine app_S ?_|refine app_B ?_|refine app_M ?_|refine app_L ?_|refine app_U ?_|refine app_R ?_|(refine app_of rfl ?_;try dsimp only)))
   refine cvalv_i (C.call (a, true) [] _ σ' _ hI rfl ?_ ?_)
   ·intro σ'' h _; exact app_B (hK1 σ'' h)
   ·intro σ'' h _; exact app_B (hK2 σ'' h)
 ·intro j hj
  (repeat (first|refine ptr_i ?_|refine z2 ?_|(refine al_i ?_;intro _ _ _ _ _)|refine z4 ?_|refine z5 ?_|(refine z6 ?_;intro _ _)|refine app_P ?_|refine app_I ?_|refine app_S ?_|refine app_B ?_|refine app_M ?_|refine app_L ?_|refine app_U ?_|refine app_R ?_|(refine app_of rfl ?_;try dsimp only)))
  refine call_i (x_SplitSeq _ _ ?_)
  intro q4 q5 q6 σ6 g6 m4 m5 m6 nq1 nq2 u4 u5 u6
  refine app_R (fun_i ?_)
  refine rf_i go_split1 ?_
  intro l obj σ7 nl pl hobj hY
  have hg6 : Gr σ σ6 := hg5.gr.trans g6
  have fl : σ l = none := none_of hg6 nl
  have hg7 : Gr σ σ7 := hg6.putF pl fl
  have ql4 : q4 ≠ l := ne_fr nl (isSome_of u4)
  have ql5 : q5 ≠ l := ne_fr nl (isSome_of u5)
  have ql6 : q6 ≠ l := ne_fr nl (isSome_of u6)
  have bl3 : b3 ≠ l := ne_fr nl (isSome_of (g6.get k3))
  have bl4 : b4 ≠ l := ne_fr nl (isSome_of (g6.get k4))
  have bl5 : b5 ≠ l := ne_fr nl (isSome_of (g6.get k5))
  have q43 : b3 ≠ q4 := ne_fr m4 (isSome_of k3)
  have q44 : b4 ≠ q4 := ne_fr m4 (isSome_of k4)
  have q45 : b5 ≠ q4 := ne_fr m4 (isSome_of k5)
  have q53 : b3 ≠ q5 := ne_fr m5 (isSome_of k3)
  have q54 : b4 ≠ q5 := ne_fr m5 (isSome_of k4)
  have q55 : b5 ≠ q5 := ne_fr m5 (isSome_of k5)
  have q63 : b3 ≠ q6 := ne_fr m6 (isSome_of k3)
  have q64 : b4 ≠ q6 := ne_fr m6 (isSome_of k4)
  have q65 : b5 ≠ q6 := ne_fr m6 (isSome_of k5)
  obtain ⟨I, S, C, hI0, hK1, hK2⟩ := hC (fun b => σ b = none /\ (σ7 b).isSome = true) (fun b h => h.1)
  have v4 := pl.get ql4 u4
  have v5 := pl.get ql5 u5
  have v6 := pl.get ql6 u6
  have w3 := pl.get bl3 (g6.get k3)
  have w4 := pl.get bl4 (g6.get k4)
  have w5 := pl.get bl5 (g6.get k5)
  have d3 : σ b3 = none /\ (σ7 b3).isSome = true := ⟨n1, isSome_of w3⟩
  have d4 : σ b4 = none /\ (σ7 b4).isSome = true := ⟨f4, isSome_of w4⟩
  have d5 : σ b5 = none /\ (σ7 b5).isSome = true := ⟨f5, isSome_of w5⟩
  have dl : σ l = none /\ (σ7 l).isSome = true := ⟨fl, isSome_of pl.same⟩
  have dq4 : σ q4 = none /\ (σ7 q4).isSome = true := ⟨none_of hg5.gr m4, isSome_of v4⟩
  have dq5 : σ q5 = none /\ (σ7 q5).isSome = true := ⟨none_of hg5.gr m5, isSome_of v5⟩
  have dq6 : σ q6 = none /\ (σ7 q6).isSome = true := ⟨none_of hg5.gr m6, isSome_of v6⟩
  let D' : Nat -> Prop := fun b => b = q4 \/ b = q5 \/ b = q6
  have hD' : ∀ b, D' b -> b ≠ b3 /\ b ≠ b4 /\ b ≠ b5 /\ b ≠ l /\ (σ b = none /\ (σ7 b).isSome = true) := by
   rintro b (rfl | rfl | rfl)
   ·exact ⟨q43.symm, q44.symm, q45.symm, ql4, dq4⟩
   ·exact ⟨q53.symm, q54.symm, q55.symm, ql5, dq5⟩
   ·exact ⟨q63.symm, q64.symm, q65.symm, ql6, dq6⟩
  let I' : List ByteArray -> H -> Prop := fun r σ' => ∃ p, I (lasts (pendL p ++ r.filter okPart)) σ' /\ σ' b3 = some (.cells ⟨[.func fy ay cy]⟩ 273 (0, 0)) /\ pendOk σ' b4 b5 p /\ σ' l = some (obj .ready none)
  let S' : H -> Prop := fun σ' => S σ' /\ σ' l = some (obj .done (some .ret))
  have C' : Cl Tryz.prog (yv l) D' (fun (a : ByteArray) args _ => args = [.string a]) I' S' := by
   refine ⟨?_, ?_, ?_, ?_, ?_⟩
   ·rintro r τ b o τ' ⟨p, h1, h3, hp, h5⟩ hb hput
    obtain ⟨a1, a2, a3, a4, a5⟩ := hD' b hb
    exact ⟨p, C.put _ _ _ _ _ h1 a5 hput, hput.get a1.symm h3, hp.keep (fun _ h => hput.get a2.symm h) (fun _ h => hput.get a3.symm h), hput.get a4.symm h5⟩
   ·rintro τ b o τ' ⟨h1, h5⟩ hb hput
    obtain ⟨a1, a2, a3, a4, a5⟩ := hD' b hb
    exact ⟨C.putS _ _ _ _ h1 a5 hput, hput.get a4.symm h5⟩
   ·rintro r τ τ' ⟨p, h1, h3, hp, h5⟩ hg
    exact ⟨p, C.gr _ _ _ h1 hg, hg.get h3, hp.keep (fun _ h => hg.get h) (fun _ h => hg.get h), hg.get h5⟩
   ·rintro τ τ' ⟨h1, h5⟩ hg
    exact ⟨C.grS _ _ h1 hg, hg.get h5⟩
   ·rintro a r args τ K' ⟨p, h1, h3, hp, h5⟩ rfl hT hF
    refine yv_call (hY _ _ _ ⟨h5, ?_⟩)
    show begW l obj _ τ
    refine beg_i h5 ?_
    intro τ1 pb
    have i1 := C.put _ _ _ _ _ h1 dl pb
    have x3 := pb.get bl3 h3
    have xp : pendOk τ1 b4 b5 p := hp.keep (fun _ h => pb.get bl4 h) (fun _ h => pb.get bl5 h)
    have xl : τ1 l = some (obj .busy none) := pb.same
    have own1 : OwnK D' τ τ1 := (OwnK.refl D' τ).put pb (fun h => (hD' l h).2.2.2.1 rfl)
    refine j_i (fun j => ∀ t : Bool, (t = !okPart a) -> j (some ⟨b3, 0, none⟩) (some ⟨b4, 0, none⟩) (some ⟨b5, 0, none⟩) a t τ1) ?_ ?_
    ·intro t ht
     cases hok : okPart a with
     | false =>
      rw [hok] at ht; subst ht
      refine br_t rfl (round_i xl ?_)
      intro τ2 pr
      refine hT τ2 ⟨p, ?_, pr.get bl3 x3, xp.keep (fun _ h => pr.get bl4 h) (fun _ h => pr.get bl5 h), pr.same⟩ (own1.put pr (fun h => (hD' l h).2.2.2.1 rfl))
      have := C.put _ _ _ _ _ i1 dl pr
      simpa [List.filter_cons, hok] using this
     | true =>
      rw [hok] at ht; subst ht
      refine br_f rfl ?_
      refine j_i (fun j => (∀ τ2 x, I (lasts (a :: r.filter okPart)) τ2 -> OwnK D' τ τ2 -> τ2 b3 = some (.cells ⟨[.func fy ay cy]⟩ 273 (0, 0)) -> τ2 b4 = some (.cells ⟨[.string x]⟩ 9 (0, 0)) -> (∃ u, τ2 b5 = some (.cells ⟨[.bool u]⟩ 4 (0, 0))) -> τ2 l = some (obj .busy none) -> j (some ⟨b4, 0, none⟩) (some ⟨b5, 0, none⟩) a false τ2) /\ (∀ τ2, S τ2 -> OwnK D' τ τ2 -> τ2 l = some (obj .busy none) -> j (some ⟨b4, 0, none⟩) (some ⟨b5, 0, none⟩) a true τ2)) ?_ ?_
      ·refine ⟨?_, ?_⟩
       ·intro τ2 x j1 j2 j3 j4 ⟨u, j5⟩ j6
        refine br_f rfl ?_
        (refine st_i2 (by exact gA) szA (by rfl) (by rfl) ?_; intro _ _)
        rename_i τ3 r3
        have j5' := r3.get n54 j5
        (refine st_i2 (by exact gA) szA (by rfl) (by rfl) ?_; intro _ _)
        rename_i τ4 r4
        have j6' : τ4 l = some (obj .busy none) := r4.get bl5.symm (r3.get bl4.symm j6)
        refine round_i j6' ?_
        intro τ5 r5
        refine hT τ5 ⟨some a, C.put _ _ _ _ _ (C.put _ _ _ _ _ (C.put _ _ _ _ _ j1 d4 r3) d5 r4) dl r5, r5.get bl3 (r4.get n53.symm (r3.get n43.symm j3)), ⟨r5.get bl5 r4.same, r5.get bl4 (r4.get n54.symm r3.same)⟩, r5.same⟩ (((j2.put r3 (fun h => (hD' b4 h).2.1 rfl)).put r4 (fun h => (hD' b5 h).2.2.1 rfl)).put r5 (fun h => (hD' l h).2.2.2.1 rfl))
       ·intro τ2 j1 j2 j6
        refine br_t rfl (round_i j6 ?_)
        intro τ3 r3
        exact hF τ3 ⟨C.putS _ _ _ _ j1 dl r3, r3.same⟩ (j2.put r3 (fun h => (hD' l h).2.2.2.1 rfl))
      ·rintro j ⟨hj1, hj2⟩
       simp only [List.filter_cons, hok, if_true] at i1
       cases p with
       | none =>
        obtain ⟨y5, x, y4⟩ := xp
        (repeat (first|refine ptr_i ?_|refine z2 ?_|(refine al_i ?_;intro _ _ _ _ _)|refine z4 ?_|refine z5 ?_|(refine z6 ?_;intro _ _)|refine app_P ?_|refine app_I ?_|refine app_S ?_|refine app_B ?_|refine app_M ?_|refine app_L ?_|refine app_U ?_|refine app_R ?_|(refine app_of rfl ?_;try dsimp only)))
        exact br_f rfl (hj1 τ1 x i1 own1 x3 y4 ⟨_, y5⟩ xl)
       | some a0 =>
        obtain ⟨y5, y4⟩ := xp
        (repeat (first|refine ptr_i ?_|refine z2 ?_|(refine al_i ?_;intro _ _ _ _ _)|refine z4 ?_|refine z5 ?_|(refine z6 ?_;intro _ _)|refine app_P ?_|refine app_I ?_|refine app_S ?_|refine app_B ?_|refine app_M ?_|refine app_L ?_|refine app_U ?_|refine app_R ?_|(refine app_of rfl ?_;try dsimp only)))
        refine br_t rfl ?_
        (repeat (first|refine ptr_i ?_|refine z2 ?_|(refine al_i ?_;intro _ _ _ _ _)|refine z4 ?_|refine z5 ?_|(refine z6 ?_;intro _ _)|refine app_P ?_|refine app_I ?_|refine app_S ?_|refine app_B ?_|refine app_M ?_|refine app_L ?_|refine app_U ?_|refine app_R ?_|(refine app_of rfl ?_;try dsimp only)))
        refine cvalv_i (C.call (a0, false) _ _ τ1 _ i1 rfl ?_ ?_)
        ·intro τ2 z1 z2
         exact app_B (hj1 τ2 a0 z1 (own1.trans fun b o hb h => z2 b o (hD' b hb).2.2.2.2 h) (z2 _ _ d3 x3) (z2 _ _ d4 y4) ⟨_, z2 _ _ d5 y5⟩ (z2 _ _ dl xl))
        ·intro τ2 z1 z2
         exact app_B (hj2 τ2 z1 (own1.trans fun b o hb h => z2 b o (hD' b hb).2.2.2.2 h) (z2 _ _ dl xl))
    ·intro j hj
     have e := okPart_eq a
     cases h1 : strEq a ⟨⟨[]⟩⟩ with
     | true => exact br_t rfl (hj true (by rw [e, h1]; rfl))
     | false => exact br_f rfl (hj _ (by rw [e, h1]; simp))
  refine x_split1 (c := 47) C' (.inl rfl) (.inr (.inl rfl)) (.inr (.inr rfl)) nq1 nq2 ?_ ?_ v5 v4 v6 hs ?_
  ·rintro τ ⟨p, h1, h3, hp, h5⟩
   refine end_n h5 (by intro h; cases h) ?_
   intro τ1 pr
   simp only [List.filter_nil, List.append_nil] at h1
   exact hj I S _ C hK1 hK2 τ1 p (pr.get bl3 h3) (hp.keep (fun _ h => pr.get bl4 h) (fun _ h => pr.get bl5 h)) (C.put _ _ _ _ _ h1 dl pr)
  ·rintro τ ⟨h1, h5⟩
   refine end_r h5 (by intro h; cases h) ?_
   intro τ1 pr
   exact hK2 τ1 (C.putS _ _ _ _ h1 dl pr)
  ·refine ⟨none, ?_, w3, ⟨w5, _, w4⟩, pl.same⟩
   have := hI0 σ7 hg7 (fun b h => h.2)
   rw [partsB_eq] at this
   exact this
def FsAt (σ : H) (bf : Nat) (A : AT) (B : Nat -> Prop) : Prop := ∃ bt B0, σ bf = some (.cells ⟨[.pointer (some ⟨bt, 0, none⟩)]⟩ 110 (0, 0)) /\ TabAt σ bt A B0 /\ ¬ B0 bf /\ ∀ b, B b ↔ (B0 b \/ b = bf)
section
variable {σ σ' : H} {bf : Nat} {A : AT} {B : Nat -> Prop} {b : Nat} {o : Obj}
theorem FsAt.gr (h : FsAt σ bf A B) (hg : Gr σ σ') : FsAt σ' bf A B := by
 obtain ⟨bt, B0, h1, h2, h3, h4⟩ := h; exact ⟨bt, B0, hg.get h1, h2.gr hg, h3, h4⟩
theorem FsAt.put (h : FsAt σ bf A B) (hp : Put σ b o σ') (hn : ¬ B b) : FsAt σ' bf A B := by
 obtain ⟨bt, B0, h1, h2, h3, h4⟩ := h
 exact ⟨bt, B0, hp.get (fun e => hn ((h4 b).2 (.inr e.symm))) h1, h2.put hp (fun e => hn ((h4 b).2 (.inl e))), h3, h4⟩
theorem FsAt.has (h : FsAt σ bf A B) (hb : B b) : ∃ o, σ b = some o := by
 obtain ⟨bt, B0, h1, h2, h3, h4⟩ := h
 rcases (h4 b).1 hb with e | e
 ·exact h2.some e
 ·subst e; exact ⟨_, h1⟩
theorem FsAt.fresh (h : FsAt σ bf A B) (hb : σ b = none) : ¬ B b := by
 intro hB; obtain ⟨o, ho⟩ := h.has hB; rw [hb] at ho; cases ho
end
def inV (n : IN) : List Value := [.int .i64 n.kind, .int .i64 n.mode, .string n.data, .int .i64 n.links]
section
variable {σ : H} {bt : Nat} {A : AT} {B : Nat -> Prop}
theorem t_Node (h : TabAt σ bt A B) (i : Int) {K : KH} (hK : K (.tuple ⟨[.agg ⟨inV (A.ino i)⟩, .bool (A.get i).isSome]⟩) σ) : callW Tryz.prog 99 [.pointer (some ⟨bt, 0, none⟩), .int .i64 i] K σ := by
 obtain ⟨T, h1, h2, rfl, h4⟩ := h
 refine s_Node h1 i ?_
 have e1 : T.node i = inV (T.abs.ino i) := by
  unfold Tb.node AT.ino; rw [abs_get]; cases T.get i <;> rfl
 have e2 : (T.abs.get i).isSome = (T.get i).isSome := by rw [abs_get]; cases T.get i <;> rfl
 rw [e1, <- e2]; exact hK
theorem t_Find (h : TabAt σ bt A B) (d : Int) (s : ByteArray) {K : KH} (hK : K (.tuple ⟨[.int .i64 ((A.find d s).getD 0), .bool (A.find d s).isSome]⟩) σ) : callW Tryz.prog 125 [.pointer (some ⟨bt, 0, none⟩), .int .i64 d, .string s] K σ := by
 obtain ⟨T, h1, h2, rfl, h4⟩ := h
 rw [abs_find] at hK
 exact s_Find h1 d s hK
theorem t_Up (h : TabAt σ bt A B) (d : Int) {K : KH} (hK : K (.int .i64 (A.upOf d)) σ) : callW Tryz.prog 124 [.pointer (some ⟨bt, 0, none⟩), .int .i64 d] K σ := by
 obtain ⟨T, h1, h2, rfl, h4⟩ := h
 rw [abs_up] at hK
 exact s_Up h1 d hK
end
theorem ino_kind (A : AT) (i : Int) : (A.ino i).kind = A.kind i := by unfold AT.ino AT.kind; cases A.get i <;> rfl
theorem ino_data (A : AT) (i : Int) : (A.ino i).data = A.data i := by unfold AT.ino AT.data; cases A.get i <;> rfl
section
variable {σ : H} {bf : Nat} {A : AT} {B : Nat -> Prop}
theorem s_none (h : FsAt σ bf A B) {K : KH} (hK : K (.bool false) σ) : callW Tryz.prog 92 [.pointer (some ⟨bf, 0, none⟩)] K σ := by
 obtain ⟨bt, B0, h1, h2, h3, h4⟩ := h
 refine c92 _ ?_
 unfold g92
 refine br_f rfl ?_
 (repeat (first|refine ptr_i ?_|refine z2 ?_|(refine al_i ?_;intro _ _ _ _ _)|refine z4 ?_|refine z5 ?_|(refine z6 ?_;intro _ _)|refine app_P ?_|refine app_I ?_|refine app_S ?_|refine app_B ?_|refine app_M ?_|refine app_L ?_|refine app_U ?_|refine app_R ?_|(refine app_of rfl ?_;try dsimp only)))
 exact hK
theorem s_kind (h : FsAt σ bf A B) (i : Int) {K : KH} (hK : K (.int .i64 (A.kind i)) σ) : callW Tryz.prog 110 [.pointer (some ⟨bf, 0, none⟩), .int .i64 i] K σ := by
 obtain ⟨bt, B0, h1, h2, h3, h4⟩ := h
 refine pure_i _ hK (c110 _ _ ?_)
 unfold g110
 (repeat (first|refine ptr_i ?_|refine z2 ?_|(refine al_i ?_;intro _ _ _ _ _)|refine z4 ?_|refine z5 ?_|(refine z6 ?_;intro _ _)|refine app_P ?_|refine app_I ?_|refine app_S ?_|refine app_B ?_|refine app_M ?_|refine app_L ?_|refine app_U ?_|refine app_R ?_|(refine app_of rfl ?_;try dsimp only)))
 refine call_i (t_Node h2 i ?_)
 unfold inV
 rw [ino_kind]
 (repeat (first|refine ptr_i ?_|refine z2 ?_|(refine al_i ?_;intro _ _ _ _ _)|refine z4 ?_|refine z5 ?_|(refine z6 ?_;intro _ _)|refine app_P ?_|refine app_I ?_|refine app_S ?_|refine app_B ?_|refine app_M ?_|refine app_L ?_|refine app_U ?_|refine app_R ?_|(refine app_of rfl ?_;try dsimp only)))
 exact ⟨rfl, by repeat (first | exact Gr.refl _ | assumption | refine Gr.trans ?_ ‹_› | refine Gr.putF ?_ ‹_› (none_of ?_ ‹_›))⟩
end
theorem s_may (path : ByteArray) {σ : H} {K : KH} (hK : K (.int .i64 (mayE path)) σ) : callW Tryz.prog 220 [.string path] K σ := by
 refine c220 _ ?_
 unfold g220
 unfold mayE at hK
 rw [sEq_eq] at hK
 cases h1 : strEq path ⟨⟨[]⟩⟩ with
 | true => rw [h1] at hK; exact br_t rfl hK
 | false =>
  rw [h1] at hK
  refine br_f rfl ?_
  by_cases h2 : path.size > 255
  ·refine br_t (by simp; omega) ?_
   simpa [h2] using hK
  ·refine br_f (by simp; omega) (call_i (iByte _ _ _ ?_))
   intro n hn
   refine app_I ?_
   simp only [h2, if_false, Bool.false_eq_true] at hK
   cases h3 : hasNul path with
   | true =>
    rw [h3] at hn hK
    exact br_t (by simp at hn ⊢; omega) hK
   | false =>
    rw [h3] at hn hK
    exact br_f (by simp at hn ⊢; omega) hK
def plC (p : Pl) : List Value := [.int .i64 p.dir, .string p.name, .int .i64 p.ino, .bool p.there]
theorem sz_place : sizeT Tryz.prog 142 = some 4 := by kernel_rfl
theorem sz_Errno : sizeT Tryz.prog 36 = some 1 := by kernel_rfl
theorem mayE_size {path : ByteArray} (h : mayE path = 0) : path.size <= 255 /\ ∃ c r, path.data.toList = c :: r := by
 unfold mayE at h
 cases h1 : sEq path ⟨⟨[]⟩⟩ with
 | true => rw [h1] at h; simp at h
 | false =>
  rw [h1] at h
  by_cases h2 : path.size > 255
  ·simp [h2] at h
  ·refine ⟨by omega, ?_⟩
   cases hl : path.data.toList with
   | nil =>
    exfalso
    have : sEq path ⟨⟨[]⟩⟩ = true := by unfold sEq; rw [hl]; rfl
    rw [h1] at this; cases this
   | cons c r => exact ⟨c, r, rfl⟩
theorem lasts_cons {names : List ByteArray} {a : ByteArray × Bool} {r : List (ByteArray × Bool)} (h : a :: r = lasts names) : ∃ n rest, names = n :: rest /\ a = (n, rest.isEmpty) /\ r = lasts rest := by
 cases names with
 | nil => cases h
 | cons n rest => simp only [lasts, List.cons.injEq] at h; exact ⟨n, rest, rfl, h.1, h.2⟩
theorem headIs_cons {s : ByteArray} {c d : UInt8} {r : List UInt8} (h : s.data.toList = d :: r) : headIs c s = (d == c) := by unfold headIs; rw [h]
theorem byte_eq (c d : UInt8) : (((c.toNat : Int) : Int) == (d.toNat : Int)) = (c == d) := by
 cases h : (c == d) with
 | true => have := eq_of_beq h; subst this; simp
 | false =>
  have : c ≠ d := by simpa using h
  simp only [beq_eq_false_iff_ne]
  intro e
  exact this (UInt8.toNat_inj.1 (by omega))
structure WkBase (σ : H) (bf bh b6 b7 b8 b9 b10 : Nat) (A : AT) (B : Nat -> Prop) (follow : Bool) (τ : H) : Prop where
 fs : FsAt τ bf A B
 k6 : τ b6 = some (.cells ⟨[.pointer (some ⟨bf, 0, none⟩)]⟩ 24 (0, 0))
 k7 : τ b7 = some (.cells ⟨[.bool follow]⟩ 4 (0, 0))
 k8 : τ b8 = some (.cells ⟨[.pointer (some ⟨bh, 0, none⟩)]⟩ 219 (0, 0))
 k9 : τ b9 = some (.cells ⟨[.int .i64 0, .string ⟨⟨[]⟩⟩, .int .i64 0, .bool false]⟩ 142 (0, 0))
 k10 : τ b10 = some (.cells ⟨[.int .i64 0]⟩ 36 (0, 0))
 keep : ∀ b o, b ≠ bh -> σ b = some o -> τ b = some o
section
variable {σ τ τ' : H} {bf bh b6 b7 b8 b9 b10 : Nat} {A : AT} {B : Nat -> Prop} {follow : Bool} {b : Nat} {o : Obj}
theorem WkBase.gr (h : WkBase σ bf bh b6 b7 b8 b9 b10 A B follow τ) (hg : Gr τ τ') : WkBase σ bf bh b6 b7 b8 b9 b10 A B follow τ' :=
 ⟨h.fs.gr hg, hg.get h.k6, hg.get h.k7, hg.get h.k8, hg.get h.k9, hg.get h.k10, fun b o h1 h2 => hg.get (h.keep b o h1 h2)⟩
theorem WkBase.put (h : WkBase σ bf bh b6 b7 b8 b9 b10 A B follow τ) (hp : Put τ b o τ') (n : b ≠ b6 /\ b ≠ b7 /\ b ≠ b8 /\ b ≠ b9 /\ b ≠ b10) (hB : ¬ B b) (hs : b ≠ bh -> σ b = none) : WkBase σ bf bh b6 b7 b8 b9 b10 A B follow τ' :=
 ⟨h.fs.put hp hB, hp.get n.1.symm h.k6, hp.get n.2.1.symm h.k7, hp.get n.2.2.1.symm h.k8, hp.get n.2.2.2.1.symm h.k9, hp.get n.2.2.2.2.symm h.k10, fun c oc h1 h2 => hp.get (fun e => by subst e; rw [hs h1] at h2; cases h2) (h.keep c oc h1 h2)⟩
end
theorem gr_of_keep {σ τ : H} {bh : Nat} {o : Obj} (h1 : τ bh = some o) (h2 : ∀ b o, b ≠ bh -> σ b = some o -> τ b = some o) : Gr (σ.put bh o) τ := by
 unfold Gr
 intro b ob hb
 by_cases e : b = bh
 ·subst e; rw [H.put_same] at hb; cases hb; exact h1
 ·rw [H.put_other _ _ e] at hb; exact h2 b ob e hb
set_option maxHeartbeats 1000000 in
theorem s_walk {A : AT} : ∀ (f : Nat) {σ : H} {bf : Nat} {B : Nat -> Prop} (_ : FsAt σ bf A B) (at_ : Int) (path : ByteArray) (follow : Bool) {bh : Nat} {h : Int} (_ : σ bh = some (.cells ⟨[.int .i64 h]⟩ 3 (0, 0))) (_ : ¬ B bh) (_ : 0 <= h) (_ : h < f) (_ : h <= 100) {K : KH}
 (_ : ∀ σ', Put σ bh (.cells ⟨[.int .i64 (A.walk f at_ path follow h).2.2]⟩ 3 (0, 0)) σ' -> K (.tuple ⟨[.agg ⟨plC (A.walk f at_ path follow h).2.1⟩, .int .i64 (A.walk f at_ path follow h).1]⟩) σ'),
 callW Tryz.prog 170 [.pointer (some ⟨bf, 0, none⟩), .int .i64 at_, .string path, .bool follow, .pointer (some ⟨bh, 0, none⟩)] K σ := by
 intro f
 induction f with
 | zero => intro σ bf B hF at_ path follow bh h hh hb h0 h1; omega
 | succ f ihf =>
  intro σ bf B hF at_ path follow bh h hh hb h0 h1 h100 K hK
  refine callW.pureP ?_ hK
  clear hK
  refine c170 _ _ _ _ _ ?_
  unfold g170
  refine al_i ?_; intro b6 σ1 g1 e1 n1
  refine al_i ?_; intro b7 σ2 g2 e2 n2
  refine al_i ?_; intro b8 σ3 g3 e3 n3
  refine al_i ?_; intro b9 σ4 g4 e4 n4
  refine al_i ?_; intro b10 σ5 g5 e5 n5
  have hg5 : Lng σ σ5 := ⟨by repeat (first | exact Gr.refl _ | assumption | refine Gr.trans ?_ ‹_› | refine Gr.putF ?_ ‹_› (none_of ?_ ‹_›))⟩
  refine call_i (s_may path (app_I ?_))
  have hsame : σ.put bh (.cells ⟨[.int .i64 h]⟩ 3 (0, 0)) = σ := by
   funext k
   by_cases e : k = bh
   ·subst e; rw [H.put_same, hh]
   ·rw [H.put_other _ _ e]
  rw [AT.walk]
  by_cases hm : mayE path = 0
  case neg =>
   rw [if_pos hm]
   refine br_t (by simpa using hm) ?_
   (refine st_i2 (by exact gA) szA (by rfl) (by rfl) ?_; intro _ _)
   rename_i σ6 p6
   have n910 : b10 ≠ b9 := (ne_fr n5 (by repeat (first | exact io ‹_› | exact mS ‹_› | refine gS ‹_› ?_ | refine pS ‹_› ?_))).symm
   have e5' := p6.get n910 e5
   (refine st_i2 (by exact gA) szA (by rfl) (by rfl) ?_; intro _ _)
   rename_i σ7 p7
   have e9 := p7.get n910.symm p6.same
   have e10 := p7.same
   refine rd_G (rdA_of' e9 (by rfl)) ?_
   show _ 
   (refine app_of rfl ?_; try dsimp only)
   refine rd_I (rdC_of e10 (by rfl)) ?_
   refine ⟨rfl, ?_⟩
   rw [hsame]
   exact (hg5.gr.putF p6 (none_of (by repeat (first | exact Gr.refl _ | assumption | refine Gr.trans ?_ ‹_› | refine Gr.putF ?_ ‹_› (none_of ?_ ‹_›))) n4)).putF p7 (none_of (by repeat (first | exact Gr.refl _ | assumption | refine Gr.trans ?_ ‹_› | refine Gr.putF ?_ ‹_› (none_of ?_ ‹_›))) n5)
  rw [if_neg (by simpa using hm)]
  refine br_f (by simpa using hm) ?_
  obtain ⟨hsz, c, cr, hl⟩ := mayE_size hm
  have hc47 : ((c.toNat : Int) == 47) = (c == 47) := byte_eq c 47
  have k6 : σ5 b6 = some (.cells ⟨[.pointer (some ⟨bf, 0, none⟩)]⟩ 24 (0, 0)) := by exact gA
  have k7 : σ5 b7 = some (.cells ⟨[.bool follow]⟩ 4 (0, 0)) := by exact gA
  have k8 : σ5 b8 = some (.cells ⟨[.pointer (some ⟨bh, 0, none⟩)]⟩ 219 (0, 0)) := by exact gA
  have k9 : σ5 b9 = some (.cells ⟨[.int .i64 0, .string ⟨⟨[]⟩⟩, .int .i64 0, .bool false]⟩ 142 (0, 0)) := by exact gA
  have k10 : σ5 b10 = some (.cells ⟨[.int .i64 0]⟩ 36 (0, 0)) := by exact gA
  have f6 : σ b6 = none := n1
  have f7 : σ b7 = none := none_of (by repeat (first | exact Gr.refl _ | assumption | refine Gr.trans ?_ ‹_› | refine Gr.putF ?_ ‹_› (none_of ?_ ‹_›))) n2
  have f8 : σ b8 = none := none_of (by repeat (first | exact Gr.refl _ | assumption | refine Gr.trans ?_ ‹_› | refine Gr.putF ?_ ‹_› (none_of ?_ ‹_›))) n3
  have f9 : σ b9 = none := none_of (by repeat (first | exact Gr.refl _ | assumption | refine Gr.trans ?_ ‹_› | refine Gr.putF ?_ ‹_› (none_of ?_ ‹_›))) n4
  have f10 : σ b10 = none := none_of (by repeat (first | exact Gr.refl _ | assumption | refine Gr.trans ?_ ‹_› | refine Gr.putF ?_ ‹_› (none_of ?_ ‹_›))) n5
  have hhs : (σ bh).isSome = true := isSome_of hh
  have h6 : bh ≠ b6 := ne_fr f6 hhs
  have h7 : bh ≠ b7 := ne_fr f7 hhs
  have h8 : bh ≠ b8 := ne_fr f8 hhs
  have h9 : bh ≠ b9 := ne_fr f9 hhs
  have h10 : bh ≠ b10 := ne_fr f10 hhs
  have n910 : b10 ≠ b9 := (ne_fr n5 (by repeat (first | exact io ‹_› | exact mS ‹_› | refine gS ‹_› ?_ | refine pS ‹_› ?_))).symm
  clear e1 e2 e3 e4 e5 g1 g2 g3 g4 g5 n1 n2 n3 n4 n5
  have hbase5 : WkBase σ bf bh b6 b7 b8 b9 b10 A B follow σ5 := ⟨hF.gr hg5.gr, k6, k7, k8, k9, k10, fun b o _ hb => hg5.gr.get hb⟩
  have hh5 := hg5.gr.get hh
  refine j_i (fun j => ∀ a : Int, a = (if headIs 47 path then 1 else at_) -> j a path (some ⟨b6, 0, none⟩) (some ⟨b7, 0, none⟩) (some ⟨b8, 0, none⟩) (some ⟨b9, 0, none⟩) (some ⟨b10, 0, none⟩) σ5) ?_ ?_
  case refine_2 =>
   intro j hj
   refine idx_l (c := c) (by decide) (by rw [hl]; rfl) ?_
   rw [hc47]
   rw [headIs_cons hl] at hj
   cases hc : (c == 47) with
   | true =>
    obtain ⟨bt, B0, q1, q2, q3, q4⟩ := hF
    have q1' := hg5.gr.get q1
    refine br_t rfl ?_
    (repeat (first|refine ptr_i ?_|refine z2 ?_|(refine al_i ?_;intro _ _ _ _ _)|refine z4 ?_|refine z5 ?_|(refine z6 ?_;intro _ _)|refine app_P ?_|refine app_I ?_|refine app_S ?_|refine app_B ?_|refine app_M ?_|refine app_L ?_|refine app_U ?_|refine app_R ?_|(refine app_of rfl ?_;try dsimp only)))
    exact call_i (s_Root _ (app_I (hj 1 (by rw [hc]; rfl))))
   | false => exact br_f rfl (hj at_ (by rw [hc]; rfl))
  intro a ha
  rw [<- ha]
  refine al_i ?_; intro b25 σ6 g6 e6 n6
  have f25 : σ b25 = none := none_of hg5.gr n6
  have m25 : b25 ≠ b6 /\ b25 ≠ b7 /\ b25 ≠ b8 /\ b25 ≠ b9 /\ b25 ≠ b10 := ⟨(ne_fr n6 (isSome_of k6)).symm, (ne_fr n6 (isSome_of k7)).symm, (ne_fr n6 (isSome_of k8)).symm, (ne_fr n6 (isSome_of k9)).symm, (ne_fr n6 (isSome_of k10)).symm⟩
  have h25 : bh ≠ b25 := ne_fr f25 hhs
  have B25 : ¬ B b25 := hF.fresh f25
  (refine st_i2 (by exact gA) szA (by rfl) (by rfl) ?_; intro _ _)
  rename_i σ7 p7
  have hbase7 : WkBase σ bf bh b6 b7 b8 b9 b10 A B follow σ7 := (hbase5.gr g6).put p7 m25 B25 (fun _ => f25)
  have hh7 := p7.get h25 (g6.get hh5)
  have e25 : σ7 b25 = some (.cells ⟨plC ⟨a, ⟨⟨[]⟩⟩, a, true⟩⟩ 142 (0, 0)) := p7.same
  clear p7 e6
  generalize hres : A.steps (fun d s h' => A.walk f d s true h') follow (partsB path) ⟨a, ⟨⟨[]⟩⟩, a, true⟩ h = res
  refine j_i (fun j => ∀ τ p h', res = (0, p, h') -> WkBase σ bf bh b6 b7 b8 b9 b10 A B follow τ -> τ b25 = some (.cells ⟨plC p⟩ 142 (0, 0)) -> τ bh = some (.cells ⟨[.int .i64 h']⟩ 3 (0, 0)) -> j (some ⟨b9, 0, none⟩) (some ⟨b10, 0, none⟩) (some ⟨b25, 0, none⟩) τ) ?_ ?_
  ·intro τ p h' hr hbs ep eh
   unfold plC at ep
   have y9 := hbs.k9
   have y10 := hbs.k10
   refine ptr_i ?_
   refine rd_G (rdA_of' ep (by rfl)) ?_
   (refine app_of rfl ?_; try dsimp only)
   (refine st_i2 (by exact gA) szA (by rfl) (by rfl) ?_; intro _ _)
   rename_i τ1 r1
   have y10' := r1.get n910 y10
   (refine st_i2 (by exact gA) szA (by rfl) (by rfl) ?_; intro _ _)
   rename_i τ2 r2
   have z9 := r2.get n910.symm r1.same
   have z10 := r2.same
   refine ptr_i (rd_G (rdA_of' z9 (by rfl)) ?_)
   (refine app_of rfl ?_; try dsimp only)
   refine ptr_i (rd_I (rdC_of z10 (by rfl)) ?_)
   rw [hr]
   refine ⟨rfl, gr_of_keep (r2.get h10 (r1.get h9 eh)) (fun b o hn hb => r2.get ?_ (r1.get ?_ (hbs.keep b o hn hb)))⟩
   ·intro e; subst e; rw [f10] at hb; cases hb
   ·intro e; subst e; rw [f9] at hb; cases hb
  intro j26 hj26
  refine call_i (x_names path ?_)
  intro b2 σ8 g8 n8 e8
  refine app_R (fun_i ?_)
  refine rf_i go_names1 ?_
  intro l obj σ9 nl pl hobj hY
  have hbase8 := hbase7.gr g8
  have fl : σ l = none := by
   cases hx : σ l with
   | none => rfl
   | some o =>
    exfalso
    by_cases e : l = bh
    ·subst e; have := g8.get hh7; rw [nl] at this; cases this
    ·have := hbase8.keep l o e hx; rw [nl] at this; cases this
  have ml : l ≠ b6 /\ l ≠ b7 /\ l ≠ b8 /\ l ≠ b9 /\ l ≠ b10 := ⟨(ne_fr nl (isSome_of hbase8.k6)).symm, (ne_fr nl (isSome_of hbase8.k7)).symm, (ne_fr nl (isSome_of hbase8.k8)).symm, (ne_fr nl (isSome_of hbase8.k9)).symm, (ne_fr nl (isSome_of hbase8.k10)).symm⟩
  have hl' : bh ≠ l := ne_fr fl hhs
  have Bl : ¬ B l := hF.fresh fl
  have l25 : b25 ≠ l := ne_fr nl (isSome_of (g8.get e25))
  have lb2 : b2 ≠ l := ne_fr nl (isSome_of e8)
  have hbase9 := hbase8.put pl ml Bl (fun _ => fl)
  have hh9 := pl.get hl' (g8.get hh7)
  have e25' := pl.get l25 (g8.get e25)
  refine x_names1 (pl.get lb2 e8) (by omega) ?_
  intro D hD
  have hD' : ∀ b, D b -> (b ≠ b6 /\ b ≠ b7 /\ b ≠ b8 /\ b ≠ b9 /\ b ≠ b10) /\ b ≠ b25 /\ b ≠ l /\ b ≠ bh /\ ¬ B b /\ σ b = none := by
   intro b hb
   have hn := hD b hb
   have fb : σ b = none := by
    cases hx : σ b with
    | none => rfl
    | some o =>
     exfalso
     by_cases e : b = bh
     ·subst e; rw [hn] at hh9; cases hh9
     ·have := hbase9.keep b o e hx; rw [hn] at this; cases this
   exact ⟨⟨(ne_fr hn (isSome_of hbase9.k6)).symm, (ne_fr hn (isSome_of hbase9.k7)).symm, (ne_fr hn (isSome_of hbase9.k8)).symm, (ne_fr hn (isSome_of hbase9.k9)).symm, (ne_fr hn (isSome_of hbase9.k10)).symm⟩, (ne_fr hn (isSome_of e25')).symm, (ne_fr hn (isSome_of pl.same)).symm, (ne_fr hn (isSome_of hh9)).symm, hF.fresh fb, fb⟩
  let I : List (ByteArray × Bool) -> H -> Prop := fun r τ => ∃ names p h', r = lasts names /\ A.steps (fun d s h' => A.walk f d s true h') follow names p h' = res /\ 0 <= h' /\ h' <= h /\ WkBase σ bf bh b6 b7 b8 b9 b10 A B follow τ /\ τ b25 = some (.cells ⟨plC p⟩ 142 (0, 0)) /\ τ bh = some (.cells ⟨[.int .i64 h']⟩ 3 (0, 0)) /\ τ l = some (obj .ready none) /\ ∀ b, D b -> (τ b).isSome = true
  let S : H -> Prop := fun τ => ∃ e h', res = (e, Pl.z, h') /\ τ b9 = some (.cells ⟨plC Pl.z⟩ 142 (0, 0)) /\ τ b10 = some (.cells ⟨[.int .i64 e]⟩ 36 (0, 0)) /\ τ bh = some (.cells ⟨[.int .i64 h']⟩ 3 (0, 0)) /\ τ l = some (obj .done (some .ret)) /\ ∀ b o, b ≠ bh -> σ b = some o -> τ b = some o
  refine ⟨I, S, ⟨?_, ?_, ?_, ?_, ?_⟩, ?_, ?_, ?_⟩
  ·rintro r τ b o τ' ⟨names, p, h', y1, y2, y3, y4, y5, y6, y7, y8, y9⟩ hb hp
   obtain ⟨a1, a2, a3, a4, a5, a6⟩ := hD' b hb
   exact ⟨names, p, h', y1, y2, y3, y4, y5.put hp a1 a5 (fun _ => a6), hp.get a2.symm y6, hp.get a4.symm y7, hp.get a3.symm y8, fun c hc => hp.isSome (y9 c hc)⟩
  ·rintro τ b o τ' ⟨e, h', y1, y2, y3, y4, y5, y6⟩ hb hp
   obtain ⟨a1, a2, a3, a4, a5, a6⟩ := hD' b hb
   exact ⟨e, h', y1, hp.get a1.2.2.2.1.symm y2, hp.get a1.2.2.2.2.symm y3, hp.get a4.symm y4, hp.get a3.symm y5, fun c oc h1 h2 => hp.get (fun e => by subst e; rw [a6] at h2; cases h2) (y6 c oc h1 h2)⟩
  ·rintro r τ τ' ⟨names, p, h', y1, y2, y3, y4, y5, y6, y7, y8, y9⟩ hg
   exact ⟨names, p, h', y1, y2, y3, y4, y5.gr hg, hg.get y6, hg.get y7, hg.get y8, fun c hc => hg.isSome (y9 c hc)⟩
  ·rintro τ τ' ⟨e, h', y1, y2, y3, y4, y5, y6⟩ hg
   exact ⟨e, h', y1, hg.get y2, hg.get y3, hg.get y4, hg.get y5, fun c oc h1 h2 => hg.get (y6 c oc h1 h2)⟩
  ·rintro it r args τ K' ⟨names, p, h', y1, y2, y3, y4, y5, y6, y7, y8, y9⟩ rfl hT hFa
   obtain ⟨nm, rest, rfl, rfl, rfl⟩ := lasts_cons y1
   refine yv_call (hY _ _ _ ⟨y8, ?_⟩)
   show begW l obj _ τ
   refine beg_i y8 ?_
   intro τ1 pb
   have z5 := y5.put pb ml Bl (fun _ => fl)
   have z6 := pb.get l25 y6
   have z7 := pb.get hl' y7
   have z8 : τ1 l = some (obj .busy none) := pb.same
   have nDl : ¬ D l := fun hd => (hD' l hd).2.2.1 rfl
   have nD25 : ¬ D b25 := fun hd => (hD' b25 hd).2.1 rfl
   have nDh : ¬ D bh := fun hd => (hD' bh hd).2.2.2.1 rfl
   have nD9 : ¬ D b9 := fun hd => (hD' b9 hd).1.2.2.2.1 rfl
   have nD10 : ¬ D b10 := fun hd => (hD' b10 hd).1.2.2.2.2 rfl
   have own1 : OwnK D τ τ1 := (OwnK.refl D τ).put pb nDl
   clear y5 y6 y7 y8 y1 pb hbase9 hbase8 hbase7 hbase5
   have herr : ∀ τ2 (e h2 : Int), WkBase σ bf bh b6 b7 b8 b9 b10 A B follow τ2 -> τ2 bh = some (.cells ⟨[.int .i64 h2]⟩ 3 (0, 0)) -> τ2 l = some (obj .busy none) -> res = (e, Pl.z, h2) -> OwnK D τ τ2 ->
    stW Tryz.prog 142 (.pointer (some ⟨b9, 0, none⟩)) (.agg ⟨[.int .i64 0, .string ⟨⟨[]⟩⟩, .int .i64 0, .bool false]⟩) (stW Tryz.prog 36 (.pointer (some ⟨b10, 0, none⟩)) (.int .i64 e) (roundK l obj K' (some .ret) false .done)) τ2 := by
    intro τ2 e h2 q1 q2 q3 q4 q5
    have v9 := q1.k9
    have v10 := q1.k10
    (refine st_i2 (by exact gA) szA (by rfl) (by rfl) ?_; intro _ _)
    rename_i τ3 r3
    have v10' := r3.get n910 v10
    (refine st_i2 (by exact gA) szA (by rfl) (by rfl) ?_; intro _ _)
    rename_i τ4 r4
    refine round_i (r4.get ml.2.2.2.2 (r3.get ml.2.2.2.1 q3)) ?_
    intro τ5 r5
    refine hFa τ5 ⟨e, h2, q4, r5.get ml.2.2.2.1.symm (r4.get n910.symm r3.same), r5.get ml.2.2.2.2.symm r4.same, r5.get hl' (r4.get h10 (r3.get h9 q2)), r5.same, fun b o hn hb => r5.get ?_ (r4.get ?_ (r3.get ?_ (q1.keep b o hn hb)))⟩ (((q5.put r3 nD9).put r4 nD10).put r5 nDl)
    ·intro e; subst e; rw [fl] at hb; cases hb
    ·intro e; subst e; rw [f10] at hb; cases hb
    ·intro e; subst e; rw [f9] at hb; cases hb
   have hnext : ∀ τ2 (q : Pl) (h2 : Int), WkBase σ bf bh b6 b7 b8 b9 b10 A B follow τ2 -> τ2 b25 = some (.cells ⟨plC q⟩ 142 (0, 0)) -> τ2 bh = some (.cells ⟨[.int .i64 h2]⟩ 3 (0, 0)) -> τ2 l = some (obj .busy none) -> A.steps (fun d s h' => A.walk f d s true h') follow rest q h2 = res -> 0 <= h2 -> h2 <= h -> OwnK D τ τ2 -> roundK l obj K' none true .ready τ2 := by
    intro τ2 q h2 q1 q2 q3 q4 q5 q6 q7 q8
    refine round_i q4 ?_
    intro τ3 r3
    exact hT τ3 ⟨rest, q, h2, rfl, q5, q6, q7, q1.put r3 ml Bl (fun _ => fl), r3.get l25 q2, r3.get hl' q3, r3.same, fun c hc => r3.isSome (by obtain ⟨o, ho⟩ := Option.isSome_iff_exists.1 (y9 c hc); exact isSome_of (q8 c o hc ho))⟩ (q8.put r3 nDl)
   clear hT hFa
   unfold plC at z6
   refine rd_B (rdC_of z6 (by rfl)) ?_
   cases ht : p.there with
   | false =>
    rw [steps_none ht] at y2
    exact br_t rfl (herr τ1 5 h' z5 z7 z8 y2.symm own1)
   | true =>
    rw [ht] at z6
    refine br_f rfl (ptr_i (rd_P (rdC_of z5.k6 (by rfl)) ?_))
    refine rd_I (rdC_of z6 (by rfl)) ?_
    refine call_i (s_kind z5.fs _ (app_I ?_))
    by_cases h2 : A.kind p.ino = 2
    case neg =>
     rw [steps_notdir ht h2] at y2
     exact br_t (by simpa using h2) (herr τ1 8 h' z5 z7 z8 y2.symm own1)
    refine br_f (by simpa using h2) ?_
    obtain ⟨bt, B0, t1, t2, t3, t4⟩ := z5.fs
    cases h3 : strEq nm ⟨⟨[46, 46]⟩⟩ with
    | true =>
     rw [steps_up ht h2 (by rw [sEq_eq]; exact h3)] at y2
     refine br_t rfl (ptr_i (rd_P (rdC_of z5.k6 (by rfl)) (ptr_i (rd_P (rdC_of t1 (by rfl)) (rd_I (rdC_of z6 (by rfl)) ?_)))))
     refine call_i (t_Up t2 _ (app_I ?_))
     (refine st_i2 (by exact gA) szA (by rfl) (by rfl) ?_; intro _ _)
     rename_i τ2 r2
     exact hnext τ2 ⟨A.upOf p.ino, ⟨⟨[]⟩⟩, A.upOf p.ino, true⟩ h' (z5.put r2 m25 B25 (fun _ => f25)) r2.same (r2.get h25 z7) (r2.get l25.symm z8) y2 y3 y4 (own1.put r2 nD25)
    | false =>
     have h3' : sEq nm ⟨⟨[46, 46]⟩⟩ = false := by rw [sEq_eq]; exact h3
     refine br_f rfl ?_
     by_cases h4 : nm.size > 56
     ·rw [steps_long ht h2 h3' h4] at y2
      exact br_t (by simp; omega) (herr τ1 3 h' z5 z7 z8 y2.symm own1)
     refine br_f (by simp; omega) (rd_I (rdC_of z6 (by rfl)) ?_)
     (refine st_i2 (by exact gA) szA (by rfl) (by rfl) ?_; intro _ _)
     rename_i τ2 r2
     have u5 := z5.put r2 m25 B25 (fun _ => f25)
     have u7 := r2.get h25 z7
     have u8 := r2.get l25.symm z8
     have own2 := own1.put r2 nD25
     obtain ⟨bt, B0, t1, t2, t3, t4⟩ := u5.fs
     refine ptr_i (rd_P (rdC_of u5.k6 (by rfl)) (ptr_i (rd_P (rdC_of t1 (by rfl)) (rd_I (rdC_of r2.same (by rfl)) ?_))))
     refine call_i (t_Find t2 _ _ (app_IB ?_))
     have u6 := r2.same
     (refine st_i2 (by exact gA) szA (by rfl) (by rfl) ?_; intro _ _)
     rename_i τ3 r3
     have u6' := r3.same
     (refine st_i2 (by exact gA) szA (by rfl) (by rfl) ?_; intro _ _)
     rename_i τ4 r4
     have v5 := (u5.put r3 m25 B25 (fun _ => f25)).put r4 m25 B25 (fun _ => f25)
     have v7 := r4.get h25 (r3.get h25 u7)
     have v8 := r4.get l25.symm (r3.get l25.symm u8)
     have own4 := (own2.put r3 nD25).put r4 nD25
     have v6 : τ4 b25 = some (.cells ⟨plC ⟨p.ino, nm, (A.find p.ino nm).getD 0, (A.find p.ino nm).isSome⟩⟩ 142 (0, 0)) := r4.same
     clear u5 u7 u8 u6 u6' own2 r2 r3 r4 z5 z7 z8 own1 t1 t2 t3 t4
     refine j_i (fun j => ((A.find p.ino nm).isSome = false \/ (rest.isEmpty && !follow) = true \/ A.kind ((A.find p.ino nm).getD 0) ≠ 3 -> j (some ⟨b6, 0, none⟩) (some ⟨b8, 0, none⟩) (some ⟨b9, 0, none⟩) (some ⟨b10, 0, none⟩) (some ⟨b25, 0, none⟩) true τ4) /\ (¬ ((A.find p.ino nm).isSome = false \/ (rest.isEmpty && !follow) = true \/ A.kind ((A.find p.ino nm).getD 0) ≠ 3) -> j (some ⟨b6, 0, none⟩) (some ⟨b8, 0, none⟩) (some ⟨b9, 0, none⟩) (some ⟨b10, 0, none⟩) (some ⟨b25, 0, none⟩) false τ4)) ?_ ?_
     ·refine ⟨fun h5 => ?_, fun h5 => ?_⟩
      ·rw [steps_name ht h2 h3' h4 h5] at y2
       exact br_t rfl (hnext τ4 _ h' v5 v6 v7 v8 y2 y3 y4 own4)
      ·refine br_f rfl (ptr_i (rd_P (rdC_of v5.k8 (by rfl)) (ptr_i (rd_I (rdC_of v7 (by rfl)) (ptr_i ?_)))))
       (refine st_i2 (by exact gA) szA (by rfl) (by rfl) ?_; intro _ _)
       rename_i τ5 r5
       have w1 : IntKind.i64.wrap (h' - 1) = h' - 1 := wrap_id (by omega) (by omega)
       rw [w1] at r5
       have w5 := v5.put r5 ⟨h6, h7, h8, h9, h10⟩ hb (fun e => absurd rfl e)
       have w7 : τ5 bh = some (.cells ⟨[.int .i64 (h' - 1)]⟩ 3 (0, 0)) := r5.same
       have w8 := r5.get hl'.symm v8
       have w6 := r5.get h25.symm v6
       have own5 := own4.put r5 nDh
       refine ptr_i (rd_P (rdC_of w5.k8 (by rfl)) (ptr_i (rd_I (rdC_of w7 (by rfl)) ?_)))
       by_cases hz : h' - 1 < 0
       ·rw [steps_loop ht h2 h3' h4 h5 hz] at y2
        exact br_t (by simpa using hz) (herr τ5 9 (h' - 1) w5 w7 w8 y2.symm own5)
       refine br_f (by simpa using hz) ?_
       obtain ⟨bt, B0, t1, t2, t3, t4⟩ := w5.fs
       refine ptr_i (rd_P (rdC_of w5.k6 (by rfl)) (ptr_i (rd_P (rdC_of t1 (by rfl)) (ptr_i (rd_I (rdC_of w6 (by rfl)) ?_)))))
       refine call_i (t_Node t2 _ ?_)
       unfold inV
       (refine app_of rfl ?_; try dsimp only)
       refine al_i ?_; intro b110 τ6 g6' e110 n110
       have n110' : σ b110 = none := by
        cases hx : σ b110 with
        | none => rfl
        | some o =>
         exfalso
         by_cases e : b110 = bh
         ·subst e; rw [n110] at w7; cases w7
         ·have := w5.keep b110 o e hx; rw [n110] at this; cases this
       (refine st_i2 (by exact gA) szA (by rfl) (by rfl) ?_; intro _ _)
       rename_i τ7 r7
       have mm : b110 ≠ b6 /\ b110 ≠ b7 /\ b110 ≠ b8 /\ b110 ≠ b9 /\ b110 ≠ b10 := ⟨(ne_fr n110 (isSome_of w5.k6)).symm, (ne_fr n110 (isSome_of w5.k7)).symm, (ne_fr n110 (isSome_of w5.k8)).symm, (ne_fr n110 (isSome_of w5.k9)).symm, (ne_fr n110 (isSome_of w5.k10)).symm⟩
       have q5 := (w5.gr g6').put r7 mm (hF.fresh n110') (fun _ => n110')
       have m25' : b25 ≠ b110 := ne_fr n110 (isSome_of w6)
       have mh : bh ≠ b110 := ne_fr n110 (isSome_of w7)
       have mL : l ≠ b110 := ne_fr n110 (isSome_of w8)
       have q6 := r7.get m25' (g6'.get w6)
       have q7 := r7.get mh (g6'.get w7)
       have q8 := r7.get mL (g6'.get w8)
       have nD110 : ¬ D b110 := by
        intro hd
        obtain ⟨o, ho⟩ := Option.isSome_iff_exists.1 (y9 _ hd)
        have := own5 _ _ hd ho
        rw [n110] at this; cases this
       have own7 := (own5.trans (OwnK.gr g6')).put r7 nD110
       have q110 : τ7 b110 = some (.cells ⟨[.int .i64 (A.ino ((A.find p.ino nm).getD 0)).kind, .int .i64 (A.ino ((A.find p.ino nm).getD 0)).mode, .string (A.ino ((A.find p.ino nm).getD 0)).data, .int .i64 (A.ino ((A.find p.ino nm).getD 0)).links]⟩ 35 (0, 0)) := r7.same
       unfold plC at q6
       refine ptr_i (rd_P (rdC_of q5.k6 (by rfl)) (ptr_i (rd_I (rdC_of q6 (by rfl)) (rd_S (rdC_of q110 (by rfl)) (ptr_i (rd_P (rdC_of q5.k8 (by rfl)) ?_))))))
       rw [ino_data]
       have hw := walk_hops A f p.ino (A.data ((A.find p.ino nm).getD 0)) true (h' - 1) (by omega)
       refine call_i (ihf q5.fs _ _ _ q7 hb (by omega) (by omega) (by omega) ?_)
       intro τ8 r8
       have x5 := q5.put r8 ⟨h6, h7, h8, h9, h10⟩ hb (fun e => absurd rfl e)
       have x6 := r8.get h25.symm q6
       have x7 := r8.same
       have x8 := r8.get hl'.symm q8
       have own8 := own7.put r8 nDh
       clear q5 q6 q7 q8 own7 r8 r7 w5 w6 w7 w8 v5 v6 v7 v8 q110
       unfold plC
       (refine app_of rfl ?_; try dsimp only)
       refine al_i ?_; intro b126 τ9 g9 e126 n126
       (refine st_i2 (by exact gA) szA (by rfl) (by rfl) ?_; intro _ _)
       rename_i τ10 r10
       have n126' : σ b126 = none := by
        cases hx : σ b126 with
        | none => rfl
        | some o =>
         exfalso
         by_cases e : b126 = bh
         ·subst e; rw [n126] at x7; cases x7
         ·have := x5.keep b126 o e hx; rw [n126] at this; cases this
       have mm' : b126 ≠ b6 /\ b126 ≠ b7 /\ b126 ≠ b8 /\ b126 ≠ b9 /\ b126 ≠ b10 := ⟨(ne_fr n126 (isSome_of x5.k6)).symm, (ne_fr n126 (isSome_of x5.k7)).symm, (ne_fr n126 (isSome_of x5.k8)).symm, (ne_fr n126 (isSome_of x5.k9)).symm, (ne_fr n126 (isSome_of x5.k10)).symm⟩
       have nD126 : ¬ D b126 := by
        intro hd
        obtain ⟨o, ho⟩ := Option.isSome_iff_exists.1 (y9 _ hd)
        have := own8 _ _ hd ho
        rw [n126] at this; cases this
       have a5 := (x5.gr g9).put r10 mm' (hF.fresh n126') (fun _ => n126')
       have a6 := r10.get (ne_fr n126 (isSome_of x6)) (g9.get x6)
       have a7 := r10.get (ne_fr n126 (isSome_of x7)) (g9.get x7)
       have a8 := r10.get (ne_fr n126 (isSome_of x8)) (g9.get x8)
       have own10 := (own8.trans (OwnK.gr g9)).put r10 nD126
       by_cases he : (A.walk f p.ino (A.data ((A.find p.ino nm).getD 0)) true (h' - 1)).1 = 0
       ·rw [steps_link ht h2 h3' h4 h5 hz he] at y2
        refine br_f (by simpa using he) ?_
        refine rd_G (rdA_of' r10.same (by rfl)) ?_
        (refine app_of rfl ?_; try dsimp only)
        (refine st_i2 (by exact gA) szA (by rfl) (by rfl) ?_; intro _ _)
        rename_i τ11 r11
        exact hnext τ11 _ _ (a5.put r11 m25 B25 (fun _ => f25)) r11.same (r11.get h25 a7) (r11.get l25.symm a8) y2 (hw.2.2 he) (Int.le_trans hw.2.1 (by omega)) (own10.put r11 nD25)
       ·rw [steps_err ht h2 h3' h4 h5 hz he] at y2
        exact br_t (by simpa using he) (herr τ10 _ _ a5 a7 a8 y2.symm own10)
     ·rintro j ⟨hj1, hj2⟩
      unfold plC at v6
      refine rd_B (rdC_of v6 (by rfl)) ?_
      cases hfd : (A.find p.ino nm).isSome with
      | false => exact br_t rfl (hj1 (.inl hfd))
      | true =>
       have hkd : ∀ t : Bool, t = (A.kind ((A.find p.ino nm).getD 0) != 3) -> (rest.isEmpty && !follow) = false -> j (some ⟨b6, 0, none⟩) (some ⟨b8, 0, none⟩) (some ⟨b9, 0, none⟩) (some ⟨b10, 0, none⟩) (some ⟨b25, 0, none⟩) t τ4 := by
        intro t ht' hr'
        by_cases hk : A.kind ((A.find p.ino nm).getD 0) = 3
        ·have : t = false := by rw [ht']; simpa using hk
         subst this
         refine hj2 ?_
         rintro (h | h | h)
         ·rw [hfd] at h; cases h
         ·rw [hr'] at h; cases h
         ·exact h hk
        ·have : t = true := by rw [ht']; simpa using hk
         subst this
         exact hj1 (.inr (.inr hk))
       refine br_f rfl ?_
       cases hre : rest.isEmpty with
       | true =>
        refine br_t rfl (ptr_i (rd_B (rdC_of v5.k7 (by rfl)) ?_))
        cases follow with
        | false => exact br_t rfl (hj1 (.inr (.inl (by rw [hre]; rfl))))
        | true =>
         refine br_f rfl (ptr_i (rd_P (rdC_of v5.k6 (by rfl)) (rd_I (rdC_of v6 (by rfl)) ?_)))
         exact call_i (s_kind v5.fs _ (app_I (hkd _ rfl (by rw [hre]; rfl))))
       | false =>
        refine br_f rfl (ptr_i (rd_P (rdC_of v5.k6 (by rfl)) (rd_I (rdC_of v6 (by rfl)) ?_)))
        exact call_i (s_kind v5.fs _ (app_I (hkd _ rfl (by rw [hre]; rfl))))
  ·intro τ hg hDs
   exact ⟨partsB path, _, h, rfl, hres, h0, Int.le_refl _, hbase9.gr hg, hg.get e25', hg.get hh9, hg.get pl.same, hDs⟩
  ·rintro τ ⟨names, p, h', y1, y2, y3, y4, y5, y6, y7, y8, y9⟩
   cases names with
   | cons x xs => cases y1
   | nil =>
    refine end_n y8 (by intro h; cases h) ?_
    intro τ1 r1
    simp only [AT.steps] at y2
    exact hj26 τ1 p h' y2.symm (y5.put r1 ml Bl (fun _ => fl)) (r1.get l25 y6) (r1.get hl' y7)
  ·rintro τ ⟨e, h', y1, y2, y3, y4, y5, y6⟩
   refine end_r y5 (by intro h; cases h) ?_
   intro τ1 r1
   have z9 := r1.get ml.2.2.2.1.symm y2
   have z10 := r1.get ml.2.2.2.2.symm y3
   unfold plC at z9
   refine ptr_i (rd_G (rdA_of' z9 (by rfl)) ?_)
   (refine app_of rfl ?_; try dsimp only)
   refine ptr_i (rd_I (rdC_of z10 (by rfl)) ?_)
   rw [y1]
   refine ⟨rfl, gr_of_keep (r1.get hl' y4) (fun b o hn hb => r1.get ?_ (y6 b o hn hb))⟩
   intro e; subst e; rw [fl] at hb; cases hb
end Go.Proofs.YtbjbeajbckcecaaGreatDoor

namespace Go.Wk
open Go Go.HL
section
variable {κ α : Type}
def sumF (f : α -> Nat) : List (κ × α) -> Nat
 | [] => 0
 | (_, v) :: r => f v + sumF f r
theorem sumF_up [BEq κ] (f : α -> Nat) (k : κ) (v : α) : ∀ l : List (κ × α), sumF f (up k v l) + ((lk k l).map f).getD 0 = sumF f l + f v := by
 intro l
 induction l with
 | nil => simp [up, lk, sumF]
 | cons x l ih =>
  obtain ⟨i, u⟩ := x
  simp only [up, lk]
  cases (k == i) with
  | true => simp [sumF]; omega
  | false => simp only [sumF]; omega
theorem sumF_ge [BEq κ] {f : α -> Nat} {k : κ} {v : α} : ∀ {l : List (κ × α)}, lk k l = some v -> f v <= sumF f l := by
 intro l
 induction l with
 | nil => intro h; simp [lk] at h
 | cons x l ih =>
  obtain ⟨i, u⟩ := x
  intro h
  simp only [lk] at h
  simp only [sumF]
  cases hk : (k == i) with
  | true => simp only [hk] at h; cases h; omega
  | false => simp only [hk] at h; have := ih h; omega
theorem lk_of_mem [BEq κ] [LawfulBEq κ] {k : κ} {v : α} : ∀ {l : List (κ × α)}, (keysL l).Nodup -> (k, v) ∈ l -> lk k l = some v := by
 intro l
 induction l with
 | nil => intro _ h; simp at h
 | cons x l ih =>
  obtain ⟨i, u⟩ := x
  intro hn h
  simp only [keysL, List.map_cons, List.nodup_cons] at hn
  simp only [lk]
  rcases List.mem_cons.1 h with e | e
  ·cases e; simp
  ·have : (k == i) = false := by
    cases hb : (k == i) with
    | false => rfl
    | true =>
     have := eq_of_beq hb; subst this
     exact absurd (List.mem_map.2 ⟨_, e, rfl⟩) hn.1
   simp only [this]
   exact ih hn.2 e
theorem sumF_pos {f : α -> Nat} {l : List (κ × α)} (h : 0 < sumF f l) : ∃ k v, (k, v) ∈ l /\ 0 < f v := by
 induction l with
 | nil => simp [sumF] at h
 | cons x l ih =>
  obtain ⟨i, u⟩ := x
  simp only [sumF] at h
  by_cases hu : 0 < f u
  ·exact ⟨i, u, by simp, hu⟩
  ·obtain ⟨k, v, h1, h2⟩ := ih (by omega)
   exact ⟨k, v, List.mem_cons_of_mem _ h1, h2⟩
theorem sumF_pos_lk [BEq κ] [LawfulBEq κ] {f : α -> Nat} {l : List (κ × α)} (hn : (keysL l).Nodup) (h : 0 < sumF f l) : ∃ k v, lk k l = some v /\ 0 < f v := by
 obtain ⟨k, v, h1, h2⟩ := sumF_pos h
 exact ⟨k, v, lk_of_mem hn h1, h2⟩
theorem sumF_len (l : List (κ × α)) : sumF (fun _ => 1) l = l.length := by
 induction l with
 | nil => rfl
 | cons x l ih => obtain ⟨i, u⟩ := x; simp only [sumF, ih, List.length_cons]; omega
end
def one (j : Int) (v : Int) : Nat := if v = j then 1 else 0
def cntE (j : Int) (n : AN) : Nat := sumF (one j) n.ents
def AT.refs (A : AT) (j : Int) : Nat := sumF (cntE j) A.nodes
def AT.bytes (A : AT) : Nat := sumF (fun n => n.data.size) A.nodes
def AT.isDir (A : AT) (k : Int) : Prop := ∃ n, A.get k = some n /\ n.kind = 2
structure Inv (A : AT) : Prop where
 nodup : (keysL A.nodes).Nodup
 enod : ∀ i n, A.get i = some n -> (keysL n.ents).Nodup
 root : ∃ n, A.get 1 = some n /\ n.kind = 2 /\ n.up = 1
 low : ∀ i n, A.get i = some n -> 1 <= i /\ i <= A.last
 like : ∀ i n, A.get i = some n -> likeE n.kind n.mode n.data = 0
 file : ∀ i n, A.get i = some n -> n.kind ≠ 2 -> n.ents = []
 ent : ∀ i n s j, A.get i = some n -> lk s n.ents = some j -> namedE s = 0 /\ j ≠ 1 /\ ∃ m, A.get j = some m /\ (m.kind = 2 -> m.up = i)
 links : ∀ i n, A.get i = some n -> i ≠ 1 -> n.links = A.refs i /\ 0 < A.refs i /\ (n.kind = 2 -> A.refs i = 1)
 deep : ∀ i, A.isDir i -> ∃ d, A.deep 12 i = some d
 ui : A.ui = A.nodes.length
 ub : A.ub = A.bytes
 uq : A.ui <= A.qi /\ A.qi <= 1048576
 bq : A.ub <= A.qb /\ A.qb <= 1073741824
theorem AT.get_set (A : AT) (i j : Int) (n : AN) : (A.set i n).get j = if j = i then some n else A.get j := by
 unfold AT.set AT.get; simp only [lk_up]
 by_cases h : j = i <;> simp [h]
theorem AT.get_set_ne (A : AT) {i j : Int} (n : AN) (h : j ≠ i) : (A.set i n).get j = A.get j := by rw [AT.get_set]; simp [h]
theorem AT.sum_set (A : AT) (f : AN -> Nat) (i : Int) (n : AN) : sumF f (A.set i n).nodes + ((A.get i).map f).getD 0 = sumF f A.nodes + f n := sumF_up f i n A.nodes
theorem wr_id {x : Int} (h1 : -9223372036854775808 <= x) (h2 : x <= 9223372036854775807) : wr x = x := by
 unfold wr; rw [IntKind.wrap_i64]; omega
section
variable {A : AT}
theorem Inv.find (h : Inv A) {d : Int} {s : ByteArray} {j : Int} (hf : A.find d s = some j) : ∃ n, A.get d = some n /\ n.kind = 2 /\ lk s n.ents = some j /\ j ≠ 1 /\ ∃ m, A.get j = some m /\ (m.kind = 2 -> m.up = d) := by
 unfold AT.find at hf
 cases hn : A.get d with
 | none => rw [hn] at hf; cases hf
 | some n =>
  rw [hn] at hf
  have hf : lk s n.ents = some j := hf
  have h2 : n.kind = 2 := by
   apply Classical.byContradiction
   intro hk
   rw [h.file d n hn hk] at hf; simp [lk] at hf
  obtain ⟨_, h3, h4⟩ := h.ent d n s j hn hf
  exact ⟨n, rfl, h2, hf, h3, h4⟩
theorem Inv.isDir_up (h : Inv A) {k : Int} (hk : A.isDir k) : A.isDir (A.upOf k) := by
 obtain ⟨n, hn, h2⟩ := hk
 have hu : A.upOf k = n.up := by unfold AT.upOf; rw [hn]; rfl
 rw [hu]
 by_cases h1 : k = 1
 ·subst h1
  obtain ⟨r, hr, hr2, hr3⟩ := h.root
  rw [hn] at hr; cases hr
  rw [hr3]; exact ⟨n, hn, h2⟩
 ·obtain ⟨_, hpos, _⟩ := h.links k n hn h1
  obtain ⟨p, m, hp, hc⟩ := sumF_pos_lk h.nodup hpos
  have hp : A.get p = some m := hp
  obtain ⟨s, v, hs, hv⟩ := sumF_pos_lk (h.enod p m hp) hc
  have hv : v = k := by
   unfold one at hv
   by_cases e : v = k
   ·exact e
   ·simp [e] at hv
  subst hv
  obtain ⟨_, _, m', hm', hup⟩ := h.ent p m s v hp hs
  rw [hn] at hm'; cases hm'
  rw [hup h2]
  refine ⟨m, hp, ?_⟩
  apply Classical.byContradiction
  intro hk
  rw [h.file p m hp hk] at hs; simp [lk] at hs
theorem Inv.root_dir (h : Inv A) : A.isDir 1 := by
 obtain ⟨n, h1, h2, _⟩ := h.root; exact ⟨n, h1, h2⟩
theorem Inv.named (h : Inv A) {k : Int} (hk : A.isDir k) (h1 : k ≠ 1) : ∃ s, A.find (A.upOf k) s = some k := by
 obtain ⟨n, hn, h2⟩ := hk
 have hu : A.upOf k = n.up := by unfold AT.upOf; rw [hn]; rfl
 rw [hu]
 obtain ⟨_, hpos, _⟩ := h.links k n hn h1
 obtain ⟨p, m, hp, hc⟩ := sumF_pos_lk h.nodup hpos
 have hp : A.get p = some m := hp
 obtain ⟨s, v, hs, hv⟩ := sumF_pos_lk (h.enod p m hp) hc
 have hv : v = k := by
  unfold one at hv
  by_cases e : v = k
  ·exact e
  ·simp [e] at hv
 subst hv
 obtain ⟨_, _, m', hm', hup⟩ := h.ent p m s v hp hs
 rw [hn] at hm'; cases hm'
 rw [hup h2]
 exact ⟨s, by unfold AT.find; rw [hp]; exact hs⟩
theorem deep_same {A' : AT} (h : Inv A) (hu : ∀ k, A.isDir k -> A'.upOf k = A.upOf k) : ∀ (f : Nat) (k : Int), A.isDir k -> A'.deep f k = A.deep f k := by
 intro f
 induction f with
 | zero => intro k _; rfl
 | succ f ih =>
  intro k hk
  unfold AT.deep
  rw [hu k hk, ih _ (h.isDir_up hk)]
theorem deep_mono : ∀ {f : Nat} {k d : Int}, A.deep f k = some d -> A.deep (f + 1) k = some d := by
 intro f
 induction f with
 | zero => intro k d h; cases h
 | succ f ih =>
  intro k d h
  unfold AT.deep at h ⊢
  by_cases e : k = 1
  ·rw [if_pos e] at h ⊢; exact h
  ·rw [if_neg e] at h ⊢
   cases hd : A.deep f (A.upOf k) with
   | none => rw [hd] at h; cases h
   | some x => rw [hd] at h; rw [ih hd]; exact h
theorem deep_bound : ∀ {f : Nat} {k d : Int}, A.deep f k = some d -> 1 <= d /\ d <= f := by
 intro f
 induction f with
 | zero => intro k d h; cases h
 | succ f ih =>
  intro k d h
  unfold AT.deep at h
  by_cases e : k = 1
  ·rw [if_pos e] at h; cases h; omega
  ·rw [if_neg e] at h
   cases hd : A.deep f (A.upOf k) with
   | none => rw [hd] at h; cases h
   | some x =>
    rw [hd] at h; have := ih hd
    simp only [Option.map_some, Option.some.injEq] at h; omega
theorem deep_low : ∀ {f : Nat} {k d : Int}, A.deep f k = some d -> ∀ g : Nat, d <= g -> A.deep g k = some d := by
 intro f
 induction f with
 | zero => intro k d h; cases h
 | succ f ih =>
  intro k d h g hg
  have hb := deep_bound h
  cases g with
  | zero => omega
  | succ g =>
   unfold AT.deep at h ⊢
   by_cases e : k = 1
   ·rw [if_pos e] at h ⊢; exact h
   ·rw [if_neg e] at h ⊢
    cases hd : A.deep f (A.upOf k) with
    | none => rw [hd] at h; cases h
    | some x =>
     rw [hd] at h
     simp only [Option.map_some, Option.some.injEq] at h; subst h
     rw [ih hd g (by omega)]; rfl
end
end Go.Wk

namespace Go.Wk
open Go Go.HL
variable {A : AT}
theorem AT.firstE_z {e : Int} {es : List Int} (h : firstE (e :: es) = 0) : e = 0 /\ firstE es = 0 := by
 unfold firstE at h
 by_cases he : e = 0
 ·rw [if_pos he] at h; exact ⟨he, h⟩
 ·rw [if_neg he] at h; exact absurd h he
theorem AT.dirE_z {d : Int} (h : A.dirE d = 0) : A.isDir d := by
 unfold AT.dirE at h
 cases hn : A.get d with
 | none => rw [hn] at h; cases h
 | some n =>
  rw [hn] at h
  refine ⟨n, hn, ?_⟩
  cases hk : (n.kind == 2) with
  | true => simpa using hk
  | false => simp [hk] at h
theorem AT.dirE_of {d : Int} (h : A.isDir d) : A.dirE d = 0 := by
 obtain ⟨n, h1, h2⟩ := h
 unfold AT.dirE; rw [h1]; simp [h2]
theorem AT.fileE_z {d : Int} (h : A.fileE d = 0) : ∃ n, A.get d = some n /\ n.kind = 1 := by
 unfold AT.fileE at h
 cases hn : A.get d with
 | none => rw [hn] at h; cases h
 | some n =>
  rw [hn] at h
  refine ⟨n, rfl, ?_⟩
  by_cases h2 : n.kind = 2
  ·simp [h2] at h
  ·by_cases h1 : n.kind = 1
   ·exact h1
   ·simp [h1, h2] at h
theorem Inv.refs_none (h : Inv A) {i : Int} (hi : A.get i = none) : A.refs i = 0 := by
 apply Classical.byContradiction
 intro hne
 obtain ⟨p, m, hp, hc⟩ := sumF_pos_lk h.nodup (Nat.pos_of_ne_zero hne)
 have hp : A.get p = some m := hp
 obtain ⟨s, v, hs, hv⟩ := sumF_pos_lk (h.enod p m hp) hc
 have hv : v = i := by
  unfold one at hv
  by_cases e : v = i
  ·exact e
  ·simp [e] at hv
 subst hv
 obtain ⟨_, _, m', hm', _⟩ := h.ent p m s v hp hs
 rw [hi] at hm'; cases hm'
theorem Inv.fresh (h : Inv A) {i : Int} (hi : A.last < i) : A.get i = none := by
 cases hg : A.get i with
 | none => rfl
 | some n => have := h.low i n hg; omega
theorem Inv.last_pos (h : Inv A) : 1 <= A.last := by
 obtain ⟨n, h1, _⟩ := h.root
 exact (h.low 1 n h1).2
theorem Inv.size_le (h : Inv A) {i : Int} {n : AN} (hn : A.get i = some n) : (n.data.size : Int) <= A.ub := by
 have := sumF_ge (f := fun n : AN => n.data.size) hn
 rw [h.ub]; unfold AT.bytes; omega
structure Bd (N : Nat) (A : AT) : Prop where
 last : A.last <= N
 links : ∀ i n, A.get i = some n -> n.links <= N
 ents : ∀ i n, A.get i = some n -> n.ents.length <= N
theorem Bd.mono {N M : Nat} (h : Bd N A) (hl : N <= M) : Bd M A :=
 ⟨by have := h.last; omega, fun i n hn => by have := h.links i n hn; omega, fun i n hn => by have := h.ents i n hn; omega⟩
section
variable {dir : Int} {name : ByteArray} {kind mode : Int} {data : ByteArray}
theorem makeE_z (he : A.makeE dir name kind mode data = 0) : A.isDir dir /\ namedE name = 0 /\ likeE kind mode data = 0 /\ A.find dir name = none /\ A.roomE 1 (data.size : Int) = 0 := by
 unfold AT.makeE at he
 obtain ⟨_, he⟩ := AT.firstE_z he
 obtain ⟨h1, he⟩ := AT.firstE_z he
 obtain ⟨h2, he⟩ := AT.firstE_z he
 obtain ⟨h3, he⟩ := AT.firstE_z he
 obtain ⟨h4, he⟩ := AT.firstE_z he
 obtain ⟨h5, he⟩ := AT.firstE_z he
 refine ⟨AT.dirE_z h1, h2, h3, ?_, h5⟩
 cases hf : A.find dir name with
 | none => rfl
 | some j => rw [hf] at h4; simp at h4
def newN (dir kind mode : Int) (data : ByteArray) : AN := ⟨kind, mode, data, 1, if kind == 2 then dir else 0, []⟩
theorem made_eq (h : Inv A) (hl : A.last < 4611686018427387904) {nd : AN} (hd : A.get dir = some nd) :
 A.made dir name kind mode data = { (({ A with last := A.last + 1 }.set (A.last + 1) (newN dir kind mode data)).set dir { nd with ents := up name (A.last + 1) nd.ents }) with ui := wr (A.ui + 1), ub := wr (A.ub + data.size) } := by
 have hp := h.last_pos
 have hw : wr (A.last + 1) = A.last + 1 := wr_id (by omega) (by omega)
 have hne : dir ≠ A.last + 1 := by have := (h.low dir nd hd).2; omega
 unfold AT.made
 rw [hw]
 have hg : ({ A with last := A.last + 1, nodes := up (A.last + 1) ⟨kind, mode, data, 1, if kind == 2 then dir else 0, []⟩ A.nodes } : AT).get dir = some nd := by
  have := AT.get_set_ne A (newN dir kind mode data) hne
  rw [hd] at this; exact this
 simp only [AT.ent, hg]
 rfl
theorem made_get (h : Inv A) (hl : A.last < 4611686018427387904) {nd : AN} (hd : A.get dir = some nd) (j : Int) :
 (A.made dir name kind mode data).get j = if j = dir then some { nd with ents := up name (A.last + 1) nd.ents } else if j = A.last + 1 then some (newN dir kind mode data) else A.get j := by
 rw [made_eq h hl hd]
 show ((({ A with last := A.last + 1 } : AT).set (A.last + 1) (newN dir kind mode data)).set dir { nd with ents := up name (A.last + 1) nd.ents }).get j = _
 rw [AT.get_set, AT.get_set]; rfl
theorem roomE_z {i n : Int} (h : A.roomE i n = 0) : wr (A.ui + i) <= A.qi /\ wr (A.ub + n) <= A.qb := by
 unfold AT.roomE at h
 by_cases hc : wr (A.ui + i) <= A.qi /\ wr (A.ub + n) <= A.qb
 ·exact hc
 ·rw [if_neg hc] at h; cases h
theorem Inv.ui_pos (h : Inv A) : 1 <= A.ui := by
 obtain ⟨n, h1, _⟩ := h.root
 have := sumF_ge (f := fun _ : AN => 1) h1
 rw [sumF_len] at this
 rw [h.ui]; omega
theorem Inv.ub_pos (h : Inv A) : 0 <= A.ub := by rw [h.ub]; omega
theorem Inv.made {N : Nat} (h : Inv A) (hb : Bd N A) (hN : N < 4611686018427387904) (hs : data.size < 4611686018427387904) (he : A.makeE dir name kind mode data = 0) (hdp : kind = 2 -> ∃ d, A.deep 11 dir = some d) :
 Inv (A.made dir name kind mode data) /\ Bd (N + 1) (A.made dir name kind mode data) := by
 obtain ⟨⟨nd, hd, hd2⟩, hnm, hlk, hfn, hrm⟩ := makeE_z he
 have hl : A.last < 4611686018427387904 := by have := hb.last; omega
 have hG := made_get (name := name) (kind := kind) (mode := mode) (data := data) h hl hd
 have hE := made_eq (name := name) (kind := kind) (mode := mode) (data := data) h hl hd
 have hp := h.last_pos
 have hdl := (h.low dir nd hd)
 have hne : dir ≠ A.last + 1 := by omega
 have hfr : A.get (A.last + 1) = none := h.fresh (by omega)
 have hfn' : lk name nd.ents = none := by unfold AT.find at hfn; rw [hd] at hfn; exact hfn
 have hup : h.ui_pos = h.ui_pos := rfl
 have hui := h.ui_pos
 have hub := h.ub_pos
 obtain ⟨hq1, hq2⟩ := h.uq
 obtain ⟨hq3, hq4⟩ := h.bq
 obtain ⟨hr1, hr2⟩ := roomE_z hrm
 have w1 : wr (A.ui + 1) = A.ui + 1 := wr_id (by omega) (by omega)
 have w2 : wr (A.ub + (data.size : Int)) = A.ub + data.size := wr_id (by omega) (by omega)
 rw [w1] at hr1; rw [w2] at hr2
 have hsum : ∀ f : AN -> Nat, sumF f (A.made dir name kind mode data).nodes + f nd = sumF f A.nodes + f (newN dir kind mode data) + f { nd with ents := up name (A.last + 1) nd.ents } := by
  intro f
  rw [hE]
  show sumF f ((({ A with last := A.last + 1 } : AT).set (A.last + 1) (newN dir kind mode data)).set dir { nd with ents := up name (A.last + 1) nd.ents }).nodes + _ = _
  have h1 := AT.sum_set (({ A with last := A.last + 1 } : AT).set (A.last + 1) (newN dir kind mode data)) f dir { nd with ents := up name (A.last + 1) nd.ents }
  have h2 := AT.sum_set ({ A with last := A.last + 1 } : AT) f (A.last + 1) (newN dir kind mode data)
  have g1 : (({ A with last := A.last + 1 } : AT).set (A.last + 1) (newN dir kind mode data)).get dir = some nd := by rw [AT.get_set_ne _ _ hne]; exact hd
  have g2 : ({ A with last := A.last + 1 } : AT).get (A.last + 1) = none := hfr
  rw [g1] at h1; rw [g2] at h2
  simp only [Option.map_some, Option.getD_some, Option.map_none, Option.getD_none] at h1 h2
  have h3 : sumF f ({ A with last := A.last + 1 } : AT).nodes = sumF f A.nodes := rfl
  omega
 have hcE : ∀ j, cntE j { nd with ents := up name (A.last + 1) nd.ents } = cntE j nd + one j (A.last + 1) := by
  intro j
  have := sumF_up (one j) name (A.last + 1) nd.ents
  rw [hfn'] at this
  simpa [cntE] using this
 have hrefs : ∀ j, (A.made dir name kind mode data).refs j = A.refs j + one j (A.last + 1) := by
  intro j
  have := hsum (cntE j)
  rw [hcE j] at this
  have h0 : cntE j (newN dir kind mode data) = 0 := rfl
  unfold AT.refs
  omega
 have hr0 : A.refs (A.last + 1) = 0 := h.refs_none hfr
 have hex : ∀ j m, A.get j = some m -> ∃ m', (A.made dir name kind mode data).get j = some m' /\ m'.kind = m.kind /\ m'.up = m.up /\ m'.mode = m.mode /\ m'.data = m.data /\ m'.links = m.links := by
  intro j m hm
  rw [hG]
  by_cases e : j = dir
  ·subst e; rw [if_pos rfl]; rw [hd] at hm; cases hm; exact ⟨_, rfl, rfl, rfl, rfl, rfl, rfl⟩
  ·rw [if_neg e]
   by_cases e2 : j = A.last + 1
   ·subst e2; rw [hfr] at hm; cases hm
   ·rw [if_neg e2]; exact ⟨m, hm, rfl, rfl, rfl, rfl, rfl⟩
 have hcase : ∀ j m, (A.made dir name kind mode data).get j = some m -> (j = dir /\ m = { nd with ents := up name (A.last + 1) nd.ents }) \/ (j = A.last + 1 /\ m = newN dir kind mode data) \/ (j ≠ dir /\ j ≠ A.last + 1 /\ A.get j = some m) := by
  intro j m hm
  rw [hG] at hm
  by_cases e : j = dir
  ·rw [if_pos e] at hm; cases hm; exact .inl ⟨e, rfl⟩
  ·rw [if_neg e] at hm
   by_cases e2 : j = A.last + 1
   ·rw [if_pos e2] at hm; cases hm; exact .inr (.inl ⟨e2, rfl⟩)
   ·rw [if_neg e2] at hm; exact .inr (.inr ⟨e, e2, hm⟩)
 have hlast : (A.made dir name kind mode data).last = A.last + 1 := by rw [hE]; rfl
 have hupO : ∀ k, A.isDir k -> (A.made dir name kind mode data).upOf k = A.upOf k := by
  rintro k ⟨n, hn, _⟩
  obtain ⟨m', h1, _, h3, _⟩ := hex k n hn
  unfold AT.upOf; rw [h1, hn]; simp [h3]
 have hknd : kind = 1 \/ kind = 2 \/ kind = 3 \/ True := .inr (.inr (.inr trivial))
 refine ⟨⟨?_, ?_, ?_, ?_, ?_, ?_, ?_, ?_, ?_, ?_, ?_, ?_, ?_⟩, ⟨?_, ?_, ?_⟩⟩
 ·rw [hE]; exact nodup_up (nodup_up h.nodup)
 ·intro j m hm
  rcases hcase j m hm with ⟨_, rfl⟩ | ⟨_, rfl⟩ | ⟨_, _, hm⟩
  ·exact nodup_up (h.enod dir nd hd)
  ·exact List.nodup_nil
  ·exact h.enod j m hm
 ·obtain ⟨r, hr, hr2, hr3⟩ := h.root
  obtain ⟨m', h1, h2, h3, _⟩ := hex 1 r hr
  exact ⟨m', h1, by rw [h2, hr2], by rw [h3, hr3]⟩
 ·intro j m hm
  rw [hlast]
  rcases hcase j m hm with ⟨rfl, _⟩ | ⟨rfl, _⟩ | ⟨_, _, hm⟩
  ·omega
  ·omega
  ·have := h.low j m hm; omega
 ·intro j m hm
  rcases hcase j m hm with ⟨rfl, rfl⟩ | ⟨_, rfl⟩ | ⟨_, _, hm⟩
  ·exact h.like _ nd hd
  ·exact hlk
  ·exact h.like j m hm
 ·intro j m hm hk
  rcases hcase j m hm with ⟨rfl, rfl⟩ | ⟨_, rfl⟩ | ⟨_, _, hm⟩
  ·exact absurd hd2 hk
  ·rfl
  ·exact h.file j m hm hk
 ·intro j m s t hm hs'
  rcases hcase j m hm with ⟨rfl, rfl⟩ | ⟨_, rfl⟩ | ⟨_, _, hm⟩
  ·simp only [lk_up] at hs'
   by_cases e : s = name
   ·subst e
    simp at hs'; subst hs'
    refine ⟨hnm, by omega, newN j kind mode data, by rw [hG, if_neg (fun x => hne x.symm), if_pos rfl], fun hk => ?_⟩
    have hk : kind = 2 := hk
    simp [newN, hk]
   ·have e' : (s == name) = false := by simpa using e
    rw [e'] at hs'
    obtain ⟨q1, q2, m', q3, q4⟩ := h.ent j nd s t hd hs'
    obtain ⟨m'', h1, h2, h3, _⟩ := hex t m' q3
    exact ⟨q1, q2, m'', h1, fun hk => by rw [h3]; exact q4 (by rw [<- h2]; exact hk)⟩
  ·simp [newN, lk] at hs'
  ·obtain ⟨q1, q2, m', q3, q4⟩ := h.ent j m s t hm hs'
   obtain ⟨m'', h1, h2, h3, _⟩ := hex t m' q3
   exact ⟨q1, q2, m'', h1, fun hk => by rw [h3]; exact q4 (by rw [<- h2]; exact hk)⟩
 ·intro j m hm h1
  rw [hrefs]
  have ho : ∀ j, j ≠ A.last + 1 -> one j (A.last + 1) = 0 := by intro j hj; unfold one; rw [if_neg (fun x => hj x.symm)]
  rcases hcase j m hm with ⟨rfl, rfl⟩ | ⟨rfl, rfl⟩ | ⟨_, hj, hm⟩
  ·rw [ho _ hne]; exact h.links _ nd hd h1
  ·rw [hr0]; unfold one; simp [newN]
  ·rw [ho _ hj]; exact h.links j m hm h1
 ·rintro k ⟨m, hm, hk⟩
  rcases hcase k m hm with ⟨rfl, rfl⟩ | ⟨rfl, rfl⟩ | ⟨_, _, hm⟩
  ·rw [deep_same h hupO 12 k ⟨nd, hd, hd2⟩]; exact h.deep k ⟨nd, hd, hd2⟩
  ·have hk : kind = 2 := hk
   obtain ⟨d, hdd⟩ := hdp hk
   refine ⟨d + 1, ?_⟩
   unfold AT.deep
   rw [if_neg (by omega)]
   have : (A.made dir name kind mode data).upOf (A.last + 1) = dir := by
    unfold AT.upOf; rw [hm]; simp [newN, hk]
   rw [this, deep_same h hupO 11 dir ⟨nd, hd, hd2⟩, hdd]; rfl
  ·rw [deep_same h hupO 12 k ⟨m, hm, hk⟩]; exact h.deep k ⟨m, hm, hk⟩
 ·have := hsum (fun _ => 1)
  rw [sumF_len, sumF_len] at this
  have e : (A.made dir name kind mode data).ui = A.ui + 1 := by rw [hE]; exact w1
  rw [e, h.ui]; omega
 ·have := hsum (fun n => n.data.size)
  have e : (A.made dir name kind mode data).ub = A.ub + data.size := by rw [hE]; exact w2
  have e2 : (newN dir kind mode data).data.size = data.size := rfl
  rw [e, h.ub]; unfold AT.bytes; simp only [e2] at this; omega
 ·have e : (A.made dir name kind mode data).ui = A.ui + 1 := by rw [hE]; exact w1
  have e2 : (A.made dir name kind mode data).qi = A.qi := by rw [hE]; rfl
  rw [e, e2]; exact ⟨hr1, hq2⟩
 ·have e : (A.made dir name kind mode data).ub = A.ub + data.size := by rw [hE]; exact w2
  have e2 : (A.made dir name kind mode data).qb = A.qb := by rw [hE]; rfl
  rw [e, e2]; exact ⟨hr2, hq4⟩
 ·rw [hlast]; have := hb.last; omega
 ·intro j m hm
  rcases hcase j m hm with ⟨rfl, rfl⟩ | ⟨_, rfl⟩ | ⟨_, _, hm⟩
  ·have := hb.links _ nd hd; simp only; omega
  ·simp [newN]; omega
  ·have := hb.links j m hm; omega
 ·intro j m hm
  rcases hcase j m hm with ⟨rfl, rfl⟩ | ⟨_, rfl⟩ | ⟨_, _, hm⟩
  ·have := hb.ents _ nd hd
   simp only
   rw [enc_up_new nd.ents name _ hfn']; simp; omega
  ·simp [newN]
  ·have := hb.ents j m hm; omega
end
end Go.Wk

set_option maxRecDepth 100000
namespace Go.Proofs.YtbjbeajbckcecaaGreatDoor
open Go Go.HL Go.Wk
attribute [local irreducible] ptrW ifW brW andW rdT alW letJ stW muW biW vaW imW callT cvalT app callW invW callVW sizeT oW nilF oneK loopW rfW funW begW roundK exW idxW Gr Put
theorem x_HasPrefix (s p : ByteArray) {σ : H} {K : KH} (hK : K (.bool (p.data.toList.isPrefixOf s.data.toList)) σ) : callW Tryz.prog 106 [.string s, .string p] K σ := by
 have hls : s.data.toList.length = s.size := rfl
 have hlp : p.data.toList.length = p.size := rfl
 refine c106 _ _ ?_
 unfold g106
 refine call_i (c176 _ _ ?_)
 unfold g176
 by_cases h : p.size <= s.size
 ·refine br_t (by simp; omega) (if_i ⟨bnd_some (by omega) (by omega), bnd_none⟩ (app_B ?_))
  have e : strEq (s.extract 0 (((p.size : Nat) : Int).toNat)) p = p.data.toList.isPrefixOf s.data.toList := by
   unfold strEq
   rw [ByteArray.toList_eq, ByteArray.toList_eq, extract_toList]
   simp only [Int.toNat_natCast, List.drop_zero]
   rw [Bool.eq_iff_iff, beq_iff_eq, List.isPrefixOf_iff_prefix, List.prefix_iff_eq_take, hlp]
   exact eq_comm
  rw [e]; exact hK
 ·refine br_f (by simp; omega) (app_B ?_)
  have e : p.data.toList.isPrefixOf s.data.toList = false := by
   rw [<- Bool.not_eq_true, List.isPrefixOf_iff_prefix]
   intro hp
   have := hp.length_le
   omega
  rw [e] at hK; exact hK
theorem prefix_head (s : ByteArray) (c : UInt8) : ([c].isPrefixOf s.data.toList) = headIs c s := by
 unfold headIs
 cases s.data.toList with
 | nil => rfl
 | cons x r => 
  simp only [List.isPrefixOf]
  rw [Bool.and_true]
  exact BEq.comm
theorem sEq_nil {s : ByteArray} (h : sEq s ⟨⟨[]⟩⟩ = false) : ∃ c r, s.data.toList = c :: r := by
 cases hl : s.data.toList with
 | nil => exfalso; have : sEq s ⟨⟨[]⟩⟩ = true := by unfold sEq; rw [hl]; rfl
          rw [h] at this; cases this
 | cons c r => exact ⟨c, r, rfl⟩
theorem put_id {σ : H} {b : Nat} {o : Obj} (h : σ b = some o) : σ.put b o = σ := by
 funext k
 by_cases e : k = b
 ·subst e; rw [H.put_same, h]
 ·rw [H.put_other _ _ e]
theorem s_locate {A : AT} {σ : H} {bf : Nat} {B : Nat -> Prop} (hF : FsAt σ bf A B) (cwd path : ByteArray) (follow : Bool) {K : KH}
 (hK : K (.tuple ⟨[.agg ⟨plC (A.locate cwd path follow).2⟩, .int .i64 (A.locate cwd path follow).1]⟩) σ) :
 callW Tryz.prog 98 [.pointer (some ⟨bf, 0, none⟩), .string cwd, .string path, .bool follow] K σ := by
 generalize hres : A.locate cwd path follow = res at hK
 refine pure_i _ hK (c98 _ _ _ _ ?_)
 clear hK
 unfold g98
 refine al_i ?_; intro b5 σ1 g1 e1 n1
 have hF1 := hF.gr g1
 refine call_i (s_none hF1 (app_B (br_f rfl ?_)))
 obtain ⟨bt, B0, q1, q2, q3, q4⟩ := id hF
 have q1' := g1.get q1
 (repeat (first|refine ptr_i ?_|refine z2 ?_|(refine al_i ?_;intro _ _ _ _ _)|refine z4 ?_|refine z5 ?_|(refine z6 ?_;intro _ _)|refine app_P ?_|refine app_I ?_|refine app_S ?_|refine app_B ?_|refine app_M ?_|refine app_L ?_|refine app_U ?_|refine app_R ?_|(refine app_of rfl ?_;try dsimp only)))
 refine call_i (s_Root _ (app_I ?_))
 refine al_i ?_; intro b15 σ2 g2 e2 n2
 have f15 : σ b15 = none := none_of g1 n2
 have n515 : b5 ≠ b15 := ne_fr n2 (isSome_of e1)
 (refine st_i2 (by exact gA) szA (by rfl) (by rfl) ?_; intro _ _)
 rename_i σ3 p3
 have hF3 := (hF1.gr g2).put p3 (hF.fresh f15)
 have hg3 : Lng σ σ3 := ⟨(g1.trans g2).putF p3 f15⟩
 have k5 := p3.get n515 (g2.get e1)
 have k15 : σ3 b15 = some (.cells ⟨[.int .i64 8]⟩ 3 (0, 0)) := p3.same
 clear p3 e1 e2
 have herr : ∀ (e : Int) σ4, Gr σ σ4 -> σ4 b5 = some (.cells ⟨[.int .i64 0, .string ⟨⟨[]⟩⟩, .int .i64 0, .bool false]⟩ 142 (0, 0)) -> res = (e, Pl.z) ->
  stW Tryz.prog 142 (.pointer (some ⟨b5, 0, none⟩)) (.agg ⟨[.int .i64 0, .string ⟨⟨[]⟩⟩, .int .i64 0, .bool false]⟩) (rdT (rdA 4 b5 0) (.one (.agg [(.int .i64), .str, (.int .i64), .bool])) (fun (r16 : Int) (r17 : ByteArray) (r18 : Int) (r19 : Bool) =>
   (fun u σ' => u = (.tuple ⟨[.agg ⟨plC res.2⟩, .int .i64 res.1]⟩ : Value) /\ Gr σ σ') (.tuple ⟨[.agg ⟨[.int .i64 r16, .string r17, .int .i64 r18, .bool r19]⟩, .int .i64 e]⟩))) σ4 := by
  intro e σ4 hg h5 he
  (refine st_i2 (by exact gA) szA (by rfl) (by rfl) ?_; intro _ _)
  rename_i σ5 p5
  refine rd_G (rdA_of' p5.same (by rfl)) ?_
  (refine app_of rfl ?_; try dsimp only)
  rw [he]
  exact ⟨rfl, hg.putF p5 n1⟩
 unfold AT.locate at hres
 cases he : sEq path ⟨⟨[]⟩⟩ with
 | true =>
  rw [he] at hres
  refine br_t (by rw [<- sEq_eq]; exact he) ?_
  exact herr 5 σ3 hg3.gr k5 hres.symm
 | false =>
  rw [he] at hres
  refine br_f (by rw [<- sEq_eq]; exact he) ?_
  obtain ⟨c, cr, hl⟩ := sEq_nil he
  have hc47 : ((c.toNat : Int) == 47) = (c == 47) := byte_eq c 47
  have hhd := headIs_cons (c := 47) hl
  simp only [Bool.false_eq_true, if_false] at hres
  refine j_i (fun j => ∀ a σ4, Gr σ σ4 -> FsAt σ4 bf A B -> σ4 b5 = some (.cells ⟨[.int .i64 0, .string ⟨⟨[]⟩⟩, .int .i64 0, .bool false]⟩ 142 (0, 0)) -> σ4 b15 = some (.cells ⟨[.int .i64 8]⟩ 3 (0, 0)) -> res = ((A.walk 10 a path follow 8).1, (A.walk 10 a path follow 8).2.1) -> j (some ⟨bf, 0, none⟩) path follow (some ⟨b5, 0, none⟩) a (some ⟨b15, 0, none⟩) σ4) ?_ ?_
  ·intro a σ4 hg h1 h5 h15 heq
   refine call_i (s_walk 10 h1 a path follow h15 (hF.fresh f15) (by decide) (by decide) (by decide) ?_)
   intro σ5 p5
   have h5' := p5.get n515 h5
   unfold plC
   (refine app_of rfl ?_; try dsimp only)
   (refine st_i2 (by exact gA) szA (by rfl) (by rfl) ?_; intro _ _)
   rename_i σ6 p6
   refine ptr_i (rd_G (rdA_of' p6.same (by rfl)) ?_)
   (refine app_of rfl ?_; try dsimp only)
   rw [heq]
   exact ⟨rfl, (hg.putF p5 f15).putF p6 n1⟩
  ·intro j hj
   refine idx_l (c := c) (by decide) (by rw [hl]; rfl) ?_
   have hc47' : ((c.toNat : Int) != 47) = !(c == 47) := by rw [bne, hc47]
   rw [hc47']
   cases hc : (c == 47) with
   | true =>
    refine br_f rfl (hj 1 σ3 hg3.gr hF3 k5 k15 ?_)
    rw [hhd, hc] at hres; exact hres.symm
   | false =>
    rw [hhd, hc] at hres
    simp only [Bool.false_eq_true, if_false] at hres
    refine br_t rfl (call_i (x_HasPrefix _ _ (app_B ?_)))
    show brW (!([47].isPrefixOf cwd.data.toList)) _ _ _
    rw [prefix_head]
    cases hcw : headIs 47 cwd with
    | false =>
     rw [hcw] at hres
     exact br_t rfl (herr 5 σ3 hg3.gr k5 hres.symm)
    | true =>
     rw [hcw] at hres
     simp only [Bool.true_eq_false, if_false] at hres
     refine br_f rfl (call_i (s_walk 10 hF3 1 cwd true k15 (hF.fresh f15) (by decide) (by decide) (by decide) ?_))
     intro σ5 p5
     have h5' := p5.get n515 k5
     have hF5 := hF3.put p5 (hF.fresh f15)
     have hg5 : Lng σ σ5 := ⟨hg3.gr.putF p5 f15⟩
     have k15' := p5.same
     clear p5
     generalize hw : A.walk 10 1 cwd true 8 = w at *
     obtain ⟨we, wp, wh⟩ := w
     unfold plC
     simp only at *
     (refine app_of rfl ?_; try dsimp only)
     refine al_i ?_; intro b49 σ6 g6 e6 n6
     have f49 : σ b49 = none := none_of hg5.gr n6
     have n549 : b5 ≠ b49 := ne_fr n6 (isSome_of h5')
     have n1549 : b15 ≠ b49 := ne_fr n6 (isSome_of k15')
     (refine st_i2 (by exact gA) szA (by rfl) (by rfl) ?_; intro _ _)
     rename_i σ7 p7
     have h7 := p7.get n549 (g6.get h5')
     have hF7 := (hF5.gr g6).put p7 (hF.fresh f49)
     have hg7 : Lng σ σ7 := ⟨(hg5.gr.trans g6).putF p7 f49⟩
     have k7 := p7.get n1549 (g6.get k15')
     by_cases hwe : we = 0
     case neg =>
      rw [if_pos hwe] at hres
      exact br_t (by simpa using hwe) (herr we σ7 hg7.gr h7 hres.symm)
     subst hwe
     simp only [ne_eq, not_true_eq_false, if_false] at hres
     refine br_f rfl (rd_B (rdC_of p7.same (by rfl)) ?_)
     cases hth : wp.there with
     | false =>
      rw [hth] at hres
      exact br_t rfl (herr 5 σ7 hg7.gr h7 hres.symm)
     | true =>
      rw [hth] at hres
      simp only [Bool.true_eq_false, if_false] at hres
      refine br_f rfl (rd_I (rdC_of p7.same (by rfl)) (call_i (s_kind hF7 _ (app_I ?_))))
      by_cases hk : A.kind wp.ino = 2
      case neg =>
       rw [if_pos hk] at hres
       exact br_t (by simpa using hk) (herr 8 σ7 hg7.gr h7 hres.symm)
      refine br_f (by simpa using hk) (rd_I (rdC_of p7.same (by rfl)) ?_)
      (refine st_i2 (by exact gA) szA (by rfl) (by rfl) ?_; intro _ _)
      rename_i σ8 p8
      refine hj wp.ino σ8 (hg7.gr.putF p8 f15) (hF7.put p8 (hF.fresh f15)) (p8.get n515 h7) p8.same ?_
      rw [if_neg (by simpa using hk)] at hres; exact hres.symm
theorem FsAt.lift {σ σ' : H} {bf bt : Nat} {A' : AT} {B B0 B0' : Nat -> Prop} (q1 : σ bf = some (.cells ⟨[.pointer (some ⟨bt, 0, none⟩)]⟩ 110 (0, 0))) (q3 : ¬ B0 bf) (q4 : ∀ b, B b ↔ (B0 b \/ b = bf)) (hT : TabAt σ' bt A' B0') (hS : Sep σ B0 σ' B0') : ∃ B', FsAt σ' bf A' B' /\ Sep σ B σ' B' := by
 obtain ⟨h1, h2⟩ := hS bf _ q1 q3
 refine ⟨fun b => B0' b \/ b = bf, ⟨bt, B0', h1, hT, h2, fun _ => Iff.rfl⟩, ?_⟩
 intro b o hb hn
 have n0 : ¬ B0 b := fun h => hn ((q4 b).2 (.inl h))
 have nf : b ≠ bf := fun h => hn ((q4 b).2 (.inr h))
 obtain ⟨k1, k2⟩ := hS b o hb n0
 refine ⟨k1, ?_⟩
 rintro (h | h)
 ·exact k2 h
 ·exact nf h
section
variable {σ : H} {bf : Nat} {A : AT} {B : Nat -> Prop}
theorem s_with (hF : FsAt σ bf A B) (cwd path : ByteArray) (follow : Bool) (f : Value) {K : KH}
 (h1 : (A.with_ cwd path follow).1 ≠ 0 -> ∀ σ', Gr σ σ' -> K (.int .i64 (A.with_ cwd path follow).1) σ')
 (h2 : (A.with_ cwd path follow).1 = 0 -> ∀ σ', Gr σ σ' -> cvalT Tryz.prog f [.int .i64 (A.with_ cwd path follow).2.1, .agg ⟨inV (A.with_ cwd path follow).2.2⟩] kI (fun x => K (.int .i64 x)) σ') :
 callW Tryz.prog 69 [.pointer (some ⟨bf, 0, none⟩), .string cwd, .string path, .bool follow, f] K σ := by
 generalize hres : A.with_ cwd path follow = res at h1 h2
 unfold AT.with_ at hres
 refine c69 _ _ _ _ _ ?_
 unfold g69
 refine call_i (s_locate hF cwd path follow ?_)
 generalize A.locate cwd path follow = r at hres
 obtain ⟨re, rp⟩ := r
 simp only at hres
 unfold plC
 (refine app_of rfl ?_; try dsimp only)
 refine al_i ?_; intro b11 σ1 g1 e1 n1
 (refine st_i2 (by exact gA) szA (by rfl) (by rfl) ?_; intro _ _)
 rename_i σ2 p2
 have hg2 : Lng σ σ2 := ⟨g1.putF p2 n1⟩
 have hF2 := (hF.gr g1).put p2 (hF.fresh n1)
 have k11 := p2.same
 clear p2
 by_cases he : re = 0
 case neg =>
  rw [if_pos he] at hres; subst hres
  exact br_t (by simpa using he) (h1 he σ2 hg2.gr)
 subst he
 simp only [ne_eq, not_true_eq_false, if_false] at hres
 refine br_f rfl ?_
 obtain ⟨bt, B0, q1, q2, q3, q4⟩ := id hF2
 (repeat (first|refine ptr_i ?_|refine z2 ?_|(refine al_i ?_;intro _ _ _ _ _)|refine z4 ?_|refine z5 ?_|(refine z6 ?_;intro _ _)|refine app_P ?_|refine app_I ?_|refine app_S ?_|refine app_B ?_|refine app_M ?_|refine app_L ?_|refine app_U ?_|refine app_R ?_|(refine app_of rfl ?_;try dsimp only)))
 refine call_i (t_Node q2 _ ?_)
 unfold inV
 (refine app_of rfl ?_; try dsimp only)
 refine al_i ?_; intro b21 σ3 g3 e3 n3
 have n1121 : b11 ≠ b21 := ne_fr n3 (isSome_of k11)
 (refine st_i2 (by exact gA) szA (by rfl) (by rfl) ?_; intro _ _)
 rename_i σ4 p4
 have hg4 : Lng σ σ4 := ⟨(hg2.gr.trans g3).putF p4 (none_of hg2.gr n3)⟩
 have k11' := p4.get n1121 (g3.get k11)
 have k21 := p4.same
 clear p4 g3 e3
 refine j_i (fun j => ∀ t : Bool, ((t = true /\ res = (5, 0, IN.z)) \/ (t = false /\ res = (0, rp.ino, A.ino rp.ino))) -> j f (some ⟨b11, 0, none⟩) (some ⟨b21, 0, none⟩) t σ4) ?_ ?_
 ·rintro t (⟨rfl, hr⟩ | ⟨rfl, hr⟩)
  ·subst hr
   exact br_t rfl (h1 (by decide) σ4 hg4.gr)
  ·subst hr
   refine br_f rfl (ptr_i (rd_I (rdC_of k11' (by rfl)) (ptr_i (rd_G (rdA_of' k21 (by rfl)) ?_))))
   have := h2 rfl σ4 hg4.gr
   unfold inV at this
   (refine app_of rfl ?_; try dsimp only)
   exact this
 ·intro j hj
  refine rd_B (rdC_of k11' (by rfl)) ?_
  cases hth : rp.there with
  | false =>
   rw [hth] at hres
   exact br_t rfl (hj true (.inl ⟨rfl, hres.symm⟩))
  | true =>
   rw [hth] at hres
   simp only [Bool.true_eq_false, if_false] at hres
   refine br_f rfl (hj _ ?_)
   cases hg : A.get rp.ino with
   | none => rw [hg] at hres; exact .inl ⟨rfl, hres.symm⟩
   | some n =>
    rw [hg] at hres
    refine .inr ⟨rfl, ?_⟩
    rw [<- hres]; unfold AT.ino; rw [hg]; rfl
theorem with_err {cwd path : ByteArray} {follow : Bool} (h : (A.with_ cwd path follow).1 ≠ 0) : (A.with_ cwd path follow).2.2 = IN.z := by
 unfold AT.with_ at h ⊢
 simp only at h ⊢
 split at h
 ·rename_i h1; rw [if_pos h1]
 ·rename_i h1
  rw [if_neg h1]
  split at h
  ·rename_i h2; rw [if_pos h2]
  ·rename_i h2
   rw [if_neg h2]
   split at h
   ·rfl
   ·exact absurd rfl h
theorem go_StatF1 : isGo Tryz.prog 70 = true := by kernel_rfl
theorem go_ListF1 : isGo Tryz.prog 72 = true := by kernel_rfl
theorem go_MkdirF1 : isGo Tryz.prog 101 = true := by kernel_rfl
theorem s_Stat (hF : FsAt σ bf A B) (cwd path : ByteArray) (follow : Bool) {K : KH}
 (hK : K (.tuple ⟨[.agg ⟨inV (A.stat cwd path follow).2⟩, .int .i64 (A.stat cwd path follow).1]⟩) σ) :
 callW Tryz.prog 15 [.pointer (some ⟨bf, 0, none⟩), .string cwd, .string path, .bool follow] K σ := by
 refine pure_i _ hK (c15 _ _ _ _ ?_)
 clear hK
 unfold g15
 unfold AT.stat
 simp only
 refine al_i ?_; intro b5 σ1 g1 e1 n1
 refine call_i (s_with (hF.gr g1) cwd path follow _ ?_ ?_)
 ·intro he σ2 g2
  refine app_I ?_
  rw [with_err he]
  have k5 := g2.get e1
  refine rd_G (rdA_of' k5 (by rfl)) ?_
  (refine app_of rfl ?_; try dsimp only)
  (refine st_i2 (by exact gA) szA (by rfl) (by rfl) ?_; intro _ _)
  rename_i σ3 p3
  refine rd_G (rdA_of' p3.same (by rfl)) ?_
  (refine app_of rfl ?_; try dsimp only)
  exact ⟨rfl, (g1.trans g2).putF p3 n1⟩
 ·intro he σ2 g2
  rw [he]
  generalize (A.with_ cwd path follow).2.2 = n
  have k5 := g2.get e1
  unfold inV
  refine cval_i go_StatF1 (c70 _ _ _ _ _ _ ?_)
  unfold g70
  refine al_i ?_; intro b7 σ3 g3 e3 n3
  refine rd_G (rdA_of' e3 (by rfl)) ?_
  (refine app_of rfl ?_; try dsimp only)
  have k5' := g3.get k5
  (refine st_i2 (by exact gA) szA (by rfl) (by rfl) ?_; intro _ _)
  rename_i σ4 p4
  refine app_I (app_I ?_)
  refine rd_G (rdA_of' p4.same (by rfl)) ?_
  (refine app_of rfl ?_; try dsimp only)
  have k := p4.same
  (refine st_i2 (by exact gA) szA (by rfl) (by rfl) ?_; intro _ _)
  rename_i σ5 p5
  refine rd_G (rdA_of' p5.same (by rfl)) ?_
  (refine app_of rfl ?_; try dsimp only)
  exact ⟨rfl, ((((g1.trans g2).trans g3).putF p4 n1).putF p5 n1)⟩
theorem sz_strs : sizeT Tryz.prog 22 = some 1 := by kernel_rfl
theorem namedE_size {s : ByteArray} (h : namedE s = 0) : s.size <= 56 := by
 unfold namedE at h
 by_cases hl : s.size > 56
 ·rw [if_pos hl] at h; cases h
 ·omega
theorem names_ok {N : Nat} (hI : Inv A) (hB : Bd N A) (hN : N <= 1000000000000) (dir : Int) : ∀ n, A.get dir = some n -> (∀ s ∈ keysL n.ents, s.size <= 1000) /\ n.ents.length <= 1099511627776 := by
 intro n hn
 refine ⟨fun s hs => ?_, by have := hB.ents dir n hn; omega⟩
 cases hl : lk s n.ents with
 | none => exact absurd hs (lk_none_iff.1 hl)
 | some j => have := namedE_size (hI.ent dir n s j hn hl).1; omega
theorem StrSl.gr {σ σ' : H} {x : Sl} {l : List ByteArray} (h : StrSl σ x l) (hg : Gr σ σ') : StrSl σ' x l := by
 obtain ⟨h1, h2⟩ := h
 refine ⟨h1, ?_⟩
 rcases h2 with h2 | ⟨g, cur, e1, e2, e3⟩
 ·exact .inl h2
 ·exact .inr ⟨g, cur, e1, hg.get e2, e3⟩
theorem s_ListR {N : Nat} (hI : Inv A) (hB : Bd N A) (hN : N <= 1000000000000) (hF : FsAt σ bf A B) (cwd path : ByteArray) {K : KH}
 (hK : ∀ x σ', RNew σ σ' 9 1 (strRows (A.listF cwd path).2) x -> K (.tuple ⟨[.slice x.base x.len x.cap, .int .i64 (A.listF cwd path).1]⟩) σ') :
 callW Tryz.prog 17 [.pointer (some ⟨bf, 0, none⟩), .string cwd, .string path] K σ := by
 refine c17 _ _ _ ?_
 unfold g17
 unfold AT.listF at hK
 simp only at hK
 refine al_i ?_; intro b4 σ1 g1 e1 n1
 refine al_i ?_; intro b5 σ2 g2 e2 n2
 have f5 : σ b5 = none := none_of g1 n2
 (repeat (first|refine ptr_i ?_|refine z2 ?_|(refine al_i ?_;intro _ _ _ _ _)|refine z4 ?_|refine z5 ?_|(refine z6 ?_;intro _ _)|refine app_P ?_|refine app_I ?_|refine app_S ?_|refine app_B ?_|refine app_M ?_|refine app_L ?_|refine app_U ?_|refine app_R ?_|(refine app_of rfl ?_;try dsimp only)))
 have nb : ∀ {τ : H} {x : Sl} {l : List ByteArray} {cs : List Value} {t : TypeId} {fz : Nat × Nat}, RowsOwn τ 9 1 (strRows l) x -> τ b5 = some (.cells ⟨cs⟩ t fz) -> t ≠ 9 -> x.base ≠ some ⟨b5, 0, none⟩ := by
  intro τ x l cs t fz h hb ht e
  obtain ⟨_, _, ⟨q, _⟩ | ⟨g, cur, q1, q2, _⟩⟩ := h
  ·rw [q] at e; cases e
  ·rw [q1] at e; cases e; rw [hb] at q2; cases q2; exact ht rfl
 have fin : ∀ σ3 (e : Int) (x : Sl) (l : List ByteArray), Lng σ σ3 -> σ3 b5 = some (.cells ⟨[.slice x.base x.len x.cap]⟩ 22 (0, 0)) -> RNew σ σ3 9 1 (strRows l) x -> (∀ x σ', RNew σ σ' 9 1 (strRows l) x -> K (.tuple ⟨[.slice x.base x.len x.cap, .int .i64 e]⟩) σ') -> (rdT (rdC b5 0) kL (fun (x8 : Sl) =>
      stW Tryz.prog 22 (.pointer (some ⟨b5, 0, none⟩)) (.slice x8.base x8.len x8.cap) (rdT (rdC b5 0) kL (fun (r9 : Sl) =>
       K (.tuple ⟨[.slice r9.base r9.len r9.cap, .int .i64 e]⟩))))) σ3 := by
  intro σ3 e x l hg k hs hk
  refine rd_L (rdC_of k (by rfl)) ?_
  refine st_i2 k sz_strs (by rfl) (by rfl) ?_; intro σ4 p4
  refine rd_L (rdC_of p4.same (by rfl)) ?_
  exact hk x σ4 (hs.putF p4 f5 (nb hs.2.1 k (by decide)))
 refine call_i (s_with ((hF.gr g1).gr g2) cwd path true _ ?_ ?_)
 ·intro he σ3 g3
  refine app_I ?_
  rw [if_pos he] at hK
  exact fin σ3 _ ⟨none, 0, 0⟩ [] ⟨(g1.trans g2).trans g3⟩ (g3.get e2) (RNew.nil' ((g1.trans g2).trans g3) _ _) hK
 ·intro he σ3 g3
  rw [he] at hK
  simp only [ne_eq, not_true_eq_false, if_false] at hK
  have k5 := g3.get e2
  have k4 := (g2.trans g3).get e1
  unfold inV
  refine cval_i go_ListF1 (c72 _ _ _ _ _ _ _ ?_)
  unfold g72
  refine al_i ?_; intro b8 σ4 g4 e4 n4
  refine rd_I (rdC_of e4 (by rfl)) ?_
  by_cases hk : (A.with_ cwd path true).2.2.kind = 2
  case neg =>
   rw [if_pos hk] at hK
   refine br_t (by simpa using hk) (app_I (app_I ?_))
   exact fin σ4 _ ⟨none, 0, 0⟩ [] ⟨((g1.trans g2).trans g3).trans g4⟩ (g4.get k5) (RNew.nil' (((g1.trans g2).trans g3).trans g4) _ _) hK
  rw [if_neg (by simpa using hk)] at hK
  refine br_f (by simpa using hk) ?_
  obtain ⟨bt, B0, q1, q2, q3, q4⟩ := id hF
  have hg4 : Lng σ σ4 := ⟨((g1.trans g2).trans g3).trans g4⟩
  refine ptr_i (rd_P (rdC_of (g4.get k4) (by rfl)) (ptr_i (rd_P (rdC_of (hg4.gr.get q1) (by rfl)) ?_)))
  refine call_i (s_NamesR (q2.gr hg4.gr) _ (names_ok hI hB hN _) ?_)
  intro x σ5 hx
  have g5 := hx.1
  refine app_L ?_
  have k5' := (g4.trans g5).get k5
  refine st_i2 k5' sz_strs (by rfl) (by rfl) ?_; intro σ6 p6
  refine app_I (app_I ?_)
  exact fin σ6 0 x _ ⟨(hg4.gr.trans g5).putF p6 f5⟩ p6.same ((hx.since hg4.gr).putF p6 f5 (nb hx.2.1 k5' (by decide))) hK
end
end Go.Proofs.YtbjbeajbckcecaaGreatDoor

namespace Go.Wk
open Go Go.HL
theorem splitL_mem {c : UInt8} : ∀ {L l : List UInt8}, l ∈ splitL c L -> c ∉ l /\ ∀ x ∈ l, x ∈ L := by
 intro L
 induction L with
 | nil => intro l h; simp [splitL] at h; subst h; simp
 | cons x r ih =>
  intro l h
  unfold splitL at h
  cases hx : (x == c) with
  | true =>
   rw [hx] at h
   simp only [List.mem_cons] at h
   rcases h with e | e
   ·subst e; simp
   ·obtain ⟨h1, h2⟩ := ih e; exact ⟨h1, fun y hy => List.mem_cons_of_mem _ (h2 y hy)⟩
  | false =>
   rw [hx] at h
   have hxc : c ≠ x := by intro e; subst e; simp at hx
   cases hs : splitL c r with
   | nil => rw [hs] at h; simp at h; subst h; exact ⟨by simpa using hxc, by simp⟩
   | cons a t =>
    rw [hs] at h
    simp only [List.mem_cons] at h
    rcases h with e | e
    ·subst e
     obtain ⟨h1, h2⟩ := ih (l := a) (by rw [hs]; simp)
     refine ⟨by simp [hxc, h1], fun y hy => ?_⟩
     rcases List.mem_cons.1 hy with e | e
     ·rw [e]; simp
     ·exact List.mem_cons_of_mem _ (h2 y e)
    ·obtain ⟨h1, h2⟩ := ih (l := l) (by rw [hs]; simp [e]); exact ⟨h1, fun y hy => List.mem_cons_of_mem _ (h2 y hy)⟩
def nameOk (s : ByteArray) : Prop := s ≠ ⟨⟨[]⟩⟩ /\ s ≠ ⟨⟨[46]⟩⟩ /\ badByte s = false
theorem sEq_false {a b : ByteArray} (h : a ≠ b) : sEq a b = false := by
 cases hs : sEq a b with
 | false => rfl
 | true => exact absurd (sEq_iff.1 hs) h
theorem partsB_ok {path : ByteArray} (h : hasNul path = false) : ∀ n ∈ partsB path, nameOk n := by
 intro n hn
 unfold partsB at hn
 rw [List.mem_filter] at hn
 obtain ⟨h1, h2⟩ := hn
 obtain ⟨l, hl, rfl⟩ := List.mem_map.1 h1
 obtain ⟨h3, h4⟩ := splitL_mem hl
 unfold okPart at h2
 simp only [Bool.and_eq_true, Bool.not_eq_true'] at h2
 refine ⟨fun e => ?_, fun e => ?_, ?_⟩
 ·have := h2.1; rw [e] at this; exact absurd this (by decide)
 ·have := h2.2; rw [e] at this; exact absurd this (by decide)
 ·unfold badByte
  rw [List.any_eq_false]
  intro x hx hb
  simp only [Bool.or_eq_true, beq_iff_eq] at hb
  rcases hb with e | e
  ·subst e; exact h3 hx
  ·subst e
   have : hasNul path = true := by unfold hasNul; rw [List.any_eq_true]; exact ⟨0, h4 0 hx, by simp⟩
   rw [h] at this; cases this
theorem mayE_nul {path : ByteArray} (h : mayE path = 0) : hasNul path = false := by
 unfold mayE at h
 cases h1 : sEq path ⟨⟨[]⟩⟩ with
 | true => rw [h1] at h; simp at h
 | false =>
  rw [h1] at h
  by_cases h2 : path.size > 255
  ·simp [h2] at h
  ·cases h3 : hasNul path with
   | false => rfl
   | true => simp [h2, h3] at h
def PlOk (A : AT) (p : Pl) : Prop := A.isDir p.dir /\ ((p.name = ⟨⟨[]⟩⟩ /\ p.there = true /\ p.ino = p.dir) \/ (nameOk p.name /\ p.name ≠ ⟨⟨[46, 46]⟩⟩ /\ p.name.size <= 56 /\ A.find p.dir p.name = if p.there then some p.ino else none))
theorem kind_dir {A : AT} {i : Int} (h : A.kind i = 2) : A.isDir i := by
 unfold AT.kind at h
 cases hn : A.get i with
 | none => rw [hn] at h; simp at h
 | some n => rw [hn] at h; exact ⟨n, hn, by simpa using h⟩
theorem dir_kind {A : AT} {i : Int} (h : A.isDir i) : A.kind i = 2 := by
 obtain ⟨n, h1, h2⟩ := h
 unfold AT.kind; rw [h1]; simpa using h2
theorem PlOk.self {A : AT} {d : Int} (h : A.isDir d) : PlOk A ⟨d, ⟨⟨[]⟩⟩, d, true⟩ := ⟨h, .inl ⟨rfl, rfl, rfl⟩⟩
theorem PlOk.named {A : AT} {p : Pl} (h : PlOk A p) (hn : p.name ≠ ⟨⟨[]⟩⟩) : namedE p.name = 0 /\ A.find p.dir p.name = if p.there then some p.ino else none := by
 obtain ⟨_, h | ⟨⟨a1, a2, a3⟩, a4, a5, a6⟩⟩ := h
 ·exact absurd h.1 hn
 ·refine ⟨?_, a6⟩
  unfold namedE
  rw [if_neg (by omega), sEq_false a1, sEq_false a2, sEq_false a4, a3]; rfl
theorem PlOk.notThere {A : AT} {p : Pl} (h : PlOk A p) (hn : p.there = false) : p.name ≠ ⟨⟨[]⟩⟩ := by
 obtain ⟨_, h | ⟨⟨a1, _⟩, _⟩⟩ := h
 ·rw [h.2.1] at hn; cases hn
 ·exact a1
theorem steps_place {A : AT} (hI : Inv A) {go : Int -> ByteArray -> Int -> Int × Pl × Int} {follow : Bool} (hgo : ∀ d s x, A.isDir d -> (go d s x).1 = 0 -> PlOk A (go d s x).2.1) : ∀ (l : List ByteArray) (p : Pl) (h : Int), (∀ n ∈ l, nameOk n) -> PlOk A p -> (A.steps go follow l p h).1 = 0 -> PlOk A (A.steps go follow l p h).2.1 := by
 intro l
 induction l with
 | nil => intro p h _ hp _; exact hp
 | cons n r ih =>
  intro p h hl hp he
  have hl' : ∀ n ∈ r, nameOk n := fun m hm => hl m (List.mem_cons_of_mem _ hm)
  cases h1 : p.there with
  | false => rw [steps_none h1] at he; cases he
  | true =>
   by_cases h2 : A.kind p.ino = 2
   case neg => rw [steps_notdir h1 h2] at he; cases he
   have hd := kind_dir h2
   cases h3 : sEq n ⟨⟨[46, 46]⟩⟩ with
   | true =>
    rw [steps_up h1 h2 h3] at he ⊢
    exact ih _ h hl' (PlOk.self (hI.isDir_up hd)) he
   | false =>
    by_cases h4 : n.size > 56
    ·rw [steps_long h1 h2 h3 h4] at he; cases he
    by_cases h5 : (A.find p.ino n).isSome = false \/ (r.isEmpty && !follow) = true \/ A.kind ((A.find p.ino n).getD 0) ≠ 3
    ·rw [steps_name h1 h2 h3 h4 h5] at he ⊢
     refine ih _ h hl' ⟨hd, .inr ⟨hl n (List.mem_cons_self ..), fun e => ?_, by show n.size <= 56; omega, ?_⟩⟩ he
     ·have e : n = ⟨⟨[46, 46]⟩⟩ := e
      rw [e] at h3; exact absurd h3 (by decide)
     ·show A.find p.ino n = _
      cases A.find p.ino n <;> rfl
    by_cases h6 : h - 1 < 0
    ·rw [steps_loop h1 h2 h3 h4 h5 h6] at he; cases he
    by_cases h7 : (go p.ino (A.data ((A.find p.ino n).getD 0)) (h - 1)).1 = 0
    ·rw [steps_link h1 h2 h3 h4 h5 h6 h7] at he ⊢
     exact ih _ _ hl' (hgo _ _ _ hd h7) he
    ·rw [steps_err h1 h2 h3 h4 h5 h6 h7] at he; exact absurd he h7
theorem walk_place {A : AT} (hI : Inv A) : ∀ (f : Nat) (d : Int) (s : ByteArray) (fo : Bool) (h : Int), A.isDir d -> (A.walk f d s fo h).1 = 0 -> PlOk A (A.walk f d s fo h).2.1 := by
 intro f
 induction f with
 | zero => intro d s fo h _ he; cases he
 | succ f ih =>
  intro d s fo h hd he
  rw [AT.walk] at he ⊢
  by_cases hm : mayE s = 0
  case neg => rw [if_pos hm] at he; exact absurd he hm
  rw [if_neg (by simpa using hm)] at he ⊢
  refine steps_place hI (fun d s x hd he => ih d s true x hd he) _ _ _ (partsB_ok (mayE_nul hm)) (PlOk.self ?_) he
  cases headIs 47 s with
  | true => exact hI.root_dir
  | false => exact hd
theorem locate_place {A : AT} (hI : Inv A) (cwd path : ByteArray) (follow : Bool) (he : (A.locate cwd path follow).1 = 0) : PlOk A (A.locate cwd path follow).2 := by
 unfold AT.locate at he ⊢
 cases h1 : sEq path ⟨⟨[]⟩⟩ with
 | true => rw [h1] at he; simp at he
 | false =>
  rw [h1] at he
  simp only [Bool.false_eq_true, if_false] at he ⊢
  cases h2 : headIs 47 path with
  | true => rw [h2] at he; exact walk_place hI 10 1 path follow 8 hI.root_dir he
  | false =>
   rw [h2] at he
   simp only [Bool.false_eq_true, if_false] at he ⊢
   cases h3 : headIs 47 cwd with
   | false => rw [h3] at he; simp at he
   | true =>
    rw [h3] at he
    simp only [Bool.true_eq_false, if_false] at he ⊢
    by_cases h4 : (A.walk 10 1 cwd true 8).1 = 0
    case neg => rw [if_pos h4] at he; exact absurd he h4
    rw [if_neg (by simpa using h4)] at he ⊢
    cases h5 : (A.walk 10 1 cwd true 8).2.1.there with
    | false => rw [h5] at he; simp at he
    | true =>
     rw [h5] at he
     simp only [Bool.true_eq_false, if_false] at he ⊢
     by_cases h6 : A.kind (A.walk 10 1 cwd true 8).2.1.ino = 2
     case neg => rw [if_pos h6] at he; simp at he
     rw [if_neg (by simpa using h6)] at he ⊢
     exact walk_place hI 10 _ path follow 8 (kind_dir h6) he
theorem PlOk.get {A : AT} (hI : Inv A) {p : Pl} (h : PlOk A p) (ht : p.there = true) : ∃ n, A.get p.ino = some n := by
 obtain ⟨hd, h | ⟨_, _, _, h⟩⟩ := h
 ·obtain ⟨n, hn, _⟩ := hd; rw [h.2.2]; exact ⟨n, hn⟩
 ·rw [ht] at h
  obtain ⟨_, _, _, _, _, m, hm, _⟩ := hI.find h
  exact ⟨m, hm⟩
theorem Inv.deep13 {A : AT} (hI : Inv A) {d : Int} (h : A.isDir d) : ∃ x, A.deep 13 d = some x /\ A.deep 12 d = some x /\ 1 <= x /\ x <= 12 := by
 obtain ⟨x, hx⟩ := hI.deep d h
 exact ⟨x, deep_mono hx, hx, deep_bound hx⟩
end Go.Wk

set_option maxRecDepth 100000
namespace Go.Proofs.YtbjbeajbckcecaaGreatDoor
open Go Go.HL Go.Wk
attribute [local irreducible] ptrW ifW brW andW rdT alW letJ stW muW biW vaW imW callT cvalT app callW invW callVW sizeT oW nilF oneK loopW rfW funW begW roundK exW idxW Gr Put
theorem s_New (qi qb : Int) {σ : H} {K : KH} (hN : newOk qi qb = false -> K (.pointer none) σ)
 (hK : newOk qi qb = true -> ∀ bf σ' B', FsAt σ' bf (newT qi qb) B' -> Gr σ σ' -> (∀ b, B' b -> σ b = none) -> K (.pointer (some ⟨bf, 0, none⟩)) σ') :
 callW Tryz.prog 31 [.agg ⟨[.int .i64 qi, .int .i64 qb]⟩] K σ := by
 refine callW.drop (K' := fun v σ' => (newOk qi qb = false /\ v = .pointer none /\ Gr σ σ') \/ (newOk qi qb = true /\ K v σ')) ?_ ?_
 case refine_2 =>
  rintro v σ' (⟨h1, h2, h3⟩ | ⟨h1, h2⟩)
  ·exact ⟨σ, h3, h2 ▸ hN h1⟩
  ·exact ⟨σ', Gr.refl _, h2⟩
 refine c31 _ _ ?_
 unfold g31
 refine al_i ?_; intro b3 σ1 g1 e1 n1
 refine rd_G (rdA_of' e1 (by rfl)) ?_
 (refine app_of rfl ?_; try dsimp only)
 refine call_i (s_NewT qi qb ?_ ?_)
 ·intro h
  exact app_P (br_t rfl (.inl ⟨h, rfl, g1⟩))
 ·intro h bt σ2 B' hbt hT g2 hfr
  refine app_P (br_f rfl ?_)
  refine al_i ?_; intro b7 σ3 g3 e3 n3
  refine .inr ⟨h, hK h b7 σ3 (fun b => B' b \/ b = b7) ⟨bt, B', e3, hT.gr g3, hT.fresh n3, fun _ => Iff.rfl⟩ ((g1.trans g2).trans g3) ?_⟩
  rintro b (hb | rfl)
  ·exact none_of g1 (hfr b hb)
  ·exact none_of (g1.trans g2) n3
section
variable {σ : H} {bf : Nat} {A : AT} {B : Nat -> Prop}
theorem s_deep (hF : FsAt σ bf A B) {dir d : Int} {f : Nat} (hd : A.deep f dir = some d) (hf : f <= 1000) {K : KH} (hK : K (.int .i64 d) σ) : callW Tryz.prog 102 [.pointer (some ⟨bf, 0, none⟩), .int .i64 dir] K σ := by
 obtain ⟨bt, B0, q1, q2, q3, q4⟩ := id hF
 refine c102 _ _ ?_
 unfold g102
 refine loop_i ?_
 intro R hR
 have key : ∀ (f : Nat) (dir d n : Int), A.deep f dir = some d -> 1 <= n -> n + f <= 2000 -> K (.int .i64 (n + d - 1)) σ -> R (some ⟨bf, 0, none⟩) dir n σ := by
  intro f
  induction f with
  | zero => intro dir d n h; cases h
  | succ f ih =>
   intro dir d n h h1 h2 hk
   refine hR _ _ _ _ ?_
   (repeat (first|refine ptr_i ?_|refine z2 ?_|(refine al_i ?_;intro _ _ _ _ _)|refine z4 ?_|refine z5 ?_|(refine z6 ?_;intro _ _)|refine app_P ?_|refine app_I ?_|refine app_S ?_|refine app_B ?_|refine app_M ?_|refine app_L ?_|refine app_U ?_|refine app_R ?_|(refine app_of rfl ?_;try dsimp only)))
   refine call_i (s_Root _ (app_I ?_))
   unfold AT.deep at h
   by_cases e : dir = 1
   ·rw [if_pos e] at h; cases h
    refine br_f (by simpa using e) ?_
    have : n + 1 - 1 = n := by omega
    rw [this] at hk; exact hk
   ·rw [if_neg e] at h
    refine br_t (by simpa using e) ?_
    (repeat (first|refine ptr_i ?_|refine z2 ?_|(refine al_i ?_;intro _ _ _ _ _)|refine z4 ?_|refine z5 ?_|(refine z6 ?_;intro _ _)|refine app_P ?_|refine app_I ?_|refine app_S ?_|refine app_B ?_|refine app_M ?_|refine app_L ?_|refine app_U ?_|refine app_R ?_|(refine app_of rfl ?_;try dsimp only)))
    refine call_i (t_Up q2 _ (app_I ?_))
    cases hx : A.deep f (A.upOf dir) with
    | none => rw [hx] at h; cases h
    | some x =>
     rw [hx] at h
     simp only [Option.map_some, Option.some.injEq] at h
     subst h
     rw [wrap_id (by omega) (by omega)]
     refine ih _ x (n + 1) hx (by omega) (by omega) ?_
     have : n + 1 + x - 1 = n + (x + 1) - 1 := by omega
     rw [this]; exact hk
 refine key f dir d 1 hd (by omega) (by omega) ?_
 have : 1 + d - 1 = d := by omega
 rw [this]; exact hK
theorem s_fresh (hF : FsAt σ bf A B) (cwd path : ByteArray) (f : Value) {K : KH}
 (h1 : (A.freshP cwd path).1 ≠ 0 -> ∀ σ', Gr σ σ' -> K (.int .i64 (A.freshP cwd path).1) σ')
 (h2 : (A.freshP cwd path).1 = 0 -> ∀ σ', Gr σ σ' -> cvalT Tryz.prog f [.agg ⟨plC (A.freshP cwd path).2⟩] kI (fun x => K (.int .i64 x)) σ') :
 callW Tryz.prog 94 [.pointer (some ⟨bf, 0, none⟩), .string cwd, .string path, f] K σ := by
 generalize hres : A.freshP cwd path = res at h1 h2
 unfold AT.freshP at hres
 refine c94 _ _ _ _ ?_
 unfold g94
 refine call_i (s_locate hF cwd path false ?_)
 generalize A.locate cwd path false = r at hres
 obtain ⟨re, rp⟩ := r
 simp only at hres
 unfold plC
 (refine app_of rfl ?_; try dsimp only)
 refine al_i ?_; intro b10 σ1 g1 e1 n1
 (refine st_i2 (by exact gA) szA (by rfl) (by rfl) ?_; intro _ _)
 rename_i σ2 p2
 have hg2 : Lng σ σ2 := ⟨g1.putF p2 n1⟩
 have k := p2.same
 by_cases he : re = 0
 case neg =>
  rw [if_pos he] at hres; subst hres
  exact br_t (by simpa using he) (h1 he σ2 hg2.gr)
 subst he
 simp only [ne_eq, not_true_eq_false, if_false] at hres
 refine br_f rfl (rd_B (rdC_of k (by rfl)) ?_)
 cases hth : rp.there with
 | true =>
  rw [hth] at hres
  simp only [if_true] at hres; subst hres
  exact br_t rfl (h1 (by decide) σ2 hg2.gr)
 | false =>
  rw [hth] at hres
  simp only [Bool.false_eq_true, if_false] at hres; subst hres
  refine br_f rfl (rd_G (rdA_of' k (by rfl)) ?_)
  have := h2 rfl σ2 hg2.gr
  unfold plC at this
  (refine app_of rfl ?_; try dsimp only)
  exact this
theorem freshP_ok (hI : Inv A) {cwd path : ByteArray} (h : (A.freshP cwd path).1 = 0) : PlOk A (A.freshP cwd path).2 /\ (A.freshP cwd path).2.there = false := by
 unfold AT.freshP at h ⊢
 simp only at h ⊢
 by_cases he : (A.locate cwd path false).1 = 0
 case neg => rw [if_pos he] at h; exact absurd h he
 rw [if_neg (by simpa using he)] at h ⊢
 cases ht : (A.locate cwd path false).2.there with
 | true => rw [ht] at h; simp at h
 | false => exact ⟨locate_place hI _ _ _ he, ht⟩
theorem f_Make {N : Nat} (hI : Inv A) (hB : Bd N A) (hN : N <= 1000000000000) {bt : Nat} {B0 : Nat -> Prop} (q1 : σ bf = some (.cells ⟨[.pointer (some ⟨bt, 0, none⟩)]⟩ 110 (0, 0))) (q2 : TabAt σ bt A B0) (q3 : ¬ B0 bf) (q4 : ∀ b, B b ↔ (B0 b \/ b = bf)) (dir : Int) (name : ByteArray) (kind mode : Int) (data : ByteArray) {K : KH}
 (hK : ∀ σ' B', FsAt σ' bf (A.makeR dir name kind mode data).2.2 B' -> Sep σ B σ' B' -> K (.tuple ⟨[.int .i64 (A.makeR dir name kind mode data).1, .int .i64 (A.makeR dir name kind mode data).2.1]⟩) σ') :
 callW Tryz.prog 96 [.pointer (some ⟨bt, 0, none⟩), .int .i64 dir, .string name, .int .i64 kind, .int .i64 mode, .string data] K σ := by
 refine s_Make iByte cAny q2 dir name kind mode data ?_ ?_
 ·have := hB.last
  have := hI.last_pos
  rw [wr_id (by omega) (by omega)]
  exact hI.fresh (by omega)
 ·intro σ' B' hT hS
  obtain ⟨B1, h1, h2⟩ := FsAt.lift q1 q3 q4 hT hS
  exact hK σ' B1 h1 h2
theorem s_Mkdir {N : Nat} (hI : Inv A) (hB : Bd N A) (hN : N <= 1000000000000) (hF : FsAt σ bf A B) (cwd path : ByteArray) {K : KH}
 (hK : ∀ σ' B', FsAt σ' bf (A.mkdirF cwd path).2 B' -> Sep σ B σ' B' -> K (.int .i64 (A.mkdirF cwd path).1) σ') :
 callW Tryz.prog 48 [.pointer (some ⟨bf, 0, none⟩), .string cwd, .string path] K σ := by
 refine c48 _ _ _ ?_
 unfold g48
 unfold AT.mkdirF at hK
 simp only at hK
 refine al_i ?_; intro b4 σ1 g1 e1 n1
 (repeat (first|refine ptr_i ?_|refine z2 ?_|(refine al_i ?_;intro _ _ _ _ _)|refine z4 ?_|refine z5 ?_|(refine z6 ?_;intro _ _)|refine app_P ?_|refine app_I ?_|refine app_S ?_|refine app_B ?_|refine app_M ?_|refine app_L ?_|refine app_U ?_|refine app_R ?_|(refine app_of rfl ?_;try dsimp only)))
 refine call_i (s_fresh (hF.gr g1) cwd path _ ?_ ?_)
 ·intro he σ2 g2
  refine app_I ?_
  rw [if_pos he] at hK
  exact hK σ2 B ((hF.gr g1).gr g2) (Sep.gr (g1.trans g2))
 ·intro he σ2 g2
  rw [if_neg (by simpa using he)] at hK
  obtain ⟨⟨hd, hp⟩, ht⟩ := freshP_ok hI he
  generalize (A.freshP cwd path).2 = p at *
  unfold plC
  refine cval_i go_MkdirF1 (c101 _ _ _ _ _ ?_)
  unfold g101
  refine al_i ?_; intro b6 σ3 g3 e3 n3
  have hg3 : Lng σ σ3 := ⟨(g1.trans g2).trans g3⟩
  have k4 := (g2.trans g3).get e1
  have hF3 := hF.gr hg3.gr
  refine ptr_i (rd_P (rdC_of k4 (by rfl)) (rd_I (rdC_of e3 (by rfl)) ?_))
  obtain ⟨d, hd13, _, hd1, hd2⟩ := hI.deep13 hd
  rw [hd13] at hK
  simp only [Option.getD_some] at hK
  refine call_i (s_deep hF3 hd13 (by decide) (app_I ?_))
  by_cases hdd : d >= 12
  ·rw [if_pos hdd] at hK
   exact br_t (by simpa using hdd) (app_I (app_I (hK σ3 B hF3 (Sep.gr hg3.gr))))
  ·rw [if_neg hdd] at hK
   obtain ⟨bt, B0, q1, q2, q3, q4⟩ := id hF3
   refine br_f (by simpa using hdd) (ptr_i (rd_P (rdC_of k4 (by rfl)) (ptr_i (rd_P (rdC_of q1 (by rfl)) (rd_I (rdC_of e3 (by rfl)) (rd_S (rdC_of e3 (by rfl)) ?_))))))
   refine call_i (f_Make hI hB hN q1 q2 q3 q4 _ _ _ _ _ ?_)
   intro σ4 B4 hF4 hS
   exact app_II (app_I (app_I (hK σ4 B4 hF4 (hS.of_gr hg3.gr))))
theorem s_Write {N : Nat} (hI : Inv A) (hB : Bd N A) (hN : N <= 1000000000000) (hF : FsAt σ bf A B) (cwd path data : ByteArray) (more : Bool) (hd : data.size <= 1000000000000000) {K : KH}
 (hK : ∀ σ' B', FsAt σ' bf (A.writeF cwd path data more).2 B' -> Sep σ B σ' B' -> K (.int .i64 (A.writeF cwd path data more).1) σ') :
 callW Tryz.prog 47 [.pointer (some ⟨bf, 0, none⟩), .string cwd, .string path, .string data, .bool more] K σ := by
 refine c47 _ _ _ _ _ ?_
 unfold g47
 unfold AT.writeF at hK
 simp only at hK
 refine call_i (s_locate hF cwd path true ?_)
 generalize A.locate cwd path true = r at hK
 obtain ⟨re, p⟩ := r
 simp only at hK
 unfold plC
 (refine app_of rfl ?_; try dsimp only)
 refine al_i ?_; intro b11 σ1 g1 e1 n1
 (refine st_i2 (by exact gA) szA (by rfl) (by rfl) ?_; intro _ _)
 rename_i σ2 p2
 have hg2 : Lng σ σ2 := ⟨g1.putF p2 n1⟩
 have hF2 := hF.gr hg2.gr
 have k := p2.same
 clear p2
 by_cases he : re = 0
 case neg =>
  rw [if_pos he] at hK
  exact br_t (by simpa using he) (hK σ2 B hF2 (Sep.gr hg2.gr))
 subst he
 simp only [ne_eq, not_true_eq_false, if_false] at hK
 refine br_f rfl (rd_B (rdC_of k (by rfl)) ?_)
 obtain ⟨bt, B0, q1, q2, q3, q4⟩ := id hF2
 cases hth : p.there with
 | false =>
  rw [hth] at hK
  simp only [if_true] at hK
  refine br_t rfl (ptr_i (rd_P (rdC_of q1 (by rfl)) (rd_I (rdC_of k (by rfl)) (rd_S (rdC_of k (by rfl)) ?_))))
  refine call_i (f_Make hI hB hN q1 q2 q3 q4 _ _ _ _ _ ?_)
  intro σ3 B3 hF3 hS
  exact app_II (hK σ3 B3 hF3 (hS.of_gr hg2.gr))
 | true =>
  rw [hth] at hK
  simp only [Bool.true_eq_false, if_false] at hK
  refine br_f rfl (ptr_i (rd_P (rdC_of q1 (by rfl)) (rd_I (rdC_of k (by rfl)) ?_)))
  refine call_i (t_Node q2 _ ?_)
  unfold inV
  (refine app_of rfl ?_; try dsimp only)
  refine al_i ?_; intro b29 σ3 g3 e3 n3
  have n1129 : b11 ≠ b29 := ne_fr n3 (isSome_of k)
  (refine st_i2 (by exact gA) szA (by rfl) (by rfl) ?_; intro _ _)
  rename_i σ4 p4
  have hg4 : Lng σ σ4 := ⟨(hg2.gr.trans g3).putF p4 (none_of hg2.gr n3)⟩
  have k' := p4.get n1129 (g3.get k)
  have k29 := p4.same
  clear p4
  refine rd_I (rdC_of k29 (by rfl)) ?_
  rw [ino_kind]
  by_cases hk2 : A.kind p.ino = 2
  ·rw [if_pos hk2] at hK
   exact br_t (by simpa using hk2) (hK σ4 B (hF.gr hg4.gr) (Sep.gr hg4.gr))
  ·rw [if_neg hk2] at hK
   refine br_f (by simpa using hk2) ?_
   obtain ⟨bt, B0, q1, q2, q3, q4⟩ := hF.gr hg4.gr
   refine j_i (fun j => j (some ⟨bf, 0, none⟩) (if more then A.data p.ino ++ data else data) (some ⟨b11, 0, none⟩) σ4) ?_ ?_
   ·refine ptr_i (rd_P (rdC_of q1 (by rfl)) (ptr_i (rd_I (rdC_of k' (by rfl)) ?_)))
    refine call_i (s_WriteT q2 _ _ ?_)
    intro σ5 B5 hT hS
    obtain ⟨B6, h1, h2⟩ := FsAt.lift q1 q3 q4 hT hS
    exact app_I (hK σ5 B6 h1 (h2.of_gr hg4.gr))
   ·intro j hj
    cases more with
    | false => exact br_f rfl hj
    | true =>
     refine br_t rfl (rd_S (rdC_of k29 (by rfl)) ?_)
     rw [ino_data]
     refine if_i ?_ hj
     have hsz : (A.data p.ino).size <= 1073741824 := by
      unfold AT.data
      cases hg : A.get p.ino with
      | none => decide
      | some n =>
       have h1 := hI.size_le hg
       have h2 := hI.bq
       show n.data.size <= _
       omega
     show (A.data p.ino).size + data.size <= _
     omega
end
end Go.Proofs.YtbjbeajbckcecaaGreatDoor

namespace Go.Wk
open Go Go.HL
inductive Tr where
 | mk (name : ByteArray) (kind : Int) (exec : Bool) (data : ByteArray) (kids : List Tr)
def Tr.name : Tr -> ByteArray | .mk n _ _ _ _ => n
def Tr.kind : Tr -> Int | .mk _ k _ _ _ => k
def Tr.exec : Tr -> Bool | .mk _ _ e _ _ => e
def Tr.data : Tr -> ByteArray | .mk _ _ _ d _ => d
def Tr.kids : Tr -> List Tr | .mk _ _ _ _ l => l
def gr (d x : Int) : Int := if x > d then x else d
def Tr.deep : Nat -> Tr -> Int
 | 0, _ => 1
 | m + 1, t => if t.kind ≠ 2 \/ m = 0 then 1 else t.kids.foldl (fun d x => gr d (1 + Tr.deep m x)) 1
def Tr.tooDeep (t : Tr) : Bool := decide (t.deep 14 > 12)
def mayName (s : ByteArray) : Bool := decide (1 <= s.size) && (decide (s.size <= 56) && (!badByte s && (!sEq s ⟨⟨[46]⟩⟩ && !sEq s ⟨⟨[46, 46]⟩⟩)))
def ltB (a b : ByteArray) : Bool := !leB b.data.toList a.data.toList
mutual
def Tr.size : Tr -> Int × Int
 | .mk _ _ _ d kids => Tr.sizeRow kids (1, d.size)
def Tr.sizeRow : List Tr -> Int × Int -> Int × Int
 | [], a => a
 | t :: r, a => Tr.sizeRow r (if t.tooDeep = true then a else (a.1 + (Tr.size t).1, a.2 + (Tr.size t).2))
end
mutual
def Tr.total : Tr -> Nat
 | .mk n _ _ d kids => 1 + n.size + d.size + Tr.totalRow kids
def Tr.totalRow : List Tr -> Nat
 | [] => 0
 | t :: r => Tr.total t + Tr.totalRow r
end
mutual
def Tr.levels : Tr -> Int
 | .mk _ k _ _ kids => if k ≠ 2 then 0 else Tr.levelsRow kids 0 + 1
def Tr.levelsRow : List Tr -> Int -> Int
 | [], a => a
 | t :: r, a => Tr.levelsRow r (gr a (Tr.levels t))
end
theorem Tr.total_kid {t : Tr} {x : Tr} (h : x ∈ t.kids) : x.total < t.total := by
 obtain ⟨nm, k, e, d, kids⟩ := t
 have key : ∀ l : List Tr, x ∈ l -> x.total <= Tr.totalRow l := by
  intro l
  induction l with
  | nil => intro h; simp at h
  | cons y r ih =>
   intro h
   simp only [Tr.totalRow]
   rcases List.mem_cons.1 h with e | e
   ·subst e; omega
   ·have := ih e; omega
 have := key kids h
 simp only [Tr.total]; omega
theorem Tr.ind {P : Tr -> Prop} (h : ∀ t, (∀ x ∈ t.kids, P x) -> P t) (t : Tr) : P t := by
 have key : ∀ (n : Nat) (t : Tr), t.total < n -> P t := by
  intro n
  induction n with
  | zero => intro t h; omega
  | succ n ih => intro t ht; exact h t fun x hx => ih x (by have := Tr.total_kid hx; omega)
 exact key _ t (Nat.lt_succ_self _)
end Go.Wk

set_option maxRecDepth 100000
namespace Go.Proofs.YtbjbeajbckcecaaGreatDoor
open Go Go.HL Go.Wk
attribute [local irreducible] ptrW ifW brW andW rdT alW letJ stW muW biW vaW imW callT cvalT app callW invW callVW sizeT oW nilF oneK loopW rfW funW begW roundK exW idxW Gr Put
mutual
def TrAt (σ : H) : Tr -> List Value -> Prop
 | .mk n k e d kids, cs => ∃ x : Sl, cs = [.string n, .int .i64 k, .bool e, .string d, .slice x.base x.len x.cap] /\ x.len = kids.length /\ (kids = [] \/ ∃ g o cur t fz, x.base = some ⟨g, o, none⟩ /\ σ g = some (.cells ⟨cur⟩ t fz) /\ RowAt σ kids (cur.drop o))
def RowAt (σ : H) : List Tr -> List Value -> Prop
 | [], _ => True
 | t :: r, cs => TrAt σ t (cs.take 5) /\ RowAt σ r (cs.drop 5)
end
def SlAt (σ : H) (kids : List Tr) (x : Sl) : Prop := x.len = kids.length /\ (kids = [] \/ ∃ g o cur t fz, x.base = some ⟨g, o, none⟩ /\ σ g = some (.cells ⟨cur⟩ t fz) /\ RowAt σ kids (cur.drop o))
def trC (t : Tr) (x : Sl) : List Value := [.string t.name, .int .i64 t.kind, .bool t.exec, .string t.data, .slice x.base x.len x.cap]
theorem trAt_iff {σ : H} {t : Tr} {cs : List Value} : TrAt σ t cs ↔ ∃ x, cs = trC t x /\ SlAt σ t.kids x := by
 obtain ⟨n, k, e, d, kids⟩ := t
 simp only [TrAt, trC, SlAt, Tr.name, Tr.kind, Tr.exec, Tr.data, Tr.kids]
theorem gr_both {σ σ' : H} (hg : Gr σ σ') : ∀ t : Tr, ∀ cs, TrAt σ t cs -> TrAt σ' t cs := by
 refine Tr.ind ?_
 intro t ih cs h
 rw [trAt_iff] at h ⊢
 obtain ⟨x, h1, h2, h3⟩ := h
 refine ⟨x, h1, h2, ?_⟩
 rcases h3 with h3 | ⟨g, o, cur, ty, fz, h3, h4, h5⟩
 ·exact .inl h3
 ·refine .inr ⟨g, o, cur, ty, fz, h3, hg.get h4, ?_⟩
  generalize cur.drop o = cs at h5
  clear h4 h3 h2 h1
  generalize t.kids = l at *
  induction l generalizing cs with
  | nil => trivial
  | cons y r ihr =>
   simp only [RowAt] at h5 ⊢
   exact ⟨ih y (List.mem_cons_self ..) _ h5.1, ihr _ (fun z hz => ih z (List.mem_cons_of_mem _ hz)) h5.2⟩
theorem rowAt_gr {σ σ' : H} (hg : Gr σ σ') : ∀ {l : List Tr} {cs : List Value}, RowAt σ l cs -> RowAt σ' l cs := by
 intro l
 induction l with
 | nil => intro _ _; trivial
 | cons y r ih => intro cs h; simp only [RowAt] at h ⊢; exact ⟨gr_both hg y _ h.1, ih h.2⟩
theorem SlAt.gr {σ σ' : H} {kids : List Tr} {x : Sl} (h : SlAt σ kids x) (hg : Gr σ σ') : SlAt σ' kids x := by
 obtain ⟨h1, h2 | ⟨g, o, cur, ty, fz, h3, h4, h5⟩⟩ := h
 ·exact ⟨h1, .inl h2⟩
 ·exact ⟨h1, .inr ⟨g, o, cur, ty, fz, h3, hg.get h4, rowAt_gr hg h5⟩⟩
theorem SlAt.nil {σ : H} {b : Option Addr} {c : Nat} : SlAt σ [] ⟨b, 0, c⟩ := ⟨rfl, .inl rfl⟩
theorem strLt_eq (a b : ByteArray) : strLt a b = ltB a b := by
 unfold strLt ltB
 rw [ByteArray.toList_eq, ByteArray.toList_eq]
 generalize a.data.toList = x
 generalize b.data.toList = y
 induction x generalizing y with
 | nil => cases y <;> simp [Op.bytesLess, Wk.leB]
 | cons c r ih =>
  cases y with
  | nil => simp [Op.bytesLess, Wk.leB]
  | cons d s =>
   simp only [Op.bytesLess, Wk.leB, ih s]
   by_cases h1 : c < d
   ·have : Nat.blt c.toNat d.toNat = true := by rw [Nat.blt_eq]; exact h1
    have h2 : Nat.blt d.toNat c.toNat = false := by
     rw [<- Bool.not_eq_true, Nat.blt_eq]; have : c.toNat < d.toNat := h1; omega
    simp [h1, this, h2]
   ·have n1 : Nat.blt c.toNat d.toNat = false := by rw [<- Bool.not_eq_true, Nat.blt_eq]; exact h1
    by_cases h2 : d < c
    ·have : Nat.blt d.toNat c.toNat = true := by rw [Nat.blt_eq]; exact h2
     have h3 : (c == d) = false := by
      simp only [beq_eq_false_iff_ne]; intro e; subst e; exact h1 h2
     simp [h1, this, h3]
    ·have n2 : Nat.blt d.toNat c.toNat = false := by rw [<- Bool.not_eq_true, Nat.blt_eq]; exact h2
     have : c = d := UInt8.le_antisymm (UInt8.not_lt.1 h2) (UInt8.not_lt.1 h1)
     subst this
     simp [n1]
section
variable {σ : H} {b6 : Nat} {t : Tr} {y : Sl} {ty : TypeId}
end
end Go.Proofs.YtbjbeajbckcecaaGreatDoor

namespace Go.Wk
open Go Go.HL
structure Grows (A A' : AT) : Prop where
 get : ∀ i n, A.get i = some n -> ∃ m, A'.get i = some m /\ m.kind = n.kind /\ m.up = n.up /\ m.mode = n.mode /\ m.data = n.data /\ m.links = n.links /\ ∀ s j, lk s n.ents = some j -> lk s m.ents = some j
 last : A.last <= A'.last
 qi : A'.qi = A.qi
 qb : A'.qb = A.qb
theorem Grows.refl (A : AT) : Grows A A := ⟨fun i n h => ⟨n, h, rfl, rfl, rfl, rfl, rfl, fun _ _ h => h⟩, Int.le_refl _, rfl, rfl⟩
theorem Grows.trans {A B C : AT} (h : Grows A B) (k : Grows B C) : Grows A C := by
 refine ⟨fun i n hn => ?_, Int.le_trans h.last k.last, by rw [k.qi, h.qi], by rw [k.qb, h.qb]⟩
 obtain ⟨m, h1, h2, h3, h4, h5, h6, h7⟩ := h.get i n hn
 obtain ⟨m', k1, k2, k3, k4, k5, k6, k7⟩ := k.get i m h1
 exact ⟨m', k1, by rw [k2, h2], by rw [k3, h3], by rw [k4, h4], by rw [k5, h5], by rw [k6, h6], fun s j hs => k7 s j (h7 s j hs)⟩
section
variable {A A' : AT}
theorem Grows.isDir (h : Grows A A') {k : Int} (hk : A.isDir k) : A'.isDir k := by
 obtain ⟨n, h1, h2⟩ := hk
 obtain ⟨m, h3, h4, _⟩ := h.get k n h1
 exact ⟨m, h3, by rw [h4, h2]⟩
theorem Grows.deep (h : Grows A A') (hI : Inv A) (f : Nat) {k : Int} (hk : A.isDir k) : A'.deep f k = A.deep f k := by
 refine deep_same hI ?_ f k hk
 rintro k ⟨n, h1, _⟩
 obtain ⟨m, h3, _, h5, _⟩ := h.get k n h1
 unfold AT.upOf; rw [h1, h3]; simp [h5]
theorem Grows.find (h : Grows A A') {d : Int} {s : ByteArray} {j : Int} (hf : A.find d s = some j) : A'.find d s = some j := by
 unfold AT.find at hf ⊢
 cases hn : A.get d with
 | none => rw [hn] at hf; cases hf
 | some n =>
  rw [hn] at hf
  obtain ⟨m, h1, _, _, _, _, _, h7⟩ := h.get d n hn
  rw [h1]; exact h7 s j hf
variable {dir : Int} {name : ByteArray} {kind mode : Int} {data : ByteArray}
theorem made_grows (h : Inv A) (hl : A.last < 4611686018427387904) (he : A.makeE dir name kind mode data = 0) : Grows A (A.made dir name kind mode data) := by
 obtain ⟨⟨nd, hd, hd2⟩, hnm, hlk, hfn, hrm⟩ := makeE_z he
 have hG := made_get (name := name) (kind := kind) (mode := mode) (data := data) h hl hd
 have hE := made_eq (name := name) (kind := kind) (mode := mode) (data := data) h hl hd
 have hfr : A.get (A.last + 1) = none := h.fresh (by omega)
 have hfn' : lk name nd.ents = none := by unfold AT.find at hfn; rw [hd] at hfn; exact hfn
 refine ⟨fun i n hn => ?_, by rw [hE]; show A.last <= A.last + 1; omega, by rw [hE]; rfl, by rw [hE]; rfl⟩
 rw [hG]
 by_cases e : i = dir
 ·subst e; rw [if_pos rfl]; rw [hd] at hn; cases hn
  refine ⟨_, rfl, rfl, rfl, rfl, rfl, rfl, fun s j hs => ?_⟩
  simp only [lk_up]
  have : (s == name) = false := by
   cases hb : (s == name) with
   | false => rfl
   | true => have := eq_of_beq hb; subst this; rw [hfn'] at hs; cases hs
  rw [this]; exact hs
 ·rw [if_neg e]
  by_cases e2 : i = A.last + 1
  ·subst e2; rw [hfr] at hn; cases hn
  ·rw [if_neg e2]; exact ⟨n, hn, rfl, rfl, rfl, rfl, rfl, fun _ _ h => h⟩
theorem makeR_z (he : A.makeE dir name kind mode data = 0) : A.makeR dir name kind mode data = (wr (A.last + 1), 0, A.made dir name kind mode data) := by unfold AT.makeR; rw [if_pos he]
theorem makeR_n (he : A.makeE dir name kind mode data ≠ 0) : A.makeR dir name kind mode data = (0, A.makeE dir name kind mode data, A) := by unfold AT.makeR; rw [if_neg he]
theorem makeR_ok {N : Nat} (h : Inv A) (hb : Bd N A) (hN : N < 4611686018427387904) (hs : data.size < 4611686018427387904) (hdp : A.isDir dir -> kind = 2 -> ∃ d, A.deep 11 dir = some d) :
 Inv (A.makeR dir name kind mode data).2.2 /\ Bd (N + 1) (A.makeR dir name kind mode data).2.2 /\ Grows A (A.makeR dir name kind mode data).2.2 := by
 by_cases he : A.makeE dir name kind mode data = 0
 ·rw [makeR_z he]
  obtain ⟨h1, h2⟩ := h.made hb hN hs he (hdp (makeE_z he).1)
  exact ⟨h1, h2, made_grows h (by have := hb.last; omega) he⟩
 ·rw [makeR_n he]
  exact ⟨h, hb.mono (by omega), Grows.refl A⟩
end
def RowD (A : AT) (ino : Int) (l : List Tr) : Prop := (∃ n, A.get ino = some n) /\ ∀ d, A.isDir ino -> A.deep 12 ino = some d -> ∀ x ∈ l, d + x.levels <= 12
theorem RowD.head {A : AT} {ino : Int} {x : Tr} {l : List Tr} (h : RowD A ino (x :: l)) : ∀ d, A.isDir ino -> A.deep 12 ino = some d -> d + x.levels <= 12 := fun d h1 h2 => h.2 d h1 h2 x (List.mem_cons_self ..)
end Go.Wk

set_option maxRecDepth 100000
namespace Go.Proofs.YtbjbeajbckcecaaGreatDoor
open Go Go.HL Go.Wk
attribute [local irreducible] ptrW ifW brW andW rdT alW letJ stW muW biW vaW imW callT cvalT app callW invW callVW sizeT oW nilF oneK loopW rfW funW begW roundK exW idxW Gr Put
def Off (τ σ : H) (B : Nat -> Prop) : Prop := Gr τ σ /\ ∀ b o, τ b = some o -> ¬ B b
theorem Off.gr {τ σ σ' : H} {B : Nat -> Prop} (h : Off τ σ B) (hg : Gr σ σ') : Off τ σ' B := ⟨h.1.trans hg, h.2⟩
theorem Off.get {τ σ : H} {B : Nat -> Prop} (h : Off τ σ B) {b : Nat} {o : Obj} (hb : τ b = some o) : σ b = some o := h.1.get hb
theorem Off.sub {τ τ' σ : H} {B : Nat -> Prop} (h : Off τ σ B) (hg : Gr τ' τ) : Off τ' σ B := ⟨hg.trans h.1, fun b o hb => h.2 b o (hg.get hb)⟩
theorem StrSl.at {σ : H} {x : Sl} {l : List ByteArray} (h : StrSl σ x l) {i : Nat} {s : ByteArray} (hi : l[i]? = some s) : ∃ g cur, x.base = some ⟨g, 0, none⟩ /\ σ g = some (.cells ⟨cur⟩ 9 (0, 0)) /\ cur[i]? = some (.string s) := by
 obtain ⟨h1, h2 | ⟨g, cur, e1, e2, e3⟩⟩ := h
 ·subst h2; simp at hi
 ·refine ⟨g, cur, e1, e2, ?_⟩
  have hlt : i < l.length := by
   rcases Nat.lt_or_ge i l.length with h | h
   ·exact h
   ·rw [List.getElem?_eq_none h] at hi; cases hi
  have : (cur.take l.length)[i]? = some (.string s) := by rw [e3]; simp [hi]
  rw [List.getElem?_take_of_lt hlt] at this
  exact this
end Go.Proofs.YtbjbeajbckcecaaGreatDoor

namespace Go.Wk
open Go Go.HL
variable {A : AT}
theorem Inv.mod {N : Nat} (h : Inv A) (hb : Bd N A) {i : Int} {n n' : AN} (hn : A.get i = some n) (h1 : n'.kind = n.kind) (h2 : n'.up = n.up) (h3 : n'.ents = n.ents) (h4 : likeE n'.kind n'.mode n'.data = 0) (h5 : n'.links = n.links) {ub : Int} (hub : ub = A.ub + n'.data.size - n.data.size) (hq : ub <= A.qb) :
 Inv { A.set i n' with ub := ub } /\ Bd N { A.set i n' with ub := ub } := by
 have hG : ∀ j, ({ A.set i n' with ub := ub } : AT).get j = if j = i then some n' else A.get j := fun j => AT.get_set A i j n'
 have hc : ∀ j m, ({ A.set i n' with ub := ub } : AT).get j = some m -> ∃ m0, A.get j = some m0 /\ m.kind = m0.kind /\ m.up = m0.up /\ m.ents = m0.ents /\ m.links = m0.links /\ likeE m.kind m.mode m.data = 0 := by
  intro j m hm
  rw [hG] at hm
  by_cases e : j = i
  ·rw [if_pos e] at hm; cases hm; subst e; exact ⟨n, hn, h1, h2, h3, h5, h4⟩
  ·rw [if_neg e] at hm; exact ⟨m, hm, rfl, rfl, rfl, rfl, h.like j m hm⟩
 have hx : ∀ j m, A.get j = some m -> ∃ m', ({ A.set i n' with ub := ub } : AT).get j = some m' /\ m'.kind = m.kind /\ m'.up = m.up /\ m'.ents = m.ents /\ m'.links = m.links := by
  intro j m hm
  rw [hG]
  by_cases e : j = i
  ·subst e; rw [if_pos rfl]; rw [hn] at hm; cases hm; exact ⟨n', rfl, h1, h2, h3, h5⟩
  ·rw [if_neg e]; exact ⟨m, hm, rfl, rfl, rfl, rfl⟩
 have hsum : ∀ f : AN -> Nat, sumF f (A.set i n').nodes + f n = sumF f A.nodes + f n' := by
  intro f
  have := AT.sum_set A f i n'
  rw [hn] at this; simpa using this
 have hrefs : ∀ j, ({ A.set i n' with ub := ub } : AT).refs j = A.refs j := by
  intro j
  have := hsum (cntE j)
  have e : cntE j n' = cntE j n := by unfold cntE; rw [h3]
  show sumF (cntE j) (A.set i n').nodes = sumF (cntE j) A.nodes
  omega
 have hupO : ∀ k, A.isDir k -> ({ A.set i n' with ub := ub } : AT).upOf k = A.upOf k := by
  rintro k ⟨m, hm, _⟩
  obtain ⟨m', q1, _, q3, _⟩ := hx k m hm
  unfold AT.upOf; rw [hm, q1]; simp [q3]
 refine ⟨⟨?_, ?_, ?_, ?_, ?_, ?_, ?_, ?_, ?_, ?_, ?_, ?_, ?_⟩, ⟨?_, ?_, ?_⟩⟩
 ·exact nodup_up h.nodup
 ·intro j m hm; obtain ⟨m0, q1, _, _, q4, _⟩ := hc j m hm; rw [q4]; exact h.enod j m0 q1
 ·obtain ⟨r, r1, r2, r3⟩ := h.root
  obtain ⟨m', q1, q2, q3, _⟩ := hx 1 r r1
  exact ⟨m', q1, by rw [q2, r2], by rw [q3, r3]⟩
 ·intro j m hm; obtain ⟨m0, q1, _⟩ := hc j m hm; exact h.low j m0 q1
 ·intro j m hm; obtain ⟨m0, _, _, _, _, _, q⟩ := hc j m hm; exact q
 ·intro j m hm hk; obtain ⟨m0, q1, q2, _, q4, _⟩ := hc j m hm; rw [q4]; exact h.file j m0 q1 (by rw [<- q2]; exact hk)
 ·intro j m s t hm hs
  obtain ⟨m0, q1, _, _, q4, _⟩ := hc j m hm
  rw [q4] at hs
  obtain ⟨a1, a2, m1, a3, a4⟩ := h.ent j m0 s t q1 hs
  obtain ⟨m', b1, b2, b3, _⟩ := hx t m1 a3
  exact ⟨a1, a2, m', b1, fun hk => by rw [b3]; exact a4 (by rw [<- b2]; exact hk)⟩
 ·intro j m hm hj
  obtain ⟨m0, q1, q2, _, _, q5, _⟩ := hc j m hm
  rw [hrefs, q2, q5]; exact h.links j m0 q1 hj
 ·rintro k ⟨m, hm, hk⟩
  obtain ⟨m0, q1, q2, _⟩ := hc k m hm
  have hd : A.isDir k := ⟨m0, q1, by rw [<- q2]; exact hk⟩
  rw [deep_same h hupO 12 k hd]; exact h.deep k hd
 ·have := hsum (fun _ => 1)
  rw [sumF_len, sumF_len] at this
  have e := h.ui
  show A.ui = (A.set i n').nodes.length
  omega
 ·have := hsum (fun n => n.data.size)
  have e := h.ub
  show ub = (sumF (fun n : AN => n.data.size) (A.set i n').nodes : Nat)
  unfold AT.bytes at e
  omega
 ·exact h.uq
 ·exact ⟨hq, h.bq.2⟩
 ·exact hb.last
 ·intro j m hm; obtain ⟨m0, q1, _, _, _, q5, _⟩ := hc j m hm; rw [q5]; exact hb.links j m0 q1
 ·intro j m hm; obtain ⟨m0, q1, _, _, q4, _⟩ := hc j m hm; rw [q4]; exact hb.ents j m0 q1
theorem likeE_file {mode : Int} {data : ByteArray} {d : ByteArray} (h : likeE 1 mode d = 0) : likeE 1 mode data = 0 := by
 unfold likeE kindOkE at h ⊢
 simpa [lk] using h
theorem writeR_ok {N : Nat} (h : Inv A) (hb : Bd N A) (ino : Int) (data : ByteArray) (hs : data.size < 4611686018427387904) : Inv (A.writeR ino data).2 /\ Bd N (A.writeR ino data).2 /\ ((A.writeR ino data).1 ≠ 0 -> (A.writeR ino data).2 = A) /\ (A.writeR ino data).2.qi = A.qi /\ (A.writeR ino data).2.qb = A.qb := by
 unfold AT.writeR
 by_cases he : A.writeE ino data = 0
 case neg => rw [if_neg he]; exact ⟨h, hb, fun _ => rfl, rfl, rfl⟩
 rw [if_pos he]
 unfold AT.writeE at he
 obtain ⟨_, he⟩ := AT.firstE_z he
 obtain ⟨h1, he⟩ := AT.firstE_z he
 obtain ⟨h2, _⟩ := AT.firstE_z he
 obtain ⟨n, hn, hk⟩ := AT.fileE_z h1
 obtain ⟨_, hr⟩ := roomE_z h2
 have hsz := h.size_le hn
 have hub := h.ub_pos
 have hq := h.bq
 rw [hn] at hr
 simp only [Option.map_some, Option.getD_some] at hr
 have e1 : A.written ino data = { A.set ino { n with data := data } with ub := wr (A.ub + wr ((data.size : Int) - n.data.size)) } := by unfold AT.written; rw [hn]
 have w1 : wr ((data.size : Int) - n.data.size) = (data.size : Int) - n.data.size := wr_id (by omega) (by omega)
 rw [w1] at hr
 have w2 : wr (A.ub + ((data.size : Int) - n.data.size)) = A.ub + data.size - n.data.size := by rw [wr_id (by omega) (by omega)]; omega
 rw [w2] at hr
 rw [e1, w1, w2]
 have hlike : likeE n.kind n.mode data = 0 := by
  have := h.like ino n hn
  rw [hk] at this ⊢
  exact likeE_file this
 obtain ⟨a, b⟩ := h.mod hb hn (n' := { n with data := data }) rfl rfl rfl hlike rfl rfl hr
 exact ⟨a, b, fun h => absurd rfl h, rfl, rfl⟩
theorem newT_ok {qi qb : Int} (h : newOk qi qb = true) : Inv (newT qi qb) /\ Bd 1 (newT qi qb) := by
 have hq : 1 <= qi /\ qi <= 1048576 /\ 0 <= qb /\ qb <= 1073741824 := by
  unfold newOk at h
  simp at h
  omega
 have hg : ∀ i n, (newT qi qb).get i = some n -> i = 1 /\ n = ⟨2, 493, ⟨⟨[]⟩⟩, 1, 1, []⟩ := by
  intro i n hn
  have hn : lk i [((1 : Int), (⟨2, 493, ⟨⟨[]⟩⟩, 1, 1, []⟩ : AN))] = some n := hn
  simp only [lk] at hn
  cases hb : (i == 1) with
  | true => rw [hb] at hn; cases hn; exact ⟨by simpa using hb, rfl⟩
  | false => rw [hb] at hn; cases hn
 refine ⟨⟨?_, ?_, ?_, ?_, ?_, ?_, ?_, ?_, ?_, rfl, rfl, ⟨hq.1, hq.2.1⟩, ⟨hq.2.2.1, hq.2.2.2⟩⟩, ⟨?_, ?_, ?_⟩⟩
 ·show [(1 : Int)].Nodup; simp
 ·intro i n hn; obtain ⟨_, rfl⟩ := hg i n hn; exact List.nodup_nil
 ·exact ⟨_, rfl, rfl, rfl⟩
 ·intro i n hn; obtain ⟨rfl, rfl⟩ := hg i n hn; show (1 : Int) <= 1 /\ (1 : Int) <= 1; omega
 ·intro i n hn; obtain ⟨_, rfl⟩ := hg i n hn; rfl
 ·intro i n hn; obtain ⟨_, rfl⟩ := hg i n hn; intro _; rfl
 ·intro i n s j hn hs; obtain ⟨_, rfl⟩ := hg i n hn; simp [lk] at hs
 ·intro i n hn h1; exact absurd (hg i n hn).1 h1
 ·rintro i ⟨n, hn, _⟩; obtain ⟨rfl, _⟩ := hg i n hn; exact ⟨1, rfl⟩
 ·show (1 : Int) <= (1 : Nat); omega
 ·intro i n hn; obtain ⟨_, rfl⟩ := hg i n hn; show (1 : Int) <= (1 : Nat); omega
 ·intro i n hn; obtain ⟨_, rfl⟩ := hg i n hn; show (0 : Nat) <= 1; omega
end Go.Wk

namespace Go.Wk
open Go Go.HL
end Go.Wk

namespace Go.Wk
open Go Go.HL
structure OpOk (N : Nat) (A : AT) (r : Int × AT) : Prop where
 inv : Inv r.2
 bd : Bd N r.2
 same : r.1 ≠ 0 -> r.2 = A
 qi : r.2.qi = A.qi
 qb : r.2.qb = A.qb
variable {A : AT} {N : Nat}
theorem OpOk.self (h : Inv A) (hb : Bd N A) (e : Int) : OpOk N A (e, A) := ⟨h, hb, fun _ => rfl, rfl, rfl⟩
theorem OpOk.mono {M : Nat} {r : Int × AT} (h : OpOk N A r) (hl : N <= M) : OpOk M A r := ⟨h.inv, h.bd.mono hl, h.same, h.qi, h.qb⟩
theorem make_op (h : Inv A) (hb : Bd N A) (hN : N < 4611686018427387904) {dir : Int} {name : ByteArray} {kind mode : Int} {data : ByteArray} (hs : data.size < 4611686018427387904) (hdp : A.isDir dir -> kind = 2 -> ∃ d, A.deep 11 dir = some d) : OpOk (N + 1) A ((A.makeR dir name kind mode data).2.1, (A.makeR dir name kind mode data).2.2) := by
 obtain ⟨h1, h2, h3⟩ := makeR_ok (dir := dir) (name := name) (kind := kind) (mode := mode) (data := data) h hb hN hs hdp
 refine ⟨h1, h2, fun he => ?_, h3.qi, h3.qb⟩
 by_cases he' : A.makeE dir name kind mode data = 0
 ·rw [makeR_z he'] at he; exact absurd rfl he
 ·rw [makeR_n he']
theorem mkdirF_ok (h : Inv A) (hb : Bd N A) (hN : N < 4611686018427387904) (cwd path : ByteArray) : OpOk (N + 1) A (A.mkdirF cwd path) := by
 unfold AT.mkdirF
 simp only
 by_cases h1 : (A.freshP cwd path).1 ≠ 0
 ·rw [if_pos h1]; exact OpOk.self h (hb.mono (by omega)) _
 rw [if_neg h1]
 by_cases h2 : (A.deep 13 (A.freshP cwd path).2.dir).getD 0 >= 12
 ·rw [if_pos h2]; exact OpOk.self h (hb.mono (by omega)) _
 rw [if_neg h2]
 refine make_op h hb hN (by decide) fun hd _ => ?_
 obtain ⟨d, hd13, hd12, _⟩ := h.deep13 hd
 rw [hd13] at h2
 simp only [Option.getD_some] at h2
 exact ⟨d, deep_low hd12 11 (by omega)⟩
theorem writeF_ok (h : Inv A) (hb : Bd N A) (hN : N < 4611686018427387904) (cwd path data : ByteArray) (more : Bool) (hs : data.size < 2305843009213693952) : OpOk (N + 1) A (A.writeF cwd path data more) := by
 unfold AT.writeF
 simp only
 by_cases h1 : (A.locate cwd path true).1 ≠ 0
 ·rw [if_pos h1]; exact OpOk.self h (hb.mono (by omega)) _
 rw [if_neg h1]
 by_cases h2 : (A.locate cwd path true).2.there = false
 ·rw [if_pos h2]; exact make_op h hb hN (by omega) (fun _ hk => by cases hk)
 rw [if_neg h2]
 by_cases h3 : A.kind (A.locate cwd path true).2.ino = 2
 ·rw [if_pos h3]; exact OpOk.self h (hb.mono (by omega)) _
 rw [if_neg h3]
 obtain ⟨a, b, c, d, e⟩ := writeR_ok h hb (A.locate cwd path true).2.ino (if more then A.data (A.locate cwd path true).2.ino ++ data else data) (by
  have hq := h.bq
  cases more with
  | false => simp only [Bool.false_eq_true, if_false]; omega
  | true =>
   simp only [if_true, ByteArray.size_append]
   have : (A.data (A.locate cwd path true).2.ino).size <= 1073741824 := by
    unfold AT.data
    cases hg : A.get (A.locate cwd path true).2.ino with
    | none => decide
    | some n => have := h.size_le hg; show n.data.size <= _; omega
   omega)
 exact ⟨a, b.mono (by omega), c, d, e⟩
end Go.Wk

namespace Go.Wk
open Go Go.HL
theorem splitL_app {c : UInt8} {b : List UInt8} : ∀ a : List UInt8, splitL c (a ++ c :: b) = splitL c a ++ splitL c b := by
 intro a
 induction a with
 | nil => simp [splitL]
 | cons x a ih =>
  simp only [List.cons_append, splitL]
  cases (x == c) with
  | true => simp [ih]
  | false =>
   simp only [ih]
   cases hs : splitL c a with
   | nil => exact absurd hs (splitL_ne a)
   | cons h t => simp
theorem app_data (a b : ByteArray) : (a ++ b).data.toList = a.data.toList ++ b.data.toList := by rw [ByteArray.data_append, Array.toList_append]
theorem badByte_mem {s : ByteArray} (h : badByte s = false) : (47 : UInt8) ∉ s.data.toList /\ (0 : UInt8) ∉ s.data.toList := by
 unfold badByte at h
 rw [List.any_eq_false] at h
 exact ⟨fun hm => h 47 hm (by decide), fun hm => h 0 hm (by decide)⟩
theorem okPart_of {n : ByteArray} (h : nameOk n) : okPart n = true := by
 unfold okPart; rw [sEq_false h.1, sEq_false h.2.1]; rfl
def sub (p n : ByteArray) : ByteArray := (p ++ ⟨⟨[47]⟩⟩) ++ n
theorem sub_data (p n : ByteArray) : (sub p n).data.toList = p.data.toList ++ 47 :: n.data.toList := by
 unfold sub; rw [app_data, app_data, List.append_assoc]; rfl
theorem parts_sub {p n : ByteArray} (h : nameOk n) : partsB (sub p n) = partsB p ++ [n] := by
 have h47 := (badByte_mem h.2.2).1
 unfold partsB
 rw [sub_data, splitL_app, splitL_none h47, List.map_append, List.filter_append]
 congr 1
 show List.filter okPart [n] = [n]
 simp [okPart_of h]
theorem nul_sub {p n : ByteArray} (h : nameOk n) (hp : hasNul p = false) : hasNul (sub p n) = false := by
 have h0 := (badByte_mem h.2.2).2
 unfold hasNul at hp ⊢
 rw [sub_data, List.any_append, hp, List.any_cons, Bool.false_or]
 rw [Bool.or_eq_false_iff]
 refine ⟨by decide, ?_⟩
 rw [List.any_eq_false]
 intro x hx hb
 have : x = 0 := by simpa using hb
 subst this; exact h0 hx
theorem head_sub {p n : ByteArray} {c : UInt8} (hp : headIs c p = true) : headIs c (sub p n) = true := by
 unfold headIs at hp ⊢
 rw [sub_data]
 cases hl : p.data.toList with
 | nil => rw [hl] at hp; cases hp
 | cons x r => rw [hl] at hp; exact hp
def Chain (A : AT) : Int -> List ByteArray -> Int -> Prop
 | d, [], i => d = i
 | d, n :: r, i => A.kind d = 2 /\ ∃ j, A.find d n = some j /\ Chain A j r i
theorem Chain.snoc {A : AT} {n : ByteArray} {i j : Int} : ∀ {l : List ByteArray} {d : Int}, Chain A d l i -> A.kind i = 2 -> A.find i n = some j -> Chain A d (l ++ [n]) j := by
 intro l
 induction l with
 | nil => intro d h h1 h2; have h : d = i := h; subst h; exact ⟨h1, j, h2, rfl⟩
 | cons x r ih =>
  intro d h h1 h2
  obtain ⟨a, k, b, c⟩ := h
  exact ⟨a, k, b, ih c h1 h2⟩
def stepOk (n : ByteArray) : Prop := n ≠ ⟨⟨[46, 46]⟩⟩ /\ n.size <= 56
structure PathTo (A : AT) (p : ByteArray) (i : Int) : Prop where
 head : headIs 47 p = true
 nul : hasNul p = false
 chain : Chain A 1 (partsB p) i
 names : ∀ n ∈ partsB p, stepOk n
theorem PathTo.sub {A : AT} {p n : ByteArray} {i j : Int} (h : PathTo A p i) (hk : A.kind i = 2) (hf : A.find i n = some j) (hn : mayName n = true) : PathTo A (Wk.sub p n) j := by
 unfold mayName at hn
 simp only [Bool.and_eq_true, decide_eq_true_eq, Bool.not_eq_true'] at hn
 obtain ⟨h1, h2, h3, h4, h5⟩ := hn
 have hne : n ≠ ⟨⟨[]⟩⟩ := by intro e; rw [e] at h1; exact absurd h1 (by decide)
 have hne2 : n ≠ ⟨⟨[46]⟩⟩ := by intro e; rw [e] at h4; exact absurd h4 (by decide)
 have hne3 : n ≠ ⟨⟨[46, 46]⟩⟩ := by intro e; rw [e] at h5; exact absurd h5 (by decide)
 have hok : nameOk n := ⟨hne, hne2, h3⟩
 refine ⟨head_sub h.head, nul_sub hok h.nul, ?_, ?_⟩
 ·rw [parts_sub hok]; exact h.chain.snoc hk hf
 ·rw [parts_sub hok]
  intro m hm
  rcases List.mem_append.1 hm with hm | hm
  ·exact h.names m hm
  ·simp at hm; subst hm; exact ⟨hne3, h2⟩
theorem headIs_ne {p : ByteArray} {c : UInt8} (h : headIs c p = true) : sEq p ⟨⟨[]⟩⟩ = false := by
 refine sEq_false ?_
 intro e; rw [e] at h; cases h
def tk (k : Nat) (s : ByteArray) : ByteArray := s.extract 0 (min s.size k)
end Go.Wk

set_option maxRecDepth 100000
namespace Go.Proofs.YtbjbeajbckcecaaGreatDoor
open Go Go.HL Go.Wk
attribute [local irreducible] ptrW ifW brW andW rdT alW letJ stW muW biW vaW imW callT cvalT app callW invW callVW sizeT oW nilF oneK loopW rfW funW begW roundK exW idxW Gr Put
def RowsTr (τ : H) : List Tr -> List (List Value) -> Prop
 | [], [] => True
 | t :: ts, r :: rows => TrAt τ t r /\ RowsTr τ ts rows
 | _, _ => False
theorem RowsTr.gr {τ τ' : H} (hg : Gr τ τ') : ∀ {ts : List Tr} {rows : List (List Value)}, RowsTr τ ts rows -> RowsTr τ' ts rows := by
 intro ts
 induction ts with
 | nil => intro rows h; cases rows <;> exact h
 | cons t ts ih =>
  intro rows h
  cases rows with
  | nil => exact h.elim
  | cons r rows => exact ⟨gr_both hg t r h.1, ih h.2⟩
theorem RowsTr.snoc {τ : H} {t : Tr} {r : List Value} (ht : TrAt τ t r) : ∀ {ts : List Tr} {rows : List (List Value)}, RowsTr τ ts rows -> RowsTr τ (ts ++ [t]) (rows ++ [r]) := by
 intro ts
 induction ts with
 | nil => intro rows h; cases rows with
  | nil => exact ⟨ht, trivial⟩
  | cons r rows => exact h.elim
 | cons t ts ih =>
  intro rows h
  cases rows with
  | nil => exact h.elim
  | cons r rows => exact ⟨h.1, ih h.2⟩
theorem RowsTr.len {τ : H} : ∀ {ts : List Tr} {rows : List (List Value)}, RowsTr τ ts rows -> rows.length = ts.length := by
 intro ts
 induction ts with
 | nil => intro rows h; cases rows with
  | nil => rfl
  | cons r rows => exact h.elim
 | cons t ts ih =>
  intro rows h
  cases rows with
  | nil => exact h.elim
  | cons r rows => simp [ih h.2]
end Go.Proofs.YtbjbeajbckcecaaGreatDoor

set_option maxRecDepth 100000
namespace Go.Proofs.YtbjbeajbckcecaaGreatDoor
open Go Go.HL Go.Wk Go.ChangeShapes Go.WideShapes Go.ChangeAt Go.RowKit
theorem own : ownKnob Tryz.prog.godebug = none := by kernel_rfl
theorem laidOut : laidOutB Tryz.prog = true := by kernel_rfl
def accCells : Array Value := #[.int .u8 128, .int .u8 191, .int .u8 160, .int .u8 191, .int .u8 128, .int .u8 159, .int .u8 144, .int .u8 191, .int .u8 128, .int .u8 143, .int .u8 0, .int .u8 0, .int .u8 0, .int .u8 0, .int .u8 0, .int .u8 0, .int .u8 0, .int .u8 0, .int .u8 0, .int .u8 0, .int .u8 0, .int .u8 0, .int .u8 0, .int .u8 0, .int .u8 0, .int .u8 0, .int .u8 0, .int .u8 0, .int .u8 0, .int .u8 0, .int .u8 0, .int .u8 0]
def firstCells : Array Value := ⟨Go.Pinned.utf8FirstZ.map fun (n : Nat) => .int .u8 (n : Int)⟩
def setC (cs : Array Value) : Obj -> Obj
 | .cells _ t frozen => .cells cs t frozen
 | o => o
noncomputable def laidWorld (os : Os) : World :=
 { World.holding Tryz.prog os ⟨#[], #[], []⟩ with heap := ((World.holding Tryz.prog os ⟨#[], #[], []⟩).heap.modify 1 (setC firstCells)).modify 2 (setC accCells) }
end Go.Proofs.YtbjbeajbckcecaaGreatDoor

namespace Go.Wk
open Go Go.HL
structure Rn where
 t : ByteArray
 q : Bool
 s : Bool
abbrev Ch := UInt8 × Bool
def Rn.cells (r : Rn) : List Value := [.string r.t, .bool r.q, .bool r.s]
def Rn.chs (r : Rn) : List Ch := r.t.data.toList.map fun c => (c, r.q)
def charsR (p : List Rn) : List Ch := p.flatMap Rn.chs
def plainL (p : List Rn) : List UInt8 := p.flatMap fun r => r.t.data.toList
def plainR (p : List Rn) : ByteArray := ⟨⟨plainL p⟩⟩
def hasC (c : UInt8) : List UInt8 -> Bool
 | [] => false
 | x :: r => x == c || hasC c r
def chIs (c : Ch) (l : List UInt8) : Bool := !c.2 && hasC c.1 l
def findC (f : Ch -> Bool) : List Ch -> Option Nat
 | [] => none
 | c :: r => if f c then some 0 else (findC f r).map (· + 1)
def setP (l : List Ch) : Option (Bool × List Ch × Nat) :=
 match l with
 | c0 :: c1 :: _ =>
  if chIs c0 [91] = false then none
  else
   let nt := chIs c1 [33, 94]
   let fr := if nt then 2 else 1
   if fr + 1 >= l.length then none
   else match findC (fun c => chIs c [93]) (l.drop (fr + 1)) with
    | none => none
    | some i => some (nt, (l.take (i + fr + 1)).drop fr, i + fr + 1 + 1)
 | _ => none
def leC8 (a b : UInt8) : Bool := Nat.ble a.toNat b.toNat
def inSet (b : UInt8) : Nat -> List Ch -> Bool
 | 0, _ => false
 | _ + 1, [] => false
 | f + 1, a :: r => match r with
  | d :: c :: r' => if chIs d [45] then (leC8 a.1 b && leC8 b c.1) || inSet b f r' else (b == a.1) || inSet b f r
  | _ => (b == a.1) || inSet b f r
inductive Pc where
 | star | set (nt : Bool) (l : List Ch) | any | one (b : UInt8)
def Pc.odd : Pc -> Bool
 | .one _ => false
 | _ => true
def Pc.isStar : Pc -> Bool
 | .star => true
 | _ => false
def Pc.f : Pc -> UInt8 -> Bool
 | .star, _ => false
 | .set nt l, b => inSet b l.length l != nt
 | .any, _ => true
 | .one c, b => b == c
def piece1 (c : Ch) : Pc := if chIs c [42] then .star else if chIs c [63] then .any else .one c.1
def piecesF : Nat -> List Ch -> List Pc
 | 0, _ => []
 | _ + 1, [] => []
 | f + 1, c :: r => match setP (c :: r) with
  | some (nt, l, n) => .set nt l :: piecesF f ((c :: r).drop n)
  | none => piece1 c :: piecesF f r
def piecesL (l : List Ch) : List Pc := piecesF l.length l
def piecesP (p : List Rn) : List Pc := piecesL (charsR p)
def starsN : List Pc -> Nat
 | [] => 0
 | p :: r => if p.isStar then starsN r + 1 else 0
def pcHit (o : Option Pc) (c : UInt8) : Bool := match o with
 | some p => p.f c
 | none => false
def matchF (l : List Pc) (s : List UInt8) : Nat -> Nat -> Int -> Nat -> Nat -> Bool
 | 0, _, _, _, _ => false
 | f + 1, a, back, fr, i =>
  if i < s.length then
   let k := starsN (l.drop a)
   let a' := a + k
   let back' := if 0 < k then (a' : Int) else back
   let fr' := if 0 < k then i else fr
   if pcHit l[a']? (s.getD i 0) then matchF l s f (a' + 1) back' fr' (i + 1)
   else if back' < 0 then (i == s.length) && (a' + starsN (l.drop a') == l.length)
   else matchF l s f back'.toNat back' (fr' + 1) (fr' + 1)
  else (i == s.length) && (a + starsN (l.drop a) == l.length)
def matchP (l : List Pc) (s : List UInt8) : Bool := matchF l s ((s.length + 2) * (s.length + 2)) 0 (-1) 0 0
def magicP (p : List Rn) : Bool := (piecesP p).any Pc.odd
def classB (ifs : ByteArray) (c : UInt8) : Int := if hasC c ifs.data.toList then (if c == 32 || c == 9 || c == 10 then 1 else 2) else 0
structure SpS where
 out : List (List Rn)
 now : List Rn
 bare : Bool
 behind : Bool
def SpS.gather (x : SpS) (r : Rn) : SpS := ⟨x.out, x.now ++ [r], false, false⟩
def SpS.fin (x : SpS) : SpS := ⟨x.out ++ [x.now], [], true, x.behind⟩
def spByte (k : UInt8 -> Int) (x : SpS) (c : UInt8) : SpS :=
 if k c = 0 then x.gather ⟨⟨⟨[c]⟩⟩, false, true⟩
 else if x.bare = false then { x.fin with behind := k c == 1 }
 else if k c = 1 then x
 else if x.behind then { x with behind := false }
 else x.fin
def spRun (k : UInt8 -> Int) (x : SpS) (r : Rn) : SpS :=
 if r.q || !r.s then (if r.q || !sEq r.t ⟨⟨[]⟩⟩ then x.gather r else x)
 else r.t.data.toList.foldl (spByte k) x
def split1 (k : UInt8 -> Int) (l : List Rn) : List (List Rn) :=
 let x := l.foldl (spRun k) ⟨[], [], true, false⟩
 if x.bare then x.out else x.out ++ [x.now]
def splitP (ifs : ByteArray) (l : List (List Rn)) : List (List Rn) := l.flatMap (split1 (classB ifs))
structure Pt where
 l : List Ch
 st : Bool
def Ch.rn (c : Ch) : Rn := ⟨⟨⟨[c.1]⟩⟩, c.2, false⟩
def Pt.runs (p : Pt) : List Rn := p.l.map Ch.rn
def partAdd : List Pt -> Ch -> List Pt
 | [], c => [⟨[c], c.1 == 47⟩]
 | [p], c => if p.st == (c.1 == 47) then [⟨p.l ++ [c], p.st⟩] else [p, ⟨[c], c.1 == 47⟩]
 | p :: q :: r, c => p :: partAdd (q :: r) c
def partsR (p : List Rn) : List Pt := (charsR p).foldl partAdd []
def keepN (p : Pt) (s : ByteArray) : Bool := !(headIs 46 s && !headIs 46 (plainR p.runs)) && matchP (piecesP p.runs) s.data.toList
def AT.namesP (A : AT) (cwd dir : ByteArray) (p : Pt) : List ByteArray × Int :=
 let l := A.listF cwd (if sEq dir ⟨⟨[]⟩⟩ then ⟨⟨[46]⟩⟩ else dir)
 if l.1 ≠ 0 then ([], 0) else (l.2.filter (keepN p), (l.2.length : Int))
def AT.nextP (A : AT) (cwd : ByteArray) (p : Pt) (base : ByteArray) : List ByteArray × Int :=
 if p.st then
  (if sEq base ⟨⟨[]⟩⟩ || (let x := A.stat cwd base true; decide (x.1 = 0) && decide (x.2.kind = 2)) then ([base ++ plainR p.runs], 0) else ([], 0))
 else if magicP p.runs then (let n := A.namesP cwd base p; (n.1.map (base ++ ·), n.2))
 else (if (A.stat cwd (base ++ plainR p.runs) false).1 = 0 then ([base ++ plainR p.runs], 0) else ([], 0))
def AT.reach (A : AT) (cwd : ByteArray) : List Pt -> ByteArray -> List ByteArray × Int
 | [], base => ([base], 0)
 | p :: r, base => ((A.nextP cwd p base).1.flatMap fun to => (AT.reach A cwd r to).1, (A.nextP cwd p base).2 + ((A.nextP cwd p base).1.map fun to => (AT.reach A cwd r to).2).sum)
theorem AT.reach_cons (A : AT) (cwd : ByteArray) (p : Pt) (r : List Pt) (base : ByteArray) : A.reach cwd (p :: r) base = ((A.nextP cwd p base).1.flatMap fun to => (AT.reach A cwd r to).1, (A.nextP cwd p base).2 + ((A.nextP cwd p base).1.map fun to => (AT.reach A cwd r to).2).sum) := rfl
def AT.globP (A : AT) (cwd : ByteArray) (r : List Rn) : List ByteArray × Int :=
 if magicP r = false then ([plainR r], 0)
 else
  let x := A.reach cwd (partsR r) ⟨⟨[]⟩⟩
  (if x.1 = [] then [plainR r] else sortN x.1, x.2)
def joinB (sep : List UInt8) : List (List UInt8) -> List UInt8
 | [] => []
 | [a] => a
 | a :: b :: r => a ++ sep ++ joinB sep (b :: r)
theorem splitP_app (ifs : ByteArray) (a b : List (List Rn)) : splitP ifs (a ++ b) = splitP ifs a ++ splitP ifs b := by
 unfold splitP; rw [List.flatMap_append]
theorem charsR_app (a b : List Rn) : charsR (a ++ b) = charsR a ++ charsR b := List.flatMap_append ..
theorem plainL_app (a b : List Rn) : plainL (a ++ b) = plainL a ++ plainL b := List.flatMap_append ..
def keptB (ifs : ByteArray) (r : Rn) : List UInt8 := if r.q || !r.s then r.t.data.toList else r.t.data.toList.filter fun c => !hasC c ifs.data.toList
def SpS.text (x : SpS) : List UInt8 := x.out.flatMap plainL ++ plainL x.now
theorem classB_zero {ifs : ByteArray} {c : UInt8} : classB ifs c = 0 ↔ hasC c ifs.data.toList = false := by
 unfold classB
 cases hasC c ifs.data.toList with
 | false => simp
 | true => simp; split <;> decide
theorem fin_text {x : SpS} : x.fin.text = x.text := by
 unfold SpS.fin SpS.text; simp [plainL]
theorem spByte_text (ifs : ByteArray) (x : SpS) (c : UInt8) (hb : x.bare = true -> x.now = []) : (spByte (classB ifs) x c).text = x.text ++ (if hasC c ifs.data.toList then [] else [c]) /\ ((spByte (classB ifs) x c).bare = true -> (spByte (classB ifs) x c).now = []) := by
 unfold spByte
 by_cases h0 : classB ifs c = 0
 ·rw [if_pos h0, classB_zero.1 h0]
  refine ⟨?_, fun h => by cases h⟩
  unfold SpS.gather SpS.text; simp [plainL]
 ·rw [if_neg h0]
  have h1 : hasC c ifs.data.toList = true := by
   cases h : hasC c ifs.data.toList with
   | true => rfl
   | false => exact absurd (classB_zero.2 h) h0
  rw [h1]
  simp only [if_true, List.append_nil]
  split
  ·exact ⟨fin_text, fun _ => rfl⟩
  ·split
   ·exact ⟨rfl, hb⟩
   ·split
    ·exact ⟨rfl, hb⟩
    ·exact ⟨fin_text, fun _ => rfl⟩
theorem spBytes_text (ifs : ByteArray) : ∀ (l : List UInt8) (x : SpS), (x.bare = true -> x.now = []) -> (l.foldl (spByte (classB ifs)) x).text = x.text ++ l.filter (fun c => !hasC c ifs.data.toList) /\ ((l.foldl (spByte (classB ifs)) x).bare = true -> (l.foldl (spByte (classB ifs)) x).now = []) := by
 intro l
 induction l with
 | nil => intro x hb; exact ⟨by simp, hb⟩
 | cons c r ih =>
  intro x hb
  obtain ⟨h1, h2⟩ := spByte_text ifs x c hb
  obtain ⟨h3, h4⟩ := ih _ h2
  rw [List.foldl_cons]
  refine ⟨?_, h4⟩
  rw [h3, h1, List.filter_cons]
  cases hasC c ifs.data.toList <;> simp
theorem spRun_text (ifs : ByteArray) (x : SpS) (r : Rn) (hb : x.bare = true -> x.now = []) : (spRun (classB ifs) x r).text = x.text ++ keptB ifs r /\ ((spRun (classB ifs) x r).bare = true -> (spRun (classB ifs) x r).now = []) := by
 unfold spRun keptB
 cases hq : (r.q || !r.s) with
 | false => exact spBytes_text ifs _ _ hb
 | true =>
  rw [if_pos rfl, if_pos rfl]
  cases he : (r.q || !sEq r.t ⟨⟨[]⟩⟩) with
  | true =>
   rw [if_pos rfl]
   refine ⟨?_, fun h => by cases h⟩
   unfold SpS.gather SpS.text; simp [plainL]
  | false =>
   rw [if_neg (by decide)]
   have : r.t = ⟨⟨[]⟩⟩ := by
    cases hq' : r.q with
    | true => rw [hq'] at he; cases he
    | false =>
     rw [hq'] at he
     have : sEq r.t ⟨⟨[]⟩⟩ = true := by
      cases h : sEq r.t ⟨⟨[]⟩⟩ with
      | true => rfl
      | false => rw [h] at he; cases he
     exact sEq_iff.1 this
   rw [this]; exact ⟨by simp, hb⟩
theorem spRuns_text (ifs : ByteArray) : ∀ (l : List Rn) (x : SpS), (x.bare = true -> x.now = []) -> (l.foldl (spRun (classB ifs)) x).text = x.text ++ l.flatMap (keptB ifs) /\ ((l.foldl (spRun (classB ifs)) x).bare = true -> (l.foldl (spRun (classB ifs)) x).now = []) := by
 intro l
 induction l with
 | nil => intro x hb; exact ⟨by simp, hb⟩
 | cons r rs ih =>
  intro x hb
  obtain ⟨h1, h2⟩ := spRun_text ifs x r hb
  obtain ⟨h3, h4⟩ := ih _ h2
  rw [List.foldl_cons]
  refine ⟨?_, h4⟩
  rw [h3, h1, List.flatMap_cons, List.append_assoc]
theorem split1_text (ifs : ByteArray) (l : List Rn) : (split1 (classB ifs) l).flatMap plainL = l.flatMap (keptB ifs) := by
 obtain ⟨h1, h2⟩ := spRuns_text ifs l ⟨[], [], true, false⟩ (fun _ => rfl)
 unfold split1
 simp only
 generalize l.foldl (spRun (classB ifs)) ⟨[], [], true, false⟩ = x at h1 h2
 have h3 : x.text = l.flatMap (keptB ifs) := by rw [h1]; rfl
 rw [<- h3]
 cases hb : x.bare with
 | true =>
  rw [if_pos rfl]
  unfold SpS.text; rw [h2 hb]; simp [plainL]
 | false =>
  rw [if_neg (by decide)]
  unfold SpS.text; simp
def SpS.n (x : SpS) : Nat := x.out.length + x.now.length
theorem n_byte (k : UInt8 -> Int) (x : SpS) (c : UInt8) : (spByte k x c).n <= x.n + 1 := by
 unfold spByte
 split
 ·unfold SpS.gather SpS.n; simp; omega
 ·split
  ·unfold SpS.fin SpS.n; simp
  ·split
   ·omega
   ·split
    ·show x.out.length + x.now.length <= _; unfold SpS.n; omega
    ·unfold SpS.fin SpS.n; simp
theorem n_bytes (k : UInt8 -> Int) : ∀ (l : List UInt8) (x : SpS), (l.foldl (spByte k) x).n <= x.n + l.length := by
 intro l
 induction l with
 | nil => intro x; simp
 | cons c r ih => intro x; rw [List.foldl_cons]; have := ih (spByte k x c); have := n_byte k x c; simp only [List.length_cons]; omega
theorem n_run (k : UInt8 -> Int) (x : SpS) (r : Rn) : (spRun k x r).n <= x.n + r.t.data.toList.length + 1 := by
 unfold spRun
 split
 ·split
  ·unfold SpS.gather SpS.n; simp; omega
  ·omega
 ·have := n_bytes k r.t.data.toList x; omega
theorem n_runs (k : UInt8 -> Int) : ∀ (l : List Rn) (x : SpS), (l.foldl (spRun k) x).n <= x.n + (plainL l).length + l.length := by
 intro l
 induction l with
 | nil => intro x; simp [plainL]
 | cons r rs ih =>
  intro x
  rw [List.foldl_cons]
  have h1 := ih (spRun k x r)
  have h2 := n_run k x r
  have h3 : (plainL (r :: rs)).length = r.t.data.toList.length + (plainL rs).length := by simp [plainL]
  rw [h3]; simp only [List.length_cons]; omega
theorem plainL_take (l : List Rn) (i : Nat) : (plainL (l.take i)).length <= (plainL l).length := by
 have : plainL l = plainL (l.take i) ++ plainL (l.drop i) := by rw [<- plainL_app, List.take_append_drop]
 rw [this, List.length_append]; omega
theorem split1_n (k : UInt8 -> Int) (l : List Rn) : (split1 k l).length <= (plainL l).length + l.length + 1 := by
 have := n_runs k l ⟨[], [], true, false⟩
 have hz : SpS.n ⟨[], [], true, false⟩ = 0 := rfl
 unfold split1
 simp only
 unfold SpS.n at this hz
 split
 ·omega
 ·rw [List.length_append]; simp only [List.length_cons, List.length_nil]; omega
end Go.Wk

namespace Go.Wk
open Go Go.HL
def Tr.z : Tr := .mk ⟨⟨[]⟩⟩ 0 false ⟨⟨[]⟩⟩ []
def Tr.named (s : ByteArray) : Tr -> Tr
 | .mk _ k e d kids => .mk s k e d kids
def trimL : List UInt8 -> List UInt8
 | [] => []
 | x :: r => match r with
  | [] => (match x == 47 with | true => [] | false => [x])
  | _ :: _ => x :: trimL r
def trimS (p : ByteArray) : ByteArray := ⟨⟨trimL p.data.toList⟩⟩
def kidP (p n : ByteArray) : ByteArray := sub (trimS p) n
def takeRow (g : ByteArray -> Int × Tr) (path : ByteArray) : List ByteArray -> Int × List Tr
 | [] => (0, [])
 | n :: r => let x := g (kidP path n)
  if x.1 ≠ 0 then (x.1, []) else
   let y := takeRow g path r
   (y.1, x.2.named n :: y.2)
def xOf (k m : Int) : Bool := k == 1 && (bitV .and .i64 m 73 : Int) != 0
def AT.take (A : AT) : Nat -> ByteArray -> Int × Tr
 | 0, _ => (3, Tr.z)
 | f + 1, path =>
  let x := A.stat ⟨⟨[47]⟩⟩ path false
  if x.1 ≠ 0 then (x.1, Tr.z)
  else if x.2.kind = 2 then
   let l := A.listF ⟨⟨[47]⟩⟩ path
   if l.1 ≠ 0 then (l.1, Tr.z)
   else
    let r := takeRow (AT.take A f) path l.2
    (r.1, .mk ⟨⟨[]⟩⟩ 2 false x.2.data r.2)
  else (0, .mk ⟨⟨[]⟩⟩ x.2.kind (xOf x.2.kind x.2.mode) x.2.data [])
mutual
def Tr.same : Tr -> Tr -> Bool
 | .mk n k e d kids, u => !(Tr.mk n k e d kids).tooDeep && (!u.tooDeep && (sEq n u.name && ((k == u.kind) && ((e == u.exec) && (sEq d u.data && (Nat.beq kids.length u.kids.length && Tr.sameRow kids u.kids))))))
def Tr.sameRow : List Tr -> List Tr -> Bool
 | [], _ => true
 | t :: r, l => match l with
  | [] => false
  | u :: s => Tr.same t u && Tr.sameRow r s
end
theorem sEq_self (s : ByteArray) : sEq s s = true := sEq_iff.2 rfl
theorem size_list (s : ByteArray) : s.size = s.data.toList.length := by cases s with | mk d => simp [ByteArray.size]
theorem bytes_ext {a b : ByteArray} (h : a.data.toList = b.data.toList) : a = b := by
 obtain ⟨⟨a⟩⟩ := a; obtain ⟨⟨b⟩⟩ := b
 have h : a = b := h
 rw [h]
end Go.Wk

set_option maxRecDepth 100000
namespace Go.Proofs.YtbjbeajbckcecaaGreatDoor
open Go Go.HL Go.Wk
attribute [local irreducible] ptrW ifW brW andW rdT alW letJ stW muW biW vaW imW callT cvalT app callW invW callVW sizeT oW nilF oneK loopW rfW funW begW roundK exW idxW Gr Put
def chC (c : Ch) : List Value := [.int .u8 ((c.1.toNat : Nat) : Int), .bool c.2]
def chRows (l : List Ch) : List (List Value) := l.map chC
def rnRows (l : List Rn) : List (List Value) := l.map Rn.cells
theorem u8_beq (a b : UInt8) : ((((a.toNat : Nat) : Int) : Int) == ((b.toNat : Nat) : Int)) = (a == b) := by
 by_cases h : a = b
 ·subst h; simp
 ·have h1 : (a == b) = false := by simpa using h
  have h2 : ¬ (((a.toNat : Nat) : Int) = ((b.toNat : Nat) : Int)) := by
   intro e; apply h
   exact UInt8.toNat_inj.1 (by omega)
  rw [h1]; simpa using h2
theorem u8_back (c : UInt8) : ((((c.toNat : Nat) : Int)).toNat).toUInt8 = c := by
 rw [Int.toNat_natCast]; exact UInt8.ofNat_toNat
theorem firstIdx_ge (l : List UInt8) (c : UInt8) : decide (firstIdx ⟨⟨l⟩⟩ c >= 0) = hasC c l := by
 have h1 := firstIdx_lt ⟨⟨l⟩⟩ c
 rw [ByteArray.toList_eq] at h1
 have h2 : (List.any l fun x => x == c) = hasC c l := by
  clear h1
  induction l with
  | nil => rfl
  | cons x r ih => simp only [List.any_cons, hasC, ih]
 have h3 : decide (firstIdx ⟨⟨l⟩⟩ c >= 0) = !decide (firstIdx ⟨⟨l⟩⟩ c < 0) := by
  by_cases h : firstIdx ⟨⟨l⟩⟩ c < 0
  ·have : ¬ firstIdx ⟨⟨l⟩⟩ c >= 0 := by omega
   simp [h, this]
  ·have : firstIdx ⟨⟨l⟩⟩ c >= 0 := by omega
   simp [h, this]
 rw [h3, h1, <- h2]
 simp
theorem s_gIs (c : Ch) (l : List UInt8) {σ : H} {K : KH} (hK : K (.bool (chIs c l)) σ) : callW Tryz.prog 189 [.agg ⟨[.int .u8 ((c.1.toNat : Nat) : Int), .bool c.2]⟩, .string ⟨⟨l⟩⟩] K σ := by
 refine pure_i _ hK (c189 _ _ _ ?_)
 clear hK
 unfold g189
 refine al_i ?_; intro b4 σ1 g1 e1 n1
 refine rd_B (rdC_of e1 (by rfl)) ?_
 unfold chIs
 cases c.2 with
 | true => exact br_f rfl ⟨rfl, g1⟩
 | false =>
  refine br_t rfl (rd_I (rdC_of e1 (by rfl)) (call_i (x_IndexByte _ _ (app_I ?_))))
  rw [u8_back, firstIdx_ge]
  exact ⟨rfl, g1⟩
theorem go_gSet1 : isGo Tryz.prog 229 = true := by kernel_rfl
theorem go_gSet2 : isGo Tryz.prog 230 = true := by kernel_rfl
theorem s_gSet1 (c : Ch) {σ : H} {K : KH} (hK : K (.bool (chIs c [93])) σ) : callW Tryz.prog 229 [.agg ⟨[.int .u8 ((c.1.toNat : Nat) : Int), .bool c.2]⟩] K σ := by
 refine pure_i _ hK (c229 _ _ ?_)
 clear hK
 unfold g229
 refine al_i ?_; intro b3 σ1 g1 e1 n1
 refine rd_G (rdA_of' e1 (by rfl)) ?_
 (refine app_of rfl ?_; try dsimp only)
 exact call_i (s_gIs c [93] (app_B ⟨rfl, g1⟩))
theorem chRow_at {σ : H} {l : List Ch} {x : Sl} (h : RowsAt σ 2 (chRows l) x) {i : Nat} {c : Ch} (hi : l[i]? = some c) : ∃ g o, x.base = some ⟨g, o, none⟩ /\ i < x.len /\ rdA 2 g (o + i * 2) σ = some (.agg ⟨chC c⟩) /\ rdC g (o + i * 2) σ = some (.int .u8 ((c.1.toNat : Nat) : Int)) := by
 obtain ⟨g, o, h1, h2, h3⟩ := h.rdA (i := i) (r := chC c) (by unfold chRows; rw [List.getElem?_map, hi]; rfl) (by decide)
 refine ⟨g, o, h1, ?_, h2, by simpa using h3 0 _ rfl⟩
 have hl : x.len = l.length := by have := h.1; simpa [chRows] using this
 rw [hl]
 rcases Nat.lt_or_ge i l.length with h | h
 ·exact h
 ·rw [List.getElem?_eq_none h] at hi; cases hi
theorem findC_drop (f : Ch -> Bool) : ∀ (l : List Ch) (k : Nat), (∀ i c, i < k -> l[i]? = some c -> f c = false) -> k <= l.length -> findC f l = (findC f (l.drop k)).map (· + k) := by
 intro l
 induction l with
 | nil => intro k _ hk; have : k = 0 := by simpa using hk
          subst this; rfl
 | cons c r ih =>
  intro k h hk
  cases k with
  | zero => rw [List.drop_zero]; cases findC f (c :: r) <;> rfl
  | succ k =>
   have h0 := h 0 c (by omega) rfl
   rw [findC, h0]
   simp only [Bool.false_eq_true, if_false, List.drop_succ_cons]
   rw [ih k (fun i d hi hd => h (i + 1) d (by omega) (by simpa using hd)) (by simpa using hk)]
   cases findC f (r.drop k) <;> simp; omega
theorem s_gIdxC {l : List Ch} {x : Sl} {σ : H} (hx : RowsAt σ 2 (chRows l) x) (hn : l.length <= 1000000) {K : KH} (hK : K (.int .i64 (((findC (fun c => chIs c [93]) l).map fun (n : Nat) => (n : Int)).getD (-1))) σ) :
 callW Tryz.prog 228 [.slice x.base x.len x.cap, .func (.func 229) ⟨[]⟩ ⟨[]⟩] K σ := by
 refine c228 _ _ ?_
 unfold g228
 refine loop_i ?_
 intro R hR
 have hl : x.len = l.length := by have := hx.1; simpa [chRows] using this
 have key : ∀ (c i : Nat), c + i = l.length -> (∀ k d, k < i -> l[k]? = some d -> chIs d [93] = false) -> R x (.func (.func 229) ⟨[]⟩ ⟨[]⟩) ((x.len : Nat) : Int) (i : Int) σ := by
  intro c
  induction c with
  | zero =>
   intro i hc hno
   refine hR _ _ _ _ _ ?_
   refine br_f (by simp only [decide_eq_false_iff_not]; omega) ?_
   have : findC (fun c => chIs c [93]) l = none := by
    rw [findC_drop _ l i hno (by omega), List.drop_eq_nil_of_le (by omega)]; rfl
   rw [this] at hK; exact hK
  | succ c ih =>
   intro i hc hno
   obtain ⟨d, hd⟩ : ∃ d, l[i]? = some d := ⟨_, List.getElem?_eq_getElem (by omega)⟩
   obtain ⟨g, o, h1, h2, h3, _⟩ := chRow_at hx hd
   refine hR _ _ _ _ _ ?_
   refine br_t (by simp only [decide_eq_true_eq]; omega) ?_
   rw [h1]
   refine ptr_i (if_i ⟨by omega, by omega⟩ (rd_G (by simpa using h3) ?_))
   unfold chC
   (refine app_of rfl ?_; try dsimp only)
   refine cval_i go_gSet1 (s_gSet1 d (app_B ?_))
   cases hb : chIs d [93] with
   | true =>
    refine br_t rfl ?_
    have : findC (fun c => chIs c [93]) l = some i := by
     rw [findC_drop _ l i hno (by omega)]
     have : l.drop i = d :: l.drop (i + 1) := by
      rw [List.drop_eq_getElem_cons (by omega)]
      rw [List.getElem?_eq_getElem (by omega)] at hd
      rw [Option.some.inj hd]
     rw [this, findC]
     simp [hb]
    rw [this] at hK; exact hK
   | false =>
    refine br_f rfl ?_
    rw [wrapS (i := i) (by omega)]
    refine ih (i + 1) (by omega) fun k e hk he => ?_
    by_cases e2 : k = i
    ·subst e2; rw [hd] at he; cases he; exact hb
    ·exact hno k e (by omega) he
 exact key l.length 0 (by omega) (fun k d hk => by omega)
theorem inSet_nil (b : UInt8) (f : Nat) : inSet b f [] = false := by cases f <;> rfl
theorem inSet_go {b : UInt8} {f : Nat} {a d c : Ch} {r : List Ch} (h : chIs d [45] = true) : inSet b (f + 1) (a :: d :: c :: r) = ((leC8 a.1 b && leC8 b c.1) || inSet b f r) := by
 show (if chIs d [45] = true then _ else _) = _
 rw [if_pos h]
theorem inSet_one {b : UInt8} {f : Nat} {a : Ch} {r : List Ch} (h : ∀ d c r', r = d :: c :: r' -> chIs d [45] = false) : inSet b (f + 1) (a :: r) = ((b == a.1) || inSet b f r) := by
 match r, h with
 | [], _ => rfl
 | [_], _ => rfl
 | d :: c :: r', h =>
  show (if chIs d [45] = true then _ else _) = _
  rw [if_neg (by rw [h d c r' rfl]; decide)]
theorem leC8_int (a b : UInt8) : decide ((((b.toNat : Nat) : Int) : Int) >= ((a.toNat : Nat) : Int)) = leC8 a b := by
 unfold leC8
 by_cases h : a.toNat <= b.toNat
 ·rw [Nat.ble_eq_true_of_le h]; simp only [decide_eq_true_eq]; omega
 ·have : Nat.ble a.toNat b.toNat = false := by
   cases hb : Nat.ble a.toNat b.toNat with
   | false => rfl
   | true => exact absurd (Nat.le_of_ble_eq_true hb) h
  rw [this]; simp only [decide_eq_false_iff_not]; omega
theorem leC8_int' (a b : UInt8) : decide ((((a.toNat : Nat) : Int) : Int) <= ((b.toNat : Nat) : Int)) = leC8 a b := by
 rw [<- leC8_int]
theorem s_gSet2 {σ : H} {bi bn : Nat} {x : Sl} {ins : List Ch} {nt : Bool} {ti tn : TypeId} (hi : σ bi = some (.cells ⟨[.slice x.base x.len x.cap]⟩ ti (0, 0))) (hb : σ bn = some (.cells ⟨[.bool nt]⟩ tn (0, 0))) (hx : RowsAt σ 2 (chRows ins) x) (hn : ins.length <= 1000000) (b : UInt8) {K : KH} (hK : K (.bool (inSet b ins.length ins != nt)) σ) :
 callW Tryz.prog 230 [.int .u8 ((b.toNat : Nat) : Int), .pointer (some ⟨bi, 0, none⟩), .pointer (some ⟨bn, 0, none⟩)] K σ := by
 refine c230 _ _ _ ?_
 unfold g230
 refine loop_i ?_
 intro R hR
 have hl : x.len = ins.length := by have := hx.1; simpa [chRows] using this
 have key : ∀ (c i f : Nat) (acc : Bool), i <= ins.length -> ins.length <= c + i -> ins.length <= f + i -> (acc || inSet b f (ins.drop i)) = inSet b ins.length ins -> R ((b.toNat : Nat) : Int) (some ⟨bi, 0, none⟩) (some ⟨bn, 0, none⟩) acc (i : Int) σ := by
  intro c
  induction c using Nat.strongRecOn with
  | _ c ih =>
  intro i f acc hil hc hf hacc
  refine hR _ _ _ _ _ _ ?_
  refine ptr_i (rd_L (rdC_of hi (by rfl)) ?_)
  by_cases hlt : i < ins.length
  case neg =>
   refine br_f (by simp only [decide_eq_false_iff_not]; omega) (ptr_i (rd_B (rdC_of hb (by rfl)) ?_))
   rw [List.drop_eq_nil_of_le (by omega), inSet_nil, Bool.or_false] at hacc
   rw [hacc]
   have : (!(inSet b ins.length ins == nt)) = (inSet b ins.length ins != nt) := rfl
   rw [this]; exact hK
  obtain ⟨a, ha⟩ : ∃ a, ins[i]? = some a := ⟨_, List.getElem?_eq_getElem hlt⟩
  have hda : ins.drop i = a :: ins.drop (i + 1) := by
   rw [List.drop_eq_getElem_cons hlt]
   rw [List.getElem?_eq_getElem hlt] at ha
   rw [Option.some.inj ha]
  obtain ⟨g, o, a1, a2, _, a4⟩ := chRow_at hx ha
  obtain ⟨c', rfl⟩ : ∃ m, c = m + 1 := ⟨c - 1, by omega⟩
  obtain ⟨f', rfl⟩ : ∃ m, f = m + 1 := ⟨f - 1, by omega⟩
  rw [hda] at hacc
  refine br_t (by simp only [decide_eq_true_eq]; omega) ?_
  have e2 : IntKind.i64.wrap ((i : Int) + 2) = ((i + 2 : Nat) : Int) := by rw [wrap_id (by omega) (by omega)]; omega
  have e1 : IntKind.i64.wrap ((i : Int) + 1) = ((i + 1 : Nat) : Int) := by rw [wrap_id (by omega) (by omega)]; omega
  refine j_i (fun j => ∀ (s : Bool) (k : Nat) v1 v2 v3 v4 v5 v6, k <= 1000010 -> R ((b.toNat : Nat) : Int) (some ⟨bi, 0, none⟩) (some ⟨bn, 0, none⟩) s ((k + 1 : Nat) : Int) σ -> j ((b.toNat : Nat) : Int) (some ⟨bi, 0, none⟩) (some ⟨bn, 0, none⟩) s (k : Int) v1 v2 v3 v4 v5 v6 σ) ?_ ?_
  ·intro s k v1 v2 v3 v4 v5 v6 hk h
   rw [wrapS (i := k) (by omega)]
   exact h
  intro j13 h13
  refine j_i (fun j => ∀ v1 v2 v3 v4 v5 v6 (t : Bool), (t = true -> ∃ d c r, ins.drop (i + 1) = d :: c :: r /\ chIs d [45] = true) -> (t = false -> ∀ d c r, ins.drop (i + 1) = d :: c :: r -> chIs d [45] = false) -> j ((b.toNat : Nat) : Int) (some ⟨bi, 0, none⟩) (some ⟨bn, 0, none⟩) acc (i : Int) v1 v2 v3 v4 v5 v6 t σ) ?_ ?_
  case refine_2 =>
   intro j hj
   refine ptr_i (rd_L (rdC_of hi (by rfl)) ?_)
   rw [e2]
   by_cases h2 : i + 2 < ins.length
   ·obtain ⟨d, hd⟩ : ∃ d, ins[i + 1]? = some d := ⟨_, List.getElem?_eq_getElem (by omega)⟩
    obtain ⟨c, hcc⟩ : ∃ c, ins[i + 2]? = some c := ⟨_, List.getElem?_eq_getElem (by omega)⟩
    have hdd : ins.drop (i + 1) = d :: c :: ins.drop (i + 3) := by
     rw [List.drop_eq_getElem_cons (show i + 1 < ins.length by omega), List.drop_eq_getElem_cons (show i + 1 + 1 < ins.length by omega)]
     rw [List.getElem?_eq_getElem (by omega)] at hd hcc
     rw [Option.some.inj hd, Option.some.inj hcc]
    obtain ⟨g2, o2, d1, d2, d3, _⟩ := chRow_at hx hd
    refine br_t (by simp only [decide_eq_true_eq]; omega) (ptr_i (rd_L (rdC_of hi (by rfl)) ?_))
    rw [d1, e1]
    refine ptr_i (if_i ⟨by omega, by show _ < ((x.len : Nat) : Int); omega⟩ (rd_G (by rw [Int.toNat_natCast]; exact d3) ?_))
    unfold chC
    (refine app_of rfl ?_; try dsimp only)
    refine call_i (s_gIs d [45] (app_B ?_))
    refine hj _ _ _ _ _ _ _ (fun h => ⟨d, c, _, hdd, h⟩) (fun h d' c' r' e => ?_)
    rw [hdd] at e; injection e with e _; rw [<- e]; exact h
   ·refine br_f (by simp only [decide_eq_false_iff_not]; omega) (hj _ _ _ _ _ _ _ (fun h => by cases h) (fun _ d c r e => ?_))
    have := congrArg List.length e
    simp at this; omega
  intro v1 v2 v3 v4 v5 v6 t ht1 ht2
  cases t with
  | true =>
   obtain ⟨d, c, r, hdd, hdash⟩ := ht1 rfl
   have hlen := congrArg List.length hdd
   simp at hlen
   have hcc : ins[i + 2]? = some c := by
    have : (ins.drop (i + 1))[1]? = some c := by rw [hdd]; rfl
    rw [List.getElem?_drop] at this; exact this
   have hr : ins.drop (i + 3) = r := by
    have : (ins.drop (i + 1)).drop 2 = r := by rw [hdd]; rfl
    rw [List.drop_drop] at this; exact this
   obtain ⟨g3, o3, c1, c2, _, c4⟩ := chRow_at hx hcc
   rw [hdd, inSet_go hdash] at hacc
   refine br_t rfl ?_
   have e2' : IntKind.i64.wrap ((i : Int) + 2) = ((i + 2 : Nat) : Int) := e2
   have fin : ∀ s : Bool, s = (acc || (leC8 a.1 b && leC8 b c.1)) -> ∀ w1 w2 w3 w4 w5 w6, j13 ((b.toNat : Nat) : Int) (some ⟨bi, 0, none⟩) (some ⟨bn, 0, none⟩) s (IntKind.i64.wrap ((i : Int) + 2)) w1 w2 w3 w4 w5 w6 σ := by
    intro s hs w1 w2 w3 w4 w5 w6
    rw [e2']
    refine h13 s (i + 2) w1 w2 w3 w4 w5 w6 (by omega) (ih (c' - 2) (by omega) (i + 2 + 1) f' s (by omega) (by omega) (by omega) ?_)
    rw [hr, hs, Bool.or_assoc]; exact hacc
   refine j_i (fun j => ∀ (s : Bool) w1 w2 w3 w4 w5 w6 u1 u2 u3 u4 u5 u6 u7 u8 u9 u10 u11 u12 u13 u14 u15 u16 u17, s = (acc || (leC8 a.1 b && leC8 b c.1)) -> j ((b.toNat : Nat) : Int) (some ⟨bi, 0, none⟩) (some ⟨bn, 0, none⟩) s (i : Int) w1 w2 w3 w4 w5 w6 u1 u2 u3 u4 u5 u6 u7 u8 u9 u10 u11 u12 u13 u14 u15 u16 u17 σ) ?_ ?_
   ·intro s w1 w2 w3 w4 w5 w6 u1 u2 u3 u4 u5 u6 u7 u8 u9 u10 u11 u12 u13 u14 u15 u16 u17 hs
    exact fin s hs _ _ _ _ _ _
   intro j38 h38
   cases acc with
   | true => exact br_t rfl (h38 true _ _ _ _ _ _ _ _ _ _ _ _ _ _ _ _ _ _ _ _ _ _ _ (by simp))
   | false =>
    refine br_f rfl (ptr_i (rd_L (rdC_of hi (by rfl)) ?_))
    rw [a1]
    refine ptr_i (if_i ⟨by omega, by show _ < ((x.len : Nat) : Int); omega⟩ (rd_I (by simpa using a4) ?_))
    rw [leC8_int]
    cases h1 : leC8 a.1 b with
    | false => exact br_f rfl (h38 false _ _ _ _ _ _ _ _ _ _ _ _ _ _ _ _ _ _ _ _ _ _ _ (by rw [h1]; rfl))
    | true =>
     refine br_t rfl (ptr_i (rd_L (rdC_of hi (by rfl)) ?_))
     rw [c1, e2']
     refine ptr_i (if_i ⟨by omega, by show _ < ((x.len : Nat) : Int); omega⟩ (rd_I (by rw [Int.toNat_natCast]; exact c4) ?_))
     refine h38 _ _ _ _ _ _ _ _ _ _ _ _ _ _ _ _ _ _ _ _ _ _ _ _ ?_
     rw [leC8_int', h1]; rfl
  | false =>
   have hnd := ht2 rfl
   rw [inSet_one hnd] at hacc
   refine br_f rfl ?_
   have fin : ∀ s : Bool, s = (acc || (b == a.1)) -> R ((b.toNat : Nat) : Int) (some ⟨bi, 0, none⟩) (some ⟨bn, 0, none⟩) s ((i + 1 : Nat) : Int) σ := by
    intro s hs
    refine ih c' (by omega) (i + 1) f' s (by omega) (by omega) (by omega) ?_
    rw [hs, Bool.or_assoc]; exact hacc
   cases acc with
   | true => exact br_t rfl (h13 true i _ _ _ _ _ _ (by omega) (fin true (by simp)))
   | false =>
    refine br_f rfl (ptr_i (rd_L (rdC_of hi (by rfl)) ?_))
    rw [a1]
    refine ptr_i (if_i ⟨by omega, by show _ < ((x.len : Nat) : Int); omega⟩ (rd_I (by simpa using a4) ?_))
    refine h13 _ i _ _ _ _ _ _ (by omega) (fin _ ?_)
    rw [u8_beq]; rfl
 exact key ins.length 0 ins.length false (Nat.zero_le _) (by omega) (by omega) (by simp)
def PcFn (σ : H) (p : Pc) (v : Value) : Prop := (p = .star /\ v = .nilFunc) \/ ((∃ g cs, v = .func (.func g) ⟨[]⟩ ⟨cs⟩) /\ ∀ (σ' : H) (b : UInt8) (K : KH), Gr σ σ' -> K (.bool (p.f b)) σ' -> callVW Tryz.prog v [.int .u8 ((b.toNat : Nat) : Int)] K σ')
theorem PcFn.gr {σ σ' : H} {p : Pc} {v : Value} (h : PcFn σ p v) (hg : Gr σ σ') : PcFn σ' p v := h.imp id fun ⟨h1, h2⟩ => ⟨h1, fun σ'' b K hg' hK => h2 σ'' b K (hg.trans hg') hK⟩
theorem PcFn.one {σ : H} {p : Pc} {v : Value} (h : PcFn σ p v) : v.oneCell' = true /\ ∀ {g : H -> Prop} {τ : H}, g τ -> oneK v g τ := by
 rcases h with ⟨_, rfl⟩ | ⟨⟨g, cs, rfl⟩, _⟩
 ·exact ⟨rfl, fun h => by unfold oneK; exact h⟩
 ·exact ⟨rfl, fun h => by unfold oneK; exact h⟩
theorem callVW_of {g : FuncId} {cs vs : List Value} {K : KH} {σ : H} (hg : isGo Tryz.prog g = true) (h : callW Tryz.prog g (vs ++ cs) K σ) : callVW Tryz.prog (.func (.func g) ⟨[]⟩ ⟨cs⟩) vs K σ := by
 unfold callVW; simp only [hg]; exact h
theorem s_gSet {l : List Ch} {x : Sl} {σ : H} (hx : RowsAt σ 2 (chRows l) x) (hc : x.len <= x.cap) (hn : l.length <= 1000000) {K : KH} (h0 : setP l = none -> ∀ σ', Gr σ σ' -> K (.tuple ⟨[.nilFunc, .int .i64 0]⟩) σ') (h1 : ∀ nt ins (n : Nat), setP l = some (nt, ins, n) -> ∀ v σ', Gr σ σ' -> PcFn σ' (.set nt ins) v -> K (.tuple ⟨[v, .int .i64 (n : Int)]⟩) σ') :
 callW Tryz.prog 188 [.slice x.base x.len x.cap] K σ := by
 refine c188 _ ?_
 unfold g188
 have hl : x.len = l.length := by have := hx.1; simpa [chRows] using this
 refine j_i (fun j => ∀ t : Bool, (t = true -> setP l = none) -> (t = false -> ∃ c0 c1 r, l = c0 :: c1 :: r /\ chIs c0 [91] = true) -> j x t σ) ?_ ?_
 case refine_2 =>
  intro j hj
  match l, hx, hl, hj with
  | [], hx, hl, hj => exact br_t (by rw [hl]; decide) (hj true (fun _ => rfl) (fun h => by cases h))
  | [_], hx, hl, hj => exact br_t (by rw [hl]; rfl) (hj true (fun _ => rfl) (fun h => by cases h))
  | c0 :: c1 :: r, hx, hl, hj =>
   obtain ⟨g, o, a1, a2, a3, _⟩ := chRow_at (i := 0) hx rfl
   refine br_f (by rw [hl]; simp only [List.length_cons, decide_eq_false_iff_not]; omega) ?_
   rw [a1]
   refine ptr_i (if_i ⟨by omega, by show _ < ((x.len : Nat) : Int); omega⟩ (rd_G (by simpa using a3) ?_))
   unfold chC
   (refine app_of rfl ?_; try dsimp only)
   refine call_i (s_gIs c0 [91] (app_B ?_))
   refine hj _ (fun h => ?_) (fun h => ⟨c0, c1, r, rfl, by simpa using h⟩)
   unfold setP
   have : chIs c0 [91] = false := by simpa using h
   simp [this]
 intro t ht1 ht2
 cases t with
 | true => exact br_t rfl (h0 (ht1 rfl) σ (Gr.refl _))
 | false =>
 obtain ⟨c0, c1, r, rfl, hc0⟩ := ht2 rfl
 obtain ⟨g, o, a1, a2, a3, _⟩ := chRow_at (i := 1) hx rfl
 refine br_f rfl ?_
 rw [a1]
 refine ptr_i (if_i ⟨by omega, by show _ < ((x.len : Nat) : Int); omega⟩ (rd_G (by simpa using a3) ?_))
 unfold chC
 (refine app_of rfl ?_; try dsimp only)
 refine call_i (s_gIs c1 [33, 94] (app_B ?_))
 have hP : setP (c0 :: c1 :: r) = (let nt := chIs c1 [33, 94]
  let fr := if nt then 2 else 1
  if fr + 1 >= (c0 :: c1 :: r).length then none
  else match findC (fun c => chIs c [93]) ((c0 :: c1 :: r).drop (fr + 1)) with
   | none => none
   | some i => some (nt, ((c0 :: c1 :: r).take (i + fr + 1)).drop fr, i + fr + 1 + 1)) := by
  unfold setP; simp only [hc0]; rfl
 generalize chIs c1 [33, 94] = nt at hP ⊢
 refine al_i ?_; intro b10 σ1 g1 e1 n1
 refine st_i2 e1 (by kernel_rfl) (by rfl) (by rfl) ?_; intro σ2 p2
 have k10 : σ2 b10 = some (.cells ⟨[.bool nt]⟩ 4 (0, 0)) := p2.same
 have g2 : Gr σ σ2 := g1.putF p2 n1
 have hx2 := hx.gr g2
 clear p2 e1
 generalize hL : c0 :: c1 :: r = L at *
 refine j_i (fun j => j x (some ⟨b10, 0, none⟩) (((if nt then 2 else 1 : Nat) : Nat) : Int) σ2) ?_ ?_
 case refine_2 =>
  intro j hj
  refine rd_B (rdC_of k10 (by rfl)) ?_
  cases nt with
  | true => exact br_t rfl hj
  | false => exact br_f rfl hj
 simp only at hP
 have hfr : (if nt = true then 2 else 1 : Nat) <= 2 := by split <;> omega
 have hfr1 : 1 <= (if nt = true then 2 else 1 : Nat) := by split <;> omega
 generalize (if nt = true then 2 else 1 : Nat) = fr at hP hfr hfr1 ⊢
 have e1 : IntKind.i64.wrap ((fr : Int) + 1) = ((fr + 1 : Nat) : Int) := by rw [wrap_id (by omega) (by omega)]; omega
 rw [e1]
 by_cases hge : fr + 1 >= L.length
 ·rw [if_pos hge] at hP
  exact br_t (by simp only [decide_eq_true_eq]; omega) (h0 hP σ2 g2)
 rw [if_neg hge] at hP
 have hLl : L.length <= 1000000 := hn
 refine br_f (by simp only [decide_eq_false_iff_not]; omega) (if_i ⟨bnd_none, bnd_some (by omega) (by omega)⟩ ?_)
 have sub : ∀ (k e : Nat), k <= e -> e <= L.length -> ∀ {τ : H}, RowsAt τ 2 (chRows L) x -> ∀ m : Nat, RowsAt τ 2 (chRows ((L.take e).drop k)) ⟨slBase x.base k x.cap 2, e - k, m⟩ := by
  intro k e hk he τ h m
  have := h.sub hc hk (by simpa [chRows] using he) m
  unfold chRows at this ⊢
  rw [List.map_drop, List.map_take]; exact this
 have hsub1 := sub (fr + 1) L.length (by omega) (Nat.le_refl _) hx2 (x.cap - (fr + 1))
 rw [List.take_length] at hsub1
 rw [hl]
 refine call_i (s_gIdxC hsub1 (by rw [List.length_drop]; omega) (app_I ?_))
 cases hfi : findC (fun c => chIs c [93]) (L.drop (fr + 1)) with
 | none =>
  rw [hfi] at hP
  exact br_t rfl (h0 hP σ2 g2)
 | some i =>
  rw [hfi] at hP
  simp only at hP
  have hib : i < (L.drop (fr + 1)).length := by
   have : ∀ (f : Ch -> Bool) (l : List Ch) (n : Nat), findC f l = some n -> n < l.length := by
    intro f l
    induction l with
    | nil => intro n h; cases h
    | cons c r ih =>
     intro n h
     rw [findC] at h
     split at h
     ·cases h; simp
     ·cases hq : findC f r with
      | none => rw [hq] at h; cases h
      | some k => rw [hq] at h; simp at h; have := ih k hq; simp; omega
   exact this _ _ _ hfi
  rw [List.length_drop] at hib
  refine br_f (by simp) ?_
  have e3 : IntKind.i64.wrap ((((some i).map fun (n : Nat) => (n : Int)).getD (-1)) + ((fr + 1 : Nat) : Int)) = ((i + fr + 1 : Nat) : Int) := by
   show IntKind.i64.wrap ((i : Int) + ((fr + 1 : Nat) : Int)) = _
   rw [wrap_id (by omega) (by omega)]; omega
  rw [e3]
  refine if_i ⟨bnd_some (by omega) (by omega), bnd_some (by omega) (by omega)⟩ ?_
  refine al_i ?_; intro b16 σ3 g3 e4 n3
  refine st_i2 e4 (by kernel_rfl) (by rfl) (by rfl) ?_; intro σ4 p4
  have k16 := p4.same
  have g4 : Gr σ2 σ4 := g3.putF p4 n3
  have hsub2 := sub fr (i + fr + 1) (by omega) (by omega) (hx.gr (g2.trans g4)) (x.cap - fr)
  have e5 : IntKind.i64.wrap (((i + fr + 1 : Nat) : Int) + 1) = ((i + fr + 1 + 1 : Nat) : Int) := by rw [wrap_id (by omega) (by omega)]; omega
  rw [e5]
  have hz := h1 _ _ _ hP (.func (.func 230) ⟨[]⟩ ⟨[.pointer (some ⟨b16, 0, none⟩), .pointer (some ⟨b10, 0, none⟩)]⟩) σ4 (g2.trans g4)
  refine hz (.inr ⟨⟨_, _, rfl⟩, fun σ' b K hg hK => ?_⟩)
  refine callVW_of go_gSet2 (s_gSet2 (x := ⟨slBase x.base fr x.cap 2, i + fr + 1 - fr, x.cap - fr⟩) (hg.get k16) (hg.get (g4.get k10)) (hsub2.gr hg) ?_ b hK)
  rw [List.length_drop, List.length_take]; omega
theorem go_gChars1 : isGo Tryz.prog 227 = true := by kernel_rfl
theorem go_gPieces1 : isGo Tryz.prog 190 = true := by kernel_rfl
theorem go_gPieces2 : isGo Tryz.prog 191 = true := by kernel_rfl
theorem sz_gchar : sizeT Tryz.prog 234 = some 2 := by kernel_rfl
theorem sz_gcharL : sizeT Tryz.prog 229 = some 1 := by kernel_rfl
theorem sz_Run : sizeT Tryz.prog 29 = some 3 := by kernel_rfl
theorem el_gchar : ElT Tryz.prog 229 234 2 := elT_of (by kernel_rfl) (by decide) (by kernel_rfl)
theorem el_gpiece : ElT Tryz.prog 177 180 3 := elT_of (by kernel_rfl) (by decide) (by kernel_rfl)
def pcRow (p : Pc) (v : Value) : List Value := [.bool p.isStar, v, .bool p.odd]
def PcRows (σ : H) (l : List Pc) (rows : List (List Value)) : Prop := rows.length = l.length /\ ∀ (i : Nat) (p : Pc), l[i]? = some p -> ∃ v, rows[i]? = some (pcRow p v) /\ PcFn σ p v
theorem PcRows.nil (σ : H) : PcRows σ [] [] := ⟨rfl, fun i p h => by simp at h⟩
theorem PcRows.gr {σ σ' : H} {l : List Pc} {rows : List (List Value)} (h : PcRows σ l rows) (hg : Gr σ σ') : PcRows σ' l rows := ⟨h.1, fun i p hi => by
 obtain ⟨v, h1, h2⟩ := h.2 i p hi
 exact ⟨v, h1, h2.gr hg⟩⟩
theorem PcRows.snoc {σ : H} {l : List Pc} {rows : List (List Value)} (h : PcRows σ l rows) {p : Pc} {v : Value} (hv : PcFn σ p v) : PcRows σ (l ++ [p]) (rows ++ [pcRow p v]) := by
 refine ⟨by simp [h.1], fun i q hi => ?_⟩
 rw [List.getElem?_append] at hi
 by_cases hlt : i < l.length
 ·rw [if_pos hlt] at hi
  obtain ⟨w, h1, h2⟩ := h.2 i q hi
  exact ⟨w, by rw [List.getElem?_append_left (by rw [h.1]; exact hlt)]; exact h1, h2⟩
 ·rw [if_neg hlt] at hi
  have : i - l.length = 0 := by
   rcases Nat.eq_zero_or_pos (i - l.length) with h | h
   ·exact h
   ·rw [List.getElem?_eq_none (by simp; omega)] at hi; cases hi
  rw [this] at hi
  simp at hi; subst hi
  refine ⟨v, ?_, hv⟩
  rw [List.getElem?_append_right (by rw [h.1]; omega), h.1, this]; rfl
def PcsAt (σ : H) (l : List Pc) (x : Sl) : Prop := ∃ rows, RowsAt σ 3 rows x /\ PcRows σ l rows
theorem PcsAt.gr {σ σ' : H} {l : List Pc} {x : Sl} (h : PcsAt σ l x) (hg : Gr σ σ') : PcsAt σ' l x := by
 obtain ⟨rows, h1, h2⟩ := h
 exact ⟨rows, h1.gr hg, h2.gr hg⟩
theorem PcsAt.len {σ : H} {l : List Pc} {x : Sl} (h : PcsAt σ l x) : x.len = l.length := by
 obtain ⟨rows, h1, h2⟩ := h
 rw [h1.1, h2.1]
theorem findC_lt (f : Ch -> Bool) : ∀ (l : List Ch) (n : Nat), findC f l = some n -> n < l.length := by
 intro l
 induction l with
 | nil => intro n h; cases h
 | cons c r ih =>
  intro n h
  rw [findC] at h
  split at h
  ·cases h; simp
  ·cases hq : findC f r with
   | none => rw [hq] at h; cases h
   | some k => rw [hq] at h; simp at h; have := ih k hq; simp; omega
theorem setP_len {l : List Ch} {nt : Bool} {ins : List Ch} {n : Nat} (h : setP l = some (nt, ins, n)) : 1 <= n /\ n <= l.length := by
 match l, h with
 | [], h => cases h
 | [_], h => cases h
 | c0 :: c1 :: r, h =>
  unfold setP at h
  simp only at h
  by_cases h1 : chIs c0 [91] = false
  ·rw [if_pos h1] at h; cases h
  rw [if_neg h1] at h
  generalize (if chIs c1 [33, 94] = true then 2 else 1 : Nat) = fr at h
  by_cases h2 : fr + 1 >= (c0 :: c1 :: r).length
  ·rw [if_pos h2] at h; cases h
  rw [if_neg h2] at h
  cases hf : findC (fun c => chIs c [93]) (List.drop (fr + 1) (c0 :: c1 :: r)) with
  | none => rw [hf] at h; cases h
  | some i =>
   rw [hf] at h
   have := findC_lt _ _ _ hf
   rw [List.length_drop] at this
   injection h with h; injection h with _ h; injection h with _ h
   omega
theorem piecesF_more : ∀ (f : Nat) (l : List Ch), l.length <= f -> piecesF f l = piecesL l := by
 intro f
 induction f using Nat.strongRecOn with
 | _ f ih =>
 intro l hl
 unfold piecesL
 match f, l, hl with
 | 0, [], _ => rfl
 | f + 1, [], _ => rfl
 | f + 1, c :: r, hl =>
  simp only [List.length_cons] at hl ⊢
  rw [piecesF, piecesF]
  cases hs : setP (c :: r) with
  | none => simp only; rw [ih f (by omega) r (by omega), ih r.length (by omega) r (Nat.le_refl _)]
  | some q =>
   obtain ⟨nt, ins, n⟩ := q
   have hn : 1 <= n := (setP_len hs).1
   simp only
   have hd : ((c :: r).drop n).length <= r.length := by rw [List.length_drop, List.length_cons]; omega
   rw [ih f (by omega) _ (by omega), ih r.length (by omega) _ hd]
theorem piecesL_set {c : Ch} {r : List Ch} {nt : Bool} {ins : List Ch} {n : Nat} (h : setP (c :: r) = some (nt, ins, n)) : piecesL (c :: r) = .set nt ins :: piecesL ((c :: r).drop n) := by
 obtain ⟨h1, h2⟩ := setP_len h
 unfold piecesL
 simp only [List.length_cons]
 rw [piecesF, h]
 simp only
 rw [piecesF_more _ _ (by rw [List.length_drop, List.length_cons]; omega)]; rfl
theorem piecesL_one {c : Ch} {r : List Ch} (h : setP (c :: r) = none) : piecesL (c :: r) = piece1 c :: piecesL r := by
 unfold piecesL
 simp only [List.length_cons]
 rw [piecesF, h]
theorem chs_len (r : Rn) : r.chs.length = r.t.size := by unfold Rn.chs; rw [List.length_map, <- size_list]
theorem rnRow_at {σ : H} {l : List Rn} {x : Sl} (h : RowsAt σ 3 (rnRows l) x) {i : Nat} {r : Rn} (hi : l[i]? = some r) : ∃ g o, x.base = some ⟨g, o, none⟩ /\ i < x.len /\ rdA 3 g (o + i * 3) σ = some (.agg ⟨r.cells⟩) := by
 obtain ⟨g, o, h1, h2, h3⟩ := h.rdA (i := i) (r := r.cells) (by unfold rnRows; rw [List.getElem?_map, hi]; rfl) (by decide)
 refine ⟨g, o, h1, ?_, h2⟩
 have hl : x.len = l.length := by have := h.1; simpa [rnRows] using this
 rw [hl]
 rcases Nat.lt_or_ge i l.length with h | h
 ·exact h
 ·rw [List.getElem?_eq_none h] at hi; cases hi
theorem drop_cons {α : Type} {l : List α} {i : Nat} {a : α} (h : l[i]? = some a) : l.drop i = a :: l.drop (i + 1) := by
 have hlt : i < l.length := by
  rcases Nat.lt_or_ge i l.length with h' | h'
  ·exact h'
  ·rw [List.getElem?_eq_none h'] at h; cases h
 rw [List.drop_eq_getElem_cons hlt]
 rw [List.getElem?_eq_getElem hlt] at h
 rw [Option.some.inj h]
theorem s_gPieces {p : List Rn} {x : Sl} {σ : H} (hx : RowsAt σ 3 (rnRows p) x) (hp : p.length <= 1000000) (hn : (charsR p).length <= 1000000) {K : KH} (hK : ∀ y σ', Gr σ σ' -> PcsAt σ' (piecesP p) y -> K (.slice y.base y.len y.cap) σ') :
 callW Tryz.prog 131 [.slice x.base x.len x.cap] K σ := by
 refine c131 _ ?_
 unfold g131
 refine al_i ?_; intro b2 σ1 g1 e1 n1
 have hxl : x.len = p.length := by have := hx.1; simpa [rnRows] using this
 -- what is gathered
 refine j_i (fun j => ∀ (y : Sl) (τ : H), RNew σ τ 234 2 (chRows (charsR p)) y -> y.base ≠ some ⟨b2, 0, none⟩ -> τ b2 = some (.cells ⟨[.slice y.base y.len y.cap]⟩ 229 (0, 0)) -> j (some ⟨b2, 0, none⟩) τ) ?_ ?_
 case refine_2 =>
  intro j3 h3
  refine call_i (c187 _ ?_)
  unfold g187
  refine al_i ?_; intro bc σ2 g2 e2 n2
  refine app_R (fun_i (rf_i go_gChars1 ?_))
  intro l obj σ3 nl pl hobj hY
  have f2 : σ b2 = none := n1
  have fc : σ bc = none := none_of g1 n2
  have fl : σ l = none := none_of (g1.trans g2) nl
  have n2c : b2 ≠ bc := ne_fr n2 (isSome_of e1)
  have n2l : b2 ≠ l := ne_fr nl (isSome_of (g2.get e1))
  have ncl : bc ≠ l := ne_fr nl (isSome_of e2)
  have w2 := pl.get n2l (g2.get e1)
  have wc := pl.get ncl e2
  have wl := pl.same
  have hg3 : Gr σ σ3 := (g1.trans g2).putF pl fl
  clear pl e1 e2 g1 g2
  refine c227 _ _ ?_
  unfold g227
  refine ptr_i (rd_L (rdC_of wc (by rfl)) (loop_i ?_))
  intro R hR
  -- one more character
  have step : ∀ (c : Ch) (acc : List Ch) (y : Sl) (τ : H) (b16 : Nat) (o16 : Obj) (F : Bool -> H -> Prop), acc.length < 1000000 -> RNew σ τ 234 2 (chRows acc) y -> (∀ g, y.base = some ⟨g, 0, none⟩ -> g ≠ b2 /\ g ≠ l /\ g ≠ b16) -> τ b2 = some (.cells ⟨[.slice y.base y.len y.cap]⟩ 229 (0, 0)) -> τ l = some (obj .ready none) -> τ b16 = some o16 -> b16 ≠ b2 -> b16 ≠ l ->
   (∀ y' τ', RNew σ τ' 234 2 (chRows (acc ++ [c])) y' -> (∀ g, y'.base = some ⟨g, 0, none⟩ -> g ≠ b2 /\ g ≠ l /\ g ≠ b16) -> τ' b2 = some (.cells ⟨[.slice y'.base y'.len y'.cap]⟩ 229 (0, 0)) -> τ' l = some (obj .ready none) -> τ' b16 = some o16 -> F true τ') ->
   cvalT Tryz.prog (yv l) [.agg ⟨[.int .u8 ((c.1.toNat : Nat) : Int), .bool c.2]⟩] kB F τ := by
   intro c acc y τ b16 o16 F hal hN hne k2 kl k16 m1 m2 hF
   refine cvalv_i (yv_call (hY _ _ _ ⟨kl, ?_⟩))
   show alW _ _ τ
   refine al_i ?_; intro b54 τ1 q1 e1 n1
   refine st_i2 e1 sz_gchar (by rfl) (by rfl) ?_; intro τ2 p2
   have l54 : l ≠ b54 := ne_fr n1 (isSome_of kl)
   have b254 : b2 ≠ b54 := ne_fr n1 (isSome_of k2)
   have b1654 : b16 ≠ b54 := ne_fr n1 (isSome_of k16)
   refine beg_i (p2.get l54 (q1.get kl)) ?_
   intro τ3 p3
   have k54 := p3.get l54.symm p2.same
   have k2' := p3.get n2l (p2.get b254 (q1.get k2))
   have k16' := p3.get m2 (p2.get b1654 (q1.get k16))
   have f54 : σ b54 = none := none_of hN.1 n1
   have hN3 : RNew σ τ3 234 2 (chRows acc) y := ((hN.gr q1).putF p2 f54 (fun e => hN.2.1.has e n1)).putF p3 fl (fun e => (hne _ e).2.1 rfl)
   have hbusy := p3.same
   clear p2 p3
   refine rd_L (rdC_of k2' (by rfl)) (rd_G (rdA_of' k54 (by rfl)) ?_)
   (refine app_of rfl ?_; try dsimp only)
   refine hN3.app1 el_gchar rfl rfl (by unfold chRows; rw [List.length_map]; omega) ?_
   intro y' τ4 hN4 hkeep hb
   have hne3 : ∀ c, (c = b2 \/ c = l \/ c = b16) -> y.base ≠ some ⟨c, 0, none⟩ := by
    intro c hc e
    obtain ⟨u1, u2, u3⟩ := hne _ e
    rcases hc with h | h | h
    ·exact u1 h
    ·exact u2 h
    ·exact u3 h
   have k2'' := hkeep b2 _ k2' (hne3 _ (.inl rfl))
   have kl'' := hkeep l _ hbusy (hne3 _ (.inr (.inl rfl)))
   have k16'' := hkeep b16 _ k16' (hne3 _ (.inr (.inr rfl)))
   have hne' : ∀ g, y'.base = some ⟨g, 0, none⟩ -> g ≠ b2 /\ g ≠ l /\ g ≠ b16 := by
    intro g hg
    rcases hb g hg with h | h
    ·exact hne g h
    ·refine ⟨fun e => ?_, fun e => ?_, fun e => ?_⟩
     ·rw [e, k2'] at h; cases h
     ·rw [e, hbusy] at h; cases h
     ·rw [e, k16'] at h; cases h
   refine st_i2 k2'' sz_gcharL (by rfl) (by rfl) ?_; intro τ5 p5
   refine round_i (p5.get n2l.symm kl'') ?_
   intro τ6 p6
   refine app_B (hF y' τ6 ?_ hne' (p6.get n2l p5.same) p6.same (p6.get m2 (p5.get m1 k16'')))
   have hrow : chRows (acc ++ [c]) = chRows acc ++ [[.int .u8 ((c.1.toNat : Nat) : Int), .bool c.2]] := by unfold chRows; rw [List.map_append]; rfl
   rw [hrow]
   exact (hN4.putF p5 f2 (fun e => (hne' _ e).1 rfl)).putF p6 fl (fun e => (hne' _ e).2.1 rfl)
  have key : ∀ (c i : Nat) (acc : List Ch) (y : Sl) (τ : H), c + i = p.length -> acc = charsR (p.take i) -> RNew σ τ 234 2 (chRows acc) y -> (∀ g, y.base = some ⟨g, 0, none⟩ -> g ≠ b2 /\ g ≠ l) -> τ b2 = some (.cells ⟨[.slice y.base y.len y.cap]⟩ 229 (0, 0)) -> τ l = some (obj .ready none) -> R (yv l) x ((x.len : Nat) : Int) (i : Int) τ := by
   intro c
   induction c with
   | zero =>
    intro i acc y τ hc ha hN hne k2 kl
    refine hR _ _ _ _ _ ?_
    refine br_f (by simp only [decide_eq_false_iff_not]; omega) (end_n kl (by intro h; cases h) ?_)
    intro τ' pe
    rw [List.take_of_length_le (by omega)] at ha
    subst ha
    exact h3 y τ' (hN.putF pe fl (fun e => (hne _ e).2 rfl)) (fun e => (hne _ e).1 rfl) (pe.get n2l k2)
   | succ c ih =>
    intro i acc y τ hc ha hN hne k2 kl
    obtain ⟨r, hr⟩ : ∃ r, p[i]? = some r := ⟨_, List.getElem?_eq_getElem (by omega)⟩
    obtain ⟨g, o, a1, a2, a3⟩ := rnRow_at (hx.gr hN.1) hr
    refine hR _ _ _ _ _ ?_
    refine br_t (by simp only [decide_eq_true_eq]; omega) ?_
    rw [a1]
    refine ptr_i (if_i ⟨by omega, by show _ < ((x.len : Nat) : Int); omega⟩ (rd_G (by rw [Int.toNat_natCast]; exact a3) ?_))
    unfold Rn.cells
    (refine app_of rfl ?_; try dsimp only)
    refine al_i ?_; intro b16 τ1 q1 e1 n1
    refine st_i2 e1 sz_Run (by rfl) (by rfl) ?_; intro τ2 p2
    have k16 := p2.same
    have l16 : l ≠ b16 := ne_fr n1 (isSome_of kl)
    have b216 : b2 ≠ b16 := ne_fr n1 (isSome_of k2)
    have f16 : σ b16 = none := none_of hN.1 n1
    have hN2 : RNew σ τ2 234 2 (chRows acc) y := (hN.gr q1).putF p2 f16 (fun e => hN.2.1.has e n1)
    have k2' := p2.get b216 (q1.get k2)
    have kl' := p2.get l16 (q1.get kl)
    have hne2 : ∀ g, y.base = some ⟨g, 0, none⟩ -> g ≠ b2 /\ g ≠ l /\ g ≠ b16 := fun g hg => ⟨(hne g hg).1, (hne g hg).2, fun e => by rw [e] at hg; exact hN.2.1.has hg n1⟩
    clear p2 e1
    refine rd_S (rdC_of k16 (by rfl)) (loop_i ?_)
    intro R2 hR2
    have hcl : (charsR (p.take (i + 1))).length <= 1000000 := by
     have : charsR p = charsR (p.take (i + 1)) ++ charsR (p.drop (i + 1)) := by rw [<- charsR_app, List.take_append_drop]
     rw [this, List.length_append] at hn; omega
    have htk : charsR (p.take (i + 1)) = acc ++ r.chs := by
     rw [List.take_add_one, hr, charsR_app, <- ha]
     simp [charsR]
    have hsz : r.t.size <= 1000000 := by
     have h1 := hcl
     rw [htk, List.length_append, chs_len] at h1; omega
    have key2 : ∀ (c2 k : Nat) (acc2 : List Ch) (y : Sl) (τ : H), c2 + k = r.t.size -> acc2 = acc ++ r.chs.take k -> RNew σ τ 234 2 (chRows acc2) y -> (∀ g, y.base = some ⟨g, 0, none⟩ -> g ≠ b2 /\ g ≠ l /\ g ≠ b16) -> τ b2 = some (.cells ⟨[.slice y.base y.len y.cap]⟩ 229 (0, 0)) -> τ l = some (obj .ready none) -> τ b16 = some (.cells ⟨[.string r.t, .bool r.q, .bool r.s]⟩ 29 (0, 0)) ->
     R2 (yv l) (some ⟨b16, 0, none⟩) x ((x.len : Nat) : Int) (i : Int) ((r.t.size : Nat) : Int) (k : Int) τ := by
     intro c2
     induction c2 with
     | zero =>
      intro k acc2 y τ hk ha2 hN hne k2 kl k16
      refine hR2 _ _ _ _ _ _ _ _ ?_
      refine br_f (by simp only [decide_eq_false_iff_not]; omega) ?_
      rw [wrapS (i := i) (by omega)]
      refine ih (i + 1) acc2 y τ (by omega) ?_ hN (fun g hg => ⟨(hne g hg).1, (hne g hg).2.1⟩) k2 kl
      rw [ha2, htk, List.take_of_length_le (by rw [chs_len]; omega)]
     | succ c2 ih2 =>
      intro k acc2 y τ hk ha2 hN hne k2 kl k16
      have hlen : r.t.data.toList.length = r.t.size := (size_list r.t).symm
      obtain ⟨ch, hch⟩ : ∃ ch, r.t.data.toList[k]? = some ch := ⟨_, List.getElem?_eq_getElem (by omega)⟩
      refine hR2 _ _ _ _ _ _ _ _ ?_
      refine br_t (by simp only [decide_eq_true_eq]; omega) (ptr_i (rd_S (rdC_of k16 (by rfl)) (idx_l (c := ch) (by omega) (by simpa using hch) (ptr_i (rd_B (rdC_of k16 (by rfl)) ?_)))))
      have hchs : r.chs[k]? = some (ch, r.q) := by unfold Rn.chs; rw [List.getElem?_map, hch]; rfl
      refine step (ch, r.q) acc2 y τ b16 _ _ ?_ hN hne k2 kl k16 b216.symm l16.symm ?_
      ·have h1 : acc2.length + 1 <= (acc ++ r.chs).length := by
        rw [ha2, List.length_append, List.length_append, List.length_take, chs_len]; omega
       rw [htk] at hcl; omega
      intro y' τ' hN' hne' k2' kl' k16'
      refine br_f rfl ?_
      rw [wrapS (i := k) (by omega)]
      refine ih2 (k + 1) _ y' τ' (by omega) ?_ hN' hne' k2' kl' k16'
      rw [ha2, List.take_add_one, hchs, List.append_assoc]; rfl
    exact key2 r.t.size 0 acc y τ2 (by omega) (by simp) hN2 hne2 k2' kl' k16
  exact key p.length 0 [] ⟨none, 0, 0⟩ σ3 (by omega) rfl (RNew.nil' hg3 _ _) (fun g h => by cases h) w2 wl
 -- piece by piece
 intro y τ hN hyb k2
 refine loop_i ?_
 intro R hR
 generalize hL : charsR p = L at hN hn
 have hyl : y.len <= y.cap := by
  obtain ⟨_, _, ⟨q1, q2, q3⟩ | ⟨_, _, _, _, _, q, _⟩⟩ := hN.2.1
  ·have := hN.len; rw [q3] at this; simp at this; omega
  ·exact q
 have hyL : y.len = L.length := by have := hN.len; simpa [chRows] using this
 -- ρ: without the cell of l
 have f2 : σ b2 = none := n1
 have key : ∀ (c i : Nat) (ps : List Pc) (out z : Sl) (rows : List (List Value)) (ρ τ : H), L.length <= c + i -> i <= L.length -> piecesL L = ps ++ piecesL (L.drop i) -> ps.length <= i -> Gr σ ρ -> Gr ρ τ -> ρ b2 = none -> RowsAt ρ 2 (chRows (L.drop i)) z -> z.len <= z.cap -> τ b2 = some (.cells ⟨[.slice z.base z.len z.cap]⟩ 229 (0, 0)) -> RNew ρ τ 180 3 rows out -> out.base ≠ some ⟨b2, 0, none⟩ -> PcRows ρ ps rows -> R (some ⟨b2, 0, none⟩) out τ := by
  intro c
  induction c with
  | zero =>
   intro i ps out z rows ρ τ hc hi hps hpl G1 G2 hρ hz hzc kz hO hob hP
   have hzl : z.len = (L.drop i).length := by have := hz.1; simpa [chRows] using this
   rw [List.length_drop] at hzl
   refine hR _ _ _ ?_
   refine ptr_i (rd_L (rdC_of kz (by rfl)) (br_f (by simp only [decide_eq_false_iff_not]; omega) ?_))
   have : L.drop i = [] := List.drop_eq_nil_of_le (by omega)
   rw [this] at hps
   have hps : piecesL L = ps := by rw [hps]; simp [piecesL, piecesF]
   refine hK out τ (G1.trans G2) ⟨rows, hO.at, ?_⟩
   unfold piecesP; rw [hL, hps]; exact hP.gr G2
  | succ c ih =>
   intro i ps out z rows ρ τ hc hi hps hpl G1 G2 hρ hz hzc kz hO hob hP
   have hzl : z.len = (L.drop i).length := by have := hz.1; simpa [chRows] using this
   rw [List.length_drop] at hzl
   by_cases hlt : i < L.length
   case neg => exact ih i ps out z rows ρ τ (by omega) hi hps hpl G1 G2 hρ hz hzc kz hO hob hP
   obtain ⟨ch, hch⟩ : ∃ ch, L[i]? = some ch := ⟨_, List.getElem?_eq_getElem hlt⟩
   have hdr := drop_cons hch
   rw [hdr] at hps
   obtain ⟨g0, o0, a1, a2, a3, _⟩ := chRow_at (i := 0) (hz.gr G2) (by rw [hdr]; rfl)
   refine hR _ _ _ ?_
   refine ptr_i (rd_L (rdC_of kz (by rfl)) (br_t (by simp only [decide_eq_true_eq]; omega) (ptr_i (rd_L (rdC_of kz (by rfl)) ?_))))
   rw [a1]
   refine ptr_i (if_i ⟨by omega, by show _ < ((z.len : Nat) : Int); omega⟩ (rd_G (by simpa using a3) ?_))
   unfold chC
   (refine app_of rfl ?_; try dsimp only)
   refine al_i ?_; intro b18 τ1 q1 e1 n1
   refine st_i2 e1 sz_gchar (by rfl) (by rfl) ?_; intro τ2 p2
   have f18 : ρ b18 = none := none_of G2 n1
   have k18 := p2.same
   have b218 : b2 ≠ b18 := ne_fr n1 (isSome_of kz)
   have kz2 := p2.get b218 (q1.get kz)
   have hO2 : RNew ρ τ2 180 3 rows out := (hO.gr q1).putF p2 f18 (fun e => hO.2.1.has e n1)
   have ho18 : out.base ≠ some ⟨b18, 0, none⟩ := fun e => hO.2.1.has e n1
   clear p2 e1
   -- ρ2: with the copy
   have hρ2 : ∃ ρ2 : H, Gr ρ ρ2 /\ Gr ρ2 τ2 /\ ρ2 b2 = none /\ ρ2 b18 = some (.cells ⟨[.int .u8 ((ch.1.toNat : Nat) : Int), .bool ch.2]⟩ 234 (0, 0)) /\ ∀ g, out.base = some ⟨g, 0, none⟩ -> ρ2 g = none := by
    refine ⟨ρ.put b18 (.cells ⟨[.int .u8 ((ch.1.toNat : Nat) : Int), .bool ch.2]⟩ 234 (0, 0)), Gr.put f18 _, hO2.1.put_in k18, ?_, H.put_same _ _ _, fun g hg => ?_⟩
    ·rw [H.put_other _ _ b218]; exact hρ
    ·have : g ≠ b18 := fun e => ho18 (by rw [<- e]; exact hg)
     rw [H.put_other _ _ this]; exact hO2.2.2 g hg
   obtain ⟨ρ2, r1, r2, r3, r4, r5⟩ := hρ2
   have hO2' : RNew ρ2 τ2 180 3 rows out := ⟨r2, hO2.2.1, r5⟩
   refine ptr_i (rd_L (rdC_of kz2 (by rfl)) ?_)
   have rowl : rows.length < 1000000000 := by rw [hP.1]; omega
   -- going on, from a heaplet in which the piece's function is known
   have on : ∀ (pc : Pc) (v : Value) (n : Nat) (ρ3 τ3 : H) (out' : Sl), 1 <= n -> i + n <= L.length -> piecesL (ch :: L.drop (i + 1)) = pc :: piecesL (L.drop (i + n)) -> Gr ρ2 ρ3 -> ρ3 b2 = none -> PcFn ρ3 pc v -> RNew ρ3 τ3 180 3 (rows ++ [pcRow pc v]) out' -> out'.base ≠ some ⟨b2, 0, none⟩ -> τ3 b2 = some (.cells ⟨[.slice z.base z.len z.cap]⟩ 229 (0, 0)) ->
    stW Tryz.prog 229 (.pointer (some ⟨b2, 0, none⟩)) (.slice (slBase z.base n z.cap 2) (z.len - n) (z.cap - n)) (R (some ⟨b2, 0, none⟩) out') τ3 := by
    intro pc v n ρ3 τ3 out' hn1 hnl hpc s1 s2 s3 s4 s5 s6
    refine st_i2 s6 sz_gcharL (by rfl) (by rfl) ?_; intro τ4 p4
    have hsub := (hz.gr (r1.trans s1)).sub hzc (k := n) (e := z.len) (by omega) (by rw [hz.1]; exact Nat.le_refl _) (z.cap - n)
    have hrw : ((chRows (L.drop i)).take z.len).drop n = chRows (L.drop (i + n)) := by
     rw [hz.1, List.take_length]
     unfold chRows
     rw [<- List.map_drop, List.drop_drop]
    rw [hrw] at hsub
    refine ih (i + n) (ps ++ [pc]) out' ⟨slBase z.base n z.cap 2, z.len - n, z.cap - n⟩ _ ρ3 τ4 (by omega) hnl ?_ (by rw [List.length_append]; simp; omega) (G1.trans (r1.trans s1)) (s4.1.putF p4 s2) s2 hsub (by show z.len - n <= z.cap - n; omega) p4.same (s4.putF p4 s2 s5) s5 ((hP.gr (r1.trans s1)).snoc s3)
    rw [hps, hpc]; simp
   -- append, from there
   have app : ∀ (pc : Pc) (v : Value) (ρ3 τ3 : H) (F : Sl -> H -> Prop), Gr ρ2 ρ3 -> ρ3 b2 = none -> PcFn ρ3 pc v -> RNew ρ3 τ3 180 3 rows out -> τ3 b2 = some (.cells ⟨[.slice z.base z.len z.cap]⟩ 229 (0, 0)) ->
    (∀ out' τ4, RNew ρ3 τ4 180 3 (rows ++ [pcRow pc v]) out' -> out'.base ≠ some ⟨b2, 0, none⟩ -> τ4 b2 = some (.cells ⟨[.slice z.base z.len z.cap]⟩ 229 (0, 0)) -> F out' τ4) ->
    alW (.cells ⟨[.bool pc.isStar, v, .bool pc.odd]⟩ 180 (0, 0)) (fun b => biW Tryz.prog .append #[177, 177] 177 [false, false] [.slice out.base out.len out.cap, .slice (some ⟨b, 0, none⟩) 1 1] kL F) τ3 := by
    intro pc v ρ3 τ3 F s1 s2 s3 s4 s5 hF
    refine s4.app1 el_gpiece rfl ?_ rowl ?_
    ·simp only [List.all_cons, List.all_nil, Bool.and_true, Bool.and_eq_true]
     exact ⟨rfl, s3.one.1, rfl⟩
    intro out' τ4 h1 h2 h3
    have hob' : out'.base ≠ some ⟨b2, 0, none⟩ := by
     intro e
     rcases h3 _ e with h | h
     ·exact hob h
     ·rw [s5] at h; cases h
    exact hF out' τ4 h1 hob' (h2 b2 _ s5 hob)
   have hzset := s_gSet (l := L.drop i) (x := z) (hz.gr r1) hzc (by rw [List.length_drop]; omega) (K := fun v τ' => ((∃ u, v = .tuple ⟨[u, .int .i64 0]⟩) /\ setP (L.drop i) = none /\ Gr ρ2 τ') \/ ∃ nt ins n u, setP (L.drop i) = some (nt, ins, n) /\ v = .tuple ⟨[u, .int .i64 (n : Int)]⟩ /\ Gr ρ2 τ' /\ PcFn τ' (.set nt ins) u) (fun h τ' hg => .inl ⟨⟨_, rfl⟩, h, hg⟩) (fun nt ins n h v τ' hg hv => .inr ⟨nt, ins, n, v, h, rfl, hg, hv⟩)
   refine call_from r2 hzset ?_
   rintro v τ3 ρ3 hv m3 m4 m5
   have s2 : ρ3 b2 = none := m5 b2 (by rw [kz2]; simp) r3
   have s6 := m4 b2 _ r3 kz2
   have hO3 : Gr ρ2 ρ3 -> RNew ρ3 τ3 180 3 rows out := fun s1 => ⟨m3, hO2'.2.1.keep fun g o hg ho => m4 g o (r5 g hg) ho, fun g hg => m5 g (hO2'.2.1.has hg) (r5 g hg)⟩
   rw [hdr] at hv
   rcases hv with ⟨⟨u, rfl⟩, hnone, s1⟩ | ⟨nt, ins, n, u, hsome, rfl, s1, hfn⟩
   case inr =>
    obtain ⟨hn1, hnl⟩ := setP_len hsome
    simp only [List.length_cons, List.length_drop] at hnl
    (refine app_of rfl ?_; try dsimp only)
    refine j_d (br_t (by simp only [decide_eq_true_eq]; omega) (hfn.one.2 ?_))
    refine app (.set nt ins) u ρ3 τ3 _ s1 s2 hfn (hO3 s1) s6 ?_
    intro out' τ4 h1 h2 h4
    refine ptr_i (rd_L (rdC_of h4 (by rfl)) (if_i ⟨bnd_none, bnd_some (by omega) (by show (n : Int) <= ((z.len : Nat) : Int); omega)⟩ ?_))
    refine on (.set nt ins) u n ρ3 τ4 out' hn1 (by omega) ?_ s1 s2 hfn h1 h2 h4
    rw [piecesL_set hsome, <- hdr, List.drop_drop]
   case inl =>
    have h1p := piecesL_one hnone
    have fin : ∀ (v : Value) (out' : Sl) (τ4 : H), PcFn ρ3 (piece1 ch) v -> RNew ρ3 τ4 180 3 (rows ++ [pcRow (piece1 ch) v]) out' -> out'.base ≠ some ⟨b2, 0, none⟩ -> τ4 b2 = some (.cells ⟨[.slice z.base z.len z.cap]⟩ 229 (0, 0)) -> stW Tryz.prog 229 (.pointer (some ⟨b2, 0, none⟩)) (.slice (slBase z.base 1 z.cap 2) (z.len - 1) (z.cap - 1)) (R (some ⟨b2, 0, none⟩) out') τ4 :=
     fun v out' τ4 t1 t2 t3 t4 => on (piece1 ch) v 1 ρ3 τ4 out' (Nat.le_refl _) (by omega) h1p s1 s2 t1 t2 t3 t4
    (refine app_of rfl ?_; try dsimp only)
    refine j_i (fun j => ∀ (v : Value) (out' : Sl) (τ4 : H), PcFn ρ3 (piece1 ch) v -> RNew ρ3 τ4 180 3 (rows ++ [pcRow (piece1 ch) v]) out' -> out'.base ≠ some ⟨b2, 0, none⟩ -> τ4 b2 = some (.cells ⟨[.slice z.base z.len z.cap]⟩ 229 (0, 0)) -> j (some ⟨b2, 0, none⟩) out' τ4) ?_ ?_
    ·intro v out' τ4 t1 t2 t3 t4
     refine ptr_i (rd_L (rdC_of t4 (by rfl)) (if_i ⟨bnd_none, bnd_some (by omega) (by show (1 : Int) <= ((z.len : Nat) : Int); omega)⟩ ?_))
     exact fin v out' τ4 t1 t2 t3 t4
    intro j24 h24
    have k18' : τ3 b18 = some (.cells ⟨[.int .u8 ((ch.1.toNat : Nat) : Int), .bool ch.2]⟩ 234 (0, 0)) := m3.get (s1.get r4)
    refine br_f rfl (rd_G (rdA_of' k18' (by rfl)) ?_)
    (refine app_of rfl ?_; try dsimp only)
    refine call_i (s_gIs ch [42] (app_B ?_))
    unfold piece1 at h24
    cases hs42 : chIs ch [42] with
    | true =>
     rw [hs42] at h24
     simp only [if_true] at h24
     have hf : PcFn ρ3 .star .nilFunc := .inl ⟨rfl, rfl⟩
     refine br_t rfl (app .star .nilFunc ρ3 τ3 _ s1 s2 hf (hO3 s1) s6 ?_)
     intro out' τ4 h1 h2 h4
     exact h24 _ out' τ4 hf h1 h2 h4
    | false =>
     rw [hs42] at h24
     simp only [Bool.false_eq_true, if_false] at h24
     refine br_f rfl (rd_G (rdA_of' k18' (by rfl)) ?_)
     (refine app_of rfl ?_; try dsimp only)
     refine call_i (s_gIs ch [63] (app_B ?_))
     cases hs63 : chIs ch [63] with
     | true =>
      rw [hs63] at h24
      simp only [if_true] at h24
      have hf : PcFn ρ3 .any (.func (.func 190) ⟨[]⟩ ⟨[]⟩) := .inr ⟨⟨_, _, rfl⟩, fun σ' b K hg hK => callVW_of go_gPieces1 (c190 _ (by unfold g190; exact hK))⟩
      refine br_t rfl (app .any _ ρ3 τ3 _ s1 s2 hf (hO3 s1) s6 ?_)
      intro out' τ4 h1 h2 h4
      exact h24 _ out' τ4 hf h1 h2 h4
     | false =>
      rw [hs63] at h24
      simp only [Bool.false_eq_true, if_false] at h24
      have hf : PcFn ρ3 (.one ch.1) (.func (.func 191) ⟨[]⟩ ⟨[.pointer (some ⟨b18, 0, none⟩)]⟩) := .inr ⟨⟨_, _, rfl⟩, fun σ' b K hg hK => callVW_of go_gPieces2 (c191 _ _ (by
       unfold g191
       refine ptr_i (rd_I (rdC_of (hg.get (s1.get r4)) (by rfl)) ?_)
       rw [u8_beq]; exact hK))⟩
      refine br_f rfl (app (.one ch.1) _ ρ3 τ3 _ s1 s2 hf (hO3 s1) s6 ?_)
      intro out' τ4 h1 h2 h4
      exact h24 _ out' τ4 hf h1 h2 h4
 have hρ0 : Gr (τ.del b2) τ := H.del_gr _ _
 have hGd : Gr σ (τ.del b2) := H.gr_del hN.1 f2
 have hz0 : RowsAt (τ.del b2) 2 (chRows L) y := hN.at.keep fun g o ob hg ho => H.del_get ho (fun e => by
  obtain ⟨_, _, ⟨q1, _⟩ | ⟨g', cur, q1, _⟩⟩ := hN.2.1
  ·rw [q1] at hg; cases hg
  ·rw [q1] at hg; cases hg; rw [e] at q1; exact hyb q1)
 exact key L.length 0 [] ⟨none, 0, 0⟩ y [] (τ.del b2) τ (by omega) (Nat.zero_le _) (by simp) (Nat.le_refl _) hGd hρ0 (H.del_self _ _) (by simpa using hz0) hyl k2 (RNew.nil' hρ0 _ _) (fun e => by cases e) (PcRows.nil _)
end Go.Proofs.YtbjbeajbckcecaaGreatDoor

set_option maxRecDepth 100000
namespace Go.Proofs.YtbjbeajbckcecaaGreatDoor
open Go Go.HL Go.Wk
theorem go_NE : isGo Tryz.prog 202 = false := by kernel_rfl
theorem fn_NE : (Tryz.prog.funcs[202]?).map (fun fn => ((fn.name == "runtime.NumGoroutine"), fn.body.isNone)) = some (false, true) := by kernel_rfl
theorem ex_NE : (Tryz.prog.funcs[202]?).bind (fun fn => Extern.find fn) = some Extern.AbiNoEscape.same := by kernel_rfl
theorem en_NE : (Tryz.prog.funcs[202]?).map (fun fn => (Extern.findNext fn).isNone) = some true := by kernel_rfl
theorem x_ext {f : FuncId} {e : Array Value -> Sem Value} {args : List Value} {t : TK} {F : t.Fn (H -> Prop)} {σ : H} (hg : isGo Tryz.prog f = false) (h1 : (Tryz.prog.funcs[f]?).map (fun fn => ((fn.name == "runtime.NumGoroutine"), fn.body.isNone)) = some (false, true))
 (h2 : (Tryz.prog.funcs[f]?).bind (fun fn => Extern.find fn) = some e) (h3 : (Tryz.prog.funcs[f]?).map (fun fn => (Extern.findNext fn).isNone) = some true)
 (h : ∀ w, σ.le w -> ∃ v w' σ', (e ⟨args⟩).run Tryz.prog w = .ok v w' /\ Ext σ w σ' w' /\ app t F v σ') : cvalT Tryz.prog (.func (.func f) ⟨[]⟩ ⟨[]⟩) args t F σ := by
 unfold cvalT callVW
 simp only [hg]
 intro w hw
 obtain ⟨v, w', σ', hr, hx, ha⟩ := h w hw
 cases hf : Tryz.prog.funcs[f]? with
 | none => rw [hf] at h1; cases h1
 | some fn =>
  rw [hf] at h1 h2 h3
  simp only [Option.map_some, Option.some.injEq, Prod.mk.injEq, Option.bind_some] at h1 h2 h3
  have hc := run_callFunc_standIn hf h1.1 h1.2 (Option.isNone_iff_eq_none.1 h3) h2 ⟨args⟩ w
  have : (callS (.func (.func f) ⟨[]⟩ ⟨[]⟩) args).run Tryz.prog w = .ok (.value v) w' := by
   simp [callS, Deferred.ofValue, invoke, hc, hr]
  rw [this]
  exact ⟨σ', hx, ha⟩
theorem x_NoEsc {v : Value} {F : Value -> H -> Prop} {σ : H} (hF : F v σ) : cvalT Tryz.prog (.func (.func 202) ⟨[]⟩ ⟨[]⟩) [v] kR F σ :=
 x_ext go_NE fn_NE ex_NE en_NE fun w hw => ⟨v, w, σ, Lib.run_noEscape w v, Ext.refl hw, app_R hF⟩
theorem go_MZ : isGo Tryz.prog 219 = false := by kernel_rfl
theorem fn_MZ : (Tryz.prog.funcs[219]?).map (fun fn => ((fn.name == "runtime.NumGoroutine"), fn.body.isNone)) = some (false, true) := by kernel_rfl
theorem ex_MZ : (Tryz.prog.funcs[219]?).bind (fun fn => Extern.find fn) = some (Extern.BytealgMakeNoZero.makeNoZero #[3] #[56]) := by kernel_rfl
theorem en_MZ : (Tryz.prog.funcs[219]?).map (fun fn => (Extern.findNext fn).isNone) = some true := by kernel_rfl
theorem und_bytes : Tryz.prog.underlying 56 = some (.slice 5) := by kernel_rfl
theorem und_str : Tryz.prog.underlying 9 = some .string := by kernel_rfl
theorem und_Pu8 : Tryz.prog.underlying 197 = some (.pointer 5) := by kernel_rfl
theorem und_PBu : Tryz.prog.underlying 119 = some (.pointer 121) := by kernel_rfl
theorem und_up : Tryz.prog.underlying 242 = some .unsafePointer := by kernel_rfl
theorem cells_u8 : Tryz.prog.cellsOf 5 = 1 := by kernel_rfl
theorem info_u8 : ∃ i, Tryz.prog.info? 5 = some i /\ i.zero = some (.int .u8 0) /\ i.size = 1 /\ i.bytes = 1 := by
 have h1 : (Tryz.prog.info? 5).map (fun i => (i.zero, i.size, i.bytes)) = some (some (.int .u8 0), 1, 1) := by kernel_rfl
 cases hi : Tryz.prog.info? 5 with
 | none => rw [hi] at h1; cases h1
 | some i =>
  rw [hi] at h1
  simp only [Option.map_some, Option.some.injEq, Prod.mk.injEq] at h1
  exact ⟨i, rfl, h1.1, h1.2.1, h1.2.2⟩
theorem info_Bu : ∃ i, Tryz.prog.info? 121 = some i /\ i.size ≠ 0 := by
 have h1 : (Tryz.prog.info? 121).map (·.size) = some 2 := by kernel_rfl
 cases hi : Tryz.prog.info? 121 with
 | none => rw [hi] at h1; cases h1
 | some i =>
  rw [hi] at h1
  simp only [Option.map_some, Option.some.injEq] at h1
  exact ⟨i, rfl, by omega⟩
theorem lies_Bu : liesAt Tryz.prog Tryz.prog.depth 121 (2 / Tryz.prog.cellsOf 121) 0 121 1 = true := by kernel_rfl
theorem szb_bytes : sizeT Tryz.prog 56 = some 1 := by kernel_rfl
theorem szb_PBu : sizeT Tryz.prog 119 = some 1 := by kernel_rfl
theorem x_MZ {n : Nat} (hn : n <= 281474976710656) {F : Sl -> H -> Prop} {σ : H} (hF : ∀ g cur σ', σ g = none -> σ' g = some (.cells ⟨cur⟩ 5 (0, 0)) -> Gr σ σ' -> n <= cur.length -> F ⟨some ⟨g, 0, none⟩, n, cur.length⟩ σ') : cvalT Tryz.prog (.func (.func 219) ⟨[]⟩ ⟨[]⟩) [.int .i64 (n : Int)] kL F σ := by
 refine x_ext go_MZ fn_MZ ex_MZ en_MZ fun w hw => ?_
 obtain ⟨⟨cs⟩, hr, h1, _⟩ := Lib.run_makeNoZero (P := Tryz.prog) w #[3] 56 5 und_bytes n hn
 obtain ⟨hn', he⟩ := Ext.alloc (σ := σ) (w := w.drew.drew) hw (.cells ⟨cs⟩ 5 (0, 0))
 exact ⟨_, _, _, hr, ⟨he.le, he.size, he.keep, he.own, he.os, he.tape, he.output⟩, app_L (hF w.heap.size cs _ hn' (H.put_same _ _ _) (Gr.put hn' _) h1)⟩
def BuAt (σ : H) (b : Nat) (l : List UInt8) (D : Nat -> Prop) : Prop := ∃ (p : Option Addr) (x : Sl), σ b = some (.cells ⟨[.pointer p, .slice x.base x.len x.cap]⟩ 121 (0, 0)) /\ (p = none \/ p = some ⟨b, 0, none⟩) /\ RowsOwn σ 5 1 (brows l) x /\ (∀ g, x.base = some ⟨g, 0, none⟩ -> g ≠ b) /\ (x.base ≠ none -> x.cap ≠ 0) /\ ∀ c, D c ↔ (c = b \/ x.base = some ⟨c, 0, none⟩)
theorem BuAt.gr {σ σ' : H} {b : Nat} {l : List UInt8} {D : Nat -> Prop} (h : BuAt σ b l D) (hg : Gr σ σ') : BuAt σ' b l D := by
 obtain ⟨p, x, h1, h2, h3, h4⟩ := h
 exact ⟨p, x, hg.get h1, h2, h3.gr hg, h4⟩
theorem BuAt.has {σ : H} {b : Nat} {l : List UInt8} {D : Nat -> Prop} (h : BuAt σ b l D) {c : Nat} (hc : D c) : σ c ≠ none := by
 obtain ⟨p, x, h1, h2, h3, h4, h5, h6⟩ := h
 rcases (h6 c).1 hc with rfl | e
 ·rw [h1]; simp
 ·exact h3.has e
theorem BuAt.put {σ σ' : H} {b c : Nat} {o : Obj} {l : List UInt8} {D : Nat -> Prop} (h : BuAt σ b l D) (hp : Put σ c o σ') (hc : ¬ D c) : BuAt σ' b l D := by
 obtain ⟨p, x, h1, h2, h3, h4, h5, h6⟩ := h
 exact ⟨p, x, hp.get (fun e => hc ((h6 c).2 (.inl e.symm))) h1, h2, h3.put hp (fun e => hc ((h6 c).2 (.inr e))), h4, h5, h6⟩
theorem BuAt.new {σ : H} {b : Nat} (h : σ b = some (.cells ⟨[.pointer none, .slice none 0 0]⟩ 121 (0, 0))) : BuAt σ b [] (fun c => c = b) :=
 ⟨none, ⟨none, 0, 0⟩, h, .inl rfl, RowsOwn.nil _ _ _, (fun g h => by cases h), (fun h => absurd rfl h), fun c => ⟨fun h => .inl h, fun h => h.resolve_right (by intro e; cases e)⟩⟩
attribute [local irreducible] ptrW ifW brW andW rdT alW letJ stW muW biW vaW imW callT cvalT app callW invW callVW sizeT oW nilF oneK loopW rfW funW begW roundK exW idxW Gr Put
section
variable {σ : H} {b : Nat} {l : List UInt8} {D : Nat -> Prop}
theorem s_BuCheck (h : BuAt σ b l D) {K : KH} (hK : ∀ σ', BuAt σ' b l D -> Sep σ D σ' D -> K (.tuple ⟨[]⟩) σ') : callW Tryz.prog 144 [.pointer (some ⟨b, 0, none⟩)] K σ := by
 obtain ⟨p, x, h1, h2, h3, h4, h5, h6⟩ := id h
 obtain ⟨i, hi, hi0⟩ := info_Bu
 refine c144 _ ?_
 unfold g144
 refine ptr_i (rd_P (rdC_of h1 (by rfl)) ?_)
 rcases h2 with rfl | rfl
 ·refine br_t rfl ?_
  refine toUp_i und_PBu und_up hi hi0 h1 (by simp) ?_
  refine x_NoEsc (fromUp_i und_up und_PBu hi h1 lies_Bu (ptr_i ?_))
  refine st_i2 h1 szb_PBu (by rfl) (by rfl) ?_; intro σ' hp
  refine hK σ' ⟨some ⟨b, 0, none⟩, x, hp.same, .inr rfl, h3.put hp (fun e => h4 b e rfl), h4, h5, h6⟩ ?_
  intro c o hc hn
  exact ⟨hp.get (fun e => hn ((h6 c).2 (.inl e))) hc, hn⟩
 ·refine br_f rfl (ptr_i (rd_P (rdC_of h1 (by rfl)) ?_))
  exact neqp_i und_PBu hi (br_f rfl (hK σ h (Sep.refl _ _)))
theorem key_BuWr (hb : BuAt σ b l D) {p : Option Addr} {x x' : Sl} {l' : List UInt8} {τ : H} (h1 : σ b = some (.cells ⟨[.pointer p, .slice x.base x.len x.cap]⟩ 121 (0, 0))) (h2 : p = none \/ p = some ⟨b, 0, none⟩) (h4 : ∀ g, x.base = some ⟨g, 0, none⟩ -> g ≠ b) (h5 : x.base ≠ none -> x.cap ≠ 0) (h6 : ∀ c, D c ↔ (c = b \/ x.base = some ⟨c, 0, none⟩))
 (hx' : RowsOwn τ 5 1 (brows l') x') (hcap : (x.base ≠ none -> x.cap ≠ 0) -> (x'.base ≠ none -> x'.cap ≠ 0)) (hcase : (∃ g o, x.base = some ⟨g, 0, none⟩ /\ x'.base = x.base /\ Put σ g o τ) \/ (((∃ g, x'.base = some ⟨g, 0, none⟩ /\ σ g = none) \/ x'.base = none) /\ Gr σ τ))
 {F : H -> Prop} (hK : ∀ σ' D', BuAt σ' b l' D' -> Sep σ D σ' D' -> F σ') : stW Tryz.prog 56 (.pointer (some ⟨b, 0 + 1, none⟩)) (.slice x'.base x'.len x'.cap) F τ := by
 have hbb : D b := (h6 b).2 (.inl rfl)
 have h1' : τ b = some (.cells ⟨[.pointer p, .slice x.base x.len x.cap]⟩ 121 (0, 0)) := by
  rcases hcase with ⟨g, o, z1, _, hp⟩ | ⟨_, hg⟩
  ·exact hp.get (Ne.symm (h4 g z1)) h1
  ·exact hg.get h1
 have n4 : ∀ g, x'.base = some ⟨g, 0, none⟩ -> g ≠ b := by
  intro g' e
  rcases hcase with ⟨g, o, z1, z2, hp⟩ | ⟨⟨g, y1, y2⟩ | y, hg⟩
  ·exact h4 g' (by rw [<- z2]; exact e)
  ·rw [y1] at e
   have : g = g' := by injection e with e; injection e
   subst this
   intro e2
   rw [e2, h1] at y2; cases y2
  ·rw [y] at e; cases e
 have S2 : ∀ c o, σ c = some o -> ¬ D c -> τ c = some o /\ x'.base ≠ some ⟨c, 0, none⟩ := by
  intro c o hc hn
  rcases hcase with ⟨g, o', z1, z2, hp⟩ | ⟨z, hg⟩
  ·have hcg : c ≠ g := fun e => hn ((h6 c).2 (.inr (by rw [e]; exact z1)))
   exact ⟨hp.get hcg hc, fun e => hn ((h6 c).2 (.inr (by rw [<- z2]; exact e)))⟩
  ·refine ⟨hg.get hc, fun e => ?_⟩
   rcases z with ⟨g, y1, y2⟩ | y
   ·rw [y1] at e
    have : g = c := by injection e with e; injection e
    subst this
    rw [hc] at y2; cases y2
   ·rw [y] at e; cases e
 refine st_i2 h1' szb_bytes (by rfl) (by rfl) ?_; intro σ3 p3
 refine hK σ3 (fun c => c = b \/ x'.base = some ⟨c, 0, none⟩) ⟨p, x', p3.same, h2, hx'.put p3 (fun e => n4 b e rfl), n4, hcap h5, fun c => Iff.rfl⟩ ?_
 intro c o hc hn
 obtain ⟨q1, q2⟩ := S2 c o hc hn
 have hcb : c ≠ b := fun e => hn ((h6 c).2 (.inl e))
 exact ⟨p3.get hcb q1, fun hd => hd.elim hcb q2⟩
theorem s_BuWrS (h : BuAt σ b l D) (s : ByteArray) (hl : l.length + s.size <= 100000000000) {K : KH} (hK : ∀ σ' D', BuAt σ' b (l ++ s.data.toList) D' -> Sep σ D σ' D' -> K (.tuple ⟨[.int .i64 ((s.size : Nat) : Int), .nilIface]⟩) σ') : callW Tryz.prog 80 [.pointer (some ⟨b, 0, none⟩), .string s] K σ := by
 refine c80 _ _ ?_
 unfold g80
 refine call_i (s_BuCheck h ?_)
 intro σ1 hb1 S1
 refine app_U ?_
 obtain ⟨p, x, h1, h2, h3, h4, h5, h6⟩ := id hb1
 refine ptr_i (rd_L (rdC_of h1 (by rfl)) ?_)
 obtain ⟨i, i1, i2, i3, i4⟩ := info_u8
 refine app_str_i und_bytes und_str i1 i2 i3 i4 h3 hl ?_
 intro x' σ2 hx' hcap hcase
 refine ptr_i ?_
 exact key_BuWr hb1 h1 h2 h4 h5 h6 hx' hcap hcase fun σ' D' B S => hK σ' D' B (S1.trans S)
theorem s_BuStr (h : BuAt σ b l D) (hl : l.length <= 100000000000) {K : KH} (hK : ∀ σ', (∀ c o, σ c = some o -> ¬ D c -> σ' c = some o) -> K (.string ⟨⟨l⟩⟩) σ') : callW Tryz.prog 81 [.pointer (some ⟨b, 0, none⟩)] K σ := by
 refine c81 _ ?_
 unfold g81
 obtain ⟨p, x, h1, h2, h3, h4, h5, h6⟩ := id h
 refine ptr_i (rd_L (rdC_of h1 (by rfl)) (ptr_i (rd_L (rdC_of h1 (by rfl)) ?_)))
 refine sdata_i h5 (and_i (rdC_of h1 (by rfl)) ?_)
 refine ustr_i und_Pu8 cells_u8 h3 (by omega) ?_ ?_
 ·intro e; rw [e] at hK; exact hK σ (fun c o hc _ => hc)
 ·intro g cur o σ' e hg hp
  refine hK σ' fun c o' hc hn => hp.get (fun e2 => hn ((h6 c).2 (.inr (by rw [e2]; exact e)))) hc
theorem s_Bugrow (hb : σ b = some (.cells ⟨[.pointer none, .slice none 0 0]⟩ 121 (0, 0))) {p : Option Addr} {n : Nat} (hn : n <= 100000000000) (h0 : n ≠ 0) {τ : H} (h1 : τ b = some (.cells ⟨[.pointer p, .slice none 0 0]⟩ 121 (0, 0))) (h2 : p = none \/ p = some ⟨b, 0, none⟩) {K : KH} (hK : ∀ σ' D', BuAt σ' b [] D' -> Sep τ (fun c => c = b) σ' D' -> K (.tuple ⟨[]⟩) σ') : callW Tryz.prog 169 [.pointer (some ⟨b, 0, none⟩), .int .i64 (n : Int)] K τ := by
 refine c169 _ _ ?_
 unfold g169
 refine ptr_i (rd_L (rdC_of h1 (by rfl)) (ptr_i (rd_L (rdC_of h1 (by rfl)) ?_)))
 have e : IntKind.i64.wrap (IntKind.i64.wrap (2 * (((0 : Nat) : Nat) : Int)) + (n : Int)) = (n : Int) := by
  rw [show (2 * (((0 : Nat) : Nat) : Int)) = 0 from rfl, wrap_id (x := 0) (by omega) (by omega), wrap_id (by omega) (by omega)]; omega
 show cvalT _ _ [.int .i64 (IntKind.i64.wrap (IntKind.i64.wrap (2 * (((0 : Nat) : Nat) : Int)) + (n : Int)))] _ _ _
 rw [e]
 refine x_MZ (by omega) ?_
 intro g cur σ1 hn1 hg1 hgr hlen
 have h1' := hgr.get h1
 refine and_i (rdC_of h1' (by rfl)) (if_i ⟨bnd_some (by simp) (by simp), bnd_none⟩ ?_)
 refine ptr_i (rd_L (rdC_of h1' (by rfl)) ?_)
 refine copy0_i und_bytes (by kernel_rfl) ?_
 refine ptr_i ?_
 have hgb : g ≠ b := by intro e; rw [e, h1] at hn1; cases hn1
 refine st_i2 h1' szb_bytes (by rfl) (by rfl) ?_; intro σ3 p3
 have hbase : slBase (some ⟨g, 0, none⟩) 0 cur.length 1 = some ⟨g, 0, none⟩ := by unfold slBase; split <;> rfl
 refine hK σ3 (fun c => c = b \/ c = g) ⟨p, ⟨some ⟨g, 0, none⟩, 0, cur.length⟩, ?_, h2, ?_, ?_, ?_, ?_⟩ ?_
 ·have := p3.same
  simp only [hbase] at this
  exact this
 ·exact ⟨rfl, by simp [brows], .inr ⟨g, cur, rfl, p3.get hgb hg1, by simp, Nat.zero_le _, by simp [brows]⟩⟩
 ·intro g' e
  have : g = g' := by injection e with e; injection e
  rw [<- this]; exact hgb
 ·intro _ ; show cur.length ≠ 0; omega
 ·intro c
  constructor
  ·rintro (h | h)
   ·exact .inl h
   ·exact .inr (by rw [h])
  ·rintro (h | h)
   ·exact .inl h
   ·exact .inr (by injection h with e; injection e with e; exact e.symm)
 ·intro c o hc hn
  refine ⟨p3.get hn (hgr.get hc), fun hd => hd.elim hn ?_⟩
  intro e; rw [e, hn1] at hc; cases hc
theorem s_BuGrow (hb : σ b = some (.cells ⟨[.pointer none, .slice none 0 0]⟩ 121 (0, 0))) {n : Nat} (hn : n <= 100000000000) {K : KH} (hK : ∀ σ' D', BuAt σ' b [] D' -> Sep σ (fun c => c = b) σ' D' -> K (.tuple ⟨[]⟩) σ') : callW Tryz.prog 97 [.pointer (some ⟨b, 0, none⟩), .int .i64 (n : Int)] K σ := by
 refine c97 _ _ ?_
 unfold g97
 refine call_i (s_BuCheck (BuAt.new hb) ?_)
 intro σ1 hb1 S1
 refine app_U (br_f (by simp only [decide_eq_false_iff_not]; omega) ?_)
 obtain ⟨p, x, h1, h2, h3, h4, h5, h6⟩ := id hb1
 have hx : x = ⟨none, 0, 0⟩ := by
  obtain ⟨q1, _, ⟨q3, q4, _⟩ | ⟨g, cur, q3, _⟩⟩ := h3
  ·cases x; simp only at q1 q3 q4; simp [brows] at q1; subst q1; subst q3; subst q4; rfl
  ·exact absurd ((h6 g).2 (.inr q3)) (h4 g q3)
 subst hx
 refine ptr_i (rd_L (rdC_of h1 (by rfl)) (ptr_i (rd_L (rdC_of h1 (by rfl)) ?_)))
 show brW (decide (IntKind.i64.wrap ((((0 : Nat) : Nat) : Int) - (((0 : Nat) : Nat) : Int)) < (n : Int))) _ _ _
 rw [show IntKind.i64.wrap ((((0 : Nat) : Nat) : Int) - (((0 : Nat) : Nat) : Int)) = 0 from by decide]
 by_cases h0 : n = 0
 ·refine br_f (by simp only [decide_eq_false_iff_not]; omega) (hK σ1 _ hb1 S1)
 ·refine br_t (by simp only [decide_eq_true_eq]; omega) (call_i (s_Bugrow hb hn h0 h1 h2 ?_))
  intro σ' D' B S
  exact app_U (hK σ' D' B (S1.trans S))
end
end Go.Proofs.YtbjbeajbckcecaaGreatDoor

