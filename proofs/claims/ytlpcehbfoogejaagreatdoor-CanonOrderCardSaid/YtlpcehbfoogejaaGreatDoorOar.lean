/- A part of the proof: In which order things are made, and where they lay ahead, changes nothing of the tree. -/
import Derived.Test.YtlpcehbfoogejaaGreatDoorOaq
import Derived.Shelf.SlIter.Nil
import Derived.Shelf.SortM.Plain
import Derived.Shelf.SortM.SortNone
import Derived.Ground.GgzProg
import Derived.Ground.SlgmProg
import Derived.Test.YtlpcehbfoogejaaGreatDoorProg
/- slices.Sorted(maps.Keys(m)): the contracts of the library laid at this program (printed by the kit). -/
namespace Go.Proofs
open Go.RowKit Go.Maps Go.Sort Go.Shelf
def Tryz.keys120_ren : Go.Shelf.Ren := ⟨fun | 7 => 120 | 10 => 173 | n => n, fun | 23 => 140 | 26 => 9 | 3 => 3 | 28 => 159 | 0 => 0 | 27 => 158 | 33 => 188 | 4 => 4 | n => n, fun | n => n⟩
theorem Tryz.keys120 : Go.Proofs.SlLaysZ.n7 Tryz.prog Tryz.keys120_ren := {
  mixed := by kernel_rfl
  f7 := ⟨Tryz.f120.name, by decide, Tryz.func120.trans (congrArg some (by kernel_rfl))⟩
  f10 := ⟨Tryz.f173.name, by decide, Tryz.func173.trans (congrArg some (by kernel_rfl))⟩
  t0 := Tryz.underlying0
  a0 := Tryz.isAgg0
  z0 := Tryz.sizeOf0
  v0 := Tryz.zeroValue0
  t4 := Tryz.underlying4
  a4 := Tryz.isAgg4
  z4 := Tryz.sizeOf4
  v4 := Tryz.zeroValue4
  t23 := Tryz.underlying140
  a23 := Tryz.isAgg140
  z23 := Tryz.sizeOf140
  v23 := Tryz.zeroValue140
  t26 := Tryz.underlying9
  a26 := Tryz.isAgg9
  z26 := Tryz.sizeOf9
  v26 := Tryz.zeroValue9
  t27 := Tryz.underlying158
  a27 := Tryz.isAgg158
  z27 := Tryz.sizeOf158
  v27 := Tryz.zeroValue158
  t28 := Tryz.underlying159
  a28 := Tryz.isAgg159
  z28 := Tryz.sizeOf159
  v28 := Tryz.zeroValue159
  t33 := Tryz.underlying188
  a33 := Tryz.isAgg188
  z33 := Tryz.sizeOf188
  v33 := Tryz.zeroValue188 }
def Tryz.sorted119_ren : Go.Shelf.Ren := ⟨fun | 6 => 119 | 8 => 171 | 9 => 172 | 11 => 192 | 13 => 194 | 12 => 193 | 23 => 216 | 24 => 217 | 14 => 207 | 15 => 208 | 16 => 209 | 17 => 210 | 18 => 211 | 19 => 212 | 20 => 213 | 21 => 214 | 22 => 215 | 25 => 223 | 26 => 224 | 27 => 225 | 28 => 226 | 29 => 227 | 30 => 228 | 31 => 229 | n => n, fun | 26 => 9 | 28 => 159 | 24 => 74 | 0 => 0 | 3 => 3 | 37 => 123 | 48 => 179 | 50 => 182 | 4 => 4 | 40 => 228 | 39 => 227 | 45 => 137 | 5 => 5 | 9 => 9 | 51 => 239 | 55 => 27 | 57 => 244 | 58 => 92 | 33 => 188 | n => n, fun | n => n⟩
theorem Tryz.sorted119 : Go.Proofs.SlLaysZ.n6 Tryz.prog Tryz.sorted119_ren := {
  mixed := by kernel_rfl
  f6 := ⟨Tryz.f119.name, by decide, Tryz.func119.trans (congrArg some (by kernel_rfl))⟩
  f8 := ⟨Tryz.f171.name, by decide, Tryz.func171.trans (congrArg some (by kernel_rfl))⟩
  f11 := ⟨Tryz.f192.name, by decide, Tryz.func192.trans (congrArg some (by kernel_rfl))⟩
  t0 := Tryz.underlying0
  a0 := Tryz.isAgg0
  z0 := Tryz.sizeOf0
  v0 := Tryz.zeroValue0
  t24 := Tryz.underlying74
  a24 := Tryz.isAgg74
  z24 := Tryz.sizeOf74
  v24 := Tryz.zeroValue74
  t26 := Tryz.underlying9
  a26 := Tryz.isAgg9
  z26 := Tryz.sizeOf9
  v26 := Tryz.zeroValue9
  t28 := Tryz.underlying159
  a28 := Tryz.isAgg159
  z28 := Tryz.sizeOf159
  v28 := Tryz.zeroValue159
  i26 := by kernel_rfl }
def Tryz.sort172_ren : Go.Shelf.Ren := ⟨fun | 6 => 172 | 8 => 194 | 9 => 193 | 19 => 216 | 20 => 217 | 21 => 207 | 22 => 208 | 23 => 209 | 24 => 210 | 25 => 211 | 26 => 212 | 27 => 213 | 28 => 214 | 29 => 215 | 36 => 223 | 31 => 224 | 32 => 225 | 37 => 226 | 38 => 227 | 39 => 228 | 41 => 229 | n => n, fun | 27 => 74 | 29 => 9 | 3 => 3 | 32 => 123 | 26 => 74 | 0 => 0 | 44 => 179 | 46 => 182 | 4 => 4 | 36 => 228 | 35 => 227 | 41 => 137 | 5 => 5 | 9 => 9 | 53 => 239 | 57 => 27 | 63 => 244 | 64 => 92 | n => n, fun | n => n⟩
theorem Tryz.sort172 : Go.Proofs.SlLaysM.n6 Tryz.prog Tryz.sort172_ren := {
  mixed := by kernel_rfl
  f6 := ⟨Tryz.f172.name, by decide, Tryz.func172.trans (congrArg some (by kernel_rfl))⟩
  f8 := Tryz.func194.trans (congrArg some (by kernel_rfl))
  f9 := ⟨Tryz.f193.name, by decide, Tryz.func193.trans (congrArg some (by kernel_rfl))⟩
  f19 := Tryz.func216.trans (congrArg some (by kernel_rfl))
  f20 := Tryz.func217.trans (congrArg some (by kernel_rfl))
  f21 := ⟨Tryz.f207.name, by decide, Tryz.func207.trans (congrArg some (by kernel_rfl))⟩
  f22 := ⟨Tryz.f208.name, by decide, Tryz.func208.trans (congrArg some (by kernel_rfl))⟩
  f23 := ⟨Tryz.f209.name, by decide, Tryz.func209.trans (congrArg some (by kernel_rfl))⟩
  f24 := ⟨Tryz.f210.name, by decide, Tryz.func210.trans (congrArg some (by kernel_rfl))⟩
  f25 := ⟨Tryz.f211.name, by decide, Tryz.func211.trans (congrArg some (by kernel_rfl))⟩
  f26 := ⟨Tryz.f212.name, by decide, Tryz.func212.trans (congrArg some (by kernel_rfl))⟩
  f27 := ⟨Tryz.f213.name, by decide, Tryz.func213.trans (congrArg some (by kernel_rfl))⟩
  f28 := ⟨Tryz.f214.name, by decide, Tryz.func214.trans (congrArg some (by kernel_rfl))⟩
  f29 := ⟨Tryz.f215.name, by decide, Tryz.func215.trans (congrArg some (by kernel_rfl))⟩
  f31 := Tryz.func224.trans (congrArg some (by kernel_rfl))
  f32 := Tryz.func225.trans (congrArg some (by kernel_rfl))
  f36 := ⟨Tryz.f223.name, by decide, Tryz.func223.trans (congrArg some (by kernel_rfl))⟩
  f37 := ⟨Tryz.f226.name, by decide, Tryz.func226.trans (congrArg some (by kernel_rfl))⟩
  f38 := ⟨Tryz.f227.name, by decide, Tryz.func227.trans (congrArg some (by kernel_rfl))⟩
  f39 := ⟨Tryz.f228.name, by decide, Tryz.func228.trans (congrArg some (by kernel_rfl))⟩
  f41 := ⟨Tryz.f229.name, by decide, Tryz.func229.trans (congrArg some (by kernel_rfl))⟩
  t0 := Tryz.underlying0
  a0 := Tryz.isAgg0
  z0 := Tryz.sizeOf0
  v0 := Tryz.zeroValue0
  t3 := Tryz.underlying3
  a3 := Tryz.isAgg3
  z3 := Tryz.sizeOf3
  v3 := Tryz.zeroValue3
  t4 := Tryz.underlying4
  a4 := Tryz.isAgg4
  z4 := Tryz.sizeOf4
  v4 := Tryz.zeroValue4
  t5 := Tryz.underlying5
  a5 := Tryz.isAgg5
  z5 := Tryz.sizeOf5
  v5 := Tryz.zeroValue5
  t9 := Tryz.underlying9
  a9 := Tryz.isAgg9
  z9 := Tryz.sizeOf9
  v9 := Tryz.zeroValue9
  t26 := Tryz.underlying74
  a26 := Tryz.isAgg74
  z26 := Tryz.sizeOf74
  v26 := Tryz.zeroValue74
  t27 := Tryz.underlying74
  a27 := Tryz.isAgg74
  z27 := Tryz.sizeOf74
  v27 := Tryz.zeroValue74
  t29 := Tryz.underlying9
  a29 := Tryz.isAgg9
  z29 := Tryz.sizeOf9
  v29 := Tryz.zeroValue9
  t32 := Tryz.underlying123
  a32 := Tryz.isAgg123
  z32 := Tryz.sizeOf123
  v32 := Tryz.zeroValue123
  t35 := Tryz.underlying227
  a35 := Tryz.isAgg227
  z35 := Tryz.sizeOf227
  v35 := Tryz.zeroValue227
  t36 := Tryz.underlying228
  a36 := Tryz.isAgg228
  z36 := Tryz.sizeOf228
  v36 := Tryz.zeroValue228
  t41 := Tryz.underlying137
  a41 := Tryz.isAgg137
  z41 := Tryz.sizeOf137
  v41 := Tryz.zeroValue137
  t44 := Tryz.underlying179
  a44 := Tryz.isAgg179
  z44 := Tryz.sizeOf179
  v44 := Tryz.zeroValue179
  t46 := Tryz.underlying182
  a46 := Tryz.isAgg182
  z46 := Tryz.sizeOf182
  v46 := Tryz.zeroValue182
  t53 := Tryz.underlying239
  a53 := Tryz.isAgg239
  z53 := Tryz.sizeOf239
  v53 := Tryz.zeroValue239
  t57 := Tryz.underlying27
  a57 := Tryz.isAgg27
  z57 := Tryz.sizeOf27
  v57 := Tryz.zeroValue27
  t63 := Tryz.underlying244
  a63 := Tryz.isAgg244
  z63 := Tryz.sizeOf244
  v63 := Tryz.zeroValue244
  t64 := Tryz.underlying92
  a64 := Tryz.isAgg92
  z64 := Tryz.sizeOf92
  v64 := Tryz.zeroValue92 }
/-- slices.Sort's two contracts at this dump, at the fence that asks nothing. -/
theorem Tryz.sorts119 (m : Nat) : AnyZ.SortsIn Tryz.prog Tryz.sorted119_ren Fence.wide m :=
  ⟨fun blk off cap ss W hH hblk hsz => callsIn_wide.2 (AnyM.slices_Sort_string Tryz.sort172 blk off cap ss W hH hblk hsz),
   fun p cap W => callsIn_wide.2 (AnyM.slices_Sort_string_none Tryz.sort172 p cap W)⟩
end Go.Proofs

/- WHAT IS ASKED OF THE LIBRARY: slices.Sorted(maps.Keys(m)). -/
set_option maxRecDepth 100000
namespace Go.Proofs.YtlpcehbfoogejaaGreatDoor
open Go Go.HL Go.Wk Go.RowKit Go.Maps Go.Sort Go.Shelf
theorem ext_below {σ : H} {w w' : World} (hw : σ.le w) (hb : Below w.heap.size w w') : Ext σ w σ w' :=
  ⟨fun b o h => (hb.block b (hw.lt h)).trans (hw b o h), hb.size, fun b hlt _ => hb.block b hlt, fun b o h hn => by rw [h] at hn; (cases hn), hb.os, hb.tape, hb.output⟩
theorem ext_below_put {σ : H} {w w' : World} {g : Nat} {o : Obj} (hw : σ.le w) (hb : Below w.heap.size w w') (hg : w.heap.size ≤ g) (ho : w'.heap[g]? = some o) : Ext σ w (σ.put g o) w' := by
  refine ⟨fun b o' h => ?_, hb.size, fun b hlt _ => hb.block b hlt, fun b o' h hn => ?_, hb.os, hb.tape, hb.output⟩
  · by_cases e : b = g
    · subst e; rw [H.put_same] at h; cases h; exact ho
    · rw [H.put_other _ _ e] at h; exact (hb.block b (hw.lt h)).trans (hw b o' h)
  · by_cases e : b = g
    · subst e; exact hg
    · rw [H.put_other _ _ e] at h; rw [h] at hn; cases hn
/-- a slice of strings -/
def StrSl (σ : H) (x : Sl) (l : List ByteArray) : Prop := x.len = l.length ∧ (l = [] ∨ ∃ g cur, x.base = some ⟨g, 0, none⟩ ∧ σ g = some (.cells ⟨cur⟩ 9 (0, 0)) ∧ cur.take l.length = l.map Value.string)
/-- the keys, rising -/
def sortK (l : List ByteArray) : List ByteArray := ((l.map fun s => s.data.toList).mergeSort (fun x y => decide (x ≤ y))).map fun x => ⟨⟨x⟩⟩
theorem x_Sorted {σ : H} {b2 e : Nat} {ents : List (ByteArray × Int)} {t : TypeId} (h2 : σ b2 = some (.cells ⟨[.map (some e)]⟩ t (0, 0))) (hm : MapAt σ e (encL kkS valI ents)) (hk : ∀ s ∈ keysL ents, s.size ≤ maxLen) (hn : ents.length * 16 ≤ 140737488355328) {K : Value → H → Prop}
    (hK : ∀ x σ', Gr σ σ' → StrSl σ' x (sortK (keysL ents)) → K (.slice x.base x.len x.cap) σ') : callW Tryz.prog 119 [.func (.func 173) ⟨[]⟩ ⟨[.pointer (some ⟨b2, 0, none⟩)]⟩] K σ := by
  obtain ⟨es, c, he, hl, hst⟩ := hm
  intro w hw
  let R : Value → Option (DataW Unit × List MemPlace) := fun _ => some (.nil, [])
  have hsz : es.size = ents.length := by
    have := congrArg List.length hl
    simpa [encL] using this
  have hkey : ∀ x ∈ es.toList, ∃ s ∈ keysL ents, x.key = .string s := by
    intro x hx
    have : (x.key, x.val) ∈ encL kkS valI ents := by rw [← hl]; exact List.mem_map.2 ⟨x, hx, rfl⟩
    obtain ⟨⟨s, v⟩, h1, h3⟩ := List.mem_map.1 this
    refine ⟨s, List.mem_map.2 ⟨_, h1, rfl⟩, ?_⟩
    exact (Prod.mk.inj h3).1.symm
  have hrd : ∀ x ∈ es.toList, ∀ s, x.key = .string s → s.size ≤ maxLen → Go.WideElems.rd Tryz.prog 9 R x = some (.string s.data.toList, .nil) := by
    intro x _ s hs hle
    unfold Go.WideElems.rd keyOf mapKey
    rw [hs, und_string]
    simp [hle, R]
  have hown : w.ownsMap Tryz.prog 9 R e es.size (.map ((es.toList.map (Go.WideElems.rg Tryz.prog 9 R)).foldr DataW.insert [])) := by
    refine ⟨es, c, hw e _ he, ⟨?_, hst, ?_⟩, Nat.le_refl _, rfl⟩
    · rw [hsz]; unfold maxLen; omega
    · intro x hx
      obtain ⟨s, h1, h3⟩ := hkey x hx
      exact ⟨_, hrd x hx s h3 (hk s h1)⟩
  have hms : Maps.size (.map ((es.toList.map (Go.WideElems.rg Tryz.prog 9 R)).foldr DataW.insert [])) = ents.length := by
    rw [Maps.size_eq, (Go.WideShapes.sorted_perm _).length_eq]; simp [hsz]
  have hperm : (strKeys (.map ((es.toList.map (Go.WideElems.rg Tryz.prog 9 R)).foldr DataW.insert []))).Perm ((keysL ents).map fun s => s.data.toList) := by
    have h1 : (strKeys (.map ((es.toList.map (Go.WideElems.rg Tryz.prog 9 R)).foldr DataW.insert []))).Perm ((es.toList.map (Go.WideElems.rg Tryz.prog 9 R)).map fun p => strOf p.1) := (Go.WideShapes.sorted_perm _).map _
    have h3 : ((es.toList.map (Go.WideElems.rg Tryz.prog 9 R)).map fun p => strOf p.1) = (keysL ents).map fun s => s.data.toList := by
      have h4 : es.toList.map (fun e => e.key) = (keysL ents).map Value.string := by
        have := congrArg (List.map Prod.fst) hl
        simp only [List.map_map, encL] at this
        rw [keysL, List.map_map]
        exact this
      have h5 : ((es.toList.map (Go.WideElems.rg Tryz.prog 9 R)).map fun p => strOf p.1) = (es.toList.map (fun e => e.key)).map fun v => (match v with | .string s => s.data.toList | _ => []) := by
        rw [List.map_map, List.map_map]
        refine List.map_congr_left ?_
        intro x hx
        obtain ⟨s, h1, h3⟩ := hkey x hx
        simp only [Function.comp]
        rw [h3, Go.WideElems.rg_of (hrd x hx s h3 (hk s h1))]
        rfl
      rw [h5, h4, List.map_map]
      rfl
    rw [← h3]; exact h1
  have hcell : w.cell? ⟨b2, 0, none⟩ = some (.map (some e)) := by simp [World.cell?, hw b2 _ h2]
  have hseq := AnyZ.keys_gives (ρ := Tryz.keys120_ren) { Tryz.keys120 with } Fence.wide 2 trivial rfl (by omega) b2 e es.size (.map ((es.toList.map (Go.WideElems.rg Tryz.prog 9 R)).foldr DataW.insert [])) (R := R) w (hw.lt h2) hcell hown
  have hcall := AnyZ.sorted_in Tryz.sorted119 Fence.wide 5 trivial trivial trivial trivial rfl (by omega) (Tryz.sorts119 _) (enters_of Tryz.func172 (by kernel_rfl) rfl) 173 #[.pointer (some ⟨b2, 0, none⟩)] trivial (enters_of Tryz.func173 (by kernel_rfl) rfl) _ _ (by rw [hms]; unfold maxLen; omega) (by rw [hms]; exact hn) w hseq
  refine callsIn_wide.2 ((callsIn_wide.1 hcall).mono ?_)
  rintro en w' ⟨v, ss, rfl, hS, hrow, hnil, hbel⟩
  have hsrt : ss.mergeSort (fun x y => decide (x ≤ y)) = ((keysL ents).map fun s => s.data.toList).mergeSort (fun x y => decide (x ≤ y)) := mergeSort_of_perm (hS.trans hperm)
  have henc : (ss.mergeSort (fun x y => decide (x ≤ y))).map encStr = (sortK (keysL ents)).map Value.string := by
    rw [hsrt]; unfold sortK; rw [List.map_map]; rfl
  have hlen : ss.length = (sortK (keysL ents)).length := by
    have := congrArg List.length henc
    simpa using this
  obtain ⟨_, ⟨rfl, hz⟩ | ⟨g, cap, cur, rfl, hbg, hcur, _, _, _, htake⟩⟩ := hrow
  · refine ⟨_, rfl, σ, ext_below hw hbel, hK ⟨none, 0, 0⟩ σ (Gr.refl _) ⟨by rw [← hlen, hz], .inl ?_⟩⟩
    apply List.eq_nil_of_length_eq_zero; rw [← hlen, hz]
  · refine ⟨_, rfl, σ.put g (.cells cur 9 (0, 0)), ext_below_put hw hbel hbg hcur, hK ⟨some ⟨g, 0, none⟩, ss.length, cap⟩ _ (Gr.put ?_ _) ⟨hlen, .inr ⟨g, cur.toList, rfl, H.put_same _ _ _, ?_⟩⟩⟩
    · cases hg : σ g with
      | none => rfl
      | some o => have := hw.lt hg; omega
    · rw [← henc, ← hlen]; simpa using htake
theorem x_Sorted_nil {σ : H} {b2 : Nat} {t : TypeId} (h2 : σ b2 = some (.cells ⟨[.map none]⟩ t (0, 0))) {K : Value → H → Prop}
    (hK : K (.slice none 0 0) σ) : callW Tryz.prog 119 [.func (.func 173) ⟨[]⟩ ⟨[.pointer (some ⟨b2, 0, none⟩)]⟩] K σ := by
  intro w hw
  have hcell : w.cell? ⟨b2, 0, none⟩ = some (.map none) := by simp [World.cell?, hw b2 _ h2]
  have hseq := AnyZ.keys_gives_nil (ρ := Tryz.keys120_ren) { Tryz.keys120 with } Fence.wide 2 trivial rfl b2 w (hw.lt h2) hcell
  have hcall := AnyZ.sorted_in Tryz.sorted119 Fence.wide 5 trivial trivial trivial trivial rfl (by omega) (Tryz.sorts119 _) (enters_of Tryz.func172 (by kernel_rfl) rfl) 173 #[.pointer (some ⟨b2, 0, none⟩)] trivial (enters_of Tryz.func173 (by kernel_rfl) rfl) _ 0 (Nat.zero_le _) (by omega) w hseq
  refine callsIn_wide.2 ((callsIn_wide.1 hcall).mono ?_)
  rintro en w' ⟨v, ss, rfl, hS, hrow, hnil, hbel⟩
  have : v = .slice none 0 0 := hnil.2 hS
  subst this
  exact ⟨_, rfl, σ, ext_below hw hbel, hK⟩
theorem sortK_eq (l : List ByteArray) : sortK l = sortN l := by unfold sortK sortN; rw [sortB_merge]
attribute [local irreducible] ptrW ifW brW andW rdT alW letJ stW muW biW vaW imW callT cvalT app callW invW callVW sizeT oW nilF oneK loopW rfW funW begW roundK exW idxW Gr Put
theorem s_Keys (m : Option Nat) {σ : H} {K : Value → H → Prop} (hK : ∀ b σ', Gr σ σ' → σ' b = some (.cells ⟨[.map m]⟩ 140 (0, 0)) → K (.func (.func 173) ⟨[]⟩ ⟨[.pointer (some ⟨b, 0, none⟩)]⟩) σ') : callW Tryz.prog 120 [.map m] K σ := by
  refine c120 _ ?_
  unfold g120
  refine al_i ?_
  intro b σ' hg hb _
  exact hK b σ' hg hb
theorem s_Names {σ : H} {bt : Nat} {A : AT} {B : Nat → Prop} (hA : TabAt σ bt A B) (dir : Int) (hk : ∀ n, A.get dir = some n → (∀ s ∈ keysL n.ents, s.size ≤ 1000) ∧ n.ents.length ≤ 1099511627776) {K : Value → H → Prop}
    (hK : ∀ x σ', Gr σ σ' → StrSl σ' x (AT.names A dir) → K (.slice x.base x.len x.cap) σ') : callW Tryz.prog 67 [.pointer (some ⟨bt, 0, none⟩), .int .i64 dir] K σ := by
  obtain ⟨T, hT, hO, rfl, hB⟩ := hA
  refine c67 _ _ ?_
  unfold g67
  refine call_i (s_get hT dir (app_P ?_))
  unfold AT.names at hK
  simp only [← sortK_eq] at hK
  rw [abs_get] at hK hk
  cases hn : T.get dir with
  | none =>
    rw [hn] at hK
    exact br_t rfl (hK ⟨none, 0, 0⟩ σ (Gr.refl _) ⟨rfl, .inl rfl⟩)
  | some n =>
    rw [hn] at hK hk
    obtain ⟨hk1, hk2⟩ := hk _ rfl
    have hN := hT.get hn
    have cN := hN.cells
    unfold Nd.cells at cN
    refine br_f rfl ?_
    (repeat (first | refine ptr_i ?_ | refine rdT_of (by repeat (first | assumption | refine gG ‹_› ?_ | exact pE ‹_› | refine pG ‹_› (by first | assumption | exact Ne.symm ‹_› | exact ne_fr ‹_› (by repeat (first | exact io ‹_› | exact mS ‹_› | refine gS ‹_› ?_ | refine pS ‹_› ?_)) | exact Ne.symm (ne_fr ‹_› (by repeat (first | exact io ‹_› | exact mS ‹_› | refine gS ‹_› ?_ | refine pS ‹_› ?_)))) ?_)) (by rfl) ?_ | (refine al_i ?_; intro _ _ _ _ _) | refine and_i (rdC_of (by repeat (first | assumption | refine gG ‹_› ?_ | exact pE ‹_› | refine pG ‹_› (by first | assumption | exact Ne.symm ‹_› | exact ne_fr ‹_› (by repeat (first | exact io ‹_› | exact mS ‹_› | refine gS ‹_› ?_ | refine pS ‹_› ?_)) | exact Ne.symm (ne_fr ‹_› (by repeat (first | exact io ‹_› | exact mS ‹_› | refine gS ‹_› ?_ | refine pS ‹_› ?_)))) ?_)) (by rfl)) ?_ | refine rdA_i (by repeat (first | assumption | refine gG ‹_› ?_ | exact pE ‹_› | refine pG ‹_› (by first | assumption | exact Ne.symm ‹_› | exact ne_fr ‹_› (by repeat (first | exact io ‹_› | exact mS ‹_› | refine gS ‹_› ?_ | refine pS ‹_› ?_)) | exact Ne.symm (ne_fr ‹_› (by repeat (first | exact io ‹_› | exact mS ‹_› | refine gS ‹_› ?_ | refine pS ‹_› ?_)))) ?_)) (by rfl) ?_ | (refine st_i2 (by repeat (first | assumption | refine gG ‹_› ?_ | exact pE ‹_› | refine pG ‹_› (by first | assumption | exact Ne.symm ‹_› | exact ne_fr ‹_› (by repeat (first | exact io ‹_› | exact mS ‹_› | refine gS ‹_› ?_ | refine pS ‹_› ?_)) | exact Ne.symm (ne_fr ‹_› (by repeat (first | exact io ‹_› | exact mS ‹_› | refine gS ‹_› ?_ | refine pS ‹_› ?_)))) ?_)) (by first | exact sz_int | exact sz_string | exact sz_bool | exact sz_Inode | exact sz_Quota | exact sz_MSI | exact sz_place | exact sz_Errno) (by rfl) (by rfl) ?_; intro _ _) | refine app_P ?_ | refine app_I ?_ | refine app_S ?_ | refine app_B ?_ | refine app_M ?_ | refine app_L ?_ | refine app_U ?_ | refine app_R ?_ | (refine app_of rfl ?_; try dsimp only)))
    refine call_i (s_Keys _ ?_)
    intro b2 σ1 g1 e1
    refine app_R ?_
    cases he : n.eb with
    | none =>
      rw [he] at e1
      refine call_i (x_Sorted_nil e1 ?_)
      refine app_L ?_
      refine hK ⟨none, 0, 0⟩ σ1 g1 ⟨?_, .inl ?_⟩
      · have : n.abs.ents = [] := hN.none he
        simp [sortK, keysL, this]
      · have : n.abs.ents = [] := hN.none he
        simp [sortK, keysL, this]
    | some e =>
      rw [he] at e1
      refine call_i (x_Sorted e1 ((hN.ents e he).gr g1) (fun s hs => ?_) ?_ ?_)
      · have := hk1 s hs
        unfold maxLen; omega
      · have : n.ents.length ≤ 1099511627776 := hk2
        omega
      · intro x σ2 g2 hx
        refine app_L ?_
        exact hK x σ2 (g1.trans g2) hx
end Go.Proofs.YtlpcehbfoogejaaGreatDoor

