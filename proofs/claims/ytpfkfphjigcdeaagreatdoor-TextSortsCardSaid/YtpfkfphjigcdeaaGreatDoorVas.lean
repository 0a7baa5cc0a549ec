/- A part of a proof. -/
import Derived.Test.YtpfkfphjigcdeaaGreatDoorVar
import Derived.Laws.StandIn
set_option maxRecDepth 100000
namespace Go.Proofs.YtpfkfphjigcdeaaGreatDoor
open Go Go.HL Go.Wk
attribute [local irreducible] ptrW ifW brW andW rdT alW letJ stW muW biW vaW imW callT cvalT app callW invW callVW sizeT oW nilF oneK loopW rfW funW begW roundK exW idxW Gr Put
def Nd.abs (n : Nd) : AN := ⟨n.kind, n.mode, n.data, n.links, n.up, n.ents⟩
def Tb.abs (T : Tb) : AT := ⟨T.qi, T.qb, T.ui, T.ub, T.last, T.nodes.map fun p => (p.1, p.2.abs)⟩
theorem abs_get (T : Tb) (i : Int) : T.abs.get i = (T.get i).map Nd.abs := lk_map _ _ _
theorem abs_find (T : Tb) (d : Int) (s : ByteArray) : T.abs.find d s = T.find d s := by
 unfold AT.find Tb.find; rw [abs_get]; cases T.get d <;> rfl
theorem abs_up (T : Tb) (d : Int) : T.abs.upOf d = T.up d := by
 unfold AT.upOf Tb.up; rw [abs_get]; cases T.get d <;> rfl
structure Own (T : Tb) : Prop where
 blk : ∀ i j n m, T.get i = some n -> T.get j = some m -> n.blk = m.blk -> i = j
 eb : ∀ i j n m e, T.get i = some n -> T.get j = some m -> n.eb = some e -> m.eb = some e -> i = j
 mb : ∀ i n, T.get i = some n -> n.eb ≠ some T.mb
def Tb.own (bt : Nat) (T : Tb) (b : Nat) : Prop := b = bt \/ b = T.mb \/ ∃ i n, T.get i = some n /\ (b = n.blk \/ n.eb = some b)
def Tb.set (T : Tb) (i : Int) (n : Nd) : Tb := { T with nodes := HL.up i n T.nodes }
theorem get_set (T : Tb) (i j : Int) (n : Nd) : (T.set i n).get j = if j = i then some n else T.get j := by
 unfold Tb.set Tb.get; simp only [lk_up]
 by_cases h : j = i <;> simp [h]
section
variable {σ σ' : H} {bt : Nat} {T : Tb} {b : Nat} {o : Obj}
theorem NdAt.put {m : Nd} (h : NdAt σ m) (hp : Put σ b o σ') (h1 : m.blk ≠ b) (h2 : m.eb ≠ some b) : NdAt σ' m :=
 ⟨hp.get h1 h.cells, fun e he => (h.ents e he).put hp (by intro e'; subst e'; exact h2 he), h.none, h.dir⟩
theorem TAt.own_some (h : TAt σ bt T) (hb : T.own bt b) : ∃ o, σ b = some o := by
 rcases hb with e | e | ⟨i, n, hn, e | e⟩
 ·subst e; exact ⟨_, h.cells⟩
 ·subst e; obtain ⟨_, _, h1, _⟩ := h.nodes; exact ⟨_, h1⟩
 ·subst e; exact ⟨_, (h.get hn).cells⟩
 ·obtain ⟨_, _, h1, _⟩ := (h.get hn).ents _ e; exact ⟨_, h1⟩
theorem TAt.put (h : TAt σ bt T) (hp : Put σ b o σ') (hn : ¬ T.own bt b) : TAt σ' bt T := by
 refine ⟨hp.get ?_ h.cells, h.nodes.put hp ?_, fun i n hg => (h.get hg).put hp ?_ ?_⟩
 ·intro e; exact hn (.inl e.symm)
 ·intro e; exact hn (.inr (.inl e.symm))
 ·intro e; exact hn (.inr (.inr ⟨i, n, hg, .inl e.symm⟩))
 ·intro e; exact hn (.inr (.inr ⟨i, n, hg, .inr e⟩))
theorem Own.same {T' : Tb} (h : Own T) (h1 : T'.mb = T.mb) (h2 : T'.nodes = T.nodes) : Own T' := by
 have hg : ∀ i, T'.get i = T.get i := by intro i; unfold Tb.get; rw [h2]
 refine ⟨?_, ?_, ?_⟩
 ·intro i j n m; rw [hg, hg]; exact h.blk i j n m
 ·intro i j n m e; rw [hg, hg]; exact h.eb i j n m e
 ·intro i n; rw [hg, h1]; exact h.mb i n
theorem Own.set (ho : Own T) {i : Int} {n n' : Nd} (hn : T.get i = some n) (h1 : n'.blk = n.blk) (h2 : n'.eb = n.eb) : Own (T.set i n') := by
 have key : ∀ j m, (T.set i n').get j = some m -> ∃ m', T.get j = some m' /\ m.blk = m'.blk /\ m.eb = m'.eb := by
  intro j m hm
  rw [get_set] at hm
  by_cases e : j = i
  ·rw [if_pos e] at hm; cases hm; subst e; exact ⟨n, hn, h1, h2⟩
  ·rw [if_neg e] at hm; exact ⟨m, hm, rfl, rfl⟩
 refine ⟨?_, ?_, ?_⟩
 ·intro a c x y hx hy hb
  obtain ⟨x', hx', e1, _⟩ := key a x hx
  obtain ⟨y', hy', e2, _⟩ := key c y hy
  exact ho.blk a c x' y' hx' hy' (by rw [<- e1, <- e2]; exact hb)
 ·intro a c x y e hx hy h3 h4
  obtain ⟨x', hx', _, e1⟩ := key a x hx
  obtain ⟨y', hy', _, e2⟩ := key c y hy
  exact ho.eb a c x' y' e hx' hy' (by rw [<- e1]; exact h3) (by rw [<- e2]; exact h4)
 ·intro a x hx
  obtain ⟨x', hx', _, e1⟩ := key a x hx
  rw [e1]; exact ho.mb a x' hx'
end
structure Lng (σ σ' : H) : Prop where
 gr : Gr σ σ'
def TabAt (σ : H) (bt : Nat) (A : AT) (B : Nat -> Prop) : Prop := ∃ T, TAt σ bt T /\ Own T /\ T.abs = A /\ ∀ b, T.own bt b ↔ B b
theorem TabAt.gr {σ σ' : H} {bt : Nat} {A : AT} {B : Nat -> Prop} (h : TabAt σ bt A B) (hg : Gr σ σ') : TabAt σ' bt A B := by
 obtain ⟨T, h1, h2⟩ := h; exact ⟨T, h1.gr hg, h2⟩
theorem TabAt.put {σ σ' : H} {bt b : Nat} {A : AT} {B : Nat -> Prop} {o : Obj} (h : TabAt σ bt A B) (hp : Put σ b o σ') (hn : ¬ B b) : TabAt σ' bt A B := by
 obtain ⟨T, h1, h2, h3, h4⟩ := h; exact ⟨T, h1.put hp (by rw [h4]; exact hn), h2, h3, h4⟩
theorem TabAt.some {σ : H} {bt b : Nat} {A : AT} {B : Nat -> Prop} (h : TabAt σ bt A B) (hb : B b) : ∃ o, σ b = some o := by
 obtain ⟨T, h1, h2, h3, h4⟩ := h; exact h1.own_some ((h4 b).2 hb)
theorem TabAt.fresh {σ : H} {bt b : Nat} {A : AT} {B : Nat -> Prop} (h : TabAt σ bt A B) (hb : σ b = none) : ¬ B b := by
 intro hB; obtain ⟨o, ho⟩ := h.some hB; rw [hb] at ho; cases ho
theorem one_f {f : Fn} {as_ cs : Array Value} {g : H -> Prop} {σ : H} (h : g σ) : oneK (.func f as_ cs) g σ := by unfold oneK; exact h
theorem und_MSI : Tryz.prog.underlying 32 = some (.map 9 3) := by kernel_rfl
theorem und_MIN : Tryz.prog.underlying 68 = some (.map 3 63) := by kernel_rfl
theorem TAt.dir {σ : H} {bt : Nat} {T : Tb} (hT : TAt σ bt T) {d : Int} {n : Nd} (hn : T.get d = some n) (hk : n.kind = 2) : ∃ e, n.eb = some e := by
 have := (hT.get hn).dir hk
 cases he : n.eb with
 | none => exact absurd he this
 | some e => exact ⟨e, rfl⟩
theorem s_NewT (qi qb : Int) {σ : H} {K : KH} (hN : newOk qi qb = false -> K (.pointer none) σ)
 (hK : newOk qi qb = true -> ∀ bt σ' B', σ bt = none -> TabAt σ' bt (newT qi qb) B' -> Gr σ σ' -> (∀ b, B' b -> σ b = none) -> K (.pointer (some ⟨bt, 0, none⟩)) σ') :
 callW Tryz.prog 19 [.agg ⟨[.int .i64 qi, .int .i64 qb]⟩] K σ := by
 refine callW.drop (K' := fun v σ' => (newOk qi qb = false /\ v = .pointer none /\ Gr σ σ') \/ (newOk qi qb = true /\ K v σ')) ?_ ?_
 case refine_2 =>
  rintro v σ' (⟨h1, h2, h3⟩ | ⟨h1, h2⟩)
  ·exact ⟨σ, h3, h2 ▸ hN h1⟩
  ·exact ⟨σ', Gr.refl _, h2⟩
 refine c19 _ _ ?_
 unfold g19
 refine al_i ?_; intro b3 σ1 g1 e1 n1
 refine j_i (fun j => ∀ x : Bool, x = !newOk qi qb -> j (some ⟨b3, 0, none⟩) x σ1) ?_ ?_
 case refine_2 =>
  intro j hj
  (repeat (first|refine ptr_i ?_|refine z2 ?_|(refine al_i ?_;intro _ _ _ _ _)|refine z4 ?_|refine z5 ?_|(refine z6 ?_;intro _ _)|refine app_P ?_|refine app_I ?_|refine app_S ?_|refine app_B ?_|refine app_M ?_|refine app_L ?_|refine app_U ?_|refine app_R ?_|(refine app_of rfl ?_;try dsimp only)))
  by_cases h1 : qi < 1
  ·exact br_t (by simpa using h1) (hj _ (by simp [newOk, h1]))
  refine br_f (by simpa using h1) ?_
  (repeat (first|refine ptr_i ?_|refine z2 ?_|(refine al_i ?_;intro _ _ _ _ _)|refine z4 ?_|refine z5 ?_|(refine z6 ?_;intro _ _)|refine app_P ?_|refine app_I ?_|refine app_S ?_|refine app_B ?_|refine app_M ?_|refine app_L ?_|refine app_U ?_|refine app_R ?_|(refine app_of rfl ?_;try dsimp only)))
  by_cases h2 : qi > 1048576
  ·exact br_t (by simpa using h2) (hj _ (by simp [newOk, h2]))
  refine br_f (by simpa using h2) ?_
  (repeat (first|refine ptr_i ?_|refine z2 ?_|(refine al_i ?_;intro _ _ _ _ _)|refine z4 ?_|refine z5 ?_|(refine z6 ?_;intro _ _)|refine app_P ?_|refine app_I ?_|refine app_S ?_|refine app_B ?_|refine app_M ?_|refine app_L ?_|refine app_U ?_|refine app_R ?_|(refine app_of rfl ?_;try dsimp only)))
  by_cases h3 : qb < 0
  ·exact br_t (by simpa using h3) (hj _ (by simp [newOk, h3]))
  refine br_f (by simpa using h3) ?_
  (repeat (first|refine ptr_i ?_|refine z2 ?_|(refine al_i ?_;intro _ _ _ _ _)|refine z4 ?_|refine z5 ?_|(refine z6 ?_;intro _ _)|refine app_P ?_|refine app_I ?_|refine app_S ?_|refine app_B ?_|refine app_M ?_|refine app_L ?_|refine app_U ?_|refine app_R ?_|(refine app_of rfl ?_;try dsimp only)))
  exact hj _ (by simp [newOk, h1, h2, h3])
 intro x hx
 cases hx2 : newOk qi qb with
 | false =>
  rw [hx2] at hx; subst hx
  exact br_t rfl (.inl ⟨rfl, rfl, g1⟩)
 | true =>
  rw [hx2] at hx; subst hx
  refine br_f rfl ?_
  refine al_i ?_; intro b7 σ2 g2 e2 n2
  refine al_i ?_; intro b8 σ3 g3 e3 n3
  (repeat (first|refine ptr_i ?_|refine z2 ?_|(refine al_i ?_;intro _ _ _ _ _)|refine z4 ?_|refine z5 ?_|(refine z6 ?_;intro _ _)|refine app_P ?_|refine app_I ?_|refine app_S ?_|refine app_B ?_|refine app_M ?_|refine app_L ?_|refine app_U ?_|refine app_R ?_|(refine app_of rfl ?_;try dsimp only)))
  rename_i b13 σ4 g4 e4 n4
  let nr : Nd := ⟨b8, 2, 493, ⟨⟨[]⟩⟩, 1, 1, some b7, []⟩
  have m0 : MapAt σ4 b13 (encL kkI Nd.ptr []) := MapAt.new e4
  refine mu_i (kk := kkI) (f := Nd.ptr) und_MIN und_int m0 1 nr ?_
  intro o5 σ5 p5 m5
  refine al_i ?_; intro b14 σ6 g6 e6 n6
  refine .inr ⟨rfl, ?_⟩
  let T : Tb := ⟨qi, qb, 1, 0, 1, b13, [(1, nr)]⟩
  have q8 : b8 ≠ b13 := ne_fresh e3 n4
  have q7 : b7 ≠ b13 := ne_fr n4 (by repeat (first | exact io ‹_› | exact mS ‹_› | refine gS ‹_› ?_ | refine pS ‹_› ?_))
  have hget : ∀ i n, T.get i = some n -> i = 1 /\ n = nr := by
   intro i n h
   unfold Tb.get at h
   simp only [T, lk] at h
   cases hi : (i == 1) with
   | true => rw [hi] at h; cases h; exact ⟨by simpa using hi, rfl⟩
   | false => rw [hi] at h; cases h
  have hT : TAt σ6 b14 T := by
   refine ⟨e6, m5.gr g6, ?_⟩
   intro i n h
   obtain ⟨_, rfl⟩ := hget i n h
   refine ⟨?_, ?_, fun h => (by cases h), fun _ h => (by cases h)⟩
   ·exact g6.get (p5.get q8 (g4.get e3))
   ·intro e he
    cases he
    exact MapAt.new (g6.get (p5.get q7 (g4.get (g3.get e2))))
  have hO : Own T := by
   refine ⟨?_, ?_, ?_⟩
   ·intro i j n m hi hj _; rw [(hget i n hi).1, (hget j m hj).1]
   ·intro i j n m e hi hj _ _; rw [(hget i n hi).1, (hget j m hj).1]
   ·intro i n hi; rw [(hget i n hi).2]; intro h; exact q7 (Option.some.inj h)
  have gg : Gr σ σ4 := by repeat (first | exact Gr.refl _ | assumption | refine Gr.trans ?_ ‹_› | refine Gr.putF ?_ ‹_› (none_of ?_ ‹_›))
  have g5 : Gr σ σ5 := gg.putF p5 (none_of (by repeat (first | exact Gr.refl _ | assumption | refine Gr.trans ?_ ‹_› | refine Gr.putF ?_ ‹_› (none_of ?_ ‹_›))) n4)
  refine hK hx2 b14 σ6 (T.own b14) (none_of g5 n6) ⟨T, hT, hO, rfl, fun _ => Iff.rfl⟩ (g5.trans g6) ?_
  rintro b (e | e | ⟨i, n, hn, hb⟩)
  ·subst e; exact none_of g5 n6
  ·subst e; exact none_of ((g1.trans g2).trans g3) n4
  ·obtain ⟨_, rfl⟩ := hget i n hn
   rcases hb with e | e
   ·subst e; exact none_of (g1.trans g2) n3
   ·cases e; exact none_of g1 n2
end Go.Proofs.YtpfkfphjigcdeaaGreatDoor

set_option maxRecDepth 100000
namespace Go.Proofs.YtpfkfphjigcdeaaGreatDoor
open Go Go.HL Go.Wk
theorem go_IBS : isGo Tryz.prog 97 = false := by kernel_rfl
theorem fn_IBS : (Tryz.prog.funcs[97]?).map (fun fn => ((fn.name == "runtime.NumGoroutine"), fn.body.isNone)) = some (false, true) := by kernel_rfl
theorem ex_IBS : (Tryz.prog.funcs[97]?).bind (fun fn => Extern.find fn) = some Extern.BytealgIndexByte.indexByte := by kernel_rfl
theorem en_IBS : (Tryz.prog.funcs[97]?).map (fun fn => (Extern.findNext fn).isNone) = some true := by kernel_rfl
theorem x_IBS (s : ByteArray) (c : Int) {σ : H} {F : Int -> H -> Prop} (hF : F (firstIdx s c.toNat.toUInt8) σ) : cvalT Tryz.prog (.func (.func 97) ⟨[]⟩ ⟨[]⟩) [.string s, .int .u8 c] kI F σ := by
 unfold cvalT callVW
 simp only [go_IBS]
 intro w hw
 have h1 := fn_IBS
 have h2 := ex_IBS
 have h3 := en_IBS
 cases hf : Tryz.prog.funcs[97]? with
 | none => rw [hf] at h1; cases h1
 | some fn =>
  rw [hf] at h1 h2 h3
  simp only [Option.map_some, Option.some.injEq, Prod.mk.injEq, Option.bind_some] at h1 h2 h3
  have hr := run_callFunc_indexByte hf h1.1 h1.2 (Option.isNone_iff_eq_none.1 h3) h2 #[.string s, .int .u8 c] w
  rw [run_indexByte_string] at hr
  have : (callS (.func (.func 97) ⟨[]⟩ ⟨[]⟩) [.string s, .int .u8 c]).run Tryz.prog w = .ok (.value (.int .i64 (firstIdx s c.toNat.toUInt8))) w := by
   refine Eq.trans ?_ hr
   simp [callS, Deferred.ofValue, invoke]
  rw [this]
  exact ⟨σ, Ext.refl hw, app_I hF⟩
theorem firstIdx_lt (s : ByteArray) (c : UInt8) : decide (firstIdx s c < 0) = !(s.toList.any fun x => x == c) := by
 have key : (∃ i, i < s.size /\ s[i]! = c) ↔ c ∈ s.toList := by
  rw [ByteArray.toList_eq]
  constructor
  ·rintro ⟨i, hi, he⟩
   rw [getElem!_pos s i hi] at he
   rw [<- he]
   exact Array.getElem_mem_toList (xs := s.data) hi
  ·intro h
   obtain ⟨i, hi, he⟩ := List.getElem_of_mem h
   have hi' : i < s.data.size := by simpa using hi
   refine ⟨i, hi', ?_⟩
   rw [getElem!_pos s i hi', <- he]
   simp [ByteArray.getElem_eq_getElem_data]
 unfold firstIdx
 cases hf : (List.range s.size).find? fun i => s[i]! == c with
 | some i =>
  have h1 := List.find?_some hf
  have h2 := List.mem_of_find?_eq_some hf
  have : c ∈ s.toList := key.1 ⟨i, by simpa using h2, by simpa using h1⟩
  have h3 : (s.toList.any fun x => x == c) = true := List.any_eq_true.2 ⟨c, this, by simp⟩
  rw [h3]
  simp
 | none =>
  have h1 := List.find?_eq_none.1 hf
  have h3 : (s.toList.any fun x => x == c) = false := by
   rw [List.any_eq_false]
   intro x hx hxc
   have : x = c := by simpa using hxc
   subst this
   obtain ⟨i, hi, he⟩ := key.2 hx
   exact h1 i (by simpa using hi) (by simpa using he)
  rw [h3]; rfl
theorem x_IndexByte (s : ByteArray) (c : Int) {σ : H} {K : KH} (hK : K (.int .i64 (firstIdx s c.toNat.toUInt8)) σ) : callW Tryz.prog 40 [.string s, .int .u8 c] K σ := by
 refine c40 _ _ ?_
 unfold g40
 refine call_i ?_
 refine c73 _ _ ?_
 unfold g73
 exact x_IBS s c (app_I hK)
theorem iByte : IByte := by
 intro s σ K hK
 refine x_IndexByte s 0 (hK _ ?_)
 have := firstIdx_lt s 0
 rw [ByteArray.toList_eq] at this
 exact this
end Go.Proofs.YtpfkfphjigcdeaaGreatDoor

namespace Go.Wk
open Go Go.HL
def leB : List UInt8 -> List UInt8 -> Bool
 | [], _ => true
 | _ :: _, [] => false
 | a :: r, b :: s => match Nat.blt a.toNat b.toNat with
  | true => true
  | false => match Nat.blt b.toNat a.toNat with
   | true => false
   | false => leB r s
def insB (x : List UInt8) : List (List UInt8) -> List (List UInt8)
 | [] => [x]
 | y :: r => match leB x y with
  | true => x :: y :: r
  | false => y :: insB x r
def sortB : List (List UInt8) -> List (List UInt8)
 | [] => []
 | x :: r => insB x (sortB r)
def sortN (l : List ByteArray) : List ByteArray := (sortB (l.map fun s => s.data.toList)).map fun x => (⟨⟨x⟩⟩ : ByteArray)
def AT.names (A : AT) (dir : Int) : List ByteArray := match A.get dir with
 | none => []
 | some n => sortN (keysL n.ents)
structure Pl where
 dir : Int
 name : ByteArray
 ino : Int
 there : Bool
def Pl.z : Pl := ⟨0, ⟨⟨[]⟩⟩, 0, false⟩
def splitL (c : UInt8) : List UInt8 -> List (List UInt8)
 | [] => [[]]
 | x :: r => match x == c with
  | true => [] :: splitL c r
  | false => match splitL c r with
   | [] => [[x]]
   | h :: t => (x :: h) :: t
def okPart (s : ByteArray) : Bool := !sEq s ⟨⟨[]⟩⟩ && !sEq s ⟨⟨[46]⟩⟩
def partsB (path : ByteArray) : List ByteArray := ((splitL 47 path.data.toList).map fun l => (⟨⟨l⟩⟩ : ByteArray)).filter okPart
def mayE (path : ByteArray) : Int := if sEq path ⟨⟨[]⟩⟩ then 5 else if path.size > 255 then 3 else if hasNul path then 2 else 0
def headIs (c : UInt8) (s : ByteArray) : Bool := match s.data.toList with
 | [] => false
 | x :: _ => x == c
def AT.data (A : AT) (i : Int) : ByteArray := ((A.get i).map (·.data)).getD ⟨⟨[]⟩⟩
def AT.steps (A : AT) (go : Int -> ByteArray -> Int -> Int × Pl × Int) (follow : Bool) : List ByteArray -> Pl -> Int -> Int × Pl × Int
 | [], p, h => (0, p, h)
 | name :: rest, p, h =>
  if p.there = false then (5, Pl.z, h)
  else if A.kind p.ino ≠ 2 then (8, Pl.z, h)
  else if sEq name ⟨⟨[46, 46]⟩⟩ = true then AT.steps A go follow rest ⟨A.upOf p.ino, ⟨⟨[]⟩⟩, A.upOf p.ino, true⟩ h
  else if name.size > 56 then (3, Pl.z, h)
  else
   let o := A.find p.ino name
   let q : Pl := ⟨p.ino, name, o.getD 0, o.isSome⟩
   if o.isSome = false \/ (rest.isEmpty && !follow) = true \/ A.kind q.ino ≠ 3 then AT.steps A go follow rest q h
   else if h - 1 < 0 then (9, Pl.z, h - 1)
   else
    let r := go q.dir (A.data q.ino) (h - 1)
    if r.1 ≠ 0 then (r.1, Pl.z, r.2.2) else AT.steps A go follow rest r.2.1 r.2.2
def AT.walk (A : AT) : Nat -> Int -> ByteArray -> Bool -> Int -> Int × Pl × Int
 | 0, _, _, _, h => (9, Pl.z, h)
 | f + 1, at_, path, follow, h =>
  if mayE path ≠ 0 then (mayE path, Pl.z, h)
  else
   let a := if headIs 47 path then 1 else at_
   A.steps (fun d s h' => AT.walk A f d s true h') follow (partsB path) ⟨a, ⟨⟨[]⟩⟩, a, true⟩ h
def AT.locate (A : AT) (cwd path : ByteArray) (follow : Bool) : Int × Pl :=
 if sEq path ⟨⟨[]⟩⟩ then (5, Pl.z)
 else if headIs 47 path then let r := A.walk 10 1 path follow 8; (r.1, r.2.1)
 else if headIs 47 cwd = false then (5, Pl.z)
 else
  let r := A.walk 10 1 cwd true 8
  if r.1 ≠ 0 then (r.1, Pl.z)
  else if r.2.1.there = false then (5, Pl.z)
  else if A.kind r.2.1.ino ≠ 2 then (8, Pl.z)
  else let r' := A.walk 10 r.2.1.ino path follow 8; (r'.1, r'.2.1)
structure IN where
 kind : Int
 mode : Int
 data : ByteArray
 links : Int
def IN.z : IN := ⟨0, 0, ⟨⟨[]⟩⟩, 0⟩
def AN.inode (n : AN) : IN := ⟨n.kind, n.mode, n.data, n.links⟩
def AT.ino (A : AT) (i : Int) : IN := ((A.get i).map AN.inode).getD IN.z
def AT.with_ (A : AT) (cwd path : ByteArray) (follow : Bool) : Int × Int × IN :=
 let r := A.locate cwd path follow
 if r.1 ≠ 0 then (r.1, 0, IN.z)
 else if r.2.there = false then (5, 0, IN.z)
 else match A.get r.2.ino with
  | none => (5, 0, IN.z)
  | some n => (0, r.2.ino, n.inode)
def AT.stat (A : AT) (cwd path : ByteArray) (follow : Bool) : Int × IN := let r := A.with_ cwd path follow; (r.1, r.2.2)
def AT.read (A : AT) (cwd path : ByteArray) : Int × ByteArray :=
 let r := A.with_ cwd path true
 if r.1 ≠ 0 then (r.1, ⟨⟨[]⟩⟩) else if r.2.2.kind = 2 then (7, ⟨⟨[]⟩⟩) else (0, r.2.2.data)
def AT.deep (A : AT) : Nat -> Int -> Option Int
 | 0, _ => none
 | f + 1, d => if d = 1 then some 1 else (AT.deep A f (A.upOf d)).map (· + 1)
def AT.listF (A : AT) (cwd path : ByteArray) : Int × List ByteArray :=
 let r := A.with_ cwd path true
 if r.1 ≠ 0 then (r.1, []) else if r.2.2.kind ≠ 2 then (8, []) else (0, A.names r.2.1)
def AT.levels (A : AT) : Nat -> Int -> Int
 | 0, _ => 0
 | f + 1, i => if A.kind i ≠ 2 then 0 else (A.names i).foldl (fun n s => let x := AT.levels A f ((A.find i s).getD 0); if x > n then x else n) 0 + 1
end Go.Wk

