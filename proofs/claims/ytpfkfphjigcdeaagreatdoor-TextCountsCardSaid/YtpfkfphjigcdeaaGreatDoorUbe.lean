/- A part of a proof. -/
import Derived.Test.YtpfkfphjigcdeaaGreatDoorUbd
import Derived.Test.YtpfkfphjigcdeaaGreatDoorChecked
import Derived.Maps.RangeRun
import Derived.Shelf.Strconv.Itoa3
import Derived.Shelf.LaysM
import Derived.Ground.NamesProg
import Derived.Test.YtpfkfphjigcdeaaGreatDoorProg
import GoSem.ClaimJoined
set_option maxRecDepth 100000
namespace Go.Proofs.YtpfkfphjigcdeaaGreatDoor
open Go Go.HL Go.Wk
attribute [local irreducible] ptrW ifW brW andW rdT alW letJ stW muW biW vaW imW callT cvalT app callW invW callVW sizeT oW nilF oneK loopW rfW funW begW roundK exW idxW Gr Put
theorem und_mapFD : Tryz.prog.underlying 60 = some (.map 9 (Tryz.prog.underlying 60 |>.elim 0 fun d => match d with | .map _ e => e | _ => 0)) := by kernel_rfl
def fnv (k : FuncId) (v : Value) : Value := .func (.func k) ⟨[v]⟩ ⟨[]⟩
def txTbl (v : Value) : List (ByteArray × Value) :=
 up ⟨⟨[117, 110, 105, 113]⟩⟩ (fnv 27 v) (up ⟨⟨[115, 111, 114, 116]⟩⟩ (fnv 26 v) (up ⟨⟨[99, 117, 116]⟩⟩ (fnv 25 v) (up ⟨⟨[116, 114]⟩⟩ (fnv 24 v) (up ⟨⟨[119, 99]⟩⟩ (fnv 23 v) (up ⟨⟨[116, 97, 105, 108]⟩⟩ (fnv 22 v) (up ⟨⟨[104, 101, 97, 100]⟩⟩ (fnv 21 v) (up ⟨⟨[99, 97, 116]⟩⟩ (fnv 20 v) [])))))))
def RunEx (A : AT) (nm inn cwd : ByteArray) (args : List ByteArray) (Q : Dn -> Prop) : Prop := ∀ (σ : H) (x : Sl) (bf : Nat) (K : KH), FT A bf σ -> RowsAt σ 1 (strRows args) x -> x.len <= x.cap -> (∀ σ' d, Q d -> Gr σ σ' -> K (.tuple ⟨[dnW d, .bool true]⟩) σ') ->
 callW Tryz.prog 16 [.pointer (some ⟨bf, 0, none⟩), .agg ⟨[.string nm, .slice x.base x.len x.cap, .string inn, .string cwd]⟩] K σ
theorem run_ex {A : AT} {nm inn cwd : ByteArray} {args : List ByteArray} {Q : Dn -> Prop} {k : FuncId} (hk : ∀ v, lk nm (txTbl v) = some (fnv k v)) (hgo : isGo Tryz.prog k = true) (h : TlEx A k nm inn cwd args Q) : RunEx A nm inn cwd args Q := by
 intro σ x bf K hF hx hxc hK
 refine c16 _ nm x inn cwd ?_
 unfold g16
 refine al_i ?_; intro b6 σ1 g1 e1 n1
 refine al_i ?_; intro b7 σ2 g2 e2 n2
 refine rd_G (rdA_of (g2.get e1) (Nat.le_refl 4)) (app_of rfl ?_)
 refine al_i ?_; intro b12 σ3 g3 e3 n3
 refine st_i2 e3 sz_tool (by rfl) (by rfl) ?_; intro σ4 p4
 have g34 := g3.putF p4 n3
 refine al_i ?_; intro bm σ5 g5 e5 n5
 have k12 : σ5 b12 = some (toolC nm x inn cwd (some ⟨bf, 0, none⟩)) := g5.get p4.same
 have d12 : b12 ≠ bm := ne_fresh p4.same n5
 have m5 : MapAt σ5 bm (encL kkS (fun v : Value => v) []) := MapAt.new e5
 have N2 := g1.trans g2
 have nbm : σ2 bm = none := none_of g34 n5
 have G5 := g34.trans g5
 have step : ∀ (key : ByteArray) (f : FuncId) (l : List (ByteArray × Value)) (τ : H) (g : H -> Prop), MapAt τ bm (encL kkS (fun v : Value => v) l) -> τ b12 = some (toolC nm x inn cwd (some ⟨bf, 0, none⟩)) -> Gr σ2 τ ->
  (∀ τ', MapAt τ' bm (encL kkS (fun v : Value => v) (up key (fnv f (toolV nm x inn cwd (some ⟨bf, 0, none⟩))) l)) -> τ' b12 = some (toolC nm x inn cwd (some ⟨bf, 0, none⟩)) -> Gr σ2 τ' -> g τ') ->
  rdT (rdA 5 b12 0) (.one (.agg [.str, .slc, .str, .str, .ptr])) (fun (x14 : ByteArray) (x15 : Sl) (x16 : ByteArray) (x17 : ByteArray) (x18 : Option Addr) =>
   muW Tryz.prog 60 (.map (some bm)) (.string key) (.func (.func f) ⟨[.agg ⟨[.string x14, .slice x15.base x15.len x15.cap, .string x16, .string x17, .pointer x18]⟩]⟩ ⟨[]⟩) g) τ := by
  intro key f l τ g hm h12 hg hn
  refine rd_G (rdA_of h12 (Nat.le_refl 5)) (app_of rfl ?_)
  refine mu_i (kk := kkS) (f := fun v : Value => v) und_mapFD und_strT hm key (fnv f (toolV nm x inn cwd (some ⟨bf, 0, none⟩))) ?_
  intro o τ' p m
  exact hn τ' m (p.get d12 h12) (hg.putF p nbm)
 refine step _ 20 _ σ5 _ m5 k12 G5 fun τ1 m1 k1 G1 => ?_
 refine step _ 21 _ τ1 _ m1 k1 G1 fun τ2 m2 k2 G2 => ?_
 refine step _ 22 _ τ2 _ m2 k2 G2 fun τ3 m3 k3 G3 => ?_
 refine step _ 23 _ τ3 _ m3 k3 G3 fun τ4 m4 k4 G4 => ?_
 refine step _ 24 _ τ4 _ m4 k4 G4 fun τ5 m5' k5 G5' => ?_
 refine step _ 25 _ τ5 _ m5' k5 G5' fun τ6 m6 k6 G6 => ?_
 refine step _ 26 _ τ6 _ m6 k6 G6 fun τ7 m7 k7 G7 => ?_
 refine step _ 27 _ τ7 _ m7 k7 G7 fun τ8 m8 k8 G8 => ?_
 refine rd_S (rdC_of (G8.get (g2.get e1)) (by rfl)) ?_
 refine rd_G (rdM_at (kk := kkS) (f := fun v : Value => v) m8 (.nilFunc) true nm) ?_
 have hlk := hk (toolV nm x inn cwd (some ⟨bf, 0, none⟩))
 unfold txTbl at hlk
 rw [hlk]
 refine app_of rfl ?_
 have GG := N2.trans G8
 refine br_f rfl (cval_i hgo (h τ8 x bf _ (hF.gr GG) (hx.gr GG) hxc fun τ9 d hQ g9 => app_of rfl ?_))
 refine st_i2 (g9.get (G8.get e2)) sz_done (by rfl) (by rfl) ?_; intro τt pt
 refine rd_G (rdA_of pt.same (Nat.le_refl 3)) (app_of rfl ?_)
 exact hK τt d hQ ((GG.trans g9).putF pt (none_of g1 n2))
theorem lk_cat (v : Value) : lk (⟨⟨[99, 97, 116]⟩⟩ : ByteArray) (txTbl v) = some (fnv 20 v) := by rfl
theorem lk_head (v : Value) : lk (⟨⟨[104, 101, 97, 100]⟩⟩ : ByteArray) (txTbl v) = some (fnv 21 v) := by rfl
theorem lk_tail (v : Value) : lk (⟨⟨[116, 97, 105, 108]⟩⟩ : ByteArray) (txTbl v) = some (fnv 22 v) := by rfl
theorem lk_wc (v : Value) : lk (⟨⟨[119, 99]⟩⟩ : ByteArray) (txTbl v) = some (fnv 23 v) := by rfl
theorem lk_tr (v : Value) : lk (⟨⟨[116, 114]⟩⟩ : ByteArray) (txTbl v) = some (fnv 24 v) := by rfl
theorem lk_cut (v : Value) : lk (⟨⟨[99, 117, 116]⟩⟩ : ByteArray) (txTbl v) = some (fnv 25 v) := by rfl
theorem lk_sort (v : Value) : lk (⟨⟨[115, 111, 114, 116]⟩⟩ : ByteArray) (txTbl v) = some (fnv 26 v) := by rfl
theorem lk_uniq (v : Value) : lk (⟨⟨[117, 110, 105, 113]⟩⟩ : ByteArray) (txTbl v) = some (fnv 27 v) := by rfl
end Go.Proofs.YtpfkfphjigcdeaaGreatDoor

namespace Go.HL
open Go
section
variable {P : Program} {ops : Array Oper} {cl : Nat -> Nat} {A : Nat -> Nat -> Bool}
theorem SRunD.monoF {K K' : Pq -> Act -> H -> Prop} (hk : ∀ p a σ, Fin σ -> K p a σ -> K' p a σ) : ∀ (l : List Nat) {pend : Pq} {a : Act} {σ : H}, Fin σ -> SRunD P ops cl A pend l a K σ -> SRunD P ops cl A pend l a K' σ := by
 intro l
 induction l with
 | nil => intro pend a σ hf h; exact hk _ _ _ hf h
 | cons i l ih => intro pend a σ hf h; exact SRunD.head (l := l) (l' := l) (fun p a σ hf h => ih hf h) hf h
theorem SRunD.both {k : Nat} {l1 l2 : List Nat} {K : Pq -> Act -> H -> Prop} {pend : Pq} {a : Act} {σ : H} (hk : cl k = 2) (h1 : SRunD P ops cl A pend (k :: l1) a K σ) (h2 : SRunD P ops cl A pend (k :: l2) a K σ) :
 SRunD P ops cl A pend [k] a (fun q a σ => SRunD P ops cl A q l1 a K σ /\ SRunD P ops cl A q l2 a K σ) σ := by
 obtain ⟨o, ho, hp, h1⟩ := h1
 obtain ⟨o', ho', _, h2⟩ := h2
 rw [ho] at ho'; cases ho'
 refine ⟨o, ho, hp, ?_⟩
 by_cases hw : Region.wanted o (yielded ops a.tmps) = true
 ·rw [if_pos hw] at h1 h2 ⊢
  rw [hk] at h1 h2 ⊢
  obtain ⟨mk, obj, hu, h1⟩ := h1
  obtain ⟨mk', obj', hu', h2⟩ := h2
  refine ⟨mk, obj, hu, fun b hb => ⟨h1 b hb, ?_⟩⟩
  have h3 := h2 b hb
  have e1 := hu { (default : World) with heap := Array.replicate b default }
  have e2 := hu' { (default : World) with heap := Array.replicate b default }
  rw [e1] at e2
  simp only [Result.ok.injEq, Next.value.injEq] at e2
  obtain ⟨e3, e4⟩ := e2
  simp only [Array.size_replicate] at e3
  have e5 := congrArg World.heap e4
  have e6 : (Array.replicate b (default : Obj)).push obj = (Array.replicate b (default : Obj)).push obj' := e5
  have e7 := congrArg Array.back? e6
  have e8 : obj = obj' := by simpa using e7
  rw [<- e3, <- e8] at h3
  exact h3
 ·rw [if_neg hw] at h1 h2 ⊢
  exact ⟨h1, h2⟩
theorem any3_sound {ro : Option Nat} {n : Nat} {Q : Exit -> Act -> World -> Prop} {K : Pq -> Act -> H -> Prop} (hK : PMono K) {AL : List (List Nat)} (hanc : ancOk ops AL = true) {i j k : Nat} {m1 m2 : List Nat} (hij : i ∈ m2 /\ j ∈ m1) (hm : ∀ x ∈ m1, x = j \/ ancOf AL i x = true \/ ancOf AL j x = true) (hk2 : cl k = 2) (hki : ancOf AL i k = false /\ swapOk ops cl i k = true) (hkj : ancOf AL k j = true) :
 ∀ (fuel : Nat) (p : List Nat) (listed : Array Bool) {pend : Pq} {a : Act} {σ : H} {w : World}, (p ++ i :: k :: m1).length <= fuel -> (p ++ k :: j :: m2).length <= fuel -> σ.le w -> SRunD P ops cl (ancOf AL) pend p a (fun q a σ => SRunD P ops cl (ancOf AL) q (i :: k :: m1) a K σ /\ SRunD P ops cl (ancOf AL) q (k :: j :: m2) a K σ) σ ->
 RemOk ops listed (p ++ i :: k :: m1) -> RemOk ops listed (p ++ k :: j :: m2) -> (p ++ k :: m1).Pairwise (Rl ops cl AL) -> (p ++ m1).Pairwise (Rl ops cl AL) -> (p ++ m2).Pairwise (Rl ops cl AL) -> (∀ y ∈ p, Rl ops cl AL y i /\ Rl ops cl AL y j /\ Rl ops cl AL y k) ->
 (∀ p' a' σ' w', Ext σ w σ' w' -> K p' a' σ' -> Q .normal a' w') -> wpAnyIn (FW ro) n P .any ops Q fuel listed a w := by
 have hK2 : PMono (fun q a σ => SRunD P ops cl (ancOf AL) q (i :: k :: m1) a K σ /\ SRunD P ops cl (ancOf AL) q (k :: j :: m2) a K σ) := fun _ _ _ _ hs h => ⟨SRunD.pend hK hs h.1, SRunD.pend hK hs h.2⟩
 have hK3 : PMono (fun q a σ => SRunD P ops cl (ancOf AL) q (i :: m1) a K σ /\ SRunD P ops cl (ancOf AL) q (j :: m2) a K σ) := fun _ _ _ _ hs h => ⟨SRunD.pend hK hs h.1, SRunD.pend hK hs h.2⟩
 intro fuel
 induction fuel with
 | zero => intro p listed pend a σ w hlen; simp at hlen
 | succ fuel ih =>
  intro p listed pend a σ w hlen hlen2 hw h hr1 hr2 hpk hp1 hp2 hpR hq
  refine ⟨fun hnil => ?_, fun x hx => ?_⟩
  ·exfalso
   obtain ⟨y, r, hy⟩ : ∃ y r, p ++ i :: k :: m1 = y :: r := by cases p <;> exact ⟨_, _, rfl⟩
   have hx := hr1.ahead y (by rw [hy]; exact List.mem_cons_self ..)
   have : y ∈ Region.ready .any ops listed := by
    rw [ready_iff]
    refine ⟨hx.1, hx.2, fun z hz => ?_⟩
    rcases hr1.lin [] y r hy z hz with h' | h'
    ·exact h'
    ·simp at h'
   rw [hnil] at this; simp at this
  ·have hx' := hx
   rw [ready_iff] at hx'
   obtain ⟨hxs, hxl, hxp⟩ := hx'
   have hmem : x ∈ p ++ i :: k :: m1 := by
    rcases hr1.all x hxs with h1 | h1
    ·have : x < listed.size := by rw [hr1.cls.size]; exact hxs
     simp [this] at h1 hxl; rw [h1] at hxl; simp at hxl
    ·exact h1
   have hno : ∀ y, y ∈ p ++ i :: k :: m1 -> ancOf AL y x = true -> False := by
    intro y hy ha
    have h1 := anc_listed hanc hr1.cls x y hxs ha hxp
    have h2 := (hr1.ahead y hy).2
    have hys : y < listed.size := by rw [hr1.cls.size]; exact (hr1.ahead y hy).1
    simp [hys] at h1 h2; rw [h1] at h2; simp at h2
   rcases List.mem_append.1 hmem with hmem | hmem
   ·obtain ⟨p1, p2, rfl⟩ := List.append_of_mem hmem
    simp only [List.append_assoc, List.cons_append] at hr1 hr2 hpk hp1 hp2
    have hR : ∀ y ∈ p1, Rl ops cl AL y x := by
     intro y hy
     rw [List.pairwise_append] at hp1
     exact hp1.2.2 y hy x (List.mem_cons_self ..)
    have hfr := SRunD.front hK2 p1 (front_ok (cl := cl) hanc hr1 hx hR) (Fin.of_le hw) h
    refine op_sound hw hfr fun pend' v σ' w' he h' => ?_
    have s1 := hr1.step hx
    have s2 := hr2.step hx
    refine ih (p1 ++ p2) _ (by simp at hlen ⊢; omega) (by simp at hlen2 ⊢; omega) he.le h' (by simpa using s1) (by simpa using s2) ?_ ?_ ?_ ?_ fun p₂ a₂ σ₂ w₂ he₂ hk => hq _ _ _ _ (he.trans he₂) hk
    ·rw [List.append_assoc]
     exact hpk.sublist (List.Sublist.append (List.Sublist.refl _) (List.sublist_cons_self ..))
    ·rw [List.append_assoc]
     exact hp1.sublist (List.Sublist.append (List.Sublist.refl _) (List.sublist_cons_self ..))
    ·rw [List.append_assoc]
     exact hp2.sublist (List.Sublist.append (List.Sublist.refl _) (List.sublist_cons_self ..))
    ·intro y hy
     refine hpR y ?_
     simp at hy ⊢
     rcases hy with h | h
     ·exact .inl h
     ·exact .inr (.inr h)
   ·rcases List.mem_cons.1 hmem with rfl | hmem
    ·exact any1_sound hK hanc hlen hw (SRunD.mono (fun _ _ _ h => h.1) p (Fin.of_le hw) h) hr1 hx (fun y hy => (hpR y hy).1) hpk hq
    ·rcases List.mem_cons.1 hmem with rfl | hmem
     ·have h3 : SRunD P ops cl (ancOf AL) pend p a (fun q a σ => SRunD P ops cl (ancOf AL) q [x] a (fun q a σ => SRunD P ops cl (ancOf AL) q (i :: m1) a K σ /\ SRunD P ops cl (ancOf AL) q (j :: m2) a K σ) σ) σ :=
       SRunD.monoF (fun q a σ hf h => SRunD.both hk2 (SRunD.front hK [i] (fun y hy => by rw [List.mem_singleton.1 hy]; exact hki) hf h.1) h.2) p (Fin.of_le hw) h
      have hfr := SRunD.front hK3 (r := []) p (front_ok (cl := cl) hanc hr2 hx (fun y hy => (hpR y hy).2.2)) (Fin.of_le hw) (SRunD.app p (Fin.of_le hw) h3)
      refine op_sound hw hfr fun pend' v σ' w' he h' => ?_
      have s1 : RemOk ops (listed.setIfInBounds x true) (p ++ i :: m1) := by
       have : RemOk ops listed ((p ++ [i]) ++ x :: m1) := by simpa using hr1
       simpa using this.step hx
      have s2 := hr2.step hx
      rw [List.append_nil] at h'
      exact any2_sound hK hanc hij hm fuel p _ (by simp at hlen ⊢; omega) (by simp at hlen2 ⊢; omega) he.le h' s1 s2 hp1 hp2 (fun y hy => ⟨(hpR y hy).1, (hpR y hy).2.1⟩) fun p₂ a₂ σ₂ w₂ he₂ hk => hq _ _ _ _ (he.trans he₂) hk
     ·exfalso
      by_cases hxj : x = j
      ·subst hxj
       exact hno k (by simp) hkj
      ·rcases (hm x hmem).resolve_left hxj with h1 | h1
       ·exact hno i (by simp) h1
       ·exact hno j (by simp [hij.2]) h1
def draw3Ok (ops : Array Oper) (cl : Nat -> Nat) (AL : List (List Nat)) (p : List Nat) (i k : Nat) (m1 : List Nat) (j : Nat) (m2 : List Nat) : Bool :=
 listOk ops (p ++ i :: k :: m1) && listOk ops (p ++ k :: j :: m2) && pairOk ops cl (ancOf AL) (p ++ k :: m1) && pairOk ops cl (ancOf AL) (p ++ m1) && pairOk ops cl (ancOf AL) (p ++ m2) && p.all (fun y => rlB ops cl AL y i && (rlB ops cl AL y j && rlB ops cl AL y k)) && m1.all (fun x => Nat.beq x j || (ancOf AL i x || ancOf AL j x)) && (m2.contains i && m1.contains j) && (Nat.beq (cl k) 2 && (!ancOf AL i k && (swapOk ops cl i k && ancOf AL k j))) && ancOk ops AL
theorem draw3_sound {ro : Option Nat} {n : Nat} {Q : Exit -> Act -> World -> Prop} {K : Pq -> Act -> H -> Prop} (hK : PMono K) {AL : List (List Nat)} {p m1 m2 : List Nat} {i j k : Nat} (hm : P.follows .mixedOrders = true) (hok : draw3Ok ops cl AL p i k m1 j m2 = true) {id : Nat} {a : Act} {σ : H} {w : World} (hw : σ.le w)
 (h : SRunD P ops cl (ancOf AL) [] p a (fun q a σ => SRunD P ops cl (ancOf AL) q (i :: k :: m1) a K σ /\ SRunD P ops cl (ancOf AL) q (k :: j :: m2) a K σ) σ) (hq : ∀ p' a' σ' w', Ext σ w σ' w' -> K p' a' σ' -> Q .normal a' w') : (Code.region id ops true).wpIn (FW ro) n P Q a w := by
 unfold draw3Ok at hok
 simp only [Bool.and_eq_true] at hok
 obtain ⟨⟨⟨⟨⟨⟨⟨⟨⟨h1, h2⟩, h3⟩, h3'⟩, h4⟩, h5⟩, h6⟩, h7, h8⟩, h9, h10, h11, h12⟩, hanc⟩ := hok
 obtain ⟨l1, r1⟩ := listOk_rem h1
 obtain ⟨l2, r2⟩ := listOk_rem h2
 refine wpIn_region_any hm ?_
 refine any3_sound hK hanc ⟨by simpa using h7, by simpa using h8⟩ ?_ (Nat.eq_of_beq_eq_true h9) ⟨by simpa using h10, h11⟩ h12 _ p _ (by omega) (by omega) (w := { w with drawn := w.drawn + 1 }) hw h r1 r2 (pairOk_pairwise _ h3) (pairOk_pairwise _ h3') (pairOk_pairwise _ h4) ?_ ?_
 ·intro x hx
  have := List.all_eq_true.1 h6 x hx
  simp only [Bool.or_eq_true] at this
  rcases this with h | h
  ·exact .inl (Nat.eq_of_beq_eq_true h)
  ·exact .inr h
 ·intro y hy
  have := List.all_eq_true.1 h5 y hy
  simp only [Bool.and_eq_true, rlB, Bool.or_eq_true] at this
  exact this
 ·intro p' a' σ' w' he hk
  exact hq p' a' σ' w' ((Ext.drew hw _).trans he) hk
end
def D3 (P : Program) (τ : TypeId -> TK) (N : Nat) : Code -> Ann -> Option Nat -> Env -> (Env -> H -> Prop) -> (Nat -> Env -> H -> Prop) -> (Env -> H -> Prop) -> H -> Prop
 | .skip, _, _, e, Kn, _, _, σ => Kn e σ
 | .label _, _, _, e, Kn, _, _, σ => Kn e σ
 | .exit i, _, _, e, _, Kx, _, σ => Kx i e σ
 | .scope x, an, ro, e, Kn, Kx, Kr, σ => match an with
  | .blk a => D3 P τ N x a ro e Kn Kx Kr σ
  | _ => False
 | .ret, _, _, e, _, _, Kr, σ => Kr e σ
 | .seq x y, an, ro, e, Kn, Kx, Kr, σ => match an with
  | .seq none a b => D3 P τ N x a ro e (fun e' => D3 P τ N y b ro e' Kn Kx Kr) Kx Kr σ
  | .seq (some l) a b => letJ (l.lam fun e' => D3 P τ N y b ro e' Kn Kx Kr) (fun j => D3 P τ N x a ro e (fun e' => l.app j e') Kx Kr) σ
  | _ => False
 | .cond c x y, an, ro, e, Kn, Kx, Kr, σ => match an, evO e c with
  | .cond a b, some (.bool t) => brW t (D3 P τ N x a ro e Kn Kx Kr) (D3 P τ N y b ro e Kn Kx Kr) σ
  | _, _ => False
 | .block id x, an, ro, e, Kn, Kx, Kr, σ => match an with
  | .blk a => D3 P τ N x a ro e Kn (fun i e' σ => match Nat.beq i id with | true => Kn e' σ | false => Kx i e' σ) Kr σ
  | _ => False
 | .loop x, an, ro, e, _, Kx, Kr, σ => match an with
  | .loop l a => loopW l.ks (fun R => l.lam fun e' => D3 P τ N x a ro e' (fun e'' => l.app R e'') Kx Kr) (fun R => l.app R e) σ
  | _ => False
 | .region _ ops draw, an, _, e, Kn, _, _, σ => match an, draw with
  | .reg π AL, true => match drawOk ops (clI P ops.toList) AL π with
   | true => rgF P τ N ops.toList (ancOf AL) π [] e (fun _ => Kn) σ
   | false => False
  | .reg _ _, false => rgF P τ N ops.toList (fun _ _ => true) (List.range ops.size) [] e (fun _ => Kn) σ
  | .reg2 p i (k :: m1) j m2 AL, true => match draw3Ok ops (clI P ops.toList) AL p i k m1 j m2 with
   | true => rgF P τ N ops.toList (ancOf AL) p [] e (fun q e' => bothW (rgF P τ N ops.toList (ancOf AL) (i :: k :: m1) q e' (fun _ => Kn)) (rgF P τ N ops.toList (ancOf AL) (k :: j :: m2) q e' (fun _ => Kn))) σ
   | false => False
  | _, _ => False
 | .rangeFunc f ps asg body, an, ro, e, Kn, Kx, Kr, σ => match an, evO e f with
  | .rf ks a b, some fv => match sameLen ps.toList ks && allLt N ps.toList with
   | true => funW fv (fun g as0 cs => rfW P ro g as0 cs ks (fun l obj K => lamC ks fun vs => D3 P τ N asg a (some l) (e.puts ps.toList vs)
    (fun e1 => begW l obj (D3 P τ N body b (some l) e1 (fun _ => roundK l obj K none true .ready) (fun i _ => roundK l obj K (some (.exit i)) false .done) (fun _ => roundK l obj K (some .ret) false .done)))
    (fun _ _ _ => False) (fun _ _ => False)) (Kn e) (fun i => Kx i e) (Kr e)) σ
   | false => False
  | _, _ => False
 | _, _, _, _, _, _, _, _ => False

section
variable {P : Program} {τ : TypeId -> TK} {N : Nat}
theorem D3_sound (hm : P.follows .mixedOrders = true) : ∀ (c : Code) (an : Ann) (ro : Option Nat) {e : Env} {Kn : Env -> H -> Prop} {Kx : Nat -> Env -> H -> Prop} {Kr : Env -> H -> Prop} {σ : H}, D3 P τ N c an ro e Kn Kx Kr σ ->
 ∀ (n B : Nat) (a : Act) (w : World), FR N e a -> σ.le w -> DefOk B σ w a.defers -> B <= w.heap.size -> c.wpIn (FW ro) n P (Post N B σ w Kn Kx Kr) a w := by
 intro c
 induction c with
 | skip => intro an ro e Kn Kx Kr σ h n B a w fr hw hd hB; exact wpIn_skip ⟨e, σ, fr, Ext.refl hw, hd, h⟩
 | label l => intro an ro e Kn Kx Kr σ h n B a w fr hw hd hB; exact wpIn_label ⟨e, σ, fr, Ext.refl hw, hd, h⟩
 | exit i => intro an ro e Kn Kx Kr σ h n B a w fr hw hd hB; exact wpIn_exit ⟨e, σ, fr, Ext.refl hw, hd, h⟩
 | ret => intro an ro e Kn Kx Kr σ h n B a w fr hw hd hB; exact wpIn_ret ⟨e, σ, fr, Ext.refl hw, hd, h⟩
 | goto l => intro an ro e Kn Kx Kr σ h; exact h.elim
 | refuse s => intro an ro e Kn Kx Kr σ h; exact h.elim
 | scope b ih =>
  intro an ro e Kn Kx Kr σ h n B a w fr hw hd hB
  cases an with
  | blk an => exact wpIn_scope (fun l a w h => h) (ih an ro h n B a w fr hw hd hB)
  | _ => exact h.elim
 | seq x y ihx ihy =>
  intro an ro e Kn Kx Kr σ h n B a w fr hw hd hB
  simp only [D3] at h
  split at h
  ·rename_i ax ay
   refine wpIn_seq (wpIn_mono (ihx _ _ h n B a w fr hw hd hB) fun ex a' w' hp => ?_)
   cases ex with
   | normal =>
    obtain ⟨e', σ', fr', he, hd', h'⟩ := hp
    exact wpIn_mono (ihy _ _ h' n B a' w' fr' he.le hd' (Nat.le_trans hB he.size)) fun _ _ _ => Post.pre he
   | exit i => exact hp
   | ret => exact hp
   | goto l => exact hp.elim
   | panic c => exact hp.elim
   | outgrown => exact hp.elim
  ·rename_i l ax ay
   refine wpIn_seq (wpIn_mono (ihx _ _ h n B a w fr hw hd hB) fun ex a' w' hp => ?_)
   cases ex with
   | normal =>
    obtain ⟨e', σ', fr', he, hd', h'⟩ := hp
    obtain ⟨vs, hs, h'⟩ := Live.app_lam h'
    exact wpIn_mono (ihy _ _ h' n B a' w' (fr'.sel hs) he.le hd' (Nat.le_trans hB he.size)) fun _ _ _ => Post.pre he
   | exit i => exact hp
   | ret => exact hp
   | goto l => exact hp.elim
   | panic c => exact hp.elim
   | outgrown => exact hp.elim
  ·exact h.elim
 | cond c x y ihx ihy =>
  intro an ro e Kn Kx Kr σ h n B a w fr hw hd hB
  simp only [D3] at h
  split at h
  ·rename_i ax ay t ht
   cases t with
   | true => exact wpIn_cond_true (fr.evO ht) (ihx _ _ h n B a w fr hw hd hB)
   | false => exact wpIn_cond_false (fr.evO ht) (ihy _ _ h n B a w fr hw hd hB)
  ·exact h.elim
 | block id x ih =>
  intro an ro e Kn Kx Kr σ h n B a w fr hw hd hB
  simp only [D3] at h
  split at h
  ·refine wpIn_block (wpIn_mono (ih _ _ h n B a w fr hw hd hB) fun ex a' w' hp => ?_)
   cases ex with
   | normal => exact hp
   | exit i =>
    obtain ⟨e', σ', fr', he, hd', h'⟩ := hp
    simp only [Exit.inBlock]
    split at h'
    ·rename_i hb
     rw [if_pos (Nat.eq_of_beq_eq_true hb)]; exact ⟨e', σ', fr', he, hd', h'⟩
    ·rename_i hb
     rw [if_neg (Nat.ne_of_beq_eq_false hb)]; exact ⟨e', σ', fr', he, hd', h'⟩
   | ret => exact hp
   | goto l => exact hp.elim
   | panic c => exact hp.elim
   | outgrown => exact hp.elim
  ·exact h.elim
 | loop x ih =>
  intro an ro e Kn Kx Kr σ h n B a w fr hw hd hB
  simp only [D3] at h
  split at h
  ·rename_i l ax
   have h1 := h (lamC l.ks fun vs σ' => ∀ a w, FR N (l.zip vs) a -> σ'.le w -> DefOk B σ' w a.defers -> B <= w.heap.size -> LoopIn (FW ro) n P x (Post N B σ' w Kn Kx Kr) a w) (leC_lam _ fun vs σ' hD a w fr hw hd hB => ?_)
   ·obtain ⟨vs, g, hs, hg, h1⟩ := Live.app_get h1
    rw [prjC_lamC _ _ _ _ hg] at h1
    exact wpIn_loopIn (h1 a w (fr.sel hs) hw hd hB)
   ·refine loopIn_round (wpIn_mono (ih _ _ hD n B a w fr hw hd hB) fun ex a' w' hp => ?_)
    cases ex with
    | normal =>
     obtain ⟨e', σ'', fr', he, hd', h'⟩ := hp
     obtain ⟨vs', g, hs, hg, h'⟩ := Live.app_get h'
     rw [prjC_lamC _ _ _ _ hg] at h'
     intro b k cs hro hb hr
     obtain ⟨e2, a2, w2, hq, harr⟩ := h' a' w' (fr'.sel hs) he.le hd' (Nat.le_trans hB he.size) b k cs hro hb hr
     exact ⟨e2, a2, w2, Post.pre he hq, harr⟩
    | exit i => exact hp
    | ret => exact hp
    | goto l => exact hp.elim
    | panic c => exact hp.elim
    | outgrown => exact hp.elim
  ·exact h.elim
 | region id ops draw =>
  intro an ro e Kn Kx Kr σ h n B a w fr hw hd hB
  simp only [D3] at h
  split at h
  ·rename_i π AL
   split at h
   ·rename_i hok
    refine draw_sound (fun _ _ _ _ hs ⟨q', e', hpr, h⟩ => ⟨q', e', hpr.mono hs, h⟩) hm hok hw (rgF_sound (p := []) _ (fun y hy => by simp at hy) fr h) fun p' a' σ' w' he ⟨q', e', _, fr', hde, hk⟩ => ?_
    exact ⟨e', σ', fr', he, by rw [hde]; exact hd.ext he, hk⟩
   ·exact h.elim
  ·refine wpIn_region (run_sound _ hw (rgF_sound (p := []) _ (fun y hy => by simp at hy) fr h) fun p' a' σ' w' he ⟨q', e', _, fr', hde, hk⟩ => ?_)
   exact ⟨e', σ', fr', he, by rw [hde]; exact hd.ext he, hk⟩
  ·rename_i p i k m1 j m2 AL
   split at h
   ·rename_i hok
    have h0 := rgF_sound (p := []) _ (fun y hy => by simp at hy) fr h
    have h1 := SRunD.mono (K' := fun q a1 σ1 => SRunD P ops (clI P ops.toList) (ancOf AL) q (i :: k :: m1) a1 (fun p' a' σ' => ∃ q' e', PR P q' p' /\ FR N e' a' /\ a'.defers = a.defers /\ Kn e' σ') σ1 /\ SRunD P ops (clI P ops.toList) (ancOf AL) q (k :: j :: m2) a1 (fun p' a' σ' => ∃ q' e', PR P q' p' /\ FR N e' a' /\ a'.defers = a.defers /\ Kn e' σ') σ1)
     (fun q a1 σ1 ⟨q', e', hpr, fr', hde, hb⟩ => ⟨by rw [<- hde]; exact rgF_sound _ hpr fr' hb.1, by rw [<- hde]; exact rgF_sound _ hpr fr' hb.2⟩) p (Fin.of_le hw) h0
    refine draw3_sound (fun _ _ _ _ hs ⟨q', e', hpr, h⟩ => ⟨q', e', hpr.mono hs, h⟩) hm hok hw h1 fun p' a' σ' w' he ⟨q', e', _, fr', hde, hk⟩ => ?_
    exact ⟨e', σ', fr', he, by rw [hde]; exact hd.ext he, hk⟩
   ·exact h.elim
  ·exact h.elim
 | rangeFunc f ps asg body iha ihb =>
  intro an ro e Kn Kx Kr σ h n B a w fr hw hd hB
  simp only [D3] at h
  split at h
  ·rename_i ks aa ab fv hf
   split at h
   ·rename_i hgl
    simp only [Bool.and_eq_true] at hgl
    obtain ⟨hsl, hlt⟩ := hgl
    have hsl := sameLen_eq _ _ hsl
    unfold funW at h
    split at h
    case h_2 => exact h.elim
    rename_i g as0 cs
    obtain ⟨hg, hro, h⟩ := h
    refine wpIn_rangeFunc fun fn _ => ?_
    -- the record
    have enter : ∃ (l dblk : Nat) (mark : List Deferred) (w₁ : World),
     (Instr.enterLoop fn a.tmps ps asg body ro).run P w = .ok (l, mark) w₁ /\ σ l = none /\
     Ext σ w (σ.put l (.loop { state := .ready, pending := none, fn, tmps := a.tmps, params := ps, assign := asg, body, defers := dblk })) w₁ /\ DefOk B (σ.put l (.loop { state := .ready, pending := none, fn, tmps := a.tmps, params := ps, assign := asg, body, defers := dblk })) w₁ (mark ++ a.defers) := by
     cases ro with
     | none =>
      refine ⟨w.heap.size + 1, w.heap.size, [markOf w.heap.size], (w.alloc (.deferred (some []))).alloc (.loop { state := .ready, pending := none, fn, tmps := a.tmps, params := ps, assign := asg, body, defers := w.heap.size }), ?_, ?_, ?_, ?_⟩
      ·simp [Instr.enterLoop, markOf, World.alloc_eq]
      ·cases hc : σ (w.heap.size + 1) with
       | none => rfl
       | some o => have := hw.lt hc; omega
      ·have e1 := Ext.allocOut hw (.deferred (some []))
       have e2 := (Ext.alloc e1.le (.loop { state := .ready, pending := none, fn, tmps := a.tmps, params := ps, assign := asg, body, defers := w.heap.size })).2
       have : (w.alloc (.deferred (some []))).heap.size = w.heap.size + 1 := by show (w.heap.push _).size = _; simp
       rw [this] at e2
       exact e1.trans e2
      ·obtain ⟨ms, h1, h2, h3⟩ := hd
       have hlt' : ∀ r ∈ ms, r < w.heap.size := fun r hr => by
        have := (h3 r hr).2.2
        rcases Nat.lt_or_ge r w.heap.size with h | h
        ·exact h
        ·rw [Array.getElem?_eq_none h] at this; cases this
       have hget : ∀ (o o' : Obj) (r : Nat), r < w.heap.size -> ((w.alloc o).alloc o').heap[r]? = w.heap[r]? := by
        intro o o' r hr
        show ((w.heap.push o).push o')[r]? = _
        rw [Array.getElem?_push, if_neg (by simp only [Array.size_push]; omega), Array.getElem?_push, if_neg (by omega)]
       refine ⟨w.heap.size :: ms, List.nodup_cons.2 ⟨fun hr => Nat.lt_irrefl _ (hlt' _ hr), h1⟩, by simp [h2], fun r hr => ?_⟩
       rcases List.mem_cons.1 hr with rfl | hr
       ·refine ⟨hB, ?_, ?_⟩
        ·rw [H.put_other _ _ (by omega)]
         cases hc : σ w.heap.size with
         | none => rfl
         | some o => have := hw.lt hc; omega
        ·show ((w.heap.push _).push _)[w.heap.size]? = _
         rw [Array.getElem?_push, if_neg (by simp)]
         simp
       ·obtain ⟨q1, q2, q3⟩ := h3 r hr
        have := hlt' r hr
        exact ⟨q1, by rw [H.put_other _ _ (by omega)]; exact q2, by rw [hget _ _ r this]; exact q3⟩
     | some l0 =>
      obtain ⟨r0, hr0⟩ := hro l0 rfl
      have e1 := Ext.alloc hw (.loop { state := .ready, pending := none, fn, tmps := a.tmps, params := ps, assign := asg, body, defers := r0.defers })
      refine ⟨w.heap.size, r0.defers, [], w.alloc (.loop { state := .ready, pending := none, fn, tmps := a.tmps, params := ps, assign := asg, body, defers := r0.defers }), ?_, e1.1, e1.2, ?_⟩
      ·simp [Instr.enterLoop, run_getLoop (hw _ _ hr0), World.alloc_eq]
      ·exact hd.ext e1.2
    obtain ⟨l, dblk, mark, w₁, hrun, hfresh, hext, hdef⟩ := enter
    let obj : LoopState -> Option Code -> Obj := fun s j => .loop { state := s, pending := j, fn, tmps := a.tmps, params := ps, assign := asg, body, defers := dblk }
    have hobj : LoopObj obj := ⟨{ state := .ready, pending := none, fn, tmps := a.tmps, params := ps, assign := asg, body, defers := dblk }, fun _ _ => rfl⟩
    refine ⟨l, mark, w₁, { target := .fn (.func g) ⟨cs⟩, args := ⟨as0⟩ ++ #[yv l] }, w₁, g, (as0 ++ [yv l] ++ cs).toArray, w₁, hrun, ?_, fun _ _ => trivial, ?_, (fun h => by cases h), ?_⟩
    ·have : a.eval f = .func (.func g) ⟨as0⟩ ⟨cs⟩ := fr.evO hf
     show (Deferred.ofValue (a.eval f) (#[Operand.const (yv l)].map a.eval)).run P w₁ = _
     rw [this]
     simp [Deferred.ofValue, Act.eval]
    ·show (callFunc g _).run P w₁ = _
     rw [callFunc_go hg]; simp
    ·have hY := h l obj hfresh hobj (by
      intro args K σ' hb wy hwy
      obtain ⟨hl, hD⟩ := hb
      unfold runO at hD
      split at hD
      case h_2 => exact hD.elim
      rename_i gD hgD
      have hlen : ps.toList.length = args.length := by rw [hsl]; exact prjC_len _ _ _ _ hgD
      rw [prjC_lamC _ _ _ _ hgD] at hD
      have fr' := puts_fr _ _ fr hlt hlen
      have hgl := run_getLoop (P := P) (hwy l _ hl)
      have hy : (callS (.func (.yield l) #[] #[]) args).run P wy = .ok (.round l fn ((ps.toList.zip args).foldl (fun tmps (x : Nat × Value) => tmps.setIfInBounds x.1 x.2) a.tmps) asg body) wy := by
       have hsz : ¬ (args.length ≠ ps.size) := by
        have : ps.toList.length = args.length := hlen
        simp at this; omega
       simp only [callS, Deferred.ofValue, Sem.run_bind, Sem.run_pure, Result.andThen_ok, invoke, Instr.yield, hgl]
       have hz : (ps.zip (#[] ++ (⟨args⟩ : Array Value))) = ⟨ps.toList.zip args⟩ := by apply Array.ext'; simp
       rw [hz]
       simp [hsz]
      rw [hy]
      show RoundIn Fence.wide 0 P l fn _ asg body wy _
      refine roundIn_of_wpIn trivial ?_
      refine wpIn_mono (iha aa (some l) hD 0 0 { tmps := _, defers := [] } wy ⟨fr'.size, fr'.get⟩ hwy (DefOk.nil _ _ _) (Nat.zero_le _)) fun ex a₁ w₂ hp => ?_
      cases ex with
      | normal =>
       obtain ⟨e1, σ1, fr1, he1, _, hl1, hD1⟩ := hp
       have hgl1 := run_getLoop (P := P) (he1.le l _ hl1)
       refine ⟨{ w₂ with heap := w₂.heap.setIfInBounds l (obj .busy none) }, ?_, ?_⟩
       ·simp only [Instr.beginRound, Sem.run_bind, hgl1, Result.andThen_ok]
        rw [run_setLoop (P := P) (he1.le l _ hl1)]
        rfl
       ·have e2 : Ext σ1 w₂ (σ1.put l (obj .busy none)) { w₂ with heap := w₂.heap.setIfInBounds l (obj .busy none) } := Ext.set he1.le hl1 rfl rfl rfl rfl
        refine wpIn_mono (ihb ab (some l) hD1 0 0 a₁ _ fr1 e2.le (by rename_i hdd; exact hdd.ext e2) (Nat.zero_le _)) fun ex a₃ w₃ hp => ?_
        have fin : ∀ (σ2 : H) (j : Option Code) (b : Bool) (s : LoopState), Ext (σ1.put l (obj .busy none)) { w₂ with heap := w₂.heap.setIfInBounds l (obj .busy none) } σ2 w₃ -> roundK l obj K j b s σ2 -> b = j.isNone -> s = (if j.isNone then .ready else .done) ->
         ∃ v w', (Instr.endRound l j).run P w₃ = .ok v w' /\ ∃ v', Ending.returned v = .returned v' /\ ∃ σ'', Ext σ' wy σ'' w' /\ K v' σ'' := by
         intro σ2 j b s he2 hrk hb hs
         obtain ⟨hl2, hk⟩ := hrk
         have hgl2 := run_getLoop (P := P) (he2.le l _ hl2)
         refine ⟨.bool b, { w₃ with heap := w₃.heap.setIfInBounds l (obj s j) }, ?_, .bool b, rfl, σ2.put l (obj s j), ?_, hk⟩
         ·simp only [Instr.endRound, Sem.run_bind, hgl2, Result.andThen_ok]
          rw [run_setLoop (P := P) (he2.le l _ hl2)]
          subst hb hs; rfl
         ·exact ((he1.trans e2).trans he2).trans (Ext.set he2.le hl2 rfl rfl rfl rfl)
        cases ex with
        | normal => obtain ⟨_, σ2, _, he2, _, hk⟩ := hp; exact fin σ2 none true .ready he2 hk rfl rfl
        | exit i => obtain ⟨_, σ2, _, he2, _, hk⟩ := hp; exact fin σ2 (some (.exit i)) false .done he2 hk rfl rfl
        | ret => obtain ⟨_, σ2, _, he2, _, hk⟩ := hp; exact fin σ2 (some .ret) false .done he2 hk rfl rfl
        | goto l => exact hp.elim
        | panic c => exact hp.elim
        | outgrown => exact hp.elim
      | exit i => obtain ⟨_, _, _, _, _, hk⟩ := hp; exact hk.elim
      | ret => obtain ⟨_, _, _, _, _, hk⟩ := hp; exact hk.elim
      | goto l => exact hp.elim
      | panic c => exact hp.elim
      | outgrown => exact hp.elim)
     refine (callsIn_any (ro := ro) (n := n - 1) (hY w₁ hext.le)).mono fun en w₃ hr => ?_
     obtain ⟨v, rfl, σ', he', s, j, hl', hns, hj⟩ := hr
     have hgl := run_getLoop (P := P) (he'.le l _ hl')
     have e4 : Ext σ' w₃ (σ'.put l (obj .exhausted j)) { w₃ with heap := w₃.heap.setIfInBounds l (obj .exhausted j) } := Ext.set he'.le hl' rfl rfl rfl rfl
     refine ⟨j, { w₃ with heap := w₃.heap.setIfInBounds l (obj .exhausted j) }, ?_, ?_⟩
     ·simp only [Instr.endLoop, Sem.run_bind, hgl, Result.andThen_ok]
      have : (s == LoopState.busy) = false := by simpa using hns
      simp only [this, Bool.false_eq_true, if_false, Sem.run_bind]
      rw [run_setLoop (P := P) (he'.le l _ hl')]
      rfl
     ·have hde := (hdef.ext he').ext e4
      have het := (hext.trans he').trans e4
      split at hj
      ·exact ⟨e, _, ⟨fr.size, fr.get⟩, het, hde, hj⟩
      ·exact wpIn_exit ⟨e, _, ⟨fr.size, fr.get⟩, het, hde, hj⟩
      ·exact wpIn_ret ⟨e, _, ⟨fr.size, fr.get⟩, het, hde, hj⟩
      ·exact hj.elim
   ·exact h.elim
  ·exact h.elim
def bodyF3 (P : Program) (τ : TypeId -> TK) (fn : Func) (an : Ann) (args : List Value) (K : KH) (σ : H) : Prop :=
 match fn.body with
 | some c => match Nat.ble args.length fn.ntmps with
  | true => D3 P τ fn.ntmps c an none (argE 0 args) (resF P τ fn.results.toList K) (fun _ _ _ => False) (resF P τ fn.results.toList K) σ
  | false => False
 | none => False
theorem call_of_body3 (hm : P.follows .mixedOrders = true) {f : FuncId} {fn : Func} (hf : P.funcs[f]? = some fn) {an : Ann} {args : List Value} {K : KH} {σ : H} (h : bodyF3 P τ fn an args K σ) : callW P f args K σ := by
 unfold bodyF3 at h
 split at h
 ·rename_i c hc
  split at h
  ·rename_i hle
   have hle := Nat.le_of_ble_eq_true hle
   intro w hw
   refine callsIn_of_wp_marks hf hc trivial ?_
   have fr : FR fn.ntmps (argE 0 args) { tmps := args.toArray ++ Array.replicate (fn.ntmps - args.toArray.size) undef, defers := [] } := by
    refine ⟨by simp; omega, fun i v hi => ?_⟩
    obtain ⟨_, h2⟩ := argE_get args 0 i v hi
    simp only [Nat.sub_zero] at h2
    have hlt : i < args.length := by
     rcases Nat.lt_or_ge i args.length with h | h
     ·exact h
     ·rw [List.getElem?_eq_none h] at h2; cases h2
    rw [Array.getElem?_append, if_pos (by simpa using hlt)]
    simpa using h2
   refine wpIn_mono (D3_sound hm c an none h 0 w.heap.size _ w fr hw (DefOk.nil _ _ _) (Nat.le_refl _)) fun ex a w' hp => ?_
   have fin : ∀ e σ', FR fn.ntmps e a -> Ext σ w σ' w' -> DefOk w.heap.size σ' w' a.defers -> resF P τ fn.results.toList K e σ' ->
    LeavesInM Fence.wide 0 P fn a.tmps (fun e w' => ∃ v, e = .returned v /\ ∃ σ', Ext σ w σ' w' /\ K v σ') a.defers .returning w' := by
    intro e σ' fr' he hd hres
    obtain ⟨ms, h1, h2, h3⟩ := hd
    rw [h2]
    refine leaves_marks ms w' h1 h3 he.le fun w'' q1 q2 q3 q4 q5 q6 => ?_
    obtain ⟨v, hv, hk⟩ := resF_sound fr' q1 hres
    refine ⟨v, hv, v, rfl, σ', ⟨q1, by rw [q2]; exact he.size, fun b hb hn => by rw [q3 b hb]; exact he.keep b hb hn, he.own, q4.trans he.os, q5.trans he.tape, q6.trans he.output⟩, hk⟩
   cases ex with
   | normal => obtain ⟨e, σ', fr', he, hd, hres⟩ := hp; exact fin e σ' fr' he hd hres
   | ret => obtain ⟨e, σ', fr', he, hd, hres⟩ := hp; exact fin e σ' fr' he hd hres
   | exit i => obtain ⟨_, _, _, _, _, hres⟩ := hp; exact hres.elim
   | goto l => exact hp.elim
   | panic c => exact hp.elim
   | outgrown => exact hp.elim
  ·exact h.elim
 ·exact h.elim
end
end Go.HL

set_option maxRecDepth 100000
namespace Go.Proofs.YtpfkfphjigcdeaaGreatDoor
open Go Go.HL
def an13 : Ann := (.q (.n (.q (.h)) (.n (.reg2 [0,1,3,4,5,6] 2 [7,8,9,10] 8 [2,9,10] [[],[0],[0,1],[],[3],[3,4],[3,4,5],[3,4,5,6],[3,4,5,6,7],(rn 9),(rn 10)]) .z)))
def g13 (n_1 : Int) (K : KH) : H -> Prop :=
 brW (decide ((n_1 : Int) < 10))
 (alW (.cells ⟨[.int .u8 (IntKind.u8.wrap (IntKind.i64.wrap (48 + n_1)))]⟩ 5 (0, 0)) (fun (b2 : Nat) =>
  vaW Tryz.prog (convert 22 9 (.slice (some ⟨b2, 0, none⟩) 1 1)) kS (fun (x3 : ByteArray) =>
   K (.string x3))))
 (ifW ((10 : Int) ≠ 0)
  (ifW ((10 : Int) ≠ 0)
   (bothW
    (callT Tryz.prog 13 [.int .i64 (IntKind.i64.wrap (Int.tdiv n_1 10))] kS (fun (x4 : ByteArray) =>
     alW (.cells ⟨[.int .u8 (IntKind.u8.wrap (IntKind.i64.wrap (48 + (Int.tmod n_1 10))))]⟩ 5 (0, 0)) (fun (b5 : Nat) =>
      vaW Tryz.prog (convert 22 9 (.slice (some ⟨b5, 0, none⟩) 1 1)) kS (fun (x6 : ByteArray) =>
       ifW (x4.size + x6.size <= 9223372036854775807)
       (K (.string (x4 ++ x6)))))))
    (alW (.cells ⟨[.int .u8 (IntKind.u8.wrap (IntKind.i64.wrap (48 + (Int.tmod n_1 10))))]⟩ 5 (0, 0)) (fun (b7 : Nat) =>
     vaW Tryz.prog (convert 22 9 (.slice (some ⟨b7, 0, none⟩) 1 1)) kS (fun (x8 : ByteArray) =>
      callT Tryz.prog 13 [.int .i64 (IntKind.i64.wrap (Int.tdiv n_1 10))] kS (fun (x9 : ByteArray) =>
       ifW (x9.size + x8.size <= 9223372036854775807)
       (K (.string (x9 ++ x8))))))))))
theorem e13 (n_1 : Int) (K : KH) : bodyF3 Tryz.prog tau Tryz.f13 an13 [.int .i64 n_1] K = g13 n_1 K := by kernel_rfl
theorem c13 (n_1 : Int) {K : KH} {σ : H} (h : g13 n_1 K σ) : callW Tryz.prog 13 [.int .i64 n_1] K σ := call_of_body3 mixed Tryz.func13 (by rw [e13]; exact h)

end Go.Proofs.YtpfkfphjigcdeaaGreatDoor

set_option maxRecDepth 100000
namespace Go.Proofs.YtpfkfphjigcdeaaGreatDoor
open Go Go.HL Go.Wk
attribute [local irreducible] ptrW ifW brW andW rdT alW letJ stW muW biW vaW imW callT cvalT app callW invW callVW sizeT oW nilF oneK loopW rfW funW begW roundK exW idxW Gr Put
theorem sz_arr12 : sizeT Tryz.prog 43 = some 12 := by kernel_rfl
section
variable {A : AT} {σ : H} {bf : Nat} {K : KH}
theorem s_out {inn call nm : ByteArray} {args : List ByteArray} {Q : Dn -> Prop} (hp : partsOf 124 call = nm :: args) (hcs : call.size <= 1000000000) (h : RunEx A nm inn ⟨⟨[47]⟩⟩ args Q) (hQ : ∀ d, Q d -> d.st = 0 /\ d.err = ⟨⟨[]⟩⟩) (hF : FT A bf σ) (hK : ∀ σ' d, Q d -> Gr σ σ' -> K (.string d.out) σ') :
 callW Tryz.prog 9 [.pointer (some ⟨bf, 0, none⟩), .string inn, .string call] K σ := by
 refine c9 _ _ _ ?_
 unfold g9
 refine call_i (s_SplitC call 124 hcs fun y σ1 hy => app_L ?_)
 rw [hp] at hy
 obtain ⟨g, o, q1, q2, q3⟩ := sRow (i := 0) (s := nm) hy.at (by rfl)
 rw [q1]
 refine ptr_i (if_i ⟨Int.le_refl _, by show (0 : Int) < ((y.len : Nat) : Int); omega⟩ (rd_S q3 (if_i ⟨bnd_none, bnd_some (by decide) (by show (1 : Int) <= ((y.len : Nat) : Int); omega)⟩ ?_)))
 have ht := sTail hy.at (rnew_cap hy)
 rw [q1] at ht
 refine call_i (h σ1 _ bf _ (hF.gr hy.1) ht (by have := rnew_cap hy; simp only; omega) fun σ2 d hd g2 => app_of rfl ?_)
 refine al_i ?_; intro b σ3 g3 e3 n3
 refine st_i2 e3 sz_done (by rfl) (by rfl) ?_; intro σ4 p4
 obtain ⟨d1, d2⟩ := hQ d hd
 refine j_i (fun j => j (some ⟨b, 0, none⟩) false σ4) ?_ ?_
 ·refine br_f rfl (ptr_i (rd_S (rdC_of p4.same (by rfl)) ?_))
  exact hK σ4 d hd ((hy.1.trans g2).trans (g3.putF p4 n3))
 ·intro j hj
  refine br_f rfl (rd_I (rdC_of p4.same (by rfl)) ?_)
  rw [d1]
  refine br_f rfl (rd_S (rdC_of p4.same (by rfl)) ?_)
  rw [d2]
  rw [strEq_iff.2 rfl]
  exact hj
theorem s_fails {call nm err : ByteArray} {st : Int} {args : List ByteArray} {d : Dn} (hp : partsOf 124 call = nm :: args) (hcs : call.size <= 1000000000) (h : RunEx A nm ⟨⟨[]⟩⟩ ⟨⟨[47]⟩⟩ args (· = d)) (h1 : d.st = st) (h2 : d.err = err) (h3 : d.out = ⟨⟨[]⟩⟩) (hF : FT A bf σ) (hK : ∀ σ', Gr σ σ' -> K (.bool true) σ') :
 callW Tryz.prog 14 [.pointer (some ⟨bf, 0, none⟩), .string call, .string err, .int .i64 st] K σ := by
 refine c14 _ _ _ _ ?_
 unfold g14
 refine call_i (s_SplitC call 124 hcs fun y σ1 hy => app_L ?_)
 rw [hp] at hy
 obtain ⟨g, o, q1, q2, q3⟩ := sRow (i := 0) (s := nm) hy.at (by rfl)
 rw [q1]
 refine ptr_i (if_i ⟨Int.le_refl _, by show (0 : Int) < ((y.len : Nat) : Int); omega⟩ (rd_S q3 (if_i ⟨bnd_none, bnd_some (by decide) (by show (1 : Int) <= ((y.len : Nat) : Int); omega)⟩ ?_)))
 have ht := sTail hy.at (rnew_cap hy)
 rw [q1] at ht
 refine call_i (h σ1 _ bf _ (hF.gr hy.1) ht (by have := rnew_cap hy; simp only; omega) fun σ2 d' hd g2 => app_of rfl ?_)
 subst hd
 refine al_i ?_; intro b σ3 g3 e3 n3
 refine st_i2 e3 sz_done (by rfl) (by rfl) ?_; intro σ4 p4
 refine br_t rfl (rd_I (rdC_of p4.same (by rfl)) (br_t (by rw [h1]; simp) (rd_S (rdC_of p4.same (by rfl)) (br_t (by rw [h2]; exact strEq_iff.2 rfl) (rd_S (rdC_of p4.same (by rfl)) ?_)))))
 rw [h3, strEq_iff.2 rfl]
 exact hK σ4 ((hy.1.trans g2).trans (g3.putF p4 n3))
theorem s_empty (hI : ItoaT σ) (hK : ∀ bf σ', Gr σ σ' -> FT (newT 9 900) bf σ' -> K (.pointer (some ⟨bf, 0, none⟩)) σ') : callW Tryz.prog 7 [] K σ := by
 refine c7 ?_
 unfold g7
 refine call_i (s_New 9 900 (fun h => by cases h) fun _ bf σ' B' hF hg _ => app_P (hK bf σ' hg ⟨hI.gr hg, B', hF⟩))
theorem s_digits : ∀ (n : Nat) (σ : H) (K : KH), n < 1000000 -> (∀ σ', Gr σ σ' -> K (.string (fmtP 10 n)) σ') -> callW Tryz.prog 13 [.int .i64 n] K σ := by
 intro n
 induction n using Nat.strongRecOn with
 | ind n ih =>
 intro σ K hn hK
 refine c13 _ ?_
 unfold g13
 have one : ∀ (k : Nat) (τ : H) (F : ByteArray -> H -> Prop), k < 10 -> (∀ τ', Gr τ τ' -> F ⟨⟨[digitL k]⟩⟩ τ') -> alW (.cells ⟨[.int .u8 (IntKind.u8.wrap (IntKind.i64.wrap (48 + (k : Int))))]⟩ 5 (0, 0)) (fun (b2 : Nat) => vaW Tryz.prog (convert 22 9 (.slice (some ⟨b2, 0, none⟩) 1 1)) kS F) τ := by
  intro k τ F hk hF
  refine al_i ?_; intro b τ1 g1 e1 n1
  have hw : IntKind.u8.wrap (IntKind.i64.wrap (48 + (k : Int))) = (((digitL k).toNat : Nat) : Int) := by
   rw [wI (k := 48 + k) (by omega) (by omega), IntKind.wrap_u8]
   unfold digitL
   rw [if_pos hk]
   have : (48 + UInt8.ofNat k).toNat = 48 + k := by
    rw [UInt8.toNat_add, UInt8.toNat_ofNat']
    show (48 + k % 256) % 256 = _
    omega
   rw [this]; omega
  rw [hw] at e1
  refine bstr_i und_bytesT und_u8T und_strT (l := [digitL k]) (x := ⟨some ⟨b, 0, none⟩, 1, 1⟩) ⟨rfl, .inr ⟨b, 0, _, _, _, rfl, e1, fun i r hr => ?_⟩⟩ (hF τ1 g1)
  match i, hr with
  | 0, hr => cases hr; exact ⟨rfl, rfl⟩
  | i + 1, hr => simp [brows] at hr
 have fmt1 : ∀ k : Nat, k < 10 -> fmtP 10 (k : Int) = ⟨⟨[digitL k]⟩⟩ := by
  intro k hk
  unfold fmtP
  rw [if_neg (by omega), Int.natAbs_natCast]
  show (⟨⟨if k < 10 then _ else _⟩⟩ : ByteArray) = _
  rw [if_pos hk]
 by_cases h : n < 10
 ·refine br_t (by rw [decide_eq_true_eq]; omega) (one n σ _ h fun τ g => ?_)
  rw [<- fmt1 n h]
  exact hK τ g
 ·have hq : IntKind.i64.wrap (Int.tdiv (n : Int) 10) = ((n / 10 : Nat) : Int) := wI (by rw [Int.tdiv_eq_ediv_of_nonneg (by omega)]; omega) (by omega)
  have hr : Int.tmod (n : Int) 10 = ((n % 10 : Nat) : Int) := by rw [Int.tmod_eq_emod_of_nonneg (by omega)]; omega
  have hacc : ∀ (f n : Nat) (acc : List UInt8), fmtL 10 f n acc = fmtL 10 f n [] ++ acc := by
   intro f
   induction f with
   | zero => intro n acc; rfl
   | succ f ih =>
    intro n acc
    show (if n < 10 then digitL n :: acc else fmtL 10 f (n / 10) (digitL (n % 10) :: acc)) = (if n < 10 then digitL n :: [] else fmtL 10 f (n / 10) (digitL (n % 10) :: [])) ++ acc
    split
    ·rfl
    ·rw [ih (n / 10) (digitL (n % 10) :: acc), ih (n / 10) (digitL (n % 10) :: []), List.append_assoc]; rfl
  have hstab : ∀ (f n : Nat), n < 10 ^ f -> fmtL 10 (f + 1) n [] = fmtL 10 f n [] \/ f = 0 := by
   intro f
   induction f with
   | zero => intro n _; exact .inr rfl
   | succ f ih =>
    intro n hn
    left
    show (if n < 10 then digitL n :: [] else fmtL 10 (f + 1) (n / 10) (digitL (n % 10) :: [])) = (if n < 10 then digitL n :: [] else fmtL 10 f (n / 10) (digitL (n % 10) :: []))
    split
    ·rfl
    ·rename_i h10
     rw [hacc (f + 1), hacc f]
     rcases ih (n / 10) (by rw [Nat.pow_succ] at hn; omega) with h | h
     ·rw [h]
     ·subst h; simp at hn; omega
  have hfmt : fmtP 10 (n : Int) = fmtP 10 ((n / 10 : Nat) : Int) ++ ⟨⟨[digitL (n % 10)]⟩⟩ := by
   unfold fmtP
   rw [if_neg (by omega), if_neg (by omega), Int.natAbs_natCast, Int.natAbs_natCast]
   refine bytes_ext ?_
   show (if n < 10 then digitL n :: [] else fmtL 10 63 (n / 10) (digitL (n % 10) :: [])) = fmtL 10 64 (n / 10) [] ++ [digitL (n % 10)]
   rw [if_neg h, hacc]
   rcases hstab 63 (n / 10) (Nat.lt_of_lt_of_le (by omega : n / 10 < 10 ^ 6) (Nat.pow_le_pow_right (by decide) (by decide))) with h' | h'
   ·rw [h']
   ·cases h'
  have hsz := fmtP_size 10 ((n / 10 : Nat) : Int)
  refine br_f (by rw [decide_eq_false_iff_not]; omega) (if_i (by decide) (if_i (by decide) ?_))
  rw [hq, hr]
  refine both_i ?_ ?_
  ·refine call_i (ih (n / 10) (by omega) σ _ (by omega) fun σ1 g1 => app_S (one (n % 10) σ1 _ (by omega) fun σ2 g2 => if_i ?_ ?_))
   ·show (fmtP 10 _).size + 1 <= _; omega
   ·rw [<- hfmt]; exact hK σ2 (g1.trans g2)
  ·refine one (n % 10) σ _ (by omega) fun σ1 g1 => call_i (ih (n / 10) (by omega) σ1 _ (by omega) fun σ2 g2 => app_S (if_i ?_ ?_))
   ·show (fmtP 10 _).size + 1 <= _; omega
   ·rw [<- hfmt]; exact hK σ2 (g1.trans g2)
end
def words18 : List ByteArray := [⟨⟨[]⟩⟩, ⟨⟨[97]⟩⟩, ⟨⟨[98]⟩⟩, ⟨⟨[97, 98]⟩⟩, ⟨⟨[49, 48]⟩⟩, ⟨⟨[57]⟩⟩, ⟨⟨[45, 51]⟩⟩, ⟨⟨[32, 55]⟩⟩, ⟨⟨[49, 101, 51]⟩⟩, ⟨⟨[110, 97, 110]⟩⟩, ⟨⟨[48, 120]⟩⟩, ⟨⟨[45, 48]⟩⟩]
def wordOf (c : UInt8) : ByteArray := words18.getD (c.toNat % 12) ⟨⟨[]⟩⟩
def all18 (l : List UInt8) : List ByteArray := (l.take 80).map wordOf
theorem word_size (c : UInt8) : (wordOf c).size <= 3 := by
 unfold wordOf
 have : c.toNat % 12 < 12 := Nat.mod_lt _ (by decide)
 generalize c.toNat % 12 = i at this
 revert i; decide
theorem s_joined18 {l : List UInt8} {x : Sl} {σ : H} (hx : RowsAt σ 1 (brows l) x) {K : KH} (hK : ∀ y σ', RNew σ σ' 9 1 (strRows (all18 l)) y -> K (.tuple ⟨[.string ⟨⟨joinedP (all18 l)⟩⟩, .slice y.base y.len y.cap]⟩) σ') : callW Tryz.prog 8 [.slice x.base x.len x.cap] K σ := by
 refine c8 x ?_
 unfold g8
 have hxl : x.len = l.length := by rw [hx.1, brows_len]
 refine al_i ?_; intro b2 σ1 g1 e1 n1
 refine st_i2 e1 sz_arr12 (by rfl) (by rfl) ?_; intro σ2 p2
 have e2 : σ2 b2 = some (.cells ⟨words18.map Value.string⟩ 43 (0, 0)) := p2.same
 have g2 := g1.putF p2 n1
 refine loop_i fun R hR => ?_
 have jl : ∀ l : List UInt8, (joinedP (l.map wordOf)).length <= 4 * l.length := by
  intro l
  induction l with
  | nil => exact Nat.le_refl _
  | cons c r ih =>
   rw [List.map_cons, joined_cons_len, List.length_cons]
   have := word_size c
   have h2 : (bl (wordOf c)).length = (wordOf c).size := rfl
   omega
 have key : ∀ m k o τ, 80 - k = m -> k <= 80 -> k <= l.length -> RNew σ2 τ 9 1 (strRows ((l.take k).map wordOf)) o -> R x (some ⟨b2, 0, none⟩) ⟨⟨joinedP ((l.take k).map wordOf)⟩⟩ o (k : Int) τ := by
  intro m
  induction m with
  | zero =>
   intro k o τ hm hk hkl ho
   have hk80 : k = 80 := by omega
   subst hk80
   have hfin : app (.tup []) (K (.tuple ⟨[.string ⟨⟨joinedP ((l.take 80).map wordOf)⟩⟩, .slice o.base o.len o.cap]⟩)) (.tuple ⟨[]⟩) τ := app_U (hK o τ (ho.since g2))
   refine hR _ _ _ _ _ _ (j_i (fun j => ∀ b, b = false -> j x (some ⟨b2, 0, none⟩) ⟨⟨joinedP ((l.take 80).map wordOf)⟩⟩ o ((80 : Nat) : Int) b τ) (fun b hb => by subst hb; exact br_f rfl (hK o τ (ho.since g2))) fun j hj => ?_)
   by_cases h : 80 < l.length
   ·exact br_t (by rw [decide_eq_true_eq]; omega) (hj _ (by decide))
   ·exact br_f (by rw [decide_eq_false_iff_not]; omega) (hj _ rfl)
  | succ m ih =>
   intro k o τ hm hk hkl ho
   by_cases h : k < l.length
   ·obtain ⟨c, hc⟩ : ∃ c, l[k]? = some c := ⟨_, List.getElem?_eq_getElem h⟩
    obtain ⟨g, oo, q1, q2, q3⟩ := bRow ((hx.gr g2).gr ho.1) hc
    have hj80 := jl (l.take k)
    rw [List.length_take] at hj80
    have hws := word_size c
    refine hR _ _ _ _ _ _ (j_i (fun j => ∀ b, b = true -> j x (some ⟨b2, 0, none⟩) ⟨⟨joinedP ((l.take k).map wordOf)⟩⟩ o (k : Int) b τ) (fun b hb => ?_) fun j hj => br_t (by rw [decide_eq_true_eq]; omega) (hj _ (by rw [decide_eq_true_eq]; omega)))
    subst hb
    refine br_t rfl ?_
    rw [q1]
    refine ptr_i (if_i ⟨by omega, by omega⟩ (rd_I (by rw [Int.toNat_natCast]; exact q3) (if_i (by decide) ?_)))
    have hmod : Int.tmod ((c.toNat : Nat) : Int) 12 = ((c.toNat % 12 : Nat) : Int) := by rw [Int.tmod_eq_emod_of_nonneg (by omega)]; omega
    have hlt : c.toNat % 12 < 12 := Nat.mod_lt _ (by decide)
    rw [hmod]
    have hw : (words18.map Value.string)[c.toNat % 12]? = some (.string (wordOf c)) := by
     unfold wordOf
     rw [List.getElem?_map, List.getD_eq_getElem?_getD, List.getElem?_eq_getElem (by exact hlt)]; rfl
    refine ptr_i (if_i ⟨by omega, by omega⟩ (rd_S (rdC_of (ho.1.get e2) (by rw [show 0 + ((c.toNat % 12 : Nat) : Int).toNat * 1 = c.toNat % 12 by omega]; exact hw)) ?_))
    refine if_i ?_ (if_i ?_ ?_)
    ·show (joinedP ((l.take k).map wordOf)).length + (wordOf c).size <= _; omega
    ·rw [ByteArray.size_append]; show (joinedP ((l.take k).map wordOf)).length + (wordOf c).size + 1 <= _; omega
    refine ho.app1 el_strsT rfl rfl (by rw [strRows_len, List.length_map, List.length_take]; omega) fun o' τ' h' _ _ => ?_
    rw [wS (a := k) (by omega)]
    have htk : (l.take (k + 1)).map wordOf = (l.take k).map wordOf ++ [wordOf c] := by rw [List.take_add_one, hc, List.map_append]; rfl
    have hjn : ((⟨⟨joinedP ((l.take k).map wordOf)⟩⟩ : ByteArray) ++ wordOf c) ++ ⟨⟨[10]⟩⟩ = ⟨⟨joinedP ((l.take (k + 1)).map wordOf)⟩⟩ := by
     refine bytes_ext ?_
     rw [htk]
     unfold joinedP bl
     simp
    rw [hjn]
    refine ih (k + 1) o' τ' (by omega) (by omega) (by omega) ?_
    rw [htk]
    unfold strRows at h' ⊢
    rw [List.map_append (f := fun s => [Value.string s])]; exact h'
   ·have hk' : (l.take k).map wordOf = all18 l := by
     unfold all18
     rw [List.take_of_length_le (by omega), List.take_of_length_le (by omega)]
    rw [hk'] at ho ⊢
    refine hR _ _ _ _ _ _ (j_i (fun j => j x (some ⟨b2, 0, none⟩) ⟨⟨joinedP (all18 l)⟩⟩ o (k : Int) false τ) (br_f rfl (hK o τ (ho.since g2))) fun j hj => br_f (by rw [decide_eq_false_iff_not]; omega) hj)
 exact key 80 0 ⟨none, 0, 0⟩ σ2 rfl (by decide) (Nat.zero_le _) (RNew.nil _ _ _)
theorem go_txCat : isGo Tryz.prog 20 = true := by kernel_rfl
theorem go_txHead : isGo Tryz.prog 21 = true := by kernel_rfl
theorem go_txTail : isGo Tryz.prog 22 = true := by kernel_rfl
theorem go_txWc : isGo Tryz.prog 23 = true := by kernel_rfl
theorem go_txTr : isGo Tryz.prog 24 = true := by kernel_rfl
theorem go_txCut : isGo Tryz.prog 25 = true := by kernel_rfl
theorem go_txSort : isGo Tryz.prog 26 = true := by kernel_rfl
theorem go_txUniq : isGo Tryz.prog 27 = true := by kernel_rfl
def OutIs (A : AT) (inn call : ByteArray) (Q : ByteArray -> Prop) : Prop := ∀ (σ : H) (bf : Nat) (K : KH), FT A bf σ -> (∀ σ' o, Q o -> Gr σ σ' -> K (.string o) σ') -> callW Tryz.prog 9 [.pointer (some ⟨bf, 0, none⟩), .string inn, .string call] K σ
section
variable {A : AT} {inn call nm : ByteArray} {args : List ByteArray}
theorem out_ok {k : FuncId} {o : List UInt8} (hp : partsOf 124 call = nm :: args) (hcs : call.size <= 1000000000) (hk : ∀ v, lk nm (txTbl v) = some (fnv k v)) (hgo : isGo Tryz.prog k = true) (h : TlOk A k nm inn ⟨⟨[47]⟩⟩ args (doneP o)) : OutIs A inn call (· = ⟨⟨o⟩⟩) := by
 intro σ bf K hF hK
 refine s_out hp hcs (run_ex hk hgo h.ex) (fun d hd => by subst hd; exact ⟨rfl, rfl⟩) hF fun σ' d hd hg => ?_
 subst hd
 exact hK σ' _ rfl hg
theorem out_head {n : Nat} {m : List (Int × ByteArray)} (hp : partsOf 124 call = ⟨⟨[104, 101, 97, 100]⟩⟩ :: args) (hcs : call.size <= 1000000000) (hz : ∀ a ∈ args, a.size <= 1000000000) (hv : valuesP [110] args = some (m, [])) (hnum : (lk (110 : Int) m = none /\ n = 10) \/ ∃ s, lk (110 : Int) m = some s /\ numberP (bl s) = some n) (hi : inn.size <= 1000000000)
 (hj : (joinedP ((linesP (bl inn)).take (min n (linesP (bl inn)).length))).length <= 1000000000) : OutIs A inn call (· = ⟨⟨joinedP ((linesP (bl inn)).take (min n (linesP (bl inn)).length))⟩⟩) :=
 out_ok hp hcs lk_head go_txHead (tl_head hz hv hnum hi hj)
theorem out_tail {n : Nat} {m : List (Int × ByteArray)} (hp : partsOf 124 call = ⟨⟨[116, 97, 105, 108]⟩⟩ :: args) (hcs : call.size <= 1000000000) (hz : ∀ a ∈ args, a.size <= 1000000000) (hv : valuesP [110] args = some (m, [])) (hnum : (lk (110 : Int) m = none /\ n = 10) \/ ∃ s, lk (110 : Int) m = some s /\ numberP (bl s) = some n) (hi : inn.size <= 1000000000)
 (hj : (joinedP ((linesP (bl inn)).drop ((linesP (bl inn)).length - min n (linesP (bl inn)).length))).length <= 1000000000) : OutIs A inn call (· = ⟨⟨joinedP ((linesP (bl inn)).drop ((linesP (bl inn)).length - min n (linesP (bl inn)).length))⟩⟩) :=
 out_ok hp hcs lk_tail go_txTail (tl_tail hz hv hnum hi hj)
theorem out_uniq {got : List UInt8} (hp : partsOf 124 call = ⟨⟨[117, 110, 105, 113]⟩⟩ :: args) (hcs : call.size <= 1000000000) (hz : ∀ a ∈ args, a.size <= 1000000000) (hlen : (opsF [99, 100] [] args).1.length <= 1000000000) (hv : flagsP [99, 100] args = some (got, [])) (hi : inn.size <= 100000)
 (hj : (joinedP (uniqP (got.contains 99) (got.contains 100) ((linesP (bl inn)).length + 1) (linesP (bl inn)))).length <= 1000000000) (hlz : ∀ a ∈ linesP (bl inn), a.size <= 1000000000) : OutIs A inn call (· = ⟨⟨joinedP (uniqP (got.contains 99) (got.contains 100) ((linesP (bl inn)).length + 1) (linesP (bl inn)))⟩⟩) :=
 out_ok hp hcs lk_uniq go_txUniq (tl_uniq hz hlen hv hi hj hlz)
theorem out_wc {got : List UInt8} (hp : partsOf 124 call = ⟨⟨[119, 99]⟩⟩ :: args) (hcs : call.size <= 1000000000) (hz : ∀ a ∈ args, a.size <= 1000000000) (hlen : (opsF [108, 119, 99] [] args).1.length <= 1000000000) (hv : flagsP [108, 119, 99] args = some (got, [])) (hi : inn.size <= 100000) (ha : ∀ c ∈ bl inn, c.toNat < 128) :
 OutIs A inn call (· = ⟨⟨joinB [32] ((wcL got (bl inn)).map fun s => s.data.toList) ++ [10]⟩⟩) :=
 out_ok hp hcs lk_wc go_txWc (tl_wc hz hlen hv hi ha)
theorem out_tr {got : List UInt8} {s1 s2 : List UInt8} {rest : List ByteArray} {fr tq : List UInt8} (hp : partsOf 124 call = ⟨⟨[116, 114]⟩⟩ :: args) (hcs : call.size <= 1000000000) (hz : ∀ a ∈ args, a.size <= 1000000000) (hlen : (opsF [100] [] args).1.length <= 1000000000) (hv : flagsP [100] args = some (got, rest)) (hi : inn.size <= 100000)
 (hrest : (got ≠ [] /\ rest = [⟨⟨s1⟩⟩] /\ s2 = s1) \/ (got = [] /\ rest = [⟨⟨s1⟩⟩, ⟨⟨s2⟩⟩])) (h1 : setP s1 = some fr) (h2 : setP s2 = some tq) (hb1 : ∀ c ∈ s1, c ≠ 92) (hb2 : ∀ c ∈ s2, c ≠ 92) (hl1 : s1.length <= 1000000) (hl2 : s2.length <= 1000000) (hf1 : fr.length <= 1000000) (hf2 : tq.length <= 1000000) (hn1 : fr ≠ []) (hn2 : tq ≠ []) :
 OutIs A inn call (· = ⟨⟨trP fr tq (!got.isEmpty) (bl inn)⟩⟩) :=
 out_ok hp hcs lk_tr go_txTr (tl_tr hz hlen hv hi hrest h1 h2 hb1 hb2 hl1 hl2 hf1 hf2 hn1 hn2)
theorem out_cut {m : List (Int × ByteArray)} {isF : Bool} {c : UInt8} {w : List UInt8} {x y : Int} (hp : partsOf 124 call = ⟨⟨[99, 117, 116]⟩⟩ :: args) (hcs : call.size <= 1000000000) (hz : ∀ a ∈ args, a.size <= 1000000000) (hv : valuesP [100, 102, 99] args = some (m, [])) (hi : inn.size <= 100000)
 (hm : (isF = true /\ lk (100 : Int) m = some ⟨⟨[c]⟩⟩ /\ lk (102 : Int) m = some ⟨⟨w⟩⟩ /\ lk (99 : Int) m = none) \/ (isF = false /\ lk (100 : Int) m = none /\ lk (102 : Int) m = none /\ lk (99 : Int) m = some ⟨⟨w⟩⟩))
 (hc : w.contains 44 = false) (hl : w.length <= 1000000) (hd : strEq ⟨⟨w⟩⟩ ⟨⟨[45]⟩⟩ = false) (hx : NumOr (bl (cutB1 45 ⟨⟨w⟩⟩).1) 1 x) (hy : NumOr (if (cutB1 45 ⟨⟨w⟩⟩).2.2 then bl (cutB1 45 ⟨⟨w⟩⟩).2.1 else bl (cutB1 45 ⟨⟨w⟩⟩).1) 9223372036854775807 y) (hw : w ≠ []) (h1 : 1 <= x) (hxy : x <= y)
 (hlz : ∀ a ∈ linesP (bl inn), a.size <= 1000000) (hj : (joinedP (cutP isF c x y (linesP (bl inn)))).length <= 1000000000) :
 OutIs A inn call (· = ⟨⟨joinedP (cutP isF c x y (linesP (bl inn)))⟩⟩) :=
 out_ok hp hcs lk_cut go_txCut (tl_cut hz hv hi hm hc hl hd hx hy hw h1 hxy hlz hj)
theorem out_sort {got : List UInt8} (hp : partsOf 124 call = ⟨⟨[115, 111, 114, 116]⟩⟩ :: args) (hcs : call.size <= 1000000000) (hz : ∀ a ∈ args, a.size <= 1000000000) (hlen : (opsF [110, 114, 117, 103] [] args).1.length <= 1000000000) (hv : flagsP [110, 114, 117, 103] args = some (got, [])) (hgl : got.length <= 1000000000) (hi : inn.size <= 100000)
 {fv : Value} (hone : fv.oneCell' = true) (hcs' : arrL fv.cells = [fv]) {D : ByteArray -> Prop} {c : ByteArray -> ByteArray -> Int} (h3 : Ord3 c) (hb : ByOk fv D c) (hD : ∀ a ∈ linesP (bl inn), D a)
 (hfv : (lastN 110 got > lastN 103 got /\ fv = .func (.func 55) ⟨[]⟩ ⟨[]⟩) \/ (lastN 103 got > lastN 110 got /\ fv = .func (.func 58) ⟨[]⟩ ⟨[]⟩) \/ (lastN 110 got = lastN 103 got /\ fv = .func (.func 53) ⟨[]⟩ ⟨[]⟩))
 (hj : (joinedP (linesP (bl inn))).length <= 1000000000) : OutIs A inn call (fun o => ∃ out, SortR c (got.contains 117) (got.contains 114) (linesP (bl inn)) out /\ o = ⟨⟨joinedP out⟩⟩) := by
 intro σ bf K hF hK
 refine s_out hp hcs (run_ex lk_sort go_txSort (tl_sort hz hlen hv hgl hi hone hcs' h3 hb hD hfv hj)) (fun d hd => by obtain ⟨out, _, rfl⟩ := hd; exact ⟨rfl, rfl⟩) hF fun σ' d hd hg => ?_
 obtain ⟨out, h, rfl⟩ := hd
 exact hK σ' _ ⟨out, h, rfl⟩ hg
theorem out_sortS {got : List UInt8} (hp : partsOf 124 call = ⟨⟨[115, 111, 114, 116]⟩⟩ :: args) (hcs : call.size <= 1000000000) (hz : ∀ a ∈ args, a.size <= 1000000000) (hlen : (opsF [110, 114, 117, 103] [] args).1.length <= 1000000000) (hv : flagsP [110, 114, 117, 103] args = some (got, [])) (hgl : got.length <= 1000000000) (hi : inn.size <= 100000) (hfv : lastN 110 got = lastN 103 got) (hj : (joinedP (linesP (bl inn))).length <= 1000000000) :
 OutIs A inn call (fun o => ∃ out, SortR cmpS (got.contains 117) (got.contains 114) (linesP (bl inn)) out /\ o = ⟨⟨joinedP out⟩⟩) :=
 out_sort hp hcs hz hlen hv hgl hi (fv := .func (.func 53) ⟨[]⟩ ⟨[]⟩) rfl rfl ord_S by_str (fun _ _ => trivial) (.inr (.inr ⟨hfv, rfl⟩)) hj
end
theorem OutIs.imp {A : AT} {inn call : ByteArray} {Q Q' : ByteArray -> Prop} (h : OutIs A inn call Q) (hq : ∀ o, Q o -> Q' o) : OutIs A inn call Q' := fun σ bf K hF hK => h σ bf K hF fun σ' o ho hg => hK σ' o (hq o ho) hg
theorem sort_uniq {c : ByteArray -> ByteArray -> Int} {once turned : Bool} (h3 : Ord3 (sortC c once turned)) (hz : ∀ a b, sortC c once turned a b = 0 -> a = b) {L l1 l2 : List ByteArray} (p1 : l1.Perm L) (p2 : l2.Perm L) (s1 : l1.Pairwise fun a b => 0 <= sortC c once turned b a) (s2 : l2.Pairwise fun a b => 0 <= sortC c once turned b a) : l1 = l2 := by
 refine List.Perm.eq_of_pairwise (fun a b _ _ h1 h2 => ?_) s1 s2 (p1.trans p2.symm)
 have := h3.anti a b
 exact (hz a b (by omega))
theorem sortS_zero {once turned : Bool} {a b : ByteArray} (h : sortC cmpS once turned a b = 0) : a = b := by
 cases once with
 | false => exact sortC_zero h
 | true =>
  unfold sortC at h
  simp only [Bool.not_true, Bool.and_false, Bool.false_eq_true, if_false] at h
  cases turned with
  | true => simp only [if_true] at h; exact cmpS_zero (by omega)
  | false => exact cmpS_zero (by simpa using h)
theorem sortR_uniq {once turned : Bool} {L o1 o2 : List ByteArray} (h1 : SortR cmpS once turned L o1) (h2 : SortR cmpS once turned L o2) : o1 = o2 := by
 obtain ⟨l1, p1, s1, e1⟩ := h1
 obtain ⟨l2, p2, s2, e2⟩ := h2
 have := sort_uniq (ord_sort _ ord_S once turned) (fun a b => sortS_zero) p1 p2 s1 s2
 rw [e1, e2, this]
def cmpB (a b : ByteArray) : Int := if Op.bytesLess a.data.toList b.data.toList then -1 else if sEq a b then 0 else 1
theorem cmpB_eq : cmpS = cmpB := by funext a b; unfold cmpS cmpB; rw [strLt_data, sEq_eq]
def sortB3 (once turned : Bool) (a b : ByteArray) : Int :=
 let k := if cmpB a b == 0 && !once then cmpB a b else cmpB a b
 if turned then -k else k
theorem sortB3_eq (once turned : Bool) : sortC cmpS once turned = sortB3 once turned := by funext a b; unfold sortC sortB3; rw [cmpB_eq]
def in18 : ByteArray := ⟨⟨[98, 32, 50, 10, 97, 32, 49, 48, 10, 97, 32, 49, 48, 10]⟩⟩
theorem in18_lines : linesP (bl in18) = [⟨⟨[98, 32, 50]⟩⟩, ⟨⟨[97, 32, 49, 48]⟩⟩, ⟨⟨[97, 32, 49, 48]⟩⟩] := by rfl
theorem in18_sz : ∀ a ∈ linesP (bl in18), a.size <= 1000000 := by rw [in18_lines]; decide
theorem sE_ne {a b : List UInt8} (h : a ≠ b) : strEq ⟨⟨a⟩⟩ ⟨⟨b⟩⟩ = false := by
 rw [Bool.eq_false_iff]; intro e
 have := strEq_iff.1 e
 injection this with this; injection this with this
 exact h this
theorem sE50 : strEq ⟨⟨[50]⟩⟩ ⟨⟨[45]⟩⟩ = false := sE_ne (by decide)
theorem sE49 : strEq ⟨⟨[49]⟩⟩ ⟨⟨[45]⟩⟩ = false := sE_ne (by decide)
section
variable {A : AT}

theorem w_sort : OutIs A in18 ⟨⟨[115, 111, 114, 116]⟩⟩ (· = ⟨⟨[97, 32, 49, 48, 10, 97, 32, 49, 48, 10, 98, 32, 50, 10]⟩⟩) := by
 refine (out_sortS (args := []) (got := []) (by rfl) (by decide) (by decide) (by decide) (by rfl) (by decide) (by decide) (by decide) (by rw [in18_lines]; decide)).imp fun o ho => ?_
 obtain ⟨out, h, rfl⟩ := ho
 have : out = [⟨⟨[97, 32, 49, 48]⟩⟩, ⟨⟨[97, 32, 49, 48]⟩⟩, ⟨⟨[98, 32, 50]⟩⟩] := by
  refine sortR_uniq h ⟨[⟨⟨[97, 32, 49, 48]⟩⟩, ⟨⟨[97, 32, 49, 48]⟩⟩, ⟨⟨[98, 32, 50]⟩⟩], ?_, ?_, ?_⟩
  ·rw [in18_lines]; exact ((List.Perm.swap _ _ _).cons _).trans (List.Perm.swap _ _ _)
  ·rw [show ([] : List UInt8).contains 117 = false by decide, show ([] : List UInt8).contains 114 = false by decide, sortB3_eq]; decide +kernel
  ·rfl
 rw [this]; rfl
theorem w_sortu : OutIs A in18 ⟨⟨[115, 111, 114, 116, 124, 45, 117]⟩⟩ (· = ⟨⟨[97, 32, 49, 48, 10, 98, 32, 50, 10]⟩⟩) := by
 refine (out_sortS (args := [⟨⟨[45, 117]⟩⟩]) (got := [117]) (by rfl) (by decide) (by decide) (by decide) (by rfl) (by decide) (by decide) (by decide) (by rw [in18_lines]; decide)).imp fun o ho => ?_
 obtain ⟨out, h, rfl⟩ := ho
 have : out = [⟨⟨[97, 32, 49, 48]⟩⟩, ⟨⟨[98, 32, 50]⟩⟩] := by
  refine sortR_uniq h ⟨[⟨⟨[97, 32, 49, 48]⟩⟩, ⟨⟨[97, 32, 49, 48]⟩⟩, ⟨⟨[98, 32, 50]⟩⟩], ?_, ?_, ?_⟩
  ·rw [in18_lines]; exact ((List.Perm.swap _ _ _).cons _).trans (List.Perm.swap _ _ _)
  ·rw [show ([117] : List UInt8).contains 117 = true by decide, show ([117] : List UInt8).contains 114 = false by decide, sortB3_eq]; decide +kernel
  ·rw [show ([117] : List UInt8).contains 117 = true by decide, cmpB_eq]; rfl
 rw [this]; rfl
theorem w_sortr : OutIs A in18 ⟨⟨[115, 111, 114, 116, 124, 45, 114]⟩⟩ (· = ⟨⟨[98, 32, 50, 10, 97, 32, 49, 48, 10, 97, 32, 49, 48, 10]⟩⟩) := by
 refine (out_sortS (args := [⟨⟨[45, 114]⟩⟩]) (got := [114]) (by rfl) (by decide) (by decide) (by decide) (by rfl) (by decide) (by decide) (by decide) (by rw [in18_lines]; decide)).imp fun o ho => ?_
 obtain ⟨out, h, rfl⟩ := ho
 have : out = [⟨⟨[98, 32, 50]⟩⟩, ⟨⟨[97, 32, 49, 48]⟩⟩, ⟨⟨[97, 32, 49, 48]⟩⟩] := by
  refine sortR_uniq h ⟨[⟨⟨[98, 32, 50]⟩⟩, ⟨⟨[97, 32, 49, 48]⟩⟩, ⟨⟨[97, 32, 49, 48]⟩⟩], ?_, ?_, ?_⟩
  ·rw [in18_lines]
  ·rw [show ([114] : List UInt8).contains 117 = false by decide, show ([114] : List UInt8).contains 114 = true by decide, sortB3_eq]; decide +kernel
  ·rfl
 rw [this]; rfl
theorem w_uniq : OutIs A in18 ⟨⟨[117, 110, 105, 113, 124, 45, 99]⟩⟩ (· = ⟨⟨[49, 32, 98, 32, 50, 10, 50, 32, 97, 32, 49, 48, 10]⟩⟩) :=
 (out_uniq (args := [⟨⟨[45, 99]⟩⟩]) (got := [99]) (by rfl) (by decide) (by decide) (by decide) (by rfl) (by decide) (by rw [in18_lines]; decide +kernel) (fun a h => Nat.le_trans (in18_sz a h) (by decide))).imp fun o h => h.trans (by rfl)
theorem w_head : OutIs A in18 ⟨⟨[104, 101, 97, 100, 124, 45, 110, 124, 49]⟩⟩ (· = ⟨⟨[98, 32, 50, 10]⟩⟩) :=
 (out_head (args := [⟨⟨[45, 110]⟩⟩, ⟨⟨[49]⟩⟩]) (n := 1) (m := [(110, ⟨⟨[49]⟩⟩)]) (by rfl) (by decide) (by decide) (by rfl) (.inr ⟨_, rfl, rfl⟩) (by decide) (by rw [in18_lines]; decide)).imp fun o h => h.trans (by rfl)
theorem w_tail : OutIs A in18 ⟨⟨[116, 97, 105, 108, 124, 45, 110, 49]⟩⟩ (· = ⟨⟨[97, 32, 49, 48, 10]⟩⟩) :=
 (out_tail (args := [⟨⟨[45, 110, 49]⟩⟩]) (n := 1) (m := [(110, ⟨⟨[49]⟩⟩)]) (by rfl) (by decide) (by decide) (by rfl) (.inr ⟨_, rfl, rfl⟩) (by decide) (by rw [in18_lines]; decide)).imp fun o h => h.trans (by rfl)
theorem w_wc : OutIs A in18 ⟨⟨[119, 99]⟩⟩ (· = ⟨⟨[51, 32, 54, 32, 49, 52, 10]⟩⟩) :=
 (out_wc (args := []) (got := []) (by rfl) (by decide) (by decide) (by decide) (by rfl) (by decide) (by decide)).imp fun o h => h.trans (by rfl)
theorem w_wcl : OutIs A in18 ⟨⟨[119, 99, 124, 45, 108]⟩⟩ (· = ⟨⟨[51, 10]⟩⟩) :=
 (out_wc (args := [⟨⟨[45, 108]⟩⟩]) (got := [108]) (by rfl) (by decide) (by decide) (by decide) (by rfl) (by decide) (by decide)).imp fun o h => h.trans (by rfl)
theorem w_tr : OutIs A in18 ⟨⟨[116, 114, 124, 97, 45, 98, 124, 120]⟩⟩ (· = ⟨⟨[120, 32, 50, 10, 120, 32, 49, 48, 10, 120, 32, 49, 48, 10]⟩⟩) :=
 (out_tr (args := [⟨⟨[97, 45, 98]⟩⟩, ⟨⟨[120]⟩⟩]) (got := []) (s1 := [97, 45, 98]) (s2 := [120]) (fr := [97, 98]) (tq := [120]) (by rfl) (by decide) (by decide) (by decide) (by rfl) (by decide) (.inr ⟨rfl, rfl⟩) (by rfl) (by rfl) (by decide) (by decide) (by decide) (by decide) (by decide) (by decide) (by decide) (by decide)).imp fun o h => h.trans (by rfl)
theorem w_trd : OutIs A in18 ⟨⟨[116, 114, 124, 45, 100, 124, 48]⟩⟩ (· = ⟨⟨[98, 32, 50, 10, 97, 32, 49, 10, 97, 32, 49, 10]⟩⟩) :=
 (out_tr (args := [⟨⟨[45, 100]⟩⟩, ⟨⟨[48]⟩⟩]) (got := [100]) (s1 := [48]) (s2 := [48]) (fr := [48]) (tq := [48]) (by rfl) (by decide) (by decide) (by decide) (by rfl) (by decide) (.inl ⟨by decide, rfl, rfl⟩) (by rfl) (by rfl) (by decide) (by decide) (by decide) (by decide) (by decide) (by decide) (by decide) (by decide)).imp fun o h => h.trans (by rfl)
theorem w_cutf : OutIs A in18 ⟨⟨[99, 117, 116, 124, 45, 100, 124, 32, 124, 45, 102, 124, 50]⟩⟩ (· = ⟨⟨[50, 10, 49, 48, 10, 49, 48, 10]⟩⟩) :=
 (out_cut (args := [⟨⟨[45, 100]⟩⟩, ⟨⟨[32]⟩⟩, ⟨⟨[45, 102]⟩⟩, ⟨⟨[50]⟩⟩]) (isF := true) (c := 32) (w := [50]) (x := 2) (y := 2) (m := [(100, ⟨⟨[32]⟩⟩), (102, ⟨⟨[50]⟩⟩)]) (by rfl) (by decide) (by decide) (by rfl) (by decide) (.inl ⟨rfl, rfl, rfl, rfl⟩) (by decide) (by decide) sE50 (.inr ⟨by decide, 2, by rfl, rfl⟩) (.inr ⟨by decide, 2, by rfl, rfl⟩) (by decide) (by decide) (by decide) in18_sz (by rw [in18_lines]; decide +kernel)).imp fun o h => h.trans (by rfl)
theorem w_cutc : OutIs A in18 ⟨⟨[99, 117, 116, 124, 45, 99, 124, 49]⟩⟩ (· = ⟨⟨[98, 10, 97, 10, 97, 10]⟩⟩) :=
 (out_cut (args := [⟨⟨[45, 99]⟩⟩, ⟨⟨[49]⟩⟩]) (isF := false) (c := 32) (w := [49]) (x := 1) (y := 1) (m := [(99, ⟨⟨[49]⟩⟩)]) (by rfl) (by decide) (by decide) (by rfl) (by decide) (.inr ⟨rfl, rfl, rfl, rfl⟩) (by decide) (by decide) sE49 (.inr ⟨by decide, 1, by rfl, rfl⟩) (.inr ⟨by decide, 1, by rfl, rfl⟩) (by decide) (by decide) (by decide) in18_sz (by rw [in18_lines]; decide +kernel)).imp fun o h => h.trans (by rfl)
end
theorem s_works18 {σ : H} (hI : ItoaT σ) {K : KH} (hK : ∀ σ', Gr σ σ' -> K (.bool true) σ') : callW Tryz.prog 6 [] K σ := by
 refine c6 ?_
 unfold g6
 refine call_i (s_empty hI fun bf σ0 g0 hF0 => app_P (br_f rfl ?_))
 refine call_i (w_sort σ0 bf _ hF0 fun σ1 o1 h1 g1 => app_S (br_t (by rw [h1]; exact strEq_iff.2 rfl) ?_))
 have hF1 := hF0.gr g1
 refine call_i (w_sortu σ1 bf _ hF1 fun σ2 o2 h2 g2 => app_S (br_t (by rw [h2]; exact strEq_iff.2 rfl) ?_))
 have hF2 := hF1.gr g2
 refine call_i (w_sortr σ2 bf _ hF2 fun σ3 o3 h3 g3 => app_S (br_t (by rw [h3]; exact strEq_iff.2 rfl) ?_))
 have hF3 := hF2.gr g3
 refine call_i (w_uniq σ3 bf _ hF3 fun σ4 o4 h4 g4 => app_S (br_t (by rw [h4]; exact strEq_iff.2 rfl) ?_))
 have hF4 := hF3.gr g4
 refine call_i (w_head σ4 bf _ hF4 fun σ5 o5 h5 g5 => app_S (br_t (by rw [h5]; exact strEq_iff.2 rfl) ?_))
 have hF5 := hF4.gr g5
 refine call_i (w_tail σ5 bf _ hF5 fun σ6 o6 h6 g6 => app_S (br_t (by rw [h6]; exact strEq_iff.2 rfl) ?_))
 have hF6 := hF5.gr g6
 refine call_i (w_wc σ6 bf _ hF6 fun σ7 o7 h7 g7 => app_S (br_t (by rw [h7]; exact strEq_iff.2 rfl) ?_))
 have hF7 := hF6.gr g7
 refine call_i (w_wcl σ7 bf _ hF7 fun σ8 o8 h8 g8 => app_S (br_t (by rw [h8]; exact strEq_iff.2 rfl) ?_))
 have hF8 := hF7.gr g8
 refine call_i (w_tr σ8 bf _ hF8 fun σ9 o9 h9 g9 => app_S (br_t (by rw [h9]; exact strEq_iff.2 rfl) ?_))
 have hF9 := hF8.gr g9
 refine call_i (w_trd σ9 bf _ hF9 fun σ10 o10 h10 g10 => app_S (br_t (by rw [h10]; exact strEq_iff.2 rfl) ?_))
 have hF10 := hF9.gr g10
 refine call_i (w_cutf σ10 bf _ hF10 fun σ11 o11 h11 g11 => app_S (br_t (by rw [h11]; exact strEq_iff.2 rfl) ?_))
 have hF11 := hF10.gr g11
 refine call_i (w_cutc σ11 bf _ hF11 fun σ12 o12 h12 g12 => app_S (br_t (by rw [h12]; exact strEq_iff.2 rfl) ?_))
 have hF12 := hF11.gr g12
 refine call_i (s_fails (d := failsP ⟨⟨[99, 97, 116]⟩⟩ ⟨⟨[110, 111, 110, 101]⟩⟩ 5) (nm := ⟨⟨[99, 97, 116]⟩⟩) (args := [⟨⟨[110, 111, 110, 101]⟩⟩]) (by rfl) (by decide) (run_ex lk_cat go_txCat (tl_cat1 (got := []) (name := ⟨⟨[110, 111, 110, 101]⟩⟩) (e := 5) (by decide) (by decide) (by rfl) (sE_ne (by decide)) (by rfl) (by decide) (by decide) (by decide) (by decide)).ex) rfl (by rfl) rfl hF12 fun σa ga => app_B (br_t rfl ?_))
 refine call_i (s_fails (d := usageP ⟨⟨[104, 101, 97, 100]⟩⟩) (nm := ⟨⟨[104, 101, 97, 100]⟩⟩) (args := [⟨⟨[45, 120]⟩⟩]) (by rfl) (by decide) (run_ex lk_head go_txHead (tl_head_bad (by decide) (by decide) (by rfl)).ex) rfl (by rfl) rfl (hF12.gr ga) fun σb gb => app_B ?_)
 exact hK σb (g0 |>.trans g1 |>.trans g2 |>.trans g3 |>.trans g4 |>.trans g5 |>.trans g6 |>.trans g7 |>.trans g8 |>.trans g9 |>.trans g10 |>.trans g11 |>.trans g12 |>.trans ga |>.trans gb)
end Go.Proofs.YtpfkfphjigcdeaaGreatDoor

namespace Go.Wk
open Go Go.HL
theorem joined_cons (a : ByteArray) (r : List ByteArray) : joinedP (a :: r) = bl a ++ 10 :: joinedP r := by unfold joinedP; rw [List.flatMap_cons]; simp
theorem joined_app (a b : List ByteArray) : joinedP (a ++ b) = joinedP a ++ joinedP b := by unfold joinedP; rw [List.flatMap_append]
theorem trim_snoc (l : List UInt8) : trimEnd (l ++ [10]) [10] = l := by
 unfold trimEnd
 have : hasEnd (l ++ [10]) [10] = true := by
  unfold hasEnd
  rw [List.length_append, List.length_singleton, Nat.add_sub_cancel, List.drop_left]
  simp
 rw [this, if_pos rfl, List.length_append, List.length_singleton, Nat.add_sub_cancel, List.take_left]
theorem lines_joined {L : List ByteArray} (h : ∀ s ∈ L, (10 : UInt8) ∉ bl s) : linesP (joinedP L) = L := by
 rcases List.eq_nil_or_concat L with rfl | ⟨I, z, rfl⟩
 ·rfl
 ·have hz := h z (by simp)
  have hI : ∀ s ∈ I, (10 : UInt8) ∉ bl s := fun s hs => h s (by simp [hs])
  have e : joinedP (I ++ [z]) = (joinedP I ++ bl z) ++ [10] := by rw [joined_app, joined_cons]; simp [joinedP]
  rw [List.concat_eq_append]
  unfold linesP
  rw [e, trim_snoc]
  have hne : ((joinedP I ++ bl z) ++ [10]).isEmpty = false := by simp
  rw [hne, if_neg (by simp)]
  clear e hne h
  induction I with
  | nil =>
   unfold partsOf
   show (splitL 10 ([] ++ bl z)).map _ = _
   rw [List.nil_append, splitL_none hz]; rfl
  | cons a r ih =>
   unfold partsOf at ih ⊢
   show (splitL 10 (joinedP (a :: r) ++ bl z)).map _ = _
   rw [joined_cons, List.append_assoc, List.cons_append, splitL_some (hI a (List.mem_cons_self ..)), List.map_cons]
   have := ih fun s hs => hI s (List.mem_cons_of_mem _ hs)
   rw [show (splitL 10 (joinedP r ++ bl z)).map (fun l => (⟨⟨l⟩⟩ : ByteArray)) = r ++ [z] from this]; rfl
theorem fmtL_accT : ∀ (f n : Nat) (acc : List UInt8), fmtL 10 f n acc = fmtL 10 f n [] ++ acc := by
 intro f
 induction f with
 | zero => intro n acc; rfl
 | succ f ih =>
  intro n acc
  show (if n < 10 then digitL n :: acc else fmtL 10 f (n / 10) (digitL (n % 10) :: acc)) = (if n < 10 then digitL n :: [] else fmtL 10 f (n / 10) (digitL (n % 10) :: [])) ++ acc
  split
  ·rfl
  ·rw [ih (n / 10) (digitL (n % 10) :: acc), ih (n / 10) (digitL (n % 10) :: []), List.append_assoc]; rfl
theorem fmtL_fuelT : ∀ (f n j : Nat), n < 10 ^ f -> 0 < f -> fmtL 10 (f + j) n [] = fmtL 10 f n [] := by
 intro f
 induction f with
 | zero => intro n j _ h; cases h
 | succ f ih =>
  intro n j hn _
  rw [show f + 1 + j = (f + j) + 1 by omega]
  show (if n < 10 then digitL n :: [] else fmtL 10 (f + j) (n / 10) (digitL (n % 10) :: [])) = (if n < 10 then digitL n :: [] else fmtL 10 f (n / 10) (digitL (n % 10) :: []))
  split
  ·rfl
  ·rename_i h10
   have hf : 0 < f := by
    rcases Nat.eq_zero_or_pos f with e | e
    ·subst e; simp at hn; omega
    ·exact e
   rw [fmtL_accT (f + j), fmtL_accT f, ih (n / 10) j (by rw [Nat.pow_succ] at hn; omega) hf]
theorem fmt_smallT {n : Nat} (h : n < 1000000) : numberP (bl (fmtP 10 (n : Int))) = some n /\ (∀ c ∈ bl (fmtP 10 (n : Int)), dig c = true) /\ bl (fmtP 10 (n : Int)) ≠ [] /\ (bl (fmtP 10 (n : Int))).length <= 6 := by
 have e : bl (fmtP 10 (n : Int)) = fmtL 10 6 n [] := by
  unfold fmtP
  rw [if_neg (by omega), Int.natAbs_natCast]
  show fmtL 10 (6 + 58) n [] = _
  exact fmtL_fuelT 6 n 58 (by omega) (by decide)
 obtain ⟨h1, h2, h3, h4, _⟩ := fmt_num 6 n (by omega) (by decide)
 rw [e]
 refine ⟨?_, fun c hc => List.all_eq_true.1 h2 c hc, h4, h3⟩
 unfold numberP
 have : (fmtL 10 6 n []).isEmpty = false := by
  cases hh : fmtL 10 6 n [] with
  | nil => exact absurd hh h4
  | cons => rfl
 rw [this, h2, h1]
 have : decide ((fmtL 10 6 n []).length > 6) = false := by rw [decide_eq_false_iff_not]; omega
 rw [this]; rfl
end Go.Wk

set_option maxRecDepth 100000
namespace Go.Proofs.YtpfkfphjigcdeaaGreatDoor
open Go Go.HL Go.Wk
attribute [local irreducible] ptrW ifW brW andW rdT alW letJ stW muW biW vaW imW callT cvalT app callW invW callVW sizeT oW nilF oneK loopW rfW funW begW roundK exW idxW Gr Put
theorem word_mem (c : UInt8) : wordOf c ∈ words18 := by
 unfold wordOf
 have : c.toNat % 12 < 12 := Nat.mod_lt _ (by decide)
 generalize c.toNat % 12 = i at this
 revert i; decide
theorem all_mem {l : List UInt8} {s : ByteArray} (h : s ∈ all18 l) : s ∈ words18 := by
 unfold all18 at h
 obtain ⟨c, _, rfl⟩ := List.mem_map.1 h
 exact word_mem c
theorem words_no10 : ∀ s ∈ words18, (10 : UInt8) ∉ bl s := by decide
theorem words_ascii : ∀ s ∈ words18, ∀ c ∈ bl s, c.toNat < 128 := by decide
theorem words_len : ∀ s ∈ words18, s.size <= 3 := by decide
theorem all_len (l : List UInt8) : (all18 l).length <= 80 := by unfold all18; rw [List.length_map, List.length_take]; omega
theorem joined_len {L : List ByteArray} (h : ∀ s ∈ L, s.size <= 3) : (joinedP L).length <= 4 * L.length := by
 induction L with
 | nil => exact Nat.le_refl _
 | cons a r ih =>
  have h1 := h a (List.mem_cons_self ..)
  have h2 := ih fun s hs => h s (List.mem_cons_of_mem _ hs)
  rw [joined_cons_len, List.length_cons]
  have : (bl a).length = a.size := rfl
  omega
theorem joined_ascii {L : List ByteArray} (h : ∀ s ∈ L, ∀ c ∈ bl s, c.toNat < 128) : ∀ c ∈ joinedP L, c.toNat < 128 := by
 intro c hc
 unfold joinedP at hc
 obtain ⟨s, hs, hc⟩ := List.mem_flatMap.1 hc
 rcases List.mem_append.1 hc with hc | hc
 ·exact h s hs c hc
 ·rw [List.mem_singleton] at hc; subst hc; decide
theorem count_joined {L : List ByteArray} (h : ∀ s ∈ L, (10 : UInt8) ∉ bl s) : (joinedP L).count 10 = L.length := by
 induction L with
 | nil => rfl
 | cons a r ih =>
  rw [joined_cons, List.count_append, List.count_cons, ih fun s hs => h s (List.mem_cons_of_mem _ hs), List.count_eq_zero.2 (h a (List.mem_cons_self ..))]
  simp
section
variable {A : AT} {L : List ByteArray}
end
end Go.Proofs.YtpfkfphjigcdeaaGreatDoor

namespace Go.Wk
open Go Go.HL
theorem ba_beq {a b : ByteArray} : (a == b) = true ↔ a = b := by
 constructor
 ·intro h
  rw [beq_toListBytes] at h
  exact ba_ext (eq_of_beq h)
 ·rintro rfl
  rw [beq_toListBytes]; simp
instance baLawful : LawfulBEq ByteArray where
 eq_of_beq h := ba_beq.1 h
 rfl := ba_beq.2 rfl
def cntF (m : List (ByteArray × Int)) (s : ByteArray) : List (ByteArray × Int) := up s ((lk s m).getD 0 + 1) m
def cntL (L : List ByteArray) : List (ByteArray × Int) := L.foldl cntF []
theorem lk_up (k s : ByteArray) (v : Int) : ∀ m : List (ByteArray × Int), lk k (up s v m) = if k = s then some v else lk k m := by
 intro m
 induction m with
 | nil =>
  by_cases h : k = s
  ·rw [if_pos h]; simp [up, lk, h]
  ·have : (k == s) = false := by simpa using h
   rw [if_neg h]; simp [up, lk, this]
 | cons x r ih =>
  obtain ⟨j, u⟩ := x
  cases hj : (s == j) with
  | true =>
   have := ba_beq.1 hj; subst this
   simp only [up, hj, lk]
   by_cases h : k = s
   ·rw [if_pos h]; simp [h]
   ·have : (k == s) = false := by simpa using h
    rw [if_neg h, this]
  | false =>
   simp only [up, hj, lk]
   rw [ih]
   cases hk : (k == j) with
   | true =>
    have := ba_beq.1 hk; subst this
    have : k ≠ s := fun e => by rw [e] at hj; simp at hj
    simp only [if_neg this]
   | false => rfl
theorem keys_up (s : ByteArray) (v : Int) : ∀ m : List (ByteArray × Int), (up s v m).map (·.1) = if s ∈ m.map (·.1) then m.map (·.1) else m.map (·.1) ++ [s] := by
 intro m
 induction m with
 | nil => rfl
 | cons x r ih =>
  obtain ⟨j, u⟩ := x
  cases hj : (s == j) with
  | true =>
   have := ba_beq.1 hj; subst this
   simp only [up, hj]
   rw [if_pos (by simp)]; rfl
  | false =>
   simp only [up, hj, List.map_cons]
   have hne : s ≠ j := fun e => by rw [e] at hj; simp at hj
   rw [ih]
   by_cases h : s ∈ r.map (·.1)
   ·rw [if_pos h, if_pos (List.mem_cons_of_mem _ h)]
   ·rw [if_neg h, if_neg (fun q => (List.mem_cons.1 q).elim hne h)]; rfl
structure CntOk (m : List (ByteArray × Int)) (L : List ByteArray) : Prop where
 nd : (m.map (·.1)).Nodup
 mem : ∀ k, k ∈ m.map (·.1) ↔ k ∈ L
 val : ∀ k n, (k, n) ∈ m -> n = (L.count k : Nat)
 lk : ∀ k, (lk k m).getD 0 = (L.count k : Nat)
theorem lk_mem {m : List (ByteArray × Int)} (hn : (m.map (·.1)).Nodup) {k : ByteArray} {n : Int} (h : (k, n) ∈ m) : lk k m = some n := by
 induction m with
 | nil => cases h
 | cons x r ih =>
  obtain ⟨j, u⟩ := x
  rw [List.map_cons, List.nodup_cons] at hn
  rcases List.mem_cons.1 h with e | e
  ·cases e; simp [lk]
  ·have : (k == j) = false := by
    cases hk : (k == j) with
    | false => rfl
    | true =>
     have := ba_beq.1 hk; subst this
     exact absurd (List.mem_map.2 ⟨_, e, rfl⟩) hn.1
   simp only [lk, this]
   exact ih hn.2 e
theorem cntF_ok {m : List (ByteArray × Int)} {L : List ByteArray} (h : CntOk m L) (s : ByteArray) : CntOk (cntF m s) (L ++ [s]) := by
 have hlk : ∀ k, (lk k (cntF m s)).getD 0 = ((L ++ [s]).count k : Nat) := by
  intro k
  unfold cntF
  rw [lk_up, List.count_append, List.count_singleton]
  by_cases e : k = s
  ·rw [if_pos e, e, Option.getD_some, h.lk]; simp
  ·have e' : (s == k) = false := by
    cases hk : (s == k) with
    | false => rfl
    | true => exact absurd (ba_beq.1 hk).symm e
   rw [if_neg e, h.lk, e']; simp
 have hnd : ((cntF m s).map (·.1)).Nodup := by
  unfold cntF
  rw [keys_up]
  split
  ·exact h.nd
  ·rename_i hn
   rw [List.nodup_append]
   exact ⟨h.nd, by simp, fun a ha b hb => by rw [List.mem_singleton] at hb; subst hb; intro e; subst e; exact hn ha⟩
 refine ⟨hnd, fun k => ?_, fun k n hkn => ?_, hlk⟩
 ·unfold cntF
  rw [keys_up, List.mem_append, <- h.mem k]
  split
  ·rename_i hs
   constructor
   ·exact fun q => .inl q
   ·rintro (q | q)
    ·exact q
    ·rw [List.mem_singleton] at q; subst q; exact hs
  ·rw [List.mem_append]
 ·have := hlk k
  rw [lk_mem hnd hkn] at this
  exact this
theorem cntL_ok (L : List ByteArray) : CntOk (cntL L) L := by
 have key : ∀ (r d : List ByteArray) (m : List (ByteArray × Int)), CntOk m d -> CntOk (r.foldl cntF m) (d ++ r) := by
  intro r
  induction r with
  | nil => intro d m h; rw [List.append_nil]; exact h
  | cons a r ih =>
   intro d m h
   have := ih (d ++ [a]) _ (cntF_ok h a)
   rw [List.append_assoc] at this
   exact this
 exact key L [] [] ⟨List.nodup_nil, (fun k => by simp), (fun k n h => by cases h), (fun k => rfl)⟩
theorem ali_all (a : ByteArray) (r : List ByteArray) : ∃ t, r = List.replicate (aliN a r) a ++ t /\ t = r.drop (aliN a r) := by
 refine ⟨_, ?_, rfl⟩
 rw [<- List.take_append_drop (aliN a r) r]
 congr 1
 ·refine List.ext_getElem? fun i => ?_
  rw [List.take_append_drop, List.getElem?_replicate, List.getElem?_take]
  split
  ·exact (aliN_get a r i (by assumption))
  ·rfl
 ·rw [List.take_append_drop]
variable {le : ByteArray -> ByteArray -> Prop}
theorem ali_not (anti : ∀ a b, le a b -> le b a -> a = b) {a : ByteArray} {r : List ByteArray} (h : (a :: r).Pairwise le) : a ∉ r.drop (aliN a r) := by
 intro hm
 rw [List.pairwise_cons] at h
 obtain ⟨i, hi⟩ := List.getElem?_of_mem hm
 rw [List.getElem?_drop] at hi
 cases hb : r[aliN a r]? with
 | none =>
  rw [List.getElem?_eq_none_iff] at hb
  rw [List.getElem?_eq_none (by omega)] at hi; cases hi
 | some b =>
  have hne := aliN_end a r b hb
  have hab := h.1 b (List.mem_of_getElem? hb)
  have hba : b = a \/ le b a := by
   rcases Nat.eq_zero_or_pos i with e | e
   ·subst e
    rw [Nat.add_zero, hb] at hi
    exact .inl (Option.some.inj hi)
   ·right
    obtain ⟨h1, e1⟩ := List.getElem?_eq_some_iff.1 hb
    obtain ⟨h2, e2⟩ := List.getElem?_eq_some_iff.1 hi
    have := (List.pairwise_iff_getElem.1 h.2) (aliN a r) (aliN a r + i) h1 h2 (by omega)
    rw [e1, e2] at this
    exact this
  have e : b = a := hba.elim id fun q => (anti a b hab q).symm
  subst e
  rw [strEq_iff.2 rfl] at hne
  cases hne
def uLine (c : Bool) (S : List ByteArray) (k : ByteArray) : ByteArray := if c then (fmtP 10 ((S.count k : Nat) : Int) ++ ⟨⟨[32]⟩⟩) ++ k else k
def oncesP (S : List ByteArray) : List ByteArray := uniqP false false (S.length + 1) S
theorem uniq_sorted (anti : ∀ a b, le a b -> le b a -> a = b) : ∀ (f : Nat) (S : List ByteArray), S.length < f -> S.Pairwise le ->
 (uniqP false false f S).Nodup /\ (∀ k, k ∈ uniqP false false f S ↔ k ∈ S) /\ ∀ c d, uniqP c d f S = ((uniqP false false f S).filter fun k => Nat.ble 2 (S.count k) || !d).map (uLine c S) := by
 intro f
 induction f with
 | zero => intro S h; omega
 | succ f ih =>
  intro S hf hS
  cases S with
  | nil => exact ⟨List.nodup_nil, fun _ => Iff.rfl, fun _ _ => rfl⟩
  | cons a r =>
   have hno := ali_not anti hS
   obtain ⟨t, ht, htd⟩ := ali_all a r
   rw [<- htd] at hno
   have htl : t.length <= r.length := by rw [htd, List.length_drop]; omega
   rw [List.pairwise_cons] at hS
   have htp : t.Pairwise le := by rw [htd]; exact hS.2.sublist (List.drop_sublist _ _)
   obtain ⟨i1, i2, i3⟩ := ih t (by simp only [List.length_cons] at hf; omega) htp
   have e0 : ∀ c d, uniqP c d (f + 1) (a :: r) = (if Nat.ble 2 (aliN a r + 1) || !d then [if c then (fmtP 10 ((aliN a r + 1 : Nat) : Int) ++ ⟨⟨[32]⟩⟩) ++ a else a] else []) ++ uniqP c d f t := by
    intro c d; rw [htd]; rfl
   have eu : uniqP false false (f + 1) (a :: r) = a :: uniqP false false f t := by rw [e0]; simp
   have hca : (a :: r).count a = aliN a r + 1 := by
    rw [List.count_cons_self]
    conv => lhs; rw [ht]
    rw [List.count_append, List.count_replicate_self, List.count_eq_zero.2 hno]
   have hck : ∀ k, k ≠ a -> (a :: r).count k = t.count k := by
    intro k hk
    rw [List.count_cons_of_ne (fun e => hk e.symm)]
    conv => lhs; rw [ht]
    rw [List.count_append, List.count_eq_zero.2 (fun h => hk (List.eq_of_mem_replicate h)), Nat.zero_add]
   refine ⟨?_, fun k => ?_, fun c d => ?_⟩
   ·rw [eu, List.nodup_cons]
    exact ⟨fun h => hno ((i2 a).1 h), i1⟩
   ·rw [eu, List.mem_cons, List.mem_cons, i2 k]
    constructor
    ·rintro (e | e)
     ·exact .inl e
     ·right; rw [ht]; exact List.mem_append_right _ e
    ·rintro (e | e)
     ·exact .inl e
     ·rw [ht] at e
      rcases List.mem_append.1 e with e | e
      ·exact .inl (List.eq_of_mem_replicate e)
      ·exact .inr e
   ·rw [e0 c d, eu, i3 c d, List.filter_cons, hca]
    have hcong : ((uniqP false false f t).filter fun k => Nat.ble 2 ((a :: r).count k) || !d).map (uLine c (a :: r)) = ((uniqP false false f t).filter fun k => Nat.ble 2 (t.count k) || !d).map (uLine c t) := by
     have hm : ∀ k ∈ uniqP false false f t, k ≠ a := fun k hk e => hno ((i2 a).1 (e ▸ hk))
     rw [List.filter_congr (q := fun k => Nat.ble 2 (t.count k) || !d) fun k hk => by rw [hck k (hm k hk)]]
     refine List.map_congr_left fun k hk => ?_
     unfold uLine
     rw [hck k (hm k (List.mem_filter.1 hk |>.1))]
    split
    ·rw [List.map_cons, hcong]
     show _ = uLine c (a :: r) a :: _
     unfold uLine
     rw [hca]; rfl
    ·rw [hcong]; rfl
theorem onces_ok (anti : ∀ a b, le a b -> le b a -> a = b) {S : List ByteArray} (hS : S.Pairwise le) : (oncesP S).Nodup /\ (∀ k, k ∈ oncesP S ↔ k ∈ S) /\ ∀ c d, uniqP c d (S.length + 1) S = ((oncesP S).filter fun k => Nat.ble 2 (S.count k) || !d).map (uLine c S) := uniq_sorted anti _ S (by omega) hS
theorem split32 : ∀ {a b k l : List UInt8}, (32 : UInt8) ∉ a -> (32 : UInt8) ∉ b -> a ++ 32 :: k = b ++ 32 :: l -> a = b /\ k = l := by
 intro a
 induction a with
 | nil =>
  intro b k l _ hb h
  cases b with
  | nil => exact ⟨rfl, by simpa using h⟩
  | cons c b =>
   rw [List.nil_append, List.cons_append, List.cons.injEq] at h
   exact absurd (h.1 ▸ List.mem_cons_self ..) hb
 | cons c a ih =>
  intro b k l ha hb h
  cases b with
  | nil =>
   rw [List.nil_append, List.cons_append, List.cons.injEq] at h
   exact absurd (h.1 ▸ List.mem_cons_self ..) ha
  | cons e b =>
   rw [List.cons_append, List.cons_append, List.cons.injEq] at h
   obtain ⟨h1, h2⟩ := h
   obtain ⟨q1, q2⟩ := ih (fun m => ha (List.mem_cons_of_mem _ m)) (fun m => hb (List.mem_cons_of_mem _ m)) h2
   exact ⟨by rw [h1, q1], q2⟩
end Go.Wk

namespace Go.HL
open Go
variable {P : Program}
def ItAt (σ : H) (b r : Nat) (rem : List (Value × Value)) (cur : Option (Value × Value)) : Prop :=
 ∃ es clock since c0 seen, σ b = some (.map es clock) /\ MapKept.Stamped es clock /\ σ r = some (.mapIter (some b) since seen c0) /\ (∀ x ∈ es.toList, x.born < since) /\ since <= c0 /\ since <= clock /\
  ((es.toList.filter fun e => !seen.contains e.born).map fun e => (e.key, e.val)) = rem /\ b ≠ r /\
  ∀ p, cur = some p -> ∃ (s0 : Array Nat) (e : MapEntry), seen = s0.push e.born /\ c0 = clock /\ e ∈ es.toList /\ (e.key, e.val) = p
theorem ItAt.get {σ σ' : H} {b r : Nat} {rem : List (Value × Value)} {cur : Option (Value × Value)} (h : ItAt σ b r rem cur) (h1 : ∀ o, σ b = some o -> σ' b = some o) (h2 : ∀ o, σ r = some o -> σ' r = some o) : ItAt σ' b r rem cur := by
 obtain ⟨es, clock, since, c0, seen, a1, a2, a3, a4⟩ := h
 exact ⟨es, clock, since, c0, seen, h1 _ a1, a2, h2 _ a3, a4⟩
theorem ItAt.gr {σ σ' : H} {b r : Nat} {rem : List (Value × Value)} {cur : Option (Value × Value)} (h : ItAt σ b r rem cur) (hg : Gr σ σ') : ItAt σ' b r rem cur := h.get (fun o h => hg b o h) (fun o h => hg r o h)
theorem rng_i {t kt et : TypeId} (ht : P.underlying t = some (.map kt et)) {σ : H} {b : Nat} {l : List (Value × Value)} (h : MapAt σ b l) {F : Option Addr -> H -> Prop}
 (hF : ∀ r σ', Gr σ σ' -> σ r = none -> ItAt σ' b r l none -> F (some ⟨r, 0, none⟩) σ') : vaW P (Instr.range t (.map (some b))) (.one (.sc .ptr)) F σ := by
 obtain ⟨es, c, hb, rfl, hs⟩ := h
 intro w hw
 have hrun : (valS (Instr.range t (.map (some b)))).run P w = .ok (.value (.pointer (some ⟨w.heap.size, 0, none⟩))) (w.alloc (.mapIter (some b) c #[] c)) := by
  simp only [valS, Sem.run_bind, run_range_map w t kt et b es c ht (hw b _ hb), Result.andThen_ok, Sem.run_pure]
 rw [hrun]
 have hn : σ w.heap.size = none := by
  cases hg : σ w.heap.size with
  | none => rfl
  | some o => have := hw.lt hg; omega
 have hbr : b ≠ w.heap.size := by
  intro e; rw [<- e, hb] at hn; cases hn
 refine ⟨_, (Ext.alloc hw _).2, app_P (hF w.heap.size _ (Gr.put hn _) hn ⟨es, c, c, c, #[], by rw [H.put_other _ _ hbr]; exact hb, hs, H.put_same _ _ _, ((MapKept.stamped_iff es c).1 hs).1, Nat.le_refl _, Nat.le_refl _, congrArg _ (List.filter_eq_self.2 fun _ _ => by simp), hbr, fun p hp => by cases hp⟩)⟩
theorem nxt_i {ty : TypeId} {b r : Nat} {rem : List (Value × Value)} {cur : Option (Value × Value)} {A : H -> Prop} {F : Value -> Value -> H -> Prop} {σ : H} (h : ItAt σ b r rem cur)
 (h0 : rem = [] -> A σ) (h1 : ∀ pre k v post o, rem = pre ++ (k, v) :: post -> ItAt (σ.put r o) b r (pre ++ post) (some (k, v)) -> F k v (σ.put r o)) :
 vaW P (Instr.next (.pointer (some ⟨r, 0, none⟩)) false ty) (.opt [.sc .raw, .sc .raw]) (A, F) σ := by
 obtain ⟨es, clock, since, c0, seen, hb, hs, hr, hold, hsc, hsk, hrem, hbr, _⟩ := h
 intro w hw
 have hl : (leftOf es seen).toList = es.toList.filter fun e => !seen.contains e.born := by unfold leftOf; rw [Array.toList_filter]
 rcases run_next_at (P := P) w ty r b since c0 seen es clock (hw r _ hr) (hw b _ hb) hold hsc with ⟨hz, hrun⟩ | ⟨e, he, w1, hal, hrun⟩
 ·simp only [valS, Sem.run_bind, hrun, Result.andThen_ok, Sem.run_pure]
  refine ⟨σ, Ext.refl hw, h0 ?_⟩
  have : (leftOf es seen).toList = [] := by rw [<- List.length_eq_zero_iff, Array.length_toList, hz]
  rw [<- hrem, <- hl, this]; rfl
 ·simp only [valS, Sem.run_bind, hrun, Result.andThen_ok, Sem.run_pure]
  have hw1 : σ.le w1 := by rcases hal with rfl | rfl <;> exact hw
  have hx : Ext σ w σ w1 := by
   rcases hal with rfl | rfl
   ·exact Ext.refl hw
   ·exact Ext.drew hw _
  have hset : Ext σ w1 (σ.put r (.mapIter (some b) since (seen.push e.born) clock)) (ChangeMaps.setBlock w1 r (.mapIter (some b) since (seen.push e.born) clock)) := Ext.set hw1 hr rfl rfl rfl rfl
  refine ⟨_, hx.trans hset, ?_⟩
  obtain ⟨hem, hes⟩ := mem_left he
  have hst := (MapKept.stamped_iff es clock).1 hs
  rw [hl] at he
  obtain ⟨pre, post, hpp⟩ := List.append_of_mem he
  have hk : F e.key e.val (σ.put r (.mapIter (some b) since (seen.push e.born) clock)) := by
   refine h1 (pre.map fun e => (e.key, e.val)) e.key e.val (post.map fun e => (e.key, e.val)) _ (by rw [<- hrem, hpp]; simp) ⟨es, clock, since, clock, seen.push e.born, by rw [H.put_other _ _ hbr]; exact hb, hs, H.put_same _ _ _, hold, hsk, hsk, ?_, hbr, fun p hp => ⟨seen, e, rfl, rfl, hem, by cases hp; rfl⟩⟩
   have hnd : ((es.toList.filter fun e => !seen.contains e.born).map (·.born)).Nodup := (List.filter_sublist.map _).nodup hst.2.1
   rw [hpp] at hnd
   simp only [List.map_append, List.map_cons, List.nodup_append, List.nodup_cons] at hnd
   obtain ⟨_, ⟨n1, _⟩, n2⟩ := hnd
   have e1 : (es.toList.filter fun x => !(seen.push e.born).contains x.born) = (es.toList.filter fun x => !seen.contains x.born).filter fun x => !(x.born == e.born) := by
    rw [List.filter_filter]
    refine List.filter_congr fun x _ => ?_
    rw [Array.contains_push]
    cases seen.contains x.born <;> cases (x.born == e.born) <;> rfl
   rw [e1, hpp, List.filter_append, List.filter_cons]
   have f1 : pre.filter (fun x => !(x.born == e.born)) = pre := List.filter_eq_self.2 fun x hx => by
    have := n2 x.born (List.mem_map.2 ⟨x, hx, rfl⟩) e.born (List.mem_cons_self ..)
    simp [this]
   have f2 : post.filter (fun x => !(x.born == e.born)) = post := List.filter_eq_self.2 fun x hx => by
    have : x.born ≠ e.born := fun q => n1 (List.mem_map.2 ⟨x, hx, q⟩)
    simp [this]
   rw [f1, f2]
   simp
  show app _ _ _ _
  simp only [app, TK.prj, optOf, prjC, CK.prj, SK.prj, runO]
  exact hk
theorem ent_i {b r : Nat} {rem : List (Value × Value)} {k v : Value} {t : TK} {F : t.Fn (H -> Prop)} {σ : H} (h : ItAt σ b r rem (some (k, v))) (hF : app t F (.tuple #[k, v]) σ) :
 vaW P (Instr.entry (.pointer (some ⟨r, 0, none⟩))) t F σ := by
 obtain ⟨es, clock, since, c0, seen, hb, hs, hr, hold, hsc, hsk, hrem, hbr, hc⟩ := h
 obtain ⟨s0, e, rfl, rfl, hem, hp⟩ := hc _ rfl
 cases hp
 intro w hw
 simp only [valS, Sem.run_bind, run_entry_at (P := P) w r b since s0 es c0 e (hw r _ hr) (hw b _ hb) hem ((MapKept.stamped_iff es c0).1 hs).2.1, Result.andThen_ok, Sem.run_pure]
 exact ⟨σ, Ext.refl hw, hF⟩
end Go.HL

set_option maxRecDepth 100000
namespace Go.Proofs.YtpfkfphjigcdeaaGreatDoor
open Go Go.HL Go.Wk
attribute [local irreducible] ptrW ifW brW andW rdT alW letJ stW muW biW vaW imW callT cvalT app callW invW callVW sizeT oW nilF oneK loopW rfW funW begW roundK exW idxW Gr Put
theorem und_strK : Tryz.prog.underlying 9 = some kkS.d := by kernel_rfl
def CtAt (σ : H) (b : Nat) (m : List (ByteArray × Int)) : Prop := MapAt σ b (encL kkS (Value.int .i64) m)
theorem CtAt.gr {σ σ' : H} {b : Nat} {m : List (ByteArray × Int)} (h : CtAt σ b m) (hg : Gr σ σ') : CtAt σ' b m := MapAt.gr h hg
theorem ct_rd {σ : H} {b : Nat} {m : List (ByteArray × Int)} (h : CtAt σ b m) (k : ByteArray) : rdM .string (.int .i64 0) false (some b) (.string k) σ = some (.int .i64 ((lk k m).getD 0)) := by
 have := rdM_at h (.int .i64 0) false k
 rw [show rdM .string (.int .i64 0) false (some b) (.string k) σ = rdM kkS.d (.int .i64 0) false (some b) (kkS.inj k) σ from rfl, this]
 cases lk k m <;> rfl
theorem ct_len {σ : H} {b : Nat} {m : List (ByteArray × Int)} (h : CtAt σ b m) : rdLen (some b) σ = some (.int .i64 ((m.length : Nat) : Int)) := by
 rw [rdLen_at h, encL, List.length_map]
theorem joined_length (L : List ByteArray) : L.length <= (joinedP L).length := by
 induction L with
 | nil => exact Nat.le_refl _
 | cons a r ih => rw [joined_cons_len, List.length_cons]; omega
theorem s_counts {L : List ByteArray} {σ : H} (hL : ∀ s ∈ L, (10 : UInt8) ∉ bl s) (hz : (joinedP L).length <= 1000000) {K : KH} (hK : ∀ b σ', Gr σ σ' -> σ b = none -> CtAt σ' b (cntL L) -> K (.map (some b)) σ') :
 callW Tryz.prog 11 [.string ⟨⟨joinedP L⟩⟩] K σ := by
 refine c11 _ ?_
 unfold g11
 refine al_i ?_; intro b2 σ1 g1 e1 n1
 have m1 : CtAt σ1 b2 [] := MapAt.new e1
 refine j_i (fun j => ∀ τ, Gr σ τ -> CtAt τ b2 (cntL L) -> j (some b2) τ) (fun τ hg hm => hK b2 τ hg n1 hm) fun j hj => ?_
 have hlin := lines_joined hL
 rw [strEq_nil]
 cases h : (joinedP L).isEmpty with
 | true =>
  have : L = [] := by
   have := joined_length L
   rw [List.isEmpty_iff.1 h] at this
   exact List.length_eq_zero_iff.1 (Nat.le_zero.1 this)
  subst this
  exact br_f rfl (hj σ1 g1 m1)
 | false =>
  refine br_t rfl (call_i (x_TrimSuf (joinedP L) [10] (by omega) (by decide) (app_S ?_)))
  have ht : (trimEnd (joinedP L) [10]).length <= (joinedP L).length := by
   unfold trimEnd; split
   ·rw [List.length_take]; omega
   ·exact Nat.le_refl _
  refine call_i (s_SplitC _ 10 (by rw [bsz]; omega) fun y σ2 h' => app_L ?_)
  unfold linesP at hlin
  rw [h] at hlin
  rw [show partsOf 10 ⟨⟨trimEnd (joinedP L) [10]⟩⟩ = L from hlin] at h'
  have hyl : y.len = L.length := by rw [h'.len, strRows_len]
  have hLz := joined_length L
  have hnb : y.base ≠ some ⟨b2, 0, none⟩ := fun e => by have := h'.2.2 b2 e; rw [e1] at this; cases this
  refine loop_i fun R hR => ?_
  have key : ∀ (r d : List ByteArray) (m : List (ByteArray × Int)) (τ : H), L = d ++ r -> RNew σ τ 9 1 (strRows L) y -> CtAt τ b2 m -> CntOk m d -> r.foldl cntF m = cntL L -> R (some b2) y ((d.length : Nat) : Int) τ := by
   intro r
   induction r with
   | nil =>
    intro d m τ hd hx hm hc he
    rw [List.append_nil] at hd
    subst hd
    refine hR _ _ _ _ (br_f (by rw [decide_eq_false_iff_not]; omega) (hj τ hx.1 ?_))
    rw [<- he]; exact hm
   | cons a r ih =>
    intro d m τ hd hx hm hc he
    have hi : L[d.length]? = some a := by rw [hd]; simp
    have hlen : L.length = d.length + (r.length + 1) := by rw [hd]; simp
    obtain ⟨g, o, q1, q2, q3⟩ := sRow hx.at hi
    refine hR _ _ _ _ (br_t (by rw [decide_eq_true_eq]; omega) ?_)
    rw [q1]
    refine ptr_i (if_i ⟨by omega, by omega⟩ (rd_S (by rw [Int.toNat_natCast]; exact q3) (rd_I (ct_rd hm a) ?_)))
    have hcount : (lk a m).getD 0 = ((d.count a : Nat) : Int) := hc.lk a
    have hcl : d.count a <= d.length := List.count_le_length
    have hw : IntKind.i64.wrap ((lk a m).getD 0 + 1) = (lk a m).getD 0 + 1 := by
     rw [hcount]
     exact wI (k := d.count a + 1) (by omega) (by omega)
    rw [hw]
    refine mu_i (kk := kkS) (f := Value.int .i64) und_MSI und_strK hm a _ fun o' τ' hp hm' => ?_
    rw [wS (by omega)]
    have := ih (d ++ [a]) (cntF m a) τ' (by rw [hd]; simp) (hx.putF hp n1 hnb) hm' (cntF_ok hc a) he
    rw [List.length_append] at this
    exact this
  exact key L [] [] σ2 rfl (h'.since g1) (m1.gr h'.1) (cntL_ok []) rfl
theorem tr_one (fr : List UInt8) (x : UInt8) : ∀ l : List UInt8, trP fr [x] false l = l.map fun c => if fr.contains c then x else c := by
 intro l
 induction l with
 | nil => rfl
 | cons c r ih =>
  unfold trP at ih ⊢
  rw [List.flatMap_cons, ih, List.map_cons]
  cases h : fr.contains c with
  | true => rw [if_pos rfl, if_neg (by decide), if_pos rfl, show min ([x].length - 1) (lastN c fr - 1) = 0 by simp]; rfl
  | false => rw [if_neg (by decide), if_neg (by decide)]; rfl
theorem tr_count {fr : List UInt8} {x : UInt8} (h : fr.contains 10 = false) (hx : x ≠ 10) (l : List UInt8) : (l.map fun c => if fr.contains c then x else c).count 10 = l.count 10 := by
 induction l with
 | nil => rfl
 | cons c r ih =>
  rw [List.map_cons, List.count_cons, List.count_cons, ih]
  congr 1
  cases hc : fr.contains c with
  | true =>
   have : c ≠ 10 := fun e => by rw [e, h] at hc; cases hc
   rw [if_pos rfl, if_neg (by simpa using hx), if_neg (by simpa using this)]
  | false => simp
theorem dig_no {n : Nat} (h : n < 1000000) : (10 : UInt8) ∉ bl (fmtP 10 (n : Int)) /\ (32 : UInt8) ∉ bl (fmtP 10 (n : Int)) :=
 ⟨fun hc => absurd ((fmt_smallT h).2.1 10 hc) (by decide), fun hc => absurd ((fmt_smallT h).2.1 32 hc) (by decide)⟩
theorem joined_lenM {M : Nat} {L : List ByteArray} (h : ∀ s ∈ L, s.size <= M) : (joinedP L).length <= (M + 1) * L.length := by
 induction L with
 | nil => exact Nat.zero_le _
 | cons a r ih =>
  have h1 := h a (List.mem_cons_self ..)
  have h2 := ih fun s hs => h s (List.mem_cons_of_mem _ hs)
  rw [joined_cons_len, List.length_cons, Nat.mul_succ]
  have : (bl a).length = a.size := rfl
  omega
def cF (s : ByteArray) : ByteArray := ⟨⟨partP true 49 1 1 (bl s)⟩⟩
theorem cF_eq : ∀ s ∈ words18, (10 : UInt8) ∉ bl (cF s) /\ (cF s).size <= 3 /\ ∀ c ∈ bl (cF s), c.toNat < 128 := by decide +kernel
section
variable {A : AT} {L : List ByteArray}
theorem out_wcl {X : List UInt8} (hz : X.length <= 100000) (ha : ∀ c ∈ X, c.toNat < 128) : OutIs A ⟨⟨X⟩⟩ ⟨⟨[119, 99, 124, 45, 108]⟩⟩ (· = fmtP 10 (X.count 10 : Nat) ++ ⟨⟨[10]⟩⟩) := by
 refine (out_wc (A := A) (inn := ⟨⟨X⟩⟩) (got := [108]) (args := [⟨⟨[45, 108]⟩⟩]) (by rfl) (by decide) (by decide) (by decide) (by rfl) hz ha).imp fun o h => ?_
 rw [h]
 refine bytes_ext ?_
 have e1 : wcL [108] (bl (⟨⟨X⟩⟩ : ByteArray)) = [fmtP 10 (X.count 10 : Nat)] := rfl
 rw [e1]
 simp [joinB]
def leS (a b : ByteArray) : Prop := 0 <= sortC cmpS false false b a
theorem leS_anti (a b : ByteArray) (h1 : leS a b) (h2 : leS b a) : a = b := by
 unfold leS at h1 h2
 have := (ord_sort _ ord_S false false).anti a b
 exact sortS_zero (once := false) (turned := false) (by omega)
theorem out_sortW (hL : ∀ s ∈ L, s ∈ words18) (hl : L.length <= 80) : OutIs A ⟨⟨joinedP L⟩⟩ ⟨⟨[115, 111, 114, 116]⟩⟩ (fun o => ∃ S, S.Perm L /\ S.Pairwise leS /\ o = ⟨⟨joinedP S⟩⟩) := by
 have hjl := joined_len (L := L) fun s hs => words_len s (hL s hs)
 have hlin : linesP (bl (⟨⟨joinedP L⟩⟩ : ByteArray)) = L := lines_joined fun s hs => words_no10 s (hL s hs)
 refine (out_sortS (A := A) (inn := ⟨⟨joinedP L⟩⟩) (args := []) (got := []) (by rfl) (by decide) (by decide) (by decide) (by rfl) (by decide) (by show (joinedP L).length <= _; omega) (by decide) (by rw [hlin]; omega)).imp fun o ho => ?_
 obtain ⟨out, ⟨S, p, hs, e⟩, rfl⟩ := ho
 rw [hlin] at p
 refine ⟨S, p, hs, ?_⟩
 rw [e]; rfl
theorem uLine_size {S : List ByteArray} {k : ByteArray} (hk : k.size <= 3) (c : Bool) : (uLine c S k).size <= 69 := by
 unfold uLine
 split
 ·rw [ByteArray.size_append, ByteArray.size_append]
  have := fmtP_size 10 (S.count k : Nat)
  show _ + 1 + _ <= _
  omega
 ·omega
theorem out_uniqc {S : List ByteArray} (hs : S.Pairwise leS) (hS : ∀ s ∈ S, s ∈ words18) (hl : S.length <= 80) : OutIs A ⟨⟨joinedP S⟩⟩ ⟨⟨[117, 110, 105, 113, 124, 45, 99]⟩⟩ (· = ⟨⟨joinedP ((oncesP S).map (uLine true S))⟩⟩) /\
 OutIs A ⟨⟨joinedP S⟩⟩ ⟨⟨[117, 110, 105, 113, 124, 45, 100]⟩⟩ (· = ⟨⟨joinedP ((oncesP S).filter fun k => Nat.ble 2 (S.count k))⟩⟩) /\ (oncesP S).length <= S.length := by
 have hjl := joined_len (L := S) fun s h => words_len s (hS s h)
 have hlin : linesP (bl (⟨⟨joinedP S⟩⟩ : ByteArray)) = S := lines_joined fun s h => words_no10 s (hS s h)
 obtain ⟨o1, o2, o3⟩ := onces_ok leS_anti hs
 have hon : (oncesP S).length <= S.length := o1.length_le_of_subset fun k hk => (o2 k).1 hk
 have hsz : (⟨⟨joinedP S⟩⟩ : ByteArray).size <= 100000 := by show (joinedP S).length <= _; omega
 have hlz : ∀ a ∈ linesP (bl (⟨⟨joinedP S⟩⟩ : ByteArray)), a.size <= 1000000000 := by rw [hlin]; intro a ha; exact Nat.le_trans (words_len a (hS a ha)) (by decide)
 have e1 : uniqP true false (S.length + 1) S = (oncesP S).map (uLine true S) := by
  rw [o3, List.filter_eq_self.2 fun k _ => by simp]
 have e2 : uniqP false true (S.length + 1) S = (oncesP S).filter fun k => Nat.ble 2 (S.count k) := by
  rw [o3]
  have : (fun k => Nat.ble 2 (S.count k) || !true) = fun k => Nat.ble 2 (S.count k) := by funext k; simp
  rw [this, show uLine false S = id from by funext k; rfl, List.map_id]
 have hw : ∀ k ∈ oncesP S, k.size <= 3 := fun k hk => words_len k (hS k ((o2 k).1 hk))
 have j1 : (joinedP ((oncesP S).map (uLine true S))).length <= 70 * (oncesP S).length := by
  have := joined_lenM (M := 69) (L := (oncesP S).map (uLine true S)) fun s h => by
   obtain ⟨k, hk, rfl⟩ := List.mem_map.1 h
   exact uLine_size (hw k hk) true
  rw [List.length_map] at this
  exact this
 have j2 : (joinedP ((oncesP S).filter fun k => Nat.ble 2 (S.count k))).length <= 4 * ((oncesP S).filter fun k => Nat.ble 2 (S.count k)).length := joined_len fun s h => hw s (List.mem_filter.1 h).1
 have j3 : ((oncesP S).filter fun k => Nat.ble 2 (S.count k)).length <= (oncesP S).length := List.length_filter_le _ _
 refine ⟨?_, ?_, hon⟩
 ·refine (out_uniq (A := A) (inn := ⟨⟨joinedP S⟩⟩) (args := [⟨⟨[45, 99]⟩⟩]) (got := [99]) (by rfl) (by decide) (by decide) (by decide) (by rfl) hsz ?_ hlz).imp fun o h => ?_
  ·rw [hlin]; show (joinedP (uniqP true false _ S)).length <= _; rw [e1]; omega
  ·rw [h, hlin]; show (⟨⟨joinedP (uniqP true false _ S)⟩⟩ : ByteArray) = _; rw [e1]
 ·refine (out_uniq (A := A) (inn := ⟨⟨joinedP S⟩⟩) (args := [⟨⟨[45, 100]⟩⟩]) (got := [100]) (by rfl) (by decide) (by decide) (by decide) (by rfl) hsz ?_ hlz).imp fun o h => ?_
  ·rw [hlin]; show (joinedP (uniqP false true _ S)).length <= _; rw [e2]; omega
  ·rw [h, hlin]; show (⟨⟨joinedP (uniqP false true _ S)⟩⟩ : ByteArray) = _; rw [e2]
theorem out_trac (hL : ∀ s ∈ L, s ∈ words18) (hl : L.length <= 80) : OutIs A ⟨⟨joinedP L⟩⟩ ⟨⟨[116, 114, 124, 97, 45, 99, 124, 120]⟩⟩ (· = ⟨⟨(joinedP L).map fun c => if [97, 98, 99].contains c then 120 else c⟩⟩) := by
 have hjl := joined_len (L := L) fun s hs => words_len s (hL s hs)
 refine (out_tr (A := A) (inn := ⟨⟨joinedP L⟩⟩) (args := [⟨⟨[97, 45, 99]⟩⟩, ⟨⟨[120]⟩⟩]) (got := []) (s1 := [97, 45, 99]) (s2 := [120]) (fr := [97, 98, 99]) (tq := [120]) (by rfl) (by decide) (by decide) (by decide) (by rfl) (by show (joinedP L).length <= _; omega) (.inr ⟨rfl, rfl⟩) (by rfl) (by rfl) (by decide) (by decide) (by decide) (by decide) (by decide) (by decide) (by decide) (by decide)).imp fun o h => ?_
 rw [h]
 exact congrArg (fun l => (⟨⟨l⟩⟩ : ByteArray)) (tr_one _ _ _)
theorem out_trab (hL : ∀ s ∈ L, s ∈ words18) (hl : L.length <= 80) : OutIs A ⟨⟨joinedP L⟩⟩ ⟨⟨[116, 114, 124, 97, 124, 98]⟩⟩ (fun o => o.size = (joinedP L).length) := by
 have hjl := joined_len (L := L) fun s hs => words_len s (hL s hs)
 refine (out_tr (A := A) (inn := ⟨⟨joinedP L⟩⟩) (args := [⟨⟨[97]⟩⟩, ⟨⟨[98]⟩⟩]) (got := []) (s1 := [97]) (s2 := [98]) (fr := [97]) (tq := [98]) (by rfl) (by decide) (by decide) (by decide) (by rfl) (by show (joinedP L).length <= _; omega) (.inr ⟨rfl, rfl⟩) (by rfl) (by rfl) (by decide) (by decide) (by decide) (by decide) (by decide) (by decide) (by decide) (by decide)).imp fun o h => ?_
 rw [h]
 show (trP [97] [98] false (joinedP L)).length = _
 rw [tr_one, List.length_map]
theorem out_cutf (hL : ∀ s ∈ L, s ∈ words18) (hl : L.length <= 80) : OutIs A ⟨⟨joinedP L⟩⟩ ⟨⟨[99, 117, 116, 124, 45, 100, 124, 49, 124, 45, 102, 124, 49]⟩⟩ (· = ⟨⟨joinedP (L.map cF)⟩⟩) := by
 have hjl := joined_len (L := L) fun s hs => words_len s (hL s hs)
 have hlin : linesP (bl (⟨⟨joinedP L⟩⟩ : ByteArray)) = L := lines_joined fun s hs => words_no10 s (hL s hs)
 have hlz : ∀ a ∈ linesP (bl (⟨⟨joinedP L⟩⟩ : ByteArray)), a.size <= 1000000 := by rw [hlin]; intro a ha; exact Nat.le_trans (words_len a (hL a ha)) (by decide)
 have hc : cutP true 49 1 1 L = L.map cF := rfl
 have hj : (joinedP (L.map cF)).length <= 4 * (L.map cF).length := joined_len fun s h => by
  obtain ⟨a, ha, rfl⟩ := List.mem_map.1 h
  exact (cF_eq a (hL a ha)).2.1
 rw [List.length_map] at hj
 refine (out_cut (A := A) (inn := ⟨⟨joinedP L⟩⟩) (args := [⟨⟨[45, 100]⟩⟩, ⟨⟨[49]⟩⟩, ⟨⟨[45, 102]⟩⟩, ⟨⟨[49]⟩⟩]) (isF := true) (c := 49) (w := [49]) (x := 1) (y := 1) (m := [(100, ⟨⟨[49]⟩⟩), (102, ⟨⟨[49]⟩⟩)]) (by rfl) (by decide) (by decide) (by rfl) (by show (joinedP L).length <= _; omega) (.inl ⟨rfl, rfl, rfl, rfl⟩) (by decide) (by decide) (sE_ne (by decide)) (.inr ⟨by decide, 1, by rfl, rfl⟩) (.inr ⟨by decide, 1, by rfl, rfl⟩) (by decide) (by decide) (by decide) hlz ?_).imp fun o h => ?_
 ·rw [hlin, hc]; omega
 ·rw [h, hlin, hc]
end
theorem nb_iff {a b : Nat} : Nat.ble a b = true ↔ a <= b := by rw [Nat.ble_eq]
theorem onces_filter_count {S : List ByteArray} (hn : (oncesP S).Nodup) {k : ByteArray} (hk : k ∈ oncesP S) : ((oncesP S).filter fun k => Nat.ble 2 (S.count k)).count k = if 2 <= S.count k then 1 else 0 := by
 split
 ·rename_i h
  have hm : k ∈ (oncesP S).filter fun k => Nat.ble 2 (S.count k) := List.mem_filter.2 ⟨hk, nb_iff.2 h⟩
  have h1 := List.count_pos_iff.2 hm
  have h2 := List.nodup_iff_count.1 (hn.filter fun k => Nat.ble 2 (S.count k)) k
  omega
 ·rename_i h
  exact List.count_eq_zero.2 fun hm => h (nb_iff.1 (List.mem_filter.1 hm).2)
theorem uLine_inj {S : List ByteArray} (hl : S.length <= 80) {a b : ByteArray} (h : uLine true S a = uLine true S b) : a = b := by
 have e : ∀ k : ByteArray, bl (uLine true S k) = bl (fmtP 10 ((S.count k : Nat) : Int)) ++ 32 :: bl k := by
  intro k
  show bl ((fmtP 10 ((S.count k : Nat) : Int) ++ ⟨⟨[32]⟩⟩) ++ k) = _
  unfold bl
  simp
 have h1 := congrArg bl h
 rw [e, e] at h1
 have ha : S.count a <= S.length := List.count_le_length
 have hb : S.count b <= S.length := List.count_le_length
 have := (split32 (dig_no (n := S.count a) (by omega)).2 (dig_no (n := S.count b) (by omega)).2 h1).2
 exact bytes_ext this
theorem enc_split {m : List (ByteArray × Int)} {pre post : List (Value × Value)} {k v : Value} (h : encL kkS (Value.int .i64) m = pre ++ (k, v) :: post) : ∃ m1 s n m2, m = m1 ++ (s, n) :: m2 /\ k = .string s /\ v = .int .i64 n /\ pre ++ post = encL kkS (Value.int .i64) (m1 ++ m2) := by
 unfold encL at h
 obtain ⟨m1, m2', rfl, h1, h2⟩ := List.map_eq_append_iff.1 h
 obtain ⟨p, m2, rfl, h3, h4⟩ := List.map_eq_cons_iff.1 h2
 obtain ⟨s, n⟩ := p
 injection h3 with e1 e2
 refine ⟨m1, s, n, m2, rfl, e1.symm, e2.symm, ?_⟩
 unfold encL
 rw [List.map_append, h1, h4]
theorem s_TextCounts {l : List UInt8} {x : Sl} {σ : H} (hI : ItoaT σ) (hx : RowsAt σ 1 (brows l) x) {K : KH} (hK : ∀ σ', Gr σ σ' -> K (.bool true) σ') : callW Tryz.prog 5 [.slice x.base x.len x.cap] K σ := by
 refine c5 x ?_
 unfold g5
 refine call_i (s_works18 hI fun σ1 g1 => app_B (br_f rfl ?_))
 refine call_i (s_empty (hI.gr g1) fun bf σ2 g2 hF2 => app_P (br_f rfl ?_))
 refine call_i (s_joined18 ((hx.gr g1).gr g2) fun y σ3 hy => app_of rfl ?_)
 have hL : ∀ s ∈ all18 l, s ∈ words18 := fun s hs => all_mem hs
 have hl := all_len l
 generalize all18 l = L at hy hL hl
 have g3 := hy.1
 clear hy
 have hF3 := hF2.gr g3
 have G3 : Gr σ σ3 := (g1.trans g2).trans g3
 have hjl := joined_len (L := L) fun s hs => words_len s (hL s hs)
 refine call_i (s_counts (fun s hs => words_no10 s (hL s hs)) (by omega) fun bm σ4 g4 n4 hm4 => app_M ?_)
 have hF4 := hF3.gr g4
 refine call_i (out_sortW hL hl σ4 bf _ hF4 fun σ5 o5 ho5 g5 => app_S ?_)
 obtain ⟨S, hp, hs, rfl⟩ := ho5
 have hSl : S.length <= 80 := by rw [hp.length_eq]; exact hl
 have hSw : ∀ s ∈ S, s ∈ words18 := fun s h => hL s (hp.mem_iff.1 h)
 obtain ⟨u1, u2, hon⟩ := out_uniqc (A := newT 9 900) hs hSw hSl
 obtain ⟨o1, o2, _⟩ := onces_ok leS_anti hs
 have hcnt : ∀ k, S.count k = L.count k := fun k => hp.count_eq k
 have hw : ∀ k ∈ oncesP S, k ∈ words18 := fun k hk => hSw k ((o2 k).1 hk)
 have hcl : ∀ k, S.count k <= 80 := fun k => Nat.le_trans List.count_le_length hSl
 have hF5 := hF4.gr g5
 refine call_i (u1 σ5 bf _ hF5 fun σ6 o6 h6 g6 => app_S ?_)
 subst h6
 have j1 : (joinedP ((oncesP S).map (uLine true S))).length <= 70 * (oncesP S).length := by
  have := joined_lenM (M := 69) (L := (oncesP S).map (uLine true S)) fun s h => by
   obtain ⟨k, hk, rfl⟩ := List.mem_map.1 h
   exact uLine_size (words_len k (hw k hk)) true
  rw [List.length_map] at this
  exact this
 have hC10 : ∀ s ∈ (oncesP S).map (uLine true S), (10 : UInt8) ∉ bl s := by
  intro s h
  obtain ⟨k, hk, rfl⟩ := List.mem_map.1 h
  have e : bl (uLine true S k) = bl (fmtP 10 ((S.count k : Nat) : Int)) ++ 32 :: bl k := by
   show bl ((fmtP 10 ((S.count k : Nat) : Int) ++ ⟨⟨[32]⟩⟩) ++ k) = _
   unfold bl
   simp
  rw [e]
  intro hc
  rcases List.mem_append.1 hc with hc | hc
  ·exact (dig_no (n := S.count k) (by have := hcl k; omega)).1 hc
  ·rcases List.mem_cons.1 hc with hc | hc
   ·cases hc
   ·exact words_no10 k (hw k hk) hc
 refine call_i (s_counts hC10 (by omega) fun bc σ7 g7 n7 hm7 => app_M ?_)
 have hF7 := (hF5.gr g6).gr g7
 refine call_i (u2 σ7 bf _ hF7 fun σ8 o8 h8 g8 => app_S ?_)
 subst h8
 have j2 : (joinedP ((oncesP S).filter fun k => Nat.ble 2 (S.count k))).length <= 4 * ((oncesP S).filter fun k => Nat.ble 2 (S.count k)).length := joined_len fun s h => words_len s (hw s (List.mem_filter.1 h).1)
 have j3 : ((oncesP S).filter fun k => Nat.ble 2 (S.count k)).length <= (oncesP S).length := List.length_filter_le _ _
 refine call_i (s_counts (fun s h => words_no10 s (hw s (List.mem_filter.1 h).1)) (by omega) fun bd σ9 g9 n9 hm9 => app_M ?_)
 have hF9 := (hF7.gr g8).gr g9
 have hM := (hm4.gr (((g5.trans g6).trans g7).trans g8)).gr g9
 have hC := (hm7.gr g8).gr g9
 have cL := cntL_ok L
 have cC := cntL_ok ((oncesP S).map (uLine true S))
 have cD := cntL_ok ((oncesP S).filter fun k => Nat.ble 2 (S.count k))
 have hCnd : ((oncesP S).map (uLine true S)).Nodup := by
  rw [List.Nodup, List.pairwise_map]
  exact o1.imp fun h e => h (uLine_inj hSl e)
 have lenL : (cntL L).length = (oncesP S).length := by
  have e := ((List.perm_ext_iff_of_nodup cL.nd o1).2 fun k => by rw [cL.mem, o2, hp.mem_iff]).length_eq
  rw [List.length_map] at e; exact e
 have lenC : (cntL ((oncesP S).map (uLine true S))).length = (oncesP S).length := by
  have e := ((List.perm_ext_iff_of_nodup cC.nd hCnd).2 fun k => cC.mem k).length_eq
  rw [List.length_map, List.length_map] at e; exact e
 have lenD : (cntL ((oncesP S).filter fun k => Nat.ble 2 (S.count k))).length = ((cntL L).filter fun p => decide (1 < p.2)).length := by
  have n1 : (((cntL L).filter fun p => decide (1 < p.2)).map (·.1)).Nodup := (List.filter_sublist.map _).nodup cL.nd
  suffices hh : ∀ k, k ∈ (cntL ((oncesP S).filter fun k => Nat.ble 2 (S.count k))).map (·.1) ↔ k ∈ ((cntL L).filter fun p => decide (1 < p.2)).map (·.1) by
   have e := ((List.perm_ext_iff_of_nodup cD.nd n1).2 hh).length_eq
   rw [List.length_map, List.length_map] at e; exact e
  intro k
  rw [cD.mem, List.mem_filter, o2, hp.mem_iff, List.mem_map]
  constructor
  ·rintro ⟨hk, h2⟩
   obtain ⟨p, hpm, rfl⟩ := List.mem_map.1 ((cL.mem k).2 hk)
   refine ⟨p, List.mem_filter.2 ⟨hpm, ?_⟩, rfl⟩
   have := cL.val p.1 p.2 hpm
   have h3 := nb_iff.1 h2
   rw [hcnt] at h3
   rw [decide_eq_true_eq]; omega
  ·rintro ⟨p, hpf, rfl⟩
   obtain ⟨hpm, h2⟩ := List.mem_filter.1 hpf
   have := cL.val p.1 p.2 hpm
   rw [decide_eq_true_eq] at h2
   exact ⟨(cL.mem _).1 (List.mem_map.2 ⟨p, hpm, rfl⟩), nb_iff.2 (by rw [hcnt]; omega)⟩
 refine rd_I (ct_len hC) (rd_I (ct_len hM) (br_f (by rw [lenC, lenL]; simp) ?_))
 refine rng_i und_MSI hM fun r σA gA nA hItA => ?_
 refine loop_i fun R hR => ?_
 have G9 : Gr σ σ9 := ((((((G3.trans g4).trans g5).trans g6).trans g7).trans g8).trans g9)
 have key : ∀ (n : Nat) (rem : List (ByteArray × Int)) (cur : Option (Value × Value)) (tw : Nat) (τ : H), rem.length = n -> Gr σ9 τ -> ItAt τ bm r (encL kkS (Value.int .i64) rem) cur -> (∀ p ∈ rem, p ∈ cntL L) ->
  tw + (rem.filter fun p => decide (1 < p.2)).length = ((cntL L).filter fun p => decide (1 < p.2)).length -> R (some ⟨bf, 0, none⟩) ⟨⟨joinedP L⟩⟩ (some bc) (some bd) ((tw : Nat) : Int) (some ⟨r, 0, none⟩) τ := by
  intro n
  induction n with
  | zero =>
   intro rem cur tw τ hrl hg hIt hin htw
   have : rem = [] := List.length_eq_zero_iff.1 hrl
   subst this
   refine hR _ _ _ _ _ _ _ (nxt_i hIt (fun _ => ?_) fun pre k v post o h => by cases pre <;> cases h)
   have hF := hF9.gr hg
   refine call_i (out_wcl (X := joinedP L) (by omega) (joined_ascii fun s hs => words_ascii s (hL s hs)) τ bf _ hF fun τ1 p1 h1 q1 => app_S ?_)
   subst h1
   rw [count_joined fun s hs => words_no10 s (hL s hs)]
   refine rd_I (ct_len (hm9.gr (hg.trans q1))) (br_t (by rw [lenD]; simp at htw; rw [<- htw]; simp) ?_)
   refine call_i (out_trac hL hl τ1 bf _ (hF.gr q1) fun τ2 p2 h2 q2 => app_S ?_)
   subst h2
   have hmapl : ((joinedP L).map fun c => if [97, 98, 99].contains c then 120 else c).length <= 100000 := by rw [List.length_map]; omega
   refine call_i (out_wcl hmapl (fun c hc => by
    obtain ⟨d, hd, rfl⟩ := List.mem_map.1 hc
    split
    ·decide
    ·exact joined_ascii (fun s hs => words_ascii s (hL s hs)) d hd) τ2 bf _ ((hF.gr q1).gr q2) fun τ3 p3 h3 q3 => app_S ?_)
   subst h3
   rw [tr_count (by decide) (by decide), count_joined fun s hs => words_no10 s (hL s hs)]
   refine br_t (strEq_iff.2 rfl) ?_
   have hF3' := ((hF.gr q1).gr q2).gr q3
   refine call_i (out_cutf hL hl τ3 bf _ hF3' fun τ4 p4 h4 q4 => app_S ?_)
   subst h4
   have jc : (joinedP (L.map cF)).length <= 4 * (L.map cF).length := joined_len fun s h => by
    obtain ⟨a, ha, rfl⟩ := List.mem_map.1 h
    exact (cF_eq a (hL a ha)).2.1
   rw [List.length_map] at jc
   refine call_i (out_wcl (X := joinedP (L.map cF)) (by omega) (joined_ascii fun s h => by
    obtain ⟨a, ha, rfl⟩ := List.mem_map.1 h
    exact (cF_eq a (hL a ha)).2.2) τ4 bf _ (hF3'.gr q4) fun τ5 p5 h5 q5 => app_S ?_)
   subst h5
   rw [count_joined (fun s h => by
    obtain ⟨a, ha, rfl⟩ := List.mem_map.1 h
    exact (cF_eq a (hL a ha)).1), List.length_map]
   refine br_t (strEq_iff.2 rfl) ?_
   refine call_i (out_trab hL hl τ5 bf _ ((hF3'.gr q4).gr q5) fun τ6 p6 h6 q6 => app_S ?_)
   have he : ((((p6.size : Nat) : Int) : Int) == (((⟨⟨joinedP L⟩⟩ : ByteArray).size : Nat) : Int)) = true := by
    rw [h6]; exact beq_self_eq_true _
   rw [he]
   exact hK τ6 ((((((((G9.trans hg).trans q1).trans q2).trans q3).trans q4).trans q5).trans q6))
  | succ n ih =>
   intro rem cur tw τ hrl hg hIt hin htw
   refine hR _ _ _ _ _ _ _ (nxt_i hIt (fun h => ?_) fun pre k v post o hrem hIt' => ?_)
   ·cases rem with
    | nil => cases hrl
    | cons a b => cases h
   obtain ⟨m1, s, c, m2, rfl, rfl, rfl, hpp⟩ := enc_split hrem
   rw [hpp] at hIt'
   have hmem : (s, c) ∈ cntL L := hin _ (by simp)
   have hc := cL.val s c hmem
   have hsL : s ∈ L := (cL.mem s).1 (List.mem_map.2 ⟨_, hmem, rfl⟩)
   have hsO : s ∈ oncesP S := (o2 s).2 (hp.mem_iff.2 hsL)
   have hpos := List.count_pos_iff.2 hsL
   have hc80 := hcl s
   rw [hcnt] at hc80
   have hg' : Gr σ9 (τ.put r o) := hg.putF (by unfold Put; rfl) nA
   refine ent_i hIt' (app_of rfl ?_)
   subst hc
   have hlen' : (m1 ++ m2).length = n := by simp at hrl ⊢; omega
   have hin' : ∀ p ∈ m1 ++ m2, p ∈ cntL L := fun p h => hin p (by
    rcases List.mem_append.1 h with h | h
    ·exact List.mem_append_left _ h
    ·exact List.mem_append_right _ (List.mem_cons_of_mem _ h))
   have hfil : ((m1 ++ (s, ((L.count s : Nat) : Int)) :: m2).filter fun p => decide (1 < p.2)).length = ((m1 ++ m2).filter fun p => decide (1 < p.2)).length + if 1 < L.count s then 1 else 0 := by
    rw [List.filter_append, List.filter_append, List.filter_cons]
    by_cases h : 1 < L.count s
    ·rw [if_pos (by rw [decide_eq_true_eq]; omega), if_pos h]; simp; omega
    ·rw [if_neg (by rw [decide_eq_true_eq]; omega), if_neg h]; simp
   rw [hfil] at htw
   refine j_i (fun j => ∀ τ', Gr (τ.put r o) τ' -> j (some ⟨bf, 0, none⟩) ⟨⟨joinedP L⟩⟩ (some bc) (some bd) ((tw : Nat) : Int) ((L.count s : Nat) : Int) (some ⟨r, 0, none⟩) false τ') (fun τ' q => ?_) fun j hj => ?_
   ·refine br_f rfl ?_
    have hIt2 := hIt'.gr q
    by_cases h : 1 < L.count s
    ·rw [if_pos h] at htw
     refine br_t (by rw [decide_eq_true_eq]; omega) ?_
     rw [wS (by have := (List.length_filter_le (fun p : ByteArray × Int => decide (1 < p.2)) (cntL L)); rw [lenL] at this; omega)]
     exact ih _ _ (tw + 1) τ' hlen' (hg'.trans q) hIt2 hin' (by omega)
    ·rw [if_neg h] at htw
     refine br_f (by rw [decide_eq_false_iff_not]; omega) ?_
     exact ih _ _ tw τ' hlen' (hg'.trans q) hIt2 hin' (by omega)
   refine call_i (s_digits (L.count s) (τ.put r o) _ (by omega) fun τ1 q1 => app_S ?_)
   have fz := fmtP_size 10 ((L.count s : Nat) : Int)
   have hss := words_len s (hL s hsL)
   refine if_i (by show _ + 1 <= _; omega) (if_i (by rw [ByteArray.size_append]; show _ + 1 + _ <= _; omega) ?_)
   refine rd_I (ct_rd (hC.gr (hg'.trans q1)) _) (br_f ?_ (rd_I (ct_rd (hm9.gr (hg'.trans q1)) s) ?_))
   ·rw [cC.lk]
    have e : ((fmtP 10 ((L.count s : Nat) : Int) ++ ⟨⟨[32]⟩⟩) ++ s : ByteArray) = uLine true S s := by
     unfold uLine; rw [if_pos rfl, hcnt]
    rw [e]
    have hm : uLine true S s ∈ (oncesP S).map (uLine true S) := List.mem_map.2 ⟨s, hsO, rfl⟩
    have h1 := List.count_pos_iff.2 hm
    have h2 := List.nodup_iff_count.1 hCnd (uLine true S s)
    rw [show ((oncesP S).map (uLine true S)).count (uLine true S s) = 1 by omega]; rfl
   ·rw [cD.lk, onces_filter_count o1 hsO, hcnt]
    have e : (!((((if 2 <= L.count s then 1 else 0 : Nat) : Int) == 1) == decide (((L.count s : Nat) : Int) > 1))) = false := by
     by_cases h : 2 <= L.count s
     ·rw [if_pos h, decide_eq_true (by omega)]; rfl
     ·rw [if_neg h, decide_eq_false (by omega)]; rfl
    rw [e]
    exact hj τ1 q1
 exact key _ (cntL L) none 0 σA rfl gA hItA (fun p h => h) (by omega)
end Go.Proofs.YtpfkfphjigcdeaaGreatDoor

namespace Go.Proofs
open Go.Shelf
def Tryz.laysM171_ren : Go.Shelf.Ren := ⟨fun | 171 => 41 | 243 => 74 | 246 => 98 | 283 => 123 | 284 => 124 | 285 => 125 | 286 => 126 | 129 => 148 | 317 => 147 | 318 => 149 | 319 => 150 | 320 => 151 | 337 => 163 | 338 => 164 | n => n, fun | 3 => 3 | 9 => 9 | 2 => 2 | 4 => 4 | 171 => 182 | 0 => 0 | 53 => 183 | 37 => 22 | 5 => 5 | 173 => 186 | 212 => 204 | 51 => 170 | 20 => 20 | 213 => 205 | 46 => 146 | 232 => 230 | 233 => 231 | n => n, fun | 17 => 4 | 18 => 7 | 19 => 8 | n => n⟩
theorem Tryz.laysM171 : Go.Proofs.LaysM.n171 Tryz.prog Tryz.laysM171_ren := {
 mixed := by kernel_rfl
 f129 := Tryz.func148.trans (congrArg some (by kernel_rfl))
 f171 := Tryz.func41.trans (congrArg some (by kernel_rfl))
 f243 := Tryz.func74.trans (congrArg some (by kernel_rfl))
 f246 := Tryz.func98.trans (congrArg some (by kernel_rfl))
 f283 := Tryz.func123.trans (congrArg some (by kernel_rfl))
 f284 := Tryz.func124.trans (congrArg some (by kernel_rfl))
 f285 := Tryz.func125.trans (congrArg some (by kernel_rfl))
 f286 := Tryz.func126.trans (congrArg some (by kernel_rfl))
 f317 := Tryz.func147.trans (congrArg some (by kernel_rfl))
 f318 := Tryz.func149.trans (congrArg some (by kernel_rfl))
 f319 := Tryz.func150.trans (congrArg some (by kernel_rfl))
 f320 := Tryz.func151.trans (congrArg some (by kernel_rfl))
 f337 := Tryz.func163.trans (congrArg some (by kernel_rfl))
 f338 := Tryz.func164.trans (congrArg some (by kernel_rfl))
 t0 := Tryz.underlying0
 a0 := Tryz.isAgg0
 z0 := Tryz.sizeOf0
 v0 := Tryz.zeroValue0
 t2 := Tryz.underlying2
 a2 := Tryz.isAgg2
 z2 := Tryz.sizeOf2
 v2 := Tryz.zeroValue2
 t3 := Tryz.underlying3
 a3 := Tryz.isAgg3
 z3 := Tryz.sizeOf3
 v3 := Tryz.zeroValue3
 t4 := Tryz.underlying4
 a4 := Tryz.isAgg4
 z4 := Tryz.sizeOf4
 v4 := Tryz.zeroValue4
 t5 := Tryz.underlying5
 a5 := Tryz.isAgg5
 z5 := Tryz.sizeOf5
 v5 := Tryz.zeroValue5
 t9 := Tryz.underlying9
 a9 := Tryz.isAgg9
 z9 := Tryz.sizeOf9
 v9 := Tryz.zeroValue9
 t20 := Tryz.underlying20
 a20 := Tryz.isAgg20
 z20 := Tryz.sizeOf20
 v20 := Tryz.zeroValue20
 t37 := Tryz.underlying22
 a37 := Tryz.isAgg22
 z37 := Tryz.sizeOf22
 v37 := Tryz.zeroValue22
 t46 := Tryz.underlying146
 a46 := Tryz.isAgg146
 z46 := Tryz.sizeOf146
 v46 := Tryz.zeroValue146
 t51 := Tryz.underlying170
 a51 := Tryz.isAgg170
 z51 := Tryz.sizeOf170
 v51 := Tryz.zeroValue170
 t53 := Tryz.underlying183
 a53 := Tryz.isAgg183
 z53 := Tryz.sizeOf183
 v53 := Tryz.zeroValue183
 t171 := Tryz.underlying182
 a171 := Tryz.isAgg182
 z171 := Tryz.sizeOf182
 v171 := Tryz.zeroValue182
 t173 := Tryz.underlying186
 a173 := Tryz.isAgg186
 z173 := Tryz.sizeOf186
 v173 := Tryz.zeroValue186
 t212 := Tryz.underlying204
 a212 := Tryz.isAgg204
 z212 := Tryz.sizeOf204
 v212 := Tryz.zeroValue204
 t213 := Tryz.underlying205
 a213 := Tryz.isAgg205
 z213 := Tryz.sizeOf205
 t232 := Tryz.underlying230
 a232 := Tryz.isAgg230
 z232 := Tryz.sizeOf230
 v232 := Tryz.zeroValue230
 t233 := Tryz.underlying231
 a233 := Tryz.isAgg231
 z233 := Tryz.sizeOf231
 v233 := Tryz.zeroValue231
 g17 := by kernel_rfl
 g18 := by kernel_rfl
 g19 := by kernel_rfl
 i0 := by kernel_rfl
 i2 := by kernel_rfl
 i3 := by kernel_rfl
 i4 := by kernel_rfl
 i5 := by kernel_rfl
 i9 := by kernel_rfl
 i20 := by kernel_rfl
 i37 := by kernel_rfl
 i46 := by kernel_rfl
 i51 := by kernel_rfl
 i53 := by kernel_rfl
 i171 := by kernel_rfl
 i173 := by kernel_rfl
 i212 := by kernel_rfl
 i232 := by kernel_rfl
 i233 := by kernel_rfl
 m17 := by kernel_rfl
 m18 := by kernel_rfl
 m19 := by kernel_rfl }
end Go.Proofs

set_option maxRecDepth 100000
namespace Go.Proofs.YtpfkfphjigcdeaaGreatDoor
open Go Go.HL Go.Wk
theorem below_gr (w : World) (k : Nat) (os : Array Obj) : RowKit.Below w.heap.size w (Sort.grow (w.drewN k) os) := ⟨rfl, rfl, rfl, by show w.heap.size <= (w.heap ++ os).size; simp, fun j hj => by show (w.heap ++ os)[j]? = _; exact Array.getElem?_append_left hj⟩
theorem itoaT_of {σ : H} (hp : TabC σ 4 .u64 Lib.pow10Tab) : ItoaT σ := by
 intro τ n K hg hn hK w hw
 have hp := hp.gr hg
 refine callsIn_wide.2 ((Any.strconv_Itoa Tryz.laysM171 n (by omega) (by omega) w (hp.is hw (by kernel_rfl))).mono ?_)
 rintro en w' ⟨rfl, k, os, hb⟩
 refine ⟨_, rfl, τ, ext_below hw (hb ▸ below_gr w k os), ?_⟩
 rw [<- itoa_fmt (by omega) (by omega)] at hK; exact hK
attribute [local irreducible] ptrW ifW brW andW rdT alW letJ stW muW biW vaW imW callT cvalT app callW invW callVW sizeT oW nilF oneK loopW rfW funW begW roundK exW idxW Gr Put
theorem tab_of {P : Program} {W : World} {name : String} {k : IntKind} {zs : List Int} {rest : List (String × DataW Unit)} {ps : List MemPlace} {g : Nat} {t e : TypeId} {n : Nat}
 (hg : P.globalNamed name = some g) (hty : (P.globals[g]?).map (·.type) = some t) (ht : P.underlying t = some (.array n e)) (he : P.underlying e = some (.int k)) (hce : P.cellsOf e = 1) (hct : P.cellsOf t = n)
 (h : DataW.LaidVars P W ((name, Lib.tabData k zs) :: rest) ps) : TabC (whole W) g k zs /\ ∃ q, DataW.LaidVars P W rest q := by
 obtain ⟨g', t', cs, fuel, p, q, hg', ht', hvar, hd, hr, _⟩ := h
 obtain rfl := Option.some.inj (hg.symm.trans hg')
 obtain rfl := Option.some.inj (hty.symm.trans ht')
 refine ⟨TabC.of ?_ hg, q, hr⟩
 unfold Lib.TabIs
 rw [hvar, <- Lib.cells_of_tab ht he hce hct hd]
theorem skip_of {P : Program} {W : World} {x : String × DataW Unit} {rest : List (String × DataW Unit)} {ps : List MemPlace} (h : DataW.LaidVars P W (x :: rest) ps) : ∃ q, DataW.LaidVars P W rest q := by
 obtain ⟨_, _, _, _, _, q, _, _, _, _, hr, _⟩ := h
 exact ⟨q, hr⟩
theorem tabs_of {W : World} {a b c d e f g h : String × DataW Unit} {rest : List (String × DataW Unit)} (hl : laidMet Tryz.prog (a :: b :: c :: d :: e :: f :: g :: h :: ("internal/strconv.uint64pow10", Lib.tabData .u64 Lib.pow10Tab) :: rest) W) : ItoaT (whole W) := by
 obtain ⟨ps, hl, _⟩ := hl
 obtain ⟨_, hl⟩ := skip_of hl
 obtain ⟨_, hl⟩ := skip_of hl
 obtain ⟨_, hl⟩ := skip_of hl
 obtain ⟨_, hl⟩ := skip_of hl
 obtain ⟨_, hl⟩ := skip_of hl
 obtain ⟨_, hl⟩ := skip_of hl
 obtain ⟨_, hl⟩ := skip_of hl
 obtain ⟨_, hl⟩ := skip_of hl
 obtain ⟨t2, _⟩ := tab_of (t := 204) (e := 183) (n := 20) (by kernel_rfl) (by kernel_rfl) (by kernel_rfl) (by kernel_rfl) (by kernel_rfl) (by kernel_rfl) hl
 exact itoaT_of t2
theorem brows_ns : ∀ {ns : List Int}, (∀ n ∈ ns, (0 : Int) <= n /\ n <= 255) -> ∃ l : List UInt8, ns.map (fun n => [Value.int .u8 n]) = brows l
 | [], _ => ⟨[], rfl⟩
 | n :: ns, h => by
  obtain ⟨l, hl⟩ := brows_ns fun m hm => h m (List.mem_cons_of_mem _ hm)
  have := h n (List.mem_cons_self ..)
  refine ⟨UInt8.ofNat n.toNat :: l, ?_⟩
  have e : (((UInt8.ofNat n.toNat).toNat : Nat) : Int) = n := by
   rw [UInt8.toNat_ofNat']
   omega
  rw [List.map_cons, hl]
  show _ = [Value.int .u8 (((UInt8.ofNat n.toNat).toNat : Nat) : Int)] :: brows l
  rw [e]
end Go.Proofs.YtpfkfphjigcdeaaGreatDoor

set_option maxRecDepth 100000
namespace Go.Proofs.YtpfkfphjigcdeaaGreatDoor
open Go Go.HL Go.Wk
theorem s_TextCounts' {σ : H} (y : Sl) (ns : List Int) (hx : RowsAt σ 1 (ns.map fun n => [.int .u8 n]) y) (hr : ∀ n ∈ ns, (0 : Int) <= n /\ n <= 255) (hI : ItoaT σ) {K : KH} (hK : ∀ σ', Gr σ σ' -> K (.bool true) σ') : callW Tryz.prog 5 [.slice y.base y.len y.cap] K σ := by
 obtain ⟨l, hl⟩ := brows_ns hr
 rw [hl] at hx
 exact s_TextCounts hI hx hK
end Go.Proofs.YtpfkfphjigcdeaaGreatDoor

