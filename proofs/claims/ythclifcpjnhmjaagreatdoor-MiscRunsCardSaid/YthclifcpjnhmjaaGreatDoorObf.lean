/- A part of the proof: MiscRuns holds. -/
import Derived.Test.YthclifcpjnhmjaaGreatDoorObe
import Derived.Shelf.Strings.Search3
import Derived.Shelf.LaysM
import Derived.Ground.NamesProg
import Derived.Test.YthclifcpjnhmjaaGreatDoorProg
import Derived.WalkKit
import Derived.ProofKit
import Derived.OpenShut
import Derived.Deep.DeepHandedRow
import Derived.Shelf.Vars
import GoSem.ClaimJoined
set_option maxRecDepth 100000
namespace Go.Proofs.YthclifcpjnhmjaaGreatDoor
open Go Go.HL Go.Wk
attribute [local irreducible] ptrW ifW brW andW rdT alW letJ stW muW biW vaW imW callT cvalT app callW invW callVW sizeT oW nilF oneK loopW rfW funW begW roundK exW idxW Gr Put
section
variable {σ σ' : H} {b : Nat} {A : AT} {M : RfM} {N : Nat}
theorem s_rfThere (hI:Wk.Inv A) (hB:Bd N A) (hN:N <= 1000000000000) (hM:RfIn σ b A M) (cwd path:ByteArray) (fo:Bool) {K : KH}
 (hK:∀ σ',Gr σ σ' -> K (.tuple ⟨[.int .i64 (if (A.with_ cwd path fo).1 = 0 then (A.with_ cwd path fo).2.1 - 1 else 0),.int .i64 (A.with_ cwd path fo).1]⟩) σ') :
 callW Tryz.prog 83 [.pointer (some ⟨b,0,none⟩),.string cwd,.string path,.bool fo] K σ := by
 refine c83 _ _ _ _ ?_
 unfold g83
 refine call_i (s_rfGo hI hB hN hM cwd path fo ?_)
 intro σ1 g1
 have hpl := fun e => locate_place hI cwd path fo e
 have hmk : A.with_ cwd path fo = (let r := A.locate cwd path fo
  if r.1 ≠ 0 then (r.1,0,IN.z) else if r.2.there = false then (5,0,IN.z) else match A.get r.2.ino with
   | none => (5,0,IN.z)
   | some n => (0,r.2.ino,n.inode)) := rfl
 generalize A.locate cwd path fo = r at hpl hmk ⊢
 obtain ⟨e,p⟩ := r
 simp only at hmk
 unfold plL
 by_cases he : e = 0
 case neg =>
  rw [if_neg he]
  rw [if_pos he] at hmk
  unfold plZ
  (refine app_of rfl ?_;try dsimp only)
  refine al_i ?_;intro b8 σ2 g2 e2 n2
  refine st_i2 e2 sz_RPlace (by rfl) (by rfl) ?_;intro σ3 p3
  have hg3 : Gr σ σ3 := g1.trans (g2.putF p3 n2)
  refine j_i (fun j => j (some ⟨b8,0,none⟩) e false σ3) ?_ (fun j hj => br_f (by simpa using he) hj)
  refine br_f rfl (ptr_i (rd_I (rdC_of p3.same (by rfl)) ?_))
  have := hK σ3 hg3
  rw [hmk] at this
  simp only [he,if_false] at this
  exact this
 subst he
 rw [if_pos rfl]
 rw [if_neg (by decide)] at hmk
 unfold plV
 (refine app_of rfl ?_;try dsimp only)
 refine al_i ?_;intro b8 σ2 g2 e2 n2
 refine st_i2 e2 sz_RPlace (by rfl) (by rfl) ?_;intro σ3 p3
 have hg3 : Gr σ σ3 := g1.trans (g2.putF p3 n2)
 have k8 : σ3 b8 = some (.cells ⟨[.int .i64 (p.dir - 1),.string p.name,.int .i64 (if p.there then p.ino - 1 else -1)]⟩ 125 (0,0)) := p3.same
 have hP : PlOk A p := hpl rfl
 have := hK σ3 hg3
 cases ht : p.there with
 | false =>
  rw [if_pos ht] at hmk
  rw [hmk] at this
  rw [if_neg (by rw [ht];decide)] at k8
  refine j_i (fun j => j (some ⟨b8,0,none⟩) 0 true σ3) (br_t rfl this) ?_
  intro j hj
  refine br_t rfl (rd_I (rdC_of k8 (by rfl)) ?_)
  exact hj
 | true =>
  obtain ⟨n,hn⟩ := PlOk.get hI hP ht
  have hlow := (hI.low _ _ hn).1
  rw [if_neg (by rw [ht];decide),hn] at hmk
  rw [hmk] at this
  rw [if_pos ht] at k8
  refine j_i (fun j => j (some ⟨b8,0,none⟩) 0 false σ3) ?_ (fun j hj => br_t rfl (rd_I (rdC_of k8 (by rfl)) ?_))
  ·exact br_f rfl (ptr_i (rd_I (rdC_of k8 (by rfl)) this))
  ·have : decide (p.ino - 1 < 0) = false := by simp only [decide_eq_false_iff_not];omega
   rw [this];exact hj
theorem s_rfChmod (hI:Wk.Inv A) (hB:Bd N A) (hN:N <= 100000000) {D : Nat -> Prop} (hA:RfAt σ b A D) (cwd path:ByteArray) (mode:Int) {K : KH}
 (hK:∀ σ' D',RfAt σ' b (A.chmodF cwd path mode).2 D' -> Sep σ D σ' D' -> K (.int .i64 (A.chmodF cwd path mode).1) σ') :
 callW Tryz.prog 33 [.pointer (some ⟨b,0,none⟩),.string cwd,.string path,.int .i64 mode] K σ := by
 obtain ⟨M,hM,hD⟩ := hA
 refine c33 _ _ _ _ ?_
 unfold g33
 have same : ∀ (τ:H) (x:Int),A.chmodF cwd path mode = (x,A) -> Gr σ τ -> K (.int .i64 x) τ := by
  intro τ x hx hg
  rw [hx] at hK
  exact hK τ D ⟨M,hM.gr hg,hD⟩ (Sep.gr hg)
 refine j_i (fun j => j (some ⟨b,0,none⟩) cwd path mode (decide (mode < 0 \/ mode > 511)) σ) ?_ ?_
 case refine_2 =>
  intro j hj
  by_cases c1 : mode < 0
  ·refine br_t (by simpa using c1) ?_
   have : decide (mode < 0 \/ mode > 511) = true := by simp [c1]
   rw [this] at hj;exact hj
  ·refine br_f (by simpa using c1) ?_
   have : decide (mode < 0 \/ mode > 511) = decide (mode > 511) := by simp [c1]
   rw [this] at hj;exact hj
 by_cases hm : mode < 0 \/ mode > 511
 ·refine br_t (by simpa using hm) (same σ 2 (by unfold AT.chmodF;rw [if_pos hm]) (Gr.refl _))
 refine br_f (by simpa using hm) (call_i (s_rfThere hI hB (by omega) hM cwd path true ?_))
 intro σ1 g1
 have hmk : A.chmodF cwd path mode = (if (A.with_ cwd path true).1 ≠ 0 then ((A.with_ cwd path true).1,A) else A.chmodR (A.with_ cwd path true).2.1 mode) := by
  unfold AT.chmodF;rw [if_neg hm]
 have hw : (A.with_ cwd path true).1 = 0 -> ∃ n,A.get (A.with_ cwd path true).2.1 = some n := by
  unfold AT.with_
  simp only
  intro h
  split at h
  ·rename_i h2;exact absurd h h2
  ·rename_i h2
   rw [if_neg h2]
   split at h
   ·cases h
   ·rename_i h3
    rw [if_neg h3]
    cases hg : A.get (A.locate cwd path true).2.ino with
    | none => rw [hg] at h;cases h
    | some n => exact ⟨n,hg⟩
 generalize A.with_ cwd path true = w at hmk hw ⊢
 obtain ⟨e,ino,x⟩ := w
 simp only at hmk hw
 by_cases he : e = 0
 case neg =>
  (refine app_of rfl ?_;try dsimp only)
  refine j_i (fun j => j e σ1) ?_ (fun j hj => br_f (by simpa using he) hj)
  exact same σ1 e (by rw [hmk,if_pos he]) g1
 subst he
 obtain ⟨n,hn⟩ := hw rfl
 rw [if_neg (by decide)] at hmk
 rw [if_pos rfl]
 (refine app_of rfl ?_;try dsimp only)
 have hlow := (hI.low _ _ hn).1
 have h11 : ino - 1 + 1 = ino := by omega
 have hM1 := hM.gr g1
 have hc : A.chmodF cwd path mode = (0,A.chmoded ino mode) := by
  rw [hmk];unfold AT.chmodR AT.chmodE
  rw [if_pos (show 0 <= mode /\ mode <= 511 by omega),hn];rfl
 refine j_i (fun j => ∀ τ M',RfIn τ b (A.chmoded ino mode) M' -> (∀ c o,σ c = some o -> M.w c = none -> τ c = some o /\ M'.w c = none) -> j 0 τ) ?_ ?_
 ·intro τ M' h1 h2
  rw [hc] at hK
  exact hK τ (fun c => M'.w c ≠ none) ⟨M',h1,fun c => Iff.rfl⟩ (Sep.of_frame hD h2)
 intro j hj
 refine br_t rfl (rf_at hM1 hI (d := ino - 1) (n := n) (by rw [h11];exact hn) ?_)
 rw [h11]
 refine st_i2 (hM1.nod _ _ hn) sz_int (by rfl) (by rfl) ?_;intro σ4 p4
 have p4' : Put σ1 (M.cb ino) (nodeO { n with mode := mode } (M.ey ino)) σ4 := p4
 have hM4 := hM1.setN (fun i n hn => (hI.low i n hn).1) hn (n' := { n with mode := mode }) (y' := M.ey ino) p4' (show RowsOwn σ1 206 2 (eRow n.ents) _ from hM1.ent _ _ hn) (fun g hg => .inr (hM1.we _ _ g hn hg))
 have hch : A.chmoded ino mode = A.set ino { n with mode := mode } := by unfold AT.chmoded AT.mod;rw [hn]
 rw [hch] at hj
 refine hj σ4 _ hM4 fun c o hc hw => ?_
 have hcb : c ≠ M.cb ino := fun e => by rw [e,hM.wn _ _ hn] at hw;cases hw
 refine ⟨p4'.get hcb (g1.get hc),?_⟩
 show (if (M.ey ino).base = some ⟨c,0,none⟩ then some (ino,true) else M.w c) = none
 rw [if_neg (fun e => by rw [hM.we _ _ c hn e] at hw;cases hw)];exact hw
theorem s_rfSymlink (hI:Wk.Inv A) (hB:Bd N A) (hN:N <= 100000000) {D : Nat -> Prop} (hA:RfAt σ b A D) (cwd target path:ByteArray) (hz:target.size <= 1000000000000) {K : KH}
 (hK:∀ σ' D',RfAt σ' b (A.symlinkF cwd target path).2 D' -> Sep σ D σ' D' -> K (.int .i64 (A.symlinkF cwd target path).1) σ') :
 callW Tryz.prog 35 [.pointer (some ⟨b,0,none⟩),.string cwd,.string target,.string path] K σ := by
 obtain ⟨M,hM,hD⟩ := hA
 refine c35 _ _ _ _ ?_
 unfold g35
 have same : ∀ (τ:H) (x:Int),A.symlinkF cwd target path = (x,A) -> Gr σ τ -> K (.int .i64 x) τ := by
  intro τ x hx hg
  rw [hx] at hK
  exact hK τ D ⟨M,hM.gr hg,hD⟩ (Sep.gr hg)
 have hlen : target.data.toList.length = target.size := (size_list target).symm
 refine loop_i ?_
 intro R hR
 have key : ∀ (c i:Nat),c + i = target.size -> (0:UInt8) ∉ target.data.toList.take i -> R (some ⟨b,0,none⟩) cwd target path (i:Int) σ := by
  intro c
  induction c with
  | succ c ihc =>
   intro i hc hno
   refine hR _ _ _ _ _ _ ?_
   obtain ⟨ch,hch⟩ : ∃ ch,target.data.toList[i]? = some ch := ⟨_,List.getElem?_eq_getElem (by omega)⟩
   refine br_t (by simp only [decide_eq_true_eq];omega) (idx_l (c := ch) (by omega) (by simpa using hch) ?_)
   by_cases hc0 : ch = 0
   ·subst hc0
    have hnul : hasNul target = true := by
     unfold hasNul
     rw [List.any_eq_true]
     exact ⟨0,List.mem_of_getElem? hch,by decide⟩
    refine br_t rfl (same σ 2 ?_ (Gr.refl _))
    unfold AT.symlinkF
    rw [if_pos (by unfold linkOk;rw [hnul];simp)]
   ·refine br_f ?_ ?_
    ·have : ¬ ((ch.toNat : Int) = 0) := by
      intro e;apply hc0
      have : ch.toNat = 0 := by omega
      exact UInt8.toNat_inj.1 this
     simpa using this
    ·rw [wrap_id (x := (i:Int) + 1) (by omega) (by omega)]
     refine ihc (i + 1) (by omega) ?_
     rw [List.take_add_one,hch]
     simp only [Option.toList_some,List.mem_append,List.mem_singleton,not_or]
     exact ⟨hno,fun e => hc0 e.symm⟩
  | zero =>
   intro i hc hno
   have hi : i = target.size := by omega
   have hnul : hasNul target = false := by
    rw [hi,<- hlen,List.take_length] at hno
    unfold hasNul
    rw [List.any_eq_false]
    intro x hx
    simp only [beq_iff_eq]
    rintro rfl;exact hno hx
   refine hR _ _ _ _ _ _ ?_
   refine br_f (by simp only [decide_eq_false_iff_not];omega) ?_
   have hlk : linkOk target = !(decide (target.size < 1 \/ target.size > 255)) := by
    unfold linkOk
    rw [hnul]
    cases h0 : sEq target ⟨⟨[]⟩⟩ with
    | true =>
     have : target.size = 0 := by rw [sEq_iff.1 h0];rfl
     simp [this]
    | false =>
     have : target.size ≠ 0 := by
      intro e
      have : target = ⟨⟨[]⟩⟩ := bytes_ext (List.length_eq_zero_iff.1 (by rw [hlen,e]))
      rw [this] at h0;exact absurd h0 (by decide)
     by_cases h2 : target.size > 255
     ·simp [h2]
     ·have h3 : target.size <= 255 := by omega
      have h4 : ¬ (target.size < 1 \/ target.size > 255) := by omega
      have e1 : decide (target.size <= 255) = true := by simpa using h3
      have e2 : decide (target.size < 1 \/ target.size > 255) = false := by simp only [decide_eq_false_iff_not];exact h4
      rw [e1,e2];rfl
   refine j_i (fun j => j (some ⟨b,0,none⟩) cwd target path (!linkOk target) σ) ?_ ?_
   case refine_2 =>
    intro j hj
    rw [hlk,Bool.not_not] at hj
    by_cases c1 : target.size < 1
    ·refine br_t (by simp only [decide_eq_true_eq];omega) ?_
     have : decide (target.size < 1 \/ target.size > 255) = true := by simp [c1]
     rw [this] at hj;exact hj
    ·refine br_f (by simp only [decide_eq_false_iff_not];omega) ?_
     have : decide (target.size < 1 \/ target.size > 255) = decide ((((target.size:Nat) : Int)) > 255) := by
      by_cases h2 : target.size > 255
      ·have : ((target.size:Nat) : Int) > 255 := by omega
       simp [h2,this]
      ·have h3 : ¬ ((target.size:Nat) : Int) > 255 := by omega
       have h4 : ¬ (target.size < 1 \/ target.size > 255) := by omega
       simp only [h3,h4]
     rw [this] at hj;exact hj
   cases hl : linkOk target with
   | false => exact br_t rfl (same σ 2 (by unfold AT.symlinkF;rw [if_pos hl]) (Gr.refl _))
   | true =>
    refine br_f rfl (call_i (s_rfGo hI hB (by omega) hM cwd path false ?_))
    intro σ1 g1
    have hpl := fun e => locate_place hI cwd path false e
    have hmk : A.symlinkF cwd target path = (let r := A.locate cwd path false
     if r.1 ≠ 0 then (r.1,A) else if r.2.there = true then (6,A) else let m := A.makeR r.2.dir r.2.name 3 511 target;(m.2.1,m.2.2)) := by
     unfold AT.symlinkF AT.freshP
     rw [if_neg (by rw [hl];decide)]
     simp only
     by_cases h : (A.locate cwd path false).1 = 0
     ·simp only [h,ne_eq,not_true_eq_false,if_false]
      cases h2 : (A.locate cwd path false).2.there <;> simp
     ·simp [h]
    generalize A.locate cwd path false = r at hpl hmk ⊢
    obtain ⟨e,p⟩ := r
    simp only at hmk
    unfold plL
    by_cases he : e = 0
    case neg =>
     rw [if_neg he]
     unfold plZ
     (refine app_of rfl ?_;try dsimp only)
     refine al_i ?_;intro b8 σ2 g2 e2 n2
     refine st_i2 e2 sz_RPlace (by rfl) (by rfl) ?_;intro σ3 p3
     refine br_t (by simpa using he) (same σ3 e (by rw [hmk,if_pos he]) (g1.trans (g2.putF p3 n2)))
    subst he
    rw [if_pos rfl]
    rw [if_neg (by decide)] at hmk
    unfold plV
    (refine app_of rfl ?_;try dsimp only)
    refine al_i ?_;intro b8 σ2 g2 e2 n2
    refine st_i2 e2 sz_RPlace (by rfl) (by rfl) ?_;intro σ3 p3
    have hg3 : Gr σ σ3 := g1.trans (g2.putF p3 n2)
    have k8 : σ3 b8 = some (.cells ⟨[.int .i64 (p.dir - 1),.string p.name,.int .i64 (if p.there then p.ino - 1 else -1)]⟩ 125 (0,0)) := p3.same
    have hM3 := hM.gr hg3
    have hP : PlOk A p := hpl rfl
    refine br_f rfl (rd_I (rdC_of k8 (by rfl)) ?_)
    cases ht : p.there with
    | true =>
     obtain ⟨n,hn⟩ := PlOk.get hI hP ht
     have hlow := (hI.low _ _ hn).1
     rw [if_pos ht] at hmk
     exact br_t (by simp;omega) (same σ3 6 hmk hg3)
    | false =>
     rw [if_neg (by rw [ht];decide)] at hmk
     have hdir : A.isDir p.dir := hP.1
     have hd11 : p.dir - 1 + 1 = p.dir := by omega
     refine br_f rfl (rd_G (rdA_of' k8 (by rfl)) ?_)
     (refine app_of rfl ?_;try dsimp only)
     obtain ⟨nm,fd⟩ := hP.named (hP.notThere ht)
     rw [if_neg (by rw [ht];decide)] at fd
     refine call_i (s_rfMade hI hB hN hM3 (d := p.dir - 1) (by rw [hd11];exact hdir) nm (by unfold likeE kindOkE;simp [lk,hl]) (by rw [hd11];exact fd) ?_)
     intro σ' M' hR hfr
     rw [hd11] at hR ⊢
     rw [hmk] at hK
     exact app_I (hK σ' (fun c => M'.w c ≠ none) ⟨M',hR,fun c => Iff.rfl⟩ (Sep.of_frame hD fun c o hc hw => hfr c o (hg3.get hc) hw))
 exact key target.size 0 (by omega) (by simp)
end
section
variable {σ σ' : H} {b : Nat} {A : AT} {M : RfM} {N : Nat}
theorem RfIn.links {X : AT} {i : Int} {n : AN} {k : Int} (h:RfIn σ b (X.set i n) M) (_:(X.set i n).get i = some n) : RfIn σ b (X.set i { n with links := k }) M := by
 have hget : ∀ j m,(X.set i { n with links := k }).get j = some m -> ∃ m0,(X.set i n).get j = some m0 /\ m0.kind = m.kind /\ m0.mode = m.mode /\ m0.data = m.data /\ m0.up = m.up /\ m0.ents = m.ents := by
  intro j m hm
  rw [AT.get_set] at hm ⊢
  by_cases e : j = i
  ·rw [if_pos e] at hm ⊢
   cases hm
   exact ⟨n,rfl,rfl,rfl,rfl,rfl,rfl⟩
  ·rw [if_neg e] at hm ⊢
   exact ⟨m,hm,rfl,rfl,rfl,rfl,rfl⟩
 refine ⟨h.top,?_,?_,?_,h.wb,h.wt,?_,?_,h.has⟩
 ·have : ptrRow (X.set i { n with links := k }) M.cb = ptrRow (X.set i n) M.cb := by
   unfold ptrRow
   apply List.map_congr_left
   intro t _
   rw [AT.get_set,AT.get_set]
   by_cases e : (t:Int) + 1 = i
   ·rw [if_pos e,if_pos e];rfl
   ·rw [if_neg e,if_neg e]
  rw [this];exact h.tab
 ·intro j m hm
  obtain ⟨m0,q1,q2,q3,q4,q5,q6⟩ := hget j m hm
  have := h.nod j m0 q1
  unfold nodeO upR at this ⊢
  rw [q2,q3,q4,q5] at this
  exact this
 ·intro j m hm
  obtain ⟨m0,q1,q2,q3,q4,q5,q6⟩ := hget j m hm
  have := h.ent j m0 q1
  rw [q6] at this
  exact this
 ·intro j m hm
  obtain ⟨m0,q1,_⟩ := hget j m hm
  exact h.wn j m0 q1
 ·intro j m g hm hg
  obtain ⟨m0,q1,_⟩ := hget j m hm
  exact h.we j m0 g q1 hg
end
section
variable {σ σ' : H} {b : Nat} {A : AT} {M : RfM} {N : Nat}
theorem cntR_le (es:List (ByteArray × Int)) (j:Int) : ∀ l : List ByteArray,cntR es j l <= l.length := by
 intro l
 induction l with
 | nil => exact Nat.le_refl _
 | cons k r ih => simp only [cntR,List.length_cons,Wk.one];split <;> omega
theorem sumL_le {f : AN -> Nat} {l : List (Int × AN)} {L : Nat} (h:∀ i n,lk i l = some n -> f n <= L) : ∀ i : Nat,sumL f l i <= i * L := by
 intro i
 induction i with
 | zero => simp [sumL]
 | succ i ih =>
  simp only [sumL]
  rw [Nat.succ_mul]
  cases hl : lk ((i:Int) + 1) l with
  | none => simp;omega
  | some n => have := h _ n hl;simp;omega
theorem s_rfLinks (hM:RfIn σ b A M) (hL:∀ i n,A.get i = some n -> 1 <= i /\ i <= A.last) (hz:A.last <= 100000000) (hnod:∀ i n,A.get i = some n -> (keysL n.ents).Nodup) (hlen:∀ i n,A.get i = some n -> n.ents.length <= 100000000) (ino:Int) {K : KH}
 (hK:K (.int .i64 ((if ino = 0 then 1 else 0) + (sumL (cntE (ino + 1)) A.nodes A.last.toNat : Int))) σ) : callW Tryz.prog 216 [.pointer (some ⟨b,0,none⟩),.int .i64 ino] K σ := by
 refine c216 _ _ ?_
 unfold g216
 have hsum : ∀ i : Nat,sumL (cntE (ino + 1)) A.nodes i <= i * 100000000 := sumL_le fun i n hn => by
  have h1 : cntE (ino + 1) n = cntR n.ents (ino + 1) (keysL n.ents) := (cntR_keys _ (hnod i n hn)).symm
  have h2 := cntR_le n.ents (ino + 1) (keysL n.ents)
  have h3 : (keysL n.ents).length = n.ents.length := by simp [keysL]
  have := hlen i n hn
  omega
 have hxl := hM.len
 refine j_i (fun j => ∀ s : Int,s = (if ino = 0 then 1 else 0) -> j (some ⟨b,0,none⟩) ino s σ) ?_ ?_
 case refine_2 =>
  intro j hj
  by_cases h : ino = 0
  ·exact br_t (by simpa using h) (hj 1 (by rw [if_pos h]))
  ·exact br_f (by simpa using h) (hj 0 (by rw [if_neg h]))
 intro s hs
 rw [<- hs] at hK
 have hs01 : 0 <= s /\ s <= 1 := by rw [hs];split <;> omega
 refine loop_i ?_
 intro R hR
 have key : ∀ (c i:Nat),c + i = A.last.toNat -> R (some ⟨b,0,none⟩) ino (s + (sumL (cntE (ino + 1)) A.nodes i : Int)) (i:Int) σ := by
  intro c
  induction c with
  | zero =>
   intro i hc
   have hi : i = A.last.toNat := by omega
   refine hR _ _ _ _ _ ?_
   refine ptr_i (rd_L (rdC_of hM.top (by rfl)) (br_f (by simp only [decide_eq_false_iff_not];omega) ?_))
   rw [hi];exact hK
  | succ c ih =>
   intro i hc
   have hi8 : i < 100000000 := by omega
   have hsi := hsum i
   have hnext : ∀ t : Int,t = s + (sumL (cntE (ino + 1)) A.nodes (i + 1) : Int) -> R (some ⟨b,0,none⟩) ino t (IntKind.i64.wrap ((i:Int) + 1)) σ := by
    intro t ht
    rw [ht,wrap_id (x := (i:Int) + 1) (by omega) (by omega),show (i:Int) + 1 = ((i + 1 : Nat) : Int) from by omega]
    exact ih (i + 1) (by omega)
   refine hR _ _ _ _ _ ?_
   refine ptr_i (rd_L (rdC_of hM.top (by rfl)) (br_t (by simp only [decide_eq_true_eq];omega) (loop_i ?_)))
   intro R2 hR2
   obtain ⟨gs,os,s1,s2,s3⟩ := hM.ptr (i := i) (by omega)
   cases hget : A.get ((i:Int) + 1) with
   | none =>
    rw [hget] at s3
    have z1 : sumL (cntE (ino + 1)) A.nodes (i + 1) = sumL (cntE (ino + 1)) A.nodes i := by
     simp only [sumL];rw [show lk ((i:Int) + 1) A.nodes = none from hget];rfl
    refine hR2 _ _ _ _ _ _ ?_
    refine j_i (fun j => ∀ v1 v2 v3 v4 v5 v6 v7 v8 v9 v10 v11 v12 v13,j (some ⟨b,0,none⟩) ino (s + (sumL (cntE (ino + 1)) A.nodes i : Int)) (i:Int) 0 v1 v2 v3 v4 v5 v6 v7 v8 v9 v10 v11 v12 v13 false σ) ?_ ?_
    ·intro v1 v2 v3 v4 v5 v6 v7 v8 v9 v10 v11 v12 v13
     exact br_f rfl (hnext _ (by rw [z1]))
    ·intro j hj
     refine ptr_i (rd_L (rdC_of hM.top (by rfl)) ?_)
     rw [s1]
     refine ptr_i (if_i s2 (rd_P s3 (br_f rfl ?_)))
     exact hj _ _ _ _ _ _ _ _ _ _ _ _ _
   | some n =>
    rw [hget] at s3
    have he := hM.ent _ _ hget
    have hkl : (sortN (keysL n.ents)).length = n.ents.length := by rw [(sortN_perm _).length_eq];simp [keysL]
    have hyl : (M.ey ((i:Int) + 1)).len = (sortN (keysL n.ents)).length := by have := he.1;simpa [eRow] using this
    have hl8 := hlen _ _ hget
    have z1 : sumL (cntE (ino + 1)) A.nodes (i + 1) = sumL (cntE (ino + 1)) A.nodes i + cntR n.ents (ino + 1) (sortN (keysL n.ents)) := by
     simp only [sumL];rw [show lk ((i:Int) + 1) A.nodes = some n from hget,cntR_sorted _ (hnod _ _ hget)];rfl
    have key2 : ∀ (c2 k:Nat),c2 + k = (sortN (keysL n.ents)).length -> R2 (some ⟨b,0,none⟩) ino (s + (sumL (cntE (ino + 1)) A.nodes i : Int) + (cntR n.ents (ino + 1) ((sortN (keysL n.ents)).take k) : Int)) (i:Int) (k:Int) σ := by
     intro c2
     induction c2 with
     | zero =>
      intro k hk
      refine hR2 _ _ _ _ _ _ ?_
      refine j_i (fun j => ∀ v1 v2 v3 v4 v5 v6 v7 v8 v9 v10 v11 v12 v13,j (some ⟨b,0,none⟩) ino (s + (sumL (cntE (ino + 1)) A.nodes i : Int) + (cntR n.ents (ino + 1) ((sortN (keysL n.ents)).take k) : Int)) (i:Int) (k:Int) v1 v2 v3 v4 v5 v6 v7 v8 v9 v10 v11 v12 v13 false σ) ?_ ?_
      ·intro v1 v2 v3 v4 v5 v6 v7 v8 v9 v10 v11 v12 v13
       refine br_f rfl (hnext _ ?_)
       rw [z1,List.take_of_length_le (by omega)];omega
      ·intro j hj
       refine ptr_i (rd_L (rdC_of hM.top (by rfl)) ?_)
       rw [s1]
       refine ptr_i (if_i s2 (rd_P s3 (br_t rfl ?_)))
       refine ptr_i (rd_L (rdC_of hM.top (by rfl)) ?_)
       rw [s1]
       refine ptr_i (if_i s2 (rd_P s3 (ptr_i (rd_L (rdC_of (hM.nod _ _ hget) (by rfl)) ?_))))
       have hf : decide ((k:Int) < (((M.ey ((i:Int) + 1)).len : Nat) : Int)) = false := by simp only [decide_eq_false_iff_not];omega
       have := hj (.int .i64 (k:Int))
       simp only [hf]
       exact this _ _ _ _ _ _ _ _ _ _ _ _
     | succ c2 ih2 =>
      intro k hk
      obtain ⟨nm,hnm⟩ : ∃ nm,(sortN (keysL n.ents))[k]? = some nm := ⟨_,List.getElem?_eq_getElem (by omega)⟩
      obtain ⟨gy,oy,q1,_,q3,_⟩ := erow_at he hnm
      have hcl := cntR_le n.ents (ino + 1) ((sortN (keysL n.ents)).take k)
      rw [List.length_take] at hcl
      have htk : cntR n.ents (ino + 1) ((sortN (keysL n.ents)).take (k + 1)) = cntR n.ents (ino + 1) ((sortN (keysL n.ents)).take k) + Wk.one (ino + 1) ((lk nm n.ents).getD 0) := by
       rw [List.take_add_one,hnm,cntR_app];simp [cntR]
      refine hR2 _ _ _ _ _ _ ?_
      refine j_i (fun j => ∀ v1 v2 v3 v4 v5 v6 v7 v8 v9 v10 v11 v12 v13,j (some ⟨b,0,none⟩) ino (s + (sumL (cntE (ino + 1)) A.nodes i : Int) + (cntR n.ents (ino + 1) ((sortN (keysL n.ents)).take k) : Int)) (i:Int) (k:Int) v1 v2 v3 v4 v5 v6 v7 v8 v9 v10 v11 v12 v13 true σ) ?_ ?_
      ·intro v1 v2 v3 v4 v5 v6 v7 v8 v9 v10 v11 v12 v13
       refine br_t rfl ?_
       refine j_i (fun j => ∀ t : Int,t = s + (sumL (cntE (ino + 1)) A.nodes i : Int) + (cntR n.ents (ino + 1) ((sortN (keysL n.ents)).take (k + 1)) : Int) -> j (some ⟨b,0,none⟩) ino t (i:Int) (k:Int) v1 v2 v3 v4 v5 v6 v7 v8 v9 v10 v11 v12 v13 σ) ?_ ?_
       ·intro t ht
        rw [ht,wrap_id (x := (k:Int) + 1) (by omega) (by omega),show (k:Int) + 1 = ((k + 1 : Nat) : Int) from by omega]
        exact ih2 (k + 1) (by omega)
       intro j hj
       refine rf_at2 hM hL hget (rd_L (rdC_of (hM.nod _ _ hget) (by rfl)) ?_)
       rw [q1]
       have e0 : (k:Int).toNat = k := by omega
       refine ptr_i (if_i ⟨by omega,by show (k:Int) < (((M.ey ((i:Int) + 1)).len : Nat) : Int);omega⟩ (rd_I (by rw [e0];exact q3) ?_))
       by_cases hv : (lk nm n.ents).getD 0 = ino + 1
       ·refine br_t (by simp [hv]) (hj _ ?_)
        rw [htk,wrap_id (by omega) (by omega)]
        unfold Wk.one;rw [if_pos hv];omega
       ·refine br_f (by simp;omega) (hj _ ?_)
        rw [htk]
        unfold Wk.one;rw [if_neg hv];omega
      ·intro j hj
       refine ptr_i (rd_L (rdC_of hM.top (by rfl)) ?_)
       rw [s1]
       refine ptr_i (if_i s2 (rd_P s3 (br_t rfl ?_)))
       refine ptr_i (rd_L (rdC_of hM.top (by rfl)) ?_)
       rw [s1]
       refine ptr_i (if_i s2 (rd_P s3 (ptr_i (rd_L (rdC_of (hM.nod _ _ hget) (by rfl)) ?_))))
       have hf : decide ((k:Int) < (((M.ey ((i:Int) + 1)).len : Nat) : Int)) = true := by simp only [decide_eq_true_eq];omega
       have := hj (.int .i64 (k:Int))
       simp only [hf]
       exact this _ _ _ _ _ _ _ _ _ _ _ _
    have := key2 (sortN (keysL n.ents)).length 0 (by omega)
    simpa [cntR] using this
 have := key A.last.toNat 0 (by omega)
 simpa [sumL] using this
end
section
variable {σ σ' : H} {b : Nat} {A : AT} {M : RfM} {N : Nat}
end
section
variable {σ : H} {bf : Nat} {A : AT} {B : Nat -> Prop}
end
section
variable {σ σ' : H} {b : Nat} {A : AT} {M : RfM} {N : Nat}
end
section
variable {σ σ' : H} {b : Nat} {A : AT} {M : RfM} {N : Nat}
theorem with_some {cwd path : ByteArray} {fo : Bool} (h:(A.with_ cwd path fo).1 = 0) : ∃ n,A.get (A.with_ cwd path fo).2.1 = some n /\ (A.with_ cwd path fo).2.2 = n.inode := by
 unfold AT.with_ at h ⊢
 simp only at h ⊢
 split at h
 ·rename_i h2;exact absurd h h2
 ·rename_i h2
  rw [if_neg h2]
  split at h
  ·cases h
  ·rename_i h3
   rw [if_neg h3]
   cases hg : A.get (A.locate cwd path fo).2.ino with
   | none => rw [hg] at h;cases h
   | some n => exact ⟨n,hg,rfl⟩
theorem with_none {cwd path : ByteArray} {fo : Bool} (h:(A.with_ cwd path fo).1 ≠ 0) : (A.with_ cwd path fo).2.2 = IN.z := by
 unfold AT.with_ at h ⊢
 simp only at h ⊢
 split at h
 ·rename_i h2;rw [if_pos h2]
 ·rename_i h2
  rw [if_neg h2]
  split at h
  ·rename_i h3;rw [if_pos h3]
  ·rename_i h3
   rw [if_neg h3]
   cases hg : A.get (A.locate cwd path fo).2.ino with
   | none => rfl
   | some n => rw [hg] at h;exact absurd rfl h
theorem s_rfStat (hI:Wk.Inv A) (hB:Bd N A) (hN:N <= 100000000) (hM:RfIn σ b A M) (cwd path:ByteArray) (fo:Bool) {K : KH}
 (hK:∀ σ' L,Gr σ σ' -> K (.tuple ⟨[.agg ⟨[.int .i64 (A.stat cwd path fo).2.kind,.int .i64 (A.stat cwd path fo).2.mode,.string (A.stat cwd path fo).2.data,.int .i64 L]⟩,.int .i64 (A.stat cwd path fo).1]⟩) σ') :
 callW Tryz.prog 199 [.pointer (some ⟨b,0,none⟩),.string cwd,.string path,.bool fo] K σ := by
 refine c199 _ _ _ _ ?_
 unfold g199
 unfold AT.stat at hK
 refine al_i ?_;intro b5 σ1 g1 e1 n1
 refine call_i (s_rfThere hI hB (by omega) (hM.gr g1) cwd path fo ?_)
 intro σ2 g2
 have hw := fun h => with_some (A := A) (cwd := cwd) (path := path) (fo := fo) h
 have hwn := fun h => with_none (A := A) (cwd := cwd) (path := path) (fo := fo) h
 generalize A.with_ cwd path fo = w at hK hw hwn ⊢
 obtain ⟨e,ino,x⟩ := w
 simp only at hK hw hwn
 have k5 := g2.get e1
 by_cases he : e = 0
 case neg =>
  have hx := hwn he
  subst hx
  (refine app_of rfl ?_;try dsimp only)
  refine br_t (by simpa using he) ?_
  refine st_i2 k5 sz_Inode (by rfl) (by rfl) ?_;intro σ3 p3
  refine rd_G (rdA_of' p3.same (by rfl)) ?_
  (refine app_of rfl ?_;try dsimp only)
  exact hK σ3 0 ((g1.trans g2).putF p3 n1)
 subst he
 obtain ⟨n,hn,hx⟩ := hw rfl
 subst hx
 have hlow := (hI.low _ _ hn).1
 have h11 : ino - 1 + 1 = ino := by omega
 have hM2 := hM.gr (g1.trans g2)
 rw [if_pos rfl]
 (refine app_of rfl ?_;try dsimp only)
 refine br_f rfl (rf_p hM2 hI (d := ino - 1) (n := n) (by rw [h11];exact hn) ?_)
 rw [h11]
 have hnod := hM2.nod _ _ hn
 have hlast := hB.last
 refine ptr_i (rd_I (rdC_of hnod (by rfl)) (ptr_i (rd_I (rdC_of hnod (by rfl)) (ptr_i (rd_S (rdC_of hnod (by rfl)) ?_)))))
 refine call_i (s_rfLinks hM2 hI.low (by omega) hI.enod (fun i n hn => by have := hB.ents i n hn;omega) (ino - 1) (app_I ?_))
 refine and_i (rdC_of hnod (by rfl)) (and_i (rdC_of hnod (by rfl)) (and_i (rdC_of hnod (by rfl)) ?_))
 refine st_i2 k5 sz_Inode (by rfl) (by rfl) ?_;intro σ3 p3
 refine rd_G (rdA_of' p3.same (by rfl)) ?_
 (refine app_of rfl ?_;try dsimp only)
 exact hK σ3 _ ((g1.trans g2).putF p3 n1)
end
end Go.Proofs.YthclifcpjnhmjaaGreatDoor

set_option maxRecDepth 100000
namespace Go.Wk
open Go Go.HL
def m0 : AT := newT 20 1000
def m1 : AT := (m0.writeF ⟨⟨[47]⟩⟩ ⟨⟨[102]⟩⟩ ⟨⟨[120]⟩⟩ false).2
def m2 : AT := (m1.writeF ⟨⟨[47]⟩⟩ ⟨⟨[101]⟩⟩ ⟨⟨[]⟩⟩ false).2
def m3 : AT := (m2.chmodF ⟨⟨[47]⟩⟩ ⟨⟨[101]⟩⟩ 64).2
def m4 : AT := (m3.mkdirF ⟨⟨[47]⟩⟩ ⟨⟨[100]⟩⟩).2
def m5 : AT := (m4.symlinkF ⟨⟨[47]⟩⟩ ⟨⟨[102]⟩⟩ ⟨⟨[108]⟩⟩).2
def m6 : AT := (m5.symlinkF ⟨⟨[47]⟩⟩ ⟨⟨[122,122]⟩⟩ ⟨⟨[110]⟩⟩).2
theorem mv1 : (m0.writeF ⟨⟨[47]⟩⟩ ⟨⟨[102]⟩⟩ ⟨⟨[120]⟩⟩ false).1 = 0 := by decide +kernel
theorem mv2 : (m1.writeF ⟨⟨[47]⟩⟩ ⟨⟨[101]⟩⟩ ⟨⟨[]⟩⟩ false).1 = 0 := by decide +kernel
theorem mv3 : (m2.chmodF ⟨⟨[47]⟩⟩ ⟨⟨[101]⟩⟩ 64).1 = 0 := by decide +kernel
theorem mv4 : (m3.mkdirF ⟨⟨[47]⟩⟩ ⟨⟨[100]⟩⟩).1 = 0 := by decide +kernel
theorem mv5 : (m4.symlinkF ⟨⟨[47]⟩⟩ ⟨⟨[102]⟩⟩ ⟨⟨[108]⟩⟩).1 = 0 := by decide +kernel
theorem mv6 : (m5.symlinkF ⟨⟨[47]⟩⟩ ⟨⟨[122,122]⟩⟩ ⟨⟨[110]⟩⟩).1 = 0 := by decide +kernel
theorem m0_ok : Inv m0 /\ Bd 1 m0 := newT_ok rfl
theorem m1_ok : OpOk 2 m0 (m0.writeF ⟨⟨[47]⟩⟩ ⟨⟨[102]⟩⟩ ⟨⟨[120]⟩⟩ false) := writeF_ok m0_ok.1 m0_ok.2 (by decide) _ _ _ _ (by decide)
theorem m2_ok : OpOk 3 m1 (m1.writeF ⟨⟨[47]⟩⟩ ⟨⟨[101]⟩⟩ ⟨⟨[]⟩⟩ false) := writeF_ok m1_ok.inv m1_ok.bd (by decide) _ _ _ _ (by decide)
theorem m3_ok : OpOk 3 m2 (m2.chmodF ⟨⟨[47]⟩⟩ ⟨⟨[101]⟩⟩ 64) := chmodF_ok m2_ok.inv m2_ok.bd _ _ _
theorem m4_ok : OpOk 4 m3 (m3.mkdirF ⟨⟨[47]⟩⟩ ⟨⟨[100]⟩⟩) := mkdirF_ok m3_ok.inv m3_ok.bd (by decide) _ _
theorem m5_ok : OpOk 5 m4 (m4.symlinkF ⟨⟨[47]⟩⟩ ⟨⟨[102]⟩⟩ ⟨⟨[108]⟩⟩) := symlinkF_ok m4_ok.inv m4_ok.bd (by decide) _ _ _
theorem m6_ok : OpOk 6 m5 (m5.symlinkF ⟨⟨[47]⟩⟩ ⟨⟨[122,122]⟩⟩ ⟨⟨[110]⟩⟩) := symlinkF_ok m5_ok.inv m5_ok.bd (by decide) _ _ _
def wantD (w:ByteArray ⊕ Int) (nm:ByteArray) : Dn := match w with
 | .inl s => ⟨s,⟨⟨[]⟩⟩,0⟩
 | .inr n => if n == 2 then usageP nm else ⟨⟨⟨[]⟩⟩,⟨⟨[]⟩⟩,n⟩
def runL (A:AT) : List ByteArray -> Dn
 | [] => Dn.z
 | nm :: args => let d := A.runP ⟨⟨[47]⟩⟩ nm args;if d.2 then d.1 else ⟨⟨⟨[]⟩⟩,⟨⟨[]⟩⟩,99⟩
def dEq (a b:Dn) : Bool := sEq a.out b.out && (sEq a.err b.err && a.st == b.st)
def rowOk (A:AT) (r:(ByteArray ⊕ Int) × List ByteArray) : Bool := match r.2 with
 | [] => false
 | nm :: _ => dEq (runL A r.2) (wantD r.1 nm)
def worksL : List ((ByteArray ⊕ Int) × List ByteArray) := [
 (.inl ⟨⟨[97,32,98,32,99,10]⟩⟩,[⟨⟨[101,99,104,111]⟩⟩,⟨⟨[97]⟩⟩,⟨⟨[98,32,99]⟩⟩]),
 (.inl ⟨⟨[120]⟩⟩,[⟨⟨[101,99,104,111]⟩⟩,⟨⟨[45,110]⟩⟩,⟨⟨[120]⟩⟩]),
 (.inl ⟨⟨[97,61,49,10,98,61,50,10]⟩⟩,[⟨⟨[112,114,105,110,116,102]⟩⟩,⟨⟨[37,115,61,37,100,92,110]⟩⟩,⟨⟨[97]⟩⟩,⟨⟨[49]⟩⟩,⟨⟨[98]⟩⟩,⟨⟨[50]⟩⟩]),
 (.inl ⟨⟨[32,32,53,124,97,32,32,124,102,102]⟩⟩,[⟨⟨[112,114,105,110,116,102]⟩⟩,⟨⟨[37,51,100,124,37,45,51,115,124,37,120]⟩⟩,⟨⟨[53]⟩⟩,⟨⟨[97]⟩⟩,⟨⟨[50,53,53]⟩⟩]),
 (.inr 0,[⟨⟨[116,101,115,116]⟩⟩,⟨⟨[97]⟩⟩,⟨⟨[61]⟩⟩,⟨⟨[97]⟩⟩]),
 (.inr 0,[⟨⟨[116,101,115,116]⟩⟩,⟨⟨[51]⟩⟩,⟨⟨[45,108,116]⟩⟩,⟨⟨[50,48]⟩⟩]),
 (.inr 0,[⟨⟨[116,101,115,116]⟩⟩,⟨⟨[33]⟩⟩,⟨⟨[]⟩⟩]),
 (.inr 1,[⟨⟨[91]⟩⟩,⟨⟨[45,110]⟩⟩,⟨⟨[]⟩⟩,⟨⟨[93]⟩⟩]),
 (.inr 2,[⟨⟨[91]⟩⟩,⟨⟨[120]⟩⟩]),
 (.inl ⟨⟨[98,10]⟩⟩,[⟨⟨[98,97,115,101,110,97,109,101]⟩⟩,⟨⟨[47,97,47,98,46,99]⟩⟩,⟨⟨[46,99]⟩⟩]),
 (.inl ⟨⟨[97,10]⟩⟩,[⟨⟨[98,97,115,101,110,97,109,101]⟩⟩,⟨⟨[97,47]⟩⟩]),
 (.inl ⟨⟨[97,10]⟩⟩,[⟨⟨[100,105,114,110,97,109,101]⟩⟩,⟨⟨[97,47,98]⟩⟩]),
 (.inl ⟨⟨[47,10]⟩⟩,[⟨⟨[100,105,114,110,97,109,101]⟩⟩,⟨⟨[47,97]⟩⟩]),
 (.inl ⟨⟨[46,10]⟩⟩,[⟨⟨[100,105,114,110,97,109,101]⟩⟩,⟨⟨[97]⟩⟩])]
theorem works_ok : worksL.all (rowOk m6) = true := by decide +kernel
end Go.Wk

set_option maxRecDepth 100000
namespace Go.Proofs.YthclifcpjnhmjaaGreatDoor
open Go Go.HL Go.Wk
attribute [local irreducible] ptrW ifW brW andW rdT alW letJ stW muW biW vaW imW callT cvalT app callW invW callVW sizeT oW nilF oneK loopW rfW funW begW roundK exW idxW Gr Put
structure W2 (σ τ ρF ρR:H) : Prop where
 gF : Gr ρF τ
 gR : Gr ρR τ
 gσ : Gr σ τ
 dF : ∀ b,σ b ≠ none -> ρF b = none
 dR : ∀ b,σ b ≠ none -> ρR b = none
 dFR : ∀ b,ρF b ≠ none -> ρR b = none
theorem gr_sub {ρ σ σ' : H} (h3:∀ b o,ρ b = none -> σ b = some o -> σ' b = some o) {θ : H} (hg:Gr θ σ) (hd:∀ b,θ b ≠ none -> ρ b = none) : Gr θ σ' := gr_of fun b o hb => h3 b o (hd b (by rw [hb];simp)) (hg.get hb)
theorem ne_get {σ σ' : H} (hg:Gr σ σ') {b : Nat} (hb:σ b ≠ none) : σ' b ≠ none := by
 cases h : σ b with
 | none => exact absurd h hb
 | some o => rw [hg.get h];simp
section
variable {σ τ ρF ρR : H}
theorem W2.swap (h:W2 σ τ ρF ρR) : W2 σ τ ρR ρF := ⟨h.gR,h.gF,h.gσ,h.dR,h.dF,fun b hb => by
 cases h2 : ρF b with
 | none => rfl
 | some o => exact absurd (h.dFR b (by rw [h2];simp)) hb⟩
theorem w2_call (h:W2 σ τ ρF ρR) {f : FuncId} {args : List Value} {K' : KH} {t : TK} {F : t.Fn (H -> Prop)} (hc:callW Tryz.prog f args K' ρF) (hk:∀ v τ' ρ',K' v ρ' -> W2 σ τ' ρ' ρR -> app t F v τ') : callT Tryz.prog f args t F τ := by
 refine call_from h.gF hc ?_
 intro v τ' ρ' h1 f1 f2 f3
 have dRF := h.swap.dFR
 refine hk v τ' ρ' h1 ⟨f1,gr_sub f2 h.gR dRF,gr_sub f2 h.gσ h.dF,fun b hb => f3 b (ne_get h.gσ hb) (h.dF b hb),h.dR,fun b hb => ?_⟩
 cases h2 : ρR b with
 | none => rfl
 | some o => exact absurd (f3 b (ne_get h.gR (by rw [h2];simp)) (dRF b (by rw [h2];simp))) hb
theorem s_both20 {K : KH} (hK:∀ bf br τ ρF ρR B D,FsAt ρF bf m6 B -> RfAt ρR br m6 D -> W2 σ τ ρF ρR -> K (.tuple ⟨[.pointer (some ⟨bf,0,none⟩),.pointer (some ⟨br,0,none⟩)]⟩) τ) : callW Tryz.prog 10 [] K σ := by
 refine c10 ?_
 unfold g10
 refine al_i ?_;intro b1 σ1 g1 e1 n1
 refine st_i2 e1 sz_Quota (by rfl) (by rfl) ?_;intro σ2 p2
 have g2 : Gr σ σ2 := g1.putF p2 n1
 have k2 : σ2 b1 = some (.cells ⟨[.int .i64 20,.int .i64 1000]⟩ 50 (0,0)) := p2.same
 refine rd_G (rdA_of' k2 (by rfl)) ?_
 (refine app_of rfl ?_;try dsimp only)
 refine rd_G (rdA_of' k2 (by rfl)) ?_
 (refine app_of rfl ?_;try dsimp only)
 have W0 : W2 σ2 σ2 (fun _ => none) (fun _ => none) := ⟨gr_empty _,gr_empty _,Gr.refl _,fun _ _ => rfl,fun _ _ => rfl,fun _ _ => rfl⟩
 refine w2_call W0 (s_New 20 1000 (K := fun v τ => ∃ bf B,v = .pointer (some ⟨bf,0,none⟩) /\ FsAt τ bf m0 B) (fun h => by cases h) fun _ bf σ' B' h1 _ _ => ⟨bf,B',rfl,h1⟩) ?_
 rintro v τ1 ρF1 ⟨bf,B1,rfl,F1⟩ W1
 refine app_P (and_i (rdA_of' (W1.gσ.get k2) (by rfl)) ?_)
 refine w2_call W1.swap (s_rfNew 20 1000 (K := fun v τ => ∃ br D,v = .pointer (some ⟨br,0,none⟩) /\ RfAt τ br m0 D) (fun h => by cases h) fun _ bf σ' B' h1 _ _ => ⟨bf,B',rfl,h1⟩) ?_
 rintro v τ2 ρR1 ⟨br,D1,rfl,R1⟩ W2'
 have V2 := W2'.swap
 refine app_P (j_i (fun j => ∀ τ ρF ρR B D,FsAt ρF bf m6 B -> RfAt ρR br m0 D -> W2 σ2 τ ρF ρR -> j (some ⟨bf,0,none⟩) (some ⟨br,0,none⟩) false τ) ?_ ?_)
 case refine_2 =>
  intro j hj
  refine br_f rfl (br_f rfl ?_)
  refine w2_call V2 (s_Write (A := m0) (K := fun v τ' => ∃ B',v = .int .i64 (m0.writeF ⟨⟨[47]⟩⟩ ⟨⟨[102]⟩⟩ ⟨⟨[120]⟩⟩ false).1 /\ FsAt τ' bf m1 B') m0_ok.1 m0_ok.2 (by decide) F1 ⟨⟨[47]⟩⟩ ⟨⟨[102]⟩⟩ ⟨⟨[120]⟩⟩ false (by decide) fun σ' B' h1 _ => ⟨B',rfl,h1⟩) ?_
  rintro v τ3 ρF2 ⟨B2,rfl,F2⟩ V3
  refine app_I ?_
  rw [mv1]
  refine br_f rfl ?_
  refine w2_call V3 (s_Write (A := m1) (K := fun v τ' => ∃ B',v = .int .i64 (m1.writeF ⟨⟨[47]⟩⟩ ⟨⟨[101]⟩⟩ ⟨⟨[]⟩⟩ false).1 /\ FsAt τ' bf m2 B') m1_ok.inv m1_ok.bd (by decide) F2 ⟨⟨[47]⟩⟩ ⟨⟨[101]⟩⟩ ⟨⟨[]⟩⟩ false (by decide) fun σ' B' h1 _ => ⟨B',rfl,h1⟩) ?_
  rintro v τ4 ρF3 ⟨B3,rfl,F3⟩ V4
  refine app_I ?_
  rw [mv2]
  refine br_f rfl ?_
  refine w2_call V4 (s_Chmod (A := m2) (K := fun v τ' => ∃ B',v = .int .i64 (m2.chmodF ⟨⟨[47]⟩⟩ ⟨⟨[101]⟩⟩ 64).1 /\ FsAt τ' bf m3 B') F3 ⟨⟨[47]⟩⟩ ⟨⟨[101]⟩⟩ 64 fun σ' B' h1 _ => ⟨B',rfl,h1⟩) ?_
  rintro v τ5 ρF4 ⟨B4,rfl,F4⟩ V5
  refine app_I ?_
  rw [mv3]
  refine br_f rfl ?_
  refine w2_call V5 (s_Mkdir (A := m3) (K := fun v τ' => ∃ B',v = .int .i64 (m3.mkdirF ⟨⟨[47]⟩⟩ ⟨⟨[100]⟩⟩).1 /\ FsAt τ' bf m4 B') m3_ok.inv m3_ok.bd (by decide) F4 ⟨⟨[47]⟩⟩ ⟨⟨[100]⟩⟩ fun σ' B' h1 _ => ⟨B',rfl,h1⟩) ?_
  rintro v τ6 ρF5 ⟨B5,rfl,F5⟩ V6
  refine app_I ?_
  rw [mv4]
  refine br_f rfl ?_
  refine w2_call V6 (s_Symlink (A := m4) (K := fun v τ' => ∃ B',v = .int .i64 (m4.symlinkF ⟨⟨[47]⟩⟩ ⟨⟨[102]⟩⟩ ⟨⟨[108]⟩⟩).1 /\ FsAt τ' bf m5 B') m4_ok.inv m4_ok.bd (by decide) F5 ⟨⟨[47]⟩⟩ ⟨⟨[102]⟩⟩ ⟨⟨[108]⟩⟩ fun σ' B' h1 _ => ⟨B',rfl,h1⟩) ?_
  rintro v τ7 ρF6 ⟨B6,rfl,F6⟩ V7
  refine app_I ?_
  rw [mv5]
  refine br_f rfl ?_
  refine w2_call V7 (s_Symlink (A := m5) (K := fun v τ' => ∃ B',v = .int .i64 (m5.symlinkF ⟨⟨[47]⟩⟩ ⟨⟨[122,122]⟩⟩ ⟨⟨[110]⟩⟩).1 /\ FsAt τ' bf m6 B') m5_ok.inv m5_ok.bd (by decide) F6 ⟨⟨[47]⟩⟩ ⟨⟨[122,122]⟩⟩ ⟨⟨[110]⟩⟩ fun σ' B' h1 _ => ⟨B',rfl,h1⟩) ?_
  rintro v τ8 ρF7 ⟨B7,rfl,F7⟩ V8
  refine app_I ?_
  rw [mv6]
  exact hj _ _ _ _ _ F7 R1 V8
 intro τ ρF ρR B D F R W
 refine br_f rfl ?_
 refine w2_call W.swap (s_rfWrite (A := m0) (K := fun v τ' => ∃ B',v = .int .i64 (m0.writeF ⟨⟨[47]⟩⟩ ⟨⟨[102]⟩⟩ ⟨⟨[120]⟩⟩ false).1 /\ RfAt τ' br m1 B') m0_ok.1 m0_ok.2 (by decide) R ⟨⟨[47]⟩⟩ ⟨⟨[102]⟩⟩ ⟨⟨[120]⟩⟩ false (by decide) fun σ' B' h1 _ => ⟨B',rfl,h1⟩) ?_
 rintro v τ3 ρR2 ⟨D2,rfl,R2⟩ V3
 replace V3 := V3.swap
 refine app_I ?_
 refine w2_call V3.swap (s_rfWrite (A := m1) (K := fun v τ' => ∃ B',v = .int .i64 (m1.writeF ⟨⟨[47]⟩⟩ ⟨⟨[101]⟩⟩ ⟨⟨[]⟩⟩ false).1 /\ RfAt τ' br m2 B') m1_ok.inv m1_ok.bd (by decide) R2 ⟨⟨[47]⟩⟩ ⟨⟨[101]⟩⟩ ⟨⟨[]⟩⟩ false (by decide) fun σ' B' h1 _ => ⟨B',rfl,h1⟩) ?_
 rintro v τ4 ρR3 ⟨D3,rfl,R3⟩ V4
 replace V4 := V4.swap
 refine app_I ?_
 refine w2_call V4.swap (s_rfChmod (A := m2) (K := fun v τ' => ∃ B',v = .int .i64 (m2.chmodF ⟨⟨[47]⟩⟩ ⟨⟨[101]⟩⟩ 64).1 /\ RfAt τ' br m3 B') m2_ok.inv m2_ok.bd (by decide) R3 ⟨⟨[47]⟩⟩ ⟨⟨[101]⟩⟩ 64 fun σ' B' h1 _ => ⟨B',rfl,h1⟩) ?_
 rintro v τ5 ρR4 ⟨D4,rfl,R4⟩ V5
 replace V5 := V5.swap
 refine app_I ?_
 refine w2_call V5.swap (s_rfMkdir (A := m3) (K := fun v τ' => ∃ B',v = .int .i64 (m3.mkdirF ⟨⟨[47]⟩⟩ ⟨⟨[100]⟩⟩).1 /\ RfAt τ' br m4 B') m3_ok.inv m3_ok.bd (by decide) R4 ⟨⟨[47]⟩⟩ ⟨⟨[100]⟩⟩ fun σ' B' h1 _ => ⟨B',rfl,h1⟩) ?_
 rintro v τ6 ρR5 ⟨D5,rfl,R5⟩ V6
 replace V6 := V6.swap
 refine app_I ?_
 refine w2_call V6.swap (s_rfSymlink (A := m4) (K := fun v τ' => ∃ B',v = .int .i64 (m4.symlinkF ⟨⟨[47]⟩⟩ ⟨⟨[102]⟩⟩ ⟨⟨[108]⟩⟩).1 /\ RfAt τ' br m5 B') m4_ok.inv m4_ok.bd (by decide) R5 ⟨⟨[47]⟩⟩ ⟨⟨[102]⟩⟩ ⟨⟨[108]⟩⟩ (by decide) fun σ' B' h1 _ => ⟨B',rfl,h1⟩) ?_
 rintro v τ7 ρR6 ⟨D6,rfl,R6⟩ V7
 replace V7 := V7.swap
 refine app_I ?_
 refine w2_call V7.swap (s_rfSymlink (A := m5) (K := fun v τ' => ∃ B',v = .int .i64 (m5.symlinkF ⟨⟨[47]⟩⟩ ⟨⟨[122,122]⟩⟩ ⟨⟨[110]⟩⟩).1 /\ RfAt τ' br m6 B') m5_ok.inv m5_ok.bd (by decide) R6 ⟨⟨[47]⟩⟩ ⟨⟨[122,122]⟩⟩ ⟨⟨[110]⟩⟩ (by decide) fun σ' B' h1 _ => ⟨B',rfl,h1⟩) ?_
 rintro v τ8 ρR7 ⟨D7,rfl,R7⟩ V8
 replace V8 := V8.swap
 refine app_I ?_
 have f1 : ∀ b,σ b ≠ none -> σ2 b ≠ none := fun b hb => ne_get g2 hb
 exact hK bf br _ _ _ _ _ F R7 ⟨V8.gF,V8.gR,g2.trans V8.gσ,fun b hb => V8.dF b (f1 b hb),fun b hb => V8.dR b (f1 b hb),V8.dFR⟩
end
section
variable {σ : H} {bf : Nat} {A : AT} {B : Nat -> Prop}
theorem sz_Done2 : sizeT Tryz.prog 35 = some 3 := by kernel_rfl
theorem s_run20 (hF:FsAt σ bf A B) (hT:Tabs σ) {x : Sl} {nm : ByteArray} {args : List ByteArray} (hx:RowsAt σ 1 (strRows (nm :: args)) x) (hc:x.len <= x.cap) (ha:∀ a ∈ nm :: args,a.size <= 1000) (hl:args.length <= 20) {K : KH} (hK:K (.agg ⟨dnV (runL A (nm :: args))⟩) σ) :
 callW Tryz.prog 15 [.pointer (some ⟨bf,0,none⟩),.slice x.base x.len x.cap] K σ := by
 refine pure_i _ hK (c15 _ _ ?_)
 clear hK
 unfold g15
 have hxl := sLen hx
 refine al_i ?_;intro b3 σ1 g1 e1 n1
 obtain ⟨g,o,a1,a2,a3⟩ := sRow (hx.gr g1) (i := 0) (s := nm) rfl
 rw [a1]
 refine ptr_i (if_i ⟨by decide,by omega⟩ (rd_S a3 ?_))
 refine if_i ⟨bnd_none,bnd_some (by decide) (by omega)⟩ ?_
 rw [<- a1]
 refine call_i (s_Run (hF.gr g1) nm ⟨⟨[]⟩⟩ ⟨⟨[47]⟩⟩ (x := ⟨slBase x.base 1 x.cap 1,x.len - 1,x.cap - 1⟩) (sTail (hx.gr g1) hc) (by show x.len - 1 <= x.cap - 1;omega) (hT.gr g1) (ha nm (List.mem_cons_self ..)) (fun a h => ha a (List.mem_cons_of_mem _ h)) hl ?_)
 have hr : runL A (nm :: args) = if (A.runP ⟨⟨[47]⟩⟩ nm args).2 then (A.runP ⟨⟨[47]⟩⟩ nm args).1 else ⟨⟨⟨[]⟩⟩,⟨⟨[]⟩⟩,99⟩ := rfl
 rw [hr]
 unfold dnV
 (refine app_of rfl ?_;try dsimp only)
 refine al_i ?_;intro b11 σ2 g2 e2 n2
 refine st_i2 e2 sz_Done2 (by rfl) (by rfl) ?_;intro σ3 p3
 have G3 : Gr σ σ3 := (g1.trans g2).putF p3 (none_of g1 n2)
 have k3 := p3.get (ne_fr n2 (isSome_of e1)) (g2.get e1)
 cases hb : (A.runP ⟨⟨[47]⟩⟩ nm args).2 with
 | false =>
  refine br_t rfl (st_i2 k3 sz_Done2 (by rfl) (by rfl) ?_);intro σ4 p4
  refine rd_G (rdA_of' p4.same (by rfl)) ?_
  (refine app_of rfl ?_;try dsimp only)
  exact ⟨rfl,G3.putF p4 n1⟩
 | true =>
  refine br_f rfl (rd_G (rdA_of' p3.same (by rfl)) ?_)
  (refine app_of rfl ?_;try dsimp only)
  refine st_i2 k3 sz_Done2 (by rfl) (by rfl) ?_;intro σ4 p4
  refine rd_G (rdA_of' p4.same (by rfl)) ?_
  (refine app_of rfl ?_;try dsimp only)
  exact ⟨rfl,G3.putF p4 n1⟩
theorem s_says20 (hF:FsAt σ bf A B) (hT:Tabs σ) {x : Sl} (want:ByteArray) {l : List ByteArray} (hne:l ≠ []) (hx:RowsAt σ 1 (strRows l) x) (hc:x.len <= x.cap) (ha:∀ a ∈ l,a.size <= 1000) (hl:l.length <= 21) {K : KH} (hK:K (.bool (dEq (runL A l) ⟨want,⟨⟨[]⟩⟩,0⟩)) σ) :
 callW Tryz.prog 12 [.pointer (some ⟨bf,0,none⟩),.string want,.slice x.base x.len x.cap] K σ := by
 obtain ⟨nm,args,rfl⟩ : ∃ nm args,l = nm :: args := by
  cases l with
  | nil => exact absurd rfl hne
  | cons a r => exact ⟨a,r,rfl⟩
 refine c12 _ _ _ ?_
 unfold g12
 refine call_i (s_run20 hF hT hx hc ha (by simp only [List.length_cons] at hl;omega) ?_)
 unfold dnV
 (refine app_of rfl ?_;try dsimp only)
 unfold dEq at hK
 rw [sEq_eq,sEq_eq] at hK
 rw [Bool.and_true];exact hK
theorem s_ends20 (hF:FsAt σ bf A B) (hT:Tabs σ) {x : Sl} (n:Int) {nm : ByteArray} {args : List ByteArray} (hx:RowsAt σ 1 (strRows (nm :: args)) x) (hc:x.len <= x.cap) (ha:∀ a ∈ nm :: args,a.size <= 1000) (hl:args.length <= 20) {K : KH} (hK:K (.bool (dEq (runL A (nm :: args)) (wantD (.inr n) nm))) σ) :
 callW Tryz.prog 16 [.pointer (some ⟨bf,0,none⟩),.int .i64 n,.slice x.base x.len x.cap] K σ := by
 refine pure_i _ hK (c16 _ _ _ ?_)
 clear hK
 unfold g16
 have hxl := sLen hx
 refine call_i (s_run20 hF hT hx hc ha hl ?_)
 unfold dnV
 (refine app_of rfl ?_;try dsimp only)
 refine al_i ?_;intro b7 σ1 g1 e1 n1
 refine st_i2 e1 sz_Done2 (by rfl) (by rfl) ?_;intro σ2 p2
 have G2 : Gr σ σ2 := g1.putF p2 n1
 have hw : wantD (.inr n) nm = if n == 2 then usageP nm else ⟨⟨⟨[]⟩⟩,⟨⟨[]⟩⟩,n⟩ := rfl
 rw [hw]
 cases h2 : n == 2 with
 | true =>
  refine br_t rfl (rd_G (rdA_of' p2.same (by rfl)) ?_)
  (refine app_of rfl ?_;try dsimp only)
  obtain ⟨g,o,a1,a2,a3⟩ := sRow (hx.gr G2) (i := 0) (s := nm) rfl
  rw [a1]
  refine ptr_i (if_i ⟨by decide,by omega⟩ (rd_S a3 (if_i ?_ ⟨?_,G2⟩)))
  ·have := ha nm (List.mem_cons_self ..)
   show nm.size + 8 <= _;omega
  ·unfold dEq usageP
   rw [if_pos rfl,sEq_eq,sEq_eq,Bool.and_true]
 | false =>
  refine br_f rfl (rd_G (rdA_of' p2.same (by rfl)) ?_)
  (refine app_of rfl ?_;try dsimp only)
  refine ⟨?_,G2⟩
  unfold dEq
  rw [if_neg (by simp),sEq_eq,sEq_eq,Bool.and_true]
end
theorem lit2 {σ : H} {b : Nat} {ty : TypeId} {fz : Nat × Nat} {a0 a1 : ByteArray} (h:σ b = some (.cells ⟨[.string a0,.string a1]⟩ ty fz)) : RowsAt σ 1 (strRows [a0,a1]) ⟨some ⟨b,0,none⟩,2,2⟩ := by
 refine ⟨rfl,.inr ⟨b,0,_,_,_,rfl,h,fun i r hr => ?_⟩⟩
 match i,hr with
 | 0,hr => cases hr;exact ⟨rfl,rfl⟩
 | 1,hr => cases hr;exact ⟨rfl,rfl⟩
 | i + 2,hr => simp [strRows] at hr
theorem lit3 {σ : H} {b : Nat} {ty : TypeId} {fz : Nat × Nat} {a0 a1 a2 : ByteArray} (h:σ b = some (.cells ⟨[.string a0,.string a1,.string a2]⟩ ty fz)) : RowsAt σ 1 (strRows [a0,a1,a2]) ⟨some ⟨b,0,none⟩,3,3⟩ := by
 refine ⟨rfl,.inr ⟨b,0,_,_,_,rfl,h,fun i r hr => ?_⟩⟩
 match i,hr with
 | 0,hr => cases hr;exact ⟨rfl,rfl⟩
 | 1,hr => cases hr;exact ⟨rfl,rfl⟩
 | 2,hr => cases hr;exact ⟨rfl,rfl⟩
 | i + 3,hr => simp [strRows] at hr
theorem lit4 {σ : H} {b : Nat} {ty : TypeId} {fz : Nat × Nat} {a0 a1 a2 a3 : ByteArray} (h:σ b = some (.cells ⟨[.string a0,.string a1,.string a2,.string a3]⟩ ty fz)) : RowsAt σ 1 (strRows [a0,a1,a2,a3]) ⟨some ⟨b,0,none⟩,4,4⟩ := by
 refine ⟨rfl,.inr ⟨b,0,_,_,_,rfl,h,fun i r hr => ?_⟩⟩
 match i,hr with
 | 0,hr => cases hr;exact ⟨rfl,rfl⟩
 | 1,hr => cases hr;exact ⟨rfl,rfl⟩
 | 2,hr => cases hr;exact ⟨rfl,rfl⟩
 | 3,hr => cases hr;exact ⟨rfl,rfl⟩
 | i + 4,hr => simp [strRows] at hr
theorem lit5 {σ : H} {b : Nat} {ty : TypeId} {fz : Nat × Nat} {a0 a1 a2 a3 a4 : ByteArray} (h:σ b = some (.cells ⟨[.string a0,.string a1,.string a2,.string a3,.string a4]⟩ ty fz)) : RowsAt σ 1 (strRows [a0,a1,a2,a3,a4]) ⟨some ⟨b,0,none⟩,5,5⟩ := by
 refine ⟨rfl,.inr ⟨b,0,_,_,_,rfl,h,fun i r hr => ?_⟩⟩
 match i,hr with
 | 0,hr => cases hr;exact ⟨rfl,rfl⟩
 | 1,hr => cases hr;exact ⟨rfl,rfl⟩
 | 2,hr => cases hr;exact ⟨rfl,rfl⟩
 | 3,hr => cases hr;exact ⟨rfl,rfl⟩
 | 4,hr => cases hr;exact ⟨rfl,rfl⟩
 | i + 5,hr => simp [strRows] at hr
theorem lit6 {σ : H} {b : Nat} {ty : TypeId} {fz : Nat × Nat} {a0 a1 a2 a3 a4 a5 : ByteArray} (h:σ b = some (.cells ⟨[.string a0,.string a1,.string a2,.string a3,.string a4,.string a5]⟩ ty fz)) : RowsAt σ 1 (strRows [a0,a1,a2,a3,a4,a5]) ⟨some ⟨b,0,none⟩,6,6⟩ := by
 refine ⟨rfl,.inr ⟨b,0,_,_,_,rfl,h,fun i r hr => ?_⟩⟩
 match i,hr with
 | 0,hr => cases hr;exact ⟨rfl,rfl⟩
 | 1,hr => cases hr;exact ⟨rfl,rfl⟩
 | 2,hr => cases hr;exact ⟨rfl,rfl⟩
 | 3,hr => cases hr;exact ⟨rfl,rfl⟩
 | 4,hr => cases hr;exact ⟨rfl,rfl⟩
 | 5,hr => cases hr;exact ⟨rfl,rfl⟩
 | i + 6,hr => simp [strRows] at hr
theorem row_at {A : AT} {l : List ((ByteArray ⊕ Int) × List ByteArray)} (h:l.all (rowOk A) = true) {i : Nat} {w : ByteArray ⊕ Int} {nm : ByteArray} {args : List ByteArray} (hi:l[i]? = some (w,nm :: args)) : dEq (runL A (nm :: args)) (wantD w nm) = true := List.all_eq_true.1 h _ (List.mem_of_getElem? hi)
theorem row_says {A : AT} {l : List ((ByteArray ⊕ Int) × List ByteArray)} (h:l.all (rowOk A) = true) (i:Nat) {w nm : ByteArray} {args : List ByteArray} (hi:l[i]? = some (.inl w,nm :: args)) : dEq (runL A (nm :: args)) ⟨w,⟨⟨[]⟩⟩,0⟩ = true := row_at h hi
theorem row_ends {A : AT} {l : List ((ByteArray ⊕ Int) × List ByteArray)} (h:l.all (rowOk A) = true) (i:Nat) {n : Int} {nm : ByteArray} {args : List ByteArray} (hi:l[i]? = some (.inr n,nm :: args)) : dEq (runL A (nm :: args)) (wantD (.inr n) nm) = true := row_at h hi
theorem s_works20 {σ : H} (hT:Tabs σ) {K : KH} (hK:K (.bool true) σ) : callW Tryz.prog 9 [] K σ := by
 refine pure_i _ hK (c9 ?_)
 clear hK
 unfold g9
 refine call_i (s_both20 ?_)
 intro bf br τ0 ρF ρR B D hF hR W
 have hF := hF.gr W.gF
 have hT := hT.gr W.gσ
 have G0 := W.gσ
 (refine app_of rfl ?_;try dsimp only)
 refine br_f rfl ?_
 refine al_i ?_;intro b0 τ1 g0 e0 n0
 replace hF := hF.gr g0;replace hT := hT.gr g0;replace G0 := G0.trans g0
 refine call_i (s_says20 hF hT _ (by simp) (lit3 e0) (Nat.le_refl _) (by decide) (by decide) (app_B ?_))
 rw [row_says works_ok 0 rfl]
 refine br_t rfl ?_
 refine al_i ?_;intro b1 τ2 g1 e1 n1
 replace hF := hF.gr g1;replace hT := hT.gr g1;replace G0 := G0.trans g1
 refine call_i (s_says20 hF hT _ (by simp) (lit3 e1) (Nat.le_refl _) (by decide) (by decide) (app_B ?_))
 rw [row_says works_ok 1 rfl]
 refine br_t rfl ?_
 refine al_i ?_;intro b2 τ3 g2 e2 n2
 replace hF := hF.gr g2;replace hT := hT.gr g2;replace G0 := G0.trans g2
 refine call_i (s_says20 hF hT _ (by simp) (lit6 e2) (Nat.le_refl _) (by decide) (by decide) (app_B ?_))
 rw [row_says works_ok 2 rfl]
 refine br_t rfl ?_
 refine al_i ?_;intro b3 τ4 g3 e3 n3
 replace hF := hF.gr g3;replace hT := hT.gr g3;replace G0 := G0.trans g3
 refine call_i (s_says20 hF hT _ (by simp) (lit5 e3) (Nat.le_refl _) (by decide) (by decide) (app_B ?_))
 rw [row_says works_ok 3 rfl]
 refine br_t rfl ?_
 refine al_i ?_;intro b4 τ5 g4 e4 n4
 replace hF := hF.gr g4;replace hT := hT.gr g4;replace G0 := G0.trans g4
 refine call_i (s_ends20 hF hT 0 (lit4 e4) (Nat.le_refl _) (by decide) (by decide) (app_B ?_))
 rw [row_ends works_ok 4 rfl]
 refine br_t rfl ?_
 refine al_i ?_;intro b5 τ6 g5 e5 n5
 replace hF := hF.gr g5;replace hT := hT.gr g5;replace G0 := G0.trans g5
 refine call_i (s_ends20 hF hT 0 (lit4 e5) (Nat.le_refl _) (by decide) (by decide) (app_B ?_))
 rw [row_ends works_ok 5 rfl]
 refine br_t rfl ?_
 refine al_i ?_;intro b6 τ7 g6 e6 n6
 replace hF := hF.gr g6;replace hT := hT.gr g6;replace G0 := G0.trans g6
 refine call_i (s_ends20 hF hT 0 (lit3 e6) (Nat.le_refl _) (by decide) (by decide) (app_B ?_))
 rw [row_ends works_ok 6 rfl]
 refine br_t rfl ?_
 refine al_i ?_;intro b7 τ8 g7 e7 n7
 replace hF := hF.gr g7;replace hT := hT.gr g7;replace G0 := G0.trans g7
 refine call_i (s_ends20 hF hT 1 (lit4 e7) (Nat.le_refl _) (by decide) (by decide) (app_B ?_))
 rw [row_ends works_ok 7 rfl]
 refine br_t rfl ?_
 refine al_i ?_;intro b8 τ9 g8 e8 n8
 replace hF := hF.gr g8;replace hT := hT.gr g8;replace G0 := G0.trans g8
 refine call_i (s_ends20 hF hT 2 (lit2 e8) (Nat.le_refl _) (by decide) (by decide) (app_B ?_))
 rw [row_ends works_ok 8 rfl]
 refine br_t rfl ?_
 refine al_i ?_;intro b9 τ10 g9 e9 n9
 replace hF := hF.gr g9;replace hT := hT.gr g9;replace G0 := G0.trans g9
 refine call_i (s_says20 hF hT _ (by simp) (lit3 e9) (Nat.le_refl _) (by decide) (by decide) (app_B ?_))
 rw [row_says works_ok 9 rfl]
 refine br_t rfl ?_
 refine al_i ?_;intro b10 τ11 g10 e10 n10
 replace hF := hF.gr g10;replace hT := hT.gr g10;replace G0 := G0.trans g10
 refine call_i (s_says20 hF hT _ (by simp) (lit2 e10) (Nat.le_refl _) (by decide) (by decide) (app_B ?_))
 rw [row_says works_ok 10 rfl]
 refine br_t rfl ?_
 refine al_i ?_;intro b11 τ12 g11 e11 n11
 replace hF := hF.gr g11;replace hT := hT.gr g11;replace G0 := G0.trans g11
 refine call_i (s_says20 hF hT _ (by simp) (lit2 e11) (Nat.le_refl _) (by decide) (by decide) (app_B ?_))
 rw [row_says works_ok 11 rfl]
 refine br_t rfl ?_
 refine al_i ?_;intro b12 τ13 g12 e12 n12
 replace hF := hF.gr g12;replace hT := hT.gr g12;replace G0 := G0.trans g12
 refine call_i (s_says20 hF hT _ (by simp) (lit2 e12) (Nat.le_refl _) (by decide) (by decide) (app_B ?_))
 rw [row_says works_ok 12 rfl]
 refine br_t rfl ?_
 refine al_i ?_;intro b13 τ14 g13 e13 n13
 replace hF := hF.gr g13;replace hT := hT.gr g13;replace G0 := G0.trans g13
 refine call_i (s_says20 hF hT _ (by simp) (lit2 e13) (Nat.le_refl _) (by decide) (by decide) (app_B ?_))
 rw [row_says works_ok 13 rfl]
 exact ⟨rfl,G0⟩
end Go.Proofs.YthclifcpjnhmjaaGreatDoor

namespace Go.Proofs
open Go.Shelf
end Go.Proofs

set_option maxRecDepth 100000
namespace Go.Proofs.YthclifcpjnhmjaaGreatDoor
open Go Go.HL Go.Wk
def MaxAt (σ:H) (m:Int) : Prop := ∃ t fz,σ 0 = some (.cells ⟨[.int .i64 m]⟩ t fz)
theorem MaxAt.gr {σ σ' : H} {m : Int} (h:MaxAt σ m) (hg:Gr σ σ') : MaxAt σ' m := by
 obtain ⟨t,fz,h⟩ := h;exact ⟨t,fz,hg.get h⟩
end Go.Proofs.YthclifcpjnhmjaaGreatDoor

set_option maxRecDepth 100000
namespace Go.Proofs.YthclifcpjnhmjaaGreatDoor
open Go Go.HL Go.Wk
attribute [local irreducible] ptrW ifW brW andW rdT alW letJ stW muW biW vaW imW callT cvalT app callW invW callVW sizeT oW nilF oneK loopW rfW funW begW roundK exW idxW Gr Put
theorem el_strM : ElT Tryz.prog 38 9 1 := elT_of (by kernel_rfl) (by decide) (by kernel_rfl)
theorem RowsOwn.cap {σ : H} {e : TypeId} {n : Nat} {rows : List (List Value)} {x : Sl} (h:RowsOwn σ e n rows x) : x.len <= x.cap := by
 obtain ⟨h1,h2,⟨_,h4,h5⟩ | ⟨g,cur,a1,a2,a3,a4,a5⟩⟩ := h
 ·rw [h1,h5,h4];exact Nat.le_refl _
 ·exact a4
theorem lits {σ σ' : H} {b : Nat} (l:List ByteArray) (hg:Gr σ σ') (hn:σ b = none) (hb:σ' b = some (.cells ⟨l.map Value.string⟩ 9 (0,0))) : RNew σ σ' 9 1 (strRows l) ⟨some ⟨b,0,none⟩,l.length,l.length⟩ := by
 refine ⟨hg,⟨(strRows_len l).symm,fun r hr => ?_,.inr ⟨b,_,rfl,hb,by simp,Nat.le_refl _,?_⟩⟩,fun g hg => ?_⟩
 ·obtain ⟨s,_,rfl⟩ := List.mem_map.1 hr;rfl
 ·have : ∀ l : List ByteArray, (strRows l).flatten = l.map Value.string := by
   intro l
   induction l with
   | nil => rfl
   | cons a r ih => show _ :: (strRows r).flatten = _;rw [ih];rfl
  rw [this,List.take_of_length_le (by simp)]
 ·cases hg;exact hn
def cutW (n:Nat) (s:ByteArray) : ByteArray := s.extract 0 (min s.size n)
theorem cutW_size (n:Nat) (s:ByteArray) : (cutW n s).size <= n := by unfold cutW;rw [ByteArray.size_extract];omega
theorem cutW_min (n:Nat) (s:ByteArray) : (if ((n:Nat) : Int) < ((s.size:Nat) : Int) then ((n:Nat) : Int) else ((s.size:Nat) : Int)) = ((min s.size n:Nat) : Int) := by split <;> omega
theorem strs_snoc (l:List ByteArray) (s:ByteArray) : strRows l ++ [[.string s]] = strRows (l ++ [s]) := by simp [strRows]
theorem sz_InodeR : sizeT Tryz.prog 113 = some 4 := by kernel_rfl
section
variable {σ : H} {br : Nat} {A : AT} {D : Nat -> Prop} {N : Nat}
theorem codeP_t (b:Bool) : codeP (b,true) = if b = true then 1 else 0 := rfl
theorem r_asked (hI:Wk.Inv A) (hB:Bd N A) (hN:N <= 100000000) (hR:RfAt σ br A D) (nm inn cwd q s:ByteArray) (x:Sl) {K : KH} (hK:K (.int .i64 (codeP (A.aboutP cwd q s))) σ) : callW Tryz.prog 153 [.pointer (some ⟨br,0,none⟩),.agg ⟨[.string nm,.slice x.base x.len x.cap,.string inn,.string cwd]⟩,.string q,.string s] K σ := by
 refine pure_i _ hK (c153 _ _ _ _ _ _ _ ?_)
 clear hK
 unfold g153
 obtain ⟨M,hM,_⟩ := hR
 refine al_i ?_;intro b8 σ1 g1 e1 n1
 refine j_i (fun j => ∀ (fo:Bool) (b:Nat) (L:Int) (τ:H),fo = (!sEq q ⟨⟨[45,76]⟩⟩ && !sEq q ⟨⟨[45,104]⟩⟩) -> Gr σ τ -> τ b = some (.cells ⟨[.int .i64 (A.stat cwd s fo).2.kind,.int .i64 (A.stat cwd s fo).2.mode,.string (A.stat cwd s fo).2.data,.int .i64 L]⟩ 113 (0,0)) -> j q s (some ⟨b,0,none⟩) (A.stat cwd s fo).1 τ) ?_ ?_
 case refine_2 =>
  intro j hj
  refine rd_S (rdC_of e1 (by rfl)) ?_
  simp only [<- sEq_eq]
  cases c : sEq q ⟨⟨[45,76]⟩⟩ with
  | false =>
   refine br_t rfl (call_i (s_rfStat hI hB hN (hM.gr g1) cwd s (!sEq q ⟨⟨[45,104]⟩⟩) ?_))
   intro σ2 L g2
   (refine app_of rfl ?_;try dsimp only)
   refine al_i ?_;intro b45 σ3 g3 e3 n3
   refine st_i2 e3 sz_InodeR (by rfl) (by rfl) ?_;intro σ4 p4
   exact hj (!sEq q ⟨⟨[45,104]⟩⟩) b45 L σ4 (by rw [c];rfl) (((g1.trans g2).trans g3).putF p4 (none_of (g1.trans g2) n3)) p4.same
  | true =>
   refine br_f rfl (call_i (s_rfStat hI hB hN (hM.gr g1) cwd s false ?_))
   intro σ2 L g2
   (refine app_of rfl ?_;try dsimp only)
   refine al_i ?_;intro b45 σ3 g3 e3 n3
   refine st_i2 e3 sz_InodeR (by rfl) (by rfl) ?_;intro σ4 p4
   exact hj false b45 L σ4 (by rw [c];rfl) (((g1.trans g2).trans g3).putF p4 (none_of (g1.trans g2) n3)) p4.same
 intro fo b L τ hfo hg hb
 refine j_i (fun j => ∀ is : Bool,codeP (A.aboutP cwd q s) = (if is = true then 1 else 0) -> j is τ) ?_ ?_
 ·intro is his
  cases is with
  | true => exact br_t rfl ⟨by rw [his];rfl,hg⟩
  | false => exact br_f rfl ⟨by rw [his];rfl,hg⟩
 intro j14 hj14
 simp only [<- sEq_eq]
 cases c0 : sEq q ⟨⟨[45,110]⟩⟩ with
 | true =>
  obtain rfl := sEq_iff.1 c0
  exact br_t rfl (hj14 _ rfl)
 | false =>
 refine br_f rfl ?_
 cases c1 : sEq q ⟨⟨[45,122]⟩⟩ with
 | true =>
  obtain rfl := sEq_iff.1 c1
  exact br_t rfl (hj14 _ rfl)
 | false =>
 refine br_f rfl ?_
 cases c2 : sEq q ⟨⟨[45,101]⟩⟩ with
 | true =>
  obtain rfl := sEq_iff.1 c2
  obtain rfl : fo = true := hfo
  refine br_t rfl (hj14 _ ?_)
  show codeP (A.ofP cwd s true fun _ => true,true) = _
  rw [codeP_t]
  unfold AT.ofP
  rw [Bool.and_true]
 | false =>
 refine br_f rfl ?_
 cases c3 : sEq q ⟨⟨[45,102]⟩⟩ with
 | true =>
  obtain rfl := sEq_iff.1 c3
  obtain rfl : fo = true := hfo
  have ha : A.aboutP cwd ⟨⟨[45,102]⟩⟩ s = ((A.stat cwd s true).1 == 0 && (A.stat cwd s true).2.kind == 1,true) := rfl
  rw [ha,codeP_t] at hj14
  refine br_t rfl ?_
  cases he : (A.stat cwd s true).1 == 0 with
  | false => exact br_f rfl (hj14 _ (by rw [he];rfl))
  | true => exact br_t rfl (ptr_i (rd_I (rdC_of hb (by rfl)) (hj14 _ (by rw [he];rfl))))
 | false =>
 refine br_f rfl ?_
 cases c4 : sEq q ⟨⟨[45,100]⟩⟩ with
 | true =>
  obtain rfl := sEq_iff.1 c4
  obtain rfl : fo = true := hfo
  have ha : A.aboutP cwd ⟨⟨[45,100]⟩⟩ s = ((A.stat cwd s true).1 == 0 && (A.stat cwd s true).2.kind == 2,true) := rfl
  rw [ha,codeP_t] at hj14
  refine br_t rfl ?_
  cases he : (A.stat cwd s true).1 == 0 with
  | false => exact br_f rfl (hj14 _ (by rw [he];rfl))
  | true => exact br_t rfl (ptr_i (rd_I (rdC_of hb (by rfl)) (hj14 _ (by rw [he];rfl))))
 | false =>
 refine br_f rfl (j_d ?_)
 cases c5 : sEq q ⟨⟨[45,76]⟩⟩ with
 | true =>
  obtain rfl := sEq_iff.1 c5
  obtain rfl : fo = false := hfo
  have ha : A.aboutP cwd ⟨⟨[45,76]⟩⟩ s = ((A.stat cwd s false).1 == 0 && (A.stat cwd s false).2.kind == 3,true) := rfl
  rw [ha,codeP_t] at hj14
  refine br_t rfl (br_t rfl ?_)
  cases he : (A.stat cwd s false).1 == 0 with
  | false => exact br_f rfl (hj14 _ (by rw [he];rfl))
  | true => exact br_t rfl (ptr_i (rd_I (rdC_of hb (by rfl)) (hj14 _ (by rw [he];rfl))))
 | false =>
 cases c6 : sEq q ⟨⟨[45,104]⟩⟩ with
 | true =>
  obtain rfl := sEq_iff.1 c6
  obtain rfl : fo = false := hfo
  have ha : A.aboutP cwd ⟨⟨[45,104]⟩⟩ s = ((A.stat cwd s false).1 == 0 && (A.stat cwd s false).2.kind == 3,true) := rfl
  rw [ha,codeP_t] at hj14
  refine br_f rfl (br_t rfl ?_)
  cases he : (A.stat cwd s false).1 == 0 with
  | false => exact br_f rfl (hj14 _ (by rw [he];rfl))
  | true => exact br_t rfl (ptr_i (rd_I (rdC_of hb (by rfl)) (hj14 _ (by rw [he];rfl))))
 | false =>
 refine br_f rfl (br_f rfl ?_)
 cases c7 : sEq q ⟨⟨[45,120]⟩⟩ with
 | true =>
  obtain rfl := sEq_iff.1 c7
  obtain rfl : fo = true := hfo
  have ha : A.aboutP cwd ⟨⟨[45,120]⟩⟩ s = ((A.stat cwd s true).1 == 0 && xbit (A.stat cwd s true).2.mode,true) := rfl
  rw [ha,codeP_t] at hj14
  refine br_t rfl ?_
  cases he : (A.stat cwd s true).1 == 0 with
  | false => exact br_f rfl (hj14 _ (by rw [he];rfl))
  | true => exact br_t rfl (ptr_i (rd_I (rdC_of hb (by rfl)) (hj14 _ (by rw [he];rfl))))
 | false =>
 refine br_f rfl ?_
 cases c8 : sEq q ⟨⟨[45,115]⟩⟩ with
 | true =>
  obtain rfl := sEq_iff.1 c8
  obtain rfl : fo = true := hfo
  have ha : A.aboutP cwd ⟨⟨[45,115]⟩⟩ s = ((A.stat cwd s true).1 == 0 && ((A.stat cwd s true).2.kind == 1 && !sEq (A.stat cwd s true).2.data ⟨⟨[]⟩⟩),true) := rfl
  rw [ha,codeP_t] at hj14
  refine br_t rfl ?_
  cases he : (A.stat cwd s true).1 == 0 with
  | false => exact br_f rfl (hj14 _ (by rw [he];rfl))
  | true =>
   refine br_t rfl (ptr_i (rd_I (rdC_of hb (by rfl)) ?_))
   cases hk : (A.stat cwd s true).2.kind == 1 with
   | false => exact br_f rfl (hj14 _ (by rw [he,hk];rfl))
   | true => exact br_t rfl (ptr_i (rd_S (rdC_of hb (by rfl)) (hj14 _ (by rw [he,hk];rfl))))
 | false =>
 refine br_f rfl ⟨?_,hg⟩
 have ha : A.aboutP cwd q s = (false,false) := by
  unfold AT.aboutP
  rw [c0,c1,c2,c3,c4,c5,c6,c7,c8];rfl
 rw [ha];rfl
theorem r_between (a q b:ByteArray) (ha:a.size <= 1000000000) (hb:b.size <= 1000000000) (hq:q ∈ opsL) {K : KH} (hK:K (.int .i64 (codeP ((betweenP a q b).1,(betweenP a q b).2.2))) σ) : callW Tryz.prog 152 [.string a,.string q,.string b] K σ := by
 refine c152 _ _ _ ?_
 unfold g152
 refine j_i (fun j => ∀ is : Bool,codeP ((betweenP a q b).1,(betweenP a q b).2.2) = (if is = true then 1 else 0) -> j is σ) ?_ ?_
 ·intro is his
  rw [his] at hK
  cases is with
  | true => exact br_t rfl hK
  | false => exact br_f rfl hK
 intro j4 hj4
 simp only [<- sEq_eq]
 have two : ∀ {F : Int -> Bool -> Int -> Bool -> H -> Prop},F ((wholeP a).getD 0) (wholeP a).isSome ((wholeP b).getD 0) (wholeP b).isSome σ -> callT Tryz.prog 105 [.string a] (.tup [.sc (.int .i64),.sc .bool]) (fun x1 x2 => callT Tryz.prog 105 [.string b] (.tup [.sc (.int .i64),.sc .bool]) (fun x3 x4 => F x1 x2 x3 x4)) σ := by
  intro F hF
  refine call_i (r_whole a.data.toList (by rw [<- size_list];exact ha) ?_)
  rw [show (⟨⟨a.data.toList⟩⟩ : ByteArray) = a from rfl]
  (refine app_of rfl ?_;try dsimp only)
  refine call_i (r_whole b.data.toList (by rw [<- size_list];exact hb) ?_)
  rw [show (⟨⟨b.data.toList⟩⟩ : ByteArray) = b from rfl]
  (refine app_of rfl ?_;try dsimp only)
  exact hF
 unfold opsL at hq
 simp only [List.mem_cons,List.mem_nil_iff,or_false] at hq
 rcases hq with rfl | rfl | rfl | rfl | rfl | rfl | rfl | rfl | rfl | rfl
 ·exact br_t rfl (hj4 _ rfl)
 ·exact br_f rfl (br_t rfl (hj4 _ rfl))
 ·refine br_f rfl (br_f rfl (br_t rfl ?_))
  have he : codeP ((betweenP a ⟨⟨[45,97]⟩⟩ b).1,(betweenP a ⟨⟨[45,97]⟩⟩ b).2.2) = if (!sEq a ⟨⟨[]⟩⟩ && !sEq b ⟨⟨[]⟩⟩) = true then 1 else 0 := rfl
  rw [he] at hj4
  cases hs : sEq a ⟨⟨[]⟩⟩ with
  | true => exact br_f rfl (hj4 _ (by rw [hs];rfl))
  | false => exact br_t rfl (hj4 _ (by rw [hs];rfl))
 ·refine br_f rfl (br_f rfl (br_f rfl (br_t rfl ?_)))
  have he : codeP ((betweenP a ⟨⟨[45,111]⟩⟩ b).1,(betweenP a ⟨⟨[45,111]⟩⟩ b).2.2) = if (!sEq a ⟨⟨[]⟩⟩ || !sEq b ⟨⟨[]⟩⟩) = true then 1 else 0 := rfl
  rw [he] at hj4
  cases hs : sEq a ⟨⟨[]⟩⟩ with
  | true => exact br_f rfl (hj4 _ (by rw [hs];rfl))
  | false => exact br_t rfl (hj4 _ (by rw [hs];rfl))
 ·refine br_f rfl (br_f rfl (br_f rfl (br_f rfl (j_d ?_))))
  refine br_t rfl (br_t rfl (two ?_))
  have he : betweenP a ⟨⟨[45,101,113]⟩⟩ b = (match wholeP a,wholeP b with | some x,some y => (x == y,true,true) | _,_ => (false,true,false)) := rfl
  rw [he] at hj4 hK
  cases hwa : wholeP a with
  | none =>
   rw [hwa] at hK
   exact j_d (br_t rfl (br_t rfl hK))
  | some x =>
  cases hwb : wholeP b with
  | none =>
   rw [hwa,hwb] at hK
   exact j_d (br_f rfl (br_t rfl hK))
  | some y =>
   rw [hwa,hwb] at hj4
   replace hj4 : ∀ is : Bool,codeP (x == y,true) = (if is = true then 1 else 0) -> j4 is σ := hj4
   rw [codeP_t] at hj4
   refine j_d (br_f rfl (br_f rfl ?_))
   refine br_t rfl ?_
   show brW (x == y) _ _ σ
   cases hc : (x == y) with
   | true => exact br_t rfl (hj4 true (by rw [hc]))
   | false => exact br_f rfl (br_f rfl (br_f rfl (br_f rfl (br_f rfl (br_f rfl (hj4 false (by rw [hc])))))))
 ·refine br_f rfl (br_f rfl (br_f rfl (br_f rfl (j_d ?_))))
  refine br_f rfl (br_t rfl (br_t rfl (two ?_)))
  have he : betweenP a ⟨⟨[45,110,101]⟩⟩ b = (match wholeP a,wholeP b with | some x,some y => (x != y,true,true) | _,_ => (false,true,false)) := rfl
  rw [he] at hj4 hK
  cases hwa : wholeP a with
  | none =>
   rw [hwa] at hK
   exact j_d (br_t rfl (br_t rfl hK))
  | some x =>
  cases hwb : wholeP b with
  | none =>
   rw [hwa,hwb] at hK
   exact j_d (br_f rfl (br_t rfl hK))
  | some y =>
   rw [hwa,hwb] at hj4
   replace hj4 : ∀ is : Bool,codeP (x != y,true) = (if is = true then 1 else 0) -> j4 is σ := hj4
   rw [codeP_t] at hj4
   refine j_d (br_f rfl (br_f rfl ?_))
   refine br_f rfl (br_t rfl ?_)
   show brW (x != y) _ _ σ
   cases hc : (x != y) with
   | true => exact br_t rfl (hj4 true (by rw [hc]))
   | false => exact br_f rfl (br_f rfl (br_f rfl (br_f rfl (br_f rfl (hj4 false (by rw [hc]))))))
 ·refine br_f rfl (br_f rfl (br_f rfl (br_f rfl (j_d ?_))))
  refine br_f rfl (br_f rfl (br_t rfl (br_t rfl (two ?_))))
  have he : betweenP a ⟨⟨[45,108,116]⟩⟩ b = (match wholeP a,wholeP b with | some x,some y => (decide (x < y),true,true) | _,_ => (false,true,false)) := rfl
  rw [he] at hj4 hK
  cases hwa : wholeP a with
  | none =>
   rw [hwa] at hK
   exact j_d (br_t rfl (br_t rfl hK))
  | some x =>
  cases hwb : wholeP b with
  | none =>
   rw [hwa,hwb] at hK
   exact j_d (br_f rfl (br_t rfl hK))
  | some y =>
   rw [hwa,hwb] at hj4
   replace hj4 : ∀ is : Bool,codeP (decide (x < y),true) = (if is = true then 1 else 0) -> j4 is σ := hj4
   rw [codeP_t] at hj4
   refine j_d (br_f rfl (br_f rfl ?_))
   refine br_f rfl (br_f rfl (br_t rfl ?_))
   show brW (decide (x < y)) _ _ σ
   cases hc : (decide (x < y)) with
   | true => exact br_t rfl (hj4 true (by rw [hc]))
   | false => exact br_f rfl (br_f rfl (br_f rfl (br_f rfl (hj4 false (by rw [hc])))))
 ·refine br_f rfl (br_f rfl (br_f rfl (br_f rfl (j_d ?_))))
  refine br_f rfl (br_f rfl (br_f rfl (br_t rfl (br_t rfl (two ?_)))))
  have he : betweenP a ⟨⟨[45,108,101]⟩⟩ b = (match wholeP a,wholeP b with | some x,some y => (decide (x <= y),true,true) | _,_ => (false,true,false)) := rfl
  rw [he] at hj4 hK
  cases hwa : wholeP a with
  | none =>
   rw [hwa] at hK
   exact j_d (br_t rfl (br_t rfl hK))
  | some x =>
  cases hwb : wholeP b with
  | none =>
   rw [hwa,hwb] at hK
   exact j_d (br_f rfl (br_t rfl hK))
  | some y =>
   rw [hwa,hwb] at hj4
   replace hj4 : ∀ is : Bool,codeP (decide (x <= y),true) = (if is = true then 1 else 0) -> j4 is σ := hj4
   rw [codeP_t] at hj4
   refine j_d (br_f rfl (br_f rfl ?_))
   refine br_f rfl (br_f rfl (br_f rfl (br_t rfl ?_)))
   show brW (decide (x <= y)) _ _ σ
   cases hc : (decide (x <= y)) with
   | true => exact br_t rfl (hj4 true (by rw [hc]))
   | false => exact br_f rfl (br_f rfl (br_f rfl (hj4 false (by rw [hc]))))
 ·refine br_f rfl (br_f rfl (br_f rfl (br_f rfl (j_d ?_))))
  refine br_f rfl (br_f rfl (br_f rfl (br_f rfl (br_t rfl (br_t rfl (two ?_))))))
  have he : betweenP a ⟨⟨[45,103,116]⟩⟩ b = (match wholeP a,wholeP b with | some x,some y => (decide (x > y),true,true) | _,_ => (false,true,false)) := rfl
  rw [he] at hj4 hK
  cases hwa : wholeP a with
  | none =>
   rw [hwa] at hK
   exact j_d (br_t rfl (br_t rfl hK))
  | some x =>
  cases hwb : wholeP b with
  | none =>
   rw [hwa,hwb] at hK
   exact j_d (br_f rfl (br_t rfl hK))
  | some y =>
   rw [hwa,hwb] at hj4
   replace hj4 : ∀ is : Bool,codeP (decide (x > y),true) = (if is = true then 1 else 0) -> j4 is σ := hj4
   rw [codeP_t] at hj4
   refine j_d (br_f rfl (br_f rfl ?_))
   refine br_f rfl (br_f rfl (br_f rfl (br_f rfl (br_t rfl ?_))))
   show brW (decide (x > y)) _ _ σ
   cases hc : (decide (x > y)) with
   | true => exact br_t rfl (hj4 true (by rw [hc]))
   | false => exact br_f rfl (br_f rfl (hj4 false (by rw [hc])))
 ·refine br_f rfl (br_f rfl (br_f rfl (br_f rfl (j_d ?_))))
  refine br_f rfl (br_f rfl (br_f rfl (br_f rfl (br_f rfl (br_t rfl (two ?_))))))
  have he : betweenP a ⟨⟨[45,103,101]⟩⟩ b = (match wholeP a,wholeP b with | some x,some y => (decide (x >= y),true,true) | _,_ => (false,true,false)) := rfl
  rw [he] at hj4 hK
  cases hwa : wholeP a with
  | none =>
   rw [hwa] at hK
   exact j_d (br_t rfl (br_t rfl hK))
  | some x =>
  cases hwb : wholeP b with
  | none =>
   rw [hwa,hwb] at hK
   exact j_d (br_f rfl (br_t rfl hK))
  | some y =>
   rw [hwa,hwb] at hj4
   replace hj4 : ∀ is : Bool,codeP (decide (x >= y),true) = (if is = true then 1 else 0) -> j4 is σ := hj4
   rw [codeP_t] at hj4
   refine j_d (br_f rfl (br_f rfl ?_))
   refine br_f rfl (br_f rfl (br_f rfl (br_f rfl (br_f rfl (br_t rfl ?_)))))
   exact hj4 _ rfl
theorem between_some (a q b:ByteArray) : (betweenP a q b).2.1 = opsL.any (fun o => sEq o q) := by
 by_cases hq : q ∈ opsL
 ·have : opsL.any (fun o => sEq o q) = true := List.any_eq_true.2 ⟨q,hq,sEq_iff.2 rfl⟩
  rw [this]
  unfold opsL at hq
  simp only [List.mem_cons,List.mem_nil_iff,or_false] at hq
  have num : ∀ f : Int -> Int -> Bool,(match wholeP a,wholeP b with | some x,some y => (f x y,true,true) | _,_ => (false,true,false) : Bool × Bool × Bool).2.1 = true := by
   intro f
   cases wholeP a with
   | none => rfl
   | some x => cases wholeP b <;> rfl
  rcases hq with rfl | rfl | rfl | rfl | rfl | rfl | rfl | rfl | rfl | rfl
  ·rfl
  ·rfl
  ·rfl
  ·rfl
  ·exact num fun x y => x == y
  ·exact num fun x y => x != y
  ·exact num fun x y => decide (x < y)
  ·exact num fun x y => decide (x <= y)
  ·exact num fun x y => decide (x > y)
  ·exact num fun x y => decide (x >= y)
 ·rw [between_no hq]
  symm
  rw [List.any_eq_false]
  intro o ho
  rw [sEq_iff]
  intro e;rw [<- e] at hq;exact hq ho
theorem r_middle (q:ByteArray) {K : KH} (hK:K (.bool (opsL.any fun o => sEq o q)) σ) : callW Tryz.prog 151 [.string q] K σ := by
 refine pure_i _ hK (c151 _ ?_)
 clear hK
 unfold g151
 refine al_i ?_;intro b2 σ1 g1 e1 n1
 have hx : RowsAt σ1 1 (strRows opsL) ⟨some ⟨b2,0,none⟩,10,10⟩ := (lits opsL g1 n1 e1).at
 refine loop_i ?_
 intro R hR
 have key : ∀ (c i:Nat),c + i = 10 -> (opsL.any fun o => sEq o q) = ((opsL.drop i).any fun o => sEq o q) -> R q ⟨some ⟨b2,0,none⟩,10,10⟩ (i:Int) σ1 := by
  intro c
  induction c with
  | zero =>
   intro i hc hi
   have : i = 10 := by omega
   subst this
   refine hR _ _ _ _ (br_f (show decide (((10:Nat) : Int) < ((10:Nat) : Int)) = false from by decide) ⟨?_,g1⟩)
   rw [hi];rfl
  | succ c ih =>
   intro i hc hi
   obtain ⟨o,ho⟩ : ∃ o,opsL[i]? = some o := ⟨_,List.getElem?_eq_getElem (by show i < 10;omega)⟩
   obtain ⟨g,oo,a1,a2,a3⟩ := sRow hx ho
   cases a1
   have hd : opsL.drop i = o :: opsL.drop (i + 1) := by
    obtain ⟨h1,h2⟩ := List.getElem?_eq_some_iff.1 ho
    rw [List.drop_eq_getElem_cons h1,h2]
   rw [hd,List.any_cons] at hi
   refine hR _ _ _ _ (br_t (by show decide ((i:Int) < ((10:Nat) : Int)) = true;rw [decide_eq_true_eq];omega) ?_)
   refine ptr_i (if_i ⟨by omega,by show (i:Int) < ((10:Nat) : Int);omega⟩ (rd_S (by rw [Int.toNat_natCast];exact a3) ?_))
   rw [<- sEq_eq]
   cases hs : sEq o q with
   | true =>
    rw [hs,Bool.true_or] at hi
    exact br_t rfl ⟨by rw [hi],g1⟩
   | false =>
    rw [hs,Bool.false_or] at hi
    refine br_f rfl ?_
    rw [wrapS (i := i) (by omega)]
    exact ih (i + 1) (by omega) hi
 exact key 10 0 rfl rfl
theorem codeP_neg (x:Bool × Bool) : codeP (!x.1,x.2) = if codeP x == 2 then 2 else 1 - codeP x := by
 obtain ⟨a,b⟩ := x
 cases a <;> cases b <;> rfl
theorem codeP_rng (x:Bool × Bool) : 0 <= codeP x /\ codeP x <= 2 := by
 obtain ⟨a,b⟩ := x
 cases a <;> cases b <;> decide
theorem r_so (hI:Wk.Inv A) (hB:Bd N A) (hN:N <= 100000000) (nm inn cwd:ByteArray) (x:Sl) : ∀ (l:List ByteArray) (y:Sl) {σ : H},RfAt σ br A D -> RowsAt σ 1 (strRows l) y -> y.len <= y.cap -> (∀ a ∈ l,a.size <= 1000000000) -> l.length <= 1000 -> ∀ {K : KH},K (.int .i64 (codeP (A.soP cwd l))) σ ->
 callW Tryz.prog 108 [.pointer (some ⟨br,0,none⟩),.agg ⟨[.string nm,.slice x.base x.len x.cap,.string inn,.string cwd]⟩,.slice y.base y.len y.cap] K σ := by
 intro l
 induction l with
 | nil =>
  intro y σ hF hy hc hz hl K hK
  refine pure_i _ hK (c108 _ _ _ _ _ _ ?_)
  clear hK
  unfold g108
  have hyl := sLen hy
  refine al_i ?_;intro b7 σ1 g1 e1 n1
  exact br_t (by rw [hyl];rfl) ⟨rfl,g1⟩
 | cons a l ih =>
  intro y σ hF hy hc hz hl K hK
  refine pure_i _ hK (c108 _ _ _ _ _ _ ?_)
  clear hK
  unfold g108
  have hyl := sLen hy
  refine al_i ?_;intro b7 σ1 g1 e1 n1
  have hy1 := hy.gr g1
  obtain ⟨g,o,a1,a2,a3⟩ := sRow hy1 (i := 0) (s := a) rfl
  rw [List.length_cons] at hyl hl
  refine br_f (by rw [beq_eq_false_iff_ne];omega) ?_
  cases l with
  | nil =>
   refine br_t (by rw [hyl];rfl) ?_
   rw [a1]
   refine ptr_i (if_i ⟨by decide,by omega⟩ (rd_S a3 ?_))
   rw [<- sEq_eq]
   have : A.soP cwd [a] = (!sEq a ⟨⟨[]⟩⟩,true) := rfl
   rw [this,codeP_t]
   cases sEq a ⟨⟨[]⟩⟩ with
   | true => exact br_f rfl ⟨rfl,g1⟩
   | false => exact br_t rfl ⟨rfl,g1⟩
  | cons b r =>
   rw [List.length_cons] at hyl hl
   obtain ⟨g',o',b1,b2,b3⟩ := sRow hy1 (i := 1) (s := b) rfl
   rw [a1] at b1
   cases b1
   refine br_f (by rw [beq_eq_false_iff_ne];omega) ?_
   refine j_i (fun j => ∀ cb : Bool,cb = (r.length == 1 && opsL.any (fun o => sEq o b)) -> j (some ⟨br,0,none⟩) y (some ⟨b7,0,none⟩) cb σ1) ?_ ?_
   case refine_2 =>
    intro j hj
    by_cases h3 : r.length = 1
    ·refine br_t (by rw [beq_iff_eq];omega) ?_
     rw [a1]
     refine ptr_i (if_i ⟨by decide,by omega⟩ (rd_S b3 (call_i (r_middle b (app_B ?_)))))
     exact hj _ (by rw [h3];rfl)
    ·refine br_f (by rw [beq_eq_false_iff_ne];omega) (hj _ ?_)
     have : (r.length == 1) = false := by simpa using h3
     rw [this];rfl
   intro cb hcb
   cases cb with
   | true =>
    have hcb' := hcb.symm
    rw [Bool.and_eq_true,beq_iff_eq] at hcb'
    obtain ⟨h3,h4⟩ := hcb'
    obtain ⟨c,rfl⟩ := List.length_eq_one_iff.1 h3
    obtain ⟨g2,o2,c1,c2,c3⟩ := sRow hy1 (i := 2) (s := c) rfl
    rw [a1] at c1
    cases c1
    have hbm : b ∈ opsL := by
     obtain ⟨o,ho1,ho2⟩ := List.any_eq_true.1 h4
     rw [<- sEq_iff.1 ho2];exact ho1
    refine br_t rfl ?_
    rw [a1]
    refine ptr_i (if_i ⟨by decide,by omega⟩ (rd_S a3 (ptr_i (if_i ⟨by decide,by omega⟩ (rd_S b3 (ptr_i (if_i ⟨by decide,by omega⟩ (rd_S c3 ?_))))))))
    refine call_i (r_between a b c (hz a (by simp)) (hz c (by simp)) hbm (app_I ⟨?_,g1⟩))
    rw [soP_many,between_some,h4];rfl
   | false =>
    have hno : ∀ c,r = [c] -> (betweenP a b c).2.1 = false := by
     intro c hc
     subst hc
     rw [between_some]
     have := hcb.symm
     simpa using this
    have hso := so_rest A cwd a b r hno
    refine br_f rfl ?_
    refine j_i (fun j => ∀ cb : Bool,cb = (decide ((a :: b :: r).length <= 4) && sEq a ⟨⟨[33]⟩⟩) -> j (some ⟨br,0,none⟩) y (some ⟨b7,0,none⟩) cb σ1) ?_ ?_
    case refine_2 =>
     intro j hj
     have hlen : (a :: b :: r).length = r.length + 2 := rfl
     by_cases h4 : (a :: b :: r).length <= 4
     ·refine br_t (by rw [decide_eq_true_eq];omega) ?_
      rw [a1]
      refine ptr_i (if_i ⟨by decide,by omega⟩ (rd_S a3 ?_))
      rw [<- sEq_eq]
      exact hj _ (by rw [decide_eq_true h4,Bool.true_and])
     ·exact br_f (by rw [decide_eq_false_iff_not];omega) (hj _ (by rw [decide_eq_false h4];rfl))
    intro cb hcb2
    rw [<- hcb2] at hso
    cases cb with
    | true =>
     rw [if_pos rfl] at hso
     rw [hso,codeP_neg]
     refine br_t rfl (ptr_i (rd_G (rdA_of' e1 (by rfl)) ?_))
     (refine app_of rfl ?_;try dsimp only)
     refine if_i ⟨bnd_none,bnd_some (by decide) (by omega)⟩ ?_
     refine call_i (ih ⟨slBase y.base ((1:Int).toNat) y.cap 1,y.len - ((1:Int).toNat),y.cap - ((1:Int).toNat)⟩ (hF.gr g1) (sTail hy1 hc) (by show y.len - 1 <= y.cap - 1;omega) (fun c h => hz c (List.mem_cons_of_mem _ h)) (by rw [List.length_cons];omega) (app_I ?_))
     have hrg := codeP_rng (A.soP cwd (b :: r))
     cases h2 : codeP (A.soP cwd (b :: r)) == 2 with
     | true => exact br_t rfl ⟨rfl,g1⟩
     | false =>
      refine br_f rfl ⟨?_,g1⟩
      rw [wrap_id (by omega) (by omega)];rfl
    | false =>
     rw [if_neg (by simp)] at hso
     rw [hso]
     refine br_f rfl ?_
     cases r with
     | nil =>
      refine br_t (by rw [hyl];rfl) (ptr_i (rd_G (rdA_of' e1 (by rfl)) ?_))
      (refine app_of rfl ?_;try dsimp only)
      rw [a1]
      refine ptr_i (if_i ⟨by decide,by omega⟩ (rd_S a3 (ptr_i (if_i ⟨by decide,by omega⟩ (rd_S b3 ?_)))))
      exact call_i (r_asked hI hB hN (hF.gr g1) nm inn cwd a b x (app_I ⟨rfl,g1⟩))
     | cons c r => exact br_f (by rw [beq_eq_false_iff_ne];simp only [List.length_cons] at hyl;omega) ⟨rfl,g1⟩
theorem r_test (hI:Wk.Inv A) (hB:Bd N A) (hN:N <= 100000000) (hF:RfAt σ br A D) (nm inn cwd:ByteArray) {x : Sl} {args : List ByteArray} (hx:RowsAt σ 1 (strRows args) x) (hc:x.len <= x.cap) (hn:nm.size <= 1000) (ha:∀ a ∈ args,a.size <= 1000) (hl:args.length <= 20) {K : KH} (hK:K (.agg ⟨dnV (A.testP cwd nm args)⟩) σ) :
 callW Tryz.prog 56 [.pointer (some ⟨br,0,none⟩),.agg ⟨[.string nm,.slice x.base x.len x.cap,.string inn,.string cwd]⟩] K σ := by
 refine pure_i _ hK (c56 _ _ _ _ _ ?_)
 clear hK
 unfold g56
 rw [testP_def]
 have hxl := sLen hx
 refine al_i ?_;intro b6 σ1 g1 e1 n1
 refine al_i ?_;intro b7 σ2 g2 e2 n2
 have k6 := g2.get e1
 have G2 := g1.trans g2
 have f7 : σ b7 = none := none_of g1 n2
 generalize hR : (if sEq nm ⟨⟨[91]⟩⟩ then (match args.getLast? with | none => usageP nm | some z => if sEq z ⟨⟨[93]⟩⟩ then doneOf nm (A.soP cwd args.dropLast) else usageP nm) else doneOf nm (A.soP cwd args)) = R
 refine rd_Y (y := x) (rdC_of k6 (by rfl)) ?_
 refine j_i (fun j => ∀ (l:List ByteArray) (y:Sl),RowsAt σ2 1 (strRows l) y -> y.len <= y.cap -> (∀ a ∈ l,a.size <= 1000) -> l.length <= 20 -> R = doneOf nm (A.soP cwd l) -> j (some ⟨br,0,none⟩) (some ⟨b6,0,none⟩) (some ⟨b7,0,none⟩) y σ2) ?_ ?_
 ·intro l y hy hyc hyz hyl hRl
  refine ptr_i (rd_G (rdA_of' k6 (by rfl)) ?_)
  (refine app_of rfl ?_;try dsimp only)
  refine call_i (r_so hI hB hN nm inn cwd x l y (hF.gr G2) hy hyc (fun a h => by have := hyz a h;omega) (by omega) (app_I ?_))
  rw [hRl]
  cases h2 : (A.soP cwd l).2 with
  | false =>
   have hcd : codeP (A.soP cwd l) = 2 := by unfold codeP;rw [h2];rfl
   rw [hcd]
   refine br_f rfl (br_f rfl (ptr_i (rd_G (rdA_of' k6 (by rfl)) ?_)))
   (refine app_of rfl ?_;try dsimp only)
   refine call_i (r_usage nm inn cwd x (by omega) ?_)
   unfold dnV
   (refine app_of rfl ?_;try dsimp only)
   refine st_i2 e2 sz_Done (by rfl) (by rfl) ?_;intro σ3 p3
   refine ptr_i (rd_G (rdA_of' p3.same (by rfl)) ?_)
   (refine app_of rfl ?_;try dsimp only)
   exact ⟨by unfold doneOf;rw [h2];rfl,G2.putF p3 f7⟩
  | true =>
   cases h1 : (A.soP cwd l).1 with
   | true =>
    have hcd : codeP (A.soP cwd l) = 1 := by unfold codeP;rw [h2,h1];rfl
    rw [hcd]
    refine br_f rfl (br_t rfl ?_)
    refine st_i2 e2 sz_Done (by rfl) (by rfl) ?_;intro σ3 p3
    refine ptr_i (rd_G (rdA_of' p3.same (by rfl)) ?_)
    (refine app_of rfl ?_;try dsimp only)
    exact ⟨by unfold doneOf;rw [h2,h1];rfl,G2.putF p3 f7⟩
   | false =>
    have hcd : codeP (A.soP cwd l) = 0 := by unfold codeP;rw [h2,h1];rfl
    rw [hcd]
    refine br_t rfl ?_
    refine st_i2 e2 sz_Done (by rfl) (by rfl) ?_;intro σ3 p3
    refine ptr_i (rd_G (rdA_of' p3.same (by rfl)) ?_)
    (refine app_of rfl ?_;try dsimp only)
    exact ⟨by unfold doneOf;rw [h2,h1];rfl,G2.putF p3 f7⟩
 ·intro j hj
  refine rd_S (rdC_of k6 (by rfl)) ?_
  rw [<- sEq_eq]
  cases hb : sEq nm ⟨⟨[91]⟩⟩ with
  | false =>
   rw [hb,if_neg (by simp)] at hR
   exact br_f rfl (hj args x (hx.gr G2) hc ha hl hR.symm)
  | true =>
   rw [hb,if_pos rfl] at hR
   refine br_t rfl ?_
   refine j_i (fun j => ∀ cb : Bool,(cb = true -> R = usageP nm) -> (cb = false -> 1 <= args.length /\ R = doneOf nm (A.soP cwd args.dropLast)) -> j (some ⟨br,0,none⟩) (some ⟨b6,0,none⟩) (some ⟨b7,0,none⟩) x cb σ2) ?_ ?_
   ·intro cb hu hd
    cases cb with
    | true =>
     refine br_t rfl (ptr_i (rd_G (rdA_of' k6 (by rfl)) ?_))
     (refine app_of rfl ?_;try dsimp only)
     refine call_i (r_usage nm inn cwd x (by omega) ?_)
     unfold dnV
     (refine app_of rfl ?_;try dsimp only)
     refine st_i2 e2 sz_Done (by rfl) (by rfl) ?_;intro σ3 p3
     refine ptr_i (rd_G (rdA_of' p3.same (by rfl)) ?_)
     (refine app_of rfl ?_;try dsimp only)
     exact ⟨by rw [hu rfl],G2.putF p3 f7⟩
    | false =>
     obtain ⟨d1,d2⟩ := hd rfl
     have ew : IntKind.i64.wrap (((x.len:Nat) : Int) - 1) = ((x.len - 1 : Nat) : Int) := by rw [wrap_id (by omega) (by omega)];omega
     rw [ew]
     refine br_f rfl (if_i ⟨bnd_some (by omega) (by omega),bnd_none⟩ ?_)
     rw [Int.toNat_natCast]
     exact hj args.dropLast ⟨slBase x.base 0 x.cap 1,x.len - 1 - 0,x.cap - 0⟩ (sInit (hx.gr G2) hc) (by show x.len - 1 - 0 <= x.cap - 0;omega) (fun a h => ha a (List.dropLast_subset _ h)) (by rw [List.length_dropLast];omega) d2
   ·intro j' hj'
    rcases List.eq_nil_or_concat args with rfl | ⟨l,z,rfl⟩
    ·exact br_t (by rw [hxl];rfl) (hj' true (fun _ => hR.symm) (fun h => by cases h))
    ·rw [List.concat_eq_append] at *
     rw [List.length_append,List.length_singleton] at hxl hl
     have ew : IntKind.i64.wrap (((x.len:Nat) : Int) - 1) = ((l.length:Nat) : Int) := by rw [wrap_id (by omega) (by omega)];omega
     rw [ew]
     obtain ⟨g,o,a1,a2,a3⟩ := sRow (hx.gr G2) (i := l.length) (s := z) (by simp)
     rw [List.getLast?_append,List.getLast?_singleton] at hR
     replace hR : (if sEq z ⟨⟨[93]⟩⟩ then doneOf nm (A.soP cwd (l ++ [z]).dropLast) else usageP nm) = R := hR
     refine br_f (by rw [beq_eq_false_iff_ne];omega) ?_
     rw [a1]
     refine ptr_i (if_i ⟨by omega,by omega⟩ (rd_S (by rw [Int.toNat_natCast];exact a3) ?_))
     rw [<- sEq_eq]
     cases hz : sEq z ⟨⟨[93]⟩⟩ with
     | true => rw [hz,if_pos rfl] at hR;exact hj' _ (fun h => by cases h) (fun _ => ⟨by simp,hR.symm⟩)
     | false => rw [hz,if_neg (by simp)] at hR;exact hj' _ (fun _ => hR.symm) (fun h => by cases h)
end
end Go.Proofs.YthclifcpjnhmjaaGreatDoor

set_option maxRecDepth 100000
namespace Go.Proofs.YthclifcpjnhmjaaGreatDoor
open Go Go.HL Go.Wk Go.ChangeShapes Go.WideShapes Go.ChangeAt Go.RowKit
namespace strs1
theorem strs_of {D : Type} {enc : TypeId × Value -> D} {W : World} {m n : Nat} : ∀ {rows : List (List Value)},(∀ r ∈ rows,m < n /\ ∃ d ps,DataW.trod enc Tryz.prog W 0 (fun _ => true) true m 9 r = some (d,ps)) -> ∃ l : List ByteArray,rows = strRows l := by
 intro rows
 induction rows with
 | nil => exact fun _ => ⟨[],rfl⟩
 | cons r rs ih =>
  intro hall
  obtain ⟨l,ha⟩ := ih fun r hr => hall r (List.mem_cons_of_mem _ hr)
  obtain ⟨_,d,ps,hd⟩ := hall r (List.mem_cons_self ..)
  obtain ⟨s,q,_⟩ := DataW.trod_string Tryz.underlying9 hd
  exact ⟨s :: l,by rw [ha,q];rfl⟩
end strs1
end Go.Proofs.YthclifcpjnhmjaaGreatDoor

set_option maxRecDepth 100000
namespace Go.Proofs.YthclifcpjnhmjaaGreatDoor
open Go Go.HL Go.Wk Go.ChangeShapes Go.WideShapes Go.ChangeAt Go.RowKit
namespace use1
theorem cu_string : Tryz.prog.cellsOf 9 = 1 := by kernel_rfl
theorem cu_strs : Tryz.prog.cellsOf 38 = 1 := by kernel_rfl
theorem use_of {D : Type} {enc : TypeId × Value -> D} {W : World} {m : Nat} {r : List Value} {x : DataW D × List MemPlace} (h:DataW.trod enc Tryz.prog W 0 (fun _ => true) true m 44 r = some x) : ∃ (nm:ByteArray) (l:List ByteArray) (y:Sl) (inn cwd:ByteArray),r = [.string nm,.slice y.base y.len y.cap,.string inn,.string cwd] /\ RowsAt (whole W) 1 (strRows l) y := by
 obtain ⟨xs,n,hfu,_,hl,hlen,hf⟩ := DataW.trod_struct Tryz.underlying44 h
 have hl : r.length = 4 := hl.trans (by kernel_rfl)
 have hlen : xs.length = 4 := hlen
 obtain ⟨a0,a1,a2,a3,rfl⟩ : ∃ a0 a1 a2 a3,r = [a0,a1,a2,a3] := by
  match r,hl with
  | [a0,a1,a2,a3],_ => exact ⟨_,_,_,_,rfl⟩
 have g : ∀ i,i < 4 -> ∃ y,xs[i]? = some y := fun i hi => ⟨_,List.getElem?_eq_getElem (by omega)⟩
 have h0 := hf 0 _ rfl
 obtain ⟨y0,e0⟩ := g 0 (by decide)
 rw [e0] at h0
 obtain ⟨s0,q0,_⟩ := DataW.trod_string Tryz.underlying9 h0
 have h1 := hf 1 _ rfl
 obtain ⟨y1,e1⟩ := g 1 (by decide)
 rw [e1] at h1
 have h2 := hf 2 _ rfl
 obtain ⟨y2,e2⟩ := g 2 (by decide)
 rw [e2] at h2
 obtain ⟨s2,q2,_⟩ := DataW.trod_string Tryz.underlying9 h2
 have h3 := hf 3 _ rfl
 obtain ⟨y3,e3⟩ := g 3 (by decide)
 rw [e3] at h3
 obtain ⟨s3,q3,_⟩ := DataW.trod_string Tryz.underlying9 h3
 have q0 : List.take (Tryz.prog.cellsOf 9) (List.drop 0 [a0,a1,a2,a3]) = [.string s0] := q0
 have q2 : List.take (Tryz.prog.cellsOf 9) (List.drop 2 [a0,a1,a2,a3]) = [.string s2] := q2
 have q3 : List.take (Tryz.prog.cellsOf 9) (List.drop 3 [a0,a1,a2,a3]) = [.string s3] := q3
 have h1 : DataW.trod enc Tryz.prog W 0 (fun _ => true) true n 38 (List.take (Tryz.prog.cellsOf 38) (List.drop 1 [a0,a1,a2,a3])) = some y1 := h1
 rw [cu_string] at q0 q2 q3
 rw [cu_strs] at h1
 simp only [List.drop_succ_cons,List.drop_zero,List.take_succ_cons,List.take_zero,List.cons.injEq,and_true] at q0 q2 q3 h1
 obtain ⟨y,rows,hy,hrows,_,k,hall⟩ := rows_of Tryz.underlying38 (show Tryz.prog.cellsOf 9 = 1 by kernel_rfl) (by decide) h1
 obtain ⟨l,rfl⟩ := strs1.strs_of hall
 exact ⟨s0,l,y,s2,s3,by rw [q0,q2,q3,hy],hrows⟩
end use1
end Go.Proofs.YthclifcpjnhmjaaGreatDoor

set_option maxRecDepth 100000
namespace Go.Proofs.YthclifcpjnhmjaaGreatDoor
open Go Go.HL Go.Wk
attribute [local irreducible] ptrW ifW brW andW rdT alW letJ stW muW biW vaW imW callT cvalT app callW invW callVW sizeT oW nilF oneK loopW rfW funW begW roundK exW idxW Gr Put
section
variable {σ : H} {br bf : Nat} {A : AT} {D B : Nat -> Prop} {N : Nat}
theorem r_Run (hI:Wk.Inv A) (hB:Bd N A) (hN:N <= 100000000) (hF:RfAt σ br A D) (nm inn cwd:ByteArray) {x : Sl} {args : List ByteArray} (hx:RowsAt σ 1 (strRows args) x) (hc:x.len <= x.cap) (hT:Tabs σ) (ha:∀ a ∈ args,a.size <= 1000) (hl:args.length <= 20) {K : KH} (hK:K (.tuple ⟨[.agg ⟨dnV (A.runP cwd nm args).1⟩,.bool (A.runP cwd nm args).2]⟩) σ) :
 callW Tryz.prog 20 [.pointer (some ⟨br,0,none⟩),.agg ⟨[.string nm,.slice x.base x.len x.cap,.string inn,.string cwd]⟩] K σ := by
 refine pure_i _ hK (c20 _ _ _ _ _ ?_)
 clear hK
 unfold g20
 generalize hRR : A.runP cwd nm args = RR
 refine al_i ?_;intro b6 σ1 g1 e1 n1
 refine al_i ?_;intro b7 σ2 g2 e2 n2
 have k6 := g2.get e1
 have G2 := g1.trans g2
 have f7 : σ b7 = none := none_of g1 n2
 have hx2 := hx.gr G2
 have hT2 := hT.gr G2
 have hF2 := hF.gr G2
 refine rd_S (rdC_of k6 (by rfl)) ?_
 simp only [<- sEq_eq]
 cases c0 : sEq nm ⟨⟨[116,114,117,101]⟩⟩ with
 | true =>
  obtain rfl := sEq_iff.1 c0
  have hR2 : (yesP,true) = RR := hRR
  subst hR2
  refine br_t rfl ?_
  refine st_i2 e2 sz_Done (by rfl) (by rfl) ?_;intro σ3 p3
  refine (rd_G (rdA_of' p3.same (by rfl)) ?_)
  (refine app_of rfl ?_;try dsimp only)
  exact ⟨rfl,G2.putF p3 f7⟩
 | false =>
 refine br_f rfl ?_
 cases c1 : sEq nm ⟨⟨[102,97,108,115,101]⟩⟩ with
 | true =>
  obtain rfl := sEq_iff.1 c1
  have hR2 : (noP,true) = RR := hRR
  subst hR2
  refine br_t rfl ?_
  refine st_i2 e2 sz_Done (by rfl) (by rfl) ?_;intro σ3 p3
  refine (rd_G (rdA_of' p3.same (by rfl)) ?_)
  (refine app_of rfl ?_;try dsimp only)
  exact ⟨rfl,G2.putF p3 f7⟩
 | false =>
 refine br_f rfl ?_
 cases c2 : sEq nm ⟨⟨[101,99,104,111]⟩⟩ with
 | true =>
  obtain rfl := sEq_iff.1 c2
  have hR2 : (echoP args,true) = RR := hRR
  subst hR2
  refine br_t rfl (rd_G (rdA_of' k6 (by rfl)) ?_)
  (refine app_of rfl ?_;try dsimp only)
  refine call_i (r_echo _ inn cwd hx2 hc ha hl ?_)
  unfold dnV
  (refine app_of rfl ?_;try dsimp only)
  refine st_i2 e2 sz_Done (by rfl) (by rfl) ?_;intro σ3 p3
  refine (rd_G (rdA_of' p3.same (by rfl)) ?_)
  (refine app_of rfl ?_;try dsimp only)
  exact ⟨rfl,G2.putF p3 f7⟩
 | false =>
 refine br_f rfl ?_
 cases c3 : sEq nm ⟨⟨[112,114,105,110,116,102]⟩⟩ with
 | true =>
  obtain rfl := sEq_iff.1 c3
  have hR2 : (printfP ⟨⟨[112,114,105,110,116,102]⟩⟩ args,true) = RR := hRR
  subst hR2
  refine br_t rfl (rd_G (rdA_of' k6 (by rfl)) ?_)
  (refine app_of rfl ?_;try dsimp only)
  refine call_i (r_printf _ inn cwd hx2 hc hT2 (by decide) ha hl ?_)
  intro σ4 g4
  unfold dnV
  (refine app_of rfl ?_;try dsimp only)
  refine st_i2 (g4.get e2) sz_Done (by rfl) (by rfl) ?_;intro σ3 p3
  refine (rd_G (rdA_of' p3.same (by rfl)) ?_)
  (refine app_of rfl ?_;try dsimp only)
  exact ⟨rfl,(G2.trans g4).putF p3 f7⟩
 | false =>
 refine br_f rfl (j_d ?_)
 cases c4 : sEq nm ⟨⟨[116,101,115,116]⟩⟩ with
 | true =>
  obtain rfl := sEq_iff.1 c4
  have hR2 : (A.testP cwd ⟨⟨[116,101,115,116]⟩⟩ args,true) = RR := hRR
  subst hR2
  refine br_t rfl (br_t rfl (ptr_i (rd_G (rdA_of' k6 (by rfl)) ?_)))
  (refine app_of rfl ?_;try dsimp only)
  refine call_i (r_test hI hB hN hF2 _ inn cwd hx2 hc (by decide) ha hl ?_)
  unfold dnV
  (refine app_of rfl ?_;try dsimp only)
  refine st_i2 e2 sz_Done (by rfl) (by rfl) ?_;intro σ3 p3
  refine ptr_i (rd_G (rdA_of' p3.same (by rfl)) ?_)
  (refine app_of rfl ?_;try dsimp only)
  exact ⟨rfl,G2.putF p3 f7⟩
 | false =>
 cases c5 : sEq nm ⟨⟨[91]⟩⟩ with
 | true =>
  obtain rfl := sEq_iff.1 c5
  have hR2 : (A.testP cwd ⟨⟨[91]⟩⟩ args,true) = RR := hRR
  subst hR2
  refine br_f rfl (br_t rfl (ptr_i (rd_G (rdA_of' k6 (by rfl)) ?_)))
  (refine app_of rfl ?_;try dsimp only)
  refine call_i (r_test hI hB hN hF2 _ inn cwd hx2 hc (by decide) ha hl ?_)
  unfold dnV
  (refine app_of rfl ?_;try dsimp only)
  refine st_i2 e2 sz_Done (by rfl) (by rfl) ?_;intro σ3 p3
  refine ptr_i (rd_G (rdA_of' p3.same (by rfl)) ?_)
  (refine app_of rfl ?_;try dsimp only)
  exact ⟨rfl,G2.putF p3 f7⟩
 | false =>
 refine br_f rfl (br_f rfl ?_)
 cases c6 : sEq nm ⟨⟨[98,97,115,101,110,97,109,101]⟩⟩ with
 | true =>
  obtain rfl := sEq_iff.1 c6
  have hR2 : (basenameP ⟨⟨[98,97,115,101,110,97,109,101]⟩⟩ args,true) = RR := hRR
  subst hR2
  refine br_t rfl (ptr_i (rd_G (rdA_of' k6 (by rfl)) ?_))
  (refine app_of rfl ?_;try dsimp only)
  refine call_i (r_base _ inn cwd hx2 (by decide) ha ?_)
  unfold dnV
  (refine app_of rfl ?_;try dsimp only)
  refine st_i2 e2 sz_Done (by rfl) (by rfl) ?_;intro σ3 p3
  refine ptr_i (rd_G (rdA_of' p3.same (by rfl)) ?_)
  (refine app_of rfl ?_;try dsimp only)
  exact ⟨rfl,G2.putF p3 f7⟩
 | false =>
 refine br_f rfl ?_
 cases c7 : sEq nm ⟨⟨[100,105,114,110,97,109,101]⟩⟩ with
 | true =>
  obtain rfl := sEq_iff.1 c7
  have hR2 : (dirnameP ⟨⟨[100,105,114,110,97,109,101]⟩⟩ args,true) = RR := hRR
  subst hR2
  refine br_t rfl (ptr_i (rd_G (rdA_of' k6 (by rfl)) ?_))
  (refine app_of rfl ?_;try dsimp only)
  refine call_i (r_dir _ inn cwd hx2 (by decide) ha ?_)
  unfold dnV
  (refine app_of rfl ?_;try dsimp only)
  refine st_i2 e2 sz_Done (by rfl) (by rfl) ?_;intro σ3 p3
  refine ptr_i (rd_G (rdA_of' p3.same (by rfl)) ?_)
  (refine app_of rfl ?_;try dsimp only)
  exact ⟨rfl,G2.putF p3 f7⟩
 | false =>
 refine br_f rfl ?_
 have hR2 : (Dn.z,false) = RR := by
  rw [<- hRR]
  unfold AT.runP
  rw [c0,c1,c2,c3,c4,c5,c6,c7];rfl
 subst hR2
 refine st_i2 e2 sz_Done (by rfl) (by rfl) ?_;intro σ3 p3
 refine ptr_i (rd_G (rdA_of' p3.same (by rfl)) ?_)
 (refine app_of rfl ?_;try dsimp only)
 exact ⟨rfl,G2.putF p3 f7⟩
theorem s_RunA (hF:FsAt σ bf A B) (nm inn cwd:ByteArray) {x : Sl} {args : List ByteArray} (hx:RowsAt σ 1 (strRows args) x) (hc:x.len <= x.cap) (hT:Tabs σ) (ha:∀ a ∈ args,a.size <= 1000) (hl:args.length <= 20) {K : KH} (hK:K (.tuple ⟨[.agg ⟨dnV (A.runP cwd nm args).1⟩,.bool (A.runP cwd nm args).2]⟩) σ) :
 callW Tryz.prog 17 [.pointer (some ⟨bf,0,none⟩),.agg ⟨[.string nm,.slice x.base x.len x.cap,.string inn,.string cwd]⟩] K σ := by
 by_cases hn : nm.size <= 1000
 ·exact s_Run hF nm inn cwd hx hc hT hn ha hl hK
 have hno : ∀ k : ByteArray,k.size <= 1000 -> sEq nm k = false := fun k hk => sEq_ne fun e => hn (e ▸ hk)
 refine pure_i _ hK (c17 _ _ _ _ _ ?_)
 clear hK
 unfold g17
 refine al_i ?_;intro b6 σ1 g1 e1 n1
 refine al_i ?_;intro b7 σ2 g2 e2 n2
 refine mul_i und_MSFD und_strM runLst (by decide +kernel) ?_
 intro bm σ3 g3 n3 hm
 have G3 : Gr σ σ3 := (g1.trans g2).trans g3
 have k6 := g3.get (g2.get e1)
 have k7 := g3.get e2
 have f7 : σ b7 = none := none_of g1 n2
 have hlk : lk nm runLst = none := by
  unfold runLst
  simp only [lkS,hno _ (by decide:(⟨⟨[116,114,117,101]⟩⟩ : ByteArray).size <= 1000),hno _ (by decide:(⟨⟨[102,97,108,115,101]⟩⟩ : ByteArray).size <= 1000),hno _ (by decide:(⟨⟨[101,99,104,111]⟩⟩ : ByteArray).size <= 1000),hno _ (by decide:(⟨⟨[112,114,105,110,116,102]⟩⟩ : ByteArray).size <= 1000),hno _ (by decide:(⟨⟨[116,101,115,116]⟩⟩ : ByteArray).size <= 1000),hno _ (by decide:(⟨⟨[91]⟩⟩ : ByteArray).size <= 1000),hno _ (by decide:(⟨⟨[98,97,115,101,110,97,109,101]⟩⟩ : ByteArray).size <= 1000),hno _ (by decide:(⟨⟨[100,105,114,110,97,109,101]⟩⟩ : ByteArray).size <= 1000)]
  rfl
 have hr : A.runP cwd nm args = (Dn.z,false) := by
  unfold AT.runP
  simp only [hno _ (by decide:(⟨⟨[116,114,117,101]⟩⟩ : ByteArray).size <= 1000),hno _ (by decide:(⟨⟨[102,97,108,115,101]⟩⟩ : ByteArray).size <= 1000),hno _ (by decide:(⟨⟨[101,99,104,111]⟩⟩ : ByteArray).size <= 1000),hno _ (by decide:(⟨⟨[112,114,105,110,116,102]⟩⟩ : ByteArray).size <= 1000),hno _ (by decide:(⟨⟨[116,101,115,116]⟩⟩ : ByteArray).size <= 1000),hno _ (by decide:(⟨⟨[91]⟩⟩ : ByteArray).size <= 1000),hno _ (by decide:(⟨⟨[98,97,115,101,110,97,109,101]⟩⟩ : ByteArray).size <= 1000),hno _ (by decide:(⟨⟨[100,105,114,110,97,109,101]⟩⟩ : ByteArray).size <= 1000)]
  rfl
 rw [hr]
 refine rd_S (rdC_of k6 (by rfl)) (rd_G (mul_rd hm .nilFunc nm) (app_RBm ?_))
 rw [hlk]
 refine br_t rfl (st_i2 k7 sz_Done (by rfl) (by rfl) ?_);intro τ2 p2
 refine rd_G (rdA_of' p2.same (by rfl)) ?_
 (refine app_of rfl ?_;try dsimp only)
 exact ⟨rfl,G3.putF p2 f7⟩
theorem sz_Use : sizeT Tryz.prog 44 = some 4 := by kernel_rfl
theorem s_cut20 (nm inn cwd:ByteArray) {x : Sl} {l : List ByteArray} (hx:RowsAt σ 1 (strRows l) x) {K : KH} (hK:∀ y σ',RNew σ σ' 9 1 (strRows ((l.take 8).map (cutW 100))) y -> K (.agg ⟨[.string nm,.slice y.base y.len y.cap,.string inn,.string (cutW 60 cwd)]⟩) σ') :
 callW Tryz.prog 19 [.agg ⟨[.string nm,.slice x.base x.len x.cap,.string inn,.string cwd]⟩] K σ := by
 refine c19 _ _ _ _ ?_
 unfold g19
 have hxl := sLen hx
 refine al_i ?_;intro b5 σ1 g1 e1 n1
 refine al_i ?_;intro b6 σ2 g2 e2 n2
 have k5 := g2.get e1
 have G2 := g1.trans g2
 have hx2 := hx.gr G2
 have f6 : σ b6 = none := none_of g1 n2
 have h56 : b5 ≠ b6 := fun e => by rw [<- e,e1] at n2;cases n2
 refine loop_i ?_
 intro R hR
 have key : ∀ (c i:Nat) (w:Sl) (τ:H),c + i = 8 -> i <= l.length -> RNew σ2 τ 9 1 (strRows ((l.take i).map (cutW 100))) w -> R (some ⟨b5,0,none⟩) (some ⟨b6,0,none⟩) w (i:Int) τ := by
  intro c
  induction c using Nat.strongRecOn with
  | ind c ih =>
   intro i w τ hc hi hw
   have q5 := hw.1.get k5
   refine hR _ _ _ _ _ ?_
   refine j_i (fun j => ∀ cb : Bool,cb = (decide (i < l.length) && decide (i < 8)) -> j (some ⟨b5,0,none⟩) (some ⟨b6,0,none⟩) w (i:Int) cb τ) ?_ ?_
   case refine_2 =>
    intro j hj
    refine ptr_i (rd_Y (y := x) (rdC_of q5 (by rfl)) ?_)
    by_cases h1 : i < l.length
    ·refine br_t (by simp only [decide_eq_true_eq];omega) (hj _ ?_)
     rw [decide_eq_true h1,Bool.true_and]
     by_cases h2 : i < 8
     ·rw [decide_eq_true h2,decide_eq_true_eq];omega
     ·rw [decide_eq_false h2,decide_eq_false_iff_not];omega
    ·exact br_f (by simp only [decide_eq_false_iff_not];omega) (hj _ (by rw [decide_eq_false h1];rfl))
   intro cb hcb
   cases cb with
   | true =>
    have hcb' := hcb.symm
    rw [Bool.and_eq_true,decide_eq_true_eq,decide_eq_true_eq] at hcb'
    obtain ⟨h1,h2⟩ := hcb'
    obtain ⟨s,hs⟩ : ∃ s,l[i]? = some s := ⟨_,List.getElem?_eq_getElem h1⟩
    obtain ⟨g,o,a1,a2,a3⟩ := sRow (hx2.gr hw.1) hs
    refine br_t rfl (ptr_i (rd_Y (y := x) (rdC_of q5 (by rfl)) ?_))
    rw [a1]
    refine ptr_i (if_i ⟨by omega,by show _ < ((x.len:Nat) : Int);omega⟩ (rd_S (by rw [Int.toNat_natCast];exact a3) ?_))
    refine ptr_i (rd_Y (y := x) (rdC_of q5 (by rfl)) ?_)
    rw [a1]
    refine ptr_i (if_i ⟨by omega,by show _ < ((x.len:Nat) : Int);omega⟩ (rd_S (by rw [Int.toNat_natCast];exact a3) ?_))
    have e60' : (if (100:Int) < ((s.size:Nat) : Int) then (100:Int) else ((s.size:Nat) : Int)) = ((min s.size 100:Nat) : Int) := cutW_min 100 s
    rw [e60']
    refine if_i ⟨bnd_some (by omega) (by omega),bnd_none⟩ ?_
    rw [Int.toNat_natCast]
    refine RNew.app1 el_strM hw (r := [.string (cutW 100 s)]) rfl rfl (by rw [strRows_len,List.length_map,List.length_take];omega) ?_
    intro w' τ' h3 _ _
    rw [wrapS (i := i) (by omega)]
    refine ih (c - 1) (by omega) (i + 1) w' τ' (by omega) (by omega) ?_
    rw [strs_snoc] at h3
    rw [List.take_add_one,hs,List.map_append];exact h3
   | false =>
    clear ih
    have hti : l.take i = l.take 8 := by
     have hcb' := hcb.symm
     rw [Bool.and_eq_false_iff,decide_eq_false_iff_not,decide_eq_false_iff_not] at hcb'
     rcases (by omega:i = 8 \/ l.length <= i) with e | e
     ·rw [e]
     ·rw [List.take_of_length_le e,List.take_of_length_le (by omega)]
    rw [hti] at hw
    have hb5 : w.base ≠ some ⟨b5,0,none⟩ := fun e => by have := hw.2.2 b5 e;rw [k5] at this;cases this
    have hb6 : w.base ≠ some ⟨b6,0,none⟩ := fun e => by have := hw.2.2 b6 e;rw [e2] at this;cases this
    have q6 := hw.1.get e2
    have hs := hw.since G2
    refine br_f rfl (ptr_i ?_)
    refine st_i2 q5 (by kernel_rfl:sizeT Tryz.prog 38 = some 1) (by rfl) (by rfl) ?_;intro τ1 p1
    have s1 := hs.putF p1 n1 hb5
    have m1 := p1.same
    refine ptr_i (rd_S (rdC_of m1 (by rfl)) (ptr_i (rd_S (rdC_of m1 (by rfl)) ?_)))
    have e60 : (if (60:Int) < ((cwd.size:Nat) : Int) then (60:Int) else ((cwd.size:Nat) : Int)) = ((min cwd.size 60:Nat) : Int) := cutW_min 60 cwd
    rw [e60]
    refine if_i ⟨bnd_some (by omega) (by omega),bnd_none⟩ (ptr_i ?_)
    rw [Int.toNat_natCast]
    refine st_i2 m1 sz_string (by rfl) (by rfl) ?_;intro τ2 p2
    have s2 := s1.putF p2 n1 hb5
    refine ptr_i (rd_G (rdA_of' p2.same (by rfl)) ?_)
    (refine app_of rfl ?_;try dsimp only)
    refine st_i2 (p2.get (Ne.symm h56) (p1.get (Ne.symm h56) q6)) sz_Use (by rfl) (by rfl) ?_;intro τ3 p3
    have s3 := s2.putF p3 f6 hb6
    refine ptr_i (rd_G (rdA_of' p3.same (by rfl)) ?_)
    (refine app_of rfl ?_;try dsimp only)
    exact hK w τ3 s3
 exact key 8 0 ⟨none,0,0⟩ σ2 rfl (Nat.zero_le _) (RNew.nil σ2 _ _)
theorem strEq_self (a:ByteArray) : strEq a a = true := strEq_iff.2 rfl
theorem s_MiscRuns (nm:ByteArray) (l:List ByteArray) (x:Sl) (inn cwd:ByteArray) (hx:RowsAt σ 1 (strRows l) x) (hT:Tabs σ) {K : KH} (hK:∀ σ',Gr σ σ' -> K (.bool true) σ') :
 callW Tryz.prog 7 [.agg ⟨[.string nm,.slice x.base x.len x.cap,.string inn,.string cwd]⟩] K σ := by
 refine c7 _ _ _ _ ?_
 unfold g7
 refine al_i ?_;intro b5 σ1 g1 e1 n1
 refine rd_G (rdA_of' e1 (by rfl)) ?_
 (refine app_of rfl ?_;try dsimp only)
 refine call_i (s_cut20 nm inn cwd (hx.gr g1) ?_)
 intro y σ2 hy
 (refine app_of rfl ?_;try dsimp only)
 have hb5 : y.base ≠ some ⟨b5,0,none⟩ := fun e => by have := hy.2.2 b5 e;rw [e1] at this;cases this
 refine st_i2 (hy.1.get e1) sz_Use (by rfl) (by rfl) ?_;intro σ3 p3
 have hs := (hy.since g1).putF p3 n1 hb5
 have k5 := p3.same
 refine call_i (s_both20 ?_)
 intro bf br τ ρF ρR B D hF hR W
 replace hF := hF.gr W.gF
 replace hR := hR.gr W.gR
 have q5 := W.gσ.get k5
 have hrow := hs.at.gr W.gσ
 have hcap := RowsOwn.cap hs.2.1
 have G := hs.1.trans W.gσ
 have hTt := hT.gr G
 clear W
 (refine app_of rfl ?_;try dsimp only)
 have hsz : ∀ a ∈ (l.take 8).map (cutW 100),a.size <= 1000 := by
  intro a ha
  obtain ⟨s,_,rfl⟩ := List.mem_map.1 ha
  have := cutW_size 100 s;omega
 have hlen : ((l.take 8).map (cutW 100)).length <= 20 := by rw [List.length_map,List.length_take];omega
 generalize (l.take 8).map (cutW 100) = ws at hrow hsz hlen
 refine j_i (fun j => j (some ⟨b5,0,none⟩) (some ⟨bf,0,none⟩) (some ⟨br,0,none⟩) false τ) ?_ (fun j hj => br_f rfl hj)
 refine br_f rfl (ptr_i (rd_G (rdA_of' q5 (by rfl)) ?_))
 (refine app_of rfl ?_;try dsimp only)
 refine call_i (s_RunA hF nm inn (cutW 60 cwd) hrow hcap hTt hsz hlen ?_)
 unfold dnV
 (refine app_of rfl ?_;try dsimp only)
 refine al_i ?_;intro b31 τ1 h1 w1 m1
 refine st_i2 w1 sz_Done2 (by rfl) (by rfl) ?_;intro τ2 p2
 have G2 := h1.putF p2 m1
 have k31 := p2.same
 refine ptr_i (rd_G (rdA_of' (G2.get q5) (by rfl)) ?_)
 (refine app_of rfl ?_;try dsimp only)
 refine call_i (r_Run (A := m6) m6_ok.inv m6_ok.bd (by decide) (hR.gr G2) nm inn (cutW 60 cwd) (hrow.gr G2) hcap (hTt.gr G2) hsz hlen ?_)
 unfold dnV
 (refine app_of rfl ?_;try dsimp only)
 refine al_i ?_;intro b42 τ3 h3 w3 m3
 refine st_i2 w3 sz_Done2 (by rfl) (by rfl) ?_;intro τ4 p4
 have G4 := h3.putF p4 m3
 have k42 := p4.same
 have k31' := G4.get k31
 refine rd_G (rdA_of' k31' (by rfl)) ?_
 (refine app_of rfl ?_;try dsimp only)
 refine rd_G (rdA_of' k42 (by rfl)) ?_
 (refine app_of rfl ?_;try dsimp only)
 rw [strEq_self,strEq_self,beq_self_eq_true,beq_self_eq_true]
 refine br_t rfl (br_t rfl ?_)
 have GG := G2.trans G4
 refine call_i (s_Used (hF.gr GG) ?_)
 (refine app_of rfl ?_;try dsimp only)
 obtain ⟨M,hM,_⟩ := hR.gr GG
 refine call_i (s_rfUsed (A := m6) m6_ok.inv m6_ok.bd (by decide) hM ?_)
 (refine app_of rfl ?_;try dsimp only)
 rw [beq_self_eq_true,beq_self_eq_true]
 refine br_t rfl (call_i (s_works20 (hTt.gr GG) (app_B ?_)))
 exact hK _ (G.trans GG)
end
end Go.Proofs.YthclifcpjnhmjaaGreatDoor

set_option maxRecDepth 100000
namespace Go.Proofs.YthclifcpjnhmjaaGreatDoor
open Go Go.HL Go.Wk
theorem tab_of {P : Program} {W : World} {name : String} {k : IntKind} {zs : List Int} {rest : List (String × DataW Unit)} {ps : List MemPlace} {g : Nat} {t e : TypeId} {n : Nat}
 (hg:P.globalNamed name = some g) (hty:(P.globals[g]?).map (·.type) = some t) (ht:P.underlying t = some (.array n e)) (he:P.underlying e = some (.int k)) (hce:P.cellsOf e = 1) (hct:P.cellsOf t = n)
 (h:DataW.LaidVars P W ((name,Lib.tabData k zs) :: rest) ps) : TabC (whole W) g k zs /\ ∃ q,DataW.LaidVars P W rest q := by
 obtain ⟨g',t',cs,fuel,p,q,hg',ht',hvar,hd,hr,_⟩ := h
 obtain rfl := Option.some.inj (hg.symm.trans hg')
 obtain rfl := Option.some.inj (hty.symm.trans ht')
 refine ⟨TabC.of ?_ hg,q,hr⟩
 unfold Lib.TabIs
 rw [hvar,<- Lib.cells_of_tab ht he hce hct hd]
theorem tabs_of {W : World} {x : String × DataW Unit} {rest : List (String × DataW Unit)} (h : laidMet Tryz.prog (x :: ("math/bits.deBruijn64tab", Lib.tabData .u8 dbTab) :: ("internal/strconv.uint64pow10", Lib.tabData .u64 Lib.pow10Tab) :: rest) W) : Tabs (whole W) := by
 obtain ⟨ps,⟨_,_,_,_,_,q,_,_,_,_,h,_⟩,_⟩ := h
 obtain ⟨t1,q1,h1⟩ := tab_of (t := 252) (e := 5) (n := 64) (by kernel_rfl) (by kernel_rfl) (by kernel_rfl) (by kernel_rfl) (by kernel_rfl) (by kernel_rfl) h
 obtain ⟨t2,_⟩ := tab_of (t := 236) (e := 134) (n := 20) (by kernel_rfl) (by kernel_rfl) (by kernel_rfl) (by kernel_rfl) (by kernel_rfl) (by kernel_rfl) h1
 exact ⟨t2,t1⟩
end Go.Proofs.YthclifcpjnhmjaaGreatDoor

