/- A part of the proof: FilesMake holds. -/
import Derived.Test.YtbdlkofldmhoaaaGreatDoorKbe
set_option maxRecDepth 100000
namespace Go.Proofs.YtbdlkofldmhoaaaGreatDoor
open Go Go.HL Go.Wk
attribute [local irreducible] ptrW ifW brW andW rdT alW letJ stW muW biW vaW imW callT cvalT app callW invW callVW sizeT oW nilF oneK loopW rfW funW begW roundK exW idxW Gr Put
theorem grx_sub {ρ σ σ' τ' : H} (h1:Gr τ' σ') (h3:∀ b o,ρ b = none -> σ b = some o -> σ' b = some o) {θ : H} (hg:Gr θ σ) (hd:∀ b,θ b ≠ none -> ρ b = none) : Gr θ σ' := gr_of fun b o hb => h3 b o (hd b (by rw [hb];simp)) (hg.get hb)
def Two (A:AT) (bf br:Nat) (σ τ:H) : Prop := ∃ ρF ρR B D,FsAt ρF bf A B /\ RfAt ρR br A D /\ Gr ρF τ /\ Gr ρR τ /\ Gr σ τ /\ (∀ b,σ b ≠ none -> ρF b = none) /\ (∀ b,σ b ≠ none -> ρR b = none) /\ (∀ b,ρF b ≠ none -> ρR b = none)
theorem nn_gr {σ τ : H} (h:Gr σ τ) {b : Nat} (hb:σ b ≠ none) : τ b ≠ none := by
 cases hs : σ b with
 | none => exact absurd hs hb
 | some o => rw [h.get hs];simp
section
variable {σ τ : H} {bf br : Nat} {A A' : AT}
theorem two_op {f g : FuncId} {as_ cs : List Value} {e : Int} (h:Two A bf br σ τ)
 (hf:∀ (K':KH) ρ B,FsAt ρ bf A B -> (∀ σ' B',FsAt σ' bf A' B' -> K' (.int .i64 e) σ') -> callW Tryz.prog f as_ K' ρ)
 (hg:∀ (K':KH) ρ D,RfAt ρ br A D -> (∀ σ' D',RfAt σ' br A' D' -> K' (.int .i64 e) σ') -> callW Tryz.prog g cs K' ρ)
 {G : H -> Prop} (hG:∀ τ',Two A' bf br σ τ' -> G τ') : callT Tryz.prog f as_ (.one (.sc (.int .i64))) (fun (_:Int) => callT Tryz.prog g cs (.one (.sc (.int .i64))) (fun (_:Int) => G)) τ := by
 obtain ⟨ρF,ρR,B,D,hF,hR,gF,gR,gσ,dF,dR,dFR⟩ := h
 refine call_from gF (hf (fun v τ' => ∃ B',v = .int .i64 e /\ FsAt τ' bf A' B') ρF B hF fun σ' B' h1 => ⟨B',rfl,h1⟩) ?_
 rintro v σ5 ρF5 ⟨B5,rfl,F5⟩ f1 f2 f3
 have gR5 : Gr ρR σ5 := grx_sub f1 f2 gR (fun b hb => by
  cases h : ρF b with
  | none => rfl
  | some o => exact absurd (dFR b (by rw [h];simp)) hb)
 have gσ5 : Gr σ σ5 := grx_sub f1 f2 gσ dF
 have dF5 : ∀ b,σ b ≠ none -> ρF5 b = none := fun b hb => f3 b (nn_gr gσ hb) (dF b hb)
 have dFR5 : ∀ b,ρF5 b ≠ none -> ρR b = none := fun b hb => by
  cases h : ρR b with
  | none => rfl
  | some o =>
   refine absurd (f3 b (by rw [gR.get h];simp) ?_) hb
   cases h2 : ρF b with
   | none => rfl
   | some o2 => have := dFR b (by rw [h2];simp);rw [h] at this;cases this
 refine app_I (call_from gR5 (hg (fun v τ' => ∃ B',v = .int .i64 e /\ RfAt τ' br A' B') ρR D hR fun σ' B' h1 => ⟨B',rfl,h1⟩) ?_)
 rintro v σ6 ρR6 ⟨D6,rfl,R6⟩ h1 h2 h3
 refine app_I (hG σ6 ⟨ρF5,ρR6,B5,D6,F5,R6,grx_sub h1 h2 f1 dFR5,h1,grx_sub h1 h2 gσ5 dR,dF5,?_,?_⟩)
 ·intro b hb
  exact h3 b (nn_gr gσ5 hb) (dR b hb)
 ·intro b hb
  exact h3 b (nn_gr f1 hb) (dFR5 b hb)
theorem two_mkdir {N : Nat} (h:Two A bf br σ τ) (hI:Inv A) (hB:Bd N A) (hN:N <= 100000000) (cwd path:ByteArray) {G : H -> Prop} (hG:∀ τ',Two (A.mkdirF cwd path).2 bf br σ τ' -> G τ') :
 callT Tryz.prog 9 [.pointer (some ⟨bf,0,none⟩),.string cwd,.string path] (.one (.sc (.int .i64))) (fun (_:Int) => callT Tryz.prog 37 [.pointer (some ⟨br,0,none⟩),.string cwd,.string path] (.one (.sc (.int .i64))) (fun (_:Int) => G)) τ :=
 two_op h (fun K' ρ B hF hk => s_Mkdir hI hB (by omega) hF cwd path fun σ' B' h1 _ => hk σ' B' h1) (fun K' ρ D hR hk => s_rfMkdir hI hB hN hR cwd path fun σ' B' h1 _ => hk σ' B' h1) hG
theorem two_write {N : Nat} (h:Two A bf br σ τ) (hI:Inv A) (hB:Bd N A) (hN:N <= 100000000) (cwd path data:ByteArray) (more:Bool) (hd:data.size <= 1000) {G : H -> Prop} (hG:∀ τ',Two (A.writeF cwd path data more).2 bf br σ τ' -> G τ') :
 callT Tryz.prog 10 [.pointer (some ⟨bf,0,none⟩),.string cwd,.string path,.string data,.bool more] (.one (.sc (.int .i64))) (fun (_:Int) => callT Tryz.prog 38 [.pointer (some ⟨br,0,none⟩),.string cwd,.string path,.string data,.bool more] (.one (.sc (.int .i64))) (fun (_:Int) => G)) τ :=
 two_op h (fun K' ρ B hF hk => s_Write hI hB (by omega) hF cwd path data more (by omega) fun σ' B' h1 _ => hk σ' B' h1) (fun K' ρ D hR hk => s_rfWrite hI hB hN hR cwd path data more (by omega) fun σ' B' h1 _ => hk σ' B' h1) hG
theorem two_chmod {N : Nat} (h:Two A bf br σ τ) (hI:Inv A) (hB:Bd N A) (hN:N <= 100000000) (cwd path:ByteArray) (mode:Int) {G : H -> Prop} (hG:∀ τ',Two (A.chmodF cwd path mode).2 bf br σ τ' -> G τ') :
 callT Tryz.prog 39 [.pointer (some ⟨bf,0,none⟩),.string cwd,.string path,.int .i64 mode] (.one (.sc (.int .i64))) (fun (_:Int) => callT Tryz.prog 40 [.pointer (some ⟨br,0,none⟩),.string cwd,.string path,.int .i64 mode] (.one (.sc (.int .i64))) (fun (_:Int) => G)) τ :=
 two_op h (fun K' ρ B hF hk => s_Chmod hF cwd path mode fun σ' B' h1 _ => hk σ' B' h1) (fun K' ρ D hR hk => s_rfChmod hI hB hN hR cwd path mode fun σ' B' h1 _ => hk σ' B' h1) hG
theorem two_symlink {N : Nat} (h:Two A bf br σ τ) (hI:Inv A) (hB:Bd N A) (hN:N <= 100000000) (cwd target path:ByteArray) (hd:target.size <= 1000) {G : H -> Prop} (hG:∀ τ',Two (A.symlinkF cwd target path).2 bf br σ τ' -> G τ') :
 callT Tryz.prog 11 [.pointer (some ⟨bf,0,none⟩),.string cwd,.string target,.string path] (.one (.sc (.int .i64))) (fun (_:Int) => callT Tryz.prog 41 [.pointer (some ⟨br,0,none⟩),.string cwd,.string target,.string path] (.one (.sc (.int .i64))) (fun (_:Int) => G)) τ :=
 two_op h (fun K' ρ B hF hk => s_Symlink hI hB (by omega) hF cwd target path fun σ' B' h1 _ => hk σ' B' h1) (fun K' ρ D hR hk => s_rfSymlink hI hB hN hR cwd target path (by omega) fun σ' B' h1 _ => hk σ' B' h1) hG
end
theorem bg_chain {qi qb : Int} (hq:newOk qi qb = true) : Inv (bgT qi qb) /\ Bd 8 (bgT qi qb) := by
 obtain ⟨i0,d0⟩ := newT_ok hq
 have o1 := mkdirF_ok i0 d0 (by decide) ⟨⟨[47]⟩⟩ ⟨⟨[100]⟩⟩
 have o2 := mkdirF_ok o1.inv o1.bd (by decide) ⟨⟨[47]⟩⟩ ⟨⟨[100,47,115]⟩⟩
 have o3 := writeF_ok o2.inv o2.bd (by decide) ⟨⟨[47]⟩⟩ ⟨⟨[100,47,102]⟩⟩ ⟨⟨[104,105]⟩⟩ false (by decide)
 have o4 := writeF_ok o3.inv o3.bd (by decide) ⟨⟨[47]⟩⟩ ⟨⟨[100,47,115,47,103]⟩⟩ ⟨⟨[114,117,110]⟩⟩ false (by decide)
 have o5 := chmodF_ok o4.inv o4.bd ⟨⟨[47]⟩⟩ ⟨⟨[100,47,115,47,103]⟩⟩ 493
 have o6 := symlinkF_ok o5.inv o5.bd (by decide) ⟨⟨[47]⟩⟩ ⟨⟨[100]⟩⟩ ⟨⟨[108]⟩⟩
 have o7 := symlinkF_ok o6.inv o6.bd (by decide) ⟨⟨[47]⟩⟩ ⟨⟨[110,111,110,101]⟩⟩ ⟨⟨[109]⟩⟩
 exact ⟨o7.inv,o7.bd.mono (by decide)⟩
section
variable {σ : H}
theorem s_begun19 {qi qb : Int} (hq:newOk qi qb = true) {K : KH} (hK:∀ bf br σ' B',FsAt σ' bf (bgT qi qb) B' -> Off σ σ' B' -> K (.tuple ⟨[.pointer (some ⟨bf,0,none⟩),.pointer (some ⟨br,0,none⟩)]⟩) σ') :
 callW Tryz.prog 14 [.agg ⟨[.int .i64 qi,.int .i64 qb]⟩] K σ := by
 refine c14 _ _ ?_
 unfold g14
 refine al_i ?_;intro b2 σ2 g2 k2 n1
 refine rd_G (rdA_of' k2 (by rfl)) ?_
 (refine app_of rfl ?_;try dsimp only)
 refine rd_G (rdA_of' k2 (by rfl)) ?_
 (refine app_of rfl ?_;try dsimp only)
 refine call_from (gr_empty σ2) (s_New qi qb (K := fun v τ => ∃ bf B,v = .pointer (some ⟨bf,0,none⟩) /\ FsAt τ bf (newT qi qb) B) (fun h => by rw [hq] at h;cases h) fun _ bf σ' B' h1 _ _ => ⟨bf,B',rfl,h1⟩) ?_
 rintro v σ3 ρF ⟨bf,B,rfl,hF⟩ w1 w2 w3
 have g3 : Gr σ2 σ3 := gr_of fun b o hb => w2 b o rfl hb
 have dF : ∀ b,σ2 b ≠ none -> ρF b = none := fun b hb => w3 b hb rfl
 refine app_P (and_i (rdA_of' (g3.get k2) (by rfl)) ?_)
 refine call_from (gr_empty σ3) (s_rfNew qi qb (K := fun v τ => ∃ br D,v = .pointer (some ⟨br,0,none⟩) /\ RfAt τ br (newT qi qb) D) (fun h => by rw [hq] at h;cases h) fun _ bf σ' B' h1 _ _ => ⟨bf,B',rfl,h1⟩) ?_
 rintro v σ4 ρR ⟨br,D,rfl,hR⟩ y1 y2 y3
 have g4 : Gr σ3 σ4 := gr_of fun b o hb => y2 b o rfl hb
 have dR : ∀ b,σ3 b ≠ none -> ρR b = none := fun b hb => y3 b hb rfl
 have T0 : Two (newT qi qb) bf br σ σ4 := ⟨ρF,ρR,B,D,hF,hR,w1.trans g4,y1,(g2.trans g3).trans g4,fun b hb => dF b (nn_gr g2 hb),fun b hb => dR b (nn_gr (g2.trans g3) hb),fun b hb => dR b (nn_gr w1 hb)⟩
 refine app_P ?_
 obtain ⟨i0,d0⟩ := newT_ok hq
 refine j_i (fun j => j (some ⟨bf,0,none⟩) (some ⟨br,0,none⟩) false σ4) ?_ (fun j hj => br_f rfl hj)
 refine br_f rfl ?_
 have o1 := mkdirF_ok i0 d0 (by decide) ⟨⟨[47]⟩⟩ ⟨⟨[100]⟩⟩
 have o2 := mkdirF_ok o1.inv o1.bd (by decide) ⟨⟨[47]⟩⟩ ⟨⟨[100,47,115]⟩⟩
 have o3 := writeF_ok o2.inv o2.bd (by decide) ⟨⟨[47]⟩⟩ ⟨⟨[100,47,102]⟩⟩ ⟨⟨[104,105]⟩⟩ false (by decide)
 have o4 := writeF_ok o3.inv o3.bd (by decide) ⟨⟨[47]⟩⟩ ⟨⟨[100,47,115,47,103]⟩⟩ ⟨⟨[114,117,110]⟩⟩ false (by decide)
 have o5 := chmodF_ok o4.inv o4.bd ⟨⟨[47]⟩⟩ ⟨⟨[100,47,115,47,103]⟩⟩ 493
 have o6 := symlinkF_ok o5.inv o5.bd (by decide) ⟨⟨[47]⟩⟩ ⟨⟨[100]⟩⟩ ⟨⟨[108]⟩⟩
 refine two_mkdir T0 i0 d0 (by decide) _ _ ?_
 intro τ1 T1
 refine two_mkdir T1 o1.inv o1.bd (by decide) _ _ ?_
 intro τ2 T2
 refine two_write T2 o2.inv o2.bd (by decide) _ _ _ _ (by decide) ?_
 intro τ3 T3
 refine two_write T3 o3.inv o3.bd (by decide) _ _ _ _ (by decide) ?_
 intro τ4 T4
 refine two_chmod T4 o4.inv o4.bd (by decide) _ _ _ ?_
 intro τ5 T5
 refine two_symlink T5 o5.inv o5.bd (by decide) _ _ _ (by decide) ?_
 intro τ6 T6
 refine two_symlink T6 o6.inv o6.bd (by decide) _ _ _ (by decide) ?_
 intro τ7 T7
 obtain ⟨ρF,ρR,B,D,hF,hR,gF,gR,gσ,dF,dR,dFR⟩ := T7
 exact hK bf br τ7 B (hF.gr gF) ⟨gσ,fun b o hb => hF.fresh (dF b (by rw [hb];simp))⟩
theorem strF1 {σ : H} {b : Nat} {s : ByteArray} {ty : TypeId} {fz : Nat × Nat} (h:σ b = some (.cells ⟨[.string s]⟩ ty fz)) : RowsAt σ 1 (strRows [s]) ⟨some ⟨b,0,none⟩,1,1⟩ :=
 ⟨rfl,.inr ⟨b,0,_,_,_,rfl,h,fun i p hi => by
  match i,hi with
  | 0,hi => cases hi;exact ⟨rfl,rfl⟩
  | n + 1,hi => simp [strRows] at hi⟩⟩
theorem strF2 {σ : H} {b : Nat} {s t : ByteArray} {ty : TypeId} {fz : Nat × Nat} (h:σ b = some (.cells ⟨[.string s,.string t]⟩ ty fz)) : RowsAt σ 1 (strRows [s,t]) ⟨some ⟨b,0,none⟩,2,2⟩ :=
 ⟨rfl,.inr ⟨b,0,_,_,_,rfl,h,fun i p hi => by
  match i,hi with
  | 0,hi => cases hi;exact ⟨rfl,rfl⟩
  | 1,hi => cases hi;exact ⟨rfl,rfl⟩
  | n + 2,hi => simp [strRows] at hi⟩⟩
theorem strF3 {σ : H} {b : Nat} {s t u : ByteArray} {ty : TypeId} {fz : Nat × Nat} (h:σ b = some (.cells ⟨[.string s,.string t,.string u]⟩ ty fz)) : RowsAt σ 1 (strRows [s,t,u]) ⟨some ⟨b,0,none⟩,3,3⟩ :=
 ⟨rfl,.inr ⟨b,0,_,_,_,rfl,h,fun i p hi => by
  match i,hi with
  | 0,hi => cases hi;exact ⟨rfl,rfl⟩
  | 1,hi => cases hi;exact ⟨rfl,rfl⟩
  | 2,hi => cases hi;exact ⟨rfl,rfl⟩
  | n + 3,hi => simp [strRows] at hi⟩⟩
theorem s_works19 {K : KH} (hK:K (.bool true) σ) : callW Tryz.prog 13 [] K σ := by
 refine pure_i _ hK (c13 ?_)
 clear hK
 unfold g13
 refine call_i (s_begun19 (qi := 30) (qb := 100) (by decide) ?_)
 intro bf br σ1 B1 F1 O1
 obtain ⟨i0,d0⟩ := bg_chain (qi := 30) (qb := 100) (by decide)
 have p0 : Pot 8 wq0 := Pot.of i0 d0
 replace F1 : FsAt σ1 bf wq0 B1 := F1
 (refine app_of rfl ?_;try dsimp only)
 refine j_i (fun j => ∀ σ' B',FsAt σ' bf wq3 B' -> Gr σ σ' -> j (some ⟨bf,0,none⟩) false σ') ?_ ?_
 ·intro σ2 B2 F2 g2
  refine br_f rfl (call_i (s_Stat F2 _ _ _ ?_))
  unfold inV
  (refine app_of rfl ?_;try dsimp only)
  refine al_i ?_;intro b3 σ3 g3 e3 n3
  refine st_i2 e3 sz_InoF (by rfl) (by rfl) ?_;intro σ4 p4
  have g4 : Gr σ2 σ4 := g3.putF p4 n3
  refine call_i (s_fiNone (F2.gr g4) _ _ _ (x := ⟨none,0,0⟩) (by decide +kernel) ?_)
  unfold dnF
  (refine app_of rfl ?_;try dsimp only)
  refine al_i ?_;intro b5 σ5 g5 e5 n5
  refine st_i2 e5 sz_DoneF (by rfl) (by rfl) ?_;intro σ6 p6
  have g6 : Gr σ4 σ6 := g5.putF p6 n5
  rw [wq_st]
  exact br_t rfl ⟨rfl,(g2.trans g4).trans g6⟩
 ·intro j hj
  refine br_f rfl ?_
  refine al_i ?_;intro b17 σ2 g2 e2 n2
  have A2 : ArgOk (σ.put b17 (.cells ⟨[.string ⟨⟨[45,114]⟩⟩,.string ⟨⟨[100]⟩⟩,.string ⟨⟨[101]⟩⟩]⟩ 9 (0,0))) wCp ⟨some ⟨b17,0,none⟩,3,3⟩ := ⟨strF3 (H.put_same _ _ _),Nat.le_refl _,by decide,by decide⟩
  refine call_i (c_cp (A := wq0) (F1.gr g2) ((O1.gr g2).add e2 (F1.fresh n2)) A2 p0 (by decide) (by rw [show cpN = ⟨⟨[99,112]⟩⟩ from rfl,wq_cp];decide) ?_)
  rw [show callP wq0 cpN wCp = callP wq0 ⟨⟨[99,112]⟩⟩ wCp from rfl,wq_cp]
  intro σ3 B3 F3 s3 p3
  replace F3 : FsAt σ3 bf wq1 B3 := F3
  replace p3 : Pot 8 wq1 := p3
  have O3 := (O1.gr g2).sep s3
  refine app_S (br_f (by rw [strEq_iff.2 rfl];rfl) ?_)
  refine al_i ?_;intro b19 σ4 g4 e4 n4
  have A4 : ArgOk (σ.put b19 (.cells ⟨[.string ⟨⟨[101]⟩⟩]⟩ 9 (0,0))) wLs ⟨some ⟨b19,0,none⟩,1,1⟩ := ⟨strF1 (H.put_same _ _ _),Nat.le_refl _,by decide,by decide⟩
  refine call_i (c_ls (A := wq1) (F3.gr g4) ((O3.gr g4).add e4 (F3.fresh n4)) A4 ⟨p3.inv,p3.bd'⟩ (by decide) (by rw [show lsN = ⟨⟨[108,115]⟩⟩ from rfl,wq_ls];decide) ?_)
  rw [show callP wq1 lsN wLs = callP wq1 ⟨⟨[108,115]⟩⟩ wLs from rfl,wq_ls]
  intro σ5 B5 F5 s5 q5
  have q5 : wq2 = wq1 := q5
  replace F5 : FsAt σ5 bf wq2 B5 := F5
  have O5 := (O3.gr g4).sep s5
  refine app_S (br_f (by rw [strEq_iff.2 rfl];rfl) ?_)
  refine al_i ?_;intro b21 σ6 g6 e6 n6
  have A6 : ArgOk (σ.put b21 (.cells ⟨[.string ⟨⟨[45,114]⟩⟩,.string ⟨⟨[101]⟩⟩]⟩ 9 (0,0))) wRm ⟨some ⟨b21,0,none⟩,2,2⟩ := ⟨strF2 (H.put_same _ _ _),Nat.le_refl _,by decide,by decide⟩
  refine call_i (c_rm (A := wq2) (N := 8 + 1048576) (F5.gr g6) ((O5.gr g6).add e6 (F5.fresh n6)) A6 (by rw [q5];exact ⟨p3.inv,p3.bd'⟩) (by decide) (by rw [show rmT = ⟨⟨[114,109]⟩⟩ from rfl,wq_rm];decide) ?_)
  rw [show callP wq2 rmT wRm = callP wq2 ⟨⟨[114,109]⟩⟩ wRm from rfl,wq_rm]
  intro σ7 B7 F7 s7 _
  have O7 := (O5.gr g6).sep s7
  refine app_S ?_
  rw [show strEq (⟨⟨[48]⟩⟩ : ByteArray) ⟨⟨[48]⟩⟩ = true from strEq_iff.2 rfl]
  exact hj σ7 B7 F7 O7.1
end
end Go.Proofs.YtbdlkofldmhoaaaGreatDoor

set_option maxRecDepth 100000
namespace Go.Wk
open Go Go.HL
def chM (n:Int) : UInt8 := (97 + n.toNat % 4).toUInt8
theorem chM_u8 {n : Int} (h:0 <= n /\ n <= 255) : IntKind.u8.wrap (97 + Int.tmod n 4) = ((chM n).toNat : Int) := by
 obtain ⟨m,rfl⟩ : ∃ m : Nat,n = m := ⟨n.toNat,by omega⟩
 have e : Int.tmod (m:Int) 4 = ((m % 4 : Nat) : Int) := by rw [Int.tmod_eq_emod_of_nonneg (by omega)];omega
 rw [e,IntKind.wrap_u8]
 unfold chM
 rw [Int.toNat_natCast]
 show _ = (((97 + m % 4) % 256 : Nat) : Int)
 omega
theorem chM_ok (n:Int) : chM n ≠ 47 /\ chM n ≠ 0 /\ chM n ≠ 46 := by
 have h : n.toNat % 4 < 4 := Nat.mod_lt _ (by decide)
 unfold chM
 generalize n.toNat % 4 = k at h
 match k,h with
 | 0,_ => exact ⟨by decide,by decide,by decide⟩
 | 1,_ => exact ⟨by decide,by decide,by decide⟩
 | 2,_ => exact ⟨by decide,by decide,by decide⟩
 | 3,_ => exact ⟨by decide,by decide,by decide⟩
def rM (ns:List Int) : List UInt8 := (ns.take 8).map chM
theorem rM_ok (ns:List Int) : okR (rM ns) := fun c hc => by
 unfold rM at hc
 obtain ⟨n,_,rfl⟩ := List.mem_map.1 hc
 exact chM_ok n
theorem rM_len (ns:List Int) : (rM ns).length = min 8 ns.length := by unfold rM;rw [List.length_map,List.length_take]
theorem okR_take {r : List UInt8} (h:okR r) (i:Nat) : okR (r.take i) := fun c hc => h c (List.mem_of_mem_take hc)
theorem pB_snoc (r:List UInt8) (c:UInt8) : (pB r ++ ⟨⟨[47]⟩⟩) ++ ⟨⟨[c]⟩⟩ = pB (r ++ [c]) := by
 apply bytes_ext
 rw [app_data,app_data]
 show (pL r ++ [47]) ++ [c] = pL (r ++ [c])
 rw [pL_snoc,List.append_assoc];rfl
theorem pB2_eq (r:List UInt8) : pB r ++ ⟨⟨[47,47]⟩⟩ = pB2 r := by
 apply bytes_ext
 rw [app_data];rfl
theorem pB_size (r:List UInt8) : (pB r).size = 3 + 2 * r.length := by
 show (pL r).length = _
 unfold pL
 rw [List.length_cons,List.length_cons,List.length_cons,tlL_len];omega
theorem pB2_size (r:List UInt8) : (pB2 r).size = 5 + 2 * r.length := by
 show (pL r ++ [47,47]).length = _
 rw [List.length_append]
 have : (pL r).length = 3 + 2 * r.length := pB_size r
 rw [this,List.length_cons,List.length_cons,List.length_nil];omega
theorem failT_size (nm n:ByteArray) {e : Int} (he:0 <= e /\ e <= 20) : (failT nm n e).size <= nm.size + n.size + 200 := by
 unfold failT
 simp only [ByteArray.size_append]
 have := fmt_er (e := e) he
 have h1 : (⟨⟨[58,32]⟩⟩ : ByteArray).size = 2 := rfl
 have h2 : (⟨⟨[10]⟩⟩ : ByteArray).size = 1 := rfl
 omega
theorem six_txt (p:ByteArray) : (⟨⟨[49,109,107,100,105,114,58,32]⟩⟩ ++ p) ++ ⟨⟨[58,32,54,10]⟩⟩ = ⟨⟨[49]⟩⟩ ++ failT mkN p 6 := by
 have e : fmtP 10 6 = ⟨⟨[54]⟩⟩ := sEq_iff.1 (by decide +kernel)
 apply bytes_ext
 unfold failT
 rw [e]
 simp only [app_data]
 show [49,109,107,100,105,114,58,32] ++ p.data.toList ++ [58,32,54,10] = [49] ++ ([109,107,100,105,114] ++ [58,32] ++ p.data.toList ++ [58,32] ++ [54] ++ [10])
 simp
theorem full_txt : (⟨⟨[49]⟩⟩ ++ failT rmN (pB []) 20 : ByteArray) = ⟨⟨[49,114,109,100,105,114,58,32,110,101,119,58,32,50,48,10]⟩⟩ := sEq_iff.1 (by decide +kernel)
def aM (r:List UInt8) (n:Nat) : List ByteArray := (List.range n).map fun k => pB (r.take k)
theorem aM_len (r:List UInt8) (n:Nat) : (aM r n).length = n := by unfold aM;rw [List.length_map,List.length_range]
theorem aM_snoc (r:List UInt8) (n:Nat) : aM r n ++ [pB (r.take n)] = aM r (n + 1) := by unfold aM;rw [List.range_succ,List.map_append];rfl
theorem aM_at {r : List UInt8} {n i : Nat} (h:i < n) : (aM r n)[i]? = some (pB (r.take i)) := by
 unfold aM
 rw [List.getElem?_map,List.getElem?_range h];rfl
end Go.Wk
namespace Go.Wk
open Go Go.HL
theorem take_snoc {r : List UInt8} {j : Nat} (h:j < r.length) : ∃ c,r.take (j + 1) = r.take j ++ [c] := by
 obtain ⟨c,hc⟩ : ∃ c,r[j]? = some c := ⟨_,List.getElem?_eq_getElem h⟩
 exact ⟨c,by rw [List.take_add_one,hc];rfl⟩
theorem law_rmj {m : Int} {r : List UInt8} (h:okR r) (hl:r.length <= 8) {j : Nat} (hj:j < r.length) : callP (EN m (nB (r.take (j + 1)))) rmN [pB (r.take (j + 1))] = (zeroT,EN m (nB (r.take j))) := by
 obtain ⟨c,hc⟩ := take_snoc hj
 have h1 := okR_take h (j + 1)
 rw [hc] at h1 ⊢
 exact law_rm h1 (by rw [List.length_take];omega)
theorem law_lastn {n : Nat} (h:n <= 8) : callP (EN (8 + (n:Int)) []) rmN [pB []] = (zeroT,BG (8 + (n:Int))) := law_last ⟨n,by omega⟩
def stM (n:Nat) (r:List UInt8) : Nat -> AT
 | 0 => BG (8 + (n:Int))
 | j + 1 => EN (8 + (n:Int)) (nB (r.take j))
theorem EN_ui (m:Int) (r:List UInt8) : (EN m (nB r)).ui = 8 + (r.length:Int) := by
 show 8 + ((nB r).length : Int) = _
 rw [nB_len]
end Go.Wk

set_option maxRecDepth 100000
namespace Go.Proofs.YtbdlkofldmhoaaaGreatDoor
open Go Go.HL Go.Wk
attribute [local irreducible] ptrW ifW brW andW rdT alW letJ stW muW biW vaW imW callT cvalT app callW invW callVW sizeT oW nilF oneK loopW rfW funW begW roundK exW idxW Gr Put
theorem u8row {σ : H} {ns : List Int} {x : Sl} (h:RowsAt σ 1 (ns.map fun n => [Value.int .u8 n]) x) {i : Nat} {n : Int} (hi:ns[i]? = some n) : ∃ g o,x.base = some ⟨g,o,none⟩ /\ rdC g (o + i * 1) σ = some (.int .u8 n) := by
 obtain ⟨h1,h2 | ⟨g,o,cur,t,fz,h2,h3,h4⟩⟩ := h
 ·have : ns = [] := by simpa using h2
  rw [this] at hi;simp at hi
 ·refine ⟨g,o,h2,rdC_of h3 ?_⟩
  obtain ⟨_,h5⟩ := h4 i [.int .u8 n] (by simp [hi])
  have : ((cur.drop (o + i * 1)).take 1)[0]? = some (.int .u8 n) := by rw [h5];rfl
  rw [List.getElem?_take] at this
  simpa using this
theorem arg1 {τ : H} {b : Nat} {a : ByteArray} (h:a.size <= 1000) : ArgOk (τ.put b (.cells ⟨[.string a]⟩ 9 (0,0))) [a] ⟨some ⟨b,0,none⟩,1,1⟩ :=
 ⟨strF1 (H.put_same _ _ _),Nat.le_refl _,fun x hx => by rw [List.mem_singleton.1 hx];exact h,(by decide:(1:Nat) <= 1000)⟩
theorem arg2 {τ : H} {b : Nat} {a c : ByteArray} (h:a.size <= 1000) (h2:c.size <= 1000) : ArgOk (τ.put b (.cells ⟨[.string a,.string c]⟩ 9 (0,0))) [a,c] ⟨some ⟨b,0,none⟩,2,2⟩ :=
 ⟨strF2 (H.put_same _ _ _),Nat.le_refl _,fun x hx => by
  rcases List.mem_cons.1 hx with e | e
  ·rw [e];exact h
  ·rw [List.mem_singleton.1 e];exact h2,(by decide:(2:Nat) <= 1000)⟩
theorem zT1 : Wk.zeroT.size <= 1000000000000 := by decide
theorem fT1 : (⟨⟨[49,114,109,100,105,114,58,32,110,101,119,58,32,50,48,10]⟩⟩ : ByteArray).size <= 1000000000000 := by decide
theorem strSame (a:ByteArray) : (!strEq a a) = false := by rw [strEq_iff.2 rfl];rfl
theorem s_FilesMake {σ : H} (x:Sl) (ns:List Int) (hx:RowsAt σ 1 (ns.map fun n => [Value.int .u8 n]) x) (hr:∀ n ∈ ns,(0:Int) <= n /\ n <= 255) {K : KH} (hK:∀ σ',Gr σ σ' -> K (.bool true) σ') :
 callW Tryz.prog 7 [.slice x.base x.len x.cap] K σ := by
 refine c7 _ ?_
 unfold g7
 refine call_i (s_begun19 (qi := 60) (qb := 100) (by decide) ?_)
 intro bf br σ1 B1 F1 O1
 obtain ⟨i0,d0⟩ := bg_chain (qi := 60) (qb := 100) (by decide)
 have p0 : Pot 8 (bgT 60 100) := Pot.of i0 d0
 have hxl : x.len = ns.length := by have := hx.1;simpa using this
 have hlw := law_mk (rM_ok ns) (by rw [rM_len];omega)
 rw [bg_eq] at F1 p0 hlw
 have hok := rM_ok ns
 have hlen := rM_len ns
 have hat : ∀ i,i < (rM ns).length -> ∃ n,ns[i]? = some n /\ (rM ns).take (i + 1) = (rM ns).take i ++ [chM n] := by
  intro i hi
  obtain ⟨n,hn⟩ : ∃ n,ns[i]? = some n := ⟨_,List.getElem?_eq_getElem (by omega)⟩
  refine ⟨n,hn,?_⟩
  have : (rM ns)[i]? = some (chM n) := by
   unfold rM
   rw [List.getElem?_map,List.getElem?_take_of_lt (by omega),hn];rfl
  rw [List.take_add_one,this];rfl
 generalize hrr : rM ns = r at hlw hok hlen hat
 have hl8 : r.length <= 8 := by omega
 (refine app_of rfl ?_;try dsimp only)
 refine br_f rfl (loop_i ?_)
 intro R hR
 have key : ∀ (k i:Nat) (all:Sl) (τ:H),k + i = r.length -> RNew σ1 τ 9 1 (strRows (aM r i)) all -> R x (some ⟨bf,0,none⟩) (pB (r.take i)) all (i:Int) τ := by
  intro k
  induction k with
  | succ k ih =>
   intro i all τ hk hN
   obtain ⟨n,hn,htk⟩ := hat i (by omega)
   refine hR _ _ _ _ _ _ (j_i (fun j => j x (some ⟨bf,0,none⟩) (pB (r.take i)) all (i:Int) true τ) ?_ ?_)
   ·refine br_t rfl (RNew.app1 el_strsF hN rfl rfl (by rw [strRows_len,aM_len];omega) ?_)
    intro y τ2 hN2 _ _
    have hps := pB_size (r.take i)
    rw [List.length_take] at hps
    have hN2 : RNew σ1 τ2 9 1 (strRows (aM r (i + 1))) y := by
     have e : strRows (aM r (i + 1)) = strRows (aM r i) ++ [[.string (pB (r.take i))]] := by rw [<- aM_snoc];unfold strRows;rw [List.map_append];rfl
     rw [e];exact hN2
    refine if_i (by show _ + 1 <= _;omega) ?_
    obtain ⟨g,o,a1,a2⟩ := u8row (hx.gr (O1.1.trans hN2.1)) hn
    rw [a1]
    refine ptr_i (if_i ⟨by omega,by omega⟩ (rd_I (by rw [Int.toNat_natCast];exact a2) (if_i (by decide) ?_)))
    rw [chM_u8 (hr n (List.mem_of_getElem? hn))]
    refine al_i ?_;intro b22 τ3 g3 e3 n3
    refine bstr_i und_bytesF und_u8F und_string (l := [chM n]) (x := ⟨some ⟨b22,0,none⟩,1,1⟩) ⟨rfl,.inr ⟨b22,0,_,_,_,rfl,e3,fun i r hr => ?_⟩⟩ ?_
    ·match i,hr with
     | 0,hr => cases hr;exact ⟨rfl,rfl⟩
     | i + 1,hr => simp [brows] at hr
    ·refine if_i (by rw [ByteArray.size_append];show _ + 1 + 1 <= _;omega) ?_
     rw [pB_snoc,<- htk,wrap_id (x := (i:Int) + 1) (by omega) (by omega),show (i:Int) + 1 = ((i + 1 : Nat) : Int) from by omega]
     exact ih (i + 1) y τ3 (by omega) (hN2.gr g3)
   ·intro j hj
    refine br_t (by rw [decide_eq_true_eq];omega) ?_
    rw [show decide ((i:Int) < 8) = true from by rw [decide_eq_true_eq];omega]
    exact hj
  | zero =>
   intro i all τ hk hN
   have hi : i = r.length := by omega
   subst hi
   rw [List.take_length]
   refine hR _ _ _ _ _ _ (j_i (fun j => j x (some ⟨bf,0,none⟩) (pB r) all ((r.length:Nat) : Int) false τ) ?_ ?_)
   case refine_2 =>
    intro j hj
    by_cases h : ((r.length:Nat) : Int) < ((x.len:Nat) : Int)
    ·refine br_t (decide_eq_true h) ?_
     rw [show decide (((r.length:Nat) : Int) < 8) = false from by rw [decide_eq_false_iff_not];omega]
     exact hj
    ·exact br_f (decide_eq_false h) hj
   refine br_f rfl (RNew.app1 el_strsF hN rfl rfl (by rw [strRows_len,aM_len];omega) ?_)
   intro all2 σ2 hN2 _ _
   have hN2 : RNew σ1 σ2 9 1 (strRows (aM r (r.length + 1))) all2 := by
    have e : strRows (aM r (r.length + 1)) = strRows (aM r r.length) ++ [[.string (pB r)]] := by
     have := aM_snoc r r.length
     rw [List.take_length] at this
     rw [<- this];unfold strRows;rw [List.map_append];rfl
    rw [e];exact hN2
   clear hN
   have F2 := F1.gr hN2.1
   refine call_i (s_Used F2 ?_)
   (refine app_of rfl ?_;try dsimp only)
   refine al_i ?_;intro b28 σ3 g3 e3 n3
   refine st_i2 e3 sz_Quota (by rfl) (by rfl) ?_;intro σ4 p4
   have g4 : Gr σ2 σ4 := g3.putF p4 n3
   have F4 := F2.gr g4
   have k28 : σ4 b28 = some (.cells ⟨[.int .i64 7,.int .i64 10]⟩ 25 (0,0)) := p4.same
   have n28 : ¬ B1 b28 := F2.fresh n3
   have hN4 := hN2.gr g4
   obtain ⟨τ,O4,hτ⟩ := off_all σ4 B1
   have w28 := hτ b28 _ k28 n28
   have hall : RowsAt τ 1 (strRows (aM r (r.length + 1))) all2 := hN4.at.keep fun g o ob hb ho => hτ g ob ho fun hg => by
    obtain ⟨_,_,⟨q,_⟩ | ⟨g',cur,q1,_⟩⟩ := hN4.2.1
    ·rw [q] at hb;cases hb
    ·have e := q1.symm.trans hb
     have e2 : g' = g := by injection e with e;injection e
     subst e2
     exact F1.fresh (hN4.2.2 g' q1) hg
   have hal := sLen hall
   rw [aM_len] at hal
   have gτ : Gr σ τ := gr_of fun c o hc => hτ c o (hN4.1.get (O1.get hc)) (O1.2 c o hc)
   clear p4 e3 g3 g4 hN2 hN4 F2
   have hps := pB_size r
   have hps2 := pB2_size r
   have h1000 : (pB r).size <= 1000 := by omega
   refine j_i (fun j => ∀ σ' B',FsAt σ' bf (EN (8 + (r.length:Int)) (nB r)) B' -> Pot 8 (EN (8 + (r.length:Int)) (nB r)) -> Off τ σ' B' -> j (some ⟨bf,0,none⟩) (pB r) all2 (some ⟨b28,0,none⟩) false σ') ?_ ?_
   ·intro σ5 B5 F5 p5 O5
    refine br_f rfl (al_i ?_);intro b35 σ6 g6 e6 n6
    refine call_i (c_mkdir (A := EN (8 + (r.length:Int)) (nB r)) (F5.gr g6) ((O5.gr g6).add e6 (F5.fresh n6)) (arg1 h1000) p5 (by decide) (by
     rw [law_six hok hl8,ByteArray.size_append]
     have := failT_size mkN (pB r) (e := 6) ⟨by decide,by decide⟩
     have h1 : mkN.size = 5 := rfl
     have h2 : (⟨⟨[49]⟩⟩ : ByteArray).size = 1 := rfl
     omega) ?_)
    rw [law_six hok hl8]
    intro σ7 B7 F7 s7 p7
    have O7 := (O5.gr g6).sep s7
    refine app_S (if_i (by show 8 + (pB r).size <= _;omega) (if_i (by rw [ByteArray.size_append];show 8 + (pB r).size + 4 <= _;omega) ?_))
    rw [six_txt]
    refine br_f (strSame _) (loop_i ?_)
    intro R2 hR2
    rw [hal,wrap_id (by omega) (by omega)]
    have key2 : ∀ (i:Nat) (σ':H) (B':Nat -> Prop),i <= r.length + 1 -> FsAt σ' bf (stM r.length r i) B' -> (Inv (stM r.length r i) /\ Bd (8 + 1048576) (stM r.length r i)) -> Off τ σ' B' -> R2 (some ⟨bf,0,none⟩) all2 (some ⟨b28,0,none⟩) ((i:Int) - 1) σ' := by
     intro i
     induction i with
     | zero =>
      intro σ' B' _ F' I' O'
      refine hR2 _ _ _ _ _ (br_f (by decide) (ptr_i (rd_G (rdA_of' (O'.get w28) (by rfl)) ?_)))
      (refine app_of rfl ?_;try dsimp only)
      refine call_i (s_Used F' ?_)
      (refine app_of rfl ?_;try dsimp only)
      refine and_i (rdA_of' (O'.get w28) (by rfl)) (br_t (by rfl) (call_i (s_works19 (app_B (hK σ' (gτ.trans O'.1))))))
     | succ j ihj =>
      intro σ' B' hj F' I' O'
      rw [show (((j + 1 : Nat) : Int) - 1) = (j:Int) from by omega]
      refine hR2 _ _ _ _ _ (br_t (by rw [decide_eq_true_eq];omega) (j_i (fun jj => ∀ σ'' B'',FsAt σ'' bf (stM r.length r j) B'' -> (Inv (stM r.length r j) /\ Bd (8 + 1048576) (stM r.length r j)) -> Off τ σ'' B'' -> jj (some ⟨bf,0,none⟩) all2 (some ⟨b28,0,none⟩) (j:Int) false σ'') ?_ ?_))
      ·intro σ8 B8 F8 I8 O8
       refine br_f rfl ?_
       rw [wrap_id (x := (j:Int) - 1) (by omega) (by omega)]
       exact ihj σ8 B8 (by omega) F8 I8 O8
      ·intro jj hjj
       cases j with
       | zero =>
        have hla := law_lastn hl8
        obtain ⟨g,o,a1,a2,a3⟩ := sRow (hall.gr O'.1) (aM_at (i := 0) (by omega))
        refine br_f (by decide) ?_
        rw [a1]
        refine ptr_i (if_i ⟨by decide,by omega⟩ (rd_S a3 ?_))
        refine al_i ?_;intro b61 σ9 g9 e9 n9
        refine call_i (c_rmdir (A := EN (8 + (r.length:Int)) []) (F'.gr g9) ((O'.gr g9).add e9 (F'.fresh n9)) (arg1 (by show (pB []).size <= 1000;decide)) I' (by decide) (by rw [show callP (EN (8 + (r.length:Int)) []) rmN [pB (r.take 0)] = _ from hla];exact zT1) ?_)
        rw [show callP (EN (8 + (r.length:Int)) []) rmN [pB (r.take 0)] = _ from hla]
        intro σ8 B8 F8 s8 I8
        refine app_S ?_
        rw [show (!strEq Wk.zeroT ⟨⟨[48]⟩⟩) = false from strSame Wk.zeroT]
        exact hjj σ8 B8 F8 I8 ((O'.gr g9).sep s8)
       | succ j =>
        have hne : r.take (j + 1) ≠ [] := by
         intro e
         have := congrArg List.length e
         rw [List.length_take,List.length_nil] at this
         omega
        obtain ⟨g,o,a1,a2,a3⟩ := sRow (hall.gr O'.1) (aM_at (i := 0) (by omega))
        refine br_t (by rw [decide_eq_true_eq];omega) ?_
        rw [a1]
        refine ptr_i (if_i ⟨by decide,by omega⟩ (rd_S a3 ?_))
        refine al_i ?_;intro b51 σ9 g9 e9 n9
        have hfu := law_full (m := 8 + (r.length:Int)) hne
        refine call_i (c_rmdir (A := EN (8 + (r.length:Int)) (nB (r.take (j + 1)))) (F'.gr g9) ((O'.gr g9).add e9 (F'.fresh n9)) (arg1 (by show (pB []).size <= 1000;decide)) I' (by decide) (by rw [show callP (EN (8 + (r.length:Int)) (nB (r.take (j + 1)))) rmN [pB (r.take 0)] = _ from hfu,full_txt];exact fT1) ?_)
        rw [show callP (EN (8 + (r.length:Int)) (nB (r.take (j + 1)))) rmN [pB (r.take 0)] = _ from hfu,full_txt]
        intro σ8 B8 F8 s8 I8
        have O8 := (O'.gr g9).sep s8
        refine app_S (br_f (strSame _) ?_)
        obtain ⟨g',o',a1',a2',a3'⟩ := sRow (hall.gr O8.1) (aM_at (i := j + 1) (by omega))
        have hba : all2.base = some ⟨g,o,none⟩ := a1
        rw [hba] at a1'
        injection a1' with a1'
        injection a1' with u1 u2
        subst u1;subst u2
        refine ptr_i (if_i ⟨by omega,by omega⟩ (rd_S (by rw [Int.toNat_natCast];exact a3') ?_))
        refine al_i ?_;intro b56 σ10 g10 e10 n10
        have hrm := law_rmj (m := 8 + (r.length:Int)) hok hl8 (j := j) (by omega)
        have hpz := pB_size (r.take (j + 1))
        rw [List.length_take] at hpz
        refine call_i (c_rmdir (A := EN (8 + (r.length:Int)) (nB (r.take (j + 1)))) (F8.gr g10) ((O8.gr g10).add e10 (F8.fresh n10)) (arg1 (by omega)) I' (by decide) (by rw [hrm];exact zT1) ?_)
        rw [hrm]
        intro σ11 B11 F11 s11 I11
        refine app_S ?_
        rw [show (!strEq Wk.zeroT ⟨⟨[48]⟩⟩) = false from strSame Wk.zeroT]
        exact hjj σ11 B11 F11 I11 ((O8.gr g10).sep s11)
    have e1 : stM r.length r (r.length + 1) = EN (8 + (r.length:Int)) (nB r) := by
     show EN (8 + (r.length:Int)) (nB (r.take r.length)) = _
     rw [List.take_length]
    have := key2 (r.length + 1) σ7 B7 (Nat.le_refl _) (by rw [e1];exact F7) (by rw [e1];exact ⟨p7.inv,p7.bd'⟩) O7
    exact this
   ·intro j hj
    refine al_i ?_;intro b71 σ5 g5 e5 n5
    refine call_i (c_mkdir (A := BG 7) (F4.gr g5) ((O4.gr g5).add e5 (F4.fresh n5)) (arg2 (by decide) h1000) p0 (by decide) (by rw [show ([(⟨⟨[45,112]⟩⟩ : ByteArray),pB r]) = [dP,pB r] from rfl,hlw];exact zT1) ?_)
    rw [show ([(⟨⟨[45,112]⟩⟩ : ByteArray),pB r]) = [dP,pB r] from rfl,hlw]
    intro σ6 B6 F6 s6 p6
    have O6 := (O4.gr g5).sep s6
    refine app_S (br_f (strSame Wk.zeroT) (rd_I (rdC_of (O6.get w28) (by rfl)) ?_))
    refine call_i (s_Used F6 ?_)
    (refine app_of rfl ?_;try dsimp only)
    rw [EN_ui]
    refine and_i (rdC_of (O6.get w28) (by rfl)) ?_
    have hw : IntKind.i64.wrap (7 + ((all2.len:Nat) : Int)) = 8 + (r.length:Int) := by rw [wrap_id (by omega) (by omega)];omega
    rw [hw]
    refine br_f (by rw [bne_eq_false_iff_eq]) (if_i (by show _ + 2 <= _;omega) ?_)
    rw [pB2_eq]
    refine al_i ?_;intro b76 σ7 g7 e7 n7
    have hag := law_again (m := 8 + (r.length:Int)) hok hl8
    refine call_i (c_mkdir (A := EN (8 + (r.length:Int)) (nB r)) (F6.gr g7) ((O6.gr g7).add e7 (F6.fresh n7)) (arg2 (by decide) (by omega)) p6 (by decide) (by rw [show ([(⟨⟨[45,112]⟩⟩ : ByteArray),pB2 r]) = [dP,pB2 r] from rfl,hag];exact zT1) ?_)
    rw [show ([(⟨⟨[45,112]⟩⟩ : ByteArray),pB2 r]) = [dP,pB2 r] from rfl,hag]
    intro σ8 B8 F8 s8 p8
    have O8 := (O6.gr g7).sep s8
    refine app_S (br_f (strSame Wk.zeroT) (rd_I (rdC_of (O8.get w28) (by rfl)) ?_))
    refine call_i (s_Used F8 ?_)
    (refine app_of rfl ?_;try dsimp only)
    rw [EN_ui]
    refine and_i (rdC_of (O8.get w28) (by rfl)) ?_
    rw [hw,show ((8 + (r.length:Int)) != (8 + (r.length:Int))) = false from by rw [bne_eq_false_iff_eq]]
    exact hj σ8 B8 F8 p8 O8
 exact key r.length 0 ⟨none,0,0⟩ σ1 (by omega) (RNew.nil _ _ _)
end Go.Proofs.YtbdlkofldmhoaaaGreatDoor

